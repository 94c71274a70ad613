/- What is proved here: FnTakenAway: for every input the law returns true, and each argument reads afterwards as it read before. No conditions. -/
import Derived.Test.YtgjpbkhaaiffkaaGreatW7
namespace Go.Proofs.YtgjpbkhaaiffkaaGreat.E
open Go
set_option linter.constructorNameAsVariable false
set_option linter.unusedVariables false
set_option maxRecDepth 100000
set_option linter.unusedSimpArgs false
set_option linter.unusedSectionVars false
noncomputable section
section
open Go Go.ChangeShapes Go.WideShapes Go.ChangeAt
abbrev PP:=Tryz.pinned.checked.prog
abbrev cc:=Rows.fnTakenAwayRow
abbrev ss:=Rows.fnTakenAwaySpec
theorem jf1:cc.wf (OpenSpec.ofChange ss)=true:=by kernel_rfl
theorem jf2:laidOutB PP=true:=by kernel_rfl
theorem jf3:mapsRowed PP=true:=by kernel_rfl
theorem jf4:Tryz.f4.params.all (PP.readableRec ·)=true:=by kernel_rfl
theorem jf5:namedTie PP cc.named ss.vars=true:=by kernel_rfl
theorem jf6:(cc.inPlace==PP.inPlace 4)=true:=by kernel_rfl
theorem jf7:(cc.unfollowed==PP.unfollowed 4)=true:=by kernel_rfl
theorem jf8:(cc.recurses==PP.recurses 4)=true:=by kernel_rfl
theorem jf9:(cc.named==PP.varsNamed 4)=true:=by kernel_rfl
theorem z9j:(cc.lifted==PP.liftsFinal)=true:=by kernel_rfl
theorem z9k:PP.stopsHeard=true:=by kernel_rfl
theorem z9l:PP.mayEnter=true:=by kernel_rfl
theorem z9m:(cc.plainKeys==PP.plainKeys)=true:=by kernel_rfl
theorem z9n:(PP.make==some cc.make)=true:=by kernel_rfl
theorem zRN:joinedFacts PP 4 Tryz.f4 ss cc=true:=by unfold joinedFacts;simp only[qE];(repeat' apply And.intro);all_goals first|with_reducible exact jf1|with_reducible exact jf2|with_reducible exact jf3|with_reducible exact jf4|with_reducible exact jf5|with_reducible exact jf6|with_reducible exact jf7|with_reducible exact jf8|with_reducible exact jf9|with_reducible exact z9j|with_reducible exact z9k|with_reducible exact z9l|with_reducible exact z9m|with_reducible exact z9n|kernel_rfl
theorem said_fnTakenAway:Rows.FnTakenAwaySaid :=
 OpenClaim.holds_of_wide 4 Tryz.f4 rfl rfl rfl rfl rfl rfl rfl ⟨rfl,rfl,rfl,rfl,rfl⟩ rfl rfl rfl rfl rfl (by kernel_rfl) Tryz.func4 zRN
  (qD (by kernel_rfl)) (by unfold Func.isWrapper;first|(rw [if_pos (by decide +kernel)];kernel_rfl)|(rw [if_neg (by decide +kernel)];exact⟨rfl,rfl⟩))
  (λc a H b _=>zxD c a H b)
end
end
end Go.Proofs.YtgjpbkhaaiffkaaGreat.E
