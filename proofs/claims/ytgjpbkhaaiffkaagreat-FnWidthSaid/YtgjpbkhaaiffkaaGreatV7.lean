/- What is proved here: FnWidth: for every input the law returns true, and each argument reads afterwards as it read before. No conditions. -/
import Derived.Test.YtgjpbkhaaiffkaaGreatV6
namespace Go.Proofs.YtgjpbkhaaiffkaaGreat.E
open Go
set_option linter.constructorNameAsVariable false
set_option linter.unusedVariables false
set_option maxRecDepth 100000
set_option linter.unusedSimpArgs false
set_option linter.unusedSectionVars false
noncomputable section
section
open Go Go.ChangeShapes Go.WideShapes Go.ChangeAt
abbrev PP:=Tryz.pinned.checked.prog
abbrev cc:=Rows.fnWidthRow
abbrev ss:=Rows.fnWidthSpec
theorem jf1:cc.wf (OpenSpec.ofChange ss)=true:=by kernel_rfl
theorem jf2:laidOutB PP=true:=by kernel_rfl
theorem jf3:mapsRowed PP=true:=by kernel_rfl
theorem jf4:Tryz.f5.params.all (PP.readableRec ·)=true:=by kernel_rfl
theorem jf5:namedTie PP cc.named ss.vars=true:=by kernel_rfl
theorem jf6:(cc.inPlace==PP.inPlace 5)=true:=by kernel_rfl
theorem jf7:(cc.unfollowed==PP.unfollowed 5)=true:=by kernel_rfl
theorem jf8:(cc.recurses==PP.recurses 5)=true:=by kernel_rfl
theorem jf9:(cc.named==PP.varsNamed 5)=true:=by kernel_rfl
theorem z6d:(cc.lifted==PP.liftsFinal)=true:=by kernel_rfl
theorem z6e:PP.stopsHeard=true:=by kernel_rfl
theorem z6f:PP.mayEnter=true:=by kernel_rfl
theorem z6g:(cc.plainKeys==PP.plainKeys)=true:=by kernel_rfl
theorem z6h:(PP.make==some cc.make)=true:=by kernel_rfl
theorem zP4:joinedFacts PP 5 Tryz.f5 ss cc=true:=by unfold joinedFacts;simp only[qE];(repeat' apply And.intro);all_goals first|with_reducible exact jf1|with_reducible exact jf2|with_reducible exact jf3|with_reducible exact jf4|with_reducible exact jf5|with_reducible exact jf6|with_reducible exact jf7|with_reducible exact jf8|with_reducible exact jf9|with_reducible exact z6d|with_reducible exact z6e|with_reducible exact z6f|with_reducible exact z6g|with_reducible exact z6h|kernel_rfl
theorem said_fnWidth:Rows.FnWidthSaid :=
 OpenClaim.holds_of_wide 5 Tryz.f5 rfl rfl rfl rfl rfl rfl rfl ⟨rfl,rfl,rfl,rfl,rfl⟩ rfl rfl rfl rfl rfl (by kernel_rfl) Tryz.func5 zP4
  (qD (by kernel_rfl)) (by unfold Func.isWrapper;first|(rw [if_pos (by decide +kernel)];kernel_rfl)|(rw [if_neg (by decide +kernel)];exact⟨rfl,rfl⟩))
  (λos started H enc _=>zEV os started H enc)
end
end
end Go.Proofs.YtgjpbkhaaiffkaaGreat.E
