/- What is proved here: the evaluator is right of this translation. -/
import Derived.Test.YtcfnaifggdelnaaC1
import Derived.KernelRfl
namespace Go.Proofs.Ytcfnaifggdelnaa.E
open Go

theorem chk_all : (List.range tyMax).all (chkTy Try.prog) = true := by kernel_rfl
theorem chk_eq : eqTab.all (fun T => !Nat.blt T tyMax || chkEq Try.prog T) = true := by kernel_rfl
theorem chk_name : Try.prog.funcs.toList.all (fun fn => !(fn.name == "runtime.NumGoroutine")) = true := by kernel_rfl

theorem chk_eqs (T : TypeId) (h0 : eqTab.contains T = true) (hT : T < tyMax) : chkEq Try.prog T = true := by
  have h1 : T ∈ eqTab := by
    revert h0
    generalize eqTab = l
    intro h0
    simpa using h0
  have hb : Nat.blt T tyMax = true := by rw [Nat.blt_eq]; exact hT
  have h2 := List.all_eq_true.1 chk_eq T h1
  rw [hb, Bool.not_true, Bool.false_or] at h2
  exact h2

theorem cfg_ok (ctr : FuncId → Option (List AV → Option (Bool × List AV))) (mct : FuncId → Option (CV → Int → Option (Bool × CV × Int))) (pct : FuncId → Option (List Bool × (List CV → List AV → Option (Bool × List CV × List AV)))) (tct : FuncId → Option (List Bool × Option (Nat × Nat × List (List Nat)) × (List AV → Option (Bool × List AV)))) : CfgOk (cfgQ ctr mct pct tct) := by
  have h1 : (cfgQ ctr mct pct tct).P = Try.prog := by simp only [cfgQ]
  have h2 : ∀ T, (cfgQ ctr mct pct tct).sty T = below T (sliceElem Try.prog T) := fun _ => by simp only [cfgQ]
  have h3 : ∀ T, (cfgQ ctr mct pct tct).cty T = below T (typeCells Try.prog 4 T) := fun _ => by simp only [cfgQ]
  have h4 : ∀ T f, (cfgQ ctr mct pct tct).fof T f = fieldOff Try.prog T f := fun _ _ => by simp only [cfgQ]
  have h5 : ∀ T, (cfgQ ctr mct pct tct).eqt T = eqTab.contains T := fun _ => by simp only [cfgQ]
  refine cfgOk_of h1 h2 h3 h4 chk_all ?_
  intro T h hT
  rw [h5] at h
  exact chk_eqs T h hT

theorem name_ok (ctr : FuncId → Option (List AV → Option (Bool × List AV))) (mct : FuncId → Option (CV → Int → Option (Bool × CV × Int))) (pct : FuncId → Option (List Bool × (List CV → List AV → Option (Bool × List CV × List AV)))) (tct : FuncId → Option (List Bool × Option (Nat × Nat × List (List Nat)) × (List AV → Option (Bool × List AV)))) : NameOk (cfgQ ctr mct pct tct) := by
  refine ⟨fun f fn hf => ?_⟩
  have := List.all_eq_true.1 chk_name fn (by
    have : Try.prog.funcs[f]? = some fn := hf
    rw [← Array.getElem?_toList] at this
    exact List.mem_of_getElem? this)
  simpa using this

theorem engQ_ok {ctr : FuncId → Option (List AV → Option (Bool × List AV))} {mct : FuncId → Option (CV → Int → Option (Bool × CV × Int))} {pct : FuncId → Option (List Bool × (List CV → List AV → Option (Bool × List CV × List AV)))} {tct : FuncId → Option (List Bool × Option (Nat × Nat × List (List Nat)) × (List AV → Option (Bool × List AV)))}
    (h : ∀ f run, ctr f = some run → Holds Try.prog f run) (hm : ∀ f run, mct f = some run → HoldsI Try.prog f run) (hp : ∀ f own run, pct f = some (own, run) → HoldsP Try.prog f own run) (ht : ∀ f own inp run, tct f = some (own, inp, run) → HoldsT Try.prog f own inp run) : EngOk (cfgQ ctr mct pct tct) := by
  have hC := cfg_ok ctr mct pct tct
  have hH : CtrOk (cfgQ ctr mct pct tct) := ⟨h⟩
  have hG := graft_ok hC ⟨hm⟩ ⟨hp⟩ ⟨ht⟩
  have hN := name_ok ctr mct pct tct
  exact ⟨hC, hH, hG, hN, draw_ok hC hH hG hN⟩

theorem eng_ok {ctr : FuncId → Option (List AV → Option (Bool × List AV))} {mct : FuncId → Option (CV → Int → Option (Bool × CV × Int))} (h : ∀ f run, ctr f = some run → Holds Try.prog f run) (hm : ∀ f run, mct f = some run → HoldsI Try.prog f run) : EngOk (cfgOf ctr mct) :=
  engQ_ok h hm (fun f own run h => by cases h) (fun f own inp run h => by cases h)

end Go.Proofs.Ytcfnaifggdelnaa.E
