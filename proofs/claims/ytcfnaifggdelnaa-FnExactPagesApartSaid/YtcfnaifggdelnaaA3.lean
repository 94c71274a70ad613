/- What is proved here: contracts of functions that InUse, Progress and Quiet reach. -/
import Derived.Test.YtcfnaifggdelnaaA2
import Derived.KernelRfl
namespace Go.Proofs.Ytcfnaifggdelnaa.E
open Go
set_option maxRecDepth 100000
set_option linter.unusedVariables false
set_option linter.unusedSimpArgs false

/-! Small ones. -/



/-! Copies by append. -/



noncomputable def ctrA1 : Ctrs := ctrX
theorem ctrA1_ok : ∀ f run, aget ctrA1 f = some run → Holds Try.prog f run := ctrX_ok


noncomputable def ctrA2 : Ctrs := ctrA1
theorem ctrA2_ok : ∀ f run, aget ctrA2 f = some run → Holds Try.prog f run := ctrA1_ok


noncomputable def ctrA3 : Ctrs := ctrA2
theorem ctrA3_ok : ∀ f run, aget ctrA3 f = some run → Holds Try.prog f run := ctrA2_ok



/-- The pages of a table that are mapped. -/
def mapped (l : List Slot) (n : Int) : Int := match l with
  | [] => n
  | s :: l => mapped l (bif ine s.Page (-1) then wadd .i64 n 1 else n)

theorem goL_mapped {ρ : Type} (K : Int → Option ρ) : ∀ (l : List Slot) (i : Nat) (n : Int),
    goL (fun _ (s : Slot) (n : Int) k => bif ine s.Page (-1) then k (wadd .i64 n 1) else k n) K l i n = K (mapped l n)
  | [], _, _ => rfl
  | s :: l, i, n => by
    simp only [goL, mapped]
    cases ine s.Page (-1) <;> exact goL_mapped K l _ _


noncomputable def ctrA4 : Ctrs := ctrA3
theorem ctrA4_ok : ∀ f run, aget ctrA4 f = some run → Holds Try.prog f run := ctrA3_ok


def inUse (h : Host) (m : Int) : Int := bif hasB m (ln h.Mons) then mapped (ix h.Mons m (Ty.dflt .mon)).Outer 0 else 0
noncomputable def ctrA5 : Ctrs := ctrA4
theorem ctrA5_ok : ∀ f run, aget ctrA5 f = some run → Holds Try.prog f run := ctrA4_ok


noncomputable def ctrY : Ctrs := ctrA5
theorem ctrY_ok : ∀ f run, aget ctrY f = some run → Holds Try.prog f run := ctrA5_ok

/-! The beginning of a law: what was read is of a bounded size. -/

theorem szHost_pos {h : Host} {n : Int} (h0 : 0 ≤ n) (h1 : n ≤ 1048576) (hp : ilt (l_szHost h n) 0 = false) : SmHost h ∧ 0 ≤ l_szHost h n ∧ l_szHost h n ≤ 1048576 := by
  have hp' : ¬ l_szHost h n < 0 := of_decide_eq_false hp
  obtain ⟨a, b⟩ := l_szHost_S h n h0 h1
  exact ⟨b (by omega), by omega, by omega⟩
theorem szHost_c0 (h : Host) : l_szHost_c h 1048576 = true := pc_true (by omega)
theorem toHost_c {h : Host} (hs : SmHost h) : l_toHost_c h = true := pc_true hs
theorem eqHost_c (h : Host) : l_eqHost_c h h = true := pc_true rfl
theorem toHost_id (h : Host) : l_toHost h = h := rfl
theorem eqHost_t (h : Host) : l_eqHost h h = true := rfl

end Go.Proofs.Ytcfnaifggdelnaa.E
