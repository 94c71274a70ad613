/- What is proved here: contracts of what Quiet and Progress reach. -/
import Derived.Test.YtaccllfkapkahaaGreatA3
import Derived.KernelRfl
namespace Go.Proofs.YtaccllfkapkahaaGreat.E
open Go
set_option maxRecDepth 100000
set_option linter.unusedVariables false
set_option linter.unusedSimpArgs false

def canRun (g : Guest) : Bool := bif (ieq g.Exit.Kind 0 && (ieq g.Exit.Page 0 && (beqb g.Exit.Write false && ieq g.Exit.N 0))) then !g.Halted else false

noncomputable def ctrB1 : Ctrs := ctrY
theorem ctrB1_ok : ∀ f run, aget ctrB1 f = some run → Holds Tryz.prog f run := ctrY_ok


/-- The places of those that can run. -/
def runGo : List Guest → Nat → List Int
  | [], _ => []
  | g :: l, i => bif canRun g then (i : Int) :: runGo l (i + 1) else runGo l (i + 1)

theorem runGo_len : ∀ (l : List Guest) (i : Nat), (runGo l i).length ≤ l.length
  | [], _ => Nat.le_refl _
  | g :: l, i => by
    have := runGo_len l (i + 1)
    simp only [runGo]
    cases canRun g <;> simp <;> omega

theorem goL_run {ρ : Type} (K : List Int → Option ρ) : ∀ (l : List Guest) (i : Nat) (acc : List Int), acc.length + l.length ≤ 2147483648 →
    goL (fun i g acc k => bif canRun g then (bif few (ln (ap acc [(i : Int)])) then k (ap acc [(i : Int)]) else none) else k acc) K l i acc = K (acc ++ runGo l i)
  | [], i, acc, _ => by simp [goL, runGo]
  | g :: l, i, acc, h => by
    simp only [List.length_cons] at h
    simp only [goL, runGo]
    cases canRun g
    · simp only [cF]
      exact goL_run K l (i + 1) acc (by omega)
    · simp only [cT]
      rw [few_ln (by simp [ap]; omega), cT, goL_run K l (i + 1) _ (by simp [ap]; omega)]
      simp [ap]

noncomputable def ctrB2 : Ctrs := ctrB1
theorem ctrB2_ok : ∀ f run, aget ctrB2 f = some run → Holds Tryz.prog f run := ctrB1_ok


noncomputable def ctrB3 : Ctrs := ctrB2
theorem ctrB3_ok : ∀ f run, aget ctrB3 f = some run → Holds Tryz.prog f run := ctrB2_ok


def quiet (h : Host) : Bool := !(h.Mons.any fun m => m.Guests.any canRun)

theorem runGo_any : ∀ (l : List Guest) (i : Nat), igt (ln (runGo l i)) 0 = l.any canRun
  | [], _ => rfl
  | g :: l, i => by
    have ih := runGo_any l (i + 1)
    simp only [runGo, List.any_cons]
    cases canRun g
    · simp only [cF, Bool.false_or]
      exact ih
    · simp only [cT, Bool.true_or, igt, ln]
      exact decide_eq_true (by simp only [List.length_cons]; omega)



/-! Progress. -/

def differs (x y : Guest) : Bool :=
  ine x.A y.A || (ine x.Pc y.Pc || (ine x.Pending y.Pending || ((!(ieq x.Exit.Kind y.Exit.Kind && (ieq x.Exit.Page y.Exit.Page && (beqb x.Exit.Write y.Exit.Write && ieq x.Exit.N y.Exit.N)))) || ((!beqb x.Halted y.Halted) || ine (ln x.Seen) (ln y.Seen)))))

def progress (a b : Host) (m g : Int) : Bool :=
  bif hasB g (ln (monOf a m).Guests) then (bif hasB g (ln (monOf b m).Guests) then differs (ix (monOf a m).Guests g (Ty.dflt .guest)) (ix (monOf b m).Guests g (Ty.dflt .guest)) else false) else false

theorem hasB_zero (g : Int) : hasB g (ln ([] : List Guest)) = false := decide_eq_false (by simp [ln])


noncomputable def ctrB4 : Ctrs := ctrB3
theorem ctrB4_ok : ∀ f run, aget ctrB4 f = some run → Holds Tryz.prog f run := ctrB3_ok

noncomputable def ctrZ : Ctrs := ctrB4
theorem ctrZ_ok : ∀ f run, aget ctrZ f = some run → Holds Tryz.prog f run := ctrB4_ok
end Go.Proofs.YtaccllfkapkahaaGreat.E
