/- What is proved here: contracts of what Quiet and Progress reach. -/
import Derived.Test.YtdbdlamkkkdjhaaGreatA3
import Derived.KernelRfl
namespace Go.Proofs.YtdbdlamkkkdjhaaGreat.E
open Go
set_option maxRecDepth 100000
set_option linter.unusedVariables false
set_option linter.unusedSimpArgs false

def canRun (g : Guest) : Bool := bif (ieq g.Exit.Kind 0 && (ieq g.Exit.Page 0 && (beqb g.Exit.Write false && ieq g.Exit.N 0))) then !g.Halted else false

def s_CanRun_c (_ : Guest) : Bool := true
@[reducible] def s_CanRun (g : Guest) : Bool := canRun g
noncomputable def run_s_CanRun : List AV → Option (Bool × List AV)
  | [.agg [.s .ins a0_0, .i .i64 a0_1, .i .i64 a0_2, .s .slot a0_3, .s .slot a0_4, .i .i64 a0_5, .i .i64 a0_6, .b a0_7, .i .i64 a0_8, .i .i64 a0_9, .i .i64 a0_10, .b a0_11, .i .i64 a0_12, .b a0_13, .s .int a0_14]] => some ((s_CanRun_c (⟨a0_0, a0_1, a0_2, a0_3, a0_4, ⟨a0_5, a0_6, a0_7⟩, a0_8, ⟨a0_9, a0_10, a0_11, a0_12⟩, a0_13, a0_14⟩ : Guest)), [.one (.b (s_CanRun (⟨a0_0, a0_1, a0_2, a0_3, a0_4, ⟨a0_5, a0_6, a0_7⟩, a0_8, ⟨a0_9, a0_10, a0_11, a0_12⟩, a0_13, a0_14⟩ : Guest)))])
  | _ => none

noncomputable def E_s_CanRun (N : Nat) (a0 : Guest) : Option Ans :=
  (bif (bif (ieq a0.Exit.Kind 0) then (bif (ieq a0.Exit.Page 0) then (bif (beqb a0.Exit.Write false) then (ieq a0.Exit.N 0) else false) else false) else false) then (some [(.one (.b (bif a0.Halted then false else true)))]) else (some [(.one (.b false))]))

theorem nf_s_CanRun (N : Nat) (a0 : Guest) : evalFn (cfgQ (aget ctrY) (aget mct0) (aget pct0) (aget tct0)) (tmsOf []) N 12 93 [.agg (Ty.cells .guest a0)] = E_s_CanRun N a0 := by kernel_rfl

theorem law_s_CanRun (a0 : Guest) (hb : AllB big [.agg (Ty.cells .guest a0)]) (hc : (s_CanRun_c a0) = true) : ∃ N, E_s_CanRun N a0 = some [.one (.b (s_CanRun a0))] := by
  refine ⟨0, ?_⟩
  unfold E_s_CanRun s_CanRun canRun
  cases ieq a0.Exit.Kind 0 <;> cases ieq a0.Exit.Page 0 <;> cases beqb a0.Exit.Write false <;> cases ieq a0.Exit.N 0 <;> simp
theorem holds_s_CanRun : Holds Tryz.prog 93 run_s_CanRun := by
  refine holds_of_eval (engQ_ok ctrY_ok mct0_ok pct0_ok tct0_ok) (fn_ok (by kernel_rfl)) ?_
  intro avs rs hr h
  have hb := allB_of_rep hr
  unfold run_s_CanRun at h
  split at h
  · rename_i a0_0 a0_1 a0_2 a0_3 a0_4 a0_5 a0_6 a0_7 a0_8 a0_9 a0_10 a0_11 a0_12 a0_13 a0_14
    obtain ⟨hc, rfl⟩ := some_pair h
    obtain ⟨N, hN⟩ := law_s_CanRun (⟨a0_0, a0_1, a0_2, a0_3, a0_4, ⟨a0_5, a0_6, a0_7⟩, a0_8, ⟨a0_9, a0_10, a0_11, a0_12⟩, a0_13, a0_14⟩ : Guest) hb hc
    exact ⟨tmsOf [], N, 12, (nf_s_CanRun N (⟨a0_0, a0_1, a0_2, a0_3, a0_4, ⟨a0_5, a0_6, a0_7⟩, a0_8, ⟨a0_9, a0_10, a0_11, a0_12⟩, a0_13, a0_14⟩ : Guest)).trans hN⟩
  · cases h

def i_CanRun_c (_ : Guest) : Bool := true
@[reducible] def i_CanRun (g : Guest) : Bool := canRun g
noncomputable def run_i_CanRun : List AV → Option (Bool × List AV)
  | [.agg [.s .ins a0_0, .i .i64 a0_1, .i .i64 a0_2, .s .slot a0_3, .s .slot a0_4, .i .i64 a0_5, .i .i64 a0_6, .b a0_7, .i .i64 a0_8, .i .i64 a0_9, .i .i64 a0_10, .b a0_11, .i .i64 a0_12, .b a0_13, .s .int a0_14]] => some ((i_CanRun_c (⟨a0_0, a0_1, a0_2, a0_3, a0_4, ⟨a0_5, a0_6, a0_7⟩, a0_8, ⟨a0_9, a0_10, a0_11, a0_12⟩, a0_13, a0_14⟩ : Guest)), [.one (.b (i_CanRun (⟨a0_0, a0_1, a0_2, a0_3, a0_4, ⟨a0_5, a0_6, a0_7⟩, a0_8, ⟨a0_9, a0_10, a0_11, a0_12⟩, a0_13, a0_14⟩ : Guest)))])
  | _ => none

noncomputable def E_i_CanRun (N : Nat) (a0 : Guest) : Option Ans :=
  (bif (bif (ieq a0.Exit.Kind 0) then (bif (ieq a0.Exit.Page 0) then (bif (beqb a0.Exit.Write false) then (ieq a0.Exit.N 0) else false) else false) else false) then (some [(.one (.b (bif a0.Halted then false else true)))]) else (some [(.one (.b false))]))

theorem nf_i_CanRun (N : Nat) (a0 : Guest) : evalFn (cfgQ (aget ctrY) (aget mct0) (aget pct0) (aget tct0)) (tmsOf []) N 12 114 [.agg (Ty.cells .guest a0)] = E_i_CanRun N a0 := by kernel_rfl

theorem law_i_CanRun (a0 : Guest) (hb : AllB big [.agg (Ty.cells .guest a0)]) (hc : (i_CanRun_c a0) = true) : ∃ N, E_i_CanRun N a0 = some [.one (.b (i_CanRun a0))] := by
  refine ⟨0, ?_⟩
  unfold E_i_CanRun i_CanRun canRun
  cases ieq a0.Exit.Kind 0 <;> cases ieq a0.Exit.Page 0 <;> cases beqb a0.Exit.Write false <;> cases ieq a0.Exit.N 0 <;> simp
theorem holds_i_CanRun : Holds Tryz.prog 114 run_i_CanRun := by
  refine holds_of_eval (engQ_ok ctrY_ok mct0_ok pct0_ok tct0_ok) (fn_ok (by kernel_rfl)) ?_
  intro avs rs hr h
  have hb := allB_of_rep hr
  unfold run_i_CanRun at h
  split at h
  · rename_i a0_0 a0_1 a0_2 a0_3 a0_4 a0_5 a0_6 a0_7 a0_8 a0_9 a0_10 a0_11 a0_12 a0_13 a0_14
    obtain ⟨hc, rfl⟩ := some_pair h
    obtain ⟨N, hN⟩ := law_i_CanRun (⟨a0_0, a0_1, a0_2, a0_3, a0_4, ⟨a0_5, a0_6, a0_7⟩, a0_8, ⟨a0_9, a0_10, a0_11, a0_12⟩, a0_13, a0_14⟩ : Guest) hb hc
    exact ⟨tmsOf [], N, 12, (nf_i_CanRun N (⟨a0_0, a0_1, a0_2, a0_3, a0_4, ⟨a0_5, a0_6, a0_7⟩, a0_8, ⟨a0_9, a0_10, a0_11, a0_12⟩, a0_13, a0_14⟩ : Guest)).trans hN⟩
  · cases h

noncomputable def ctrB1 : Ctrs := [(93, run_s_CanRun), (114, run_i_CanRun)] ++ ctrY

theorem ctrB1_ok : ∀ f run, aget ctrB1 f = some run → Holds Tryz.prog f run := ctr_more ctrY_ok (by
  intro x hx
  simp only [List.mem_cons, List.not_mem_nil, or_false] at hx
  rcases hx with rfl | rfl
  · exact holds_s_CanRun
  · exact holds_i_CanRun)


/-- The places of those that can run. -/
def runGo : List Guest → Nat → List Int
  | [], _ => []
  | g :: l, i => bif canRun g then (i : Int) :: runGo l (i + 1) else runGo l (i + 1)

theorem runGo_len : ∀ (l : List Guest) (i : Nat), (runGo l i).length ≤ l.length
  | [], _ => Nat.le_refl _
  | g :: l, i => by
    have := runGo_len l (i + 1)
    simp only [runGo]
    cases canRun g <;> simp <;> omega

theorem goL_run {ρ : Type} (K : List Int → Option ρ) : ∀ (l : List Guest) (i : Nat) (acc : List Int), acc.length + l.length ≤ 2147483648 →
    goL (fun i g acc k => bif canRun g then (bif few (ln (ap acc [(i : Int)])) then k (ap acc [(i : Int)]) else none) else k acc) K l i acc = K (acc ++ runGo l i)
  | [], i, acc, _ => by simp [goL, runGo]
  | g :: l, i, acc, h => by
    simp only [List.length_cons] at h
    simp only [goL, runGo]
    cases canRun g
    · simp only [cF]
      exact goL_run K l (i + 1) acc (by omega)
    · simp only [cT]
      rw [few_ln (by simp [ap]; omega), cT, goL_run K l (i + 1) _ (by simp [ap]; omega)]
      simp [ap]

noncomputable def ctrB2 : Ctrs := ctrB1
theorem ctrB2_ok : ∀ f run, aget ctrB2 f = some run → Holds Tryz.prog f run := ctrB1_ok


noncomputable def ctrB3 : Ctrs := ctrB2
theorem ctrB3_ok : ∀ f run, aget ctrB3 f = some run → Holds Tryz.prog f run := ctrB2_ok


def quiet (h : Host) : Bool := !(h.Mons.any fun m => m.Guests.any canRun)

theorem runGo_any : ∀ (l : List Guest) (i : Nat), igt (ln (runGo l i)) 0 = l.any canRun
  | [], _ => rfl
  | g :: l, i => by
    have ih := runGo_any l (i + 1)
    simp only [runGo, List.any_cons]
    cases canRun g
    · simp only [cF, Bool.false_or]
      exact ih
    · simp only [cT, Bool.true_or, igt, ln]
      exact decide_eq_true (by simp only [List.length_cons]; omega)



/-! Progress. -/

def differs (x y : Guest) : Bool :=
  ine x.A y.A || (ine x.Pc y.Pc || (ine x.Pending y.Pending || ((!(ieq x.Exit.Kind y.Exit.Kind && (ieq x.Exit.Page y.Exit.Page && (beqb x.Exit.Write y.Exit.Write && ieq x.Exit.N y.Exit.N)))) || ((!beqb x.Halted y.Halted) || ine (ln x.Seen) (ln y.Seen)))))

def progress (a b : Host) (m g : Int) : Bool :=
  bif hasB g (ln (monOf a m).Guests) then (bif hasB g (ln (monOf b m).Guests) then differs (ix (monOf a m).Guests g (Ty.dflt .guest)) (ix (monOf b m).Guests g (Ty.dflt .guest)) else false) else false

theorem hasB_zero (g : Int) : hasB g (ln ([] : List Guest)) = false := decide_eq_false (by simp [ln])


noncomputable def ctrB4 : Ctrs := ctrB3
theorem ctrB4_ok : ∀ f run, aget ctrB4 f = some run → Holds Tryz.prog f run := ctrB3_ok

noncomputable def ctrZ : Ctrs := ctrB4
theorem ctrZ_ok : ∀ f run, aget ctrZ f = some run → Holds Tryz.prog f run := ctrB4_ok
end Go.Proofs.YtdbdlamkkkdjhaaGreat.E
