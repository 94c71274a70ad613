/- What is proved here: contracts of what Quiet and Progress reach. -/
import Derived.Test.YtifcepopacbidaaA3
import Derived.KernelRfl
namespace Go.Proofs.Ytifcepopacbidaa.E
open Go
set_option maxRecDepth 100000
set_option linter.unusedVariables false
set_option linter.unusedSimpArgs false

/-- More than any loop takes. -/
def NN : Nat := big + 1
theorem NN_lt {n : Nat} (h : n ≤ big) : n < NN := Nat.lt_succ_of_le h

def canRun (g : Guest) : Bool := bif (ieq g.Exit.Kind 0 && (ieq g.Exit.Page 0 && (beqb g.Exit.Write false && ieq g.Exit.N 0))) then !g.Halted else false

def s_CanRun_c (_ : Guest) : Bool := true
def s_CanRun (g : Guest) : Bool := canRun g
noncomputable def run_s_CanRun : List AV → Option (Bool × List AV)
  | [.agg [.s .ins a0_0, .i .i64 a0_1, .i .i64 a0_2, .s .slot a0_3, .s .slot a0_4, .i .i64 a0_5, .i .i64 a0_6, .b a0_7, .i .i64 a0_8, .i .i64 a0_9, .i .i64 a0_10, .b a0_11, .i .i64 a0_12, .b a0_13, .s .int a0_14]] => some ((s_CanRun_c (⟨a0_0, a0_1, a0_2, a0_3, a0_4, ⟨a0_5, a0_6, a0_7⟩, a0_8, ⟨a0_9, a0_10, a0_11, a0_12⟩, a0_13, a0_14⟩ : Guest)), [.one (.b (s_CanRun (⟨a0_0, a0_1, a0_2, a0_3, a0_4, ⟨a0_5, a0_6, a0_7⟩, a0_8, ⟨a0_9, a0_10, a0_11, a0_12⟩, a0_13, a0_14⟩ : Guest)))])
  | _ => none

noncomputable def E_s_CanRun (N : Nat) (a0 : Guest) : Option Ans :=
  (bif (bif (ieq a0.Exit.Kind 0) then (bif (ieq a0.Exit.Page 0) then (bif (beqb a0.Exit.Write false) then (ieq a0.Exit.N 0) else false) else false) else false) then (some [(.one (.b (bif a0.Halted then false else true)))]) else (some [(.one (.b false))]))

def tms_s_CanRun : FuncId → Nat → Option Tmpl := tmsOf []

theorem nf_s_CanRun (N : Nat) (a0 : Guest) : evalFn (cfgOf (aget ctrY) (aget mct0)) tms_s_CanRun N 12 43 [.agg (Ty.cells .guest a0)] = E_s_CanRun N a0 := by kernel_rfl

theorem law_s_CanRun (a0 : Guest) (hb : AllB big [.agg (Ty.cells .guest a0)]) (hc : s_CanRun_c a0 = true) : ∃ N, E_s_CanRun N a0 = some [.one (.b (s_CanRun a0))] := by
  refine ⟨0, ?_⟩
  unfold E_s_CanRun s_CanRun canRun
  cases ieq a0.Exit.Kind 0 <;> cases ieq a0.Exit.Page 0 <;> cases beqb a0.Exit.Write false <;> cases ieq a0.Exit.N 0 <;> simp
theorem holds_s_CanRun : Holds Try.prog 43 run_s_CanRun := by
  refine holds_of_eval (eng_ok ctrY_ok mct0_ok) (fn_ok (by kernel_rfl)) ?_
  intro avs rs hr h
  have hb := allB_of_rep hr
  unfold run_s_CanRun at h
  split at h
  · rename_i a0_0 a0_1 a0_2 a0_3 a0_4 a0_5 a0_6 a0_7 a0_8 a0_9 a0_10 a0_11 a0_12 a0_13 a0_14
    obtain ⟨hc, rfl⟩ := some_pair h
    obtain ⟨N, hN⟩ := law_s_CanRun (⟨a0_0, a0_1, a0_2, a0_3, a0_4, ⟨a0_5, a0_6, a0_7⟩, a0_8, ⟨a0_9, a0_10, a0_11, a0_12⟩, a0_13, a0_14⟩ : Guest) hb hc
    exact ⟨tms_s_CanRun, N, 12, (nf_s_CanRun N (⟨a0_0, a0_1, a0_2, a0_3, a0_4, ⟨a0_5, a0_6, a0_7⟩, a0_8, ⟨a0_9, a0_10, a0_11, a0_12⟩, a0_13, a0_14⟩ : Guest)).trans hN⟩
  · cases h

def i_CanRun_c (_ : Guest) : Bool := true
def i_CanRun (g : Guest) : Bool := canRun g
noncomputable def run_i_CanRun : List AV → Option (Bool × List AV)
  | [.agg [.s .ins a0_0, .i .i64 a0_1, .i .i64 a0_2, .s .slot a0_3, .s .slot a0_4, .i .i64 a0_5, .i .i64 a0_6, .b a0_7, .i .i64 a0_8, .i .i64 a0_9, .i .i64 a0_10, .b a0_11, .i .i64 a0_12, .b a0_13, .s .int a0_14]] => some ((i_CanRun_c (⟨a0_0, a0_1, a0_2, a0_3, a0_4, ⟨a0_5, a0_6, a0_7⟩, a0_8, ⟨a0_9, a0_10, a0_11, a0_12⟩, a0_13, a0_14⟩ : Guest)), [.one (.b (i_CanRun (⟨a0_0, a0_1, a0_2, a0_3, a0_4, ⟨a0_5, a0_6, a0_7⟩, a0_8, ⟨a0_9, a0_10, a0_11, a0_12⟩, a0_13, a0_14⟩ : Guest)))])
  | _ => none

noncomputable def E_i_CanRun (N : Nat) (a0 : Guest) : Option Ans :=
  (bif (bif (ieq a0.Exit.Kind 0) then (bif (ieq a0.Exit.Page 0) then (bif (beqb a0.Exit.Write false) then (ieq a0.Exit.N 0) else false) else false) else false) then (some [(.one (.b (bif a0.Halted then false else true)))]) else (some [(.one (.b false))]))

def tms_i_CanRun : FuncId → Nat → Option Tmpl := tmsOf []

theorem nf_i_CanRun (N : Nat) (a0 : Guest) : evalFn (cfgOf (aget ctrY) (aget mct0)) tms_i_CanRun N 12 114 [.agg (Ty.cells .guest a0)] = E_i_CanRun N a0 := by kernel_rfl

theorem law_i_CanRun (a0 : Guest) (hb : AllB big [.agg (Ty.cells .guest a0)]) (hc : i_CanRun_c a0 = true) : ∃ N, E_i_CanRun N a0 = some [.one (.b (i_CanRun a0))] := by
  refine ⟨0, ?_⟩
  unfold E_i_CanRun i_CanRun canRun
  cases ieq a0.Exit.Kind 0 <;> cases ieq a0.Exit.Page 0 <;> cases beqb a0.Exit.Write false <;> cases ieq a0.Exit.N 0 <;> simp
theorem holds_i_CanRun : Holds Try.prog 114 run_i_CanRun := by
  refine holds_of_eval (eng_ok ctrY_ok mct0_ok) (fn_ok (by kernel_rfl)) ?_
  intro avs rs hr h
  have hb := allB_of_rep hr
  unfold run_i_CanRun at h
  split at h
  · rename_i a0_0 a0_1 a0_2 a0_3 a0_4 a0_5 a0_6 a0_7 a0_8 a0_9 a0_10 a0_11 a0_12 a0_13 a0_14
    obtain ⟨hc, rfl⟩ := some_pair h
    obtain ⟨N, hN⟩ := law_i_CanRun (⟨a0_0, a0_1, a0_2, a0_3, a0_4, ⟨a0_5, a0_6, a0_7⟩, a0_8, ⟨a0_9, a0_10, a0_11, a0_12⟩, a0_13, a0_14⟩ : Guest) hb hc
    exact ⟨tms_i_CanRun, N, 12, (nf_i_CanRun N (⟨a0_0, a0_1, a0_2, a0_3, a0_4, ⟨a0_5, a0_6, a0_7⟩, a0_8, ⟨a0_9, a0_10, a0_11, a0_12⟩, a0_13, a0_14⟩ : Guest)).trans hN⟩
  · cases h

noncomputable def ctrB1 : List (Nat × (List AV → Option (Bool × List AV))) := [(43, run_s_CanRun), (114, run_i_CanRun)] ++ ctrY

theorem ctrB1_ok : ∀ f run, aget ctrB1 f = some run → Holds Try.prog f run := ctr_more ctrY_ok (by
  intro x hx
  simp only [List.mem_cons, List.not_mem_nil, or_false] at hx
  rcases hx with rfl | rfl
  · exact holds_s_CanRun
  · exact holds_i_CanRun)


/-- The places of those that can run. -/
def runGo : List Guest → Nat → List Int
  | [], _ => []
  | g :: l, i => bif canRun g then (i : Int) :: runGo l (i + 1) else runGo l (i + 1)

theorem runGo_len : ∀ (l : List Guest) (i : Nat), (runGo l i).length ≤ l.length
  | [], _ => Nat.le_refl _
  | g :: l, i => by
    have := runGo_len l (i + 1)
    simp only [runGo]
    cases canRun g <;> simp <;> omega

theorem goL_run {ρ : Type} (K : List Int → Option ρ) : ∀ (l : List Guest) (i : Nat) (acc : List Int), acc.length + l.length ≤ 2147483648 →
    goL (fun i g acc k => bif canRun g then (bif few (ln (ap acc [(i : Int)])) then k (ap acc [(i : Int)]) else none) else k acc) K l i acc = K (acc ++ runGo l i)
  | [], i, acc, _ => by simp [goL, runGo]
  | g :: l, i, acc, h => by
    simp only [List.length_cons] at h
    simp only [goL, runGo]
    cases canRun g
    · simp only [cond_false]
      exact goL_run K l (i + 1) acc (by omega)
    · simp only [cond_true]
      rw [few_ln (by simp [ap]; omega), cond_true, goL_run K l (i + 1) _ (by simp [ap]; omega)]
      simp [ap]

noncomputable def i_runnable_c (l : List Guest) : Bool := pc (l.length ≤ sm)
def i_runnable (l : List Guest) : List Int := runGo l 0
noncomputable def run_i_runnable : List AV → Option (Bool × List AV)
  | [.one (.s .guest a0)] => some ((i_runnable_c a0), [.one (.s .int (i_runnable a0))])
  | _ => none

noncomputable def E_i_runnable (N : Nat) (a0 : List Guest) : Option Ans :=
  (iter (σ := (Int × (Int × ((List Int) × ((List Guest) × Unit))))) N (fun r2 s3 => (bif (ilt s3.2.1 s3.1) then (bif (inb s3.2.1 (ln s3.2.2.2.1)) then (bif (i_CanRun_c (ix s3.2.2.2.1 s3.2.1 (Ty.dflt .guest))) then (bif (i_CanRun (ix s3.2.2.2.1 s3.2.1 (Ty.dflt .guest))) then (bif (few (ln (ap s3.2.2.1 [s3.2.1]))) then (r2 (s3.1, ((wadd .i64 s3.2.1 1), ((ap s3.2.2.1 [s3.2.1]), (s3.2.2.2.1, ()))))) else none) else (r2 (s3.1, ((wadd .i64 s3.2.1 1), (s3.2.2.1, (s3.2.2.2.1, ())))))) else none) else none) else (some [(.one (.s .int s3.2.2.1))]))) ((ln a0), (0, ([], (a0, ())))))

def tms_i_runnable : FuncId → Nat → Option Tmpl := tmsOf [(73, 0, { n := 22, tm := [(3, .sl 0 []), (7, .sl 1 []), (8, .i .i64), (9, .i .i64)], lo := [], ro := [(0, .int, true), (1, .guest, false)] })]

theorem nf_i_runnable (N : Nat) (a0 : List Guest) : evalFn (cfgOf (aget ctrB1) (aget mct0)) tms_i_runnable N 12 73 [.one (.s .guest a0)] = E_i_runnable N a0 := by kernel_rfl

theorem law_i_runnable (a0 : List Guest) (hb : AllB big [.one (.s .guest a0)]) (hc : i_runnable_c a0 = true) : ∃ N, E_i_runnable N a0 = some [.one (.s .int (i_runnable a0))] := by
  have hl := sm_big (pc_iff.1 hc)
  refine ⟨NN, ?_⟩
  unfold E_i_runnable
  refine (iter_list a0 (fun i acc => (ln a0, ((i : Int), (acc, (a0, ()))))) _ (fun i g acc k => bif canRun g then (bif few (ln (ap acc [(i : Int)])) then k (ap acc [(i : Int)]) else none) else k acc) (fun acc => some [AV.one (.s .int acc)])
    (fun i hi t rec => ?_) (fun t rec => ?_) _ [] (NN_lt hl.1)).trans (goL_run _ a0 0 [] (by simpa using hl.2))
  · simp only [ilt_ln hi, inb_ln hi, ix_ln hi, i_CanRun_c, i_CanRun, cond_true, wadd_up hi hl.1]
  · simp only [ilt_end, cond_false]
theorem holds_i_runnable : Holds Try.prog 73 run_i_runnable := by
  refine holds_of_eval (eng_ok ctrB1_ok mct0_ok) (fn_ok (by kernel_rfl)) ?_
  intro avs rs hr h
  have hb := allB_of_rep hr
  unfold run_i_runnable at h
  split at h
  · rename_i a0
    obtain ⟨hc, rfl⟩ := some_pair h
    obtain ⟨N, hN⟩ := law_i_runnable a0 hb hc
    exact ⟨tms_i_runnable, N, 12, (nf_i_runnable N a0).trans hN⟩
  · cases h

noncomputable def ctrB2 : List (Nat × (List AV → Option (Bool × List AV))) := [(73, run_i_runnable)] ++ ctrB1

theorem ctrB2_ok : ∀ f run, aget ctrB2 f = some run → Holds Try.prog f run := ctr_more ctrB1_ok (by
  intro x hx
  simp only [List.mem_cons, List.not_mem_nil, or_false] at hx
  rcases hx with rfl
  · exact holds_i_runnable)


theorem app_map {α β ρ : Type} (c : α → Bool) (f : α → β) (K : List β → Option ρ) : ∀ (l : List α) (i : Nat) (acc : List β), (∀ x ∈ l, c x = true) → acc.length + l.length ≤ 2147483648 →
    goL (fun _ x acc k => bif c x then (bif few (ln (ap acc [f x])) then k (ap acc [f x]) else none) else none) K l i acc = K (acc ++ l.map f)
  | [], i, acc, _, _ => by simp [goL]
  | x :: l, i, acc, h, hn => by
    have h1 := h x (by simp)
    simp only [List.length_cons] at hn
    simp only [goL, h1, cond_true]
    rw [few_ln (by simp [ap]; omega), cond_true, app_map c f K l (i + 1) _ (fun y hy => h y (by simp [hy])) (by simp [ap]; omega)]
    simp [ap]

noncomputable def i_RunnableIn_c (h : Host) : Bool := pc (SmHost h)
def i_RunnableIn (h : Host) : List (List Int) := h.Mons.map fun m => runGo m.Guests 0
noncomputable def run_i_RunnableIn : List AV → Option (Bool × List AV)
  | [.agg [.s (.sl .int) a0_0, .s .mon a0_1, .s .entry a0_2, .s .entry a0_3]] => some ((i_RunnableIn_c (⟨a0_0, a0_1, a0_2, a0_3⟩ : Host)), [.one (.s (.sl .int) (i_RunnableIn (⟨a0_0, a0_1, a0_2, a0_3⟩ : Host)))])
  | _ => none

noncomputable def E_i_RunnableIn (N : Nat) (a0 : Host) : Option Ans :=
  (iter (σ := (Int × (Int × ((List (List Int)) × ((List Mon) × Unit))))) N (fun r2 s3 => (bif (ilt s3.2.1 s3.1) then (bif (inb s3.2.1 (ln s3.2.2.2.1)) then (bif (i_runnable_c (ix s3.2.2.2.1 s3.2.1 (Ty.dflt .mon)).Guests) then (bif (few (ln (ap s3.2.2.1 [(i_runnable (ix s3.2.2.2.1 s3.2.1 (Ty.dflt .mon)).Guests)]))) then (r2 (s3.1, ((wadd .i64 s3.2.1 1), ((ap s3.2.2.1 [(i_runnable (ix s3.2.2.2.1 s3.2.1 (Ty.dflt .mon)).Guests)]), (s3.2.2.2.1, ()))))) else none) else none) else none) else (some [(.one (.s (.sl .int) s3.2.2.1))]))) ((ln a0.Mons), (0, ([], (a0.Mons, ())))))

def tms_i_RunnableIn : FuncId → Nat → Option Tmpl := tmsOf [(44, 0, { n := 22, tm := [(3, .sl 0 []), (8, .sl 1 []), (9, .i .i64), (10, .i .i64)], lo := [], ro := [(0, (.sl .int), true), (1, .mon, false)] })]

theorem nf_i_RunnableIn (N : Nat) (a0 : Host) : evalFn (cfgOf (aget ctrB2) (aget mct0)) tms_i_RunnableIn N 12 44 [.agg (hostC a0)] = E_i_RunnableIn N a0 := by kernel_rfl

theorem law_i_RunnableIn (a0 : Host) (hb : AllB big [.agg (hostC a0)]) (hc : i_RunnableIn_c a0 = true) : ∃ N, E_i_RunnableIn N a0 = some [.one (.s (.sl .int) (i_RunnableIn a0))] := by
  have h := (pc_iff.1 hc).mons
  have hl := sm_big h.len
  refine ⟨NN, ?_⟩
  unfold E_i_RunnableIn
  refine (iter_list a0.Mons (fun i acc => (ln a0.Mons, ((i : Int), (acc, (a0.Mons, ()))))) _ (fun i x acc k => bif i_runnable_c x.Guests then (bif few (ln (ap acc [i_runnable x.Guests])) then k (ap acc [i_runnable x.Guests]) else none) else none) (fun acc => some [AV.one (.s (.sl .int) acc)])
    (fun i hi t rec => ?_) (fun t rec => ?_) _ [] (NN_lt hl.1)).trans (app_map (fun x => i_runnable_c x.Guests) (fun x => i_runnable x.Guests) _ a0.Mons 0 [] (fun x hx => pc_true (h.inv.2 x hx (.s .guest x.Guests) (by simp [Ty.cells])).len) (by simpa using hl.2))
  · simp only [ilt_ln hi, inb_ln hi, ix_ln hi, cond_true, wadd_up hi hl.1]
  · simp only [ilt_end, cond_false]
theorem holds_i_RunnableIn : Holds Try.prog 44 run_i_RunnableIn := by
  refine holds_of_eval (eng_ok ctrB2_ok mct0_ok) (fn_ok (by kernel_rfl)) ?_
  intro avs rs hr h
  have hb := allB_of_rep hr
  unfold run_i_RunnableIn at h
  split at h
  · rename_i a0_0 a0_1 a0_2 a0_3
    obtain ⟨hc, rfl⟩ := some_pair h
    obtain ⟨N, hN⟩ := law_i_RunnableIn (⟨a0_0, a0_1, a0_2, a0_3⟩ : Host) hb hc
    exact ⟨tms_i_RunnableIn, N, 12, (nf_i_RunnableIn N (⟨a0_0, a0_1, a0_2, a0_3⟩ : Host)).trans hN⟩
  · cases h

noncomputable def ctrB3 : List (Nat × (List AV → Option (Bool × List AV))) := [(44, run_i_RunnableIn)] ++ ctrB2

theorem ctrB3_ok : ∀ f run, aget ctrB3 f = some run → Holds Try.prog f run := ctr_more ctrB2_ok (by
  intro x hx
  simp only [List.mem_cons, List.not_mem_nil, or_false] at hx
  rcases hx with rfl
  · exact holds_i_RunnableIn)


def quiet (h : Host) : Bool := !(h.Mons.any fun m => m.Guests.any canRun)

theorem goL_none {α ρ : Type} (p : α → Bool) (r : Option ρ) (K : Unit → Option ρ) : ∀ (l : List α) (i : Nat), goL (fun _ x (_ : Unit) k => bif p x then r else k ()) K l i () = bif l.any p then r else K ()
  | [], _ => rfl
  | x :: l, i => by
    simp only [goL, List.any_cons]
    cases p x
    · simp only [cond_false, Bool.false_or]
      exact goL_none p r K l (i + 1)
    · rfl

theorem runGo_any : ∀ (l : List Guest) (i : Nat), igt (ln (runGo l i)) 0 = l.any canRun
  | [], _ => rfl
  | g :: l, i => by
    have ih := runGo_any l (i + 1)
    simp only [runGo, List.any_cons]
    cases canRun g
    · simp only [cond_false, Bool.false_or]
      exact ih
    · simp only [cond_true, Bool.true_or, igt, ln]
      exact decide_eq_true (by simp only [List.length_cons]; omega)

noncomputable def i_Quiet_c (h : Host) : Bool := pc (SmHost h)
def i_Quiet (h : Host) : Bool := quiet h
noncomputable def run_i_Quiet : List AV → Option (Bool × List AV)
  | [.agg [.s (.sl .int) a0_0, .s .mon a0_1, .s .entry a0_2, .s .entry a0_3]] => some ((i_Quiet_c (⟨a0_0, a0_1, a0_2, a0_3⟩ : Host)), [.one (.b (i_Quiet (⟨a0_0, a0_1, a0_2, a0_3⟩ : Host)))])
  | _ => none

noncomputable def E_i_Quiet (N : Nat) (a0 : Host) : Option Ans :=
  (bif (i_RunnableIn_c a0) then (iter (σ := (Int × (Int × ((List (List Int)) × Unit)))) N (fun r2 s3 => (bif (ilt s3.2.1 s3.1) then (bif (inb s3.2.1 (ln s3.2.2.1)) then (bif (igt (ln (ix s3.2.2.1 s3.2.1 [])) 0) then (some [(.one (.b false))]) else (r2 (s3.1, ((wadd .i64 s3.2.1 1), (s3.2.2.1, ()))))) else none) else (some [(.one (.b true))]))) ((ln (i_RunnableIn a0)), (0, ((i_RunnableIn a0), ())))) else none)

def tms_i_Quiet : FuncId → Nat → Option Tmpl := tmsOf [(20, 0, { n := 16, tm := [(6, .sl 0 []), (7, .i .i64), (8, .i .i64)], lo := [], ro := [(0, (.sl .int), true)] })]

theorem nf_i_Quiet (N : Nat) (a0 : Host) : evalFn (cfgOf (aget ctrB3) (aget mct0)) tms_i_Quiet N 12 20 [.agg (hostC a0)] = E_i_Quiet N a0 := by kernel_rfl

theorem law_i_Quiet (a0 : Host) (hb : AllB big [.agg (hostC a0)]) (hc : i_Quiet_c a0 = true) : ∃ N, E_i_Quiet N a0 = some [.one (.b (i_Quiet a0))] := by
  have hs := pc_iff.1 hc
  have hl := sm_big hs.mons.len
  have hlr : (i_RunnableIn a0).length ≤ big := by simpa [i_RunnableIn] using hl.1
  refine ⟨NN, ?_⟩
  unfold E_i_Quiet
  have h1 : i_RunnableIn_c a0 = true := pc_true hs
  rw [h1, cond_true]
  refine (iter_list (i_RunnableIn a0) (fun i _ => (ln (i_RunnableIn a0), ((i : Int), (i_RunnableIn a0, ())))) _ (fun _ x (_ : Unit) k => bif igt (ln x) 0 then some [AV.one (.b false)] else k ()) (fun _ => some [AV.one (.b true)])
    (fun i hi t rec => ?_) (fun t rec => ?_) _ () (NN_lt hlr)).trans ?_
  · simp only [ilt_ln hi, inb_ln hi, ix_ln hi, cond_true, wadd_up hi hlr]
  · simp only [ilt_end, cond_false]
  · rw [goL_none]
    unfold i_Quiet quiet i_RunnableIn
    rw [List.any_map]
    simp only [Function.comp_def, runGo_any]
    cases a0.Mons.any fun m => m.Guests.any canRun <;> rfl
theorem holds_i_Quiet : Holds Try.prog 20 run_i_Quiet := by
  refine holds_of_eval (eng_ok ctrB3_ok mct0_ok) (fn_ok (by kernel_rfl)) ?_
  intro avs rs hr h
  have hb := allB_of_rep hr
  unfold run_i_Quiet at h
  split at h
  · rename_i a0_0 a0_1 a0_2 a0_3
    obtain ⟨hc, rfl⟩ := some_pair h
    obtain ⟨N, hN⟩ := law_i_Quiet (⟨a0_0, a0_1, a0_2, a0_3⟩ : Host) hb hc
    exact ⟨tms_i_Quiet, N, 12, (nf_i_Quiet N (⟨a0_0, a0_1, a0_2, a0_3⟩ : Host)).trans hN⟩
  · cases h


def s_Quiet_c (_ : Host) : Bool := true
def s_Quiet (h : Host) : Bool := quiet h
noncomputable def run_s_Quiet : List AV → Option (Bool × List AV)
  | [.agg [.s (.sl .int) a0_0, .s .mon a0_1, .s .entry a0_2, .s .entry a0_3]] => some ((s_Quiet_c (⟨a0_0, a0_1, a0_2, a0_3⟩ : Host)), [.one (.b (s_Quiet (⟨a0_0, a0_1, a0_2, a0_3⟩ : Host)))])
  | _ => none

noncomputable def E_s_Quiet (N : Nat) (a0 : Host) : Option Ans :=
  (iter (σ := (Int × ((List (List Int)) × ((List Mon) × ((List Entry) × ((List Entry) × Unit)))))) N (fun r2 s3 => (bif (ilt s3.1 (ln s3.2.2.1)) then (iter (σ := (Int × (Int × ((List (List Int)) × ((List Mon) × ((List Entry) × ((List Entry) × Unit))))))) N (fun r4 s5 => (bif (inb s5.1 (ln s5.2.2.2.1)) then (bif (ilt s5.2.1 (ln (ix s5.2.2.2.1 s5.1 (Ty.dflt .mon)).Guests)) then (bif (inb s5.1 (ln s5.2.2.2.1)) then (bif (inb s5.2.1 (ln (ix s5.2.2.2.1 s5.1 (Ty.dflt .mon)).Guests)) then (bif (s_CanRun_c (ix (ix s5.2.2.2.1 s5.1 (Ty.dflt .mon)).Guests s5.2.1 (Ty.dflt .guest))) then (bif (s_CanRun (ix (ix s5.2.2.2.1 s5.1 (Ty.dflt .mon)).Guests s5.2.1 (Ty.dflt .guest))) then (some [(.one (.b false))]) else (r4 (s5.1, ((wadd .i64 s5.2.1 1), (s5.2.2.1, (s5.2.2.2.1, (s5.2.2.2.2.1, (s5.2.2.2.2.2.1, ())))))))) else none) else none) else none) else (r2 ((wadd .i64 s5.1 1), (s5.2.2.1, (s5.2.2.2.1, (s5.2.2.2.2.1, (s5.2.2.2.2.2.1, ()))))))) else none)) (s3.1, (0, (s3.2.1, (s3.2.2.1, (s3.2.2.2.1, (s3.2.2.2.2.1, ()))))))) else (some [(.one (.b true))]))) (0, (a0.Memory, (a0.Mons, (a0.Buffer, (a0.IoBuffer, ()))))))

def tms_s_Quiet : FuncId → Nat → Option Tmpl := tmsOf [(19, 0, { n := 33, tm := [(1, .lp 0 0), (3, .i .i64)], lo := [(0, [.sl 0 [], .sl 1 [], .sl 2 [], .sl 3 []])], ro := [(0, (.sl .int), false), (1, .mon, false), (2, .entry, false), (3, .entry, false)] }), (19, 2, { n := 33, tm := [(1, .lp 0 0), (3, .i .i64), (4, .i .i64)], lo := [(0, [.sl 0 [], .sl 1 [], .sl 2 [], .sl 3 []])], ro := [(0, (.sl .int), false), (1, .mon, false), (2, .entry, false), (3, .entry, false)] })]

theorem nf_s_Quiet (N : Nat) (a0 : Host) : evalFn (cfgOf (aget ctrB3) (aget mct0)) tms_s_Quiet N 12 19 [.agg (hostC a0)] = E_s_Quiet N a0 := by kernel_rfl

theorem law_s_Quiet (a0 : Host) (hb : AllB big [.agg (hostC a0)]) (hc : s_Quiet_c a0 = true) : ∃ N, E_s_Quiet N a0 = some [.one (.b (s_Quiet a0))] := by
  have hb0 := (allB_cons hb).1
  have hm : CVB big (.s .mon a0.Mons) := hb0 _ (by simp [AV.cvs, hostC])
  have hl := hm.len
  refine ⟨NN, ?_⟩
  unfold E_s_Quiet
  refine (iter_list a0.Mons (fun i (_ : Unit) => ((i : Int), (a0.Memory, (a0.Mons, (a0.Buffer, (a0.IoBuffer, ())))))) _ (fun _ (x : Mon) (_ : Unit) k => bif x.Guests.any canRun then some [AV.one (.b false)] else k ()) (fun _ => some [AV.one (.b true)])
    (fun i hi t rec => ?_) (fun t rec => ?_) _ () (NN_lt hl)).trans ?_
  · simp only [ilt_ln hi, cond_true]
    have hg : CVB big (.s .guest a0.Mons[i].Guests) := hm.inv.2 _ (List.getElem_mem hi) _ (by simp [Ty.cells])
    refine (iter_list a0.Mons[i].Guests (fun j (_ : Unit) => ((i : Int), ((j : Int), (a0.Memory, (a0.Mons, (a0.Buffer, (a0.IoBuffer, ()))))))) _ (fun _ (g : Guest) (_ : Unit) k => bif canRun g then some [AV.one (.b false)] else k ()) (fun _ => rec (((i + 1 : Nat) : Int), (a0.Memory, (a0.Mons, (a0.Buffer, (a0.IoBuffer, ()))))))
      (fun j hj t rec' => ?_) (fun t rec' => ?_) _ () (NN_lt hg.len)).trans ?_
    · simp only [inb_ln hi, ix_ln hi, ilt_ln hj, inb_ln hj, ix_ln hj, s_CanRun_c, s_CanRun, cond_true, wadd_up hj hg.len]
    · simp only [inb_ln hi, ix_ln hi, ilt_end, cond_true, cond_false, wadd_up hi hl]
    · rw [goL_none]
  · simp only [ilt_end, cond_false]
  · rw [goL_none]
    unfold s_Quiet quiet
    cases a0.Mons.any fun m => m.Guests.any canRun <;> rfl
theorem holds_s_Quiet : Holds Try.prog 19 run_s_Quiet := by
  refine holds_of_eval (eng_ok ctrB3_ok mct0_ok) (fn_ok (by kernel_rfl)) ?_
  intro avs rs hr h
  have hb := allB_of_rep hr
  unfold run_s_Quiet at h
  split at h
  · rename_i a0_0 a0_1 a0_2 a0_3
    obtain ⟨hc, rfl⟩ := some_pair h
    obtain ⟨N, hN⟩ := law_s_Quiet (⟨a0_0, a0_1, a0_2, a0_3⟩ : Host) hb hc
    exact ⟨tms_s_Quiet, N, 12, (nf_s_Quiet N (⟨a0_0, a0_1, a0_2, a0_3⟩ : Host)).trans hN⟩
  · cases h


/-! Progress. -/

def differs (x y : Guest) : Bool :=
  ine x.A y.A || (ine x.Pc y.Pc || (ine x.Pending y.Pending || ((!(ieq x.Exit.Kind y.Exit.Kind && (ieq x.Exit.Page y.Exit.Page && (beqb x.Exit.Write y.Exit.Write && ieq x.Exit.N y.Exit.N)))) || ((!beqb x.Halted y.Halted) || ine (ln x.Seen) (ln y.Seen)))))

def monOf (h : Host) (m : Int) : Mon := bif hasB m (ln h.Mons) then ix h.Mons m (Ty.dflt .mon) else Ty.dflt .mon

def progress (a b : Host) (m g : Int) : Bool :=
  bif hasB g (ln (monOf a m).Guests) then (bif hasB g (ln (monOf b m).Guests) then differs (ix (monOf a m).Guests g (Ty.dflt .guest)) (ix (monOf b m).Guests g (Ty.dflt .guest)) else false) else false

theorem has_ige {g : Int} {n m : Int} (h : hasB g n = true) : ige g m = !hasB g m := by
  have : 0 ≤ g ∧ g < n := of_decide_eq_true h
  unfold ige hasB
  by_cases h1 : g < m
  · rw [decide_eq_false (p := g ≥ m) (by omega), decide_eq_true (p := 0 ≤ g ∧ g < m) (by omega)]; rfl
  · rw [decide_eq_true (p := g ≥ m) (by omega), decide_eq_false (p := 0 ≤ g ∧ g < m) (by omega)]; rfl

theorem hasB_zero (g : Int) : hasB g (ln ([] : List Guest)) = false := decide_eq_false (by simp [ln])

noncomputable def s_Progress_c (a b : Host) (_ _ : Int) : Bool := pc (SmHost a ∧ SmHost b)
def s_Progress (a b : Host) (m g : Int) : Bool := progress a b m g
noncomputable def run_s_Progress : List AV → Option (Bool × List AV)
  | [.agg [.s (.sl .int) a0_0, .s .mon a0_1, .s .entry a0_2, .s .entry a0_3], .agg [.s (.sl .int) a1_0, .s .mon a1_1, .s .entry a1_2, .s .entry a1_3], .one (.i .i64 a2), .one (.i .i64 a3)] => some ((s_Progress_c (⟨a0_0, a0_1, a0_2, a0_3⟩ : Host) (⟨a1_0, a1_1, a1_2, a1_3⟩ : Host) a2 a3), [.one (.b (s_Progress (⟨a0_0, a0_1, a0_2, a0_3⟩ : Host) (⟨a1_0, a1_1, a1_2, a1_3⟩ : Host) a2 a3))])
  | _ => none

noncomputable def E_s_Progress (N : Nat) (a0 : Host) (a1 : Host) (a2 : Int) (a3 : Int) : Option Ans :=
  (bif (s_MonAt_c a0 a2) then (bif (s_MonAt_c a1 a2) then (bif (s_l01In_c a3 0 (wsub .i64 (ln (s_MonAt_1 a0 a2).Guests) 1)) then (bif (bif (s_l01In a3 0 (wsub .i64 (ln (s_MonAt_1 a0 a2).Guests) 1)) then false else true) then (some [(.one (.b false))]) else (bif (ige a3 (ln (s_MonAt_1 a1 a2).Guests)) then (some [(.one (.b false))]) else (bif (inb a3 (ln (s_MonAt_1 a0 a2).Guests)) then (bif (inb a3 (ln (s_MonAt_1 a1 a2).Guests)) then (bif (ine (ix (s_MonAt_1 a0 a2).Guests a3 (Ty.dflt .guest)).A (ix (s_MonAt_1 a1 a2).Guests a3 (Ty.dflt .guest)).A) then (some [(.one (.b true))]) else (bif (ine (ix (s_MonAt_1 a0 a2).Guests a3 (Ty.dflt .guest)).Pc (ix (s_MonAt_1 a1 a2).Guests a3 (Ty.dflt .guest)).Pc) then (some [(.one (.b true))]) else (bif (ine (ix (s_MonAt_1 a0 a2).Guests a3 (Ty.dflt .guest)).Pending (ix (s_MonAt_1 a1 a2).Guests a3 (Ty.dflt .guest)).Pending) then (some [(.one (.b true))]) else (bif (bif (bif (ieq (ix (s_MonAt_1 a0 a2).Guests a3 (Ty.dflt .guest)).Exit.Kind (ix (s_MonAt_1 a1 a2).Guests a3 (Ty.dflt .guest)).Exit.Kind) then (bif (ieq (ix (s_MonAt_1 a0 a2).Guests a3 (Ty.dflt .guest)).Exit.Page (ix (s_MonAt_1 a1 a2).Guests a3 (Ty.dflt .guest)).Exit.Page) then (bif (beqb (ix (s_MonAt_1 a0 a2).Guests a3 (Ty.dflt .guest)).Exit.Write (ix (s_MonAt_1 a1 a2).Guests a3 (Ty.dflt .guest)).Exit.Write) then (ieq (ix (s_MonAt_1 a0 a2).Guests a3 (Ty.dflt .guest)).Exit.N (ix (s_MonAt_1 a1 a2).Guests a3 (Ty.dflt .guest)).Exit.N) else false) else false) else false) then false else true) then (some [(.one (.b true))]) else (bif (bif (beqb (ix (s_MonAt_1 a0 a2).Guests a3 (Ty.dflt .guest)).Halted (ix (s_MonAt_1 a1 a2).Guests a3 (Ty.dflt .guest)).Halted) then false else true) then (some [(.one (.b true))]) else (some [(.one (.b (ine (ln (ix (s_MonAt_1 a0 a2).Guests a3 (Ty.dflt .guest)).Seen) (ln (ix (s_MonAt_1 a1 a2).Guests a3 (Ty.dflt .guest)).Seen))))])))))) else none) else none))) else none) else none) else none)

def tms_s_Progress : FuncId → Nat → Option Tmpl := tmsOf []

theorem nf_s_Progress (N : Nat) (a0 : Host) (a1 : Host) (a2 : Int) (a3 : Int) : evalFn (cfgOf (aget ctrB3) (aget mct0)) tms_s_Progress N 12 21 [.agg (hostC a0), .agg (hostC a1), .one (.i .i64 a2), .one (.i .i64 a3)] = E_s_Progress N a0 a1 a2 a3 := by kernel_rfl

theorem law_s_Progress (a0 : Host) (a1 : Host) (a2 : Int) (a3 : Int) (hb : AllB big [.agg (hostC a0), .agg (hostC a1), .one (.i .i64 a2), .one (.i .i64 a3)]) (hc : s_Progress_c a0 a1 a2 a3 = true) : ∃ N, E_s_Progress N a0 a1 a2 a3 = some [.one (.b (s_Progress a0 a1 a2 a3))] := by
  obtain ⟨ha, hb'⟩ := pc_iff.1 hc
  refine ⟨0, ?_⟩
  unfold E_s_Progress
  have h1 : s_MonAt_c a0 a2 = true := pc_true ha
  have h2 : s_MonAt_c a1 a2 = true := pc_true hb'
  have e1 : s_MonAt_1 a0 a2 = monOf a0 a2 := rfl
  have e2 : s_MonAt_1 a1 a2 = monOf a1 a2 := rfl
  have hl : (monOf a0 a2).Guests.length ≤ big := by
    unfold monOf
    cases hh : hasB a2 (ln a0.Mons)
    · simp [Ty.dflt]
    · exact (sm_big (ha.mons.inv.2 _ (ix_mem hh _) (.s .guest _) (by simp [Ty.cells]; rfl)).len).1
  rw [h1, h2, e1, e2]
  have e3 : s_l01In a3 0 (wsub .i64 (ln (monOf a0 a2).Guests) 1) = hasB a3 (ln (monOf a0 a2).Guests) := l01In_len hl a3
  rw [e3]
  unfold s_Progress progress differs
  simp only [s_l01In_c, cond_true]
  generalize monOf a0 a2 = x at *
  generalize monOf a1 a2 = y at *
  cases hx : hasB a3 (ln x.Guests)
  · rfl
  · rw [has_ige hx, inb_has hx]
    cases hy : hasB a3 (ln y.Guests)
    · rfl
    · rw [inb_has hy]
      simp only [Bool.not_true, cond_false, cond_true]
      generalize ix x.Guests a3 (Ty.dflt .guest) = p
      generalize ix y.Guests a3 (Ty.dflt .guest) = q
      cases ine p.A q.A <;> cases ine p.Pc q.Pc <;> cases ine p.Pending q.Pending <;> cases ieq p.Exit.Kind q.Exit.Kind <;> cases ieq p.Exit.Page q.Exit.Page <;> cases beqb p.Exit.Write q.Exit.Write <;> cases ieq p.Exit.N q.Exit.N <;> cases beqb p.Halted q.Halted <;> simp
theorem holds_s_Progress : Holds Try.prog 21 run_s_Progress := by
  refine holds_of_eval (eng_ok ctrB3_ok mct0_ok) (fn_ok (by kernel_rfl)) ?_
  intro avs rs hr h
  have hb := allB_of_rep hr
  unfold run_s_Progress at h
  split at h
  · rename_i a0_0 a0_1 a0_2 a0_3 a1_0 a1_1 a1_2 a1_3 a2 a3
    obtain ⟨hc, rfl⟩ := some_pair h
    obtain ⟨N, hN⟩ := law_s_Progress (⟨a0_0, a0_1, a0_2, a0_3⟩ : Host) (⟨a1_0, a1_1, a1_2, a1_3⟩ : Host) a2 a3 hb hc
    exact ⟨tms_s_Progress, N, 12, (nf_s_Progress N (⟨a0_0, a0_1, a0_2, a0_3⟩ : Host) (⟨a1_0, a1_1, a1_2, a1_3⟩ : Host) a2 a3).trans hN⟩
  · cases h


def i_Progress_c (_ _ : Host) (_ _ : Int) : Bool := true
def i_Progress (a b : Host) (m g : Int) : Bool := progress a b m g
noncomputable def run_i_Progress : List AV → Option (Bool × List AV)
  | [.agg [.s (.sl .int) a0_0, .s .mon a0_1, .s .entry a0_2, .s .entry a0_3], .agg [.s (.sl .int) a1_0, .s .mon a1_1, .s .entry a1_2, .s .entry a1_3], .one (.i .i64 a2), .one (.i .i64 a3)] => some ((i_Progress_c (⟨a0_0, a0_1, a0_2, a0_3⟩ : Host) (⟨a1_0, a1_1, a1_2, a1_3⟩ : Host) a2 a3), [.one (.b (i_Progress (⟨a0_0, a0_1, a0_2, a0_3⟩ : Host) (⟨a1_0, a1_1, a1_2, a1_3⟩ : Host) a2 a3))])
  | _ => none

noncomputable def E_i_Progress (N : Nat) (a0 : Host) (a1 : Host) (a2 : Int) (a3 : Int) : Option Ans :=
  (bif (i_has_c a2 (ln a0.Mons)) then (bif (bif (i_has a2 (ln a0.Mons)) then false else true) then (some [(.one (.b false))]) else (bif (i_has_c a2 (ln a1.Mons)) then (bif (bif (i_has a2 (ln a1.Mons)) then false else true) then (some [(.one (.b false))]) else (bif (inb a2 (ln a0.Mons)) then (bif (i_has_c a3 (ln (ix a0.Mons a2 (Ty.dflt .mon)).Guests)) then (bif (bif (i_has a3 (ln (ix a0.Mons a2 (Ty.dflt .mon)).Guests)) then false else true) then (some [(.one (.b false))]) else (bif (inb a2 (ln a1.Mons)) then (bif (i_has_c a3 (ln (ix a1.Mons a2 (Ty.dflt .mon)).Guests)) then (bif (bif (i_has a3 (ln (ix a1.Mons a2 (Ty.dflt .mon)).Guests)) then false else true) then (some [(.one (.b false))]) else (bif (inb a2 (ln a0.Mons)) then (bif (inb a3 (ln (ix a0.Mons a2 (Ty.dflt .mon)).Guests)) then (bif (inb a2 (ln a1.Mons)) then (bif (inb a3 (ln (ix a1.Mons a2 (Ty.dflt .mon)).Guests)) then (bif (ine (ix (ix a0.Mons a2 (Ty.dflt .mon)).Guests a3 (Ty.dflt .guest)).A (ix (ix a1.Mons a2 (Ty.dflt .mon)).Guests a3 (Ty.dflt .guest)).A) then (some [(.one (.b true))]) else (bif (ine (ix (ix a0.Mons a2 (Ty.dflt .mon)).Guests a3 (Ty.dflt .guest)).Pc (ix (ix a1.Mons a2 (Ty.dflt .mon)).Guests a3 (Ty.dflt .guest)).Pc) then (some [(.one (.b true))]) else (bif (ine (ix (ix a0.Mons a2 (Ty.dflt .mon)).Guests a3 (Ty.dflt .guest)).Pending (ix (ix a1.Mons a2 (Ty.dflt .mon)).Guests a3 (Ty.dflt .guest)).Pending) then (some [(.one (.b true))]) else (bif (bif (bif (ieq (ix (ix a0.Mons a2 (Ty.dflt .mon)).Guests a3 (Ty.dflt .guest)).Exit.Kind (ix (ix a1.Mons a2 (Ty.dflt .mon)).Guests a3 (Ty.dflt .guest)).Exit.Kind) then (bif (ieq (ix (ix a0.Mons a2 (Ty.dflt .mon)).Guests a3 (Ty.dflt .guest)).Exit.Page (ix (ix a1.Mons a2 (Ty.dflt .mon)).Guests a3 (Ty.dflt .guest)).Exit.Page) then (bif (beqb (ix (ix a0.Mons a2 (Ty.dflt .mon)).Guests a3 (Ty.dflt .guest)).Exit.Write (ix (ix a1.Mons a2 (Ty.dflt .mon)).Guests a3 (Ty.dflt .guest)).Exit.Write) then (ieq (ix (ix a0.Mons a2 (Ty.dflt .mon)).Guests a3 (Ty.dflt .guest)).Exit.N (ix (ix a1.Mons a2 (Ty.dflt .mon)).Guests a3 (Ty.dflt .guest)).Exit.N) else false) else false) else false) then false else true) then (some [(.one (.b true))]) else (bif (bif (beqb (ix (ix a0.Mons a2 (Ty.dflt .mon)).Guests a3 (Ty.dflt .guest)).Halted (ix (ix a1.Mons a2 (Ty.dflt .mon)).Guests a3 (Ty.dflt .guest)).Halted) then false else true) then (some [(.one (.b true))]) else (some [(.one (.b (ine (ln (ix (ix a0.Mons a2 (Ty.dflt .mon)).Guests a3 (Ty.dflt .guest)).Seen) (ln (ix (ix a1.Mons a2 (Ty.dflt .mon)).Guests a3 (Ty.dflt .guest)).Seen))))])))))) else none) else none) else none) else none)) else none) else none)) else none) else none)) else none)) else none)

def tms_i_Progress : FuncId → Nat → Option Tmpl := tmsOf []

theorem nf_i_Progress (N : Nat) (a0 : Host) (a1 : Host) (a2 : Int) (a3 : Int) : evalFn (cfgOf (aget ctrB3) (aget mct0)) tms_i_Progress N 12 22 [.agg (hostC a0), .agg (hostC a1), .one (.i .i64 a2), .one (.i .i64 a3)] = E_i_Progress N a0 a1 a2 a3 := by kernel_rfl

theorem law_i_Progress (a0 : Host) (a1 : Host) (a2 : Int) (a3 : Int) (hb : AllB big [.agg (hostC a0), .agg (hostC a1), .one (.i .i64 a2), .one (.i .i64 a3)]) (hc : i_Progress_c a0 a1 a2 a3 = true) : ∃ N, E_i_Progress N a0 a1 a2 a3 = some [.one (.b (i_Progress a0 a1 a2 a3))] := by
  refine ⟨0, ?_⟩
  unfold E_i_Progress i_has i_Progress progress monOf differs
  cases h1 : hasB a2 (ln a0.Mons)
  · simp [i_has_c, Ty.dflt, hasB_zero]
  · cases h2 : hasB a2 (ln a1.Mons)
    · simp only [i_has_c, cond_true, Bool.not_true, Bool.not_false, cond_false, Ty.dflt, hasB_zero]
      cases hasB a3 (ln (ix a0.Mons a2 (⟨[], [], [], [], [], 0, 0, [], 0⟩ : Mon)).Guests) <;> rfl
    · simp only [i_has_c, cond_true, Bool.not_true, cond_false, inb_has h1, inb_has h2]
      generalize ix a0.Mons a2 (Ty.dflt .mon) = x
      generalize ix a1.Mons a2 (Ty.dflt .mon) = y
      cases hx : hasB a3 (ln x.Guests)
      · rfl
      · cases hy : hasB a3 (ln y.Guests)
        · rfl
        · rw [inb_has hx, inb_has hy]
          simp only [Bool.not_true, cond_false, cond_true]
          generalize ix x.Guests a3 (Ty.dflt .guest) = p
          generalize ix y.Guests a3 (Ty.dflt .guest) = q
          cases ine p.A q.A <;> cases ine p.Pc q.Pc <;> cases ine p.Pending q.Pending <;> cases ieq p.Exit.Kind q.Exit.Kind <;> cases ieq p.Exit.Page q.Exit.Page <;> cases beqb p.Exit.Write q.Exit.Write <;> cases ieq p.Exit.N q.Exit.N <;> cases beqb p.Halted q.Halted <;> simp
theorem holds_i_Progress : Holds Try.prog 22 run_i_Progress := by
  refine holds_of_eval (eng_ok ctrB3_ok mct0_ok) (fn_ok (by kernel_rfl)) ?_
  intro avs rs hr h
  have hb := allB_of_rep hr
  unfold run_i_Progress at h
  split at h
  · rename_i a0_0 a0_1 a0_2 a0_3 a1_0 a1_1 a1_2 a1_3 a2 a3
    obtain ⟨hc, rfl⟩ := some_pair h
    obtain ⟨N, hN⟩ := law_i_Progress (⟨a0_0, a0_1, a0_2, a0_3⟩ : Host) (⟨a1_0, a1_1, a1_2, a1_3⟩ : Host) a2 a3 hb hc
    exact ⟨tms_i_Progress, N, 12, (nf_i_Progress N (⟨a0_0, a0_1, a0_2, a0_3⟩ : Host) (⟨a1_0, a1_1, a1_2, a1_3⟩ : Host) a2 a3).trans hN⟩
  · cases h

noncomputable def ctrB4 : List (Nat × (List AV → Option (Bool × List AV))) := [(20, run_i_Quiet), (19, run_s_Quiet), (21, run_s_Progress), (22, run_i_Progress)] ++ ctrB3

theorem ctrB4_ok : ∀ f run, aget ctrB4 f = some run → Holds Try.prog f run := ctr_more ctrB3_ok (by
  intro x hx
  simp only [List.mem_cons, List.not_mem_nil, or_false] at hx
  rcases hx with rfl | rfl | rfl | rfl
  · exact holds_i_Quiet
  · exact holds_s_Quiet
  · exact holds_s_Progress
  · exact holds_i_Progress)

noncomputable def ctrZ : Ctrs := ctrB4
theorem ctrZ_ok : ∀ f run, aget ctrZ f = some run → Holds Try.prog f run := ctrB4_ok
end Go.Proofs.Ytifcepopacbidaa.E
