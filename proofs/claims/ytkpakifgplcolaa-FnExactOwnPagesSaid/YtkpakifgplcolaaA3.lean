/- What is proved here: contracts of functions that InUse, Progress and Quiet reach. -/
import Derived.Test.YtkpakifgplcolaaA2
import Derived.KernelRfl
namespace Go.Proofs.Ytkpakifgplcolaa.E
open Go
set_option maxRecDepth 100000
set_option linter.unusedVariables false
set_option linter.unusedSimpArgs false

/-! Small ones. -/

def s_l01In_c (_ _ _ : Int) : Bool := true
def s_l01In (x a b : Int) : Bool := ige x a && ile x b
noncomputable def run_s_l01In : List AV → Option (Bool × List AV)
  | [.one (.i .i64 a0), .one (.i .i64 a1), .one (.i .i64 a2)] => some ((s_l01In_c a0 a1 a2), [.one (.b (s_l01In a0 a1 a2))])
  | _ => none

noncomputable def E_s_l01In (N : Nat) (a0 : Int) (a1 : Int) (a2 : Int) : Option Ans :=
  (bif (ige a0 a1) then (some [(.one (.b (ile a0 a2)))]) else (some [(.one (.b false))]))

theorem nf_s_l01In (N : Nat) (a0 : Int) (a1 : Int) (a2 : Int) : evalFn (cfgQ (aget ctrX) (aget mct0) (aget pct0) (aget tct0)) (tmsOf []) N 12 31 [.one (.i .i64 a0), .one (.i .i64 a1), .one (.i .i64 a2)] = E_s_l01In N a0 a1 a2 := by kernel_rfl

theorem law_s_l01In (a0 : Int) (a1 : Int) (a2 : Int) (hb : AllB big [.one (.i .i64 a0), .one (.i .i64 a1), .one (.i .i64 a2)]) (hc : (s_l01In_c a0 a1 a2) = true) : ∃ N, E_s_l01In N a0 a1 a2 = some [.one (.b (s_l01In a0 a1 a2))] := by
  refine ⟨0, ?_⟩
  unfold E_s_l01In s_l01In
  cases ige a0 a1 <;> rfl
theorem holds_s_l01In : Holds Try.prog 31 run_s_l01In := by
  refine holds_of_eval (engQ_ok ctrX_ok mct0_ok pct0_ok tct0_ok) (fn_ok (by kernel_rfl)) ?_
  intro avs rs hr h
  have hb := allB_of_rep hr
  unfold run_s_l01In at h
  split at h
  · rename_i a0 a1 a2
    obtain ⟨hc, rfl⟩ := some_pair h
    obtain ⟨N, hN⟩ := law_s_l01In a0 a1 a2 hb hc
    exact ⟨tmsOf [], N, 12, (nf_s_l01In N a0 a1 a2).trans hN⟩
  · cases h


def i_has_c (_ _ : Int) : Bool := true
@[reducible] def i_has (i n : Int) : Bool := hasB i n
noncomputable def run_i_has : List AV → Option (Bool × List AV)
  | [.one (.i .i64 a0), .one (.i .i64 a1)] => some ((i_has_c a0 a1), [.one (.b (i_has a0 a1))])
  | _ => none

noncomputable def E_i_has (N : Nat) (a0 : Int) (a1 : Int) : Option Ans :=
  (bif (ige a0 0) then (some [(.one (.b (ilt a0 a1)))]) else (some [(.one (.b false))]))

theorem nf_i_has (N : Nat) (a0 : Int) (a1 : Int) : evalFn (cfgQ (aget ctrX) (aget mct0) (aget pct0) (aget tct0)) (tmsOf []) N 12 21 [.one (.i .i64 a0), .one (.i .i64 a1)] = E_i_has N a0 a1 := by kernel_rfl

theorem law_i_has (a0 : Int) (a1 : Int) (hb : AllB big [.one (.i .i64 a0), .one (.i .i64 a1)]) (hc : (i_has_c a0 a1) = true) : ∃ N, E_i_has N a0 a1 = some [.one (.b (i_has a0 a1))] := by
  refine ⟨0, ?_⟩
  unfold E_i_has i_has
  rw [← has_eq]
  cases ige a0 0 <;> rfl
theorem holds_i_has : Holds Try.prog 21 run_i_has := by
  refine holds_of_eval (engQ_ok ctrX_ok mct0_ok pct0_ok tct0_ok) (fn_ok (by kernel_rfl)) ?_
  intro avs rs hr h
  have hb := allB_of_rep hr
  unfold run_i_has at h
  split at h
  · rename_i a0 a1
    obtain ⟨hc, rfl⟩ := some_pair h
    obtain ⟨N, hN⟩ := law_i_has a0 a1 hb hc
    exact ⟨tmsOf [], N, 12, (nf_i_has N a0 a1).trans hN⟩
  · cases h


theorem l01In_len {n : Nat} (hn : n ≤ big) (i : Int) : s_l01In i 0 (wsub .i64 (n : Int) 1) = hasB i n := by
  rw [big_val] at hn
  rw [wsub_id (by omega) (by omega)]
  unfold s_l01In ige ile hasB
  by_cases h1 : 0 ≤ i <;> by_cases h2 : i < n
  · rw [decide_eq_true (p := i ≥ 0) (by omega), decide_eq_true (p := i ≤ (n : Int) - 1) (by omega), decide_eq_true (p := 0 ≤ i ∧ i < (n : Int)) ⟨h1, h2⟩]; rfl
  · rw [decide_eq_false (p := i ≤ (n : Int) - 1) (by omega), decide_eq_false (p := 0 ≤ i ∧ i < (n : Int)) (by omega)]; simp
  · rw [decide_eq_false (p := i ≥ 0) (by omega), decide_eq_false (p := 0 ≤ i ∧ i < (n : Int)) (by omega)]; simp
  · rw [decide_eq_false (p := i ≥ 0) (by omega), decide_eq_false (p := 0 ≤ i ∧ i < (n : Int)) (by omega)]; simp

/-! Copies by append. -/

noncomputable def s_l04Copy_c (l : List (List Int)) : Bool := pc (CVB sm (.s (.sl .int) l))
@[reducible] def s_l04Copy (l : List (List Int)) : List (List Int) := l
noncomputable def run_s_l04Copy : List AV → Option (Bool × List AV)
  | [.one (.s (.sl .int) a0)] => some ((s_l04Copy_c a0), [.one (.s (.sl .int) (s_l04Copy a0))])
  | _ => none

noncomputable def E_s_l04Copy (N : Nat) (a0 : List (List Int)) : Option Ans :=
  (iter (σ := (Int × ((List (List Int)) × ((List (List Int)) × Unit)))) N (fun r2 s3 => (bif (ilt s3.1 (ln s3.2.1)) then (bif (inb s3.1 (ln s3.2.1)) then (bif (few (ln (ap [] (ix s3.2.1 s3.1 [])))) then (bif (few (ln (ap s3.2.2.1 [(ap [] (ix s3.2.1 s3.1 []))]))) then (r2 ((wadd .i64 s3.1 1), (s3.2.1, ((ap s3.2.2.1 [(ap [] (ix s3.2.1 s3.1 []))]), ())))) else none) else none) else none) else (some [(.one (.s (.sl .int) s3.2.2.1))]))) (0, (a0, ([], ()))))

def tms_s_l04Copy : FuncId → Nat → Option Tmpl := tmsOf [(48, 0, { n := 22, tm := [(0, .sl 0 []), (3, .sl 1 []), (4, .i .i64)], lo := [], ro := [(0, (.sl .int), false), (1, (.sl .int), true)] })]

theorem nf_s_l04Copy (N : Nat) (a0 : List (List Int)) : evalFn (cfgQ (aget ctrX) (aget mct0) (aget pct0) (aget tct0)) tms_s_l04Copy N 12 48 [.one (.s (.sl .int) a0)] = E_s_l04Copy N a0 := by kernel_rfl

theorem law_s_l04Copy (a0 : List (List Int)) (hb : AllB big [.one (.s (.sl .int) a0)]) (hc : (s_l04Copy_c a0) = true) : ∃ N, E_s_l04Copy N a0 = some [.one (.s (.sl .int) (s_l04Copy a0))] := by
  have hs := pc_iff.1 hc
  have hl := sm_big hs.len
  refine ⟨a0.length + 1, ?_⟩
  unfold E_s_l04Copy
  refine (iter_list a0 (fun i acc => ((i : Int), (a0, (acc, ())))) _ (fun _ x acc k => bif few (ln x) then (bif few (ln (ap acc [x])) then k (ap acc [x]) else none) else none) (fun acc => some [AV.one (.s (.sl .int) acc)])
    (fun i hi t rec => ?_) (fun t rec => ?_) _ [] (Nat.lt_succ_self _)).trans ((app_loop (fun x => few (ln x)) (fun x => x) _ a0 0 [] (fun x hx => ⟨few_ln (sm_big (hs.inv.2 x hx _ (List.mem_singleton.2 rfl)).len).2, rfl⟩) (by simpa using hl.2)))
  · simp only [ilt_ln hi, inb_ln hi, ix_ln hi, cT, wadd_up hi hl.1, ap_nil]
  · simp only [ilt_end, cF]
theorem holds_s_l04Copy : Holds Try.prog 48 run_s_l04Copy := by
  refine holds_of_eval (engQ_ok ctrX_ok mct0_ok pct0_ok tct0_ok) (fn_ok (by kernel_rfl)) ?_
  intro avs rs hr h
  have hb := allB_of_rep hr
  unfold run_s_l04Copy at h
  split at h
  · rename_i a0
    obtain ⟨hc, rfl⟩ := some_pair h
    obtain ⟨N, hN⟩ := law_s_l04Copy a0 hb hc
    exact ⟨tms_s_l04Copy, N, 12, (nf_s_l04Copy N a0).trans hN⟩
  · cases h


@[reducible] noncomputable def s_l07Copy_c (k : Kept) : Bool := pc (∀ c ∈ Ty.cells .kept k, CVB sm c)
@[reducible] def s_l07Copy (k : Kept) : Kept := k
noncomputable def run_s_l07Copy : List AV → Option (Bool × List AV)
  | [.agg [.s .bool a0_0, .s .slot a0_1]] => some ((s_l07Copy_c (⟨a0_0, a0_1⟩ : Kept)), [.agg (Ty.cells .kept (s_l07Copy (⟨a0_0, a0_1⟩ : Kept)))])
  | _ => none

noncomputable def E_s_l07Copy (N : Nat) (a0 : Kept) : Option Ans :=
  (bif (few (ln (ap [] a0.Known))) then (bif (few (ln (ap [] a0.Slots))) then (some [(.agg [(.s .bool (ap [] a0.Known)), (.s .slot (ap [] a0.Slots))])]) else none) else none)

theorem nf_s_l07Copy (N : Nat) (a0 : Kept) : evalFn (cfgQ (aget ctrX) (aget mct0) (aget pct0) (aget tct0)) (tmsOf []) N 12 50 [.agg (Ty.cells .kept a0)] = E_s_l07Copy N a0 := by kernel_rfl

theorem law_s_l07Copy (a0 : Kept) (hb : AllB big [.agg (Ty.cells .kept a0)]) (hc : (s_l07Copy_c a0) = true) : ∃ N, E_s_l07Copy N a0 = some [.agg (Ty.cells .kept (s_l07Copy a0))] := by
  have h := pc_iff.1 hc
  have h1 := few_of (h (.s .bool a0.Known) (by simp [Ty.cells]))
  have h2 := few_of (h (.s .slot a0.Slots) (by simp [Ty.cells]))
  refine ⟨0, ?_⟩
  simp only [E_s_l07Copy, ap_nil, h1, h2, cT]
  rfl
theorem holds_s_l07Copy : Holds Try.prog 50 run_s_l07Copy := by
  refine holds_of_eval (engQ_ok ctrX_ok mct0_ok pct0_ok tct0_ok) (fn_ok (by kernel_rfl)) ?_
  intro avs rs hr h
  have hb := allB_of_rep hr
  unfold run_s_l07Copy at h
  split at h
  · rename_i a0_0 a0_1
    obtain ⟨hc, rfl⟩ := some_pair h
    obtain ⟨N, hN⟩ := law_s_l07Copy (⟨a0_0, a0_1⟩ : Kept) hb hc
    exact ⟨tmsOf [], N, 12, (nf_s_l07Copy N (⟨a0_0, a0_1⟩ : Kept)).trans hN⟩
  · cases h


noncomputable def s_l15Copy_c (g : Guest) : Bool := pc (∀ c ∈ Ty.cells .guest g, CVB sm c)
@[reducible] def s_l15Copy (g : Guest) : Guest := g
noncomputable def run_s_l15Copy : List AV → Option (Bool × List AV)
  | [.agg [.s .ins a0_0, .i .i64 a0_1, .i .i64 a0_2, .s .slot a0_3, .s .slot a0_4, .i .i64 a0_5, .i .i64 a0_6, .b a0_7, .i .i64 a0_8, .i .i64 a0_9, .i .i64 a0_10, .b a0_11, .i .i64 a0_12, .b a0_13, .s .int a0_14]] => some ((s_l15Copy_c (⟨a0_0, a0_1, a0_2, a0_3, a0_4, ⟨a0_5, a0_6, a0_7⟩, a0_8, ⟨a0_9, a0_10, a0_11, a0_12⟩, a0_13, a0_14⟩ : Guest)), [.agg (Ty.cells .guest (s_l15Copy (⟨a0_0, a0_1, a0_2, a0_3, a0_4, ⟨a0_5, a0_6, a0_7⟩, a0_8, ⟨a0_9, a0_10, a0_11, a0_12⟩, a0_13, a0_14⟩ : Guest)))])
  | _ => none

noncomputable def E_s_l15Copy (N : Nat) (a0 : Guest) : Option Ans :=
  (bif (few (ln (ap [] a0.Prog))) then (bif (few (ln (ap [] a0.Written))) then (bif (few (ln (ap [] a0.Live))) then (bif (few (ln (ap [] a0.Seen))) then (some [(.agg [(.s .ins (ap [] a0.Prog)), (.i .i64 a0.A), (.i .i64 a0.Pc), (.s .slot (ap [] a0.Written)), (.s .slot (ap [] a0.Live)), (.i .i64 a0.Ctl.Traps), (.i .i64 a0.Ctl.Post), (.b a0.Ctl.Open), (.i .i64 a0.Pending), (.i .i64 a0.Exit.Kind), (.i .i64 a0.Exit.Page), (.b a0.Exit.Write), (.i .i64 a0.Exit.N), (.b a0.Halted), (.s .int (ap [] a0.Seen))])]) else none) else none) else none) else none)

theorem nf_s_l15Copy (N : Nat) (a0 : Guest) : evalFn (cfgQ (aget ctrX) (aget mct0) (aget pct0) (aget tct0)) (tmsOf []) N 12 64 [.agg (Ty.cells .guest a0)] = E_s_l15Copy N a0 := by kernel_rfl

theorem law_s_l15Copy (a0 : Guest) (hb : AllB big [.agg (Ty.cells .guest a0)]) (hc : (s_l15Copy_c a0) = true) : ∃ N, E_s_l15Copy N a0 = some [.agg (Ty.cells .guest (s_l15Copy a0))] := by
  have h := pc_iff.1 hc
  have h1 := few_of (h (.s .ins a0.Prog) (by simp [Ty.cells]))
  have h2 := few_of (h (.s .slot a0.Written) (by simp [Ty.cells]))
  have h3 := few_of (h (.s .slot a0.Live) (by simp [Ty.cells]))
  have h4 := few_of (h (.s .int a0.Seen) (by simp [Ty.cells]))
  refine ⟨0, ?_⟩
  simp only [E_s_l15Copy, ap_nil, h1, h2, h3, h4, cT]
  rfl
theorem holds_s_l15Copy : Holds Try.prog 64 run_s_l15Copy := by
  refine holds_of_eval (engQ_ok ctrX_ok mct0_ok pct0_ok tct0_ok) (fn_ok (by kernel_rfl)) ?_
  intro avs rs hr h
  have hb := allB_of_rep hr
  unfold run_s_l15Copy at h
  split at h
  · rename_i a0_0 a0_1 a0_2 a0_3 a0_4 a0_5 a0_6 a0_7 a0_8 a0_9 a0_10 a0_11 a0_12 a0_13 a0_14
    obtain ⟨hc, rfl⟩ := some_pair h
    obtain ⟨N, hN⟩ := law_s_l15Copy (⟨a0_0, a0_1, a0_2, a0_3, a0_4, ⟨a0_5, a0_6, a0_7⟩, a0_8, ⟨a0_9, a0_10, a0_11, a0_12⟩, a0_13, a0_14⟩ : Guest) hb hc
    exact ⟨tmsOf [], N, 12, (nf_s_l15Copy N (⟨a0_0, a0_1, a0_2, a0_3, a0_4, ⟨a0_5, a0_6, a0_7⟩, a0_8, ⟨a0_9, a0_10, a0_11, a0_12⟩, a0_13, a0_14⟩ : Guest)).trans hN⟩
  · cases h

noncomputable def ctrA1 : Ctrs := [(31, run_s_l01In), (21, run_i_has), (48, run_s_l04Copy), (50, run_s_l07Copy), (64, run_s_l15Copy)] ++ ctrX

theorem ctrA1_ok : ∀ f run, aget ctrA1 f = some run → Holds Try.prog f run := ctr_more ctrX_ok (by
  intro x hx
  simp only [List.mem_cons, List.not_mem_nil, or_false] at hx
  rcases hx with rfl | rfl | rfl | rfl | rfl
  · exact holds_s_l01In
  · exact holds_i_has
  · exact holds_s_l04Copy
  · exact holds_s_l07Copy
  · exact holds_s_l15Copy)


noncomputable def s_l17Guests_c (l : List Guest) : Bool := pc (CVB sm (.s .guest l))
@[reducible] def s_l17Guests (l : List Guest) : List Guest := l
noncomputable def run_s_l17Guests : List AV → Option (Bool × List AV)
  | [.one (.s .guest a0)] => some ((s_l17Guests_c a0), [.one (.s .guest (s_l17Guests a0))])
  | _ => none

noncomputable def E_s_l17Guests (N : Nat) (a0 : List Guest) : Option Ans :=
  (iter (σ := (Int × ((List Guest) × ((List Guest) × Unit)))) N (fun r2 s3 => (bif (ilt s3.1 (ln s3.2.1)) then (bif (inb s3.1 (ln s3.2.1)) then (bif (s_l15Copy_c (ix s3.2.1 s3.1 (Ty.dflt .guest))) then (bif (few (ln (ap s3.2.2.1 [(s_l15Copy (ix s3.2.1 s3.1 (Ty.dflt .guest)))]))) then (r2 ((wadd .i64 s3.1 1), (s3.2.1, ((ap s3.2.2.1 [(s_l15Copy (ix s3.2.1 s3.1 (Ty.dflt .guest)))]), ())))) else none) else none) else none) else (some [(.one (.s .guest s3.2.2.1))]))) (0, (a0, ([], ()))))

def tms_s_l17Guests : FuncId → Nat → Option Tmpl := tmsOf [(49, 0, { n := 21, tm := [(0, .sl 0 []), (3, .sl 1 []), (4, .i .i64)], lo := [], ro := [(0, .guest, false), (1, .guest, true)] })]

theorem nf_s_l17Guests (N : Nat) (a0 : List Guest) : evalFn (cfgQ (aget ctrA1) (aget mct0) (aget pct0) (aget tct0)) tms_s_l17Guests N 12 49 [.one (.s .guest a0)] = E_s_l17Guests N a0 := by kernel_rfl

theorem law_s_l17Guests (a0 : List Guest) (hb : AllB big [.one (.s .guest a0)]) (hc : (s_l17Guests_c a0) = true) : ∃ N, E_s_l17Guests N a0 = some [.one (.s .guest (s_l17Guests a0))] := by
  have hs := pc_iff.1 hc
  have hl := sm_big hs.len
  refine ⟨a0.length + 1, ?_⟩
  unfold E_s_l17Guests
  refine (iter_list a0 (fun i acc => ((i : Int), (a0, (acc, ())))) _ (fun _ x acc k => bif s_l15Copy_c x then (bif few (ln (ap acc [s_l15Copy x])) then k (ap acc [s_l15Copy x]) else none) else none) (fun acc => some [AV.one (.s .guest acc)])
    (fun i hi t rec => ?_) (fun t rec => ?_) _ [] (Nat.lt_succ_self _)).trans ((app_loop s_l15Copy_c s_l15Copy _ a0 0 [] (fun x hx => ⟨pc_true (hs.inv.2 x hx), rfl⟩) (by simpa using hl.2)))
  · simp only [ilt_ln hi, inb_ln hi, ix_ln hi, cT, wadd_up hi hl.1]
  · simp only [ilt_end, cF]
theorem holds_s_l17Guests : Holds Try.prog 49 run_s_l17Guests := by
  refine holds_of_eval (engQ_ok ctrA1_ok mct0_ok pct0_ok tct0_ok) (fn_ok (by kernel_rfl)) ?_
  intro avs rs hr h
  have hb := allB_of_rep hr
  unfold run_s_l17Guests at h
  split at h
  · rename_i a0
    obtain ⟨hc, rfl⟩ := some_pair h
    obtain ⟨N, hN⟩ := law_s_l17Guests a0 hb hc
    exact ⟨tms_s_l17Guests, N, 12, (nf_s_l17Guests N a0).trans hN⟩
  · cases h

noncomputable def ctrA2 : Ctrs := [(49, run_s_l17Guests)] ++ ctrA1

theorem ctrA2_ok : ∀ f run, aget ctrA2 f = some run → Holds Try.prog f run := ctr_more ctrA1_ok (by
  intro x hx
  simp only [List.mem_cons, List.not_mem_nil, or_false] at hx
  rcases hx with rfl
  · exact holds_s_l17Guests)


@[reducible] noncomputable def s_l21Mon_c (m : Mon) : Bool := pc (∀ c ∈ Ty.cells .mon m, CVB sm c)
@[reducible] def s_l21Mon (m : Mon) : Mon := m
noncomputable def run_s_l21Mon : List AV → Option (Bool × List AV)
  | [.agg [.s .slot a0_0, .s (.sl .int) a0_1, .s .bool a0_2, .s .guest a0_3, .s .int a0_4, .i .i64 a0_5, .i .i64 a0_6, .s .kept a0_7, .i .i64 a0_8]] => some ((s_l21Mon_c (⟨a0_0, a0_1, a0_2, a0_3, a0_4, a0_5, a0_6, a0_7, a0_8⟩ : Mon)), [.agg (Ty.cells .mon (s_l21Mon (⟨a0_0, a0_1, a0_2, a0_3, a0_4, a0_5, a0_6, a0_7, a0_8⟩ : Mon)))])
  | _ => none

noncomputable def E_s_l21Mon (N : Nat) (a0 : Mon) : Option Ans :=
  (bif (few (ln (ap [] a0.Outer))) then (bif (s_l04Copy_c a0.Out) then (bif (few (ln (ap [] a0.Dirty))) then (bif (s_l17Guests_c a0.Guests) then (bif (few (ln (ap [] a0.Outs))) then (iter (σ := (Int × (Int × (Int × (Int × (Int × (Int × (Int × ((List Kept) × ((List Slot) × ((List (List Int)) × ((List Bool) × ((List Guest) × ((List Int) × ((List Kept) × ((List Slot) × ((List (List Int)) × ((List Bool) × ((List Guest) × ((List Int) × ((List Kept) × Unit))))))))))))))))))))) N (fun r2 s3 => (bif (ilt s3.1 (ln s3.2.2.2.2.2.2.2.2.2.2.2.2.2.1)) then (bif (inb s3.1 (ln s3.2.2.2.2.2.2.2.2.2.2.2.2.2.1)) then (bif (s_l07Copy_c (ix s3.2.2.2.2.2.2.2.2.2.2.2.2.2.1 s3.1 (Ty.dflt .kept))) then (bif (few (ln (ap s3.2.2.2.2.2.2.2.1 [(s_l07Copy (ix s3.2.2.2.2.2.2.2.2.2.2.2.2.2.1 s3.1 (Ty.dflt .kept)))]))) then (r2 ((wadd .i64 s3.1 1), (s3.2.1, (s3.2.2.1, (s3.2.2.2.1, (s3.2.2.2.2.1, (s3.2.2.2.2.2.1, (s3.2.2.2.2.2.2.1, ((ap s3.2.2.2.2.2.2.2.1 [(s_l07Copy (ix s3.2.2.2.2.2.2.2.2.2.2.2.2.2.1 s3.1 (Ty.dflt .kept)))]), (s3.2.2.2.2.2.2.2.2.1, (s3.2.2.2.2.2.2.2.2.2.1, (s3.2.2.2.2.2.2.2.2.2.2.1, (s3.2.2.2.2.2.2.2.2.2.2.2.1, (s3.2.2.2.2.2.2.2.2.2.2.2.2.1, (s3.2.2.2.2.2.2.2.2.2.2.2.2.2.1, (s3.2.2.2.2.2.2.2.2.2.2.2.2.2.2.1, (s3.2.2.2.2.2.2.2.2.2.2.2.2.2.2.2.1, (s3.2.2.2.2.2.2.2.2.2.2.2.2.2.2.2.2.1, (s3.2.2.2.2.2.2.2.2.2.2.2.2.2.2.2.2.2.1, (s3.2.2.2.2.2.2.2.2.2.2.2.2.2.2.2.2.2.2.1, (s3.2.2.2.2.2.2.2.2.2.2.2.2.2.2.2.2.2.2.2.1, ()))))))))))))))))))))) else none) else none) else none) else (some [(.agg [(.s .slot s3.2.2.2.2.2.2.2.2.1), (.s (.sl .int) s3.2.2.2.2.2.2.2.2.2.1), (.s .bool s3.2.2.2.2.2.2.2.2.2.2.1), (.s .guest s3.2.2.2.2.2.2.2.2.2.2.2.1), (.s .int s3.2.2.2.2.2.2.2.2.2.2.2.2.1), (.i .i64 s3.2.1), (.i .i64 s3.2.2.1), (.s .kept s3.2.2.2.2.2.2.2.1), (.i .i64 s3.2.2.2.1)])]))) (0, (a0.Pending, (a0.Traps, (a0.Own, (0, (0, (0, ([], ((ap [] a0.Outer), ((s_l04Copy a0.Out), ((ap [] a0.Dirty), ((s_l17Guests a0.Guests), ((ap [] a0.Outs), (a0.Tables, ([], ([], ([], ([], ([], ([], ()))))))))))))))))))))) else none) else none) else none) else none) else none)

def tms_s_l21Mon : FuncId → Nat → Option Tmpl := tmsOf [(32, 0, { n := 48, tm := [(1, .lp 0 0), (2, .lp 1 0), (3, .sl 0 []), (4, .i .i64)], lo := [(0, [.sl 1 [], .sl 2 [], .sl 3 [], .sl 4 [], .sl 5 [], .i .i64, .i .i64, .sl 6 [], .i .i64]), (1, [.sl 7 [], .sl 8 [], .sl 9 [], .sl 10 [], .sl 11 [], .i .i64, .i .i64, .sl 12 [], .i .i64])], ro := [(0, .kept, true), (1, .slot, true), (2, (.sl .int), true), (3, .bool, true), (4, .guest, true), (5, .int, true), (6, .kept, false), (7, .slot, true), (8, (.sl .int), true), (9, .bool, true), (10, .guest, true), (11, .int, true), (12, .kept, true)] })]

theorem nf_s_l21Mon (N : Nat) (a0 : Mon) : evalFn (cfgQ (aget ctrA2) (aget mct0) (aget pct0) (aget tct0)) tms_s_l21Mon N 12 32 [.agg (Ty.cells .mon a0)] = E_s_l21Mon N a0 := by kernel_rfl

theorem law_s_l21Mon (a0 : Mon) (hb : AllB big [.agg (Ty.cells .mon a0)]) (hc : (s_l21Mon_c a0) = true) : ∃ N, E_s_l21Mon N a0 = some [.agg (Ty.cells .mon (s_l21Mon a0))] := by
  have h := pc_iff.1 hc
  have h1 := few_of (h (.s .slot a0.Outer) (by simp [Ty.cells]))
  have h2 : s_l04Copy_c a0.Out = true := pc_true (h (.s (.sl .int) a0.Out) (by simp [Ty.cells]))
  have h3 := few_of (h (.s .bool a0.Dirty) (by simp [Ty.cells]))
  have h4 : s_l17Guests_c a0.Guests = true := pc_true (h (.s .guest a0.Guests) (by simp [Ty.cells]))
  have h5 := few_of (h (.s .int a0.Outs) (by simp [Ty.cells]))
  have h6 : CVB sm (.s .kept a0.Tables) := h (.s .kept a0.Tables) (by simp [Ty.cells])
  have hl := sm_big h6.len
  refine ⟨a0.Tables.length + 1, ?_⟩
  unfold E_s_l21Mon
  simp only [ap_nil, h1, h2, h3, h4, h5, cT]
  refine (iter_list a0.Tables (fun i acc => ((i : Int), a0.Pending, a0.Traps, a0.Own, 0, 0, 0, acc, a0.Outer, s_l04Copy a0.Out, a0.Dirty, s_l17Guests a0.Guests, a0.Outs, a0.Tables, [], [], [], [], [], [], ())) _
    (fun _ x acc k => bif s_l07Copy_c x then (bif few (ln (ap acc [s_l07Copy x])) then k (ap acc [s_l07Copy x]) else none) else none) (fun acc => some [AV.agg (Ty.cells .mon ⟨a0.Outer, a0.Out, a0.Dirty, a0.Guests, a0.Outs, a0.Pending, a0.Traps, acc, a0.Own⟩)])
    (fun i hi t rec => ?_) (fun t rec => ?_) _ [] (Nat.lt_succ_self _)).trans ((app_loop s_l07Copy_c s_l07Copy _ a0.Tables 0 [] (fun x hx => ⟨pc_true (h6.inv.2 x hx), rfl⟩) (by simpa using hl.2)))
  · simp only [ilt_ln hi, inb_ln hi, ix_ln hi, cT, wadd_up hi hl.1]
  · simp only [ilt_end, cF]
    rfl
theorem holds_s_l21Mon : Holds Try.prog 32 run_s_l21Mon := by
  refine holds_of_eval (engQ_ok ctrA2_ok mct0_ok pct0_ok tct0_ok) (fn_ok (by kernel_rfl)) ?_
  intro avs rs hr h
  have hb := allB_of_rep hr
  unfold run_s_l21Mon at h
  split at h
  · rename_i a0_0 a0_1 a0_2 a0_3 a0_4 a0_5 a0_6 a0_7 a0_8
    obtain ⟨hc, rfl⟩ := some_pair h
    obtain ⟨N, hN⟩ := law_s_l21Mon (⟨a0_0, a0_1, a0_2, a0_3, a0_4, a0_5, a0_6, a0_7, a0_8⟩ : Mon) hb hc
    exact ⟨tms_s_l21Mon, N, 12, (nf_s_l21Mon N (⟨a0_0, a0_1, a0_2, a0_3, a0_4, a0_5, a0_6, a0_7, a0_8⟩ : Mon)).trans hN⟩
  · cases h

noncomputable def ctrA3 : Ctrs := [(32, run_s_l21Mon)] ++ ctrA2

theorem ctrA3_ok : ∀ f run, aget ctrA3 f = some run → Holds Try.prog f run := ctr_more ctrA2_ok (by
  intro x hx
  simp only [List.mem_cons, List.not_mem_nil, or_false] at hx
  rcases hx with rfl
  · exact holds_s_l21Mon)


noncomputable def s_MonAt_c (h : Host) (_ : Int) : Bool := pc (SmHost h)
def s_MonAt_1 (h : Host) (m : Int) : Mon := bif hasB m (ln h.Mons) then ix h.Mons m (Ty.dflt .mon) else Ty.dflt .mon
def s_MonAt_2 (h : Host) (m : Int) : Bool := hasB m (ln h.Mons)
noncomputable def run_s_MonAt : List AV → Option (Bool × List AV)
  | [.agg [.s (.sl .int) a0_0, .s .mon a0_1, .s .entry a0_2, .s .entry a0_3], .one (.i .i64 a1)] => some ((s_MonAt_c (⟨a0_0, a0_1, a0_2, a0_3⟩ : Host) a1), [.agg (Ty.cells .mon (s_MonAt_1 (⟨a0_0, a0_1, a0_2, a0_3⟩ : Host) a1)), .one (.b (s_MonAt_2 (⟨a0_0, a0_1, a0_2, a0_3⟩ : Host) a1))])
  | _ => none

noncomputable def E_s_MonAt (N : Nat) (a0 : Host) (a1 : Int) : Option Ans :=
  (bif (s_l01In_c a1 0 (wsub .i64 (ln a0.Mons) 1)) then (bif (bif (s_l01In a1 0 (wsub .i64 (ln a0.Mons) 1)) then false else true) then (some [(.agg [(.s .slot []), (.s (.sl .int) []), (.s .bool []), (.s .guest []), (.s .int []), (.i .i64 0), (.i .i64 0), (.s .kept []), (.i .i64 0)]), (.one (.b false))]) else (bif (inb a1 (ln a0.Mons)) then (bif (s_l21Mon_c (ix a0.Mons a1 (Ty.dflt .mon))) then (some [(.agg [(.s .slot (s_l21Mon (ix a0.Mons a1 (Ty.dflt .mon))).Outer), (.s (.sl .int) (s_l21Mon (ix a0.Mons a1 (Ty.dflt .mon))).Out), (.s .bool (s_l21Mon (ix a0.Mons a1 (Ty.dflt .mon))).Dirty), (.s .guest (s_l21Mon (ix a0.Mons a1 (Ty.dflt .mon))).Guests), (.s .int (s_l21Mon (ix a0.Mons a1 (Ty.dflt .mon))).Outs), (.i .i64 (s_l21Mon (ix a0.Mons a1 (Ty.dflt .mon))).Pending), (.i .i64 (s_l21Mon (ix a0.Mons a1 (Ty.dflt .mon))).Traps), (.s .kept (s_l21Mon (ix a0.Mons a1 (Ty.dflt .mon))).Tables), (.i .i64 (s_l21Mon (ix a0.Mons a1 (Ty.dflt .mon))).Own)]), (.one (.b true))]) else none) else none)) else none)

theorem nf_s_MonAt (N : Nat) (a0 : Host) (a1 : Int) : evalFn (cfgQ (aget ctrA3) (aget mct0) (aget pct0) (aget tct0)) (tmsOf []) N 12 16 [.agg (hostC a0), .one (.i .i64 a1)] = E_s_MonAt N a0 a1 := by kernel_rfl

theorem law_s_MonAt (a0 : Host) (a1 : Int) (hb : AllB big [.agg (hostC a0), .one (.i .i64 a1)]) (hc : (s_MonAt_c a0 a1) = true) : ∃ N, E_s_MonAt N a0 a1 = some [.agg (Ty.cells .mon (s_MonAt_1 a0 a1)), .one (.b (s_MonAt_2 a0 a1))] := by
  have h := (pc_iff.1 hc).mons
  refine ⟨0, ?_⟩
  unfold E_s_MonAt s_MonAt_1 s_MonAt_2
  have e : s_l01In a1 0 (wsub .i64 (ln a0.Mons) 1) = hasB a1 (ln a0.Mons) := l01In_len (sm_big h.len).1 a1
  rw [e]
  cases hh : hasB a1 (ln a0.Mons)
  · simp [s_l01In_c, Ty.cells, Ty.dflt]
  · have h2 : s_l21Mon_c (ix a0.Mons a1 (Ty.dflt .mon)) = true := pc_true (h.inv.2 _ (ix_mem hh _))
    simp only [s_l01In_c, cT, Bool.not_true, cF, inb_has hh, h2]
    rfl
theorem holds_s_MonAt : Holds Try.prog 16 run_s_MonAt := by
  refine holds_of_eval (engQ_ok ctrA3_ok mct0_ok pct0_ok tct0_ok) (fn_ok (by kernel_rfl)) ?_
  intro avs rs hr h
  have hb := allB_of_rep hr
  unfold run_s_MonAt at h
  split at h
  · rename_i a0_0 a0_1 a0_2 a0_3 a1
    obtain ⟨hc, rfl⟩ := some_pair h
    obtain ⟨N, hN⟩ := law_s_MonAt (⟨a0_0, a0_1, a0_2, a0_3⟩ : Host) a1 hb hc
    exact ⟨tmsOf [], N, 12, (nf_s_MonAt N (⟨a0_0, a0_1, a0_2, a0_3⟩ : Host) a1).trans hN⟩
  · cases h


/-- The pages of a table that are mapped. -/
def mapped (l : List Slot) (n : Int) : Int := match l with
  | [] => n
  | s :: l => mapped l (bif ine s.Page (-1) then wadd .i64 n 1 else n)

theorem goL_mapped {ρ : Type} (K : Int → Option ρ) : ∀ (l : List Slot) (i : Nat) (n : Int),
    goL (fun _ (s : Slot) (n : Int) k => bif ine s.Page (-1) then k (wadd .i64 n 1) else k n) K l i n = K (mapped l n)
  | [], _, _ => rfl
  | s :: l, i, n => by
    simp only [goL, mapped]
    cases ine s.Page (-1) <;> exact goL_mapped K l _ _


noncomputable def ctrA4 : Ctrs := [(16, run_s_MonAt)] ++ ctrA3

theorem ctrA4_ok : ∀ f run, aget ctrA4 f = some run → Holds Try.prog f run := ctr_more ctrA3_ok (by
  intro x hx
  simp only [List.mem_cons, List.not_mem_nil, or_false] at hx
  rcases hx with rfl
  · exact holds_s_MonAt)


def inUse (h : Host) (m : Int) : Int := bif hasB m (ln h.Mons) then mapped (ix h.Mons m (Ty.dflt .mon)).Outer 0 else 0
noncomputable def ctrA5 : Ctrs := ctrA4
theorem ctrA5_ok : ∀ f run, aget ctrA5 f = some run → Holds Try.prog f run := ctrA4_ok


noncomputable def ctrY : Ctrs := ctrA5
theorem ctrY_ok : ∀ f run, aget ctrY f = some run → Holds Try.prog f run := ctrA5_ok

/-! The beginning of a law: what was read is of a bounded size. -/

theorem szHost_pos {h : Host} {n : Int} (h0 : 0 ≤ n) (h1 : n ≤ 1048576) (hp : ilt (l_szHost h n) 0 = false) : SmHost h ∧ 0 ≤ l_szHost h n ∧ l_szHost h n ≤ 1048576 := by
  have hp' : ¬ l_szHost h n < 0 := of_decide_eq_false hp
  obtain ⟨a, b⟩ := l_szHost_S h n h0 h1
  exact ⟨b (by omega), by omega, by omega⟩
theorem szHost_c0 (h : Host) : l_szHost_c h 1048576 = true := pc_true (by omega)
theorem toHost_c {h : Host} (hs : SmHost h) : l_toHost_c h = true := pc_true hs
theorem eqHost_c (h : Host) : l_eqHost_c h h = true := pc_true rfl
theorem toHost_id (h : Host) : l_toHost h = h := rfl
theorem eqHost_t (h : Host) : l_eqHost h h = true := rfl

end Go.Proofs.Ytkpakifgplcolaa.E
