/- What is proved here: contracts of functions of a whole machine: copies, whether one is in order. -/
import Derived.Test.YtaccllfkapkahaaGreatA10
import Derived.KernelRfl
namespace Go.Proofs.YtaccllfkapkahaaGreat.E
open Go
set_option maxRecDepth 100000
set_option linter.unusedVariables false
set_option linter.unusedSimpArgs false
set_option linter.unusedSectionVars false

/-! Sizes. -/
def SmK (k : Kept) : Prop := k.Known.length ≤ 1048576 ∧ k.Slots.length ≤ 1048576
def SmKs (l : List Kept) : Prop := l.length ≤ 1048576 ∧ ∀ x ∈ l, SmK x
def SmMon (m : Mon) : Prop := m.Outer.length ≤ 1048576 ∧ SmM m.Out ∧ m.Dirty.length ≤ 1048576 ∧ SmGs m.Guests ∧ m.Outs.length ≤ 1048576 ∧ SmKs m.Tables
def SmMons (l : List Mon) : Prop := l.length ≤ 1048576 ∧ ∀ x ∈ l, SmMon x
def SmH (h : Host) : Prop := SmM h.Memory ∧ SmMons h.Mons ∧ h.Buffer.length ≤ 1048576 ∧ h.IoBuffer.length ≤ 1048576
@[simp] theorem cells_k (k : Kept) : (∀ c ∈ Ty.cells .kept k, CVB sm c) ↔ SmK k := by simp [Ty.cells, SmK, sm_v]
@[simp] theorem cvb_kept (l : List Kept) : CVB sm (.s .kept l) ↔ SmKs l := by rw [cvb_s]; simp only [cells_k]; rfl
@[simp] theorem cells_m (m : Mon) : (∀ c ∈ Ty.cells .mon m, CVB sm c) ↔ SmMon m := by
  simp only [Ty.cells, List.mem_cons, List.not_mem_nil, or_false, forall_eq_or_imp, forall_eq, cvb_mem, cvb_guest, cvb_kept, cvb_int_sm, cvb_slot_sm, cvb_bool_sm, cvb_i, and_true, true_and]
  rfl
@[simp] theorem cvb_mon (l : List Mon) : CVB sm (.s .mon l) ↔ SmMons l := by rw [cvb_s]; simp only [cells_m]; rfl
@[simp] theorem smHost_iff (h : Host) : SmHost h ↔ SmH h := by
  unfold SmHost
  simp only [hostC, List.mem_cons, List.not_mem_nil, or_false, forall_eq_or_imp, forall_eq, cvb_mem, cvb_mon, cvb_entry_sm]
  rfl
theorem pc_t {p : Prop} (h : p) : pc p = true := pc_true h
theorem smKs_up {l : List Kept} {i : Int} {x : Kept} (h : SmKs l) (hx : SmK x) : SmKs (up l i x) := by
  refine ⟨by simpa using h.1, fun y hy => ?_⟩
  rcases List.mem_or_eq_of_mem_set hy with hy | rfl
  · exact h.2 y hy
  · exact hx
theorem smMons_up {l : List Mon} {i : Int} {x : Mon} (h : SmMons l) (hx : SmMon x) : SmMons (up l i x) := by
  refine ⟨by simpa using h.1, fun y hy => ?_⟩
  rcases List.mem_or_eq_of_mem_set hy with hy | rfl
  · exact h.2 y hy
  · exact hx
theorem few_of' {α : Type} {l : List α} (h : l.length ≤ 1048576) : few (ln (ap [] l)) = true := by
  rw [ap_nil, few_len]; omega

/-! Copies. -/
@[simp, reducible] noncomputable def s_l21Copy_c (h : Host) : Bool := pc (SmHost h)
@[simp, reducible] def s_l21Copy (h : Host) : Host := h
noncomputable def run_s_l21Copy : List AV → Option (Bool × List AV)
  | [.agg [.s (.sl .int) a0_0, .s .mon a0_1, .s .entry a0_2, .s .entry a0_3]] => some ((s_l21Copy_c (⟨a0_0, a0_1, a0_2, a0_3⟩ : Host)), [.agg (hostC (s_l21Copy (⟨a0_0, a0_1, a0_2, a0_3⟩ : Host)))])
  | _ => none

noncomputable def E_s_l21Copy (N : Nat) (a0 : Host) : Option Ans :=
  (bif (s_l04Copy_c a0.Memory) then (bif (few (ln (ap [] a0.Buffer))) then (bif (few (ln (ap [] a0.IoBuffer))) then (iter (σ := (Int × ((List (List Int)) × ((List Mon) × ((List Entry) × ((List Entry) × ((List (List Int)) × ((List Mon) × ((List Entry) × ((List Entry) × ((List (List Int)) × ((List Mon) × ((List Entry) × ((List Entry) × Unit)))))))))))))) N (fun r2 s3 => (bif (ilt s3.1 (ln s3.2.2.1)) then (bif (inb s3.1 (ln s3.2.2.1)) then (bif (s_l21Mon_c (ix s3.2.2.1 s3.1 (Ty.dflt .mon))) then (bif (few (ln (ap s3.2.2.2.2.2.2.2.2.2.2.1 [(s_l21Mon (ix s3.2.2.1 s3.1 (Ty.dflt .mon)))]))) then (r2 ((wadd .i64 s3.1 1), (s3.2.1, (s3.2.2.1, (s3.2.2.2.1, (s3.2.2.2.2.1, (s3.2.2.2.2.2.1, (s3.2.2.2.2.2.2.1, (s3.2.2.2.2.2.2.2.1, (s3.2.2.2.2.2.2.2.2.1, (s3.2.2.2.2.2.2.2.2.2.1, ((ap s3.2.2.2.2.2.2.2.2.2.2.1 [(s_l21Mon (ix s3.2.2.1 s3.1 (Ty.dflt .mon)))]), (s3.2.2.2.2.2.2.2.2.2.2.2.1, (s3.2.2.2.2.2.2.2.2.2.2.2.2.1, ())))))))))))))) else none) else none) else none) else (some [(.agg (hostC (⟨s3.2.2.2.2.2.2.2.2.2.1, s3.2.2.2.2.2.2.2.2.2.2.1, s3.2.2.2.2.2.2.2.2.2.2.2.1, s3.2.2.2.2.2.2.2.2.2.2.2.2.1⟩ : Host)))]))) (0, (a0.Memory, (a0.Mons, (a0.Buffer, (a0.IoBuffer, ([], ([], ([], ([], ((s_l04Copy a0.Memory), ([], ((ap [] a0.Buffer), ((ap [] a0.IoBuffer), ())))))))))))))) else none) else none) else none)

def tms_s_l21Copy : FuncId → Nat → Option Tmpl := tmsOf [(14, 0, { n := 36, tm := [(1, .lp 0 0), (2, .lp 1 0), (3, .lp 2 0), (4, .i .i64)], lo := [(0, [.sl 0 [], .sl 1 [], .sl 2 [], .sl 3 []]), (1, [.sl 4 [], .sl 5 [], .sl 6 [], .sl 7 []]), (2, [.sl 8 [], .sl 9 [], .sl 10 [], .sl 11 []])], ro := [(0, (.sl .int), false), (1, .mon, false), (2, .entry, false), (3, .entry, false), (4, (.sl .int), true), (5, .mon, true), (6, .entry, true), (7, .entry, true), (8, (.sl .int), true), (9, .mon, true), (10, .entry, true), (11, .entry, true)] })]

theorem nf_s_l21Copy (N : Nat) (a0 : Host) : evalFn (cfgQ (aget ctrN7) (aget mctC) (aget pct0) (aget tct0)) tms_s_l21Copy N 12 14 [.agg (hostC a0)] = E_s_l21Copy N a0 := by kernel_rfl

theorem law_s_l21Copy (a0 : Host) (hb : AllB big [.agg (hostC a0)]) (hc : (s_l21Copy_c a0) = true) : ∃ N, E_s_l21Copy N a0 = some [.agg (hostC (s_l21Copy a0))] := by
  obtain ⟨h1, h2, h3, h4⟩ := (smHost_iff a0).1 (pc_iff.1 hc)
  have hl := sm_big h2.1
  refine ⟨NN, ?_⟩
  have hNN : ∀ {n : Nat}, n ≤ big → n < NN := fun h => NN_lt h
  generalize NN = N at hNN ⊢
  unfold E_s_l21Copy
  refine must (pc_t ((cvb_mem _).2 h1)) (must (few_of' h3) (must (few_of' h4) ?_))
  refine (iter_list a0.Mons (fun i (t : (List Mon)) => ((i : Int), a0.Memory, a0.Mons, a0.Buffer, a0.IoBuffer, [], [], [], [], (s_l04Copy a0.Memory), t, (ap [] a0.Buffer), (ap [] a0.IoBuffer), ())) _ (fun _ x acc κ => bif s_l21Mon_c x then (bif few (ln (ap acc [s_l21Mon x])) then κ (ap acc [s_l21Mon x]) else none) else none) (fun (t : (List Mon)) => (some [(.agg (hostC (⟨(s_l04Copy a0.Memory), t, (ap [] a0.Buffer), (ap [] a0.IoBuffer)⟩ : Host)))])) (fun i hi t rec => ?_) (fun t rec => ?_) _ ([]) (hNN hl.1)).trans ?_
  · simp only [ilt_ln hi, inb_ln hi, ix_ln hi, wadd_up hi hl.1, cT]
  · simp only [ilt_end, cF]
  exact app_loop s_l21Mon_c s_l21Mon _ a0.Mons 0 [] (fun x hx => ⟨pc_t ((cells_m x).2 (h2.2 x hx)), rfl⟩) (by simpa using hl.2)
theorem holds_s_l21Copy : Holds Tryz.prog 14 run_s_l21Copy := by
  refine holds_of_eval (engQ_ok ctrN7_ok mctC_ok pct0_ok tct0_ok) (fn_ok (by kernel_rfl)) ?_
  intro avs rs hr h
  have hb := allB_of_rep hr
  unfold run_s_l21Copy at h
  split at h
  · rename_i a0_0 a0_1 a0_2 a0_3
    obtain ⟨hc, rfl⟩ := some_pair h
    obtain ⟨N, hN⟩ := law_s_l21Copy (⟨a0_0, a0_1, a0_2, a0_3⟩ : Host) hb hc
    exact ⟨tms_s_l21Copy, N, 12, (nf_s_l21Copy N (⟨a0_0, a0_1, a0_2, a0_3⟩ : Host)).trans hN⟩
  · cases h

@[simp, reducible] noncomputable def i_copyKept_c (k : Kept) : Bool := pc (SmK k)
@[simp, reducible] def i_copyKept (k : Kept) : Kept := k
noncomputable def run_i_copyKept : List AV → Option (Bool × List AV)
  | [.agg [.s .bool a0_0, .s .slot a0_1]] => some ((i_copyKept_c (⟨a0_0, a0_1⟩ : Kept)), [.agg (Ty.cells .kept (i_copyKept (⟨a0_0, a0_1⟩ : Kept)))])
  | _ => none

noncomputable def E_i_copyKept (N : Nat) (a0 : Kept) : Option Ans :=
  (bif (few (ln (ap [] a0.Known))) then (bif (i_copyTable_c a0.Slots) then (some [(.agg (Ty.cells .kept (⟨(ap [] a0.Known), (i_copyTable a0.Slots)⟩ : Kept)))]) else none) else none)

theorem nf_i_copyKept (N : Nat) (a0 : Kept) : evalFn (cfgQ (aget ctrN7) (aget mctC) (aget pct0) (aget tct0)) (tmsOf []) N 12 84 [.agg (Ty.cells .kept a0)] = E_i_copyKept N a0 := by kernel_rfl

theorem law_i_copyKept (a0 : Kept) (hb : AllB big [.agg (Ty.cells .kept a0)]) (hc : (i_copyKept_c a0) = true) : ∃ N, E_i_copyKept N a0 = some [.agg (Ty.cells .kept (i_copyKept a0))] := by
  have hs := pc_iff.1 hc; obtain ⟨h1, h2⟩ := hs; have hs1 : a0.Known.length ≤ 2147483648 := (by omega); have hs2 : a0.Slots.length ≤ 2147483648 := (by omega)
  refine ⟨0, ?_⟩
  unfold E_i_copyKept
  refine must (by first | assumption | (simp_all <;> omega)) ?_
  refine must (by first | assumption | (simp_all <;> omega)) ?_
  first | rfl | (simp only [i_copyKept, cT, cF] <;> rfl) | (simp_all [Ty.cells, i_copyKept]; done)
theorem holds_i_copyKept : Holds Tryz.prog 84 run_i_copyKept := by
  refine holds_of_eval (engQ_ok ctrN7_ok mctC_ok pct0_ok tct0_ok) (fn_ok (by kernel_rfl)) ?_
  intro avs rs hr h
  have hb := allB_of_rep hr
  unfold run_i_copyKept at h
  split at h
  · rename_i a0_0 a0_1
    obtain ⟨hc, rfl⟩ := some_pair h
    obtain ⟨N, hN⟩ := law_i_copyKept (⟨a0_0, a0_1⟩ : Kept) hb hc
    exact ⟨tmsOf [], N, 12, (nf_i_copyKept N (⟨a0_0, a0_1⟩ : Kept)).trans hN⟩
  · cases h

noncomputable def ctrJ1 : Ctrs := [(14, run_s_l21Copy), (84, run_i_copyKept)] ++ ctrN7

theorem ctrJ1_ok : ∀ f run, aget ctrJ1 f = some run → Holds Tryz.prog f run := ctr_more ctrN7_ok (by
  intro x hx
  simp only [List.mem_cons, List.not_mem_nil, or_false] at hx
  rcases hx with rfl | rfl
  · exact holds_s_l21Copy
  · exact holds_i_copyKept)

@[simp, reducible] noncomputable def i_copyMon_c (m : Mon) : Bool := pc (SmMon m)
@[simp, reducible] def i_copyMon (m : Mon) : Mon := m
noncomputable def run_i_copyMon : List AV → Option (Bool × List AV)
  | [.agg [.s .slot a0_0, .s (.sl .int) a0_1, .s .bool a0_2, .s .guest a0_3, .s .int a0_4, .i .i64 a0_5, .i .i64 a0_6, .s .kept a0_7, .i .i64 a0_8]] => some ((i_copyMon_c (⟨a0_0, a0_1, a0_2, a0_3, a0_4, a0_5, a0_6, a0_7, a0_8⟩ : Mon)), [.agg (Ty.cells .mon (i_copyMon (⟨a0_0, a0_1, a0_2, a0_3, a0_4, a0_5, a0_6, a0_7, a0_8⟩ : Mon)))])
  | _ => none

noncomputable def E_i_copyMon (N : Nat) (a0 : Mon) : Option Ans :=
  (bif (i_copyTable_c a0.Outer) then (bif (i_copyMem_c a0.Out) then (bif (few (ln (ap [] a0.Dirty))) then (bif (i_copyGuests_c a0.Guests) then (bif (i_copyInts_c a0.Outs) then (iter (σ := (Int × (Int × (Int × (Int × (Int × (Int × (Int × (Int × ((List Kept) × ((List Kept) × ((List Slot) × ((List (List Int)) × ((List Bool) × ((List Guest) × ((List Int) × ((List Slot) × ((List (List Int)) × ((List Bool) × ((List Guest) × ((List Int) × ((List Kept) × Unit)))))))))))))))))))))) N (fun r2 s3 => (bif (ilt s3.2.1 s3.1) then (bif (inb s3.2.1 (ln s3.2.2.2.2.2.2.2.2.2.1)) then (bif (i_copyKept_c (ix s3.2.2.2.2.2.2.2.2.2.1 s3.2.1 (Ty.dflt .kept))) then (bif (few (ln (ap s3.2.2.2.2.2.2.2.2.1 [(i_copyKept (ix s3.2.2.2.2.2.2.2.2.2.1 s3.2.1 (Ty.dflt .kept)))]))) then (r2 (s3.1, ((wadd .i64 s3.2.1 1), (s3.2.2.1, (s3.2.2.2.1, (s3.2.2.2.2.1, (s3.2.2.2.2.2.1, (s3.2.2.2.2.2.2.1, (s3.2.2.2.2.2.2.2.1, ((ap s3.2.2.2.2.2.2.2.2.1 [(i_copyKept (ix s3.2.2.2.2.2.2.2.2.2.1 s3.2.1 (Ty.dflt .kept)))]), (s3.2.2.2.2.2.2.2.2.2.1, (s3.2.2.2.2.2.2.2.2.2.2.1, (s3.2.2.2.2.2.2.2.2.2.2.2.1, (s3.2.2.2.2.2.2.2.2.2.2.2.2.1, (s3.2.2.2.2.2.2.2.2.2.2.2.2.2.1, (s3.2.2.2.2.2.2.2.2.2.2.2.2.2.2.1, (s3.2.2.2.2.2.2.2.2.2.2.2.2.2.2.2.1, (s3.2.2.2.2.2.2.2.2.2.2.2.2.2.2.2.2.1, (s3.2.2.2.2.2.2.2.2.2.2.2.2.2.2.2.2.2.1, (s3.2.2.2.2.2.2.2.2.2.2.2.2.2.2.2.2.2.2.1, (s3.2.2.2.2.2.2.2.2.2.2.2.2.2.2.2.2.2.2.2.1, (s3.2.2.2.2.2.2.2.2.2.2.2.2.2.2.2.2.2.2.2.2.1, ())))))))))))))))))))))) else none) else none) else none) else (some [(.agg (Ty.cells .mon (⟨s3.2.2.2.2.2.2.2.2.2.2.1, s3.2.2.2.2.2.2.2.2.2.2.2.1, s3.2.2.2.2.2.2.2.2.2.2.2.2.1, s3.2.2.2.2.2.2.2.2.2.2.2.2.2.1, s3.2.2.2.2.2.2.2.2.2.2.2.2.2.2.1, s3.2.2.1, s3.2.2.2.1, s3.2.2.2.2.2.2.2.2.1, s3.2.2.2.2.1⟩ : Mon)))]))) ((ln a0.Tables), (0, (a0.Pending, (a0.Traps, (a0.Own, (0, (0, (0, ([], (a0.Tables, ((i_copyTable a0.Outer), ((i_copyMem a0.Out), ((ap [] a0.Dirty), ((i_copyGuests a0.Guests), ((i_copyInts a0.Outs), ([], ([], ([], ([], ([], ([], ())))))))))))))))))))))) else none) else none) else none) else none) else none)

def tms_i_copyMon : FuncId → Nat → Option Tmpl := tmsOf [(46, 0, { n := 44, tm := [(1, .lp 0 0), (2, .lp 1 0), (3, .sl 0 []), (29, .sl 1 []), (30, .i .i64), (31, .i .i64)], lo := [(0, [.sl 2 [], .sl 3 [], .sl 4 [], .sl 5 [], .sl 6 [], .i .i64, .i .i64, .sl 1 [], .i .i64]), (1, [.sl 7 [], .sl 8 [], .sl 9 [], .sl 10 [], .sl 11 [], .i .i64, .i .i64, .sl 12 [], .i .i64])], ro := [(0, .kept, true), (1, .kept, false), (2, .slot, true), (3, (.sl .int), true), (4, .bool, true), (5, .guest, true), (6, .int, true), (7, .slot, true), (8, (.sl .int), true), (9, .bool, true), (10, .guest, true), (11, .int, true), (12, .kept, true)] })]

theorem nf_i_copyMon (N : Nat) (a0 : Mon) : evalFn (cfgQ (aget ctrJ1) (aget mctC) (aget pct0) (aget tct0)) tms_i_copyMon N 12 46 [.agg (Ty.cells .mon a0)] = E_i_copyMon N a0 := by kernel_rfl

theorem law_i_copyMon (a0 : Mon) (hb : AllB big [.agg (Ty.cells .mon a0)]) (hc : (i_copyMon_c a0) = true) : ∃ N, E_i_copyMon N a0 = some [.agg (Ty.cells .mon (i_copyMon a0))] := by
  obtain ⟨h1, h2, h3, h4, h5, h6⟩ := pc_iff.1 hc
  have hl := sm_big h6.1
  refine ⟨NN, ?_⟩
  have hNN : ∀ {n : Nat}, n ≤ big → n < NN := fun h => NN_lt h
  generalize NN = N at hNN ⊢
  unfold E_i_copyMon
  have c1 : i_copyTable_c a0.Outer = true := by simp; omega
  have c2 : i_copyMem_c a0.Out = true := by simp; exact h2
  have c4 : i_copyGuests_c a0.Guests = true := by simp; exact h4
  have c5 : i_copyInts_c a0.Outs = true := by simp; omega
  refine must c1 (must c2 (must (few_of' h3) (must c4 (must c5 ?_))))
  refine (iter_list a0.Tables (fun i (t : (List Kept)) => ((ln a0.Tables), (i : Int), a0.Pending, a0.Traps, a0.Own, 0, 0, 0, t, a0.Tables, (i_copyTable a0.Outer), (i_copyMem a0.Out), (ap [] a0.Dirty), (i_copyGuests a0.Guests), (i_copyInts a0.Outs), [], [], [], [], [], [], ())) _ (fun _ x acc κ => bif i_copyKept_c x then (bif few (ln (ap acc [i_copyKept x])) then κ (ap acc [i_copyKept x]) else none) else none) (fun (t : (List Kept)) => (some [(.agg (Ty.cells .mon (⟨(i_copyTable a0.Outer), (i_copyMem a0.Out), (ap [] a0.Dirty), (i_copyGuests a0.Guests), (i_copyInts a0.Outs), a0.Pending, a0.Traps, t, a0.Own⟩ : Mon)))])) (fun i hi t rec => ?_) (fun t rec => ?_) _ ([]) (hNN hl.1)).trans ?_
  · simp only [ilt_ln hi, inb_ln hi, ix_ln hi, wadd_up hi hl.1, cT]
  · simp only [ilt_end, cF]
  exact app_loop i_copyKept_c i_copyKept _ a0.Tables 0 [] (fun x hx => ⟨pc_t (h6.2 x hx), rfl⟩) (by simpa using hl.2)
theorem holds_i_copyMon : Holds Tryz.prog 46 run_i_copyMon := by
  refine holds_of_eval (engQ_ok ctrJ1_ok mctC_ok pct0_ok tct0_ok) (fn_ok (by kernel_rfl)) ?_
  intro avs rs hr h
  have hb := allB_of_rep hr
  unfold run_i_copyMon at h
  split at h
  · rename_i a0_0 a0_1 a0_2 a0_3 a0_4 a0_5 a0_6 a0_7 a0_8
    obtain ⟨hc, rfl⟩ := some_pair h
    obtain ⟨N, hN⟩ := law_i_copyMon (⟨a0_0, a0_1, a0_2, a0_3, a0_4, a0_5, a0_6, a0_7, a0_8⟩ : Mon) hb hc
    exact ⟨tms_i_copyMon, N, 12, (nf_i_copyMon N (⟨a0_0, a0_1, a0_2, a0_3, a0_4, a0_5, a0_6, a0_7, a0_8⟩ : Mon)).trans hN⟩
  · cases h

noncomputable def ctrJ2 : Ctrs := [(46, run_i_copyMon)] ++ ctrJ1

theorem ctrJ2_ok : ∀ f run, aget ctrJ2 f = some run → Holds Tryz.prog f run := ctr_more ctrJ1_ok (by
  intro x hx
  simp only [List.mem_cons, List.not_mem_nil, or_false] at hx
  rcases hx with rfl
  · exact holds_i_copyMon)

@[simp, reducible] noncomputable def i_copyHost_c (h : Host) : Bool := pc (SmHost h)
@[simp, reducible] def i_copyHost (h : Host) : Host := h
noncomputable def run_i_copyHost : List AV → Option (Bool × List AV)
  | [.agg [.s (.sl .int) a0_0, .s .mon a0_1, .s .entry a0_2, .s .entry a0_3]] => some ((i_copyHost_c (⟨a0_0, a0_1, a0_2, a0_3⟩ : Host)), [.agg (hostC (i_copyHost (⟨a0_0, a0_1, a0_2, a0_3⟩ : Host)))])
  | _ => none

noncomputable def E_i_copyHost (N : Nat) (a0 : Host) : Option Ans :=
  (bif (i_copyMem_c a0.Memory) then (bif (few (ln (ap [] a0.Buffer))) then (bif (few (ln (ap [] a0.IoBuffer))) then (iter (σ := (Int × (Int × ((List Mon) × ((List (List Int)) × ((List Mon) × ((List Entry) × ((List Entry) × ((List (List Int)) × ((List Mon) × ((List Entry) × ((List Entry) × Unit)))))))))))) N (fun r2 s3 => (bif (ilt s3.2.1 s3.1) then (bif (inb s3.2.1 (ln s3.2.2.1)) then (bif (i_copyMon_c (ix s3.2.2.1 s3.2.1 (Ty.dflt .mon))) then (bif (few (ln (ap s3.2.2.2.2.2.2.2.2.1 [(i_copyMon (ix s3.2.2.1 s3.2.1 (Ty.dflt .mon)))]))) then (r2 (s3.1, ((wadd .i64 s3.2.1 1), (s3.2.2.1, (s3.2.2.2.1, (s3.2.2.2.2.1, (s3.2.2.2.2.2.1, (s3.2.2.2.2.2.2.1, (s3.2.2.2.2.2.2.2.1, ((ap s3.2.2.2.2.2.2.2.2.1 [(i_copyMon (ix s3.2.2.1 s3.2.1 (Ty.dflt .mon)))]), (s3.2.2.2.2.2.2.2.2.2.1, (s3.2.2.2.2.2.2.2.2.2.2.1, ())))))))))))) else none) else none) else none) else (some [(.agg (hostC (⟨s3.2.2.2.2.2.2.2.1, s3.2.2.2.2.2.2.2.2.1, s3.2.2.2.2.2.2.2.2.2.1, s3.2.2.2.2.2.2.2.2.2.2.1⟩ : Host)))]))) ((ln a0.Mons), (0, (a0.Mons, ([], ([], ([], ([], ((i_copyMem a0.Memory), ([], ((ap [] a0.Buffer), ((ap [] a0.IoBuffer), ())))))))))))) else none) else none) else none)

def tms_i_copyHost : FuncId → Nat → Option Tmpl := tmsOf [(20, 0, { n := 34, tm := [(2, .lp 0 0), (3, .lp 1 0), (19, .sl 0 []), (20, .i .i64), (21, .i .i64)], lo := [(0, [.sl 1 [], .sl 2 [], .sl 3 [], .sl 4 []]), (1, [.sl 5 [], .sl 6 [], .sl 7 [], .sl 8 []])], ro := [(0, .mon, false), (1, (.sl .int), true), (2, .mon, true), (3, .entry, true), (4, .entry, true), (5, (.sl .int), true), (6, .mon, true), (7, .entry, true), (8, .entry, true)] })]

theorem nf_i_copyHost (N : Nat) (a0 : Host) : evalFn (cfgQ (aget ctrJ2) (aget mctC) (aget pct0) (aget tct0)) tms_i_copyHost N 12 20 [.agg (hostC a0)] = E_i_copyHost N a0 := by kernel_rfl

theorem law_i_copyHost (a0 : Host) (hb : AllB big [.agg (hostC a0)]) (hc : (i_copyHost_c a0) = true) : ∃ N, E_i_copyHost N a0 = some [.agg (hostC (i_copyHost a0))] := by
  obtain ⟨h1, h2, h3, h4⟩ := (smHost_iff a0).1 (pc_iff.1 hc)
  have hl := sm_big h2.1
  refine ⟨NN, ?_⟩
  have hNN : ∀ {n : Nat}, n ≤ big → n < NN := fun h => NN_lt h
  generalize NN = N at hNN ⊢
  unfold E_i_copyHost
  have c1 : i_copyMem_c a0.Memory = true := by simp; exact h1
  refine must c1 (must (few_of' h3) (must (few_of' h4) ?_))
  refine (iter_list a0.Mons (fun i (t : (List Mon)) => ((ln a0.Mons), (i : Int), a0.Mons, [], [], [], [], (i_copyMem a0.Memory), t, (ap [] a0.Buffer), (ap [] a0.IoBuffer), ())) _ (fun _ x acc κ => bif i_copyMon_c x then (bif few (ln (ap acc [i_copyMon x])) then κ (ap acc [i_copyMon x]) else none) else none) (fun (t : (List Mon)) => (some [(.agg (hostC (⟨(i_copyMem a0.Memory), t, (ap [] a0.Buffer), (ap [] a0.IoBuffer)⟩ : Host)))])) (fun i hi t rec => ?_) (fun t rec => ?_) _ ([]) (hNN hl.1)).trans ?_
  · simp only [ilt_ln hi, inb_ln hi, ix_ln hi, wadd_up hi hl.1, cT]
  · simp only [ilt_end, cF]
  exact app_loop i_copyMon_c i_copyMon _ a0.Mons 0 [] (fun x hx => ⟨pc_t (h2.2 x hx), rfl⟩) (by simpa using hl.2)
theorem holds_i_copyHost : Holds Tryz.prog 20 run_i_copyHost := by
  refine holds_of_eval (engQ_ok ctrJ2_ok mctC_ok pct0_ok tct0_ok) (fn_ok (by kernel_rfl)) ?_
  intro avs rs hr h
  have hb := allB_of_rep hr
  unfold run_i_copyHost at h
  split at h
  · rename_i a0_0 a0_1 a0_2 a0_3
    obtain ⟨hc, rfl⟩ := some_pair h
    obtain ⟨N, hN⟩ := law_i_copyHost (⟨a0_0, a0_1, a0_2, a0_3⟩ : Host) hb hc
    exact ⟨tms_i_copyHost, N, 12, (nf_i_copyHost N (⟨a0_0, a0_1, a0_2, a0_3⟩ : Host)).trans hN⟩
  · cases h


/-! Buffers. -/
def allI {α : Type} (p : Nat → α → Bool) : List α → Nat → Bool
  | [], _ => true
  | x :: l, i => p i x && allI p l (i + 1)
theorem goL_allI {α ρ : Type} (p : Nat → α → Bool) (r : Option ρ) (K : Unit → Option ρ) : ∀ (l : List α) (i : Nat), goL (fun i x (_ : Unit) k => bif p i x then k () else r) K l i () = bif allI p l i then K () else r
  | [], _ => rfl
  | x :: l, i => by
    simp only [goL, allI]
    cases p i x
    · rfl
    · simp only [cT, Bool.true_and]
      exact goL_allI p r K l (i + 1)
theorem allN_take {α : Type} (q : α → Bool) (l : List α) (d : α) : ∀ (n i : Nat), i + n ≤ l.length → allN (fun j => q (ix l (j : Int) d)) n i = ((l.drop i).take n).all q
  | 0, i, _ => by simp [allN]
  | n + 1, i, h => by
    have hi : i < l.length := by omega
    rw [List.drop_eq_getElem_cons hi, List.take_succ_cons, List.all_cons, ← allN_take q l d n (i + 1) (by omega)]
    simp only [allN, ix_ln hi]
theorem allN_all {α : Type} (q : Nat → α → Bool) (l : List α) (d : α) : ∀ (n i : Nat), i + n = l.length → allN (fun j => q j (ix l (j : Int) d)) n i = allI q (l.drop i) i
  | 0, i, h => by
    have : i = l.length := by omega
    subst this
    simp [allN, allI]
  | n + 1, i, h => by
    have hi : i < l.length := by omega
    rw [List.drop_eq_getElem_cons hi]
    simp only [allN, allI, ix_ln hi]
    rw [allN_all q l d n (i + 1) (by omega)]
def sameKey (a b : Entry) : Bool := bif ieq a.Tag b.Tag then ieq a.Page b.Page else false
def alone (l : List Entry) (i : Nat) (x : Entry) : Bool := (l.take i).all fun y => !sameKey x y
def bufOk (l : List Entry) : Bool := bif allI (alone l) l 0 then ile (ln l) 6 else false
theorem inr_take {α : Type} {l : List α} {i : Nat} (h : i ≤ l.length) : inr 0 (i : Int) (ln l) = true := decide_eq_true (by simp only [ln]; omega)
@[simp, reducible] def i_BufferOk_c (l : List Entry) : Bool := true
@[simp, reducible] def i_BufferOk (l : List Entry) : Bool := bufOk l
noncomputable def run_i_BufferOk : List AV → Option (Bool × List AV)
  | [.one (.s .entry a0)] => some ((i_BufferOk_c a0), [.one (.b (i_BufferOk a0))])
  | _ => none

noncomputable def E_i_BufferOk (N : Nat) (a0 : List Entry) : Option Ans :=
  (iter (σ := (Int × (Int × ((List Entry) × Unit)))) N (fun r2 s3 => (bif (ilt s3.2.1 s3.1) then (bif (inb s3.2.1 (ln s3.2.2.1)) then (bif (inr 0 s3.2.1 (ln s3.2.2.1)) then (iter (σ := (Int × (Int × (Int × (Int × (Int × (Int × (Int × (Int × ((List Entry) × ((List Entry) × Unit))))))))))) N (fun r4 s5 => (bif (ilt s5.2.2.2.1 s5.2.2.1) then (bif (inb s5.2.2.2.1 (ln s5.2.2.2.2.2.2.2.2.2.1)) then (bif (ieq s5.2.2.2.2.1 (ix s5.2.2.2.2.2.2.2.2.2.1 s5.2.2.2.1 (Ty.dflt .entry)).Tag) then (bif (ieq s5.2.2.2.2.2.1 (ix s5.2.2.2.2.2.2.2.2.2.1 s5.2.2.2.1 (Ty.dflt .entry)).Page) then (some [(.one (.b false))]) else (r4 (s5.1, (s5.2.1, (s5.2.2.1, ((wadd .i64 s5.2.2.2.1 1), (s5.2.2.2.2.1, (s5.2.2.2.2.2.1, (s5.2.2.2.2.2.2.1, (s5.2.2.2.2.2.2.2.1, (s5.2.2.2.2.2.2.2.2.1, (s5.2.2.2.2.2.2.2.2.2.1, ())))))))))))) else (r4 (s5.1, (s5.2.1, (s5.2.2.1, ((wadd .i64 s5.2.2.2.1 1), (s5.2.2.2.2.1, (s5.2.2.2.2.2.1, (s5.2.2.2.2.2.2.1, (s5.2.2.2.2.2.2.2.1, (s5.2.2.2.2.2.2.2.2.1, (s5.2.2.2.2.2.2.2.2.2.1, ())))))))))))) else none) else (r2 (s5.1, ((wadd .i64 s5.2.1 1), (s5.2.2.2.2.2.2.2.2.1, ())))))) (s3.1, (s3.2.1, ((ln (tk s3.2.2.1 s3.2.1)), (0, ((ix s3.2.2.1 s3.2.1 (Ty.dflt .entry)).Tag, ((ix s3.2.2.1 s3.2.1 (Ty.dflt .entry)).Page, ((ix s3.2.2.1 s3.2.1 (Ty.dflt .entry)).Host, ((ix s3.2.2.1 s3.2.1 (Ty.dflt .entry)).Rights, (s3.2.2.1, ((tk s3.2.2.1 s3.2.1), ()))))))))))) else none) else none) else (some [(.one (.b (ile (ln s3.2.2.1) 6)))]))) ((ln a0), (0, (a0, ()))))

def tms_i_BufferOk : FuncId → Nat → Option Tmpl := tmsOf [(49, 0, { n := 39, tm := [(0, .sl 0 []), (7, .sl 0 []), (8, .i .i64), (9, .i .i64)], lo := [], ro := [(0, .entry, false)] }), (49, 2, { n := 39, tm := [(0, .sl 0 []), (4, .lp 0 0), (7, .sl 0 []), (8, .i .i64), (9, .i .i64), (16, .sl 1 []), (17, .i .i64), (18, .i .i64)], lo := [(0, [.i .i64, .i .i64, .i .i64, .i .i64])], ro := [(0, .entry, false), (1, .entry, false)] })]

theorem nf_i_BufferOk (N : Nat) (a0 : List Entry) : evalFn (cfgQ (aget ctrJ2) (aget mctC) (aget pct0) (aget tct0)) tms_i_BufferOk N 12 49 [.one (.s .entry a0)] = E_i_BufferOk N a0 := by kernel_rfl

theorem law_i_BufferOk (a0 : List Entry) (hb : AllB big [.one (.s .entry a0)]) (hc : (i_BufferOk_c a0) = true) : ∃ N, E_i_BufferOk N a0 = some [.one (.b (i_BufferOk a0))] := by
  have hl := ((allB_cons hb).1 _ (List.mem_singleton.2 rfl)).len
  refine ⟨NN, ?_⟩
  have hNN : ∀ {n : Nat}, n ≤ big → n < NN := fun h => NN_lt h
  generalize NN = N at hNN ⊢
  unfold E_i_BufferOk
  refine (iter_list a0 (fun i (t : Unit) => ((ln a0), (i : Int), a0, ())) _ (fun i (x : Entry) (_ : Unit) κ => bif alone a0 i x then κ () else some [AV.one (.b false)]) (fun (t : Unit) => (some [(.one (.b (ile (ln a0) 6)))])) (fun i hi t rec => ?_) (fun t rec => ?_) _ () (hNN hl)).trans ?_
  · simp only [ilt_ln hi, inb_ln hi, ix_ln hi, wadd_up hi hl, cT]
    rw [inr_take (Nat.le_of_lt hi), cT]
    have hk : (tk a0 (i : Int)).length ≤ big := Nat.le_trans (by simp [tk]; omega) hl
    refine (iter_list (tk a0 (i : Int)) (fun j (u : Unit) => ((ln a0), (i : Int), (ln (tk a0 (i : Int))), (j : Int), a0[i].Tag, a0[i].Page, a0[i].Host, a0[i].Rights, a0, (tk a0 (i : Int)), ())) _ (fun _ (y : Entry) (_ : Unit) κ => bif !sameKey a0[i] y then κ () else some [AV.one (.b false)]) (fun (u : Unit) => (rec ((ln a0), ((((i + 1 : Nat)) : Int), (a0, ()))))) (fun j hj u rec1 => ?_) (fun u rec1 => ?_) _ () (hNN hk)).trans ?_
    · simp only [ilt_ln hj, inb_ln hj, ix_ln hj, wadd_up hj hk, cT, wadd_up hi hl]
      unfold sameKey
      cases ieq a0[i].Tag (tk a0 (i : Int))[j].Tag <;> cases ieq a0[i].Page (tk a0 (i : Int))[j].Page <;> rfl
    · simp only [ilt_end, cF, wadd_up hi hl]
    rw [goL_all (fun y => !sameKey a0[i] y)]
    rfl
  · simp only [ilt_end, cF]
  rw [goL_allI (alone a0)]
  unfold i_BufferOk bufOk
  cases allI (alone a0) a0 0 <;> rfl
theorem holds_i_BufferOk : Holds Tryz.prog 49 run_i_BufferOk := by
  refine holds_of_eval (engQ_ok ctrJ2_ok mctC_ok pct0_ok tct0_ok) (fn_ok (by kernel_rfl)) ?_
  intro avs rs hr h
  have hb := allB_of_rep hr
  unfold run_i_BufferOk at h
  split at h
  · rename_i a0
    obtain ⟨hc, rfl⟩ := some_pair h
    obtain ⟨N, hN⟩ := law_i_BufferOk a0 hb hc
    exact ⟨tms_i_BufferOk, N, 12, (nf_i_BufferOk N a0).trans hN⟩
  · cases h

@[simp, reducible] def s_BufferOk_c (l : List Entry) : Bool := true
@[simp, reducible] def s_BufferOk (l : List Entry) : Bool := bufOk l
noncomputable def run_s_BufferOk : List AV → Option (Bool × List AV)
  | [.one (.s .entry a0)] => some ((s_BufferOk_c a0), [.one (.b (s_BufferOk a0))])
  | _ => none

noncomputable def E_s_BufferOk (N : Nat) (a0 : List Entry) : Option Ans :=
  (iter (σ := (Int × ((List Entry) × Unit))) N (fun r2 s3 => (bif (ilt s3.1 (ln s3.2.1)) then (iter (σ := (Int × (Int × ((List Entry) × Unit)))) N (fun r4 s5 => (bif (ilt s5.2.1 s5.1) then (bif (inb s5.1 (ln s5.2.2.1)) then (bif (inb s5.2.1 (ln s5.2.2.1)) then (bif (ieq (ix s5.2.2.1 s5.1 (Ty.dflt .entry)).Tag (ix s5.2.2.1 s5.2.1 (Ty.dflt .entry)).Tag) then (bif (inb s5.1 (ln s5.2.2.1)) then (bif (inb s5.2.1 (ln s5.2.2.1)) then (bif (ieq (ix s5.2.2.1 s5.1 (Ty.dflt .entry)).Page (ix s5.2.2.1 s5.2.1 (Ty.dflt .entry)).Page) then (some [(.one (.b false))]) else (r4 (s5.1, ((wadd .i64 s5.2.1 1), (s5.2.2.1, ()))))) else none) else none) else (r4 (s5.1, ((wadd .i64 s5.2.1 1), (s5.2.2.1, ()))))) else none) else none) else (r2 ((wadd .i64 s5.1 1), (s5.2.2.1, ()))))) (s3.1, (0, (s3.2.1, ())))) else (some [(.one (.b (ile (ln s3.2.1) 6)))]))) (0, (a0, ())))

def tms_s_BufferOk : FuncId → Nat → Option Tmpl := tmsOf [(73, 0, { n := 43, tm := [(0, .sl 0 []), (3, .i .i64)], lo := [], ro := [(0, .entry, false)] }), (73, 2, { n := 43, tm := [(0, .sl 0 []), (3, .i .i64), (4, .i .i64)], lo := [], ro := [(0, .entry, false)] })]

theorem nf_s_BufferOk (N : Nat) (a0 : List Entry) : evalFn (cfgQ (aget ctrJ2) (aget mctC) (aget pct0) (aget tct0)) tms_s_BufferOk N 12 73 [.one (.s .entry a0)] = E_s_BufferOk N a0 := by kernel_rfl

theorem law_s_BufferOk (a0 : List Entry) (hb : AllB big [.one (.s .entry a0)]) (hc : (s_BufferOk_c a0) = true) : ∃ N, E_s_BufferOk N a0 = some [.one (.b (s_BufferOk a0))] := by
  have hl := ((allB_cons hb).1 _ (List.mem_singleton.2 rfl)).len
  refine ⟨NN, ?_⟩
  have hNN : ∀ {n : Nat}, n ≤ big → n < NN := fun h => NN_lt h
  generalize NN = N at hNN ⊢
  unfold E_s_BufferOk
  refine (iter_list a0 (fun i (t : Unit) => ((i : Int), a0, ())) _ (fun i (x : Entry) (_ : Unit) κ => bif alone a0 i x then κ () else some [AV.one (.b false)]) (fun (t : Unit) => (some [(.one (.b (ile (ln a0) 6)))])) (fun i hi t rec => ?_) (fun t rec => ?_) _ () (hNN hl)).trans ?_
  · simp only [ilt_ln hi, inb_ln hi, ix_ln hi, wadd_up hi hl, cT]
    refine (iter_nat i (fun (j : Nat) (_ : Unit) => ((i : Int), ((j : Int), (a0, ())))) _ (fun j (_ : Unit) κ => bif !sameKey a0[i] (ix a0 (j : Int) (Ty.dflt .entry)) then κ () else some [AV.one (.b false)]) (fun _ => rec (((i + 1 : Nat) : Int), (a0, ()))) (fun j hj u rec1 => ?_) (fun u rec1 => ?_) _ () (hNN (by omega))).trans ?_
    · have hj2 : j < a0.length := by omega
      simp only [show ilt (j : Int) (i : Int) = true from decide_eq_true (by omega), inb_ln hi, inb_ln hj2, ix_ln hi, wadd_up hj2 hl, cT]
      unfold sameKey
      cases ieq a0[i].Tag (ix a0 (j : Int) (Ty.dflt .entry)).Tag <;> cases ieq a0[i].Page (ix a0 (j : Int) (Ty.dflt .entry)).Page <;> rfl
    · simp only [show ilt (i : Int) (i : Int) = false from decide_eq_false (by omega), wadd_up hi hl, cF]
    rw [goN_all (fun j => !sameKey a0[i] (ix a0 (j : Int) (Ty.dflt .entry))), allN_take (fun y => !sameKey a0[i] y) a0 _ i 0 (by omega)]
    rfl
  · simp only [ilt_end, cF]
  rw [goL_allI (alone a0)]
  unfold s_BufferOk bufOk
  cases allI (alone a0) a0 0 <;> rfl
theorem holds_s_BufferOk : Holds Tryz.prog 73 run_s_BufferOk := by
  refine holds_of_eval (engQ_ok ctrJ2_ok mctC_ok pct0_ok tct0_ok) (fn_ok (by kernel_rfl)) ?_
  intro avs rs hr h
  have hb := allB_of_rep hr
  unfold run_s_BufferOk at h
  split at h
  · rename_i a0
    obtain ⟨hc, rfl⟩ := some_pair h
    obtain ⟨N, hN⟩ := law_s_BufferOk a0 hb hc
    exact ⟨tms_s_BufferOk, N, 12, (nf_s_BufferOk N a0).trans hN⟩
  · cases h

noncomputable def ctrJ3 : Ctrs := [(20, run_i_copyHost), (73, run_s_BufferOk), (49, run_i_BufferOk)] ++ ctrJ2

theorem ctrJ3_ok : ∀ f run, aget ctrJ3 f = some run → Holds Tryz.prog f run := ctr_more ctrJ2_ok (by
  intro x hx
  simp only [List.mem_cons, List.not_mem_nil, or_false] at hx
  rcases hx with rfl | rfl | rfl
  · exact holds_i_copyHost
  · exact holds_s_BufferOk
  · exact holds_i_BufferOk)


/-! Whether a machine's part is in order. -/
theorem igt_not (a b : Int) : igt a b = !ile a b := by
  unfold igt ile
  by_cases h : a ≤ b
  · rw [decide_eq_true h, decide_eq_false (by omega)]; rfl
  · rw [decide_eq_false h, decide_eq_true (by omega)]; rfl
theorem stB {c M : Bool} {E : Option Ans} (h : c = true → E = some [AV.one (.b M)]) : (bif (bif c then false else true) then some [AV.one (.b false)] else E) = some [AV.one (.b (bif c then M else false))] := by
  cases c
  · rfl
  · exact h rfl
theorem stI {a b : Int} {M : Bool} {E : Option Ans} (h : ieq a b = true → E = some [AV.one (.b M)]) : (bif ine a b then some [AV.one (.b false)] else E) = some [AV.one (.b (bif ieq a b then M else false))] := by
  rw [ine_not]
  cases hh : ieq a b
  · rfl
  · exact h hh
theorem stG {a b : Int} {M : Bool} {E : Option Ans} (h : ile a b = true → E = some [AV.one (.b M)]) : (bif igt a b then some [AV.one (.b false)] else E) = some [AV.one (.b (bif ile a b then M else false))] := by
  rw [igt_not]
  cases hh : ile a b
  · rfl
  · exact h hh
def pageFit (s : Slot) (p : List Int) : Bool := bif slotEq s noSlot then pageOk p else (bif enough s.Rights 1 then ile (ln p) 0 else false)
def fits (m : Mon) (j : Nat) : Bool := pageFit (ix m.Outer (j : Int) (Ty.dflt .slot)) (ix m.Out (j : Int) [])
def monOk (m : Mon) : Bool := bif win (ln m.Guests) 1 2 then (bif ieq (ln m.Tables) (ln m.Guests) then (bif tableOk m.Outer 8 12 then (bif ieq (ln m.Out) 8 then (bif ieq (ln m.Dirty) 8 then (bif ile (ln m.Outs) 40 then (bif pendOk m.Pending then (bif win m.Traps 0 3 then (bif win m.Own 0 1000000000 then (bif m.Guests.all guestOk then allN (fits m) 8 0 else false) else false) else false) else false) else false) else false) else false) else false) else false) else false
theorem table_len {t : List Slot} {n p : Int} (h : tableOk t n p = true) : ln t = n := by
  unfold tableOk at h
  cases h1 : t.all (fun s => slotOk s p)
  · rw [h1] at h; cases h
  · rw [h1] at h; exact of_decide_eq_true h
@[simp, reducible] def i_MonOk_c (m : Mon) : Bool := true
@[simp, reducible] def i_MonOk (m : Mon) : Bool := monOk m
noncomputable def run_i_MonOk : List AV → Option (Bool × List AV)
  | [.agg [.s .slot a0_0, .s (.sl .int) a0_1, .s .bool a0_2, .s .guest a0_3, .s .int a0_4, .i .i64 a0_5, .i .i64 a0_6, .s .kept a0_7, .i .i64 a0_8]] => some ((i_MonOk_c (⟨a0_0, a0_1, a0_2, a0_3, a0_4, a0_5, a0_6, a0_7, a0_8⟩ : Mon)), [.one (.b (i_MonOk (⟨a0_0, a0_1, a0_2, a0_3, a0_4, a0_5, a0_6, a0_7, a0_8⟩ : Mon)))])
  | _ => none

noncomputable def E_i_MonOk (N : Nat) (a0 : Mon) : Option Ans :=
  (bif (i_within_c (ln a0.Guests) 1 2) then (bif (bif (i_within (ln a0.Guests) 1 2) then false else true) then (some [(.one (.b false))]) else (bif (ine (ln a0.Tables) (ln a0.Guests)) then (some [(.one (.b false))]) else (bif (i_TableOk_c a0.Outer 8 12) then (bif (bif (i_TableOk a0.Outer 8 12) then false else true) then (some [(.one (.b false))]) else (bif (ine (ln a0.Out) 8) then (some [(.one (.b false))]) else (bif (ine (ln a0.Dirty) 8) then (some [(.one (.b false))]) else (bif (igt (ln a0.Outs) 40) then (some [(.one (.b false))]) else (bif (i_PendOk_c a0.Pending) then (bif (bif (i_PendOk a0.Pending) then false else true) then (some [(.one (.b false))]) else (bif (i_within_c a0.Traps 0 3) then (bif (bif (i_within a0.Traps 0 3) then false else true) then (some [(.one (.b false))]) else (bif (i_within_c a0.Own 0 1000000000) then (bif (bif (i_within a0.Own 0 1000000000) then false else true) then (some [(.one (.b false))]) else (iter (σ := (Int × (Int × (Int × (Int × (Int × ((List Guest) × ((List Slot) × ((List (List Int)) × ((List Bool) × ((List Int) × ((List Kept) × Unit)))))))))))) N (fun r2 s3 => (bif (ilt s3.2.1 s3.1) then (bif (inb s3.2.1 (ln s3.2.2.2.2.2.1)) then (bif (i_GuestOk_c (ix s3.2.2.2.2.2.1 s3.2.1 (Ty.dflt .guest))) then (bif (bif (i_GuestOk (ix s3.2.2.2.2.2.1 s3.2.1 (Ty.dflt .guest))) then false else true) then (some [(.one (.b false))]) else (r2 (s3.1, ((wadd .i64 s3.2.1 1), (s3.2.2.1, (s3.2.2.2.1, (s3.2.2.2.2.1, (s3.2.2.2.2.2.1, (s3.2.2.2.2.2.2.1, (s3.2.2.2.2.2.2.2.1, (s3.2.2.2.2.2.2.2.2.1, (s3.2.2.2.2.2.2.2.2.2.1, (s3.2.2.2.2.2.2.2.2.2.2.1, ()))))))))))))) else none) else none) else (iter (σ := (Int × (Int × (Int × (Int × (Int × ((List Slot) × ((List (List Int)) × ((List Bool) × ((List Guest) × ((List Int) × ((List Kept) × Unit)))))))))))) N (fun r4 s5 => (bif (ilt s5.2.1 s5.1) then (bif (inb s5.2.1 (ln s5.2.2.2.2.2.1)) then (bif i_NoSlot_c then (bif (bif (ieq (ix s5.2.2.2.2.2.1 s5.2.1 (Ty.dflt .slot)).Page i_NoSlot.Page) then (ieq (ix s5.2.2.2.2.2.1 s5.2.1 (Ty.dflt .slot)).Rights i_NoSlot.Rights) else false) then (bif (inb s5.2.1 (ln s5.2.2.2.2.2.2.1)) then (bif (i_PageOk_c (ix s5.2.2.2.2.2.2.1 s5.2.1 [])) then (bif (bif (i_PageOk (ix s5.2.2.2.2.2.2.1 s5.2.1 [])) then false else true) then (some [(.one (.b false))]) else (r4 (s5.1, ((wadd .i64 s5.2.1 1), (s5.2.2.1, (s5.2.2.2.1, (s5.2.2.2.2.1, (s5.2.2.2.2.2.1, (s5.2.2.2.2.2.2.1, (s5.2.2.2.2.2.2.2.1, (s5.2.2.2.2.2.2.2.2.1, (s5.2.2.2.2.2.2.2.2.2.1, (s5.2.2.2.2.2.2.2.2.2.2.1, ()))))))))))))) else none) else none) else (bif (i_Enough_c (ix s5.2.2.2.2.2.1 s5.2.1 (Ty.dflt .slot)).Rights 1) then (bif (bif (i_Enough (ix s5.2.2.2.2.2.1 s5.2.1 (Ty.dflt .slot)).Rights 1) then false else true) then (some [(.one (.b false))]) else (bif (inb s5.2.1 (ln s5.2.2.2.2.2.2.1)) then (bif (igt (ln (ix s5.2.2.2.2.2.2.1 s5.2.1 [])) 0) then (some [(.one (.b false))]) else (r4 (s5.1, ((wadd .i64 s5.2.1 1), (s5.2.2.1, (s5.2.2.2.1, (s5.2.2.2.2.1, (s5.2.2.2.2.2.1, (s5.2.2.2.2.2.2.1, (s5.2.2.2.2.2.2.2.1, (s5.2.2.2.2.2.2.2.2.1, (s5.2.2.2.2.2.2.2.2.2.1, (s5.2.2.2.2.2.2.2.2.2.2.1, ()))))))))))))) else none)) else none)) else none) else none) else (some [(.one (.b true))]))) ((ln s3.2.2.2.2.2.2.1), (0, (s3.2.2.1, (s3.2.2.2.1, (s3.2.2.2.2.1, (s3.2.2.2.2.2.2.1, (s3.2.2.2.2.2.2.2.1, (s3.2.2.2.2.2.2.2.2.1, (s3.2.2.2.2.2.1, (s3.2.2.2.2.2.2.2.2.2.1, (s3.2.2.2.2.2.2.2.2.2.2.1, ())))))))))))))) ((ln a0.Guests), (0, (a0.Pending, (a0.Traps, (a0.Own, (a0.Guests, (a0.Outer, (a0.Out, (a0.Dirty, (a0.Outs, (a0.Tables, ()))))))))))))) else none)) else none)) else none))))) else none))) else none)

def tms_i_MonOk : FuncId → Nat → Option Tmpl := tmsOf [(50, 0, { n := 106, tm := [(1, .lp 0 0), (64, .sl 0 []), (65, .i .i64), (66, .i .i64)], lo := [(0, [.sl 1 [], .sl 2 [], .sl 3 [], .sl 0 [], .sl 4 [], .i .i64, .i .i64, .sl 5 [], .i .i64])], ro := [(0, .guest, false), (1, .slot, false), (2, (.sl .int), false), (3, .bool, false), (4, .int, false), (5, .kept, false)] }), (50, 2, { n := 106, tm := [(1, .lp 0 0), (75, .sl 0 []), (76, .i .i64), (77, .i .i64)], lo := [(0, [.sl 0 [], .sl 1 [], .sl 2 [], .sl 3 [], .sl 4 [], .i .i64, .i .i64, .sl 5 [], .i .i64])], ro := [(0, .slot, false), (1, (.sl .int), false), (2, .bool, false), (3, .guest, false), (4, .int, false), (5, .kept, false)] })]

theorem nf_i_MonOk (N : Nat) (a0 : Mon) : evalFn (cfgQ (aget ctrJ3) (aget mctC) (aget pct0) (aget tct0)) tms_i_MonOk N 12 50 [.agg (Ty.cells .mon a0)] = E_i_MonOk N a0 := by kernel_rfl

theorem law_i_MonOk (a0 : Mon) (hb : AllB big [.agg (Ty.cells .mon a0)]) (hc : (i_MonOk_c a0) = true) : ∃ N, E_i_MonOk N a0 = some [.one (.b (i_MonOk a0))] := by
  have hg : a0.Guests.length ≤ big := ((allB_cons hb).1 (.s .guest a0.Guests) (by simp [AV.cvs, Ty.cells])).len
  have ho : a0.Outer.length ≤ big := ((allB_cons hb).1 (.s .slot a0.Outer) (by simp [AV.cvs, Ty.cells])).len
  refine ⟨NN, ?_⟩
  have hNN : ∀ {n : Nat}, n ≤ big → n < NN := fun h => NN_lt h
  generalize NN = N at hNN ⊢
  unfold E_i_MonOk i_MonOk monOk
  refine must rfl (stB fun h0 => stI fun h1 => must rfl (stB fun h2 => stI fun h3 => stI fun h4 => stG fun h5 => must rfl (stB fun h6 => must rfl (stB fun h7 => must rfl (stB fun h8 => ?_)))))
  have e1 := table_len h2
  have e3 : ln a0.Out = 8 := of_decide_eq_true h3
  simp only [ln] at e1 e3
  refine (iter_list a0.Guests (fun i (t : Unit) => ((ln a0.Guests), (i : Int), a0.Pending, a0.Traps, a0.Own, a0.Guests, a0.Outer, a0.Out, a0.Dirty, a0.Outs, a0.Tables, ())) _ (fun _ (x : Guest) (_ : Unit) κ => bif guestOk x then κ () else some [AV.one (.b false)]) (fun (t : Unit) => (iter (σ := (Int × (Int × (Int × (Int × (Int × ((List Slot) × ((List (List Int)) × ((List Bool) × ((List Guest) × ((List Int) × ((List Kept) × Unit)))))))))))) N (fun r4 s5 => (bif (ilt s5.2.1 s5.1) then (bif (inb s5.2.1 (ln s5.2.2.2.2.2.1)) then (bif i_NoSlot_c then (bif (bif (ieq (ix s5.2.2.2.2.2.1 s5.2.1 (Ty.dflt .slot)).Page i_NoSlot.Page) then (ieq (ix s5.2.2.2.2.2.1 s5.2.1 (Ty.dflt .slot)).Rights i_NoSlot.Rights) else false) then (bif (inb s5.2.1 (ln s5.2.2.2.2.2.2.1)) then (bif (i_PageOk_c (ix s5.2.2.2.2.2.2.1 s5.2.1 [])) then (bif (bif (i_PageOk (ix s5.2.2.2.2.2.2.1 s5.2.1 [])) then false else true) then (some [(.one (.b false))]) else (r4 (s5.1, ((wadd .i64 s5.2.1 1), (s5.2.2.1, (s5.2.2.2.1, (s5.2.2.2.2.1, (s5.2.2.2.2.2.1, (s5.2.2.2.2.2.2.1, (s5.2.2.2.2.2.2.2.1, (s5.2.2.2.2.2.2.2.2.1, (s5.2.2.2.2.2.2.2.2.2.1, (s5.2.2.2.2.2.2.2.2.2.2.1, ()))))))))))))) else none) else none) else (bif (i_Enough_c (ix s5.2.2.2.2.2.1 s5.2.1 (Ty.dflt .slot)).Rights 1) then (bif (bif (i_Enough (ix s5.2.2.2.2.2.1 s5.2.1 (Ty.dflt .slot)).Rights 1) then false else true) then (some [(.one (.b false))]) else (bif (inb s5.2.1 (ln s5.2.2.2.2.2.2.1)) then (bif (igt (ln (ix s5.2.2.2.2.2.2.1 s5.2.1 [])) 0) then (some [(.one (.b false))]) else (r4 (s5.1, ((wadd .i64 s5.2.1 1), (s5.2.2.1, (s5.2.2.2.1, (s5.2.2.2.2.1, (s5.2.2.2.2.2.1, (s5.2.2.2.2.2.2.1, (s5.2.2.2.2.2.2.2.1, (s5.2.2.2.2.2.2.2.2.1, (s5.2.2.2.2.2.2.2.2.2.1, (s5.2.2.2.2.2.2.2.2.2.2.1, ()))))))))))))) else none)) else none)) else none) else none) else (some [(.one (.b true))]))) ((ln a0.Outer), (0, (a0.Pending, (a0.Traps, (a0.Own, (a0.Outer, (a0.Out, (a0.Dirty, (a0.Guests, (a0.Outs, (a0.Tables, ()))))))))))))) (fun i hi t rec => ?_) (fun t rec => ?_) _ () (hNN hg)).trans ?_
  · simp only [ilt_ln hi, inb_ln hi, ix_ln hi, wadd_up hi hg, cT]
    simp only [i_GuestOk_c, i_GuestOk, cT]
    cases guestOk a0.Guests[i] <;> rfl
  · simp only [ilt_end, cF]
  rw [goL_all guestOk]
  cases a0.Guests.all guestOk
  · rfl
  simp only [cT]
  refine (iter_list a0.Outer (fun j (u : Unit) => ((ln a0.Outer), (j : Int), a0.Pending, a0.Traps, a0.Own, a0.Outer, a0.Out, a0.Dirty, a0.Guests, a0.Outs, a0.Tables, ())) _ (fun j (_ : Slot) (_ : Unit) κ => bif fits a0 j then κ () else some [AV.one (.b false)]) (fun (u : Unit) => (some [(.one (.b true))])) (fun j hj u rec1 => ?_) (fun u rec1 => ?_) _ () (hNN ho)).trans ?_
  · simp only [ilt_ln hj, inb_ln hj, ix_ln hj, wadd_up hj ho, cT]
    have hj2 : j < a0.Out.length := by omega
    simp only [i_NoSlot_c, i_NoSlot, i_PageOk_c, i_PageOk, i_Enough_c, i_Enough, inb_ln hj2, igt_not, cT]
    unfold fits pageFit
    simp only [ix_ln hj, slotEq]
    cases ieq a0.Outer[j].Page noSlot.Page <;> cases ieq a0.Outer[j].Rights noSlot.Rights <;> cases enough a0.Outer[j].Rights 1 <;> cases ile (ln (ix a0.Out (j : Int) [])) 0 <;> cases pageOk (ix a0.Out (j : Int) []) <;> rfl
  · simp only [ilt_end, cF]
  rw [goL_goN (fun j (_ : Unit) κ => bif fits a0 j then κ () else some [AV.one (.b false)]), goN_all (fits a0), show a0.Outer.length = 8 by omega]
  cases allN (fits a0) 8 0 <;> rfl
theorem holds_i_MonOk : Holds Tryz.prog 50 run_i_MonOk := by
  refine holds_of_eval (engQ_ok ctrJ3_ok mctC_ok pct0_ok tct0_ok) (fn_ok (by kernel_rfl)) ?_
  intro avs rs hr h
  have hb := allB_of_rep hr
  unfold run_i_MonOk at h
  split at h
  · rename_i a0_0 a0_1 a0_2 a0_3 a0_4 a0_5 a0_6 a0_7 a0_8
    obtain ⟨hc, rfl⟩ := some_pair h
    obtain ⟨N, hN⟩ := law_i_MonOk (⟨a0_0, a0_1, a0_2, a0_3, a0_4, a0_5, a0_6, a0_7, a0_8⟩ : Mon) hb hc
    exact ⟨tms_i_MonOk, N, 12, (nf_i_MonOk N (⟨a0_0, a0_1, a0_2, a0_3, a0_4, a0_5, a0_6, a0_7, a0_8⟩ : Mon)).trans hN⟩
  · cases h

@[simp, reducible] def s_MonOk_c (m : Mon) : Bool := true
@[simp, reducible] def s_MonOk (m : Mon) : Bool := monOk m
noncomputable def run_s_MonOk : List AV → Option (Bool × List AV)
  | [.agg [.s .slot a0_0, .s (.sl .int) a0_1, .s .bool a0_2, .s .guest a0_3, .s .int a0_4, .i .i64 a0_5, .i .i64 a0_6, .s .kept a0_7, .i .i64 a0_8]] => some ((s_MonOk_c (⟨a0_0, a0_1, a0_2, a0_3, a0_4, a0_5, a0_6, a0_7, a0_8⟩ : Mon)), [.one (.b (s_MonOk (⟨a0_0, a0_1, a0_2, a0_3, a0_4, a0_5, a0_6, a0_7, a0_8⟩ : Mon)))])
  | _ => none

noncomputable def E_s_MonOk (N : Nat) (a0 : Mon) : Option Ans :=
  (bif (s_l01In_c (ln a0.Guests) 1 2) then (bif (bif (s_l01In (ln a0.Guests) 1 2) then false else true) then (some [(.one (.b false))]) else (bif (ine (ln a0.Tables) (ln a0.Guests)) then (some [(.one (.b false))]) else (bif (s_TableOk_c a0.Outer 8 12) then (bif (bif (s_TableOk a0.Outer 8 12) then false else true) then (some [(.one (.b false))]) else (bif (ine (ln a0.Out) 8) then (some [(.one (.b false))]) else (bif (ine (ln a0.Dirty) 8) then (some [(.one (.b false))]) else (iter (σ := (Int × (Int × (Int × (Int × ((List Slot) × ((List (List Int)) × ((List Bool) × ((List Guest) × ((List Int) × ((List Kept) × Unit))))))))))) N (fun r2 s3 => (bif (ilt s3.1 (ln s3.2.2.2.2.2.2.2.1)) then (bif (inb s3.1 (ln s3.2.2.2.2.2.2.2.1)) then (bif (s_GuestOk_c (ix s3.2.2.2.2.2.2.2.1 s3.1 (Ty.dflt .guest))) then (bif (bif (s_GuestOk (ix s3.2.2.2.2.2.2.2.1 s3.1 (Ty.dflt .guest))) then false else true) then (some [(.one (.b false))]) else (r2 ((wadd .i64 s3.1 1), (s3.2.1, (s3.2.2.1, (s3.2.2.2.1, (s3.2.2.2.2.1, (s3.2.2.2.2.2.1, (s3.2.2.2.2.2.2.1, (s3.2.2.2.2.2.2.2.1, (s3.2.2.2.2.2.2.2.2.1, (s3.2.2.2.2.2.2.2.2.2.1, ())))))))))))) else none) else none) else (iter (σ := (Int × (Int × (Int × (Int × ((List Slot) × ((List (List Int)) × ((List Bool) × ((List Guest) × ((List Int) × ((List Kept) × Unit))))))))))) N (fun r4 s5 => (bif (ilt s5.1 8) then (bif (inb s5.1 (ln s5.2.2.2.2.1)) then (bif s_NoSlot_c then (bif (bif (bif (ieq (ix s5.2.2.2.2.1 s5.1 (Ty.dflt .slot)).Page s_NoSlot.Page) then (ieq (ix s5.2.2.2.2.1 s5.1 (Ty.dflt .slot)).Rights s_NoSlot.Rights) else false) then false else true) then (bif (inb s5.1 (ln s5.2.2.2.2.2.1)) then (bif (igt (ln (ix s5.2.2.2.2.2.1 s5.1 [])) 0) then (some [(.one (.b false))]) else (bif (inb s5.1 (ln s5.2.2.2.2.1)) then (bif (s_Enough_c (ix s5.2.2.2.2.1 s5.1 (Ty.dflt .slot)).Rights 1) then (bif (bif (s_Enough (ix s5.2.2.2.2.1 s5.1 (Ty.dflt .slot)).Rights 1) then false else true) then (some [(.one (.b false))]) else (bif (bif (bif (bif (ieq (ix s5.2.2.2.2.1 s5.1 (Ty.dflt .slot)).Page s_NoSlot.Page) then (ieq (ix s5.2.2.2.2.1 s5.1 (Ty.dflt .slot)).Rights s_NoSlot.Rights) else false) then false else true) then false else true) then (bif (inb s5.1 (ln s5.2.2.2.2.2.1)) then (bif (s_PageOk_c (ix s5.2.2.2.2.2.1 s5.1 [])) then (bif (bif (s_PageOk (ix s5.2.2.2.2.2.1 s5.1 [])) then false else true) then (some [(.one (.b false))]) else (r4 ((wadd .i64 s5.1 1), (s5.2.1, (s5.2.2.1, (s5.2.2.2.1, (s5.2.2.2.2.1, (s5.2.2.2.2.2.1, (s5.2.2.2.2.2.2.1, (s5.2.2.2.2.2.2.2.1, (s5.2.2.2.2.2.2.2.2.1, (s5.2.2.2.2.2.2.2.2.2.1, ())))))))))))) else none) else none) else (r4 ((wadd .i64 s5.1 1), (s5.2.1, (s5.2.2.1, (s5.2.2.2.1, (s5.2.2.2.2.1, (s5.2.2.2.2.2.1, (s5.2.2.2.2.2.2.1, (s5.2.2.2.2.2.2.2.1, (s5.2.2.2.2.2.2.2.2.1, (s5.2.2.2.2.2.2.2.2.2.1, ()))))))))))))) else none) else none)) else none) else (bif (bif (bif (bif (ieq (ix s5.2.2.2.2.1 s5.1 (Ty.dflt .slot)).Page s_NoSlot.Page) then (ieq (ix s5.2.2.2.2.1 s5.1 (Ty.dflt .slot)).Rights s_NoSlot.Rights) else false) then false else true) then false else true) then (bif (inb s5.1 (ln s5.2.2.2.2.2.1)) then (bif (s_PageOk_c (ix s5.2.2.2.2.2.1 s5.1 [])) then (bif (bif (s_PageOk (ix s5.2.2.2.2.2.1 s5.1 [])) then false else true) then (some [(.one (.b false))]) else (r4 ((wadd .i64 s5.1 1), (s5.2.1, (s5.2.2.1, (s5.2.2.2.1, (s5.2.2.2.2.1, (s5.2.2.2.2.2.1, (s5.2.2.2.2.2.2.1, (s5.2.2.2.2.2.2.2.1, (s5.2.2.2.2.2.2.2.2.1, (s5.2.2.2.2.2.2.2.2.2.1, ())))))))))))) else none) else none) else (r4 ((wadd .i64 s5.1 1), (s5.2.1, (s5.2.2.1, (s5.2.2.2.1, (s5.2.2.2.2.1, (s5.2.2.2.2.2.1, (s5.2.2.2.2.2.2.1, (s5.2.2.2.2.2.2.2.1, (s5.2.2.2.2.2.2.2.2.1, (s5.2.2.2.2.2.2.2.2.2.1, ()))))))))))))) else none) else none) else (bif (ile (ln s5.2.2.2.2.2.2.2.2.1) 40) then (bif (s_PendOk_c s5.2.1) then (bif (s_PendOk s5.2.1) then (bif (s_l01In_c s5.2.2.1 0 3) then (bif (s_l01In s5.2.2.1 0 3) then (bif (s_l01In_c s5.2.2.2.1 0 1000000000) then (some [(.one (.b (s_l01In s5.2.2.2.1 0 1000000000)))]) else none) else (some [(.one (.b false))])) else none) else (some [(.one (.b false))])) else none) else (some [(.one (.b false))])))) (0, (s3.2.1, (s3.2.2.1, (s3.2.2.2.1, (s3.2.2.2.2.1, (s3.2.2.2.2.2.1, (s3.2.2.2.2.2.2.1, (s3.2.2.2.2.2.2.2.1, (s3.2.2.2.2.2.2.2.2.1, (s3.2.2.2.2.2.2.2.2.2.1, ()))))))))))))) (0, (a0.Pending, (a0.Traps, (a0.Own, (a0.Outer, (a0.Out, (a0.Dirty, (a0.Guests, (a0.Outs, (a0.Tables, ())))))))))))))) else none))) else none)

def tms_s_MonOk : FuncId → Nat → Option Tmpl := tmsOf [(74, 0, { n := 115, tm := [(1, .lp 0 0), (3, .i .i64)], lo := [(0, [.sl 0 [], .sl 1 [], .sl 2 [], .sl 3 [], .sl 4 [], .i .i64, .i .i64, .sl 5 [], .i .i64])], ro := [(0, .slot, false), (1, (.sl .int), false), (2, .bool, false), (3, .guest, false), (4, .int, false), (5, .kept, false)] }), (74, 2, { n := 115, tm := [(1, .lp 0 0), (4, .i .i64)], lo := [(0, [.sl 0 [], .sl 1 [], .sl 2 [], .sl 3 [], .sl 4 [], .i .i64, .i .i64, .sl 5 [], .i .i64])], ro := [(0, .slot, false), (1, (.sl .int), false), (2, .bool, false), (3, .guest, false), (4, .int, false), (5, .kept, false)] })]

theorem nf_s_MonOk (N : Nat) (a0 : Mon) : evalFn (cfgQ (aget ctrJ3) (aget mctC) (aget pct0) (aget tct0)) tms_s_MonOk N 12 74 [.agg (Ty.cells .mon a0)] = E_s_MonOk N a0 := by kernel_rfl

theorem law_s_MonOk (a0 : Mon) (hb : AllB big [.agg (Ty.cells .mon a0)]) (hc : (s_MonOk_c a0) = true) : ∃ N, E_s_MonOk N a0 = some [.one (.b (s_MonOk a0))] := by
  have hg : a0.Guests.length ≤ big := ((allB_cons hb).1 (.s .guest a0.Guests) (by simp [AV.cvs, Ty.cells])).len
  refine ⟨NN, ?_⟩
  have hNN : ∀ {n : Nat}, n ≤ big → n < NN := fun h => NN_lt h
  generalize NN = N at hNN ⊢
  unfold E_s_MonOk s_MonOk monOk
  refine must rfl (stB fun h0 => stI fun h1 => must rfl (stB fun h2 => stI fun h3 => stI fun h4 => ?_))
  have e1 := table_len h2
  have e3 : ln a0.Out = 8 := of_decide_eq_true h3
  simp only [ln] at e1 e3
  refine (iter_list a0.Guests (fun i (t : Unit) => ((i : Int), a0.Pending, a0.Traps, a0.Own, a0.Outer, a0.Out, a0.Dirty, a0.Guests, a0.Outs, a0.Tables, ())) _ (fun _ (x : Guest) (_ : Unit) κ => bif guestOk x then κ () else some [AV.one (.b false)]) (fun (t : Unit) => (iter (σ := (Int × (Int × (Int × (Int × ((List Slot) × ((List (List Int)) × ((List Bool) × ((List Guest) × ((List Int) × ((List Kept) × Unit))))))))))) N (fun r4 s5 => (bif (ilt s5.1 8) then (bif (inb s5.1 (ln s5.2.2.2.2.1)) then (bif s_NoSlot_c then (bif (bif (bif (ieq (ix s5.2.2.2.2.1 s5.1 (Ty.dflt .slot)).Page s_NoSlot.Page) then (ieq (ix s5.2.2.2.2.1 s5.1 (Ty.dflt .slot)).Rights s_NoSlot.Rights) else false) then false else true) then (bif (inb s5.1 (ln s5.2.2.2.2.2.1)) then (bif (igt (ln (ix s5.2.2.2.2.2.1 s5.1 [])) 0) then (some [(.one (.b false))]) else (bif (inb s5.1 (ln s5.2.2.2.2.1)) then (bif (s_Enough_c (ix s5.2.2.2.2.1 s5.1 (Ty.dflt .slot)).Rights 1) then (bif (bif (s_Enough (ix s5.2.2.2.2.1 s5.1 (Ty.dflt .slot)).Rights 1) then false else true) then (some [(.one (.b false))]) else (bif (bif (bif (bif (ieq (ix s5.2.2.2.2.1 s5.1 (Ty.dflt .slot)).Page s_NoSlot.Page) then (ieq (ix s5.2.2.2.2.1 s5.1 (Ty.dflt .slot)).Rights s_NoSlot.Rights) else false) then false else true) then false else true) then (bif (inb s5.1 (ln s5.2.2.2.2.2.1)) then (bif (s_PageOk_c (ix s5.2.2.2.2.2.1 s5.1 [])) then (bif (bif (s_PageOk (ix s5.2.2.2.2.2.1 s5.1 [])) then false else true) then (some [(.one (.b false))]) else (r4 ((wadd .i64 s5.1 1), (s5.2.1, (s5.2.2.1, (s5.2.2.2.1, (s5.2.2.2.2.1, (s5.2.2.2.2.2.1, (s5.2.2.2.2.2.2.1, (s5.2.2.2.2.2.2.2.1, (s5.2.2.2.2.2.2.2.2.1, (s5.2.2.2.2.2.2.2.2.2.1, ())))))))))))) else none) else none) else (r4 ((wadd .i64 s5.1 1), (s5.2.1, (s5.2.2.1, (s5.2.2.2.1, (s5.2.2.2.2.1, (s5.2.2.2.2.2.1, (s5.2.2.2.2.2.2.1, (s5.2.2.2.2.2.2.2.1, (s5.2.2.2.2.2.2.2.2.1, (s5.2.2.2.2.2.2.2.2.2.1, ()))))))))))))) else none) else none)) else none) else (bif (bif (bif (bif (ieq (ix s5.2.2.2.2.1 s5.1 (Ty.dflt .slot)).Page s_NoSlot.Page) then (ieq (ix s5.2.2.2.2.1 s5.1 (Ty.dflt .slot)).Rights s_NoSlot.Rights) else false) then false else true) then false else true) then (bif (inb s5.1 (ln s5.2.2.2.2.2.1)) then (bif (s_PageOk_c (ix s5.2.2.2.2.2.1 s5.1 [])) then (bif (bif (s_PageOk (ix s5.2.2.2.2.2.1 s5.1 [])) then false else true) then (some [(.one (.b false))]) else (r4 ((wadd .i64 s5.1 1), (s5.2.1, (s5.2.2.1, (s5.2.2.2.1, (s5.2.2.2.2.1, (s5.2.2.2.2.2.1, (s5.2.2.2.2.2.2.1, (s5.2.2.2.2.2.2.2.1, (s5.2.2.2.2.2.2.2.2.1, (s5.2.2.2.2.2.2.2.2.2.1, ())))))))))))) else none) else none) else (r4 ((wadd .i64 s5.1 1), (s5.2.1, (s5.2.2.1, (s5.2.2.2.1, (s5.2.2.2.2.1, (s5.2.2.2.2.2.1, (s5.2.2.2.2.2.2.1, (s5.2.2.2.2.2.2.2.1, (s5.2.2.2.2.2.2.2.2.1, (s5.2.2.2.2.2.2.2.2.2.1, ()))))))))))))) else none) else none) else (bif (ile (ln s5.2.2.2.2.2.2.2.2.1) 40) then (bif (s_PendOk_c s5.2.1) then (bif (s_PendOk s5.2.1) then (bif (s_l01In_c s5.2.2.1 0 3) then (bif (s_l01In s5.2.2.1 0 3) then (bif (s_l01In_c s5.2.2.2.1 0 1000000000) then (some [(.one (.b (s_l01In s5.2.2.2.1 0 1000000000)))]) else none) else (some [(.one (.b false))])) else none) else (some [(.one (.b false))])) else none) else (some [(.one (.b false))])))) (0, (a0.Pending, (a0.Traps, (a0.Own, (a0.Outer, (a0.Out, (a0.Dirty, (a0.Guests, (a0.Outs, (a0.Tables, ())))))))))))) (fun i hi t rec => ?_) (fun t rec => ?_) _ () (hNN hg)).trans ?_
  · simp only [ilt_ln hi, inb_ln hi, ix_ln hi, wadd_up hi hg, cT]
    simp only [s_GuestOk_c, s_GuestOk, cT]
    cases guestOk a0.Guests[i] <;> rfl
  · simp only [ilt_end, cF]
  rw [goL_all guestOk]
  cases hq : a0.Guests.all guestOk
  · simp only [cF]
    cases ile (ln a0.Outs) 40 <;> cases pendOk a0.Pending <;> cases win a0.Traps 0 3 <;> cases win a0.Own 0 1000000000 <;> rfl
  simp only [cT]
  refine (iter_nat 8 (fun j (u : Unit) => ((j : Int), a0.Pending, a0.Traps, a0.Own, a0.Outer, a0.Out, a0.Dirty, a0.Guests, a0.Outs, a0.Tables, ())) _ (fun j (_ : Unit) κ => bif fits a0 j then κ () else some [AV.one (.b false)]) (fun (u : Unit) => (bif (ile (ln a0.Outs) 40) then (bif (s_PendOk_c a0.Pending) then (bif (s_PendOk a0.Pending) then (bif (s_l01In_c a0.Traps 0 3) then (bif (s_l01In a0.Traps 0 3) then (bif (s_l01In_c a0.Own 0 1000000000) then (some [(.one (.b (s_l01In a0.Own 0 1000000000)))]) else none) else (some [(.one (.b false))])) else none) else (some [(.one (.b false))])) else none) else (some [(.one (.b false))]))) (fun j hj u rec1 => ?_) (fun u rec1 => ?_) _ () (hNN (by decide))).trans ?_
  · simp only [show ilt (j : Int) 8 = true from decide_eq_true (by omega), wadd_up hj (show 8 ≤ big by decide), cT]
    have hj1 : j < a0.Outer.length := by omega
    have hj2 : j < a0.Out.length := by omega
    simp only [s_NoSlot_c, s_NoSlot, s_PageOk_c, s_PageOk, s_Enough_c, s_Enough, inb_ln hj1, inb_ln hj2, igt_not, cT]
    unfold fits pageFit
    simp only [ix_ln hj1, slotEq]
    cases ieq a0.Outer[j].Page noSlot.Page <;> cases ieq a0.Outer[j].Rights noSlot.Rights <;> cases enough a0.Outer[j].Rights 1 <;> cases ile (ln (ix a0.Out (j : Int) [])) 0 <;> cases pageOk (ix a0.Out (j : Int) []) <;> rfl
  · simp only [show ilt (((8 : Nat)) : Int) 8 = false from decide_eq_false (by omega), cF]
    rfl
  rw [goN_all (fits a0)]
  simp only [s_PendOk_c, s_PendOk, s_l01In_c, win_s, cT]
  cases allN (fits a0) 8 0 <;> cases ile (ln a0.Outs) 40 <;> cases pendOk a0.Pending <;> cases win a0.Traps 0 3 <;> cases win a0.Own 0 1000000000 <;> rfl
theorem holds_s_MonOk : Holds Tryz.prog 74 run_s_MonOk := by
  refine holds_of_eval (engQ_ok ctrJ3_ok mctC_ok pct0_ok tct0_ok) (fn_ok (by kernel_rfl)) ?_
  intro avs rs hr h
  have hb := allB_of_rep hr
  unfold run_s_MonOk at h
  split at h
  · rename_i a0_0 a0_1 a0_2 a0_3 a0_4 a0_5 a0_6 a0_7 a0_8
    obtain ⟨hc, rfl⟩ := some_pair h
    obtain ⟨N, hN⟩ := law_s_MonOk (⟨a0_0, a0_1, a0_2, a0_3, a0_4, a0_5, a0_6, a0_7, a0_8⟩ : Mon) hb hc
    exact ⟨tms_s_MonOk, N, 12, (nf_s_MonOk N (⟨a0_0, a0_1, a0_2, a0_3, a0_4, a0_5, a0_6, a0_7, a0_8⟩ : Mon)).trans hN⟩
  · cases h

noncomputable def ctrJ4 : Ctrs := [(74, run_s_MonOk), (50, run_i_MonOk)] ++ ctrJ3

theorem ctrJ4_ok : ∀ f run, aget ctrJ4 f = some run → Holds Tryz.prog f run := ctr_more ctrJ3_ok (by
  intro x hx
  simp only [List.mem_cons, List.not_mem_nil, or_false] at hx
  rcases hx with rfl | rfl
  · exact holds_s_MonOk
  · exact holds_i_MonOk)


/-! Whether a machine is in order: no page of the host is used twice. -/
def usedGo : List Slot → List Bool → Option (List Bool)
  | [], u => some u
  | s :: l, u => bif ilt s.Page 0 then usedGo l u else (bif ix u s.Page false then none else usedGo l (up u s.Page true))
def hostGo : List Mon → List Bool → Bool
  | [], _ => true
  | m :: l, u => bif monOk m then (match usedGo m.Outer u with | some u' => hostGo l u' | none => false) else false
def hostOk (h : Host) : Bool := bif memOk h.Memory 12 then (bif win (ln h.Mons) 1 3 then (bif bufOk h.Buffer then (bif bufOk h.IoBuffer then hostGo h.Mons (rp 12 false) else false) else false) else false) else false
theorem usedGo_len : ∀ (l : List Slot) (u u' : List Bool), usedGo l u = some u' → u'.length = u.length
  | [], u, u', h => by cases h; rfl
  | s :: l, u, u', h => by
    simp only [usedGo] at h
    cases h1 : ilt s.Page 0
    · rw [h1] at h
      cases h2 : ix u s.Page false
      · rw [h2] at h
        simpa using usedGo_len l _ u' h
      · rw [h2] at h; cases h
    · rw [h1] at h
      exact usedGo_len l u u' h
theorem slot_lt {t : List Slot} {n : Int} (h : tableOk t n 12 = true) : ∀ s ∈ t, s.Page < 12 := by
  intro s hs
  unfold tableOk at h
  cases h1 : t.all (fun s => slotOk s 12)
  · rw [h1] at h; cases h
  · have := List.all_eq_true.1 h1 s hs
    unfold slotOk at this
    cases h2 : slotEq s noSlot
    · rw [h2] at this
      simp only [cF, show igt 12 0 = true from rfl, cT] at this
      cases h3 : win s.Page 0 (wsub .i64 12 1)
      · rw [h3] at this; cases this
      · have := (win_true.1 h3).2
        rw [show wsub .i64 12 1 = 11 from rfl] at this
        omega
    · unfold slotEq at h2
      rw [Bool.and_eq_true] at h2
      have h2 : s.Page = -1 := of_decide_eq_true h2.1
      omega
theorem used_has {s : Slot} {u : List Bool} (h : s.Page < 12) (hu : u.length = 12) (h0 : ilt s.Page 0 = false) : inb s.Page (ln u) = true := by
  have := of_decide_eq_false h0
  exact decide_eq_true (by simp only [ln]; omega)
def bodI {ρ : Type} (r : Option ρ) (y : Slot) (u : List Bool) (κ : List Bool → Option ρ) : Option ρ := bif ilt y.Page 0 then κ u else (bif inb y.Page (ln u) then (bif ix u y.Page false then r else (bif inb y.Page (ln u) then share (up u y.Page true) (fun x6 => κ x6) else none)) else none)
theorem goL_used {ρ : Type} (r : Option ρ) (K : List Bool → Option ρ) : ∀ (l : List Slot) (i : Nat) (u : List Bool), (∀ s ∈ l, s.Page < 12) → u.length = 12 →
    goL (fun _ y u κ => bodI r y u κ) K l i u = match usedGo l u with | some u' => K u' | none => r
  | [], _, _, _, _ => rfl
  | s :: l, i, u, h, hu => by
    simp only [goL, usedGo, bodI]
    cases h1 : ilt s.Page 0
    · have hh := used_has (h s (by simp)) hu h1
      rw [hh]
      cases ix u s.Page false
      · simp only [cF, cT, share]
        exact goL_used r K l (i + 1) _ (fun s hs => h s (by simp [hs])) (by simpa using hu)
      · rfl
    · simp only [cT]
      exact goL_used r K l (i + 1) u (fun s hs => h s (by simp [hs])) hu
def bodH {ρ : Type} (r : Option ρ) (m : Mon) (u : List Bool) (κ : List Bool → Option ρ) : Option ρ := bif monOk m then goL (fun _ y u κ => bodI r y u κ) κ m.Outer 0 u else r
theorem bif_and {c x : Bool} : ((bif c then x else false) = true) ↔ c = true ∧ x = true := by
  cases c <;> simp
theorem monOk_outer {m : Mon} (h : monOk m = true) : tableOk m.Outer 8 12 = true := by
  unfold monOk at h
  simp only [bif_and] at h
  exact h.2.2.1
theorem goL_host {K : Bool → Option Ans} (k : List Bool → Option Ans) (hk : ∀ u, k u = K true) : ∀ (l : List Mon) (i : Nat) (u : List Bool), u.length = 12 →
    goL (fun _ m u κ => bodH (K false) m u κ) k l i u = K (hostGo l u)
  | [], _, u, _ => hk u
  | m :: l, i, u, hu => by
    simp only [goL, hostGo, bodH]
    cases h1 : monOk m
    · rfl
    · simp only [cT]
      have ht := monOk_outer h1
      rw [goL_used _ _ _ _ _ (slot_lt ht) hu]
      cases h2 : usedGo m.Outer u with
      | none => rfl
      | some u' => exact goL_host k hk l (i + 1) u' ((usedGo_len _ _ _ h2).trans hu)
@[simp, reducible] def i_HostOk_c (h : Host) : Bool := true
@[simp, reducible] def i_HostOk (h : Host) : Bool := hostOk h
noncomputable def run_i_HostOk : List AV → Option (Bool × List AV)
  | [.agg [.s (.sl .int) a0_0, .s .mon a0_1, .s .entry a0_2, .s .entry a0_3]] => some ((i_HostOk_c (⟨a0_0, a0_1, a0_2, a0_3⟩ : Host)), [.one (.b (i_HostOk (⟨a0_0, a0_1, a0_2, a0_3⟩ : Host)))])
  | _ => none

noncomputable def E_i_HostOk (N : Nat) (a0 : Host) : Option Ans :=
  (bif (i_MemOk_c a0.Memory 12) then (bif (bif (i_MemOk a0.Memory 12) then false else true) then (some [(.one (.b false))]) else (bif (i_within_c (ln a0.Mons) 1 3) then (bif (bif (i_within (ln a0.Mons) 1 3) then false else true) then (some [(.one (.b false))]) else (bif (i_BufferOk_c a0.Buffer) then (bif (bif (i_BufferOk a0.Buffer) then false else true) then (some [(.one (.b false))]) else (bif (i_BufferOk_c a0.IoBuffer) then (bif (bif (i_BufferOk a0.IoBuffer) then false else true) then (some [(.one (.b false))]) else (bif (bif (few 12) then (ieq 12 12) else false) then (iter (σ := (Int × (Int × ((List Bool) × ((List Mon) × Unit))))) N (fun r2 s3 => (bif (ilt s3.2.1 s3.1) then (bif (inb s3.2.1 (ln s3.2.2.2.1)) then (bif (i_MonOk_c (ix s3.2.2.2.1 s3.2.1 (Ty.dflt .mon))) then (bif (bif (i_MonOk (ix s3.2.2.2.1 s3.2.1 (Ty.dflt .mon))) then false else true) then (some [(.one (.b false))]) else (iter (σ := (Int × (Int × (Int × (Int × (Int × ((List Bool) × ((List Mon) × Unit)))))))) N (fun r4 s5 => (bif (ilt s5.2.2.2.2.1 s5.2.2.2.1) then (bif (inb s5.2.2.2.2.1 (ln (ix s5.2.2.2.2.2.2.1 s5.2.2.1 (Ty.dflt .mon)).Outer)) then (bif (ilt (ix (ix s5.2.2.2.2.2.2.1 s5.2.2.1 (Ty.dflt .mon)).Outer s5.2.2.2.2.1 (Ty.dflt .slot)).Page 0) then (r4 (s5.1, (s5.2.1, (s5.2.2.1, (s5.2.2.2.1, ((wadd .i64 s5.2.2.2.2.1 1), (s5.2.2.2.2.2.1, (s5.2.2.2.2.2.2.1, ())))))))) else (bif (inb (ix (ix s5.2.2.2.2.2.2.1 s5.2.2.1 (Ty.dflt .mon)).Outer s5.2.2.2.2.1 (Ty.dflt .slot)).Page (ln s5.2.2.2.2.2.1)) then (bif (ix s5.2.2.2.2.2.1 (ix (ix s5.2.2.2.2.2.2.1 s5.2.2.1 (Ty.dflt .mon)).Outer s5.2.2.2.2.1 (Ty.dflt .slot)).Page false) then (some [(.one (.b false))]) else (bif (inb (ix (ix s5.2.2.2.2.2.2.1 s5.2.2.1 (Ty.dflt .mon)).Outer s5.2.2.2.2.1 (Ty.dflt .slot)).Page (ln s5.2.2.2.2.2.1)) then (share (up s5.2.2.2.2.2.1 (ix (ix s5.2.2.2.2.2.2.1 s5.2.2.1 (Ty.dflt .mon)).Outer s5.2.2.2.2.1 (Ty.dflt .slot)).Page true) (fun x6 => (r4 (s5.1, (s5.2.1, (s5.2.2.1, (s5.2.2.2.1, ((wadd .i64 s5.2.2.2.2.1 1), (x6, (s5.2.2.2.2.2.2.1, ())))))))))) else none)) else none)) else none) else (r2 (s5.1, ((wadd .i64 s5.2.1 1), (s5.2.2.2.2.2.1, (s5.2.2.2.2.2.2.1, ()))))))) (s3.1, (s3.2.1, (s3.2.1, ((ln (ix s3.2.2.2.1 s3.2.1 (Ty.dflt .mon)).Outer), (0, (s3.2.2.1, (s3.2.2.2.1, ()))))))))) else none) else none) else (some [(.one (.b true))]))) ((ln a0.Mons), (0, ((rp 12 false), (a0.Mons, ()))))) else none)) else none)) else none)) else none)) else none)

def tms_i_HostOk : FuncId → Nat → Option Tmpl := tmsOf [(21, 0, { n := 63, tm := [(3, .sl 0 []), (33, .sl 1 []), (34, .i .i64), (35, .i .i64)], lo := [], ro := [(0, .bool, true), (1, .mon, false)] }), (21, 2, { n := 63, tm := [(3, .sl 0 []), (33, .sl 1 []), (34, .i .i64), (35, .i .i64), (43, .sl 1 [0]), (44, .i .i64), (45, .i .i64)], lo := [], ro := [(0, .bool, true), (1, .mon, false)] })]

theorem nf_i_HostOk (N : Nat) (a0 : Host) : evalFn (cfgQ (aget ctrJ4) (aget mctC) (aget pct0) (aget tct0)) tms_i_HostOk N 12 21 [.agg (hostC a0)] = E_i_HostOk N a0 := by kernel_rfl

theorem law_i_HostOk (a0 : Host) (hb : AllB big [.agg (hostC a0)]) (hc : (i_HostOk_c a0) = true) : ∃ N, E_i_HostOk N a0 = some [.one (.b (i_HostOk a0))] := by
  have hm : CVB big (.s .mon a0.Mons) := (allB_cons hb).1 _ (by simp [AV.cvs, hostC])
  have hl := hm.len
  refine ⟨NN, ?_⟩
  have hNN : ∀ {n : Nat}, n ≤ big → n < NN := fun h => NN_lt h
  generalize NN = N at hNN ⊢
  unfold E_i_HostOk i_HostOk hostOk
  refine must rfl (stB fun h0 => must rfl (stB fun h1 => must rfl (stB fun h2 => must rfl (stB fun h3 => must rfl ?_))))
  refine (iter_list a0.Mons (fun i (t : (List Bool)) => ((ln a0.Mons), (i : Int), t, a0.Mons, ())) _ (fun _ (x : Mon) (u : List Bool) κ => bodH (some [AV.one (.b false)]) x u κ) (fun (t : (List Bool)) => (some [(.one (.b true))])) (fun i hi t rec => ?_) (fun t rec => ?_) _ ((rp 12 false)) (hNN hl)).trans ?_
  · simp only [ilt_ln hi, inb_ln hi, ix_ln hi, wadd_up hi hl, cT]
    unfold bodH
    cases h4 : monOk a0.Mons[i]
    · simp only [i_MonOk_c, i_MonOk, h4, cT, cF]
    simp only [i_MonOk_c, i_MonOk, h4, cT, cF]
    have ho : a0.Mons[i].Outer.length ≤ big := (hm.inv.2 _ (List.getElem_mem hi) (.s .slot _) (by simp [Ty.cells])).len
    refine (iter_list a0.Mons[i].Outer (fun j (u : (List Bool)) => ((ln a0.Mons), (i : Int), (i : Int), (ln a0.Mons[i].Outer), (j : Int), u, a0.Mons, ())) _ (fun _ (y : Slot) (u : List Bool) κ => bodI (some [AV.one (.b false)]) y u κ) (fun (u : (List Bool)) => (rec ((ln a0.Mons), ((((i + 1 : Nat)) : Int), (u, (a0.Mons, ())))))) (fun j hj u rec1 => ?_) (fun u rec1 => ?_) _ (t) (hNN ho)).trans ?_
    · simp only [ilt_ln hj, inb_ln hj, ix_ln hj, wadd_up hj ho, cT, inb_ln hi, ix_ln hi, wadd_up hi hl]
      rfl
    · simp only [ilt_end, cF, inb_ln hi, ix_ln hi, wadd_up hi hl]
    rfl
  · simp only [ilt_end, cF]
  exact goL_host (K := fun b => some [AV.one (.b b)]) _ (fun _ => rfl) _ _ _ rfl
theorem holds_i_HostOk : Holds Tryz.prog 21 run_i_HostOk := by
  refine holds_of_eval (engQ_ok ctrJ4_ok mctC_ok pct0_ok tct0_ok) (fn_ok (by kernel_rfl)) ?_
  intro avs rs hr h
  have hb := allB_of_rep hr
  unfold run_i_HostOk at h
  split at h
  · rename_i a0_0 a0_1 a0_2 a0_3
    obtain ⟨hc, rfl⟩ := some_pair h
    obtain ⟨N, hN⟩ := law_i_HostOk (⟨a0_0, a0_1, a0_2, a0_3⟩ : Host) hb hc
    exact ⟨tms_i_HostOk, N, 12, (nf_i_HostOk N (⟨a0_0, a0_1, a0_2, a0_3⟩ : Host)).trans hN⟩
  · cases h

@[simp, reducible] def s_HostOk_c (h : Host) : Bool := true
@[simp, reducible] def s_HostOk (h : Host) : Bool := hostOk h
theorem goN_used {ρ : Type} (r : Option ρ) (k : List Bool → Option ρ) (m : Mon) : ∀ (n i : Nat) (u : List Bool), (∀ s ∈ m.Outer, s.Page < 12) → u.length = 12 → i + n = m.Outer.length →
    goN (fun j u κ => bif inb (j : Int) (ln m.Outer) then bodI r (ix m.Outer (j : Int) (Ty.dflt .slot)) u κ else none) k n i u = goL (fun _ y u κ => bodI r y u κ) k (m.Outer.drop i) i u
  | 0, i, u, _, _, h => by
    have : i = m.Outer.length := by omega
    subst this
    simp [goN, goL]
  | n + 1, i, u, hs, hu, h => by
    have hi : i < m.Outer.length := by omega
    rw [List.drop_eq_getElem_cons hi]
    simp only [goN, goL, inb_ln hi, ix_ln hi, cT, bodI]
    cases h1 : ilt m.Outer[i].Page 0
    · rw [used_has (hs _ (List.getElem_mem hi)) hu h1]
      cases ix u m.Outer[i].Page false
      · simp only [cF, cT, share]
        exact goN_used r k m n (i + 1) _ hs (by simpa using hu) (by omega)
      · rfl
    · simp only [cT]
      exact goN_used r k m n (i + 1) u hs hu (by omega)
noncomputable def run_s_HostOk : List AV → Option (Bool × List AV)
  | [.agg [.s (.sl .int) a0_0, .s .mon a0_1, .s .entry a0_2, .s .entry a0_3]] => some ((s_HostOk_c (⟨a0_0, a0_1, a0_2, a0_3⟩ : Host)), [.one (.b (s_HostOk (⟨a0_0, a0_1, a0_2, a0_3⟩ : Host)))])
  | _ => none

noncomputable def E_s_HostOk (N : Nat) (a0 : Host) : Option Ans :=
  (bif (s_MemOk_c a0.Memory 12) then (bif (bif (s_MemOk a0.Memory 12) then false else true) then (some [(.one (.b false))]) else (bif (s_l01In_c (ln a0.Mons) 1 3) then (bif (bif (s_l01In (ln a0.Mons) 1 3) then false else true) then (some [(.one (.b false))]) else (bif (s_BufferOk_c a0.Buffer) then (bif (bif (s_BufferOk a0.Buffer) then false else true) then (some [(.one (.b false))]) else (bif (s_BufferOk_c a0.IoBuffer) then (bif (bif (s_BufferOk a0.IoBuffer) then false else true) then (some [(.one (.b false))]) else (bif (bif (few 12) then (ieq 12 12) else false) then (iter (σ := (Int × ((List Bool) × ((List (List Int)) × ((List Mon) × ((List Entry) × ((List Entry) × Unit))))))) N (fun r2 s3 => (bif (ilt s3.1 (ln s3.2.2.2.1)) then (bif (inb s3.1 (ln s3.2.2.2.1)) then (bif (s_MonOk_c (ix s3.2.2.2.1 s3.1 (Ty.dflt .mon))) then (bif (bif (s_MonOk (ix s3.2.2.2.1 s3.1 (Ty.dflt .mon))) then false else true) then (some [(.one (.b false))]) else (iter (σ := (Int × (Int × ((List Bool) × ((List (List Int)) × ((List Mon) × ((List Entry) × ((List Entry) × Unit)))))))) N (fun r4 s5 => (bif (ilt s5.2.1 8) then (bif (inb s5.1 (ln s5.2.2.2.2.1)) then (bif (inb s5.2.1 (ln (ix s5.2.2.2.2.1 s5.1 (Ty.dflt .mon)).Outer)) then (bif (ige (ix (ix s5.2.2.2.2.1 s5.1 (Ty.dflt .mon)).Outer s5.2.1 (Ty.dflt .slot)).Page 0) then (bif (inb (ix (ix s5.2.2.2.2.1 s5.1 (Ty.dflt .mon)).Outer s5.2.1 (Ty.dflt .slot)).Page (ln s5.2.2.1)) then (bif (ix s5.2.2.1 (ix (ix s5.2.2.2.2.1 s5.1 (Ty.dflt .mon)).Outer s5.2.1 (Ty.dflt .slot)).Page false) then (some [(.one (.b false))]) else (bif (ige (ix (ix s5.2.2.2.2.1 s5.1 (Ty.dflt .mon)).Outer s5.2.1 (Ty.dflt .slot)).Page 0) then (bif (inb (ix (ix s5.2.2.2.2.1 s5.1 (Ty.dflt .mon)).Outer s5.2.1 (Ty.dflt .slot)).Page (ln s5.2.2.1)) then (share (up s5.2.2.1 (ix (ix s5.2.2.2.2.1 s5.1 (Ty.dflt .mon)).Outer s5.2.1 (Ty.dflt .slot)).Page true) (fun x6 => (r4 (s5.1, ((wadd .i64 s5.2.1 1), (x6, (s5.2.2.2.1, (s5.2.2.2.2.1, (s5.2.2.2.2.2.1, (s5.2.2.2.2.2.2.1, ())))))))))) else none) else (r4 (s5.1, ((wadd .i64 s5.2.1 1), (s5.2.2.1, (s5.2.2.2.1, (s5.2.2.2.2.1, (s5.2.2.2.2.2.1, (s5.2.2.2.2.2.2.1, ())))))))))) else none) else (bif (ige (ix (ix s5.2.2.2.2.1 s5.1 (Ty.dflt .mon)).Outer s5.2.1 (Ty.dflt .slot)).Page 0) then (bif (inb (ix (ix s5.2.2.2.2.1 s5.1 (Ty.dflt .mon)).Outer s5.2.1 (Ty.dflt .slot)).Page (ln s5.2.2.1)) then (share (up s5.2.2.1 (ix (ix s5.2.2.2.2.1 s5.1 (Ty.dflt .mon)).Outer s5.2.1 (Ty.dflt .slot)).Page true) (fun x6 => (r4 (s5.1, ((wadd .i64 s5.2.1 1), (x6, (s5.2.2.2.1, (s5.2.2.2.2.1, (s5.2.2.2.2.2.1, (s5.2.2.2.2.2.2.1, ())))))))))) else none) else (r4 (s5.1, ((wadd .i64 s5.2.1 1), (s5.2.2.1, (s5.2.2.2.1, (s5.2.2.2.2.1, (s5.2.2.2.2.2.1, (s5.2.2.2.2.2.2.1, ())))))))))) else none) else none) else (r2 ((wadd .i64 s5.1 1), (s5.2.2.1, (s5.2.2.2.1, (s5.2.2.2.2.1, (s5.2.2.2.2.2.1, (s5.2.2.2.2.2.2.1, ()))))))))) (s3.1, (0, (s3.2.1, (s3.2.2.1, (s3.2.2.2.1, (s3.2.2.2.2.1, (s3.2.2.2.2.2.1, ()))))))))) else none) else none) else (some [(.one (.b true))]))) (0, ((rp 12 false), (a0.Memory, (a0.Mons, (a0.Buffer, (a0.IoBuffer, ()))))))) else none)) else none)) else none)) else none)) else none)

def tms_s_HostOk : FuncId → Nat → Option Tmpl := tmsOf [(37, 0, { n := 72, tm := [(1, .lp 0 0), (3, .sl 0 []), (4, .i .i64)], lo := [(0, [.sl 1 [], .sl 2 [], .sl 3 [], .sl 4 []])], ro := [(0, .bool, true), (1, (.sl .int), false), (2, .mon, false), (3, .entry, false), (4, .entry, false)] }), (37, 2, { n := 72, tm := [(1, .lp 0 0), (3, .sl 0 []), (4, .i .i64), (5, .i .i64)], lo := [(0, [.sl 1 [], .sl 2 [], .sl 3 [], .sl 4 []])], ro := [(0, .bool, true), (1, (.sl .int), false), (2, .mon, false), (3, .entry, false), (4, .entry, false)] })]

theorem nf_s_HostOk (N : Nat) (a0 : Host) : evalFn (cfgQ (aget ctrJ4) (aget mctC) (aget pct0) (aget tct0)) tms_s_HostOk N 12 37 [.agg (hostC a0)] = E_s_HostOk N a0 := by kernel_rfl

theorem law_s_HostOk (a0 : Host) (hb : AllB big [.agg (hostC a0)]) (hc : (s_HostOk_c a0) = true) : ∃ N, E_s_HostOk N a0 = some [.one (.b (s_HostOk a0))] := by
  have hm : CVB big (.s .mon a0.Mons) := (allB_cons hb).1 _ (by simp [AV.cvs, hostC])
  have hl := hm.len
  refine ⟨NN, ?_⟩
  have hNN : ∀ {n : Nat}, n ≤ big → n < NN := fun h => NN_lt h
  generalize NN = N at hNN ⊢
  unfold E_s_HostOk s_HostOk hostOk
  refine must rfl (stB fun h0 => must rfl (stB fun h1 => must rfl (stB fun h2 => must rfl (stB fun h3 => must rfl ?_))))
  refine (iter_list a0.Mons (fun i (t : (List Bool)) => ((i : Int), t, a0.Memory, a0.Mons, a0.Buffer, a0.IoBuffer, ())) _ (fun _ (x : Mon) (u : List Bool) κ => bif monOk x then goN (fun j u κ => bif inb (j : Int) (ln x.Outer) then bodI (some [AV.one (.b false)]) (ix x.Outer (j : Int) (Ty.dflt .slot)) u κ else none) κ 8 0 u else some [AV.one (.b false)]) (fun (t : (List Bool)) => (some [(.one (.b true))])) (fun i hi t rec => ?_) (fun t rec => ?_) _ ((rp 12 false)) (hNN hl)).trans ?_
  · simp only [ilt_ln hi, inb_ln hi, ix_ln hi, wadd_up hi hl, cT]
    cases h4 : monOk a0.Mons[i]
    · simp only [s_MonOk_c, s_MonOk, h4, cT, cF]
    simp only [s_MonOk_c, s_MonOk, h4, cT, cF]
    refine (iter_nat 8 (fun j (u : (List Bool)) => ((i : Int), (j : Int), u, a0.Memory, a0.Mons, a0.Buffer, a0.IoBuffer, ())) _ (fun j (u : List Bool) κ => bif inb (j : Int) (ln a0.Mons[i].Outer) then bodI (some [AV.one (.b false)]) (ix a0.Mons[i].Outer (j : Int) (Ty.dflt .slot)) u κ else none) (fun (u : (List Bool)) => (rec ((((i + 1 : Nat)) : Int), (u, (a0.Memory, (a0.Mons, (a0.Buffer, (a0.IoBuffer, ())))))))) (fun j hj u rec1 => ?_) (fun u rec1 => ?_) _ (t) (hNN (by decide))).trans ?_
    · simp only [show ilt (j : Int) 8 = true from decide_eq_true (by omega), wadd_up hj (show 8 ≤ big by decide), cT, inb_ln hi, ix_ln hi, wadd_up hi hl]
      unfold bodI
      have e : ige (ix a0.Mons[i].Outer (j : Int) (Ty.dflt .slot)).Page 0 = !ilt (ix a0.Mons[i].Outer (j : Int) (Ty.dflt .slot)).Page 0 := by rw [ilt_ige, Bool.not_not]
      simp only [e]
      cases ilt (ix a0.Mons[i].Outer (j : Int) (Ty.dflt .slot)).Page 0 <;> cases inb (j : Int) (ln a0.Mons[i].Outer) <;> cases inb (ix a0.Mons[i].Outer (j : Int) (Ty.dflt .slot)).Page (ln u) <;> cases ix u (ix a0.Mons[i].Outer (j : Int) (Ty.dflt .slot)).Page false <;> rfl
    · simp only [show ilt (((8 : Nat)) : Int) 8 = false from decide_eq_false (by omega), cF, inb_ln hi, ix_ln hi, wadd_up hi hl]
    rfl
  · simp only [ilt_end, cF]
  have key : ∀ (l : List Mon) (i : Nat) (u : List Bool), u.length = 12 → goL (fun _ (x : Mon) (u : List Bool) κ => bif monOk x then goN (fun j u κ => bif inb (j : Int) (ln x.Outer) then bodI (some [AV.one (.b false)]) (ix x.Outer (j : Int) (Ty.dflt .slot)) u κ else none) κ 8 0 u else some [AV.one (.b false)]) (fun _ => some [AV.one (.b true)]) l i u = some [AV.one (.b (hostGo l u))] := by
    intro l
    induction l with
    | nil => intro i u _; rfl
    | cons m l ih =>
      intro i u hu
      simp only [goL, hostGo]
      cases h1 : monOk m
      · rfl
      · have ht := monOk_outer h1
        have e8 : 0 + 8 = m.Outer.length := by have := table_len ht; simp only [ln] at this; omega
        simp only [cT]
        rw [goN_used _ _ m 8 0 u (slot_lt ht) hu e8, List.drop_zero, goL_used _ _ _ _ _ (slot_lt ht) hu]
        cases h2 : usedGo m.Outer u with
        | none => rfl
        | some u' => exact ih (i + 1) u' ((usedGo_len _ _ _ h2).trans hu)
  exact key _ _ _ rfl
theorem holds_s_HostOk : Holds Tryz.prog 37 run_s_HostOk := by
  refine holds_of_eval (engQ_ok ctrJ4_ok mctC_ok pct0_ok tct0_ok) (fn_ok (by kernel_rfl)) ?_
  intro avs rs hr h
  have hb := allB_of_rep hr
  unfold run_s_HostOk at h
  split at h
  · rename_i a0_0 a0_1 a0_2 a0_3
    obtain ⟨hc, rfl⟩ := some_pair h
    obtain ⟨N, hN⟩ := law_s_HostOk (⟨a0_0, a0_1, a0_2, a0_3⟩ : Host) hb hc
    exact ⟨tms_s_HostOk, N, 12, (nf_s_HostOk N (⟨a0_0, a0_1, a0_2, a0_3⟩ : Host)).trans hN⟩
  · cases h

noncomputable def ctrJ5 : Ctrs := [(37, run_s_HostOk), (21, run_i_HostOk)] ++ ctrJ4

theorem ctrJ5_ok : ∀ f run, aget ctrJ5 f = some run → Holds Tryz.prog f run := ctr_more ctrJ4_ok (by
  intro x hx
  simp only [List.mem_cons, List.not_mem_nil, or_false] at hx
  rcases hx with rfl | rfl
  · exact holds_s_HostOk
  · exact holds_i_HostOk)

theorem hostOk_win {h : Host} (hh : hostOk h = true) : (h.Mons.length : Int) ≤ 3 := by
  unfold hostOk at hh
  simp only [bif_and] at hh
  exact (win_true.1 hh.2.1).2
def monHas (h : Host) (m : Int) : Bool := bif hostOk h then hasB m (ln h.Mons) else false
def pageHas (h : Host) (m p : Int) : Bool := bif hostOk h then (bif hasB m (ln h.Mons) then hasB p 8 else false) else false
theorem win_len {h : Host} (hh : hostOk h = true) (m : Int) : win m 0 (wsub .i64 (ln h.Mons) 1) = hasB m (ln h.Mons) := win_has (by have := hostOk_win hh; omega) m
theorem win7 (p : Int) : win p 0 7 = hasB p 8 := by
  unfold win ige ile hasB
  by_cases h1 : 0 ≤ p <;> by_cases h2 : p < 8
  · rw [decide_eq_true (p := p ≥ 0) (by omega), decide_eq_true (p := p ≤ 7) (by omega), decide_eq_true (p := 0 ≤ p ∧ p < 8) ⟨h1, h2⟩]; rfl
  · rw [decide_eq_false (p := p ≤ 7) (by omega), decide_eq_false (p := 0 ≤ p ∧ p < 8) (by omega)]; simp
  · rw [decide_eq_false (p := p ≥ 0) (by omega), decide_eq_false (p := 0 ≤ p ∧ p < 8) (by omega)]; simp
  · rw [decide_eq_false (p := p ≥ 0) (by omega), decide_eq_false (p := 0 ≤ p ∧ p < 8) (by omega)]; simp
@[simp, reducible] def s_l25Mon_c (h : Host) (m : Int) : Bool := true
@[simp, reducible] def s_l25Mon (h : Host) (m : Int) : Bool := monHas h m
noncomputable def run_s_l25Mon : List AV → Option (Bool × List AV)
  | [.agg [.s (.sl .int) a0_0, .s .mon a0_1, .s .entry a0_2, .s .entry a0_3], .one (.i .i64 a1)] => some ((s_l25Mon_c (⟨a0_0, a0_1, a0_2, a0_3⟩ : Host) a1), [.one (.b (s_l25Mon (⟨a0_0, a0_1, a0_2, a0_3⟩ : Host) a1))])
  | _ => none

noncomputable def E_s_l25Mon (N : Nat) (a0 : Host) (a1 : Int) : Option Ans :=
  (bif (s_HostOk_c a0) then (bif (s_HostOk a0) then (bif (s_l01In_c a1 0 (wsub .i64 (ln a0.Mons) 1)) then (some [(.one (.b (s_l01In a1 0 (wsub .i64 (ln a0.Mons) 1))))]) else none) else (some [(.one (.b false))])) else none)

theorem nf_s_l25Mon (N : Nat) (a0 : Host) (a1 : Int) : evalFn (cfgQ (aget ctrJ5) (aget mctC) (aget pct0) (aget tct0)) (tmsOf []) N 12 15 [.agg (hostC a0), .one (.i .i64 a1)] = E_s_l25Mon N a0 a1 := by kernel_rfl

theorem law_s_l25Mon (a0 : Host) (a1 : Int) (hb : AllB big [.agg (hostC a0), .one (.i .i64 a1)]) (hc : (s_l25Mon_c a0 a1) = true) : ∃ N, E_s_l25Mon N a0 a1 = some [.one (.b (s_l25Mon a0 a1))] := by
  refine ⟨0, ?_⟩
  unfold E_s_l25Mon s_l25Mon monHas
  cases hh : hostOk a0
  · simp only [s_HostOk_c, s_HostOk, hh, cT, cF]
  · simp only [s_HostOk_c, s_HostOk, hh, cT, s_l01In_c, win_s, win_len hh]
theorem holds_s_l25Mon : Holds Tryz.prog 15 run_s_l25Mon := by
  refine holds_of_eval (engQ_ok ctrJ5_ok mctC_ok pct0_ok tct0_ok) (fn_ok (by kernel_rfl)) ?_
  intro avs rs hr h
  have hb := allB_of_rep hr
  unfold run_s_l25Mon at h
  split at h
  · rename_i a0_0 a0_1 a0_2 a0_3 a1
    obtain ⟨hc, rfl⟩ := some_pair h
    obtain ⟨N, hN⟩ := law_s_l25Mon (⟨a0_0, a0_1, a0_2, a0_3⟩ : Host) a1 hb hc
    exact ⟨tmsOf [], N, 12, (nf_s_l25Mon N (⟨a0_0, a0_1, a0_2, a0_3⟩ : Host) a1).trans hN⟩
  · cases h

@[simp, reducible] def s_l22Is_c (h : Host) (m p : Int) : Bool := true
@[simp, reducible] def s_l22Is (h : Host) (m p : Int) : Bool := pageHas h m p
noncomputable def run_s_l22Is : List AV → Option (Bool × List AV)
  | [.agg [.s (.sl .int) a0_0, .s .mon a0_1, .s .entry a0_2, .s .entry a0_3], .one (.i .i64 a1), .one (.i .i64 a2)] => some ((s_l22Is_c (⟨a0_0, a0_1, a0_2, a0_3⟩ : Host) a1 a2), [.one (.b (s_l22Is (⟨a0_0, a0_1, a0_2, a0_3⟩ : Host) a1 a2))])
  | _ => none

noncomputable def E_s_l22Is (N : Nat) (a0 : Host) (a1 : Int) (a2 : Int) : Option Ans :=
  (bif (s_HostOk_c a0) then (bif (s_HostOk a0) then (bif (s_l01In_c a1 0 (wsub .i64 (ln a0.Mons) 1)) then (bif (s_l01In a1 0 (wsub .i64 (ln a0.Mons) 1)) then (bif (s_l01In_c a2 0 7) then (some [(.one (.b (s_l01In a2 0 7)))]) else none) else (some [(.one (.b false))])) else none) else (some [(.one (.b false))])) else none)

theorem nf_s_l22Is (N : Nat) (a0 : Host) (a1 : Int) (a2 : Int) : evalFn (cfgQ (aget ctrJ5) (aget mctC) (aget pct0) (aget tct0)) (tmsOf []) N 12 39 [.agg (hostC a0), .one (.i .i64 a1), .one (.i .i64 a2)] = E_s_l22Is N a0 a1 a2 := by kernel_rfl

theorem law_s_l22Is (a0 : Host) (a1 : Int) (a2 : Int) (hb : AllB big [.agg (hostC a0), .one (.i .i64 a1), .one (.i .i64 a2)]) (hc : (s_l22Is_c a0 a1 a2) = true) : ∃ N, E_s_l22Is N a0 a1 a2 = some [.one (.b (s_l22Is a0 a1 a2))] := by
  refine ⟨0, ?_⟩
  unfold E_s_l22Is s_l22Is pageHas
  cases hh : hostOk a0
  · simp only [s_HostOk_c, s_HostOk, hh, cT, cF]
  · simp only [s_HostOk_c, s_HostOk, hh, cT, s_l01In_c, win_s, win_len hh, win7]
    cases hasB a1 (ln a0.Mons) <;> rfl
theorem holds_s_l22Is : Holds Tryz.prog 39 run_s_l22Is := by
  refine holds_of_eval (engQ_ok ctrJ5_ok mctC_ok pct0_ok tct0_ok) (fn_ok (by kernel_rfl)) ?_
  intro avs rs hr h
  have hb := allB_of_rep hr
  unfold run_s_l22Is at h
  split at h
  · rename_i a0_0 a0_1 a0_2 a0_3 a1 a2
    obtain ⟨hc, rfl⟩ := some_pair h
    obtain ⟨N, hN⟩ := law_s_l22Is (⟨a0_0, a0_1, a0_2, a0_3⟩ : Host) a1 a2 hb hc
    exact ⟨tmsOf [], N, 12, (nf_s_l22Is N (⟨a0_0, a0_1, a0_2, a0_3⟩ : Host) a1 a2).trans hN⟩
  · cases h

@[simp, reducible] def i_hasPage_c (h : Host) (m p : Int) : Bool := true
@[simp, reducible] def i_hasPage (h : Host) (m p : Int) : Bool := pageHas h m p
noncomputable def run_i_hasPage : List AV → Option (Bool × List AV)
  | [.agg [.s (.sl .int) a0_0, .s .mon a0_1, .s .entry a0_2, .s .entry a0_3], .one (.i .i64 a1), .one (.i .i64 a2)] => some ((i_hasPage_c (⟨a0_0, a0_1, a0_2, a0_3⟩ : Host) a1 a2), [.one (.b (i_hasPage (⟨a0_0, a0_1, a0_2, a0_3⟩ : Host) a1 a2))])
  | _ => none

noncomputable def E_i_hasPage (N : Nat) (a0 : Host) (a1 : Int) (a2 : Int) : Option Ans :=
  (bif (i_HostOk_c a0) then (bif (i_HostOk a0) then (bif (i_has_c a1 (ln a0.Mons)) then (bif (i_has a1 (ln a0.Mons)) then (bif (i_has_c a2 8) then (some [(.one (.b (i_has a2 8)))]) else none) else (some [(.one (.b false))])) else none) else (some [(.one (.b false))])) else none)

theorem nf_i_hasPage (N : Nat) (a0 : Host) (a1 : Int) (a2 : Int) : evalFn (cfgQ (aget ctrJ5) (aget mctC) (aget pct0) (aget tct0)) (tmsOf []) N 12 51 [.agg (hostC a0), .one (.i .i64 a1), .one (.i .i64 a2)] = E_i_hasPage N a0 a1 a2 := by kernel_rfl

theorem law_i_hasPage (a0 : Host) (a1 : Int) (a2 : Int) (hb : AllB big [.agg (hostC a0), .one (.i .i64 a1), .one (.i .i64 a2)]) (hc : (i_hasPage_c a0 a1 a2) = true) : ∃ N, E_i_hasPage N a0 a1 a2 = some [.one (.b (i_hasPage a0 a1 a2))] := by
  refine ⟨0, ?_⟩
  unfold E_i_hasPage i_hasPage pageHas
  cases hh : hostOk a0
  · simp only [i_HostOk_c, i_HostOk, hh, cT, cF]
  · simp only [i_HostOk_c, i_HostOk, hh, cT, i_has_c, i_has]
    cases hasB a1 (ln a0.Mons) <;> rfl
theorem holds_i_hasPage : Holds Tryz.prog 51 run_i_hasPage := by
  refine holds_of_eval (engQ_ok ctrJ5_ok mctC_ok pct0_ok tct0_ok) (fn_ok (by kernel_rfl)) ?_
  intro avs rs hr h
  have hb := allB_of_rep hr
  unfold run_i_hasPage at h
  split at h
  · rename_i a0_0 a0_1 a0_2 a0_3 a1 a2
    obtain ⟨hc, rfl⟩ := some_pair h
    obtain ⟨N, hN⟩ := law_i_hasPage (⟨a0_0, a0_1, a0_2, a0_3⟩ : Host) a1 a2 hb hc
    exact ⟨tmsOf [], N, 12, (nf_i_hasPage N (⟨a0_0, a0_1, a0_2, a0_3⟩ : Host) a1 a2).trans hN⟩
  · cases h

noncomputable def ctrJ6 : Ctrs := [(15, run_s_l25Mon), (39, run_s_l22Is), (51, run_i_hasPage)] ++ ctrJ5

theorem ctrJ6_ok : ∀ f run, aget ctrJ6 f = some run → Holds Tryz.prog f run := ctr_more ctrJ5_ok (by
  intro x hx
  simp only [List.mem_cons, List.not_mem_nil, or_false] at hx
  rcases hx with rfl | rfl | rfl
  · exact holds_s_l25Mon
  · exact holds_s_l22Is
  · exact holds_i_hasPage)

end Go.Proofs.YtaccllfkapkahaaGreat.E
