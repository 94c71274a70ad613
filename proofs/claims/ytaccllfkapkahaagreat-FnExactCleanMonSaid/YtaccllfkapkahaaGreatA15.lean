/- What is proved here: contracts of the functions that clean a page of a machine. -/
import Derived.Test.YtaccllfkapkahaaGreatA14
import Derived.KernelRfl
namespace Go.Proofs.YtaccllfkapkahaaGreat.E
open Go
set_option maxRecDepth 100000
set_option linter.unusedVariables false
set_option linter.unusedSimpArgs false
set_option linter.unusedSectionVars false

/-! What is known of pages is forgotten. -/
def keptHas (k : Kept) (p : Int) : Bool := bif hasB p (ln k.Known) then hasB p (ln k.Slots) else false
def forgetAt (k : Kept) (p : Int) : Kept := bif keptHas k p then ⟨up k.Known p false, up k.Slots p noSlot⟩ else k
@[simp] theorem smK_forget {k : Kept} {p : Int} (h : SmK k) : SmK (forgetAt k p) := by
  unfold forgetAt
  cases keptHas k p
  · exact h
  · exact ⟨by simpa using h.1, by simpa using h.2⟩
theorem has_lt {p : Int} {n m : Int} (h : hasB p n = true) : ilt p m = hasB p m := by
  have h := of_decide_eq_true h
  unfold ilt hasB
  by_cases h1 : p < m
  · rw [decide_eq_true h1, decide_eq_true ⟨h.1, h1⟩]
  · rw [decide_eq_false h1, decide_eq_false (by omega)]
@[simp, reducible] noncomputable def s_l07Has_c (k : Kept) (p : Int) : Bool := pc (SmK k)
@[simp, reducible] def s_l07Has (k : Kept) (p : Int) : Bool := keptHas k p
noncomputable def run_s_l07Has : List AV → Option (Bool × List AV)
  | [.agg [.s .bool a0_0, .s .slot a0_1], .one (.i .i64 a1)] => some ((s_l07Has_c (⟨a0_0, a0_1⟩ : Kept) a1), [.one (.b (s_l07Has (⟨a0_0, a0_1⟩ : Kept) a1))])
  | _ => none

noncomputable def E_s_l07Has (N : Nat) (a0 : Kept) (a1 : Int) : Option Ans :=
  (bif (s_l01In_c a1 0 (wsub .i64 (ln a0.Known) 1)) then (bif (s_l01In a1 0 (wsub .i64 (ln a0.Known) 1)) then (some [(.one (.b (ilt a1 (ln a0.Slots))))]) else (some [(.one (.b false))])) else none)

theorem nf_s_l07Has (N : Nat) (a0 : Kept) (a1 : Int) : evalFn (cfgQ (aget ctrJ6) (aget mctC) (aget pct0) (aget tct0)) (tmsOf []) N 12 131 [.agg (Ty.cells .kept a0), .one (.i .i64 a1)] = E_s_l07Has N a0 a1 := by kernel_rfl

theorem law_s_l07Has (a0 : Kept) (a1 : Int) (hb : AllB big [.agg (Ty.cells .kept a0), .one (.i .i64 a1)]) (hc : (s_l07Has_c a0 a1) = true) : ∃ N, E_s_l07Has N a0 a1 = some [.one (.b (s_l07Has a0 a1))] := by
  have hs := pc_iff.1 hc
  refine ⟨0, ?_⟩
  unfold E_s_l07Has s_l07Has keptHas
  simp only [s_l01In_c, win_s, win_has hs.1, cT]
  cases hh : hasB a1 (ln a0.Known)
  · rfl
  · simp only [cT, has_lt hh]
theorem holds_s_l07Has : Holds Tryz.prog 131 run_s_l07Has := by
  refine holds_of_eval (engQ_ok ctrJ6_ok mctC_ok pct0_ok tct0_ok) (fn_ok (by kernel_rfl)) ?_
  intro avs rs hr h
  have hb := allB_of_rep hr
  unfold run_s_l07Has at h
  split at h
  · rename_i a0_0 a0_1 a1
    obtain ⟨hc, rfl⟩ := some_pair h
    obtain ⟨N, hN⟩ := law_s_l07Has (⟨a0_0, a0_1⟩ : Kept) a1 hb hc
    exact ⟨tmsOf [], N, 12, (nf_s_l07Has N (⟨a0_0, a0_1⟩ : Kept) a1).trans hN⟩
  · cases h

noncomputable def ctrJ7 : Ctrs := [(131, run_s_l07Has)] ++ ctrJ6

theorem ctrJ7_ok : ∀ f run, aget ctrJ7 f = some run → Holds Tryz.prog f run := ctr_more ctrJ6_ok (by
  intro x hx
  simp only [List.mem_cons, List.not_mem_nil, or_false] at hx
  rcases hx with rfl
  · exact holds_s_l07Has)

@[simp, reducible] noncomputable def s_Forget_c (k : Kept) (p : Int) : Bool := pc (SmK k)
@[simp, reducible] def s_Forget (k : Kept) (p : Int) : Kept := forgetAt k p
noncomputable def run_s_Forget : List AV → Option (Bool × List AV)
  | [.agg [.s .bool a0_0, .s .slot a0_1], .one (.i .i64 a1)] => some ((s_Forget_c (⟨a0_0, a0_1⟩ : Kept) a1), [.agg (Ty.cells .kept (s_Forget (⟨a0_0, a0_1⟩ : Kept) a1))])
  | _ => none

noncomputable def E_s_Forget (N : Nat) (a0 : Kept) (a1 : Int) : Option Ans :=
  (bif (s_l07Copy_c a0) then (bif (s_l07Has_c (s_l07Copy a0) a1) then (bif (s_l07Has (s_l07Copy a0) a1) then (bif (inb a1 (ln (s_l07Copy a0).Known)) then (share (up (s_l07Copy a0).Known a1 false) (fun x3 => (bif s_NoSlot_c then (bif (inb a1 (ln (s_l07Copy a0).Slots)) then (share (up (s_l07Copy a0).Slots a1 s_NoSlot) (fun x4 => (some [(.agg (Ty.cells .kept (⟨x3, x4⟩ : Kept)))]))) else none) else none))) else none) else (some [(.agg (Ty.cells .kept (s_l07Copy a0)))])) else none) else none)

theorem nf_s_Forget (N : Nat) (a0 : Kept) (a1 : Int) : evalFn (cfgQ (aget ctrJ7) (aget mctC) (aget pct0) (aget tct0)) (tmsOf []) N 12 108 [.agg (Ty.cells .kept a0), .one (.i .i64 a1)] = E_s_Forget N a0 a1 := by kernel_rfl

theorem law_s_Forget (a0 : Kept) (a1 : Int) (hb : AllB big [.agg (Ty.cells .kept a0), .one (.i .i64 a1)]) (hc : (s_Forget_c a0 a1) = true) : ∃ N, E_s_Forget N a0 a1 = some [.agg (Ty.cells .kept (s_Forget a0 a1))] := by
  have hs := pc_iff.1 hc
  refine ⟨0, ?_⟩
  unfold E_s_Forget s_Forget
  refine must (pc_t ((cells_k _).2 hs)) (must (pc_t hs) ?_)
  unfold forgetAt
  cases hh : keptHas a0 a1
  · simp only [s_l07Has, s_l07Copy, hh, cF]
  · simp only [s_l07Has, s_l07Copy, hh, cT]
    unfold keptHas at hh
    obtain ⟨h1, h2⟩ := bif_and.1 hh
    simp only [inb_hasB, h1, h2, cT, share, s_NoSlot_c]
theorem holds_s_Forget : Holds Tryz.prog 108 run_s_Forget := by
  refine holds_of_eval (engQ_ok ctrJ7_ok mctC_ok pct0_ok tct0_ok) (fn_ok (by kernel_rfl)) ?_
  intro avs rs hr h
  have hb := allB_of_rep hr
  unfold run_s_Forget at h
  split at h
  · rename_i a0_0 a0_1 a1
    obtain ⟨hc, rfl⟩ := some_pair h
    obtain ⟨N, hN⟩ := law_s_Forget (⟨a0_0, a0_1⟩ : Kept) a1 hb hc
    exact ⟨tmsOf [], N, 12, (nf_s_Forget N (⟨a0_0, a0_1⟩ : Kept) a1).trans hN⟩
  · cases h

@[simp, reducible] noncomputable def i_Forget_c (k : Kept) (p : Int) : Bool := pc (SmK k)
@[simp, reducible] def i_Forget (k : Kept) (p : Int) : Kept := forgetAt k p
noncomputable def run_i_Forget : List AV → Option (Bool × List AV)
  | [.agg [.s .bool a0_0, .s .slot a0_1], .one (.i .i64 a1)] => some ((i_Forget_c (⟨a0_0, a0_1⟩ : Kept) a1), [.agg (Ty.cells .kept (i_Forget (⟨a0_0, a0_1⟩ : Kept) a1))])
  | _ => none

noncomputable def E_i_Forget (N : Nat) (a0 : Kept) (a1 : Int) : Option Ans :=
  (bif (i_copyKept_c a0) then (bif (i_has_c a1 (ln a0.Known)) then (bif (i_has a1 (ln a0.Known)) then (bif (i_has_c a1 (ln a0.Slots)) then (bif (i_has a1 (ln a0.Slots)) then (bif (inb a1 (ln (i_copyKept a0).Known)) then (share (up (i_copyKept a0).Known a1 false) (fun x3 => (bif i_NoSlot_c then (bif (inb a1 (ln (i_copyKept a0).Slots)) then (share (up (i_copyKept a0).Slots a1 i_NoSlot) (fun x4 => (some [(.agg (Ty.cells .kept (⟨x3, x4⟩ : Kept)))]))) else none) else none))) else none) else (some [(.agg (Ty.cells .kept (i_copyKept a0)))])) else none) else (some [(.agg (Ty.cells .kept (i_copyKept a0)))])) else none) else none)

theorem nf_i_Forget (N : Nat) (a0 : Kept) (a1 : Int) : evalFn (cfgQ (aget ctrJ7) (aget mctC) (aget pct0) (aget tct0)) (tmsOf []) N 12 119 [.agg (Ty.cells .kept a0), .one (.i .i64 a1)] = E_i_Forget N a0 a1 := by kernel_rfl

theorem law_i_Forget (a0 : Kept) (a1 : Int) (hb : AllB big [.agg (Ty.cells .kept a0), .one (.i .i64 a1)]) (hc : (i_Forget_c a0 a1) = true) : ∃ N, E_i_Forget N a0 a1 = some [.agg (Ty.cells .kept (i_Forget a0 a1))] := by
  have hs := pc_iff.1 hc
  refine ⟨0, ?_⟩
  unfold E_i_Forget i_Forget
  refine must (pc_t hs) (must rfl ?_)
  unfold forgetAt keptHas
  simp only [i_has, i_has_c, i_copyKept, inb_hasB, share, i_NoSlot_c, cT]
  cases hasB a1 (ln a0.Known)
  · rfl
  · cases hasB a1 (ln a0.Slots) <;> rfl
theorem holds_i_Forget : Holds Tryz.prog 119 run_i_Forget := by
  refine holds_of_eval (engQ_ok ctrJ7_ok mctC_ok pct0_ok tct0_ok) (fn_ok (by kernel_rfl)) ?_
  intro avs rs hr h
  have hb := allB_of_rep hr
  unfold run_i_Forget at h
  split at h
  · rename_i a0_0 a0_1 a1
    obtain ⟨hc, rfl⟩ := some_pair h
    obtain ⟨N, hN⟩ := law_i_Forget (⟨a0_0, a0_1⟩ : Kept) a1 hb hc
    exact ⟨tmsOf [], N, 12, (nf_i_Forget N (⟨a0_0, a0_1⟩ : Kept) a1).trans hN⟩
  · cases h

noncomputable def ctrJ8 : Ctrs := [(108, run_s_Forget), (119, run_i_Forget)] ++ ctrJ7

theorem ctrJ8_ok : ∀ f run, aget ctrJ8 f = some run → Holds Tryz.prog f run := ctr_more ctrJ7_ok (by
  intro x hx
  simp only [List.mem_cons, List.not_mem_nil, or_false] at hx
  rcases hx with rfl | rfl
  · exact holds_s_Forget
  · exact holds_i_Forget)

def forgetAll (k : Kept) (l : List Int) : Kept := l.foldl forgetAt k
theorem smK_all : ∀ (l : List Int) {k : Kept}, SmK k → SmK (forgetAll k l)
  | [], _, h => h
  | p :: l, k, h => smK_all l (smK_forget (p := p) h)
theorem goL_forget {ρ : Type} (K : List Bool × List Slot → Option ρ) : ∀ (l : List Int) (i : Nat) (k : Kept), SmK k →
    goL (fun _ x (t : List Bool × List Slot) κ => bif pc (SmK ⟨t.1, t.2⟩) then κ ((forgetAt ⟨t.1, t.2⟩ x).Known, (forgetAt ⟨t.1, t.2⟩ x).Slots) else none) K l i (k.Known, k.Slots) = K ((forgetAll k l).Known, (forgetAll k l).Slots)
  | [], _, _, _ => rfl
  | x :: l, i, k, h => by
    have e : pc (SmK ⟨k.Known, k.Slots⟩) = true := pc_t h
    simp only [goL, e, cT]
    exact goL_forget K l (i + 1) (forgetAt k x) (smK_forget h)
def usesOf (l : List Slot) (p : Int) : List Int := idxs (fun (s : Slot) => ieq s.Page p) l 0
def forgetUses (k : Kept) (l : List Slot) (p : Int) : Kept := forgetAll k (usesOf l p)
theorem smK_uses {k : Kept} (l : List Slot) (p : Int) (h : SmK k) : SmK (forgetUses k l p) := smK_all _ h
@[simp, reducible] noncomputable def s_ForgetUses_c (k : Kept) (l : List Slot) (p : Int) : Bool := pc (SmK k ∧ l.length ≤ 1048576)
@[simp, reducible] def s_ForgetUses (k : Kept) (l : List Slot) (p : Int) : Kept := forgetUses k l p
noncomputable def run_s_ForgetUses : List AV → Option (Bool × List AV)
  | [.agg [.s .bool a0_0, .s .slot a0_1], .one (.s .slot a1), .one (.i .i64 a2)] => some ((s_ForgetUses_c (⟨a0_0, a0_1⟩ : Kept) a1 a2), [.agg (Ty.cells .kept (s_ForgetUses (⟨a0_0, a0_1⟩ : Kept) a1 a2))])
  | _ => none

noncomputable def E_s_ForgetUses (N : Nat) (a0 : Kept) (a1 : List Slot) (a2 : Int) : Option Ans :=
  (bif (s_l07Copy_c a0) then (bif (s_UsesOf_c a1 a2) then (iter (σ := (Int × ((List Int) × ((List Bool) × ((List Slot) × ((List Bool) × ((List Slot) × Unit))))))) N (fun r4 s5 => (bif (ilt s5.1 (ln s5.2.1)) then (bif (inb s5.1 (ln s5.2.1)) then (bif (s_Forget_c (⟨s5.2.2.1, s5.2.2.2.1⟩ : Kept) (ix s5.2.1 s5.1 0)) then (r4 ((wadd .i64 s5.1 1), (s5.2.1, ((s_Forget (⟨s5.2.2.1, s5.2.2.2.1⟩ : Kept) (ix s5.2.1 s5.1 0)).Known, ((s_Forget (⟨s5.2.2.1, s5.2.2.2.1⟩ : Kept) (ix s5.2.1 s5.1 0)).Slots, (s5.2.2.2.2.1, (s5.2.2.2.2.2.1, ()))))))) else none) else none) else (some [(.agg (Ty.cells .kept (⟨s5.2.2.1, s5.2.2.2.1⟩ : Kept)))]))) (0, ((s_UsesOf a1 a2), ((s_l07Copy a0).Known, ((s_l07Copy a0).Slots, ([], ([], ()))))))) else none) else none)

def tms_s_ForgetUses : FuncId → Nat → Option Tmpl := tmsOf [(75, 0, { n := 27, tm := [(3, .lp 0 0), (6, .lp 1 0), (7, .sl 0 []), (8, .i .i64)], lo := [(0, [.sl 1 [], .sl 2 []]), (1, [.sl 3 [], .sl 4 []])], ro := [(0, .int, true), (1, .bool, true), (2, .slot, true), (3, .bool, true), (4, .slot, true)] })]

theorem nf_s_ForgetUses (N : Nat) (a0 : Kept) (a1 : List Slot) (a2 : Int) : evalFn (cfgQ (aget ctrJ8) (aget mctC) (aget pct0) (aget tct0)) tms_s_ForgetUses N 12 75 [.agg (Ty.cells .kept a0), .one (.s .slot a1), .one (.i .i64 a2)] = E_s_ForgetUses N a0 a1 a2 := by kernel_rfl

theorem law_s_ForgetUses (a0 : Kept) (a1 : List Slot) (a2 : Int) (hb : AllB big [.agg (Ty.cells .kept a0), .one (.s .slot a1), .one (.i .i64 a2)]) (hc : (s_ForgetUses_c a0 a1 a2) = true) : ∃ N, E_s_ForgetUses N a0 a1 a2 = some [.agg (Ty.cells .kept (s_ForgetUses a0 a1 a2))] := by
  obtain ⟨hs, hs2⟩ := pc_iff.1 hc
  have hl : (s_UsesOf a1 a2).length ≤ big := Nat.le_trans (idxs_len _ a1 0) (sm_big hs2).1
  refine ⟨NN, ?_⟩
  have hNN : ∀ {n : Nat}, n ≤ big → n < NN := fun h => NN_lt h
  generalize NN = N at hNN ⊢
  unfold E_s_ForgetUses
  refine must (pc_t ((cells_k _).2 hs)) (must (pc_t (by omega)) ?_)
  refine (iter_list (s_UsesOf a1 a2) (fun i (t : (List Bool) × (List Slot)) => ((i : Int), (s_UsesOf a1 a2), t.1, t.2, [], [], ())) _ (fun _ (x : Int) (t : List Bool × List Slot) κ => bif pc (SmK ⟨t.1, t.2⟩) then κ ((forgetAt ⟨t.1, t.2⟩ x).Known, (forgetAt ⟨t.1, t.2⟩ x).Slots) else none) (fun (t : (List Bool) × (List Slot)) => (some [(.agg (Ty.cells .kept (⟨t.1, t.2⟩ : Kept)))])) (fun i hi t rec => ?_) (fun t rec => ?_) _ ((s_l07Copy a0).Known, (s_l07Copy a0).Slots) (hNN hl)).trans ?_
  · simp only [ilt_ln hi, inb_ln hi, ix_ln hi, wadd_up hi hl, cT]
  · simp only [ilt_end, cF]
  exact goL_forget _ _ 0 a0 hs
theorem holds_s_ForgetUses : Holds Tryz.prog 75 run_s_ForgetUses := by
  refine holds_of_eval (engQ_ok ctrJ8_ok mctC_ok pct0_ok tct0_ok) (fn_ok (by kernel_rfl)) ?_
  intro avs rs hr h
  have hb := allB_of_rep hr
  unfold run_s_ForgetUses at h
  split at h
  · rename_i a0_0 a0_1 a1 a2
    obtain ⟨hc, rfl⟩ := some_pair h
    obtain ⟨N, hN⟩ := law_s_ForgetUses (⟨a0_0, a0_1⟩ : Kept) a1 a2 hb hc
    exact ⟨tms_s_ForgetUses, N, 12, (nf_s_ForgetUses N (⟨a0_0, a0_1⟩ : Kept) a1 a2).trans hN⟩
  · cases h

@[simp, reducible] noncomputable def i_ForgetUses_c (k : Kept) (l : List Slot) (p : Int) : Bool := pc (SmK k ∧ l.length ≤ 1048576)
@[simp, reducible] def i_ForgetUses (k : Kept) (l : List Slot) (p : Int) : Kept := forgetUses k l p
noncomputable def run_i_ForgetUses : List AV → Option (Bool × List AV)
  | [.agg [.s .bool a0_0, .s .slot a0_1], .one (.s .slot a1), .one (.i .i64 a2)] => some ((i_ForgetUses_c (⟨a0_0, a0_1⟩ : Kept) a1 a2), [.agg (Ty.cells .kept (i_ForgetUses (⟨a0_0, a0_1⟩ : Kept) a1 a2))])
  | _ => none

noncomputable def E_i_ForgetUses (N : Nat) (a0 : Kept) (a1 : List Slot) (a2 : Int) : Option Ans :=
  (bif (i_copyKept_c a0) then (bif (i_UsesOf_c a1 a2) then (iter (σ := (Int × (Int × ((List Int) × ((List Bool) × ((List Slot) × ((List Bool) × ((List Slot) × Unit)))))))) N (fun r4 s5 => (bif (ilt s5.2.1 s5.1) then (bif (inb s5.2.1 (ln s5.2.2.1)) then (bif (i_Forget_c (⟨s5.2.2.2.2.2.1, s5.2.2.2.2.2.2.1⟩ : Kept) (ix s5.2.2.1 s5.2.1 0)) then (r4 (s5.1, ((wadd .i64 s5.2.1 1), (s5.2.2.1, (s5.2.2.2.1, (s5.2.2.2.2.1, ((i_Forget (⟨s5.2.2.2.2.2.1, s5.2.2.2.2.2.2.1⟩ : Kept) (ix s5.2.2.1 s5.2.1 0)).Known, ((i_Forget (⟨s5.2.2.2.2.2.1, s5.2.2.2.2.2.2.1⟩ : Kept) (ix s5.2.2.1 s5.2.1 0)).Slots, ())))))))) else none) else none) else (some [(.agg (Ty.cells .kept (⟨s5.2.2.2.2.2.1, s5.2.2.2.2.2.2.1⟩ : Kept)))]))) ((ln (i_UsesOf a1 a2)), (0, ((i_UsesOf a1 a2), ([], ([], ((i_copyKept a0).Known, ((i_copyKept a0).Slots, ())))))))) else none) else none)

def tms_i_ForgetUses : FuncId → Nat → Option Tmpl := tmsOf [(91, 0, { n := 25, tm := [(6, .lp 0 0), (7, .lp 1 0), (14, .sl 0 []), (15, .i .i64), (16, .i .i64)], lo := [(0, [.sl 1 [], .sl 2 []]), (1, [.sl 3 [], .sl 4 []])], ro := [(0, .int, true), (1, .bool, true), (2, .slot, true), (3, .bool, true), (4, .slot, true)] })]

theorem nf_i_ForgetUses (N : Nat) (a0 : Kept) (a1 : List Slot) (a2 : Int) : evalFn (cfgQ (aget ctrJ8) (aget mctC) (aget pct0) (aget tct0)) tms_i_ForgetUses N 12 91 [.agg (Ty.cells .kept a0), .one (.s .slot a1), .one (.i .i64 a2)] = E_i_ForgetUses N a0 a1 a2 := by kernel_rfl

theorem law_i_ForgetUses (a0 : Kept) (a1 : List Slot) (a2 : Int) (hb : AllB big [.agg (Ty.cells .kept a0), .one (.s .slot a1), .one (.i .i64 a2)]) (hc : (i_ForgetUses_c a0 a1 a2) = true) : ∃ N, E_i_ForgetUses N a0 a1 a2 = some [.agg (Ty.cells .kept (i_ForgetUses a0 a1 a2))] := by
  obtain ⟨hs, hs2⟩ := pc_iff.1 hc
  have hl : (i_UsesOf a1 a2).length ≤ big := Nat.le_trans (idxs_len _ a1 0) (sm_big hs2).1
  refine ⟨NN, ?_⟩
  have hNN : ∀ {n : Nat}, n ≤ big → n < NN := fun h => NN_lt h
  generalize NN = N at hNN ⊢
  unfold E_i_ForgetUses
  refine must (pc_t hs) (must (pc_t (by omega)) ?_)
  refine (iter_list (i_UsesOf a1 a2) (fun i (t : (List Bool) × (List Slot)) => ((ln (i_UsesOf a1 a2)), (i : Int), (i_UsesOf a1 a2), [], [], t.1, t.2, ())) _ (fun _ (x : Int) (t : List Bool × List Slot) κ => bif pc (SmK ⟨t.1, t.2⟩) then κ ((forgetAt ⟨t.1, t.2⟩ x).Known, (forgetAt ⟨t.1, t.2⟩ x).Slots) else none) (fun (t : (List Bool) × (List Slot)) => (some [(.agg (Ty.cells .kept (⟨t.1, t.2⟩ : Kept)))])) (fun i hi t rec => ?_) (fun t rec => ?_) _ ((i_copyKept a0).Known, (i_copyKept a0).Slots) (hNN hl)).trans ?_
  · simp only [ilt_ln hi, inb_ln hi, ix_ln hi, wadd_up hi hl, cT]
  · simp only [ilt_end, cF]
  exact goL_forget _ _ 0 a0 hs
theorem holds_i_ForgetUses : Holds Tryz.prog 91 run_i_ForgetUses := by
  refine holds_of_eval (engQ_ok ctrJ8_ok mctC_ok pct0_ok tct0_ok) (fn_ok (by kernel_rfl)) ?_
  intro avs rs hr h
  have hb := allB_of_rep hr
  unfold run_i_ForgetUses at h
  split at h
  · rename_i a0_0 a0_1 a1 a2
    obtain ⟨hc, rfl⟩ := some_pair h
    obtain ⟨N, hN⟩ := law_i_ForgetUses (⟨a0_0, a0_1⟩ : Kept) a1 a2 hb hc
    exact ⟨tms_i_ForgetUses, N, 12, (nf_i_ForgetUses N (⟨a0_0, a0_1⟩ : Kept) a1 a2).trans hN⟩
  · cases h


/-! Entries that lead to a page of the host are flushed. -/
def flushed (l : List Entry) (p : Int) : List Entry := l.filter fun e => !ieq e.Host p
theorem flushed_len (l : List Entry) (p : Int) : (flushed l p).length ≤ l.length := List.length_filter_le _ _
theorem goL_filter {α ρ : Type} (p : α → Bool) (K : List α → Option ρ) : ∀ (l : List α) (i : Nat) (acc : List α), acc.length + l.length ≤ 2147483648 →
    goL (fun _ x acc κ => bif p x then (bif few (ln (ap acc [x])) then κ (ap acc [x]) else none) else κ acc) K l i acc = K (acc ++ l.filter p)
  | [], i, acc, _ => by simp [goL]
  | x :: l, i, acc, h => by
    simp only [List.length_cons] at h
    simp only [goL]
    cases hp : p x
    · rw [cF, goL_filter p K l (i + 1) acc (by omega), List.filter_cons_of_neg (by simp [hp])]
    · rw [cT, few_ln (by simp [ap]; omega), cT, goL_filter p K l (i + 1) _ (by simp [ap]; omega), List.filter_cons_of_pos hp]
      simp [ap]
@[simp, reducible] noncomputable def s_FlushHost_c (l : List Entry) (p : Int) : Bool := pc (l.length ≤ 1048576)
@[simp, reducible] def s_FlushHost (l : List Entry) (p : Int) : List Entry := flushed l p
noncomputable def run_s_FlushHost : List AV → Option (Bool × List AV)
  | [.one (.s .entry a0), .one (.i .i64 a1)] => some ((s_FlushHost_c a0 a1), [.one (.s .entry (s_FlushHost a0 a1))])
  | _ => none

noncomputable def E_s_FlushHost (N : Nat) (a0 : List Entry) (a1 : Int) : Option Ans :=
  (iter (σ := (Int × (Int × ((List Entry) × ((List Entry) × Unit))))) N (fun r3 s4 => (bif (ilt s4.2.1 (ln s4.2.2.1)) then (bif (inb s4.2.1 (ln s4.2.2.1)) then (bif (ine (ix s4.2.2.1 s4.2.1 (Ty.dflt .entry)).Host s4.1) then (bif (inb s4.2.1 (ln s4.2.2.1)) then (bif (few (ln (ap s4.2.2.2.1 [(ix s4.2.2.1 s4.2.1 (Ty.dflt .entry))]))) then (r3 (s4.1, ((wadd .i64 s4.2.1 1), (s4.2.2.1, ((ap s4.2.2.2.1 [(ix s4.2.2.1 s4.2.1 (Ty.dflt .entry))]), ()))))) else none) else none) else (r3 (s4.1, ((wadd .i64 s4.2.1 1), (s4.2.2.1, (s4.2.2.2.1, ())))))) else none) else (some [(.one (.s .entry s4.2.2.2.1))]))) (a1, (0, (a0, ([], ())))))

def tms_s_FlushHost : FuncId → Nat → Option Tmpl := tmsOf [(76, 0, { n := 29, tm := [(0, .sl 0 []), (1, .i .i64), (5, .sl 1 []), (6, .i .i64)], lo := [], ro := [(0, .entry, false), (1, .entry, true)] })]

theorem nf_s_FlushHost (N : Nat) (a0 : List Entry) (a1 : Int) : evalFn (cfgQ (aget ctrJ8) (aget mctC) (aget pct0) (aget tct0)) tms_s_FlushHost N 12 76 [.one (.s .entry a0), .one (.i .i64 a1)] = E_s_FlushHost N a0 a1 := by kernel_rfl

theorem law_s_FlushHost (a0 : List Entry) (a1 : Int) (hb : AllB big [.one (.s .entry a0), .one (.i .i64 a1)]) (hc : (s_FlushHost_c a0 a1) = true) : ∃ N, E_s_FlushHost N a0 a1 = some [.one (.s .entry (s_FlushHost a0 a1))] := by
  have hs := pc_iff.1 hc
  have hl := sm_big hs
  refine ⟨NN, ?_⟩
  have hNN : ∀ {n : Nat}, n ≤ big → n < NN := fun h => NN_lt h
  generalize NN = N at hNN ⊢
  unfold E_s_FlushHost
  refine (iter_list a0 (fun i (t : (List Entry)) => (a1, (i : Int), a0, t, ())) _ (fun _ (x : Entry) (t : List Entry) κ => bif !ieq x.Host a1 then (bif few (ln (ap t [x])) then κ (ap t [x]) else none) else κ t) (fun (t : (List Entry)) => (some [(.one (.s .entry t))])) (fun i hi t rec => ?_) (fun t rec => ?_) _ ([]) (hNN hl.1)).trans ?_
  · simp only [ilt_ln hi, inb_ln hi, ix_ln hi, wadd_up hi hl.1, cT]
    rfl
  · simp only [ilt_end, cF]
  exact goL_filter (fun e => !ieq e.Host a1) _ a0 0 [] (by simpa using hl.2)
theorem holds_s_FlushHost : Holds Tryz.prog 76 run_s_FlushHost := by
  refine holds_of_eval (engQ_ok ctrJ8_ok mctC_ok pct0_ok tct0_ok) (fn_ok (by kernel_rfl)) ?_
  intro avs rs hr h
  have hb := allB_of_rep hr
  unfold run_s_FlushHost at h
  split at h
  · rename_i a0 a1
    obtain ⟨hc, rfl⟩ := some_pair h
    obtain ⟨N, hN⟩ := law_s_FlushHost a0 a1 hb hc
    exact ⟨tms_s_FlushHost, N, 12, (nf_s_FlushHost N a0 a1).trans hN⟩
  · cases h

@[simp, reducible] noncomputable def i_FlushHost_c (l : List Entry) (p : Int) : Bool := pc (l.length ≤ 1048576)
@[simp, reducible] def i_FlushHost (l : List Entry) (p : Int) : List Entry := flushed l p
noncomputable def run_i_FlushHost : List AV → Option (Bool × List AV)
  | [.one (.s .entry a0), .one (.i .i64 a1)] => some ((i_FlushHost_c a0 a1), [.one (.s .entry (i_FlushHost a0 a1))])
  | _ => none

noncomputable def E_i_FlushHost (N : Nat) (a0 : List Entry) (a1 : Int) : Option Ans :=
  (iter (σ := (Int × (Int × (Int × ((List Entry) × ((List Entry) × Unit)))))) N (fun r3 s4 => (bif (ilt s4.2.1 s4.1) then (bif (inb s4.2.1 (ln s4.2.2.2.2.1)) then (bif (bif (ieq (ix s4.2.2.2.2.1 s4.2.1 (Ty.dflt .entry)).Host s4.2.2.1) then false else true) then (bif (few (ln (ap s4.2.2.2.1 [(ix s4.2.2.2.2.1 s4.2.1 (Ty.dflt .entry))]))) then (r3 (s4.1, ((wadd .i64 s4.2.1 1), (s4.2.2.1, ((ap s4.2.2.2.1 [(ix s4.2.2.2.2.1 s4.2.1 (Ty.dflt .entry))]), (s4.2.2.2.2.1, ())))))) else none) else (r3 (s4.1, ((wadd .i64 s4.2.1 1), (s4.2.2.1, (s4.2.2.2.1, (s4.2.2.2.2.1, ()))))))) else none) else (some [(.one (.s .entry s4.2.2.2.1))]))) ((ln a0), (0, (a1, ([], (a0, ()))))))

def tms_i_FlushHost : FuncId → Nat → Option Tmpl := tmsOf [(120, 0, { n := 25, tm := [(1, .fn 121 [0]), (5, .sl 0 []), (9, .sl 1 []), (10, .i .i64), (11, .i .i64)], lo := [(0, [.i .i64])], ro := [(0, .entry, true), (1, .entry, false)] })]

theorem nf_i_FlushHost (N : Nat) (a0 : List Entry) (a1 : Int) : evalFn (cfgQ (aget ctrJ8) (aget mctC) (aget pct0) (aget tct0)) tms_i_FlushHost N 12 92 [.one (.s .entry a0), .one (.i .i64 a1)] = E_i_FlushHost N a0 a1 := by kernel_rfl

theorem law_i_FlushHost (a0 : List Entry) (a1 : Int) (hb : AllB big [.one (.s .entry a0), .one (.i .i64 a1)]) (hc : (i_FlushHost_c a0 a1) = true) : ∃ N, E_i_FlushHost N a0 a1 = some [.one (.s .entry (i_FlushHost a0 a1))] := by
  have hs := pc_iff.1 hc
  have hl := sm_big hs
  refine ⟨NN, ?_⟩
  have hNN : ∀ {n : Nat}, n ≤ big → n < NN := fun h => NN_lt h
  generalize NN = N at hNN ⊢
  unfold E_i_FlushHost
  refine (iter_list a0 (fun i (t : (List Entry)) => ((ln a0), (i : Int), a1, t, a0, ())) _ (fun _ (x : Entry) (t : List Entry) κ => bif !ieq x.Host a1 then (bif few (ln (ap t [x])) then κ (ap t [x]) else none) else κ t) (fun (t : (List Entry)) => (some [(.one (.s .entry t))])) (fun i hi t rec => ?_) (fun t rec => ?_) _ ([]) (hNN hl.1)).trans ?_
  · simp only [ilt_ln hi, inb_ln hi, ix_ln hi, wadd_up hi hl.1, cT]
    cases ieq a0[i].Host a1 <;> rfl
  · simp only [ilt_end, cF]
  exact goL_filter (fun e => !ieq e.Host a1) _ a0 0 [] (by simpa using hl.2)
theorem holds_i_FlushHost : Holds Tryz.prog 92 run_i_FlushHost := by
  refine holds_of_eval (engQ_ok ctrJ8_ok mctC_ok pct0_ok tct0_ok) (fn_ok (by kernel_rfl)) ?_
  intro avs rs hr h
  have hb := allB_of_rep hr
  unfold run_i_FlushHost at h
  split at h
  · rename_i a0 a1
    obtain ⟨hc, rfl⟩ := some_pair h
    obtain ⟨N, hN⟩ := law_i_FlushHost a0 a1 hb hc
    exact ⟨tms_i_FlushHost, N, 12, (nf_i_FlushHost N a0 a1).trans hN⟩
  · cases h

noncomputable def ctrJ9 : Ctrs := [(75, run_s_ForgetUses), (91, run_i_ForgetUses), (76, run_s_FlushHost), (92, run_i_FlushHost)] ++ ctrJ8

theorem ctrJ9_ok : ∀ f run, aget ctrJ9 f = some run → Holds Tryz.prog f run := ctr_more ctrJ8_ok (by
  intro x hx
  simp only [List.mem_cons, List.not_mem_nil, or_false] at hx
  rcases hx with rfl | rfl | rfl | rfl
  · exact holds_s_ForgetUses
  · exact holds_i_ForgetUses
  · exact holds_s_FlushHost
  · exact holds_i_FlushHost)


/-! What tables of a machine know of a page is forgotten, guest by guest. -/
def tabN (gs : List Guest) (p : Int) : Nat → List Kept → List Kept
  | 0, ts => ts
  | n + 1, ts => up (tabN gs p n ts) (n : Int) (forgetUses (ix (tabN gs p n ts) (n : Int) (Ty.dflt .kept)) (ix gs (n : Int) (Ty.dflt .guest)).Live p)
theorem tabN_len (gs : List Guest) (p : Int) : ∀ (n : Nat) (ts : List Kept), (tabN gs p n ts).length = ts.length
  | 0, _ => rfl
  | n + 1, ts => by simp only [tabN, up_len]; exact tabN_len gs p n ts
theorem smKs_tabN (gs : List Guest) (p : Int) : ∀ (n : Nat) (ts : List Kept), n ≤ ts.length → SmKs ts → SmKs (tabN gs p n ts)
  | 0, _, _, h => h
  | n + 1, ts, hn, h => by
    have ih := smKs_tabN gs p n ts (by omega) h
    have hl : n < (tabN gs p n ts).length := by rw [tabN_len]; omega
    exact smKs_up ih (smK_uses _ _ (by rw [ix_ln hl]; exact ih.2 _ (List.getElem_mem hl)))
def tabM (x : Mon) (p : Int) (n : Nat) : Mon := { x with Tables := tabN x.Guests p n x.Tables }
theorem smMon_tab {x : Mon} {p : Int} {n : Nat} (hn : n ≤ x.Tables.length) (h : SmMon x) : SmMon (tabM x p n) := ⟨h.1, h.2.1, h.2.2.1, h.2.2.2.1, h.2.2.2.2.1, smKs_tabN _ _ _ _ hn h.2.2.2.2.2⟩
def slotted (h : Host) (m p : Int) (s : Slot) : Host :=
  bif ine (ix (ix h.Mons m (Ty.dflt .mon)).Outer p (Ty.dflt .slot)).Page (-1)
  then ⟨h.Memory, up h.Mons m { tabM (ix h.Mons m (Ty.dflt .mon)) p (ix h.Mons m (Ty.dflt .mon)).Tables.length with Outer := up (ix h.Mons m (Ty.dflt .mon)).Outer p s }, flushed h.Buffer (ix (ix h.Mons m (Ty.dflt .mon)).Outer p (Ty.dflt .slot)).Page, flushed h.IoBuffer (ix (ix h.Mons m (Ty.dflt .mon)).Outer p (Ty.dflt .slot)).Page⟩
  else ⟨h.Memory, up h.Mons m { tabM (ix h.Mons m (Ty.dflt .mon)) p (ix h.Mons m (Ty.dflt .mon)).Tables.length with Outer := up (ix h.Mons m (Ty.dflt .mon)).Outer p s }, h.Buffer, h.IoBuffer⟩
def SlotAt (h : Host) (m p : Int) : Prop := hasB m (ln h.Mons) = true ∧ hasB p (ln (ix h.Mons m (Ty.dflt .mon)).Outer) = true ∧ (ix h.Mons m (Ty.dflt .mon)).Tables.length ≤ (ix h.Mons m (Ty.dflt .mon)).Guests.length
@[simp, reducible] noncomputable def s_l22Slot_c (h : Host) (m p : Int) (s : Slot) : Bool := pc (SmHost h ∧ SlotAt h m p)
@[simp, reducible] def s_l22Slot (h : Host) (m p : Int) (s : Slot) : Host := slotted h m p s
noncomputable def run_s_l22Slot : List AV → Option (Bool × List AV)
  | [.agg [.s (.sl .int) a0_0, .s .mon a0_1, .s .entry a0_2, .s .entry a0_3], .one (.i .i64 a1), .one (.i .i64 a2), .agg [.i .i64 a3_0, .i .i64 a3_1]] => some ((s_l22Slot_c (⟨a0_0, a0_1, a0_2, a0_3⟩ : Host) a1 a2 (⟨a3_0, a3_1⟩ : Slot)), [.agg (hostC (s_l22Slot (⟨a0_0, a0_1, a0_2, a0_3⟩ : Host) a1 a2 (⟨a3_0, a3_1⟩ : Slot)))])
  | _ => none

noncomputable def E_s_l22Slot (N : Nat) (a0 : Host) (a1 : Int) (a2 : Int) (a3 : Slot) : Option Ans :=
  (bif (inb a1 (ln a0.Mons)) then (bif (inb a2 (ln (ix a0.Mons a1 (Ty.dflt .mon)).Outer)) then (iter (σ := (Int × (Int × (Int × (Int × (Int × (Int × (Int × (Int × (Int × (Int × (Int × (Int × (Int × (Int × (Int × ((List (List Int)) × ((List Mon) × ((List Entry) × ((List Entry) × ((List (List Int)) × ((List Mon) × ((List Entry) × ((List Entry) × Unit)))))))))))))))))))))))) N (fun r5 s6 => (bif (ilt s6.2.2.2.1 (ln (ix s6.2.2.2.2.2.2.2.2.2.2.2.2.2.2.2.2.1 s6.2.2.2.2.2.2.2.2.2.2.2.2.2.1 (Ty.dflt .mon)).Tables)) then (bif (inb s6.2.2.2.1 (ln (ix s6.2.2.2.2.2.2.2.2.2.2.2.2.2.2.2.2.1 s6.2.2.2.2.2.2.2.2.2.2.2.2.2.1 (Ty.dflt .mon)).Tables)) then (bif (inb s6.2.2.2.1 (ln (ix s6.2.2.2.2.2.2.2.2.2.2.2.2.2.2.2.2.1 s6.2.2.2.2.2.2.2.2.2.1 (Ty.dflt .mon)).Guests)) then (bif (s_ForgetUses_c (ix (ix s6.2.2.2.2.2.2.2.2.2.2.2.2.2.2.2.2.1 s6.2.2.2.2.2.2.2.2.2.2.2.2.2.1 (Ty.dflt .mon)).Tables s6.2.2.2.1 (Ty.dflt .kept)) (ix (ix s6.2.2.2.2.2.2.2.2.2.2.2.2.2.2.2.2.1 s6.2.2.2.2.2.2.2.2.2.1 (Ty.dflt .mon)).Guests s6.2.2.2.1 (Ty.dflt .guest)).Live s6.2.1) then (bif (inb s6.2.2.2.1 (ln (ix s6.2.2.2.2.2.2.2.2.2.2.2.2.2.2.2.2.1 s6.2.2.2.2.2.2.2.2.2.2.2.2.2.1 (Ty.dflt .mon)).Tables)) then (share (up s6.2.2.2.2.2.2.2.2.2.2.2.2.2.2.2.2.1 s6.2.2.2.2.2.2.2.2.2.2.2.2.2.1 ({ (ix s6.2.2.2.2.2.2.2.2.2.2.2.2.2.2.2.2.1 s6.2.2.2.2.2.2.2.2.2.2.2.2.2.1 (Ty.dflt .mon)) with Tables := (up (ix s6.2.2.2.2.2.2.2.2.2.2.2.2.2.2.2.2.1 s6.2.2.2.2.2.2.2.2.2.2.2.2.2.1 (Ty.dflt .mon)).Tables s6.2.2.2.1 (s_ForgetUses (ix (ix s6.2.2.2.2.2.2.2.2.2.2.2.2.2.2.2.2.1 s6.2.2.2.2.2.2.2.2.2.2.2.2.2.1 (Ty.dflt .mon)).Tables s6.2.2.2.1 (Ty.dflt .kept)) (ix (ix s6.2.2.2.2.2.2.2.2.2.2.2.2.2.2.2.2.1 s6.2.2.2.2.2.2.2.2.2.1 (Ty.dflt .mon)).Guests s6.2.2.2.1 (Ty.dflt .guest)).Live s6.2.1)) } : Mon)) (fun x7 => (r5 (s6.1, (s6.2.1, (s6.2.2.1, ((wadd .i64 s6.2.2.2.1 1), (s6.2.2.2.2.1, (s6.2.2.2.2.2.1, (s6.2.2.2.2.2.2.1, (s6.2.2.2.2.2.2.2.1, (s6.2.2.2.2.2.2.2.2.1, (s6.2.2.2.2.2.2.2.2.2.1, (s6.2.2.2.2.2.2.2.2.2.2.1, (s6.2.2.2.2.2.2.2.2.2.2.2.1, (s6.2.2.2.2.2.2.2.2.2.2.2.2.1, (s6.2.2.2.2.2.2.2.2.2.2.2.2.2.1, (s6.2.2.2.2.2.2.2.2.2.2.2.2.2.2.1, (s6.2.2.2.2.2.2.2.2.2.2.2.2.2.2.2.1, (x7, (s6.2.2.2.2.2.2.2.2.2.2.2.2.2.2.2.2.2.1, (s6.2.2.2.2.2.2.2.2.2.2.2.2.2.2.2.2.2.2.1, (s6.2.2.2.2.2.2.2.2.2.2.2.2.2.2.2.2.2.2.2.1, (s6.2.2.2.2.2.2.2.2.2.2.2.2.2.2.2.2.2.2.2.2.1, (s6.2.2.2.2.2.2.2.2.2.2.2.2.2.2.2.2.2.2.2.2.2.1, (s6.2.2.2.2.2.2.2.2.2.2.2.2.2.2.2.2.2.2.2.2.2.2.1, ())))))))))))))))))))))))))) else none) else none) else none) else none) else (bif (ine s6.2.2.1 (-1)) then (bif (s_FlushHost_c s6.2.2.2.2.2.2.2.2.2.2.2.2.2.2.2.2.2.1 s6.2.2.1) then (bif (s_FlushHost_c s6.2.2.2.2.2.2.2.2.2.2.2.2.2.2.2.2.2.2.1 s6.2.2.1) then (bif (inb s6.2.1 (ln (ix s6.2.2.2.2.2.2.2.2.2.2.2.2.2.2.2.2.1 s6.2.2.2.2.2.2.1 (Ty.dflt .mon)).Outer)) then (share (up s6.2.2.2.2.2.2.2.2.2.2.2.2.2.2.2.2.1 s6.2.2.2.2.2.2.1 ({ (ix s6.2.2.2.2.2.2.2.2.2.2.2.2.2.2.2.2.1 s6.2.2.2.2.2.2.1 (Ty.dflt .mon)) with Outer := (up (ix s6.2.2.2.2.2.2.2.2.2.2.2.2.2.2.2.2.1 s6.2.2.2.2.2.2.1 (Ty.dflt .mon)).Outer s6.2.1 (⟨s6.2.2.2.2.1, s6.2.2.2.2.2.1⟩ : Slot)) } : Mon)) (fun x7 => (bif (inb s6.1 (ln x7)) then (bif (bif (bif (bif (bif (bif (bif (ieq s6.2.2.2.2.2.2.2.2.2.2.2.2.2.1 s6.1) then true else false) then (bif (ieq s6.2.2.2.2.2.2.2.2.2.2.1 s6.1) then true else false) else false) then (bif (ieq s6.2.2.2.2.2.2.2.2.2.1 s6.1) then true else false) else false) then (bif (ieq s6.2.2.2.2.2.2.2.2.1 s6.1) then true else false) else false) then (bif (ieq s6.2.2.2.2.2.2.2.1 s6.1) then true else false) else false) then (bif (ieq s6.2.2.2.2.2.2.1 s6.1) then true else false) else false) then (share (up x7 s6.1 ({ (ix x7 s6.2.2.2.2.2.2.1 (Ty.dflt .mon)) with Out := (ix x7 s6.2.2.2.2.2.2.2.1 (Ty.dflt .mon)).Out, Dirty := (ix x7 s6.2.2.2.2.2.2.2.2.1 (Ty.dflt .mon)).Dirty, Guests := (ix x7 s6.2.2.2.2.2.2.2.2.2.1 (Ty.dflt .mon)).Guests, Outs := (ix x7 s6.2.2.2.2.2.2.2.2.2.2.1 (Ty.dflt .mon)).Outs, Pending := s6.2.2.2.2.2.2.2.2.2.2.2.1, Traps := s6.2.2.2.2.2.2.2.2.2.2.2.2.1, Tables := (ix x7 s6.2.2.2.2.2.2.2.2.2.2.2.2.2.1 (Ty.dflt .mon)).Tables, Own := s6.2.2.2.2.2.2.2.2.2.2.2.2.2.2.1 } : Mon)) (fun x8 => (some [(.agg (hostC (⟨s6.2.2.2.2.2.2.2.2.2.2.2.2.2.2.2.1, x8, (s_FlushHost s6.2.2.2.2.2.2.2.2.2.2.2.2.2.2.2.2.2.1 s6.2.2.1), (s_FlushHost s6.2.2.2.2.2.2.2.2.2.2.2.2.2.2.2.2.2.2.1 s6.2.2.1)⟩ : Host)))]))) else none) else none))) else none) else none) else none) else (bif (inb s6.2.1 (ln (ix s6.2.2.2.2.2.2.2.2.2.2.2.2.2.2.2.2.1 s6.2.2.2.2.2.2.1 (Ty.dflt .mon)).Outer)) then (share (up s6.2.2.2.2.2.2.2.2.2.2.2.2.2.2.2.2.1 s6.2.2.2.2.2.2.1 ({ (ix s6.2.2.2.2.2.2.2.2.2.2.2.2.2.2.2.2.1 s6.2.2.2.2.2.2.1 (Ty.dflt .mon)) with Outer := (up (ix s6.2.2.2.2.2.2.2.2.2.2.2.2.2.2.2.2.1 s6.2.2.2.2.2.2.1 (Ty.dflt .mon)).Outer s6.2.1 (⟨s6.2.2.2.2.1, s6.2.2.2.2.2.1⟩ : Slot)) } : Mon)) (fun x7 => (bif (inb s6.1 (ln x7)) then (bif (bif (bif (bif (bif (bif (bif (ieq s6.2.2.2.2.2.2.2.2.2.2.2.2.2.1 s6.1) then true else false) then (bif (ieq s6.2.2.2.2.2.2.2.2.2.2.1 s6.1) then true else false) else false) then (bif (ieq s6.2.2.2.2.2.2.2.2.2.1 s6.1) then true else false) else false) then (bif (ieq s6.2.2.2.2.2.2.2.2.1 s6.1) then true else false) else false) then (bif (ieq s6.2.2.2.2.2.2.2.1 s6.1) then true else false) else false) then (bif (ieq s6.2.2.2.2.2.2.1 s6.1) then true else false) else false) then (share (up x7 s6.1 ({ (ix x7 s6.2.2.2.2.2.2.1 (Ty.dflt .mon)) with Out := (ix x7 s6.2.2.2.2.2.2.2.1 (Ty.dflt .mon)).Out, Dirty := (ix x7 s6.2.2.2.2.2.2.2.2.1 (Ty.dflt .mon)).Dirty, Guests := (ix x7 s6.2.2.2.2.2.2.2.2.2.1 (Ty.dflt .mon)).Guests, Outs := (ix x7 s6.2.2.2.2.2.2.2.2.2.2.1 (Ty.dflt .mon)).Outs, Pending := s6.2.2.2.2.2.2.2.2.2.2.2.1, Traps := s6.2.2.2.2.2.2.2.2.2.2.2.2.1, Tables := (ix x7 s6.2.2.2.2.2.2.2.2.2.2.2.2.2.1 (Ty.dflt .mon)).Tables, Own := s6.2.2.2.2.2.2.2.2.2.2.2.2.2.2.1 } : Mon)) (fun x8 => (some [(.agg (hostC (⟨s6.2.2.2.2.2.2.2.2.2.2.2.2.2.2.2.1, x8, s6.2.2.2.2.2.2.2.2.2.2.2.2.2.2.2.2.2.1, s6.2.2.2.2.2.2.2.2.2.2.2.2.2.2.2.2.2.2.1⟩ : Host)))]))) else none) else none))) else none)))) (a1, (a2, ((ix (ix a0.Mons a1 (Ty.dflt .mon)).Outer a2 (Ty.dflt .slot)).Page, (0, (a3.Page, (a3.Rights, (a1, (a1, (a1, (a1, (a1, ((ix a0.Mons a1 (Ty.dflt .mon)).Pending, ((ix a0.Mons a1 (Ty.dflt .mon)).Traps, (a1, ((ix a0.Mons a1 (Ty.dflt .mon)).Own, (a0.Memory, (a0.Mons, (a0.Buffer, (a0.IoBuffer, ([], ([], ([], ([], ())))))))))))))))))))))))) else none) else none)

def tms_s_l22Slot : FuncId → Nat → Option Tmpl := tmsOf [(41, 0, { n := 70, tm := [(1, .i .i64), (2, .i .i64), (4, .lp 0 0), (7, .lp 1 0), (8, .lp 2 0), (9, .lp 3 0), (10, .i .i64), (11, .i .i64)], lo := [(0, [.sl 0 [], .sl 1 [], .sl 2 [], .sl 3 []]), (1, [.i .i64, .i .i64]), (2, [.sl 4 [], .sl 5 [], .sl 6 [], .sl 7 []]), (3, [.sl 1 [0], .sl 1 [1], .sl 1 [2], .sl 1 [3], .sl 1 [4], .i .i64, .i .i64, .sl 1 [7], .i .i64])], ro := [(0, (.sl .int), true), (1, .mon, true), (2, .entry, true), (3, .entry, true), (4, (.sl .int), true), (5, .mon, true), (6, .entry, true), (7, .entry, true)] })]

theorem nf_s_l22Slot (N : Nat) (a0 : Host) (a1 : Int) (a2 : Int) (a3 : Slot) : evalK (cfgQ (aget ctrJ9) (aget mctC) (aget pct0) (aget tct0)) tms_s_l22Slot N 12 41 [true, true, true, true, false, false, false, false] 1 1 [[0], [1], [2], [4], [7]] .mon [.agg (hostC a0), .one (.i .i64 a1), .one (.i .i64 a2), .agg (Ty.cells .slot a3)] = E_s_l22Slot N a0 a1 a2 a3 := by kernel_rfl

theorem law_s_l22Slot (a0 : Host) (a1 : Int) (a2 : Int) (a3 : Slot) (hb : AllB big [.agg (hostC a0), .one (.i .i64 a1), .one (.i .i64 a2), .agg (Ty.cells .slot a3)]) (hc : (s_l22Slot_c a0 a1 a2 a3) = true) : ∃ N, E_s_l22Slot N a0 a1 a2 a3 = some [.agg (hostC (s_l22Slot a0 a1 a2 a3))] := by
  obtain ⟨hs, h1, h2, h3⟩ := pc_iff.1 hc
  have hH := (smHost_iff a0).1 hs
  have hm : SmMon (ix a0.Mons a1 (Ty.dflt .mon)) := hH.2.1.2 _ (ix_mem h1 _)
  obtain ⟨k, rfl, hk⟩ := has_nat (n := a0.Mons.length) h1
  have hT := (sm_big hm.2.2.2.2.2.1).1
  refine ⟨NN, ?_⟩
  have hNN : ∀ {n : Nat}, n ≤ big → n < NN := fun h => NN_lt h
  generalize NN = N at hNN ⊢
  unfold E_s_l22Slot
  refine must h1 (must h2 ?_)
  refine iter_to (ix a0.Mons (k : Int) (Ty.dflt .mon)).Tables.length (fun i (t : List Mon) => ((k : Int), a2, (ix (ix a0.Mons (k : Int) (Ty.dflt .mon)).Outer a2 (Ty.dflt .slot)).Page, (i : Int), a3.Page, a3.Rights, (k : Int), (k : Int), (k : Int), (k : Int), (k : Int), (ix a0.Mons (k : Int) (Ty.dflt .mon)).Pending, (ix a0.Mons (k : Int) (Ty.dflt .mon)).Traps, (k : Int), (ix a0.Mons (k : Int) (Ty.dflt .mon)).Own, a0.Memory, t, a0.Buffer, a0.IoBuffer, [], [], [], [], ())) _
    (fun i t => t = up a0.Mons (k : Int) (tabM (ix a0.Mons (k : Int) (Ty.dflt .mon)) a2 i)) (fun _ _ => some [AV.agg (hostC (slotted a0 (k : Int) a2 a3))]) (fun i t rec hi hI hr => ?_) (fun t rec hI => ?_) _ 0 a0.Mons ?_ (Nat.zero_le _) ?_
  · subst hI
    have hi2 : i < (tabN (ix a0.Mons (k : Int) (Ty.dflt .mon)).Guests a2 i (ix a0.Mons (k : Int) (Ty.dflt .mon)).Tables).length := by rw [tabN_len]; exact hi
    have hi3 : i < (ix a0.Mons (k : Int) (Ty.dflt .mon)).Guests.length := by omega
    have hf : s_ForgetUses_c (ix (tabN (ix a0.Mons (k : Int) (Ty.dflt .mon)).Guests a2 i (ix a0.Mons (k : Int) (Ty.dflt .mon)).Tables) (i : Int) (Ty.dflt .kept)) (ix (ix a0.Mons (k : Int) (Ty.dflt .mon)).Guests (i : Int) (Ty.dflt .guest)).Live a2 = true :=
      pc_t ⟨by rw [ix_ln hi2]; exact (smKs_tabN _ _ _ _ (by omega) hm.2.2.2.2.2).2 _ (List.getElem_mem hi2), by rw [ix_ln hi3]; exact (hm.2.2.2.1.2 _ (List.getElem_mem hi3)).2.2.1⟩
    simp only [ix_up hk, up_up, tabM, ilt_ln hi2, inb_ln hi2, inb_ln hi3, hf, cT, share, wadd_up hi hT]
    exact hr _ rfl
  · subst hI
    simp only [ix_up hk, up_up, up_len, tabM, ln, tabN_len, ieq_self, show ilt (((ix a0.Mons (k : Int) (Ty.dflt .mon)).Tables.length : Nat) : Int) (((ix a0.Mons (k : Int) (Ty.dflt .mon)).Tables.length : Nat) : Int) = false from decide_eq_false (by omega), cT, cF, share]
    have h1' : inb (k : Int) ((a0.Mons.length : Nat) : Int) = true := h1
    have h2' : inb a2 (((ix a0.Mons (k : Int) (Ty.dflt .mon)).Outer.length : Nat) : Int) = true := h2
    have f1 : s_FlushHost_c a0.Buffer (ix (ix a0.Mons (k : Int) (Ty.dflt .mon)).Outer a2 (Ty.dflt .slot)).Page = true := pc_t hH.2.2.1
    have f2 : s_FlushHost_c a0.IoBuffer (ix (ix a0.Mons (k : Int) (Ty.dflt .mon)).Outer a2 (Ty.dflt .slot)).Page = true := pc_t hH.2.2.2
    simp only [h1', h2', f1, f2, cT]
    unfold slotted
    cases ine (ix (ix a0.Mons (k : Int) (Ty.dflt .mon)).Outer a2 (Ty.dflt .slot)).Page (-1) <;> rfl
  · exact (up_self hk _).symm
  · exact hNN (by omega)
theorem holds_s_l22Slot : HoldsT Tryz.prog 41 [true, true, true, true, false, false, false, false] (some (1, 1, [[0], [1], [2], [4], [7]])) run_s_l22Slot := by
  refine holdsK_of_eval (kt := .mon) (engQ_ok ctrJ9_ok mctC_ok pct0_ok tct0_ok) (fn_ok (by kernel_rfl)) ?_
  intro avs rs hl hr h
  have hb := allB_of_repT hr
  unfold run_s_l22Slot at h
  split at h
  · rename_i a0_0 a0_1 a0_2 a0_3 a1 a2 a3_0 a3_1
    obtain ⟨hc, rfl⟩ := some_pair h
    obtain ⟨N, hN⟩ := law_s_l22Slot (⟨a0_0, a0_1, a0_2, a0_3⟩ : Host) a1 a2 (⟨a3_0, a3_1⟩ : Slot) hb hc
    exact ⟨⟨_, rfl⟩, rfl, tms_s_l22Slot, N, 12, (nf_s_l22Slot N (⟨a0_0, a0_1, a0_2, a0_3⟩ : Host) a1 a2 (⟨a3_0, a3_1⟩ : Slot)).trans hN⟩
  · cases h

noncomputable def tctJ : Tcts := [(41, ([true, true, true, true, false, false, false, false], (some (1, 1, [[0], [1], [2], [4], [7]])), run_s_l22Slot))] ++ tct0

theorem tctJ_ok : ∀ f own inp run, aget tctJ f = some (own, inp, run) → HoldsT Tryz.prog f own inp run := tct_more tct0_ok (by
  intro x hx
  simp only [List.mem_cons, List.not_mem_nil, or_false] at hx
  rcases hx with rfl
  · exact holds_s_l22Slot)


/-! A page is guarded. -/
def undirt (x : Mon) (p : Int) : Mon := { x with Dirty := up x.Dirty p false }
def grd (x : Mon) (p : Int) : Mon := { x with Outer := up x.Outer p ⟨(ix x.Outer p (Ty.dflt .slot)).Page, 1⟩ }
def undirtH (h : Host) (m p : Int) : Host := { h with Mons := up h.Mons m (undirt (ix h.Mons m (Ty.dflt .mon)) p) }
def guard1 (h : Host) (m p : Int) : Host := bif pageHas h m p then (bif slotEq (ix (ix h.Mons m (Ty.dflt .mon)).Outer p (Ty.dflt .slot)) noSlot then undirtH h m p else slotted (undirtH h m p) m p ⟨(ix (ix h.Mons m (Ty.dflt .mon)).Outer p (Ty.dflt .slot)).Page, 1⟩) else h
theorem hostGo_all : ∀ (l : List Mon) (u : List Bool), hostGo l u = true → ∀ x ∈ l, monOk x = true
  | [], _, _, x, hx => by cases hx
  | m :: l, u, h, x, hx => by
    simp only [hostGo] at h
    cases h1 : monOk m
    · rw [h1] at h; cases h
    · rw [h1] at h
      simp only [cT] at h
      cases h2 : usedGo m.Outer u with
      | none => rw [h2] at h; cases h
      | some u' =>
        rw [h2] at h
        rcases List.mem_cons.1 hx with rfl | hx
        · exact h1
        · exact hostGo_all l u' h x hx
structure PageAt (h : Host) (m p : Int) : Prop where
  hm : hasB m (ln h.Mons) = true
  hp : hasB p 8 = true
  ok : monOk (ix h.Mons m (Ty.dflt .mon)) = true
  ho : (ix h.Mons m (Ty.dflt .mon)).Outer.length = 8
  hd : (ix h.Mons m (Ty.dflt .mon)).Dirty.length = 8
  ht : (ix h.Mons m (Ty.dflt .mon)).Tables.length = (ix h.Mons m (Ty.dflt .mon)).Guests.length
  hs : slotEq (ix (ix h.Mons m (Ty.dflt .mon)).Outer p (Ty.dflt .slot)) noSlot = ieq (ix (ix h.Mons m (Ty.dflt .mon)).Outer p (Ty.dflt .slot)).Page (-1)
theorem slotOk_eq {s : Slot} {n : Int} (h : slotOk s n = true) : slotEq s noSlot = ieq s.Page (-1) := by
  unfold slotOk at h
  cases h1 : slotEq s noSlot
  · rw [h1] at h
    cases h2 : ieq s.Page (-1)
    · rfl
    · have e : s.Page = -1 := of_decide_eq_true h2
      cases h3 : igt n 0
      · rw [h3] at h; cases h
      · cases h4 : win s.Page 0 (wsub .i64 n 1)
        · rw [h3, h4] at h; cases h
        · have := (win_true.1 h4).1
          omega
  · unfold slotEq at h1
    rw [Bool.and_eq_true] at h1
    exact h1.1.symm
theorem pageHas_at {h : Host} {m p : Int} (hp : pageHas h m p = true) : PageAt h m p := by
  unfold pageHas at hp
  simp only [bif_and] at hp
  obtain ⟨h0, h1, h2⟩ := hp
  unfold hostOk at h0
  simp only [bif_and] at h0
  have hok := hostGo_all _ _ h0.2.2.2.2 _ (ix_mem h1 (Ty.dflt .mon))
  have hk := hok
  unfold monOk at hk
  simp only [bif_and] at hk
  have ho : (ix h.Mons m (Ty.dflt .mon)).Outer.length = 8 := by have := table_len hk.2.2.1; simp only [ln] at this; omega
  refine ⟨h1, h2, hok, ho, ?_, ?_, ?_⟩
  · have : ln (ix h.Mons m (Ty.dflt .mon)).Dirty = 8 := of_decide_eq_true hk.2.2.2.2.1
    simp only [ln] at this; omega
  · have : ln (ix h.Mons m (Ty.dflt .mon)).Tables = ln (ix h.Mons m (Ty.dflt .mon)).Guests := of_decide_eq_true hk.2.1
    simp only [ln] at this; omega
  · have ht := hk.2.2.1
    unfold tableOk at ht
    simp only [bif_and] at ht
    have hi : hasB p (ln (ix h.Mons m (Ty.dflt .mon)).Outer) = true := by rw [ln, ho]; exact h2
    exact slotOk_eq (List.all_eq_true.1 ht.1 _ (ix_mem hi _))
theorem smMon_undirt {x : Mon} {p : Int} (h : SmMon x) : SmMon (undirt x p) := ⟨h.1, h.2.1, by simpa [undirt] using h.2.2.1, h.2.2.2⟩
theorem smH_undirt {h : Host} {m p : Int} (hm : hasB m (ln h.Mons) = true) (hs : SmH h) : SmH (undirtH h m p) := ⟨hs.1, smMons_up hs.2.1 (smMon_undirt (hs.2.1.2 _ (ix_mem hm _))), hs.2.2⟩
theorem smH_slotted {h : Host} {m p : Int} {s : Slot} (hm : hasB m (ln h.Mons) = true) (hs : SmH h) : SmH (slotted h m p s) := by
  have hx := hs.2.1.2 _ (ix_mem hm (Ty.dflt .mon))
  have ht := smMon_tab (p := p) (Nat.le_refl _) hx
  have hM : SmMons (up h.Mons m { tabM (ix h.Mons m (Ty.dflt .mon)) p (ix h.Mons m (Ty.dflt .mon)).Tables.length with Outer := up (ix h.Mons m (Ty.dflt .mon)).Outer p s }) := smMons_up hs.2.1 ⟨by simpa using hx.1, ht.2⟩
  unfold slotted
  cases ine (ix (ix h.Mons m (Ty.dflt .mon)).Outer p (Ty.dflt .slot)).Page (-1)
  · exact ⟨hs.1, hM, hs.2.2⟩
  · exact ⟨hs.1, hM, Nat.le_trans (flushed_len _ _) hs.2.2.1, Nat.le_trans (flushed_len _ _) hs.2.2.2⟩
theorem undirt_has {h : Host} {m p : Int} (hm : hasB m (ln h.Mons) = true) : hasB m (ln (undirtH h m p).Mons) = true := by
  unfold undirtH
  simpa [ln] using hm
theorem smH_guard {h : Host} {m p : Int} (hs : SmH h) : SmH (guard1 h m p) := by
  unfold guard1
  cases hp : pageHas h m p
  · exact hs
  · have P := pageHas_at hp
    cases slotEq (ix (ix h.Mons m (Ty.dflt .mon)).Outer p (Ty.dflt .slot)) noSlot
    · exact smH_slotted (undirt_has P.hm) (smH_undirt P.hm hs)
    · exact smH_undirt P.hm hs
@[simp, reducible] noncomputable def s_Guard_c (h : Host) (m p : Int) : Bool := pc (SmHost h)
@[simp, reducible] def s_Guard_1 (h : Host) (m p : Int) : Host := guard1 h m p
@[simp, reducible] def s_Guard_2 (h : Host) (m p : Int) : Bool := pageHas h m p
noncomputable def run_s_Guard : List AV → Option (Bool × List AV)
  | [.agg [.s (.sl .int) a0_0, .s .mon a0_1, .s .entry a0_2, .s .entry a0_3], .one (.i .i64 a1), .one (.i .i64 a2)] => some ((s_Guard_c (⟨a0_0, a0_1, a0_2, a0_3⟩ : Host) a1 a2), [.agg (hostC (s_Guard_1 (⟨a0_0, a0_1, a0_2, a0_3⟩ : Host) a1 a2)), .one (.b (s_Guard_2 (⟨a0_0, a0_1, a0_2, a0_3⟩ : Host) a1 a2))])
  | _ => none

noncomputable def E_s_Guard (N : Nat) (a0 : Host) (a1 : Int) (a2 : Int) : Option Ans :=
  (bif (s_l21Copy_c a0) then (bif (s_l22Is_c (s_l21Copy a0) a1 a2) then (bif (bif (s_l22Is (s_l21Copy a0) a1 a2) then false else true) then (some [(.agg (hostC (s_l21Copy a0))), (.one (.b false))]) else (bif (inb a1 (ln (s_l21Copy a0).Mons)) then (bif (inb a2 (ln (ix (s_l21Copy a0).Mons a1 (Ty.dflt .mon)).Dirty)) then (share (up (s_l21Copy a0).Mons a1 ({ (ix (s_l21Copy a0).Mons a1 (Ty.dflt .mon)) with Dirty := (up (ix (s_l21Copy a0).Mons a1 (Ty.dflt .mon)).Dirty a2 false) } : Mon)) (fun x4 => (bif (inb a1 (ln x4)) then (bif (inb a2 (ln (ix x4 a1 (Ty.dflt .mon)).Outer)) then (bif s_NoSlot_c then (bif (bif (ieq (ix (ix x4 a1 (Ty.dflt .mon)).Outer a2 (Ty.dflt .slot)).Page s_NoSlot.Page) then (ieq (ix (ix x4 a1 (Ty.dflt .mon)).Outer a2 (Ty.dflt .slot)).Rights s_NoSlot.Rights) else false) then (some [(.agg (hostC ({ (s_l21Copy a0) with Mons := x4 } : Host))), (.one (.b true))]) else (bif (s_l22Slot_c ({ (s_l21Copy a0) with Mons := x4 } : Host) a1 a2 ({ (ix (ix x4 a1 (Ty.dflt .mon)).Outer a2 (Ty.dflt .slot)) with Rights := 1 } : Slot)) then (some [(.agg (hostC (s_l22Slot ({ (s_l21Copy a0) with Mons := x4 } : Host) a1 a2 ({ (ix (ix x4 a1 (Ty.dflt .mon)).Outer a2 (Ty.dflt .slot)) with Rights := 1 } : Slot)))), (.one (.b true))]) else none)) else none) else none) else none))) else none) else none)) else none) else none)

theorem nf_s_Guard (N : Nat) (a0 : Host) (a1 : Int) (a2 : Int) : evalFn (cfgQ (aget ctrJ9) (aget mctC) (aget pct0) (aget tctJ)) (tmsOf []) N 12 16 [.agg (hostC a0), .one (.i .i64 a1), .one (.i .i64 a2)] = E_s_Guard N a0 a1 a2 := by kernel_rfl

theorem law_s_Guard (a0 : Host) (a1 : Int) (a2 : Int) (hb : AllB big [.agg (hostC a0), .one (.i .i64 a1), .one (.i .i64 a2)]) (hc : (s_Guard_c a0 a1 a2) = true) : ∃ N, E_s_Guard N a0 a1 a2 = some [.agg (hostC (s_Guard_1 a0 a1 a2)), .one (.b (s_Guard_2 a0 a1 a2))] := by
  have hs := pc_iff.1 hc
  have hH := (smHost_iff a0).1 hs
  refine ⟨0, ?_⟩
  unfold E_s_Guard s_Guard_1 s_Guard_2 guard1
  refine must (pc_t hs) (must rfl ?_)
  cases hp : pageHas a0 a1 a2
  · simp only [s_l22Is, s_l21Copy, hp, cF, cT]
  · have P := pageHas_at hp
    obtain ⟨k, rfl, hk⟩ := has_nat (n := a0.Mons.length) P.hm
    simp only [s_l22Is, s_l21Copy, hp, cT, cF]
    have i1 : inb a2 (ln (ix a0.Mons (k : Int) (Ty.dflt .mon)).Dirty) = true := by rw [ln, P.hd]; exact P.hp
    have i2 : inb a2 (ln (ix a0.Mons (k : Int) (Ty.dflt .mon)).Outer) = true := by rw [ln, P.ho]; exact P.hp
    refine must P.hm (must i1 ?_)
    simp only [share, ix_up hk, i2, cT, s_NoSlot_c, s_NoSlot]
    refine must (undirt_has (p := a2) P.hm) ?_
    have e : ∀ s : Slot, slotEq s noSlot = bif ieq s.Page noSlot.Page then ieq s.Rights noSlot.Rights else false := fun s => by
      unfold slotEq
      cases ieq s.Page noSlot.Page <;> rfl
    rw [← e]
    cases slotEq (ix (ix a0.Mons (k : Int) (Ty.dflt .mon)).Outer a2 (Ty.dflt .slot)) noSlot
    · refine mustF rfl (must (pc_t ⟨(smHost_iff _).2 (smH_undirt P.hm hH), undirt_has (p := a2) P.hm, ?_, ?_⟩) rfl)
      · simp only [ix_up hk]; exact i2
      · simp only [ix_up hk]; exact Nat.le_of_eq P.ht
    · rfl
theorem holds_s_Guard : Holds Tryz.prog 16 run_s_Guard := by
  refine holds_of_eval (engQ_ok ctrJ9_ok mctC_ok pct0_ok tctJ_ok) (fn_ok (by kernel_rfl)) ?_
  intro avs rs hr h
  have hb := allB_of_rep hr
  unfold run_s_Guard at h
  split at h
  · rename_i a0_0 a0_1 a0_2 a0_3 a1 a2
    obtain ⟨hc, rfl⟩ := some_pair h
    obtain ⟨N, hN⟩ := law_s_Guard (⟨a0_0, a0_1, a0_2, a0_3⟩ : Host) a1 a2 hb hc
    exact ⟨tmsOf [], N, 12, (nf_s_Guard N (⟨a0_0, a0_1, a0_2, a0_3⟩ : Host) a1 a2).trans hN⟩
  · cases h

@[simp, reducible] noncomputable def i_Guard_c (h : Host) (m p : Int) : Bool := pc (SmHost h)
@[simp, reducible] def i_Guard_1 (h : Host) (m p : Int) : Host := guard1 h m p
@[simp, reducible] def i_Guard_2 (h : Host) (m p : Int) : Bool := pageHas h m p
noncomputable def run_i_Guard : List AV → Option (Bool × List AV)
  | [.agg [.s (.sl .int) a0_0, .s .mon a0_1, .s .entry a0_2, .s .entry a0_3], .one (.i .i64 a1), .one (.i .i64 a2)] => some ((i_Guard_c (⟨a0_0, a0_1, a0_2, a0_3⟩ : Host) a1 a2), [.agg (hostC (i_Guard_1 (⟨a0_0, a0_1, a0_2, a0_3⟩ : Host) a1 a2)), .one (.b (i_Guard_2 (⟨a0_0, a0_1, a0_2, a0_3⟩ : Host) a1 a2))])
  | _ => none

noncomputable def E_i_Guard (N : Nat) (a0 : Host) (a1 : Int) (a2 : Int) : Option Ans :=
  (bif (i_copyHost_c a0) then (bif (i_hasPage_c a0 a1 a2) then (bif (bif (i_hasPage a0 a1 a2) then false else true) then (some [(.agg (hostC (i_copyHost a0))), (.one (.b false))]) else (bif (inb a1 (ln (i_copyHost a0).Mons)) then (bif (inb a2 (ln (ix (i_copyHost a0).Mons a1 (Ty.dflt .mon)).Outer)) then (bif (ine (ix (ix (i_copyHost a0).Mons a1 (Ty.dflt .mon)).Outer a2 (Ty.dflt .slot)).Page (-1)) then (bif (inb a2 (ln (ix (i_copyHost a0).Mons a1 (Ty.dflt .mon)).Outer)) then (share (up (i_copyHost a0).Mons a1 ({ (ix (i_copyHost a0).Mons a1 (Ty.dflt .mon)) with Outer := (up (ix (i_copyHost a0).Mons a1 (Ty.dflt .mon)).Outer a2 ({ (ix (ix (i_copyHost a0).Mons a1 (Ty.dflt .mon)).Outer a2 (Ty.dflt .slot)) with Rights := 1 } : Slot)) } : Mon)) (fun x4 => (bif (inb a1 (ln x4)) then (bif (bif (bif (bif (ieq a1 a1) then true else false) then (bif (bif (ieq a1 a1) then true else false) then (bif (bif (ieq a1 a1) then true else false) then (bif (bif (ieq a1 a1) then true else false) then (bif (bif (ieq a1 a1) then true else false) then (bif (ieq a1 a1) then (bif (bif (ieq a2 a2) then (ieq a1 a1) else false) then (bif (bif (ieq a1 a1) then true else false) then (bif (bif (ieq a1 a1) then true else false) then (bif (bif (ieq a1 a1) then true else false) then (bif (ieq a1 a1) then (bif (bif (ieq a2 a2) then (ieq a1 a1) else false) then (bif (bif (ieq a2 a2) then (ieq a1 a1) else false) then true else false) else false) else false) else false) else false) else false) else false) else false) else false) else false) else false) else false) else false) then true else false) then (iter (σ := (Int × (Int × (Int × (Int × (Int × (Int × (Int × (Int × ((List Mon) × ((List (List Int)) × ((List Mon) × ((List Entry) × ((List Entry) × ((List (List Int)) × ((List Entry) × ((List Entry) × ((List (List Int)) × ((List Mon) × ((List Entry) × ((List Entry) × Unit))))))))))))))))))))) N (fun r5 s6 => (bif (ilt s6.2.2.2.1 s6.2.2.1) then (bif (inb s6.2.2.2.1 (ln (ix s6.2.2.2.2.2.2.2.2.1 s6.2.1 (Ty.dflt .mon)).Tables)) then (bif (inb s6.2.2.2.1 (ln (ix s6.2.2.2.2.2.2.2.2.1 s6.2.1 (Ty.dflt .mon)).Guests)) then (bif (i_ForgetUses_c (ix (ix s6.2.2.2.2.2.2.2.2.1 s6.2.1 (Ty.dflt .mon)).Tables s6.2.2.2.1 (Ty.dflt .kept)) (ix (ix s6.2.2.2.2.2.2.2.2.1 s6.2.1 (Ty.dflt .mon)).Guests s6.2.2.2.1 (Ty.dflt .guest)).Live s6.1) then (bif (inb s6.2.2.2.1 (ln (ix s6.2.2.2.2.2.2.2.2.1 s6.2.1 (Ty.dflt .mon)).Tables)) then (share (up s6.2.2.2.2.2.2.2.2.1 s6.2.1 ({ (ix s6.2.2.2.2.2.2.2.2.1 s6.2.1 (Ty.dflt .mon)) with Tables := (up (ix s6.2.2.2.2.2.2.2.2.1 s6.2.1 (Ty.dflt .mon)).Tables s6.2.2.2.1 (i_ForgetUses (ix (ix s6.2.2.2.2.2.2.2.2.1 s6.2.1 (Ty.dflt .mon)).Tables s6.2.2.2.1 (Ty.dflt .kept)) (ix (ix s6.2.2.2.2.2.2.2.2.1 s6.2.1 (Ty.dflt .mon)).Guests s6.2.2.2.1 (Ty.dflt .guest)).Live s6.1)) } : Mon)) (fun x7 => (bif (bif (bif (bif (ieq a1 a1) then true else false) then (bif (bif (ieq a1 a1) then true else false) then (bif (bif (ieq a1 a1) then true else false) then (bif (bif (ieq a1 a1) then true else false) then (bif (bif (ieq a1 a1) then true else false) then (bif (ieq a1 a1) then (bif (bif (ieq a2 a2) then (ieq a1 a1) else false) then (bif (bif (ieq a1 a1) then true else false) then (bif (bif (ieq a1 a1) then true else false) then (bif (bif (ieq a1 a1) then true else false) then (bif (ieq a1 a1) then (bif (bif (ieq a2 a2) then (ieq a1 a1) else false) then (bif (bif (ieq a2 a2) then (ieq a1 a1) else false) then true else false) else false) else false) else false) else false) else false) else false) else false) else false) else false) else false) else false) else false) then true else false) then (r5 (s6.1, (s6.2.1, (s6.2.2.1, ((wadd .i64 s6.2.2.2.1 1), (s6.2.2.2.2.1, (s6.2.2.2.2.2.1, (s6.2.2.2.2.2.2.1, (s6.2.2.2.2.2.2.2.1, (x7, (s6.2.2.2.2.2.2.2.2.2.1, (s6.2.2.2.2.2.2.2.2.2.2.1, (s6.2.2.2.2.2.2.2.2.2.2.2.1, (s6.2.2.2.2.2.2.2.2.2.2.2.2.1, (s6.2.2.2.2.2.2.2.2.2.2.2.2.2.1, (s6.2.2.2.2.2.2.2.2.2.2.2.2.2.2.1, (s6.2.2.2.2.2.2.2.2.2.2.2.2.2.2.2.1, (s6.2.2.2.2.2.2.2.2.2.2.2.2.2.2.2.2.1, (s6.2.2.2.2.2.2.2.2.2.2.2.2.2.2.2.2.2.1, (s6.2.2.2.2.2.2.2.2.2.2.2.2.2.2.2.2.2.2.1, (s6.2.2.2.2.2.2.2.2.2.2.2.2.2.2.2.2.2.2.2.1, ()))))))))))))))))))))) else none))) else none) else none) else none) else none) else (bif (ine s6.2.2.2.2.1 (-1)) then (bif (i_FlushHost_c s6.2.2.2.2.2.2.2.2.2.2.2.2.2.2.1 s6.2.2.2.2.1) then (bif (i_FlushHost_c s6.2.2.2.2.2.2.2.2.2.2.2.2.2.2.2.1 s6.2.2.2.2.1) then (bif (inb a2 (ln (ix s6.2.2.2.2.2.2.2.2.1 a1 (Ty.dflt .mon)).Dirty)) then (share (up s6.2.2.2.2.2.2.2.2.1 a1 ({ (ix s6.2.2.2.2.2.2.2.2.1 a1 (Ty.dflt .mon)) with Dirty := (up (ix s6.2.2.2.2.2.2.2.2.1 a1 (Ty.dflt .mon)).Dirty a2 false) } : Mon)) (fun x7 => (some [(.agg (hostC (⟨s6.2.2.2.2.2.2.2.2.2.2.2.2.2.1, x7, (i_FlushHost s6.2.2.2.2.2.2.2.2.2.2.2.2.2.2.1 s6.2.2.2.2.1), (i_FlushHost s6.2.2.2.2.2.2.2.2.2.2.2.2.2.2.2.1 s6.2.2.2.2.1)⟩ : Host))), (.one (.b true))]))) else none) else none) else none) else (bif (inb a2 (ln (ix s6.2.2.2.2.2.2.2.2.1 a1 (Ty.dflt .mon)).Dirty)) then (share (up s6.2.2.2.2.2.2.2.2.1 a1 ({ (ix s6.2.2.2.2.2.2.2.2.1 a1 (Ty.dflt .mon)) with Dirty := (up (ix s6.2.2.2.2.2.2.2.2.1 a1 (Ty.dflt .mon)).Dirty a2 false) } : Mon)) (fun x7 => (some [(.agg (hostC (⟨s6.2.2.2.2.2.2.2.2.2.2.2.2.2.1, x7, s6.2.2.2.2.2.2.2.2.2.2.2.2.2.2.1, s6.2.2.2.2.2.2.2.2.2.2.2.2.2.2.2.1⟩ : Host))), (.one (.b true))]))) else none)))) (a2, (a1, ((ln (ix x4 a1 (Ty.dflt .mon)).Guests), (0, ((ix (ix (i_copyHost a0).Mons a1 (Ty.dflt .mon)).Outer a2 (Ty.dflt .slot)).Page, ((ix (ix (i_copyHost a0).Mons a1 (Ty.dflt .mon)).Outer a2 (Ty.dflt .slot)).Rights, ((ix (ix (i_copyHost a0).Mons a1 (Ty.dflt .mon)).Outer a2 (Ty.dflt .slot)).Page, ((ix (ix (i_copyHost a0).Mons a1 (Ty.dflt .mon)).Outer a2 (Ty.dflt .slot)).Rights, (x4, (a0.Memory, (a0.Mons, (a0.Buffer, (a0.IoBuffer, ((i_copyHost a0).Memory, ((i_copyHost a0).Buffer, ((i_copyHost a0).IoBuffer, ([], ([], ([], ([], ()))))))))))))))))))))) else none) else none))) else none) else (bif (inb a2 (ln (ix (i_copyHost a0).Mons a1 (Ty.dflt .mon)).Dirty)) then (share (up (i_copyHost a0).Mons a1 ({ (ix (i_copyHost a0).Mons a1 (Ty.dflt .mon)) with Dirty := (up (ix (i_copyHost a0).Mons a1 (Ty.dflt .mon)).Dirty a2 false) } : Mon)) (fun x4 => (some [(.agg (hostC ({ (i_copyHost a0) with Mons := x4 } : Host))), (.one (.b true))]))) else none)) else none) else none)) else none) else none)

def tms_i_Guard : FuncId → Nat → Option Tmpl := tmsOf [(52, 0, { n := 71, tm := [(0, .lp 0 0), (2, .i .i64), (7, .lp 1 0), (8, .ep 0 [] 0), (20, .i .i64), (21, .i .i64)], lo := [(0, [.sl 5 [], .sl 0 [], .sl 6 [], .sl 7 []]), (1, [.i .i64, .i .i64]), (2, [.sl 1 [], .sl 2 [], .sl 3 [], .sl 4 []]), (3, [.sl 8 [], .sl 9 [], .sl 10 [], .sl 11 []]), (4, [.i .i64, .i .i64])], ro := [(0, .mon, true), (1, (.sl .int), false), (2, .mon, false), (3, .entry, false), (4, .entry, false), (5, (.sl .int), true), (6, .entry, true), (7, .entry, true), (8, (.sl .int), true), (9, .mon, true), (10, .entry, true), (11, .entry, true)], sk := [(0, 0, 0, .sl 1 []), (0, 0, 1, .sl 2 []), (0, 0, 2, .sl 3 []), (0, 0, 3, .sl 4 []), (0, 3, 0, .lp 2 0), (0, 6, 0, .lp 3 0), (0, 10, 0, .lp 4 0), (0, 12, 0, .sl 5 []), (0, 12, 2, .sl 6 []), (0, 12, 3, .sl 7 [])] })]

theorem nf_i_Guard (N : Nat) (a0 : Host) (a1 : Int) (a2 : Int) : evalFn (cfgQ (aget ctrJ9) (aget mctC) (aget pct0) (aget tctJ)) tms_i_Guard N 12 23 [.agg (hostC a0), .one (.i .i64 a1), .one (.i .i64 a2)] = E_i_Guard N a0 a1 a2 := by kernel_rfl

theorem law_i_Guard (a0 : Host) (a1 : Int) (a2 : Int) (hb : AllB big [.agg (hostC a0), .one (.i .i64 a1), .one (.i .i64 a2)]) (hc : (i_Guard_c a0 a1 a2) = true) : ∃ N, E_i_Guard N a0 a1 a2 = some [.agg (hostC (i_Guard_1 a0 a1 a2)), .one (.b (i_Guard_2 a0 a1 a2))] := by
  have hs := pc_iff.1 hc
  have hH := (smHost_iff a0).1 hs
  refine ⟨NN, ?_⟩
  have hNN : ∀ {n : Nat}, n ≤ big → n < NN := fun h => NN_lt h
  generalize NN = N at hNN ⊢
  unfold E_i_Guard i_Guard_1 i_Guard_2 guard1
  refine must (pc_t hs) (must rfl ?_)
  rw [show i_hasPage a0 a1 a2 = pageHas a0 a1 a2 from rfl]
  cases hp : pageHas a0 a1 a2
  · rfl
  · have P := pageHas_at hp
    have hm : SmMon (ix a0.Mons a1 (Ty.dflt .mon)) := hH.2.1.2 _ (ix_mem P.hm _)
    obtain ⟨k, rfl, hk⟩ := has_nat (n := a0.Mons.length) P.hm
    have i1 : inb a2 (ln (ix a0.Mons (k : Int) (Ty.dflt .mon)).Dirty) = true := by rw [ln, P.hd]; exact P.hp
    have i2 : inb a2 (ln (ix a0.Mons (k : Int) (Ty.dflt .mon)).Outer) = true := by rw [ln, P.ho]; exact P.hp
    have hT := (sm_big hm.2.2.2.2.2.1).1
    refine mustF rfl ?_
    rw [P.hs]
    refine must P.hm (must i2 ?_)
    cases hpg : ieq (ix (ix a0.Mons (k : Int) (Ty.dflt .mon)).Outer a2 (Ty.dflt .slot)).Page (-1)
    · have hpg2 : ine (ix (ix a0.Mons (k : Int) (Ty.dflt .mon)).Outer a2 (Ty.dflt .slot)).Page (-1) = true := by rw [ine_not]; exact congrArg not hpg
      refine must hpg2 (must i2 ?_)
      simp only [share]
      refine must (by simp only [ln, up_len]; exact P.hm) ?_
      simp only [ieq_self, cT, i_copyHost]
      refine iter_to (ix a0.Mons (k : Int) (Ty.dflt .mon)).Guests.length (fun i (t : List Mon) => (a2, (k : Int), ln (ix (up a0.Mons (k : Int) (grd (ix a0.Mons (k : Int) (Ty.dflt .mon)) a2)) (k : Int) (Ty.dflt .mon)).Guests, (i : Int), (ix (ix a0.Mons (k : Int) (Ty.dflt .mon)).Outer a2 (Ty.dflt .slot)).Page, (ix (ix a0.Mons (k : Int) (Ty.dflt .mon)).Outer a2 (Ty.dflt .slot)).Rights, (ix (ix a0.Mons (k : Int) (Ty.dflt .mon)).Outer a2 (Ty.dflt .slot)).Page, (ix (ix a0.Mons (k : Int) (Ty.dflt .mon)).Outer a2 (Ty.dflt .slot)).Rights, t, a0.Memory, a0.Mons, a0.Buffer, a0.IoBuffer, a0.Memory, a0.Buffer, a0.IoBuffer, [], [], [], [], ())) _
        (fun i t => t = up a0.Mons (k : Int) (tabM (grd (ix a0.Mons (k : Int) (Ty.dflt .mon)) a2) a2 i)) (fun _ _ => some [AV.agg (hostC (slotted (undirtH a0 (k : Int) a2) (k : Int) a2 ⟨(ix (ix a0.Mons (k : Int) (Ty.dflt .mon)).Outer a2 (Ty.dflt .slot)).Page, 1⟩)), AV.one (.b true)]) (fun i t rec hi hI hr => ?_) (fun t rec hI => ?_) _ 0 (up a0.Mons (k : Int) (grd (ix a0.Mons (k : Int) (Ty.dflt .mon)) a2)) rfl (Nat.zero_le _) ?_
      · subst hI
        have hi1 : i < (ix a0.Mons (k : Int) (Ty.dflt .mon)).Tables.length := by rw [P.ht]; exact hi
        have hi2 : i < (tabN (ix a0.Mons (k : Int) (Ty.dflt .mon)).Guests a2 i (ix a0.Mons (k : Int) (Ty.dflt .mon)).Tables).length := by rw [tabN_len]; exact hi1
        have hf : i_ForgetUses_c (ix (tabN (ix a0.Mons (k : Int) (Ty.dflt .mon)).Guests a2 i (ix a0.Mons (k : Int) (Ty.dflt .mon)).Tables) (i : Int) (Ty.dflt .kept)) (ix (ix a0.Mons (k : Int) (Ty.dflt .mon)).Guests (i : Int) (Ty.dflt .guest)).Live a2 = true :=
          pc_t ⟨by rw [ix_ln hi2]; exact (smKs_tabN _ _ _ _ (by omega) hm.2.2.2.2.2).2 _ (List.getElem_mem hi2), by rw [ix_ln hi]; exact (hm.2.2.2.1.2 _ (List.getElem_mem hi)).2.2.1⟩
        simp only [ix_up hk, up_up, tabM, grd, ilt_ln hi, inb_ln hi2, inb_ln hi, hf, cT, share, wadd_up hi1 hT]
        have hr' := hr _ rfl
        simp only [ix_up hk, tabM, grd] at hr'
        exact hr'
      · subst hI
        have f1 : i_FlushHost_c a0.Buffer (ix (ix a0.Mons (k : Int) (Ty.dflt .mon)).Outer a2 (Ty.dflt .slot)).Page = true := pc_t hH.2.2.1
        have f2 : i_FlushHost_c a0.IoBuffer (ix (ix a0.Mons (k : Int) (Ty.dflt .mon)).Outer a2 (Ty.dflt .slot)).Page = true := pc_t hH.2.2.2
        unfold slotted undirtH undirt
        simp only [ix_up hk, up_up, tabM, grd, ilt_end, hpg2, f1, f2, i1, P.ht, share, cT, cF]
      · exact hNN (by rw [← P.ht]; omega)
    · refine mustF (by rw [ine_not]; exact congrArg not hpg) (must i1 ?_)
      rfl
theorem holds_i_Guard : Holds Tryz.prog 23 run_i_Guard := by
  refine holds_of_eval (engQ_ok ctrJ9_ok mctC_ok pct0_ok tctJ_ok) (fn_ok (by kernel_rfl)) ?_
  intro avs rs hr h
  have hb := allB_of_rep hr
  unfold run_i_Guard at h
  split at h
  · rename_i a0_0 a0_1 a0_2 a0_3 a1 a2
    obtain ⟨hc, rfl⟩ := some_pair h
    obtain ⟨N, hN⟩ := law_i_Guard (⟨a0_0, a0_1, a0_2, a0_3⟩ : Host) a1 a2 hb hc
    exact ⟨tms_i_Guard, N, 12, (nf_i_Guard N (⟨a0_0, a0_1, a0_2, a0_3⟩ : Host) a1 a2).trans hN⟩
  · cases h

noncomputable def ctrJ10 : Ctrs := [(16, run_s_Guard), (23, run_i_Guard)] ++ ctrJ9

theorem ctrJ10_ok : ∀ f run, aget ctrJ10 f = some run → Holds Tryz.prog f run := ctr_more ctrJ9_ok (by
  intro x hx
  simp only [List.mem_cons, List.not_mem_nil, or_false] at hx
  rcases hx with rfl | rfl
  · exact holds_s_Guard
  · exact holds_i_Guard)


/-! A machine is cleaned. -/
def cleanGo (m : Int) : Nat → Nat → Host → Host
  | 0, _, h => h
  | n + 1, i, h => cleanGo m n (i + 1) (guard1 h m (i : Int))
theorem smH_clean (m : Int) : ∀ (n i : Nat) (h : Host), SmH h → SmH (cleanGo m n i h)
  | 0, _, _, h => h
  | n + 1, i, h, hs => smH_clean m n (i + 1) _ (smH_guard hs)
def cleaned (h : Host) (m : Int) : Host := bif monHas h m then cleanGo m 8 0 h else h
theorem goN_clean {ρ : Type} (m : Int) (K : List (List Int) × List Mon × List Entry × List Entry → Option ρ) : ∀ (n i : Nat) (h : Host), SmH h →
    goN (fun i (t : List (List Int) × List Mon × List Entry × List Entry) κ => bif pc (SmHost ⟨t.1, t.2.1, t.2.2.1, t.2.2.2⟩) then κ ((guard1 ⟨t.1, t.2.1, t.2.2.1, t.2.2.2⟩ m (i : Int)).Memory, (guard1 ⟨t.1, t.2.1, t.2.2.1, t.2.2.2⟩ m (i : Int)).Mons, (guard1 ⟨t.1, t.2.1, t.2.2.1, t.2.2.2⟩ m (i : Int)).Buffer, (guard1 ⟨t.1, t.2.1, t.2.2.1, t.2.2.2⟩ m (i : Int)).IoBuffer) else none) K n i (h.Memory, h.Mons, h.Buffer, h.IoBuffer)
      = K ((cleanGo m n i h).Memory, (cleanGo m n i h).Mons, (cleanGo m n i h).Buffer, (cleanGo m n i h).IoBuffer)
  | 0, _, _, _ => rfl
  | n + 1, i, h, hs => by
    have e : pc (SmHost ⟨h.Memory, h.Mons, h.Buffer, h.IoBuffer⟩) = true := pc_t ((smHost_iff h).2 hs)
    simp only [goN, e, cT]
    exact goN_clean m K n (i + 1) (guard1 h m (i : Int)) (smH_guard hs)
@[simp, reducible] noncomputable def s_CleanMon_c (h : Host) (m : Int) : Bool := pc (SmHost h)
@[simp, reducible] def s_CleanMon_1 (h : Host) (m : Int) : Host := cleaned h m
@[simp, reducible] def s_CleanMon_2 (h : Host) (m : Int) : Bool := monHas h m
noncomputable def run_s_CleanMon : List AV → Option (Bool × List AV)
  | [.agg [.s (.sl .int) a0_0, .s .mon a0_1, .s .entry a0_2, .s .entry a0_3], .one (.i .i64 a1)] => some ((s_CleanMon_c (⟨a0_0, a0_1, a0_2, a0_3⟩ : Host) a1), [.agg (hostC (s_CleanMon_1 (⟨a0_0, a0_1, a0_2, a0_3⟩ : Host) a1)), .one (.b (s_CleanMon_2 (⟨a0_0, a0_1, a0_2, a0_3⟩ : Host) a1))])
  | _ => none

noncomputable def E_s_CleanMon (N : Nat) (a0 : Host) (a1 : Int) : Option Ans :=
  (bif (s_l21Copy_c a0) then (bif (s_l25Mon_c (s_l21Copy a0) a1) then (bif (bif (s_l25Mon (s_l21Copy a0) a1) then false else true) then (some [(.agg (hostC (s_l21Copy a0))), (.one (.b false))]) else (iter (σ := (Int × (Int × ((List (List Int)) × ((List Mon) × ((List Entry) × ((List Entry) × ((List (List Int)) × ((List Mon) × ((List Entry) × ((List Entry) × Unit))))))))))) N (fun r3 s4 => (bif (ilt s4.2.1 8) then (bif (s_Guard_c (⟨s4.2.2.1, s4.2.2.2.1, s4.2.2.2.2.1, s4.2.2.2.2.2.1⟩ : Host) s4.1 s4.2.1) then (r3 (s4.1, ((wadd .i64 s4.2.1 1), ((s_Guard_1 (⟨s4.2.2.1, s4.2.2.2.1, s4.2.2.2.2.1, s4.2.2.2.2.2.1⟩ : Host) s4.1 s4.2.1).Memory, ((s_Guard_1 (⟨s4.2.2.1, s4.2.2.2.1, s4.2.2.2.2.1, s4.2.2.2.2.2.1⟩ : Host) s4.1 s4.2.1).Mons, ((s_Guard_1 (⟨s4.2.2.1, s4.2.2.2.1, s4.2.2.2.2.1, s4.2.2.2.2.2.1⟩ : Host) s4.1 s4.2.1).Buffer, ((s_Guard_1 (⟨s4.2.2.1, s4.2.2.2.1, s4.2.2.2.2.1, s4.2.2.2.2.2.1⟩ : Host) s4.1 s4.2.1).IoBuffer, (s4.2.2.2.2.2.2.1, (s4.2.2.2.2.2.2.2.1, (s4.2.2.2.2.2.2.2.2.1, (s4.2.2.2.2.2.2.2.2.2.1, ()))))))))))) else none) else (some [(.agg (hostC (⟨s4.2.2.1, s4.2.2.2.1, s4.2.2.2.2.1, s4.2.2.2.2.2.1⟩ : Host))), (.one (.b true))]))) (a1, (0, ((s_l21Copy a0).Memory, ((s_l21Copy a0).Mons, ((s_l21Copy a0).Buffer, ((s_l21Copy a0).IoBuffer, ([], ([], ([], ([], ())))))))))))) else none) else none)

def tms_s_CleanMon : FuncId → Nat → Option Tmpl := tmsOf [(5, 0, { n := 26, tm := [(1, .i .i64), (2, .lp 0 0), (4, .lp 1 0), (6, .i .i64)], lo := [(0, [.sl 0 [], .sl 1 [], .sl 2 [], .sl 3 []]), (1, [.sl 4 [], .sl 5 [], .sl 6 [], .sl 7 []])], ro := [(0, (.sl .int), true), (1, .mon, true), (2, .entry, true), (3, .entry, true), (4, (.sl .int), true), (5, .mon, true), (6, .entry, true), (7, .entry, true)] })]

theorem nf_s_CleanMon (N : Nat) (a0 : Host) (a1 : Int) : evalFn (cfgQ (aget ctrJ10) (aget mctC) (aget pct0) (aget tctJ)) tms_s_CleanMon N 12 5 [.agg (hostC a0), .one (.i .i64 a1)] = E_s_CleanMon N a0 a1 := by kernel_rfl

theorem law_s_CleanMon (a0 : Host) (a1 : Int) (hb : AllB big [.agg (hostC a0), .one (.i .i64 a1)]) (hc : (s_CleanMon_c a0 a1) = true) : ∃ N, E_s_CleanMon N a0 a1 = some [.agg (hostC (s_CleanMon_1 a0 a1)), .one (.b (s_CleanMon_2 a0 a1))] := by
  have hs := pc_iff.1 hc
  refine ⟨NN, ?_⟩
  have hNN : ∀ {n : Nat}, n ≤ big → n < NN := fun h => NN_lt h
  generalize NN = N at hNN ⊢
  unfold E_s_CleanMon s_CleanMon_1 s_CleanMon_2 cleaned
  refine must (pc_t hs) (must rfl ?_)
  rw [show s_l25Mon (s_l21Copy a0) a1 = monHas a0 a1 from rfl]
  cases hp : monHas a0 a1
  · rfl
  refine mustF rfl ?_
  refine (iter_nat 8 (fun i (t : (List (List Int)) × (List Mon) × (List Entry) × (List Entry)) => (a1, (i : Int), t.1, t.2.1, t.2.2.1, t.2.2.2, [], [], [], [], ())) _ (fun i (t : List (List Int) × List Mon × List Entry × List Entry) κ => bif pc (SmHost ⟨t.1, t.2.1, t.2.2.1, t.2.2.2⟩) then κ ((guard1 ⟨t.1, t.2.1, t.2.2.1, t.2.2.2⟩ a1 (i : Int)).Memory, (guard1 ⟨t.1, t.2.1, t.2.2.1, t.2.2.2⟩ a1 (i : Int)).Mons, (guard1 ⟨t.1, t.2.1, t.2.2.1, t.2.2.2⟩ a1 (i : Int)).Buffer, (guard1 ⟨t.1, t.2.1, t.2.2.1, t.2.2.2⟩ a1 (i : Int)).IoBuffer) else none) (fun (t : (List (List Int)) × (List Mon) × (List Entry) × (List Entry)) => (some [(.agg (hostC (⟨t.1, t.2.1, t.2.2.1, t.2.2.2⟩ : Host))), (.one (.b true))])) (fun i hi t rec => ?_) (fun t rec => ?_) _ ((s_l21Copy a0).Memory, (s_l21Copy a0).Mons, (s_l21Copy a0).Buffer, (s_l21Copy a0).IoBuffer) (hNN (by decide))).trans ?_
  · simp only [show ilt (i : Int) 8 = true from decide_eq_true (by omega), wadd_up hi (show 8 ≤ big by decide), cT]
  · simp only [show ilt (((8 : Nat)) : Int) 8 = false from decide_eq_false (by omega), cF]
  refine (goN_clean a1 _ 8 0 a0 ((smHost_iff a0).1 hs)).trans ?_
  generalize cleanGo a1 8 0 a0 = x
  rfl
theorem holds_s_CleanMon : Holds Tryz.prog 5 run_s_CleanMon := by
  refine holds_of_eval (engQ_ok ctrJ10_ok mctC_ok pct0_ok tctJ_ok) (fn_ok (by kernel_rfl)) ?_
  intro avs rs hr h
  have hb := allB_of_rep hr
  unfold run_s_CleanMon at h
  split at h
  · rename_i a0_0 a0_1 a0_2 a0_3 a1
    obtain ⟨hc, rfl⟩ := some_pair h
    obtain ⟨N, hN⟩ := law_s_CleanMon (⟨a0_0, a0_1, a0_2, a0_3⟩ : Host) a1 hb hc
    exact ⟨tms_s_CleanMon, N, 12, (nf_s_CleanMon N (⟨a0_0, a0_1, a0_2, a0_3⟩ : Host) a1).trans hN⟩
  · cases h

@[simp, reducible] noncomputable def i_CleanMon_c (h : Host) (m : Int) : Bool := pc (SmHost h)
@[simp, reducible] def i_CleanMon_1 (h : Host) (m : Int) : Host := cleaned h m
@[simp, reducible] def i_CleanMon_2 (h : Host) (m : Int) : Bool := monHas h m
noncomputable def run_i_CleanMon : List AV → Option (Bool × List AV)
  | [.agg [.s (.sl .int) a0_0, .s .mon a0_1, .s .entry a0_2, .s .entry a0_3], .one (.i .i64 a1)] => some ((i_CleanMon_c (⟨a0_0, a0_1, a0_2, a0_3⟩ : Host) a1), [.agg (hostC (i_CleanMon_1 (⟨a0_0, a0_1, a0_2, a0_3⟩ : Host) a1)), .one (.b (i_CleanMon_2 (⟨a0_0, a0_1, a0_2, a0_3⟩ : Host) a1))])
  | _ => none

noncomputable def E_i_CleanMon (N : Nat) (a0 : Host) (a1 : Int) : Option Ans :=
  (bif (i_copyHost_c a0) then (bif (i_HostOk_c a0) then (bif (bif (i_HostOk a0) then false else true) then (some [(.agg (hostC (i_copyHost a0))), (.one (.b false))]) else (bif (i_has_c a1 (ln a0.Mons)) then (bif (bif (i_has a1 (ln a0.Mons)) then false else true) then (some [(.agg (hostC (i_copyHost a0))), (.one (.b false))]) else (iter (σ := (Int × (Int × ((List (List Int)) × ((List Mon) × ((List Entry) × ((List Entry) × ((List (List Int)) × ((List Mon) × ((List Entry) × ((List Entry) × Unit))))))))))) N (fun r3 s4 => (bif (ilt s4.2.1 8) then (bif (i_Guard_c (⟨s4.2.2.2.2.2.2.1, s4.2.2.2.2.2.2.2.1, s4.2.2.2.2.2.2.2.2.1, s4.2.2.2.2.2.2.2.2.2.1⟩ : Host) s4.1 s4.2.1) then (r3 (s4.1, ((wadd .i64 s4.2.1 1), (s4.2.2.1, (s4.2.2.2.1, (s4.2.2.2.2.1, (s4.2.2.2.2.2.1, ((i_Guard_1 (⟨s4.2.2.2.2.2.2.1, s4.2.2.2.2.2.2.2.1, s4.2.2.2.2.2.2.2.2.1, s4.2.2.2.2.2.2.2.2.2.1⟩ : Host) s4.1 s4.2.1).Memory, ((i_Guard_1 (⟨s4.2.2.2.2.2.2.1, s4.2.2.2.2.2.2.2.1, s4.2.2.2.2.2.2.2.2.1, s4.2.2.2.2.2.2.2.2.2.1⟩ : Host) s4.1 s4.2.1).Mons, ((i_Guard_1 (⟨s4.2.2.2.2.2.2.1, s4.2.2.2.2.2.2.2.1, s4.2.2.2.2.2.2.2.2.1, s4.2.2.2.2.2.2.2.2.2.1⟩ : Host) s4.1 s4.2.1).Buffer, ((i_Guard_1 (⟨s4.2.2.2.2.2.2.1, s4.2.2.2.2.2.2.2.1, s4.2.2.2.2.2.2.2.2.1, s4.2.2.2.2.2.2.2.2.2.1⟩ : Host) s4.1 s4.2.1).IoBuffer, ()))))))))))) else none) else (some [(.agg (hostC (⟨s4.2.2.2.2.2.2.1, s4.2.2.2.2.2.2.2.1, s4.2.2.2.2.2.2.2.2.1, s4.2.2.2.2.2.2.2.2.2.1⟩ : Host))), (.one (.b true))]))) (a1, (0, ([], ([], ([], ([], ((i_copyHost a0).Memory, ((i_copyHost a0).Mons, ((i_copyHost a0).Buffer, ((i_copyHost a0).IoBuffer, ())))))))))))) else none)) else none) else none)

def tms_i_CleanMon : FuncId → Nat → Option Tmpl := tmsOf [(7, 0, { n := 34, tm := [(1, .i .i64), (4, .lp 0 0), (6, .lp 1 0), (7, .i .i64)], lo := [(0, [.sl 0 [], .sl 1 [], .sl 2 [], .sl 3 []]), (1, [.sl 4 [], .sl 5 [], .sl 6 [], .sl 7 []])], ro := [(0, (.sl .int), true), (1, .mon, true), (2, .entry, true), (3, .entry, true), (4, (.sl .int), true), (5, .mon, true), (6, .entry, true), (7, .entry, true)] })]

theorem nf_i_CleanMon (N : Nat) (a0 : Host) (a1 : Int) : evalFn (cfgQ (aget ctrJ10) (aget mctC) (aget pct0) (aget tctJ)) tms_i_CleanMon N 12 7 [.agg (hostC a0), .one (.i .i64 a1)] = E_i_CleanMon N a0 a1 := by kernel_rfl

theorem law_i_CleanMon (a0 : Host) (a1 : Int) (hb : AllB big [.agg (hostC a0), .one (.i .i64 a1)]) (hc : (i_CleanMon_c a0 a1) = true) : ∃ N, E_i_CleanMon N a0 a1 = some [.agg (hostC (i_CleanMon_1 a0 a1)), .one (.b (i_CleanMon_2 a0 a1))] := by
  have hs := pc_iff.1 hc
  refine ⟨NN, ?_⟩
  have hNN : ∀ {n : Nat}, n ≤ big → n < NN := fun h => NN_lt h
  generalize NN = N at hNN ⊢
  unfold E_i_CleanMon i_CleanMon_1 i_CleanMon_2 cleaned monHas
  refine must (pc_t hs) (must rfl ?_)
  rw [show i_HostOk a0 = hostOk a0 from rfl]
  cases hp : hostOk a0
  · rfl
  refine mustF rfl (must rfl ?_)
  rw [show i_has a1 (ln a0.Mons) = hasB a1 (ln a0.Mons) from rfl]
  cases hp : hasB a1 (ln a0.Mons)
  · rfl
  refine mustF rfl ?_
  refine (iter_nat 8 (fun i (t : (List (List Int)) × (List Mon) × (List Entry) × (List Entry)) => (a1, (i : Int), [], [], [], [], t.1, t.2.1, t.2.2.1, t.2.2.2, ())) _ (fun i (t : List (List Int) × List Mon × List Entry × List Entry) κ => bif pc (SmHost ⟨t.1, t.2.1, t.2.2.1, t.2.2.2⟩) then κ ((guard1 ⟨t.1, t.2.1, t.2.2.1, t.2.2.2⟩ a1 (i : Int)).Memory, (guard1 ⟨t.1, t.2.1, t.2.2.1, t.2.2.2⟩ a1 (i : Int)).Mons, (guard1 ⟨t.1, t.2.1, t.2.2.1, t.2.2.2⟩ a1 (i : Int)).Buffer, (guard1 ⟨t.1, t.2.1, t.2.2.1, t.2.2.2⟩ a1 (i : Int)).IoBuffer) else none) (fun (t : (List (List Int)) × (List Mon) × (List Entry) × (List Entry)) => (some [(.agg (hostC (⟨t.1, t.2.1, t.2.2.1, t.2.2.2⟩ : Host))), (.one (.b true))])) (fun i hi t rec => ?_) (fun t rec => ?_) _ ((i_copyHost a0).Memory, (i_copyHost a0).Mons, (i_copyHost a0).Buffer, (i_copyHost a0).IoBuffer) (hNN (by decide))).trans ?_
  · simp only [show ilt (i : Int) 8 = true from decide_eq_true (by omega), wadd_up hi (show 8 ≤ big by decide), cT]
  · simp only [show ilt (((8 : Nat)) : Int) 8 = false from decide_eq_false (by omega), cF]
  refine (goN_clean a1 _ 8 0 a0 ((smHost_iff a0).1 hs)).trans ?_
  generalize cleanGo a1 8 0 a0 = x
  rfl
theorem holds_i_CleanMon : Holds Tryz.prog 7 run_i_CleanMon := by
  refine holds_of_eval (engQ_ok ctrJ10_ok mctC_ok pct0_ok tctJ_ok) (fn_ok (by kernel_rfl)) ?_
  intro avs rs hr h
  have hb := allB_of_rep hr
  unfold run_i_CleanMon at h
  split at h
  · rename_i a0_0 a0_1 a0_2 a0_3 a1
    obtain ⟨hc, rfl⟩ := some_pair h
    obtain ⟨N, hN⟩ := law_i_CleanMon (⟨a0_0, a0_1, a0_2, a0_3⟩ : Host) a1 hb hc
    exact ⟨tms_i_CleanMon, N, 12, (nf_i_CleanMon N (⟨a0_0, a0_1, a0_2, a0_3⟩ : Host) a1).trans hN⟩
  · cases h

noncomputable def ctrJ11 : Ctrs := [(5, run_s_CleanMon), (7, run_i_CleanMon)] ++ ctrJ10

theorem ctrJ11_ok : ∀ f run, aget ctrJ11 f = some run → Holds Tryz.prog f run := ctr_more ctrJ10_ok (by
  intro x hx
  simp only [List.mem_cons, List.not_mem_nil, or_false] at hx
  rcases hx with rfl | rfl
  · exact holds_s_CleanMon
  · exact holds_i_CleanMon)

end Go.Proofs.YtaccllfkapkahaaGreat.E
