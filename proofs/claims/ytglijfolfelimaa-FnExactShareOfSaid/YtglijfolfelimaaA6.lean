/- What is proved here: contracts of what IsDirty, DirtOf, DirtyIn, OutOf, GuardedIn, ShareOf and Differ reach. -/
import Derived.Test.YtglijfolfelimaaA5
import Derived.KernelRfl
namespace Go.Proofs.Ytglijfolfelimaa.E
open Go
set_option maxRecDepth 100000
set_option linter.unusedVariables false
set_option linter.unusedSimpArgs false

theorem hE (h : Host) : (⟨h.Memory, h.Mons, h.Buffer, h.IoBuffer⟩ : Host) = h := rfl

/-- The places of those for which a condition holds. -/
def idxs {α : Type} (p : α → Bool) : List α → Nat → List Int
  | [], _ => []
  | x :: l, i => bif p x then (i : Int) :: idxs p l (i + 1) else idxs p l (i + 1)

theorem idxs_len {α : Type} (p : α → Bool) : ∀ (l : List α) (i : Nat), (idxs p l i).length ≤ l.length
  | [], _ => Nat.le_refl _
  | x :: l, i => by
    have := idxs_len p l (i + 1)
    simp only [idxs]
    cases p x <;> simp <;> omega

theorem goL_idxs {α ρ : Type} (p : α → Bool) (K : List Int → Option ρ) : ∀ (l : List α) (i : Nat) (acc : List Int), acc.length + l.length ≤ 2147483648 →
    goL (fun i x acc k => bif p x then (bif few (ln (ap acc [(i : Int)])) then k (ap acc [(i : Int)]) else none) else k acc) K l i acc = K (acc ++ idxs p l i)
  | [], i, acc, _ => by simp [goL, idxs]
  | x :: l, i, acc, h => by
    simp only [List.length_cons] at h
    simp only [goL, idxs]
    cases p x
    · simp only [cF]
      exact goL_idxs p K l (i + 1) acc (by omega)
    · simp only [cT]
      rw [few_ln (by simp [ap]; omega), cT, goL_idxs p K l (i + 1) _ (by simp [ap]; omega)]
      simp [ap]

def idxN (p : Nat → Bool) : Nat → Nat → List Int
  | 0, _ => []
  | n + 1, i => bif p i then (i : Int) :: idxN p n (i + 1) else idxN p n (i + 1)

theorem goN_idxs {ρ : Type} (p : Nat → Bool) (K : List Int → Option ρ) : ∀ (n i : Nat) (acc : List Int), acc.length + n ≤ 2147483648 →
    goN (fun i acc k => bif p i then (bif few (ln (ap acc [(i : Int)])) then k (ap acc [(i : Int)]) else none) else k acc) K n i acc = K (acc ++ idxN p n i)
  | 0, i, acc, _ => by simp [goN, idxN]
  | n + 1, i, acc, h => by
    simp only [goN, idxN]
    cases p i
    · simp only [cF]
      exact goN_idxs p K n (i + 1) acc (by omega)
    · simp only [cT]
      rw [few_ln (by simp [ap]; omega), cT, goN_idxs p K n (i + 1) _ (by simp [ap]; omega)]
      simp [ap]

theorem idxN_len (p : Nat → Bool) : ∀ (n i : Nat), (idxN p n i).length ≤ n
  | 0, _ => Nat.le_refl _
  | n + 1, i => by
    have := idxN_len p n (i + 1)
    simp only [idxN]
    cases p i <;> simp <;> omega

theorem monOf_sm {h : Host} (hs : SmHost h) (m : Int) : ∀ c ∈ Ty.cells .mon (monOf h m), CVB sm c := by
  unfold monOf
  cases hh : hasB m (ln h.Mons)
  · have e : ∀ {t : Ty}, CVB sm (.s t []) := fun {t} => .s t [] (Nat.zero_le _) (fun x hx => by cases hx)
    intro c hc
    simp only [cF, Ty.cells, Ty.dflt, List.mem_cons, List.not_mem_nil, or_false] at hc
    rcases hc with rfl | rfl | rfl | rfl | rfl | rfl | rfl | rfl | rfl
    all_goals first | exact e | exact .i _ _
  · exact hs.mons.inv.2 _ (ix_mem hh _)

def dirtOf (h : Host) (m : Int) : List Bool := (monOf h m).Dirty
theorem dirtOf_sm {h : Host} (hs : SmHost h) (m : Int) : CVB sm (.s .bool (dirtOf h m)) := monOf_sm hs m (.s .bool (monOf h m).Dirty) (by simp [Ty.cells])

noncomputable def s_DirtOf_c (h : Host) (_ : Int) : Bool := pc (SmHost h)
def s_DirtOf (h : Host) (m : Int) : List Bool := dirtOf h m
noncomputable def run_s_DirtOf : List AV → Option (Bool × List AV)
  | [.agg [.s (.sl .int) a0_0, .s .mon a0_1, .s .entry a0_2, .s .entry a0_3], .one (.i .i64 a1)] => some ((s_DirtOf_c (⟨a0_0, a0_1, a0_2, a0_3⟩ : Host) a1), [.one (.s .bool (s_DirtOf (⟨a0_0, a0_1, a0_2, a0_3⟩ : Host) a1))])
  | _ => none

noncomputable def E_s_DirtOf (N : Nat) (a0 : Host) (a1 : Int) : Option Ans :=
  (bif (s_MonAt_c a0 a1) then (bif (few (ln (ap [] (s_MonAt_1 a0 a1).Dirty))) then (some [(.one (.s .bool (ap [] (s_MonAt_1 a0 a1).Dirty)))]) else none) else none)

theorem nf_s_DirtOf (N : Nat) (a0 : Host) (a1 : Int) : evalFn (cfgQ (aget ctrW) (aget mct0) (aget pct0)) (tmsOf []) N 12 27 [.agg (hostC a0), .one (.i .i64 a1)] = E_s_DirtOf N a0 a1 := by kernel_rfl

theorem law_s_DirtOf (a0 : Host) (a1 : Int) (hb : AllB big [.agg (hostC a0), .one (.i .i64 a1)]) (hc : (s_DirtOf_c a0 a1) = true) : ∃ N, E_s_DirtOf N a0 a1 = some [.one (.s .bool (s_DirtOf a0 a1))] := by
  have hs := pc_iff.1 hc
  refine ⟨0, ?_⟩
  unfold E_s_DirtOf
  rw [show s_MonAt_c a0 a1 = true from pc_true hs, cT, ap_nil, show few (ln (s_MonAt_1 a0 a1).Dirty) = true from few_of (dirtOf_sm hs a1), cT]
  rfl
theorem holds_s_DirtOf : Holds Try.prog 27 run_s_DirtOf := by
  refine holds_of_eval (engQ_ok ctrW_ok mct0_ok pct0_ok) (fn_ok (by kernel_rfl)) ?_
  intro avs rs hr h
  have hb := allB_of_rep hr
  unfold run_s_DirtOf at h
  split at h
  · rename_i a0_0 a0_1 a0_2 a0_3 a1
    obtain ⟨hc, rfl⟩ := some_pair h
    obtain ⟨N, hN⟩ := law_s_DirtOf (⟨a0_0, a0_1, a0_2, a0_3⟩ : Host) a1 hb hc
    exact ⟨tmsOf [], N, 12, (nf_s_DirtOf N (⟨a0_0, a0_1, a0_2, a0_3⟩ : Host) a1).trans hN⟩
  · cases h

noncomputable def i_DirtOf_c (h : Host) (_ : Int) : Bool := pc (SmHost h)
def i_DirtOf (h : Host) (m : Int) : List Bool := dirtOf h m
noncomputable def run_i_DirtOf : List AV → Option (Bool × List AV)
  | [.agg [.s (.sl .int) a0_0, .s .mon a0_1, .s .entry a0_2, .s .entry a0_3], .one (.i .i64 a1)] => some ((i_DirtOf_c (⟨a0_0, a0_1, a0_2, a0_3⟩ : Host) a1), [.one (.s .bool (i_DirtOf (⟨a0_0, a0_1, a0_2, a0_3⟩ : Host) a1))])
  | _ => none

noncomputable def E_i_DirtOf (N : Nat) (a0 : Host) (a1 : Int) : Option Ans :=
  (bif (i_has_c a1 (ln a0.Mons)) then (bif (bif (i_has a1 (ln a0.Mons)) then false else true) then (some [(.one (.s .bool []))]) else (bif (inb a1 (ln a0.Mons)) then (bif (few (ln (ap [] (ix a0.Mons a1 (Ty.dflt .mon)).Dirty))) then (some [(.one (.s .bool (ap [] (ix a0.Mons a1 (Ty.dflt .mon)).Dirty)))]) else none) else none)) else none)

theorem nf_i_DirtOf (N : Nat) (a0 : Host) (a1 : Int) : evalFn (cfgQ (aget ctrW) (aget mct0) (aget pct0)) (tmsOf []) N 12 28 [.agg (hostC a0), .one (.i .i64 a1)] = E_i_DirtOf N a0 a1 := by kernel_rfl

theorem law_i_DirtOf (a0 : Host) (a1 : Int) (hb : AllB big [.agg (hostC a0), .one (.i .i64 a1)]) (hc : (i_DirtOf_c a0 a1) = true) : ∃ N, E_i_DirtOf N a0 a1 = some [.one (.s .bool (i_DirtOf a0 a1))] := by
  have hd := dirtOf_sm (pc_iff.1 hc) a1
  refine ⟨0, ?_⟩
  unfold E_i_DirtOf i_DirtOf i_has
  unfold dirtOf monOf at *
  cases hh : hasB a1 (ln a0.Mons)
  · rfl
  · rw [hh, cT] at hd
    have hf := few_of hd
    simp only [i_has_c, cT, cF, inb_has hh, ap_nil, hf]
theorem holds_i_DirtOf : Holds Try.prog 28 run_i_DirtOf := by
  refine holds_of_eval (engQ_ok ctrW_ok mct0_ok pct0_ok) (fn_ok (by kernel_rfl)) ?_
  intro avs rs hr h
  have hb := allB_of_rep hr
  unfold run_i_DirtOf at h
  split at h
  · rename_i a0_0 a0_1 a0_2 a0_3 a1
    obtain ⟨hc, rfl⟩ := some_pair h
    obtain ⟨N, hN⟩ := law_i_DirtOf (⟨a0_0, a0_1, a0_2, a0_3⟩ : Host) a1 hb hc
    exact ⟨tmsOf [], N, 12, (nf_i_DirtOf N (⟨a0_0, a0_1, a0_2, a0_3⟩ : Host) a1).trans hN⟩
  · cases h


def dirtyIn (h : Host) (m : Int) : List Int := idxs (fun b => b) (dirtOf h m) 0
noncomputable def s_DirtyIn_c (h : Host) (_ : Int) : Bool := pc (SmHost h)
def s_DirtyIn (h : Host) (m : Int) : List Int := dirtyIn h m
noncomputable def run_s_DirtyIn : List AV → Option (Bool × List AV)
  | [.agg [.s (.sl .int) a0_0, .s .mon a0_1, .s .entry a0_2, .s .entry a0_3], .one (.i .i64 a1)] => some ((s_DirtyIn_c (⟨a0_0, a0_1, a0_2, a0_3⟩ : Host) a1), [.one (.s .int (s_DirtyIn (⟨a0_0, a0_1, a0_2, a0_3⟩ : Host) a1))])
  | _ => none

noncomputable def E_s_DirtyIn (N : Nat) (a0 : Host) (a1 : Int) : Option Ans :=
  (bif (s_MonAt_c a0 a1) then (iter (σ := (Int × (Int × (Int × (Int × ((List Int) × ((List Slot) × ((List (List Int)) × ((List Bool) × ((List Guest) × ((List Int) × ((List Kept) × Unit)))))))))))) N (fun r3 s4 => (bif (ilt s4.1 (ln s4.2.2.2.2.2.2.2.1)) then (bif (inb s4.1 (ln s4.2.2.2.2.2.2.2.1)) then (bif (ix s4.2.2.2.2.2.2.2.1 s4.1 false) then (bif (few (ln (ap s4.2.2.2.2.1 [s4.1]))) then (r3 ((wadd .i64 s4.1 1), (s4.2.1, (s4.2.2.1, (s4.2.2.2.1, ((ap s4.2.2.2.2.1 [s4.1]), (s4.2.2.2.2.2.1, (s4.2.2.2.2.2.2.1, (s4.2.2.2.2.2.2.2.1, (s4.2.2.2.2.2.2.2.2.1, (s4.2.2.2.2.2.2.2.2.2.1, (s4.2.2.2.2.2.2.2.2.2.2.1, ())))))))))))) else none) else (r3 ((wadd .i64 s4.1 1), (s4.2.1, (s4.2.2.1, (s4.2.2.2.1, (s4.2.2.2.2.1, (s4.2.2.2.2.2.1, (s4.2.2.2.2.2.2.1, (s4.2.2.2.2.2.2.2.1, (s4.2.2.2.2.2.2.2.2.1, (s4.2.2.2.2.2.2.2.2.2.1, (s4.2.2.2.2.2.2.2.2.2.2.1, ()))))))))))))) else none) else (some [(.one (.s .int s4.2.2.2.2.1))]))) (0, ((s_MonAt_1 a0 a1).Pending, ((s_MonAt_1 a0 a1).Traps, ((s_MonAt_1 a0 a1).Own, ([], ((s_MonAt_1 a0 a1).Outer, ((s_MonAt_1 a0 a1).Out, ((s_MonAt_1 a0 a1).Dirty, ((s_MonAt_1 a0 a1).Guests, ((s_MonAt_1 a0 a1).Outs, ((s_MonAt_1 a0 a1).Tables, ())))))))))))) else none)

def tms_s_DirtyIn : FuncId → Nat → Option Tmpl := tmsOf [(33, 0, { n := 33, tm := [(5, .sl 0 []), (6, .lp 0 0), (8, .i .i64)], lo := [(0, [.sl 1 [], .sl 2 [], .sl 3 [], .sl 4 [], .sl 5 [], .i .i64, .i .i64, .sl 6 [], .i .i64])], ro := [(0, .int, true), (1, .slot, true), (2, (.sl .int), true), (3, .bool, true), (4, .guest, true), (5, .int, true), (6, .kept, true)] })]

theorem nf_s_DirtyIn (N : Nat) (a0 : Host) (a1 : Int) : evalFn (cfgQ (aget ctrW) (aget mct0) (aget pct0)) tms_s_DirtyIn N 12 33 [.agg (hostC a0), .one (.i .i64 a1)] = E_s_DirtyIn N a0 a1 := by kernel_rfl

theorem law_s_DirtyIn (a0 : Host) (a1 : Int) (hb : AllB big [.agg (hostC a0), .one (.i .i64 a1)]) (hc : (s_DirtyIn_c a0 a1) = true) : ∃ N, E_s_DirtyIn N a0 a1 = some [.one (.s .int (s_DirtyIn a0 a1))] := by
  have hs := pc_iff.1 hc
  have hd : CVB sm (.s .bool (s_MonAt_1 a0 a1).Dirty) := dirtOf_sm hs a1
  have hl := sm_big hd.len
  refine ⟨NN, ?_⟩
  have hNN : ∀ {n : Nat}, n ≤ big → n < NN := fun h => NN_lt h
  generalize NN = N at hNN ⊢
  unfold E_s_DirtyIn
  rw [show s_MonAt_c a0 a1 = true from pc_true hs, cT]
  refine (iter_list ((s_MonAt_1 a0 a1).Dirty) (fun i (t : (List Int)) => ((i : Int), (s_MonAt_1 a0 a1).Pending, (s_MonAt_1 a0 a1).Traps, (s_MonAt_1 a0 a1).Own, t, (s_MonAt_1 a0 a1).Outer, (s_MonAt_1 a0 a1).Out, (s_MonAt_1 a0 a1).Dirty, (s_MonAt_1 a0 a1).Guests, (s_MonAt_1 a0 a1).Outs, (s_MonAt_1 a0 a1).Tables, ())) _ (fun i (x : Bool) (t : List Int) κ => bif x then (bif few (ln (ap t [(i : Int)])) then κ (ap t [(i : Int)]) else none) else κ t) (fun (t : (List Int)) => (some [(.one (.s .int t))])) (fun i hi t rec => ?_) (fun t rec => ?_) _ ([]) (hNN hl.1)).trans ?_
  · simp only [ilt_ln hi, inb_ln hi, ix_ln hi, wadd_up hi hl.1, cT]
  · simp only [ilt_end, cF]
  exact goL_idxs (fun b => b) _ _ 0 [] (by simpa using hl.2)
theorem holds_s_DirtyIn : Holds Try.prog 33 run_s_DirtyIn := by
  refine holds_of_eval (engQ_ok ctrW_ok mct0_ok pct0_ok) (fn_ok (by kernel_rfl)) ?_
  intro avs rs hr h
  have hb := allB_of_rep hr
  unfold run_s_DirtyIn at h
  split at h
  · rename_i a0_0 a0_1 a0_2 a0_3 a1
    obtain ⟨hc, rfl⟩ := some_pair h
    obtain ⟨N, hN⟩ := law_s_DirtyIn (⟨a0_0, a0_1, a0_2, a0_3⟩ : Host) a1 hb hc
    exact ⟨tms_s_DirtyIn, N, 12, (nf_s_DirtyIn N (⟨a0_0, a0_1, a0_2, a0_3⟩ : Host) a1).trans hN⟩
  · cases h

noncomputable def s_UsesOf_c (l : List Slot) (_ : Int) : Bool := pc (l.length ≤ 2147483648)
def s_UsesOf (l : List Slot) (p : Int) : List Int := idxs (fun (s : Slot) => ieq s.Page p) l 0
noncomputable def run_s_UsesOf : List AV → Option (Bool × List AV)
  | [.one (.s .slot a0), .one (.i .i64 a1)] => some ((s_UsesOf_c a0 a1), [.one (.s .int (s_UsesOf a0 a1))])
  | _ => none

noncomputable def E_s_UsesOf (N : Nat) (a0 : List Slot) (a1 : Int) : Option Ans :=
  (iter (σ := (Int × (Int × ((List Slot) × ((List Int) × Unit))))) N (fun r3 s4 => (bif (ilt s4.2.1 (ln s4.2.2.1)) then (bif (inb s4.2.1 (ln s4.2.2.1)) then (bif (ieq (ix s4.2.2.1 s4.2.1 (Ty.dflt .slot)).Page s4.1) then (bif (few (ln (ap s4.2.2.2.1 [s4.2.1]))) then (r3 (s4.1, ((wadd .i64 s4.2.1 1), (s4.2.2.1, ((ap s4.2.2.2.1 [s4.2.1]), ()))))) else none) else (r3 (s4.1, ((wadd .i64 s4.2.1 1), (s4.2.2.1, (s4.2.2.2.1, ())))))) else none) else (some [(.one (.s .int s4.2.2.2.1))]))) (a1, (0, (a0, ([], ())))))

def tms_s_UsesOf : FuncId → Nat → Option Tmpl := tmsOf [(74, 0, { n := 26, tm := [(0, .sl 0 []), (1, .i .i64), (5, .sl 1 []), (6, .i .i64)], lo := [], ro := [(0, .slot, false), (1, .int, true)] })]

theorem nf_s_UsesOf (N : Nat) (a0 : List Slot) (a1 : Int) : evalFn (cfgQ (aget ctrW) (aget mct0) (aget pct0)) tms_s_UsesOf N 12 74 [.one (.s .slot a0), .one (.i .i64 a1)] = E_s_UsesOf N a0 a1 := by kernel_rfl

theorem law_s_UsesOf (a0 : List Slot) (a1 : Int) (hb : AllB big [.one (.s .slot a0), .one (.i .i64 a1)]) (hc : (s_UsesOf_c a0 a1) = true) : ∃ N, E_s_UsesOf N a0 a1 = some [.one (.s .int (s_UsesOf a0 a1))] := by
  have hl := ((allB_cons hb).1 _ (List.mem_singleton.2 rfl)).len
  have hs := pc_iff.1 hc
  refine ⟨NN, ?_⟩
  have hNN : ∀ {n : Nat}, n ≤ big → n < NN := fun h => NN_lt h
  generalize NN = N at hNN ⊢
  unfold E_s_UsesOf
  refine (iter_list a0 (fun i (t : (List Int)) => (a1, (i : Int), a0, t, ())) _ (fun i (x : Slot) (t : List Int) κ => bif ieq x.Page a1 then (bif few (ln (ap t [(i : Int)])) then κ (ap t [(i : Int)]) else none) else κ t) (fun (t : (List Int)) => (some [(.one (.s .int t))])) (fun i hi t rec => ?_) (fun t rec => ?_) _ ([]) (hNN hl)).trans ?_
  · simp only [ilt_ln hi, inb_ln hi, ix_ln hi, wadd_up hi hl, cT]
  · simp only [ilt_end, cF]
  exact goL_idxs (fun (s : Slot) => ieq s.Page a1) _ _ 0 [] (by simpa using hs)
theorem holds_s_UsesOf : Holds Try.prog 74 run_s_UsesOf := by
  refine holds_of_eval (engQ_ok ctrW_ok mct0_ok pct0_ok) (fn_ok (by kernel_rfl)) ?_
  intro avs rs hr h
  have hb := allB_of_rep hr
  unfold run_s_UsesOf at h
  split at h
  · rename_i a0 a1
    obtain ⟨hc, rfl⟩ := some_pair h
    obtain ⟨N, hN⟩ := law_s_UsesOf a0 a1 hb hc
    exact ⟨tms_s_UsesOf, N, 12, (nf_s_UsesOf N a0 a1).trans hN⟩
  · cases h

noncomputable def ctrD1 : Ctrs := [(27, run_s_DirtOf), (28, run_i_DirtOf), (33, run_s_DirtyIn), (74, run_s_UsesOf)] ++ ctrW

theorem ctrD1_ok : ∀ f run, aget ctrD1 f = some run → Holds Try.prog f run := ctr_more ctrW_ok (by
  intro x hx
  simp only [List.mem_cons, List.not_mem_nil, or_false] at hx
  rcases hx with rfl | rfl | rfl | rfl
  · exact holds_s_DirtOf
  · exact holds_i_DirtOf
  · exact holds_s_DirtyIn
  · exact holds_s_UsesOf)


noncomputable def i_DirtyIn_c (h : Host) (_ : Int) : Bool := pc (SmHost h)
def i_DirtyIn (h : Host) (m : Int) : List Int := dirtyIn h m
noncomputable def run_i_DirtyIn : List AV → Option (Bool × List AV)
  | [.agg [.s (.sl .int) a0_0, .s .mon a0_1, .s .entry a0_2, .s .entry a0_3], .one (.i .i64 a1)] => some ((i_DirtyIn_c (⟨a0_0, a0_1, a0_2, a0_3⟩ : Host) a1), [.one (.s .int (i_DirtyIn (⟨a0_0, a0_1, a0_2, a0_3⟩ : Host) a1))])
  | _ => none

noncomputable def E_i_DirtyIn (N : Nat) (a0 : Host) (a1 : Int) : Option Ans :=
  (bif (i_DirtOf_c a0 a1) then (iter (σ := (Int × (Int × ((List Int) × ((List Bool) × Unit))))) N (fun r3 s4 => (bif (ilt s4.2.1 s4.1) then (bif (inb s4.2.1 (ln s4.2.2.2.1)) then (bif (ix s4.2.2.2.1 s4.2.1 false) then (bif (few (ln (ap s4.2.2.1 [s4.2.1]))) then (r3 (s4.1, ((wadd .i64 s4.2.1 1), ((ap s4.2.2.1 [s4.2.1]), (s4.2.2.2.1, ()))))) else none) else (r3 (s4.1, ((wadd .i64 s4.2.1 1), (s4.2.2.1, (s4.2.2.2.1, ())))))) else none) else (some [(.one (.s .int s4.2.2.1))]))) ((ln (i_DirtOf a0 a1)), (0, ([], ((i_DirtOf a0 a1), ()))))) else none)

def tms_i_DirtyIn : FuncId → Nat → Option Tmpl := tmsOf [(34, 0, { n := 25, tm := [(5, .sl 0 []), (11, .sl 1 []), (12, .i .i64), (13, .i .i64)], lo := [], ro := [(0, .int, true), (1, .bool, true)] })]

theorem nf_i_DirtyIn (N : Nat) (a0 : Host) (a1 : Int) : evalFn (cfgQ (aget ctrD1) (aget mct0) (aget pct0)) tms_i_DirtyIn N 12 34 [.agg (hostC a0), .one (.i .i64 a1)] = E_i_DirtyIn N a0 a1 := by kernel_rfl

theorem law_i_DirtyIn (a0 : Host) (a1 : Int) (hb : AllB big [.agg (hostC a0), .one (.i .i64 a1)]) (hc : (i_DirtyIn_c a0 a1) = true) : ∃ N, E_i_DirtyIn N a0 a1 = some [.one (.s .int (i_DirtyIn a0 a1))] := by
  have hs := pc_iff.1 hc
  have hd : CVB sm (.s .bool (i_DirtOf a0 a1)) := dirtOf_sm hs a1
  have hl := sm_big hd.len
  refine ⟨NN, ?_⟩
  have hNN : ∀ {n : Nat}, n ≤ big → n < NN := fun h => NN_lt h
  generalize NN = N at hNN ⊢
  unfold E_i_DirtyIn
  rw [show i_DirtOf_c a0 a1 = true from pc_true hs, cT]
  refine (iter_list (i_DirtOf a0 a1) (fun i (t : (List Int)) => ((ln (i_DirtOf a0 a1)), (i : Int), t, (i_DirtOf a0 a1), ())) _ (fun i (x : Bool) (t : List Int) κ => bif x then (bif few (ln (ap t [(i : Int)])) then κ (ap t [(i : Int)]) else none) else κ t) (fun (t : (List Int)) => (some [(.one (.s .int t))])) (fun i hi t rec => ?_) (fun t rec => ?_) _ ([]) (hNN hl.1)).trans ?_
  · simp only [ilt_ln hi, inb_ln hi, ix_ln hi, wadd_up hi hl.1, cT]
  · simp only [ilt_end, cF]
  exact goL_idxs (fun b => b) _ _ 0 [] (by simpa using hl.2)
theorem holds_i_DirtyIn : Holds Try.prog 34 run_i_DirtyIn := by
  refine holds_of_eval (engQ_ok ctrD1_ok mct0_ok pct0_ok) (fn_ok (by kernel_rfl)) ?_
  intro avs rs hr h
  have hb := allB_of_rep hr
  unfold run_i_DirtyIn at h
  split at h
  · rename_i a0_0 a0_1 a0_2 a0_3 a1
    obtain ⟨hc, rfl⟩ := some_pair h
    obtain ⟨N, hN⟩ := law_i_DirtyIn (⟨a0_0, a0_1, a0_2, a0_3⟩ : Host) a1 hb hc
    exact ⟨tms_i_DirtyIn, N, 12, (nf_i_DirtyIn N (⟨a0_0, a0_1, a0_2, a0_3⟩ : Host) a1).trans hN⟩
  · cases h


/-- The first place at which a condition holds. -/
def fstAt {α : Type} (p : α → Bool) : List α → Nat → Int
  | [], _ => -1
  | x :: l, i => bif p x then (i : Int) else fstAt p l (i + 1)
theorem goL_fst {α ρ : Type} (p : α → Bool) (f : Int → Option ρ) : ∀ (l : List α) (i : Nat), goL (fun i x (_ : Unit) k => bif p x then f (i : Int) else k ()) (fun _ => f (-1)) l i () = f (fstAt p l i)
  | [], _ => rfl
  | x :: l, i => by
    simp only [goL, fstAt]
    cases p x
    · exact goL_fst p f l (i + 1)
    · rfl
theorem fstAt_any {α : Type} (p : α → Bool) : ∀ (l : List α) (i : Nat), ige (fstAt p l i) 0 = l.any p
  | [], _ => rfl
  | x :: l, i => by
    simp only [fstAt, List.any_cons]
    cases p x
    · simp only [cF, Bool.false_or]; exact fstAt_any p l (i + 1)
    · simp only [cT, Bool.true_or, ige]; exact decide_eq_true (by omega)
def x_slices_Index___int_int__c (_ : List Int) (_ : Int) : Bool := true
def x_slices_Index___int_int_ (l : List Int) (v : Int) : Int := fstAt (fun x => ieq v x) l 0
noncomputable def run_x_slices_Index___int_int_ : List AV → Option (Bool × List AV)
  | [.one (.s .int a0), .one (.i .i64 a1)] => some ((x_slices_Index___int_int__c a0 a1), [.one (.i .i64 (x_slices_Index___int_int_ a0 a1))])
  | _ => none

noncomputable def E_x_slices_Index___int_int_ (N : Nat) (a0 : List Int) (a1 : Int) : Option Ans :=
  (iter (σ := (Int × (Int × (Int × ((List Int) × Unit))))) N (fun r3 s4 => (bif (ilt s4.2.2.1 s4.2.1) then (bif (inb s4.2.2.1 (ln s4.2.2.2.1)) then (bif (ieq s4.1 (ix s4.2.2.2.1 s4.2.2.1 0)) then (some [(.one (.i .i64 s4.2.2.1))]) else (r3 (s4.1, (s4.2.1, ((wadd .i64 s4.2.2.1 1), (s4.2.2.2.1, ())))))) else none) else (some [(.one (.i .i64 (-1)))]))) (a1, ((ln a0), (0, (a0, ())))))

def tms_x_slices_Index___int_int_ : FuncId → Nat → Option Tmpl := tmsOf [(91, 0, { n := 19, tm := [(0, .sl 0 []), (1, .i .i64), (7, .i .i64), (8, .i .i64)], lo := [], ro := [(0, .int, false)] })]

theorem nf_x_slices_Index___int_int_ (N : Nat) (a0 : List Int) (a1 : Int) : evalFn (cfgQ (aget ctrD1) (aget mct0) (aget pct0)) tms_x_slices_Index___int_int_ N 12 91 [.one (.s .int a0), .one (.i .i64 a1)] = E_x_slices_Index___int_int_ N a0 a1 := by kernel_rfl

theorem law_x_slices_Index___int_int_ (a0 : List Int) (a1 : Int) (hb : AllB big [.one (.s .int a0), .one (.i .i64 a1)]) (hc : (x_slices_Index___int_int__c a0 a1) = true) : ∃ N, E_x_slices_Index___int_int_ N a0 a1 = some [.one (.i .i64 (x_slices_Index___int_int_ a0 a1))] := by
  have hl := ((allB_cons hb).1 _ (List.mem_singleton.2 rfl)).len
  refine ⟨NN, ?_⟩
  have hNN : ∀ {n : Nat}, n ≤ big → n < NN := fun h => NN_lt h
  generalize NN = N at hNN ⊢
  unfold E_x_slices_Index___int_int_
  refine (iter_list a0 (fun i (t : Unit) => (a1, (ln a0), (i : Int), a0, ())) _ (fun i (x : Int) (_ : Unit) κ => bif ieq a1 x then some [AV.one (.i .i64 (i : Int))] else κ ()) (fun (t : Unit) => (some [(.one (.i .i64 (-1)))])) (fun i hi t rec => ?_) (fun t rec => ?_) _ () (hNN hl)).trans ?_
  · simp only [ilt_ln hi, inb_ln hi, ix_ln hi, wadd_up hi hl, cT]
  · simp only [ilt_end, cF]
  exact goL_fst (fun x => ieq a1 x) (fun n => some [AV.one (.i .i64 n)]) a0 0
theorem holds_x_slices_Index___int_int_ : Holds Try.prog 91 run_x_slices_Index___int_int_ := by
  refine holds_of_eval (engQ_ok ctrD1_ok mct0_ok pct0_ok) (fn_ok (by kernel_rfl)) ?_
  intro avs rs hr h
  have hb := allB_of_rep hr
  unfold run_x_slices_Index___int_int_ at h
  split at h
  · rename_i a0 a1
    obtain ⟨hc, rfl⟩ := some_pair h
    obtain ⟨N, hN⟩ := law_x_slices_Index___int_int_ a0 a1 hb hc
    exact ⟨tms_x_slices_Index___int_int_, N, 12, (nf_x_slices_Index___int_int_ N a0 a1).trans hN⟩
  · cases h

noncomputable def ctrD2 : Ctrs := [(34, run_i_DirtyIn), (91, run_x_slices_Index___int_int_)] ++ ctrD1

theorem ctrD2_ok : ∀ f run, aget ctrD2 f = some run → Holds Try.prog f run := ctr_more ctrD1_ok (by
  intro x hx
  simp only [List.mem_cons, List.not_mem_nil, or_false] at hx
  rcases hx with rfl | rfl
  · exact holds_i_DirtyIn
  · exact holds_x_slices_Index___int_int_)

def hasI (l : List Int) (v : Int) : Bool := l.any fun x => ieq v x
def x_slices_Contains___int_int__c (_ : List Int) (_ : Int) : Bool := true
def x_slices_Contains___int_int_ (l : List Int) (v : Int) : Bool := hasI l v
noncomputable def run_x_slices_Contains___int_int_ : List AV → Option (Bool × List AV)
  | [.one (.s .int a0), .one (.i .i64 a1)] => some ((x_slices_Contains___int_int__c a0 a1), [.one (.b (x_slices_Contains___int_int_ a0 a1))])
  | _ => none

noncomputable def E_x_slices_Contains___int_int_ (N : Nat) (a0 : List Int) (a1 : Int) : Option Ans :=
  (bif (x_slices_Index___int_int__c a0 a1) then (some [(.one (.b (ige (x_slices_Index___int_int_ a0 a1) 0)))]) else none)

theorem nf_x_slices_Contains___int_int_ (N : Nat) (a0 : List Int) (a1 : Int) : evalFn (cfgQ (aget ctrD2) (aget mct0) (aget pct0)) (tmsOf []) N 12 51 [.one (.s .int a0), .one (.i .i64 a1)] = E_x_slices_Contains___int_int_ N a0 a1 := by kernel_rfl

theorem law_x_slices_Contains___int_int_ (a0 : List Int) (a1 : Int) (hb : AllB big [.one (.s .int a0), .one (.i .i64 a1)]) (hc : (x_slices_Contains___int_int__c a0 a1) = true) : ∃ N, E_x_slices_Contains___int_int_ N a0 a1 = some [.one (.b (x_slices_Contains___int_int_ a0 a1))] := by
  refine ⟨0, ?_⟩
  unfold E_x_slices_Contains___int_int_ x_slices_Index___int_int_
  rw [fstAt_any]
  rfl
theorem holds_x_slices_Contains___int_int_ : Holds Try.prog 51 run_x_slices_Contains___int_int_ := by
  refine holds_of_eval (engQ_ok ctrD2_ok mct0_ok pct0_ok) (fn_ok (by kernel_rfl)) ?_
  intro avs rs hr h
  have hb := allB_of_rep hr
  unfold run_x_slices_Contains___int_int_ at h
  split at h
  · rename_i a0 a1
    obtain ⟨hc, rfl⟩ := some_pair h
    obtain ⟨N, hN⟩ := law_x_slices_Contains___int_int_ a0 a1 hb hc
    exact ⟨tmsOf [], N, 12, (nf_x_slices_Contains___int_int_ N a0 a1).trans hN⟩
  · cases h

noncomputable def ctrD3 : Ctrs := [(51, run_x_slices_Contains___int_int_)] ++ ctrD2

theorem ctrD3_ok : ∀ f run, aget ctrD3 f = some run → Holds Try.prog f run := ctr_more ctrD2_ok (by
  intro x hx
  simp only [List.mem_cons, List.not_mem_nil, or_false] at hx
  rcases hx with rfl
  · exact holds_x_slices_Contains___int_int_)


theorem ieq_comm (x y : Int) : ieq x y = ieq y x := by
  unfold ieq
  by_cases h : x = y
  · subst h; rfl
  · have h2 : y ≠ x := fun e => h e.symm
    rw [beq_eq_false_iff_ne.2 h, beq_eq_false_iff_ne.2 h2]
theorem goL_or {ρ : Type} (p : Int → Bool) (K : Bool → Option ρ) : ∀ (l : List Int) (i : Nat) (u : Bool), goL (fun _ x u k => bif u then k true else k (p x)) K l i u = K (u || l.any p)
  | [], _, u => by simp [goL]
  | x :: l, i, u => by
    simp only [goL, List.any_cons]
    cases u
    · rw [cF, goL_or p K l (i + 1) (p x)]; simp
    · rw [cT, goL_or p K l (i + 1) true]; simp

def isDirty (h : Host) (m : Int) (ps : List Int) : Bool := ps.all (hasI (dirtyIn h m))
noncomputable def s_IsDirty_c (h : Host) (_ : Int) (_ : List Int) : Bool := pc (SmHost h)
def s_IsDirty (h : Host) (m : Int) (ps : List Int) : Bool := isDirty h m ps
noncomputable def run_s_IsDirty : List AV → Option (Bool × List AV)
  | [.agg [.s (.sl .int) a0_0, .s .mon a0_1, .s .entry a0_2, .s .entry a0_3], .one (.i .i64 a1), .one (.s .int a2)] => some ((s_IsDirty_c (⟨a0_0, a0_1, a0_2, a0_3⟩ : Host) a1 a2), [.one (.b (s_IsDirty (⟨a0_0, a0_1, a0_2, a0_3⟩ : Host) a1 a2))])
  | _ => none

noncomputable def E_s_IsDirty (N : Nat) (a0 : Host) (a1 : Int) (a2 : List Int) : Option Ans :=
  (bif (s_DirtyIn_c a0 a1) then (iter (σ := (Int × ((List Int) × ((List Int) × Unit)))) N (fun r4 s5 => (bif (ilt s5.1 (ln s5.2.1)) then (iter (σ := (Int × (Bool × (Int × ((List Int) × ((List Int) × Unit)))))) N (fun r6 s7 => (bif (ilt s7.2.2.1 (ln s7.2.2.2.2.1)) then (bif s7.2.1 then (r6 (s7.1, (true, ((wadd .i64 s7.2.2.1 1), (s7.2.2.2.1, (s7.2.2.2.2.1, ())))))) else (bif (inb s7.2.2.1 (ln s7.2.2.2.2.1)) then (bif (inb s7.1 (ln s7.2.2.2.1)) then (r6 (s7.1, ((ieq (ix s7.2.2.2.2.1 s7.2.2.1 0) (ix s7.2.2.2.1 s7.1 0)), ((wadd .i64 s7.2.2.1 1), (s7.2.2.2.1, (s7.2.2.2.2.1, ())))))) else none) else none)) else (bif (bif s7.2.1 then false else true) then (some [(.one (.b false))]) else (r4 ((wadd .i64 s7.1 1), (s7.2.2.2.1, (s7.2.2.2.2.1, ()))))))) (s5.1, (false, (0, (s5.2.1, (s5.2.2.1, ())))))) else (some [(.one (.b true))]))) (0, (a2, ((s_DirtyIn a0 a1), ())))) else none)

def tms_s_IsDirty : FuncId → Nat → Option Tmpl := tmsOf [(14, 0, { n := 40, tm := [(2, .sl 0 []), (7, .sl 1 []), (8, .i .i64)], lo := [], ro := [(0, .int, false), (1, .int, true)] }), (14, 2, { n := 40, tm := [(2, .sl 0 []), (7, .sl 1 []), (8, .i .i64), (9, .b), (10, .i .i64)], lo := [], ro := [(0, .int, false), (1, .int, true)] })]

theorem nf_s_IsDirty (N : Nat) (a0 : Host) (a1 : Int) (a2 : List Int) : evalFn (cfgQ (aget ctrD3) (aget mct0) (aget pct0)) tms_s_IsDirty N 12 14 [.agg (hostC a0), .one (.i .i64 a1), .one (.s .int a2)] = E_s_IsDirty N a0 a1 a2 := by kernel_rfl

theorem law_s_IsDirty (a0 : Host) (a1 : Int) (a2 : List Int) (hb : AllB big [.agg (hostC a0), .one (.i .i64 a1), .one (.s .int a2)]) (hc : (s_IsDirty_c a0 a1 a2) = true) : ∃ N, E_s_IsDirty N a0 a1 a2 = some [.one (.b (s_IsDirty a0 a1 a2))] := by
  have hs := pc_iff.1 hc
  have hl := ((allB_cons (allB_cons (allB_cons hb).2).2).1 _ (List.mem_singleton.2 rfl)).len
  have hd : (s_DirtyIn a0 a1).length ≤ big := Nat.le_trans (idxs_len _ _ _) (sm_big (dirtOf_sm hs a1).len).1
  refine ⟨NN, ?_⟩
  have hNN : ∀ {n : Nat}, n ≤ big → n < NN := fun h => NN_lt h
  generalize NN = N at hNN ⊢
  unfold E_s_IsDirty
  rw [show s_DirtyIn_c a0 a1 = true from pc_true hs, cT]
  refine (iter_list a2 (fun i (t : Unit) => ((i : Int), a2, (s_DirtyIn a0 a1), ())) _ (fun _ (x : Int) (_ : Unit) κ => bif hasI (dirtyIn a0 a1) x then κ () else some [AV.one (.b false)]) (fun (t : Unit) => (some [(.one (.b true))])) (fun i hi t rec => ?_) (fun t rec => ?_) _ () (hNN hl)).trans ?_
  · simp only [ilt_ln hi, inb_ln hi, ix_ln hi, wadd_up hi hl, cT]
    refine (iter_list (s_DirtyIn a0 a1) (fun j (u : Bool) => ((i : Int), u, (j : Int), a2, (s_DirtyIn a0 a1), ())) _ (fun _ (y : Int) (u : Bool) κ => bif u then κ true else κ (ieq y a2[i])) (fun (u : Bool) => (bif (bif u then false else true) then (some [(.one (.b false))]) else (rec ((((i + 1 : Nat)) : Int), (a2, ((s_DirtyIn a0 a1), ())))))) (fun j hj u rec1 => ?_) (fun u rec1 => ?_) _ (false) (hNN hd)).trans ?_
    · simp only [ilt_ln hj, inb_ln hj, ix_ln hj, wadd_up hj hd, cT, wadd_up hi hl]
      simp only [inb_ln hi, ix_ln hi, cT]
    · simp only [ilt_end, cF, wadd_up hi hl]
    rw [goL_or (fun y => ieq y a2[i])]
    simp only [Bool.false_or, ieq_comm _ a2[i]]
    show _ = bif hasI (s_DirtyIn a0 a1) a2[i] then _ else _
    unfold hasI
    cases (s_DirtyIn a0 a1).any fun x => ieq a2[i] x <;> rfl
  · simp only [ilt_end, cF]
  rw [goL_all]
  unfold s_IsDirty isDirty
  cases a2.all (hasI (dirtyIn a0 a1)) <;> rfl
theorem holds_s_IsDirty : Holds Try.prog 14 run_s_IsDirty := by
  refine holds_of_eval (engQ_ok ctrD3_ok mct0_ok pct0_ok) (fn_ok (by kernel_rfl)) ?_
  intro avs rs hr h
  have hb := allB_of_rep hr
  unfold run_s_IsDirty at h
  split at h
  · rename_i a0_0 a0_1 a0_2 a0_3 a1 a2
    obtain ⟨hc, rfl⟩ := some_pair h
    obtain ⟨N, hN⟩ := law_s_IsDirty (⟨a0_0, a0_1, a0_2, a0_3⟩ : Host) a1 a2 hb hc
    exact ⟨tms_s_IsDirty, N, 12, (nf_s_IsDirty N (⟨a0_0, a0_1, a0_2, a0_3⟩ : Host) a1 a2).trans hN⟩
  · cases h

noncomputable def i_IsDirty_c (h : Host) (_ : Int) (_ : List Int) : Bool := pc (SmHost h)
def i_IsDirty (h : Host) (m : Int) (ps : List Int) : Bool := isDirty h m ps
noncomputable def run_i_IsDirty : List AV → Option (Bool × List AV)
  | [.agg [.s (.sl .int) a0_0, .s .mon a0_1, .s .entry a0_2, .s .entry a0_3], .one (.i .i64 a1), .one (.s .int a2)] => some ((i_IsDirty_c (⟨a0_0, a0_1, a0_2, a0_3⟩ : Host) a1 a2), [.one (.b (i_IsDirty (⟨a0_0, a0_1, a0_2, a0_3⟩ : Host) a1 a2))])
  | _ => none

noncomputable def E_i_IsDirty (N : Nat) (a0 : Host) (a1 : Int) (a2 : List Int) : Option Ans :=
  (bif (i_DirtyIn_c a0 a1) then (iter (σ := (Int × (Int × ((List Int) × ((List Int) × Unit))))) N (fun r4 s5 => (bif (ilt s5.2.1 s5.1) then (bif (inb s5.2.1 (ln s5.2.2.2.1)) then (bif (x_slices_Contains___int_int__c s5.2.2.1 (ix s5.2.2.2.1 s5.2.1 0)) then (bif (bif (x_slices_Contains___int_int_ s5.2.2.1 (ix s5.2.2.2.1 s5.2.1 0)) then false else true) then (some [(.one (.b false))]) else (r4 (s5.1, ((wadd .i64 s5.2.1 1), (s5.2.2.1, (s5.2.2.2.1, ())))))) else none) else none) else (some [(.one (.b true))]))) ((ln a2), (0, ((i_DirtyIn a0 a1), (a2, ()))))) else none)

def tms_i_IsDirty : FuncId → Nat → Option Tmpl := tmsOf [(17, 0, { n := 24, tm := [(7, .sl 0 []), (13, .sl 1 []), (14, .i .i64), (15, .i .i64)], lo := [], ro := [(0, .int, true), (1, .int, false)] })]

theorem nf_i_IsDirty (N : Nat) (a0 : Host) (a1 : Int) (a2 : List Int) : evalFn (cfgQ (aget ctrD3) (aget mct0) (aget pct0)) tms_i_IsDirty N 12 17 [.agg (hostC a0), .one (.i .i64 a1), .one (.s .int a2)] = E_i_IsDirty N a0 a1 a2 := by kernel_rfl

theorem law_i_IsDirty (a0 : Host) (a1 : Int) (a2 : List Int) (hb : AllB big [.agg (hostC a0), .one (.i .i64 a1), .one (.s .int a2)]) (hc : (i_IsDirty_c a0 a1 a2) = true) : ∃ N, E_i_IsDirty N a0 a1 a2 = some [.one (.b (i_IsDirty a0 a1 a2))] := by
  have hs := pc_iff.1 hc
  have hl := ((allB_cons (allB_cons (allB_cons hb).2).2).1 _ (List.mem_singleton.2 rfl)).len
  refine ⟨NN, ?_⟩
  have hNN : ∀ {n : Nat}, n ≤ big → n < NN := fun h => NN_lt h
  generalize NN = N at hNN ⊢
  unfold E_i_IsDirty
  rw [show i_DirtyIn_c a0 a1 = true from pc_true hs, cT]
  refine (iter_list a2 (fun i (t : Unit) => ((ln a2), (i : Int), (i_DirtyIn a0 a1), a2, ())) _ (fun _ (x : Int) (_ : Unit) κ => bif hasI (dirtyIn a0 a1) x then κ () else some [AV.one (.b false)]) (fun (t : Unit) => (some [(.one (.b true))])) (fun i hi t rec => ?_) (fun t rec => ?_) _ () (hNN hl)).trans ?_
  · simp only [ilt_ln hi, inb_ln hi, ix_ln hi, wadd_up hi hl, cT]
    simp only [x_slices_Contains___int_int__c, x_slices_Contains___int_int_, cT]
    show (bif (bif hasI (dirtyIn a0 a1) a2[i] then false else true) then _ else _) = _
    cases hasI (dirtyIn a0 a1) a2[i] <;> rfl
  · simp only [ilt_end, cF]
  rw [goL_all]
  unfold i_IsDirty isDirty
  cases a2.all (hasI (dirtyIn a0 a1)) <;> rfl
theorem holds_i_IsDirty : Holds Try.prog 17 run_i_IsDirty := by
  refine holds_of_eval (engQ_ok ctrD3_ok mct0_ok pct0_ok) (fn_ok (by kernel_rfl)) ?_
  intro avs rs hr h
  have hb := allB_of_rep hr
  unfold run_i_IsDirty at h
  split at h
  · rename_i a0_0 a0_1 a0_2 a0_3 a1 a2
    obtain ⟨hc, rfl⟩ := some_pair h
    obtain ⟨N, hN⟩ := law_i_IsDirty (⟨a0_0, a0_1, a0_2, a0_3⟩ : Host) a1 a2 hb hc
    exact ⟨tms_i_IsDirty, N, 12, (nf_i_IsDirty N (⟨a0_0, a0_1, a0_2, a0_3⟩ : Host) a1 a2).trans hN⟩
  · cases h


def outOf (h : Host) (m : Int) : List Int := idxs (fun (s : Slot) => ieq s.Page (-1)) (monOf h m).Outer 0
theorem outer_sm {h : Host} (hs : SmHost h) (m : Int) : CVB sm (.s .slot (monOf h m).Outer) := monOf_sm hs m (.s .slot (monOf h m).Outer) (by simp [Ty.cells])
noncomputable def s_OutOf_c (h : Host) (_ : Int) : Bool := pc (SmHost h)
def s_OutOf (h : Host) (m : Int) : List Int := outOf h m
noncomputable def run_s_OutOf : List AV → Option (Bool × List AV)
  | [.agg [.s (.sl .int) a0_0, .s .mon a0_1, .s .entry a0_2, .s .entry a0_3], .one (.i .i64 a1)] => some ((s_OutOf_c (⟨a0_0, a0_1, a0_2, a0_3⟩ : Host) a1), [.one (.s .int (s_OutOf (⟨a0_0, a0_1, a0_2, a0_3⟩ : Host) a1))])
  | _ => none

noncomputable def E_s_OutOf (N : Nat) (a0 : Host) (a1 : Int) : Option Ans :=
  (bif (s_MonAt_c a0 a1) then (bif (s_UsesOf_c (s_MonAt_1 a0 a1).Outer (-1)) then (bif (few (ln (ap [] (s_UsesOf (s_MonAt_1 a0 a1).Outer (-1))))) then (some [(.one (.s .int (ap [] (s_UsesOf (s_MonAt_1 a0 a1).Outer (-1)))))]) else none) else none) else none)

theorem nf_s_OutOf (N : Nat) (a0 : Host) (a1 : Int) : evalFn (cfgQ (aget ctrD3) (aget mct0) (aget pct0)) (tmsOf []) N 12 37 [.agg (hostC a0), .one (.i .i64 a1)] = E_s_OutOf N a0 a1 := by kernel_rfl

theorem law_s_OutOf (a0 : Host) (a1 : Int) (hb : AllB big [.agg (hostC a0), .one (.i .i64 a1)]) (hc : (s_OutOf_c a0 a1) = true) : ∃ N, E_s_OutOf N a0 a1 = some [.one (.s .int (s_OutOf a0 a1))] := by
  have hs := pc_iff.1 hc
  have ho := sm_big (outer_sm hs a1).len
  refine ⟨0, ?_⟩
  unfold E_s_OutOf
  have e : s_MonAt_1 a0 a1 = monOf a0 a1 := rfl
  have h1 : s_UsesOf_c (monOf a0 a1).Outer (-1) = true := pc_true ho.2
  have h2 : few (ln (s_UsesOf (monOf a0 a1).Outer (-1))) = true := few_ln (Nat.le_trans (idxs_len _ _ _) ho.2)
  rw [show s_MonAt_c a0 a1 = true from pc_true hs, cT, e, ap_nil, h1, cT, h2, cT]
  rfl
theorem holds_s_OutOf : Holds Try.prog 37 run_s_OutOf := by
  refine holds_of_eval (engQ_ok ctrD3_ok mct0_ok pct0_ok) (fn_ok (by kernel_rfl)) ?_
  intro avs rs hr h
  have hb := allB_of_rep hr
  unfold run_s_OutOf at h
  split at h
  · rename_i a0_0 a0_1 a0_2 a0_3 a1
    obtain ⟨hc, rfl⟩ := some_pair h
    obtain ⟨N, hN⟩ := law_s_OutOf (⟨a0_0, a0_1, a0_2, a0_3⟩ : Host) a1 hb hc
    exact ⟨tmsOf [], N, 12, (nf_s_OutOf N (⟨a0_0, a0_1, a0_2, a0_3⟩ : Host) a1).trans hN⟩
  · cases h

noncomputable def i_OutOf_c (h : Host) (_ : Int) : Bool := pc (SmHost h)
def i_OutOf (h : Host) (m : Int) : List Int := outOf h m
noncomputable def run_i_OutOf : List AV → Option (Bool × List AV)
  | [.agg [.s (.sl .int) a0_0, .s .mon a0_1, .s .entry a0_2, .s .entry a0_3], .one (.i .i64 a1)] => some ((i_OutOf_c (⟨a0_0, a0_1, a0_2, a0_3⟩ : Host) a1), [.one (.s .int (i_OutOf (⟨a0_0, a0_1, a0_2, a0_3⟩ : Host) a1))])
  | _ => none

noncomputable def E_i_OutOf (N : Nat) (a0 : Host) (a1 : Int) : Option Ans :=
  (bif (i_has_c a1 (ln a0.Mons)) then (bif (bif (i_has a1 (ln a0.Mons)) then false else true) then (some [(.one (.s .int []))]) else (bif (inb a1 (ln a0.Mons)) then (iter (σ := (Int × (Int × (Int × ((List Int) × ((List Mon) × Unit)))))) N (fun r3 s4 => (bif (ilt s4.2.2.1 s4.2.1) then (bif (inb s4.2.2.1 (ln (ix s4.2.2.2.2.1 s4.1 (Ty.dflt .mon)).Outer)) then (bif (ieq (ix (ix s4.2.2.2.2.1 s4.1 (Ty.dflt .mon)).Outer s4.2.2.1 (Ty.dflt .slot)).Page (-1)) then (bif (few (ln (ap s4.2.2.2.1 [s4.2.2.1]))) then (r3 (s4.1, (s4.2.1, ((wadd .i64 s4.2.2.1 1), ((ap s4.2.2.2.1 [s4.2.2.1]), (s4.2.2.2.2.1, ())))))) else none) else (r3 (s4.1, (s4.2.1, ((wadd .i64 s4.2.2.1 1), (s4.2.2.2.1, (s4.2.2.2.2.1, ()))))))) else none) else (some [(.one (.s .int s4.2.2.2.1))]))) (a1, ((ln (ix a0.Mons a1 (Ty.dflt .mon)).Outer), (0, ([], (a0.Mons, ())))))) else none)) else none)

def tms_i_OutOf : FuncId → Nat → Option Tmpl := tmsOf [(75, 0, { n := 38, tm := [(2, .fn 76 []), (7, .sl 0 []), (22, .sl 1 [0]), (23, .i .i64), (24, .i .i64)], lo := [], ro := [(0, .int, true), (1, .mon, false)] })]

theorem nf_i_OutOf (N : Nat) (a0 : Host) (a1 : Int) : evalFn (cfgQ (aget ctrD3) (aget mct0) (aget pct0)) tms_i_OutOf N 12 38 [.agg (hostC a0), .one (.i .i64 a1)] = E_i_OutOf N a0 a1 := by kernel_rfl

theorem law_i_OutOf (a0 : Host) (a1 : Int) (hb : AllB big [.agg (hostC a0), .one (.i .i64 a1)]) (hc : (i_OutOf_c a0 a1) = true) : ∃ N, E_i_OutOf N a0 a1 = some [.one (.s .int (i_OutOf a0 a1))] := by
  have ho := sm_big (outer_sm (pc_iff.1 hc) a1).len
  refine ⟨NN, ?_⟩
  have hNN : ∀ {n : Nat}, n ≤ big → n < NN := fun h => NN_lt h
  generalize NN = N at hNN ⊢
  unfold E_i_OutOf i_OutOf i_has
  unfold outOf monOf at *
  cases hh : hasB a1 (ln a0.Mons)
  · rfl
  · rw [hh, cT] at ho
    rw [show i_has_c a1 (ln a0.Mons) = true from rfl, cT, cT, cF, inb_has hh, cT]
    refine (iter_list ((ix a0.Mons a1 (Ty.dflt .mon)).Outer) (fun i (t : (List Int)) => (a1, (ln (ix a0.Mons a1 (Ty.dflt .mon)).Outer), (i : Int), t, a0.Mons, ())) _ (fun i (x : Slot) (t : List Int) κ => bif ieq x.Page (-1) then (bif few (ln (ap t [(i : Int)])) then κ (ap t [(i : Int)]) else none) else κ t) (fun (t : (List Int)) => (some [(.one (.s .int t))])) (fun i hi t rec => ?_) (fun t rec => ?_) _ ([]) (hNN ho.1)).trans ?_
    · simp only [ilt_ln hi, inb_ln hi, ix_ln hi, wadd_up hi ho.1, cT]
    · simp only [ilt_end, cF]
    exact goL_idxs (fun (s : Slot) => ieq s.Page (-1)) _ _ 0 [] (by simpa using ho.2)
theorem holds_i_OutOf : Holds Try.prog 38 run_i_OutOf := by
  refine holds_of_eval (engQ_ok ctrD3_ok mct0_ok pct0_ok) (fn_ok (by kernel_rfl)) ?_
  intro avs rs hr h
  have hb := allB_of_rep hr
  unfold run_i_OutOf at h
  split at h
  · rename_i a0_0 a0_1 a0_2 a0_3 a1
    obtain ⟨hc, rfl⟩ := some_pair h
    obtain ⟨N, hN⟩ := law_i_OutOf (⟨a0_0, a0_1, a0_2, a0_3⟩ : Host) a1 hb hc
    exact ⟨tms_i_OutOf, N, 12, (nf_i_OutOf N (⟨a0_0, a0_1, a0_2, a0_3⟩ : Host) a1).trans hN⟩
  · cases h


def guarded1 (s : Slot) : Bool := ine s.Page (-1) && !enough s.Rights 2
def guardedIn (h : Host) (m : Int) : List Int := idxs guarded1 (monOf h m).Outer 0
noncomputable def s_GuardedIn_c (h : Host) (_ : Int) : Bool := pc (SmHost h)
def s_GuardedIn (h : Host) (m : Int) : List Int := guardedIn h m
noncomputable def run_s_GuardedIn : List AV → Option (Bool × List AV)
  | [.agg [.s (.sl .int) a0_0, .s .mon a0_1, .s .entry a0_2, .s .entry a0_3], .one (.i .i64 a1)] => some ((s_GuardedIn_c (⟨a0_0, a0_1, a0_2, a0_3⟩ : Host) a1), [.one (.s .int (s_GuardedIn (⟨a0_0, a0_1, a0_2, a0_3⟩ : Host) a1))])
  | _ => none

noncomputable def E_s_GuardedIn (N : Nat) (a0 : Host) (a1 : Int) : Option Ans :=
  (bif (s_MonAt_c a0 a1) then (iter (σ := (Int × (Int × (Int × (Int × ((List Int) × ((List Slot) × ((List (List Int)) × ((List Bool) × ((List Guest) × ((List Int) × ((List Kept) × Unit)))))))))))) N (fun r3 s4 => (bif (ilt s4.1 (ln s4.2.2.2.2.2.1)) then (bif (inb s4.1 (ln s4.2.2.2.2.2.1)) then (bif (ine (ix s4.2.2.2.2.2.1 s4.1 (Ty.dflt .slot)).Page (-1)) then (bif (inb s4.1 (ln s4.2.2.2.2.2.1)) then (bif (s_Enough_c (ix s4.2.2.2.2.2.1 s4.1 (Ty.dflt .slot)).Rights 2) then (bif (bif (s_Enough (ix s4.2.2.2.2.2.1 s4.1 (Ty.dflt .slot)).Rights 2) then false else true) then (bif (few (ln (ap s4.2.2.2.2.1 [s4.1]))) then (r3 ((wadd .i64 s4.1 1), (s4.2.1, (s4.2.2.1, (s4.2.2.2.1, ((ap s4.2.2.2.2.1 [s4.1]), (s4.2.2.2.2.2.1, (s4.2.2.2.2.2.2.1, (s4.2.2.2.2.2.2.2.1, (s4.2.2.2.2.2.2.2.2.1, (s4.2.2.2.2.2.2.2.2.2.1, (s4.2.2.2.2.2.2.2.2.2.2.1, ())))))))))))) else none) else (r3 ((wadd .i64 s4.1 1), (s4.2.1, (s4.2.2.1, (s4.2.2.2.1, (s4.2.2.2.2.1, (s4.2.2.2.2.2.1, (s4.2.2.2.2.2.2.1, (s4.2.2.2.2.2.2.2.1, (s4.2.2.2.2.2.2.2.2.1, (s4.2.2.2.2.2.2.2.2.2.1, (s4.2.2.2.2.2.2.2.2.2.2.1, ()))))))))))))) else none) else none) else (r3 ((wadd .i64 s4.1 1), (s4.2.1, (s4.2.2.1, (s4.2.2.2.1, (s4.2.2.2.2.1, (s4.2.2.2.2.2.1, (s4.2.2.2.2.2.2.1, (s4.2.2.2.2.2.2.2.1, (s4.2.2.2.2.2.2.2.2.1, (s4.2.2.2.2.2.2.2.2.2.1, (s4.2.2.2.2.2.2.2.2.2.2.1, ()))))))))))))) else none) else (some [(.one (.s .int s4.2.2.2.2.1))]))) (0, ((s_MonAt_1 a0 a1).Pending, ((s_MonAt_1 a0 a1).Traps, ((s_MonAt_1 a0 a1).Own, ([], ((s_MonAt_1 a0 a1).Outer, ((s_MonAt_1 a0 a1).Out, ((s_MonAt_1 a0 a1).Dirty, ((s_MonAt_1 a0 a1).Guests, ((s_MonAt_1 a0 a1).Outs, ((s_MonAt_1 a0 a1).Tables, ())))))))))))) else none)

def tms_s_GuardedIn : FuncId → Nat → Option Tmpl := tmsOf [(39, 0, { n := 45, tm := [(5, .sl 0 []), (6, .lp 0 0), (8, .i .i64)], lo := [(0, [.sl 1 [], .sl 2 [], .sl 3 [], .sl 4 [], .sl 5 [], .i .i64, .i .i64, .sl 6 [], .i .i64])], ro := [(0, .int, true), (1, .slot, true), (2, (.sl .int), true), (3, .bool, true), (4, .guest, true), (5, .int, true), (6, .kept, true)] })]

theorem nf_s_GuardedIn (N : Nat) (a0 : Host) (a1 : Int) : evalFn (cfgQ (aget ctrD3) (aget mct0) (aget pct0)) tms_s_GuardedIn N 12 39 [.agg (hostC a0), .one (.i .i64 a1)] = E_s_GuardedIn N a0 a1 := by kernel_rfl

theorem law_s_GuardedIn (a0 : Host) (a1 : Int) (hb : AllB big [.agg (hostC a0), .one (.i .i64 a1)]) (hc : (s_GuardedIn_c a0 a1) = true) : ∃ N, E_s_GuardedIn N a0 a1 = some [.one (.s .int (s_GuardedIn a0 a1))] := by
  have hs := pc_iff.1 hc
  have ho : (s_MonAt_1 a0 a1).Outer.length ≤ big ∧ (s_MonAt_1 a0 a1).Outer.length ≤ 2147483648 := sm_big (outer_sm hs a1).len
  refine ⟨NN, ?_⟩
  have hNN : ∀ {n : Nat}, n ≤ big → n < NN := fun h => NN_lt h
  generalize NN = N at hNN ⊢
  unfold E_s_GuardedIn
  rw [show s_MonAt_c a0 a1 = true from pc_true hs, cT]
  refine (iter_list ((s_MonAt_1 a0 a1).Outer) (fun i (t : (List Int)) => ((i : Int), (s_MonAt_1 a0 a1).Pending, (s_MonAt_1 a0 a1).Traps, (s_MonAt_1 a0 a1).Own, t, (s_MonAt_1 a0 a1).Outer, (s_MonAt_1 a0 a1).Out, (s_MonAt_1 a0 a1).Dirty, (s_MonAt_1 a0 a1).Guests, (s_MonAt_1 a0 a1).Outs, (s_MonAt_1 a0 a1).Tables, ())) _ (fun i (x : Slot) (t : List Int) κ => bif guarded1 x then (bif few (ln (ap t [(i : Int)])) then κ (ap t [(i : Int)]) else none) else κ t) (fun (t : (List Int)) => (some [(.one (.s .int t))])) (fun i hi t rec => ?_) (fun t rec => ?_) _ ([]) (hNN ho.1)).trans ?_
  · simp only [ilt_ln hi, inb_ln hi, ix_ln hi, wadd_up hi ho.1, cT]
    simp only [s_Enough_c, s_Enough, guarded1, cT]
    generalize (s_MonAt_1 a0 a1).Outer[i] = s
    cases ine s.Page (-1) <;> cases enough s.Rights 2 <;> rfl
  · simp only [ilt_end, cF]
  exact goL_idxs guarded1 _ _ 0 [] (by simpa using ho.2)
theorem holds_s_GuardedIn : Holds Try.prog 39 run_s_GuardedIn := by
  refine holds_of_eval (engQ_ok ctrD3_ok mct0_ok pct0_ok) (fn_ok (by kernel_rfl)) ?_
  intro avs rs hr h
  have hb := allB_of_rep hr
  unfold run_s_GuardedIn at h
  split at h
  · rename_i a0_0 a0_1 a0_2 a0_3 a1
    obtain ⟨hc, rfl⟩ := some_pair h
    obtain ⟨N, hN⟩ := law_s_GuardedIn (⟨a0_0, a0_1, a0_2, a0_3⟩ : Host) a1 hb hc
    exact ⟨tms_s_GuardedIn, N, 12, (nf_s_GuardedIn N (⟨a0_0, a0_1, a0_2, a0_3⟩ : Host) a1).trans hN⟩
  · cases h

noncomputable def i_GuardedIn_c (h : Host) (_ : Int) : Bool := pc (SmHost h)
def i_GuardedIn (h : Host) (m : Int) : List Int := guardedIn h m
noncomputable def run_i_GuardedIn : List AV → Option (Bool × List AV)
  | [.agg [.s (.sl .int) a0_0, .s .mon a0_1, .s .entry a0_2, .s .entry a0_3], .one (.i .i64 a1)] => some ((i_GuardedIn_c (⟨a0_0, a0_1, a0_2, a0_3⟩ : Host) a1), [.one (.s .int (i_GuardedIn (⟨a0_0, a0_1, a0_2, a0_3⟩ : Host) a1))])
  | _ => none

noncomputable def E_i_GuardedIn (N : Nat) (a0 : Host) (a1 : Int) : Option Ans :=
  (bif (i_has_c a1 (ln a0.Mons)) then (bif (bif (i_has a1 (ln a0.Mons)) then false else true) then (some [(.one (.s .int []))]) else (bif (inb a1 (ln a0.Mons)) then (iter (σ := (Int × (Int × (Int × ((List Int) × ((List Mon) × Unit)))))) N (fun r3 s4 => (bif (ilt s4.2.2.1 s4.2.1) then (bif (inb s4.2.2.1 (ln (ix s4.2.2.2.2.1 s4.1 (Ty.dflt .mon)).Outer)) then (bif (ine (ix (ix s4.2.2.2.2.1 s4.1 (Ty.dflt .mon)).Outer s4.2.2.1 (Ty.dflt .slot)).Page (-1)) then (bif (i_Enough_c (ix (ix s4.2.2.2.2.1 s4.1 (Ty.dflt .mon)).Outer s4.2.2.1 (Ty.dflt .slot)).Rights 2) then (bif (bif (i_Enough (ix (ix s4.2.2.2.2.1 s4.1 (Ty.dflt .mon)).Outer s4.2.2.1 (Ty.dflt .slot)).Rights 2) then false else true) then (bif (few (ln (ap s4.2.2.2.1 [s4.2.2.1]))) then (r3 (s4.1, (s4.2.1, ((wadd .i64 s4.2.2.1 1), ((ap s4.2.2.2.1 [s4.2.2.1]), (s4.2.2.2.2.1, ())))))) else none) else (r3 (s4.1, (s4.2.1, ((wadd .i64 s4.2.2.1 1), (s4.2.2.2.1, (s4.2.2.2.2.1, ()))))))) else none) else (r3 (s4.1, (s4.2.1, ((wadd .i64 s4.2.2.1 1), (s4.2.2.2.1, (s4.2.2.2.2.1, ()))))))) else none) else (some [(.one (.s .int s4.2.2.2.1))]))) (a1, ((ln (ix a0.Mons a1 (Ty.dflt .mon)).Outer), (0, ([], (a0.Mons, ())))))) else none)) else none)

def tms_i_GuardedIn : FuncId → Nat → Option Tmpl := tmsOf [(75, 0, { n := 38, tm := [(2, .fn 78 []), (7, .sl 0 []), (22, .sl 1 [0]), (23, .i .i64), (24, .i .i64)], lo := [], ro := [(0, .int, true), (1, .mon, false)] })]

theorem nf_i_GuardedIn (N : Nat) (a0 : Host) (a1 : Int) : evalFn (cfgQ (aget ctrD3) (aget mct0) (aget pct0)) tms_i_GuardedIn N 12 40 [.agg (hostC a0), .one (.i .i64 a1)] = E_i_GuardedIn N a0 a1 := by kernel_rfl

theorem law_i_GuardedIn (a0 : Host) (a1 : Int) (hb : AllB big [.agg (hostC a0), .one (.i .i64 a1)]) (hc : (i_GuardedIn_c a0 a1) = true) : ∃ N, E_i_GuardedIn N a0 a1 = some [.one (.s .int (i_GuardedIn a0 a1))] := by
  have ho := sm_big (outer_sm (pc_iff.1 hc) a1).len
  refine ⟨NN, ?_⟩
  have hNN : ∀ {n : Nat}, n ≤ big → n < NN := fun h => NN_lt h
  generalize NN = N at hNN ⊢
  unfold E_i_GuardedIn i_GuardedIn i_has
  unfold guardedIn monOf at *
  cases hh : hasB a1 (ln a0.Mons)
  · rfl
  · rw [hh, cT] at ho
    rw [show i_has_c a1 (ln a0.Mons) = true from rfl, cT, cT, cF, inb_has hh, cT]
    refine (iter_list ((ix a0.Mons a1 (Ty.dflt .mon)).Outer) (fun i (t : (List Int)) => (a1, (ln (ix a0.Mons a1 (Ty.dflt .mon)).Outer), (i : Int), t, a0.Mons, ())) _ (fun i (x : Slot) (t : List Int) κ => bif guarded1 x then (bif few (ln (ap t [(i : Int)])) then κ (ap t [(i : Int)]) else none) else κ t) (fun (t : (List Int)) => (some [(.one (.s .int t))])) (fun i hi t rec => ?_) (fun t rec => ?_) _ ([]) (hNN ho.1)).trans ?_
    · simp only [ilt_ln hi, inb_ln hi, ix_ln hi, wadd_up hi ho.1, cT]
      simp only [inb_has hh, i_Enough_c, i_Enough, guarded1, cT]
      generalize (ix a0.Mons a1 (Ty.dflt .mon)).Outer[i] = s
      cases ine s.Page (-1) <;> cases enough s.Rights 2 <;> rfl
    · simp only [ilt_end, cF]
    exact goL_idxs guarded1 _ _ 0 [] (by simpa using ho.2)
theorem holds_i_GuardedIn : Holds Try.prog 40 run_i_GuardedIn := by
  refine holds_of_eval (engQ_ok ctrD3_ok mct0_ok pct0_ok) (fn_ok (by kernel_rfl)) ?_
  intro avs rs hr h
  have hb := allB_of_rep hr
  unfold run_i_GuardedIn at h
  split at h
  · rename_i a0_0 a0_1 a0_2 a0_3 a1
    obtain ⟨hc, rfl⟩ := some_pair h
    obtain ⟨N, hN⟩ := law_i_GuardedIn (⟨a0_0, a0_1, a0_2, a0_3⟩ : Host) a1 hb hc
    exact ⟨tms_i_GuardedIn, N, 12, (nf_i_GuardedIn N (⟨a0_0, a0_1, a0_2, a0_3⟩ : Host) a1).trans hN⟩
  · cases h


theorem goL_appN {α ρ : Type} (c : Nat → α → Bool) (f : Nat → Int) (K : List Int → Option ρ) : ∀ (l : List α) (i : Nat) (acc : List Int), (∀ i, ∀ x ∈ l, c i x = true) → acc.length + l.length ≤ 2147483648 →
    goL (fun i x acc k => bif c i x then (bif few (ln (ap acc [f i])) then k (ap acc [f i]) else none) else none) K l i acc = K (acc ++ (List.range' i l.length).map f)
  | [], i, acc, _, _ => by simp [goL]
  | x :: l, i, acc, hc, h => by
    simp only [List.length_cons] at h
    simp only [goL]
    rw [hc i x (by simp), cT, few_ln (by simp [ap]; omega), cT, goL_appN c f K l (i + 1) _ (fun j y hy => hc j y (by simp [hy])) (by simp [ap]; omega)]
    simp [ap, List.range'_succ]
def shareOf (h : Host) : List Int := (List.range' 0 h.Mons.length).map fun (i : Nat) => inUse h (i : Int)
noncomputable def s_ShareOf_c (h : Host) : Bool := pc (SmHost h)
def s_ShareOf (h : Host) : List Int := shareOf h
noncomputable def run_s_ShareOf : List AV → Option (Bool × List AV)
  | [.agg [.s (.sl .int) a0_0, .s .mon a0_1, .s .entry a0_2, .s .entry a0_3]] => some ((s_ShareOf_c (⟨a0_0, a0_1, a0_2, a0_3⟩ : Host)), [.one (.s .int (s_ShareOf (⟨a0_0, a0_1, a0_2, a0_3⟩ : Host)))])
  | _ => none

noncomputable def E_s_ShareOf (N : Nat) (a0 : Host) : Option Ans :=
  (iter (σ := (Int × ((List Int) × ((List (List Int)) × ((List Mon) × ((List Entry) × ((List Entry) × Unit))))))) N (fun r2 s3 => (bif (ilt s3.1 (ln s3.2.2.2.1)) then (bif (s_InUse_c (⟨s3.2.2.1, s3.2.2.2.1, s3.2.2.2.2.1, s3.2.2.2.2.2.1⟩ : Host) s3.1) then (bif (few (ln (ap s3.2.1 [(s_InUse (⟨s3.2.2.1, s3.2.2.2.1, s3.2.2.2.2.1, s3.2.2.2.2.2.1⟩ : Host) s3.1)]))) then (r2 ((wadd .i64 s3.1 1), ((ap s3.2.1 [(s_InUse (⟨s3.2.2.1, s3.2.2.2.1, s3.2.2.2.2.1, s3.2.2.2.2.2.1⟩ : Host) s3.1)]), (s3.2.2.1, (s3.2.2.2.1, (s3.2.2.2.2.1, (s3.2.2.2.2.2.1, ()))))))) else none) else none) else (some [(.one (.s .int s3.2.1))]))) (0, ([], (a0.Memory, (a0.Mons, (a0.Buffer, (a0.IoBuffer, ())))))))

def tms_s_ShareOf : FuncId → Nat → Option Tmpl := tmsOf [(41, 0, { n := 20, tm := [(1, .lp 0 0), (3, .sl 0 []), (4, .i .i64)], lo := [(0, [.sl 1 [], .sl 2 [], .sl 3 [], .sl 4 []])], ro := [(0, .int, true), (1, (.sl .int), false), (2, .mon, false), (3, .entry, false), (4, .entry, false)] })]

theorem nf_s_ShareOf (N : Nat) (a0 : Host) : evalFn (cfgQ (aget ctrD3) (aget mct0) (aget pct0)) tms_s_ShareOf N 12 41 [.agg (hostC a0)] = E_s_ShareOf N a0 := by kernel_rfl

theorem law_s_ShareOf (a0 : Host) (hb : AllB big [.agg (hostC a0)]) (hc : (s_ShareOf_c a0) = true) : ∃ N, E_s_ShareOf N a0 = some [.one (.s .int (s_ShareOf a0))] := by
  have hs := pc_iff.1 hc
  have hl := sm_big hs.mons.len
  refine ⟨NN, ?_⟩
  have hNN : ∀ {n : Nat}, n ≤ big → n < NN := fun h => NN_lt h
  generalize NN = N at hNN ⊢
  unfold E_s_ShareOf
  refine (iter_list a0.Mons (fun i (t : (List Int)) => ((i : Int), t, a0.Memory, a0.Mons, a0.Buffer, a0.IoBuffer, ())) _ (fun i (x : Mon) (t : List Int) κ => bif s_InUse_c a0 (i : Int) then (bif few (ln (ap t [inUse a0 (i : Int)])) then κ (ap t [inUse a0 (i : Int)]) else none) else none) (fun (t : (List Int)) => (some [(.one (.s .int t))])) (fun i hi t rec => ?_) (fun t rec => ?_) _ ([]) (hNN hl.1)).trans ?_
  · simp only [ilt_ln hi, inb_ln hi, ix_ln hi, wadd_up hi hl.1, cT]
    simp only [hE, s_InUse]
  · simp only [ilt_end, cF]
  exact goL_appN (fun i _ => s_InUse_c a0 (i : Int)) (fun i => inUse a0 (i : Int)) _ _ 0 [] (fun i x _ => pc_true hs) (by simpa using hl.2)
theorem holds_s_ShareOf : Holds Try.prog 41 run_s_ShareOf := by
  refine holds_of_eval (engQ_ok ctrD3_ok mct0_ok pct0_ok) (fn_ok (by kernel_rfl)) ?_
  intro avs rs hr h
  have hb := allB_of_rep hr
  unfold run_s_ShareOf at h
  split at h
  · rename_i a0_0 a0_1 a0_2 a0_3
    obtain ⟨hc, rfl⟩ := some_pair h
    obtain ⟨N, hN⟩ := law_s_ShareOf (⟨a0_0, a0_1, a0_2, a0_3⟩ : Host) hb hc
    exact ⟨tms_s_ShareOf, N, 12, (nf_s_ShareOf N (⟨a0_0, a0_1, a0_2, a0_3⟩ : Host)).trans hN⟩
  · cases h

noncomputable def i_ShareOf_c (h : Host) : Bool := pc (SmHost h)
def i_ShareOf (h : Host) : List Int := shareOf h
noncomputable def run_i_ShareOf : List AV → Option (Bool × List AV)
  | [.agg [.s (.sl .int) a0_0, .s .mon a0_1, .s .entry a0_2, .s .entry a0_3]] => some ((i_ShareOf_c (⟨a0_0, a0_1, a0_2, a0_3⟩ : Host)), [.one (.s .int (i_ShareOf (⟨a0_0, a0_1, a0_2, a0_3⟩ : Host)))])
  | _ => none

noncomputable def E_i_ShareOf (N : Nat) (a0 : Host) : Option Ans :=
  (iter (σ := (Int × (Int × ((List Int) × ((List (List Int)) × ((List Mon) × ((List Entry) × ((List Entry) × Unit)))))))) N (fun r2 s3 => (bif (ilt s3.2.1 s3.1) then (bif (i_InUse_c (⟨s3.2.2.2.1, s3.2.2.2.2.1, s3.2.2.2.2.2.1, s3.2.2.2.2.2.2.1⟩ : Host) s3.2.1) then (bif (few (ln (ap s3.2.2.1 [(i_InUse (⟨s3.2.2.2.1, s3.2.2.2.2.1, s3.2.2.2.2.2.1, s3.2.2.2.2.2.2.1⟩ : Host) s3.2.1)]))) then (r2 (s3.1, ((wadd .i64 s3.2.1 1), ((ap s3.2.2.1 [(i_InUse (⟨s3.2.2.2.1, s3.2.2.2.2.1, s3.2.2.2.2.2.1, s3.2.2.2.2.2.2.1⟩ : Host) s3.2.1)]), (s3.2.2.2.1, (s3.2.2.2.2.1, (s3.2.2.2.2.2.1, (s3.2.2.2.2.2.2.1, ())))))))) else none) else none) else (some [(.one (.s .int s3.2.2.1))]))) ((ln a0.Mons), (0, ([], (a0.Memory, (a0.Mons, (a0.Buffer, (a0.IoBuffer, ()))))))))

def tms_i_ShareOf : FuncId → Nat → Option Tmpl := tmsOf [(42, 0, { n := 20, tm := [(1, .lp 0 0), (3, .sl 0 []), (8, .i .i64), (9, .i .i64)], lo := [(0, [.sl 1 [], .sl 2 [], .sl 3 [], .sl 4 []])], ro := [(0, .int, true), (1, (.sl .int), false), (2, .mon, false), (3, .entry, false), (4, .entry, false)] })]

theorem nf_i_ShareOf (N : Nat) (a0 : Host) : evalFn (cfgQ (aget ctrD3) (aget mct0) (aget pct0)) tms_i_ShareOf N 12 42 [.agg (hostC a0)] = E_i_ShareOf N a0 := by kernel_rfl

theorem law_i_ShareOf (a0 : Host) (hb : AllB big [.agg (hostC a0)]) (hc : (i_ShareOf_c a0) = true) : ∃ N, E_i_ShareOf N a0 = some [.one (.s .int (i_ShareOf a0))] := by
  have hs := pc_iff.1 hc
  have hl := sm_big hs.mons.len
  refine ⟨NN, ?_⟩
  have hNN : ∀ {n : Nat}, n ≤ big → n < NN := fun h => NN_lt h
  generalize NN = N at hNN ⊢
  unfold E_i_ShareOf
  refine (iter_list a0.Mons (fun i (t : (List Int)) => ((ln a0.Mons), (i : Int), t, a0.Memory, a0.Mons, a0.Buffer, a0.IoBuffer, ())) _ (fun i (x : Mon) (t : List Int) κ => bif true then (bif few (ln (ap t [inUse a0 (i : Int)])) then κ (ap t [inUse a0 (i : Int)]) else none) else none) (fun (t : (List Int)) => (some [(.one (.s .int t))])) (fun i hi t rec => ?_) (fun t rec => ?_) _ ([]) (hNN hl.1)).trans ?_
  · simp only [ilt_ln hi, inb_ln hi, ix_ln hi, wadd_up hi hl.1, cT]
    simp only [hE, i_InUse, i_InUse_c, cT]
  · simp only [ilt_end, cF]
  exact goL_appN (fun i _ => true) (fun i => inUse a0 (i : Int)) _ _ 0 [] (fun i x _ => rfl) (by simpa using hl.2)
theorem holds_i_ShareOf : Holds Try.prog 42 run_i_ShareOf := by
  refine holds_of_eval (engQ_ok ctrD3_ok mct0_ok pct0_ok) (fn_ok (by kernel_rfl)) ?_
  intro avs rs hr h
  have hb := allB_of_rep hr
  unfold run_i_ShareOf at h
  split at h
  · rename_i a0_0 a0_1 a0_2 a0_3
    obtain ⟨hc, rfl⟩ := some_pair h
    obtain ⟨N, hN⟩ := law_i_ShareOf (⟨a0_0, a0_1, a0_2, a0_3⟩ : Host) hb hc
    exact ⟨tms_i_ShareOf, N, 12, (nf_i_ShareOf N (⟨a0_0, a0_1, a0_2, a0_3⟩ : Host)).trans hN⟩
  · cases h


/-! Pages, compared. -/

def all2 {α : Type} (eq : α → α → Bool) : List α → List α → Bool
  | [], [] => true
  | x :: l, y :: m => eq x y && all2 eq l m
  | _, _ => false
theorem all2_len {α : Type} (eq : α → α → Bool) : ∀ (l m : List α), l.length ≠ m.length → all2 eq l m = false
  | [], [], h => absurd rfl h
  | [], _ :: _, _ => rfl
  | _ :: _, [], _ => rfl
  | x :: l, y :: m, h => by simp only [all2, all2_len eq l m (by simpa using h), Bool.and_false]
theorem goL_all2 {α ρ : Type} (eq : α → α → Bool) (d : α) (b : List α) (r : Option ρ) (K : Unit → Option ρ) : ∀ (a : List α) (i : Nat), a.length + i = b.length →
    goL (fun i x (_ : Unit) k => bif eq x (ix b (i : Int) d) then k () else r) K a i () = bif all2 eq a (b.drop i) then K () else r
  | [], i, h => by
    have : b.drop i = [] := List.drop_eq_nil_of_le (by simp at h; omega)
    rw [this]; rfl
  | x :: a, i, h => by
    simp only [List.length_cons] at h
    have hi : i < b.length := by omega
    rw [List.drop_eq_getElem_cons hi]
    simp only [goL, all2, ix_ln hi]
    cases eq x b[i]
    · rfl
    · simp only [cT, Bool.true_and]
      exact goL_all2 eq d b r K a (i + 1) (by omega)
theorem ine_ne {α β : Type} {l : List α} {m : List β} (h : ine (ln l) (ln m) = true) : l.length ≠ m.length := by
  intro e
  simp only [ine, ln, e, bne_self_eq_false] at h
  cases h
theorem ine_not (x y : Int) : ine x y = !ieq x y := rfl

def eqI (a b : List Int) : Bool := all2 ieq a b
def s_l04Ints_c (_ _ : List Int) : Bool := true
def s_l04Ints (a b : List Int) : Bool := eqI a b
noncomputable def run_s_l04Ints : List AV → Option (Bool × List AV)
  | [.one (.s .int a0), .one (.s .int a1)] => some ((s_l04Ints_c a0 a1), [.one (.b (s_l04Ints a0 a1))])
  | _ => none

noncomputable def E_s_l04Ints (N : Nat) (a0 : List Int) (a1 : List Int) : Option Ans :=
  (bif (ine (ln a0) (ln a1)) then (some [(.one (.b false))]) else (iter (σ := (Int × ((List Int) × ((List Int) × Unit)))) N (fun r3 s4 => (bif (ilt s4.1 (ln s4.2.1)) then (bif (inb s4.1 (ln s4.2.1)) then (bif (inb s4.1 (ln s4.2.2.1)) then (bif (ine (ix s4.2.1 s4.1 0) (ix s4.2.2.1 s4.1 0)) then (some [(.one (.b false))]) else (r3 ((wadd .i64 s4.1 1), (s4.2.1, (s4.2.2.1, ()))))) else none) else none) else (some [(.one (.b true))]))) (0, (a0, (a1, ())))))

def tms_s_l04Ints : FuncId → Nat → Option Tmpl := tmsOf [(82, 0, { n := 26, tm := [(0, .sl 0 []), (1, .sl 1 []), (5, .i .i64)], lo := [], ro := [(0, .int, false), (1, .int, false)] })]

theorem nf_s_l04Ints (N : Nat) (a0 : List Int) (a1 : List Int) : evalFn (cfgQ (aget ctrD3) (aget mct0) (aget pct0)) tms_s_l04Ints N 12 82 [.one (.s .int a0), .one (.s .int a1)] = E_s_l04Ints N a0 a1 := by kernel_rfl

theorem law_s_l04Ints (a0 : List Int) (a1 : List Int) (hb : AllB big [.one (.s .int a0), .one (.s .int a1)]) (hc : (s_l04Ints_c a0 a1) = true) : ∃ N, E_s_l04Ints N a0 a1 = some [.one (.b (s_l04Ints a0 a1))] := by
  have hl := ((allB_cons hb).1 _ (List.mem_singleton.2 rfl)).len
  refine ⟨NN, ?_⟩
  have hNN : ∀ {n : Nat}, n ≤ big → n < NN := fun h => NN_lt h
  generalize NN = N at hNN ⊢
  unfold E_s_l04Ints s_l04Ints eqI
  cases h1 : ine (ln a0) (ln a1)
  · have e := ine_len h1
    rw [cF]
    refine (iter_list a0 (fun i (t : Unit) => ((i : Int), a0, a1, ())) _ (fun i (x : Int) (_ : Unit) κ => bif ieq x (ix a1 (i : Int) 0) then κ () else some [AV.one (.b false)]) (fun (t : Unit) => (some [(.one (.b true))])) (fun i hi t rec => ?_) (fun t rec => ?_) _ () (hNN hl)).trans ?_
    · simp only [ilt_ln hi, inb_ln hi, ix_ln hi, wadd_up hi hl, cT]
      simp only [inb_ln (l := a1) (i := i) (e ▸ hi), cT, ine_not]
      cases ieq a0[i] (ix a1 (↑i) 0) <;> rfl
    · simp only [ilt_end, cF]
    rw [goL_all2 ieq 0 a1 _ _ a0 0 (by simpa using e), List.drop_zero]
    cases all2 ieq a0 a1 <;> rfl
  · rw [all2_len _ _ _ (ine_ne h1)]; rfl
theorem holds_s_l04Ints : Holds Try.prog 82 run_s_l04Ints := by
  refine holds_of_eval (engQ_ok ctrD3_ok mct0_ok pct0_ok) (fn_ok (by kernel_rfl)) ?_
  intro avs rs hr h
  have hb := allB_of_rep hr
  unfold run_s_l04Ints at h
  split at h
  · rename_i a0 a1
    obtain ⟨hc, rfl⟩ := some_pair h
    obtain ⟨N, hN⟩ := law_s_l04Ints a0 a1 hb hc
    exact ⟨tms_s_l04Ints, N, 12, (nf_s_l04Ints N a0 a1).trans hN⟩
  · cases h

def x_slices_Equal___int_int__c (_ _ : List Int) : Bool := true
def x_slices_Equal___int_int_ (a b : List Int) : Bool := eqI a b
noncomputable def run_x_slices_Equal___int_int_ : List AV → Option (Bool × List AV)
  | [.one (.s .int a0), .one (.s .int a1)] => some ((x_slices_Equal___int_int__c a0 a1), [.one (.b (x_slices_Equal___int_int_ a0 a1))])
  | _ => none

noncomputable def E_x_slices_Equal___int_int_ (N : Nat) (a0 : List Int) (a1 : List Int) : Option Ans :=
  (bif (ine (ln a0) (ln a1)) then (some [(.one (.b false))]) else (iter (σ := (Int × (Int × ((List Int) × ((List Int) × Unit))))) N (fun r3 s4 => (bif (ilt s4.2.1 s4.1) then (bif (inb s4.2.1 (ln s4.2.2.1)) then (bif (inb s4.2.1 (ln s4.2.2.2.1)) then (bif (ine (ix s4.2.2.1 s4.2.1 0) (ix s4.2.2.2.1 s4.2.1 0)) then (some [(.one (.b false))]) else (r3 (s4.1, ((wadd .i64 s4.2.1 1), (s4.2.2.1, (s4.2.2.2.1, ())))))) else none) else none) else (some [(.one (.b true))]))) ((ln a0), (0, (a0, (a1, ()))))))

def tms_x_slices_Equal___int_int_ : FuncId → Nat → Option Tmpl := tmsOf [(84, 0, { n := 26, tm := [(0, .sl 0 []), (1, .sl 1 []), (12, .i .i64), (13, .i .i64)], lo := [], ro := [(0, .int, false), (1, .int, false)] })]

theorem nf_x_slices_Equal___int_int_ (N : Nat) (a0 : List Int) (a1 : List Int) : evalFn (cfgQ (aget ctrD3) (aget mct0) (aget pct0)) tms_x_slices_Equal___int_int_ N 12 84 [.one (.s .int a0), .one (.s .int a1)] = E_x_slices_Equal___int_int_ N a0 a1 := by kernel_rfl

theorem law_x_slices_Equal___int_int_ (a0 : List Int) (a1 : List Int) (hb : AllB big [.one (.s .int a0), .one (.s .int a1)]) (hc : (x_slices_Equal___int_int__c a0 a1) = true) : ∃ N, E_x_slices_Equal___int_int_ N a0 a1 = some [.one (.b (x_slices_Equal___int_int_ a0 a1))] := by
  have hl := ((allB_cons hb).1 _ (List.mem_singleton.2 rfl)).len
  refine ⟨NN, ?_⟩
  have hNN : ∀ {n : Nat}, n ≤ big → n < NN := fun h => NN_lt h
  generalize NN = N at hNN ⊢
  unfold E_x_slices_Equal___int_int_ x_slices_Equal___int_int_ eqI
  cases h1 : ine (ln a0) (ln a1)
  · have e := ine_len h1
    rw [cF]
    refine (iter_list a0 (fun i (t : Unit) => ((ln a0), (i : Int), a0, a1, ())) _ (fun i (x : Int) (_ : Unit) κ => bif ieq x (ix a1 (i : Int) 0) then κ () else some [AV.one (.b false)]) (fun (t : Unit) => (some [(.one (.b true))])) (fun i hi t rec => ?_) (fun t rec => ?_) _ () (hNN hl)).trans ?_
    · simp only [ilt_ln hi, inb_ln hi, ix_ln hi, wadd_up hi hl, cT]
      simp only [inb_ln (l := a1) (i := i) (e ▸ hi), cT, ine_not]
      cases ieq a0[i] (ix a1 (↑i) 0) <;> rfl
    · simp only [ilt_end, cF]
    rw [goL_all2 ieq 0 a1 _ _ a0 0 (by simpa using e), List.drop_zero]
    cases all2 ieq a0 a1 <;> rfl
  · rw [all2_len _ _ _ (ine_ne h1)]; rfl
theorem holds_x_slices_Equal___int_int_ : Holds Try.prog 84 run_x_slices_Equal___int_int_ := by
  refine holds_of_eval (engQ_ok ctrD3_ok mct0_ok pct0_ok) (fn_ok (by kernel_rfl)) ?_
  intro avs rs hr h
  have hb := allB_of_rep hr
  unfold run_x_slices_Equal___int_int_ at h
  split at h
  · rename_i a0 a1
    obtain ⟨hc, rfl⟩ := some_pair h
    obtain ⟨N, hN⟩ := law_x_slices_Equal___int_int_ a0 a1 hb hc
    exact ⟨tms_x_slices_Equal___int_int_, N, 12, (nf_x_slices_Equal___int_int_ N a0 a1).trans hN⟩
  · cases h

noncomputable def i_copyInts_c (l : List Int) : Bool := pc (l.length ≤ 2147483648)
def i_copyInts (l : List Int) : List Int := l
noncomputable def run_i_copyInts : List AV → Option (Bool × List AV)
  | [.one (.s .int a0)] => some ((i_copyInts_c a0), [.one (.s .int (i_copyInts a0))])
  | _ => none

noncomputable def E_i_copyInts (N : Nat) (a0 : List Int) : Option Ans :=
  (bif (few (ln (ap [] a0))) then (some [(.one (.s .int (ap [] a0)))]) else none)

theorem nf_i_copyInts (N : Nat) (a0 : List Int) : evalFn (cfgQ (aget ctrD3) (aget mct0) (aget pct0)) (tmsOf []) N 12 125 [.one (.s .int a0)] = E_i_copyInts N a0 := by kernel_rfl

theorem law_i_copyInts (a0 : List Int) (hb : AllB big [.one (.s .int a0)]) (hc : (i_copyInts_c a0) = true) : ∃ N, E_i_copyInts N a0 = some [.one (.s .int (i_copyInts a0))] := by
  refine ⟨0, ?_⟩
  unfold E_i_copyInts
  rw [ap_nil, few_ln (pc_iff.1 hc), cT]
  rfl
theorem holds_i_copyInts : Holds Try.prog 125 run_i_copyInts := by
  refine holds_of_eval (engQ_ok ctrD3_ok mct0_ok pct0_ok) (fn_ok (by kernel_rfl)) ?_
  intro avs rs hr h
  have hb := allB_of_rep hr
  unfold run_i_copyInts at h
  split at h
  · rename_i a0
    obtain ⟨hc, rfl⟩ := some_pair h
    obtain ⟨N, hN⟩ := law_i_copyInts a0 hb hc
    exact ⟨tmsOf [], N, 12, (nf_i_copyInts N a0).trans hN⟩
  · cases h

noncomputable def ctrD4 : Ctrs := [(14, run_s_IsDirty), (17, run_i_IsDirty), (37, run_s_OutOf), (38, run_i_OutOf), (39, run_s_GuardedIn), (40, run_i_GuardedIn), (41, run_s_ShareOf), (42, run_i_ShareOf), (82, run_s_l04Ints), (84, run_x_slices_Equal___int_int_), (125, run_i_copyInts)] ++ ctrD3

theorem ctrD4_ok : ∀ f run, aget ctrD4 f = some run → Holds Try.prog f run := ctr_more ctrD3_ok (by
  intro x hx
  simp only [List.mem_cons, List.not_mem_nil, or_false] at hx
  rcases hx with rfl | rfl | rfl | rfl | rfl | rfl | rfl | rfl | rfl | rfl | rfl
  · exact holds_s_IsDirty
  · exact holds_i_IsDirty
  · exact holds_s_OutOf
  · exact holds_i_OutOf
  · exact holds_s_GuardedIn
  · exact holds_i_GuardedIn
  · exact holds_s_ShareOf
  · exact holds_i_ShareOf
  · exact holds_s_l04Ints
  · exact holds_x_slices_Equal___int_int_
  · exact holds_i_copyInts)


def zero4 : List Int := rp 4 0
theorem few4 : (bif few 4 then ieq 4 4 else false) = true := rfl
def pageAt (m : List (List Int)) (p : Int) : List Int := bif hasB p (ln m) then ix m p [] else zero4
noncomputable def s_PageAt_c (m : List (List Int)) (_ : Int) : Bool := pc (CVB sm (.s (.sl .int) m))
def s_PageAt (m : List (List Int)) (p : Int) : List Int := pageAt m p
theorem row_sm {m : List (List Int)} {p : Int} (hs : CVB sm (.s (.sl .int) m)) (hh : hasB p (ln m) = true) : (ix m p []).length ≤ 2147483648 :=
  (sm_big (hs.inv.2 _ (ix_mem hh ([] : List Int)) (.s .int _) (List.mem_singleton.2 rfl)).len).2
noncomputable def run_s_PageAt : List AV → Option (Bool × List AV)
  | [.one (.s (.sl .int) a0), .one (.i .i64 a1)] => some ((s_PageAt_c a0 a1), [.one (.s .int (s_PageAt a0 a1))])
  | _ => none

noncomputable def E_s_PageAt (N : Nat) (a0 : List (List Int)) (a1 : Int) : Option Ans :=
  (bif (s_l01In_c a1 0 (wsub .i64 (ln a0) 1)) then (bif (bif (s_l01In a1 0 (wsub .i64 (ln a0) 1)) then false else true) then (bif (bif (few 4) then (ieq 4 4) else false) then (some [(.one (.s .int (rp 4 0)))]) else none) else (bif (inb a1 (ln a0)) then (bif (few (ln (ap [] (ix a0 a1 [])))) then (some [(.one (.s .int (ap [] (ix a0 a1 []))))]) else none) else none)) else none)

theorem nf_s_PageAt (N : Nat) (a0 : List (List Int)) (a1 : Int) : evalFn (cfgQ (aget ctrD4) (aget mct0) (aget pct0)) (tmsOf []) N 12 106 [.one (.s (.sl .int) a0), .one (.i .i64 a1)] = E_s_PageAt N a0 a1 := by kernel_rfl

theorem law_s_PageAt (a0 : List (List Int)) (a1 : Int) (hb : AllB big [.one (.s (.sl .int) a0), .one (.i .i64 a1)]) (hc : (s_PageAt_c a0 a1) = true) : ∃ N, E_s_PageAt N a0 a1 = some [.one (.s .int (s_PageAt a0 a1))] := by
  have hs := pc_iff.1 hc
  refine ⟨0, ?_⟩
  unfold E_s_PageAt s_PageAt pageAt
  have e : s_l01In a1 0 (wsub .i64 (ln a0) 1) = hasB a1 (ln a0) := l01In_len' (sm_big hs.len).1 a1
  rw [e]
  cases hh : hasB a1 (ln a0)
  · rfl
  · simp only [s_l01In_c, cT, cF, inb_has hh, ap_nil, few_ln (row_sm hs hh)]
theorem holds_s_PageAt : Holds Try.prog 106 run_s_PageAt := by
  refine holds_of_eval (engQ_ok ctrD4_ok mct0_ok pct0_ok) (fn_ok (by kernel_rfl)) ?_
  intro avs rs hr h
  have hb := allB_of_rep hr
  unfold run_s_PageAt at h
  split at h
  · rename_i a0 a1
    obtain ⟨hc, rfl⟩ := some_pair h
    obtain ⟨N, hN⟩ := law_s_PageAt a0 a1 hb hc
    exact ⟨tmsOf [], N, 12, (nf_s_PageAt N a0 a1).trans hN⟩
  · cases h

noncomputable def i_PageAt_c (m : List (List Int)) (_ : Int) : Bool := pc (CVB sm (.s (.sl .int) m))
def i_PageAt (m : List (List Int)) (p : Int) : List Int := pageAt m p
noncomputable def run_i_PageAt : List AV → Option (Bool × List AV)
  | [.one (.s (.sl .int) a0), .one (.i .i64 a1)] => some ((i_PageAt_c a0 a1), [.one (.s .int (i_PageAt a0 a1))])
  | _ => none

noncomputable def E_i_PageAt (N : Nat) (a0 : List (List Int)) (a1 : Int) : Option Ans :=
  (bif (i_has_c a1 (ln a0)) then (bif (bif (i_has a1 (ln a0)) then false else true) then (bif (bif (few 4) then (ieq 4 4) else false) then (some [(.one (.s .int (rp 4 0)))]) else none) else (bif (inb a1 (ln a0)) then (bif (i_copyInts_c (ix a0 a1 [])) then (some [(.one (.s .int (i_copyInts (ix a0 a1 []))))]) else none) else none)) else none)

theorem nf_i_PageAt (N : Nat) (a0 : List (List Int)) (a1 : Int) : evalFn (cfgQ (aget ctrD4) (aget mct0) (aget pct0)) (tmsOf []) N 12 107 [.one (.s (.sl .int) a0), .one (.i .i64 a1)] = E_i_PageAt N a0 a1 := by kernel_rfl

theorem law_i_PageAt (a0 : List (List Int)) (a1 : Int) (hb : AllB big [.one (.s (.sl .int) a0), .one (.i .i64 a1)]) (hc : (i_PageAt_c a0 a1) = true) : ∃ N, E_i_PageAt N a0 a1 = some [.one (.s .int (i_PageAt a0 a1))] := by
  have hs := pc_iff.1 hc
  refine ⟨0, ?_⟩
  unfold E_i_PageAt i_PageAt pageAt i_has
  cases hh : hasB a1 (ln a0)
  · rfl
  · simp only [i_has_c, cT, cF, inb_has hh, show i_copyInts_c (ix a0 a1 []) = true from pc_true (row_sm hs hh), i_copyInts]
theorem holds_i_PageAt : Holds Try.prog 107 run_i_PageAt := by
  refine holds_of_eval (engQ_ok ctrD4_ok mct0_ok pct0_ok) (fn_ok (by kernel_rfl)) ?_
  intro avs rs hr h
  have hb := allB_of_rep hr
  unfold run_i_PageAt at h
  split at h
  · rename_i a0 a1
    obtain ⟨hc, rfl⟩ := some_pair h
    obtain ⟨N, hN⟩ := law_i_PageAt a0 a1 hb hc
    exact ⟨tmsOf [], N, 12, (nf_i_PageAt N a0 a1).trans hN⟩
  · cases h

noncomputable def ctrD5 : Ctrs := [(106, run_s_PageAt), (107, run_i_PageAt)] ++ ctrD4

theorem ctrD5_ok : ∀ f run, aget ctrD5 f = some run → Holds Try.prog f run := ctr_more ctrD4_ok (by
  intro x hx
  simp only [List.mem_cons, List.not_mem_nil, or_false] at hx
  rcases hx with rfl | rfl
  · exact holds_s_PageAt
  · exact holds_i_PageAt)


def pageOf (h : Host) (m p : Int) : List Int :=
  bif hasB m (ln h.Mons) then (bif hasB p 8 then (bif ine (slotAt (ix h.Mons m (Ty.dflt .mon)).Outer p).Page (-1) then pageAt h.Memory (slotAt (ix h.Mons m (Ty.dflt .mon)).Outer p).Page else pageAt (ix h.Mons m (Ty.dflt .mon)).Out p) else zero4) else zero4
theorem has8 (p : Int) : s_l01In p 0 7 = hasB p 8 := by
  unfold s_l01In ige ile hasB
  by_cases h1 : 0 ≤ p <;> by_cases h2 : p < 8
  · rw [decide_eq_true (p := p ≥ 0) (by omega), decide_eq_true (p := p ≤ 7) (by omega), decide_eq_true (p := 0 ≤ p ∧ p < 8) ⟨h1, h2⟩]; rfl
  · rw [decide_eq_false (p := p ≤ 7) (by omega), decide_eq_false (p := 0 ≤ p ∧ p < 8) (by omega)]; simp
  · rw [decide_eq_false (p := p ≥ 0) (by omega), decide_eq_false (p := 0 ≤ p ∧ p < 8) (by omega)]; simp
  · rw [decide_eq_false (p := p ≥ 0) (by omega), decide_eq_false (p := 0 ≤ p ∧ p < 8) (by omega)]; simp
noncomputable def s_PageOf_c (h : Host) (_ _ : Int) : Bool := pc (SmHost h)
def s_PageOf (h : Host) (m p : Int) : List Int := pageOf h m p
noncomputable def run_s_PageOf : List AV → Option (Bool × List AV)
  | [.agg [.s (.sl .int) a0_0, .s .mon a0_1, .s .entry a0_2, .s .entry a0_3], .one (.i .i64 a1), .one (.i .i64 a2)] => some ((s_PageOf_c (⟨a0_0, a0_1, a0_2, a0_3⟩ : Host) a1 a2), [.one (.s .int (s_PageOf (⟨a0_0, a0_1, a0_2, a0_3⟩ : Host) a1 a2))])
  | _ => none

noncomputable def E_s_PageOf (N : Nat) (a0 : Host) (a1 : Int) (a2 : Int) : Option Ans :=
  (bif (s_l01In_c a1 0 (wsub .i64 (ln a0.Mons) 1)) then (bif (bif (s_l01In a1 0 (wsub .i64 (ln a0.Mons) 1)) then false else true) then (bif (bif (few 4) then (ieq 4 4) else false) then (some [(.one (.s .int (rp 4 0)))]) else none) else (bif (s_l01In_c a2 0 7) then (bif (bif (s_l01In a2 0 7) then false else true) then (bif (bif (few 4) then (ieq 4 4) else false) then (some [(.one (.s .int (rp 4 0)))]) else none) else (bif (inb a1 (ln a0.Mons)) then (bif (s_SlotAt_c (ix a0.Mons a1 (Ty.dflt .mon)).Outer a2) then (bif (ine (s_SlotAt (ix a0.Mons a1 (Ty.dflt .mon)).Outer a2).Page (-1)) then (bif (s_PageAt_c a0.Memory (s_SlotAt (ix a0.Mons a1 (Ty.dflt .mon)).Outer a2).Page) then (some [(.one (.s .int (s_PageAt a0.Memory (s_SlotAt (ix a0.Mons a1 (Ty.dflt .mon)).Outer a2).Page)))]) else none) else (bif (s_PageAt_c (ix a0.Mons a1 (Ty.dflt .mon)).Out a2) then (some [(.one (.s .int (s_PageAt (ix a0.Mons a1 (Ty.dflt .mon)).Out a2)))]) else none)) else none) else none)) else none)) else none)

theorem nf_s_PageOf (N : Nat) (a0 : Host) (a1 : Int) (a2 : Int) : evalFn (cfgQ (aget ctrD5) (aget mct0) (aget pct0)) (tmsOf []) N 12 83 [.agg (hostC a0), .one (.i .i64 a1), .one (.i .i64 a2)] = E_s_PageOf N a0 a1 a2 := by kernel_rfl

theorem law_s_PageOf (a0 : Host) (a1 : Int) (a2 : Int) (hb : AllB big [.agg (hostC a0), .one (.i .i64 a1), .one (.i .i64 a2)]) (hc : (s_PageOf_c a0 a1 a2) = true) : ∃ N, E_s_PageOf N a0 a1 a2 = some [.one (.s .int (s_PageOf a0 a1 a2))] := by
  have hs := pc_iff.1 hc
  refine ⟨0, ?_⟩
  unfold E_s_PageOf s_PageOf pageOf
  have e : s_l01In a1 0 (wsub .i64 (ln a0.Mons) 1) = hasB a1 (ln a0.Mons) := l01In_len' (sm_big hs.mons.len).1 a1
  rw [e, has8]
  cases hh : hasB a1 (ln a0.Mons)
  · rfl
  · cases h8 : hasB a2 8
    · rfl
    · have ho : CVB sm (.s (.sl .int) (ix a0.Mons a1 (Ty.dflt .mon)).Out) := hs.mons.inv.2 _ (ix_mem hh (Ty.dflt .mon)) (.s (.sl .int) _) (by simp [Ty.cells])
      simp only [s_l01In_c, cT, cF, inb_has hh, s_SlotAt_c, s_SlotAt, show ∀ p, s_PageAt_c a0.Memory p = true from fun p => pc_true hs.mem, show ∀ p, s_PageAt_c (ix a0.Mons a1 (Ty.dflt .mon)).Out p = true from fun p => pc_true ho, s_PageAt]
      cases ine (slotAt (ix a0.Mons a1 (Ty.dflt .mon)).Outer a2).Page (-1) <;> rfl
theorem holds_s_PageOf : Holds Try.prog 83 run_s_PageOf := by
  refine holds_of_eval (engQ_ok ctrD5_ok mct0_ok pct0_ok) (fn_ok (by kernel_rfl)) ?_
  intro avs rs hr h
  have hb := allB_of_rep hr
  unfold run_s_PageOf at h
  split at h
  · rename_i a0_0 a0_1 a0_2 a0_3 a1 a2
    obtain ⟨hc, rfl⟩ := some_pair h
    obtain ⟨N, hN⟩ := law_s_PageOf (⟨a0_0, a0_1, a0_2, a0_3⟩ : Host) a1 a2 hb hc
    exact ⟨tmsOf [], N, 12, (nf_s_PageOf N (⟨a0_0, a0_1, a0_2, a0_3⟩ : Host) a1 a2).trans hN⟩
  · cases h

noncomputable def i_PageOf_c (h : Host) (_ _ : Int) : Bool := pc (SmHost h)
def i_PageOf (h : Host) (m p : Int) : List Int := pageOf h m p
noncomputable def run_i_PageOf : List AV → Option (Bool × List AV)
  | [.agg [.s (.sl .int) a0_0, .s .mon a0_1, .s .entry a0_2, .s .entry a0_3], .one (.i .i64 a1), .one (.i .i64 a2)] => some ((i_PageOf_c (⟨a0_0, a0_1, a0_2, a0_3⟩ : Host) a1 a2), [.one (.s .int (i_PageOf (⟨a0_0, a0_1, a0_2, a0_3⟩ : Host) a1 a2))])
  | _ => none

noncomputable def E_i_PageOf (N : Nat) (a0 : Host) (a1 : Int) (a2 : Int) : Option Ans :=
  (bif (i_has_c a1 (ln a0.Mons)) then (bif (bif (i_has a1 (ln a0.Mons)) then false else true) then (bif (bif (few 4) then (ieq 4 4) else false) then (some [(.one (.s .int (rp 4 0)))]) else none) else (bif (i_has_c a2 8) then (bif (bif (i_has a2 8) then false else true) then (bif (bif (few 4) then (ieq 4 4) else false) then (some [(.one (.s .int (rp 4 0)))]) else none) else (bif (inb a1 (ln a0.Mons)) then (bif (i_SlotAt_c (ix a0.Mons a1 (Ty.dflt .mon)).Outer a2) then (bif (ine (i_SlotAt (ix a0.Mons a1 (Ty.dflt .mon)).Outer a2).Page (-1)) then (bif (i_PageAt_c a0.Memory (i_SlotAt (ix a0.Mons a1 (Ty.dflt .mon)).Outer a2).Page) then (some [(.one (.s .int (i_PageAt a0.Memory (i_SlotAt (ix a0.Mons a1 (Ty.dflt .mon)).Outer a2).Page)))]) else none) else (bif (i_PageAt_c (ix a0.Mons a1 (Ty.dflt .mon)).Out a2) then (some [(.one (.s .int (i_PageAt (ix a0.Mons a1 (Ty.dflt .mon)).Out a2)))]) else none)) else none) else none)) else none)) else none)

theorem nf_i_PageOf (N : Nat) (a0 : Host) (a1 : Int) (a2 : Int) : evalFn (cfgQ (aget ctrD5) (aget mct0) (aget pct0)) (tmsOf []) N 12 85 [.agg (hostC a0), .one (.i .i64 a1), .one (.i .i64 a2)] = E_i_PageOf N a0 a1 a2 := by kernel_rfl

theorem law_i_PageOf (a0 : Host) (a1 : Int) (a2 : Int) (hb : AllB big [.agg (hostC a0), .one (.i .i64 a1), .one (.i .i64 a2)]) (hc : (i_PageOf_c a0 a1 a2) = true) : ∃ N, E_i_PageOf N a0 a1 a2 = some [.one (.s .int (i_PageOf a0 a1 a2))] := by
  have hs := pc_iff.1 hc
  refine ⟨0, ?_⟩
  unfold E_i_PageOf i_PageOf pageOf i_has
  cases hh : hasB a1 (ln a0.Mons)
  · rfl
  · cases h8 : hasB a2 8
    · rfl
    · have ho : CVB sm (.s (.sl .int) (ix a0.Mons a1 (Ty.dflt .mon)).Out) := hs.mons.inv.2 _ (ix_mem hh (Ty.dflt .mon)) (.s (.sl .int) _) (by simp [Ty.cells])
      simp only [i_has_c, cT, cF, inb_has hh, i_SlotAt_c, i_SlotAt, show ∀ p, i_PageAt_c a0.Memory p = true from fun p => pc_true hs.mem, show ∀ p, i_PageAt_c (ix a0.Mons a1 (Ty.dflt .mon)).Out p = true from fun p => pc_true ho, i_PageAt]
      cases ine (slotAt (ix a0.Mons a1 (Ty.dflt .mon)).Outer a2).Page (-1) <;> rfl
theorem holds_i_PageOf : Holds Try.prog 85 run_i_PageOf := by
  refine holds_of_eval (engQ_ok ctrD5_ok mct0_ok pct0_ok) (fn_ok (by kernel_rfl)) ?_
  intro avs rs hr h
  have hb := allB_of_rep hr
  unfold run_i_PageOf at h
  split at h
  · rename_i a0_0 a0_1 a0_2 a0_3 a1 a2
    obtain ⟨hc, rfl⟩ := some_pair h
    obtain ⟨N, hN⟩ := law_i_PageOf (⟨a0_0, a0_1, a0_2, a0_3⟩ : Host) a1 a2 hb hc
    exact ⟨tmsOf [], N, 12, (nf_i_PageOf N (⟨a0_0, a0_1, a0_2, a0_3⟩ : Host) a1 a2).trans hN⟩
  · cases h

noncomputable def ctrD6 : Ctrs := [(83, run_s_PageOf), (85, run_i_PageOf)] ++ ctrD5

theorem ctrD6_ok : ∀ f run, aget ctrD6 f = some run → Holds Try.prog f run := ctr_more ctrD5_ok (by
  intro x hx
  simp only [List.mem_cons, List.not_mem_nil, or_false] at hx
  rcases hx with rfl | rfl
  · exact holds_s_PageOf
  · exact holds_i_PageOf)


def differ1 (a b : Host) (m : Int) (i : Nat) : Bool := !eqI (pageOf a m (i : Int)) (pageOf b m (i : Int))
def differ (a b : Host) (m : Int) : List Int := idxN (differ1 a b m) 8 0
noncomputable def s_Differ_c (a b : Host) (_ : Int) : Bool := pc (SmHost a ∧ SmHost b)
def s_Differ (a b : Host) (m : Int) : List Int := differ a b m
noncomputable def run_s_Differ : List AV → Option (Bool × List AV)
  | [.agg [.s (.sl .int) a0_0, .s .mon a0_1, .s .entry a0_2, .s .entry a0_3], .agg [.s (.sl .int) a1_0, .s .mon a1_1, .s .entry a1_2, .s .entry a1_3], .one (.i .i64 a2)] => some ((s_Differ_c (⟨a0_0, a0_1, a0_2, a0_3⟩ : Host) (⟨a1_0, a1_1, a1_2, a1_3⟩ : Host) a2), [.one (.s .int (s_Differ (⟨a0_0, a0_1, a0_2, a0_3⟩ : Host) (⟨a1_0, a1_1, a1_2, a1_3⟩ : Host) a2))])
  | _ => none

noncomputable def E_s_Differ (N : Nat) (a0 : Host) (a1 : Host) (a2 : Int) : Option Ans :=
  (iter (σ := (Int × (Int × ((List Int) × ((List (List Int)) × ((List Mon) × ((List Entry) × ((List Entry) × ((List (List Int)) × ((List Mon) × ((List Entry) × ((List Entry) × Unit)))))))))))) N (fun r4 s5 => (bif (ilt s5.2.1 8) then (bif (s_PageOf_c (⟨s5.2.2.2.1, s5.2.2.2.2.1, s5.2.2.2.2.2.1, s5.2.2.2.2.2.2.1⟩ : Host) s5.1 s5.2.1) then (bif (s_PageOf_c (⟨s5.2.2.2.2.2.2.2.1, s5.2.2.2.2.2.2.2.2.1, s5.2.2.2.2.2.2.2.2.2.1, s5.2.2.2.2.2.2.2.2.2.2.1⟩ : Host) s5.1 s5.2.1) then (bif (s_l04Ints_c (s_PageOf (⟨s5.2.2.2.1, s5.2.2.2.2.1, s5.2.2.2.2.2.1, s5.2.2.2.2.2.2.1⟩ : Host) s5.1 s5.2.1) (s_PageOf (⟨s5.2.2.2.2.2.2.2.1, s5.2.2.2.2.2.2.2.2.1, s5.2.2.2.2.2.2.2.2.2.1, s5.2.2.2.2.2.2.2.2.2.2.1⟩ : Host) s5.1 s5.2.1)) then (bif (bif (s_l04Ints (s_PageOf (⟨s5.2.2.2.1, s5.2.2.2.2.1, s5.2.2.2.2.2.1, s5.2.2.2.2.2.2.1⟩ : Host) s5.1 s5.2.1) (s_PageOf (⟨s5.2.2.2.2.2.2.2.1, s5.2.2.2.2.2.2.2.2.1, s5.2.2.2.2.2.2.2.2.2.1, s5.2.2.2.2.2.2.2.2.2.2.1⟩ : Host) s5.1 s5.2.1)) then false else true) then (bif (few (ln (ap s5.2.2.1 [s5.2.1]))) then (r4 (s5.1, ((wadd .i64 s5.2.1 1), ((ap s5.2.2.1 [s5.2.1]), (s5.2.2.2.1, (s5.2.2.2.2.1, (s5.2.2.2.2.2.1, (s5.2.2.2.2.2.2.1, (s5.2.2.2.2.2.2.2.1, (s5.2.2.2.2.2.2.2.2.1, (s5.2.2.2.2.2.2.2.2.2.1, (s5.2.2.2.2.2.2.2.2.2.2.1, ())))))))))))) else none) else (r4 (s5.1, ((wadd .i64 s5.2.1 1), (s5.2.2.1, (s5.2.2.2.1, (s5.2.2.2.2.1, (s5.2.2.2.2.2.1, (s5.2.2.2.2.2.2.1, (s5.2.2.2.2.2.2.2.1, (s5.2.2.2.2.2.2.2.2.1, (s5.2.2.2.2.2.2.2.2.2.1, (s5.2.2.2.2.2.2.2.2.2.2.1, ()))))))))))))) else none) else none) else none) else (some [(.one (.s .int s5.2.2.1))]))) (a2, (0, ([], (a0.Memory, (a0.Mons, (a0.Buffer, (a0.IoBuffer, (a1.Memory, (a1.Mons, (a1.Buffer, (a1.IoBuffer, ()))))))))))))

def tms_s_Differ : FuncId → Nat → Option Tmpl := tmsOf [(43, 0, { n := 29, tm := [(2, .i .i64), (3, .lp 0 0), (4, .lp 1 0), (7, .sl 0 []), (8, .i .i64)], lo := [(0, [.sl 1 [], .sl 2 [], .sl 3 [], .sl 4 []]), (1, [.sl 5 [], .sl 6 [], .sl 7 [], .sl 8 []])], ro := [(0, .int, true), (1, (.sl .int), false), (2, .mon, false), (3, .entry, false), (4, .entry, false), (5, (.sl .int), false), (6, .mon, false), (7, .entry, false), (8, .entry, false)] })]

theorem nf_s_Differ (N : Nat) (a0 : Host) (a1 : Host) (a2 : Int) : evalFn (cfgQ (aget ctrD6) (aget mct0) (aget pct0)) tms_s_Differ N 12 43 [.agg (hostC a0), .agg (hostC a1), .one (.i .i64 a2)] = E_s_Differ N a0 a1 a2 := by kernel_rfl

theorem law_s_Differ (a0 : Host) (a1 : Host) (a2 : Int) (hb : AllB big [.agg (hostC a0), .agg (hostC a1), .one (.i .i64 a2)]) (hc : (s_Differ_c a0 a1 a2) = true) : ∃ N, E_s_Differ N a0 a1 a2 = some [.one (.s .int (s_Differ a0 a1 a2))] := by
  obtain ⟨hs, hs2⟩ := pc_iff.1 hc
  refine ⟨NN, ?_⟩
  have hNN : ∀ {n : Nat}, n ≤ big → n < NN := fun h => NN_lt h
  generalize NN = N at hNN ⊢
  unfold E_s_Differ
  refine (iter_nat 8 (fun i (t : (List Int)) => (a2, (i : Int), t, a0.Memory, a0.Mons, a0.Buffer, a0.IoBuffer, a1.Memory, a1.Mons, a1.Buffer, a1.IoBuffer, ())) _ (fun i (t : List Int) κ => bif differ1 a0 a1 a2 i then (bif few (ln (ap t [(i : Int)])) then κ (ap t [(i : Int)]) else none) else κ t) (fun (t : (List Int)) => (some [(.one (.s .int t))])) (fun i hi t rec => ?_) (fun t rec => ?_) _ ([]) (hNN (by decide))).trans ?_
  · simp only [show ilt (i : Int) 8 = true from decide_eq_true (by omega), wadd_up hi (show 8 ≤ big by decide), cT]
    simp only [hE, show ∀ p, s_PageOf_c a0 a2 p = true from fun p => pc_true hs, show ∀ p, s_PageOf_c a1 a2 p = true from fun p => pc_true hs2, s_l04Ints_c, cT, s_l04Ints, s_PageOf, differ1]
    cases eqI (pageOf a0 a2 (↑i)) (pageOf a1 a2 (↑i)) <;> rfl
  · simp only [show ilt (((8 : Nat)) : Int) 8 = false from decide_eq_false (by omega), cF]
  exact goN_idxs (differ1 a0 a1 a2) _ 8 0 [] (by decide)
theorem holds_s_Differ : Holds Try.prog 43 run_s_Differ := by
  refine holds_of_eval (engQ_ok ctrD6_ok mct0_ok pct0_ok) (fn_ok (by kernel_rfl)) ?_
  intro avs rs hr h
  have hb := allB_of_rep hr
  unfold run_s_Differ at h
  split at h
  · rename_i a0_0 a0_1 a0_2 a0_3 a1_0 a1_1 a1_2 a1_3 a2
    obtain ⟨hc, rfl⟩ := some_pair h
    obtain ⟨N, hN⟩ := law_s_Differ (⟨a0_0, a0_1, a0_2, a0_3⟩ : Host) (⟨a1_0, a1_1, a1_2, a1_3⟩ : Host) a2 hb hc
    exact ⟨tms_s_Differ, N, 12, (nf_s_Differ N (⟨a0_0, a0_1, a0_2, a0_3⟩ : Host) (⟨a1_0, a1_1, a1_2, a1_3⟩ : Host) a2).trans hN⟩
  · cases h

noncomputable def i_Differ_c (a b : Host) (_ : Int) : Bool := pc (SmHost a ∧ SmHost b)
def i_Differ (a b : Host) (m : Int) : List Int := differ a b m
noncomputable def run_i_Differ : List AV → Option (Bool × List AV)
  | [.agg [.s (.sl .int) a0_0, .s .mon a0_1, .s .entry a0_2, .s .entry a0_3], .agg [.s (.sl .int) a1_0, .s .mon a1_1, .s .entry a1_2, .s .entry a1_3], .one (.i .i64 a2)] => some ((i_Differ_c (⟨a0_0, a0_1, a0_2, a0_3⟩ : Host) (⟨a1_0, a1_1, a1_2, a1_3⟩ : Host) a2), [.one (.s .int (i_Differ (⟨a0_0, a0_1, a0_2, a0_3⟩ : Host) (⟨a1_0, a1_1, a1_2, a1_3⟩ : Host) a2))])
  | _ => none

noncomputable def E_i_Differ (N : Nat) (a0 : Host) (a1 : Host) (a2 : Int) : Option Ans :=
  (iter (σ := (Int × (Int × ((List Int) × ((List (List Int)) × ((List Mon) × ((List Entry) × ((List Entry) × ((List (List Int)) × ((List Mon) × ((List Entry) × ((List Entry) × Unit)))))))))))) N (fun r4 s5 => (bif (ilt s5.2.1 8) then (bif (i_PageOf_c (⟨s5.2.2.2.1, s5.2.2.2.2.1, s5.2.2.2.2.2.1, s5.2.2.2.2.2.2.1⟩ : Host) s5.1 s5.2.1) then (bif (i_PageOf_c (⟨s5.2.2.2.2.2.2.2.1, s5.2.2.2.2.2.2.2.2.1, s5.2.2.2.2.2.2.2.2.2.1, s5.2.2.2.2.2.2.2.2.2.2.1⟩ : Host) s5.1 s5.2.1) then (bif (x_slices_Equal___int_int__c (i_PageOf (⟨s5.2.2.2.1, s5.2.2.2.2.1, s5.2.2.2.2.2.1, s5.2.2.2.2.2.2.1⟩ : Host) s5.1 s5.2.1) (i_PageOf (⟨s5.2.2.2.2.2.2.2.1, s5.2.2.2.2.2.2.2.2.1, s5.2.2.2.2.2.2.2.2.2.1, s5.2.2.2.2.2.2.2.2.2.2.1⟩ : Host) s5.1 s5.2.1)) then (bif (bif (x_slices_Equal___int_int_ (i_PageOf (⟨s5.2.2.2.1, s5.2.2.2.2.1, s5.2.2.2.2.2.1, s5.2.2.2.2.2.2.1⟩ : Host) s5.1 s5.2.1) (i_PageOf (⟨s5.2.2.2.2.2.2.2.1, s5.2.2.2.2.2.2.2.2.1, s5.2.2.2.2.2.2.2.2.2.1, s5.2.2.2.2.2.2.2.2.2.2.1⟩ : Host) s5.1 s5.2.1)) then false else true) then (bif (few (ln (ap s5.2.2.1 [s5.2.1]))) then (r4 (s5.1, ((wadd .i64 s5.2.1 1), ((ap s5.2.2.1 [s5.2.1]), (s5.2.2.2.1, (s5.2.2.2.2.1, (s5.2.2.2.2.2.1, (s5.2.2.2.2.2.2.1, (s5.2.2.2.2.2.2.2.1, (s5.2.2.2.2.2.2.2.2.1, (s5.2.2.2.2.2.2.2.2.2.1, (s5.2.2.2.2.2.2.2.2.2.2.1, ())))))))))))) else none) else (r4 (s5.1, ((wadd .i64 s5.2.1 1), (s5.2.2.1, (s5.2.2.2.1, (s5.2.2.2.2.1, (s5.2.2.2.2.2.1, (s5.2.2.2.2.2.2.1, (s5.2.2.2.2.2.2.2.1, (s5.2.2.2.2.2.2.2.2.1, (s5.2.2.2.2.2.2.2.2.2.1, (s5.2.2.2.2.2.2.2.2.2.2.1, ()))))))))))))) else none) else none) else none) else (some [(.one (.s .int s5.2.2.1))]))) (a2, (0, ([], (a0.Memory, (a0.Mons, (a0.Buffer, (a0.IoBuffer, (a1.Memory, (a1.Mons, (a1.Buffer, (a1.IoBuffer, ()))))))))))))

def tms_i_Differ : FuncId → Nat → Option Tmpl := tmsOf [(44, 0, { n := 29, tm := [(2, .i .i64), (3, .lp 0 0), (4, .lp 1 0), (7, .sl 0 []), (8, .i .i64)], lo := [(0, [.sl 1 [], .sl 2 [], .sl 3 [], .sl 4 []]), (1, [.sl 5 [], .sl 6 [], .sl 7 [], .sl 8 []])], ro := [(0, .int, true), (1, (.sl .int), false), (2, .mon, false), (3, .entry, false), (4, .entry, false), (5, (.sl .int), false), (6, .mon, false), (7, .entry, false), (8, .entry, false)] })]

theorem nf_i_Differ (N : Nat) (a0 : Host) (a1 : Host) (a2 : Int) : evalFn (cfgQ (aget ctrD6) (aget mct0) (aget pct0)) tms_i_Differ N 12 44 [.agg (hostC a0), .agg (hostC a1), .one (.i .i64 a2)] = E_i_Differ N a0 a1 a2 := by kernel_rfl

theorem law_i_Differ (a0 : Host) (a1 : Host) (a2 : Int) (hb : AllB big [.agg (hostC a0), .agg (hostC a1), .one (.i .i64 a2)]) (hc : (i_Differ_c a0 a1 a2) = true) : ∃ N, E_i_Differ N a0 a1 a2 = some [.one (.s .int (i_Differ a0 a1 a2))] := by
  obtain ⟨hs, hs2⟩ := pc_iff.1 hc
  refine ⟨NN, ?_⟩
  have hNN : ∀ {n : Nat}, n ≤ big → n < NN := fun h => NN_lt h
  generalize NN = N at hNN ⊢
  unfold E_i_Differ
  refine (iter_nat 8 (fun i (t : (List Int)) => (a2, (i : Int), t, a0.Memory, a0.Mons, a0.Buffer, a0.IoBuffer, a1.Memory, a1.Mons, a1.Buffer, a1.IoBuffer, ())) _ (fun i (t : List Int) κ => bif differ1 a0 a1 a2 i then (bif few (ln (ap t [(i : Int)])) then κ (ap t [(i : Int)]) else none) else κ t) (fun (t : (List Int)) => (some [(.one (.s .int t))])) (fun i hi t rec => ?_) (fun t rec => ?_) _ ([]) (hNN (by decide))).trans ?_
  · simp only [show ilt (i : Int) 8 = true from decide_eq_true (by omega), wadd_up hi (show 8 ≤ big by decide), cT]
    simp only [hE, show ∀ p, i_PageOf_c a0 a2 p = true from fun p => pc_true hs, show ∀ p, i_PageOf_c a1 a2 p = true from fun p => pc_true hs2, x_slices_Equal___int_int__c, cT, x_slices_Equal___int_int_, i_PageOf, differ1]
    cases eqI (pageOf a0 a2 (↑i)) (pageOf a1 a2 (↑i)) <;> rfl
  · simp only [show ilt (((8 : Nat)) : Int) 8 = false from decide_eq_false (by omega), cF]
  exact goN_idxs (differ1 a0 a1 a2) _ 8 0 [] (by decide)
theorem holds_i_Differ : Holds Try.prog 44 run_i_Differ := by
  refine holds_of_eval (engQ_ok ctrD6_ok mct0_ok pct0_ok) (fn_ok (by kernel_rfl)) ?_
  intro avs rs hr h
  have hb := allB_of_rep hr
  unfold run_i_Differ at h
  split at h
  · rename_i a0_0 a0_1 a0_2 a0_3 a1_0 a1_1 a1_2 a1_3 a2
    obtain ⟨hc, rfl⟩ := some_pair h
    obtain ⟨N, hN⟩ := law_i_Differ (⟨a0_0, a0_1, a0_2, a0_3⟩ : Host) (⟨a1_0, a1_1, a1_2, a1_3⟩ : Host) a2 hb hc
    exact ⟨tms_i_Differ, N, 12, (nf_i_Differ N (⟨a0_0, a0_1, a0_2, a0_3⟩ : Host) (⟨a1_0, a1_1, a1_2, a1_3⟩ : Host) a2).trans hN⟩
  · cases h

noncomputable def ctrD7 : Ctrs := [(43, run_s_Differ), (44, run_i_Differ)] ++ ctrD6

theorem ctrD7_ok : ∀ f run, aget ctrD7 f = some run → Holds Try.prog f run := ctr_more ctrD6_ok (by
  intro x hx
  simp only [List.mem_cons, List.not_mem_nil, or_false] at hx
  rcases hx with rfl | rfl
  · exact holds_s_Differ
  · exact holds_i_Differ)

noncomputable def ctrV : Ctrs := ctrD7
theorem ctrV_ok : ∀ f run, aget ctrV f = some run → Holds Try.prog f run := ctrD7_ok
end Go.Proofs.Ytglijfolfelimaa.E
