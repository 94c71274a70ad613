/- What is proved here: contracts of OwnPages: the pages that a machine owns, in ascending order. -/
import Derived.Test.YtkpakifgplcolaaA17
import Derived.KernelRfl
namespace Go.Proofs.Ytkpakifgplcolaa.E
open Go
set_option maxRecDepth 100000
set_option linter.unusedVariables false
set_option linter.unusedSimpArgs false
set_option linter.unusedSectionVars false
def pageO (s : Slot) : Option Int := bif ine s.Page (-1) then some s.Page else none
def ownPages (h : Host) (m : Int) : List Int := ascOf (picks (fun _ s => pageO s) (s_MonAt_1 h m).Outer 0)
theorem own_len {h : Host} (hs : SmHost h) (m : Int) : (s_MonAt_1 h m).Outer.length ≤ 1048576 := (outer_sm hs m).len
theorem ownPages_len {h : Host} (hs : SmHost h) (m : Int) : (ownPages h m).length ≤ 1048576 := Nat.le_trans (ascOf_len _) (Nat.le_trans (picks_len _ _ 0) (own_len hs m))
noncomputable def s_OwnPages_c (h : Host) (_ : Int) : Bool := pc (SmHost h)
def s_OwnPages (h : Host) (m : Int) : List Int := ownPages h m
noncomputable def run_s_OwnPages : List AV → Option (Bool × List AV)
  | [.agg [.s (.sl .int) a0_0, .s .mon a0_1, .s .entry a0_2, .s .entry a0_3], .one (.i .i64 a1)] => some ((s_OwnPages_c (⟨a0_0, a0_1, a0_2, a0_3⟩ : Host) a1), [.one (.s .int (s_OwnPages (⟨a0_0, a0_1, a0_2, a0_3⟩ : Host) a1))])
  | _ => none

noncomputable def E_s_OwnPages (N : Nat) (a0 : Host) (a1 : Int) : Option Ans :=
  (bif (s_MonAt_c a0 a1) then (iter (σ := (Int × (Int × (Int × (Int × ((List Int) × ((List Slot) × ((List (List Int)) × ((List Bool) × ((List Guest) × ((List Int) × ((List Kept) × Unit)))))))))))) N (fun r3 s4 => (bif (ilt s4.1 (ln s4.2.2.2.2.2.1)) then (bif (inb s4.1 (ln s4.2.2.2.2.2.1)) then (bif (ine (ix s4.2.2.2.2.2.1 s4.1 (Ty.dflt .slot)).Page (-1)) then (bif (inb s4.1 (ln s4.2.2.2.2.2.1)) then (bif (s_l30Put_c s4.2.2.2.2.1 (ix s4.2.2.2.2.2.1 s4.1 (Ty.dflt .slot)).Page) then (r3 ((wadd .i64 s4.1 1), (s4.2.1, (s4.2.2.1, (s4.2.2.2.1, ((s_l30Put s4.2.2.2.2.1 (ix s4.2.2.2.2.2.1 s4.1 (Ty.dflt .slot)).Page), (s4.2.2.2.2.2.1, (s4.2.2.2.2.2.2.1, (s4.2.2.2.2.2.2.2.1, (s4.2.2.2.2.2.2.2.2.1, (s4.2.2.2.2.2.2.2.2.2.1, (s4.2.2.2.2.2.2.2.2.2.2.1, ())))))))))))) else none) else none) else (r3 ((wadd .i64 s4.1 1), (s4.2.1, (s4.2.2.1, (s4.2.2.2.1, (s4.2.2.2.2.1, (s4.2.2.2.2.2.1, (s4.2.2.2.2.2.2.1, (s4.2.2.2.2.2.2.2.1, (s4.2.2.2.2.2.2.2.2.1, (s4.2.2.2.2.2.2.2.2.2.1, (s4.2.2.2.2.2.2.2.2.2.2.1, ()))))))))))))) else none) else (bif (few (ln (ap [] s4.2.2.2.2.1))) then (some [(.one (.s .int (ap [] s4.2.2.2.2.1)))]) else none))) (0, ((s_MonAt_1 a0 a1).Pending, ((s_MonAt_1 a0 a1).Traps, ((s_MonAt_1 a0 a1).Own, ([], ((s_MonAt_1 a0 a1).Outer, ((s_MonAt_1 a0 a1).Out, ((s_MonAt_1 a0 a1).Dirty, ((s_MonAt_1 a0 a1).Guests, ((s_MonAt_1 a0 a1).Outs, ((s_MonAt_1 a0 a1).Tables, ())))))))))))) else none)

def tms_s_OwnPages : FuncId → Nat → Option Tmpl := tmsOf [(5, 0, { n := 41, tm := [(5, .sl 0 []), (6, .lp 0 0), (8, .i .i64)], lo := [(0, [.sl 1 [], .sl 2 [], .sl 3 [], .sl 4 [], .sl 5 [], .i .i64, .i .i64, .sl 6 [], .i .i64])], ro := [(0, .int, true), (1, .slot, true), (2, (.sl .int), true), (3, .bool, true), (4, .guest, true), (5, .int, true), (6, .kept, true)] })]

theorem nf_s_OwnPages (N : Nat) (a0 : Host) (a1 : Int) : evalFn (cfgQ (aget ctrU) (aget mctC) (aget pct0) (aget tctA)) tms_s_OwnPages N 12 5 [.agg (hostC a0), .one (.i .i64 a1)] = E_s_OwnPages N a0 a1 := by kernel_rfl

theorem law_s_OwnPages (a0 : Host) (a1 : Int) (hb : AllB big [.agg (hostC a0), .one (.i .i64 a1)]) (hc : (s_OwnPages_c a0 a1) = true) : ∃ N, E_s_OwnPages N a0 a1 = some [.one (.s .int (s_OwnPages a0 a1))] := by
  have hs := pc_iff.1 hc
  have hl := own_len hs a1
  have hlb := (sm_big (n := (s_MonAt_1 a0 a1).Outer.length) hl).1
  refine ⟨NN, ?_⟩
  have hNN : ∀ {n : Nat}, n ≤ big → n < NN := fun h => NN_lt h
  generalize NN = N at hNN ⊢
  unfold E_s_OwnPages
  rw [show s_MonAt_c a0 a1 = true from pc_true hs, cT]
  refine (iter_list ((s_MonAt_1 a0 a1).Outer) (fun i (t : (List Int)) => ((i : Int), (s_MonAt_1 a0 a1).Pending, (s_MonAt_1 a0 a1).Traps, (s_MonAt_1 a0 a1).Own, t, (s_MonAt_1 a0 a1).Outer, (s_MonAt_1 a0 a1).Out, (s_MonAt_1 a0 a1).Dirty, (s_MonAt_1 a0 a1).Guests, (s_MonAt_1 a0 a1).Outs, (s_MonAt_1 a0 a1).Tables, ())) _ (fun _ (x : Slot) (t : List Int) κ => putB (pageO x) t κ) (fun (t : (List Int)) => (bif (few (ln (ap [] t))) then (some [(.one (.s .int (ap [] t)))]) else none)) (fun i hi t rec => ?_) (fun t rec => ?_) _ ([]) (hNN hlb)).trans ?_
  · simp only [ilt_ln hi, inb_ln hi, ix_ln hi, wadd_up hi hlb, cT]
    unfold pageO
    cases ine (s_MonAt_1 a0 a1).Outer[i].Page (-1) <;> rfl
  · simp only [ilt_end, cF]
  rw [goL_put (fun _ s => pageO s) _ _ 0 [] (by simp [putM]; omega), putAll_asc, ap_nil]
  rw [few_le (Nat.le_trans (ownPages_len hs a1) (by decide) : (ascOf (picks (fun _ s => pageO s) (s_MonAt_1 a0 a1).Outer 0)).length ≤ 2147483648)]
  rfl
theorem holds_s_OwnPages : Holds Try.prog 5 run_s_OwnPages := by
  refine holds_of_eval (engQ_ok ctrU_ok mctC_ok pct0_ok tctA_ok) (fn_ok (by kernel_rfl)) ?_
  intro avs rs hr h
  have hb := allB_of_rep hr
  unfold run_s_OwnPages at h
  split at h
  · rename_i a0_0 a0_1 a0_2 a0_3 a1
    obtain ⟨hc, rfl⟩ := some_pair h
    obtain ⟨N, hN⟩ := law_s_OwnPages (⟨a0_0, a0_1, a0_2, a0_3⟩ : Host) a1 hb hc
    exact ⟨tms_s_OwnPages, N, 12, (nf_s_OwnPages N (⟨a0_0, a0_1, a0_2, a0_3⟩ : Host) a1).trans hN⟩
  · cases h

noncomputable def i_OwnPages_c (h : Host) (_ : Int) : Bool := pc (SmHost h)
def i_OwnPages (h : Host) (m : Int) : List Int := ownPages h m
noncomputable def run_i_OwnPages : List AV → Option (Bool × List AV)
  | [.agg [.s (.sl .int) a0_0, .s .mon a0_1, .s .entry a0_2, .s .entry a0_3], .one (.i .i64 a1)] => some ((i_OwnPages_c (⟨a0_0, a0_1, a0_2, a0_3⟩ : Host) a1), [.one (.s .int (i_OwnPages (⟨a0_0, a0_1, a0_2, a0_3⟩ : Host) a1))])
  | _ => none

noncomputable def E_i_OwnPages (N : Nat) (a0 : Host) (a1 : Int) : Option Ans :=
  (bif (i_has_c a1 (ln a0.Mons)) then (bif (bif (i_has a1 (ln a0.Mons)) then false else true) then (some [(.one (.s .int []))]) else (bif (inb a1 (ln a0.Mons)) then (iter (σ := (Int × (Int × (Int × ((List Int) × ((List Mon) × Unit)))))) N (fun r3 s4 => (bif (ilt s4.2.2.1 s4.2.1) then (bif (inb s4.2.2.1 (ln (ix s4.2.2.2.2.1 s4.1 (Ty.dflt .mon)).Outer)) then (bif (ine (ix (ix s4.2.2.2.2.1 s4.1 (Ty.dflt .mon)).Outer s4.2.2.1 (Ty.dflt .slot)).Page (-1)) then (bif (few (ln (ap s4.2.2.2.1 [(ix (ix s4.2.2.2.2.1 s4.1 (Ty.dflt .mon)).Outer s4.2.2.1 (Ty.dflt .slot)).Page]))) then (r3 (s4.1, (s4.2.1, ((wadd .i64 s4.2.2.1 1), ((ap s4.2.2.2.1 [(ix (ix s4.2.2.2.2.1 s4.1 (Ty.dflt .mon)).Outer s4.2.2.1 (Ty.dflt .slot)).Page]), (s4.2.2.2.2.1, ())))))) else none) else (r3 (s4.1, (s4.2.1, ((wadd .i64 s4.2.2.1 1), (s4.2.2.2.1, (s4.2.2.2.2.1, ()))))))) else none) else (bif (i_ascending_c s4.2.2.2.1) then (some [(.one (.s .int (i_ascending s4.2.2.2.1)))]) else none))) (a1, ((ln (ix a0.Mons a1 (Ty.dflt .mon)).Outer), (0, ([], (a0.Mons, ())))))) else none)) else none)

def tms_i_OwnPages : FuncId → Nat → Option Tmpl := tmsOf [(7, 0, { n := 37, tm := [(5, .sl 0 []), (20, .sl 1 [0]), (21, .i .i64), (22, .i .i64)], lo := [], ro := [(0, .int, true), (1, .mon, false)] })]

theorem nf_i_OwnPages (N : Nat) (a0 : Host) (a1 : Int) : evalFn (cfgQ (aget ctrU) (aget mctC) (aget pct0) (aget tctA)) tms_i_OwnPages N 12 7 [.agg (hostC a0), .one (.i .i64 a1)] = E_i_OwnPages N a0 a1 := by kernel_rfl

theorem law_i_OwnPages (a0 : Host) (a1 : Int) (hb : AllB big [.agg (hostC a0), .one (.i .i64 a1)]) (hc : (i_OwnPages_c a0 a1) = true) : ∃ N, E_i_OwnPages N a0 a1 = some [.one (.s .int (i_OwnPages a0 a1))] := by
  have hs := pc_iff.1 hc
  have hl := own_len hs a1
  have hlb := (sm_big (n := (s_MonAt_1 a0 a1).Outer.length) hl).1
  refine ⟨NN, ?_⟩
  have hNN : ∀ {n : Nat}, n ≤ big → n < NN := fun h => NN_lt h
  generalize NN = N at hNN ⊢
  unfold E_i_OwnPages i_OwnPages ownPages i_has
  cases hh : hasB a1 (ln a0.Mons)
  · simp only [i_has_c, cT, Bool.not_false, s_MonAt_1, hh, cF]
    rw [show (Ty.dflt .mon).Outer = [] from rfl, picks, ascOf_nil]
  · have e : s_MonAt_1 a0 a1 = ix a0.Mons a1 (Ty.dflt .mon) := by unfold s_MonAt_1; rw [hh]; rfl
    rw [e] at hl hlb ⊢
    refine (show _ = _ from rfl : _ = (bif inb a1 (ln a0.Mons) then _ else none)).trans ?_
    rw [inb_has hh, cT]
    refine (iter_list ((ix a0.Mons a1 (Ty.dflt .mon)).Outer) (fun i (t : (List Int)) => (a1, (ln (ix a0.Mons a1 (Ty.dflt .mon)).Outer), (i : Int), t, a0.Mons, ())) _ (fun _ (x : Slot) (t : List Int) κ => appB (pageO x) t κ) (fun (t : (List Int)) => (bif (i_ascending_c t) then (some [(.one (.s .int (i_ascending t)))]) else none)) (fun i hi t rec => ?_) (fun t rec => ?_) _ ([]) (hNN hlb)).trans ?_
    · simp only [ilt_ln hi, inb_ln hi, ix_ln hi, wadd_up hi hlb, cT]
      unfold pageO
      cases ine (ix a0.Mons a1 (Ty.dflt .mon)).Outer[i].Page (-1) <;> rfl
    · simp only [ilt_end, cF]
    rw [goL_app (fun _ s => pageO s) _ _ 0 [] (by simp; omega)]
    rfl
theorem holds_i_OwnPages : Holds Try.prog 7 run_i_OwnPages := by
  refine holds_of_eval (engQ_ok ctrU_ok mctC_ok pct0_ok tctA_ok) (fn_ok (by kernel_rfl)) ?_
  intro avs rs hr h
  have hb := allB_of_rep hr
  unfold run_i_OwnPages at h
  split at h
  · rename_i a0_0 a0_1 a0_2 a0_3 a1
    obtain ⟨hc, rfl⟩ := some_pair h
    obtain ⟨N, hN⟩ := law_i_OwnPages (⟨a0_0, a0_1, a0_2, a0_3⟩ : Host) a1 hb hc
    exact ⟨tms_i_OwnPages, N, 12, (nf_i_OwnPages N (⟨a0_0, a0_1, a0_2, a0_3⟩ : Host) a1).trans hN⟩
  · cases h

noncomputable def ctrOwn : Ctrs := [(5, run_s_OwnPages), (7, run_i_OwnPages)] ++ ctrU

theorem ctrOwn_ok : ∀ f run, aget ctrOwn f = some run → Holds Try.prog f run := ctr_more ctrU_ok (by
  intro x hx
  simp only [List.mem_cons, List.not_mem_nil, or_false] at hx
  rcases hx with rfl | rfl
  · exact holds_s_OwnPages
  · exact holds_i_OwnPages)

end Go.Proofs.Ytkpakifgplcolaa.E
