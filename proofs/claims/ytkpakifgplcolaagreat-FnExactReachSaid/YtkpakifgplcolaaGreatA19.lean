/- What is proved here: contracts of Reach: the pages that a machine's tables and the buffers lead to, in ascending order. -/
import Derived.Test.YtkpakifgplcolaaGreatA17
import Derived.KernelRfl
namespace Go.Proofs.YtkpakifgplcolaaGreat.E
open Go
set_option maxRecDepth 100000
set_option linter.unusedVariables false
set_option linter.unusedSimpArgs false
set_option linter.unusedSectionVars false

theorem cb_t {ρ : Type} {c : Bool} {a b r : Option ρ} (h : c = true) (k : a = r) : (bif c then a else b) = r := by rw [h]; exact k
theorem cb_f {ρ : Type} {c : Bool} {a b r : Option ρ} (h : c = false) (k : b = r) : (bif c then a else b) = r := by rw [h]; exact k
/-! What is known of a page. -/
def kHas (k : Kept) (p : Int) : Bool := bif hasB p (ln k.Known) then hasB p (ln k.Slots) else false
theorem has_ilt {p : Int} {n m : Int} (h : hasB p n = true) : ilt p m = hasB p m := by
  have h := of_decide_eq_true h
  unfold ilt hasB
  by_cases h1 : p < m
  · rw [decide_eq_true h1, decide_eq_true ⟨h.1, h1⟩]
  · rw [decide_eq_false h1, decide_eq_false (by omega)]
noncomputable def s_l07Has_c (k : Kept) (_ : Int) : Bool := pc (k.Known.length ≤ 1048576)
@[reducible] def s_l07Has (k : Kept) (p : Int) : Bool := kHas k p
noncomputable def run_s_l07Has : List AV → Option (Bool × List AV)
  | [.agg [.s .bool a0_0, .s .slot a0_1], .one (.i .i64 a1)] => some ((s_l07Has_c (⟨a0_0, a0_1⟩ : Kept) a1), [.one (.b (s_l07Has (⟨a0_0, a0_1⟩ : Kept) a1))])
  | _ => none

noncomputable def E_s_l07Has (N : Nat) (a0 : Kept) (a1 : Int) : Option Ans :=
  (bif (s_l01In_c a1 0 (wsub .i64 (ln a0.Known) 1)) then (bif (s_l01In a1 0 (wsub .i64 (ln a0.Known) 1)) then (some [(.one (.b (ilt a1 (ln a0.Slots))))]) else (some [(.one (.b false))])) else none)

theorem nf_s_l07Has (N : Nat) (a0 : Kept) (a1 : Int) : evalFn (cfgQ (aget ctrU) (aget mctC) (aget pct0) (aget tctA)) (tmsOf []) N 12 37 [.agg (Ty.cells .kept a0), .one (.i .i64 a1)] = E_s_l07Has N a0 a1 := by kernel_rfl

theorem law_s_l07Has (a0 : Kept) (a1 : Int) (hb : AllB big [.agg (Ty.cells .kept a0), .one (.i .i64 a1)]) (hc : (s_l07Has_c a0 a1) = true) : ∃ N, E_s_l07Has N a0 a1 = some [.one (.b (s_l07Has a0 a1))] := by
  have hs := pc_iff.1 hc
  refine ⟨0, ?_⟩
  unfold E_s_l07Has s_l07Has kHas
  have e : s_l01In a1 0 (wsub .i64 (ln a0.Known) 1) = hasB a1 (ln a0.Known) := l01In_len (sm_big hs).1 a1
  rw [e]
  simp only [s_l01In_c, cT]
  cases hh : hasB a1 (ln a0.Known)
  · rfl
  · simp only [cT, has_ilt hh]
theorem holds_s_l07Has : Holds Tryz.prog 37 run_s_l07Has := by
  refine holds_of_eval (engQ_ok ctrU_ok mctC_ok pct0_ok tctA_ok) (fn_ok (by kernel_rfl)) ?_
  intro avs rs hr h
  have hb := allB_of_rep hr
  unfold run_s_l07Has at h
  split at h
  · rename_i a0_0 a0_1 a1
    obtain ⟨hc, rfl⟩ := some_pair h
    obtain ⟨N, hN⟩ := law_s_l07Has (⟨a0_0, a0_1⟩ : Kept) a1 hb hc
    exact ⟨tmsOf [], N, 12, (nf_s_l07Has N (⟨a0_0, a0_1⟩ : Kept) a1).trans hN⟩
  · cases h

noncomputable def ctrK1 : Ctrs := [(37, run_s_l07Has)] ++ ctrU

theorem ctrK1_ok : ∀ f run, aget ctrK1 f = some run → Holds Tryz.prog f run := ctr_more ctrU_ok (by
  intro x hx
  simp only [List.mem_cons, List.not_mem_nil, or_false] at hx
  rcases hx with rfl
  · exact holds_s_l07Has)

def known (k : Kept) (p : Int) : Bool := bif kHas k p then ix k.Known p false else false
def askAt (k : Kept) (p : Int) : Slot := bif known k p then ix k.Slots p (Ty.dflt .slot) else noSlot
noncomputable def s_Ask_c (k : Kept) (_ : Int) : Bool := pc (k.Known.length ≤ 1048576)
@[reducible] def s_Ask_1 (k : Kept) (p : Int) : Slot := askAt k p
@[reducible] def s_Ask_2 (k : Kept) (p : Int) : Bool := known k p
noncomputable def run_s_Ask : List AV → Option (Bool × List AV)
  | [.agg [.s .bool a0_0, .s .slot a0_1], .one (.i .i64 a1)] => some ((s_Ask_c (⟨a0_0, a0_1⟩ : Kept) a1), [.agg (Ty.cells .slot (s_Ask_1 (⟨a0_0, a0_1⟩ : Kept) a1)), .one (.b (s_Ask_2 (⟨a0_0, a0_1⟩ : Kept) a1))])
  | _ => none

noncomputable def E_s_Ask (N : Nat) (a0 : Kept) (a1 : Int) : Option Ans :=
  (bif (s_l07Has_c a0 a1) then (bif (bif (s_l07Has a0 a1) then false else true) then (bif s_NoSlot_c then (some [(.agg [(.i .i64 s_NoSlot.Page), (.i .i64 s_NoSlot.Rights)]), (.one (.b false))]) else none) else (bif (inb a1 (ln a0.Known)) then (bif (bif (ix a0.Known a1 false) then false else true) then (bif s_NoSlot_c then (some [(.agg [(.i .i64 s_NoSlot.Page), (.i .i64 s_NoSlot.Rights)]), (.one (.b false))]) else none) else (bif (inb a1 (ln a0.Slots)) then (some [(.agg [(.i .i64 (ix a0.Slots a1 (Ty.dflt .slot)).Page), (.i .i64 (ix a0.Slots a1 (Ty.dflt .slot)).Rights)]), (.one (.b true))]) else none)) else none)) else none)

theorem nf_s_Ask (N : Nat) (a0 : Kept) (a1 : Int) : evalFn (cfgQ (aget ctrK1) (aget mctC) (aget pct0) (aget tctA)) (tmsOf []) N 12 17 [.agg (Ty.cells .kept a0), .one (.i .i64 a1)] = E_s_Ask N a0 a1 := by kernel_rfl

theorem law_s_Ask (a0 : Kept) (a1 : Int) (hb : AllB big [.agg (Ty.cells .kept a0), .one (.i .i64 a1)]) (hc : (s_Ask_c a0 a1) = true) : ∃ N, E_s_Ask N a0 a1 = some [.agg (Ty.cells .slot (s_Ask_1 a0 a1)), .one (.b (s_Ask_2 a0 a1))] := by
  have hs := pc_iff.1 hc
  refine ⟨0, ?_⟩
  unfold E_s_Ask s_Ask_1 s_Ask_2 askAt known
  rw [show s_l07Has_c a0 a1 = true from pc_true hs, cT, show s_l07Has a0 a1 = kHas a0 a1 from rfl]
  cases hh : kHas a0 a1
  · rfl
  · unfold kHas at hh
    cases h1 : hasB a1 (ln a0.Known)
    · rw [h1] at hh; cases hh
    · rw [h1] at hh
      have h2 : hasB a1 (ln a0.Slots) = true := hh
      simp only [inb_has h1, inb_has h2, cT]
      cases ix a0.Known a1 false <;> rfl
theorem holds_s_Ask : Holds Tryz.prog 17 run_s_Ask := by
  refine holds_of_eval (engQ_ok ctrK1_ok mctC_ok pct0_ok tctA_ok) (fn_ok (by kernel_rfl)) ?_
  intro avs rs hr h
  have hb := allB_of_rep hr
  unfold run_s_Ask at h
  split at h
  · rename_i a0_0 a0_1 a1
    obtain ⟨hc, rfl⟩ := some_pair h
    obtain ⟨N, hN⟩ := law_s_Ask (⟨a0_0, a0_1⟩ : Kept) a1 hb hc
    exact ⟨tmsOf [], N, 12, (nf_s_Ask N (⟨a0_0, a0_1⟩ : Kept) a1).trans hN⟩
  · cases h

def i_Ask_c (_ : Kept) (_ : Int) : Bool := true
@[reducible] def i_Ask_1 (k : Kept) (p : Int) : Slot := askAt k p
@[reducible] def i_Ask_2 (k : Kept) (p : Int) : Bool := known k p
noncomputable def run_i_Ask : List AV → Option (Bool × List AV)
  | [.agg [.s .bool a0_0, .s .slot a0_1], .one (.i .i64 a1)] => some ((i_Ask_c (⟨a0_0, a0_1⟩ : Kept) a1), [.agg (Ty.cells .slot (i_Ask_1 (⟨a0_0, a0_1⟩ : Kept) a1)), .one (.b (i_Ask_2 (⟨a0_0, a0_1⟩ : Kept) a1))])
  | _ => none

noncomputable def E_i_Ask (N : Nat) (a0 : Kept) (a1 : Int) : Option Ans :=
  (bif (i_has_c a1 (ln a0.Known)) then (bif (bif (i_has a1 (ln a0.Known)) then false else true) then (bif i_NoSlot_c then (some [(.agg [(.i .i64 i_NoSlot.Page), (.i .i64 i_NoSlot.Rights)]), (.one (.b false))]) else none) else (bif (i_has_c a1 (ln a0.Slots)) then (bif (bif (i_has a1 (ln a0.Slots)) then false else true) then (bif i_NoSlot_c then (some [(.agg [(.i .i64 i_NoSlot.Page), (.i .i64 i_NoSlot.Rights)]), (.one (.b false))]) else none) else (bif (inb a1 (ln a0.Known)) then (bif (bif (ix a0.Known a1 false) then false else true) then (bif i_NoSlot_c then (some [(.agg [(.i .i64 i_NoSlot.Page), (.i .i64 i_NoSlot.Rights)]), (.one (.b false))]) else none) else (bif (inb a1 (ln a0.Slots)) then (some [(.agg [(.i .i64 (ix a0.Slots a1 (Ty.dflt .slot)).Page), (.i .i64 (ix a0.Slots a1 (Ty.dflt .slot)).Rights)]), (.one (.b true))]) else none)) else none)) else none)) else none)

theorem nf_i_Ask (N : Nat) (a0 : Kept) (a1 : Int) : evalFn (cfgQ (aget ctrK1) (aget mctC) (aget pct0) (aget tctA)) (tmsOf []) N 12 24 [.agg (Ty.cells .kept a0), .one (.i .i64 a1)] = E_i_Ask N a0 a1 := by kernel_rfl

theorem law_i_Ask (a0 : Kept) (a1 : Int) (hb : AllB big [.agg (Ty.cells .kept a0), .one (.i .i64 a1)]) (hc : (i_Ask_c a0 a1) = true) : ∃ N, E_i_Ask N a0 a1 = some [.agg (Ty.cells .slot (i_Ask_1 a0 a1)), .one (.b (i_Ask_2 a0 a1))] := by
  refine ⟨0, ?_⟩
  unfold E_i_Ask i_Ask_1 i_Ask_2 askAt known kHas
  rw [show i_has a1 (ln a0.Known) = hasB a1 (ln a0.Known) from rfl, show i_has a1 (ln a0.Slots) = hasB a1 (ln a0.Slots) from rfl]
  cases h1 : hasB a1 (ln a0.Known)
  · rfl
  · cases h2 : hasB a1 (ln a0.Slots)
    · rfl
    · simp only [i_has_c, inb_has h1, inb_has h2, cT]
      cases ix a0.Known a1 false <;> rfl
theorem holds_i_Ask : Holds Tryz.prog 24 run_i_Ask := by
  refine holds_of_eval (engQ_ok ctrK1_ok mctC_ok pct0_ok tctA_ok) (fn_ok (by kernel_rfl)) ?_
  intro avs rs hr h
  have hb := allB_of_rep hr
  unfold run_i_Ask at h
  split at h
  · rename_i a0_0 a0_1 a1
    obtain ⟨hc, rfl⟩ := some_pair h
    obtain ⟨N, hN⟩ := law_i_Ask (⟨a0_0, a0_1⟩ : Kept) a1 hb hc
    exact ⟨tmsOf [], N, 12, (nf_i_Ask N (⟨a0_0, a0_1⟩ : Kept) a1).trans hN⟩
  · cases h

noncomputable def ctrK2 : Ctrs := [(17, run_s_Ask), (24, run_i_Ask)] ++ ctrK1

theorem ctrK2_ok : ∀ f run, aget ctrK2 f = some run → Holds Tryz.prog f run := ctr_more ctrK1_ok (by
  intro x hx
  simp only [List.mem_cons, List.not_mem_nil, or_false] at hx
  rcases hx with rfl | rfl
  · exact holds_s_Ask
  · exact holds_i_Ask)


/-! What a machine's tables lead to. -/
def pageK (s : Slot) : Option Int := bif ine s.Page (-1) then some s.Page else none
def askP (k : Kept) (j : Nat) : Option Int := bif known k (j : Int) then pageK (askAt k (j : Int)) else none
def reachT (k : Kept) : List Int := picks (fun j (_ : Slot) => askP k j) k.Slots 0
def reachA : List Kept → List Int
  | [] => []
  | k :: l => reachT k ++ reachA l
def slotsN : List Kept → Nat
  | [] => 0
  | k :: l => k.Slots.length + slotsN l
theorem reachA_len : ∀ l : List Kept, (reachA l).length ≤ slotsN l
  | [] => Nat.le_refl _
  | k :: l => by
    have h1 := reachA_len l
    have h2 := picks_len (fun j (_ : Slot) => askP k j) k.Slots 0
    simp only [reachA, slotsN, List.length_append]
    unfold reachT
    omega
theorem putAll_app (t a b : List Int) : putAll t (a ++ b) = putAll (putAll t a) b := List.foldl_append
theorem goL_reachS {ρ : Type} (K : List Int → Option ρ) : ∀ (l : List Kept) (i : Nat) (t : List Int), t.length + slotsN l ≤ putM →
    goL (fun _ (x : Kept) t κ => goL (fun j (_ : Slot) u κ₁ => putB (askP x j) u κ₁) κ x.Slots 0 t) K l i t = K (putAll t (reachA l))
  | [], _, _, _ => rfl
  | k :: l, i, t, h => by
    simp only [slotsN] at h
    simp only [goL, reachA]
    have hp := putAll_len (reachT k) t
    have hq := picks_len (fun j (_ : Slot) => askP k j) k.Slots 0
    unfold reachT at hp
    rw [goL_put (fun j (_ : Slot) => askP k j) _ k.Slots 0 t (by omega), putAll_app]
    exact goL_reachS K l (i + 1) _ (by omega)
theorem goL_reachI {ρ : Type} (K : List Int → Option ρ) : ∀ (l : List Kept) (i : Nat) (t : List Int), t.length + slotsN l ≤ 2147483648 →
    goL (fun _ (x : Kept) t κ => goL (fun j (_ : Slot) u κ₁ => appB (askP x j) u κ₁) κ x.Slots 0 t) K l i t = K (t ++ reachA l)
  | [], _, _, _ => by simp [goL, reachA]
  | k :: l, i, t, h => by
    simp only [slotsN] at h
    simp only [goL, reachA]
    have hq := picks_len (fun j (_ : Slot) => askP k j) k.Slots 0
    rw [goL_app (fun j (_ : Slot) => askP k j) _ k.Slots 0 t (by omega), ← List.append_assoc]
    exact goL_reachI K l (i + 1) _ (by simp only [List.length_append]; omega)
def tagP (m : Int) (e : Entry) : Option Int := bif ieq (tagMon e.Tag) m then some e.Host else none
def reachB (h : Host) (m : Int) : List Int := picks (fun _ e => tagP m e) (h.Buffer ++ h.IoBuffer) 0
def reachOf (h : Host) (m : Int) : List Int := bif hasB m (ln h.Mons) then ascOf (reachA (ix h.Mons m (Ty.dflt .mon)).Tables ++ reachB h m) else []
def ReachOk (h : Host) (m : Int) : Prop := SmHost h ∧ (hasB m (ln h.Mons) = true → slotsN (ix h.Mons m (Ty.dflt .mon)).Tables ≤ 16777216)
theorem reach_len {h : Host} {m : Int} (hr : ReachOk h m) : (reachOf h m).length ≤ 33554432 := by
  unfold reachOf
  cases hh : hasB m (ln h.Mons)
  · simp
  · have h1 := hr.2 hh
    have h2 := ascOf_len (reachA (ix h.Mons m (Ty.dflt .mon)).Tables ++ reachB h m)
    have h3 := reachA_len (ix h.Mons m (Ty.dflt .mon)).Tables
    have h4 := picks_len (fun _ e => tagP m e) (h.Buffer ++ h.IoBuffer) 0
    have h5 := hr.1.buf.len
    have h6 := hr.1.iob.len
    unfold sm at h5 h6
    unfold reachB at h2 ⊢
    simp only [List.length_append] at *
    simp only [cT]
    omega
noncomputable def s_Reach_c (h : Host) (m : Int) : Bool := pc (ReachOk h m)
def s_Reach (h : Host) (m : Int) : List Int := reachOf h m
theorem reach_cut (h : Host) (m : Int) (hh : hasB m (ln h.Mons) = true) : reachOf h m = putAll (putAll [] (reachA (ix h.Mons m (Ty.dflt .mon)).Tables)) (reachB h m) := by
  unfold reachOf
  rw [hh, cT, ← putAll_asc, putAll_app]
theorem known_c {h : Host} (hs : SmHost h) {m : Int} (hh : hasB m (ln h.Mons) = true) : ∀ x ∈ (ix h.Mons m (Ty.dflt .mon)).Tables, x.Known.length ≤ 1048576 ∧ x.Slots.length ≤ 1048576 := by
  intro x hx
  have hm := hs.mons.inv.2 _ (ix_mem hh (Ty.dflt .mon))
  have hT : CVB sm (.s .kept (ix h.Mons m (Ty.dflt .mon)).Tables) := hm _ (by simp [Ty.cells])
  exact ⟨(hT.inv.2 x hx (.s .bool x.Known) (by simp [Ty.cells])).len, (hT.inv.2 x hx (.s .slot x.Slots) (by simp [Ty.cells])).len⟩
noncomputable def run_s_Reach : List AV → Option (Bool × List AV)
  | [.agg [.s (.sl .int) a0_0, .s .mon a0_1, .s .entry a0_2, .s .entry a0_3], .one (.i .i64 a1)] => some ((s_Reach_c (⟨a0_0, a0_1, a0_2, a0_3⟩ : Host) a1), [.one (.s .int (s_Reach (⟨a0_0, a0_1, a0_2, a0_3⟩ : Host) a1))])
  | _ => none

noncomputable def E_s_Reach (N : Nat) (a0 : Host) (a1 : Int) : Option Ans :=
  (bif (s_MonAt_c a0 a1) then (bif (bif (s_MonAt_2 a0 a1) then false else true) then (some [(.one (.s .int []))]) else (iter (σ := (Int × (Int × (Int × (Int × (Int × ((List Int) × ((List (List Int)) × ((List Mon) × ((List Entry) × ((List Entry) × ((List Slot) × ((List (List Int)) × ((List Bool) × ((List Guest) × ((List Int) × ((List Kept) × Unit))))))))))))))))) N (fun r3 s4 => (bif (ilt s4.2.1 (ln s4.2.2.2.2.2.2.2.2.2.2.2.2.2.2.2.1)) then (iter (σ := (Int × (Int × (Int × (Int × (Int × (Int × ((List Int) × ((List (List Int)) × ((List Mon) × ((List Entry) × ((List Entry) × ((List Slot) × ((List (List Int)) × ((List Bool) × ((List Guest) × ((List Int) × ((List Kept) × Unit)))))))))))))))))) N (fun r5 s6 => (bif (inb s6.2.1 (ln s6.2.2.2.2.2.2.2.2.2.2.2.2.2.2.2.2.1)) then (bif (ilt s6.2.2.1 (ln (ix s6.2.2.2.2.2.2.2.2.2.2.2.2.2.2.2.2.1 s6.2.1 (Ty.dflt .kept)).Slots)) then (bif (inb s6.2.1 (ln s6.2.2.2.2.2.2.2.2.2.2.2.2.2.2.2.2.1)) then (bif (s_Ask_c (ix s6.2.2.2.2.2.2.2.2.2.2.2.2.2.2.2.2.1 s6.2.1 (Ty.dflt .kept)) s6.2.2.1) then (bif (s_Ask_2 (ix s6.2.2.2.2.2.2.2.2.2.2.2.2.2.2.2.2.1 s6.2.1 (Ty.dflt .kept)) s6.2.2.1) then (bif (ine (s_Ask_1 (ix s6.2.2.2.2.2.2.2.2.2.2.2.2.2.2.2.2.1 s6.2.1 (Ty.dflt .kept)) s6.2.2.1).Page (-1)) then (bif (s_l30Put_c s6.2.2.2.2.2.2.1 (s_Ask_1 (ix s6.2.2.2.2.2.2.2.2.2.2.2.2.2.2.2.2.1 s6.2.1 (Ty.dflt .kept)) s6.2.2.1).Page) then (r5 (s6.1, (s6.2.1, ((wadd .i64 s6.2.2.1 1), (s6.2.2.2.1, (s6.2.2.2.2.1, (s6.2.2.2.2.2.1, ((s_l30Put s6.2.2.2.2.2.2.1 (s_Ask_1 (ix s6.2.2.2.2.2.2.2.2.2.2.2.2.2.2.2.2.1 s6.2.1 (Ty.dflt .kept)) s6.2.2.1).Page), (s6.2.2.2.2.2.2.2.1, (s6.2.2.2.2.2.2.2.2.1, (s6.2.2.2.2.2.2.2.2.2.1, (s6.2.2.2.2.2.2.2.2.2.2.1, (s6.2.2.2.2.2.2.2.2.2.2.2.1, (s6.2.2.2.2.2.2.2.2.2.2.2.2.1, (s6.2.2.2.2.2.2.2.2.2.2.2.2.2.1, (s6.2.2.2.2.2.2.2.2.2.2.2.2.2.2.1, (s6.2.2.2.2.2.2.2.2.2.2.2.2.2.2.2.1, (s6.2.2.2.2.2.2.2.2.2.2.2.2.2.2.2.2.1, ())))))))))))))))))) else none) else (r5 (s6.1, (s6.2.1, ((wadd .i64 s6.2.2.1 1), (s6.2.2.2.1, (s6.2.2.2.2.1, (s6.2.2.2.2.2.1, (s6.2.2.2.2.2.2.1, (s6.2.2.2.2.2.2.2.1, (s6.2.2.2.2.2.2.2.2.1, (s6.2.2.2.2.2.2.2.2.2.1, (s6.2.2.2.2.2.2.2.2.2.2.1, (s6.2.2.2.2.2.2.2.2.2.2.2.1, (s6.2.2.2.2.2.2.2.2.2.2.2.2.1, (s6.2.2.2.2.2.2.2.2.2.2.2.2.2.1, (s6.2.2.2.2.2.2.2.2.2.2.2.2.2.2.1, (s6.2.2.2.2.2.2.2.2.2.2.2.2.2.2.2.1, (s6.2.2.2.2.2.2.2.2.2.2.2.2.2.2.2.2.1, ()))))))))))))))))))) else (r5 (s6.1, (s6.2.1, ((wadd .i64 s6.2.2.1 1), (s6.2.2.2.1, (s6.2.2.2.2.1, (s6.2.2.2.2.2.1, (s6.2.2.2.2.2.2.1, (s6.2.2.2.2.2.2.2.1, (s6.2.2.2.2.2.2.2.2.1, (s6.2.2.2.2.2.2.2.2.2.1, (s6.2.2.2.2.2.2.2.2.2.2.1, (s6.2.2.2.2.2.2.2.2.2.2.2.1, (s6.2.2.2.2.2.2.2.2.2.2.2.2.1, (s6.2.2.2.2.2.2.2.2.2.2.2.2.2.1, (s6.2.2.2.2.2.2.2.2.2.2.2.2.2.2.1, (s6.2.2.2.2.2.2.2.2.2.2.2.2.2.2.2.1, (s6.2.2.2.2.2.2.2.2.2.2.2.2.2.2.2.2.1, ()))))))))))))))))))) else none) else none) else (r3 (s6.1, ((wadd .i64 s6.2.1 1), (s6.2.2.2.1, (s6.2.2.2.2.1, (s6.2.2.2.2.2.1, (s6.2.2.2.2.2.2.1, (s6.2.2.2.2.2.2.2.1, (s6.2.2.2.2.2.2.2.2.1, (s6.2.2.2.2.2.2.2.2.2.1, (s6.2.2.2.2.2.2.2.2.2.2.1, (s6.2.2.2.2.2.2.2.2.2.2.2.1, (s6.2.2.2.2.2.2.2.2.2.2.2.2.1, (s6.2.2.2.2.2.2.2.2.2.2.2.2.2.1, (s6.2.2.2.2.2.2.2.2.2.2.2.2.2.2.1, (s6.2.2.2.2.2.2.2.2.2.2.2.2.2.2.2.1, (s6.2.2.2.2.2.2.2.2.2.2.2.2.2.2.2.2.1, ())))))))))))))))))) else none)) (s4.1, (s4.2.1, (0, (s4.2.2.1, (s4.2.2.2.1, (s4.2.2.2.2.1, (s4.2.2.2.2.2.1, (s4.2.2.2.2.2.2.1, (s4.2.2.2.2.2.2.2.1, (s4.2.2.2.2.2.2.2.2.1, (s4.2.2.2.2.2.2.2.2.2.1, (s4.2.2.2.2.2.2.2.2.2.2.1, (s4.2.2.2.2.2.2.2.2.2.2.2.1, (s4.2.2.2.2.2.2.2.2.2.2.2.2.1, (s4.2.2.2.2.2.2.2.2.2.2.2.2.2.1, (s4.2.2.2.2.2.2.2.2.2.2.2.2.2.2.1, (s4.2.2.2.2.2.2.2.2.2.2.2.2.2.2.2.1, ())))))))))))))))))) else (bif (few (ln (ap [] s4.2.2.2.2.2.2.2.2.1))) then (bif (few (ln (ap (ap [] s4.2.2.2.2.2.2.2.2.1) s4.2.2.2.2.2.2.2.2.2.1))) then (iter (σ := (Int × (Int × ((List Int) × ((List Entry) × Unit))))) N (fun r5 s6 => (bif (ilt s6.2.1 (ln s6.2.2.2.1)) then (bif (inb s6.2.1 (ln s6.2.2.2.1)) then (bif (s_TagMon_c (ix s6.2.2.2.1 s6.2.1 (Ty.dflt .entry)).Tag) then (bif (ieq (s_TagMon (ix s6.2.2.2.1 s6.2.1 (Ty.dflt .entry)).Tag) s6.1) then (bif (inb s6.2.1 (ln s6.2.2.2.1)) then (bif (s_l30Put_c s6.2.2.1 (ix s6.2.2.2.1 s6.2.1 (Ty.dflt .entry)).Host) then (r5 (s6.1, ((wadd .i64 s6.2.1 1), ((s_l30Put s6.2.2.1 (ix s6.2.2.2.1 s6.2.1 (Ty.dflt .entry)).Host), (s6.2.2.2.1, ()))))) else none) else none) else (r5 (s6.1, ((wadd .i64 s6.2.1 1), (s6.2.2.1, (s6.2.2.2.1, ())))))) else none) else none) else (bif (few (ln (ap [] s6.2.2.1))) then (some [(.one (.s .int (ap [] s6.2.2.1)))]) else none))) (s4.1, (0, (s4.2.2.2.2.2.1, ((ap (ap [] s4.2.2.2.2.2.2.2.2.1) s4.2.2.2.2.2.2.2.2.2.1), ()))))) else none) else none))) (a1, (0, ((s_MonAt_1 a0 a1).Pending, ((s_MonAt_1 a0 a1).Traps, ((s_MonAt_1 a0 a1).Own, ([], (a0.Memory, (a0.Mons, (a0.Buffer, (a0.IoBuffer, ((s_MonAt_1 a0 a1).Outer, ((s_MonAt_1 a0 a1).Out, ((s_MonAt_1 a0 a1).Dirty, ((s_MonAt_1 a0 a1).Guests, ((s_MonAt_1 a0 a1).Outs, ((s_MonAt_1 a0 a1).Tables, ())))))))))))))))))) else none)

def tms_s_Reach : FuncId → Nat → Option Tmpl := tmsOf [(5, 0, { n := 93, tm := [(1, .i .i64), (2, .lp 0 0), (5, .sl 0 []), (6, .lp 1 0), (8, .i .i64)], lo := [(0, [.sl 1 [], .sl 2 [], .sl 3 [], .sl 4 []]), (1, [.sl 5 [], .sl 6 [], .sl 7 [], .sl 8 [], .sl 9 [], .i .i64, .i .i64, .sl 10 [], .i .i64])], ro := [(0, .int, true), (1, (.sl .int), false), (2, .mon, false), (3, .entry, false), (4, .entry, false), (5, .slot, true), (6, (.sl .int), true), (7, .bool, true), (8, .guest, true), (9, .int, true), (10, .kept, true)] }), (5, 2, { n := 93, tm := [(1, .i .i64), (2, .lp 0 0), (5, .sl 0 []), (6, .lp 1 0), (8, .i .i64), (9, .i .i64)], lo := [(0, [.sl 1 [], .sl 2 [], .sl 3 [], .sl 4 []]), (1, [.sl 5 [], .sl 6 [], .sl 7 [], .sl 8 [], .sl 9 [], .i .i64, .i .i64, .sl 10 [], .i .i64])], ro := [(0, .int, true), (1, (.sl .int), false), (2, .mon, false), (3, .entry, false), (4, .entry, false), (5, .slot, true), (6, (.sl .int), true), (7, .bool, true), (8, .guest, true), (9, .int, true), (10, .kept, true)] }), (5, 4, { n := 93, tm := [(1, .i .i64), (5, .sl 0 []), (12, .sl 1 []), (13, .i .i64)], lo := [], ro := [(0, .int, true), (1, .entry, true)] })]

theorem nf_s_Reach (N : Nat) (a0 : Host) (a1 : Int) : evalFn (cfgQ (aget ctrK2) (aget mctC) (aget pct0) (aget tctA)) tms_s_Reach N 12 5 [.agg (hostC a0), .one (.i .i64 a1)] = E_s_Reach N a0 a1 := by kernel_rfl

theorem law_s_Reach (a0 : Host) (a1 : Int) (hb : AllB big [.agg (hostC a0), .one (.i .i64 a1)]) (hc : (s_Reach_c a0 a1) = true) : ∃ N, E_s_Reach N a0 a1 = some [.one (.s .int (s_Reach a0 a1))] := by
  have hr := pc_iff.1 hc
  have hs := hr.1
  have hln := reach_len hr
  refine ⟨NN, ?_⟩
  have hNN : ∀ {n : Nat}, n ≤ big → n < NN := fun h => NN_lt h
  generalize NN = N at hNN ⊢
  unfold E_s_Reach s_Reach
  refine cb_t (pc_true hs) ?_
  cases hh : hasB a1 (ln a0.Mons)
  · unfold reachOf s_MonAt_2
    rw [hh]
    rfl
  have e : s_MonAt_1 a0 a1 = ix a0.Mons a1 (Ty.dflt .mon) := by unfold s_MonAt_1; rw [hh]; rfl
  have hK := known_c hs hh
  have hm := hs.mons.inv.2 _ (ix_mem hh (Ty.dflt .mon))
  have hT : CVB sm (.s .kept (ix a0.Mons a1 (Ty.dflt .mon)).Tables) := hm _ (by simp [Ty.cells])
  have hTb := (sm_big hT.len).1
  have hsl := hr.2 hh
  have h5 := hs.buf.len
  have h6 := hs.iob.len
  unfold sm at h5 h6
  rw [reach_cut a0 a1 hh] at hln ⊢
  rw [← e] at hK hTb hsl hln ⊢
  have hA := reachA_len (s_MonAt_1 a0 a1).Tables
  have hP := putAll_len (reachA (s_MonAt_1 a0 a1).Tables) []
  refine cb_f (by rw [show s_MonAt_2 a0 a1 = true from hh]; rfl) ?_
  refine (iter_list ((s_MonAt_1 a0 a1).Tables) (fun i (t : (List Int)) => (a1, (i : Int), (s_MonAt_1 a0 a1).Pending, (s_MonAt_1 a0 a1).Traps, (s_MonAt_1 a0 a1).Own, t, a0.Memory, a0.Mons, a0.Buffer, a0.IoBuffer, (s_MonAt_1 a0 a1).Outer, (s_MonAt_1 a0 a1).Out, (s_MonAt_1 a0 a1).Dirty, (s_MonAt_1 a0 a1).Guests, (s_MonAt_1 a0 a1).Outs, (s_MonAt_1 a0 a1).Tables, ())) _ (fun _ (x : Kept) (t : List Int) κ => goL (fun j (_ : Slot) u κ₁ => putB (askP x j) u κ₁) κ x.Slots 0 t) (fun (t : (List Int)) => (bif (few (ln (ap [] a0.Buffer))) then (bif (few (ln (ap (ap [] a0.Buffer) a0.IoBuffer))) then (iter (σ := (Int × (Int × ((List Int) × ((List Entry) × Unit))))) N (fun r5 s6 => (bif (ilt s6.2.1 (ln s6.2.2.2.1)) then (bif (inb s6.2.1 (ln s6.2.2.2.1)) then (bif (s_TagMon_c (ix s6.2.2.2.1 s6.2.1 (Ty.dflt .entry)).Tag) then (bif (ieq (s_TagMon (ix s6.2.2.2.1 s6.2.1 (Ty.dflt .entry)).Tag) s6.1) then (bif (inb s6.2.1 (ln s6.2.2.2.1)) then (bif (s_l30Put_c s6.2.2.1 (ix s6.2.2.2.1 s6.2.1 (Ty.dflt .entry)).Host) then (r5 (s6.1, ((wadd .i64 s6.2.1 1), ((s_l30Put s6.2.2.1 (ix s6.2.2.2.1 s6.2.1 (Ty.dflt .entry)).Host), (s6.2.2.2.1, ()))))) else none) else none) else (r5 (s6.1, ((wadd .i64 s6.2.1 1), (s6.2.2.1, (s6.2.2.2.1, ())))))) else none) else none) else (bif (few (ln (ap [] s6.2.2.1))) then (some [(.one (.s .int (ap [] s6.2.2.1)))]) else none))) (a1, (0, (t, ((ap (ap [] a0.Buffer) a0.IoBuffer), ()))))) else none) else none)) (fun i hi t rec => ?_) (fun t rec => ?_) _ ([]) (hNN hTb)).trans ?_
  · simp only [ilt_ln hi, inb_ln hi, ix_ln hi, wadd_up hi hTb, cT]
    obtain ⟨hk1, hk2⟩ := hK _ (List.getElem_mem hi)
    have hkb := (sm_big (n := (s_MonAt_1 a0 a1).Tables[i].Slots.length) hk2).1
    refine iter_list (s_MonAt_1 a0 a1).Tables[i].Slots (fun j (u : List Int) => (a1, (i : Int), (j : Int), (s_MonAt_1 a0 a1).Pending, (s_MonAt_1 a0 a1).Traps, (s_MonAt_1 a0 a1).Own, u, a0.Memory, a0.Mons, a0.Buffer, a0.IoBuffer, (s_MonAt_1 a0 a1).Outer, (s_MonAt_1 a0 a1).Out, (s_MonAt_1 a0 a1).Dirty, (s_MonAt_1 a0 a1).Guests, (s_MonAt_1 a0 a1).Outs, (s_MonAt_1 a0 a1).Tables, ())) _ (fun j (_ : Slot) u κ₁ => putB (askP (s_MonAt_1 a0 a1).Tables[i] j) u κ₁) _ (fun j hj u rec1 => ?_) (fun u rec1 => ?_) _ t (hNN hkb)
    · simp only [inb_ln hi, ix_ln hi, ilt_ln hj, cT, wadd_up hj hkb, show s_Ask_c (s_MonAt_1 a0 a1).Tables[i] (j : Int) = true from pc_true hk1, s_Ask_1, s_Ask_2]
      unfold askP pageK
      cases known (s_MonAt_1 a0 a1).Tables[i] (j : Int)
      · rfl
      · cases ine (askAt (s_MonAt_1 a0 a1).Tables[i] (j : Int)).Page (-1) <;> rfl
    · simp only [inb_ln hi, ix_ln hi, ilt_end, cT, cF, wadd_up hi hTb]
  · simp only [ilt_end, cF]
  rw [goL_reachS _ _ 0 [] (by unfold putM; simp; omega)]
  refine cb_t (few_le (by rw [ap_nil]; omega)) (cb_t (few_le (by rw [ap_nil]; simp only [ap, List.length_append]; omega)) ?_)
  have hbl : (ap (ap [] a0.Buffer) a0.IoBuffer).length ≤ big := by rw [big_val, ap_nil]; simp only [ap, List.length_append]; omega
  obtain ⟨t, ht⟩ : ∃ t, t = putAll [] (reachA (s_MonAt_1 a0 a1).Tables) := ⟨_, rfl⟩
  rw [← ht] at hP hln ⊢
  refine (iter_list (ap (ap [] a0.Buffer) a0.IoBuffer) (fun j (u : (List Int)) => (a1, (j : Int), u, (ap (ap [] a0.Buffer) a0.IoBuffer), ())) _ (fun _ (y : Entry) (u : List Int) κ => putB (tagP a1 y) u κ) (fun (u : (List Int)) => (bif (few (ln (ap [] u))) then (some [(.one (.s .int (ap [] u)))]) else none)) (fun j hj u rec1 => ?_) (fun u rec1 => ?_) _ (t) (hNN hbl)).trans ?_
  · simp only [ilt_ln hj, inb_ln hj, ix_ln hj, wadd_up hj hbl, cT]
    unfold tagP
    simp only [s_TagMon_c, s_TagMon, cT]
    cases ieq (tagMon (ap (ap [] a0.Buffer) a0.IoBuffer)[j].Tag) a1 <;> rfl
  · simp only [ilt_end, cF]
  rw [goL_put (fun _ y => tagP a1 y) _ _ 0 _ (by unfold putM; rw [ap_nil]; simp only [ap, List.length_append]; simp at hP; omega)]
  refine cb_t (few_le ?_) rfl
  rw [ap_nil]
  exact Nat.le_trans hln (by decide)
theorem holds_s_Reach : Holds Tryz.prog 5 run_s_Reach := by
  refine holds_of_eval (engQ_ok ctrK2_ok mctC_ok pct0_ok tctA_ok) (fn_ok (by kernel_rfl)) ?_
  intro avs rs hr h
  have hb := allB_of_rep hr
  unfold run_s_Reach at h
  split at h
  · rename_i a0_0 a0_1 a0_2 a0_3 a1
    obtain ⟨hc, rfl⟩ := some_pair h
    obtain ⟨N, hN⟩ := law_s_Reach (⟨a0_0, a0_1, a0_2, a0_3⟩ : Host) a1 hb hc
    exact ⟨tms_s_Reach, N, 12, (nf_s_Reach N (⟨a0_0, a0_1, a0_2, a0_3⟩ : Host) a1).trans hN⟩
  · cases h

noncomputable def i_Reach_c (h : Host) (m : Int) : Bool := pc (ReachOk h m)
def i_Reach (h : Host) (m : Int) : List Int := reachOf h m
noncomputable def run_i_Reach : List AV → Option (Bool × List AV)
  | [.agg [.s (.sl .int) a0_0, .s .mon a0_1, .s .entry a0_2, .s .entry a0_3], .one (.i .i64 a1)] => some ((i_Reach_c (⟨a0_0, a0_1, a0_2, a0_3⟩ : Host) a1), [.one (.s .int (i_Reach (⟨a0_0, a0_1, a0_2, a0_3⟩ : Host) a1))])
  | _ => none

noncomputable def E_i_Reach (N : Nat) (a0 : Host) (a1 : Int) : Option Ans :=
  (bif (i_has_c a1 (ln a0.Mons)) then (bif (bif (i_has a1 (ln a0.Mons)) then false else true) then (some [(.one (.s .int []))]) else (bif (inb a1 (ln a0.Mons)) then (iter (σ := (Int × (Int × (Int × (Int × ((List Int) × ((List Mon) × ((List (List Int)) × ((List Entry) × ((List Entry) × Unit)))))))))) N (fun r3 s4 => (bif (ilt s4.2.2.2.1 s4.2.2.1) then (bif (inb s4.2.2.2.1 (ln (ix s4.2.2.2.2.2.1 s4.2.1 (Ty.dflt .mon)).Tables)) then (iter (σ := (Int × (Int × (Int × (Int × (Int × (Int × (Int × (Int × (Int × (Int × ((List Int) × ((List Mon) × ((List (List Int)) × ((List Entry) × ((List Entry) × Unit)))))))))))))))) N (fun r5 s6 => (bif (ilt s6.2.2.2.2.2.1 s6.2.2.2.2.1) then (bif (i_Ask_c ({ (ix (ix s6.2.2.2.2.2.2.2.2.2.2.2.1 s6.2.2.2.2.2.2.1 (Ty.dflt .mon)).Tables s6.2.2.2.2.2.2.2.1 (Ty.dflt .kept)) with Slots := (ix (ix s6.2.2.2.2.2.2.2.2.2.2.2.1 s6.2.2.2.2.2.2.2.2.1 (Ty.dflt .mon)).Tables s6.2.2.2.2.2.2.2.2.2.1 (Ty.dflt .kept)).Slots } : Kept) s6.2.2.2.2.2.1) then (bif (i_Ask_2 ({ (ix (ix s6.2.2.2.2.2.2.2.2.2.2.2.1 s6.2.2.2.2.2.2.1 (Ty.dflt .mon)).Tables s6.2.2.2.2.2.2.2.1 (Ty.dflt .kept)) with Slots := (ix (ix s6.2.2.2.2.2.2.2.2.2.2.2.1 s6.2.2.2.2.2.2.2.2.1 (Ty.dflt .mon)).Tables s6.2.2.2.2.2.2.2.2.2.1 (Ty.dflt .kept)).Slots } : Kept) s6.2.2.2.2.2.1) then (bif (ine (i_Ask_1 ({ (ix (ix s6.2.2.2.2.2.2.2.2.2.2.2.1 s6.2.2.2.2.2.2.1 (Ty.dflt .mon)).Tables s6.2.2.2.2.2.2.2.1 (Ty.dflt .kept)) with Slots := (ix (ix s6.2.2.2.2.2.2.2.2.2.2.2.1 s6.2.2.2.2.2.2.2.2.1 (Ty.dflt .mon)).Tables s6.2.2.2.2.2.2.2.2.2.1 (Ty.dflt .kept)).Slots } : Kept) s6.2.2.2.2.2.1).Page (-1)) then (bif (few (ln (ap s6.2.2.2.2.2.2.2.2.2.2.1 [(i_Ask_1 ({ (ix (ix s6.2.2.2.2.2.2.2.2.2.2.2.1 s6.2.2.2.2.2.2.1 (Ty.dflt .mon)).Tables s6.2.2.2.2.2.2.2.1 (Ty.dflt .kept)) with Slots := (ix (ix s6.2.2.2.2.2.2.2.2.2.2.2.1 s6.2.2.2.2.2.2.2.2.1 (Ty.dflt .mon)).Tables s6.2.2.2.2.2.2.2.2.2.1 (Ty.dflt .kept)).Slots } : Kept) s6.2.2.2.2.2.1).Page]))) then (r5 (s6.1, (s6.2.1, (s6.2.2.1, (s6.2.2.2.1, (s6.2.2.2.2.1, ((wadd .i64 s6.2.2.2.2.2.1 1), (s6.2.2.2.2.2.2.1, (s6.2.2.2.2.2.2.2.1, (s6.2.2.2.2.2.2.2.2.1, (s6.2.2.2.2.2.2.2.2.2.1, ((ap s6.2.2.2.2.2.2.2.2.2.2.1 [(i_Ask_1 ({ (ix (ix s6.2.2.2.2.2.2.2.2.2.2.2.1 s6.2.2.2.2.2.2.1 (Ty.dflt .mon)).Tables s6.2.2.2.2.2.2.2.1 (Ty.dflt .kept)) with Slots := (ix (ix s6.2.2.2.2.2.2.2.2.2.2.2.1 s6.2.2.2.2.2.2.2.2.1 (Ty.dflt .mon)).Tables s6.2.2.2.2.2.2.2.2.2.1 (Ty.dflt .kept)).Slots } : Kept) s6.2.2.2.2.2.1).Page]), (s6.2.2.2.2.2.2.2.2.2.2.2.1, (s6.2.2.2.2.2.2.2.2.2.2.2.2.1, (s6.2.2.2.2.2.2.2.2.2.2.2.2.2.1, (s6.2.2.2.2.2.2.2.2.2.2.2.2.2.2.1, ())))))))))))))))) else none) else (r5 (s6.1, (s6.2.1, (s6.2.2.1, (s6.2.2.2.1, (s6.2.2.2.2.1, ((wadd .i64 s6.2.2.2.2.2.1 1), (s6.2.2.2.2.2.2.1, (s6.2.2.2.2.2.2.2.1, (s6.2.2.2.2.2.2.2.2.1, (s6.2.2.2.2.2.2.2.2.2.1, (s6.2.2.2.2.2.2.2.2.2.2.1, (s6.2.2.2.2.2.2.2.2.2.2.2.1, (s6.2.2.2.2.2.2.2.2.2.2.2.2.1, (s6.2.2.2.2.2.2.2.2.2.2.2.2.2.1, (s6.2.2.2.2.2.2.2.2.2.2.2.2.2.2.1, ()))))))))))))))))) else (r5 (s6.1, (s6.2.1, (s6.2.2.1, (s6.2.2.2.1, (s6.2.2.2.2.1, ((wadd .i64 s6.2.2.2.2.2.1 1), (s6.2.2.2.2.2.2.1, (s6.2.2.2.2.2.2.2.1, (s6.2.2.2.2.2.2.2.2.1, (s6.2.2.2.2.2.2.2.2.2.1, (s6.2.2.2.2.2.2.2.2.2.2.1, (s6.2.2.2.2.2.2.2.2.2.2.2.1, (s6.2.2.2.2.2.2.2.2.2.2.2.2.1, (s6.2.2.2.2.2.2.2.2.2.2.2.2.2.1, (s6.2.2.2.2.2.2.2.2.2.2.2.2.2.2.1, ()))))))))))))))))) else none) else (r3 (s6.1, (s6.2.1, (s6.2.2.1, ((wadd .i64 s6.2.2.2.1 1), (s6.2.2.2.2.2.2.2.2.2.2.1, (s6.2.2.2.2.2.2.2.2.2.2.2.1, (s6.2.2.2.2.2.2.2.2.2.2.2.2.1, (s6.2.2.2.2.2.2.2.2.2.2.2.2.2.1, (s6.2.2.2.2.2.2.2.2.2.2.2.2.2.2.1, ())))))))))))) (s4.1, (s4.2.1, (s4.2.2.1, (s4.2.2.2.1, ((ln (ix (ix s4.2.2.2.2.2.1 s4.2.1 (Ty.dflt .mon)).Tables s4.2.2.2.1 (Ty.dflt .kept)).Slots), (0, (s4.2.1, (s4.2.2.2.1, (s4.2.1, (s4.2.2.2.1, (s4.2.2.2.2.1, (s4.2.2.2.2.2.1, (s4.2.2.2.2.2.2.1, (s4.2.2.2.2.2.2.2.1, (s4.2.2.2.2.2.2.2.2.1, ())))))))))))))))) else none) else (bif (few (ln (ap [] s4.2.2.2.2.2.2.2.1))) then (bif (few (ln (ap (ap [] s4.2.2.2.2.2.2.2.1) s4.2.2.2.2.2.2.2.2.1))) then (iter (σ := (Int × (Int × (Int × ((List Int) × ((List Entry) × Unit)))))) N (fun r5 s6 => (bif (ilt s6.2.2.1 s6.2.1) then (bif (inb s6.2.2.1 (ln s6.2.2.2.2.1)) then (bif (i_TagMon_c (ix s6.2.2.2.2.1 s6.2.2.1 (Ty.dflt .entry)).Tag) then (bif (ieq (i_TagMon (ix s6.2.2.2.2.1 s6.2.2.1 (Ty.dflt .entry)).Tag) s6.1) then (bif (few (ln (ap s6.2.2.2.1 [(ix s6.2.2.2.2.1 s6.2.2.1 (Ty.dflt .entry)).Host]))) then (r5 (s6.1, (s6.2.1, ((wadd .i64 s6.2.2.1 1), ((ap s6.2.2.2.1 [(ix s6.2.2.2.2.1 s6.2.2.1 (Ty.dflt .entry)).Host]), (s6.2.2.2.2.1, ())))))) else none) else (r5 (s6.1, (s6.2.1, ((wadd .i64 s6.2.2.1 1), (s6.2.2.2.1, (s6.2.2.2.2.1, ()))))))) else none) else none) else (bif (i_ascending_c s6.2.2.2.1) then (some [(.one (.s .int (i_ascending s6.2.2.2.1)))]) else none))) (s4.1, ((ln (ap (ap [] s4.2.2.2.2.2.2.2.1) s4.2.2.2.2.2.2.2.2.1)), (0, (s4.2.2.2.2.1, ((ap (ap [] s4.2.2.2.2.2.2.2.1) s4.2.2.2.2.2.2.2.2.1), ())))))) else none) else none))) (a1, (a1, ((ln (ix a0.Mons a1 (Ty.dflt .mon)).Tables), (0, ([], (a0.Mons, (a0.Memory, (a0.Buffer, (a0.IoBuffer, ())))))))))) else none)) else none)

def tms_i_Reach : FuncId → Nat → Option Tmpl := tmsOf [(7, 0, { n := 81, tm := [(1, .i .i64), (2, .lp 0 0), (5, .sl 0 []), (25, .sl 1 [7]), (26, .i .i64), (27, .i .i64)], lo := [(0, [.sl 2 [], .sl 1 [], .sl 3 [], .sl 4 []])], ro := [(0, .int, true), (1, .mon, false), (2, (.sl .int), false), (3, .entry, false), (4, .entry, false)] }), (7, 2, { n := 81, tm := [(1, .i .i64), (2, .lp 0 0), (5, .sl 0 []), (7, .lp 1 0), (25, .sl 1 [7]), (26, .i .i64), (27, .i .i64), (33, .i .i64), (34, .i .i64)], lo := [(0, [.sl 2 [], .sl 1 [], .sl 3 [], .sl 4 []]), (1, [.sl 1 [7, 0], .sl 1 [7, 1]])], ro := [(0, .int, true), (1, .mon, false), (2, (.sl .int), false), (3, .entry, false), (4, .entry, false)] }), (7, 4, { n := 81, tm := [(1, .i .i64), (5, .sl 0 []), (62, .sl 1 []), (63, .i .i64), (64, .i .i64)], lo := [], ro := [(0, .int, true), (1, .entry, true)] })]

theorem nf_i_Reach (N : Nat) (a0 : Host) (a1 : Int) : evalFn (cfgQ (aget ctrK2) (aget mctC) (aget pct0) (aget tctA)) tms_i_Reach N 12 7 [.agg (hostC a0), .one (.i .i64 a1)] = E_i_Reach N a0 a1 := by kernel_rfl

theorem law_i_Reach (a0 : Host) (a1 : Int) (hb : AllB big [.agg (hostC a0), .one (.i .i64 a1)]) (hc : (i_Reach_c a0 a1) = true) : ∃ N, E_i_Reach N a0 a1 = some [.one (.s .int (i_Reach a0 a1))] := by
  have hr := pc_iff.1 hc
  have hs := hr.1
  refine ⟨NN, ?_⟩
  have hNN : ∀ {n : Nat}, n ≤ big → n < NN := fun h => NN_lt h
  generalize NN = N at hNN ⊢
  unfold E_i_Reach i_Reach reachOf
  refine cb_t rfl ?_
  rw [show i_has a1 (ln a0.Mons) = hasB a1 (ln a0.Mons) from rfl]
  cases hh : hasB a1 (ln a0.Mons)
  · rfl
  have hK := known_c hs hh
  have hm := hs.mons.inv.2 _ (ix_mem hh (Ty.dflt .mon))
  have hT : CVB sm (.s .kept (ix a0.Mons a1 (Ty.dflt .mon)).Tables) := hm _ (by simp [Ty.cells])
  have hTb := (sm_big hT.len).1
  have hsl := hr.2 hh
  have h5 := hs.buf.len
  have h6 := hs.iob.len
  unfold sm at h5 h6
  have hA := reachA_len (ix a0.Mons a1 (Ty.dflt .mon)).Tables
  refine cb_f rfl (cb_t (inb_has hh) ?_)
  refine (iter_list ((ix a0.Mons a1 (Ty.dflt .mon)).Tables) (fun i (t : (List Int)) => (a1, a1, (ln (ix a0.Mons a1 (Ty.dflt .mon)).Tables), (i : Int), t, a0.Mons, a0.Memory, a0.Buffer, a0.IoBuffer, ())) _ (fun _ (x : Kept) (t : List Int) κ => goL (fun j (_ : Slot) u κ₁ => appB (askP x j) u κ₁) κ x.Slots 0 t) (fun (t : (List Int)) => (bif (few (ln (ap [] a0.Buffer))) then (bif (few (ln (ap (ap [] a0.Buffer) a0.IoBuffer))) then (iter (σ := (Int × (Int × (Int × ((List Int) × ((List Entry) × Unit)))))) N (fun r5 s6 => (bif (ilt s6.2.2.1 s6.2.1) then (bif (inb s6.2.2.1 (ln s6.2.2.2.2.1)) then (bif (i_TagMon_c (ix s6.2.2.2.2.1 s6.2.2.1 (Ty.dflt .entry)).Tag) then (bif (ieq (i_TagMon (ix s6.2.2.2.2.1 s6.2.2.1 (Ty.dflt .entry)).Tag) s6.1) then (bif (few (ln (ap s6.2.2.2.1 [(ix s6.2.2.2.2.1 s6.2.2.1 (Ty.dflt .entry)).Host]))) then (r5 (s6.1, (s6.2.1, ((wadd .i64 s6.2.2.1 1), ((ap s6.2.2.2.1 [(ix s6.2.2.2.2.1 s6.2.2.1 (Ty.dflt .entry)).Host]), (s6.2.2.2.2.1, ())))))) else none) else (r5 (s6.1, (s6.2.1, ((wadd .i64 s6.2.2.1 1), (s6.2.2.2.1, (s6.2.2.2.2.1, ()))))))) else none) else none) else (bif (i_ascending_c s6.2.2.2.1) then (some [(.one (.s .int (i_ascending s6.2.2.2.1)))]) else none))) (a1, ((ln (ap (ap [] a0.Buffer) a0.IoBuffer)), (0, (t, ((ap (ap [] a0.Buffer) a0.IoBuffer), ())))))) else none) else none)) (fun i hi t rec => ?_) (fun t rec => ?_) _ ([]) (hNN hTb)).trans ?_
  · simp only [ilt_ln hi, inb_ln hi, ix_ln hi, wadd_up hi hTb, cT]
    obtain ⟨hk1, hk2⟩ := hK _ (List.getElem_mem hi)
    have hkb := (sm_big (n := (ix a0.Mons a1 (Ty.dflt .mon)).Tables[i].Slots.length) hk2).1
    refine (iter_list (((ix a0.Mons a1 (Ty.dflt .mon)).Tables)[i].Slots) (fun j (u : (List Int)) => (a1, a1, (ln (ix a0.Mons a1 (Ty.dflt .mon)).Tables), (i : Int), (ln ((ix a0.Mons a1 (Ty.dflt .mon)).Tables)[i].Slots), (j : Int), a1, (i : Int), a1, (i : Int), u, a0.Mons, a0.Memory, a0.Buffer, a0.IoBuffer, ())) _ (fun j (_ : Slot) (u : List Int) κ₁ => appB (askP (ix a0.Mons a1 (Ty.dflt .mon)).Tables[i] j) u κ₁) (fun (u : (List Int)) => (rec (a1, (a1, ((ln (ix a0.Mons a1 (Ty.dflt .mon)).Tables), ((((i + 1 : Nat)) : Int), (u, (a0.Mons, (a0.Memory, (a0.Buffer, (a0.IoBuffer, ()))))))))))) (fun j hj u rec1 => ?_) (fun u rec1 => ?_) _ (t) (hNN hkb)).trans ?_
    · simp only [ilt_ln hj, inb_ln hj, ix_ln hj, wadd_up hj hkb, cT, inb_ln hi, ix_ln hi, wadd_up hi hTb, inb_has hh]
      simp only [i_Ask_c, i_Ask_1, i_Ask_2, cT]
      unfold askP pageK
      cases known (ix a0.Mons a1 (Ty.dflt .mon)).Tables[i] (j : Int)
      · rfl
      · cases ine (askAt (ix a0.Mons a1 (Ty.dflt .mon)).Tables[i] (j : Int)).Page (-1) <;> rfl
    · simp only [ilt_end, cF, inb_ln hi, ix_ln hi, wadd_up hi hTb, inb_has hh]
    rfl
  · simp only [ilt_end, cF]
  rw [goL_reachI _ _ 0 [] (by simp; omega)]
  refine cb_t (few_le (by rw [ap_nil]; omega)) (cb_t (few_le (by rw [ap_nil]; simp only [ap, List.length_append]; omega)) ?_)
  have hbl : (ap (ap [] a0.Buffer) a0.IoBuffer).length ≤ big := by rw [big_val, ap_nil]; simp only [ap, List.length_append]; omega
  obtain ⟨t, ht⟩ : ∃ t, t = [] ++ reachA (ix a0.Mons a1 (Ty.dflt .mon)).Tables := ⟨_, rfl⟩
  rw [← ht]
  refine (iter_list (ap (ap [] a0.Buffer) a0.IoBuffer) (fun j (u : (List Int)) => (a1, (ln (ap (ap [] a0.Buffer) a0.IoBuffer)), (j : Int), u, (ap (ap [] a0.Buffer) a0.IoBuffer), ())) _ (fun _ (y : Entry) (u : List Int) κ => appB (tagP a1 y) u κ) (fun (u : (List Int)) => (bif (i_ascending_c u) then (some [(.one (.s .int (i_ascending u)))]) else none)) (fun j hj u rec1 => ?_) (fun u rec1 => ?_) _ (t) (hNN hbl)).trans ?_
  · simp only [ilt_ln hj, inb_ln hj, ix_ln hj, wadd_up hj hbl, cT]
    unfold tagP
    simp only [i_TagMon_c, i_TagMon, cT]
    cases ieq (tagMon (ap (ap [] a0.Buffer) a0.IoBuffer)[j].Tag) a1 <;> rfl
  · simp only [ilt_end, cF]
  subst ht
  rw [goL_app (fun _ y => tagP a1 y) _ _ 0 _ (by rw [ap_nil]; simp only [ap, List.length_append, List.length_nil]; omega)]
  rfl
theorem holds_i_Reach : Holds Tryz.prog 7 run_i_Reach := by
  refine holds_of_eval (engQ_ok ctrK2_ok mctC_ok pct0_ok tctA_ok) (fn_ok (by kernel_rfl)) ?_
  intro avs rs hr h
  have hb := allB_of_rep hr
  unfold run_i_Reach at h
  split at h
  · rename_i a0_0 a0_1 a0_2 a0_3 a1
    obtain ⟨hc, rfl⟩ := some_pair h
    obtain ⟨N, hN⟩ := law_i_Reach (⟨a0_0, a0_1, a0_2, a0_3⟩ : Host) a1 hb hc
    exact ⟨tms_i_Reach, N, 12, (nf_i_Reach N (⟨a0_0, a0_1, a0_2, a0_3⟩ : Host) a1).trans hN⟩
  · cases h

noncomputable def ctrReach : Ctrs := [(5, run_s_Reach), (7, run_i_Reach)] ++ ctrK2

theorem ctrReach_ok : ∀ f run, aget ctrReach f = some run → Holds Tryz.prog f run := ctr_more ctrK2_ok (by
  intro x hx
  simp only [List.mem_cons, List.not_mem_nil, or_false] at hx
  rcases hx with rfl | rfl
  · exact holds_s_Reach
  · exact holds_i_Reach)


/-! What was counted bounds what tables may lead to. -/
theorem mcL_slot : ∀ l : List Slot, mcL mSlot l = 2 * (l.length : Int)
  | [] => rfl
  | x :: l => by simp only [mcL, mcL_slot l, mSlot, List.length_cons]; omega
theorem slotsN_le : ∀ l : List Kept, 2 * (slotsN l : Int) ≤ mcL mKept l
  | [] => Int.le_refl _
  | k :: l => by
    have h1 := slotsN_le l
    have h2 := mcL_slot k.Slots
    have h3 := mcL_nn (m := mBool) (fun _ => by unfold mBool; decide) k.Known
    have h4 : mKept k = mcL mBool k.Known + mcL mSlot k.Slots := rfl
    simp only [slotsN, mcL]
    omega
theorem mcL_mem {α : Type} {m : α → Int} (h : ∀ x, 0 ≤ m x) {x : α} : ∀ {l : List α}, x ∈ l → m x ≤ mcL m l
  | y :: l, hx => by
    have h1 := mcL_nn h l
    have h2 := h y
    rcases List.mem_cons.1 hx with rfl | hx
    · simp only [mcL]; omega
    · have := mcL_mem h hx
      simp only [mcL]; omega
theorem reach_ok {h : Host} {n : Int} (hs : SmHost h) (h0 : 0 ≤ n) (h1 : n ≤ 1048576) (hp : 0 ≤ l_szHost h n) (m : Int) : ReachOk h m := by
  refine ⟨hs, fun hh => ?_⟩
  obtain ⟨hle, hw⟩ := W_Host h n h0 h1
  have hw := hw hp
  have n1 := mcL_nn MkIntS.nn h.Memory
  have n3 := mcL_nn MkEntry.nn h.Buffer
  have n4 := mcL_nn MkEntry.nn h.IoBuffer
  have hm := mcL_mem MkMon.nn (ix_mem hh (Ty.dflt .mon))
  have hx := slotsN_le (ix h.Mons m (Ty.dflt .mon)).Tables
  have a1 := mcL_nn MkSlot.nn (ix h.Mons m (Ty.dflt .mon)).Outer
  have a2 := mcL_nn MkIntS.nn (ix h.Mons m (Ty.dflt .mon)).Out
  have a3 := mcL_nn MkBool.nn (ix h.Mons m (Ty.dflt .mon)).Dirty
  have a4 := mcL_nn MkGuest.nn (ix h.Mons m (Ty.dflt .mon)).Guests
  have a5 := mcL_nn MkInt.nn (ix h.Mons m (Ty.dflt .mon)).Outs
  unfold mHost at hw
  generalize ix h.Mons m (Ty.dflt .mon) = x at *
  have e : mMon x = mcL mSlot x.Outer + mcL mIntS x.Out + mcL mBool x.Dirty + mcL mGuest x.Guests + mcL mInt x.Outs + mcL mKept x.Tables + 3 := rfl
  omega
end Go.Proofs.YtkpakifgplcolaaGreat.E
