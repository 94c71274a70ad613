/- What is proved here: contracts of what TablesRight, EntriesRight and IsDirty reach. -/
import Derived.Test.YtglijfolfelimaaA3
import Derived.KernelRfl
namespace Go.Proofs.Ytglijfolfelimaa.E
open Go
set_option maxRecDepth 100000
set_option linter.unusedVariables false
set_option linter.unusedSimpArgs false

/-! Rights, slots. -/

def noSlot : Slot := ⟨-1, 0⟩
def s_NoSlot_c : Bool := true
def s_NoSlot : Slot := noSlot
noncomputable def run_s_NoSlot : List AV → Option (Bool × List AV)
  | [] => some (s_NoSlot_c, [.agg (Ty.cells .slot s_NoSlot)])
  | _ => none

noncomputable def E_s_NoSlot (N : Nat)  : Option Ans :=
  (some [(.agg [(.i .i64 (-1)), (.i .i64 0)])])

theorem nf_s_NoSlot (N : Nat)  : evalFn (cfgQ (aget ctrY) (aget mct0) (aget pct0)) (tmsOf []) N 12 93 [] = E_s_NoSlot N := by kernel_rfl

theorem law_s_NoSlot  (hb : AllB big []) (hc : s_NoSlot_c = true) : ∃ N, E_s_NoSlot N  = some [.agg (Ty.cells .slot s_NoSlot)] := by
  exact ⟨0, rfl⟩
theorem holds_s_NoSlot : Holds Try.prog 93 run_s_NoSlot := by
  refine holds_of_eval (engQ_ok ctrY_ok mct0_ok pct0_ok) (fn_ok (by kernel_rfl)) ?_
  intro avs rs hr h
  have hb := allB_of_rep hr
  unfold run_s_NoSlot at h
  split at h
  · skip
    obtain ⟨hc, rfl⟩ := some_pair h
    obtain ⟨N, hN⟩ := law_s_NoSlot  hb hc
    exact ⟨tmsOf [], N, 12, (nf_s_NoSlot N ).trans hN⟩
  · cases h

def i_NoSlot_c : Bool := true
def i_NoSlot : Slot := noSlot
noncomputable def run_i_NoSlot : List AV → Option (Bool × List AV)
  | [] => some (i_NoSlot_c, [.agg (Ty.cells .slot i_NoSlot)])
  | _ => none

noncomputable def E_i_NoSlot (N : Nat)  : Option Ans :=
  (some [(.agg [(.i .i64 (-1)), (.i .i64 0)])])

theorem nf_i_NoSlot (N : Nat)  : evalFn (cfgQ (aget ctrY) (aget mct0) (aget pct0)) (tmsOf []) N 12 94 [] = E_i_NoSlot N := by kernel_rfl

theorem law_i_NoSlot  (hb : AllB big []) (hc : i_NoSlot_c = true) : ∃ N, E_i_NoSlot N  = some [.agg (Ty.cells .slot i_NoSlot)] := by
  exact ⟨0, rfl⟩
theorem holds_i_NoSlot : Holds Try.prog 94 run_i_NoSlot := by
  refine holds_of_eval (engQ_ok ctrY_ok mct0_ok pct0_ok) (fn_ok (by kernel_rfl)) ?_
  intro avs rs hr h
  have hb := allB_of_rep hr
  unfold run_i_NoSlot at h
  split at h
  · skip
    obtain ⟨hc, rfl⟩ := some_pair h
    obtain ⟨N, hN⟩ := law_i_NoSlot  hb hc
    exact ⟨tmsOf [], N, 12, (nf_i_NoSlot N ).trans hN⟩
  · cases h

def i_within_c (_ _ _ : Int) : Bool := true
def i_within (x a b : Int) : Bool := ige x a && ile x b
noncomputable def run_i_within : List AV → Option (Bool × List AV)
  | [.one (.i .i64 a0), .one (.i .i64 a1), .one (.i .i64 a2)] => some ((i_within_c a0 a1 a2), [.one (.b (i_within a0 a1 a2))])
  | _ => none

noncomputable def E_i_within (N : Nat) (a0 : Int) (a1 : Int) (a2 : Int) : Option Ans :=
  (bif (ige a0 a1) then (some [(.one (.b (ile a0 a2)))]) else (some [(.one (.b false))]))

theorem nf_i_within (N : Nat) (a0 : Int) (a1 : Int) (a2 : Int) : evalFn (cfgQ (aget ctrY) (aget mct0) (aget pct0)) (tmsOf []) N 12 96 [.one (.i .i64 a0), .one (.i .i64 a1), .one (.i .i64 a2)] = E_i_within N a0 a1 a2 := by kernel_rfl

theorem law_i_within (a0 : Int) (a1 : Int) (a2 : Int) (hb : AllB big [.one (.i .i64 a0), .one (.i .i64 a1), .one (.i .i64 a2)]) (hc : (i_within_c a0 a1 a2) = true) : ∃ N, E_i_within N a0 a1 a2 = some [.one (.b (i_within a0 a1 a2))] := by
  refine ⟨0, ?_⟩
  unfold E_i_within i_within
  cases ige a0 a1 <;> rfl
theorem holds_i_within : Holds Try.prog 96 run_i_within := by
  refine holds_of_eval (engQ_ok ctrY_ok mct0_ok pct0_ok) (fn_ok (by kernel_rfl)) ?_
  intro avs rs hr h
  have hb := allB_of_rep hr
  unfold run_i_within at h
  split at h
  · rename_i a0 a1 a2
    obtain ⟨hc, rfl⟩ := some_pair h
    obtain ⟨N, hN⟩ := law_i_within a0 a1 a2 hb hc
    exact ⟨tmsOf [], N, 12, (nf_i_within N a0 a1 a2).trans hN⟩
  · cases h

noncomputable def ctrC1 : Ctrs := [(93, run_s_NoSlot), (94, run_i_NoSlot), (96, run_i_within)] ++ ctrY

theorem ctrC1_ok : ∀ f run, aget ctrC1 f = some run → Holds Try.prog f run := ctr_more ctrY_ok (by
  intro x hx
  simp only [List.mem_cons, List.not_mem_nil, or_false] at hx
  rcases hx with rfl | rfl | rfl
  · exact holds_s_NoSlot
  · exact holds_i_NoSlot
  · exact holds_i_within)


def rightsOk (r : Int) : Bool := ige r 0 && ile r 3
def s_RightsOk_c (_ : Int) : Bool := true
def s_RightsOk (r : Int) : Bool := rightsOk r
noncomputable def run_s_RightsOk : List AV → Option (Bool × List AV)
  | [.one (.i .i64 a0)] => some ((s_RightsOk_c a0), [.one (.b (s_RightsOk a0))])
  | _ => none

noncomputable def E_s_RightsOk (N : Nat) (a0 : Int) : Option Ans :=
  (bif (s_l01In_c a0 0 3) then (some [(.one (.b (s_l01In a0 0 3)))]) else none)

theorem nf_s_RightsOk (N : Nat) (a0 : Int) : evalFn (cfgQ (aget ctrC1) (aget mct0) (aget pct0)) (tmsOf []) N 12 102 [.one (.i .i64 a0)] = E_s_RightsOk N a0 := by kernel_rfl

theorem law_s_RightsOk (a0 : Int) (hb : AllB big [.one (.i .i64 a0)]) (hc : (s_RightsOk_c a0) = true) : ∃ N, E_s_RightsOk N a0 = some [.one (.b (s_RightsOk a0))] := by
  exact ⟨0, rfl⟩
theorem holds_s_RightsOk : Holds Try.prog 102 run_s_RightsOk := by
  refine holds_of_eval (engQ_ok ctrC1_ok mct0_ok pct0_ok) (fn_ok (by kernel_rfl)) ?_
  intro avs rs hr h
  have hb := allB_of_rep hr
  unfold run_s_RightsOk at h
  split at h
  · rename_i a0
    obtain ⟨hc, rfl⟩ := some_pair h
    obtain ⟨N, hN⟩ := law_s_RightsOk a0 hb hc
    exact ⟨tmsOf [], N, 12, (nf_s_RightsOk N a0).trans hN⟩
  · cases h

def i_RightsOk_c (_ : Int) : Bool := true
def i_RightsOk (r : Int) : Bool := rightsOk r
noncomputable def run_i_RightsOk : List AV → Option (Bool × List AV)
  | [.one (.i .i64 a0)] => some ((i_RightsOk_c a0), [.one (.b (i_RightsOk a0))])
  | _ => none

noncomputable def E_i_RightsOk (N : Nat) (a0 : Int) : Option Ans :=
  (bif (i_within_c a0 0 3) then (some [(.one (.b (i_within a0 0 3)))]) else none)

theorem nf_i_RightsOk (N : Nat) (a0 : Int) : evalFn (cfgQ (aget ctrC1) (aget mct0) (aget pct0)) (tmsOf []) N 12 103 [.one (.i .i64 a0)] = E_i_RightsOk N a0 := by kernel_rfl

theorem law_i_RightsOk (a0 : Int) (hb : AllB big [.one (.i .i64 a0)]) (hc : (i_RightsOk_c a0) = true) : ∃ N, E_i_RightsOk N a0 = some [.one (.b (i_RightsOk a0))] := by
  exact ⟨0, rfl⟩
theorem holds_i_RightsOk : Holds Try.prog 103 run_i_RightsOk := by
  refine holds_of_eval (engQ_ok ctrC1_ok mct0_ok pct0_ok) (fn_ok (by kernel_rfl)) ?_
  intro avs rs hr h
  have hb := allB_of_rep hr
  unfold run_i_RightsOk at h
  split at h
  · rename_i a0
    obtain ⟨hc, rfl⟩ := some_pair h
    obtain ⟨N, hN⟩ := law_i_RightsOk a0 hb hc
    exact ⟨tmsOf [], N, 12, (nf_i_RightsOk N a0).trans hN⟩
  · cases h

noncomputable def ctrC2 : Ctrs := [(102, run_s_RightsOk), (103, run_i_RightsOk)] ++ ctrC1

theorem ctrC2_ok : ∀ f run, aget ctrC2 f = some run → Holds Try.prog f run := ctr_more ctrC1_ok (by
  intro x hx
  simp only [List.mem_cons, List.not_mem_nil, or_false] at hx
  rcases hx with rfl | rfl
  · exact holds_s_RightsOk
  · exact holds_i_RightsOk)


def bothRights (a b : Int) : Int := bif rightsOk a then (bif rightsOk b then wand .i64 a b else 0) else 0
def s_BothRights_c (_ _ : Int) : Bool := true
def s_BothRights (a b : Int) : Int := bothRights a b
noncomputable def run_s_BothRights : List AV → Option (Bool × List AV)
  | [.one (.i .i64 a0), .one (.i .i64 a1)] => some ((s_BothRights_c a0 a1), [.one (.i .i64 (s_BothRights a0 a1))])
  | _ => none

noncomputable def E_s_BothRights (N : Nat) (a0 : Int) (a1 : Int) : Option Ans :=
  (bif (s_RightsOk_c a0) then (bif (bif (s_RightsOk a0) then false else true) then (some [(.one (.i .i64 0))]) else (bif (s_RightsOk_c a1) then (bif (bif (s_RightsOk a1) then false else true) then (some [(.one (.i .i64 0))]) else (some [(.one (.i .i64 (wand .i64 a0 a1)))])) else none)) else none)

theorem nf_s_BothRights (N : Nat) (a0 : Int) (a1 : Int) : evalFn (cfgQ (aget ctrC2) (aget mct0) (aget pct0)) (tmsOf []) N 12 95 [.one (.i .i64 a0), .one (.i .i64 a1)] = E_s_BothRights N a0 a1 := by kernel_rfl

theorem law_s_BothRights (a0 : Int) (a1 : Int) (hb : AllB big [.one (.i .i64 a0), .one (.i .i64 a1)]) (hc : (s_BothRights_c a0 a1) = true) : ∃ N, E_s_BothRights N a0 a1 = some [.one (.i .i64 (s_BothRights a0 a1))] := by
  refine ⟨0, ?_⟩
  unfold E_s_BothRights s_BothRights bothRights s_RightsOk
  cases rightsOk a0 <;> cases rightsOk a1 <;> rfl
theorem holds_s_BothRights : Holds Try.prog 95 run_s_BothRights := by
  refine holds_of_eval (engQ_ok ctrC2_ok mct0_ok pct0_ok) (fn_ok (by kernel_rfl)) ?_
  intro avs rs hr h
  have hb := allB_of_rep hr
  unfold run_s_BothRights at h
  split at h
  · rename_i a0 a1
    obtain ⟨hc, rfl⟩ := some_pair h
    obtain ⟨N, hN⟩ := law_s_BothRights a0 a1 hb hc
    exact ⟨tmsOf [], N, 12, (nf_s_BothRights N a0 a1).trans hN⟩
  · cases h

def i_BothRights_c (_ _ : Int) : Bool := true
def i_BothRights (a b : Int) : Int := bothRights a b
noncomputable def run_i_BothRights : List AV → Option (Bool × List AV)
  | [.one (.i .i64 a0), .one (.i .i64 a1)] => some ((i_BothRights_c a0 a1), [.one (.i .i64 (i_BothRights a0 a1))])
  | _ => none

noncomputable def E_i_BothRights (N : Nat) (a0 : Int) (a1 : Int) : Option Ans :=
  (bif (i_RightsOk_c a0) then (bif (bif (i_RightsOk a0) then false else true) then (some [(.one (.i .i64 0))]) else (bif (i_RightsOk_c a1) then (bif (bif (i_RightsOk a1) then false else true) then (some [(.one (.i .i64 0))]) else (some [(.one (.i .i64 (wand .i64 a0 a1)))])) else none)) else none)

theorem nf_i_BothRights (N : Nat) (a0 : Int) (a1 : Int) : evalFn (cfgQ (aget ctrC2) (aget mct0) (aget pct0)) (tmsOf []) N 12 97 [.one (.i .i64 a0), .one (.i .i64 a1)] = E_i_BothRights N a0 a1 := by kernel_rfl

theorem law_i_BothRights (a0 : Int) (a1 : Int) (hb : AllB big [.one (.i .i64 a0), .one (.i .i64 a1)]) (hc : (i_BothRights_c a0 a1) = true) : ∃ N, E_i_BothRights N a0 a1 = some [.one (.i .i64 (i_BothRights a0 a1))] := by
  refine ⟨0, ?_⟩
  unfold E_i_BothRights i_BothRights bothRights i_RightsOk
  cases rightsOk a0 <;> cases rightsOk a1 <;> rfl
theorem holds_i_BothRights : Holds Try.prog 97 run_i_BothRights := by
  refine holds_of_eval (engQ_ok ctrC2_ok mct0_ok pct0_ok) (fn_ok (by kernel_rfl)) ?_
  intro avs rs hr h
  have hb := allB_of_rep hr
  unfold run_i_BothRights at h
  split at h
  · rename_i a0 a1
    obtain ⟨hc, rfl⟩ := some_pair h
    obtain ⟨N, hN⟩ := law_i_BothRights a0 a1 hb hc
    exact ⟨tmsOf [], N, 12, (nf_i_BothRights N a0 a1).trans hN⟩
  · cases h

def enough (a b : Int) : Bool := bif rightsOk a then (bif rightsOk b then ieq (wand .i64 a b) b else false) else false
def s_Enough_c (_ _ : Int) : Bool := true
def s_Enough (a b : Int) : Bool := enough a b
noncomputable def run_s_Enough : List AV → Option (Bool × List AV)
  | [.one (.i .i64 a0), .one (.i .i64 a1)] => some ((s_Enough_c a0 a1), [.one (.b (s_Enough a0 a1))])
  | _ => none

noncomputable def E_s_Enough (N : Nat) (a0 : Int) (a1 : Int) : Option Ans :=
  (bif (s_RightsOk_c a0) then (bif (s_RightsOk a0) then (bif (s_RightsOk_c a1) then (bif (s_RightsOk a1) then (some [(.one (.b (ieq (wand .i64 a0 a1) a1)))]) else (some [(.one (.b false))])) else none) else (some [(.one (.b false))])) else none)

theorem nf_s_Enough (N : Nat) (a0 : Int) (a1 : Int) : evalFn (cfgQ (aget ctrC2) (aget mct0) (aget pct0)) (tmsOf []) N 12 77 [.one (.i .i64 a0), .one (.i .i64 a1)] = E_s_Enough N a0 a1 := by kernel_rfl

theorem law_s_Enough (a0 : Int) (a1 : Int) (hb : AllB big [.one (.i .i64 a0), .one (.i .i64 a1)]) (hc : (s_Enough_c a0 a1) = true) : ∃ N, E_s_Enough N a0 a1 = some [.one (.b (s_Enough a0 a1))] := by
  refine ⟨0, ?_⟩
  unfold E_s_Enough s_Enough enough s_RightsOk
  cases rightsOk a0 <;> cases rightsOk a1 <;> rfl
theorem holds_s_Enough : Holds Try.prog 77 run_s_Enough := by
  refine holds_of_eval (engQ_ok ctrC2_ok mct0_ok pct0_ok) (fn_ok (by kernel_rfl)) ?_
  intro avs rs hr h
  have hb := allB_of_rep hr
  unfold run_s_Enough at h
  split at h
  · rename_i a0 a1
    obtain ⟨hc, rfl⟩ := some_pair h
    obtain ⟨N, hN⟩ := law_s_Enough a0 a1 hb hc
    exact ⟨tmsOf [], N, 12, (nf_s_Enough N a0 a1).trans hN⟩
  · cases h

def i_Enough_c (_ _ : Int) : Bool := true
def i_Enough (a b : Int) : Bool := enough a b
noncomputable def run_i_Enough : List AV → Option (Bool × List AV)
  | [.one (.i .i64 a0), .one (.i .i64 a1)] => some ((i_Enough_c a0 a1), [.one (.b (i_Enough a0 a1))])
  | _ => none

noncomputable def E_i_Enough (N : Nat) (a0 : Int) (a1 : Int) : Option Ans :=
  (bif (i_RightsOk_c a0) then (bif (i_RightsOk a0) then (bif (i_RightsOk_c a1) then (bif (i_RightsOk a1) then (some [(.one (.b (ieq (wand .i64 a0 a1) a1)))]) else (some [(.one (.b false))])) else none) else (some [(.one (.b false))])) else none)

theorem nf_i_Enough (N : Nat) (a0 : Int) (a1 : Int) : evalFn (cfgQ (aget ctrC2) (aget mct0) (aget pct0)) (tmsOf []) N 12 79 [.one (.i .i64 a0), .one (.i .i64 a1)] = E_i_Enough N a0 a1 := by kernel_rfl

theorem law_i_Enough (a0 : Int) (a1 : Int) (hb : AllB big [.one (.i .i64 a0), .one (.i .i64 a1)]) (hc : (i_Enough_c a0 a1) = true) : ∃ N, E_i_Enough N a0 a1 = some [.one (.b (i_Enough a0 a1))] := by
  refine ⟨0, ?_⟩
  unfold E_i_Enough i_Enough enough i_RightsOk
  cases rightsOk a0 <;> cases rightsOk a1 <;> rfl
theorem holds_i_Enough : Holds Try.prog 79 run_i_Enough := by
  refine holds_of_eval (engQ_ok ctrC2_ok mct0_ok pct0_ok) (fn_ok (by kernel_rfl)) ?_
  intro avs rs hr h
  have hb := allB_of_rep hr
  unfold run_i_Enough at h
  split at h
  · rename_i a0 a1
    obtain ⟨hc, rfl⟩ := some_pair h
    obtain ⟨N, hN⟩ := law_i_Enough a0 a1 hb hc
    exact ⟨tmsOf [], N, 12, (nf_i_Enough N a0 a1).trans hN⟩
  · cases h


def slotAt (t : List Slot) (p : Int) : Slot := bif hasB p (ln t) then ix t p (Ty.dflt .slot) else noSlot
def s_SlotAt_c (_ : List Slot) (_ : Int) : Bool := true
def s_SlotAt (t : List Slot) (p : Int) : Slot := slotAt t p
noncomputable def run_s_SlotAt : List AV → Option (Bool × List AV)
  | [.one (.s .slot a0), .one (.i .i64 a1)] => some ((s_SlotAt_c a0 a1), [.agg (Ty.cells .slot (s_SlotAt a0 a1))])
  | _ => none

noncomputable def E_s_SlotAt (N : Nat) (a0 : List Slot) (a1 : Int) : Option Ans :=
  (bif (s_l01In_c a1 0 (wsub .i64 (ln a0) 1)) then (bif (bif (s_l01In a1 0 (wsub .i64 (ln a0) 1)) then false else true) then (bif s_NoSlot_c then (some [(.agg [(.i .i64 s_NoSlot.Page), (.i .i64 s_NoSlot.Rights)])]) else none) else (bif (inb a1 (ln a0)) then (some [(.agg [(.i .i64 (ix a0 a1 (Ty.dflt .slot)).Page), (.i .i64 (ix a0 a1 (Ty.dflt .slot)).Rights)])]) else none)) else none)

theorem nf_s_SlotAt (N : Nat) (a0 : List Slot) (a1 : Int) : evalFn (cfgQ (aget ctrC2) (aget mct0) (aget pct0)) (tmsOf []) N 12 60 [.one (.s .slot a0), .one (.i .i64 a1)] = E_s_SlotAt N a0 a1 := by kernel_rfl

theorem law_s_SlotAt (a0 : List Slot) (a1 : Int) (hb : AllB big [.one (.s .slot a0), .one (.i .i64 a1)]) (hc : (s_SlotAt_c a0 a1) = true) : ∃ N, E_s_SlotAt N a0 a1 = some [.agg (Ty.cells .slot (s_SlotAt a0 a1))] := by
  have hl := ((allB_cons hb).1 _ (List.mem_singleton.2 rfl)).len
  refine ⟨0, ?_⟩
  unfold E_s_SlotAt s_SlotAt slotAt
  have e : s_l01In a1 0 (wsub .i64 (ln a0) 1) = hasB a1 (ln a0) := l01In_len' hl a1
  rw [e]
  cases hh : hasB a1 (ln a0)
  · rfl
  · rw [inb_has hh]; rfl
theorem holds_s_SlotAt : Holds Try.prog 60 run_s_SlotAt := by
  refine holds_of_eval (engQ_ok ctrC2_ok mct0_ok pct0_ok) (fn_ok (by kernel_rfl)) ?_
  intro avs rs hr h
  have hb := allB_of_rep hr
  unfold run_s_SlotAt at h
  split at h
  · rename_i a0 a1
    obtain ⟨hc, rfl⟩ := some_pair h
    obtain ⟨N, hN⟩ := law_s_SlotAt a0 a1 hb hc
    exact ⟨tmsOf [], N, 12, (nf_s_SlotAt N a0 a1).trans hN⟩
  · cases h

def i_SlotAt_c (_ : List Slot) (_ : Int) : Bool := true
def i_SlotAt (t : List Slot) (p : Int) : Slot := slotAt t p
noncomputable def run_i_SlotAt : List AV → Option (Bool × List AV)
  | [.one (.s .slot a0), .one (.i .i64 a1)] => some ((i_SlotAt_c a0 a1), [.agg (Ty.cells .slot (i_SlotAt a0 a1))])
  | _ => none

noncomputable def E_i_SlotAt (N : Nat) (a0 : List Slot) (a1 : Int) : Option Ans :=
  (bif (i_has_c a1 (ln a0)) then (bif (bif (i_has a1 (ln a0)) then false else true) then (bif i_NoSlot_c then (some [(.agg [(.i .i64 i_NoSlot.Page), (.i .i64 i_NoSlot.Rights)])]) else none) else (bif (inb a1 (ln a0)) then (some [(.agg [(.i .i64 (ix a0 a1 (Ty.dflt .slot)).Page), (.i .i64 (ix a0 a1 (Ty.dflt .slot)).Rights)])]) else none)) else none)

theorem nf_i_SlotAt (N : Nat) (a0 : List Slot) (a1 : Int) : evalFn (cfgQ (aget ctrC2) (aget mct0) (aget pct0)) (tmsOf []) N 12 67 [.one (.s .slot a0), .one (.i .i64 a1)] = E_i_SlotAt N a0 a1 := by kernel_rfl

theorem law_i_SlotAt (a0 : List Slot) (a1 : Int) (hb : AllB big [.one (.s .slot a0), .one (.i .i64 a1)]) (hc : (i_SlotAt_c a0 a1) = true) : ∃ N, E_i_SlotAt N a0 a1 = some [.agg (Ty.cells .slot (i_SlotAt a0 a1))] := by
  refine ⟨0, ?_⟩
  unfold E_i_SlotAt i_SlotAt slotAt i_has
  cases hh : hasB a1 (ln a0)
  · rfl
  · rw [inb_has hh]; rfl
theorem holds_i_SlotAt : Holds Try.prog 67 run_i_SlotAt := by
  refine holds_of_eval (engQ_ok ctrC2_ok mct0_ok pct0_ok) (fn_ok (by kernel_rfl)) ?_
  intro avs rs hr h
  have hb := allB_of_rep hr
  unfold run_i_SlotAt at h
  split at h
  · rename_i a0 a1
    obtain ⟨hc, rfl⟩ := some_pair h
    obtain ⟨N, hN⟩ := law_i_SlotAt a0 a1 hb hc
    exact ⟨tmsOf [], N, 12, (nf_i_SlotAt N a0 a1).trans hN⟩
  · cases h

noncomputable def ctrC3 : Ctrs := [(95, run_s_BothRights), (97, run_i_BothRights), (77, run_s_Enough), (79, run_i_Enough), (60, run_s_SlotAt), (67, run_i_SlotAt)] ++ ctrC2

theorem ctrC3_ok : ∀ f run, aget ctrC3 f = some run → Holds Try.prog f run := ctr_more ctrC2_ok (by
  intro x hx
  simp only [List.mem_cons, List.not_mem_nil, or_false] at hx
  rcases hx with rfl | rfl | rfl | rfl | rfl | rfl
  · exact holds_s_BothRights
  · exact holds_i_BothRights
  · exact holds_s_Enough
  · exact holds_i_Enough
  · exact holds_s_SlotAt
  · exact holds_i_SlotAt)


def slotEq (a b : Slot) : Bool := ieq a.Page b.Page && ieq a.Rights b.Rights
def below' (a b : Slot) : Bool := bif slotEq a noSlot then true else (bif ieq a.Page b.Page then enough b.Rights a.Rights else false)
def s_Below_c (_ _ : Slot) : Bool := true
def s_Below (a b : Slot) : Bool := below' a b
noncomputable def run_s_Below : List AV → Option (Bool × List AV)
  | [.agg [.i .i64 a0_0, .i .i64 a0_1], .agg [.i .i64 a1_0, .i .i64 a1_1]] => some ((s_Below_c (⟨a0_0, a0_1⟩ : Slot) (⟨a1_0, a1_1⟩ : Slot)), [.one (.b (s_Below (⟨a0_0, a0_1⟩ : Slot) (⟨a1_0, a1_1⟩ : Slot)))])
  | _ => none

noncomputable def E_s_Below (N : Nat) (a0 : Slot) (a1 : Slot) : Option Ans :=
  (bif s_NoSlot_c then (bif (bif (ieq a0.Page s_NoSlot.Page) then (ieq a0.Rights s_NoSlot.Rights) else false) then (some [(.one (.b true))]) else (bif (ieq a0.Page a1.Page) then (bif (s_Enough_c a1.Rights a0.Rights) then (some [(.one (.b (s_Enough a1.Rights a0.Rights)))]) else none) else (some [(.one (.b false))]))) else none)

theorem nf_s_Below (N : Nat) (a0 : Slot) (a1 : Slot) : evalFn (cfgQ (aget ctrC3) (aget mct0) (aget pct0)) (tmsOf []) N 12 61 [.agg (Ty.cells .slot a0), .agg (Ty.cells .slot a1)] = E_s_Below N a0 a1 := by kernel_rfl

theorem law_s_Below (a0 : Slot) (a1 : Slot) (hb : AllB big [.agg (Ty.cells .slot a0), .agg (Ty.cells .slot a1)]) (hc : (s_Below_c a0 a1) = true) : ∃ N, E_s_Below N a0 a1 = some [.one (.b (s_Below a0 a1))] := by
  refine ⟨0, ?_⟩
  unfold E_s_Below s_Below below' slotEq s_NoSlot
  cases ieq a0.Page noSlot.Page <;> cases ieq a0.Rights noSlot.Rights <;> cases ieq a0.Page a1.Page <;> rfl
theorem holds_s_Below : Holds Try.prog 61 run_s_Below := by
  refine holds_of_eval (engQ_ok ctrC3_ok mct0_ok pct0_ok) (fn_ok (by kernel_rfl)) ?_
  intro avs rs hr h
  have hb := allB_of_rep hr
  unfold run_s_Below at h
  split at h
  · rename_i a0_0 a0_1 a1_0 a1_1
    obtain ⟨hc, rfl⟩ := some_pair h
    obtain ⟨N, hN⟩ := law_s_Below (⟨a0_0, a0_1⟩ : Slot) (⟨a1_0, a1_1⟩ : Slot) hb hc
    exact ⟨tmsOf [], N, 12, (nf_s_Below N (⟨a0_0, a0_1⟩ : Slot) (⟨a1_0, a1_1⟩ : Slot)).trans hN⟩
  · cases h

def i_Below_c (_ _ : Slot) : Bool := true
def i_Below (a b : Slot) : Bool := below' a b
noncomputable def run_i_Below : List AV → Option (Bool × List AV)
  | [.agg [.i .i64 a0_0, .i .i64 a0_1], .agg [.i .i64 a1_0, .i .i64 a1_1]] => some ((i_Below_c (⟨a0_0, a0_1⟩ : Slot) (⟨a1_0, a1_1⟩ : Slot)), [.one (.b (i_Below (⟨a0_0, a0_1⟩ : Slot) (⟨a1_0, a1_1⟩ : Slot)))])
  | _ => none

noncomputable def E_i_Below (N : Nat) (a0 : Slot) (a1 : Slot) : Option Ans :=
  (bif i_NoSlot_c then (bif (bif (ieq a0.Page i_NoSlot.Page) then (ieq a0.Rights i_NoSlot.Rights) else false) then (some [(.one (.b true))]) else (bif (ieq a0.Page a1.Page) then (bif (i_Enough_c a1.Rights a0.Rights) then (some [(.one (.b (i_Enough a1.Rights a0.Rights)))]) else none) else (some [(.one (.b false))]))) else none)

theorem nf_i_Below (N : Nat) (a0 : Slot) (a1 : Slot) : evalFn (cfgQ (aget ctrC3) (aget mct0) (aget pct0)) (tmsOf []) N 12 68 [.agg (Ty.cells .slot a0), .agg (Ty.cells .slot a1)] = E_i_Below N a0 a1 := by kernel_rfl

theorem law_i_Below (a0 : Slot) (a1 : Slot) (hb : AllB big [.agg (Ty.cells .slot a0), .agg (Ty.cells .slot a1)]) (hc : (i_Below_c a0 a1) = true) : ∃ N, E_i_Below N a0 a1 = some [.one (.b (i_Below a0 a1))] := by
  refine ⟨0, ?_⟩
  unfold E_i_Below i_Below below' slotEq i_NoSlot
  cases ieq a0.Page noSlot.Page <;> cases ieq a0.Rights noSlot.Rights <;> cases ieq a0.Page a1.Page <;> rfl
theorem holds_i_Below : Holds Try.prog 68 run_i_Below := by
  refine holds_of_eval (engQ_ok ctrC3_ok mct0_ok pct0_ok) (fn_ok (by kernel_rfl)) ?_
  intro avs rs hr h
  have hb := allB_of_rep hr
  unfold run_i_Below at h
  split at h
  · rename_i a0_0 a0_1 a1_0 a1_1
    obtain ⟨hc, rfl⟩ := some_pair h
    obtain ⟨N, hN⟩ := law_i_Below (⟨a0_0, a0_1⟩ : Slot) (⟨a1_0, a1_1⟩ : Slot) hb hc
    exact ⟨tmsOf [], N, 12, (nf_i_Below N (⟨a0_0, a0_1⟩ : Slot) (⟨a1_0, a1_1⟩ : Slot)).trans hN⟩
  · cases h


def composeSlot (s : Slot) (outer : List Slot) : Slot :=
  bif ieq s.Page (-1) then noSlot else (bif ieq (slotAt outer s.Page).Page (-1) then noSlot else (bif ieq (bothRights s.Rights (slotAt outer s.Page).Rights) 0 then noSlot else ⟨(slotAt outer s.Page).Page, bothRights s.Rights (slotAt outer s.Page).Rights⟩))
def s_ComposeSlot_c (_ : Slot) (_ : List Slot) : Bool := true
def s_ComposeSlot (s : Slot) (outer : List Slot) : Slot := composeSlot s outer
noncomputable def run_s_ComposeSlot : List AV → Option (Bool × List AV)
  | [.agg [.i .i64 a0_0, .i .i64 a0_1], .one (.s .slot a1)] => some ((s_ComposeSlot_c (⟨a0_0, a0_1⟩ : Slot) a1), [.agg (Ty.cells .slot (s_ComposeSlot (⟨a0_0, a0_1⟩ : Slot) a1))])
  | _ => none

noncomputable def E_s_ComposeSlot (N : Nat) (a0 : Slot) (a1 : List Slot) : Option Ans :=
  (bif (s_SlotAt_c a1 a0.Page) then (bif (s_BothRights_c a0.Rights (s_SlotAt a1 a0.Page).Rights) then (bif (ieq a0.Page (-1)) then (bif s_NoSlot_c then (some [(.agg [(.i .i64 s_NoSlot.Page), (.i .i64 s_NoSlot.Rights)])]) else none) else (bif (ieq (s_SlotAt a1 a0.Page).Page (-1)) then (bif s_NoSlot_c then (some [(.agg [(.i .i64 s_NoSlot.Page), (.i .i64 s_NoSlot.Rights)])]) else none) else (bif (ieq (s_BothRights a0.Rights (s_SlotAt a1 a0.Page).Rights) 0) then (bif s_NoSlot_c then (some [(.agg [(.i .i64 s_NoSlot.Page), (.i .i64 s_NoSlot.Rights)])]) else none) else (some [(.agg [(.i .i64 (s_SlotAt a1 a0.Page).Page), (.i .i64 (s_BothRights a0.Rights (s_SlotAt a1 a0.Page).Rights))])])))) else none) else none)

theorem nf_s_ComposeSlot (N : Nat) (a0 : Slot) (a1 : List Slot) : evalFn (cfgQ (aget ctrC3) (aget mct0) (aget pct0)) (tmsOf []) N 12 59 [.agg (Ty.cells .slot a0), .one (.s .slot a1)] = E_s_ComposeSlot N a0 a1 := by kernel_rfl

theorem law_s_ComposeSlot (a0 : Slot) (a1 : List Slot) (hb : AllB big [.agg (Ty.cells .slot a0), .one (.s .slot a1)]) (hc : (s_ComposeSlot_c a0 a1) = true) : ∃ N, E_s_ComposeSlot N a0 a1 = some [.agg (Ty.cells .slot (s_ComposeSlot a0 a1))] := by
  refine ⟨0, ?_⟩
  unfold E_s_ComposeSlot s_ComposeSlot composeSlot s_SlotAt s_BothRights
  cases ieq a0.Page (-1) <;> cases ieq (slotAt a1 a0.Page).Page (-1) <;> cases ieq (bothRights a0.Rights (slotAt a1 a0.Page).Rights) 0 <;> rfl
theorem holds_s_ComposeSlot : Holds Try.prog 59 run_s_ComposeSlot := by
  refine holds_of_eval (engQ_ok ctrC3_ok mct0_ok pct0_ok) (fn_ok (by kernel_rfl)) ?_
  intro avs rs hr h
  have hb := allB_of_rep hr
  unfold run_s_ComposeSlot at h
  split at h
  · rename_i a0_0 a0_1 a1
    obtain ⟨hc, rfl⟩ := some_pair h
    obtain ⟨N, hN⟩ := law_s_ComposeSlot (⟨a0_0, a0_1⟩ : Slot) a1 hb hc
    exact ⟨tmsOf [], N, 12, (nf_s_ComposeSlot N (⟨a0_0, a0_1⟩ : Slot) a1).trans hN⟩
  · cases h

def i_ComposeSlot_c (_ : Slot) (_ : List Slot) : Bool := true
def i_ComposeSlot (s : Slot) (outer : List Slot) : Slot := composeSlot s outer
noncomputable def run_i_ComposeSlot : List AV → Option (Bool × List AV)
  | [.agg [.i .i64 a0_0, .i .i64 a0_1], .one (.s .slot a1)] => some ((i_ComposeSlot_c (⟨a0_0, a0_1⟩ : Slot) a1), [.agg (Ty.cells .slot (i_ComposeSlot (⟨a0_0, a0_1⟩ : Slot) a1))])
  | _ => none

noncomputable def E_i_ComposeSlot (N : Nat) (a0 : Slot) (a1 : List Slot) : Option Ans :=
  (bif (i_SlotAt_c a1 a0.Page) then (bif (i_BothRights_c a0.Rights (i_SlotAt a1 a0.Page).Rights) then (bif (ieq a0.Page (-1)) then (bif i_NoSlot_c then (some [(.agg [(.i .i64 i_NoSlot.Page), (.i .i64 i_NoSlot.Rights)])]) else none) else (bif (ieq (i_SlotAt a1 a0.Page).Page (-1)) then (bif i_NoSlot_c then (some [(.agg [(.i .i64 i_NoSlot.Page), (.i .i64 i_NoSlot.Rights)])]) else none) else (bif (ieq (i_BothRights a0.Rights (i_SlotAt a1 a0.Page).Rights) 0) then (bif i_NoSlot_c then (some [(.agg [(.i .i64 i_NoSlot.Page), (.i .i64 i_NoSlot.Rights)])]) else none) else (some [(.agg [(.i .i64 (i_SlotAt a1 a0.Page).Page), (.i .i64 (i_BothRights a0.Rights (i_SlotAt a1 a0.Page).Rights))])])))) else none) else none)

theorem nf_i_ComposeSlot (N : Nat) (a0 : Slot) (a1 : List Slot) : evalFn (cfgQ (aget ctrC3) (aget mct0) (aget pct0)) (tmsOf []) N 12 66 [.agg (Ty.cells .slot a0), .one (.s .slot a1)] = E_i_ComposeSlot N a0 a1 := by kernel_rfl

theorem law_i_ComposeSlot (a0 : Slot) (a1 : List Slot) (hb : AllB big [.agg (Ty.cells .slot a0), .one (.s .slot a1)]) (hc : (i_ComposeSlot_c a0 a1) = true) : ∃ N, E_i_ComposeSlot N a0 a1 = some [.agg (Ty.cells .slot (i_ComposeSlot a0 a1))] := by
  refine ⟨0, ?_⟩
  unfold E_i_ComposeSlot i_ComposeSlot composeSlot i_SlotAt i_BothRights
  cases ieq a0.Page (-1) <;> cases ieq (slotAt a1 a0.Page).Page (-1) <;> cases ieq (bothRights a0.Rights (slotAt a1 a0.Page).Rights) 0 <;> rfl
theorem holds_i_ComposeSlot : Holds Try.prog 66 run_i_ComposeSlot := by
  refine holds_of_eval (engQ_ok ctrC3_ok mct0_ok pct0_ok) (fn_ok (by kernel_rfl)) ?_
  intro avs rs hr h
  have hb := allB_of_rep hr
  unfold run_i_ComposeSlot at h
  split at h
  · rename_i a0_0 a0_1 a1
    obtain ⟨hc, rfl⟩ := some_pair h
    obtain ⟨N, hN⟩ := law_i_ComposeSlot (⟨a0_0, a0_1⟩ : Slot) a1 hb hc
    exact ⟨tmsOf [], N, 12, (nf_i_ComposeSlot N (⟨a0_0, a0_1⟩ : Slot) a1).trans hN⟩
  · cases h


def tagMon (x : Int) : Int := bif (ige x 1 && ile x 6) then wquo .i64 (wsub .i64 x 1) 2 else -1
def tagGuest (x : Int) : Int := bif (ige x 1 && ile x 6) then wrem (wsub .i64 x 1) 2 else -1
def s_TagMon_c (_ : Int) : Bool := true
def s_TagMon (x : Int) : Int := tagMon x
noncomputable def run_s_TagMon : List AV → Option (Bool × List AV)
  | [.one (.i .i64 a0)] => some ((s_TagMon_c a0), [.one (.i .i64 (s_TagMon a0))])
  | _ => none

noncomputable def E_s_TagMon (N : Nat) (a0 : Int) : Option Ans :=
  (bif (s_l01In_c a0 1 6) then (bif (bif (s_l01In a0 1 6) then false else true) then (some [(.one (.i .i64 (-1)))]) else (bif (ine 2 0) then (some [(.one (.i .i64 (wquo .i64 (wsub .i64 a0 1) 2)))]) else none)) else none)

theorem nf_s_TagMon (N : Nat) (a0 : Int) : evalFn (cfgQ (aget ctrC3) (aget mct0) (aget pct0)) (tmsOf []) N 12 56 [.one (.i .i64 a0)] = E_s_TagMon N a0 := by kernel_rfl

theorem law_s_TagMon (a0 : Int) (hb : AllB big [.one (.i .i64 a0)]) (hc : (s_TagMon_c a0) = true) : ∃ N, E_s_TagMon N a0 = some [.one (.i .i64 (s_TagMon a0))] := by
  refine ⟨0, ?_⟩
  unfold E_s_TagMon s_TagMon tagMon s_l01In
  cases ige a0 1 && ile a0 6 <;> rfl
theorem holds_s_TagMon : Holds Try.prog 56 run_s_TagMon := by
  refine holds_of_eval (engQ_ok ctrC3_ok mct0_ok pct0_ok) (fn_ok (by kernel_rfl)) ?_
  intro avs rs hr h
  have hb := allB_of_rep hr
  unfold run_s_TagMon at h
  split at h
  · rename_i a0
    obtain ⟨hc, rfl⟩ := some_pair h
    obtain ⟨N, hN⟩ := law_s_TagMon a0 hb hc
    exact ⟨tmsOf [], N, 12, (nf_s_TagMon N a0).trans hN⟩
  · cases h

def i_TagMon_c (_ : Int) : Bool := true
def i_TagMon (x : Int) : Int := tagMon x
noncomputable def run_i_TagMon : List AV → Option (Bool × List AV)
  | [.one (.i .i64 a0)] => some ((i_TagMon_c a0), [.one (.i .i64 (i_TagMon a0))])
  | _ => none

noncomputable def E_i_TagMon (N : Nat) (a0 : Int) : Option Ans :=
  (bif (i_within_c a0 1 6) then (bif (bif (i_within a0 1 6) then false else true) then (some [(.one (.i .i64 (-1)))]) else (bif (ine 2 0) then (some [(.one (.i .i64 (wquo .i64 (wsub .i64 a0 1) 2)))]) else none)) else none)

theorem nf_i_TagMon (N : Nat) (a0 : Int) : evalFn (cfgQ (aget ctrC3) (aget mct0) (aget pct0)) (tmsOf []) N 12 63 [.one (.i .i64 a0)] = E_i_TagMon N a0 := by kernel_rfl

theorem law_i_TagMon (a0 : Int) (hb : AllB big [.one (.i .i64 a0)]) (hc : (i_TagMon_c a0) = true) : ∃ N, E_i_TagMon N a0 = some [.one (.i .i64 (i_TagMon a0))] := by
  refine ⟨0, ?_⟩
  unfold E_i_TagMon i_TagMon tagMon i_within
  cases ige a0 1 && ile a0 6 <;> rfl
theorem holds_i_TagMon : Holds Try.prog 63 run_i_TagMon := by
  refine holds_of_eval (engQ_ok ctrC3_ok mct0_ok pct0_ok) (fn_ok (by kernel_rfl)) ?_
  intro avs rs hr h
  have hb := allB_of_rep hr
  unfold run_i_TagMon at h
  split at h
  · rename_i a0
    obtain ⟨hc, rfl⟩ := some_pair h
    obtain ⟨N, hN⟩ := law_i_TagMon a0 hb hc
    exact ⟨tmsOf [], N, 12, (nf_i_TagMon N a0).trans hN⟩
  · cases h

def s_TagGuest_c (_ : Int) : Bool := true
def s_TagGuest (x : Int) : Int := tagGuest x
noncomputable def run_s_TagGuest : List AV → Option (Bool × List AV)
  | [.one (.i .i64 a0)] => some ((s_TagGuest_c a0), [.one (.i .i64 (s_TagGuest a0))])
  | _ => none

noncomputable def E_s_TagGuest (N : Nat) (a0 : Int) : Option Ans :=
  (bif (s_l01In_c a0 1 6) then (bif (bif (s_l01In a0 1 6) then false else true) then (some [(.one (.i .i64 (-1)))]) else (bif (ine 2 0) then (some [(.one (.i .i64 (wrem (wsub .i64 a0 1) 2)))]) else none)) else none)

theorem nf_s_TagGuest (N : Nat) (a0 : Int) : evalFn (cfgQ (aget ctrC3) (aget mct0) (aget pct0)) (tmsOf []) N 12 57 [.one (.i .i64 a0)] = E_s_TagGuest N a0 := by kernel_rfl

theorem law_s_TagGuest (a0 : Int) (hb : AllB big [.one (.i .i64 a0)]) (hc : (s_TagGuest_c a0) = true) : ∃ N, E_s_TagGuest N a0 = some [.one (.i .i64 (s_TagGuest a0))] := by
  refine ⟨0, ?_⟩
  unfold E_s_TagGuest s_TagGuest tagGuest s_l01In
  cases ige a0 1 && ile a0 6 <;> rfl
theorem holds_s_TagGuest : Holds Try.prog 57 run_s_TagGuest := by
  refine holds_of_eval (engQ_ok ctrC3_ok mct0_ok pct0_ok) (fn_ok (by kernel_rfl)) ?_
  intro avs rs hr h
  have hb := allB_of_rep hr
  unfold run_s_TagGuest at h
  split at h
  · rename_i a0
    obtain ⟨hc, rfl⟩ := some_pair h
    obtain ⟨N, hN⟩ := law_s_TagGuest a0 hb hc
    exact ⟨tmsOf [], N, 12, (nf_s_TagGuest N a0).trans hN⟩
  · cases h

def i_TagGuest_c (_ : Int) : Bool := true
def i_TagGuest (x : Int) : Int := tagGuest x
noncomputable def run_i_TagGuest : List AV → Option (Bool × List AV)
  | [.one (.i .i64 a0)] => some ((i_TagGuest_c a0), [.one (.i .i64 (i_TagGuest a0))])
  | _ => none

noncomputable def E_i_TagGuest (N : Nat) (a0 : Int) : Option Ans :=
  (bif (i_within_c a0 1 6) then (bif (bif (i_within a0 1 6) then false else true) then (some [(.one (.i .i64 (-1)))]) else (bif (ine 2 0) then (some [(.one (.i .i64 (wrem (wsub .i64 a0 1) 2)))]) else none)) else none)

theorem nf_i_TagGuest (N : Nat) (a0 : Int) : evalFn (cfgQ (aget ctrC3) (aget mct0) (aget pct0)) (tmsOf []) N 12 64 [.one (.i .i64 a0)] = E_i_TagGuest N a0 := by kernel_rfl

theorem law_i_TagGuest (a0 : Int) (hb : AllB big [.one (.i .i64 a0)]) (hc : (i_TagGuest_c a0) = true) : ∃ N, E_i_TagGuest N a0 = some [.one (.i .i64 (i_TagGuest a0))] := by
  refine ⟨0, ?_⟩
  unfold E_i_TagGuest i_TagGuest tagGuest i_within
  cases ige a0 1 && ile a0 6 <;> rfl
theorem holds_i_TagGuest : Holds Try.prog 64 run_i_TagGuest := by
  refine holds_of_eval (engQ_ok ctrC3_ok mct0_ok pct0_ok) (fn_ok (by kernel_rfl)) ?_
  intro avs rs hr h
  have hb := allB_of_rep hr
  unfold run_i_TagGuest at h
  split at h
  · rename_i a0
    obtain ⟨hc, rfl⟩ := some_pair h
    obtain ⟨N, hN⟩ := law_i_TagGuest a0 hb hc
    exact ⟨tmsOf [], N, 12, (nf_i_TagGuest N a0).trans hN⟩
  · cases h

noncomputable def ctrC4 : Ctrs := [(61, run_s_Below), (68, run_i_Below), (59, run_s_ComposeSlot), (66, run_i_ComposeSlot), (56, run_s_TagMon), (63, run_i_TagMon), (57, run_s_TagGuest), (64, run_i_TagGuest)] ++ ctrC3

theorem ctrC4_ok : ∀ f run, aget ctrC4 f = some run → Holds Try.prog f run := ctr_more ctrC3_ok (by
  intro x hx
  simp only [List.mem_cons, List.not_mem_nil, or_false] at hx
  rcases hx with rfl | rfl | rfl | rfl | rfl | rfl | rfl | rfl
  · exact holds_s_Below
  · exact holds_i_Below
  · exact holds_s_ComposeSlot
  · exact holds_i_ComposeSlot
  · exact holds_s_TagMon
  · exact holds_i_TagMon
  · exact holds_s_TagGuest
  · exact holds_i_TagGuest)


/-! What is kept of tables. -/

def keptAtOk (k : Kept) (inner outer : List Slot) (i : Nat) : Bool :=
  slotEq (ix k.Slots i (Ty.dflt .slot)) (bif ix k.Known i false then composeSlot (ix inner i (Ty.dflt .slot)) outer else noSlot)
def keptOk (k : Kept) (inner outer : List Slot) : Bool :=
  bif ine (ln k.Known) (ln inner) then false else (bif ine (ln k.Slots) (ln inner) then false else allN (keptAtOk k inner outer) inner.length 0)

theorem ine_len {α β : Type} {l : List α} {m : List β} (h : ine (ln l) (ln m) = false) : l.length = m.length := by
  have : (ln l == ln m) = true := by simpa [ine, bne] using h
  have := eq_of_beq this
  simp only [ln] at this
  omega

def s_KeptOk_c (_ : Kept) (_ _ : List Slot) : Bool := true
def s_KeptOk (k : Kept) (inner outer : List Slot) : Bool := keptOk k inner outer
noncomputable def run_s_KeptOk : List AV → Option (Bool × List AV)
  | [.agg [.s .bool a0_0, .s .slot a0_1], .one (.s .slot a1), .one (.s .slot a2)] => some ((s_KeptOk_c (⟨a0_0, a0_1⟩ : Kept) a1 a2), [.one (.b (s_KeptOk (⟨a0_0, a0_1⟩ : Kept) a1 a2))])
  | _ => none

noncomputable def E_s_KeptOk (N : Nat) (a0 : Kept) (a1 : List Slot) (a2 : List Slot) : Option Ans :=
  (bif (ine (ln a0.Known) (ln a1)) then (some [(.one (.b false))]) else (bif (ine (ln a0.Slots) (ln a1)) then (some [(.one (.b false))]) else (iter (σ := (Int × ((List Slot) × ((List Slot) × ((List Bool) × ((List Slot) × Unit)))))) N (fun r4 s5 => (bif (ilt s5.1 (ln s5.2.1)) then (bif s_NoSlot_c then (bif (inb s5.1 (ln s5.2.2.2.1)) then (bif (ix s5.2.2.2.1 s5.1 false) then (bif (inb s5.1 (ln s5.2.1)) then (bif (s_ComposeSlot_c (ix s5.2.1 s5.1 (Ty.dflt .slot)) s5.2.2.1) then (bif (inb s5.1 (ln s5.2.2.2.2.1)) then (bif (bif (bif (ieq (ix s5.2.2.2.2.1 s5.1 (Ty.dflt .slot)).Page (s_ComposeSlot (ix s5.2.1 s5.1 (Ty.dflt .slot)) s5.2.2.1).Page) then (ieq (ix s5.2.2.2.2.1 s5.1 (Ty.dflt .slot)).Rights (s_ComposeSlot (ix s5.2.1 s5.1 (Ty.dflt .slot)) s5.2.2.1).Rights) else false) then false else true) then (some [(.one (.b false))]) else (r4 ((wadd .i64 s5.1 1), (s5.2.1, (s5.2.2.1, (s5.2.2.2.1, (s5.2.2.2.2.1, ()))))))) else none) else none) else none) else (bif (inb s5.1 (ln s5.2.2.2.2.1)) then (bif (bif (bif (ieq (ix s5.2.2.2.2.1 s5.1 (Ty.dflt .slot)).Page s_NoSlot.Page) then (ieq (ix s5.2.2.2.2.1 s5.1 (Ty.dflt .slot)).Rights s_NoSlot.Rights) else false) then false else true) then (some [(.one (.b false))]) else (r4 ((wadd .i64 s5.1 1), (s5.2.1, (s5.2.2.1, (s5.2.2.2.1, (s5.2.2.2.2.1, ()))))))) else none)) else none) else none) else (some [(.one (.b true))]))) (0, (a1, (a2, (a0.Known, (a0.Slots, ()))))))))

def tms_s_KeptOk : FuncId → Nat → Option Tmpl := tmsOf [(54, 0, { n := 48, tm := [(1, .sl 0 []), (2, .sl 1 []), (3, .lp 0 0), (7, .i .i64)], lo := [(0, [.sl 2 [], .sl 3 []])], ro := [(0, .slot, false), (1, .slot, false), (2, .bool, false), (3, .slot, false)] })]

theorem nf_s_KeptOk (N : Nat) (a0 : Kept) (a1 : List Slot) (a2 : List Slot) : evalFn (cfgQ (aget ctrC4) (aget mct0) (aget pct0)) tms_s_KeptOk N 12 54 [.agg (Ty.cells .kept a0), .one (.s .slot a1), .one (.s .slot a2)] = E_s_KeptOk N a0 a1 a2 := by kernel_rfl

theorem law_s_KeptOk (a0 : Kept) (a1 : List Slot) (a2 : List Slot) (hb : AllB big [.agg (Ty.cells .kept a0), .one (.s .slot a1), .one (.s .slot a2)]) (hc : (s_KeptOk_c a0 a1 a2) = true) : ∃ N, E_s_KeptOk N a0 a1 a2 = some [.one (.b (s_KeptOk a0 a1 a2))] := by
  have hl := ((allB_cons (allB_cons hb).2).1 _ (List.mem_singleton.2 rfl)).len
  refine ⟨NN, ?_⟩
  have hNN : ∀ {n : Nat}, n ≤ big → n < NN := fun h => NN_lt h
  generalize NN = N at hNN ⊢
  unfold E_s_KeptOk s_KeptOk keptOk
  cases h1 : ine (ln a0.Known) (ln a1)
  · cases h2 : ine (ln a0.Slots) (ln a1)
    · have e1 := ine_len h1
      have e2 := ine_len h2
      simp only [cF]
      refine (iter_list a1 (fun i (t : Unit) => ((i : Int), a1, a2, a0.Known, a0.Slots, ())) _ (fun i _ (_ : Unit) κ => bif keptAtOk a0 a1 a2 i then κ () else some [AV.one (.b false)]) (fun (t : Unit) => (some [(.one (.b true))])) (fun i hi t rec => ?_) (fun t rec => ?_) _ () (hNN hl)).trans ?_
      · simp only [ilt_ln hi, inb_ln hi, ix_ln hi, wadd_up hi hl, cT]
        simp only [inb_ln (l := a0.Known) (i := i) (e1 ▸ hi), inb_ln (l := a0.Slots) (i := i) (e2 ▸ hi), s_NoSlot_c, s_ComposeSlot_c, cT, keptAtOk, slotEq, s_ComposeSlot, s_NoSlot, ix_ln hi]
        cases ix a0.Known (↑i) false
        · simp only [cF]
          cases ieq (ix a0.Slots (↑i) (Ty.dflt .slot)).Page noSlot.Page <;> cases ieq (ix a0.Slots (↑i) (Ty.dflt .slot)).Rights noSlot.Rights <;> rfl
        · simp only [cT]
          generalize composeSlot a1[i] a2 = z
          cases ieq (ix a0.Slots (↑i) (Ty.dflt .slot)).Page z.Page <;> cases ieq (ix a0.Slots (↑i) (Ty.dflt .slot)).Rights z.Rights <;> rfl
      · simp only [ilt_end, ilt_nend, cF]
      rw [goL_goN (fun i t κ => bif keptAtOk a0 a1 a2 i then κ () else some [AV.one (.b false)]), goN_all]
      cases allN (keptAtOk a0 a1 a2) a1.length 0 <;> rfl
    · rfl
  · rfl
theorem holds_s_KeptOk : Holds Try.prog 54 run_s_KeptOk := by
  refine holds_of_eval (engQ_ok ctrC4_ok mct0_ok pct0_ok) (fn_ok (by kernel_rfl)) ?_
  intro avs rs hr h
  have hb := allB_of_rep hr
  unfold run_s_KeptOk at h
  split at h
  · rename_i a0_0 a0_1 a1 a2
    obtain ⟨hc, rfl⟩ := some_pair h
    obtain ⟨N, hN⟩ := law_s_KeptOk (⟨a0_0, a0_1⟩ : Kept) a1 a2 hb hc
    exact ⟨tms_s_KeptOk, N, 12, (nf_s_KeptOk N (⟨a0_0, a0_1⟩ : Kept) a1 a2).trans hN⟩
  · cases h

def i_KeptOk_c (_ : Kept) (_ _ : List Slot) : Bool := true
def i_KeptOk (k : Kept) (inner outer : List Slot) : Bool := keptOk k inner outer
noncomputable def run_i_KeptOk : List AV → Option (Bool × List AV)
  | [.agg [.s .bool a0_0, .s .slot a0_1], .one (.s .slot a1), .one (.s .slot a2)] => some ((i_KeptOk_c (⟨a0_0, a0_1⟩ : Kept) a1 a2), [.one (.b (i_KeptOk (⟨a0_0, a0_1⟩ : Kept) a1 a2))])
  | _ => none

noncomputable def E_i_KeptOk (N : Nat) (a0 : Kept) (a1 : List Slot) (a2 : List Slot) : Option Ans :=
  (bif (ine (ln a0.Known) (ln a1)) then (some [(.one (.b false))]) else (bif (ine (ln a0.Slots) (ln a1)) then (some [(.one (.b false))]) else (iter (σ := (Int × (Int × ((List Slot) × ((List Slot) × ((List Slot) × ((List Bool) × Unit))))))) N (fun r4 s5 => (bif (ilt s5.2.1 s5.1) then (bif (inb s5.2.1 (ln s5.2.2.2.2.1)) then (bif i_NoSlot_c then (bif (inb s5.2.1 (ln s5.2.2.2.2.2.1)) then (bif (ix s5.2.2.2.2.2.1 s5.2.1 false) then (bif (inb s5.2.1 (ln s5.2.2.1)) then (bif (i_ComposeSlot_c (ix s5.2.2.1 s5.2.1 (Ty.dflt .slot)) s5.2.2.2.1) then (bif (bif (bif (ieq (ix s5.2.2.2.2.1 s5.2.1 (Ty.dflt .slot)).Page (i_ComposeSlot (ix s5.2.2.1 s5.2.1 (Ty.dflt .slot)) s5.2.2.2.1).Page) then (ieq (ix s5.2.2.2.2.1 s5.2.1 (Ty.dflt .slot)).Rights (i_ComposeSlot (ix s5.2.2.1 s5.2.1 (Ty.dflt .slot)) s5.2.2.2.1).Rights) else false) then false else true) then (some [(.one (.b false))]) else (r4 (s5.1, ((wadd .i64 s5.2.1 1), (s5.2.2.1, (s5.2.2.2.1, (s5.2.2.2.2.1, (s5.2.2.2.2.2.1, ())))))))) else none) else none) else (bif (bif (bif (ieq (ix s5.2.2.2.2.1 s5.2.1 (Ty.dflt .slot)).Page i_NoSlot.Page) then (ieq (ix s5.2.2.2.2.1 s5.2.1 (Ty.dflt .slot)).Rights i_NoSlot.Rights) else false) then false else true) then (some [(.one (.b false))]) else (r4 (s5.1, ((wadd .i64 s5.2.1 1), (s5.2.2.1, (s5.2.2.2.1, (s5.2.2.2.2.1, (s5.2.2.2.2.2.1, ()))))))))) else none) else none) else none) else (some [(.one (.b true))]))) ((ln a0.Slots), (0, (a1, (a2, (a0.Slots, (a0.Known, ())))))))))

def tms_i_KeptOk : FuncId → Nat → Option Tmpl := tmsOf [(55, 0, { n := 48, tm := [(1, .sl 0 []), (2, .sl 1 []), (3, .lp 0 0), (25, .sl 2 []), (26, .i .i64), (27, .i .i64)], lo := [(0, [.sl 3 [], .sl 2 []])], ro := [(0, .slot, false), (1, .slot, false), (2, .slot, false), (3, .bool, false)] })]

theorem nf_i_KeptOk (N : Nat) (a0 : Kept) (a1 : List Slot) (a2 : List Slot) : evalFn (cfgQ (aget ctrC4) (aget mct0) (aget pct0)) tms_i_KeptOk N 12 55 [.agg (Ty.cells .kept a0), .one (.s .slot a1), .one (.s .slot a2)] = E_i_KeptOk N a0 a1 a2 := by kernel_rfl

theorem law_i_KeptOk (a0 : Kept) (a1 : List Slot) (a2 : List Slot) (hb : AllB big [.agg (Ty.cells .kept a0), .one (.s .slot a1), .one (.s .slot a2)]) (hc : (i_KeptOk_c a0 a1 a2) = true) : ∃ N, E_i_KeptOk N a0 a1 a2 = some [.one (.b (i_KeptOk a0 a1 a2))] := by
  have hl := ((allB_cons (allB_cons hb).2).1 _ (List.mem_singleton.2 rfl)).len
  refine ⟨NN, ?_⟩
  have hNN : ∀ {n : Nat}, n ≤ big → n < NN := fun h => NN_lt h
  generalize NN = N at hNN ⊢
  unfold E_i_KeptOk i_KeptOk keptOk
  cases h1 : ine (ln a0.Known) (ln a1)
  · cases h2 : ine (ln a0.Slots) (ln a1)
    · have e1 := ine_len h1
      have e2 := ine_len h2
      have hl2 : a0.Slots.length ≤ big := e2 ▸ hl
      simp only [cF]
      refine (iter_list a0.Slots (fun i (t : Unit) => ((ln a0.Slots), (i : Int), a1, a2, a0.Slots, a0.Known, ())) _ (fun i _ (_ : Unit) κ => bif keptAtOk a0 a1 a2 i then κ () else some [AV.one (.b false)]) (fun (t : Unit) => (some [(.one (.b true))])) (fun i hi t rec => ?_) (fun t rec => ?_) _ () (hNN hl2)).trans ?_
      · simp only [ilt_ln hi, inb_ln hi, ix_ln hi, wadd_up hi hl2, cT]
        simp only [inb_ln (l := a0.Known) (i := i) (e1.trans e2.symm ▸ hi), inb_ln (l := a1) (i := i) (e2 ▸ hi), i_NoSlot_c, i_ComposeSlot_c, cT, keptAtOk, slotEq, i_ComposeSlot, i_NoSlot, ix_ln hi]
        cases ix a0.Known (↑i) false
        · simp only [cF]
          cases ieq a0.Slots[i].Page noSlot.Page <;> cases ieq a0.Slots[i].Rights noSlot.Rights <;> rfl
        · simp only [cT]
          generalize composeSlot (ix a1 (↑i) (Ty.dflt .slot)) a2 = z
          cases ieq a0.Slots[i].Page z.Page <;> cases ieq a0.Slots[i].Rights z.Rights <;> rfl
      · simp only [ilt_end, ilt_nend, cF]
      rw [goL_goN (fun i t κ => bif keptAtOk a0 a1 a2 i then κ () else some [AV.one (.b false)]), goN_all, e2]
      cases allN (keptAtOk a0 a1 a2) a1.length 0 <;> rfl
    · rfl
  · rfl
theorem holds_i_KeptOk : Holds Try.prog 55 run_i_KeptOk := by
  refine holds_of_eval (engQ_ok ctrC4_ok mct0_ok pct0_ok) (fn_ok (by kernel_rfl)) ?_
  intro avs rs hr h
  have hb := allB_of_rep hr
  unfold run_i_KeptOk at h
  split at h
  · rename_i a0_0 a0_1 a1 a2
    obtain ⟨hc, rfl⟩ := some_pair h
    obtain ⟨N, hN⟩ := law_i_KeptOk (⟨a0_0, a0_1⟩ : Kept) a1 a2 hb hc
    exact ⟨tms_i_KeptOk, N, 12, (nf_i_KeptOk N (⟨a0_0, a0_1⟩ : Kept) a1 a2).trans hN⟩
  · cases h

noncomputable def ctrC5 : Ctrs := [(54, run_s_KeptOk), (55, run_i_KeptOk)] ++ ctrC4

theorem ctrC5_ok : ∀ f run, aget ctrC5 f = some run → Holds Try.prog f run := ctr_more ctrC4_ok (by
  intro x hx
  simp only [List.mem_cons, List.not_mem_nil, or_false] at hx
  rcases hx with rfl | rfl
  · exact holds_s_KeptOk
  · exact holds_i_KeptOk)


/-- The tables of the guests. -/
def tablesGo (outer : List Slot) (ts : List Kept) : List Guest → Nat → Bool
  | [], _ => true
  | g :: l, i => bif ilt (i : Int) (ln ts) then (bif keptOk (ix ts (i : Int) (Ty.dflt .kept)) g.Live outer then tablesGo outer ts l (i + 1) else false) else true
theorem goL_tables {ρ : Type} (outer : List Slot) (ts : List Kept) (r r1 : Option ρ) : ∀ (l : List Guest) (i : Nat),
    goL (fun i g (_ : Unit) κ => bif ilt (i : Int) (ln ts) then (bif keptOk (ix ts (i : Int) (Ty.dflt .kept)) g.Live outer then κ () else r) else r1) (fun _ => r1) l i () = bif tablesGo outer ts l i then r1 else r
  | [], _ => rfl
  | g :: l, i => by
    simp only [goL, tablesGo]
    cases ilt (i : Int) (ln ts)
    · rfl
    · cases keptOk (ix ts (i : Int) (Ty.dflt .kept)) g.Live outer
      · rfl
      · exact goL_tables outer ts r r1 l (i + 1)
theorem ilt_inb {i : Nat} {α : Type} {l : List α} (h : ilt (i : Int) (ln l) = true) : inb (i : Int) (ln l) = true := by
  have := of_decide_eq_true h
  exact decide_eq_true ⟨by omega, this⟩

def tablesOf (m : Mon) : Bool := tablesGo m.Outer m.Tables m.Guests 0
def tablesRight (h : Host) : Bool := h.Mons.all tablesOf

def s_TablesRight_c (_ : Host) : Bool := true
def s_TablesRight (h : Host) : Bool := tablesRight h
noncomputable def run_s_TablesRight : List AV → Option (Bool × List AV)
  | [.agg [.s (.sl .int) a0_0, .s .mon a0_1, .s .entry a0_2, .s .entry a0_3]] => some ((s_TablesRight_c (⟨a0_0, a0_1, a0_2, a0_3⟩ : Host)), [.one (.b (s_TablesRight (⟨a0_0, a0_1, a0_2, a0_3⟩ : Host)))])
  | _ => none

noncomputable def E_s_TablesRight (N : Nat) (a0 : Host) : Option Ans :=
  (iter (σ := (Int × ((List (List Int)) × ((List Mon) × ((List Entry) × ((List Entry) × Unit)))))) N (fun r2 s3 => (bif (ilt s3.1 (ln s3.2.2.1)) then (bif (inb s3.1 (ln s3.2.2.1)) then (iter (σ := (Int × (Int × (Int × (Int × (Int × (Int × (Int × (Int × (Int × (Int × (Int × ((List (List Int)) × ((List Mon) × ((List Entry) × ((List Entry) × Unit)))))))))))))))) N (fun r4 s5 => (bif (ilt s5.2.1 (ln (ix s5.2.2.2.2.2.2.2.2.2.2.2.2.1 s5.2.2.2.2.2.1 (Ty.dflt .mon)).Guests)) then (bif (ilt s5.2.1 (ln (ix s5.2.2.2.2.2.2.2.2.2.2.2.2.1 s5.2.2.2.2.2.2.2.2.2.1 (Ty.dflt .mon)).Tables)) then (bif (inb s5.2.1 (ln (ix s5.2.2.2.2.2.2.2.2.2.2.2.2.1 s5.2.2.2.2.2.2.2.2.2.1 (Ty.dflt .mon)).Tables)) then (bif (inb s5.2.1 (ln (ix s5.2.2.2.2.2.2.2.2.2.2.2.2.1 s5.2.2.2.2.2.1 (Ty.dflt .mon)).Guests)) then (bif (s_KeptOk_c (ix (ix s5.2.2.2.2.2.2.2.2.2.2.2.2.1 s5.2.2.2.2.2.2.2.2.2.1 (Ty.dflt .mon)).Tables s5.2.1 (Ty.dflt .kept)) (ix (ix s5.2.2.2.2.2.2.2.2.2.2.2.2.1 s5.2.2.2.2.2.1 (Ty.dflt .mon)).Guests s5.2.1 (Ty.dflt .guest)).Live (ix s5.2.2.2.2.2.2.2.2.2.2.2.2.1 s5.2.2.1 (Ty.dflt .mon)).Outer) then (bif (bif (s_KeptOk (ix (ix s5.2.2.2.2.2.2.2.2.2.2.2.2.1 s5.2.2.2.2.2.2.2.2.2.1 (Ty.dflt .mon)).Tables s5.2.1 (Ty.dflt .kept)) (ix (ix s5.2.2.2.2.2.2.2.2.2.2.2.2.1 s5.2.2.2.2.2.1 (Ty.dflt .mon)).Guests s5.2.1 (Ty.dflt .guest)).Live (ix s5.2.2.2.2.2.2.2.2.2.2.2.2.1 s5.2.2.1 (Ty.dflt .mon)).Outer) then false else true) then (some [(.one (.b false))]) else (r4 (s5.1, ((wadd .i64 s5.2.1 1), (s5.2.2.1, (s5.2.2.2.1, (s5.2.2.2.2.1, (s5.2.2.2.2.2.1, (s5.2.2.2.2.2.2.1, (s5.2.2.2.2.2.2.2.1, (s5.2.2.2.2.2.2.2.2.1, (s5.2.2.2.2.2.2.2.2.2.1, (s5.2.2.2.2.2.2.2.2.2.2.1, (s5.2.2.2.2.2.2.2.2.2.2.2.1, (s5.2.2.2.2.2.2.2.2.2.2.2.2.1, (s5.2.2.2.2.2.2.2.2.2.2.2.2.2.1, (s5.2.2.2.2.2.2.2.2.2.2.2.2.2.2.1, ()))))))))))))))))) else none) else none) else none) else (r2 ((wadd .i64 s5.1 1), (s5.2.2.2.2.2.2.2.2.2.2.2.1, (s5.2.2.2.2.2.2.2.2.2.2.2.2.1, (s5.2.2.2.2.2.2.2.2.2.2.2.2.2.1, (s5.2.2.2.2.2.2.2.2.2.2.2.2.2.2.1, ()))))))) else (r2 ((wadd .i64 s5.1 1), (s5.2.2.2.2.2.2.2.2.2.2.2.1, (s5.2.2.2.2.2.2.2.2.2.2.2.2.1, (s5.2.2.2.2.2.2.2.2.2.2.2.2.2.1, (s5.2.2.2.2.2.2.2.2.2.2.2.2.2.2.1, ())))))))) (s3.1, (0, (s3.1, (s3.1, (s3.1, (s3.1, (s3.1, ((ix s3.2.2.1 s3.1 (Ty.dflt .mon)).Pending, ((ix s3.2.2.1 s3.1 (Ty.dflt .mon)).Traps, (s3.1, ((ix s3.2.2.1 s3.1 (Ty.dflt .mon)).Own, (s3.2.1, (s3.2.2.1, (s3.2.2.2.1, (s3.2.2.2.2.1, ())))))))))))))))) else none) else (some [(.one (.b true))]))) (0, (a0.Memory, (a0.Mons, (a0.Buffer, (a0.IoBuffer, ()))))))

def tms_s_TablesRight : FuncId → Nat → Option Tmpl := tmsOf [(20, 0, { n := 47, tm := [(1, .lp 0 0), (3, .i .i64)], lo := [(0, [.sl 0 [], .sl 1 [], .sl 2 [], .sl 3 []])], ro := [(0, (.sl .int), false), (1, .mon, false), (2, .entry, false), (3, .entry, false)] }), (20, 2, { n := 47, tm := [(1, .lp 0 0), (3, .i .i64), (4, .lp 1 0), (5, .i .i64)], lo := [(0, [.sl 0 [], .sl 1 [], .sl 2 [], .sl 3 []]), (1, [.sl 1 [0], .sl 1 [1], .sl 1 [2], .sl 1 [3], .sl 1 [4], .i .i64, .i .i64, .sl 1 [7], .i .i64])], ro := [(0, (.sl .int), false), (1, .mon, false), (2, .entry, false), (3, .entry, false)] })]

theorem nf_s_TablesRight (N : Nat) (a0 : Host) : evalFn (cfgQ (aget ctrC5) (aget mct0) (aget pct0)) tms_s_TablesRight N 12 20 [.agg (hostC a0)] = E_s_TablesRight N a0 := by kernel_rfl

theorem law_s_TablesRight (a0 : Host) (hb : AllB big [.agg (hostC a0)]) (hc : (s_TablesRight_c a0) = true) : ∃ N, E_s_TablesRight N a0 = some [.one (.b (s_TablesRight a0))] := by
  have hm : CVB big (.s .mon a0.Mons) := (allB_cons hb).1 _ (by simp [AV.cvs, hostC])
  have hl := hm.len
  refine ⟨NN, ?_⟩
  have hNN : ∀ {n : Nat}, n ≤ big → n < NN := fun h => NN_lt h
  generalize NN = N at hNN ⊢
  unfold E_s_TablesRight
  refine (iter_list a0.Mons (fun i (t : Unit) => ((i : Int), a0.Memory, a0.Mons, a0.Buffer, a0.IoBuffer, ())) _ (fun _ (x : Mon) (_ : Unit) κ => bif tablesOf x then κ () else some [AV.one (.b false)]) (fun (t : Unit) => (some [(.one (.b true))])) (fun i hi t rec => ?_) (fun t rec => ?_) _ () (hNN hl)).trans ?_
  · simp only [ilt_ln hi, inb_ln hi, ix_ln hi, wadd_up hi hl, cT]
    have hgl : a0.Mons[i].Guests.length ≤ big := (hm.inv.2 _ (List.getElem_mem hi) (.s .guest _) (by simp [Ty.cells])).len
    refine (iter_list a0.Mons[i].Guests (fun j (u : Unit) => ((i : Int), (j : Int), (i : Int), (i : Int), (i : Int), (i : Int), (i : Int), a0.Mons[i].Pending, a0.Mons[i].Traps, (i : Int), a0.Mons[i].Own, a0.Memory, a0.Mons, a0.Buffer, a0.IoBuffer, ())) _ (fun j (g : Guest) (_ : Unit) κ => bif ilt (j : Int) (ln a0.Mons[i].Tables) then (bif keptOk (ix a0.Mons[i].Tables (j : Int) (Ty.dflt .kept)) g.Live a0.Mons[i].Outer then κ () else some [AV.one (.b false)]) else rec ((((i + 1 : Nat)) : Int), (a0.Memory, (a0.Mons, (a0.Buffer, (a0.IoBuffer, ())))))) (fun (u : Unit) => (rec ((((i + 1 : Nat)) : Int), (a0.Memory, (a0.Mons, (a0.Buffer, (a0.IoBuffer, ()))))))) (fun j hj u rec1 => ?_) (fun u rec1 => ?_) _ () (hNN hgl)).trans ?_
    · simp only [ilt_ln hj, inb_ln hj, ix_ln hj, wadd_up hj hgl, cT, inb_ln hi, ix_ln hi, wadd_up hi hl]
      cases hh : ilt (j : Int) (ln a0.Mons[i].Tables)
      · rfl
      · simp only [cT, ilt_inb hh, s_KeptOk_c, s_KeptOk]
        cases keptOk (ix a0.Mons[i].Tables (↑j) (Ty.dflt .kept)) a0.Mons[i].Guests[j].Live a0.Mons[i].Outer <;> rfl
    · simp only [ilt_end, ilt_nend, cF, inb_ln hi, ix_ln hi, wadd_up hi hl]
    exact goL_tables _ _ _ _ _ _
  · simp only [ilt_end, ilt_nend, cF]
  rw [goL_all]
  unfold s_TablesRight tablesRight
  cases a0.Mons.all tablesOf <;> rfl
theorem holds_s_TablesRight : Holds Try.prog 20 run_s_TablesRight := by
  refine holds_of_eval (engQ_ok ctrC5_ok mct0_ok pct0_ok) (fn_ok (by kernel_rfl)) ?_
  intro avs rs hr h
  have hb := allB_of_rep hr
  unfold run_s_TablesRight at h
  split at h
  · rename_i a0_0 a0_1 a0_2 a0_3
    obtain ⟨hc, rfl⟩ := some_pair h
    obtain ⟨N, hN⟩ := law_s_TablesRight (⟨a0_0, a0_1, a0_2, a0_3⟩ : Host) hb hc
    exact ⟨tms_s_TablesRight, N, 12, (nf_s_TablesRight N (⟨a0_0, a0_1, a0_2, a0_3⟩ : Host)).trans hN⟩
  · cases h

def i_TablesRight_c (_ : Host) : Bool := true
def i_TablesRight (h : Host) : Bool := tablesRight h
noncomputable def run_i_TablesRight : List AV → Option (Bool × List AV)
  | [.agg [.s (.sl .int) a0_0, .s .mon a0_1, .s .entry a0_2, .s .entry a0_3]] => some ((i_TablesRight_c (⟨a0_0, a0_1, a0_2, a0_3⟩ : Host)), [.one (.b (i_TablesRight (⟨a0_0, a0_1, a0_2, a0_3⟩ : Host)))])
  | _ => none

noncomputable def E_i_TablesRight (N : Nat) (a0 : Host) : Option Ans :=
  (iter (σ := (Int × (Int × ((List Mon) × Unit)))) N (fun r2 s3 => (bif (ilt s3.2.1 s3.1) then (bif (inb s3.2.1 (ln s3.2.2.1)) then (iter (σ := (Int × (Int × (Int × (Int × (Int × (Int × (Int × (Int × (Int × (Int × (Int × (Int × ((List Mon) × Unit)))))))))))))) N (fun r4 s5 => (bif (ilt s5.1 (ln (ix s5.2.2.2.2.2.2.2.2.2.2.2.2.1 s5.2.2.2.2.2.2.1 (Ty.dflt .mon)).Guests)) then (bif (ilt s5.1 (ln (ix s5.2.2.2.2.2.2.2.2.2.2.2.2.1 s5.2.2.2.2.2.2.2.2.2.2.1 (Ty.dflt .mon)).Tables)) then (bif (inb s5.1 (ln (ix s5.2.2.2.2.2.2.2.2.2.2.2.2.1 s5.2.2.2.2.2.2.2.2.2.2.1 (Ty.dflt .mon)).Tables)) then (bif (inb s5.1 (ln (ix s5.2.2.2.2.2.2.2.2.2.2.2.2.1 s5.2.2.2.2.2.2.1 (Ty.dflt .mon)).Guests)) then (bif (i_KeptOk_c (ix (ix s5.2.2.2.2.2.2.2.2.2.2.2.2.1 s5.2.2.2.2.2.2.2.2.2.2.1 (Ty.dflt .mon)).Tables s5.1 (Ty.dflt .kept)) (ix (ix s5.2.2.2.2.2.2.2.2.2.2.2.2.1 s5.2.2.2.2.2.2.1 (Ty.dflt .mon)).Guests s5.1 (Ty.dflt .guest)).Live (ix s5.2.2.2.2.2.2.2.2.2.2.2.2.1 s5.2.2.2.1 (Ty.dflt .mon)).Outer) then (bif (bif (i_KeptOk (ix (ix s5.2.2.2.2.2.2.2.2.2.2.2.2.1 s5.2.2.2.2.2.2.2.2.2.2.1 (Ty.dflt .mon)).Tables s5.1 (Ty.dflt .kept)) (ix (ix s5.2.2.2.2.2.2.2.2.2.2.2.2.1 s5.2.2.2.2.2.2.1 (Ty.dflt .mon)).Guests s5.1 (Ty.dflt .guest)).Live (ix s5.2.2.2.2.2.2.2.2.2.2.2.2.1 s5.2.2.2.1 (Ty.dflt .mon)).Outer) then false else true) then (some [(.one (.b false))]) else (r4 ((wadd .i64 s5.1 1), (s5.2.1, (s5.2.2.1, (s5.2.2.2.1, (s5.2.2.2.2.1, (s5.2.2.2.2.2.1, (s5.2.2.2.2.2.2.1, (s5.2.2.2.2.2.2.2.1, (s5.2.2.2.2.2.2.2.2.1, (s5.2.2.2.2.2.2.2.2.2.1, (s5.2.2.2.2.2.2.2.2.2.2.1, (s5.2.2.2.2.2.2.2.2.2.2.2.1, (s5.2.2.2.2.2.2.2.2.2.2.2.2.1, ()))))))))))))))) else none) else none) else none) else (r2 (s5.2.1, ((wadd .i64 s5.2.2.1 1), (s5.2.2.2.2.2.2.2.2.2.2.2.2.1, ()))))) else (r2 (s5.2.1, ((wadd .i64 s5.2.2.1 1), (s5.2.2.2.2.2.2.2.2.2.2.2.2.1, ())))))) (0, (s3.1, (s3.2.1, (s3.2.1, (s3.2.1, (s3.2.1, (s3.2.1, (s3.2.1, ((ix s3.2.2.1 s3.2.1 (Ty.dflt .mon)).Pending, ((ix s3.2.2.1 s3.2.1 (Ty.dflt .mon)).Traps, (s3.2.1, ((ix s3.2.2.1 s3.2.1 (Ty.dflt .mon)).Own, (s3.2.2.1, ())))))))))))))) else none) else (some [(.one (.b true))]))) ((ln a0.Mons), (0, (a0.Mons, ()))))

def tms_i_TablesRight : FuncId → Nat → Option Tmpl := tmsOf [(21, 0, { n := 43, tm := [(7, .sl 0 []), (8, .i .i64), (9, .i .i64)], lo := [], ro := [(0, .mon, false)] }), (21, 2, { n := 43, tm := [(4, .lp 0 0), (5, .i .i64), (7, .sl 0 []), (8, .i .i64), (9, .i .i64)], lo := [(0, [.sl 0 [0], .sl 0 [1], .sl 0 [2], .sl 0 [3], .sl 0 [4], .i .i64, .i .i64, .sl 0 [7], .i .i64])], ro := [(0, .mon, false)] })]

theorem nf_i_TablesRight (N : Nat) (a0 : Host) : evalFn (cfgQ (aget ctrC5) (aget mct0) (aget pct0)) tms_i_TablesRight N 12 21 [.agg (hostC a0)] = E_i_TablesRight N a0 := by kernel_rfl

theorem law_i_TablesRight (a0 : Host) (hb : AllB big [.agg (hostC a0)]) (hc : (i_TablesRight_c a0) = true) : ∃ N, E_i_TablesRight N a0 = some [.one (.b (i_TablesRight a0))] := by
  have hm : CVB big (.s .mon a0.Mons) := (allB_cons hb).1 _ (by simp [AV.cvs, hostC])
  have hl := hm.len
  refine ⟨NN, ?_⟩
  have hNN : ∀ {n : Nat}, n ≤ big → n < NN := fun h => NN_lt h
  generalize NN = N at hNN ⊢
  unfold E_i_TablesRight
  refine (iter_list a0.Mons (fun i (t : Unit) => ((ln a0.Mons), (i : Int), a0.Mons, ())) _ (fun _ (x : Mon) (_ : Unit) κ => bif tablesOf x then κ () else some [AV.one (.b false)]) (fun (t : Unit) => (some [(.one (.b true))])) (fun i hi t rec => ?_) (fun t rec => ?_) _ () (hNN hl)).trans ?_
  · simp only [ilt_ln hi, inb_ln hi, ix_ln hi, wadd_up hi hl, cT]
    have hgl : a0.Mons[i].Guests.length ≤ big := (hm.inv.2 _ (List.getElem_mem hi) (.s .guest _) (by simp [Ty.cells])).len
    refine (iter_list a0.Mons[i].Guests (fun j (u : Unit) => ((j : Int), (ln a0.Mons), (i : Int), (i : Int), (i : Int), (i : Int), (i : Int), (i : Int), a0.Mons[i].Pending, a0.Mons[i].Traps, (i : Int), a0.Mons[i].Own, a0.Mons, ())) _ (fun j (g : Guest) (_ : Unit) κ => bif ilt (j : Int) (ln a0.Mons[i].Tables) then (bif keptOk (ix a0.Mons[i].Tables (j : Int) (Ty.dflt .kept)) g.Live a0.Mons[i].Outer then κ () else some [AV.one (.b false)]) else rec (ln a0.Mons, (((i + 1 : Nat)) : Int), a0.Mons, ())) (fun (u : Unit) => (rec ((ln a0.Mons), ((((i + 1 : Nat)) : Int), (a0.Mons, ()))))) (fun j hj u rec1 => ?_) (fun u rec1 => ?_) _ () (hNN hgl)).trans ?_
    · simp only [ilt_ln hj, inb_ln hj, ix_ln hj, wadd_up hj hgl, cT, inb_ln hi, ix_ln hi, wadd_up hi hl]
      cases hh : ilt (j : Int) (ln a0.Mons[i].Tables)
      · rfl
      · simp only [cT, ilt_inb hh, i_KeptOk_c, i_KeptOk]
        cases keptOk (ix a0.Mons[i].Tables (↑j) (Ty.dflt .kept)) a0.Mons[i].Guests[j].Live a0.Mons[i].Outer <;> rfl
    · simp only [ilt_end, ilt_nend, cF, inb_ln hi, ix_ln hi, wadd_up hi hl]
    exact goL_tables _ _ _ _ _ _
  · simp only [ilt_end, ilt_nend, cF]
  rw [goL_all]
  unfold i_TablesRight tablesRight
  cases a0.Mons.all tablesOf <;> rfl
theorem holds_i_TablesRight : Holds Try.prog 21 run_i_TablesRight := by
  refine holds_of_eval (engQ_ok ctrC5_ok mct0_ok pct0_ok) (fn_ok (by kernel_rfl)) ?_
  intro avs rs hr h
  have hb := allB_of_rep hr
  unfold run_i_TablesRight at h
  split at h
  · rename_i a0_0 a0_1 a0_2 a0_3
    obtain ⟨hc, rfl⟩ := some_pair h
    obtain ⟨N, hN⟩ := law_i_TablesRight (⟨a0_0, a0_1, a0_2, a0_3⟩ : Host) hb hc
    exact ⟨tms_i_TablesRight, N, 12, (nf_i_TablesRight N (⟨a0_0, a0_1, a0_2, a0_3⟩ : Host)).trans hN⟩
  · cases h


/-! Cached translations. -/

def entryRight (h : Host) (e : Entry) : Bool :=
  bif hasB (tagMon e.Tag) (ln h.Mons) then (bif hasB (tagGuest e.Tag) (ln (ix h.Mons (tagMon e.Tag) (Ty.dflt .mon)).Guests) then
    below' ⟨e.Host, e.Rights⟩ (composeSlot (slotAt (ix (ix h.Mons (tagMon e.Tag) (Ty.dflt .mon)).Guests (tagGuest e.Tag) (Ty.dflt .guest)).Live e.Page) (ix h.Mons (tagMon e.Tag) (Ty.dflt .mon)).Outer) else false) else false
def entriesRight (h : Host) (b : List Entry) : Bool := b.all (entryRight h)

def s_EntriesRight_c (_ : Host) (_ : List Entry) : Bool := true
def s_EntriesRight (h : Host) (b : List Entry) : Bool := entriesRight h b
noncomputable def run_s_EntriesRight : List AV → Option (Bool × List AV)
  | [.agg [.s (.sl .int) a0_0, .s .mon a0_1, .s .entry a0_2, .s .entry a0_3], .one (.s .entry a1)] => some ((s_EntriesRight_c (⟨a0_0, a0_1, a0_2, a0_3⟩ : Host) a1), [.one (.b (s_EntriesRight (⟨a0_0, a0_1, a0_2, a0_3⟩ : Host) a1))])
  | _ => none

noncomputable def E_s_EntriesRight (N : Nat) (a0 : Host) (a1 : List Entry) : Option Ans :=
  (iter (σ := (Int × ((List Entry) × ((List (List Int)) × ((List Mon) × ((List Entry) × ((List Entry) × Unit))))))) N (fun r3 s4 => (bif (ilt s4.1 (ln s4.2.1)) then (bif (inb s4.1 (ln s4.2.1)) then (bif (s_TagMon_c (ix s4.2.1 s4.1 (Ty.dflt .entry)).Tag) then (bif (inb s4.1 (ln s4.2.1)) then (bif (s_TagGuest_c (ix s4.2.1 s4.1 (Ty.dflt .entry)).Tag) then (bif (s_l01In_c (s_TagMon (ix s4.2.1 s4.1 (Ty.dflt .entry)).Tag) 0 (wsub .i64 (ln s4.2.2.2.1) 1)) then (bif (bif (s_l01In (s_TagMon (ix s4.2.1 s4.1 (Ty.dflt .entry)).Tag) 0 (wsub .i64 (ln s4.2.2.2.1) 1)) then false else true) then (some [(.one (.b false))]) else (bif (inb (s_TagMon (ix s4.2.1 s4.1 (Ty.dflt .entry)).Tag) (ln s4.2.2.2.1)) then (bif (s_l01In_c (s_TagGuest (ix s4.2.1 s4.1 (Ty.dflt .entry)).Tag) 0 (wsub .i64 (ln (ix s4.2.2.2.1 (s_TagMon (ix s4.2.1 s4.1 (Ty.dflt .entry)).Tag) (Ty.dflt .mon)).Guests) 1)) then (bif (bif (s_l01In (s_TagGuest (ix s4.2.1 s4.1 (Ty.dflt .entry)).Tag) 0 (wsub .i64 (ln (ix s4.2.2.2.1 (s_TagMon (ix s4.2.1 s4.1 (Ty.dflt .entry)).Tag) (Ty.dflt .mon)).Guests) 1)) then false else true) then (some [(.one (.b false))]) else (bif (inb (s_TagMon (ix s4.2.1 s4.1 (Ty.dflt .entry)).Tag) (ln s4.2.2.2.1)) then (bif (inb (s_TagGuest (ix s4.2.1 s4.1 (Ty.dflt .entry)).Tag) (ln (ix s4.2.2.2.1 (s_TagMon (ix s4.2.1 s4.1 (Ty.dflt .entry)).Tag) (Ty.dflt .mon)).Guests)) then (bif (inb s4.1 (ln s4.2.1)) then (bif (s_SlotAt_c (ix (ix s4.2.2.2.1 (s_TagMon (ix s4.2.1 s4.1 (Ty.dflt .entry)).Tag) (Ty.dflt .mon)).Guests (s_TagGuest (ix s4.2.1 s4.1 (Ty.dflt .entry)).Tag) (Ty.dflt .guest)).Live (ix s4.2.1 s4.1 (Ty.dflt .entry)).Page) then (bif (inb (s_TagMon (ix s4.2.1 s4.1 (Ty.dflt .entry)).Tag) (ln s4.2.2.2.1)) then (bif (s_ComposeSlot_c (s_SlotAt (ix (ix s4.2.2.2.1 (s_TagMon (ix s4.2.1 s4.1 (Ty.dflt .entry)).Tag) (Ty.dflt .mon)).Guests (s_TagGuest (ix s4.2.1 s4.1 (Ty.dflt .entry)).Tag) (Ty.dflt .guest)).Live (ix s4.2.1 s4.1 (Ty.dflt .entry)).Page) (ix s4.2.2.2.1 (s_TagMon (ix s4.2.1 s4.1 (Ty.dflt .entry)).Tag) (Ty.dflt .mon)).Outer) then (bif (inb s4.1 (ln s4.2.1)) then (bif (inb s4.1 (ln s4.2.1)) then (bif (s_Below_c (⟨(ix s4.2.1 s4.1 (Ty.dflt .entry)).Host, (ix s4.2.1 s4.1 (Ty.dflt .entry)).Rights⟩ : Slot) (s_ComposeSlot (s_SlotAt (ix (ix s4.2.2.2.1 (s_TagMon (ix s4.2.1 s4.1 (Ty.dflt .entry)).Tag) (Ty.dflt .mon)).Guests (s_TagGuest (ix s4.2.1 s4.1 (Ty.dflt .entry)).Tag) (Ty.dflt .guest)).Live (ix s4.2.1 s4.1 (Ty.dflt .entry)).Page) (ix s4.2.2.2.1 (s_TagMon (ix s4.2.1 s4.1 (Ty.dflt .entry)).Tag) (Ty.dflt .mon)).Outer)) then (bif (bif (s_Below (⟨(ix s4.2.1 s4.1 (Ty.dflt .entry)).Host, (ix s4.2.1 s4.1 (Ty.dflt .entry)).Rights⟩ : Slot) (s_ComposeSlot (s_SlotAt (ix (ix s4.2.2.2.1 (s_TagMon (ix s4.2.1 s4.1 (Ty.dflt .entry)).Tag) (Ty.dflt .mon)).Guests (s_TagGuest (ix s4.2.1 s4.1 (Ty.dflt .entry)).Tag) (Ty.dflt .guest)).Live (ix s4.2.1 s4.1 (Ty.dflt .entry)).Page) (ix s4.2.2.2.1 (s_TagMon (ix s4.2.1 s4.1 (Ty.dflt .entry)).Tag) (Ty.dflt .mon)).Outer)) then false else true) then (some [(.one (.b false))]) else (r3 ((wadd .i64 s4.1 1), (s4.2.1, (s4.2.2.1, (s4.2.2.2.1, (s4.2.2.2.2.1, (s4.2.2.2.2.2.1, ())))))))) else none) else none) else none) else none) else none) else none) else none) else none) else none)) else none) else none)) else none) else none) else none) else none) else none) else (some [(.one (.b true))]))) (0, (a1, (a0.Memory, (a0.Mons, (a0.Buffer, (a0.IoBuffer, ())))))))

def tms_s_EntriesRight : FuncId → Nat → Option Tmpl := tmsOf [(23, 0, { n := 84, tm := [(1, .sl 0 []), (2, .lp 0 0), (5, .i .i64)], lo := [(0, [.sl 1 [], .sl 2 [], .sl 3 [], .sl 4 []])], ro := [(0, .entry, false), (1, (.sl .int), false), (2, .mon, false), (3, .entry, false), (4, .entry, false)] })]

theorem nf_s_EntriesRight (N : Nat) (a0 : Host) (a1 : List Entry) : evalFn (cfgQ (aget ctrC5) (aget mct0) (aget pct0)) tms_s_EntriesRight N 12 23 [.agg (hostC a0), .one (.s .entry a1)] = E_s_EntriesRight N a0 a1 := by kernel_rfl

theorem law_s_EntriesRight (a0 : Host) (a1 : List Entry) (hb : AllB big [.agg (hostC a0), .one (.s .entry a1)]) (hc : (s_EntriesRight_c a0 a1) = true) : ∃ N, E_s_EntriesRight N a0 a1 = some [.one (.b (s_EntriesRight a0 a1))] := by
  have hm : CVB big (.s .mon a0.Mons) := (allB_cons hb).1 _ (by simp [AV.cvs, hostC])
  have hl := ((allB_cons (allB_cons hb).2).1 _ (List.mem_singleton.2 rfl)).len
  refine ⟨NN, ?_⟩
  unfold E_s_EntriesRight
  refine (iter_list a1 (fun i (_ : Unit) => ((i : Int), (a1, (a0.Memory, (a0.Mons, (a0.Buffer, (a0.IoBuffer, ()))))))) _ (fun _ (x : Entry) (_ : Unit) k => bif entryRight a0 x then k () else some [AV.one (.b false)]) (fun _ => some [AV.one (.b true)])
    (fun i hi t rec => ?_) (fun t rec => ?_) _ () (NN_lt hl)).trans ?_
  · simp only [ilt_ln hi, inb_ln hi, ix_ln hi, cT, s_TagMon_c, s_TagMon, s_TagGuest_c, s_TagGuest, s_l01In_c, s_SlotAt_c, s_SlotAt, s_ComposeSlot_c, s_ComposeSlot, s_Below_c, s_Below, wadd_up hi hl]
    unfold entryRight
    generalize a1[i] = e
    have e1 : s_l01In (tagMon e.Tag) 0 (wsub .i64 (ln a0.Mons) 1) = hasB (tagMon e.Tag) (ln a0.Mons) := l01In_len' hm.len _
    rw [e1]
    cases hh : hasB (tagMon e.Tag) (ln a0.Mons)
    · rfl
    · have hgl : (ix a0.Mons (tagMon e.Tag) (Ty.dflt .mon)).Guests.length ≤ big := (hm.inv.2 _ (ix_mem hh (Ty.dflt .mon)) (.s .guest _) (by simp [Ty.cells])).len
      have e2 : s_l01In (tagGuest e.Tag) 0 (wsub .i64 (ln (ix a0.Mons (tagMon e.Tag) (Ty.dflt .mon)).Guests) 1) = hasB (tagGuest e.Tag) (ln (ix a0.Mons (tagMon e.Tag) (Ty.dflt .mon)).Guests) := l01In_len' hgl _
      rw [inb_has hh, e2]
      cases hh2 : hasB (tagGuest e.Tag) (ln (ix a0.Mons (tagMon e.Tag) (Ty.dflt .mon)).Guests)
      · rfl
      · rw [inb_has hh2]
        simp only [cT, Bool.not_true, cF]
        cases below' ⟨e.Host, e.Rights⟩ (composeSlot (slotAt (ix (ix a0.Mons (tagMon e.Tag) (Ty.dflt .mon)).Guests (tagGuest e.Tag) (Ty.dflt .guest)).Live e.Page) (ix a0.Mons (tagMon e.Tag) (Ty.dflt .mon)).Outer) <;> rfl
  · simp only [ilt_end, cF]
  · rw [goL_all]
    unfold s_EntriesRight entriesRight
    cases a1.all (entryRight a0) <;> rfl
theorem holds_s_EntriesRight : Holds Try.prog 23 run_s_EntriesRight := by
  refine holds_of_eval (engQ_ok ctrC5_ok mct0_ok pct0_ok) (fn_ok (by kernel_rfl)) ?_
  intro avs rs hr h
  have hb := allB_of_rep hr
  unfold run_s_EntriesRight at h
  split at h
  · rename_i a0_0 a0_1 a0_2 a0_3 a1
    obtain ⟨hc, rfl⟩ := some_pair h
    obtain ⟨N, hN⟩ := law_s_EntriesRight (⟨a0_0, a0_1, a0_2, a0_3⟩ : Host) a1 hb hc
    exact ⟨tms_s_EntriesRight, N, 12, (nf_s_EntriesRight N (⟨a0_0, a0_1, a0_2, a0_3⟩ : Host) a1).trans hN⟩
  · cases h

def i_EntriesRight_c (_ : Host) (_ : List Entry) : Bool := true
def i_EntriesRight (h : Host) (b : List Entry) : Bool := entriesRight h b
noncomputable def run_i_EntriesRight : List AV → Option (Bool × List AV)
  | [.agg [.s (.sl .int) a0_0, .s .mon a0_1, .s .entry a0_2, .s .entry a0_3], .one (.s .entry a1)] => some ((i_EntriesRight_c (⟨a0_0, a0_1, a0_2, a0_3⟩ : Host) a1), [.one (.b (i_EntriesRight (⟨a0_0, a0_1, a0_2, a0_3⟩ : Host) a1))])
  | _ => none

noncomputable def E_i_EntriesRight (N : Nat) (a0 : Host) (a1 : List Entry) : Option Ans :=
  (iter (σ := (Int × (Int × ((List Entry) × ((List (List Int)) × ((List Mon) × ((List Entry) × ((List Entry) × Unit)))))))) N (fun r3 s4 => (bif (ilt s4.2.1 s4.1) then (bif (inb s4.2.1 (ln s4.2.2.1)) then (bif (i_TagMon_c (ix s4.2.2.1 s4.2.1 (Ty.dflt .entry)).Tag) then (bif (i_TagGuest_c (ix s4.2.2.1 s4.2.1 (Ty.dflt .entry)).Tag) then (bif (i_has_c (i_TagMon (ix s4.2.2.1 s4.2.1 (Ty.dflt .entry)).Tag) (ln s4.2.2.2.2.1)) then (bif (bif (i_has (i_TagMon (ix s4.2.2.1 s4.2.1 (Ty.dflt .entry)).Tag) (ln s4.2.2.2.2.1)) then false else true) then (some [(.one (.b false))]) else (bif (inb (i_TagMon (ix s4.2.2.1 s4.2.1 (Ty.dflt .entry)).Tag) (ln s4.2.2.2.2.1)) then (bif (i_has_c (i_TagGuest (ix s4.2.2.1 s4.2.1 (Ty.dflt .entry)).Tag) (ln (ix s4.2.2.2.2.1 (i_TagMon (ix s4.2.2.1 s4.2.1 (Ty.dflt .entry)).Tag) (Ty.dflt .mon)).Guests)) then (bif (bif (i_has (i_TagGuest (ix s4.2.2.1 s4.2.1 (Ty.dflt .entry)).Tag) (ln (ix s4.2.2.2.2.1 (i_TagMon (ix s4.2.2.1 s4.2.1 (Ty.dflt .entry)).Tag) (Ty.dflt .mon)).Guests)) then false else true) then (some [(.one (.b false))]) else (bif (inb (i_TagMon (ix s4.2.2.1 s4.2.1 (Ty.dflt .entry)).Tag) (ln s4.2.2.2.2.1)) then (bif (inb (i_TagGuest (ix s4.2.2.1 s4.2.1 (Ty.dflt .entry)).Tag) (ln (ix s4.2.2.2.2.1 (i_TagMon (ix s4.2.2.1 s4.2.1 (Ty.dflt .entry)).Tag) (Ty.dflt .mon)).Guests)) then (bif (i_SlotAt_c (ix (ix s4.2.2.2.2.1 (i_TagMon (ix s4.2.2.1 s4.2.1 (Ty.dflt .entry)).Tag) (Ty.dflt .mon)).Guests (i_TagGuest (ix s4.2.2.1 s4.2.1 (Ty.dflt .entry)).Tag) (Ty.dflt .guest)).Live (ix s4.2.2.1 s4.2.1 (Ty.dflt .entry)).Page) then (bif (inb (i_TagMon (ix s4.2.2.1 s4.2.1 (Ty.dflt .entry)).Tag) (ln s4.2.2.2.2.1)) then (bif (i_ComposeSlot_c (i_SlotAt (ix (ix s4.2.2.2.2.1 (i_TagMon (ix s4.2.2.1 s4.2.1 (Ty.dflt .entry)).Tag) (Ty.dflt .mon)).Guests (i_TagGuest (ix s4.2.2.1 s4.2.1 (Ty.dflt .entry)).Tag) (Ty.dflt .guest)).Live (ix s4.2.2.1 s4.2.1 (Ty.dflt .entry)).Page) (ix s4.2.2.2.2.1 (i_TagMon (ix s4.2.2.1 s4.2.1 (Ty.dflt .entry)).Tag) (Ty.dflt .mon)).Outer) then (bif (i_Below_c (⟨(ix s4.2.2.1 s4.2.1 (Ty.dflt .entry)).Host, (ix s4.2.2.1 s4.2.1 (Ty.dflt .entry)).Rights⟩ : Slot) (i_ComposeSlot (i_SlotAt (ix (ix s4.2.2.2.2.1 (i_TagMon (ix s4.2.2.1 s4.2.1 (Ty.dflt .entry)).Tag) (Ty.dflt .mon)).Guests (i_TagGuest (ix s4.2.2.1 s4.2.1 (Ty.dflt .entry)).Tag) (Ty.dflt .guest)).Live (ix s4.2.2.1 s4.2.1 (Ty.dflt .entry)).Page) (ix s4.2.2.2.2.1 (i_TagMon (ix s4.2.2.1 s4.2.1 (Ty.dflt .entry)).Tag) (Ty.dflt .mon)).Outer)) then (bif (bif (i_Below (⟨(ix s4.2.2.1 s4.2.1 (Ty.dflt .entry)).Host, (ix s4.2.2.1 s4.2.1 (Ty.dflt .entry)).Rights⟩ : Slot) (i_ComposeSlot (i_SlotAt (ix (ix s4.2.2.2.2.1 (i_TagMon (ix s4.2.2.1 s4.2.1 (Ty.dflt .entry)).Tag) (Ty.dflt .mon)).Guests (i_TagGuest (ix s4.2.2.1 s4.2.1 (Ty.dflt .entry)).Tag) (Ty.dflt .guest)).Live (ix s4.2.2.1 s4.2.1 (Ty.dflt .entry)).Page) (ix s4.2.2.2.2.1 (i_TagMon (ix s4.2.2.1 s4.2.1 (Ty.dflt .entry)).Tag) (Ty.dflt .mon)).Outer)) then false else true) then (some [(.one (.b false))]) else (r3 (s4.1, ((wadd .i64 s4.2.1 1), (s4.2.2.1, (s4.2.2.2.1, (s4.2.2.2.2.1, (s4.2.2.2.2.2.1, (s4.2.2.2.2.2.2.1, ()))))))))) else none) else none) else none) else none) else none) else none)) else none) else none)) else none) else none) else none) else none) else (some [(.one (.b true))]))) ((ln a1), (0, (a1, (a0.Memory, (a0.Mons, (a0.Buffer, (a0.IoBuffer, ()))))))))

def tms_i_EntriesRight : FuncId → Nat → Option Tmpl := tmsOf [(25, 0, { n := 69, tm := [(2, .lp 0 0), (10, .sl 0 []), (11, .i .i64), (12, .i .i64)], lo := [(0, [.sl 1 [], .sl 2 [], .sl 3 [], .sl 4 []])], ro := [(0, .entry, false), (1, (.sl .int), false), (2, .mon, false), (3, .entry, false), (4, .entry, false)] })]

theorem nf_i_EntriesRight (N : Nat) (a0 : Host) (a1 : List Entry) : evalFn (cfgQ (aget ctrC5) (aget mct0) (aget pct0)) tms_i_EntriesRight N 12 25 [.agg (hostC a0), .one (.s .entry a1)] = E_i_EntriesRight N a0 a1 := by kernel_rfl

theorem law_i_EntriesRight (a0 : Host) (a1 : List Entry) (hb : AllB big [.agg (hostC a0), .one (.s .entry a1)]) (hc : (i_EntriesRight_c a0 a1) = true) : ∃ N, E_i_EntriesRight N a0 a1 = some [.one (.b (i_EntriesRight a0 a1))] := by
  have hl := ((allB_cons (allB_cons hb).2).1 _ (List.mem_singleton.2 rfl)).len
  refine ⟨NN, ?_⟩
  unfold E_i_EntriesRight
  refine (iter_list a1 (fun i (_ : Unit) => (ln a1, ((i : Int), (a1, (a0.Memory, (a0.Mons, (a0.Buffer, (a0.IoBuffer, ())))))))) _ (fun _ (x : Entry) (_ : Unit) k => bif entryRight a0 x then k () else some [AV.one (.b false)]) (fun _ => some [AV.one (.b true)])
    (fun i hi t rec => ?_) (fun t rec => ?_) _ () (NN_lt hl)).trans ?_
  · simp only [ilt_ln hi, inb_ln hi, ix_ln hi, cT, i_TagMon_c, i_TagMon, i_TagGuest_c, i_TagGuest, i_has_c, i_has, i_SlotAt_c, i_SlotAt, i_ComposeSlot_c, i_ComposeSlot, i_Below_c, i_Below, wadd_up hi hl]
    unfold entryRight
    generalize a1[i] = e
    cases hh : hasB (tagMon e.Tag) (ln a0.Mons)
    · rfl
    · rw [inb_has hh]
      cases hh2 : hasB (tagGuest e.Tag) (ln (ix a0.Mons (tagMon e.Tag) (Ty.dflt .mon)).Guests)
      · rfl
      · rw [inb_has hh2]
        simp only [cT, Bool.not_true, cF]
        cases below' ⟨e.Host, e.Rights⟩ (composeSlot (slotAt (ix (ix a0.Mons (tagMon e.Tag) (Ty.dflt .mon)).Guests (tagGuest e.Tag) (Ty.dflt .guest)).Live e.Page) (ix a0.Mons (tagMon e.Tag) (Ty.dflt .mon)).Outer) <;> rfl
  · simp only [ilt_end, cF]
  · rw [goL_all]
    unfold i_EntriesRight entriesRight
    cases a1.all (entryRight a0) <;> rfl
theorem holds_i_EntriesRight : Holds Try.prog 25 run_i_EntriesRight := by
  refine holds_of_eval (engQ_ok ctrC5_ok mct0_ok pct0_ok) (fn_ok (by kernel_rfl)) ?_
  intro avs rs hr h
  have hb := allB_of_rep hr
  unfold run_i_EntriesRight at h
  split at h
  · rename_i a0_0 a0_1 a0_2 a0_3 a1
    obtain ⟨hc, rfl⟩ := some_pair h
    obtain ⟨N, hN⟩ := law_i_EntriesRight (⟨a0_0, a0_1, a0_2, a0_3⟩ : Host) a1 hb hc
    exact ⟨tms_i_EntriesRight, N, 12, (nf_i_EntriesRight N (⟨a0_0, a0_1, a0_2, a0_3⟩ : Host) a1).trans hN⟩
  · cases h

noncomputable def ctrC6 : Ctrs := [(20, run_s_TablesRight), (21, run_i_TablesRight), (23, run_s_EntriesRight), (25, run_i_EntriesRight)] ++ ctrC5

theorem ctrC6_ok : ∀ f run, aget ctrC6 f = some run → Holds Try.prog f run := ctr_more ctrC5_ok (by
  intro x hx
  simp only [List.mem_cons, List.not_mem_nil, or_false] at hx
  rcases hx with rfl | rfl | rfl | rfl
  · exact holds_s_TablesRight
  · exact holds_i_TablesRight
  · exact holds_s_EntriesRight
  · exact holds_i_EntriesRight)

noncomputable def ctrW : Ctrs := ctrC6
theorem ctrW_ok : ∀ f run, aget ctrW f = some run → Holds Try.prog f run := ctrC6_ok
end Go.Proofs.Ytglijfolfelimaa.E
