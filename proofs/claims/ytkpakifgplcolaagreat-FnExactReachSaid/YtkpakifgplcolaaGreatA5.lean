/- What is proved here: contracts of what TablesRight, EntriesRight and IsDirty reach. -/
import Derived.Test.YtkpakifgplcolaaGreatA3
import Derived.KernelRfl
namespace Go.Proofs.YtkpakifgplcolaaGreat.E
open Go
set_option maxRecDepth 100000
set_option linter.unusedVariables false
set_option linter.unusedSimpArgs false

/-! Rights, slots. -/

def noSlot : Slot := ⟨-1, 0⟩
def s_NoSlot_c : Bool := true
@[reducible] def s_NoSlot : Slot := noSlot
noncomputable def run_s_NoSlot : List AV → Option (Bool × List AV)
  | [] => some (s_NoSlot_c, [.agg (Ty.cells .slot s_NoSlot)])
  | _ => none

noncomputable def E_s_NoSlot (N : Nat)  : Option Ans :=
  (some [(.agg [(.i .i64 (-1)), (.i .i64 0)])])

theorem nf_s_NoSlot (N : Nat)  : evalFn (cfgQ (aget ctrY) (aget mct0) (aget pct0) (aget tct0)) (tmsOf []) N 12 38 [] = E_s_NoSlot N := by kernel_rfl

theorem law_s_NoSlot  (hb : AllB big []) (hc : s_NoSlot_c = true) : ∃ N, E_s_NoSlot N  = some [.agg (Ty.cells .slot s_NoSlot)] := by
  exact ⟨0, rfl⟩
theorem holds_s_NoSlot : Holds Tryz.prog 38 run_s_NoSlot := by
  refine holds_of_eval (engQ_ok ctrY_ok mct0_ok pct0_ok tct0_ok) (fn_ok (by kernel_rfl)) ?_
  intro avs rs hr h
  have hb := allB_of_rep hr
  unfold run_s_NoSlot at h
  split at h
  · skip
    obtain ⟨hc, rfl⟩ := some_pair h
    obtain ⟨N, hN⟩ := law_s_NoSlot  hb hc
    exact ⟨tmsOf [], N, 12, (nf_s_NoSlot N ).trans hN⟩
  · cases h

def i_NoSlot_c : Bool := true
@[reducible] def i_NoSlot : Slot := noSlot
noncomputable def run_i_NoSlot : List AV → Option (Bool × List AV)
  | [] => some (i_NoSlot_c, [.agg (Ty.cells .slot i_NoSlot)])
  | _ => none

noncomputable def E_i_NoSlot (N : Nat)  : Option Ans :=
  (some [(.agg [(.i .i64 (-1)), (.i .i64 0)])])

theorem nf_i_NoSlot (N : Nat)  : evalFn (cfgQ (aget ctrY) (aget mct0) (aget pct0) (aget tct0)) (tmsOf []) N 12 42 [] = E_i_NoSlot N := by kernel_rfl

theorem law_i_NoSlot  (hb : AllB big []) (hc : i_NoSlot_c = true) : ∃ N, E_i_NoSlot N  = some [.agg (Ty.cells .slot i_NoSlot)] := by
  exact ⟨0, rfl⟩
theorem holds_i_NoSlot : Holds Tryz.prog 42 run_i_NoSlot := by
  refine holds_of_eval (engQ_ok ctrY_ok mct0_ok pct0_ok tct0_ok) (fn_ok (by kernel_rfl)) ?_
  intro avs rs hr h
  have hb := allB_of_rep hr
  unfold run_i_NoSlot at h
  split at h
  · skip
    obtain ⟨hc, rfl⟩ := some_pair h
    obtain ⟨N, hN⟩ := law_i_NoSlot  hb hc
    exact ⟨tmsOf [], N, 12, (nf_i_NoSlot N ).trans hN⟩
  · cases h

def i_within_c (_ _ _ : Int) : Bool := true
def i_within (x a b : Int) : Bool := ige x a && ile x b
noncomputable def run_i_within : List AV → Option (Bool × List AV)
  | [.one (.i .i64 a0), .one (.i .i64 a1), .one (.i .i64 a2)] => some ((i_within_c a0 a1 a2), [.one (.b (i_within a0 a1 a2))])
  | _ => none

noncomputable def E_i_within (N : Nat) (a0 : Int) (a1 : Int) (a2 : Int) : Option Ans :=
  (bif (ige a0 a1) then (some [(.one (.b (ile a0 a2)))]) else (some [(.one (.b false))]))

theorem nf_i_within (N : Nat) (a0 : Int) (a1 : Int) (a2 : Int) : evalFn (cfgQ (aget ctrY) (aget mct0) (aget pct0) (aget tct0)) (tmsOf []) N 12 43 [.one (.i .i64 a0), .one (.i .i64 a1), .one (.i .i64 a2)] = E_i_within N a0 a1 a2 := by kernel_rfl

theorem law_i_within (a0 : Int) (a1 : Int) (a2 : Int) (hb : AllB big [.one (.i .i64 a0), .one (.i .i64 a1), .one (.i .i64 a2)]) (hc : (i_within_c a0 a1 a2) = true) : ∃ N, E_i_within N a0 a1 a2 = some [.one (.b (i_within a0 a1 a2))] := by
  refine ⟨0, ?_⟩
  unfold E_i_within i_within
  cases ige a0 a1 <;> rfl
theorem holds_i_within : Holds Tryz.prog 43 run_i_within := by
  refine holds_of_eval (engQ_ok ctrY_ok mct0_ok pct0_ok tct0_ok) (fn_ok (by kernel_rfl)) ?_
  intro avs rs hr h
  have hb := allB_of_rep hr
  unfold run_i_within at h
  split at h
  · rename_i a0 a1 a2
    obtain ⟨hc, rfl⟩ := some_pair h
    obtain ⟨N, hN⟩ := law_i_within a0 a1 a2 hb hc
    exact ⟨tmsOf [], N, 12, (nf_i_within N a0 a1 a2).trans hN⟩
  · cases h

noncomputable def ctrC1 : Ctrs := [(38, run_s_NoSlot), (42, run_i_NoSlot), (43, run_i_within)] ++ ctrY

theorem ctrC1_ok : ∀ f run, aget ctrC1 f = some run → Holds Tryz.prog f run := ctr_more ctrY_ok (by
  intro x hx
  simp only [List.mem_cons, List.not_mem_nil, or_false] at hx
  rcases hx with rfl | rfl | rfl
  · exact holds_s_NoSlot
  · exact holds_i_NoSlot
  · exact holds_i_within)


def rightsOk (r : Int) : Bool := ige r 0 && ile r 3
noncomputable def ctrC2 : Ctrs := ctrC1
theorem ctrC2_ok : ∀ f run, aget ctrC2 f = some run → Holds Tryz.prog f run := ctrC1_ok


def bothRights (a b : Int) : Int := bif rightsOk a then (bif rightsOk b then wand .i64 a b else 0) else 0
def enough (a b : Int) : Bool := bif rightsOk a then (bif rightsOk b then ieq (wand .i64 a b) b else false) else false

def slotAt (t : List Slot) (p : Int) : Slot := bif hasB p (ln t) then ix t p (Ty.dflt .slot) else noSlot
noncomputable def ctrC3 : Ctrs := ctrC2
theorem ctrC3_ok : ∀ f run, aget ctrC3 f = some run → Holds Tryz.prog f run := ctrC2_ok


def slotEq (a b : Slot) : Bool := ieq a.Page b.Page && ieq a.Rights b.Rights
def below' (a b : Slot) : Bool := bif slotEq a noSlot then true else (bif ieq a.Page b.Page then enough b.Rights a.Rights else false)

def composeSlot (s : Slot) (outer : List Slot) : Slot :=
  bif ieq s.Page (-1) then noSlot else (bif ieq (slotAt outer s.Page).Page (-1) then noSlot else (bif ieq (bothRights s.Rights (slotAt outer s.Page).Rights) 0 then noSlot else ⟨(slotAt outer s.Page).Page, bothRights s.Rights (slotAt outer s.Page).Rights⟩))

def tagMon (x : Int) : Int := bif (ige x 1 && ile x 6) then wquo .i64 (wsub .i64 x 1) 2 else -1
def tagGuest (x : Int) : Int := bif (ige x 1 && ile x 6) then wrem (wsub .i64 x 1) 2 else -1
def s_TagMon_c (_ : Int) : Bool := true
def s_TagMon (x : Int) : Int := tagMon x
noncomputable def run_s_TagMon : List AV → Option (Bool × List AV)
  | [.one (.i .i64 a0)] => some ((s_TagMon_c a0), [.one (.i .i64 (s_TagMon a0))])
  | _ => none

noncomputable def E_s_TagMon (N : Nat) (a0 : Int) : Option Ans :=
  (bif (s_l01In_c a0 1 6) then (bif (bif (s_l01In a0 1 6) then false else true) then (some [(.one (.i .i64 (-1)))]) else (bif (ine 2 0) then (some [(.one (.i .i64 (wquo .i64 (wsub .i64 a0 1) 2)))]) else none)) else none)

theorem nf_s_TagMon (N : Nat) (a0 : Int) : evalFn (cfgQ (aget ctrC3) (aget mct0) (aget pct0) (aget tct0)) (tmsOf []) N 12 19 [.one (.i .i64 a0)] = E_s_TagMon N a0 := by kernel_rfl

theorem law_s_TagMon (a0 : Int) (hb : AllB big [.one (.i .i64 a0)]) (hc : (s_TagMon_c a0) = true) : ∃ N, E_s_TagMon N a0 = some [.one (.i .i64 (s_TagMon a0))] := by
  refine ⟨0, ?_⟩
  unfold E_s_TagMon s_TagMon tagMon s_l01In
  cases ige a0 1 && ile a0 6 <;> rfl
theorem holds_s_TagMon : Holds Tryz.prog 19 run_s_TagMon := by
  refine holds_of_eval (engQ_ok ctrC3_ok mct0_ok pct0_ok tct0_ok) (fn_ok (by kernel_rfl)) ?_
  intro avs rs hr h
  have hb := allB_of_rep hr
  unfold run_s_TagMon at h
  split at h
  · rename_i a0
    obtain ⟨hc, rfl⟩ := some_pair h
    obtain ⟨N, hN⟩ := law_s_TagMon a0 hb hc
    exact ⟨tmsOf [], N, 12, (nf_s_TagMon N a0).trans hN⟩
  · cases h

def i_TagMon_c (_ : Int) : Bool := true
def i_TagMon (x : Int) : Int := tagMon x
noncomputable def run_i_TagMon : List AV → Option (Bool × List AV)
  | [.one (.i .i64 a0)] => some ((i_TagMon_c a0), [.one (.i .i64 (i_TagMon a0))])
  | _ => none

noncomputable def E_i_TagMon (N : Nat) (a0 : Int) : Option Ans :=
  (bif (i_within_c a0 1 6) then (bif (bif (i_within a0 1 6) then false else true) then (some [(.one (.i .i64 (-1)))]) else (bif (ine 2 0) then (some [(.one (.i .i64 (wquo .i64 (wsub .i64 a0 1) 2)))]) else none)) else none)

theorem nf_i_TagMon (N : Nat) (a0 : Int) : evalFn (cfgQ (aget ctrC3) (aget mct0) (aget pct0) (aget tct0)) (tmsOf []) N 12 25 [.one (.i .i64 a0)] = E_i_TagMon N a0 := by kernel_rfl

theorem law_i_TagMon (a0 : Int) (hb : AllB big [.one (.i .i64 a0)]) (hc : (i_TagMon_c a0) = true) : ∃ N, E_i_TagMon N a0 = some [.one (.i .i64 (i_TagMon a0))] := by
  refine ⟨0, ?_⟩
  unfold E_i_TagMon i_TagMon tagMon i_within
  cases ige a0 1 && ile a0 6 <;> rfl
theorem holds_i_TagMon : Holds Tryz.prog 25 run_i_TagMon := by
  refine holds_of_eval (engQ_ok ctrC3_ok mct0_ok pct0_ok tct0_ok) (fn_ok (by kernel_rfl)) ?_
  intro avs rs hr h
  have hb := allB_of_rep hr
  unfold run_i_TagMon at h
  split at h
  · rename_i a0
    obtain ⟨hc, rfl⟩ := some_pair h
    obtain ⟨N, hN⟩ := law_i_TagMon a0 hb hc
    exact ⟨tmsOf [], N, 12, (nf_i_TagMon N a0).trans hN⟩
  · cases h

noncomputable def ctrC4 : Ctrs := [(19, run_s_TagMon), (25, run_i_TagMon)] ++ ctrC3

theorem ctrC4_ok : ∀ f run, aget ctrC4 f = some run → Holds Tryz.prog f run := ctr_more ctrC3_ok (by
  intro x hx
  simp only [List.mem_cons, List.not_mem_nil, or_false] at hx
  rcases hx with rfl | rfl
  · exact holds_s_TagMon
  · exact holds_i_TagMon)


/-! What is kept of tables. -/

def keptAtOk (k : Kept) (inner outer : List Slot) (i : Nat) : Bool :=
  slotEq (ix k.Slots i (Ty.dflt .slot)) (bif ix k.Known i false then composeSlot (ix inner i (Ty.dflt .slot)) outer else noSlot)
def keptOk (k : Kept) (inner outer : List Slot) : Bool :=
  bif ine (ln k.Known) (ln inner) then false else (bif ine (ln k.Slots) (ln inner) then false else allN (keptAtOk k inner outer) inner.length 0)

theorem ine_len {α β : Type} {l : List α} {m : List β} (h : ine (ln l) (ln m) = false) : l.length = m.length := by
  have : (ln l == ln m) = true := by simpa [ine, bne] using h
  have := eq_of_beq this
  simp only [ln] at this
  omega

noncomputable def ctrC5 : Ctrs := ctrC4
theorem ctrC5_ok : ∀ f run, aget ctrC5 f = some run → Holds Tryz.prog f run := ctrC4_ok


/-- The tables of the guests. -/
def tablesGo (outer : List Slot) (ts : List Kept) : List Guest → Nat → Bool
  | [], _ => true
  | g :: l, i => bif ilt (i : Int) (ln ts) then (bif keptOk (ix ts (i : Int) (Ty.dflt .kept)) g.Live outer then tablesGo outer ts l (i + 1) else false) else true
theorem goL_tables {ρ : Type} (outer : List Slot) (ts : List Kept) (r r1 : Option ρ) : ∀ (l : List Guest) (i : Nat),
    goL (fun i g (_ : Unit) κ => bif ilt (i : Int) (ln ts) then (bif keptOk (ix ts (i : Int) (Ty.dflt .kept)) g.Live outer then κ () else r) else r1) (fun _ => r1) l i () = bif tablesGo outer ts l i then r1 else r
  | [], _ => rfl
  | g :: l, i => by
    simp only [goL, tablesGo]
    cases ilt (i : Int) (ln ts)
    · rfl
    · cases keptOk (ix ts (i : Int) (Ty.dflt .kept)) g.Live outer
      · rfl
      · exact goL_tables outer ts r r1 l (i + 1)
theorem ilt_inb {i : Nat} {α : Type} {l : List α} (h : ilt (i : Int) (ln l) = true) : inb (i : Int) (ln l) = true := by
  have := of_decide_eq_true h
  exact decide_eq_true ⟨by omega, this⟩

def tablesOf (m : Mon) : Bool := tablesGo m.Outer m.Tables m.Guests 0
def tablesRight (h : Host) : Bool := h.Mons.all tablesOf


/-! Cached translations. -/

def entryRight (h : Host) (e : Entry) : Bool :=
  bif hasB (tagMon e.Tag) (ln h.Mons) then (bif hasB (tagGuest e.Tag) (ln (ix h.Mons (tagMon e.Tag) (Ty.dflt .mon)).Guests) then
    below' ⟨e.Host, e.Rights⟩ (composeSlot (slotAt (ix (ix h.Mons (tagMon e.Tag) (Ty.dflt .mon)).Guests (tagGuest e.Tag) (Ty.dflt .guest)).Live e.Page) (ix h.Mons (tagMon e.Tag) (Ty.dflt .mon)).Outer) else false) else false
def entriesRight (h : Host) (b : List Entry) : Bool := b.all (entryRight h)

noncomputable def ctrC6 : Ctrs := ctrC5
theorem ctrC6_ok : ∀ f run, aget ctrC6 f = some run → Holds Tryz.prog f run := ctrC5_ok

noncomputable def ctrW : Ctrs := ctrC6
theorem ctrW_ok : ∀ f run, aget ctrW f = some run → Holds Tryz.prog f run := ctrC6_ok
end Go.Proofs.YtkpakifgplcolaaGreat.E
