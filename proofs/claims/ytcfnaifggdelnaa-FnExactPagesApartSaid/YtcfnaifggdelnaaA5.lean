/- What is proved here: contracts of what TablesRight, EntriesRight and IsDirty reach. -/
import Derived.Test.YtcfnaifggdelnaaA3
import Derived.KernelRfl
namespace Go.Proofs.Ytcfnaifggdelnaa.E
open Go
set_option maxRecDepth 100000
set_option linter.unusedVariables false
set_option linter.unusedSimpArgs false

/-! Rights, slots. -/

def noSlot : Slot := ⟨-1, 0⟩
noncomputable def ctrC1 : Ctrs := ctrY
theorem ctrC1_ok : ∀ f run, aget ctrC1 f = some run → Holds Try.prog f run := ctrY_ok


def rightsOk (r : Int) : Bool := ige r 0 && ile r 3
noncomputable def ctrC2 : Ctrs := ctrC1
theorem ctrC2_ok : ∀ f run, aget ctrC2 f = some run → Holds Try.prog f run := ctrC1_ok


def bothRights (a b : Int) : Int := bif rightsOk a then (bif rightsOk b then wand .i64 a b else 0) else 0
def enough (a b : Int) : Bool := bif rightsOk a then (bif rightsOk b then ieq (wand .i64 a b) b else false) else false

def slotAt (t : List Slot) (p : Int) : Slot := bif hasB p (ln t) then ix t p (Ty.dflt .slot) else noSlot
noncomputable def ctrC3 : Ctrs := ctrC2
theorem ctrC3_ok : ∀ f run, aget ctrC3 f = some run → Holds Try.prog f run := ctrC2_ok


def slotEq (a b : Slot) : Bool := ieq a.Page b.Page && ieq a.Rights b.Rights
def below' (a b : Slot) : Bool := bif slotEq a noSlot then true else (bif ieq a.Page b.Page then enough b.Rights a.Rights else false)

def composeSlot (s : Slot) (outer : List Slot) : Slot :=
  bif ieq s.Page (-1) then noSlot else (bif ieq (slotAt outer s.Page).Page (-1) then noSlot else (bif ieq (bothRights s.Rights (slotAt outer s.Page).Rights) 0 then noSlot else ⟨(slotAt outer s.Page).Page, bothRights s.Rights (slotAt outer s.Page).Rights⟩))

def tagMon (x : Int) : Int := bif (ige x 1 && ile x 6) then wquo .i64 (wsub .i64 x 1) 2 else -1
def tagGuest (x : Int) : Int := bif (ige x 1 && ile x 6) then wrem (wsub .i64 x 1) 2 else -1
noncomputable def ctrC4 : Ctrs := ctrC3
theorem ctrC4_ok : ∀ f run, aget ctrC4 f = some run → Holds Try.prog f run := ctrC3_ok


/-! What is kept of tables. -/

def keptAtOk (k : Kept) (inner outer : List Slot) (i : Nat) : Bool :=
  slotEq (ix k.Slots i (Ty.dflt .slot)) (bif ix k.Known i false then composeSlot (ix inner i (Ty.dflt .slot)) outer else noSlot)
def keptOk (k : Kept) (inner outer : List Slot) : Bool :=
  bif ine (ln k.Known) (ln inner) then false else (bif ine (ln k.Slots) (ln inner) then false else allN (keptAtOk k inner outer) inner.length 0)

theorem ine_len {α β : Type} {l : List α} {m : List β} (h : ine (ln l) (ln m) = false) : l.length = m.length := by
  have : (ln l == ln m) = true := by simpa [ine, bne] using h
  have := eq_of_beq this
  simp only [ln] at this
  omega

noncomputable def ctrC5 : Ctrs := ctrC4
theorem ctrC5_ok : ∀ f run, aget ctrC5 f = some run → Holds Try.prog f run := ctrC4_ok


/-- The tables of the guests. -/
def tablesGo (outer : List Slot) (ts : List Kept) : List Guest → Nat → Bool
  | [], _ => true
  | g :: l, i => bif ilt (i : Int) (ln ts) then (bif keptOk (ix ts (i : Int) (Ty.dflt .kept)) g.Live outer then tablesGo outer ts l (i + 1) else false) else true
theorem goL_tables {ρ : Type} (outer : List Slot) (ts : List Kept) (r r1 : Option ρ) : ∀ (l : List Guest) (i : Nat),
    goL (fun i g (_ : Unit) κ => bif ilt (i : Int) (ln ts) then (bif keptOk (ix ts (i : Int) (Ty.dflt .kept)) g.Live outer then κ () else r) else r1) (fun _ => r1) l i () = bif tablesGo outer ts l i then r1 else r
  | [], _ => rfl
  | g :: l, i => by
    simp only [goL, tablesGo]
    cases ilt (i : Int) (ln ts)
    · rfl
    · cases keptOk (ix ts (i : Int) (Ty.dflt .kept)) g.Live outer
      · rfl
      · exact goL_tables outer ts r r1 l (i + 1)
theorem ilt_inb {i : Nat} {α : Type} {l : List α} (h : ilt (i : Int) (ln l) = true) : inb (i : Int) (ln l) = true := by
  have := of_decide_eq_true h
  exact decide_eq_true ⟨by omega, this⟩

def tablesOf (m : Mon) : Bool := tablesGo m.Outer m.Tables m.Guests 0
def tablesRight (h : Host) : Bool := h.Mons.all tablesOf


/-! Cached translations. -/

def entryRight (h : Host) (e : Entry) : Bool :=
  bif hasB (tagMon e.Tag) (ln h.Mons) then (bif hasB (tagGuest e.Tag) (ln (ix h.Mons (tagMon e.Tag) (Ty.dflt .mon)).Guests) then
    below' ⟨e.Host, e.Rights⟩ (composeSlot (slotAt (ix (ix h.Mons (tagMon e.Tag) (Ty.dflt .mon)).Guests (tagGuest e.Tag) (Ty.dflt .guest)).Live e.Page) (ix h.Mons (tagMon e.Tag) (Ty.dflt .mon)).Outer) else false) else false
def entriesRight (h : Host) (b : List Entry) : Bool := b.all (entryRight h)

noncomputable def ctrC6 : Ctrs := ctrC5
theorem ctrC6_ok : ∀ f run, aget ctrC6 f = some run → Holds Try.prog f run := ctrC5_ok

noncomputable def ctrW : Ctrs := ctrC6
theorem ctrW_ok : ∀ f run, aget ctrW f = some run → Holds Try.prog f run := ctrC6_ok
end Go.Proofs.Ytcfnaifggdelnaa.E
