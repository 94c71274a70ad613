/- What is proved here: contracts of the bare machine's functions, down from a bare step. -/
import Derived.Test.YtaccllfkapkahaaGreatA8
import Derived.Test.YtaccllfkapkahaaGreatA4
import Derived.KernelRfl
namespace Go.Proofs.YtaccllfkapkahaaGreat.E
open Go
set_option maxRecDepth 100000
set_option linter.unusedVariables false
set_option linter.unusedSimpArgs false
set_option linter.unusedSectionVars false

/-! How a tree of conditions is walked. -/
theorem must {ρ : Type} {c : Bool} {a b r : Option ρ} (h : c = true) (k : a = r) : (bif c then a else b) = r := by rw [h]; exact k
theorem mustF {ρ : Type} {c : Bool} {a b r : Option ρ} (h : c = false) (k : b = r) : (bif c then a else b) = r := by rw [h]; exact k
theorem br {ρ : Type} {c : Bool} {a b r : Option ρ} (h1 : c = true → a = r) (h2 : c = false → b = r) : (bif c then a else b) = r := by
  cases c
  · exact h2 rfl
  · exact h1 rfl
theorem brN {ρ : Type} {c : Bool} {a b r : Option ρ} (h1 : c = false → a = r) (h2 : c = true → b = r) : (bif (bif c then false else true) then a else b) = r := by
  cases c
  · exact h1 rfl
  · exact h2 rfl
theorem shr {α ρ : Type} {x : α} {f : α → Option ρ} {r : Option ρ} (h : f x = r) : share x f = r := h
theorem all_step {ρ : Type} {c p : Bool} {a b : Option ρ} (hc : c = true) : (bif c then (bif (bif p then false else true) then a else b) else none) = bif p then b else a := by
  rw [hc]; cases p <;> rfl

/-! Sizes. -/
attribute [simp] pc_iff
@[simp] theorem few_len {α : Type} (l : List α) : (few (ln l) = true) ↔ l.length ≤ 2147483648 := by
  unfold few ln
  rw [decide_eq_true_iff]
  omega
@[simp] theorem ap_len {α : Type} (l m : List α) : (ap l m).length = l.length + m.length := by simp [ap]
attribute [simp] ap_nil up_len
@[simp] theorem cvb_i (n : Nat) (k : IntKind) (x : Int) : CVB n (.i k x) ↔ True := ⟨fun _ => trivial, fun _ => .i k x⟩
@[simp] theorem cvb_b (n : Nat) (x : Bool) : CVB n (.b x) ↔ True := ⟨fun _ => trivial, fun _ => .b x⟩
theorem cvb_s {n : Nat} {t : Ty} (l : List t.den) : CVB n (.s t l) ↔ l.length ≤ n ∧ ∀ x ∈ l, ∀ c ∈ t.cells x, CVB n c := ⟨fun h => h.inv, fun h => .s t l h.1 h.2⟩
@[simp] theorem cvb_int (n : Nat) (l : List Int) : CVB n (.s .int l) ↔ l.length ≤ n := by rw [cvb_s]; simp [Ty.cells]
@[simp] theorem cvb_u8 (n : Nat) (l : List Int) : CVB n (.s .u8 l) ↔ l.length ≤ n := by rw [cvb_s]; simp [Ty.cells]
@[simp] theorem cvb_bool (n : Nat) (l : List Bool) : CVB n (.s .bool l) ↔ l.length ≤ n := by rw [cvb_s]; simp [Ty.cells]
@[simp] theorem cvb_slot (n : Nat) (l : List Slot) : CVB n (.s .slot l) ↔ l.length ≤ n := by rw [cvb_s]; simp [Ty.cells]
@[simp] theorem cvb_ins (n : Nat) (l : List Ins) : CVB n (.s .ins l) ↔ l.length ≤ n := by rw [cvb_s]; simp [Ty.cells]
@[simp] theorem cvb_entry (n : Nat) (l : List Entry) : CVB n (.s .entry l) ↔ l.length ≤ n := by rw [cvb_s]; simp [Ty.cells]
@[simp] theorem cvb_act (n : Nat) (l : List GAct) : CVB n (.s .act l) ↔ l.length ≤ n := by rw [cvb_s]; simp [Ty.cells]
@[simp] theorem cvb_told (n : Nat) (l : List Told) : CVB n (.s .told l) ↔ l.length ≤ n := by rw [cvb_s]; simp [Ty.cells]
def SmM (m : List (List Int)) : Prop := m.length ≤ 1048576 ∧ ∀ x ∈ m, x.length ≤ 1048576
def SmG (g : Guest) : Prop := g.Prog.length ≤ 1048576 ∧ g.Written.length ≤ 1048576 ∧ g.Live.length ≤ 1048576 ∧ g.Seen.length ≤ 1048576
def SmGs (l : List Guest) : Prop := l.length ≤ 1048576 ∧ ∀ x ∈ l, SmG x
def SmB (b : Bare) : Prop := SmM b.Memory ∧ SmGs b.Guests ∧ b.Outs.length ≤ 1048576
def SmBs (l : List Bare) : Prop := l.length ≤ 1048576 ∧ ∀ x ∈ l, SmB x
theorem sm_v : sm = 1048576 := rfl
@[simp] theorem cvb_int_sm (l : List Int) : CVB sm (.s .int l) ↔ l.length ≤ 1048576 := cvb_int sm l
@[simp] theorem cvb_u8_sm (l : List Int) : CVB sm (.s .u8 l) ↔ l.length ≤ 1048576 := cvb_u8 sm l
@[simp] theorem cvb_bool_sm (l : List Bool) : CVB sm (.s .bool l) ↔ l.length ≤ 1048576 := cvb_bool sm l
@[simp] theorem cvb_slot_sm (l : List Slot) : CVB sm (.s .slot l) ↔ l.length ≤ 1048576 := cvb_slot sm l
@[simp] theorem cvb_ins_sm (l : List Ins) : CVB sm (.s .ins l) ↔ l.length ≤ 1048576 := cvb_ins sm l
@[simp] theorem cvb_entry_sm (l : List Entry) : CVB sm (.s .entry l) ↔ l.length ≤ 1048576 := cvb_entry sm l
@[simp] theorem cvb_act_sm (l : List GAct) : CVB sm (.s .act l) ↔ l.length ≤ 1048576 := cvb_act sm l
@[simp] theorem cvb_told_sm (l : List Told) : CVB sm (.s .told l) ↔ l.length ≤ 1048576 := cvb_told sm l
@[simp] theorem cvb_mem (l : List (List Int)) : CVB sm (.s (.sl .int) l) ↔ SmM l := by rw [cvb_s]; simp [Ty.cells, SmM, sm_v]
@[simp] theorem cells_g (g : Guest) : (∀ c ∈ Ty.cells .guest g, CVB sm c) ↔ SmG g := by simp [Ty.cells, SmG, sm_v]
@[simp] theorem cvb_guest (l : List Guest) : CVB sm (.s .guest l) ↔ SmGs l := by rw [cvb_s]; simp only [cells_g]; rfl
@[simp] theorem cells_b (b : Bare) : (∀ c ∈ Ty.cells .bare b, CVB sm c) ↔ SmB b := by
  simp only [Ty.cells, List.mem_cons, List.not_mem_nil, or_false, forall_eq_or_imp, forall_eq, cvb_mem, cvb_guest, cvb_int, cvb_i, and_true]
  rfl
@[simp] theorem cvb_bare (l : List Bare) : CVB sm (.s .bare l) ↔ SmBs l := by rw [cvb_s]; simp only [cells_b]; rfl
@[simp] theorem smG_mk (a : List Ins) (b c : Int) (d e : List Slot) (f : Ctl) (g : Int) (h : GExit) (i : Bool) (j : List Int) : SmG ⟨a, b, c, d, e, f, g, h, i, j⟩ ↔ a.length ≤ 1048576 ∧ d.length ≤ 1048576 ∧ e.length ≤ 1048576 ∧ j.length ≤ 1048576 := Iff.rfl
@[simp] theorem smB_mk (m : List (List Int)) (g : List Guest) (o : List Int) (p : Int) : SmB ⟨m, g, o, p⟩ ↔ SmM m ∧ SmGs g ∧ o.length ≤ 1048576 := Iff.rfl
theorem smM_up {m : List (List Int)} {i : Int} {x : List Int} (h : SmM m) (hx : x.length ≤ 1048576) : SmM (up m i x) := by
  refine ⟨by simpa using h.1, fun y hy => ?_⟩
  rcases List.mem_or_eq_of_mem_set hy with hy | rfl
  · exact h.2 y hy
  · exact hx
theorem smGs_up {m : List Guest} {i : Int} {x : Guest} (h : SmGs m) (hx : SmG x) : SmGs (up m i x) := by
  refine ⟨by simpa using h.1, fun y hy => ?_⟩
  rcases List.mem_or_eq_of_mem_set hy with hy | rfl
  · exact h.2 y hy
  · exact hx
theorem smBs_up {m : List Bare} {i : Int} {x : Bare} (h : SmBs m) (hx : SmB x) : SmBs (up m i x) := by
  refine ⟨by simpa using h.1, fun y hy => ?_⟩
  rcases List.mem_or_eq_of_mem_set hy with hy | rfl
  · exact h.2 y hy
  · exact hx
theorem smG_ix {l : List Guest} {i : Int} (h : SmGs l) (hh : hasB i (ln l) = true) (d : Guest) : SmG (ix l i d) := h.2 _ (ix_mem hh d)
theorem smB_ix {l : List Bare} {i : Int} (h : SmBs l) (hh : hasB i (ln l) = true) (d : Bare) : SmB (ix l i d) := h.2 _ (ix_mem hh d)
theorem smM_ix {l : List (List Int)} {i : Int} (h : SmM l) (hh : hasB i (ln l) = true) (d : List Int) : (ix l i d).length ≤ 1048576 := h.2 _ (ix_mem hh d)
@[simp] theorem smG_0 : SmG (Ty.dflt .guest) := ⟨by decide, by decide, by decide, by decide⟩

/-! Ranges. -/
def win (x a b : Int) : Bool := ige x a && ile x b
@[simp] theorem win_s (x a b : Int) : s_l01In x a b = win x a b := rfl
@[simp] theorem win_i (x a b : Int) : i_within x a b = win x a b := rfl
@[simp] theorem inb_hasB (i n : Int) : inb i n = hasB i n := rfl
attribute [simp] i_has
@[simp] theorem win_has {α : Type} {l : List α} (h : l.length ≤ 1048576) (i : Int) : win i 0 (wsub .i64 (ln l) 1) = hasB i (ln l) := l01In_len (sm_big h).1 i
theorem win_has' {α : Type} {l : List α} (h : l.length ≤ big) (i : Int) : win i 0 (wsub .i64 (ln l) 1) = hasB i (ln l) := l01In_len h i
theorem win_true {x a b : Int} : (win x a b = true) ↔ a ≤ x ∧ x ≤ b := by
  unfold win ige ile
  simp only [Bool.and_eq_true, decide_eq_true_iff]
theorem ilt_ige (a b : Int) : ilt a b = !ige a b := by
  unfold ilt ige
  by_cases h : a < b
  · rw [decide_eq_true h, decide_eq_false (by omega)]; rfl
  · rw [decide_eq_false h, decide_eq_true (by omega)]; rfl
attribute [simp] s_NoSlot i_NoSlot s_RightsOk i_RightsOk s_Enough i_Enough s_NoSlot_c i_NoSlot_c
attribute [simp] s_l04Copy s_l15Copy s_l17Guests i_copyInts
attribute [simp] s_l04Copy_c s_l15Copy_c s_l17Guests_c i_copyInts_c

/-! Numbers, slots, cells. -/
def addrPage (a : Int) : Int := bif ilt a 0 then -1 else wquo .i64 a 4
def addrCell (a : Int) : Int := bif ilt a 0 then -1 else wrem a 4
def needOf (w : Bool) : Int := bif w then 2 else 1
def faultExit (p : Int) (w : Bool) : GExit := ⟨1, p, w, 0⟩
def callExit (n : Int) : GExit := ⟨2, 0, false, n⟩
def outExit (n : Int) : GExit := ⟨3, 0, false, n⟩
def hasTrap (t x : Int) : Bool := bif win t 0 3 then (bif win x 1 2 then ine (wand .i64 t x) 0 else false) else false
theorem win12 (x : Int) : win x 1 2 = (ieq x 1 || ieq x 2) := by
  have h : (win x 1 2 = true) ↔ (ieq x 1 || ieq x 2) = true := by
    rw [win_true]
    simp only [ieq, Bool.or_eq_true, beq_iff_eq]
    omega
  cases h1 : win x 1 2 <;> cases h2 : (ieq x 1 || ieq x 2) <;> simp_all
def pendOk (p : Int) : Bool := win p 0 255
@[simp, reducible] def s_PendOk_c (p : Int) : Bool := true
@[simp, reducible] def s_PendOk (p : Int) : Bool := pendOk p
noncomputable def run_s_PendOk : List AV → Option (Bool × List AV)
  | [.one (.i .i64 a0)] => some ((s_PendOk_c a0), [.one (.b (s_PendOk a0))])
  | _ => none

noncomputable def E_s_PendOk (N : Nat) (a0 : Int) : Option Ans :=
  (bif (s_l01In_c a0 0 255) then (some [(.one (.b (s_l01In a0 0 255)))]) else none)

theorem nf_s_PendOk (N : Nat) (a0 : Int) : evalFn (cfgQ (aget ctrU) (aget mctC) (aget pct0) (aget tct0)) (tmsOf []) N 12 106 [.one (.i .i64 a0)] = E_s_PendOk N a0 := by kernel_rfl

theorem law_s_PendOk (a0 : Int) (hb : AllB big [.one (.i .i64 a0)]) (hc : (s_PendOk_c a0) = true) : ∃ N, E_s_PendOk N a0 = some [.one (.b (s_PendOk a0))] := by
  refine ⟨0, ?_⟩
  unfold E_s_PendOk
  refine must rfl ?_
  first | rfl | (simp only [s_PendOk, pendOk, cT, cF] <;> rfl) | (simp_all [Ty.cells, s_PendOk, pendOk]; done)
theorem holds_s_PendOk : Holds Tryz.prog 106 run_s_PendOk := by
  refine holds_of_eval (engQ_ok ctrU_ok mctC_ok pct0_ok tct0_ok) (fn_ok (by kernel_rfl)) ?_
  intro avs rs hr h
  have hb := allB_of_rep hr
  unfold run_s_PendOk at h
  split at h
  · rename_i a0
    obtain ⟨hc, rfl⟩ := some_pair h
    obtain ⟨N, hN⟩ := law_s_PendOk a0 hb hc
    exact ⟨tmsOf [], N, 12, (nf_s_PendOk N a0).trans hN⟩
  · cases h

@[simp, reducible] def i_PendOk_c (p : Int) : Bool := true
@[simp, reducible] def i_PendOk (p : Int) : Bool := pendOk p
noncomputable def run_i_PendOk : List AV → Option (Bool × List AV)
  | [.one (.i .i64 a0)] => some ((i_PendOk_c a0), [.one (.b (i_PendOk a0))])
  | _ => none

noncomputable def E_i_PendOk (N : Nat) (a0 : Int) : Option Ans :=
  (bif (i_within_c a0 0 255) then (some [(.one (.b (i_within a0 0 255)))]) else none)

theorem nf_i_PendOk (N : Nat) (a0 : Int) : evalFn (cfgQ (aget ctrU) (aget mctC) (aget pct0) (aget tct0)) (tmsOf []) N 12 87 [.one (.i .i64 a0)] = E_i_PendOk N a0 := by kernel_rfl

theorem law_i_PendOk (a0 : Int) (hb : AllB big [.one (.i .i64 a0)]) (hc : (i_PendOk_c a0) = true) : ∃ N, E_i_PendOk N a0 = some [.one (.b (i_PendOk a0))] := by
  refine ⟨0, ?_⟩
  unfold E_i_PendOk
  refine must rfl ?_
  first | rfl | (simp only [i_PendOk, pendOk, cT, cF] <;> rfl) | (simp_all [Ty.cells, i_PendOk, pendOk]; done)
theorem holds_i_PendOk : Holds Tryz.prog 87 run_i_PendOk := by
  refine holds_of_eval (engQ_ok ctrU_ok mctC_ok pct0_ok tct0_ok) (fn_ok (by kernel_rfl)) ?_
  intro avs rs hr h
  have hb := allB_of_rep hr
  unfold run_i_PendOk at h
  split at h
  · rename_i a0
    obtain ⟨hc, rfl⟩ := some_pair h
    obtain ⟨N, hN⟩ := law_i_PendOk a0 hb hc
    exact ⟨tmsOf [], N, 12, (nf_i_PendOk N a0).trans hN⟩
  · cases h

def insAt (l : List Ins) (p : Int) : Ins := bif hasB p (ln l) then ix l p (Ty.dflt .ins) else ⟨7, 0⟩
def trapOf (w : Int) : Int := bif ieq w 5 then 1 else 2
def slotOk (s : Slot) (n : Int) : Bool := bif slotEq s noSlot then true else (bif igt n 0 then (bif win s.Page 0 (wsub .i64 n 1) then win s.Rights 1 3 else false) else false)
@[simp, reducible] def s_SlotOk_c (s : Slot) (n : Int) : Bool := true
@[simp, reducible] def s_SlotOk (s : Slot) (n : Int) : Bool := slotOk s n
noncomputable def run_s_SlotOk : List AV → Option (Bool × List AV)
  | [.agg [.i .i64 a0_0, .i .i64 a0_1], .one (.i .i64 a1)] => some ((s_SlotOk_c (⟨a0_0, a0_1⟩ : Slot) a1), [.one (.b (s_SlotOk (⟨a0_0, a0_1⟩ : Slot) a1))])
  | _ => none

noncomputable def E_s_SlotOk (N : Nat) (a0 : Slot) (a1 : Int) : Option Ans :=
  (bif s_NoSlot_c then (bif (bif (ieq a0.Page s_NoSlot.Page) then (ieq a0.Rights s_NoSlot.Rights) else false) then (some [(.one (.b true))]) else (bif (s_l01In_c a0.Page 0 (wsub .i64 a1 1)) then (bif (s_l01In a0.Page 0 (wsub .i64 a1 1)) then (bif (igt a1 0) then (bif (s_l01In_c a0.Rights 1 3) then (some [(.one (.b (s_l01In a0.Rights 1 3)))]) else none) else (some [(.one (.b false))])) else (some [(.one (.b false))])) else none)) else none)

theorem nf_s_SlotOk (N : Nat) (a0 : Slot) (a1 : Int) : evalFn (cfgQ (aget ctrU) (aget mctC) (aget pct0) (aget tct0)) (tmsOf []) N 12 126 [.agg (Ty.cells .slot a0), .one (.i .i64 a1)] = E_s_SlotOk N a0 a1 := by kernel_rfl

theorem law_s_SlotOk (a0 : Slot) (a1 : Int) (hb : AllB big [.agg (Ty.cells .slot a0), .one (.i .i64 a1)]) (hc : (s_SlotOk_c a0 a1) = true) : ∃ N, E_s_SlotOk N a0 a1 = some [.one (.b (s_SlotOk a0 a1))] := by
  refine ⟨0, ?_⟩
  unfold E_s_SlotOk
  refine must rfl ?_
  refine br (fun h0 => ?_) (fun h0 => ?_)
  · first | rfl | (simp only [h0, s_SlotOk, slotOk, slotEq, cT, cF] <;> rfl) | (simp_all [Ty.cells, s_SlotOk, slotOk, slotEq]; done)
  · refine must rfl ?_
    refine br (fun h1 => ?_) (fun h1 => ?_)
    · refine br (fun h2 => ?_) (fun h2 => ?_)
      · refine must rfl ?_
        first | rfl | (simp only [h0, h1, h2, s_SlotOk, slotOk, slotEq, cT, cF] <;> rfl) | (simp_all [Ty.cells, s_SlotOk, slotOk, slotEq]; done)
      · first | rfl | (simp only [h0, h1, h2, s_SlotOk, slotOk, slotEq, cT, cF] <;> rfl) | (simp_all [Ty.cells, s_SlotOk, slotOk, slotEq]; done)
    · first | rfl | (simp only [h0, h1, s_SlotOk, slotOk, slotEq, cT, cF] <;> rfl) | (simp_all [Ty.cells, s_SlotOk, slotOk, slotEq]; done)
theorem holds_s_SlotOk : Holds Tryz.prog 126 run_s_SlotOk := by
  refine holds_of_eval (engQ_ok ctrU_ok mctC_ok pct0_ok tct0_ok) (fn_ok (by kernel_rfl)) ?_
  intro avs rs hr h
  have hb := allB_of_rep hr
  unfold run_s_SlotOk at h
  split at h
  · rename_i a0_0 a0_1 a1
    obtain ⟨hc, rfl⟩ := some_pair h
    obtain ⟨N, hN⟩ := law_s_SlotOk (⟨a0_0, a0_1⟩ : Slot) a1 hb hc
    exact ⟨tmsOf [], N, 12, (nf_s_SlotOk N (⟨a0_0, a0_1⟩ : Slot) a1).trans hN⟩
  · cases h

@[simp, reducible] def i_SlotOk_c (s : Slot) (n : Int) : Bool := true
@[simp, reducible] def i_SlotOk (s : Slot) (n : Int) : Bool := slotOk s n
noncomputable def run_i_SlotOk : List AV → Option (Bool × List AV)
  | [.agg [.i .i64 a0_0, .i .i64 a0_1], .one (.i .i64 a1)] => some ((i_SlotOk_c (⟨a0_0, a0_1⟩ : Slot) a1), [.one (.b (i_SlotOk (⟨a0_0, a0_1⟩ : Slot) a1))])
  | _ => none

noncomputable def E_i_SlotOk (N : Nat) (a0 : Slot) (a1 : Int) : Option Ans :=
  (bif i_NoSlot_c then (bif (bif (ieq a0.Page i_NoSlot.Page) then (ieq a0.Rights i_NoSlot.Rights) else false) then (some [(.one (.b true))]) else (bif (igt a1 0) then (bif (i_within_c a0.Page 0 (wsub .i64 a1 1)) then (bif (i_within a0.Page 0 (wsub .i64 a1 1)) then (bif (i_within_c a0.Rights 1 3) then (some [(.one (.b (i_within a0.Rights 1 3)))]) else none) else (some [(.one (.b false))])) else none) else (some [(.one (.b false))]))) else none)

theorem nf_i_SlotOk (N : Nat) (a0 : Slot) (a1 : Int) : evalFn (cfgQ (aget ctrU) (aget mctC) (aget pct0) (aget tct0)) (tmsOf []) N 12 113 [.agg (Ty.cells .slot a0), .one (.i .i64 a1)] = E_i_SlotOk N a0 a1 := by kernel_rfl

theorem law_i_SlotOk (a0 : Slot) (a1 : Int) (hb : AllB big [.agg (Ty.cells .slot a0), .one (.i .i64 a1)]) (hc : (i_SlotOk_c a0 a1) = true) : ∃ N, E_i_SlotOk N a0 a1 = some [.one (.b (i_SlotOk a0 a1))] := by
  refine ⟨0, ?_⟩
  unfold E_i_SlotOk
  refine must rfl ?_
  refine br (fun h0 => ?_) (fun h0 => ?_)
  · first | rfl | (simp only [h0, i_SlotOk, slotOk, slotEq, cT, cF] <;> rfl) | (simp_all [Ty.cells, i_SlotOk, slotOk, slotEq]; done)
  · refine br (fun h1 => ?_) (fun h1 => ?_)
    · refine must rfl ?_
      refine br (fun h2 => ?_) (fun h2 => ?_)
      · refine must rfl ?_
        first | rfl | (simp only [h0, h1, h2, i_SlotOk, slotOk, slotEq, cT, cF] <;> rfl) | (simp_all [Ty.cells, i_SlotOk, slotOk, slotEq]; done)
      · first | rfl | (simp only [h0, h1, h2, i_SlotOk, slotOk, slotEq, cT, cF] <;> rfl) | (simp_all [Ty.cells, i_SlotOk, slotOk, slotEq]; done)
    · first | rfl | (simp only [h0, h1, i_SlotOk, slotOk, slotEq, cT, cF] <;> rfl) | (simp_all [Ty.cells, i_SlotOk, slotOk, slotEq]; done)
theorem holds_i_SlotOk : Holds Tryz.prog 113 run_i_SlotOk := by
  refine holds_of_eval (engQ_ok ctrU_ok mctC_ok pct0_ok tct0_ok) (fn_ok (by kernel_rfl)) ?_
  intro avs rs hr h
  have hb := allB_of_rep hr
  unfold run_i_SlotOk at h
  split at h
  · rename_i a0_0 a0_1 a1
    obtain ⟨hc, rfl⟩ := some_pair h
    obtain ⟨N, hN⟩ := law_i_SlotOk (⟨a0_0, a0_1⟩ : Slot) a1 hb hc
    exact ⟨tmsOf [], N, 12, (nf_i_SlotOk N (⟨a0_0, a0_1⟩ : Slot) a1).trans hN⟩
  · cases h

@[simp, reducible] noncomputable def i_copyTable_c (l : List Slot) : Bool := pc (l.length ≤ 2147483648)
@[simp, reducible] def i_copyTable (l : List Slot) : List Slot := l
noncomputable def run_i_copyTable : List AV → Option (Bool × List AV)
  | [.one (.s .slot a0)] => some ((i_copyTable_c a0), [.one (.s .slot (i_copyTable a0))])
  | _ => none

noncomputable def E_i_copyTable (N : Nat) (a0 : List Slot) : Option Ans :=
  (bif (few (ln (ap [] a0))) then (some [(.one (.s .slot (ap [] a0)))]) else none)

theorem nf_i_copyTable (N : Nat) (a0 : List Slot) : evalFn (cfgQ (aget ctrU) (aget mctC) (aget pct0) (aget tct0)) (tmsOf []) N 12 82 [.one (.s .slot a0)] = E_i_copyTable N a0 := by kernel_rfl

theorem law_i_copyTable (a0 : List Slot) (hb : AllB big [.one (.s .slot a0)]) (hc : (i_copyTable_c a0) = true) : ∃ N, E_i_copyTable N a0 = some [.one (.s .slot (i_copyTable a0))] := by
  have hs := pc_iff.1 hc
  refine ⟨0, ?_⟩
  unfold E_i_copyTable
  refine must (by first | assumption | (simp_all <;> omega)) ?_
  first | rfl | (simp only [i_copyTable, cT, cF] <;> rfl) | (simp_all [Ty.cells, i_copyTable]; done)
theorem holds_i_copyTable : Holds Tryz.prog 82 run_i_copyTable := by
  refine holds_of_eval (engQ_ok ctrU_ok mctC_ok pct0_ok tct0_ok) (fn_ok (by kernel_rfl)) ?_
  intro avs rs hr h
  have hb := allB_of_rep hr
  unfold run_i_copyTable at h
  split at h
  · rename_i a0
    obtain ⟨hc, rfl⟩ := some_pair h
    obtain ⟨N, hN⟩ := law_i_copyTable a0 hb hc
    exact ⟨tmsOf [], N, 12, (nf_i_copyTable N a0).trans hN⟩
  · cases h

@[simp, reducible] noncomputable def i_copyProg_c (l : List Ins) : Bool := pc (l.length ≤ 2147483648)
@[simp, reducible] def i_copyProg (l : List Ins) : List Ins := l
noncomputable def run_i_copyProg : List AV → Option (Bool × List AV)
  | [.one (.s .ins a0)] => some ((i_copyProg_c a0), [.one (.s .ins (i_copyProg a0))])
  | _ => none

noncomputable def E_i_copyProg (N : Nat) (a0 : List Ins) : Option Ans :=
  (bif (few (ln (ap [] a0))) then (some [(.one (.s .ins (ap [] a0)))]) else none)

theorem nf_i_copyProg (N : Nat) (a0 : List Ins) : evalFn (cfgQ (aget ctrU) (aget mctC) (aget pct0) (aget tct0)) (tmsOf []) N 12 135 [.one (.s .ins a0)] = E_i_copyProg N a0 := by kernel_rfl

theorem law_i_copyProg (a0 : List Ins) (hb : AllB big [.one (.s .ins a0)]) (hc : (i_copyProg_c a0) = true) : ∃ N, E_i_copyProg N a0 = some [.one (.s .ins (i_copyProg a0))] := by
  have hs := pc_iff.1 hc
  refine ⟨0, ?_⟩
  unfold E_i_copyProg
  refine must (by first | assumption | (simp_all <;> omega)) ?_
  first | rfl | (simp only [i_copyProg, cT, cF] <;> rfl) | (simp_all [Ty.cells, i_copyProg]; done)
theorem holds_i_copyProg : Holds Tryz.prog 135 run_i_copyProg := by
  refine holds_of_eval (engQ_ok ctrU_ok mctC_ok pct0_ok tct0_ok) (fn_ok (by kernel_rfl)) ?_
  intro avs rs hr h
  have hb := allB_of_rep hr
  unfold run_i_copyProg at h
  split at h
  · rename_i a0
    obtain ⟨hc, rfl⟩ := some_pair h
    obtain ⟨N, hN⟩ := law_i_copyProg a0 hb hc
    exact ⟨tmsOf [], N, 12, (nf_i_copyProg N a0).trans hN⟩
  · cases h

def memHas (m : List (List Int)) (p c : Int) : Bool := bif hasB p (ln m) then hasB c (ln (ix m p [])) else false
def cellAt (m : List (List Int)) (p c : Int) : Int := bif memHas m p c then ix (ix m p []) c 0 else 0
def withCell (m : List (List Int)) (p c v : Int) : List (List Int) := bif memHas m p c then (bif win v 0 99 then up m p (up (ix m p []) c v) else m) else m
theorem memHas_iff (m : List (List Int)) (p c : Int) : (memHas m p c = true) ↔ hasB p (ln m) = true ∧ hasB c (ln (ix m p [])) = true := by
  unfold memHas
  cases hasB p (ln m) <;> simp
theorem cvb_sl {n : Nat} {m : List (List Int)} (h : CVB n (.s (.sl .int) m)) : m.length ≤ n ∧ ∀ p : Int, hasB p (ln m) = true → (ix m p []).length ≤ n :=
  ⟨h.len, fun p hp => (h.inv.2 _ (ix_mem hp []) _ (List.mem_singleton.2 rfl)).len⟩
noncomputable def ctrN1 : Ctrs := [(106, run_s_PendOk), (87, run_i_PendOk), (126, run_s_SlotOk), (113, run_i_SlotOk), (82, run_i_copyTable), (135, run_i_copyProg)] ++ ctrU

theorem ctrN1_ok : ∀ f run, aget ctrN1 f = some run → Holds Tryz.prog f run := ctr_more ctrU_ok (by
  intro x hx
  simp only [List.mem_cons, List.not_mem_nil, or_false] at hx
  rcases hx with rfl | rfl | rfl | rfl | rfl | rfl
  · exact holds_s_PendOk
  · exact holds_i_PendOk
  · exact holds_s_SlotOk
  · exact holds_i_SlotOk
  · exact holds_i_copyTable
  · exact holds_i_copyProg)

def tableOk (t : List Slot) (n p : Int) : Bool := bif t.all (fun s => slotOk s p) then ieq (ln t) n else false
@[simp, reducible] def s_TableOk_c (t : List Slot) (n p : Int) : Bool := true
@[simp, reducible] def s_TableOk (t : List Slot) (n p : Int) : Bool := tableOk t n p
noncomputable def run_s_TableOk : List AV → Option (Bool × List AV)
  | [.one (.s .slot a0), .one (.i .i64 a1), .one (.i .i64 a2)] => some ((s_TableOk_c a0 a1 a2), [.one (.b (s_TableOk a0 a1 a2))])
  | _ => none

noncomputable def E_s_TableOk (N : Nat) (a0 : List Slot) (a1 : Int) (a2 : Int) : Option Ans :=
  (iter (σ := (Int × (Int × (Int × ((List Slot) × Unit))))) N (fun r4 s5 => (bif (ilt s5.2.2.1 (ln s5.2.2.2.1)) then (bif (inb s5.2.2.1 (ln s5.2.2.2.1)) then (bif (s_SlotOk_c (ix s5.2.2.2.1 s5.2.2.1 (Ty.dflt .slot)) s5.2.1) then (bif (bif (s_SlotOk (ix s5.2.2.2.1 s5.2.2.1 (Ty.dflt .slot)) s5.2.1) then false else true) then (some [(.one (.b false))]) else (r4 (s5.1, (s5.2.1, ((wadd .i64 s5.2.2.1 1), (s5.2.2.2.1, ())))))) else none) else none) else (some [(.one (.b (ieq (ln s5.2.2.2.1) s5.1)))]))) (a1, (a2, (0, (a0, ())))))

def tms_s_TableOk : FuncId → Nat → Option Tmpl := tmsOf [(103, 0, { n := 25, tm := [(0, .sl 0 []), (1, .i .i64), (2, .i .i64), (7, .i .i64)], lo := [], ro := [(0, .slot, false)] })]

theorem nf_s_TableOk (N : Nat) (a0 : List Slot) (a1 : Int) (a2 : Int) : evalFn (cfgQ (aget ctrN1) (aget mctC) (aget pct0) (aget tct0)) tms_s_TableOk N 12 103 [.one (.s .slot a0), .one (.i .i64 a1), .one (.i .i64 a2)] = E_s_TableOk N a0 a1 a2 := by kernel_rfl

theorem law_s_TableOk (a0 : List Slot) (a1 : Int) (a2 : Int) (hb : AllB big [.one (.s .slot a0), .one (.i .i64 a1), .one (.i .i64 a2)]) (hc : (s_TableOk_c a0 a1 a2) = true) : ∃ N, E_s_TableOk N a0 a1 a2 = some [.one (.b (s_TableOk a0 a1 a2))] := by
  have hl : (_ : List _).length ≤ big := ((allB_cons hb).1 _ (List.mem_singleton.2 rfl)).len
  refine ⟨NN, ?_⟩
  have hNN : ∀ {n : Nat}, n ≤ big → n < NN := fun h => NN_lt h
  generalize NN = N at hNN ⊢
  unfold E_s_TableOk
  refine (iter_list a0 (fun i (t : Unit) => (a1, a2, (i : Int), a0, ())) _ (fun _ x (_ : Unit) κ => bif (fun s => slotOk s a2) x then κ () else some [AV.one (.b false)]) (fun (t : Unit) => (some [(.one (.b (ieq (ln a0) a1)))])) (fun i hi t rec => ?_) (fun t rec => ?_) _ () (hNN hl)).trans ?_
  · simp only [ilt_ln hi, inb_ln hi, ix_ln hi, wadd_up hi hl, cT]
    exact all_step rfl
  · simp only [ilt_end, cF]
  rw [goL_all (fun s => slotOk s a2)]
  refine br (fun h0 => ?_) (fun h0 => ?_)
  · first | rfl | (simp only [h0, s_TableOk, tableOk, cT, cF] <;> rfl) | (simp_all [Ty.cells, s_TableOk, tableOk]; done)
  · first | rfl | (simp only [h0, s_TableOk, tableOk, cT, cF] <;> rfl) | (simp_all [Ty.cells, s_TableOk, tableOk]; done)
theorem holds_s_TableOk : Holds Tryz.prog 103 run_s_TableOk := by
  refine holds_of_eval (engQ_ok ctrN1_ok mctC_ok pct0_ok tct0_ok) (fn_ok (by kernel_rfl)) ?_
  intro avs rs hr h
  have hb := allB_of_rep hr
  unfold run_s_TableOk at h
  split at h
  · rename_i a0 a1 a2
    obtain ⟨hc, rfl⟩ := some_pair h
    obtain ⟨N, hN⟩ := law_s_TableOk a0 a1 a2 hb hc
    exact ⟨tms_s_TableOk, N, 12, (nf_s_TableOk N a0 a1 a2).trans hN⟩
  · cases h

@[simp, reducible] def i_TableOk_c (t : List Slot) (n p : Int) : Bool := true
@[simp, reducible] def i_TableOk (t : List Slot) (n p : Int) : Bool := tableOk t n p
noncomputable def run_i_TableOk : List AV → Option (Bool × List AV)
  | [.one (.s .slot a0), .one (.i .i64 a1), .one (.i .i64 a2)] => some ((i_TableOk_c a0 a1 a2), [.one (.b (i_TableOk a0 a1 a2))])
  | _ => none

noncomputable def E_i_TableOk (N : Nat) (a0 : List Slot) (a1 : Int) (a2 : Int) : Option Ans :=
  (iter (σ := (Int × (Int × (Int × (Int × ((List Slot) × Unit)))))) N (fun r4 s5 => (bif (ilt s5.2.2.2.1 s5.2.2.1) then (bif (inb s5.2.2.2.1 (ln s5.2.2.2.2.1)) then (bif (i_SlotOk_c (ix s5.2.2.2.2.1 s5.2.2.2.1 (Ty.dflt .slot)) s5.2.1) then (bif (bif (i_SlotOk (ix s5.2.2.2.2.1 s5.2.2.2.1 (Ty.dflt .slot)) s5.2.1) then false else true) then (some [(.one (.b false))]) else (r4 (s5.1, (s5.2.1, (s5.2.2.1, ((wadd .i64 s5.2.2.2.1 1), (s5.2.2.2.2.1, ()))))))) else none) else none) else (some [(.one (.b (ieq (ln s5.2.2.2.2.1) s5.1)))]))) (a1, (a2, ((ln a0), (0, (a0, ()))))))

def tms_i_TableOk : FuncId → Nat → Option Tmpl := tmsOf [(86, 0, { n := 24, tm := [(0, .sl 0 []), (1, .i .i64), (2, .i .i64), (9, .sl 0 []), (10, .i .i64), (11, .i .i64)], lo := [], ro := [(0, .slot, false)] })]

theorem nf_i_TableOk (N : Nat) (a0 : List Slot) (a1 : Int) (a2 : Int) : evalFn (cfgQ (aget ctrN1) (aget mctC) (aget pct0) (aget tct0)) tms_i_TableOk N 12 86 [.one (.s .slot a0), .one (.i .i64 a1), .one (.i .i64 a2)] = E_i_TableOk N a0 a1 a2 := by kernel_rfl

theorem law_i_TableOk (a0 : List Slot) (a1 : Int) (a2 : Int) (hb : AllB big [.one (.s .slot a0), .one (.i .i64 a1), .one (.i .i64 a2)]) (hc : (i_TableOk_c a0 a1 a2) = true) : ∃ N, E_i_TableOk N a0 a1 a2 = some [.one (.b (i_TableOk a0 a1 a2))] := by
  have hl : (_ : List _).length ≤ big := ((allB_cons hb).1 _ (List.mem_singleton.2 rfl)).len
  refine ⟨NN, ?_⟩
  have hNN : ∀ {n : Nat}, n ≤ big → n < NN := fun h => NN_lt h
  generalize NN = N at hNN ⊢
  unfold E_i_TableOk
  refine (iter_list a0 (fun i (t : Unit) => (a1, a2, (ln a0), (i : Int), a0, ())) _ (fun _ x (_ : Unit) κ => bif (fun s => slotOk s a2) x then κ () else some [AV.one (.b false)]) (fun (t : Unit) => (some [(.one (.b (ieq (ln a0) a1)))])) (fun i hi t rec => ?_) (fun t rec => ?_) _ () (hNN hl)).trans ?_
  · simp only [ilt_ln hi, inb_ln hi, ix_ln hi, wadd_up hi hl, cT]
    exact all_step rfl
  · simp only [ilt_end, cF]
  rw [goL_all (fun s => slotOk s a2)]
  refine br (fun h0 => ?_) (fun h0 => ?_)
  · first | rfl | (simp only [h0, i_TableOk, tableOk, cT, cF] <;> rfl) | (simp_all [Ty.cells, i_TableOk, tableOk]; done)
  · first | rfl | (simp only [h0, i_TableOk, tableOk, cT, cF] <;> rfl) | (simp_all [Ty.cells, i_TableOk, tableOk]; done)
theorem holds_i_TableOk : Holds Tryz.prog 86 run_i_TableOk := by
  refine holds_of_eval (engQ_ok ctrN1_ok mctC_ok pct0_ok tct0_ok) (fn_ok (by kernel_rfl)) ?_
  intro avs rs hr h
  have hb := allB_of_rep hr
  unfold run_i_TableOk at h
  split at h
  · rename_i a0 a1 a2
    obtain ⟨hc, rfl⟩ := some_pair h
    obtain ⟨N, hN⟩ := law_i_TableOk a0 a1 a2 hb hc
    exact ⟨tms_i_TableOk, N, 12, (nf_i_TableOk N a0 a1 a2).trans hN⟩
  · cases h

def pageOk (c : List Int) : Bool := bif c.all (fun x => win x 0 99) then ieq (ln c) 4 else false
@[simp, reducible] def s_PageOk_c (c : List Int) : Bool := true
@[simp, reducible] def s_PageOk (c : List Int) : Bool := pageOk c
noncomputable def run_s_PageOk : List AV → Option (Bool × List AV)
  | [.one (.s .int a0)] => some ((s_PageOk_c a0), [.one (.b (s_PageOk a0))])
  | _ => none

noncomputable def E_s_PageOk (N : Nat) (a0 : List Int) : Option Ans :=
  (iter (σ := (Int × ((List Int) × Unit))) N (fun r2 s3 => (bif (ilt s3.1 (ln s3.2.1)) then (bif (inb s3.1 (ln s3.2.1)) then (bif (s_l01In_c (ix s3.2.1 s3.1 0) 0 99) then (bif (bif (s_l01In (ix s3.2.1 s3.1 0) 0 99) then false else true) then (some [(.one (.b false))]) else (r2 ((wadd .i64 s3.1 1), (s3.2.1, ())))) else none) else none) else (some [(.one (.b (ieq (ln s3.2.1) 4)))]))) (0, (a0, ())))

def tms_s_PageOk : FuncId → Nat → Option Tmpl := tmsOf [(102, 0, { n := 19, tm := [(0, .sl 0 []), (3, .i .i64)], lo := [], ro := [(0, .int, false)] })]

theorem nf_s_PageOk (N : Nat) (a0 : List Int) : evalFn (cfgQ (aget ctrN1) (aget mctC) (aget pct0) (aget tct0)) tms_s_PageOk N 12 102 [.one (.s .int a0)] = E_s_PageOk N a0 := by kernel_rfl

theorem law_s_PageOk (a0 : List Int) (hb : AllB big [.one (.s .int a0)]) (hc : (s_PageOk_c a0) = true) : ∃ N, E_s_PageOk N a0 = some [.one (.b (s_PageOk a0))] := by
  have hl : (_ : List _).length ≤ big := ((allB_cons hb).1 _ (List.mem_singleton.2 rfl)).len
  refine ⟨NN, ?_⟩
  have hNN : ∀ {n : Nat}, n ≤ big → n < NN := fun h => NN_lt h
  generalize NN = N at hNN ⊢
  unfold E_s_PageOk
  refine (iter_list a0 (fun i (t : Unit) => ((i : Int), a0, ())) _ (fun _ x (_ : Unit) κ => bif (fun x => win x 0 99) x then κ () else some [AV.one (.b false)]) (fun (t : Unit) => (some [(.one (.b (ieq (ln a0) 4)))])) (fun i hi t rec => ?_) (fun t rec => ?_) _ () (hNN hl)).trans ?_
  · simp only [ilt_ln hi, inb_ln hi, ix_ln hi, wadd_up hi hl, cT]
    exact all_step rfl
  · simp only [ilt_end, cF]
  rw [goL_all (fun x => win x 0 99)]
  refine br (fun h0 => ?_) (fun h0 => ?_)
  · first | rfl | (simp only [h0, s_PageOk, pageOk, cT, cF] <;> rfl) | (simp_all [Ty.cells, s_PageOk, pageOk]; done)
  · first | rfl | (simp only [h0, s_PageOk, pageOk, cT, cF] <;> rfl) | (simp_all [Ty.cells, s_PageOk, pageOk]; done)
theorem holds_s_PageOk : Holds Tryz.prog 102 run_s_PageOk := by
  refine holds_of_eval (engQ_ok ctrN1_ok mctC_ok pct0_ok tct0_ok) (fn_ok (by kernel_rfl)) ?_
  intro avs rs hr h
  have hb := allB_of_rep hr
  unfold run_s_PageOk at h
  split at h
  · rename_i a0
    obtain ⟨hc, rfl⟩ := some_pair h
    obtain ⟨N, hN⟩ := law_s_PageOk a0 hb hc
    exact ⟨tms_s_PageOk, N, 12, (nf_s_PageOk N a0).trans hN⟩
  · cases h

@[simp, reducible] def i_PageOk_c (c : List Int) : Bool := true
@[simp, reducible] def i_PageOk (c : List Int) : Bool := pageOk c
noncomputable def run_i_PageOk : List AV → Option (Bool × List AV)
  | [.one (.s .int a0)] => some ((i_PageOk_c a0), [.one (.b (i_PageOk a0))])
  | _ => none

noncomputable def E_i_PageOk (N : Nat) (a0 : List Int) : Option Ans :=
  (iter (σ := (Int × (Int × ((List Int) × Unit)))) N (fun r2 s3 => (bif (ilt s3.2.1 s3.1) then (bif (inb s3.2.1 (ln s3.2.2.1)) then (bif (i_within_c (ix s3.2.2.1 s3.2.1 0) 0 99) then (bif (bif (i_within (ix s3.2.2.1 s3.2.1 0) 0 99) then false else true) then (some [(.one (.b false))]) else (r2 (s3.1, ((wadd .i64 s3.2.1 1), (s3.2.2.1, ()))))) else none) else none) else (some [(.one (.b (ieq (ln s3.2.2.1) 4)))]))) ((ln a0), (0, (a0, ()))))

def tms_i_PageOk : FuncId → Nat → Option Tmpl := tmsOf [(85, 0, { n := 18, tm := [(0, .sl 0 []), (5, .sl 0 []), (6, .i .i64), (7, .i .i64)], lo := [], ro := [(0, .int, false)] })]

theorem nf_i_PageOk (N : Nat) (a0 : List Int) : evalFn (cfgQ (aget ctrN1) (aget mctC) (aget pct0) (aget tct0)) tms_i_PageOk N 12 85 [.one (.s .int a0)] = E_i_PageOk N a0 := by kernel_rfl

theorem law_i_PageOk (a0 : List Int) (hb : AllB big [.one (.s .int a0)]) (hc : (i_PageOk_c a0) = true) : ∃ N, E_i_PageOk N a0 = some [.one (.b (i_PageOk a0))] := by
  have hl : (_ : List _).length ≤ big := ((allB_cons hb).1 _ (List.mem_singleton.2 rfl)).len
  refine ⟨NN, ?_⟩
  have hNN : ∀ {n : Nat}, n ≤ big → n < NN := fun h => NN_lt h
  generalize NN = N at hNN ⊢
  unfold E_i_PageOk
  refine (iter_list a0 (fun i (t : Unit) => ((ln a0), (i : Int), a0, ())) _ (fun _ x (_ : Unit) κ => bif (fun x => win x 0 99) x then κ () else some [AV.one (.b false)]) (fun (t : Unit) => (some [(.one (.b (ieq (ln a0) 4)))])) (fun i hi t rec => ?_) (fun t rec => ?_) _ () (hNN hl)).trans ?_
  · simp only [ilt_ln hi, inb_ln hi, ix_ln hi, wadd_up hi hl, cT]
    exact all_step rfl
  · simp only [ilt_end, cF]
  rw [goL_all (fun x => win x 0 99)]
  refine br (fun h0 => ?_) (fun h0 => ?_)
  · first | rfl | (simp only [h0, i_PageOk, pageOk, cT, cF] <;> rfl) | (simp_all [Ty.cells, i_PageOk, pageOk]; done)
  · first | rfl | (simp only [h0, i_PageOk, pageOk, cT, cF] <;> rfl) | (simp_all [Ty.cells, i_PageOk, pageOk]; done)
theorem holds_i_PageOk : Holds Tryz.prog 85 run_i_PageOk := by
  refine holds_of_eval (engQ_ok ctrN1_ok mctC_ok pct0_ok tct0_ok) (fn_ok (by kernel_rfl)) ?_
  intro avs rs hr h
  have hb := allB_of_rep hr
  unfold run_i_PageOk at h
  split at h
  · rename_i a0
    obtain ⟨hc, rfl⟩ := some_pair h
    obtain ⟨N, hN⟩ := law_i_PageOk a0 hb hc
    exact ⟨tms_i_PageOk, N, 12, (nf_i_PageOk N a0).trans hN⟩
  · cases h

def insOk (i : Ins) : Bool := bif (ieq i.Op 1 || ieq i.Op 2 || ieq i.Op 5 || ieq i.Op 6) then win i.X 0 99 else (bif (ieq i.Op 3 || ieq i.Op 4) then win i.X 0 15 else (bif ieq i.Op 7 then ieq i.X 0 else (bif ieq i.Op 8 then win i.X 0 11 else false)))
@[simp, reducible] def s_InsOk_c (i : Ins) : Bool := true
@[simp, reducible] def s_InsOk (i : Ins) : Bool := insOk i
noncomputable def run_s_InsOk : List AV → Option (Bool × List AV)
  | [.agg [.i .i64 a0_0, .i .i64 a0_1]] => some ((s_InsOk_c (⟨a0_0, a0_1⟩ : Ins)), [.one (.b (s_InsOk (⟨a0_0, a0_1⟩ : Ins)))])
  | _ => none

noncomputable def E_s_InsOk (N : Nat) (a0 : Ins) : Option Ans :=
  (bif (ieq a0.Op 1) then (bif (ieq a0.Op 1) then (bif (s_l01In_c a0.X 0 99) then (some [(.one (.b (s_l01In a0.X 0 99)))]) else none) else (bif (ieq a0.Op 3) then (bif (ieq a0.Op 3) then (bif (s_l01In_c a0.X 0 15) then (some [(.one (.b (s_l01In a0.X 0 15)))]) else none) else (bif (ieq a0.Op 7) then (some [(.one (.b (ieq a0.X 0)))]) else (bif (ieq a0.Op 8) then (bif (s_l01In_c a0.X 0 11) then (some [(.one (.b (s_l01In a0.X 0 11)))]) else none) else (some [(.one (.b false))])))) else (bif (ieq a0.Op 4) then (bif (s_l01In_c a0.X 0 15) then (some [(.one (.b (s_l01In a0.X 0 15)))]) else none) else (bif (ieq a0.Op 7) then (some [(.one (.b (ieq a0.X 0)))]) else (bif (ieq a0.Op 8) then (bif (s_l01In_c a0.X 0 11) then (some [(.one (.b (s_l01In a0.X 0 11)))]) else none) else (some [(.one (.b false))])))))) else (bif (ieq a0.Op 2) then (bif (ieq a0.Op 2) then (bif (s_l01In_c a0.X 0 99) then (some [(.one (.b (s_l01In a0.X 0 99)))]) else none) else (bif (ieq a0.Op 3) then (bif (ieq a0.Op 3) then (bif (s_l01In_c a0.X 0 15) then (some [(.one (.b (s_l01In a0.X 0 15)))]) else none) else (bif (ieq a0.Op 7) then (some [(.one (.b (ieq a0.X 0)))]) else (bif (ieq a0.Op 8) then (bif (s_l01In_c a0.X 0 11) then (some [(.one (.b (s_l01In a0.X 0 11)))]) else none) else (some [(.one (.b false))])))) else (bif (ieq a0.Op 4) then (bif (s_l01In_c a0.X 0 15) then (some [(.one (.b (s_l01In a0.X 0 15)))]) else none) else (bif (ieq a0.Op 7) then (some [(.one (.b (ieq a0.X 0)))]) else (bif (ieq a0.Op 8) then (bif (s_l01In_c a0.X 0 11) then (some [(.one (.b (s_l01In a0.X 0 11)))]) else none) else (some [(.one (.b false))])))))) else (bif (ieq a0.Op 5) then (bif (ieq a0.Op 5) then (bif (s_l01In_c a0.X 0 99) then (some [(.one (.b (s_l01In a0.X 0 99)))]) else none) else (bif (ieq a0.Op 3) then (bif (ieq a0.Op 3) then (bif (s_l01In_c a0.X 0 15) then (some [(.one (.b (s_l01In a0.X 0 15)))]) else none) else (bif (ieq a0.Op 7) then (some [(.one (.b (ieq a0.X 0)))]) else (bif (ieq a0.Op 8) then (bif (s_l01In_c a0.X 0 11) then (some [(.one (.b (s_l01In a0.X 0 11)))]) else none) else (some [(.one (.b false))])))) else (bif (ieq a0.Op 4) then (bif (s_l01In_c a0.X 0 15) then (some [(.one (.b (s_l01In a0.X 0 15)))]) else none) else (bif (ieq a0.Op 7) then (some [(.one (.b (ieq a0.X 0)))]) else (bif (ieq a0.Op 8) then (bif (s_l01In_c a0.X 0 11) then (some [(.one (.b (s_l01In a0.X 0 11)))]) else none) else (some [(.one (.b false))])))))) else (bif (ieq a0.Op 6) then (bif (s_l01In_c a0.X 0 99) then (some [(.one (.b (s_l01In a0.X 0 99)))]) else none) else (bif (ieq a0.Op 3) then (bif (ieq a0.Op 3) then (bif (s_l01In_c a0.X 0 15) then (some [(.one (.b (s_l01In a0.X 0 15)))]) else none) else (bif (ieq a0.Op 7) then (some [(.one (.b (ieq a0.X 0)))]) else (bif (ieq a0.Op 8) then (bif (s_l01In_c a0.X 0 11) then (some [(.one (.b (s_l01In a0.X 0 11)))]) else none) else (some [(.one (.b false))])))) else (bif (ieq a0.Op 4) then (bif (s_l01In_c a0.X 0 15) then (some [(.one (.b (s_l01In a0.X 0 15)))]) else none) else (bif (ieq a0.Op 7) then (some [(.one (.b (ieq a0.X 0)))]) else (bif (ieq a0.Op 8) then (bif (s_l01In_c a0.X 0 11) then (some [(.one (.b (s_l01In a0.X 0 11)))]) else none) else (some [(.one (.b false))])))))))))

theorem nf_s_InsOk (N : Nat) (a0 : Ins) : evalFn (cfgQ (aget ctrN1) (aget mctC) (aget pct0) (aget tct0)) (tmsOf []) N 12 141 [.agg (Ty.cells .ins a0)] = E_s_InsOk N a0 := by kernel_rfl

theorem law_s_InsOk (a0 : Ins) (hb : AllB big [.agg (Ty.cells .ins a0)]) (hc : (s_InsOk_c a0) = true) : ∃ N, E_s_InsOk N a0 = some [.one (.b (s_InsOk a0))] := by
  refine ⟨0, ?_⟩
  unfold E_s_InsOk
  refine br (fun h0 => ?_) (fun h0 => ?_)
  · refine br (fun h1 => ?_) (fun h1 => ?_)
    · refine must rfl ?_
      first | rfl | (simp only [h0, h1, s_InsOk, insOk, cT, cF] <;> rfl) | (simp_all [Ty.cells, s_InsOk, insOk]; done)
    · refine br (fun h2 => ?_) (fun h2 => ?_)
      · refine br (fun h3 => ?_) (fun h3 => ?_)
        · refine must rfl ?_
          first | rfl | (simp only [h0, h1, h2, h3, s_InsOk, insOk, cT, cF] <;> rfl) | (simp_all [Ty.cells, s_InsOk, insOk]; done)
        · refine br (fun h4 => ?_) (fun h4 => ?_)
          · first | rfl | (simp only [h0, h1, h2, h3, h4, s_InsOk, insOk, cT, cF] <;> rfl) | (simp_all [Ty.cells, s_InsOk, insOk]; done)
          · refine br (fun h5 => ?_) (fun h5 => ?_)
            · refine must rfl ?_
              first | rfl | (simp only [h0, h1, h2, h3, h4, h5, s_InsOk, insOk, cT, cF] <;> rfl) | (simp_all [Ty.cells, s_InsOk, insOk]; done)
            · first | rfl | (simp only [h0, h1, h2, h3, h4, h5, s_InsOk, insOk, cT, cF] <;> rfl) | (simp_all [Ty.cells, s_InsOk, insOk]; done)
      · refine br (fun h3 => ?_) (fun h3 => ?_)
        · refine must rfl ?_
          first | rfl | (simp only [h0, h1, h2, h3, s_InsOk, insOk, cT, cF] <;> rfl) | (simp_all [Ty.cells, s_InsOk, insOk]; done)
        · refine br (fun h4 => ?_) (fun h4 => ?_)
          · first | rfl | (simp only [h0, h1, h2, h3, h4, s_InsOk, insOk, cT, cF] <;> rfl) | (simp_all [Ty.cells, s_InsOk, insOk]; done)
          · refine br (fun h5 => ?_) (fun h5 => ?_)
            · refine must rfl ?_
              first | rfl | (simp only [h0, h1, h2, h3, h4, h5, s_InsOk, insOk, cT, cF] <;> rfl) | (simp_all [Ty.cells, s_InsOk, insOk]; done)
            · first | rfl | (simp only [h0, h1, h2, h3, h4, h5, s_InsOk, insOk, cT, cF] <;> rfl) | (simp_all [Ty.cells, s_InsOk, insOk]; done)
  · refine br (fun h1 => ?_) (fun h1 => ?_)
    · refine br (fun h2 => ?_) (fun h2 => ?_)
      · refine must rfl ?_
        first | rfl | (simp only [h0, h1, h2, s_InsOk, insOk, cT, cF] <;> rfl) | (simp_all [Ty.cells, s_InsOk, insOk]; done)
      · refine br (fun h3 => ?_) (fun h3 => ?_)
        · refine br (fun h4 => ?_) (fun h4 => ?_)
          · refine must rfl ?_
            first | rfl | (simp only [h0, h1, h2, h3, h4, s_InsOk, insOk, cT, cF] <;> rfl) | (simp_all [Ty.cells, s_InsOk, insOk]; done)
          · refine br (fun h5 => ?_) (fun h5 => ?_)
            · first | rfl | (simp only [h0, h1, h2, h3, h4, h5, s_InsOk, insOk, cT, cF] <;> rfl) | (simp_all [Ty.cells, s_InsOk, insOk]; done)
            · refine br (fun h6 => ?_) (fun h6 => ?_)
              · refine must rfl ?_
                first | rfl | (simp only [h0, h1, h2, h3, h4, h5, h6, s_InsOk, insOk, cT, cF] <;> rfl) | (simp_all [Ty.cells, s_InsOk, insOk]; done)
              · first | rfl | (simp only [h0, h1, h2, h3, h4, h5, h6, s_InsOk, insOk, cT, cF] <;> rfl) | (simp_all [Ty.cells, s_InsOk, insOk]; done)
        · refine br (fun h4 => ?_) (fun h4 => ?_)
          · refine must rfl ?_
            first | rfl | (simp only [h0, h1, h2, h3, h4, s_InsOk, insOk, cT, cF] <;> rfl) | (simp_all [Ty.cells, s_InsOk, insOk]; done)
          · refine br (fun h5 => ?_) (fun h5 => ?_)
            · first | rfl | (simp only [h0, h1, h2, h3, h4, h5, s_InsOk, insOk, cT, cF] <;> rfl) | (simp_all [Ty.cells, s_InsOk, insOk]; done)
            · refine br (fun h6 => ?_) (fun h6 => ?_)
              · refine must rfl ?_
                first | rfl | (simp only [h0, h1, h2, h3, h4, h5, h6, s_InsOk, insOk, cT, cF] <;> rfl) | (simp_all [Ty.cells, s_InsOk, insOk]; done)
              · first | rfl | (simp only [h0, h1, h2, h3, h4, h5, h6, s_InsOk, insOk, cT, cF] <;> rfl) | (simp_all [Ty.cells, s_InsOk, insOk]; done)
    · refine br (fun h2 => ?_) (fun h2 => ?_)
      · refine br (fun h3 => ?_) (fun h3 => ?_)
        · refine must rfl ?_
          first | rfl | (simp only [h0, h1, h2, h3, s_InsOk, insOk, cT, cF] <;> rfl) | (simp_all [Ty.cells, s_InsOk, insOk]; done)
        · refine br (fun h4 => ?_) (fun h4 => ?_)
          · refine br (fun h5 => ?_) (fun h5 => ?_)
            · refine must rfl ?_
              first | rfl | (simp only [h0, h1, h2, h3, h4, h5, s_InsOk, insOk, cT, cF] <;> rfl) | (simp_all [Ty.cells, s_InsOk, insOk]; done)
            · refine br (fun h6 => ?_) (fun h6 => ?_)
              · first | rfl | (simp only [h0, h1, h2, h3, h4, h5, h6, s_InsOk, insOk, cT, cF] <;> rfl) | (simp_all [Ty.cells, s_InsOk, insOk]; done)
              · refine br (fun h7 => ?_) (fun h7 => ?_)
                · refine must rfl ?_
                  first | rfl | (simp only [h0, h1, h2, h3, h4, h5, h6, h7, s_InsOk, insOk, cT, cF] <;> rfl) | (simp_all [Ty.cells, s_InsOk, insOk]; done)
                · first | rfl | (simp only [h0, h1, h2, h3, h4, h5, h6, h7, s_InsOk, insOk, cT, cF] <;> rfl) | (simp_all [Ty.cells, s_InsOk, insOk]; done)
          · refine br (fun h5 => ?_) (fun h5 => ?_)
            · refine must rfl ?_
              first | rfl | (simp only [h0, h1, h2, h3, h4, h5, s_InsOk, insOk, cT, cF] <;> rfl) | (simp_all [Ty.cells, s_InsOk, insOk]; done)
            · refine br (fun h6 => ?_) (fun h6 => ?_)
              · first | rfl | (simp only [h0, h1, h2, h3, h4, h5, h6, s_InsOk, insOk, cT, cF] <;> rfl) | (simp_all [Ty.cells, s_InsOk, insOk]; done)
              · refine br (fun h7 => ?_) (fun h7 => ?_)
                · refine must rfl ?_
                  first | rfl | (simp only [h0, h1, h2, h3, h4, h5, h6, h7, s_InsOk, insOk, cT, cF] <;> rfl) | (simp_all [Ty.cells, s_InsOk, insOk]; done)
                · first | rfl | (simp only [h0, h1, h2, h3, h4, h5, h6, h7, s_InsOk, insOk, cT, cF] <;> rfl) | (simp_all [Ty.cells, s_InsOk, insOk]; done)
      · refine br (fun h3 => ?_) (fun h3 => ?_)
        · refine must rfl ?_
          first | rfl | (simp only [h0, h1, h2, h3, s_InsOk, insOk, cT, cF] <;> rfl) | (simp_all [Ty.cells, s_InsOk, insOk]; done)
        · refine br (fun h4 => ?_) (fun h4 => ?_)
          · refine br (fun h5 => ?_) (fun h5 => ?_)
            · refine must rfl ?_
              first | rfl | (simp only [h0, h1, h2, h3, h4, h5, s_InsOk, insOk, cT, cF] <;> rfl) | (simp_all [Ty.cells, s_InsOk, insOk]; done)
            · refine br (fun h6 => ?_) (fun h6 => ?_)
              · first | rfl | (simp only [h0, h1, h2, h3, h4, h5, h6, s_InsOk, insOk, cT, cF] <;> rfl) | (simp_all [Ty.cells, s_InsOk, insOk]; done)
              · refine br (fun h7 => ?_) (fun h7 => ?_)
                · refine must rfl ?_
                  first | rfl | (simp only [h0, h1, h2, h3, h4, h5, h6, h7, s_InsOk, insOk, cT, cF] <;> rfl) | (simp_all [Ty.cells, s_InsOk, insOk]; done)
                · first | rfl | (simp only [h0, h1, h2, h3, h4, h5, h6, h7, s_InsOk, insOk, cT, cF] <;> rfl) | (simp_all [Ty.cells, s_InsOk, insOk]; done)
          · refine br (fun h5 => ?_) (fun h5 => ?_)
            · refine must rfl ?_
              first | rfl | (simp only [h0, h1, h2, h3, h4, h5, s_InsOk, insOk, cT, cF] <;> rfl) | (simp_all [Ty.cells, s_InsOk, insOk]; done)
            · refine br (fun h6 => ?_) (fun h6 => ?_)
              · first | rfl | (simp only [h0, h1, h2, h3, h4, h5, h6, s_InsOk, insOk, cT, cF] <;> rfl) | (simp_all [Ty.cells, s_InsOk, insOk]; done)
              · refine br (fun h7 => ?_) (fun h7 => ?_)
                · refine must rfl ?_
                  first | rfl | (simp only [h0, h1, h2, h3, h4, h5, h6, h7, s_InsOk, insOk, cT, cF] <;> rfl) | (simp_all [Ty.cells, s_InsOk, insOk]; done)
                · first | rfl | (simp only [h0, h1, h2, h3, h4, h5, h6, h7, s_InsOk, insOk, cT, cF] <;> rfl) | (simp_all [Ty.cells, s_InsOk, insOk]; done)
theorem holds_s_InsOk : Holds Tryz.prog 141 run_s_InsOk := by
  refine holds_of_eval (engQ_ok ctrN1_ok mctC_ok pct0_ok tct0_ok) (fn_ok (by kernel_rfl)) ?_
  intro avs rs hr h
  have hb := allB_of_rep hr
  unfold run_s_InsOk at h
  split at h
  · rename_i a0_0 a0_1
    obtain ⟨hc, rfl⟩ := some_pair h
    obtain ⟨N, hN⟩ := law_s_InsOk (⟨a0_0, a0_1⟩ : Ins) hb hc
    exact ⟨tmsOf [], N, 12, (nf_s_InsOk N (⟨a0_0, a0_1⟩ : Ins)).trans hN⟩
  · cases h

@[simp, reducible] def i_InsOk_c (i : Ins) : Bool := true
@[simp, reducible] def i_InsOk (i : Ins) : Bool := insOk i
noncomputable def run_i_InsOk : List AV → Option (Bool × List AV)
  | [.agg [.i .i64 a0_0, .i .i64 a0_1]] => some ((i_InsOk_c (⟨a0_0, a0_1⟩ : Ins)), [.one (.b (i_InsOk (⟨a0_0, a0_1⟩ : Ins)))])
  | _ => none

noncomputable def E_i_InsOk (N : Nat) (a0 : Ins) : Option Ans :=
  (bif (ieq a0.Op 1) then (bif (ieq a0.Op 1) then (bif (i_within_c a0.X 0 99) then (some [(.one (.b (i_within a0.X 0 99)))]) else none) else (bif (ieq a0.Op 3) then (bif (ieq a0.Op 3) then (bif (i_within_c a0.X 0 15) then (some [(.one (.b (i_within a0.X 0 15)))]) else none) else (bif (ieq a0.Op 7) then (some [(.one (.b (ieq a0.X 0)))]) else (bif (ieq a0.Op 8) then (bif (i_within_c a0.X 0 11) then (some [(.one (.b (i_within a0.X 0 11)))]) else none) else (some [(.one (.b false))])))) else (bif (ieq a0.Op 4) then (bif (i_within_c a0.X 0 15) then (some [(.one (.b (i_within a0.X 0 15)))]) else none) else (bif (ieq a0.Op 7) then (some [(.one (.b (ieq a0.X 0)))]) else (bif (ieq a0.Op 8) then (bif (i_within_c a0.X 0 11) then (some [(.one (.b (i_within a0.X 0 11)))]) else none) else (some [(.one (.b false))])))))) else (bif (ieq a0.Op 2) then (bif (ieq a0.Op 2) then (bif (i_within_c a0.X 0 99) then (some [(.one (.b (i_within a0.X 0 99)))]) else none) else (bif (ieq a0.Op 3) then (bif (ieq a0.Op 3) then (bif (i_within_c a0.X 0 15) then (some [(.one (.b (i_within a0.X 0 15)))]) else none) else (bif (ieq a0.Op 7) then (some [(.one (.b (ieq a0.X 0)))]) else (bif (ieq a0.Op 8) then (bif (i_within_c a0.X 0 11) then (some [(.one (.b (i_within a0.X 0 11)))]) else none) else (some [(.one (.b false))])))) else (bif (ieq a0.Op 4) then (bif (i_within_c a0.X 0 15) then (some [(.one (.b (i_within a0.X 0 15)))]) else none) else (bif (ieq a0.Op 7) then (some [(.one (.b (ieq a0.X 0)))]) else (bif (ieq a0.Op 8) then (bif (i_within_c a0.X 0 11) then (some [(.one (.b (i_within a0.X 0 11)))]) else none) else (some [(.one (.b false))])))))) else (bif (ieq a0.Op 5) then (bif (ieq a0.Op 5) then (bif (i_within_c a0.X 0 99) then (some [(.one (.b (i_within a0.X 0 99)))]) else none) else (bif (ieq a0.Op 3) then (bif (ieq a0.Op 3) then (bif (i_within_c a0.X 0 15) then (some [(.one (.b (i_within a0.X 0 15)))]) else none) else (bif (ieq a0.Op 7) then (some [(.one (.b (ieq a0.X 0)))]) else (bif (ieq a0.Op 8) then (bif (i_within_c a0.X 0 11) then (some [(.one (.b (i_within a0.X 0 11)))]) else none) else (some [(.one (.b false))])))) else (bif (ieq a0.Op 4) then (bif (i_within_c a0.X 0 15) then (some [(.one (.b (i_within a0.X 0 15)))]) else none) else (bif (ieq a0.Op 7) then (some [(.one (.b (ieq a0.X 0)))]) else (bif (ieq a0.Op 8) then (bif (i_within_c a0.X 0 11) then (some [(.one (.b (i_within a0.X 0 11)))]) else none) else (some [(.one (.b false))])))))) else (bif (ieq a0.Op 6) then (bif (i_within_c a0.X 0 99) then (some [(.one (.b (i_within a0.X 0 99)))]) else none) else (bif (ieq a0.Op 3) then (bif (ieq a0.Op 3) then (bif (i_within_c a0.X 0 15) then (some [(.one (.b (i_within a0.X 0 15)))]) else none) else (bif (ieq a0.Op 7) then (some [(.one (.b (ieq a0.X 0)))]) else (bif (ieq a0.Op 8) then (bif (i_within_c a0.X 0 11) then (some [(.one (.b (i_within a0.X 0 11)))]) else none) else (some [(.one (.b false))])))) else (bif (ieq a0.Op 4) then (bif (i_within_c a0.X 0 15) then (some [(.one (.b (i_within a0.X 0 15)))]) else none) else (bif (ieq a0.Op 7) then (some [(.one (.b (ieq a0.X 0)))]) else (bif (ieq a0.Op 8) then (bif (i_within_c a0.X 0 11) then (some [(.one (.b (i_within a0.X 0 11)))]) else none) else (some [(.one (.b false))])))))))))

theorem nf_i_InsOk (N : Nat) (a0 : Ins) : evalFn (cfgQ (aget ctrN1) (aget mctC) (aget pct0) (aget tct0)) (tmsOf []) N 12 136 [.agg (Ty.cells .ins a0)] = E_i_InsOk N a0 := by kernel_rfl

theorem law_i_InsOk (a0 : Ins) (hb : AllB big [.agg (Ty.cells .ins a0)]) (hc : (i_InsOk_c a0) = true) : ∃ N, E_i_InsOk N a0 = some [.one (.b (i_InsOk a0))] := by
  refine ⟨0, ?_⟩
  unfold E_i_InsOk
  refine br (fun h0 => ?_) (fun h0 => ?_)
  · refine br (fun h1 => ?_) (fun h1 => ?_)
    · refine must rfl ?_
      first | rfl | (simp only [h0, h1, i_InsOk, insOk, cT, cF] <;> rfl) | (simp_all [Ty.cells, i_InsOk, insOk]; done)
    · refine br (fun h2 => ?_) (fun h2 => ?_)
      · refine br (fun h3 => ?_) (fun h3 => ?_)
        · refine must rfl ?_
          first | rfl | (simp only [h0, h1, h2, h3, i_InsOk, insOk, cT, cF] <;> rfl) | (simp_all [Ty.cells, i_InsOk, insOk]; done)
        · refine br (fun h4 => ?_) (fun h4 => ?_)
          · first | rfl | (simp only [h0, h1, h2, h3, h4, i_InsOk, insOk, cT, cF] <;> rfl) | (simp_all [Ty.cells, i_InsOk, insOk]; done)
          · refine br (fun h5 => ?_) (fun h5 => ?_)
            · refine must rfl ?_
              first | rfl | (simp only [h0, h1, h2, h3, h4, h5, i_InsOk, insOk, cT, cF] <;> rfl) | (simp_all [Ty.cells, i_InsOk, insOk]; done)
            · first | rfl | (simp only [h0, h1, h2, h3, h4, h5, i_InsOk, insOk, cT, cF] <;> rfl) | (simp_all [Ty.cells, i_InsOk, insOk]; done)
      · refine br (fun h3 => ?_) (fun h3 => ?_)
        · refine must rfl ?_
          first | rfl | (simp only [h0, h1, h2, h3, i_InsOk, insOk, cT, cF] <;> rfl) | (simp_all [Ty.cells, i_InsOk, insOk]; done)
        · refine br (fun h4 => ?_) (fun h4 => ?_)
          · first | rfl | (simp only [h0, h1, h2, h3, h4, i_InsOk, insOk, cT, cF] <;> rfl) | (simp_all [Ty.cells, i_InsOk, insOk]; done)
          · refine br (fun h5 => ?_) (fun h5 => ?_)
            · refine must rfl ?_
              first | rfl | (simp only [h0, h1, h2, h3, h4, h5, i_InsOk, insOk, cT, cF] <;> rfl) | (simp_all [Ty.cells, i_InsOk, insOk]; done)
            · first | rfl | (simp only [h0, h1, h2, h3, h4, h5, i_InsOk, insOk, cT, cF] <;> rfl) | (simp_all [Ty.cells, i_InsOk, insOk]; done)
  · refine br (fun h1 => ?_) (fun h1 => ?_)
    · refine br (fun h2 => ?_) (fun h2 => ?_)
      · refine must rfl ?_
        first | rfl | (simp only [h0, h1, h2, i_InsOk, insOk, cT, cF] <;> rfl) | (simp_all [Ty.cells, i_InsOk, insOk]; done)
      · refine br (fun h3 => ?_) (fun h3 => ?_)
        · refine br (fun h4 => ?_) (fun h4 => ?_)
          · refine must rfl ?_
            first | rfl | (simp only [h0, h1, h2, h3, h4, i_InsOk, insOk, cT, cF] <;> rfl) | (simp_all [Ty.cells, i_InsOk, insOk]; done)
          · refine br (fun h5 => ?_) (fun h5 => ?_)
            · first | rfl | (simp only [h0, h1, h2, h3, h4, h5, i_InsOk, insOk, cT, cF] <;> rfl) | (simp_all [Ty.cells, i_InsOk, insOk]; done)
            · refine br (fun h6 => ?_) (fun h6 => ?_)
              · refine must rfl ?_
                first | rfl | (simp only [h0, h1, h2, h3, h4, h5, h6, i_InsOk, insOk, cT, cF] <;> rfl) | (simp_all [Ty.cells, i_InsOk, insOk]; done)
              · first | rfl | (simp only [h0, h1, h2, h3, h4, h5, h6, i_InsOk, insOk, cT, cF] <;> rfl) | (simp_all [Ty.cells, i_InsOk, insOk]; done)
        · refine br (fun h4 => ?_) (fun h4 => ?_)
          · refine must rfl ?_
            first | rfl | (simp only [h0, h1, h2, h3, h4, i_InsOk, insOk, cT, cF] <;> rfl) | (simp_all [Ty.cells, i_InsOk, insOk]; done)
          · refine br (fun h5 => ?_) (fun h5 => ?_)
            · first | rfl | (simp only [h0, h1, h2, h3, h4, h5, i_InsOk, insOk, cT, cF] <;> rfl) | (simp_all [Ty.cells, i_InsOk, insOk]; done)
            · refine br (fun h6 => ?_) (fun h6 => ?_)
              · refine must rfl ?_
                first | rfl | (simp only [h0, h1, h2, h3, h4, h5, h6, i_InsOk, insOk, cT, cF] <;> rfl) | (simp_all [Ty.cells, i_InsOk, insOk]; done)
              · first | rfl | (simp only [h0, h1, h2, h3, h4, h5, h6, i_InsOk, insOk, cT, cF] <;> rfl) | (simp_all [Ty.cells, i_InsOk, insOk]; done)
    · refine br (fun h2 => ?_) (fun h2 => ?_)
      · refine br (fun h3 => ?_) (fun h3 => ?_)
        · refine must rfl ?_
          first | rfl | (simp only [h0, h1, h2, h3, i_InsOk, insOk, cT, cF] <;> rfl) | (simp_all [Ty.cells, i_InsOk, insOk]; done)
        · refine br (fun h4 => ?_) (fun h4 => ?_)
          · refine br (fun h5 => ?_) (fun h5 => ?_)
            · refine must rfl ?_
              first | rfl | (simp only [h0, h1, h2, h3, h4, h5, i_InsOk, insOk, cT, cF] <;> rfl) | (simp_all [Ty.cells, i_InsOk, insOk]; done)
            · refine br (fun h6 => ?_) (fun h6 => ?_)
              · first | rfl | (simp only [h0, h1, h2, h3, h4, h5, h6, i_InsOk, insOk, cT, cF] <;> rfl) | (simp_all [Ty.cells, i_InsOk, insOk]; done)
              · refine br (fun h7 => ?_) (fun h7 => ?_)
                · refine must rfl ?_
                  first | rfl | (simp only [h0, h1, h2, h3, h4, h5, h6, h7, i_InsOk, insOk, cT, cF] <;> rfl) | (simp_all [Ty.cells, i_InsOk, insOk]; done)
                · first | rfl | (simp only [h0, h1, h2, h3, h4, h5, h6, h7, i_InsOk, insOk, cT, cF] <;> rfl) | (simp_all [Ty.cells, i_InsOk, insOk]; done)
          · refine br (fun h5 => ?_) (fun h5 => ?_)
            · refine must rfl ?_
              first | rfl | (simp only [h0, h1, h2, h3, h4, h5, i_InsOk, insOk, cT, cF] <;> rfl) | (simp_all [Ty.cells, i_InsOk, insOk]; done)
            · refine br (fun h6 => ?_) (fun h6 => ?_)
              · first | rfl | (simp only [h0, h1, h2, h3, h4, h5, h6, i_InsOk, insOk, cT, cF] <;> rfl) | (simp_all [Ty.cells, i_InsOk, insOk]; done)
              · refine br (fun h7 => ?_) (fun h7 => ?_)
                · refine must rfl ?_
                  first | rfl | (simp only [h0, h1, h2, h3, h4, h5, h6, h7, i_InsOk, insOk, cT, cF] <;> rfl) | (simp_all [Ty.cells, i_InsOk, insOk]; done)
                · first | rfl | (simp only [h0, h1, h2, h3, h4, h5, h6, h7, i_InsOk, insOk, cT, cF] <;> rfl) | (simp_all [Ty.cells, i_InsOk, insOk]; done)
      · refine br (fun h3 => ?_) (fun h3 => ?_)
        · refine must rfl ?_
          first | rfl | (simp only [h0, h1, h2, h3, i_InsOk, insOk, cT, cF] <;> rfl) | (simp_all [Ty.cells, i_InsOk, insOk]; done)
        · refine br (fun h4 => ?_) (fun h4 => ?_)
          · refine br (fun h5 => ?_) (fun h5 => ?_)
            · refine must rfl ?_
              first | rfl | (simp only [h0, h1, h2, h3, h4, h5, i_InsOk, insOk, cT, cF] <;> rfl) | (simp_all [Ty.cells, i_InsOk, insOk]; done)
            · refine br (fun h6 => ?_) (fun h6 => ?_)
              · first | rfl | (simp only [h0, h1, h2, h3, h4, h5, h6, i_InsOk, insOk, cT, cF] <;> rfl) | (simp_all [Ty.cells, i_InsOk, insOk]; done)
              · refine br (fun h7 => ?_) (fun h7 => ?_)
                · refine must rfl ?_
                  first | rfl | (simp only [h0, h1, h2, h3, h4, h5, h6, h7, i_InsOk, insOk, cT, cF] <;> rfl) | (simp_all [Ty.cells, i_InsOk, insOk]; done)
                · first | rfl | (simp only [h0, h1, h2, h3, h4, h5, h6, h7, i_InsOk, insOk, cT, cF] <;> rfl) | (simp_all [Ty.cells, i_InsOk, insOk]; done)
          · refine br (fun h5 => ?_) (fun h5 => ?_)
            · refine must rfl ?_
              first | rfl | (simp only [h0, h1, h2, h3, h4, h5, i_InsOk, insOk, cT, cF] <;> rfl) | (simp_all [Ty.cells, i_InsOk, insOk]; done)
            · refine br (fun h6 => ?_) (fun h6 => ?_)
              · first | rfl | (simp only [h0, h1, h2, h3, h4, h5, h6, i_InsOk, insOk, cT, cF] <;> rfl) | (simp_all [Ty.cells, i_InsOk, insOk]; done)
              · refine br (fun h7 => ?_) (fun h7 => ?_)
                · refine must rfl ?_
                  first | rfl | (simp only [h0, h1, h2, h3, h4, h5, h6, h7, i_InsOk, insOk, cT, cF] <;> rfl) | (simp_all [Ty.cells, i_InsOk, insOk]; done)
                · first | rfl | (simp only [h0, h1, h2, h3, h4, h5, h6, h7, i_InsOk, insOk, cT, cF] <;> rfl) | (simp_all [Ty.cells, i_InsOk, insOk]; done)
theorem holds_i_InsOk : Holds Tryz.prog 136 run_i_InsOk := by
  refine holds_of_eval (engQ_ok ctrN1_ok mctC_ok pct0_ok tct0_ok) (fn_ok (by kernel_rfl)) ?_
  intro avs rs hr h
  have hb := allB_of_rep hr
  unfold run_i_InsOk at h
  split at h
  · rename_i a0_0 a0_1
    obtain ⟨hc, rfl⟩ := some_pair h
    obtain ⟨N, hN⟩ := law_i_InsOk (⟨a0_0, a0_1⟩ : Ins) hb hc
    exact ⟨tmsOf [], N, 12, (nf_i_InsOk N (⟨a0_0, a0_1⟩ : Ins)).trans hN⟩
  · cases h

def exitOk (e : GExit) : Bool := bif (ieq e.Kind 0 || ieq e.Kind 4) then (ieq e.Page 0 && (!e.Write && ieq e.N 0)) else (bif ieq e.Kind 1 then (win e.Page 0 3 && ieq e.N 0) else (bif (ieq e.Kind 2 || ieq e.Kind 3) then (win e.N 0 99 && (ieq e.Page 0 && !e.Write)) else false))
@[simp] theorem beqb_f (x : Bool) : beqb x false = !x := by cases x <;> rfl
attribute [simp] ieq_self
@[simp, reducible] def s_ExitOk_c (e : GExit) : Bool := true
@[simp, reducible] def s_ExitOk (e : GExit) : Bool := exitOk e
noncomputable def run_s_ExitOk : List AV → Option (Bool × List AV)
  | [.agg [.i .i64 a0_0, .i .i64 a0_1, .b a0_2, .i .i64 a0_3]] => some ((s_ExitOk_c (⟨a0_0, a0_1, a0_2, a0_3⟩ : GExit)), [.one (.b (s_ExitOk (⟨a0_0, a0_1, a0_2, a0_3⟩ : GExit)))])
  | _ => none

noncomputable def E_s_ExitOk (N : Nat) (a0 : GExit) : Option Ans :=
  (bif (ieq a0.Kind 0) then (bif (ieq a0.Kind 0) then (some [(.one (.b (bif (ieq a0.Kind a0.Kind) then (bif (ieq a0.Page 0) then (bif (beqb a0.Write false) then (ieq a0.N 0) else false) else false) else false)))]) else (bif (ieq a0.Kind 1) then (bif (s_l01In_c a0.Page 0 3) then (bif (s_l01In a0.Page 0 3) then (some [(.one (.b (ieq a0.N 0)))]) else (some [(.one (.b false))])) else none) else (bif (ieq a0.Kind 2) then (bif (ieq a0.Kind 2) then (bif (s_l01In_c a0.N 0 99) then (bif (s_l01In a0.N 0 99) then (bif (ieq a0.Page 0) then (some [(.one (.b (bif a0.Write then false else true)))]) else (some [(.one (.b false))])) else (some [(.one (.b false))])) else none) else (some [(.one (.b false))])) else (bif (ieq a0.Kind 3) then (bif (s_l01In_c a0.N 0 99) then (bif (s_l01In a0.N 0 99) then (bif (ieq a0.Page 0) then (some [(.one (.b (bif a0.Write then false else true)))]) else (some [(.one (.b false))])) else (some [(.one (.b false))])) else none) else (some [(.one (.b false))]))))) else (bif (ieq a0.Kind 4) then (some [(.one (.b (bif (ieq a0.Kind a0.Kind) then (bif (ieq a0.Page 0) then (bif (beqb a0.Write false) then (ieq a0.N 0) else false) else false) else false)))]) else (bif (ieq a0.Kind 1) then (bif (s_l01In_c a0.Page 0 3) then (bif (s_l01In a0.Page 0 3) then (some [(.one (.b (ieq a0.N 0)))]) else (some [(.one (.b false))])) else none) else (bif (ieq a0.Kind 2) then (bif (ieq a0.Kind 2) then (bif (s_l01In_c a0.N 0 99) then (bif (s_l01In a0.N 0 99) then (bif (ieq a0.Page 0) then (some [(.one (.b (bif a0.Write then false else true)))]) else (some [(.one (.b false))])) else (some [(.one (.b false))])) else none) else (some [(.one (.b false))])) else (bif (ieq a0.Kind 3) then (bif (s_l01In_c a0.N 0 99) then (bif (s_l01In a0.N 0 99) then (bif (ieq a0.Page 0) then (some [(.one (.b (bif a0.Write then false else true)))]) else (some [(.one (.b false))])) else (some [(.one (.b false))])) else none) else (some [(.one (.b false))]))))))

theorem nf_s_ExitOk (N : Nat) (a0 : GExit) : evalFn (cfgQ (aget ctrN1) (aget mctC) (aget pct0) (aget tct0)) (tmsOf []) N 12 129 [.agg (exitC a0)] = E_s_ExitOk N a0 := by kernel_rfl

theorem law_s_ExitOk (a0 : GExit) (hb : AllB big [.agg (exitC a0)]) (hc : (s_ExitOk_c a0) = true) : ∃ N, E_s_ExitOk N a0 = some [.one (.b (s_ExitOk a0))] := by
  refine ⟨0, ?_⟩
  unfold E_s_ExitOk
  refine br (fun h0 => ?_) (fun h0 => ?_)
  · refine br (fun h1 => ?_) (fun h1 => ?_)
    · first | rfl | (simp only [h0, h1, s_ExitOk, exitOk, cT, cF] <;> rfl) | (simp_all [Ty.cells, s_ExitOk, exitOk]; done)
    · refine br (fun h2 => ?_) (fun h2 => ?_)
      · refine must rfl ?_
        refine br (fun h3 => ?_) (fun h3 => ?_)
        · first | rfl | (simp only [h0, h1, h2, h3, s_ExitOk, exitOk, cT, cF] <;> rfl) | (simp_all [Ty.cells, s_ExitOk, exitOk]; done)
        · first | rfl | (simp only [h0, h1, h2, h3, s_ExitOk, exitOk, cT, cF] <;> rfl) | (simp_all [Ty.cells, s_ExitOk, exitOk]; done)
      · refine br (fun h3 => ?_) (fun h3 => ?_)
        · refine br (fun h4 => ?_) (fun h4 => ?_)
          · refine must rfl ?_
            refine br (fun h5 => ?_) (fun h5 => ?_)
            · refine br (fun h6 => ?_) (fun h6 => ?_)
              · first | rfl | (simp only [h0, h1, h2, h3, h4, h5, h6, s_ExitOk, exitOk, cT, cF] <;> rfl) | (simp_all [Ty.cells, s_ExitOk, exitOk]; done)
              · first | rfl | (simp only [h0, h1, h2, h3, h4, h5, h6, s_ExitOk, exitOk, cT, cF] <;> rfl) | (simp_all [Ty.cells, s_ExitOk, exitOk]; done)
            · first | rfl | (simp only [h0, h1, h2, h3, h4, h5, s_ExitOk, exitOk, cT, cF] <;> rfl) | (simp_all [Ty.cells, s_ExitOk, exitOk]; done)
          · first | rfl | (simp only [h0, h1, h2, h3, h4, s_ExitOk, exitOk, cT, cF] <;> rfl) | (simp_all [Ty.cells, s_ExitOk, exitOk]; done)
        · refine br (fun h4 => ?_) (fun h4 => ?_)
          · refine must rfl ?_
            refine br (fun h5 => ?_) (fun h5 => ?_)
            · refine br (fun h6 => ?_) (fun h6 => ?_)
              · first | rfl | (simp only [h0, h1, h2, h3, h4, h5, h6, s_ExitOk, exitOk, cT, cF] <;> rfl) | (simp_all [Ty.cells, s_ExitOk, exitOk]; done)
              · first | rfl | (simp only [h0, h1, h2, h3, h4, h5, h6, s_ExitOk, exitOk, cT, cF] <;> rfl) | (simp_all [Ty.cells, s_ExitOk, exitOk]; done)
            · first | rfl | (simp only [h0, h1, h2, h3, h4, h5, s_ExitOk, exitOk, cT, cF] <;> rfl) | (simp_all [Ty.cells, s_ExitOk, exitOk]; done)
          · first | rfl | (simp only [h0, h1, h2, h3, h4, s_ExitOk, exitOk, cT, cF] <;> rfl) | (simp_all [Ty.cells, s_ExitOk, exitOk]; done)
  · refine br (fun h1 => ?_) (fun h1 => ?_)
    · first | rfl | (simp only [h0, h1, s_ExitOk, exitOk, cT, cF] <;> rfl) | (simp_all [Ty.cells, s_ExitOk, exitOk]; done)
    · refine br (fun h2 => ?_) (fun h2 => ?_)
      · refine must rfl ?_
        refine br (fun h3 => ?_) (fun h3 => ?_)
        · first | rfl | (simp only [h0, h1, h2, h3, s_ExitOk, exitOk, cT, cF] <;> rfl) | (simp_all [Ty.cells, s_ExitOk, exitOk]; done)
        · first | rfl | (simp only [h0, h1, h2, h3, s_ExitOk, exitOk, cT, cF] <;> rfl) | (simp_all [Ty.cells, s_ExitOk, exitOk]; done)
      · refine br (fun h3 => ?_) (fun h3 => ?_)
        · refine br (fun h4 => ?_) (fun h4 => ?_)
          · refine must rfl ?_
            refine br (fun h5 => ?_) (fun h5 => ?_)
            · refine br (fun h6 => ?_) (fun h6 => ?_)
              · first | rfl | (simp only [h0, h1, h2, h3, h4, h5, h6, s_ExitOk, exitOk, cT, cF] <;> rfl) | (simp_all [Ty.cells, s_ExitOk, exitOk]; done)
              · first | rfl | (simp only [h0, h1, h2, h3, h4, h5, h6, s_ExitOk, exitOk, cT, cF] <;> rfl) | (simp_all [Ty.cells, s_ExitOk, exitOk]; done)
            · first | rfl | (simp only [h0, h1, h2, h3, h4, h5, s_ExitOk, exitOk, cT, cF] <;> rfl) | (simp_all [Ty.cells, s_ExitOk, exitOk]; done)
          · first | rfl | (simp only [h0, h1, h2, h3, h4, s_ExitOk, exitOk, cT, cF] <;> rfl) | (simp_all [Ty.cells, s_ExitOk, exitOk]; done)
        · refine br (fun h4 => ?_) (fun h4 => ?_)
          · refine must rfl ?_
            refine br (fun h5 => ?_) (fun h5 => ?_)
            · refine br (fun h6 => ?_) (fun h6 => ?_)
              · first | rfl | (simp only [h0, h1, h2, h3, h4, h5, h6, s_ExitOk, exitOk, cT, cF] <;> rfl) | (simp_all [Ty.cells, s_ExitOk, exitOk]; done)
              · first | rfl | (simp only [h0, h1, h2, h3, h4, h5, h6, s_ExitOk, exitOk, cT, cF] <;> rfl) | (simp_all [Ty.cells, s_ExitOk, exitOk]; done)
            · first | rfl | (simp only [h0, h1, h2, h3, h4, h5, s_ExitOk, exitOk, cT, cF] <;> rfl) | (simp_all [Ty.cells, s_ExitOk, exitOk]; done)
          · first | rfl | (simp only [h0, h1, h2, h3, h4, s_ExitOk, exitOk, cT, cF] <;> rfl) | (simp_all [Ty.cells, s_ExitOk, exitOk]; done)
theorem holds_s_ExitOk : Holds Tryz.prog 129 run_s_ExitOk := by
  refine holds_of_eval (engQ_ok ctrN1_ok mctC_ok pct0_ok tct0_ok) (fn_ok (by kernel_rfl)) ?_
  intro avs rs hr h
  have hb := allB_of_rep hr
  unfold run_s_ExitOk at h
  split at h
  · rename_i a0_0 a0_1 a0_2 a0_3
    obtain ⟨hc, rfl⟩ := some_pair h
    obtain ⟨N, hN⟩ := law_s_ExitOk (⟨a0_0, a0_1, a0_2, a0_3⟩ : GExit) hb hc
    exact ⟨tmsOf [], N, 12, (nf_s_ExitOk N (⟨a0_0, a0_1, a0_2, a0_3⟩ : GExit)).trans hN⟩
  · cases h

@[simp, reducible] def i_ExitOk_c (e : GExit) : Bool := true
@[simp, reducible] def i_ExitOk (e : GExit) : Bool := exitOk e
noncomputable def run_i_ExitOk : List AV → Option (Bool × List AV)
  | [.agg [.i .i64 a0_0, .i .i64 a0_1, .b a0_2, .i .i64 a0_3]] => some ((i_ExitOk_c (⟨a0_0, a0_1, a0_2, a0_3⟩ : GExit)), [.one (.b (i_ExitOk (⟨a0_0, a0_1, a0_2, a0_3⟩ : GExit)))])
  | _ => none

noncomputable def E_i_ExitOk (N : Nat) (a0 : GExit) : Option Ans :=
  (bif (ieq a0.Kind 0) then (bif (ieq a0.Kind 0) then (bif (ieq a0.Page 0) then (bif (bif a0.Write then false else true) then (some [(.one (.b (ieq a0.N 0)))]) else (some [(.one (.b false))])) else (some [(.one (.b false))])) else (bif (ieq a0.Kind 1) then (bif (i_within_c a0.Page 0 3) then (bif (i_within a0.Page 0 3) then (some [(.one (.b (ieq a0.N 0)))]) else (some [(.one (.b false))])) else none) else (bif (ieq a0.Kind 2) then (bif (ieq a0.Kind 2) then (bif (i_within_c a0.N 0 99) then (bif (i_within a0.N 0 99) then (bif (ieq a0.Page 0) then (some [(.one (.b (bif a0.Write then false else true)))]) else (some [(.one (.b false))])) else (some [(.one (.b false))])) else none) else (some [(.one (.b false))])) else (bif (ieq a0.Kind 3) then (bif (i_within_c a0.N 0 99) then (bif (i_within a0.N 0 99) then (bif (ieq a0.Page 0) then (some [(.one (.b (bif a0.Write then false else true)))]) else (some [(.one (.b false))])) else (some [(.one (.b false))])) else none) else (some [(.one (.b false))]))))) else (bif (ieq a0.Kind 4) then (bif (ieq a0.Page 0) then (bif (bif a0.Write then false else true) then (some [(.one (.b (ieq a0.N 0)))]) else (some [(.one (.b false))])) else (some [(.one (.b false))])) else (bif (ieq a0.Kind 1) then (bif (i_within_c a0.Page 0 3) then (bif (i_within a0.Page 0 3) then (some [(.one (.b (ieq a0.N 0)))]) else (some [(.one (.b false))])) else none) else (bif (ieq a0.Kind 2) then (bif (ieq a0.Kind 2) then (bif (i_within_c a0.N 0 99) then (bif (i_within a0.N 0 99) then (bif (ieq a0.Page 0) then (some [(.one (.b (bif a0.Write then false else true)))]) else (some [(.one (.b false))])) else (some [(.one (.b false))])) else none) else (some [(.one (.b false))])) else (bif (ieq a0.Kind 3) then (bif (i_within_c a0.N 0 99) then (bif (i_within a0.N 0 99) then (bif (ieq a0.Page 0) then (some [(.one (.b (bif a0.Write then false else true)))]) else (some [(.one (.b false))])) else (some [(.one (.b false))])) else none) else (some [(.one (.b false))]))))))

theorem nf_i_ExitOk (N : Nat) (a0 : GExit) : evalFn (cfgQ (aget ctrN1) (aget mctC) (aget pct0) (aget tct0)) (tmsOf []) N 12 116 [.agg (exitC a0)] = E_i_ExitOk N a0 := by kernel_rfl

theorem law_i_ExitOk (a0 : GExit) (hb : AllB big [.agg (exitC a0)]) (hc : (i_ExitOk_c a0) = true) : ∃ N, E_i_ExitOk N a0 = some [.one (.b (i_ExitOk a0))] := by
  refine ⟨0, ?_⟩
  unfold E_i_ExitOk
  refine br (fun h0 => ?_) (fun h0 => ?_)
  · refine br (fun h1 => ?_) (fun h1 => ?_)
    · refine br (fun h2 => ?_) (fun h2 => ?_)
      · refine brN (fun h3 => ?_) (fun h3 => ?_)
        · first | rfl | (simp only [h0, h1, h2, h3, i_ExitOk, exitOk, cT, cF] <;> rfl) | (simp_all [Ty.cells, i_ExitOk, exitOk]; done)
        · first | rfl | (simp only [h0, h1, h2, h3, i_ExitOk, exitOk, cT, cF] <;> rfl) | (simp_all [Ty.cells, i_ExitOk, exitOk]; done)
      · first | rfl | (simp only [h0, h1, h2, i_ExitOk, exitOk, cT, cF] <;> rfl) | (simp_all [Ty.cells, i_ExitOk, exitOk]; done)
    · refine br (fun h2 => ?_) (fun h2 => ?_)
      · refine must rfl ?_
        refine br (fun h3 => ?_) (fun h3 => ?_)
        · first | rfl | (simp only [h0, h1, h2, h3, i_ExitOk, exitOk, cT, cF] <;> rfl) | (simp_all [Ty.cells, i_ExitOk, exitOk]; done)
        · first | rfl | (simp only [h0, h1, h2, h3, i_ExitOk, exitOk, cT, cF] <;> rfl) | (simp_all [Ty.cells, i_ExitOk, exitOk]; done)
      · refine br (fun h3 => ?_) (fun h3 => ?_)
        · refine br (fun h4 => ?_) (fun h4 => ?_)
          · refine must rfl ?_
            refine br (fun h5 => ?_) (fun h5 => ?_)
            · refine br (fun h6 => ?_) (fun h6 => ?_)
              · first | rfl | (simp only [h0, h1, h2, h3, h4, h5, h6, i_ExitOk, exitOk, cT, cF] <;> rfl) | (simp_all [Ty.cells, i_ExitOk, exitOk]; done)
              · first | rfl | (simp only [h0, h1, h2, h3, h4, h5, h6, i_ExitOk, exitOk, cT, cF] <;> rfl) | (simp_all [Ty.cells, i_ExitOk, exitOk]; done)
            · first | rfl | (simp only [h0, h1, h2, h3, h4, h5, i_ExitOk, exitOk, cT, cF] <;> rfl) | (simp_all [Ty.cells, i_ExitOk, exitOk]; done)
          · first | rfl | (simp only [h0, h1, h2, h3, h4, i_ExitOk, exitOk, cT, cF] <;> rfl) | (simp_all [Ty.cells, i_ExitOk, exitOk]; done)
        · refine br (fun h4 => ?_) (fun h4 => ?_)
          · refine must rfl ?_
            refine br (fun h5 => ?_) (fun h5 => ?_)
            · refine br (fun h6 => ?_) (fun h6 => ?_)
              · first | rfl | (simp only [h0, h1, h2, h3, h4, h5, h6, i_ExitOk, exitOk, cT, cF] <;> rfl) | (simp_all [Ty.cells, i_ExitOk, exitOk]; done)
              · first | rfl | (simp only [h0, h1, h2, h3, h4, h5, h6, i_ExitOk, exitOk, cT, cF] <;> rfl) | (simp_all [Ty.cells, i_ExitOk, exitOk]; done)
            · first | rfl | (simp only [h0, h1, h2, h3, h4, h5, i_ExitOk, exitOk, cT, cF] <;> rfl) | (simp_all [Ty.cells, i_ExitOk, exitOk]; done)
          · first | rfl | (simp only [h0, h1, h2, h3, h4, i_ExitOk, exitOk, cT, cF] <;> rfl) | (simp_all [Ty.cells, i_ExitOk, exitOk]; done)
  · refine br (fun h1 => ?_) (fun h1 => ?_)
    · refine br (fun h2 => ?_) (fun h2 => ?_)
      · refine brN (fun h3 => ?_) (fun h3 => ?_)
        · first | rfl | (simp only [h0, h1, h2, h3, i_ExitOk, exitOk, cT, cF] <;> rfl) | (simp_all [Ty.cells, i_ExitOk, exitOk]; done)
        · first | rfl | (simp only [h0, h1, h2, h3, i_ExitOk, exitOk, cT, cF] <;> rfl) | (simp_all [Ty.cells, i_ExitOk, exitOk]; done)
      · first | rfl | (simp only [h0, h1, h2, i_ExitOk, exitOk, cT, cF] <;> rfl) | (simp_all [Ty.cells, i_ExitOk, exitOk]; done)
    · refine br (fun h2 => ?_) (fun h2 => ?_)
      · refine must rfl ?_
        refine br (fun h3 => ?_) (fun h3 => ?_)
        · first | rfl | (simp only [h0, h1, h2, h3, i_ExitOk, exitOk, cT, cF] <;> rfl) | (simp_all [Ty.cells, i_ExitOk, exitOk]; done)
        · first | rfl | (simp only [h0, h1, h2, h3, i_ExitOk, exitOk, cT, cF] <;> rfl) | (simp_all [Ty.cells, i_ExitOk, exitOk]; done)
      · refine br (fun h3 => ?_) (fun h3 => ?_)
        · refine br (fun h4 => ?_) (fun h4 => ?_)
          · refine must rfl ?_
            refine br (fun h5 => ?_) (fun h5 => ?_)
            · refine br (fun h6 => ?_) (fun h6 => ?_)
              · first | rfl | (simp only [h0, h1, h2, h3, h4, h5, h6, i_ExitOk, exitOk, cT, cF] <;> rfl) | (simp_all [Ty.cells, i_ExitOk, exitOk]; done)
              · first | rfl | (simp only [h0, h1, h2, h3, h4, h5, h6, i_ExitOk, exitOk, cT, cF] <;> rfl) | (simp_all [Ty.cells, i_ExitOk, exitOk]; done)
            · first | rfl | (simp only [h0, h1, h2, h3, h4, h5, i_ExitOk, exitOk, cT, cF] <;> rfl) | (simp_all [Ty.cells, i_ExitOk, exitOk]; done)
          · first | rfl | (simp only [h0, h1, h2, h3, h4, i_ExitOk, exitOk, cT, cF] <;> rfl) | (simp_all [Ty.cells, i_ExitOk, exitOk]; done)
        · refine br (fun h4 => ?_) (fun h4 => ?_)
          · refine must rfl ?_
            refine br (fun h5 => ?_) (fun h5 => ?_)
            · refine br (fun h6 => ?_) (fun h6 => ?_)
              · first | rfl | (simp only [h0, h1, h2, h3, h4, h5, h6, i_ExitOk, exitOk, cT, cF] <;> rfl) | (simp_all [Ty.cells, i_ExitOk, exitOk]; done)
              · first | rfl | (simp only [h0, h1, h2, h3, h4, h5, h6, i_ExitOk, exitOk, cT, cF] <;> rfl) | (simp_all [Ty.cells, i_ExitOk, exitOk]; done)
            · first | rfl | (simp only [h0, h1, h2, h3, h4, h5, i_ExitOk, exitOk, cT, cF] <;> rfl) | (simp_all [Ty.cells, i_ExitOk, exitOk]; done)
          · first | rfl | (simp only [h0, h1, h2, h3, h4, i_ExitOk, exitOk, cT, cF] <;> rfl) | (simp_all [Ty.cells, i_ExitOk, exitOk]; done)
theorem holds_i_ExitOk : Holds Tryz.prog 116 run_i_ExitOk := by
  refine holds_of_eval (engQ_ok ctrN1_ok mctC_ok pct0_ok tct0_ok) (fn_ok (by kernel_rfl)) ?_
  intro avs rs hr h
  have hb := allB_of_rep hr
  unfold run_i_ExitOk at h
  split at h
  · rename_i a0_0 a0_1 a0_2 a0_3
    obtain ⟨hc, rfl⟩ := some_pair h
    obtain ⟨N, hN⟩ := law_i_ExitOk (⟨a0_0, a0_1, a0_2, a0_3⟩ : GExit) hb hc
    exact ⟨tmsOf [], N, 12, (nf_i_ExitOk N (⟨a0_0, a0_1, a0_2, a0_3⟩ : GExit)).trans hN⟩
  · cases h

def ctlFaults (c : Ctl) : List Int := (bif win c.Traps 0 3 then [] else [1]) ++ ((bif win c.Post 0 255 then [] else [2]) ++ ((bif ine c.Post 0 then (bif c.Open then [] else [3]) else []) ++ (bif ieq c.Traps 2 then (bif ine c.Post 0 then [4] else []) else [])))
@[simp] theorem ap_cons {α : Type} (x : α) (l m : List α) : ap (x :: l) m = x :: ap l m := rfl
@[simp, reducible] def s_CtlFaults_c (c : Ctl) : Bool := true
@[simp, reducible] def s_CtlFaults (c : Ctl) : List Int := ctlFaults c
noncomputable def run_s_CtlFaults : List AV → Option (Bool × List AV)
  | [.agg [.i .i64 a0_0, .i .i64 a0_1, .b a0_2]] => some ((s_CtlFaults_c (⟨a0_0, a0_1, a0_2⟩ : Ctl)), [.one (.s .int (s_CtlFaults (⟨a0_0, a0_1, a0_2⟩ : Ctl)))])
  | _ => none

noncomputable def E_s_CtlFaults (N : Nat) (a0 : Ctl) : Option Ans :=
  (bif (s_l01In_c a0.Traps 0 3) then (bif (bif (s_l01In a0.Traps 0 3) then false else true) then (bif (few (ln (ap [] [1]))) then (bif (s_l01In_c a0.Post 0 255) then (bif (bif (s_l01In a0.Post 0 255) then false else true) then (bif (few (ln (ap (ap [] [1]) [2]))) then (bif (ine a0.Post 0) then (bif (bif a0.Open then false else true) then (bif (few (ln (ap (ap (ap [] [1]) [2]) [3]))) then (bif (ieq a0.Traps 2) then (bif (ine a0.Post 0) then (bif (few (ln (ap (ap (ap (ap [] [1]) [2]) [3]) [4]))) then (some [(.one (.s .int (ap (ap (ap (ap [] [1]) [2]) [3]) [4])))]) else none) else (some [(.one (.s .int (ap (ap (ap [] [1]) [2]) [3])))])) else (some [(.one (.s .int (ap (ap (ap [] [1]) [2]) [3])))])) else none) else (bif (ieq a0.Traps 2) then (bif (ine a0.Post 0) then (bif (few (ln (ap (ap (ap [] [1]) [2]) [4]))) then (some [(.one (.s .int (ap (ap (ap [] [1]) [2]) [4])))]) else none) else (some [(.one (.s .int (ap (ap [] [1]) [2])))])) else (some [(.one (.s .int (ap (ap [] [1]) [2])))]))) else (bif (ieq a0.Traps 2) then (bif (ine a0.Post 0) then (bif (few (ln (ap (ap (ap [] [1]) [2]) [4]))) then (some [(.one (.s .int (ap (ap (ap [] [1]) [2]) [4])))]) else none) else (some [(.one (.s .int (ap (ap [] [1]) [2])))])) else (some [(.one (.s .int (ap (ap [] [1]) [2])))]))) else none) else (bif (ine a0.Post 0) then (bif (bif a0.Open then false else true) then (bif (few (ln (ap (ap [] [1]) [3]))) then (bif (ieq a0.Traps 2) then (bif (ine a0.Post 0) then (bif (few (ln (ap (ap (ap [] [1]) [3]) [4]))) then (some [(.one (.s .int (ap (ap (ap [] [1]) [3]) [4])))]) else none) else (some [(.one (.s .int (ap (ap [] [1]) [3])))])) else (some [(.one (.s .int (ap (ap [] [1]) [3])))])) else none) else (bif (ieq a0.Traps 2) then (bif (ine a0.Post 0) then (bif (few (ln (ap (ap [] [1]) [4]))) then (some [(.one (.s .int (ap (ap [] [1]) [4])))]) else none) else (some [(.one (.s .int (ap [] [1])))])) else (some [(.one (.s .int (ap [] [1])))]))) else (bif (ieq a0.Traps 2) then (bif (ine a0.Post 0) then (bif (few (ln (ap (ap [] [1]) [4]))) then (some [(.one (.s .int (ap (ap [] [1]) [4])))]) else none) else (some [(.one (.s .int (ap [] [1])))])) else (some [(.one (.s .int (ap [] [1])))])))) else none) else none) else (bif (s_l01In_c a0.Post 0 255) then (bif (bif (s_l01In a0.Post 0 255) then false else true) then (bif (few (ln (ap [] [2]))) then (bif (ine a0.Post 0) then (bif (bif a0.Open then false else true) then (bif (few (ln (ap (ap [] [2]) [3]))) then (bif (ieq a0.Traps 2) then (bif (ine a0.Post 0) then (bif (few (ln (ap (ap (ap [] [2]) [3]) [4]))) then (some [(.one (.s .int (ap (ap (ap [] [2]) [3]) [4])))]) else none) else (some [(.one (.s .int (ap (ap [] [2]) [3])))])) else (some [(.one (.s .int (ap (ap [] [2]) [3])))])) else none) else (bif (ieq a0.Traps 2) then (bif (ine a0.Post 0) then (bif (few (ln (ap (ap [] [2]) [4]))) then (some [(.one (.s .int (ap (ap [] [2]) [4])))]) else none) else (some [(.one (.s .int (ap [] [2])))])) else (some [(.one (.s .int (ap [] [2])))]))) else (bif (ieq a0.Traps 2) then (bif (ine a0.Post 0) then (bif (few (ln (ap (ap [] [2]) [4]))) then (some [(.one (.s .int (ap (ap [] [2]) [4])))]) else none) else (some [(.one (.s .int (ap [] [2])))])) else (some [(.one (.s .int (ap [] [2])))]))) else none) else (bif (ine a0.Post 0) then (bif (bif a0.Open then false else true) then (bif (few (ln (ap [] [3]))) then (bif (ieq a0.Traps 2) then (bif (ine a0.Post 0) then (bif (few (ln (ap (ap [] [3]) [4]))) then (some [(.one (.s .int (ap (ap [] [3]) [4])))]) else none) else (some [(.one (.s .int (ap [] [3])))])) else (some [(.one (.s .int (ap [] [3])))])) else none) else (bif (ieq a0.Traps 2) then (bif (ine a0.Post 0) then (bif (few (ln (ap [] [4]))) then (some [(.one (.s .int (ap [] [4])))]) else none) else (some [(.one (.s .int []))])) else (some [(.one (.s .int []))]))) else (bif (ieq a0.Traps 2) then (bif (ine a0.Post 0) then (bif (few (ln (ap [] [4]))) then (some [(.one (.s .int (ap [] [4])))]) else none) else (some [(.one (.s .int []))])) else (some [(.one (.s .int []))])))) else none)) else none)

theorem nf_s_CtlFaults (N : Nat) (a0 : Ctl) : evalFn (cfgQ (aget ctrN1) (aget mctC) (aget pct0) (aget tct0)) (tmsOf []) N 12 142 [.agg (ctlC a0)] = E_s_CtlFaults N a0 := by kernel_rfl

theorem law_s_CtlFaults (a0 : Ctl) (hb : AllB big [.agg (ctlC a0)]) (hc : (s_CtlFaults_c a0) = true) : ∃ N, E_s_CtlFaults N a0 = some [.one (.s .int (s_CtlFaults a0))] := by
  refine ⟨0, ?_⟩
  unfold E_s_CtlFaults
  refine must rfl ?_
  refine brN (fun h0 => ?_) (fun h0 => ?_)
  · refine must (by first | assumption | (simp_all <;> omega)) ?_
    refine must rfl ?_
    refine brN (fun h1 => ?_) (fun h1 => ?_)
    · refine must (by first | assumption | (simp_all <;> omega)) ?_
      refine br (fun h2 => ?_) (fun h2 => ?_)
      · refine brN (fun h3 => ?_) (fun h3 => ?_)
        · refine must (by first | assumption | (simp_all <;> omega)) ?_
          refine br (fun h4 => ?_) (fun h4 => ?_)
          · refine br (fun h5 => ?_) (fun h5 => ?_)
            · refine must (by first | assumption | (simp_all <;> omega)) ?_
              first | rfl | (simp only [h0, h1, h2, h3, h4, h5, s_CtlFaults, ctlFaults, cT, cF] <;> rfl) | (simp_all [Ty.cells, s_CtlFaults, ctlFaults]; done)
            · first | rfl | (simp only [h0, h1, h2, h3, h4, h5, s_CtlFaults, ctlFaults, cT, cF] <;> rfl) | (simp_all [Ty.cells, s_CtlFaults, ctlFaults]; done)
          · first | rfl | (simp only [h0, h1, h2, h3, h4, s_CtlFaults, ctlFaults, cT, cF] <;> rfl) | (simp_all [Ty.cells, s_CtlFaults, ctlFaults]; done)
        · refine br (fun h4 => ?_) (fun h4 => ?_)
          · refine br (fun h5 => ?_) (fun h5 => ?_)
            · refine must (by first | assumption | (simp_all <;> omega)) ?_
              first | rfl | (simp only [h0, h1, h2, h3, h4, h5, s_CtlFaults, ctlFaults, cT, cF] <;> rfl) | (simp_all [Ty.cells, s_CtlFaults, ctlFaults]; done)
            · first | rfl | (simp only [h0, h1, h2, h3, h4, h5, s_CtlFaults, ctlFaults, cT, cF] <;> rfl) | (simp_all [Ty.cells, s_CtlFaults, ctlFaults]; done)
          · first | rfl | (simp only [h0, h1, h2, h3, h4, s_CtlFaults, ctlFaults, cT, cF] <;> rfl) | (simp_all [Ty.cells, s_CtlFaults, ctlFaults]; done)
      · refine br (fun h3 => ?_) (fun h3 => ?_)
        · refine br (fun h4 => ?_) (fun h4 => ?_)
          · refine must (by first | assumption | (simp_all <;> omega)) ?_
            first | rfl | (simp only [h0, h1, h2, h3, h4, s_CtlFaults, ctlFaults, cT, cF] <;> rfl) | (simp_all [Ty.cells, s_CtlFaults, ctlFaults]; done)
          · first | rfl | (simp only [h0, h1, h2, h3, h4, s_CtlFaults, ctlFaults, cT, cF] <;> rfl) | (simp_all [Ty.cells, s_CtlFaults, ctlFaults]; done)
        · first | rfl | (simp only [h0, h1, h2, h3, s_CtlFaults, ctlFaults, cT, cF] <;> rfl) | (simp_all [Ty.cells, s_CtlFaults, ctlFaults]; done)
    · refine br (fun h2 => ?_) (fun h2 => ?_)
      · refine brN (fun h3 => ?_) (fun h3 => ?_)
        · refine must (by first | assumption | (simp_all <;> omega)) ?_
          refine br (fun h4 => ?_) (fun h4 => ?_)
          · refine br (fun h5 => ?_) (fun h5 => ?_)
            · refine must (by first | assumption | (simp_all <;> omega)) ?_
              first | rfl | (simp only [h0, h1, h2, h3, h4, h5, s_CtlFaults, ctlFaults, cT, cF] <;> rfl) | (simp_all [Ty.cells, s_CtlFaults, ctlFaults]; done)
            · first | rfl | (simp only [h0, h1, h2, h3, h4, h5, s_CtlFaults, ctlFaults, cT, cF] <;> rfl) | (simp_all [Ty.cells, s_CtlFaults, ctlFaults]; done)
          · first | rfl | (simp only [h0, h1, h2, h3, h4, s_CtlFaults, ctlFaults, cT, cF] <;> rfl) | (simp_all [Ty.cells, s_CtlFaults, ctlFaults]; done)
        · refine br (fun h4 => ?_) (fun h4 => ?_)
          · refine br (fun h5 => ?_) (fun h5 => ?_)
            · refine must (by first | assumption | (simp_all <;> omega)) ?_
              first | rfl | (simp only [h0, h1, h2, h3, h4, h5, s_CtlFaults, ctlFaults, cT, cF] <;> rfl) | (simp_all [Ty.cells, s_CtlFaults, ctlFaults]; done)
            · first | rfl | (simp only [h0, h1, h2, h3, h4, h5, s_CtlFaults, ctlFaults, cT, cF] <;> rfl) | (simp_all [Ty.cells, s_CtlFaults, ctlFaults]; done)
          · first | rfl | (simp only [h0, h1, h2, h3, h4, s_CtlFaults, ctlFaults, cT, cF] <;> rfl) | (simp_all [Ty.cells, s_CtlFaults, ctlFaults]; done)
      · refine br (fun h3 => ?_) (fun h3 => ?_)
        · refine br (fun h4 => ?_) (fun h4 => ?_)
          · refine must (by first | assumption | (simp_all <;> omega)) ?_
            first | rfl | (simp only [h0, h1, h2, h3, h4, s_CtlFaults, ctlFaults, cT, cF] <;> rfl) | (simp_all [Ty.cells, s_CtlFaults, ctlFaults]; done)
          · first | rfl | (simp only [h0, h1, h2, h3, h4, s_CtlFaults, ctlFaults, cT, cF] <;> rfl) | (simp_all [Ty.cells, s_CtlFaults, ctlFaults]; done)
        · first | rfl | (simp only [h0, h1, h2, h3, s_CtlFaults, ctlFaults, cT, cF] <;> rfl) | (simp_all [Ty.cells, s_CtlFaults, ctlFaults]; done)
  · refine must rfl ?_
    refine brN (fun h1 => ?_) (fun h1 => ?_)
    · refine must (by first | assumption | (simp_all <;> omega)) ?_
      refine br (fun h2 => ?_) (fun h2 => ?_)
      · refine brN (fun h3 => ?_) (fun h3 => ?_)
        · refine must (by first | assumption | (simp_all <;> omega)) ?_
          refine br (fun h4 => ?_) (fun h4 => ?_)
          · refine br (fun h5 => ?_) (fun h5 => ?_)
            · refine must (by first | assumption | (simp_all <;> omega)) ?_
              first | rfl | (simp only [h0, h1, h2, h3, h4, h5, s_CtlFaults, ctlFaults, cT, cF] <;> rfl) | (simp_all [Ty.cells, s_CtlFaults, ctlFaults]; done)
            · first | rfl | (simp only [h0, h1, h2, h3, h4, h5, s_CtlFaults, ctlFaults, cT, cF] <;> rfl) | (simp_all [Ty.cells, s_CtlFaults, ctlFaults]; done)
          · first | rfl | (simp only [h0, h1, h2, h3, h4, s_CtlFaults, ctlFaults, cT, cF] <;> rfl) | (simp_all [Ty.cells, s_CtlFaults, ctlFaults]; done)
        · refine br (fun h4 => ?_) (fun h4 => ?_)
          · refine br (fun h5 => ?_) (fun h5 => ?_)
            · refine must (by first | assumption | (simp_all <;> omega)) ?_
              first | rfl | (simp only [h0, h1, h2, h3, h4, h5, s_CtlFaults, ctlFaults, cT, cF] <;> rfl) | (simp_all [Ty.cells, s_CtlFaults, ctlFaults]; done)
            · first | rfl | (simp only [h0, h1, h2, h3, h4, h5, s_CtlFaults, ctlFaults, cT, cF] <;> rfl) | (simp_all [Ty.cells, s_CtlFaults, ctlFaults]; done)
          · first | rfl | (simp only [h0, h1, h2, h3, h4, s_CtlFaults, ctlFaults, cT, cF] <;> rfl) | (simp_all [Ty.cells, s_CtlFaults, ctlFaults]; done)
      · refine br (fun h3 => ?_) (fun h3 => ?_)
        · refine br (fun h4 => ?_) (fun h4 => ?_)
          · refine must (by first | assumption | (simp_all <;> omega)) ?_
            first | rfl | (simp only [h0, h1, h2, h3, h4, s_CtlFaults, ctlFaults, cT, cF] <;> rfl) | (simp_all [Ty.cells, s_CtlFaults, ctlFaults]; done)
          · first | rfl | (simp only [h0, h1, h2, h3, h4, s_CtlFaults, ctlFaults, cT, cF] <;> rfl) | (simp_all [Ty.cells, s_CtlFaults, ctlFaults]; done)
        · first | rfl | (simp only [h0, h1, h2, h3, s_CtlFaults, ctlFaults, cT, cF] <;> rfl) | (simp_all [Ty.cells, s_CtlFaults, ctlFaults]; done)
    · refine br (fun h2 => ?_) (fun h2 => ?_)
      · refine brN (fun h3 => ?_) (fun h3 => ?_)
        · refine must (by first | assumption | (simp_all <;> omega)) ?_
          refine br (fun h4 => ?_) (fun h4 => ?_)
          · refine br (fun h5 => ?_) (fun h5 => ?_)
            · refine must (by first | assumption | (simp_all <;> omega)) ?_
              first | rfl | (simp only [h0, h1, h2, h3, h4, h5, s_CtlFaults, ctlFaults, cT, cF] <;> rfl) | (simp_all [Ty.cells, s_CtlFaults, ctlFaults]; done)
            · first | rfl | (simp only [h0, h1, h2, h3, h4, h5, s_CtlFaults, ctlFaults, cT, cF] <;> rfl) | (simp_all [Ty.cells, s_CtlFaults, ctlFaults]; done)
          · first | rfl | (simp only [h0, h1, h2, h3, h4, s_CtlFaults, ctlFaults, cT, cF] <;> rfl) | (simp_all [Ty.cells, s_CtlFaults, ctlFaults]; done)
        · refine br (fun h4 => ?_) (fun h4 => ?_)
          · refine br (fun h5 => ?_) (fun h5 => ?_)
            · refine must (by first | assumption | (simp_all <;> omega)) ?_
              first | rfl | (simp only [h0, h1, h2, h3, h4, h5, s_CtlFaults, ctlFaults, cT, cF] <;> rfl) | (simp_all [Ty.cells, s_CtlFaults, ctlFaults]; done)
            · first | rfl | (simp only [h0, h1, h2, h3, h4, h5, s_CtlFaults, ctlFaults, cT, cF] <;> rfl) | (simp_all [Ty.cells, s_CtlFaults, ctlFaults]; done)
          · first | rfl | (simp only [h0, h1, h2, h3, h4, s_CtlFaults, ctlFaults, cT, cF] <;> rfl) | (simp_all [Ty.cells, s_CtlFaults, ctlFaults]; done)
      · refine br (fun h3 => ?_) (fun h3 => ?_)
        · refine br (fun h4 => ?_) (fun h4 => ?_)
          · refine must (by first | assumption | (simp_all <;> omega)) ?_
            first | rfl | (simp only [h0, h1, h2, h3, h4, s_CtlFaults, ctlFaults, cT, cF] <;> rfl) | (simp_all [Ty.cells, s_CtlFaults, ctlFaults]; done)
          · first | rfl | (simp only [h0, h1, h2, h3, h4, s_CtlFaults, ctlFaults, cT, cF] <;> rfl) | (simp_all [Ty.cells, s_CtlFaults, ctlFaults]; done)
        · first | rfl | (simp only [h0, h1, h2, h3, s_CtlFaults, ctlFaults, cT, cF] <;> rfl) | (simp_all [Ty.cells, s_CtlFaults, ctlFaults]; done)
theorem holds_s_CtlFaults : Holds Tryz.prog 142 run_s_CtlFaults := by
  refine holds_of_eval (engQ_ok ctrN1_ok mctC_ok pct0_ok tct0_ok) (fn_ok (by kernel_rfl)) ?_
  intro avs rs hr h
  have hb := allB_of_rep hr
  unfold run_s_CtlFaults at h
  split at h
  · rename_i a0_0 a0_1 a0_2
    obtain ⟨hc, rfl⟩ := some_pair h
    obtain ⟨N, hN⟩ := law_s_CtlFaults (⟨a0_0, a0_1, a0_2⟩ : Ctl) hb hc
    exact ⟨tmsOf [], N, 12, (nf_s_CtlFaults N (⟨a0_0, a0_1, a0_2⟩ : Ctl)).trans hN⟩
  · cases h

@[simp, reducible] def i_CtlFaults_c (c : Ctl) : Bool := true
@[simp, reducible] def i_CtlFaults (c : Ctl) : List Int := ctlFaults c
noncomputable def run_i_CtlFaults : List AV → Option (Bool × List AV)
  | [.agg [.i .i64 a0_0, .i .i64 a0_1, .b a0_2]] => some ((i_CtlFaults_c (⟨a0_0, a0_1, a0_2⟩ : Ctl)), [.one (.s .int (i_CtlFaults (⟨a0_0, a0_1, a0_2⟩ : Ctl)))])
  | _ => none

noncomputable def E_i_CtlFaults (N : Nat) (a0 : Ctl) : Option Ans :=
  (bif (i_within_c a0.Traps 0 3) then (bif (bif (i_within a0.Traps 0 3) then false else true) then (bif (few (ln (ap [] [1]))) then (bif (i_within_c a0.Post 0 255) then (bif (bif (i_within a0.Post 0 255) then false else true) then (bif (few (ln (ap (ap [] [1]) [2]))) then (bif (ine a0.Post 0) then (bif (bif a0.Open then false else true) then (bif (few (ln (ap (ap (ap [] [1]) [2]) [3]))) then (bif (ieq a0.Traps 2) then (bif (ine a0.Post 0) then (bif (few (ln (ap (ap (ap (ap [] [1]) [2]) [3]) [4]))) then (some [(.one (.s .int (ap (ap (ap (ap [] [1]) [2]) [3]) [4])))]) else none) else (some [(.one (.s .int (ap (ap (ap [] [1]) [2]) [3])))])) else (some [(.one (.s .int (ap (ap (ap [] [1]) [2]) [3])))])) else none) else (bif (ieq a0.Traps 2) then (bif (ine a0.Post 0) then (bif (few (ln (ap (ap (ap [] [1]) [2]) [4]))) then (some [(.one (.s .int (ap (ap (ap [] [1]) [2]) [4])))]) else none) else (some [(.one (.s .int (ap (ap [] [1]) [2])))])) else (some [(.one (.s .int (ap (ap [] [1]) [2])))]))) else (bif (ieq a0.Traps 2) then (bif (ine a0.Post 0) then (bif (few (ln (ap (ap (ap [] [1]) [2]) [4]))) then (some [(.one (.s .int (ap (ap (ap [] [1]) [2]) [4])))]) else none) else (some [(.one (.s .int (ap (ap [] [1]) [2])))])) else (some [(.one (.s .int (ap (ap [] [1]) [2])))]))) else none) else (bif (ine a0.Post 0) then (bif (bif a0.Open then false else true) then (bif (few (ln (ap (ap [] [1]) [3]))) then (bif (ieq a0.Traps 2) then (bif (ine a0.Post 0) then (bif (few (ln (ap (ap (ap [] [1]) [3]) [4]))) then (some [(.one (.s .int (ap (ap (ap [] [1]) [3]) [4])))]) else none) else (some [(.one (.s .int (ap (ap [] [1]) [3])))])) else (some [(.one (.s .int (ap (ap [] [1]) [3])))])) else none) else (bif (ieq a0.Traps 2) then (bif (ine a0.Post 0) then (bif (few (ln (ap (ap [] [1]) [4]))) then (some [(.one (.s .int (ap (ap [] [1]) [4])))]) else none) else (some [(.one (.s .int (ap [] [1])))])) else (some [(.one (.s .int (ap [] [1])))]))) else (bif (ieq a0.Traps 2) then (bif (ine a0.Post 0) then (bif (few (ln (ap (ap [] [1]) [4]))) then (some [(.one (.s .int (ap (ap [] [1]) [4])))]) else none) else (some [(.one (.s .int (ap [] [1])))])) else (some [(.one (.s .int (ap [] [1])))])))) else none) else none) else (bif (i_within_c a0.Post 0 255) then (bif (bif (i_within a0.Post 0 255) then false else true) then (bif (few (ln (ap [] [2]))) then (bif (ine a0.Post 0) then (bif (bif a0.Open then false else true) then (bif (few (ln (ap (ap [] [2]) [3]))) then (bif (ieq a0.Traps 2) then (bif (ine a0.Post 0) then (bif (few (ln (ap (ap (ap [] [2]) [3]) [4]))) then (some [(.one (.s .int (ap (ap (ap [] [2]) [3]) [4])))]) else none) else (some [(.one (.s .int (ap (ap [] [2]) [3])))])) else (some [(.one (.s .int (ap (ap [] [2]) [3])))])) else none) else (bif (ieq a0.Traps 2) then (bif (ine a0.Post 0) then (bif (few (ln (ap (ap [] [2]) [4]))) then (some [(.one (.s .int (ap (ap [] [2]) [4])))]) else none) else (some [(.one (.s .int (ap [] [2])))])) else (some [(.one (.s .int (ap [] [2])))]))) else (bif (ieq a0.Traps 2) then (bif (ine a0.Post 0) then (bif (few (ln (ap (ap [] [2]) [4]))) then (some [(.one (.s .int (ap (ap [] [2]) [4])))]) else none) else (some [(.one (.s .int (ap [] [2])))])) else (some [(.one (.s .int (ap [] [2])))]))) else none) else (bif (ine a0.Post 0) then (bif (bif a0.Open then false else true) then (bif (few (ln (ap [] [3]))) then (bif (ieq a0.Traps 2) then (bif (ine a0.Post 0) then (bif (few (ln (ap (ap [] [3]) [4]))) then (some [(.one (.s .int (ap (ap [] [3]) [4])))]) else none) else (some [(.one (.s .int (ap [] [3])))])) else (some [(.one (.s .int (ap [] [3])))])) else none) else (bif (ieq a0.Traps 2) then (bif (ine a0.Post 0) then (bif (few (ln (ap [] [4]))) then (some [(.one (.s .int (ap [] [4])))]) else none) else (some [(.one (.s .int []))])) else (some [(.one (.s .int []))]))) else (bif (ieq a0.Traps 2) then (bif (ine a0.Post 0) then (bif (few (ln (ap [] [4]))) then (some [(.one (.s .int (ap [] [4])))]) else none) else (some [(.one (.s .int []))])) else (some [(.one (.s .int []))])))) else none)) else none)

theorem nf_i_CtlFaults (N : Nat) (a0 : Ctl) : evalFn (cfgQ (aget ctrN1) (aget mctC) (aget pct0) (aget tct0)) (tmsOf []) N 12 137 [.agg (ctlC a0)] = E_i_CtlFaults N a0 := by kernel_rfl

theorem law_i_CtlFaults (a0 : Ctl) (hb : AllB big [.agg (ctlC a0)]) (hc : (i_CtlFaults_c a0) = true) : ∃ N, E_i_CtlFaults N a0 = some [.one (.s .int (i_CtlFaults a0))] := by
  refine ⟨0, ?_⟩
  unfold E_i_CtlFaults
  refine must rfl ?_
  refine brN (fun h0 => ?_) (fun h0 => ?_)
  · refine must (by first | assumption | (simp_all <;> omega)) ?_
    refine must rfl ?_
    refine brN (fun h1 => ?_) (fun h1 => ?_)
    · refine must (by first | assumption | (simp_all <;> omega)) ?_
      refine br (fun h2 => ?_) (fun h2 => ?_)
      · refine brN (fun h3 => ?_) (fun h3 => ?_)
        · refine must (by first | assumption | (simp_all <;> omega)) ?_
          refine br (fun h4 => ?_) (fun h4 => ?_)
          · refine br (fun h5 => ?_) (fun h5 => ?_)
            · refine must (by first | assumption | (simp_all <;> omega)) ?_
              first | rfl | (simp only [h0, h1, h2, h3, h4, h5, i_CtlFaults, ctlFaults, cT, cF] <;> rfl) | (simp_all [Ty.cells, i_CtlFaults, ctlFaults]; done)
            · first | rfl | (simp only [h0, h1, h2, h3, h4, h5, i_CtlFaults, ctlFaults, cT, cF] <;> rfl) | (simp_all [Ty.cells, i_CtlFaults, ctlFaults]; done)
          · first | rfl | (simp only [h0, h1, h2, h3, h4, i_CtlFaults, ctlFaults, cT, cF] <;> rfl) | (simp_all [Ty.cells, i_CtlFaults, ctlFaults]; done)
        · refine br (fun h4 => ?_) (fun h4 => ?_)
          · refine br (fun h5 => ?_) (fun h5 => ?_)
            · refine must (by first | assumption | (simp_all <;> omega)) ?_
              first | rfl | (simp only [h0, h1, h2, h3, h4, h5, i_CtlFaults, ctlFaults, cT, cF] <;> rfl) | (simp_all [Ty.cells, i_CtlFaults, ctlFaults]; done)
            · first | rfl | (simp only [h0, h1, h2, h3, h4, h5, i_CtlFaults, ctlFaults, cT, cF] <;> rfl) | (simp_all [Ty.cells, i_CtlFaults, ctlFaults]; done)
          · first | rfl | (simp only [h0, h1, h2, h3, h4, i_CtlFaults, ctlFaults, cT, cF] <;> rfl) | (simp_all [Ty.cells, i_CtlFaults, ctlFaults]; done)
      · refine br (fun h3 => ?_) (fun h3 => ?_)
        · refine br (fun h4 => ?_) (fun h4 => ?_)
          · refine must (by first | assumption | (simp_all <;> omega)) ?_
            first | rfl | (simp only [h0, h1, h2, h3, h4, i_CtlFaults, ctlFaults, cT, cF] <;> rfl) | (simp_all [Ty.cells, i_CtlFaults, ctlFaults]; done)
          · first | rfl | (simp only [h0, h1, h2, h3, h4, i_CtlFaults, ctlFaults, cT, cF] <;> rfl) | (simp_all [Ty.cells, i_CtlFaults, ctlFaults]; done)
        · first | rfl | (simp only [h0, h1, h2, h3, i_CtlFaults, ctlFaults, cT, cF] <;> rfl) | (simp_all [Ty.cells, i_CtlFaults, ctlFaults]; done)
    · refine br (fun h2 => ?_) (fun h2 => ?_)
      · refine brN (fun h3 => ?_) (fun h3 => ?_)
        · refine must (by first | assumption | (simp_all <;> omega)) ?_
          refine br (fun h4 => ?_) (fun h4 => ?_)
          · refine br (fun h5 => ?_) (fun h5 => ?_)
            · refine must (by first | assumption | (simp_all <;> omega)) ?_
              first | rfl | (simp only [h0, h1, h2, h3, h4, h5, i_CtlFaults, ctlFaults, cT, cF] <;> rfl) | (simp_all [Ty.cells, i_CtlFaults, ctlFaults]; done)
            · first | rfl | (simp only [h0, h1, h2, h3, h4, h5, i_CtlFaults, ctlFaults, cT, cF] <;> rfl) | (simp_all [Ty.cells, i_CtlFaults, ctlFaults]; done)
          · first | rfl | (simp only [h0, h1, h2, h3, h4, i_CtlFaults, ctlFaults, cT, cF] <;> rfl) | (simp_all [Ty.cells, i_CtlFaults, ctlFaults]; done)
        · refine br (fun h4 => ?_) (fun h4 => ?_)
          · refine br (fun h5 => ?_) (fun h5 => ?_)
            · refine must (by first | assumption | (simp_all <;> omega)) ?_
              first | rfl | (simp only [h0, h1, h2, h3, h4, h5, i_CtlFaults, ctlFaults, cT, cF] <;> rfl) | (simp_all [Ty.cells, i_CtlFaults, ctlFaults]; done)
            · first | rfl | (simp only [h0, h1, h2, h3, h4, h5, i_CtlFaults, ctlFaults, cT, cF] <;> rfl) | (simp_all [Ty.cells, i_CtlFaults, ctlFaults]; done)
          · first | rfl | (simp only [h0, h1, h2, h3, h4, i_CtlFaults, ctlFaults, cT, cF] <;> rfl) | (simp_all [Ty.cells, i_CtlFaults, ctlFaults]; done)
      · refine br (fun h3 => ?_) (fun h3 => ?_)
        · refine br (fun h4 => ?_) (fun h4 => ?_)
          · refine must (by first | assumption | (simp_all <;> omega)) ?_
            first | rfl | (simp only [h0, h1, h2, h3, h4, i_CtlFaults, ctlFaults, cT, cF] <;> rfl) | (simp_all [Ty.cells, i_CtlFaults, ctlFaults]; done)
          · first | rfl | (simp only [h0, h1, h2, h3, h4, i_CtlFaults, ctlFaults, cT, cF] <;> rfl) | (simp_all [Ty.cells, i_CtlFaults, ctlFaults]; done)
        · first | rfl | (simp only [h0, h1, h2, h3, i_CtlFaults, ctlFaults, cT, cF] <;> rfl) | (simp_all [Ty.cells, i_CtlFaults, ctlFaults]; done)
  · refine must rfl ?_
    refine brN (fun h1 => ?_) (fun h1 => ?_)
    · refine must (by first | assumption | (simp_all <;> omega)) ?_
      refine br (fun h2 => ?_) (fun h2 => ?_)
      · refine brN (fun h3 => ?_) (fun h3 => ?_)
        · refine must (by first | assumption | (simp_all <;> omega)) ?_
          refine br (fun h4 => ?_) (fun h4 => ?_)
          · refine br (fun h5 => ?_) (fun h5 => ?_)
            · refine must (by first | assumption | (simp_all <;> omega)) ?_
              first | rfl | (simp only [h0, h1, h2, h3, h4, h5, i_CtlFaults, ctlFaults, cT, cF] <;> rfl) | (simp_all [Ty.cells, i_CtlFaults, ctlFaults]; done)
            · first | rfl | (simp only [h0, h1, h2, h3, h4, h5, i_CtlFaults, ctlFaults, cT, cF] <;> rfl) | (simp_all [Ty.cells, i_CtlFaults, ctlFaults]; done)
          · first | rfl | (simp only [h0, h1, h2, h3, h4, i_CtlFaults, ctlFaults, cT, cF] <;> rfl) | (simp_all [Ty.cells, i_CtlFaults, ctlFaults]; done)
        · refine br (fun h4 => ?_) (fun h4 => ?_)
          · refine br (fun h5 => ?_) (fun h5 => ?_)
            · refine must (by first | assumption | (simp_all <;> omega)) ?_
              first | rfl | (simp only [h0, h1, h2, h3, h4, h5, i_CtlFaults, ctlFaults, cT, cF] <;> rfl) | (simp_all [Ty.cells, i_CtlFaults, ctlFaults]; done)
            · first | rfl | (simp only [h0, h1, h2, h3, h4, h5, i_CtlFaults, ctlFaults, cT, cF] <;> rfl) | (simp_all [Ty.cells, i_CtlFaults, ctlFaults]; done)
          · first | rfl | (simp only [h0, h1, h2, h3, h4, i_CtlFaults, ctlFaults, cT, cF] <;> rfl) | (simp_all [Ty.cells, i_CtlFaults, ctlFaults]; done)
      · refine br (fun h3 => ?_) (fun h3 => ?_)
        · refine br (fun h4 => ?_) (fun h4 => ?_)
          · refine must (by first | assumption | (simp_all <;> omega)) ?_
            first | rfl | (simp only [h0, h1, h2, h3, h4, i_CtlFaults, ctlFaults, cT, cF] <;> rfl) | (simp_all [Ty.cells, i_CtlFaults, ctlFaults]; done)
          · first | rfl | (simp only [h0, h1, h2, h3, h4, i_CtlFaults, ctlFaults, cT, cF] <;> rfl) | (simp_all [Ty.cells, i_CtlFaults, ctlFaults]; done)
        · first | rfl | (simp only [h0, h1, h2, h3, i_CtlFaults, ctlFaults, cT, cF] <;> rfl) | (simp_all [Ty.cells, i_CtlFaults, ctlFaults]; done)
    · refine br (fun h2 => ?_) (fun h2 => ?_)
      · refine brN (fun h3 => ?_) (fun h3 => ?_)
        · refine must (by first | assumption | (simp_all <;> omega)) ?_
          refine br (fun h4 => ?_) (fun h4 => ?_)
          · refine br (fun h5 => ?_) (fun h5 => ?_)
            · refine must (by first | assumption | (simp_all <;> omega)) ?_
              first | rfl | (simp only [h0, h1, h2, h3, h4, h5, i_CtlFaults, ctlFaults, cT, cF] <;> rfl) | (simp_all [Ty.cells, i_CtlFaults, ctlFaults]; done)
            · first | rfl | (simp only [h0, h1, h2, h3, h4, h5, i_CtlFaults, ctlFaults, cT, cF] <;> rfl) | (simp_all [Ty.cells, i_CtlFaults, ctlFaults]; done)
          · first | rfl | (simp only [h0, h1, h2, h3, h4, i_CtlFaults, ctlFaults, cT, cF] <;> rfl) | (simp_all [Ty.cells, i_CtlFaults, ctlFaults]; done)
        · refine br (fun h4 => ?_) (fun h4 => ?_)
          · refine br (fun h5 => ?_) (fun h5 => ?_)
            · refine must (by first | assumption | (simp_all <;> omega)) ?_
              first | rfl | (simp only [h0, h1, h2, h3, h4, h5, i_CtlFaults, ctlFaults, cT, cF] <;> rfl) | (simp_all [Ty.cells, i_CtlFaults, ctlFaults]; done)
            · first | rfl | (simp only [h0, h1, h2, h3, h4, h5, i_CtlFaults, ctlFaults, cT, cF] <;> rfl) | (simp_all [Ty.cells, i_CtlFaults, ctlFaults]; done)
          · first | rfl | (simp only [h0, h1, h2, h3, h4, i_CtlFaults, ctlFaults, cT, cF] <;> rfl) | (simp_all [Ty.cells, i_CtlFaults, ctlFaults]; done)
      · refine br (fun h3 => ?_) (fun h3 => ?_)
        · refine br (fun h4 => ?_) (fun h4 => ?_)
          · refine must (by first | assumption | (simp_all <;> omega)) ?_
            first | rfl | (simp only [h0, h1, h2, h3, h4, i_CtlFaults, ctlFaults, cT, cF] <;> rfl) | (simp_all [Ty.cells, i_CtlFaults, ctlFaults]; done)
          · first | rfl | (simp only [h0, h1, h2, h3, h4, i_CtlFaults, ctlFaults, cT, cF] <;> rfl) | (simp_all [Ty.cells, i_CtlFaults, ctlFaults]; done)
        · first | rfl | (simp only [h0, h1, h2, h3, i_CtlFaults, ctlFaults, cT, cF] <;> rfl) | (simp_all [Ty.cells, i_CtlFaults, ctlFaults]; done)
theorem holds_i_CtlFaults : Holds Tryz.prog 137 run_i_CtlFaults := by
  refine holds_of_eval (engQ_ok ctrN1_ok mctC_ok pct0_ok tct0_ok) (fn_ok (by kernel_rfl)) ?_
  intro avs rs hr h
  have hb := allB_of_rep hr
  unfold run_i_CtlFaults at h
  split at h
  · rename_i a0_0 a0_1 a0_2
    obtain ⟨hc, rfl⟩ := some_pair h
    obtain ⟨N, hN⟩ := law_i_CtlFaults (⟨a0_0, a0_1, a0_2⟩ : Ctl) hb hc
    exact ⟨tmsOf [], N, 12, (nf_i_CtlFaults N (⟨a0_0, a0_1, a0_2⟩ : Ctl)).trans hN⟩
  · cases h

def len8tab : ByteArray := ⟨⟨[0, 1, 2, 2, 3, 3, 3, 3, 4, 4, 4, 4, 4, 4, 4, 4, 5, 5, 5, 5, 5, 5, 5, 5, 5, 5, 5, 5, 5, 5, 5, 5, 6, 6, 6, 6, 6, 6, 6, 6, 6, 6, 6, 6, 6, 6, 6, 6, 6, 6, 6, 6, 6, 6, 6, 6, 6, 6, 6, 6, 6, 6, 6, 6, 7, 7, 7, 7, 7, 7, 7, 7, 7, 7, 7, 7, 7, 7, 7, 7, 7, 7, 7, 7, 7, 7, 7, 7, 7, 7, 7, 7, 7, 7, 7, 7, 7, 7, 7, 7, 7, 7, 7, 7, 7, 7, 7, 7, 7, 7, 7, 7, 7, 7, 7, 7, 7, 7, 7, 7, 7, 7, 7, 7, 7, 7, 7, 7, 8, 8, 8, 8, 8, 8, 8, 8, 8, 8, 8, 8, 8, 8, 8, 8, 8, 8, 8, 8, 8, 8, 8, 8, 8, 8, 8, 8, 8, 8, 8, 8, 8, 8, 8, 8, 8, 8, 8, 8, 8, 8, 8, 8, 8, 8, 8, 8, 8, 8, 8, 8, 8, 8, 8, 8, 8, 8, 8, 8, 8, 8, 8, 8, 8, 8, 8, 8, 8, 8, 8, 8, 8, 8, 8, 8, 8, 8, 8, 8, 8, 8, 8, 8, 8, 8, 8, 8, 8, 8, 8, 8, 8, 8, 8, 8, 8, 8, 8, 8, 8, 8, 8, 8, 8, 8, 8, 8, 8, 8, 8, 8, 8, 8, 8, 8, 8, 8, 8, 8, 8, 8, 8, 8, 8, 8, 8, 8]⟩⟩
def bitI (p n : Int) : Bool := ieq (wand .i64 (wshr .i64 p n) 1) 1
/-- The greatest bit of a number below 256. -/
def scan (p : Int) : Int := bif bitI p 7 then 7 else (bif bitI p 6 then 6 else (bif bitI p 5 then 5 else (bif bitI p 4 then 4 else (bif bitI p 3 then 3 else (bif bitI p 2 then 2 else (bif bitI p 1 then 1 else (bif bitI p 0 then 0 else -1)))))))
theorem scan_len : ∀ n : Fin 256, wadd .i64 0 (wcv .i64 (byteAt len8tab (wcv .u8 (n.val : Int)))) = scan (n.val : Int) + 1 := by decide +kernel
theorem scan_rng : ∀ n : Fin 256, -1 ≤ scan (n.val : Int) ∧ scan (n.val : Int) ≤ 7 ∧ (0 ≤ scan (n.val : Int) → wsub .i64 (n.val : Int) (wshl .i64 1 (scan (n.val : Int))) = wandn .i64 (n.val : Int) (wshl .i64 1 (scan (n.val : Int)))) := by decide +kernel
theorem of_fin {P : Int → Prop} (h : ∀ n : Fin 256, P (n.val : Int)) {x : Int} (h0 : 0 ≤ x) (h1 : x ≤ 255) : P x := by
  have := h ⟨x.toNat, by omega⟩
  have e : ((x.toNat : Nat) : Int) = x := by omega
  simpa [e] using this
noncomputable def ctrN2 : Ctrs := [(103, run_s_TableOk), (86, run_i_TableOk), (102, run_s_PageOk), (85, run_i_PageOk), (141, run_s_InsOk), (136, run_i_InsOk), (129, run_s_ExitOk), (116, run_i_ExitOk), (142, run_s_CtlFaults), (137, run_i_CtlFaults)] ++ ctrN1

theorem ctrN2_ok : ∀ f run, aget ctrN2 f = some run → Holds Tryz.prog f run := ctr_more ctrN1_ok (by
  intro x hx
  simp only [List.mem_cons, List.not_mem_nil, or_false] at hx
  rcases hx with rfl | rfl | rfl | rfl | rfl | rfl | rfl | rfl | rfl | rfl
  · exact holds_s_TableOk
  · exact holds_i_TableOk
  · exact holds_s_PageOk
  · exact holds_i_PageOk
  · exact holds_s_InsOk
  · exact holds_i_InsOk
  · exact holds_s_ExitOk
  · exact holds_i_ExitOk
  · exact holds_s_CtlFaults
  · exact holds_i_CtlFaults)

def memOk (m : List (List Int)) (n : Int) : Bool := bif m.all pageOk then ieq (ln m) n else false
@[simp, reducible] def s_MemOk_c (m : List (List Int)) (n : Int) : Bool := true
@[simp, reducible] def s_MemOk (m : List (List Int)) (n : Int) : Bool := memOk m n
noncomputable def run_s_MemOk : List AV → Option (Bool × List AV)
  | [.one (.s (.sl .int) a0), .one (.i .i64 a1)] => some ((s_MemOk_c a0 a1), [.one (.b (s_MemOk a0 a1))])
  | _ => none

noncomputable def E_s_MemOk (N : Nat) (a0 : List (List Int)) (a1 : Int) : Option Ans :=
  (iter (σ := (Int × (Int × ((List (List Int)) × Unit)))) N (fun r3 s4 => (bif (ilt s4.2.1 (ln s4.2.2.1)) then (bif (inb s4.2.1 (ln s4.2.2.1)) then (bif (s_PageOk_c (ix s4.2.2.1 s4.2.1 [])) then (bif (bif (s_PageOk (ix s4.2.2.1 s4.2.1 [])) then false else true) then (some [(.one (.b false))]) else (r3 (s4.1, ((wadd .i64 s4.2.1 1), (s4.2.2.1, ()))))) else none) else none) else (some [(.one (.b (ieq (ln s4.2.2.1) s4.1)))]))) (a1, (0, (a0, ()))))

def tms_s_MemOk : FuncId → Nat → Option Tmpl := tmsOf [(72, 0, { n := 22, tm := [(0, .sl 0 []), (1, .i .i64), (5, .i .i64)], lo := [], ro := [(0, (.sl .int), false)] })]

theorem nf_s_MemOk (N : Nat) (a0 : List (List Int)) (a1 : Int) : evalFn (cfgQ (aget ctrN2) (aget mctC) (aget pct0) (aget tct0)) tms_s_MemOk N 12 72 [.one (.s (.sl .int) a0), .one (.i .i64 a1)] = E_s_MemOk N a0 a1 := by kernel_rfl

theorem law_s_MemOk (a0 : List (List Int)) (a1 : Int) (hb : AllB big [.one (.s (.sl .int) a0), .one (.i .i64 a1)]) (hc : (s_MemOk_c a0 a1) = true) : ∃ N, E_s_MemOk N a0 a1 = some [.one (.b (s_MemOk a0 a1))] := by
  have hl : (_ : List _).length ≤ big := ((allB_cons hb).1 _ (List.mem_singleton.2 rfl)).len
  refine ⟨NN, ?_⟩
  have hNN : ∀ {n : Nat}, n ≤ big → n < NN := fun h => NN_lt h
  generalize NN = N at hNN ⊢
  unfold E_s_MemOk
  refine (iter_list a0 (fun i (t : Unit) => (a1, (i : Int), a0, ())) _ (fun _ x (_ : Unit) κ => bif (pageOk) x then κ () else some [AV.one (.b false)]) (fun (t : Unit) => (some [(.one (.b (ieq (ln a0) a1)))])) (fun i hi t rec => ?_) (fun t rec => ?_) _ () (hNN hl)).trans ?_
  · simp only [ilt_ln hi, inb_ln hi, ix_ln hi, wadd_up hi hl, cT]
    exact all_step rfl
  · simp only [ilt_end, cF]
  rw [goL_all (pageOk)]
  refine br (fun h0 => ?_) (fun h0 => ?_)
  · first | rfl | (simp only [h0, s_MemOk, memOk, cT, cF] <;> rfl) | (simp_all [Ty.cells, s_MemOk, memOk]; done)
  · first | rfl | (simp only [h0, s_MemOk, memOk, cT, cF] <;> rfl) | (simp_all [Ty.cells, s_MemOk, memOk]; done)
theorem holds_s_MemOk : Holds Tryz.prog 72 run_s_MemOk := by
  refine holds_of_eval (engQ_ok ctrN2_ok mctC_ok pct0_ok tct0_ok) (fn_ok (by kernel_rfl)) ?_
  intro avs rs hr h
  have hb := allB_of_rep hr
  unfold run_s_MemOk at h
  split at h
  · rename_i a0 a1
    obtain ⟨hc, rfl⟩ := some_pair h
    obtain ⟨N, hN⟩ := law_s_MemOk a0 a1 hb hc
    exact ⟨tms_s_MemOk, N, 12, (nf_s_MemOk N a0 a1).trans hN⟩
  · cases h

@[simp, reducible] def i_MemOk_c (m : List (List Int)) (n : Int) : Bool := true
@[simp, reducible] def i_MemOk (m : List (List Int)) (n : Int) : Bool := memOk m n
noncomputable def run_i_MemOk : List AV → Option (Bool × List AV)
  | [.one (.s (.sl .int) a0), .one (.i .i64 a1)] => some ((i_MemOk_c a0 a1), [.one (.b (i_MemOk a0 a1))])
  | _ => none

noncomputable def E_i_MemOk (N : Nat) (a0 : List (List Int)) (a1 : Int) : Option Ans :=
  (iter (σ := (Int × (Int × (Int × ((List (List Int)) × Unit))))) N (fun r3 s4 => (bif (ilt s4.2.2.1 s4.2.1) then (bif (inb s4.2.2.1 (ln s4.2.2.2.1)) then (bif (i_PageOk_c (ix s4.2.2.2.1 s4.2.2.1 [])) then (bif (bif (i_PageOk (ix s4.2.2.2.1 s4.2.2.1 [])) then false else true) then (some [(.one (.b false))]) else (r3 (s4.1, (s4.2.1, ((wadd .i64 s4.2.2.1 1), (s4.2.2.2.1, ())))))) else none) else none) else (some [(.one (.b (ieq (ln s4.2.2.2.1) s4.1)))]))) (a1, ((ln a0), (0, (a0, ())))))

def tms_i_MemOk : FuncId → Nat → Option Tmpl := tmsOf [(47, 0, { n := 21, tm := [(0, .sl 0 []), (1, .i .i64), (7, .sl 0 []), (8, .i .i64), (9, .i .i64)], lo := [], ro := [(0, (.sl .int), false)] })]

theorem nf_i_MemOk (N : Nat) (a0 : List (List Int)) (a1 : Int) : evalFn (cfgQ (aget ctrN2) (aget mctC) (aget pct0) (aget tct0)) tms_i_MemOk N 12 47 [.one (.s (.sl .int) a0), .one (.i .i64 a1)] = E_i_MemOk N a0 a1 := by kernel_rfl

theorem law_i_MemOk (a0 : List (List Int)) (a1 : Int) (hb : AllB big [.one (.s (.sl .int) a0), .one (.i .i64 a1)]) (hc : (i_MemOk_c a0 a1) = true) : ∃ N, E_i_MemOk N a0 a1 = some [.one (.b (i_MemOk a0 a1))] := by
  have hl : (_ : List _).length ≤ big := ((allB_cons hb).1 _ (List.mem_singleton.2 rfl)).len
  refine ⟨NN, ?_⟩
  have hNN : ∀ {n : Nat}, n ≤ big → n < NN := fun h => NN_lt h
  generalize NN = N at hNN ⊢
  unfold E_i_MemOk
  refine (iter_list a0 (fun i (t : Unit) => (a1, (ln a0), (i : Int), a0, ())) _ (fun _ x (_ : Unit) κ => bif (pageOk) x then κ () else some [AV.one (.b false)]) (fun (t : Unit) => (some [(.one (.b (ieq (ln a0) a1)))])) (fun i hi t rec => ?_) (fun t rec => ?_) _ () (hNN hl)).trans ?_
  · simp only [ilt_ln hi, inb_ln hi, ix_ln hi, wadd_up hi hl, cT]
    exact all_step rfl
  · simp only [ilt_end, cF]
  rw [goL_all (pageOk)]
  refine br (fun h0 => ?_) (fun h0 => ?_)
  · first | rfl | (simp only [h0, i_MemOk, memOk, cT, cF] <;> rfl) | (simp_all [Ty.cells, i_MemOk, memOk]; done)
  · first | rfl | (simp only [h0, i_MemOk, memOk, cT, cF] <;> rfl) | (simp_all [Ty.cells, i_MemOk, memOk]; done)
theorem holds_i_MemOk : Holds Tryz.prog 47 run_i_MemOk := by
  refine holds_of_eval (engQ_ok ctrN2_ok mctC_ok pct0_ok tct0_ok) (fn_ok (by kernel_rfl)) ?_
  intro avs rs hr h
  have hb := allB_of_rep hr
  unfold run_i_MemOk at h
  split at h
  · rename_i a0 a1
    obtain ⟨hc, rfl⟩ := some_pair h
    obtain ⟨N, hN⟩ := law_i_MemOk a0 a1 hb hc
    exact ⟨tms_i_MemOk, N, 12, (nf_i_MemOk N a0 a1).trans hN⟩
  · cases h

def progOk (p : List Ins) : Bool := bif p.all insOk then win (ln p) 1 12 else false
@[simp, reducible] def s_ProgOk_c (p : List Ins) : Bool := true
@[simp, reducible] def s_ProgOk (p : List Ins) : Bool := progOk p
noncomputable def run_s_ProgOk : List AV → Option (Bool × List AV)
  | [.one (.s .ins a0)] => some ((s_ProgOk_c a0), [.one (.b (s_ProgOk a0))])
  | _ => none

noncomputable def E_s_ProgOk (N : Nat) (a0 : List Ins) : Option Ans :=
  (iter (σ := (Int × ((List Ins) × Unit))) N (fun r2 s3 => (bif (ilt s3.1 (ln s3.2.1)) then (bif (inb s3.1 (ln s3.2.1)) then (bif (s_InsOk_c (ix s3.2.1 s3.1 (Ty.dflt .ins))) then (bif (bif (s_InsOk (ix s3.2.1 s3.1 (Ty.dflt .ins))) then false else true) then (some [(.one (.b false))]) else (r2 ((wadd .i64 s3.1 1), (s3.2.1, ())))) else none) else none) else (bif (s_l01In_c (ln s3.2.1) 1 12) then (some [(.one (.b (s_l01In (ln s3.2.1) 1 12)))]) else none))) (0, (a0, ())))

def tms_s_ProgOk : FuncId → Nat → Option Tmpl := tmsOf [(127, 0, { n := 19, tm := [(0, .sl 0 []), (3, .i .i64)], lo := [], ro := [(0, .ins, false)] })]

theorem nf_s_ProgOk (N : Nat) (a0 : List Ins) : evalFn (cfgQ (aget ctrN2) (aget mctC) (aget pct0) (aget tct0)) tms_s_ProgOk N 12 127 [.one (.s .ins a0)] = E_s_ProgOk N a0 := by kernel_rfl

theorem law_s_ProgOk (a0 : List Ins) (hb : AllB big [.one (.s .ins a0)]) (hc : (s_ProgOk_c a0) = true) : ∃ N, E_s_ProgOk N a0 = some [.one (.b (s_ProgOk a0))] := by
  have hl : (_ : List _).length ≤ big := ((allB_cons hb).1 _ (List.mem_singleton.2 rfl)).len
  refine ⟨NN, ?_⟩
  have hNN : ∀ {n : Nat}, n ≤ big → n < NN := fun h => NN_lt h
  generalize NN = N at hNN ⊢
  unfold E_s_ProgOk
  refine (iter_list a0 (fun i (t : Unit) => ((i : Int), a0, ())) _ (fun _ x (_ : Unit) κ => bif (insOk) x then κ () else some [AV.one (.b false)]) (fun (t : Unit) => (bif (s_l01In_c (ln a0) 1 12) then (some [(.one (.b (s_l01In (ln a0) 1 12)))]) else none)) (fun i hi t rec => ?_) (fun t rec => ?_) _ () (hNN hl)).trans ?_
  · simp only [ilt_ln hi, inb_ln hi, ix_ln hi, wadd_up hi hl, cT]
    exact all_step rfl
  · simp only [ilt_end, cF]
  rw [goL_all (insOk)]
  refine br (fun h0 => ?_) (fun h0 => ?_)
  · refine must rfl ?_
    first | rfl | (simp only [h0, s_ProgOk, progOk, cT, cF] <;> rfl) | (simp_all [Ty.cells, s_ProgOk, progOk]; done)
  · first | rfl | (simp only [h0, s_ProgOk, progOk, cT, cF] <;> rfl) | (simp_all [Ty.cells, s_ProgOk, progOk]; done)
theorem holds_s_ProgOk : Holds Tryz.prog 127 run_s_ProgOk := by
  refine holds_of_eval (engQ_ok ctrN2_ok mctC_ok pct0_ok tct0_ok) (fn_ok (by kernel_rfl)) ?_
  intro avs rs hr h
  have hb := allB_of_rep hr
  unfold run_s_ProgOk at h
  split at h
  · rename_i a0
    obtain ⟨hc, rfl⟩ := some_pair h
    obtain ⟨N, hN⟩ := law_s_ProgOk a0 hb hc
    exact ⟨tms_s_ProgOk, N, 12, (nf_s_ProgOk N a0).trans hN⟩
  · cases h

@[simp, reducible] def i_ProgOk_c (p : List Ins) : Bool := true
@[simp, reducible] def i_ProgOk (p : List Ins) : Bool := progOk p
noncomputable def run_i_ProgOk : List AV → Option (Bool × List AV)
  | [.one (.s .ins a0)] => some ((i_ProgOk_c a0), [.one (.b (i_ProgOk a0))])
  | _ => none

noncomputable def E_i_ProgOk (N : Nat) (a0 : List Ins) : Option Ans :=
  (iter (σ := (Int × (Int × ((List Ins) × Unit)))) N (fun r2 s3 => (bif (ilt s3.2.1 s3.1) then (bif (inb s3.2.1 (ln s3.2.2.1)) then (bif (i_InsOk_c (ix s3.2.2.1 s3.2.1 (Ty.dflt .ins))) then (bif (bif (i_InsOk (ix s3.2.2.1 s3.2.1 (Ty.dflt .ins))) then false else true) then (some [(.one (.b false))]) else (r2 (s3.1, ((wadd .i64 s3.2.1 1), (s3.2.2.1, ()))))) else none) else none) else (bif (i_within_c (ln s3.2.2.1) 1 12) then (some [(.one (.b (i_within (ln s3.2.2.1) 1 12)))]) else none))) ((ln a0), (0, (a0, ()))))

def tms_i_ProgOk : FuncId → Nat → Option Tmpl := tmsOf [(114, 0, { n := 18, tm := [(0, .sl 0 []), (5, .sl 0 []), (6, .i .i64), (7, .i .i64)], lo := [], ro := [(0, .ins, false)] })]

theorem nf_i_ProgOk (N : Nat) (a0 : List Ins) : evalFn (cfgQ (aget ctrN2) (aget mctC) (aget pct0) (aget tct0)) tms_i_ProgOk N 12 114 [.one (.s .ins a0)] = E_i_ProgOk N a0 := by kernel_rfl

theorem law_i_ProgOk (a0 : List Ins) (hb : AllB big [.one (.s .ins a0)]) (hc : (i_ProgOk_c a0) = true) : ∃ N, E_i_ProgOk N a0 = some [.one (.b (i_ProgOk a0))] := by
  have hl : (_ : List _).length ≤ big := ((allB_cons hb).1 _ (List.mem_singleton.2 rfl)).len
  refine ⟨NN, ?_⟩
  have hNN : ∀ {n : Nat}, n ≤ big → n < NN := fun h => NN_lt h
  generalize NN = N at hNN ⊢
  unfold E_i_ProgOk
  refine (iter_list a0 (fun i (t : Unit) => ((ln a0), (i : Int), a0, ())) _ (fun _ x (_ : Unit) κ => bif (insOk) x then κ () else some [AV.one (.b false)]) (fun (t : Unit) => (bif (i_within_c (ln a0) 1 12) then (some [(.one (.b (i_within (ln a0) 1 12)))]) else none)) (fun i hi t rec => ?_) (fun t rec => ?_) _ () (hNN hl)).trans ?_
  · simp only [ilt_ln hi, inb_ln hi, ix_ln hi, wadd_up hi hl, cT]
    exact all_step rfl
  · simp only [ilt_end, cF]
  rw [goL_all (insOk)]
  refine br (fun h0 => ?_) (fun h0 => ?_)
  · refine must rfl ?_
    first | rfl | (simp only [h0, i_ProgOk, progOk, cT, cF] <;> rfl) | (simp_all [Ty.cells, i_ProgOk, progOk]; done)
  · first | rfl | (simp only [h0, i_ProgOk, progOk, cT, cF] <;> rfl) | (simp_all [Ty.cells, i_ProgOk, progOk]; done)
theorem holds_i_ProgOk : Holds Tryz.prog 114 run_i_ProgOk := by
  refine holds_of_eval (engQ_ok ctrN2_ok mctC_ok pct0_ok tct0_ok) (fn_ok (by kernel_rfl)) ?_
  intro avs rs hr h
  have hb := allB_of_rep hr
  unfold run_i_ProgOk at h
  split at h
  · rename_i a0
    obtain ⟨hc, rfl⟩ := some_pair h
    obtain ⟨N, hN⟩ := law_i_ProgOk a0 hb hc
    exact ⟨tms_i_ProgOk, N, 12, (nf_i_ProgOk N a0).trans hN⟩
  · cases h

def ctlOk (c : Ctl) : Bool := ieq (ln (ctlFaults c)) 0
@[simp, reducible] def s_CtlOk_c (c : Ctl) : Bool := true
@[simp, reducible] def s_CtlOk (c : Ctl) : Bool := ctlOk c
noncomputable def run_s_CtlOk : List AV → Option (Bool × List AV)
  | [.agg [.i .i64 a0_0, .i .i64 a0_1, .b a0_2]] => some ((s_CtlOk_c (⟨a0_0, a0_1, a0_2⟩ : Ctl)), [.one (.b (s_CtlOk (⟨a0_0, a0_1, a0_2⟩ : Ctl)))])
  | _ => none

noncomputable def E_s_CtlOk (N : Nat) (a0 : Ctl) : Option Ans :=
  (bif (s_CtlFaults_c a0) then (some [(.one (.b (ieq (ln (s_CtlFaults a0)) 0)))]) else none)

theorem nf_s_CtlOk (N : Nat) (a0 : Ctl) : evalFn (cfgQ (aget ctrN2) (aget mctC) (aget pct0) (aget tct0)) (tmsOf []) N 12 128 [.agg (ctlC a0)] = E_s_CtlOk N a0 := by kernel_rfl

theorem law_s_CtlOk (a0 : Ctl) (hb : AllB big [.agg (ctlC a0)]) (hc : (s_CtlOk_c a0) = true) : ∃ N, E_s_CtlOk N a0 = some [.one (.b (s_CtlOk a0))] := by
  refine ⟨0, ?_⟩
  unfold E_s_CtlOk
  refine must rfl ?_
  first | rfl | (simp only [s_CtlOk, ctlOk, cT, cF] <;> rfl) | (simp_all [Ty.cells, s_CtlOk, ctlOk]; done)
theorem holds_s_CtlOk : Holds Tryz.prog 128 run_s_CtlOk := by
  refine holds_of_eval (engQ_ok ctrN2_ok mctC_ok pct0_ok tct0_ok) (fn_ok (by kernel_rfl)) ?_
  intro avs rs hr h
  have hb := allB_of_rep hr
  unfold run_s_CtlOk at h
  split at h
  · rename_i a0_0 a0_1 a0_2
    obtain ⟨hc, rfl⟩ := some_pair h
    obtain ⟨N, hN⟩ := law_s_CtlOk (⟨a0_0, a0_1, a0_2⟩ : Ctl) hb hc
    exact ⟨tmsOf [], N, 12, (nf_s_CtlOk N (⟨a0_0, a0_1, a0_2⟩ : Ctl)).trans hN⟩
  · cases h

@[simp, reducible] def i_CtlOk_c (c : Ctl) : Bool := true
@[simp, reducible] def i_CtlOk (c : Ctl) : Bool := ctlOk c
noncomputable def run_i_CtlOk : List AV → Option (Bool × List AV)
  | [.agg [.i .i64 a0_0, .i .i64 a0_1, .b a0_2]] => some ((i_CtlOk_c (⟨a0_0, a0_1, a0_2⟩ : Ctl)), [.one (.b (i_CtlOk (⟨a0_0, a0_1, a0_2⟩ : Ctl)))])
  | _ => none

noncomputable def E_i_CtlOk (N : Nat) (a0 : Ctl) : Option Ans :=
  (bif (i_CtlFaults_c a0) then (some [(.one (.b (ieq (ln (i_CtlFaults a0)) 0)))]) else none)

theorem nf_i_CtlOk (N : Nat) (a0 : Ctl) : evalFn (cfgQ (aget ctrN2) (aget mctC) (aget pct0) (aget tct0)) (tmsOf []) N 12 115 [.agg (ctlC a0)] = E_i_CtlOk N a0 := by kernel_rfl

theorem law_i_CtlOk (a0 : Ctl) (hb : AllB big [.agg (ctlC a0)]) (hc : (i_CtlOk_c a0) = true) : ∃ N, E_i_CtlOk N a0 = some [.one (.b (i_CtlOk a0))] := by
  refine ⟨0, ?_⟩
  unfold E_i_CtlOk
  refine must rfl ?_
  first | rfl | (simp only [i_CtlOk, ctlOk, cT, cF] <;> rfl) | (simp_all [Ty.cells, i_CtlOk, ctlOk]; done)
theorem holds_i_CtlOk : Holds Tryz.prog 115 run_i_CtlOk := by
  refine holds_of_eval (engQ_ok ctrN2_ok mctC_ok pct0_ok tct0_ok) (fn_ok (by kernel_rfl)) ?_
  intro avs rs hr h
  have hb := allB_of_rep hr
  unfold run_i_CtlOk at h
  split at h
  · rename_i a0_0 a0_1 a0_2
    obtain ⟨hc, rfl⟩ := some_pair h
    obtain ⟨N, hN⟩ := law_i_CtlOk (⟨a0_0, a0_1, a0_2⟩ : Ctl) hb hc
    exact ⟨tmsOf [], N, 12, (nf_i_CtlOk N (⟨a0_0, a0_1, a0_2⟩ : Ctl)).trans hN⟩
  · cases h

def topIrq (p : Int) : Int := bif pendOk p then scan p else -1
theorem wcv_u64 {x : Int} (h0 : 0 ≤ x) (h1 : x ≤ 255) : wcv .u64 x = x := of_fin (P := fun x => wcv .u64 x = x) (by decide +kernel) h0 h1

/-! Loops that count; lists that are written. -/
/-- A loop that counts up, of whose state something is known. -/
theorem iter_to {σ ρ τ : Type} (n : Nat) (st : Nat → τ → σ) (F : (σ → Option ρ) → σ → Option ρ) (I : Nat → τ → Prop) (res : Nat → τ → Option ρ)
    (hstep : ∀ (i : Nat) (t : τ) (rec : σ → Option ρ), i < n → I i t → (∀ t', I (i + 1) t' → rec (st (i + 1) t') = res (i + 1) t') → F rec (st i t) = res i t)
    (hend : ∀ (t : τ) (rec : σ → Option ρ), I n t → F rec (st n t) = res n t) : ∀ (N i : Nat) (t : τ), I i t → i ≤ n → n - i < N → iter N F (st i t) = res i t := by
  have key : ∀ (m N i : Nat) (t : τ), n - i = m → I i t → i ≤ n → m < N → iter N F (st i t) = res i t := by
    intro m
    induction m with
    | zero =>
      intro N i t hm hI hi hN
      obtain ⟨k, rfl⟩ : ∃ k, N = k + 1 := ⟨N - 1, by omega⟩
      have : i = n := by omega
      subst this
      rw [iter_succ]
      exact hend t _ hI
    | succ m ih =>
      intro N i t hm hI hi hN
      obtain ⟨k, rfl⟩ : ∃ k, N = k + 1 := ⟨N - 1, by omega⟩
      rw [iter_succ]
      exact hstep i t _ (by omega) hI (fun t' hI' => ih k (i + 1) t' (by omega) hI' (by omega) (by omega))
  intro N i t hI hi hN
  exact key (n - i) N i t rfl hI hi hN

section
variable {α : Type}
theorem up_self {l : List α} {i : Nat} (h : i < l.length) (d : α) : up l (i : Int) (ix l (i : Int) d) = l := by
  rw [ix_ln h]
  unfold up
  apply List.ext_getElem?
  intro k
  rw [List.getElem?_set]
  have e : (i : Int).toNat = i := by omega
  rw [e]
  by_cases hk : i = k
  · subst hk
    simp [h]
  · simp [hk]
theorem ix_up {l : List α} {i : Nat} (h : i < l.length) (x d : α) : ix (up l (i : Int) x) (i : Int) d = x := by
  unfold ix up
  have e : (i : Int).toNat = i := by omega
  rw [e]
  simp [List.getD, h]
theorem up_up (l : List α) (i : Int) (x y : α) : up (up l i x) i y = up l i y := by
  unfold up
  simp
theorem take_up {l : List α} {i : Nat} (h : i < l.length) (x : α) : (up l (i : Int) x).take (i + 1) = l.take i ++ [x] := by
  unfold up
  have e : (i : Int).toNat = i := by omega
  rw [e]
  apply List.ext_getElem?
  intro k
  by_cases hk : k < i
  · rw [List.getElem?_take, if_pos (by omega), List.getElem?_set, if_neg (by omega), List.getElem?_append_left (by simp; omega), List.getElem?_take, if_pos hk]
  · have hl : (l.take i).length = i := by simp; omega
    rw [List.getElem?_take, List.getElem?_append_right (by omega), hl]
    by_cases hk2 : k = i
    · subst hk2
      simp [h]
    · rw [if_neg (by omega), List.getElem?_eq_none (by simp; omega)]
theorem drop_up {l : List α} {i : Nat} (x : α) : (up l (i : Int) x).drop (i + 1) = l.drop (i + 1) := by
  unfold up
  have e : (i : Int).toNat = i := by omega
  rw [e]
  apply List.ext_getElem?
  intro k
  rw [List.getElem?_drop, List.getElem?_drop, List.getElem?_set, if_neg (by omega)]
theorem get_up {l : List α} {i k : Nat} (h : i < k) (x : α) : (up l (i : Int) x)[k]? = l[k]? := by
  unfold up
  have e : (i : Int).toNat = i := by omega
  rw [e, List.getElem?_set, if_neg (by omega)]
end
end Go.Proofs.YtaccllfkapkahaaGreat.E
