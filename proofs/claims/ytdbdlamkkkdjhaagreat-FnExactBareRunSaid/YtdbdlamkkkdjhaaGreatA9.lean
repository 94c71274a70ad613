/- What is proved here: contracts of the bare machine's functions, down from a bare step. -/
import Derived.Test.YtdbdlamkkkdjhaaGreatA8
import Derived.Test.YtdbdlamkkkdjhaaGreatA4
import Derived.KernelRfl
namespace Go.Proofs.YtdbdlamkkkdjhaaGreat.E
open Go
set_option maxRecDepth 100000
set_option linter.unusedVariables false
set_option linter.unusedSimpArgs false
set_option linter.unusedSectionVars false

/-! How a tree of conditions is walked. -/
theorem must {ρ : Type} {c : Bool} {a b r : Option ρ} (h : c = true) (k : a = r) : (bif c then a else b) = r := by rw [h]; exact k
theorem mustF {ρ : Type} {c : Bool} {a b r : Option ρ} (h : c = false) (k : b = r) : (bif c then a else b) = r := by rw [h]; exact k
theorem br {ρ : Type} {c : Bool} {a b r : Option ρ} (h1 : c = true → a = r) (h2 : c = false → b = r) : (bif c then a else b) = r := by
  cases c
  · exact h2 rfl
  · exact h1 rfl
theorem brN {ρ : Type} {c : Bool} {a b r : Option ρ} (h1 : c = false → a = r) (h2 : c = true → b = r) : (bif (bif c then false else true) then a else b) = r := by
  cases c
  · exact h1 rfl
  · exact h2 rfl
theorem shr {α ρ : Type} {x : α} {f : α → Option ρ} {r : Option ρ} (h : f x = r) : share x f = r := h
theorem all_step {ρ : Type} {c p : Bool} {a b : Option ρ} (hc : c = true) : (bif c then (bif (bif p then false else true) then a else b) else none) = bif p then b else a := by
  rw [hc]; cases p <;> rfl

/-! Sizes. -/
attribute [simp] pc_iff
@[simp] theorem few_len {α : Type} (l : List α) : (few (ln l) = true) ↔ l.length ≤ 2147483648 := by
  unfold few ln
  rw [decide_eq_true_iff]
  omega
@[simp] theorem ap_len {α : Type} (l m : List α) : (ap l m).length = l.length + m.length := by simp [ap]
attribute [simp] ap_nil up_len
@[simp] theorem cvb_i (n : Nat) (k : IntKind) (x : Int) : CVB n (.i k x) ↔ True := ⟨fun _ => trivial, fun _ => .i k x⟩
@[simp] theorem cvb_b (n : Nat) (x : Bool) : CVB n (.b x) ↔ True := ⟨fun _ => trivial, fun _ => .b x⟩
theorem cvb_s {n : Nat} {t : Ty} (l : List t.den) : CVB n (.s t l) ↔ l.length ≤ n ∧ ∀ x ∈ l, ∀ c ∈ t.cells x, CVB n c := ⟨fun h => h.inv, fun h => .s t l h.1 h.2⟩
@[simp] theorem cvb_int (n : Nat) (l : List Int) : CVB n (.s .int l) ↔ l.length ≤ n := by rw [cvb_s]; simp [Ty.cells]
@[simp] theorem cvb_u8 (n : Nat) (l : List Int) : CVB n (.s .u8 l) ↔ l.length ≤ n := by rw [cvb_s]; simp [Ty.cells]
@[simp] theorem cvb_bool (n : Nat) (l : List Bool) : CVB n (.s .bool l) ↔ l.length ≤ n := by rw [cvb_s]; simp [Ty.cells]
@[simp] theorem cvb_slot (n : Nat) (l : List Slot) : CVB n (.s .slot l) ↔ l.length ≤ n := by rw [cvb_s]; simp [Ty.cells]
@[simp] theorem cvb_ins (n : Nat) (l : List Ins) : CVB n (.s .ins l) ↔ l.length ≤ n := by rw [cvb_s]; simp [Ty.cells]
@[simp] theorem cvb_entry (n : Nat) (l : List Entry) : CVB n (.s .entry l) ↔ l.length ≤ n := by rw [cvb_s]; simp [Ty.cells]
@[simp] theorem cvb_act (n : Nat) (l : List GAct) : CVB n (.s .act l) ↔ l.length ≤ n := by rw [cvb_s]; simp [Ty.cells]
@[simp] theorem cvb_told (n : Nat) (l : List Told) : CVB n (.s .told l) ↔ l.length ≤ n := by rw [cvb_s]; simp [Ty.cells]
def SmM (m : List (List Int)) : Prop := m.length ≤ 1048576 ∧ ∀ x ∈ m, x.length ≤ 1048576
def SmG (g : Guest) : Prop := g.Prog.length ≤ 1048576 ∧ g.Written.length ≤ 1048576 ∧ g.Live.length ≤ 1048576 ∧ g.Seen.length ≤ 1048576
def SmGs (l : List Guest) : Prop := l.length ≤ 1048576 ∧ ∀ x ∈ l, SmG x
def SmB (b : Bare) : Prop := SmM b.Memory ∧ SmGs b.Guests ∧ b.Outs.length ≤ 1048576
def SmBs (l : List Bare) : Prop := l.length ≤ 1048576 ∧ ∀ x ∈ l, SmB x
theorem sm_v : sm = 1048576 := rfl
@[simp] theorem cvb_int_sm (l : List Int) : CVB sm (.s .int l) ↔ l.length ≤ 1048576 := cvb_int sm l
@[simp] theorem cvb_u8_sm (l : List Int) : CVB sm (.s .u8 l) ↔ l.length ≤ 1048576 := cvb_u8 sm l
@[simp] theorem cvb_bool_sm (l : List Bool) : CVB sm (.s .bool l) ↔ l.length ≤ 1048576 := cvb_bool sm l
@[simp] theorem cvb_slot_sm (l : List Slot) : CVB sm (.s .slot l) ↔ l.length ≤ 1048576 := cvb_slot sm l
@[simp] theorem cvb_ins_sm (l : List Ins) : CVB sm (.s .ins l) ↔ l.length ≤ 1048576 := cvb_ins sm l
@[simp] theorem cvb_entry_sm (l : List Entry) : CVB sm (.s .entry l) ↔ l.length ≤ 1048576 := cvb_entry sm l
@[simp] theorem cvb_act_sm (l : List GAct) : CVB sm (.s .act l) ↔ l.length ≤ 1048576 := cvb_act sm l
@[simp] theorem cvb_told_sm (l : List Told) : CVB sm (.s .told l) ↔ l.length ≤ 1048576 := cvb_told sm l
@[simp] theorem cvb_mem (l : List (List Int)) : CVB sm (.s (.sl .int) l) ↔ SmM l := by rw [cvb_s]; simp [Ty.cells, SmM, sm_v]
@[simp] theorem cells_g (g : Guest) : (∀ c ∈ Ty.cells .guest g, CVB sm c) ↔ SmG g := by simp [Ty.cells, SmG, sm_v]
@[simp] theorem cvb_guest (l : List Guest) : CVB sm (.s .guest l) ↔ SmGs l := by rw [cvb_s]; simp only [cells_g]; rfl
@[simp] theorem cells_b (b : Bare) : (∀ c ∈ Ty.cells .bare b, CVB sm c) ↔ SmB b := by
  simp only [Ty.cells, List.mem_cons, List.not_mem_nil, or_false, forall_eq_or_imp, forall_eq, cvb_mem, cvb_guest, cvb_int, cvb_i, and_true]
  rfl
@[simp] theorem cvb_bare (l : List Bare) : CVB sm (.s .bare l) ↔ SmBs l := by rw [cvb_s]; simp only [cells_b]; rfl
@[simp] theorem smG_mk (a : List Ins) (b c : Int) (d e : List Slot) (f : Ctl) (g : Int) (h : GExit) (i : Bool) (j : List Int) : SmG ⟨a, b, c, d, e, f, g, h, i, j⟩ ↔ a.length ≤ 1048576 ∧ d.length ≤ 1048576 ∧ e.length ≤ 1048576 ∧ j.length ≤ 1048576 := Iff.rfl
@[simp] theorem smB_mk (m : List (List Int)) (g : List Guest) (o : List Int) (p : Int) : SmB ⟨m, g, o, p⟩ ↔ SmM m ∧ SmGs g ∧ o.length ≤ 1048576 := Iff.rfl
theorem smM_up {m : List (List Int)} {i : Int} {x : List Int} (h : SmM m) (hx : x.length ≤ 1048576) : SmM (up m i x) := by
  refine ⟨by simpa using h.1, fun y hy => ?_⟩
  rcases List.mem_or_eq_of_mem_set hy with hy | rfl
  · exact h.2 y hy
  · exact hx
theorem smGs_up {m : List Guest} {i : Int} {x : Guest} (h : SmGs m) (hx : SmG x) : SmGs (up m i x) := by
  refine ⟨by simpa using h.1, fun y hy => ?_⟩
  rcases List.mem_or_eq_of_mem_set hy with hy | rfl
  · exact h.2 y hy
  · exact hx
theorem smBs_up {m : List Bare} {i : Int} {x : Bare} (h : SmBs m) (hx : SmB x) : SmBs (up m i x) := by
  refine ⟨by simpa using h.1, fun y hy => ?_⟩
  rcases List.mem_or_eq_of_mem_set hy with hy | rfl
  · exact h.2 y hy
  · exact hx
theorem smG_ix {l : List Guest} {i : Int} (h : SmGs l) (hh : hasB i (ln l) = true) (d : Guest) : SmG (ix l i d) := h.2 _ (ix_mem hh d)
theorem smB_ix {l : List Bare} {i : Int} (h : SmBs l) (hh : hasB i (ln l) = true) (d : Bare) : SmB (ix l i d) := h.2 _ (ix_mem hh d)
theorem smM_ix {l : List (List Int)} {i : Int} (h : SmM l) (hh : hasB i (ln l) = true) (d : List Int) : (ix l i d).length ≤ 1048576 := h.2 _ (ix_mem hh d)
@[simp] theorem smG_0 : SmG (Ty.dflt .guest) := ⟨by decide, by decide, by decide, by decide⟩

/-! Ranges. -/
def win (x a b : Int) : Bool := ige x a && ile x b
@[simp] theorem win_s (x a b : Int) : s_l01In x a b = win x a b := rfl
@[simp] theorem win_i (x a b : Int) : i_within x a b = win x a b := rfl
@[simp] theorem inb_hasB (i n : Int) : inb i n = hasB i n := rfl
attribute [simp] i_has
@[simp] theorem win_has {α : Type} {l : List α} (h : l.length ≤ 1048576) (i : Int) : win i 0 (wsub .i64 (ln l) 1) = hasB i (ln l) := l01In_len (sm_big h).1 i
theorem win_has' {α : Type} {l : List α} (h : l.length ≤ big) (i : Int) : win i 0 (wsub .i64 (ln l) 1) = hasB i (ln l) := l01In_len h i
theorem win_true {x a b : Int} : (win x a b = true) ↔ a ≤ x ∧ x ≤ b := by
  unfold win ige ile
  simp only [Bool.and_eq_true, decide_eq_true_iff]
theorem ilt_ige (a b : Int) : ilt a b = !ige a b := by
  unfold ilt ige
  by_cases h : a < b
  · rw [decide_eq_true h, decide_eq_false (by omega)]; rfl
  · rw [decide_eq_false h, decide_eq_true (by omega)]; rfl
attribute [simp] s_NoSlot i_NoSlot s_RightsOk i_RightsOk s_Enough i_Enough s_SlotAt i_SlotAt s_CanRun i_CanRun s_NoSlot_c i_NoSlot_c
attribute [simp] s_l04Copy s_l15Copy s_l17Guests i_copyInts
attribute [simp] s_l04Copy_c s_l15Copy_c s_l17Guests_c i_copyInts_c

/-! Numbers, slots, cells. -/
def addrPage (a : Int) : Int := bif ilt a 0 then -1 else wquo .i64 a 4
def addrCell (a : Int) : Int := bif ilt a 0 then -1 else wrem a 4
@[simp, reducible] def s_AddrPage_c (a : Int) : Bool := true
@[simp, reducible] def s_AddrPage (a : Int) : Int := addrPage a
noncomputable def run_s_AddrPage : List AV → Option (Bool × List AV)
  | [.one (.i .i64 a0)] => some ((s_AddrPage_c a0), [.one (.i .i64 (s_AddrPage a0))])
  | _ => none

noncomputable def E_s_AddrPage (N : Nat) (a0 : Int) : Option Ans :=
  (bif (ilt a0 0) then (some [(.one (.i .i64 (-1)))]) else (bif (ine 4 0) then (some [(.one (.i .i64 (wquo .i64 a0 4)))]) else none))

theorem nf_s_AddrPage (N : Nat) (a0 : Int) : evalFn (cfgQ (aget ctrU) (aget mctC) (aget pct0) (aget tct0)) (tmsOf []) N 12 40 [.one (.i .i64 a0)] = E_s_AddrPage N a0 := by kernel_rfl

theorem law_s_AddrPage (a0 : Int) (hb : AllB big [.one (.i .i64 a0)]) (hc : (s_AddrPage_c a0) = true) : ∃ N, E_s_AddrPage N a0 = some [.one (.i .i64 (s_AddrPage a0))] := by
  refine ⟨0, ?_⟩
  unfold E_s_AddrPage
  refine br (fun h0 => ?_) (fun h0 => ?_)
  · first | rfl | (simp only [h0, s_AddrPage, addrPage, cT, cF] <;> rfl) | (simp_all [Ty.cells, s_AddrPage, addrPage]; done)
  · refine must rfl ?_
    first | rfl | (simp only [h0, s_AddrPage, addrPage, cT, cF] <;> rfl) | (simp_all [Ty.cells, s_AddrPage, addrPage]; done)
theorem holds_s_AddrPage : Holds Tryz.prog 40 run_s_AddrPage := by
  refine holds_of_eval (engQ_ok ctrU_ok mctC_ok pct0_ok tct0_ok) (fn_ok (by kernel_rfl)) ?_
  intro avs rs hr h
  have hb := allB_of_rep hr
  unfold run_s_AddrPage at h
  split at h
  · rename_i a0
    obtain ⟨hc, rfl⟩ := some_pair h
    obtain ⟨N, hN⟩ := law_s_AddrPage a0 hb hc
    exact ⟨tmsOf [], N, 12, (nf_s_AddrPage N a0).trans hN⟩
  · cases h

@[simp, reducible] def i_AddrPage_c (a : Int) : Bool := true
@[simp, reducible] def i_AddrPage (a : Int) : Int := addrPage a
noncomputable def run_i_AddrPage : List AV → Option (Bool × List AV)
  | [.one (.i .i64 a0)] => some ((i_AddrPage_c a0), [.one (.i .i64 (i_AddrPage a0))])
  | _ => none

noncomputable def E_i_AddrPage (N : Nat) (a0 : Int) : Option Ans :=
  (bif (ilt a0 0) then (some [(.one (.i .i64 (-1)))]) else (bif (ine 4 0) then (some [(.one (.i .i64 (wquo .i64 a0 4)))]) else none))

theorem nf_i_AddrPage (N : Nat) (a0 : Int) : evalFn (cfgQ (aget ctrU) (aget mctC) (aget pct0) (aget tct0)) (tmsOf []) N 12 65 [.one (.i .i64 a0)] = E_i_AddrPage N a0 := by kernel_rfl

theorem law_i_AddrPage (a0 : Int) (hb : AllB big [.one (.i .i64 a0)]) (hc : (i_AddrPage_c a0) = true) : ∃ N, E_i_AddrPage N a0 = some [.one (.i .i64 (i_AddrPage a0))] := by
  refine ⟨0, ?_⟩
  unfold E_i_AddrPage
  refine br (fun h0 => ?_) (fun h0 => ?_)
  · first | rfl | (simp only [h0, i_AddrPage, addrPage, cT, cF] <;> rfl) | (simp_all [Ty.cells, i_AddrPage, addrPage]; done)
  · refine must rfl ?_
    first | rfl | (simp only [h0, i_AddrPage, addrPage, cT, cF] <;> rfl) | (simp_all [Ty.cells, i_AddrPage, addrPage]; done)
theorem holds_i_AddrPage : Holds Tryz.prog 65 run_i_AddrPage := by
  refine holds_of_eval (engQ_ok ctrU_ok mctC_ok pct0_ok tct0_ok) (fn_ok (by kernel_rfl)) ?_
  intro avs rs hr h
  have hb := allB_of_rep hr
  unfold run_i_AddrPage at h
  split at h
  · rename_i a0
    obtain ⟨hc, rfl⟩ := some_pair h
    obtain ⟨N, hN⟩ := law_i_AddrPage a0 hb hc
    exact ⟨tmsOf [], N, 12, (nf_i_AddrPage N a0).trans hN⟩
  · cases h

@[simp, reducible] def s_AddrCell_c (a : Int) : Bool := true
@[simp, reducible] def s_AddrCell (a : Int) : Int := addrCell a
noncomputable def run_s_AddrCell : List AV → Option (Bool × List AV)
  | [.one (.i .i64 a0)] => some ((s_AddrCell_c a0), [.one (.i .i64 (s_AddrCell a0))])
  | _ => none

noncomputable def E_s_AddrCell (N : Nat) (a0 : Int) : Option Ans :=
  (bif (ilt a0 0) then (some [(.one (.i .i64 (-1)))]) else (bif (ine 4 0) then (some [(.one (.i .i64 (wrem a0 4)))]) else none))

theorem nf_s_AddrCell (N : Nat) (a0 : Int) : evalFn (cfgQ (aget ctrU) (aget mctC) (aget pct0) (aget tct0)) (tmsOf []) N 12 45 [.one (.i .i64 a0)] = E_s_AddrCell N a0 := by kernel_rfl

theorem law_s_AddrCell (a0 : Int) (hb : AllB big [.one (.i .i64 a0)]) (hc : (s_AddrCell_c a0) = true) : ∃ N, E_s_AddrCell N a0 = some [.one (.i .i64 (s_AddrCell a0))] := by
  refine ⟨0, ?_⟩
  unfold E_s_AddrCell
  refine br (fun h0 => ?_) (fun h0 => ?_)
  · first | rfl | (simp only [h0, s_AddrCell, addrCell, cT, cF] <;> rfl) | (simp_all [Ty.cells, s_AddrCell, addrCell]; done)
  · refine must rfl ?_
    first | rfl | (simp only [h0, s_AddrCell, addrCell, cT, cF] <;> rfl) | (simp_all [Ty.cells, s_AddrCell, addrCell]; done)
theorem holds_s_AddrCell : Holds Tryz.prog 45 run_s_AddrCell := by
  refine holds_of_eval (engQ_ok ctrU_ok mctC_ok pct0_ok tct0_ok) (fn_ok (by kernel_rfl)) ?_
  intro avs rs hr h
  have hb := allB_of_rep hr
  unfold run_s_AddrCell at h
  split at h
  · rename_i a0
    obtain ⟨hc, rfl⟩ := some_pair h
    obtain ⟨N, hN⟩ := law_s_AddrCell a0 hb hc
    exact ⟨tmsOf [], N, 12, (nf_s_AddrCell N a0).trans hN⟩
  · cases h

@[simp, reducible] def i_AddrCell_c (a : Int) : Bool := true
@[simp, reducible] def i_AddrCell (a : Int) : Int := addrCell a
noncomputable def run_i_AddrCell : List AV → Option (Bool × List AV)
  | [.one (.i .i64 a0)] => some ((i_AddrCell_c a0), [.one (.i .i64 (i_AddrCell a0))])
  | _ => none

noncomputable def E_i_AddrCell (N : Nat) (a0 : Int) : Option Ans :=
  (bif (ilt a0 0) then (some [(.one (.i .i64 (-1)))]) else (bif (ine 4 0) then (some [(.one (.i .i64 (wrem a0 4)))]) else none))

theorem nf_i_AddrCell (N : Nat) (a0 : Int) : evalFn (cfgQ (aget ctrU) (aget mctC) (aget pct0) (aget tct0)) (tmsOf []) N 12 70 [.one (.i .i64 a0)] = E_i_AddrCell N a0 := by kernel_rfl

theorem law_i_AddrCell (a0 : Int) (hb : AllB big [.one (.i .i64 a0)]) (hc : (i_AddrCell_c a0) = true) : ∃ N, E_i_AddrCell N a0 = some [.one (.i .i64 (i_AddrCell a0))] := by
  refine ⟨0, ?_⟩
  unfold E_i_AddrCell
  refine br (fun h0 => ?_) (fun h0 => ?_)
  · first | rfl | (simp only [h0, i_AddrCell, addrCell, cT, cF] <;> rfl) | (simp_all [Ty.cells, i_AddrCell, addrCell]; done)
  · refine must rfl ?_
    first | rfl | (simp only [h0, i_AddrCell, addrCell, cT, cF] <;> rfl) | (simp_all [Ty.cells, i_AddrCell, addrCell]; done)
theorem holds_i_AddrCell : Holds Tryz.prog 70 run_i_AddrCell := by
  refine holds_of_eval (engQ_ok ctrU_ok mctC_ok pct0_ok tct0_ok) (fn_ok (by kernel_rfl)) ?_
  intro avs rs hr h
  have hb := allB_of_rep hr
  unfold run_i_AddrCell at h
  split at h
  · rename_i a0
    obtain ⟨hc, rfl⟩ := some_pair h
    obtain ⟨N, hN⟩ := law_i_AddrCell a0 hb hc
    exact ⟨tmsOf [], N, 12, (nf_i_AddrCell N a0).trans hN⟩
  · cases h

def needOf (w : Bool) : Int := bif w then 2 else 1
@[simp, reducible] def s_NeedOf_c (w : Bool) : Bool := true
@[simp, reducible] def s_NeedOf (w : Bool) : Int := needOf w
noncomputable def run_s_NeedOf : List AV → Option (Bool × List AV)
  | [.one (.b a0)] => some ((s_NeedOf_c a0), [.one (.i .i64 (s_NeedOf a0))])
  | _ => none

noncomputable def E_s_NeedOf (N : Nat) (a0 : Bool) : Option Ans :=
  (bif a0 then (some [(.one (.i .i64 2))]) else (some [(.one (.i .i64 1))]))

theorem nf_s_NeedOf (N : Nat) (a0 : Bool) : evalFn (cfgQ (aget ctrU) (aget mctC) (aget pct0) (aget tct0)) (tmsOf []) N 12 41 [.one (.b a0)] = E_s_NeedOf N a0 := by kernel_rfl

theorem law_s_NeedOf (a0 : Bool) (hb : AllB big [.one (.b a0)]) (hc : (s_NeedOf_c a0) = true) : ∃ N, E_s_NeedOf N a0 = some [.one (.i .i64 (s_NeedOf a0))] := by
  refine ⟨0, ?_⟩
  unfold E_s_NeedOf
  refine br (fun h0 => ?_) (fun h0 => ?_)
  · first | rfl | (simp only [h0, s_NeedOf, needOf, cT, cF] <;> rfl) | (simp_all [Ty.cells, s_NeedOf, needOf]; done)
  · first | rfl | (simp only [h0, s_NeedOf, needOf, cT, cF] <;> rfl) | (simp_all [Ty.cells, s_NeedOf, needOf]; done)
theorem holds_s_NeedOf : Holds Tryz.prog 41 run_s_NeedOf := by
  refine holds_of_eval (engQ_ok ctrU_ok mctC_ok pct0_ok tct0_ok) (fn_ok (by kernel_rfl)) ?_
  intro avs rs hr h
  have hb := allB_of_rep hr
  unfold run_s_NeedOf at h
  split at h
  · rename_i a0
    obtain ⟨hc, rfl⟩ := some_pair h
    obtain ⟨N, hN⟩ := law_s_NeedOf a0 hb hc
    exact ⟨tmsOf [], N, 12, (nf_s_NeedOf N a0).trans hN⟩
  · cases h

@[simp, reducible] def i_NeedOf_c (w : Bool) : Bool := true
@[simp, reducible] def i_NeedOf (w : Bool) : Int := needOf w
noncomputable def run_i_NeedOf : List AV → Option (Bool × List AV)
  | [.one (.b a0)] => some ((i_NeedOf_c a0), [.one (.i .i64 (i_NeedOf a0))])
  | _ => none

noncomputable def E_i_NeedOf (N : Nat) (a0 : Bool) : Option Ans :=
  (bif a0 then (some [(.one (.i .i64 2))]) else (some [(.one (.i .i64 1))]))

theorem nf_i_NeedOf (N : Nat) (a0 : Bool) : evalFn (cfgQ (aget ctrU) (aget mctC) (aget pct0) (aget tct0)) (tmsOf []) N 12 66 [.one (.b a0)] = E_i_NeedOf N a0 := by kernel_rfl

theorem law_i_NeedOf (a0 : Bool) (hb : AllB big [.one (.b a0)]) (hc : (i_NeedOf_c a0) = true) : ∃ N, E_i_NeedOf N a0 = some [.one (.i .i64 (i_NeedOf a0))] := by
  refine ⟨0, ?_⟩
  unfold E_i_NeedOf
  refine br (fun h0 => ?_) (fun h0 => ?_)
  · first | rfl | (simp only [h0, i_NeedOf, needOf, cT, cF] <;> rfl) | (simp_all [Ty.cells, i_NeedOf, needOf]; done)
  · first | rfl | (simp only [h0, i_NeedOf, needOf, cT, cF] <;> rfl) | (simp_all [Ty.cells, i_NeedOf, needOf]; done)
theorem holds_i_NeedOf : Holds Tryz.prog 66 run_i_NeedOf := by
  refine holds_of_eval (engQ_ok ctrU_ok mctC_ok pct0_ok tct0_ok) (fn_ok (by kernel_rfl)) ?_
  intro avs rs hr h
  have hb := allB_of_rep hr
  unfold run_i_NeedOf at h
  split at h
  · rename_i a0
    obtain ⟨hc, rfl⟩ := some_pair h
    obtain ⟨N, hN⟩ := law_i_NeedOf a0 hb hc
    exact ⟨tmsOf [], N, 12, (nf_i_NeedOf N a0).trans hN⟩
  · cases h

def faultExit (p : Int) (w : Bool) : GExit := ⟨1, p, w, 0⟩
def callExit (n : Int) : GExit := ⟨2, 0, false, n⟩
def outExit (n : Int) : GExit := ⟨3, 0, false, n⟩
@[simp, reducible] def s_FaultExit_c (p : Int) (w : Bool) : Bool := true
@[simp, reducible] def s_FaultExit (p : Int) (w : Bool) : GExit := faultExit p w
noncomputable def run_s_FaultExit : List AV → Option (Bool × List AV)
  | [.one (.i .i64 a0), .one (.b a1)] => some ((s_FaultExit_c a0 a1), [.agg (exitC (s_FaultExit a0 a1))])
  | _ => none

noncomputable def E_s_FaultExit (N : Nat) (a0 : Int) (a1 : Bool) : Option Ans :=
  (some [(.agg [(.i .i64 1), (.i .i64 a0), (.b a1), (.i .i64 0)])])

theorem nf_s_FaultExit (N : Nat) (a0 : Int) (a1 : Bool) : evalFn (cfgQ (aget ctrU) (aget mctC) (aget pct0) (aget tct0)) (tmsOf []) N 12 43 [.one (.i .i64 a0), .one (.b a1)] = E_s_FaultExit N a0 a1 := by kernel_rfl

theorem law_s_FaultExit (a0 : Int) (a1 : Bool) (hb : AllB big [.one (.i .i64 a0), .one (.b a1)]) (hc : (s_FaultExit_c a0 a1) = true) : ∃ N, E_s_FaultExit N a0 a1 = some [.agg (exitC (s_FaultExit a0 a1))] := by
  refine ⟨0, ?_⟩
  unfold E_s_FaultExit
  first | rfl | (simp only [s_FaultExit, cT, cF] <;> rfl) | (simp_all [Ty.cells, s_FaultExit]; done)
theorem holds_s_FaultExit : Holds Tryz.prog 43 run_s_FaultExit := by
  refine holds_of_eval (engQ_ok ctrU_ok mctC_ok pct0_ok tct0_ok) (fn_ok (by kernel_rfl)) ?_
  intro avs rs hr h
  have hb := allB_of_rep hr
  unfold run_s_FaultExit at h
  split at h
  · rename_i a0 a1
    obtain ⟨hc, rfl⟩ := some_pair h
    obtain ⟨N, hN⟩ := law_s_FaultExit a0 a1 hb hc
    exact ⟨tmsOf [], N, 12, (nf_s_FaultExit N a0 a1).trans hN⟩
  · cases h

@[simp, reducible] def i_FaultExit_c (p : Int) (w : Bool) : Bool := true
@[simp, reducible] def i_FaultExit (p : Int) (w : Bool) : GExit := faultExit p w
noncomputable def run_i_FaultExit : List AV → Option (Bool × List AV)
  | [.one (.i .i64 a0), .one (.b a1)] => some ((i_FaultExit_c a0 a1), [.agg (exitC (i_FaultExit a0 a1))])
  | _ => none

noncomputable def E_i_FaultExit (N : Nat) (a0 : Int) (a1 : Bool) : Option Ans :=
  (some [(.agg [(.i .i64 1), (.i .i64 a0), (.b a1), (.i .i64 0)])])

theorem nf_i_FaultExit (N : Nat) (a0 : Int) (a1 : Bool) : evalFn (cfgQ (aget ctrU) (aget mctC) (aget pct0) (aget tct0)) (tmsOf []) N 12 68 [.one (.i .i64 a0), .one (.b a1)] = E_i_FaultExit N a0 a1 := by kernel_rfl

theorem law_i_FaultExit (a0 : Int) (a1 : Bool) (hb : AllB big [.one (.i .i64 a0), .one (.b a1)]) (hc : (i_FaultExit_c a0 a1) = true) : ∃ N, E_i_FaultExit N a0 a1 = some [.agg (exitC (i_FaultExit a0 a1))] := by
  refine ⟨0, ?_⟩
  unfold E_i_FaultExit
  first | rfl | (simp only [i_FaultExit, cT, cF] <;> rfl) | (simp_all [Ty.cells, i_FaultExit]; done)
theorem holds_i_FaultExit : Holds Tryz.prog 68 run_i_FaultExit := by
  refine holds_of_eval (engQ_ok ctrU_ok mctC_ok pct0_ok tct0_ok) (fn_ok (by kernel_rfl)) ?_
  intro avs rs hr h
  have hb := allB_of_rep hr
  unfold run_i_FaultExit at h
  split at h
  · rename_i a0 a1
    obtain ⟨hc, rfl⟩ := some_pair h
    obtain ⟨N, hN⟩ := law_i_FaultExit a0 a1 hb hc
    exact ⟨tmsOf [], N, 12, (nf_i_FaultExit N a0 a1).trans hN⟩
  · cases h

@[simp, reducible] def s_CallExit_c (n : Int) : Bool := true
@[simp, reducible] def s_CallExit (n : Int) : GExit := callExit n
noncomputable def run_s_CallExit : List AV → Option (Bool × List AV)
  | [.one (.i .i64 a0)] => some ((s_CallExit_c a0), [.agg (exitC (s_CallExit a0))])
  | _ => none

noncomputable def E_s_CallExit (N : Nat) (a0 : Int) : Option Ans :=
  (some [(.agg [(.i .i64 2), (.i .i64 0), (.b false), (.i .i64 a0)])])

theorem nf_s_CallExit (N : Nat) (a0 : Int) : evalFn (cfgQ (aget ctrU) (aget mctC) (aget pct0) (aget tct0)) (tmsOf []) N 12 104 [.one (.i .i64 a0)] = E_s_CallExit N a0 := by kernel_rfl

theorem law_s_CallExit (a0 : Int) (hb : AllB big [.one (.i .i64 a0)]) (hc : (s_CallExit_c a0) = true) : ∃ N, E_s_CallExit N a0 = some [.agg (exitC (s_CallExit a0))] := by
  refine ⟨0, ?_⟩
  unfold E_s_CallExit
  first | rfl | (simp only [s_CallExit, cT, cF] <;> rfl) | (simp_all [Ty.cells, s_CallExit]; done)
theorem holds_s_CallExit : Holds Tryz.prog 104 run_s_CallExit := by
  refine holds_of_eval (engQ_ok ctrU_ok mctC_ok pct0_ok tct0_ok) (fn_ok (by kernel_rfl)) ?_
  intro avs rs hr h
  have hb := allB_of_rep hr
  unfold run_s_CallExit at h
  split at h
  · rename_i a0
    obtain ⟨hc, rfl⟩ := some_pair h
    obtain ⟨N, hN⟩ := law_s_CallExit a0 hb hc
    exact ⟨tmsOf [], N, 12, (nf_s_CallExit N a0).trans hN⟩
  · cases h

@[simp, reducible] def i_CallExit_c (n : Int) : Bool := true
@[simp, reducible] def i_CallExit (n : Int) : GExit := callExit n
noncomputable def run_i_CallExit : List AV → Option (Bool × List AV)
  | [.one (.i .i64 a0)] => some ((i_CallExit_c a0), [.agg (exitC (i_CallExit a0))])
  | _ => none

noncomputable def E_i_CallExit (N : Nat) (a0 : Int) : Option Ans :=
  (some [(.agg [(.i .i64 2), (.i .i64 0), (.b false), (.i .i64 a0)])])

theorem nf_i_CallExit (N : Nat) (a0 : Int) : evalFn (cfgQ (aget ctrU) (aget mctC) (aget pct0) (aget tct0)) (tmsOf []) N 12 74 [.one (.i .i64 a0)] = E_i_CallExit N a0 := by kernel_rfl

theorem law_i_CallExit (a0 : Int) (hb : AllB big [.one (.i .i64 a0)]) (hc : (i_CallExit_c a0) = true) : ∃ N, E_i_CallExit N a0 = some [.agg (exitC (i_CallExit a0))] := by
  refine ⟨0, ?_⟩
  unfold E_i_CallExit
  first | rfl | (simp only [i_CallExit, cT, cF] <;> rfl) | (simp_all [Ty.cells, i_CallExit]; done)
theorem holds_i_CallExit : Holds Tryz.prog 74 run_i_CallExit := by
  refine holds_of_eval (engQ_ok ctrU_ok mctC_ok pct0_ok tct0_ok) (fn_ok (by kernel_rfl)) ?_
  intro avs rs hr h
  have hb := allB_of_rep hr
  unfold run_i_CallExit at h
  split at h
  · rename_i a0
    obtain ⟨hc, rfl⟩ := some_pair h
    obtain ⟨N, hN⟩ := law_i_CallExit a0 hb hc
    exact ⟨tmsOf [], N, 12, (nf_i_CallExit N a0).trans hN⟩
  · cases h

@[simp, reducible] def s_OutExit_c (n : Int) : Bool := true
@[simp, reducible] def s_OutExit (n : Int) : GExit := outExit n
noncomputable def run_s_OutExit : List AV → Option (Bool × List AV)
  | [.one (.i .i64 a0)] => some ((s_OutExit_c a0), [.agg (exitC (s_OutExit a0))])
  | _ => none

noncomputable def E_s_OutExit (N : Nat) (a0 : Int) : Option Ans :=
  (some [(.agg [(.i .i64 3), (.i .i64 0), (.b false), (.i .i64 a0)])])

theorem nf_s_OutExit (N : Nat) (a0 : Int) : evalFn (cfgQ (aget ctrU) (aget mctC) (aget pct0) (aget tct0)) (tmsOf []) N 12 106 [.one (.i .i64 a0)] = E_s_OutExit N a0 := by kernel_rfl

theorem law_s_OutExit (a0 : Int) (hb : AllB big [.one (.i .i64 a0)]) (hc : (s_OutExit_c a0) = true) : ∃ N, E_s_OutExit N a0 = some [.agg (exitC (s_OutExit a0))] := by
  refine ⟨0, ?_⟩
  unfold E_s_OutExit
  first | rfl | (simp only [s_OutExit, cT, cF] <;> rfl) | (simp_all [Ty.cells, s_OutExit]; done)
theorem holds_s_OutExit : Holds Tryz.prog 106 run_s_OutExit := by
  refine holds_of_eval (engQ_ok ctrU_ok mctC_ok pct0_ok tct0_ok) (fn_ok (by kernel_rfl)) ?_
  intro avs rs hr h
  have hb := allB_of_rep hr
  unfold run_s_OutExit at h
  split at h
  · rename_i a0
    obtain ⟨hc, rfl⟩ := some_pair h
    obtain ⟨N, hN⟩ := law_s_OutExit a0 hb hc
    exact ⟨tmsOf [], N, 12, (nf_s_OutExit N a0).trans hN⟩
  · cases h

@[simp, reducible] def i_OutExit_c (n : Int) : Bool := true
@[simp, reducible] def i_OutExit (n : Int) : GExit := outExit n
noncomputable def run_i_OutExit : List AV → Option (Bool × List AV)
  | [.one (.i .i64 a0)] => some ((i_OutExit_c a0), [.agg (exitC (i_OutExit a0))])
  | _ => none

noncomputable def E_i_OutExit (N : Nat) (a0 : Int) : Option Ans :=
  (some [(.agg [(.i .i64 3), (.i .i64 0), (.b false), (.i .i64 a0)])])

theorem nf_i_OutExit (N : Nat) (a0 : Int) : evalFn (cfgQ (aget ctrU) (aget mctC) (aget pct0) (aget tct0)) (tmsOf []) N 12 124 [.one (.i .i64 a0)] = E_i_OutExit N a0 := by kernel_rfl

theorem law_i_OutExit (a0 : Int) (hb : AllB big [.one (.i .i64 a0)]) (hc : (i_OutExit_c a0) = true) : ∃ N, E_i_OutExit N a0 = some [.agg (exitC (i_OutExit a0))] := by
  refine ⟨0, ?_⟩
  unfold E_i_OutExit
  first | rfl | (simp only [i_OutExit, cT, cF] <;> rfl) | (simp_all [Ty.cells, i_OutExit]; done)
theorem holds_i_OutExit : Holds Tryz.prog 124 run_i_OutExit := by
  refine holds_of_eval (engQ_ok ctrU_ok mctC_ok pct0_ok tct0_ok) (fn_ok (by kernel_rfl)) ?_
  intro avs rs hr h
  have hb := allB_of_rep hr
  unfold run_i_OutExit at h
  split at h
  · rename_i a0
    obtain ⟨hc, rfl⟩ := some_pair h
    obtain ⟨N, hN⟩ := law_i_OutExit a0 hb hc
    exact ⟨tmsOf [], N, 12, (nf_i_OutExit N a0).trans hN⟩
  · cases h

def hasTrap (t x : Int) : Bool := bif win t 0 3 then (bif win x 1 2 then ine (wand .i64 t x) 0 else false) else false
theorem win12 (x : Int) : win x 1 2 = (ieq x 1 || ieq x 2) := by
  have h : (win x 1 2 = true) ↔ (ieq x 1 || ieq x 2) = true := by
    rw [win_true]
    simp only [ieq, Bool.or_eq_true, beq_iff_eq]
    omega
  cases h1 : win x 1 2 <;> cases h2 : (ieq x 1 || ieq x 2) <;> simp_all
@[simp, reducible] def s_HasTrap_c (t x : Int) : Bool := true
@[simp, reducible] def s_HasTrap (t x : Int) : Bool := hasTrap t x
noncomputable def run_s_HasTrap : List AV → Option (Bool × List AV)
  | [.one (.i .i64 a0), .one (.i .i64 a1)] => some ((s_HasTrap_c a0 a1), [.one (.b (s_HasTrap a0 a1))])
  | _ => none

noncomputable def E_s_HasTrap (N : Nat) (a0 : Int) (a1 : Int) : Option Ans :=
  (bif (s_l01In_c a0 0 3) then (bif (s_l01In a0 0 3) then (bif (s_l01In_c a1 1 2) then (bif (s_l01In a1 1 2) then (some [(.one (.b (ine (wand .i64 a0 a1) 0)))]) else (some [(.one (.b false))])) else none) else (some [(.one (.b false))])) else none)

theorem nf_s_HasTrap (N : Nat) (a0 : Int) (a1 : Int) : evalFn (cfgQ (aget ctrU) (aget mctC) (aget pct0) (aget tct0)) (tmsOf []) N 12 105 [.one (.i .i64 a0), .one (.i .i64 a1)] = E_s_HasTrap N a0 a1 := by kernel_rfl

theorem law_s_HasTrap (a0 : Int) (a1 : Int) (hb : AllB big [.one (.i .i64 a0), .one (.i .i64 a1)]) (hc : (s_HasTrap_c a0 a1) = true) : ∃ N, E_s_HasTrap N a0 a1 = some [.one (.b (s_HasTrap a0 a1))] := by
  refine ⟨0, ?_⟩
  unfold E_s_HasTrap
  refine must rfl ?_
  refine br (fun h0 => ?_) (fun h0 => ?_)
  · refine must rfl ?_
    refine br (fun h1 => ?_) (fun h1 => ?_)
    · first | rfl | (simp only [h0, h1, s_HasTrap, hasTrap, cT, cF] <;> rfl) | (simp_all [Ty.cells, s_HasTrap, hasTrap]; done)
    · first | rfl | (simp only [h0, h1, s_HasTrap, hasTrap, cT, cF] <;> rfl) | (simp_all [Ty.cells, s_HasTrap, hasTrap]; done)
  · first | rfl | (simp only [h0, s_HasTrap, hasTrap, cT, cF] <;> rfl) | (simp_all [Ty.cells, s_HasTrap, hasTrap]; done)
theorem holds_s_HasTrap : Holds Tryz.prog 105 run_s_HasTrap := by
  refine holds_of_eval (engQ_ok ctrU_ok mctC_ok pct0_ok tct0_ok) (fn_ok (by kernel_rfl)) ?_
  intro avs rs hr h
  have hb := allB_of_rep hr
  unfold run_s_HasTrap at h
  split at h
  · rename_i a0 a1
    obtain ⟨hc, rfl⟩ := some_pair h
    obtain ⟨N, hN⟩ := law_s_HasTrap a0 a1 hb hc
    exact ⟨tmsOf [], N, 12, (nf_s_HasTrap N a0 a1).trans hN⟩
  · cases h

@[simp, reducible] def i_HasTrap_c (t x : Int) : Bool := true
@[simp, reducible] def i_HasTrap (t x : Int) : Bool := hasTrap t x
noncomputable def run_i_HasTrap : List AV → Option (Bool × List AV)
  | [.one (.i .i64 a0), .one (.i .i64 a1)] => some ((i_HasTrap_c a0 a1), [.one (.b (i_HasTrap a0 a1))])
  | _ => none

noncomputable def E_i_HasTrap (N : Nat) (a0 : Int) (a1 : Int) : Option Ans :=
  (bif (i_within_c a0 0 3) then (bif (i_within a0 0 3) then (bif (ieq a1 1) then (some [(.one (.b (ine (wand .i64 a0 a1) 0)))]) else (bif (ieq a1 2) then (some [(.one (.b (ine (wand .i64 a0 a1) 0)))]) else (some [(.one (.b false))]))) else (some [(.one (.b false))])) else none)

theorem nf_i_HasTrap (N : Nat) (a0 : Int) (a1 : Int) : evalFn (cfgQ (aget ctrU) (aget mctC) (aget pct0) (aget tct0)) (tmsOf []) N 12 75 [.one (.i .i64 a0), .one (.i .i64 a1)] = E_i_HasTrap N a0 a1 := by kernel_rfl

theorem law_i_HasTrap (a0 : Int) (a1 : Int) (hb : AllB big [.one (.i .i64 a0), .one (.i .i64 a1)]) (hc : (i_HasTrap_c a0 a1) = true) : ∃ N, E_i_HasTrap N a0 a1 = some [.one (.b (i_HasTrap a0 a1))] := by
  refine ⟨0, ?_⟩
  unfold E_i_HasTrap
  refine must rfl ?_
  refine br (fun h0 => ?_) (fun h0 => ?_)
  · refine br (fun h1 => ?_) (fun h1 => ?_)
    · first | rfl | (simp only [h0, h1, i_HasTrap, hasTrap, win12, cT, cF] <;> rfl) | (simp_all [Ty.cells, i_HasTrap, hasTrap, win12]; done)
    · refine br (fun h2 => ?_) (fun h2 => ?_)
      · first | rfl | (simp only [h0, h1, h2, i_HasTrap, hasTrap, win12, cT, cF] <;> rfl) | (simp_all [Ty.cells, i_HasTrap, hasTrap, win12]; done)
      · first | rfl | (simp only [h0, h1, h2, i_HasTrap, hasTrap, win12, cT, cF] <;> rfl) | (simp_all [Ty.cells, i_HasTrap, hasTrap, win12]; done)
  · first | rfl | (simp only [h0, i_HasTrap, hasTrap, win12, cT, cF] <;> rfl) | (simp_all [Ty.cells, i_HasTrap, hasTrap, win12]; done)
theorem holds_i_HasTrap : Holds Tryz.prog 75 run_i_HasTrap := by
  refine holds_of_eval (engQ_ok ctrU_ok mctC_ok pct0_ok tct0_ok) (fn_ok (by kernel_rfl)) ?_
  intro avs rs hr h
  have hb := allB_of_rep hr
  unfold run_i_HasTrap at h
  split at h
  · rename_i a0 a1
    obtain ⟨hc, rfl⟩ := some_pair h
    obtain ⟨N, hN⟩ := law_i_HasTrap a0 a1 hb hc
    exact ⟨tmsOf [], N, 12, (nf_i_HasTrap N a0 a1).trans hN⟩
  · cases h

def pendOk (p : Int) : Bool := win p 0 255
@[simp, reducible] def s_PendOk_c (p : Int) : Bool := true
@[simp, reducible] def s_PendOk (p : Int) : Bool := pendOk p
noncomputable def run_s_PendOk : List AV → Option (Bool × List AV)
  | [.one (.i .i64 a0)] => some ((s_PendOk_c a0), [.one (.b (s_PendOk a0))])
  | _ => none

noncomputable def E_s_PendOk (N : Nat) (a0 : Int) : Option Ans :=
  (bif (s_l01In_c a0 0 255) then (some [(.one (.b (s_l01In a0 0 255)))]) else none)

theorem nf_s_PendOk (N : Nat) (a0 : Int) : evalFn (cfgQ (aget ctrU) (aget mctC) (aget pct0) (aget tct0)) (tmsOf []) N 12 97 [.one (.i .i64 a0)] = E_s_PendOk N a0 := by kernel_rfl

theorem law_s_PendOk (a0 : Int) (hb : AllB big [.one (.i .i64 a0)]) (hc : (s_PendOk_c a0) = true) : ∃ N, E_s_PendOk N a0 = some [.one (.b (s_PendOk a0))] := by
  refine ⟨0, ?_⟩
  unfold E_s_PendOk
  refine must rfl ?_
  first | rfl | (simp only [s_PendOk, pendOk, cT, cF] <;> rfl) | (simp_all [Ty.cells, s_PendOk, pendOk]; done)
theorem holds_s_PendOk : Holds Tryz.prog 97 run_s_PendOk := by
  refine holds_of_eval (engQ_ok ctrU_ok mctC_ok pct0_ok tct0_ok) (fn_ok (by kernel_rfl)) ?_
  intro avs rs hr h
  have hb := allB_of_rep hr
  unfold run_s_PendOk at h
  split at h
  · rename_i a0
    obtain ⟨hc, rfl⟩ := some_pair h
    obtain ⟨N, hN⟩ := law_s_PendOk a0 hb hc
    exact ⟨tmsOf [], N, 12, (nf_s_PendOk N a0).trans hN⟩
  · cases h

@[simp, reducible] def i_PendOk_c (p : Int) : Bool := true
@[simp, reducible] def i_PendOk (p : Int) : Bool := pendOk p
noncomputable def run_i_PendOk : List AV → Option (Bool × List AV)
  | [.one (.i .i64 a0)] => some ((i_PendOk_c a0), [.one (.b (i_PendOk a0))])
  | _ => none

noncomputable def E_i_PendOk (N : Nat) (a0 : Int) : Option Ans :=
  (bif (i_within_c a0 0 255) then (some [(.one (.b (i_within a0 0 255)))]) else none)

theorem nf_i_PendOk (N : Nat) (a0 : Int) : evalFn (cfgQ (aget ctrU) (aget mctC) (aget pct0) (aget tct0)) (tmsOf []) N 12 119 [.one (.i .i64 a0)] = E_i_PendOk N a0 := by kernel_rfl

theorem law_i_PendOk (a0 : Int) (hb : AllB big [.one (.i .i64 a0)]) (hc : (i_PendOk_c a0) = true) : ∃ N, E_i_PendOk N a0 = some [.one (.b (i_PendOk a0))] := by
  refine ⟨0, ?_⟩
  unfold E_i_PendOk
  refine must rfl ?_
  first | rfl | (simp only [i_PendOk, pendOk, cT, cF] <;> rfl) | (simp_all [Ty.cells, i_PendOk, pendOk]; done)
theorem holds_i_PendOk : Holds Tryz.prog 119 run_i_PendOk := by
  refine holds_of_eval (engQ_ok ctrU_ok mctC_ok pct0_ok tct0_ok) (fn_ok (by kernel_rfl)) ?_
  intro avs rs hr h
  have hb := allB_of_rep hr
  unfold run_i_PendOk at h
  split at h
  · rename_i a0
    obtain ⟨hc, rfl⟩ := some_pair h
    obtain ⟨N, hN⟩ := law_i_PendOk a0 hb hc
    exact ⟨tmsOf [], N, 12, (nf_i_PendOk N a0).trans hN⟩
  · cases h

def insAt (l : List Ins) (p : Int) : Ins := bif hasB p (ln l) then ix l p (Ty.dflt .ins) else ⟨7, 0⟩
@[simp, reducible] def s_InsAt_c (l : List Ins) (p : Int) : Bool := true
@[simp, reducible] def s_InsAt (l : List Ins) (p : Int) : Ins := insAt l p
noncomputable def run_s_InsAt : List AV → Option (Bool × List AV)
  | [.one (.s .ins a0), .one (.i .i64 a1)] => some ((s_InsAt_c a0 a1), [.agg (Ty.cells .ins (s_InsAt a0 a1))])
  | _ => none

noncomputable def E_s_InsAt (N : Nat) (a0 : List Ins) (a1 : Int) : Option Ans :=
  (bif (s_l01In_c a1 0 (wsub .i64 (ln a0) 1)) then (bif (bif (s_l01In a1 0 (wsub .i64 (ln a0) 1)) then false else true) then (some [(.agg [(.i .i64 7), (.i .i64 0)])]) else (bif (inb a1 (ln a0)) then (some [(.agg [(.i .i64 (ix a0 a1 (Ty.dflt .ins)).Op), (.i .i64 (ix a0 a1 (Ty.dflt .ins)).X)])]) else none)) else none)

theorem nf_s_InsAt (N : Nat) (a0 : List Ins) (a1 : Int) : evalFn (cfgQ (aget ctrU) (aget mctC) (aget pct0) (aget tct0)) (tmsOf []) N 12 51 [.one (.s .ins a0), .one (.i .i64 a1)] = E_s_InsAt N a0 a1 := by kernel_rfl

theorem law_s_InsAt (a0 : List Ins) (a1 : Int) (hb : AllB big [.one (.s .ins a0), .one (.i .i64 a1)]) (hc : (s_InsAt_c a0 a1) = true) : ∃ N, E_s_InsAt N a0 a1 = some [.agg (Ty.cells .ins (s_InsAt a0 a1))] := by
  have hl := ((allB_cons hb).1 _ (List.mem_singleton.2 rfl)).len; have hw := win_has' hl
  refine ⟨0, ?_⟩
  unfold E_s_InsAt
  refine must rfl ?_
  refine brN (fun h0 => ?_) (fun h0 => ?_)
  · first | rfl | (simp only [h0, s_InsAt, insAt, cT, cF] <;> rfl) | (simp_all [Ty.cells, s_InsAt, insAt]; done)
  · refine must (by first | assumption | (simp_all <;> omega)) ?_
    first | rfl | (simp only [h0, s_InsAt, insAt, cT, cF] <;> rfl) | (simp_all [Ty.cells, s_InsAt, insAt]; done)
theorem holds_s_InsAt : Holds Tryz.prog 51 run_s_InsAt := by
  refine holds_of_eval (engQ_ok ctrU_ok mctC_ok pct0_ok tct0_ok) (fn_ok (by kernel_rfl)) ?_
  intro avs rs hr h
  have hb := allB_of_rep hr
  unfold run_s_InsAt at h
  split at h
  · rename_i a0 a1
    obtain ⟨hc, rfl⟩ := some_pair h
    obtain ⟨N, hN⟩ := law_s_InsAt a0 a1 hb hc
    exact ⟨tmsOf [], N, 12, (nf_s_InsAt N a0 a1).trans hN⟩
  · cases h

@[simp, reducible] def i_InsAt_c (l : List Ins) (p : Int) : Bool := true
@[simp, reducible] def i_InsAt (l : List Ins) (p : Int) : Ins := insAt l p
noncomputable def run_i_InsAt : List AV → Option (Bool × List AV)
  | [.one (.s .ins a0), .one (.i .i64 a1)] => some ((i_InsAt_c a0 a1), [.agg (Ty.cells .ins (i_InsAt a0 a1))])
  | _ => none

noncomputable def E_i_InsAt (N : Nat) (a0 : List Ins) (a1 : Int) : Option Ans :=
  (bif (i_has_c a1 (ln a0)) then (bif (bif (i_has a1 (ln a0)) then false else true) then (some [(.agg [(.i .i64 7), (.i .i64 0)])]) else (bif (inb a1 (ln a0)) then (some [(.agg [(.i .i64 (ix a0 a1 (Ty.dflt .ins)).Op), (.i .i64 (ix a0 a1 (Ty.dflt .ins)).X)])]) else none)) else none)

theorem nf_i_InsAt (N : Nat) (a0 : List Ins) (a1 : Int) : evalFn (cfgQ (aget ctrU) (aget mctC) (aget pct0) (aget tct0)) (tmsOf []) N 12 60 [.one (.s .ins a0), .one (.i .i64 a1)] = E_i_InsAt N a0 a1 := by kernel_rfl

theorem law_i_InsAt (a0 : List Ins) (a1 : Int) (hb : AllB big [.one (.s .ins a0), .one (.i .i64 a1)]) (hc : (i_InsAt_c a0 a1) = true) : ∃ N, E_i_InsAt N a0 a1 = some [.agg (Ty.cells .ins (i_InsAt a0 a1))] := by
  refine ⟨0, ?_⟩
  unfold E_i_InsAt
  refine must rfl ?_
  refine brN (fun h0 => ?_) (fun h0 => ?_)
  · first | rfl | (simp only [h0, i_InsAt, insAt, cT, cF] <;> rfl) | (simp_all [Ty.cells, i_InsAt, insAt]; done)
  · refine must (by first | assumption | (simp_all <;> omega)) ?_
    first | rfl | (simp only [h0, i_InsAt, insAt, cT, cF] <;> rfl) | (simp_all [Ty.cells, i_InsAt, insAt]; done)
theorem holds_i_InsAt : Holds Tryz.prog 60 run_i_InsAt := by
  refine holds_of_eval (engQ_ok ctrU_ok mctC_ok pct0_ok tct0_ok) (fn_ok (by kernel_rfl)) ?_
  intro avs rs hr h
  have hb := allB_of_rep hr
  unfold run_i_InsAt at h
  split at h
  · rename_i a0 a1
    obtain ⟨hc, rfl⟩ := some_pair h
    obtain ⟨N, hN⟩ := law_i_InsAt a0 a1 hb hc
    exact ⟨tmsOf [], N, 12, (nf_i_InsAt N a0 a1).trans hN⟩
  · cases h

def trapOf (w : Int) : Int := bif ieq w 5 then 1 else 2
@[simp, reducible] def i_trapOf_c (w : Int) : Bool := true
@[simp, reducible] def i_trapOf (w : Int) : Int := trapOf w
noncomputable def run_i_trapOf : List AV → Option (Bool × List AV)
  | [.one (.i .i64 a0)] => some ((i_trapOf_c a0), [.one (.i .i64 (i_trapOf a0))])
  | _ => none

noncomputable def E_i_trapOf (N : Nat) (a0 : Int) : Option Ans :=
  (bif (ieq a0 5) then (some [(.one (.i .i64 1))]) else (some [(.one (.i .i64 2))]))

theorem nf_i_trapOf (N : Nat) (a0 : Int) : evalFn (cfgQ (aget ctrU) (aget mctC) (aget pct0) (aget tct0)) (tmsOf []) N 12 76 [.one (.i .i64 a0)] = E_i_trapOf N a0 := by kernel_rfl

theorem law_i_trapOf (a0 : Int) (hb : AllB big [.one (.i .i64 a0)]) (hc : (i_trapOf_c a0) = true) : ∃ N, E_i_trapOf N a0 = some [.one (.i .i64 (i_trapOf a0))] := by
  refine ⟨0, ?_⟩
  unfold E_i_trapOf
  refine br (fun h0 => ?_) (fun h0 => ?_)
  · first | rfl | (simp only [h0, i_trapOf, trapOf, cT, cF] <;> rfl) | (simp_all [Ty.cells, i_trapOf, trapOf]; done)
  · first | rfl | (simp only [h0, i_trapOf, trapOf, cT, cF] <;> rfl) | (simp_all [Ty.cells, i_trapOf, trapOf]; done)
theorem holds_i_trapOf : Holds Tryz.prog 76 run_i_trapOf := by
  refine holds_of_eval (engQ_ok ctrU_ok mctC_ok pct0_ok tct0_ok) (fn_ok (by kernel_rfl)) ?_
  intro avs rs hr h
  have hb := allB_of_rep hr
  unfold run_i_trapOf at h
  split at h
  · rename_i a0
    obtain ⟨hc, rfl⟩ := some_pair h
    obtain ⟨N, hN⟩ := law_i_trapOf a0 hb hc
    exact ⟨tmsOf [], N, 12, (nf_i_trapOf N a0).trans hN⟩
  · cases h

def slotOk (s : Slot) (n : Int) : Bool := bif slotEq s noSlot then true else (bif igt n 0 then (bif win s.Page 0 (wsub .i64 n 1) then win s.Rights 1 3 else false) else false)
@[simp, reducible] def s_SlotOk_c (s : Slot) (n : Int) : Bool := true
@[simp, reducible] def s_SlotOk (s : Slot) (n : Int) : Bool := slotOk s n
noncomputable def run_s_SlotOk : List AV → Option (Bool × List AV)
  | [.agg [.i .i64 a0_0, .i .i64 a0_1], .one (.i .i64 a1)] => some ((s_SlotOk_c (⟨a0_0, a0_1⟩ : Slot) a1), [.one (.b (s_SlotOk (⟨a0_0, a0_1⟩ : Slot) a1))])
  | _ => none

noncomputable def E_s_SlotOk (N : Nat) (a0 : Slot) (a1 : Int) : Option Ans :=
  (bif s_NoSlot_c then (bif (bif (ieq a0.Page s_NoSlot.Page) then (ieq a0.Rights s_NoSlot.Rights) else false) then (some [(.one (.b true))]) else (bif (s_l01In_c a0.Page 0 (wsub .i64 a1 1)) then (bif (s_l01In a0.Page 0 (wsub .i64 a1 1)) then (bif (igt a1 0) then (bif (s_l01In_c a0.Rights 1 3) then (some [(.one (.b (s_l01In a0.Rights 1 3)))]) else none) else (some [(.one (.b false))])) else (some [(.one (.b false))])) else none)) else none)

theorem nf_s_SlotOk (N : Nat) (a0 : Slot) (a1 : Int) : evalFn (cfgQ (aget ctrU) (aget mctC) (aget pct0) (aget tct0)) (tmsOf []) N 12 155 [.agg (Ty.cells .slot a0), .one (.i .i64 a1)] = E_s_SlotOk N a0 a1 := by kernel_rfl

theorem law_s_SlotOk (a0 : Slot) (a1 : Int) (hb : AllB big [.agg (Ty.cells .slot a0), .one (.i .i64 a1)]) (hc : (s_SlotOk_c a0 a1) = true) : ∃ N, E_s_SlotOk N a0 a1 = some [.one (.b (s_SlotOk a0 a1))] := by
  refine ⟨0, ?_⟩
  unfold E_s_SlotOk
  refine must rfl ?_
  refine br (fun h0 => ?_) (fun h0 => ?_)
  · first | rfl | (simp only [h0, s_SlotOk, slotOk, slotEq, cT, cF] <;> rfl) | (simp_all [Ty.cells, s_SlotOk, slotOk, slotEq]; done)
  · refine must rfl ?_
    refine br (fun h1 => ?_) (fun h1 => ?_)
    · refine br (fun h2 => ?_) (fun h2 => ?_)
      · refine must rfl ?_
        first | rfl | (simp only [h0, h1, h2, s_SlotOk, slotOk, slotEq, cT, cF] <;> rfl) | (simp_all [Ty.cells, s_SlotOk, slotOk, slotEq]; done)
      · first | rfl | (simp only [h0, h1, h2, s_SlotOk, slotOk, slotEq, cT, cF] <;> rfl) | (simp_all [Ty.cells, s_SlotOk, slotOk, slotEq]; done)
    · first | rfl | (simp only [h0, h1, s_SlotOk, slotOk, slotEq, cT, cF] <;> rfl) | (simp_all [Ty.cells, s_SlotOk, slotOk, slotEq]; done)
theorem holds_s_SlotOk : Holds Tryz.prog 155 run_s_SlotOk := by
  refine holds_of_eval (engQ_ok ctrU_ok mctC_ok pct0_ok tct0_ok) (fn_ok (by kernel_rfl)) ?_
  intro avs rs hr h
  have hb := allB_of_rep hr
  unfold run_s_SlotOk at h
  split at h
  · rename_i a0_0 a0_1 a1
    obtain ⟨hc, rfl⟩ := some_pair h
    obtain ⟨N, hN⟩ := law_s_SlotOk (⟨a0_0, a0_1⟩ : Slot) a1 hb hc
    exact ⟨tmsOf [], N, 12, (nf_s_SlotOk N (⟨a0_0, a0_1⟩ : Slot) a1).trans hN⟩
  · cases h

@[simp, reducible] def i_SlotOk_c (s : Slot) (n : Int) : Bool := true
@[simp, reducible] def i_SlotOk (s : Slot) (n : Int) : Bool := slotOk s n
noncomputable def run_i_SlotOk : List AV → Option (Bool × List AV)
  | [.agg [.i .i64 a0_0, .i .i64 a0_1], .one (.i .i64 a1)] => some ((i_SlotOk_c (⟨a0_0, a0_1⟩ : Slot) a1), [.one (.b (i_SlotOk (⟨a0_0, a0_1⟩ : Slot) a1))])
  | _ => none

noncomputable def E_i_SlotOk (N : Nat) (a0 : Slot) (a1 : Int) : Option Ans :=
  (bif i_NoSlot_c then (bif (bif (ieq a0.Page i_NoSlot.Page) then (ieq a0.Rights i_NoSlot.Rights) else false) then (some [(.one (.b true))]) else (bif (igt a1 0) then (bif (i_within_c a0.Page 0 (wsub .i64 a1 1)) then (bif (i_within a0.Page 0 (wsub .i64 a1 1)) then (bif (i_within_c a0.Rights 1 3) then (some [(.one (.b (i_within a0.Rights 1 3)))]) else none) else (some [(.one (.b false))])) else none) else (some [(.one (.b false))]))) else none)

theorem nf_i_SlotOk (N : Nat) (a0 : Slot) (a1 : Int) : evalFn (cfgQ (aget ctrU) (aget mctC) (aget pct0) (aget tct0)) (tmsOf []) N 12 161 [.agg (Ty.cells .slot a0), .one (.i .i64 a1)] = E_i_SlotOk N a0 a1 := by kernel_rfl

theorem law_i_SlotOk (a0 : Slot) (a1 : Int) (hb : AllB big [.agg (Ty.cells .slot a0), .one (.i .i64 a1)]) (hc : (i_SlotOk_c a0 a1) = true) : ∃ N, E_i_SlotOk N a0 a1 = some [.one (.b (i_SlotOk a0 a1))] := by
  refine ⟨0, ?_⟩
  unfold E_i_SlotOk
  refine must rfl ?_
  refine br (fun h0 => ?_) (fun h0 => ?_)
  · first | rfl | (simp only [h0, i_SlotOk, slotOk, slotEq, cT, cF] <;> rfl) | (simp_all [Ty.cells, i_SlotOk, slotOk, slotEq]; done)
  · refine br (fun h1 => ?_) (fun h1 => ?_)
    · refine must rfl ?_
      refine br (fun h2 => ?_) (fun h2 => ?_)
      · refine must rfl ?_
        first | rfl | (simp only [h0, h1, h2, i_SlotOk, slotOk, slotEq, cT, cF] <;> rfl) | (simp_all [Ty.cells, i_SlotOk, slotOk, slotEq]; done)
      · first | rfl | (simp only [h0, h1, h2, i_SlotOk, slotOk, slotEq, cT, cF] <;> rfl) | (simp_all [Ty.cells, i_SlotOk, slotOk, slotEq]; done)
    · first | rfl | (simp only [h0, h1, i_SlotOk, slotOk, slotEq, cT, cF] <;> rfl) | (simp_all [Ty.cells, i_SlotOk, slotOk, slotEq]; done)
theorem holds_i_SlotOk : Holds Tryz.prog 161 run_i_SlotOk := by
  refine holds_of_eval (engQ_ok ctrU_ok mctC_ok pct0_ok tct0_ok) (fn_ok (by kernel_rfl)) ?_
  intro avs rs hr h
  have hb := allB_of_rep hr
  unfold run_i_SlotOk at h
  split at h
  · rename_i a0_0 a0_1 a1
    obtain ⟨hc, rfl⟩ := some_pair h
    obtain ⟨N, hN⟩ := law_i_SlotOk (⟨a0_0, a0_1⟩ : Slot) a1 hb hc
    exact ⟨tmsOf [], N, 12, (nf_i_SlotOk N (⟨a0_0, a0_1⟩ : Slot) a1).trans hN⟩
  · cases h

@[simp, reducible] noncomputable def i_copyTable_c (l : List Slot) : Bool := pc (l.length ≤ 2147483648)
@[simp, reducible] def i_copyTable (l : List Slot) : List Slot := l
noncomputable def run_i_copyTable : List AV → Option (Bool × List AV)
  | [.one (.s .slot a0)] => some ((i_copyTable_c a0), [.one (.s .slot (i_copyTable a0))])
  | _ => none

noncomputable def E_i_copyTable (N : Nat) (a0 : List Slot) : Option Ans :=
  (bif (few (ln (ap [] a0))) then (some [(.one (.s .slot (ap [] a0)))]) else none)

theorem nf_i_copyTable (N : Nat) (a0 : List Slot) : evalFn (cfgQ (aget ctrU) (aget mctC) (aget pct0) (aget tct0)) (tmsOf []) N 12 141 [.one (.s .slot a0)] = E_i_copyTable N a0 := by kernel_rfl

theorem law_i_copyTable (a0 : List Slot) (hb : AllB big [.one (.s .slot a0)]) (hc : (i_copyTable_c a0) = true) : ∃ N, E_i_copyTable N a0 = some [.one (.s .slot (i_copyTable a0))] := by
  have hs := pc_iff.1 hc
  refine ⟨0, ?_⟩
  unfold E_i_copyTable
  refine must (by first | assumption | (simp_all <;> omega)) ?_
  first | rfl | (simp only [i_copyTable, cT, cF] <;> rfl) | (simp_all [Ty.cells, i_copyTable]; done)
theorem holds_i_copyTable : Holds Tryz.prog 141 run_i_copyTable := by
  refine holds_of_eval (engQ_ok ctrU_ok mctC_ok pct0_ok tct0_ok) (fn_ok (by kernel_rfl)) ?_
  intro avs rs hr h
  have hb := allB_of_rep hr
  unfold run_i_copyTable at h
  split at h
  · rename_i a0
    obtain ⟨hc, rfl⟩ := some_pair h
    obtain ⟨N, hN⟩ := law_i_copyTable a0 hb hc
    exact ⟨tmsOf [], N, 12, (nf_i_copyTable N a0).trans hN⟩
  · cases h

@[simp, reducible] noncomputable def i_copyProg_c (l : List Ins) : Bool := pc (l.length ≤ 2147483648)
@[simp, reducible] def i_copyProg (l : List Ins) : List Ins := l
noncomputable def run_i_copyProg : List AV → Option (Bool × List AV)
  | [.one (.s .ins a0)] => some ((i_copyProg_c a0), [.one (.s .ins (i_copyProg a0))])
  | _ => none

noncomputable def E_i_copyProg (N : Nat) (a0 : List Ins) : Option Ans :=
  (bif (few (ln (ap [] a0))) then (some [(.one (.s .ins (ap [] a0)))]) else none)

theorem nf_i_copyProg (N : Nat) (a0 : List Ins) : evalFn (cfgQ (aget ctrU) (aget mctC) (aget pct0) (aget tct0)) (tmsOf []) N 12 140 [.one (.s .ins a0)] = E_i_copyProg N a0 := by kernel_rfl

theorem law_i_copyProg (a0 : List Ins) (hb : AllB big [.one (.s .ins a0)]) (hc : (i_copyProg_c a0) = true) : ∃ N, E_i_copyProg N a0 = some [.one (.s .ins (i_copyProg a0))] := by
  have hs := pc_iff.1 hc
  refine ⟨0, ?_⟩
  unfold E_i_copyProg
  refine must (by first | assumption | (simp_all <;> omega)) ?_
  first | rfl | (simp only [i_copyProg, cT, cF] <;> rfl) | (simp_all [Ty.cells, i_copyProg]; done)
theorem holds_i_copyProg : Holds Tryz.prog 140 run_i_copyProg := by
  refine holds_of_eval (engQ_ok ctrU_ok mctC_ok pct0_ok tct0_ok) (fn_ok (by kernel_rfl)) ?_
  intro avs rs hr h
  have hb := allB_of_rep hr
  unfold run_i_copyProg at h
  split at h
  · rename_i a0
    obtain ⟨hc, rfl⟩ := some_pair h
    obtain ⟨N, hN⟩ := law_i_copyProg a0 hb hc
    exact ⟨tmsOf [], N, 12, (nf_i_copyProg N a0).trans hN⟩
  · cases h

def memHas (m : List (List Int)) (p c : Int) : Bool := bif hasB p (ln m) then hasB c (ln (ix m p [])) else false
def cellAt (m : List (List Int)) (p c : Int) : Int := bif memHas m p c then ix (ix m p []) c 0 else 0
def withCell (m : List (List Int)) (p c v : Int) : List (List Int) := bif memHas m p c then (bif win v 0 99 then up m p (up (ix m p []) c v) else m) else m
theorem memHas_iff (m : List (List Int)) (p c : Int) : (memHas m p c = true) ↔ hasB p (ln m) = true ∧ hasB c (ln (ix m p [])) = true := by
  unfold memHas
  cases hasB p (ln m) <;> simp
theorem cvb_sl {n : Nat} {m : List (List Int)} (h : CVB n (.s (.sl .int) m)) : m.length ≤ n ∧ ∀ p : Int, hasB p (ln m) = true → (ix m p []).length ≤ n :=
  ⟨h.len, fun p hp => (h.inv.2 _ (ix_mem hp []) _ (List.mem_singleton.2 rfl)).len⟩
@[simp, reducible] def s_l04Has_c (m : List (List Int)) (p c : Int) : Bool := true
@[simp, reducible] def s_l04Has (m : List (List Int)) (p c : Int) : Bool := memHas m p c
noncomputable def run_s_l04Has : List AV → Option (Bool × List AV)
  | [.one (.s (.sl .int) a0), .one (.i .i64 a1), .one (.i .i64 a2)] => some ((s_l04Has_c a0 a1 a2), [.one (.b (s_l04Has a0 a1 a2))])
  | _ => none

noncomputable def E_s_l04Has (N : Nat) (a0 : List (List Int)) (a1 : Int) (a2 : Int) : Option Ans :=
  (bif (s_l01In_c a1 0 (wsub .i64 (ln a0) 1)) then (bif (s_l01In a1 0 (wsub .i64 (ln a0) 1)) then (bif (inb a1 (ln a0)) then (bif (s_l01In_c a2 0 (wsub .i64 (ln (ix a0 a1 [])) 1)) then (some [(.one (.b (s_l01In a2 0 (wsub .i64 (ln (ix a0 a1 [])) 1))))]) else none) else none) else (some [(.one (.b false))])) else none)

theorem nf_s_l04Has (N : Nat) (a0 : List (List Int)) (a1 : Int) (a2 : Int) : evalFn (cfgQ (aget ctrU) (aget mctC) (aget pct0) (aget tct0)) (tmsOf []) N 12 103 [.one (.s (.sl .int) a0), .one (.i .i64 a1), .one (.i .i64 a2)] = E_s_l04Has N a0 a1 a2 := by kernel_rfl

theorem law_s_l04Has (a0 : List (List Int)) (a1 : Int) (a2 : Int) (hb : AllB big [.one (.s (.sl .int) a0), .one (.i .i64 a1), .one (.i .i64 a2)]) (hc : (s_l04Has_c a0 a1 a2) = true) : ∃ N, E_s_l04Has N a0 a1 a2 = some [.one (.b (s_l04Has a0 a1 a2))] := by
  have hl := cvb_sl ((allB_cons hb).1 _ (List.mem_singleton.2 rfl)); have hw := win_has' hl.1; have hw2 : ∀ p i : Int, hasB p (ln a0) = true → win i 0 (wsub .i64 (ln (ix a0 p [])) 1) = hasB i (ln (ix a0 p [])) := fun p i h => win_has' (hl.2 p h) i
  refine ⟨0, ?_⟩
  unfold E_s_l04Has
  refine must rfl ?_
  refine br (fun h0 => ?_) (fun h0 => ?_)
  · refine must (by first | assumption | (simp_all <;> omega)) ?_
    refine must rfl ?_
    first | rfl | (simp only [h0, s_l04Has, memHas, cT, cF] <;> rfl) | (simp_all [Ty.cells, s_l04Has, memHas]; done)
  · first | rfl | (simp only [h0, s_l04Has, memHas, cT, cF] <;> rfl) | (simp_all [Ty.cells, s_l04Has, memHas]; done)
theorem holds_s_l04Has : Holds Tryz.prog 103 run_s_l04Has := by
  refine holds_of_eval (engQ_ok ctrU_ok mctC_ok pct0_ok tct0_ok) (fn_ok (by kernel_rfl)) ?_
  intro avs rs hr h
  have hb := allB_of_rep hr
  unfold run_s_l04Has at h
  split at h
  · rename_i a0 a1 a2
    obtain ⟨hc, rfl⟩ := some_pair h
    obtain ⟨N, hN⟩ := law_s_l04Has a0 a1 a2 hb hc
    exact ⟨tmsOf [], N, 12, (nf_s_l04Has N a0 a1 a2).trans hN⟩
  · cases h

@[simp, reducible] def i_CellAt_c (m : List (List Int)) (p c : Int) : Bool := true
@[simp, reducible] def i_CellAt (m : List (List Int)) (p c : Int) : Int := cellAt m p c
noncomputable def run_i_CellAt : List AV → Option (Bool × List AV)
  | [.one (.s (.sl .int) a0), .one (.i .i64 a1), .one (.i .i64 a2)] => some ((i_CellAt_c a0 a1 a2), [.one (.i .i64 (i_CellAt a0 a1 a2))])
  | _ => none

noncomputable def E_i_CellAt (N : Nat) (a0 : List (List Int)) (a1 : Int) (a2 : Int) : Option Ans :=
  (bif (i_has_c a1 (ln a0)) then (bif (bif (i_has a1 (ln a0)) then false else true) then (some [(.one (.i .i64 0))]) else (bif (inb a1 (ln a0)) then (bif (i_has_c a2 (ln (ix a0 a1 []))) then (bif (bif (i_has a2 (ln (ix a0 a1 []))) then false else true) then (some [(.one (.i .i64 0))]) else (bif (inb a1 (ln a0)) then (bif (inb a2 (ln (ix a0 a1 []))) then (some [(.one (.i .i64 (ix (ix a0 a1 []) a2 0)))]) else none) else none)) else none) else none)) else none)

theorem nf_i_CellAt (N : Nat) (a0 : List (List Int)) (a1 : Int) (a2 : Int) : evalFn (cfgQ (aget ctrU) (aget mctC) (aget pct0) (aget tct0)) (tmsOf []) N 12 73 [.one (.s (.sl .int) a0), .one (.i .i64 a1), .one (.i .i64 a2)] = E_i_CellAt N a0 a1 a2 := by kernel_rfl

theorem law_i_CellAt (a0 : List (List Int)) (a1 : Int) (a2 : Int) (hb : AllB big [.one (.s (.sl .int) a0), .one (.i .i64 a1), .one (.i .i64 a2)]) (hc : (i_CellAt_c a0 a1 a2) = true) : ∃ N, E_i_CellAt N a0 a1 a2 = some [.one (.i .i64 (i_CellAt a0 a1 a2))] := by
  refine ⟨0, ?_⟩
  unfold E_i_CellAt
  refine must rfl ?_
  refine brN (fun h0 => ?_) (fun h0 => ?_)
  · first | rfl | (simp only [h0, i_CellAt, cellAt, memHas, cT, cF] <;> rfl) | (simp_all [Ty.cells, i_CellAt, cellAt, memHas]; done)
  · refine must (by first | assumption | (simp_all <;> omega)) ?_
    refine must rfl ?_
    refine brN (fun h1 => ?_) (fun h1 => ?_)
    · first | rfl | (simp only [h0, h1, i_CellAt, cellAt, memHas, cT, cF] <;> rfl) | (simp_all [Ty.cells, i_CellAt, cellAt, memHas]; done)
    · refine must (by first | assumption | (simp_all <;> omega)) ?_
      refine must (by first | assumption | (simp_all <;> omega)) ?_
      first | rfl | (simp only [h0, h1, i_CellAt, cellAt, memHas, cT, cF] <;> rfl) | (simp_all [Ty.cells, i_CellAt, cellAt, memHas]; done)
theorem holds_i_CellAt : Holds Tryz.prog 73 run_i_CellAt := by
  refine holds_of_eval (engQ_ok ctrU_ok mctC_ok pct0_ok tct0_ok) (fn_ok (by kernel_rfl)) ?_
  intro avs rs hr h
  have hb := allB_of_rep hr
  unfold run_i_CellAt at h
  split at h
  · rename_i a0 a1 a2
    obtain ⟨hc, rfl⟩ := some_pair h
    obtain ⟨N, hN⟩ := law_i_CellAt a0 a1 a2 hb hc
    exact ⟨tmsOf [], N, 12, (nf_i_CellAt N a0 a1 a2).trans hN⟩
  · cases h

noncomputable def ctrN1 : Ctrs := [(93, run_s_CanRun), (114, run_i_CanRun), (40, run_s_AddrPage), (65, run_i_AddrPage), (45, run_s_AddrCell), (70, run_i_AddrCell), (41, run_s_NeedOf), (66, run_i_NeedOf), (43, run_s_FaultExit), (68, run_i_FaultExit), (104, run_s_CallExit), (74, run_i_CallExit), (106, run_s_OutExit), (124, run_i_OutExit), (105, run_s_HasTrap), (75, run_i_HasTrap), (97, run_s_PendOk), (119, run_i_PendOk), (51, run_s_InsAt), (60, run_i_InsAt), (76, run_i_trapOf), (155, run_s_SlotOk), (161, run_i_SlotOk), (141, run_i_copyTable), (140, run_i_copyProg), (103, run_s_l04Has), (73, run_i_CellAt)] ++ ctrU

theorem ctrN1_ok : ∀ f run, aget ctrN1 f = some run → Holds Tryz.prog f run := ctr_more ctrU_ok (by
  intro x hx
  simp only [List.mem_cons, List.not_mem_nil, or_false] at hx
  rcases hx with rfl | rfl | rfl | rfl | rfl | rfl | rfl | rfl | rfl | rfl | rfl | rfl | rfl | rfl | rfl | rfl | rfl | rfl | rfl | rfl | rfl | rfl | rfl | rfl | rfl | rfl | rfl
  · exact holds_s_CanRun
  · exact holds_i_CanRun
  · exact holds_s_AddrPage
  · exact holds_i_AddrPage
  · exact holds_s_AddrCell
  · exact holds_i_AddrCell
  · exact holds_s_NeedOf
  · exact holds_i_NeedOf
  · exact holds_s_FaultExit
  · exact holds_i_FaultExit
  · exact holds_s_CallExit
  · exact holds_i_CallExit
  · exact holds_s_OutExit
  · exact holds_i_OutExit
  · exact holds_s_HasTrap
  · exact holds_i_HasTrap
  · exact holds_s_PendOk
  · exact holds_i_PendOk
  · exact holds_s_InsAt
  · exact holds_i_InsAt
  · exact holds_i_trapOf
  · exact holds_s_SlotOk
  · exact holds_i_SlotOk
  · exact holds_i_copyTable
  · exact holds_i_copyProg
  · exact holds_s_l04Has
  · exact holds_i_CellAt)

@[simp, reducible] def s_CellAt_c (m : List (List Int)) (p c : Int) : Bool := true
@[simp, reducible] def s_CellAt (m : List (List Int)) (p c : Int) : Int := cellAt m p c
noncomputable def run_s_CellAt : List AV → Option (Bool × List AV)
  | [.one (.s (.sl .int) a0), .one (.i .i64 a1), .one (.i .i64 a2)] => some ((s_CellAt_c a0 a1 a2), [.one (.i .i64 (s_CellAt a0 a1 a2))])
  | _ => none

noncomputable def E_s_CellAt (N : Nat) (a0 : List (List Int)) (a1 : Int) (a2 : Int) : Option Ans :=
  (bif (s_l04Has_c a0 a1 a2) then (bif (bif (s_l04Has a0 a1 a2) then false else true) then (some [(.one (.i .i64 0))]) else (bif (inb a1 (ln a0)) then (bif (inb a2 (ln (ix a0 a1 []))) then (some [(.one (.i .i64 (ix (ix a0 a1 []) a2 0)))]) else none) else none)) else none)

theorem nf_s_CellAt (N : Nat) (a0 : List (List Int)) (a1 : Int) (a2 : Int) : evalFn (cfgQ (aget ctrN1) (aget mctC) (aget pct0) (aget tct0)) (tmsOf []) N 12 48 [.one (.s (.sl .int) a0), .one (.i .i64 a1), .one (.i .i64 a2)] = E_s_CellAt N a0 a1 a2 := by kernel_rfl

theorem law_s_CellAt (a0 : List (List Int)) (a1 : Int) (a2 : Int) (hb : AllB big [.one (.s (.sl .int) a0), .one (.i .i64 a1), .one (.i .i64 a2)]) (hc : (s_CellAt_c a0 a1 a2) = true) : ∃ N, E_s_CellAt N a0 a1 a2 = some [.one (.i .i64 (s_CellAt a0 a1 a2))] := by
  have hm := (memHas_iff a0 a1 a2).1
  refine ⟨0, ?_⟩
  unfold E_s_CellAt
  refine must rfl ?_
  refine brN (fun h0 => ?_) (fun h0 => ?_)
  · first | rfl | (simp only [h0, s_CellAt, cellAt, cT, cF] <;> rfl) | (simp_all [Ty.cells, s_CellAt, cellAt]; done)
  · refine must (by first | assumption | (simp_all <;> omega)) ?_
    refine must (by first | assumption | (simp_all <;> omega)) ?_
    first | rfl | (simp only [h0, s_CellAt, cellAt, cT, cF] <;> rfl) | (simp_all [Ty.cells, s_CellAt, cellAt]; done)
theorem holds_s_CellAt : Holds Tryz.prog 48 run_s_CellAt := by
  refine holds_of_eval (engQ_ok ctrN1_ok mctC_ok pct0_ok tct0_ok) (fn_ok (by kernel_rfl)) ?_
  intro avs rs hr h
  have hb := allB_of_rep hr
  unfold run_s_CellAt at h
  split at h
  · rename_i a0 a1 a2
    obtain ⟨hc, rfl⟩ := some_pair h
    obtain ⟨N, hN⟩ := law_s_CellAt a0 a1 a2 hb hc
    exact ⟨tmsOf [], N, 12, (nf_s_CellAt N a0 a1 a2).trans hN⟩
  · cases h

def tableOk (t : List Slot) (n p : Int) : Bool := bif t.all (fun s => slotOk s p) then ieq (ln t) n else false
@[simp, reducible] def s_TableOk_c (t : List Slot) (n p : Int) : Bool := true
@[simp, reducible] def s_TableOk (t : List Slot) (n p : Int) : Bool := tableOk t n p
noncomputable def run_s_TableOk : List AV → Option (Bool × List AV)
  | [.one (.s .slot a0), .one (.i .i64 a1), .one (.i .i64 a2)] => some ((s_TableOk_c a0 a1 a2), [.one (.b (s_TableOk a0 a1 a2))])
  | _ => none

noncomputable def E_s_TableOk (N : Nat) (a0 : List Slot) (a1 : Int) (a2 : Int) : Option Ans :=
  (iter (σ := (Int × (Int × (Int × ((List Slot) × Unit))))) N (fun r4 s5 => (bif (ilt s5.2.2.1 (ln s5.2.2.2.1)) then (bif (inb s5.2.2.1 (ln s5.2.2.2.1)) then (bif (s_SlotOk_c (ix s5.2.2.2.1 s5.2.2.1 (Ty.dflt .slot)) s5.2.1) then (bif (bif (s_SlotOk (ix s5.2.2.2.1 s5.2.2.1 (Ty.dflt .slot)) s5.2.1) then false else true) then (some [(.one (.b false))]) else (r4 (s5.1, (s5.2.1, ((wadd .i64 s5.2.2.1 1), (s5.2.2.2.1, ())))))) else none) else none) else (some [(.one (.b (ieq (ln s5.2.2.2.1) s5.1)))]))) (a1, (a2, (0, (a0, ())))))

def tms_s_TableOk : FuncId → Nat → Option Tmpl := tmsOf [(130, 0, { n := 25, tm := [(0, .sl 0 []), (1, .i .i64), (2, .i .i64), (7, .i .i64)], lo := [], ro := [(0, .slot, false)] })]

theorem nf_s_TableOk (N : Nat) (a0 : List Slot) (a1 : Int) (a2 : Int) : evalFn (cfgQ (aget ctrN1) (aget mctC) (aget pct0) (aget tct0)) tms_s_TableOk N 12 130 [.one (.s .slot a0), .one (.i .i64 a1), .one (.i .i64 a2)] = E_s_TableOk N a0 a1 a2 := by kernel_rfl

theorem law_s_TableOk (a0 : List Slot) (a1 : Int) (a2 : Int) (hb : AllB big [.one (.s .slot a0), .one (.i .i64 a1), .one (.i .i64 a2)]) (hc : (s_TableOk_c a0 a1 a2) = true) : ∃ N, E_s_TableOk N a0 a1 a2 = some [.one (.b (s_TableOk a0 a1 a2))] := by
  have hl : (_ : List _).length ≤ big := ((allB_cons hb).1 _ (List.mem_singleton.2 rfl)).len
  refine ⟨NN, ?_⟩
  have hNN : ∀ {n : Nat}, n ≤ big → n < NN := fun h => NN_lt h
  generalize NN = N at hNN ⊢
  unfold E_s_TableOk
  refine (iter_list a0 (fun i (t : Unit) => (a1, a2, (i : Int), a0, ())) _ (fun _ x (_ : Unit) κ => bif (fun s => slotOk s a2) x then κ () else some [AV.one (.b false)]) (fun (t : Unit) => (some [(.one (.b (ieq (ln a0) a1)))])) (fun i hi t rec => ?_) (fun t rec => ?_) _ () (hNN hl)).trans ?_
  · simp only [ilt_ln hi, inb_ln hi, ix_ln hi, wadd_up hi hl, cT]
    exact all_step rfl
  · simp only [ilt_end, cF]
  rw [goL_all (fun s => slotOk s a2)]
  refine br (fun h0 => ?_) (fun h0 => ?_)
  · first | rfl | (simp only [h0, s_TableOk, tableOk, cT, cF] <;> rfl) | (simp_all [Ty.cells, s_TableOk, tableOk]; done)
  · first | rfl | (simp only [h0, s_TableOk, tableOk, cT, cF] <;> rfl) | (simp_all [Ty.cells, s_TableOk, tableOk]; done)
theorem holds_s_TableOk : Holds Tryz.prog 130 run_s_TableOk := by
  refine holds_of_eval (engQ_ok ctrN1_ok mctC_ok pct0_ok tct0_ok) (fn_ok (by kernel_rfl)) ?_
  intro avs rs hr h
  have hb := allB_of_rep hr
  unfold run_s_TableOk at h
  split at h
  · rename_i a0 a1 a2
    obtain ⟨hc, rfl⟩ := some_pair h
    obtain ⟨N, hN⟩ := law_s_TableOk a0 a1 a2 hb hc
    exact ⟨tms_s_TableOk, N, 12, (nf_s_TableOk N a0 a1 a2).trans hN⟩
  · cases h

@[simp, reducible] def i_TableOk_c (t : List Slot) (n p : Int) : Bool := true
@[simp, reducible] def i_TableOk (t : List Slot) (n p : Int) : Bool := tableOk t n p
noncomputable def run_i_TableOk : List AV → Option (Bool × List AV)
  | [.one (.s .slot a0), .one (.i .i64 a1), .one (.i .i64 a2)] => some ((i_TableOk_c a0 a1 a2), [.one (.b (i_TableOk a0 a1 a2))])
  | _ => none

noncomputable def E_i_TableOk (N : Nat) (a0 : List Slot) (a1 : Int) (a2 : Int) : Option Ans :=
  (iter (σ := (Int × (Int × (Int × (Int × ((List Slot) × Unit)))))) N (fun r4 s5 => (bif (ilt s5.2.2.2.1 s5.2.2.1) then (bif (inb s5.2.2.2.1 (ln s5.2.2.2.2.1)) then (bif (i_SlotOk_c (ix s5.2.2.2.2.1 s5.2.2.2.1 (Ty.dflt .slot)) s5.2.1) then (bif (bif (i_SlotOk (ix s5.2.2.2.2.1 s5.2.2.2.1 (Ty.dflt .slot)) s5.2.1) then false else true) then (some [(.one (.b false))]) else (r4 (s5.1, (s5.2.1, (s5.2.2.1, ((wadd .i64 s5.2.2.2.1 1), (s5.2.2.2.2.1, ()))))))) else none) else none) else (some [(.one (.b (ieq (ln s5.2.2.2.2.1) s5.1)))]))) (a1, (a2, ((ln a0), (0, (a0, ()))))))

def tms_i_TableOk : FuncId → Nat → Option Tmpl := tmsOf [(144, 0, { n := 24, tm := [(0, .sl 0 []), (1, .i .i64), (2, .i .i64), (9, .sl 0 []), (10, .i .i64), (11, .i .i64)], lo := [], ro := [(0, .slot, false)] })]

theorem nf_i_TableOk (N : Nat) (a0 : List Slot) (a1 : Int) (a2 : Int) : evalFn (cfgQ (aget ctrN1) (aget mctC) (aget pct0) (aget tct0)) tms_i_TableOk N 12 144 [.one (.s .slot a0), .one (.i .i64 a1), .one (.i .i64 a2)] = E_i_TableOk N a0 a1 a2 := by kernel_rfl

theorem law_i_TableOk (a0 : List Slot) (a1 : Int) (a2 : Int) (hb : AllB big [.one (.s .slot a0), .one (.i .i64 a1), .one (.i .i64 a2)]) (hc : (i_TableOk_c a0 a1 a2) = true) : ∃ N, E_i_TableOk N a0 a1 a2 = some [.one (.b (i_TableOk a0 a1 a2))] := by
  have hl : (_ : List _).length ≤ big := ((allB_cons hb).1 _ (List.mem_singleton.2 rfl)).len
  refine ⟨NN, ?_⟩
  have hNN : ∀ {n : Nat}, n ≤ big → n < NN := fun h => NN_lt h
  generalize NN = N at hNN ⊢
  unfold E_i_TableOk
  refine (iter_list a0 (fun i (t : Unit) => (a1, a2, (ln a0), (i : Int), a0, ())) _ (fun _ x (_ : Unit) κ => bif (fun s => slotOk s a2) x then κ () else some [AV.one (.b false)]) (fun (t : Unit) => (some [(.one (.b (ieq (ln a0) a1)))])) (fun i hi t rec => ?_) (fun t rec => ?_) _ () (hNN hl)).trans ?_
  · simp only [ilt_ln hi, inb_ln hi, ix_ln hi, wadd_up hi hl, cT]
    exact all_step rfl
  · simp only [ilt_end, cF]
  rw [goL_all (fun s => slotOk s a2)]
  refine br (fun h0 => ?_) (fun h0 => ?_)
  · first | rfl | (simp only [h0, i_TableOk, tableOk, cT, cF] <;> rfl) | (simp_all [Ty.cells, i_TableOk, tableOk]; done)
  · first | rfl | (simp only [h0, i_TableOk, tableOk, cT, cF] <;> rfl) | (simp_all [Ty.cells, i_TableOk, tableOk]; done)
theorem holds_i_TableOk : Holds Tryz.prog 144 run_i_TableOk := by
  refine holds_of_eval (engQ_ok ctrN1_ok mctC_ok pct0_ok tct0_ok) (fn_ok (by kernel_rfl)) ?_
  intro avs rs hr h
  have hb := allB_of_rep hr
  unfold run_i_TableOk at h
  split at h
  · rename_i a0 a1 a2
    obtain ⟨hc, rfl⟩ := some_pair h
    obtain ⟨N, hN⟩ := law_i_TableOk a0 a1 a2 hb hc
    exact ⟨tms_i_TableOk, N, 12, (nf_i_TableOk N a0 a1 a2).trans hN⟩
  · cases h

def pageOk (c : List Int) : Bool := bif c.all (fun x => win x 0 99) then ieq (ln c) 4 else false
@[simp, reducible] def s_PageOk_c (c : List Int) : Bool := true
@[simp, reducible] def s_PageOk (c : List Int) : Bool := pageOk c
noncomputable def run_s_PageOk : List AV → Option (Bool × List AV)
  | [.one (.s .int a0)] => some ((s_PageOk_c a0), [.one (.b (s_PageOk a0))])
  | _ => none

noncomputable def E_s_PageOk (N : Nat) (a0 : List Int) : Option Ans :=
  (iter (σ := (Int × ((List Int) × Unit))) N (fun r2 s3 => (bif (ilt s3.1 (ln s3.2.1)) then (bif (inb s3.1 (ln s3.2.1)) then (bif (s_l01In_c (ix s3.2.1 s3.1 0) 0 99) then (bif (bif (s_l01In (ix s3.2.1 s3.1 0) 0 99) then false else true) then (some [(.one (.b false))]) else (r2 ((wadd .i64 s3.1 1), (s3.2.1, ())))) else none) else none) else (some [(.one (.b (ieq (ln s3.2.1) 4)))]))) (0, (a0, ())))

def tms_s_PageOk : FuncId → Nat → Option Tmpl := tmsOf [(133, 0, { n := 19, tm := [(0, .sl 0 []), (3, .i .i64)], lo := [], ro := [(0, .int, false)] })]

theorem nf_s_PageOk (N : Nat) (a0 : List Int) : evalFn (cfgQ (aget ctrN1) (aget mctC) (aget pct0) (aget tct0)) tms_s_PageOk N 12 133 [.one (.s .int a0)] = E_s_PageOk N a0 := by kernel_rfl

theorem law_s_PageOk (a0 : List Int) (hb : AllB big [.one (.s .int a0)]) (hc : (s_PageOk_c a0) = true) : ∃ N, E_s_PageOk N a0 = some [.one (.b (s_PageOk a0))] := by
  have hl : (_ : List _).length ≤ big := ((allB_cons hb).1 _ (List.mem_singleton.2 rfl)).len
  refine ⟨NN, ?_⟩
  have hNN : ∀ {n : Nat}, n ≤ big → n < NN := fun h => NN_lt h
  generalize NN = N at hNN ⊢
  unfold E_s_PageOk
  refine (iter_list a0 (fun i (t : Unit) => ((i : Int), a0, ())) _ (fun _ x (_ : Unit) κ => bif (fun x => win x 0 99) x then κ () else some [AV.one (.b false)]) (fun (t : Unit) => (some [(.one (.b (ieq (ln a0) 4)))])) (fun i hi t rec => ?_) (fun t rec => ?_) _ () (hNN hl)).trans ?_
  · simp only [ilt_ln hi, inb_ln hi, ix_ln hi, wadd_up hi hl, cT]
    exact all_step rfl
  · simp only [ilt_end, cF]
  rw [goL_all (fun x => win x 0 99)]
  refine br (fun h0 => ?_) (fun h0 => ?_)
  · first | rfl | (simp only [h0, s_PageOk, pageOk, cT, cF] <;> rfl) | (simp_all [Ty.cells, s_PageOk, pageOk]; done)
  · first | rfl | (simp only [h0, s_PageOk, pageOk, cT, cF] <;> rfl) | (simp_all [Ty.cells, s_PageOk, pageOk]; done)
theorem holds_s_PageOk : Holds Tryz.prog 133 run_s_PageOk := by
  refine holds_of_eval (engQ_ok ctrN1_ok mctC_ok pct0_ok tct0_ok) (fn_ok (by kernel_rfl)) ?_
  intro avs rs hr h
  have hb := allB_of_rep hr
  unfold run_s_PageOk at h
  split at h
  · rename_i a0
    obtain ⟨hc, rfl⟩ := some_pair h
    obtain ⟨N, hN⟩ := law_s_PageOk a0 hb hc
    exact ⟨tms_s_PageOk, N, 12, (nf_s_PageOk N a0).trans hN⟩
  · cases h

@[simp, reducible] def i_PageOk_c (c : List Int) : Bool := true
@[simp, reducible] def i_PageOk (c : List Int) : Bool := pageOk c
noncomputable def run_i_PageOk : List AV → Option (Bool × List AV)
  | [.one (.s .int a0)] => some ((i_PageOk_c a0), [.one (.b (i_PageOk a0))])
  | _ => none

noncomputable def E_i_PageOk (N : Nat) (a0 : List Int) : Option Ans :=
  (iter (σ := (Int × (Int × ((List Int) × Unit)))) N (fun r2 s3 => (bif (ilt s3.2.1 s3.1) then (bif (inb s3.2.1 (ln s3.2.2.1)) then (bif (i_within_c (ix s3.2.2.1 s3.2.1 0) 0 99) then (bif (bif (i_within (ix s3.2.2.1 s3.2.1 0) 0 99) then false else true) then (some [(.one (.b false))]) else (r2 (s3.1, ((wadd .i64 s3.2.1 1), (s3.2.2.1, ()))))) else none) else none) else (some [(.one (.b (ieq (ln s3.2.2.1) 4)))]))) ((ln a0), (0, (a0, ()))))

def tms_i_PageOk : FuncId → Nat → Option Tmpl := tmsOf [(147, 0, { n := 18, tm := [(0, .sl 0 []), (5, .sl 0 []), (6, .i .i64), (7, .i .i64)], lo := [], ro := [(0, .int, false)] })]

theorem nf_i_PageOk (N : Nat) (a0 : List Int) : evalFn (cfgQ (aget ctrN1) (aget mctC) (aget pct0) (aget tct0)) tms_i_PageOk N 12 147 [.one (.s .int a0)] = E_i_PageOk N a0 := by kernel_rfl

theorem law_i_PageOk (a0 : List Int) (hb : AllB big [.one (.s .int a0)]) (hc : (i_PageOk_c a0) = true) : ∃ N, E_i_PageOk N a0 = some [.one (.b (i_PageOk a0))] := by
  have hl : (_ : List _).length ≤ big := ((allB_cons hb).1 _ (List.mem_singleton.2 rfl)).len
  refine ⟨NN, ?_⟩
  have hNN : ∀ {n : Nat}, n ≤ big → n < NN := fun h => NN_lt h
  generalize NN = N at hNN ⊢
  unfold E_i_PageOk
  refine (iter_list a0 (fun i (t : Unit) => ((ln a0), (i : Int), a0, ())) _ (fun _ x (_ : Unit) κ => bif (fun x => win x 0 99) x then κ () else some [AV.one (.b false)]) (fun (t : Unit) => (some [(.one (.b (ieq (ln a0) 4)))])) (fun i hi t rec => ?_) (fun t rec => ?_) _ () (hNN hl)).trans ?_
  · simp only [ilt_ln hi, inb_ln hi, ix_ln hi, wadd_up hi hl, cT]
    exact all_step rfl
  · simp only [ilt_end, cF]
  rw [goL_all (fun x => win x 0 99)]
  refine br (fun h0 => ?_) (fun h0 => ?_)
  · first | rfl | (simp only [h0, i_PageOk, pageOk, cT, cF] <;> rfl) | (simp_all [Ty.cells, i_PageOk, pageOk]; done)
  · first | rfl | (simp only [h0, i_PageOk, pageOk, cT, cF] <;> rfl) | (simp_all [Ty.cells, i_PageOk, pageOk]; done)
theorem holds_i_PageOk : Holds Tryz.prog 147 run_i_PageOk := by
  refine holds_of_eval (engQ_ok ctrN1_ok mctC_ok pct0_ok tct0_ok) (fn_ok (by kernel_rfl)) ?_
  intro avs rs hr h
  have hb := allB_of_rep hr
  unfold run_i_PageOk at h
  split at h
  · rename_i a0
    obtain ⟨hc, rfl⟩ := some_pair h
    obtain ⟨N, hN⟩ := law_i_PageOk a0 hb hc
    exact ⟨tms_i_PageOk, N, 12, (nf_i_PageOk N a0).trans hN⟩
  · cases h

def insOk (i : Ins) : Bool := bif (ieq i.Op 1 || ieq i.Op 2 || ieq i.Op 5 || ieq i.Op 6) then win i.X 0 99 else (bif (ieq i.Op 3 || ieq i.Op 4) then win i.X 0 15 else (bif ieq i.Op 7 then ieq i.X 0 else (bif ieq i.Op 8 then win i.X 0 11 else false)))
@[simp, reducible] def s_InsOk_c (i : Ins) : Bool := true
@[simp, reducible] def s_InsOk (i : Ins) : Bool := insOk i
noncomputable def run_s_InsOk : List AV → Option (Bool × List AV)
  | [.agg [.i .i64 a0_0, .i .i64 a0_1]] => some ((s_InsOk_c (⟨a0_0, a0_1⟩ : Ins)), [.one (.b (s_InsOk (⟨a0_0, a0_1⟩ : Ins)))])
  | _ => none

noncomputable def E_s_InsOk (N : Nat) (a0 : Ins) : Option Ans :=
  (bif (ieq a0.Op 1) then (bif (ieq a0.Op 1) then (bif (s_l01In_c a0.X 0 99) then (some [(.one (.b (s_l01In a0.X 0 99)))]) else none) else (bif (ieq a0.Op 3) then (bif (ieq a0.Op 3) then (bif (s_l01In_c a0.X 0 15) then (some [(.one (.b (s_l01In a0.X 0 15)))]) else none) else (bif (ieq a0.Op 7) then (some [(.one (.b (ieq a0.X 0)))]) else (bif (ieq a0.Op 8) then (bif (s_l01In_c a0.X 0 11) then (some [(.one (.b (s_l01In a0.X 0 11)))]) else none) else (some [(.one (.b false))])))) else (bif (ieq a0.Op 4) then (bif (s_l01In_c a0.X 0 15) then (some [(.one (.b (s_l01In a0.X 0 15)))]) else none) else (bif (ieq a0.Op 7) then (some [(.one (.b (ieq a0.X 0)))]) else (bif (ieq a0.Op 8) then (bif (s_l01In_c a0.X 0 11) then (some [(.one (.b (s_l01In a0.X 0 11)))]) else none) else (some [(.one (.b false))])))))) else (bif (ieq a0.Op 2) then (bif (ieq a0.Op 2) then (bif (s_l01In_c a0.X 0 99) then (some [(.one (.b (s_l01In a0.X 0 99)))]) else none) else (bif (ieq a0.Op 3) then (bif (ieq a0.Op 3) then (bif (s_l01In_c a0.X 0 15) then (some [(.one (.b (s_l01In a0.X 0 15)))]) else none) else (bif (ieq a0.Op 7) then (some [(.one (.b (ieq a0.X 0)))]) else (bif (ieq a0.Op 8) then (bif (s_l01In_c a0.X 0 11) then (some [(.one (.b (s_l01In a0.X 0 11)))]) else none) else (some [(.one (.b false))])))) else (bif (ieq a0.Op 4) then (bif (s_l01In_c a0.X 0 15) then (some [(.one (.b (s_l01In a0.X 0 15)))]) else none) else (bif (ieq a0.Op 7) then (some [(.one (.b (ieq a0.X 0)))]) else (bif (ieq a0.Op 8) then (bif (s_l01In_c a0.X 0 11) then (some [(.one (.b (s_l01In a0.X 0 11)))]) else none) else (some [(.one (.b false))])))))) else (bif (ieq a0.Op 5) then (bif (ieq a0.Op 5) then (bif (s_l01In_c a0.X 0 99) then (some [(.one (.b (s_l01In a0.X 0 99)))]) else none) else (bif (ieq a0.Op 3) then (bif (ieq a0.Op 3) then (bif (s_l01In_c a0.X 0 15) then (some [(.one (.b (s_l01In a0.X 0 15)))]) else none) else (bif (ieq a0.Op 7) then (some [(.one (.b (ieq a0.X 0)))]) else (bif (ieq a0.Op 8) then (bif (s_l01In_c a0.X 0 11) then (some [(.one (.b (s_l01In a0.X 0 11)))]) else none) else (some [(.one (.b false))])))) else (bif (ieq a0.Op 4) then (bif (s_l01In_c a0.X 0 15) then (some [(.one (.b (s_l01In a0.X 0 15)))]) else none) else (bif (ieq a0.Op 7) then (some [(.one (.b (ieq a0.X 0)))]) else (bif (ieq a0.Op 8) then (bif (s_l01In_c a0.X 0 11) then (some [(.one (.b (s_l01In a0.X 0 11)))]) else none) else (some [(.one (.b false))])))))) else (bif (ieq a0.Op 6) then (bif (s_l01In_c a0.X 0 99) then (some [(.one (.b (s_l01In a0.X 0 99)))]) else none) else (bif (ieq a0.Op 3) then (bif (ieq a0.Op 3) then (bif (s_l01In_c a0.X 0 15) then (some [(.one (.b (s_l01In a0.X 0 15)))]) else none) else (bif (ieq a0.Op 7) then (some [(.one (.b (ieq a0.X 0)))]) else (bif (ieq a0.Op 8) then (bif (s_l01In_c a0.X 0 11) then (some [(.one (.b (s_l01In a0.X 0 11)))]) else none) else (some [(.one (.b false))])))) else (bif (ieq a0.Op 4) then (bif (s_l01In_c a0.X 0 15) then (some [(.one (.b (s_l01In a0.X 0 15)))]) else none) else (bif (ieq a0.Op 7) then (some [(.one (.b (ieq a0.X 0)))]) else (bif (ieq a0.Op 8) then (bif (s_l01In_c a0.X 0 11) then (some [(.one (.b (s_l01In a0.X 0 11)))]) else none) else (some [(.one (.b false))])))))))))

theorem nf_s_InsOk (N : Nat) (a0 : Ins) : evalFn (cfgQ (aget ctrN1) (aget mctC) (aget pct0) (aget tct0)) (tmsOf []) N 12 154 [.agg (Ty.cells .ins a0)] = E_s_InsOk N a0 := by kernel_rfl

theorem law_s_InsOk (a0 : Ins) (hb : AllB big [.agg (Ty.cells .ins a0)]) (hc : (s_InsOk_c a0) = true) : ∃ N, E_s_InsOk N a0 = some [.one (.b (s_InsOk a0))] := by
  refine ⟨0, ?_⟩
  unfold E_s_InsOk
  refine br (fun h0 => ?_) (fun h0 => ?_)
  · refine br (fun h1 => ?_) (fun h1 => ?_)
    · refine must rfl ?_
      first | rfl | (simp only [h0, h1, s_InsOk, insOk, cT, cF] <;> rfl) | (simp_all [Ty.cells, s_InsOk, insOk]; done)
    · refine br (fun h2 => ?_) (fun h2 => ?_)
      · refine br (fun h3 => ?_) (fun h3 => ?_)
        · refine must rfl ?_
          first | rfl | (simp only [h0, h1, h2, h3, s_InsOk, insOk, cT, cF] <;> rfl) | (simp_all [Ty.cells, s_InsOk, insOk]; done)
        · refine br (fun h4 => ?_) (fun h4 => ?_)
          · first | rfl | (simp only [h0, h1, h2, h3, h4, s_InsOk, insOk, cT, cF] <;> rfl) | (simp_all [Ty.cells, s_InsOk, insOk]; done)
          · refine br (fun h5 => ?_) (fun h5 => ?_)
            · refine must rfl ?_
              first | rfl | (simp only [h0, h1, h2, h3, h4, h5, s_InsOk, insOk, cT, cF] <;> rfl) | (simp_all [Ty.cells, s_InsOk, insOk]; done)
            · first | rfl | (simp only [h0, h1, h2, h3, h4, h5, s_InsOk, insOk, cT, cF] <;> rfl) | (simp_all [Ty.cells, s_InsOk, insOk]; done)
      · refine br (fun h3 => ?_) (fun h3 => ?_)
        · refine must rfl ?_
          first | rfl | (simp only [h0, h1, h2, h3, s_InsOk, insOk, cT, cF] <;> rfl) | (simp_all [Ty.cells, s_InsOk, insOk]; done)
        · refine br (fun h4 => ?_) (fun h4 => ?_)
          · first | rfl | (simp only [h0, h1, h2, h3, h4, s_InsOk, insOk, cT, cF] <;> rfl) | (simp_all [Ty.cells, s_InsOk, insOk]; done)
          · refine br (fun h5 => ?_) (fun h5 => ?_)
            · refine must rfl ?_
              first | rfl | (simp only [h0, h1, h2, h3, h4, h5, s_InsOk, insOk, cT, cF] <;> rfl) | (simp_all [Ty.cells, s_InsOk, insOk]; done)
            · first | rfl | (simp only [h0, h1, h2, h3, h4, h5, s_InsOk, insOk, cT, cF] <;> rfl) | (simp_all [Ty.cells, s_InsOk, insOk]; done)
  · refine br (fun h1 => ?_) (fun h1 => ?_)
    · refine br (fun h2 => ?_) (fun h2 => ?_)
      · refine must rfl ?_
        first | rfl | (simp only [h0, h1, h2, s_InsOk, insOk, cT, cF] <;> rfl) | (simp_all [Ty.cells, s_InsOk, insOk]; done)
      · refine br (fun h3 => ?_) (fun h3 => ?_)
        · refine br (fun h4 => ?_) (fun h4 => ?_)
          · refine must rfl ?_
            first | rfl | (simp only [h0, h1, h2, h3, h4, s_InsOk, insOk, cT, cF] <;> rfl) | (simp_all [Ty.cells, s_InsOk, insOk]; done)
          · refine br (fun h5 => ?_) (fun h5 => ?_)
            · first | rfl | (simp only [h0, h1, h2, h3, h4, h5, s_InsOk, insOk, cT, cF] <;> rfl) | (simp_all [Ty.cells, s_InsOk, insOk]; done)
            · refine br (fun h6 => ?_) (fun h6 => ?_)
              · refine must rfl ?_
                first | rfl | (simp only [h0, h1, h2, h3, h4, h5, h6, s_InsOk, insOk, cT, cF] <;> rfl) | (simp_all [Ty.cells, s_InsOk, insOk]; done)
              · first | rfl | (simp only [h0, h1, h2, h3, h4, h5, h6, s_InsOk, insOk, cT, cF] <;> rfl) | (simp_all [Ty.cells, s_InsOk, insOk]; done)
        · refine br (fun h4 => ?_) (fun h4 => ?_)
          · refine must rfl ?_
            first | rfl | (simp only [h0, h1, h2, h3, h4, s_InsOk, insOk, cT, cF] <;> rfl) | (simp_all [Ty.cells, s_InsOk, insOk]; done)
          · refine br (fun h5 => ?_) (fun h5 => ?_)
            · first | rfl | (simp only [h0, h1, h2, h3, h4, h5, s_InsOk, insOk, cT, cF] <;> rfl) | (simp_all [Ty.cells, s_InsOk, insOk]; done)
            · refine br (fun h6 => ?_) (fun h6 => ?_)
              · refine must rfl ?_
                first | rfl | (simp only [h0, h1, h2, h3, h4, h5, h6, s_InsOk, insOk, cT, cF] <;> rfl) | (simp_all [Ty.cells, s_InsOk, insOk]; done)
              · first | rfl | (simp only [h0, h1, h2, h3, h4, h5, h6, s_InsOk, insOk, cT, cF] <;> rfl) | (simp_all [Ty.cells, s_InsOk, insOk]; done)
    · refine br (fun h2 => ?_) (fun h2 => ?_)
      · refine br (fun h3 => ?_) (fun h3 => ?_)
        · refine must rfl ?_
          first | rfl | (simp only [h0, h1, h2, h3, s_InsOk, insOk, cT, cF] <;> rfl) | (simp_all [Ty.cells, s_InsOk, insOk]; done)
        · refine br (fun h4 => ?_) (fun h4 => ?_)
          · refine br (fun h5 => ?_) (fun h5 => ?_)
            · refine must rfl ?_
              first | rfl | (simp only [h0, h1, h2, h3, h4, h5, s_InsOk, insOk, cT, cF] <;> rfl) | (simp_all [Ty.cells, s_InsOk, insOk]; done)
            · refine br (fun h6 => ?_) (fun h6 => ?_)
              · first | rfl | (simp only [h0, h1, h2, h3, h4, h5, h6, s_InsOk, insOk, cT, cF] <;> rfl) | (simp_all [Ty.cells, s_InsOk, insOk]; done)
              · refine br (fun h7 => ?_) (fun h7 => ?_)
                · refine must rfl ?_
                  first | rfl | (simp only [h0, h1, h2, h3, h4, h5, h6, h7, s_InsOk, insOk, cT, cF] <;> rfl) | (simp_all [Ty.cells, s_InsOk, insOk]; done)
                · first | rfl | (simp only [h0, h1, h2, h3, h4, h5, h6, h7, s_InsOk, insOk, cT, cF] <;> rfl) | (simp_all [Ty.cells, s_InsOk, insOk]; done)
          · refine br (fun h5 => ?_) (fun h5 => ?_)
            · refine must rfl ?_
              first | rfl | (simp only [h0, h1, h2, h3, h4, h5, s_InsOk, insOk, cT, cF] <;> rfl) | (simp_all [Ty.cells, s_InsOk, insOk]; done)
            · refine br (fun h6 => ?_) (fun h6 => ?_)
              · first | rfl | (simp only [h0, h1, h2, h3, h4, h5, h6, s_InsOk, insOk, cT, cF] <;> rfl) | (simp_all [Ty.cells, s_InsOk, insOk]; done)
              · refine br (fun h7 => ?_) (fun h7 => ?_)
                · refine must rfl ?_
                  first | rfl | (simp only [h0, h1, h2, h3, h4, h5, h6, h7, s_InsOk, insOk, cT, cF] <;> rfl) | (simp_all [Ty.cells, s_InsOk, insOk]; done)
                · first | rfl | (simp only [h0, h1, h2, h3, h4, h5, h6, h7, s_InsOk, insOk, cT, cF] <;> rfl) | (simp_all [Ty.cells, s_InsOk, insOk]; done)
      · refine br (fun h3 => ?_) (fun h3 => ?_)
        · refine must rfl ?_
          first | rfl | (simp only [h0, h1, h2, h3, s_InsOk, insOk, cT, cF] <;> rfl) | (simp_all [Ty.cells, s_InsOk, insOk]; done)
        · refine br (fun h4 => ?_) (fun h4 => ?_)
          · refine br (fun h5 => ?_) (fun h5 => ?_)
            · refine must rfl ?_
              first | rfl | (simp only [h0, h1, h2, h3, h4, h5, s_InsOk, insOk, cT, cF] <;> rfl) | (simp_all [Ty.cells, s_InsOk, insOk]; done)
            · refine br (fun h6 => ?_) (fun h6 => ?_)
              · first | rfl | (simp only [h0, h1, h2, h3, h4, h5, h6, s_InsOk, insOk, cT, cF] <;> rfl) | (simp_all [Ty.cells, s_InsOk, insOk]; done)
              · refine br (fun h7 => ?_) (fun h7 => ?_)
                · refine must rfl ?_
                  first | rfl | (simp only [h0, h1, h2, h3, h4, h5, h6, h7, s_InsOk, insOk, cT, cF] <;> rfl) | (simp_all [Ty.cells, s_InsOk, insOk]; done)
                · first | rfl | (simp only [h0, h1, h2, h3, h4, h5, h6, h7, s_InsOk, insOk, cT, cF] <;> rfl) | (simp_all [Ty.cells, s_InsOk, insOk]; done)
          · refine br (fun h5 => ?_) (fun h5 => ?_)
            · refine must rfl ?_
              first | rfl | (simp only [h0, h1, h2, h3, h4, h5, s_InsOk, insOk, cT, cF] <;> rfl) | (simp_all [Ty.cells, s_InsOk, insOk]; done)
            · refine br (fun h6 => ?_) (fun h6 => ?_)
              · first | rfl | (simp only [h0, h1, h2, h3, h4, h5, h6, s_InsOk, insOk, cT, cF] <;> rfl) | (simp_all [Ty.cells, s_InsOk, insOk]; done)
              · refine br (fun h7 => ?_) (fun h7 => ?_)
                · refine must rfl ?_
                  first | rfl | (simp only [h0, h1, h2, h3, h4, h5, h6, h7, s_InsOk, insOk, cT, cF] <;> rfl) | (simp_all [Ty.cells, s_InsOk, insOk]; done)
                · first | rfl | (simp only [h0, h1, h2, h3, h4, h5, h6, h7, s_InsOk, insOk, cT, cF] <;> rfl) | (simp_all [Ty.cells, s_InsOk, insOk]; done)
theorem holds_s_InsOk : Holds Tryz.prog 154 run_s_InsOk := by
  refine holds_of_eval (engQ_ok ctrN1_ok mctC_ok pct0_ok tct0_ok) (fn_ok (by kernel_rfl)) ?_
  intro avs rs hr h
  have hb := allB_of_rep hr
  unfold run_s_InsOk at h
  split at h
  · rename_i a0_0 a0_1
    obtain ⟨hc, rfl⟩ := some_pair h
    obtain ⟨N, hN⟩ := law_s_InsOk (⟨a0_0, a0_1⟩ : Ins) hb hc
    exact ⟨tmsOf [], N, 12, (nf_s_InsOk N (⟨a0_0, a0_1⟩ : Ins)).trans hN⟩
  · cases h

@[simp, reducible] def i_InsOk_c (i : Ins) : Bool := true
@[simp, reducible] def i_InsOk (i : Ins) : Bool := insOk i
noncomputable def run_i_InsOk : List AV → Option (Bool × List AV)
  | [.agg [.i .i64 a0_0, .i .i64 a0_1]] => some ((i_InsOk_c (⟨a0_0, a0_1⟩ : Ins)), [.one (.b (i_InsOk (⟨a0_0, a0_1⟩ : Ins)))])
  | _ => none

noncomputable def E_i_InsOk (N : Nat) (a0 : Ins) : Option Ans :=
  (bif (ieq a0.Op 1) then (bif (ieq a0.Op 1) then (bif (i_within_c a0.X 0 99) then (some [(.one (.b (i_within a0.X 0 99)))]) else none) else (bif (ieq a0.Op 3) then (bif (ieq a0.Op 3) then (bif (i_within_c a0.X 0 15) then (some [(.one (.b (i_within a0.X 0 15)))]) else none) else (bif (ieq a0.Op 7) then (some [(.one (.b (ieq a0.X 0)))]) else (bif (ieq a0.Op 8) then (bif (i_within_c a0.X 0 11) then (some [(.one (.b (i_within a0.X 0 11)))]) else none) else (some [(.one (.b false))])))) else (bif (ieq a0.Op 4) then (bif (i_within_c a0.X 0 15) then (some [(.one (.b (i_within a0.X 0 15)))]) else none) else (bif (ieq a0.Op 7) then (some [(.one (.b (ieq a0.X 0)))]) else (bif (ieq a0.Op 8) then (bif (i_within_c a0.X 0 11) then (some [(.one (.b (i_within a0.X 0 11)))]) else none) else (some [(.one (.b false))])))))) else (bif (ieq a0.Op 2) then (bif (ieq a0.Op 2) then (bif (i_within_c a0.X 0 99) then (some [(.one (.b (i_within a0.X 0 99)))]) else none) else (bif (ieq a0.Op 3) then (bif (ieq a0.Op 3) then (bif (i_within_c a0.X 0 15) then (some [(.one (.b (i_within a0.X 0 15)))]) else none) else (bif (ieq a0.Op 7) then (some [(.one (.b (ieq a0.X 0)))]) else (bif (ieq a0.Op 8) then (bif (i_within_c a0.X 0 11) then (some [(.one (.b (i_within a0.X 0 11)))]) else none) else (some [(.one (.b false))])))) else (bif (ieq a0.Op 4) then (bif (i_within_c a0.X 0 15) then (some [(.one (.b (i_within a0.X 0 15)))]) else none) else (bif (ieq a0.Op 7) then (some [(.one (.b (ieq a0.X 0)))]) else (bif (ieq a0.Op 8) then (bif (i_within_c a0.X 0 11) then (some [(.one (.b (i_within a0.X 0 11)))]) else none) else (some [(.one (.b false))])))))) else (bif (ieq a0.Op 5) then (bif (ieq a0.Op 5) then (bif (i_within_c a0.X 0 99) then (some [(.one (.b (i_within a0.X 0 99)))]) else none) else (bif (ieq a0.Op 3) then (bif (ieq a0.Op 3) then (bif (i_within_c a0.X 0 15) then (some [(.one (.b (i_within a0.X 0 15)))]) else none) else (bif (ieq a0.Op 7) then (some [(.one (.b (ieq a0.X 0)))]) else (bif (ieq a0.Op 8) then (bif (i_within_c a0.X 0 11) then (some [(.one (.b (i_within a0.X 0 11)))]) else none) else (some [(.one (.b false))])))) else (bif (ieq a0.Op 4) then (bif (i_within_c a0.X 0 15) then (some [(.one (.b (i_within a0.X 0 15)))]) else none) else (bif (ieq a0.Op 7) then (some [(.one (.b (ieq a0.X 0)))]) else (bif (ieq a0.Op 8) then (bif (i_within_c a0.X 0 11) then (some [(.one (.b (i_within a0.X 0 11)))]) else none) else (some [(.one (.b false))])))))) else (bif (ieq a0.Op 6) then (bif (i_within_c a0.X 0 99) then (some [(.one (.b (i_within a0.X 0 99)))]) else none) else (bif (ieq a0.Op 3) then (bif (ieq a0.Op 3) then (bif (i_within_c a0.X 0 15) then (some [(.one (.b (i_within a0.X 0 15)))]) else none) else (bif (ieq a0.Op 7) then (some [(.one (.b (ieq a0.X 0)))]) else (bif (ieq a0.Op 8) then (bif (i_within_c a0.X 0 11) then (some [(.one (.b (i_within a0.X 0 11)))]) else none) else (some [(.one (.b false))])))) else (bif (ieq a0.Op 4) then (bif (i_within_c a0.X 0 15) then (some [(.one (.b (i_within a0.X 0 15)))]) else none) else (bif (ieq a0.Op 7) then (some [(.one (.b (ieq a0.X 0)))]) else (bif (ieq a0.Op 8) then (bif (i_within_c a0.X 0 11) then (some [(.one (.b (i_within a0.X 0 11)))]) else none) else (some [(.one (.b false))])))))))))

theorem nf_i_InsOk (N : Nat) (a0 : Ins) : evalFn (cfgQ (aget ctrN1) (aget mctC) (aget pct0) (aget tct0)) (tmsOf []) N 12 160 [.agg (Ty.cells .ins a0)] = E_i_InsOk N a0 := by kernel_rfl

theorem law_i_InsOk (a0 : Ins) (hb : AllB big [.agg (Ty.cells .ins a0)]) (hc : (i_InsOk_c a0) = true) : ∃ N, E_i_InsOk N a0 = some [.one (.b (i_InsOk a0))] := by
  refine ⟨0, ?_⟩
  unfold E_i_InsOk
  refine br (fun h0 => ?_) (fun h0 => ?_)
  · refine br (fun h1 => ?_) (fun h1 => ?_)
    · refine must rfl ?_
      first | rfl | (simp only [h0, h1, i_InsOk, insOk, cT, cF] <;> rfl) | (simp_all [Ty.cells, i_InsOk, insOk]; done)
    · refine br (fun h2 => ?_) (fun h2 => ?_)
      · refine br (fun h3 => ?_) (fun h3 => ?_)
        · refine must rfl ?_
          first | rfl | (simp only [h0, h1, h2, h3, i_InsOk, insOk, cT, cF] <;> rfl) | (simp_all [Ty.cells, i_InsOk, insOk]; done)
        · refine br (fun h4 => ?_) (fun h4 => ?_)
          · first | rfl | (simp only [h0, h1, h2, h3, h4, i_InsOk, insOk, cT, cF] <;> rfl) | (simp_all [Ty.cells, i_InsOk, insOk]; done)
          · refine br (fun h5 => ?_) (fun h5 => ?_)
            · refine must rfl ?_
              first | rfl | (simp only [h0, h1, h2, h3, h4, h5, i_InsOk, insOk, cT, cF] <;> rfl) | (simp_all [Ty.cells, i_InsOk, insOk]; done)
            · first | rfl | (simp only [h0, h1, h2, h3, h4, h5, i_InsOk, insOk, cT, cF] <;> rfl) | (simp_all [Ty.cells, i_InsOk, insOk]; done)
      · refine br (fun h3 => ?_) (fun h3 => ?_)
        · refine must rfl ?_
          first | rfl | (simp only [h0, h1, h2, h3, i_InsOk, insOk, cT, cF] <;> rfl) | (simp_all [Ty.cells, i_InsOk, insOk]; done)
        · refine br (fun h4 => ?_) (fun h4 => ?_)
          · first | rfl | (simp only [h0, h1, h2, h3, h4, i_InsOk, insOk, cT, cF] <;> rfl) | (simp_all [Ty.cells, i_InsOk, insOk]; done)
          · refine br (fun h5 => ?_) (fun h5 => ?_)
            · refine must rfl ?_
              first | rfl | (simp only [h0, h1, h2, h3, h4, h5, i_InsOk, insOk, cT, cF] <;> rfl) | (simp_all [Ty.cells, i_InsOk, insOk]; done)
            · first | rfl | (simp only [h0, h1, h2, h3, h4, h5, i_InsOk, insOk, cT, cF] <;> rfl) | (simp_all [Ty.cells, i_InsOk, insOk]; done)
  · refine br (fun h1 => ?_) (fun h1 => ?_)
    · refine br (fun h2 => ?_) (fun h2 => ?_)
      · refine must rfl ?_
        first | rfl | (simp only [h0, h1, h2, i_InsOk, insOk, cT, cF] <;> rfl) | (simp_all [Ty.cells, i_InsOk, insOk]; done)
      · refine br (fun h3 => ?_) (fun h3 => ?_)
        · refine br (fun h4 => ?_) (fun h4 => ?_)
          · refine must rfl ?_
            first | rfl | (simp only [h0, h1, h2, h3, h4, i_InsOk, insOk, cT, cF] <;> rfl) | (simp_all [Ty.cells, i_InsOk, insOk]; done)
          · refine br (fun h5 => ?_) (fun h5 => ?_)
            · first | rfl | (simp only [h0, h1, h2, h3, h4, h5, i_InsOk, insOk, cT, cF] <;> rfl) | (simp_all [Ty.cells, i_InsOk, insOk]; done)
            · refine br (fun h6 => ?_) (fun h6 => ?_)
              · refine must rfl ?_
                first | rfl | (simp only [h0, h1, h2, h3, h4, h5, h6, i_InsOk, insOk, cT, cF] <;> rfl) | (simp_all [Ty.cells, i_InsOk, insOk]; done)
              · first | rfl | (simp only [h0, h1, h2, h3, h4, h5, h6, i_InsOk, insOk, cT, cF] <;> rfl) | (simp_all [Ty.cells, i_InsOk, insOk]; done)
        · refine br (fun h4 => ?_) (fun h4 => ?_)
          · refine must rfl ?_
            first | rfl | (simp only [h0, h1, h2, h3, h4, i_InsOk, insOk, cT, cF] <;> rfl) | (simp_all [Ty.cells, i_InsOk, insOk]; done)
          · refine br (fun h5 => ?_) (fun h5 => ?_)
            · first | rfl | (simp only [h0, h1, h2, h3, h4, h5, i_InsOk, insOk, cT, cF] <;> rfl) | (simp_all [Ty.cells, i_InsOk, insOk]; done)
            · refine br (fun h6 => ?_) (fun h6 => ?_)
              · refine must rfl ?_
                first | rfl | (simp only [h0, h1, h2, h3, h4, h5, h6, i_InsOk, insOk, cT, cF] <;> rfl) | (simp_all [Ty.cells, i_InsOk, insOk]; done)
              · first | rfl | (simp only [h0, h1, h2, h3, h4, h5, h6, i_InsOk, insOk, cT, cF] <;> rfl) | (simp_all [Ty.cells, i_InsOk, insOk]; done)
    · refine br (fun h2 => ?_) (fun h2 => ?_)
      · refine br (fun h3 => ?_) (fun h3 => ?_)
        · refine must rfl ?_
          first | rfl | (simp only [h0, h1, h2, h3, i_InsOk, insOk, cT, cF] <;> rfl) | (simp_all [Ty.cells, i_InsOk, insOk]; done)
        · refine br (fun h4 => ?_) (fun h4 => ?_)
          · refine br (fun h5 => ?_) (fun h5 => ?_)
            · refine must rfl ?_
              first | rfl | (simp only [h0, h1, h2, h3, h4, h5, i_InsOk, insOk, cT, cF] <;> rfl) | (simp_all [Ty.cells, i_InsOk, insOk]; done)
            · refine br (fun h6 => ?_) (fun h6 => ?_)
              · first | rfl | (simp only [h0, h1, h2, h3, h4, h5, h6, i_InsOk, insOk, cT, cF] <;> rfl) | (simp_all [Ty.cells, i_InsOk, insOk]; done)
              · refine br (fun h7 => ?_) (fun h7 => ?_)
                · refine must rfl ?_
                  first | rfl | (simp only [h0, h1, h2, h3, h4, h5, h6, h7, i_InsOk, insOk, cT, cF] <;> rfl) | (simp_all [Ty.cells, i_InsOk, insOk]; done)
                · first | rfl | (simp only [h0, h1, h2, h3, h4, h5, h6, h7, i_InsOk, insOk, cT, cF] <;> rfl) | (simp_all [Ty.cells, i_InsOk, insOk]; done)
          · refine br (fun h5 => ?_) (fun h5 => ?_)
            · refine must rfl ?_
              first | rfl | (simp only [h0, h1, h2, h3, h4, h5, i_InsOk, insOk, cT, cF] <;> rfl) | (simp_all [Ty.cells, i_InsOk, insOk]; done)
            · refine br (fun h6 => ?_) (fun h6 => ?_)
              · first | rfl | (simp only [h0, h1, h2, h3, h4, h5, h6, i_InsOk, insOk, cT, cF] <;> rfl) | (simp_all [Ty.cells, i_InsOk, insOk]; done)
              · refine br (fun h7 => ?_) (fun h7 => ?_)
                · refine must rfl ?_
                  first | rfl | (simp only [h0, h1, h2, h3, h4, h5, h6, h7, i_InsOk, insOk, cT, cF] <;> rfl) | (simp_all [Ty.cells, i_InsOk, insOk]; done)
                · first | rfl | (simp only [h0, h1, h2, h3, h4, h5, h6, h7, i_InsOk, insOk, cT, cF] <;> rfl) | (simp_all [Ty.cells, i_InsOk, insOk]; done)
      · refine br (fun h3 => ?_) (fun h3 => ?_)
        · refine must rfl ?_
          first | rfl | (simp only [h0, h1, h2, h3, i_InsOk, insOk, cT, cF] <;> rfl) | (simp_all [Ty.cells, i_InsOk, insOk]; done)
        · refine br (fun h4 => ?_) (fun h4 => ?_)
          · refine br (fun h5 => ?_) (fun h5 => ?_)
            · refine must rfl ?_
              first | rfl | (simp only [h0, h1, h2, h3, h4, h5, i_InsOk, insOk, cT, cF] <;> rfl) | (simp_all [Ty.cells, i_InsOk, insOk]; done)
            · refine br (fun h6 => ?_) (fun h6 => ?_)
              · first | rfl | (simp only [h0, h1, h2, h3, h4, h5, h6, i_InsOk, insOk, cT, cF] <;> rfl) | (simp_all [Ty.cells, i_InsOk, insOk]; done)
              · refine br (fun h7 => ?_) (fun h7 => ?_)
                · refine must rfl ?_
                  first | rfl | (simp only [h0, h1, h2, h3, h4, h5, h6, h7, i_InsOk, insOk, cT, cF] <;> rfl) | (simp_all [Ty.cells, i_InsOk, insOk]; done)
                · first | rfl | (simp only [h0, h1, h2, h3, h4, h5, h6, h7, i_InsOk, insOk, cT, cF] <;> rfl) | (simp_all [Ty.cells, i_InsOk, insOk]; done)
          · refine br (fun h5 => ?_) (fun h5 => ?_)
            · refine must rfl ?_
              first | rfl | (simp only [h0, h1, h2, h3, h4, h5, i_InsOk, insOk, cT, cF] <;> rfl) | (simp_all [Ty.cells, i_InsOk, insOk]; done)
            · refine br (fun h6 => ?_) (fun h6 => ?_)
              · first | rfl | (simp only [h0, h1, h2, h3, h4, h5, h6, i_InsOk, insOk, cT, cF] <;> rfl) | (simp_all [Ty.cells, i_InsOk, insOk]; done)
              · refine br (fun h7 => ?_) (fun h7 => ?_)
                · refine must rfl ?_
                  first | rfl | (simp only [h0, h1, h2, h3, h4, h5, h6, h7, i_InsOk, insOk, cT, cF] <;> rfl) | (simp_all [Ty.cells, i_InsOk, insOk]; done)
                · first | rfl | (simp only [h0, h1, h2, h3, h4, h5, h6, h7, i_InsOk, insOk, cT, cF] <;> rfl) | (simp_all [Ty.cells, i_InsOk, insOk]; done)
theorem holds_i_InsOk : Holds Tryz.prog 160 run_i_InsOk := by
  refine holds_of_eval (engQ_ok ctrN1_ok mctC_ok pct0_ok tct0_ok) (fn_ok (by kernel_rfl)) ?_
  intro avs rs hr h
  have hb := allB_of_rep hr
  unfold run_i_InsOk at h
  split at h
  · rename_i a0_0 a0_1
    obtain ⟨hc, rfl⟩ := some_pair h
    obtain ⟨N, hN⟩ := law_i_InsOk (⟨a0_0, a0_1⟩ : Ins) hb hc
    exact ⟨tmsOf [], N, 12, (nf_i_InsOk N (⟨a0_0, a0_1⟩ : Ins)).trans hN⟩
  · cases h

def exitOk (e : GExit) : Bool := bif (ieq e.Kind 0 || ieq e.Kind 4) then (ieq e.Page 0 && (!e.Write && ieq e.N 0)) else (bif ieq e.Kind 1 then (win e.Page 0 3 && ieq e.N 0) else (bif (ieq e.Kind 2 || ieq e.Kind 3) then (win e.N 0 99 && (ieq e.Page 0 && !e.Write)) else false))
@[simp] theorem beqb_f (x : Bool) : beqb x false = !x := by cases x <;> rfl
attribute [simp] ieq_self
@[simp, reducible] def s_ExitOk_c (e : GExit) : Bool := true
@[simp, reducible] def s_ExitOk (e : GExit) : Bool := exitOk e
noncomputable def run_s_ExitOk : List AV → Option (Bool × List AV)
  | [.agg [.i .i64 a0_0, .i .i64 a0_1, .b a0_2, .i .i64 a0_3]] => some ((s_ExitOk_c (⟨a0_0, a0_1, a0_2, a0_3⟩ : GExit)), [.one (.b (s_ExitOk (⟨a0_0, a0_1, a0_2, a0_3⟩ : GExit)))])
  | _ => none

noncomputable def E_s_ExitOk (N : Nat) (a0 : GExit) : Option Ans :=
  (bif (ieq a0.Kind 0) then (bif (ieq a0.Kind 0) then (some [(.one (.b (bif (ieq a0.Kind a0.Kind) then (bif (ieq a0.Page 0) then (bif (beqb a0.Write false) then (ieq a0.N 0) else false) else false) else false)))]) else (bif (ieq a0.Kind 1) then (bif (s_l01In_c a0.Page 0 3) then (bif (s_l01In a0.Page 0 3) then (some [(.one (.b (ieq a0.N 0)))]) else (some [(.one (.b false))])) else none) else (bif (ieq a0.Kind 2) then (bif (ieq a0.Kind 2) then (bif (s_l01In_c a0.N 0 99) then (bif (s_l01In a0.N 0 99) then (bif (ieq a0.Page 0) then (some [(.one (.b (bif a0.Write then false else true)))]) else (some [(.one (.b false))])) else (some [(.one (.b false))])) else none) else (some [(.one (.b false))])) else (bif (ieq a0.Kind 3) then (bif (s_l01In_c a0.N 0 99) then (bif (s_l01In a0.N 0 99) then (bif (ieq a0.Page 0) then (some [(.one (.b (bif a0.Write then false else true)))]) else (some [(.one (.b false))])) else (some [(.one (.b false))])) else none) else (some [(.one (.b false))]))))) else (bif (ieq a0.Kind 4) then (some [(.one (.b (bif (ieq a0.Kind a0.Kind) then (bif (ieq a0.Page 0) then (bif (beqb a0.Write false) then (ieq a0.N 0) else false) else false) else false)))]) else (bif (ieq a0.Kind 1) then (bif (s_l01In_c a0.Page 0 3) then (bif (s_l01In a0.Page 0 3) then (some [(.one (.b (ieq a0.N 0)))]) else (some [(.one (.b false))])) else none) else (bif (ieq a0.Kind 2) then (bif (ieq a0.Kind 2) then (bif (s_l01In_c a0.N 0 99) then (bif (s_l01In a0.N 0 99) then (bif (ieq a0.Page 0) then (some [(.one (.b (bif a0.Write then false else true)))]) else (some [(.one (.b false))])) else (some [(.one (.b false))])) else none) else (some [(.one (.b false))])) else (bif (ieq a0.Kind 3) then (bif (s_l01In_c a0.N 0 99) then (bif (s_l01In a0.N 0 99) then (bif (ieq a0.Page 0) then (some [(.one (.b (bif a0.Write then false else true)))]) else (some [(.one (.b false))])) else (some [(.one (.b false))])) else none) else (some [(.one (.b false))]))))))

theorem nf_s_ExitOk (N : Nat) (a0 : GExit) : evalFn (cfgQ (aget ctrN1) (aget mctC) (aget pct0) (aget tct0)) (tmsOf []) N 12 132 [.agg (exitC a0)] = E_s_ExitOk N a0 := by kernel_rfl

theorem law_s_ExitOk (a0 : GExit) (hb : AllB big [.agg (exitC a0)]) (hc : (s_ExitOk_c a0) = true) : ∃ N, E_s_ExitOk N a0 = some [.one (.b (s_ExitOk a0))] := by
  refine ⟨0, ?_⟩
  unfold E_s_ExitOk
  refine br (fun h0 => ?_) (fun h0 => ?_)
  · refine br (fun h1 => ?_) (fun h1 => ?_)
    · first | rfl | (simp only [h0, h1, s_ExitOk, exitOk, cT, cF] <;> rfl) | (simp_all [Ty.cells, s_ExitOk, exitOk]; done)
    · refine br (fun h2 => ?_) (fun h2 => ?_)
      · refine must rfl ?_
        refine br (fun h3 => ?_) (fun h3 => ?_)
        · first | rfl | (simp only [h0, h1, h2, h3, s_ExitOk, exitOk, cT, cF] <;> rfl) | (simp_all [Ty.cells, s_ExitOk, exitOk]; done)
        · first | rfl | (simp only [h0, h1, h2, h3, s_ExitOk, exitOk, cT, cF] <;> rfl) | (simp_all [Ty.cells, s_ExitOk, exitOk]; done)
      · refine br (fun h3 => ?_) (fun h3 => ?_)
        · refine br (fun h4 => ?_) (fun h4 => ?_)
          · refine must rfl ?_
            refine br (fun h5 => ?_) (fun h5 => ?_)
            · refine br (fun h6 => ?_) (fun h6 => ?_)
              · first | rfl | (simp only [h0, h1, h2, h3, h4, h5, h6, s_ExitOk, exitOk, cT, cF] <;> rfl) | (simp_all [Ty.cells, s_ExitOk, exitOk]; done)
              · first | rfl | (simp only [h0, h1, h2, h3, h4, h5, h6, s_ExitOk, exitOk, cT, cF] <;> rfl) | (simp_all [Ty.cells, s_ExitOk, exitOk]; done)
            · first | rfl | (simp only [h0, h1, h2, h3, h4, h5, s_ExitOk, exitOk, cT, cF] <;> rfl) | (simp_all [Ty.cells, s_ExitOk, exitOk]; done)
          · first | rfl | (simp only [h0, h1, h2, h3, h4, s_ExitOk, exitOk, cT, cF] <;> rfl) | (simp_all [Ty.cells, s_ExitOk, exitOk]; done)
        · refine br (fun h4 => ?_) (fun h4 => ?_)
          · refine must rfl ?_
            refine br (fun h5 => ?_) (fun h5 => ?_)
            · refine br (fun h6 => ?_) (fun h6 => ?_)
              · first | rfl | (simp only [h0, h1, h2, h3, h4, h5, h6, s_ExitOk, exitOk, cT, cF] <;> rfl) | (simp_all [Ty.cells, s_ExitOk, exitOk]; done)
              · first | rfl | (simp only [h0, h1, h2, h3, h4, h5, h6, s_ExitOk, exitOk, cT, cF] <;> rfl) | (simp_all [Ty.cells, s_ExitOk, exitOk]; done)
            · first | rfl | (simp only [h0, h1, h2, h3, h4, h5, s_ExitOk, exitOk, cT, cF] <;> rfl) | (simp_all [Ty.cells, s_ExitOk, exitOk]; done)
          · first | rfl | (simp only [h0, h1, h2, h3, h4, s_ExitOk, exitOk, cT, cF] <;> rfl) | (simp_all [Ty.cells, s_ExitOk, exitOk]; done)
  · refine br (fun h1 => ?_) (fun h1 => ?_)
    · first | rfl | (simp only [h0, h1, s_ExitOk, exitOk, cT, cF] <;> rfl) | (simp_all [Ty.cells, s_ExitOk, exitOk]; done)
    · refine br (fun h2 => ?_) (fun h2 => ?_)
      · refine must rfl ?_
        refine br (fun h3 => ?_) (fun h3 => ?_)
        · first | rfl | (simp only [h0, h1, h2, h3, s_ExitOk, exitOk, cT, cF] <;> rfl) | (simp_all [Ty.cells, s_ExitOk, exitOk]; done)
        · first | rfl | (simp only [h0, h1, h2, h3, s_ExitOk, exitOk, cT, cF] <;> rfl) | (simp_all [Ty.cells, s_ExitOk, exitOk]; done)
      · refine br (fun h3 => ?_) (fun h3 => ?_)
        · refine br (fun h4 => ?_) (fun h4 => ?_)
          · refine must rfl ?_
            refine br (fun h5 => ?_) (fun h5 => ?_)
            · refine br (fun h6 => ?_) (fun h6 => ?_)
              · first | rfl | (simp only [h0, h1, h2, h3, h4, h5, h6, s_ExitOk, exitOk, cT, cF] <;> rfl) | (simp_all [Ty.cells, s_ExitOk, exitOk]; done)
              · first | rfl | (simp only [h0, h1, h2, h3, h4, h5, h6, s_ExitOk, exitOk, cT, cF] <;> rfl) | (simp_all [Ty.cells, s_ExitOk, exitOk]; done)
            · first | rfl | (simp only [h0, h1, h2, h3, h4, h5, s_ExitOk, exitOk, cT, cF] <;> rfl) | (simp_all [Ty.cells, s_ExitOk, exitOk]; done)
          · first | rfl | (simp only [h0, h1, h2, h3, h4, s_ExitOk, exitOk, cT, cF] <;> rfl) | (simp_all [Ty.cells, s_ExitOk, exitOk]; done)
        · refine br (fun h4 => ?_) (fun h4 => ?_)
          · refine must rfl ?_
            refine br (fun h5 => ?_) (fun h5 => ?_)
            · refine br (fun h6 => ?_) (fun h6 => ?_)
              · first | rfl | (simp only [h0, h1, h2, h3, h4, h5, h6, s_ExitOk, exitOk, cT, cF] <;> rfl) | (simp_all [Ty.cells, s_ExitOk, exitOk]; done)
              · first | rfl | (simp only [h0, h1, h2, h3, h4, h5, h6, s_ExitOk, exitOk, cT, cF] <;> rfl) | (simp_all [Ty.cells, s_ExitOk, exitOk]; done)
            · first | rfl | (simp only [h0, h1, h2, h3, h4, h5, s_ExitOk, exitOk, cT, cF] <;> rfl) | (simp_all [Ty.cells, s_ExitOk, exitOk]; done)
          · first | rfl | (simp only [h0, h1, h2, h3, h4, s_ExitOk, exitOk, cT, cF] <;> rfl) | (simp_all [Ty.cells, s_ExitOk, exitOk]; done)
theorem holds_s_ExitOk : Holds Tryz.prog 132 run_s_ExitOk := by
  refine holds_of_eval (engQ_ok ctrN1_ok mctC_ok pct0_ok tct0_ok) (fn_ok (by kernel_rfl)) ?_
  intro avs rs hr h
  have hb := allB_of_rep hr
  unfold run_s_ExitOk at h
  split at h
  · rename_i a0_0 a0_1 a0_2 a0_3
    obtain ⟨hc, rfl⟩ := some_pair h
    obtain ⟨N, hN⟩ := law_s_ExitOk (⟨a0_0, a0_1, a0_2, a0_3⟩ : GExit) hb hc
    exact ⟨tmsOf [], N, 12, (nf_s_ExitOk N (⟨a0_0, a0_1, a0_2, a0_3⟩ : GExit)).trans hN⟩
  · cases h

@[simp, reducible] def i_ExitOk_c (e : GExit) : Bool := true
@[simp, reducible] def i_ExitOk (e : GExit) : Bool := exitOk e
noncomputable def run_i_ExitOk : List AV → Option (Bool × List AV)
  | [.agg [.i .i64 a0_0, .i .i64 a0_1, .b a0_2, .i .i64 a0_3]] => some ((i_ExitOk_c (⟨a0_0, a0_1, a0_2, a0_3⟩ : GExit)), [.one (.b (i_ExitOk (⟨a0_0, a0_1, a0_2, a0_3⟩ : GExit)))])
  | _ => none

noncomputable def E_i_ExitOk (N : Nat) (a0 : GExit) : Option Ans :=
  (bif (ieq a0.Kind 0) then (bif (ieq a0.Kind 0) then (bif (ieq a0.Page 0) then (bif (bif a0.Write then false else true) then (some [(.one (.b (ieq a0.N 0)))]) else (some [(.one (.b false))])) else (some [(.one (.b false))])) else (bif (ieq a0.Kind 1) then (bif (i_within_c a0.Page 0 3) then (bif (i_within a0.Page 0 3) then (some [(.one (.b (ieq a0.N 0)))]) else (some [(.one (.b false))])) else none) else (bif (ieq a0.Kind 2) then (bif (ieq a0.Kind 2) then (bif (i_within_c a0.N 0 99) then (bif (i_within a0.N 0 99) then (bif (ieq a0.Page 0) then (some [(.one (.b (bif a0.Write then false else true)))]) else (some [(.one (.b false))])) else (some [(.one (.b false))])) else none) else (some [(.one (.b false))])) else (bif (ieq a0.Kind 3) then (bif (i_within_c a0.N 0 99) then (bif (i_within a0.N 0 99) then (bif (ieq a0.Page 0) then (some [(.one (.b (bif a0.Write then false else true)))]) else (some [(.one (.b false))])) else (some [(.one (.b false))])) else none) else (some [(.one (.b false))]))))) else (bif (ieq a0.Kind 4) then (bif (ieq a0.Page 0) then (bif (bif a0.Write then false else true) then (some [(.one (.b (ieq a0.N 0)))]) else (some [(.one (.b false))])) else (some [(.one (.b false))])) else (bif (ieq a0.Kind 1) then (bif (i_within_c a0.Page 0 3) then (bif (i_within a0.Page 0 3) then (some [(.one (.b (ieq a0.N 0)))]) else (some [(.one (.b false))])) else none) else (bif (ieq a0.Kind 2) then (bif (ieq a0.Kind 2) then (bif (i_within_c a0.N 0 99) then (bif (i_within a0.N 0 99) then (bif (ieq a0.Page 0) then (some [(.one (.b (bif a0.Write then false else true)))]) else (some [(.one (.b false))])) else (some [(.one (.b false))])) else none) else (some [(.one (.b false))])) else (bif (ieq a0.Kind 3) then (bif (i_within_c a0.N 0 99) then (bif (i_within a0.N 0 99) then (bif (ieq a0.Page 0) then (some [(.one (.b (bif a0.Write then false else true)))]) else (some [(.one (.b false))])) else (some [(.one (.b false))])) else none) else (some [(.one (.b false))]))))))

theorem nf_i_ExitOk (N : Nat) (a0 : GExit) : evalFn (cfgQ (aget ctrN1) (aget mctC) (aget pct0) (aget tct0)) (tmsOf []) N 12 146 [.agg (exitC a0)] = E_i_ExitOk N a0 := by kernel_rfl

theorem law_i_ExitOk (a0 : GExit) (hb : AllB big [.agg (exitC a0)]) (hc : (i_ExitOk_c a0) = true) : ∃ N, E_i_ExitOk N a0 = some [.one (.b (i_ExitOk a0))] := by
  refine ⟨0, ?_⟩
  unfold E_i_ExitOk
  refine br (fun h0 => ?_) (fun h0 => ?_)
  · refine br (fun h1 => ?_) (fun h1 => ?_)
    · refine br (fun h2 => ?_) (fun h2 => ?_)
      · refine brN (fun h3 => ?_) (fun h3 => ?_)
        · first | rfl | (simp only [h0, h1, h2, h3, i_ExitOk, exitOk, cT, cF] <;> rfl) | (simp_all [Ty.cells, i_ExitOk, exitOk]; done)
        · first | rfl | (simp only [h0, h1, h2, h3, i_ExitOk, exitOk, cT, cF] <;> rfl) | (simp_all [Ty.cells, i_ExitOk, exitOk]; done)
      · first | rfl | (simp only [h0, h1, h2, i_ExitOk, exitOk, cT, cF] <;> rfl) | (simp_all [Ty.cells, i_ExitOk, exitOk]; done)
    · refine br (fun h2 => ?_) (fun h2 => ?_)
      · refine must rfl ?_
        refine br (fun h3 => ?_) (fun h3 => ?_)
        · first | rfl | (simp only [h0, h1, h2, h3, i_ExitOk, exitOk, cT, cF] <;> rfl) | (simp_all [Ty.cells, i_ExitOk, exitOk]; done)
        · first | rfl | (simp only [h0, h1, h2, h3, i_ExitOk, exitOk, cT, cF] <;> rfl) | (simp_all [Ty.cells, i_ExitOk, exitOk]; done)
      · refine br (fun h3 => ?_) (fun h3 => ?_)
        · refine br (fun h4 => ?_) (fun h4 => ?_)
          · refine must rfl ?_
            refine br (fun h5 => ?_) (fun h5 => ?_)
            · refine br (fun h6 => ?_) (fun h6 => ?_)
              · first | rfl | (simp only [h0, h1, h2, h3, h4, h5, h6, i_ExitOk, exitOk, cT, cF] <;> rfl) | (simp_all [Ty.cells, i_ExitOk, exitOk]; done)
              · first | rfl | (simp only [h0, h1, h2, h3, h4, h5, h6, i_ExitOk, exitOk, cT, cF] <;> rfl) | (simp_all [Ty.cells, i_ExitOk, exitOk]; done)
            · first | rfl | (simp only [h0, h1, h2, h3, h4, h5, i_ExitOk, exitOk, cT, cF] <;> rfl) | (simp_all [Ty.cells, i_ExitOk, exitOk]; done)
          · first | rfl | (simp only [h0, h1, h2, h3, h4, i_ExitOk, exitOk, cT, cF] <;> rfl) | (simp_all [Ty.cells, i_ExitOk, exitOk]; done)
        · refine br (fun h4 => ?_) (fun h4 => ?_)
          · refine must rfl ?_
            refine br (fun h5 => ?_) (fun h5 => ?_)
            · refine br (fun h6 => ?_) (fun h6 => ?_)
              · first | rfl | (simp only [h0, h1, h2, h3, h4, h5, h6, i_ExitOk, exitOk, cT, cF] <;> rfl) | (simp_all [Ty.cells, i_ExitOk, exitOk]; done)
              · first | rfl | (simp only [h0, h1, h2, h3, h4, h5, h6, i_ExitOk, exitOk, cT, cF] <;> rfl) | (simp_all [Ty.cells, i_ExitOk, exitOk]; done)
            · first | rfl | (simp only [h0, h1, h2, h3, h4, h5, i_ExitOk, exitOk, cT, cF] <;> rfl) | (simp_all [Ty.cells, i_ExitOk, exitOk]; done)
          · first | rfl | (simp only [h0, h1, h2, h3, h4, i_ExitOk, exitOk, cT, cF] <;> rfl) | (simp_all [Ty.cells, i_ExitOk, exitOk]; done)
  · refine br (fun h1 => ?_) (fun h1 => ?_)
    · refine br (fun h2 => ?_) (fun h2 => ?_)
      · refine brN (fun h3 => ?_) (fun h3 => ?_)
        · first | rfl | (simp only [h0, h1, h2, h3, i_ExitOk, exitOk, cT, cF] <;> rfl) | (simp_all [Ty.cells, i_ExitOk, exitOk]; done)
        · first | rfl | (simp only [h0, h1, h2, h3, i_ExitOk, exitOk, cT, cF] <;> rfl) | (simp_all [Ty.cells, i_ExitOk, exitOk]; done)
      · first | rfl | (simp only [h0, h1, h2, i_ExitOk, exitOk, cT, cF] <;> rfl) | (simp_all [Ty.cells, i_ExitOk, exitOk]; done)
    · refine br (fun h2 => ?_) (fun h2 => ?_)
      · refine must rfl ?_
        refine br (fun h3 => ?_) (fun h3 => ?_)
        · first | rfl | (simp only [h0, h1, h2, h3, i_ExitOk, exitOk, cT, cF] <;> rfl) | (simp_all [Ty.cells, i_ExitOk, exitOk]; done)
        · first | rfl | (simp only [h0, h1, h2, h3, i_ExitOk, exitOk, cT, cF] <;> rfl) | (simp_all [Ty.cells, i_ExitOk, exitOk]; done)
      · refine br (fun h3 => ?_) (fun h3 => ?_)
        · refine br (fun h4 => ?_) (fun h4 => ?_)
          · refine must rfl ?_
            refine br (fun h5 => ?_) (fun h5 => ?_)
            · refine br (fun h6 => ?_) (fun h6 => ?_)
              · first | rfl | (simp only [h0, h1, h2, h3, h4, h5, h6, i_ExitOk, exitOk, cT, cF] <;> rfl) | (simp_all [Ty.cells, i_ExitOk, exitOk]; done)
              · first | rfl | (simp only [h0, h1, h2, h3, h4, h5, h6, i_ExitOk, exitOk, cT, cF] <;> rfl) | (simp_all [Ty.cells, i_ExitOk, exitOk]; done)
            · first | rfl | (simp only [h0, h1, h2, h3, h4, h5, i_ExitOk, exitOk, cT, cF] <;> rfl) | (simp_all [Ty.cells, i_ExitOk, exitOk]; done)
          · first | rfl | (simp only [h0, h1, h2, h3, h4, i_ExitOk, exitOk, cT, cF] <;> rfl) | (simp_all [Ty.cells, i_ExitOk, exitOk]; done)
        · refine br (fun h4 => ?_) (fun h4 => ?_)
          · refine must rfl ?_
            refine br (fun h5 => ?_) (fun h5 => ?_)
            · refine br (fun h6 => ?_) (fun h6 => ?_)
              · first | rfl | (simp only [h0, h1, h2, h3, h4, h5, h6, i_ExitOk, exitOk, cT, cF] <;> rfl) | (simp_all [Ty.cells, i_ExitOk, exitOk]; done)
              · first | rfl | (simp only [h0, h1, h2, h3, h4, h5, h6, i_ExitOk, exitOk, cT, cF] <;> rfl) | (simp_all [Ty.cells, i_ExitOk, exitOk]; done)
            · first | rfl | (simp only [h0, h1, h2, h3, h4, h5, i_ExitOk, exitOk, cT, cF] <;> rfl) | (simp_all [Ty.cells, i_ExitOk, exitOk]; done)
          · first | rfl | (simp only [h0, h1, h2, h3, h4, i_ExitOk, exitOk, cT, cF] <;> rfl) | (simp_all [Ty.cells, i_ExitOk, exitOk]; done)
theorem holds_i_ExitOk : Holds Tryz.prog 146 run_i_ExitOk := by
  refine holds_of_eval (engQ_ok ctrN1_ok mctC_ok pct0_ok tct0_ok) (fn_ok (by kernel_rfl)) ?_
  intro avs rs hr h
  have hb := allB_of_rep hr
  unfold run_i_ExitOk at h
  split at h
  · rename_i a0_0 a0_1 a0_2 a0_3
    obtain ⟨hc, rfl⟩ := some_pair h
    obtain ⟨N, hN⟩ := law_i_ExitOk (⟨a0_0, a0_1, a0_2, a0_3⟩ : GExit) hb hc
    exact ⟨tmsOf [], N, 12, (nf_i_ExitOk N (⟨a0_0, a0_1, a0_2, a0_3⟩ : GExit)).trans hN⟩
  · cases h

def ctlFaults (c : Ctl) : List Int := (bif win c.Traps 0 3 then [] else [1]) ++ ((bif win c.Post 0 255 then [] else [2]) ++ ((bif ine c.Post 0 then (bif c.Open then [] else [3]) else []) ++ (bif ieq c.Traps 2 then (bif ine c.Post 0 then [4] else []) else [])))
@[simp] theorem ap_cons {α : Type} (x : α) (l m : List α) : ap (x :: l) m = x :: ap l m := rfl
@[simp, reducible] def s_CtlFaults_c (c : Ctl) : Bool := true
@[simp, reducible] def s_CtlFaults (c : Ctl) : List Int := ctlFaults c
noncomputable def run_s_CtlFaults : List AV → Option (Bool × List AV)
  | [.agg [.i .i64 a0_0, .i .i64 a0_1, .b a0_2]] => some ((s_CtlFaults_c (⟨a0_0, a0_1, a0_2⟩ : Ctl)), [.one (.s .int (s_CtlFaults (⟨a0_0, a0_1, a0_2⟩ : Ctl)))])
  | _ => none

noncomputable def E_s_CtlFaults (N : Nat) (a0 : Ctl) : Option Ans :=
  (bif (s_l01In_c a0.Traps 0 3) then (bif (bif (s_l01In a0.Traps 0 3) then false else true) then (bif (few (ln (ap [] [1]))) then (bif (s_l01In_c a0.Post 0 255) then (bif (bif (s_l01In a0.Post 0 255) then false else true) then (bif (few (ln (ap (ap [] [1]) [2]))) then (bif (ine a0.Post 0) then (bif (bif a0.Open then false else true) then (bif (few (ln (ap (ap (ap [] [1]) [2]) [3]))) then (bif (ieq a0.Traps 2) then (bif (ine a0.Post 0) then (bif (few (ln (ap (ap (ap (ap [] [1]) [2]) [3]) [4]))) then (some [(.one (.s .int (ap (ap (ap (ap [] [1]) [2]) [3]) [4])))]) else none) else (some [(.one (.s .int (ap (ap (ap [] [1]) [2]) [3])))])) else (some [(.one (.s .int (ap (ap (ap [] [1]) [2]) [3])))])) else none) else (bif (ieq a0.Traps 2) then (bif (ine a0.Post 0) then (bif (few (ln (ap (ap (ap [] [1]) [2]) [4]))) then (some [(.one (.s .int (ap (ap (ap [] [1]) [2]) [4])))]) else none) else (some [(.one (.s .int (ap (ap [] [1]) [2])))])) else (some [(.one (.s .int (ap (ap [] [1]) [2])))]))) else (bif (ieq a0.Traps 2) then (bif (ine a0.Post 0) then (bif (few (ln (ap (ap (ap [] [1]) [2]) [4]))) then (some [(.one (.s .int (ap (ap (ap [] [1]) [2]) [4])))]) else none) else (some [(.one (.s .int (ap (ap [] [1]) [2])))])) else (some [(.one (.s .int (ap (ap [] [1]) [2])))]))) else none) else (bif (ine a0.Post 0) then (bif (bif a0.Open then false else true) then (bif (few (ln (ap (ap [] [1]) [3]))) then (bif (ieq a0.Traps 2) then (bif (ine a0.Post 0) then (bif (few (ln (ap (ap (ap [] [1]) [3]) [4]))) then (some [(.one (.s .int (ap (ap (ap [] [1]) [3]) [4])))]) else none) else (some [(.one (.s .int (ap (ap [] [1]) [3])))])) else (some [(.one (.s .int (ap (ap [] [1]) [3])))])) else none) else (bif (ieq a0.Traps 2) then (bif (ine a0.Post 0) then (bif (few (ln (ap (ap [] [1]) [4]))) then (some [(.one (.s .int (ap (ap [] [1]) [4])))]) else none) else (some [(.one (.s .int (ap [] [1])))])) else (some [(.one (.s .int (ap [] [1])))]))) else (bif (ieq a0.Traps 2) then (bif (ine a0.Post 0) then (bif (few (ln (ap (ap [] [1]) [4]))) then (some [(.one (.s .int (ap (ap [] [1]) [4])))]) else none) else (some [(.one (.s .int (ap [] [1])))])) else (some [(.one (.s .int (ap [] [1])))])))) else none) else none) else (bif (s_l01In_c a0.Post 0 255) then (bif (bif (s_l01In a0.Post 0 255) then false else true) then (bif (few (ln (ap [] [2]))) then (bif (ine a0.Post 0) then (bif (bif a0.Open then false else true) then (bif (few (ln (ap (ap [] [2]) [3]))) then (bif (ieq a0.Traps 2) then (bif (ine a0.Post 0) then (bif (few (ln (ap (ap (ap [] [2]) [3]) [4]))) then (some [(.one (.s .int (ap (ap (ap [] [2]) [3]) [4])))]) else none) else (some [(.one (.s .int (ap (ap [] [2]) [3])))])) else (some [(.one (.s .int (ap (ap [] [2]) [3])))])) else none) else (bif (ieq a0.Traps 2) then (bif (ine a0.Post 0) then (bif (few (ln (ap (ap [] [2]) [4]))) then (some [(.one (.s .int (ap (ap [] [2]) [4])))]) else none) else (some [(.one (.s .int (ap [] [2])))])) else (some [(.one (.s .int (ap [] [2])))]))) else (bif (ieq a0.Traps 2) then (bif (ine a0.Post 0) then (bif (few (ln (ap (ap [] [2]) [4]))) then (some [(.one (.s .int (ap (ap [] [2]) [4])))]) else none) else (some [(.one (.s .int (ap [] [2])))])) else (some [(.one (.s .int (ap [] [2])))]))) else none) else (bif (ine a0.Post 0) then (bif (bif a0.Open then false else true) then (bif (few (ln (ap [] [3]))) then (bif (ieq a0.Traps 2) then (bif (ine a0.Post 0) then (bif (few (ln (ap (ap [] [3]) [4]))) then (some [(.one (.s .int (ap (ap [] [3]) [4])))]) else none) else (some [(.one (.s .int (ap [] [3])))])) else (some [(.one (.s .int (ap [] [3])))])) else none) else (bif (ieq a0.Traps 2) then (bif (ine a0.Post 0) then (bif (few (ln (ap [] [4]))) then (some [(.one (.s .int (ap [] [4])))]) else none) else (some [(.one (.s .int []))])) else (some [(.one (.s .int []))]))) else (bif (ieq a0.Traps 2) then (bif (ine a0.Post 0) then (bif (few (ln (ap [] [4]))) then (some [(.one (.s .int (ap [] [4])))]) else none) else (some [(.one (.s .int []))])) else (some [(.one (.s .int []))])))) else none)) else none)

theorem nf_s_CtlFaults (N : Nat) (a0 : Ctl) : evalFn (cfgQ (aget ctrN1) (aget mctC) (aget pct0) (aget tct0)) (tmsOf []) N 12 156 [.agg (ctlC a0)] = E_s_CtlFaults N a0 := by kernel_rfl

theorem law_s_CtlFaults (a0 : Ctl) (hb : AllB big [.agg (ctlC a0)]) (hc : (s_CtlFaults_c a0) = true) : ∃ N, E_s_CtlFaults N a0 = some [.one (.s .int (s_CtlFaults a0))] := by
  refine ⟨0, ?_⟩
  unfold E_s_CtlFaults
  refine must rfl ?_
  refine brN (fun h0 => ?_) (fun h0 => ?_)
  · refine must (by first | assumption | (simp_all <;> omega)) ?_
    refine must rfl ?_
    refine brN (fun h1 => ?_) (fun h1 => ?_)
    · refine must (by first | assumption | (simp_all <;> omega)) ?_
      refine br (fun h2 => ?_) (fun h2 => ?_)
      · refine brN (fun h3 => ?_) (fun h3 => ?_)
        · refine must (by first | assumption | (simp_all <;> omega)) ?_
          refine br (fun h4 => ?_) (fun h4 => ?_)
          · refine br (fun h5 => ?_) (fun h5 => ?_)
            · refine must (by first | assumption | (simp_all <;> omega)) ?_
              first | rfl | (simp only [h0, h1, h2, h3, h4, h5, s_CtlFaults, ctlFaults, cT, cF] <;> rfl) | (simp_all [Ty.cells, s_CtlFaults, ctlFaults]; done)
            · first | rfl | (simp only [h0, h1, h2, h3, h4, h5, s_CtlFaults, ctlFaults, cT, cF] <;> rfl) | (simp_all [Ty.cells, s_CtlFaults, ctlFaults]; done)
          · first | rfl | (simp only [h0, h1, h2, h3, h4, s_CtlFaults, ctlFaults, cT, cF] <;> rfl) | (simp_all [Ty.cells, s_CtlFaults, ctlFaults]; done)
        · refine br (fun h4 => ?_) (fun h4 => ?_)
          · refine br (fun h5 => ?_) (fun h5 => ?_)
            · refine must (by first | assumption | (simp_all <;> omega)) ?_
              first | rfl | (simp only [h0, h1, h2, h3, h4, h5, s_CtlFaults, ctlFaults, cT, cF] <;> rfl) | (simp_all [Ty.cells, s_CtlFaults, ctlFaults]; done)
            · first | rfl | (simp only [h0, h1, h2, h3, h4, h5, s_CtlFaults, ctlFaults, cT, cF] <;> rfl) | (simp_all [Ty.cells, s_CtlFaults, ctlFaults]; done)
          · first | rfl | (simp only [h0, h1, h2, h3, h4, s_CtlFaults, ctlFaults, cT, cF] <;> rfl) | (simp_all [Ty.cells, s_CtlFaults, ctlFaults]; done)
      · refine br (fun h3 => ?_) (fun h3 => ?_)
        · refine br (fun h4 => ?_) (fun h4 => ?_)
          · refine must (by first | assumption | (simp_all <;> omega)) ?_
            first | rfl | (simp only [h0, h1, h2, h3, h4, s_CtlFaults, ctlFaults, cT, cF] <;> rfl) | (simp_all [Ty.cells, s_CtlFaults, ctlFaults]; done)
          · first | rfl | (simp only [h0, h1, h2, h3, h4, s_CtlFaults, ctlFaults, cT, cF] <;> rfl) | (simp_all [Ty.cells, s_CtlFaults, ctlFaults]; done)
        · first | rfl | (simp only [h0, h1, h2, h3, s_CtlFaults, ctlFaults, cT, cF] <;> rfl) | (simp_all [Ty.cells, s_CtlFaults, ctlFaults]; done)
    · refine br (fun h2 => ?_) (fun h2 => ?_)
      · refine brN (fun h3 => ?_) (fun h3 => ?_)
        · refine must (by first | assumption | (simp_all <;> omega)) ?_
          refine br (fun h4 => ?_) (fun h4 => ?_)
          · refine br (fun h5 => ?_) (fun h5 => ?_)
            · refine must (by first | assumption | (simp_all <;> omega)) ?_
              first | rfl | (simp only [h0, h1, h2, h3, h4, h5, s_CtlFaults, ctlFaults, cT, cF] <;> rfl) | (simp_all [Ty.cells, s_CtlFaults, ctlFaults]; done)
            · first | rfl | (simp only [h0, h1, h2, h3, h4, h5, s_CtlFaults, ctlFaults, cT, cF] <;> rfl) | (simp_all [Ty.cells, s_CtlFaults, ctlFaults]; done)
          · first | rfl | (simp only [h0, h1, h2, h3, h4, s_CtlFaults, ctlFaults, cT, cF] <;> rfl) | (simp_all [Ty.cells, s_CtlFaults, ctlFaults]; done)
        · refine br (fun h4 => ?_) (fun h4 => ?_)
          · refine br (fun h5 => ?_) (fun h5 => ?_)
            · refine must (by first | assumption | (simp_all <;> omega)) ?_
              first | rfl | (simp only [h0, h1, h2, h3, h4, h5, s_CtlFaults, ctlFaults, cT, cF] <;> rfl) | (simp_all [Ty.cells, s_CtlFaults, ctlFaults]; done)
            · first | rfl | (simp only [h0, h1, h2, h3, h4, h5, s_CtlFaults, ctlFaults, cT, cF] <;> rfl) | (simp_all [Ty.cells, s_CtlFaults, ctlFaults]; done)
          · first | rfl | (simp only [h0, h1, h2, h3, h4, s_CtlFaults, ctlFaults, cT, cF] <;> rfl) | (simp_all [Ty.cells, s_CtlFaults, ctlFaults]; done)
      · refine br (fun h3 => ?_) (fun h3 => ?_)
        · refine br (fun h4 => ?_) (fun h4 => ?_)
          · refine must (by first | assumption | (simp_all <;> omega)) ?_
            first | rfl | (simp only [h0, h1, h2, h3, h4, s_CtlFaults, ctlFaults, cT, cF] <;> rfl) | (simp_all [Ty.cells, s_CtlFaults, ctlFaults]; done)
          · first | rfl | (simp only [h0, h1, h2, h3, h4, s_CtlFaults, ctlFaults, cT, cF] <;> rfl) | (simp_all [Ty.cells, s_CtlFaults, ctlFaults]; done)
        · first | rfl | (simp only [h0, h1, h2, h3, s_CtlFaults, ctlFaults, cT, cF] <;> rfl) | (simp_all [Ty.cells, s_CtlFaults, ctlFaults]; done)
  · refine must rfl ?_
    refine brN (fun h1 => ?_) (fun h1 => ?_)
    · refine must (by first | assumption | (simp_all <;> omega)) ?_
      refine br (fun h2 => ?_) (fun h2 => ?_)
      · refine brN (fun h3 => ?_) (fun h3 => ?_)
        · refine must (by first | assumption | (simp_all <;> omega)) ?_
          refine br (fun h4 => ?_) (fun h4 => ?_)
          · refine br (fun h5 => ?_) (fun h5 => ?_)
            · refine must (by first | assumption | (simp_all <;> omega)) ?_
              first | rfl | (simp only [h0, h1, h2, h3, h4, h5, s_CtlFaults, ctlFaults, cT, cF] <;> rfl) | (simp_all [Ty.cells, s_CtlFaults, ctlFaults]; done)
            · first | rfl | (simp only [h0, h1, h2, h3, h4, h5, s_CtlFaults, ctlFaults, cT, cF] <;> rfl) | (simp_all [Ty.cells, s_CtlFaults, ctlFaults]; done)
          · first | rfl | (simp only [h0, h1, h2, h3, h4, s_CtlFaults, ctlFaults, cT, cF] <;> rfl) | (simp_all [Ty.cells, s_CtlFaults, ctlFaults]; done)
        · refine br (fun h4 => ?_) (fun h4 => ?_)
          · refine br (fun h5 => ?_) (fun h5 => ?_)
            · refine must (by first | assumption | (simp_all <;> omega)) ?_
              first | rfl | (simp only [h0, h1, h2, h3, h4, h5, s_CtlFaults, ctlFaults, cT, cF] <;> rfl) | (simp_all [Ty.cells, s_CtlFaults, ctlFaults]; done)
            · first | rfl | (simp only [h0, h1, h2, h3, h4, h5, s_CtlFaults, ctlFaults, cT, cF] <;> rfl) | (simp_all [Ty.cells, s_CtlFaults, ctlFaults]; done)
          · first | rfl | (simp only [h0, h1, h2, h3, h4, s_CtlFaults, ctlFaults, cT, cF] <;> rfl) | (simp_all [Ty.cells, s_CtlFaults, ctlFaults]; done)
      · refine br (fun h3 => ?_) (fun h3 => ?_)
        · refine br (fun h4 => ?_) (fun h4 => ?_)
          · refine must (by first | assumption | (simp_all <;> omega)) ?_
            first | rfl | (simp only [h0, h1, h2, h3, h4, s_CtlFaults, ctlFaults, cT, cF] <;> rfl) | (simp_all [Ty.cells, s_CtlFaults, ctlFaults]; done)
          · first | rfl | (simp only [h0, h1, h2, h3, h4, s_CtlFaults, ctlFaults, cT, cF] <;> rfl) | (simp_all [Ty.cells, s_CtlFaults, ctlFaults]; done)
        · first | rfl | (simp only [h0, h1, h2, h3, s_CtlFaults, ctlFaults, cT, cF] <;> rfl) | (simp_all [Ty.cells, s_CtlFaults, ctlFaults]; done)
    · refine br (fun h2 => ?_) (fun h2 => ?_)
      · refine brN (fun h3 => ?_) (fun h3 => ?_)
        · refine must (by first | assumption | (simp_all <;> omega)) ?_
          refine br (fun h4 => ?_) (fun h4 => ?_)
          · refine br (fun h5 => ?_) (fun h5 => ?_)
            · refine must (by first | assumption | (simp_all <;> omega)) ?_
              first | rfl | (simp only [h0, h1, h2, h3, h4, h5, s_CtlFaults, ctlFaults, cT, cF] <;> rfl) | (simp_all [Ty.cells, s_CtlFaults, ctlFaults]; done)
            · first | rfl | (simp only [h0, h1, h2, h3, h4, h5, s_CtlFaults, ctlFaults, cT, cF] <;> rfl) | (simp_all [Ty.cells, s_CtlFaults, ctlFaults]; done)
          · first | rfl | (simp only [h0, h1, h2, h3, h4, s_CtlFaults, ctlFaults, cT, cF] <;> rfl) | (simp_all [Ty.cells, s_CtlFaults, ctlFaults]; done)
        · refine br (fun h4 => ?_) (fun h4 => ?_)
          · refine br (fun h5 => ?_) (fun h5 => ?_)
            · refine must (by first | assumption | (simp_all <;> omega)) ?_
              first | rfl | (simp only [h0, h1, h2, h3, h4, h5, s_CtlFaults, ctlFaults, cT, cF] <;> rfl) | (simp_all [Ty.cells, s_CtlFaults, ctlFaults]; done)
            · first | rfl | (simp only [h0, h1, h2, h3, h4, h5, s_CtlFaults, ctlFaults, cT, cF] <;> rfl) | (simp_all [Ty.cells, s_CtlFaults, ctlFaults]; done)
          · first | rfl | (simp only [h0, h1, h2, h3, h4, s_CtlFaults, ctlFaults, cT, cF] <;> rfl) | (simp_all [Ty.cells, s_CtlFaults, ctlFaults]; done)
      · refine br (fun h3 => ?_) (fun h3 => ?_)
        · refine br (fun h4 => ?_) (fun h4 => ?_)
          · refine must (by first | assumption | (simp_all <;> omega)) ?_
            first | rfl | (simp only [h0, h1, h2, h3, h4, s_CtlFaults, ctlFaults, cT, cF] <;> rfl) | (simp_all [Ty.cells, s_CtlFaults, ctlFaults]; done)
          · first | rfl | (simp only [h0, h1, h2, h3, h4, s_CtlFaults, ctlFaults, cT, cF] <;> rfl) | (simp_all [Ty.cells, s_CtlFaults, ctlFaults]; done)
        · first | rfl | (simp only [h0, h1, h2, h3, s_CtlFaults, ctlFaults, cT, cF] <;> rfl) | (simp_all [Ty.cells, s_CtlFaults, ctlFaults]; done)
theorem holds_s_CtlFaults : Holds Tryz.prog 156 run_s_CtlFaults := by
  refine holds_of_eval (engQ_ok ctrN1_ok mctC_ok pct0_ok tct0_ok) (fn_ok (by kernel_rfl)) ?_
  intro avs rs hr h
  have hb := allB_of_rep hr
  unfold run_s_CtlFaults at h
  split at h
  · rename_i a0_0 a0_1 a0_2
    obtain ⟨hc, rfl⟩ := some_pair h
    obtain ⟨N, hN⟩ := law_s_CtlFaults (⟨a0_0, a0_1, a0_2⟩ : Ctl) hb hc
    exact ⟨tmsOf [], N, 12, (nf_s_CtlFaults N (⟨a0_0, a0_1, a0_2⟩ : Ctl)).trans hN⟩
  · cases h

@[simp, reducible] def i_CtlFaults_c (c : Ctl) : Bool := true
@[simp, reducible] def i_CtlFaults (c : Ctl) : List Int := ctlFaults c
noncomputable def run_i_CtlFaults : List AV → Option (Bool × List AV)
  | [.agg [.i .i64 a0_0, .i .i64 a0_1, .b a0_2]] => some ((i_CtlFaults_c (⟨a0_0, a0_1, a0_2⟩ : Ctl)), [.one (.s .int (i_CtlFaults (⟨a0_0, a0_1, a0_2⟩ : Ctl)))])
  | _ => none

noncomputable def E_i_CtlFaults (N : Nat) (a0 : Ctl) : Option Ans :=
  (bif (i_within_c a0.Traps 0 3) then (bif (bif (i_within a0.Traps 0 3) then false else true) then (bif (few (ln (ap [] [1]))) then (bif (i_within_c a0.Post 0 255) then (bif (bif (i_within a0.Post 0 255) then false else true) then (bif (few (ln (ap (ap [] [1]) [2]))) then (bif (ine a0.Post 0) then (bif (bif a0.Open then false else true) then (bif (few (ln (ap (ap (ap [] [1]) [2]) [3]))) then (bif (ieq a0.Traps 2) then (bif (ine a0.Post 0) then (bif (few (ln (ap (ap (ap (ap [] [1]) [2]) [3]) [4]))) then (some [(.one (.s .int (ap (ap (ap (ap [] [1]) [2]) [3]) [4])))]) else none) else (some [(.one (.s .int (ap (ap (ap [] [1]) [2]) [3])))])) else (some [(.one (.s .int (ap (ap (ap [] [1]) [2]) [3])))])) else none) else (bif (ieq a0.Traps 2) then (bif (ine a0.Post 0) then (bif (few (ln (ap (ap (ap [] [1]) [2]) [4]))) then (some [(.one (.s .int (ap (ap (ap [] [1]) [2]) [4])))]) else none) else (some [(.one (.s .int (ap (ap [] [1]) [2])))])) else (some [(.one (.s .int (ap (ap [] [1]) [2])))]))) else (bif (ieq a0.Traps 2) then (bif (ine a0.Post 0) then (bif (few (ln (ap (ap (ap [] [1]) [2]) [4]))) then (some [(.one (.s .int (ap (ap (ap [] [1]) [2]) [4])))]) else none) else (some [(.one (.s .int (ap (ap [] [1]) [2])))])) else (some [(.one (.s .int (ap (ap [] [1]) [2])))]))) else none) else (bif (ine a0.Post 0) then (bif (bif a0.Open then false else true) then (bif (few (ln (ap (ap [] [1]) [3]))) then (bif (ieq a0.Traps 2) then (bif (ine a0.Post 0) then (bif (few (ln (ap (ap (ap [] [1]) [3]) [4]))) then (some [(.one (.s .int (ap (ap (ap [] [1]) [3]) [4])))]) else none) else (some [(.one (.s .int (ap (ap [] [1]) [3])))])) else (some [(.one (.s .int (ap (ap [] [1]) [3])))])) else none) else (bif (ieq a0.Traps 2) then (bif (ine a0.Post 0) then (bif (few (ln (ap (ap [] [1]) [4]))) then (some [(.one (.s .int (ap (ap [] [1]) [4])))]) else none) else (some [(.one (.s .int (ap [] [1])))])) else (some [(.one (.s .int (ap [] [1])))]))) else (bif (ieq a0.Traps 2) then (bif (ine a0.Post 0) then (bif (few (ln (ap (ap [] [1]) [4]))) then (some [(.one (.s .int (ap (ap [] [1]) [4])))]) else none) else (some [(.one (.s .int (ap [] [1])))])) else (some [(.one (.s .int (ap [] [1])))])))) else none) else none) else (bif (i_within_c a0.Post 0 255) then (bif (bif (i_within a0.Post 0 255) then false else true) then (bif (few (ln (ap [] [2]))) then (bif (ine a0.Post 0) then (bif (bif a0.Open then false else true) then (bif (few (ln (ap (ap [] [2]) [3]))) then (bif (ieq a0.Traps 2) then (bif (ine a0.Post 0) then (bif (few (ln (ap (ap (ap [] [2]) [3]) [4]))) then (some [(.one (.s .int (ap (ap (ap [] [2]) [3]) [4])))]) else none) else (some [(.one (.s .int (ap (ap [] [2]) [3])))])) else (some [(.one (.s .int (ap (ap [] [2]) [3])))])) else none) else (bif (ieq a0.Traps 2) then (bif (ine a0.Post 0) then (bif (few (ln (ap (ap [] [2]) [4]))) then (some [(.one (.s .int (ap (ap [] [2]) [4])))]) else none) else (some [(.one (.s .int (ap [] [2])))])) else (some [(.one (.s .int (ap [] [2])))]))) else (bif (ieq a0.Traps 2) then (bif (ine a0.Post 0) then (bif (few (ln (ap (ap [] [2]) [4]))) then (some [(.one (.s .int (ap (ap [] [2]) [4])))]) else none) else (some [(.one (.s .int (ap [] [2])))])) else (some [(.one (.s .int (ap [] [2])))]))) else none) else (bif (ine a0.Post 0) then (bif (bif a0.Open then false else true) then (bif (few (ln (ap [] [3]))) then (bif (ieq a0.Traps 2) then (bif (ine a0.Post 0) then (bif (few (ln (ap (ap [] [3]) [4]))) then (some [(.one (.s .int (ap (ap [] [3]) [4])))]) else none) else (some [(.one (.s .int (ap [] [3])))])) else (some [(.one (.s .int (ap [] [3])))])) else none) else (bif (ieq a0.Traps 2) then (bif (ine a0.Post 0) then (bif (few (ln (ap [] [4]))) then (some [(.one (.s .int (ap [] [4])))]) else none) else (some [(.one (.s .int []))])) else (some [(.one (.s .int []))]))) else (bif (ieq a0.Traps 2) then (bif (ine a0.Post 0) then (bif (few (ln (ap [] [4]))) then (some [(.one (.s .int (ap [] [4])))]) else none) else (some [(.one (.s .int []))])) else (some [(.one (.s .int []))])))) else none)) else none)

theorem nf_i_CtlFaults (N : Nat) (a0 : Ctl) : evalFn (cfgQ (aget ctrN1) (aget mctC) (aget pct0) (aget tct0)) (tmsOf []) N 12 162 [.agg (ctlC a0)] = E_i_CtlFaults N a0 := by kernel_rfl

theorem law_i_CtlFaults (a0 : Ctl) (hb : AllB big [.agg (ctlC a0)]) (hc : (i_CtlFaults_c a0) = true) : ∃ N, E_i_CtlFaults N a0 = some [.one (.s .int (i_CtlFaults a0))] := by
  refine ⟨0, ?_⟩
  unfold E_i_CtlFaults
  refine must rfl ?_
  refine brN (fun h0 => ?_) (fun h0 => ?_)
  · refine must (by first | assumption | (simp_all <;> omega)) ?_
    refine must rfl ?_
    refine brN (fun h1 => ?_) (fun h1 => ?_)
    · refine must (by first | assumption | (simp_all <;> omega)) ?_
      refine br (fun h2 => ?_) (fun h2 => ?_)
      · refine brN (fun h3 => ?_) (fun h3 => ?_)
        · refine must (by first | assumption | (simp_all <;> omega)) ?_
          refine br (fun h4 => ?_) (fun h4 => ?_)
          · refine br (fun h5 => ?_) (fun h5 => ?_)
            · refine must (by first | assumption | (simp_all <;> omega)) ?_
              first | rfl | (simp only [h0, h1, h2, h3, h4, h5, i_CtlFaults, ctlFaults, cT, cF] <;> rfl) | (simp_all [Ty.cells, i_CtlFaults, ctlFaults]; done)
            · first | rfl | (simp only [h0, h1, h2, h3, h4, h5, i_CtlFaults, ctlFaults, cT, cF] <;> rfl) | (simp_all [Ty.cells, i_CtlFaults, ctlFaults]; done)
          · first | rfl | (simp only [h0, h1, h2, h3, h4, i_CtlFaults, ctlFaults, cT, cF] <;> rfl) | (simp_all [Ty.cells, i_CtlFaults, ctlFaults]; done)
        · refine br (fun h4 => ?_) (fun h4 => ?_)
          · refine br (fun h5 => ?_) (fun h5 => ?_)
            · refine must (by first | assumption | (simp_all <;> omega)) ?_
              first | rfl | (simp only [h0, h1, h2, h3, h4, h5, i_CtlFaults, ctlFaults, cT, cF] <;> rfl) | (simp_all [Ty.cells, i_CtlFaults, ctlFaults]; done)
            · first | rfl | (simp only [h0, h1, h2, h3, h4, h5, i_CtlFaults, ctlFaults, cT, cF] <;> rfl) | (simp_all [Ty.cells, i_CtlFaults, ctlFaults]; done)
          · first | rfl | (simp only [h0, h1, h2, h3, h4, i_CtlFaults, ctlFaults, cT, cF] <;> rfl) | (simp_all [Ty.cells, i_CtlFaults, ctlFaults]; done)
      · refine br (fun h3 => ?_) (fun h3 => ?_)
        · refine br (fun h4 => ?_) (fun h4 => ?_)
          · refine must (by first | assumption | (simp_all <;> omega)) ?_
            first | rfl | (simp only [h0, h1, h2, h3, h4, i_CtlFaults, ctlFaults, cT, cF] <;> rfl) | (simp_all [Ty.cells, i_CtlFaults, ctlFaults]; done)
          · first | rfl | (simp only [h0, h1, h2, h3, h4, i_CtlFaults, ctlFaults, cT, cF] <;> rfl) | (simp_all [Ty.cells, i_CtlFaults, ctlFaults]; done)
        · first | rfl | (simp only [h0, h1, h2, h3, i_CtlFaults, ctlFaults, cT, cF] <;> rfl) | (simp_all [Ty.cells, i_CtlFaults, ctlFaults]; done)
    · refine br (fun h2 => ?_) (fun h2 => ?_)
      · refine brN (fun h3 => ?_) (fun h3 => ?_)
        · refine must (by first | assumption | (simp_all <;> omega)) ?_
          refine br (fun h4 => ?_) (fun h4 => ?_)
          · refine br (fun h5 => ?_) (fun h5 => ?_)
            · refine must (by first | assumption | (simp_all <;> omega)) ?_
              first | rfl | (simp only [h0, h1, h2, h3, h4, h5, i_CtlFaults, ctlFaults, cT, cF] <;> rfl) | (simp_all [Ty.cells, i_CtlFaults, ctlFaults]; done)
            · first | rfl | (simp only [h0, h1, h2, h3, h4, h5, i_CtlFaults, ctlFaults, cT, cF] <;> rfl) | (simp_all [Ty.cells, i_CtlFaults, ctlFaults]; done)
          · first | rfl | (simp only [h0, h1, h2, h3, h4, i_CtlFaults, ctlFaults, cT, cF] <;> rfl) | (simp_all [Ty.cells, i_CtlFaults, ctlFaults]; done)
        · refine br (fun h4 => ?_) (fun h4 => ?_)
          · refine br (fun h5 => ?_) (fun h5 => ?_)
            · refine must (by first | assumption | (simp_all <;> omega)) ?_
              first | rfl | (simp only [h0, h1, h2, h3, h4, h5, i_CtlFaults, ctlFaults, cT, cF] <;> rfl) | (simp_all [Ty.cells, i_CtlFaults, ctlFaults]; done)
            · first | rfl | (simp only [h0, h1, h2, h3, h4, h5, i_CtlFaults, ctlFaults, cT, cF] <;> rfl) | (simp_all [Ty.cells, i_CtlFaults, ctlFaults]; done)
          · first | rfl | (simp only [h0, h1, h2, h3, h4, i_CtlFaults, ctlFaults, cT, cF] <;> rfl) | (simp_all [Ty.cells, i_CtlFaults, ctlFaults]; done)
      · refine br (fun h3 => ?_) (fun h3 => ?_)
        · refine br (fun h4 => ?_) (fun h4 => ?_)
          · refine must (by first | assumption | (simp_all <;> omega)) ?_
            first | rfl | (simp only [h0, h1, h2, h3, h4, i_CtlFaults, ctlFaults, cT, cF] <;> rfl) | (simp_all [Ty.cells, i_CtlFaults, ctlFaults]; done)
          · first | rfl | (simp only [h0, h1, h2, h3, h4, i_CtlFaults, ctlFaults, cT, cF] <;> rfl) | (simp_all [Ty.cells, i_CtlFaults, ctlFaults]; done)
        · first | rfl | (simp only [h0, h1, h2, h3, i_CtlFaults, ctlFaults, cT, cF] <;> rfl) | (simp_all [Ty.cells, i_CtlFaults, ctlFaults]; done)
  · refine must rfl ?_
    refine brN (fun h1 => ?_) (fun h1 => ?_)
    · refine must (by first | assumption | (simp_all <;> omega)) ?_
      refine br (fun h2 => ?_) (fun h2 => ?_)
      · refine brN (fun h3 => ?_) (fun h3 => ?_)
        · refine must (by first | assumption | (simp_all <;> omega)) ?_
          refine br (fun h4 => ?_) (fun h4 => ?_)
          · refine br (fun h5 => ?_) (fun h5 => ?_)
            · refine must (by first | assumption | (simp_all <;> omega)) ?_
              first | rfl | (simp only [h0, h1, h2, h3, h4, h5, i_CtlFaults, ctlFaults, cT, cF] <;> rfl) | (simp_all [Ty.cells, i_CtlFaults, ctlFaults]; done)
            · first | rfl | (simp only [h0, h1, h2, h3, h4, h5, i_CtlFaults, ctlFaults, cT, cF] <;> rfl) | (simp_all [Ty.cells, i_CtlFaults, ctlFaults]; done)
          · first | rfl | (simp only [h0, h1, h2, h3, h4, i_CtlFaults, ctlFaults, cT, cF] <;> rfl) | (simp_all [Ty.cells, i_CtlFaults, ctlFaults]; done)
        · refine br (fun h4 => ?_) (fun h4 => ?_)
          · refine br (fun h5 => ?_) (fun h5 => ?_)
            · refine must (by first | assumption | (simp_all <;> omega)) ?_
              first | rfl | (simp only [h0, h1, h2, h3, h4, h5, i_CtlFaults, ctlFaults, cT, cF] <;> rfl) | (simp_all [Ty.cells, i_CtlFaults, ctlFaults]; done)
            · first | rfl | (simp only [h0, h1, h2, h3, h4, h5, i_CtlFaults, ctlFaults, cT, cF] <;> rfl) | (simp_all [Ty.cells, i_CtlFaults, ctlFaults]; done)
          · first | rfl | (simp only [h0, h1, h2, h3, h4, i_CtlFaults, ctlFaults, cT, cF] <;> rfl) | (simp_all [Ty.cells, i_CtlFaults, ctlFaults]; done)
      · refine br (fun h3 => ?_) (fun h3 => ?_)
        · refine br (fun h4 => ?_) (fun h4 => ?_)
          · refine must (by first | assumption | (simp_all <;> omega)) ?_
            first | rfl | (simp only [h0, h1, h2, h3, h4, i_CtlFaults, ctlFaults, cT, cF] <;> rfl) | (simp_all [Ty.cells, i_CtlFaults, ctlFaults]; done)
          · first | rfl | (simp only [h0, h1, h2, h3, h4, i_CtlFaults, ctlFaults, cT, cF] <;> rfl) | (simp_all [Ty.cells, i_CtlFaults, ctlFaults]; done)
        · first | rfl | (simp only [h0, h1, h2, h3, i_CtlFaults, ctlFaults, cT, cF] <;> rfl) | (simp_all [Ty.cells, i_CtlFaults, ctlFaults]; done)
    · refine br (fun h2 => ?_) (fun h2 => ?_)
      · refine brN (fun h3 => ?_) (fun h3 => ?_)
        · refine must (by first | assumption | (simp_all <;> omega)) ?_
          refine br (fun h4 => ?_) (fun h4 => ?_)
          · refine br (fun h5 => ?_) (fun h5 => ?_)
            · refine must (by first | assumption | (simp_all <;> omega)) ?_
              first | rfl | (simp only [h0, h1, h2, h3, h4, h5, i_CtlFaults, ctlFaults, cT, cF] <;> rfl) | (simp_all [Ty.cells, i_CtlFaults, ctlFaults]; done)
            · first | rfl | (simp only [h0, h1, h2, h3, h4, h5, i_CtlFaults, ctlFaults, cT, cF] <;> rfl) | (simp_all [Ty.cells, i_CtlFaults, ctlFaults]; done)
          · first | rfl | (simp only [h0, h1, h2, h3, h4, i_CtlFaults, ctlFaults, cT, cF] <;> rfl) | (simp_all [Ty.cells, i_CtlFaults, ctlFaults]; done)
        · refine br (fun h4 => ?_) (fun h4 => ?_)
          · refine br (fun h5 => ?_) (fun h5 => ?_)
            · refine must (by first | assumption | (simp_all <;> omega)) ?_
              first | rfl | (simp only [h0, h1, h2, h3, h4, h5, i_CtlFaults, ctlFaults, cT, cF] <;> rfl) | (simp_all [Ty.cells, i_CtlFaults, ctlFaults]; done)
            · first | rfl | (simp only [h0, h1, h2, h3, h4, h5, i_CtlFaults, ctlFaults, cT, cF] <;> rfl) | (simp_all [Ty.cells, i_CtlFaults, ctlFaults]; done)
          · first | rfl | (simp only [h0, h1, h2, h3, h4, i_CtlFaults, ctlFaults, cT, cF] <;> rfl) | (simp_all [Ty.cells, i_CtlFaults, ctlFaults]; done)
      · refine br (fun h3 => ?_) (fun h3 => ?_)
        · refine br (fun h4 => ?_) (fun h4 => ?_)
          · refine must (by first | assumption | (simp_all <;> omega)) ?_
            first | rfl | (simp only [h0, h1, h2, h3, h4, i_CtlFaults, ctlFaults, cT, cF] <;> rfl) | (simp_all [Ty.cells, i_CtlFaults, ctlFaults]; done)
          · first | rfl | (simp only [h0, h1, h2, h3, h4, i_CtlFaults, ctlFaults, cT, cF] <;> rfl) | (simp_all [Ty.cells, i_CtlFaults, ctlFaults]; done)
        · first | rfl | (simp only [h0, h1, h2, h3, i_CtlFaults, ctlFaults, cT, cF] <;> rfl) | (simp_all [Ty.cells, i_CtlFaults, ctlFaults]; done)
theorem holds_i_CtlFaults : Holds Tryz.prog 162 run_i_CtlFaults := by
  refine holds_of_eval (engQ_ok ctrN1_ok mctC_ok pct0_ok tct0_ok) (fn_ok (by kernel_rfl)) ?_
  intro avs rs hr h
  have hb := allB_of_rep hr
  unfold run_i_CtlFaults at h
  split at h
  · rename_i a0_0 a0_1 a0_2
    obtain ⟨hc, rfl⟩ := some_pair h
    obtain ⟨N, hN⟩ := law_i_CtlFaults (⟨a0_0, a0_1, a0_2⟩ : Ctl) hb hc
    exact ⟨tmsOf [], N, 12, (nf_i_CtlFaults N (⟨a0_0, a0_1, a0_2⟩ : Ctl)).trans hN⟩
  · cases h

def len8tab : ByteArray := ⟨⟨[0, 1, 2, 2, 3, 3, 3, 3, 4, 4, 4, 4, 4, 4, 4, 4, 5, 5, 5, 5, 5, 5, 5, 5, 5, 5, 5, 5, 5, 5, 5, 5, 6, 6, 6, 6, 6, 6, 6, 6, 6, 6, 6, 6, 6, 6, 6, 6, 6, 6, 6, 6, 6, 6, 6, 6, 6, 6, 6, 6, 6, 6, 6, 6, 7, 7, 7, 7, 7, 7, 7, 7, 7, 7, 7, 7, 7, 7, 7, 7, 7, 7, 7, 7, 7, 7, 7, 7, 7, 7, 7, 7, 7, 7, 7, 7, 7, 7, 7, 7, 7, 7, 7, 7, 7, 7, 7, 7, 7, 7, 7, 7, 7, 7, 7, 7, 7, 7, 7, 7, 7, 7, 7, 7, 7, 7, 7, 7, 8, 8, 8, 8, 8, 8, 8, 8, 8, 8, 8, 8, 8, 8, 8, 8, 8, 8, 8, 8, 8, 8, 8, 8, 8, 8, 8, 8, 8, 8, 8, 8, 8, 8, 8, 8, 8, 8, 8, 8, 8, 8, 8, 8, 8, 8, 8, 8, 8, 8, 8, 8, 8, 8, 8, 8, 8, 8, 8, 8, 8, 8, 8, 8, 8, 8, 8, 8, 8, 8, 8, 8, 8, 8, 8, 8, 8, 8, 8, 8, 8, 8, 8, 8, 8, 8, 8, 8, 8, 8, 8, 8, 8, 8, 8, 8, 8, 8, 8, 8, 8, 8, 8, 8, 8, 8, 8, 8, 8, 8, 8, 8, 8, 8, 8, 8, 8, 8, 8, 8, 8, 8, 8, 8, 8, 8, 8, 8]⟩⟩
def bitI (p n : Int) : Bool := ieq (wand .i64 (wshr .i64 p n) 1) 1
/-- The greatest bit of a number below 256. -/
def scan (p : Int) : Int := bif bitI p 7 then 7 else (bif bitI p 6 then 6 else (bif bitI p 5 then 5 else (bif bitI p 4 then 4 else (bif bitI p 3 then 3 else (bif bitI p 2 then 2 else (bif bitI p 1 then 1 else (bif bitI p 0 then 0 else -1)))))))
theorem scan_len : ∀ n : Fin 256, wadd .i64 0 (wcv .i64 (byteAt len8tab (wcv .u8 (n.val : Int)))) = scan (n.val : Int) + 1 := by decide +kernel
theorem scan_rng : ∀ n : Fin 256, -1 ≤ scan (n.val : Int) ∧ scan (n.val : Int) ≤ 7 ∧ (0 ≤ scan (n.val : Int) → wsub .i64 (n.val : Int) (wshl .i64 1 (scan (n.val : Int))) = wandn .i64 (n.val : Int) (wshl .i64 1 (scan (n.val : Int)))) := by decide +kernel
theorem of_fin {P : Int → Prop} (h : ∀ n : Fin 256, P (n.val : Int)) {x : Int} (h0 : 0 ≤ x) (h1 : x ≤ 255) : P x := by
  have := h ⟨x.toNat, by omega⟩
  have e : ((x.toNat : Nat) : Int) = x := by omega
  simpa [e] using this
noncomputable def x_math_bits_Len_c (x : Int) : Bool := pc (0 ≤ x ∧ x ≤ 255)
def x_math_bits_Len (x : Int) : Int := scan x + 1
noncomputable def run_x_math_bits_Len : List AV → Option (Bool × List AV)
  | [.one (.i .u64 a0)] => some ((x_math_bits_Len_c a0), [.one (.i .i64 (x_math_bits_Len a0))])
  | _ => none

noncomputable def E_x_math_bits_Len (N : Nat) (a0 : Int) : Option Ans :=
  (bif (ige a0 4294967296) then (bif (ile 0 32) then (bif (ige (wshr .u64 a0 32) 65536) then (bif (ile 0 16) then (bif (ige (wshr .u64 (wshr .u64 a0 32) 16) 256) then (bif (ile 0 8) then (bif (inb (wcv .u8 (wshr .u64 (wshr .u64 (wshr .u64 a0 32) 16) 8)) 256) then (some [(.one (.i .i64 (wadd .i64 (wadd .i64 (wadd .i64 32 16) 8) (wcv .i64 (byteAt len8tab (wcv .u8 (wshr .u64 (wshr .u64 (wshr .u64 a0 32) 16) 8)))))))]) else none) else none) else (bif (inb (wcv .u8 (wshr .u64 (wshr .u64 a0 32) 16)) 256) then (some [(.one (.i .i64 (wadd .i64 (wadd .i64 32 16) (wcv .i64 (byteAt len8tab (wcv .u8 (wshr .u64 (wshr .u64 a0 32) 16)))))))]) else none)) else none) else (bif (ige (wshr .u64 a0 32) 256) then (bif (ile 0 8) then (bif (inb (wcv .u8 (wshr .u64 (wshr .u64 a0 32) 8)) 256) then (some [(.one (.i .i64 (wadd .i64 (wadd .i64 32 8) (wcv .i64 (byteAt len8tab (wcv .u8 (wshr .u64 (wshr .u64 a0 32) 8)))))))]) else none) else none) else (bif (inb (wcv .u8 (wshr .u64 a0 32)) 256) then (some [(.one (.i .i64 (wadd .i64 32 (wcv .i64 (byteAt len8tab (wcv .u8 (wshr .u64 a0 32)))))))]) else none))) else none) else (bif (ige a0 65536) then (bif (ile 0 16) then (bif (ige (wshr .u64 a0 16) 256) then (bif (ile 0 8) then (bif (inb (wcv .u8 (wshr .u64 (wshr .u64 a0 16) 8)) 256) then (some [(.one (.i .i64 (wadd .i64 (wadd .i64 (wadd .i64 0 16) 8) (wcv .i64 (byteAt len8tab (wcv .u8 (wshr .u64 (wshr .u64 a0 16) 8)))))))]) else none) else none) else (bif (inb (wcv .u8 (wshr .u64 a0 16)) 256) then (some [(.one (.i .i64 (wadd .i64 (wadd .i64 0 16) (wcv .i64 (byteAt len8tab (wcv .u8 (wshr .u64 a0 16)))))))]) else none)) else none) else (bif (ige a0 256) then (bif (ile 0 8) then (bif (inb (wcv .u8 (wshr .u64 a0 8)) 256) then (some [(.one (.i .i64 (wadd .i64 (wadd .i64 0 8) (wcv .i64 (byteAt len8tab (wcv .u8 (wshr .u64 a0 8)))))))]) else none) else none) else (bif (inb (wcv .u8 a0) 256) then (some [(.one (.i .i64 (wadd .i64 0 (wcv .i64 (byteAt len8tab (wcv .u8 a0))))))]) else none))))

theorem nf_x_math_bits_Len (N : Nat) (a0 : Int) : evalFn (cfgQ (aget ctrN1) (aget mctC) (aget pct0) (aget tct0)) (tmsOf []) N 12 159 [.one (.i .u64 a0)] = E_x_math_bits_Len N a0 := by kernel_rfl

theorem law_x_math_bits_Len (a0 : Int) (hb : AllB big [.one (.i .u64 a0)]) (hc : (x_math_bits_Len_c a0) = true) : ∃ N, E_x_math_bits_Len N a0 = some [.one (.i .i64 (x_math_bits_Len a0))] := by
  obtain ⟨h0, h1⟩ := pc_iff.1 hc
  refine ⟨0, ?_⟩
  unfold E_x_math_bits_Len
  refine mustF (decide_eq_false (by omega)) ?_
  refine mustF (decide_eq_false (by omega)) ?_
  refine mustF (decide_eq_false (by omega)) ?_
  have e : inb (wcv .u8 a0) 256 = true := of_fin (P := fun x => inb (wcv .u8 x) 256 = true) (by decide +kernel) h0 h1
  refine must e ?_
  have e2 := of_fin (P := fun x => wadd .i64 0 (wcv .i64 (byteAt len8tab (wcv .u8 x))) = scan x + 1) scan_len h0 h1
  rw [e2]
  rfl
theorem holds_x_math_bits_Len : Holds Tryz.prog 159 run_x_math_bits_Len := by
  refine holds_of_eval (engQ_ok ctrN1_ok mctC_ok pct0_ok tct0_ok) (fn_ok (by kernel_rfl)) ?_
  intro avs rs hr h
  have hb := allB_of_rep hr
  unfold run_x_math_bits_Len at h
  split at h
  · rename_i a0
    obtain ⟨hc, rfl⟩ := some_pair h
    obtain ⟨N, hN⟩ := law_x_math_bits_Len a0 hb hc
    exact ⟨tmsOf [], N, 12, (nf_x_math_bits_Len N a0).trans hN⟩
  · cases h

noncomputable def ctrN2 : Ctrs := [(48, run_s_CellAt), (130, run_s_TableOk), (144, run_i_TableOk), (133, run_s_PageOk), (147, run_i_PageOk), (154, run_s_InsOk), (160, run_i_InsOk), (132, run_s_ExitOk), (146, run_i_ExitOk), (156, run_s_CtlFaults), (162, run_i_CtlFaults), (159, run_x_math_bits_Len)] ++ ctrN1

theorem ctrN2_ok : ∀ f run, aget ctrN2 f = some run → Holds Tryz.prog f run := ctr_more ctrN1_ok (by
  intro x hx
  simp only [List.mem_cons, List.not_mem_nil, or_false] at hx
  rcases hx with rfl | rfl | rfl | rfl | rfl | rfl | rfl | rfl | rfl | rfl | rfl | rfl
  · exact holds_s_CellAt
  · exact holds_s_TableOk
  · exact holds_i_TableOk
  · exact holds_s_PageOk
  · exact holds_i_PageOk
  · exact holds_s_InsOk
  · exact holds_i_InsOk
  · exact holds_s_ExitOk
  · exact holds_i_ExitOk
  · exact holds_s_CtlFaults
  · exact holds_i_CtlFaults
  · exact holds_x_math_bits_Len)

def memOk (m : List (List Int)) (n : Int) : Bool := bif m.all pageOk then ieq (ln m) n else false
@[simp, reducible] def s_MemOk_c (m : List (List Int)) (n : Int) : Bool := true
@[simp, reducible] def s_MemOk (m : List (List Int)) (n : Int) : Bool := memOk m n
noncomputable def run_s_MemOk : List AV → Option (Bool × List AV)
  | [.one (.s (.sl .int) a0), .one (.i .i64 a1)] => some ((s_MemOk_c a0 a1), [.one (.b (s_MemOk a0 a1))])
  | _ => none

noncomputable def E_s_MemOk (N : Nat) (a0 : List (List Int)) (a1 : Int) : Option Ans :=
  (iter (σ := (Int × (Int × ((List (List Int)) × Unit)))) N (fun r3 s4 => (bif (ilt s4.2.1 (ln s4.2.2.1)) then (bif (inb s4.2.1 (ln s4.2.2.1)) then (bif (s_PageOk_c (ix s4.2.2.1 s4.2.1 [])) then (bif (bif (s_PageOk (ix s4.2.2.1 s4.2.1 [])) then false else true) then (some [(.one (.b false))]) else (r3 (s4.1, ((wadd .i64 s4.2.1 1), (s4.2.2.1, ()))))) else none) else none) else (some [(.one (.b (ieq (ln s4.2.2.1) s4.1)))]))) (a1, (0, (a0, ()))))

def tms_s_MemOk : FuncId → Nat → Option Tmpl := tmsOf [(96, 0, { n := 22, tm := [(0, .sl 0 []), (1, .i .i64), (5, .i .i64)], lo := [], ro := [(0, (.sl .int), false)] })]

theorem nf_s_MemOk (N : Nat) (a0 : List (List Int)) (a1 : Int) : evalFn (cfgQ (aget ctrN2) (aget mctC) (aget pct0) (aget tct0)) tms_s_MemOk N 12 96 [.one (.s (.sl .int) a0), .one (.i .i64 a1)] = E_s_MemOk N a0 a1 := by kernel_rfl

theorem law_s_MemOk (a0 : List (List Int)) (a1 : Int) (hb : AllB big [.one (.s (.sl .int) a0), .one (.i .i64 a1)]) (hc : (s_MemOk_c a0 a1) = true) : ∃ N, E_s_MemOk N a0 a1 = some [.one (.b (s_MemOk a0 a1))] := by
  have hl : (_ : List _).length ≤ big := ((allB_cons hb).1 _ (List.mem_singleton.2 rfl)).len
  refine ⟨NN, ?_⟩
  have hNN : ∀ {n : Nat}, n ≤ big → n < NN := fun h => NN_lt h
  generalize NN = N at hNN ⊢
  unfold E_s_MemOk
  refine (iter_list a0 (fun i (t : Unit) => (a1, (i : Int), a0, ())) _ (fun _ x (_ : Unit) κ => bif (pageOk) x then κ () else some [AV.one (.b false)]) (fun (t : Unit) => (some [(.one (.b (ieq (ln a0) a1)))])) (fun i hi t rec => ?_) (fun t rec => ?_) _ () (hNN hl)).trans ?_
  · simp only [ilt_ln hi, inb_ln hi, ix_ln hi, wadd_up hi hl, cT]
    exact all_step rfl
  · simp only [ilt_end, cF]
  rw [goL_all (pageOk)]
  refine br (fun h0 => ?_) (fun h0 => ?_)
  · first | rfl | (simp only [h0, s_MemOk, memOk, cT, cF] <;> rfl) | (simp_all [Ty.cells, s_MemOk, memOk]; done)
  · first | rfl | (simp only [h0, s_MemOk, memOk, cT, cF] <;> rfl) | (simp_all [Ty.cells, s_MemOk, memOk]; done)
theorem holds_s_MemOk : Holds Tryz.prog 96 run_s_MemOk := by
  refine holds_of_eval (engQ_ok ctrN2_ok mctC_ok pct0_ok tct0_ok) (fn_ok (by kernel_rfl)) ?_
  intro avs rs hr h
  have hb := allB_of_rep hr
  unfold run_s_MemOk at h
  split at h
  · rename_i a0 a1
    obtain ⟨hc, rfl⟩ := some_pair h
    obtain ⟨N, hN⟩ := law_s_MemOk a0 a1 hb hc
    exact ⟨tms_s_MemOk, N, 12, (nf_s_MemOk N a0 a1).trans hN⟩
  · cases h

@[simp, reducible] def i_MemOk_c (m : List (List Int)) (n : Int) : Bool := true
@[simp, reducible] def i_MemOk (m : List (List Int)) (n : Int) : Bool := memOk m n
noncomputable def run_i_MemOk : List AV → Option (Bool × List AV)
  | [.one (.s (.sl .int) a0), .one (.i .i64 a1)] => some ((i_MemOk_c a0 a1), [.one (.b (i_MemOk a0 a1))])
  | _ => none

noncomputable def E_i_MemOk (N : Nat) (a0 : List (List Int)) (a1 : Int) : Option Ans :=
  (iter (σ := (Int × (Int × (Int × ((List (List Int)) × Unit))))) N (fun r3 s4 => (bif (ilt s4.2.2.1 s4.2.1) then (bif (inb s4.2.2.1 (ln s4.2.2.2.1)) then (bif (i_PageOk_c (ix s4.2.2.2.1 s4.2.2.1 [])) then (bif (bif (i_PageOk (ix s4.2.2.2.1 s4.2.2.1 [])) then false else true) then (some [(.one (.b false))]) else (r3 (s4.1, (s4.2.1, ((wadd .i64 s4.2.2.1 1), (s4.2.2.2.1, ())))))) else none) else none) else (some [(.one (.b (ieq (ln s4.2.2.2.1) s4.1)))]))) (a1, ((ln a0), (0, (a0, ())))))

def tms_i_MemOk : FuncId → Nat → Option Tmpl := tmsOf [(117, 0, { n := 21, tm := [(0, .sl 0 []), (1, .i .i64), (7, .sl 0 []), (8, .i .i64), (9, .i .i64)], lo := [], ro := [(0, (.sl .int), false)] })]

theorem nf_i_MemOk (N : Nat) (a0 : List (List Int)) (a1 : Int) : evalFn (cfgQ (aget ctrN2) (aget mctC) (aget pct0) (aget tct0)) tms_i_MemOk N 12 117 [.one (.s (.sl .int) a0), .one (.i .i64 a1)] = E_i_MemOk N a0 a1 := by kernel_rfl

theorem law_i_MemOk (a0 : List (List Int)) (a1 : Int) (hb : AllB big [.one (.s (.sl .int) a0), .one (.i .i64 a1)]) (hc : (i_MemOk_c a0 a1) = true) : ∃ N, E_i_MemOk N a0 a1 = some [.one (.b (i_MemOk a0 a1))] := by
  have hl : (_ : List _).length ≤ big := ((allB_cons hb).1 _ (List.mem_singleton.2 rfl)).len
  refine ⟨NN, ?_⟩
  have hNN : ∀ {n : Nat}, n ≤ big → n < NN := fun h => NN_lt h
  generalize NN = N at hNN ⊢
  unfold E_i_MemOk
  refine (iter_list a0 (fun i (t : Unit) => (a1, (ln a0), (i : Int), a0, ())) _ (fun _ x (_ : Unit) κ => bif (pageOk) x then κ () else some [AV.one (.b false)]) (fun (t : Unit) => (some [(.one (.b (ieq (ln a0) a1)))])) (fun i hi t rec => ?_) (fun t rec => ?_) _ () (hNN hl)).trans ?_
  · simp only [ilt_ln hi, inb_ln hi, ix_ln hi, wadd_up hi hl, cT]
    exact all_step rfl
  · simp only [ilt_end, cF]
  rw [goL_all (pageOk)]
  refine br (fun h0 => ?_) (fun h0 => ?_)
  · first | rfl | (simp only [h0, i_MemOk, memOk, cT, cF] <;> rfl) | (simp_all [Ty.cells, i_MemOk, memOk]; done)
  · first | rfl | (simp only [h0, i_MemOk, memOk, cT, cF] <;> rfl) | (simp_all [Ty.cells, i_MemOk, memOk]; done)
theorem holds_i_MemOk : Holds Tryz.prog 117 run_i_MemOk := by
  refine holds_of_eval (engQ_ok ctrN2_ok mctC_ok pct0_ok tct0_ok) (fn_ok (by kernel_rfl)) ?_
  intro avs rs hr h
  have hb := allB_of_rep hr
  unfold run_i_MemOk at h
  split at h
  · rename_i a0 a1
    obtain ⟨hc, rfl⟩ := some_pair h
    obtain ⟨N, hN⟩ := law_i_MemOk a0 a1 hb hc
    exact ⟨tms_i_MemOk, N, 12, (nf_i_MemOk N a0 a1).trans hN⟩
  · cases h

def progOk (p : List Ins) : Bool := bif p.all insOk then win (ln p) 1 12 else false
@[simp, reducible] def s_ProgOk_c (p : List Ins) : Bool := true
@[simp, reducible] def s_ProgOk (p : List Ins) : Bool := progOk p
noncomputable def run_s_ProgOk : List AV → Option (Bool × List AV)
  | [.one (.s .ins a0)] => some ((s_ProgOk_c a0), [.one (.b (s_ProgOk a0))])
  | _ => none

noncomputable def E_s_ProgOk (N : Nat) (a0 : List Ins) : Option Ans :=
  (iter (σ := (Int × ((List Ins) × Unit))) N (fun r2 s3 => (bif (ilt s3.1 (ln s3.2.1)) then (bif (inb s3.1 (ln s3.2.1)) then (bif (s_InsOk_c (ix s3.2.1 s3.1 (Ty.dflt .ins))) then (bif (bif (s_InsOk (ix s3.2.1 s3.1 (Ty.dflt .ins))) then false else true) then (some [(.one (.b false))]) else (r2 ((wadd .i64 s3.1 1), (s3.2.1, ())))) else none) else none) else (bif (s_l01In_c (ln s3.2.1) 1 12) then (some [(.one (.b (s_l01In (ln s3.2.1) 1 12)))]) else none))) (0, (a0, ())))

def tms_s_ProgOk : FuncId → Nat → Option Tmpl := tmsOf [(129, 0, { n := 19, tm := [(0, .sl 0 []), (3, .i .i64)], lo := [], ro := [(0, .ins, false)] })]

theorem nf_s_ProgOk (N : Nat) (a0 : List Ins) : evalFn (cfgQ (aget ctrN2) (aget mctC) (aget pct0) (aget tct0)) tms_s_ProgOk N 12 129 [.one (.s .ins a0)] = E_s_ProgOk N a0 := by kernel_rfl

theorem law_s_ProgOk (a0 : List Ins) (hb : AllB big [.one (.s .ins a0)]) (hc : (s_ProgOk_c a0) = true) : ∃ N, E_s_ProgOk N a0 = some [.one (.b (s_ProgOk a0))] := by
  have hl : (_ : List _).length ≤ big := ((allB_cons hb).1 _ (List.mem_singleton.2 rfl)).len
  refine ⟨NN, ?_⟩
  have hNN : ∀ {n : Nat}, n ≤ big → n < NN := fun h => NN_lt h
  generalize NN = N at hNN ⊢
  unfold E_s_ProgOk
  refine (iter_list a0 (fun i (t : Unit) => ((i : Int), a0, ())) _ (fun _ x (_ : Unit) κ => bif (insOk) x then κ () else some [AV.one (.b false)]) (fun (t : Unit) => (bif (s_l01In_c (ln a0) 1 12) then (some [(.one (.b (s_l01In (ln a0) 1 12)))]) else none)) (fun i hi t rec => ?_) (fun t rec => ?_) _ () (hNN hl)).trans ?_
  · simp only [ilt_ln hi, inb_ln hi, ix_ln hi, wadd_up hi hl, cT]
    exact all_step rfl
  · simp only [ilt_end, cF]
  rw [goL_all (insOk)]
  refine br (fun h0 => ?_) (fun h0 => ?_)
  · refine must rfl ?_
    first | rfl | (simp only [h0, s_ProgOk, progOk, cT, cF] <;> rfl) | (simp_all [Ty.cells, s_ProgOk, progOk]; done)
  · first | rfl | (simp only [h0, s_ProgOk, progOk, cT, cF] <;> rfl) | (simp_all [Ty.cells, s_ProgOk, progOk]; done)
theorem holds_s_ProgOk : Holds Tryz.prog 129 run_s_ProgOk := by
  refine holds_of_eval (engQ_ok ctrN2_ok mctC_ok pct0_ok tct0_ok) (fn_ok (by kernel_rfl)) ?_
  intro avs rs hr h
  have hb := allB_of_rep hr
  unfold run_s_ProgOk at h
  split at h
  · rename_i a0
    obtain ⟨hc, rfl⟩ := some_pair h
    obtain ⟨N, hN⟩ := law_s_ProgOk a0 hb hc
    exact ⟨tms_s_ProgOk, N, 12, (nf_s_ProgOk N a0).trans hN⟩
  · cases h

@[simp, reducible] def i_ProgOk_c (p : List Ins) : Bool := true
@[simp, reducible] def i_ProgOk (p : List Ins) : Bool := progOk p
noncomputable def run_i_ProgOk : List AV → Option (Bool × List AV)
  | [.one (.s .ins a0)] => some ((i_ProgOk_c a0), [.one (.b (i_ProgOk a0))])
  | _ => none

noncomputable def E_i_ProgOk (N : Nat) (a0 : List Ins) : Option Ans :=
  (iter (σ := (Int × (Int × ((List Ins) × Unit)))) N (fun r2 s3 => (bif (ilt s3.2.1 s3.1) then (bif (inb s3.2.1 (ln s3.2.2.1)) then (bif (i_InsOk_c (ix s3.2.2.1 s3.2.1 (Ty.dflt .ins))) then (bif (bif (i_InsOk (ix s3.2.2.1 s3.2.1 (Ty.dflt .ins))) then false else true) then (some [(.one (.b false))]) else (r2 (s3.1, ((wadd .i64 s3.2.1 1), (s3.2.2.1, ()))))) else none) else none) else (bif (i_within_c (ln s3.2.2.1) 1 12) then (some [(.one (.b (i_within (ln s3.2.2.1) 1 12)))]) else none))) ((ln a0), (0, (a0, ()))))

def tms_i_ProgOk : FuncId → Nat → Option Tmpl := tmsOf [(143, 0, { n := 18, tm := [(0, .sl 0 []), (5, .sl 0 []), (6, .i .i64), (7, .i .i64)], lo := [], ro := [(0, .ins, false)] })]

theorem nf_i_ProgOk (N : Nat) (a0 : List Ins) : evalFn (cfgQ (aget ctrN2) (aget mctC) (aget pct0) (aget tct0)) tms_i_ProgOk N 12 143 [.one (.s .ins a0)] = E_i_ProgOk N a0 := by kernel_rfl

theorem law_i_ProgOk (a0 : List Ins) (hb : AllB big [.one (.s .ins a0)]) (hc : (i_ProgOk_c a0) = true) : ∃ N, E_i_ProgOk N a0 = some [.one (.b (i_ProgOk a0))] := by
  have hl : (_ : List _).length ≤ big := ((allB_cons hb).1 _ (List.mem_singleton.2 rfl)).len
  refine ⟨NN, ?_⟩
  have hNN : ∀ {n : Nat}, n ≤ big → n < NN := fun h => NN_lt h
  generalize NN = N at hNN ⊢
  unfold E_i_ProgOk
  refine (iter_list a0 (fun i (t : Unit) => ((ln a0), (i : Int), a0, ())) _ (fun _ x (_ : Unit) κ => bif (insOk) x then κ () else some [AV.one (.b false)]) (fun (t : Unit) => (bif (i_within_c (ln a0) 1 12) then (some [(.one (.b (i_within (ln a0) 1 12)))]) else none)) (fun i hi t rec => ?_) (fun t rec => ?_) _ () (hNN hl)).trans ?_
  · simp only [ilt_ln hi, inb_ln hi, ix_ln hi, wadd_up hi hl, cT]
    exact all_step rfl
  · simp only [ilt_end, cF]
  rw [goL_all (insOk)]
  refine br (fun h0 => ?_) (fun h0 => ?_)
  · refine must rfl ?_
    first | rfl | (simp only [h0, i_ProgOk, progOk, cT, cF] <;> rfl) | (simp_all [Ty.cells, i_ProgOk, progOk]; done)
  · first | rfl | (simp only [h0, i_ProgOk, progOk, cT, cF] <;> rfl) | (simp_all [Ty.cells, i_ProgOk, progOk]; done)
theorem holds_i_ProgOk : Holds Tryz.prog 143 run_i_ProgOk := by
  refine holds_of_eval (engQ_ok ctrN2_ok mctC_ok pct0_ok tct0_ok) (fn_ok (by kernel_rfl)) ?_
  intro avs rs hr h
  have hb := allB_of_rep hr
  unfold run_i_ProgOk at h
  split at h
  · rename_i a0
    obtain ⟨hc, rfl⟩ := some_pair h
    obtain ⟨N, hN⟩ := law_i_ProgOk a0 hb hc
    exact ⟨tms_i_ProgOk, N, 12, (nf_i_ProgOk N a0).trans hN⟩
  · cases h

def ctlOk (c : Ctl) : Bool := ieq (ln (ctlFaults c)) 0
@[simp, reducible] def s_CtlOk_c (c : Ctl) : Bool := true
@[simp, reducible] def s_CtlOk (c : Ctl) : Bool := ctlOk c
noncomputable def run_s_CtlOk : List AV → Option (Bool × List AV)
  | [.agg [.i .i64 a0_0, .i .i64 a0_1, .b a0_2]] => some ((s_CtlOk_c (⟨a0_0, a0_1, a0_2⟩ : Ctl)), [.one (.b (s_CtlOk (⟨a0_0, a0_1, a0_2⟩ : Ctl)))])
  | _ => none

noncomputable def E_s_CtlOk (N : Nat) (a0 : Ctl) : Option Ans :=
  (bif (s_CtlFaults_c a0) then (some [(.one (.b (ieq (ln (s_CtlFaults a0)) 0)))]) else none)

theorem nf_s_CtlOk (N : Nat) (a0 : Ctl) : evalFn (cfgQ (aget ctrN2) (aget mctC) (aget pct0) (aget tct0)) (tmsOf []) N 12 131 [.agg (ctlC a0)] = E_s_CtlOk N a0 := by kernel_rfl

theorem law_s_CtlOk (a0 : Ctl) (hb : AllB big [.agg (ctlC a0)]) (hc : (s_CtlOk_c a0) = true) : ∃ N, E_s_CtlOk N a0 = some [.one (.b (s_CtlOk a0))] := by
  refine ⟨0, ?_⟩
  unfold E_s_CtlOk
  refine must rfl ?_
  first | rfl | (simp only [s_CtlOk, ctlOk, cT, cF] <;> rfl) | (simp_all [Ty.cells, s_CtlOk, ctlOk]; done)
theorem holds_s_CtlOk : Holds Tryz.prog 131 run_s_CtlOk := by
  refine holds_of_eval (engQ_ok ctrN2_ok mctC_ok pct0_ok tct0_ok) (fn_ok (by kernel_rfl)) ?_
  intro avs rs hr h
  have hb := allB_of_rep hr
  unfold run_s_CtlOk at h
  split at h
  · rename_i a0_0 a0_1 a0_2
    obtain ⟨hc, rfl⟩ := some_pair h
    obtain ⟨N, hN⟩ := law_s_CtlOk (⟨a0_0, a0_1, a0_2⟩ : Ctl) hb hc
    exact ⟨tmsOf [], N, 12, (nf_s_CtlOk N (⟨a0_0, a0_1, a0_2⟩ : Ctl)).trans hN⟩
  · cases h

@[simp, reducible] def i_CtlOk_c (c : Ctl) : Bool := true
@[simp, reducible] def i_CtlOk (c : Ctl) : Bool := ctlOk c
noncomputable def run_i_CtlOk : List AV → Option (Bool × List AV)
  | [.agg [.i .i64 a0_0, .i .i64 a0_1, .b a0_2]] => some ((i_CtlOk_c (⟨a0_0, a0_1, a0_2⟩ : Ctl)), [.one (.b (i_CtlOk (⟨a0_0, a0_1, a0_2⟩ : Ctl)))])
  | _ => none

noncomputable def E_i_CtlOk (N : Nat) (a0 : Ctl) : Option Ans :=
  (bif (i_CtlFaults_c a0) then (some [(.one (.b (ieq (ln (i_CtlFaults a0)) 0)))]) else none)

theorem nf_i_CtlOk (N : Nat) (a0 : Ctl) : evalFn (cfgQ (aget ctrN2) (aget mctC) (aget pct0) (aget tct0)) (tmsOf []) N 12 145 [.agg (ctlC a0)] = E_i_CtlOk N a0 := by kernel_rfl

theorem law_i_CtlOk (a0 : Ctl) (hb : AllB big [.agg (ctlC a0)]) (hc : (i_CtlOk_c a0) = true) : ∃ N, E_i_CtlOk N a0 = some [.one (.b (i_CtlOk a0))] := by
  refine ⟨0, ?_⟩
  unfold E_i_CtlOk
  refine must rfl ?_
  first | rfl | (simp only [i_CtlOk, ctlOk, cT, cF] <;> rfl) | (simp_all [Ty.cells, i_CtlOk, ctlOk]; done)
theorem holds_i_CtlOk : Holds Tryz.prog 145 run_i_CtlOk := by
  refine holds_of_eval (engQ_ok ctrN2_ok mctC_ok pct0_ok tct0_ok) (fn_ok (by kernel_rfl)) ?_
  intro avs rs hr h
  have hb := allB_of_rep hr
  unfold run_i_CtlOk at h
  split at h
  · rename_i a0_0 a0_1 a0_2
    obtain ⟨hc, rfl⟩ := some_pair h
    obtain ⟨N, hN⟩ := law_i_CtlOk (⟨a0_0, a0_1, a0_2⟩ : Ctl) hb hc
    exact ⟨tmsOf [], N, 12, (nf_i_CtlOk N (⟨a0_0, a0_1, a0_2⟩ : Ctl)).trans hN⟩
  · cases h

def topIrq (p : Int) : Int := bif pendOk p then scan p else -1
theorem wcv_u64 {x : Int} (h0 : 0 ≤ x) (h1 : x ≤ 255) : wcv .u64 x = x := of_fin (P := fun x => wcv .u64 x = x) (by decide +kernel) h0 h1
@[simp, reducible] def i_TopIrq_c (p : Int) : Bool := true
@[simp, reducible] def i_TopIrq (p : Int) : Int := topIrq p
noncomputable def run_i_TopIrq : List AV → Option (Bool × List AV)
  | [.one (.i .i64 a0)] => some ((i_TopIrq_c a0), [.one (.i .i64 (i_TopIrq a0))])
  | _ => none

noncomputable def E_i_TopIrq (N : Nat) (a0 : Int) : Option Ans :=
  (bif (i_PendOk_c a0) then (bif (bif (i_PendOk a0) then false else true) then (some [(.one (.i .i64 (-1)))]) else (bif (x_math_bits_Len_c (wcv .u64 a0)) then (some [(.one (.i .i64 (wsub .i64 (x_math_bits_Len (wcv .u64 a0)) 1)))]) else none)) else none)

theorem nf_i_TopIrq (N : Nat) (a0 : Int) : evalFn (cfgQ (aget ctrN2) (aget mctC) (aget pct0) (aget tct0)) (tmsOf []) N 12 142 [.one (.i .i64 a0)] = E_i_TopIrq N a0 := by kernel_rfl

theorem law_i_TopIrq (a0 : Int) (hb : AllB big [.one (.i .i64 a0)]) (hc : (i_TopIrq_c a0) = true) : ∃ N, E_i_TopIrq N a0 = some [.one (.i .i64 (i_TopIrq a0))] := by
  refine ⟨0, ?_⟩
  unfold E_i_TopIrq
  refine must rfl ?_
  cases h : pendOk a0
  · refine must (by simp [h]) ?_
    simp [topIrq, h]
  · obtain ⟨h0, h1⟩ := win_true.1 h
    have r := of_fin (P := fun x => -1 ≤ scan x ∧ scan x ≤ 7 ∧ (0 ≤ scan x → wsub .i64 x (wshl .i64 1 (scan x)) = wandn .i64 x (wshl .i64 1 (scan x)))) scan_rng h0 h1
    refine mustF (by simp [h]) ?_
    rw [wcv_u64 h0 h1]
    refine must (pc_true ⟨h0, h1⟩) ?_
    have e : wsub .i64 (x_math_bits_Len a0) 1 = scan a0 := by
      unfold x_math_bits_Len
      rw [wsub_id (by omega) (by omega)]; omega
    rw [e]
    simp [topIrq, h]
theorem holds_i_TopIrq : Holds Tryz.prog 142 run_i_TopIrq := by
  refine holds_of_eval (engQ_ok ctrN2_ok mctC_ok pct0_ok tct0_ok) (fn_ok (by kernel_rfl)) ?_
  intro avs rs hr h
  have hb := allB_of_rep hr
  unfold run_i_TopIrq at h
  split at h
  · rename_i a0
    obtain ⟨hc, rfl⟩ := some_pair h
    obtain ⟨N, hN⟩ := law_i_TopIrq a0 hb hc
    exact ⟨tmsOf [], N, 12, (nf_i_TopIrq N a0).trans hN⟩
  · cases h

@[simp, reducible] def s_TopIrq_c (p : Int) : Bool := true
@[simp, reducible] def s_TopIrq (p : Int) : Int := topIrq p
noncomputable def run_s_TopIrq : List AV → Option (Bool × List AV)
  | [.one (.i .i64 a0)] => some ((s_TopIrq_c a0), [.one (.i .i64 (s_TopIrq a0))])
  | _ => none

noncomputable def E_s_TopIrq (N : Nat) (a0 : Int) : Option Ans :=
  (iter (σ := (Int × (Int × Unit))) N (fun r2 s3 => (bif (ige s3.2.1 0) then (bif (s_PendOk_c s3.1) then (bif (s_PendOk s3.1) then (bif (ile 0 (wcv .u64 s3.2.1)) then (bif (ieq (wand .i64 (wshr .i64 s3.1 (wcv .u64 s3.2.1)) 1) 1) then (some [(.one (.i .i64 s3.2.1))]) else (r2 (s3.1, ((wsub .i64 s3.2.1 1), ())))) else none) else (some [(.one (.i .i64 (-1)))])) else none) else (some [(.one (.i .i64 (-1)))]))) (a0, (7, ())))

def tms_s_TopIrq : FuncId → Nat → Option Tmpl := tmsOf [(128, 0, { n := 19, tm := [(0, .i .i64), (3, .i .i64)], lo := [], ro := [] })]

theorem nf_s_TopIrq (N : Nat) (a0 : Int) : evalFn (cfgQ (aget ctrN2) (aget mctC) (aget pct0) (aget tct0)) tms_s_TopIrq N 12 128 [.one (.i .i64 a0)] = E_s_TopIrq N a0 := by kernel_rfl

theorem law_s_TopIrq (a0 : Int) (hb : AllB big [.one (.i .i64 a0)]) (hc : (s_TopIrq_c a0) = true) : ∃ N, E_s_TopIrq N a0 = some [.one (.i .i64 (s_TopIrq a0))] := by
  refine ⟨10, ?_⟩
  unfold E_s_TopIrq
  cases h : pendOk a0
  · rw [iter_succ]
    refine must rfl ?_
    refine must rfl ?_
    refine mustF h ?_
    simp [topIrq, h]
  · have hs : s_PendOk a0 = true := h
    rw [iter_succ]
    refine must rfl (must rfl (must hs (must rfl (br (fun h7 => ?_) (fun h7 => ?_)))))
    · have e7 : bitI a0 7 = true := h7
      simp [topIrq, h, scan, e7]
    have f7 : bitI a0 7 = false := h7
    show iter 9 _ (a0, 6, ()) = _
    rw [iter_succ]
    refine must rfl (must rfl (must hs (must rfl (br (fun h6 => ?_) (fun h6 => ?_)))))
    · have e6 : bitI a0 6 = true := h6
      simp [topIrq, h, scan, e6, f7]
    have f6 : bitI a0 6 = false := h6
    show iter 8 _ (a0, 5, ()) = _
    rw [iter_succ]
    refine must rfl (must rfl (must hs (must rfl (br (fun h5 => ?_) (fun h5 => ?_)))))
    · have e5 : bitI a0 5 = true := h5
      simp [topIrq, h, scan, e5, f7, f6]
    have f5 : bitI a0 5 = false := h5
    show iter 7 _ (a0, 4, ()) = _
    rw [iter_succ]
    refine must rfl (must rfl (must hs (must rfl (br (fun h4 => ?_) (fun h4 => ?_)))))
    · have e4 : bitI a0 4 = true := h4
      simp [topIrq, h, scan, e4, f7, f6, f5]
    have f4 : bitI a0 4 = false := h4
    show iter 6 _ (a0, 3, ()) = _
    rw [iter_succ]
    refine must rfl (must rfl (must hs (must rfl (br (fun h3 => ?_) (fun h3 => ?_)))))
    · have e3 : bitI a0 3 = true := h3
      simp [topIrq, h, scan, e3, f7, f6, f5, f4]
    have f3 : bitI a0 3 = false := h3
    show iter 5 _ (a0, 2, ()) = _
    rw [iter_succ]
    refine must rfl (must rfl (must hs (must rfl (br (fun h2 => ?_) (fun h2 => ?_)))))
    · have e2 : bitI a0 2 = true := h2
      simp [topIrq, h, scan, e2, f7, f6, f5, f4, f3]
    have f2 : bitI a0 2 = false := h2
    show iter 4 _ (a0, 1, ()) = _
    rw [iter_succ]
    refine must rfl (must rfl (must hs (must rfl (br (fun h1 => ?_) (fun h1 => ?_)))))
    · have e1 : bitI a0 1 = true := h1
      simp [topIrq, h, scan, e1, f7, f6, f5, f4, f3, f2]
    have f1 : bitI a0 1 = false := h1
    show iter 3 _ (a0, 0, ()) = _
    rw [iter_succ]
    refine must rfl (must rfl (must hs (must rfl (br (fun h0 => ?_) (fun h0 => ?_)))))
    · have e0 : bitI a0 0 = true := h0
      simp [topIrq, h, scan, e0, f7, f6, f5, f4, f3, f2, f1]
    have f0 : bitI a0 0 = false := h0
    show iter 2 _ (a0, -1, ()) = _
    rw [iter_succ]
    refine mustF rfl ?_
    simp [topIrq, h, scan, f7, f6, f5, f4, f3, f2, f1, f0]
theorem holds_s_TopIrq : Holds Tryz.prog 128 run_s_TopIrq := by
  refine holds_of_eval (engQ_ok ctrN2_ok mctC_ok pct0_ok tct0_ok) (fn_ok (by kernel_rfl)) ?_
  intro avs rs hr h
  have hb := allB_of_rep hr
  unfold run_s_TopIrq at h
  split at h
  · rename_i a0
    obtain ⟨hc, rfl⟩ := some_pair h
    obtain ⟨N, hN⟩ := law_s_TopIrq a0 hb hc
    exact ⟨tms_s_TopIrq, N, 12, (nf_s_TopIrq N a0).trans hN⟩
  · cases h

end Go.Proofs.YtdbdlamkkkdjhaaGreat.E
