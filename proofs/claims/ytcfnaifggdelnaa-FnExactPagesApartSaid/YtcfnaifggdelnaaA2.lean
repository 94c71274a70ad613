/- What is proved here: contracts of the exact laws' own functions: sizes, copies, comparisons. -/
import Derived.Test.YtcfnaifggdelnaaP3
import Derived.KernelRfl
namespace Go.Proofs.Ytcfnaifggdelnaa.E
open Go
set_option maxRecDepth 100000
set_option linter.unusedVariables false
set_option linter.unusedSimpArgs false


/-! Sizes. -/

def thn (n : Int) (k : Int → Int) : Int := if n < 0 then -1 else k n
def szGo {α : Type} (f : α → Int → Int) : List α → Int → Int
  | [], n => n
  | x :: l, n => thn (f x n) (szGo f l)
def szLL {α : Type} (f : α → Int → Int) (l : List α) (n : Int) : Int := thn (n - l.length) (szGo f l)

/-- What is left, and that nothing was too long if anything is left. -/
def SzP {α : Type} (sm' : α → Prop) (f : α → Int → Int) : Prop := ∀ x n, 0 ≤ n → n ≤ 1048576 → f x n ≤ n ∧ (0 ≤ f x n → sm' x)

theorem szP_thn {P Q : Prop} {f g : Int → Int} (hf : ∀ n, 0 ≤ n → n ≤ 1048576 → f n ≤ n ∧ (0 ≤ f n → P)) (hg : ∀ n, 0 ≤ n → n ≤ 1048576 → g n ≤ n ∧ (0 ≤ g n → Q)) :
    ∀ n, 0 ≤ n → n ≤ 1048576 → thn (f n) g ≤ n ∧ (0 ≤ thn (f n) g → P ∧ Q) := by
  intro n h0 h1
  obtain ⟨a, b⟩ := hf n h0 h1
  unfold thn
  split
  · exact ⟨by omega, fun h => by omega⟩
  · obtain ⟨c, d⟩ := hg (f n) (by omega) (by omega)
    exact ⟨by omega, fun h => ⟨b (by omega), d h⟩⟩

theorem szP_flat {α : Type} (l : List α) : ∀ n, 0 ≤ n → n ≤ 1048576 → szL l n ≤ n ∧ (0 ≤ szL l n → l.length ≤ sm) := by
  intro n h0 h1
  unfold szL sm
  split
  · exact ⟨by omega, fun h => by omega⟩
  · exact ⟨by omega, fun h => by omega⟩

theorem szP_go {α : Type} {S : α → Prop} {f : α → Int → Int} (hf : SzP S f) : ∀ (l : List α) (n : Int), 0 ≤ n → n ≤ 1048576 → szGo f l n ≤ n ∧ (0 ≤ szGo f l n → ∀ x ∈ l, S x)
  | [], n, h0, h1 => ⟨Int.le_refl _, fun _ x h => by cases h⟩
  | x :: l, n, h0, h1 => by
    obtain ⟨a, b⟩ := szP_thn (hf x) (szP_go hf l) n h0 h1
    refine ⟨a, fun h y hy => ?_⟩
    obtain ⟨c, d⟩ := b h
    rcases List.mem_cons.1 hy with rfl | hy
    · exact c
    · exact d y hy

theorem szP_list {α : Type} {S : α → Prop} {f : α → Int → Int} (hf : SzP S f) (l : List α) : ∀ n, 0 ≤ n → n ≤ 1048576 → szLL f l n ≤ n ∧ (0 ≤ szLL f l n → l.length ≤ sm ∧ ∀ x ∈ l, S x) := by
  intro n h0 h1
  unfold szLL thn
  split
  · exact ⟨by omega, fun h => by omega⟩
  · obtain ⟨a, b⟩ := szP_go hf l (n - l.length) (by omega) (by omega)
    exact ⟨by omega, fun h => ⟨by unfold sm; omega, b h⟩⟩

theorem flat_cvb {t : Ty} {l : List t.den} (hf : t.flat = true) (h : l.length ≤ sm) : CVB sm (.s t l) := by
  refine .s t l h (fun x _ c hc => ?_)
  obtain ⟨j, hj⟩ := List.mem_iff_getElem?.1 hc
  have := flat_cell hf hj
  cases c with
  | i k n => exact .i k n
  | b x => exact .b x
  | s t l => cases this

theorem ilt_zero (n : Int) : ilt n 0 = decide (n < 0) := rfl

/-- A loop over a list that takes each element's size off. -/
theorem sz_loop {α : Type} (l : List α) (d : α) (c : α → Int → Bool) (f : α → Int → Int) {S : α → Prop} (hf : SzP S f) (hc : ∀ x n, 0 ≤ n → n ≤ 1048576 → c x n = true) (hl : l.length ≤ big) (n0 : Int) (h0 : 0 ≤ n0) (h1 : n0 ≤ 1048576) {N : Nat} (hN : l.length < N) :
    iter N (fun r (s : Int × Int × List α × Unit) => (bif (ilt s.2.1 (ln s.2.2.1)) then (bif (inb s.2.1 (ln s.2.2.1)) then (bif (c (ix s.2.2.1 s.2.1 d) s.1) then (bif (ilt (f (ix s.2.2.1 s.2.1 d) s.1) 0) then (some [AV.one (.i .i64 (-1))])
      else (r ((f (ix s.2.2.1 s.2.1 d) s.1), ((wadd .i64 s.2.1 1), (s.2.2.1, ()))))) else none) else none) else (some [.one (.i .i64 s.1)]))) (n0, (0, (l, ()))) = some [.one (.i .i64 (szGo f l n0))] := by
  refine (iter_list l (fun i n => (n, ((i : Int), (l, ())))) _ (fun _ x n k => bif c x n then (bif ilt (f x n) 0 then some [AV.one (.i .i64 (-1))] else k (f x n)) else none) (fun n => some [AV.one (.i .i64 n)])
    (fun i hi n rec => ?_) (fun n rec => ?_) _ n0 hN).trans ?_
  · simp only [ilt_ln hi, inb_ln hi, ix_ln hi, cT, wadd_up hi hl]
  · simp only [ilt_end, cF]
  · clear hl hN
    revert n0
    generalize 0 = i
    induction l generalizing i with
    | nil => intro n h0 h1; rfl
    | cons x l ih =>
      intro n h0 h1
      have := hf x n h0 h1
      simp only [goL, szGo, hc x n h0 h1, cT, thn, ilt_zero]
      by_cases hneg : f x n < 0
      · simp [hneg]
      · simp only [hneg, decide_false, cF, if_false]
        exact ih (i + 1) (f x n) (by omega) (by omega)

noncomputable def l_szIntS_c (_ : List Int) (n : Int) : Bool := pc (0 ≤ n ∧ n ≤ 1048576)
def l_szIntS (l : List Int) (n : Int) : Int := szL l n
noncomputable def run_l_szIntS : List AV → Option (Bool × List AV)
  | [.one (.s .int a0), .one (.i .i64 a1)] => some ((l_szIntS_c a0 a1), [.one (.i .i64 (l_szIntS a0 a1))])
  | _ => none

noncomputable def E_l_szIntS (N : Nat) (a0 : List Int) (a1 : Int) : Option Ans :=
  (bif (ilt (wsub .i64 a1 (ln a0)) 0) then (some [(.one (.i .i64 (-1)))]) else (some [(.one (.i .i64 (wsub .i64 a1 (ln a0))))]))

theorem nf_l_szIntS (N : Nat) (a0 : List Int) (a1 : Int) : evalFn (cQ ctr0 mct0 pct0 tct0) (tmsOf []) N 12 18 [.one (.s .int a0), .one (.i .i64 a1)] = E_l_szIntS N a0 a1 := by kernel_rfl

theorem law_l_szIntS (a0 : List Int) (a1 : Int) (hb : AllB big [.one (.s .int a0), .one (.i .i64 a1)]) (hc : (l_szIntS_c a0 a1) = true) : ∃ N, E_l_szIntS N a0 a1 = some [.one (.i .i64 (l_szIntS a0 a1))] := by
  obtain ⟨h0, h1⟩ := pc_iff.1 hc
  have hl := ((allB_cons hb).1 _ (List.mem_singleton.2 rfl)).len
  refine ⟨0, ?_⟩
  simp only [E_l_szIntS, szL_eq hl h0 h1, l_szIntS, szL, ilt]
  by_cases h : a1 - a0.length < 0 <;> simp [h]
theorem holds_l_szIntS : Holds Try.prog 18 run_l_szIntS := holds_fn ctr0_ok mct0_ok pct0_ok tct0_ok (fn_ok (by kernel_rfl)) fun avs rs hb h => by
  unfold run_l_szIntS at h
  split at h
  · obtain ⟨hc, rfl⟩ := some_pair h
    exact (fin2 law_l_szIntS nf_l_szIntS hc hb :)
  · cases h

theorem l_szIntS_P (l : List Int) : ∀ n, 0 ≤ n → n ≤ 1048576 → l_szIntS l n ≤ n ∧ (0 ≤ l_szIntS l n → CVB sm (.s .int l)) := fun n h0 h1 => ⟨(szP_flat l n h0 h1).1, fun h => flat_cvb (by rfl) ((szP_flat l n h0 h1).2 h)⟩

noncomputable def l_szBoolS_c (_ : List Bool) (n : Int) : Bool := pc (0 ≤ n ∧ n ≤ 1048576)
def l_szBoolS (l : List Bool) (n : Int) : Int := szL l n
noncomputable def run_l_szBoolS : List AV → Option (Bool × List AV)
  | [.one (.s .bool a0), .one (.i .i64 a1)] => some ((l_szBoolS_c a0 a1), [.one (.i .i64 (l_szBoolS a0 a1))])
  | _ => none

noncomputable def E_l_szBoolS (N : Nat) (a0 : List Bool) (a1 : Int) : Option Ans :=
  (bif (ilt (wsub .i64 a1 (ln a0)) 0) then (some [(.one (.i .i64 (-1)))]) else (some [(.one (.i .i64 (wsub .i64 a1 (ln a0))))]))

theorem nf_l_szBoolS (N : Nat) (a0 : List Bool) (a1 : Int) : evalFn (cQ ctr0 mct0 pct0 tct0) (tmsOf []) N 12 27 [.one (.s .bool a0), .one (.i .i64 a1)] = E_l_szBoolS N a0 a1 := by kernel_rfl

theorem law_l_szBoolS (a0 : List Bool) (a1 : Int) (hb : AllB big [.one (.s .bool a0), .one (.i .i64 a1)]) (hc : (l_szBoolS_c a0 a1) = true) : ∃ N, E_l_szBoolS N a0 a1 = some [.one (.i .i64 (l_szBoolS a0 a1))] := by
  obtain ⟨h0, h1⟩ := pc_iff.1 hc
  have hl := ((allB_cons hb).1 _ (List.mem_singleton.2 rfl)).len
  refine ⟨0, ?_⟩
  simp only [E_l_szBoolS, szL_eq hl h0 h1, l_szBoolS, szL, ilt]
  by_cases h : a1 - a0.length < 0 <;> simp [h]
theorem holds_l_szBoolS : Holds Try.prog 27 run_l_szBoolS := holds_fn ctr0_ok mct0_ok pct0_ok tct0_ok (fn_ok (by kernel_rfl)) fun avs rs hb h => by
  unfold run_l_szBoolS at h
  split at h
  · obtain ⟨hc, rfl⟩ := some_pair h
    exact (fin2 law_l_szBoolS nf_l_szBoolS hc hb :)
  · cases h

theorem l_szBoolS_P (l : List Bool) : ∀ n, 0 ≤ n → n ≤ 1048576 → l_szBoolS l n ≤ n ∧ (0 ≤ l_szBoolS l n → CVB sm (.s .bool l)) := fun n h0 h1 => ⟨(szP_flat l n h0 h1).1, fun h => flat_cvb (by rfl) ((szP_flat l n h0 h1).2 h)⟩

noncomputable def l_szSlotS_c (_ : List Slot) (n : Int) : Bool := pc (0 ≤ n ∧ n ≤ 1048576)
def l_szSlotS (l : List Slot) (n : Int) : Int := szL l n
noncomputable def run_l_szSlotS : List AV → Option (Bool × List AV)
  | [.one (.s .slot a0), .one (.i .i64 a1)] => some ((l_szSlotS_c a0 a1), [.one (.i .i64 (l_szSlotS a0 a1))])
  | _ => none

noncomputable def E_l_szSlotS (N : Nat) (a0 : List Slot) (a1 : Int) : Option Ans :=
  (bif (ilt (wsub .i64 a1 (ln a0)) 0) then (some [(.one (.i .i64 (-1)))]) else (some [(.one (.i .i64 (wsub .i64 a1 (ln a0))))]))

theorem nf_l_szSlotS (N : Nat) (a0 : List Slot) (a1 : Int) : evalFn (cQ ctr0 mct0 pct0 tct0) (tmsOf []) N 12 26 [.one (.s .slot a0), .one (.i .i64 a1)] = E_l_szSlotS N a0 a1 := by kernel_rfl

theorem law_l_szSlotS (a0 : List Slot) (a1 : Int) (hb : AllB big [.one (.s .slot a0), .one (.i .i64 a1)]) (hc : (l_szSlotS_c a0 a1) = true) : ∃ N, E_l_szSlotS N a0 a1 = some [.one (.i .i64 (l_szSlotS a0 a1))] := by
  obtain ⟨h0, h1⟩ := pc_iff.1 hc
  have hl := ((allB_cons hb).1 _ (List.mem_singleton.2 rfl)).len
  refine ⟨0, ?_⟩
  simp only [E_l_szSlotS, szL_eq hl h0 h1, l_szSlotS, szL, ilt]
  by_cases h : a1 - a0.length < 0 <;> simp [h]
theorem holds_l_szSlotS : Holds Try.prog 26 run_l_szSlotS := holds_fn ctr0_ok mct0_ok pct0_ok tct0_ok (fn_ok (by kernel_rfl)) fun avs rs hb h => by
  unfold run_l_szSlotS at h
  split at h
  · obtain ⟨hc, rfl⟩ := some_pair h
    exact (fin2 law_l_szSlotS nf_l_szSlotS hc hb :)
  · cases h

theorem l_szSlotS_P (l : List Slot) : ∀ n, 0 ≤ n → n ≤ 1048576 → l_szSlotS l n ≤ n ∧ (0 ≤ l_szSlotS l n → CVB sm (.s .slot l)) := fun n h0 h1 => ⟨(szP_flat l n h0 h1).1, fun h => flat_cvb (by rfl) ((szP_flat l n h0 h1).2 h)⟩

noncomputable def l_szInsS_c (_ : List Ins) (n : Int) : Bool := pc (0 ≤ n ∧ n ≤ 1048576)
def l_szInsS (l : List Ins) (n : Int) : Int := szL l n
noncomputable def run_l_szInsS : List AV → Option (Bool × List AV)
  | [.one (.s .ins a0), .one (.i .i64 a1)] => some ((l_szInsS_c a0 a1), [.one (.i .i64 (l_szInsS a0 a1))])
  | _ => none

noncomputable def E_l_szInsS (N : Nat) (a0 : List Ins) (a1 : Int) : Option Ans :=
  (bif (ilt (wsub .i64 a1 (ln a0)) 0) then (some [(.one (.i .i64 (-1)))]) else (some [(.one (.i .i64 (wsub .i64 a1 (ln a0))))]))

theorem nf_l_szInsS (N : Nat) (a0 : List Ins) (a1 : Int) : evalFn (cQ ctr0 mct0 pct0 tct0) (tmsOf []) N 12 46 [.one (.s .ins a0), .one (.i .i64 a1)] = E_l_szInsS N a0 a1 := by kernel_rfl

theorem law_l_szInsS (a0 : List Ins) (a1 : Int) (hb : AllB big [.one (.s .ins a0), .one (.i .i64 a1)]) (hc : (l_szInsS_c a0 a1) = true) : ∃ N, E_l_szInsS N a0 a1 = some [.one (.i .i64 (l_szInsS a0 a1))] := by
  obtain ⟨h0, h1⟩ := pc_iff.1 hc
  have hl := ((allB_cons hb).1 _ (List.mem_singleton.2 rfl)).len
  refine ⟨0, ?_⟩
  simp only [E_l_szInsS, szL_eq hl h0 h1, l_szInsS, szL, ilt]
  by_cases h : a1 - a0.length < 0 <;> simp [h]
theorem holds_l_szInsS : Holds Try.prog 46 run_l_szInsS := holds_fn ctr0_ok mct0_ok pct0_ok tct0_ok (fn_ok (by kernel_rfl)) fun avs rs hb h => by
  unfold run_l_szInsS at h
  split at h
  · obtain ⟨hc, rfl⟩ := some_pair h
    exact (fin2 law_l_szInsS nf_l_szInsS hc hb :)
  · cases h

theorem l_szInsS_P (l : List Ins) : ∀ n, 0 ≤ n → n ≤ 1048576 → l_szInsS l n ≤ n ∧ (0 ≤ l_szInsS l n → CVB sm (.s .ins l)) := fun n h0 h1 => ⟨(szP_flat l n h0 h1).1, fun h => flat_cvb (by rfl) ((szP_flat l n h0 h1).2 h)⟩

noncomputable def l_szEntryS_c (_ : List Entry) (n : Int) : Bool := pc (0 ≤ n ∧ n ≤ 1048576)
def l_szEntryS (l : List Entry) (n : Int) : Int := szL l n
noncomputable def run_l_szEntryS : List AV → Option (Bool × List AV)
  | [.one (.s .entry a0), .one (.i .i64 a1)] => some ((l_szEntryS_c a0 a1), [.one (.i .i64 (l_szEntryS a0 a1))])
  | _ => none

noncomputable def E_l_szEntryS (N : Nat) (a0 : List Entry) (a1 : Int) : Option Ans :=
  (bif (ilt (wsub .i64 a1 (ln a0)) 0) then (some [(.one (.i .i64 (-1)))]) else (some [(.one (.i .i64 (wsub .i64 a1 (ln a0))))]))

theorem nf_l_szEntryS (N : Nat) (a0 : List Entry) (a1 : Int) : evalFn (cQ ctr0 mct0 pct0 tct0) (tmsOf []) N 12 11 [.one (.s .entry a0), .one (.i .i64 a1)] = E_l_szEntryS N a0 a1 := by kernel_rfl

theorem law_l_szEntryS (a0 : List Entry) (a1 : Int) (hb : AllB big [.one (.s .entry a0), .one (.i .i64 a1)]) (hc : (l_szEntryS_c a0 a1) = true) : ∃ N, E_l_szEntryS N a0 a1 = some [.one (.i .i64 (l_szEntryS a0 a1))] := by
  obtain ⟨h0, h1⟩ := pc_iff.1 hc
  have hl := ((allB_cons hb).1 _ (List.mem_singleton.2 rfl)).len
  refine ⟨0, ?_⟩
  simp only [E_l_szEntryS, szL_eq hl h0 h1, l_szEntryS, szL, ilt]
  by_cases h : a1 - a0.length < 0 <;> simp [h]
theorem holds_l_szEntryS : Holds Try.prog 11 run_l_szEntryS := holds_fn ctr0_ok mct0_ok pct0_ok tct0_ok (fn_ok (by kernel_rfl)) fun avs rs hb h => by
  unfold run_l_szEntryS at h
  split at h
  · obtain ⟨hc, rfl⟩ := some_pair h
    exact (fin2 law_l_szEntryS nf_l_szEntryS hc hb :)
  · cases h

theorem l_szEntryS_P (l : List Entry) : ∀ n, 0 ≤ n → n ≤ 1048576 → l_szEntryS l n ≤ n ∧ (0 ≤ l_szEntryS l n → CVB sm (.s .entry l)) := fun n h0 h1 => ⟨(szP_flat l n h0 h1).1, fun h => flat_cvb (by rfl) ((szP_flat l n h0 h1).2 h)⟩

noncomputable def ctr3 : Ctrs := [(18, run_l_szIntS), (27, run_l_szBoolS), (26, run_l_szSlotS), (46, run_l_szInsS), (11, run_l_szEntryS)] ++ ctr0

theorem ctr3_ok : CtrsOk ctr3 := ctr_cons holds_l_szIntS (ctr_cons holds_l_szBoolS (ctr_cons holds_l_szSlotS (ctr_cons holds_l_szInsS (ctr_cons holds_l_szEntryS ctr0_ok))))


theorem l_szIntS_S : SzP (fun x => ∀ c ∈ Ty.cells (.sl .int) x, CVB sm c) l_szIntS := by
  intro x n h0 h1
  obtain ⟨a, b⟩ := l_szIntS_P x n h0 h1
  exact ⟨a, fun h c hc => by rw [List.mem_singleton.1 hc]; exact b h⟩

noncomputable def l_szIntSS_c (_ : List (List Int)) (n : Int) : Bool := pc (0 ≤ n ∧ n ≤ 1048576)
def l_szIntSS (l : List (List Int)) (n : Int) : Int := szLL l_szIntS l n
noncomputable def run_l_szIntSS : List AV → Option (Bool × List AV)
  | [.one (.s (.sl .int) a0), .one (.i .i64 a1)] => some ((l_szIntSS_c a0 a1), [.one (.i .i64 (l_szIntSS a0 a1))])
  | _ => none

noncomputable def E_l_szIntSS (N : Nat) (a0 : List (List Int)) (a1 : Int) : Option Ans :=
  (bif (ilt (wsub .i64 a1 (ln a0)) 0) then (some [(.one (.i .i64 (-1)))]) else (iter (σ := (Int × (Int × ((List (List Int)) × Unit)))) N (fun r3 s4 => (bif (ilt s4.2.1 (ln s4.2.2.1)) then (bif (inb s4.2.1 (ln s4.2.2.1)) then (bif (l_szIntS_c (ix s4.2.2.1 s4.2.1 []) s4.1) then (bif (ilt (l_szIntS (ix s4.2.2.1 s4.2.1 []) s4.1) 0) then (some [(.one (.i .i64 (-1)))]) else (r3 ((l_szIntS (ix s4.2.2.1 s4.2.1 []) s4.1), ((wadd .i64 s4.2.1 1), (s4.2.2.1, ()))))) else none) else none) else (some [(.one (.i .i64 s4.1))]))) ((wsub .i64 a1 (ln a0)), (0, (a0, ())))))

def tms_l_szIntSS : FuncId → Nat → Option Tmpl := tmsOf [(9, 0, { n := 27, tm := [(0, .sl 0 []), (1, .i .i64), (5, .i .i64)], lo := [], ro := [(0, (.sl .int), false)] })]

theorem nf_l_szIntSS (N : Nat) (a0 : List (List Int)) (a1 : Int) : evalFn (cQ ctr3 mct0 pct0 tct0) tms_l_szIntSS N 12 9 [.one (.s (.sl .int) a0), .one (.i .i64 a1)] = E_l_szIntSS N a0 a1 := by kernel_rfl

theorem l_szIntSS_P (l : List (List Int)) : ∀ n, 0 ≤ n → n ≤ 1048576 → l_szIntSS l n ≤ n ∧ (0 ≤ l_szIntSS l n → CVB sm (.s (.sl .int) l)) := fun n h0 h1 => by
  obtain ⟨a, b⟩ := szP_list (S := fun x => ∀ c ∈ Ty.cells (.sl .int) x, CVB sm c) (f := l_szIntS) l_szIntS_S l n h0 h1
  exact ⟨a, fun h => .s (.sl .int) l (b h).1 (b h).2⟩
theorem law_l_szIntSS (a0 : List (List Int)) (a1 : Int) (hb : AllB big [.one (.s (.sl .int) a0), .one (.i .i64 a1)]) (hc : (l_szIntSS_c a0 a1) = true) : ∃ N, E_l_szIntSS N a0 a1 = some [.one (.i .i64 (l_szIntSS a0 a1))] := by
  obtain ⟨h0, h1⟩ := pc_iff.1 hc
  have hl := ((allB_cons hb).1 _ (List.mem_singleton.2 rfl)).len
  refine ⟨a0.length + 1, ?_⟩
  simp only [E_l_szIntSS, szL_eq hl h0 h1, l_szIntSS, szLL, thn, ilt_zero]
  by_cases h : a1 - a0.length < 0
  · simp [h]
  · simp only [h, decide_false, cF, if_false]
    exact sz_loop a0 _ l_szIntS_c l_szIntS l_szIntS_S (fun x n h0 h1 => pc_true ⟨h0, h1⟩) hl _ (by omega) (by omega) (Nat.lt_succ_self _)
theorem holds_l_szIntSS : Holds Try.prog 9 run_l_szIntSS := holds_fn ctr3_ok mct0_ok pct0_ok tct0_ok (fn_ok (by kernel_rfl)) fun avs rs hb h => by
  unfold run_l_szIntSS at h
  split at h
  · obtain ⟨hc, rfl⟩ := some_pair h
    exact (fin2 law_l_szIntSS nf_l_szIntSS hc hb :)
  · cases h


noncomputable def l_szGuest_c (_ : Guest) (n : Int) : Bool := pc (0 ≤ n ∧ n ≤ 1048576)
def l_szGuest (x : Guest) (n : Int) : Int := (fun n => thn (l_szInsS x.Prog n) (fun n => thn (l_szSlotS x.Written n) (fun n => thn (l_szSlotS x.Live n) (fun n => thn (l_szIntS x.Seen n) (fun n => n))))) n
noncomputable def run_l_szGuest : List AV → Option (Bool × List AV)
  | [.agg [.s .ins a0_0, .i .i64 a0_1, .i .i64 a0_2, .s .slot a0_3, .s .slot a0_4, .i .i64 a0_5, .i .i64 a0_6, .b a0_7, .i .i64 a0_8, .i .i64 a0_9, .i .i64 a0_10, .b a0_11, .i .i64 a0_12, .b a0_13, .s .int a0_14], .one (.i .i64 a1)] => some ((l_szGuest_c (⟨a0_0, a0_1, a0_2, a0_3, a0_4, ⟨a0_5, a0_6, a0_7⟩, a0_8, ⟨a0_9, a0_10, a0_11, a0_12⟩, a0_13, a0_14⟩ : Guest) a1), [.one (.i .i64 (l_szGuest (⟨a0_0, a0_1, a0_2, a0_3, a0_4, ⟨a0_5, a0_6, a0_7⟩, a0_8, ⟨a0_9, a0_10, a0_11, a0_12⟩, a0_13, a0_14⟩ : Guest) a1))])
  | _ => none

noncomputable def E_l_szGuest (N : Nat) (a0 : Guest) (a1 : Int) : Option Ans :=
  (bif (l_szInsS_c a0.Prog a1) then (bif (ilt (l_szInsS a0.Prog a1) 0) then (some [(.one (.i .i64 (-1)))]) else (bif (l_szSlotS_c a0.Written (l_szInsS a0.Prog a1)) then (bif (ilt (l_szSlotS a0.Written (l_szInsS a0.Prog a1)) 0) then (some [(.one (.i .i64 (-1)))]) else (bif (l_szSlotS_c a0.Live (l_szSlotS a0.Written (l_szInsS a0.Prog a1))) then (bif (ilt (l_szSlotS a0.Live (l_szSlotS a0.Written (l_szInsS a0.Prog a1))) 0) then (some [(.one (.i .i64 (-1)))]) else (bif (l_szIntS_c a0.Seen (l_szSlotS a0.Live (l_szSlotS a0.Written (l_szInsS a0.Prog a1)))) then (bif (ilt (l_szIntS a0.Seen (l_szSlotS a0.Live (l_szSlotS a0.Written (l_szInsS a0.Prog a1)))) 0) then (some [(.one (.i .i64 (-1)))]) else (some [(.one (.i .i64 (l_szIntS a0.Seen (l_szSlotS a0.Live (l_szSlotS a0.Written (l_szInsS a0.Prog a1))))))])) else none)) else none)) else none)) else none)

theorem nf_l_szGuest (N : Nat) (a0 : Guest) (a1 : Int) : evalFn (cQ ctr3 mct0 pct0 tct0) (tmsOf []) N 12 38 [.agg (Ty.cells .guest a0), .one (.i .i64 a1)] = E_l_szGuest N a0 a1 := by kernel_rfl

theorem l_szGuest_S : SzP (fun x => ∀ c ∈ Ty.cells .guest x, CVB sm c) l_szGuest := by
  intro x n h0 h1
  obtain ⟨a, b⟩ := szP_thn (l_szInsS_P x.Prog) (szP_thn (l_szSlotS_P x.Written) (szP_thn (l_szSlotS_P x.Live) (szP_thn (l_szIntS_P x.Seen) (fun n _ _ => ⟨Int.le_refl _, fun _ => trivial⟩)))) n h0 h1
  refine ⟨a, fun h c hc => ?_⟩
  obtain ⟨g0, g1, g2, g3, _⟩ := b h
  simp only [Ty.cells, List.mem_cons, List.not_mem_nil, or_false] at hc
  rcases hc with rfl | rfl | rfl | rfl | rfl | rfl | rfl | rfl | rfl | rfl | rfl | rfl | rfl | rfl | rfl
  · exact g0
  · first | exact .i _ _ | exact .b _
  · first | exact .i _ _ | exact .b _
  · exact g1
  · exact g2
  · first | exact .i _ _ | exact .b _
  · first | exact .i _ _ | exact .b _
  · first | exact .i _ _ | exact .b _
  · first | exact .i _ _ | exact .b _
  · first | exact .i _ _ | exact .b _
  · first | exact .i _ _ | exact .b _
  · first | exact .i _ _ | exact .b _
  · first | exact .i _ _ | exact .b _
  · first | exact .i _ _ | exact .b _
  · exact g3
theorem law_l_szGuest (a0 : Guest) (a1 : Int) (hb : AllB big [.agg (Ty.cells .guest a0), .one (.i .i64 a1)]) (hc : (l_szGuest_c a0 a1) = true) : ∃ N, E_l_szGuest N a0 a1 = some [.one (.i .i64 (l_szGuest a0 a1))] := by
  obtain ⟨h0, h1⟩ := pc_iff.1 hc
  refine ⟨0, ?_⟩
  unfold E_l_szGuest l_szGuest
  simp only [thn]
  have c0 : l_szInsS_c a0.Prog a1 = true := pc_true ⟨by omega, by omega⟩
  have p0 := (l_szInsS_P a0.Prog a1 (by omega) (by omega)).1
  rw [c0, cT]
  generalize l_szInsS a0.Prog a1 = n0 at *
  rw [ilt_zero]
  by_cases k0 : n0 < 0
  · simp [k0]
  simp only [k0, decide_false, cF, if_false]
  have c1 : l_szSlotS_c a0.Written n0 = true := pc_true ⟨by omega, by omega⟩
  have p1 := (l_szSlotS_P a0.Written n0 (by omega) (by omega)).1
  rw [c1, cT]
  generalize l_szSlotS a0.Written n0 = n1 at *
  rw [ilt_zero]
  by_cases k1 : n1 < 0
  · simp [k1]
  simp only [k1, decide_false, cF, if_false]
  have c2 : l_szSlotS_c a0.Live n1 = true := pc_true ⟨by omega, by omega⟩
  have p2 := (l_szSlotS_P a0.Live n1 (by omega) (by omega)).1
  rw [c2, cT]
  generalize l_szSlotS a0.Live n1 = n2 at *
  rw [ilt_zero]
  by_cases k2 : n2 < 0
  · simp [k2]
  simp only [k2, decide_false, cF, if_false]
  have c3 : l_szIntS_c a0.Seen n2 = true := pc_true ⟨by omega, by omega⟩
  have p3 := (l_szIntS_P a0.Seen n2 (by omega) (by omega)).1
  rw [c3, cT]
  generalize l_szIntS a0.Seen n2 = n3 at *
  rw [ilt_zero]
  by_cases k3 : n3 < 0
  · simp [k3]
  simp only [k3, decide_false, cF, if_false]
theorem holds_l_szGuest : Holds Try.prog 38 run_l_szGuest := holds_fn ctr3_ok mct0_ok pct0_ok tct0_ok (fn_ok (by kernel_rfl)) fun avs rs hb h => by
  unfold run_l_szGuest at h
  split at h
  · obtain ⟨hc, rfl⟩ := some_pair h
    exact (fin2 law_l_szGuest nf_l_szGuest hc hb :)
  · cases h


noncomputable def l_szKept_c (_ : Kept) (n : Int) : Bool := pc (0 ≤ n ∧ n ≤ 1048576)
def l_szKept (x : Kept) (n : Int) : Int := (fun n => thn (l_szBoolS x.Known n) (fun n => thn (l_szSlotS x.Slots n) (fun n => n))) n
noncomputable def run_l_szKept : List AV → Option (Bool × List AV)
  | [.agg [.s .bool a0_0, .s .slot a0_1], .one (.i .i64 a1)] => some ((l_szKept_c (⟨a0_0, a0_1⟩ : Kept) a1), [.one (.i .i64 (l_szKept (⟨a0_0, a0_1⟩ : Kept) a1))])
  | _ => none

noncomputable def E_l_szKept (N : Nat) (a0 : Kept) (a1 : Int) : Option Ans :=
  (bif (l_szBoolS_c a0.Known a1) then (bif (ilt (l_szBoolS a0.Known a1) 0) then (some [(.one (.i .i64 (-1)))]) else (bif (l_szSlotS_c a0.Slots (l_szBoolS a0.Known a1)) then (bif (ilt (l_szSlotS a0.Slots (l_szBoolS a0.Known a1)) 0) then (some [(.one (.i .i64 (-1)))]) else (some [(.one (.i .i64 (l_szSlotS a0.Slots (l_szBoolS a0.Known a1))))])) else none)) else none)

theorem nf_l_szKept (N : Nat) (a0 : Kept) (a1 : Int) : evalFn (cQ ctr3 mct0 pct0 tct0) (tmsOf []) N 12 39 [.agg (Ty.cells .kept a0), .one (.i .i64 a1)] = E_l_szKept N a0 a1 := by kernel_rfl

theorem l_szKept_S : SzP (fun x => ∀ c ∈ Ty.cells .kept x, CVB sm c) l_szKept := by
  intro x n h0 h1
  obtain ⟨a, b⟩ := szP_thn (l_szBoolS_P x.Known) (szP_thn (l_szSlotS_P x.Slots) (fun n _ _ => ⟨Int.le_refl _, fun _ => trivial⟩)) n h0 h1
  refine ⟨a, fun h c hc => ?_⟩
  obtain ⟨g0, g1, _⟩ := b h
  simp only [Ty.cells, List.mem_cons, List.not_mem_nil, or_false] at hc
  rcases hc with rfl | rfl
  · exact g0
  · exact g1
theorem law_l_szKept (a0 : Kept) (a1 : Int) (hb : AllB big [.agg (Ty.cells .kept a0), .one (.i .i64 a1)]) (hc : (l_szKept_c a0 a1) = true) : ∃ N, E_l_szKept N a0 a1 = some [.one (.i .i64 (l_szKept a0 a1))] := by
  obtain ⟨h0, h1⟩ := pc_iff.1 hc
  refine ⟨0, ?_⟩
  unfold E_l_szKept l_szKept
  simp only [thn]
  have c0 : l_szBoolS_c a0.Known a1 = true := pc_true ⟨by omega, by omega⟩
  have p0 := (l_szBoolS_P a0.Known a1 (by omega) (by omega)).1
  rw [c0, cT]
  generalize l_szBoolS a0.Known a1 = n0 at *
  rw [ilt_zero]
  by_cases k0 : n0 < 0
  · simp [k0]
  simp only [k0, decide_false, cF, if_false]
  have c1 : l_szSlotS_c a0.Slots n0 = true := pc_true ⟨by omega, by omega⟩
  have p1 := (l_szSlotS_P a0.Slots n0 (by omega) (by omega)).1
  rw [c1, cT]
  generalize l_szSlotS a0.Slots n0 = n1 at *
  rw [ilt_zero]
  by_cases k1 : n1 < 0
  · simp [k1]
  simp only [k1, decide_false, cF, if_false]
theorem holds_l_szKept : Holds Try.prog 39 run_l_szKept := holds_fn ctr3_ok mct0_ok pct0_ok tct0_ok (fn_ok (by kernel_rfl)) fun avs rs hb h => by
  unfold run_l_szKept at h
  split at h
  · obtain ⟨hc, rfl⟩ := some_pair h
    exact (fin2 law_l_szKept nf_l_szKept hc hb :)
  · cases h


noncomputable def ctr4 : Ctrs := [(9, run_l_szIntSS), (38, run_l_szGuest), (39, run_l_szKept)] ++ ctr3

theorem ctr4_ok : CtrsOk ctr4 := ctr_cons holds_l_szIntSS (ctr_cons holds_l_szGuest (ctr_cons holds_l_szKept ctr3_ok))


noncomputable def l_szGuestS_c (_ : List Guest) (n : Int) : Bool := pc (0 ≤ n ∧ n ≤ 1048576)
def l_szGuestS (l : List Guest) (n : Int) : Int := szLL l_szGuest l n
noncomputable def run_l_szGuestS : List AV → Option (Bool × List AV)
  | [.one (.s .guest a0), .one (.i .i64 a1)] => some ((l_szGuestS_c a0 a1), [.one (.i .i64 (l_szGuestS a0 a1))])
  | _ => none

noncomputable def E_l_szGuestS (N : Nat) (a0 : List Guest) (a1 : Int) : Option Ans :=
  (bif (ilt (wsub .i64 a1 (ln a0)) 0) then (some [(.one (.i .i64 (-1)))]) else (iter (σ := (Int × (Int × ((List Guest) × Unit)))) N (fun r3 s4 => (bif (ilt s4.2.1 (ln s4.2.2.1)) then (bif (inb s4.2.1 (ln s4.2.2.1)) then (bif (l_szGuest_c (ix s4.2.2.1 s4.2.1 (Ty.dflt .guest)) s4.1) then (bif (ilt (l_szGuest (ix s4.2.2.1 s4.2.1 (Ty.dflt .guest)) s4.1) 0) then (some [(.one (.i .i64 (-1)))]) else (r3 ((l_szGuest (ix s4.2.2.1 s4.2.1 (Ty.dflt .guest)) s4.1), ((wadd .i64 s4.2.1 1), (s4.2.2.1, ()))))) else none) else none) else (some [(.one (.i .i64 s4.1))]))) ((wsub .i64 a1 (ln a0)), (0, (a0, ())))))

def tms_l_szGuestS : FuncId → Nat → Option Tmpl := tmsOf [(28, 0, { n := 27, tm := [(0, .sl 0 []), (1, .i .i64), (5, .i .i64)], lo := [], ro := [(0, .guest, false)] })]

theorem nf_l_szGuestS (N : Nat) (a0 : List Guest) (a1 : Int) : evalFn (cQ ctr4 mct0 pct0 tct0) tms_l_szGuestS N 12 28 [.one (.s .guest a0), .one (.i .i64 a1)] = E_l_szGuestS N a0 a1 := by kernel_rfl

theorem l_szGuestS_P (l : List Guest) : ∀ n, 0 ≤ n → n ≤ 1048576 → l_szGuestS l n ≤ n ∧ (0 ≤ l_szGuestS l n → CVB sm (.s .guest l)) := fun n h0 h1 => by
  obtain ⟨a, b⟩ := szP_list (S := fun x => ∀ c ∈ Ty.cells .guest x, CVB sm c) (f := l_szGuest) l_szGuest_S l n h0 h1
  exact ⟨a, fun h => .s .guest l (b h).1 (b h).2⟩
theorem law_l_szGuestS (a0 : List Guest) (a1 : Int) (hb : AllB big [.one (.s .guest a0), .one (.i .i64 a1)]) (hc : (l_szGuestS_c a0 a1) = true) : ∃ N, E_l_szGuestS N a0 a1 = some [.one (.i .i64 (l_szGuestS a0 a1))] := by
  obtain ⟨h0, h1⟩ := pc_iff.1 hc
  have hl := ((allB_cons hb).1 _ (List.mem_singleton.2 rfl)).len
  refine ⟨a0.length + 1, ?_⟩
  simp only [E_l_szGuestS, szL_eq hl h0 h1, l_szGuestS, szLL, thn, ilt_zero]
  by_cases h : a1 - a0.length < 0
  · simp [h]
  · simp only [h, decide_false, cF, if_false]
    exact sz_loop a0 _ l_szGuest_c l_szGuest l_szGuest_S (fun x n h0 h1 => pc_true ⟨h0, h1⟩) hl _ (by omega) (by omega) (Nat.lt_succ_self _)
theorem holds_l_szGuestS : Holds Try.prog 28 run_l_szGuestS := holds_fn ctr4_ok mct0_ok pct0_ok tct0_ok (fn_ok (by kernel_rfl)) fun avs rs hb h => by
  unfold run_l_szGuestS at h
  split at h
  · obtain ⟨hc, rfl⟩ := some_pair h
    exact (fin2 law_l_szGuestS nf_l_szGuestS hc hb :)
  · cases h


noncomputable def l_szKeptS_c (_ : List Kept) (n : Int) : Bool := pc (0 ≤ n ∧ n ≤ 1048576)
def l_szKeptS (l : List Kept) (n : Int) : Int := szLL l_szKept l n
noncomputable def run_l_szKeptS : List AV → Option (Bool × List AV)
  | [.one (.s .kept a0), .one (.i .i64 a1)] => some ((l_szKeptS_c a0 a1), [.one (.i .i64 (l_szKeptS a0 a1))])
  | _ => none

noncomputable def E_l_szKeptS (N : Nat) (a0 : List Kept) (a1 : Int) : Option Ans :=
  (bif (ilt (wsub .i64 a1 (ln a0)) 0) then (some [(.one (.i .i64 (-1)))]) else (iter (σ := (Int × (Int × ((List Kept) × Unit)))) N (fun r3 s4 => (bif (ilt s4.2.1 (ln s4.2.2.1)) then (bif (inb s4.2.1 (ln s4.2.2.1)) then (bif (l_szKept_c (ix s4.2.2.1 s4.2.1 (Ty.dflt .kept)) s4.1) then (bif (ilt (l_szKept (ix s4.2.2.1 s4.2.1 (Ty.dflt .kept)) s4.1) 0) then (some [(.one (.i .i64 (-1)))]) else (r3 ((l_szKept (ix s4.2.2.1 s4.2.1 (Ty.dflt .kept)) s4.1), ((wadd .i64 s4.2.1 1), (s4.2.2.1, ()))))) else none) else none) else (some [(.one (.i .i64 s4.1))]))) ((wsub .i64 a1 (ln a0)), (0, (a0, ())))))

def tms_l_szKeptS : FuncId → Nat → Option Tmpl := tmsOf [(29, 0, { n := 27, tm := [(0, .sl 0 []), (1, .i .i64), (5, .i .i64)], lo := [], ro := [(0, .kept, false)] })]

theorem nf_l_szKeptS (N : Nat) (a0 : List Kept) (a1 : Int) : evalFn (cQ ctr4 mct0 pct0 tct0) tms_l_szKeptS N 12 29 [.one (.s .kept a0), .one (.i .i64 a1)] = E_l_szKeptS N a0 a1 := by kernel_rfl

theorem l_szKeptS_P (l : List Kept) : ∀ n, 0 ≤ n → n ≤ 1048576 → l_szKeptS l n ≤ n ∧ (0 ≤ l_szKeptS l n → CVB sm (.s .kept l)) := fun n h0 h1 => by
  obtain ⟨a, b⟩ := szP_list (S := fun x => ∀ c ∈ Ty.cells .kept x, CVB sm c) (f := l_szKept) l_szKept_S l n h0 h1
  exact ⟨a, fun h => .s .kept l (b h).1 (b h).2⟩
theorem law_l_szKeptS (a0 : List Kept) (a1 : Int) (hb : AllB big [.one (.s .kept a0), .one (.i .i64 a1)]) (hc : (l_szKeptS_c a0 a1) = true) : ∃ N, E_l_szKeptS N a0 a1 = some [.one (.i .i64 (l_szKeptS a0 a1))] := by
  obtain ⟨h0, h1⟩ := pc_iff.1 hc
  have hl := ((allB_cons hb).1 _ (List.mem_singleton.2 rfl)).len
  refine ⟨a0.length + 1, ?_⟩
  simp only [E_l_szKeptS, szL_eq hl h0 h1, l_szKeptS, szLL, thn, ilt_zero]
  by_cases h : a1 - a0.length < 0
  · simp [h]
  · simp only [h, decide_false, cF, if_false]
    exact sz_loop a0 _ l_szKept_c l_szKept l_szKept_S (fun x n h0 h1 => pc_true ⟨h0, h1⟩) hl _ (by omega) (by omega) (Nat.lt_succ_self _)
theorem holds_l_szKeptS : Holds Try.prog 29 run_l_szKeptS := holds_fn ctr4_ok mct0_ok pct0_ok tct0_ok (fn_ok (by kernel_rfl)) fun avs rs hb h => by
  unfold run_l_szKeptS at h
  split at h
  · obtain ⟨hc, rfl⟩ := some_pair h
    exact (fin2 law_l_szKeptS nf_l_szKeptS hc hb :)
  · cases h


noncomputable def ctr5 : Ctrs := [(28, run_l_szGuestS), (29, run_l_szKeptS)] ++ ctr4

theorem ctr5_ok : CtrsOk ctr5 := ctr_cons holds_l_szGuestS (ctr_cons holds_l_szKeptS ctr4_ok)


noncomputable def l_szMon_c (_ : Mon) (n : Int) : Bool := pc (0 ≤ n ∧ n ≤ 1048576)
def l_szMon (x : Mon) (n : Int) : Int := (fun n => thn (l_szSlotS x.Outer n) (fun n => thn (l_szIntSS x.Out n) (fun n => thn (l_szBoolS x.Dirty n) (fun n => thn (l_szGuestS x.Guests n) (fun n => thn (l_szIntS x.Outs n) (fun n => thn (l_szKeptS x.Tables n) (fun n => n))))))) n
noncomputable def run_l_szMon : List AV → Option (Bool × List AV)
  | [.agg [.s .slot a0_0, .s (.sl .int) a0_1, .s .bool a0_2, .s .guest a0_3, .s .int a0_4, .i .i64 a0_5, .i .i64 a0_6, .s .kept a0_7, .i .i64 a0_8], .one (.i .i64 a1)] => some ((l_szMon_c (⟨a0_0, a0_1, a0_2, a0_3, a0_4, a0_5, a0_6, a0_7, a0_8⟩ : Mon) a1), [.one (.i .i64 (l_szMon (⟨a0_0, a0_1, a0_2, a0_3, a0_4, a0_5, a0_6, a0_7, a0_8⟩ : Mon) a1))])
  | _ => none

noncomputable def E_l_szMon (N : Nat) (a0 : Mon) (a1 : Int) : Option Ans :=
  (bif (l_szSlotS_c a0.Outer a1) then (bif (ilt (l_szSlotS a0.Outer a1) 0) then (some [(.one (.i .i64 (-1)))]) else (bif (l_szIntSS_c a0.Out (l_szSlotS a0.Outer a1)) then (bif (ilt (l_szIntSS a0.Out (l_szSlotS a0.Outer a1)) 0) then (some [(.one (.i .i64 (-1)))]) else (bif (l_szBoolS_c a0.Dirty (l_szIntSS a0.Out (l_szSlotS a0.Outer a1))) then (bif (ilt (l_szBoolS a0.Dirty (l_szIntSS a0.Out (l_szSlotS a0.Outer a1))) 0) then (some [(.one (.i .i64 (-1)))]) else (bif (l_szGuestS_c a0.Guests (l_szBoolS a0.Dirty (l_szIntSS a0.Out (l_szSlotS a0.Outer a1)))) then (bif (ilt (l_szGuestS a0.Guests (l_szBoolS a0.Dirty (l_szIntSS a0.Out (l_szSlotS a0.Outer a1)))) 0) then (some [(.one (.i .i64 (-1)))]) else (bif (l_szIntS_c a0.Outs (l_szGuestS a0.Guests (l_szBoolS a0.Dirty (l_szIntSS a0.Out (l_szSlotS a0.Outer a1))))) then (bif (ilt (l_szIntS a0.Outs (l_szGuestS a0.Guests (l_szBoolS a0.Dirty (l_szIntSS a0.Out (l_szSlotS a0.Outer a1))))) 0) then (some [(.one (.i .i64 (-1)))]) else (bif (l_szKeptS_c a0.Tables (l_szIntS a0.Outs (l_szGuestS a0.Guests (l_szBoolS a0.Dirty (l_szIntSS a0.Out (l_szSlotS a0.Outer a1)))))) then (bif (ilt (l_szKeptS a0.Tables (l_szIntS a0.Outs (l_szGuestS a0.Guests (l_szBoolS a0.Dirty (l_szIntSS a0.Out (l_szSlotS a0.Outer a1)))))) 0) then (some [(.one (.i .i64 (-1)))]) else (some [(.one (.i .i64 (l_szKeptS a0.Tables (l_szIntS a0.Outs (l_szGuestS a0.Guests (l_szBoolS a0.Dirty (l_szIntSS a0.Out (l_szSlotS a0.Outer a1))))))))])) else none)) else none)) else none)) else none)) else none)) else none)

theorem nf_l_szMon (N : Nat) (a0 : Mon) (a1 : Int) : evalFn (cQ ctr5 mct0 pct0 tct0) (tmsOf []) N 12 19 [.agg (Ty.cells .mon a0), .one (.i .i64 a1)] = E_l_szMon N a0 a1 := by kernel_rfl

theorem l_szMon_S : SzP (fun x => ∀ c ∈ Ty.cells .mon x, CVB sm c) l_szMon := by
  intro x n h0 h1
  obtain ⟨a, b⟩ := szP_thn (l_szSlotS_P x.Outer) (szP_thn (l_szIntSS_P x.Out) (szP_thn (l_szBoolS_P x.Dirty) (szP_thn (l_szGuestS_P x.Guests) (szP_thn (l_szIntS_P x.Outs) (szP_thn (l_szKeptS_P x.Tables) (fun n _ _ => ⟨Int.le_refl _, fun _ => trivial⟩)))))) n h0 h1
  refine ⟨a, fun h c hc => ?_⟩
  obtain ⟨g0, g1, g2, g3, g4, g5, _⟩ := b h
  simp only [Ty.cells, List.mem_cons, List.not_mem_nil, or_false] at hc
  rcases hc with rfl | rfl | rfl | rfl | rfl | rfl | rfl | rfl | rfl
  · exact g0
  · exact g1
  · exact g2
  · exact g3
  · exact g4
  · first | exact .i _ _ | exact .b _
  · first | exact .i _ _ | exact .b _
  · exact g5
  · first | exact .i _ _ | exact .b _
theorem law_l_szMon (a0 : Mon) (a1 : Int) (hb : AllB big [.agg (Ty.cells .mon a0), .one (.i .i64 a1)]) (hc : (l_szMon_c a0 a1) = true) : ∃ N, E_l_szMon N a0 a1 = some [.one (.i .i64 (l_szMon a0 a1))] := by
  obtain ⟨h0, h1⟩ := pc_iff.1 hc
  refine ⟨0, ?_⟩
  unfold E_l_szMon l_szMon
  simp only [thn]
  have c0 : l_szSlotS_c a0.Outer a1 = true := pc_true ⟨by omega, by omega⟩
  have p0 := (l_szSlotS_P a0.Outer a1 (by omega) (by omega)).1
  rw [c0, cT]
  generalize l_szSlotS a0.Outer a1 = n0 at *
  rw [ilt_zero]
  by_cases k0 : n0 < 0
  · simp [k0]
  simp only [k0, decide_false, cF, if_false]
  have c1 : l_szIntSS_c a0.Out n0 = true := pc_true ⟨by omega, by omega⟩
  have p1 := (l_szIntSS_P a0.Out n0 (by omega) (by omega)).1
  rw [c1, cT]
  generalize l_szIntSS a0.Out n0 = n1 at *
  rw [ilt_zero]
  by_cases k1 : n1 < 0
  · simp [k1]
  simp only [k1, decide_false, cF, if_false]
  have c2 : l_szBoolS_c a0.Dirty n1 = true := pc_true ⟨by omega, by omega⟩
  have p2 := (l_szBoolS_P a0.Dirty n1 (by omega) (by omega)).1
  rw [c2, cT]
  generalize l_szBoolS a0.Dirty n1 = n2 at *
  rw [ilt_zero]
  by_cases k2 : n2 < 0
  · simp [k2]
  simp only [k2, decide_false, cF, if_false]
  have c3 : l_szGuestS_c a0.Guests n2 = true := pc_true ⟨by omega, by omega⟩
  have p3 := (l_szGuestS_P a0.Guests n2 (by omega) (by omega)).1
  rw [c3, cT]
  generalize l_szGuestS a0.Guests n2 = n3 at *
  rw [ilt_zero]
  by_cases k3 : n3 < 0
  · simp [k3]
  simp only [k3, decide_false, cF, if_false]
  have c4 : l_szIntS_c a0.Outs n3 = true := pc_true ⟨by omega, by omega⟩
  have p4 := (l_szIntS_P a0.Outs n3 (by omega) (by omega)).1
  rw [c4, cT]
  generalize l_szIntS a0.Outs n3 = n4 at *
  rw [ilt_zero]
  by_cases k4 : n4 < 0
  · simp [k4]
  simp only [k4, decide_false, cF, if_false]
  have c5 : l_szKeptS_c a0.Tables n4 = true := pc_true ⟨by omega, by omega⟩
  have p5 := (l_szKeptS_P a0.Tables n4 (by omega) (by omega)).1
  rw [c5, cT]
  generalize l_szKeptS a0.Tables n4 = n5 at *
  rw [ilt_zero]
  by_cases k5 : n5 < 0
  · simp [k5]
  simp only [k5, decide_false, cF, if_false]
theorem holds_l_szMon : Holds Try.prog 19 run_l_szMon := holds_fn ctr5_ok mct0_ok pct0_ok tct0_ok (fn_ok (by kernel_rfl)) fun avs rs hb h => by
  unfold run_l_szMon at h
  split at h
  · obtain ⟨hc, rfl⟩ := some_pair h
    exact (fin2 law_l_szMon nf_l_szMon hc hb :)
  · cases h


noncomputable def ctr6 : Ctrs := [(19, run_l_szMon)] ++ ctr5

theorem ctr6_ok : CtrsOk ctr6 := ctr_cons holds_l_szMon ctr5_ok


noncomputable def l_szMonS_c (_ : List Mon) (n : Int) : Bool := pc (0 ≤ n ∧ n ≤ 1048576)
def l_szMonS (l : List Mon) (n : Int) : Int := szLL l_szMon l n
noncomputable def run_l_szMonS : List AV → Option (Bool × List AV)
  | [.one (.s .mon a0), .one (.i .i64 a1)] => some ((l_szMonS_c a0 a1), [.one (.i .i64 (l_szMonS a0 a1))])
  | _ => none

noncomputable def E_l_szMonS (N : Nat) (a0 : List Mon) (a1 : Int) : Option Ans :=
  (bif (ilt (wsub .i64 a1 (ln a0)) 0) then (some [(.one (.i .i64 (-1)))]) else (iter (σ := (Int × (Int × ((List Mon) × Unit)))) N (fun r3 s4 => (bif (ilt s4.2.1 (ln s4.2.2.1)) then (bif (inb s4.2.1 (ln s4.2.2.1)) then (bif (l_szMon_c (ix s4.2.2.1 s4.2.1 (Ty.dflt .mon)) s4.1) then (bif (ilt (l_szMon (ix s4.2.2.1 s4.2.1 (Ty.dflt .mon)) s4.1) 0) then (some [(.one (.i .i64 (-1)))]) else (r3 ((l_szMon (ix s4.2.2.1 s4.2.1 (Ty.dflt .mon)) s4.1), ((wadd .i64 s4.2.1 1), (s4.2.2.1, ()))))) else none) else none) else (some [(.one (.i .i64 s4.1))]))) ((wsub .i64 a1 (ln a0)), (0, (a0, ())))))

def tms_l_szMonS : FuncId → Nat → Option Tmpl := tmsOf [(10, 0, { n := 27, tm := [(0, .sl 0 []), (1, .i .i64), (5, .i .i64)], lo := [], ro := [(0, .mon, false)] })]

theorem nf_l_szMonS (N : Nat) (a0 : List Mon) (a1 : Int) : evalFn (cQ ctr6 mct0 pct0 tct0) tms_l_szMonS N 12 10 [.one (.s .mon a0), .one (.i .i64 a1)] = E_l_szMonS N a0 a1 := by kernel_rfl

theorem l_szMonS_P (l : List Mon) : ∀ n, 0 ≤ n → n ≤ 1048576 → l_szMonS l n ≤ n ∧ (0 ≤ l_szMonS l n → CVB sm (.s .mon l)) := fun n h0 h1 => by
  obtain ⟨a, b⟩ := szP_list (S := fun x => ∀ c ∈ Ty.cells .mon x, CVB sm c) (f := l_szMon) l_szMon_S l n h0 h1
  exact ⟨a, fun h => .s .mon l (b h).1 (b h).2⟩
theorem law_l_szMonS (a0 : List Mon) (a1 : Int) (hb : AllB big [.one (.s .mon a0), .one (.i .i64 a1)]) (hc : (l_szMonS_c a0 a1) = true) : ∃ N, E_l_szMonS N a0 a1 = some [.one (.i .i64 (l_szMonS a0 a1))] := by
  obtain ⟨h0, h1⟩ := pc_iff.1 hc
  have hl := ((allB_cons hb).1 _ (List.mem_singleton.2 rfl)).len
  refine ⟨a0.length + 1, ?_⟩
  simp only [E_l_szMonS, szL_eq hl h0 h1, l_szMonS, szLL, thn, ilt_zero]
  by_cases h : a1 - a0.length < 0
  · simp [h]
  · simp only [h, decide_false, cF, if_false]
    exact sz_loop a0 _ l_szMon_c l_szMon l_szMon_S (fun x n h0 h1 => pc_true ⟨h0, h1⟩) hl _ (by omega) (by omega) (Nat.lt_succ_self _)
theorem holds_l_szMonS : Holds Try.prog 10 run_l_szMonS := holds_fn ctr6_ok mct0_ok pct0_ok tct0_ok (fn_ok (by kernel_rfl)) fun avs rs hb h => by
  unfold run_l_szMonS at h
  split at h
  · obtain ⟨hc, rfl⟩ := some_pair h
    exact (fin2 law_l_szMonS nf_l_szMonS hc hb :)
  · cases h


noncomputable def ctr7 : Ctrs := [(10, run_l_szMonS)] ++ ctr6

theorem ctr7_ok : CtrsOk ctr7 := ctr_cons holds_l_szMonS ctr6_ok


noncomputable def l_szHost_c (_ : Host) (n : Int) : Bool := pc (0 ≤ n ∧ n ≤ 1048576)
def l_szHost (x : Host) (n : Int) : Int := (fun n => thn (l_szIntSS x.Memory n) (fun n => thn (l_szMonS x.Mons n) (fun n => thn (l_szEntryS x.Buffer n) (fun n => thn (l_szEntryS x.IoBuffer n) (fun n => n))))) n
noncomputable def run_l_szHost : List AV → Option (Bool × List AV)
  | [.agg [.s (.sl .int) a0_0, .s .mon a0_1, .s .entry a0_2, .s .entry a0_3], .one (.i .i64 a1)] => some ((l_szHost_c (⟨a0_0, a0_1, a0_2, a0_3⟩ : Host) a1), [.one (.i .i64 (l_szHost (⟨a0_0, a0_1, a0_2, a0_3⟩ : Host) a1))])
  | _ => none

noncomputable def E_l_szHost (N : Nat) (a0 : Host) (a1 : Int) : Option Ans :=
  (bif (l_szIntSS_c a0.Memory a1) then (bif (ilt (l_szIntSS a0.Memory a1) 0) then (some [(.one (.i .i64 (-1)))]) else (bif (l_szMonS_c a0.Mons (l_szIntSS a0.Memory a1)) then (bif (ilt (l_szMonS a0.Mons (l_szIntSS a0.Memory a1)) 0) then (some [(.one (.i .i64 (-1)))]) else (bif (l_szEntryS_c a0.Buffer (l_szMonS a0.Mons (l_szIntSS a0.Memory a1))) then (bif (ilt (l_szEntryS a0.Buffer (l_szMonS a0.Mons (l_szIntSS a0.Memory a1))) 0) then (some [(.one (.i .i64 (-1)))]) else (bif (l_szEntryS_c a0.IoBuffer (l_szEntryS a0.Buffer (l_szMonS a0.Mons (l_szIntSS a0.Memory a1)))) then (bif (ilt (l_szEntryS a0.IoBuffer (l_szEntryS a0.Buffer (l_szMonS a0.Mons (l_szIntSS a0.Memory a1)))) 0) then (some [(.one (.i .i64 (-1)))]) else (some [(.one (.i .i64 (l_szEntryS a0.IoBuffer (l_szEntryS a0.Buffer (l_szMonS a0.Mons (l_szIntSS a0.Memory a1))))))])) else none)) else none)) else none)) else none)

theorem nf_l_szHost (N : Nat) (a0 : Host) (a1 : Int) : evalFn (cQ ctr7 mct0 pct0 tct0) (tmsOf []) N 12 4 [.agg (hostC a0), .one (.i .i64 a1)] = E_l_szHost N a0 a1 := by kernel_rfl

theorem l_szHost_S : SzP (fun x => ∀ c ∈ hostC x, CVB sm c) l_szHost := by
  intro x n h0 h1
  obtain ⟨a, b⟩ := szP_thn (l_szIntSS_P x.Memory) (szP_thn (l_szMonS_P x.Mons) (szP_thn (l_szEntryS_P x.Buffer) (szP_thn (l_szEntryS_P x.IoBuffer) (fun n _ _ => ⟨Int.le_refl _, fun _ => trivial⟩)))) n h0 h1
  refine ⟨a, fun h c hc => ?_⟩
  obtain ⟨g0, g1, g2, g3, _⟩ := b h
  simp only [hostC, List.mem_cons, List.not_mem_nil, or_false] at hc
  rcases hc with rfl | rfl | rfl | rfl
  · exact g0
  · exact g1
  · exact g2
  · exact g3
theorem law_l_szHost (a0 : Host) (a1 : Int) (hb : AllB big [.agg (hostC a0), .one (.i .i64 a1)]) (hc : (l_szHost_c a0 a1) = true) : ∃ N, E_l_szHost N a0 a1 = some [.one (.i .i64 (l_szHost a0 a1))] := by
  obtain ⟨h0, h1⟩ := pc_iff.1 hc
  refine ⟨0, ?_⟩
  unfold E_l_szHost l_szHost
  simp only [thn]
  have c0 : l_szIntSS_c a0.Memory a1 = true := pc_true ⟨by omega, by omega⟩
  have p0 := (l_szIntSS_P a0.Memory a1 (by omega) (by omega)).1
  rw [c0, cT]
  generalize l_szIntSS a0.Memory a1 = n0 at *
  rw [ilt_zero]
  by_cases k0 : n0 < 0
  · simp [k0]
  simp only [k0, decide_false, cF, if_false]
  have c1 : l_szMonS_c a0.Mons n0 = true := pc_true ⟨by omega, by omega⟩
  have p1 := (l_szMonS_P a0.Mons n0 (by omega) (by omega)).1
  rw [c1, cT]
  generalize l_szMonS a0.Mons n0 = n1 at *
  rw [ilt_zero]
  by_cases k1 : n1 < 0
  · simp [k1]
  simp only [k1, decide_false, cF, if_false]
  have c2 : l_szEntryS_c a0.Buffer n1 = true := pc_true ⟨by omega, by omega⟩
  have p2 := (l_szEntryS_P a0.Buffer n1 (by omega) (by omega)).1
  rw [c2, cT]
  generalize l_szEntryS a0.Buffer n1 = n2 at *
  rw [ilt_zero]
  by_cases k2 : n2 < 0
  · simp [k2]
  simp only [k2, decide_false, cF, if_false]
  have c3 : l_szEntryS_c a0.IoBuffer n2 = true := pc_true ⟨by omega, by omega⟩
  have p3 := (l_szEntryS_P a0.IoBuffer n2 (by omega) (by omega)).1
  rw [c3, cT]
  generalize l_szEntryS a0.IoBuffer n2 = n3 at *
  rw [ilt_zero]
  by_cases k3 : n3 < 0
  · simp [k3]
  simp only [k3, decide_false, cF, if_false]
theorem holds_l_szHost : Holds Try.prog 4 run_l_szHost := holds_fn ctr7_ok mct0_ok pct0_ok tct0_ok (fn_ok (by kernel_rfl)) fun avs rs hb h => by
  unfold run_l_szHost at h
  split at h
  · obtain ⟨hc, rfl⟩ := some_pair h
    exact (fin2 law_l_szHost nf_l_szHost hc hb :)
  · cases h


noncomputable def ctr8 : Ctrs := [(4, run_l_szHost)] ++ ctr7

theorem ctr8_ok : CtrsOk ctr8 := ctr_cons holds_l_szHost ctr7_ok


/-! Copies. -/

/-- A loop that copies element by element, each as it is. -/
theorem to_loop0 {α ρ : Type} (l : List α) (d : α) (K : List α → Option ρ) (hl : l.length ≤ big) {N : Nat} (hN : l.length < N) :
    iter N (fun r (s : Int × List α × List α × Unit) => (bif (ilt s.1 (ln s.2.1)) then (bif (inb s.1 (ln s.2.1)) then (bif (inb s.1 (ln s.2.2.1)) then
      (r ((wadd .i64 s.1 1), (s.2.1, ((up s.2.2.1 s.1 (ix s.2.1 s.1 d)), ())))) else none) else none) else K s.2.2.1)) (0, (l, ((rp (ln l) d), ()))) = K l :=
  to_loop l d (fun _ => true) (fun x => x) K hl (fun _ _ => ⟨rfl, rfl⟩) hN


def l_toSlot_c (_ : Slot) : Bool := true
def l_toSlot (x : Slot) : Slot := x
noncomputable def run_l_toSlot : List AV → Option (Bool × List AV)
  | [.agg [.i .i64 a0_0, .i .i64 a0_1]] => some ((l_toSlot_c (⟨a0_0, a0_1⟩ : Slot)), [.agg (Ty.cells .slot (l_toSlot (⟨a0_0, a0_1⟩ : Slot)))])
  | _ => none

noncomputable def E_l_toSlot (N : Nat) (a0 : Slot) : Option Ans :=
  (some [(.agg [(.i .i64 a0.Page), (.i .i64 a0.Rights)])])

theorem nf_l_toSlot (N : Nat) (a0 : Slot) : evalFn (cQ ctr8 mct0 pct0 tct0) (tmsOf []) N 12 40 [.agg (Ty.cells .slot a0)] = E_l_toSlot N a0 := by kernel_rfl

theorem law_l_toSlot (a0 : Slot) (hb : AllB big [.agg (Ty.cells .slot a0)]) (hc : (l_toSlot_c a0) = true) : ∃ N, E_l_toSlot N a0 = some [.agg (Ty.cells .slot (l_toSlot a0))] := by
  exact ⟨0, rfl⟩
theorem holds_l_toSlot : Holds Try.prog 40 run_l_toSlot := holds_fn ctr8_ok mct0_ok pct0_ok tct0_ok (fn_ok (by kernel_rfl)) fun avs rs hb h => by
  unfold run_l_toSlot at h
  split at h
  · obtain ⟨hc, rfl⟩ := some_pair h
    exact (fin1 law_l_toSlot nf_l_toSlot hc hb :)
  · cases h


def l_toIns_c (_ : Ins) : Bool := true
def l_toIns (x : Ins) : Ins := x
noncomputable def run_l_toIns : List AV → Option (Bool × List AV)
  | [.agg [.i .i64 a0_0, .i .i64 a0_1]] => some ((l_toIns_c (⟨a0_0, a0_1⟩ : Ins)), [.agg (Ty.cells .ins (l_toIns (⟨a0_0, a0_1⟩ : Ins)))])
  | _ => none

noncomputable def E_l_toIns (N : Nat) (a0 : Ins) : Option Ans :=
  (some [(.agg [(.i .i64 a0.Op), (.i .i64 a0.X)])])

theorem nf_l_toIns (N : Nat) (a0 : Ins) : evalFn (cQ ctr8 mct0 pct0 tct0) (tmsOf []) N 12 53 [.agg (Ty.cells .ins a0)] = E_l_toIns N a0 := by kernel_rfl

theorem law_l_toIns (a0 : Ins) (hb : AllB big [.agg (Ty.cells .ins a0)]) (hc : (l_toIns_c a0) = true) : ∃ N, E_l_toIns N a0 = some [.agg (Ty.cells .ins (l_toIns a0))] := by
  exact ⟨0, rfl⟩
theorem holds_l_toIns : Holds Try.prog 53 run_l_toIns := holds_fn ctr8_ok mct0_ok pct0_ok tct0_ok (fn_ok (by kernel_rfl)) fun avs rs hb h => by
  unfold run_l_toIns at h
  split at h
  · obtain ⟨hc, rfl⟩ := some_pair h
    exact (fin1 law_l_toIns nf_l_toIns hc hb :)
  · cases h


def l_toCtl_c (_ : Ctl) : Bool := true
def l_toCtl (x : Ctl) : Ctl := x
noncomputable def run_l_toCtl : List AV → Option (Bool × List AV)
  | [.agg [.i .i64 a0_0, .i .i64 a0_1, .b a0_2]] => some ((l_toCtl_c (⟨a0_0, a0_1, a0_2⟩ : Ctl)), [.agg (ctlC (l_toCtl (⟨a0_0, a0_1, a0_2⟩ : Ctl)))])
  | _ => none

noncomputable def E_l_toCtl (N : Nat) (a0 : Ctl) : Option Ans :=
  (some [(.agg [(.i .i64 a0.Traps), (.i .i64 a0.Post), (.b a0.Open)])])

theorem nf_l_toCtl (N : Nat) (a0 : Ctl) : evalFn (cQ ctr8 mct0 pct0 tct0) (tmsOf []) N 12 48 [.agg (ctlC a0)] = E_l_toCtl N a0 := by kernel_rfl

theorem law_l_toCtl (a0 : Ctl) (hb : AllB big [.agg (ctlC a0)]) (hc : (l_toCtl_c a0) = true) : ∃ N, E_l_toCtl N a0 = some [.agg (ctlC (l_toCtl a0))] := by
  exact ⟨0, rfl⟩
theorem holds_l_toCtl : Holds Try.prog 48 run_l_toCtl := holds_fn ctr8_ok mct0_ok pct0_ok tct0_ok (fn_ok (by kernel_rfl)) fun avs rs hb h => by
  unfold run_l_toCtl at h
  split at h
  · obtain ⟨hc, rfl⟩ := some_pair h
    exact (fin1 law_l_toCtl nf_l_toCtl hc hb :)
  · cases h


def l_toExit_c (_ : GExit) : Bool := true
def l_toExit (x : GExit) : GExit := x
noncomputable def run_l_toExit : List AV → Option (Bool × List AV)
  | [.agg [.i .i64 a0_0, .i .i64 a0_1, .b a0_2, .i .i64 a0_3]] => some ((l_toExit_c (⟨a0_0, a0_1, a0_2, a0_3⟩ : GExit)), [.agg (exitC (l_toExit (⟨a0_0, a0_1, a0_2, a0_3⟩ : GExit)))])
  | _ => none

noncomputable def E_l_toExit (N : Nat) (a0 : GExit) : Option Ans :=
  (some [(.agg [(.i .i64 a0.Kind), (.i .i64 a0.Page), (.b a0.Write), (.i .i64 a0.N)])])

theorem nf_l_toExit (N : Nat) (a0 : GExit) : evalFn (cQ ctr8 mct0 pct0 tct0) (tmsOf []) N 12 49 [.agg (exitC a0)] = E_l_toExit N a0 := by kernel_rfl

theorem law_l_toExit (a0 : GExit) (hb : AllB big [.agg (exitC a0)]) (hc : (l_toExit_c a0) = true) : ∃ N, E_l_toExit N a0 = some [.agg (exitC (l_toExit a0))] := by
  exact ⟨0, rfl⟩
theorem holds_l_toExit : Holds Try.prog 49 run_l_toExit := holds_fn ctr8_ok mct0_ok pct0_ok tct0_ok (fn_ok (by kernel_rfl)) fun avs rs hb h => by
  unfold run_l_toExit at h
  split at h
  · obtain ⟨hc, rfl⟩ := some_pair h
    exact (fin1 law_l_toExit nf_l_toExit hc hb :)
  · cases h


def l_toEntry_c (_ : Entry) : Bool := true
def l_toEntry (x : Entry) : Entry := x
noncomputable def run_l_toEntry : List AV → Option (Bool × List AV)
  | [.agg [.i .i64 a0_0, .i .i64 a0_1, .i .i64 a0_2, .i .i64 a0_3]] => some ((l_toEntry_c (⟨a0_0, a0_1, a0_2, a0_3⟩ : Entry)), [.agg (Ty.cells .entry (l_toEntry (⟨a0_0, a0_1, a0_2, a0_3⟩ : Entry)))])
  | _ => none

noncomputable def E_l_toEntry (N : Nat) (a0 : Entry) : Option Ans :=
  (some [(.agg [(.i .i64 a0.Tag), (.i .i64 a0.Page), (.i .i64 a0.Host), (.i .i64 a0.Rights)])])

theorem nf_l_toEntry (N : Nat) (a0 : Entry) : evalFn (cQ ctr8 mct0 pct0 tct0) (tmsOf []) N 12 22 [.agg (Ty.cells .entry a0)] = E_l_toEntry N a0 := by kernel_rfl

theorem law_l_toEntry (a0 : Entry) (hb : AllB big [.agg (Ty.cells .entry a0)]) (hc : (l_toEntry_c a0) = true) : ∃ N, E_l_toEntry N a0 = some [.agg (Ty.cells .entry (l_toEntry a0))] := by
  exact ⟨0, rfl⟩
theorem holds_l_toEntry : Holds Try.prog 22 run_l_toEntry := holds_fn ctr8_ok mct0_ok pct0_ok tct0_ok (fn_ok (by kernel_rfl)) fun avs rs hb h => by
  unfold run_l_toEntry at h
  split at h
  · obtain ⟨hc, rfl⟩ := some_pair h
    exact (fin1 law_l_toEntry nf_l_toEntry hc hb :)
  · cases h


noncomputable def l_toIntS_c (l : List Int) : Bool := pc (CVB sm (.s .int l))
def l_toIntS (l : List Int) : List Int := l
noncomputable def run_l_toIntS : List AV → Option (Bool × List AV)
  | [.one (.s .int a0)] => some ((l_toIntS_c a0), [.one (.s .int (l_toIntS a0))])
  | _ => none

noncomputable def E_l_toIntS (N : Nat) (a0 : List Int) : Option Ans :=
  (bif (bif (few (ln a0)) then (ieq (ln a0) (ln a0)) else false) then (iter (σ := (Int × ((List Int) × ((List Int) × Unit)))) N (fun r2 s3 => (bif (ilt s3.1 (ln s3.2.1)) then (bif (inb s3.1 (ln s3.2.1)) then (bif (inb s3.1 (ln s3.2.2.1)) then (share (up s3.2.2.1 s3.1 (ix s3.2.1 s3.1 0)) (fun x4 => (r2 ((wadd .i64 s3.1 1), (s3.2.1, (x4, ())))))) else none) else none) else (some [(.one (.s .int s3.2.2.1))]))) (0, (a0, ((rp (ln a0) 0), ())))) else none)

def tms_l_toIntS : FuncId → Nat → Option Tmpl := tmsOf [(20, 0, { n := 22, tm := [(0, .sl 0 []), (3, .sl 1 []), (4, .i .i64)], lo := [], ro := [(0, .int, false), (1, .int, true)] })]

theorem nf_l_toIntS (N : Nat) (a0 : List Int) : evalFn (cQ ctr8 mct0 pct0 tct0) tms_l_toIntS N 12 20 [.one (.s .int a0)] = E_l_toIntS N a0 := by kernel_rfl

theorem law_l_toIntS (a0 : List Int) (hb : AllB big [.one (.s .int a0)]) (hc : (l_toIntS_c a0) = true) : ∃ N, E_l_toIntS N a0 = some [.one (.s .int (l_toIntS a0))] := by
  have hl := sm_big (pc_iff.1 hc).len
  refine ⟨a0.length + 1, ?_⟩
  unfold E_l_toIntS
  rw [few_ln hl.2, ieq_self]
  exact to_loop0 a0 _ (fun l => some [AV.one (.s .int l)]) hl.1 (Nat.lt_succ_self _)
theorem holds_l_toIntS : Holds Try.prog 20 run_l_toIntS := holds_fn ctr8_ok mct0_ok pct0_ok tct0_ok (fn_ok (by kernel_rfl)) fun avs rs hb h => by
  unfold run_l_toIntS at h
  split at h
  · obtain ⟨hc, rfl⟩ := some_pair h
    exact (fin1 law_l_toIntS nf_l_toIntS hc hb :)
  · cases h


noncomputable def l_toBoolS_c (l : List Bool) : Bool := pc (CVB sm (.s .bool l))
def l_toBoolS (l : List Bool) : List Bool := l
noncomputable def run_l_toBoolS : List AV → Option (Bool × List AV)
  | [.one (.s .bool a0)] => some ((l_toBoolS_c a0), [.one (.s .bool (l_toBoolS a0))])
  | _ => none

noncomputable def E_l_toBoolS (N : Nat) (a0 : List Bool) : Option Ans :=
  (bif (bif (few (ln a0)) then (ieq (ln a0) (ln a0)) else false) then (iter (σ := (Int × ((List Bool) × ((List Bool) × Unit)))) N (fun r2 s3 => (bif (ilt s3.1 (ln s3.2.1)) then (bif (inb s3.1 (ln s3.2.1)) then (bif (inb s3.1 (ln s3.2.2.1)) then (share (up s3.2.2.1 s3.1 (ix s3.2.1 s3.1 false)) (fun x4 => (r2 ((wadd .i64 s3.1 1), (s3.2.1, (x4, ())))))) else none) else none) else (some [(.one (.s .bool s3.2.2.1))]))) (0, (a0, ((rp (ln a0) false), ())))) else none)

def tms_l_toBoolS : FuncId → Nat → Option Tmpl := tmsOf [(31, 0, { n := 22, tm := [(0, .sl 0 []), (3, .sl 1 []), (4, .i .i64)], lo := [], ro := [(0, .bool, false), (1, .bool, true)] })]

theorem nf_l_toBoolS (N : Nat) (a0 : List Bool) : evalFn (cQ ctr8 mct0 pct0 tct0) tms_l_toBoolS N 12 31 [.one (.s .bool a0)] = E_l_toBoolS N a0 := by kernel_rfl

theorem law_l_toBoolS (a0 : List Bool) (hb : AllB big [.one (.s .bool a0)]) (hc : (l_toBoolS_c a0) = true) : ∃ N, E_l_toBoolS N a0 = some [.one (.s .bool (l_toBoolS a0))] := by
  have hl := sm_big (pc_iff.1 hc).len
  refine ⟨a0.length + 1, ?_⟩
  unfold E_l_toBoolS
  rw [few_ln hl.2, ieq_self]
  exact to_loop0 a0 _ (fun l => some [AV.one (.s .bool l)]) hl.1 (Nat.lt_succ_self _)
theorem holds_l_toBoolS : Holds Try.prog 31 run_l_toBoolS := holds_fn ctr8_ok mct0_ok pct0_ok tct0_ok (fn_ok (by kernel_rfl)) fun avs rs hb h => by
  unfold run_l_toBoolS at h
  split at h
  · obtain ⟨hc, rfl⟩ := some_pair h
    exact (fin1 law_l_toBoolS nf_l_toBoolS hc hb :)
  · cases h


noncomputable def ctr9 : Ctrs := [(40, run_l_toSlot), (53, run_l_toIns), (48, run_l_toCtl), (49, run_l_toExit), (22, run_l_toEntry), (20, run_l_toIntS), (31, run_l_toBoolS)] ++ ctr8

theorem ctr9_ok : CtrsOk ctr9 := ctr_cons holds_l_toSlot (ctr_cons holds_l_toIns (ctr_cons holds_l_toCtl (ctr_cons holds_l_toExit (ctr_cons holds_l_toEntry (ctr_cons holds_l_toIntS (ctr_cons holds_l_toBoolS ctr8_ok))))))


noncomputable def l_toSlotS_c (l : List Slot) : Bool := pc (CVB sm (.s .slot l))
def l_toSlotS (l : List Slot) : List Slot := l
noncomputable def run_l_toSlotS : List AV → Option (Bool × List AV)
  | [.one (.s .slot a0)] => some ((l_toSlotS_c a0), [.one (.s .slot (l_toSlotS a0))])
  | _ => none

noncomputable def E_l_toSlotS (N : Nat) (a0 : List Slot) : Option Ans :=
  (bif (bif (few (ln a0)) then (ieq (ln a0) (ln a0)) else false) then (iter (σ := (Int × ((List Slot) × ((List Slot) × Unit)))) N (fun r2 s3 => (bif (ilt s3.1 (ln s3.2.1)) then (bif (inb s3.1 (ln s3.2.1)) then (bif (l_toSlot_c (ix s3.2.1 s3.1 (Ty.dflt .slot))) then (bif (inb s3.1 (ln s3.2.2.1)) then (share (up s3.2.2.1 s3.1 (l_toSlot (ix s3.2.1 s3.1 (Ty.dflt .slot)))) (fun x4 => (r2 ((wadd .i64 s3.1 1), (s3.2.1, (x4, ())))))) else none) else none) else none) else (some [(.one (.s .slot s3.2.2.1))]))) (0, (a0, ((rp (ln a0) (Ty.dflt .slot)), ())))) else none)

def tms_l_toSlotS : FuncId → Nat → Option Tmpl := tmsOf [(30, 0, { n := 23, tm := [(0, .sl 0 []), (3, .sl 1 []), (4, .i .i64)], lo := [], ro := [(0, .slot, false), (1, .slot, true)] })]

theorem nf_l_toSlotS (N : Nat) (a0 : List Slot) : evalFn (cQ ctr9 mct0 pct0 tct0) tms_l_toSlotS N 12 30 [.one (.s .slot a0)] = E_l_toSlotS N a0 := by kernel_rfl

theorem law_l_toSlotS (a0 : List Slot) (hb : AllB big [.one (.s .slot a0)]) (hc : (l_toSlotS_c a0) = true) : ∃ N, E_l_toSlotS N a0 = some [.one (.s .slot (l_toSlotS a0))] := by
  have hs := pc_iff.1 hc
  have hl := sm_big hs.len
  refine ⟨a0.length + 1, ?_⟩
  unfold E_l_toSlotS
  rw [few_ln hl.2, ieq_self]
  exact to_loop a0 _ l_toSlot_c l_toSlot (fun l => some [AV.one (.s .slot l)]) hl.1 (fun x hx => ⟨by first | rfl | exact pc_true (hs.inv.2 x hx) | exact pc_true (hs.inv.2 x hx _ (List.mem_singleton.2 rfl)), rfl⟩) (Nat.lt_succ_self _)
theorem holds_l_toSlotS : Holds Try.prog 30 run_l_toSlotS := holds_fn ctr9_ok mct0_ok pct0_ok tct0_ok (fn_ok (by kernel_rfl)) fun avs rs hb h => by
  unfold run_l_toSlotS at h
  split at h
  · obtain ⟨hc, rfl⟩ := some_pair h
    exact (fin1 law_l_toSlotS nf_l_toSlotS hc hb :)
  · cases h


noncomputable def l_toInsS_c (l : List Ins) : Bool := pc (CVB sm (.s .ins l))
def l_toInsS (l : List Ins) : List Ins := l
noncomputable def run_l_toInsS : List AV → Option (Bool × List AV)
  | [.one (.s .ins a0)] => some ((l_toInsS_c a0), [.one (.s .ins (l_toInsS a0))])
  | _ => none

noncomputable def E_l_toInsS (N : Nat) (a0 : List Ins) : Option Ans :=
  (bif (bif (few (ln a0)) then (ieq (ln a0) (ln a0)) else false) then (iter (σ := (Int × ((List Ins) × ((List Ins) × Unit)))) N (fun r2 s3 => (bif (ilt s3.1 (ln s3.2.1)) then (bif (inb s3.1 (ln s3.2.1)) then (bif (l_toIns_c (ix s3.2.1 s3.1 (Ty.dflt .ins))) then (bif (inb s3.1 (ln s3.2.2.1)) then (share (up s3.2.2.1 s3.1 (l_toIns (ix s3.2.1 s3.1 (Ty.dflt .ins)))) (fun x4 => (r2 ((wadd .i64 s3.1 1), (s3.2.1, (x4, ())))))) else none) else none) else none) else (some [(.one (.s .ins s3.2.2.1))]))) (0, (a0, ((rp (ln a0) (Ty.dflt .ins)), ())))) else none)

def tms_l_toInsS : FuncId → Nat → Option Tmpl := tmsOf [(47, 0, { n := 23, tm := [(0, .sl 0 []), (3, .sl 1 []), (4, .i .i64)], lo := [], ro := [(0, .ins, false), (1, .ins, true)] })]

theorem nf_l_toInsS (N : Nat) (a0 : List Ins) : evalFn (cQ ctr9 mct0 pct0 tct0) tms_l_toInsS N 12 47 [.one (.s .ins a0)] = E_l_toInsS N a0 := by kernel_rfl

theorem law_l_toInsS (a0 : List Ins) (hb : AllB big [.one (.s .ins a0)]) (hc : (l_toInsS_c a0) = true) : ∃ N, E_l_toInsS N a0 = some [.one (.s .ins (l_toInsS a0))] := by
  have hs := pc_iff.1 hc
  have hl := sm_big hs.len
  refine ⟨a0.length + 1, ?_⟩
  unfold E_l_toInsS
  rw [few_ln hl.2, ieq_self]
  exact to_loop a0 _ l_toIns_c l_toIns (fun l => some [AV.one (.s .ins l)]) hl.1 (fun x hx => ⟨by first | rfl | exact pc_true (hs.inv.2 x hx) | exact pc_true (hs.inv.2 x hx _ (List.mem_singleton.2 rfl)), rfl⟩) (Nat.lt_succ_self _)
theorem holds_l_toInsS : Holds Try.prog 47 run_l_toInsS := holds_fn ctr9_ok mct0_ok pct0_ok tct0_ok (fn_ok (by kernel_rfl)) fun avs rs hb h => by
  unfold run_l_toInsS at h
  split at h
  · obtain ⟨hc, rfl⟩ := some_pair h
    exact (fin1 law_l_toInsS nf_l_toInsS hc hb :)
  · cases h


noncomputable def l_toEntryS_c (l : List Entry) : Bool := pc (CVB sm (.s .entry l))
def l_toEntryS (l : List Entry) : List Entry := l
noncomputable def run_l_toEntryS : List AV → Option (Bool × List AV)
  | [.one (.s .entry a0)] => some ((l_toEntryS_c a0), [.one (.s .entry (l_toEntryS a0))])
  | _ => none

noncomputable def E_l_toEntryS (N : Nat) (a0 : List Entry) : Option Ans :=
  (bif (bif (few (ln a0)) then (ieq (ln a0) (ln a0)) else false) then (iter (σ := (Int × ((List Entry) × ((List Entry) × Unit)))) N (fun r2 s3 => (bif (ilt s3.1 (ln s3.2.1)) then (bif (inb s3.1 (ln s3.2.1)) then (bif (l_toEntry_c (ix s3.2.1 s3.1 (Ty.dflt .entry))) then (bif (inb s3.1 (ln s3.2.2.1)) then (share (up s3.2.2.1 s3.1 (l_toEntry (ix s3.2.1 s3.1 (Ty.dflt .entry)))) (fun x4 => (r2 ((wadd .i64 s3.1 1), (s3.2.1, (x4, ())))))) else none) else none) else none) else (some [(.one (.s .entry s3.2.2.1))]))) (0, (a0, ((rp (ln a0) (Ty.dflt .entry)), ())))) else none)

def tms_l_toEntryS : FuncId → Nat → Option Tmpl := tmsOf [(14, 0, { n := 23, tm := [(0, .sl 0 []), (3, .sl 1 []), (4, .i .i64)], lo := [], ro := [(0, .entry, false), (1, .entry, true)] })]

theorem nf_l_toEntryS (N : Nat) (a0 : List Entry) : evalFn (cQ ctr9 mct0 pct0 tct0) tms_l_toEntryS N 12 14 [.one (.s .entry a0)] = E_l_toEntryS N a0 := by kernel_rfl

theorem law_l_toEntryS (a0 : List Entry) (hb : AllB big [.one (.s .entry a0)]) (hc : (l_toEntryS_c a0) = true) : ∃ N, E_l_toEntryS N a0 = some [.one (.s .entry (l_toEntryS a0))] := by
  have hs := pc_iff.1 hc
  have hl := sm_big hs.len
  refine ⟨a0.length + 1, ?_⟩
  unfold E_l_toEntryS
  rw [few_ln hl.2, ieq_self]
  exact to_loop a0 _ l_toEntry_c l_toEntry (fun l => some [AV.one (.s .entry l)]) hl.1 (fun x hx => ⟨by first | rfl | exact pc_true (hs.inv.2 x hx) | exact pc_true (hs.inv.2 x hx _ (List.mem_singleton.2 rfl)), rfl⟩) (Nat.lt_succ_self _)
theorem holds_l_toEntryS : Holds Try.prog 14 run_l_toEntryS := holds_fn ctr9_ok mct0_ok pct0_ok tct0_ok (fn_ok (by kernel_rfl)) fun avs rs hb h => by
  unfold run_l_toEntryS at h
  split at h
  · obtain ⟨hc, rfl⟩ := some_pair h
    exact (fin1 law_l_toEntryS nf_l_toEntryS hc hb :)
  · cases h


noncomputable def l_toIntSS_c (l : List (List Int)) : Bool := pc (CVB sm (.s (.sl .int) l))
def l_toIntSS (l : List (List Int)) : List (List Int) := l
noncomputable def run_l_toIntSS : List AV → Option (Bool × List AV)
  | [.one (.s (.sl .int) a0)] => some ((l_toIntSS_c a0), [.one (.s (.sl .int) (l_toIntSS a0))])
  | _ => none

noncomputable def E_l_toIntSS (N : Nat) (a0 : List (List Int)) : Option Ans :=
  (bif (bif (few (ln a0)) then (ieq (ln a0) (ln a0)) else false) then (iter (σ := (Int × ((List (List Int)) × ((List (List Int)) × Unit)))) N (fun r2 s3 => (bif (ilt s3.1 (ln s3.2.1)) then (bif (inb s3.1 (ln s3.2.1)) then (bif (l_toIntS_c (ix s3.2.1 s3.1 [])) then (bif (inb s3.1 (ln s3.2.2.1)) then (share (up s3.2.2.1 s3.1 (l_toIntS (ix s3.2.1 s3.1 []))) (fun x4 => (r2 ((wadd .i64 s3.1 1), (s3.2.1, (x4, ())))))) else none) else none) else none) else (some [(.one (.s (.sl .int) s3.2.2.1))]))) (0, (a0, ((rp (ln a0) []), ())))) else none)

def tms_l_toIntSS : FuncId → Nat → Option Tmpl := tmsOf [(12, 0, { n := 23, tm := [(0, .sl 0 []), (3, .sl 1 []), (4, .i .i64)], lo := [], ro := [(0, (.sl .int), false), (1, (.sl .int), true)] })]

theorem nf_l_toIntSS (N : Nat) (a0 : List (List Int)) : evalFn (cQ ctr9 mct0 pct0 tct0) tms_l_toIntSS N 12 12 [.one (.s (.sl .int) a0)] = E_l_toIntSS N a0 := by kernel_rfl

theorem law_l_toIntSS (a0 : List (List Int)) (hb : AllB big [.one (.s (.sl .int) a0)]) (hc : (l_toIntSS_c a0) = true) : ∃ N, E_l_toIntSS N a0 = some [.one (.s (.sl .int) (l_toIntSS a0))] := by
  have hs := pc_iff.1 hc
  have hl := sm_big hs.len
  refine ⟨a0.length + 1, ?_⟩
  unfold E_l_toIntSS
  rw [few_ln hl.2, ieq_self]
  exact to_loop a0 _ l_toIntS_c l_toIntS (fun l => some [AV.one (.s (.sl .int) l)]) hl.1 (fun x hx => ⟨by first | rfl | exact pc_true (hs.inv.2 x hx) | exact pc_true (hs.inv.2 x hx _ (List.mem_singleton.2 rfl)), rfl⟩) (Nat.lt_succ_self _)
theorem holds_l_toIntSS : Holds Try.prog 12 run_l_toIntSS := holds_fn ctr9_ok mct0_ok pct0_ok tct0_ok (fn_ok (by kernel_rfl)) fun avs rs hb h => by
  unfold run_l_toIntSS at h
  split at h
  · obtain ⟨hc, rfl⟩ := some_pair h
    exact (fin1 law_l_toIntSS nf_l_toIntSS hc hb :)
  · cases h


noncomputable def ctr10 : Ctrs := [(30, run_l_toSlotS), (47, run_l_toInsS), (14, run_l_toEntryS), (12, run_l_toIntSS)] ++ ctr9

theorem ctr10_ok : CtrsOk ctr10 := ctr_cons holds_l_toSlotS (ctr_cons holds_l_toInsS (ctr_cons holds_l_toEntryS (ctr_cons holds_l_toIntSS ctr9_ok)))


noncomputable def l_toGuest_c (x : Guest) : Bool := pc (∀ c ∈ Ty.cells .guest x, CVB sm c)
def l_toGuest (x : Guest) : Guest := x
noncomputable def run_l_toGuest : List AV → Option (Bool × List AV)
  | [.agg [.s .ins a0_0, .i .i64 a0_1, .i .i64 a0_2, .s .slot a0_3, .s .slot a0_4, .i .i64 a0_5, .i .i64 a0_6, .b a0_7, .i .i64 a0_8, .i .i64 a0_9, .i .i64 a0_10, .b a0_11, .i .i64 a0_12, .b a0_13, .s .int a0_14]] => some ((l_toGuest_c (⟨a0_0, a0_1, a0_2, a0_3, a0_4, ⟨a0_5, a0_6, a0_7⟩, a0_8, ⟨a0_9, a0_10, a0_11, a0_12⟩, a0_13, a0_14⟩ : Guest)), [.agg (Ty.cells .guest (l_toGuest (⟨a0_0, a0_1, a0_2, a0_3, a0_4, ⟨a0_5, a0_6, a0_7⟩, a0_8, ⟨a0_9, a0_10, a0_11, a0_12⟩, a0_13, a0_14⟩ : Guest)))])
  | _ => none

noncomputable def E_l_toGuest (N : Nat) (a0 : Guest) : Option Ans :=
  (bif (l_toInsS_c a0.Prog) then (bif (l_toSlotS_c a0.Written) then (bif (l_toSlotS_c a0.Live) then (bif (l_toCtl_c a0.Ctl) then (bif (l_toExit_c a0.Exit) then (bif (l_toIntS_c a0.Seen) then (some [(.agg [(.s .ins (l_toInsS a0.Prog)), (.i .i64 a0.A), (.i .i64 a0.Pc), (.s .slot (l_toSlotS a0.Written)), (.s .slot (l_toSlotS a0.Live)), (.i .i64 (l_toCtl a0.Ctl).Traps), (.i .i64 (l_toCtl a0.Ctl).Post), (.b (l_toCtl a0.Ctl).Open), (.i .i64 a0.Pending), (.i .i64 (l_toExit a0.Exit).Kind), (.i .i64 (l_toExit a0.Exit).Page), (.b (l_toExit a0.Exit).Write), (.i .i64 (l_toExit a0.Exit).N), (.b a0.Halted), (.s .int (l_toIntS a0.Seen))])]) else none) else none) else none) else none) else none) else none)

theorem nf_l_toGuest (N : Nat) (a0 : Guest) : evalFn (cQ ctr10 mct0 pct0 tct0) (tmsOf []) N 12 41 [.agg (Ty.cells .guest a0)] = E_l_toGuest N a0 := by kernel_rfl

theorem law_l_toGuest (a0 : Guest) (hb : AllB big [.agg (Ty.cells .guest a0)]) (hc : (l_toGuest_c a0) = true) : ∃ N, E_l_toGuest N a0 = some [.agg (Ty.cells .guest (l_toGuest a0))] := by
  have h := pc_iff.1 hc
  have h0 : l_toInsS_c a0.Prog = true := pc_true (h (.s .ins a0.Prog) (by simp [Ty.cells]))
  have h1 : l_toSlotS_c a0.Written = true := pc_true (h (.s .slot a0.Written) (by simp [Ty.cells]))
  have h2 : l_toSlotS_c a0.Live = true := pc_true (h (.s .slot a0.Live) (by simp [Ty.cells]))
  have h5 : l_toIntS_c a0.Seen = true := pc_true (h (.s .int a0.Seen) (by simp [Ty.cells]))
  refine ⟨0, ?_⟩
  simp only [E_l_toGuest, h0, h1, h2, l_toCtl_c, l_toExit_c, h5, cT]
  rfl
theorem holds_l_toGuest : Holds Try.prog 41 run_l_toGuest := holds_fn ctr10_ok mct0_ok pct0_ok tct0_ok (fn_ok (by kernel_rfl)) fun avs rs hb h => by
  unfold run_l_toGuest at h
  split at h
  · obtain ⟨hc, rfl⟩ := some_pair h
    exact (fin1 law_l_toGuest nf_l_toGuest hc hb :)
  · cases h


noncomputable def l_toKept_c (x : Kept) : Bool := pc (∀ c ∈ Ty.cells .kept x, CVB sm c)
def l_toKept (x : Kept) : Kept := x
noncomputable def run_l_toKept : List AV → Option (Bool × List AV)
  | [.agg [.s .bool a0_0, .s .slot a0_1]] => some ((l_toKept_c (⟨a0_0, a0_1⟩ : Kept)), [.agg (Ty.cells .kept (l_toKept (⟨a0_0, a0_1⟩ : Kept)))])
  | _ => none

noncomputable def E_l_toKept (N : Nat) (a0 : Kept) : Option Ans :=
  (bif (l_toBoolS_c a0.Known) then (bif (l_toSlotS_c a0.Slots) then (some [(.agg [(.s .bool (l_toBoolS a0.Known)), (.s .slot (l_toSlotS a0.Slots))])]) else none) else none)

theorem nf_l_toKept (N : Nat) (a0 : Kept) : evalFn (cQ ctr10 mct0 pct0 tct0) (tmsOf []) N 12 42 [.agg (Ty.cells .kept a0)] = E_l_toKept N a0 := by kernel_rfl

theorem law_l_toKept (a0 : Kept) (hb : AllB big [.agg (Ty.cells .kept a0)]) (hc : (l_toKept_c a0) = true) : ∃ N, E_l_toKept N a0 = some [.agg (Ty.cells .kept (l_toKept a0))] := by
  have h := pc_iff.1 hc
  have h0 : l_toBoolS_c a0.Known = true := pc_true (h (.s .bool a0.Known) (by simp [Ty.cells]))
  have h1 : l_toSlotS_c a0.Slots = true := pc_true (h (.s .slot a0.Slots) (by simp [Ty.cells]))
  refine ⟨0, ?_⟩
  simp only [E_l_toKept, h0, h1, cT]
  rfl
theorem holds_l_toKept : Holds Try.prog 42 run_l_toKept := holds_fn ctr10_ok mct0_ok pct0_ok tct0_ok (fn_ok (by kernel_rfl)) fun avs rs hb h => by
  unfold run_l_toKept at h
  split at h
  · obtain ⟨hc, rfl⟩ := some_pair h
    exact (fin1 law_l_toKept nf_l_toKept hc hb :)
  · cases h


noncomputable def ctr11 : Ctrs := [(41, run_l_toGuest), (42, run_l_toKept)] ++ ctr10

theorem ctr11_ok : CtrsOk ctr11 := ctr_cons holds_l_toGuest (ctr_cons holds_l_toKept ctr10_ok)


noncomputable def l_toGuestS_c (l : List Guest) : Bool := pc (CVB sm (.s .guest l))
def l_toGuestS (l : List Guest) : List Guest := l
noncomputable def run_l_toGuestS : List AV → Option (Bool × List AV)
  | [.one (.s .guest a0)] => some ((l_toGuestS_c a0), [.one (.s .guest (l_toGuestS a0))])
  | _ => none

noncomputable def E_l_toGuestS (N : Nat) (a0 : List Guest) : Option Ans :=
  (bif (bif (few (ln a0)) then (ieq (ln a0) (ln a0)) else false) then (iter (σ := (Int × ((List Guest) × ((List Guest) × Unit)))) N (fun r2 s3 => (bif (ilt s3.1 (ln s3.2.1)) then (bif (inb s3.1 (ln s3.2.1)) then (bif (l_toGuest_c (ix s3.2.1 s3.1 (Ty.dflt .guest))) then (bif (inb s3.1 (ln s3.2.2.1)) then (share (up s3.2.2.1 s3.1 (l_toGuest (ix s3.2.1 s3.1 (Ty.dflt .guest)))) (fun x4 => (r2 ((wadd .i64 s3.1 1), (s3.2.1, (x4, ())))))) else none) else none) else none) else (some [(.one (.s .guest s3.2.2.1))]))) (0, (a0, ((rp (ln a0) (Ty.dflt .guest)), ())))) else none)

def tms_l_toGuestS : FuncId → Nat → Option Tmpl := tmsOf [(32, 0, { n := 23, tm := [(0, .sl 0 []), (3, .sl 1 []), (4, .i .i64)], lo := [], ro := [(0, .guest, false), (1, .guest, true)] })]

theorem nf_l_toGuestS (N : Nat) (a0 : List Guest) : evalFn (cQ ctr11 mct0 pct0 tct0) tms_l_toGuestS N 12 32 [.one (.s .guest a0)] = E_l_toGuestS N a0 := by kernel_rfl

theorem law_l_toGuestS (a0 : List Guest) (hb : AllB big [.one (.s .guest a0)]) (hc : (l_toGuestS_c a0) = true) : ∃ N, E_l_toGuestS N a0 = some [.one (.s .guest (l_toGuestS a0))] := by
  have hs := pc_iff.1 hc
  have hl := sm_big hs.len
  refine ⟨a0.length + 1, ?_⟩
  unfold E_l_toGuestS
  rw [few_ln hl.2, ieq_self]
  exact to_loop a0 _ l_toGuest_c l_toGuest (fun l => some [AV.one (.s .guest l)]) hl.1 (fun x hx => ⟨by first | rfl | exact pc_true (hs.inv.2 x hx) | exact pc_true (hs.inv.2 x hx _ (List.mem_singleton.2 rfl)), rfl⟩) (Nat.lt_succ_self _)
theorem holds_l_toGuestS : Holds Try.prog 32 run_l_toGuestS := holds_fn ctr11_ok mct0_ok pct0_ok tct0_ok (fn_ok (by kernel_rfl)) fun avs rs hb h => by
  unfold run_l_toGuestS at h
  split at h
  · obtain ⟨hc, rfl⟩ := some_pair h
    exact (fin1 law_l_toGuestS nf_l_toGuestS hc hb :)
  · cases h


noncomputable def l_toKeptS_c (l : List Kept) : Bool := pc (CVB sm (.s .kept l))
def l_toKeptS (l : List Kept) : List Kept := l
noncomputable def run_l_toKeptS : List AV → Option (Bool × List AV)
  | [.one (.s .kept a0)] => some ((l_toKeptS_c a0), [.one (.s .kept (l_toKeptS a0))])
  | _ => none

noncomputable def E_l_toKeptS (N : Nat) (a0 : List Kept) : Option Ans :=
  (bif (bif (few (ln a0)) then (ieq (ln a0) (ln a0)) else false) then (iter (σ := (Int × ((List Kept) × ((List Kept) × Unit)))) N (fun r2 s3 => (bif (ilt s3.1 (ln s3.2.1)) then (bif (inb s3.1 (ln s3.2.1)) then (bif (l_toKept_c (ix s3.2.1 s3.1 (Ty.dflt .kept))) then (bif (inb s3.1 (ln s3.2.2.1)) then (share (up s3.2.2.1 s3.1 (l_toKept (ix s3.2.1 s3.1 (Ty.dflt .kept)))) (fun x4 => (r2 ((wadd .i64 s3.1 1), (s3.2.1, (x4, ())))))) else none) else none) else none) else (some [(.one (.s .kept s3.2.2.1))]))) (0, (a0, ((rp (ln a0) (Ty.dflt .kept)), ())))) else none)

def tms_l_toKeptS : FuncId → Nat → Option Tmpl := tmsOf [(33, 0, { n := 23, tm := [(0, .sl 0 []), (3, .sl 1 []), (4, .i .i64)], lo := [], ro := [(0, .kept, false), (1, .kept, true)] })]

theorem nf_l_toKeptS (N : Nat) (a0 : List Kept) : evalFn (cQ ctr11 mct0 pct0 tct0) tms_l_toKeptS N 12 33 [.one (.s .kept a0)] = E_l_toKeptS N a0 := by kernel_rfl

theorem law_l_toKeptS (a0 : List Kept) (hb : AllB big [.one (.s .kept a0)]) (hc : (l_toKeptS_c a0) = true) : ∃ N, E_l_toKeptS N a0 = some [.one (.s .kept (l_toKeptS a0))] := by
  have hs := pc_iff.1 hc
  have hl := sm_big hs.len
  refine ⟨a0.length + 1, ?_⟩
  unfold E_l_toKeptS
  rw [few_ln hl.2, ieq_self]
  exact to_loop a0 _ l_toKept_c l_toKept (fun l => some [AV.one (.s .kept l)]) hl.1 (fun x hx => ⟨by first | rfl | exact pc_true (hs.inv.2 x hx) | exact pc_true (hs.inv.2 x hx _ (List.mem_singleton.2 rfl)), rfl⟩) (Nat.lt_succ_self _)
theorem holds_l_toKeptS : Holds Try.prog 33 run_l_toKeptS := holds_fn ctr11_ok mct0_ok pct0_ok tct0_ok (fn_ok (by kernel_rfl)) fun avs rs hb h => by
  unfold run_l_toKeptS at h
  split at h
  · obtain ⟨hc, rfl⟩ := some_pair h
    exact (fin1 law_l_toKeptS nf_l_toKeptS hc hb :)
  · cases h


noncomputable def ctr12 : Ctrs := [(32, run_l_toGuestS), (33, run_l_toKeptS)] ++ ctr11

theorem ctr12_ok : CtrsOk ctr12 := ctr_cons holds_l_toGuestS (ctr_cons holds_l_toKeptS ctr11_ok)


noncomputable def l_toMon_c (x : Mon) : Bool := pc (∀ c ∈ Ty.cells .mon x, CVB sm c)
def l_toMon (x : Mon) : Mon := x
noncomputable def run_l_toMon : List AV → Option (Bool × List AV)
  | [.agg [.s .slot a0_0, .s (.sl .int) a0_1, .s .bool a0_2, .s .guest a0_3, .s .int a0_4, .i .i64 a0_5, .i .i64 a0_6, .s .kept a0_7, .i .i64 a0_8]] => some ((l_toMon_c (⟨a0_0, a0_1, a0_2, a0_3, a0_4, a0_5, a0_6, a0_7, a0_8⟩ : Mon)), [.agg (Ty.cells .mon (l_toMon (⟨a0_0, a0_1, a0_2, a0_3, a0_4, a0_5, a0_6, a0_7, a0_8⟩ : Mon)))])
  | _ => none

noncomputable def E_l_toMon (N : Nat) (a0 : Mon) : Option Ans :=
  (bif (l_toSlotS_c a0.Outer) then (bif (l_toIntSS_c a0.Out) then (bif (l_toBoolS_c a0.Dirty) then (bif (l_toGuestS_c a0.Guests) then (bif (l_toIntS_c a0.Outs) then (bif (l_toKeptS_c a0.Tables) then (some [(.agg [(.s .slot (l_toSlotS a0.Outer)), (.s (.sl .int) (l_toIntSS a0.Out)), (.s .bool (l_toBoolS a0.Dirty)), (.s .guest (l_toGuestS a0.Guests)), (.s .int (l_toIntS a0.Outs)), (.i .i64 a0.Pending), (.i .i64 a0.Traps), (.s .kept (l_toKeptS a0.Tables)), (.i .i64 a0.Own)])]) else none) else none) else none) else none) else none) else none)

theorem nf_l_toMon (N : Nat) (a0 : Mon) : evalFn (cQ ctr12 mct0 pct0 tct0) (tmsOf []) N 12 21 [.agg (Ty.cells .mon a0)] = E_l_toMon N a0 := by kernel_rfl

theorem law_l_toMon (a0 : Mon) (hb : AllB big [.agg (Ty.cells .mon a0)]) (hc : (l_toMon_c a0) = true) : ∃ N, E_l_toMon N a0 = some [.agg (Ty.cells .mon (l_toMon a0))] := by
  have h := pc_iff.1 hc
  have h0 : l_toSlotS_c a0.Outer = true := pc_true (h (.s .slot a0.Outer) (by simp [Ty.cells]))
  have h1 : l_toIntSS_c a0.Out = true := pc_true (h (.s (.sl .int) a0.Out) (by simp [Ty.cells]))
  have h2 : l_toBoolS_c a0.Dirty = true := pc_true (h (.s .bool a0.Dirty) (by simp [Ty.cells]))
  have h3 : l_toGuestS_c a0.Guests = true := pc_true (h (.s .guest a0.Guests) (by simp [Ty.cells]))
  have h4 : l_toIntS_c a0.Outs = true := pc_true (h (.s .int a0.Outs) (by simp [Ty.cells]))
  have h5 : l_toKeptS_c a0.Tables = true := pc_true (h (.s .kept a0.Tables) (by simp [Ty.cells]))
  refine ⟨0, ?_⟩
  simp only [E_l_toMon, h0, h1, h2, h3, h4, h5, cT]
  rfl
theorem holds_l_toMon : Holds Try.prog 21 run_l_toMon := holds_fn ctr12_ok mct0_ok pct0_ok tct0_ok (fn_ok (by kernel_rfl)) fun avs rs hb h => by
  unfold run_l_toMon at h
  split at h
  · obtain ⟨hc, rfl⟩ := some_pair h
    exact (fin1 law_l_toMon nf_l_toMon hc hb :)
  · cases h


noncomputable def ctr13 : Ctrs := [(21, run_l_toMon)] ++ ctr12

theorem ctr13_ok : CtrsOk ctr13 := ctr_cons holds_l_toMon ctr12_ok


noncomputable def l_toMonS_c (l : List Mon) : Bool := pc (CVB sm (.s .mon l))
def l_toMonS (l : List Mon) : List Mon := l
noncomputable def run_l_toMonS : List AV → Option (Bool × List AV)
  | [.one (.s .mon a0)] => some ((l_toMonS_c a0), [.one (.s .mon (l_toMonS a0))])
  | _ => none

noncomputable def E_l_toMonS (N : Nat) (a0 : List Mon) : Option Ans :=
  (bif (bif (few (ln a0)) then (ieq (ln a0) (ln a0)) else false) then (iter (σ := (Int × ((List Mon) × ((List Mon) × Unit)))) N (fun r2 s3 => (bif (ilt s3.1 (ln s3.2.1)) then (bif (inb s3.1 (ln s3.2.1)) then (bif (l_toMon_c (ix s3.2.1 s3.1 (Ty.dflt .mon))) then (bif (inb s3.1 (ln s3.2.2.1)) then (share (up s3.2.2.1 s3.1 (l_toMon (ix s3.2.1 s3.1 (Ty.dflt .mon)))) (fun x4 => (r2 ((wadd .i64 s3.1 1), (s3.2.1, (x4, ())))))) else none) else none) else none) else (some [(.one (.s .mon s3.2.2.1))]))) (0, (a0, ((rp (ln a0) (Ty.dflt .mon)), ())))) else none)

def tms_l_toMonS : FuncId → Nat → Option Tmpl := tmsOf [(13, 0, { n := 23, tm := [(0, .sl 0 []), (3, .sl 1 []), (4, .i .i64)], lo := [], ro := [(0, .mon, false), (1, .mon, true)] })]

theorem nf_l_toMonS (N : Nat) (a0 : List Mon) : evalFn (cQ ctr13 mct0 pct0 tct0) tms_l_toMonS N 12 13 [.one (.s .mon a0)] = E_l_toMonS N a0 := by kernel_rfl

theorem law_l_toMonS (a0 : List Mon) (hb : AllB big [.one (.s .mon a0)]) (hc : (l_toMonS_c a0) = true) : ∃ N, E_l_toMonS N a0 = some [.one (.s .mon (l_toMonS a0))] := by
  have hs := pc_iff.1 hc
  have hl := sm_big hs.len
  refine ⟨a0.length + 1, ?_⟩
  unfold E_l_toMonS
  rw [few_ln hl.2, ieq_self]
  exact to_loop a0 _ l_toMon_c l_toMon (fun l => some [AV.one (.s .mon l)]) hl.1 (fun x hx => ⟨by first | rfl | exact pc_true (hs.inv.2 x hx) | exact pc_true (hs.inv.2 x hx _ (List.mem_singleton.2 rfl)), rfl⟩) (Nat.lt_succ_self _)
theorem holds_l_toMonS : Holds Try.prog 13 run_l_toMonS := holds_fn ctr13_ok mct0_ok pct0_ok tct0_ok (fn_ok (by kernel_rfl)) fun avs rs hb h => by
  unfold run_l_toMonS at h
  split at h
  · obtain ⟨hc, rfl⟩ := some_pair h
    exact (fin1 law_l_toMonS nf_l_toMonS hc hb :)
  · cases h


noncomputable def ctr14 : Ctrs := [(13, run_l_toMonS)] ++ ctr13

theorem ctr14_ok : CtrsOk ctr14 := ctr_cons holds_l_toMonS ctr13_ok


noncomputable def l_toHost_c (x : Host) : Bool := pc (∀ c ∈ hostC x, CVB sm c)
def l_toHost (x : Host) : Host := x
noncomputable def run_l_toHost : List AV → Option (Bool × List AV)
  | [.agg [.s (.sl .int) a0_0, .s .mon a0_1, .s .entry a0_2, .s .entry a0_3]] => some ((l_toHost_c (⟨a0_0, a0_1, a0_2, a0_3⟩ : Host)), [.agg (hostC (l_toHost (⟨a0_0, a0_1, a0_2, a0_3⟩ : Host)))])
  | _ => none

noncomputable def E_l_toHost (N : Nat) (a0 : Host) : Option Ans :=
  (bif (l_toIntSS_c a0.Memory) then (bif (l_toMonS_c a0.Mons) then (bif (l_toEntryS_c a0.Buffer) then (bif (l_toEntryS_c a0.IoBuffer) then (some [(.agg [(.s (.sl .int) (l_toIntSS a0.Memory)), (.s .mon (l_toMonS a0.Mons)), (.s .entry (l_toEntryS a0.Buffer)), (.s .entry (l_toEntryS a0.IoBuffer))])]) else none) else none) else none) else none)

theorem nf_l_toHost (N : Nat) (a0 : Host) : evalFn (cQ ctr14 mct0 pct0 tct0) (tmsOf []) N 12 6 [.agg (hostC a0)] = E_l_toHost N a0 := by kernel_rfl

theorem law_l_toHost (a0 : Host) (hb : AllB big [.agg (hostC a0)]) (hc : (l_toHost_c a0) = true) : ∃ N, E_l_toHost N a0 = some [.agg (hostC (l_toHost a0))] := by
  have h := pc_iff.1 hc
  have h0 : l_toIntSS_c a0.Memory = true := pc_true (h (.s (.sl .int) a0.Memory) (by simp [hostC]))
  have h1 : l_toMonS_c a0.Mons = true := pc_true (h (.s .mon a0.Mons) (by simp [hostC]))
  have h2 : l_toEntryS_c a0.Buffer = true := pc_true (h (.s .entry a0.Buffer) (by simp [hostC]))
  have h3 : l_toEntryS_c a0.IoBuffer = true := pc_true (h (.s .entry a0.IoBuffer) (by simp [hostC]))
  refine ⟨0, ?_⟩
  simp only [E_l_toHost, h0, h1, h2, h3, cT]
  rfl
theorem holds_l_toHost : Holds Try.prog 6 run_l_toHost := holds_fn ctr14_ok mct0_ok pct0_ok tct0_ok (fn_ok (by kernel_rfl)) fun avs rs hb h => by
  unfold run_l_toHost at h
  split at h
  · obtain ⟨hc, rfl⟩ := some_pair h
    exact (fin1 law_l_toHost nf_l_toHost hc hb :)
  · cases h


noncomputable def ctr15 : Ctrs := [(6, run_l_toHost)] ++ ctr14

theorem ctr15_ok : CtrsOk ctr15 := ctr_cons holds_l_toHost ctr14_ok


/-! Comparisons: of a thing with itself. -/

noncomputable def l_eqSlot_c (x y : Slot) : Bool := pc (x = y)
def l_eqSlot (_ _ : Slot) : Bool := true
noncomputable def run_l_eqSlot : List AV → Option (Bool × List AV)
  | [.agg [.i .i64 a0_0, .i .i64 a0_1], .agg [.i .i64 a1_0, .i .i64 a1_1]] => some ((l_eqSlot_c (⟨a0_0, a0_1⟩ : Slot) (⟨a1_0, a1_1⟩ : Slot)), [.one (.b (l_eqSlot (⟨a0_0, a0_1⟩ : Slot) (⟨a1_0, a1_1⟩ : Slot)))])
  | _ => none

noncomputable def E_l_eqSlot (N : Nat) (a0 : Slot) (a1 : Slot) : Option Ans :=
  (bif (ine a0.Page a1.Page) then (some [(.one (.b false))]) else (bif (ine a0.Rights a1.Rights) then (some [(.one (.b false))]) else (some [(.one (.b true))])))

theorem nf_l_eqSlot (N : Nat) (a0 : Slot) (a1 : Slot) : evalFn (cQ ctr15 mct0 pct0 tct0) (tmsOf []) N 12 43 [.agg (Ty.cells .slot a0), .agg (Ty.cells .slot a1)] = E_l_eqSlot N a0 a1 := by kernel_rfl

theorem law_l_eqSlot (a0 : Slot) (a1 : Slot) (hb : AllB big [.agg (Ty.cells .slot a0), .agg (Ty.cells .slot a1)]) (hc : (l_eqSlot_c a0 a1) = true) : ∃ N, E_l_eqSlot N a0 a1 = some [.one (.b (l_eqSlot a0 a1))] := by
  have := pc_iff.1 hc
  subst this
  refine ⟨0, ?_⟩
  simp only [E_l_eqSlot,  pc_T, ine_self, beqb_self, cT, cF, Bool.not_true, l_eqSlot]
theorem holds_l_eqSlot : Holds Try.prog 43 run_l_eqSlot := holds_fn ctr15_ok mct0_ok pct0_ok tct0_ok (fn_ok (by kernel_rfl)) fun avs rs hb h => by
  unfold run_l_eqSlot at h
  split at h
  · obtain ⟨hc, rfl⟩ := some_pair h
    exact (fin2 law_l_eqSlot nf_l_eqSlot hc hb :)
  · cases h


noncomputable def l_eqIns_c (x y : Ins) : Bool := pc (x = y)
def l_eqIns (_ _ : Ins) : Bool := true
noncomputable def run_l_eqIns : List AV → Option (Bool × List AV)
  | [.agg [.i .i64 a0_0, .i .i64 a0_1], .agg [.i .i64 a1_0, .i .i64 a1_1]] => some ((l_eqIns_c (⟨a0_0, a0_1⟩ : Ins) (⟨a1_0, a1_1⟩ : Ins)), [.one (.b (l_eqIns (⟨a0_0, a0_1⟩ : Ins) (⟨a1_0, a1_1⟩ : Ins)))])
  | _ => none

noncomputable def E_l_eqIns (N : Nat) (a0 : Ins) (a1 : Ins) : Option Ans :=
  (bif (ine a0.Op a1.Op) then (some [(.one (.b false))]) else (bif (ine a0.X a1.X) then (some [(.one (.b false))]) else (some [(.one (.b true))])))

theorem nf_l_eqIns (N : Nat) (a0 : Ins) (a1 : Ins) : evalFn (cQ ctr15 mct0 pct0 tct0) (tmsOf []) N 12 54 [.agg (Ty.cells .ins a0), .agg (Ty.cells .ins a1)] = E_l_eqIns N a0 a1 := by kernel_rfl

theorem law_l_eqIns (a0 : Ins) (a1 : Ins) (hb : AllB big [.agg (Ty.cells .ins a0), .agg (Ty.cells .ins a1)]) (hc : (l_eqIns_c a0 a1) = true) : ∃ N, E_l_eqIns N a0 a1 = some [.one (.b (l_eqIns a0 a1))] := by
  have := pc_iff.1 hc
  subst this
  refine ⟨0, ?_⟩
  simp only [E_l_eqIns,  pc_T, ine_self, beqb_self, cT, cF, Bool.not_true, l_eqIns]
theorem holds_l_eqIns : Holds Try.prog 54 run_l_eqIns := holds_fn ctr15_ok mct0_ok pct0_ok tct0_ok (fn_ok (by kernel_rfl)) fun avs rs hb h => by
  unfold run_l_eqIns at h
  split at h
  · obtain ⟨hc, rfl⟩ := some_pair h
    exact (fin2 law_l_eqIns nf_l_eqIns hc hb :)
  · cases h


noncomputable def l_eqCtl_c (x y : Ctl) : Bool := pc (x = y)
def l_eqCtl (_ _ : Ctl) : Bool := true
noncomputable def run_l_eqCtl : List AV → Option (Bool × List AV)
  | [.agg [.i .i64 a0_0, .i .i64 a0_1, .b a0_2], .agg [.i .i64 a1_0, .i .i64 a1_1, .b a1_2]] => some ((l_eqCtl_c (⟨a0_0, a0_1, a0_2⟩ : Ctl) (⟨a1_0, a1_1, a1_2⟩ : Ctl)), [.one (.b (l_eqCtl (⟨a0_0, a0_1, a0_2⟩ : Ctl) (⟨a1_0, a1_1, a1_2⟩ : Ctl)))])
  | _ => none

noncomputable def E_l_eqCtl (N : Nat) (a0 : Ctl) (a1 : Ctl) : Option Ans :=
  (bif (ine a0.Traps a1.Traps) then (some [(.one (.b false))]) else (bif (ine a0.Post a1.Post) then (some [(.one (.b false))]) else (bif (bif (beqb a0.Open a1.Open) then false else true) then (some [(.one (.b false))]) else (some [(.one (.b true))]))))

theorem nf_l_eqCtl (N : Nat) (a0 : Ctl) (a1 : Ctl) : evalFn (cQ ctr15 mct0 pct0 tct0) (tmsOf []) N 12 51 [.agg (ctlC a0), .agg (ctlC a1)] = E_l_eqCtl N a0 a1 := by kernel_rfl

theorem law_l_eqCtl (a0 : Ctl) (a1 : Ctl) (hb : AllB big [.agg (ctlC a0), .agg (ctlC a1)]) (hc : (l_eqCtl_c a0 a1) = true) : ∃ N, E_l_eqCtl N a0 a1 = some [.one (.b (l_eqCtl a0 a1))] := by
  have := pc_iff.1 hc
  subst this
  refine ⟨0, ?_⟩
  simp only [E_l_eqCtl,  pc_T, ine_self, beqb_self, cT, cF, Bool.not_true, l_eqCtl]
theorem holds_l_eqCtl : Holds Try.prog 51 run_l_eqCtl := holds_fn ctr15_ok mct0_ok pct0_ok tct0_ok (fn_ok (by kernel_rfl)) fun avs rs hb h => by
  unfold run_l_eqCtl at h
  split at h
  · obtain ⟨hc, rfl⟩ := some_pair h
    exact (fin2 law_l_eqCtl nf_l_eqCtl hc hb :)
  · cases h


noncomputable def l_eqExit_c (x y : GExit) : Bool := pc (x = y)
def l_eqExit (_ _ : GExit) : Bool := true
noncomputable def run_l_eqExit : List AV → Option (Bool × List AV)
  | [.agg [.i .i64 a0_0, .i .i64 a0_1, .b a0_2, .i .i64 a0_3], .agg [.i .i64 a1_0, .i .i64 a1_1, .b a1_2, .i .i64 a1_3]] => some ((l_eqExit_c (⟨a0_0, a0_1, a0_2, a0_3⟩ : GExit) (⟨a1_0, a1_1, a1_2, a1_3⟩ : GExit)), [.one (.b (l_eqExit (⟨a0_0, a0_1, a0_2, a0_3⟩ : GExit) (⟨a1_0, a1_1, a1_2, a1_3⟩ : GExit)))])
  | _ => none

noncomputable def E_l_eqExit (N : Nat) (a0 : GExit) (a1 : GExit) : Option Ans :=
  (bif (ine a0.Kind a1.Kind) then (some [(.one (.b false))]) else (bif (ine a0.Page a1.Page) then (some [(.one (.b false))]) else (bif (bif (beqb a0.Write a1.Write) then false else true) then (some [(.one (.b false))]) else (bif (ine a0.N a1.N) then (some [(.one (.b false))]) else (some [(.one (.b true))])))))

theorem nf_l_eqExit (N : Nat) (a0 : GExit) (a1 : GExit) : evalFn (cQ ctr15 mct0 pct0 tct0) (tmsOf []) N 12 52 [.agg (exitC a0), .agg (exitC a1)] = E_l_eqExit N a0 a1 := by kernel_rfl

theorem law_l_eqExit (a0 : GExit) (a1 : GExit) (hb : AllB big [.agg (exitC a0), .agg (exitC a1)]) (hc : (l_eqExit_c a0 a1) = true) : ∃ N, E_l_eqExit N a0 a1 = some [.one (.b (l_eqExit a0 a1))] := by
  have := pc_iff.1 hc
  subst this
  refine ⟨0, ?_⟩
  simp only [E_l_eqExit,  pc_T, ine_self, beqb_self, cT, cF, Bool.not_true, l_eqExit]
theorem holds_l_eqExit : Holds Try.prog 52 run_l_eqExit := holds_fn ctr15_ok mct0_ok pct0_ok tct0_ok (fn_ok (by kernel_rfl)) fun avs rs hb h => by
  unfold run_l_eqExit at h
  split at h
  · obtain ⟨hc, rfl⟩ := some_pair h
    exact (fin2 law_l_eqExit nf_l_eqExit hc hb :)
  · cases h


noncomputable def l_eqEntry_c (x y : Entry) : Bool := pc (x = y)
def l_eqEntry (_ _ : Entry) : Bool := true
noncomputable def run_l_eqEntry : List AV → Option (Bool × List AV)
  | [.agg [.i .i64 a0_0, .i .i64 a0_1, .i .i64 a0_2, .i .i64 a0_3], .agg [.i .i64 a1_0, .i .i64 a1_1, .i .i64 a1_2, .i .i64 a1_3]] => some ((l_eqEntry_c (⟨a0_0, a0_1, a0_2, a0_3⟩ : Entry) (⟨a1_0, a1_1, a1_2, a1_3⟩ : Entry)), [.one (.b (l_eqEntry (⟨a0_0, a0_1, a0_2, a0_3⟩ : Entry) (⟨a1_0, a1_1, a1_2, a1_3⟩ : Entry)))])
  | _ => none

noncomputable def E_l_eqEntry (N : Nat) (a0 : Entry) (a1 : Entry) : Option Ans :=
  (bif (ine a0.Tag a1.Tag) then (some [(.one (.b false))]) else (bif (ine a0.Page a1.Page) then (some [(.one (.b false))]) else (bif (ine a0.Host a1.Host) then (some [(.one (.b false))]) else (bif (ine a0.Rights a1.Rights) then (some [(.one (.b false))]) else (some [(.one (.b true))])))))

theorem nf_l_eqEntry (N : Nat) (a0 : Entry) (a1 : Entry) : evalFn (cQ ctr15 mct0 pct0 tct0) (tmsOf []) N 12 25 [.agg (Ty.cells .entry a0), .agg (Ty.cells .entry a1)] = E_l_eqEntry N a0 a1 := by kernel_rfl

theorem law_l_eqEntry (a0 : Entry) (a1 : Entry) (hb : AllB big [.agg (Ty.cells .entry a0), .agg (Ty.cells .entry a1)]) (hc : (l_eqEntry_c a0 a1) = true) : ∃ N, E_l_eqEntry N a0 a1 = some [.one (.b (l_eqEntry a0 a1))] := by
  have := pc_iff.1 hc
  subst this
  refine ⟨0, ?_⟩
  simp only [E_l_eqEntry,  pc_T, ine_self, beqb_self, cT, cF, Bool.not_true, l_eqEntry]
theorem holds_l_eqEntry : Holds Try.prog 25 run_l_eqEntry := holds_fn ctr15_ok mct0_ok pct0_ok tct0_ok (fn_ok (by kernel_rfl)) fun avs rs hb h => by
  unfold run_l_eqEntry at h
  split at h
  · obtain ⟨hc, rfl⟩ := some_pair h
    exact (fin2 law_l_eqEntry nf_l_eqEntry hc hb :)
  · cases h


noncomputable def l_eqIntS_c (x y : List Int) : Bool := pc (x = y)
def l_eqIntS (_ _ : List Int) : Bool := true
noncomputable def run_l_eqIntS : List AV → Option (Bool × List AV)
  | [.one (.s .int a0), .one (.s .int a1)] => some ((l_eqIntS_c a0 a1), [.one (.b (l_eqIntS a0 a1))])
  | _ => none

noncomputable def E_l_eqIntS (N : Nat) (a0 : List Int) (a1 : List Int) : Option Ans :=
  (bif (ine (ln a0) (ln a1)) then (some [(.one (.b false))]) else (iter (σ := (Int × ((List Int) × ((List Int) × Unit)))) N (fun r3 s4 => (bif (ilt s4.1 (ln s4.2.1)) then (bif (inb s4.1 (ln s4.2.1)) then (bif (inb s4.1 (ln s4.2.2.1)) then (bif (ine (ix s4.2.1 s4.1 0) (ix s4.2.2.1 s4.1 0)) then (some [(.one (.b false))]) else (r3 ((wadd .i64 s4.1 1), (s4.2.1, (s4.2.2.1, ()))))) else none) else none) else (some [(.one (.b true))]))) (0, (a0, (a1, ())))))

def tms_l_eqIntS : FuncId → Nat → Option Tmpl := tmsOf [(23, 0, { n := 26, tm := [(0, .sl 0 []), (1, .sl 1 []), (5, .i .i64)], lo := [], ro := [(0, .int, false), (1, .int, false)] })]

theorem nf_l_eqIntS (N : Nat) (a0 : List Int) (a1 : List Int) : evalFn (cQ ctr15 mct0 pct0 tct0) tms_l_eqIntS N 12 23 [.one (.s .int a0), .one (.s .int a1)] = E_l_eqIntS N a0 a1 := by kernel_rfl

theorem law_l_eqIntS (a0 : List Int) (a1 : List Int) (hb : AllB big [.one (.s .int a0), .one (.s .int a1)]) (hc : (l_eqIntS_c a0 a1) = true) : ∃ N, E_l_eqIntS N a0 a1 = some [.one (.b (l_eqIntS a0 a1))] := by
  have := pc_iff.1 hc
  subst this
  have hl := ((allB_cons hb).1 _ (List.mem_singleton.2 rfl)).len
  refine ⟨a0.length + 1, ?_⟩
  unfold E_l_eqIntS
  rw [ine_self]
  refine eq_loop a0 (Ty.dflt .int) _ _ hl (fun i hi rec => ?_) (fun rec => ?_) (Nat.lt_succ_self _)
  · simp only [ilt_ln hi, inb_ln hi, ix_ln hi, pc_T, ine_self, beqb_self, cT, cF, Bool.not_true]
  · simp only [ilt_end, cF, l_eqIntS]
theorem holds_l_eqIntS : Holds Try.prog 23 run_l_eqIntS := holds_fn ctr15_ok mct0_ok pct0_ok tct0_ok (fn_ok (by kernel_rfl)) fun avs rs hb h => by
  unfold run_l_eqIntS at h
  split at h
  · obtain ⟨hc, rfl⟩ := some_pair h
    exact (fin2 law_l_eqIntS nf_l_eqIntS hc hb :)
  · cases h


noncomputable def l_eqBoolS_c (x y : List Bool) : Bool := pc (x = y)
def l_eqBoolS (_ _ : List Bool) : Bool := true
noncomputable def run_l_eqBoolS : List AV → Option (Bool × List AV)
  | [.one (.s .bool a0), .one (.s .bool a1)] => some ((l_eqBoolS_c a0 a1), [.one (.b (l_eqBoolS a0 a1))])
  | _ => none

noncomputable def E_l_eqBoolS (N : Nat) (a0 : List Bool) (a1 : List Bool) : Option Ans :=
  (bif (ine (ln a0) (ln a1)) then (some [(.one (.b false))]) else (iter (σ := (Int × ((List Bool) × ((List Bool) × Unit)))) N (fun r3 s4 => (bif (ilt s4.1 (ln s4.2.1)) then (bif (inb s4.1 (ln s4.2.1)) then (bif (inb s4.1 (ln s4.2.2.1)) then (bif (bif (beqb (ix s4.2.1 s4.1 false) (ix s4.2.2.1 s4.1 false)) then false else true) then (some [(.one (.b false))]) else (r3 ((wadd .i64 s4.1 1), (s4.2.1, (s4.2.2.1, ()))))) else none) else none) else (some [(.one (.b true))]))) (0, (a0, (a1, ())))))

def tms_l_eqBoolS : FuncId → Nat → Option Tmpl := tmsOf [(35, 0, { n := 26, tm := [(0, .sl 0 []), (1, .sl 1 []), (5, .i .i64)], lo := [], ro := [(0, .bool, false), (1, .bool, false)] })]

theorem nf_l_eqBoolS (N : Nat) (a0 : List Bool) (a1 : List Bool) : evalFn (cQ ctr15 mct0 pct0 tct0) tms_l_eqBoolS N 12 35 [.one (.s .bool a0), .one (.s .bool a1)] = E_l_eqBoolS N a0 a1 := by kernel_rfl

theorem law_l_eqBoolS (a0 : List Bool) (a1 : List Bool) (hb : AllB big [.one (.s .bool a0), .one (.s .bool a1)]) (hc : (l_eqBoolS_c a0 a1) = true) : ∃ N, E_l_eqBoolS N a0 a1 = some [.one (.b (l_eqBoolS a0 a1))] := by
  have := pc_iff.1 hc
  subst this
  have hl := ((allB_cons hb).1 _ (List.mem_singleton.2 rfl)).len
  refine ⟨a0.length + 1, ?_⟩
  unfold E_l_eqBoolS
  rw [ine_self]
  refine eq_loop a0 (Ty.dflt .bool) _ _ hl (fun i hi rec => ?_) (fun rec => ?_) (Nat.lt_succ_self _)
  · simp only [ilt_ln hi, inb_ln hi, ix_ln hi, pc_T, ine_self, beqb_self, cT, cF, Bool.not_true]
  · simp only [ilt_end, cF, l_eqBoolS]
theorem holds_l_eqBoolS : Holds Try.prog 35 run_l_eqBoolS := holds_fn ctr15_ok mct0_ok pct0_ok tct0_ok (fn_ok (by kernel_rfl)) fun avs rs hb h => by
  unfold run_l_eqBoolS at h
  split at h
  · obtain ⟨hc, rfl⟩ := some_pair h
    exact (fin2 law_l_eqBoolS nf_l_eqBoolS hc hb :)
  · cases h


noncomputable def ctr16 : Ctrs := [(43, run_l_eqSlot), (54, run_l_eqIns), (51, run_l_eqCtl), (52, run_l_eqExit), (25, run_l_eqEntry), (23, run_l_eqIntS), (35, run_l_eqBoolS)] ++ ctr15

theorem ctr16_ok : CtrsOk ctr16 := ctr_cons holds_l_eqSlot (ctr_cons holds_l_eqIns (ctr_cons holds_l_eqCtl (ctr_cons holds_l_eqExit (ctr_cons holds_l_eqEntry (ctr_cons holds_l_eqIntS (ctr_cons holds_l_eqBoolS ctr15_ok))))))


noncomputable def l_eqSlotS_c (x y : List Slot) : Bool := pc (x = y)
def l_eqSlotS (_ _ : List Slot) : Bool := true
noncomputable def run_l_eqSlotS : List AV → Option (Bool × List AV)
  | [.one (.s .slot a0), .one (.s .slot a1)] => some ((l_eqSlotS_c a0 a1), [.one (.b (l_eqSlotS a0 a1))])
  | _ => none

noncomputable def E_l_eqSlotS (N : Nat) (a0 : List Slot) (a1 : List Slot) : Option Ans :=
  (bif (ine (ln a0) (ln a1)) then (some [(.one (.b false))]) else (iter (σ := (Int × ((List Slot) × ((List Slot) × Unit)))) N (fun r3 s4 => (bif (ilt s4.1 (ln s4.2.1)) then (bif (inb s4.1 (ln s4.2.1)) then (bif (inb s4.1 (ln s4.2.2.1)) then (bif (l_eqSlot_c (ix s4.2.1 s4.1 (Ty.dflt .slot)) (ix s4.2.2.1 s4.1 (Ty.dflt .slot))) then (bif (bif (l_eqSlot (ix s4.2.1 s4.1 (Ty.dflt .slot)) (ix s4.2.2.1 s4.1 (Ty.dflt .slot))) then false else true) then (some [(.one (.b false))]) else (r3 ((wadd .i64 s4.1 1), (s4.2.1, (s4.2.2.1, ()))))) else none) else none) else none) else (some [(.one (.b true))]))) (0, (a0, (a1, ())))))

def tms_l_eqSlotS : FuncId → Nat → Option Tmpl := tmsOf [(34, 0, { n := 27, tm := [(0, .sl 0 []), (1, .sl 1 []), (5, .i .i64)], lo := [], ro := [(0, .slot, false), (1, .slot, false)] })]

theorem nf_l_eqSlotS (N : Nat) (a0 : List Slot) (a1 : List Slot) : evalFn (cQ ctr16 mct0 pct0 tct0) tms_l_eqSlotS N 12 34 [.one (.s .slot a0), .one (.s .slot a1)] = E_l_eqSlotS N a0 a1 := by kernel_rfl

theorem law_l_eqSlotS (a0 : List Slot) (a1 : List Slot) (hb : AllB big [.one (.s .slot a0), .one (.s .slot a1)]) (hc : (l_eqSlotS_c a0 a1) = true) : ∃ N, E_l_eqSlotS N a0 a1 = some [.one (.b (l_eqSlotS a0 a1))] := by
  have := pc_iff.1 hc
  subst this
  have hl := ((allB_cons hb).1 _ (List.mem_singleton.2 rfl)).len
  refine ⟨a0.length + 1, ?_⟩
  unfold E_l_eqSlotS
  rw [ine_self]
  refine eq_loop a0 (Ty.dflt .slot) _ _ hl (fun i hi rec => ?_) (fun rec => ?_) (Nat.lt_succ_self _)
  · simp only [ilt_ln hi, inb_ln hi, ix_ln hi, l_eqSlot_c, l_eqSlot, pc_T, ine_self, beqb_self, cT, cF, Bool.not_true]
  · simp only [ilt_end, cF, l_eqSlotS]
theorem holds_l_eqSlotS : Holds Try.prog 34 run_l_eqSlotS := holds_fn ctr16_ok mct0_ok pct0_ok tct0_ok (fn_ok (by kernel_rfl)) fun avs rs hb h => by
  unfold run_l_eqSlotS at h
  split at h
  · obtain ⟨hc, rfl⟩ := some_pair h
    exact (fin2 law_l_eqSlotS nf_l_eqSlotS hc hb :)
  · cases h


noncomputable def l_eqInsS_c (x y : List Ins) : Bool := pc (x = y)
def l_eqInsS (_ _ : List Ins) : Bool := true
noncomputable def run_l_eqInsS : List AV → Option (Bool × List AV)
  | [.one (.s .ins a0), .one (.s .ins a1)] => some ((l_eqInsS_c a0 a1), [.one (.b (l_eqInsS a0 a1))])
  | _ => none

noncomputable def E_l_eqInsS (N : Nat) (a0 : List Ins) (a1 : List Ins) : Option Ans :=
  (bif (ine (ln a0) (ln a1)) then (some [(.one (.b false))]) else (iter (σ := (Int × ((List Ins) × ((List Ins) × Unit)))) N (fun r3 s4 => (bif (ilt s4.1 (ln s4.2.1)) then (bif (inb s4.1 (ln s4.2.1)) then (bif (inb s4.1 (ln s4.2.2.1)) then (bif (l_eqIns_c (ix s4.2.1 s4.1 (Ty.dflt .ins)) (ix s4.2.2.1 s4.1 (Ty.dflt .ins))) then (bif (bif (l_eqIns (ix s4.2.1 s4.1 (Ty.dflt .ins)) (ix s4.2.2.1 s4.1 (Ty.dflt .ins))) then false else true) then (some [(.one (.b false))]) else (r3 ((wadd .i64 s4.1 1), (s4.2.1, (s4.2.2.1, ()))))) else none) else none) else none) else (some [(.one (.b true))]))) (0, (a0, (a1, ())))))

def tms_l_eqInsS : FuncId → Nat → Option Tmpl := tmsOf [(50, 0, { n := 27, tm := [(0, .sl 0 []), (1, .sl 1 []), (5, .i .i64)], lo := [], ro := [(0, .ins, false), (1, .ins, false)] })]

theorem nf_l_eqInsS (N : Nat) (a0 : List Ins) (a1 : List Ins) : evalFn (cQ ctr16 mct0 pct0 tct0) tms_l_eqInsS N 12 50 [.one (.s .ins a0), .one (.s .ins a1)] = E_l_eqInsS N a0 a1 := by kernel_rfl

theorem law_l_eqInsS (a0 : List Ins) (a1 : List Ins) (hb : AllB big [.one (.s .ins a0), .one (.s .ins a1)]) (hc : (l_eqInsS_c a0 a1) = true) : ∃ N, E_l_eqInsS N a0 a1 = some [.one (.b (l_eqInsS a0 a1))] := by
  have := pc_iff.1 hc
  subst this
  have hl := ((allB_cons hb).1 _ (List.mem_singleton.2 rfl)).len
  refine ⟨a0.length + 1, ?_⟩
  unfold E_l_eqInsS
  rw [ine_self]
  refine eq_loop a0 (Ty.dflt .ins) _ _ hl (fun i hi rec => ?_) (fun rec => ?_) (Nat.lt_succ_self _)
  · simp only [ilt_ln hi, inb_ln hi, ix_ln hi, l_eqIns_c, l_eqIns, pc_T, ine_self, beqb_self, cT, cF, Bool.not_true]
  · simp only [ilt_end, cF, l_eqInsS]
theorem holds_l_eqInsS : Holds Try.prog 50 run_l_eqInsS := holds_fn ctr16_ok mct0_ok pct0_ok tct0_ok (fn_ok (by kernel_rfl)) fun avs rs hb h => by
  unfold run_l_eqInsS at h
  split at h
  · obtain ⟨hc, rfl⟩ := some_pair h
    exact (fin2 law_l_eqInsS nf_l_eqInsS hc hb :)
  · cases h


noncomputable def l_eqEntryS_c (x y : List Entry) : Bool := pc (x = y)
def l_eqEntryS (_ _ : List Entry) : Bool := true
noncomputable def run_l_eqEntryS : List AV → Option (Bool × List AV)
  | [.one (.s .entry a0), .one (.s .entry a1)] => some ((l_eqEntryS_c a0 a1), [.one (.b (l_eqEntryS a0 a1))])
  | _ => none

noncomputable def E_l_eqEntryS (N : Nat) (a0 : List Entry) (a1 : List Entry) : Option Ans :=
  (bif (ine (ln a0) (ln a1)) then (some [(.one (.b false))]) else (iter (σ := (Int × ((List Entry) × ((List Entry) × Unit)))) N (fun r3 s4 => (bif (ilt s4.1 (ln s4.2.1)) then (bif (inb s4.1 (ln s4.2.1)) then (bif (inb s4.1 (ln s4.2.2.1)) then (bif (l_eqEntry_c (ix s4.2.1 s4.1 (Ty.dflt .entry)) (ix s4.2.2.1 s4.1 (Ty.dflt .entry))) then (bif (bif (l_eqEntry (ix s4.2.1 s4.1 (Ty.dflt .entry)) (ix s4.2.2.1 s4.1 (Ty.dflt .entry))) then false else true) then (some [(.one (.b false))]) else (r3 ((wadd .i64 s4.1 1), (s4.2.1, (s4.2.2.1, ()))))) else none) else none) else none) else (some [(.one (.b true))]))) (0, (a0, (a1, ())))))

def tms_l_eqEntryS : FuncId → Nat → Option Tmpl := tmsOf [(17, 0, { n := 27, tm := [(0, .sl 0 []), (1, .sl 1 []), (5, .i .i64)], lo := [], ro := [(0, .entry, false), (1, .entry, false)] })]

theorem nf_l_eqEntryS (N : Nat) (a0 : List Entry) (a1 : List Entry) : evalFn (cQ ctr16 mct0 pct0 tct0) tms_l_eqEntryS N 12 17 [.one (.s .entry a0), .one (.s .entry a1)] = E_l_eqEntryS N a0 a1 := by kernel_rfl

theorem law_l_eqEntryS (a0 : List Entry) (a1 : List Entry) (hb : AllB big [.one (.s .entry a0), .one (.s .entry a1)]) (hc : (l_eqEntryS_c a0 a1) = true) : ∃ N, E_l_eqEntryS N a0 a1 = some [.one (.b (l_eqEntryS a0 a1))] := by
  have := pc_iff.1 hc
  subst this
  have hl := ((allB_cons hb).1 _ (List.mem_singleton.2 rfl)).len
  refine ⟨a0.length + 1, ?_⟩
  unfold E_l_eqEntryS
  rw [ine_self]
  refine eq_loop a0 (Ty.dflt .entry) _ _ hl (fun i hi rec => ?_) (fun rec => ?_) (Nat.lt_succ_self _)
  · simp only [ilt_ln hi, inb_ln hi, ix_ln hi, l_eqEntry_c, l_eqEntry, pc_T, ine_self, beqb_self, cT, cF, Bool.not_true]
  · simp only [ilt_end, cF, l_eqEntryS]
theorem holds_l_eqEntryS : Holds Try.prog 17 run_l_eqEntryS := holds_fn ctr16_ok mct0_ok pct0_ok tct0_ok (fn_ok (by kernel_rfl)) fun avs rs hb h => by
  unfold run_l_eqEntryS at h
  split at h
  · obtain ⟨hc, rfl⟩ := some_pair h
    exact (fin2 law_l_eqEntryS nf_l_eqEntryS hc hb :)
  · cases h


noncomputable def l_eqIntSS_c (x y : List (List Int)) : Bool := pc (x = y)
def l_eqIntSS (_ _ : List (List Int)) : Bool := true
noncomputable def run_l_eqIntSS : List AV → Option (Bool × List AV)
  | [.one (.s (.sl .int) a0), .one (.s (.sl .int) a1)] => some ((l_eqIntSS_c a0 a1), [.one (.b (l_eqIntSS a0 a1))])
  | _ => none

noncomputable def E_l_eqIntSS (N : Nat) (a0 : List (List Int)) (a1 : List (List Int)) : Option Ans :=
  (bif (ine (ln a0) (ln a1)) then (some [(.one (.b false))]) else (iter (σ := (Int × ((List (List Int)) × ((List (List Int)) × Unit)))) N (fun r3 s4 => (bif (ilt s4.1 (ln s4.2.1)) then (bif (inb s4.1 (ln s4.2.1)) then (bif (inb s4.1 (ln s4.2.2.1)) then (bif (l_eqIntS_c (ix s4.2.1 s4.1 []) (ix s4.2.2.1 s4.1 [])) then (bif (bif (l_eqIntS (ix s4.2.1 s4.1 []) (ix s4.2.2.1 s4.1 [])) then false else true) then (some [(.one (.b false))]) else (r3 ((wadd .i64 s4.1 1), (s4.2.1, (s4.2.2.1, ()))))) else none) else none) else none) else (some [(.one (.b true))]))) (0, (a0, (a1, ())))))

def tms_l_eqIntSS : FuncId → Nat → Option Tmpl := tmsOf [(15, 0, { n := 27, tm := [(0, .sl 0 []), (1, .sl 1 []), (5, .i .i64)], lo := [], ro := [(0, (.sl .int), false), (1, (.sl .int), false)] })]

theorem nf_l_eqIntSS (N : Nat) (a0 : List (List Int)) (a1 : List (List Int)) : evalFn (cQ ctr16 mct0 pct0 tct0) tms_l_eqIntSS N 12 15 [.one (.s (.sl .int) a0), .one (.s (.sl .int) a1)] = E_l_eqIntSS N a0 a1 := by kernel_rfl

theorem law_l_eqIntSS (a0 : List (List Int)) (a1 : List (List Int)) (hb : AllB big [.one (.s (.sl .int) a0), .one (.s (.sl .int) a1)]) (hc : (l_eqIntSS_c a0 a1) = true) : ∃ N, E_l_eqIntSS N a0 a1 = some [.one (.b (l_eqIntSS a0 a1))] := by
  have := pc_iff.1 hc
  subst this
  have hl := ((allB_cons hb).1 _ (List.mem_singleton.2 rfl)).len
  refine ⟨a0.length + 1, ?_⟩
  unfold E_l_eqIntSS
  rw [ine_self]
  refine eq_loop a0 (Ty.dflt (.sl .int)) _ _ hl (fun i hi rec => ?_) (fun rec => ?_) (Nat.lt_succ_self _)
  · simp only [ilt_ln hi, inb_ln hi, ix_ln hi, l_eqIntS_c, l_eqIntS, pc_T, ine_self, beqb_self, cT, cF, Bool.not_true]
  · simp only [ilt_end, cF, l_eqIntSS]
theorem holds_l_eqIntSS : Holds Try.prog 15 run_l_eqIntSS := holds_fn ctr16_ok mct0_ok pct0_ok tct0_ok (fn_ok (by kernel_rfl)) fun avs rs hb h => by
  unfold run_l_eqIntSS at h
  split at h
  · obtain ⟨hc, rfl⟩ := some_pair h
    exact (fin2 law_l_eqIntSS nf_l_eqIntSS hc hb :)
  · cases h


noncomputable def ctr17 : Ctrs := [(34, run_l_eqSlotS), (50, run_l_eqInsS), (17, run_l_eqEntryS), (15, run_l_eqIntSS)] ++ ctr16

theorem ctr17_ok : CtrsOk ctr17 := ctr_cons holds_l_eqSlotS (ctr_cons holds_l_eqInsS (ctr_cons holds_l_eqEntryS (ctr_cons holds_l_eqIntSS ctr16_ok)))


noncomputable def l_eqGuest_c (x y : Guest) : Bool := pc (x = y)
def l_eqGuest (_ _ : Guest) : Bool := true
noncomputable def run_l_eqGuest : List AV → Option (Bool × List AV)
  | [.agg [.s .ins a0_0, .i .i64 a0_1, .i .i64 a0_2, .s .slot a0_3, .s .slot a0_4, .i .i64 a0_5, .i .i64 a0_6, .b a0_7, .i .i64 a0_8, .i .i64 a0_9, .i .i64 a0_10, .b a0_11, .i .i64 a0_12, .b a0_13, .s .int a0_14], .agg [.s .ins a1_0, .i .i64 a1_1, .i .i64 a1_2, .s .slot a1_3, .s .slot a1_4, .i .i64 a1_5, .i .i64 a1_6, .b a1_7, .i .i64 a1_8, .i .i64 a1_9, .i .i64 a1_10, .b a1_11, .i .i64 a1_12, .b a1_13, .s .int a1_14]] => some ((l_eqGuest_c (⟨a0_0, a0_1, a0_2, a0_3, a0_4, ⟨a0_5, a0_6, a0_7⟩, a0_8, ⟨a0_9, a0_10, a0_11, a0_12⟩, a0_13, a0_14⟩ : Guest) (⟨a1_0, a1_1, a1_2, a1_3, a1_4, ⟨a1_5, a1_6, a1_7⟩, a1_8, ⟨a1_9, a1_10, a1_11, a1_12⟩, a1_13, a1_14⟩ : Guest)), [.one (.b (l_eqGuest (⟨a0_0, a0_1, a0_2, a0_3, a0_4, ⟨a0_5, a0_6, a0_7⟩, a0_8, ⟨a0_9, a0_10, a0_11, a0_12⟩, a0_13, a0_14⟩ : Guest) (⟨a1_0, a1_1, a1_2, a1_3, a1_4, ⟨a1_5, a1_6, a1_7⟩, a1_8, ⟨a1_9, a1_10, a1_11, a1_12⟩, a1_13, a1_14⟩ : Guest)))])
  | _ => none

noncomputable def E_l_eqGuest (N : Nat) (a0 : Guest) (a1 : Guest) : Option Ans :=
  (bif (l_eqInsS_c a0.Prog a1.Prog) then (bif (bif (l_eqInsS a0.Prog a1.Prog) then false else true) then (some [(.one (.b false))]) else (bif (ine a0.A a1.A) then (some [(.one (.b false))]) else (bif (ine a0.Pc a1.Pc) then (some [(.one (.b false))]) else (bif (l_eqSlotS_c a0.Written a1.Written) then (bif (bif (l_eqSlotS a0.Written a1.Written) then false else true) then (some [(.one (.b false))]) else (bif (l_eqSlotS_c a0.Live a1.Live) then (bif (bif (l_eqSlotS a0.Live a1.Live) then false else true) then (some [(.one (.b false))]) else (bif (l_eqCtl_c a0.Ctl a1.Ctl) then (bif (bif (l_eqCtl a0.Ctl a1.Ctl) then false else true) then (some [(.one (.b false))]) else (bif (ine a0.Pending a1.Pending) then (some [(.one (.b false))]) else (bif (l_eqExit_c a0.Exit a1.Exit) then (bif (bif (l_eqExit a0.Exit a1.Exit) then false else true) then (some [(.one (.b false))]) else (bif (bif (beqb a0.Halted a1.Halted) then false else true) then (some [(.one (.b false))]) else (bif (l_eqIntS_c a0.Seen a1.Seen) then (bif (bif (l_eqIntS a0.Seen a1.Seen) then false else true) then (some [(.one (.b false))]) else (some [(.one (.b true))])) else none))) else none))) else none)) else none)) else none)))) else none)

theorem nf_l_eqGuest (N : Nat) (a0 : Guest) (a1 : Guest) : evalFn (cQ ctr17 mct0 pct0 tct0) (tmsOf []) N 12 44 [.agg (Ty.cells .guest a0), .agg (Ty.cells .guest a1)] = E_l_eqGuest N a0 a1 := by kernel_rfl

theorem law_l_eqGuest (a0 : Guest) (a1 : Guest) (hb : AllB big [.agg (Ty.cells .guest a0), .agg (Ty.cells .guest a1)]) (hc : (l_eqGuest_c a0 a1) = true) : ∃ N, E_l_eqGuest N a0 a1 = some [.one (.b (l_eqGuest a0 a1))] := by
  have := pc_iff.1 hc
  subst this
  refine ⟨0, ?_⟩
  simp only [E_l_eqGuest, l_eqInsS_c, l_eqSlotS_c, l_eqCtl_c, l_eqExit_c, l_eqIntS_c, l_eqInsS, l_eqSlotS, l_eqCtl, l_eqExit, l_eqIntS, pc_T, ine_self, beqb_self, cT, cF, Bool.not_true, l_eqGuest]
theorem holds_l_eqGuest : Holds Try.prog 44 run_l_eqGuest := holds_fn ctr17_ok mct0_ok pct0_ok tct0_ok (fn_ok (by kernel_rfl)) fun avs rs hb h => by
  unfold run_l_eqGuest at h
  split at h
  · obtain ⟨hc, rfl⟩ := some_pair h
    exact (fin2 law_l_eqGuest nf_l_eqGuest hc hb :)
  · cases h


noncomputable def l_eqKept_c (x y : Kept) : Bool := pc (x = y)
def l_eqKept (_ _ : Kept) : Bool := true
noncomputable def run_l_eqKept : List AV → Option (Bool × List AV)
  | [.agg [.s .bool a0_0, .s .slot a0_1], .agg [.s .bool a1_0, .s .slot a1_1]] => some ((l_eqKept_c (⟨a0_0, a0_1⟩ : Kept) (⟨a1_0, a1_1⟩ : Kept)), [.one (.b (l_eqKept (⟨a0_0, a0_1⟩ : Kept) (⟨a1_0, a1_1⟩ : Kept)))])
  | _ => none

noncomputable def E_l_eqKept (N : Nat) (a0 : Kept) (a1 : Kept) : Option Ans :=
  (bif (l_eqBoolS_c a0.Known a1.Known) then (bif (bif (l_eqBoolS a0.Known a1.Known) then false else true) then (some [(.one (.b false))]) else (bif (l_eqSlotS_c a0.Slots a1.Slots) then (bif (bif (l_eqSlotS a0.Slots a1.Slots) then false else true) then (some [(.one (.b false))]) else (some [(.one (.b true))])) else none)) else none)

theorem nf_l_eqKept (N : Nat) (a0 : Kept) (a1 : Kept) : evalFn (cQ ctr17 mct0 pct0 tct0) (tmsOf []) N 12 45 [.agg (Ty.cells .kept a0), .agg (Ty.cells .kept a1)] = E_l_eqKept N a0 a1 := by kernel_rfl

theorem law_l_eqKept (a0 : Kept) (a1 : Kept) (hb : AllB big [.agg (Ty.cells .kept a0), .agg (Ty.cells .kept a1)]) (hc : (l_eqKept_c a0 a1) = true) : ∃ N, E_l_eqKept N a0 a1 = some [.one (.b (l_eqKept a0 a1))] := by
  have := pc_iff.1 hc
  subst this
  refine ⟨0, ?_⟩
  simp only [E_l_eqKept, l_eqBoolS_c, l_eqSlotS_c, l_eqBoolS, l_eqSlotS, pc_T, ine_self, beqb_self, cT, cF, Bool.not_true, l_eqKept]
theorem holds_l_eqKept : Holds Try.prog 45 run_l_eqKept := holds_fn ctr17_ok mct0_ok pct0_ok tct0_ok (fn_ok (by kernel_rfl)) fun avs rs hb h => by
  unfold run_l_eqKept at h
  split at h
  · obtain ⟨hc, rfl⟩ := some_pair h
    exact (fin2 law_l_eqKept nf_l_eqKept hc hb :)
  · cases h


noncomputable def ctr18 : Ctrs := [(44, run_l_eqGuest), (45, run_l_eqKept)] ++ ctr17

theorem ctr18_ok : CtrsOk ctr18 := ctr_cons holds_l_eqGuest (ctr_cons holds_l_eqKept ctr17_ok)


noncomputable def l_eqGuestS_c (x y : List Guest) : Bool := pc (x = y)
def l_eqGuestS (_ _ : List Guest) : Bool := true
noncomputable def run_l_eqGuestS : List AV → Option (Bool × List AV)
  | [.one (.s .guest a0), .one (.s .guest a1)] => some ((l_eqGuestS_c a0 a1), [.one (.b (l_eqGuestS a0 a1))])
  | _ => none

noncomputable def E_l_eqGuestS (N : Nat) (a0 : List Guest) (a1 : List Guest) : Option Ans :=
  (bif (ine (ln a0) (ln a1)) then (some [(.one (.b false))]) else (iter (σ := (Int × ((List Guest) × ((List Guest) × Unit)))) N (fun r3 s4 => (bif (ilt s4.1 (ln s4.2.1)) then (bif (inb s4.1 (ln s4.2.1)) then (bif (inb s4.1 (ln s4.2.2.1)) then (bif (l_eqGuest_c (ix s4.2.1 s4.1 (Ty.dflt .guest)) (ix s4.2.2.1 s4.1 (Ty.dflt .guest))) then (bif (bif (l_eqGuest (ix s4.2.1 s4.1 (Ty.dflt .guest)) (ix s4.2.2.1 s4.1 (Ty.dflt .guest))) then false else true) then (some [(.one (.b false))]) else (r3 ((wadd .i64 s4.1 1), (s4.2.1, (s4.2.2.1, ()))))) else none) else none) else none) else (some [(.one (.b true))]))) (0, (a0, (a1, ())))))

def tms_l_eqGuestS : FuncId → Nat → Option Tmpl := tmsOf [(36, 0, { n := 27, tm := [(0, .sl 0 []), (1, .sl 1 []), (5, .i .i64)], lo := [], ro := [(0, .guest, false), (1, .guest, false)] })]

theorem nf_l_eqGuestS (N : Nat) (a0 : List Guest) (a1 : List Guest) : evalFn (cQ ctr18 mct0 pct0 tct0) tms_l_eqGuestS N 12 36 [.one (.s .guest a0), .one (.s .guest a1)] = E_l_eqGuestS N a0 a1 := by kernel_rfl

theorem law_l_eqGuestS (a0 : List Guest) (a1 : List Guest) (hb : AllB big [.one (.s .guest a0), .one (.s .guest a1)]) (hc : (l_eqGuestS_c a0 a1) = true) : ∃ N, E_l_eqGuestS N a0 a1 = some [.one (.b (l_eqGuestS a0 a1))] := by
  have := pc_iff.1 hc
  subst this
  have hl := ((allB_cons hb).1 _ (List.mem_singleton.2 rfl)).len
  refine ⟨a0.length + 1, ?_⟩
  unfold E_l_eqGuestS
  rw [ine_self]
  refine eq_loop a0 (Ty.dflt .guest) _ _ hl (fun i hi rec => ?_) (fun rec => ?_) (Nat.lt_succ_self _)
  · simp only [ilt_ln hi, inb_ln hi, ix_ln hi, l_eqGuest_c, l_eqGuest, pc_T, ine_self, beqb_self, cT, cF, Bool.not_true]
  · simp only [ilt_end, cF, l_eqGuestS]
theorem holds_l_eqGuestS : Holds Try.prog 36 run_l_eqGuestS := holds_fn ctr18_ok mct0_ok pct0_ok tct0_ok (fn_ok (by kernel_rfl)) fun avs rs hb h => by
  unfold run_l_eqGuestS at h
  split at h
  · obtain ⟨hc, rfl⟩ := some_pair h
    exact (fin2 law_l_eqGuestS nf_l_eqGuestS hc hb :)
  · cases h


noncomputable def l_eqKeptS_c (x y : List Kept) : Bool := pc (x = y)
def l_eqKeptS (_ _ : List Kept) : Bool := true
noncomputable def run_l_eqKeptS : List AV → Option (Bool × List AV)
  | [.one (.s .kept a0), .one (.s .kept a1)] => some ((l_eqKeptS_c a0 a1), [.one (.b (l_eqKeptS a0 a1))])
  | _ => none

noncomputable def E_l_eqKeptS (N : Nat) (a0 : List Kept) (a1 : List Kept) : Option Ans :=
  (bif (ine (ln a0) (ln a1)) then (some [(.one (.b false))]) else (iter (σ := (Int × ((List Kept) × ((List Kept) × Unit)))) N (fun r3 s4 => (bif (ilt s4.1 (ln s4.2.1)) then (bif (inb s4.1 (ln s4.2.1)) then (bif (inb s4.1 (ln s4.2.2.1)) then (bif (l_eqKept_c (ix s4.2.1 s4.1 (Ty.dflt .kept)) (ix s4.2.2.1 s4.1 (Ty.dflt .kept))) then (bif (bif (l_eqKept (ix s4.2.1 s4.1 (Ty.dflt .kept)) (ix s4.2.2.1 s4.1 (Ty.dflt .kept))) then false else true) then (some [(.one (.b false))]) else (r3 ((wadd .i64 s4.1 1), (s4.2.1, (s4.2.2.1, ()))))) else none) else none) else none) else (some [(.one (.b true))]))) (0, (a0, (a1, ())))))

def tms_l_eqKeptS : FuncId → Nat → Option Tmpl := tmsOf [(37, 0, { n := 27, tm := [(0, .sl 0 []), (1, .sl 1 []), (5, .i .i64)], lo := [], ro := [(0, .kept, false), (1, .kept, false)] })]

theorem nf_l_eqKeptS (N : Nat) (a0 : List Kept) (a1 : List Kept) : evalFn (cQ ctr18 mct0 pct0 tct0) tms_l_eqKeptS N 12 37 [.one (.s .kept a0), .one (.s .kept a1)] = E_l_eqKeptS N a0 a1 := by kernel_rfl

theorem law_l_eqKeptS (a0 : List Kept) (a1 : List Kept) (hb : AllB big [.one (.s .kept a0), .one (.s .kept a1)]) (hc : (l_eqKeptS_c a0 a1) = true) : ∃ N, E_l_eqKeptS N a0 a1 = some [.one (.b (l_eqKeptS a0 a1))] := by
  have := pc_iff.1 hc
  subst this
  have hl := ((allB_cons hb).1 _ (List.mem_singleton.2 rfl)).len
  refine ⟨a0.length + 1, ?_⟩
  unfold E_l_eqKeptS
  rw [ine_self]
  refine eq_loop a0 (Ty.dflt .kept) _ _ hl (fun i hi rec => ?_) (fun rec => ?_) (Nat.lt_succ_self _)
  · simp only [ilt_ln hi, inb_ln hi, ix_ln hi, l_eqKept_c, l_eqKept, pc_T, ine_self, beqb_self, cT, cF, Bool.not_true]
  · simp only [ilt_end, cF, l_eqKeptS]
theorem holds_l_eqKeptS : Holds Try.prog 37 run_l_eqKeptS := holds_fn ctr18_ok mct0_ok pct0_ok tct0_ok (fn_ok (by kernel_rfl)) fun avs rs hb h => by
  unfold run_l_eqKeptS at h
  split at h
  · obtain ⟨hc, rfl⟩ := some_pair h
    exact (fin2 law_l_eqKeptS nf_l_eqKeptS hc hb :)
  · cases h


noncomputable def ctr19 : Ctrs := [(36, run_l_eqGuestS), (37, run_l_eqKeptS)] ++ ctr18

theorem ctr19_ok : CtrsOk ctr19 := ctr_cons holds_l_eqGuestS (ctr_cons holds_l_eqKeptS ctr18_ok)


noncomputable def l_eqMon_c (x y : Mon) : Bool := pc (x = y)
def l_eqMon (_ _ : Mon) : Bool := true
noncomputable def run_l_eqMon : List AV → Option (Bool × List AV)
  | [.agg [.s .slot a0_0, .s (.sl .int) a0_1, .s .bool a0_2, .s .guest a0_3, .s .int a0_4, .i .i64 a0_5, .i .i64 a0_6, .s .kept a0_7, .i .i64 a0_8], .agg [.s .slot a1_0, .s (.sl .int) a1_1, .s .bool a1_2, .s .guest a1_3, .s .int a1_4, .i .i64 a1_5, .i .i64 a1_6, .s .kept a1_7, .i .i64 a1_8]] => some ((l_eqMon_c (⟨a0_0, a0_1, a0_2, a0_3, a0_4, a0_5, a0_6, a0_7, a0_8⟩ : Mon) (⟨a1_0, a1_1, a1_2, a1_3, a1_4, a1_5, a1_6, a1_7, a1_8⟩ : Mon)), [.one (.b (l_eqMon (⟨a0_0, a0_1, a0_2, a0_3, a0_4, a0_5, a0_6, a0_7, a0_8⟩ : Mon) (⟨a1_0, a1_1, a1_2, a1_3, a1_4, a1_5, a1_6, a1_7, a1_8⟩ : Mon)))])
  | _ => none

noncomputable def E_l_eqMon (N : Nat) (a0 : Mon) (a1 : Mon) : Option Ans :=
  (bif (l_eqSlotS_c a0.Outer a1.Outer) then (bif (bif (l_eqSlotS a0.Outer a1.Outer) then false else true) then (some [(.one (.b false))]) else (bif (l_eqIntSS_c a0.Out a1.Out) then (bif (bif (l_eqIntSS a0.Out a1.Out) then false else true) then (some [(.one (.b false))]) else (bif (l_eqBoolS_c a0.Dirty a1.Dirty) then (bif (bif (l_eqBoolS a0.Dirty a1.Dirty) then false else true) then (some [(.one (.b false))]) else (bif (l_eqGuestS_c a0.Guests a1.Guests) then (bif (bif (l_eqGuestS a0.Guests a1.Guests) then false else true) then (some [(.one (.b false))]) else (bif (l_eqIntS_c a0.Outs a1.Outs) then (bif (bif (l_eqIntS a0.Outs a1.Outs) then false else true) then (some [(.one (.b false))]) else (bif (ine a0.Pending a1.Pending) then (some [(.one (.b false))]) else (bif (ine a0.Traps a1.Traps) then (some [(.one (.b false))]) else (bif (l_eqKeptS_c a0.Tables a1.Tables) then (bif (bif (l_eqKeptS a0.Tables a1.Tables) then false else true) then (some [(.one (.b false))]) else (bif (ine a0.Own a1.Own) then (some [(.one (.b false))]) else (some [(.one (.b true))]))) else none)))) else none)) else none)) else none)) else none)) else none)

theorem nf_l_eqMon (N : Nat) (a0 : Mon) (a1 : Mon) : evalFn (cQ ctr19 mct0 pct0 tct0) (tmsOf []) N 12 24 [.agg (Ty.cells .mon a0), .agg (Ty.cells .mon a1)] = E_l_eqMon N a0 a1 := by kernel_rfl

theorem law_l_eqMon (a0 : Mon) (a1 : Mon) (hb : AllB big [.agg (Ty.cells .mon a0), .agg (Ty.cells .mon a1)]) (hc : (l_eqMon_c a0 a1) = true) : ∃ N, E_l_eqMon N a0 a1 = some [.one (.b (l_eqMon a0 a1))] := by
  have := pc_iff.1 hc
  subst this
  refine ⟨0, ?_⟩
  simp only [E_l_eqMon, l_eqSlotS_c, l_eqIntSS_c, l_eqBoolS_c, l_eqGuestS_c, l_eqIntS_c, l_eqKeptS_c, l_eqSlotS, l_eqIntSS, l_eqBoolS, l_eqGuestS, l_eqIntS, l_eqKeptS, pc_T, ine_self, beqb_self, cT, cF, Bool.not_true, l_eqMon]
theorem holds_l_eqMon : Holds Try.prog 24 run_l_eqMon := holds_fn ctr19_ok mct0_ok pct0_ok tct0_ok (fn_ok (by kernel_rfl)) fun avs rs hb h => by
  unfold run_l_eqMon at h
  split at h
  · obtain ⟨hc, rfl⟩ := some_pair h
    exact (fin2 law_l_eqMon nf_l_eqMon hc hb :)
  · cases h


noncomputable def ctr20 : Ctrs := [(24, run_l_eqMon)] ++ ctr19

theorem ctr20_ok : CtrsOk ctr20 := ctr_cons holds_l_eqMon ctr19_ok


noncomputable def l_eqMonS_c (x y : List Mon) : Bool := pc (x = y)
def l_eqMonS (_ _ : List Mon) : Bool := true
noncomputable def run_l_eqMonS : List AV → Option (Bool × List AV)
  | [.one (.s .mon a0), .one (.s .mon a1)] => some ((l_eqMonS_c a0 a1), [.one (.b (l_eqMonS a0 a1))])
  | _ => none

noncomputable def E_l_eqMonS (N : Nat) (a0 : List Mon) (a1 : List Mon) : Option Ans :=
  (bif (ine (ln a0) (ln a1)) then (some [(.one (.b false))]) else (iter (σ := (Int × ((List Mon) × ((List Mon) × Unit)))) N (fun r3 s4 => (bif (ilt s4.1 (ln s4.2.1)) then (bif (inb s4.1 (ln s4.2.1)) then (bif (inb s4.1 (ln s4.2.2.1)) then (bif (l_eqMon_c (ix s4.2.1 s4.1 (Ty.dflt .mon)) (ix s4.2.2.1 s4.1 (Ty.dflt .mon))) then (bif (bif (l_eqMon (ix s4.2.1 s4.1 (Ty.dflt .mon)) (ix s4.2.2.1 s4.1 (Ty.dflt .mon))) then false else true) then (some [(.one (.b false))]) else (r3 ((wadd .i64 s4.1 1), (s4.2.1, (s4.2.2.1, ()))))) else none) else none) else none) else (some [(.one (.b true))]))) (0, (a0, (a1, ())))))

def tms_l_eqMonS : FuncId → Nat → Option Tmpl := tmsOf [(16, 0, { n := 27, tm := [(0, .sl 0 []), (1, .sl 1 []), (5, .i .i64)], lo := [], ro := [(0, .mon, false), (1, .mon, false)] })]

theorem nf_l_eqMonS (N : Nat) (a0 : List Mon) (a1 : List Mon) : evalFn (cQ ctr20 mct0 pct0 tct0) tms_l_eqMonS N 12 16 [.one (.s .mon a0), .one (.s .mon a1)] = E_l_eqMonS N a0 a1 := by kernel_rfl

theorem law_l_eqMonS (a0 : List Mon) (a1 : List Mon) (hb : AllB big [.one (.s .mon a0), .one (.s .mon a1)]) (hc : (l_eqMonS_c a0 a1) = true) : ∃ N, E_l_eqMonS N a0 a1 = some [.one (.b (l_eqMonS a0 a1))] := by
  have := pc_iff.1 hc
  subst this
  have hl := ((allB_cons hb).1 _ (List.mem_singleton.2 rfl)).len
  refine ⟨a0.length + 1, ?_⟩
  unfold E_l_eqMonS
  rw [ine_self]
  refine eq_loop a0 (Ty.dflt .mon) _ _ hl (fun i hi rec => ?_) (fun rec => ?_) (Nat.lt_succ_self _)
  · simp only [ilt_ln hi, inb_ln hi, ix_ln hi, l_eqMon_c, l_eqMon, pc_T, ine_self, beqb_self, cT, cF, Bool.not_true]
  · simp only [ilt_end, cF, l_eqMonS]
theorem holds_l_eqMonS : Holds Try.prog 16 run_l_eqMonS := holds_fn ctr20_ok mct0_ok pct0_ok tct0_ok (fn_ok (by kernel_rfl)) fun avs rs hb h => by
  unfold run_l_eqMonS at h
  split at h
  · obtain ⟨hc, rfl⟩ := some_pair h
    exact (fin2 law_l_eqMonS nf_l_eqMonS hc hb :)
  · cases h


noncomputable def ctr21 : Ctrs := [(16, run_l_eqMonS)] ++ ctr20

theorem ctr21_ok : CtrsOk ctr21 := ctr_cons holds_l_eqMonS ctr20_ok


noncomputable def l_eqHost_c (x y : Host) : Bool := pc (x = y)
def l_eqHost (_ _ : Host) : Bool := true
noncomputable def run_l_eqHost : List AV → Option (Bool × List AV)
  | [.agg [.s (.sl .int) a0_0, .s .mon a0_1, .s .entry a0_2, .s .entry a0_3], .agg [.s (.sl .int) a1_0, .s .mon a1_1, .s .entry a1_2, .s .entry a1_3]] => some ((l_eqHost_c (⟨a0_0, a0_1, a0_2, a0_3⟩ : Host) (⟨a1_0, a1_1, a1_2, a1_3⟩ : Host)), [.one (.b (l_eqHost (⟨a0_0, a0_1, a0_2, a0_3⟩ : Host) (⟨a1_0, a1_1, a1_2, a1_3⟩ : Host)))])
  | _ => none

noncomputable def E_l_eqHost (N : Nat) (a0 : Host) (a1 : Host) : Option Ans :=
  (bif (l_eqIntSS_c a0.Memory a1.Memory) then (bif (bif (l_eqIntSS a0.Memory a1.Memory) then false else true) then (some [(.one (.b false))]) else (bif (l_eqMonS_c a0.Mons a1.Mons) then (bif (bif (l_eqMonS a0.Mons a1.Mons) then false else true) then (some [(.one (.b false))]) else (bif (l_eqEntryS_c a0.Buffer a1.Buffer) then (bif (bif (l_eqEntryS a0.Buffer a1.Buffer) then false else true) then (some [(.one (.b false))]) else (bif (l_eqEntryS_c a0.IoBuffer a1.IoBuffer) then (bif (bif (l_eqEntryS a0.IoBuffer a1.IoBuffer) then false else true) then (some [(.one (.b false))]) else (some [(.one (.b true))])) else none)) else none)) else none)) else none)

theorem nf_l_eqHost (N : Nat) (a0 : Host) (a1 : Host) : evalFn (cQ ctr21 mct0 pct0 tct0) (tmsOf []) N 12 8 [.agg (hostC a0), .agg (hostC a1)] = E_l_eqHost N a0 a1 := by kernel_rfl

theorem law_l_eqHost (a0 : Host) (a1 : Host) (hb : AllB big [.agg (hostC a0), .agg (hostC a1)]) (hc : (l_eqHost_c a0 a1) = true) : ∃ N, E_l_eqHost N a0 a1 = some [.one (.b (l_eqHost a0 a1))] := by
  have := pc_iff.1 hc
  subst this
  refine ⟨0, ?_⟩
  simp only [E_l_eqHost, l_eqIntSS_c, l_eqMonS_c, l_eqEntryS_c, l_eqIntSS, l_eqMonS, l_eqEntryS, pc_T, ine_self, beqb_self, cT, cF, Bool.not_true, l_eqHost]
theorem holds_l_eqHost : Holds Try.prog 8 run_l_eqHost := holds_fn ctr21_ok mct0_ok pct0_ok tct0_ok (fn_ok (by kernel_rfl)) fun avs rs hb h => by
  unfold run_l_eqHost at h
  split at h
  · obtain ⟨hc, rfl⟩ := some_pair h
    exact (fin2 law_l_eqHost nf_l_eqHost hc hb :)
  · cases h


noncomputable def ctr22 : Ctrs := [(8, run_l_eqHost)] ++ ctr21

theorem ctr22_ok : CtrsOk ctr22 := ctr_cons holds_l_eqHost ctr21_ok


noncomputable def ctrX : Ctrs := ctr22
theorem ctrX_ok : ∀ f run, aget ctrX f = some run → Holds Try.prog f run := ctr22_ok
end Go.Proofs.Ytcfnaifggdelnaa.E
