/- What is proved here: more laws of plain data: copies, comparisons, sizes; indexes. -/
import Derived.Test.YtcfnaifggdelnaaP1
namespace Go.Proofs.Ytcfnaifggdelnaa.E
open Go
set_option linter.unusedVariables false

/-! Copies. -/

/-- A loop that copies element by element. -/
theorem to_loop {α ρ : Type} (l : List α) (d : α) (c : α → Bool) (f : α → α) (K : List α → Option ρ) (hl : l.length ≤ big) (hf : ∀ x ∈ l, c x = true ∧ f x = x) {N : Nat} (hN : l.length < N) :
    iter N (fun r (s : Int × List α × List α × Unit) => (bif (ilt s.1 (ln s.2.1)) then (bif (inb s.1 (ln s.2.1)) then (bif (c (ix s.2.1 s.1 d)) then (bif (inb s.1 (ln s.2.2.1)) then
      (r ((wadd .i64 s.1 1), (s.2.1, ((up s.2.2.1 s.1 (f (ix s.2.1 s.1 d))), ())))) else none) else none) else none) else K s.2.2.1)) (0, (l, ((rp (ln l) d), ()))) = K l := by
  -- the copies so far, then what was laid
  have key : ∀ (m i N : Nat), l.length - i = m → i ≤ l.length → m < N → iter N (fun r (s : Int × List α × List α × Unit) => (bif (ilt s.1 (ln s.2.1)) then (bif (inb s.1 (ln s.2.1)) then (bif (c (ix s.2.1 s.1 d)) then (bif (inb s.1 (ln s.2.2.1)) then
      (r ((wadd .i64 s.1 1), (s.2.1, ((up s.2.2.1 s.1 (f (ix s.2.1 s.1 d))), ())))) else none) else none) else none) else K s.2.2.1)) ((i : Int), (l, (l.take i ++ List.replicate (l.length - i) d, ()))) = K l := by
    intro m
    induction m with
    | zero =>
      intro i N hm hi hN
      have : i = l.length := by omega
      subst this
      obtain ⟨n, rfl⟩ : ∃ n, N = n + 1 := ⟨N - 1, by omega⟩
      rw [iter_succ]
      simp only [ilt_end, cF]
      simp
    | succ m ih =>
      intro i N hm hi hN
      obtain ⟨n, rfl⟩ : ∃ n, N = n + 1 := ⟨N - 1, by omega⟩
      have hlt : i < l.length := by omega
      have hlen : (l.take i ++ List.replicate (l.length - i) d).length = l.length := by simp; omega
      obtain ⟨h1, h2⟩ := hf l[i] (List.getElem_mem hlt)
      have hup : up (l.take i ++ List.replicate (l.length - i) d) (i : Int) l[i] = l.take (i + 1) ++ List.replicate (l.length - (i + 1)) d := by
        unfold up
        apply List.ext_getElem?
        intro k
        have e : (i : Int).toNat = i := by omega
        rw [e, List.getElem?_set]
        by_cases hk : i = k
        · subst hk
          rw [if_pos rfl, if_pos (by omega), List.getElem?_append_left (by simp; omega), List.getElem?_take, if_pos (by omega), List.getElem?_eq_getElem hlt]
        · rw [if_neg hk]
          by_cases hki : k < i
          · rw [List.getElem?_append_left (by simp; omega), List.getElem?_append_left (by simp; omega), List.getElem?_take, List.getElem?_take, if_pos hki, if_pos (by omega)]
          · have e1 : (l.take i).length = i := by simp; omega
            have e2 : (l.take (i + 1)).length = i + 1 := by simp; omega
            rw [List.getElem?_append_right (by omega), List.getElem?_append_right (by omega), List.getElem?_replicate, List.getElem?_replicate, e1, e2]
            by_cases hkl : k < l.length
            · rw [if_pos (by omega), if_pos (by omega)]
            · rw [if_neg (by omega), if_neg (by omega)]
      rw [iter_succ]
      simp only [ilt_ln hlt, inb_ln hlt, ix_ln hlt, h1, h2, cT, inb_ln (l := l.take i ++ List.replicate (l.length - i) d) (i := i) (by omega), wadd_up hlt hl, hup]
      exact ih (i + 1) n (by omega) (by omega) (by omega)
  have := key l.length 0 N (by omega) (Nat.zero_le _) hN
  have e : rp (ln l) d = List.replicate l.length d := by simp [rp, ln]
  rw [e]
  simpa using this

/-- A loop that holds two lists against each other: the same list. -/
theorem eq_loop {α ρ : Type} (l : List α) (d : α) (F : (Int × List α × List α × Unit → Option ρ) → Int × List α × List α × Unit → Option ρ) (k : Option ρ) (hl : l.length ≤ big)
    (hstep : ∀ (i : Nat) (hi : i < l.length) rec, F rec ((i : Int), l, l, ()) = rec (wadd .i64 (i : Int) 1, l, l, ())) (hend : ∀ rec, F rec ((l.length : Int), l, l, ()) = k) {N : Nat} (hN : l.length < N) :
    iter N F (0, (l, (l, ()))) = k := by
  have key : ∀ (m i N : Nat), l.length - i = m → i ≤ l.length → m < N → iter N F ((i : Int), (l, (l, ()))) = k := by
    intro m
    induction m with
    | zero =>
      intro i N hm hi hN
      have : i = l.length := by omega
      subst this
      obtain ⟨n, rfl⟩ : ∃ n, N = n + 1 := ⟨N - 1, by omega⟩
      rw [iter_succ, hend]
    | succ m ih =>
      intro i N hm hi hN
      obtain ⟨n, rfl⟩ : ∃ n, N = n + 1 := ⟨N - 1, by omega⟩
      have hlt : i < l.length := by omega
      rw [iter_succ, hstep i hlt, wadd_up hlt hl]
      exact ih (i + 1) n (by omega) (by omega) (by omega)
  exact key l.length 0 N (by omega) (Nat.zero_le _) hN

/-- Small enough to be copied. -/
def sm : Nat := 1048576

def szL {α : Type} (l : List α) (n : Int) : Int := if n - l.length < 0 then -1 else n - l.length
theorem szL_eq {α : Type} {l : List α} {n : Int} (hl : l.length ≤ big) (h0 : 0 ≤ n) (h1 : n ≤ 1048576) : wsub .i64 n (ln l) = n - l.length := by
  rw [big_val] at hl
  exact wsub_id (by simp only [ln]; omega) (by simp only [ln]; omega)
theorem pc_rfl {α : Type} (x : α) : pc (x = x) = true := pc_true rfl
theorem pc_T : pc True = true := pc_true trivial
theorem sm_big {n : Nat} (h : n ≤ sm) : n ≤ big ∧ n ≤ 2147483648 := by
  unfold sm at h
  rw [big_val]
  omega
def hasB (i n : Int) : Bool := decide (0 ≤ i ∧ i < n)

theorem has_eq (i n : Int) : (ige i 0 && ilt i n) = hasB i n := by
  unfold ige ilt hasB
  by_cases h1 : 0 ≤ i <;> by_cases h2 : i < n <;> simp [h1, h2]
theorem inb_has {i n : Int} (h : hasB i n = true) : inb i n = true := h
theorem has_nat {i : Int} {n : Nat} (h : hasB i n = true) : ∃ k : Nat, i = k ∧ k < n := by
  have : 0 ≤ i ∧ i < n := of_decide_eq_true h
  exact ⟨i.toNat, by omega, by omega⟩
theorem ix_mem {α : Type} {l : List α} {i : Int} (h : hasB i (ln l) = true) (d : α) : ix l i d ∈ l := by
  obtain ⟨k, rfl, hk⟩ := has_nat (n := l.length) h
  rw [ix_ln hk]
  exact List.getElem_mem hk

theorem ap_nil {α : Type} (l : List α) : ap [] l = l := rfl

theorem app_loop {α ρ : Type} (c : α → Bool) (f : α → α) (K : List α → Option ρ) : ∀ (l : List α) (i : Nat) (acc : List α), (∀ x ∈ l, c x = true ∧ f x = x) → acc.length + l.length ≤ 2147483648 →
    goL (fun _ x acc k => bif c x then (bif few (ln (ap acc [f x])) then k (ap acc [f x]) else none) else none) K l i acc = K (acc ++ l)
  | [], i, acc, _, _ => by simp [goL]
  | x :: l, i, acc, h, hn => by
    obtain ⟨h1, h2⟩ := h x (by simp)
    simp only [List.length_cons] at hn
    simp only [goL, h1, h2, cT]
    rw [few_ln (by simp [ap]; omega), cT, app_loop c f K l (i + 1) _ (fun y hy => h y (by simp [hy])) (by simp [ap]; omega)]
    simp [ap]

/-- A host whose slices are short. -/
def SmHost (h : Host) : Prop := ∀ c ∈ hostC h, CVB sm c
theorem SmHost.mem {h : Host} (hs : SmHost h) : CVB sm (.s (.sl .int) h.Memory) := hs _ (by simp [hostC])
theorem SmHost.mons {h : Host} (hs : SmHost h) : CVB sm (.s .mon h.Mons) := hs _ (by simp [hostC])
theorem SmHost.buf {h : Host} (hs : SmHost h) : CVB sm (.s .entry h.Buffer) := hs _ (by simp [hostC])
theorem SmHost.iob {h : Host} (hs : SmHost h) : CVB sm (.s .entry h.IoBuffer) := hs _ (by simp [hostC])

/-- A struct's copy: its slices are short. -/
theorem few_of {t : Ty} {l : List t.den} (h : CVB sm (.s t l)) : few (ln l) = true := few_ln (sm_big h.len).2

/-- More than any loop takes. -/
def NN : Nat := big + 1
theorem NN_lt {n : Nat} (h : n ≤ big) : n < NN := Nat.lt_succ_of_le h

theorem app_map {α β ρ : Type} (c : α → Bool) (f : α → β) (K : List β → Option ρ) : ∀ (l : List α) (i : Nat) (acc : List β), (∀ x ∈ l, c x = true) → acc.length + l.length ≤ 2147483648 →
    goL (fun _ x acc k => bif c x then (bif few (ln (ap acc [f x])) then k (ap acc [f x]) else none) else none) K l i acc = K (acc ++ l.map f)
  | [], i, acc, _, _ => by simp [goL]
  | x :: l, i, acc, h, hn => by
    have h1 := h x (by simp)
    simp only [List.length_cons] at hn
    simp only [goL, h1, cT]
    rw [few_ln (by simp [ap]; omega), cT, app_map c f K l (i + 1) _ (fun y hy => h y (by simp [hy])) (by simp [ap]; omega)]
    simp [ap]

theorem goL_none {α ρ : Type} (p : α → Bool) (r : Option ρ) (K : Unit → Option ρ) : ∀ (l : List α) (i : Nat), goL (fun _ x (_ : Unit) k => bif p x then r else k ()) K l i () = bif l.any p then r else K ()
  | [], _ => rfl
  | x :: l, i => by
    simp only [goL, List.any_cons]
    cases p x
    · simp only [cF, Bool.false_or]
      exact goL_none p r K l (i + 1)
    · rfl

def monOf (h : Host) (m : Int) : Mon := bif hasB m (ln h.Mons) then ix h.Mons m (Ty.dflt .mon) else Ty.dflt .mon

theorem has_ige {g : Int} {n m : Int} (h : hasB g n = true) : ige g m = !hasB g m := by
  have : 0 ≤ g ∧ g < n := of_decide_eq_true h
  unfold ige hasB
  by_cases h1 : g < m
  · rw [decide_eq_false (p := g ≥ m) (by omega), decide_eq_true (p := 0 ≤ g ∧ g < m) (by omega)]; rfl
  · rw [decide_eq_true (p := g ≥ m) (by omega), decide_eq_false (p := 0 ≤ g ∧ g < m) (by omega)]; rfl


/-- All numbers below. -/
def allN (p : Nat → Bool) : Nat → Nat → Bool
  | 0, _ => true
  | n + 1, i => p i && allN p n (i + 1)

theorem goN_all {ρ : Type} (p : Nat → Bool) (r : Option ρ) (K : Unit → Option ρ) : ∀ (n i : Nat), goN (fun i (_ : Unit) k => bif p i then k () else r) K n i () = bif allN p n i then K () else r
  | 0, _ => rfl
  | n + 1, i => by
    simp only [goN, allN]
    cases p i
    · rfl
    · simp only [cT, Bool.true_and]
      exact goN_all p r K n (i + 1)

theorem goL_goN {α τ ρ : Type} (b : Nat → τ → (τ → Option ρ) → Option ρ) (K : τ → Option ρ) : ∀ (l : List α) (i : Nat) (t : τ), goL (fun i _ t k => b i t k) K l i t = goN b K l.length i t
  | [], _, _ => rfl
  | _ :: l, i, t => by
    have ih : goL (fun i _ t k => b i t k) K l (i + 1) = goN b K l.length (i + 1) := funext fun t => goL_goN b K l (i + 1) t
    simp only [goL, List.length_cons, goN, ih]

theorem goL_all {α ρ : Type} (p : α → Bool) (r : Option ρ) (K : Unit → Option ρ) : ∀ (l : List α) (i : Nat), goL (fun _ x (_ : Unit) k => bif p x then k () else r) K l i () = bif l.all p then K () else r
  | [], _ => rfl
  | x :: l, i => by
    simp only [goL, List.all_cons]
    cases p x
    · rfl
    · simp only [cT, Bool.true_and]
      exact goL_all p r K l (i + 1)

theorem l01In_len' {n : Nat} (hn : n ≤ big) (i : Int) : (ige i 0 && ile i (wsub .i64 (n : Int) 1)) = hasB i n := by
  rw [big_val] at hn
  rw [wsub_id (by omega) (by omega)]
  unfold ige ile hasB
  by_cases h1 : 0 ≤ i <;> by_cases h2 : i < n
  · rw [decide_eq_true (p := i ≥ 0) (by omega), decide_eq_true (p := i ≤ (n : Int) - 1) (by omega), decide_eq_true (p := 0 ≤ i ∧ i < (n : Int)) ⟨h1, h2⟩]; rfl
  · rw [decide_eq_false (p := i ≤ (n : Int) - 1) (by omega), decide_eq_false (p := 0 ≤ i ∧ i < (n : Int)) (by omega)]; simp
  · rw [decide_eq_false (p := i ≥ 0) (by omega), decide_eq_false (p := 0 ≤ i ∧ i < (n : Int)) (by omega)]; simp
  · rw [decide_eq_false (p := i ≥ 0) (by omega), decide_eq_false (p := 0 ≤ i ∧ i < (n : Int)) (by omega)]; simp

/-! Loops that count; lists that are written. -/
/-- A loop that counts up, of whose state something is known. -/
theorem iter_to {σ ρ τ : Type} (n : Nat) (st : Nat → τ → σ) (F : (σ → Option ρ) → σ → Option ρ) (I : Nat → τ → Prop) (res : Nat → τ → Option ρ)
    (hstep : ∀ (i : Nat) (t : τ) (rec : σ → Option ρ), i < n → I i t → (∀ t', I (i + 1) t' → rec (st (i + 1) t') = res (i + 1) t') → F rec (st i t) = res i t)
    (hend : ∀ (t : τ) (rec : σ → Option ρ), I n t → F rec (st n t) = res n t) : ∀ (N i : Nat) (t : τ), I i t → i ≤ n → n - i < N → iter N F (st i t) = res i t := by
  have key : ∀ (m N i : Nat) (t : τ), n - i = m → I i t → i ≤ n → m < N → iter N F (st i t) = res i t := by
    intro m
    induction m with
    | zero =>
      intro N i t hm hI hi hN
      obtain ⟨k, rfl⟩ : ∃ k, N = k + 1 := ⟨N - 1, by omega⟩
      have : i = n := by omega
      subst this
      rw [iter_succ]
      exact hend t _ hI
    | succ m ih =>
      intro N i t hm hI hi hN
      obtain ⟨k, rfl⟩ : ∃ k, N = k + 1 := ⟨N - 1, by omega⟩
      rw [iter_succ]
      exact hstep i t _ (by omega) hI (fun t' hI' => ih k (i + 1) t' (by omega) hI' (by omega) (by omega))
  intro N i t hI hi hN
  exact key (n - i) N i t rfl hI hi hN

section
variable {α : Type}
theorem up_self {l : List α} {i : Nat} (h : i < l.length) (d : α) : up l (i : Int) (ix l (i : Int) d) = l := by
  rw [ix_ln h]
  unfold up
  apply List.ext_getElem?
  intro k
  rw [List.getElem?_set]
  have e : (i : Int).toNat = i := by omega
  rw [e]
  by_cases hk : i = k
  · subst hk
    simp [h]
  · simp [hk]
theorem ix_up {l : List α} {i : Nat} (h : i < l.length) (x d : α) : ix (up l (i : Int) x) (i : Int) d = x := by
  unfold ix up
  have e : (i : Int).toNat = i := by omega
  rw [e]
  simp [List.getD, h]
theorem up_up (l : List α) (i : Int) (x y : α) : up (up l i x) i y = up l i y := by
  unfold up
  simp
theorem take_up {l : List α} {i : Nat} (h : i < l.length) (x : α) : (up l (i : Int) x).take (i + 1) = l.take i ++ [x] := by
  unfold up
  have e : (i : Int).toNat = i := by omega
  rw [e]
  apply List.ext_getElem?
  intro k
  by_cases hk : k < i
  · rw [List.getElem?_take, if_pos (by omega), List.getElem?_set, if_neg (by omega), List.getElem?_append_left (by simp; omega), List.getElem?_take, if_pos hk]
  · have hl : (l.take i).length = i := by simp; omega
    rw [List.getElem?_take, List.getElem?_append_right (by omega), hl]
    by_cases hk2 : k = i
    · subst hk2
      simp [h]
    · rw [if_neg (by omega), List.getElem?_eq_none (by simp; omega)]
theorem drop_up {l : List α} {i : Nat} (x : α) : (up l (i : Int) x).drop (i + 1) = l.drop (i + 1) := by
  unfold up
  have e : (i : Int).toNat = i := by omega
  rw [e]
  apply List.ext_getElem?
  intro k
  rw [List.getElem?_drop, List.getElem?_drop, List.getElem?_set, if_neg (by omega)]
theorem get_up {l : List α} {i k : Nat} (h : i < k) (x : α) : (up l (i : Int) x)[k]? = l[k]? := by
  unfold up
  have e : (i : Int).toNat = i := by omega
  rw [e, List.getElem?_set, if_neg (by omega)]
end
end Go.Proofs.Ytcfnaifggdelnaa.E
