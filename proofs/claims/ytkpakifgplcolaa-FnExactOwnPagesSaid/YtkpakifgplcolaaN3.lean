/- What is proved here: putting numbers one by one into an ascending list gives what sorting and striking gives. -/
import Derived.Test.YtkpakifgplcolaaN1
namespace Go.Proofs.Ytkpakifgplcolaa.E
open Go

def putA : List Int → Int → List Int
  | [], n => [n]
  | x :: l, n => if x < n then x :: putA l n else if x = n then x :: l else n :: x :: l

def StrictUp (l : List Int) : Prop := l.Pairwise (· < ·)

theorem mem_putA : ∀ (l : List Int) (n x : Int), x ∈ putA l n ↔ x = n ∨ x ∈ l
  | [], n, x => by simp [putA]
  | y :: l, n, x => by
    unfold putA
    split
    · have := mem_putA l n x
      simp only [List.mem_cons, this]
      constructor
      · rintro (h | h | h) <;> simp [h]
      · rintro (h | h | h) <;> simp [h]
    · split
      · rename_i h
        subst h
        simp only [List.mem_cons]
        constructor
        · exact fun h => .inr h
        · rintro (h | h)
          · exact .inl h
          · exact h
      · simp only [List.mem_cons]

theorem up_putA : ∀ (l : List Int) (n : Int), StrictUp l → StrictUp (putA l n)
  | [], n, _ => by simp [putA, StrictUp]
  | y :: l, n, h => by
    have h1 := List.pairwise_cons.1 h
    unfold putA
    split
    · rename_i hlt
      refine List.pairwise_cons.2 ⟨fun z hz => ?_, up_putA l n h1.2⟩
      rcases (mem_putA l n z).1 hz with rfl | hz
      · exact hlt
      · exact h1.1 z hz
    · split
      · exact h
      · rename_i h2 h3
        refine List.pairwise_cons.2 ⟨fun z hz => ?_, h⟩
        rcases List.mem_cons.1 hz with rfl | hz
        · omega
        · have := h1.1 z hz
          omega

theorem up_ext : ∀ (l m : List Int), StrictUp l → StrictUp m → (∀ x, x ∈ l ↔ x ∈ m) → l = m
  | [], [], _, _, _ => rfl
  | [], y :: m, _, _, h => by have := (h y).2 (by simp); cases this
  | x :: l, [], _, _, h => by have := (h x).1 (by simp); cases this
  | x :: l, y :: m, hl, hm, h => by
    have h1 := List.pairwise_cons.1 hl
    have h2 := List.pairwise_cons.1 hm
    have e : x = y := by
      have a : x ∈ y :: m := (h x).1 (by simp)
      have b : y ∈ x :: l := (h y).2 (by simp)
      rcases List.mem_cons.1 a with a | a
      · exact a
      · rcases List.mem_cons.1 b with b | b
        · exact b.symm
        · have := h2.1 x a
          have := h1.1 y b
          omega
    subst e
    have ih := up_ext l m h1.2 h2.2 (fun z => by
      constructor
      · intro hz
        rcases List.mem_cons.1 ((h z).1 (by simp [hz])) with a | a
        · have := h1.1 z hz
          omega
        · exact a
      · intro hz
        rcases List.mem_cons.1 ((h z).2 (by simp [hz])) with a | a
        · have := h2.1 z hz
          omega
        · exact a)
    rw [ih]

def putAll (l : List Int) (xs : List Int) : List Int := xs.foldl putA l
theorem up_putAll : ∀ (xs l : List Int), StrictUp l → StrictUp (putAll l xs)
  | [], _, h => h
  | x :: xs, l, h => up_putAll xs (putA l x) (up_putA l x h)
theorem mem_putAll : ∀ (xs l : List Int) (x : Int), x ∈ putAll l xs ↔ x ∈ l ∨ x ∈ xs
  | [], l, x => by simp [putAll]
  | y :: xs, l, x => by
    have := mem_putAll xs (putA l y) x
    unfold putAll at this ⊢
    rw [List.foldl_cons, this, mem_putA, List.mem_cons]
    constructor
    · rintro ((h | h) | h) <;> simp [h]
    · rintro (h | h | h) <;> simp [h]

theorem sorted_get {d : List Int} (h : d.Pairwise (· ≤ ·)) {i j : Nat} (hij : i ≤ j) (hj : j < d.length) : d[i] ≤ d[j] := by
  by_cases e : i = j
  · subst e; exact Int.le_refl _
  · exact List.pairwise_iff_getElem.1 h i j (by omega) hj (by omega)
theorem get_bang {d : List Int} {i : Nat} (h : i < d.length) : d.toArray[i]! = d[i] := by simp [h]
theorem up_compact {d : List Int} (h : d.Pairwise (· ≤ ·)) : StrictUp (Lib.compact d) := by
  unfold StrictUp Lib.compact Lib.compactUpTo
  refine List.pairwise_map.2 (List.Pairwise.imp_of_mem ?_ (List.Pairwise.filter _ List.pairwise_lt_range))
  intro a b ha hb hab
  have hb1 := List.mem_filter.1 hb
  have hb2 : b < d.length := List.mem_range.1 hb1.1
  have hk := hb1.2
  have ha2 : a < d.length := by omega
  rw [get_bang ha2, get_bang hb2]
  have h1 : d[a] ≤ d[b - 1] := sorted_get h (by omega) (by omega)
  have h2 : d[b - 1] ≤ d[b] := sorted_get h (by omega) hb2
  have h3 : d[b - 1] ≠ d[b] := by
    intro e
    have : Lib.keeps d.toArray b = false := Lib.keeps_neg (by omega) (by rw [get_bang hb2, get_bang (by omega)]; exact e.symm)
    rw [this] at hk
    cases hk
  omega
theorem mem_compact {d : List Int} (x : Int) : x ∈ Lib.compact d ↔ x ∈ d := by
  unfold Lib.compact Lib.compactUpTo
  simp only [List.mem_map, List.mem_filter, List.mem_range]
  constructor
  · rintro ⟨j, ⟨hj, -⟩, rfl⟩
    rw [get_bang hj]
    exact List.getElem_mem hj
  · intro hx
    obtain ⟨j, hj, rfl⟩ := List.mem_iff_getElem.1 hx
    have key : ∀ (j : Nat) (hj : j < d.length), ∃ i, (i < d.length ∧ Lib.keeps d.toArray i = true) ∧ d.toArray[i]! = d[j] := by
      intro j
      induction j with
      | zero => exact fun hj => ⟨0, ⟨hj, Lib.keeps_lt_one _ 0 (by decide)⟩, get_bang hj⟩
      | succ j ih =>
        intro hj
        by_cases e : d[j + 1] = d[j]
        · obtain ⟨i, h1, h2⟩ := ih (by omega)
          exact ⟨i, h1, h2.trans e.symm⟩
        · exact ⟨j + 1, ⟨hj, Lib.keeps_pos (by rw [get_bang hj, get_bang (by omega)]; exact e)⟩, get_bang hj⟩
    exact key j hj
theorem putAll_asc (xs : List Int) : putAll [] xs = ascOf xs := by
  have hs : (xs.mergeSort fun x y => decide (x ≤ y)).Pairwise (· ≤ ·) := by
    have := List.pairwise_mergeSort (le := fun x y : Int => decide (x ≤ y)) (fun a b c h1 h2 => by simp at *; omega) (fun a b => by simp; omega) xs
    exact this.imp (fun h => by simpa using h)
  refine up_ext _ _ (up_putAll xs [] List.Pairwise.nil) (up_compact hs) (fun x => ?_)
  rw [mem_putAll, ascOf, mem_compact, List.mem_mergeSort]
  simp
theorem putA_len : ∀ (l : List Int) (n : Int), (putA l n).length ≤ l.length + 1
  | [], n => by simp [putA]
  | x :: l, n => by
    have := putA_len l n
    unfold putA
    split
    · simp; omega
    · split <;> simp
end Go.Proofs.Ytkpakifgplcolaa.E
