/- What is proved here: laws of 'a value in memory reads as plain data', with or without ownership; reading and replacing a slice at a path below a slice. -/
import Derived.Test.YtcfnaifggdelnaaE2
import Derived.Calls
import Derived.LoopN
namespace Go.Proofs.Ytcfnaifggdelnaa.E
open Go

abbrev BSet := Nat → Prop

/-- The greatest length that is spoken of. -/
def big : Nat := 140737488355328

theorem cells_len (t : Ty) (x : t.den) : (t.cells x).length = t.width := by
  cases t <;> rfl

theorem shape_len (t : Ty) : t.shape.length = t.width := by
  cases t <;> rfl

theorem cells_ty (t : Ty) (x : t.den) : (t.cells x).map CV.ty = t.shape := by
  cases t <;> rfl

theorem ofCells_cells {t : Ty} {cs : List CV} {x : t.den} (h : t.ofCells cs = some x) : t.cells x = cs := by
  cases t <;> simp only [Ty.ofCells] at h <;> split at h <;> first
    | (cases h; rfl)
    | (split at h
       · rename_i hh; cases hh; cases h; rfl
       · cases h)
    | cases h

/-- A value in the world w reads as the content c; the blocks that it takes lie in S. With 'o': they are its own (not frozen, no block met twice). -/
inductive Rep (o : Bool) (w : World) : Value → CV → BSet → Prop
  | i (k : IntKind) (n : Int) (S : BSet) : Rep o w (.int k n) (.i k n) S
  | b (x : Bool) (S : BSet) : Rep o w (.bool x) (.b x) S
  | nil (t : Ty) (S : BSet) : Rep o w (.slice none 0 0) (.s t []) S
  | void (t : Ty) (a : Addr) (S : BSet) (ho : o = false) : Rep o w (.slice (some a) 0 0) (.s t []) S
  | sl (t : Ty) (l : List t.den) (b off cap : Nat) (arr : Array Value) (e : TypeId) (fz : Nat × Nat) (V : Nat → Nat → Value) (K : Nat → Nat → BSet) (S : BSet)
      (hb : w.heap[b]? = some (.cells arr e fz)) (hfz : o = true → fz = (0, 0))
      (hlen : l.length ≤ big) (hcap : l.length ≤ cap) (hsz : off + cap * t.width ≤ arr.size)
      (hS : S b) (hsub : ∀ i j x, i < l.length → j < t.width → K i j x → S x ∧ (o = true → x ≠ b))
      (hdis : o = true → ∀ i j i' j' x, i < l.length → j < t.width → i' < l.length → j' < t.width → K i j x → K i' j' x → i = i' ∧ j = j')
      (hv : ∀ i j, i < l.length → j < t.width → arr[off + i * t.width + j]? = some (V i j))
      (hc : ∀ i x, l[i]? = some x → ∀ j c, (t.cells x)[j]? = some c → Rep o w (V i j) c (K i j)) :
      Rep o w (.slice (some ⟨b, off, none⟩) l.length cap) (.s t l) S

theorem Rep.frame {o : Bool} {w w' : World} {v : Value} {c : CV} {S : BSet} (h : Rep o w v c S) (hf : ∀ x, S x → w'.heap[x]? = w.heap[x]?) : Rep o w' v c S := by
  induction h with
  | i k n S => exact .i k n S
  | b x S => exact .b x S
  | nil t S => exact .nil t S
  | void t a S ho => exact .void t a S ho
  | sl t l b off cap arr e fz V K S hb hfz hlen hcap hsz hS hsub hdis hv hc ih =>
    refine .sl t l b off cap arr e fz V K S ((hf b hS).trans hb) hfz hlen hcap hsz hS hsub hdis hv ?_
    intro i x hx j c hcj
    have hi : i < l.length := (List.getElem?_eq_some_iff.1 hx).1
    have hj : j < t.width := by have := (List.getElem?_eq_some_iff.1 hcj).1; rw [cells_len] at this; exact this
    exact ih i x hx j c hcj (fun y hy => hf y (hsub i j y hi hj hy).1)

theorem Rep.weak {o : Bool} {w : World} {v : Value} {c : CV} {S S' : BSet} (h : Rep o w v c S) (hs : ∀ x, S x → S' x) : Rep o w v c S' := by
  cases h with
  | i k n => exact .i k n S'
  | b x => exact .b x S'
  | nil t => exact .nil t S'
  | void t a _ ho => exact .void t a S' ho
  | sl t l b off cap arr e fz V K _ hb hfz hlen hcap hsz hS hsub hdis hv hc =>
    exact .sl t l b off cap arr e fz V K S' hb hfz hlen hcap hsz (hs _ hS) (fun i j x hi hj hk => ⟨hs _ (hsub i j x hi hj hk).1, (hsub i j x hi hj hk).2⟩) hdis hv hc

theorem Rep.ro {o : Bool} {w : World} {v : Value} {c : CV} {S : BSet} (h : Rep o w v c S) : Rep false w v c S := by
  induction h with
  | i k n S => exact .i k n S
  | b x S => exact .b x S
  | nil t S => exact .nil t S
  | void t a S ho => exact .void t a S rfl
  | sl t l b off cap arr e fz V K S hb hfz hlen hcap hsz hS hsub hdis hv hc ih =>
    exact .sl t l b off cap arr e fz V K S hb (fun h => by cases h) hlen hcap hsz hS (fun i j x hi hj hk => ⟨(hsub i j x hi hj hk).1, fun h => by cases h⟩) (fun h => by cases h) hv ih

/-- What is known of a slice's value. -/
theorem Rep.len {o : Bool} {w : World} {v : Value} {t : Ty} {l : List t.den} {S : BSet} (h : Rep o w v (.s t l) S) :
    (∃ a cap, v = .slice a l.length cap ∧ l.length ≤ cap) ∧ l.length ≤ big := by
  cases h with
  | nil => exact ⟨⟨none, 0, rfl, Nat.le_refl _⟩, Nat.zero_le _⟩
  | void t a _ ho => exact ⟨⟨some a, 0, rfl, Nat.le_refl _⟩, Nat.zero_le _⟩
  | sl _ _ b off cap arr e fz V K _ hb hfz hlen hcap => exact ⟨⟨_, cap, rfl, hcap⟩, hlen⟩

theorem Rep.int_inv {o : Bool} {w : World} {v : Value} {k : IntKind} {n : Int} {S : BSet} (h : Rep o w v (.i k n) S) : v = .int k n := by
  cases h; rfl
theorem Rep.bool_inv {o : Bool} {w : World} {v : Value} {x : Bool} {S : BSet} (h : Rep o w v (.b x) S) : v = .bool x := by
  cases h; rfl

/-- The real header of the slice at a path below a slice. -/
def hdrAt (w : World) : Ty → Value → List (Int × Nat) → Option Value
  | _, v, [] => some v
  | t, .slice (some a) len _, (i, j) :: p =>
    if 0 ≤ i ∧ i.toNat < len then
      match t.shape[j]? with
      | some (.s t') => match w.cell? ⟨a.block, a.off + i.toNat * t.width + j, none⟩ with
        | some v' => hdrAt w t' v' p
        | none => none
      | _ => none
    else none
  | _, _, _ => none

def tyAt : Ty → List (Int × Nat) → Option Ty
  | t, [] => some t
  | t, (_, j) :: p => match t.shape[j]? with
    | some (.s t') => tyAt t' p
    | _ => none

theorem shape_at {t : Ty} {x : t.den} {j : Nat} {c : CV} (h : (t.cells x)[j]? = some c) : t.shape[j]? = some c.ty := by
  have := cells_ty t x
  rw [← this, List.getElem?_map, h]; rfl

theorem ty_at {t : Ty} {x : t.den} {j : Nat} {ct : CTy} (h : t.shape[j]? = some ct) : ∃ c, (t.cells x)[j]? = some c ∧ c.ty = ct := by
  have h2 := cells_ty t x
  rw [← h2, List.getElem?_map] at h
  cases hc : (t.cells x)[j]? with
  | none => rw [hc] at h; cases h
  | some c => rw [hc] at h; exact ⟨c, rfl, by simpa using h⟩

theorem cv_ty_s {c : CV} {t : Ty} (h : c.ty = .s t) : ∃ l : List t.den, c = .s t l := by
  cases c with
  | i k n => cases h
  | b x => cases h
  | s t' l => cases h; exact ⟨l, rfl⟩

theorem cell_of_block {w : World} {b o : Nat} {arr : Array Value} {e : TypeId} {fz : Nat × Nat} (hb : w.heap[b]? = some (.cells arr e fz)) : w.cell? ⟨b, o, none⟩ = arr[o]? := by
  simp [World.cell?, hb]

theorem ix_some {α : Type} {l : List α} {i : Int} {d : α} (h : i.toNat < l.length) : l[i.toNat]? = some (ix l i d) := by
  simp [ix, List.getD, List.getElem?_eq_getElem h]

/-- **Reading at a path**: what a path leads to in memory reads as what it leads to in the data. -/
theorem Rep.at {o : Bool} {w : World} : ∀ (p : List (Int × Nat)) {v v' : Value} {t : Ty} {l : List t.den} {S : BSet}, Rep o w v (.s t l) S → hdrAt w t v p = some v' →
    ∃ (t' : Ty) (l' : List t'.den) (S' : BSet), getP t l p = some (.s t' l') ∧ tyAt t p = some t' ∧ Rep o w v' (.s t' l') S' ∧ ∀ x, S' x → S x := by
  intro p
  induction p with
  | nil =>
    intro v v' t l S h hh
    simp only [hdrAt, Option.some.injEq] at hh
    subst hh
    exact ⟨t, l, S, rfl, rfl, h, fun _ hx => hx⟩
  | cons ij p ih =>
    obtain ⟨i, j⟩ := ij
    intro v v' t l S h hh
    cases h with
    | nil => simp [hdrAt] at hh
    | void => simp [hdrAt] at hh
    | sl _ _ b off cap arr e fz V K _ hb hfz hlen hcap hsz hS hsub hdis hv hc =>
      simp only [hdrAt] at hh
      split at hh
      · rename_i hi
        split at hh
        · rename_i t' hsh
          rw [cell_of_block hb] at hh
          have hj : j < t.width := by rw [← shape_len]; exact (List.getElem?_eq_some_iff.1 hsh).1
          rw [hv i.toNat j hi.2 hj] at hh
          simp only at hh
          obtain ⟨c, hcj, hct⟩ := ty_at (x := ix l i t.dflt) hsh
          obtain ⟨l', rfl⟩ := cv_ty_s hct
          have hr := hc i.toNat _ (ix_some hi.2) j _ hcj
          obtain ⟨t2, l2, S2, h1, h2, h3, h4⟩ := ih hr hh
          refine ⟨t2, l2, S2, ?_, ?_, h3, fun x hx => (hsub i.toNat j x hi.2 hj (h4 x hx)).1⟩
          · simp only [getP, hcj, h1]
          · simp only [tyAt, hsh, h2]
        · cases hh
      · cases hh

theorem hdrAt_frame {o : Bool} {w w' : World} : ∀ (p : List (Int × Nat)) {v : Value} {t : Ty} {l : List t.den} {S : BSet}, Rep o w v (.s t l) S → (∀ x, S x → w'.heap[x]? = w.heap[x]?) → hdrAt w' t v p = hdrAt w t v p := by
  intro p
  induction p with
  | nil => intro v t l S _ _; rfl
  | cons ij p ih =>
    obtain ⟨i, j⟩ := ij
    intro v t l S h hf
    cases h with
    | nil => rfl
    | void => simp [hdrAt]
    | sl _ _ b off cap arr e fz V K _ hb hfz hlen hcap hsz hS hsub hdis hv hc =>
      simp only [hdrAt]
      split
      · rename_i hi
        split
        · rename_i t' hsh
          rw [cell_of_block hb, cell_of_block ((hf b hS).trans hb)]
          have hj : j < t.width := by rw [← shape_len]; exact (List.getElem?_eq_some_iff.1 hsh).1
          rw [hv i.toNat j hi.2 hj]
          simp only
          obtain ⟨c, hcj, hct⟩ := ty_at (x := ix l i t.dflt) hsh
          obtain ⟨l', rfl⟩ := cv_ty_s hct
          exact ih (hc i.toNat _ (ix_some hi.2) j _ hcj) (fun x hx => hf x (hsub i.toNat j x hi.2 hj hx).1)
        · rfl
      · rfl

theorem map_ty_i {cs : List CV} {k : IntKind} {r : List CTy} (h : cs.map CV.ty = .i k :: r) : ∃ n cs', cs = .i k n :: cs' ∧ cs'.map CV.ty = r := by
  cases cs with
  | nil => cases h
  | cons c cs =>
    simp only [List.map_cons, List.cons.injEq] at h
    cases c with
    | i k' n => obtain ⟨h1, h2⟩ := h; cases h1; exact ⟨n, cs, rfl, h2⟩
    | b x => cases h.1
    | s t l => cases h.1
theorem map_ty_b {cs : List CV} {r : List CTy} (h : cs.map CV.ty = .b :: r) : ∃ x cs', cs = .b x :: cs' ∧ cs'.map CV.ty = r := by
  cases cs with
  | nil => cases h
  | cons c cs =>
    simp only [List.map_cons, List.cons.injEq] at h
    cases c with
    | i k' n => cases h.1
    | b x => exact ⟨x, cs, rfl, h.2⟩
    | s t l => cases h.1
theorem map_ty_s {cs : List CV} {t : Ty} {r : List CTy} (h : cs.map CV.ty = .s t :: r) : ∃ (l : List t.den) (cs' : List CV), cs = .s t l :: cs' ∧ cs'.map CV.ty = r := by
  cases cs with
  | nil => cases h
  | cons c cs =>
    simp only [List.map_cons, List.cons.injEq] at h
    cases c with
    | i k' n => cases h.1
    | b x => cases h.1
    | s t' l => obtain ⟨h1, h2⟩ := h; cases h1; exact ⟨l, cs, rfl, h2⟩

theorem ofCells_ty : ∀ {t : Ty} {cs : List CV}, cs.map CV.ty = t.shape → ∃ x, t.ofCells cs = some x := by
  intro t cs h
  cases t <;> simp only [Ty.shape] at h <;>
    (repeat (first
      | (obtain ⟨n, cs', h1, h2⟩ := map_ty_i h; subst h1; clear h; rename _ => h)
      | (obtain ⟨n, cs', h1, h2⟩ := map_ty_b h; subst h1; clear h; rename _ => h)
      | (obtain ⟨n, cs', h1, h2⟩ := map_ty_s h; subst h1; clear h; rename _ => h))) <;>
    (cases (List.map_eq_nil_iff.1 h); first | exact ⟨_, rfl⟩ | exact ⟨_, dif_pos rfl⟩)

theorem splice_len {α : Type} (l : List α) (off : Nat) (new : List α) (h : off + new.length ≤ l.length) : (splice l off new).length = l.length := by
  simp [splice]; omega

theorem splice_in {α : Type} (l : List α) (off : Nat) (new : List α) (h : off + new.length ≤ l.length) (j : Nat) (h1 : off ≤ j) (h2 : j < off + new.length) : (splice l off new)[j]? = new[j - off]? := by
  unfold splice
  rw [List.append_assoc, List.getElem?_append_right (by simp; omega), List.getElem?_append_left (by simp; omega)]
  congr 1; simp; omega

theorem splice_out {α : Type} (l : List α) (off : Nat) (new : List α) (h : off + new.length ≤ l.length) (j : Nat) (h1 : j < off ∨ off + new.length ≤ j) : (splice l off new)[j]? = l[j]? := by
  unfold splice
  rcases h1 with h1 | h1
  · rw [List.append_assoc, List.getElem?_append_left (by simp; omega), List.getElem?_take]
    simp [h1]
  · rw [List.append_assoc, List.getElem?_append_right (by simp; omega), List.getElem?_append_right (by simp; omega), List.getElem?_drop]
    congr 1; simp; omega

theorem splice_map {α β : Type} (f : α → β) (l : List α) (off : Nat) (new : List α) : (splice l off new).map f = splice (l.map f) off (new.map f) := by
  simp [splice, List.map_take, List.map_drop]

theorem splice_same {α : Type} (l : List α) (off : Nat) (new : List α) (h : off + new.length ≤ l.length) (hs : ∀ k, k < new.length → l[off + k]? = new[k]?) : splice l off new = l := by
  apply List.ext_getElem?
  intro j
  by_cases h1 : off ≤ j ∧ j < off + new.length
  · rw [splice_in l off new h j h1.1 h1.2, ← hs (j - off) (by omega)]
    congr 1; omega
  · rw [splice_out l off new h j (by omega)]

theorem up_at {α : Type} {l : List α} {i : Int} {x : α} {k : Nat} (h : k < l.length) : (up l i x)[k]? = if i.toNat = k then some x else l[k]? := by
  unfold up
  rw [List.getElem?_set]
  split
  · rename_i h1; subst h1; simp [h]
  · rfl

theorem up_len {α : Type} (l : List α) (i : Int) (x : α) : (up l i x).length = l.length := by simp [up]

/-- **A slice below a slice, and all the rest**: if what lies below the path is turned into another slice under the same header, and nothing else is touched, the whole reads as its data with that part replaced; and a path that does not lead through the part still leads where it led. -/
theorem Rep.focus {w : World} : ∀ (p : List (Int × Nat)) {v v' : Value} {t : Ty} {l : List t.den} {S : BSet}, Rep true w v (.s t l) S → hdrAt w t v p = some v' →
    ∃ (t' : Ty) (l' : List t'.den) (S1 : BSet), getP t l p = some (.s t' l') ∧ tyAt t p = some t' ∧ Rep true w v' (.s t' l') S1 ∧ (∀ x, S1 x → S x) ∧
      ∀ (w' : World) (l2 : List t'.den) (S2 : BSet), (∀ x, S x → ¬ S1 x → w'.heap[x]? = w.heap[x]?) → (∀ x, S2 x → S x → S1 x) → Rep true w' v' (.s t' l2) S2 →
        ∃ m, putP t l p (.s t' l2) = some m ∧ Rep true w' v (.s t m) (fun x => (S x ∧ ¬ S1 x) ∨ S2 x) ∧
          (∀ q u, hdrAt w t v q = some u → (∀ q', q = p ++ q' → q' = []) → hdrAt w' t v q = some u) ∧
          (∀ q', hdrAt w' t v (p ++ q') = hdrAt w' t' v' q') := by
  intro p
  induction p with
  | nil =>
    intro v v' t l S h hh
    simp only [hdrAt, Option.some.injEq] at hh
    subst hh
    refine ⟨t, l, S, rfl, rfl, h, fun _ hx => hx, fun w' l2 S2 _ _ h2 => ⟨l2, by simp [putP], h2.weak fun x hx => .inr hx, ?_, fun _ => rfl⟩⟩
    intro q u hq hn
    have := hn q (by simp)
    subst this
    exact hq
  | cons ij p ih =>
    obtain ⟨i, j⟩ := ij
    intro v v' t l S h hh
    cases h with
    | nil => simp [hdrAt] at hh
    | void _ _ _ ho => cases ho
    | sl _ _ b off cap arr e fz V K _ hb hfz hlen hcap hsz hS hsub hdis hv hc =>
      have hh0 := hh
      simp only [hdrAt] at hh
      split at hh
      · rename_i hi
        split at hh
        · rename_i t0 hsh
          rw [cell_of_block hb] at hh
          have hj : j < t.width := by rw [← shape_len]; exact (List.getElem?_eq_some_iff.1 hsh).1
          rw [hv i.toNat j hi.2 hj] at hh
          simp only at hh
          obtain ⟨c, hcj, hct⟩ := ty_at (x := ix l i t.dflt) hsh
          obtain ⟨l0, rfl⟩ := cv_ty_s hct
          have hr := hc i.toNat _ (ix_some hi.2) j _ hcj
          obtain ⟨t', l', S1, h1, h2, h3, h4, h5⟩ := ih hr hh
          have hbS1 : ¬ S1 b := fun hx => (hsub i.toNat j b hi.2 hj (h4 b hx)).2 rfl rfl
          refine ⟨t', l', S1, by simp only [getP, hcj, h1], by simp only [tyAt, hsh, h2], h3, fun x hx => (hsub i.toNat j x hi.2 hj (h4 x hx)).1, ?_⟩
          intro w' l2 S2 hkeep hS2 hrep
          have hKs : ∀ x, K i.toNat j x → S x := fun x hx => (hsub i.toNat j x hi.2 hj hx).1
          obtain ⟨m0, hm0, hrm0, hq0, hq1⟩ := h5 w' l2 S2 (fun x hx hn => hkeep x (hKs x hx) hn) (fun x hx hk => hS2 x hx (hKs x hk)) hrep
          have hcl : j + [CV.s t0 m0].length ≤ (t.cells (ix l i t.dflt)).length := by rw [cells_len]; simp; omega
          have hshape : (splice (t.cells (ix l i t.dflt)) j [CV.s t0 m0]).map CV.ty = t.shape := by
            rw [splice_map, cells_ty]
            refine splice_same _ _ _ (by rw [shape_len]; simp; omega) ?_
            intro k hk
            have : k = 0 := by simpa using hk
            subst this
            simpa [CV.ty] using hsh
          obtain ⟨x', hx'⟩ := ofCells_ty hshape
          have hx'c := ofCells_cells hx'
          have hb' : w'.heap[b]? = some (.cells arr e fz) := (hkeep b hS hbS1).trans hb
          -- the other cells' blocks are untouched
          have hoth : ∀ i1 j1, i1 < l.length → j1 < t.width → ¬ (i1 = i.toNat ∧ j1 = j) → ∀ x, K i1 j1 x → ¬ S1 x ∧ w'.heap[x]? = w.heap[x]? := by
            intro i1 j1 hi1 hj1 hne x hx
            have hn : ¬ S1 x := fun h => hne (hdis rfl i1 j1 i.toNat j x hi1 hj1 hi.2 hj hx (h4 x h))
            exact ⟨hn, hkeep x (hsub i1 j1 x hi1 hj1 hx).1 hn⟩
          refine ⟨up l i x', ?_, ?_, ?_, ?_⟩
          · simp only [putP, hcj, hm0, hx']
          · have hl' : (up l i x').length = l.length := up_len _ _ _
            rw [← hl']
            refine .sl t (up l i x') b off cap arr e fz V (fun i1 j1 => if i1 = i.toNat ∧ j1 = j then (fun x => (K i1 j1 x ∧ ¬ S1 x) ∨ S2 x) else K i1 j1) _ hb' hfz (by omega) (by omega) hsz (.inl ⟨hS, hbS1⟩) ?_ ?_ (by rw [hl']; exact hv) ?_
            · intro i1 j1 x hi1 hj1 hk
              rw [hl'] at hi1
              split at hk
              · rename_i he
                rcases hk with ⟨hk, hn⟩ | hk
                · exact ⟨.inl ⟨(hsub i1 j1 x hi1 hj1 hk).1, hn⟩, (hsub i1 j1 x hi1 hj1 hk).2⟩
                · refine ⟨.inr hk, fun _ hxb => ?_⟩
                  subst hxb
                  exact hbS1 (hS2 x hk hS)
              · rename_i he
                exact ⟨.inl ⟨(hsub i1 j1 x hi1 hj1 hk).1, (hoth i1 j1 hi1 hj1 he x hk).1⟩, (hsub i1 j1 x hi1 hj1 hk).2⟩
            · intro _ i1 j1 i2 j2 x hi1 hj1 hi2 hj2 hk1 hk2
              rw [hl'] at hi1 hi2
              split at hk1
              · rename_i he1
                split at hk2
                · rename_i he2; exact ⟨he1.1.trans he2.1.symm, he1.2.trans he2.2.symm⟩
                · rename_i he2
                  rcases hk1 with ⟨hk1, _⟩ | hk1
                  · exact hdis rfl i1 j1 i2 j2 x hi1 hj1 hi2 hj2 hk1 hk2
                  · exact absurd (hS2 x hk1 (hsub i2 j2 x hi2 hj2 hk2).1) (hoth i2 j2 hi2 hj2 he2 x hk2).1
              · rename_i he1
                split at hk2
                · rename_i he2
                  rcases hk2 with ⟨hk2, _⟩ | hk2
                  · exact hdis rfl i1 j1 i2 j2 x hi1 hj1 hi2 hj2 hk1 hk2
                  · exact absurd (hS2 x hk2 (hsub i1 j1 x hi1 hj1 hk1).1) (hoth i1 j1 hi1 hj1 he1 x hk1).1
                · exact hdis rfl i1 j1 i2 j2 x hi1 hj1 hi2 hj2 hk1 hk2
            · intro i1 y hy j1 c hcy
              have hi1 : i1 < l.length := by have := (List.getElem?_eq_some_iff.1 hy).1; rwa [hl'] at this
              have hj1 : j1 < t.width := by have := (List.getElem?_eq_some_iff.1 hcy).1; rwa [cells_len] at this
              rw [up_at hi1] at hy
              by_cases he : i1 = i.toNat ∧ j1 = j
              · obtain ⟨he1, he2⟩ := he
                subst he1 he2
                simp only [if_true, Option.some.injEq] at hy
                subst hy
                rw [hx'c, splice_in _ _ _ hcl j1 (Nat.le_refl _) (by simp)] at hcy
                simp only [Nat.sub_self, List.getElem?_cons_zero, Option.some.injEq] at hcy
                subst hcy
                simp only [and_self, if_true]
                exact hrm0
              · simp only [he, if_false]
                have hcell : ∃ y0, l[i1]? = some y0 ∧ (t.cells y0)[j1]? = some c := by
                  by_cases hii : i.toNat = i1
                  · subst hii
                    simp only [if_true, Option.some.injEq] at hy
                    subst hy
                    have hjj : j1 ≠ j := fun h => he ⟨rfl, h⟩
                    rw [hx'c, splice_out _ _ _ hcl j1 (by simp; omega)] at hcy
                    exact ⟨_, ix_some hi.2, hcy⟩
                  · simp only [hii, if_false] at hy
                    exact ⟨y, hy, hcy⟩
                obtain ⟨y0, hy0, hcy0⟩ := hcell
                exact (hc i1 y0 hy0 j1 c hcy0).frame fun x hx => (hoth i1 j1 hi1 hj1 he x hx).2
          · intro q u hq hne
            cases q with
            | nil => exact hq
            | cons ab q =>
              obtain ⟨i1, j1⟩ := ab
              simp only [hdrAt] at hq ⊢
              split at hq
              · rename_i hi1
                rw [if_pos hi1]
                split at hq
                · rename_i t1 hsh1
                  rw [cell_of_block hb] at hq
                  rw [cell_of_block hb']
                  have hj1 : j1 < t.width := by rw [← shape_len]; exact (List.getElem?_eq_some_iff.1 hsh1).1
                  rw [hv i1.toNat j1 hi1.2 hj1] at hq ⊢
                  simp only at hq ⊢
                  by_cases he : i1.toNat = i.toNat ∧ j1 = j
                  · have hii : i1 = i := by omega
                    obtain ⟨_, rfl⟩ := he
                    subst hii
                    rw [hsh] at hsh1
                    cases hsh1
                    exact hq0 q u hq (fun q' hq' => hne q' (by simp [hq']))
                  · obtain ⟨c1, hc1, hct1⟩ := ty_at (x := ix l i1 t.dflt) hsh1
                    obtain ⟨l1, rfl⟩ := cv_ty_s hct1
                    rw [hdrAt_frame q (hc i1.toNat _ (ix_some hi1.2) j1 _ hc1) (fun x hx => (hoth i1.toNat j1 hi1.2 hj1 he x hx).2)]
                    exact hq
                · cases hq
              · cases hq
          · intro q'
            have := hq1 q'
            simp only [List.cons_append, hdrAt]
            rw [if_pos hi, hsh]
            simp only
            rw [cell_of_block hb', hv i.toNat j hi.2 hj]
            exact this
        · cases hh
      · cases hh

end Go.Proofs.Ytcfnaifggdelnaa.E
