/- What is proved here: the order that a drawn region's operations wait for; the states of the free part, in the text's order. -/
import Derived.Test.YtcfnaifggdelnaaS25
namespace Go.Proofs.Ytcfnaifggdelnaa.E
open Go

section
variable {C : Cfg} {ops : Array Oper} {b : Bool} {base : Nat}

/-! What each operation waits for. -/

def waits (ops : Array Oper) (acc : List (List Nat)) (i : Nat) : List Nat :=
  match ops[i]? with
  | some o => o.after.toList.flatMap fun e => if Region.binds .any e then e.on :: (acc.getD e.on []) else []
  | none => []

theorem closureOf_cons (i : Nat) (r : List Nat) (acc : List (List Nat)) : closureOf ops (i :: r) acc = closureOf ops r (acc ++ [waits ops acc i]) := rfl

theorem closureOf_spec : ∀ (m : Nat) (acc : List (List Nat)), ∃ l, closureOf ops (List.range' acc.length m) acc = acc ++ l ∧ l.length = m ∧
    ∀ k, k < m → (acc ++ l)[acc.length + k]? = some (waits ops ((acc ++ l).take (acc.length + k)) (acc.length + k))
  | 0, acc => ⟨[], by simp [closureOf], rfl, fun k hk => by omega⟩
  | m + 1, acc => by
    obtain ⟨l, h1, h2, h3⟩ := closureOf_spec m (acc ++ [waits ops acc acc.length])
    have hlen : (acc ++ [waits ops acc acc.length]).length = acc.length + 1 := by simp
    rw [hlen] at h1 h3
    refine ⟨waits ops acc acc.length :: l, ?_, by simp [h2], fun k hk => ?_⟩
    · rw [List.range'_succ, closureOf_cons, h1]
      simp
    · have e : acc ++ waits ops acc acc.length :: l = (acc ++ [waits ops acc acc.length]) ++ l := by simp
      cases k with
      | zero =>
        rw [Nat.add_zero, List.getElem?_append_right (Nat.le_refl _), Nat.sub_self, List.take_left' rfl]
        rfl
      | succ k =>
        have e2 : acc.length + (k + 1) = acc.length + 1 + k := by omega
        rw [e, e2]
        exact h3 k (by omega)

theorem closure_at {i : Nat} (hi : i < ops.size) : (closureOf ops (List.range ops.size) []).getD i [] = waits ops ((closureOf ops (List.range ops.size) []).take i) i := by
  obtain ⟨l, h1, h2, h3⟩ := closureOf_spec (ops := ops) ops.size []
  simp only [List.length_nil, List.nil_append, Nat.zero_add] at h1 h3
  rw [List.range_eq_range', h1, List.getD_eq_getElem?_getD, h3 i hi]
  rfl

/-- An operation that stands where it stands. -/
structure Pinned (n : Nat) (cl : List (List Nat)) (m : Nat) : Prop where
  full : ∀ j, j < m → j ∈ cl.getD m []
  wait : ∀ k, m < k → k < n → m ∈ cl.getD k []

theorem pinned_spec {n m : Nat} {cl : List (List Nat)} (h : pinned n cl m = true) : Pinned n cl m := by
  unfold pinned fullAt at h
  simp only [Bool.and_eq_true, List.all_eq_true, List.mem_range, List.contains_eq_mem, decide_eq_true_eq, List.mem_range'] at h
  refine ⟨h.1, fun k h1 h2 => h.2 k ⟨k - (m + 1), by omega, by omega⟩⟩

theorem pins_head {n m : Nat} {cl : List (List Nat)} {p : Bool} {r : List Bool} (h : p :: r = (pinsOf n cl).drop m) : m < n ∧ p = pinned n cl m ∧ r = (pinsOf n cl).drop (m + 1) := by
  have hlt : m < (pinsOf n cl).length := by
    rcases Nat.lt_or_ge m (pinsOf n cl).length with h' | h'
    · exact h'
    · rw [List.drop_eq_nil_of_le h'] at h; cases h
  rw [List.drop_eq_getElem_cons hlt] at h
  simp only [List.cons.injEq] at h
  refine ⟨by simpa [pinsOf] using hlt, ?_, h.2⟩
  rw [h.1]
  simp [pinsOf]

theorem pins_nil {n m : Nat} {cl : List (List Nat)} (h : [] = (pinsOf n cl).drop m) : n ≤ m := by
  have := List.drop_eq_nil_iff.1 h.symm
  simpa [pinsOf] using this

/-- Where the free part ends: at an operation that stands, or at the region's end. -/
theorem pins_free {n : Nat} {cl : List (List Nat)} : ∀ (r : List Bool) (m : Nat), m ≤ n → r = (pinsOf n cl).drop m →
    m + freeLen r ≤ n ∧ r.drop (freeLen r) = (pinsOf n cl).drop (m + freeLen r) ∧ (m + freeLen r < n → Pinned n cl (m + freeLen r))
  | [], m, hm, h => by
    have := pins_nil h
    refine ⟨by simp [freeLen]; omega, by simpa [freeLen] using h, fun hlt => ?_⟩
    simp [freeLen] at hlt
    omega
  | true :: r, m, hm, h => by
    obtain ⟨h1, h2, _⟩ := pins_head h
    refine ⟨by simp [freeLen]; omega, by simpa [freeLen] using h, fun _ => ?_⟩
    simp only [freeLen, Nat.add_zero]
    exact pinned_spec h2.symm
  | false :: r, m, hm, h => by
    obtain ⟨h1, _, h3⟩ := pins_head h
    obtain ⟨g1, g2, g3⟩ := pins_free r (m + 1) (by omega) h3
    have e : m + freeLen (false :: r) = m + 1 + freeLen r := by simp only [freeLen]; omega
    rw [e]
    refine ⟨g1, ?_, g3⟩
    rw [← g2]
    rfl

/-! The states of the free part. -/

theorem foldX_off {X : Nat → Bool} : ∀ (ss : List Step) (i : Nat) (st : St), (∀ k, i ≤ k → X k = false) → foldX ops b X i ss st = st
  | [], _, _, _ => rfl
  | s :: ss, i, st, h => by
    simp only [foldX]
    rw [h i (Nat.le_refl _)]
    simp only [Bool.false_eq_true, if_false]
    exact foldX_off ss (i + 1) st (fun k hk => h k (by omega))

theorem foldX_congr {X Y : Nat → Bool} : ∀ (ss : List Step) (i : Nat) (st : St), (∀ k, i ≤ k → k < i + ss.length → X k = Y k) → foldX ops b X i ss st = foldX ops b Y i ss st
  | [], _, _, _ => rfl
  | s :: ss, i, st, h => by
    simp only [foldX]
    rw [h i (Nat.le_refl _) (by simp)]
    exact foldX_congr ss (i + 1) _ (fun k hk hlt => h k (by omega) (by simp only [List.length_cons]; omega))

/-- What the text's order says of one operation. -/
def At1 (C : Cfg) (ops : Array Oper) (base i : Nat) (o : Oper) (S : St) (f : Foot) : Step → Prop
  | some d => guardSem ops o S = some true ∧ delta C S o (base + 32 * i) = some d ∧ d.c = true ∧ f = lookFoot S ops o d
  | none => guardSem ops o S = some false ∧ f = skipFoot ops o

theorem trace_at {i : Nat} {ss : List Step} {fs : List (Nat × Foot)} {st st' : St} (h : Trace C ops b base i ss fs st st') : ∀ (k : Nat) (s : Step), ss[k]? = some s →
    ∃ o f, ops[i + k]? = some o ∧ (i + k, f) ∈ fs ∧ At1 C ops base (i + k) o (foldX ops b (fun j => decide (j < i + k)) i ss st) f s := by
  induction h with
  | nil i st => intro k s hs; simp at hs
  | run ho hg hd hc h ih =>
    rename_i i o d ss fs st st'
    intro k s hs
    cases k with
    | zero =>
      simp only [List.getElem?_cons_zero, Option.some.injEq] at hs
      subst hs
      refine ⟨o, _, ho, List.mem_cons_self, ?_⟩
      rw [foldX_off _ _ _ (fun k hk => by simp; omega)]
      exact ⟨hg, hd, hc, rfl⟩
    | succ k =>
      obtain ⟨o', f, h1, h2, h3⟩ := ih k s (by simpa using hs)
      have e : i + (k + 1) = i + 1 + k := by omega
      refine ⟨o', f, by rw [e]; exact h1, by rw [e]; exact List.mem_cons_of_mem _ h2, ?_⟩
      rw [e]
      simp only [foldX, ho]
      rw [if_pos (by simp; omega)]
      exact h3
  | skip ho hg h ih =>
    rename_i i o ss fs st st'
    intro k s hs
    cases k with
    | zero =>
      simp only [List.getElem?_cons_zero, Option.some.injEq] at hs
      subst hs
      refine ⟨o, _, ho, List.mem_cons_self, ?_⟩
      rw [foldX_off _ _ _ (fun k hk => by simp; omega)]
      exact ⟨hg, rfl⟩
    | succ k =>
      obtain ⟨o', f, h1, h2, h3⟩ := ih k s (by simpa using hs)
      have e : i + (k + 1) = i + 1 + k := by omega
      refine ⟨o', f, by rw [e]; exact h1, by rw [e]; exact List.mem_cons_of_mem _ h2, ?_⟩
      rw [e]
      simp only [foldX, ho]
      rw [if_pos (by simp; omega)]
      exact h3

theorem trace_end {i : Nat} {ss : List Step} {fs : List (Nat × Foot)} {st st' : St} (h : Trace C ops b base i ss fs st st') : st' = foldX ops b (fun _ => true) i ss st := by
  induction h with
  | nil i st => rfl
  | run ho hg hd hc h ih =>
    simp only [foldX, ho, if_true]
    exact ih
  | skip ho hg h ih =>
    simp only [foldX, ho, if_true]
    exact ih

theorem one_ep {X : Nat → Bool} {i : Nat} {s : Step} {st : St} : (one ops b X i s st).ep = st.ep := by
  unfold one
  split
  · split
    · exact step_ep
    · rfl
  · rfl
theorem one_stk {X : Nat → Bool} {i : Nat} {s : Step} {st : St} : (one ops b X i s st).stk = st.stk := by
  unfold one
  split
  · split
    · exact step_stk
    · rfl
  · rfl
theorem one_nid {X : Nat → Bool} {i : Nat} {s : Step} {st : St} : (one ops b X i s st).nid = st.nid := by
  unfold one
  split
  · split
    · exact step_nid
    · rfl
  · rfl

theorem foldX_ep {X : Nat → Bool} : ∀ (ss : List Step) (i : Nat) (st : St), (foldX ops b X i ss st).ep = st.ep
  | [], _, _ => rfl
  | s :: ss, i, st => (foldX_ep ss (i + 1) _).trans (one_ep (X := X) (i := i) (s := s))
theorem foldX_stk {X : Nat → Bool} : ∀ (ss : List Step) (i : Nat) (st : St), (foldX ops b X i ss st).stk = st.stk
  | [], _, _ => rfl
  | s :: ss, i, st => (foldX_stk ss (i + 1) _).trans (one_stk (X := X) (i := i) (s := s))
theorem foldX_nid {X : Nat → Bool} : ∀ (ss : List Step) (i : Nat) (st : St), (foldX ops b X i ss st).nid = st.nid
  | [], _, _ => rfl
  | s :: ss, i, st => (foldX_nid ss (i + 1) _).trans (one_nid (X := X) (i := i) (s := s))

/-- No slice that looks into another one may be looked at. -/
def Dead (st : St) : Prop := ∀ n R e, aget st.ro n = some R → R.ep = some e → e < st.ep

theorem step_dead {o : Oper} {s : Step} {st : St} (h : Dead st) (h0 : 0 < st.ep) : Dead (st.step true o s) := by
  intro n R e hR he
  rw [step_ep]
  rw [step_ro, aget_append] at hR
  split at hR
  · rename_i x hx
    cases hR
    cases s with
    | none => cases hx
    | some d =>
      have hm := aget_mem hx
      simp only [dro, List.mem_map] at hm
      obtain ⟨⟨k, R0⟩, _, hk⟩ := hm
      simp only [Prod.mk.injEq] at hk
      obtain ⟨_, rfl⟩ := hk
      unfold deadR at he
      split at he
      · simp only [Option.some.injEq] at he
        omega
      · rename_i hne
        exact absurd he (by
          cases hh : R0.ep with
          | none => simp
          | some e' => exact absurd hh (hne e' rfl))
  · exact h n R e hR he

theorem foldX_dead {X : Nat → Bool} : ∀ (ss : List Step) (i : Nat) (st : St), Dead st → 0 < st.ep → Dead (foldX ops true X i ss st)
  | [], _, _, h, _ => h
  | s :: ss, i, st, h, h0 => by
    refine foldX_dead (X := X) ss (i + 1) (one ops true X i s st) ?_ (by rw [one_ep]; exact h0)
    unfold one
    split
    · split
      · exact step_dead h h0
      · exact h
    · exact h

end
end Go.Proofs.Ytcfnaifggdelnaa.E
