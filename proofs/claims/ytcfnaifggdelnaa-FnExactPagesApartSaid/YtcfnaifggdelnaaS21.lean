/- What is proved here: what an operation does hangs on nothing but what it looks at. -/
import Derived.Test.YtcfnaifggdelnaaS33
namespace Go.Proofs.Ytcfnaifggdelnaa.E
open Go

section
variable {C : Cfg} {st st' : St}

/-- Two states that agree on what an operation's operands lead to. -/
structure Agree (st st' : St) (L : List Operand) : Prop where
  ep : st'.ep = st.ep
  op : ∀ x ∈ L, st'.opnd x = st.opnd x
  id : ∀ x ∈ L, ∀ m, st.opnd x = some m → ∀ a ∈ mvAts m, (∀ n ∈ atIds a, aget st'.ro n = aget st.ro n) ∧ ∀ n ∈ atLids a, aget st'.lo n = aget st.lo n

variable {L : List Operand}

theorem Agree.at (h : Agree st st' L) {x : Operand} (hx : x ∈ L) : st'.at x = st.at x := by
  unfold St.at
  rw [h.op x hx]

theorem Agree.rootN (h : Agree st st' L) {n : Nat} (hn : aget st'.ro n = aget st.ro n) : st'.root n = st.root n := by
  unfold St.root
  rw [hn, h.ep]

/-- The atoms that the operands hold. -/
def Held (st : St) (L : List Operand) (a : At) : Prop := ∃ x ∈ L, ∃ m, st.opnd x = some m ∧ a ∈ mvAts m

theorem Agree.held (h : Agree st st' L) {a : At} (ha : Held st L a) : (∀ n ∈ atIds a, aget st'.ro n = aget st.ro n) ∧ ∀ n ∈ atLids a, aget st'.lo n = aget st.lo n := by
  obtain ⟨x, hx, m, hm, ha⟩ := ha
  exact h.id x hx m hm a ha

theorem held_at {x : Operand} {a : At} (hx : x ∈ L) (h : st.at x = some a) : Held st L a := ⟨x, hx, _, at_opnd h, by simp [mvAts, tvAts]⟩

theorem Agree.root (h : Agree st st' L) {r : Nat} {p : List (Int × Nat)} (ha : Held st L (.sl r p)) : st'.root r = st.root r :=
  h.rootN ((h.held ha).1 r (by simp [atIds]))

theorem Agree.node (h : Agree st st' L) {r : Nat} {p : List (Int × Nat)} (ha : Held st L (.sl r p)) (q : List (Int × Nat)) : st'.node r q = st.node r q := by
  unfold St.node
  rw [h.root ha]

theorem Agree.rootE (h : Agree st st' L) {r : Nat} {p : List (Int × Nat)} {i : Int} {o : Nat} (ha : Held st L (.ep r p i o)) : st'.root r = st.root r :=
  h.rootN ((h.held ha).1 r (by simp [atIds]))

theorem Agree.nodeE (h : Agree st st' L) {r : Nat} {p : List (Int × Nat)} {i : Int} {o : Nat} (ha : Held st L (.ep r p i o)) (q : List (Int × Nat)) : st'.node r q = st.node r q := by
  unfold St.node
  rw [h.rootE ha]

theorem Agree.loc (h : Agree st st' L) {l o : Nat} (ha : Held st L (.lp l o)) : aget st'.lo l = aget st.lo l :=
  (h.held ha).2 l (by simp [atLids])

theorem Agree.cvOf (h : Agree st st' L) {a : At} (ha : Held st L a) : st'.cvOf a = st.cvOf a := by
  cases a with
  | sl r p => exact h.node ha p
  | _ => rfl

theorem optAll_congr {α β : Type} {f g : α → Option β} : ∀ {l : List α}, (∀ a ∈ l, f a = g a) → optAll f l = optAll g l
  | [], _ => rfl
  | a :: l, h => by
    simp only [optAll]
    rw [h a (by simp), optAll_congr (l := l) (fun b hb => h b (by simp [hb]))]

theorem Agree.avOf (h : Agree st st' L) {x : Operand} (hx : x ∈ L) {m : MV} (hm : st.opnd x = some m) : st'.avOf m = st.avOf m := by
  cases m with
  | und => rfl
  | tup l => rfl
  | v y =>
    rcases y with a | l
    · simp only [St.avOf]
      rw [h.cvOf ⟨x, hx, _, hm, by simp [mvAts, tvAts]⟩]
    · simp only [St.avOf]
      rw [optAll_congr (f := st'.cvOf) (g := st.cvOf) (fun a ha => h.cvOf ⟨x, hx, _, hm, by simpa [mvAts, tvAts] using ha⟩)]

theorem Agree.give (h : Agree st st' L) (tgt : Option (Nat × List (Int × Nat) × Int)) : ∀ (xs : List At) (j : Nat), (∀ a ∈ xs, Held st L a) → st'.give tgt xs j = st.give tgt xs j
  | [], j, _ => rfl
  | a :: xs, j, hh => by
    have ih := Agree.give h tgt xs (j + 1) (fun b hb => hh b (by simp [hb]))
    have ha := hh a (by simp)
    cases a with
    | sl r q =>
      cases q with
      | nil => simp only [St.give, ih, h.root ha]
      | cons ij q => simp only [St.give, ih, h.node ha]
    | _ => simp only [St.give, ih]

theorem Agree.giveV (h : Agree st st' L) {x : Operand} (hx : x ∈ L) {y : TV} (hm : st.opnd x = some (.v y)) (tgt : Option (Nat × List (Int × Nat) × Int)) (j : Nat) : st'.give tgt (tvAts y) j = st.give tgt (tvAts y) j :=
  h.give tgt (tvAts y) j (fun a ha => ⟨x, hx, _, hm, by simpa [mvAts] using ha⟩)

theorem Agree.layParts (h : Agree st st' L) {T : TypeId} : ∀ (parts : List (Nat × Operand)) (cs : List At), (∀ x ∈ parts, x.2 ∈ L) → layParts C T st' parts cs = layParts C T st parts cs
  | [], _, _ => rfl
  | (f, x) :: r, cs, hp => by
    simp only [E.layParts]
    rw [h.op x (hp (f, x) (by simp))]
    split
    · split
      · exact Agree.layParts h r _ (fun y hy => hp y (by simp [hy]))
      · rfl
    · rfl

theorem Agree.rowParts (h : Agree st st' L) {t : Ty} : ∀ (parts : List (Nat × Operand)) (l : List t.den) (ks : List Nat), (∀ x ∈ parts, x.2 ∈ L) → rowParts st' t parts l ks = rowParts st t parts l ks
  | [], _, _, _ => rfl
  | (i, x) :: r, l, ks, hp => by
    have hx := hp (i, x) (by simp)
    simp only [E.rowParts]
    rw [h.op x hx]
    cases hm : st.opnd x with
    | none => rfl
    | some m =>
      cases m with
      | und => rfl
      | tup _ => rfl
      | v y =>
        simp only
        rw [h.giveV hx hm]
        split
        · split
          · split
            · exact Agree.rowParts h r _ _ (fun y hy => hp y (by simp [hy]))
            · rfl
          · rfl
        · rfl

end
end Go.Proofs.Ytcfnaifggdelnaa.E
