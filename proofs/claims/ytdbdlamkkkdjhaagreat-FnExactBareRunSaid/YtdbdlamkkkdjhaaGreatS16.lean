/- What is proved here: a loop's head: the state that is laid anew from the data that was taken stands for the same world. -/
import Derived.Test.YtdbdlamkkkdjhaaGreatS15
namespace Go.Proofs.YtdbdlamkkkdjhaaGreat.E
open Go

section
variable {C : Cfg} {w0 w w1 : World} {S0 : BSet} {U : Nat → Prop} {st st1 : St} {E E1 : Env} {ts : Array Value} {sv : List (Array Value)}

def Ext (l l' : List (Nat × Nat)) : Prop := ∀ k v, aget l k = some v → aget l' k = some v
def Inj (l : List (Nat × Nat)) : Prop := ∀ k k' v, aget l k = some v → aget l k' = some v → k = k'

theorem bind1_spec {l l' : List (Nat × Nat)} {k v : Nat} (h : bind1 l k v = some l') : Ext l l' ∧ aget l' k = some v ∧ (Inj l → Inj l') := by
  unfold bind1 at h
  split at h
  · rename_i u hu
    split at h
    · rename_i he
      simp only [beq_iff_eq] at he
      subst he
      cases h
      exact ⟨fun _ _ h => h, hu, fun h => h⟩
    · cases h
  · rename_i hn
    split at h
    · cases h
    · rename_i hany
      cases h
      have hnv : ∀ k', aget l k' ≠ some v := by
        intro k' hk'
        have := aget_mem hk'
        exact hany (List.any_eq_true.2 ⟨(k', v), this, by simp⟩)
      refine ⟨fun k' v' h => ?_, by simp [aget], fun hI k1 k2 v' h1 h2 => ?_⟩
      · simp only [aget]
        split
        · rename_i he
          simp only [beq_iff_eq] at he
          subst he
          rw [hn] at h
          cases h
        · exact h
      · simp only [aget] at h1 h2
        split at h1 <;> split at h2
        · rename_i e1 e2
          simp only [beq_iff_eq] at e1 e2
          exact e1.symm.trans e2
        · cases h1; exact absurd h2 (hnv _)
        · cases h2; exact absurd h1 (hnv _)
        · exact hI k1 k2 v' h1 h2

structure ExtB (B B' : Bnd) : Prop where
  r : Ext B.r B'.r
  l : Ext B.l B'.l
  ir : Inj B.r → Inj B'.r
  il : Inj B.l → Inj B'.l

theorem ExtB.refl (B : Bnd) : ExtB B B := ⟨fun _ _ h => h, fun _ _ h => h, fun h => h, fun h => h⟩
theorem ExtB.trans {A B D : Bnd} (h : ExtB A B) (h' : ExtB B D) : ExtB A D :=
  ⟨fun k v x => h'.r k v (h.r k v x), fun k v x => h'.l k v (h.l k v x), fun x => h'.ir (h.ir x), fun x => h'.il (h.il x)⟩

/-- An atom and the one that is laid anew for it. -/
def Corr (B : Bnd) (base : Nat) (x : At) : At → Prop
  | .bad => True
  | .i k n => x = .i k n
  | .b y => x = .b y
  | .sl r1 p => ∃ r r', x = .sl r' p ∧ r1 = base + r ∧ aget B.r r = some r'
  | .lp l1 off => ∃ l l', x = .lp l' off ∧ l1 = base + l ∧ aget B.l l = some l'
  | .ep r1 p i off => ∃ r r', x = .ep r' p i off ∧ r1 = base + r ∧ aget B.r r = some r'
  | .fn f caps1 => ∃ caps', x = .fn f caps' ∧ caps1.length = caps'.length ∧ ∀ (k l1 l' : Nat), caps1[k]? = some l1 → caps'[k]? = some l' → ∃ l, l1 = base + l ∧ aget B.l l = some l'

theorem Corr.mono {B B' : Bnd} {base : Nat} {x x1 : At} (h : Corr B base x x1) (he : ExtB B B') : Corr B' base x x1 := by
  cases x1 with
  | bad => trivial
  | i k n => exact h
  | b y => exact h
  | sl r1 p => obtain ⟨r, r', h1, h2, h3⟩ := h; exact ⟨r, r', h1, h2, he.r _ _ h3⟩
  | lp l1 off => obtain ⟨l, l', h1, h2, h3⟩ := h; exact ⟨l, l', h1, h2, he.l _ _ h3⟩
  | ep r1 p i off => obtain ⟨r, r', h1, h2, h3⟩ := h; exact ⟨r, r', h1, h2, he.r _ _ h3⟩
  | fn f caps =>
    obtain ⟨c', h1, h2, h3⟩ := h
    refine ⟨c', h1, h2, fun k l1 l' hk hk' => ?_⟩
    obtain ⟨l, h4, h5⟩ := h3 k l1 l' hk hk'
    exact ⟨l, h4, he.l _ _ h5⟩

theorem idx_back : ∀ {js : List Nat} {p : List (Int × Nat)} {cs : List CV}, idx js p = some cs → ∀ rest, idxBack js (cs ++ rest) = some (p, rest)
  | [], [], cs, h, rest => by cases h; rfl
  | [], _ :: _, cs, h, _ => by simp [idx] at h
  | _ :: _, [], cs, h, _ => by simp [idx] at h
  | j :: js, (i, j') :: p, cs, h, rest => by
    simp only [idx] at h
    split at h
    · rename_i he
      simp only [beq_iff_eq] at he
      subst he
      split at h
      · rename_i cs' hcs
        cases h
        simp [idxBack, idx_back hcs rest]
      · cases h
    · cases h

theorem foldl_none {l : List (Nat × Nat)} : l.foldl (fun (acc : Option (List (Nat × Nat))) x => match acc with | some bl => bind1 bl x.1 x.2 | none => none) none = none := by
  induction l with
  | nil => rfl
  | cons a l ih => exact ih

theorem binds_spec : ∀ {cs cs' : List Nat} {l l' : List (Nat × Nat)}, cs.length = cs'.length → (cs.zip cs').foldl (fun (acc : Option (List (Nat × Nat))) x => match acc with | some bl => bind1 bl x.1 x.2 | none => none) (some l) = some l' →
    Ext l l' ∧ (Inj l → Inj l') ∧ ∀ (k a b : Nat), cs[k]? = some a → cs'[k]? = some b → aget l' a = some b
  | [], [], l, l', _, h => by cases h; exact ⟨fun _ _ h => h, fun h => h, fun k a b h => by simp at h⟩
  | [], _ :: _, _, _, h, _ => by simp at h
  | _ :: _, [], _, _, h, _ => by simp at h
  | c :: cs, c' :: cs', l, l', hl, h => by
    simp only [List.zip_cons_cons, List.foldl_cons] at h
    cases hb : bind1 l c c' with
    | none => rw [hb, foldl_none] at h; cases h
    | some l1 =>
      rw [hb] at h
      obtain ⟨h1, h2, h3⟩ := bind1_spec hb
      obtain ⟨g1, g2, g3⟩ := binds_spec (by simpa using hl) h
      refine ⟨fun k v x => g1 k v (h1 k v x), fun x => g2 (h3 x), fun k a b ha hb' => ?_⟩
      cases k with
      | zero => simp at ha hb'; subst ha hb'; exact g1 _ _ h2
      | succ k => exact g3 k a b (by simpa using ha) (by simpa using hb')

theorem take_put_at {B B' : Bnd} {a : AT} {x : At} {cs : List CV} (base : Nat) (h : takeAt B a x = some (B', cs)) : ExtB B B' ∧ ∀ rest, ∃ x1, putAt base a (cs ++ rest) = some (x1, rest) ∧ Corr B' base x x1 := by
  unfold takeAt at h
  split at h
  · cases h
    exact ⟨ExtB.refl _, fun rest => ⟨.bad, rfl, trivial⟩⟩
  · split at h
    · rename_i k k' n hk
      subst hk
      cases h
      exact ⟨ExtB.refl _, fun rest => ⟨.i k n, rfl, rfl⟩⟩
    · cases h
  · rename_i y
    cases h
    exact ⟨ExtB.refl _, fun rest => ⟨.b y, rfl, rfl⟩⟩
  · rename_i r js r' p
    split at h
    · rename_i br cs' hb hi
      cases h
      obtain ⟨h1, h2, h3⟩ := bind1_spec hb
      exact ⟨⟨h1, fun _ _ h => h, h3, fun h => h⟩, fun rest => ⟨.sl (base + r) p, by simp [putAt, idx_back hi rest], r, r', rfl, rfl, h2⟩⟩
    · cases h
  · rename_i l off l' off'
    split at h
    · rename_i he
      simp only [beq_iff_eq] at he
      subst he
      split at h
      · rename_i bl hb
        cases h
        obtain ⟨h1, h2, h3⟩ := bind1_spec hb
        exact ⟨⟨fun _ _ h => h, h1, fun h => h, h3⟩, fun rest => ⟨.lp (base + l) off, rfl, l, l', rfl, rfl, h2⟩⟩
      · cases h
    · cases h
  · rename_i r js off r' p i off'
    split at h
    · rename_i he
      simp only [beq_iff_eq] at he
      subst he
      split at h
      · rename_i br cs' hb hi
        cases h
        obtain ⟨h1, h2, h3⟩ := bind1_spec hb
        exact ⟨⟨h1, fun _ _ h => h, h3, fun h => h⟩, fun rest => ⟨.ep (base + r) p i off, by simp [putAt, idx_back hi], r, r', rfl, rfl, h2⟩⟩
      · cases h
    · cases h
  · rename_i f caps f' caps'
    split at h
    · rename_i he
      simp only [Bool.and_eq_true, beq_iff_eq] at he
      obtain ⟨rfl, hl⟩ := he
      split at h
      · rename_i bl hb
        cases h
        obtain ⟨h1, h2, h3⟩ := binds_spec hl hb
        refine ⟨⟨fun _ _ h => h, h1, fun h => h, h2⟩, fun rest => ⟨.fn f (caps.map fun l => base + l), rfl, caps', rfl, by simpa using hl, fun k l1 l' hk hk' => ?_⟩⟩
        rw [List.getElem?_map] at hk
        cases hc : caps[k]? with
        | none => rw [hc] at hk; cases hk
        | some l =>
          rw [hc] at hk
          cases hk
          exact ⟨l, rfl, h3 k l l' hc hk'⟩
      · cases h
    · cases h
  · cases h

theorem take_put_tm (base : Nat) : ∀ {l : List (Nat × AT)} {B B' : Bnd} {cs : List CV}, takeTm st B l = some (B', cs) → ExtB B B' ∧ ∀ rest tm, ∃ tm', putTm base l (cs ++ rest) tm = some (tm', rest) ∧ tm'.length = tm.length ∧
    ∀ (n : Nat) (m1 : MV), tm'[n]? = some m1 → tm[n]? = some m1 ∨ ∃ x x1, st.tm[n]? = some (.v (.at x)) ∧ m1 = .v (.at x1) ∧ Corr B' base x x1
  | [], B, B', cs, h => by cases h; exact ⟨ExtB.refl _, fun rest tm => ⟨tm, rfl, rfl, fun n m1 h => .inl h⟩⟩
  | (n, a) :: r, B, B', cs, h => by
    simp only [takeTm] at h
    split at h
    · rename_i x hx
      split at h
      · rename_i B1 cs1 h1
        split at h
        · rename_i B2 cs2 h2
          cases h
          obtain ⟨e1, p1⟩ := take_put_at base h1
          obtain ⟨e2, p2⟩ := take_put_tm base h2
          refine ⟨e1.trans e2, fun rest tm => ?_⟩
          obtain ⟨x1, q1, c1⟩ := p1 (cs2 ++ rest)
          obtain ⟨tm', q2, q3, q4⟩ := p2 rest (tm.set n (.v (.at x1)))
          refine ⟨tm', by simp [putTm, List.append_assoc, q1, q2], by simpa using q3, fun k m1 hk => ?_⟩
          rcases q4 k m1 hk with h | h
          · rw [List.getElem?_set] at h
            split at h
            · rename_i he
              subst he
              split at h
              · cases h
                exact .inr ⟨x, x1, hx, rfl, c1.mono e2⟩
              · cases h
            · exact .inl h
          · exact .inr h
        · cases h
      · cases h
    · cases h

theorem take_put_cells (base : Nat) : ∀ {l : List AT} {xs : List At} {B B' : Bnd} {cs : List CV}, takeCells B l xs = some (B', cs) → ExtB B B' ∧ ∀ rest, ∃ xs1, putCells base l (cs ++ rest) = some (xs1, rest) ∧ xs1.length = xs.length ∧
    ∀ (j : Nat) (x x1 : At), xs[j]? = some x → xs1[j]? = some x1 → Corr B' base x x1
  | [], [], B, B', cs, h => by cases h; exact ⟨ExtB.refl _, fun rest => ⟨[], rfl, rfl, fun j x x1 h => by simp at h⟩⟩
  | [], _ :: _, _, _, _, h => by simp [takeCells] at h
  | _ :: _, [], _, _, _, h => by simp [takeCells] at h
  | a :: r, x :: y, B, B', cs, h => by
    simp only [takeCells] at h
    split at h
    · rename_i B1 cs1 h1
      split at h
      · rename_i B2 cs2 h2
        cases h
        obtain ⟨e1, p1⟩ := take_put_at base h1
        obtain ⟨e2, p2⟩ := take_put_cells base h2
        refine ⟨e1.trans e2, fun rest => ?_⟩
        obtain ⟨x1, q1, c1⟩ := p1 (cs2 ++ rest)
        obtain ⟨xs1, q2, q3, q4⟩ := p2 rest
        refine ⟨x1 :: xs1, by simp [putCells, List.append_assoc, q1, q2], by simp [q3], fun j z z1 hz hz1 => ?_⟩
        cases j with
        | zero => simp at hz hz1; subst hz hz1; exact c1.mono e2
        | succ j => exact q4 j z z1 (by simpa using hz) (by simpa using hz1)
      · cases h
    · cases h

theorem take_put_lo (base : Nat) : ∀ {l : List (Nat × List AT)} {B B' : Bnd} {cs : List CV}, takeLo st B l = some (B', cs) → ExtB B B' ∧ ∀ rest, ∃ lo1, putLo base l (cs ++ rest) = some (lo1, rest) ∧
    ∀ (l1 : Nat) (xs1 : List At), aget lo1 l1 = some xs1 → ∃ l l' xs, l1 = base + l ∧ aget B'.l l = some l' ∧ aget st.lo l' = some xs ∧ xs1.length = xs.length ∧ ∀ (j : Nat) (x x1 : At), xs[j]? = some x → xs1[j]? = some x1 → Corr B' base x x1
  | [], B, B', cs, h => by cases h; exact ⟨ExtB.refl _, fun rest => ⟨[], rfl, fun l1 xs1 h => by cases h⟩⟩
  | (l, xa) :: r, B, B', cs, h => by
    simp only [takeLo] at h
    split at h
    · rename_i l' hl
      split at h
      · rename_i cells hcells
        split at h
        · rename_i B1 cs1 h1
          split at h
          · rename_i B2 cs2 h2
            cases h
            obtain ⟨e1, p1⟩ := take_put_cells base h1
            obtain ⟨e2, p2⟩ := take_put_lo base h2
            refine ⟨e1.trans e2, fun rest => ?_⟩
            obtain ⟨xs1, q1, q2, q3⟩ := p1 (cs2 ++ rest)
            obtain ⟨lo1, q4, q5⟩ := p2 rest
            refine ⟨(base + l, xs1) :: lo1, by simp [putLo, List.append_assoc, q1, q4], fun k ys hk => ?_⟩
            simp only [aget] at hk
            split at hk
            · rename_i he
              simp only [beq_iff_eq] at he
              cases hk
              exact ⟨l, l', cells, he.symm, (e1.trans e2).l _ _ hl, hcells, q2, fun j x x1 hx hx1 => (q3 j x x1 hx hx1).mono e2⟩
            · exact q5 k ys hk
          · cases h
        · cases h
      · cases h
    · cases h

theorem take_put_ro (base : Nat) {B : Bnd} : ∀ {l : List (Nat × Ty × Bool)} {cs : List CV}, takeRo st B l = some cs → ∃ ro1, putRo base l cs = some ro1 ∧
    ∀ (r1 : Nat) (R1 : Root), aget ro1 r1 = some R1 → ∃ r r', r1 = base + r ∧ aget B.r r = some r' ∧ aget st.ro r' = some R1 ∧ R1.ep = none
  | [], cs, h => by cases h; exact ⟨[], rfl, fun r1 R1 h => by cases h⟩
  | (r, t, own) :: rest, cs, h => by
    simp only [takeRo] at h
    split at h
    · rename_i r' hr
      split at h
      · rename_i R hR
        split at h
        · rename_i hc
          split at h
          · rename_i cs' hcs
            cases h
            obtain ⟨ro1, q1, q2⟩ := take_put_ro base hcs
            refine ⟨(base + r, ⟨R.t, R.l, own, none⟩) :: ro1, by simp [putRo, q1], fun k R1 hk => ?_⟩
            simp only [aget] at hk
            split at hk
            · rename_i he
              simp only [beq_iff_eq] at he
              cases hk
              have : (⟨R.t, R.l, own, none⟩ : Root) = R := by
                obtain ⟨_, h2, h3⟩ := hc
                rw [← h2, ← h3]
              rw [this]
              exact ⟨r, r', he.symm, hr, hR, hc.2.2⟩
            · exact q2 k R1 hk
          · cases h
        · cases h
      · cases h
    · cases h

theorem packs_unpack : ∀ (sig : List CTy) (cs : List CV) (s : Dat sig), unpack sig cs = some s → packs sig s = cs
  | [], [], s, _ => rfl
  | [], _ :: _, s, h => by simp [unpack] at h
  | .i k :: sig, cs, s, h => by
    cases cs with
    | nil => simp [unpack] at h
    | cons c cs =>
      cases c with
      | i k' n =>
        simp only [unpack] at h
        split at h
        · rename_i hk
          subst hk
          split at h
          · rename_i d hd
            cases h
            simp [packs, packs_unpack sig cs d hd]
          · cases h
        · cases h
      | b x => simp [unpack] at h
      | s t l => simp [unpack] at h
  | .b :: sig, cs, s, h => by
    cases cs with
    | nil => simp [unpack] at h
    | cons c cs =>
      cases c with
      | i k' n => simp [unpack] at h
      | b x =>
        simp only [unpack] at h
        split at h
        · rename_i d hd
          cases h
          simp [packs, packs_unpack sig cs d hd]
        · cases h
      | s t l => simp [unpack] at h
  | .s t :: sig, cs, s, h => by
    cases cs with
    | nil => simp [unpack] at h
    | cons c cs =>
      cases c with
      | i k' n => simp [unpack] at h
      | b x => simp [unpack] at h
      | s t' l =>
        simp only [unpack] at h
        split at h
        · rename_i hk
          subst hk
          split at h
          · rename_i d hd
            cases h
            simp [packs, packs_unpack sig cs d hd]
          · cases h
        · cases h

def badStk (l : List (List MV)) : List (List MV) := l.map fun f => f.map fun _ => .v (.at .bad)

theorem Stack.bad : ∀ {l : List (List MV)} {s : List (Array Value)}, Stack w st E l s → ∀ (w1 : World) (st1 : St) (E1 : Env), Stack w1 st1 E1 (badStk l) s
  | [], [], _, _, _, _ => trivial
  | f :: r, ts :: s, h, w1, st1, E1 => by
    refine ⟨⟨by simpa using h.1.1, fun i m v hm hv => ?_⟩, Stack.bad h.2 w1 st1 E1⟩
    rw [List.getElem?_map] at hm
    cases hf : f[i]? with
    | none => rw [hf] at hm; cases hm
    | some y => rw [hf] at hm; cases hm; trivial
  | [], _ :: _, h, _, _, _ => h.elim
  | _ :: _, [], h, _, _, _ => h.elim

def newEnv (B : Bnd) (base : Nat) (E : Env) : Env where
  ρ n := match aget B.r (n - base) with | some r => E.ρ r | none => undef
  φ n := match aget B.r (n - base) with | some r => E.φ r | none => fun _ => False
  β n := match aget B.l (n - base) with | some l => E.β l | none => 0

theorem Corr.va {B : Bnd} {base : Nat} {x x1 : At} {v : Value} (h : Corr B base x x1) (hv : VA w st E x v)
    (hr : ∀ (r r' : Nat) (R1 : Root), aget B.r r = some r' → st1.root (base + r) = some R1 → st.root r' = some R1)
    (hl : ∀ (l l' : Nat) (xs1 : List At), aget B.l l = some l' → aget st1.lo (base + l) = some xs1 → ∃ xs, aget st.lo l' = some xs) : VA w st1 (newEnv B base E) x1 v := by
  have er : ∀ {r r' : Nat}, aget B.r r = some r' → (newEnv B base E).ρ (base + r) = E.ρ r' := fun h => by simp [newEnv, h]
  have el : ∀ {l l' : Nat}, aget B.l l = some l' → (newEnv B base E).β (base + l) = E.β l' := fun h => by simp [newEnv, h]
  cases x1 with
  | bad => trivial
  | i k n => cases h; exact hv
  | b y => cases h; exact hv
  | sl r1 p =>
    obtain ⟨r, r', rfl, rfl, h3⟩ := h
    refine ⟨hv.1, fun R1 hR1 => ?_⟩
    rw [er h3]
    exact hv.2 R1 (hr r r' R1 h3 hR1)
  | lp l1 off =>
    obtain ⟨l, l', rfl, rfl, h3⟩ := h
    refine ⟨hv.1, fun xs1 h1 => ?_⟩
    rw [el h3]
    obtain ⟨xs, hxs⟩ := hl l l' xs1 h3 h1
    exact hv.2 xs hxs
  | ep r1 p i off =>
    obtain ⟨r, r', rfl, rfl, h3⟩ := h
    refine ⟨hv.1, fun R1 hR1 => ?_⟩
    rw [er h3]
    exact hv.2 R1 (hr r r' R1 h3 hR1)
  | fn f caps1 =>
    obtain ⟨caps', rfl, hlen, h3⟩ := h
    obtain ⟨vs, g1, g2, g3⟩ := hv
    refine ⟨vs, g1, by rw [g2, hlen], fun k l1 u hk hu => ?_⟩
    have hlt : k < caps'.length := by rw [← hlen]; exact (List.getElem?_eq_some_iff.1 hk).1
    have hk' := List.getElem?_eq_getElem hlt
    obtain ⟨l, rfl, h5⟩ := h3 k l1 _ hk hk'
    obtain ⟨g4, g5⟩ := g3 k _ u hk' hu
    refine ⟨g4, fun xs1 h1 => ?_⟩
    rw [el h5]
    obtain ⟨xs, hxs⟩ := hl l _ xs1 h5 h1
    exact g5 xs hxs

theorem Corr.ids {B : Bnd} {base : Nat} {x x1 : At} (h : Corr B base x x1) {n : Nat} (hn : n ∈ x1.ids) : ∃ k v, n = base + k ∧ (aget B.r k = some v ∨ aget B.l k = some v) := by
  cases x1 with
  | bad => simp [At.ids, atIds, atLids] at hn
  | i k m => simp [At.ids, atIds, atLids] at hn
  | b y => simp [At.ids, atIds, atLids] at hn
  | sl r1 p =>
    obtain ⟨r, r', rfl, rfl, h3⟩ := h
    simp only [At.ids, atIds, atLids, List.append_nil, List.mem_singleton] at hn
    exact ⟨r, r', hn, .inl h3⟩
  | lp l1 off =>
    obtain ⟨l, l', rfl, rfl, h3⟩ := h
    simp only [At.ids, atIds, atLids, List.nil_append, List.mem_singleton] at hn
    exact ⟨l, l', hn, .inr h3⟩
  | ep r1 p i off =>
    obtain ⟨r, r', rfl, rfl, h3⟩ := h
    simp only [At.ids, atIds, atLids, List.append_nil, List.mem_singleton] at hn
    exact ⟨r, r', hn, .inl h3⟩
  | fn f caps1 =>
    obtain ⟨caps', rfl, hlen, h3⟩ := h
    simp only [At.ids, atIds, atLids, List.nil_append] at hn
    obtain ⟨k, hk⟩ := List.mem_iff_getElem?.1 hn
    have hlt : k < caps'.length := by rw [← hlen]; exact (List.getElem?_eq_some_iff.1 hk).1
    obtain ⟨l, h4, h5⟩ := h3 k n _ hk (List.getElem?_eq_getElem hlt)
    exact ⟨l, _, h4, .inr h5⟩

/-! What is kept of the callers' slots. -/

def scAt : At → At
  | .i k n => .i k n
  | .b x => .b x
  | _ => .bad

def scStk (l : List (List MV)) : List (List MV) := l.map fun f => f.map (mapMV scAt)

theorem corrAt_corr {B : Bnd} {base : Nat} {a a1 : At} (h : corrAt B base a a1 = true) : (∃ k n, a1 = .i k n) ∨ (∃ x, a1 = .b x) ∨ a1 = .bad ∨ Corr B base a a1 := by
  cases a1 with
  | bad => exact .inr (.inr (.inl rfl))
  | i k n => exact .inl ⟨k, n, rfl⟩
  | b x => exact .inr (.inl ⟨x, rfl⟩)
  | sl r p =>
    cases a with
    | sl r' p' =>
      cases p' with
      | nil =>
        cases p with
        | nil =>
          simp only [corrAt, Bool.and_eq_true, Nat.ble_eq] at h
          obtain ⟨h1, h2⟩ := h
          split at h2
          · rename_i v hv
            rw [Nat.beq_eq] at h2
            subst h2
            exact .inr (.inr (.inr ⟨r - base, v, rfl, by omega, hv⟩))
          · cases h2
        | cons _ _ => simp [corrAt] at h
      | cons _ _ => cases p <;> simp [corrAt] at h
    | _ => cases p <;> simp [corrAt] at h
  | lp l o =>
    cases a with
    | lp l' o' =>
      simp only [corrAt, Bool.and_eq_true, Nat.ble_eq, Nat.beq_eq] at h
      obtain ⟨⟨h1, h3⟩, h2⟩ := h
      subst h3
      split at h2
      · rename_i v hv
        rw [Nat.beq_eq] at h2
        subst h2
        exact .inr (.inr (.inr ⟨l - base, v, rfl, by omega, hv⟩))
      · cases h2
    | _ => simp [corrAt] at h
  | ep r p i o => cases a <;> (try cases ‹List (Int × Nat)›) <;> simp [corrAt] at h
  | fn f c => cases a <;> (try cases ‹List (Int × Nat)›) <;> simp [corrAt] at h

theorem corrAts_get {B : Bnd} {base : Nat} : ∀ {l m : List At}, corrAts B base l m = true → l.length = m.length ∧ ∀ (i : Nat) (a b : At), l[i]? = some a → m[i]? = some b → corrAt B base a b = true
  | [], [], _ => ⟨rfl, fun i a b h => by simp at h⟩
  | a :: l, b :: m, h => by
    simp only [corrAts, Bool.and_eq_true] at h
    obtain ⟨h1, h2⟩ := corrAts_get h.2
    refine ⟨by simp [h1], fun i x y hx hy => ?_⟩
    cases i with
    | zero => simp at hx hy; subst hx hy; exact h.1
    | succ i => exact h2 i x y (by simpa using hx) (by simpa using hy)
  | [], _ :: _, h => by cases h
  | _ :: _, [], h => by cases h

theorem corrTVs_get {B : Bnd} {base : Nat} : ∀ {l m : List TV}, corrTVs B base l m = true → l.length = m.length ∧ ∀ (i : Nat) (a b : TV), l[i]? = some a → m[i]? = some b → corrTV B base a b = true
  | [], [], _ => ⟨rfl, fun i a b h => by simp at h⟩
  | a :: l, b :: m, h => by
    simp only [corrTVs, Bool.and_eq_true] at h
    obtain ⟨h1, h2⟩ := corrTVs_get h.2
    refine ⟨by simp [h1], fun i x y hx hy => ?_⟩
    cases i with
    | zero => simp at hx hy; subst hx hy; exact h.1
    | succ i => exact h2 i x y (by simpa using hx) (by simpa using hy)
  | [], _ :: _, h => by cases h
  | _ :: _, [], h => by cases h

theorem corrF_get {B : Bnd} {base : Nat} : ∀ {l m : List MV}, corrF B base l m = true → l.length = m.length ∧ ∀ (i : Nat) (a b : MV), l[i]? = some a → m[i]? = some b → corrMV B base a b = true
  | [], [], _ => ⟨rfl, fun i a b h => by simp at h⟩
  | a :: l, b :: m, h => by
    simp only [corrF, Bool.and_eq_true] at h
    obtain ⟨h1, h2⟩ := corrF_get h.2
    refine ⟨by simp [h1], fun i x y hx hy => ?_⟩
    cases i with
    | zero => simp at hx hy; subst hx hy; exact h.1
    | succ i => exact h2 i x y (by simpa using hx) (by simpa using hy)
  | [], _ :: _, h => by cases h
  | _ :: _, [], h => by cases h

theorem map_get {α β : Type} {f : α → β} {l : List α} {i : Nat} {x : α} (h : l[i]? = some x) : (l.map f)[i]? = some (f x) := by
  rw [List.getElem?_map, h]; rfl

section
variable {B : Bnd} {base : Nat} {w2 : World} {st2 : St} {E2 : Env}

theorem va_kept {a a1 : At} {v : Value} (h : corrAt B base a a1 = true) (hv : VA w st E a v) (hs : VA w2 st2 E2 (scAt a1) v)
    (hr : ∀ (r r' : Nat) (R1 : Root), aget B.r r = some r' → st1.root (base + r) = some R1 → st.root r' = some R1)
    (hl : ∀ (l l' : Nat) (xs1 : List At), aget B.l l = some l' → aget st1.lo (base + l) = some xs1 → ∃ xs, aget st.lo l' = some xs) : VA w st1 (newEnv B base E) a1 v := by
  rcases corrAt_corr h with ⟨k, n, rfl⟩ | ⟨x, rfl⟩ | rfl | hc
  · exact hs
  · exact hs
  · trivial
  · exact hc.va hv hr hl

theorem tvC{M:TV->Prop}(ap:∀a,M (.at a))(agg:∀l,M (.agg l)):∀x,M x
 | .at a=>ap a
 | .agg l=>agg l
theorem vt_kept {x x1 : TV} {v : Value} (h : corrTV B base x x1 = true) (hv : VT w st E x v) (hs : VT w2 st2 E2 (mapTV scAt x1) v)
    (hr : ∀ (r r' : Nat) (R1 : Root), aget B.r r = some r' → st1.root (base + r) = some R1 → st.root r' = some R1)
    (hl : ∀ (l l' : Nat) (xs1 : List At), aget B.l l = some l' → aget st1.lo (base + l) = some xs1 → ∃ xs, aget st.lo l' = some xs) : VT w st1 (newEnv B base E) x1 v := by
  cases x1 using tvC with
  | ap a1 =>
    cases x using tvC with
    | ap a => exact va_kept h hv hs hr hl
    | agg l => cases h
  | agg m =>
    cases x using tvC with
    | ap a => cases h
    | agg l =>
      obtain ⟨h1, h2⟩ := corrAts_get (l := l) (m := m) h
      obtain ⟨vs, rfl, g1, g2⟩ := hv
      obtain ⟨vs', e, f1, f2⟩ := hs
      cases e
      refine ⟨vs, rfl, by rw [g1, h1], fun j a1 u ha hu => ?_⟩
      have hlt : j < l.length := by rw [h1]; exact (List.getElem?_eq_some_iff.1 ha).1
      have hlj := List.getElem?_eq_getElem hlt
      exact ⟨(g2 j _ u hlj hu).1, va_kept (h2 j _ a1 hlj ha) (g2 j _ u hlj hu).2 (f2 j _ u (map_get ha) hu).2 hr hl⟩

theorem vm_kept {x x1 : MV} {v : Value} (h : corrMV B base x x1 = true) (hv : VM w st E x v) (hs : VM w2 st2 E2 (mapMV scAt x1) v)
    (hr : ∀ (r r' : Nat) (R1 : Root), aget B.r r = some r' → st1.root (base + r) = some R1 → st.root r' = some R1)
    (hl : ∀ (l l' : Nat) (xs1 : List At), aget B.l l = some l' → aget st1.lo (base + l) = some xs1 → ∃ xs, aget st.lo l' = some xs) : VM w st1 (newEnv B base E) x1 v := by
  cases x1 with
  | und => cases x with
    | und => exact hv
    | _ => cases h
  | v y1 => cases x with
    | v y => exact vt_kept h hv hs hr hl
    | _ => cases h
  | tup m =>
    cases x with
    | tup l =>
      obtain ⟨h1, h2⟩ := corrTVs_get (l := l) (m := m) h
      obtain ⟨vs, rfl, g1, g2⟩ := hv
      obtain ⟨vs', e, f1, f2⟩ := hs
      cases e
      refine ⟨vs, rfl, by rw [g1, h1], fun j a1 u ha hu => ?_⟩
      have hlt : j < l.length := by rw [h1]; exact (List.getElem?_eq_some_iff.1 ha).1
      have hlj := List.getElem?_eq_getElem hlt
      exact vt_kept (h2 j _ a1 hlj ha) (g2 j _ u hlj hu) (f2 j _ u (map_get ha) hu) hr hl
    | _ => cases h

theorem stack_kept (hr : ∀ (r r' : Nat) (R1 : Root), aget B.r r = some r' → st1.root (base + r) = some R1 → st.root r' = some R1)
    (hl : ∀ (l l' : Nat) (xs1 : List At), aget B.l l = some l' → aget st1.lo (base + l) = some xs1 → ∃ xs, aget st.lo l' = some xs) : ∀ {stk stk1 : List (List MV)} {sv : List (Array Value)}, corrStk B base stk stk1 = true → Stack w st E stk sv → Stack w2 st2 E2 (scStk stk1) sv →
      Stack w st1 (newEnv B base E) stk1 sv
  | [], [], sv, _, h, _ => by cases sv <;> first | trivial | exact h.elim
  | f :: stk, g :: stk1, sv, hc, h, hs => by
    cases sv with
    | nil => exact h.elim
    | cons ts sv =>
      simp only [corrStk, Bool.and_eq_true] at hc
      obtain ⟨h1, h2⟩ := corrF_get hc.1
      refine ⟨⟨by rw [h.1.1, h1], fun i m v hm hv => ?_⟩, stack_kept hr hl hc.2 h.2 hs.2⟩
      have hlt : i < f.length := by rw [h1]; exact (List.getElem?_eq_some_iff.1 hm).1
      have hf := List.getElem?_eq_getElem hlt
      exact vm_kept (h2 i _ m hf hm) (h.1.2 i _ v hf hv) (hs.1.2 i _ v (map_get hm) hv) hr hl
  | [], _ :: _, _, hc, _, _ => by cases hc
  | _ :: _, [], _, hc, _, _ => by cases hc

theorem corrAt_ids {a a1 : At} (h : corrAt B base a a1 = true) {n : Nat} (hn : n ∈ a1.ids) : ∃ k v, n = base + k ∧ (aget B.r k = some v ∨ aget B.l k = some v) := by
  rcases corrAt_corr h with ⟨k, m, rfl⟩ | ⟨x, rfl⟩ | rfl | hc
  · simp [At.ids, atIds, atLids] at hn
  · simp [At.ids, atIds, atLids] at hn
  · simp [At.ids, atIds, atLids] at hn
  · exact hc.ids hn

theorem corrTV_ids {x x1 : TV} (h : corrTV B base x x1 = true) {b : At} (hb : b ∈ tvAts x1) : ∃ a, corrAt B base a b = true := by
  cases x1 using tvC with
  | ap a1 =>
    cases x using tvC with
    | ap a => simp only [tvAts, List.mem_singleton] at hb; subst hb; exact ⟨a, h⟩
    | agg l => cases h
  | agg m =>
    cases x using tvC with
    | ap a => cases h
    | agg l =>
      obtain ⟨h1, h2⟩ := corrAts_get (l := l) (m := m) h
      obtain ⟨i, hi⟩ := List.mem_iff_getElem?.1 hb
      have hlt : i < l.length := by rw [h1]; exact (List.getElem?_eq_some_iff.1 hi).1
      exact ⟨_, h2 i _ b (List.getElem?_eq_getElem hlt) hi⟩

theorem corrStk_ids : ∀ {stk stk1 : List (List MV)}, corrStk B base stk stk1 = true → ∀ f ∈ stk1, ∀ m ∈ f, ∀ n ∈ m.ids, ∃ k v, n = base + k ∧ (aget B.r k = some v ∨ aget B.l k = some v)
  | [], [], _, f, hf, _, _, _, _ => by cases hf
  | g :: stk, g1 :: stk1, hc, f, hf, m, hm, n, hn => by
    simp only [corrStk, Bool.and_eq_true] at hc
    rcases List.mem_cons.1 hf with rfl | hf
    · obtain ⟨h1, h2⟩ := corrF_get hc.1
      obtain ⟨i, hi⟩ := List.mem_iff_getElem?.1 hm
      have hlt : i < g.length := by rw [h1]; exact (List.getElem?_eq_some_iff.1 hi).1
      have hmv := h2 i _ m (List.getElem?_eq_getElem hlt) hi
      simp only [MV.ids, List.mem_flatMap] at hn
      obtain ⟨b, hb, hn⟩ := hn
      have : ∃ a, corrAt B base a b = true := by
        generalize g[i] = x at hmv
        cases m with
        | und => simp [mvAts] at hb
        | v y1 =>
          cases x with
          | v y => exact corrTV_ids hmv hb
          | _ => cases hmv
        | tup l1 =>
          cases x with
          | tup l =>
            obtain ⟨k1, k2⟩ := corrTVs_get (l := l) (m := l1) hmv
            simp only [mvAts, List.mem_flatMap] at hb
            obtain ⟨y, hy, hb⟩ := hb
            obtain ⟨j, hj⟩ := List.mem_iff_getElem?.1 hy
            have hlj : j < l.length := by rw [k1]; exact (List.getElem?_eq_some_iff.1 hj).1
            exact corrTV_ids (k2 j _ y (List.getElem?_eq_getElem hlj) hj) hb
          | _ => cases hmv
      obtain ⟨a, ha⟩ := this
      exact corrAt_ids ha hn
    · exact corrStk_ids hc.2 f hf m hm n hn
  | [], _ :: _, hc, _, _, _, _, _, _ => by cases hc
  | _ :: _, [], hc, _, _, _, _, _, _ => by cases hc

theorem va_sc {a : At} {v : Value} (h : VA w st E a v) : VA w2 st2 E2 (scAt (keepAt B base a)) v := by
  cases a with
  | i k n => exact h
  | b x => exact h
  | sl r p =>
    cases p with
    | nil => simp only [keepAt]; split <;> trivial
    | cons _ _ => trivial
  | lp l o => simp only [keepAt]; split <;> trivial
  | _ => trivial

theorem vt_sc {x : TV} {v : Value} (h : VT w st E x v) : VT w2 st2 E2 (mapTV scAt (mapTV (keepAt B base) x)) v := by
  cases x using tvC with
  | ap a => exact va_sc h
  | agg l =>
    obtain ⟨vs, h1, h2, h3⟩ := h
    refine ⟨vs, h1, by simp [h2], fun j a u ha hu => ?_⟩
    rw [List.getElem?_map, List.getElem?_map] at ha
    cases hl : l[j]? with
    | none => rw [hl] at ha; cases ha
    | some b => rw [hl] at ha; cases ha; exact ⟨(h3 j b u hl hu).1, va_sc (h3 j b u hl hu).2⟩

theorem vm_sc {m : MV} {v : Value} (h : VM w st E m v) : VM w2 st2 E2 (mapMV scAt (mapMV (keepAt B base) m)) v := by
  cases m with
  | und => exact h
  | v x => exact vt_sc h
  | tup l =>
    obtain ⟨vs, h1, h2, h3⟩ := h
    refine ⟨vs, h1, by simp [h2], fun j a u ha hu => ?_⟩
    rw [List.getElem?_map, List.getElem?_map] at ha
    cases hl : l[j]? with
    | none => rw [hl] at ha; cases ha
    | some b => rw [hl] at ha; cases ha; exact vt_sc (h3 j b u hl hu)

theorem stack_sc : ∀ {stk : List (List MV)} {sv : List (Array Value)}, Stack w st E stk sv → Stack w2 st2 E2 (scStk (keepStk B base stk)) sv
  | [], [], _ => trivial
  | f :: r, ts :: s, h => by
    refine ⟨⟨by simp [h.1.1], fun i m v hm hv => ?_⟩, stack_sc h.2⟩
    rw [List.getElem?_map, List.getElem?_map] at hm
    cases hf : f[i]? with
    | none => rw [hf] at hm; cases hm
    | some y => rw [hf] at hm; cases hm; exact vm_sc (h.1.2 i y v hf hv)
  | [], _ :: _, h => h.elim
  | _ :: _, [], h => h.elim
end

/-- **A loop's head.** -/
theorem take_put (hS : Sim w0 S0 U st E ts sv w) {T : Tmpl} {B : Bnd} {cs : List CV} (h : T.takeB st = some (B, cs)) (base : Nat) {stk0 : List (List MV)} (hstk : ∀ (w1 : World) (st1 : St) (E1 : Env), Stack w1 st1 E1 (scStk stk0) sv) (hco : corrStk B base st.stk stk0 = true) :
    ∃ st1 E1, T.put base cs = some st1 ∧ Sim w0 S0 (fun n => base ≤ n ∧ n < base + 1000) { st1 with stk := stk0 } E1 ts sv w ∧ st1.nid = base + 1000 := by
  unfold Tmpl.takeB at h
  split at h
  · rename_i hn
    simp only [beq_iff_eq] at hn
    split at h
    · rename_i B1 cs1 h1
      split at h
      · rename_i Bx cs2 h2
        split at h
        · rename_i cs3 h3
          split at h
          · rename_i hok
            cases h
            obtain ⟨e1, p1⟩ := take_put_tm base h1
            obtain ⟨e2, p2⟩ := take_put_lo base h2
            obtain ⟨ro1, q5, q6⟩ := take_put_ro base h3
            obtain ⟨tm', q1, q2, q3⟩ := p1 (cs2 ++ cs3) (List.replicate T.n (.v (.at .bad)))
            obtain ⟨lo1, q7, q8⟩ := p2 cs3
            have hinj : ∀ {l : List (Nat × Nat)}, l = [] → Inj l := fun h k k' v hk => by subst h; cases hk
            have hIr : Inj B.r := (e1.trans e2).ir (hinj rfl)
            have hIl : Inj B.l := (e1.trans e2).il (hinj rfl)
            simp only [bndOk, Bool.and_eq_true, List.all_eq_true, decide_eq_true_eq] at hok
            have hbr : ∀ {k v : Nat}, aget B.r k = some v → base ≤ base + k ∧ base + k < base + 1000 := fun h => ⟨by omega, by have := hok.1 _ (aget_mem h); simp only at this; omega⟩
            have hbl : ∀ {k v : Nat}, aget B.l k = some v → base ≤ base + k ∧ base + k < base + 1000 := fun h => ⟨by omega, by have := hok.2 _ (aget_mem h); simp only at this; omega⟩
            refine ⟨{ tm := tm', lo := lo1, ro := ro1, stk := [], nid := base + 1000, ep := 0 }, newEnv B base E, ?_, ?_, rfl⟩
            · simp [Tmpl.put, List.append_assoc, q1, q7, q5]
            · generalize hst : ({ tm := tm', lo := lo1, ro := ro1, stk := stk0, nid := base + 1000, ep := 0 } : St) = st1
              have hroot : ∀ (r1 : Nat) (R1 : Root), st1.root r1 = some R1 → ∃ r r', r1 = base + r ∧ aget B.r r = some r' ∧ st.root r' = some R1 ∧ R1.ep = none := by
                intro r1 R1 hR1
                have := (root_aget hR1).1
                rw [← hst] at this
                obtain ⟨r, r', g1, g2, g3, g4⟩ := q6 r1 R1 this
                exact ⟨r, r', g1, g2, root_of g3 (.inl g4), g4⟩
              have hlo : ∀ (l1 : Nat) (xs1 : List At), aget st1.lo l1 = some xs1 → ∃ l l' xs, l1 = base + l ∧ aget B.l l = some l' ∧ aget st.lo l' = some xs ∧ xs1.length = xs.length ∧ ∀ (j : Nat) (x x1 : At), xs[j]? = some x → xs1[j]? = some x1 → Corr B base x x1 := by
                intro l1 xs1 h
                rw [← hst] at h
                exact q8 l1 xs1 h
              have hr' : ∀ (r r' : Nat) (R1 : Root), aget B.r r = some r' → st1.root (base + r) = some R1 → st.root r' = some R1 := by
                intro r r' R1 hb hR1
                obtain ⟨r2, r2', g1, g2, g3, _⟩ := hroot _ R1 hR1
                have : r = r2 := by omega
                subst this
                rw [hb] at g2
                cases g2
                exact g3
              have hl' : ∀ (l l' : Nat) (xs1 : List At), aget B.l l = some l' → aget st1.lo (base + l) = some xs1 → ∃ xs, aget st.lo l' = some xs := by
                intro l l' xs1 hb h
                obtain ⟨l2, l2', xs, g1, g2, g3, _⟩ := hlo _ xs1 h
                have : l = l2 := by omega
                subst this
                rw [hb] at g2
                cases g2
                exact ⟨xs, g3⟩
              have eρ : ∀ {r r' : Nat}, aget B.r r = some r' → (newEnv B base E).ρ (base + r) = E.ρ r' ∧ (newEnv B base E).φ (base + r) = E.φ r' := fun h => by simp [newEnv, h]
              have eβ : ∀ {l l' : Nat}, aget B.l l = some l' → (newEnv B base E).β (base + l) = E.β l' := fun h => by simp [newEnv, h]
              have hM := hS.mem
              refine ⟨⟨hM.os, hM.tape, hM.output, hM.size, hM.keep, ?_, ?_, ?_, ?_, ?_, ?_, ?_, ?_⟩, ⟨?_, ?_, ?_, ?_⟩, ⟨?_, ?_⟩, ?_⟩
              · intro r1 R1 hR1
                obtain ⟨r, r', rfl, g2, g3, _⟩ := hroot r1 R1 hR1
                rw [(eρ g2).1, (eρ g2).2]
                exact hM.rep r' R1 g3
              · intro r1 R1 hR1 x hx
                obtain ⟨r, r', rfl, g2, g3, _⟩ := hroot r1 R1 hR1
                rw [(eρ g2).2] at hx
                exact hM.rlt r' R1 g3 x hx
              · intro r1 R1 hR1 ho
                obtain ⟨r, r', rfl, g2, g3, _⟩ := hroot r1 R1 hR1
                rw [(eρ g2).2]
                exact hM.mine r' R1 g3 ho
              · intro r1 R1 r2 R2 hR1 ho hR2 he hne x hx
                obtain ⟨r, r', rfl, g2, g3, _⟩ := hroot r1 R1 hR1
                obtain ⟨s, s', rfl, f2, f3, _⟩ := hroot r2 R2 hR2
                rw [(eρ g2).2] at hx
                rw [(eρ f2).2]
                exact hM.apart r' R1 s' R2 g3 ho f3 he (fun e => hne (by subst e; rw [hIr r s r' g2 f2])) x hx
              · intro l1 xs1 hl1
                obtain ⟨l, l', xs, rfl, g2, g3, g4, g5⟩ := hlo l1 xs1 hl1
                obtain ⟨f1, vals, e, f2, f3, f4⟩ := hM.loc l' xs g3
                rw [eβ g2]
                refine ⟨f1, vals, e, f2, by rw [f3, g4], fun j c u hc hu => ?_⟩
                have hlt : j < xs.length := by rw [← g4]; exact (List.getElem?_eq_some_iff.1 hc).1
                have hx := List.getElem?_eq_getElem hlt
                obtain ⟨f5, f6⟩ := f4 j _ u hx hu
                exact ⟨f5, (g5 j _ c hx hc).va f6 hr' hl'⟩
              · intro l1 l2 xs1 xs2 h1 h2 he
                obtain ⟨l, l', xs, rfl, g2, g3, _⟩ := hlo l1 xs1 h1
                obtain ⟨s, s', ys, rfl, f2, f3, _⟩ := hlo l2 xs2 h2
                rw [eβ g2, eβ f2] at he
                have := hM.linj l' s' xs ys g3 f3 he
                subst this
                rw [hIl l s l' g2 f2]
              · intro l1 xs1 r1 R1 h1 hR1
                obtain ⟨l, l', xs, rfl, g2, g3, _⟩ := hlo l1 xs1 h1
                obtain ⟨r, r', rfl, f2, f3, _⟩ := hroot r1 R1 hR1
                rw [eβ g2, (eρ f2).2]
                exact hM.lro l' xs r' R1 g3 f3
              · intro r1 R1 e hr1 he
                rw [← hst] at hr1
                obtain ⟨_, _, _, _, _, g4⟩ := q6 r1 R1 hr1
                rw [g4] at he
                cases he
              · intro n R hn'
                rw [← hst] at hn'
                obtain ⟨r, r', rfl, g2, _⟩ := q6 n R hn'
                exact hbr g2
              · intro n xs1 hn'
                obtain ⟨l, l', xs, rfl, g2, g3, g4, g5⟩ := hlo n xs1 hn'
                refine ⟨hbl g2, fun a ha m hm => ?_⟩
                obtain ⟨j, hj⟩ := List.mem_iff_getElem?.1 ha
                have hlt : j < xs.length := by rw [← g4]; exact (List.getElem?_eq_some_iff.1 hj).1
                obtain ⟨k, v, rfl, hk⟩ := (g5 j _ a (List.getElem?_eq_getElem hlt) hj).ids hm
                rcases hk with hk | hk
                · exact hbr hk
                · exact hbl hk
              · intro m hm n hn'
                rw [← hst] at hm
                obtain ⟨i, hi⟩ := List.mem_iff_getElem?.1 hm
                rcases q3 i m hi with h | ⟨x, x1, _, rfl, hc⟩
                · rw [List.getElem?_replicate] at h
                  split at h
                  · cases h
                    simp [MV.ids, mvAts, tvAts, At.ids, atIds, atLids] at hn'
                  · cases h
                · rw [ids_at] at hn'
                  obtain ⟨k, v, rfl, hk⟩ := (hc.mono e2).ids hn'
                  rcases hk with hk | hk
                  · exact hbr hk
                  · exact hbl hk
              · intro f hf m hm n hn'
                rw [← hst] at hf
                obtain ⟨k, v, rfl, hk⟩ := corrStk_ids hco f hf m hm n hn'
                rcases hk with hk | hk
                · exact hbr hk
                · exact hbl hk
              · rw [← hst]
                show ts.size = tm'.length
                rw [q2, List.length_replicate, hn]
                exact hS.tm.1
              · intro i m v hm hv
                rw [← hst] at hm
                rcases q3 i m hm with h | ⟨x, x1, hx, rfl, hc⟩
                · rw [List.getElem?_replicate] at h
                  split at h
                  · cases h; trivial
                  · cases h
                · have := hS.tm.2 i _ v hx hv
                  exact (hc.mono e2).va this hr' hl'
              · have e : st1.stk = stk0 := by rw [← hst]
                rw [e]
                exact stack_kept hr' hl' hco hS.stk (hstk w st1 E)
          · cases h
        · cases h
      · cases h
    · cases h
  · cases h

end
end Go.Proofs.YtdbdlamkkkdjhaaGreat.E
