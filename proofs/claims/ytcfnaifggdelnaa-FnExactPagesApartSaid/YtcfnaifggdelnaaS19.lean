/- What is proved here: a store that puts slices into another slice does what the evaluator says. -/
import Derived.Test.YtcfnaifggdelnaaS18
namespace Go.Proofs.Ytcfnaifggdelnaa.E
open Go

section
variable {C : Cfg} {w0 w w1 : World} {S0 : BSet} {U : Nat → Prop} {st st1 : St} {E E1 : Env} {ts : Array Value} {sv : List (Array Value)}

theorem samePath_true : ∀ {p q : List (Int × Nat)}, samePath p q = some true → p = q
  | [], [], _ => rfl
  | [], _ :: _, h => by simp [samePath] at h
  | _ :: _, [], h => by simp [samePath] at h
  | (i, j) :: p, (i', j') :: q, h => by
    simp only [samePath] at h
    split at h
    · rename_i hj
      simp only [beq_iff_eq] at hj
      split at h
      · rename_i c hc
        simp only [Option.some.injEq, Bool.and_eq_true, ieq, beq_iff_eq] at h
        obtain ⟨h1, h2⟩ := h
        subst h2
        rw [samePath_true hc, h1, hj]
      · cases h
    · cases h

/-- What is handed over, some of it where it lay. -/
structure GivenT (st : St) (xs : List At) (cs : List CV) (ks : List Nat) (r : Nat) (p : List (Int × Nat)) (i : Int) (off : Nat) : Prop where
  len : cs.length = xs.length
  own : ∀ q ∈ ks, q ≠ r ∧ ∃ R, st.root q = some R ∧ R.own = true
  get : ∀ (k : Nat) (a : At), xs[k]? = some a → (∃ k' n, a = .i k' n ∧ cs[k]? = some (.i k' n)) ∨ (∃ x, a = .b x ∧ cs[k]? = some (.b x)) ∨
    (∃ q R, a = .sl q [] ∧ st.root q = some R ∧ q ∈ ks ∧ cs[k]? = some (.s R.t R.l)) ∨ ∃ cv, a = .sl r (p ++ [(i, off + k)]) ∧ st.node r (p ++ [(i, off + k)]) = some cv ∧ cs[k]? = some cv
  inj : ∀ (k k' q : Nat), xs[k]? = some (.sl q []) → xs[k']? = some (.sl q []) → k = k'

theorem GivenT.mem {xs : List At} {cs : List CV} {ks : List Nat} {r : Nat} {p : List (Int × Nat)} {i : Int} {off : Nat} (hG : GivenT st xs cs ks r p i off) {k q : Nat} (hk : xs[k]? = some (At.sl q [])) : q ∈ ks := by
  rcases hG.get k _ hk with ⟨_, _, h, _⟩ | ⟨_, h, _⟩ | ⟨r2, _, h, _, hm, _⟩ | ⟨_, h, _⟩
  · cases h
  · cases h
  · cases h; exact hm
  · simp at h

theorem give_some {r : Nat} {p : List (Int × Nat)} {i : Int} : ∀ (xs : List At) (off : Nat) (cs : List CV) (ks : List Nat), st.give (some (r, p, i)) xs off = some (true, cs, ks) → GivenT st xs cs ks r p i off
  | [], off, cs, ks, h => by
    simp only [St.give, Option.some.injEq, Prod.mk.injEq] at h
    obtain ⟨_, rfl, rfl⟩ := h
    exact ⟨rfl, fun q hq => by simp at hq, fun k a h => by simp at h, fun k k' q h => by simp at h⟩
  | a :: xs, off, cs, ks, h => by
    -- one more in front
    have cons : ∀ {c' : CV} {cs' : List CV} {ks' ks2 : List Nat}, GivenT st xs cs' ks' r p i (off + 1) → (∀ q ∈ ks', q ∈ ks2) → (∀ q ∈ ks2, q ≠ r ∧ ∃ R, st.root q = some R ∧ R.own = true) →
        ((∃ k' n, a = .i k' n ∧ c' = .i k' n) ∨ (∃ x, a = .b x ∧ c' = .b x) ∨ (∃ q R, a = .sl q [] ∧ st.root q = some R ∧ q ∈ ks2 ∧ q ∉ ks' ∧ c' = .s R.t R.l) ∨ (a = .sl r (p ++ [(i, off)]) ∧ st.node r (p ++ [(i, off)]) = some c')) →
        GivenT st (a :: xs) (c' :: cs') ks2 r p i off := by
      intro c' cs' ks' ks2 hG hsub hown ha
      refine ⟨by simp [hG.len], hown, fun k b hb => ?_, fun k k' q hk hk' => ?_⟩
      · cases k with
        | zero =>
          simp only [List.getElem?_cons_zero, Option.some.injEq] at hb
          subst hb
          rcases ha with ⟨k', n, h1, h2⟩ | ⟨x, h1, h2⟩ | ⟨q, R, h1, h2, h3, _, h4⟩ | ⟨h1, h2⟩
          · exact .inl ⟨k', n, h1, by simp [h2]⟩
          · exact .inr (.inl ⟨x, h1, by simp [h2]⟩)
          · exact .inr (.inr (.inl ⟨q, R, h1, h2, h3, by simp [h4]⟩))
          · exact .inr (.inr (.inr ⟨c', h1, h2, by simp⟩))
        | succ k =>
          rcases hG.get k b (by simpa using hb) with h | h | ⟨q, R, h1, h2, h3, h4⟩ | ⟨cv, h1, h2, h3⟩
          · exact .inl h
          · exact .inr (.inl h)
          · exact .inr (.inr (.inl ⟨q, R, h1, h2, hsub q h3, h4⟩))
          · have e : off + 1 + k = off + (k + 1) := by omega
            rw [e] at h1 h2
            exact .inr (.inr (.inr ⟨cv, h1, h2, h3⟩))
      · have hnew : ∀ (k q : Nat), a = At.sl q [] → xs[k]? ≠ some (At.sl q []) := by
          intro k q hq hk
          rcases ha with ⟨k', n, h1, h2⟩ | ⟨x, h1, h2⟩ | ⟨q', R, h1, h2, h3, h4, _⟩ | ⟨h1, h2⟩
          · rw [hq] at h1; cases h1
          · rw [hq] at h1; cases h1
          · rw [hq] at h1; cases h1; exact h4 (hG.mem hk)
          · rw [hq] at h1; simp at h1
        cases k <;> cases k' <;> simp at hk hk'
        · rfl
        · exact absurd hk' (hnew _ q hk)
        · exact absurd hk (hnew _ q hk')
        · exact congrArg _ (hG.inj _ _ q hk hk')
    simp only [St.give] at h
    split at h
    · cases h
    · rename_i c0 cs' ks' hg
      split at h
      · rename_i k n
        cases h
        have hG := give_some xs (off + 1) cs' ks hg
        exact cons hG (fun _ h => h) hG.own (.inl ⟨k, n, rfl, rfl⟩)
      · rename_i x
        cases h
        have hG := give_some xs (off + 1) cs' ks hg
        exact cons hG (fun _ h => h) hG.own (.inr (.inl ⟨x, rfl, rfl⟩))
      · rename_i q
        split at h
        · rename_i R hR
          split at h
          · rename_i hcond
            cases h
            have hG := give_some xs (off + 1) cs' ks' hg
            simp only [Bool.and_eq_true, Bool.not_eq_true', List.contains_eq_mem, decide_eq_false_iff_not, beq_eq_false_iff_ne] at hcond
            refine cons hG (fun q' h => by simp [h]) (fun q' h => ?_) (.inr (.inr (.inl ⟨q, R, rfl, hR, by simp, hcond.1.2, rfl⟩)))
            rcases List.mem_cons.1 h with rfl | h
            · exact ⟨hcond.2, R, hR, hcond.1.1⟩
            · exact hG.own q' h
          · cases h
        · cases h
      · rename_i q p' hne
        split at h
        · rename_i hr
          simp only [beq_iff_eq] at hr
          subst hr
          split at h
          · rename_i e cv he hcv
            simp only [Option.some.injEq, Prod.mk.injEq, Bool.and_eq_true] at h
            obtain ⟨⟨h1, h2⟩, rfl, rfl⟩ := h
            subst h1 h2
            have hp := samePath_true he
            subst hp
            have hG := give_some xs (off + 1) cs' ks' hg
            exact cons hG (fun _ h => h) hG.own (.inr (.inr (.inr ⟨rfl, hcv⟩)))
          · cases h
        · cases h
      · cases h

theorem getP_snoc : ∀ (p : List (Int × Nat)) {t t1 : Ty} {l : List t.den} {l1 : List t1.den} {i : Int} {j : Nat} {cv : CV}, getP t l p = some (.s t1 l1) → getP t l (p ++ [(i, j)]) = some cv → (t1.cells (ix l1 i t1.dflt))[j]? = some cv
  | [], t, t1, l, l1, i, j, cv, h1, h2 => by
    simp only [getP, Option.some.injEq] at h1
    cases h1
    simp only [List.nil_append, getP] at h2
    split at h2
    · rename_i t' l' hc
      cases h2
      exact hc
    · cases h2
  | (i', j') :: p, t, t1, l, l1, i, j, cv, h1, h2 => by
    simp only [List.cons_append, getP] at h1 h2
    split at h1
    · rename_i t' l' hc
      rw [hc] at h2
      exact getP_snoc p h1 h2
    · cases h1

theorem sliceCols_mem : ∀ {cs : List CV} {off k : Nat} {c : CV}, cs[k]? = some c → c.flat = false → off + k ∈ sliceCols cs off
  | [], _, _, _, h, _ => by simp at h
  | c0 :: cs, off, k, c, h, hf => by
    cases k with
    | zero =>
      simp only [List.getElem?_cons_zero, Option.some.injEq] at h
      subst h
      cases c0 with
      | i k n => cases hf
      | b x => cases hf
      | s t l => simp [sliceCols]
    | succ k =>
      have := sliceCols_mem (cs := cs) (off := off + 1) (k := k) (by simpa using h) hf
      have e : off + 1 + k = off + (k + 1) := by omega
      rw [e] at this
      cases c0 <;> simp [sliceCols, this]

theorem newCols_mem : ∀ {xs : List At} {cs : List CV} {off k : Nat} {a : At} {c : CV}, xs[k]? = some a → cs[k]? = some c → c.flat = false → (∃ r p, a = .sl r p ∧ p ≠ []) ∨ off + k ∈ newCols xs cs off
  | [], _, _, _, _, _, h, _, _ => by simp at h
  | _ :: _, [], _, _, _, _, _, h, _ => by simp at h
  | a0 :: xs, c0 :: cs, off, k, a, c, ha, hc, hf => by
    cases k with
    | zero =>
      simp only [List.getElem?_cons_zero, Option.some.injEq] at ha hc
      subst ha hc
      cases a0 with
      | sl r p =>
        cases p with
        | nil =>
          right
          cases c0 with
          | i k n => cases hf
          | b x => cases hf
          | s t l => simp [newCols]
        | cons ij p => exact .inl ⟨r, _, rfl, by simp⟩
      | _ =>
        right
        cases c0 with
        | i k n => cases hf
        | b x => cases hf
        | s t l => simp [newCols]
    | succ k =>
      rcases newCols_mem (xs := xs) (cs := cs) (off := off + 1) (k := k) (by simpa using ha) (by simpa using hc) hf with h | h
      · exact .inl h
      · right
        have e : off + 1 + k = off + (k + 1) := by omega
        rw [e] at h
        cases a0 with
        | sl r p =>
          cases p with
          | nil => cases c0 <;> simp [newCols, h]
          | cons ij p => cases c0 <;> simp [newCols, h]
        | _ => cases c0 <;> simp [newCols, h]

theorem cols_prefix (p : List (Int × Nat)) (i : Int) (j : Nat) (q : List (Int × Nat)) : (cols p ++ [j]).isPrefixOf (cols (p ++ (i, j) :: q)) = true := by
  rw [List.isPrefixOf_iff_prefix]
  exact ⟨cols q, by simp [cols]⟩

theorem aget_map {α β : Type} (f : α → β) : ∀ (l : List (Nat × α)) (n : Nat), aget (l.map fun x => (x.1, f x.2)) n = (aget l n).map f
  | [], _ => rfl
  | (k, v) :: l, n => by
    simp only [List.map_cons, aget]
    split
    · rfl
    · exact aget_map f l n

theorem staleAt_ids {r : Nat} {js : List (List Nat)} {a : At} {n : Nat} (h : n ∈ (staleAt r js a).ids) : n ∈ a.ids := by
  cases a with
  | sl r' q =>
    simp only [staleAt] at h
    split at h
    · simp [At.ids, atIds, atLids] at h
    · exact h
  | ep r' q i o =>
    simp only [staleAt] at h
    split at h
    · simp [At.ids, atIds, atLids] at h
    · exact h
  | bad => exact h
  | i k n => exact h
  | b x => exact h
  | lp l o => exact h
  | fn f c => exact h
  | kp r' J t =>
    simp only [staleAt] at h
    cases hb : Nat.beq r r' <;> rw [hb] at h
    · exact h
    · cases hc : coarse js J <;> rw [hc] at h
      · simp [At.ids, atIds, atLids] at h
      · exact h

theorem coarse_any {js J : List (List Nat)} {q : List Nat} (h : coarse js J = true) (hJ : J.any (fun c => c.isPrefixOf q) = false) : js.any (fun c => c.isPrefixOf q) = false := by
  rw [List.any_eq_false] at hJ ⊢
  intro m hm hp
  obtain ⟨c, hc, hcm⟩ := List.any_eq_true.1 (List.all_eq_true.1 h m hm)
  exact hJ c hc (List.isPrefixOf_iff_prefix.2 ((List.isPrefixOf_iff_prefix.1 hcm).trans (List.isPrefixOf_iff_prefix.1 hp)))

theorem stale_tv {w1 : World} {st2 : St} {E1 : Env} {r : Nat} {js : List (List Nat)} (T : ∀ a v, VA w st E a v → VA w1 st2 E1 (staleAt r js a) v) {x : TV} {v : Value} (h : VT w st E x v) : VT w1 st2 E1 (staleTV r js x) v := by
  rcases x with a | l
  · exact T a v h
  · obtain ⟨vs, h1, h2, h3⟩ := h
    refine ⟨vs, h1, by simp [h2], fun j a u ha hu => ?_⟩
    rw [List.getElem?_map] at ha
    cases hl : l[j]? with
    | none => rw [hl] at ha; cases ha
    | some b => rw [hl] at ha; cases ha; exact ⟨(h3 j b u hl hu).1, T _ _ (h3 j b u hl hu).2⟩

theorem stale_mv {w1 : World} {st2 : St} {E1 : Env} {r : Nat} {js : List (List Nat)} (T : ∀ a v, VA w st E a v → VA w1 st2 E1 (staleAt r js a) v) {m : MV} {v : Value} (h : VM w st E m v) : VM w1 st2 E1 (staleMV r js m) v := by
  cases m with
  | und => exact h
  | v x => exact stale_tv T h
  | tup l =>
    obtain ⟨vs, h1, h2, h3⟩ := h
    refine ⟨vs, h1, by simp [h2], fun j a u ha hu => ?_⟩
    rw [List.getElem?_map] at ha
    cases hl : l[j]? with
    | none => rw [hl] at ha; cases ha
    | some b => rw [hl] at ha; cases ha; exact stale_tv T (h3 j b u hl hu)

theorem stale_slots {w1 : World} {st2 : St} {E1 : Env} {r : Nat} {js : List (List Nat)} (T : ∀ a v, VA w st E a v → VA w1 st2 E1 (staleAt r js a) v) {tm : List MV} {ts : Array Value} (h : Slots w st E tm ts) : Slots w1 st2 E1 (tm.map (staleMV r js)) ts := by
  refine ⟨by simp [h.1], fun i m v hm hv => ?_⟩
  rw [List.getElem?_map] at hm
  cases hl : tm[i]? with
  | none => rw [hl] at hm; cases hm
  | some b => rw [hl] at hm; cases hm; exact stale_mv T (h.2 i b v hl hv)

theorem stale_stack {w1 : World} {st2 : St} {E1 : Env} {r : Nat} {js : List (List Nat)} (T : ∀ a v, VA w st E a v → VA w1 st2 E1 (staleAt r js a) v) : ∀ {l : List (List MV)} {s : List (Array Value)}, Stack w st E l s → Stack w1 st2 E1 (l.map fun f => f.map (staleMV r js)) s
  | [], [], _ => trivial
  | f :: l, ts :: s, h => ⟨stale_slots T h.1, stale_stack T h.2⟩
  | [], _ :: _, h => h.elim
  | _ :: _, [], h => h.elim

theorem stale_tvAts {r : Nat} {js : List (List Nat)} {x : TV} {a : At} (h : a ∈ tvAts (staleTV r js x)) : ∃ b ∈ tvAts x, a = staleAt r js b := by
  rcases x with b | l
  · simp only [staleTV, tvAts, List.mem_singleton] at h ⊢
    exact ⟨b, rfl, h⟩
  · simp only [staleTV, tvAts, List.mem_map] at h ⊢
    obtain ⟨b, hb, rfl⟩ := h
    exact ⟨b, hb, rfl⟩

theorem staleMV_ids {r : Nat} {js : List (List Nat)} {m : MV} {n : Nat} (h : n ∈ (staleMV r js m).ids) : n ∈ m.ids := by
  simp only [MV.ids, List.mem_flatMap] at h ⊢
  obtain ⟨a, ha, hn⟩ := h
  have : ∃ b ∈ mvAts m, a = staleAt r js b := by
    cases m with
    | und => simp [staleMV, mvAts] at ha
    | v x => exact stale_tvAts ha
    | tup l =>
      simp only [staleMV, mvAts, List.mem_flatMap, List.mem_map] at ha ⊢
      obtain ⟨y, ⟨x, hx, rfl⟩, ha⟩ := ha
      obtain ⟨b, hb, rfl⟩ := stale_tvAts ha
      exact ⟨b, ⟨x, hx, hb⟩, rfl⟩
  obtain ⟨b, hb, rfl⟩ := this
  exact ⟨b, hb, staleAt_ids hn⟩

end
end Go.Proofs.Ytcfnaifggdelnaa.E
