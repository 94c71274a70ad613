/- What is proved here: a call that writes into a local variable that it is handed goes as the evaluator says. -/
import Derived.Test.YtcfnaifggdelnaaS20
namespace Go.Proofs.Ytcfnaifggdelnaa.E
open Go

/-- Of the cells of a local variable: this one holds a slice that is handed over. -/
def isOwn (own : List Bool) (j : Nat) : Prop := own[j]? = some true

/-- The contract of a function that is handed a local variable: it writes there, and into slices that are handed over with it; other slices are looked at alone. -/
def HoldsP (P : Program) (f : FuncId) (own : List Bool) (run : List CV → List AV → Option (Bool × List CV × List AV)) : Prop :=
  FnOk P f ∧ ∀ (w : World) (blk : Nat) (vals : Array Value) (e : TypeId) (cs : List CV) (K : Nat → BSet) (avs : List AV) (xs : List Value) (Ka : BSet) (cs' : List CV) (rs : List AV),
    w.heap[blk]? = some (.cells vals e (0, 0)) → vals.size = cs.length → own.length = cs.length →
    (∀ (j : Nat) (c : CV) (u : Value), cs[j]? = some c → vals[j]? = some u → Rep ((own[j]?).getD false) w u c (K j)) →
    (∀ j x, j < cs.length → K j x → x < w.heap.size ∧ x ≠ blk) →
    (∀ i j x, i < cs.length → j < cs.length → isOwn own i → i ≠ j → K i x → ¬ K j x) →
    AllRep false w (cvsOf avs) xs (fun _ => Ka) → (∀ x, Ka x → x < w.heap.size ∧ x ≠ blk ∧ ∀ j, j < cs.length → isOwn own j → ¬ K j x) →
    run cs avs = some (true, cs', rs) →
    Calls P f (#[.pointer (some ⟨blk, 0, none⟩)] ++ (packV avs xs).toArray) w fun
      | .returned v, w' => w'.os = w.os ∧ w'.tape = w.tape ∧ w'.output = w.output ∧ w.heap.size ≤ w'.heap.size ∧
          (∀ b, b < w.heap.size → b ≠ blk → (∀ j, j < cs.length → isOwn own j → ¬ K j b) → w'.heap[b]? = w.heap[b]?) ∧
          ∃ (vals' : Array Value) (e' : TypeId) (K' : Nat → BSet) (ys : List Value) (Kr : Nat → BSet), w'.heap[blk]? = some (.cells vals' e' (0, 0)) ∧ vals'.size = cs'.length ∧ cs'.length = cs.length ∧
            (∀ (j : Nat) (c : CV) (u : Value), cs'[j]? = some c → vals'[j]? = some u → match c with
              | .i k n => u = .int k n
              | .b x => u = .bool x
              | .s t l => (isOwn own j → Rep true w' u (.s t l) (K' j)) ∧ (¬ isOwn own j → vals[j]? = some u)) ∧
            AllRep true w' (cvsOf rs) ys Kr ∧ v = retV (packV rs ys) ∧
            (∀ j x, j < cs.length → K' j x → x < w'.heap.size ∧ x ≠ blk ∧ ((∃ i, i < cs.length ∧ isOwn own i ∧ K i x) ∨ w.heap.size ≤ x)) ∧
            (∀ i x, i < (cvsOf rs).length → Kr i x → x < w'.heap.size ∧ x ≠ blk ∧ ((∃ i, i < cs.length ∧ isOwn own i ∧ K i x) ∨ w.heap.size ≤ x)) ∧
            (∀ i j x, i < cs.length → j < cs.length → i ≠ j → K' i x → ¬ K' j x) ∧
            (∀ i j x, i < (cvsOf rs).length → j < (cvsOf rs).length → i ≠ j → Kr i x → ¬ Kr j x) ∧
            (∀ i j x, i < cs.length → j < (cvsOf rs).length → K' i x → ¬ Kr j x)
      | _, _ => False

/-- The functions that are handed a local variable. -/
structure PctOk (C : Cfg) : Prop where
  ok : ∀ f own run, C.pct f = some (own, run) → HoldsP C.P f own run

section
variable {C : Cfg} {w0 w w1 : World} {S0 : BSet} {U : Nat → Prop} {st st1 : St} {E E1 : Env} {ts : Array Value} {sv : List (Array Value)}

structure Blk (st : St) (own : List Bool) (cells : List At) (cs : List CV) (ks : List Nat) : Prop where
  len : cs.length = cells.length
  olen : own.length = cells.length
  ownk : ∀ r ∈ ks, ∃ j, isOwn own j ∧ cells[j]? = some (.sl r [])
  get : ∀ (j : Nat) (a : At), cells[j]? = some a → (∃ k n, a = .i k n ∧ cs[j]? = some (.i k n)) ∨ (∃ x, a = .b x ∧ cs[j]? = some (.b x)) ∨
    ∃ r R, a = .sl r [] ∧ st.root r = some R ∧ R.ep = none ∧ own[j]? = some R.own ∧ cs[j]? = some (.s R.t R.l) ∧ (R.own = true → r ∈ ks)
  inj : ∀ (i j r : Nat), isOwn own i → cells[i]? = some (.sl r []) → cells[j]? = some (.sl r []) → i = j

theorem blk_ok : ∀ (own : List Bool) (cells : List At) (cs : List CV) (ks : List Nat), st.blk own cells = some (cs, ks) → Blk st own cells cs ks
  | [], [], cs, ks, h => by
    cases h
    exact ⟨rfl, rfl, fun r h => by simp at h, fun j a h => by simp at h, fun i j r h => by simp [isOwn] at h⟩
  | [], a :: r, cs, ks, h => by simp [St.blk] at h
  | o :: ms, [], cs, ks, h => by simp [St.blk] at h
  | o :: ms, a :: r, cs, ks, h => by
    simp only [St.blk] at h
    split at h
    · cases h
    · rename_i cs0 ks0 h0
      have ih := blk_ok ms r cs0 ks0 h0
      have flat : ∀ (c : CV), (∀ q, a ≠ .sl q []) → ((∃ k n, a = .i k n ∧ c = .i k n) ∨ (∃ x, a = .b x ∧ c = .b x)) → Blk st (o :: ms) (a :: r) (c :: cs0) ks0 := by
        intro c hne hc
        refine ⟨by simp [ih.len], by simp [ih.olen], fun q hq => ?_, fun j b hb => ?_, fun i j q hi h1 h2 => ?_⟩
        · obtain ⟨j, h1, h2⟩ := ih.ownk q hq
          exact ⟨j + 1, by simpa [isOwn] using h1, by simpa using h2⟩
        · cases j with
          | zero =>
            simp only [List.getElem?_cons_zero, Option.some.injEq] at hb
            subst hb
            rcases hc with ⟨k, n, h1, h2⟩ | ⟨x, h1, h2⟩
            · exact .inl ⟨k, n, h1, by simp [h2]⟩
            · exact .inr (.inl ⟨x, h1, by simp [h2]⟩)
          | succ j => simpa using ih.get j b (by simpa using hb)
        · cases i with
          | zero => simp only [List.getElem?_cons_zero, Option.some.injEq] at h1; exact absurd h1 (hne q)
          | succ i =>
            cases j with
            | zero => simp only [List.getElem?_cons_zero, Option.some.injEq] at h2; exact absurd h2 (hne q)
            | succ j =>
              have := ih.inj i j q (by simpa [isOwn] using hi) (by simpa using h1) (by simpa using h2)
              omega
      split at h
      · rename_i k n
        cases h
        exact flat _ (fun q h => by cases h) (.inl ⟨k, n, rfl, rfl⟩)
      · rename_i x
        cases h
        exact flat _ (fun q h => by cases h) (.inr ⟨x, rfl, rfl⟩)
      · rename_i q
        split at h
        · rename_i R hR
          split at h
          · rename_i hcond
            simp only [Bool.and_eq_true, Bool.not_eq_true', List.contains_eq_mem, decide_eq_false_iff_not, beq_iff_eq, Option.isNone_iff_eq_none] at hcond
            obtain ⟨⟨hown, hep⟩, hnk⟩ := hcond
            cases h
            have hmem : ∀ x, x ∈ cond o (q :: ks0) ks0 ↔ (o = true ∧ x = q) ∨ x ∈ ks0 := by
              intro x; cases o <;> simp
            refine ⟨by simp [ih.len], by simp [ih.olen], fun x hx => ?_, fun j b hb => ?_, fun i j x hi h1 h2 => ?_⟩
            · rcases (hmem x).1 hx with ⟨rfl, rfl⟩ | hx
              · exact ⟨0, rfl, rfl⟩
              · obtain ⟨j, h1, h2⟩ := ih.ownk x hx
                exact ⟨j + 1, by simpa [isOwn] using h1, by simpa using h2⟩
            · cases j with
              | zero =>
                simp only [List.getElem?_cons_zero, Option.some.injEq] at hb
                subst hb
                exact .inr (.inr ⟨q, R, rfl, hR, hep, by simp [hown], by simp, fun h => (hmem q).2 (.inl ⟨by rw [← hown]; exact h, rfl⟩)⟩)
              | succ j =>
                rcases ih.get j b (by simpa using hb) with h | h | ⟨r', R', g1, g2, g3, g4, g5, g6⟩
                · exact .inl (by simpa using h)
                · exact .inr (.inl (by simpa using h))
                · exact .inr (.inr ⟨r', R', g1, g2, g3, by simpa using g4, by simpa using g5, fun h => (hmem r').2 (.inr (g6 h))⟩)
            · have old : ∀ (i : Nat), isOwn ms i → r[i]? = some (.sl q []) → False := by
                intro i hi hq
                rcases ih.get i _ hq with ⟨_, _, h, _⟩ | ⟨_, h, _⟩ | ⟨r', R', g1, g2, g3, g4, g5, g6⟩
                · cases h
                · cases h
                · cases g1
                  have : R'.own = true := by rw [hi] at g4; simpa using g4.symm
                  exact hnk (g6 this)
              cases i with
              | zero =>
                cases j with
                | zero => rfl
                | succ j =>
                  simp only [List.getElem?_cons_zero, Option.some.injEq, At.sl.injEq, and_true] at h1
                  subst h1
                  simp only [isOwn, List.getElem?_cons_zero, Option.some.injEq] at hi
                  subst hi
                  simp only [List.getElem?_cons_succ] at h2
                  exfalso
                  rcases ih.get j _ h2 with ⟨_, _, h, _⟩ | ⟨_, h, _⟩ | ⟨r', R', g1, g2, g3, g4, g5, g6⟩
                  · cases h
                  · cases h
                  · cases g1
                    rw [hR] at g2
                    cases g2
                    exact hnk (g6 hown)
              | succ i =>
                cases j with
                | zero =>
                  simp only [List.getElem?_cons_zero, Option.some.injEq, At.sl.injEq, and_true] at h2
                  subst h2
                  exact (old i (by simpa [isOwn] using hi) (by simpa using h1)).elim
                | succ j =>
                  have := ih.inj i j x (by simpa [isOwn] using hi) (by simpa using h1) (by simpa using h2)
                  omega
          · cases h
        · cases h
      · cases h

theorem blkNew_get : ∀ (own : List Bool) (cells : List At) (cs' : List CV) (id : Nat) (cells' : List At), blkNew own cells cs' id = some cells' → cells'.length = cells.length ∧ cs'.length = cells.length ∧
    ∀ (j : Nat) (b : At), cells'[j]? = some b → (∃ k n, b = .i k n ∧ cs'[j]? = some (.i k n)) ∨ (∃ x, b = .b x ∧ cs'[j]? = some (.b x)) ∨
      (∃ t l, b = .sl (id + j) [] ∧ isOwn own j ∧ cs'[j]? = some (.s t l)) ∨ (∃ t l r, b = .sl r [] ∧ ¬ isOwn own j ∧ cells[j]? = some (.sl r []) ∧ cs'[j]? = some (.s t l))
  | [], [], [], id, cells', h => by
    cases h
    exact ⟨rfl, rfl, fun j b h => by simp at h⟩
  | o :: ms, a :: r, c :: cs, id, cells', h => by
    simp only [blkNew] at h
    split at h
    · cases h
    · rename_i l0 h0
      obtain ⟨g1, g2, g3⟩ := blkNew_get ms r cs (id + 1) l0 h0
      have tail : ∀ (j : Nat) (b : At), l0[j]? = some b → (∃ k n, b = .i k n ∧ (c :: cs)[j + 1]? = some (.i k n)) ∨ (∃ x, b = .b x ∧ (c :: cs)[j + 1]? = some (.b x)) ∨
          (∃ t l, b = .sl (id + (j + 1)) [] ∧ isOwn (o :: ms) (j + 1) ∧ (c :: cs)[j + 1]? = some (.s t l)) ∨ (∃ t l q, b = .sl q [] ∧ ¬ isOwn (o :: ms) (j + 1) ∧ (a :: r)[j + 1]? = some (.sl q []) ∧ (c :: cs)[j + 1]? = some (.s t l)) := by
        intro j b hb
        have := g3 j b hb
        have e : id + 1 + j = id + (j + 1) := by omega
        rw [e] at this
        simpa [isOwn] using this
      split at h
      · split at h
        · rename_i k k' n hk
          cases h
          refine ⟨by simp [g1], by simp [g2], fun j b hb => ?_⟩
          cases j with
          | zero =>
            simp only [List.getElem?_cons_zero, Option.some.injEq] at hb
            subst hb hk
            exact .inl ⟨_, _, rfl, rfl⟩
          | succ j => exact tail j b (by simpa using hb)
        · cases h
      · cases h
        refine ⟨by simp [g1], by simp [g2], fun j b hb => ?_⟩
        cases j with
        | zero =>
          simp only [List.getElem?_cons_zero, Option.some.injEq] at hb
          subst hb
          exact .inr (.inl ⟨_, rfl, rfl⟩)
        | succ j => exact tail j b (by simpa using hb)
      · rename_i q t l
        cases h
        refine ⟨by cases o <;> simp [g1], by simp [g2], fun j b hb => ?_⟩
        cases j with
        | zero =>
          cases o with
          | true =>
            simp only [cond_true, List.getElem?_cons_zero, Option.some.injEq] at hb
            subst hb
            exact .inr (.inr (.inl ⟨_, _, rfl, rfl, rfl⟩))
          | false =>
            simp only [cond_false, List.getElem?_cons_zero, Option.some.injEq] at hb
            subst hb
            exact .inr (.inr (.inr ⟨_, _, q, rfl, by simp [isOwn], rfl, rfl⟩))
        | succ j => exact tail j b (by cases o <;> simpa using hb)
      · cases h
  | [], [], _ :: _, _, _, h => by simp [blkNew] at h
  | [], _ :: _, _, _, _, h => by simp [blkNew] at h
  | _ :: _, [], _, _, _, h => by simp [blkNew] at h
  | _ :: _, _ :: _, [], _, _, h => by simp [blkNew] at h

theorem blkRo_get : ∀ (own : List Bool) (cs : List CV) (id n : Nat) (R : Root), aget (blkRo own cs id) n = some R → id ≤ n ∧ isOwn own (n - id) ∧ ∃ t l, cs[n - id]? = some (.s t l) ∧ R = newRoot t l
  | [], _, _, _, _, h => by cases h
  | o :: ms, [], _, _, _, h => by cases h
  | o :: ms, c :: cs, id, n, R, h => by
    have hr : aget (blkRo ms cs (id + 1)) n = some R → id ≤ n ∧ isOwn (o :: ms) (n - id) ∧ ∃ t l, (c :: cs)[n - id]? = some (.s t l) ∧ R = newRoot t l := fun h => by
      obtain ⟨h1, h2, t, l, h3, h4⟩ := blkRo_get ms cs (id + 1) n R h
      have e : n - id = (n - (id + 1)) + 1 := by omega
      exact ⟨by omega, by rw [e]; simpa [isOwn] using h2, t, l, by rw [e, List.getElem?_cons_succ]; exact h3, h4⟩
    cases c with
    | i k x => exact hr h
    | b x => exact hr h
    | s t l =>
      cases o with
      | false => exact hr h
      | true =>
        simp only [blkRo, cond_true, aget] at h
        split at h
        · rename_i he
          simp only [beq_iff_eq] at he
          subst he
          cases h
          exact ⟨Nat.le_refl _, by simp [isOwn], t, l, by simp, rfl⟩
        · exact hr h

theorem killed_get : ∀ (ks : List Nat) (n : Nat) (R : Root), aget (killed st ks) n = some R → R.ep = some st.ep ∧ ∃ Q, aget st.ro n = some Q
  | [], _, _, h => by cases h
  | k :: ks, n, R, h => by
    simp only [killed] at h
    split at h
    · rename_i Q hQ
      simp only [aget] at h
      split at h
      · rename_i he
        simp only [beq_iff_eq] at he
        subst he
        cases h
        exact ⟨rfl, Q, hQ⟩
      · exact killed_get ks n R h
    · exact killed_get ks n R h

theorem killed_none : ∀ (ks : List Nat) (n : Nat) (Q : Root), aget (killed st ks) n = none → aget st.ro n = some Q → n ∉ ks
  | [], _, _, _, _ => by simp
  | k :: ks, n, Q, h, hQ => by
    simp only [killed] at h
    intro hm
    rcases List.mem_cons.1 hm with rfl | hm
    · rw [hQ] at h
      simp [aget] at h
    · split at h
      · simp only [aget] at h
        split at h
        · cases h
        · exact killed_none ks n Q h hQ hm
      · exact killed_none ks n Q h hQ hm

/-- What an argument reads as, in blocks that no slice that is handed over takes. -/
theorem cvF_sound (hS : Sim w0 S0 U st E ts sv w) {ks : List Nat} {Ka : BSet} (hKa : ∀ r R x, st.root r = some R → R.ep = none → r ∉ ks → E.φ r x → Ka x) {a : At} {u : Value} {c : CV}
    (hf : (atIds a).all (fun r => !ks.contains r && (match st.root r with | some R => R.ep.isNone | none => false)) = true) (hc : st.cvOf a = some c) (hu : VA w st E a u) : Rep false w u c Ka := by
  cases a with
  | i k n => cases hc; cases hu; exact .i _ _ _
  | b x => cases hc; cases hu; exact .b _ _
  | sl r p =>
    simp only [St.cvOf] at hc
    obtain ⟨R, hR, hg⟩ := node_root hc
    simp only [atIds, List.all_cons, List.all_nil, Bool.and_true, hR, Bool.and_eq_true, Bool.not_eq_true', List.contains_eq_mem, decide_eq_false_iff_not, Option.isNone_iff_eq_none] at hf
    obtain ⟨t', l', S', h1, h2, h3, h4⟩ := Rep.at p (hS.mem.rep r R hR) (hu.2 R hR)
    rw [hg] at h1
    cases h1
    exact (h3.weak (fun x hx => hKa r R x hR hf.2 hf.1 (h4 x hx))).ro
  | bad => cases hc
  | lp l off => cases hc
  | ep r p i off => cases hc
  | fn f caps => cases hc
  | kp r J t => cases hc

theorem argsF_sound (hS : Sim w0 S0 U st E ts sv w) {ks : List Nat} {Ka : BSet} (hKa : ∀ r R x, st.root r = some R → R.ep = none → r ∉ ks → E.φ r x → Ka x) : ∀ (l : List Operand) (avs : List AV), optAll (fun x => match st.opnd x with | some v => st.avF ks v | none => none) l = some avs →
    ∃ xs, AllRep false w (cvsOf avs) xs (fun _ => Ka) ∧ l.map ({ tmps := ts, defers := [] } : Act).eval = packV avs xs
  | [], avs, h => by
    cases h
    exact ⟨[], ⟨rfl, fun i c x h => by simp [cvsOf] at h⟩, rfl⟩
  | x :: r, avs, h => by
    simp only [optAll] at h
    split at h
    · rename_i av hav
      split at h
      · rename_i avs' hr
        cases h
        obtain ⟨xs, hxs, hm⟩ := argsF_sound hS hKa r avs' hr
        split at hav
        · rename_i mv hmv
          obtain ⟨hv, -⟩ := opnd_sound hS hmv
          unfold St.avF at hav
          split at hav
          · rename_i hfree0
            have hfree := List.all_eq_true.1 hfree0
            unfold St.avOf at hav
            split at hav
            · rename_i a
              split at hav
              · rename_i c hc
                cases hav
                have h1 := cvF_sound hS hKa (hfree a (by simp [mvAts, tvAts])) hc hv
                refine ⟨({ tmps := ts, defers := [] } : Act).eval x :: xs, ?_, by simp [packV, hm]⟩
                have e : cvsOf (AV.one c :: avs') = [c] ++ cvsOf avs' := by simp [cvsOf, AV.cvs]
                rw [e]
                refine AllRep.append (x1 := [({ tmps := ts, defers := [] } : Act).eval x]) ⟨rfl, fun i c' u hc' hu => ?_⟩ hxs
                cases i with
                | zero => simp at hc' hu; subst hc' hu; exact h1
                | succ i => simp at hc'
              · cases hav
            · rename_i l
              split at hav
              · rename_i cs hcs
                cases hav
                obtain ⟨vs, hvs, hsz, hvv⟩ := hv
                obtain ⟨hl, hf⟩ := optAll_some hcs
                have hlen : vs.toList.length = cs.length := by simp [hsz, hl]
                refine ⟨vs.toList ++ xs, ?_, ?_⟩
                · have e : cvsOf (AV.agg cs :: avs') = cs ++ cvsOf avs' := by simp [cvsOf, AV.cvs]
                  rw [e]
                  refine AllRep.append ⟨hlen, fun i c' u hc' hu => ?_⟩ hxs
                  have hi : i < l.length := by rw [hl]; exact (List.getElem?_eq_some_iff.1 hc').1
                  have ha := List.getElem?_eq_getElem hi
                  exact cvF_sound hS hKa (hfree _ (by simp only [mvAts, tvAts]; exact List.mem_of_getElem? ha)) (hf i _ _ ha hc') (hvv i _ u ha (by simpa using hu)).2
                · simp only [List.map_cons, packV, hvs, ← hlen, List.take_left', List.drop_left', hm, Array.toArray_toList]
              · cases hav
            · cases hav
          · cases hav
        · cases hav
      · cases h
    · cases h

/-- The blocks that a cell's slice takes. -/
def cφ (E : Env) (cells : List At) (j : Nat) : BSet := match cells[j]? with
  | some a => aφ E a
  | none => fun _ => False

theorem cφ_some {cells : List At} {j : Nat} {a : At} (h : cells[j]? = some a) : cφ E cells j = aφ E a := by
  unfold cφ
  rw [h]

theorem cφ_inv {cells : List At} {j x : Nat} (h : cφ E cells j x) : ∃ a, cells[j]? = some a ∧ aφ E a x := by
  unfold cφ at h
  cases hc : cells[j]? with
  | some a => rw [hc] at h; exact ⟨a, rfl, h⟩
  | none => rw [hc] at h; exact h.elim

theorem pcall_ok (hH : PctOk C) (w0 w : World) (S0 : BSet) (U : Nat → Prop) (st : St) (E : Env) (ts : Array Value) (sv : List (Array Value)) (o : Oper) (id : Nat) (c : Bool) (st2 : St) (mv : MV) (hS : Sim w0 S0 U st E ts sv w) (hid : ∀ n, Mine id n → ¬ U n)
    (h : pcall C st o id = some (c, st2, mv)) (hc : c = true) : Goes C w0 S0 U st ts sv w o id (fun _ => st2.put o.dst mv) ∧ st2.nid = st.nid := by
  subst hc
  unfold pcall at h
  split at h
  · rename_i cl ho
    split at h
    · rename_i f hcb
      split at h
      · rename_i own run hpct
        generalize hargs : cl.args.toList = args0 at h
        unfold pcallF at h
        split at h
        · rename_i x ys0
          split at h
          · rename_i l hx
            split at h
            · rename_i cells hcells
              split at h
              · rename_i cs ks hblk
                split at h
                · rename_i avs havs
                  split at h
                  · rename_i cc cs' rs hrun
                    split at h
                    · rename_i cells' hnew
                      split at h
                      · rename_i hlen
                        simp only [Option.some.injEq, Prod.mk.injEq] at h
                        obtain ⟨rfl, rfl, rfl⟩ := h
                        refine ⟨?_, rfl⟩
                        obtain ⟨⟨fn, bd, hf, hbd, hname⟩, hHP⟩ := hH.ok f own run hpct
                        have hB := blk_ok own cells cs ks hblk
                        obtain ⟨hn1, hn2, hn3⟩ := blkNew_get own cells cs' id cells' hnew
                        have hrsl : (cvsOf rs).length ≤ 16 := hlen.2
                        have hM := hS.mem
                        obtain ⟨hl1, vals, e, hl2, hl3, hl4⟩ := hM.loc l cells hcells
                        obtain ⟨hxv, hxi⟩ := at_sound hS hx
                        have hxp := hxv.2 cells hcells
                        have hβlt : ∀ l cs, aget st.lo l = some cs → E.β l < w.heap.size := by
                          intro l cs h
                          obtain ⟨_, vals, e, h2, _⟩ := hM.loc l cs h
                          exact (Array.getElem?_eq_some_iff.1 h2).1
                        -- the blocks of each cell
                        let K : Nat → BSet := cφ E cells
                        have hK : ∀ j x, K j x → ∃ r R, cells[j]? = some (.sl r []) ∧ st.root r = some R ∧ R.ep = none ∧ own[j]? = some R.own ∧ (R.own = true → r ∈ ks) ∧ E.φ r x := by
                          intro j x hx
                          obtain ⟨a, ha, hx⟩ := cφ_inv hx
                          rcases hB.get j a ha with ⟨_, _, rfl, _⟩ | ⟨_, rfl, _⟩ | ⟨r, R, rfl, h1, h2, h3, _, h5⟩
                          · exact hx.elim
                          · exact hx.elim
                          · exact ⟨r, R, ha, h1, h2, h3, h5, hx⟩
                        have hKown : ∀ j x, isOwn own j → K j x → ∃ r ∈ ks, ∃ R, st.root r = some R ∧ R.own = true ∧ E.φ r x := by
                          intro j x hj hx
                          obtain ⟨r, R, h1, h2, _, h4, h5, h6⟩ := hK j x hx
                          have : R.own = true := by rw [hj] at h4; simpa using h4.symm
                          exact ⟨r, h5 this, R, h2, this, h6⟩
                        have hks : ∀ r ∈ ks, ∃ j R, j < cs.length ∧ isOwn own j ∧ cells[j]? = some (.sl r []) ∧ st.root r = some R ∧ R.own = true ∧ ∀ x, E.φ r x → K j x := by
                          intro r hr
                          obtain ⟨j, h1, h2⟩ := hB.ownk r hr
                          rcases hB.get j _ h2 with ⟨_, _, h, _⟩ | ⟨_, h, _⟩ | ⟨r', R, h, g1, g2, g3, _, _⟩
                          · cases h
                          · cases h
                          · cases h
                            refine ⟨j, R, by rw [hB.len]; exact (List.getElem?_eq_some_iff.1 h2).1, h1, h2, g1, by rw [h1] at g3; simpa using g3.symm, fun x hx => ?_⟩
                            show cφ E cells j x
                            rw [cφ_some h2]
                            exact hx
                        let Ka : BSet := fun x => x < w.heap.size ∧ x ≠ E.β l ∧ ∀ r ∈ ks, ¬ E.φ r x
                        obtain ⟨xs, hxs, hxm⟩ := argsF_sound hS (ks := ks) (Ka := Ka) (fun r R x hR he hr hx => ⟨hM.rlt r R hR x hx, fun h => hM.lro l cells r R hcells hR (by rw [← h]; exact hx), fun q hq hqx => by
                          obtain ⟨_, Q, _, _, _, hQ, hQo, _⟩ := hks q hq
                          exact hM.apart q Q r R hQ hQo hR he (fun e => hr (by rw [← e]; exact hq)) x hqx hx⟩) ys0 avs havs
                        have hargs' : cl.args.map ({ tmps := ts, defers := [] } : Act).eval = #[.pointer (some ⟨E.β l, 0, none⟩)] ++ (packV avs xs).toArray := by
                          have e : cl.args = (x :: ys0).toArray := by rw [← hargs, Array.toArray_toList]
                          rw [e, List.map_toArray, List.map_cons, hxm, hxp]
                          simp
                        intro next Q hnext
                        have hname' : fn.name ≠ "runtime.NumGoroutine" := by simpa using hname
                        have hexec : (execOp ({ tmps := ts, defers := [] } : Act).eval o).run C.P w = .ok (.enter f (#[.pointer (some ⟨E.β l, 0, none⟩)] ++ (packV avs xs).toArray)) w := by
                          have hfe : ({ tmps := ts, defers := [] } : Act).eval (.func f) = .func (.func f) #[] #[] := rfl
                          simp [execOp, ho, resolve, hcb, Deferred.ofValue, invoke, callFunc, hf, hbd, hname', hargs', hfe]
                        unfold Oper.wp
                        rw [hexec, Oper.upon_enter]
                        refine (hHP w (E.β l) vals e cs K avs xs Ka cs' rs hl2 (by rw [hl3, hB.len]) (by rw [hB.olen, hB.len]) (fun j c u hcj hu => ?_) (fun j x hj hx => ?_) (fun i j x hi hj ho hne hx hx' => ?_) hxs (fun x hx => ⟨hx.1, hx.2.1, fun j hj ho hk => ?_⟩) hrun).mono ?_
                        · have hj : j < cells.length := by rw [← hB.len]; exact (List.getElem?_eq_some_iff.1 hcj).1
                          have ha := List.getElem?_eq_getElem hj
                          obtain ⟨_, hva⟩ := hl4 j _ u ha hu
                          rcases hB.get j _ ha with ⟨k, n, h1, h2⟩ | ⟨y, h1, h2⟩ | ⟨r, R, h1, h2, h3, h4, h5, _⟩
                          · rw [hcj] at h2; cases h2
                            rw [h1] at hva; cases hva
                            exact .i _ _ _
                          · rw [hcj] at h2; cases h2
                            rw [h1] at hva; cases hva
                            exact .b _ _
                          · rw [hcj] at h5; cases h5
                            rw [h1] at hva
                            have := hva.2 R h2
                            simp only [hdrAt, Option.some.injEq] at this
                            subst this
                            have hr := hM.rep r R h2
                            rw [h4]
                            refine hr.weak (fun x hx => ?_)
                            show cφ E cells j x
                            rw [cφ_some ha, h1]
                            exact hx
                        · obtain ⟨r, R, h1, h2, h3, h4, h5, h6⟩ := hK j x hx
                          exact ⟨hM.rlt r R h2 x h6, fun h => hM.lro l cells r R hcells h2 (by rw [← h]; exact h6)⟩
                        · obtain ⟨r, R, h1, h2, h3, h4, h5, h6⟩ := hK i x hx
                          obtain ⟨r', R', h1', h2', h3', h4', h5', h6'⟩ := hK j x hx'
                          have hRo : R.own = true := by rw [ho] at h4; simpa using h4.symm
                          refine hM.apart r R r' R' h2 hRo h2' h3' (fun e => hne (hB.inj i j r ho h1 (by rw [e]; exact h1'))) x h6 h6'
                        · obtain ⟨r, hr, R, h1, h2, h3⟩ := hKown j x ho hk
                          exact hx.2.2 r hr h3
                        · intro ex w' he
                          cases ex with
                          | panicked chain => exact he.elim
                          | outgrown => exact he.elim
                          | returned v =>
                            obtain ⟨hos, htp, hout, hsz, hkeep, vals', e', K', ys, Kr, hb', hsz', hcl, hcell, hys, rfl, hK'x, hKrx, hK'd, hKrd, hKK⟩ := he
                            have hcs12 : cs.length ≤ 12 := by rw [hB.len]; exact hlen.1
                            -- where all is now
                            let E1 : Env := { E with ρ := fun n => if id ≤ n ∧ n < id + 12 then (vals'[n - id]?).getD undef else if id + 12 ≤ n ∧ n < id + 32 then (ys[n - (id + 12)]?).getD undef else E.ρ n,
                                                     φ := fun n => if id ≤ n ∧ n < id + 12 then (fun x => n - id < cs.length ∧ K' (n - id) x) else if id + 12 ≤ n ∧ n < id + 32 then (fun x => n - (id + 12) < (cvsOf rs).length ∧ Kr (n - (id + 12)) x) else E.φ n }
                            have hE1 : ∀ n, U n → E1.ρ n = E.ρ n ∧ E1.φ n = E.φ n := by
                              intro n hn
                              have : ¬ (id ≤ n ∧ n < id + 32) := fun h => hid n h hn
                              have a1 : ¬ (id ≤ n ∧ n < id + 12) := fun h => this ⟨h.1, by omega⟩
                              have a2 : ¬ (id + 12 ≤ n ∧ n < id + 32) := fun h => this ⟨by omega, h.2⟩
                              simp only [E1, if_neg a1, if_neg a2, and_self]
                            have hEa : ∀ n, id ≤ n → n < id + 12 → E1.ρ n = (vals'[n - id]?).getD undef ∧ E1.φ n = fun x => n - id < cs.length ∧ K' (n - id) x := by
                              intro n h1 h2
                              simp only [E1, if_pos (show id ≤ n ∧ n < id + 12 from ⟨h1, h2⟩), and_self]
                            have hEb : ∀ n, id + 12 ≤ n → n < id + 32 → E1.ρ n = (ys[n - (id + 12)]?).getD undef ∧ E1.φ n = fun x => n - (id + 12) < (cvsOf rs).length ∧ Kr (n - (id + 12)) x := by
                              intro n h1 h2
                              have a1 : ¬ (id ≤ n ∧ n < id + 12) := fun h => by omega
                              simp only [E1, if_neg a1, if_pos (show id + 12 ≤ n ∧ n < id + 32 from ⟨h1, h2⟩), and_self]
                            generalize hst1 : ({ st with lo := (l, cells') :: st.lo, ro := blkRo own cs' id ++ (layAR true rs (id + 12) ++ (killed st ks ++ st.ro)), ep := st.ep + 1 } : St) = st1
                            have hst1ro : st1.ro = blkRo own cs' id ++ (layAR true rs (id + 12) ++ (killed st ks ++ st.ro)) := by rw [← hst1]
                            have hst1lo : st1.lo = (l, cells') :: st.lo := by rw [← hst1]
                            have hst1ep : st1.ep = st.ep + 1 := by rw [← hst1]
                            have hA : ∀ r R, aget (blkRo own cs' id) r = some R → id ≤ r ∧ r < id + 12 ∧ r - id < cs.length ∧ isOwn own (r - id) ∧ ∃ t l, cs'[r - id]? = some (.s t l) ∧ R = newRoot t l := by
                              intro r R hr
                              obtain ⟨h1, h2, t, l', h3, h4⟩ := blkRo_get own cs' id r R hr
                              have hlt := (List.getElem?_eq_some_iff.1 h3).1
                              exact ⟨h1, by omega, by omega, h2, t, l', h3, h4⟩
                            have hBr : ∀ r R, aget (layAR true rs (id + 12)) r = some R → id + 12 ≤ r ∧ r < id + 32 ∧ r - (id + 12) < (cvsOf rs).length ∧ ∃ t l, (cvsOf rs)[r - (id + 12)]? = some (.s t l) ∧ R = ⟨t, l, true, none⟩ := by
                              intro r R hr
                              obtain ⟨h1, t, l', h3, h4⟩ := layAR_get true rs (id + 12) r R hr
                              have hlt := (List.getElem?_eq_some_iff.1 h3).1
                              exact ⟨h1, by omega, hlt, t, l', h3, h4⟩
                            have hro : ∀ r R, aget st1.ro r = some R → aget (blkRo own cs' id) r = some R ∨ aget (layAR true rs (id + 12)) r = some R ∨ (R.ep = some st.ep ∧ ∃ Q, aget st.ro r = some Q) ∨ (aget st.ro r = some R ∧ r ∉ ks) := by
                              intro r R hr
                              rw [hst1ro, aget_append] at hr
                              split at hr
                              · rename_i Q hQ; cases hr; exact .inl hQ
                              · rw [aget_append] at hr
                                split at hr
                                · rename_i Q hQ; cases hr; exact .inr (.inl hQ)
                                · rw [aget_append] at hr
                                  split at hr
                                  · rename_i Q hQ; cases hr; exact .inr (.inr (.inl (killed_get ks r _ hQ)))
                                  · rename_i hn; exact .inr (.inr (.inr ⟨hr, killed_none ks r R hn hr⟩))
                            have hroot : ∀ r R, st1.root r = some R → aget (blkRo own cs' id) r = some R ∨ aget (layAR true rs (id + 12)) r = some R ∨ (st.root r = some R ∧ R.ep = none ∧ r ∉ ks ∧ U r) := by
                              intro r R hr
                              obtain ⟨h1, h2⟩ := root_aget hr
                              rw [hst1ep] at h2
                              rcases hro r R h1 with h | h | ⟨h, _⟩ | ⟨h, hk⟩
                              · exact .inl h
                              · exact .inr (.inl h)
                              · rcases h2 with h2 | h2
                                · rw [h] at h2; cases h2
                                · rw [h] at h2; simp at h2
                              · rcases h2 with h2 | h2
                                · exact .inr (.inr ⟨root_of h (.inl h2), h2, hk, hS.ids.ro r R h⟩)
                                · have := hM.epo r R _ h h2
                                  omega
                            have hfr : ∀ r R, st.root r = some R → R.ep = none → r ∉ ks → ∀ x, E.φ r x → w'.heap[x]? = w.heap[x]? := by
                              intro r R hR he hk x hx
                              refine hkeep x (hM.rlt r R hR x hx) (fun h => hM.lro l cells r R hcells hR (by rw [← h]; exact hx)) (fun j hj ho hkx => ?_)
                              obtain ⟨q, hq, Q, h1, h2, h3⟩ := hKown j x ho hkx
                              exact hM.apart q Q r R h1 h2 hR he (fun e => hk (by rw [← e]; exact hq)) x h3 hx
                            have hnewx : ∀ x, (x < w'.heap.size ∧ x ≠ E.β l ∧ ((∃ i, i < cs.length ∧ isOwn own i ∧ K i x) ∨ w.heap.size ≤ x)) → (S0 x ∨ w0.heap.size ≤ x) ∧ ∀ r R, st.root r = some R → R.ep = none → r ∉ ks → ¬ E.φ r x := by
                              intro x ⟨h1, h2, h3⟩
                              rcases h3 with ⟨i, hi, ho, hk⟩ | h3
                              · obtain ⟨q, hq, Q, g1, g2, g3⟩ := hKown i x ho hk
                                exact ⟨(hM.mine q Q g1 g2).2 x g3, fun r R hR he hk' hx => hM.apart q Q r R g1 g2 hR he (fun e => hk' (by rw [← e]; exact hq)) x g3 hx⟩
                              · exact ⟨.inr (Nat.le_trans hM.size h3), fun r R hR he hk' hx => by have := hM.rlt r R hR x hx; omega⟩
                            have hKrep : ∀ r R, aget (blkRo own cs' id) r = some R → Rep true w' (E1.ρ r) (.s R.t R.l) (E1.φ r) := by
                              intro r R hr
                              obtain ⟨h1, h2, h3, h4, t, l', h5, rfl⟩ := hA r R hr
                              have hv : r - id < vals'.size := by omega
                              have hu := Array.getElem?_eq_getElem hv
                              have := (hcell _ _ _ h5 hu).1 h4
                              rw [(hEa r h1 h2).1, (hEa r h1 h2).2, hu]
                              exact this.weak (fun x hx => ⟨h3, hx⟩)
                            have hRrep : ∀ r R, aget (layAR true rs (id + 12)) r = some R → Rep true w' (E1.ρ r) (.s R.t R.l) (E1.φ r) := by
                              intro r R hr
                              obtain ⟨h1, h2, h3, t, l', h5, rfl⟩ := hBr r R hr
                              have hv : r - (id + 12) < ys.length := by rw [hys.1]; exact h3
                              have hu := List.getElem?_eq_getElem hv
                              rw [(hEb r h1 h2).1, (hEb r h1 h2).2, hu]
                              exact (hys.2 _ _ _ h5 hu).weak (fun x hx => ⟨h3, hx⟩)
                            have hKfoot : ∀ r R, aget (blkRo own cs' id) r = some R → ∀ x, E1.φ r x → r - id < cs.length ∧ K' (r - id) x := by
                              intro r R hr x hx
                              obtain ⟨h1, h2, _⟩ := hA r R hr
                              rw [(hEa r h1 h2).2] at hx
                              exact hx
                            have hRfoot : ∀ r R, aget (layAR true rs (id + 12)) r = some R → ∀ x, E1.φ r x → r - (id + 12) < (cvsOf rs).length ∧ Kr (r - (id + 12)) x := by
                              intro r R hr x hx
                              obtain ⟨h1, h2, _⟩ := hBr r R hr
                              rw [(hEb r h1 h2).2] at hx
                              exact hx
                            have hfoot : ∀ r R, (aget (blkRo own cs' id) r = some R ∨ aget (layAR true rs (id + 12)) r = some R) → ∀ x, E1.φ r x → x < w'.heap.size ∧ x ≠ E.β l ∧ ((∃ i, i < cs.length ∧ isOwn own i ∧ K i x) ∨ w.heap.size ≤ x) := by
                              intro r R hr x hx
                              rcases hr with hr | hr
                              · obtain ⟨h1, h2⟩ := hKfoot r R hr x hx
                                exact hK'x _ x h1 h2
                              · obtain ⟨h1, h2⟩ := hRfoot r R hr x hx
                                exact hKrx _ x h1 h2
                            have hold : ∀ r R, (aget (blkRo own cs' id) r = some R ∨ aget (layAR true rs (id + 12)) r = some R) → R.own = true ∧ R.ep = none := by
                              intro r R hr
                              rcases hr with hr | hr
                              · obtain ⟨_, _, _, _, t, l', _, rfl⟩ := hA r R hr; exact ⟨rfl, rfl⟩
                              · obtain ⟨_, _, _, t, l', _, rfl⟩ := hBr r R hr; exact ⟨rfl, rfl⟩
                            have hroot2 : ∀ r R, st1.root r = some R → (aget (blkRo own cs' id) r = some R ∨ aget (layAR true rs (id + 12)) r = some R) ∨ (st.root r = some R ∧ R.ep = none ∧ r ∉ ks ∧ U r) := by
                              intro r R hr
                              rcases hroot r R hr with h | h | h
                              · exact .inl (.inl h)
                              · exact .inl (.inr h)
                              · exact .inr h
                            have hapart : ∀ r R r' R', (aget (blkRo own cs' id) r = some R ∨ aget (layAR true rs (id + 12)) r = some R) → (aget (blkRo own cs' id) r' = some R' ∨ aget (layAR true rs (id + 12)) r' = some R') → r ≠ r' → ∀ x, E1.φ r x → ¬ E1.φ r' x := by
                              intro r R r' R' hr hr' hne x hx hx'
                              rcases hr with hr | hr <;> rcases hr' with hr' | hr'
                              · obtain ⟨h1, h2⟩ := hKfoot r R hr x hx
                                obtain ⟨h1', h2'⟩ := hKfoot r' R' hr' x hx'
                                obtain ⟨g1, _⟩ := hA r R hr
                                obtain ⟨g1', _⟩ := hA r' R' hr'
                                exact hK'd _ _ x h1 h1' (by omega) h2 h2'
                              · obtain ⟨h1, h2⟩ := hKfoot r R hr x hx
                                obtain ⟨h1', h2'⟩ := hRfoot r' R' hr' x hx'
                                exact hKK _ _ x h1 h1' h2 h2'
                              · obtain ⟨h1, h2⟩ := hRfoot r R hr x hx
                                obtain ⟨h1', h2'⟩ := hKfoot r' R' hr' x hx'
                                exact hKK _ _ x h1' h1 h2' h2
                              · obtain ⟨h1, h2⟩ := hRfoot r R hr x hx
                                obtain ⟨h1', h2'⟩ := hRfoot r' R' hr' x hx'
                                obtain ⟨g1, _⟩ := hBr r R hr
                                obtain ⟨g1', _⟩ := hBr r' R' hr'
                                exact hKrd _ _ x h1 h1' (by omega) h2 h2'
                            have hlo1 : ∀ l' cs1, aget st1.lo l' = some cs1 → (l' = l ∧ cs1 = cells') ∨ (l' ≠ l ∧ aget st.lo l' = some cs1) := by
                              intro l' cs1 h
                              rw [hst1lo] at h
                              simp only [aget] at h
                              split at h
                              · rename_i he; simp only [beq_iff_eq] at he; cases h; exact .inl ⟨he.symm, rfl⟩
                              · rename_i he; simp only [beq_iff_eq] at he; exact .inr ⟨fun e => he e.symm, h⟩
                            have hlo2 : ∀ l' cs1, aget st1.lo l' = some cs1 → ∃ cs0, aget st.lo l' = some cs0 := by
                              intro l' cs1 h
                              rcases hlo1 l' cs1 h with ⟨rfl, _⟩ | ⟨_, h⟩
                              · exact ⟨_, hcells⟩
                              · exact ⟨_, h⟩
                            have hT : Trans st E w st1 E1 w' U := by
                              refine ⟨fun r hU R1 hR1 => ?_, fun l' hU cs1 h1 => ⟨hlo2 l' cs1 h1, rfl⟩, rfl⟩
                              rcases hroot2 r R1 hR1 with h | ⟨h1, h2, h3, h4⟩
                              · exfalso
                                rcases h with h | h
                                · obtain ⟨g1, g2, _⟩ := hA r R1 h
                                  exact hid r ⟨g1, by omega⟩ hU
                                · obtain ⟨g1, g2, _⟩ := hBr r R1 h
                                  exact hid r ⟨by omega, g2⟩ hU
                              · refine ⟨R1, h1, rfl, fun p u hp => ?_⟩
                                rw [(hE1 r hU).1, hdrAt_frame p (hM.rep r R1 h1) (hfr r R1 h1 h2 h3)]
                                exact hp
                            have hMem : Mem w0 S0 st1 E1 w' := by
                              refine ⟨hos.trans hM.os, htp.trans hM.tape, hout.trans hM.output, Nat.le_trans hM.size hsz, fun b hb hnS => ?_, fun r R hR => ?_, fun r R hR x hx => ?_, fun r R hR ho => ?_, fun r R r' R' hR ho hR' he hne x hx => ?_, fun l' cs1 hl' => ?_, fun l1 l2 c1 c2 h1 h2 => ?_, fun l' cs1 r R hl' hR => ?_, fun r R ee hR he => ?_, hM.κ⟩
                              · refine (hkeep b (Nat.lt_of_lt_of_le hb hM.size) (fun h => ?_) (fun j hj ho hk => ?_)).trans (hM.keep b hb hnS)
                                · subst h
                                  rcases hl1 with h | h
                                  · exact hnS h
                                  · omega
                                · obtain ⟨q, hq, Q, g1, g2, g3⟩ := hKown j b ho hk
                                  rcases (hM.mine q Q g1 g2).2 b g3 with h | h
                                  · exact hnS h
                                  · omega
                              · rcases hroot r R hR with h | h | ⟨h1, h2, h3, h4⟩
                                · have := hKrep r R h
                                  rw [(hold r R (.inl h)).1]; exact this
                                · have := hRrep r R h
                                  rw [(hold r R (.inr h)).1]; exact this
                                · rw [(hE1 r h4).1, (hE1 r h4).2]
                                  exact (hM.rep r R h1).frame (hfr r R h1 h2 h3)
                              · rcases hroot2 r R hR with h | ⟨h1, h2, h3, h4⟩
                                · exact (hfoot r R h x hx).1
                                · rw [(hE1 r h4).2] at hx
                                  exact Nat.lt_of_lt_of_le (hM.rlt r R h1 x hx) hsz
                              · rcases hroot2 r R hR with h | ⟨h1, h2, h3, h4⟩
                                · exact ⟨(hold r R h).2, fun x hx => (hnewx x (hfoot r R h x hx)).1⟩
                                · rw [(hE1 r h4).2]
                                  exact hM.mine r R h1 ho
                              · rcases hroot2 r R hR with h | ⟨h1, h2, h3, h4⟩
                                · rcases hroot2 r' R' hR' with h' | ⟨h1', h2', h3', h4'⟩
                                  · exact hapart r R r' R' h h' hne x hx
                                  · rw [(hE1 r' h4').2]
                                    exact (hnewx x (hfoot r R h x hx)).2 r' R' h1' h2' h3'
                                · rw [(hE1 r h4).2] at hx
                                  rcases hroot2 r' R' hR' with h' | ⟨h1', h2', h3', h4'⟩
                                  · intro hx'
                                    exact (hnewx x (hfoot r' R' h' x hx')).2 r R h1 h2 h3 hx
                                  · rw [(hE1 r' h4').2]
                                    exact hM.apart r R r' R' h1 ho h1' h2' hne x hx
                              · rcases hlo1 l' cs1 hl' with ⟨rfl, rfl⟩ | ⟨hne, hl'⟩
                                · refine ⟨hl1, vals', e', hb', by rw [hsz', hn2, hn1], fun j b u hbj hu => ?_⟩
                                  rcases hn3 j b hbj with ⟨k, n, rfl, h2⟩ | ⟨y, rfl, h2⟩ | ⟨t, l', rfl, ho, h2⟩ | ⟨t, l', r, rfl, ho, h1, h2⟩
                                  · have := hcell j _ u h2 hu
                                    simp only at this
                                    subst this
                                    exact ⟨rfl, rfl⟩
                                  · have := hcell j _ u h2 hu
                                    simp only at this
                                    subst this
                                    exact ⟨rfl, rfl⟩
                                  · have hrep := (hcell j _ u h2 hu).1 ho
                                    have hlt := (List.getElem?_eq_some_iff.1 h2).1
                                    obtain ⟨⟨a, cap, hv, _⟩, _⟩ := hrep.len
                                    refine ⟨hrep.one, ⟨a, _, cap, hv⟩, fun R hR => ?_⟩
                                    have hij : id + j - id = j := by omega
                                    have := (hEa (id + j) (by omega) (by omega)).1
                                    rw [hij, hu] at this
                                    simp only [hdrAt, this, Option.getD_some]
                                  · have hvj := (hcell j _ u h2 hu).2 ho
                                    have hold := hl4 j _ u h1 hvj
                                    exact ⟨hold.1, VA.tr hT (fun n hn => (hS.ids.lo _ cells hcells).2 _ (List.mem_of_getElem? h1) n hn) hold.2⟩
                                · obtain ⟨g1, vals1, e1, g2, g3, g4⟩ := hM.loc l' cs1 hl'
                                  refine ⟨g1, vals1, e1, (hkeep _ (hβlt l' cs1 hl') (fun h => hne (hM.linj l' l cs1 cells hl' hcells h)) (fun j hj ho hk => ?_)).trans g2, g3, fun j b u hb hu => ⟨(g4 j b u hb hu).1, VA.tr hT (fun n hn => (hS.ids.lo l' cs1 hl').2 b (List.mem_of_getElem? hb) n hn) (g4 j b u hb hu).2⟩⟩
                                  obtain ⟨q, hq, Q, h1, h2, h3⟩ := hKown j _ ho hk
                                  exact hM.lro l' cs1 q Q hl' h1 h3
                              · intro hb
                                obtain ⟨c1', h1⟩ := hlo2 l1 c1 h1
                                obtain ⟨c2', h2⟩ := hlo2 l2 c2 h2
                                exact hM.linj l1 l2 c1' c2' h1 h2 hb
                              · obtain ⟨cs0, hl0⟩ := hlo2 l' cs1 hl'
                                rcases hroot2 r R hR with h | ⟨h1, h2, h3, h4⟩
                                · intro hx
                                  obtain ⟨_, g2, g3⟩ := hfoot r R h _ hx
                                  rcases g3 with ⟨i, hi, ho, hk⟩ | g3
                                  · obtain ⟨q, hq, Q, q1, q2, q3⟩ := hKown i _ ho hk
                                    exact hM.lro l' cs0 q Q hl0 q1 q3
                                  · have := hβlt l' cs0 hl0
                                    have e : E1.β l' = E.β l' := rfl
                                    omega
                                · rw [(hE1 r h4).2]
                                  exact hM.lro l' cs0 r R hl0 h1
                              · rw [hst1ep]
                                rcases hro r R hR with h | h | ⟨h, _⟩ | ⟨h, _⟩
                                · rw [(hold r R (.inl h)).2] at he; cases he
                                · rw [(hold r R (.inr h)).2] at he; cases he
                                · rw [h] at he; cases he; omega
                                · have := hM.epo r R ee h he; omega
                            obtain ⟨g1, g2⟩ := layAV_vt (w := w') (st := st1) (E := E1) rs ys (id + 12) hys.1 (fun i c u hc hu => by
                              have hrep := hys.2 i c u hc hu
                              refine ⟨?_, hrep.one⟩
                              have hlt : i < (cvsOf rs).length := (List.getElem?_eq_some_iff.1 hc).1
                              cases c with
                              | i k n => exact hrep.int_inv
                              | b x => exact hrep.bool_inv
                              | s t l' =>
                                obtain ⟨⟨a, cap, hv, _⟩, _⟩ := hrep.len
                                refine ⟨⟨a, _, cap, hv⟩, fun R hR => ?_⟩
                                have e : id + 12 + i - (id + 12) = i := by omega
                                have := (hEb (id + 12 + i) (by omega) (by omega)).1
                                rw [e, hu] at this
                                simp only [hdrAt, this, Option.getD_some])
                            have hnx := Sim.next (U1 := fun n => U n ∨ Mine id n) hS hMem hT (by rw [← hst1]) (by rw [← hst1]) (fun n h => .inl h) (fun n R h => by
                                rcases hro n R h with h | h | ⟨_, Q, h⟩ | ⟨h, _⟩
                                · obtain ⟨h1, h2, _⟩ := hA n R h; exact .inr ⟨h1, by omega⟩
                                · obtain ⟨h1, h2, _⟩ := hBr n R h; exact .inr ⟨by omega, h2⟩
                                · exact .inl (hS.ids.ro n Q h)
                                · exact .inl (hS.ids.ro n R h))
                              (fun n cs1 hn => by
                                rcases hlo1 n cs1 hn with ⟨rfl, rfl⟩ | ⟨_, hn⟩
                                · refine ⟨.inl (hS.ids.lo _ cells hcells).1, fun a ha m hm => ?_⟩
                                  obtain ⟨j, hj⟩ := List.mem_iff_getElem?.1 ha
                                  have hjl : j < cs1.length := (List.getElem?_eq_some_iff.1 hj).1
                                  have hj12 : j < 12 := by rw [hn1] at hjl; omega
                                  rcases hn3 j a hj with ⟨k, n, rfl, h2⟩ | ⟨y, rfl, h2⟩ | ⟨t, l', rfl, ho, h2⟩ | ⟨t, l', r, rfl, ho, h1, h2⟩
                                  · simp [At.ids, atIds, atLids] at hm
                                  · simp [At.ids, atIds, atLids] at hm
                                  · simp only [At.ids, atIds, atLids, List.append_nil, List.mem_singleton] at hm
                                    subst hm
                                    exact .inr ⟨by omega, by omega⟩
                                  · exact .inl ((hS.ids.lo _ cells hcells).2 _ (List.mem_of_getElem? h1) m hm)
                                · exact ⟨.inl (hS.ids.lo n cs1 hn).1, fun a ha m hm => .inl ((hS.ids.lo n cs1 hn).2 a ha m hm)⟩)
                              (dst := o.dst) (mvOf_vm g1 g2) (fun n hn => by
                                simp only [MV.ids, List.mem_flatMap] at hn
                                obtain ⟨a, ha, hn⟩ := hn
                                obtain ⟨x, hx, ha⟩ := mvAts_of ha
                                have := layAV_ids rs (id + 12) n x a hx ha hn
                                exact .inr ⟨by omega, by omega⟩)
                            subst hst1
                            exact hnext _ _ _ hnx
                      · cases h
                    · cases h
                  · cases h
                · cases h
              · cases h
            · cases h
          · cases h
        · cases h
      · cases h
    · cases h
  · cases h

end
end Go.Proofs.Ytcfnaifggdelnaa.E
