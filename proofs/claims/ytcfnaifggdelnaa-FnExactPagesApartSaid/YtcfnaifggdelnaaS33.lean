/- What is proved here: a call that is handed slices of our own goes as the evaluator says. -/
import Derived.Test.YtcfnaifggdelnaaS31
namespace Go.Proofs.Ytcfnaifggdelnaa.E
open Go

/-- The contract of a function that is handed slices with what they take; it hands back what is its own. -/
def HoldsTA (P : Program) (f : FuncId) (own : List Bool) (inp : Option (Nat × Nat × List (List Nat))) (al : List (Nat × Nat)) (run : List AV → Option (Bool × List AV)) : Prop :=
  FnOk P f ∧ ∀ (w : World) (K : Nat → BSet) (avs : List AV) (xs : List Value) (rs : List AV),
    xs.length = (cvsOf avs).length → own.length = (cvsOf avs).length →
    (∀ (j : Nat) (c : CV) (u : Value), (cvsOf avs)[j]? = some c → xs[j]? = some u → Rep ((own[j]?).getD false) w u c (K j)) →
    (∀ j x, j < (cvsOf avs).length → K j x → x < w.heap.size) →
    (∀ i j x, i < (cvsOf avs).length → j < (cvsOf avs).length → isOwn own i → i ≠ j → (j, i) ∉ al → K i x → ¬ K j x) →
    (∀ j i, (j, i) ∈ al → own[j]? = some false ∧ isOwn own i ∧ xs[j]? = xs[i]? ∧ (cvsOf avs)[j]? = (cvsOf avs)[i]? ∧ ∃ t l, (cvsOf avs)[i]? = some (.s t l)) →
    run avs = some (true, rs) →
    Calls P f (packV avs xs).toArray w fun
      | .returned v, w' => w'.os = w.os ∧ w'.tape = w.tape ∧ w'.output = w.output ∧ w.heap.size ≤ w'.heap.size ∧
          (∀ b, b < w.heap.size → (∀ j, j < (cvsOf avs).length → isOwn own j → ¬ K j b) → w'.heap[b]? = w.heap[b]?) ∧
          ∃ (ys : List Value) (Kr : Nat → BSet), AllRep true w' (cvsOf rs) ys Kr ∧ v = retV (packV rs ys) ∧
            (∀ i x, i < (cvsOf rs).length → Kr i x → x < w'.heap.size ∧ ((∃ j, j < (cvsOf avs).length ∧ isOwn own j ∧ K j x) ∨ w.heap.size ≤ x)) ∧
            (∀ i j x, i < (cvsOf rs).length → j < (cvsOf rs).length → i ≠ j → Kr i x → ¬ Kr j x) ∧
            (∀ ja jr js, inp = some (ja, jr, js) → ∀ t l u, (cvsOf avs)[ja]? = some (.s t l) → xs[ja]? = some u → ∃ l', (cvsOf rs)[jr]? = some (.s t l') ∧ ys[jr]? = some u ∧
              ∀ p v, hdrAt w t u p = some v → js.any (fun c => c.isPrefixOf (cols p)) = false → hdrAt w' t u p = some v)
      | _, _ => False

/-- The same, for each way in which its slices may be the same. -/
def HoldsT (P : Program) (f : FuncId) (own : List Bool) (inp : Option (Nat × Nat × List (List Nat))) (run : List AV → Option (Bool × List AV)) : Prop :=
  ∀ al ∈ aliasesOf f, HoldsTA P f own inp al run

/-- The functions that are handed slices of our own. -/
structure TctOk (C : Cfg) : Prop where
  ok : ∀ f own inp run, C.tct f = some (own, inp, run) → HoldsT C.P f own inp run

section
variable {C : Cfg} {w0 w w1 : World} {S0 : BSet} {U : Nat → Prop} {st st1 : St} {E E1 : Env} {ts : Array Value} {sv : List (Array Value)}

structure Tks (st : St) (own : List Bool) (ats : List At) (cs : List CV) (ks : List Nat) : Prop where
  len : cs.length = ats.length
  olen : own.length = ats.length
  ownk : ∀ r ∈ ks, ∃ j, isOwn own j ∧ ats[j]? = some (.sl r [])
  get : ∀ (j : Nat) (a : At), ats[j]? = some a → (isOwn own j ∧ ∃ r R, a = .sl r [] ∧ st.root r = some R ∧ R.own = true ∧ r ∈ ks ∧ cs[j]? = some (.s R.t R.l)) ∨ (own[j]? = some false ∧ ∃ c, st.cvOf a = some c ∧ cs[j]? = some c)
  inj : ∀ (i j r : Nat), isOwn own i → isOwn own j → ats[i]? = some (.sl r []) → ats[j]? = some (.sl r []) → i = j

theorem tks_ok : ∀ (own : List Bool) (ats : List At) (cs : List CV) (ks : List Nat), st.tks own ats = some (cs, ks) → Tks st own ats cs ks
  | [], [], cs, ks, h => by
    cases h
    exact ⟨rfl, rfl, fun r h => by simp at h, fun j a h => by simp at h, fun i j r h => by simp [isOwn] at h⟩
  | [], _ :: _, _, _, h => by simp [St.tks] at h
  | _ :: _, [], _, _, h => by simp [St.tks] at h
  | o :: ms, a :: r, cs, ks, h => by
    simp only [St.tks] at h
    split at h
    · cases h
    · rename_i cs0 ks0 h0
      have ih := tks_ok ms r cs0 ks0 h0
      have tail : ∀ (ks1 : List Nat) (c : CV), (∀ x ∈ ks0, x ∈ ks1) → ∀ (j : Nat) (b : At), r[j]? = some b →
          (isOwn (o :: ms) (j + 1) ∧ ∃ q R, b = .sl q [] ∧ st.root q = some R ∧ R.own = true ∧ q ∈ ks1 ∧ (c :: cs0)[j + 1]? = some (.s R.t R.l)) ∨ ((o :: ms)[j + 1]? = some false ∧ ∃ d, st.cvOf b = some d ∧ (c :: cs0)[j + 1]? = some d) := by
        intro ks1 c hks j b hb
        rcases ih.get j b hb with ⟨h1, q, R, g1, g2, g3, g4, g5⟩ | ⟨h1, d, g1, g2⟩
        · exact .inl ⟨by simpa [isOwn] using h1, q, R, g1, g2, g3, hks q g4, by simpa using g5⟩
        · exact .inr ⟨by simpa using h1, d, g1, by simpa using g2⟩
      split at h
      · split at h
        · rename_i q
          split at h
          · rename_i R hR
            split at h
            · rename_i hcond
              simp only [Bool.and_eq_true, Bool.not_eq_true', List.contains_eq_mem, decide_eq_false_iff_not] at hcond
              obtain ⟨hown, hnk⟩ := hcond
              cases h
              have old : ∀ (i : Nat), isOwn ms i → r[i]? = some (.sl q []) → False := by
                intro i hi hq
                rcases ih.get i _ hq with ⟨_, r', R', g1, _, _, g4, _⟩ | ⟨h1, _⟩
                · cases g1; exact hnk g4
                · rw [hi] at h1; cases h1
              refine ⟨by simp [ih.len], by simp [ih.olen], fun x hx => ?_, fun j b hb => ?_, fun i j x hi hj h1 h2 => ?_⟩
              · rcases List.mem_cons.1 hx with rfl | hx
                · exact ⟨0, rfl, rfl⟩
                · obtain ⟨j, h1, h2⟩ := ih.ownk x hx
                  exact ⟨j + 1, by simpa [isOwn] using h1, by simpa using h2⟩
              · cases j with
                | zero =>
                  simp only [List.getElem?_cons_zero, Option.some.injEq] at hb
                  subst hb
                  exact .inl ⟨rfl, q, R, rfl, hR, hown, List.mem_cons_self, by simp⟩
                | succ j => exact tail _ _ (fun x hx => List.mem_cons_of_mem _ hx) j b (by simpa using hb)
              · cases i with
                | zero =>
                  cases j with
                  | zero => rfl
                  | succ j =>
                    simp only [List.getElem?_cons_zero, Option.some.injEq, At.sl.injEq, and_true] at h1
                    subst h1
                    exact (old j (by simpa [isOwn] using hj) (by simpa using h2)).elim
                | succ i =>
                  cases j with
                  | zero =>
                    simp only [List.getElem?_cons_zero, Option.some.injEq, At.sl.injEq, and_true] at h2
                    subst h2
                    exact (old i (by simpa [isOwn] using hi) (by simpa using h1)).elim
                  | succ j =>
                    have := ih.inj i j x (by simpa [isOwn] using hi) (by simpa [isOwn] using hj) (by simpa using h1) (by simpa using h2)
                    omega
            · cases h
          · cases h
        · cases h
      · split at h
        · rename_i c hc
          cases h
          refine ⟨by simp [ih.len], by simp [ih.olen], fun x hx => ?_, fun j b hb => ?_, fun i j x hi hj h1 h2 => ?_⟩
          · obtain ⟨j, h1, h2⟩ := ih.ownk x hx
            exact ⟨j + 1, by simpa [isOwn] using h1, by simpa using h2⟩
          · cases j with
            | zero =>
              simp only [List.getElem?_cons_zero, Option.some.injEq] at hb
              subst hb
              exact .inr ⟨rfl, c, hc, by simp⟩
            | succ j => exact tail _ _ (fun x hx => hx) j b (by simpa using hb)
          · cases i with
            | zero => simp [isOwn] at hi
            | succ i =>
              cases j with
              | zero => simp [isOwn] at hj
              | succ j =>
                have := ih.inj i j x (by simpa [isOwn] using hi) (by simpa [isOwn] using hj) (by simpa using h1) (by simpa using h2)
                omega
        · cases h

theorem free_get {ks : List Nat} {al : List (Nat × Nat)} : ∀ (n : Nat) (own : List Bool) (ats : List At), freeAll st ks al n own ats = true → ∀ (j : Nat) (a : At), ats[j]? = some a → own[j]? = some false → (∀ i, (n + j, i) ∉ al) → atFree st ks a = true
  | _, [], _, _, j, a, _, ho, _ => by simp at ho
  | _, _ :: _, [], _, j, a, ha, _, _ => by simp at ha
  | n, o :: ms, b :: r, h, j, a, ha, ho, hn => by
    simp only [freeAll, Bool.and_eq_true, Bool.or_eq_true] at h
    cases j with
    | zero =>
      simp only [List.getElem?_cons_zero, Option.some.injEq] at ha ho
      subst ha ho
      rcases h.1 with h | h | h
      · cases h
      · obtain ⟨x, hx, he⟩ := List.any_eq_true.1 h
        have : x.1 = n := Nat.eq_of_beq_eq_true he
        exact absurd (by rw [Nat.add_zero, ← this]; exact hx) (hn x.2)
      · exact h
    | succ j => exact free_get (n + 1) ms r h.2 j a (by simpa using ha) (by simpa using ho) (fun i => by have := hn i; rwa [show n + 1 + j = n + (j + 1) by omega])

theorem alias_get {own : List Bool} {ats : List At} {al : List (Nat × Nat)} (h : aliasOk own ats al = true) {j i : Nat} (hm : (j, i) ∈ al) : ∃ q, ats[j]? = some (.sl q []) ∧ ats[i]? = some (.sl q []) ∧ own[j]? = some false ∧ isOwn own i := by
  have := List.all_eq_true.1 h _ hm
  dsimp only at this
  split at this
  · rename_i q r h1 h2 h3 h4
    have e : q = r := Nat.eq_of_beq_eq_true this
    subst e
    exact ⟨q, h1, h2, h3, h4⟩
  · cases this

/-- The arguments' values, cell by cell. -/
theorem tvs_vals (hS : Sim w0 S0 U st E ts sv w) : ∀ (l : List Operand) (tvs : List TV), tvsOf st l = some tvs →
    ∃ xs : List Value, xs.length = (tvs.flatMap tvAts).length ∧ (∀ (j : Nat) (a : At) (u : Value), (tvs.flatMap tvAts)[j]? = some a → xs[j]? = some u → VA w st E a u) ∧
      ∀ cs : List CV, cs.length = xs.length → l.map ({ tmps := ts, defers := [] } : Act).eval = packV (packAV tvs cs) xs ∧ cvsOf (packAV tvs cs) = cs
  | [], tvs, h => by
    cases h
    exact ⟨[], rfl, fun j a u h => by simp at h, fun cs hcs => by
      have : cs = [] := List.eq_nil_of_length_eq_zero (by simpa using hcs)
      subst this
      exact ⟨rfl, rfl⟩⟩
  | x :: r, tvs, h => by
    simp only [tvsOf] at h
    split at h
    · rename_i y ys hx hr
      cases h
      obtain ⟨xs, h1, h2, h3⟩ := tvs_vals hS r ys hr
      obtain ⟨hv, -⟩ := opnd_sound hS hx
      rcases y with a | l
      · refine ⟨({ tmps := ts, defers := [] } : Act).eval x :: xs, by simp [tvAts, h1], fun j b u hb hu => ?_, fun cs hcs => ?_⟩
        · cases j with
          | zero => simp [tvAts] at hb hu; subst hb hu; exact hv
          | succ j => exact h2 j b u (by simpa [tvAts] using hb) (by simpa using hu)
        · cases cs with
          | nil => simp at hcs
          | cons c cs =>
            obtain ⟨g1, g2⟩ := h3 cs (by simpa using hcs)
            refine ⟨by simp [packAV, packV, g1], ?_⟩
            have e : cvsOf (packAV (TV.at a :: ys) (c :: cs)) = c :: cvsOf (packAV ys cs) := by simp [packAV, cvsOf, AV.cvs]
            rw [e, g2]
      · obtain ⟨vs, hvs, hsz, hvv⟩ := hv
        have hl : vs.toList.length = l.length := by simp [hsz]
        refine ⟨vs.toList ++ xs, by simp [tvAts, h1, hsz], fun j b u hb hu => ?_, fun cs hcs => ?_⟩
        · simp only [List.flatMap_cons, tvAts] at hb
          by_cases hj : j < l.length
          · rw [List.getElem?_append_left hj] at hb
            rw [List.getElem?_append_left (by omega)] at hu
            exact (hvv j b u hb (by simpa using hu)).2
          · rw [List.getElem?_append_right (by omega)] at hb
            rw [List.getElem?_append_right (by omega), hl] at hu
            exact h2 _ b u hb hu
        · have hcl : cs.length = l.length + xs.length := by simpa [hsz] using hcs
          obtain ⟨g1, g2⟩ := h3 (cs.drop l.length) (by simp; omega)
          have htl : (cs.take l.length).length = l.length := by simp; omega
          refine ⟨?_, ?_⟩
          · have e1 : List.take l.length (vs.toList ++ xs) = vs.toList := by rw [← hl]; exact List.take_left' rfl
            have e2 : List.drop l.length (vs.toList ++ xs) = xs := by rw [← hl]; exact List.drop_left' rfl
            simp only [List.map_cons, packAV, packV, hvs, htl, e1, e2, g1, Array.toArray_toList]
          · have e : cvsOf (packAV (TV.agg l :: ys) cs) = cs.take l.length ++ cvsOf (packAV ys (cs.drop l.length)) := by simp [packAV, cvsOf, AV.cvs]
            rw [e, g2, List.take_append_drop]
    · cases h

/-! What led through a slice leads through its new self. -/

theorem map_tv {f : At → At} (T : ∀ a v, (∀ n ∈ a.ids, U n) → VA w st E a v → VA w1 st1 E1 (f a) v) {x : TV} {v : Value} (hU : ∀ a ∈ tvAts x, ∀ n ∈ a.ids, U n) (h : VT w st E x v) : VT w1 st1 E1 (mapTV f x) v := by
  rcases x with a | l
  · exact T a v (hU a (by simp [tvAts])) h
  · obtain ⟨vs, h1, h2, h3⟩ := h
    refine ⟨vs, h1, by simp [h2], fun j a u ha hu => ?_⟩
    rw [List.getElem?_map] at ha
    cases hl : l[j]? with
    | none => rw [hl] at ha; cases ha
    | some b => rw [hl] at ha; cases ha; exact ⟨(h3 j b u hl hu).1, T _ _ (hU b (by simp only [tvAts]; exact List.mem_of_getElem? hl)) (h3 j b u hl hu).2⟩

theorem map_mv {f : At → At} (T : ∀ a v, (∀ n ∈ a.ids, U n) → VA w st E a v → VA w1 st1 E1 (f a) v) {m : MV} {v : Value} (hU : ∀ n ∈ m.ids, U n) (h : VM w st E m v) : VM w1 st1 E1 (mapMV f m) v := by
  have hU' : ∀ a ∈ mvAts m, ∀ n ∈ a.ids, U n := fun a ha n hn => hU n (by simp only [MV.ids, List.mem_flatMap]; exact ⟨a, ha, hn⟩)
  cases m with
  | und => exact h
  | v x => exact map_tv T hU' h
  | tup l =>
    obtain ⟨vs, h1, h2, h3⟩ := h
    refine ⟨vs, h1, by simp [h2], fun j a u ha hu => ?_⟩
    rw [List.getElem?_map] at ha
    cases hl : l[j]? with
    | none => rw [hl] at ha; cases ha
    | some b =>
      rw [hl] at ha; cases ha
      refine map_tv T (fun a ha => hU' a ?_) (h3 j b u hl hu)
      simp only [mvAts, List.mem_flatMap]
      exact ⟨b, List.mem_of_getElem? hl, ha⟩

theorem map_slots {f : At → At} (T : ∀ a v, (∀ n ∈ a.ids, U n) → VA w st E a v → VA w1 st1 E1 (f a) v) {tm : List MV} {ts : Array Value} (hU : ∀ m ∈ tm, ∀ n ∈ m.ids, U n) (h : Slots w st E tm ts) : Slots w1 st1 E1 (tm.map (mapMV f)) ts := by
  refine ⟨by simp [h.1], fun i m v hm hv => ?_⟩
  rw [List.getElem?_map] at hm
  cases hl : tm[i]? with
  | none => rw [hl] at hm; cases hm
  | some b => rw [hl] at hm; cases hm; exact map_mv T (hU b (List.mem_of_getElem? hl)) (h.2 i b v hl hv)

theorem map_stack {f : At → At} (T : ∀ a v, (∀ n ∈ a.ids, U n) → VA w st E a v → VA w1 st1 E1 (f a) v) : ∀ {l : List (List MV)} {s : List (Array Value)}, (∀ g ∈ l, ∀ m ∈ g, ∀ n ∈ m.ids, U n) → Stack w st E l s → Stack w1 st1 E1 (l.map fun g => g.map (mapMV f)) s
  | [], [], _, _ => trivial
  | g :: l, ts :: s, hU, h => ⟨map_slots T (hU g (by simp)) h.1, map_stack T (fun g' hg => hU g' (by simp [hg])) h.2⟩
  | [], _ :: _, _, h => h.elim
  | _ :: _, [], _, h => h.elim

theorem mapTV_ats {f : At → At} {x : TV} {a : At} (h : a ∈ tvAts (mapTV f x)) : ∃ b ∈ tvAts x, a = f b := by
  rcases x with b | l
  · simp only [mapTV, tvAts, List.mem_singleton] at h ⊢
    exact ⟨b, rfl, h⟩
  · simp only [mapTV, tvAts, List.mem_map] at h ⊢
    obtain ⟨b, hb, rfl⟩ := h
    exact ⟨b, hb, rfl⟩

theorem mapMV_ids {f : At → At} {m : MV} {n : Nat} (h : n ∈ (mapMV f m).ids) : ∃ a ∈ mvAts m, n ∈ (f a).ids := by
  simp only [MV.ids, List.mem_flatMap] at h
  obtain ⟨a, ha, hn⟩ := h
  have : ∃ b ∈ mvAts m, a = f b := by
    cases m with
    | und => simp [mapMV, mvAts] at ha
    | v x => exact mapTV_ats ha
    | tup l =>
      simp only [mapMV, mvAts, List.mem_flatMap, List.mem_map] at ha ⊢
      obtain ⟨y, ⟨x, hx, rfl⟩, ha⟩ := ha
      obtain ⟨b, hb, rfl⟩ := mapTV_ats ha
      exact ⟨b, ⟨x, hx, hb⟩, rfl⟩
  obtain ⟨b, hb, rfl⟩ := this
  exact ⟨b, hb, hn⟩

theorem renAt_ids {q n k : Nat} {js : List (List Nat)} {a : At} (h : k ∈ (renAt q n js a).ids) : k ∈ a.ids ∨ k = n := by
  cases a with
  | sl r p =>
    simp only [renAt] at h
    cases hb : Nat.beq r q <;> rw [hb] at h
    · exact .inl h
    · cases hc : js.any (fun m => m.isPrefixOf (cols p)) <;> rw [hc] at h
      · simp only [cond_true, cond_false, At.ids, atIds, atLids, List.append_nil, List.mem_singleton] at h
        exact .inr h
      · simp [At.ids, atIds, atLids] at h
  | ep r p i o =>
    simp only [renAt] at h
    cases hb : Nat.beq r q <;> rw [hb] at h
    · exact .inl h
    · cases hc : js.any (fun m => m.isPrefixOf (cols p)) <;> rw [hc] at h
      · simp only [cond_true, cond_false, At.ids, atIds, atLids, List.append_nil, List.mem_singleton] at h
        exact .inr h
      · simp [At.ids, atIds, atLids] at h
  | kp r J t =>
    simp only [renAt] at h
    cases hb : Nat.beq r q <;> rw [hb] at h
    · exact .inl h
    · cases hc : coarse js J <;> rw [hc] at h
      · simp [At.ids, atIds, atLids] at h
      · simp only [cond_true, At.ids, atIds, atLids, List.append_nil, List.mem_singleton] at h
        exact .inr h
  | bad => exact .inl h
  | i k n => exact .inl h
  | b x => exact .inl h
  | lp l o => exact .inl h
  | fn f c => exact .inl h

theorem ren_sim {U1 : Nat → Prop} (hS : Sim w0 S0 U st E ts sv w) (hM : Mem w0 S0 st1 E1 w1) (hT : Trans st E w st1 E1 w1 U) (htm : st1.tm = st.tm) (hstk : st1.stk = st.stk) (hlo1 : st1.lo = st.lo) (hU : ∀ n, U n → U1 n) (hro : ∀ n R, aget st1.ro n = some R → U1 n)
    (hheap : ∀ l cs, aget st.lo l = some cs → w1.heap[E.β l]? = w.heap[E.β l]?) {q n : Nat} {js : List (List Nat)} (hn : U1 n)
    (hq : ∀ R1, st1.root n = some R1 → ∃ R, st.root q = some R ∧ R1.t = R.t ∧ E1.ρ n = E.ρ q ∧ ∀ p u, hdrAt w R.t (E.ρ q) p = some u → js.any (fun c => c.isPrefixOf (cols p)) = false → hdrAt w1 R.t (E.ρ q) p = some u) :
    Sim w0 S0 U1 (st1.ren (some (q, n, js))) E1 ts sv w1 := by
  have hroot : ∀ r, (st1.ren (some (q, n, js))).root r = st1.root r := fun r => rfl
  have hloc : ∀ l cs, aget (st1.ren (some (q, n, js))).lo l = some cs → ∃ cs', aget st.lo l = some cs' ∧ cs = cs'.map (renAt q n js) := by
    intro l cs h
    simp only [St.ren, hlo1] at h
    rw [aget_map] at h
    cases hl : aget st.lo l with
    | none => rw [hl] at h; cases h
    | some cs' => rw [hl] at h; cases h; exact ⟨cs', rfl, rfl⟩
  have hI : Trans st1 E1 w1 (st1.ren (some (q, n, js))) E1 w1 (fun _ => True) :=
    ⟨fun r _ R1 h1 => ⟨R1, h1, rfl, fun _ _ h => h⟩, fun l _ cs1 h1 => ⟨by obtain ⟨cs', h2, _⟩ := hloc l cs1 h1; exact ⟨cs', by rw [hlo1]; exact h2⟩, rfl⟩, rfl⟩
  have T : ∀ a v, (∀ k ∈ a.ids, U k) → VA w st E a v → VA w1 (st1.ren (some (q, n, js))) E1 (renAt q n js a) v := by
    intro a v ha hv
    have same : VA w1 (st1.ren (some (q, n, js))) E1 a v := VA.tr hI (fun _ _ => trivial) (VA.tr hT ha hv)
    cases a with
    | bad => trivial
    | i k n => exact hv
    | b x => exact hv
    | lp l o => exact same
    | fn f c => exact same
    | sl r p =>
      simp only [renAt]
      cases hb : Nat.beq r q with
      | false => exact same
      | true =>
        rw [Nat.beq_eq] at hb
        subst hb
        cases hc : js.any (fun m => m.isPrefixOf (cols p)) with
        | true => trivial
        | false =>
          refine ⟨hv.1, fun R1 hR1 => ?_⟩
          obtain ⟨R, h1, h2, h3, h4⟩ := hq R1 hR1
          rw [h2, h3]
          exact h4 p v (hv.2 R h1) hc
    | ep r p i o =>
      simp only [renAt]
      cases hb : Nat.beq r q with
      | false => exact same
      | true =>
        rw [Nat.beq_eq] at hb
        subst hb
        cases hc : js.any (fun m => m.isPrefixOf (cols p)) with
        | true => trivial
        | false =>
          refine ⟨hv.1, fun R1 hR1 => ?_⟩
          obtain ⟨R, h1, h2, h3, h4⟩ := hq R1 hR1
          obtain ⟨b, o', len, cap, t', g1, g2, g3⟩ := hv.2 R h1
          exact ⟨b, o', len, cap, t', by rw [h2, h3]; exact h4 p _ g1 hc, by rw [h2]; exact g2, g3⟩
    | kp r J t =>
      simp only [renAt]
      cases hb : Nat.beq r q with
      | false => exact same
      | true =>
        rw [Nat.beq_eq] at hb
        subst hb
        cases hc : coarse js J with
        | false => trivial
        | true =>
          refine ⟨hv.1, fun R1 hR1 => ?_⟩
          obtain ⟨R, h1, h2, h3, h4⟩ := hq R1 hR1
          obtain ⟨g1, g2, g3⟩ := hv.2 R h1
          refine ⟨h2.trans g1, h3.trans g2, fun p u hp hJ => ?_⟩
          rw [hT.κ] at hp
          have := h4 p u (by rw [g1, g2]; exact g3 p u hp hJ) (coarse_any hc hJ)
          rwa [g1, g2] at this
  have hids : ∀ {m : MV} {k : Nat}, (∀ j ∈ m.ids, U j) → k ∈ (mapMV (renAt q n js) m).ids → U1 k := by
    intro m k hm hk
    obtain ⟨a, ha, hk⟩ := mapMV_ids hk
    rcases renAt_ids hk with h | rfl
    · exact hU k (hm k (by simp only [MV.ids, List.mem_flatMap]; exact ⟨a, ha, h⟩))
    · exact hn
  refine ⟨⟨hM.os, hM.tape, hM.output, hM.size, hM.keep, hM.rep, hM.rlt, hM.mine, hM.apart, fun l cs hl => ?_, fun l l' cs cs' h1 h2 he => ?_, fun l cs r R hl hR => ?_, hM.epo, hM.κ⟩, ⟨hro, fun k cs hk => ?_, fun m hm k hk => ?_, fun g hg m hm k hk => ?_⟩, ?_, ?_⟩
  · obtain ⟨cs', hl', rfl⟩ := hloc l cs hl
    obtain ⟨h1, vals, e, h2, h3, h4⟩ := hS.mem.loc l cs' hl'
    obtain ⟨g1, _⟩ := hM.loc l cs' (by rw [hlo1]; exact hl')
    have hβ : E1.β l = E.β l := (hT.lo l (hS.ids.lo l cs' hl').1 cs' (by rw [hlo1]; exact hl')).2
    refine ⟨g1, vals, e, by rw [hβ, hheap l cs' hl']; exact h2, by simp [h3], fun j c u hc hu => ?_⟩
    rw [List.getElem?_map] at hc
    cases hcj : cs'[j]? with
    | none => rw [hcj] at hc; cases hc
    | some c' =>
      rw [hcj] at hc; cases hc
      exact ⟨(h4 j c' u hcj hu).1, T _ _ ((hS.ids.lo l cs' hl').2 c' (List.mem_of_getElem? hcj)) (h4 j c' u hcj hu).2⟩
  · obtain ⟨c1, h1, _⟩ := hloc l cs h1
    obtain ⟨c2, h2, _⟩ := hloc l' cs' h2
    exact hM.linj l l' c1 c2 (by rw [hlo1]; exact h1) (by rw [hlo1]; exact h2) he
  · obtain ⟨c1, h1, _⟩ := hloc l cs hl
    exact hM.lro l c1 r R (by rw [hlo1]; exact h1) hR
  · obtain ⟨cs', h1, rfl⟩ := hloc k cs hk
    refine ⟨hU k (hS.ids.lo k cs' h1).1, fun a ha j hj => ?_⟩
    obtain ⟨a', ha', rfl⟩ := List.mem_map.1 ha
    rcases renAt_ids hj with h | rfl
    · exact hU j ((hS.ids.lo k cs' h1).2 a' ha' j h)
    · exact hn
  · simp only [St.ren, htm] at hm
    obtain ⟨m0, hm0, rfl⟩ := List.mem_map.1 hm
    exact hids (hS.ids.tm m0 hm0) hk
  · simp only [St.ren, hstk] at hg
    obtain ⟨g0, hg0, rfl⟩ := List.mem_map.1 hg
    obtain ⟨m0, hm0, rfl⟩ := List.mem_map.1 hm
    exact hids (hS.ids.stk g0 hg0 m0 hm0) hk
  · have := map_slots T hS.ids.tm hS.tm
    simpa only [St.ren, htm] using this
  · have := map_stack T hS.ids.stk hS.stk
    simpa only [St.ren, hstk] using this

theorem tcall_ok (hH : TctOk C) (w0 w : World) (S0 : BSet) (U : Nat → Prop) (st : St) (E : Env) (ts : Array Value) (sv : List (Array Value)) (o : Oper) (id : Nat) (c : Bool) (st2 : St) (mv : MV) (hS : Sim w0 S0 U st E ts sv w) (hid : ∀ n, Mine id n → ¬ U n)
    (h : tcall C st o id = some (c, st2, mv)) (hc : c = true) : Goes C w0 S0 U st ts sv w o id (fun _ => st2.put o.dst mv) ∧ st2.nid = st.nid := by
  subst hc
  unfold tcall at h
  split at h
  · rename_i cl ho
    split at h
    · rename_i f hcb
      split at h
      · rename_i own inp run htct
        unfold tcallF at h
        split at h
        · rename_i tvs htvs
          split at h
          · rename_i cs ks htks
            split at h
            rotate_left
            · cases h
            rename_i x hren
            cases hfree0 : (aliasesOf f).any (fun al => aliasOk own (tvs.flatMap tvAts) al && freeAll st ks al 0 own (tvs.flatMap tvAts)) with
            | false => rw [hfree0] at h; cases h
            | true =>
              rw [hfree0] at h
              simp only [cond_true] at h
              obtain ⟨al, hal, hfree1⟩ := List.any_eq_true.1 hfree0
              rw [Bool.and_eq_true] at hfree1
              obtain ⟨hali, hfree⟩ := hfree1
              split at h
              · rename_i cc rs hrun
                split at h
                · rename_i hlen
                  simp only [Option.some.injEq, Prod.mk.injEq] at h
                  obtain ⟨rfl, rfl, rfl⟩ := h
                  refine ⟨?_, by cases x <;> rfl⟩
                  have hrsl : (cvsOf rs).length ≤ 31 := hlen
                  obtain ⟨⟨fn, bd, hf, hbd, hname⟩, hHT⟩ := hH.ok f own inp run htct al hal
                  have hB := tks_ok own _ cs ks htks
                  have hM := hS.mem
                  obtain ⟨xs, hxl, hxv, hxp⟩ := tvs_vals hS cl.args.toList tvs htvs
                  obtain ⟨hxm, hcv⟩ := hxp cs (by rw [hB.len, hxl])
                  let Ka : BSet := fun x => x < w.heap.size ∧ ∀ r ∈ ks, ¬ E.φ r x
                  have hks : ∀ r ∈ ks, ∃ j R, j < cs.length ∧ isOwn own j ∧ (tvs.flatMap tvAts)[j]? = some (.sl r []) ∧ st.root r = some R ∧ R.own = true := by
                    intro r hr
                    obtain ⟨j, h1, h2⟩ := hB.ownk r hr
                    rcases hB.get j _ h2 with ⟨_, q, R, h, g1, g2, _, _⟩ | ⟨h, _⟩
                    · cases h
                      exact ⟨j, R, by rw [hB.len]; exact (List.getElem?_eq_some_iff.1 h2).1, h1, h2, g1, g2⟩
                    · rw [h1] at h; cases h
                  let K : Nat → BSet := fun j => @ite _ (own[j]? = some true ∨ ∃ i, (j, i) ∈ al) (Classical.propDecidable _) (cφ E (tvs.flatMap tvAts) j) Ka
                  have hK1 : ∀ j, isOwn own j → K j = cφ E (tvs.flatMap tvAts) j := fun j hj => if_pos (.inl hj)
                  have hK3 : ∀ j i, (j, i) ∈ al → K j = cφ E (tvs.flatMap tvAts) j := fun j i hj => if_pos (.inr ⟨i, hj⟩)
                  have hK2 : ∀ j, ¬ isOwn own j → (∀ i, (j, i) ∉ al) → K j = Ka := fun j hj hn => if_neg (fun h => h.elim hj (fun ⟨i, hi⟩ => hn i hi))
                  have hKown : ∀ j x, isOwn own j → K j x → ∃ r ∈ ks, ∃ R, (tvs.flatMap tvAts)[j]? = some (.sl r []) ∧ st.root r = some R ∧ R.own = true ∧ E.φ r x := by
                    intro j x hj hx
                    rw [hK1 j hj] at hx
                    obtain ⟨a, ha, hx⟩ := cφ_inv hx
                    rcases hB.get j a ha with ⟨_, r, R, rfl, g1, g2, g3, _⟩ | ⟨h, _⟩
                    · exact ⟨r, g3, R, ha, g1, g2, hx⟩
                    · rw [hj] at h; cases h
                  have hargs' : cl.args.map ({ tmps := ts, defers := [] } : Act).eval = (packV (packAV tvs cs) xs).toArray := by
                    rw [← hxm, ← Array.toList_map, Array.toArray_toList]
                  intro next Q hnext
                  have hname' : fn.name ≠ "runtime.NumGoroutine" := by simpa using hname
                  have hexec : (execOp ({ tmps := ts, defers := [] } : Act).eval o).run C.P w = .ok (.enter f (packV (packAV tvs cs) xs).toArray) w := by
                    have hfe : ({ tmps := ts, defers := [] } : Act).eval (.func f) = .func (.func f) #[] #[] := rfl
                    simp [execOp, ho, resolve, hcb, Deferred.ofValue, invoke, callFunc, hf, hbd, hname', hargs', hfe]
                  unfold Oper.wp
                  rw [hexec, Oper.upon_enter]
                  have hcvl : (cvsOf (packAV tvs cs)).length = cs.length := by rw [hcv]
                  refine (hHT w K (packAV tvs cs) xs rs (by rw [hcv, hB.len, hxl]) (by rw [hcv, hB.len, hB.olen]) (fun j c u hcj hu => ?_) (fun j x hj hx => ?_) (fun i j x hi hj ho hne hna hx hx' => ?_) (fun j i hji => ?_) hrun).mono ?_
                  · rw [hcv] at hcj
                    have hj : j < (tvs.flatMap tvAts).length := by rw [← hB.len]; exact (List.getElem?_eq_some_iff.1 hcj).1
                    have ha := List.getElem?_eq_getElem hj
                    have hva := hxv j _ u ha hu
                    rcases hB.get j _ ha with ⟨h1, r, R, h2, g1, g2, g3, g4⟩ | ⟨h1, d, g1, g2⟩
                    · rw [hcj] at g4; cases g4
                      have e : (own[j]?).getD false = true := by rw [show own[j]? = some true from h1]; rfl
                      rw [h2] at hva ha
                      have := hva.2 R g1
                      simp only [hdrAt, Option.some.injEq] at this
                      subst this
                      have hr := hM.rep r R g1
                      rw [g2] at hr
                      rw [e]
                      refine hr.weak (fun x hx => ?_)
                      rw [hK1 j h1, cφ_some ha]
                      exact hx
                    · rw [hcj] at g2; cases g2
                      have e : (own[j]?).getD false = false := by rw [h1]; rfl
                      by_cases hA : ∃ i, (j, i) ∈ al
                      · obtain ⟨i, hji⟩ := hA
                        obtain ⟨q, q1, q2, _, q4⟩ := alias_get hali hji
                        rw [ha] at q1
                        have q1 := Option.some.inj q1
                        rw [q1] at ha hva g1
                        rcases hB.get i _ q2 with ⟨_, r, R, hrq, g3, g4, g5, g6⟩ | ⟨hb, _⟩
                        rotate_left
                        · rw [show own[i]? = some true from q4] at hb; cases hb
                        cases hrq
                        have hcq : st.cvOf (.sl q []) = some (.s R.t R.l) := by simp [St.cvOf, St.node, g3, getP]
                        rw [hcq] at g1
                        cases g1
                        have := hva.2 R g3
                        simp only [hdrAt, Option.some.injEq] at this
                        subst this
                        rw [e, hK3 j i hji]
                        exact ((hM.rep q R g3).weak (fun x hx => by rw [cφ_some ha]; exact hx)).ro
                      have hnA : ∀ i, (j, i) ∉ al := fun i hi => hA ⟨i, hi⟩
                      rw [e, hK2 j (fun h => by rw [show own[j]? = some true from h] at h1; cases h1) hnA]
                      exact cvF_sound hS (ks := ks) (fun r R x hR he hr hx => ⟨hM.rlt r R hR x hx, fun q hq hqx => by
                        obtain ⟨_, Q', _, _, _, hQ, hQo⟩ := hks q hq
                        exact hM.apart q Q' r R hQ hQo hR he (fun e => hr (by rw [← e]; exact hq)) x hqx hx⟩) (free_get 0 own _ hfree j _ ha h1 (fun i => by rw [Nat.zero_add]; exact hnA i)) g1 hva
                  · by_cases hj' : isOwn own j
                    · obtain ⟨r, _, R, _, h2, _, h4⟩ := hKown j x hj' hx
                      exact hM.rlt r R h2 x h4
                    · by_cases hA : ∃ i, (j, i) ∈ al
                      · obtain ⟨i, hji⟩ := hA
                        obtain ⟨q, q1, q2, _, q4⟩ := alias_get hali hji
                        rw [hK3 j i hji, cφ_some q1] at hx
                        have hx2 : K i x := by rw [hK1 i q4, cφ_some q2]; exact hx
                        obtain ⟨r, _, R, _, h2, _, h4⟩ := hKown i x q4 hx2
                        exact hM.rlt r R h2 x h4
                      · rw [hK2 j hj' (fun i hi => hA ⟨i, hi⟩)] at hx; exact hx.1
                  · obtain ⟨r, hr, R, h1, h2, h3, h4⟩ := hKown i x ho hx
                    by_cases hj' : isOwn own j
                    · obtain ⟨r', _, R', h1', h2', h3', h4'⟩ := hKown j x hj' hx'
                      have := hM.own_apart h2 h3 h2' h3' h4 h4'
                      subst this
                      exact hne (hB.inj i j r ho hj' h1 h1')
                    · by_cases hA : ∃ i, (j, i) ∈ al
                      · obtain ⟨i', hji⟩ := hA
                        obtain ⟨q, q1, q2, _, q4⟩ := alias_get hali hji
                        rw [hK3 j i' hji, cφ_some q1] at hx'
                        have hx2 : K i' x := by rw [hK1 i' q4, cφ_some q2]; exact hx'
                        obtain ⟨r', _, R', h1', h2', h3', h4'⟩ := hKown i' x q4 hx2
                        have := hM.own_apart h2 h3 h2' h3' h4 h4'
                        subst this
                        have := hB.inj i i' r ho q4 h1 h1'
                        subst this
                        exact hna hji
                      · rw [hK2 j hj' (fun i hi => hA ⟨i, hi⟩)] at hx'
                        exact hx'.2 r hr h4
                  · obtain ⟨q, q1, q2, q3, q4⟩ := alias_get hali hji
                    rcases hB.get i _ q2 with ⟨_, r, R, hrq, g3, g4, g5, g6⟩ | ⟨hb, _⟩
                    rotate_left
                    · rw [show own[i]? = some true from q4] at hb; cases hb
                    cases hrq
                    have hcj : cs[j]? = some (.s R.t R.l) := by
                      rcases hB.get j _ q1 with ⟨ho, _⟩ | ⟨_, d, g1, g2⟩
                      · rw [show own[j]? = some true from ho] at q3; cases q3
                      · have hcq : st.cvOf (.sl q []) = some (.s R.t R.l) := by simp [St.cvOf, St.node, g3, getP]
                        rw [hcq] at g1
                        cases g1
                        exact g2
                    rw [hcv]
                    refine ⟨q3, q4, ?_, by rw [hcj, g6], _, _, g6⟩
                    have hj1 : j < xs.length := by rw [hxl]; exact (List.getElem?_eq_some_iff.1 q1).1
                    have hi1 : i < xs.length := by rw [hxl]; exact (List.getElem?_eq_some_iff.1 q2).1
                    have e1 := (hxv j _ _ q1 (List.getElem?_eq_getElem hj1)).2 R g3
                    have e2 := (hxv i _ _ q2 (List.getElem?_eq_getElem hi1)).2 R g3
                    simp only [hdrAt, Option.some.injEq] at e1 e2
                    rw [List.getElem?_eq_getElem hj1, List.getElem?_eq_getElem hi1, ← e1, ← e2]
                  · intro ex w' he
                    cases ex with
                    | panicked chain => exact he.elim
                    | outgrown => exact he.elim
                    | returned v =>
                      obtain ⟨hos, htp, hout, hsz, hkeep, ys, Kr, hys, rfl, hKrx, hKrd, hinp⟩ := he
                      rw [hcvl] at hkeep hKrx
                      let E1 : Env := { E with ρ := fun n => if id ≤ n ∧ n < id + 32 then (ys[n - id]?).getD undef else E.ρ n, φ := fun n => if id ≤ n ∧ n < id + 32 then (fun x => n - id < (cvsOf rs).length ∧ Kr (n - id) x) else E.φ n }
                      have hE1 : ∀ n, U n → E1.ρ n = E.ρ n ∧ E1.φ n = E.φ n := by
                        intro n hn
                        have a1 : ¬ (id ≤ n ∧ n < id + 32) := fun h => hid n h hn
                        simp only [E1, if_neg a1, and_self]
                      have hEb : ∀ n, id ≤ n → n < id + 32 → E1.ρ n = (ys[n - id]?).getD undef ∧ E1.φ n = fun x => n - id < (cvsOf rs).length ∧ Kr (n - id) x := by
                        intro n h1 h2
                        simp only [E1, if_pos (show id ≤ n ∧ n < id + 32 from ⟨h1, h2⟩), and_self]
                      generalize hst1 : ({ st with ro := layAR true rs id ++ (killed st ks ++ st.ro), ep := st.ep + 1 } : St) = st1
                      have hst1ro : st1.ro = layAR true rs id ++ (killed st ks ++ st.ro) := by rw [← hst1]
                      have hst1lo : st1.lo = st.lo := by rw [← hst1]
                      have hst1ep : st1.ep = st.ep + 1 := by rw [← hst1]
                      have hβlt : ∀ l cs, aget st.lo l = some cs → E.β l < w.heap.size := by
                        intro l cs h
                        obtain ⟨_, vals, e, h2, _⟩ := hM.loc l cs h
                        exact (Array.getElem?_eq_some_iff.1 h2).1
                      have hBr : ∀ r R, aget (layAR true rs id) r = some R → id ≤ r ∧ r < id + 32 ∧ r - id < (cvsOf rs).length ∧ ∃ t l, (cvsOf rs)[r - id]? = some (.s t l) ∧ R = ⟨t, l, true, none⟩ := by
                        intro r R hr
                        obtain ⟨h1, t, l', h3, h4⟩ := layAR_get true rs id r R hr
                        have hlt := (List.getElem?_eq_some_iff.1 h3).1
                        exact ⟨h1, by omega, hlt, t, l', h3, h4⟩
                      have hro : ∀ r R, aget st1.ro r = some R → aget (layAR true rs id) r = some R ∨ (R.ep = some st.ep ∧ ∃ Q, aget st.ro r = some Q) ∨ (aget st.ro r = some R ∧ r ∉ ks) := by
                        intro r R hr
                        rw [hst1ro, aget_append] at hr
                        split at hr
                        · rename_i Q hQ; cases hr; exact .inl hQ
                        · rw [aget_append] at hr
                          split at hr
                          · rename_i Q hQ; cases hr; exact .inr (.inl (killed_get ks r _ hQ))
                          · rename_i hn; exact .inr (.inr ⟨hr, killed_none ks r R hn hr⟩)
                      have hroot2 : ∀ r R, st1.root r = some R → aget (layAR true rs id) r = some R ∨ (st.root r = some R ∧ R.ep = none ∧ r ∉ ks ∧ U r) := by
                        intro r R hr
                        obtain ⟨h1, h2⟩ := root_aget hr
                        rw [hst1ep] at h2
                        rcases hro r R h1 with h | ⟨h, _⟩ | ⟨h, hk⟩
                        · exact .inl h
                        · rcases h2 with h2 | h2
                          · rw [h] at h2; cases h2
                          · rw [h] at h2; simp at h2
                        · rcases h2 with h2 | h2
                          · exact .inr ⟨root_of h (.inl h2), h2, hk, hS.ids.ro r R h⟩
                          · have := hM.epo r R _ h h2
                            omega
                      have hfr : ∀ r R, st.root r = some R → R.ep = none → r ∉ ks → ∀ x, E.φ r x → w'.heap[x]? = w.heap[x]? := by
                        intro r R hR he hk x hx
                        refine hkeep x (hM.rlt r R hR x hx) (fun j hj ho hkx => ?_)
                        obtain ⟨q, hq, Q', _, h1, h2, h3⟩ := hKown j x ho hkx
                        exact hM.apart q Q' r R h1 h2 hR he (fun e => hk (by rw [← e]; exact hq)) x h3 hx
                      have hnewx : ∀ x, (x < w'.heap.size ∧ ((∃ i, i < cs.length ∧ isOwn own i ∧ K i x) ∨ w.heap.size ≤ x)) → (S0 x ∨ w0.heap.size ≤ x) ∧ ∀ r R, st.root r = some R → R.ep = none → r ∉ ks → ¬ E.φ r x := by
                        intro x ⟨h1, h3⟩
                        rcases h3 with ⟨i, hi, ho, hk⟩ | h3
                        · obtain ⟨q, hq, Q', _, g1, g2, g3⟩ := hKown i x ho hk
                          exact ⟨(hM.mine q Q' g1 g2).2 x g3, fun r R hR he hk' hx => hM.apart q Q' r R g1 g2 hR he (fun e => hk' (by rw [← e]; exact hq)) x g3 hx⟩
                        · exact ⟨.inr (Nat.le_trans hM.size h3), fun r R hR he hk' hx => by have := hM.rlt r R hR x hx; omega⟩
                      have hRrep : ∀ r R, aget (layAR true rs id) r = some R → Rep true w' (E1.ρ r) (.s R.t R.l) (E1.φ r) := by
                        intro r R hr
                        obtain ⟨h1, h2, h3, t, l', h5, rfl⟩ := hBr r R hr
                        have hv : r - id < ys.length := by rw [hys.1]; exact h3
                        have hu := List.getElem?_eq_getElem hv
                        rw [(hEb r h1 h2).1, (hEb r h1 h2).2, hu]
                        exact (hys.2 _ _ _ h5 hu).weak (fun x hx => ⟨h3, hx⟩)
                      have hfoot : ∀ r R, aget (layAR true rs id) r = some R → ∀ x, E1.φ r x → x < w'.heap.size ∧ ((∃ i, i < cs.length ∧ isOwn own i ∧ K i x) ∨ w.heap.size ≤ x) := by
                        intro r R hr x hx
                        obtain ⟨h1, h2, h3, _⟩ := hBr r R hr
                        rw [(hEb r h1 h2).2] at hx
                        exact hKrx _ x hx.1 hx.2
                      have hnew1 : ∀ r R, aget (layAR true rs id) r = some R → R.own = true ∧ R.ep = none := by
                        intro r R hr
                        obtain ⟨_, _, _, t, l', _, rfl⟩ := hBr r R hr
                        exact ⟨rfl, rfl⟩
                      have hT : Trans st E w st1 E1 w' U := by
                        refine ⟨fun r hU R1 hR1 => ?_, fun l' hU cs1 h1 => ⟨⟨cs1, by rw [hst1lo] at h1; exact h1⟩, rfl⟩, rfl⟩
                        rcases hroot2 r R1 hR1 with h | ⟨h1, h2, h3, h4⟩
                        · obtain ⟨g1, g2, _⟩ := hBr r R1 h
                          exact absurd hU (hid r ⟨g1, g2⟩)
                        · refine ⟨R1, h1, rfl, fun p u hp => ?_⟩
                          rw [(hE1 r hU).1, hdrAt_frame p (hM.rep r R1 h1) (hfr r R1 h1 h2 h3)]
                          exact hp
                      have hMem : Mem w0 S0 st1 E1 w' := by
                        refine ⟨hos.trans hM.os, htp.trans hM.tape, hout.trans hM.output, Nat.le_trans hM.size hsz, fun b hb hnS => ?_, fun r R hR => ?_, fun r R hR x hx => ?_, fun r R hR ho => ?_, fun r R r' R' hR ho hR' he hne x hx => ?_, fun l' cs1 hl' => ?_, fun l1 l2 c1 c2 h1 h2 => ?_, fun l' cs1 r R hl' hR => ?_, fun r R ee hR he => ?_, hM.κ⟩
                        · refine (hkeep b (Nat.lt_of_lt_of_le hb hM.size) (fun j hj ho hk => ?_)).trans (hM.keep b hb hnS)
                          obtain ⟨q, hq, Q', _, g1, g2, g3⟩ := hKown j b ho hk
                          rcases (hM.mine q Q' g1 g2).2 b g3 with h | h
                          · exact hnS h
                          · omega
                        · rcases hroot2 r R hR with h | ⟨h1, h2, h3, h4⟩
                          · have := hRrep r R h
                            rw [(hnew1 r R h).1]; exact this
                          · rw [(hE1 r h4).1, (hE1 r h4).2]
                            exact (hM.rep r R h1).frame (hfr r R h1 h2 h3)
                        · rcases hroot2 r R hR with h | ⟨h1, h2, h3, h4⟩
                          · exact (hfoot r R h x hx).1
                          · rw [(hE1 r h4).2] at hx
                            exact Nat.lt_of_lt_of_le (hM.rlt r R h1 x hx) hsz
                        · rcases hroot2 r R hR with h | ⟨h1, h2, h3, h4⟩
                          · exact ⟨(hnew1 r R h).2, fun x hx => (hnewx x (hfoot r R h x hx)).1⟩
                          · rw [(hE1 r h4).2]
                            exact hM.mine r R h1 ho
                        · rcases hroot2 r R hR with h | ⟨h1, h2, h3, h4⟩
                          · rcases hroot2 r' R' hR' with h' | ⟨h1', h2', h3', h4'⟩
                            · intro hx'
                              obtain ⟨g1, g2, g3, _⟩ := hBr r R h
                              obtain ⟨g1', g2', g3', _⟩ := hBr r' R' h'
                              rw [(hEb r g1 g2).2] at hx
                              rw [(hEb r' g1' g2').2] at hx'
                              exact hKrd _ _ x g3 g3' (by omega) hx.2 hx'.2
                            · rw [(hE1 r' h4').2]
                              exact (hnewx x (hfoot r R h x hx)).2 r' R' h1' h2' h3'
                          · rw [(hE1 r h4).2] at hx
                            rcases hroot2 r' R' hR' with h' | ⟨h1', h2', h3', h4'⟩
                            · intro hx'
                              exact (hnewx x (hfoot r' R' h' x hx')).2 r R h1 h2 h3 hx
                            · rw [(hE1 r' h4').2]
                              exact hM.apart r R r' R' h1 ho h1' h2' hne x hx
                        · rw [hst1lo] at hl'
                          obtain ⟨g1, vals1, e1, g2, g3, g4⟩ := hM.loc l' cs1 hl'
                          refine ⟨g1, vals1, e1, (hkeep _ (hβlt l' cs1 hl') (fun j hj ho hk => ?_)).trans g2, g3, fun j b u hb hu => ⟨(g4 j b u hb hu).1, VA.tr hT (fun n hn => (hS.ids.lo l' cs1 hl').2 b (List.mem_of_getElem? hb) n hn) (g4 j b u hb hu).2⟩⟩
                          obtain ⟨q, hq, Q', _, h1, h2, h3⟩ := hKown j _ ho hk
                          exact hM.lro l' cs1 q Q' hl' h1 h3
                        · rw [hst1lo] at h1 h2
                          exact hM.linj l1 l2 c1 c2 h1 h2
                        · rw [hst1lo] at hl'
                          rcases hroot2 r R hR with h | ⟨h1, h2, h3, h4⟩
                          · intro hx
                            obtain ⟨_, g3⟩ := hfoot r R h _ hx
                            rcases g3 with ⟨i, hi, ho, hk⟩ | g3
                            · obtain ⟨q, hq, Q', _, q1, q2, q3⟩ := hKown i _ ho hk
                              exact hM.lro l' cs1 q Q' hl' q1 q3
                            · have := hβlt l' cs1 hl'
                              have e : E1.β l' = E.β l' := rfl
                              omega
                          · rw [(hE1 r h4).2]
                            exact hM.lro l' cs1 r R hl' h1
                        · rw [hst1ep]
                          rcases hro r R hR with h | ⟨h, _⟩ | ⟨h, _⟩
                          · rw [(hnew1 r R h).2] at he; cases he
                          · rw [h] at he; cases he; omega
                          · have := hM.epo r R ee h he; omega
                      obtain ⟨g1, g2⟩ := layAV_vt (w := w') (st := st1) (E := E1) rs ys id hys.1 (fun i c u hc hu => by
                        have hrep := hys.2 i c u hc hu
                        refine ⟨?_, hrep.one⟩
                        have hlt : i < (cvsOf rs).length := (List.getElem?_eq_some_iff.1 hc).1
                        cases c with
                        | i k n => exact hrep.int_inv
                        | b x => exact hrep.bool_inv
                        | s t l' =>
                          obtain ⟨⟨a, cap, hv, _⟩, _⟩ := hrep.len
                          refine ⟨⟨a, _, cap, hv⟩, fun R hR => ?_⟩
                          have e : id + i - id = i := by omega
                          have := (hEb (id + i) (by omega) (by omega)).1
                          rw [e, hu] at this
                          simp only [hdrAt, this, Option.getD_some])
                      have hro1 : ∀ n R, aget st1.ro n = some R → U n ∨ Mine id n := fun n R h => by
                        rcases hro n R h with h | ⟨_, Q, h⟩ | ⟨h, _⟩
                        · obtain ⟨h1, h2, _⟩ := hBr n R h; exact .inr ⟨h1, h2⟩
                        · exact .inl (hS.ids.ro n Q h)
                        · exact .inl (hS.ids.ro n R h)
                      have hvi : ∀ n ∈ (mvOf (layAV rs id)).ids, U n ∨ Mine id n := fun n hn => by
                        simp only [MV.ids, List.mem_flatMap] at hn
                        obtain ⟨a, ha, hn⟩ := hn
                        obtain ⟨x, hx, ha⟩ := mvAts_of ha
                        have := layAV_ids rs id n x a hx ha hn
                        exact .inr ⟨by omega, by omega⟩
                      cases x with
                      | none =>
                        have hnx := Sim.next (U1 := fun n => U n ∨ Mine id n) hS hMem hT (by rw [← hst1]) (by rw [← hst1]) (fun n h => .inl h) hro1
                          (fun n cs1 hn => by
                            rw [hst1lo] at hn
                            exact ⟨.inl (hS.ids.lo n cs1 hn).1, fun a ha m hm => .inl ((hS.ids.lo n cs1 hn).2 a ha m hm)⟩)
                          (dst := o.dst) (mvOf_vm g1 g2) hvi
                        subst hst1
                        exact hnext _ _ _ hnx
                      | some y =>
                        obtain ⟨q, n, js⟩ := y
                        unfold renOf at hren
                        split at hren
                        · cases hren
                        · rename_i ja jr js'
                          split at hren
                          · rename_i q' hoj haj
                            simp only [Option.some.injEq, Prod.mk.injEq] at hren
                            obtain ⟨rfl, rfl, rfl⟩ := hren
                            rcases hB.get ja _ haj with ⟨_, r, R, h2, hR, hRo, hrk, hcs⟩ | ⟨h1, _⟩
                            rotate_left
                            · rw [hoj] at h1; cases h1
                            cases h2
                            have hja : ja < xs.length := by rw [hxl]; exact (List.getElem?_eq_some_iff.1 haj).1
                            have hu := List.getElem?_eq_getElem hja
                            obtain ⟨l', hl1, hl2, hl3⟩ := hinp ja jr js' rfl R.t R.l _ (by rw [hcv]; exact hcs) hu
                            have hjr : jr < (cvsOf rs).length := (List.getElem?_eq_some_iff.1 hl1).1
                            have hva := (hxv ja _ _ haj hu).2 R hR
                            simp only [hdrAt, Option.some.injEq] at hva
                            have hsim := ren_sim (U1 := fun n => U n ∨ Mine id n) (q := q') (n := id + jr) (js := js') hS hMem hT (by rw [← hst1]) (by rw [← hst1]) hst1lo (fun n h => .inl h) hro1
                              (fun l cs1 hl => hkeep _ (hβlt l cs1 hl) (fun j hj ho hk => by
                                obtain ⟨q2, hq2, Q', _, h1, h2, h3⟩ := hKown j _ ho hk
                                exact hM.lro l cs1 q2 Q' hl h1 h3)) (.inr ⟨by omega, by omega⟩) (fun R1 hR1 => by
                                rcases hroot2 _ R1 hR1 with h | ⟨_, _, _, h4⟩
                                · obtain ⟨_, _, _, t2, l2, h5, rfl⟩ := hBr _ R1 h
                                  have e : id + jr - id = jr := by omega
                                  rw [e, hl1] at h5
                                  cases h5
                                  refine ⟨R, hR, rfl, ?_, ?_⟩
                                  · rw [(hEb (id + jr) (by omega) (by omega)).1, e, hl2, hva]
                                    rfl
                                  · rw [hva]
                                    exact hl3
                                · exact absurd h4 (hid _ ⟨by omega, by omega⟩))
                            have hI : Trans st1 E1 w' (st1.ren (some (q', id + jr, js'))) E1 w' (fun _ => True) :=
                              ⟨fun r _ R1 h1 => ⟨R1, h1, rfl, fun _ _ h => h⟩, fun l _ cs1 h1 => ⟨by
                                simp only [St.ren] at h1
                                rw [aget_map] at h1
                                cases hl : aget st1.lo l with
                                | none => rw [hl] at h1; cases h1
                                | some c => exact ⟨c, rfl⟩, rfl⟩, rfl⟩
                            have hput := hsim.putV (dst := o.dst) (VM.tr hI (fun _ _ => trivial) (mvOf_vm g1 g2)) hvi
                            subst hst1
                            exact hnext _ _ _ hput
                          · cases hren
                · cases h
              · cases h
          · cases h
        · cases h
      · cases h
    · cases h
  · cases h

theorem graft_ok (hC : CfgOk C) (hH : MctOk C) (hP : PctOk C) (hT : TctOk C) : GraftOk C := ⟨graft_ok1 hC, mcall_ok hH, pcall_ok hP, tcall_ok hT⟩

end
end Go.Proofs.Ytcfnaifggdelnaa.E
