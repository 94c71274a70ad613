/- What is proved here: the contract of a function that is handed a local variable, from what the evaluator says of it. -/
import Derived.Test.YtcfnaifggdelnaaS30
namespace Go.Proofs.Ytcfnaifggdelnaa.E
open Go

/-- What a local variable's cells hold at the end: slices of our own; those that were kept are the same. -/
def St.blkEnd (st : St) : List Bool → List At → List MV → Option (List CV × List Nat)
  | [], [], [] => some ([], [])
  | own :: ms, a :: r, h :: hs =>
    match St.blkEnd st ms r hs with
    | none => none
    | some (cs, ks) =>
      match a with
      | .i k n => some (.i k n :: cs, ks)
      | .b x => some (.b x :: cs, ks)
      | .sl q [] =>
        match st.root q with
        | some R =>
          match own with
          | true => if R.own && !ks.contains q then some (.s R.t R.l :: cs, q :: ks) else none
          | false =>
            match h with
            | .v (.at (.sl q' [])) => if q == q' then some (.s R.t R.l :: cs, ks) else none
            | _ => none
        | none => none
      | _ => none
  | _, _, _ => none

def blkRoots : List Bool → List CV → Nat → List (Nat × Root)
  | own :: ms, .s t l :: cs, id => (id, ⟨t, l, own, none⟩) :: blkRoots ms cs (id + 1)
  | _ :: ms, _ :: cs, id => blkRoots ms cs (id + 1)
  | _, _, _ => []

def evalPst (own : List Bool) (cs : List CV) (args : List AV) : St :=
  { tm := .v (.at (.lp 0 0)) :: (layC cs 0).map fun a => .v (.at a), lo := [(0, layC cs 0)], ro := blkRoots own cs 0 ++ layAR false args cs.length, stk := [], nid := cs.length + (args.flatMap AV.cvs).length + 1, ep := 0 }

/-- A function that is handed a local variable, over plain data: the cells, then the results. -/
def evalP (C : Cfg) (tms : FuncId → Nat → Option Tmpl) (N D : Nat) (f : FuncId) (own : List Bool) (cs : List CV) (args : List AV) : Option Ans :=
  denFn C tms N (callIn C tms N D) f (.v (.at (.lp 0 0)) :: (layAV args cs.length).map .v) (evalPst own cs args) fun rs st =>
    match st.tm with
    | .v (.at (.lp l 0)) :: hs =>
      match aget st.lo l with
      | some cells =>
        match st.blkEnd own cells hs with
        | some (cs', ks) =>
          match ansOf st rs ks with
          | some ans => some (.agg cs' :: ans)
          | none => none
        | none => none
      | none => none
    | _ => none

section
variable {C : Cfg} {w0 w w1 : World} {S0 : BSet} {U : Nat → Prop} {st st1 : St} {E E1 : Env} {ts : Array Value} {sv : List (Array Value)}

structure BlkEnd (st : St) (own : List Bool) (cells : List At) (hs : List MV) (cs : List CV) (ks : List Nat) : Prop where
  len : cs.length = cells.length
  hlen : hs.length = cells.length
  ownk : ∀ r ∈ ks, ∃ j, isOwn own j ∧ cells[j]? = some (.sl r [])
  get : ∀ (j : Nat) (a : At), cells[j]? = some a → (∃ k n, a = .i k n ∧ cs[j]? = some (.i k n)) ∨ (∃ x, a = .b x ∧ cs[j]? = some (.b x)) ∨
    ∃ r R, a = .sl r [] ∧ st.root r = some R ∧ cs[j]? = some (.s R.t R.l) ∧ ((isOwn own j ∧ R.own = true ∧ r ∈ ks) ∨ (¬ isOwn own j ∧ hs[j]? = some (.v (.at (.sl r [])))))
  inj : ∀ (i j r : Nat), isOwn own i → isOwn own j → cells[i]? = some (.sl r []) → cells[j]? = some (.sl r []) → i = j

theorem blkEnd_ok : ∀ (own : List Bool) (cells : List At) (hs : List MV) (cs : List CV) (ks : List Nat), st.blkEnd own cells hs = some (cs, ks) → BlkEnd st own cells hs cs ks
  | [], [], [], cs, ks, h => by
    cases h
    exact ⟨rfl, rfl, fun r h => by simp at h, fun j a h => by simp at h, fun i j r h => by simp [isOwn] at h⟩
  | o :: ms, a :: r, hd :: hs, cs, ks, h => by
    simp only [St.blkEnd] at h
    split at h
    · cases h
    · rename_i cs0 ks0 h0
      have ih := blkEnd_ok ms r hs cs0 ks0 h0
      have tail : ∀ (ks1 : List Nat) (c : CV), (∀ x ∈ ks0, x ∈ ks1) → ∀ (j : Nat) (b : At), r[j]? = some b → (∃ k n, b = .i k n ∧ (c :: cs0)[j + 1]? = some (.i k n)) ∨ (∃ x, b = .b x ∧ (c :: cs0)[j + 1]? = some (.b x)) ∨
          ∃ q R, b = .sl q [] ∧ st.root q = some R ∧ (c :: cs0)[j + 1]? = some (.s R.t R.l) ∧ ((isOwn (o :: ms) (j + 1) ∧ R.own = true ∧ q ∈ ks1) ∨ (¬ isOwn (o :: ms) (j + 1) ∧ (hd :: hs)[j + 1]? = some (.v (.at (.sl q []))))) := by
        intro ks1 c hks j b hb
        rcases ih.get j b hb with h | h | ⟨q, R, g1, g2, g3, g4⟩
        · exact .inl (by simpa using h)
        · exact .inr (.inl (by simpa using h))
        · refine .inr (.inr ⟨q, R, g1, g2, by simpa using g3, ?_⟩)
          rcases g4 with ⟨h1, h2, h3⟩ | ⟨h1, h2⟩
          · exact .inl ⟨by simpa [isOwn] using h1, h2, hks q h3⟩
          · exact .inr ⟨by simpa [isOwn] using h1, by simpa using h2⟩
      have flat : ∀ (c : CV), (∀ q, a ≠ .sl q []) → ((∃ k n, a = .i k n ∧ c = .i k n) ∨ (∃ x, a = .b x ∧ c = .b x)) → BlkEnd st (o :: ms) (a :: r) (hd :: hs) (c :: cs0) ks0 := by
        intro c hne hc
        refine ⟨by simp [ih.len], by simp [ih.hlen], fun q hq => ?_, fun j b hb => ?_, fun i j q hi hj h1 h2 => ?_⟩
        · obtain ⟨j, h1, h2⟩ := ih.ownk q hq
          exact ⟨j + 1, by simpa [isOwn] using h1, by simpa using h2⟩
        · cases j with
          | zero =>
            simp only [List.getElem?_cons_zero, Option.some.injEq] at hb
            subst hb
            rcases hc with ⟨k, n, h1, h2⟩ | ⟨x, h1, h2⟩
            · exact .inl ⟨k, n, h1, by simp [h2]⟩
            · exact .inr (.inl ⟨x, h1, by simp [h2]⟩)
          | succ j => exact tail ks0 c (fun _ h => h) j b (by simpa using hb)
        · cases i with
          | zero => simp only [List.getElem?_cons_zero, Option.some.injEq] at h1; exact absurd h1 (hne q)
          | succ i =>
            cases j with
            | zero => simp only [List.getElem?_cons_zero, Option.some.injEq] at h2; exact absurd h2 (hne q)
            | succ j =>
              have := ih.inj i j q (by simpa [isOwn] using hi) (by simpa [isOwn] using hj) (by simpa using h1) (by simpa using h2)
              omega
      split at h
      · rename_i k n
        cases h
        exact flat _ (fun q h => by cases h) (.inl ⟨k, n, rfl, rfl⟩)
      · rename_i x
        cases h
        exact flat _ (fun q h => by cases h) (.inr ⟨x, rfl, rfl⟩)
      · rename_i q
        split at h
        · rename_i R hR
          split at h
          · split at h
            · rename_i hcond
              simp only [Bool.and_eq_true, Bool.not_eq_true', List.contains_eq_mem, decide_eq_false_iff_not] at hcond
              obtain ⟨hown, hnk⟩ := hcond
              cases h
              refine ⟨by simp [ih.len], by simp [ih.hlen], fun x hx => ?_, fun j b hb => ?_, fun i j x hi hj h1 h2 => ?_⟩
              · rcases List.mem_cons.1 hx with rfl | hx
                · exact ⟨0, rfl, rfl⟩
                · obtain ⟨j, h1, h2⟩ := ih.ownk x hx
                  exact ⟨j + 1, by simpa [isOwn] using h1, by simpa using h2⟩
              · cases j with
                | zero =>
                  simp only [List.getElem?_cons_zero, Option.some.injEq] at hb
                  subst hb
                  exact .inr (.inr ⟨q, R, rfl, hR, by simp, .inl ⟨rfl, hown, List.mem_cons_self⟩⟩)
                | succ j => exact tail _ _ (fun x hx => List.mem_cons_of_mem _ hx) j b (by simpa using hb)
              · have old : ∀ (i : Nat), isOwn ms i → r[i]? = some (.sl q []) → False := by
                  intro i hi hq
                  rcases ih.get i _ hq with ⟨_, _, h, _⟩ | ⟨_, h, _⟩ | ⟨r', R', g1, g2, g3, g4⟩
                  · cases h
                  · cases h
                  · cases g1
                    rcases g4 with ⟨_, _, h⟩ | ⟨h, _⟩
                    · exact hnk h
                    · exact h hi
                cases i with
                | zero =>
                  cases j with
                  | zero => rfl
                  | succ j =>
                    simp only [List.getElem?_cons_zero, Option.some.injEq, At.sl.injEq, and_true] at h1
                    subst h1
                    exact (old j (by simpa [isOwn] using hj) (by simpa using h2)).elim
                | succ i =>
                  cases j with
                  | zero =>
                    simp only [List.getElem?_cons_zero, Option.some.injEq, At.sl.injEq, and_true] at h2
                    subst h2
                    exact (old i (by simpa [isOwn] using hi) (by simpa using h1)).elim
                  | succ j =>
                    have := ih.inj i j x (by simpa [isOwn] using hi) (by simpa [isOwn] using hj) (by simpa using h1) (by simpa using h2)
                    omega
            · cases h
          · split at h
            · rename_i q'
              split at h
              · rename_i he
                simp only [beq_iff_eq] at he
                subst he
                cases h
                refine ⟨by simp [ih.len], by simp [ih.hlen], fun x hx => ?_, fun j b hb => ?_, fun i j x hi hj h1 h2 => ?_⟩
                · obtain ⟨j, h1, h2⟩ := ih.ownk x hx
                  exact ⟨j + 1, by simpa [isOwn] using h1, by simpa using h2⟩
                · cases j with
                  | zero =>
                    simp only [List.getElem?_cons_zero, Option.some.injEq] at hb
                    subst hb
                    exact .inr (.inr ⟨q, R, rfl, hR, by simp, .inr ⟨by simp [isOwn], rfl⟩⟩)
                  | succ j => exact tail _ _ (fun x hx => hx) j b (by simpa using hb)
                · cases i with
                  | zero => simp [isOwn] at hi
                  | succ i =>
                    cases j with
                    | zero => simp [isOwn] at hj
                    | succ j =>
                      have := ih.inj i j x (by simpa [isOwn] using hi) (by simpa [isOwn] using hj) (by simpa using h1) (by simpa using h2)
                      omega
              · cases h
            · cases h
        · cases h
      · cases h
  | [], _ :: _, _, _, _, h => by simp [St.blkEnd] at h
  | [], [], _ :: _, _, _, h => by simp [St.blkEnd] at h
  | _ :: _, [], _, _, _, h => by simp [St.blkEnd] at h
  | _ :: _, _ :: _, [], _, _, h => by simp [St.blkEnd] at h

theorem arr0 (a : Value) (vs : Array Value) : (#[a] ++ vs)[0]? = some a := by
  rw [Array.getElem?_append_left (by simp)]
  rfl
theorem arrS (a : Value) (vs : Array Value) (i : Nat) : (#[a] ++ vs)[i + 1]? = vs[i]? := by
  rw [Array.getElem?_append_right (by simp)]
  simp

theorem blkRoots_get : ∀ (own : List Bool) (cs : List CV) (id n : Nat) (R : Root), aget (blkRoots own cs id) n = some R → id ≤ n ∧ ∃ t l, cs[n - id]? = some (.s t l) ∧ R.t = t ∧ HEq R.l l ∧ own[n - id]? = some R.own ∧ R = ⟨t, l, R.own, none⟩
  | [], _, _, _, _, h => by cases h
  | o :: ms, [], _, _, _, h => by cases h
  | o :: ms, c :: cs, id, n, R, h => by
    have hr : aget (blkRoots ms cs (id + 1)) n = some R → id ≤ n ∧ ∃ t l, (c :: cs)[n - id]? = some (.s t l) ∧ R.t = t ∧ HEq R.l l ∧ (o :: ms)[n - id]? = some R.own ∧ R = ⟨t, l, R.own, none⟩ := fun h => by
      obtain ⟨h1, t, l, h2, h3, h4, h5, h6⟩ := blkRoots_get ms cs (id + 1) n R h
      have e : n - id = (n - (id + 1)) + 1 := by omega
      exact ⟨by omega, t, l, by rw [e, List.getElem?_cons_succ]; exact h2, h3, h4, by rw [e, List.getElem?_cons_succ]; exact h5, h6⟩
    cases c with
    | i k x => exact hr h
    | b x => exact hr h
    | s t l =>
      simp only [blkRoots, aget] at h
      split at h
      · rename_i he
        simp only [beq_iff_eq] at he
        subst he
        cases h
        exact ⟨Nat.le_refl _, t, l, by simp, rfl, HEq.rfl, by simp, rfl⟩
      · exact hr h

/-- **The contract of a function that is handed a local variable**, from what the evaluator says of it. -/
theorem holdsP_of_eval (hO : EngOk C) {f : FuncId} {own : List Bool} {run : List CV → List AV → Option (Bool × List CV × List AV)} (hf : FnOk C.P f)
    (h : ∀ (cs : List CV) (avs : List AV) (cs' : List CV) (rs : List AV), own.length = cs.length → (∃ (w : World) (xs : Nat → Value) (K : Nat → BSet), ∀ (j : Nat) (c : CV), (cs ++ cvsOf avs)[j]? = some c → Rep false w (xs j) c (K j)) → run cs avs = some (true, cs', rs) → cs'.length = cs.length ∧ ∃ tms N D, evalP C tms N D f own cs avs = some (.agg cs' :: rs)) : HoldsP C.P f own run := by
  refine ⟨hf, fun w blk vals e cs K avs xs Ka cs' rs hb hvs hol hcell hKlt hKd hxs hKa hrun => ?_⟩
  obtain ⟨hcl, tms, N, D, hev⟩ := h cs avs cs' rs hol ⟨w, fun j => if j < cs.length then (vals[j]?).getD undef else (xs[j - cs.length]?).getD undef, fun j => if j < cs.length then K j else Ka, fun j c hc => by
    by_cases hj : j < cs.length
    · rw [List.getElem?_append_left hj] at hc
      have hu := Array.getElem?_eq_getElem (show j < vals.size by omega)
      simp only [if_pos hj, hu, Option.getD_some]
      exact (hcell j c _ hc hu).ro
    · rw [List.getElem?_append_right (by omega)] at hc
      have hlt := (List.getElem?_eq_some_iff.1 hc).1
      have hu := List.getElem?_eq_getElem (show j - cs.length < xs.length by rw [hxs.1]; exact hlt)
      simp only [if_neg hj, hu, Option.getD_some]
      exact hxs.2 _ c _ hc hu⟩ hrun
  unfold evalP at hev
  have hblt : blk < w.heap.size := (Array.getElem?_eq_some_iff.1 hb).1
  generalize hst : evalPst own cs avs = st at hev
  have hro : st.ro = blkRoots own cs 0 ++ layAR false avs cs.length := by rw [← hst]; rfl
  have hloe : st.lo = [(0, layC cs 0)] := by rw [← hst]; rfl
  have hstk : st.stk = [] := by rw [← hst]; rfl
  have hnid : st.nid = cs.length + (cvsOf avs).length + 1 := by rw [← hst]; rfl
  have htme : st.tm = .v (.at (.lp 0 0)) :: (layC cs 0).map fun a => .v (.at a) := by rw [← hst]; rfl
  have hroot0 : ∀ r R, aget st.ro r = some R → R.ep = none ∧ ((r < cs.length ∧ own[r]? = some R.own ∧ cs[r]? = some (.s R.t R.l)) ∨ (cs.length ≤ r ∧ r < cs.length + (cvsOf avs).length ∧ R.own = false ∧ (cvsOf avs)[r - cs.length]? = some (.s R.t R.l))) := by
    intro r R hR
    rw [hro, aget_append] at hR
    split at hR
    · rename_i Q hQ
      cases hR
      obtain ⟨_, t, l, h2, _, _, h5, h6⟩ := blkRoots_get own cs 0 r R hQ
      rw [h6] at h5 ⊢
      simp only [Nat.sub_zero] at h2 h5
      exact ⟨rfl, .inl ⟨(List.getElem?_eq_some_iff.1 h2).1, h5, h2⟩⟩
    · obtain ⟨h1, t, l, h2, rfl⟩ := layAR_get false avs cs.length r R hR
      have := (List.getElem?_eq_some_iff.1 h2).1
      exact ⟨rfl, .inr ⟨h1, by omega, rfl, h2⟩⟩
  have hroot : ∀ r R, st.root r = some R → (r < cs.length ∧ own[r]? = some R.own ∧ cs[r]? = some (.s R.t R.l)) ∨ (cs.length ≤ r ∧ R.own = false ∧ (cvsOf avs)[r - cs.length]? = some (.s R.t R.l)) := by
    intro r R hR
    rcases (hroot0 r R (root_aget hR).1).2 with h | ⟨h1, _, h2, h3⟩
    · exact .inl h
    · exact .inr ⟨h1, h2, h3⟩
  let E : Env := { ρ := fun n => if n < cs.length then (vals[n]?).getD undef else (xs[n - cs.length]?).getD undef, φ := fun n => if n < cs.length then K n else Ka, β := fun _ => blk, κ := w }
  have hE1 : ∀ n, n < cs.length → E.ρ n = (vals[n]?).getD undef ∧ E.φ n = K n := fun n hn => by simp only [E, if_pos hn, and_self]
  have hE2 : ∀ n, cs.length ≤ n → E.ρ n = (xs[n - cs.length]?).getD undef ∧ E.φ n = Ka := fun n hn => by simp only [E, if_neg (show ¬ n < cs.length by omega), and_self]
  have hva : ∀ (j : Nat) (a : At) (u : Value), (layC cs 0)[j]? = some a → vals[j]? = some u → u.oneCell' = true ∧ VA w st E a u := by
    intro j a u ha hu
    rw [layC_get, Nat.zero_add] at ha
    cases hc : cs[j]? with
    | none => rw [hc] at ha; cases ha
    | some c =>
      rw [hc] at ha
      cases ha
      have hr := hcell j c u hc hu
      have hj : j < cs.length := (List.getElem?_eq_some_iff.1 hc).1
      refine ⟨hr.one, ?_⟩
      cases c with
      | i k n => exact hr.int_inv
      | b x => exact hr.bool_inv
      | s t l =>
        obtain ⟨⟨a, cap, hv, _⟩, _⟩ := hr.len
        refine ⟨⟨a, _, cap, hv⟩, fun R _ => ?_⟩
        rw [(hE1 j hj).1, hu]
        rfl
  have hlo : ∀ l cells, aget st.lo l = some cells → l = 0 ∧ cells = layC cs 0 := by
    intro l cells h
    rw [hloe] at h
    simp only [aget] at h
    split at h
    · rename_i he; simp only [beq_iff_eq] at he; cases h; exact ⟨he.symm, rfl⟩
    · cases h
  have hp : VA w st E (.lp 0 0) (.pointer (some ⟨blk, 0, none⟩)) := ⟨⟨_, rfl⟩, fun _ _ => rfl⟩
  have hids : ∀ a ∈ layC cs 0, ∀ m ∈ a.ids, m < cs.length := by
    intro a ha m hm
    obtain ⟨j, hj⟩ := List.mem_iff_getElem?.1 ha
    rw [layC_get, Nat.zero_add] at hj
    cases hc : cs[j]? with
    | none => rw [hc] at hj; cases hj
    | some c =>
      rw [hc] at hj
      cases hj
      have := layOne_ids hm
      have := (List.getElem?_eq_some_iff.1 hc).1
      omega
  let S0 : BSet := fun b => b = blk ∨ ∃ j, j < cs.length ∧ isOwn own j ∧ K j b
  have hS : Sim w S0 (fun n => n < st.nid) st E (#[.pointer (some ⟨blk, 0, none⟩)] ++ vals) [] w := by
    refine ⟨⟨rfl, rfl, rfl, Nat.le_refl _, fun _ _ _ => rfl, fun r R hR => ?_, fun r R hR x hx => ?_, fun r R hR ho => ?_, fun r R r' R' hR ho hR' he hne x hx => ?_, fun l cells hl => ?_, fun l l' c1 c2 h1 h2 _ => ?_, fun l cells r R hl hR => ?_, fun r R e hR he => ?_, rfl⟩, ⟨fun n R hn => ?_, fun n cells hn => ?_, fun m hm n hn => ?_, fun f hf => ?_⟩, ⟨?_, fun i m v hm hv => ?_⟩, ?_⟩
    · rcases hroot r R hR with ⟨h1, h2, h3⟩ | ⟨h1, h2, h3⟩
      · have hu := Array.getElem?_eq_getElem (show r < vals.size by omega)
        rw [(hE1 r h1).1, (hE1 r h1).2, hu]
        have := hcell r _ _ h3 hu
        rw [h2] at this
        exact this
      · have hlt := (List.getElem?_eq_some_iff.1 h3).1
        have hu := List.getElem?_eq_getElem (show r - cs.length < xs.length by rw [hxs.1]; exact hlt)
        rw [(hE2 r h1).1, (hE2 r h1).2, hu, h2]
        exact hxs.2 _ _ _ h3 hu
    · rcases hroot r R hR with ⟨h1, h2, h3⟩ | ⟨h1, h2, h3⟩
      · rw [(hE1 r h1).2] at hx; exact (hKlt r x h1 hx).1
      · rw [(hE2 r h1).2] at hx; exact (hKa x hx).1
    · rcases hroot r R hR with ⟨h1, h2, h3⟩ | ⟨h1, h2, h3⟩
      · refine ⟨(hroot0 r R (root_aget hR).1).1, fun x hx => .inl (.inr ⟨r, h1, ?_, ?_⟩)⟩
        · show own[r]? = some true
          rw [h2, ho]
        · rw [(hE1 r h1).2] at hx; exact hx
      · rw [h2] at ho; cases ho
    · rcases hroot r R hR with ⟨h1, h2, h3⟩ | ⟨h1, h2, h3⟩
      · have hor : isOwn own r := by show own[r]? = some true; rw [h2, ho]
        rw [(hE1 r h1).2] at hx
        rcases hroot r' R' hR' with ⟨h1', h2', h3'⟩ | ⟨h1', h2', h3'⟩
        · rw [(hE1 r' h1').2]
          exact hKd r r' x h1 h1' hor hne hx
        · rw [(hE2 r' h1').2]
          exact fun hk => (hKa x hk).2.2 r h1 hor hx
      · rw [h2] at ho; cases ho
    · obtain ⟨rfl, rfl⟩ := hlo l cells hl
      exact ⟨.inl (.inl rfl), vals, e, hb, by rw [hvs, layC_len], fun j c u hc hu => hva j c u hc hu⟩
    · rw [(hlo l c1 h1).1, (hlo l' c2 h2).1]
    · intro hx
      rcases hroot r R hR with ⟨h1, h2, h3⟩ | ⟨h1, h2, h3⟩
      · rw [(hE1 r h1).2] at hx; exact (hKlt r _ h1 hx).2 rfl
      · rw [(hE2 r h1).2] at hx; exact (hKa _ hx).2.1 rfl
    · rw [(hroot0 r R hR).1] at he; cases he
    · rcases (hroot0 n R hn).2 with ⟨h1, _⟩ | ⟨_, h1, _⟩ <;> omega
    · obtain ⟨rfl, rfl⟩ := hlo n cells hn
      refine ⟨by omega, fun a ha m hm => ?_⟩
      have := hids a ha m hm
      omega
    · rw [htme] at hm
      rcases List.mem_cons.1 hm with rfl | hm
      · simp only [MV.ids, mvAts, tvAts, At.ids, atIds, atLids, List.nil_append, List.flatMap_cons, List.flatMap_nil, List.append_nil, List.mem_singleton] at hn
        omega
      · obtain ⟨a, ha, rfl⟩ := List.mem_map.1 hm
        simp only [MV.ids, mvAts, tvAts, List.flatMap_cons, List.flatMap_nil, List.append_nil] at hn
        have := hids a ha n hn
        omega
    · rw [hstk] at hf; simp at hf
    · rw [htme]; simp [layC_len, hvs]; omega
    · rw [htme] at hm
      cases i with
      | zero => rw [arr0] at hv; simp at hm hv; subst hm hv; exact hp
      | succ i =>
        simp only [List.getElem?_cons_succ, List.getElem?_map] at hm
        have hv' : vals[i]? = some v := by rw [arrS] at hv; exact hv
        cases ha : (layC cs 0)[i]? with
        | none => rw [ha] at hm; cases hm
        | some a => rw [ha] at hm; cases hm; exact (hva i a v ha hv').2
    · rw [hstk]; trivial
  obtain ⟨hl1, hl2⟩ := layAV_vt (w := w) (st := st) (E := E) avs xs cs.length hxs.1 (fun i c u hc hu => by
    have hr := hxs.2 i c u hc hu
    refine ⟨?_, hr.one⟩
    cases c with
    | i k n => exact hr.int_inv
    | b x => exact hr.bool_inv
    | s t l =>
      obtain ⟨⟨a, cap, hv, _⟩, _⟩ := hr.len
      refine ⟨⟨a, _, cap, hv⟩, fun R hR => ?_⟩
      have e : cs.length + i - cs.length = i := by omega
      rw [(hE2 _ (Nat.le_add_right _ _)).1, e, hu]; rfl)
  obtain ⟨_, hcalls⟩ := denFn_sound hO (callIn_sound hO (tms := tms) (N := N) D) f _ st _ _ hev w S0 _ E _ [] w (#[.pointer (some ⟨blk, 0, none⟩)] ++ (packV avs xs).toArray)
    (fun v w' => w'.os = w.os ∧ w'.tape = w.tape ∧ w'.output = w.output ∧ w.heap.size ≤ w'.heap.size ∧
          (∀ b, b < w.heap.size → b ≠ blk → (∀ j, j < cs.length → isOwn own j → ¬ K j b) → w'.heap[b]? = w.heap[b]?) ∧
          ∃ (vals' : Array Value) (e' : TypeId) (K' : Nat → BSet) (ys : List Value) (Kr : Nat → BSet), w'.heap[blk]? = some (.cells vals' e' (0, 0)) ∧ vals'.size = cs'.length ∧ cs'.length = cs.length ∧
            (∀ (j : Nat) (c : CV) (u : Value), cs'[j]? = some c → vals'[j]? = some u → match c with
              | .i k n => u = .int k n
              | .b x => u = .bool x
              | .s t l => (isOwn own j → Rep true w' u (.s t l) (K' j)) ∧ (¬ isOwn own j → vals[j]? = some u)) ∧
            AllRep true w' (cvsOf rs) ys Kr ∧ v = retV (packV rs ys) ∧
            (∀ j x, j < cs.length → K' j x → x < w'.heap.size ∧ x ≠ blk ∧ ((∃ i, i < cs.length ∧ isOwn own i ∧ K i x) ∨ w.heap.size ≤ x)) ∧
            (∀ i x, i < (cvsOf rs).length → Kr i x → x < w'.heap.size ∧ x ≠ blk ∧ ((∃ i, i < cs.length ∧ isOwn own i ∧ K i x) ∨ w.heap.size ≤ x)) ∧
            (∀ i j x, i < cs.length → j < cs.length → i ≠ j → K' i x → ¬ K' j x) ∧
            (∀ i j x, i < (cvsOf rs).length → j < (cvsOf rs).length → i ≠ j → Kr i x → ¬ Kr j x) ∧
            (∀ i j x, i < cs.length → j < (cvsOf rs).length → K' i x → ¬ Kr j x)) hS (fun n hn h => by omega)
    (by simp [hl1]) (fun i m v hm hv => by
      cases i with
      | zero => rw [arr0] at hv; simp at hm hv; subst hm hv; exact hp
      | succ i =>
        simp only [List.getElem?_cons_succ, List.getElem?_map] at hm
        have hv' : (packV avs xs)[i]? = some v := by rw [arrS] at hv; simpa using hv
        cases hx : (layAV avs cs.length)[i]? with
        | none => rw [hx] at hm; cases hm
        | some x => rw [hx] at hm; cases hm; exact hl2 i x v hx hv')
    (fun m hm n hn => by
      rcases List.mem_cons.1 hm with rfl | hm
      · simp only [MV.ids, mvAts, tvAts, At.ids, atIds, atLids, List.nil_append, List.flatMap_cons, List.flatMap_nil, List.append_nil, List.mem_singleton] at hn
        omega
      · obtain ⟨x, hx, rfl⟩ := List.mem_map.1 hm
        simp only [MV.ids, mvAts, List.mem_flatMap] at hn
        obtain ⟨a, ha, hn⟩ := hn
        have := (layAV_ids avs cs.length n x a hx ha hn).2
        omega)
    (fun U' st' E' w' tvs v hS' _ _ _ hv _ hans => by
      split at hans
      · rename_i l hs htm
        split at hans
        · rename_i cells hcells
          split at hans
          · rename_i cs1 ks hbe
            split at hans
            · rename_i ans hansof
              simp only [Option.some.injEq, List.cons.injEq, AV.agg.injEq] at hans
              obtain ⟨rfl, rfl⟩ := hans
              have hB := blkEnd_ok own cells hs _ ks hbe
              have hM := hS'.mem
              obtain ⟨hts, htv⟩ := hS'.tm
              have hlp := htv 0 (.v (.at (.lp l 0))) (.pointer (some ⟨blk, 0, none⟩)) (by rw [htm]; rfl) (arr0 _ _)
              have hβ : E'.β l = blk := by
                have := hlp.2 cells hcells
                simp only [Value.pointer.injEq, Option.some.injEq, Addr.mk.injEq, and_true] at this
                exact this.symm
              obtain ⟨us, rfl, hul, huv⟩ := vm_retV hv
              obtain ⟨ats, ys, kr, hG, hyl, hyv, rfl, hkr, _⟩ := ansOf_sound tvs ks _ us hansof hul huv
              obtain ⟨_, vals', e', hb', hsz', hcv⟩ := hM.loc l cells hcells
              rw [hβ] at hb'
              have hS0 : ∀ x, (S0 x ∨ w.heap.size ≤ x) → x ≠ blk → ((∃ i, i < cs.length ∧ isOwn own i ∧ K i x) ∨ w.heap.size ≤ x) := by
                intro x h hne
                rcases h with (h | h) | h
                · exact absurd h hne
                · exact .inl h
                · exact .inr h
              have hnb : ∀ r R x, st'.root r = some R → E'.φ r x → x ≠ blk := by
                intro r R x hR hx he
                subst he
                rw [← hβ] at hx
                exact hM.lro l cells r R hcells hR hx
              have hget : ∀ i, i < (cvsOf ans).length → ∃ a, ats[i]? = some a := fun i hi => ⟨_, List.getElem?_eq_getElem (by rw [← hG.len]; exact hi)⟩
              -- the blocks of the cells that are our own
              let K' : Nat → BSet := fun j x => isOwn own j ∧ cφ E' cells j x
              have hK' : ∀ j x, K' j x → ∃ r R, cells[j]? = some (.sl r []) ∧ isOwn own j ∧ st'.root r = some R ∧ R.own = true ∧ r ∈ ks ∧ E'.φ r x := by
                intro j x hx
                obtain ⟨ho, hx⟩ := hx
                obtain ⟨a, ha, hx⟩ := cφ_inv hx
                rcases hB.get j a ha with ⟨_, _, rfl, _⟩ | ⟨_, rfl, _⟩ | ⟨r, R, rfl, h1, h2, h3⟩
                · exact hx.elim
                · exact hx.elim
                · rcases h3 with ⟨_, h4, h5⟩ | ⟨h4, _⟩
                  · exact ⟨r, R, ha, ho, h1, h4, h5, hx⟩
                  · exact absurd ho h4
              have hKr : ∀ i x, cφ E' ats i x → ∃ r ∈ kr, ∃ R, ats[i]? = some (.sl r []) ∧ st'.root r = some R ∧ R.own = true ∧ E'.φ r x := by
                intro i x hx
                obtain ⟨a, ha, hx⟩ := cφ_inv hx
                obtain ⟨r, hr, rfl, hrx⟩ := hG.fi ha hx
                obtain ⟨R, hR, ho⟩ := hG.own r hr
                exact ⟨r, hr, R, ha, hR, ho, hrx⟩
              refine ⟨hM.os, hM.tape, hM.output, hM.size, fun b hb hne hnk => hM.keep b hb (fun h => ?_), vals', e', K', ys, cφ E' ats, hb', by rw [hsz', hB.len], hcl, fun j c u hc hu => ?_, ⟨by rw [hyl, hG.len], fun i c x hc hx => ?_⟩, rfl, fun j x hj hx => ?_, fun i x hi hx => ?_, fun i j x hi hj hne hx hx' => ?_, fun i j x hi hj hne hx hx' => ?_, fun i j x hi hj hx hx' => ?_⟩
              · rcases h with h | ⟨j, hj, ho, hk⟩
                · exact hne h
                · exact hnk j hj ho hk
              · have hj : j < cells.length := by rw [← hB.len]; exact (List.getElem?_eq_some_iff.1 hc).1
                have ha := List.getElem?_eq_getElem hj
                obtain ⟨_, hva'⟩ := hcv j _ u ha hu
                rcases hB.get j _ ha with ⟨k, n, h1, h2⟩ | ⟨y, h1, h2⟩ | ⟨r, R, h1, h2, h3, h4⟩
                · rw [hc] at h2; cases h2
                  rw [h1] at hva'
                  exact hva'
                · rw [hc] at h2; cases h2
                  rw [h1] at hva'
                  exact hva'
                · rw [hc] at h3; cases h3
                  rw [h1] at hva' ha
                  have hρ := hva'.2 R h2
                  simp only [hdrAt, Option.some.injEq] at hρ
                  refine ⟨fun ho => ?_, fun hno => ?_⟩
                  · rcases h4 with ⟨_, h5, _⟩ | ⟨h5, _⟩
                    · have hr := hM.rep r R h2
                      rw [h5, hρ] at hr
                      exact hr.weak (fun x hx => ⟨ho, by rw [cφ_some ha]; exact hx⟩)
                    · exact absurd ho h5
                  · rcases h4 with ⟨h5, _⟩ | ⟨_, h5⟩
                    · exact absurd h5 hno
                    · have hjc : j < cs.length := by rw [← hcl, hB.len]; exact hj
                      have hu0 := Array.getElem?_eq_getElem (show j < vals.size by omega)
                      have hsl := htv (j + 1) (.v (.at (.sl r []))) vals[j] (by rw [htm, List.getElem?_cons_succ]; exact h5) (by rw [arrS]; exact hu0)
                      have hρ' := hsl.2 R h2
                      simp only [hdrAt, Option.some.injEq] at hρ'
                      rw [hu0, ← hρ', hρ]
              · obtain ⟨a, ha⟩ := hget i (List.getElem?_eq_some_iff.1 hc).1
                rw [cφ_some ha]
                exact hG.rep hM ha hc (hyv i a x ha hx)
              · obtain ⟨r, R, _, ho, h1, h2, h3, h4⟩ := hK' j x hx
                have := hnb r R x h1 h4
                exact ⟨hM.rlt r R h1 x h4, this, hS0 x ((hM.mine r R h1 h2).2 x h4) this⟩
              · obtain ⟨r, hr, R, _, h1, h2, h4⟩ := hKr i x hx
                have := hnb r R x h1 h4
                exact ⟨hM.rlt r R h1 x h4, this, hS0 x ((hM.mine r R h1 h2).2 x h4) this⟩
              · obtain ⟨r, R, g1, ho, h1, h2, h3, h4⟩ := hK' i x hx
                obtain ⟨r', R', g1', ho', h1', h2', h3', h4'⟩ := hK' j x hx'
                have := hM.own_apart h1 h2 h1' h2' h4 h4'
                subst this
                exact hne (hB.inj i j r ho ho' g1 g1')
              · obtain ⟨r, hr, R, g1, h1, h2, h4⟩ := hKr i x hx
                obtain ⟨r', hr', R', g1', h1', h2', h4'⟩ := hKr j x hx'
                have := hM.own_apart h1 h2 h1' h2' h4 h4'
                subst this
                exact hne (hG.inj i j r g1 g1')
              · obtain ⟨r, R, g1, ho, h1, h2, h3, h4⟩ := hK' i x hx
                obtain ⟨r', hr', R', g1', h1', h2', h4'⟩ := hKr j x hx'
                have := hM.own_apart h1 h2 h1' h2' h4 h4'
                subst this
                exact hkr r hr' h3
            · cases hans
          · cases hans
        · cases hans
      · cases hans)
  refine hcalls.mono ?_
  intro ex w' he
  cases ex with
  | returned v => exact he
  | panicked chain => exact he.elim
  | outgrown => exact he.elim

end
end Go.Proofs.Ytcfnaifggdelnaa.E
