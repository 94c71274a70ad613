/- What is proved here: the contract of a function that is handed slices of our own, from what the evaluator says of it. -/
import Derived.Test.YtcfnaifggdelnaaS32
namespace Go.Proofs.Ytcfnaifggdelnaa.E
open Go

/-- A function that is handed slices of our own, over plain data. -/
def evalT (C : Cfg) (tms : FuncId → Nat → Option Tmpl) (N D : Nat) (f : FuncId) (own : List Bool) (args : List AV) : Option Ans :=
  denFn C tms N (callIn C tms N D) f ((layAV args 0).map .v) { tm := [], lo := [], ro := blkRoots own (args.flatMap AV.cvs) 0, stk := [], nid := (args.flatMap AV.cvs).length, ep := 0 } fun rs st => ansOf st rs []

/-- As evalT; the slice ja is written in place: the result's cell jr is it, and what it leads to through other columns than js is as it was. -/
def evalK (C : Cfg) (tms : FuncId → Nat → Option Tmpl) (N D : Nat) (f : FuncId) (own : List Bool) (ja jr : Nat) (js : List (List Nat)) (t : Ty) (args : List AV) : Option Ans :=
  denFn C tms N (callIn C tms N D) f ((layAV args 0).map .v) { tm := [.v (.at (.kp ja js t))], lo := [], ro := blkRoots own (args.flatMap AV.cvs) 0, stk := [], nid := (args.flatMap AV.cvs).length, ep := 0 } fun rs st =>
    match st.tm, (rs.flatMap tvAts)[jr]? with
    | [.v (.at (.kp n J t'))], some (.sl m []) => cond (Nat.beq n m && (J == js && decide (t' = t))) (ansOf st rs []) none
    | _, _ => none

section
variable {C : Cfg} {w0 w w1 : World} {S0 : BSet} {U : Nat → Prop} {st st1 : St} {E E1 : Env} {ts : Array Value} {sv : List (Array Value)}

/-- **The contract of a function that is handed slices of our own**, from what the evaluator says of it. -/
theorem holdsT_of_eval (hO : EngOk C) {f : FuncId} {own : List Bool} {run : List AV → Option (Bool × List AV)} (hf : FnOk C.P f) (hal0 : aliasesOf f = [[]])
    (h : ∀ (avs : List AV) (rs : List AV), own.length = (cvsOf avs).length → (∃ (w : World) (xs : Nat → Value) (K : Nat → BSet), ∀ (j : Nat) (c : CV), (cvsOf avs)[j]? = some c → Rep false w (xs j) c (K j)) → run avs = some (true, rs) → ∃ tms N D, evalT C tms N D f own avs = some rs) : HoldsT C.P f own none run := by
  intro al hal
  rw [hal0, List.mem_singleton] at hal
  subst hal
  refine ⟨hf, fun w K avs xs rs hxl hol hrep hKlt hKd0 _ hrun => ?_⟩
  have hKd := fun i j x hi hj ho hne => hKd0 i j x hi hj ho hne (by simp)
  obtain ⟨tms, N, D, hev⟩ := h avs rs hol ⟨w, fun j => (xs[j]?).getD undef, K, fun j c hc => by
    have hlt := (List.getElem?_eq_some_iff.1 hc).1
    have hu := List.getElem?_eq_getElem (show j < xs.length by rw [hxl]; exact hlt)
    simp only [hu, Option.getD_some]
    exact (hrep j c _ hc hu).ro⟩ hrun
  unfold evalT at hev
  generalize hst : ({ tm := [], lo := [], ro := blkRoots own (avs.flatMap AV.cvs) 0, stk := [], nid := (avs.flatMap AV.cvs).length, ep := 0 } : St) = st at hev
  have hro0 : st.ro = blkRoots own (cvsOf avs) 0 := by rw [← hst]; rfl
  have hroot0 : ∀ r R, aget st.ro r = some R → R.ep = none ∧ r < (cvsOf avs).length ∧ own[r]? = some R.own ∧ (cvsOf avs)[r]? = some (.s R.t R.l) := by
    intro r R hR
    rw [hro0] at hR
    obtain ⟨_, t, l, h2, _, _, h5, h6⟩ := blkRoots_get own (cvsOf avs) 0 r R hR
    rw [h6] at h5 ⊢
    simp only [Nat.sub_zero] at h2 h5
    exact ⟨rfl, (List.getElem?_eq_some_iff.1 h2).1, h5, h2⟩
  have hlo : ∀ l, aget st.lo l = none := fun l => by rw [← hst]; rfl
  let E : Env := { ρ := fun n => (xs[n]?).getD undef, φ := K, β := fun _ => 0, κ := w }
  let S0 : BSet := fun b => ∃ j, j < (cvsOf avs).length ∧ isOwn own j ∧ K j b
  have hS : Sim w S0 (fun n => n < (cvsOf avs).length) st E #[] [] w := by
    refine ⟨⟨rfl, rfl, rfl, Nat.le_refl _, fun _ _ _ => rfl, fun r R hR => ?_, fun r R hR x hx => ?_, fun r R hR ho => ?_, fun r R r' R' hR ho hR' _ hne x hx => ?_, fun l cs hl => ?_, fun l l' cs cs' hl => ?_, fun l cs r R hl => ?_, fun r R e hR he => ?_, rfl⟩, ⟨fun n R hn => ?_, fun n cs hn => ?_, fun m hm => ?_, fun f hf => ?_⟩, ⟨?_, fun i m v hm => ?_⟩, ?_⟩
    · obtain ⟨_, h1, h2, h3⟩ := hroot0 r R (root_aget hR).1
      have hu := List.getElem?_eq_getElem (show r < xs.length by omega)
      show Rep R.own w ((xs[r]?).getD undef) _ (K r)
      have := hrep r _ _ h3 hu
      rw [h2] at this
      rw [hu]
      exact this
    · obtain ⟨_, h1, _, _⟩ := hroot0 r R (root_aget hR).1
      exact hKlt r x h1 hx
    · obtain ⟨he, h1, h2, _⟩ := hroot0 r R (root_aget hR).1
      refine ⟨he, fun x hx => .inl ⟨r, h1, ?_, hx⟩⟩
      show own[r]? = some true
      rw [h2, ho]
    · obtain ⟨_, h1, h2, _⟩ := hroot0 r R (root_aget hR).1
      obtain ⟨_, h1', _, _⟩ := hroot0 r' R' (root_aget hR').1
      exact hKd r r' x h1 h1' (by show own[r]? = some true; rw [h2, ho]) hne hx
    · rw [hlo] at hl; cases hl
    · rw [hlo] at hl; cases hl
    · rw [hlo] at hl; cases hl
    · rw [(hroot0 r R hR).1] at he; cases he
    · exact (hroot0 n R hn).2.1
    · rw [hlo] at hn; cases hn
    · rw [← hst] at hm; simp at hm
    · rw [← hst] at hf; simp at hf
    · rw [← hst]; rfl
    · rw [← hst] at hm; simp at hm
    · rw [← hst]; trivial
  obtain ⟨hl1, hl2⟩ := layAV_vt (w := w) (st := st) (E := E) avs xs 0 hxl (fun i c u hc hu => by
    have hr := hrep i c u hc hu
    refine ⟨?_, hr.one⟩
    cases c with
    | i k n => exact hr.int_inv
    | b x => exact hr.bool_inv
    | s t l =>
      obtain ⟨⟨a, cap, hv, _⟩, _⟩ := hr.len
      refine ⟨⟨a, _, cap, hv⟩, fun R hR => ?_⟩
      have e : 0 + i = i := by omega
      show some ((xs[0 + i]?).getD undef) = some u
      rw [e, hu]; rfl)
  have hnid : st.nid = (cvsOf avs).length := by rw [← hst]; rfl
  obtain ⟨_, hcalls⟩ := denFn_sound hO (callIn_sound hO (tms := tms) (N := N) D) f _ st _ rs hev w S0 _ E #[] [] w (packV avs xs).toArray
    (fun v w' => w'.os = w.os ∧ w'.tape = w.tape ∧ w'.output = w.output ∧ w.heap.size ≤ w'.heap.size ∧
          (∀ b, b < w.heap.size → (∀ j, j < (cvsOf avs).length → isOwn own j → ¬ K j b) → w'.heap[b]? = w.heap[b]?) ∧
          ∃ (ys : List Value) (Kr : Nat → BSet), AllRep true w' (cvsOf rs) ys Kr ∧ v = retV (packV rs ys) ∧
            (∀ i x, i < (cvsOf rs).length → Kr i x → x < w'.heap.size ∧ ((∃ j, j < (cvsOf avs).length ∧ isOwn own j ∧ K j x) ∨ w.heap.size ≤ x)) ∧
            (∀ i j x, i < (cvsOf rs).length → j < (cvsOf rs).length → i ≠ j → Kr i x → ¬ Kr j x) ∧
            (∀ ja jr js, (none : Option (Nat × Nat × List (List Nat))) = some (ja, jr, js) → ∀ t l u, (cvsOf avs)[ja]? = some (.s t l) → xs[ja]? = some u → ∃ l', (cvsOf rs)[jr]? = some (.s t l') ∧ ys[jr]? = some u ∧
              ∀ p v, hdrAt w t u p = some v → js.any (fun c => c.isPrefixOf (cols p)) = false → hdrAt w' t u p = some v)) hS (fun n hn h => by omega)
    (by simp [hl1]) (fun i m v hm hv => by
      rw [List.getElem?_map] at hm
      cases hx : (layAV avs 0)[i]? with
      | none => rw [hx] at hm; cases hm
      | some x => rw [hx] at hm; cases hm; exact hl2 i x v hx (by simpa using hv))
    (fun m hm n hn => by
      obtain ⟨x, hx, rfl⟩ := List.mem_map.1 hm
      simp only [MV.ids, mvAts, List.mem_flatMap] at hn
      obtain ⟨a, ha, hn⟩ := hn
      have := (layAV_ids avs 0 n x a hx ha hn).2
      omega)
    (fun U' st' E' w' tvs v hS' _ _ _ hv _ hans => by
      obtain ⟨us, rfl, hul, huv⟩ := vm_retV hv
      obtain ⟨ats, ys, ks, hG, hyl, hyv, rfl, _⟩ := ansOf_sound tvs [] rs us hans hul huv
      have hM := hS'.mem
      have hget : ∀ i, i < (cvsOf rs).length → ∃ a, ats[i]? = some a := fun i hi => ⟨_, List.getElem?_eq_getElem (by rw [← hG.len]; exact hi)⟩
      have hKr : ∀ i x, cφ E' ats i x → ∃ r ∈ ks, ∃ R, ats[i]? = some (.sl r []) ∧ st'.root r = some R ∧ R.own = true ∧ E'.φ r x := by
        intro i x hx
        obtain ⟨a, ha, hx⟩ := cφ_inv hx
        obtain ⟨r, hr, rfl, hrx⟩ := hG.fi ha hx
        obtain ⟨R, hR, ho⟩ := hG.own r hr
        exact ⟨r, hr, R, ha, hR, ho, hrx⟩
      refine ⟨hM.os, hM.tape, hM.output, hM.size, fun b hb hnk => hM.keep b hb (fun ⟨j, hj, ho, hk⟩ => hnk j hj ho hk), ys, cφ E' ats, ⟨by rw [hyl, hG.len], fun i c x hc hx => ?_⟩, rfl, fun i x hi hx => ?_, fun i j x hi hj hne hx hx' => ?_, fun ja jr js h => by cases h⟩
      · obtain ⟨a, ha⟩ := hget i (List.getElem?_eq_some_iff.1 hc).1
        rw [cφ_some ha]
        exact hG.rep hM ha hc (hyv i a x ha hx)
      · obtain ⟨r, hr, R, _, h1, h2, h4⟩ := hKr i x hx
        exact ⟨hM.rlt r R h1 x h4, (hM.mine r R h1 h2).2 x h4⟩
      · obtain ⟨r, hr, R, g1, h1, h2, h4⟩ := hKr i x hx
        obtain ⟨r', hr', R', g1', h1', h2', h4'⟩ := hKr j x hx'
        have := hM.own_apart h1 h2 h1' h2' h4 h4'
        subst this
        exact hne (hG.inj i j r g1 g1'))
  refine hcalls.mono ?_
  intro ex w' he
  cases ex with
  | returned v => exact he
  | panicked chain => exact he.elim
  | outgrown => exact he.elim

/-- The same, where one slice is written in place. -/
theorem holdsK_of_eval (hO : EngOk C) {f : FuncId} {own : List Bool} {ja jr : Nat} {js : List (List Nat)} {kt : Ty} {run : List AV → Option (Bool × List AV)} (hf : FnOk C.P f) (hal0 : aliasesOf f = [[]])
    (h : ∀ (avs : List AV) (rs : List AV), own.length = (cvsOf avs).length → (∃ (w : World) (xs : Nat → Value) (K : Nat → BSet), ∀ (j : Nat) (c : CV), (cvsOf avs)[j]? = some c → Rep false w (xs j) c (K j)) → run avs = some (true, rs) → (∃ l, (cvsOf avs)[ja]? = some (.s kt l)) ∧ own[ja]? = some true ∧ ∃ tms N D, evalK C tms N D f own ja jr js kt avs = some rs) : HoldsT C.P f own (some (ja, jr, js)) run := by
  intro al hal
  rw [hal0, List.mem_singleton] at hal
  subst hal
  refine ⟨hf, fun w K avs xs rs hxl hol hrep hKlt hKd0 _ hrun => ?_⟩
  have hKd := fun i j x hi hj ho hne => hKd0 i j x hi hj ho hne (by simp)
  obtain ⟨⟨kl, hkl⟩, hoj, tms, N, D, hev⟩ := h avs rs hol ⟨w, fun j => (xs[j]?).getD undef, K, fun j c hc => by
    have hlt := (List.getElem?_eq_some_iff.1 hc).1
    have hu := List.getElem?_eq_getElem (show j < xs.length by rw [hxl]; exact hlt)
    simp only [hu, Option.getD_some]
    exact (hrep j c _ hc hu).ro⟩ hrun
  unfold evalK at hev
  have hjl : ja < (cvsOf avs).length := (List.getElem?_eq_some_iff.1 hkl).1
  have hjx : ja < xs.length := by rw [hxl]; exact hjl
  have hju := List.getElem?_eq_getElem hjx
  generalize hst : ({ tm := [.v (.at (.kp ja js kt))], lo := [], ro := blkRoots own (avs.flatMap AV.cvs) 0, stk := [], nid := (avs.flatMap AV.cvs).length, ep := 0 } : St) = st at hev
  have hro0 : st.ro = blkRoots own (cvsOf avs) 0 := by rw [← hst]; rfl
  have hroot0 : ∀ r R, aget st.ro r = some R → R.ep = none ∧ r < (cvsOf avs).length ∧ own[r]? = some R.own ∧ (cvsOf avs)[r]? = some (.s R.t R.l) := by
    intro r R hR
    rw [hro0] at hR
    obtain ⟨_, t, l, h2, _, _, h5, h6⟩ := blkRoots_get own (cvsOf avs) 0 r R hR
    rw [h6] at h5 ⊢
    simp only [Nat.sub_zero] at h2 h5
    exact ⟨rfl, (List.getElem?_eq_some_iff.1 h2).1, h5, h2⟩
  have hlo : ∀ l, aget st.lo l = none := fun l => by rw [← hst]; rfl
  let E : Env := { ρ := fun n => (xs[n]?).getD undef, φ := K, β := fun _ => 0, κ := w }
  let S0 : BSet := fun b => ∃ j, j < (cvsOf avs).length ∧ isOwn own j ∧ K j b
  have hS : Sim w S0 (fun n => n < (cvsOf avs).length) st E #[xs[ja]] [] w := by
    refine ⟨⟨rfl, rfl, rfl, Nat.le_refl _, fun _ _ _ => rfl, fun r R hR => ?_, fun r R hR x hx => ?_, fun r R hR ho => ?_, fun r R r' R' hR ho hR' _ hne x hx => ?_, fun l cs hl => ?_, fun l l' cs cs' hl => ?_, fun l cs r R hl => ?_, fun r R e hR he => ?_, rfl⟩, ⟨fun n R hn => ?_, fun n cs hn => ?_, fun m hm => ?_, fun f hf => ?_⟩, ⟨?_, fun i m v hm hv => ?_⟩, ?_⟩
    · obtain ⟨_, h1, h2, h3⟩ := hroot0 r R (root_aget hR).1
      have hu := List.getElem?_eq_getElem (show r < xs.length by omega)
      show Rep R.own w ((xs[r]?).getD undef) _ (K r)
      have := hrep r _ _ h3 hu
      rw [h2] at this
      rw [hu]
      exact this
    · obtain ⟨_, h1, _, _⟩ := hroot0 r R (root_aget hR).1
      exact hKlt r x h1 hx
    · obtain ⟨he, h1, h2, _⟩ := hroot0 r R (root_aget hR).1
      refine ⟨he, fun x hx => .inl ⟨r, h1, ?_, hx⟩⟩
      show own[r]? = some true
      rw [h2, ho]
    · obtain ⟨_, h1, h2, _⟩ := hroot0 r R (root_aget hR).1
      obtain ⟨_, h1', _, _⟩ := hroot0 r' R' (root_aget hR').1
      exact hKd r r' x h1 h1' (by show own[r]? = some true; rw [h2, ho]) hne hx
    · rw [hlo] at hl; cases hl
    · rw [hlo] at hl; cases hl
    · rw [hlo] at hl; cases hl
    · rw [(hroot0 r R hR).1] at he; cases he
    · exact (hroot0 n R hn).2.1
    · rw [hlo] at hn; cases hn
    · rw [← hst] at hm
      simp only [List.mem_singleton] at hm
      subst hm
      intro n hn
      simp only [MV.ids, mvAts, tvAts, List.flatMap_cons, List.flatMap_nil, At.ids, atIds, atLids, List.append_nil, List.mem_singleton] at hn
      subst hn
      exact hjl
    · rw [← hst] at hf; simp at hf
    · rw [← hst]; rfl
    · rw [← hst] at hm
      cases i with
      | succ i => simp at hm
      | zero =>
        simp only [List.getElem?_cons_zero, Option.some.injEq] at hm hv
        subst hm
        have hv : xs[ja] = v := by simpa using hv
        subst hv
        have hr := hrep ja _ _ hkl hju
        obtain ⟨⟨a, cap, hva, _⟩, _⟩ := hr.len
        refine ⟨⟨a, _, cap, hva⟩, fun R hR => ?_⟩
        obtain ⟨_, _, _, h4⟩ := hroot0 ja R (root_aget hR).1
        rw [hkl] at h4
        cases h4
        refine ⟨rfl, ?_, fun p u hp _ => hp⟩
        show (xs[ja]?).getD undef = xs[ja]
        rw [hju]; rfl
    · rw [← hst]; trivial
  obtain ⟨hl1, hl2⟩ := layAV_vt (w := w) (st := st) (E := E) avs xs 0 hxl (fun i c u hc hu => by
    have hr := hrep i c u hc hu
    refine ⟨?_, hr.one⟩
    cases c with
    | i k n => exact hr.int_inv
    | b x => exact hr.bool_inv
    | s t l =>
      obtain ⟨⟨a, cap, hv, _⟩, _⟩ := hr.len
      refine ⟨⟨a, _, cap, hv⟩, fun R hR => ?_⟩
      have e : 0 + i = i := by omega
      show some ((xs[0 + i]?).getD undef) = some u
      rw [e, hu]; rfl)
  have hnid : st.nid = (cvsOf avs).length := by rw [← hst]; rfl
  obtain ⟨_, hcalls⟩ := denFn_sound hO (callIn_sound hO (tms := tms) (N := N) D) f _ st _ rs hev w S0 _ E #[xs[ja]] [] w (packV avs xs).toArray
    (fun v w' => w'.os = w.os ∧ w'.tape = w.tape ∧ w'.output = w.output ∧ w.heap.size ≤ w'.heap.size ∧
          (∀ b, b < w.heap.size → (∀ j, j < (cvsOf avs).length → isOwn own j → ¬ K j b) → w'.heap[b]? = w.heap[b]?) ∧
          ∃ (ys : List Value) (Kr : Nat → BSet), AllRep true w' (cvsOf rs) ys Kr ∧ v = retV (packV rs ys) ∧
            (∀ i x, i < (cvsOf rs).length → Kr i x → x < w'.heap.size ∧ ((∃ j, j < (cvsOf avs).length ∧ isOwn own j ∧ K j x) ∨ w.heap.size ≤ x)) ∧
            (∀ i j x, i < (cvsOf rs).length → j < (cvsOf rs).length → i ≠ j → Kr i x → ¬ Kr j x) ∧
            (∀ ja2 jr2 js2, some (ja, jr, js) = some (ja2, jr2, js2) → ∀ t l u, (cvsOf avs)[ja2]? = some (.s t l) → xs[ja2]? = some u → ∃ l', (cvsOf rs)[jr2]? = some (.s t l') ∧ ys[jr2]? = some u ∧
              ∀ p v, hdrAt w t u p = some v → js2.any (fun c => c.isPrefixOf (cols p)) = false → hdrAt w' t u p = some v)) hS (fun n hn h => by omega)
    (by simp [hl1]) (fun i m v hm hv => by
      rw [List.getElem?_map] at hm
      cases hx : (layAV avs 0)[i]? with
      | none => rw [hx] at hm; cases hm
      | some x => rw [hx] at hm; cases hm; exact hl2 i x v hx (by simpa using hv))
    (fun m hm n hn => by
      obtain ⟨x, hx, rfl⟩ := List.mem_map.1 hm
      simp only [MV.ids, mvAts, List.mem_flatMap] at hn
      obtain ⟨a, ha, hn⟩ := hn
      have := (layAV_ids avs 0 n x a hx ha hn).2
      omega)
    (fun U' st' E' w' tvs v hS' _ _ _ hv _ hans => by
      obtain ⟨us, rfl, hul, huv⟩ := vm_retV hv
      split at hans
      rotate_left
      · cases hans
      rename_i n J t' m htm hrm
      cases hck : (Nat.beq n m && (J == js && decide (t' = kt))) with
      | false => rw [hck] at hans; cases hans
      | true =>
      rw [hck] at hans
      simp only [cond_true] at hans
      simp only [Bool.and_eq_true, Nat.beq_eq, beq_iff_eq, decide_eq_true_eq] at hck
      obtain ⟨hnm, hJ, ht⟩ := hck
      subst hnm hJ ht
      obtain ⟨ats, ys, ks, hG, hyl, hyv, rfl, _, hats⟩ := ansOf_sound tvs [] rs us hans hul huv
      have hM := hS'.mem
      have hget : ∀ i, i < (cvsOf rs).length → ∃ a, ats[i]? = some a := fun i hi => ⟨_, List.getElem?_eq_getElem (by rw [← hG.len]; exact hi)⟩
      have hKr : ∀ i x, cφ E' ats i x → ∃ r ∈ ks, ∃ R, ats[i]? = some (.sl r []) ∧ st'.root r = some R ∧ R.own = true ∧ E'.φ r x := by
        intro i x hx
        obtain ⟨a, ha, hx⟩ := cφ_inv hx
        obtain ⟨r, hr, rfl, hrx⟩ := hG.fi ha hx
        obtain ⟨R, hR, ho⟩ := hG.own r hr
        exact ⟨r, hr, R, ha, hR, ho, hrx⟩
      refine ⟨hM.os, hM.tape, hM.output, hM.size, fun b hb hnk => hM.keep b hb (fun ⟨j, hj, ho, hk⟩ => hnk j hj ho hk), ys, cφ E' ats, ⟨by rw [hyl, hG.len], fun i c x hc hx => ?_⟩, rfl, fun i x hi hx => ?_, fun i j x hi hj hne hx hx' => ?_, fun ja2 jr2 js2 he t l u hcl hxu => ?_⟩
      · obtain ⟨a, ha⟩ := hget i (List.getElem?_eq_some_iff.1 hc).1
        rw [cφ_some ha]
        exact hG.rep hM ha hc (hyv i a x ha hx)
      · obtain ⟨r, hr, R, _, h1, h2, h4⟩ := hKr i x hx
        exact ⟨hM.rlt r R h1 x h4, (hM.mine r R h1 h2).2 x h4⟩
      · obtain ⟨r, hr, R, g1, h1, h2, h4⟩ := hKr i x hx
        obtain ⟨r', hr', R', g1', h1', h2', h4'⟩ := hKr j x hx'
        have := hM.own_apart h1 h2 h1' h2' h4 h4'
        subst this
        exact hne (hG.inj i j r g1 g1')
      · cases he
        rw [hkl] at hcl
        cases hcl
        rw [hju] at hxu
        cases hxu
        have ha : ats[jr]? = some (.sl n []) := by rw [hats]; exact hrm
        rcases hG.get jr _ ha with ⟨_, _, h, _⟩ | ⟨_, h, _⟩ | ⟨r, R, h, hR, _, hcs⟩
        · cases h
        · cases h
        · cases h
          have hty := hS'.tm.2 0 (.v (.at (.kp n J t'))) xs[ja] (by rw [htm]; rfl) (by simp)
          obtain ⟨e1, e2, e3⟩ := hty.2 R hR
          have hyl2 : jr < ys.length := by rw [hyl]; exact (List.getElem?_eq_some_iff.1 ha).1
          have hy := List.getElem?_eq_getElem hyl2
          have e4 := (hyv jr _ _ ha hy).2 R hR
          simp only [hdrAt, Option.some.injEq] at e4
          refine ⟨e1 ▸ R.l, ?_, by rw [hy, ← e4, e2], ?_⟩
          · rw [hcs]
            cases e1
            rfl
          · rw [hM.κ] at e3
            exact e3)
  refine hcalls.mono ?_
  intro ex w' he
  cases ex with
  | returned v => exact he
  | panicked chain => exact he.elim
  | outgrown => exact he.elim

/-- A slice that is another one of our own. -/
def alAt (al : List (Nat × Nat)) : At → At
  | .sl r [] => match al.find? (fun x => Nat.beq x.1 r) with
    | some x => .sl x.2 []
    | none => .sl r []
  | a => a

/-- As evalK, where slices are handed twice. -/
def evalA (C : Cfg) (tms : FuncId → Nat → Option Tmpl) (N D : Nat) (f : FuncId) (own : List Bool) (al : List (Nat × Nat)) (ja jr : Nat) (js : List (List Nat)) (t : Ty) (args : List AV) : Option Ans :=
  denFn C tms N (callIn C tms N D) f (((layAV args 0).map .v).map (mapMV (alAt al))) { tm := [.v (.at (.kp ja js t))], lo := [], ro := (blkRoots own (args.flatMap AV.cvs) 0).filter (fun x => !al.any (fun y => Nat.beq y.1 x.1)), stk := [], nid := (args.flatMap AV.cvs).length, ep := 0 } fun rs st =>
    match st.tm, (rs.flatMap tvAts)[jr]? with
    | [.v (.at (.kp n J t'))], some (.sl m []) => cond (Nat.beq n m && (J == js && decide (t' = t))) (ansOf st rs []) none
    | _, _ => none

def plainA (a : At) : Prop := (∃ k n, a = .i k n) ∨ (∃ b, a = .b b) ∨ ∃ r, a = .sl r []

theorem layC_plain : ∀ (cs : List CV) (id : Nat) (a : At), a ∈ layC cs id → plainA a
  | [], _, _, h => by simp [layC] at h
  | .i k n :: cs, id, a, h => by
    simp only [layC, List.mem_cons] at h
    rcases h with rfl | h
    · exact .inl ⟨k, n, rfl⟩
    · exact layC_plain cs (id + 1) a h
  | .b x :: cs, id, a, h => by
    simp only [layC, List.mem_cons] at h
    rcases h with rfl | h
    · exact .inr (.inl ⟨x, rfl⟩)
    · exact layC_plain cs (id + 1) a h
  | .s t l :: cs, id, a, h => by
    simp only [layC, List.mem_cons] at h
    rcases h with rfl | h
    · exact .inr (.inr ⟨id, rfl⟩)
    · exact layC_plain cs (id + 1) a h

theorem layAV_plain : ∀ (rs : List AV) (id : Nat) (x : TV) (a : At), x ∈ layAV rs id → a ∈ tvAts x → plainA a
  | [], _, _, _, h, _ => by simp [layAV] at h
  | .one c :: rs, id, x, a, h, ha => by
    simp only [layAV, List.mem_cons] at h
    rcases h with rfl | h
    · simp only [tvAts, List.mem_singleton] at ha
      subst ha
      cases c with
      | i k n => exact .inl ⟨k, n, rfl⟩
      | b x => exact .inr (.inl ⟨x, rfl⟩)
      | s t l => exact .inr (.inr ⟨id, rfl⟩)
    · exact layAV_plain rs (id + 1) x a h ha
  | .agg cs :: rs, id, x, a, h, ha => by
    simp only [layAV, List.mem_cons] at h
    rcases h with rfl | h
    · exact layC_plain cs id a ha
    · exact layAV_plain rs (id + cs.length) x a h ha

theorem map_tvP {w1 : World} {st1 : St} {E1 : Env} {w : World} {st : St} {E : Env} {f : At → At} {P : At → Prop} (T : ∀ a v, P a → VA w st E a v → VA w1 st1 E1 (f a) v) {x : TV} {v : Value} (hP : ∀ a ∈ tvAts x, P a) (h : VT w st E x v) : VT w1 st1 E1 (mapTV f x) v := by
  rcases x with a | l
  · exact T a v (hP a (by simp [tvAts])) h
  · obtain ⟨vs, h1, h2, h3⟩ := h
    refine ⟨vs, h1, by simp [h2], fun j a u ha hu => ?_⟩
    rw [List.getElem?_map] at ha
    cases hl : l[j]? with
    | none => rw [hl] at ha; cases ha
    | some b => rw [hl] at ha; cases ha; exact ⟨(h3 j b u hl hu).1, T _ _ (hP b (by simp only [tvAts]; exact List.mem_of_getElem? hl)) (h3 j b u hl hu).2⟩

theorem alAt_ids {al : List (Nat × Nat)} {a : At} {n : Nat} (h : n ∈ (alAt al a).ids) : n ∈ a.ids ∨ ∃ r, (r, n) ∈ al := by
  unfold alAt at h
  split at h
  · split at h
    · rename_i r x hx
      simp only [At.ids, atIds, atLids, List.append_nil, List.mem_singleton] at h
      subst h
      exact .inr ⟨x.1, List.mem_of_find?_eq_some hx⟩
    · exact .inl h
  · exact .inl h

theorem aget_filter {α : Type} (q : Nat → Bool) : ∀ (l : List (Nat × α)) (n : Nat) (x : α), aget (l.filter (fun y => q y.1)) n = some x → q n = true ∧ aget l n = some x
  | [], _, _, h => by simp [aget] at h
  | (k, v) :: l, n, x, h => by
    cases hq : q k with
    | false =>
      rw [List.filter_cons_of_neg (by simp [hq])] at h
      obtain ⟨h1, h2⟩ := aget_filter q l n x h
      refine ⟨h1, ?_⟩
      simp only [aget]
      cases hk : k == n with
      | false => exact h2
      | true =>
        have : k = n := by simpa using hk
        subst this
        rw [hq] at h1
        cases h1
    | true =>
      rw [List.filter_cons_of_pos (by simp [hq])] at h
      simp only [aget] at h ⊢
      cases hk : k == n with
      | false =>
        rw [hk] at h
        exact aget_filter q l n x (by simpa using h)
      | true =>
        rw [hk] at h
        have : k = n := by simpa using hk
        subst this
        exact ⟨hq, by simpa using h⟩

/-- The same, where slices may be handed twice. -/
theorem holdsA_of_eval (hO : EngOk C) {f : FuncId} {own : List Bool} {ja jr : Nat} {js : List (List Nat)} {kt : Ty} {run : List AV → Option (Bool × List AV)} (hf : FnOk C.P f)
    (h : ∀ (al : List (Nat × Nat)) (avs : List AV) (rs : List AV), al ∈ aliasesOf f → (∀ j i, (j, i) ∈ al → (cvsOf avs)[j]? = (cvsOf avs)[i]?) → own.length = (cvsOf avs).length → (∃ (w : World) (xs : Nat → Value) (K : Nat → BSet), ∀ (j : Nat) (c : CV), (cvsOf avs)[j]? = some c → Rep false w (xs j) c (K j)) → run avs = some (true, rs) → (∃ l, (cvsOf avs)[ja]? = some (.s kt l)) ∧ own[ja]? = some true ∧ ∃ tms N D, evalA C tms N D f own al ja jr js kt avs = some rs) : HoldsT C.P f own (some (ja, jr, js)) run := by
  intro al hal
  refine ⟨hf, fun w K avs xs rs hxl hol hrep hKlt hKd0 hali hrun => ?_⟩
  obtain ⟨⟨kl, hkl⟩, hoj, tms, N, D, hev⟩ := h al avs rs hal (fun j i hji => (hali j i hji).2.2.2.1) hol ⟨w, fun j => (xs[j]?).getD undef, K, fun j c hc => by
    have hlt := (List.getElem?_eq_some_iff.1 hc).1
    have hu := List.getElem?_eq_getElem (show j < xs.length by rw [hxl]; exact hlt)
    simp only [hu, Option.getD_some]
    exact (hrep j c _ hc hu).ro⟩ hrun
  unfold evalA at hev
  have hjl : ja < (cvsOf avs).length := (List.getElem?_eq_some_iff.1 hkl).1
  have hjx : ja < xs.length := by rw [hxl]; exact hjl
  have hju := List.getElem?_eq_getElem hjx
  generalize hst : ({ tm := [.v (.at (.kp ja js kt))], lo := [], ro := (blkRoots own (avs.flatMap AV.cvs) 0).filter (fun x => !al.any (fun y => Nat.beq y.1 x.1)), stk := [], nid := (avs.flatMap AV.cvs).length, ep := 0 } : St) = st at hev
  have hro0 : st.ro = (blkRoots own (cvsOf avs) 0).filter (fun x => !al.any (fun y => Nat.beq y.1 x.1)) := by rw [← hst]; rfl
  have hna : ∀ r R, aget st.ro r = some R → ∀ i, (r, i) ∉ al := by
    intro r R hR i hi
    rw [hro0] at hR
    have := (aget_filter (fun n => !al.any (fun y => Nat.beq y.1 n)) _ r R hR).1
    simp only [Bool.not_eq_true', List.any_eq_false] at this
    exact this _ hi (Nat.beq_refl r)
  have hroot0 : ∀ r R, aget st.ro r = some R → R.ep = none ∧ r < (cvsOf avs).length ∧ own[r]? = some R.own ∧ (cvsOf avs)[r]? = some (.s R.t R.l) := by
    intro r R hR
    rw [hro0] at hR
    obtain ⟨_, t, l, h2, _, _, h5, h6⟩ := blkRoots_get own (cvsOf avs) 0 r R (aget_filter (fun n => !al.any (fun y => Nat.beq y.1 n)) _ r R hR).2
    rw [h6] at h5 ⊢
    simp only [Nat.sub_zero] at h2 h5
    exact ⟨rfl, (List.getElem?_eq_some_iff.1 h2).1, h5, h2⟩
  have hlo : ∀ l, aget st.lo l = none := fun l => by rw [← hst]; rfl
  let E : Env := { ρ := fun n => (xs[n]?).getD undef, φ := K, β := fun _ => 0, κ := w }
  let S0 : BSet := fun b => ∃ j, j < (cvsOf avs).length ∧ isOwn own j ∧ K j b
  have hS : Sim w S0 (fun n => n < (cvsOf avs).length) st E #[xs[ja]] [] w := by
    refine ⟨⟨rfl, rfl, rfl, Nat.le_refl _, fun _ _ _ => rfl, fun r R hR => ?_, fun r R hR x hx => ?_, fun r R hR ho => ?_, fun r R r' R' hR ho hR' _ hne x hx => ?_, fun l cs hl => ?_, fun l l' cs cs' hl => ?_, fun l cs r R hl => ?_, fun r R e hR he => ?_, rfl⟩, ⟨fun n R hn => ?_, fun n cs hn => ?_, fun m hm => ?_, fun f hf => ?_⟩, ⟨?_, fun i m v hm hv => ?_⟩, ?_⟩
    · obtain ⟨_, h1, h2, h3⟩ := hroot0 r R (root_aget hR).1
      have hu := List.getElem?_eq_getElem (show r < xs.length by omega)
      show Rep R.own w ((xs[r]?).getD undef) _ (K r)
      have := hrep r _ _ h3 hu
      rw [h2] at this
      rw [hu]
      exact this
    · obtain ⟨_, h1, _, _⟩ := hroot0 r R (root_aget hR).1
      exact hKlt r x h1 hx
    · obtain ⟨he, h1, h2, _⟩ := hroot0 r R (root_aget hR).1
      refine ⟨he, fun x hx => .inl ⟨r, h1, ?_, hx⟩⟩
      show own[r]? = some true
      rw [h2, ho]
    · obtain ⟨_, h1, h2, _⟩ := hroot0 r R (root_aget hR).1
      obtain ⟨_, h1', _, _⟩ := hroot0 r' R' (root_aget hR').1
      exact hKd0 r r' x h1 h1' (by show own[r]? = some true; rw [h2, ho]) hne (hna r' R' (root_aget hR').1 r) hx
    · rw [hlo] at hl; cases hl
    · rw [hlo] at hl; cases hl
    · rw [hlo] at hl; cases hl
    · rw [(hroot0 r R hR).1] at he; cases he
    · exact (hroot0 n R hn).2.1
    · rw [hlo] at hn; cases hn
    · rw [← hst] at hm
      simp only [List.mem_singleton] at hm
      subst hm
      intro n hn
      simp only [MV.ids, mvAts, tvAts, List.flatMap_cons, List.flatMap_nil, At.ids, atIds, atLids, List.append_nil, List.mem_singleton] at hn
      subst hn
      exact hjl
    · rw [← hst] at hf; simp at hf
    · rw [← hst]; rfl
    · rw [← hst] at hm
      cases i with
      | succ i => simp at hm
      | zero =>
        simp only [List.getElem?_cons_zero, Option.some.injEq] at hm hv
        subst hm
        have hv : xs[ja] = v := by simpa using hv
        subst hv
        have hr := hrep ja _ _ hkl hju
        obtain ⟨⟨a, cap, hva, _⟩, _⟩ := hr.len
        refine ⟨⟨a, _, cap, hva⟩, fun R hR => ?_⟩
        obtain ⟨_, _, _, h4⟩ := hroot0 ja R (root_aget hR).1
        rw [hkl] at h4
        cases h4
        refine ⟨rfl, ?_, fun p u hp _ => hp⟩
        show (xs[ja]?).getD undef = xs[ja]
        rw [hju]; rfl
    · rw [← hst]; trivial
  let st0 : St := { st with ro := (List.range (cvsOf avs).length).map (fun r => (r, (⟨.int, [], false, none⟩ : Root))), ep := 0 }
  have hst0 : ∀ r, r < (cvsOf avs).length → st0.root r = some ⟨.int, [], false, none⟩ := by
    intro r hr
    have : ∀ (n k : Nat), k ≤ r → r < k + n → aget ((List.range' k n).map (fun r => (r, (⟨.int, [], false, none⟩ : Root)))) r = some ⟨.int, [], false, none⟩ := by
      intro n
      induction n with
      | zero => intro k h1 h2; omega
      | succ n ih =>
        intro k h1 h2
        simp only [List.range'_succ, List.map_cons, aget]
        by_cases he : k = r
        · subst he; simp
        · have hb : (k == r) = false := by simpa using he
          simp only [hb, Bool.false_eq_true, if_false]
          exact ih (k + 1) (by omega) (by omega)
    have h2 := this (cvsOf avs).length 0 (Nat.zero_le _) (by omega)
    rw [← List.range_eq_range'] at h2
    exact root_of h2 (.inl rfl)
  obtain ⟨hl1, hl2⟩ := layAV_vt (w := w) (st := st0) (E := E) avs xs 0 hxl (fun i c u hc hu => by
    have hr := hrep i c u hc hu
    refine ⟨?_, hr.one⟩
    cases c with
    | i k n => exact hr.int_inv
    | b x => exact hr.bool_inv
    | s t l =>
      obtain ⟨⟨a, cap, hv, _⟩, _⟩ := hr.len
      refine ⟨⟨a, _, cap, hv⟩, fun R hR => ?_⟩
      have e : 0 + i = i := by omega
      show some ((xs[0 + i]?).getD undef) = some u
      rw [e, hu]; rfl)
  have hT : ∀ a v, (plainA a ∧ ∀ n ∈ a.ids, n < (cvsOf avs).length) → VA w st0 E a v → VA w st E (alAt al a) v := by
    intro a v ⟨hpl, hid⟩ hv
    have hkey : ∀ r, ∀ i, (r, i) ∈ al → E.ρ i = E.ρ r := by
      intro r i hi
      show (xs[i]?).getD undef = (xs[r]?).getD undef
      rw [(hali r i hi).2.2.1]
    rcases hpl with ⟨k, n, rfl⟩ | ⟨b, rfl⟩ | ⟨r, rfl⟩
    · exact hv
    · exact hv
    · have hr : r < (cvsOf avs).length := hid r (by simp [At.ids, atIds])
      have e1 := hv.2 _ (hst0 r hr)
      simp only [hdrAt, Option.some.injEq] at e1
      simp only [alAt]
      split
      · rename_i x hx
        have hm := List.mem_of_find?_eq_some hx
        have hx1 : x.1 = r := Nat.eq_of_beq_eq_true (by simpa using List.find?_some hx)
        subst hx1
        refine ⟨hv.1, fun R _ => ?_⟩
        simp only [hdrAt, Option.some.injEq]
        rw [hkey x.1 x.2 hm]
        exact e1
      · refine ⟨hv.1, fun R _ => ?_⟩
        simp only [hdrAt, Option.some.injEq]
        exact e1
  have hnid : st.nid = (cvsOf avs).length := by rw [← hst]; rfl
  obtain ⟨_, hcalls⟩ := denFn_sound hO (callIn_sound hO (tms := tms) (N := N) D) f _ st _ rs hev w S0 _ E #[xs[ja]] [] w (packV avs xs).toArray
    (fun v w' => w'.os = w.os ∧ w'.tape = w.tape ∧ w'.output = w.output ∧ w.heap.size ≤ w'.heap.size ∧
          (∀ b, b < w.heap.size → (∀ j, j < (cvsOf avs).length → isOwn own j → ¬ K j b) → w'.heap[b]? = w.heap[b]?) ∧
          ∃ (ys : List Value) (Kr : Nat → BSet), AllRep true w' (cvsOf rs) ys Kr ∧ v = retV (packV rs ys) ∧
            (∀ i x, i < (cvsOf rs).length → Kr i x → x < w'.heap.size ∧ ((∃ j, j < (cvsOf avs).length ∧ isOwn own j ∧ K j x) ∨ w.heap.size ≤ x)) ∧
            (∀ i j x, i < (cvsOf rs).length → j < (cvsOf rs).length → i ≠ j → Kr i x → ¬ Kr j x) ∧
            (∀ ja2 jr2 js2, some (ja, jr, js) = some (ja2, jr2, js2) → ∀ t l u, (cvsOf avs)[ja2]? = some (.s t l) → xs[ja2]? = some u → ∃ l', (cvsOf rs)[jr2]? = some (.s t l') ∧ ys[jr2]? = some u ∧
              ∀ p v, hdrAt w t u p = some v → js2.any (fun c => c.isPrefixOf (cols p)) = false → hdrAt w' t u p = some v)) hS (fun n hn h => by omega)
    (by simp [hl1]) (fun i m v hm hv => by
      rw [List.getElem?_map, List.getElem?_map] at hm
      cases hx : (layAV avs 0)[i]? with
      | none => rw [hx] at hm; cases hm
      | some x =>
        rw [hx] at hm
        cases hm
        exact map_tvP hT (fun a ha => ⟨layAV_plain avs 0 x a (List.mem_of_getElem? hx) ha, fun n hn => by
          have := (layAV_ids avs 0 n x a (List.mem_of_getElem? hx) ha hn).2
          omega⟩) (hl2 i x v hx (by simpa using hv)))
    (fun m hm n hn => by
      obtain ⟨m0, hm0, rfl⟩ := List.mem_map.1 hm
      obtain ⟨x, hx, rfl⟩ := List.mem_map.1 hm0
      obtain ⟨a, ha, hn⟩ := mapMV_ids hn
      simp only [mvAts] at ha
      rcases alAt_ids hn with h | ⟨r, h⟩
      · have := (layAV_ids avs 0 n x a hx ha h).2
        omega
      · obtain ⟨_, _, _, _, t, l, h5⟩ := hali r n h
        exact (List.getElem?_eq_some_iff.1 h5).1)
    (fun U' st' E' w' tvs v hS' _ _ _ hv _ hans => by
      obtain ⟨us, rfl, hul, huv⟩ := vm_retV hv
      split at hans
      rotate_left
      · cases hans
      rename_i n J t' m htm hrm
      cases hck : (Nat.beq n m && (J == js && decide (t' = kt))) with
      | false => rw [hck] at hans; cases hans
      | true =>
      rw [hck] at hans
      simp only [cond_true] at hans
      simp only [Bool.and_eq_true, Nat.beq_eq, beq_iff_eq, decide_eq_true_eq] at hck
      obtain ⟨hnm, hJ, ht⟩ := hck
      subst hnm hJ ht
      obtain ⟨ats, ys, ks, hG, hyl, hyv, rfl, _, hats⟩ := ansOf_sound tvs [] rs us hans hul huv
      have hM := hS'.mem
      have hget : ∀ i, i < (cvsOf rs).length → ∃ a, ats[i]? = some a := fun i hi => ⟨_, List.getElem?_eq_getElem (by rw [← hG.len]; exact hi)⟩
      have hKr : ∀ i x, cφ E' ats i x → ∃ r ∈ ks, ∃ R, ats[i]? = some (.sl r []) ∧ st'.root r = some R ∧ R.own = true ∧ E'.φ r x := by
        intro i x hx
        obtain ⟨a, ha, hx⟩ := cφ_inv hx
        obtain ⟨r, hr, rfl, hrx⟩ := hG.fi ha hx
        obtain ⟨R, hR, ho⟩ := hG.own r hr
        exact ⟨r, hr, R, ha, hR, ho, hrx⟩
      refine ⟨hM.os, hM.tape, hM.output, hM.size, fun b hb hnk => hM.keep b hb (fun ⟨j, hj, ho, hk⟩ => hnk j hj ho hk), ys, cφ E' ats, ⟨by rw [hyl, hG.len], fun i c x hc hx => ?_⟩, rfl, fun i x hi hx => ?_, fun i j x hi hj hne hx hx' => ?_, fun ja2 jr2 js2 he t l u hcl hxu => ?_⟩
      · obtain ⟨a, ha⟩ := hget i (List.getElem?_eq_some_iff.1 hc).1
        rw [cφ_some ha]
        exact hG.rep hM ha hc (hyv i a x ha hx)
      · obtain ⟨r, hr, R, _, h1, h2, h4⟩ := hKr i x hx
        exact ⟨hM.rlt r R h1 x h4, (hM.mine r R h1 h2).2 x h4⟩
      · obtain ⟨r, hr, R, g1, h1, h2, h4⟩ := hKr i x hx
        obtain ⟨r', hr', R', g1', h1', h2', h4'⟩ := hKr j x hx'
        have := hM.own_apart h1 h2 h1' h2' h4 h4'
        subst this
        exact hne (hG.inj i j r g1 g1')
      · cases he
        rw [hkl] at hcl
        cases hcl
        rw [hju] at hxu
        cases hxu
        have ha : ats[jr]? = some (.sl n []) := by rw [hats]; exact hrm
        rcases hG.get jr _ ha with ⟨_, _, h, _⟩ | ⟨_, h, _⟩ | ⟨r, R, h, hR, _, hcs⟩
        · cases h
        · cases h
        · cases h
          have hty := hS'.tm.2 0 (.v (.at (.kp n J t'))) xs[ja] (by rw [htm]; rfl) (by simp)
          obtain ⟨e1, e2, e3⟩ := hty.2 R hR
          have hyl2 : jr < ys.length := by rw [hyl]; exact (List.getElem?_eq_some_iff.1 ha).1
          have hy := List.getElem?_eq_getElem hyl2
          have e4 := (hyv jr _ _ ha hy).2 R hR
          simp only [hdrAt, Option.some.injEq] at e4
          refine ⟨e1 ▸ R.l, ?_, by rw [hy, ← e4, e2], ?_⟩
          · rw [hcs]
            cases e1
            rfl
          · rw [hM.κ] at e3
            exact e3)
  refine hcalls.mono ?_
  intro ex w' he
  cases ex with
  | returned v => exact he
  | panicked chain => exact he.elim
  | outgrown => exact he.elim

end
end Go.Proofs.Ytcfnaifggdelnaa.E
