/- What is proved here: what the evaluator says of a function is its contract. -/
import Derived.Test.YtcfnaifggdelnaaS17
namespace Go.Proofs.Ytcfnaifggdelnaa.E
open Go

section
variable {C : Cfg} {w0 w w1 : World} {S0 : BSet} {U : Nat → Prop} {st st1 : St} {E E1 : Env} {ts : Array Value} {sv : List (Array Value)}

theorem denFn_sound (hO : EngOk C) {tms : FuncId → Nat → Option Tmpl} {N : Nat} {call : InCall} (hcall : CallOk C call) : CallOk C (denFn C tms N call) := by
  intro f vs st k ans h w0 S0 U E ts sv w vals R hS hF hsz hv hi hk
  unfold denFn at h
  split at h
  · rename_i fn hf
    split at h
    · rename_i body hb
      refine ⟨⟨fn, body, hf, hb⟩, calls_of_wp hf hb ?_⟩
      have hS1 : Sim w0 S0 U { st with tm := vs ++ List.replicate (fn.ntmps - vs.length) .und, stk := st.tm :: st.stk } E (vals ++ Array.replicate (fn.ntmps - vals.size) undef) (ts :: sv) w := by
        have T : Trans st E w { st with tm := vs ++ List.replicate (fn.ntmps - vs.length) .und, stk := st.tm :: st.stk } E w (fun _ => True) := ⟨fun _ _ R h => ⟨R, h, rfl, fun _ _ h => h⟩, fun _ _ cs h => ⟨⟨cs, h⟩, rfl⟩, rfl⟩
        have hM := hS.mem
        refine ⟨⟨hM.os, hM.tape, hM.output, hM.size, hM.keep, hM.rep, hM.rlt, hM.mine, hM.apart,
          fun l cs hl => by
            obtain ⟨h1, vals, e, h2, h3, h4⟩ := hM.loc l cs hl
            exact ⟨h1, vals, e, h2, h3, fun j c u hc hu => ⟨(h4 j c u hc hu).1, VA.tr T (fun _ _ => trivial) (h4 j c u hc hu).2⟩⟩,
          hM.linj, hM.lro, hM.epo, hM.κ⟩, ⟨hS.ids.ro, hS.ids.lo, fun m hm n hn => ?_, fun f hf m hm n hn => ?_⟩, ⟨?_, fun i m v hm hv' => ?_⟩, Slots.tr T (fun _ _ _ _ => trivial) hS.tm, Stack.tr T (fun _ _ _ _ _ _ => trivial) hS.stk⟩
        · rcases List.mem_append.1 hm with hm | hm
          · exact hi m hm n hn
          · have := (List.mem_replicate.1 hm).2
            subst this
            simp [MV.ids, mvAts] at hn
        · rcases List.mem_cons.1 hf with rfl | hf
          · exact hS.ids.tm m hm n hn
          · exact hS.ids.stk f hf m hm n hn
        · simp [hsz]
        · simp only at hm
          by_cases hlt : i < vs.length
          · rw [List.getElem?_append_left hlt] at hm
            rw [Array.getElem?_append_left (by omega)] at hv'
            exact VM.tr T (fun _ _ => trivial) (hv i m v hm hv')
          · rw [List.getElem?_append_right (by omega), List.getElem?_replicate] at hm
            rw [Array.getElem?_append_right (by omega), Array.getElem?_replicate] at hv'
            split at hm
            · cases hm
              split at hv'
              · cases hv'; rfl
              · cases hv'
            · cases hm
      refine denF_sound hO hcall body _ ans _ w0 S0 (ts :: sv) U st.nid ?_ U _ E _ w hS1 (fun n hn => .inl hn) (Nat.le_refl _) hF h
      intro e U' st' E' ts' w' hS' hU' hn' hF' h'
      have done : (match resultsOf C st' fn.results.toList, st'.stk with
          | some rs, tm :: stk => k rs { st' with tm, stk }
          | _, _ => none) = some ans → ([] : List Deferred) = [] ∧ ∃ v, (results fn ts').run C.P w' = .ok v w' ∧ R v w' := by
        intro h2
        split at h2
        · rename_i rs tm stk hrs hstk
          obtain ⟨us, h3, h4, h5⟩ := run_results hO.cfg hS' hrs
          refine ⟨rfl, retV us, h3, ?_⟩
          have T : Trans st' E' w' { st' with tm, stk } E' w' (fun _ => True) := ⟨fun _ _ R h => ⟨R, h, rfl, fun _ _ h => h⟩, fun _ _ cs h => ⟨⟨cs, h⟩, rfl⟩, rfl⟩
          have hM := hS'.mem
          have hst := hS'.stk
          rw [hstk] at hst
          refine hk U' { st' with tm, stk } E' w' rs (retV us) ⟨⟨hM.os, hM.tape, hM.output, hM.size, hM.keep, hM.rep, hM.rlt, hM.mine, hM.apart,
            fun l cs hl => by
              obtain ⟨h1, vals, e, h2, h3, h4⟩ := hM.loc l cs hl
              exact ⟨h1, vals, e, h2, h3, fun j c u hc hu => ⟨(h4 j c u hc hu).1, VA.tr T (fun _ _ => trivial) (h4 j c u hc hu).2⟩⟩,
            hM.linj, hM.lro, hM.epo, hM.κ⟩, ⟨hS'.ids.ro, hS'.ids.lo, fun m hm n hn => hS'.ids.stk tm (by rw [hstk]; simp) m hm n hn, fun f hf m hm n hn => hS'.ids.stk f (by rw [hstk]; exact List.mem_cons_of_mem _ hf) m hm n hn⟩,
            Slots.tr T (fun _ _ _ _ => trivial) hst.1, Stack.tr T (fun _ _ _ _ _ _ => trivial) hst.2⟩ hU' hn' hF' (VM.tr T (fun _ _ => trivial) h4) h5 h2
        · cases h2
      cases e with
      | normal => exact done h'
      | exit id => cases h'
      | ret => exact done h'
    · cases h
  · cases h

theorem callIn_sound (hO : EngOk C) {tms : FuncId → Nat → Option Tmpl} {N : Nat} : ∀ D, CallOk C (callIn C tms N D)
  | 0 => fun f vs st k ans h => by cases h
  | D + 1 => denFn_sound hO (callIn_sound hO D)

/-! The answer. -/

theorem Given.append {x1 x2 : List At} {c1 c2 : List CV} {k1 k2 : List Nat} (h1 : Given st x1 c1 k1) (h2 : Given st x2 c2 k2) (hd : ∀ k ∈ k1, k ∉ k2) : Given st (x1 ++ x2) (c1 ++ c2) (k1 ++ k2) := by
  have mem : ∀ {x : List At} {c : List CV} {ks : List Nat}, Given st x c ks → ∀ {k r : Nat}, x[k]? = some (At.sl r []) → r ∈ ks := by
    intro x c ks hG k r hk
    rcases hG.get k _ hk with ⟨_, _, h, _⟩ | ⟨_, h, _⟩ | ⟨r2, _, h, _, hm, _⟩
    · cases h
    · cases h
    · cases h; exact hm
  refine ⟨by simp [h1.len, h2.len], fun r hr => (List.mem_append.1 hr).elim (h1.own r) (h2.own r), fun k a ha => ?_, fun k k' r hk hk' => ?_⟩
  · by_cases hlt : k < x1.length
    · rw [List.getElem?_append_left hlt] at ha
      rw [List.getElem?_append_left (by rw [h1.len]; exact hlt)]
      rcases h1.get k a ha with h | h | ⟨r, R, g1, g2, g3, g4⟩
      · exact .inl h
      · exact .inr (.inl h)
      · exact .inr (.inr ⟨r, R, g1, g2, by simp [g3], g4⟩)
    · rw [List.getElem?_append_right (by omega)] at ha
      rw [List.getElem?_append_right (by rw [h1.len]; omega), h1.len]
      rcases h2.get _ a ha with h | h | ⟨r, R, g1, g2, g3, g4⟩
      · exact .inl h
      · exact .inr (.inl h)
      · exact .inr (.inr ⟨r, R, g1, g2, by simp [g3], g4⟩)
  · by_cases hlt : k < x1.length <;> by_cases hlt' : k' < x1.length
    · rw [List.getElem?_append_left hlt] at hk
      rw [List.getElem?_append_left hlt'] at hk'
      exact h1.inj k k' r hk hk'
    · rw [List.getElem?_append_left hlt] at hk
      rw [List.getElem?_append_right (by omega)] at hk'
      exact absurd (mem h2 hk') (hd r (mem h1 hk))
    · rw [List.getElem?_append_right (by omega)] at hk
      rw [List.getElem?_append_left hlt'] at hk'
      exact absurd (mem h2 hk) (hd r (mem h1 hk'))
    · rw [List.getElem?_append_right (by omega)] at hk
      rw [List.getElem?_append_right (by omega)] at hk'
      have := h2.inj _ _ r hk hk'
      omega

theorem ansOf_sound : ∀ (l : List TV) (seen : List Nat) (rs : Ans) (us : List Value), ansOf st l seen = some rs → l.length = us.length → (∀ (k : Nat) (x : TV) (u : Value), l[k]? = some x → us[k]? = some u → VT w st E x u) →
    ∃ (ats : List At) (ys : List Value) (ks : List Nat), Given st ats (cvsOf rs) ks ∧ ys.length = ats.length ∧ (∀ (k : Nat) (a : At) (u : Value), ats[k]? = some a → ys[k]? = some u → VA w st E a u) ∧ us = packV rs ys ∧ (∀ k ∈ ks, k ∉ seen) ∧ ats = l.flatMap tvAts
  | [], seen, rs, us, h, hl, _ => by
    cases h
    cases us with
    | nil => exact ⟨[], [], [], ⟨rfl, fun r hr => by simp at hr, fun k a h => by simp at h, fun k k' r h => by simp at h⟩, rfl, fun k a u h => by simp at h, rfl, fun k h => by simp at h, rfl⟩
    | cons u us => simp at hl
  | x :: r, seen, rs, us, h, hl, hv => by
    cases us with
    | nil => simp at hl
    | cons u us =>
      have hv0 := hv 0 x u rfl rfl
      have hvr : ∀ (k : Nat) (y : TV) (z : Value), r[k]? = some y → us[k]? = some z → VT w st E y z := fun k y z h1 h2 => hv (k + 1) y z (by simpa using h1) (by simpa using h2)
      rcases x with a | xs
      · simp only [ansOf] at h
        split at h
        · rename_i c ks hg
          split at h
          · rename_i hseen
            split at h
            · rename_i xa hxa
              cases h
              obtain ⟨_, hG⟩ := give_none _ _ _ _ _ hg
              obtain ⟨ats, ys, ks', g1, g2, g3, g4, g5, g6⟩ := ansOf_sound r _ xa us hxa (by simpa using hl) hvr
              refine ⟨a :: ats, u :: ys, ks ++ ks', ?_, by simp [g2], fun k b z hb hz => ?_, by simp [packV, g4], fun k hk => ?_, by simp [g6, tvAts]⟩
              · have e : cvsOf (AV.one c :: xa) = [c] ++ cvsOf xa := by simp [cvsOf, AV.cvs]
                rw [e]
                exact Given.append (x1 := [a]) hG g1 (fun k hk hk' => g5 k hk' (List.mem_append_left _ hk))
              · cases k with
                | zero => simp at hb hz; subst hb hz; exact hv0
                | succ k => exact g3 k b z (by simpa using hb) (by simpa using hz)
              · rcases List.mem_append.1 hk with hk | hk
                · simp only [List.all_eq_true, Bool.not_eq_true', List.contains_eq_mem, decide_eq_false_iff_not] at hseen
                  exact hseen k hk
                · exact fun h => g5 k hk (List.mem_append_right _ h)
            · cases h
          · cases h
        · cases h
      · simp only [ansOf] at h
        split at h
        · rename_i cs ks hg
          split at h
          · rename_i hseen
            split at h
            · rename_i xa hxa
              cases h
              obtain ⟨_, hG⟩ := give_none _ _ _ _ _ hg
              obtain ⟨ats, ys, ks', g1, g2, g3, g4, g5, g6⟩ := ansOf_sound r _ xa us hxa (by simpa using hl) hvr
              obtain ⟨vs, rfl, hsz, hvv⟩ := hv0
              have hlen : vs.toList.length = cs.length := by rw [hG.len]; simpa using hsz
              refine ⟨xs ++ ats, vs.toList ++ ys, ks ++ ks', ?_, by simp [g2, hsz], fun k b z hb hz => ?_, ?_, fun k hk => ?_, by simp [g6, tvAts]⟩
              · have e : cvsOf (AV.agg cs :: xa) = cs ++ cvsOf xa := by simp [cvsOf, AV.cvs]
                rw [e]
                exact Given.append hG g1 (fun k hk hk' => g5 k hk' (List.mem_append_left _ hk))
              · by_cases hlt : k < xs.length
                · rw [List.getElem?_append_left hlt] at hb
                  rw [List.getElem?_append_left (by simp [hsz]; exact hlt)] at hz
                  exact (hvv k b z hb (by simpa using hz)).2
                · rw [List.getElem?_append_right (by omega)] at hb
                  rw [List.getElem?_append_right (by simp [hsz]; omega)] at hz
                  have e : vs.toList.length = xs.length := by simp [hsz]
                  rw [e] at hz
                  exact g3 _ b z hb hz
              · simp only [packV, ← hlen, List.take_left', List.drop_left', ← g4, Array.toArray_toList]
              · rcases List.mem_append.1 hk with hk | hk
                · simp only [List.all_eq_true, Bool.not_eq_true', List.contains_eq_mem, decide_eq_false_iff_not] at hseen
                  exact hseen k hk
                · exact fun h => g5 k hk (List.mem_append_right _ h)
            · cases h
          · cases h
        · cases h

theorem vm_retV {l : List TV} {v : Value} (h : VM w st E (mvOf l) v) : ∃ us : List Value, v = retV us ∧ l.length = us.length ∧ ∀ (k : Nat) (x : TV) (u : Value), l[k]? = some x → us[k]? = some u → VT w st E x u := by
  match l, h with
  | [], h =>
    obtain ⟨vs, rfl, h2, _⟩ := h
    have : vs = #[] := Array.eq_empty_of_size_eq_zero (by simpa using h2)
    subst this
    exact ⟨[], rfl, rfl, fun k x u h => by simp at h⟩
  | [x], h => exact ⟨[v], rfl, rfl, fun k y u hy hu => by
      cases k with
      | zero => simp at hy hu; subst hy hu; exact h
      | succ k => simp at hy⟩
  | x :: y :: l, h =>
    obtain ⟨vs, rfl, h2, h3⟩ := h
    refine ⟨vs.toList, ?_, by simp [h2], fun k z u hz hu => h3 k z u hz (by simpa using hu)⟩
    match hl : vs.toList, h2 with
    | [], h2 => have : vs.toList.length = 0 := by rw [hl]; rfl
                simp [h2] at this
    | [a], h2 => have : vs.toList.length = 1 := by rw [hl]; rfl
                 simp [h2] at this
    | a :: b :: r, _ => simp only [retV]; rw [← hl, Array.toArray_toList]

/-- **A function's contract**, from what the evaluator says of it. -/
theorem holds_of_eval (hO : EngOk C) {f : FuncId} {run : List AV → Option (Bool × List AV)} (hf : FnOk C.P f)
    (h : ∀ (avs : List AV) (rs : List AV), (∃ w xs, AllRep false w (cvsOf avs) xs (fun _ b => b < w.heap.size)) → run avs = some (true, rs) → ∃ tms N D, evalFn C tms N D f avs = some rs) : Holds C.P f run := by
  refine ⟨hf, fun w avs xs rs hrep hrun => ?_⟩
  obtain ⟨tms, N, D, hev⟩ := h avs rs ⟨w, xs, hrep⟩ hrun
  unfold evalFn at hev
  have hrootI : ∀ (r : Nat) (R : Root), aget (layAR false avs 0) r = some R → ∃ t l, (cvsOf avs)[r]? = some (.s t l) ∧ R = ⟨t, l, false, none⟩ := by
    intro r R hR
    obtain ⟨_, t, l, h2, h3⟩ := layAR_get false avs 0 r R hR
    exact ⟨t, l, by simpa using h2, h3⟩
  generalize hst : ({ tm := [], lo := [], ro := layAR false avs 0, stk := [], nid := (avs.flatMap AV.cvs).length, ep := 0 } : St) = st at hev
  have hro : ∀ (r : Nat) (R : Root), st.root r = some R → ∃ t l, (cvsOf avs)[r]? = some (.s t l) ∧ R = ⟨t, l, false, none⟩ := by
    intro r R hR
    have := (root_aget hR).1
    rw [← hst] at this
    exact hrootI r R this
  have hlo : ∀ l, aget st.lo l = none := fun l => by rw [← hst]; rfl
  let E : Env := { ρ := fun n => (xs[n]?).getD undef, φ := fun _ b => b < w.heap.size, β := fun _ => 0, κ := w }
  have hS : Sim w (fun _ => False) (fun n => n < (cvsOf avs).length) st E #[] [] w := by
    refine ⟨⟨rfl, rfl, rfl, Nat.le_refl _, fun _ _ _ => rfl, fun r R hR => ?_, fun r R _ x hx => hx, fun r R hR ho => ?_, fun r R r' R' hR ho => ?_, fun l cs hl => ?_, fun l l' cs cs' hl => ?_, fun l cs r R hl => ?_, fun r R e hR he => ?_, rfl⟩, ⟨fun n R hn => ?_, fun n cs hn => ?_, fun m hm => ?_, fun f hf => ?_⟩, ⟨?_, fun i m v hm => ?_⟩, ?_⟩
    · obtain ⟨t, l, h1, rfl⟩ := hro r R hR
      have hlt : r < xs.length := by rw [hrep.1]; exact (List.getElem?_eq_some_iff.1 h1).1
      have hx := List.getElem?_eq_getElem hlt
      show Rep false w ((xs[r]?).getD undef) (.s t l) _
      rw [hx]
      exact hrep.2 r _ _ h1 hx
    · obtain ⟨t, l, h1, rfl⟩ := hro r R hR
      cases ho
    · obtain ⟨t, l, h1, rfl⟩ := hro r R hR
      cases ho
    · rw [hlo] at hl; cases hl
    · rw [hlo] at hl; cases hl
    · rw [hlo] at hl; cases hl
    · rw [← hst] at hR
      obtain ⟨t, l, h1, rfl⟩ := hrootI r R hR
      cases he
    · rw [← hst] at hn
      obtain ⟨t, l, h1, _⟩ := hrootI n R hn
      exact (List.getElem?_eq_some_iff.1 h1).1
    · rw [hlo] at hn; cases hn
    · rw [← hst] at hm; simp at hm
    · rw [← hst] at hf; simp at hf
    · rw [← hst]; rfl
    · rw [← hst] at hm; simp at hm
    · rw [← hst]; trivial
  obtain ⟨hl1, hl2⟩ := layAV_vt (w := w) (st := st) (E := E) avs xs 0 hrep.1 (fun i c u hc hu => by
    have hr := hrep.2 i c u hc hu
    refine ⟨?_, hr.one⟩
    cases c with
    | i k n => exact hr.int_inv
    | b x => exact hr.bool_inv
    | s t l =>
      obtain ⟨⟨a, cap, hv, _⟩, _⟩ := hr.len
      refine ⟨⟨a, _, cap, hv⟩, fun R hR => ?_⟩
      have e : 0 + i = i := by omega
      show some ((xs[0 + i]?).getD undef) = some u
      rw [e, hu]; rfl)
  have hnid : st.nid = (cvsOf avs).length := by rw [← hst]; rfl
  obtain ⟨_, hcalls⟩ := denFn_sound hO (callIn_sound hO (tms := tms) (N := N) D) f _ st _ rs hev w (fun _ => False) _ E #[] [] w (packV avs xs).toArray
    (fun v w' => Grown w w' ∧ ∃ (ys : List Value) (K : Nat → BSet), AllRep true w' (cvsOf rs) ys K ∧ v = retV (packV rs ys) ∧ Fresh w w' (cvsOf rs).length K) hS (fun n hn h => by omega)
    (by simp [hl1]) (fun i m v hm hv => by
      rw [List.getElem?_map] at hm
      cases hx : (layAV avs 0)[i]? with
      | none => rw [hx] at hm; cases hm
      | some x => rw [hx] at hm; cases hm; exact hl2 i x v hx (by simpa using hv))
    (fun m hm n hn => by
      obtain ⟨x, hx, rfl⟩ := List.mem_map.1 hm
      simp only [MV.ids, mvAts, List.mem_flatMap] at hn
      obtain ⟨a, ha, hn⟩ := hn
      have := (layAV_ids avs 0 n x a hx ha hn).2
      omega)
    (fun U' st' E' w' tvs v hS' _ _ _ hv _ hans => by
      obtain ⟨us, rfl, hul, huv⟩ := vm_retV hv
      obtain ⟨ats, ys, ks, hG, hyl, hyv, rfl, _⟩ := ansOf_sound tvs [] rs us hans hul huv
      have hM := hS'.mem
      have hget : ∀ i, i < (cvsOf rs).length → ∃ a, ats[i]? = some a := fun i hi => ⟨_, List.getElem?_eq_getElem (by rw [← hG.len]; exact hi)⟩
      refine ⟨⟨hM.os, hM.tape, hM.output, hM.size, fun b hb => hM.keep b hb (fun h => h)⟩, ys, fun i => match ats[i]? with | some a => aφ E' a | none => fun _ => False, ⟨by rw [hyl, hG.len], fun i c x hc hx => ?_⟩, rfl, ⟨fun i x hi hx => ?_, fun i j x hi hj hx hx' => ?_⟩⟩
      · obtain ⟨a, ha⟩ := hget i (List.getElem?_eq_some_iff.1 hc).1
        simp only [ha]
        exact hG.rep hM ha hc (hyv i a x ha hx)
      · obtain ⟨a, ha⟩ := hget i hi
        simp only [ha] at hx
        obtain ⟨r, hr, _, hrx⟩ := hG.fi ha hx
        obtain ⟨R, hR, ho⟩ := hG.own r hr
        exact ⟨((hM.mine r R hR ho).2 x hrx).resolve_left (fun h => h), hM.rlt r R hR x hrx⟩
      · obtain ⟨a, ha⟩ := hget i hi
        obtain ⟨b, hb⟩ := hget j hj
        simp only [ha] at hx
        simp only [hb] at hx'
        obtain ⟨r, hr, rfl, hrx⟩ := hG.fi ha hx
        obtain ⟨r', hr', rfl, hrx'⟩ := hG.fi hb hx'
        obtain ⟨R, hR, ho⟩ := hG.own r hr
        obtain ⟨R', hR', ho'⟩ := hG.own r' hr'
        have := hM.own_apart hR ho hR' ho' hrx hrx'
        subst this
        exact hG.inj i j r ha hb)
  refine hcalls.mono ?_
  intro e w' he
  cases e with
  | returned v => exact he
  | panicked chain => exact he.elim
  | outgrown => exact he.elim

end
end Go.Proofs.Ytcfnaifggdelnaa.E
