/- What is proved here: a region's operations, one after the other, do what the evaluator says. -/
import Derived.Test.YtcfnaifggdelnaaS14
namespace Go.Proofs.Ytcfnaifggdelnaa.E
open Go

section
variable {C : Cfg} {w0 w w1 : World} {S0 : BSet} {U : Nat → Prop} {st st1 : St} {E E1 : Env} {ts : Array Value} {sv : List (Array Value)}

/-- The store that puts a slice into another one. -/
structure GraftOk (C : Cfg) : Prop where
  ok : ∀ (w0 w : World) (S0 : BSet) (U : Nat → Prop) (st : St) (E : Env) (ts : Array Value) (sv : List (Array Value)) (o : Oper) (id : Nat) (c : Bool) (st2 : St), Sim w0 S0 U st E ts sv w → graft C st o = some (c, st2) → c = true →
    Goes C w0 S0 U st ts sv w o id (fun _ => st2.put o.dst .und) ∧ st2.nid = st.nid
  mok : ∀ (w0 w : World) (S0 : BSet) (U : Nat → Prop) (st : St) (E : Env) (ts : Array Value) (sv : List (Array Value)) (o : Oper) (id : Nat) (c : Bool) (st2 : St) (m : MV), Sim w0 S0 U st E ts sv w → mcall C st o = some (c, st2, m) → c = true →
    Goes C w0 S0 U st ts sv w o id (fun _ => st2.put o.dst m) ∧ st2.nid = st.nid
  pok : ∀ (w0 w : World) (S0 : BSet) (U : Nat → Prop) (st : St) (E : Env) (ts : Array Value) (sv : List (Array Value)) (o : Oper) (id : Nat) (c : Bool) (st2 : St) (m : MV), Sim w0 S0 U st E ts sv w → (∀ n, Mine id n → ¬ U n) → pcall C st o id = some (c, st2, m) → c = true →
    Goes C w0 S0 U st ts sv w o id (fun _ => st2.put o.dst m) ∧ st2.nid = st.nid
  tok : ∀ (w0 w : World) (S0 : BSet) (U : Nat → Prop) (st : St) (E : Env) (ts : Array Value) (sv : List (Array Value)) (o : Oper) (id : Nat) (c : Bool) (st2 : St) (m : MV), Sim w0 S0 U st E ts sv w → (∀ n, Mine id n → ¬ U n) → tcall C st o id = some (c, st2, m) → c = true →
    Goes C w0 S0 U st ts sv w o id (fun _ => st2.put o.dst m) ∧ st2.nid = st.nid

/-- The functions that write into what they are handed. -/
structure MctOk (C : Cfg) : Prop where
  ok : ∀ f run, C.mct f = some run → HoldsI C.P f run

structure NameOk (C : Cfg) : Prop where
  ok : ∀ (f : FuncId) (fn : Func), C.P.funcs[f]? = some fn → (fn.name == "runtime.NumGoroutine") = false

/-- A call that is walked into. -/
def CallOk (C : Cfg) (call : InCall) : Prop :=
  ∀ (f : FuncId) (vs : List MV) (st : St) (k : List TV → St → Option Ans) (ans : Ans), call f vs st k = some ans →
    ∀ (w0 : World) (S0 : BSet) (U : Nat → Prop) (E : Env) (ts : Array Value) (sv : List (Array Value)) (w : World) (vals : Array Value) (R : Value → World → Prop), Sim w0 S0 U st E ts sv w → (∀ n, st.nid ≤ n → ¬ U n) →
      vals.size = vs.length → (∀ (i : Nat) (m : MV) (v : Value), vs[i]? = some m → vals[i]? = some v → VM w st E m v) → (∀ m ∈ vs, ∀ n ∈ m.ids, U n) →
      (∀ (U' : Nat → Prop) (st' : St) (E' : Env) (w' : World) (rs : List TV) (v : Value), Sim w0 S0 U' st' E' ts sv w' → (∀ n, U' n → U n ∨ st.nid ≤ n) → st.nid ≤ st'.nid → (∀ n, st'.nid ≤ n → ¬ U' n) →
        VM w' st' E' (mvOf rs) v → (∀ n ∈ (mvOf rs).ids, U' n) → k rs st' = some ans → R v w') →
      (∃ fn b, C.P.funcs[f]? = some fn ∧ fn.body = some b) ∧ Calls C.P f vals w fun | .returned v, w' => R v w' | _, _ => False

theorem put_same {d : Nat} {m : MV} (h : st.tm[d]? = some m) : st.put (some d) m = st := by
  have : st.tm.set d m = st.tm := by
    apply List.ext_getElem?
    intro k
    rw [List.getElem?_set]
    split
    · rename_i e
      subst e
      split
      · exact h.symm
      · rename_i hlt
        rw [List.getElem?_eq_none (by omega)] at h
        cases h
    · rfl
  simp only [St.put, this]

theorem guarded_sound (hS : Sim w0 S0 U st E ts sv w) {ops : Array Oper} {o : Oper} {run skip : St → Option Ans} {ans : Ans} (h : guarded ops o st run skip = some ans) :
    (Region.wanted o (yielded ops ts) = true ∧ run st = some ans) ∨ (Region.wanted o (yielded ops ts) = false ∧ skip (st.put o.dst .und) = some ans) := by
  unfold guarded at h
  split at h
  · rename_i hg
    exact .inl ⟨by simp [Region.wanted, hg], h⟩
  · rename_i j want hg
    have hgo : ∀ {m : MV}, guardOf st ops j = some m → ∃ o' t, ops[j]? = some o' ∧ o'.dst = some t ∧ st.tm[t]? = some m ∧ guardDst ops j = some t := by
      intro m hm
      unfold guardOf at hm
      split at hm
      · rename_i o' ho'
        split at hm
        · rename_i t ht
          exact ⟨o', t, ho', ht, hm, by simp [guardDst, ho', ht]⟩
        · cases hm
      · cases hm
    have hval : ∀ {m : MV} {t : Nat}, st.tm[t]? = some m → ∃ v, ts[t]? = some v ∧ VM w st E m v := by
      intro m t ht
      have hlt : t < ts.size := by rw [hS.tm.1]; exact (List.getElem?_eq_some_iff.1 ht).1
      exact ⟨ts[t], by simp [hlt], hS.tm.2 t m _ ht (by simp [hlt])⟩
    split at h
    · rename_i hm
      obtain ⟨o', t, h1, h2, h3, _⟩ := hgo hm
      obtain ⟨v, hv, hvm⟩ := hval h3
      simp only [VM] at hvm
      subst hvm
      refine .inr ⟨?_, h⟩
      have : yielded ops ts j = none := by simp [yielded, h1, h2, hv, undef]
      simp [Region.wanted, hg, this]
    · rename_i x hm
      obtain ⟨o', t, h1, h2, h3, h4⟩ := hgo hm
      obtain ⟨v, hv, hvm⟩ := hval h3
      simp only [VM, VT, VA] at hvm
      subst hvm
      have hy : yielded ops ts j = some x := by simp [yielded, h1, h2, hv]
      rw [h4] at h
      cases x <;> cases want <;> simp only [cond_true, cond_false] at h <;> rw [put_same h3] at h
      · exact .inl ⟨by simp [Region.wanted, hg, hy], h⟩
      · exact .inr ⟨by simp [Region.wanted, hg, hy], h⟩
      · exact .inr ⟨by simp [Region.wanted, hg, hy], h⟩
      · exact .inl ⟨by simp [Region.wanted, hg, hy], h⟩
    · cases h

/-- A slot is given a value. -/
theorem Sim.putV (hS : Sim w0 S0 U st E ts sv w) {dst : Option Tmp} {m : MV} {v : Value} (hv : VM w st E m v) (hi : ∀ n ∈ m.ids, U n) : Sim w0 S0 U (st.put dst m) E (({ tmps := ts, defers := [] } : Act).put dst v).tmps sv w :=
  Sim.next hS hS.mem Sim.trans_self rfl rfl (fun _ h => h) hS.ids.ro hS.ids.lo hv hi

theorem act_put (dst : Option Tmp) (v : Value) : ({ tmps := ts, defers := [] } : Act).put dst v = { tmps := (({ tmps := ts, defers := [] } : Act).put dst v).tmps, defers := [] } := by
  cases dst <;> rfl

theorem forceAt_eq {β : Type} (a : At) (k : At → β) : forceAt a k = k a := by cases a <;> rfl
theorem forceMV_eq {β : Type} (m : MV) (k : MV → β) : forceMV m k = k m := by
  rcases m with _ | x | l
  · rfl
  · rcases x with a | l
    · exact forceAt_eq a (fun a => k (.v (.at a)))
    · rfl
  · rfl
theorem forceTm_eq {β : Type} : ∀ (l : List MV) (k : List MV → β), forceTm l k = k l
  | [], _ => rfl
  | m :: l, k => by simp only [forceTm, forceMV_eq, forceTm_eq l]

theorem forceNat_eq {β : Type} (n : Nat) (k : Nat → β) : forceNat n k = k n := by cases n <;> rfl
theorem forceB_eq {β : Type} (b : Bool) (k : Bool → β) : forceB b k = k b := by cases b <;> rfl
theorem forceEp_eq {β : Type} (e : Option Nat) (k : Option Nat → β) : forceEp e k = k e := by
  cases e with
  | none => rfl
  | some n => exact forceNat_eq n (fun n => k (some n))
theorem forceAts_eq {β : Type} : ∀ (l : List At) (k : List At → β), forceAts l k = k l
  | [], _ => rfl
  | a :: l, k => by simp only [forceAts, forceAt_eq, forceAts_eq l]
theorem forceLo_eq {β : Type} : ∀ (l : List (Nat × List At)) (k : List (Nat × List At) → β), forceLo l k = k l
  | [], _ => rfl
  | (n, cs) :: l, k => by simp only [forceLo, forceNat_eq, forceAts_eq, forceLo_eq l]
theorem forceRo_eq {β : Type} : ∀ (l : List (Nat × Root)) (k : List (Nat × Root) → β), forceRo l k = k l
  | [], _ => rfl
  | (n, ⟨t, x, own, ep⟩) :: l, k => by simp only [forceRo, forceNat_eq, forceB_eq, forceEp_eq, forceRo_eq l]
theorem forced_eq (k : St → Option Ans) : st.forced k = k st := by
  unfold St.forced
  simp only [forceTm_eq, forceLo_eq, forceRo_eq, forceNat_eq]

theorem shared_eq (k : St → Option Ans) : st.shared k = k st := by
  unfold St.shared
  rw [forceTm_eq]
  split
  · rename_i r R ro h
    simp only [share]
    congr 1
    cases st
    simp only at h
    subst h
    rfl
  · rfl

theorem wrote_eq (o : Oper) (d : Dl) (k : St → Option Ans) : wrote o d st k = k st := by
  unfold wrote
  split
  · exact shared_eq k
  · rfl

theorem isIn_some {o : Oper} {f : FuncId} {caps : List Nat} {args : Array Operand} (h : isIn C st o = some (f, caps, args)) : ∃ (c : Call) (x : Operand), o.op = .call c ∧ c.callee = .value x ∧ c.args = args ∧ st.at x = some (.fn f caps) := by
  unfold isIn at h
  split at h
  · rename_i x args' at' ho
    split at h
    · rename_i f' caps' hx
      cases hb : byName C x f' with
      | true => rw [hb] at h; cases h
      | false =>
        rw [hb] at h
        cases h
        exact ⟨_, x, ho, rfl, rfl, hx⟩
    · cases h
  · cases h

theorem apply_nid {d : Dl} {dst : Option Tmp} : (st.apply dst d).nid = st.nid := by
  cases dst <;> rfl

theorem put_nid {m : MV} {dst : Option Tmp} : (st.put dst m).nid = st.nid := by
  cases dst <;> rfl

theorem mine_ne {base i j n : Nat} (h : i ≠ j) (h1 : Mine (base + 32 * i) n) : ¬ Mine (base + 32 * j) n := by
  intro h2
  obtain ⟨a, b⟩ := h1
  obtain ⟨c, d⟩ := h2
  omega

theorem denOps_sound (hC : CfgOk C) (hH : CtrOk C) (hG : GraftOk C) (hN : NameOk C) {call : InCall} (hcall : CallOk C call) {ops : Array Oper} {base : Nat} {k : St → Option Ans} {ans : Ans} {Q : Exit → Act → World → Prop} {V : Nat → Prop} {nid0 : Nat} (hV : ∀ n, nid0 ≤ n → V n)
    (hk : ∀ (U' : Nat → Prop) (st' : St) (E' : Env) (ts' : Array Value) (w' : World), Sim w0 S0 U' st' E' ts' sv w' → (∀ n, U' n → V n) → nid0 ≤ st'.nid → (∀ n, st'.nid ≤ n → ¬ U' n) → k st' = some ans → Q .normal { tmps := ts', defers := [] } w') :
    ∀ (l : List Nat) (U : Nat → Prop) (st : St) (E : Env) (ts : Array Value) (w : World), Sim w0 S0 U st E ts sv w → (∀ n, U n → V n) → (∀ n, st.nid ≤ n → ¬ U n) → (∀ j ∈ l, ∀ n, Mine (base + 32 * j) n → ¬ U n ∧ V n) → l.Nodup → nid0 ≤ st.nid → (∀ j ∈ l, base + 32 * j + 32 ≤ st.nid) →
      denOps C call ops base k l st = some ans → wpOps C.P ops Q l { tmps := ts, defers := [] } w
  | [], U, st, E, ts, w, hS, hU, hF, _, _, hn0, _, h => hk U st E ts w hS hU hn0 hF h
  | i :: rest, U, st, E, ts, w, hS, hU, hF, hM, hnd, hn0, hb, h => by
    simp only [denOps] at h
    split at h
    · cases h
    · rename_i o ho
      have hnd' := List.nodup_cons.1 hnd
      have hMi : ∀ n, Mine (base + 32 * i) n → ¬ U n := fun n h => (hM i (by simp) n h).1
      have hbi := hb i (by simp)
      -- what follows an operation that uses its own numbers only
      have next : ∀ {st2 : St} {E2 : Env} {ts2 : Array Value} {w2 : World}, Sim w0 S0 (fun n => U n ∨ Mine (base + 32 * i) n) st2 E2 ts2 sv w2 → st2.nid = st.nid → denOps C call ops base k rest st2 = some ans → wpOps C.P ops Q rest { tmps := ts2, defers := [] } w2 := by
        intro st2 E2 ts2 w2 hS2 hn2 h2
        refine denOps_sound hC hH hG hN hcall hV hk rest _ st2 E2 ts2 w2 hS2 ?_ ?_ ?_ hnd'.2 (by omega) (fun j hj => by rw [hn2]; exact hb j (by simp [hj])) h2
        · rintro n (hn | hn)
          · exact hU n hn
          · exact (hM i (by simp) n hn).2
        · rintro n hn (h | h)
          · exact hF n (by omega) h
          · have := h.2; omega
        · intro j hj n hm
          refine ⟨?_, (hM j (by simp [hj]) n hm).2⟩
          rintro (h | h)
          · exact (hM j (by simp [hj]) n hm).1 h
          · exact mine_ne (i := i) (j := j) (fun e => hnd'.1 (by rw [e]; exact hj)) h hm
      have weak : ∀ {st2 : St} {E2 : Env} {ts2 : Array Value} {w2 : World}, Sim w0 S0 U st2 E2 ts2 sv w2 → Sim w0 S0 (fun n => U n ∨ Mine (base + 32 * i) n) st2 E2 ts2 sv w2 :=
        fun h => ⟨h.mem, ⟨fun n R hn => .inl (h.ids.ro n R hn), fun n cs hn => ⟨.inl (h.ids.lo n cs hn).1, fun a ha m hm => .inl ((h.ids.lo n cs hn).2 a ha m hm)⟩, fun m hm n hn => .inl (h.ids.tm m hm n hn), fun f hf m hm n hn => .inl (h.ids.stk f hf m hm n hn)⟩, h.tm, h.stk⟩
      simp only [wpOps, ho]
      rcases guarded_sound hS h with ⟨hw, hrun⟩ | ⟨hw, hskip⟩
      · rw [if_pos hw]
        refine .inl ?_
        split at hrun
        · rename_i f caps args hin
          split at hrun
          · rename_i vs hvs
            obtain ⟨c, x, hop, hcb, rfl, hx⟩ := isIn_some hin
            obtain ⟨hxv, hxi⟩ := at_sound hS hx
            obtain ⟨cv, hcv, hcs, hcp⟩ := hxv
            obtain ⟨hvl, hvf⟩ := optAll_some hvs
            have hvals : (c.args.map ({ tmps := ts, defers := [] } : Act).eval ++ cv).size = (vs ++ caps.map fun l => MV.v (.at (.lp l 0))).length := by
              simp [hcs, ← hvl]
            have hargs : ∀ (i : Nat) (m : MV) (v : Value), (vs ++ caps.map fun l => MV.v (.at (.lp l 0)))[i]? = some m → (c.args.map ({ tmps := ts, defers := [] } : Act).eval ++ cv)[i]? = some v → VM w st E m v ∧ ∀ n ∈ m.ids, U n := by
              intro i m v hm hv
              have hsz : (c.args.map ({ tmps := ts, defers := [] } : Act).eval).size = vs.length := by simp [← hvl]
              by_cases hi : i < vs.length
              · rw [List.getElem?_append_left hi] at hm
                rw [Array.getElem?_append_left (by rw [hsz]; exact hi), Array.getElem?_map] at hv
                cases ha : c.args[i]? with
                | none => rw [ha] at hv; cases hv
                | some y =>
                  rw [ha] at hv
                  cases hv
                  exact opnd_sound hS (hvf i y m (by simpa using ha) hm)
              · rw [List.getElem?_append_right (by omega), List.getElem?_map] at hm
                rw [Array.getElem?_append_right (by rw [hsz]; omega), hsz] at hv
                cases hc : caps[i - vs.length]? with
                | none => rw [hc] at hm; cases hm
                | some l =>
                  rw [hc] at hm
                  cases hm
                  refine ⟨hcp _ l v hc hv, fun n hn => hxi n ?_⟩
                  rw [ids_at] at hn
                  simp only [At.ids, atIds, atLids, List.nil_append, List.mem_singleton] at hn
                  subst hn
                  simp only [At.ids, atIds, atLids, List.nil_append]
                  exact List.mem_of_getElem? hc
            obtain ⟨⟨fn, b, hf, hb'⟩, hcalls⟩ := hcall f _ st _ ans hrun w0 S0 U E ts sv w (c.args.map ({ tmps := ts, defers := [] } : Act).eval ++ cv) (fun v w' => wpOps C.P ops Q rest (({ tmps := ts, defers := [] } : Act).put o.dst v) w') hS hF hvals
              (fun i m v hm hv => (hargs i m v hm hv).1) (fun m hm n hn => by
                obtain ⟨i, hi⟩ := List.mem_iff_getElem?.1 hm
                have hlt : i < (c.args.map ({ tmps := ts, defers := [] } : Act).eval ++ cv).size := by rw [hvals]; exact (List.getElem?_eq_some_iff.1 hi).1
                exact (hargs i m _ hi (Array.getElem?_eq_getElem hlt)).2 n hn)
              (fun U' st' E' w' rs v hS' hU' hnid hF' hv hi hkk => by
                have hS2 := hS'.putV (dst := o.dst) hv hi
                rw [act_put]
                refine denOps_sound hC hH hG hN hcall hV hk rest U' _ E' _ w' hS2 ?_ (by rw [put_nid]; exact hF') ?_ hnd'.2 (by rw [put_nid]; omega) (fun j hj => by rw [put_nid]; have := hb j (by simp [hj]); omega) hkk
                · intro n hn
                  rcases hU' n hn with h | h
                  · exact hU n h
                  · exact hV n (by omega)
                · intro j hj n hm
                  refine ⟨fun hn => ?_, (hM j (by simp [hj]) n hm).2⟩
                  rcases hU' n hn with h | h
                  · exact (hM j (by simp [hj]) n hm).1 h
                  · have := hb j (by simp [hj])
                    have := hm.2
                    omega)
            have hname := hN.ok f fn hf
            have hname' : fn.name ≠ "runtime.NumGoroutine" := by simpa using hname
            have hexec : (execOp ({ tmps := ts, defers := [] } : Act).eval o).run C.P w = .ok (.enter f (c.args.map ({ tmps := ts, defers := [] } : Act).eval ++ cv)) w := by
              simp [execOp, hop, resolve, hcb, hcv, Deferred.ofValue, invoke, callFunc, hf, hb', hname']
            unfold Oper.wp
            rw [hexec, Oper.upon_enter]
            refine hcalls.mono ?_
            intro e w' he
            cases e with
            | returned v => exact he
            | panicked chain => exact he.elim
            | outgrown => exact he.elim
          · cases hrun
        · unfold step1 at hrun
          simp only [wrote_eq, shared_eq] at hrun
          split at hrun
          · rename_i d hd
            cases hdc : d.c with
            | false => rw [hdc] at hrun; cases hrun
            | true =>
              rw [hdc] at hrun
              simp only [cond_true] at hrun
              refine delta_sound hC hH hS hMi hd hdc _ _ (fun E' v w' hS' => ?_)
              rw [act_put]
              exact next hS' apply_nid hrun
          · split at hrun
            · rename_i c st2 hg
              cases hcc : c with
              | false => rw [hcc] at hrun; cases hrun
              | true =>
                rw [hcc] at hrun
                simp only [cond_true] at hrun
                obtain ⟨hgo, hgn⟩ := hG.ok w0 w S0 U st E ts sv o (base + 32 * i) c st2 hS hg hcc
                refine hgo _ _ (fun E' v w' hS' => ?_)
                rw [act_put]
                exact next hS' (by rw [put_nid]; exact hgn) hrun
            · split at hrun
              · rename_i c st2 m hg
                cases hcc : c with
                | false => rw [hcc] at hrun; cases hrun
                | true =>
                  rw [hcc] at hrun
                  simp only [cond_true] at hrun
                  obtain ⟨hgo, hgn⟩ := hG.mok w0 w S0 U st E ts sv o (base + 32 * i) c st2 m hS hg hcc
                  refine hgo _ _ (fun E' v w' hS' => ?_)
                  rw [act_put]
                  exact next hS' (by rw [put_nid]; exact hgn) hrun
              · split at hrun
                · rename_i c st2 m hg
                  cases hcc : c with
                  | false => rw [hcc] at hrun; cases hrun
                  | true =>
                    rw [hcc] at hrun
                    simp only [cond_true] at hrun
                    obtain ⟨hgo, hgn⟩ := hG.pok w0 w S0 U st E ts sv o (base + 32 * i) c st2 m hS hMi hg hcc
                    refine hgo _ _ (fun E' v w' hS' => ?_)
                    rw [act_put]
                    exact next hS' (by rw [put_nid]; exact hgn) hrun
                · split at hrun
                  · rename_i c st2 m hg
                    cases hcc : c with
                    | false => rw [hcc] at hrun; cases hrun
                    | true =>
                      rw [hcc] at hrun
                      simp only [cond_true] at hrun
                      obtain ⟨hgo, hgn⟩ := hG.tok w0 w S0 U st E ts sv o (base + 32 * i) c st2 m hS hMi hg hcc
                      refine hgo _ _ (fun E' v w' hS' => ?_)
                      rw [act_put]
                      exact next hS' (by rw [put_nid]; exact hgn) hrun
                  · cases hrun
      · rw [if_neg (by simp [hw])]
        have hS2 := hS.putV (dst := o.dst) (m := .und) (v := undef) rfl (fun n hn => by simp [MV.ids, mvAts] at hn)
        rw [act_put]
        exact next (weak hS2) put_nid hskip

end
end Go.Proofs.Ytcfnaifggdelnaa.E
