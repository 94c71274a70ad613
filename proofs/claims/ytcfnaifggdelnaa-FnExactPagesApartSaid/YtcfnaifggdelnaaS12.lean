/- What is proved here: contracts of functions over plain data, and that a call by contract does what the evaluator says. -/
import Derived.Test.YtcfnaifggdelnaaS11
namespace Go.Proofs.Ytcfnaifggdelnaa.E
open Go

/-- Values read as contents, each in blocks of its own. -/
def AllRep (o : Bool) (w : World) (cvs : List CV) (xs : List Value) (K : Nat → BSet) : Prop :=
  xs.length = cvs.length ∧ ∀ (i : Nat) (c : CV) (x : Value), cvs[i]? = some c → xs[i]? = some x → Rep o w x c (K i)

def cvsOf (rs : List AV) : List CV := rs.flatMap AV.cvs

/-- Cells put together to values. -/
def packV : List AV → List Value → List Value
  | [], _ => []
  | .one _ :: r, xs => xs.headD undef :: packV r (xs.drop 1)
  | .agg cs :: r, xs => .agg (xs.take cs.length).toArray :: packV r (xs.drop cs.length)

def retV : List Value → Value
  | [x] => x
  | l => .tuple l.toArray

/-- The world after: what was there is as it was. -/
structure Grown (w w' : World) : Prop where
  os : w'.os = w.os
  tape : w'.tape = w.tape
  output : w'.output = w.output
  size : w.heap.size ≤ w'.heap.size
  keep : ∀ b, b < w.heap.size → w'.heap[b]? = w.heap[b]?

structure FnOk (P : Program) (f : FuncId) : Prop where
  ok : ∃ fn b, P.funcs[f]? = some fn ∧ fn.body = some b ∧ (fn.name == "runtime.NumGoroutine") = false

/-- What is laid anew: each in blocks that were not there, no two in one. -/
structure Fresh (w w' : World) (n : Nat) (K : Nat → BSet) : Prop where
  lt : ∀ i x, i < n → K i x → w.heap.size ≤ x ∧ x < w'.heap.size
  dis : ∀ i j x, i < n → j < n → K i x → K j x → i = j

/-- The contract of a function that only looks at its arguments and hands back what is its own. -/
def Holds (P : Program) (f : FuncId) (run : List AV → Option (Bool × List AV)) : Prop :=
  FnOk P f ∧ ∀ (w : World) (avs : List AV) (xs : List Value) (rs : List AV), AllRep false w (cvsOf avs) xs (fun _ b => b < w.heap.size) → run avs = some (true, rs) →
    Calls P f (packV avs xs).toArray w fun
      | .returned v, w' => Grown w w' ∧ ∃ (ys : List Value) (K : Nat → BSet), AllRep true w' (cvsOf rs) ys K ∧ v = retV (packV rs ys) ∧ Fresh w w' (cvsOf rs).length K
      | _, _ => False

/-- The contract of a function that writes into the slice that it is handed: it hands back a number; the slice's header is as it was. -/
def HoldsI (P : Program) (f : FuncId) (run : CV → Int → Option (Bool × CV × Int)) : Prop :=
  FnOk P f ∧ ∀ (w : World) (v : Value) (t : Ty) (l : List t.den) (k : Int) (S : BSet) (c' : CV) (k' : Int), Rep true w v (.s t l) S → (∀ x, S x → x < w.heap.size) → run (.s t l) k = some (true, c', k') →
    Calls P f #[v, .int .i64 k] w fun
      | .returned u, w' => w'.os = w.os ∧ w'.tape = w.tape ∧ w'.output = w.output ∧ w.heap.size ≤ w'.heap.size ∧ (∀ b, b < w.heap.size → ¬ S b → w'.heap[b]? = w.heap[b]?) ∧ u = .int .i64 k' ∧
          ∃ S' : BSet, Rep true w' v c' S' ∧ ∀ x, S' x → (S x ∨ w.heap.size ≤ x) ∧ x < w'.heap.size
      | _, _ => False

section
variable {C : Cfg} {w0 w w1 : World} {S0 : BSet} {U : Nat → Prop} {st st1 : St} {E E1 : Env} {ts : Array Value} {sv : List (Array Value)}

theorem AllRep.append {o : Bool} {c1 c2 : List CV} {x1 x2 : List Value} {K : Nat → BSet} (h1 : AllRep o w c1 x1 K) (h2 : AllRep o w c2 x2 (fun i => K (c1.length + i))) : AllRep o w (c1 ++ c2) (x1 ++ x2) K := by
  refine ⟨by simp [h1.1, h2.1], fun i c x hc hx => ?_⟩
  by_cases hi : i < c1.length
  · rw [List.getElem?_append_left hi] at hc
    rw [List.getElem?_append_left (by rw [h1.1]; exact hi)] at hx
    exact h1.2 i c x hc hx
  · rw [List.getElem?_append_right (by omega)] at hc
    rw [List.getElem?_append_right (by rw [h1.1]; omega), h1.1] at hx
    have := h2.2 _ c x hc hx
    have e : c1.length + (i - c1.length) = i := by omega
    simp only at this
    rw [e] at this
    exact this

theorem cvOf_sound (hS : Sim w0 S0 U st E ts sv w) {a : At} {u : Value} {c : CV} (hc : st.cvOf a = some c) (hu : VA w st E a u) : Rep false w u c (fun b => b < w.heap.size) ∧ u.oneCell' = true := by
  cases a with
  | i k n => cases hc; cases hu; exact ⟨.i _ _ _, rfl⟩
  | b x => cases hc; cases hu; exact ⟨.b _ _, rfl⟩
  | sl r p =>
    simp only [St.cvOf] at hc
    obtain ⟨R, hR, hg⟩ := node_root hc
    obtain ⟨t', l', S', h1, h2, h3, h4⟩ := Rep.at p (hS.mem.rep r R hR) (hu.2 R hR)
    rw [hg] at h1
    cases h1
    exact ⟨(h3.weak (fun x hx => hS.mem.rlt r R hR x (h4 x hx))).ro, h3.one⟩
  | bad => cases hc
  | lp l off => cases hc
  | ep r p i off => cases hc
  | fn f caps => cases hc
  | kp r J t => cases hc

theorem args_sound (hS : Sim w0 S0 U st E ts sv w) : ∀ (l : List Operand) (avs : List AV), optAll (fun x => match st.opnd x with | some v => st.avOf v | none => none) l = some avs →
    ∃ xs, AllRep false w (cvsOf avs) xs (fun _ b => b < w.heap.size) ∧ l.map ({ tmps := ts, defers := [] } : Act).eval = packV avs xs
  | [], avs, h => by
    cases h
    exact ⟨[], ⟨rfl, fun i c x h => by simp [cvsOf] at h⟩, rfl⟩
  | x :: r, avs, h => by
    simp only [optAll] at h
    split at h
    · rename_i av hav
      split at h
      · rename_i avs' hr
        cases h
        obtain ⟨xs, hxs, hm⟩ := args_sound hS r avs' hr
        split at hav
        · rename_i mv hmv
          obtain ⟨hv, -⟩ := opnd_sound hS hmv
          unfold St.avOf at hav
          split at hav
          · rename_i a
            split at hav
            · rename_i c hc
              cases hav
              obtain ⟨h1, h2⟩ := cvOf_sound hS hc hv
              refine ⟨({ tmps := ts, defers := [] } : Act).eval x :: xs, ?_, by simp [packV, hm]⟩
              have e : cvsOf (AV.one c :: avs') = [c] ++ cvsOf avs' := by simp [cvsOf, AV.cvs]
              rw [e]
              refine AllRep.append (x1 := [({ tmps := ts, defers := [] } : Act).eval x]) ⟨rfl, fun i c' u hc' hu => ?_⟩ hxs
              cases i with
              | zero => simp at hc' hu; subst hc' hu; exact h1
              | succ i => simp at hc'
            · cases hav
          · rename_i l
            split at hav
            · rename_i cs hcs
              cases hav
              obtain ⟨vs, hvs, hsz, hvv⟩ := hv
              obtain ⟨hl, hf⟩ := optAll_some hcs
              have hlen : vs.toList.length = cs.length := by simp [hsz, hl]
              refine ⟨vs.toList ++ xs, ?_, ?_⟩
              · have e : cvsOf (AV.agg cs :: avs') = cs ++ cvsOf avs' := by simp [cvsOf, AV.cvs]
                rw [e]
                refine AllRep.append ⟨hlen, fun i c' u hc' hu => ?_⟩ hxs
                have hi : i < l.length := by rw [hl]; exact (List.getElem?_eq_some_iff.1 hc').1
                have ha := List.getElem?_eq_getElem hi
                exact (cvOf_sound hS (hf i _ _ ha hc') (hvv i _ u ha (by simpa using hu)).2).1
              · simp only [List.map_cons, packV, hvs, ← hlen, List.take_left', List.drop_left', hm, Array.toArray_toList]
            · cases hav
          · cases hav
        · cases hav
      · cases h
    · cases h

/-! Results laid as slices of their own. -/

def layOne (n : Nat) : CV → At
  | .i k x => .i k x
  | .b x => .b x
  | .s _ _ => .sl n []

theorem layC_get : ∀ (cs : List CV) (id k : Nat), (layC cs id)[k]? = cs[k]?.map (layOne (id + k))
  | [], id, k => by simp [layC]
  | c :: cs, id, k => by
    have e : layC (c :: cs) id = layOne id c :: layC cs (id + 1) := by cases c <;> rfl
    rw [e]
    cases k with
    | zero => simp
    | succ k =>
      simp only [List.getElem?_cons_succ]
      rw [layC_get cs (id + 1) k]
      congr 2
      omega

theorem layC_len : ∀ (cs : List CV) (id : Nat), (layC cs id).length = cs.length
  | [], _ => rfl
  | c :: cs, id => by cases c <;> simp [layC, layC_len cs (id + 1)]

theorem layR_get (own : Bool) : ∀ (cs : List CV) (id n : Nat) (R : Root), aget (layR own cs id) n = some R → id ≤ n ∧ ∃ t l, cs[n - id]? = some (.s t l) ∧ R = ⟨t, l, own, none⟩
  | [], _, _, _, h => by cases h
  | c :: cs, id, n, R, h => by
    have hr : aget (layR own cs (id + 1)) n = some R → id ≤ n ∧ ∃ t l, (c :: cs)[n - id]? = some (.s t l) ∧ R = ⟨t, l, own, none⟩ := fun h => by
      obtain ⟨h1, t, l, h2, h3⟩ := layR_get own cs (id + 1) n R h
      have e : n - id = (n - (id + 1)) + 1 := by omega
      exact ⟨by omega, t, l, by rw [e, List.getElem?_cons_succ]; exact h2, h3⟩
    cases c with
    | i k x => exact hr h
    | b x => exact hr h
    | s t l =>
      simp only [layR, aget] at h
      split at h
      · rename_i he
        simp only [beq_iff_eq] at he
        subst he
        cases h
        exact ⟨Nat.le_refl _, t, l, by simp, rfl⟩
      · exact hr h

theorem layAR_get (own : Bool) : ∀ (rs : List AV) (id n : Nat) (R : Root), aget (layAR own rs id) n = some R → id ≤ n ∧ ∃ t l, (cvsOf rs)[n - id]? = some (.s t l) ∧ R = ⟨t, l, own, none⟩
  | [], _, _, _, h => by cases h
  | x :: rs, id, n, R, h => by
    have e : cvsOf (x :: rs) = x.cvs ++ cvsOf rs := by simp [cvsOf]
    have h : aget (layR own x.cvs id ++ layAR own rs (id + x.cvs.length)) n = some R := h
    rw [aget_append] at h
    rw [e]
    split at h
    · rename_i Q hQ
      cases h
      obtain ⟨h1, t, l, h2, h3⟩ := layR_get own x.cvs id n R hQ
      refine ⟨h1, t, l, ?_, h3⟩
      rw [List.getElem?_append_left (List.getElem?_eq_some_iff.1 h2).1]
      exact h2
    · obtain ⟨h1, t, l, h2, h3⟩ := layAR_get own rs (id + x.cvs.length) n R h
      refine ⟨by omega, t, l, ?_, h3⟩
      rw [List.getElem?_append_right (by omega)]
      have e2 : n - id - x.cvs.length = n - (id + x.cvs.length) := by omega
      rw [e2]
      exact h2

theorem layAV_vt : ∀ (rs : List AV) (ys : List Value) (id : Nat), ys.length = (cvsOf rs).length → (∀ (i : Nat) (c : CV) (u : Value), (cvsOf rs)[i]? = some c → ys[i]? = some u → VA w st E (layOne (id + i) c) u ∧ u.oneCell' = true) →
    (layAV rs id).length = (packV rs ys).length ∧ ∀ (k : Nat) (x : TV) (u : Value), (layAV rs id)[k]? = some x → (packV rs ys)[k]? = some u → VT w st E x u
  | [], ys, id, _, _ => ⟨rfl, fun k x u h => by simp [layAV] at h⟩
  | .one c :: rs, ys, id, hl, hv => by
    have e : cvsOf (AV.one c :: rs) = c :: cvsOf rs := by simp [cvsOf, AV.cvs]
    rw [e] at hl hv
    cases ys with
    | nil => simp at hl
    | cons y ys =>
      obtain ⟨h1, h2⟩ := layAV_vt rs ys (id + 1) (by simpa using hl) (fun i c u hc hu => by
        have := hv (i + 1) c u (by simpa using hc) (by simpa using hu)
        have e : id + (i + 1) = id + 1 + i := by omega
        rw [e] at this
        exact this)
      refine ⟨by simp [layAV, packV, h1], fun k x u hx hu => ?_⟩
      cases k with
      | zero =>
        simp only [layAV, packV, List.getElem?_cons_zero, Option.some.injEq, List.headD_cons] at hx hu
        subst hx hu
        have := (hv 0 c y (by simp) (by simp)).1
        cases c <;> exact this
      | succ k => exact h2 k x u (by simpa [layAV] using hx) (by simpa [packV] using hu)
  | .agg cs :: rs, ys, id, hl, hv => by
    have e : cvsOf (AV.agg cs :: rs) = cs ++ cvsOf rs := by simp [cvsOf, AV.cvs]
    rw [e] at hl hv
    rw [List.length_append] at hl
    obtain ⟨h1, h2⟩ := layAV_vt rs (ys.drop cs.length) (id + cs.length) (by simp; omega) (fun i c u hc hu => by
        have := hv (cs.length + i) c u (by rw [List.getElem?_append_right (by omega)]; simpa using hc) (by rw [List.getElem?_drop] at hu; exact hu)
        have e : id + (cs.length + i) = id + cs.length + i := by omega
        rw [e] at this
        exact this)
    refine ⟨by simp [layAV, packV, h1], fun k x u hx hu => ?_⟩
    cases k with
    | zero =>
      simp only [layAV, packV, List.getElem?_cons_zero, Option.some.injEq] at hx hu
      subst hx hu
      refine ⟨_, rfl, by simp [layC_len]; omega, fun j a u ha hu => ?_⟩
      rw [layC_get] at ha
      cases hc : cs[j]? with
      | none => rw [hc] at ha; cases ha
      | some c =>
        rw [hc] at ha
        cases ha
        have hj : j < cs.length := (List.getElem?_eq_some_iff.1 hc).1
        simp only [List.getElem?_toArray, List.getElem?_take, if_pos hj] at hu
        have := hv j c u (by rw [List.getElem?_append_left hj]; exact hc) hu
        exact ⟨this.2, this.1⟩
    | succ k => exact h2 k x u (by simpa [layAV] using hx) (by simpa [packV] using hu)

theorem mvOf_vm {l : List TV} {us : List Value} (hl : l.length = us.length) (hv : ∀ (k : Nat) (x : TV) (u : Value), l[k]? = some x → us[k]? = some u → VT w st E x u) : VM w st E (mvOf l) (retV us) := by
  match l, us, hl, hv with
  | [], [], _, _ => exact ⟨#[], rfl, rfl, fun j x u h => by simp at h⟩
  | [x], [u], _, hv => exact hv 0 x u rfl rfl
  | x :: y :: l, u :: v :: us, hl, hv => exact ⟨_, rfl, by simpa using hl.symm, fun j x' u' h1 h2 => hv j x' u' h1 (by simpa using h2)⟩
  | [x], u :: v :: us, hl, _ => simp at hl
  | x :: y :: l, [u], hl, _ => simp at hl
  | [], u :: us, hl, _ => simp at hl
  | x :: l, [], hl, _ => simp at hl

theorem layOne_ids {n m : Nat} {c : CV} (h : m ∈ (layOne n c).ids) : m = n := by
  cases c <;> simp [layOne, At.ids, atIds, atLids] at h
  exact h

theorem layAV_ids : ∀ (rs : List AV) (id m : Nat) (x : TV) (a : At), x ∈ layAV rs id → a ∈ tvAts x → m ∈ a.ids → id ≤ m ∧ m < id + (cvsOf rs).length
  | [], _, _, _, _, h, _, _ => by simp [layAV] at h
  | .one c :: rs, id, m, x, a, hx, ha, hm => by
    have e : (cvsOf (AV.one c :: rs)).length = 1 + (cvsOf rs).length := by simp [cvsOf, AV.cvs]; omega
    rw [e]
    simp only [layAV, List.mem_cons] at hx
    rcases hx with rfl | hx
    · simp only [tvAts, List.mem_singleton] at ha
      subst ha
      have : (layC [c] id).headD .bad = layOne id c := by cases c <;> rfl
      rw [this] at hm
      rw [layOne_ids hm]
      omega
    · have := layAV_ids rs (id + 1) m x a hx ha hm
      omega
  | .agg cs :: rs, id, m, x, a, hx, ha, hm => by
    have e : (cvsOf (AV.agg cs :: rs)).length = cs.length + (cvsOf rs).length := by simp [cvsOf, AV.cvs]
    rw [e]
    simp only [layAV, List.mem_cons] at hx
    rcases hx with rfl | hx
    · simp only [tvAts] at ha
      obtain ⟨k, hk⟩ := List.mem_iff_getElem?.1 ha
      rw [layC_get] at hk
      cases hc : cs[k]? with
      | none => rw [hc] at hk; cases hk
      | some c =>
        rw [hc] at hk
        cases hk
        have hkl : k < cs.length := (List.getElem?_eq_some_iff.1 hc).1
        rw [layOne_ids hm]
        omega
    · have := layAV_ids rs (id + cs.length) m x a hx ha hm
      omega

theorem mvAts_of {l : List TV} {a : At} (h : a ∈ mvAts (mvOf l)) : ∃ x ∈ l, a ∈ tvAts x := by
  match l, h with
  | [], h => simp [mvOf, mvAts] at h
  | [x], h => exact ⟨x, by simp, h⟩
  | x :: y :: l, h => simpa [mvOf, mvAts] using h

/-- A call by contract. -/
theorem s_call (hS : Sim w0 S0 U st E ts sv w) {o : Oper} {id : Nat} (hid : ∀ n, Mine id n → ¬ U n) {c : Call} {f : FuncId} {run : List AV → Option (Bool × List AV)} (ho : o.op = .call c) (hcb : c.callee = .value (.func f))
    (hH : Holds C.P f run) {avs rs : List AV} (ha : optAll (fun x => match st.opnd x with | some v => st.avOf v | none => none) c.args.toList = some avs) (hr : run avs = some (true, rs)) (hle : (cvsOf rs).length ≤ 31) :
    Goes C w0 S0 U st ts sv w o id (fun st => st.apply o.dst { c := true, v := mvOf (layAV rs id), ro := layAR true rs id }) := by
  intro next Q hn
  obtain ⟨⟨fn, b, hf, hb, hname⟩, hH⟩ := hH
  obtain ⟨xs, hxs, hm⟩ := args_sound hS c.args.toList avs ha
  have hargs : c.args.map ({ tmps := ts, defers := [] } : Act).eval = (packV avs xs).toArray := by
    rw [← hm, ← Array.toList_map, Array.toArray_toList]
  have hexec : (execOp ({ tmps := ts, defers := [] } : Act).eval o).run C.P w = .ok (.enter f (packV avs xs).toArray) w := by
    have hname' : fn.name ≠ "runtime.NumGoroutine" := by simpa using hname
    simp [execOp, ho, resolve, hcb, Act.eval, Deferred.ofValue, invoke, callFunc, hf, hb, hname', hargs]
  unfold Oper.wp
  rw [hexec, Oper.upon_enter]
  refine (hH w avs xs rs hxs hr).mono ?_
  intro e w' he
  cases e with
  | panicked chain => exact he.elim
  | outgrown => exact he.elim
  | returned v =>
    obtain ⟨hg, ys, K, hys, rfl, hfr⟩ := he
    have hE1 : ∀ n, (id ≤ n ∧ n < id + 31) → ¬ U n := fun n h => hid n ⟨h.1, by omega⟩
    obtain ⟨hM, hT⟩ := hS.mem.addRoots hS.ids.mem (dro := layAR true rs id) (w1 := w')
      (E1 := { E with ρ := fun n => if id ≤ n ∧ n < id + 31 then (ys[n - id]?).getD undef else E.ρ n, φ := fun n => if id ≤ n ∧ n < id + 31 then (fun x => n - id < (cvsOf rs).length ∧ K (n - id) x) else E.φ n })
      hg.os hg.tape hg.output hg.size hg.keep (fun r R hR => by
        obtain ⟨h1, t, l, h2, rfl⟩ := layAR_get true rs id r R hR
        have hlt : r - id < (cvsOf rs).length := (List.getElem?_eq_some_iff.1 h2).1
        have hm : id ≤ r ∧ r < id + 31 := ⟨h1, by omega⟩
        have hy : r - id < ys.length := by rw [hys.1]; exact hlt
        refine ⟨hE1 r hm, rfl, rfl, ?_, fun x hx => ?_⟩
        · simp only [if_pos hm, List.getElem?_eq_getElem hy, Option.getD_some]
          exact (hys.2 _ _ _ h2 (List.getElem?_eq_getElem hy)).weak (fun x hx => ⟨hlt, hx⟩)
        · simp only [if_pos hm] at hx
          exact hfr.lt _ x hlt hx.2)
      (fun r R r' R' h1 h2 hne x hx hx' => by
        obtain ⟨g1, t, l, g2, rfl⟩ := layAR_get true rs id r R h1
        obtain ⟨g1', t', l', g2', rfl⟩ := layAR_get true rs id r' R' h2
        have hlt : r - id < (cvsOf rs).length := (List.getElem?_eq_some_iff.1 g2).1
        have hlt' : r' - id < (cvsOf rs).length := (List.getElem?_eq_some_iff.1 g2').1
        have hm : id ≤ r ∧ r < id + 31 := ⟨g1, by omega⟩
        have hm' : id ≤ r' ∧ r' < id + 31 := ⟨g1', by omega⟩
        simp only [if_pos hm] at hx
        simp only [if_pos hm'] at hx'
        have := hfr.dis _ _ x hlt hlt' hx.2 hx'.2
        omega)
      (fun n hn => by
        have hm : ¬ (id ≤ n ∧ n < id + 31) := fun h => hE1 n h hn
        simp only [if_neg hm]
        exact ⟨trivial, trivial, trivial⟩)
    obtain ⟨g1, g2⟩ := layAV_vt (w := w') (st := { st with ro := layAR true rs id ++ st.ro }) (E := { E with ρ := fun n => if id ≤ n ∧ n < id + 31 then (ys[n - id]?).getD undef else E.ρ n, φ := fun n => if id ≤ n ∧ n < id + 31 then (fun x => n - id < (cvsOf rs).length ∧ K (n - id) x) else E.φ n })
      rs ys id hys.1 (fun i c u hc hu => by
        have hrep := hys.2 i c u hc hu
        refine ⟨?_, hrep.one⟩
        have hlt : i < (cvsOf rs).length := (List.getElem?_eq_some_iff.1 hc).1
        cases c with
        | i k n => exact hrep.int_inv
        | b x => exact hrep.bool_inv
        | s t l =>
          obtain ⟨⟨a, cap, hv, _⟩, _⟩ := hrep.len
          refine ⟨⟨a, _, cap, hv⟩, fun R hR => ?_⟩
          have hm : id ≤ id + i ∧ id + i < id + 31 := ⟨by omega, by omega⟩
          have e : id + i - id = i := by omega
          simp only [hdrAt, if_pos hm, e, hu, Option.getD_some])
    exact hn _ _ _ (Sim.next hS hM hT rfl rfl (fun n h => .inl h) (fun n R h => by
        simp only [aget_append] at h
        split at h
        · rename_i Q hQ
          obtain ⟨h1, t, l, h2, _⟩ := layAR_get true rs id n Q hQ
          have hlt : n - id < (cvsOf rs).length := (List.getElem?_eq_some_iff.1 h2).1
          exact .inr ⟨h1, by omega⟩
        · exact .inl (hS.ids.ro n R h))
      (fun n cs hn => ⟨.inl (hS.ids.lo n cs hn).1, fun a ha m hm => .inl ((hS.ids.lo n cs hn).2 a ha m hm)⟩) (mvOf_vm g1 g2) (fun n hn => by
        simp only [MV.ids, List.mem_flatMap] at hn
        obtain ⟨a, ha, hn⟩ := hn
        obtain ⟨x, hx, ha⟩ := mvAts_of ha
        have := layAV_ids rs id n x a hx ha hn
        exact .inr ⟨this.1, by omega⟩))

end
end Go.Proofs.Ytcfnaifggdelnaa.E
