/- What is proved here: what the evaluator says of an operation holds of the model's run of it: the operations that write no memory. -/
import Derived.Test.YtcfnaifggdelnaaS3
import Derived.Laws.Entries
import Derived.Laws.Slices
import Derived.Laws.Cells
import Derived.Laws.Tables
import Derived.Laws.Append
import Derived.Laws.CopyRow
import Derived.Laws.MakeOwn
import Derived.Laws.StructEq
namespace Go.Proofs.Ytcfnaifggdelnaa.E
open Go

def zeroV : CTy → Value
  | .i k => .int k 0
  | .b => .bool false
  | .s _ => .slice none 0 0

def isAggD : TypeDesc → Bool
  | .struct _ | .array _ _ => true
  | _ => false

structure TypeOk (P : Program) (T : TypeId) (agg : Bool) (tys : List CTy) : Prop where
  und : ∃ d, P.underlying T = some d ∧ isAggD d = agg ∧ (∀ k, tys = [.i k] → agg = false → d = .int k) ∧ (tys = [.b] → agg = false → d = .bool)
  info : ∃ i z, P.info? T = some i ∧ i.size = tys.length ∧ i.zero = some z ∧ z.cells.toList = tys.map zeroV
  one : agg = false → tys.length = 1

structure ElemOk (P : Program) (T e : TypeId) (t : Ty) : Prop where
  und : P.underlying T = some (.slice e)
  info : ∃ i z, P.info? e = some i ∧ i.size = t.width ∧ i.zero = some z ∧ z.cells.toList = t.shape.map zeroV ∧ i.bytes ≤ 1024

structure FieldOk (P : Program) (T : TypeId) (f off n : Nat) : Prop where
  ok : ∃ (fs : Array Field) (x : Field) (i : TypeInfo), P.underlying T = some (.struct fs) ∧ fs[f]? = some x ∧ x.offset = off ∧ P.info? x.type = some i ∧ i.size = n ∧ n ≠ 0

/-- A scalar atom's value. -/
def VS : At → Value → Prop
  | .i k n, v => v = .int k n
  | .b x, v => v = .bool x
  | _, _ => True

def VSs (l : List At) (xs : Array Value) : Prop := xs.size = l.length ∧ ∀ (j : Nat) (a : At) (u : Value), l[j]? = some a → xs[j]? = some u → VS a u

structure CfgOk (C : Cfg) : Prop where
  cty : ∀ T agg tys, C.cty T = some (agg, tys) → TypeOk C.P T agg tys
  sty : ∀ T t, C.sty T = some t → ∃ e, ElemOk C.P T e t
  fof : ∀ T f off n, C.fof T f = some (off, n) → FieldOk C.P T f off n
  str : ∀ T tys, C.cty T = some (true, tys) → ∃ (fs : Array Field) (places : List (Nat × Nat)), C.P.underlying T = some (.struct fs) ∧ fs.toList.mapM (fun f => (C.P.info? f.type).map fun i => (f.offset, i.size)) = some places ∧
    ∀ f off n, C.fof T f = some (off, n) → places[f]? = some (off, n)
  eqt : ∀ T tys, C.eqt T = true → C.cty T = some (true, tys) → ∀ (l m : List At) (e : Bool) (xs ys : Array Value) (w : World) (x y : Operand) (op : BinOp),
    optAll atTy l = some tys → optAll atTy m = some tys → atsEq l m = some e → VSs l xs → VSs m ys →
    (eqGuard op T x y (.agg xs) (.agg ys)).run C.P w = .ok () w ∧ (Op.equal T (.agg xs) (.agg ys)).run C.P w = .ok e w

section
variable {P : Program} {w : World}

theorem run_isAgg {T : TypeId} {agg : Bool} {tys : List CTy} (h : TypeOk P T agg tys) : (isAgg T).run P w = .ok agg w := by
  obtain ⟨d, hd, ha, _, _⟩ := h.und
  subst ha
  unfold isAgg
  rw [Sem.run_bind, run_underlying hd w]
  cases d <;> simp [isAggD]

theorem run_size {T : TypeId} {agg : Bool} {tys : List CTy} (h : TypeOk P T agg tys) : (sizeOf T).run P w = .ok tys.length w := by
  obtain ⟨i, z, hi, hs, _⟩ := h.info
  simp [sizeOf, typeInfo, hi, hs]

theorem run_zero {T : TypeId} {agg : Bool} {tys : List CTy} (h : TypeOk P T agg tys) : ∃ z, (zeroValue T).run P w = .ok z w ∧ z.cells.toList = tys.map zeroV := by
  obtain ⟨i, z, hi, hs, hz, hc⟩ := h.info
  exact ⟨z, by simp [zeroValue, typeInfo, hi, hz], hc⟩
end

section
variable {C : Cfg} {w0 w : World} {S0 : BSet} {U : Nat → Prop} {st : St} {E : Env} {ts : Array Value} {sv : List (Array Value)}

/-- The numbers that operation 'id' may use for itself. -/
def Mine (id : Nat) (n : Nat) : Prop := id ≤ n ∧ n < id + 32

/-- What is said of an operation, in a state that stands for the world w: the model's run of it comes to a world for which the next state stands. -/
def Goes (C : Cfg) (w0 : World) (S0 : BSet) (U : Nat → Prop) (st : St) (ts : Array Value) (sv : List (Array Value)) (w : World) (o : Oper) (id : Nat) (st' : St → St) : Prop :=
  ∀ (next : Act → World → Prop) (Q : Exit → Act → World → Prop),
    (∀ E' v w', Sim w0 S0 (fun n => U n ∨ Mine id n) (st' st) E' (({ tmps := ts, defers := [] } : Act).put o.dst v).tmps sv w' → next (({ tmps := ts, defers := [] } : Act).put o.dst v) w') →
    o.wp C.P { tmps := ts, defers := [] } w next Q

theorem goes_value {o : Oper} {id : Nat} {f : St → St} {v : Value} {w' : World} {E' : Env} (hr : (execOp ({ tmps := ts, defers := [] } : Act).eval o).run C.P w = .ok (.value v) w')
    (h : Sim w0 S0 (fun n => U n ∨ Mine id n) (f st) E' (({ tmps := ts, defers := [] } : Act).put o.dst v).tmps sv w') : Goes C w0 S0 U st ts sv w o id f := by
  intro next Q hn
  unfold Oper.wp
  rw [hr, Oper.upon_value]
  exact hn E' v w' h

theorem goes_skip {o : Oper} {id : Nat} {f : St → St} {w' : World} {E' : Env} (hr : (execOp ({ tmps := ts, defers := [] } : Act).eval o).run C.P w = .ok .skip w')
    (h : Sim w0 S0 (fun n => U n ∨ Mine id n) (f st) E' (({ tmps := ts, defers := [] } : Act).put o.dst undef).tmps sv w') : Goes C w0 S0 U st ts sv w o id f := by
  intro next Q hn
  unfold Oper.wp
  rw [hr, Oper.upon_skip]
  exact hn E' undef w' h

theorem Sim.trans_self : Trans st E w st E w U := ⟨fun _ _ R h => ⟨R, h, rfl, fun _ _ h => h⟩, fun _ _ cs h => ⟨⟨cs, h⟩, rfl⟩, rfl⟩

/-- An operation that yields a value and does nothing else. -/
theorem goes_pure (hS : Sim w0 S0 U st E ts sv w) {o : Oper} {id : Nat} {mv : MV} {v : Value} (hr : (execOp ({ tmps := ts, defers := [] } : Act).eval o).run C.P w = .ok (.value v) w)
    (hv : VM w st E mv v) (hi : ∀ n ∈ mv.ids, U n) : Goes C w0 S0 U st ts sv w o id (fun st => st.apply o.dst { v := mv }) := by
  refine goes_value hr (E' := E) ?_
  exact Sim.next hS (st1 := st) hS.mem Sim.trans_self rfl rfl (fun n h => .inl h) (fun n R h => .inl (hS.ids.ro n R h)) (fun n cs h => ⟨.inl (hS.ids.lo n cs h).1, fun a ha m hm => .inl ((hS.ids.lo n cs h).2 a ha m hm)⟩) hv (fun n hn => .inl (hi n hn))

/-- An operation that reads alone. -/
def PureD (C : Cfg) (U : Nat → Prop) (st : St) (E : Env) (ts : Array Value) (w : World) (o : Oper) (d : Dl) : Prop :=
  ∃ v, (execOp ({ tmps := ts, defers := [] } : Act).eval o).run C.P w = .ok (.value v) w ∧ VM w st E d.v v ∧ (∀ n ∈ d.v.ids, U n) ∧ d.lo = [] ∧ d.ro = [] ∧ d.bump = false

theorem pureD {o : Oper} {mv : MV} {c : Bool} {v : Value} (hr : (execOp ({ tmps := ts, defers := [] } : Act).eval o).run C.P w = .ok (.value v) w) (hv : VM w st E mv v) (hi : ∀ n ∈ mv.ids, U n) : PureD C U st E ts w o { c, v := mv } :=
  ⟨v, hr, hv, hi, rfl, rfl, rfl⟩

theorem PureD.goes {o : Oper} {d : Dl} (h : PureD C U st E ts w o d) (hS : Sim w0 S0 U st E ts sv w) {id : Nat} : Goes C w0 S0 U st ts sv w o id (fun st => st.apply o.dst d) := by
  obtain ⟨v, hr, hv, hi, h1, h2, h3⟩ := h
  have e : (fun st : St => st.apply o.dst d) = fun st => st.apply o.dst { v := d.v } := by
    funext st
    simp only [St.apply, h1, h2, h3]
  rw [e]
  exact goes_pure hS hr hv hi

theorem constV_sound {v : Value} {a : At} (h : constV v = some a) : VA w st E a v ∧ a.ids = [] := by
  cases v <;> simp [constV] at h <;> subst h <;> exact ⟨rfl, rfl⟩

/-- An operand's value. -/
theorem opnd_sound (hS : Sim w0 S0 U st E ts sv w) {x : Operand} {mv : MV} (h : st.opnd x = some mv) :
    VM w st E mv (({ tmps := ts, defers := [] } : Act).eval x) ∧ ∀ n ∈ mv.ids, U n := by
  cases x with
  | tmp t =>
    have ht : st.tm[t]? = some mv := by
      simp only [St.opnd] at h
      split at h
      · cases h
      · exact h
    have hlt : t < st.tm.length := (List.getElem?_eq_some_iff.1 ht).1
    have hts : ts[t]? = some (({ tmps := ts, defers := [] } : Act).eval (.tmp t)) := by
      have : t < ts.size := by rw [hS.tm.1]; exact hlt
      simp [Act.eval, Array.getD, this]
    exact ⟨hS.tm.2 t mv _ ht hts, fun n hn => hS.ids.tm mv (List.mem_of_getElem? ht) n hn⟩
  | const v =>
    simp only [St.opnd] at h
    split at h
    · rename_i a ha
      cases h
      obtain ⟨h1, h2⟩ := constV_sound (w := w) (st := st) (E := E) ha
      refine ⟨h1, fun n hn => ?_⟩
      simp [MV.ids, mvAts, tvAts, h2] at hn
    · cases h
  | global g => simp [St.opnd] at h
  | func f =>
    simp only [St.opnd, Option.some.injEq] at h
    subst h
    refine ⟨⟨#[], rfl, rfl, fun k l u hk => by simp at hk⟩, fun n hn => ?_⟩
    simp [MV.ids, mvAts, tvAts, At.ids, atIds, atLids] at hn

theorem at_opnd {x : Operand} {a : At} (h : st.at x = some a) : st.opnd x = some (.v (.at a)) := by
  unfold St.at at h
  split at h
  · rename_i b hb; cases h; exact hb
  · cases h

theorem at_sound (hS : Sim w0 S0 U st E ts sv w) {x : Operand} {a : At} (h : st.at x = some a) :
    VA w st E a (({ tmps := ts, defers := [] } : Act).eval x) ∧ ∀ n ∈ a.ids, U n := by
  obtain ⟨h1, h2⟩ := opnd_sound hS (at_opnd h)
  exact ⟨h1, fun n hn => h2 n (by simpa [MV.ids, mvAts, tvAts] using hn)⟩

theorem ids_at {a : At} : (MV.v (.at a)).ids = a.ids := by simp [MV.ids, mvAts, tvAts]

theorem p_move (hS : Sim w0 S0 U st E ts sv w) {o : Oper} {x : Operand} {mv : MV} (ho : o.op = .move x ∨ o.op = .assign x) (h : st.opnd x = some mv) :
    PureD C U st E ts w o { v := mv } := by
  obtain ⟨h1, h2⟩ := opnd_sound hS h
  refine pureD ?_ h1 h2
  rcases ho with ho | ho <;> simp [execOp, ho]

theorem s_move (hS : Sim w0 S0 U st E ts sv w) {o : Oper} {id : Nat} {x : Operand} {mv : MV} (ho : o.op = .move x ∨ o.op = .assign x) (h : st.opnd x = some mv) :
    Goes C w0 S0 U st ts sv w o id (fun st => st.apply o.dst { v := mv }) := (p_move hS ho h).goes hS

theorem s_pick (hS : Sim w0 S0 U st E ts sv w) {o : Oper} {id : Nat} {c a b : Operand} {d : Dl} (ho : o.op = .pick c a b)
    (h : delta C st o id = some d) : Goes C w0 S0 U st ts sv w o id (fun st => st.apply o.dst d) := by
  simp only [delta, ho] at h
  split at h
  · rename_i cb x y h1 h2 h3
    cases h
    have hc := (at_sound hS h1).1
    have hx := (opnd_sound hS h2).1
    have hy := (opnd_sound hS h3).1
    refine goes_pure hS (v := .bool (cond cb x y)) ?_ rfl (by simp [MV.ids, mvAts, tvAts, At.ids, atIds, atLids])
    simp only [VA] at hc
    simp only [VM, VT, VA] at hx hy
    cases cb <;> simp [execOp, ho, hc, hx, hy, asBool]
  · rename_i v h1 h2 hnn
    cases h
    have hc := (at_sound hS h1).1
    obtain ⟨hx, hxi⟩ := opnd_sound hS h2
    refine goes_pure hS ?_ hx hxi
    simp only [VA] at hc
    simp [execOp, ho, hc, asBool]
  · rename_i v h1 h2 hnn
    cases h
    have hc := (at_sound hS h1).1
    obtain ⟨hx, hxi⟩ := opnd_sound hS h2
    refine goes_pure hS ?_ hx hxi
    simp only [VA] at hc
    simp [execOp, ho, hc, asBool]
  · cases h

theorem p_nilCheck (hS : Sim w0 S0 U st E ts sv w) {o : Oper} {id : Nat} {x : Operand} {d : Dl} (ho : o.op = .nilCheck x)
    (h : delta C st o id = some d) : PureD C U st E ts w o d := by
  simp only [delta, ho] at h
  split at h
  · rename_i l off h1
    cases h
    obtain ⟨h2, h3⟩ := at_sound hS h1
    obtain ⟨a, ha⟩ := h2.1
    refine pureD ?_ h2 (by rw [ids_at]; exact h3)
    simp [execOp, ho, ha]
  · rename_i r p i off h1
    cases h
    obtain ⟨h2, h3⟩ := at_sound hS h1
    obtain ⟨a, ha⟩ := h2.1
    refine pureD ?_ h2 (by rw [ids_at]; exact h3)
    simp [execOp, ho, ha]
  · cases h

theorem s_nilCheck (hS : Sim w0 S0 U st E ts sv w) {o : Oper} {id : Nat} {x : Operand} {d : Dl} (ho : o.op = .nilCheck x)
    (h : delta C st o id = some d) : Goes C w0 S0 U st ts sv w o id (fun st => st.apply o.dst d) := (p_nilCheck (id := id) hS ho h).goes hS

theorem run_intOp {op : BinOp} {k : IntKind} {x y : Int} {c : Bool} {a : At} (hs : isShift op = false) (h : intOp op k x y = some (c, a)) (hc : c = true) (T : TypeId) (p q : Operand) :
    ∃ v, ((do eqGuard op T p q (.int k x) (.int k y); binOp op T (.int k x) (.int k y)) : Sem Value).run C.P w = .ok v w ∧ VA w st E a v ∧ a.ids = [] := by
  have hg : (eqGuard op T p q (.int k x) (.int k y)).run C.P w = .ok () w := by
    unfold eqGuard
    split <;> rfl
  cases op <;> simp only [intOp, Option.some.injEq, Prod.mk.injEq, reduceCtorEq] at h <;> (obtain ⟨h1, rfl⟩ := h) <;>
    refine ⟨_, ?_, rfl, rfl⟩ <;> rw [Sem.run_bind, hg] <;> simp only [Result.andThen_ok, binOp, ne_eq, not_true_eq_false, if_false, Op.intArith, Op.intBits, Op.intCmp, Sem.run_pure, wadd, wsub, wmul, wand, wor, wxor, wandn, ieq, ine, ilt, ile, igt, ige]
  case quo =>
    subst hc
    have : y ≠ 0 := by simpa [ine] using h1
    simp [Op.intDiv, this, wquo]
  case rem =>
    subst hc
    have : y ≠ 0 := by simpa [ine] using h1
    simp [Op.intDiv, this, wrem]


theorem eqGuard_int {op : BinOp} {T : TypeId} {p q : Operand} {k k' : IntKind} {x y : Int} : (eqGuard op T p q (.int k x) (.int k' y)).run C.P w = .ok () w := by
  unfold eqGuard
  split <;> rfl

theorem eqGuard_bool {op : BinOp} {T : TypeId} {p q : Operand} {x y : Bool} : (eqGuard op T p q (.bool x) (.bool y)).run C.P w = .ok () w := by
  unfold eqGuard
  split <;> rfl

theorem run_shiftOp {op : BinOp} {k k' : IntKind} {x y : Int} {c : Bool} {a : At} (h : shiftOp op k x y = some (c, a)) (hc : c = true) (T : TypeId) (p q : Operand) :
    ∃ v, ((do eqGuard op T p q (.int k x) (.int k' y); binOp op T (.int k x) (.int k' y)) : Sem Value).run C.P w = .ok v w ∧ VA w st E a v ∧ a.ids = [] := by
  cases op <;> simp only [shiftOp, Option.some.injEq, Prod.mk.injEq, reduceCtorEq] at h <;> (obtain ⟨h1, rfl⟩ := h) <;>
    refine ⟨_, ?_, rfl, rfl⟩ <;> rw [Sem.run_bind, eqGuard_int] <;> subst hc <;> simp only [ile, decide_eq_true_eq] at h1 <;>
    simp [binOp, Op.shift, show ¬ y < 0 by omega, wshl, wshr]

theorem eql_run {op : BinOp} {e : Bool} {d : Dl} (h : eqlRes op e = some d) {x y : Value} {T : TypeId} (he : (Op.equal T x y).run C.P w = .ok e w)
    (h1 : binOp .eql T x y = (do pure (.bool (← Op.equal T x y)))) (h2 : binOp .neq T x y = (do pure (.bool (!(← Op.equal T x y))))) :
    ∃ e', d = .at (.b e') ∧ (binOp op T x y).run C.P w = .ok (.bool e') w := by
  unfold eqlRes at h
  split at h
  · cases h
    refine ⟨_, rfl, ?_⟩
    rw [h1, Sem.run_bind, he]; rfl
  · cases h
    refine ⟨_, rfl, ?_⟩
    rw [h2, Sem.run_bind, he]; rfl
  · cases h

theorem s_binOp (hC : CfgOk C) (hS : Sim w0 S0 U st E ts sv w) {o : Oper} {id : Nat} {op : BinOp} {T T2 : TypeId} {x y : Operand} {d : Dl} (ho : o.op = .binOp op T x y T2)
    (h : delta C st o id = some d) (hc : d.c = true) : Goes C w0 S0 U st ts sv w o id (fun st => st.apply o.dst d) := by
  have run : ∀ {v : Value}, ((do eqGuard op T x y (({ tmps := ts, defers := [] } : Act).eval x) (({ tmps := ts, defers := [] } : Act).eval y); binOp op T (({ tmps := ts, defers := [] } : Act).eval x) (({ tmps := ts, defers := [] } : Act).eval y)) : Sem Value).run C.P w = .ok v w →
      (execOp ({ tmps := ts, defers := [] } : Act).eval o).run C.P w = .ok (.value v) w := by
    intro v hv
    simp only [execOp, ho]
    rw [Sem.run_bind, hv]
    rfl
  simp only [delta, ho] at h
  split at h
  · rename_i k a k' b h1 h2
    have hx := (opnd_sound hS h1).1
    have hy := (opnd_sound hS h2).1
    simp only [VM, VT, VA] at hx hy
    split at h
    · rename_i hs
      split at h
      · rename_i c r hr
        cases h
        obtain ⟨v, hv, hva, hi⟩ := run_shiftOp (C := C) (w := w) (st := st) (E := E) (k' := k') hr hc T x y
        rw [← hx, ← hy] at hv
        exact goes_pure hS (run hv) hva (by rw [ids_at, hi]; simp)
      · cases h
    · rename_i hs
      split at h
      · rename_i hk
        subst hk
        split at h
        · rename_i c r hr
          cases h
          obtain ⟨v, hv, hva, hi⟩ := run_intOp (C := C) (w := w) (st := st) (E := E) (by simpa using hs) hr hc T x y
          rw [← hx, ← hy] at hv
          exact goes_pure hS (run hv) hva (by rw [ids_at, hi]; simp)
        · cases h
      · cases h
  · rename_i a b h1 h2
    have hx := (opnd_sound hS h1).1
    have hy := (opnd_sound hS h2).1
    simp only [VM, VT, VA] at hx hy
    split at h
    · rename_i hT
      obtain ⟨dd, hd, _, _, hb⟩ := (hC.cty T _ _ hT).und
      have hbb := hb rfl rfl
      subst hbb
      have heq : (Op.equal T (.bool a) (.bool b)).run C.P w = .ok (a == b) w := run_equalIn_bool' w 9999 T a b hd
      obtain ⟨e, rfl, hr⟩ := eql_run (C := C) (w := w) h (x := .bool a) (y := .bool b) heq (by rfl) (by rfl)
      have hr2 : ((do eqGuard op T x y (.bool a) (.bool b); binOp op T (.bool a) (.bool b)) : Sem Value).run C.P w = .ok (.bool e) w := by
        rw [Sem.run_bind, eqGuard_bool]; exact hr
      rw [← hx, ← hy] at hr2
      exact goes_pure hS (run hr2) rfl (by rw [ids_at]; simp [At.ids, atIds, atLids])
    · cases h
  · rename_i l m h1 h2
    split at h
    · rename_i tys e hT he
      split at h
      · rename_i hh
        obtain ⟨⟨xs, hxs, hxl, hxv⟩, _⟩ := opnd_sound hS h1
        obtain ⟨⟨ys, hys, hyl, hyv⟩, _⟩ := opnd_sound hS h2
        have vs : ∀ {a : At} {u : Value}, VA w st E a u → VS a u := by
          intro a u hu
          cases a <;> first | exact hu | trivial
        obtain ⟨hg, heq⟩ := hC.eqt T tys hh.1 hT l m e xs ys w x y op hh.2.1 hh.2.2 he ⟨hxl, fun j a u ha hu => vs (hxv j a u ha hu).2⟩ ⟨hyl, fun j a u ha hu => vs (hyv j a u ha hu).2⟩
        obtain ⟨e', rfl, hr⟩ := eql_run (C := C) (w := w) h (x := .agg xs) (y := .agg ys) heq (by rfl) (by rfl)
        have hr2 : ((do eqGuard op T x y (.agg xs) (.agg ys); binOp op T (.agg xs) (.agg ys)) : Sem Value).run C.P w = .ok (.bool e') w := by
          rw [Sem.run_bind, hg]; exact hr
        rw [← hxs, ← hys] at hr2
        exact goes_pure hS (run hr2) rfl (by rw [ids_at]; simp [At.ids, atIds, atLids])
      · cases h
    · cases h
  · cases h

theorem s_unOp (hS : Sim w0 S0 U st E ts sv w) {o : Oper} {id : Nat} {op : UnOp} {T : TypeId} {x : Operand} {d : Dl} (ho : o.op = .unOp op T x)
    (h : delta C st o id = some d) : Goes C w0 S0 U st ts sv w o id (fun st => st.apply o.dst d) := by
  simp only [delta, ho] at h
  split at h
  · rename_i a h1
    cases h
    have hx := (at_sound hS h1).1
    simp only [VA] at hx
    exact goes_pure hS (v := .bool (!a)) (by simp [execOp, ho, hx, Op.unary]) rfl (by rw [ids_at]; simp [At.ids, atIds, atLids])
  · rename_i k n h1
    cases h
    have hx := (at_sound hS h1).1
    simp only [VA] at hx
    exact goes_pure hS (v := .int k (wsub k 0 n)) (by simp [execOp, ho, hx, Op.unary, Op.intArith, wsub]) rfl (by rw [ids_at]; simp [At.ids, atIds, atLids])
  · cases h

theorem s_convert (hC : CfgOk C) (hS : Sim w0 S0 U st E ts sv w) {o : Oper} {id : Nat} {src dst : TypeId} {x : Operand} {d : Dl} (ho : o.op = .convert src dst x)
    (h : delta C st o id = some d) : Goes C w0 S0 U st ts sv w o id (fun st => st.apply o.dst d) := by
  simp only [delta, ho] at h
  split at h
  · rename_i y k k' n h0 h1 h2
    cases h
    have hx := (at_sound hS h2).1
    simp only [VA] at hx
    obtain ⟨dd, hd, _, hk, _⟩ := (hC.cty dst _ _ h1).und
    have hk' := hk k rfl rfl
    subst hk'
    obtain ⟨ds, hds, _⟩ := (hC.cty src y.1 y.2 h0).und
    exact goes_pure hS (v := .int k (wcv k n)) (by simp [execOp, ho, hx, convert, run_underlying hds, run_underlying hd, Conv.intToInt, wcv]) rfl (by rw [ids_at]; simp [At.ids, atIds, atLids])
  · cases h

theorem s_extract (hS : Sim w0 S0 U st E ts sv w) {o : Oper} {id : Nat} {x : Operand} {j : Nat} {d : Dl} (ho : o.op = .extract x j)
    (h : delta C st o id = some d) : Goes C w0 S0 U st ts sv w o id (fun st => st.apply o.dst d) := by
  simp only [delta, ho] at h
  split at h
  · rename_i l h1
    split at h
    · rename_i y hy
      cases h
      obtain ⟨⟨vs, hvs, hsz, hv⟩, hi⟩ := opnd_sound hS h1
      have hlt : j < vs.size := by rw [hsz]; exact (List.getElem?_eq_some_iff.1 hy).1
      refine goes_pure hS (v := vs[j]) ?_ (hv j y vs[j] hy (by simp [hlt])) (fun n hn => hi n ?_)
      · simp [execOp, ho, hvs, Instr.extract, hlt]
      · simp only [MV.ids, mvAts, List.mem_flatMap] at hn ⊢
        obtain ⟨a, ha, hn⟩ := hn
        exact ⟨a, ⟨y, List.mem_of_getElem? hy, ha⟩, hn⟩
    · cases h
  · cases h

theorem optAll_some {α β : Type} {f : α → Option β} : ∀ {l : List α} {bs : List β}, optAll f l = some bs → l.length = bs.length ∧ ∀ (i : Nat) (a : α) (b : β), l[i]? = some a → bs[i]? = some b → f a = some b := by
  intro l
  induction l with
  | nil => intro bs h; cases h; exact ⟨rfl, fun i a b h => by simp at h⟩
  | cons a l ih =>
    intro bs h
    simp only [optAll] at h
    split at h
    · rename_i b hb
      split at h
      · rename_i bs' hbs
        cases h
        obtain ⟨h1, h2⟩ := ih hbs
        refine ⟨by simp [h1], fun i x y hx hy => ?_⟩
        cases i with
        | zero => simp at hx hy; subst hx hy; exact hb
        | succ i => exact h2 i x y (by simpa using hx) (by simpa using hy)
      · cases h
    · cases h

theorem s_makeFunc (hS : Sim w0 S0 U st E ts sv w) {o : Oper} {id : Nat} {f : FuncId} {first caps : Array Operand} {d : Dl} (ho : o.op = .makeFunc (.func f) first caps)
    (h : delta C st o id = some d) : Goes C w0 S0 U st ts sv w o id (fun st => st.apply o.dst d) := by
  simp only [delta, ho] at h
  split at h
  · rename_i ls h1 h2
    cases h
    obtain ⟨hl, hf⟩ := optAll_some h2
    have hfirst : first = #[] := by simpa using h1
    have hcap : ∀ (k l : Nat) (u : Operand), caps[k]? = some u → ls[k]? = some l → st.at u = some (.lp l 0) := by
      intro k l u hu hk
      have := hf k u l (by simpa using hu) hk
      split at this
      · rename_i l' hl'; cases this; exact hl'
      · cases this
    refine goes_pure hS (v := .func (.func f) #[] (caps.map ({ tmps := ts, defers := [] } : Act).eval)) ?_ ⟨_, rfl, by simp [← hl], ?_⟩ ?_
    · simp [execOp, ho, Instr.makeFunc, hfirst]
    · intro k l u hk hu
      simp only [Array.getElem?_map] at hu
      cases hx : caps[k]? with
      | none => rw [hx] at hu; cases hu
      | some q =>
        rw [hx] at hu
        cases hu
        exact (at_sound hS (hcap k l q hx hk)).1
    · intro n hn
      rw [ids_at] at hn
      simp only [At.ids, atIds, atLids, List.nil_append] at hn
      obtain ⟨k, hk⟩ := List.mem_iff_getElem?.1 hn
      have hlt : k < caps.size := by have := (List.getElem?_eq_some_iff.1 hk).1; rw [← hl] at this; simpa using this
      exact (at_sound hS (hcap k n caps[k] (by simp [hlt]) hk)).2 n (by simp [At.ids, atIds, atLids])
  · cases h


theorem s_field (hC : CfgOk C) (hS : Sim w0 S0 U st E ts sv w) {o : Oper} {id : Nat} {T : TypeId} {x : Operand} {f : Nat} {d : Dl} (ho : o.op = .field T x f)
    (h : delta C st o id = some d) : Goes C w0 S0 U st ts sv w o id (fun st => st.apply o.dst d) := by
  simp only [delta, ho] at h
  split at h
  · rename_i fs hfs
    split at h
    · rename_i fx hfx
      split at h
      · rename_i agg tys l hT h1
        split at h
        · rename_i hle
          have hTO := hC.cty fx.type agg tys hT
          obtain ⟨⟨vs, hvs, hsz, hv⟩, hi⟩ := opnd_sound hS h1
          have hfx' : fs[f]? = some fx := hfx
          split at h
          · cases h
            refine goes_pure hS (v := .agg (vs.extract fx.offset (fx.offset + tys.length))) ?_ ⟨_, rfl, by simp; omega, fun j a u ha hu => ?_⟩ (fun n hn => hi n ?_)
            · simp [execOp, ho, hvs, Instr.field, run_underlying hfs, hfx', asAgg, part, run_isAgg hTO, run_size hTO]
            · rw [List.getElem?_take, List.getElem?_drop] at ha
              split at ha
              · rename_i hj
                refine hv (fx.offset + j) a u ha ?_
                rw [Array.getElem?_extract] at hu
                split at hu
                · exact hu
                · cases hu
              · cases ha
            · simp only [MV.ids, mvAts, tvAts, List.mem_flatMap] at hn ⊢
              obtain ⟨a, ha, hn⟩ := hn
              exact ⟨a, List.mem_of_mem_drop (List.mem_of_mem_take ha), hn⟩
          · split at h
            · rename_i a ha
              cases h
              have hlt : fx.offset < vs.size := by rw [hsz]; exact (List.getElem?_eq_some_iff.1 ha).1
              have hu := Array.getElem?_eq_getElem hlt
              refine goes_pure hS (v := vs[fx.offset]) ?_ (hv fx.offset a _ ha hu).2 (fun n hn => hi n ?_)
              · simp [execOp, ho, hvs, Instr.field, run_underlying hfs, hfx', asAgg, part, run_isAgg hTO, hu]
              · rw [ids_at] at hn
                simp only [MV.ids, mvAts, tvAts, List.mem_flatMap]
                exact ⟨a, List.mem_of_getElem? ha, hn⟩
            · cases h
        · cases h
      · cases h
    · cases h
  · cases h

theorem p_fieldAddr (hC : CfgOk C) (hS : Sim w0 S0 U st E ts sv w) {o : Oper} {id : Nat} {T : TypeId} {x : Operand} {f : Nat} {d : Dl} (ho : o.op = .fieldAddr T x f)
    (h : delta C st o id = some d) : PureD C U st E ts w o d := by
  simp only [delta, ho] at h
  have run : ∀ {off n : Nat} {a : Addr}, C.fof T f = some (off, n) → ({ tmps := ts, defers := [] } : Act).eval x = .pointer (some a) →
      (execOp ({ tmps := ts, defers := [] } : Act).eval o).run C.P w = .ok (.value (.pointer (some (a.add off)))) w := by
    intro off n a hf hx
    obtain ⟨fs, fx, i, h1, h2, h3, h4, h5, h6⟩ := (hC.fof T f off n hf).ok
    simp [execOp, ho, hx, Instr.fieldAt, run_underlying h1, h2, Instr.sureAddr, fieldPlace, sizeOf, typeInfo, h4, h5, h6, h3]
  have add : ∀ (b a n : Nat), (⟨b, a, none⟩ : Addr).add n = ⟨b, a + n, none⟩ := by
    intro b a n; unfold Addr.add; split <;> simp_all
  split at h
  · rename_i off n l o1 hf h1
    cases h
    obtain ⟨⟨⟨a, ha⟩, h2⟩, hi⟩ := at_sound hS h1
    refine pureD (run hf ha) ⟨⟨_, rfl⟩, fun cs hcs => ?_⟩ (by rw [ids_at]; exact hi)
    have := h2 cs hcs
    rw [ha] at this
    simp only [Value.pointer.injEq, Option.some.injEq] at this
    subst this
    rw [add]
  · rename_i off n r p i o1 hf h1
    cases h
    obtain ⟨⟨⟨a, ha⟩, h2⟩, hi⟩ := at_sound hS h1
    refine pureD (run hf ha) ⟨⟨_, rfl⟩, fun R hR => ?_⟩ (by rw [ids_at]; exact hi)
    obtain ⟨b, o2, len, cap, t', g1, g2, g3, g4, g5⟩ := h2 R hR
    rw [ha] at g5
    simp only [Value.pointer.injEq, Option.some.injEq] at g5
    subst g5
    exact ⟨b, o2, len, cap, t', g1, g2, g3, g4, by rw [add, Nat.add_assoc]⟩
  · cases h

theorem s_fieldAddr (hC : CfgOk C) (hS : Sim w0 S0 U st E ts sv w) {o : Oper} {id : Nat} {T : TypeId} {x : Operand} {f : Nat} {d : Dl} (ho : o.op = .fieldAddr T x f)
    (h : delta C st o id = some d) : Goes C w0 S0 U st ts sv w o id (fun st => st.apply o.dst d) := (p_fieldAddr (id := id) hC hS ho h).goes hS

theorem s_index (hS : Sim w0 S0 U st E ts sv w) {o : Oper} {id : Nat} {T : TypeId} {s : ByteArray} {y : Operand} {d : Dl} (ho : o.op = .index T (.const (.string s)) y)
    (h : delta C st o id = some d) (hc : d.c = true) : Goes C w0 S0 U st ts sv w o id (fun st => st.apply o.dst d) := by
  simp only [delta, ho] at h
  split at h
  · rename_i k n hT h2
    cases h
    have hy := (at_sound hS h2).1
    simp only [VA] at hy
    have hc' : 0 ≤ n ∧ n < (s.size : Int) := of_decide_eq_true hc
    have hlt : n.toNat < s.size := by omega
    have hx : ({ tmps := ts, defers := [] } : Act).eval (.const (.string s)) = .string s := rfl
    have hg : s[n.toNat]? = some s[n.toNat] := getElem?_pos s n.toNat hlt
    refine goes_pure hS (v := .int .u8 (s[n.toNat].toNat : Int)) ?_ ?_ (by rw [ids_at]; simp [At.ids, atIds, atLids])
    · simp [execOp, ho, hx, hy, Instr.index, run_underlying hT, asIntOf, hc'.1, hg]
    · show Value.int .u8 _ = Value.int .u8 (byteAt s n)
      unfold byteAt
      rw [hg]
  · cases h

theorem node_root {r : Nat} {p : List (Int × Nat)} {cv : CV} (h : st.node r p = some cv) : ∃ R, st.root r = some R ∧ getP R.t R.l p = some cv := by
  unfold St.node at h
  split at h
  · rename_i R hR; exact ⟨R, hR, h⟩
  · cases h

/-- A slice atom whose slice may be looked at. -/
theorem sl_sound (hS : Sim w0 S0 U st E ts sv w) {r : Nat} {p : List (Int × Nat)} {v : Value} {t : Ty} {l : List t.den} (hv : VA w st E (.sl r p) v) (hn : st.node r p = some (.s t l)) :
    ∃ R S', st.root r = some R ∧ tyAt R.t p = some t ∧ hdrAt w R.t (E.ρ r) p = some v ∧ Rep R.own w v (.s t l) S' ∧ ∀ x, S' x → E.φ r x := by
  obtain ⟨R, hR, hg⟩ := node_root hn
  have hh := hv.2 R hR
  obtain ⟨t', l', S', h1, h2, h3, h4⟩ := Rep.at p (hS.mem.rep r R hR) hh
  rw [hg] at h1
  cases h1
  exact ⟨R, S', hR, h2, hh, h3, h4⟩

theorem p_indexAddr (hC : CfgOk C) (hS : Sim w0 S0 U st E ts sv w) {o : Oper} {id : Nat} {T : TypeId} {x y : Operand} {d : Dl} (ho : o.op = .indexAddr T x y)
    (h : delta C st o id = some d) (hc : d.c = true) : PureD C U st E ts w o d := by
  simp only [delta, ho] at h
  split at h
  · rename_i r p n h1 h2
    split at h
    · rename_i t l hn
      split at h
      · rename_i hT
        cases h
        obtain ⟨hx, hxi⟩ := at_sound hS h1
        have hy := (at_sound hS h2).1
        simp only [VA] at hy
        obtain ⟨e, hE⟩ := hC.sty T t hT
        obtain ⟨R, S', hR, g1, g2, g3, g4⟩ := sl_sound hS hx hn
        have hc' : 0 ≤ n ∧ n < (l.length : Int) := of_decide_eq_true hc
        obtain ⟨i, z, hi, hs, _⟩ := hE.info
        generalize hv : ({ tmps := ts, defers := [] } : Act).eval x = v at *
        cases g3 with
        | nil => simp at hc'; omega
        | void => simp at hc'; omega
        | sl _ _ b off cap arr e' fz V K _ hb hfz hlen hcap hsz hS' hsub hdis hvv hcc =>
          have add : (⟨b, off, none⟩ : Addr).add (n.toNat * t.width) = ⟨b, off + n.toNat * t.width, none⟩ := by
            unfold Addr.add; split <;> simp_all
          refine pureD (v := .pointer (some ⟨b, off + n.toNat * t.width, none⟩)) ?_ ⟨⟨_, rfl⟩, fun R' hR' => ?_⟩ ?_
          · simp [execOp, ho, hv, hy, Instr.indexAt, run_underlying hE.und, asIntOf, hc', sizeOf, typeInfo, hi, hs, add]
          · rw [hR] at hR'
            cases hR'
            exact ⟨b, off, l.length, cap, t, g2, g1, hc'.1, by omega, by simp⟩
          · rw [ids_at]
            simpa [At.ids, atIds, atLids] using hxi
      · cases h
    · cases h
  · cases h

theorem s_indexAddr (hC : CfgOk C) (hS : Sim w0 S0 U st E ts sv w) {o : Oper} {id : Nat} {T : TypeId} {x y : Operand} {d : Dl} (ho : o.op = .indexAddr T x y)
    (h : delta C st o id = some d) (hc : d.c = true) : Goes C w0 S0 U st ts sv w o id (fun st => st.apply o.dst d) := (p_indexAddr (id := id) hC hS ho h hc).goes hS

theorem s_len (hS : Sim w0 S0 U st E ts sv w) {o : Oper} {id : Nat} {c : Call} {x : Operand} {T e : TypeId} {r : Nat} {p : List (Int × Nat)} {t : Ty} {l : List t.den} (ho : o.op = .call c) (hcb : c.callee = .builtin .len) (hca : c.args.toList = [x]) (hct : c.argTypes.toList = [T])
    (hT : C.P.underlying T = some (.slice e)) (h1 : st.at x = some (.sl r p)) (hn : st.node r p = some (.s t l)) : Goes C w0 S0 U st ts sv w o id (fun st => st.apply o.dst (.at (.i .i64 (ln l)))) := by
  obtain ⟨hx, hxi⟩ := at_sound hS h1
  obtain ⟨R, S', hR, g1, g2, g3, g4⟩ := sl_sound hS hx hn
  obtain ⟨⟨a, cap, hv, _⟩, _⟩ := g3.len
  have hca' : c.args = #[x] := by rw [← hca]
  have hct' : c.argTypes = #[T] := by rw [← hct]
  refine goes_pure hS (v := goInt l.length) ?_ rfl (by rw [ids_at]; simp [At.ids, atIds, atLids])
  simp [execOp, ho, resolve, hcb, invoke, builtin, hca', hct', hv, Builtin.len_, run_underlying hT]

end
end Go.Proofs.Ytcfnaifggdelnaa.E
