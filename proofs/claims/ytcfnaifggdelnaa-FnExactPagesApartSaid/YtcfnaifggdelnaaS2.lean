/- What is proved here: the relation between a state of the evaluator and a world, and how it is kept when memory is added, written or handed over. -/
import Derived.Test.YtcfnaifggdelnaaS1
import Derived.Laws.Sem
namespace Go.Proofs.Ytcfnaifggdelnaa.E
open Go

/-- Where the slices' headers, their blocks and the local variables lie. -/
structure Env where
  ρ : Nat → Value
  φ : Nat → BSet
  β : Nat → Nat
  /-- the world of the beginning -/
  κ : World

/-- Of a slice it is said: what it leads to is as at the beginning. -/
def AsKept (kw w : World) (t : Ty) (v : Value) (J : List (List Nat)) : Prop :=
  ∀ p u, hdrAt kw t v p = some u → J.any (fun c => c.isPrefixOf (cols p)) = false → hdrAt w t v p = some u

/-- An atom and the value that it stands for. -/
def VA (w : World) (st : St) (E : Env) : At → Value → Prop
  | .bad, _ => True
  | .i k n, v => v = .int k n
  | .b x, v => v = .bool x
  | .sl r p, v => (∃ a len cap, v = .slice a len cap) ∧ ∀ R, st.root r = some R → hdrAt w R.t (E.ρ r) p = some v
  | .lp l off, v => (∃ a, v = .pointer (some a)) ∧ ∀ cs, aget st.lo l = some cs → v = .pointer (some ⟨E.β l, off, none⟩)
  | .ep r p i off, v => (∃ a, v = .pointer (some a)) ∧ ∀ R, st.root r = some R → ∃ b o len cap t', hdrAt w R.t (E.ρ r) p = some (.slice (some ⟨b, o, none⟩) len cap) ∧ tyAt R.t p = some t' ∧
      0 ≤ i ∧ i.toNat < len ∧ v = .pointer (some ⟨b, o + i.toNat * t'.width + off, none⟩)
  | .fn f caps, v => ∃ vs : Array Value, v = .func (.func f) #[] vs ∧ vs.size = caps.length ∧
      ∀ (k l : Nat) (u : Value), caps[k]? = some l → vs[k]? = some u → (∃ a, u = .pointer (some a)) ∧ ∀ cs, aget st.lo l = some cs → u = .pointer (some ⟨E.β l, 0, none⟩)
  | .kp r J t, v => (∃ a len cap, v = .slice a len cap) ∧ ∀ R, st.root r = some R → R.t = t ∧ E.ρ r = v ∧ AsKept E.κ w t v J

def VT (w : World) (st : St) (E : Env) : TV → Value → Prop
  | .at a, v => VA w st E a v
  | .agg l, v => ∃ vs : Array Value, v = .agg vs ∧ vs.size = l.length ∧ ∀ (j : Nat) (a : At) (u : Value), l[j]? = some a → vs[j]? = some u → u.oneCell' = true ∧ VA w st E a u

def VM (w : World) (st : St) (E : Env) : MV → Value → Prop
  | .und, v => v = undef
  | .v x, v => VT w st E x v
  | .tup l, v => ∃ vs : Array Value, v = .tuple vs ∧ vs.size = l.length ∧ ∀ (j : Nat) (x : TV) (u : Value), l[j]? = some x → vs[j]? = some u → VT w st E x u

def At.ids (a : At) : List Nat := atIds a ++ atLids a
def MV.ids (m : MV) : List Nat := (mvAts m).flatMap At.ids

/-- What of one state still holds in another one. -/
structure Trans (st : St) (E : Env) (w : World) (st1 : St) (E1 : Env) (w1 : World) (U : Nat → Prop) : Prop where
  ro : ∀ r, U r → ∀ R1, st1.root r = some R1 → ∃ R, st.root r = some R ∧ R1.t = R.t ∧ ∀ p u, hdrAt w R.t (E.ρ r) p = some u → hdrAt w1 R.t (E1.ρ r) p = some u
  lo : ∀ l, U l → ∀ cs1, aget st1.lo l = some cs1 → (∃ cs, aget st.lo l = some cs) ∧ E1.β l = E.β l
  κ : E1.κ = E.κ

section
variable {st st1 : St} {E E1 : Env} {w w1 : World} {U : Nat → Prop}

theorem VA.tr (T : Trans st E w st1 E1 w1 U) {a : At} {v : Value} (hU : ∀ n ∈ a.ids, U n) (h : VA w st E a v) : VA w1 st1 E1 a v := by
  cases a with
  | bad => trivial
  | i k n => exact h
  | b x => exact h
  | sl r p =>
    refine ⟨h.1, fun R1 hR1 => ?_⟩
    obtain ⟨R, hR, ht, hh⟩ := T.ro r (hU r (by simp [At.ids, atIds])) R1 hR1
    rw [ht]
    exact hh p v (h.2 R hR)
  | lp l off =>
    refine ⟨h.1, fun cs1 h1 => ?_⟩
    obtain ⟨⟨cs, hcs⟩, hβ⟩ := T.lo l (hU l (by simp [At.ids, atIds, atLids])) cs1 h1
    rw [hβ]
    exact h.2 cs hcs
  | ep r p i off =>
    refine ⟨h.1, fun R1 hR1 => ?_⟩
    obtain ⟨R, hR, ht, hh⟩ := T.ro r (hU r (by simp [At.ids, atIds])) R1 hR1
    obtain ⟨b, o, len, cap, t', h1, h2, h3⟩ := h.2 R hR
    exact ⟨b, o, len, cap, t', by rw [ht]; exact hh p _ h1, by rw [ht]; exact h2, h3⟩
  | fn f caps =>
    obtain ⟨vs, h1, h2, h3⟩ := h
    refine ⟨vs, h1, h2, fun k l u hk hu => ⟨(h3 k l u hk hu).1, fun cs1 hcs1 => ?_⟩⟩
    obtain ⟨⟨cs, hcs⟩, hβ⟩ := T.lo l (hU l (by simp only [At.ids, atIds, atLids, List.nil_append]; exact List.mem_of_getElem? hk)) cs1 hcs1
    rw [hβ]
    exact (h3 k l u hk hu).2 cs hcs
  | kp r J t =>
    refine ⟨h.1, fun R1 hR1 => ?_⟩
    obtain ⟨R, hR, ht, hh⟩ := T.ro r (hU r (by simp [At.ids, atIds])) R1 hR1
    have e : E1.ρ r = E.ρ r := by
      have := hh [] (E.ρ r) rfl
      simpa [hdrAt] using this
    obtain ⟨h1, h2, h3⟩ := h.2 R hR
    refine ⟨ht.trans h1, e.trans h2, fun p u hp hJ => ?_⟩
    rw [T.κ] at hp
    have := hh p u (by rw [h1, h2]; exact h3 p u hp hJ)
    rwa [e, h1, h2] at this

theorem VT.tr (T : Trans st E w st1 E1 w1 U) {x : TV} {v : Value} (hU : ∀ a ∈ tvAts x, ∀ n ∈ a.ids, U n) (h : VT w st E x v) : VT w1 st1 E1 x v := by
  rcases x with a | l
  · exact VA.tr T (hU a (by simp [tvAts])) h
  · obtain ⟨vs, h1, h2, h3⟩ := h
    exact ⟨vs, h1, h2, fun j a u ha hu => ⟨(h3 j a u ha hu).1, VA.tr T (hU a (by simp only [tvAts]; exact List.mem_of_getElem? ha)) (h3 j a u ha hu).2⟩⟩

theorem VM.tr (T : Trans st E w st1 E1 w1 U) {m : MV} {v : Value} (hU : ∀ n ∈ m.ids, U n) (h : VM w st E m v) : VM w1 st1 E1 m v := by
  have hU' : ∀ a ∈ mvAts m, ∀ n ∈ a.ids, U n := fun a ha n hn => hU n (by simp only [MV.ids, List.mem_flatMap]; exact ⟨a, ha, hn⟩)
  cases m with
  | und => exact h
  | v x => exact VT.tr T hU' h
  | tup l =>
    obtain ⟨vs, h1, h2, h3⟩ := h
    refine ⟨vs, h1, h2, fun j x u hx hu => VT.tr T (fun a ha => hU' a ?_) (h3 j x u hx hu)⟩
    simp only [mvAts, List.mem_flatMap]
    exact ⟨x, List.mem_of_getElem? hx, ha⟩
end

/-- Memory: the slices and the local variables of a state, in a world that began as w0; S0: what of w0 may be written. -/
structure Mem (w0 : World) (S0 : BSet) (st : St) (E : Env) (w : World) : Prop where
  os : w.os = w0.os
  tape : w.tape = w0.tape
  output : w.output = w0.output
  size : w0.heap.size ≤ w.heap.size
  keep : ∀ b, b < w0.heap.size → ¬ S0 b → w.heap[b]? = w0.heap[b]?
  rep : ∀ r R, st.root r = some R → Rep R.own w (E.ρ r) (.s R.t R.l) (E.φ r)
  rlt : ∀ r R, st.root r = some R → ∀ x, E.φ r x → x < w.heap.size
  mine : ∀ r R, st.root r = some R → R.own = true → R.ep = none ∧ ∀ x, E.φ r x → S0 x ∨ w0.heap.size ≤ x
  apart : ∀ r R r' R', st.root r = some R → R.own = true → st.root r' = some R' → R'.ep = none → r ≠ r' → ∀ x, E.φ r x → ¬ E.φ r' x
  loc : ∀ l cs, aget st.lo l = some cs → (S0 (E.β l) ∨ w0.heap.size ≤ E.β l) ∧ ∃ vals e, w.heap[E.β l]? = some (.cells vals e (0, 0)) ∧ vals.size = cs.length ∧
      ∀ (j : Nat) (c : At) (u : Value), cs[j]? = some c → vals[j]? = some u → u.oneCell' = true ∧ VA w st E c u
  linj : ∀ l l' cs cs', aget st.lo l = some cs → aget st.lo l' = some cs' → E.β l = E.β l' → l = l'
  lro : ∀ l cs r R, aget st.lo l = some cs → st.root r = some R → ¬ E.φ r (E.β l)
  epo : ∀ r R e, aget st.ro r = some R → R.ep = some e → e ≤ st.ep
  κ : E.κ = w0

/-- The numbers that occur in a state. -/
structure Ids (st : St) (U : Nat → Prop) : Prop where
  ro : ∀ n R, aget st.ro n = some R → U n
  lo : ∀ n cs, aget st.lo n = some cs → U n ∧ ∀ a ∈ cs, ∀ m ∈ a.ids, U m
  tm : ∀ m ∈ st.tm, ∀ n ∈ m.ids, U n
  stk : ∀ f ∈ st.stk, ∀ m ∈ f, ∀ n ∈ m.ids, U n

/-- The slots of a frame. -/
def Slots (w : World) (st : St) (E : Env) (tm : List MV) (ts : Array Value) : Prop :=
  ts.size = tm.length ∧ ∀ (i : Nat) (m : MV) (v : Value), tm[i]? = some m → ts[i]? = some v → VM w st E m v

/-- The slots of the callers. -/
def Stack (w : World) (st : St) (E : Env) : List (List MV) → List (Array Value) → Prop
  | [], [] => True
  | f :: r, ts :: s => Slots w st E f ts ∧ Stack w st E r s
  | _, _ => False

structure Sim (w0 : World) (S0 : BSet) (U : Nat → Prop) (st : St) (E : Env) (ts : Array Value) (sv : List (Array Value)) (w : World) : Prop where
  mem : Mem w0 S0 st E w
  ids : Ids st U
  tm : Slots w st E st.tm ts
  stk : Stack w st E st.stk sv

theorem Slots.tr {st st1 : St} {E E1 : Env} {w w1 : World} {U : Nat → Prop} (T : Trans st E w st1 E1 w1 U) {tm : List MV} {ts : Array Value} (hU : ∀ m ∈ tm, ∀ n ∈ m.ids, U n) (h : Slots w st E tm ts) : Slots w1 st1 E1 tm ts :=
  ⟨h.1, fun i m v hm hv => VM.tr T (hU m (List.mem_of_getElem? hm)) (h.2 i m v hm hv)⟩

theorem Stack.tr {st st1 : St} {E E1 : Env} {w w1 : World} {U : Nat → Prop} (T : Trans st E w st1 E1 w1 U) : ∀ {l : List (List MV)} {s : List (Array Value)}, (∀ f ∈ l, ∀ m ∈ f, ∀ n ∈ m.ids, U n) → Stack w st E l s → Stack w1 st1 E1 l s
  | [], [], _, _ => trivial
  | f :: r, ts :: s, hU, h => ⟨Slots.tr T (hU f (by simp)) h.1, Stack.tr T (fun f hf => hU f (by simp [hf])) h.2⟩
  | [], _ :: _, _, h => h.elim
  | _ :: _, [], _, h => h.elim

theorem aget_append {α : Type} (l m : List (Nat × α)) (n : Nat) : aget (l ++ m) n = match aget l n with
    | some x => some x
    | none => aget m n := by
  induction l with
  | nil => rfl
  | cons a l ih =>
    obtain ⟨k, v⟩ := a
    simp only [List.cons_append, aget]
    split
    · rfl
    · exact ih

theorem aget_mem {α : Type} {l : List (Nat × α)} {n : Nat} {x : α} (h : aget l n = some x) : (n, x) ∈ l := by
  induction l with
  | nil => cases h
  | cons a l ih =>
    obtain ⟨k, v⟩ := a
    simp only [aget] at h
    split at h
    · rename_i he
      simp only [beq_iff_eq] at he
      subst he
      cases h
      exact List.mem_cons_self
    · exact List.mem_cons_of_mem _ (ih h)

/-- The next state's slots: what holds of memory is at hand, what was known of the slots is carried over. -/
theorem Sim.next {w0 : World} {S0 : BSet} {U U1 : Nat → Prop} {st st1 : St} {E E1 : Env} {ts : Array Value} {sv : List (Array Value)} {w w1 : World}
    (h : Sim w0 S0 U st E ts sv w) (hM : Mem w0 S0 st1 E1 w1) (T : Trans st E w st1 E1 w1 U) (htm : st1.tm = st.tm) (hstk : st1.stk = st.stk)
    (hU : ∀ n, U n → U1 n) (hro : ∀ n R, aget st1.ro n = some R → U1 n) (hlo : ∀ n cs, aget st1.lo n = some cs → U1 n ∧ ∀ a ∈ cs, ∀ m ∈ a.ids, U1 m)
    {dst : Option Tmp} {mv : MV} {v : Value} (hv : VM w1 st1 E1 mv v) (hvi : ∀ n ∈ mv.ids, U1 n) :
    Sim w0 S0 U1 (st1.put dst mv) E1 (({ tmps := ts, defers := [] } : Act).put dst v).tmps sv w1 := by
  have hput : (st1.put dst mv).ro = st1.ro ∧ (st1.put dst mv).lo = st1.lo ∧ (st1.put dst mv).stk = st1.stk ∧ (st1.put dst mv).ep = st1.ep := by
    cases dst <;> exact ⟨rfl, rfl, rfl, rfl⟩
  have hroot : ∀ r, (st1.put dst mv).root r = st1.root r := fun r => by simp only [St.root, hput.1, hput.2.2.2]
  have T' : Trans st1 E1 w1 (st1.put dst mv) E1 w1 (fun _ => True) :=
    ⟨fun r _ R1 h1 => ⟨R1, by rw [← hroot]; exact h1, rfl, fun _ _ h => h⟩, fun l _ cs1 h1 => ⟨⟨cs1, by rw [← hput.2.1]; exact h1⟩, rfl⟩, rfl⟩
  refine ⟨?_, ?_, ?_, ?_⟩
  · exact ⟨hM.os, hM.tape, hM.output, hM.size, hM.keep, fun r R hr => hM.rep r R (by rw [← hroot]; exact hr), fun r R hr => hM.rlt r R (by rw [← hroot]; exact hr),
      fun r R hr => hM.mine r R (by rw [← hroot]; exact hr), fun r R r' R' h1 h2 h3 => hM.apart r R r' R' (by rw [← hroot]; exact h1) h2 (by rw [← hroot]; exact h3),
      fun l cs hl => by
        obtain ⟨h1, vals, e, h2, h3, h4⟩ := hM.loc l cs (by rw [← hput.2.1]; exact hl)
        exact ⟨h1, vals, e, h2, h3, fun j c u hc hu => ⟨(h4 j c u hc hu).1, VA.tr T' (fun _ _ => trivial) (h4 j c u hc hu).2⟩⟩,
      fun l l' cs cs' h1 h2 => hM.linj l l' cs cs' (by rw [← hput.2.1]; exact h1) (by rw [← hput.2.1]; exact h2),
      fun l cs r R h1 h2 => hM.lro l cs r R (by rw [← hput.2.1]; exact h1) (by rw [← hroot]; exact h2),
      fun r R e h1 h2 => by rw [hput.2.2.2]; exact hM.epo r R e (by rw [← hput.1]; exact h1) h2, hM.κ⟩
  · refine ⟨fun n R hn => hro n R (by rw [← hput.1]; exact hn), fun n cs hn => hlo n cs (by rw [← hput.2.1]; exact hn), ?_, ?_⟩
    · intro m hm n hn
      cases dst with
      | none => exact hU n (h.ids.tm m (by simpa [St.put, htm] using hm) n hn)
      | some d =>
        simp only [St.put] at hm
        rcases List.mem_or_eq_of_mem_set hm with hm | hm
        · exact hU n (h.ids.tm m (by rw [← htm]; exact hm) n hn)
        · subst hm; exact hvi n hn
    · intro f hf m hm n hn
      rw [hput.2.2.1, hstk] at hf
      exact hU n (h.ids.stk f hf m hm n hn)
  · have hs := Slots.tr T (fun m hm n hn => h.ids.tm m hm n hn) h.tm
    have hs' := Slots.tr T' (fun _ _ _ _ => trivial) hs
    cases dst with
    | none => simpa [St.put, Act.put, htm] using hs'
    | some d =>
      refine ⟨by simp [St.put, Act.put, htm, hs.1], fun i m u hm hu => ?_⟩
      simp only [St.put, htm] at hm
      simp only [Act.put] at hu
      rw [List.getElem?_set] at hm
      rw [Array.getElem?_setIfInBounds] at hu
      split at hm
      · rename_i hd
        subst hd
        rw [if_pos rfl] at hu
        split at hm
        · cases hm
          split at hu
          · cases hu; exact VM.tr T' (fun _ _ => trivial) hv
          · cases hu
        · cases hm
      · rename_i hd
        rw [if_neg hd] at hu
        exact hs'.2 i m u hm hu
  · rw [hput.2.2.1, hstk]
    exact Stack.tr T' (fun _ _ _ _ _ _ => trivial) (Stack.tr T (fun f hf m hm n hn => h.ids.stk f hf m hm n hn) h.stk)

end Go.Proofs.Ytcfnaifggdelnaa.E
