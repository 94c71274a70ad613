/- What is proved here: what is laid by some of a region's operations, in the text's order; it hangs on which of them were run, not on the order. -/
import Derived.Test.YtcfnaifggdelnaaS23
namespace Go.Proofs.Ytcfnaifggdelnaa.E
open Go

/-- What can be asked of a state. -/
inductive Key where
  | tm (t : Nat)
  | ro (n : Nat)
  | lo (n : Nat)

inductive Item where
  | tm (m : MV)
  | ro (R : Root)
  | lo (l : List At)

def St.get (st : St) : Key → Option Item
  | .tm t => st.tm[t]?.map .tm
  | .ro n => (aget st.ro n).map .ro
  | .lo n => (aget st.lo n).map .lo

/-- Does the operation write it? -/
def wr (o : Oper) : Step → Key → Prop
  | _, .tm t => o.dst = some t
  | none, _ => False
  | some d, .ro n => n ∈ d.ro.map (·.1)
  | some d, .lo n => n ∈ d.lo.map (·.1)

section
variable {st st' : St} {b : Bool} {o : Oper}

theorem aget_none {α : Type} : ∀ {l : List (Nat × α)} {n : Nat}, n ∉ l.map (·.1) → aget l n = none
  | [], _, _ => rfl
  | (k, v) :: l, n, h => by
    simp only [List.map_cons, List.mem_cons, not_or] at h
    simp only [aget]
    rw [if_neg (by simp; exact fun e => h.1 e.symm)]
    exact aget_none h.2

theorem aget_some {α : Type} : ∀ {l : List (Nat × α)} {n : Nat}, n ∈ l.map (·.1) → ∃ v, aget l n = some v
  | [], _, h => by simp at h
  | (k, v) :: l, n, h => by
    simp only [aget]
    split
    · exact ⟨v, rfl⟩
    · rename_i hne
      simp only [beq_iff_eq] at hne
      simp only [List.map_cons, List.mem_cons] at h
      exact aget_some (h.resolve_left (fun e => hne e.symm))

theorem put_ro {m : MV} {d : Option Tmp} : (st.put d m).ro = st.ro := by cases d <;> rfl
theorem put_lo {m : MV} {d : Option Tmp} : (st.put d m).lo = st.lo := by cases d <;> rfl
theorem put_ep {m : MV} {d : Option Tmp} : (st.put d m).ep = st.ep := by cases d <;> rfl
theorem put_stk {m : MV} {d : Option Tmp} : (st.put d m).stk = st.stk := by cases d <;> rfl
theorem put_len {m : MV} {d : Option Tmp} : (st.put d m).tm.length = st.tm.length := by cases d <;> simp [St.put]
theorem put_tm {m : MV} {d : Option Tmp} {t : Nat} : (st.put d m).tm[t]? = if d = some t then (if t < st.tm.length then some m else none) else st.tm[t]? := by
  cases d with
  | none => simp [St.put]
  | some e =>
    simp only [St.put, List.getElem?_set, Option.some.injEq]
    split
    · rename_i e; subst e; rfl
    · rfl

def dv : Step → MV
  | some d => d.v
  | none => .und

theorem step_tm {s : Step} {t : Nat} : (st.step b o s).tm[t]? = if o.dst = some t then (if t < st.tm.length then some (dv s) else none) else st.tm[t]? := by
  cases s with
  | none => exact put_tm
  | some d => exact put_tm (st := { st with lo := d.lo ++ st.lo, ro := d.ro.map (fun (x : Nat × Root) => (x.1, deadR b x.2)) ++ st.ro })

theorem step_len {s : Step} : (st.step b o s).tm.length = st.tm.length := by
  cases s with
  | none => exact put_len
  | some d => exact put_len (st := { st with lo := d.lo ++ st.lo, ro := d.ro.map (fun (x : Nat × Root) => (x.1, deadR b x.2)) ++ st.ro })

theorem step_ep {s : Step} : (st.step b o s).ep = st.ep := by
  cases s with
  | none => exact put_ep
  | some d => exact put_ep (st := { st with lo := d.lo ++ st.lo, ro := d.ro.map (fun (x : Nat × Root) => (x.1, deadR b x.2)) ++ st.ro })

theorem step_stk {s : Step} : (st.step b o s).stk = st.stk := by
  cases s with
  | none => exact put_stk
  | some d => exact put_stk (st := { st with lo := d.lo ++ st.lo, ro := d.ro.map (fun (x : Nat × Root) => (x.1, deadR b x.2)) ++ st.ro })

theorem step_nid {s : Step} : (st.step b o s).nid = st.nid := by
  cases s with
  | none => exact put_nid
  | some d => exact put_nid (st := { st with lo := d.lo ++ st.lo, ro := d.ro.map (fun (x : Nat × Root) => (x.1, deadR b x.2)) ++ st.ro })

def dro (b : Bool) : Step → List (Nat × Root)
  | some d => d.ro.map (fun (x : Nat × Root) => (x.1, deadR b x.2))
  | none => []

def dlo : Step → List (Nat × List At)
  | some d => d.lo
  | none => []

theorem step_ro {s : Step} : (st.step b o s).ro = dro b s ++ st.ro := by
  cases s with
  | none => exact put_ro
  | some d => exact put_ro (st := { st with lo := d.lo ++ st.lo, ro := d.ro.map (fun (x : Nat × Root) => (x.1, deadR b x.2)) ++ st.ro })

theorem step_lo {s : Step} : (st.step b o s).lo = dlo s ++ st.lo := by
  cases s with
  | none => exact put_lo
  | some d => exact put_lo (st := { st with lo := d.lo ++ st.lo, ro := d.ro.map (fun (x : Nat × Root) => (x.1, deadR b x.2)) ++ st.ro })

theorem wr_ro {s : Step} {n : Nat} : wr o s (.ro n) ↔ n ∈ (dro b s).map (·.1) := by
  cases s with
  | none => simp [wr, dro]
  | some d => simp [wr, dro, List.map_map, Function.comp_def]

theorem wr_lo {s : Step} {n : Nat} : wr o s (.lo n) ↔ n ∈ (dlo s).map (·.1) := by
  cases s with
  | none => simp [wr, dlo]
  | some d => simp [wr, dlo]

/-- What it does not write stays. -/
theorem step_other {s : Step} {κ : Key} (h : ¬ wr o s κ) : (st.step b o s).get κ = st.get κ := by
  cases κ with
  | tm t =>
    have h' : ¬ o.dst = some t := by cases s <;> exact h
    simp only [St.get, step_tm, if_neg h']
  | ro n =>
    rw [wr_ro (b := b)] at h
    simp only [St.get, step_ro, aget_append, aget_none h]
  | lo n =>
    rw [wr_lo] at h
    simp only [St.get, step_lo, aget_append, aget_none h]

/-- What it writes hangs on nothing. -/
theorem step_same {s : Step} {κ : Key} (h : wr o s κ) (hl : st.tm.length = st'.tm.length) : (st.step b o s).get κ = (st'.step b o s).get κ := by
  cases κ with
  | tm t =>
    have h' : o.dst = some t := by cases s <;> exact h
    simp only [St.get, step_tm, if_pos h', hl]
  | ro n =>
    rw [wr_ro (b := b)] at h
    obtain ⟨v, hv⟩ := aget_some h
    simp only [St.get, step_ro, aget_append, hv]
  | lo n =>
    rw [wr_lo] at h
    obtain ⟨v, hv⟩ := aget_some h
    simp only [St.get, step_lo, aget_append, hv]

theorem step_congr {s : Step} {κ : Key} (hl : st.tm.length = st'.tm.length) (h : st.get κ = st'.get κ) : (st.step b o s).get κ = (st'.step b o s).get κ := by
  by_cases hw : wr o s κ
  · exact step_same hw hl
  · rw [step_other hw, step_other hw, h]

/-- Some of the operations, in the text's order. -/
def foldX (ops : Array Oper) (b : Bool) (X : Nat → Bool) : Nat → List Step → St → St
  | _, [], st => st
  | i, s :: ss, st => foldX ops b X (i + 1) ss (if X i then (match ops[i]? with | some o => st.step b o s | none => st) else st)

def one (ops : Array Oper) (b : Bool) (X : Nat → Bool) (i : Nat) (s : Step) (st : St) : St := if X i then (match ops[i]? with | some o => st.step b o s | none => st) else st

theorem one_len {ops : Array Oper} {X : Nat → Bool} {i : Nat} {s : Step} : (one ops b X i s st).tm.length = st.tm.length := by
  unfold one
  split
  · split
    · exact step_len
    · rfl
  · rfl

theorem foldX_len {ops : Array Oper} {X : Nat → Bool} : ∀ (ss : List Step) (i : Nat) (st : St), (foldX ops b X i ss st).tm.length = st.tm.length
  | [], _, _ => rfl
  | s :: ss, i, st => (foldX_len ss (i + 1) _).trans (one_len (X := X) (i := i) (s := s))

/-- Two runs that differ only in what does not write it. -/
theorem foldX_agree {ops : Array Oper} {X Y : Nat → Bool} {κ : Key} : ∀ (ss : List Step) (i : Nat) (st st' : St), st.tm.length = st'.tm.length → st.get κ = st'.get κ →
    (∀ (k : Nat) (s : Step) (o : Oper), ss[k]? = some s → ops[i + k]? = some o → X (i + k) ≠ Y (i + k) → ¬ wr o s κ) → (foldX ops b X i ss st).get κ = (foldX ops b Y i ss st').get κ
  | [], _, _, _, _, h, _ => h
  | s :: ss, i, st, st', hl, h, hw => by
    have h0 : (one ops b X i s st).get κ = (one ops b Y i s st').get κ := by
      unfold one
      cases ho : ops[i]? with
      | none => cases X i <;> cases Y i <;> exact h
      | some o =>
        have hw0 := hw 0 s o rfl ho
        simp only [Nat.add_zero] at hw0
        cases hX : X i <;> cases hY : Y i <;> rw [hX, hY] at hw0
        · exact h
        · simp only [if_true, Bool.false_eq_true, if_false]
          rw [step_other (hw0 (by simp)), h]
        · simp only [if_true, Bool.false_eq_true, if_false]
          rw [step_other (hw0 (by simp)), h]
        · exact step_congr hl h
    exact foldX_agree ss (i + 1) _ _ (((one_len (b := b) (ops := ops) (X := X) (i := i) (s := s) (st := st)).trans hl).trans (one_len (b := b) (ops := ops) (X := Y) (i := i) (s := s) (st := st')).symm) h0 (fun k s' o' hk ho hne => hw (k + 1) s' o' (by simpa using hk) (by rw [← ho]; congr 1; omega) (by
      have e : i + (k + 1) = i + 1 + k := by omega
      rw [e]; exact hne))

end
end Go.Proofs.Ytcfnaifggdelnaa.E
