/- What is proved here: memory of a state is kept when slices or variables are added, a variable or a slice of its own is written, slices are handed over, a view is made. -/
import Derived.Test.YtcfnaifggdelnaaS2
import Derived.Laws.Rows
namespace Go.Proofs.Ytcfnaifggdelnaa.E
open Go

section
variable {w0 w w1 : World} {S0 : BSet} {st : St} {E E1 : Env} {U : Nat → Prop}

/-- What of the numbers is needed of a memory. -/
structure IdsM (st : St) (U : Nat → Prop) : Prop where
  ro : ∀ n R, aget st.ro n = some R → U n
  lo : ∀ n cs, aget st.lo n = some cs → U n ∧ ∀ a ∈ cs, ∀ m ∈ a.ids, U m

theorem Ids.mem (h : Ids st U) : IdsM st U := ⟨h.ro, h.lo⟩

theorem root_aget {r : Nat} {R : Root} (h : st.root r = some R) : aget st.ro r = some R ∧ (R.ep = none ∨ R.ep = some st.ep) := by
  unfold St.root at h
  split at h
  · rename_i Q hQ
    split at h
    · rename_i hn; cases h; exact ⟨hQ, .inl hn⟩
    · rename_i e he
      split at h
      · rename_i hb; simp only [beq_iff_eq] at hb; subst hb; cases h; exact ⟨hQ, .inr he⟩
      · cases h
  · cases h

theorem root_of {r : Nat} {R : Root} (h : aget st.ro r = some R) (he : R.ep = none ∨ R.ep = some st.ep) : st.root r = some R := by
  unfold St.root
  rw [h]
  simp only
  rcases he with he | he
  · rw [he]
  · rw [he]; simp

theorem Mem.addRoots (h : Mem w0 S0 st E w) (hI : IdsM st U) {dro : List (Nat × Root)}
    (hos : w1.os = w.os) (htp : w1.tape = w.tape) (hout : w1.output = w.output) (hsz : w.heap.size ≤ w1.heap.size) (hkeep : ∀ x, x < w.heap.size → w1.heap[x]? = w.heap[x]?)
    (hnew : ∀ r R, aget dro r = some R → ¬ U r ∧ R.own = true ∧ R.ep = none ∧ Rep true w1 (E1.ρ r) (.s R.t R.l) (E1.φ r) ∧ ∀ x, E1.φ r x → w.heap.size ≤ x ∧ x < w1.heap.size)
    (hnd : ∀ r R r' R', aget dro r = some R → aget dro r' = some R' → r ≠ r' → ∀ x, E1.φ r x → ¬ E1.φ r' x)
    (hold : ∀ n, U n → E1.ρ n = E.ρ n ∧ E1.φ n = E.φ n ∧ E1.β n = E.β n) (hκ : E1.κ = E.κ := by rfl) :
    Mem w0 S0 { st with ro := dro ++ st.ro } E1 w1 ∧ Trans st E w { st with ro := dro ++ st.ro } E1 w1 U := by
  have hroot : ∀ r R, ({ st with ro := dro ++ st.ro } : St).root r = some R → aget dro r = some R ∨ (st.root r = some R ∧ U r) := by
    intro r R hr
    obtain ⟨h1, h2⟩ := root_aget hr
    simp only [aget_append] at h1
    split at h1
    · rename_i Q hQ; cases h1; exact .inl hQ
    · exact .inr ⟨root_of h1 h2, hI.ro r R h1⟩
  have hfr : ∀ r R, st.root r = some R → ∀ x, E.φ r x → w1.heap[x]? = w.heap[x]? := fun r R hr x hx => hkeep x (h.rlt r R hr x hx)
  have hT : Trans st E w { st with ro := dro ++ st.ro } E1 w1 U := by
    refine ⟨fun r hU R1 hR1 => ?_, fun l hU cs1 h1 => ⟨⟨cs1, h1⟩, (hold l hU).2.2⟩, hκ⟩
    rcases hroot r R1 hR1 with hd | ⟨hr, _⟩
    · exact absurd hU (hnew r R1 hd).1
    · refine ⟨R1, hr, rfl, fun p u hp => ?_⟩
      rw [(hold r hU).1, hdrAt_frame p (h.rep r R1 hr) (hfr r R1 hr)]
      exact hp
  refine ⟨⟨hos.trans h.os, htp.trans h.tape, hout.trans h.output, Nat.le_trans h.size hsz, fun b hb hS => (hkeep b (Nat.lt_of_lt_of_le hb h.size)).trans (h.keep b hb hS), ?_, ?_, ?_, ?_, ?_, ?_, ?_, ?_, hκ.trans h.κ⟩, hT⟩
  · intro r R hr
    rcases hroot r R hr with hd | ⟨hr, hU⟩
    · obtain ⟨_, ho, _, hrep, _⟩ := hnew r R hd
      rw [ho]; exact hrep
    · rw [(hold r hU).1, (hold r hU).2.1]
      exact (h.rep r R hr).frame (hfr r R hr)
  · intro r R hr x hx
    rcases hroot r R hr with hd | ⟨hr, hU⟩
    · exact ((hnew r R hd).2.2.2.2 x hx).2
    · rw [(hold r hU).2.1] at hx
      exact Nat.lt_of_lt_of_le (h.rlt r R hr x hx) hsz
  · intro r R hr ho
    rcases hroot r R hr with hd | ⟨hr, hU⟩
    · obtain ⟨_, _, he, _, hx⟩ := hnew r R hd
      exact ⟨he, fun x hx' => .inr (Nat.le_trans h.size (hx x hx').1)⟩
    · rw [(hold r hU).2.1]; exact h.mine r R hr ho
  · intro r R r' R' hr ho hr' he hne x hx
    rcases hroot r R hr with hd | ⟨hr, hU⟩
    · rcases hroot r' R' hr' with hd' | ⟨hr', hU'⟩
      · exact hnd r R r' R' hd hd' hne x hx
      · rw [(hold r' hU').2.1]
        intro hx'
        have := h.rlt r' R' hr' x hx'
        have := ((hnew r R hd).2.2.2.2 x hx).1
        omega
    · rw [(hold r hU).2.1] at hx
      rcases hroot r' R' hr' with hd' | ⟨hr', hU'⟩
      · intro hx'
        have := h.rlt r R hr x hx
        have := ((hnew r' R' hd').2.2.2.2 x hx').1
        omega
      · rw [(hold r' hU').2.1]
        exact h.apart r R r' R' hr ho hr' he hne x hx
  · intro l cs hl
    obtain ⟨hU, hids⟩ := hI.lo l cs hl
    obtain ⟨h1, vals, e, h2, h3, h4⟩ := h.loc l cs hl
    rw [(hold l hU).2.2]
    have hlt : E.β l < w.heap.size := (Array.getElem?_eq_some_iff.1 h2).1
    exact ⟨h1, vals, e, (hkeep _ hlt).trans h2, h3, fun j c u hc hu => ⟨(h4 j c u hc hu).1, VA.tr hT (fun n hn => hids c (List.mem_of_getElem? hc) n hn) (h4 j c u hc hu).2⟩⟩
  · intro l l' cs cs' hl hl' he
    rw [(hold l (hI.lo l cs hl).1).2.2, (hold l' (hI.lo l' cs' hl').1).2.2] at he
    exact h.linj l l' cs cs' hl hl' he
  · intro l cs r R hl hr
    have hβ := (hold l (hI.lo l cs hl).1).2.2
    rw [hβ]
    obtain ⟨h1, vals, e, h2, h3, h4⟩ := h.loc l cs hl
    have hlt : E.β l < w.heap.size := (Array.getElem?_eq_some_iff.1 h2).1
    rcases hroot r R hr with hd | ⟨hr, hU⟩
    · intro hx
      have := ((hnew r R hd).2.2.2.2 _ hx).1
      omega
    · rw [(hold r hU).2.1]
      exact h.lro l cs r R hl hr
  · intro r R e hr he
    simp only [aget_append] at hr
    split at hr
    · rename_i hQ; cases hr; rw [(hnew r R hQ).2.2.1] at he; cases he
    · exact h.epo r R e hr he

theorem Mem.addLoc (h : Mem w0 S0 st E w) (hI : IdsM st U) {id : Nat} (hid : ¬ U id) {vals : Array Value} {e : TypeId} {cs : List At} (hsz : vals.size = cs.length)
    (hcs : ∀ (j : Nat) (c : At) (u : Value), cs[j]? = some c → vals[j]? = some u → u.oneCell' = true ∧ VA w st E c u) (hci : ∀ a ∈ cs, ∀ m ∈ a.ids, U m) :
    Mem w0 S0 { st with lo := (id, cs) :: st.lo } { E with β := fun n => if n = id then w.heap.size else E.β n } (w.alloc (.cells vals e (0, 0))) ∧
      Trans st E w { st with lo := (id, cs) :: st.lo } { E with β := fun n => if n = id then w.heap.size else E.β n } (w.alloc (.cells vals e (0, 0))) U := by
  have hkeep : ∀ x, x < w.heap.size → (w.alloc (.cells vals e (0, 0))).heap[x]? = w.heap[x]? := fun x hx => heap_alloc_old w _ x hx
  have hfr : ∀ r R, st.root r = some R → ∀ x, E.φ r x → (w.alloc (.cells vals e (0, 0))).heap[x]? = w.heap[x]? := fun r R hr x hx => hkeep x (h.rlt r R hr x hx)
  have hlo : ∀ l cs1, aget ((id, cs) :: st.lo) l = some cs1 → (l = id ∧ cs1 = cs) ∨ (l ≠ id ∧ aget st.lo l = some cs1) := by
    intro l cs1 hl
    simp only [aget] at hl
    split at hl
    · rename_i he; simp only [beq_iff_eq] at he; cases hl; exact .inl ⟨he.symm, rfl⟩
    · rename_i he; simp only [beq_iff_eq] at he; exact .inr ⟨fun h => he h.symm, hl⟩
  have hT : Trans st E w { st with lo := (id, cs) :: st.lo } { E with β := fun n => if n = id then w.heap.size else E.β n } (w.alloc (.cells vals e (0, 0))) U := by
    refine ⟨fun r hU R1 hR1 => ⟨R1, hR1, rfl, fun p u hp => ?_⟩, fun l hU cs1 h1 => ?_, rfl⟩
    · have hr : st.root r = some R1 := hR1
      show hdrAt (w.alloc (.cells vals e (0, 0))) R1.t (E.ρ r) p = some u
      rw [hdrAt_frame p (h.rep r R1 hr) (hfr r R1 hr)]
      exact hp
    · have hne : l ≠ id := fun he => hid (he ▸ hU)
      rcases hlo l cs1 h1 with ⟨he, _⟩ | ⟨_, h2⟩
      · exact absurd he hne
      · exact ⟨⟨cs1, h2⟩, by simp [hne]⟩
  refine ⟨⟨h.os, h.tape, h.output, by simp; have := h.size; omega, fun b hb hS => (hkeep b (Nat.lt_of_lt_of_le hb h.size)).trans (h.keep b hb hS), fun r R hr => (h.rep r R hr).frame (hfr r R hr),
    fun r R hr x hx => by simp; exact Nat.lt_succ_of_lt (h.rlt r R hr x hx), h.mine, h.apart, ?_, ?_, ?_, h.epo, h.κ⟩, hT⟩
  · intro l cs1 hl
    rcases hlo l cs1 hl with ⟨rfl, rfl⟩ | ⟨hne, hl⟩
    · refine ⟨.inr (by simp; exact h.size), vals, e, by simp only [if_true]; exact heap_alloc_new w _, hsz, fun j c u hc hu => ⟨(hcs j c u hc hu).1, VA.tr hT (fun n hn => hci c (List.mem_of_getElem? hc) n hn) (hcs j c u hc hu).2⟩⟩
    · obtain ⟨h1, vals', e', h2, h3, h4⟩ := h.loc l cs1 hl
      have hlt : E.β l < w.heap.size := (Array.getElem?_eq_some_iff.1 h2).1
      simp only [hne, if_false]
      exact ⟨h1, vals', e', (hkeep _ hlt).trans h2, h3, fun j c u hc hu => ⟨(h4 j c u hc hu).1, VA.tr hT (fun n hn => (hI.lo l cs1 hl).2 c (List.mem_of_getElem? hc) n hn) (h4 j c u hc hu).2⟩⟩
  · intro l l' cs1 cs2 hl hl' he
    have hlt : ∀ l cs, aget st.lo l = some cs → E.β l < w.heap.size := fun l cs hl => by
      obtain ⟨_, vals', e', h2, _⟩ := h.loc l cs hl
      exact (Array.getElem?_eq_some_iff.1 h2).1
    rcases hlo l cs1 hl with ⟨rfl, rfl⟩ | ⟨hne, hl2⟩
    · rcases hlo l' cs2 hl' with ⟨rfl, rfl⟩ | ⟨hne', hl2'⟩
      · rfl
      · simp only [if_true, hne', if_false] at he
        have := hlt l' cs2 hl2'
        omega
    · rcases hlo l' cs2 hl' with ⟨rfl, rfl⟩ | ⟨hne', hl2'⟩
      · simp only [if_true, hne, if_false] at he
        have := hlt l cs1 hl2
        omega
      · simp only [hne, hne', if_false] at he
        exact h.linj l l' cs1 cs2 hl2 hl2' he
  · intro l cs1 r R hl hr
    rcases hlo l cs1 hl with ⟨rfl, rfl⟩ | ⟨hne, hl⟩
    · simp only [if_true]
      intro hx
      have := h.rlt r R hr _ hx
      omega
    · simp only [hne, if_false]
      exact h.lro l cs1 r R hl hr

theorem Mem.stLoc (h : Mem w0 S0 st E w) (hI : IdsM st U) {l : Nat} {cs cs' : List At} (hl : aget st.lo l = some cs) {vals' : Array Value} {e' : TypeId}
    (hos : w1.os = w.os) (htp : w1.tape = w.tape) (hout : w1.output = w.output) (hsz : w1.heap.size = w.heap.size) (hkeep : ∀ x, x ≠ E.β l → w1.heap[x]? = w.heap[x]?)
    (hnew : w1.heap[E.β l]? = some (.cells vals' e' (0, 0))) (hsz' : vals'.size = cs'.length)
    (hcs : ∀ (j : Nat) (c : At) (u : Value), cs'[j]? = some c → vals'[j]? = some u → u.oneCell' = true ∧ VA w st E c u) (hci : ∀ a ∈ cs', ∀ m ∈ a.ids, U m) :
    Mem w0 S0 { st with lo := (l, cs') :: st.lo } E w1 ∧ Trans st E w { st with lo := (l, cs') :: st.lo } E w1 U := by
  have hfr : ∀ r R, st.root r = some R → ∀ x, E.φ r x → w1.heap[x]? = w.heap[x]? := fun r R hr x hx => hkeep x (fun he => h.lro l cs r R hl hr (he ▸ hx))
  have hlo : ∀ k cs1, aget ((l, cs') :: st.lo) k = some cs1 → (k = l ∧ cs1 = cs') ∨ (k ≠ l ∧ aget st.lo k = some cs1) := by
    intro k cs1 hk
    simp only [aget] at hk
    split at hk
    · rename_i he; simp only [beq_iff_eq] at he; cases hk; exact .inl ⟨he.symm, rfl⟩
    · rename_i he; simp only [beq_iff_eq] at he; exact .inr ⟨fun h => he h.symm, hk⟩
  have hT : Trans st E w { st with lo := (l, cs') :: st.lo } E w1 U := by
    refine ⟨fun r hU R1 hR1 => ⟨R1, hR1, rfl, fun p u hp => ?_⟩, fun k hU cs1 h1 => ?_, rfl⟩
    · have hr : st.root r = some R1 := hR1
      rw [hdrAt_frame p (h.rep r R1 hr) (hfr r R1 hr)]
      exact hp
    · rcases hlo k cs1 h1 with ⟨rfl, _⟩ | ⟨_, h2⟩
      · exact ⟨⟨cs, hl⟩, rfl⟩
      · exact ⟨⟨cs1, h2⟩, rfl⟩
  obtain ⟨hb1, vals, e, hb2, hb3, hb4⟩ := h.loc l cs hl
  refine ⟨⟨hos.trans h.os, htp.trans h.tape, hout.trans h.output, by rw [hsz]; exact h.size, fun b hb hS => ?_, fun r R hr => (h.rep r R hr).frame (hfr r R hr),
    fun r R hr x hx => by rw [hsz]; exact h.rlt r R hr x hx, h.mine, h.apart, ?_, ?_, ?_, h.epo, h.κ⟩, hT⟩
  · refine (hkeep b (fun he => ?_)).trans (h.keep b hb hS)
    subst he
    rcases hb1 with hb1 | hb1
    · exact hS hb1
    · omega
  · intro k cs1 hk
    rcases hlo k cs1 hk with ⟨rfl, rfl⟩ | ⟨hne, hk⟩
    · exact ⟨hb1, vals', e', hnew, hsz', fun j c u hc hu => ⟨(hcs j c u hc hu).1, VA.tr hT (fun n hn => hci c (List.mem_of_getElem? hc) n hn) (hcs j c u hc hu).2⟩⟩
    · obtain ⟨h1, vals2, e2, h2, h3, h4⟩ := h.loc k cs1 hk
      refine ⟨h1, vals2, e2, (hkeep _ (fun he => hne (h.linj k l cs1 cs hk hl he))).trans h2, h3, fun j c u hc hu => ⟨(h4 j c u hc hu).1, VA.tr hT (fun n hn => (hI.lo k cs1 hk).2 c (List.mem_of_getElem? hc) n hn) (h4 j c u hc hu).2⟩⟩
  · intro k k' cs1 cs2 hk hk' he
    rcases hlo k cs1 hk with ⟨rfl, rfl⟩ | ⟨hne, hk2⟩
    · rcases hlo k' cs2 hk' with ⟨rfl, rfl⟩ | ⟨hne', hk2'⟩
      · rfl
      · exact h.linj k k' cs cs2 hl hk2' he
    · rcases hlo k' cs2 hk' with ⟨rfl, rfl⟩ | ⟨hne', hk2'⟩
      · exact h.linj k k' cs1 cs hk2 hl he
      · exact h.linj k k' cs1 cs2 hk2 hk2' he
  · intro k cs1 r R hk hr
    rcases hlo k cs1 hk with ⟨rfl, rfl⟩ | ⟨hne, hk⟩
    · exact h.lro k cs r R hl hr
    · exact h.lro k cs1 r R hk hr

/-- A slice of its own is written in place. -/
theorem Mem.mut (h : Mem w0 S0 st E w) (hI : IdsM st U) {r : Nat} {R : Root} (hr : st.root r = some R) (ho : R.own = true) {m : List R.t.den}
    (hos : w1.os = w.os) (htp : w1.tape = w.tape) (hout : w1.output = w.output) (hsz : w1.heap.size = w.heap.size) (hkeep : ∀ x, ¬ E.φ r x → w1.heap[x]? = w.heap[x]?)
    (hrep : Rep true w1 (E.ρ r) (.s R.t m) (E.φ r)) (hhdr : ∀ p u, hdrAt w R.t (E.ρ r) p = some u → hdrAt w1 R.t (E.ρ r) p = some u) :
    Mem w0 S0 { st with ro := (r, { R with l := m }) :: st.ro, ep := st.ep + 1 } E w1 ∧ Trans st E w { st with ro := (r, { R with l := m }) :: st.ro, ep := st.ep + 1 } E w1 U := by
  obtain ⟨hre, hrm⟩ := h.mine r R hr ho
  have hroot : ∀ q Q, ({ st with ro := (r, { R with l := m }) :: st.ro, ep := st.ep + 1 } : St).root q = some Q →
      (q = r ∧ Q = { R with l := m }) ∨ (q ≠ r ∧ st.root q = some Q ∧ Q.ep = none) := by
    intro q Q hq
    obtain ⟨h1, h2⟩ := root_aget hq
    simp only [aget] at h1
    split at h1
    · rename_i he; simp only [beq_iff_eq] at he; cases h1; exact .inl ⟨he.symm, rfl⟩
    · rename_i he
      simp only [beq_iff_eq] at he
      refine .inr ⟨fun h => he h.symm, ?_⟩
      rcases h2 with h2 | h2
      · exact ⟨root_of h1 (.inl h2), h2⟩
      · have := h.epo q Q _ h1 h2
        simp only at this
        omega
  have hoth : ∀ q Q, q ≠ r → st.root q = some Q → Q.ep = none → ∀ x, E.φ q x → w1.heap[x]? = w.heap[x]? :=
    fun q Q hne hq hQ x hx => hkeep x (fun hxr => h.apart r R q Q hr ho hq hQ (fun e => hne e.symm) x hxr hx)
  have hT : Trans st E w { st with ro := (r, { R with l := m }) :: st.ro, ep := st.ep + 1 } E w1 U := by
    refine ⟨fun q hU Q hQ => ?_, fun l hU cs1 h1 => ⟨⟨cs1, h1⟩, rfl⟩, rfl⟩
    rcases hroot q Q hQ with ⟨rfl, rfl⟩ | ⟨hne, hq, hQe⟩
    · exact ⟨R, hr, rfl, hhdr⟩
    · refine ⟨Q, hq, rfl, fun p u hp => ?_⟩
      rw [hdrAt_frame p (h.rep q Q hq) (hoth q Q hne hq hQe)]
      exact hp
  refine ⟨⟨hos.trans h.os, htp.trans h.tape, hout.trans h.output, by rw [hsz]; exact h.size, ?_, ?_, ?_, ?_, ?_, ?_, h.linj, ?_, ?_, h.κ⟩, hT⟩
  · intro b hb hS
    refine (hkeep b (fun hx => ?_)).trans (h.keep b hb hS)
    rcases hrm b hx with h1 | h1
    · exact hS h1
    · omega
  · intro q Q hq
    rcases hroot q Q hq with ⟨rfl, rfl⟩ | ⟨hne, hq, hQe⟩
    · simp only [ho]; exact hrep
    · exact (h.rep q Q hq).frame (hoth q Q hne hq hQe)
  · intro q Q hq x hx
    rw [hsz]
    rcases hroot q Q hq with ⟨rfl, rfl⟩ | ⟨hne, hq, hQe⟩
    · exact h.rlt q R hr x hx
    · exact h.rlt q Q hq x hx
  · intro q Q hq hoq
    rcases hroot q Q hq with ⟨rfl, rfl⟩ | ⟨hne, hq, hQe⟩
    · exact ⟨hre, hrm⟩
    · exact h.mine q Q hq hoq
  · intro q Q q' Q' hq hoq hq' he hne x hx
    have h1 : ∃ R1, st.root q = some R1 ∧ R1.own = true := by
      rcases hroot q Q hq with ⟨rfl, rfl⟩ | ⟨_, hq, _⟩
      · exact ⟨R, hr, ho⟩
      · exact ⟨Q, hq, hoq⟩
    have h2 : ∃ R2, st.root q' = some R2 ∧ R2.ep = none := by
      rcases hroot q' Q' hq' with ⟨rfl, rfl⟩ | ⟨_, hq', hQ'⟩
      · exact ⟨R, hr, hre⟩
      · exact ⟨Q', hq', hQ'⟩
    obtain ⟨R1, h1a, h1b⟩ := h1
    obtain ⟨R2, h2a, h2b⟩ := h2
    exact h.apart q R1 q' R2 h1a h1b h2a h2b hne x hx
  · intro l cs hl
    obtain ⟨h1, vals, e, h2, h3, h4⟩ := h.loc l cs hl
    exact ⟨h1, vals, e, (hkeep _ (h.lro l cs r R hl hr)).trans h2, h3, fun j c u hc hu => ⟨(h4 j c u hc hu).1, VA.tr hT (fun n hn => (hI.lo l cs hl).2 c (List.mem_of_getElem? hc) n hn) (h4 j c u hc hu).2⟩⟩
  · intro l cs q Q hl hq
    rcases hroot q Q hq with ⟨rfl, rfl⟩ | ⟨hne, hq, hQe⟩
    · exact h.lro l cs q R hl hr
    · exact h.lro l cs q Q hl hq
  · intro q Q e hq he
    simp only [aget] at hq
    split at hq
    · cases hq
      simp only [hre] at he
      cases he
    · exact Nat.le_succ_of_le (h.epo q Q e hq he)

theorem moved_aget {st : St} : ∀ (ks : List Nat) (q : Nat) (Q : Root), aget (moved st ks) q = some Q → q ∈ ks ∧ ∃ R, aget st.ro q = some R ∧ Q = { R with own := false, ep := some (st.ep + 1) } := by
  intro ks
  induction ks with
  | nil => intro q Q h; cases h
  | cons k ks ih =>
    intro q Q h
    simp only [moved] at h
    split at h
    · rename_i R hR
      simp only [aget] at h
      split at h
      · rename_i he
        simp only [beq_iff_eq] at he
        subst he
        cases h
        exact ⟨by simp, R, hR, rfl⟩
      · obtain ⟨h1, h2⟩ := ih q Q h
        exact ⟨by simp [h1], h2⟩
    · obtain ⟨h1, h2⟩ := ih q Q h
      exact ⟨by simp [h1], h2⟩

theorem moved_none {st : St} : ∀ (ks : List Nat) (q : Nat), aget (moved st ks) q = none → q ∈ ks → aget st.ro q = none := by
  intro ks
  induction ks with
  | nil => intro q _ h; cases h
  | cons k ks ih =>
    intro q h hm
    simp only [moved] at h
    split at h
    · rename_i R hR
      simp only [aget] at h
      split at h
      · cases h
      · rename_i he
        simp only [beq_iff_eq] at he
        rcases List.mem_cons.1 hm with h1 | h1
        · exact absurd h1.symm he
        · exact ih q h h1
    · rename_i hR
      rcases List.mem_cons.1 hm with h1 | h1
      · subst h1; exact hR
      · exact ih q h h1

/-- Slices of its own become part of a new one. -/
theorem Mem.merge (h : Mem w0 S0 st E w) (hI : IdsM st U) {id : Nat} (hid : ¬ U id) {ks : List Nat} {t : Ty} {m : List t.den} {v : Value} {φn : BSet}
    (hks : ∀ k ∈ ks, ∃ R, st.root k = some R ∧ R.own = true)
    (hos : w1.os = w.os) (htp : w1.tape = w.tape) (hout : w1.output = w.output) (hsz : w.heap.size ≤ w1.heap.size)
    (hkeep : ∀ x, x < w.heap.size → (∀ k ∈ ks, ¬ E.φ k x) → w1.heap[x]? = w.heap[x]?)
    (hφ : ∀ x, φn x → (∃ k ∈ ks, E.φ k x) ∨ (w.heap.size ≤ x ∧ x < w1.heap.size))
    (hrep : Rep true w1 v (.s t m) φn)
    (hold : ∀ k ∈ ks, ∀ R, st.root k = some R → Rep false w1 (E.ρ k) (.s R.t R.l) (E.φ k) ∧ ∀ p u, hdrAt w R.t (E.ρ k) p = some u → hdrAt w1 R.t (E.ρ k) p = some u) :
    Mem w0 S0 { st with ro := (id, newRoot t m) :: moved st ks ++ st.ro, ep := st.ep + 1 } { E with ρ := fun n => if n = id then v else E.ρ n, φ := fun n => if n = id then φn else E.φ n } w1 ∧
      Trans st E w { st with ro := (id, newRoot t m) :: moved st ks ++ st.ro, ep := st.ep + 1 } { E with ρ := fun n => if n = id then v else E.ρ n, φ := fun n => if n = id then φn else E.φ n } w1 U := by
  have hroot : ∀ q Q, ({ st with ro := (id, newRoot t m) :: moved st ks ++ st.ro, ep := st.ep + 1 } : St).root q = some Q →
      (q = id ∧ Q = newRoot t m) ∨ (q ≠ id ∧ q ∈ ks ∧ ∃ R, st.root q = some R ∧ R.own = true ∧ Q = { R with own := false, ep := some (st.ep + 1) }) ∨ (q ≠ id ∧ q ∉ ks ∧ st.root q = some Q ∧ Q.ep = none) := by
    intro q Q hq
    obtain ⟨h1, h2⟩ := root_aget hq
    simp only [List.cons_append, aget] at h1
    split at h1
    · rename_i he; simp only [beq_iff_eq] at he; cases h1; exact .inl ⟨he.symm, rfl⟩
    · rename_i he
      simp only [beq_iff_eq] at he
      have hne : q ≠ id := fun h => he h.symm
      rw [aget_append] at h1
      split at h1
      · rename_i Q' hQ'
        cases h1
        obtain ⟨hm, R, hR, rfl⟩ := moved_aget ks q _ hQ'
        obtain ⟨R2, hR2, hR2o⟩ := hks q hm
        have := (root_aget hR2).1
        rw [hR] at this
        cases this
        exact .inr (.inl ⟨hne, hm, R, hR2, hR2o, rfl⟩)
      · rename_i hnone
        have hnk : q ∉ ks := fun hm => by
          have := moved_none ks q hnone hm
          rw [this] at h1
          cases h1
        refine .inr (.inr ⟨hne, hnk, ?_⟩)
        rcases h2 with h2 | h2
        · exact ⟨root_of h1 (.inl h2), h2⟩
        · have := h.epo q Q _ h1 h2
          simp only at this
          omega
  have hoth : ∀ q Q, q ∉ ks → st.root q = some Q → Q.ep = none → ∀ x, E.φ q x → w1.heap[x]? = w.heap[x]? := by
    intro q Q hnk hq hQ x hx
    refine hkeep x (h.rlt q Q hq x hx) (fun k hk hxk => ?_)
    obtain ⟨R, hR, hRo⟩ := hks k hk
    exact h.apart k R q Q hR hRo hq hQ (fun e => hnk (e ▸ hk)) x hxk hx
  have hUid : ∀ q R, st.root q = some R → q ≠ id := fun q R hq e => hid (e ▸ hI.ro q R (root_aget hq).1)
  have hT : Trans st E w { st with ro := (id, newRoot t m) :: moved st ks ++ st.ro, ep := st.ep + 1 } { E with ρ := fun n => if n = id then v else E.ρ n, φ := fun n => if n = id then φn else E.φ n } w1 U := by
    refine ⟨fun q hU Q hQ => ?_, fun l hU cs1 h1 => ⟨⟨cs1, h1⟩, rfl⟩, rfl⟩
    rcases hroot q Q hQ with ⟨rfl, rfl⟩ | ⟨hne, hk, R, hR, _, rfl⟩ | ⟨hne, hnk, hqs, hQe⟩
    · exact absurd hU hid
    · exact ⟨R, hR, rfl, by simp only [hne, if_false]; exact (hold q hk R hR).2⟩
    · refine ⟨Q, hqs, rfl, fun p u hp => ?_⟩
      simp only [hne, if_false]
      rw [hdrAt_frame p (h.rep q Q hqs) (hoth q Q hnk hqs hQe)]
      exact hp
  have hmine : ∀ k ∈ ks, ∀ x, E.φ k x → (S0 x ∨ w0.heap.size ≤ x) ∧ x < w.heap.size := by
    intro k hk x hx
    obtain ⟨R, hR, hRo⟩ := hks k hk
    exact ⟨(h.mine k R hR hRo).2 x hx, h.rlt k R hR x hx⟩
  refine ⟨⟨hos.trans h.os, htp.trans h.tape, hout.trans h.output, Nat.le_trans h.size hsz, ?_, ?_, ?_, ?_, ?_, ?_, h.linj, ?_, ?_, h.κ⟩, hT⟩
  · intro b hb hS
    refine (hkeep b (Nat.lt_of_lt_of_le hb h.size) (fun k hk hx => ?_)).trans (h.keep b hb hS)
    rcases (hmine k hk b hx).1 with h1 | h1
    · exact hS h1
    · omega
  · intro q Q hq
    rcases hroot q Q hq with ⟨rfl, rfl⟩ | ⟨hne, hk, R, hR, _, rfl⟩ | ⟨hne, hnk, hqs, hQe⟩
    · simp only [newRoot, if_true]; exact hrep
    · simp only [hne, if_false]; exact (hold q hk R hR).1
    · simp only [hne, if_false]; exact (h.rep q Q hqs).frame (hoth q Q hnk hqs hQe)
  · intro q Q hq x hx
    rcases hroot q Q hq with ⟨rfl, rfl⟩ | ⟨hne, hk, R, hR, _, rfl⟩ | ⟨hne, hnk, hqs, hQe⟩
    · simp only [if_true] at hx
      rcases hφ x hx with ⟨k, hk, hx⟩ | hx
      · exact Nat.lt_of_lt_of_le (hmine k hk x hx).2 hsz
      · exact hx.2
    · simp only [hne, if_false] at hx; exact Nat.lt_of_lt_of_le (h.rlt q R hR x hx) hsz
    · simp only [hne, if_false] at hx; exact Nat.lt_of_lt_of_le (h.rlt q Q hqs x hx) hsz
  · intro q Q hq hoq
    rcases hroot q Q hq with ⟨rfl, rfl⟩ | ⟨hne, hk, R, hR, _, rfl⟩ | ⟨hne, hnk, hqs, hQe⟩
    · refine ⟨rfl, fun x hx => ?_⟩
      simp only [if_true] at hx
      rcases hφ x hx with ⟨k, hk, hx⟩ | hx
      · exact (hmine k hk x hx).1
      · exact .inr (Nat.le_trans h.size hx.1)
    · cases hoq
    · simp only [hne, if_false]; exact h.mine q Q hqs hoq
  · intro q Q q' Q' hq hoq hq' he hnn x hx
    rcases hroot q Q hq with ⟨rfl, rfl⟩ | ⟨hne, hk, R, hR, _, rfl⟩ | ⟨hne, hnk, hqs, hQe⟩
    · rcases hroot q' Q' hq' with ⟨rfl, rfl⟩ | ⟨hne', hk', R', hR', _, rfl⟩ | ⟨hne', hnk', hqs', hQe'⟩
      · exact absurd rfl hnn
      · cases he
      · simp only [if_true] at hx
        simp only [hne', if_false]
        rcases hφ x hx with ⟨k, hk, hx⟩ | hx
        · obtain ⟨R, hR, hRo⟩ := hks k hk
          exact h.apart k R q' Q' hR hRo hqs' hQe' (fun e => hnk' (e ▸ hk)) x hx
        · intro hx'
          have := h.rlt q' Q' hqs' x hx'
          omega
    · cases hoq
    · simp only [hne, if_false] at hx
      rcases hroot q' Q' hq' with ⟨rfl, rfl⟩ | ⟨hne', hk', R', hR', _, rfl⟩ | ⟨hne', hnk', hqs', hQe'⟩
      · simp only [if_true]
        intro hx'
        rcases hφ x hx' with ⟨k, hk, hx'⟩ | hx'
        · obtain ⟨R, hR, hRo⟩ := hks k hk
          exact h.apart k R q Q hR hRo hqs hQe (fun e => hnk (e ▸ hk)) x hx' hx
        · have := h.rlt q Q hqs x hx
          omega
      · cases he
      · simp only [hne', if_false]
        exact h.apart q Q q' Q' hqs hoq hqs' hQe' hnn x hx
  · intro l cs hl
    obtain ⟨h1, vals, e, h2, h3, h4⟩ := h.loc l cs hl
    have hlt : E.β l < w.heap.size := (Array.getElem?_eq_some_iff.1 h2).1
    refine ⟨h1, vals, e, (hkeep _ hlt (fun k hk hx => ?_)).trans h2, h3, fun j c u hc hu => ⟨(h4 j c u hc hu).1, VA.tr hT (fun n hn => (hI.lo l cs hl).2 c (List.mem_of_getElem? hc) n hn) (h4 j c u hc hu).2⟩⟩
    obtain ⟨R, hR, _⟩ := hks k hk
    exact h.lro l cs k R hl hR hx
  · intro l cs q Q hl hq
    obtain ⟨h1, vals, e, h2, h3, h4⟩ := h.loc l cs hl
    have hlt : E.β l < w.heap.size := (Array.getElem?_eq_some_iff.1 h2).1
    rcases hroot q Q hq with ⟨rfl, rfl⟩ | ⟨hne, hk, R, hR, _, rfl⟩ | ⟨hne, hnk, hqs, hQe⟩
    · simp only [if_true]
      intro hx
      rcases hφ _ hx with ⟨k, hk, hx⟩ | hx
      · obtain ⟨R, hR, _⟩ := hks k hk
        exact h.lro l cs k R hl hR hx
      · omega
    · simp only [hne, if_false]; exact h.lro l cs q R hl hR
    · simp only [hne, if_false]; exact h.lro l cs q Q hl hqs
  · intro q Q e hq he
    simp only [List.cons_append, aget] at hq
    split at hq
    · cases hq; cases he
    · rw [aget_append] at hq
      split at hq
      · rename_i Q' hQ'
        cases hq
        obtain ⟨_, R, _, rfl⟩ := moved_aget ks q _ hQ'
        simp only [Option.some.injEq] at he
        subst he
        exact Nat.le_refl _
      · exact Nat.le_succ_of_le (h.epo q Q e hq he)

/-- A view of a slice is made. -/
theorem Mem.view (h : Mem w0 S0 st E w) (hI : IdsM st U) {id : Nat} (hid : ¬ U id) {r : Nat} {R : Root} (hr : st.root r = some R) {t : Ty} {m : List t.den} {v : Value}
    (hrep : Rep false w v (.s t m) (E.φ r)) :
    Mem w0 S0 { st with ro := (id, subRoot st R t m) :: st.ro } { E with ρ := fun n => if n = id then v else E.ρ n, φ := fun n => if n = id then E.φ r else E.φ n } w ∧
      Trans st E w { st with ro := (id, subRoot st R t m) :: st.ro } { E with ρ := fun n => if n = id then v else E.ρ n, φ := fun n => if n = id then E.φ r else E.φ n } w U := by
  have hroot : ∀ q Q, ({ st with ro := (id, subRoot st R t m) :: st.ro } : St).root q = some Q → (q = id ∧ Q = subRoot st R t m) ∨ (q ≠ id ∧ st.root q = some Q) := by
    intro q Q hq
    obtain ⟨h1, h2⟩ := root_aget hq
    simp only [aget] at h1
    split at h1
    · rename_i he; simp only [beq_iff_eq] at he; cases h1; exact .inl ⟨he.symm, rfl⟩
    · rename_i he; simp only [beq_iff_eq] at he; exact .inr ⟨fun h => he h.symm, root_of h1 h2⟩
  have hre := (root_aget hr).2
  have hT : Trans st E w { st with ro := (id, subRoot st R t m) :: st.ro } { E with ρ := fun n => if n = id then v else E.ρ n, φ := fun n => if n = id then E.φ r else E.φ n } w U := by
    refine ⟨fun q hU Q hQ => ?_, fun l hU cs1 h1 => ⟨⟨cs1, h1⟩, rfl⟩, rfl⟩
    rcases hroot q Q hQ with ⟨rfl, rfl⟩ | ⟨hne, hq⟩
    · exact absurd hU hid
    · exact ⟨Q, hq, rfl, by simp only [hne, if_false]; exact fun _ _ h => h⟩
  refine ⟨⟨h.os, h.tape, h.output, h.size, h.keep, ?_, ?_, ?_, ?_, ?_, h.linj, ?_, ?_, h.κ⟩, hT⟩
  · intro q Q hq
    rcases hroot q Q hq with ⟨rfl, rfl⟩ | ⟨hne, hqs⟩
    · simp only [subRoot, if_true]; exact hrep
    · simp only [hne, if_false]; exact h.rep q Q hqs
  · intro q Q hq x hx
    rcases hroot q Q hq with ⟨rfl, rfl⟩ | ⟨hne, hqs⟩
    · simp only [if_true] at hx; exact h.rlt r R hr x hx
    · simp only [hne, if_false] at hx; exact h.rlt q Q hqs x hx
  · intro q Q hq hoq
    rcases hroot q Q hq with ⟨rfl, rfl⟩ | ⟨hne, hqs⟩
    · cases hoq
    · simp only [hne, if_false]; exact h.mine q Q hqs hoq
  · intro q Q q' Q' hq hoq hq' he hnn x hx
    rcases hroot q Q hq with ⟨rfl, rfl⟩ | ⟨hne, hqs⟩
    · cases hoq
    · simp only [hne, if_false] at hx
      rcases hroot q' Q' hq' with ⟨rfl, rfl⟩ | ⟨hne', hqs'⟩
      · simp only [if_true]
        simp only [subRoot] at he
        split at he
        · cases he
        · rename_i hown
          refine h.apart q Q r R hqs hoq hr he (fun e => ?_) x hx
          subst e
          rw [hr] at hqs
          cases hqs
          exact hown hoq
      · simp only [hne', if_false]
        exact h.apart q Q q' Q' hqs hoq hqs' he hnn x hx
  · intro l cs hl
    obtain ⟨h1, vals, e, h2, h3, h4⟩ := h.loc l cs hl
    exact ⟨h1, vals, e, h2, h3, fun j c u hc hu => ⟨(h4 j c u hc hu).1, VA.tr hT (fun n hn => (hI.lo l cs hl).2 c (List.mem_of_getElem? hc) n hn) (h4 j c u hc hu).2⟩⟩
  · intro l cs q Q hl hq
    rcases hroot q Q hq with ⟨rfl, rfl⟩ | ⟨hne, hqs⟩
    · simp only [if_true]; exact h.lro l cs r R hl hr
    · simp only [hne, if_false]; exact h.lro l cs q Q hl hqs
  · intro q Q e hq he
    simp only [aget] at hq
    split at hq
    · cases hq
      simp only [subRoot] at he
      split at he
      · cases he; exact Nat.le_refl _
      · exact h.epo r R e (root_aget hr).1 he
    · exact h.epo q Q e hq he

end
end Go.Proofs.Ytcfnaifggdelnaa.E
