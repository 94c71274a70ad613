/- What is proved here: a store that puts slices into another slice does what the evaluator says. -/
import Derived.Test.YtcfnaifggdelnaaS19
namespace Go.Proofs.Ytcfnaifggdelnaa.E
open Go

section
variable {C : Cfg} {w0 w w1 : World} {S0 : BSet} {U : Nat → Prop} {st st1 : St} {E E1 : Env} {ts : Array Value} {sv : List (Array Value)}

/-- The state after such a store. -/
def graftSt (st : St) (r : Nat) (R : Root) (m : List R.t.den) (ks : List Nat) (js : List (List Nat)) : St :=
  { st with
    tm := st.tm.map (staleMV r js)
    stk := st.stk.map fun f => f.map (staleMV r js)
    lo := st.lo.map fun x => (x.1, x.2.map (staleAt r js))
    ro := (r, { R with l := m }) :: (moved st ks ++ st.ro)
    ep := st.ep + 1 }

theorem graft_sim (hS : Sim w0 S0 U st E ts sv w) {r : Nat} {R : Root} (hR : st.root r = some R) (ho : R.own = true) {m : List R.t.den} {ks : List Nat} {js : List (List Nat)} {b : Nat} {S3 : BSet}
    (hks : ∀ q ∈ ks, q ≠ r ∧ ∃ R, st.root q = some R ∧ R.own = true)
    (hos : w1.os = w.os) (htp : w1.tape = w.tape) (hout : w1.output = w.output) (hsz : w1.heap.size = w.heap.size) (hb : E.φ r b) (hkeep : ∀ x, x ≠ b → w1.heap[x]? = w.heap[x]?)
    (hS3 : ∀ x, S3 x → E.φ r x ∨ ∃ q ∈ ks, E.φ q x) (hrep : Rep true w1 (E.ρ r) (.s R.t m) S3)
    (hhdr : ∀ q u, hdrAt w R.t (E.ρ r) q = some u → js.any (fun c => c.isPrefixOf (cols q)) = false → hdrAt w1 R.t (E.ρ r) q = some u) :
    Sim w0 S0 U (graftSt st r R m ks js) { E with φ := fun n => if n = r then S3 else E.φ n } ts sv w1 := by
  have hM := hS.mem
  obtain ⟨hre, hrm⟩ := hM.mine r R hR ho
  have hroot : ∀ q Q, (graftSt st r R m ks js).root q = some Q →
      (q = r ∧ Q = { R with l := m }) ∨ (q ≠ r ∧ q ∈ ks ∧ ∃ R', st.root q = some R' ∧ R'.own = true ∧ Q = { R' with own := false, ep := some (st.ep + 1) }) ∨ (q ≠ r ∧ q ∉ ks ∧ st.root q = some Q ∧ Q.ep = none) := by
    intro q Q hq
    obtain ⟨h1, h2⟩ := root_aget hq
    simp only [graftSt, aget] at h1 h2
    split at h1
    · rename_i he; simp only [beq_iff_eq] at he; cases h1; exact .inl ⟨he.symm, rfl⟩
    · rename_i he
      simp only [beq_iff_eq] at he
      have hne : q ≠ r := fun h => he h.symm
      rw [aget_append] at h1
      split at h1
      · rename_i Q' hQ'
        cases h1
        obtain ⟨hm, R', hR', rfl⟩ := moved_aget ks q _ hQ'
        obtain ⟨_, R2, hR2, hR2o⟩ := hks q hm
        have := (root_aget hR2).1
        rw [hR'] at this
        cases this
        exact .inr (.inl ⟨hne, hm, R', hR2, hR2o, rfl⟩)
      · rename_i hnone
        have hnk : q ∉ ks := fun hm => by
          have := moved_none ks q hnone hm
          rw [this] at h1
          cases h1
        refine .inr (.inr ⟨hne, hnk, ?_⟩)
        rcases h2 with h2 | h2
        · exact ⟨root_of h1 (.inl h2), h2⟩
        · have := hM.epo q Q _ h1 h2
          omega
  have hfr : ∀ q Q, q ≠ r → st.root q = some Q → Q.ep = none → ∀ x, E.φ q x → w1.heap[x]? = w.heap[x]? :=
    fun q Q hne hq hQ x hx => hkeep x (fun e => hM.apart r R q Q hR ho hq hQ (fun e => hne e.symm) b hb (e ▸ hx))
  have hkq : ∀ q ∈ ks, ∃ Q, q ≠ r ∧ st.root q = some Q ∧ Q.own = true ∧ Q.ep = none := fun q hq => by
    obtain ⟨h1, Q, h2, h3⟩ := hks q hq
    exact ⟨Q, h1, h2, h3, (hM.mine q Q h2 h3).1⟩
  have hS3m : ∀ x, S3 x → (S0 x ∨ w0.heap.size ≤ x) ∧ x < w.heap.size := by
    intro x hx
    rcases hS3 x hx with h | ⟨q, hq, h⟩
    · exact ⟨hrm x h, hM.rlt r R hR x h⟩
    · obtain ⟨Q, _, h2, h3, _⟩ := hkq q hq
      exact ⟨(hM.mine q Q h2 h3).2 x h, hM.rlt q Q h2 x h⟩
  have hS3a : ∀ q Q, q ≠ r → q ∉ ks → st.root q = some Q → Q.ep = none → ∀ x, S3 x → ¬ E.φ q x := by
    intro q Q hne hnk hq hQ x hx
    rcases hS3 x hx with h | ⟨q2, hq2, h⟩
    · exact hM.apart r R q Q hR ho hq hQ (fun e => hne e.symm) x h
    · obtain ⟨Q2, _, h2, h3, _⟩ := hkq q2 hq2
      exact hM.apart q2 Q2 q Q h2 h3 hq hQ (fun e => hnk (e ▸ hq2)) x h
  have T : ∀ a v, VA w st E a v → VA w1 (graftSt st r R m ks js) { E with φ := fun n => if n = r then S3 else E.φ n } (staleAt r js a) v := by
    -- a path into a slice
    have path : ∀ r' q u Q, (r = r' → js.any (fun c => c.isPrefixOf (cols q)) = false) → (graftSt st r R m ks js).root r' = some Q → (∀ R', st.root r' = some R' → hdrAt w R'.t (E.ρ r') q = some u) → hdrAt w1 Q.t (E.ρ r') q = some u := by
      intro r' q u Q hjs hQ hold
      rcases hroot r' Q hQ with ⟨rfl, rfl⟩ | ⟨hne, hk, R', hR', hRo, rfl⟩ | ⟨hne, hnk, hqs, hQe⟩
      · exact hhdr q u (hold R hR) (hjs rfl)
      · have := hdrAt_frame (w' := w1) q (hM.rep r' R' hR') (hfr r' R' hne hR' (hM.mine r' R' hR' hRo).1)
        rw [this]
        exact hold R' hR'
      · have := hdrAt_frame (w' := w1) q (hM.rep r' Q hqs) (hfr r' Q hne hqs hQe)
        rw [this]
        exact hold Q hqs
    have tyq : ∀ r' Q, (graftSt st r R m ks js).root r' = some Q → ∃ R', st.root r' = some R' ∧ R'.t = Q.t := by
      intro r' Q hQ
      rcases hroot r' Q hQ with ⟨rfl, rfl⟩ | ⟨hne, hk, R', hR', hRo, rfl⟩ | ⟨hne, hnk, hqs, hQe⟩
      · exact ⟨R, hR, rfl⟩
      · exact ⟨R', hR', rfl⟩
      · exact ⟨Q, hqs, rfl⟩
    have loc : ∀ l cs, aget (graftSt st r R m ks js).lo l = some cs → ∃ cs', aget st.lo l = some cs' := by
      intro l cs h
      simp only [graftSt] at h
      rw [aget_map] at h
      cases hl : aget st.lo l with
      | none => rw [hl] at h; cases h
      | some cs' => exact ⟨cs', rfl⟩
    intro a v hv
    cases a with
    | bad => trivial
    | i k n => exact hv
    | b x => exact hv
    | sl r' q =>
      simp only [staleAt]
      split
      · trivial
      · rename_i hns
        refine ⟨hv.1, fun Q hQ => path r' q v Q (fun e => ?_) hQ hv.2⟩
        subst e
        simpa using hns
    | lp l off =>
      refine ⟨hv.1, fun cs h => ?_⟩
      obtain ⟨cs', h'⟩ := loc l cs h
      exact hv.2 cs' h'
    | ep r' q i o =>
      simp only [staleAt]
      split
      · trivial
      · rename_i hns
        refine ⟨hv.1, fun Q hQ => ?_⟩
        obtain ⟨R', hR', ht⟩ := tyq r' Q hQ
        obtain ⟨b', o', len, cap, t', h1, h2, h3⟩ := hv.2 R' hR'
        refine ⟨b', o', len, cap, t', path r' q _ Q (fun e => ?_) hQ (fun R2 hR2 => ?_), by rw [← ht]; exact h2, h3⟩
        · subst e
          simpa using hns
        · rw [hR'] at hR2
          cases hR2
          exact h1
    | kp r' J t =>
      have key : (r = r' → coarse js J = true) → VA w1 (graftSt st r R m ks js) { E with φ := fun n => if n = r then S3 else E.φ n } (.kp r' J t) v := fun hc => by
        refine ⟨hv.1, fun Q hQ => ?_⟩
        obtain ⟨R', hR', ht⟩ := tyq r' Q hQ
        obtain ⟨h1, h2, h3⟩ := hv.2 R' hR'
        refine ⟨ht.symm.trans h1, h2, fun p u hp hJ => ?_⟩
        have := path r' p u Q (fun e => coarse_any (hc e) hJ) hQ (fun R2 hR2 => by
          rw [hR'] at hR2
          cases hR2
          rw [h1, h2]
          exact h3 p u hp hJ)
        rw [← ht, h1] at this
        rw [show E.ρ r' = v from h2] at this
        exact this
      simp only [staleAt]
      cases hb : Nat.beq r r' with
      | false => exact key (fun e => by subst e; simp at hb)
      | true => cases hc : coarse js J with
        | true => exact key (fun _ => hc)
        | false => trivial
    | fn f caps =>
      obtain ⟨vs, h1, h2, h3⟩ := hv
      refine ⟨vs, h1, h2, fun k l u hk hu => ⟨(h3 k l u hk hu).1, fun cs h => ?_⟩⟩
      obtain ⟨cs', h'⟩ := loc l cs h
      exact (h3 k l u hk hu).2 cs' h'
  have hlo : ∀ l cs, aget (graftSt st r R m ks js).lo l = some cs → ∃ cs', aget st.lo l = some cs' ∧ cs = cs'.map (staleAt r js) := by
    intro l cs h
    simp only [graftSt] at h
    rw [aget_map] at h
    cases hl : aget st.lo l with
    | none => rw [hl] at h; cases h
    | some cs' => rw [hl] at h; cases h; exact ⟨cs', rfl, rfl⟩
  refine ⟨⟨hos.trans hM.os, htp.trans hM.tape, hout.trans hM.output, by rw [hsz]; exact hM.size, ?_, ?_, ?_, ?_, ?_, ?_, ?_, ?_, ?_, hM.κ⟩, ⟨?_, ?_, ?_, ?_⟩, stale_slots T hS.tm, stale_stack T hS.stk⟩
  · intro x hx hnS
    refine (hkeep x (fun e => ?_)).trans (hM.keep x hx hnS)
    subst e
    rcases hrm x hb with h | h
    · exact hnS h
    · omega
  · intro q Q hq
    rcases hroot q Q hq with ⟨rfl, rfl⟩ | ⟨hne, hk, R', hR', hRo, rfl⟩ | ⟨hne, hnk, hqs, hQe⟩
    · simp only [if_true, ho]; exact hrep
    · simp only [if_neg hne]
      exact ((hM.rep q R' hR').frame (hfr q R' hne hR' (hM.mine q R' hR' hRo).1)).ro
    · simp only [if_neg hne]
      exact (hM.rep q Q hqs).frame (hfr q Q hne hqs hQe)
  · intro q Q hq x hx
    rw [hsz]
    rcases hroot q Q hq with ⟨rfl, rfl⟩ | ⟨hne, hk, R', hR', hRo, rfl⟩ | ⟨hne, hnk, hqs, hQe⟩
    · simp only [if_true] at hx; exact (hS3m x hx).2
    · simp only [if_neg hne] at hx; exact hM.rlt q R' hR' x hx
    · simp only [if_neg hne] at hx; exact hM.rlt q Q hqs x hx
  · intro q Q hq hoq
    rcases hroot q Q hq with ⟨rfl, rfl⟩ | ⟨hne, hk, R', hR', hRo, rfl⟩ | ⟨hne, hnk, hqs, hQe⟩
    · refine ⟨hre, fun x hx => ?_⟩
      simp only [if_true] at hx
      exact (hS3m x hx).1
    · cases hoq
    · simp only [if_neg hne]; exact hM.mine q Q hqs hoq
  · intro q Q q' Q' hq hoq hq' he hnn x hx
    rcases hroot q Q hq with ⟨rfl, rfl⟩ | ⟨hne, hk, R', hR', hRo, rfl⟩ | ⟨hne, hnk, hqs, hQe⟩
    · rcases hroot q' Q' hq' with ⟨rfl, rfl⟩ | ⟨hne', hk', R2, hR2, hRo2, rfl⟩ | ⟨hne', hnk', hqs', hQe'⟩
      · exact absurd rfl hnn
      · cases he
      · simp only [if_true] at hx
        simp only [if_neg hne']
        exact hS3a q' Q' hne' hnk' hqs' hQe' x hx
    · cases hoq
    · simp only [if_neg hne] at hx
      rcases hroot q' Q' hq' with ⟨rfl, rfl⟩ | ⟨hne', hk', R2, hR2, hRo2, rfl⟩ | ⟨hne', hnk', hqs', hQe'⟩
      · simp only [if_true]
        exact fun h => hS3a q Q hne hnk hqs hQe x h hx
      · cases he
      · simp only [if_neg hne']
        exact hM.apart q Q q' Q' hqs hoq hqs' hQe' hnn x hx
  · intro l cs hl
    obtain ⟨cs', hl', rfl⟩ := hlo l cs hl
    obtain ⟨h1, vals, e, h2, h3, h4⟩ := hM.loc l cs' hl'
    refine ⟨h1, vals, e, (hkeep _ (fun e => hM.lro l cs' r R hl' hR (by rw [e]; exact hb))).trans h2, by simp [h3], fun j c u hc hu => ?_⟩
    rw [List.getElem?_map] at hc
    cases hcj : cs'[j]? with
    | none => rw [hcj] at hc; cases hc
    | some c' => rw [hcj] at hc; cases hc; exact ⟨(h4 j c' u hcj hu).1, T _ _ (h4 j c' u hcj hu).2⟩
  · intro l l' cs cs' hl hl' he
    obtain ⟨c1, h1, _⟩ := hlo l cs hl
    obtain ⟨c2, h2, _⟩ := hlo l' cs' hl'
    exact hM.linj l l' c1 c2 h1 h2 he
  · intro l cs q Q hl hq
    obtain ⟨c1, h1, _⟩ := hlo l cs hl
    rcases hroot q Q hq with ⟨rfl, rfl⟩ | ⟨hne, hk, R', hR', hRo, rfl⟩ | ⟨hne, hnk, hqs, hQe⟩
    · simp only [if_true]
      intro hx
      rcases hS3 _ hx with h | ⟨q2, hq2, h⟩
      · exact hM.lro l c1 q R h1 hR h
      · obtain ⟨Q2, _, h2, _, _⟩ := hkq q2 hq2
        exact hM.lro l c1 q2 Q2 h1 h2 h
    · simp only [if_neg hne]; exact hM.lro l c1 q R' h1 hR'
    · simp only [if_neg hne]; exact hM.lro l c1 q Q h1 hqs
  · intro q Q e hq he
    simp only [graftSt, aget] at hq
    show e ≤ st.ep + 1
    split at hq
    · cases hq
      simp only [hre] at he
      cases he
    · rw [aget_append] at hq
      split at hq
      · rename_i Q' hQ'
        cases hq
        obtain ⟨_, R', _, rfl⟩ := moved_aget ks q _ hQ'
        simp only [Option.some.injEq] at he
        subst he
        exact Nat.le_refl _
      · exact Nat.le_succ_of_le (hM.epo q Q e hq he)
  · intro n Q hn
    simp only [graftSt, aget] at hn
    split at hn
    · rename_i he; simp only [beq_iff_eq] at he; subst he; exact hS.ids.ro _ R (root_aget hR).1
    · rw [aget_append] at hn
      split at hn
      · rename_i Q' hQ'
        obtain ⟨_, R', hR', _⟩ := moved_aget ks n Q' hQ'
        exact hS.ids.ro n R' hR'
      · exact hS.ids.ro n Q hn
  · intro n cs hn
    obtain ⟨cs', h1, rfl⟩ := hlo n cs hn
    refine ⟨(hS.ids.lo n cs' h1).1, fun a ha k hk => ?_⟩
    obtain ⟨a', ha', rfl⟩ := List.mem_map.1 ha
    exact (hS.ids.lo n cs' h1).2 a' ha' k (staleAt_ids hk)
  · intro m' hm n hn
    obtain ⟨m0, hm0, rfl⟩ := List.mem_map.1 hm
    exact hS.ids.tm m0 hm0 n (staleMV_ids hn)
  · intro f hf m' hm n hn
    obtain ⟨f0, hf0, rfl⟩ := List.mem_map.1 hf
    obtain ⟨m0, hm0, rfl⟩ := List.mem_map.1 hm
    exact hS.ids.stk f0 hf0 m0 hm0 n (staleMV_ids hn)

theorem graft_ok1 (hC : CfgOk C) (w0 w : World) (S0 : BSet) (U : Nat → Prop) (st : St) (E : Env) (ts : Array Value) (sv : List (Array Value)) (o : Oper) (id : Nat) (c : Bool) (st2 : St) (hS : Sim w0 S0 U st E ts sv w) (h : graft C st o = some (c, st2)) (hc : c = true) :
    Goes C w0 S0 U st ts sv w o id (fun _ => st2.put o.dst .und) ∧ st2.nid = st.nid := by
  subst hc
  unfold graft at h
  split at h
  · rename_i T a x ho
    split at h
    · rename_i agg tys y r p i off hT hx ha
      split at h
      · rename_i R t l c cvs ks hRr hn hg
        split at h
        · rename_i hcond
          simp only [Bool.and_eq_true, beq_iff_eq, decide_eq_true_eq] at hcond
          obtain ⟨⟨hown, hlen⟩, hfit⟩ := hcond
          split at h
          · rename_i l' hset
            split at h
            · rename_i m hput
              simp only [Option.some.injEq, Prod.mk.injEq] at h
              obtain ⟨rfl, rfl⟩ := h
              refine ⟨?_, rfl⟩
              have hG := give_some _ _ _ _ hg
              obtain ⟨hxv, hxi⟩ := opnd_sound hS hx
              obtain ⟨hav, hai⟩ := at_sound hS ha
              obtain ⟨hc1, hc2⟩ := VT.cells hxv (opnd_nb hx)
              obtain ⟨b, o2, len, cap, t1, e1, e2, e3, e4, e5⟩ := hav.2 R hRr
              have hM := hS.mem
              have hrep := hM.rep r R hRr
              rw [hown] at hrep
              obtain ⟨t', l0, S1, f1, f2, f3, f4, f5⟩ := Rep.focus p hrep e1
              have hg1 : getP R.t R.l p = some (.s t l) := by
                obtain ⟨R', hR', hg'⟩ := node_root hn
                rw [hRr] at hR'
                cases hR'
                exact hg'
              rw [hg1] at f1
              cases f1
              rw [e2] at f2
              cases f2
              obtain ⟨_, _, _, _, fwp⟩ := f5 w l S1 (fun _ _ _ => rfl) (fun _ h _ => h) f3
              generalize hv : ({ tmps := ts, defers := [] } : Act).eval x = v at *
              cases f3 with
              | void _ _ _ ho => cases ho
              | sl _ _ _ _ _ arr e' fz V K _ hb hfz hlen1 hcap hsz hS' hsub hdis hvv hcc =>
              have hfz' := hfz rfl
              subst hfz'
              have hRows : Rows true w t l arr o2 b V K S1 := ⟨hsub, hdis, hvv, hcc⟩
              have hul : v.cells.toList.length = cvs.length := by rw [hG.len]; simpa using hc1
              have husz : v.cells.size = tys.length := by rw [hc1, hlen]
              have hfit' : off + v.cells.toList.length ≤ t.width := by simp [husz]; exact hfit
              have hrow : (i.toNat + 1) * t.width ≤ cap * t.width := Nat.mul_le_mul_right _ (by omega)
              rw [Nat.succ_mul] at hrow
              have h1c : ∀ u ∈ v.cells.toList, u.oneCell' = true := by
                intro u hu
                obtain ⟨j, hj⟩ := List.mem_iff_getElem?.1 hu
                have hlt : j < (tvAts y).length := by rw [← hc1]; have := (List.getElem?_eq_some_iff.1 hj).1; simpa using this
                exact (hc2 j _ u (List.getElem?_eq_getElem hlt) (by simpa using hj)).1
              have hrun := run_store_at (w := w) (off := o2 + i.toNat * t.width + off) (hC.cty T agg tys hT) hb husz (by omega) h1c
              generalize hw1 : w.setRow b (splice arr.toList (o2 + i.toNat * t.width + off) v.cells.toList).toArray = w1 at hrun
              have hb1 : w1.heap[b]? = some (.cells (splice arr.toList (o2 + i.toNat * t.width + off) v.cells.toList).toArray e' (0, 0)) := by rw [← hw1]; exact setRow_heap w b _ _ e' _ hb
              have hoth : ∀ x, x ≠ b → w1.heap[x]? = w.heap[x]? := fun x hx => by rw [← hw1]; exact setRow_other w b x _ hx
              have hrb : E.φ r b := f4 b hS'
              have hapart : ∀ q ∈ ks, ∀ x, E.φ q x → ¬ E.φ r x := by
                intro q hq x hx hx'
                obtain ⟨hne, Q, hQ, hQo⟩ := hG.own q hq
                exact hne (hM.own_apart hQ hQo hRr hown hx hx')
              have hold : ∀ i' j, i' < l.length → j < t.width → ¬ Hit i.toNat off v.cells.toList.length i' j → ∀ x, K i' j x → w1.heap[x]? = w.heap[x]? := fun i' j hi' hj _ x hx => hoth x ((hsub i' j x hi' hj hx).2 rfl)
              -- what the new cells take
              let Kn : Nat → BSet := fun k => match (tvAts y)[k]? with
                | some (.sl q []) => E.φ q
                | some (.sl _ (_ :: _)) => K i.toNat (off + k)
                | _ => fun _ => False
              have hat : ∀ k, k < v.cells.toList.length → ∃ a, (tvAts y)[k]? = some a := fun k hk => ⟨_, List.getElem?_eq_getElem (by rw [← hc1]; simpa using hk)⟩
              have hKn : ∀ k x, k < v.cells.toList.length → Kn k x → (∃ q ∈ ks, (tvAts y)[k]? = some (.sl q []) ∧ E.φ q x) ∨ K i.toNat (off + k) x := by
                intro k x hk hx
                obtain ⟨a, ha⟩ := hat k hk
                simp only [Kn, ha] at hx
                rcases hG.get k a ha with ⟨_, _, rfl, _⟩ | ⟨_, rfl, _⟩ | ⟨q, Q, rfl, h2, h3, h4⟩ | ⟨cv, rfl, _, _⟩
                · exact hx.elim
                · exact hx.elim
                · exact .inl ⟨q, h3, ha, hx⟩
                · right
                  cases p <;> exact hx
              have hcol : ∀ k, k < v.cells.toList.length → off + k < t.width := fun k hk => by omega
              have hset1 := Rep.setCells (w := w) (w1 := w1) (Kn := Kn) hlen1 hcap hsz hRows e4 hul hfit' hset hb1 (fun k c u hc hu => by
                  have hk : k < v.cells.toList.length := (List.getElem?_eq_some_iff.1 hu).1
                  obtain ⟨a, ha⟩ := hat k hk
                  have hau := (hc2 k a u ha (by simpa using hu)).2
                  rcases hG.get k a ha with ⟨_, _, rfl, h2⟩ | ⟨_, rfl, h2⟩ | ⟨q, Q, rfl, h2, h3, h4⟩ | ⟨cv, rfl, h2, h3⟩
                  · rw [hc] at h2; cases h2; cases hau; exact .i _ _ _
                  · rw [hc] at h2; cases h2; cases hau; exact .b _ _
                  · rw [hc] at h4
                    cases h4
                    have := hau.2 Q h2
                    simp only [hdrAt, Option.some.injEq] at this
                    subst this
                    obtain ⟨hne, Q', hQ', hQo⟩ := hG.own q h3
                    rw [h2] at hQ'
                    cases hQ'
                    have hr := hM.rep q Q h2
                    rw [hQo] at hr
                    have hk2 : Kn k = E.φ q := by simp only [Kn, ha]
                    rw [hk2]
                    exact hr.frame (fun x hx => hoth x (fun e => hapart q h3 x hx (e ▸ hrb)))
                  · have hcv : cv = c := by rw [hc] at h3; cases h3; rfl
                    subst hcv
                    have hu1 := hau.2 R hRr
                    rw [fwp] at hu1
                    obtain ⟨R', hR', hgp⟩ := node_root h2
                    rw [hRr] at hR'
                    cases hR'
                    have hcell := getP_snoc p hg1 hgp
                    have hj := hcol k hk
                    have hrep2 := hcc i.toNat _ (ix_some e4) (off + k) cv hcell
                    have hV := hvv i.toNat (off + k) e4 hj
                    simp only [hdrAt] at hu1
                    rw [if_pos ⟨e3, e4⟩] at hu1
                    split at hu1
                    · rw [cell_of_block hb, hV] at hu1
                      simp only [Option.some.injEq] at hu1
                      subst hu1
                      have hk2 : Kn k = K i.toNat (off + k) := by
                        simp only [Kn, ha]
                        cases p <;> rfl
                      rw [hk2]
                      exact hrep2.frame (fun x hx => hoth x ((hsub _ _ x e4 hj hx).2 rfl))
                    · cases hu1)
                hold
                (fun k x hk hx => by
                  rcases hKn k x hk hx with ⟨q, hq, _, hx⟩ | hx
                  · exact fun e => hapart q hq x hx (e ▸ hrb)
                  · exact (hsub _ _ x e4 (hcol k hk) hx).2 rfl)
                (fun k k' x hk hk' hx hx' => by
                  rcases hKn k x hk hx with ⟨q, hq, hqa, hx⟩ | hx <;> rcases hKn k' x hk' hx' with ⟨q', hq', hqa', hx'⟩ | hx'
                  · obtain ⟨_, Q, hQ, hQo⟩ := hG.own q hq
                    obtain ⟨_, Q', hQ', hQo'⟩ := hG.own q' hq'
                    have := hM.own_apart hQ hQo hQ' hQo' hx hx'
                    subst this
                    exact hG.inj k k' q hqa hqa'
                  · exact absurd (f4 x (hsub _ _ x e4 (hcol k' hk') hx').1) (hapart q hq x hx)
                  · exact absurd (f4 x (hsub _ _ x e4 (hcol k hk) hx).1) (hapart q' hq' x hx')
                  · have := (hdis rfl _ _ _ _ x e4 (hcol k hk) e4 (hcol k' hk') hx hx').2
                    omega)
                (fun k x i' j hk hx hi' hj hnh hx' => by
                  rcases hKn k x hk hx with ⟨q, hq, _, hx⟩ | hx
                  · exact hapart q hq x hx (f4 x (hsub _ _ x hi' hj hx').1)
                  · have := hdis rfl _ _ _ _ x e4 (hcol k hk) hi' hj hx hx'
                    exact hnh ⟨this.1.symm, by omega, by omega⟩)
              have hS2 : ∀ x, (x = b ∨ (∃ i' j, i' < l.length ∧ j < t.width ∧ ¬ Hit i.toNat off v.cells.toList.length i' j ∧ K i' j x) ∨ ∃ k, k < v.cells.toList.length ∧ Kn k x) → S1 x ∨ ∃ q ∈ ks, E.φ q x := by
                intro x hx
                rcases hx with rfl | ⟨i', j, hi', hj, _, hk⟩ | ⟨k, hk, hx⟩
                · exact .inl hS'
                · exact .inl (hsub i' j x hi' hj hk).1
                · rcases hKn k x hk hx with ⟨q, hq, _, hx⟩ | hx
                  · exact .inr ⟨q, hq, hx⟩
                  · exact .inl (hsub _ _ x e4 (hcol k hk) hx).1
              obtain ⟨m', hm', hrm, hh1, hh2⟩ := f5 w1 l' _ (fun x hx hnx => hoth x (fun e => hnx (e ▸ hS'))) (fun x hx hx' => by
                  rcases hS2 x hx with h | ⟨q, hq, h⟩
                  · exact h
                  · exact absurd hx' (hapart q hq x h)) hset1
              rw [hput] at hm'
              cases hm'
              have hsim := graft_sim (w1 := w1) (m := m) (js := (newCols (tvAts y) cvs off).map fun j => cols p ++ [j]) hS hRr hown hG.own (by rw [← hw1]; rfl) (by rw [← hw1]; rfl) (by rw [← hw1]; rfl) (by rw [← hw1]; simp) hrb hoth (fun x hx => by
                  rcases hx with ⟨hx, _⟩ | hx
                  · exact .inl hx
                  · rcases hS2 x hx with h | h
                    · exact .inl (f4 x h)
                    · exact .inr h) hrm (fun q u hq hns => by
                  rcases prefix_dec p q with ⟨q', rfl⟩ | hnp
                  · rw [hh2 q']
                    rw [fwp q'] at hq
                    refine hdr_setCells hcap hsz hRows hb e4 hul hfit' hset hb1 hold q' (fun i' j q'' he k c hj hck => ?_) hoth hq
                    subst he hj
                    cases hfl : c.flat with
                    | true => exact .inl rfl
                    | false =>
                      have hk : k < v.cells.toList.length := by rw [hul]; exact (List.getElem?_eq_some_iff.1 hck).1
                      obtain ⟨a, ha⟩ := hat k hk
                      rcases newCols_mem (off := off) ha hck hfl with ⟨r2, p2, rfl, hp2⟩ | hmem
                      · right
                        intro _
                        rcases hG.get k _ ha with ⟨_, _, h, _⟩ | ⟨_, h, _⟩ | ⟨q2, Q, h, _, _, _⟩ | ⟨cv, h, h2, h3⟩
                        · cases h
                        · cases h
                        · cases h; exact absurd rfl hp2
                        · cases h
                          obtain ⟨u9, hu⟩ : ∃ u9, v.cells.toList[k]? = some u9 := ⟨_, List.getElem?_eq_getElem hk⟩
                          have hau := (hc2 k _ u9 ha (by simpa using hu)).2
                          have hu1 := hau.2 R hRr
                          rw [fwp] at hu1
                          have hj := hcol k hk
                          have hV := hvv i.toNat (off + k) e4 hj
                          simp only [hdrAt] at hu1
                          rw [if_pos ⟨e3, e4⟩] at hu1
                          split at hu1
                          · rw [cell_of_block hb, hV] at hu1
                            simp only [Option.some.injEq] at hu1
                            rw [hu, hu1]
                          · cases hu1
                      · exfalso
                        have h9 := List.any_eq_false.1 hns (cols p ++ [off + k]) (List.mem_map.2 ⟨off + k, hmem, rfl⟩)
                        exact absurd (cols_prefix p i' (off + k) q'') h9
                  · exact hh1 q u hq (fun q' he => absurd ⟨q', he⟩ hnp))
              have hput2 := hsim.putV (dst := o.dst) (m := .und) (v := undef) rfl (fun n hn => by simp [MV.ids, mvAts] at hn)
              refine goes_skip (w' := w1) ?_ ⟨hput2.mem, ⟨fun n R hn => .inl (hput2.ids.ro n R hn), fun n cs hn => ⟨.inl (hput2.ids.lo n cs hn).1, fun a ha m hm => .inl ((hput2.ids.lo n cs hn).2 a ha m hm)⟩, fun m hm n hn => .inl (hput2.ids.tm m hm n hn), fun f hf m hm n hn => .inl (hput2.ids.stk f hf m hm n hn)⟩, hput2.tm, hput2.stk⟩
              simp [execOp, ho, Instr.storeAt, e5, Instr.sureAddr, hv, hrun]
            · cases h
          · cases h
        · cases h
      · cases h
    · cases h
  · cases h

/-- A slice of our own was written, below a path, by a call. -/
theorem inplace_sim0 {n0 : Nat} (hn0 : w0.heap.size ≤ n0) (hrn : ∀ q Q, st.root q = some Q → ∀ x, E.φ q x → x < n0) (hln : ∀ l cs, aget st.lo l = some cs → E.β l < n0) (hS : Sim w0 S0 U st E ts sv w) {r : Nat} {R : Root} (hR : st.root r = some R) (ho : R.own = true) {m : List R.t.den} {js : List (List Nat)} {S3 : BSet}
    (hos : w1.os = w.os) (htp : w1.tape = w.tape) (hout : w1.output = w.output) (hsz : w.heap.size ≤ w1.heap.size) (hkeep : ∀ x, x < w.heap.size → ¬ E.φ r x → w1.heap[x]? = w.heap[x]?)
    (hS3 : ∀ x, S3 x → (E.φ r x ∨ n0 ≤ x) ∧ x < w1.heap.size) (hrep : Rep true w1 (E.ρ r) (.s R.t m) S3)
    (hhdr : ∀ q u, hdrAt w R.t (E.ρ r) q = some u → js.any (fun c => c.isPrefixOf (cols q)) = false → hdrAt w1 R.t (E.ρ r) q = some u) :
    Sim w0 S0 U (inSt st r R m js) { E with φ := fun n => if n = r then S3 else E.φ n } ts sv w1 := by
  have hM := hS.mem
  obtain ⟨hre, hrm⟩ := hM.mine r R hR ho
  have hroot : ∀ q Q, (inSt st r R m js).root q = some Q → (q = r ∧ Q = { R with l := m }) ∨ (q ≠ r ∧ st.root q = some Q ∧ Q.ep = none) := by
    intro q Q hq
    obtain ⟨h1, h2⟩ := root_aget hq
    simp only [inSt, aget] at h1 h2
    split at h1
    · rename_i he; simp only [beq_iff_eq] at he; cases h1; exact .inl ⟨he.symm, rfl⟩
    · rename_i he
      simp only [beq_iff_eq] at he
      refine .inr ⟨fun h => he h.symm, ?_⟩
      rcases h2 with h2 | h2
      · exact ⟨root_of h1 (.inl h2), h2⟩
      · have := hM.epo q Q _ h1 h2
        omega
  have hfr : ∀ q Q, q ≠ r → st.root q = some Q → Q.ep = none → ∀ x, E.φ q x → w1.heap[x]? = w.heap[x]? :=
    fun q Q hne hq hQ x hx => hkeep x (hM.rlt q Q hq x hx) (fun h => hM.apart r R q Q hR ho hq hQ (fun e => hne e.symm) x h hx)
  have hS3a : ∀ q Q, q ≠ r → st.root q = some Q → Q.ep = none → ∀ x, S3 x → ¬ E.φ q x := by
    intro q Q hne hq hQ x hx hx'
    rcases (hS3 x hx).1 with h | h
    · exact hM.apart r R q Q hR ho hq hQ (fun e => hne e.symm) x h hx'
    · have := hrn q Q hq x hx'
      omega
  have T : ∀ a v, VA w st E a v → VA w1 (inSt st r R m js) { E with φ := fun n => if n = r then S3 else E.φ n } (staleAt r js a) v := by
    have path : ∀ r' q u Q, (r = r' → js.any (fun c => c.isPrefixOf (cols q)) = false) → (inSt st r R m js).root r' = some Q → (∀ R', st.root r' = some R' → hdrAt w R'.t (E.ρ r') q = some u) → hdrAt w1 Q.t (E.ρ r') q = some u := by
      intro r' q u Q hjs hQ hold
      rcases hroot r' Q hQ with ⟨rfl, rfl⟩ | ⟨hne, hqs, hQe⟩
      · exact hhdr q u (hold R hR) (hjs rfl)
      · have := hdrAt_frame (w' := w1) q (hM.rep r' Q hqs) (hfr r' Q hne hqs hQe)
        rw [this]
        exact hold Q hqs
    have tyq : ∀ r' Q, (inSt st r R m js).root r' = some Q → ∃ R', st.root r' = some R' ∧ R'.t = Q.t := by
      intro r' Q hQ
      rcases hroot r' Q hQ with ⟨rfl, rfl⟩ | ⟨hne, hqs, hQe⟩
      · exact ⟨R, hR, rfl⟩
      · exact ⟨Q, hqs, rfl⟩
    have loc : ∀ l cs, aget (inSt st r R m js).lo l = some cs → ∃ cs', aget st.lo l = some cs' := by
      intro l cs h
      simp only [inSt] at h
      rw [aget_map] at h
      cases hl : aget st.lo l with
      | none => rw [hl] at h; cases h
      | some cs' => exact ⟨cs', rfl⟩
    intro a v hv
    cases a with
    | bad => trivial
    | i k n => exact hv
    | b x => exact hv
    | sl r' q =>
      simp only [staleAt]
      split
      · trivial
      · rename_i hns
        refine ⟨hv.1, fun Q hQ => path r' q v Q (fun e => ?_) hQ hv.2⟩
        subst e
        simpa using hns
    | lp l off =>
      refine ⟨hv.1, fun cs h => ?_⟩
      obtain ⟨cs', h'⟩ := loc l cs h
      exact hv.2 cs' h'
    | ep r' q i o =>
      simp only [staleAt]
      split
      · trivial
      · rename_i hns
        refine ⟨hv.1, fun Q hQ => ?_⟩
        obtain ⟨R', hR', ht⟩ := tyq r' Q hQ
        obtain ⟨b', o', len, cap, t', h1, h2, h3⟩ := hv.2 R' hR'
        refine ⟨b', o', len, cap, t', path r' q _ Q (fun e => ?_) hQ (fun R2 hR2 => ?_), by rw [← ht]; exact h2, h3⟩
        · subst e
          simpa using hns
        · rw [hR'] at hR2
          cases hR2
          exact h1
    | kp r' J t =>
      have key : (r = r' → coarse js J = true) → VA w1 (inSt st r R m js) { E with φ := fun n => if n = r then S3 else E.φ n } (.kp r' J t) v := fun hc => by
        refine ⟨hv.1, fun Q hQ => ?_⟩
        obtain ⟨R', hR', ht⟩ := tyq r' Q hQ
        obtain ⟨h1, h2, h3⟩ := hv.2 R' hR'
        refine ⟨ht.symm.trans h1, h2, fun p u hp hJ => ?_⟩
        have := path r' p u Q (fun e => coarse_any (hc e) hJ) hQ (fun R2 hR2 => by
          rw [hR'] at hR2
          cases hR2
          rw [h1, h2]
          exact h3 p u hp hJ)
        rw [← ht, h1] at this
        rw [show E.ρ r' = v from h2] at this
        exact this
      simp only [staleAt]
      cases hb : Nat.beq r r' with
      | false => exact key (fun e => by subst e; simp at hb)
      | true => cases hc : coarse js J with
        | true => exact key (fun _ => hc)
        | false => trivial
    | fn f caps =>
      obtain ⟨vs, h1, h2, h3⟩ := hv
      refine ⟨vs, h1, h2, fun k l u hk hu => ⟨(h3 k l u hk hu).1, fun cs h => ?_⟩⟩
      obtain ⟨cs', h'⟩ := loc l cs h
      exact (h3 k l u hk hu).2 cs' h'
  have hlo : ∀ l cs, aget (inSt st r R m js).lo l = some cs → ∃ cs', aget st.lo l = some cs' ∧ cs = cs'.map (staleAt r js) := by
    intro l cs h
    simp only [inSt] at h
    rw [aget_map] at h
    cases hl : aget st.lo l with
    | none => rw [hl] at h; cases h
    | some cs' => rw [hl] at h; cases h; exact ⟨cs', rfl, rfl⟩
  have hβ : ∀ l cs, aget st.lo l = some cs → E.β l < w.heap.size := by
    intro l cs h
    obtain ⟨_, vals, e, h2, _⟩ := hM.loc l cs h
    exact (Array.getElem?_eq_some_iff.1 h2).1
  refine ⟨⟨hos.trans hM.os, htp.trans hM.tape, hout.trans hM.output, Nat.le_trans hM.size hsz, ?_, ?_, ?_, ?_, ?_, ?_, ?_, ?_, ?_, hM.κ⟩, ⟨?_, ?_, ?_, ?_⟩, stale_slots T hS.tm, stale_stack T hS.stk⟩
  · intro x hx hnS
    refine (hkeep x (Nat.lt_of_lt_of_le hx hM.size) (fun h => ?_)).trans (hM.keep x hx hnS)
    rcases hrm x h with h | h
    · exact hnS h
    · omega
  · intro q Q hq
    rcases hroot q Q hq with ⟨rfl, rfl⟩ | ⟨hne, hqs, hQe⟩
    · simp only [if_true, ho]; exact hrep
    · simp only [if_neg hne]
      exact (hM.rep q Q hqs).frame (hfr q Q hne hqs hQe)
  · intro q Q hq x hx
    rcases hroot q Q hq with ⟨rfl, rfl⟩ | ⟨hne, hqs, hQe⟩
    · simp only [if_true] at hx; exact (hS3 x hx).2
    · simp only [if_neg hne] at hx; exact Nat.lt_of_lt_of_le (hM.rlt q Q hqs x hx) hsz
  · intro q Q hq hoq
    rcases hroot q Q hq with ⟨rfl, rfl⟩ | ⟨hne, hqs, hQe⟩
    · refine ⟨hre, fun x hx => ?_⟩
      simp only [if_true] at hx
      rcases (hS3 x hx).1 with h | h
      · exact hrm x h
      · exact .inr (Nat.le_trans hn0 h)
    · simp only [if_neg hne]; exact hM.mine q Q hqs hoq
  · intro q Q q' Q' hq hoq hq' he hnn x hx
    rcases hroot q Q hq with ⟨rfl, rfl⟩ | ⟨hne, hqs, hQe⟩
    · rcases hroot q' Q' hq' with ⟨rfl, rfl⟩ | ⟨hne', hqs', hQe'⟩
      · exact absurd rfl hnn
      · simp only [if_true] at hx
        simp only [if_neg hne']
        exact hS3a q' Q' hne' hqs' hQe' x hx
    · simp only [if_neg hne] at hx
      rcases hroot q' Q' hq' with ⟨rfl, rfl⟩ | ⟨hne', hqs', hQe'⟩
      · simp only [if_true]
        exact fun h => hS3a q Q hne hqs hQe x h hx
      · simp only [if_neg hne']
        exact hM.apart q Q q' Q' hqs hoq hqs' hQe' hnn x hx
  · intro l cs hl
    obtain ⟨cs', hl', rfl⟩ := hlo l cs hl
    obtain ⟨h1, vals, e, h2, h3, h4⟩ := hM.loc l cs' hl'
    refine ⟨h1, vals, e, (hkeep _ (hβ l cs' hl') (fun h => hM.lro l cs' r R hl' hR h)).trans h2, by simp [h3], fun j c u hc hu => ?_⟩
    rw [List.getElem?_map] at hc
    cases hcj : cs'[j]? with
    | none => rw [hcj] at hc; cases hc
    | some c' => rw [hcj] at hc; cases hc; exact ⟨(h4 j c' u hcj hu).1, T _ _ (h4 j c' u hcj hu).2⟩
  · intro l l' cs cs' hl hl' he
    obtain ⟨c1, h1, _⟩ := hlo l cs hl
    obtain ⟨c2, h2, _⟩ := hlo l' cs' hl'
    exact hM.linj l l' c1 c2 h1 h2 he
  · intro l cs q Q hl hq
    obtain ⟨c1, h1, _⟩ := hlo l cs hl
    rcases hroot q Q hq with ⟨rfl, rfl⟩ | ⟨hne, hqs, hQe⟩
    · simp only [if_true]
      intro hx
      rcases (hS3 _ hx).1 with h | h
      · exact hM.lro l c1 q R h1 hR h
      · have := hln l c1 h1
        omega
    · simp only [if_neg hne]; exact hM.lro l c1 q Q h1 hqs
  · intro q Q e hq he
    simp only [inSt, aget] at hq
    show e ≤ st.ep + 1
    split at hq
    · cases hq
      simp only [hre] at he
      cases he
    · exact Nat.le_succ_of_le (hM.epo q Q e hq he)
  · intro n Q hn
    simp only [inSt, aget] at hn
    split at hn
    · rename_i he; simp only [beq_iff_eq] at he; subst he; exact hS.ids.ro _ R (root_aget hR).1
    · exact hS.ids.ro n Q hn
  · intro n cs hn
    obtain ⟨cs', h1, rfl⟩ := hlo n cs hn
    refine ⟨(hS.ids.lo n cs' h1).1, fun a ha k hk => ?_⟩
    obtain ⟨a', ha', rfl⟩ := List.mem_map.1 ha
    exact (hS.ids.lo n cs' h1).2 a' ha' k (staleAt_ids hk)
  · intro m' hm n hn
    obtain ⟨m0, hm0, rfl⟩ := List.mem_map.1 hm
    exact hS.ids.tm m0 hm0 n (staleMV_ids hn)
  · intro f hf m' hm n hn
    obtain ⟨f0, hf0, rfl⟩ := List.mem_map.1 hf
    obtain ⟨m0, hm0, rfl⟩ := List.mem_map.1 hm
    exact hS.ids.stk f0 hf0 m0 hm0 n (staleMV_ids hn)

/-- A slice of our own was written, below a path, by a call. -/
theorem inplace_sim (hS : Sim w0 S0 U st E ts sv w) {r : Nat} {R : Root} (hR : st.root r = some R) (ho : R.own = true) {m : List R.t.den} {js : List (List Nat)} {S3 : BSet}
    (hos : w1.os = w.os) (htp : w1.tape = w.tape) (hout : w1.output = w.output) (hsz : w.heap.size ≤ w1.heap.size) (hkeep : ∀ x, x < w.heap.size → ¬ E.φ r x → w1.heap[x]? = w.heap[x]?)
    (hS3 : ∀ x, S3 x → (E.φ r x ∨ w.heap.size ≤ x) ∧ x < w1.heap.size) (hrep : Rep true w1 (E.ρ r) (.s R.t m) S3)
    (hhdr : ∀ q u, hdrAt w R.t (E.ρ r) q = some u → js.any (fun c => c.isPrefixOf (cols q)) = false → hdrAt w1 R.t (E.ρ r) q = some u) :
    Sim w0 S0 U (inSt st r R m js) { E with φ := fun n => if n = r then S3 else E.φ n } ts sv w1 :=
  inplace_sim0 (n0 := w.heap.size) hS.mem.size (fun q Q h x hx => hS.mem.rlt q Q h x hx) (fun l cs h => by
    obtain ⟨_, vals, e, h2, _⟩ := hS.mem.loc l cs h
    exact (Array.getElem?_eq_some_iff.1 h2).1) hS hR ho hos htp hout hsz hkeep hS3 hrep hhdr

theorem mcall_ok (hH : MctOk C) (w0 w : World) (S0 : BSet) (U : Nat → Prop) (st : St) (E : Env) (ts : Array Value) (sv : List (Array Value)) (o : Oper) (id : Nat) (c : Bool) (st2 : St) (mv : MV) (hS : Sim w0 S0 U st E ts sv w) (h : mcall C st o = some (c, st2, mv)) (hc : c = true) :
    Goes C w0 S0 U st ts sv w o id (fun _ => st2.put o.dst mv) ∧ st2.nid = st.nid := by
  subst hc
  unfold mcall at h
  split at h
  · rename_i cl ho
    split at h
    · rename_i f hcb
      split at h
      · rename_i run x y hmct hargs
        split at h
        · rename_i r p k hx hy
          split at h
          · rename_i R t l hR hn
            split at h
            · rename_i cc t' l' k' hrun
              split at h
              · rename_i hcond
                obtain ⟨hown, rfl⟩ := hcond
                split at h
                · rename_i m hput
                  simp only [Option.some.injEq, Prod.mk.injEq] at h
                  obtain ⟨rfl, rfl, rfl⟩ := h
                  refine ⟨?_, rfl⟩
                  obtain ⟨⟨fn, bd, hf, hbd, hname⟩, hHI⟩ := hH.ok f run hmct
                  obtain ⟨hxv, hxi⟩ := at_sound hS hx
                  have hyv := (at_sound hS hy).1
                  simp only [VA] at hyv
                  have hM := hS.mem
                  have hrep := hM.rep r R hR
                  rw [hown] at hrep
                  have hh := hxv.2 R hR
                  obtain ⟨t1, l0, S1, f1, f2, f3, f4, f5⟩ := Rep.focus p hrep hh
                  have hg1 : getP R.t R.l p = some (.s t' l) := by
                    obtain ⟨R', hR', hg'⟩ := node_root hn
                    rw [hR] at hR'
                    cases hR'
                    exact hg'
                  rw [hg1] at f1
                  cases f1
                  obtain ⟨_, _, _, _, fwp⟩ := f5 w l S1 (fun _ _ _ => rfl) (fun _ h _ => h) f3
                  intro next Q hnext
                  have hca : cl.args = #[x, y] := by rw [← hargs]
                  have hname' : fn.name ≠ "runtime.NumGoroutine" := by simpa using hname
                  have hexec : (execOp ({ tmps := ts, defers := [] } : Act).eval o).run C.P w = .ok (.enter f #[({ tmps := ts, defers := [] } : Act).eval x, .int .i64 k]) w := by
                    have hfe : ({ tmps := ts, defers := [] } : Act).eval (.func f) = .func (.func f) #[] #[] := rfl
                    simp [execOp, ho, resolve, hcb, Deferred.ofValue, invoke, callFunc, hf, hbd, hname', hca, hyv, hfe]
                  unfold Oper.wp
                  rw [hexec, Oper.upon_enter]
                  refine (hHI w _ t' l k S1 _ k' f3 (fun z hz => hM.rlt r R hR z (f4 z hz)) hrun).mono ?_
                  intro e w1 he
                  cases e with
                  | panicked chain => exact he.elim
                  | outgrown => exact he.elim
                  | returned u =>
                    obtain ⟨hos, htp, hout, hsz, hkeep, rfl, S2, hrep2, hS2⟩ := he
                    obtain ⟨m', hm', hrm, hh1, hh2⟩ := f5 w1 l' S2 (fun z hz hnz => hkeep z (hM.rlt r R hR z hz) hnz) (fun z hz hz' => by
                      rcases (hS2 z hz).1 with h | h
                      · exact h
                      · have := hM.rlt r R hR z hz'
                        omega) hrep2
                    rw [hput] at hm'
                    cases hm'
                    have hsim := inplace_sim (w1 := w1) (m := m) (js := (List.range t'.width).map fun j => cols p ++ [j]) hS hR hown hos htp hout hsz (fun z hz hnz => hkeep z hz (fun h => hnz (f4 z h))) (fun z hz => by
                      rcases hz with ⟨hz, _⟩ | hz
                      · exact ⟨.inl hz, Nat.lt_of_lt_of_le (hM.rlt r R hR z hz) hsz⟩
                      · obtain ⟨h1, h2⟩ := hS2 z hz
                        exact ⟨h1.imp (f4 z) (fun h => h), h2⟩) hrm (fun q u hq hns => by
                      refine hh1 q u hq (fun q' he => ?_)
                      subst he
                      cases q' with
                      | nil => rfl
                      | cons ij q'' =>
                        obtain ⟨i', j⟩ := ij
                        exfalso
                        rw [fwp] at hq
                        have hj : j < t'.width := by
                          generalize ({ tmps := ts, defers := [] } : Act).eval x = vx at hq
                          cases vx with
                          | slice a len cap =>
                            cases a with
                            | none => simp [hdrAt] at hq
                            | some a =>
                              simp only [hdrAt] at hq
                              split at hq
                              · split at hq
                                · rename_i hsh
                                  rw [← shape_len]
                                  exact (List.getElem?_eq_some_iff.1 hsh).1
                                · cases hq
                              · cases hq
                          | _ => simp [hdrAt] at hq
                        have h9 := List.any_eq_false.1 hns (cols p ++ [j]) (List.mem_map.2 ⟨j, List.mem_range.2 hj, rfl⟩)
                        exact absurd (cols_prefix p i' j q'') h9)
                    have hput2 := hsim.putV (dst := o.dst) (m := .v (.at (.i .i64 k'))) (v := .int .i64 k') rfl (fun n hn => by simp [MV.ids, mvAts, tvAts, At.ids, atIds, atLids] at hn)
                    exact hnext _ _ _ ⟨hput2.mem, ⟨fun n R hn => .inl (hput2.ids.ro n R hn), fun n cs hn => ⟨.inl (hput2.ids.lo n cs hn).1, fun a ha m hm => .inl ((hput2.ids.lo n cs hn).2 a ha m hm)⟩, fun m hm n hn => .inl (hput2.ids.tm m hm n hn), fun f hf m hm n hn => .inl (hput2.ids.stk f hf m hm n hn)⟩, hput2.tm, hput2.stk⟩
                · cases h
              · cases h
            · cases h
          · cases h
        · cases h
      · cases h
    · cases h
  · cases h

end
end Go.Proofs.Ytcfnaifggdelnaa.E
