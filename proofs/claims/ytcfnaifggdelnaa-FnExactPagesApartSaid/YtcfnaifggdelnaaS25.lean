/- What is proved here: one more operation of a drawn region; states that answer alike stand for the same world. -/
import Derived.Test.YtcfnaifggdelnaaS24
namespace Go.Proofs.Ytcfnaifggdelnaa.E
open Go

section
variable {st st' : St} {b : Bool} {o : Oper}

theorem foldX_none {ops : Array Oper} {X : Nat → Bool} {κ : Key} : ∀ (ss : List Step) (i : Nat) (st : St),
    (∀ (k : Nat) (s : Step) (o : Oper), ss[k]? = some s → ops[i + k]? = some o → X (i + k) = true → ¬ wr o s κ) → (foldX ops b X i ss st).get κ = st.get κ
  | [], _, _, _ => rfl
  | s :: ss, i, st, hw => by
    have h0 : (one ops b X i s st).get κ = st.get κ := by
      unfold one
      split
      · rename_i hX
        split
        · rename_i o ho
          exact step_other (hw 0 s o rfl ho hX)
        · rfl
      · rfl
    exact (foldX_none ss (i + 1) _ (fun k s' o' hk ho hX => hw (k + 1) s' o' (by simpa using hk) (by rw [← ho]; congr 1; omega) (by
      have e : i + (k + 1) = i + 1 + k := by omega
      rw [e]; exact hX))).trans h0

theorem foldX_wr {ops : Array Oper} {X : Nat → Bool} {j : Nat} {s : Step} (hX : X j = true) (ho : ops[j]? = some o) {κ : Key} (hκ : wr o s κ) : ∀ (ss : List Step) (i : Nat) (st : St), i ≤ j → ss[j - i]? = some s →
    (∀ (k : Nat) (s' : Step) (o' : Oper), ss[k]? = some s' → ops[i + k]? = some o' → j < i + k → X (i + k) = true → ¬ wr o' s' κ) → (foldX ops b X i ss st).get κ = (st.step b o s).get κ
  | [], i, st, _, h, _ => by simp at h
  | s' :: ss, i, st, hij, h, hw => by
    have later : ∀ (k : Nat) (s2 : Step) (o2 : Oper), ss[k]? = some s2 → ops[i + 1 + k]? = some o2 → j < i + 1 + k → X (i + 1 + k) = true → ¬ wr o2 s2 κ := by
      intro k s2 o2 hk ho2 hlt hX2
      have e : i + (k + 1) = i + 1 + k := by omega
      exact hw (k + 1) s2 o2 (by simpa using hk) (by rw [e]; exact ho2) (by omega) (by rw [e]; exact hX2)
    by_cases he : i = j
    · subst he
      simp only [Nat.sub_self, List.getElem?_cons_zero, Option.some.injEq] at h
      subst h
      have h1 := foldX_none (b := b) (ops := ops) (X := X) (κ := κ) ss (i + 1) (one ops b X i s' st) (fun k s2 o2 hk ho2 hX2 => later k s2 o2 hk ho2 (by omega) hX2)
      have h2 : one ops b X i s' st = st.step b o s' := by simp only [one, hX, ho, if_true]
      rw [h2] at h1
      show (foldX ops b X (i + 1) ss (one ops b X i s' st)).get κ = _
      rw [h2]
      exact h1
    · have e : j - i = (j - (i + 1)) + 1 := by omega
      rw [e, List.getElem?_cons_succ] at h
      have h1 := foldX_wr hX ho hκ ss (i + 1) (one ops b X i s' st) (by omega) h later
      exact h1.trans (step_same hκ one_len)

/-- **One more operation**: laid in its place in the text's order, or laid last: all answers are the same, if none that comes later in the text writes what it writes. -/
theorem foldX_upd {ops : Array Oper} {X Y : Nat → Bool} {a j : Nat} {s : Step} (hY : ∀ i, Y i = (X i || i == a + j)) (ho : ops[a + j]? = some o) {ss : List Step} {st : St} (hs : ss[j]? = some s)
    (hw : ∀ (k : Nat) (s' : Step) (o' : Oper), ss[k]? = some s' → ops[a + k]? = some o' → j < k → X (a + k) = true → ∀ κ, wr o s κ → ¬ wr o' s' κ) (κ : Key) :
    (foldX ops b Y a ss st).get κ = ((foldX ops b X a ss st).step b o s).get κ := by
  by_cases hκ : wr o s κ
  · rw [foldX_wr (X := Y) (j := a + j) (s := s) (by rw [hY]; simp) ho hκ ss a st (Nat.le_add_right _ _) (by rw [Nat.add_sub_cancel_left]; exact hs) (fun k s' o' hk ho' hlt hYk => by
      refine hw k s' o' hk ho' (by omega) ?_ κ hκ
      rw [hY] at hYk
      have : (a + k == a + j) = false := by simp; omega
      rw [this, Bool.or_false] at hYk
      exact hYk)]
    exact step_same hκ (foldX_len ss a st).symm
  · rw [step_other hκ]
    refine foldX_agree ss a st st rfl rfl (fun k s' o' hk ho' hne => ?_)
    have : k = j := by
      rw [hY] at hne
      by_cases hkj : k = j
      · exact hkj
      · have : (a + k == a + j) = false := by simp [hkj]
        simp [this] at hne
    subst this
    rw [ho] at ho'
    cases ho'
    rw [hs] at hk
    cases hk
    exact hκ

end

section
variable {C : Cfg} {w0 w w1 : World} {S0 : BSet} {U : Nat → Prop} {st st' : St} {E E1 : Env} {ts : Array Value} {sv : List (Array Value)}

theorem get_tm {t : Nat} (h : st'.get (.tm t) = st.get (.tm t)) : st'.tm[t]? = st.tm[t]? := by
  simp only [St.get] at h
  cases h1 : st'.tm[t]? <;> cases h2 : st.tm[t]? <;> rw [h1, h2] at h <;> simp at h
  · rw [h]

theorem get_ro {n : Nat} (h : st'.get (.ro n) = st.get (.ro n)) : aget st'.ro n = aget st.ro n := by
  simp only [St.get] at h
  cases h1 : aget st'.ro n <;> cases h2 : aget st.ro n <;> rw [h1, h2] at h <;> simp at h
  · rw [h]

theorem get_lo {n : Nat} (h : st'.get (.lo n) = st.get (.lo n)) : aget st'.lo n = aget st.lo n := by
  simp only [St.get] at h
  cases h1 : aget st'.lo n <;> cases h2 : aget st.lo n <;> rw [h1, h2] at h <;> simp at h
  · rw [h]

/-- Fewer slices may be looked at; all else answers alike. -/
theorem Sim.fewer (hS : Sim w0 S0 U st E ts sv w) (htm : ∀ t : Nat, st'.tm[t]? = st.tm[t]?) (hlo : ∀ n, aget st'.lo n = aget st.lo n) (hstk : st'.stk = st.stk)
    (hro : ∀ n R, st'.root n = some R → st.root n = some R) (hin : ∀ n R, aget st'.ro n = some R → ∃ R', aget st.ro n = some R') (hep : ∀ n R e, aget st'.ro n = some R → R.ep = some e → e ≤ st'.ep) : Sim w0 S0 U st' E ts sv w := by
  have hM := hS.mem
  have T : Trans st E w st' E w (fun _ => True) := ⟨fun r _ R1 h => ⟨R1, hro r R1 h, rfl, fun _ _ h => h⟩, fun l _ cs h => ⟨⟨cs, by rw [← hlo]; exact h⟩, rfl⟩, rfl⟩
  have hlist : st'.tm = st.tm := List.ext_getElem? htm
  refine ⟨⟨hM.os, hM.tape, hM.output, hM.size, hM.keep, fun r R h => hM.rep r R (hro r R h), fun r R h => hM.rlt r R (hro r R h), fun r R h => hM.mine r R (hro r R h),
    fun r R r' R' h1 h2 h3 => hM.apart r R r' R' (hro r R h1) h2 (hro r' R' h3), fun l cs hl => ?_, fun l l' cs cs' h1 h2 => hM.linj l l' cs cs' (by rw [← hlo]; exact h1) (by rw [← hlo]; exact h2),
    fun l cs r R h1 h2 => hM.lro l cs r R (by rw [← hlo]; exact h1) (hro r R h2), hep, hM.κ⟩, ⟨fun n R hn => ?_, fun n cs hn => hS.ids.lo n cs (by rw [← hlo]; exact hn), fun m hm => hS.ids.tm m (by rw [← hlist]; exact hm), fun f hf => hS.ids.stk f (by rw [← hstk]; exact hf)⟩, ?_, ?_⟩
  · obtain ⟨h1, vals, e, h2, h3, h4⟩ := hM.loc l cs (by rw [← hlo]; exact hl)
    exact ⟨h1, vals, e, h2, h3, fun j c u hc hu => ⟨(h4 j c u hc hu).1, VA.tr T (fun _ _ => trivial) (h4 j c u hc hu).2⟩⟩
  · obtain ⟨R', hR'⟩ := hin n R hn
    exact hS.ids.ro n R' hR'
  · rw [hlist]
    exact Slots.tr T (fun _ _ _ _ => trivial) hS.tm
  · rw [hstk]
    exact Stack.tr T (fun _ _ _ _ _ _ => trivial) hS.stk

/-- States that answer alike. -/
theorem Sim.same (hS : Sim w0 S0 U st E ts sv w) (hg : ∀ κ, st'.get κ = st.get κ) (hstk : st'.stk = st.stk) (hep : st'.ep = st.ep) : Sim w0 S0 U st' E ts sv w := by
  have hr : ∀ n, aget st'.ro n = aget st.ro n := fun n => get_ro (hg (.ro n))
  refine hS.fewer (fun t => get_tm (hg (.tm t))) (fun n => get_lo (hg (.lo n))) hstk (fun n R h => ?_) (fun n R h => ⟨R, by rw [← hr]; exact h⟩) (fun n R e h he => by rw [hep]; exact hS.mem.epo n R e (by rw [← hr]; exact h) he)
  simpa only [St.root, hr, hep] using h

end
end Go.Proofs.Ytcfnaifggdelnaa.E
