/- What is proved here: a drawn region's free part, in the text's order: what each operation does. -/
import Derived.Test.YtcfnaifggdelnaaS22
import Derived.Orders
namespace Go.Proofs.Ytcfnaifggdelnaa.E
open Go

section
variable {C : Cfg} {w0 w w1 : World} {S0 : BSet} {U : Nat → Prop} {st st1 : St} {E E1 : Env} {ts : Array Value} {sv : List (Array Value)}

def guardSem (ops : Array Oper) (o : Oper) (st : St) : Option Bool :=
  match o.guard with
  | none => some true
  | some (j, want) => match guardOf st ops j with
    | some .und => some false
    | some (.v (.at (.b x))) => some (x == want)
    | _ => none

theorem guarded_sem {ops : Array Oper} {o : Oper} {run skip : St → Option Ans} {ans : Ans} (h : guarded ops o st run skip = some ans) :
    (guardSem ops o st = some true ∧ run st = some ans) ∨ (guardSem ops o st = some false ∧ skip (st.put o.dst .und) = some ans) := by
  unfold guarded at h
  split at h
  · rename_i hg
    exact .inl ⟨by simp [guardSem, hg], h⟩
  · rename_i j want hg
    split at h
    · rename_i hm
      exact .inr ⟨by simp [guardSem, hg, hm], h⟩
    · rename_i x hm
      have hd : ∃ t, guardDst ops j = some t ∧ st.tm[t]? = some (.v (.at (.b x))) := by
        unfold guardOf at hm
        split at hm
        · rename_i o' ho'
          split at hm
          · rename_i t ht
            exact ⟨t, by simp [guardDst, ho', ht], hm⟩
          · cases hm
        · cases hm
      obtain ⟨t, h4, h3⟩ := hd
      rw [h4] at h
      cases x <;> cases want <;> simp only [cond_true, cond_false] at h <;> rw [put_same h3] at h
      · exact .inl ⟨by simp [guardSem, hg, hm], h⟩
      · exact .inr ⟨by simp [guardSem, hg, hm], h⟩
      · exact .inr ⟨by simp [guardSem, hg, hm], h⟩
      · exact .inl ⟨by simp [guardSem, hg, hm], h⟩
    · cases h

theorem guard_wanted (hS : Sim w0 S0 U st E ts sv w) {ops : Array Oper} {o : Oper} {b : Bool} (h : guardSem ops o st = some b) : Region.wanted o (yielded ops ts) = b := by
  unfold guardSem at h
  split at h
  · rename_i hg
    cases h
    simp [Region.wanted, hg]
  · rename_i j want hg
    have hgo : ∀ {m : MV}, guardOf st ops j = some m → ∃ o' t v, ops[j]? = some o' ∧ o'.dst = some t ∧ ts[t]? = some v ∧ VM w st E m v := by
      intro m hm
      unfold guardOf at hm
      split at hm
      · rename_i o' ho'
        split at hm
        · rename_i t ht
          have hlt : t < ts.size := by rw [hS.tm.1]; exact (List.getElem?_eq_some_iff.1 hm).1
          exact ⟨o', t, ts[t], ho', ht, by simp [hlt], hS.tm.2 t m _ hm (by simp [hlt])⟩
        · cases hm
      · cases hm
    split at h
    · rename_i hm
      cases h
      obtain ⟨o', t, v, h1, h2, hv, hvm⟩ := hgo hm
      simp only [VM] at hvm
      subst hvm
      have : yielded ops ts j = none := by simp [yielded, h1, h2, hv, undef]
      simp [Region.wanted, hg, this]
    · rename_i x hm
      cases h
      obtain ⟨o', t, v, h1, h2, hv, hvm⟩ := hgo hm
      simp only [VM, VT, VA] at hvm
      subst hvm
      have hy : yielded ops ts j = some x := by simp [yielded, h1, h2, hv]
      simp [Region.wanted, hg, hy]
    · cases h

/-- What an operation does: nothing, or this. -/
abbrev Step := Option Dl

def St.step (st : St) (b : Bool) (o : Oper) : Step → St
  | some d => st.effD b o.dst d
  | none => st.put o.dst .und

/-- The free part in the text's order. -/
inductive Trace (C : Cfg) (ops : Array Oper) (b : Bool) (base : Nat) : Nat → List Step → List (Nat × Foot) → St → St → Prop
  | nil (i : Nat) (st : St) : Trace C ops b base i [] [] st st
  | run {i : Nat} {o : Oper} {d : Dl} {ss : List Step} {fs : List (Nat × Foot)} {st st' : St} (ho : ops[i]? = some o) (hg : guardSem ops o st = some true) (hd : delta C st o (base + 32 * i) = some d) (hc : d.c = true)
      (h : Trace C ops b base (i + 1) ss fs (st.effD b o.dst d) st') : Trace C ops b base i (some d :: ss) ((i, lookFoot st ops o d) :: fs) st st'
  | skip {i : Nat} {o : Oper} {ss : List Step} {fs : List (Nat × Foot)} {st st' : St} (ho : ops[i]? = some o) (hg : guardSem ops o st = some false)
      (h : Trace C ops b base (i + 1) ss fs (st.put o.dst .und) st') : Trace C ops b base i (none :: ss) ((i, skipFoot ops o) :: fs) st st'

theorem denDraw_trace {ops : Array Oper} {cl : List (List Nat)} {b : Bool} {base m0 : Nat} {k : St → Option Ans} {kl : App → St → Option Ans} {ans : Ans} : ∀ (m i : Nat) (fs : List (Nat × Foot)) (st : St), denDraw C ops cl b base m0 k kl (List.range' i m) fs st = some ans →
    (∃ ss gs st', ss.length = m ∧ Trace C ops b base i ss gs st st' ∧ apartOk cl (gs.reverse ++ fs) = true ∧ k st' = some ans) ∨
    (∃ ss gs st' o x, ss.length + 1 = m ∧ Trace C ops b base i ss gs st st' ∧ ops[i + ss.length]? = some o ∧ apLow C st' o = some (true, x) ∧ b = true ∧ lateOk ops cl m0 (i + ss.length) = true ∧ x.dst < st'.tm.length ∧
      apartOk cl ((i + ss.length, lookFoot st' ops o badDl) :: (gs.reverse ++ fs)) = true ∧ kl x (st'.put o.dst (.v (.at .bad))) = some ans)
  | 0, i, fs, st, h => by
    simp only [List.range'_zero, denDraw] at h
    split at h
    · rename_i hok
      exact .inl ⟨[], [], st, rfl, .nil i st, by simpa using hok, h⟩
    · cases h
  | m + 1, i, fs, st, h => by
    simp only [List.range'_succ, denDraw] at h
    split at h
    · cases h
    · rename_i o ho
      have h0 := guarded_sem h
      clear h
      rcases h0 with ⟨hg, h⟩ | ⟨hg, h⟩
      · split at h
        · rename_i d hd
          cases hc : d.c with
          | false => rw [hc] at h; cases h
          | true =>
            rw [hc] at h
            simp only [cond_true] at h
            rcases denDraw_trace m (i + 1) _ _ h with ⟨ss, gs, st', h1, h2, h3, h4⟩ | ⟨ss, gs, st', oA, x, h1, h2, h3, h4, h5, h6, h6b, h7, h8⟩
            · exact .inl ⟨some d :: ss, (i, lookFoot st ops o d) :: gs, st', by simp [h1], .run ho hg hd hc h2, by simpa using h3, h4⟩
            · have e : i + 1 + ss.length = i + (some d :: ss).length := by simp only [List.length_cons]; omega
              rw [e] at h3 h6 h7
              exact .inr ⟨some d :: ss, (i, lookFoot st ops o d) :: gs, st', oA, x, by simp [← h1], .run ho hg hd hc h2, h3, h4, h5, h6, h6b, by simpa using h7, h8⟩
        · split at h
          · rename_i c x hrest hap
            split at h
            · rename_i hcond
              simp only [Bool.and_eq_true, decide_eq_true_eq] at hcond
              obtain ⟨⟨⟨hb, hlo⟩, hlen⟩, hok⟩ := hcond
              cases hc : c with
              | false => rw [hc] at h; cases h
              | true =>
                rw [hc] at h hap
                simp only [cond_true] at h
                have hm : m = 0 := by simpa using hrest
                subst hm
                exact .inr ⟨[], [], st, o, x, rfl, .nil i st, ho, hap, hb, hlo, hlen, by simpa using hok, h⟩
            · cases h
          · cases h
      · rcases denDraw_trace m (i + 1) _ _ h with ⟨ss, gs, st', h1, h2, h3, h4⟩ | ⟨ss, gs, st', oA, x, h1, h2, h3, h4, h5, h6, h6b, h7, h8⟩
        · exact .inl ⟨none :: ss, (i, skipFoot ops o) :: gs, st', by simp [h1], .skip ho hg h2, by simpa using h3, h4⟩
        · have e : i + 1 + ss.length = i + ((none : Step) :: ss).length := by simp only [List.length_cons]; omega
          rw [e] at h3 h6 h7
          exact .inr ⟨none :: ss, (i, skipFoot ops o) :: gs, st', oA, x, by simp [← h1], .skip ho hg h2, h3, h4, h5, h6, h6b, by simpa using h7, h8⟩

end
end Go.Proofs.Ytcfnaifggdelnaa.E
