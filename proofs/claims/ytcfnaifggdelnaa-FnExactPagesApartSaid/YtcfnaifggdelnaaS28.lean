/- What is proved here: one operation of the free part, after any others that were ready. -/
import Derived.Test.YtcfnaifggdelnaaS27
namespace Go.Proofs.Ytcfnaifggdelnaa.E
open Go

section
variable {C : Cfg} {w0 w w1 : World} {S0 : BSet} {U : Nat → Prop} {st st1 : St} {E E1 : Env} {ts : Array Value} {sv : List (Array Value)}
variable {ops : Array Oper} {b : Bool} {base : Nat} {cl : List (List Nat)} {ss : List Step} {st0 : St}

theorem deadR_live {R R' : Root} (h : deadR b R = R') (he : R'.ep = none) : R = R' := by
  unfold deadR at h
  split at h
  · subst h
    cases he
  · exact h

theorem mem_deadR {l : List (Nat × Root)} {n : Nat} {R : Root} (h : aget (l.map (fun (x : Nat × Root) => (x.1, deadR b x.2))) n = some R) : ∃ R0, aget l n = some R0 ∧ deadR b R0 = R := by
  induction l with
  | nil => cases h
  | cons a l ih =>
    obtain ⟨k, v⟩ := a
    simp only [List.map_cons, aget] at h ⊢
    split at h
    · cases h
      rename_i hk
      rw [if_pos hk]
      exact ⟨v, rfl, rfl⟩
    · rename_i hk
      rw [if_neg hk]
      exact ih h

theorem none_deadR {l : List (Nat × Root)} {n : Nat} (h : aget (l.map (fun (x : Nat × Root) => (x.1, deadR b x.2))) n = none) : aget l n = none := by
  induction l with
  | nil => rfl
  | cons a l ih =>
    obtain ⟨k, v⟩ := a
    simp only [List.map_cons, aget] at h ⊢
    split at h
    · cases h
    · rename_i hk
      rw [if_neg hk]
      exact ih h

/-- What the operation does, and what of it is kept for the others. -/
theorem apply_effD {o : Oper} {d : Dl} (hb : b = false → d.bump = false) (hd : b = true → Dead st ∧ 0 < st.ep) (hS : Sim w0 S0 U (st.apply o.dst d) E ts sv w) : Sim w0 S0 U (st.effD b o.dst d) E ts sv w := by
  have h1 : ∀ t : Nat, (st.effD b o.dst d).tm[t]? = (st.apply o.dst d).tm[t]? := fun t => by
    unfold St.effD St.apply
    cases o.dst <;> rfl
  have h2 : (st.effD b o.dst d).lo = (st.apply o.dst d).lo := by
    unfold St.effD St.apply
    cases o.dst <;> rfl
  have h3 : (st.effD b o.dst d).stk = (st.apply o.dst d).stk := by
    unfold St.effD St.apply
    cases o.dst <;> rfl
  have h4 : (st.effD b o.dst d).ro = d.ro.map (fun (x : Nat × Root) => (x.1, deadR b x.2)) ++ st.ro := by
    unfold St.effD
    cases o.dst <;> rfl
  have h5 : (st.apply o.dst d).ro = d.ro ++ st.ro := by
    unfold St.apply
    cases o.dst <;> rfl
  have h6 : (st.effD b o.dst d).ep = st.ep := by
    unfold St.effD
    cases o.dst <;> rfl
  have h7 : (st.apply o.dst d).ep = if d.bump then st.ep + 1 else st.ep := by
    unfold St.apply
    cases o.dst <;> rfl
  cases b with
  | false =>
    have hf : d.bump = false := hb rfl
    have hmap : d.ro.map (fun (x : Nat × Root) => (x.1, deadR false x.2)) = d.ro := by
      have : (fun (x : Nat × Root) => (x.1, deadR false x.2)) = id := by
        funext x
        rfl
      rw [this, List.map_id]
    have hro : (st.effD false o.dst d).ro = (st.apply o.dst d).ro := by rw [h4, h5, hmap]
    have hep : (st.effD false o.dst d).ep = (st.apply o.dst d).ep := by rw [h6, h7, hf]; rfl
    exact hS.fewer h1 (fun n => by rw [h2]) h3 (fun n R h => by simpa only [St.root, hro, hep] using h) (fun n R h => ⟨R, by rw [← hro]; exact h⟩) (fun n R e h he => by rw [hep]; exact hS.mem.epo n R e (by rw [← hro]; exact h) he)
  | true =>
    obtain ⟨hdd, h0⟩ := hd rfl
    have look : ∀ n R, aget (st.effD true o.dst d).ro n = some R → ∃ R0, aget (st.apply o.dst d).ro n = some R0 ∧ (deadR true R0 = R ∨ (R0 = R ∧ aget st.ro n = some R)) := by
      intro n R h
      rw [h4, aget_append] at h
      rw [h5, aget_append]
      split at h
      · rename_i x hx
        cases h
        obtain ⟨R0, g1, g2⟩ := mem_deadR hx
        exact ⟨R0, by rw [g1], .inl g2⟩
      · rename_i hx
        rw [none_deadR hx]
        exact ⟨R, h, .inr ⟨rfl, h⟩⟩
    have dead0 : ∀ R0 : Root, (deadR true R0).ep = none ∨ (deadR true R0).ep = some 0 := by
      intro R0
      cases hh : R0.ep with
      | none => left; simp [deadR, hh]
      | some e => right; simp [deadR, hh]
    have live : ∀ n R, (st.effD true o.dst d).root n = some R → R.ep = none ∧ aget (st.effD true o.dst d).ro n = some R := by
      intro n R h
      obtain ⟨h8, h9⟩ := root_aget h
      refine ⟨?_, h8⟩
      rcases h9 with h9 | h9
      · exact h9
      · exfalso
        rw [h6] at h9
        obtain ⟨R0, _, g2⟩ := look n R h8
        rcases g2 with g2 | ⟨_, g2⟩
        · have := dead0 R0
          rw [g2, h9] at this
          rcases this with h | h
          · cases h
          · simp only [Option.some.injEq] at h
            omega
        · have := hdd n R _ g2 h9
          omega
    refine hS.fewer h1 (fun n => by rw [h2]) h3 (fun n R h => ?_) (fun n R h => ?_) (fun n R e h he => ?_)
    · obtain ⟨g1, g2⟩ := live n R h
      obtain ⟨R0, g3, g4⟩ := look n R g2
      have e : R0 = R := by
        rcases g4 with g4 | ⟨g4, _⟩
        · exact deadR_live g4 g1
        · exact g4
      subst e
      unfold St.root
      rw [g3]
      simp only [g1]
    · obtain ⟨R0, g3, _⟩ := look n R h
      exact ⟨R0, g3⟩
    · rw [h6]
      obtain ⟨R0, _, g2⟩ := look n R h
      rcases g2 with g2 | ⟨_, g2⟩
      · have := dead0 R0
        rw [g2, he] at this
        rcases this with h | h
        · cases h
        · simp only [Option.some.injEq] at h
          omega
      · have := hdd n R e g2 he
        omega

/-- The numbers in use. -/
def UX (U : Nat → Prop) (base a T : Nat) (X : Nat → Bool) (n : Nat) : Prop := U n ∨ ∃ i, a ≤ i ∧ i < T ∧ X i = true ∧ Mine (base + 32 * i) n

theorem Sim.uses {U' : Nat → Prop} (h : Sim w0 S0 U st E ts sv w) (hU : ∀ n, U n → U' n) : Sim w0 S0 U' st E ts sv w :=
  ⟨h.mem, ⟨fun n R hn => hU n (h.ids.ro n R hn), fun n cs hn => ⟨hU n (h.ids.lo n cs hn).1, fun a ha m hm => hU m ((h.ids.lo n cs hn).2 a ha m hm)⟩, fun m hm n hn => hU n (h.ids.tm m hm n hn), fun f hf m hm n hn => hU n (h.ids.stk f hf m hm n hn)⟩, h.tm, h.stk⟩

theorem free_step (hC : CfgOk C) (hH : CtrOk C) {a T : Nat} (hT : a + ss.length = T) (F : Free C ops cl b base a ss st0) {X Y : Nat → Bool} (hX : ClosedX cl X) {i : Nat} (hia : a ≤ i) (hi : i < T) (hXi : X i = false) (hr : ∀ j ∈ cl.getD i [], X j = true)
    (hb : b = false → ∀ k, a ≤ k → k < T → mayBump ops k = false) (hd : b = true → Dead st0 ∧ 0 < st0.ep) (hM : ∀ k, a ≤ k → k < T → ∀ n, Mine (base + 32 * k) n → ¬ U n) (hY : ∀ k, Y k = (X k || k == i))
    (hS : Sim w0 S0 (UX U base a T X) (foldX ops b X a ss st0) E ts sv w) {Q : Exit → Act → World → Prop} {K : Act → World → Prop}
    (hK : ∀ (E' : Env) (ts' : Array Value) (w' : World), Sim w0 S0 (UX U base a T Y) (foldX ops b Y a ss st0) E' ts' sv w' → K { tmps := ts', defers := [] } w') :
    wpOp C.P ops Q i K { tmps := ts, defers := [] } w := by
  obtain ⟨j, rfl⟩ : ∃ j, i = a + j := ⟨i - a, by omega⟩
  obtain ⟨s, hs⟩ : ∃ s, ss[j]? = some s := ⟨_, List.getElem?_eq_getElem (by omega)⟩
  obtain ⟨o, ho, hdo⟩ := free_does F hX hs hXi hr
  have hsub : ∀ n, UX U base a T X n → UX U base a T Y n := by
    rintro n (h | ⟨k, h0, h1, h2, h3⟩)
    · exact .inl h
    · exact .inr ⟨k, h0, h1, by rw [hY, h2]; rfl, h3⟩
  have fin : ∀ {E' : Env} {ts' : Array Value} {w' : World}, Sim w0 S0 (UX U base a T Y) ((foldX ops b X a ss st0).step b o s) E' ts' sv w' → K { tmps := ts', defers := [] } w' := by
    intro E' ts' w' h
    refine hK E' ts' w' (h.same (fun κ => free_upd F hX hs ho hXi hY κ) ?_ ?_)
    · rw [foldX_stk, step_stk, foldX_stk]
    · rw [foldX_ep, step_ep, foldX_ep]
  unfold wpOp
  simp only [ho]
  cases s with
  | none =>
    rw [if_neg (by simp [guard_wanted hS hdo])]
    have h2 := hS.putV (dst := o.dst) (m := .und) (v := undef) rfl (fun n hn => by simp [MV.ids, mvAts] at hn)
    rw [act_put]
    exact fin (h2.uses hsub)
  | some d =>
    obtain ⟨h1, h2, h3⟩ := hdo
    rw [if_pos (guard_wanted hS h1)]
    refine .inl (delta_sound hC hH hS (id := base + 32 * (a + j)) ?_ h2 h3 _ _ (fun E' v w' hS' => ?_))
    · rintro n hn (h | ⟨k, _, g1, g2, g3⟩)
      · exact hM (a + j) hia hi n hn h
      · refine mine_ne (i := k) (j := a + j) (fun e => ?_) g3 hn
        rw [e, hXi] at g2
        cases g2
    · rw [act_put]
      refine fin ((apply_effD (fun hb' => delta_bump ho h2 (hb hb' (a + j) hia hi)) (fun hb' => ?_) hS').uses ?_)
      · subst hb'
        exact ⟨foldX_dead ss a st0 (hd rfl).1 (hd rfl).2, by rw [foldX_ep]; exact (hd rfl).2⟩
      · rintro n (h | h)
        · exact hsub n h
        · exact .inr ⟨a + j, hia, hi, by rw [hY]; simp, h⟩

end
end Go.Proofs.Ytcfnaifggdelnaa.E
