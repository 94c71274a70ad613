/- What is proved here: what the evaluator says of an operation holds of the model's run of it: a store into a slice. -/
import Derived.Test.YtcfnaifggdelnaaS12
namespace Go.Proofs.Ytcfnaifggdelnaa.E
open Go

section
variable {C : Cfg} {w0 w w1 : World} {S0 : BSet} {U : Nat → Prop} {st st1 : St} {E E1 : Env} {ts : Array Value} {sv : List (Array Value)}

/-- The cell is among those that are replaced. -/
def Hit (i j0 n i' j : Nat) : Prop := i' = i ∧ j0 ≤ j ∧ j < j0 + n

theorem setRow_some {t : Ty} {l l' : List t.den} {i : Int} {j0 : Nat} {cvs : List CV} (h : setRow t l i j0 cvs = some l') :
    ∃ d, t.cells d = splice (t.cells (ix l i t.dflt)) j0 cvs ∧ l' = up l i d := by
  unfold setRow at h
  split at h
  · rename_i d hd
    cases h
    exact ⟨d, ofCells_cells hd, rfl⟩
  · cases h

/-- **Some cells of one row are replaced.** -/
theorem Rep.setCells {t : Ty} {l l' : List t.den} {b off cap : Nat} {arr : Array Value} {e' : TypeId} {V : Nat → Nat → Value} {K : Nat → Nat → BSet} {S : BSet} {i : Int} {j0 : Nat} {cvs : List CV} {us : List Value} {Kn : Nat → BSet}
    (hlen : l.length ≤ big) (hcap : l.length ≤ cap) (hsz : off + cap * t.width ≤ arr.size) (hR : Rows true w t l arr off b V K S)
    (hi : i.toNat < l.length) (hl : us.length = cvs.length) (hfit : j0 + us.length ≤ t.width) (hset : setRow t l i j0 cvs = some l')
    (hb1 : w1.heap[b]? = some (.cells (splice arr.toList (off + i.toNat * t.width + j0) us).toArray e' (0, 0)))
    (hus : ∀ (k : Nat) (c : CV) (u : Value), cvs[k]? = some c → us[k]? = some u → Rep true w1 u c (Kn k))
    (hold : ∀ i' j, i' < l.length → j < t.width → ¬ Hit i.toNat j0 us.length i' j → ∀ x, K i' j x → w1.heap[x]? = w.heap[x]?)
    (hKb : ∀ k x, k < us.length → Kn k x → x ≠ b) (hKd : ∀ k k' x, k < us.length → k' < us.length → Kn k x → Kn k' x → k = k')
    (hKo : ∀ k x i' j, k < us.length → Kn k x → i' < l.length → j < t.width → ¬ Hit i.toNat j0 us.length i' j → ¬ K i' j x) :
    Rep true w1 (.slice (some ⟨b, off, none⟩) l.length cap) (.s t l') (fun x => x = b ∨ (∃ i' j, i' < l.length ∧ j < t.width ∧ ¬ Hit i.toNat j0 us.length i' j ∧ K i' j x) ∨ ∃ k, k < us.length ∧ Kn k x) := by
  obtain ⟨d, hd, rfl⟩ := setRow_some hset
  have hrow : (i.toNat + 1) * t.width ≤ cap * t.width := Nat.mul_le_mul_right _ (by omega)
  rw [Nat.succ_mul] at hrow
  have hbs : off + i.toNat * t.width + j0 + us.length ≤ arr.toList.length := by simp; omega
  have hcb : j0 + cvs.length ≤ (t.cells (ix l i t.dflt)).length := by rw [cells_len, ← hl]; exact hfit
  have hlu : (up l i d).length = l.length := up_len l i d
  have hHit : ∀ i' j, Decidable (Hit i.toNat j0 us.length i' j) := fun i' j => by unfold Hit; exact inferInstance
  have key := Rep.sl (o := true) (w := w1) t (up l i d) b off cap (splice arr.toList (off + i.toNat * t.width + j0) us).toArray e' (0, 0)
    (fun i' j => if Hit i.toNat j0 us.length i' j then (us[j - j0]?).getD undef else V i' j) (fun i' j => if Hit i.toNat j0 us.length i' j then Kn (j - j0) else K i' j)
    (fun x => x = b ∨ (∃ i' j, i' < l.length ∧ j < t.width ∧ ¬ Hit i.toNat j0 us.length i' j ∧ K i' j x) ∨ ∃ k, k < us.length ∧ Kn k x)
    hb1 (fun _ => rfl) (by omega) (by omega) (by rw [List.size_toArray, splice_len _ _ _ hbs]; simpa using hsz) (.inl rfl)
    (fun i' j x hi' hj hx => by
      rw [hlu] at hi'
      by_cases hh : Hit i.toNat j0 us.length i' j
      · simp only [if_pos hh] at hx
        obtain ⟨_, h2, h3⟩ := hh
        exact ⟨.inr (.inr ⟨j - j0, by omega, hx⟩), fun _ => hKb _ x (by omega) hx⟩
      · simp only [if_neg hh] at hx
        exact ⟨.inr (.inl ⟨i', j, hi', hj, hh, hx⟩), (hR.sub i' j x hi' hj hx).2⟩)
    (fun _ i1 j1 i2 j2 x h1 hj1 h2 hj2 hx1 hx2 => by
      rw [hlu] at h1 h2
      by_cases hh1 : Hit i.toNat j0 us.length i1 j1 <;> by_cases hh2 : Hit i.toNat j0 us.length i2 j2
      · simp only [if_pos hh1] at hx1
        simp only [if_pos hh2] at hx2
        obtain ⟨a1, b1, c1⟩ := hh1
        obtain ⟨a2, b2, c2⟩ := hh2
        have := hKd _ _ x (by omega) (by omega) hx1 hx2
        exact ⟨a1.trans a2.symm, by omega⟩
      · simp only [if_pos hh1] at hx1
        simp only [if_neg hh2] at hx2
        exact absurd hx2 (hKo _ x i2 j2 (by have := hh1.2; omega) hx1 h2 hj2 hh2)
      · simp only [if_neg hh1] at hx1
        simp only [if_pos hh2] at hx2
        exact absurd hx1 (hKo _ x i1 j1 (by have := hh2.2; omega) hx2 h1 hj1 hh1)
      · simp only [if_neg hh1] at hx1
        simp only [if_neg hh2] at hx2
        exact hR.dis rfl i1 j1 i2 j2 x h1 hj1 h2 hj2 hx1 hx2)
    (fun i' j hi' hj => by
      rw [hlu] at hi'
      rw [List.getElem?_toArray]
      by_cases hh : Hit i.toNat j0 us.length i' j
      · simp only [if_pos hh]
        obtain ⟨rfl, h2, h3⟩ := hh
        rw [splice_in _ _ _ hbs _ (by omega) (by omega)]
        have e : off + i.toNat * t.width + j - (off + i.toNat * t.width + j0) = j - j0 := by omega
        rw [e, List.getElem?_eq_getElem (by omega)]
        rfl
      · simp only [if_neg hh]
        rw [splice_out _ _ _ hbs _ (by
          rcases Nat.lt_trichotomy i' i.toNat with h | h | h
          · have : (i' + 1) * t.width ≤ i.toNat * t.width := Nat.mul_le_mul_right _ h
            rw [Nat.succ_mul] at this
            omega
          · subst h
            by_cases hj0 : j < j0
            · omega
            · have : ¬ j < j0 + us.length := fun hh' => hh ⟨rfl, by omega, hh'⟩
              omega
          · have : (i.toNat + 1) * t.width ≤ i' * t.width := Nat.mul_le_mul_right _ h
            rw [Nat.succ_mul] at this
            omega)]
        simpa using hR.val i' j hi' hj)
    (fun i' x hx j c hcj => by
      have hi' : i' < l.length := by have := (List.getElem?_eq_some_iff.1 hx).1; rw [hlu] at this; exact this
      have hj : j < t.width := by have := (List.getElem?_eq_some_iff.1 hcj).1; rw [cells_len] at this; exact this
      rw [up_at hi'] at hx
      by_cases hh : Hit i.toNat j0 us.length i' j
      · simp only [if_pos hh]
        obtain ⟨h1, h2, h3⟩ := hh
        rw [if_pos h1.symm] at hx
        cases hx
        rw [hd, splice_in _ _ _ hcb j h2 (by omega)] at hcj
        have hk : j - j0 < us.length := by omega
        rw [List.getElem?_eq_getElem hk]
        exact hus _ c _ hcj (List.getElem?_eq_getElem hk)
      · simp only [if_neg hh]
        split at hx
        · rename_i h1
          cases hx
          rw [hd, splice_out _ _ _ hcb j (by
            by_cases hj0 : j < j0
            · exact .inl hj0
            · have : ¬ j < j0 + us.length := fun hh' => hh ⟨h1.symm, by omega, hh'⟩
              right; omega)] at hcj
          rw [← h1] at hi' hh ⊢
          exact (hR.con i.toNat _ (ix_some hi) j c hcj).frame (hold i.toNat j hi hj hh)
        · exact (hR.con i' x hx j c hcj).frame (hold i' j hi' hj hh))
  rw [hlu] at key
  exact key

/-- A path that leads through no slice that was replaced leads where it led. -/
theorem hdr_setCells {t : Ty} {l l' : List t.den} {b off cap : Nat} {arr : Array Value} {e e' : TypeId} {V : Nat → Nat → Value} {K : Nat → Nat → BSet} {S : BSet} {i : Int} {j0 : Nat} {cvs : List CV} {us : List Value}
    (hcap : l.length ≤ cap) (hsz : off + cap * t.width ≤ arr.size) (hR : Rows true w t l arr off b V K S) (hb : w.heap[b]? = some (.cells arr e (0, 0)))
    (hi : i.toNat < l.length) (hl : us.length = cvs.length) (hfit : j0 + us.length ≤ t.width) (hset : setRow t l i j0 cvs = some l')
    (hb1 : w1.heap[b]? = some (.cells (splice arr.toList (off + i.toNat * t.width + j0) us).toArray e' (0, 0)))
    (hold : ∀ i' j, i' < l.length → j < t.width → ¬ Hit i.toNat j0 us.length i' j → ∀ x, K i' j x → w1.heap[x]? = w.heap[x]?)
    (q : List (Int × Nat)) (hq : ∀ i' j q', q = (i', j) :: q' → ∀ (k : Nat) (c : CV), j = j0 + k → cvs[k]? = some c → c.flat = true ∨ (i'.toNat = i.toNat → us[k]? = some (V i.toNat j))) (hoth : ∀ x, x ≠ b → w1.heap[x]? = w.heap[x]?) {u : Value}
    (h : hdrAt w t (.slice (some ⟨b, off, none⟩) l.length cap) q = some u) : hdrAt w1 t (.slice (some ⟨b, off, none⟩) l.length cap) q = some u := by
  obtain ⟨d, hd, rfl⟩ := setRow_some hset
  have hrow : (i.toNat + 1) * t.width ≤ cap * t.width := Nat.mul_le_mul_right _ (by omega)
  rw [Nat.succ_mul] at hrow
  have hbs : off + i.toNat * t.width + j0 + us.length ≤ arr.toList.length := by simp; omega
  have hcb : j0 + cvs.length ≤ (t.cells (ix l i t.dflt)).length := by rw [cells_len, ← hl]; exact hfit
  cases q with
  | nil => exact h
  | cons ij q =>
    obtain ⟨i', j⟩ := ij
    simp only [hdrAt] at h ⊢
    split at h
    · rename_i hi'
      rw [if_pos hi']
      split at h
      · rename_i t' ht'
        have hj : j < t.width := by rw [← shape_len]; exact (List.getElem?_eq_some_iff.1 ht').1
        have hcell : w1.cell? ⟨b, off + i'.toNat * t.width + j, none⟩ = w.cell? ⟨b, off + i'.toNat * t.width + j, none⟩ := by
          rw [cell_of_block hb, cell_of_block hb1, List.getElem?_toArray]
          by_cases hhit : Hit i.toNat j0 us.length i'.toNat j
          · obtain ⟨h1, h2, h3⟩ := hhit
            have hk : j - j0 < cvs.length := by omega
            have hck := List.getElem?_eq_getElem hk
            rcases hq i' j q rfl (j - j0) _ (by omega) hck with hf | hv
            · exfalso
              have hcj : (t.cells d)[j]? = some cvs[j - j0] := by rw [hd, splice_in _ _ _ hcb j h2 (by omega)]; exact hck
              have := shape_at hcj
              rw [ht'] at this
              have hs := (Option.some.inj this).symm
              obtain ⟨l3, h3⟩ := cv_ty_s hs
              rw [h3] at hf
              cases hf
            · have hv := hv h1
              rw [h1, splice_in _ _ _ hbs _ (by omega) (by omega), hR.val _ _ (by rw [← h1]; exact hi'.2) hj]
              have e : off + i.toNat * t.width + j - (off + i.toNat * t.width + j0) = j - j0 := by omega
              rw [e, hv]
          · rw [splice_out _ _ _ hbs _ (by
              rcases Nat.lt_trichotomy i'.toNat i.toNat with h | h | h
              · have : (i'.toNat + 1) * t.width ≤ i.toNat * t.width := Nat.mul_le_mul_right _ h
                rw [Nat.succ_mul] at this
                omega
              · rw [h]
                by_cases hj0 : j < j0
                · omega
                · have : ¬ j < j0 + us.length := fun hh' => hhit ⟨h, by omega, hh'⟩
                  omega
              · have : (i.toNat + 1) * t.width ≤ i'.toNat * t.width := Nat.mul_le_mul_right _ h
                rw [Nat.succ_mul] at this
                omega)]
            simp
        rw [hcell]
        rw [cell_of_block hb, hR.val _ _ hi'.2 hj] at h ⊢
        simp only at h ⊢
        have hx : l[i'.toNat]? = some (l[i'.toNat]'hi'.2) := List.getElem?_eq_getElem hi'.2
        obtain ⟨c, hc, hct⟩ := ty_at (x := l[i'.toNat]'hi'.2) ht'
        obtain ⟨l3, rfl⟩ := cv_ty_s hct
        rw [hdrAt_frame q (hR.con _ _ hx j _ hc) (fun x hx => hoth x ((hR.sub _ j x hi'.2 hj hx).2 rfl))]
        exact h
      · cases h
    · cases h

theorem run_store_at {P : Program} {T : TypeId} {agg : Bool} {tys : List CTy} {b off : Nat} {arr : Array Value} {e : TypeId} {v : Value} (hT : TypeOk P T agg tys) (hb : w.heap[b]? = some (.cells arr e (0, 0))) (hv : v.cells.size = tys.length)
    (h : off + tys.length ≤ arr.size) (h1 : ∀ u ∈ v.cells.toList, u.oneCell' = true) :
    (storeVar T ⟨b, off, none⟩ v).run P w = .ok () (w.setRow b (splice arr.toList off v.cells.toList).toArray) := by
  have hst := run_storeCells_at (P := P) b off e v.cells.toList 0 arr w hb (by simp [hv]; omega) h1
  have hsp : (arr.toList.take (off + 0) ++ v.cells.toList ++ arr.toList.drop (off + 0 + v.cells.toList.length)) = splice arr.toList off v.cells.toList := by simp [splice]
  rw [hsp] at hst
  simp [storeVar, run_size hT, hv, hst]

theorem given_flat {xs : List At} {cs : List CV} (hG : Given st xs cs []) {k : Nat} {c : CV} (h : cs[k]? = some c) : c.flat = true := by
  have hk : k < xs.length := by rw [← hG.len]; exact (List.getElem?_eq_some_iff.1 h).1
  rcases hG.get k _ (List.getElem?_eq_getElem hk) with ⟨_, _, _, h2⟩ | ⟨_, _, h2⟩ | ⟨_, _, _, _, h2, _⟩
  · rw [h] at h2; cases h2; rfl
  · rw [h] at h2; cases h2; rfl
  · cases h2

theorem prefix_dec (p q : List (Int × Nat)) : (∃ q', q = p ++ q') ∨ ¬ ∃ q', q = p ++ q' := Classical.em _

theorem s_store_ep (hC : CfgOk C) (hS : Sim w0 S0 U st E ts sv w) {o : Oper} {id : Nat} {T : TypeId} {a x : Operand} {agg : Bool} {tys : List CTy} {y : TV} {r : Nat} {p : List (Int × Nat)} {i : Int} {off : Nat} (ho : o.op = .store T a x)
    (hT : C.cty T = some (agg, tys)) (hx : st.opnd x = some (.v y)) (ha : st.at a = some (.ep r p i off)) {R : Root} (hRr : st.root r = some R) {t : Ty} {l l' : List t.den} (hn : st.node r p = some (.s t l)) {c : Bool} {cvs : List CV}
    (hg : st.give none (tvAts y) 0 = some (c, cvs, [])) (hown : R.own = true) (hlen : (tvAts y).length = tys.length) (hfit : off + tys.length ≤ t.width) (hset : setRow t l i off cvs = some l') {m : List R.t.den} (hput : putP R.t R.l p (.s t l') = some m) {c' : Bool} :
    Goes C w0 S0 U st ts sv w o id (fun s => s.apply o.dst { c := c', v := .und, ro := [(r, { R with l := m })], bump := true }) := by
  obtain ⟨hxv, hxi⟩ := opnd_sound hS hx
  obtain ⟨hav, hai⟩ := at_sound hS ha
  obtain ⟨_, hG⟩ := give_none _ _ _ _ _ hg
  obtain ⟨hc1, hc2⟩ := VT.cells hxv (opnd_nb hx)
  obtain ⟨b, o2, len, cap, t1, e1, e2, e3, e4, e5⟩ := hav.2 R hRr
  have hrep := hS.mem.rep r R hRr
  rw [hown] at hrep
  obtain ⟨t', l0, S1, f1, f2, f3, f4, f5⟩ := Rep.focus p hrep e1
  have hg1 : getP R.t R.l p = some (.s t l) := by
    obtain ⟨R', hR', hg'⟩ := node_root hn
    rw [hRr] at hR'
    cases hR'
    exact hg'
  rw [hg1] at f1
  cases f1
  rw [e2] at f2
  cases f2
  have fw := (f5 w l S1 (fun _ _ _ => rfl) (fun _ h _ => h) f3)
  obtain ⟨_, _, _, _, fwp⟩ := fw
  generalize hv : ({ tmps := ts, defers := [] } : Act).eval x = v at *
  cases f3 with
  | void _ _ _ ho => cases ho
  | sl _ _ _ _ _ arr e' fz V K _ hb hfz hlen1 hcap hsz hS' hsub hdis hvv hcc =>
  have hfz' := hfz rfl
  subst hfz'
  have hRows : Rows true w t l arr o2 b V K S1 := ⟨hsub, hdis, hvv, hcc⟩
  have hul : v.cells.toList.length = cvs.length := by rw [hG.len]; simpa using hc1
  have husz : v.cells.size = tys.length := by rw [hc1, hlen]
  have hfit' : off + v.cells.toList.length ≤ t.width := by simp [husz]; exact hfit
  have hrow : (i.toNat + 1) * t.width ≤ cap * t.width := Nat.mul_le_mul_right _ (by omega)
  rw [Nat.succ_mul] at hrow
  have h1c : ∀ u ∈ v.cells.toList, u.oneCell' = true := by
    intro u hu
    obtain ⟨j, hj⟩ := List.mem_iff_getElem?.1 hu
    have hlt : j < (tvAts y).length := by rw [← hc1]; have := (List.getElem?_eq_some_iff.1 hj).1; simpa using this
    exact (hc2 j _ u (List.getElem?_eq_getElem hlt) (by simpa using hj)).1
  have hrun := run_store_at (w := w) (off := o2 + i.toNat * t.width + off) (hC.cty T agg tys hT) hb husz (by omega) h1c
  generalize hw1 : w.setRow b (splice arr.toList (o2 + i.toNat * t.width + off) v.cells.toList).toArray = w1 at hrun
  have hb1 : w1.heap[b]? = some (.cells (splice arr.toList (o2 + i.toNat * t.width + off) v.cells.toList).toArray e' (0, 0)) := by rw [← hw1]; exact setRow_heap w b _ _ e' _ hb
  have hoth : ∀ x, x ≠ b → w1.heap[x]? = w.heap[x]? := fun x hx => by rw [← hw1]; exact setRow_other w b x _ hx
  have hold : ∀ i' j, i' < l.length → j < t.width → ¬ Hit i.toNat off v.cells.toList.length i' j → ∀ x, K i' j x → w1.heap[x]? = w.heap[x]? := fun i' j hi' hj _ x hx => hoth x ((hsub i' j x hi' hj hx).2 rfl)
  have hset1 := Rep.setCells (w := w) (w1 := w1) (Kn := fun _ _ => False) hlen1 hcap hsz hRows e4 hul hfit' hset hb1 (fun k c u hc hu => by
      have hk : k < (tvAts y).length := by rw [← hG.len]; exact (List.getElem?_eq_some_iff.1 hc).1
      have hat := List.getElem?_eq_getElem hk
      exact (hG.rep hS.mem hat hc (hc2 k _ u hat (by simpa using hu)).2).flat (given_flat hG hc)) hold (fun _ _ _ h => h.elim) (fun _ _ _ _ _ h => h.elim) (fun _ _ _ _ _ h => h.elim)
  obtain ⟨m', hm', hrm, hh1, hh2⟩ := f5 w1 l' _ (fun x hx hnx => hoth x (fun e => hnx (e ▸ hS'))) (fun x hx _ => by
      rcases hx with rfl | ⟨i', j, hi', hj, _, hk⟩ | ⟨_, _, h⟩
      · exact hS'
      · exact (hsub i' j x hi' hj hk).1
      · exact h.elim) hset1
  rw [hput] at hm'
  cases hm'
  have hrm' := hrm.weak (S' := E.φ r) (fun x hx => by
    rcases hx with ⟨hx, _⟩ | rfl | ⟨i', j, hi', hj, _, hk⟩ | ⟨_, _, h⟩
    · exact hx
    · exact f4 _ hS'
    · exact f4 _ (hsub i' j x hi' hj hk).1
    · exact h.elim)
  obtain ⟨hM, hTr⟩ := hS.mem.mut hS.ids.mem hRr hown (w1 := w1) (m := m) (by rw [← hw1]; rfl) (by rw [← hw1]; rfl) (by rw [← hw1]; rfl) (by rw [← hw1]; simp) (fun x hx => hoth x (fun e => hx (e ▸ f4 b hS'))) hrm' (fun q u hq => by
    rcases prefix_dec p q with ⟨q', rfl⟩ | hnp
    · rw [hh2 q']
      rw [fwp q'] at hq
      exact hdr_setCells hcap hsz hRows hb e4 hul hfit' hset hb1 hold q' (fun _ _ _ _ k c _ hc => .inl (given_flat hG hc)) hoth hq
    · exact hh1 q u hq (fun q' he => absurd ⟨q', he⟩ hnp))
  refine goes_mem hS (v := undef) (mv := .und) (n := .skip) ?_ (.inr ⟨rfl, rfl⟩) hM hTr rfl rfl rfl (fun n R' hn => ?_) (fun n cs hn => ⟨.inl (hS.ids.lo n cs hn).1, fun a ha m hm => .inl ((hS.ids.lo n cs hn).2 a ha m hm)⟩) rfl (fun n hn => by simp [MV.ids, mvAts] at hn)
  · simp [execOp, ho, Instr.storeAt, e5, Instr.sureAddr, hv, hrun]
  · simp only [aget] at hn
    split at hn
    · rename_i he; simp only [beq_iff_eq] at he; subst he; exact .inl (hS.ids.ro _ R (root_aget hRr).1)
    · exact .inl (hS.ids.ro n R' hn)

end
end Go.Proofs.Ytcfnaifggdelnaa.E
