/- What is proved here: what the evaluator says of an operation holds of the model's run of it: slice literals, calls by contract. -/
import Derived.Test.YtcfnaifggdelnaaS10
namespace Go.Proofs.Ytcfnaifggdelnaa.E
open Go

section
variable {C : Cfg} {w0 w w1 : World} {S0 : BSet} {U : Nat → Prop} {st st1 : St} {E E1 : Env} {ts : Array Value} {sv : List (Array Value)}

theorem ty_width_le (t : Ty) : t.width ≤ 16 := by cases t <;> simp [Ty.width]

/-- Rows laid so far, and what they take. -/
structure Laid (w : World) (st : St) (E : Env) (t : Ty) (l : List t.den) (ks : List Nat) (cells : Array Value) : Prop where
  size : cells.size = l.length * t.width
  own : ∀ r ∈ ks, ∃ R, st.root r = some R ∧ R.own = true
  rows : ∃ V K, Rows true w t l cells 0 w.heap.size V K (fun x => ∃ r ∈ ks, E.φ r x)

theorem rowParts_sound (hM : Mem w0 S0 st E w) {t : Ty} {ev : Operand → Value} (hev : ∀ x y, st.opnd x = some (.v y) → VT w st E y (ev x)) :
    ∀ (parts : List (Nat × Operand)) (l : List t.den) (ks : List Nat) (l' : List t.den) (ks' : List Nat) (cells : Array Value), rowParts st t parts l ks = some (l', ks') → Laid w st E t l ks cells →
      ∃ cells', Instr.fill (fun i => some (i * t.width, t.width)) cells (parts.map fun x => (x.1, ev x.2)) = some cells' ∧ l'.length = l.length ∧ Laid w st E t l' ks' cells'
  | [], l, ks, l', ks', cells, h, hL => by
    simp only [rowParts, Option.some.injEq, Prod.mk.injEq] at h
    obtain ⟨rfl, rfl⟩ := h
    exact ⟨cells, rfl, rfl, hL⟩
  | (i, x) :: r, l, ks, l', ks', cells, h, hL => by
    simp only [rowParts] at h
    split at h
    · rename_i y hx
      split at h
      · rename_i cs k2 hg
        split at h
        · rename_i d hd
          split at h
          · rename_i hcond
            simp only [Bool.and_eq_true, decide_eq_true_eq, List.all_eq_true, Bool.not_eq_true', List.contains_eq_mem, decide_eq_false_iff_not] at hcond
            obtain ⟨hil, hdisj⟩ := hcond
            obtain ⟨_, hG⟩ := give_none _ _ _ _ _ hg
            have hcs := ofCells_cells hd
            have hcl : cs.length = t.width := by rw [← hcs, cells_len]
            obtain ⟨c1, c2⟩ := VT.cells (hev x y hx) (opnd_nb hx)
            have hyl : (tvAts y).length = t.width := by rw [← hG.len, hcl]
            have hvl : (ev x).cells.size = t.width := by rw [c1, hyl]
            have hrow : (i + 1) * t.width ≤ l.length * t.width := Nat.mul_le_mul_right _ hil
            rw [Nat.succ_mul] at hrow
            have hfit : i * t.width + t.width ≤ cells.size := by rw [hL.size]; exact hrow
            have hb : i * t.width + (ev x).cells.toList.length ≤ cells.toList.length := by simp [hvl]; exact hfit
            obtain ⟨V, K, hR⟩ := hL.rows
            have hown : ∀ r ∈ k2 ++ ks, ∃ R, st.root r = some R ∧ R.own = true := fun r hr => (List.mem_append.1 hr).elim (hG.own r) (hL.own r)
            have hat : ∀ j, j < t.width → ∃ a u, (tvAts y)[j]? = some a ∧ (ev x).cells[j]? = some u ∧ VA w st E a u := by
              intro j hj
              have h1 : j < (tvAts y).length := by omega
              have h2 : j < (ev x).cells.size := by omega
              have e1 := List.getElem?_eq_getElem h1
              have e2 : (ev x).cells[j]? = some (ev x).cells[j] := Array.getElem?_eq_getElem h2
              exact ⟨_, _, e1, e2, (c2 j _ _ e1 e2).2⟩
            have hnew : ∀ j z, j < t.width → (match (tvAts y)[j]? with | some a => aφ E a | none => fun _ => False) z → ∃ a, (tvAts y)[j]? = some a ∧ ∃ r ∈ k2, a = .sl r [] ∧ E.φ r z := by
              intro j z hj hz
              obtain ⟨a, u, ha, _, _⟩ := hat j hj
              rw [ha] at hz
              exact ⟨a, ha, hG.fi ha hz⟩
            have hlt : ∀ r ∈ k2 ++ ks, ∀ z, E.φ r z → z < w.heap.size := by
              intro r hr z hz
              obtain ⟨R, hR, _⟩ := hown r hr
              exact hM.rlt r R hR z hz
            have hL' : Laid w st E t (l.set i d) (k2 ++ ks) (splice cells.toList (i * t.width) (ev x).cells.toList).toArray := by
              refine ⟨by rw [List.size_toArray, splice_len _ _ _ hb]; simpa using hL.size, hown, ?_⟩
              refine ⟨fun i' j => if i' = i then ((ev x).cells[j]?).getD undef else V i' j, fun i' j => if i' = i then (match (tvAts y)[j]? with | some a => aφ E a | none => fun _ => False) else K i' j, ?_, ?_, ?_, ?_⟩
              · intro i' j z hi hj hz
                by_cases he : i' = i
                · simp only [if_pos he] at hz
                  obtain ⟨a, ha, r, hr, _, hrz⟩ := hnew j z hj hz
                  have hm : r ∈ k2 ++ ks := List.mem_append_left _ hr
                  exact ⟨⟨r, hm, hrz⟩, fun _ e => by have := hlt r hm z hrz; omega⟩
                · simp only [if_neg he] at hz
                  obtain ⟨⟨r, hr, hrz⟩, h2⟩ := hR.sub i' j z (by simpa using hi) hj hz
                  exact ⟨⟨r, List.mem_append_right _ hr, hrz⟩, h2⟩
              · intro _ i1 j1 i2 j2 z hi1 hj1 hi2 hj2 hz1 hz2
                by_cases h1 : i1 = i <;> by_cases h2 : i2 = i
                · simp only [if_pos h1] at hz1
                  simp only [if_pos h2] at hz2
                  obtain ⟨a, ha, r1, hr1, rfl, hrz1⟩ := hnew j1 z hj1 hz1
                  obtain ⟨a, ha2, r2, hr2, rfl, hrz2⟩ := hnew j2 z hj2 hz2
                  obtain ⟨R1, hR1, ho1⟩ := hG.own r1 hr1
                  obtain ⟨R2, hR2, ho2⟩ := hG.own r2 hr2
                  have := hM.own_apart hR1 ho1 hR2 ho2 hrz1 hrz2
                  subst this
                  exact ⟨h1.trans h2.symm, hG.inj j1 j2 r1 ha ha2⟩
                · simp only [if_pos h1] at hz1
                  simp only [if_neg h2] at hz2
                  obtain ⟨a, ha, r1, hr1, _, hrz1⟩ := hnew j1 z hj1 hz1
                  obtain ⟨⟨r2, hr2, hrz2⟩, _⟩ := hR.sub i2 j2 z (by simpa using hi2) hj2 hz2
                  obtain ⟨R1, hR1, ho1⟩ := hG.own r1 hr1
                  obtain ⟨R2, hR2, ho2⟩ := hL.own r2 hr2
                  have := hM.own_apart hR1 ho1 hR2 ho2 hrz1 hrz2
                  subst this
                  exact absurd hr2 (hdisj r1 hr1)
                · simp only [if_neg h1] at hz1
                  simp only [if_pos h2] at hz2
                  obtain ⟨a, ha, r1, hr1, _, hrz1⟩ := hnew j2 z hj2 hz2
                  obtain ⟨⟨r2, hr2, hrz2⟩, _⟩ := hR.sub i1 j1 z (by simpa using hi1) hj1 hz1
                  obtain ⟨R1, hR1, ho1⟩ := hG.own r1 hr1
                  obtain ⟨R2, hR2, ho2⟩ := hL.own r2 hr2
                  have := hM.own_apart hR1 ho1 hR2 ho2 hrz1 hrz2
                  subst this
                  exact absurd hr2 (hdisj r1 hr1)
                · simp only [if_neg h1] at hz1
                  simp only [if_neg h2] at hz2
                  exact hR.dis rfl i1 j1 i2 j2 z (by simpa using hi1) hj1 (by simpa using hi2) hj2 hz1 hz2
              · intro i' j hi hj
                have hi' : i' < l.length := by simpa using hi
                rw [List.getElem?_toArray]
                by_cases he : i' = i
                · subst he
                  simp only [if_true]
                  rw [splice_in _ _ _ hb _ (by omega) (by simp [hvl]; omega)]
                  obtain ⟨a, u, _, hu, _⟩ := hat j hj
                  rw [hu]
                  have e : 0 + i' * t.width + j - i' * t.width = j := by omega
                  rw [e]
                  simpa using hu
                · simp only [if_neg he]
                  rw [splice_out _ _ _ hb _ (by
                    simp only [Array.length_toList, hvl]
                    rcases Nat.lt_or_ge i' i with hlt | hge
                    · left
                      have : (i' + 1) * t.width ≤ i * t.width := Nat.mul_le_mul_right _ hlt
                      rw [Nat.succ_mul] at this
                      omega
                    · right
                      have : (i + 1) * t.width ≤ i' * t.width := Nat.mul_le_mul_right _ (by omega)
                      rw [Nat.succ_mul] at this
                      omega)]
                  simpa using hR.val i' j hi' hj
              · intro i' z hz j c hcj
                by_cases he : i' = i
                · subst he
                  simp only [if_true]
                  rw [List.getElem?_set] at hz
                  simp only [if_true, if_pos hil] at hz
                  cases hz
                  rw [hcs] at hcj
                  have hj : j < t.width := by rw [← hcl]; exact (List.getElem?_eq_some_iff.1 hcj).1
                  obtain ⟨a, u, ha, hu, hau⟩ := hat j hj
                  rw [ha, hu]
                  exact hG.rep hM ha hcj hau
                · simp only [if_neg he]
                  rw [List.getElem?_set, if_neg (fun e => he e.symm)] at hz
                  exact hR.con i' z hz j c hcj
            obtain ⟨cells', h1, h2, h3⟩ := rowParts_sound hM hev r (l.set i d) (k2 ++ ks) l' ks' _ h hL'
            refine ⟨cells', ?_, by rw [h2]; simp, h3⟩
            simp only [List.map_cons]
            rw [fill_step (place := fun i => some (i * t.width, t.width)) rfl hvl hfit]
            exact h1
          · cases h
        · cases h
      · cases h
    · cases h

theorem run_buildSlice' {P : Program} {w : World} (t e : TypeId) (len : Nat) (parts : Array (Nat × Value)) (cells : Array Value) (ie : TypeInfo) (z : Value)
    (hu : P.underlying t = some (.slice e)) (hie : P.info? e = some ie) (hz : ie.zero = some z) (hsmall : ¬ len * ie.size > 2 ^ 24)
    (h : Instr.fill (fun i => some (i * ie.size, ie.size)) (madeCells z.cells (len * ie.size)) parts.toList = some cells) :
    (Instr.buildSlice t len parts).run P w = .ok (.slice (some ⟨w.heap.size, 0, none⟩) len len) (w.alloc (.cells cells e)) := by
  by_cases hpos : len * ie.size = 0
  · rw [hpos] at h
    have e0 : madeCells z.cells 0 = #[] := by simp [madeCells, Array.range_zero']
    rw [e0] at h
    simp [Instr.buildSlice, run_underlying hu, sizeOf, typeInfo, zeroValue, hie, hz, hpos, h, newRow, Array.range_zero']
  · exact run_buildSlice w t e len parts cells ie z hu hie hz hsmall hpos h

theorem s_buildSlice (hC : CfgOk C) (hS : Sim w0 S0 U st E ts sv w) {o : Oper} {id : Nat} (hid : ∀ n, Mine id n → ¬ U n) {T : TypeId} {len : Nat} {parts : Array (Nat × Operand)} {d : Dl} (ho : o.op = .buildSlice T len parts)
    (h : delta C st o id = some d) : Goes C w0 S0 U st ts sv w o id (fun st => st.apply o.dst d) := by
  simp only [delta, ho] at h
  split at h
  · rename_i t hT
    split at h
    · rename_i l ks hr
      split at h
      · rename_i hle
        cases h
        obtain ⟨e, hE⟩ := hC.sty T t hT
        obtain ⟨i, z, hi, hs, hz, hzc, hby⟩ := hE.info
        have hM := hS.mem
        have hL0 : Laid w st E t (List.replicate len t.dflt) [] (madeCells z.cells (len * t.width)) := by
          refine ⟨by simp [size_madeCells], fun r hr => by simp at hr, fun _ j => ((t.shape[j]?).map zeroV).getD undef, fun _ _ _ => False, fun _ _ _ _ _ h => h.elim, fun _ _ _ _ _ _ _ _ _ _ h => h.elim, fun i j hi hj => ?_, fun i x hx j c hcj => ?_⟩
          · obtain ⟨c, h1, h2⟩ := madeCells_at hzc (by simpa using hi) hj
            rw [Nat.zero_add, h2, h1]; rfl
          · rw [List.getElem?_replicate] at hx
            split at hx
            · cases hx
              rw [dflt_cells, List.getElem?_map] at hcj
              cases hcc : t.shape[j]? with
              | none => rw [hcc] at hcj; cases hcj
              | some ct =>
                rw [hcc] at hcj
                cases hcj
                exact rep_zero true _ ct _
            · cases hx
        obtain ⟨cells, hf, hll, hL⟩ := rowParts_sound hM (ev := ({ tmps := ts, defers := [] } : Act).eval) (fun x y hx => (opnd_sound hS hx).1) parts.toList _ [] l ks _ hr hL0
        have hll' : l.length = len := by rw [hll]; simp
        have hsmall : ¬ len * i.size > 2 ^ 24 := by
          rw [hs]
          have := Nat.mul_le_mul hle (ty_width_le t)
          omega
        have hrun := run_buildSlice' (P := C.P) (w := w) T e len (parts.map fun x => (x.1, ({ tmps := ts, defers := [] } : Act).eval x.2)) cells i z hE.und hi hz hsmall (by rw [hs, Array.toList_map]; exact hf)
        obtain ⟨V, K, hR⟩ := hL.rows
        generalize hw1 : w.alloc (.cells cells e) = w1 at hrun
        have hsame : ∀ x, x < w.heap.size → w1.heap[x]? = w.heap[x]? := fun x hx => by rw [← hw1]; exact heap_alloc_old w _ x hx
        have hsize : w1.heap.size = w.heap.size + 1 := by rw [← hw1]; simp
        have hblt : ∀ k ∈ ks, ∀ x, E.φ k x → x < w.heap.size := fun k hk x hx => by obtain ⟨Q, hQ, _⟩ := hL.own k hk; exact hM.rlt k Q hQ x hx
        refine goes_merge hS hid (w1 := w1) (v := .slice (some ⟨w.heap.size, 0, none⟩) len len) (φn := fun x => (∃ k ∈ ks, E.φ k x) ∨ x = w.heap.size) ?_ hL.own (by rw [← hw1]; rfl) (by rw [← hw1]; rfl) (by rw [← hw1]; rfl) (by omega) (fun x hx _ => hsame x hx) ?_ ?_ ?_
        · simp [execOp, ho, hrun]
        · rintro x (hx | rfl)
          · exact .inl hx
          · exact .inr ⟨Nat.le_refl _, by omega⟩
        · have hcsz : cells.size = len * t.width := by rw [hL.size, hll']
          have := Rep.sl (o := true) (w := w1) t l w.heap.size 0 len cells e (0, 0) V K (fun x => (∃ k ∈ ks, E.φ k x) ∨ x = w.heap.size) (by rw [← hw1]; exact heap_alloc_new w _) (fun _ => rfl) (by rw [hll']; simp only [big]; omega) (by omega) (by omega) (.inr rfl)
            (fun i j x hi hj hk => ⟨.inl (hR.sub i j x hi hj hk).1, (hR.sub i j x hi hj hk).2⟩) hR.dis hR.val
            (fun i x hx j c hcj => by
              have hi' : i < l.length := (List.getElem?_eq_some_iff.1 hx).1
              have hj' : j < t.width := by have := (List.getElem?_eq_some_iff.1 hcj).1; rw [cells_len] at this; exact this
              refine (hR.con i x hx j c hcj).frame (fun y hy => ?_)
              obtain ⟨⟨k, hk, hky⟩, _⟩ := hR.sub i j y hi' hj' hy
              exact hsame y (hblt k hk y hky))
          rw [hll'] at this
          exact this
        · intro k hk Q hQ
          have hfr : ∀ x, E.φ k x → w1.heap[x]? = w.heap[x]? := fun x hx => hsame x (hM.rlt k Q hQ x hx)
          refine ⟨((hM.rep k Q hQ).frame hfr).ro, fun p u hp => ?_⟩
          rw [hdrAt_frame p (hM.rep k Q hQ) hfr]
          exact hp
      · cases h
    · cases h
  · cases h

end
end Go.Proofs.Ytcfnaifggdelnaa.E
