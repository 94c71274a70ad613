/- What is proved here: an append to a slice that lies below a slice of our own. -/
import Derived.Test.YtcfnaifggdelnaaS22
namespace Go.Proofs.Ytcfnaifggdelnaa.E
open Go

section
variable {C : Cfg} {w0 w w1 : World} {S0 : BSet} {U : Nat → Prop} {st st1 : St} {E E1 : Env} {ts : Array Value} {sv : List (Array Value)}

theorem ofCells_of (t : Ty) (x : t.den) : t.ofCells (t.cells x) = some x := by
  cases t <;> first | rfl | simp [Ty.ofCells, Ty.cells]

theorem putP_same : ∀ (p : List (Int × Nat)) {t : Ty} {l : List t.den} {cv : CV}, getP t l p = some cv → ∀ m, putP t l p cv = some m → m = l
  | [], t, l, cv, h, m, hm => by
    simp only [getP, Option.some.injEq] at h
    subst h
    simpa [putP] using hm.symm
  | (i, j) :: p, t, l, cv, h, m, hm => by
    simp only [getP] at h
    simp only [putP] at hm
    split at h
    · rename_i t1 l1 hc
      rw [hc] at hm
      simp only at hm
      split at hm
      · rename_i l2 hl2
        have := putP_same p h l2 hl2
        subst this
        split at hm
        · rename_i x hx
          cases hm
          have hj : j < (t.cells (ix l i t.dflt)).length := (List.getElem?_eq_some_iff.1 hc).1
          have hs : splice (t.cells (ix l i t.dflt)) j [CV.s t1 l2] = t.cells (ix l i t.dflt) := splice_same _ _ _ (by simp; omega) (fun k hk => by
            have : k = 0 := by simpa using hk
            subst this
            simpa using hc)
          rw [hs, ofCells_of] at hx
          cases hx
          unfold up ix
          apply List.ext_getElem?
          intro k
          rw [List.getElem?_set]
          split
          · rename_i hk
            subst hk
            split
            · rename_i hlt
              simp [List.getD, List.getElem?_eq_getElem hlt]
            · rename_i hlt
              rw [List.getElem?_eq_none (by omega)]
          · rfl
        · cases hm
      · cases hm
    · cases h

theorem flat_hdr {t : Ty} (hf : t.flat = true) : ∀ (q : List (Int × Nat)) (v u : Value), hdrAt w t v q = some u → q = []
  | [], _, _, _ => rfl
  | (i, j) :: q, v, u, h => by
    exfalso
    cases v with
    | slice a len cap =>
      cases a with
      | none => simp [hdrAt] at h
      | some a =>
        simp only [hdrAt] at h
        split at h
        · split at h
          · rename_i t' hsh
            unfold Ty.flat at hf
            have := List.all_eq_true.1 hf _ (List.mem_of_getElem? hsh)
            simp at this
          · cases h
        · cases h
    | _ => simp [hdrAt] at h

/-- The model's append, to rows that lead to no slices. -/
theorem run_low (hC : CfgOk C) {T : TypeId} {t : Ty} (hT : C.sty T = some t) (hf : t.flat = true) {v1 v2 : Value} {l1 l2 : List t.den} {S1 S2 : BSet} (hrep1 : Rep true w v1 (.s t l1) S1) (hrep2 : Rep false w v2 (.s t l2) S2) (hl2 : l2 ≠ [])
    (hfew : few (ln (ap l1 l2)) = true) (oT : TypeId) :
    ∃ (v : Value) (w' : World) (bv offv cap : Nat), (Builtin.append_ #[T, T] oT #[v1, v2]).run C.P w = .ok v w' ∧ v = .slice (some ⟨bv, offv, none⟩) (ap l1 l2).length cap ∧ Rep true w' v (.s t (ap l1 l2)) (fun x => x = bv) ∧
      w'.os = w.os ∧ w'.tape = w.tape ∧ w'.output = w.output ∧
      ((bv = w.heap.size ∧ w'.heap.size = w.heap.size + 1 ∧ ∀ x, x < w.heap.size → w'.heap[x]? = w.heap[x]?) ∨
        ∃ off1 cap1, v1 = .slice (some ⟨bv, off1, none⟩) l1.length cap1 ∧ S1 bv ∧ w'.heap.size = w.heap.size ∧ (∀ x, x ≠ bv → w'.heap[x]? = w.heap[x]?) ∧ Rep true w' v1 (.s t l1) S1) := by
  obtain ⟨e, hE⟩ := hC.sty T t hT
  obtain ⟨i, z, hi, hs, hz, hzc, hby⟩ := hE.info
  obtain ⟨f0, f1⟩ := few_iff hfew
  have hlen : l1.length + l2.length ≤ 2147483648 := by simp only [ln, ap, List.length_append] at f1; omega
  have hapl : (ap l1 l2).length = l1.length + l2.length := by simp [ap]
  cases hrep2 with
  | nil => exact absurd rfl hl2
  | void => exact absurd rfl hl2
  | sl _ _ b2 off2 cap2 arr2 e2 fz2 V2 K2 _ hb2 hfz2 hlen2 hcap2 hsz2 hS2 hsub2 hdis2 hvv2 hcc2 =>
  have hm0 : 0 < l2.length := List.length_pos_iff.2 hl2
  have hmul2 : l2.length * t.width ≤ cap2 * t.width := Nat.mul_le_mul_right _ hcap2
  generalize hnews : (arr2.toList.drop off2).take (l2.length * t.width) = news
  have hnl : news.length = l2.length * t.width := by rw [← hnews]; simp; omega
  have hnat : ∀ k, k < l2.length * t.width → news[k]? = arr2[off2 + k]? := by
    intro k hk
    rw [← hnews, List.getElem?_take, if_pos hk, List.getElem?_drop]
    simp
  have hnc : ∀ j u, news[j]? = some u → w.cell? ((⟨b2, off2, none⟩ : Addr).add j) = some u := by
    intro j u hu
    have hj : j < l2.length * t.width := by rw [← hnl]; exact (List.getElem?_eq_some_iff.1 hu).1
    rw [add_lit, cell_of_block hb2, ← hnat j hj]
    exact hu
  have hrow2 : ∀ i j, i < l2.length → j < t.width → i * t.width + j < l2.length * t.width := by
    intro i j hi hj
    have : (i + 1) * t.width ≤ l2.length * t.width := Nat.mul_le_mul_right _ hi
    rw [Nat.succ_mul] at this
    omega
  have hnv : ∀ i j, i < l2.length → j < t.width → news[i * t.width + j]? = some (V2 i j) := by
    intro i j hi hj
    rw [hnat _ (hrow2 i j hi hj), ← Nat.add_assoc]
    exact hvv2 i j hi hj
  have hwp := ty_width_pos t
  have hn1 : ∀ u ∈ news, u.oneCell' = true := by
    intro u hu
    obtain ⟨k, hk⟩ := List.mem_iff_getElem?.1 hu
    have hkl : k < l2.length * t.width := by rw [← hnl]; exact (List.getElem?_eq_some_iff.1 hk).1
    have hki : k / t.width < l2.length := (Nat.div_lt_iff_lt_mul hwp).2 hkl
    have hkj : k % t.width < t.width := Nat.mod_lt _ hwp
    have := hnv _ _ hki hkj
    rw [Nat.mul_comm, Nat.div_add_mod, hk] at this
    cases this
    have hx := List.getElem?_eq_getElem hki
    have hcj : (t.cells (l2[k / t.width]'hki))[k % t.width]? = some ((t.cells (l2[k / t.width]'hki))[k % t.width]'(by rw [cells_len]; exact hkj)) := List.getElem?_eq_getElem _
    exact (hcc2 _ _ hx _ _ hcj).one
  have hcc2' : ∀ (w1 : World) i x, l2[i]? = some x → ∀ j c, (t.cells x)[j]? = some c → Rep true w1 (V2 i j) c (fun _ => False) := fun w1 i x hx j c hcj => (hcc2 i x hx j c hcj).flat (flat_cell hf hcj)
  have hrow1 : ∀ i j, i < l1.length → j < t.width → i * t.width + j < l1.length * t.width := by
    intro i j hi hj
    have : (i + 1) * t.width ≤ l1.length * t.width := Nat.mul_le_mul_right _ hi
    rw [Nat.succ_mul] at this
    omega
  have hbytes : (l1.length + l2.length) * i.bytes ≤ 140737488355328 := by
    have := Nat.mul_le_mul hlen hby
    omega
  have hzsz : z.cells.size = t.width := by rw [← Array.length_toList, hzc]; simp [shape_len]
  -- grown: a new block
  have grown : ∀ (olds : List Value) (cap' : Nat) (V1 : Nat → Nat → Value) (zs : Array Value), olds.length = l1.length * t.width → l1.length + l2.length ≤ cap' → zs.size = (cap' - (l1.length + l2.length)) * t.width →
      (∀ i j, i < l1.length → j < t.width → olds[i * t.width + j]? = some (V1 i j)) →
      (∀ i x, l1[i]? = some x → ∀ j c, (t.cells x)[j]? = some c → ∃ S, Rep true w (V1 i j) c S) →
      (Builtin.append_ #[T, T] oT #[v1, .slice (some ⟨b2, off2, none⟩) l2.length cap2]).run C.P w = .ok (.slice (some ⟨w.heap.size, 0, none⟩) (l1.length + l2.length) cap') (w.drew.alloc (.cells (olds.toArray ++ news.toArray ++ zs) e (0, 0))) →
      ∃ (v : Value) (w' : World) (bv offv cap : Nat), (Builtin.append_ #[T, T] oT #[v1, .slice (some ⟨b2, off2, none⟩) l2.length cap2]).run C.P w = .ok v w' ∧ v = .slice (some ⟨bv, offv, none⟩) (ap l1 l2).length cap ∧ Rep true w' v (.s t (ap l1 l2)) (fun x => x = bv) ∧
      w'.os = w.os ∧ w'.tape = w.tape ∧ w'.output = w.output ∧
      ((bv = w.heap.size ∧ w'.heap.size = w.heap.size + 1 ∧ ∀ x, x < w.heap.size → w'.heap[x]? = w.heap[x]?) ∨
        ∃ off1 cap1, v1 = .slice (some ⟨bv, off1, none⟩) l1.length cap1 ∧ S1 bv ∧ w'.heap.size = w.heap.size ∧ (∀ x, x ≠ bv → w'.heap[x]? = w.heap[x]?) ∧ Rep true w' v1 (.s t l1) S1) := by
    intro olds cap' V1 zs hol hcap' hzs ho1 hc1 hr
    generalize hw1 : w.drew.alloc (.cells (olds.toArray ++ news.toArray ++ zs) e (0, 0)) = w1 at hr
    have hsame : ∀ x, x < w.heap.size → w1.heap[x]? = w.heap[x]? := fun x hx => by rw [← hw1]; exact heap_alloc_old w.drew _ x hx
    have hsize : w1.heap.size = w.heap.size + 1 := by rw [← hw1]; simp
    refine ⟨_, w1, w.heap.size, 0, cap', hr, by rw [hapl], ?_, by rw [← hw1]; rfl, by rw [← hw1]; rfl, by rw [← hw1]; rfl, .inl ⟨rfl, hsize, hsame⟩⟩
    refine Rep.join (arr := olds.toArray ++ news.toArray ++ zs) (e := e) (V1 := V1) (V2 := V2) (K1 := fun _ _ _ => False) (K2 := fun _ _ _ => False) ?_ (by simp only [big]; omega) hcap' ?_ rfl ?_ ?_ ?_ (hcc2' w1) (fun _ _ _ _ _ h => h.elim) (fun _ _ _ _ _ h => h.elim) (fun _ _ _ _ _ _ _ _ _ h => h.elim) (fun _ _ _ _ _ _ _ _ _ h => h.elim) (fun _ _ _ _ _ _ _ _ _ h => h.elim)
    · rw [← hw1]; exact heap_alloc_new w.drew _
    · simp only [Array.size_append, List.size_toArray, hol, hnl, hzs, ← Nat.add_mul]
      have : l1.length + l2.length + (cap' - (l1.length + l2.length)) = cap' := by omega
      rw [this]; omega
    · intro i j hi hj
      have := hrow1 i j hi hj
      rw [Nat.zero_add, Array.append_assoc, Array.getElem?_append_left (by simp [hol]; exact this)]
      simpa using ho1 i j hi hj
    · intro i j hi hj
      have := hrow2 i j hi hj
      rw [Nat.zero_add, Nat.add_mul, Array.append_assoc, Array.getElem?_append_right (by simp [hol]; omega), Array.getElem?_append_left (by simp [hol, hnl]; omega)]
      rw [← hnv i j hi hj]
      simp only [List.size_toArray, hol, List.getElem?_toArray]
      congr 1
      omega
    · intro i x hx j c hcj
      obtain ⟨S, hr⟩ := hc1 i x hx j c hcj
      exact hr.flat (flat_cell hf hcj)
  cases hrep1 with
  | nil =>
    have hr := run_append_nil (P := C.P) w T oT e i z hE.und hi hz ⟨b2, off2, none⟩ l2.length cap2 news (by rw [hs]; exact hnl) hnc hm0 (by omega) (by
      have := Nat.mul_le_mul (show l2.length ≤ 2147483648 by omega) hby
      omega)
    have hge := grownCap_ge w l2.length 0 e
    refine grown [] (grownCap w l2.length 0 e) (fun _ _ => undef) (Builtin.zeroCells z.cells (grownCap w l2.length 0 e - l2.length)) (by simp) (by simpa using hge) (by simp [size_zeroCells, hzsz]) (fun i j hi => by simp at hi) (fun i x hx => by simp at hx) ?_
    rw [hr]
    simp
  | void _ _ _ ho => cases ho
  | sl _ _ b off cap arr e1 fz V1 K1 _ hb hfz hlen1 hcap1 hsz1 hS1 hsub1 hdis1 hvv1 hcc1 =>
    have hfz' := hfz rfl
    subst hfz'
    have hmul1 : l1.length * t.width ≤ cap * t.width := Nat.mul_le_mul_right _ hcap1
    by_cases hroom : l1.length + l2.length ≤ cap
    · have hmulr : (l1.length + l2.length) * t.width ≤ cap * t.width := Nat.mul_le_mul_right _ hroom
      rw [Nat.add_mul] at hmulr
      have hr := run_append_room' (P := C.P) (w := w) T oT e i hE.und hi b off l1.length cap arr e1 hb ⟨b2, off2, none⟩ l2.length cap2 news (by rw [hs]; exact hnl) hnc hn1 hroom (by rw [hs, hnl]; omega)
      rw [hs] at hr
      have hbs : off + l1.length * t.width + news.length ≤ arr.toList.length := by rw [hnl]; simp; omega
      generalize hw1 : w.setRow b (splice arr.toList (off + l1.length * t.width) news).toArray = w1 at hr
      have hb1 : w1.heap[b]? = some (.cells (splice arr.toList (off + l1.length * t.width) news).toArray e1 (0, 0)) := by rw [← hw1]; exact setRow_heap w b _ _ e1 _ hb
      have hoth : ∀ x, x ≠ b → w1.heap[x]? = w.heap[x]? := fun x hx => by rw [← hw1]; exact setRow_other w b x _ hx
      have hasz : (splice arr.toList (off + l1.length * t.width) news).toArray.size = arr.size := by rw [List.size_toArray, splice_len _ _ _ hbs]; simp
      have hkeepr : ∀ k, k < off + l1.length * t.width → (splice arr.toList (off + l1.length * t.width) news).toArray[k]? = arr[k]? := by
        intro k hk
        rw [List.getElem?_toArray, splice_out _ _ _ hbs k (.inl hk)]
        simp
      have hRows : Rows true w t l1 arr off b V1 K1 S1 := ⟨hsub1, hdis1, hvv1, hcc1⟩
      obtain ⟨k1, _⟩ := Rep.behind (w1 := w1) hlen1 hcap1 hsz1 hS1 hRows hb hb1 hasz hkeepr hoth
      refine ⟨_, w1, b, off, cap, hr, by rw [hapl], ?_, by rw [← hw1]; rfl, by rw [← hw1]; rfl, by rw [← hw1]; rfl, .inr ⟨off, cap, rfl, hS1, by rw [← hw1]; simp, hoth, k1⟩⟩
      refine Rep.join (arr := (splice arr.toList (off + l1.length * t.width) news).toArray) (e := e1) (V1 := V1) (V2 := V2) (K1 := fun _ _ _ => False) (K2 := fun _ _ _ => False) hb1 (by simp only [big]; omega) hroom (by rw [hasz]; exact hsz1) rfl ?_ ?_ ?_ (hcc2' w1) (fun _ _ _ _ _ h => h.elim) (fun _ _ _ _ _ h => h.elim) (fun _ _ _ _ _ _ _ _ _ h => h.elim) (fun _ _ _ _ _ _ _ _ _ h => h.elim) (fun _ _ _ _ _ _ _ _ _ h => h.elim)
      · intro i j hi hj
        have := hrow1 i j hi hj
        rw [hkeepr _ (by omega)]
        exact hvv1 i j hi hj
      · intro i j hi hj
        have := hrow2 i j hi hj
        rw [List.getElem?_toArray, Nat.add_mul, splice_in _ _ _ hbs _ (by omega) (by rw [hnl]; omega), ← hnv i j hi hj]
        congr 1
        omega
      · intro i x hx j c hcj
        exact (hcc1 i x hx j c hcj).flat (flat_cell hf hcj)
    · generalize holds : (arr.toList.drop off).take (l1.length * t.width) = olds
      have hol : olds.length = l1.length * t.width := by rw [← holds]; simp; omega
      have hoat : ∀ k, k < l1.length * t.width → olds[k]? = arr[off + k]? := by
        intro k hk
        rw [← holds, List.getElem?_take, if_pos hk, List.getElem?_drop]
        simp
      have hr := run_append_grow (P := C.P) w T oT e i z hE.und hi hz ⟨b, off, none⟩ l1.length cap olds (by rw [hs]; exact hol) (fun j u hu => by
          have hj : j < l1.length * t.width := by rw [← hol]; exact (List.getElem?_eq_some_iff.1 hu).1
          rw [add_lit, cell_of_block hb, ← hoat j hj]
          exact hu) ⟨b2, off2, none⟩ l2.length cap2 news (by rw [hs]; exact hnl) hnc (by omega) (by omega) (growslice_fits (by omega) hbytes)
      have hge := grownCap_ge w (l1.length + l2.length) cap e
      refine grown olds _ V1 _ hol hge (by rw [size_zeroCells, hzsz]) (fun i j hi hj => ?_) (fun i x hx j c hcj => ⟨_, hcc1 i x hx j c hcj⟩) hr
      have : (i + 1) * t.width ≤ l1.length * t.width := Nat.mul_le_mul_right _ hi
      rw [Nat.succ_mul] at this
      rw [hoat _ (by omega), ← Nat.add_assoc]
      exact hvv1 i j hi hj

end
end Go.Proofs.Ytcfnaifggdelnaa.E
