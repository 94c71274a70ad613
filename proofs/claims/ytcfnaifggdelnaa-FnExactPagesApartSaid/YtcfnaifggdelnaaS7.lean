/- What is proved here: what the evaluator says of an operation holds of the model's run of it: stores to variables, new slices, slice expressions. -/
import Derived.Test.YtcfnaifggdelnaaS6
namespace Go.Proofs.Ytcfnaifggdelnaa.E
open Go

section
variable {C : Cfg} {w0 w w1 : World} {S0 : BSet} {U : Nat → Prop} {st st1 : St} {E E1 : Env} {ts : Array Value} {sv : List (Array Value)}

theorem s_store_lp (hC : CfgOk C) (hS : Sim w0 S0 U st E ts sv w) {o : Oper} {id : Nat} {T : TypeId} {a x : Operand} {agg : Bool} {tys : List CTy} {y : TV} {l off : Nat} {cs : List At} (ho : o.op = .store T a x)
    (hT : C.cty T = some (agg, tys)) (hx : st.opnd x = some (.v y)) (ha : st.at a = some (.lp l off)) (hcs : aget st.lo l = some cs) (hlen : (tvAts y).length = tys.length) (hle : off + tys.length ≤ cs.length) :
    Goes C w0 S0 U st ts sv w o id (fun st => st.apply o.dst { v := .und, lo := [(l, splice cs off (tvAts y))] }) := by
  obtain ⟨hxv, hxi⟩ := opnd_sound hS hx
  obtain ⟨hav, hai⟩ := at_sound hS ha
  obtain ⟨hc1, hc2⟩ := VT.cells hxv (opnd_nb hx)
  have hci : ∀ a ∈ tvAts y, ∀ m ∈ a.ids, U m := fun a ha m hm => hxi m (by simp only [MV.ids, mvAts, List.mem_flatMap]; exact ⟨a, ha, hm⟩)
  have hap := hav.2 cs hcs
  obtain ⟨g0, vals, e, g1, g2, g3⟩ := hS.mem.loc l cs hcs
  obtain ⟨hUl, hids⟩ := hS.ids.lo l cs hcs
  generalize hv : ({ tmps := ts, defers := [] } : Act).eval x = v at *
  have h1c : ∀ u ∈ v.cells.toList, u.oneCell' = true := by
    intro u hu
    obtain ⟨j, hj⟩ := List.mem_iff_getElem?.1 hu
    have hlt : j < (tvAts y).length := by rw [← hc1]; have := (List.getElem?_eq_some_iff.1 hj).1; simpa using this
    exact (hc2 j _ u (List.getElem?_eq_getElem hlt) (by simpa using hj)).1
  have hcl : v.cells.toList.length = (tvAts y).length := by simpa using hc1
  have hst := run_storeCells_at (P := C.P) (E.β l) off e v.cells.toList 0 vals w g1 (by rw [hcl, g2]; omega) h1c
  have hsp : (vals.toList.take (off + 0) ++ v.cells.toList ++ vals.toList.drop (off + 0 + v.cells.toList.length)) = splice vals.toList off v.cells.toList := by simp [splice]
  rw [hsp] at hst
  have hb1 : off + v.cells.toList.length ≤ vals.toList.length := by rw [hcl]; simp; omega
  have hb2 : off + (tvAts y).length ≤ cs.length := by omega
  have hmem : ∀ c ∈ splice cs off (tvAts y), ∀ m ∈ c.ids, U m := by
    intro c hc m hm
    simp only [splice, List.mem_append] at hc
    rcases hc with (hc | hc) | hc
    · exact hids c (List.mem_of_mem_take hc) m hm
    · exact hci c hc m hm
    · exact hids c (List.mem_of_mem_drop hc) m hm
  obtain ⟨hM, hTr⟩ := hS.mem.stLoc hS.ids.mem hcs (cs' := splice cs off (tvAts y)) (vals' := (splice vals.toList off v.cells.toList).toArray) (e' := e) (w1 := w.setRow (E.β l) (splice vals.toList off v.cells.toList).toArray)
    rfl rfl rfl (by simp) (fun x hx => setRow_other w _ x _ hx) (setRow_heap w _ _ _ e _ g1)
    (by rw [splice_len cs off _ hb2, List.size_toArray, splice_len _ _ _ hb1]; simpa using g2)
    (fun j c u hc hu => by
      simp only [List.getElem?_toArray] at hu
      by_cases hj : off ≤ j ∧ j < off + (tvAts y).length
      · rw [splice_in cs off _ hb2 j hj.1 hj.2] at hc
        rw [splice_in _ off _ hb1 j hj.1 (by rw [hcl]; exact hj.2)] at hu
        exact hc2 (j - off) c u hc (by simpa using hu)
      · rw [splice_out cs off _ hb2 j (by omega)] at hc
        rw [splice_out _ off _ hb1 j (by rw [hcl]; omega)] at hu
        exact g3 j c u hc (by simpa using hu)) hmem
  refine goes_mem hS (v := undef) (mv := .und) (n := .skip) ?_ (.inr ⟨rfl, rfl⟩) hM hTr rfl rfl rfl (fun n R hn => .inl (hS.ids.ro n R hn)) ?_ rfl ?_
  · have hsz : v.cells.size = tys.length := by rw [hc1, hlen]
    simp [execOp, ho, Instr.storeAt, hap, Instr.sureAddr, storeVar, run_size (hC.cty T agg tys hT), hv, hsz, hst]
  · intro n cs' hn
    simp only [aget] at hn
    split at hn
    · rename_i he; simp only [beq_iff_eq] at he; subst he; cases hn; exact ⟨.inl hUl, fun c hc m hm => .inl (hmem c hc m hm)⟩
    · exact ⟨.inl (hS.ids.lo n cs' hn).1, fun a ha m hm => .inl ((hS.ids.lo n cs' hn).2 a ha m hm)⟩
  · intro n hn
    simp [MV.ids, mvAts] at hn

/-- New slices: one, at number 'id'. -/
theorem goes_new (hS : Sim w0 S0 U st E ts sv w) {o : Oper} {id : Nat} (hid : ∀ n, Mine id n → ¬ U n) {t : Ty} {l : List t.den} {c : Bool} {v : Value} {S : BSet}
    (hr : (execOp ({ tmps := ts, defers := [] } : Act).eval o).run C.P w = .ok (.value v) w1)
    (hos : w1.os = w.os) (htp : w1.tape = w.tape) (hout : w1.output = w.output) (hsz : w.heap.size ≤ w1.heap.size) (hkeep : ∀ x, x < w.heap.size → w1.heap[x]? = w.heap[x]?)
    (hrep : Rep true w1 v (.s t l) S) (hfresh : ∀ x, S x → w.heap.size ≤ x ∧ x < w1.heap.size) :
    Goes C w0 S0 U st ts sv w o id (fun st => st.apply o.dst { c, v := .v (.at (.sl id [])), ro := [(id, newRoot t l)] }) := by
  have hnid := hid id (mine_self id)
  obtain ⟨hM, hT⟩ := hS.mem.addRoots hS.ids.mem (dro := [(id, newRoot t l)]) (w1 := w1) (E1 := { E with ρ := fun n => if n = id then v else E.ρ n, φ := fun n => if n = id then S else E.φ n })
    hos htp hout hsz hkeep (fun r R hr => by
      simp only [aget] at hr
      split at hr
      · rename_i he
        simp only [beq_iff_eq] at he
        subst he
        cases hr
        exact ⟨hnid, rfl, rfl, by simpa [newRoot] using hrep, fun x hx => hfresh x (by simpa using hx)⟩
      · cases hr)
    (fun r R r' R' h1 h2 hne => by
      simp only [aget] at h1 h2
      split at h1
      · split at h2
        · rename_i e1 e2
          simp only [beq_iff_eq] at e1 e2
          exact absurd (e1.symm.trans e2) hne
        · cases h2
      · cases h1)
    (fun n hn => by
      have : n ≠ id := fun e => hnid (e ▸ hn)
      simp [this])
  obtain ⟨⟨a, cap, hv, _⟩, _⟩ := hrep.len
  refine goes_mem hS hr (.inl rfl) hM hT rfl rfl rfl ?_ (fun n cs hn => ⟨.inl (hS.ids.lo n cs hn).1, fun a ha m hm => .inl ((hS.ids.lo n cs hn).2 a ha m hm)⟩) ?_ ?_
  · intro n R hn
    simp only [List.cons_append, List.nil_append, aget] at hn
    split at hn
    · rename_i he; simp only [beq_iff_eq] at he; subst he; exact .inr (mine_self _)
    · exact .inl (hS.ids.ro n R hn)
  · exact ⟨⟨a, _, cap, hv⟩, fun R hR => by simp [hdrAt]⟩
  · intro n hn
    rw [ids_at] at hn
    simp only [At.ids, atIds, atLids, List.append_nil, List.mem_singleton] at hn
    subst hn
    exact .inr (mine_self _)

theorem s_nil (hS : Sim w0 S0 U st E ts sv w) {o : Oper} {id : Nat} (hid : ∀ n, Mine id n → ¬ U n) {t : Ty} (ho : o.op = .move (.const (.slice none 0 0)) ∨ o.op = .assign (.const (.slice none 0 0))) :
    Goes C w0 S0 U st ts sv w o id (fun st => st.apply o.dst { v := .v (.at (.sl id [])), ro := [(id, newRoot t [])] }) := by
  refine goes_new hS hid (v := .slice none 0 0) (S := fun _ => False) (w1 := w) ?_ rfl rfl rfl (Nat.le_refl _) (fun _ _ => rfl) (.nil t _) (fun x hx => hx.elim)
  rcases ho with ho | ho <;> simp [execOp, ho, Act.eval]

def zeroCV : CTy → CV
  | .i k => .i k 0
  | .b => .b false
  | .s t => .s t []

theorem dflt_cells (t : Ty) : t.cells t.dflt = t.shape.map zeroCV := by cases t <;> rfl

theorem rep_zero (o : Bool) (w : World) (c : CTy) (S : BSet) : Rep o w (zeroV c) (zeroCV c) S := by
  cases c with
  | i k => exact .i k 0 S
  | b => exact .b false S
  | s t => exact .nil t S

theorem ty_width_pos (t : Ty) : 0 < t.width := by cases t <;> simp [Ty.width]

theorem madeCells_at {z : Array Value} {t : Ty} (hz : z.toList = t.shape.map zeroV) {n i j : Nat} (hi : i < n) (hj : j < t.width) :
    ∃ c, t.shape[j]? = some c ∧ (madeCells z (n * t.width))[i * t.width + j]? = some (zeroV c) := by
  have hw : z.size = t.width := by rw [← Array.length_toList, hz]; simp [shape_len]
  have hjs : j < t.shape.length := by rw [shape_len]; exact hj
  refine ⟨t.shape[j], by simp [hjs], ?_⟩
  have hlt : i * t.width + j < n * t.width := by
    have : (i + 1) * t.width ≤ n * t.width := Nat.mul_le_mul_right _ hi
    rw [Nat.succ_mul] at this
    omega
  have hm : (i * t.width + j) % t.width = j := by
    rw [Nat.add_comm, Nat.add_mul_mod_self_right, Nat.mod_eq_of_lt hj]
  have hzj : z[j]! = zeroV t.shape[j] := by
    have h1 : z.toList[j]? = some (zeroV t.shape[j]) := by rw [hz]; simp [hjs]
    have h2 : z[j]? = some (zeroV t.shape[j]) := by simpa using h1
    rw [getElem!_def, h2]
  unfold madeCells
  rw [Array.getElem?_map, Array.getElem?_range]
  simp [hlt, hw, hm, hzj]

theorem few_iff {n : Int} (h : few n = true) : 0 ≤ n ∧ n ≤ 2147483648 := of_decide_eq_true h

theorem s_makeSlice (hC : CfgOk C) (hS : Sim w0 S0 U st E ts sv w) {o : Oper} {id : Nat} (hid : ∀ n, Mine id n → ¬ U n) {T : TypeId} {x y : Operand} {d : Dl} (ho : o.op = .makeSlice T x y)
    (h : delta C st o id = some d) (hc : d.c = true) : Goes C w0 S0 U st ts sv w o id (fun st => st.apply o.dst d) := by
  simp only [delta, ho] at h
  split at h
  · rename_i t n m hT h1 h2
    cases h
    have hx := (at_sound hS h1).1
    have hy := (at_sound hS h2).1
    simp only [VA] at hx hy
    simp only [Bool.and_eq_true, ieq, beq_iff_eq] at hc
    obtain ⟨hf, rfl⟩ := hc
    obtain ⟨h0, hbig⟩ := few_iff hf
    obtain ⟨e, hE⟩ := hC.sty T t hT
    obtain ⟨i, z, hi, hs, hz, hzc, hby⟩ := hE.info
    have hb2 : (i.bytes : Int) * n ≤ 281474976710656 := by
      have : (i.bytes : Int) * n ≤ 1024 * 2147483648 := Int.mul_le_mul (by omega) hbig h0 (by omega)
      omega
    have hr := run_make (P := C.P) w T e i z hE.und hi hz .i64 .i64 n n h0 (Int.le_refl _) hb2 (by omega)
    rw [hs] at hr
    have hnn : n.toNat ≤ 2147483648 := by omega
    have hsz := size_madeCells z.cells (n.toNat * t.width)
    refine goes_new hS hid (S := fun x => x = w.heap.size) (w1 := w.alloc (.cells (madeCells z.cells (n.toNat * t.width)) e)) (v := .slice (some ⟨w.heap.size, 0, none⟩) n.toNat n.toNat) ?_ rfl rfl rfl (by simp) (fun x hx => heap_alloc_old w _ x hx) ?_ (fun x hx => by subst hx; simp)
    · simp [execOp, ho, hx, hy, hr]
    · have hlen : (rp n t.dflt).length = n.toNat := by simp [rp]
      have := Rep.sl (o := true) (w := w.alloc (.cells (madeCells z.cells (n.toNat * t.width)) e)) t (rp n t.dflt) w.heap.size 0 n.toNat (madeCells z.cells (n.toNat * t.width)) e (0, 0)
        (fun _ j => ((t.shape[j]?).map zeroV).getD undef) (fun _ _ _ => False) (fun x => x = w.heap.size) (heap_alloc_new w _) (fun _ => rfl) (by rw [hlen]; simp only [big]; omega) (by rw [hlen]; exact Nat.le_refl _) (by rw [hsz]; omega) rfl
        (fun _ _ _ _ _ h => h.elim) (fun _ _ _ _ _ _ _ _ _ _ h => h.elim) (fun i j hi hj => by
          rw [hlen] at hi
          obtain ⟨c, h1, h2⟩ := madeCells_at hzc hi hj
          rw [Nat.zero_add, h2, h1]; rfl)
        (fun i x hx j c hcj => by
          simp only [rp] at hx
          rw [List.getElem?_replicate] at hx
          split at hx
          · cases hx
            rw [dflt_cells, List.getElem?_map] at hcj
            cases hcc : t.shape[j]? with
            | none => rw [hcc] at hcj; cases hcj
            | some ct =>
              rw [hcc] at hcj
              cases hcj
              exact rep_zero true _ ct _
          · cases hx)
      rw [hlen] at this
      exact this
  · cases h

end
end Go.Proofs.Ytcfnaifggdelnaa.E
