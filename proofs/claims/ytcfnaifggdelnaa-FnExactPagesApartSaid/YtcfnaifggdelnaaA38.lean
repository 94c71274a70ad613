/- What is proved here: the contract of the reference's PagesApart. -/
import Derived.Test.YtcfnaifggdelnaaA8
import Derived.Test.YtcfnaifggdelnaaN4
import Derived.KernelRfl
namespace Go.Proofs.Ytcfnaifggdelnaa.E
open Go
set_option maxRecDepth 100000
set_option linter.unusedVariables false
set_option linter.unusedSimpArgs false
/-- Numbers so far, in the order in which they came. -/
def spS : List Slot → List Int → Option (List Int)
  | [], u => some u
  | s :: l, u => bif ieq s.Page (-1) then spS l u else (bif u.any (fun z => ieq z s.Page) then none else spS l (ap u [s.Page]))
def spM : List Mon → List Int → Bool
  | [], _ => true
  | m :: l, u => match spS m.Outer u with
    | none => false
    | some v => spM l v
def outersN : List Mon → Nat
  | [] => 0
  | m :: l => m.Outer.length + outersN l
theorem ieq_iff {x y : Int} : (ieq x y = true) ↔ x = y := by simp [ieq]
theorem any_rev (u : List Int) (p : Int) : u.any (fun z => ieq z p) = u.reverse.contains p := by
  cases h : u.any (fun z => ieq z p)
  · have : ¬ u.reverse.contains p = true := fun hc => by
      rw [List.any_eq_false] at h
      have hm : p ∈ u := by simpa using hc
      exact h p hm (by simp [ieq])
    cases hc : u.reverse.contains p
    · rfl
    · exact absurd hc this
  · obtain ⟨z, hz, e⟩ := List.any_eq_true.1 h
    rw [ieq_iff.1 e] at hz
    simpa using hz
theorem spS_ap : ∀ (l : List Slot) (u : List Int), apS (pairs l) u.reverse = (spS l u).map List.reverse
  | [], u => rfl
  | s :: l, u => by
    show (if s.Page = -1 then apS (pairs l) u.reverse else if u.reverse.contains s.Page then none else apS (pairs l) (s.Page :: u.reverse)) = _
    unfold spS
    rw [any_rev]
    by_cases h : s.Page = -1
    · rw [if_pos h, ieq_iff.2 h, cT]
      exact spS_ap l u
    · rw [if_neg h, show ieq s.Page (-1) = false from by simp [ieq, h], cF]
      cases hc : u.reverse.contains s.Page
      · have := spS_ap l (ap u [s.Page])
        rw [show (ap u [s.Page]).reverse = s.Page :: u.reverse from by simp [ap]] at this
        simpa using this
      · rfl
theorem spM_ap : ∀ (l : List Mon) (u : List Int), apM (l.map fun (m : Mon) => pairs m.Outer) u.reverse = spM l u
  | [], u => rfl
  | m :: l, u => by
    show (match apS (pairs m.Outer) u.reverse with | none => false | some v => apM (l.map fun (m : Mon) => pairs m.Outer) v) = _
    rw [spS_ap]
    unfold spM
    cases spS m.Outer u with
    | none => rfl
    | some v => exact spM_ap l v
theorem apart_sp (h : Host) : pagesApart h = spM h.Mons [] := spM_ap h.Mons []
theorem spS_at {l : List Slot} {j : Nat} (hj : j < l.length) (u : List Int) : spS (l.drop j) u = bif ieq l[j].Page (-1) then spS (l.drop (j + 1)) u else (bif u.any (fun z => ieq z l[j].Page) then none else spS (l.drop (j + 1)) (ap u [l[j].Page])) := by
  rw [List.drop_eq_getElem_cons hj]
  rfl
theorem outersN_at {l : List Mon} {i : Nat} (hi : i < l.length) : outersN (l.drop i) = l[i].Outer.length + outersN (l.drop (i + 1)) := by
  rw [List.drop_eq_getElem_cons hi]
  rfl
def resP (x : Option (List Int)) (l : List Mon) : Option Ans := some [AV.one (.b (match x with | none => false | some v => spM l v))]
def ApOk (h : Host) : Prop := SmHost h ∧ outersN h.Mons ≤ 16777216
@[simp, reducible] noncomputable def s_PagesApart_c (h : Host) : Bool := pc (ApOk h)
@[simp, reducible] def s_PagesApart (h : Host) : Bool := pagesApart h
noncomputable def run_s_PagesApart : List AV → Option (Bool × List AV)
  | [.agg [.s (.sl .int) a0_0, .s .mon a0_1, .s .entry a0_2, .s .entry a0_3]] => some ((s_PagesApart_c (⟨a0_0, a0_1, a0_2, a0_3⟩ : Host)), [.one (.b (s_PagesApart (⟨a0_0, a0_1, a0_2, a0_3⟩ : Host)))])
  | _ => none

noncomputable def E_s_PagesApart (N : Nat) (a0 : Host) : Option Ans :=
  (iter (σ := (Int × ((List Int) × ((List (List Int)) × ((List Mon) × ((List Entry) × ((List Entry) × Unit))))))) N (fun r2 s3 => (bif (ilt s3.1 (ln s3.2.2.2.1)) then (iter (σ := (Int × (Int × ((List Int) × ((List (List Int)) × ((List Mon) × ((List Entry) × ((List Entry) × Unit)))))))) N (fun r4 s5 => (bif (inb s5.1 (ln s5.2.2.2.2.1)) then (bif (ilt s5.2.1 (ln (ix s5.2.2.2.2.1 s5.1 (Ty.dflt .mon)).Outer)) then (bif (inb s5.1 (ln s5.2.2.2.2.1)) then (bif (inb s5.2.1 (ln (ix s5.2.2.2.2.1 s5.1 (Ty.dflt .mon)).Outer)) then (bif (ieq (ix (ix s5.2.2.2.2.1 s5.1 (Ty.dflt .mon)).Outer s5.2.1 (Ty.dflt .slot)).Page (-1)) then (r4 (s5.1, ((wadd .i64 s5.2.1 1), (s5.2.2.1, (s5.2.2.2.1, (s5.2.2.2.2.1, (s5.2.2.2.2.2.1, (s5.2.2.2.2.2.2.1, ())))))))) else (iter (σ := (Int × (Int × (Int × (Int × ((List Int) × ((List (List Int)) × ((List Mon) × ((List Entry) × ((List Entry) × Unit)))))))))) N (fun r6 s7 => (bif (ilt s7.2.2.2.1 (ln s7.2.2.2.2.1)) then (bif (inb s7.2.2.2.1 (ln s7.2.2.2.2.1)) then (bif (ieq (ix s7.2.2.2.2.1 s7.2.2.2.1 0) s7.2.2.1) then (some [(.one (.b false))]) else (r6 (s7.1, (s7.2.1, (s7.2.2.1, ((wadd .i64 s7.2.2.2.1 1), (s7.2.2.2.2.1, (s7.2.2.2.2.2.1, (s7.2.2.2.2.2.2.1, (s7.2.2.2.2.2.2.2.1, (s7.2.2.2.2.2.2.2.2.1, ()))))))))))) else none) else (bif (few (ln (ap s7.2.2.2.2.1 [s7.2.2.1]))) then (r4 (s7.1, ((wadd .i64 s7.2.1 1), ((ap s7.2.2.2.2.1 [s7.2.2.1]), (s7.2.2.2.2.2.1, (s7.2.2.2.2.2.2.1, (s7.2.2.2.2.2.2.2.1, (s7.2.2.2.2.2.2.2.2.1, ())))))))) else none))) (s5.1, (s5.2.1, ((ix (ix s5.2.2.2.2.1 s5.1 (Ty.dflt .mon)).Outer s5.2.1 (Ty.dflt .slot)).Page, (0, (s5.2.2.1, (s5.2.2.2.1, (s5.2.2.2.2.1, (s5.2.2.2.2.2.1, (s5.2.2.2.2.2.2.1, ()))))))))))) else none) else none) else (r2 ((wadd .i64 s5.1 1), (s5.2.2.1, (s5.2.2.2.1, (s5.2.2.2.2.1, (s5.2.2.2.2.2.1, (s5.2.2.2.2.2.2.1, ())))))))) else none)) (s3.1, (0, (s3.2.1, (s3.2.2.1, (s3.2.2.2.1, (s3.2.2.2.2.1, (s3.2.2.2.2.2.1, ())))))))) else (some [(.one (.b true))]))) (0, ([], (a0.Memory, (a0.Mons, (a0.Buffer, (a0.IoBuffer, ())))))))

def tms_s_PagesApart : FuncId → Nat → Option Tmpl := tmsOf [(5, 0, { n := 55, tm := [(1, .lp 0 0), (3, .sl 0 []), (4, .i .i64)], lo := [(0, [.sl 1 [], .sl 2 [], .sl 3 [], .sl 4 []])], ro := [(0, .int, true), (1, (.sl .int), false), (2, .mon, false), (3, .entry, false), (4, .entry, false)] }), (5, 2, { n := 55, tm := [(1, .lp 0 0), (3, .sl 0 []), (4, .i .i64), (5, .i .i64)], lo := [(0, [.sl 1 [], .sl 2 [], .sl 3 [], .sl 4 []])], ro := [(0, .int, true), (1, (.sl .int), false), (2, .mon, false), (3, .entry, false), (4, .entry, false)] }), (5, 4, { n := 55, tm := [(1, .lp 0 0), (3, .sl 0 []), (4, .i .i64), (5, .i .i64), (6, .i .i64), (7, .i .i64)], lo := [(0, [.sl 1 [], .sl 2 [], .sl 3 [], .sl 4 []])], ro := [(0, .int, true), (1, (.sl .int), false), (2, .mon, false), (3, .entry, false), (4, .entry, false)] })]

theorem nf_s_PagesApart (N : Nat) (a0 : Host) : evalFn (cQ ctr0 mct0 pct0 tct0) tms_s_PagesApart N 12 5 [.agg (hostC a0)] = E_s_PagesApart N a0 := by kernel_rfl

theorem law_s_PagesApart (a0 : Host) (hb : AllB big [.agg (hostC a0)]) (hc : (s_PagesApart_c a0) = true) : ∃ N, E_s_PagesApart N a0 = some [.one (.b (s_PagesApart a0))] := by
  obtain ⟨hs, hn⟩ := pc_iff.1 hc
  have hl := sm_big hs.mons.len
  refine ⟨NN, ?_⟩
  have hNN : ∀ {n : Nat}, n ≤ big → n < NN := fun h => NN_lt h
  generalize NN = N at hNN ⊢
  unfold E_s_PagesApart
  show _ = some [AV.one (.b (pagesApart a0))]
  rw [apart_sp]
  refine (iter_to a0.Mons.length (fun i (t : List Int) => ((i : Int), (t, (a0.Memory, (a0.Mons, (a0.Buffer, (a0.IoBuffer, ()))))))) _ (fun i t => t.length + outersN (a0.Mons.drop i) ≤ 16777216) (fun i t => some [AV.one (.b (spM (a0.Mons.drop i) t))]) (fun i t rec hi hI hr => ?_) (fun t rec hI => ?_) N 0 [] (by simpa using hn) (Nat.zero_le _) (hNN hl.1)).trans (by simp)
  · have ho : a0.Mons[i].Outer.length ≤ 1048576 := (hs.mons.inv.2 _ (List.getElem_mem hi) (.s .slot _) (by simp [Ty.cells])).len
    have hob : a0.Mons[i].Outer.length ≤ big := by rw [big_val]; omega
    rw [outersN_at hi] at hI
    simp only [ilt_ln hi, cT]
    refine (iter_to a0.Mons[i].Outer.length (fun j (u : List Int) => ((i : Int), ((j : Int), (u, (a0.Memory, (a0.Mons, (a0.Buffer, (a0.IoBuffer, ())))))))) _ (fun j u => u.length + (a0.Mons[i].Outer.length - j) + outersN (a0.Mons.drop (i + 1)) ≤ 16777216) (fun j u => resP (spS (a0.Mons[i].Outer.drop j) u) (a0.Mons.drop (i + 1))) (fun j u rec1 hj hJ hr1 => ?_) (fun u rec1 hJ => ?_) N 0 t (by omega) (Nat.zero_le _) (hNN hob)).trans ?_
    · simp only [inb_ln hi, ix_ln hi, ilt_ln hj, inb_ln hj, ix_ln hj, cT]
      rw [spS_at hj]
      have hw := wadd_up hj hob
      cases hp : ieq a0.Mons[i].Outer[j].Page (-1)
      · simp only [cF]
        have hu : u.length ≤ big := by rw [big_val]; omega
        refine (iter_list u (fun n (_ : Unit) => ((i : Int), ((j : Int), (a0.Mons[i].Outer[j].Page, ((n : Int), (u, (a0.Memory, (a0.Mons, (a0.Buffer, (a0.IoBuffer, ())))))))))) _ (fun _ z (_ : Unit) κ => bif ieq z a0.Mons[i].Outer[j].Page then some [AV.one (.b false)] else κ ()) (fun _ => rec1 ((i : Int), (((j + 1 : Nat) : Int), (ap u [a0.Mons[i].Outer[j].Page], (a0.Memory, (a0.Mons, (a0.Buffer, (a0.IoBuffer, ())))))))) (fun n hn' _ rec2 => ?_) (fun _ rec2 => ?_) N () (hNN hu)).trans ?_
        · simp only [ilt_ln hn', inb_ln hn', ix_ln hn', wadd_up hn' hu, cT]
        · simp only [ilt_end, cF, hw]
          rw [few_ln (by simp [ap]; omega), cT]
        · rw [goL_none (fun z => ieq z a0.Mons[i].Outer[j].Page), hr1 _ (by simp [ap]; omega)]
          cases u.any (fun z => ieq z a0.Mons[i].Outer[j].Page) <;> rfl
      · simp only [cT, hw]
        exact hr1 u (by omega)
    · simp only [inb_ln hi, ix_ln hi, ilt_end, cT, cF, wadd_up hi hl.1, List.drop_length]
      exact hr u (by simpa using hJ)
    · rw [List.drop_eq_getElem_cons hi]
      rfl
  · simp only [ilt_end, cF, List.drop_length]
    rfl
theorem holds_s_PagesApart : Holds Try.prog 5 run_s_PagesApart := holds_fn ctr0_ok mct0_ok pct0_ok tct0_ok (fn_ok (by kernel_rfl)) fun avs rs hb h => by
  unfold run_s_PagesApart at h
  split at h
  · obtain ⟨hc, rfl⟩ := some_pair h
    exact (fin1 law_s_PagesApart nf_s_PagesApart hc hb :)
  · cases h

theorem outersN_w : ∀ l : List Mon, (outersN l : Int) ≤ mcL mMon l
  | [] => by simp [outersN, mcL]
  | m :: l => by
    have h := outersN_w l
    have e : mMon m = mcL mSlot m.Outer + mcL mIntS m.Out + mcL mBool m.Dirty + mcL mGuest m.Guests + mcL mInt m.Outs + mcL mKept m.Tables + 3 := rfl
    have a1 : ∀ l : List Slot, (l.length : Int) ≤ mcL mSlot l := fun l => by
      induction l with
      | nil => simp [mcL]
      | cons s l ih =>
        have : mSlot s = 2 := rfl
        simp only [mcL, List.length_cons, this]
        omega
    have b1 := a1 m.Outer
    have a2 := mcL_nn MkIntS.nn m.Out
    have a3 := mcL_nn MkBool.nn m.Dirty
    have a4 := mcL_nn MkGuest.nn m.Guests
    have a5 := mcL_nn MkInt.nn m.Outs
    have a6 := mcL_nn MkKept.nn m.Tables
    simp only [outersN, mcL]
    omega
theorem apOk_sz {h : Host} {n : Int} (hs : SmHost h) (h0 : 0 ≤ n) (h1 : n ≤ 1048576) (hp : 0 ≤ l_szHost h n) : ApOk h := by
  refine ⟨hs, ?_⟩
  obtain ⟨hle, hw⟩ := W_Host h n h0 h1
  have hw := hw hp
  have n1 := mcL_nn MkIntS.nn h.Memory
  have n3 := mcL_nn MkEntry.nn h.Buffer
  have n4 := mcL_nn MkEntry.nn h.IoBuffer
  have hx := outersN_w h.Mons
  unfold mHost at hw
  omega
theorem pgWf_ok {h : Host} (ho : CVOk (.s .mon h.Mons)) : PgWf h := by
  intro m hm s hs
  cases ho with
  | s _ _ hl hc =>
    obtain ⟨i, hi⟩ := List.mem_iff_getElem?.1 hm
    have h2 := hc i m hi 0 (.s .slot m.Outer) rfl
    cases h2 with
    | s _ _ hl2 hc2 =>
      obtain ⟨j, hj⟩ := List.mem_iff_getElem?.1 hs
      have h3 := hc2 j s hj 0 (.i .i64 s.Page) rfl
      cases h3 with
      | i _ _ h4 =>
        unfold wf64 Lit.wf
        simp only [Bool.and_eq_true, decide_eq_true_iff]
        exact h4
noncomputable def ctrPA : Ctrs := [(5, run_s_PagesApart), (7, run_i_PagesApart)] ++ ctr22

theorem ctrPA_ok : CtrsOk ctrPA := ctr_cons holds_s_PagesApart (ctr_cons holds_i_PagesApart ctr22_ok)

end Go.Proofs.Ytcfnaifggdelnaa.E
