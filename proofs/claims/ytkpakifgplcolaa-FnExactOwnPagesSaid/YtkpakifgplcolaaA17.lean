/- What is proved here: contracts of the functions that tell which pages a machine owns. -/
import Derived.Test.YtkpakifgplcolaaA8
import Derived.Test.YtkpakifgplcolaaA6
import Derived.Test.YtkpakifgplcolaaN2
import Derived.Test.YtkpakifgplcolaaN3
import Derived.KernelRfl
namespace Go.Proofs.Ytkpakifgplcolaa.E
open Go
set_option maxRecDepth 100000
set_option linter.unusedVariables false
set_option linter.unusedSimpArgs false
set_option linter.unusedSectionVars false

/-! Numbers are put into an ascending list. -/
def putM : Nat := 1073741824
theorem few_le {α : Type} {l : List α} (h : l.length ≤ 2147483648) : few (ln l) = true := few_ln h
theorem putA_drop {l : List Int} {i : Nat} {n : Int} (hi : i < l.length) (h1 : ¬ l[i] < n) : l.take i ++ putA (l.drop i) n = if l[i] = n then l else l.take i ++ [n] ++ l.drop i := by
  rw [List.drop_eq_getElem_cons hi]
  unfold putA
  rw [if_neg h1]
  split
  · rw [← List.drop_eq_getElem_cons hi, List.take_append_drop]
  · simp
noncomputable def s_l30Put_c (l : List Int) (_ : Int) : Bool := pc (l.length ≤ putM)
@[reducible] def s_l30Put (l : List Int) (n : Int) : List Int := putA l n
noncomputable def run_s_l30Put : List AV → Option (Bool × List AV)
  | [.one (.s .int a0), .one (.i .i64 a1)] => some ((s_l30Put_c a0 a1), [.one (.s .int (s_l30Put a0 a1))])
  | _ => none

noncomputable def E_s_l30Put (N : Nat) (a0 : List Int) (a1 : Int) : Option Ans :=
  (iter (σ := (Int × (Int × ((List Int) × Unit)))) N (fun r3 s4 => (bif (ilt s4.2.1 (ln s4.2.2.1)) then (bif (inb s4.2.1 (ln s4.2.2.1)) then (bif (ilt (ix s4.2.2.1 s4.2.1 0) s4.1) then (r3 (s4.1, ((wadd .i64 s4.2.1 1), (s4.2.2.1, ())))) else (bif (ilt s4.2.1 (ln s4.2.2.1)) then (bif (inb s4.2.1 (ln s4.2.2.1)) then (bif (ieq (ix s4.2.2.1 s4.2.1 0) s4.1) then (some [(.one (.s .int s4.2.2.1))]) else (bif (inr 0 s4.2.1 (ln s4.2.2.1)) then (bif (few (ln (ap [] (tk s4.2.2.1 s4.2.1)))) then (bif (few (ln (ap (ap [] (tk s4.2.2.1 s4.2.1)) [s4.1]))) then (bif (inr s4.2.1 (ln s4.2.2.1) (ln s4.2.2.1)) then (bif (few (ln (ap (ap (ap [] (tk s4.2.2.1 s4.2.1)) [s4.1]) (dp s4.2.2.1 s4.2.1)))) then (some [(.one (.s .int (ap (ap (ap [] (tk s4.2.2.1 s4.2.1)) [s4.1]) (dp s4.2.2.1 s4.2.1))))]) else none) else none) else none) else none) else none)) else none) else (bif (inr 0 s4.2.1 (ln s4.2.2.1)) then (bif (few (ln (ap [] (tk s4.2.2.1 s4.2.1)))) then (bif (few (ln (ap (ap [] (tk s4.2.2.1 s4.2.1)) [s4.1]))) then (bif (inr s4.2.1 (ln s4.2.2.1) (ln s4.2.2.1)) then (bif (few (ln (ap (ap (ap [] (tk s4.2.2.1 s4.2.1)) [s4.1]) (dp s4.2.2.1 s4.2.1)))) then (some [(.one (.s .int (ap (ap (ap [] (tk s4.2.2.1 s4.2.1)) [s4.1]) (dp s4.2.2.1 s4.2.1))))]) else none) else none) else none) else none) else none))) else none) else (bif (ilt s4.2.1 (ln s4.2.2.1)) then (bif (inb s4.2.1 (ln s4.2.2.1)) then (bif (ieq (ix s4.2.2.1 s4.2.1 0) s4.1) then (some [(.one (.s .int s4.2.2.1))]) else (bif (inr 0 s4.2.1 (ln s4.2.2.1)) then (bif (few (ln (ap [] (tk s4.2.2.1 s4.2.1)))) then (bif (few (ln (ap (ap [] (tk s4.2.2.1 s4.2.1)) [s4.1]))) then (bif (inr s4.2.1 (ln s4.2.2.1) (ln s4.2.2.1)) then (bif (few (ln (ap (ap (ap [] (tk s4.2.2.1 s4.2.1)) [s4.1]) (dp s4.2.2.1 s4.2.1)))) then (some [(.one (.s .int (ap (ap (ap [] (tk s4.2.2.1 s4.2.1)) [s4.1]) (dp s4.2.2.1 s4.2.1))))]) else none) else none) else none) else none) else none)) else none) else (bif (inr 0 s4.2.1 (ln s4.2.2.1)) then (bif (few (ln (ap [] (tk s4.2.2.1 s4.2.1)))) then (bif (few (ln (ap (ap [] (tk s4.2.2.1 s4.2.1)) [s4.1]))) then (bif (inr s4.2.1 (ln s4.2.2.1) (ln s4.2.2.1)) then (bif (few (ln (ap (ap (ap [] (tk s4.2.2.1 s4.2.1)) [s4.1]) (dp s4.2.2.1 s4.2.1)))) then (some [(.one (.s .int (ap (ap (ap [] (tk s4.2.2.1 s4.2.1)) [s4.1]) (dp s4.2.2.1 s4.2.1))))]) else none) else none) else none) else none) else none)))) (a1, (0, (a0, ()))))

def tms_s_l30Put : FuncId → Nat → Option Tmpl := tmsOf [(17, 0, { n := 47, tm := [(0, .sl 0 []), (1, .i .i64), (5, .i .i64)], lo := [], ro := [(0, .int, true)] })]

theorem nf_s_l30Put (N : Nat) (a0 : List Int) (a1 : Int) : evalT (cfgQ (aget ctrU) (aget mctC) (aget pct0) (aget tct0)) tms_s_l30Put N 12 17 [true, false] [.one (.s .int a0), .one (.i .i64 a1)] = E_s_l30Put N a0 a1 := by kernel_rfl

theorem law_s_l30Put (a0 : List Int) (a1 : Int) (hb : AllB big [.one (.s .int a0), .one (.i .i64 a1)]) (hc : (s_l30Put_c a0 a1) = true) : ∃ N, E_s_l30Put N a0 a1 = some [.one (.s .int (s_l30Put a0 a1))] := by
  have hs : a0.length ≤ 1073741824 := pc_iff.1 hc
  have hl : a0.length ≤ big := by rw [big_val]; omega
  refine ⟨NN, ?_⟩
  have hNN : ∀ {n : Nat}, n ≤ big → n < NN := fun h => NN_lt h
  generalize NN = N at hNN ⊢
  unfold E_s_l30Put
  have hput : ∀ i, i ≤ a0.length → few (ln (ap [] (tk a0 (i : Int)))) = true ∧ few (ln (ap (ap [] (tk a0 (i : Int))) [a1])) = true ∧ few (ln (ap (ap (ap [] (tk a0 (i : Int))) [a1]) (dp a0 (i : Int)))) = true ∧ ap (ap (ap [] (tk a0 (i : Int))) [a1]) (dp a0 (i : Int)) = a0.take i ++ [a1] ++ a0.drop i := by
    intro i hi
    have e : ((i : Int)).toNat = i := by omega
    refine ⟨few_le ?_, few_le ?_, few_le ?_, ?_⟩ <;> simp [ap, tk, dp, e] <;> omega
  refine (iter_to a0.length (fun i (_ : Unit) => (a1, ((i : Int), (a0, ())))) _ (fun _ _ => True) (fun i _ => some [AV.one (.s .int (a0.take i ++ putA (a0.drop i) a1))]) (fun i t rec hi _ hr => ?_) (fun t rec _ => ?_) _ 0 () trivial (Nat.zero_le _) (hNN (by omega))).trans ?_
  · obtain ⟨p1, p2, p3, p4⟩ := hput i (Nat.le_of_lt hi)
    have r1 : inr 0 (i : Int) (ln a0) = true := decide_eq_true (by simp only [ln]; omega)
    have r2 : inr (i : Int) (ln a0) (ln a0) = true := decide_eq_true (by simp only [ln]; omega)
    rw [p4] at p3
    simp only [ilt_ln hi, inb_ln hi, ix_ln hi, cT, wadd_up hi hl, p1, p2, p3, p4, r1, r2]
    cases h1 : ilt a0[i] a1
    · have h1' := of_decide_eq_false h1
      rw [putA_drop hi h1']
      cases h2 : ieq a0[i] a1
      · rw [if_neg (of_decide_eq_false h2)]
        rfl
      · rw [if_pos (of_decide_eq_true h2)]
        rfl
    · have h1' := of_decide_eq_true h1
      simp only [cT]
      refine (hr () trivial).trans ?_
      rw [List.drop_eq_getElem_cons hi, List.take_succ_eq_append_getElem hi]
      show _ = some [AV.one (.s .int (a0.take i ++ putA (a0[i] :: a0.drop (i + 1)) a1))]
      rw [putA, if_pos h1', List.append_assoc, List.singleton_append]
  · obtain ⟨p1, p2, p3, p4⟩ := hput a0.length (Nat.le_refl _)
    have r1 : inr 0 ((a0.length : Nat) : Int) (ln a0) = true := decide_eq_true (by simp only [ln]; omega)
    have r2 : inr ((a0.length : Nat) : Int) (ln a0) (ln a0) = true := decide_eq_true (by simp only [ln]; omega)
    rw [p4] at p3
    simp only [ilt_end, cF, cT, p1, p2, p3, p4, r1, r2]
    simp [putA]
  · simp
theorem holds_s_l30Put : HoldsT Try.prog 17 [true, false] none run_s_l30Put := by
  refine holdsT_of_eval (engQ_ok ctrU_ok mctC_ok pct0_ok tct0_ok) (fn_ok (by kernel_rfl)) ?_
  intro avs rs hl hr h
  have hb := allB_of_repT hr
  unfold run_s_l30Put at h
  split at h
  · rename_i a0 a1
    obtain ⟨hc, rfl⟩ := some_pair h
    obtain ⟨N, hN⟩ := law_s_l30Put a0 a1 hb hc
    exact ⟨tms_s_l30Put, N, 12, (nf_s_l30Put N a0 a1).trans hN⟩
  · cases h

noncomputable def tctA : Tcts := [(22, ([true], none, run_i_ascending)), (17, ([true, false], none, run_s_l30Put))] ++ tct0

theorem tctA_ok : ∀ f own inp run, aget tctA f = some (own, inp, run) → HoldsT Try.prog f own inp run := tct_more tct0_ok (by
  intro x hx
  simp only [List.mem_cons, List.not_mem_nil, or_false] at hx
  rcases hx with rfl | rfl
  · exact holds_i_ascending
  · exact holds_s_l30Put)


/-! What is picked out of a list. -/
def picks {α : Type} (f : Nat → α → Option Int) : List α → Nat → List Int
  | [], _ => []
  | x :: l, i => match f i x with
    | some n => n :: picks f l (i + 1)
    | none => picks f l (i + 1)
theorem picks_len {α : Type} (f : Nat → α → Option Int) : ∀ (l : List α) (i : Nat), (picks f l i).length ≤ l.length
  | [], _ => Nat.le_refl _
  | x :: l, i => by
    have := picks_len f l (i + 1)
    unfold picks
    split <;> simp <;> omega
noncomputable def putB {ρ : Type} (o : Option Int) (t : List Int) (κ : List Int → Option ρ) : Option ρ := match o with
  | some n => bif s_l30Put_c t n then κ (putA t n) else none
  | none => κ t
def appB {ρ : Type} (o : Option Int) (t : List Int) (κ : List Int → Option ρ) : Option ρ := match o with
  | some n => bif few (ln (ap t [n])) then κ (ap t [n]) else none
  | none => κ t
theorem goL_put {α ρ : Type} (f : Nat → α → Option Int) (K : List Int → Option ρ) : ∀ (l : List α) (i : Nat) (t : List Int), t.length + l.length ≤ putM →
    goL (fun i x t κ => putB (f i x) t κ) K l i t = K (putAll t (picks f l i))
  | [], _, _, _ => rfl
  | x :: l, i, t, h => by
    simp only [List.length_cons] at h
    simp only [goL, putB, picks]
    cases f i x with
    | none => exact goL_put f K l (i + 1) t (by omega)
    | some n =>
      have hc : s_l30Put_c t n = true := pc_true (by omega)
      have := putA_len t n
      simp only [hc, cT]
      exact goL_put f K l (i + 1) (putA t n) (by omega)
theorem goL_app {α ρ : Type} (f : Nat → α → Option Int) (K : List Int → Option ρ) : ∀ (l : List α) (i : Nat) (t : List Int), t.length + l.length ≤ 2147483648 →
    goL (fun i x t κ => appB (f i x) t κ) K l i t = K (t ++ picks f l i)
  | [], _, _, _ => by simp [goL, picks]
  | x :: l, i, t, h => by
    simp only [List.length_cons] at h
    simp only [goL, appB, picks]
    cases f i x with
    | none => exact goL_app f K l (i + 1) t (by omega)
    | some n =>
      simp only [few_le (show (ap t [n]).length ≤ 2147483648 by simp [ap]; omega), cT]
      refine (goL_app f K l (i + 1) (ap t [n]) (by simp [ap]; omega)).trans ?_
      simp [ap]
theorem putAll_len : ∀ (xs t : List Int), (putAll t xs).length ≤ t.length + xs.length
  | [], _ => Nat.le_refl _
  | x :: xs, t => by
    have := putAll_len xs (putA t x)
    have := putA_len t x
    simp only [putAll, List.foldl_cons, List.length_cons] at *
    omega

end Go.Proofs.Ytkpakifgplcolaa.E
