/- What is proved here: FnExactSteps: for every input the law returns true, and each argument reads afterwards as it read before. -/
import Derived.Test.YtifcepopacbidaaA1
import Derived.Test.YtifcepopacbidaaP2
namespace Go.Proofs.Ytifcepopacbidaa.E
open Go Go.ChangeShapes Go.WideShapes Go.ChangeAt
set_option maxRecDepth 100000
noncomputable def E_l_FnExactSteps (N : Nat) (a0 : List GAct) (a1 : Int) (a2 : Int) : Option Ans :=
  (bif (l_szActS_c a0 1048576) then (bif (ilt (l_szActS a0 1048576) 0) then (some [(.one (.b true))]) else (bif (l_toActS_c a0) then (bif (s_Steps_c (l_toActS a0) a1 a2) then (bif (l_toActS_c a0) then (bif (i_Steps_c (l_toActS a0) a1 a2) then (bif (ine (i_Steps (l_toActS a0) a1 a2) (s_Steps (l_toActS a0) a1 a2)) then (some [(.one (.b false))]) else (bif (l_toActS_c a0) then (bif (l_eqActS_c (l_toActS a0) (l_toActS a0)) then (bif (bif (l_eqActS (l_toActS a0) (l_toActS a0)) then false else true) then (some [(.one (.b false))]) else (some [(.one (.b true))])) else none) else none)) else none) else none) else none) else none)) else none)

def tms_l_FnExactSteps : FuncId → Nat → Option Tmpl := tmsOf []

theorem nf_l_FnExactSteps (N : Nat) (a0 : List GAct) (a1 : Int) (a2 : Int) : evalFn (cfgOf (aget ctr2)) tms_l_FnExactSteps N 12 3 [.one (.s .act a0), .one (.i .i64 a1), .one (.i .i64 a2)] = E_l_FnExactSteps N a0 a1 a2 := by kernel_rfl

theorem ans_l_FnExactSteps (a0 : List GAct) (a1 : Int) (a2 : Int) (ho : ∀ c ∈ cvsOf [.one (.s .act a0), .one (.i .i64 a1), .one (.i .i64 a2)], CVOk c) : ∃ N, E_l_FnExactSteps N a0 a1 a2 = some [.one (.b true)] := by
  have hb : AllB big [.one (.s .act a0), .one (.i .i64 a1), .one (.i .i64 a2)] := fun c hc => CVB.of_ok (ho c hc)
  have hl := ((allB_cons hb).1 _ (List.mem_singleton.2 rfl)).len
  refine ⟨0, ?_⟩
  have h1 : l_szActS_c a0 1048576 = true := pc_true (by omega)
  unfold E_l_FnExactSteps
  rw [h1]
  simp only [cond_true]
  by_cases hs : (a0.length : Int) ≤ 1048576
  · have h2 : l_toActS_c a0 = true := pc_true (by unfold sm; omega)
    have h3 : l_szActS a0 1048576 = 1048576 - a0.length := by unfold l_szActS szL; rw [if_neg (by omega)]
    have h4 : l_eqActS_c (l_toActS a0) (l_toActS a0) = true := pc_true rfl
    have h5 : ilt (1048576 - (a0.length : Int)) 0 = false := decide_eq_false (by omega)
    rw [h2, h3, h4, h5]
    simp [s_Steps_c, i_Steps_c, l_toActS, i_Steps, s_Steps, ine_self, l_eqActS]
  · have h3 : l_szActS a0 1048576 = -1 := by unfold l_szActS szL; rw [if_pos (by omega)]
    rw [h3]
    rfl
theorem shape_l_FnExactSteps : Try.f3.params.toList.map (typeCells Try.prog 4) = [some (false, [.s .act]), some (false, [.i .i64]), some (false, [.i .i64])] := by kernel_rfl

theorem answers_l_FnExactSteps : Answers 3 Try.f3.params.toList := by
  refine answers_of ctr2_ok (fn_ok (by kernel_rfl)) ?_
  intro avs hg
  obtain ⟨h1, h2⟩ := hg
  rw [shape_l_FnExactSteps] at h1
  obtain ⟨v0, r0, rfl, e0, h1⟩ := map_cons_inv h1
  obtain ⟨v1, r1, rfl, e1, h1⟩ := map_cons_inv h1
  obtain ⟨v2, r2, rfl, e2, h1⟩ := map_cons_inv h1
  cases List.map_eq_nil_iff.1 h1
  obtain ⟨a0, rfl⟩ := sh_s e0
  obtain ⟨a1, rfl⟩ := sh_i e1
  obtain ⟨a2, rfl⟩ := sh_i e2
  obtain ⟨N, hN⟩ := ans_l_FnExactSteps a0 a1 a2 h2
  exact ⟨tms_l_FnExactSteps, N, 12, (nf_l_FnExactSteps N a0 a1 a2).trans hN⟩

theorem spec_l_FnExactSteps (H : Type) (ds : List (DataW H)) (h : ds.length = Try.f3.params.toList.length) : Rows.fnExactStepsSpec.fn H ds = { results := [.lit (.bool true)], args := ds } := by
  have hl : ds.length = 3 := h.trans (by kernel_rfl)
  match ds, hl with
  | [d1, d2, d3], _ => rfl

set_option maxRecDepth 100000 in
theorem lifted_l_FnExactSteps (os : Os) (started : os.Started) (H : Type) (enc : TypeId × Value → H) :
    ReturnsInHanded {} Try.checked os 3 .any (Rows.fnExactStepsSpec.pre6 enc Try.prog Try.f3 Rows.fnExactStepsRow.domain false) (Rows.fnExactStepsSpec.post enc Try.prog Try.f3 false true false false) := by
  refine returnsInHanded_of_change_shaped (C := Try.checked) own started (by kernel_rfl) Try.func3
    (ChangeSpec.witness6 (enc := enc) (C := Try.checked) false ⟨#[], #[.slice none 0 0, .int .i64 0, .int .i64 0], []⟩ 8 (by kernel_rfl) (by kernel_rfl) (by kernel_rfl) (by kernel_rfl)) ?_
  intro W base args ds gs before hval hW _ hsz _ _
  exact law_contract_of (P := Try.prog) chk_both laid_out rfl spec_l_FnExactSteps (by kernel_rfl) (B := 4) (by kernel_rfl) (by kernel_rfl) answers_l_FnExactSteps W base args ds gs before hval hW hsz

theorem said_fnExactSteps : Rows.FnExactStepsSaid :=
  OpenClaim.holds_of_wide 3 Try.f3 rfl rfl rfl rfl rfl rfl rfl ⟨rfl, rfl, rfl, rfl, rfl⟩ rfl rfl rfl rfl rfl (by kernel_rfl) Try.func3 (by kernel_rfl)
    (of_decide_eq_true (by kernel_rfl)) (by unfold Func.isWrapper; first | (rw [if_pos (by decide +kernel)]; kernel_rfl) | (rw [if_neg (by decide +kernel)]; exact ⟨rfl, rfl⟩))
    (fun os started H enc _ => lifted_l_FnExactSteps os started H enc)

end Go.Proofs.Ytifcepopacbidaa.E
