/- What is proved here: FnExactTablesRight: for every input the law returns true, and each argument reads afterwards as it read before. -/
import Derived.Test.YtglijfolfelimaaA5
import Derived.Test.YtglijfolfelimaaP2
namespace Go.Proofs.Ytglijfolfelimaa.E
open Go Go.ChangeShapes Go.WideShapes Go.ChangeAt
set_option maxRecDepth 100000
set_option linter.unusedVariables false
set_option linter.unusedSimpArgs false
noncomputable def E_l_FnExactTablesRight (N : Nat) (a0 : Host) : Option Ans :=
  (bif (l_szHost_c a0 1048576) then (bif (ilt (l_szHost a0 1048576) 0) then (some [(.one (.b true))]) else (bif (l_toHost_c a0) then (bif (s_TablesRight_c (l_toHost a0)) then (bif (l_toHost_c a0) then (bif (i_TablesRight_c (l_toHost a0)) then (bif (bif (beqb (i_TablesRight (l_toHost a0)) (s_TablesRight (l_toHost a0))) then false else true) then (some [(.one (.b false))]) else (bif (l_toHost_c a0) then (bif (l_eqHost_c (l_toHost a0) (l_toHost a0)) then (bif (bif (l_eqHost (l_toHost a0) (l_toHost a0)) then false else true) then (some [(.one (.b false))]) else (some [(.one (.b true))])) else none) else none)) else none) else none) else none) else none)) else none)

theorem nf_l_FnExactTablesRight (N : Nat) (a0 : Host) : evalFn (cfgQ (aget ctrW) (aget mct0) (aget pct0)) (tmsOf []) N 12 4 [.agg (hostC a0)] = E_l_FnExactTablesRight N a0 := by kernel_rfl

theorem ans_l_FnExactTablesRight (a0 : Host) (ho : ∀ c ∈ cvsOf [.agg (hostC a0)], CVOk c) : ∃ N, E_l_FnExactTablesRight N a0 = some [.one (.b true)] := by
  have hb : AllB big [.agg (hostC a0)] := fun c hc => CVB.of_ok (ho c hc)
  refine ⟨0, ?_⟩
  unfold E_l_FnExactTablesRight
  rw [szHost_c0, cT]
  cases hz : ilt (l_szHost a0 1048576) 0
  · obtain ⟨hs, _⟩ := szHost_pos (by omega) (by omega) hz
    simp only [toHost_c hs, toHost_id, eqHost_c, eqHost_t, s_TablesRight_c, i_TablesRight_c, cT, cF, i_TablesRight, s_TablesRight, beqb_self, Bool.not_true]
  · rfl
theorem shape_l_FnExactTablesRight : Try.f4.params.toList.map (typeCells Try.prog 4) = [some (true, [.s (.sl .int), .s .mon, .s .entry, .s .entry])] := by kernel_rfl

theorem answers_l_FnExactTablesRight : Answers 4 Try.f4.params.toList := by
  refine answersQ_of ctrW_ok mct0_ok pct0_ok (fn_ok (by kernel_rfl)) ?_
  intro avs hg
  obtain ⟨h1, h2⟩ := hg
  rw [shape_l_FnExactTablesRight] at h1
  obtain ⟨v0, r0, rfl, e0, h1⟩ := map_cons_inv h1
  cases List.map_eq_nil_iff.1 h1
  obtain ⟨a0, rfl⟩ := sh_host e0
  obtain ⟨N, hN⟩ := ans_l_FnExactTablesRight a0 h2
  exact ⟨tmsOf [], N, 12, (nf_l_FnExactTablesRight N a0).trans hN⟩

theorem spec_l_FnExactTablesRight (H : Type) (ds : List (DataW H)) (h : ds.length = Try.f4.params.toList.length) : Rows.fnExactTablesRightSpec.fn H ds = { results := [.lit (.bool true)], args := ds } := by
  have hl : ds.length = 1 := h.trans (by kernel_rfl)
  match ds, hl with
  | [d], _ => rfl

set_option maxRecDepth 100000 in
theorem lifted_l_FnExactTablesRight (os : Os) (started : os.Started) (H : Type) (enc : TypeId × Value → H) :
    ReturnsInHanded {} Try.checked os 4 .any (Rows.fnExactTablesRightSpec.pre6 enc Try.prog Try.f4 Rows.fnExactTablesRightRow.domain false) (Rows.fnExactTablesRightSpec.post enc Try.prog Try.f4 false true false false) := by
  refine returnsInHanded_of_change_shaped (C := Try.checked) own started (by kernel_rfl) Try.func4
    (ChangeSpec.witness6 (enc := enc) (C := Try.checked) false ⟨#[], #[.agg #[.slice none 0 0, .slice none 0 0, .slice none 0 0, .slice none 0 0]], []⟩ 8 (by kernel_rfl) (by kernel_rfl) (by kernel_rfl) (by kernel_rfl)) ?_
  intro W base args ds gs before hval hW _ hsz _ _
  exact law_contract_of (P := Try.prog) chk_both laid_out rfl spec_l_FnExactTablesRight (by kernel_rfl) (B := 4) (by kernel_rfl) (by kernel_rfl) answers_l_FnExactTablesRight W base args ds gs before hval hW hsz

theorem said_fnExactTablesRight : Rows.FnExactTablesRightSaid :=
  OpenClaim.holds_of_wide 4 Try.f4 rfl rfl rfl rfl rfl rfl rfl ⟨rfl, rfl, rfl, rfl, rfl⟩ rfl rfl rfl rfl rfl (by kernel_rfl) Try.func4 (by kernel_rfl)
    (of_decide_eq_true (by kernel_rfl)) (by unfold Func.isWrapper; first | (rw [if_pos (by decide +kernel)]; kernel_rfl) | (rw [if_neg (by decide +kernel)]; exact ⟨rfl, rfl⟩))
    (fun os started H enc _ => lifted_l_FnExactTablesRight os started H enc)

end Go.Proofs.Ytglijfolfelimaa.E
