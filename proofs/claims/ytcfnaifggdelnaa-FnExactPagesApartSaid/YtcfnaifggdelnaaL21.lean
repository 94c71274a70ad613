/- What is proved here: FnExactPagesApart: for every input the law returns true, and each argument reads afterwards as it read before. -/
import Derived.Test.YtcfnaifggdelnaaA38
import Derived.Test.YtcfnaifggdelnaaP2
namespace Go.Proofs.Ytcfnaifggdelnaa.E
open Go Go.ChangeShapes Go.WideShapes Go.ChangeAt
set_option maxRecDepth 100000
set_option linter.unusedVariables false
set_option linter.unusedSimpArgs false
noncomputable def E_l_FnExactPagesApart (N : Nat) (a0 : Host) : Option Ans :=
  (bif (l_szHost_c a0 1048576) then (bif (ilt (l_szHost a0 1048576) 0) then (some [(.one (.b true))]) else (bif (l_toHost_c a0) then (bif (s_PagesApart_c (l_toHost a0)) then (bif (l_toHost_c a0) then (bif (i_PagesApart_c (l_toHost a0)) then (bif (bif (beqb (i_PagesApart (l_toHost a0)) (s_PagesApart (l_toHost a0))) then false else true) then (some [(.one (.b false))]) else (bif (l_toHost_c a0) then (bif (l_eqHost_c (l_toHost a0) (l_toHost a0)) then (bif (bif (l_eqHost (l_toHost a0) (l_toHost a0)) then false else true) then (some [(.one (.b false))]) else (some [(.one (.b true))])) else none) else none)) else none) else none) else none) else none)) else none)

theorem nf_l_FnExactPagesApart (N : Nat) (a0 : Host) : evalFn (cQ ctrPA mct0 pct0 tct0) (tmsOf []) N 12 3 [.agg (hostC a0)] = E_l_FnExactPagesApart N a0 := by kernel_rfl

theorem ans_l_FnExactPagesApart (a0 : Host) (ho : ∀ c ∈ cvsOf [.agg (hostC a0)], CVOk c) : ∃ N, E_l_FnExactPagesApart N a0 = some [.one (.b true)] := by
  have hb : AllB big [.agg (hostC a0)] := fun c hc => CVB.of_ok (ho c hc)
  have hpw : PgWf a0 := pgWf_ok (ho _ (by simp [cvsOf, AV.cvs, hostC]))
  refine ⟨0, ?_⟩
  unfold E_l_FnExactPagesApart
  rw [szHost_c0, cT]
  cases hz : ilt (l_szHost a0 1048576) 0
  · obtain ⟨hs, h0, h1⟩ := szHost_pos (by omega) (by omega) hz
    have hA := apOk_sz hs (by omega) (by omega) h0
    have c1 : s_PagesApart_c a0 = true := pc_true hA
    have c2 : i_PagesApart_c a0 = true := pc_true ⟨hs, hpw⟩
    simp only [toHost_c hs, toHost_id, eqHost_c, eqHost_t, c1, c2, cT, cF, i_PagesApart, s_PagesApart, beqb_self, Bool.not_true]
  · rfl
theorem shape_l_FnExactPagesApart : Try.f3.params.toList.map (typeCells Try.prog 4) = [some (true, [.s (.sl .int), .s .mon, .s .entry, .s .entry])] := by kernel_rfl

theorem answers_l_FnExactPagesApart : Answers 3 Try.f3.params.toList := by
  refine answersQ_of ctrPA_ok mct0_ok pct0_ok tct0_ok (fn_ok (by kernel_rfl)) ?_
  intro avs hg
  obtain ⟨h1, h2⟩ := hg
  rw [shape_l_FnExactPagesApart] at h1
  obtain ⟨v0, r0, rfl, e0, h1⟩ := map_cons_inv h1
  cases List.map_eq_nil_iff.1 h1
  obtain ⟨a0, rfl⟩ := sh_host e0
  obtain ⟨N, hN⟩ := ans_l_FnExactPagesApart a0 h2
  exact ⟨tmsOf [], N, 12, (nf_l_FnExactPagesApart N a0).trans hN⟩

theorem spec_l_FnExactPagesApart (H : Type) (ds : List (DataW H)) (h : ds.length = Try.f3.params.toList.length) : Rows.fnExactPagesApartSpec.fn H ds = { results := [.lit (.bool true)], args := ds } := by
  have hl : ds.length = 1 := h.trans (by kernel_rfl)
  match ds, hl with
  | [d], _ => rfl

set_option maxRecDepth 100000 in
theorem lifted_l_FnExactPagesApart (os : Os) (started : os.Started) (H : Type) (enc : TypeId × Value → H) :
    ReturnsInHanded {} Try.checked os 3 .any (Rows.fnExactPagesApartSpec.pre6 enc Try.prog Try.f3 Rows.fnExactPagesApartRow.domain false) (Rows.fnExactPagesApartSpec.post enc Try.prog Try.f3 false true false false) := by
  refine returnsInHanded_of_change_shaped (C := Try.checked) own started (by kernel_rfl) Try.func3
    (ChangeSpec.witness6 (enc := enc) (C := Try.checked) false ⟨#[], #[.agg #[.slice none 0 0, .slice none 0 0, .slice none 0 0, .slice none 0 0]], []⟩ 8 (by kernel_rfl) (by kernel_rfl) (by kernel_rfl) (by kernel_rfl)) ?_
  intro W base args ds gs before hval hW _ hsz _ _
  exact law_contract_of (P := Try.prog) chk_both laid_out rfl spec_l_FnExactPagesApart (by kernel_rfl) (B := 4) (by kernel_rfl) (by kernel_rfl) answers_l_FnExactPagesApart W base args ds gs before hval hW hsz

theorem said_fnExactPagesApart : Rows.FnExactPagesApartSaid :=
  OpenClaim.holds_of_wide 3 Try.f3 rfl rfl rfl rfl rfl rfl rfl ⟨rfl, rfl, rfl, rfl, rfl⟩ rfl rfl rfl rfl rfl (by kernel_rfl) Try.func3 (by kernel_rfl)
    (of_decide_eq_true (by kernel_rfl)) (by unfold Func.isWrapper; first | (rw [if_pos (by decide +kernel)]; kernel_rfl) | (rw [if_neg (by decide +kernel)]; exact ⟨rfl, rfl⟩))
    (fun os started H enc _ => lifted_l_FnExactPagesApart os started H enc)

end Go.Proofs.Ytcfnaifggdelnaa.E
