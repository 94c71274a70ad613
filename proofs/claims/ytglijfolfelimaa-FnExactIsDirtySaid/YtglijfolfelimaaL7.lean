/- What is proved here: FnExactIsDirty: for every input the law returns true, and each argument reads afterwards as it read before. -/
import Derived.Test.YtglijfolfelimaaA6
import Derived.Test.YtglijfolfelimaaP2
namespace Go.Proofs.Ytglijfolfelimaa.E
open Go Go.ChangeShapes Go.WideShapes Go.ChangeAt
set_option maxRecDepth 100000
set_option linter.unusedVariables false
set_option linter.unusedSimpArgs false
noncomputable def E_l_FnExactIsDirty (N : Nat) (a0 : Host) (a1 : Int) (a2 : List Int) : Option Ans :=
  (bif (igt (ln a2) 1048576) then (some [(.one (.b true))]) else (bif (l_szHost_c a0 1048576) then (bif (ilt (l_szHost a0 1048576) 0) then (some [(.one (.b true))]) else (bif (l_toHost_c a0) then (bif (l_toIntS_c a2) then (bif (s_IsDirty_c (l_toHost a0) a1 (l_toIntS a2)) then (bif (l_toHost_c a0) then (bif (l_toIntS_c a2) then (bif (i_IsDirty_c (l_toHost a0) a1 (l_toIntS a2)) then (bif (bif (beqb (i_IsDirty (l_toHost a0) a1 (l_toIntS a2)) (s_IsDirty (l_toHost a0) a1 (l_toIntS a2))) then false else true) then (some [(.one (.b false))]) else (bif (l_toHost_c a0) then (bif (l_eqHost_c (l_toHost a0) (l_toHost a0)) then (bif (bif (l_eqHost (l_toHost a0) (l_toHost a0)) then false else true) then (some [(.one (.b false))]) else (bif (l_toIntS_c a2) then (bif (l_eqIntS_c (l_toIntS a2) (l_toIntS a2)) then (bif (bif (l_eqIntS (l_toIntS a2) (l_toIntS a2)) then false else true) then (some [(.one (.b false))]) else (some [(.one (.b true))])) else none) else none)) else none) else none)) else none) else none) else none) else none) else none) else none)) else none))

theorem nf_l_FnExactIsDirty (N : Nat) (a0 : Host) (a1 : Int) (a2 : List Int) : evalFn (cfgQ (aget ctrV) (aget mct0) (aget pct0)) (tmsOf []) N 12 3 [.agg (hostC a0), .one (.i .i64 a1), .one (.s .int a2)] = E_l_FnExactIsDirty N a0 a1 a2 := by kernel_rfl

theorem ans_l_FnExactIsDirty (a0 : Host) (a1 : Int) (a2 : List Int) (ho : ∀ c ∈ cvsOf [.agg (hostC a0), .one (.i .i64 a1), .one (.s .int a2)], CVOk c) : ∃ N, E_l_FnExactIsDirty N a0 a1 a2 = some [.one (.b true)] := by
  have hb : AllB big [.agg (hostC a0), .one (.i .i64 a1), .one (.s .int a2)] := fun c hc => CVB.of_ok (ho c hc)
  refine ⟨0, ?_⟩
  unfold E_l_FnExactIsDirty
  cases hp : igt (ln a2) 1048576
  · rw [cF, szHost_c0, cT]
    cases hz : ilt (l_szHost a0 1048576) 0
    · obtain ⟨hs, _⟩ := szHost_pos (by omega) (by omega) hz
      have hp' : ¬ ((a2.length : Int) > 1048576) := of_decide_eq_false hp
      have h2 : l_toIntS_c a2 = true := pc_true (flat_cvb (t := .int) (by rfl) (by unfold sm; omega))
      simp only [toHost_c hs, toHost_id, eqHost_c, eqHost_t, h2, show l_toIntS a2 = a2 from rfl, show l_eqIntS_c a2 a2 = true from pc_true rfl, show l_eqIntS a2 a2 = true from rfl, show s_IsDirty_c a0 a1 a2 = true from pc_true hs, show i_IsDirty_c a0 a1 a2 = true from pc_true hs, cT, cF, i_IsDirty, s_IsDirty, beqb_self]
    · rfl
  · rfl
theorem shape_l_FnExactIsDirty : Try.f3.params.toList.map (typeCells Try.prog 4) = [some (true, [.s (.sl .int), .s .mon, .s .entry, .s .entry]), some (false, [.i .i64]), some (false, [.s .int])] := by kernel_rfl

theorem answers_l_FnExactIsDirty : Answers 3 Try.f3.params.toList := by
  refine answersQ_of ctrV_ok mct0_ok pct0_ok (fn_ok (by kernel_rfl)) ?_
  intro avs hg
  obtain ⟨h1, h2⟩ := hg
  rw [shape_l_FnExactIsDirty] at h1
  obtain ⟨v0, r0, rfl, e0, h1⟩ := map_cons_inv h1
  obtain ⟨v1, r1, rfl, e1, h1⟩ := map_cons_inv h1
  obtain ⟨v2, r2, rfl, e2, h1⟩ := map_cons_inv h1
  cases List.map_eq_nil_iff.1 h1
  obtain ⟨a0, rfl⟩ := sh_host e0
  obtain ⟨a1, rfl⟩ := sh_i e1
  obtain ⟨a2, rfl⟩ := sh_s e2
  obtain ⟨N, hN⟩ := ans_l_FnExactIsDirty a0 a1 a2 h2
  exact ⟨tmsOf [], N, 12, (nf_l_FnExactIsDirty N a0 a1 a2).trans hN⟩

theorem spec_l_FnExactIsDirty (H : Type) (ds : List (DataW H)) (h : ds.length = Try.f3.params.toList.length) : Rows.fnExactIsDirtySpec.fn H ds = { results := [.lit (.bool true)], args := ds } := by
  have hl : ds.length = 3 := h.trans (by kernel_rfl)
  match ds, hl with
  | [d1, d2, d3], _ => rfl

set_option maxRecDepth 100000 in
theorem lifted_l_FnExactIsDirty (os : Os) (started : os.Started) (H : Type) (enc : TypeId × Value → H) :
    ReturnsInHanded {} Try.checked os 3 .any (Rows.fnExactIsDirtySpec.pre6 enc Try.prog Try.f3 Rows.fnExactIsDirtyRow.domain false) (Rows.fnExactIsDirtySpec.post enc Try.prog Try.f3 false true false false) := by
  refine returnsInHanded_of_change_shaped (C := Try.checked) own started (by kernel_rfl) Try.func3
    (ChangeSpec.witness6 (enc := enc) (C := Try.checked) false ⟨#[], #[.agg #[.slice none 0 0, .slice none 0 0, .slice none 0 0, .slice none 0 0], .int .i64 0, .slice none 0 0], []⟩ 8 (by kernel_rfl) (by kernel_rfl) (by kernel_rfl) (by kernel_rfl)) ?_
  intro W base args ds gs before hval hW _ hsz _ _
  exact law_contract_of (P := Try.prog) chk_both laid_out rfl spec_l_FnExactIsDirty (by kernel_rfl) (B := 4) (by kernel_rfl) (by kernel_rfl) answers_l_FnExactIsDirty W base args ds gs before hval hW hsz

theorem said_fnExactIsDirty : Rows.FnExactIsDirtySaid :=
  OpenClaim.holds_of_wide 3 Try.f3 rfl rfl rfl rfl rfl rfl rfl ⟨rfl, rfl, rfl, rfl, rfl⟩ rfl rfl rfl rfl rfl (by kernel_rfl) Try.func3 (by kernel_rfl)
    (of_decide_eq_true (by kernel_rfl)) (by unfold Func.isWrapper; first | (rw [if_pos (by decide +kernel)]; kernel_rfl) | (rw [if_neg (by decide +kernel)]; exact ⟨rfl, rfl⟩))
    (fun os started H enc _ => lifted_l_FnExactIsDirty os started H enc)

end Go.Proofs.Ytglijfolfelimaa.E
