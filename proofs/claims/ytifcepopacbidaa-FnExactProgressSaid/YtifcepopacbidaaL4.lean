/- What is proved here: FnExactProgress: for every input the law returns true, and each argument reads afterwards as it read before. -/
import Derived.Test.YtifcepopacbidaaA4
import Derived.Test.YtifcepopacbidaaP2
namespace Go.Proofs.Ytifcepopacbidaa.E
open Go Go.ChangeShapes Go.WideShapes Go.ChangeAt
set_option maxRecDepth 100000
set_option linter.unusedVariables false
set_option linter.unusedSimpArgs false
noncomputable def E_l_FnExactProgress (N : Nat) (a0 : Host) (a1 : Host) (a2 : Int) (a3 : Int) : Option Ans :=
  (bif (l_szHost_c a0 1048576) then (bif (ilt (l_szHost a0 1048576) 0) then (some [(.one (.b true))]) else (bif (l_szHost_c a1 (l_szHost a0 1048576)) then (bif (ilt (l_szHost a1 (l_szHost a0 1048576)) 0) then (some [(.one (.b true))]) else (bif (l_toHost_c a0) then (bif (l_toHost_c a1) then (bif (s_Progress_c (l_toHost a0) (l_toHost a1) a2 a3) then (bif (l_toHost_c a0) then (bif (l_toHost_c a1) then (bif (i_Progress_c (l_toHost a0) (l_toHost a1) a2 a3) then (bif (bif (beqb (i_Progress (l_toHost a0) (l_toHost a1) a2 a3) (s_Progress (l_toHost a0) (l_toHost a1) a2 a3)) then false else true) then (some [(.one (.b false))]) else (bif (l_toHost_c a0) then (bif (l_eqHost_c (l_toHost a0) (l_toHost a0)) then (bif (bif (l_eqHost (l_toHost a0) (l_toHost a0)) then false else true) then (some [(.one (.b false))]) else (bif (l_toHost_c a1) then (bif (l_eqHost_c (l_toHost a1) (l_toHost a1)) then (bif (bif (l_eqHost (l_toHost a1) (l_toHost a1)) then false else true) then (some [(.one (.b false))]) else (some [(.one (.b true))])) else none) else none)) else none) else none)) else none) else none) else none) else none) else none) else none)) else none)) else none)

def tms_l_FnExactProgress : FuncId → Nat → Option Tmpl := tmsOf []

theorem nf_l_FnExactProgress (N : Nat) (a0 : Host) (a1 : Host) (a2 : Int) (a3 : Int) : evalFn (cfgOf (aget ctrZ) (aget mct0)) tms_l_FnExactProgress N 12 6 [.agg (hostC a0), .agg (hostC a1), .one (.i .i64 a2), .one (.i .i64 a3)] = E_l_FnExactProgress N a0 a1 a2 a3 := by kernel_rfl

theorem ans_l_FnExactProgress (a0 : Host) (a1 : Host) (a2 : Int) (a3 : Int) (ho : ∀ c ∈ cvsOf [.agg (hostC a0), .agg (hostC a1), .one (.i .i64 a2), .one (.i .i64 a3)], CVOk c) : ∃ N, E_l_FnExactProgress N a0 a1 a2 a3 = some [.one (.b true)] := by
  have hb : AllB big [.agg (hostC a0), .agg (hostC a1), .one (.i .i64 a2), .one (.i .i64 a3)] := fun c hc => CVB.of_ok (ho c hc)
  refine ⟨0, ?_⟩
  unfold E_l_FnExactProgress
  rw [szHost_c0, cond_true]
  cases hz : ilt (l_szHost a0 1048576) 0
  · obtain ⟨hs, h0, h1⟩ := szHost_pos (by omega) (by omega) hz
    have hc2 : l_szHost_c a1 (l_szHost a0 1048576) = true := pc_true ⟨h0, h1⟩
    rw [hc2, cond_true]
    cases hz2 : ilt (l_szHost a1 (l_szHost a0 1048576)) 0
    · obtain ⟨hs2, _⟩ := szHost_pos h0 h1 hz2
      have h2 : s_Progress_c (l_toHost a0) (l_toHost a1) a2 a3 = true := pc_true ⟨hs, hs2⟩
      simp only [toHost_c hs, toHost_c hs2, toHost_id, eqHost_c, eqHost_t, i_Progress_c, cond_true, cond_false] at h2 ⊢
      rw [h2]
      simp [i_Progress, s_Progress, beqb_self]
    · rfl
  · rfl
theorem shape_l_FnExactProgress : Try.f6.params.toList.map (typeCells Try.prog 4) = [some (true, [.s (.sl .int), .s .mon, .s .entry, .s .entry]), some (true, [.s (.sl .int), .s .mon, .s .entry, .s .entry]), some (false, [.i .i64]), some (false, [.i .i64])] := by kernel_rfl

theorem answers_l_FnExactProgress : Answers 6 Try.f6.params.toList := by
  refine answers_of ctrZ_ok mct0_ok (fn_ok (by kernel_rfl)) ?_
  intro avs hg
  obtain ⟨h1, h2⟩ := hg
  rw [shape_l_FnExactProgress] at h1
  obtain ⟨v0, r0, rfl, e0, h1⟩ := map_cons_inv h1
  obtain ⟨v1, r1, rfl, e1, h1⟩ := map_cons_inv h1
  obtain ⟨v2, r2, rfl, e2, h1⟩ := map_cons_inv h1
  obtain ⟨v3, r3, rfl, e3, h1⟩ := map_cons_inv h1
  cases List.map_eq_nil_iff.1 h1
  obtain ⟨a0, rfl⟩ := sh_host e0
  obtain ⟨a1, rfl⟩ := sh_host e1
  obtain ⟨a2, rfl⟩ := sh_i e2
  obtain ⟨a3, rfl⟩ := sh_i e3
  obtain ⟨N, hN⟩ := ans_l_FnExactProgress a0 a1 a2 a3 h2
  exact ⟨tms_l_FnExactProgress, N, 12, (nf_l_FnExactProgress N a0 a1 a2 a3).trans hN⟩

theorem spec_l_FnExactProgress (H : Type) (ds : List (DataW H)) (h : ds.length = Try.f6.params.toList.length) : Rows.fnExactProgressSpec.fn H ds = { results := [.lit (.bool true)], args := ds } := by
  have hl : ds.length = 4 := h.trans (by kernel_rfl)
  match ds, hl with
  | [d1, d2, d3, d4], _ => rfl

set_option maxRecDepth 100000 in
theorem lifted_l_FnExactProgress (os : Os) (started : os.Started) (H : Type) (enc : TypeId × Value → H) :
    ReturnsInHanded {} Try.checked os 6 .any (Rows.fnExactProgressSpec.pre6 enc Try.prog Try.f6 Rows.fnExactProgressRow.domain false) (Rows.fnExactProgressSpec.post enc Try.prog Try.f6 false true false false) := by
  refine returnsInHanded_of_change_shaped (C := Try.checked) own started (by kernel_rfl) Try.func6
    (ChangeSpec.witness6 (enc := enc) (C := Try.checked) false ⟨#[], #[.agg #[.slice none 0 0, .slice none 0 0, .slice none 0 0, .slice none 0 0], .agg #[.slice none 0 0, .slice none 0 0, .slice none 0 0, .slice none 0 0], .int .i64 0, .int .i64 0], []⟩ 8 (by kernel_rfl) (by kernel_rfl) (by kernel_rfl) (by kernel_rfl)) ?_
  intro W base args ds gs before hval hW _ hsz _ _
  exact law_contract_of (P := Try.prog) chk_both laid_out rfl spec_l_FnExactProgress (by kernel_rfl) (B := 4) (by kernel_rfl) (by kernel_rfl) answers_l_FnExactProgress W base args ds gs before hval hW hsz

theorem said_fnExactProgress : Rows.FnExactProgressSaid :=
  OpenClaim.holds_of_wide 6 Try.f6 rfl rfl rfl rfl rfl rfl rfl ⟨rfl, rfl, rfl, rfl, rfl⟩ rfl rfl rfl rfl rfl (by kernel_rfl) Try.func6 (by kernel_rfl)
    (of_decide_eq_true (by kernel_rfl)) (by unfold Func.isWrapper; first | (rw [if_pos (by decide +kernel)]; kernel_rfl) | (rw [if_neg (by decide +kernel)]; exact ⟨rfl, rfl⟩))
    (fun os started H enc _ => lifted_l_FnExactProgress os started H enc)

end Go.Proofs.Ytifcepopacbidaa.E
