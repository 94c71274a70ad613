/- What is proved here: FnExactBareRun: for every input the law returns true, and each argument reads afterwards as it read before. -/
import Derived.Test.YtdbdlamkkkdjhaaGreatA13
import Derived.Test.YtdbdlamkkkdjhaaGreatP2
namespace Go.Proofs.YtdbdlamkkkdjhaaGreat.E
open Go Go.ChangeShapes Go.WideShapes Go.ChangeAt
set_option maxRecDepth 100000
set_option linter.unusedVariables false
set_option linter.unusedSimpArgs false
noncomputable def ctrBare2 : Ctrs := ctrBare
theorem ctrBare2_ok : ∀ f run, aget ctrBare2 f = some run → Holds Tryz.prog f run := ctrBare_ok
noncomputable def E_l_FnExactBareRun (N : Nat) (a0 : List Bare) (a1 : Int) : Option Ans :=
  (bif (l_szBareS_c a0 1048576) then (bif (ilt (l_szBareS a0 1048576) 0) then (some [(.one (.b true))]) else (bif (l_toBareS_c a0) then (bif (s_BareRun_c (l_toBareS a0) a1) then (bif (l_toBareS_c a0) then (bif (i_BareRun_c (l_toBareS a0) a1) then (bif (l_eqBareS_c (i_BareRun_1 (l_toBareS a0) a1) (s_BareRun_1 (l_toBareS a0) a1)) then (bif (bif (l_eqBareS (i_BareRun_1 (l_toBareS a0) a1) (s_BareRun_1 (l_toBareS a0) a1)) then false else true) then (some [(.one (.b false))]) else (bif (ine (i_BareRun_2 (l_toBareS a0) a1) (s_BareRun_2 (l_toBareS a0) a1)) then (some [(.one (.b false))]) else (bif (l_toBareS_c a0) then (bif (l_eqBareS_c (l_toBareS a0) (l_toBareS a0)) then (bif (bif (l_eqBareS (l_toBareS a0) (l_toBareS a0)) then false else true) then (some [(.one (.b false))]) else (bif (l_markBareS_c (l_toBareS a0) 1) then (share (l_markBareS_1 (l_toBareS a0) 1) (fun x3 => (bif (ilt (l_markBareS_2 (l_toBareS a0) 1) 0) then (some [(.one (.b false))]) else (bif (l_eqBareS_c (i_BareRun_1 (l_toBareS a0) a1) (s_BareRun_1 (l_toBareS a0) a1)) then (bif (bif (l_eqBareS (i_BareRun_1 (l_toBareS a0) a1) (s_BareRun_1 (l_toBareS a0) a1)) then false else true) then (some [(.one (.b false))]) else (bif (ine (i_BareRun_2 (l_toBareS a0) a1) (s_BareRun_2 (l_toBareS a0) a1)) then (some [(.one (.b false))]) else (bif (l_markBareS_c (i_BareRun_1 (l_toBareS a0) a1) 1) then (share (l_markBareS_1 (i_BareRun_1 (l_toBareS a0) a1) 1) (fun x4 => (bif (l_heldBareS_c x4 1) then (bif (ilt (l_heldBareS x4 1) 0) then (some [(.one (.b false))]) else (bif (ine (l_heldBareS x4 1) (l_markBareS_2 (i_BareRun_1 (l_toBareS a0) a1) 1)) then (some [(.one (.b false))]) else (bif (l_toBareS_c a0) then (bif (i_BareRun_c (l_toBareS a0) a1) then (bif (l_eqBareS_c (i_BareRun_1 (l_toBareS a0) a1) (s_BareRun_1 (l_toBareS a0) a1)) then (bif (bif (l_eqBareS (i_BareRun_1 (l_toBareS a0) a1) (s_BareRun_1 (l_toBareS a0) a1)) then false else true) then (some [(.one (.b false))]) else (bif (ine (i_BareRun_2 (l_toBareS a0) a1) (s_BareRun_2 (l_toBareS a0) a1)) then (some [(.one (.b false))]) else (bif (l_heldBareS_c x4 1) then (bif (ilt (l_heldBareS x4 1) 0) then (some [(.one (.b false))]) else (bif (ine (l_heldBareS x4 1) (l_markBareS_2 (i_BareRun_1 (l_toBareS a0) a1) 1)) then (some [(.one (.b false))]) else (some [(.one (.b true))]))) else none))) else none) else none) else none))) else none))) else none))) else none)))) else none)) else none) else none))) else none) else none) else none) else none) else none)) else none)

theorem nf_l_FnExactBareRun (N : Nat) (a0 : List Bare) (a1 : Int) : evalFn (cfgQ (aget ctrBare2) (aget mctC) (aget pct0) (aget tct0)) (tmsOf []) N 12 4 [.one (.s .bare a0), .one (.i .i64 a1)] = E_l_FnExactBareRun N a0 a1 := by kernel_rfl

theorem ans_l_FnExactBareRun (a0 : List Bare) (a1 : Int) (ho : ∀ c ∈ cvsOf [.one (.s .bare a0), .one (.i .i64 a1)], CVOk c) : ∃ N, E_l_FnExactBareRun N a0 a1 = some [.one (.b true)] := by
  have hb : AllB big [.one (.s .bare a0), .one (.i .i64 a1)] := fun c hc => CVB.of_ok (ho c hc)
  refine ⟨0, ?_⟩
  unfold E_l_FnExactBareRun
  refine must (pc_true ⟨by decide, by decide⟩) ?_
  cases hz : ilt (l_szBareS a0 1048576) 0
  · obtain ⟨h1, hb1⟩ := l_szBareS_P a0 1048576 (by decide) (by decide)
    have h0 : 0 ≤ l_szBareS a0 1048576 := by
      have := of_decide_eq_false hz
      omega
    have hv := hb1 h0
    have hs : SmBs a0 := by simpa using hv
    have M := res MkBare a0 (bare_bound (by decide) (by decide) h0 (Int.le_refl _))
    have R := res MkBare (nrun (brought a1 0 40).toNat a0 0).1 (bare_bound (by decide) (by decide) h0 (bW_nrun _ a0 0))
    have t1 : l_toBareS_c a0 = true := pc_true hv
    have s1 : s_BareRun_c a0 a1 = true := pc_true hs
    have i1 : i_BareRun_c a0 a1 = true := pc_true hs
    have q : ∀ l, l_eqBareS_c l l = true := fun l => pc_true rfl
    have m1 : l_markBareS_c a0 1 = true := pc_true M.c
    have m2 : ilt (l_markBareS_2 a0 1) 0 = false := M.nn
    have r1 : l_markBareS_c (nrun (brought a1 0 40).toNat a0 0).1 1 = true := pc_true R.c
    have r2 : l_heldBareS_c (l_markBareS_1 (nrun (brought a1 0 40).toNat a0 0).1 1) 1 = true := pc_true R.hc
    have r3 : l_heldBareS (l_markBareS_1 (nrun (brought a1 0 40).toNat a0 0).1 1) 1 = l_markBareS_2 (nrun (brought a1 0 40).toNat a0 0).1 1 := R.e
    have r4 : ilt (l_markBareS_2 (nrun (brought a1 0 40).toNat a0 0).1 1) 0 = false := R.nn
    simp only [share, l_toBareS, t1, s1, i1, s_BareRun_1, s_BareRun_2, i_BareRun_1, i_BareRun_2, q, l_eqBareS, m1, m2, r1, r2, r3, r4, ine_self, Bool.not_true, cT, cF]
  · rfl
theorem shape_l_FnExactBareRun : Tryz.f4.params.toList.map (typeCells Tryz.prog 4) = [some (false, [.s .bare]), some (false, [.i .i64])] := by kernel_rfl

theorem answers_l_FnExactBareRun : Answers 4 Tryz.f4.params.toList := by
  refine answersQ_of ctrBare2_ok mctC_ok pct0_ok tct0_ok (fn_ok (by kernel_rfl)) ?_
  intro avs hg
  obtain ⟨h1, h2⟩ := hg
  rw [shape_l_FnExactBareRun] at h1
  obtain ⟨v0, r0, rfl, e0, h1⟩ := map_cons_inv h1
  obtain ⟨v1, r1, rfl, e1, h1⟩ := map_cons_inv h1
  cases List.map_eq_nil_iff.1 h1
  obtain ⟨a0, rfl⟩ := sh_s e0
  obtain ⟨a1, rfl⟩ := sh_i e1
  obtain ⟨N, hN⟩ := ans_l_FnExactBareRun a0 a1 h2
  exact ⟨tmsOf [], N, 12, (nf_l_FnExactBareRun N a0 a1).trans hN⟩

theorem spec_l_FnExactBareRun (H : Type) (ds : List (DataW H)) (h : ds.length = Tryz.f4.params.toList.length) : Rows.fnExactBareRunSpec.fn H ds = { results := [.lit (.bool true)], args := ds } := by
  have hl : ds.length = 2 := h.trans (by kernel_rfl)
  match ds, hl with
  | [d1, d2], _ => rfl

set_option maxRecDepth 100000 in
theorem lifted_l_FnExactBareRun (os : Os) (started : os.Started) (H : Type) (enc : TypeId × Value → H) :
    ReturnsInHanded {} Tryz.checked os 4 .any (Rows.fnExactBareRunSpec.pre6 enc Tryz.prog Tryz.f4 Rows.fnExactBareRunRow.domain false) (Rows.fnExactBareRunSpec.post enc Tryz.prog Tryz.f4 false true false false) := by
  refine returnsInHanded_of_change_shaped (C := Tryz.checked) own started (by kernel_rfl) Tryz.func4
    (ChangeSpec.witness6 (enc := enc) (C := Tryz.checked) false ⟨#[], #[.slice none 0 0, .int .i64 0], []⟩ 8 (by kernel_rfl) (by kernel_rfl) (by kernel_rfl) (by kernel_rfl)) ?_
  intro W base args ds gs before hval hW _ hsz _ _
  exact law_contract_of (P := Tryz.prog) chk_both laid_out rfl spec_l_FnExactBareRun (by kernel_rfl) (B := 4) (by kernel_rfl) (by kernel_rfl) answers_l_FnExactBareRun W base args ds gs before hval hW hsz

theorem said_fnExactBareRun : Rows.FnExactBareRunSaid :=
  OpenClaim.holds_of_wide 4 Tryz.f4 rfl rfl rfl rfl rfl rfl rfl ⟨rfl, rfl, rfl, rfl, rfl⟩ rfl rfl rfl rfl rfl (by kernel_rfl) Tryz.func4 (by kernel_rfl)
    (of_decide_eq_true (by kernel_rfl)) (by unfold Func.isWrapper; first | (rw [if_pos (by decide +kernel)]; kernel_rfl) | (rw [if_neg (by decide +kernel)]; exact ⟨rfl, rfl⟩))
    (fun os started H enc _ => lifted_l_FnExactBareRun os started H enc)

end Go.Proofs.YtdbdlamkkkdjhaaGreat.E