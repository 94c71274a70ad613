/- What is proved here: FnExactOwnPages: for every input the law returns true, and each argument reads afterwards as it read before. -/
import Derived.Test.YtkpakifgplcolaaA18
import Derived.Test.YtkpakifgplcolaaP2
namespace Go.Proofs.Ytkpakifgplcolaa.E
open Go Go.ChangeShapes Go.WideShapes Go.ChangeAt
set_option maxRecDepth 100000
set_option linter.unusedVariables false
set_option linter.unusedSimpArgs false
noncomputable def E_l_FnExactOwnPages (N : Nat) (a0 : Host) (a1 : Int) : Option Ans :=
  (bif (l_szHost_c a0 1048576) then (bif (ilt (l_szHost a0 1048576) 0) then (some [(.one (.b true))]) else (bif (l_toHost_c a0) then (bif (s_OwnPages_c (l_toHost a0) a1) then (bif (l_toHost_c a0) then (bif (i_OwnPages_c (l_toHost a0) a1) then (bif (l_eqIntS_c (i_OwnPages (l_toHost a0) a1) (s_OwnPages (l_toHost a0) a1)) then (bif (bif (l_eqIntS (i_OwnPages (l_toHost a0) a1) (s_OwnPages (l_toHost a0) a1)) then false else true) then (some [(.one (.b false))]) else (bif (l_toHost_c a0) then (bif (l_eqHost_c (l_toHost a0) (l_toHost a0)) then (bif (bif (l_eqHost (l_toHost a0) (l_toHost a0)) then false else true) then (some [(.one (.b false))]) else (bif (l_markIntSS_c (l_toHost a0).Memory 1) then (share (l_markIntSS_1 (l_toHost a0).Memory 1) (fun x3 => (bif (l_markMonS_c (l_toHost a0).Mons (l_markIntSS_2 (l_toHost a0).Memory 1)) then (share (l_markMonS_1 (l_toHost a0).Mons (l_markIntSS_2 (l_toHost a0).Memory 1)) (fun x4 => (bif (l_markEntryS_c (l_toHost a0).Buffer (l_markMonS_2 (l_toHost a0).Mons (l_markIntSS_2 (l_toHost a0).Memory 1))) then (share (l_markEntryS_1 (l_toHost a0).Buffer (l_markMonS_2 (l_toHost a0).Mons (l_markIntSS_2 (l_toHost a0).Memory 1))) (fun x5 => (bif (l_markEntryS_c (l_toHost a0).IoBuffer (l_markEntryS_2 (l_toHost a0).Buffer (l_markMonS_2 (l_toHost a0).Mons (l_markIntSS_2 (l_toHost a0).Memory 1)))) then (share (l_markEntryS_1 (l_toHost a0).IoBuffer (l_markEntryS_2 (l_toHost a0).Buffer (l_markMonS_2 (l_toHost a0).Mons (l_markIntSS_2 (l_toHost a0).Memory 1)))) (fun x6 => (bif (ilt (l_markEntryS_2 (l_toHost a0).IoBuffer (l_markEntryS_2 (l_toHost a0).Buffer (l_markMonS_2 (l_toHost a0).Mons (l_markIntSS_2 (l_toHost a0).Memory 1)))) 0) then (some [(.one (.b false))]) else (bif (l_eqIntS_c (i_OwnPages (l_toHost a0) a1) (s_OwnPages (l_toHost a0) a1)) then (bif (bif (l_eqIntS (i_OwnPages (l_toHost a0) a1) (s_OwnPages (l_toHost a0) a1)) then false else true) then (some [(.one (.b false))]) else (bif (l_markIntS_c (i_OwnPages (l_toHost a0) a1) 1) then (share (l_markIntS_1 (i_OwnPages (l_toHost a0) a1) 1) (fun x7 => (bif (l_heldIntS_c x7 1) then (bif (ilt (l_heldIntS x7 1) 0) then (some [(.one (.b false))]) else (bif (ine (l_heldIntS x7 1) (l_markIntS_2 (i_OwnPages (l_toHost a0) a1) 1)) then (some [(.one (.b false))]) else (bif (l_toHost_c a0) then (bif (i_OwnPages_c (l_toHost a0) a1) then (bif (l_eqIntS_c (i_OwnPages (l_toHost a0) a1) (s_OwnPages (l_toHost a0) a1)) then (bif (bif (l_eqIntS (i_OwnPages (l_toHost a0) a1) (s_OwnPages (l_toHost a0) a1)) then false else true) then (some [(.one (.b false))]) else (bif (l_heldIntS_c x7 1) then (bif (ilt (l_heldIntS x7 1) 0) then (some [(.one (.b false))]) else (bif (ine (l_heldIntS x7 1) (l_markIntS_2 (i_OwnPages (l_toHost a0) a1) 1)) then (some [(.one (.b false))]) else (some [(.one (.b true))]))) else none)) else none) else none) else none))) else none))) else none)) else none)))) else none))) else none))) else none))) else none)) else none) else none)) else none) else none) else none) else none) else none)) else none)

theorem nf_l_FnExactOwnPages (N : Nat) (a0 : Host) (a1 : Int) : evalFn (cfgQ (aget ctrOwn) (aget mctC) (aget pct0) (aget tctA)) (tmsOf []) N 12 3 [.agg (hostC a0), .one (.i .i64 a1)] = E_l_FnExactOwnPages N a0 a1 := by kernel_rfl

theorem ans_l_FnExactOwnPages (a0 : Host) (a1 : Int) (ho : ∀ c ∈ cvsOf [.agg (hostC a0), .one (.i .i64 a1)], CVOk c) : ∃ N, E_l_FnExactOwnPages N a0 a1 = some [.one (.b true)] := by
  have hb : AllB big [.agg (hostC a0), .one (.i .i64 a1)] := fun c hc => CVB.of_ok (ho c hc)
  refine ⟨0, ?_⟩
  unfold E_l_FnExactOwnPages
  rw [szHost_c0, cT]
  cases hz : ilt (l_szHost a0 1048576) 0
  · obtain ⟨hs, h0, h1⟩ := szHost_pos (by omega) (by omega) hz
    have M := mark_host (by omega) (by omega) h0 1 (by decide) (by decide)
    have R := res_flat MkInt (fun _ => by unfold mInt; decide) (ownPages a0 a1) (Nat.le_trans (ownPages_len hs a1) (by decide))
    have r1 : l_markIntS_c (ownPages a0 a1) 1 = true := pc_true R.c
    have r2 : l_heldIntS_c (l_markIntS_1 (ownPages a0 a1) 1) 1 = true := pc_true R.hc
    have r3 : l_heldIntS (l_markIntS_1 (ownPages a0 a1) 1) 1 = l_markIntS_2 (ownPages a0 a1) 1 := R.e
    have r4 : ilt (l_markIntS_2 (ownPages a0 a1) 1) 0 = false := R.nn
    have s1 : s_OwnPages_c a0 a1 = true := pc_true hs
    have i1 : i_OwnPages_c a0 a1 = true := pc_true hs
    have s2 : s_OwnPages a0 a1 = ownPages a0 a1 := rfl
    have i2 : i_OwnPages a0 a1 = ownPages a0 a1 := rfl
    simp only [share, toHost_c hs, toHost_id, eqHost_c, eqHost_t, M.c1, M.c2, M.c3, M.c4, ilt_nn M.nn, s1, i1, s2, i2, beq_rfl_Int, eq_Int, r1, r2, r3, r4, ine_self, cT, cF]
  · rfl
theorem shape_l_FnExactOwnPages : Try.f3.params.toList.map (typeCells Try.prog 4) = [some (true, [.s (.sl .int), .s .mon, .s .entry, .s .entry]), some (false, [.i .i64])] := by kernel_rfl

theorem answers_l_FnExactOwnPages : Answers 3 Try.f3.params.toList := by
  refine answersQ_of ctrOwn_ok mctC_ok pct0_ok tctA_ok (fn_ok (by kernel_rfl)) ?_
  intro avs hg
  obtain ⟨h1, h2⟩ := hg
  rw [shape_l_FnExactOwnPages] at h1
  obtain ⟨v0, r0, rfl, e0, h1⟩ := map_cons_inv h1
  obtain ⟨v1, r1, rfl, e1, h1⟩ := map_cons_inv h1
  cases List.map_eq_nil_iff.1 h1
  obtain ⟨a0, rfl⟩ := sh_host e0
  obtain ⟨a1, rfl⟩ := sh_i e1
  obtain ⟨N, hN⟩ := ans_l_FnExactOwnPages a0 a1 h2
  exact ⟨tmsOf [], N, 12, (nf_l_FnExactOwnPages N a0 a1).trans hN⟩

theorem spec_l_FnExactOwnPages (H : Type) (ds : List (DataW H)) (h : ds.length = Try.f3.params.toList.length) : Rows.fnExactOwnPagesSpec.fn H ds = { results := [.lit (.bool true)], args := ds } := by
  have hl : ds.length = 2 := h.trans (by kernel_rfl)
  match ds, hl with
  | [d1, d2], _ => rfl

set_option maxRecDepth 100000 in
theorem lifted_l_FnExactOwnPages (os : Os) (started : os.Started) (H : Type) (enc : TypeId × Value → H) :
    ReturnsInHanded {} Try.checked os 3 .any (Rows.fnExactOwnPagesSpec.pre6 enc Try.prog Try.f3 Rows.fnExactOwnPagesRow.domain false) (Rows.fnExactOwnPagesSpec.post enc Try.prog Try.f3 false true false false) := by
  refine returnsInHanded_of_change_shaped (C := Try.checked) own started (by kernel_rfl) Try.func3
    (ChangeSpec.witness6 (enc := enc) (C := Try.checked) false ⟨#[], #[.agg #[.slice none 0 0, .slice none 0 0, .slice none 0 0, .slice none 0 0], .int .i64 0], []⟩ 8 (by kernel_rfl) (by kernel_rfl) (by kernel_rfl) (by kernel_rfl)) ?_
  intro W base args ds gs before hval hW _ hsz _ _
  exact law_contract_of (P := Try.prog) chk_both laid_out rfl spec_l_FnExactOwnPages (by kernel_rfl) (B := 4) (by kernel_rfl) (by kernel_rfl) answers_l_FnExactOwnPages W base args ds gs before hval hW hsz

theorem said_fnExactOwnPages : Rows.FnExactOwnPagesSaid :=
  OpenClaim.holds_of_wide 3 Try.f3 rfl rfl rfl rfl rfl rfl rfl ⟨rfl, rfl, rfl, rfl, rfl⟩ rfl rfl rfl rfl rfl (by kernel_rfl) Try.func3 (by kernel_rfl)
    (of_decide_eq_true (by kernel_rfl)) (by unfold Func.isWrapper; first | (rw [if_pos (by decide +kernel)]; kernel_rfl) | (rw [if_neg (by decide +kernel)]; exact ⟨rfl, rfl⟩))
    (fun os started H enc _ => lifted_l_FnExactOwnPages os started H enc)

end Go.Proofs.Ytkpakifgplcolaa.E