/- What is proved here: FnExactCleanMon: for every input the law returns true, and each argument reads afterwards as it read before. -/
import Derived.Test.YtaccllfkapkahaaGreatA16
import Derived.Test.YtaccllfkapkahaaGreatP2
namespace Go.Proofs.YtaccllfkapkahaaGreat.E
open Go Go.ChangeShapes Go.WideShapes Go.ChangeAt
set_option maxRecDepth 100000
set_option linter.unusedVariables false
set_option linter.unusedSimpArgs false
noncomputable def E_l_FnExactCleanMon (N : Nat) (a0 : Host) (a1 : Int) : Option Ans :=
  (bif (l_szHost_c a0 1048576) then (bif (ilt (l_szHost a0 1048576) 0) then (some [(.one (.b true))]) else (bif (l_toHost_c a0) then (bif (s_CleanMon_c (l_toHost a0) a1) then (bif (l_toHost_c a0) then (bif (i_CleanMon_c (l_toHost a0) a1) then (bif (l_eqHost_c (i_CleanMon_1 (l_toHost a0) a1) (s_CleanMon_1 (l_toHost a0) a1)) then (bif (bif (l_eqHost (i_CleanMon_1 (l_toHost a0) a1) (s_CleanMon_1 (l_toHost a0) a1)) then false else true) then (some [(.one (.b false))]) else (bif (bif (beqb (i_CleanMon_2 (l_toHost a0) a1) (s_CleanMon_2 (l_toHost a0) a1)) then false else true) then (some [(.one (.b false))]) else (bif (l_toHost_c a0) then (bif (l_eqHost_c (l_toHost a0) (l_toHost a0)) then (bif (bif (l_eqHost (l_toHost a0) (l_toHost a0)) then false else true) then (some [(.one (.b false))]) else (bif (l_markIntSS_c (l_toHost a0).Memory 1) then (share (l_markIntSS_1 (l_toHost a0).Memory 1) (fun x3 => (bif (l_markMonS_c (l_toHost a0).Mons (l_markIntSS_2 (l_toHost a0).Memory 1)) then (share (l_markMonS_1 (l_toHost a0).Mons (l_markIntSS_2 (l_toHost a0).Memory 1)) (fun x4 => (bif (l_markEntryS_c (l_toHost a0).Buffer (l_markMonS_2 (l_toHost a0).Mons (l_markIntSS_2 (l_toHost a0).Memory 1))) then (share (l_markEntryS_1 (l_toHost a0).Buffer (l_markMonS_2 (l_toHost a0).Mons (l_markIntSS_2 (l_toHost a0).Memory 1))) (fun x5 => (bif (l_markEntryS_c (l_toHost a0).IoBuffer (l_markEntryS_2 (l_toHost a0).Buffer (l_markMonS_2 (l_toHost a0).Mons (l_markIntSS_2 (l_toHost a0).Memory 1)))) then (share (l_markEntryS_1 (l_toHost a0).IoBuffer (l_markEntryS_2 (l_toHost a0).Buffer (l_markMonS_2 (l_toHost a0).Mons (l_markIntSS_2 (l_toHost a0).Memory 1)))) (fun x6 => (bif (ilt (l_markEntryS_2 (l_toHost a0).IoBuffer (l_markEntryS_2 (l_toHost a0).Buffer (l_markMonS_2 (l_toHost a0).Mons (l_markIntSS_2 (l_toHost a0).Memory 1)))) 0) then (some [(.one (.b false))]) else (bif (l_eqHost_c (i_CleanMon_1 (l_toHost a0) a1) (s_CleanMon_1 (l_toHost a0) a1)) then (bif (bif (l_eqHost (i_CleanMon_1 (l_toHost a0) a1) (s_CleanMon_1 (l_toHost a0) a1)) then false else true) then (some [(.one (.b false))]) else (bif (bif (beqb (i_CleanMon_2 (l_toHost a0) a1) (s_CleanMon_2 (l_toHost a0) a1)) then false else true) then (some [(.one (.b false))]) else (bif (l_markIntSS_c (i_CleanMon_1 (l_toHost a0) a1).Memory 1) then (share (l_markIntSS_1 (i_CleanMon_1 (l_toHost a0) a1).Memory 1) (fun x7 => (bif (l_markMonS_c (i_CleanMon_1 (l_toHost a0) a1).Mons (l_markIntSS_2 (i_CleanMon_1 (l_toHost a0) a1).Memory 1)) then (share (l_markMonS_1 (i_CleanMon_1 (l_toHost a0) a1).Mons (l_markIntSS_2 (i_CleanMon_1 (l_toHost a0) a1).Memory 1)) (fun x8 => (bif (l_markEntryS_c (i_CleanMon_1 (l_toHost a0) a1).Buffer (l_markMonS_2 (i_CleanMon_1 (l_toHost a0) a1).Mons (l_markIntSS_2 (i_CleanMon_1 (l_toHost a0) a1).Memory 1))) then (share (l_markEntryS_1 (i_CleanMon_1 (l_toHost a0) a1).Buffer (l_markMonS_2 (i_CleanMon_1 (l_toHost a0) a1).Mons (l_markIntSS_2 (i_CleanMon_1 (l_toHost a0) a1).Memory 1))) (fun x9 => (bif (l_markEntryS_c (i_CleanMon_1 (l_toHost a0) a1).IoBuffer (l_markEntryS_2 (i_CleanMon_1 (l_toHost a0) a1).Buffer (l_markMonS_2 (i_CleanMon_1 (l_toHost a0) a1).Mons (l_markIntSS_2 (i_CleanMon_1 (l_toHost a0) a1).Memory 1)))) then (share (l_markEntryS_1 (i_CleanMon_1 (l_toHost a0) a1).IoBuffer (l_markEntryS_2 (i_CleanMon_1 (l_toHost a0) a1).Buffer (l_markMonS_2 (i_CleanMon_1 (l_toHost a0) a1).Mons (l_markIntSS_2 (i_CleanMon_1 (l_toHost a0) a1).Memory 1)))) (fun x10 => (bif (l_heldHost_c (⟨x7, x8, x9, x10⟩ : Host) 1) then (bif (ilt (l_heldHost (⟨x7, x8, x9, x10⟩ : Host) 1) 0) then (some [(.one (.b false))]) else (bif (ine (l_heldHost (⟨x7, x8, x9, x10⟩ : Host) 1) (l_markEntryS_2 (i_CleanMon_1 (l_toHost a0) a1).IoBuffer (l_markEntryS_2 (i_CleanMon_1 (l_toHost a0) a1).Buffer (l_markMonS_2 (i_CleanMon_1 (l_toHost a0) a1).Mons (l_markIntSS_2 (i_CleanMon_1 (l_toHost a0) a1).Memory 1))))) then (some [(.one (.b false))]) else (bif (l_toHost_c a0) then (bif (i_CleanMon_c (l_toHost a0) a1) then (bif (l_eqHost_c (i_CleanMon_1 (l_toHost a0) a1) (s_CleanMon_1 (l_toHost a0) a1)) then (bif (bif (l_eqHost (i_CleanMon_1 (l_toHost a0) a1) (s_CleanMon_1 (l_toHost a0) a1)) then false else true) then (some [(.one (.b false))]) else (bif (bif (beqb (i_CleanMon_2 (l_toHost a0) a1) (s_CleanMon_2 (l_toHost a0) a1)) then false else true) then (some [(.one (.b false))]) else (bif (l_heldHost_c (⟨x7, x8, x9, x10⟩ : Host) 1) then (bif (ilt (l_heldHost (⟨x7, x8, x9, x10⟩ : Host) 1) 0) then (some [(.one (.b false))]) else (bif (ine (l_heldHost (⟨x7, x8, x9, x10⟩ : Host) 1) (l_markEntryS_2 (i_CleanMon_1 (l_toHost a0) a1).IoBuffer (l_markEntryS_2 (i_CleanMon_1 (l_toHost a0) a1).Buffer (l_markMonS_2 (i_CleanMon_1 (l_toHost a0) a1).Mons (l_markIntSS_2 (i_CleanMon_1 (l_toHost a0) a1).Memory 1))))) then (some [(.one (.b false))]) else (some [(.one (.b true))]))) else none))) else none) else none) else none))) else none))) else none))) else none))) else none))) else none))) else none)))) else none))) else none))) else none))) else none)) else none) else none))) else none) else none) else none) else none) else none)) else none)

theorem nf_l_FnExactCleanMon (N : Nat) (a0 : Host) (a1 : Int) : evalFn (cfgQ (aget ctrHH) (aget mctC) (aget pct0) (aget tctJ)) (tmsOf []) N 12 3 [.agg (hostC a0), .one (.i .i64 a1)] = E_l_FnExactCleanMon N a0 a1 := by kernel_rfl

theorem ans_l_FnExactCleanMon (a0 : Host) (a1 : Int) (ho : ∀ c ∈ cvsOf [.agg (hostC a0), .one (.i .i64 a1)], CVOk c) : ∃ N, E_l_FnExactCleanMon N a0 a1 = some [.one (.b true)] := by
  have hb : AllB big [.agg (hostC a0), .one (.i .i64 a1)] := fun c hc => CVB.of_ok (ho c hc)
  refine ⟨0, ?_⟩
  unfold E_l_FnExactCleanMon
  rw [szHost_c0, cT]
  cases hz : ilt (l_szHost a0 1048576) 0
  · obtain ⟨hs, h0, h1⟩ := szHost_pos (by omega) (by omega) hz
    have M := mark_host (by omega) (by omega) h0 1 (by decide) (by decide)
    have hb := host_bound (by omega) (by omega) h0
    have R := resH (h := cleaned a0 a1) (by have := mHost_clean a0 a1; omega)
    have s1 : s_CleanMon_c a0 a1 = true := pc_true hs
    have i1 : i_CleanMon_c a0 a1 = true := pc_true hs
    have r1 := R.hc
    have r2 := R.e
    have r3 := R.nn
    unfold markedH at r1 r2
    unfold endH at r2 r3
    rw [cF, toHost_c hs, cT, toHost_id, s1, cT, i1, cT]
    simp only [s_CleanMon_1, s_CleanMon_2, i_CleanMon_1, i_CleanMon_2]
    generalize cleaned a0 a1 = g at *
    simp only [share, toHost_c hs, toHost_id, eqHost_c, eqHost_t, beqb_self, M.c1, M.c2, M.c3, M.c4, ilt_nn M.nn, R.c1, R.c2, R.c3, R.c4, s1, i1, r1, r2, r3, ine_self, Bool.not_true, cT, cF]
  · rfl
theorem shape_l_FnExactCleanMon : Tryz.f3.params.toList.map (typeCells Tryz.prog 4) = [some (true, [.s (.sl .int), .s .mon, .s .entry, .s .entry]), some (false, [.i .i64])] := by kernel_rfl

theorem answers_l_FnExactCleanMon : Answers 3 Tryz.f3.params.toList := by
  refine answersQ_of ctrHH_ok mctC_ok pct0_ok tctJ_ok (fn_ok (by kernel_rfl)) ?_
  intro avs hg
  obtain ⟨h1, h2⟩ := hg
  rw [shape_l_FnExactCleanMon] at h1
  obtain ⟨v0, r0, rfl, e0, h1⟩ := map_cons_inv h1
  obtain ⟨v1, r1, rfl, e1, h1⟩ := map_cons_inv h1
  cases List.map_eq_nil_iff.1 h1
  obtain ⟨a0, rfl⟩ := sh_host e0
  obtain ⟨a1, rfl⟩ := sh_i e1
  obtain ⟨N, hN⟩ := ans_l_FnExactCleanMon a0 a1 h2
  exact ⟨tmsOf [], N, 12, (nf_l_FnExactCleanMon N a0 a1).trans hN⟩

theorem spec_l_FnExactCleanMon (H : Type) (ds : List (DataW H)) (h : ds.length = Tryz.f3.params.toList.length) : Rows.fnExactCleanMonSpec.fn H ds = { results := [.lit (.bool true)], args := ds } := by
  have hl : ds.length = 2 := h.trans (by kernel_rfl)
  match ds, hl with
  | [d1, d2], _ => rfl

set_option maxRecDepth 100000 in
theorem lifted_l_FnExactCleanMon (os : Os) (started : os.Started) (H : Type) (enc : TypeId × Value → H) :
    ReturnsInHanded {} Tryz.checked os 3 .any (Rows.fnExactCleanMonSpec.pre6 enc Tryz.prog Tryz.f3 Rows.fnExactCleanMonRow.domain false) (Rows.fnExactCleanMonSpec.post enc Tryz.prog Tryz.f3 false true false false) := by
  refine returnsInHanded_of_change_shaped (C := Tryz.checked) own started (by kernel_rfl) Tryz.func3
    (ChangeSpec.witness6 (enc := enc) (C := Tryz.checked) false ⟨#[], #[.agg #[.slice none 0 0, .slice none 0 0, .slice none 0 0, .slice none 0 0], .int .i64 0], []⟩ 8 (by kernel_rfl) (by kernel_rfl) (by kernel_rfl) (by kernel_rfl)) ?_
  intro W base args ds gs before hval hW _ hsz _ _
  exact law_contract_of (P := Tryz.prog) chk_both laid_out rfl spec_l_FnExactCleanMon (by kernel_rfl) (B := 4) (by kernel_rfl) (by kernel_rfl) answers_l_FnExactCleanMon W base args ds gs before hval hW hsz

theorem said_fnExactCleanMon : Rows.FnExactCleanMonSaid :=
  OpenClaim.holds_of_wide 3 Tryz.f3 rfl rfl rfl rfl rfl rfl rfl ⟨rfl, rfl, rfl, rfl, rfl⟩ rfl rfl rfl rfl rfl (by kernel_rfl) Tryz.func3 (by kernel_rfl)
    (of_decide_eq_true (by kernel_rfl)) (by unfold Func.isWrapper; first | (rw [if_pos (by decide +kernel)]; kernel_rfl) | (rw [if_neg (by decide +kernel)]; exact ⟨rfl, rfl⟩))
    (fun os started H enc _ => lifted_l_FnExactCleanMon os started H enc)

end Go.Proofs.YtaccllfkapkahaaGreat.E
