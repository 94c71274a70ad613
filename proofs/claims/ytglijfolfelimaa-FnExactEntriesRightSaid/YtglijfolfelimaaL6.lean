/- What is proved here: FnExactEntriesRight: for every input the law returns true, and each argument reads afterwards as it read before. -/
import Derived.Test.YtglijfolfelimaaA5
import Derived.Test.YtglijfolfelimaaP2
namespace Go.Proofs.Ytglijfolfelimaa.E
open Go Go.ChangeShapes Go.WideShapes Go.ChangeAt
set_option maxRecDepth 100000
set_option linter.unusedVariables false
set_option linter.unusedSimpArgs false
noncomputable def E_l_FnExactEntriesRight (N : Nat) (a0 : Host) (a1 : List Entry) : Option Ans :=
  (bif (l_szHost_c a0 1048576) then (bif (ilt (l_szHost a0 1048576) 0) then (some [(.one (.b true))]) else (bif (l_szEntryS_c a1 (l_szHost a0 1048576)) then (bif (ilt (l_szEntryS a1 (l_szHost a0 1048576)) 0) then (some [(.one (.b true))]) else (bif (l_toHost_c a0) then (bif (l_toEntryS_c a1) then (bif (s_EntriesRight_c (l_toHost a0) (l_toEntryS a1)) then (bif (l_toHost_c a0) then (bif (l_toEntryS_c a1) then (bif (i_EntriesRight_c (l_toHost a0) (l_toEntryS a1)) then (bif (bif (beqb (i_EntriesRight (l_toHost a0) (l_toEntryS a1)) (s_EntriesRight (l_toHost a0) (l_toEntryS a1))) then false else true) then (some [(.one (.b false))]) else (bif (l_toHost_c a0) then (bif (l_eqHost_c (l_toHost a0) (l_toHost a0)) then (bif (bif (l_eqHost (l_toHost a0) (l_toHost a0)) then false else true) then (some [(.one (.b false))]) else (bif (l_toEntryS_c a1) then (bif (l_eqEntryS_c (l_toEntryS a1) (l_toEntryS a1)) then (bif (bif (l_eqEntryS (l_toEntryS a1) (l_toEntryS a1)) then false else true) then (some [(.one (.b false))]) else (some [(.one (.b true))])) else none) else none)) else none) else none)) else none) else none) else none) else none) else none) else none)) else none)) else none)

theorem nf_l_FnExactEntriesRight (N : Nat) (a0 : Host) (a1 : List Entry) : evalFn (cfgQ (aget ctrW) (aget mct0) (aget pct0)) (tmsOf []) N 12 5 [.agg (hostC a0), .one (.s .entry a1)] = E_l_FnExactEntriesRight N a0 a1 := by kernel_rfl

theorem ans_l_FnExactEntriesRight (a0 : Host) (a1 : List Entry) (ho : ∀ c ∈ cvsOf [.agg (hostC a0), .one (.s .entry a1)], CVOk c) : ∃ N, E_l_FnExactEntriesRight N a0 a1 = some [.one (.b true)] := by
  have hb : AllB big [.agg (hostC a0), .one (.s .entry a1)] := fun c hc => CVB.of_ok (ho c hc)
  refine ⟨0, ?_⟩
  unfold E_l_FnExactEntriesRight
  rw [szHost_c0, cT]
  cases hz : ilt (l_szHost a0 1048576) 0
  · obtain ⟨hs, h0, h1⟩ := szHost_pos (by omega) (by omega) hz
    have hc2 : l_szEntryS_c a1 (l_szHost a0 1048576) = true := pc_true ⟨h0, h1⟩
    rw [hc2, cT]
    cases hz2 : ilt (l_szEntryS a1 (l_szHost a0 1048576)) 0
    · have hz2' : ¬ l_szEntryS a1 (l_szHost a0 1048576) < 0 := of_decide_eq_false hz2
      have hs2 := (l_szEntryS_P a1 _ h0 h1).2 (by omega)
      have h2 : l_toEntryS_c a1 = true := pc_true hs2
      have e2 : l_toEntryS a1 = a1 := rfl
      have e3 : l_eqEntryS_c a1 a1 = true := pc_true rfl
      have e4 : l_eqEntryS a1 a1 = true := rfl
      simp only [toHost_c hs, h2, e2, e3, e4, toHost_id, eqHost_c, eqHost_t, s_EntriesRight_c, i_EntriesRight_c, cT, cF, i_EntriesRight, s_EntriesRight, beqb_self, Bool.not_true]
    · rfl
  · rfl
theorem shape_l_FnExactEntriesRight : Try.f5.params.toList.map (typeCells Try.prog 4) = [some (true, [.s (.sl .int), .s .mon, .s .entry, .s .entry]), some (false, [.s .entry])] := by kernel_rfl

theorem answers_l_FnExactEntriesRight : Answers 5 Try.f5.params.toList := by
  refine answersQ_of ctrW_ok mct0_ok pct0_ok (fn_ok (by kernel_rfl)) ?_
  intro avs hg
  obtain ⟨h1, h2⟩ := hg
  rw [shape_l_FnExactEntriesRight] at h1
  obtain ⟨v0, r0, rfl, e0, h1⟩ := map_cons_inv h1
  obtain ⟨v1, r1, rfl, e1, h1⟩ := map_cons_inv h1
  cases List.map_eq_nil_iff.1 h1
  obtain ⟨a0, rfl⟩ := sh_host e0
  obtain ⟨a1, rfl⟩ := sh_s e1
  obtain ⟨N, hN⟩ := ans_l_FnExactEntriesRight a0 a1 h2
  exact ⟨tmsOf [], N, 12, (nf_l_FnExactEntriesRight N a0 a1).trans hN⟩

theorem spec_l_FnExactEntriesRight (H : Type) (ds : List (DataW H)) (h : ds.length = Try.f5.params.toList.length) : Rows.fnExactEntriesRightSpec.fn H ds = { results := [.lit (.bool true)], args := ds } := by
  have hl : ds.length = 2 := h.trans (by kernel_rfl)
  match ds, hl with
  | [d1, d2], _ => rfl

set_option maxRecDepth 100000 in
theorem lifted_l_FnExactEntriesRight (os : Os) (started : os.Started) (H : Type) (enc : TypeId × Value → H) :
    ReturnsInHanded {} Try.checked os 5 .any (Rows.fnExactEntriesRightSpec.pre6 enc Try.prog Try.f5 Rows.fnExactEntriesRightRow.domain false) (Rows.fnExactEntriesRightSpec.post enc Try.prog Try.f5 false true false false) := by
  refine returnsInHanded_of_change_shaped (C := Try.checked) own started (by kernel_rfl) Try.func5
    (ChangeSpec.witness6 (enc := enc) (C := Try.checked) false ⟨#[], #[.agg #[.slice none 0 0, .slice none 0 0, .slice none 0 0, .slice none 0 0], .slice none 0 0], []⟩ 8 (by kernel_rfl) (by kernel_rfl) (by kernel_rfl) (by kernel_rfl)) ?_
  intro W base args ds gs before hval hW _ hsz _ _
  exact law_contract_of (P := Try.prog) chk_both laid_out rfl spec_l_FnExactEntriesRight (by kernel_rfl) (B := 4) (by kernel_rfl) (by kernel_rfl) answers_l_FnExactEntriesRight W base args ds gs before hval hW hsz

theorem said_fnExactEntriesRight : Rows.FnExactEntriesRightSaid :=
  OpenClaim.holds_of_wide 5 Try.f5 rfl rfl rfl rfl rfl rfl rfl ⟨rfl, rfl, rfl, rfl, rfl⟩ rfl rfl rfl rfl rfl (by kernel_rfl) Try.func5 (by kernel_rfl)
    (of_decide_eq_true (by kernel_rfl)) (by unfold Func.isWrapper; first | (rw [if_pos (by decide +kernel)]; kernel_rfl) | (rw [if_neg (by decide +kernel)]; exact ⟨rfl, rfl⟩))
    (fun os started H enc _ => lifted_l_FnExactEntriesRight os started H enc)

end Go.Proofs.Ytglijfolfelimaa.E
