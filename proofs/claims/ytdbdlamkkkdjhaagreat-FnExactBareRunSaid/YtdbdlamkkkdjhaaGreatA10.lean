/- What is proved here: contracts of the bare machine's functions: guests, and a bare step. -/
import Derived.Test.YtdbdlamkkkdjhaaGreatA9
import Derived.KernelRfl
namespace Go.Proofs.YtdbdlamkkkdjhaaGreat.E
open Go
set_option maxRecDepth 100000
set_option linter.unusedVariables false
set_option linter.unusedSimpArgs false
set_option linter.unusedSectionVars false
theorem eE (x y : GExit) : x = y ↔ x.Kind = y.Kind ∧ x.Page = y.Page ∧ x.Write = y.Write ∧ x.N = y.N := by cases x; cases y; simp
@[simp, reducible] noncomputable def i_copyMem_c (l : List (List Int)) : Bool := pc (SmM l)
@[simp, reducible] def i_copyMem (l : List (List Int)) : List (List Int) := l
noncomputable def run_i_copyMem : List AV → Option (Bool × List AV)
  | [.one (.s (.sl .int) a0)] => some ((i_copyMem_c a0), [.one (.s (.sl .int) (i_copyMem a0))])
  | _ => none

noncomputable def E_i_copyMem (N : Nat) (a0 : List (List Int)) : Option Ans :=
  (iter (σ := (Int × (Int × ((List (List Int)) × ((List (List Int)) × Unit))))) N (fun r2 s3 => (bif (ilt s3.2.1 s3.1) then (bif (inb s3.2.1 (ln s3.2.2.2.1)) then (bif (i_copyInts_c (ix s3.2.2.2.1 s3.2.1 [])) then (bif (few (ln (ap s3.2.2.1 [(i_copyInts (ix s3.2.2.2.1 s3.2.1 []))]))) then (r2 (s3.1, ((wadd .i64 s3.2.1 1), ((ap s3.2.2.1 [(i_copyInts (ix s3.2.2.2.1 s3.2.1 []))]), (s3.2.2.2.1, ()))))) else none) else none) else none) else (some [(.one (.s (.sl .int) s3.2.2.1))]))) ((ln a0), (0, ([], (a0, ())))))

def tms_i_copyMem : FuncId → Nat → Option Tmpl := tmsOf [(109, 0, { n := 20, tm := [(3, .sl 0 []), (7, .sl 1 []), (8, .i .i64), (9, .i .i64)], lo := [], ro := [(0, (.sl .int), true), (1, (.sl .int), false)] })]

theorem nf_i_copyMem (N : Nat) (a0 : List (List Int)) : evalFn (cfgQ (aget ctrN2) (aget mctC) (aget pct0) (aget tct0)) tms_i_copyMem N 12 109 [.one (.s (.sl .int) a0)] = E_i_copyMem N a0 := by kernel_rfl

theorem law_i_copyMem (a0 : List (List Int)) (hb : AllB big [.one (.s (.sl .int) a0)]) (hc : (i_copyMem_c a0) = true) : ∃ N, E_i_copyMem N a0 = some [.one (.s (.sl .int) (i_copyMem a0))] := by
  have hs := pc_iff.1 hc
  have hl := sm_big hs.1
  refine ⟨NN, ?_⟩
  have hNN : ∀ {n : Nat}, n ≤ big → n < NN := fun h => NN_lt h
  generalize NN = N at hNN ⊢
  unfold E_i_copyMem
  refine (iter_list a0 (fun i (t : (List (List Int))) => ((ln a0), (i : Int), t, a0, ())) _ (fun _ x acc κ => bif i_copyInts_c x then (bif few (ln (ap acc [i_copyInts x])) then κ (ap acc [i_copyInts x]) else none) else none) (fun (t : (List (List Int))) => (some [(.one (.s (.sl .int) t))])) (fun i hi t rec => ?_) (fun t rec => ?_) _ ([]) (hNN hl.1)).trans ?_
  · simp only [ilt_ln hi, inb_ln hi, ix_ln hi, wadd_up hi hl.1, cT]
  · simp only [ilt_end, cF]
  exact app_loop i_copyInts_c i_copyInts _ a0 0 [] (fun x hx => ⟨by exact pc_true (Nat.le_trans (hs.2 x hx) (by decide)), rfl⟩) (by simpa using hl.2)
theorem holds_i_copyMem : Holds Tryz.prog 109 run_i_copyMem := by
  refine holds_of_eval (engQ_ok ctrN2_ok mctC_ok pct0_ok tct0_ok) (fn_ok (by kernel_rfl)) ?_
  intro avs rs hr h
  have hb := allB_of_rep hr
  unfold run_i_copyMem at h
  split at h
  · rename_i a0
    obtain ⟨hc, rfl⟩ := some_pair h
    obtain ⟨N, hN⟩ := law_i_copyMem a0 hb hc
    exact ⟨tms_i_copyMem, N, 12, (nf_i_copyMem N a0).trans hN⟩
  · cases h

@[simp, reducible] noncomputable def i_copyGuest_c (g : Guest) : Bool := pc (SmG g)
@[simp, reducible] def i_copyGuest (g : Guest) : Guest := g
noncomputable def run_i_copyGuest : List AV → Option (Bool × List AV)
  | [.agg [.s .ins a0_0, .i .i64 a0_1, .i .i64 a0_2, .s .slot a0_3, .s .slot a0_4, .i .i64 a0_5, .i .i64 a0_6, .b a0_7, .i .i64 a0_8, .i .i64 a0_9, .i .i64 a0_10, .b a0_11, .i .i64 a0_12, .b a0_13, .s .int a0_14]] => some ((i_copyGuest_c (⟨a0_0, a0_1, a0_2, a0_3, a0_4, ⟨a0_5, a0_6, a0_7⟩, a0_8, ⟨a0_9, a0_10, a0_11, a0_12⟩, a0_13, a0_14⟩ : Guest)), [.agg (Ty.cells .guest (i_copyGuest (⟨a0_0, a0_1, a0_2, a0_3, a0_4, ⟨a0_5, a0_6, a0_7⟩, a0_8, ⟨a0_9, a0_10, a0_11, a0_12⟩, a0_13, a0_14⟩ : Guest)))])
  | _ => none

noncomputable def E_i_copyGuest (N : Nat) (a0 : Guest) : Option Ans :=
  (bif (i_copyProg_c a0.Prog) then (bif (i_copyTable_c a0.Written) then (bif (i_copyTable_c a0.Live) then (bif (i_copyInts_c a0.Seen) then (some [(.agg (Ty.cells .guest ({ a0 with Prog := (i_copyProg a0.Prog), Written := (i_copyTable a0.Written), Live := (i_copyTable a0.Live), Seen := (i_copyInts a0.Seen) } : Guest)))]) else none) else none) else none) else none)

theorem nf_i_copyGuest (N : Nat) (a0 : Guest) : evalFn (cfgQ (aget ctrN2) (aget mctC) (aget pct0) (aget tct0)) (tmsOf []) N 12 113 [.agg (Ty.cells .guest a0)] = E_i_copyGuest N a0 := by kernel_rfl

theorem law_i_copyGuest (a0 : Guest) (hb : AllB big [.agg (Ty.cells .guest a0)]) (hc : (i_copyGuest_c a0) = true) : ∃ N, E_i_copyGuest N a0 = some [.agg (Ty.cells .guest (i_copyGuest a0))] := by
  have hs := pc_iff.1 hc; obtain ⟨h1, h2, h3, h4⟩ := hs; have hs1 : a0.Prog.length ≤ 2147483648 := (by omega); have hs2 : a0.Written.length ≤ 2147483648 := (by omega); have hs3 : a0.Live.length ≤ 2147483648 := (by omega); have hs4 : a0.Seen.length ≤ 2147483648 := (by omega)
  refine ⟨0, ?_⟩
  unfold E_i_copyGuest
  refine must (by first | assumption | (simp_all <;> omega)) ?_
  refine must (by first | assumption | (simp_all <;> omega)) ?_
  refine must (by first | assumption | (simp_all <;> omega)) ?_
  refine must (by first | assumption | (simp_all <;> omega)) ?_
  first | rfl | (simp only [i_copyGuest, cT, cF] <;> rfl) | (simp_all [Ty.cells, i_copyGuest]; done)
theorem holds_i_copyGuest : Holds Tryz.prog 113 run_i_copyGuest := by
  refine holds_of_eval (engQ_ok ctrN2_ok mctC_ok pct0_ok tct0_ok) (fn_ok (by kernel_rfl)) ?_
  intro avs rs hr h
  have hb := allB_of_rep hr
  unfold run_i_copyGuest at h
  split at h
  · rename_i a0_0 a0_1 a0_2 a0_3 a0_4 a0_5 a0_6 a0_7 a0_8 a0_9 a0_10 a0_11 a0_12 a0_13 a0_14
    obtain ⟨hc, rfl⟩ := some_pair h
    obtain ⟨N, hN⟩ := law_i_copyGuest (⟨a0_0, a0_1, a0_2, a0_3, a0_4, ⟨a0_5, a0_6, a0_7⟩, a0_8, ⟨a0_9, a0_10, a0_11, a0_12⟩, a0_13, a0_14⟩ : Guest) hb hc
    exact ⟨tmsOf [], N, 12, (nf_i_copyGuest N (⟨a0_0, a0_1, a0_2, a0_3, a0_4, ⟨a0_5, a0_6, a0_7⟩, a0_8, ⟨a0_9, a0_10, a0_11, a0_12⟩, a0_13, a0_14⟩ : Guest)).trans hN⟩
  · cases h

def walkOk (t : List Slot) (p n : Int) : Bool := bif ieq (slotAt t p).Page (-1) then false else (bif enough (slotAt t p).Rights n then win n 1 3 else false)
def walkAt (t : List Slot) (p n : Int) : Int := bif walkOk t p n then (slotAt t p).Page else -1
theorem rights03 {r : Int} (h : rightsOk r = true) : 0 ≤ r ∧ r ≤ 3 := win_true.1 h
theorem enough_win {a n : Int} (h : enough a n = true) : win n 1 3 = !ieq n 0 := by
  unfold enough at h
  cases h1 : rightsOk a
  · rw [h1] at h; cases h
  · cases h2 : rightsOk n
    · rw [h1, h2] at h; cases h
    · have := rights03 h2
      have e : (win n 1 3 = true) ↔ (!ieq n 0) = true := by
        rw [win_true]
        simp [ieq]
        omega
      cases h3 : win n 1 3 <;> cases h4 : (!ieq n 0) <;> simp_all
@[simp, reducible] def i_WalkInner_c (t : List Slot) (p n : Int) : Bool := true
@[simp, reducible] def i_WalkInner_1 (t : List Slot) (p n : Int) : Int := walkAt t p n
@[simp, reducible] def i_WalkInner_2 (t : List Slot) (p n : Int) : Bool := walkOk t p n
noncomputable def run_i_WalkInner : List AV → Option (Bool × List AV)
  | [.one (.s .slot a0), .one (.i .i64 a1), .one (.i .i64 a2)] => some ((i_WalkInner_c a0 a1 a2), [.one (.i .i64 (i_WalkInner_1 a0 a1 a2)), .one (.b (i_WalkInner_2 a0 a1 a2))])
  | _ => none

noncomputable def E_i_WalkInner (N : Nat) (a0 : List Slot) (a1 : Int) (a2 : Int) : Option Ans :=
  (bif (i_SlotAt_c a0 a1) then (bif (ieq (i_SlotAt a0 a1).Page (-1)) then (some [(.one (.i .i64 (-1))), (.one (.b false))]) else (bif (i_Enough_c (i_SlotAt a0 a1).Rights a2) then (bif (bif (i_Enough (i_SlotAt a0 a1).Rights a2) then false else true) then (some [(.one (.i .i64 (-1))), (.one (.b false))]) else (bif (i_within_c a2 1 3) then (bif (bif (i_within a2 1 3) then false else true) then (some [(.one (.i .i64 (-1))), (.one (.b false))]) else (some [(.one (.i .i64 (i_SlotAt a0 a1).Page)), (.one (.b true))])) else none)) else none)) else none)

theorem nf_i_WalkInner (N : Nat) (a0 : List Slot) (a1 : Int) (a2 : Int) : evalFn (cfgQ (aget ctrN2) (aget mctC) (aget pct0) (aget tct0)) (tmsOf []) N 12 64 [.one (.s .slot a0), .one (.i .i64 a1), .one (.i .i64 a2)] = E_i_WalkInner N a0 a1 a2 := by kernel_rfl

theorem law_i_WalkInner (a0 : List Slot) (a1 : Int) (a2 : Int) (hb : AllB big [.one (.s .slot a0), .one (.i .i64 a1), .one (.i .i64 a2)]) (hc : (i_WalkInner_c a0 a1 a2) = true) : ∃ N, E_i_WalkInner N a0 a1 a2 = some [.one (.i .i64 (i_WalkInner_1 a0 a1 a2)), .one (.b (i_WalkInner_2 a0 a1 a2))] := by
  refine ⟨0, ?_⟩
  unfold E_i_WalkInner
  refine must rfl ?_
  refine br (fun h0 => ?_) (fun h0 => ?_)
  · first | rfl | (simp only [h0, i_WalkInner_1, i_WalkInner_2, walkAt, walkOk, cT, cF] <;> rfl) | (simp_all [Ty.cells, i_WalkInner_1, i_WalkInner_2, walkAt, walkOk]; done)
  · refine must rfl ?_
    refine brN (fun h1 => ?_) (fun h1 => ?_)
    · first | rfl | (simp only [h0, h1, i_WalkInner_1, i_WalkInner_2, walkAt, walkOk, cT, cF] <;> rfl) | (simp_all [Ty.cells, i_WalkInner_1, i_WalkInner_2, walkAt, walkOk]; done)
    · refine must rfl ?_
      refine brN (fun h2 => ?_) (fun h2 => ?_)
      · first | rfl | (simp only [h0, h1, h2, i_WalkInner_1, i_WalkInner_2, walkAt, walkOk, cT, cF] <;> rfl) | (simp_all [Ty.cells, i_WalkInner_1, i_WalkInner_2, walkAt, walkOk]; done)
      · first | rfl | (simp only [h0, h1, h2, i_WalkInner_1, i_WalkInner_2, walkAt, walkOk, cT, cF] <;> rfl) | (simp_all [Ty.cells, i_WalkInner_1, i_WalkInner_2, walkAt, walkOk]; done)
theorem holds_i_WalkInner : Holds Tryz.prog 64 run_i_WalkInner := by
  refine holds_of_eval (engQ_ok ctrN2_ok mctC_ok pct0_ok tct0_ok) (fn_ok (by kernel_rfl)) ?_
  intro avs rs hr h
  have hb := allB_of_rep hr
  unfold run_i_WalkInner at h
  split at h
  · rename_i a0 a1 a2
    obtain ⟨hc, rfl⟩ := some_pair h
    obtain ⟨N, hN⟩ := law_i_WalkInner a0 a1 a2 hb hc
    exact ⟨tmsOf [], N, 12, (nf_i_WalkInner N a0 a1 a2).trans hN⟩
  · cases h

@[simp, reducible] def s_WalkInner_c (t : List Slot) (p n : Int) : Bool := true
@[simp, reducible] def s_WalkInner_1 (t : List Slot) (p n : Int) : Int := walkAt t p n
@[simp, reducible] def s_WalkInner_2 (t : List Slot) (p n : Int) : Bool := walkOk t p n
noncomputable def run_s_WalkInner : List AV → Option (Bool × List AV)
  | [.one (.s .slot a0), .one (.i .i64 a1), .one (.i .i64 a2)] => some ((s_WalkInner_c a0 a1 a2), [.one (.i .i64 (s_WalkInner_1 a0 a1 a2)), .one (.b (s_WalkInner_2 a0 a1 a2))])
  | _ => none

noncomputable def E_s_WalkInner (N : Nat) (a0 : List Slot) (a1 : Int) (a2 : Int) : Option Ans :=
  (bif (s_SlotAt_c a0 a1) then (bif (ieq (s_SlotAt a0 a1).Page (-1)) then (some [(.one (.i .i64 (-1))), (.one (.b false))]) else (bif (s_Enough_c (s_SlotAt a0 a1).Rights a2) then (bif (bif (s_Enough (s_SlotAt a0 a1).Rights a2) then false else true) then (some [(.one (.i .i64 (-1))), (.one (.b false))]) else (bif (ieq a2 0) then (some [(.one (.i .i64 (-1))), (.one (.b false))]) else (some [(.one (.i .i64 (s_SlotAt a0 a1).Page)), (.one (.b true))]))) else none)) else none)

theorem nf_s_WalkInner (N : Nat) (a0 : List Slot) (a1 : Int) (a2 : Int) : evalFn (cfgQ (aget ctrN2) (aget mctC) (aget pct0) (aget tct0)) (tmsOf []) N 12 39 [.one (.s .slot a0), .one (.i .i64 a1), .one (.i .i64 a2)] = E_s_WalkInner N a0 a1 a2 := by kernel_rfl

theorem law_s_WalkInner (a0 : List Slot) (a1 : Int) (a2 : Int) (hb : AllB big [.one (.s .slot a0), .one (.i .i64 a1), .one (.i .i64 a2)]) (hc : (s_WalkInner_c a0 a1 a2) = true) : ∃ N, E_s_WalkInner N a0 a1 a2 = some [.one (.i .i64 (s_WalkInner_1 a0 a1 a2)), .one (.b (s_WalkInner_2 a0 a1 a2))] := by
  have he := @enough_win (slotAt a0 a1).Rights a2
  refine ⟨0, ?_⟩
  unfold E_s_WalkInner
  refine must rfl ?_
  refine br (fun h0 => ?_) (fun h0 => ?_)
  · first | rfl | (simp only [h0, s_WalkInner_1, s_WalkInner_2, walkAt, walkOk, cT, cF] <;> rfl) | (simp_all [Ty.cells, s_WalkInner_1, s_WalkInner_2, walkAt, walkOk]; done)
  · refine must rfl ?_
    refine brN (fun h1 => ?_) (fun h1 => ?_)
    · first | rfl | (simp only [h0, h1, s_WalkInner_1, s_WalkInner_2, walkAt, walkOk, cT, cF] <;> rfl) | (simp_all [Ty.cells, s_WalkInner_1, s_WalkInner_2, walkAt, walkOk]; done)
    · refine br (fun h2 => ?_) (fun h2 => ?_)
      · first | rfl | (simp only [h0, h1, h2, s_WalkInner_1, s_WalkInner_2, walkAt, walkOk, cT, cF] <;> rfl) | (simp_all [Ty.cells, s_WalkInner_1, s_WalkInner_2, walkAt, walkOk]; done)
      · first | rfl | (simp only [h0, h1, h2, s_WalkInner_1, s_WalkInner_2, walkAt, walkOk, cT, cF] <;> rfl) | (simp_all [Ty.cells, s_WalkInner_1, s_WalkInner_2, walkAt, walkOk]; done)
theorem holds_s_WalkInner : Holds Tryz.prog 39 run_s_WalkInner := by
  refine holds_of_eval (engQ_ok ctrN2_ok mctC_ok pct0_ok tct0_ok) (fn_ok (by kernel_rfl)) ?_
  intro avs rs hr h
  have hb := allB_of_rep hr
  unfold run_s_WalkInner at h
  split at h
  · rename_i a0 a1 a2
    obtain ⟨hc, rfl⟩ := some_pair h
    obtain ⟨N, hN⟩ := law_s_WalkInner a0 a1 a2 hb hc
    exact ⟨tmsOf [], N, 12, (nf_s_WalkInner N a0 a1 a2).trans hN⟩
  · cases h

noncomputable def ctrN3 : Ctrs := [(159, run_x_math_bits_Len), (109, run_i_copyMem), (113, run_i_copyGuest), (39, run_s_WalkInner), (64, run_i_WalkInner), (96, run_s_MemOk), (117, run_i_MemOk), (129, run_s_ProgOk), (143, run_i_ProgOk), (131, run_s_CtlOk), (145, run_i_CtlOk), (128, run_s_TopIrq), (142, run_i_TopIrq)] ++ ctrN2

theorem ctrN3_ok : ∀ f run, aget ctrN3 f = some run → Holds Tryz.prog f run := ctr_more ctrN2_ok (by
  intro x hx
  simp only [List.mem_cons, List.not_mem_nil, or_false] at hx
  rcases hx with rfl | rfl | rfl | rfl | rfl | rfl | rfl | rfl | rfl | rfl | rfl | rfl | rfl
  · exact holds_x_math_bits_Len
  · exact holds_i_copyMem
  · exact holds_i_copyGuest
  · exact holds_s_WalkInner
  · exact holds_i_WalkInner
  · exact holds_s_MemOk
  · exact holds_i_MemOk
  · exact holds_s_ProgOk
  · exact holds_i_ProgOk
  · exact holds_s_CtlOk
  · exact holds_i_CtlOk
  · exact holds_s_TopIrq
  · exact holds_i_TopIrq)

@[simp, reducible] noncomputable def s_WithCell_c (m : List (List Int)) (p c v : Int) : Bool := pc (SmM m)
@[simp, reducible] def s_WithCell (m : List (List Int)) (p c v : Int) : List (List Int) := withCell m p c v
noncomputable def run_s_WithCell : List AV → Option (Bool × List AV)
  | [.one (.s (.sl .int) a0), .one (.i .i64 a1), .one (.i .i64 a2), .one (.i .i64 a3)] => some ((s_WithCell_c a0 a1 a2 a3), [.one (.s (.sl .int) (s_WithCell a0 a1 a2 a3))])
  | _ => none

noncomputable def E_s_WithCell (N : Nat) (a0 : List (List Int)) (a1 : Int) (a2 : Int) (a3 : Int) : Option Ans :=
  (bif (s_l04Copy_c a0) then (bif (s_l04Has_c a0 a1 a2) then (bif (s_l04Has a0 a1 a2) then (bif (s_l01In_c a3 0 99) then (bif (s_l01In a3 0 99) then (bif (inb a1 (ln (s_l04Copy a0))) then (bif (inb a2 (ln (ix (s_l04Copy a0) a1 []))) then (share (up (s_l04Copy a0) a1 (up (ix (s_l04Copy a0) a1 []) a2 a3)) (fun x5 => (some [(.one (.s (.sl .int) x5))]))) else none) else none) else (some [(.one (.s (.sl .int) (s_l04Copy a0)))])) else none) else (some [(.one (.s (.sl .int) (s_l04Copy a0)))])) else none) else none)

theorem nf_s_WithCell (N : Nat) (a0 : List (List Int)) (a1 : Int) (a2 : Int) (a3 : Int) : evalFn (cfgQ (aget ctrN3) (aget mctC) (aget pct0) (aget tct0)) (tmsOf []) N 12 44 [.one (.s (.sl .int) a0), .one (.i .i64 a1), .one (.i .i64 a2), .one (.i .i64 a3)] = E_s_WithCell N a0 a1 a2 a3 := by kernel_rfl

theorem law_s_WithCell (a0 : List (List Int)) (a1 : Int) (a2 : Int) (a3 : Int) (hb : AllB big [.one (.s (.sl .int) a0), .one (.i .i64 a1), .one (.i .i64 a2), .one (.i .i64 a3)]) (hc : (s_WithCell_c a0 a1 a2 a3) = true) : ∃ N, E_s_WithCell N a0 a1 a2 a3 = some [.one (.s (.sl .int) (s_WithCell a0 a1 a2 a3))] := by
  have hs := pc_iff.1 hc; have hm := (memHas_iff a0 a1 a2).1
  refine ⟨0, ?_⟩
  unfold E_s_WithCell
  refine must (by first | assumption | (simp_all <;> omega)) ?_
  refine must rfl ?_
  refine br (fun h0 => ?_) (fun h0 => ?_)
  · refine must rfl ?_
    refine br (fun h1 => ?_) (fun h1 => ?_)
    · refine must (by first | assumption | (simp_all <;> omega)) ?_
      refine must (by first | assumption | (simp_all <;> omega)) ?_
      refine shr ?_
      first | rfl | (simp only [h0, h1, s_WithCell, withCell, cT, cF] <;> rfl) | (simp_all [Ty.cells, s_WithCell, withCell]; done)
    · first | rfl | (simp only [h0, h1, s_WithCell, withCell, cT, cF] <;> rfl) | (simp_all [Ty.cells, s_WithCell, withCell]; done)
  · first | rfl | (simp only [h0, s_WithCell, withCell, cT, cF] <;> rfl) | (simp_all [Ty.cells, s_WithCell, withCell]; done)
theorem holds_s_WithCell : Holds Tryz.prog 44 run_s_WithCell := by
  refine holds_of_eval (engQ_ok ctrN3_ok mctC_ok pct0_ok tct0_ok) (fn_ok (by kernel_rfl)) ?_
  intro avs rs hr h
  have hb := allB_of_rep hr
  unfold run_s_WithCell at h
  split at h
  · rename_i a0 a1 a2 a3
    obtain ⟨hc, rfl⟩ := some_pair h
    obtain ⟨N, hN⟩ := law_s_WithCell a0 a1 a2 a3 hb hc
    exact ⟨tmsOf [], N, 12, (nf_s_WithCell N a0 a1 a2 a3).trans hN⟩
  · cases h

@[simp, reducible] noncomputable def i_WithCell_c (m : List (List Int)) (p c v : Int) : Bool := pc (SmM m)
@[simp, reducible] def i_WithCell (m : List (List Int)) (p c v : Int) : List (List Int) := withCell m p c v
noncomputable def run_i_WithCell : List AV → Option (Bool × List AV)
  | [.one (.s (.sl .int) a0), .one (.i .i64 a1), .one (.i .i64 a2), .one (.i .i64 a3)] => some ((i_WithCell_c a0 a1 a2 a3), [.one (.s (.sl .int) (i_WithCell a0 a1 a2 a3))])
  | _ => none

noncomputable def E_i_WithCell (N : Nat) (a0 : List (List Int)) (a1 : Int) (a2 : Int) (a3 : Int) : Option Ans :=
  (bif (i_copyMem_c a0) then (bif (i_has_c a1 (ln a0)) then (bif (i_has a1 (ln a0)) then (bif (inb a1 (ln a0)) then (bif (i_has_c a2 (ln (ix a0 a1 []))) then (bif (i_has a2 (ln (ix a0 a1 []))) then (bif (i_within_c a3 0 99) then (bif (i_within a3 0 99) then (bif (inb a1 (ln (i_copyMem a0))) then (bif (inb a2 (ln (ix (i_copyMem a0) a1 []))) then (share (up (i_copyMem a0) a1 (up (ix (i_copyMem a0) a1 []) a2 a3)) (fun x5 => (some [(.one (.s (.sl .int) x5))]))) else none) else none) else (some [(.one (.s (.sl .int) (i_copyMem a0)))])) else none) else (some [(.one (.s (.sl .int) (i_copyMem a0)))])) else none) else none) else (some [(.one (.s (.sl .int) (i_copyMem a0)))])) else none) else none)

theorem nf_i_WithCell (N : Nat) (a0 : List (List Int)) (a1 : Int) (a2 : Int) (a3 : Int) : evalFn (cfgQ (aget ctrN3) (aget mctC) (aget pct0) (aget tct0)) (tmsOf []) N 12 69 [.one (.s (.sl .int) a0), .one (.i .i64 a1), .one (.i .i64 a2), .one (.i .i64 a3)] = E_i_WithCell N a0 a1 a2 a3 := by kernel_rfl

theorem law_i_WithCell (a0 : List (List Int)) (a1 : Int) (a2 : Int) (a3 : Int) (hb : AllB big [.one (.s (.sl .int) a0), .one (.i .i64 a1), .one (.i .i64 a2), .one (.i .i64 a3)]) (hc : (i_WithCell_c a0 a1 a2 a3) = true) : ∃ N, E_i_WithCell N a0 a1 a2 a3 = some [.one (.s (.sl .int) (i_WithCell a0 a1 a2 a3))] := by
  have hs := pc_iff.1 hc
  refine ⟨0, ?_⟩
  unfold E_i_WithCell
  refine must (by first | assumption | (simp_all <;> omega)) ?_
  refine must rfl ?_
  refine br (fun h0 => ?_) (fun h0 => ?_)
  · refine must (by first | assumption | (simp_all <;> omega)) ?_
    refine must rfl ?_
    refine br (fun h1 => ?_) (fun h1 => ?_)
    · refine must rfl ?_
      refine br (fun h2 => ?_) (fun h2 => ?_)
      · refine must (by first | assumption | (simp_all <;> omega)) ?_
        refine must (by first | assumption | (simp_all <;> omega)) ?_
        refine shr ?_
        first | rfl | (simp only [h0, h1, h2, i_WithCell, withCell, memHas, cT, cF] <;> rfl) | (simp_all [Ty.cells, i_WithCell, withCell, memHas]; done)
      · first | rfl | (simp only [h0, h1, h2, i_WithCell, withCell, memHas, cT, cF] <;> rfl) | (simp_all [Ty.cells, i_WithCell, withCell, memHas]; done)
    · first | rfl | (simp only [h0, h1, i_WithCell, withCell, memHas, cT, cF] <;> rfl) | (simp_all [Ty.cells, i_WithCell, withCell, memHas]; done)
  · first | rfl | (simp only [h0, i_WithCell, withCell, memHas, cT, cF] <;> rfl) | (simp_all [Ty.cells, i_WithCell, withCell, memHas]; done)
theorem holds_i_WithCell : Holds Tryz.prog 69 run_i_WithCell := by
  refine holds_of_eval (engQ_ok ctrN3_ok mctC_ok pct0_ok tct0_ok) (fn_ok (by kernel_rfl)) ?_
  intro avs rs hr h
  have hb := allB_of_rep hr
  unfold run_i_WithCell at h
  split at h
  · rename_i a0 a1 a2 a3
    obtain ⟨hc, rfl⟩ := some_pair h
    obtain ⟨N, hN⟩ := law_i_WithCell a0 a1 a2 a3 hb hc
    exact ⟨tmsOf [], N, 12, (nf_i_WithCell N a0 a1 a2 a3).trans hN⟩
  · cases h

def takesIrq (g : Guest) : Bool := bif canRun g then (bif g.Ctl.Open then ige (topIrq g.Pending) 0 else false) else false
@[simp, reducible] def s_TakesIrq_c (g : Guest) : Bool := true
@[simp, reducible] def s_TakesIrq (g : Guest) : Bool := takesIrq g
noncomputable def run_s_TakesIrq : List AV → Option (Bool × List AV)
  | [.agg [.s .ins a0_0, .i .i64 a0_1, .i .i64 a0_2, .s .slot a0_3, .s .slot a0_4, .i .i64 a0_5, .i .i64 a0_6, .b a0_7, .i .i64 a0_8, .i .i64 a0_9, .i .i64 a0_10, .b a0_11, .i .i64 a0_12, .b a0_13, .s .int a0_14]] => some ((s_TakesIrq_c (⟨a0_0, a0_1, a0_2, a0_3, a0_4, ⟨a0_5, a0_6, a0_7⟩, a0_8, ⟨a0_9, a0_10, a0_11, a0_12⟩, a0_13, a0_14⟩ : Guest)), [.one (.b (s_TakesIrq (⟨a0_0, a0_1, a0_2, a0_3, a0_4, ⟨a0_5, a0_6, a0_7⟩, a0_8, ⟨a0_9, a0_10, a0_11, a0_12⟩, a0_13, a0_14⟩ : Guest)))])
  | _ => none

noncomputable def E_s_TakesIrq (N : Nat) (a0 : Guest) : Option Ans :=
  (bif (s_CanRun_c a0) then (bif (s_CanRun a0) then (bif a0.Ctl.Open then (bif (s_TopIrq_c a0.Pending) then (some [(.one (.b (ige (s_TopIrq a0.Pending) 0)))]) else none) else (some [(.one (.b false))])) else (some [(.one (.b false))])) else none)

theorem nf_s_TakesIrq (N : Nat) (a0 : Guest) : evalFn (cfgQ (aget ctrN3) (aget mctC) (aget pct0) (aget tct0)) (tmsOf []) N 12 94 [.agg (Ty.cells .guest a0)] = E_s_TakesIrq N a0 := by kernel_rfl

theorem law_s_TakesIrq (a0 : Guest) (hb : AllB big [.agg (Ty.cells .guest a0)]) (hc : (s_TakesIrq_c a0) = true) : ∃ N, E_s_TakesIrq N a0 = some [.one (.b (s_TakesIrq a0))] := by
  refine ⟨0, ?_⟩
  unfold E_s_TakesIrq
  refine must rfl ?_
  refine br (fun h0 => ?_) (fun h0 => ?_)
  · refine br (fun h1 => ?_) (fun h1 => ?_)
    · refine must rfl ?_
      first | rfl | (simp only [h0, h1, s_TakesIrq, takesIrq, cT, cF] <;> rfl) | (simp_all [Ty.cells, s_TakesIrq, takesIrq]; done)
    · first | rfl | (simp only [h0, h1, s_TakesIrq, takesIrq, cT, cF] <;> rfl) | (simp_all [Ty.cells, s_TakesIrq, takesIrq]; done)
  · first | rfl | (simp only [h0, s_TakesIrq, takesIrq, cT, cF] <;> rfl) | (simp_all [Ty.cells, s_TakesIrq, takesIrq]; done)
theorem holds_s_TakesIrq : Holds Tryz.prog 94 run_s_TakesIrq := by
  refine holds_of_eval (engQ_ok ctrN3_ok mctC_ok pct0_ok tct0_ok) (fn_ok (by kernel_rfl)) ?_
  intro avs rs hr h
  have hb := allB_of_rep hr
  unfold run_s_TakesIrq at h
  split at h
  · rename_i a0_0 a0_1 a0_2 a0_3 a0_4 a0_5 a0_6 a0_7 a0_8 a0_9 a0_10 a0_11 a0_12 a0_13 a0_14
    obtain ⟨hc, rfl⟩ := some_pair h
    obtain ⟨N, hN⟩ := law_s_TakesIrq (⟨a0_0, a0_1, a0_2, a0_3, a0_4, ⟨a0_5, a0_6, a0_7⟩, a0_8, ⟨a0_9, a0_10, a0_11, a0_12⟩, a0_13, a0_14⟩ : Guest) hb hc
    exact ⟨tmsOf [], N, 12, (nf_s_TakesIrq N (⟨a0_0, a0_1, a0_2, a0_3, a0_4, ⟨a0_5, a0_6, a0_7⟩, a0_8, ⟨a0_9, a0_10, a0_11, a0_12⟩, a0_13, a0_14⟩ : Guest)).trans hN⟩
  · cases h

@[simp, reducible] def i_TakesIrq_c (g : Guest) : Bool := true
@[simp, reducible] def i_TakesIrq (g : Guest) : Bool := takesIrq g
noncomputable def run_i_TakesIrq : List AV → Option (Bool × List AV)
  | [.agg [.s .ins a0_0, .i .i64 a0_1, .i .i64 a0_2, .s .slot a0_3, .s .slot a0_4, .i .i64 a0_5, .i .i64 a0_6, .b a0_7, .i .i64 a0_8, .i .i64 a0_9, .i .i64 a0_10, .b a0_11, .i .i64 a0_12, .b a0_13, .s .int a0_14]] => some ((i_TakesIrq_c (⟨a0_0, a0_1, a0_2, a0_3, a0_4, ⟨a0_5, a0_6, a0_7⟩, a0_8, ⟨a0_9, a0_10, a0_11, a0_12⟩, a0_13, a0_14⟩ : Guest)), [.one (.b (i_TakesIrq (⟨a0_0, a0_1, a0_2, a0_3, a0_4, ⟨a0_5, a0_6, a0_7⟩, a0_8, ⟨a0_9, a0_10, a0_11, a0_12⟩, a0_13, a0_14⟩ : Guest)))])
  | _ => none

noncomputable def E_i_TakesIrq (N : Nat) (a0 : Guest) : Option Ans :=
  (bif (i_CanRun_c a0) then (bif (i_CanRun a0) then (bif a0.Ctl.Open then (bif (i_TopIrq_c a0.Pending) then (some [(.one (.b (ige (i_TopIrq a0.Pending) 0)))]) else none) else (some [(.one (.b false))])) else (some [(.one (.b false))])) else none)

theorem nf_i_TakesIrq (N : Nat) (a0 : Guest) : evalFn (cfgQ (aget ctrN3) (aget mctC) (aget pct0) (aget tct0)) (tmsOf []) N 12 115 [.agg (Ty.cells .guest a0)] = E_i_TakesIrq N a0 := by kernel_rfl

theorem law_i_TakesIrq (a0 : Guest) (hb : AllB big [.agg (Ty.cells .guest a0)]) (hc : (i_TakesIrq_c a0) = true) : ∃ N, E_i_TakesIrq N a0 = some [.one (.b (i_TakesIrq a0))] := by
  refine ⟨0, ?_⟩
  unfold E_i_TakesIrq
  refine must rfl ?_
  refine br (fun h0 => ?_) (fun h0 => ?_)
  · refine br (fun h1 => ?_) (fun h1 => ?_)
    · refine must rfl ?_
      first | rfl | (simp only [h0, h1, i_TakesIrq, takesIrq, cT, cF] <;> rfl) | (simp_all [Ty.cells, i_TakesIrq, takesIrq]; done)
    · first | rfl | (simp only [h0, h1, i_TakesIrq, takesIrq, cT, cF] <;> rfl) | (simp_all [Ty.cells, i_TakesIrq, takesIrq]; done)
  · first | rfl | (simp only [h0, i_TakesIrq, takesIrq, cT, cF] <;> rfl) | (simp_all [Ty.cells, i_TakesIrq, takesIrq]; done)
theorem holds_i_TakesIrq : Holds Tryz.prog 115 run_i_TakesIrq := by
  refine holds_of_eval (engQ_ok ctrN3_ok mctC_ok pct0_ok tct0_ok) (fn_ok (by kernel_rfl)) ?_
  intro avs rs hr h
  have hb := allB_of_rep hr
  unfold run_i_TakesIrq at h
  split at h
  · rename_i a0_0 a0_1 a0_2 a0_3 a0_4 a0_5 a0_6 a0_7 a0_8 a0_9 a0_10 a0_11 a0_12 a0_13 a0_14
    obtain ⟨hc, rfl⟩ := some_pair h
    obtain ⟨N, hN⟩ := law_i_TakesIrq (⟨a0_0, a0_1, a0_2, a0_3, a0_4, ⟨a0_5, a0_6, a0_7⟩, a0_8, ⟨a0_9, a0_10, a0_11, a0_12⟩, a0_13, a0_14⟩ : Guest) hb hc
    exact ⟨tmsOf [], N, 12, (nf_i_TakesIrq N (⟨a0_0, a0_1, a0_2, a0_3, a0_4, ⟨a0_5, a0_6, a0_7⟩, a0_8, ⟨a0_9, a0_10, a0_11, a0_12⟩, a0_13, a0_14⟩ : Guest)).trans hN⟩
  · cases h

def irqRest (p : Int) : Int := bif ilt (topIrq p) 0 then p else wsub .i64 p (wshl .i64 1 (topIrq p))
def irqTop (p : Int) : Int := bif ilt (topIrq p) 0 then -1 else topIrq p
theorem topIrq_ok {p : Int} (h : ilt (topIrq p) 0 = false) : wcv .u64 (topIrq p) = topIrq p ∧ ile 0 (topIrq p) = true ∧ wandn .i64 p (wshl .i64 1 (topIrq p)) = wsub .i64 p (wshl .i64 1 (topIrq p)) := by
  unfold topIrq at *
  cases h1 : pendOk p
  · rw [h1] at h; cases h
  · simp only [h1, cT] at h ⊢
    obtain ⟨h0, h2⟩ := win_true.1 h1
    have r := of_fin (P := fun x => -1 ≤ scan x ∧ scan x ≤ 7 ∧ (0 ≤ scan x → wsub .i64 x (wshl .i64 1 (scan x)) = wandn .i64 x (wshl .i64 1 (scan x)))) scan_rng h0 h2
    have h3 : 0 ≤ scan p := by
      unfold ilt at h
      have := of_decide_eq_false h
      omega
    exact ⟨wcv_u64 h3 (by omega), decide_eq_true h3, (r.2.2 h3).symm⟩
@[simp, reducible] def s_TakeIrq_c (p : Int) : Bool := true
@[simp, reducible] def s_TakeIrq_1 (p : Int) : Int := irqRest p
@[simp, reducible] def s_TakeIrq_2 (p : Int) : Int := irqTop p
@[simp, reducible] def s_TakeIrq_3 (p : Int) : Bool := !ilt (topIrq p) 0
noncomputable def run_s_TakeIrq : List AV → Option (Bool × List AV)
  | [.one (.i .i64 a0)] => some ((s_TakeIrq_c a0), [.one (.i .i64 (s_TakeIrq_1 a0)), .one (.i .i64 (s_TakeIrq_2 a0)), .one (.b (s_TakeIrq_3 a0))])
  | _ => none

noncomputable def E_s_TakeIrq (N : Nat) (a0 : Int) : Option Ans :=
  (bif (s_TopIrq_c a0) then (bif (ilt (s_TopIrq a0) 0) then (some [(.one (.i .i64 a0)), (.one (.i .i64 (-1))), (.one (.b false))]) else (bif (ile 0 (wcv .u64 (s_TopIrq a0))) then (some [(.one (.i .i64 (wsub .i64 a0 (wshl .i64 1 (wcv .u64 (s_TopIrq a0)))))), (.one (.i .i64 (s_TopIrq a0))), (.one (.b true))]) else none)) else none)

theorem nf_s_TakeIrq (N : Nat) (a0 : Int) : evalFn (cfgQ (aget ctrN3) (aget mctC) (aget pct0) (aget tct0)) (tmsOf []) N 12 98 [.one (.i .i64 a0)] = E_s_TakeIrq N a0 := by kernel_rfl

theorem law_s_TakeIrq (a0 : Int) (hb : AllB big [.one (.i .i64 a0)]) (hc : (s_TakeIrq_c a0) = true) : ∃ N, E_s_TakeIrq N a0 = some [.one (.i .i64 (s_TakeIrq_1 a0)), .one (.i .i64 (s_TakeIrq_2 a0)), .one (.b (s_TakeIrq_3 a0))] := by
  have ht := @topIrq_ok a0
  refine ⟨0, ?_⟩
  unfold E_s_TakeIrq
  refine must rfl ?_
  refine br (fun h0 => ?_) (fun h0 => ?_)
  · first | rfl | (simp only [h0, s_TakeIrq_1, s_TakeIrq_2, s_TakeIrq_3, irqRest, irqTop, cT, cF] <;> rfl) | (simp_all [Ty.cells, s_TakeIrq_1, s_TakeIrq_2, s_TakeIrq_3, irqRest, irqTop]; done)
  · refine must (by first | assumption | (simp_all <;> omega)) ?_
    first | rfl | (simp only [h0, s_TakeIrq_1, s_TakeIrq_2, s_TakeIrq_3, irqRest, irqTop, cT, cF] <;> rfl) | (simp_all [Ty.cells, s_TakeIrq_1, s_TakeIrq_2, s_TakeIrq_3, irqRest, irqTop]; done)
theorem holds_s_TakeIrq : Holds Tryz.prog 98 run_s_TakeIrq := by
  refine holds_of_eval (engQ_ok ctrN3_ok mctC_ok pct0_ok tct0_ok) (fn_ok (by kernel_rfl)) ?_
  intro avs rs hr h
  have hb := allB_of_rep hr
  unfold run_s_TakeIrq at h
  split at h
  · rename_i a0
    obtain ⟨hc, rfl⟩ := some_pair h
    obtain ⟨N, hN⟩ := law_s_TakeIrq a0 hb hc
    exact ⟨tmsOf [], N, 12, (nf_s_TakeIrq N a0).trans hN⟩
  · cases h

@[simp, reducible] def i_TakeIrq_c (p : Int) : Bool := true
@[simp, reducible] def i_TakeIrq_1 (p : Int) : Int := irqRest p
@[simp, reducible] def i_TakeIrq_2 (p : Int) : Int := irqTop p
@[simp, reducible] def i_TakeIrq_3 (p : Int) : Bool := !ilt (topIrq p) 0
noncomputable def run_i_TakeIrq : List AV → Option (Bool × List AV)
  | [.one (.i .i64 a0)] => some ((i_TakeIrq_c a0), [.one (.i .i64 (i_TakeIrq_1 a0)), .one (.i .i64 (i_TakeIrq_2 a0)), .one (.b (i_TakeIrq_3 a0))])
  | _ => none

noncomputable def E_i_TakeIrq (N : Nat) (a0 : Int) : Option Ans :=
  (bif (i_TopIrq_c a0) then (bif (ilt (i_TopIrq a0) 0) then (some [(.one (.i .i64 a0)), (.one (.i .i64 (-1))), (.one (.b false))]) else (bif (ile 0 (i_TopIrq a0)) then (some [(.one (.i .i64 (wandn .i64 a0 (wshl .i64 1 (i_TopIrq a0))))), (.one (.i .i64 (i_TopIrq a0))), (.one (.b true))]) else none)) else none)

theorem nf_i_TakeIrq (N : Nat) (a0 : Int) : evalFn (cfgQ (aget ctrN3) (aget mctC) (aget pct0) (aget tct0)) (tmsOf []) N 12 120 [.one (.i .i64 a0)] = E_i_TakeIrq N a0 := by kernel_rfl

theorem law_i_TakeIrq (a0 : Int) (hb : AllB big [.one (.i .i64 a0)]) (hc : (i_TakeIrq_c a0) = true) : ∃ N, E_i_TakeIrq N a0 = some [.one (.i .i64 (i_TakeIrq_1 a0)), .one (.i .i64 (i_TakeIrq_2 a0)), .one (.b (i_TakeIrq_3 a0))] := by
  have ht := @topIrq_ok a0
  refine ⟨0, ?_⟩
  unfold E_i_TakeIrq
  refine must rfl ?_
  refine br (fun h0 => ?_) (fun h0 => ?_)
  · first | rfl | (simp only [h0, i_TakeIrq_1, i_TakeIrq_2, i_TakeIrq_3, irqRest, irqTop, cT, cF] <;> rfl) | (simp_all [Ty.cells, i_TakeIrq_1, i_TakeIrq_2, i_TakeIrq_3, irqRest, irqTop]; done)
  · refine must (by first | assumption | (simp_all <;> omega)) ?_
    first | rfl | (simp only [h0, i_TakeIrq_1, i_TakeIrq_2, i_TakeIrq_3, irqRest, irqTop, cT, cF] <;> rfl) | (simp_all [Ty.cells, i_TakeIrq_1, i_TakeIrq_2, i_TakeIrq_3, irqRest, irqTop]; done)
theorem holds_i_TakeIrq : Holds Tryz.prog 120 run_i_TakeIrq := by
  refine holds_of_eval (engQ_ok ctrN3_ok mctC_ok pct0_ok tct0_ok) (fn_ok (by kernel_rfl)) ?_
  intro avs rs hr h
  have hb := allB_of_rep hr
  unfold run_i_TakeIrq at h
  split at h
  · rename_i a0
    obtain ⟨hc, rfl⟩ := some_pair h
    obtain ⟨N, hN⟩ := law_i_TakeIrq a0 hb hc
    exact ⟨tmsOf [], N, 12, (nf_i_TakeIrq N a0).trans hN⟩
  · cases h

def saw (g : Guest) (n : Int) : Guest := bif ilt (ln g.Seen) 40 then { g with Seen := ap g.Seen [n] } else g
@[simp] theorem smG_saw {g : Guest} (n : Int) (h : SmG g) : SmG (saw g n) := by
  unfold saw
  cases h1 : ilt (ln g.Seen) 40
  · exact h
  · have := of_decide_eq_true h1
    refine ⟨h.1, h.2.1, h.2.2.1, ?_⟩
    simp [ln] at *; omega
@[simp, reducible] noncomputable def s_Saw_c (g : Guest) (n : Int) : Bool := pc (SmG g)
@[simp, reducible] def s_Saw (g : Guest) (n : Int) : Guest := saw g n
noncomputable def run_s_Saw : List AV → Option (Bool × List AV)
  | [.agg [.s .ins a0_0, .i .i64 a0_1, .i .i64 a0_2, .s .slot a0_3, .s .slot a0_4, .i .i64 a0_5, .i .i64 a0_6, .b a0_7, .i .i64 a0_8, .i .i64 a0_9, .i .i64 a0_10, .b a0_11, .i .i64 a0_12, .b a0_13, .s .int a0_14], .one (.i .i64 a1)] => some ((s_Saw_c (⟨a0_0, a0_1, a0_2, a0_3, a0_4, ⟨a0_5, a0_6, a0_7⟩, a0_8, ⟨a0_9, a0_10, a0_11, a0_12⟩, a0_13, a0_14⟩ : Guest) a1), [.agg (Ty.cells .guest (s_Saw (⟨a0_0, a0_1, a0_2, a0_3, a0_4, ⟨a0_5, a0_6, a0_7⟩, a0_8, ⟨a0_9, a0_10, a0_11, a0_12⟩, a0_13, a0_14⟩ : Guest) a1))])
  | _ => none

noncomputable def E_s_Saw (N : Nat) (a0 : Guest) (a1 : Int) : Option Ans :=
  (bif (s_l15Copy_c a0) then (bif (ilt (ln (s_l15Copy a0).Seen) 40) then (bif (few (ln (ap (s_l15Copy a0).Seen [a1]))) then (some [(.agg (Ty.cells .guest ({ (s_l15Copy a0) with Seen := (ap (s_l15Copy a0).Seen [a1]) } : Guest)))]) else none) else (some [(.agg (Ty.cells .guest (s_l15Copy a0)))])) else none)

theorem nf_s_Saw (N : Nat) (a0 : Guest) (a1 : Int) : evalFn (cfgQ (aget ctrN3) (aget mctC) (aget pct0) (aget tct0)) (tmsOf []) N 12 99 [.agg (Ty.cells .guest a0), .one (.i .i64 a1)] = E_s_Saw N a0 a1 := by kernel_rfl

theorem law_s_Saw (a0 : Guest) (a1 : Int) (hb : AllB big [.agg (Ty.cells .guest a0), .one (.i .i64 a1)]) (hc : (s_Saw_c a0 a1) = true) : ∃ N, E_s_Saw N a0 a1 = some [.agg (Ty.cells .guest (s_Saw a0 a1))] := by
  have hs := pc_iff.1 hc; have hz : a0.Seen.length ≤ 1048576 := hs.2.2.2
  refine ⟨0, ?_⟩
  unfold E_s_Saw
  refine must (by first | assumption | (simp_all <;> omega)) ?_
  refine br (fun h0 => ?_) (fun h0 => ?_)
  · refine must (by first | assumption | (simp_all <;> omega)) ?_
    first | rfl | (simp only [h0, s_Saw, saw, cT, cF] <;> rfl) | (simp_all [Ty.cells, s_Saw, saw]; done)
  · first | rfl | (simp only [h0, s_Saw, saw, cT, cF] <;> rfl) | (simp_all [Ty.cells, s_Saw, saw]; done)
theorem holds_s_Saw : Holds Tryz.prog 99 run_s_Saw := by
  refine holds_of_eval (engQ_ok ctrN3_ok mctC_ok pct0_ok tct0_ok) (fn_ok (by kernel_rfl)) ?_
  intro avs rs hr h
  have hb := allB_of_rep hr
  unfold run_s_Saw at h
  split at h
  · rename_i a0_0 a0_1 a0_2 a0_3 a0_4 a0_5 a0_6 a0_7 a0_8 a0_9 a0_10 a0_11 a0_12 a0_13 a0_14 a1
    obtain ⟨hc, rfl⟩ := some_pair h
    obtain ⟨N, hN⟩ := law_s_Saw (⟨a0_0, a0_1, a0_2, a0_3, a0_4, ⟨a0_5, a0_6, a0_7⟩, a0_8, ⟨a0_9, a0_10, a0_11, a0_12⟩, a0_13, a0_14⟩ : Guest) a1 hb hc
    exact ⟨tmsOf [], N, 12, (nf_s_Saw N (⟨a0_0, a0_1, a0_2, a0_3, a0_4, ⟨a0_5, a0_6, a0_7⟩, a0_8, ⟨a0_9, a0_10, a0_11, a0_12⟩, a0_13, a0_14⟩ : Guest) a1).trans hN⟩
  · cases h

@[simp, reducible] noncomputable def i_Saw_c (g : Guest) (n : Int) : Bool := pc (SmG g)
@[simp, reducible] def i_Saw (g : Guest) (n : Int) : Guest := saw g n
noncomputable def run_i_Saw : List AV → Option (Bool × List AV)
  | [.agg [.s .ins a0_0, .i .i64 a0_1, .i .i64 a0_2, .s .slot a0_3, .s .slot a0_4, .i .i64 a0_5, .i .i64 a0_6, .b a0_7, .i .i64 a0_8, .i .i64 a0_9, .i .i64 a0_10, .b a0_11, .i .i64 a0_12, .b a0_13, .s .int a0_14], .one (.i .i64 a1)] => some ((i_Saw_c (⟨a0_0, a0_1, a0_2, a0_3, a0_4, ⟨a0_5, a0_6, a0_7⟩, a0_8, ⟨a0_9, a0_10, a0_11, a0_12⟩, a0_13, a0_14⟩ : Guest) a1), [.agg (Ty.cells .guest (i_Saw (⟨a0_0, a0_1, a0_2, a0_3, a0_4, ⟨a0_5, a0_6, a0_7⟩, a0_8, ⟨a0_9, a0_10, a0_11, a0_12⟩, a0_13, a0_14⟩ : Guest) a1))])
  | _ => none

noncomputable def E_i_Saw (N : Nat) (a0 : Guest) (a1 : Int) : Option Ans :=
  (bif (i_copyGuest_c a0) then (bif (ilt (ln a0.Seen) 40) then (bif (few (ln (ap (i_copyGuest a0).Seen [a1]))) then (some [(.agg (Ty.cells .guest ({ (i_copyGuest a0) with Seen := (ap (i_copyGuest a0).Seen [a1]) } : Guest)))]) else none) else (some [(.agg (Ty.cells .guest (i_copyGuest a0)))])) else none)

theorem nf_i_Saw (N : Nat) (a0 : Guest) (a1 : Int) : evalFn (cfgQ (aget ctrN3) (aget mctC) (aget pct0) (aget tct0)) (tmsOf []) N 12 121 [.agg (Ty.cells .guest a0), .one (.i .i64 a1)] = E_i_Saw N a0 a1 := by kernel_rfl

theorem law_i_Saw (a0 : Guest) (a1 : Int) (hb : AllB big [.agg (Ty.cells .guest a0), .one (.i .i64 a1)]) (hc : (i_Saw_c a0 a1) = true) : ∃ N, E_i_Saw N a0 a1 = some [.agg (Ty.cells .guest (i_Saw a0 a1))] := by
  have hs := pc_iff.1 hc; have hz : a0.Seen.length ≤ 1048576 := hs.2.2.2
  refine ⟨0, ?_⟩
  unfold E_i_Saw
  refine must (by first | assumption | (simp_all <;> omega)) ?_
  refine br (fun h0 => ?_) (fun h0 => ?_)
  · refine must (by first | assumption | (simp_all <;> omega)) ?_
    first | rfl | (simp only [h0, i_Saw, saw, cT, cF] <;> rfl) | (simp_all [Ty.cells, i_Saw, saw]; done)
  · first | rfl | (simp only [h0, i_Saw, saw, cT, cF] <;> rfl) | (simp_all [Ty.cells, i_Saw, saw]; done)
theorem holds_i_Saw : Holds Tryz.prog 121 run_i_Saw := by
  refine holds_of_eval (engQ_ok ctrN3_ok mctC_ok pct0_ok tct0_ok) (fn_ok (by kernel_rfl)) ?_
  intro avs rs hr h
  have hb := allB_of_rep hr
  unfold run_i_Saw at h
  split at h
  · rename_i a0_0 a0_1 a0_2 a0_3 a0_4 a0_5 a0_6 a0_7 a0_8 a0_9 a0_10 a0_11 a0_12 a0_13 a0_14 a1
    obtain ⟨hc, rfl⟩ := some_pair h
    obtain ⟨N, hN⟩ := law_i_Saw (⟨a0_0, a0_1, a0_2, a0_3, a0_4, ⟨a0_5, a0_6, a0_7⟩, a0_8, ⟨a0_9, a0_10, a0_11, a0_12⟩, a0_13, a0_14⟩ : Guest) a1 hb hc
    exact ⟨tmsOf [], N, 12, (nf_i_Saw N (⟨a0_0, a0_1, a0_2, a0_3, a0_4, ⟨a0_5, a0_6, a0_7⟩, a0_8, ⟨a0_9, a0_10, a0_11, a0_12⟩, a0_13, a0_14⟩ : Guest) a1).trans hN⟩
  · cases h

def stopped (g : Guest) (e : GExit) : Guest := { g with Exit := e }
@[simp] theorem smG_stopped {g : Guest} (e : GExit) (h : SmG g) : SmG (stopped g e) := h
@[simp, reducible] noncomputable def s_Stopped_c (g : Guest) (e : GExit) : Bool := pc (SmG g)
@[simp, reducible] def s_Stopped (g : Guest) (e : GExit) : Guest := stopped g e
noncomputable def run_s_Stopped : List AV → Option (Bool × List AV)
  | [.agg [.s .ins a0_0, .i .i64 a0_1, .i .i64 a0_2, .s .slot a0_3, .s .slot a0_4, .i .i64 a0_5, .i .i64 a0_6, .b a0_7, .i .i64 a0_8, .i .i64 a0_9, .i .i64 a0_10, .b a0_11, .i .i64 a0_12, .b a0_13, .s .int a0_14], .agg [.i .i64 a1_0, .i .i64 a1_1, .b a1_2, .i .i64 a1_3]] => some ((s_Stopped_c (⟨a0_0, a0_1, a0_2, a0_3, a0_4, ⟨a0_5, a0_6, a0_7⟩, a0_8, ⟨a0_9, a0_10, a0_11, a0_12⟩, a0_13, a0_14⟩ : Guest) (⟨a1_0, a1_1, a1_2, a1_3⟩ : GExit)), [.agg (Ty.cells .guest (s_Stopped (⟨a0_0, a0_1, a0_2, a0_3, a0_4, ⟨a0_5, a0_6, a0_7⟩, a0_8, ⟨a0_9, a0_10, a0_11, a0_12⟩, a0_13, a0_14⟩ : Guest) (⟨a1_0, a1_1, a1_2, a1_3⟩ : GExit)))])
  | _ => none

noncomputable def E_s_Stopped (N : Nat) (a0 : Guest) (a1 : GExit) : Option Ans :=
  (bif (s_l15Copy_c a0) then (some [(.agg (Ty.cells .guest ({ (s_l15Copy a0) with Exit := a1 } : Guest)))]) else none)

theorem nf_s_Stopped (N : Nat) (a0 : Guest) (a1 : GExit) : evalFn (cfgQ (aget ctrN3) (aget mctC) (aget pct0) (aget tct0)) (tmsOf []) N 12 42 [.agg (Ty.cells .guest a0), .agg (exitC a1)] = E_s_Stopped N a0 a1 := by kernel_rfl

theorem law_s_Stopped (a0 : Guest) (a1 : GExit) (hb : AllB big [.agg (Ty.cells .guest a0), .agg (exitC a1)]) (hc : (s_Stopped_c a0 a1) = true) : ∃ N, E_s_Stopped N a0 a1 = some [.agg (Ty.cells .guest (s_Stopped a0 a1))] := by
  have hs := pc_iff.1 hc
  refine ⟨0, ?_⟩
  unfold E_s_Stopped
  refine must (by first | assumption | (simp_all <;> omega)) ?_
  first | rfl | (simp only [s_Stopped, stopped, cT, cF] <;> rfl) | (simp_all [Ty.cells, s_Stopped, stopped]; done)
theorem holds_s_Stopped : Holds Tryz.prog 42 run_s_Stopped := by
  refine holds_of_eval (engQ_ok ctrN3_ok mctC_ok pct0_ok tct0_ok) (fn_ok (by kernel_rfl)) ?_
  intro avs rs hr h
  have hb := allB_of_rep hr
  unfold run_s_Stopped at h
  split at h
  · rename_i a0_0 a0_1 a0_2 a0_3 a0_4 a0_5 a0_6 a0_7 a0_8 a0_9 a0_10 a0_11 a0_12 a0_13 a0_14 a1_0 a1_1 a1_2 a1_3
    obtain ⟨hc, rfl⟩ := some_pair h
    obtain ⟨N, hN⟩ := law_s_Stopped (⟨a0_0, a0_1, a0_2, a0_3, a0_4, ⟨a0_5, a0_6, a0_7⟩, a0_8, ⟨a0_9, a0_10, a0_11, a0_12⟩, a0_13, a0_14⟩ : Guest) (⟨a1_0, a1_1, a1_2, a1_3⟩ : GExit) hb hc
    exact ⟨tmsOf [], N, 12, (nf_s_Stopped N (⟨a0_0, a0_1, a0_2, a0_3, a0_4, ⟨a0_5, a0_6, a0_7⟩, a0_8, ⟨a0_9, a0_10, a0_11, a0_12⟩, a0_13, a0_14⟩ : Guest) (⟨a1_0, a1_1, a1_2, a1_3⟩ : GExit)).trans hN⟩
  · cases h

@[simp, reducible] noncomputable def i_Stopped_c (g : Guest) (e : GExit) : Bool := pc (SmG g)
@[simp, reducible] def i_Stopped (g : Guest) (e : GExit) : Guest := stopped g e
noncomputable def run_i_Stopped : List AV → Option (Bool × List AV)
  | [.agg [.s .ins a0_0, .i .i64 a0_1, .i .i64 a0_2, .s .slot a0_3, .s .slot a0_4, .i .i64 a0_5, .i .i64 a0_6, .b a0_7, .i .i64 a0_8, .i .i64 a0_9, .i .i64 a0_10, .b a0_11, .i .i64 a0_12, .b a0_13, .s .int a0_14], .agg [.i .i64 a1_0, .i .i64 a1_1, .b a1_2, .i .i64 a1_3]] => some ((i_Stopped_c (⟨a0_0, a0_1, a0_2, a0_3, a0_4, ⟨a0_5, a0_6, a0_7⟩, a0_8, ⟨a0_9, a0_10, a0_11, a0_12⟩, a0_13, a0_14⟩ : Guest) (⟨a1_0, a1_1, a1_2, a1_3⟩ : GExit)), [.agg (Ty.cells .guest (i_Stopped (⟨a0_0, a0_1, a0_2, a0_3, a0_4, ⟨a0_5, a0_6, a0_7⟩, a0_8, ⟨a0_9, a0_10, a0_11, a0_12⟩, a0_13, a0_14⟩ : Guest) (⟨a1_0, a1_1, a1_2, a1_3⟩ : GExit)))])
  | _ => none

noncomputable def E_i_Stopped (N : Nat) (a0 : Guest) (a1 : GExit) : Option Ans :=
  (bif (i_copyGuest_c a0) then (some [(.agg (Ty.cells .guest ({ (i_copyGuest a0) with Exit := a1 } : Guest)))]) else none)

theorem nf_i_Stopped (N : Nat) (a0 : Guest) (a1 : GExit) : evalFn (cfgQ (aget ctrN3) (aget mctC) (aget pct0) (aget tct0)) (tmsOf []) N 12 67 [.agg (Ty.cells .guest a0), .agg (exitC a1)] = E_i_Stopped N a0 a1 := by kernel_rfl

theorem law_i_Stopped (a0 : Guest) (a1 : GExit) (hb : AllB big [.agg (Ty.cells .guest a0), .agg (exitC a1)]) (hc : (i_Stopped_c a0 a1) = true) : ∃ N, E_i_Stopped N a0 a1 = some [.agg (Ty.cells .guest (i_Stopped a0 a1))] := by
  have hs := pc_iff.1 hc
  refine ⟨0, ?_⟩
  unfold E_i_Stopped
  refine must (by first | assumption | (simp_all <;> omega)) ?_
  first | rfl | (simp only [i_Stopped, stopped, cT, cF] <;> rfl) | (simp_all [Ty.cells, i_Stopped, stopped]; done)
theorem holds_i_Stopped : Holds Tryz.prog 67 run_i_Stopped := by
  refine holds_of_eval (engQ_ok ctrN3_ok mctC_ok pct0_ok tct0_ok) (fn_ok (by kernel_rfl)) ?_
  intro avs rs hr h
  have hb := allB_of_rep hr
  unfold run_i_Stopped at h
  split at h
  · rename_i a0_0 a0_1 a0_2 a0_3 a0_4 a0_5 a0_6 a0_7 a0_8 a0_9 a0_10 a0_11 a0_12 a0_13 a0_14 a1_0 a1_1 a1_2 a1_3
    obtain ⟨hc, rfl⟩ := some_pair h
    obtain ⟨N, hN⟩ := law_i_Stopped (⟨a0_0, a0_1, a0_2, a0_3, a0_4, ⟨a0_5, a0_6, a0_7⟩, a0_8, ⟨a0_9, a0_10, a0_11, a0_12⟩, a0_13, a0_14⟩ : Guest) (⟨a1_0, a1_1, a1_2, a1_3⟩ : GExit) hb hc
    exact ⟨tmsOf [], N, 12, (nf_i_Stopped N (⟨a0_0, a0_1, a0_2, a0_3, a0_4, ⟨a0_5, a0_6, a0_7⟩, a0_8, ⟨a0_9, a0_10, a0_11, a0_12⟩, a0_13, a0_14⟩ : Guest) (⟨a1_0, a1_1, a1_2, a1_3⟩ : GExit)).trans hN⟩
  · cases h

def movedG (g : Guest) : Guest := bif ige g.Pc 12 then { g with Pc := 12 } else { g with Pc := wadd .i64 g.Pc 1 }
@[simp] theorem smG_moved {g : Guest} (h : SmG g) : SmG (movedG g) := by
  unfold movedG
  cases ige g.Pc 12 <;> exact h
@[simp, reducible] noncomputable def s_Moved_c (g : Guest) : Bool := pc (SmG g)
@[simp, reducible] def s_Moved (g : Guest) : Guest := movedG g
noncomputable def run_s_Moved : List AV → Option (Bool × List AV)
  | [.agg [.s .ins a0_0, .i .i64 a0_1, .i .i64 a0_2, .s .slot a0_3, .s .slot a0_4, .i .i64 a0_5, .i .i64 a0_6, .b a0_7, .i .i64 a0_8, .i .i64 a0_9, .i .i64 a0_10, .b a0_11, .i .i64 a0_12, .b a0_13, .s .int a0_14]] => some ((s_Moved_c (⟨a0_0, a0_1, a0_2, a0_3, a0_4, ⟨a0_5, a0_6, a0_7⟩, a0_8, ⟨a0_9, a0_10, a0_11, a0_12⟩, a0_13, a0_14⟩ : Guest)), [.agg (Ty.cells .guest (s_Moved (⟨a0_0, a0_1, a0_2, a0_3, a0_4, ⟨a0_5, a0_6, a0_7⟩, a0_8, ⟨a0_9, a0_10, a0_11, a0_12⟩, a0_13, a0_14⟩ : Guest)))])
  | _ => none

noncomputable def E_s_Moved (N : Nat) (a0 : Guest) : Option Ans :=
  (bif (s_l15Copy_c a0) then (bif (ige (s_l15Copy a0).Pc 12) then (some [(.agg (Ty.cells .guest ({ (s_l15Copy a0) with Pc := 12 } : Guest)))]) else (some [(.agg (Ty.cells .guest ({ (s_l15Copy a0) with Pc := (wadd .i64 (s_l15Copy a0).Pc 1) } : Guest)))])) else none)

theorem nf_s_Moved (N : Nat) (a0 : Guest) : evalFn (cfgQ (aget ctrN3) (aget mctC) (aget pct0) (aget tct0)) (tmsOf []) N 12 100 [.agg (Ty.cells .guest a0)] = E_s_Moved N a0 := by kernel_rfl

theorem law_s_Moved (a0 : Guest) (hb : AllB big [.agg (Ty.cells .guest a0)]) (hc : (s_Moved_c a0) = true) : ∃ N, E_s_Moved N a0 = some [.agg (Ty.cells .guest (s_Moved a0))] := by
  have hs := pc_iff.1 hc
  refine ⟨0, ?_⟩
  unfold E_s_Moved
  refine must (by first | assumption | (simp_all <;> omega)) ?_
  refine br (fun h0 => ?_) (fun h0 => ?_)
  · first | rfl | (simp only [h0, s_Moved, movedG, cT, cF] <;> rfl) | (simp_all [Ty.cells, s_Moved, movedG]; done)
  · first | rfl | (simp only [h0, s_Moved, movedG, cT, cF] <;> rfl) | (simp_all [Ty.cells, s_Moved, movedG]; done)
theorem holds_s_Moved : Holds Tryz.prog 100 run_s_Moved := by
  refine holds_of_eval (engQ_ok ctrN3_ok mctC_ok pct0_ok tct0_ok) (fn_ok (by kernel_rfl)) ?_
  intro avs rs hr h
  have hb := allB_of_rep hr
  unfold run_s_Moved at h
  split at h
  · rename_i a0_0 a0_1 a0_2 a0_3 a0_4 a0_5 a0_6 a0_7 a0_8 a0_9 a0_10 a0_11 a0_12 a0_13 a0_14
    obtain ⟨hc, rfl⟩ := some_pair h
    obtain ⟨N, hN⟩ := law_s_Moved (⟨a0_0, a0_1, a0_2, a0_3, a0_4, ⟨a0_5, a0_6, a0_7⟩, a0_8, ⟨a0_9, a0_10, a0_11, a0_12⟩, a0_13, a0_14⟩ : Guest) hb hc
    exact ⟨tmsOf [], N, 12, (nf_s_Moved N (⟨a0_0, a0_1, a0_2, a0_3, a0_4, ⟨a0_5, a0_6, a0_7⟩, a0_8, ⟨a0_9, a0_10, a0_11, a0_12⟩, a0_13, a0_14⟩ : Guest)).trans hN⟩
  · cases h

@[simp, reducible] noncomputable def i_Moved_c (g : Guest) : Bool := pc (SmG g)
@[simp, reducible] def i_Moved (g : Guest) : Guest := movedG g
noncomputable def run_i_Moved : List AV → Option (Bool × List AV)
  | [.agg [.s .ins a0_0, .i .i64 a0_1, .i .i64 a0_2, .s .slot a0_3, .s .slot a0_4, .i .i64 a0_5, .i .i64 a0_6, .b a0_7, .i .i64 a0_8, .i .i64 a0_9, .i .i64 a0_10, .b a0_11, .i .i64 a0_12, .b a0_13, .s .int a0_14]] => some ((i_Moved_c (⟨a0_0, a0_1, a0_2, a0_3, a0_4, ⟨a0_5, a0_6, a0_7⟩, a0_8, ⟨a0_9, a0_10, a0_11, a0_12⟩, a0_13, a0_14⟩ : Guest)), [.agg (Ty.cells .guest (i_Moved (⟨a0_0, a0_1, a0_2, a0_3, a0_4, ⟨a0_5, a0_6, a0_7⟩, a0_8, ⟨a0_9, a0_10, a0_11, a0_12⟩, a0_13, a0_14⟩ : Guest)))])
  | _ => none

noncomputable def E_i_Moved (N : Nat) (a0 : Guest) : Option Ans :=
  (bif (i_copyGuest_c a0) then (bif (ige a0.Pc 12) then (some [(.agg (Ty.cells .guest ({ (i_copyGuest a0) with Pc := 12 } : Guest)))]) else (some [(.agg (Ty.cells .guest ({ (i_copyGuest a0) with Pc := (wadd .i64 a0.Pc 1) } : Guest)))])) else none)

theorem nf_i_Moved (N : Nat) (a0 : Guest) : evalFn (cfgQ (aget ctrN3) (aget mctC) (aget pct0) (aget tct0)) (tmsOf []) N 12 79 [.agg (Ty.cells .guest a0)] = E_i_Moved N a0 := by kernel_rfl

theorem law_i_Moved (a0 : Guest) (hb : AllB big [.agg (Ty.cells .guest a0)]) (hc : (i_Moved_c a0) = true) : ∃ N, E_i_Moved N a0 = some [.agg (Ty.cells .guest (i_Moved a0))] := by
  have hs := pc_iff.1 hc
  refine ⟨0, ?_⟩
  unfold E_i_Moved
  refine must (by first | assumption | (simp_all <;> omega)) ?_
  refine br (fun h0 => ?_) (fun h0 => ?_)
  · first | rfl | (simp only [h0, i_Moved, movedG, cT, cF] <;> rfl) | (simp_all [Ty.cells, i_Moved, movedG]; done)
  · first | rfl | (simp only [h0, i_Moved, movedG, cT, cF] <;> rfl) | (simp_all [Ty.cells, i_Moved, movedG]; done)
theorem holds_i_Moved : Holds Tryz.prog 79 run_i_Moved := by
  refine holds_of_eval (engQ_ok ctrN3_ok mctC_ok pct0_ok tct0_ok) (fn_ok (by kernel_rfl)) ?_
  intro avs rs hr h
  have hb := allB_of_rep hr
  unfold run_i_Moved at h
  split at h
  · rename_i a0_0 a0_1 a0_2 a0_3 a0_4 a0_5 a0_6 a0_7 a0_8 a0_9 a0_10 a0_11 a0_12 a0_13 a0_14
    obtain ⟨hc, rfl⟩ := some_pair h
    obtain ⟨N, hN⟩ := law_i_Moved (⟨a0_0, a0_1, a0_2, a0_3, a0_4, ⟨a0_5, a0_6, a0_7⟩, a0_8, ⟨a0_9, a0_10, a0_11, a0_12⟩, a0_13, a0_14⟩ : Guest) hb hc
    exact ⟨tmsOf [], N, 12, (nf_i_Moved N (⟨a0_0, a0_1, a0_2, a0_3, a0_4, ⟨a0_5, a0_6, a0_7⟩, a0_8, ⟨a0_9, a0_10, a0_11, a0_12⟩, a0_13, a0_14⟩ : Guest)).trans hN⟩
  · cases h

noncomputable def ctrN4 : Ctrs := [(44, run_s_WithCell), (69, run_i_WithCell), (94, run_s_TakesIrq), (115, run_i_TakesIrq), (98, run_s_TakeIrq), (120, run_i_TakeIrq), (99, run_s_Saw), (121, run_i_Saw), (42, run_s_Stopped), (67, run_i_Stopped), (100, run_s_Moved), (79, run_i_Moved)] ++ ctrN3

theorem ctrN4_ok : ∀ f run, aget ctrN4 f = some run → Holds Tryz.prog f run := ctr_more ctrN3_ok (by
  intro x hx
  simp only [List.mem_cons, List.not_mem_nil, or_false] at hx
  rcases hx with rfl | rfl | rfl | rfl | rfl | rfl | rfl | rfl | rfl | rfl | rfl | rfl
  · exact holds_s_WithCell
  · exact holds_i_WithCell
  · exact holds_s_TakesIrq
  · exact holds_i_TakesIrq
  · exact holds_s_TakeIrq
  · exact holds_i_TakeIrq
  · exact holds_s_Saw
  · exact holds_i_Saw
  · exact holds_s_Stopped
  · exact holds_i_Stopped
  · exact holds_s_Moved
  · exact holds_i_Moved)

def interrupted (g : Guest) : Guest := bif takesIrq g then saw { g with Pending := irqRest g.Pending } (wadd .i64 100 (irqTop g.Pending)) else g
@[simp] theorem smG_int {g : Guest} (h : SmG g) : SmG (interrupted g) := by
  unfold interrupted
  cases takesIrq g
  · exact h
  · exact smG_saw (g := { g with Pending := irqRest g.Pending }) _ h
@[simp, reducible] noncomputable def s_Interrupted_c (g : Guest) : Bool := pc (SmG g)
@[simp, reducible] def s_Interrupted (g : Guest) : Guest := interrupted g
noncomputable def run_s_Interrupted : List AV → Option (Bool × List AV)
  | [.agg [.s .ins a0_0, .i .i64 a0_1, .i .i64 a0_2, .s .slot a0_3, .s .slot a0_4, .i .i64 a0_5, .i .i64 a0_6, .b a0_7, .i .i64 a0_8, .i .i64 a0_9, .i .i64 a0_10, .b a0_11, .i .i64 a0_12, .b a0_13, .s .int a0_14]] => some ((s_Interrupted_c (⟨a0_0, a0_1, a0_2, a0_3, a0_4, ⟨a0_5, a0_6, a0_7⟩, a0_8, ⟨a0_9, a0_10, a0_11, a0_12⟩, a0_13, a0_14⟩ : Guest)), [.agg (Ty.cells .guest (s_Interrupted (⟨a0_0, a0_1, a0_2, a0_3, a0_4, ⟨a0_5, a0_6, a0_7⟩, a0_8, ⟨a0_9, a0_10, a0_11, a0_12⟩, a0_13, a0_14⟩ : Guest)))])
  | _ => none

noncomputable def E_s_Interrupted (N : Nat) (a0 : Guest) : Option Ans :=
  (bif (s_TakesIrq_c a0) then (bif (bif (s_TakesIrq a0) then false else true) then (bif (s_l15Copy_c a0) then (some [(.agg (Ty.cells .guest (s_l15Copy a0)))]) else none) else (bif (s_TakeIrq_c a0.Pending) then (bif (s_Saw_c ({ a0 with Pending := (s_TakeIrq_1 a0.Pending) } : Guest) (wadd .i64 100 (s_TakeIrq_2 a0.Pending))) then (some [(.agg (Ty.cells .guest (s_Saw ({ a0 with Pending := (s_TakeIrq_1 a0.Pending) } : Guest) (wadd .i64 100 (s_TakeIrq_2 a0.Pending)))))]) else none) else none)) else none)

theorem nf_s_Interrupted (N : Nat) (a0 : Guest) : evalFn (cfgQ (aget ctrN4) (aget mctC) (aget pct0) (aget tct0)) (tmsOf []) N 12 36 [.agg (Ty.cells .guest a0)] = E_s_Interrupted N a0 := by kernel_rfl

theorem law_s_Interrupted (a0 : Guest) (hb : AllB big [.agg (Ty.cells .guest a0)]) (hc : (s_Interrupted_c a0) = true) : ∃ N, E_s_Interrupted N a0 = some [.agg (Ty.cells .guest (s_Interrupted a0))] := by
  have hs := pc_iff.1 hc; have hz : _ ∧ _ ∧ _ ∧ _ := hs
  refine ⟨0, ?_⟩
  unfold E_s_Interrupted
  refine must rfl ?_
  refine brN (fun h0 => ?_) (fun h0 => ?_)
  · refine must (by first | assumption | (simp_all <;> omega)) ?_
    first | rfl | (simp only [h0, s_Interrupted, interrupted, cT, cF] <;> rfl) | (simp_all [Ty.cells, s_Interrupted, interrupted]; done)
  · refine must rfl ?_
    refine must (by first | assumption | (simp_all <;> omega)) ?_
    first | rfl | (simp only [h0, s_Interrupted, interrupted, cT, cF] <;> rfl) | (simp_all [Ty.cells, s_Interrupted, interrupted]; done)
theorem holds_s_Interrupted : Holds Tryz.prog 36 run_s_Interrupted := by
  refine holds_of_eval (engQ_ok ctrN4_ok mctC_ok pct0_ok tct0_ok) (fn_ok (by kernel_rfl)) ?_
  intro avs rs hr h
  have hb := allB_of_rep hr
  unfold run_s_Interrupted at h
  split at h
  · rename_i a0_0 a0_1 a0_2 a0_3 a0_4 a0_5 a0_6 a0_7 a0_8 a0_9 a0_10 a0_11 a0_12 a0_13 a0_14
    obtain ⟨hc, rfl⟩ := some_pair h
    obtain ⟨N, hN⟩ := law_s_Interrupted (⟨a0_0, a0_1, a0_2, a0_3, a0_4, ⟨a0_5, a0_6, a0_7⟩, a0_8, ⟨a0_9, a0_10, a0_11, a0_12⟩, a0_13, a0_14⟩ : Guest) hb hc
    exact ⟨tmsOf [], N, 12, (nf_s_Interrupted N (⟨a0_0, a0_1, a0_2, a0_3, a0_4, ⟨a0_5, a0_6, a0_7⟩, a0_8, ⟨a0_9, a0_10, a0_11, a0_12⟩, a0_13, a0_14⟩ : Guest)).trans hN⟩
  · cases h

@[simp, reducible] noncomputable def i_Interrupted_c (g : Guest) : Bool := pc (SmG g)
@[simp, reducible] def i_Interrupted (g : Guest) : Guest := interrupted g
noncomputable def run_i_Interrupted : List AV → Option (Bool × List AV)
  | [.agg [.s .ins a0_0, .i .i64 a0_1, .i .i64 a0_2, .s .slot a0_3, .s .slot a0_4, .i .i64 a0_5, .i .i64 a0_6, .b a0_7, .i .i64 a0_8, .i .i64 a0_9, .i .i64 a0_10, .b a0_11, .i .i64 a0_12, .b a0_13, .s .int a0_14]] => some ((i_Interrupted_c (⟨a0_0, a0_1, a0_2, a0_3, a0_4, ⟨a0_5, a0_6, a0_7⟩, a0_8, ⟨a0_9, a0_10, a0_11, a0_12⟩, a0_13, a0_14⟩ : Guest)), [.agg (Ty.cells .guest (i_Interrupted (⟨a0_0, a0_1, a0_2, a0_3, a0_4, ⟨a0_5, a0_6, a0_7⟩, a0_8, ⟨a0_9, a0_10, a0_11, a0_12⟩, a0_13, a0_14⟩ : Guest)))])
  | _ => none

noncomputable def E_i_Interrupted (N : Nat) (a0 : Guest) : Option Ans :=
  (bif (i_TakesIrq_c a0) then (bif (bif (i_TakesIrq a0) then false else true) then (bif (i_copyGuest_c a0) then (some [(.agg (Ty.cells .guest (i_copyGuest a0)))]) else none) else (bif (i_TakeIrq_c a0.Pending) then (bif (i_Saw_c ({ a0 with Pending := (i_TakeIrq_1 a0.Pending) } : Guest) (wadd .i64 100 (i_TakeIrq_2 a0.Pending))) then (some [(.agg (Ty.cells .guest (i_Saw ({ a0 with Pending := (i_TakeIrq_1 a0.Pending) } : Guest) (wadd .i64 100 (i_TakeIrq_2 a0.Pending)))))]) else none) else none)) else none)

theorem nf_i_Interrupted (N : Nat) (a0 : Guest) : evalFn (cfgQ (aget ctrN4) (aget mctC) (aget pct0) (aget tct0)) (tmsOf []) N 12 62 [.agg (Ty.cells .guest a0)] = E_i_Interrupted N a0 := by kernel_rfl

theorem law_i_Interrupted (a0 : Guest) (hb : AllB big [.agg (Ty.cells .guest a0)]) (hc : (i_Interrupted_c a0) = true) : ∃ N, E_i_Interrupted N a0 = some [.agg (Ty.cells .guest (i_Interrupted a0))] := by
  have hs := pc_iff.1 hc; have hz : _ ∧ _ ∧ _ ∧ _ := hs
  refine ⟨0, ?_⟩
  unfold E_i_Interrupted
  refine must rfl ?_
  refine brN (fun h0 => ?_) (fun h0 => ?_)
  · refine must (by first | assumption | (simp_all <;> omega)) ?_
    first | rfl | (simp only [h0, i_Interrupted, interrupted, cT, cF] <;> rfl) | (simp_all [Ty.cells, i_Interrupted, interrupted]; done)
  · refine must rfl ?_
    refine must (by first | assumption | (simp_all <;> omega)) ?_
    first | rfl | (simp only [h0, i_Interrupted, interrupted, cT, cF] <;> rfl) | (simp_all [Ty.cells, i_Interrupted, interrupted]; done)
theorem holds_i_Interrupted : Holds Tryz.prog 62 run_i_Interrupted := by
  refine holds_of_eval (engQ_ok ctrN4_ok mctC_ok pct0_ok tct0_ok) (fn_ok (by kernel_rfl)) ?_
  intro avs rs hr h
  have hb := allB_of_rep hr
  unfold run_i_Interrupted at h
  split at h
  · rename_i a0_0 a0_1 a0_2 a0_3 a0_4 a0_5 a0_6 a0_7 a0_8 a0_9 a0_10 a0_11 a0_12 a0_13 a0_14
    obtain ⟨hc, rfl⟩ := some_pair h
    obtain ⟨N, hN⟩ := law_i_Interrupted (⟨a0_0, a0_1, a0_2, a0_3, a0_4, ⟨a0_5, a0_6, a0_7⟩, a0_8, ⟨a0_9, a0_10, a0_11, a0_12⟩, a0_13, a0_14⟩ : Guest) hb hc
    exact ⟨tmsOf [], N, 12, (nf_i_Interrupted N (⟨a0_0, a0_1, a0_2, a0_3, a0_4, ⟨a0_5, a0_6, a0_7⟩, a0_8, ⟨a0_9, a0_10, a0_11, a0_12⟩, a0_13, a0_14⟩ : Guest)).trans hN⟩
  · cases h

def opWant (o : Int) : Int := bif ieq o 3 then 3 else (bif ieq o 4 then 4 else (bif ieq o 5 then 5 else (bif ieq o 6 then 6 else (bif ieq o 7 then 7 else 2))))
def wantOf (g : Guest) : Int := bif canRun g then (bif takesIrq g then 1 else opWant (insAt g.Prog g.Pc).Op) else 0
@[simp, reducible] def s_WantOf_c (g : Guest) : Bool := true
@[simp, reducible] def s_WantOf (g : Guest) : Int := wantOf g
noncomputable def run_s_WantOf : List AV → Option (Bool × List AV)
  | [.agg [.s .ins a0_0, .i .i64 a0_1, .i .i64 a0_2, .s .slot a0_3, .s .slot a0_4, .i .i64 a0_5, .i .i64 a0_6, .b a0_7, .i .i64 a0_8, .i .i64 a0_9, .i .i64 a0_10, .b a0_11, .i .i64 a0_12, .b a0_13, .s .int a0_14]] => some ((s_WantOf_c (⟨a0_0, a0_1, a0_2, a0_3, a0_4, ⟨a0_5, a0_6, a0_7⟩, a0_8, ⟨a0_9, a0_10, a0_11, a0_12⟩, a0_13, a0_14⟩ : Guest)), [.one (.i .i64 (s_WantOf (⟨a0_0, a0_1, a0_2, a0_3, a0_4, ⟨a0_5, a0_6, a0_7⟩, a0_8, ⟨a0_9, a0_10, a0_11, a0_12⟩, a0_13, a0_14⟩ : Guest)))])
  | _ => none

noncomputable def E_s_WantOf (N : Nat) (a0 : Guest) : Option Ans :=
  (bif (s_CanRun_c a0) then (bif (bif (s_CanRun a0) then false else true) then (some [(.one (.i .i64 0))]) else (bif (s_TakesIrq_c a0) then (bif (s_TakesIrq a0) then (some [(.one (.i .i64 1))]) else (bif (s_InsAt_c a0.Prog a0.Pc) then (bif (ieq (s_InsAt a0.Prog a0.Pc).Op 3) then (some [(.one (.i .i64 3))]) else (bif (ieq (s_InsAt a0.Prog a0.Pc).Op 4) then (some [(.one (.i .i64 4))]) else (bif (ieq (s_InsAt a0.Prog a0.Pc).Op 5) then (some [(.one (.i .i64 5))]) else (bif (ieq (s_InsAt a0.Prog a0.Pc).Op 6) then (some [(.one (.i .i64 6))]) else (bif (ieq (s_InsAt a0.Prog a0.Pc).Op 7) then (some [(.one (.i .i64 7))]) else (some [(.one (.i .i64 2))])))))) else none)) else none)) else none)

theorem nf_s_WantOf (N : Nat) (a0 : Guest) : evalFn (cfgQ (aget ctrN4) (aget mctC) (aget pct0) (aget tct0)) (tmsOf []) N 12 34 [.agg (Ty.cells .guest a0)] = E_s_WantOf N a0 := by kernel_rfl

theorem law_s_WantOf (a0 : Guest) (hb : AllB big [.agg (Ty.cells .guest a0)]) (hc : (s_WantOf_c a0) = true) : ∃ N, E_s_WantOf N a0 = some [.one (.i .i64 (s_WantOf a0))] := by
  refine ⟨0, ?_⟩
  unfold E_s_WantOf
  refine must rfl ?_
  refine brN (fun h0 => ?_) (fun h0 => ?_)
  · first | rfl | (simp only [h0, s_WantOf, wantOf, opWant, cT, cF] <;> rfl) | (simp_all [Ty.cells, s_WantOf, wantOf, opWant]; done)
  · refine must rfl ?_
    refine br (fun h1 => ?_) (fun h1 => ?_)
    · first | rfl | (simp only [h0, h1, s_WantOf, wantOf, opWant, cT, cF] <;> rfl) | (simp_all [Ty.cells, s_WantOf, wantOf, opWant]; done)
    · refine must rfl ?_
      refine br (fun h2 => ?_) (fun h2 => ?_)
      · first | rfl | (simp only [h0, h1, h2, s_WantOf, wantOf, opWant, cT, cF] <;> rfl) | (simp_all [Ty.cells, s_WantOf, wantOf, opWant]; done)
      · refine br (fun h3 => ?_) (fun h3 => ?_)
        · first | rfl | (simp only [h0, h1, h2, h3, s_WantOf, wantOf, opWant, cT, cF] <;> rfl) | (simp_all [Ty.cells, s_WantOf, wantOf, opWant]; done)
        · refine br (fun h4 => ?_) (fun h4 => ?_)
          · first | rfl | (simp only [h0, h1, h2, h3, h4, s_WantOf, wantOf, opWant, cT, cF] <;> rfl) | (simp_all [Ty.cells, s_WantOf, wantOf, opWant]; done)
          · refine br (fun h5 => ?_) (fun h5 => ?_)
            · first | rfl | (simp only [h0, h1, h2, h3, h4, h5, s_WantOf, wantOf, opWant, cT, cF] <;> rfl) | (simp_all [Ty.cells, s_WantOf, wantOf, opWant]; done)
            · refine br (fun h6 => ?_) (fun h6 => ?_)
              · first | rfl | (simp only [h0, h1, h2, h3, h4, h5, h6, s_WantOf, wantOf, opWant, cT, cF] <;> rfl) | (simp_all [Ty.cells, s_WantOf, wantOf, opWant]; done)
              · first | rfl | (simp only [h0, h1, h2, h3, h4, h5, h6, s_WantOf, wantOf, opWant, cT, cF] <;> rfl) | (simp_all [Ty.cells, s_WantOf, wantOf, opWant]; done)
theorem holds_s_WantOf : Holds Tryz.prog 34 run_s_WantOf := by
  refine holds_of_eval (engQ_ok ctrN4_ok mctC_ok pct0_ok tct0_ok) (fn_ok (by kernel_rfl)) ?_
  intro avs rs hr h
  have hb := allB_of_rep hr
  unfold run_s_WantOf at h
  split at h
  · rename_i a0_0 a0_1 a0_2 a0_3 a0_4 a0_5 a0_6 a0_7 a0_8 a0_9 a0_10 a0_11 a0_12 a0_13 a0_14
    obtain ⟨hc, rfl⟩ := some_pair h
    obtain ⟨N, hN⟩ := law_s_WantOf (⟨a0_0, a0_1, a0_2, a0_3, a0_4, ⟨a0_5, a0_6, a0_7⟩, a0_8, ⟨a0_9, a0_10, a0_11, a0_12⟩, a0_13, a0_14⟩ : Guest) hb hc
    exact ⟨tmsOf [], N, 12, (nf_s_WantOf N (⟨a0_0, a0_1, a0_2, a0_3, a0_4, ⟨a0_5, a0_6, a0_7⟩, a0_8, ⟨a0_9, a0_10, a0_11, a0_12⟩, a0_13, a0_14⟩ : Guest)).trans hN⟩
  · cases h

@[simp, reducible] def i_WantOf_c (g : Guest) : Bool := true
@[simp, reducible] def i_WantOf (g : Guest) : Int := wantOf g
noncomputable def run_i_WantOf : List AV → Option (Bool × List AV)
  | [.agg [.s .ins a0_0, .i .i64 a0_1, .i .i64 a0_2, .s .slot a0_3, .s .slot a0_4, .i .i64 a0_5, .i .i64 a0_6, .b a0_7, .i .i64 a0_8, .i .i64 a0_9, .i .i64 a0_10, .b a0_11, .i .i64 a0_12, .b a0_13, .s .int a0_14]] => some ((i_WantOf_c (⟨a0_0, a0_1, a0_2, a0_3, a0_4, ⟨a0_5, a0_6, a0_7⟩, a0_8, ⟨a0_9, a0_10, a0_11, a0_12⟩, a0_13, a0_14⟩ : Guest)), [.one (.i .i64 (i_WantOf (⟨a0_0, a0_1, a0_2, a0_3, a0_4, ⟨a0_5, a0_6, a0_7⟩, a0_8, ⟨a0_9, a0_10, a0_11, a0_12⟩, a0_13, a0_14⟩ : Guest)))])
  | _ => none

noncomputable def E_i_WantOf (N : Nat) (a0 : Guest) : Option Ans :=
  (bif (i_CanRun_c a0) then (bif (bif (i_CanRun a0) then false else true) then (some [(.one (.i .i64 0))]) else (bif (i_TakesIrq_c a0) then (bif (i_TakesIrq a0) then (some [(.one (.i .i64 1))]) else (bif (i_InsAt_c a0.Prog a0.Pc) then (bif (ieq (i_InsAt a0.Prog a0.Pc).Op 3) then (some [(.one (.i .i64 3))]) else (bif (ieq (i_InsAt a0.Prog a0.Pc).Op 4) then (some [(.one (.i .i64 4))]) else (bif (ieq (i_InsAt a0.Prog a0.Pc).Op 5) then (some [(.one (.i .i64 5))]) else (bif (ieq (i_InsAt a0.Prog a0.Pc).Op 6) then (some [(.one (.i .i64 6))]) else (bif (ieq (i_InsAt a0.Prog a0.Pc).Op 7) then (some [(.one (.i .i64 7))]) else (some [(.one (.i .i64 2))])))))) else none)) else none)) else none)

theorem nf_i_WantOf (N : Nat) (a0 : Guest) : evalFn (cfgQ (aget ctrN4) (aget mctC) (aget pct0) (aget tct0)) (tmsOf []) N 12 57 [.agg (Ty.cells .guest a0)] = E_i_WantOf N a0 := by kernel_rfl

theorem law_i_WantOf (a0 : Guest) (hb : AllB big [.agg (Ty.cells .guest a0)]) (hc : (i_WantOf_c a0) = true) : ∃ N, E_i_WantOf N a0 = some [.one (.i .i64 (i_WantOf a0))] := by
  refine ⟨0, ?_⟩
  unfold E_i_WantOf
  refine must rfl ?_
  refine brN (fun h0 => ?_) (fun h0 => ?_)
  · first | rfl | (simp only [h0, i_WantOf, wantOf, opWant, cT, cF] <;> rfl) | (simp_all [Ty.cells, i_WantOf, wantOf, opWant]; done)
  · refine must rfl ?_
    refine br (fun h1 => ?_) (fun h1 => ?_)
    · first | rfl | (simp only [h0, h1, i_WantOf, wantOf, opWant, cT, cF] <;> rfl) | (simp_all [Ty.cells, i_WantOf, wantOf, opWant]; done)
    · refine must rfl ?_
      refine br (fun h2 => ?_) (fun h2 => ?_)
      · first | rfl | (simp only [h0, h1, h2, i_WantOf, wantOf, opWant, cT, cF] <;> rfl) | (simp_all [Ty.cells, i_WantOf, wantOf, opWant]; done)
      · refine br (fun h3 => ?_) (fun h3 => ?_)
        · first | rfl | (simp only [h0, h1, h2, h3, i_WantOf, wantOf, opWant, cT, cF] <;> rfl) | (simp_all [Ty.cells, i_WantOf, wantOf, opWant]; done)
        · refine br (fun h4 => ?_) (fun h4 => ?_)
          · first | rfl | (simp only [h0, h1, h2, h3, h4, i_WantOf, wantOf, opWant, cT, cF] <;> rfl) | (simp_all [Ty.cells, i_WantOf, wantOf, opWant]; done)
          · refine br (fun h5 => ?_) (fun h5 => ?_)
            · first | rfl | (simp only [h0, h1, h2, h3, h4, h5, i_WantOf, wantOf, opWant, cT, cF] <;> rfl) | (simp_all [Ty.cells, i_WantOf, wantOf, opWant]; done)
            · refine br (fun h6 => ?_) (fun h6 => ?_)
              · first | rfl | (simp only [h0, h1, h2, h3, h4, h5, h6, i_WantOf, wantOf, opWant, cT, cF] <;> rfl) | (simp_all [Ty.cells, i_WantOf, wantOf, opWant]; done)
              · first | rfl | (simp only [h0, h1, h2, h3, h4, h5, h6, i_WantOf, wantOf, opWant, cT, cF] <;> rfl) | (simp_all [Ty.cells, i_WantOf, wantOf, opWant]; done)
theorem holds_i_WantOf : Holds Tryz.prog 57 run_i_WantOf := by
  refine holds_of_eval (engQ_ok ctrN4_ok mctC_ok pct0_ok tct0_ok) (fn_ok (by kernel_rfl)) ?_
  intro avs rs hr h
  have hb := allB_of_rep hr
  unfold run_i_WantOf at h
  split at h
  · rename_i a0_0 a0_1 a0_2 a0_3 a0_4 a0_5 a0_6 a0_7 a0_8 a0_9 a0_10 a0_11 a0_12 a0_13 a0_14
    obtain ⟨hc, rfl⟩ := some_pair h
    obtain ⟨N, hN⟩ := law_i_WantOf (⟨a0_0, a0_1, a0_2, a0_3, a0_4, ⟨a0_5, a0_6, a0_7⟩, a0_8, ⟨a0_9, a0_10, a0_11, a0_12⟩, a0_13, a0_14⟩ : Guest) hb hc
    exact ⟨tmsOf [], N, 12, (nf_i_WantOf N (⟨a0_0, a0_1, a0_2, a0_3, a0_4, ⟨a0_5, a0_6, a0_7⟩, a0_8, ⟨a0_9, a0_10, a0_11, a0_12⟩, a0_13, a0_14⟩ : Guest)).trans hN⟩
  · cases h

def held (g : Guest) : Guest := movedG { g with Halted := true }
@[simp] theorem smG_held {g : Guest} (h : SmG g) : SmG (held g) := smG_moved (g := { g with Halted := true }) h
@[simp, reducible] noncomputable def s_Held_c (g : Guest) : Bool := pc (SmG g)
@[simp, reducible] def s_Held (g : Guest) : Guest := held g
noncomputable def run_s_Held : List AV → Option (Bool × List AV)
  | [.agg [.s .ins a0_0, .i .i64 a0_1, .i .i64 a0_2, .s .slot a0_3, .s .slot a0_4, .i .i64 a0_5, .i .i64 a0_6, .b a0_7, .i .i64 a0_8, .i .i64 a0_9, .i .i64 a0_10, .b a0_11, .i .i64 a0_12, .b a0_13, .s .int a0_14]] => some ((s_Held_c (⟨a0_0, a0_1, a0_2, a0_3, a0_4, ⟨a0_5, a0_6, a0_7⟩, a0_8, ⟨a0_9, a0_10, a0_11, a0_12⟩, a0_13, a0_14⟩ : Guest)), [.agg (Ty.cells .guest (s_Held (⟨a0_0, a0_1, a0_2, a0_3, a0_4, ⟨a0_5, a0_6, a0_7⟩, a0_8, ⟨a0_9, a0_10, a0_11, a0_12⟩, a0_13, a0_14⟩ : Guest)))])
  | _ => none

noncomputable def E_s_Held (N : Nat) (a0 : Guest) : Option Ans :=
  (bif (s_Moved_c ({ a0 with Halted := true } : Guest)) then (some [(.agg (Ty.cells .guest (s_Moved ({ a0 with Halted := true } : Guest))))]) else none)

theorem nf_s_Held (N : Nat) (a0 : Guest) : evalFn (cfgQ (aget ctrN4) (aget mctC) (aget pct0) (aget tct0)) (tmsOf []) N 12 107 [.agg (Ty.cells .guest a0)] = E_s_Held N a0 := by kernel_rfl

theorem law_s_Held (a0 : Guest) (hb : AllB big [.agg (Ty.cells .guest a0)]) (hc : (s_Held_c a0) = true) : ∃ N, E_s_Held N a0 = some [.agg (Ty.cells .guest (s_Held a0))] := by
  have hs := pc_iff.1 hc; have hz : _ ∧ _ ∧ _ ∧ _ := hs
  refine ⟨0, ?_⟩
  unfold E_s_Held
  refine must (by first | assumption | (simp_all <;> omega)) ?_
  first | rfl | (simp only [s_Held, held, cT, cF] <;> rfl) | (simp_all [Ty.cells, s_Held, held]; done)
theorem holds_s_Held : Holds Tryz.prog 107 run_s_Held := by
  refine holds_of_eval (engQ_ok ctrN4_ok mctC_ok pct0_ok tct0_ok) (fn_ok (by kernel_rfl)) ?_
  intro avs rs hr h
  have hb := allB_of_rep hr
  unfold run_s_Held at h
  split at h
  · rename_i a0_0 a0_1 a0_2 a0_3 a0_4 a0_5 a0_6 a0_7 a0_8 a0_9 a0_10 a0_11 a0_12 a0_13 a0_14
    obtain ⟨hc, rfl⟩ := some_pair h
    obtain ⟨N, hN⟩ := law_s_Held (⟨a0_0, a0_1, a0_2, a0_3, a0_4, ⟨a0_5, a0_6, a0_7⟩, a0_8, ⟨a0_9, a0_10, a0_11, a0_12⟩, a0_13, a0_14⟩ : Guest) hb hc
    exact ⟨tmsOf [], N, 12, (nf_s_Held N (⟨a0_0, a0_1, a0_2, a0_3, a0_4, ⟨a0_5, a0_6, a0_7⟩, a0_8, ⟨a0_9, a0_10, a0_11, a0_12⟩, a0_13, a0_14⟩ : Guest)).trans hN⟩
  · cases h

@[simp, reducible] noncomputable def i_Held_c (g : Guest) : Bool := pc (SmG g)
@[simp, reducible] def i_Held (g : Guest) : Guest := held g
noncomputable def run_i_Held : List AV → Option (Bool × List AV)
  | [.agg [.s .ins a0_0, .i .i64 a0_1, .i .i64 a0_2, .s .slot a0_3, .s .slot a0_4, .i .i64 a0_5, .i .i64 a0_6, .b a0_7, .i .i64 a0_8, .i .i64 a0_9, .i .i64 a0_10, .b a0_11, .i .i64 a0_12, .b a0_13, .s .int a0_14]] => some ((i_Held_c (⟨a0_0, a0_1, a0_2, a0_3, a0_4, ⟨a0_5, a0_6, a0_7⟩, a0_8, ⟨a0_9, a0_10, a0_11, a0_12⟩, a0_13, a0_14⟩ : Guest)), [.agg (Ty.cells .guest (i_Held (⟨a0_0, a0_1, a0_2, a0_3, a0_4, ⟨a0_5, a0_6, a0_7⟩, a0_8, ⟨a0_9, a0_10, a0_11, a0_12⟩, a0_13, a0_14⟩ : Guest)))])
  | _ => none

noncomputable def E_i_Held (N : Nat) (a0 : Guest) : Option Ans :=
  (bif (i_Moved_c ({ a0 with Halted := true } : Guest)) then (some [(.agg (Ty.cells .guest (i_Moved ({ a0 with Halted := true } : Guest))))]) else none)

theorem nf_i_Held (N : Nat) (a0 : Guest) : evalFn (cfgQ (aget ctrN4) (aget mctC) (aget pct0) (aget tct0)) (tmsOf []) N 12 80 [.agg (Ty.cells .guest a0)] = E_i_Held N a0 := by kernel_rfl

theorem law_i_Held (a0 : Guest) (hb : AllB big [.agg (Ty.cells .guest a0)]) (hc : (i_Held_c a0) = true) : ∃ N, E_i_Held N a0 = some [.agg (Ty.cells .guest (i_Held a0))] := by
  have hs := pc_iff.1 hc; have hz : _ ∧ _ ∧ _ ∧ _ := hs
  refine ⟨0, ?_⟩
  unfold E_i_Held
  refine must (by first | assumption | (simp_all <;> omega)) ?_
  first | rfl | (simp only [i_Held, held, cT, cF] <;> rfl) | (simp_all [Ty.cells, i_Held, held]; done)
theorem holds_i_Held : Holds Tryz.prog 80 run_i_Held := by
  refine holds_of_eval (engQ_ok ctrN4_ok mctC_ok pct0_ok tct0_ok) (fn_ok (by kernel_rfl)) ?_
  intro avs rs hr h
  have hb := allB_of_rep hr
  unfold run_i_Held at h
  split at h
  · rename_i a0_0 a0_1 a0_2 a0_3 a0_4 a0_5 a0_6 a0_7 a0_8 a0_9 a0_10 a0_11 a0_12 a0_13 a0_14
    obtain ⟨hc, rfl⟩ := some_pair h
    obtain ⟨N, hN⟩ := law_i_Held (⟨a0_0, a0_1, a0_2, a0_3, a0_4, ⟨a0_5, a0_6, a0_7⟩, a0_8, ⟨a0_9, a0_10, a0_11, a0_12⟩, a0_13, a0_14⟩ : Guest) hb hc
    exact ⟨tmsOf [], N, 12, (nf_i_Held N (⟨a0_0, a0_1, a0_2, a0_3, a0_4, ⟨a0_5, a0_6, a0_7⟩, a0_8, ⟨a0_9, a0_10, a0_11, a0_12⟩, a0_13, a0_14⟩ : Guest)).trans hN⟩
  · cases h

@[simp, reducible] noncomputable def s_Stored_c (g : Guest) : Bool := pc (SmG g)
@[simp, reducible] def s_Stored (g : Guest) : Guest := movedG g
noncomputable def run_s_Stored : List AV → Option (Bool × List AV)
  | [.agg [.s .ins a0_0, .i .i64 a0_1, .i .i64 a0_2, .s .slot a0_3, .s .slot a0_4, .i .i64 a0_5, .i .i64 a0_6, .b a0_7, .i .i64 a0_8, .i .i64 a0_9, .i .i64 a0_10, .b a0_11, .i .i64 a0_12, .b a0_13, .s .int a0_14]] => some ((s_Stored_c (⟨a0_0, a0_1, a0_2, a0_3, a0_4, ⟨a0_5, a0_6, a0_7⟩, a0_8, ⟨a0_9, a0_10, a0_11, a0_12⟩, a0_13, a0_14⟩ : Guest)), [.agg (Ty.cells .guest (s_Stored (⟨a0_0, a0_1, a0_2, a0_3, a0_4, ⟨a0_5, a0_6, a0_7⟩, a0_8, ⟨a0_9, a0_10, a0_11, a0_12⟩, a0_13, a0_14⟩ : Guest)))])
  | _ => none

noncomputable def E_s_Stored (N : Nat) (a0 : Guest) : Option Ans :=
  (bif (s_Moved_c a0) then (some [(.agg (Ty.cells .guest (s_Moved a0)))]) else none)

theorem nf_s_Stored (N : Nat) (a0 : Guest) : evalFn (cfgQ (aget ctrN4) (aget mctC) (aget pct0) (aget tct0)) (tmsOf []) N 12 46 [.agg (Ty.cells .guest a0)] = E_s_Stored N a0 := by kernel_rfl

theorem law_s_Stored (a0 : Guest) (hb : AllB big [.agg (Ty.cells .guest a0)]) (hc : (s_Stored_c a0) = true) : ∃ N, E_s_Stored N a0 = some [.agg (Ty.cells .guest (s_Stored a0))] := by
  have hs := pc_iff.1 hc
  refine ⟨0, ?_⟩
  unfold E_s_Stored
  refine must (by first | assumption | (simp_all <;> omega)) ?_
  first | rfl | (simp only [s_Stored, cT, cF] <;> rfl) | (simp_all [Ty.cells, s_Stored]; done)
theorem holds_s_Stored : Holds Tryz.prog 46 run_s_Stored := by
  refine holds_of_eval (engQ_ok ctrN4_ok mctC_ok pct0_ok tct0_ok) (fn_ok (by kernel_rfl)) ?_
  intro avs rs hr h
  have hb := allB_of_rep hr
  unfold run_s_Stored at h
  split at h
  · rename_i a0_0 a0_1 a0_2 a0_3 a0_4 a0_5 a0_6 a0_7 a0_8 a0_9 a0_10 a0_11 a0_12 a0_13 a0_14
    obtain ⟨hc, rfl⟩ := some_pair h
    obtain ⟨N, hN⟩ := law_s_Stored (⟨a0_0, a0_1, a0_2, a0_3, a0_4, ⟨a0_5, a0_6, a0_7⟩, a0_8, ⟨a0_9, a0_10, a0_11, a0_12⟩, a0_13, a0_14⟩ : Guest) hb hc
    exact ⟨tmsOf [], N, 12, (nf_s_Stored N (⟨a0_0, a0_1, a0_2, a0_3, a0_4, ⟨a0_5, a0_6, a0_7⟩, a0_8, ⟨a0_9, a0_10, a0_11, a0_12⟩, a0_13, a0_14⟩ : Guest)).trans hN⟩
  · cases h

@[simp, reducible] noncomputable def i_Stored_c (g : Guest) : Bool := pc (SmG g)
@[simp, reducible] def i_Stored (g : Guest) : Guest := movedG g
noncomputable def run_i_Stored : List AV → Option (Bool × List AV)
  | [.agg [.s .ins a0_0, .i .i64 a0_1, .i .i64 a0_2, .s .slot a0_3, .s .slot a0_4, .i .i64 a0_5, .i .i64 a0_6, .b a0_7, .i .i64 a0_8, .i .i64 a0_9, .i .i64 a0_10, .b a0_11, .i .i64 a0_12, .b a0_13, .s .int a0_14]] => some ((i_Stored_c (⟨a0_0, a0_1, a0_2, a0_3, a0_4, ⟨a0_5, a0_6, a0_7⟩, a0_8, ⟨a0_9, a0_10, a0_11, a0_12⟩, a0_13, a0_14⟩ : Guest)), [.agg (Ty.cells .guest (i_Stored (⟨a0_0, a0_1, a0_2, a0_3, a0_4, ⟨a0_5, a0_6, a0_7⟩, a0_8, ⟨a0_9, a0_10, a0_11, a0_12⟩, a0_13, a0_14⟩ : Guest)))])
  | _ => none

noncomputable def E_i_Stored (N : Nat) (a0 : Guest) : Option Ans :=
  (bif (i_Moved_c a0) then (some [(.agg (Ty.cells .guest (i_Moved a0)))]) else none)

theorem nf_i_Stored (N : Nat) (a0 : Guest) : evalFn (cfgQ (aget ctrN4) (aget mctC) (aget pct0) (aget tct0)) (tmsOf []) N 12 71 [.agg (Ty.cells .guest a0)] = E_i_Stored N a0 := by kernel_rfl

theorem law_i_Stored (a0 : Guest) (hb : AllB big [.agg (Ty.cells .guest a0)]) (hc : (i_Stored_c a0) = true) : ∃ N, E_i_Stored N a0 = some [.agg (Ty.cells .guest (i_Stored a0))] := by
  have hs := pc_iff.1 hc
  refine ⟨0, ?_⟩
  unfold E_i_Stored
  refine must (by first | assumption | (simp_all <;> omega)) ?_
  first | rfl | (simp only [i_Stored, cT, cF] <;> rfl) | (simp_all [Ty.cells, i_Stored]; done)
theorem holds_i_Stored : Holds Tryz.prog 71 run_i_Stored := by
  refine holds_of_eval (engQ_ok ctrN4_ok mctC_ok pct0_ok tct0_ok) (fn_ok (by kernel_rfl)) ?_
  intro avs rs hr h
  have hb := allB_of_rep hr
  unfold run_i_Stored at h
  split at h
  · rename_i a0_0 a0_1 a0_2 a0_3 a0_4 a0_5 a0_6 a0_7 a0_8 a0_9 a0_10 a0_11 a0_12 a0_13 a0_14
    obtain ⟨hc, rfl⟩ := some_pair h
    obtain ⟨N, hN⟩ := law_i_Stored (⟨a0_0, a0_1, a0_2, a0_3, a0_4, ⟨a0_5, a0_6, a0_7⟩, a0_8, ⟨a0_9, a0_10, a0_11, a0_12⟩, a0_13, a0_14⟩ : Guest) hb hc
    exact ⟨tmsOf [], N, 12, (nf_i_Stored N (⟨a0_0, a0_1, a0_2, a0_3, a0_4, ⟨a0_5, a0_6, a0_7⟩, a0_8, ⟨a0_9, a0_10, a0_11, a0_12⟩, a0_13, a0_14⟩ : Guest)).trans hN⟩
  · cases h

def loaded (g : Guest) (v : Int) : Guest := movedG (saw { g with A := v } v)
@[simp] theorem smG_loaded {g : Guest} (v : Int) (h : SmG g) : SmG (loaded g v) := smG_moved (smG_saw (g := { g with A := v }) v h)
@[simp, reducible] noncomputable def s_Loaded_c (g : Guest) (v : Int) : Bool := pc (SmG g)
@[simp, reducible] def s_Loaded (g : Guest) (v : Int) : Guest := loaded g v
noncomputable def run_s_Loaded : List AV → Option (Bool × List AV)
  | [.agg [.s .ins a0_0, .i .i64 a0_1, .i .i64 a0_2, .s .slot a0_3, .s .slot a0_4, .i .i64 a0_5, .i .i64 a0_6, .b a0_7, .i .i64 a0_8, .i .i64 a0_9, .i .i64 a0_10, .b a0_11, .i .i64 a0_12, .b a0_13, .s .int a0_14], .one (.i .i64 a1)] => some ((s_Loaded_c (⟨a0_0, a0_1, a0_2, a0_3, a0_4, ⟨a0_5, a0_6, a0_7⟩, a0_8, ⟨a0_9, a0_10, a0_11, a0_12⟩, a0_13, a0_14⟩ : Guest) a1), [.agg (Ty.cells .guest (s_Loaded (⟨a0_0, a0_1, a0_2, a0_3, a0_4, ⟨a0_5, a0_6, a0_7⟩, a0_8, ⟨a0_9, a0_10, a0_11, a0_12⟩, a0_13, a0_14⟩ : Guest) a1))])
  | _ => none

noncomputable def E_s_Loaded (N : Nat) (a0 : Guest) (a1 : Int) : Option Ans :=
  (bif (s_Saw_c ({ a0 with A := a1 } : Guest) a1) then (bif (s_Moved_c (s_Saw ({ a0 with A := a1 } : Guest) a1)) then (some [(.agg (Ty.cells .guest (s_Moved (s_Saw ({ a0 with A := a1 } : Guest) a1))))]) else none) else none)

theorem nf_s_Loaded (N : Nat) (a0 : Guest) (a1 : Int) : evalFn (cfgQ (aget ctrN4) (aget mctC) (aget pct0) (aget tct0)) (tmsOf []) N 12 47 [.agg (Ty.cells .guest a0), .one (.i .i64 a1)] = E_s_Loaded N a0 a1 := by kernel_rfl

theorem law_s_Loaded (a0 : Guest) (a1 : Int) (hb : AllB big [.agg (Ty.cells .guest a0), .one (.i .i64 a1)]) (hc : (s_Loaded_c a0 a1) = true) : ∃ N, E_s_Loaded N a0 a1 = some [.agg (Ty.cells .guest (s_Loaded a0 a1))] := by
  have hs := pc_iff.1 hc; have hz : _ ∧ _ ∧ _ ∧ _ := hs; have hk : SmG (saw { a0 with A := a1 } a1) := smG_saw (g := { a0 with A := a1 }) a1 hs
  refine ⟨0, ?_⟩
  unfold E_s_Loaded
  refine must (by first | assumption | (simp_all <;> omega)) ?_
  refine must (by first | assumption | (simp_all <;> omega)) ?_
  first | rfl | (simp only [s_Loaded, loaded, cT, cF] <;> rfl) | (simp_all [Ty.cells, s_Loaded, loaded]; done)
theorem holds_s_Loaded : Holds Tryz.prog 47 run_s_Loaded := by
  refine holds_of_eval (engQ_ok ctrN4_ok mctC_ok pct0_ok tct0_ok) (fn_ok (by kernel_rfl)) ?_
  intro avs rs hr h
  have hb := allB_of_rep hr
  unfold run_s_Loaded at h
  split at h
  · rename_i a0_0 a0_1 a0_2 a0_3 a0_4 a0_5 a0_6 a0_7 a0_8 a0_9 a0_10 a0_11 a0_12 a0_13 a0_14 a1
    obtain ⟨hc, rfl⟩ := some_pair h
    obtain ⟨N, hN⟩ := law_s_Loaded (⟨a0_0, a0_1, a0_2, a0_3, a0_4, ⟨a0_5, a0_6, a0_7⟩, a0_8, ⟨a0_9, a0_10, a0_11, a0_12⟩, a0_13, a0_14⟩ : Guest) a1 hb hc
    exact ⟨tmsOf [], N, 12, (nf_s_Loaded N (⟨a0_0, a0_1, a0_2, a0_3, a0_4, ⟨a0_5, a0_6, a0_7⟩, a0_8, ⟨a0_9, a0_10, a0_11, a0_12⟩, a0_13, a0_14⟩ : Guest) a1).trans hN⟩
  · cases h

@[simp, reducible] noncomputable def i_Loaded_c (g : Guest) (v : Int) : Bool := pc (SmG g)
@[simp, reducible] def i_Loaded (g : Guest) (v : Int) : Guest := loaded g v
noncomputable def run_i_Loaded : List AV → Option (Bool × List AV)
  | [.agg [.s .ins a0_0, .i .i64 a0_1, .i .i64 a0_2, .s .slot a0_3, .s .slot a0_4, .i .i64 a0_5, .i .i64 a0_6, .b a0_7, .i .i64 a0_8, .i .i64 a0_9, .i .i64 a0_10, .b a0_11, .i .i64 a0_12, .b a0_13, .s .int a0_14], .one (.i .i64 a1)] => some ((i_Loaded_c (⟨a0_0, a0_1, a0_2, a0_3, a0_4, ⟨a0_5, a0_6, a0_7⟩, a0_8, ⟨a0_9, a0_10, a0_11, a0_12⟩, a0_13, a0_14⟩ : Guest) a1), [.agg (Ty.cells .guest (i_Loaded (⟨a0_0, a0_1, a0_2, a0_3, a0_4, ⟨a0_5, a0_6, a0_7⟩, a0_8, ⟨a0_9, a0_10, a0_11, a0_12⟩, a0_13, a0_14⟩ : Guest) a1))])
  | _ => none

noncomputable def E_i_Loaded (N : Nat) (a0 : Guest) (a1 : Int) : Option Ans :=
  (bif (i_Saw_c ({ a0 with A := a1 } : Guest) a1) then (bif (i_Moved_c (i_Saw ({ a0 with A := a1 } : Guest) a1)) then (some [(.agg (Ty.cells .guest (i_Moved (i_Saw ({ a0 with A := a1 } : Guest) a1))))]) else none) else none)

theorem nf_i_Loaded (N : Nat) (a0 : Guest) (a1 : Int) : evalFn (cfgQ (aget ctrN4) (aget mctC) (aget pct0) (aget tct0)) (tmsOf []) N 12 72 [.agg (Ty.cells .guest a0), .one (.i .i64 a1)] = E_i_Loaded N a0 a1 := by kernel_rfl

theorem law_i_Loaded (a0 : Guest) (a1 : Int) (hb : AllB big [.agg (Ty.cells .guest a0), .one (.i .i64 a1)]) (hc : (i_Loaded_c a0 a1) = true) : ∃ N, E_i_Loaded N a0 a1 = some [.agg (Ty.cells .guest (i_Loaded a0 a1))] := by
  have hs := pc_iff.1 hc; have hz : _ ∧ _ ∧ _ ∧ _ := hs; have hk : SmG (saw { a0 with A := a1 } a1) := smG_saw (g := { a0 with A := a1 }) a1 hs
  refine ⟨0, ?_⟩
  unfold E_i_Loaded
  refine must (by first | assumption | (simp_all <;> omega)) ?_
  refine must (by first | assumption | (simp_all <;> omega)) ?_
  first | rfl | (simp only [i_Loaded, loaded, cT, cF] <;> rfl) | (simp_all [Ty.cells, i_Loaded, loaded]; done)
theorem holds_i_Loaded : Holds Tryz.prog 72 run_i_Loaded := by
  refine holds_of_eval (engQ_ok ctrN4_ok mctC_ok pct0_ok tct0_ok) (fn_ok (by kernel_rfl)) ?_
  intro avs rs hr h
  have hb := allB_of_rep hr
  unfold run_i_Loaded at h
  split at h
  · rename_i a0_0 a0_1 a0_2 a0_3 a0_4 a0_5 a0_6 a0_7 a0_8 a0_9 a0_10 a0_11 a0_12 a0_13 a0_14 a1
    obtain ⟨hc, rfl⟩ := some_pair h
    obtain ⟨N, hN⟩ := law_i_Loaded (⟨a0_0, a0_1, a0_2, a0_3, a0_4, ⟨a0_5, a0_6, a0_7⟩, a0_8, ⟨a0_9, a0_10, a0_11, a0_12⟩, a0_13, a0_14⟩ : Guest) a1 hb hc
    exact ⟨tmsOf [], N, 12, (nf_i_Loaded N (⟨a0_0, a0_1, a0_2, a0_3, a0_4, ⟨a0_5, a0_6, a0_7⟩, a0_8, ⟨a0_9, a0_10, a0_11, a0_12⟩, a0_13, a0_14⟩ : Guest) a1).trans hN⟩
  · cases h

def trapped (g : Guest) (w : Int) : Guest := bif ieq w 5 then stopped g (outExit (insAt g.Prog g.Pc).X) else stopped g ⟨4, 0, false, 0⟩
@[simp] theorem smG_trapped {g : Guest} (w : Int) (h : SmG g) : SmG (trapped g w) := by
  unfold trapped
  cases ieq w 5 <;> exact h
@[simp, reducible] noncomputable def i_trapped_c (g : Guest) (w : Int) : Bool := pc (SmG g)
@[simp, reducible] def i_trapped (g : Guest) (w : Int) : Guest := trapped g w
noncomputable def run_i_trapped : List AV → Option (Bool × List AV)
  | [.agg [.s .ins a0_0, .i .i64 a0_1, .i .i64 a0_2, .s .slot a0_3, .s .slot a0_4, .i .i64 a0_5, .i .i64 a0_6, .b a0_7, .i .i64 a0_8, .i .i64 a0_9, .i .i64 a0_10, .b a0_11, .i .i64 a0_12, .b a0_13, .s .int a0_14], .one (.i .i64 a1)] => some ((i_trapped_c (⟨a0_0, a0_1, a0_2, a0_3, a0_4, ⟨a0_5, a0_6, a0_7⟩, a0_8, ⟨a0_9, a0_10, a0_11, a0_12⟩, a0_13, a0_14⟩ : Guest) a1), [.agg (Ty.cells .guest (i_trapped (⟨a0_0, a0_1, a0_2, a0_3, a0_4, ⟨a0_5, a0_6, a0_7⟩, a0_8, ⟨a0_9, a0_10, a0_11, a0_12⟩, a0_13, a0_14⟩ : Guest) a1))])
  | _ => none

noncomputable def E_i_trapped (N : Nat) (a0 : Guest) (a1 : Int) : Option Ans :=
  (bif (ieq a1 5) then (bif (i_InsAt_c a0.Prog a0.Pc) then (bif (i_OutExit_c (i_InsAt a0.Prog a0.Pc).X) then (bif (i_Stopped_c a0 (i_OutExit (i_InsAt a0.Prog a0.Pc).X)) then (some [(.agg (Ty.cells .guest (i_Stopped a0 (i_OutExit (i_InsAt a0.Prog a0.Pc).X))))]) else none) else none) else none) else (bif (i_Stopped_c a0 (⟨4, 0, false, 0⟩ : GExit)) then (some [(.agg (Ty.cells .guest (i_Stopped a0 (⟨4, 0, false, 0⟩ : GExit))))]) else none))

theorem nf_i_trapped (N : Nat) (a0 : Guest) (a1 : Int) : evalFn (cfgQ (aget ctrN4) (aget mctC) (aget pct0) (aget tct0)) (tmsOf []) N 12 77 [.agg (Ty.cells .guest a0), .one (.i .i64 a1)] = E_i_trapped N a0 a1 := by kernel_rfl

theorem law_i_trapped (a0 : Guest) (a1 : Int) (hb : AllB big [.agg (Ty.cells .guest a0), .one (.i .i64 a1)]) (hc : (i_trapped_c a0 a1) = true) : ∃ N, E_i_trapped N a0 a1 = some [.agg (Ty.cells .guest (i_trapped a0 a1))] := by
  have hs := pc_iff.1 hc
  refine ⟨0, ?_⟩
  unfold E_i_trapped
  refine br (fun h0 => ?_) (fun h0 => ?_)
  · refine must rfl ?_
    refine must rfl ?_
    refine must (by first | assumption | (simp_all <;> omega)) ?_
    first | rfl | (simp only [h0, i_trapped, trapped, cT, cF] <;> rfl) | (simp_all [Ty.cells, i_trapped, trapped]; done)
  · refine must (by first | assumption | (simp_all <;> omega)) ?_
    first | rfl | (simp only [h0, i_trapped, trapped, cT, cF] <;> rfl) | (simp_all [Ty.cells, i_trapped, trapped]; done)
theorem holds_i_trapped : Holds Tryz.prog 77 run_i_trapped := by
  refine holds_of_eval (engQ_ok ctrN4_ok mctC_ok pct0_ok tct0_ok) (fn_ok (by kernel_rfl)) ?_
  intro avs rs hr h
  have hb := allB_of_rep hr
  unfold run_i_trapped at h
  split at h
  · rename_i a0_0 a0_1 a0_2 a0_3 a0_4 a0_5 a0_6 a0_7 a0_8 a0_9 a0_10 a0_11 a0_12 a0_13 a0_14 a1
    obtain ⟨hc, rfl⟩ := some_pair h
    obtain ⟨N, hN⟩ := law_i_trapped (⟨a0_0, a0_1, a0_2, a0_3, a0_4, ⟨a0_5, a0_6, a0_7⟩, a0_8, ⟨a0_9, a0_10, a0_11, a0_12⟩, a0_13, a0_14⟩ : Guest) a1 hb hc
    exact ⟨tmsOf [], N, 12, (nf_i_trapped N (⟨a0_0, a0_1, a0_2, a0_3, a0_4, ⟨a0_5, a0_6, a0_7⟩, a0_8, ⟨a0_9, a0_10, a0_11, a0_12⟩, a0_13, a0_14⟩ : Guest) a1).trans hN⟩
  · cases h

def guestOk (g : Guest) : Bool := progOk g.Prog && (win g.A 0 99 && (win g.Pc 0 12 && (tableOk g.Written 4 8 && (tableOk g.Live 4 8 && (ctlOk g.Ctl && (pendOk g.Pending && (exitOk g.Exit && ile (ln g.Seen) 40)))))))
@[simp, reducible] def s_GuestOk_c (g : Guest) : Bool := true
@[simp, reducible] def s_GuestOk (g : Guest) : Bool := guestOk g
noncomputable def run_s_GuestOk : List AV → Option (Bool × List AV)
  | [.agg [.s .ins a0_0, .i .i64 a0_1, .i .i64 a0_2, .s .slot a0_3, .s .slot a0_4, .i .i64 a0_5, .i .i64 a0_6, .b a0_7, .i .i64 a0_8, .i .i64 a0_9, .i .i64 a0_10, .b a0_11, .i .i64 a0_12, .b a0_13, .s .int a0_14]] => some ((s_GuestOk_c (⟨a0_0, a0_1, a0_2, a0_3, a0_4, ⟨a0_5, a0_6, a0_7⟩, a0_8, ⟨a0_9, a0_10, a0_11, a0_12⟩, a0_13, a0_14⟩ : Guest)), [.one (.b (s_GuestOk (⟨a0_0, a0_1, a0_2, a0_3, a0_4, ⟨a0_5, a0_6, a0_7⟩, a0_8, ⟨a0_9, a0_10, a0_11, a0_12⟩, a0_13, a0_14⟩ : Guest)))])
  | _ => none

noncomputable def E_s_GuestOk (N : Nat) (a0 : Guest) : Option Ans :=
  (bif (s_ProgOk_c a0.Prog) then (bif (s_ProgOk a0.Prog) then (bif (s_l01In_c a0.A 0 99) then (bif (s_l01In a0.A 0 99) then (bif (s_l01In_c a0.Pc 0 12) then (bif (s_l01In a0.Pc 0 12) then (bif (s_TableOk_c a0.Written 4 8) then (bif (s_TableOk a0.Written 4 8) then (bif (s_TableOk_c a0.Live 4 8) then (bif (s_TableOk a0.Live 4 8) then (bif (s_CtlOk_c a0.Ctl) then (bif (s_CtlOk a0.Ctl) then (bif (s_PendOk_c a0.Pending) then (bif (s_PendOk a0.Pending) then (bif (s_ExitOk_c a0.Exit) then (bif (s_ExitOk a0.Exit) then (some [(.one (.b (ile (ln a0.Seen) 40)))]) else (some [(.one (.b false))])) else none) else (some [(.one (.b false))])) else none) else (some [(.one (.b false))])) else none) else (some [(.one (.b false))])) else none) else (some [(.one (.b false))])) else none) else (some [(.one (.b false))])) else none) else (some [(.one (.b false))])) else none) else (some [(.one (.b false))])) else none)

theorem nf_s_GuestOk (N : Nat) (a0 : Guest) : evalFn (cfgQ (aget ctrN4) (aget mctC) (aget pct0) (aget tct0)) (tmsOf []) N 12 95 [.agg (Ty.cells .guest a0)] = E_s_GuestOk N a0 := by kernel_rfl

theorem law_s_GuestOk (a0 : Guest) (hb : AllB big [.agg (Ty.cells .guest a0)]) (hc : (s_GuestOk_c a0) = true) : ∃ N, E_s_GuestOk N a0 = some [.one (.b (s_GuestOk a0))] := by
  refine ⟨0, ?_⟩
  unfold E_s_GuestOk
  refine must rfl ?_
  refine br (fun h0 => ?_) (fun h0 => ?_)
  · refine must rfl ?_
    refine br (fun h1 => ?_) (fun h1 => ?_)
    · refine must rfl ?_
      refine br (fun h2 => ?_) (fun h2 => ?_)
      · refine must rfl ?_
        refine br (fun h3 => ?_) (fun h3 => ?_)
        · refine must rfl ?_
          refine br (fun h4 => ?_) (fun h4 => ?_)
          · refine must rfl ?_
            refine br (fun h5 => ?_) (fun h5 => ?_)
            · refine must rfl ?_
              refine br (fun h6 => ?_) (fun h6 => ?_)
              · refine must rfl ?_
                refine br (fun h7 => ?_) (fun h7 => ?_)
                · first | rfl | (simp only [h0, h1, h2, h3, h4, h5, h6, h7, s_GuestOk, guestOk, cT, cF] <;> rfl) | (simp_all [Ty.cells, s_GuestOk, guestOk]; done)
                · first | rfl | (simp only [h0, h1, h2, h3, h4, h5, h6, h7, s_GuestOk, guestOk, cT, cF] <;> rfl) | (simp_all [Ty.cells, s_GuestOk, guestOk]; done)
              · first | rfl | (simp only [h0, h1, h2, h3, h4, h5, h6, s_GuestOk, guestOk, cT, cF] <;> rfl) | (simp_all [Ty.cells, s_GuestOk, guestOk]; done)
            · first | rfl | (simp only [h0, h1, h2, h3, h4, h5, s_GuestOk, guestOk, cT, cF] <;> rfl) | (simp_all [Ty.cells, s_GuestOk, guestOk]; done)
          · first | rfl | (simp only [h0, h1, h2, h3, h4, s_GuestOk, guestOk, cT, cF] <;> rfl) | (simp_all [Ty.cells, s_GuestOk, guestOk]; done)
        · first | rfl | (simp only [h0, h1, h2, h3, s_GuestOk, guestOk, cT, cF] <;> rfl) | (simp_all [Ty.cells, s_GuestOk, guestOk]; done)
      · first | rfl | (simp only [h0, h1, h2, s_GuestOk, guestOk, cT, cF] <;> rfl) | (simp_all [Ty.cells, s_GuestOk, guestOk]; done)
    · first | rfl | (simp only [h0, h1, s_GuestOk, guestOk, cT, cF] <;> rfl) | (simp_all [Ty.cells, s_GuestOk, guestOk]; done)
  · first | rfl | (simp only [h0, s_GuestOk, guestOk, cT, cF] <;> rfl) | (simp_all [Ty.cells, s_GuestOk, guestOk]; done)
theorem holds_s_GuestOk : Holds Tryz.prog 95 run_s_GuestOk := by
  refine holds_of_eval (engQ_ok ctrN4_ok mctC_ok pct0_ok tct0_ok) (fn_ok (by kernel_rfl)) ?_
  intro avs rs hr h
  have hb := allB_of_rep hr
  unfold run_s_GuestOk at h
  split at h
  · rename_i a0_0 a0_1 a0_2 a0_3 a0_4 a0_5 a0_6 a0_7 a0_8 a0_9 a0_10 a0_11 a0_12 a0_13 a0_14
    obtain ⟨hc, rfl⟩ := some_pair h
    obtain ⟨N, hN⟩ := law_s_GuestOk (⟨a0_0, a0_1, a0_2, a0_3, a0_4, ⟨a0_5, a0_6, a0_7⟩, a0_8, ⟨a0_9, a0_10, a0_11, a0_12⟩, a0_13, a0_14⟩ : Guest) hb hc
    exact ⟨tmsOf [], N, 12, (nf_s_GuestOk N (⟨a0_0, a0_1, a0_2, a0_3, a0_4, ⟨a0_5, a0_6, a0_7⟩, a0_8, ⟨a0_9, a0_10, a0_11, a0_12⟩, a0_13, a0_14⟩ : Guest)).trans hN⟩
  · cases h

@[simp, reducible] def i_GuestOk_c (g : Guest) : Bool := true
@[simp, reducible] def i_GuestOk (g : Guest) : Bool := guestOk g
noncomputable def run_i_GuestOk : List AV → Option (Bool × List AV)
  | [.agg [.s .ins a0_0, .i .i64 a0_1, .i .i64 a0_2, .s .slot a0_3, .s .slot a0_4, .i .i64 a0_5, .i .i64 a0_6, .b a0_7, .i .i64 a0_8, .i .i64 a0_9, .i .i64 a0_10, .b a0_11, .i .i64 a0_12, .b a0_13, .s .int a0_14]] => some ((i_GuestOk_c (⟨a0_0, a0_1, a0_2, a0_3, a0_4, ⟨a0_5, a0_6, a0_7⟩, a0_8, ⟨a0_9, a0_10, a0_11, a0_12⟩, a0_13, a0_14⟩ : Guest)), [.one (.b (i_GuestOk (⟨a0_0, a0_1, a0_2, a0_3, a0_4, ⟨a0_5, a0_6, a0_7⟩, a0_8, ⟨a0_9, a0_10, a0_11, a0_12⟩, a0_13, a0_14⟩ : Guest)))])
  | _ => none

noncomputable def E_i_GuestOk (N : Nat) (a0 : Guest) : Option Ans :=
  (bif (i_ProgOk_c a0.Prog) then (bif (i_ProgOk a0.Prog) then (bif (i_within_c a0.A 0 99) then (bif (i_within a0.A 0 99) then (bif (i_within_c a0.Pc 0 12) then (bif (i_within a0.Pc 0 12) then (bif (i_TableOk_c a0.Written 4 8) then (bif (i_TableOk a0.Written 4 8) then (bif (i_TableOk_c a0.Live 4 8) then (bif (i_TableOk a0.Live 4 8) then (bif (i_CtlOk_c a0.Ctl) then (bif (i_CtlOk a0.Ctl) then (bif (i_PendOk_c a0.Pending) then (bif (i_PendOk a0.Pending) then (bif (i_ExitOk_c a0.Exit) then (bif (i_ExitOk a0.Exit) then (some [(.one (.b (ile (ln a0.Seen) 40)))]) else (some [(.one (.b false))])) else none) else (some [(.one (.b false))])) else none) else (some [(.one (.b false))])) else none) else (some [(.one (.b false))])) else none) else (some [(.one (.b false))])) else none) else (some [(.one (.b false))])) else none) else (some [(.one (.b false))])) else none) else (some [(.one (.b false))])) else none)

theorem nf_i_GuestOk (N : Nat) (a0 : Guest) : evalFn (cfgQ (aget ctrN4) (aget mctC) (aget pct0) (aget tct0)) (tmsOf []) N 12 116 [.agg (Ty.cells .guest a0)] = E_i_GuestOk N a0 := by kernel_rfl

theorem law_i_GuestOk (a0 : Guest) (hb : AllB big [.agg (Ty.cells .guest a0)]) (hc : (i_GuestOk_c a0) = true) : ∃ N, E_i_GuestOk N a0 = some [.one (.b (i_GuestOk a0))] := by
  refine ⟨0, ?_⟩
  unfold E_i_GuestOk
  refine must rfl ?_
  refine br (fun h0 => ?_) (fun h0 => ?_)
  · refine must rfl ?_
    refine br (fun h1 => ?_) (fun h1 => ?_)
    · refine must rfl ?_
      refine br (fun h2 => ?_) (fun h2 => ?_)
      · refine must rfl ?_
        refine br (fun h3 => ?_) (fun h3 => ?_)
        · refine must rfl ?_
          refine br (fun h4 => ?_) (fun h4 => ?_)
          · refine must rfl ?_
            refine br (fun h5 => ?_) (fun h5 => ?_)
            · refine must rfl ?_
              refine br (fun h6 => ?_) (fun h6 => ?_)
              · refine must rfl ?_
                refine br (fun h7 => ?_) (fun h7 => ?_)
                · first | rfl | (simp only [h0, h1, h2, h3, h4, h5, h6, h7, i_GuestOk, guestOk, cT, cF] <;> rfl) | (simp_all [Ty.cells, i_GuestOk, guestOk]; done)
                · first | rfl | (simp only [h0, h1, h2, h3, h4, h5, h6, h7, i_GuestOk, guestOk, cT, cF] <;> rfl) | (simp_all [Ty.cells, i_GuestOk, guestOk]; done)
              · first | rfl | (simp only [h0, h1, h2, h3, h4, h5, h6, i_GuestOk, guestOk, cT, cF] <;> rfl) | (simp_all [Ty.cells, i_GuestOk, guestOk]; done)
            · first | rfl | (simp only [h0, h1, h2, h3, h4, h5, i_GuestOk, guestOk, cT, cF] <;> rfl) | (simp_all [Ty.cells, i_GuestOk, guestOk]; done)
          · first | rfl | (simp only [h0, h1, h2, h3, h4, i_GuestOk, guestOk, cT, cF] <;> rfl) | (simp_all [Ty.cells, i_GuestOk, guestOk]; done)
        · first | rfl | (simp only [h0, h1, h2, h3, i_GuestOk, guestOk, cT, cF] <;> rfl) | (simp_all [Ty.cells, i_GuestOk, guestOk]; done)
      · first | rfl | (simp only [h0, h1, h2, i_GuestOk, guestOk, cT, cF] <;> rfl) | (simp_all [Ty.cells, i_GuestOk, guestOk]; done)
    · first | rfl | (simp only [h0, h1, i_GuestOk, guestOk, cT, cF] <;> rfl) | (simp_all [Ty.cells, i_GuestOk, guestOk]; done)
  · first | rfl | (simp only [h0, i_GuestOk, guestOk, cT, cF] <;> rfl) | (simp_all [Ty.cells, i_GuestOk, guestOk]; done)
theorem holds_i_GuestOk : Holds Tryz.prog 116 run_i_GuestOk := by
  refine holds_of_eval (engQ_ok ctrN4_ok mctC_ok pct0_ok tct0_ok) (fn_ok (by kernel_rfl)) ?_
  intro avs rs hr h
  have hb := allB_of_rep hr
  unfold run_i_GuestOk at h
  split at h
  · rename_i a0_0 a0_1 a0_2 a0_3 a0_4 a0_5 a0_6 a0_7 a0_8 a0_9 a0_10 a0_11 a0_12 a0_13 a0_14
    obtain ⟨hc, rfl⟩ := some_pair h
    obtain ⟨N, hN⟩ := law_i_GuestOk (⟨a0_0, a0_1, a0_2, a0_3, a0_4, ⟨a0_5, a0_6, a0_7⟩, a0_8, ⟨a0_9, a0_10, a0_11, a0_12⟩, a0_13, a0_14⟩ : Guest) hb hc
    exact ⟨tmsOf [], N, 12, (nf_i_GuestOk N (⟨a0_0, a0_1, a0_2, a0_3, a0_4, ⟨a0_5, a0_6, a0_7⟩, a0_8, ⟨a0_9, a0_10, a0_11, a0_12⟩, a0_13, a0_14⟩ : Guest)).trans hN⟩
  · cases h

@[simp, reducible] noncomputable def i_copyGuests_c (l : List Guest) : Bool := pc (SmGs l)
@[simp, reducible] def i_copyGuests (l : List Guest) : List Guest := l
noncomputable def run_i_copyGuests : List AV → Option (Bool × List AV)
  | [.one (.s .guest a0)] => some ((i_copyGuests_c a0), [.one (.s .guest (i_copyGuests a0))])
  | _ => none

noncomputable def E_i_copyGuests (N : Nat) (a0 : List Guest) : Option Ans :=
  (iter (σ := (Int × (Int × ((List Guest) × ((List Guest) × Unit))))) N (fun r2 s3 => (bif (ilt s3.2.1 s3.1) then (bif (inb s3.2.1 (ln s3.2.2.2.1)) then (bif (i_copyGuest_c (ix s3.2.2.2.1 s3.2.1 (Ty.dflt .guest))) then (bif (few (ln (ap s3.2.2.1 [(i_copyGuest (ix s3.2.2.2.1 s3.2.1 (Ty.dflt .guest)))]))) then (r2 (s3.1, ((wadd .i64 s3.2.1 1), ((ap s3.2.2.1 [(i_copyGuest (ix s3.2.2.2.1 s3.2.1 (Ty.dflt .guest)))]), (s3.2.2.2.1, ()))))) else none) else none) else none) else (some [(.one (.s .guest s3.2.2.1))]))) ((ln a0), (0, ([], (a0, ())))))

def tms_i_copyGuests : FuncId → Nat → Option Tmpl := tmsOf [(110, 0, { n := 20, tm := [(3, .sl 0 []), (7, .sl 1 []), (8, .i .i64), (9, .i .i64)], lo := [], ro := [(0, .guest, true), (1, .guest, false)] })]

theorem nf_i_copyGuests (N : Nat) (a0 : List Guest) : evalFn (cfgQ (aget ctrN4) (aget mctC) (aget pct0) (aget tct0)) tms_i_copyGuests N 12 110 [.one (.s .guest a0)] = E_i_copyGuests N a0 := by kernel_rfl

theorem law_i_copyGuests (a0 : List Guest) (hb : AllB big [.one (.s .guest a0)]) (hc : (i_copyGuests_c a0) = true) : ∃ N, E_i_copyGuests N a0 = some [.one (.s .guest (i_copyGuests a0))] := by
  have hs := pc_iff.1 hc
  have hl := sm_big hs.1
  refine ⟨NN, ?_⟩
  have hNN : ∀ {n : Nat}, n ≤ big → n < NN := fun h => NN_lt h
  generalize NN = N at hNN ⊢
  unfold E_i_copyGuests
  refine (iter_list a0 (fun i (t : (List Guest)) => ((ln a0), (i : Int), t, a0, ())) _ (fun _ x acc κ => bif i_copyGuest_c x then (bif few (ln (ap acc [i_copyGuest x])) then κ (ap acc [i_copyGuest x]) else none) else none) (fun (t : (List Guest)) => (some [(.one (.s .guest t))])) (fun i hi t rec => ?_) (fun t rec => ?_) _ ([]) (hNN hl.1)).trans ?_
  · simp only [ilt_ln hi, inb_ln hi, ix_ln hi, wadd_up hi hl.1, cT]
  · simp only [ilt_end, cF]
  exact app_loop i_copyGuest_c i_copyGuest _ a0 0 [] (fun x hx => ⟨by exact pc_true (hs.2 x hx), rfl⟩) (by simpa using hl.2)
theorem holds_i_copyGuests : Holds Tryz.prog 110 run_i_copyGuests := by
  refine holds_of_eval (engQ_ok ctrN4_ok mctC_ok pct0_ok tct0_ok) (fn_ok (by kernel_rfl)) ?_
  intro avs rs hr h
  have hb := allB_of_rep hr
  unfold run_i_copyGuests at h
  split at h
  · rename_i a0
    obtain ⟨hc, rfl⟩ := some_pair h
    obtain ⟨N, hN⟩ := law_i_copyGuests a0 hb hc
    exact ⟨tms_i_copyGuests, N, 12, (nf_i_copyGuests N a0).trans hN⟩
  · cases h

def gAt (b : Bare) (i : Int) : Guest := bif hasB i (ln b.Guests) then ix b.Guests i (Ty.dflt .guest) else Ty.dflt .guest
@[simp] theorem smG_at {b : Bare} (i : Int) (h : SmB b) : SmG (gAt b i) := by
  unfold gAt
  cases hh : hasB i (ln b.Guests)
  · exact smG_0
  · exact smG_ix h.2.1 hh _
@[simp, reducible] noncomputable def s_GuestAt_c (b : Bare) (i : Int) : Bool := pc (SmB b)
@[simp, reducible] def s_GuestAt_1 (b : Bare) (i : Int) : Guest := gAt b i
@[simp, reducible] def s_GuestAt_2 (b : Bare) (i : Int) : Bool := hasB i (ln b.Guests)
noncomputable def run_s_GuestAt : List AV → Option (Bool × List AV)
  | [.agg [.s (.sl .int) a0_0, .s .guest a0_1, .s .int a0_2, .i .i64 a0_3], .one (.i .i64 a1)] => some ((s_GuestAt_c (⟨a0_0, a0_1, a0_2, a0_3⟩ : Bare) a1), [.agg (Ty.cells .guest (s_GuestAt_1 (⟨a0_0, a0_1, a0_2, a0_3⟩ : Bare) a1)), .one (.b (s_GuestAt_2 (⟨a0_0, a0_1, a0_2, a0_3⟩ : Bare) a1))])
  | _ => none

noncomputable def E_s_GuestAt (N : Nat) (a0 : Bare) (a1 : Int) : Option Ans :=
  (bif (s_l01In_c a1 0 (wsub .i64 (ln a0.Guests) 1)) then (bif (bif (s_l01In a1 0 (wsub .i64 (ln a0.Guests) 1)) then false else true) then (some [(.agg (Ty.cells .guest (⟨[], 0, 0, [], [], ⟨0, 0, false⟩, 0, ⟨0, 0, false, 0⟩, false, []⟩ : Guest))), (.one (.b false))]) else (bif (inb a1 (ln a0.Guests)) then (bif (s_l15Copy_c (ix a0.Guests a1 (Ty.dflt .guest))) then (some [(.agg (Ty.cells .guest (s_l15Copy (ix a0.Guests a1 (Ty.dflt .guest))))), (.one (.b true))]) else none) else none)) else none)

theorem nf_s_GuestAt (N : Nat) (a0 : Bare) (a1 : Int) : evalFn (cfgQ (aget ctrN4) (aget mctC) (aget pct0) (aget tct0)) (tmsOf []) N 12 33 [.agg (Ty.cells .bare a0), .one (.i .i64 a1)] = E_s_GuestAt N a0 a1 := by kernel_rfl

theorem law_s_GuestAt (a0 : Bare) (a1 : Int) (hb : AllB big [.agg (Ty.cells .bare a0), .one (.i .i64 a1)]) (hc : (s_GuestAt_c a0 a1) = true) : ∃ N, E_s_GuestAt N a0 a1 = some [.agg (Ty.cells .guest (s_GuestAt_1 a0 a1)), .one (.b (s_GuestAt_2 a0 a1))] := by
  have hs := pc_iff.1 hc; have hl : a0.Guests.length ≤ 1048576 := hs.2.1.1; have hx : hasB a1 (ln a0.Guests) = true → SmG (ix a0.Guests a1 (Ty.dflt .guest)) := fun h => smG_ix hs.2.1 h _
  refine ⟨0, ?_⟩
  unfold E_s_GuestAt
  refine must rfl ?_
  refine brN (fun h0 => ?_) (fun h0 => ?_)
  · first | rfl | (simp only [h0, s_GuestAt_1, s_GuestAt_2, gAt, Ty.dflt, cT, cF] <;> rfl) | (simp_all [Ty.cells, s_GuestAt_1, s_GuestAt_2, gAt, Ty.dflt]; done)
  · refine must (by first | assumption | (simp_all <;> omega)) ?_
    refine must (by first | assumption | (simp_all <;> omega)) ?_
    first | rfl | (simp only [h0, s_GuestAt_1, s_GuestAt_2, gAt, Ty.dflt, cT, cF] <;> rfl) | (simp_all [Ty.cells, s_GuestAt_1, s_GuestAt_2, gAt, Ty.dflt]; done)
theorem holds_s_GuestAt : Holds Tryz.prog 33 run_s_GuestAt := by
  refine holds_of_eval (engQ_ok ctrN4_ok mctC_ok pct0_ok tct0_ok) (fn_ok (by kernel_rfl)) ?_
  intro avs rs hr h
  have hb := allB_of_rep hr
  unfold run_s_GuestAt at h
  split at h
  · rename_i a0_0 a0_1 a0_2 a0_3 a1
    obtain ⟨hc, rfl⟩ := some_pair h
    obtain ⟨N, hN⟩ := law_s_GuestAt (⟨a0_0, a0_1, a0_2, a0_3⟩ : Bare) a1 hb hc
    exact ⟨tmsOf [], N, 12, (nf_s_GuestAt N (⟨a0_0, a0_1, a0_2, a0_3⟩ : Bare) a1).trans hN⟩
  · cases h

@[simp, reducible] noncomputable def i_GuestAt_c (b : Bare) (i : Int) : Bool := pc (SmB b)
@[simp, reducible] def i_GuestAt_1 (b : Bare) (i : Int) : Guest := gAt b i
@[simp, reducible] def i_GuestAt_2 (b : Bare) (i : Int) : Bool := hasB i (ln b.Guests)
noncomputable def run_i_GuestAt : List AV → Option (Bool × List AV)
  | [.agg [.s (.sl .int) a0_0, .s .guest a0_1, .s .int a0_2, .i .i64 a0_3], .one (.i .i64 a1)] => some ((i_GuestAt_c (⟨a0_0, a0_1, a0_2, a0_3⟩ : Bare) a1), [.agg (Ty.cells .guest (i_GuestAt_1 (⟨a0_0, a0_1, a0_2, a0_3⟩ : Bare) a1)), .one (.b (i_GuestAt_2 (⟨a0_0, a0_1, a0_2, a0_3⟩ : Bare) a1))])
  | _ => none

noncomputable def E_i_GuestAt (N : Nat) (a0 : Bare) (a1 : Int) : Option Ans :=
  (bif (i_has_c a1 (ln a0.Guests)) then (bif (bif (i_has a1 (ln a0.Guests)) then false else true) then (some [(.agg (Ty.cells .guest (⟨[], 0, 0, [], [], ⟨0, 0, false⟩, 0, ⟨0, 0, false, 0⟩, false, []⟩ : Guest))), (.one (.b false))]) else (bif (inb a1 (ln a0.Guests)) then (bif (i_copyGuest_c (ix a0.Guests a1 (Ty.dflt .guest))) then (some [(.agg (Ty.cells .guest (i_copyGuest (ix a0.Guests a1 (Ty.dflt .guest))))), (.one (.b true))]) else none) else none)) else none)

theorem nf_i_GuestAt (N : Nat) (a0 : Bare) (a1 : Int) : evalFn (cfgQ (aget ctrN4) (aget mctC) (aget pct0) (aget tct0)) (tmsOf []) N 12 56 [.agg (Ty.cells .bare a0), .one (.i .i64 a1)] = E_i_GuestAt N a0 a1 := by kernel_rfl

theorem law_i_GuestAt (a0 : Bare) (a1 : Int) (hb : AllB big [.agg (Ty.cells .bare a0), .one (.i .i64 a1)]) (hc : (i_GuestAt_c a0 a1) = true) : ∃ N, E_i_GuestAt N a0 a1 = some [.agg (Ty.cells .guest (i_GuestAt_1 a0 a1)), .one (.b (i_GuestAt_2 a0 a1))] := by
  have hs := pc_iff.1 hc; have hl : a0.Guests.length ≤ 1048576 := hs.2.1.1; have hx : hasB a1 (ln a0.Guests) = true → SmG (ix a0.Guests a1 (Ty.dflt .guest)) := fun h => smG_ix hs.2.1 h _
  refine ⟨0, ?_⟩
  unfold E_i_GuestAt
  refine must rfl ?_
  refine brN (fun h0 => ?_) (fun h0 => ?_)
  · first | rfl | (simp only [h0, i_GuestAt_1, i_GuestAt_2, gAt, Ty.dflt, cT, cF] <;> rfl) | (simp_all [Ty.cells, i_GuestAt_1, i_GuestAt_2, gAt, Ty.dflt]; done)
  · refine must (by first | assumption | (simp_all <;> omega)) ?_
    refine must (by first | assumption | (simp_all <;> omega)) ?_
    first | rfl | (simp only [h0, i_GuestAt_1, i_GuestAt_2, gAt, Ty.dflt, cT, cF] <;> rfl) | (simp_all [Ty.cells, i_GuestAt_1, i_GuestAt_2, gAt, Ty.dflt]; done)
theorem holds_i_GuestAt : Holds Tryz.prog 56 run_i_GuestAt := by
  refine holds_of_eval (engQ_ok ctrN4_ok mctC_ok pct0_ok tct0_ok) (fn_ok (by kernel_rfl)) ?_
  intro avs rs hr h
  have hb := allB_of_rep hr
  unfold run_i_GuestAt at h
  split at h
  · rename_i a0_0 a0_1 a0_2 a0_3 a1
    obtain ⟨hc, rfl⟩ := some_pair h
    obtain ⟨N, hN⟩ := law_i_GuestAt (⟨a0_0, a0_1, a0_2, a0_3⟩ : Bare) a1 hb hc
    exact ⟨tmsOf [], N, 12, (nf_i_GuestAt N (⟨a0_0, a0_1, a0_2, a0_3⟩ : Bare) a1).trans hN⟩
  · cases h

noncomputable def ctrN5 : Ctrs := [(36, run_s_Interrupted), (62, run_i_Interrupted), (34, run_s_WantOf), (57, run_i_WantOf), (107, run_s_Held), (80, run_i_Held), (46, run_s_Stored), (71, run_i_Stored), (47, run_s_Loaded), (72, run_i_Loaded), (77, run_i_trapped), (95, run_s_GuestOk), (116, run_i_GuestOk), (110, run_i_copyGuests), (33, run_s_GuestAt), (56, run_i_GuestAt)] ++ ctrN4

theorem ctrN5_ok : ∀ f run, aget ctrN5 f = some run → Holds Tryz.prog f run := ctr_more ctrN4_ok (by
  intro x hx
  simp only [List.mem_cons, List.not_mem_nil, or_false] at hx
  rcases hx with rfl | rfl | rfl | rfl | rfl | rfl | rfl | rfl | rfl | rfl | rfl | rfl | rfl | rfl | rfl | rfl
  · exact holds_s_Interrupted
  · exact holds_i_Interrupted
  · exact holds_s_WantOf
  · exact holds_i_WantOf
  · exact holds_s_Held
  · exact holds_i_Held
  · exact holds_s_Stored
  · exact holds_i_Stored
  · exact holds_s_Loaded
  · exact holds_i_Loaded
  · exact holds_i_trapped
  · exact holds_s_GuestOk
  · exact holds_i_GuestOk
  · exact holds_i_copyGuests
  · exact holds_s_GuestAt
  · exact holds_i_GuestAt)

def plainly (g : Guest) : Guest := bif ine (wantOf g) 2 then g else (bif win g.A 0 99 then (bif win (insAt g.Prog g.Pc).X 0 99 then (bif ieq (insAt g.Prog g.Pc).Op 1 then { movedG g with A := (insAt g.Prog g.Pc).X } else (bif ieq (insAt g.Prog g.Pc).Op 2 then { movedG g with A := wrem (wadd .i64 g.A (insAt g.Prog g.Pc).X) 100 } else (bif ieq (insAt g.Prog g.Pc).Op 8 then (bif ieq g.A 0 then { movedG g with Pc := (insAt g.Prog g.Pc).X } else movedG g) else movedG g))) else movedG g) else movedG g)
@[simp] theorem moved_Prog (g : Guest) : (movedG g).Prog = g.Prog := by
  unfold movedG
  cases ige g.Pc 12 <;> rfl
@[simp] theorem moved_A (g : Guest) : (movedG g).A = g.A := by
  unfold movedG
  cases ige g.Pc 12 <;> rfl
@[simp] theorem moved_Written (g : Guest) : (movedG g).Written = g.Written := by
  unfold movedG
  cases ige g.Pc 12 <;> rfl
@[simp] theorem moved_Live (g : Guest) : (movedG g).Live = g.Live := by
  unfold movedG
  cases ige g.Pc 12 <;> rfl
@[simp] theorem moved_Ctl (g : Guest) : (movedG g).Ctl = g.Ctl := by
  unfold movedG
  cases ige g.Pc 12 <;> rfl
@[simp] theorem moved_Pending (g : Guest) : (movedG g).Pending = g.Pending := by
  unfold movedG
  cases ige g.Pc 12 <;> rfl
@[simp] theorem moved_Exit (g : Guest) : (movedG g).Exit = g.Exit := by
  unfold movedG
  cases ige g.Pc 12 <;> rfl
@[simp] theorem moved_Halted (g : Guest) : (movedG g).Halted = g.Halted := by
  unfold movedG
  cases ige g.Pc 12 <;> rfl
@[simp] theorem moved_Seen (g : Guest) : (movedG g).Seen = g.Seen := by
  unfold movedG
  cases ige g.Pc 12 <;> rfl
@[simp] theorem moved_PcA (g : Guest) (x : Int) : (movedG { g with A := x }).Pc = (movedG g).Pc := by
  unfold movedG
  cases ige g.Pc 12 <;> rfl
@[simp] theorem smG_plainly {g : Guest} (h : SmG g) : SmG (plainly g) := by
  have hm := smG_moved h
  unfold plainly
  cases ine (wantOf g) 2
  · cases win g.A 0 99
    · exact hm
    · cases win (insAt g.Prog g.Pc).X 0 99
      · exact hm
      · cases ieq (insAt g.Prog g.Pc).Op 1
        · cases ieq (insAt g.Prog g.Pc).Op 2
          · cases ieq (insAt g.Prog g.Pc).Op 8
            · exact hm
            · cases ieq g.A 0 <;> exact hm
          · exact hm
        · exact hm
  · exact h
@[simp, reducible] noncomputable def i_Plainly_c (g : Guest) : Bool := pc (SmG g)
@[simp, reducible] def i_Plainly (g : Guest) : Guest := plainly g
noncomputable def run_i_Plainly : List AV → Option (Bool × List AV)
  | [.agg [.s .ins a0_0, .i .i64 a0_1, .i .i64 a0_2, .s .slot a0_3, .s .slot a0_4, .i .i64 a0_5, .i .i64 a0_6, .b a0_7, .i .i64 a0_8, .i .i64 a0_9, .i .i64 a0_10, .b a0_11, .i .i64 a0_12, .b a0_13, .s .int a0_14]] => some ((i_Plainly_c (⟨a0_0, a0_1, a0_2, a0_3, a0_4, ⟨a0_5, a0_6, a0_7⟩, a0_8, ⟨a0_9, a0_10, a0_11, a0_12⟩, a0_13, a0_14⟩ : Guest)), [.agg (Ty.cells .guest (i_Plainly (⟨a0_0, a0_1, a0_2, a0_3, a0_4, ⟨a0_5, a0_6, a0_7⟩, a0_8, ⟨a0_9, a0_10, a0_11, a0_12⟩, a0_13, a0_14⟩ : Guest)))])
  | _ => none

noncomputable def E_i_Plainly (N : Nat) (a0 : Guest) : Option Ans :=
  (bif (i_WantOf_c a0) then (bif (ine (i_WantOf a0) 2) then (bif (i_copyGuest_c a0) then (some [(.agg (Ty.cells .guest (i_copyGuest a0)))]) else none) else (bif (i_InsAt_c a0.Prog a0.Pc) then (bif (i_Moved_c a0) then (bif (i_within_c a0.A 0 99) then (bif (bif (i_within a0.A 0 99) then false else true) then (some [(.agg (Ty.cells .guest (i_Moved a0)))]) else (bif (i_within_c (i_InsAt a0.Prog a0.Pc).X 0 99) then (bif (bif (i_within (i_InsAt a0.Prog a0.Pc).X 0 99) then false else true) then (some [(.agg (Ty.cells .guest (i_Moved a0)))]) else (bif (ieq (i_InsAt a0.Prog a0.Pc).Op 1) then (some [(.agg (Ty.cells .guest ({ (i_Moved a0) with A := (i_InsAt a0.Prog a0.Pc).X } : Guest)))]) else (bif (ieq (i_InsAt a0.Prog a0.Pc).Op 2) then (bif (ine 100 0) then (some [(.agg (Ty.cells .guest ({ (i_Moved a0) with A := (wrem (wadd .i64 a0.A (i_InsAt a0.Prog a0.Pc).X) 100) } : Guest)))]) else none) else (bif (ieq (i_InsAt a0.Prog a0.Pc).Op 8) then (bif (ieq a0.A 0) then (some [(.agg (Ty.cells .guest ({ (i_Moved a0) with Pc := (i_InsAt a0.Prog a0.Pc).X } : Guest)))]) else (some [(.agg (Ty.cells .guest (i_Moved a0)))])) else (some [(.agg (Ty.cells .guest (i_Moved a0)))]))))) else none)) else none) else none) else none)) else none)

theorem nf_i_Plainly (N : Nat) (a0 : Guest) : evalFn (cfgQ (aget ctrN5) (aget mctC) (aget pct0) (aget tct0)) (tmsOf []) N 12 63 [.agg (Ty.cells .guest a0)] = E_i_Plainly N a0 := by kernel_rfl

theorem law_i_Plainly (a0 : Guest) (hb : AllB big [.agg (Ty.cells .guest a0)]) (hc : (i_Plainly_c a0) = true) : ∃ N, E_i_Plainly N a0 = some [.agg (Ty.cells .guest (i_Plainly a0))] := by
  have hs := pc_iff.1 hc
  refine ⟨0, ?_⟩
  unfold E_i_Plainly
  refine must rfl ?_
  refine br (fun h0 => ?_) (fun h0 => ?_)
  · refine must (by first | assumption | (simp_all <;> omega)) ?_
    first | rfl | (simp only [h0, i_Plainly, plainly, cT, cF] <;> rfl) | (simp_all [Ty.cells, i_Plainly, plainly]; done)
  · refine must rfl ?_
    refine must (by first | assumption | (simp_all <;> omega)) ?_
    refine must rfl ?_
    refine brN (fun h1 => ?_) (fun h1 => ?_)
    · first | rfl | (simp only [h0, h1, i_Plainly, plainly, cT, cF] <;> rfl) | (simp_all [Ty.cells, i_Plainly, plainly]; done)
    · refine must rfl ?_
      refine brN (fun h2 => ?_) (fun h2 => ?_)
      · first | rfl | (simp only [h0, h1, h2, i_Plainly, plainly, cT, cF] <;> rfl) | (simp_all [Ty.cells, i_Plainly, plainly]; done)
      · refine br (fun h3 => ?_) (fun h3 => ?_)
        · first | rfl | (simp only [h0, h1, h2, h3, i_Plainly, plainly, cT, cF] <;> rfl) | (simp_all [Ty.cells, i_Plainly, plainly]; done)
        · refine br (fun h4 => ?_) (fun h4 => ?_)
          · refine must rfl ?_
            first | rfl | (simp only [h0, h1, h2, h3, h4, i_Plainly, plainly, cT, cF] <;> rfl) | (simp_all [Ty.cells, i_Plainly, plainly]; done)
          · refine br (fun h5 => ?_) (fun h5 => ?_)
            · refine br (fun h6 => ?_) (fun h6 => ?_)
              · first | rfl | (simp only [h0, h1, h2, h3, h4, h5, h6, i_Plainly, plainly, cT, cF] <;> rfl) | (simp_all [Ty.cells, i_Plainly, plainly]; done)
              · first | rfl | (simp only [h0, h1, h2, h3, h4, h5, h6, i_Plainly, plainly, cT, cF] <;> rfl) | (simp_all [Ty.cells, i_Plainly, plainly]; done)
            · first | rfl | (simp only [h0, h1, h2, h3, h4, h5, i_Plainly, plainly, cT, cF] <;> rfl) | (simp_all [Ty.cells, i_Plainly, plainly]; done)
theorem holds_i_Plainly : Holds Tryz.prog 63 run_i_Plainly := by
  refine holds_of_eval (engQ_ok ctrN5_ok mctC_ok pct0_ok tct0_ok) (fn_ok (by kernel_rfl)) ?_
  intro avs rs hr h
  have hb := allB_of_rep hr
  unfold run_i_Plainly at h
  split at h
  · rename_i a0_0 a0_1 a0_2 a0_3 a0_4 a0_5 a0_6 a0_7 a0_8 a0_9 a0_10 a0_11 a0_12 a0_13 a0_14
    obtain ⟨hc, rfl⟩ := some_pair h
    obtain ⟨N, hN⟩ := law_i_Plainly (⟨a0_0, a0_1, a0_2, a0_3, a0_4, ⟨a0_5, a0_6, a0_7⟩, a0_8, ⟨a0_9, a0_10, a0_11, a0_12⟩, a0_13, a0_14⟩ : Guest) hb hc
    exact ⟨tmsOf [], N, 12, (nf_i_Plainly N (⟨a0_0, a0_1, a0_2, a0_3, a0_4, ⟨a0_5, a0_6, a0_7⟩, a0_8, ⟨a0_9, a0_10, a0_11, a0_12⟩, a0_13, a0_14⟩ : Guest)).trans hN⟩
  · cases h

@[simp, reducible] noncomputable def s_Plainly_c (g : Guest) : Bool := pc (SmG g)
@[simp, reducible] def s_Plainly (g : Guest) : Guest := plainly g
noncomputable def run_s_Plainly : List AV → Option (Bool × List AV)
  | [.agg [.s .ins a0_0, .i .i64 a0_1, .i .i64 a0_2, .s .slot a0_3, .s .slot a0_4, .i .i64 a0_5, .i .i64 a0_6, .b a0_7, .i .i64 a0_8, .i .i64 a0_9, .i .i64 a0_10, .b a0_11, .i .i64 a0_12, .b a0_13, .s .int a0_14]] => some ((s_Plainly_c (⟨a0_0, a0_1, a0_2, a0_3, a0_4, ⟨a0_5, a0_6, a0_7⟩, a0_8, ⟨a0_9, a0_10, a0_11, a0_12⟩, a0_13, a0_14⟩ : Guest)), [.agg (Ty.cells .guest (s_Plainly (⟨a0_0, a0_1, a0_2, a0_3, a0_4, ⟨a0_5, a0_6, a0_7⟩, a0_8, ⟨a0_9, a0_10, a0_11, a0_12⟩, a0_13, a0_14⟩ : Guest)))])
  | _ => none

noncomputable def E_s_Plainly (N : Nat) (a0 : Guest) : Option Ans :=
  (bif (s_WantOf_c a0) then (bif (ine (s_WantOf a0) 2) then (bif (s_l15Copy_c a0) then (some [(.agg (Ty.cells .guest (s_l15Copy a0)))]) else none) else (bif (s_InsAt_c a0.Prog a0.Pc) then (bif (s_l01In_c a0.A 0 99) then (bif (s_l01In a0.A 0 99) then (bif (s_l01In_c (s_InsAt a0.Prog a0.Pc).X 0 99) then (bif (s_l01In (s_InsAt a0.Prog a0.Pc).X 0 99) then (bif (ieq (s_InsAt a0.Prog a0.Pc).Op 1) then (bif (s_Moved_c ({ a0 with A := (s_InsAt a0.Prog a0.Pc).X } : Guest)) then (some [(.agg (Ty.cells .guest (s_Moved ({ a0 with A := (s_InsAt a0.Prog a0.Pc).X } : Guest))))]) else none) else (bif (s_l01In (s_InsAt a0.Prog a0.Pc).X 0 99) then (bif (ieq (s_InsAt a0.Prog a0.Pc).Op 2) then (bif (ine 100 0) then (bif (s_Moved_c ({ a0 with A := (wrem (wadd .i64 a0.A (s_InsAt a0.Prog a0.Pc).X) 100) } : Guest)) then (some [(.agg (Ty.cells .guest (s_Moved ({ a0 with A := (wrem (wadd .i64 a0.A (s_InsAt a0.Prog a0.Pc).X) 100) } : Guest))))]) else none) else none) else (bif (s_l01In (s_InsAt a0.Prog a0.Pc).X 0 99) then (bif (ieq (s_InsAt a0.Prog a0.Pc).Op 8) then (bif (ieq a0.A 0) then (bif (s_l15Copy_c a0) then (some [(.agg (Ty.cells .guest ({ (s_l15Copy a0) with Pc := (s_InsAt a0.Prog a0.Pc).X } : Guest)))]) else none) else (bif (s_Moved_c a0) then (some [(.agg (Ty.cells .guest (s_Moved a0)))]) else none)) else (bif (s_Moved_c a0) then (some [(.agg (Ty.cells .guest (s_Moved a0)))]) else none)) else (bif (s_Moved_c a0) then (some [(.agg (Ty.cells .guest (s_Moved a0)))]) else none))) else (bif (s_l01In (s_InsAt a0.Prog a0.Pc).X 0 99) then (bif (ieq (s_InsAt a0.Prog a0.Pc).Op 8) then (bif (ieq a0.A 0) then (bif (s_l15Copy_c a0) then (some [(.agg (Ty.cells .guest ({ (s_l15Copy a0) with Pc := (s_InsAt a0.Prog a0.Pc).X } : Guest)))]) else none) else (bif (s_Moved_c a0) then (some [(.agg (Ty.cells .guest (s_Moved a0)))]) else none)) else (bif (s_Moved_c a0) then (some [(.agg (Ty.cells .guest (s_Moved a0)))]) else none)) else (bif (s_Moved_c a0) then (some [(.agg (Ty.cells .guest (s_Moved a0)))]) else none)))) else (bif (s_l01In (s_InsAt a0.Prog a0.Pc).X 0 99) then (bif (ieq (s_InsAt a0.Prog a0.Pc).Op 2) then (bif (ine 100 0) then (bif (s_Moved_c ({ a0 with A := (wrem (wadd .i64 a0.A (s_InsAt a0.Prog a0.Pc).X) 100) } : Guest)) then (some [(.agg (Ty.cells .guest (s_Moved ({ a0 with A := (wrem (wadd .i64 a0.A (s_InsAt a0.Prog a0.Pc).X) 100) } : Guest))))]) else none) else none) else (bif (s_l01In (s_InsAt a0.Prog a0.Pc).X 0 99) then (bif (ieq (s_InsAt a0.Prog a0.Pc).Op 8) then (bif (ieq a0.A 0) then (bif (s_l15Copy_c a0) then (some [(.agg (Ty.cells .guest ({ (s_l15Copy a0) with Pc := (s_InsAt a0.Prog a0.Pc).X } : Guest)))]) else none) else (bif (s_Moved_c a0) then (some [(.agg (Ty.cells .guest (s_Moved a0)))]) else none)) else (bif (s_Moved_c a0) then (some [(.agg (Ty.cells .guest (s_Moved a0)))]) else none)) else (bif (s_Moved_c a0) then (some [(.agg (Ty.cells .guest (s_Moved a0)))]) else none))) else (bif (s_l01In (s_InsAt a0.Prog a0.Pc).X 0 99) then (bif (ieq (s_InsAt a0.Prog a0.Pc).Op 8) then (bif (ieq a0.A 0) then (bif (s_l15Copy_c a0) then (some [(.agg (Ty.cells .guest ({ (s_l15Copy a0) with Pc := (s_InsAt a0.Prog a0.Pc).X } : Guest)))]) else none) else (bif (s_Moved_c a0) then (some [(.agg (Ty.cells .guest (s_Moved a0)))]) else none)) else (bif (s_Moved_c a0) then (some [(.agg (Ty.cells .guest (s_Moved a0)))]) else none)) else (bif (s_Moved_c a0) then (some [(.agg (Ty.cells .guest (s_Moved a0)))]) else none)))) else none) else (bif (s_Moved_c a0) then (some [(.agg (Ty.cells .guest (s_Moved a0)))]) else none)) else none) else none)) else none)

theorem nf_s_Plainly (N : Nat) (a0 : Guest) : evalFn (cfgQ (aget ctrN5) (aget mctC) (aget pct0) (aget tct0)) (tmsOf []) N 12 37 [.agg (Ty.cells .guest a0)] = E_s_Plainly N a0 := by kernel_rfl

theorem law_s_Plainly (a0 : Guest) (hb : AllB big [.agg (Ty.cells .guest a0)]) (hc : (s_Plainly_c a0) = true) : ∃ N, E_s_Plainly N a0 = some [.agg (Ty.cells .guest (s_Plainly a0))] := by
  have hs := pc_iff.1 hc; have hz : _ ∧ _ ∧ _ ∧ _ := hs
  refine ⟨0, ?_⟩
  unfold E_s_Plainly
  refine must rfl ?_
  refine br (fun h0 => ?_) (fun h0 => ?_)
  · refine must (by first | assumption | (simp_all <;> omega)) ?_
    first | rfl | (simp only [h0, s_Plainly, plainly, cT, cF] <;> rfl) | (simp_all [Ty.cells, s_Plainly, plainly]; done)
  · refine must rfl ?_
    refine must rfl ?_
    refine br (fun h1 => ?_) (fun h1 => ?_)
    · refine must rfl ?_
      refine br (fun h2 => ?_) (fun h2 => ?_)
      · refine br (fun h3 => ?_) (fun h3 => ?_)
        · refine must (by first | assumption | (simp_all <;> omega)) ?_
          first | rfl | (simp only [h0, h1, h2, h3, s_Plainly, plainly, cT, cF] <;> rfl) | (simp_all [Ty.cells, s_Plainly, plainly]; done)
        · refine br (fun h4 => ?_) (fun h4 => ?_)
          · refine br (fun h5 => ?_) (fun h5 => ?_)
            · refine must rfl ?_
              refine must (by first | assumption | (simp_all <;> omega)) ?_
              first | rfl | (simp only [h0, h1, h2, h3, h4, h5, s_Plainly, plainly, cT, cF] <;> rfl) | (simp_all [Ty.cells, s_Plainly, plainly]; done)
            · refine br (fun h6 => ?_) (fun h6 => ?_)
              · refine br (fun h7 => ?_) (fun h7 => ?_)
                · refine br (fun h8 => ?_) (fun h8 => ?_)
                  · refine must (by first | assumption | (simp_all <;> omega)) ?_
                    first | rfl | (simp only [h0, h1, h2, h3, h4, h5, h6, h7, h8, s_Plainly, plainly, cT, cF] <;> rfl) | (simp_all [Ty.cells, s_Plainly, plainly]; done)
                  · refine must (by first | assumption | (simp_all <;> omega)) ?_
                    first | rfl | (simp only [h0, h1, h2, h3, h4, h5, h6, h7, h8, s_Plainly, plainly, cT, cF] <;> rfl) | (simp_all [Ty.cells, s_Plainly, plainly]; done)
                · refine must (by first | assumption | (simp_all <;> omega)) ?_
                  first | rfl | (simp only [h0, h1, h2, h3, h4, h5, h6, h7, s_Plainly, plainly, cT, cF] <;> rfl) | (simp_all [Ty.cells, s_Plainly, plainly]; done)
              · refine must (by first | assumption | (simp_all <;> omega)) ?_
                first | rfl | (simp only [h0, h1, h2, h3, h4, h5, h6, s_Plainly, plainly, cT, cF] <;> rfl) | (simp_all [Ty.cells, s_Plainly, plainly]; done)
          · refine br (fun h5 => ?_) (fun h5 => ?_)
            · refine br (fun h6 => ?_) (fun h6 => ?_)
              · refine br (fun h7 => ?_) (fun h7 => ?_)
                · refine must (by first | assumption | (simp_all <;> omega)) ?_
                  first | rfl | (simp only [h0, h1, h2, h3, h4, h5, h6, h7, s_Plainly, plainly, cT, cF] <;> rfl) | (simp_all [Ty.cells, s_Plainly, plainly]; done)
                · refine must (by first | assumption | (simp_all <;> omega)) ?_
                  first | rfl | (simp only [h0, h1, h2, h3, h4, h5, h6, h7, s_Plainly, plainly, cT, cF] <;> rfl) | (simp_all [Ty.cells, s_Plainly, plainly]; done)
              · refine must (by first | assumption | (simp_all <;> omega)) ?_
                first | rfl | (simp only [h0, h1, h2, h3, h4, h5, h6, s_Plainly, plainly, cT, cF] <;> rfl) | (simp_all [Ty.cells, s_Plainly, plainly]; done)
            · refine must (by first | assumption | (simp_all <;> omega)) ?_
              first | rfl | (simp only [h0, h1, h2, h3, h4, h5, s_Plainly, plainly, cT, cF] <;> rfl) | (simp_all [Ty.cells, s_Plainly, plainly]; done)
      · refine br (fun h3 => ?_) (fun h3 => ?_)
        · refine br (fun h4 => ?_) (fun h4 => ?_)
          · refine must rfl ?_
            refine must (by first | assumption | (simp_all <;> omega)) ?_
            first | rfl | (simp only [h0, h1, h2, h3, h4, s_Plainly, plainly, cT, cF] <;> rfl) | (simp_all [Ty.cells, s_Plainly, plainly]; done)
          · refine br (fun h5 => ?_) (fun h5 => ?_)
            · refine br (fun h6 => ?_) (fun h6 => ?_)
              · refine br (fun h7 => ?_) (fun h7 => ?_)
                · refine must (by first | assumption | (simp_all <;> omega)) ?_
                  first | rfl | (simp only [h0, h1, h2, h3, h4, h5, h6, h7, s_Plainly, plainly, cT, cF] <;> rfl) | (simp_all [Ty.cells, s_Plainly, plainly]; done)
                · refine must (by first | assumption | (simp_all <;> omega)) ?_
                  first | rfl | (simp only [h0, h1, h2, h3, h4, h5, h6, h7, s_Plainly, plainly, cT, cF] <;> rfl) | (simp_all [Ty.cells, s_Plainly, plainly]; done)
              · refine must (by first | assumption | (simp_all <;> omega)) ?_
                first | rfl | (simp only [h0, h1, h2, h3, h4, h5, h6, s_Plainly, plainly, cT, cF] <;> rfl) | (simp_all [Ty.cells, s_Plainly, plainly]; done)
            · refine must (by first | assumption | (simp_all <;> omega)) ?_
              first | rfl | (simp only [h0, h1, h2, h3, h4, h5, s_Plainly, plainly, cT, cF] <;> rfl) | (simp_all [Ty.cells, s_Plainly, plainly]; done)
        · refine br (fun h4 => ?_) (fun h4 => ?_)
          · refine br (fun h5 => ?_) (fun h5 => ?_)
            · refine br (fun h6 => ?_) (fun h6 => ?_)
              · refine must (by first | assumption | (simp_all <;> omega)) ?_
                first | rfl | (simp only [h0, h1, h2, h3, h4, h5, h6, s_Plainly, plainly, cT, cF] <;> rfl) | (simp_all [Ty.cells, s_Plainly, plainly]; done)
              · refine must (by first | assumption | (simp_all <;> omega)) ?_
                first | rfl | (simp only [h0, h1, h2, h3, h4, h5, h6, s_Plainly, plainly, cT, cF] <;> rfl) | (simp_all [Ty.cells, s_Plainly, plainly]; done)
            · refine must (by first | assumption | (simp_all <;> omega)) ?_
              first | rfl | (simp only [h0, h1, h2, h3, h4, h5, s_Plainly, plainly, cT, cF] <;> rfl) | (simp_all [Ty.cells, s_Plainly, plainly]; done)
          · refine must (by first | assumption | (simp_all <;> omega)) ?_
            first | rfl | (simp only [h0, h1, h2, h3, h4, s_Plainly, plainly, cT, cF] <;> rfl) | (simp_all [Ty.cells, s_Plainly, plainly]; done)
    · refine must (by first | assumption | (simp_all <;> omega)) ?_
      first | rfl | (simp only [h0, h1, s_Plainly, plainly, cT, cF] <;> rfl) | (simp_all [Ty.cells, s_Plainly, plainly]; done)
theorem holds_s_Plainly : Holds Tryz.prog 37 run_s_Plainly := by
  refine holds_of_eval (engQ_ok ctrN5_ok mctC_ok pct0_ok tct0_ok) (fn_ok (by kernel_rfl)) ?_
  intro avs rs hr h
  have hb := allB_of_rep hr
  unfold run_s_Plainly at h
  split at h
  · rename_i a0_0 a0_1 a0_2 a0_3 a0_4 a0_5 a0_6 a0_7 a0_8 a0_9 a0_10 a0_11 a0_12 a0_13 a0_14
    obtain ⟨hc, rfl⟩ := some_pair h
    obtain ⟨N, hN⟩ := law_s_Plainly (⟨a0_0, a0_1, a0_2, a0_3, a0_4, ⟨a0_5, a0_6, a0_7⟩, a0_8, ⟨a0_9, a0_10, a0_11, a0_12⟩, a0_13, a0_14⟩ : Guest) hb hc
    exact ⟨tmsOf [], N, 12, (nf_s_Plainly N (⟨a0_0, a0_1, a0_2, a0_3, a0_4, ⟨a0_5, a0_6, a0_7⟩, a0_8, ⟨a0_9, a0_10, a0_11, a0_12⟩, a0_13, a0_14⟩ : Guest)).trans hN⟩
  · cases h

def address (g : Guest) : Int := bif ine (wantOf g) 3 then (bif ine (wantOf g) 4 then -1 else (insAt g.Prog g.Pc).X) else (insAt g.Prog g.Pc).X
@[simp, reducible] def s_Address_c (g : Guest) : Bool := true
@[simp, reducible] def s_Address (g : Guest) : Int := address g
noncomputable def run_s_Address : List AV → Option (Bool × List AV)
  | [.agg [.s .ins a0_0, .i .i64 a0_1, .i .i64 a0_2, .s .slot a0_3, .s .slot a0_4, .i .i64 a0_5, .i .i64 a0_6, .b a0_7, .i .i64 a0_8, .i .i64 a0_9, .i .i64 a0_10, .b a0_11, .i .i64 a0_12, .b a0_13, .s .int a0_14]] => some ((s_Address_c (⟨a0_0, a0_1, a0_2, a0_3, a0_4, ⟨a0_5, a0_6, a0_7⟩, a0_8, ⟨a0_9, a0_10, a0_11, a0_12⟩, a0_13, a0_14⟩ : Guest)), [.one (.i .i64 (s_Address (⟨a0_0, a0_1, a0_2, a0_3, a0_4, ⟨a0_5, a0_6, a0_7⟩, a0_8, ⟨a0_9, a0_10, a0_11, a0_12⟩, a0_13, a0_14⟩ : Guest)))])
  | _ => none

noncomputable def E_s_Address (N : Nat) (a0 : Guest) : Option Ans :=
  (bif (s_WantOf_c a0) then (bif (ine (s_WantOf a0) 3) then (bif (ine (s_WantOf a0) 4) then (some [(.one (.i .i64 (-1)))]) else (bif (s_InsAt_c a0.Prog a0.Pc) then (some [(.one (.i .i64 (s_InsAt a0.Prog a0.Pc).X))]) else none)) else (bif (s_InsAt_c a0.Prog a0.Pc) then (some [(.one (.i .i64 (s_InsAt a0.Prog a0.Pc).X))]) else none)) else none)

theorem nf_s_Address (N : Nat) (a0 : Guest) : evalFn (cfgQ (aget ctrN5) (aget mctC) (aget pct0) (aget tct0)) (tmsOf []) N 12 38 [.agg (Ty.cells .guest a0)] = E_s_Address N a0 := by kernel_rfl

theorem law_s_Address (a0 : Guest) (hb : AllB big [.agg (Ty.cells .guest a0)]) (hc : (s_Address_c a0) = true) : ∃ N, E_s_Address N a0 = some [.one (.i .i64 (s_Address a0))] := by
  refine ⟨0, ?_⟩
  unfold E_s_Address
  refine must rfl ?_
  refine br (fun h0 => ?_) (fun h0 => ?_)
  · refine br (fun h1 => ?_) (fun h1 => ?_)
    · first | rfl | (simp only [h0, h1, s_Address, address, cT, cF] <;> rfl) | (simp_all [Ty.cells, s_Address, address]; done)
    · refine must rfl ?_
      first | rfl | (simp only [h0, h1, s_Address, address, cT, cF] <;> rfl) | (simp_all [Ty.cells, s_Address, address]; done)
  · refine must rfl ?_
    first | rfl | (simp only [h0, s_Address, address, cT, cF] <;> rfl) | (simp_all [Ty.cells, s_Address, address]; done)
theorem holds_s_Address : Holds Tryz.prog 38 run_s_Address := by
  refine holds_of_eval (engQ_ok ctrN5_ok mctC_ok pct0_ok tct0_ok) (fn_ok (by kernel_rfl)) ?_
  intro avs rs hr h
  have hb := allB_of_rep hr
  unfold run_s_Address at h
  split at h
  · rename_i a0_0 a0_1 a0_2 a0_3 a0_4 a0_5 a0_6 a0_7 a0_8 a0_9 a0_10 a0_11 a0_12 a0_13 a0_14
    obtain ⟨hc, rfl⟩ := some_pair h
    obtain ⟨N, hN⟩ := law_s_Address (⟨a0_0, a0_1, a0_2, a0_3, a0_4, ⟨a0_5, a0_6, a0_7⟩, a0_8, ⟨a0_9, a0_10, a0_11, a0_12⟩, a0_13, a0_14⟩ : Guest) hb hc
    exact ⟨tmsOf [], N, 12, (nf_s_Address N (⟨a0_0, a0_1, a0_2, a0_3, a0_4, ⟨a0_5, a0_6, a0_7⟩, a0_8, ⟨a0_9, a0_10, a0_11, a0_12⟩, a0_13, a0_14⟩ : Guest)).trans hN⟩
  · cases h

@[simp, reducible] def i_Address_c (g : Guest) : Bool := true
@[simp, reducible] def i_Address (g : Guest) : Int := address g
noncomputable def run_i_Address : List AV → Option (Bool × List AV)
  | [.agg [.s .ins a0_0, .i .i64 a0_1, .i .i64 a0_2, .s .slot a0_3, .s .slot a0_4, .i .i64 a0_5, .i .i64 a0_6, .b a0_7, .i .i64 a0_8, .i .i64 a0_9, .i .i64 a0_10, .b a0_11, .i .i64 a0_12, .b a0_13, .s .int a0_14]] => some ((i_Address_c (⟨a0_0, a0_1, a0_2, a0_3, a0_4, ⟨a0_5, a0_6, a0_7⟩, a0_8, ⟨a0_9, a0_10, a0_11, a0_12⟩, a0_13, a0_14⟩ : Guest)), [.one (.i .i64 (i_Address (⟨a0_0, a0_1, a0_2, a0_3, a0_4, ⟨a0_5, a0_6, a0_7⟩, a0_8, ⟨a0_9, a0_10, a0_11, a0_12⟩, a0_13, a0_14⟩ : Guest)))])
  | _ => none

noncomputable def E_i_Address (N : Nat) (a0 : Guest) : Option Ans :=
  (bif (i_WantOf_c a0) then (bif (ine (i_WantOf a0) 3) then (bif (ine (i_WantOf a0) 4) then (some [(.one (.i .i64 (-1)))]) else (bif (i_InsAt_c a0.Prog a0.Pc) then (some [(.one (.i .i64 (i_InsAt a0.Prog a0.Pc).X))]) else none)) else (bif (i_InsAt_c a0.Prog a0.Pc) then (some [(.one (.i .i64 (i_InsAt a0.Prog a0.Pc).X))]) else none)) else none)

theorem nf_i_Address (N : Nat) (a0 : Guest) : evalFn (cfgQ (aget ctrN5) (aget mctC) (aget pct0) (aget tct0)) (tmsOf []) N 12 59 [.agg (Ty.cells .guest a0)] = E_i_Address N a0 := by kernel_rfl

theorem law_i_Address (a0 : Guest) (hb : AllB big [.agg (Ty.cells .guest a0)]) (hc : (i_Address_c a0) = true) : ∃ N, E_i_Address N a0 = some [.one (.i .i64 (i_Address a0))] := by
  refine ⟨0, ?_⟩
  unfold E_i_Address
  refine must rfl ?_
  refine br (fun h0 => ?_) (fun h0 => ?_)
  · refine br (fun h1 => ?_) (fun h1 => ?_)
    · first | rfl | (simp only [h0, h1, i_Address, address, cT, cF] <;> rfl) | (simp_all [Ty.cells, i_Address, address]; done)
    · refine must rfl ?_
      first | rfl | (simp only [h0, h1, i_Address, address, cT, cF] <;> rfl) | (simp_all [Ty.cells, i_Address, address]; done)
  · refine must rfl ?_
    first | rfl | (simp only [h0, i_Address, address, cT, cF] <;> rfl) | (simp_all [Ty.cells, i_Address, address]; done)
theorem holds_i_Address : Holds Tryz.prog 59 run_i_Address := by
  refine holds_of_eval (engQ_ok ctrN5_ok mctC_ok pct0_ok tct0_ok) (fn_ok (by kernel_rfl)) ?_
  intro avs rs hr h
  have hb := allB_of_rep hr
  unfold run_i_Address at h
  split at h
  · rename_i a0_0 a0_1 a0_2 a0_3 a0_4 a0_5 a0_6 a0_7 a0_8 a0_9 a0_10 a0_11 a0_12 a0_13 a0_14
    obtain ⟨hc, rfl⟩ := some_pair h
    obtain ⟨N, hN⟩ := law_i_Address (⟨a0_0, a0_1, a0_2, a0_3, a0_4, ⟨a0_5, a0_6, a0_7⟩, a0_8, ⟨a0_9, a0_10, a0_11, a0_12⟩, a0_13, a0_14⟩ : Guest) hb hc
    exact ⟨tmsOf [], N, 12, (nf_i_Address N (⟨a0_0, a0_1, a0_2, a0_3, a0_4, ⟨a0_5, a0_6, a0_7⟩, a0_8, ⟨a0_9, a0_10, a0_11, a0_12⟩, a0_13, a0_14⟩ : Guest)).trans hN⟩
  · cases h

def trap1 (g : Guest) (t w : Int) : Guest := bif ieq w 6 then stopped g (callExit (insAt g.Prog g.Pc).X) else (bif (ieq w 5 && hasTrap t 1) then stopped g (outExit (insAt g.Prog g.Pc).X) else (bif (ieq w 7 && hasTrap t 2) then stopped g ⟨4, 0, false, 0⟩ else (bif ieq w 7 then held g else movedG g)))
def trap2 (t w : Int) : Bool := bif ieq w 6 then false else (bif (ieq w 5 && hasTrap t 1) then false else (bif (ieq w 7 && hasTrap t 2) then false else true))
@[simp] theorem smG_trap1 {g : Guest} (t w : Int) (h : SmG g) : SmG (trap1 g t w) := by
  unfold trap1
  cases ieq w 6
  · cases (ieq w 5 && hasTrap t 1)
    · cases (ieq w 7 && hasTrap t 2)
      · cases ieq w 7
        · exact smG_moved h
        · exact smG_held h
      · exact h
    · exact h
  · exact h
@[simp, reducible] noncomputable def s_l18Trap_c (g : Guest) (t w : Int) : Bool := pc (SmG g)
@[simp, reducible] def s_l18Trap_1 (g : Guest) (t w : Int) : Guest := trap1 g t w
@[simp, reducible] def s_l18Trap_2 (g : Guest) (t w : Int) : Bool := trap2 t w
noncomputable def run_s_l18Trap : List AV → Option (Bool × List AV)
  | [.agg [.s .ins a0_0, .i .i64 a0_1, .i .i64 a0_2, .s .slot a0_3, .s .slot a0_4, .i .i64 a0_5, .i .i64 a0_6, .b a0_7, .i .i64 a0_8, .i .i64 a0_9, .i .i64 a0_10, .b a0_11, .i .i64 a0_12, .b a0_13, .s .int a0_14], .one (.i .i64 a1), .one (.i .i64 a2)] => some ((s_l18Trap_c (⟨a0_0, a0_1, a0_2, a0_3, a0_4, ⟨a0_5, a0_6, a0_7⟩, a0_8, ⟨a0_9, a0_10, a0_11, a0_12⟩, a0_13, a0_14⟩ : Guest) a1 a2), [.agg (Ty.cells .guest (s_l18Trap_1 (⟨a0_0, a0_1, a0_2, a0_3, a0_4, ⟨a0_5, a0_6, a0_7⟩, a0_8, ⟨a0_9, a0_10, a0_11, a0_12⟩, a0_13, a0_14⟩ : Guest) a1 a2)), .one (.b (s_l18Trap_2 (⟨a0_0, a0_1, a0_2, a0_3, a0_4, ⟨a0_5, a0_6, a0_7⟩, a0_8, ⟨a0_9, a0_10, a0_11, a0_12⟩, a0_13, a0_14⟩ : Guest) a1 a2))])
  | _ => none

noncomputable def E_s_l18Trap (N : Nat) (a0 : Guest) (a1 : Int) (a2 : Int) : Option Ans :=
  (bif (s_InsAt_c a0.Prog a0.Pc) then (bif (ieq a2 6) then (bif (s_CallExit_c (s_InsAt a0.Prog a0.Pc).X) then (bif (s_Stopped_c a0 (s_CallExit (s_InsAt a0.Prog a0.Pc).X)) then (some [(.agg (Ty.cells .guest (s_Stopped a0 (s_CallExit (s_InsAt a0.Prog a0.Pc).X)))), (.one (.b false))]) else none) else none) else (bif (ieq a2 5) then (bif (s_HasTrap_c a1 1) then (bif (s_HasTrap a1 1) then (bif (s_OutExit_c (s_InsAt a0.Prog a0.Pc).X) then (bif (s_Stopped_c a0 (s_OutExit (s_InsAt a0.Prog a0.Pc).X)) then (some [(.agg (Ty.cells .guest (s_Stopped a0 (s_OutExit (s_InsAt a0.Prog a0.Pc).X)))), (.one (.b false))]) else none) else none) else (bif (ieq a2 7) then (bif (s_HasTrap_c a1 2) then (bif (s_HasTrap a1 2) then (bif (s_Stopped_c a0 (⟨4, 0, false, 0⟩ : GExit)) then (some [(.agg (Ty.cells .guest (s_Stopped a0 (⟨4, 0, false, 0⟩ : GExit)))), (.one (.b false))]) else none) else (bif (ieq a2 7) then (bif (s_Held_c a0) then (some [(.agg (Ty.cells .guest (s_Held a0))), (.one (.b true))]) else none) else (bif (s_Moved_c a0) then (some [(.agg (Ty.cells .guest (s_Moved a0))), (.one (.b true))]) else none))) else none) else (bif (ieq a2 7) then (bif (s_Held_c a0) then (some [(.agg (Ty.cells .guest (s_Held a0))), (.one (.b true))]) else none) else (bif (s_Moved_c a0) then (some [(.agg (Ty.cells .guest (s_Moved a0))), (.one (.b true))]) else none)))) else none) else (bif (ieq a2 7) then (bif (s_HasTrap_c a1 2) then (bif (s_HasTrap a1 2) then (bif (s_Stopped_c a0 (⟨4, 0, false, 0⟩ : GExit)) then (some [(.agg (Ty.cells .guest (s_Stopped a0 (⟨4, 0, false, 0⟩ : GExit)))), (.one (.b false))]) else none) else (bif (ieq a2 7) then (bif (s_Held_c a0) then (some [(.agg (Ty.cells .guest (s_Held a0))), (.one (.b true))]) else none) else (bif (s_Moved_c a0) then (some [(.agg (Ty.cells .guest (s_Moved a0))), (.one (.b true))]) else none))) else none) else (bif (ieq a2 7) then (bif (s_Held_c a0) then (some [(.agg (Ty.cells .guest (s_Held a0))), (.one (.b true))]) else none) else (bif (s_Moved_c a0) then (some [(.agg (Ty.cells .guest (s_Moved a0))), (.one (.b true))]) else none))))) else none)

theorem nf_s_l18Trap (N : Nat) (a0 : Guest) (a1 : Int) (a2 : Int) : evalFn (cfgQ (aget ctrN5) (aget mctC) (aget pct0) (aget tct0)) (tmsOf []) N 12 49 [.agg (Ty.cells .guest a0), .one (.i .i64 a1), .one (.i .i64 a2)] = E_s_l18Trap N a0 a1 a2 := by kernel_rfl

theorem law_s_l18Trap (a0 : Guest) (a1 : Int) (a2 : Int) (hb : AllB big [.agg (Ty.cells .guest a0), .one (.i .i64 a1), .one (.i .i64 a2)]) (hc : (s_l18Trap_c a0 a1 a2) = true) : ∃ N, E_s_l18Trap N a0 a1 a2 = some [.agg (Ty.cells .guest (s_l18Trap_1 a0 a1 a2)), .one (.b (s_l18Trap_2 a0 a1 a2))] := by
  have hs := pc_iff.1 hc
  refine ⟨0, ?_⟩
  unfold E_s_l18Trap
  refine must rfl ?_
  refine br (fun h0 => ?_) (fun h0 => ?_)
  · refine must rfl ?_
    refine must (by first | assumption | (simp_all <;> omega)) ?_
    first | rfl | (simp only [h0, s_l18Trap_1, s_l18Trap_2, trap1, trap2, cT, cF] <;> rfl) | (simp_all [Ty.cells, s_l18Trap_1, s_l18Trap_2, trap1, trap2]; done)
  · refine br (fun h1 => ?_) (fun h1 => ?_)
    · refine must rfl ?_
      refine br (fun h2 => ?_) (fun h2 => ?_)
      · refine must rfl ?_
        refine must (by first | assumption | (simp_all <;> omega)) ?_
        first | rfl | (simp only [h0, h1, h2, s_l18Trap_1, s_l18Trap_2, trap1, trap2, cT, cF] <;> rfl) | (simp_all [Ty.cells, s_l18Trap_1, s_l18Trap_2, trap1, trap2]; done)
      · refine br (fun h3 => ?_) (fun h3 => ?_)
        · refine must rfl ?_
          refine br (fun h4 => ?_) (fun h4 => ?_)
          · refine must (by first | assumption | (simp_all <;> omega)) ?_
            first | rfl | (simp only [h0, h1, h2, h3, h4, s_l18Trap_1, s_l18Trap_2, trap1, trap2, cT, cF] <;> rfl) | (simp_all [Ty.cells, s_l18Trap_1, s_l18Trap_2, trap1, trap2]; done)
          · refine br (fun h5 => ?_) (fun h5 => ?_)
            · refine must (by first | assumption | (simp_all <;> omega)) ?_
              first | rfl | (simp only [h0, h1, h2, h3, h4, h5, s_l18Trap_1, s_l18Trap_2, trap1, trap2, cT, cF] <;> rfl) | (simp_all [Ty.cells, s_l18Trap_1, s_l18Trap_2, trap1, trap2]; done)
            · refine must (by first | assumption | (simp_all <;> omega)) ?_
              first | rfl | (simp only [h0, h1, h2, h3, h4, h5, s_l18Trap_1, s_l18Trap_2, trap1, trap2, cT, cF] <;> rfl) | (simp_all [Ty.cells, s_l18Trap_1, s_l18Trap_2, trap1, trap2]; done)
        · refine br (fun h4 => ?_) (fun h4 => ?_)
          · refine must (by first | assumption | (simp_all <;> omega)) ?_
            first | rfl | (simp only [h0, h1, h2, h3, h4, s_l18Trap_1, s_l18Trap_2, trap1, trap2, cT, cF] <;> rfl) | (simp_all [Ty.cells, s_l18Trap_1, s_l18Trap_2, trap1, trap2]; done)
          · refine must (by first | assumption | (simp_all <;> omega)) ?_
            first | rfl | (simp only [h0, h1, h2, h3, h4, s_l18Trap_1, s_l18Trap_2, trap1, trap2, cT, cF] <;> rfl) | (simp_all [Ty.cells, s_l18Trap_1, s_l18Trap_2, trap1, trap2]; done)
    · refine br (fun h2 => ?_) (fun h2 => ?_)
      · refine must rfl ?_
        refine br (fun h3 => ?_) (fun h3 => ?_)
        · refine must (by first | assumption | (simp_all <;> omega)) ?_
          first | rfl | (simp only [h0, h1, h2, h3, s_l18Trap_1, s_l18Trap_2, trap1, trap2, cT, cF] <;> rfl) | (simp_all [Ty.cells, s_l18Trap_1, s_l18Trap_2, trap1, trap2]; done)
        · refine br (fun h4 => ?_) (fun h4 => ?_)
          · refine must (by first | assumption | (simp_all <;> omega)) ?_
            first | rfl | (simp only [h0, h1, h2, h3, h4, s_l18Trap_1, s_l18Trap_2, trap1, trap2, cT, cF] <;> rfl) | (simp_all [Ty.cells, s_l18Trap_1, s_l18Trap_2, trap1, trap2]; done)
          · refine must (by first | assumption | (simp_all <;> omega)) ?_
            first | rfl | (simp only [h0, h1, h2, h3, h4, s_l18Trap_1, s_l18Trap_2, trap1, trap2, cT, cF] <;> rfl) | (simp_all [Ty.cells, s_l18Trap_1, s_l18Trap_2, trap1, trap2]; done)
      · refine br (fun h3 => ?_) (fun h3 => ?_)
        · refine must (by first | assumption | (simp_all <;> omega)) ?_
          first | rfl | (simp only [h0, h1, h2, h3, s_l18Trap_1, s_l18Trap_2, trap1, trap2, cT, cF] <;> rfl) | (simp_all [Ty.cells, s_l18Trap_1, s_l18Trap_2, trap1, trap2]; done)
        · refine must (by first | assumption | (simp_all <;> omega)) ?_
          first | rfl | (simp only [h0, h1, h2, h3, s_l18Trap_1, s_l18Trap_2, trap1, trap2, cT, cF] <;> rfl) | (simp_all [Ty.cells, s_l18Trap_1, s_l18Trap_2, trap1, trap2]; done)
theorem holds_s_l18Trap : Holds Tryz.prog 49 run_s_l18Trap := by
  refine holds_of_eval (engQ_ok ctrN5_ok mctC_ok pct0_ok tct0_ok) (fn_ok (by kernel_rfl)) ?_
  intro avs rs hr h
  have hb := allB_of_rep hr
  unfold run_s_l18Trap at h
  split at h
  · rename_i a0_0 a0_1 a0_2 a0_3 a0_4 a0_5 a0_6 a0_7 a0_8 a0_9 a0_10 a0_11 a0_12 a0_13 a0_14 a1 a2
    obtain ⟨hc, rfl⟩ := some_pair h
    obtain ⟨N, hN⟩ := law_s_l18Trap (⟨a0_0, a0_1, a0_2, a0_3, a0_4, ⟨a0_5, a0_6, a0_7⟩, a0_8, ⟨a0_9, a0_10, a0_11, a0_12⟩, a0_13, a0_14⟩ : Guest) a1 a2 hb hc
    exact ⟨tmsOf [], N, 12, (nf_s_l18Trap N (⟨a0_0, a0_1, a0_2, a0_3, a0_4, ⟨a0_5, a0_6, a0_7⟩, a0_8, ⟨a0_9, a0_10, a0_11, a0_12⟩, a0_13, a0_14⟩ : Guest) a1 a2).trans hN⟩
  · cases h

def bareOk (b : Bare) : Bool := bif b.Guests.all guestOk then (memOk b.Memory 8 && (win (ln b.Guests) 1 2 && (ile (ln b.Outs) 40 && pendOk b.Pending))) else false
@[simp, reducible] def s_BareOk_c (b : Bare) : Bool := true
@[simp, reducible] def s_BareOk (b : Bare) : Bool := bareOk b
noncomputable def run_s_BareOk : List AV → Option (Bool × List AV)
  | [.agg [.s (.sl .int) a0_0, .s .guest a0_1, .s .int a0_2, .i .i64 a0_3]] => some ((s_BareOk_c (⟨a0_0, a0_1, a0_2, a0_3⟩ : Bare)), [.one (.b (s_BareOk (⟨a0_0, a0_1, a0_2, a0_3⟩ : Bare)))])
  | _ => none

noncomputable def E_s_BareOk (N : Nat) (a0 : Bare) : Option Ans :=
  (iter (σ := (Int × (Int × ((List (List Int)) × ((List Guest) × ((List Int) × Unit)))))) N (fun r2 s3 => (bif (ilt s3.1 (ln s3.2.2.2.1)) then (bif (inb s3.1 (ln s3.2.2.2.1)) then (bif (s_GuestOk_c (ix s3.2.2.2.1 s3.1 (Ty.dflt .guest))) then (bif (bif (s_GuestOk (ix s3.2.2.2.1 s3.1 (Ty.dflt .guest))) then false else true) then (some [(.one (.b false))]) else (r2 ((wadd .i64 s3.1 1), (s3.2.1, (s3.2.2.1, (s3.2.2.2.1, (s3.2.2.2.2.1, ()))))))) else none) else none) else (bif (s_MemOk_c s3.2.2.1 8) then (bif (s_MemOk s3.2.2.1 8) then (bif (s_l01In_c (ln s3.2.2.2.1) 1 2) then (bif (s_l01In (ln s3.2.2.2.1) 1 2) then (bif (ile (ln s3.2.2.2.2.1) 40) then (bif (s_PendOk_c s3.2.1) then (some [(.one (.b (s_PendOk s3.2.1)))]) else none) else (some [(.one (.b false))])) else (some [(.one (.b false))])) else none) else (some [(.one (.b false))])) else none))) (0, (a0.Pending, (a0.Memory, (a0.Guests, (a0.Outs, ()))))))

def tms_s_BareOk : FuncId → Nat → Option Tmpl := tmsOf [(35, 0, { n := 38, tm := [(1, .lp 0 0), (3, .i .i64)], lo := [(0, [.sl 0 [], .sl 1 [], .sl 2 [], .i .i64])], ro := [(0, (.sl .int), false), (1, .guest, false), (2, .int, false)] })]

theorem nf_s_BareOk (N : Nat) (a0 : Bare) : evalFn (cfgQ (aget ctrN5) (aget mctC) (aget pct0) (aget tct0)) tms_s_BareOk N 12 35 [.agg (Ty.cells .bare a0)] = E_s_BareOk N a0 := by kernel_rfl

theorem law_s_BareOk (a0 : Bare) (hb : AllB big [.agg (Ty.cells .bare a0)]) (hc : (s_BareOk_c a0) = true) : ∃ N, E_s_BareOk N a0 = some [.one (.b (s_BareOk a0))] := by
  have hl : (_ : List _).length ≤ big := ((allB_cons hb).1 (.s .guest a0.Guests) (by simp [AV.cvs, Ty.cells])).len
  refine ⟨NN, ?_⟩
  have hNN : ∀ {n : Nat}, n ≤ big → n < NN := fun h => NN_lt h
  generalize NN = N at hNN ⊢
  unfold E_s_BareOk
  refine (iter_list a0.Guests (fun i (t : Unit) => ((i : Int), a0.Pending, a0.Memory, a0.Guests, a0.Outs, ())) _ (fun _ x (_ : Unit) κ => bif (guestOk) x then κ () else some [AV.one (.b false)]) (fun (t : Unit) => (bif (s_MemOk_c a0.Memory 8) then (bif (s_MemOk a0.Memory 8) then (bif (s_l01In_c (ln a0.Guests) 1 2) then (bif (s_l01In (ln a0.Guests) 1 2) then (bif (ile (ln a0.Outs) 40) then (bif (s_PendOk_c a0.Pending) then (some [(.one (.b (s_PendOk a0.Pending)))]) else none) else (some [(.one (.b false))])) else (some [(.one (.b false))])) else none) else (some [(.one (.b false))])) else none)) (fun i hi t rec => ?_) (fun t rec => ?_) _ () (hNN hl)).trans ?_
  · simp only [ilt_ln hi, inb_ln hi, ix_ln hi, wadd_up hi hl, cT]
    exact all_step rfl
  · simp only [ilt_end, cF]
  rw [goL_all (guestOk)]
  refine br (fun h0 => ?_) (fun h0 => ?_)
  · refine must rfl ?_
    refine br (fun h1 => ?_) (fun h1 => ?_)
    · refine must rfl ?_
      refine br (fun h2 => ?_) (fun h2 => ?_)
      · refine br (fun h3 => ?_) (fun h3 => ?_)
        · refine must rfl ?_
          first | rfl | (simp only [h0, h1, h2, h3, s_BareOk, bareOk, cT, cF] <;> rfl) | (simp_all [Ty.cells, s_BareOk, bareOk]; done)
        · first | rfl | (simp only [h0, h1, h2, h3, s_BareOk, bareOk, cT, cF] <;> rfl) | (simp_all [Ty.cells, s_BareOk, bareOk]; done)
      · first | rfl | (simp only [h0, h1, h2, s_BareOk, bareOk, cT, cF] <;> rfl) | (simp_all [Ty.cells, s_BareOk, bareOk]; done)
    · first | rfl | (simp only [h0, h1, s_BareOk, bareOk, cT, cF] <;> rfl) | (simp_all [Ty.cells, s_BareOk, bareOk]; done)
  · first | rfl | (simp only [h0, s_BareOk, bareOk, cT, cF] <;> rfl) | (simp_all [Ty.cells, s_BareOk, bareOk]; done)
theorem holds_s_BareOk : Holds Tryz.prog 35 run_s_BareOk := by
  refine holds_of_eval (engQ_ok ctrN5_ok mctC_ok pct0_ok tct0_ok) (fn_ok (by kernel_rfl)) ?_
  intro avs rs hr h
  have hb := allB_of_rep hr
  unfold run_s_BareOk at h
  split at h
  · rename_i a0_0 a0_1 a0_2 a0_3
    obtain ⟨hc, rfl⟩ := some_pair h
    obtain ⟨N, hN⟩ := law_s_BareOk (⟨a0_0, a0_1, a0_2, a0_3⟩ : Bare) hb hc
    exact ⟨tms_s_BareOk, N, 12, (nf_s_BareOk N (⟨a0_0, a0_1, a0_2, a0_3⟩ : Bare)).trans hN⟩
  · cases h

@[simp, reducible] def i_BareOk_c (b : Bare) : Bool := true
@[simp, reducible] def i_BareOk (b : Bare) : Bool := bareOk b
noncomputable def run_i_BareOk : List AV → Option (Bool × List AV)
  | [.agg [.s (.sl .int) a0_0, .s .guest a0_1, .s .int a0_2, .i .i64 a0_3]] => some ((i_BareOk_c (⟨a0_0, a0_1, a0_2, a0_3⟩ : Bare)), [.one (.b (i_BareOk (⟨a0_0, a0_1, a0_2, a0_3⟩ : Bare)))])
  | _ => none

noncomputable def E_i_BareOk (N : Nat) (a0 : Bare) : Option Ans :=
  (iter (σ := (Int × (Int × (Int × ((List Guest) × ((List (List Int)) × ((List Int) × Unit))))))) N (fun r2 s3 => (bif (ilt s3.2.1 s3.1) then (bif (inb s3.2.1 (ln s3.2.2.2.1)) then (bif (i_GuestOk_c (ix s3.2.2.2.1 s3.2.1 (Ty.dflt .guest))) then (bif (bif (i_GuestOk (ix s3.2.2.2.1 s3.2.1 (Ty.dflt .guest))) then false else true) then (some [(.one (.b false))]) else (r2 (s3.1, ((wadd .i64 s3.2.1 1), (s3.2.2.1, (s3.2.2.2.1, (s3.2.2.2.2.1, (s3.2.2.2.2.2.1, ())))))))) else none) else none) else (bif (i_MemOk_c s3.2.2.2.2.1 8) then (bif (i_MemOk s3.2.2.2.2.1 8) then (bif (i_within_c (ln s3.2.2.2.1) 1 2) then (bif (i_within (ln s3.2.2.2.1) 1 2) then (bif (ile (ln s3.2.2.2.2.2.1) 40) then (bif (i_PendOk_c s3.2.2.1) then (some [(.one (.b (i_PendOk s3.2.2.1)))]) else none) else (some [(.one (.b false))])) else (some [(.one (.b false))])) else none) else (some [(.one (.b false))])) else none))) ((ln a0.Guests), (0, (a0.Pending, (a0.Guests, (a0.Memory, (a0.Outs, ())))))))

def tms_i_BareOk : FuncId → Nat → Option Tmpl := tmsOf [(58, 0, { n := 36, tm := [(1, .lp 0 0), (6, .sl 0 []), (7, .i .i64), (8, .i .i64)], lo := [(0, [.sl 1 [], .sl 0 [], .sl 2 [], .i .i64])], ro := [(0, .guest, false), (1, (.sl .int), false), (2, .int, false)] })]

theorem nf_i_BareOk (N : Nat) (a0 : Bare) : evalFn (cfgQ (aget ctrN5) (aget mctC) (aget pct0) (aget tct0)) tms_i_BareOk N 12 58 [.agg (Ty.cells .bare a0)] = E_i_BareOk N a0 := by kernel_rfl

theorem law_i_BareOk (a0 : Bare) (hb : AllB big [.agg (Ty.cells .bare a0)]) (hc : (i_BareOk_c a0) = true) : ∃ N, E_i_BareOk N a0 = some [.one (.b (i_BareOk a0))] := by
  have hl : (_ : List _).length ≤ big := ((allB_cons hb).1 (.s .guest a0.Guests) (by simp [AV.cvs, Ty.cells])).len
  refine ⟨NN, ?_⟩
  have hNN : ∀ {n : Nat}, n ≤ big → n < NN := fun h => NN_lt h
  generalize NN = N at hNN ⊢
  unfold E_i_BareOk
  refine (iter_list a0.Guests (fun i (t : Unit) => ((ln a0.Guests), (i : Int), a0.Pending, a0.Guests, a0.Memory, a0.Outs, ())) _ (fun _ x (_ : Unit) κ => bif (guestOk) x then κ () else some [AV.one (.b false)]) (fun (t : Unit) => (bif (i_MemOk_c a0.Memory 8) then (bif (i_MemOk a0.Memory 8) then (bif (i_within_c (ln a0.Guests) 1 2) then (bif (i_within (ln a0.Guests) 1 2) then (bif (ile (ln a0.Outs) 40) then (bif (i_PendOk_c a0.Pending) then (some [(.one (.b (i_PendOk a0.Pending)))]) else none) else (some [(.one (.b false))])) else (some [(.one (.b false))])) else none) else (some [(.one (.b false))])) else none)) (fun i hi t rec => ?_) (fun t rec => ?_) _ () (hNN hl)).trans ?_
  · simp only [ilt_ln hi, inb_ln hi, ix_ln hi, wadd_up hi hl, cT]
    exact all_step rfl
  · simp only [ilt_end, cF]
  rw [goL_all (guestOk)]
  refine br (fun h0 => ?_) (fun h0 => ?_)
  · refine must rfl ?_
    refine br (fun h1 => ?_) (fun h1 => ?_)
    · refine must rfl ?_
      refine br (fun h2 => ?_) (fun h2 => ?_)
      · refine br (fun h3 => ?_) (fun h3 => ?_)
        · refine must rfl ?_
          first | rfl | (simp only [h0, h1, h2, h3, i_BareOk, bareOk, cT, cF] <;> rfl) | (simp_all [Ty.cells, i_BareOk, bareOk]; done)
        · first | rfl | (simp only [h0, h1, h2, h3, i_BareOk, bareOk, cT, cF] <;> rfl) | (simp_all [Ty.cells, i_BareOk, bareOk]; done)
      · first | rfl | (simp only [h0, h1, h2, i_BareOk, bareOk, cT, cF] <;> rfl) | (simp_all [Ty.cells, i_BareOk, bareOk]; done)
    · first | rfl | (simp only [h0, h1, i_BareOk, bareOk, cT, cF] <;> rfl) | (simp_all [Ty.cells, i_BareOk, bareOk]; done)
  · first | rfl | (simp only [h0, i_BareOk, bareOk, cT, cF] <;> rfl) | (simp_all [Ty.cells, i_BareOk, bareOk]; done)
theorem holds_i_BareOk : Holds Tryz.prog 58 run_i_BareOk := by
  refine holds_of_eval (engQ_ok ctrN5_ok mctC_ok pct0_ok tct0_ok) (fn_ok (by kernel_rfl)) ?_
  intro avs rs hr h
  have hb := allB_of_rep hr
  unfold run_i_BareOk at h
  split at h
  · rename_i a0_0 a0_1 a0_2 a0_3
    obtain ⟨hc, rfl⟩ := some_pair h
    obtain ⟨N, hN⟩ := law_i_BareOk (⟨a0_0, a0_1, a0_2, a0_3⟩ : Bare) hb hc
    exact ⟨tms_i_BareOk, N, 12, (nf_i_BareOk N (⟨a0_0, a0_1, a0_2, a0_3⟩ : Bare)).trans hN⟩
  · cases h

@[simp, reducible] noncomputable def i_copyBare_c (b : Bare) : Bool := pc (SmB b)
@[simp, reducible] def i_copyBare (b : Bare) : Bare := b
noncomputable def run_i_copyBare : List AV → Option (Bool × List AV)
  | [.agg [.s (.sl .int) a0_0, .s .guest a0_1, .s .int a0_2, .i .i64 a0_3]] => some ((i_copyBare_c (⟨a0_0, a0_1, a0_2, a0_3⟩ : Bare)), [.agg (Ty.cells .bare (i_copyBare (⟨a0_0, a0_1, a0_2, a0_3⟩ : Bare)))])
  | _ => none

noncomputable def E_i_copyBare (N : Nat) (a0 : Bare) : Option Ans :=
  (bif (i_copyMem_c a0.Memory) then (bif (i_copyGuests_c a0.Guests) then (bif (i_copyInts_c a0.Outs) then (some [(.agg (Ty.cells .bare (⟨(i_copyMem a0.Memory), (i_copyGuests a0.Guests), (i_copyInts a0.Outs), a0.Pending⟩ : Bare)))]) else none) else none) else none)

theorem nf_i_copyBare (N : Nat) (a0 : Bare) : evalFn (cfgQ (aget ctrN5) (aget mctC) (aget pct0) (aget tct0)) (tmsOf []) N 12 55 [.agg (Ty.cells .bare a0)] = E_i_copyBare N a0 := by kernel_rfl

theorem law_i_copyBare (a0 : Bare) (hb : AllB big [.agg (Ty.cells .bare a0)]) (hc : (i_copyBare_c a0) = true) : ∃ N, E_i_copyBare N a0 = some [.agg (Ty.cells .bare (i_copyBare a0))] := by
  have hs := pc_iff.1 hc; have hz : _ ∧ _ ∧ _ := hs
  refine ⟨0, ?_⟩
  unfold E_i_copyBare
  refine must (by first | assumption | (simp_all <;> omega)) ?_
  refine must (by first | assumption | (simp_all <;> omega)) ?_
  refine must (by first | assumption | (simp_all <;> omega)) ?_
  first | rfl | (simp only [i_copyBare, cT, cF] <;> rfl) | (simp_all [Ty.cells, i_copyBare]; done)
theorem holds_i_copyBare : Holds Tryz.prog 55 run_i_copyBare := by
  refine holds_of_eval (engQ_ok ctrN5_ok mctC_ok pct0_ok tct0_ok) (fn_ok (by kernel_rfl)) ?_
  intro avs rs hr h
  have hb := allB_of_rep hr
  unfold run_i_copyBare at h
  split at h
  · rename_i a0_0 a0_1 a0_2 a0_3
    obtain ⟨hc, rfl⟩ := some_pair h
    obtain ⟨N, hN⟩ := law_i_copyBare (⟨a0_0, a0_1, a0_2, a0_3⟩ : Bare) hb hc
    exact ⟨tmsOf [], N, 12, (nf_i_copyBare N (⟨a0_0, a0_1, a0_2, a0_3⟩ : Bare)).trans hN⟩
  · cases h

@[simp, reducible] noncomputable def s_l17Copy_c (b : Bare) : Bool := pc (SmB b)
@[simp, reducible] def s_l17Copy (b : Bare) : Bare := b
noncomputable def run_s_l17Copy : List AV → Option (Bool × List AV)
  | [.agg [.s (.sl .int) a0_0, .s .guest a0_1, .s .int a0_2, .i .i64 a0_3]] => some ((s_l17Copy_c (⟨a0_0, a0_1, a0_2, a0_3⟩ : Bare)), [.agg (Ty.cells .bare (s_l17Copy (⟨a0_0, a0_1, a0_2, a0_3⟩ : Bare)))])
  | _ => none

noncomputable def E_s_l17Copy (N : Nat) (a0 : Bare) : Option Ans :=
  (bif (s_l04Copy_c a0.Memory) then (bif (s_l17Guests_c a0.Guests) then (bif (few (ln (ap [] a0.Outs))) then (some [(.agg (Ty.cells .bare (⟨(s_l04Copy a0.Memory), (s_l17Guests a0.Guests), (ap [] a0.Outs), a0.Pending⟩ : Bare)))]) else none) else none) else none)

theorem nf_s_l17Copy (N : Nat) (a0 : Bare) : evalFn (cfgQ (aget ctrN5) (aget mctC) (aget pct0) (aget tct0)) (tmsOf []) N 12 32 [.agg (Ty.cells .bare a0)] = E_s_l17Copy N a0 := by kernel_rfl

theorem law_s_l17Copy (a0 : Bare) (hb : AllB big [.agg (Ty.cells .bare a0)]) (hc : (s_l17Copy_c a0) = true) : ∃ N, E_s_l17Copy N a0 = some [.agg (Ty.cells .bare (s_l17Copy a0))] := by
  have hs := pc_iff.1 hc; have hz : _ ∧ _ ∧ _ := hs
  refine ⟨0, ?_⟩
  unfold E_s_l17Copy
  refine must (by first | assumption | (simp_all <;> omega)) ?_
  refine must (by first | assumption | (simp_all <;> omega)) ?_
  refine must (by first | assumption | (simp_all <;> omega)) ?_
  first | rfl | (simp only [s_l17Copy, cT, cF] <;> rfl) | (simp_all [Ty.cells, s_l17Copy]; done)
theorem holds_s_l17Copy : Holds Tryz.prog 32 run_s_l17Copy := by
  refine holds_of_eval (engQ_ok ctrN5_ok mctC_ok pct0_ok tct0_ok) (fn_ok (by kernel_rfl)) ?_
  intro avs rs hr h
  have hb := allB_of_rep hr
  unfold run_s_l17Copy at h
  split at h
  · rename_i a0_0 a0_1 a0_2 a0_3
    obtain ⟨hc, rfl⟩ := some_pair h
    obtain ⟨N, hN⟩ := law_s_l17Copy (⟨a0_0, a0_1, a0_2, a0_3⟩ : Bare) hb hc
    exact ⟨tmsOf [], N, 12, (nf_s_l17Copy N (⟨a0_0, a0_1, a0_2, a0_3⟩ : Bare)).trans hN⟩
  · cases h

noncomputable def ctrN6 : Ctrs := [(37, run_s_Plainly), (63, run_i_Plainly), (38, run_s_Address), (59, run_i_Address), (49, run_s_l18Trap), (35, run_s_BareOk), (58, run_i_BareOk), (55, run_i_copyBare), (32, run_s_l17Copy)] ++ ctrN5

theorem ctrN6_ok : ∀ f run, aget ctrN6 f = some run → Holds Tryz.prog f run := ctr_more ctrN5_ok (by
  intro x hx
  simp only [List.mem_cons, List.not_mem_nil, or_false] at hx
  rcases hx with rfl | rfl | rfl | rfl | rfl | rfl | rfl | rfl | rfl
  · exact holds_s_Plainly
  · exact holds_i_Plainly
  · exact holds_s_Address
  · exact holds_i_Address
  · exact holds_s_l18Trap
  · exact holds_s_BareOk
  · exact holds_i_BareOk
  · exact holds_i_copyBare
  · exact holds_s_l17Copy)

def setG (b : Bare) (i : Int) (x : Guest) : Bare := { b with Guests := up b.Guests i x }
def withGuest (b : Bare) (i : Int) (x : Guest) : Bare := bif hasB i (ln b.Guests) then setG b i x else b
def putOut (b : Bare) (n : Int) : Bare := bif ilt (ln b.Outs) 40 then { b with Outs := ap b.Outs [n] } else b
@[simp] theorem smB_setG {b : Bare} {i : Int} {x : Guest} (h : SmB b) (hx : SmG x) : SmB (setG b i x) := ⟨h.1, smGs_up h.2.1 hx, h.2.2⟩
@[simp] theorem smB_putOut {b : Bare} {n : Int} (h : SmB b) : SmB (putOut b n) := by
  unfold putOut
  cases h1 : ilt (ln b.Outs) 40
  · exact h
  · have := of_decide_eq_true h1
    refine ⟨h.1, h.2.1, ?_⟩
    simp [ln] at *; omega
@[simp] theorem putOut_g (b : Bare) (n : Int) : (putOut b n).Guests = b.Guests := by
  unfold putOut
  cases ilt (ln b.Outs) 40 <;> rfl
@[simp] theorem smM_with {m : List (List Int)} {p c v : Int} (h : SmM m) : SmM (withCell m p c v) := by
  unfold withCell
  cases h1 : memHas m p c
  · exact h
  · cases h2 : win v 0 99
    · exact h
    · exact smM_up h (by simpa using smM_ix h ((memHas_iff m p c).1 h1).1 [])
@[simp, reducible] noncomputable def i_WithGuest_c (b : Bare) (i : Int) (x : Guest) : Bool := pc (SmB b ∧ SmG x)
@[simp, reducible] def i_WithGuest (b : Bare) (i : Int) (x : Guest) : Bare := withGuest b i x
noncomputable def run_i_WithGuest : List AV → Option (Bool × List AV)
  | [.agg [.s (.sl .int) a0_0, .s .guest a0_1, .s .int a0_2, .i .i64 a0_3], .one (.i .i64 a1), .agg [.s .ins a2_0, .i .i64 a2_1, .i .i64 a2_2, .s .slot a2_3, .s .slot a2_4, .i .i64 a2_5, .i .i64 a2_6, .b a2_7, .i .i64 a2_8, .i .i64 a2_9, .i .i64 a2_10, .b a2_11, .i .i64 a2_12, .b a2_13, .s .int a2_14]] => some ((i_WithGuest_c (⟨a0_0, a0_1, a0_2, a0_3⟩ : Bare) a1 (⟨a2_0, a2_1, a2_2, a2_3, a2_4, ⟨a2_5, a2_6, a2_7⟩, a2_8, ⟨a2_9, a2_10, a2_11, a2_12⟩, a2_13, a2_14⟩ : Guest)), [.agg (Ty.cells .bare (i_WithGuest (⟨a0_0, a0_1, a0_2, a0_3⟩ : Bare) a1 (⟨a2_0, a2_1, a2_2, a2_3, a2_4, ⟨a2_5, a2_6, a2_7⟩, a2_8, ⟨a2_9, a2_10, a2_11, a2_12⟩, a2_13, a2_14⟩ : Guest)))])
  | _ => none

noncomputable def E_i_WithGuest (N : Nat) (a0 : Bare) (a1 : Int) (a2 : Guest) : Option Ans :=
  (bif (i_copyBare_c a0) then (bif (i_has_c a1 (ln a0.Guests)) then (bif (i_has a1 (ln a0.Guests)) then (bif (i_copyGuest_c a2) then (bif (inb a1 (ln (i_copyBare a0).Guests)) then (share (up (i_copyBare a0).Guests a1 (i_copyGuest a2)) (fun x4 => (some [(.agg (Ty.cells .bare ({ (i_copyBare a0) with Guests := x4 } : Bare)))]))) else none) else none) else (some [(.agg (Ty.cells .bare (i_copyBare a0)))])) else none) else none)

theorem nf_i_WithGuest (N : Nat) (a0 : Bare) (a1 : Int) (a2 : Guest) : evalFn (cfgQ (aget ctrN6) (aget mctC) (aget pct0) (aget tct0)) (tmsOf []) N 12 61 [.agg (Ty.cells .bare a0), .one (.i .i64 a1), .agg (Ty.cells .guest a2)] = E_i_WithGuest N a0 a1 a2 := by kernel_rfl

theorem law_i_WithGuest (a0 : Bare) (a1 : Int) (a2 : Guest) (hb : AllB big [.agg (Ty.cells .bare a0), .one (.i .i64 a1), .agg (Ty.cells .guest a2)]) (hc : (i_WithGuest_c a0 a1 a2) = true) : ∃ N, E_i_WithGuest N a0 a1 a2 = some [.agg (Ty.cells .bare (i_WithGuest a0 a1 a2))] := by
  have hs := pc_iff.1 hc
  refine ⟨0, ?_⟩
  unfold E_i_WithGuest
  refine must (by first | assumption | (simp_all <;> omega)) ?_
  refine must rfl ?_
  refine br (fun h0 => ?_) (fun h0 => ?_)
  · refine must (by first | assumption | (simp_all <;> omega)) ?_
    refine must (by first | assumption | (simp_all <;> omega)) ?_
    refine shr ?_
    first | rfl | (simp only [h0, i_WithGuest, withGuest, setG, cT, cF] <;> rfl) | (simp_all [Ty.cells, i_WithGuest, withGuest, setG]; done)
  · first | rfl | (simp only [h0, i_WithGuest, withGuest, setG, cT, cF] <;> rfl) | (simp_all [Ty.cells, i_WithGuest, withGuest, setG]; done)
theorem holds_i_WithGuest : Holds Tryz.prog 61 run_i_WithGuest := by
  refine holds_of_eval (engQ_ok ctrN6_ok mctC_ok pct0_ok tct0_ok) (fn_ok (by kernel_rfl)) ?_
  intro avs rs hr h
  have hb := allB_of_rep hr
  unfold run_i_WithGuest at h
  split at h
  · rename_i a0_0 a0_1 a0_2 a0_3 a1 a2_0 a2_1 a2_2 a2_3 a2_4 a2_5 a2_6 a2_7 a2_8 a2_9 a2_10 a2_11 a2_12 a2_13 a2_14
    obtain ⟨hc, rfl⟩ := some_pair h
    obtain ⟨N, hN⟩ := law_i_WithGuest (⟨a0_0, a0_1, a0_2, a0_3⟩ : Bare) a1 (⟨a2_0, a2_1, a2_2, a2_3, a2_4, ⟨a2_5, a2_6, a2_7⟩, a2_8, ⟨a2_9, a2_10, a2_11, a2_12⟩, a2_13, a2_14⟩ : Guest) hb hc
    exact ⟨tmsOf [], N, 12, (nf_i_WithGuest N (⟨a0_0, a0_1, a0_2, a0_3⟩ : Bare) a1 (⟨a2_0, a2_1, a2_2, a2_3, a2_4, ⟨a2_5, a2_6, a2_7⟩, a2_8, ⟨a2_9, a2_10, a2_11, a2_12⟩, a2_13, a2_14⟩ : Guest)).trans hN⟩
  · cases h

@[simp, reducible] noncomputable def s_PutOut_c (b : Bare) (n : Int) : Bool := pc (SmB b)
@[simp, reducible] def s_PutOut (b : Bare) (n : Int) : Bare := putOut b n
noncomputable def run_s_PutOut : List AV → Option (Bool × List AV)
  | [.agg [.s (.sl .int) a0_0, .s .guest a0_1, .s .int a0_2, .i .i64 a0_3], .one (.i .i64 a1)] => some ((s_PutOut_c (⟨a0_0, a0_1, a0_2, a0_3⟩ : Bare) a1), [.agg (Ty.cells .bare (s_PutOut (⟨a0_0, a0_1, a0_2, a0_3⟩ : Bare) a1))])
  | _ => none

noncomputable def E_s_PutOut (N : Nat) (a0 : Bare) (a1 : Int) : Option Ans :=
  (bif (s_l17Copy_c a0) then (bif (ilt (ln (s_l17Copy a0).Outs) 40) then (bif (few (ln (ap (s_l17Copy a0).Outs [a1]))) then (some [(.agg (Ty.cells .bare ({ (s_l17Copy a0) with Outs := (ap (s_l17Copy a0).Outs [a1]) } : Bare)))]) else none) else (some [(.agg (Ty.cells .bare (s_l17Copy a0)))])) else none)

theorem nf_s_PutOut (N : Nat) (a0 : Bare) (a1 : Int) : evalFn (cfgQ (aget ctrN6) (aget mctC) (aget pct0) (aget tct0)) (tmsOf []) N 12 50 [.agg (Ty.cells .bare a0), .one (.i .i64 a1)] = E_s_PutOut N a0 a1 := by kernel_rfl

theorem law_s_PutOut (a0 : Bare) (a1 : Int) (hb : AllB big [.agg (Ty.cells .bare a0), .one (.i .i64 a1)]) (hc : (s_PutOut_c a0 a1) = true) : ∃ N, E_s_PutOut N a0 a1 = some [.agg (Ty.cells .bare (s_PutOut a0 a1))] := by
  have hs := pc_iff.1 hc; have hz : a0.Outs.length ≤ 1048576 := hs.2.2
  refine ⟨0, ?_⟩
  unfold E_s_PutOut
  refine must (by first | assumption | (simp_all <;> omega)) ?_
  refine br (fun h0 => ?_) (fun h0 => ?_)
  · refine must (by first | assumption | (simp_all <;> omega)) ?_
    first | rfl | (simp only [h0, s_PutOut, putOut, cT, cF] <;> rfl) | (simp_all [Ty.cells, s_PutOut, putOut]; done)
  · first | rfl | (simp only [h0, s_PutOut, putOut, cT, cF] <;> rfl) | (simp_all [Ty.cells, s_PutOut, putOut]; done)
theorem holds_s_PutOut : Holds Tryz.prog 50 run_s_PutOut := by
  refine holds_of_eval (engQ_ok ctrN6_ok mctC_ok pct0_ok tct0_ok) (fn_ok (by kernel_rfl)) ?_
  intro avs rs hr h
  have hb := allB_of_rep hr
  unfold run_s_PutOut at h
  split at h
  · rename_i a0_0 a0_1 a0_2 a0_3 a1
    obtain ⟨hc, rfl⟩ := some_pair h
    obtain ⟨N, hN⟩ := law_s_PutOut (⟨a0_0, a0_1, a0_2, a0_3⟩ : Bare) a1 hb hc
    exact ⟨tmsOf [], N, 12, (nf_s_PutOut N (⟨a0_0, a0_1, a0_2, a0_3⟩ : Bare) a1).trans hN⟩
  · cases h

@[simp, reducible] noncomputable def i_PutOut_c (b : Bare) (n : Int) : Bool := pc (SmB b)
@[simp, reducible] def i_PutOut (b : Bare) (n : Int) : Bare := putOut b n
noncomputable def run_i_PutOut : List AV → Option (Bool × List AV)
  | [.agg [.s (.sl .int) a0_0, .s .guest a0_1, .s .int a0_2, .i .i64 a0_3], .one (.i .i64 a1)] => some ((i_PutOut_c (⟨a0_0, a0_1, a0_2, a0_3⟩ : Bare) a1), [.agg (Ty.cells .bare (i_PutOut (⟨a0_0, a0_1, a0_2, a0_3⟩ : Bare) a1))])
  | _ => none

noncomputable def E_i_PutOut (N : Nat) (a0 : Bare) (a1 : Int) : Option Ans :=
  (bif (i_copyBare_c a0) then (bif (ilt (ln a0.Outs) 40) then (bif (few (ln (ap (i_copyBare a0).Outs [a1]))) then (some [(.agg (Ty.cells .bare ({ (i_copyBare a0) with Outs := (ap (i_copyBare a0).Outs [a1]) } : Bare)))]) else none) else (some [(.agg (Ty.cells .bare (i_copyBare a0)))])) else none)

theorem nf_i_PutOut (N : Nat) (a0 : Bare) (a1 : Int) : evalFn (cfgQ (aget ctrN6) (aget mctC) (aget pct0) (aget tct0)) (tmsOf []) N 12 78 [.agg (Ty.cells .bare a0), .one (.i .i64 a1)] = E_i_PutOut N a0 a1 := by kernel_rfl

theorem law_i_PutOut (a0 : Bare) (a1 : Int) (hb : AllB big [.agg (Ty.cells .bare a0), .one (.i .i64 a1)]) (hc : (i_PutOut_c a0 a1) = true) : ∃ N, E_i_PutOut N a0 a1 = some [.agg (Ty.cells .bare (i_PutOut a0 a1))] := by
  have hs := pc_iff.1 hc; have hz : a0.Outs.length ≤ 1048576 := hs.2.2
  refine ⟨0, ?_⟩
  unfold E_i_PutOut
  refine must (by first | assumption | (simp_all <;> omega)) ?_
  refine br (fun h0 => ?_) (fun h0 => ?_)
  · refine must (by first | assumption | (simp_all <;> omega)) ?_
    first | rfl | (simp only [h0, i_PutOut, putOut, cT, cF] <;> rfl) | (simp_all [Ty.cells, i_PutOut, putOut]; done)
  · first | rfl | (simp only [h0, i_PutOut, putOut, cT, cF] <;> rfl) | (simp_all [Ty.cells, i_PutOut, putOut]; done)
theorem holds_i_PutOut : Holds Tryz.prog 78 run_i_PutOut := by
  refine holds_of_eval (engQ_ok ctrN6_ok mctC_ok pct0_ok tct0_ok) (fn_ok (by kernel_rfl)) ?_
  intro avs rs hr h
  have hb := allB_of_rep hr
  unfold run_i_PutOut at h
  split at h
  · rename_i a0_0 a0_1 a0_2 a0_3 a1
    obtain ⟨hc, rfl⟩ := some_pair h
    obtain ⟨N, hN⟩ := law_i_PutOut (⟨a0_0, a0_1, a0_2, a0_3⟩ : Bare) a1 hb hc
    exact ⟨tmsOf [], N, 12, (nf_i_PutOut N (⟨a0_0, a0_1, a0_2, a0_3⟩ : Bare) a1).trans hN⟩
  · cases h

noncomputable def ctrN7 : Ctrs := [(61, run_i_WithGuest), (50, run_s_PutOut), (78, run_i_PutOut)] ++ ctrN6

theorem ctrN7_ok : ∀ f run, aget ctrN7 f = some run → Holds Tryz.prog f run := ctr_more ctrN6_ok (by
  intro x hx
  simp only [List.mem_cons, List.not_mem_nil, or_false] at hx
  rcases hx with rfl | rfl | rfl
  · exact holds_i_WithGuest
  · exact holds_s_PutOut
  · exact holds_i_PutOut)

/-- What a guest's load or store leads to. -/
def stepMem (b : Bare) (g : Int) (x : Guest) (w : Bool) : Bare :=
  bif walkOk x.Live (addrPage (address x)) (needOf w) then
    (bif w then setG { b with Memory := withCell b.Memory (walkAt x.Live (addrPage (address x)) (needOf w)) (addrCell (address x)) x.A } g (movedG x)
    else setG b g (loaded x (cellAt b.Memory (walkAt x.Live (addrPage (address x)) (needOf w)) (addrCell (address x)))))
  else setG b g (stopped x (faultExit (addrPage (address x)) w))
def stepOut (b : Bare) (g : Int) (x : Guest) (w : Int) : Bare :=
  setG (bif (bif trap2 x.Ctl.Traps w then ieq w 5 else false) then putOut b (insAt x.Prog x.Pc).X else b) g (trap1 x x.Ctl.Traps w)
def stepped (b : Bare) (g : Int) (x : Guest) (w : Int) : Bare :=
  bif ieq w 1 then setG b g (interrupted x) else (bif ieq w 2 then setG b g (plainly x) else (bif ieq w 3 then stepMem b g x false else (bif ieq w 4 then stepMem b g x true else stepOut b g x w)))
theorem tr1 (x : Guest) (t w : Int) : ieq w 6 = true → trap1 x t w = stopped x (callExit (insAt x.Prog x.Pc).X) ∧ trap2 t w = false := by
  intro h
  simp [trap1, trap2, h]
theorem tr2 (x : Guest) (t w : Int) : ieq w 6 = false → (ieq w 5 = false → ieq w 6 = false → ieq w 7 = true) → hasTrap t (trapOf w) = true → trap1 x t w = trapped x w ∧ trap2 t w = false := by
  intro h6 h7 h
  unfold trap1 trap2 trapped trapOf at *
  cases h5 : ieq w 5 <;> simp_all
theorem tr3 (x : Guest) (t w : Int) : ieq w 6 = false → ieq w 7 = false → hasTrap t (trapOf w) = false → ieq w 5 = true → trap1 x t w = movedG x ∧ trap2 t w = true := by
  intro h6 h7 h h5
  unfold trap1 trap2 trapOf at *
  simp_all
theorem tr4 (x : Guest) (t w : Int) : ieq w 6 = false → (ieq w 5 = false → ieq w 6 = false → ieq w 7 = true) → hasTrap t (trapOf w) = false → ieq w 5 = false → trap1 x t w = held x := by
  intro h6 h7 h h5
  unfold trap1 trapOf at *
  simp_all
def canStep (b : Bare) (g : Int) : Bool := bif hasB g (ln b.Guests) then (bif bareOk b then !ieq (wantOf (gAt b g)) 0 else false) else false
def bareStep (b : Bare) (g : Int) : Bare := bif canStep b g then stepped b g (gAt b g) (wantOf (gAt b g)) else b
@[simp] theorem smB_mem {b : Bare} {g : Int} {x : Guest} {w : Bool} (h : SmB b) (hx : SmG x) : SmB (stepMem b g x w) := by
  unfold stepMem
  cases walkOk x.Live (addrPage (address x)) (needOf w)
  · exact smB_setG h hx
  · cases w
    · exact smB_setG h (smG_loaded _ hx)
    · exact ⟨smM_with h.1, smGs_up h.2.1 (smG_moved hx), h.2.2⟩
@[simp] theorem smB_out {b : Bare} {g : Int} {x : Guest} {w : Int} (h : SmB b) (hx : SmG x) : SmB (stepOut b g x w) := by
  unfold stepOut
  cases (bif trap2 x.Ctl.Traps w then ieq w 5 else false)
  · exact smB_setG h (smG_trap1 _ _ hx)
  · exact smB_setG (smB_putOut h) (smG_trap1 _ _ hx)
@[simp] theorem smB_stepped {b : Bare} {g : Int} {x : Guest} {w : Int} (h : SmB b) (hx : SmG x) : SmB (stepped b g x w) := by
  unfold stepped
  cases ieq w 1
  · cases ieq w 2
    · cases ieq w 3
      · cases ieq w 4
        · exact smB_out h hx
        · exact smB_mem h hx
      · exact smB_mem h hx
    · exact smB_setG h (smG_plainly hx)
  · exact smB_setG h (smG_int hx)
@[simp] theorem smB_step {b : Bare} {g : Int} (h : SmB b) : SmB (bareStep b g) := by
  unfold bareStep
  cases canStep b g
  · exact h
  · exact smB_stepped h (smG_at g h)
theorem want7 (x : Guest) : ieq (wantOf x) 0 = false → ieq (wantOf x) 1 = false → ieq (wantOf x) 2 = false → ieq (wantOf x) 3 = false → ieq (wantOf x) 4 = false → ieq (wantOf x) 5 = false → ieq (wantOf x) 6 = false → ieq (wantOf x) 7 = true := by
  unfold wantOf opWant
  cases canRun x
  · intro h; cases h
  · cases takesIrq x
    · simp only [cT, cF]
      generalize (insAt x.Prog x.Pc).Op = o
      cases ieq o 3 <;> cases ieq o 4 <;> cases ieq o 5 <;> cases ieq o 6 <;> cases ieq o 7 <;> simp [ieq]
    · intro _ h; cases h
theorem ieq_two {x : Int} {a b : Int} (h : ieq x a = true) (hab : ieq a b = false) : ieq x b = false := by
  have : x = a := by simpa [ieq] using h
  rw [this]; exact hab
@[simp, reducible] noncomputable def i_BareStep_c (b : Bare) (g : Int) : Bool := pc (SmB b)
@[simp, reducible] def i_BareStep_1 (b : Bare) (g : Int) : Bare := bareStep b g
@[simp, reducible] def i_BareStep_2 (b : Bare) (g : Int) : Bool := canStep b g
noncomputable def run_i_BareStep : List AV → Option (Bool × List AV)
  | [.agg [.s (.sl .int) a0_0, .s .guest a0_1, .s .int a0_2, .i .i64 a0_3], .one (.i .i64 a1)] => some ((i_BareStep_c (⟨a0_0, a0_1, a0_2, a0_3⟩ : Bare) a1), [.agg (Ty.cells .bare (i_BareStep_1 (⟨a0_0, a0_1, a0_2, a0_3⟩ : Bare) a1)), .one (.b (i_BareStep_2 (⟨a0_0, a0_1, a0_2, a0_3⟩ : Bare) a1))])
  | _ => none

noncomputable def E_i_BareStep (N : Nat) (a0 : Bare) (a1 : Int) : Option Ans :=
  (bif (i_GuestAt_c a0 a1) then (bif (i_WantOf_c (i_GuestAt_1 a0 a1)) then (bif (i_BareOk_c a0) then (bif (bif (i_BareOk a0) then false else true) then (bif (i_copyBare_c a0) then (some [(.agg (Ty.cells .bare (i_copyBare a0))), (.one (.b false))]) else none) else (bif (bif (i_GuestAt_2 a0 a1) then false else true) then (bif (i_copyBare_c a0) then (some [(.agg (Ty.cells .bare (i_copyBare a0))), (.one (.b false))]) else none) else (bif (ieq (i_WantOf (i_GuestAt_1 a0 a1)) 0) then (bif (i_copyBare_c a0) then (some [(.agg (Ty.cells .bare (i_copyBare a0))), (.one (.b false))]) else none) else (bif (i_Address_c (i_GuestAt_1 a0 a1)) then (bif (i_InsAt_c (i_GuestAt_1 a0 a1).Prog (i_GuestAt_1 a0 a1).Pc) then (bif (ieq (i_WantOf (i_GuestAt_1 a0 a1)) 1) then (bif (i_Interrupted_c (i_GuestAt_1 a0 a1)) then (bif (i_WithGuest_c a0 a1 (i_Interrupted (i_GuestAt_1 a0 a1))) then (some [(.agg (Ty.cells .bare (i_WithGuest a0 a1 (i_Interrupted (i_GuestAt_1 a0 a1))))), (.one (.b true))]) else none) else none) else (bif (ieq (i_WantOf (i_GuestAt_1 a0 a1)) 2) then (bif (i_Plainly_c (i_GuestAt_1 a0 a1)) then (bif (i_WithGuest_c a0 a1 (i_Plainly (i_GuestAt_1 a0 a1))) then (some [(.agg (Ty.cells .bare (i_WithGuest a0 a1 (i_Plainly (i_GuestAt_1 a0 a1))))), (.one (.b true))]) else none) else none) else (bif (ieq (i_WantOf (i_GuestAt_1 a0 a1)) 3) then (bif (ieq (i_WantOf (i_GuestAt_1 a0 a1)) 3) then (bif (i_AddrPage_c (i_Address (i_GuestAt_1 a0 a1))) then (bif (i_NeedOf_c (ieq (i_WantOf (i_GuestAt_1 a0 a1)) 4)) then (bif (i_WalkInner_c (i_GuestAt_1 a0 a1).Live (i_AddrPage (i_Address (i_GuestAt_1 a0 a1))) (i_NeedOf (ieq (i_WantOf (i_GuestAt_1 a0 a1)) 4))) then (bif (bif (i_WalkInner_2 (i_GuestAt_1 a0 a1).Live (i_AddrPage (i_Address (i_GuestAt_1 a0 a1))) (i_NeedOf (ieq (i_WantOf (i_GuestAt_1 a0 a1)) 4))) then false else true) then (bif (i_AddrPage_c (i_Address (i_GuestAt_1 a0 a1))) then (bif (i_FaultExit_c (i_AddrPage (i_Address (i_GuestAt_1 a0 a1))) (ieq (i_WantOf (i_GuestAt_1 a0 a1)) 4)) then (bif (i_Stopped_c (i_GuestAt_1 a0 a1) (i_FaultExit (i_AddrPage (i_Address (i_GuestAt_1 a0 a1))) (ieq (i_WantOf (i_GuestAt_1 a0 a1)) 4))) then (bif (i_WithGuest_c a0 a1 (i_Stopped (i_GuestAt_1 a0 a1) (i_FaultExit (i_AddrPage (i_Address (i_GuestAt_1 a0 a1))) (ieq (i_WantOf (i_GuestAt_1 a0 a1)) 4)))) then (some [(.agg (Ty.cells .bare (i_WithGuest a0 a1 (i_Stopped (i_GuestAt_1 a0 a1) (i_FaultExit (i_AddrPage (i_Address (i_GuestAt_1 a0 a1))) (ieq (i_WantOf (i_GuestAt_1 a0 a1)) 4)))))), (.one (.b true))]) else none) else none) else none) else none) else (bif (ieq (i_WantOf (i_GuestAt_1 a0 a1)) 4) then (bif (i_AddrCell_c (i_Address (i_GuestAt_1 a0 a1))) then (bif (i_WithCell_c a0.Memory (i_WalkInner_1 (i_GuestAt_1 a0 a1).Live (i_AddrPage (i_Address (i_GuestAt_1 a0 a1))) (i_NeedOf (ieq (i_WantOf (i_GuestAt_1 a0 a1)) 4))) (i_AddrCell (i_Address (i_GuestAt_1 a0 a1))) (i_GuestAt_1 a0 a1).A) then (bif (i_Stored_c (i_GuestAt_1 a0 a1)) then (bif (i_WithGuest_c ({ a0 with Memory := (i_WithCell a0.Memory (i_WalkInner_1 (i_GuestAt_1 a0 a1).Live (i_AddrPage (i_Address (i_GuestAt_1 a0 a1))) (i_NeedOf (ieq (i_WantOf (i_GuestAt_1 a0 a1)) 4))) (i_AddrCell (i_Address (i_GuestAt_1 a0 a1))) (i_GuestAt_1 a0 a1).A) } : Bare) a1 (i_Stored (i_GuestAt_1 a0 a1))) then (some [(.agg (Ty.cells .bare (i_WithGuest ({ a0 with Memory := (i_WithCell a0.Memory (i_WalkInner_1 (i_GuestAt_1 a0 a1).Live (i_AddrPage (i_Address (i_GuestAt_1 a0 a1))) (i_NeedOf (ieq (i_WantOf (i_GuestAt_1 a0 a1)) 4))) (i_AddrCell (i_Address (i_GuestAt_1 a0 a1))) (i_GuestAt_1 a0 a1).A) } : Bare) a1 (i_Stored (i_GuestAt_1 a0 a1))))), (.one (.b true))]) else none) else none) else none) else none) else (bif (i_AddrCell_c (i_Address (i_GuestAt_1 a0 a1))) then (bif (i_CellAt_c a0.Memory (i_WalkInner_1 (i_GuestAt_1 a0 a1).Live (i_AddrPage (i_Address (i_GuestAt_1 a0 a1))) (i_NeedOf (ieq (i_WantOf (i_GuestAt_1 a0 a1)) 4))) (i_AddrCell (i_Address (i_GuestAt_1 a0 a1)))) then (bif (i_Loaded_c (i_GuestAt_1 a0 a1) (i_CellAt a0.Memory (i_WalkInner_1 (i_GuestAt_1 a0 a1).Live (i_AddrPage (i_Address (i_GuestAt_1 a0 a1))) (i_NeedOf (ieq (i_WantOf (i_GuestAt_1 a0 a1)) 4))) (i_AddrCell (i_Address (i_GuestAt_1 a0 a1))))) then (bif (i_WithGuest_c a0 a1 (i_Loaded (i_GuestAt_1 a0 a1) (i_CellAt a0.Memory (i_WalkInner_1 (i_GuestAt_1 a0 a1).Live (i_AddrPage (i_Address (i_GuestAt_1 a0 a1))) (i_NeedOf (ieq (i_WantOf (i_GuestAt_1 a0 a1)) 4))) (i_AddrCell (i_Address (i_GuestAt_1 a0 a1)))))) then (some [(.agg (Ty.cells .bare (i_WithGuest a0 a1 (i_Loaded (i_GuestAt_1 a0 a1) (i_CellAt a0.Memory (i_WalkInner_1 (i_GuestAt_1 a0 a1).Live (i_AddrPage (i_Address (i_GuestAt_1 a0 a1))) (i_NeedOf (ieq (i_WantOf (i_GuestAt_1 a0 a1)) 4))) (i_AddrCell (i_Address (i_GuestAt_1 a0 a1)))))))), (.one (.b true))]) else none) else none) else none) else none))) else none) else none) else none) else (bif (ieq (i_WantOf (i_GuestAt_1 a0 a1)) 6) then (bif (i_CallExit_c (i_InsAt (i_GuestAt_1 a0 a1).Prog (i_GuestAt_1 a0 a1).Pc).X) then (bif (i_Stopped_c (i_GuestAt_1 a0 a1) (i_CallExit (i_InsAt (i_GuestAt_1 a0 a1).Prog (i_GuestAt_1 a0 a1).Pc).X)) then (bif (i_WithGuest_c a0 a1 (i_Stopped (i_GuestAt_1 a0 a1) (i_CallExit (i_InsAt (i_GuestAt_1 a0 a1).Prog (i_GuestAt_1 a0 a1).Pc).X))) then (some [(.agg (Ty.cells .bare (i_WithGuest a0 a1 (i_Stopped (i_GuestAt_1 a0 a1) (i_CallExit (i_InsAt (i_GuestAt_1 a0 a1).Prog (i_GuestAt_1 a0 a1).Pc).X))))), (.one (.b true))]) else none) else none) else none) else (bif (i_trapOf_c (i_WantOf (i_GuestAt_1 a0 a1))) then (bif (i_HasTrap_c (i_GuestAt_1 a0 a1).Ctl.Traps (i_trapOf (i_WantOf (i_GuestAt_1 a0 a1)))) then (bif (i_HasTrap (i_GuestAt_1 a0 a1).Ctl.Traps (i_trapOf (i_WantOf (i_GuestAt_1 a0 a1)))) then (bif (i_trapped_c (i_GuestAt_1 a0 a1) (i_WantOf (i_GuestAt_1 a0 a1))) then (bif (i_WithGuest_c a0 a1 (i_trapped (i_GuestAt_1 a0 a1) (i_WantOf (i_GuestAt_1 a0 a1)))) then (some [(.agg (Ty.cells .bare (i_WithGuest a0 a1 (i_trapped (i_GuestAt_1 a0 a1) (i_WantOf (i_GuestAt_1 a0 a1)))))), (.one (.b true))]) else none) else none) else (bif (ieq (i_WantOf (i_GuestAt_1 a0 a1)) 5) then (bif (i_PutOut_c a0 (i_InsAt (i_GuestAt_1 a0 a1).Prog (i_GuestAt_1 a0 a1).Pc).X) then (bif (i_Moved_c (i_GuestAt_1 a0 a1)) then (bif (i_WithGuest_c (i_PutOut a0 (i_InsAt (i_GuestAt_1 a0 a1).Prog (i_GuestAt_1 a0 a1).Pc).X) a1 (i_Moved (i_GuestAt_1 a0 a1))) then (some [(.agg (Ty.cells .bare (i_WithGuest (i_PutOut a0 (i_InsAt (i_GuestAt_1 a0 a1).Prog (i_GuestAt_1 a0 a1).Pc).X) a1 (i_Moved (i_GuestAt_1 a0 a1))))), (.one (.b true))]) else none) else none) else none) else (bif (i_Held_c (i_GuestAt_1 a0 a1)) then (bif (i_WithGuest_c a0 a1 (i_Held (i_GuestAt_1 a0 a1))) then (some [(.agg (Ty.cells .bare (i_WithGuest a0 a1 (i_Held (i_GuestAt_1 a0 a1))))), (.one (.b true))]) else none) else none))) else none) else none))) else (bif (ieq (i_WantOf (i_GuestAt_1 a0 a1)) 4) then (bif (i_AddrPage_c (i_Address (i_GuestAt_1 a0 a1))) then (bif (i_NeedOf_c (ieq (i_WantOf (i_GuestAt_1 a0 a1)) 4)) then (bif (i_WalkInner_c (i_GuestAt_1 a0 a1).Live (i_AddrPage (i_Address (i_GuestAt_1 a0 a1))) (i_NeedOf (ieq (i_WantOf (i_GuestAt_1 a0 a1)) 4))) then (bif (bif (i_WalkInner_2 (i_GuestAt_1 a0 a1).Live (i_AddrPage (i_Address (i_GuestAt_1 a0 a1))) (i_NeedOf (ieq (i_WantOf (i_GuestAt_1 a0 a1)) 4))) then false else true) then (bif (i_AddrPage_c (i_Address (i_GuestAt_1 a0 a1))) then (bif (i_FaultExit_c (i_AddrPage (i_Address (i_GuestAt_1 a0 a1))) (ieq (i_WantOf (i_GuestAt_1 a0 a1)) 4)) then (bif (i_Stopped_c (i_GuestAt_1 a0 a1) (i_FaultExit (i_AddrPage (i_Address (i_GuestAt_1 a0 a1))) (ieq (i_WantOf (i_GuestAt_1 a0 a1)) 4))) then (bif (i_WithGuest_c a0 a1 (i_Stopped (i_GuestAt_1 a0 a1) (i_FaultExit (i_AddrPage (i_Address (i_GuestAt_1 a0 a1))) (ieq (i_WantOf (i_GuestAt_1 a0 a1)) 4)))) then (some [(.agg (Ty.cells .bare (i_WithGuest a0 a1 (i_Stopped (i_GuestAt_1 a0 a1) (i_FaultExit (i_AddrPage (i_Address (i_GuestAt_1 a0 a1))) (ieq (i_WantOf (i_GuestAt_1 a0 a1)) 4)))))), (.one (.b true))]) else none) else none) else none) else none) else (bif (ieq (i_WantOf (i_GuestAt_1 a0 a1)) 4) then (bif (i_AddrCell_c (i_Address (i_GuestAt_1 a0 a1))) then (bif (i_WithCell_c a0.Memory (i_WalkInner_1 (i_GuestAt_1 a0 a1).Live (i_AddrPage (i_Address (i_GuestAt_1 a0 a1))) (i_NeedOf (ieq (i_WantOf (i_GuestAt_1 a0 a1)) 4))) (i_AddrCell (i_Address (i_GuestAt_1 a0 a1))) (i_GuestAt_1 a0 a1).A) then (bif (i_Stored_c (i_GuestAt_1 a0 a1)) then (bif (i_WithGuest_c ({ a0 with Memory := (i_WithCell a0.Memory (i_WalkInner_1 (i_GuestAt_1 a0 a1).Live (i_AddrPage (i_Address (i_GuestAt_1 a0 a1))) (i_NeedOf (ieq (i_WantOf (i_GuestAt_1 a0 a1)) 4))) (i_AddrCell (i_Address (i_GuestAt_1 a0 a1))) (i_GuestAt_1 a0 a1).A) } : Bare) a1 (i_Stored (i_GuestAt_1 a0 a1))) then (some [(.agg (Ty.cells .bare (i_WithGuest ({ a0 with Memory := (i_WithCell a0.Memory (i_WalkInner_1 (i_GuestAt_1 a0 a1).Live (i_AddrPage (i_Address (i_GuestAt_1 a0 a1))) (i_NeedOf (ieq (i_WantOf (i_GuestAt_1 a0 a1)) 4))) (i_AddrCell (i_Address (i_GuestAt_1 a0 a1))) (i_GuestAt_1 a0 a1).A) } : Bare) a1 (i_Stored (i_GuestAt_1 a0 a1))))), (.one (.b true))]) else none) else none) else none) else none) else (bif (i_AddrCell_c (i_Address (i_GuestAt_1 a0 a1))) then (bif (i_CellAt_c a0.Memory (i_WalkInner_1 (i_GuestAt_1 a0 a1).Live (i_AddrPage (i_Address (i_GuestAt_1 a0 a1))) (i_NeedOf (ieq (i_WantOf (i_GuestAt_1 a0 a1)) 4))) (i_AddrCell (i_Address (i_GuestAt_1 a0 a1)))) then (bif (i_Loaded_c (i_GuestAt_1 a0 a1) (i_CellAt a0.Memory (i_WalkInner_1 (i_GuestAt_1 a0 a1).Live (i_AddrPage (i_Address (i_GuestAt_1 a0 a1))) (i_NeedOf (ieq (i_WantOf (i_GuestAt_1 a0 a1)) 4))) (i_AddrCell (i_Address (i_GuestAt_1 a0 a1))))) then (bif (i_WithGuest_c a0 a1 (i_Loaded (i_GuestAt_1 a0 a1) (i_CellAt a0.Memory (i_WalkInner_1 (i_GuestAt_1 a0 a1).Live (i_AddrPage (i_Address (i_GuestAt_1 a0 a1))) (i_NeedOf (ieq (i_WantOf (i_GuestAt_1 a0 a1)) 4))) (i_AddrCell (i_Address (i_GuestAt_1 a0 a1)))))) then (some [(.agg (Ty.cells .bare (i_WithGuest a0 a1 (i_Loaded (i_GuestAt_1 a0 a1) (i_CellAt a0.Memory (i_WalkInner_1 (i_GuestAt_1 a0 a1).Live (i_AddrPage (i_Address (i_GuestAt_1 a0 a1))) (i_NeedOf (ieq (i_WantOf (i_GuestAt_1 a0 a1)) 4))) (i_AddrCell (i_Address (i_GuestAt_1 a0 a1)))))))), (.one (.b true))]) else none) else none) else none) else none))) else none) else none) else none) else (bif (ieq (i_WantOf (i_GuestAt_1 a0 a1)) 6) then (bif (i_CallExit_c (i_InsAt (i_GuestAt_1 a0 a1).Prog (i_GuestAt_1 a0 a1).Pc).X) then (bif (i_Stopped_c (i_GuestAt_1 a0 a1) (i_CallExit (i_InsAt (i_GuestAt_1 a0 a1).Prog (i_GuestAt_1 a0 a1).Pc).X)) then (bif (i_WithGuest_c a0 a1 (i_Stopped (i_GuestAt_1 a0 a1) (i_CallExit (i_InsAt (i_GuestAt_1 a0 a1).Prog (i_GuestAt_1 a0 a1).Pc).X))) then (some [(.agg (Ty.cells .bare (i_WithGuest a0 a1 (i_Stopped (i_GuestAt_1 a0 a1) (i_CallExit (i_InsAt (i_GuestAt_1 a0 a1).Prog (i_GuestAt_1 a0 a1).Pc).X))))), (.one (.b true))]) else none) else none) else none) else (bif (i_trapOf_c (i_WantOf (i_GuestAt_1 a0 a1))) then (bif (i_HasTrap_c (i_GuestAt_1 a0 a1).Ctl.Traps (i_trapOf (i_WantOf (i_GuestAt_1 a0 a1)))) then (bif (i_HasTrap (i_GuestAt_1 a0 a1).Ctl.Traps (i_trapOf (i_WantOf (i_GuestAt_1 a0 a1)))) then (bif (i_trapped_c (i_GuestAt_1 a0 a1) (i_WantOf (i_GuestAt_1 a0 a1))) then (bif (i_WithGuest_c a0 a1 (i_trapped (i_GuestAt_1 a0 a1) (i_WantOf (i_GuestAt_1 a0 a1)))) then (some [(.agg (Ty.cells .bare (i_WithGuest a0 a1 (i_trapped (i_GuestAt_1 a0 a1) (i_WantOf (i_GuestAt_1 a0 a1)))))), (.one (.b true))]) else none) else none) else (bif (ieq (i_WantOf (i_GuestAt_1 a0 a1)) 5) then (bif (i_PutOut_c a0 (i_InsAt (i_GuestAt_1 a0 a1).Prog (i_GuestAt_1 a0 a1).Pc).X) then (bif (i_Moved_c (i_GuestAt_1 a0 a1)) then (bif (i_WithGuest_c (i_PutOut a0 (i_InsAt (i_GuestAt_1 a0 a1).Prog (i_GuestAt_1 a0 a1).Pc).X) a1 (i_Moved (i_GuestAt_1 a0 a1))) then (some [(.agg (Ty.cells .bare (i_WithGuest (i_PutOut a0 (i_InsAt (i_GuestAt_1 a0 a1).Prog (i_GuestAt_1 a0 a1).Pc).X) a1 (i_Moved (i_GuestAt_1 a0 a1))))), (.one (.b true))]) else none) else none) else none) else (bif (i_Held_c (i_GuestAt_1 a0 a1)) then (bif (i_WithGuest_c a0 a1 (i_Held (i_GuestAt_1 a0 a1))) then (some [(.agg (Ty.cells .bare (i_WithGuest a0 a1 (i_Held (i_GuestAt_1 a0 a1))))), (.one (.b true))]) else none) else none))) else none) else none)))))) else none) else none)))) else none) else none) else none)

theorem nf_i_BareStep (N : Nat) (a0 : Bare) (a1 : Int) : evalFn (cfgQ (aget ctrN7) (aget mctC) (aget pct0) (aget tct0)) (tmsOf []) N 12 19 [.agg (Ty.cells .bare a0), .one (.i .i64 a1)] = E_i_BareStep N a0 a1 := by kernel_rfl

theorem law_i_BareStep (a0 : Bare) (a1 : Int) (hb : AllB big [.agg (Ty.cells .bare a0), .one (.i .i64 a1)]) (hc : (i_BareStep_c a0 a1) = true) : ∃ N, E_i_BareStep N a0 a1 = some [.agg (Ty.cells .bare (i_BareStep_1 a0 a1)), .one (.b (i_BareStep_2 a0 a1))] := by
  have hs := pc_iff.1 hc; have hx := smG_at a1 hs; have hz : _ ∧ _ ∧ _ := hs; have hg : a0.Guests.length ≤ 1048576 := hs.2.1.1; have hw7 := want7 (gAt a0 a1); have h34 : ieq (wantOf (gAt a0 a1)) 3 = true → ieq (wantOf (gAt a0 a1)) 4 = false := fun h => ieq_two h rfl; have h57 : ieq (wantOf (gAt a0 a1)) 5 = true → ieq (wantOf (gAt a0 a1)) 7 = false := fun h => ieq_two h rfl; have t1 := tr1 (gAt a0 a1) (gAt a0 a1).Ctl.Traps (wantOf (gAt a0 a1)); have t2 := tr2 (gAt a0 a1) (gAt a0 a1).Ctl.Traps (wantOf (gAt a0 a1)); have t3 := tr3 (gAt a0 a1) (gAt a0 a1).Ctl.Traps (wantOf (gAt a0 a1)); have t4 := tr4 (gAt a0 a1) (gAt a0 a1).Ctl.Traps (wantOf (gAt a0 a1)); have hp : ∀ n, SmB (putOut a0 n) := fun n => smB_putOut hs
  refine ⟨0, ?_⟩
  unfold E_i_BareStep
  refine must (by first | assumption | (simp_all <;> omega)) ?_
  refine must rfl ?_
  refine must rfl ?_
  refine brN (fun h0 => ?_) (fun h0 => ?_)
  · refine must (by first | assumption | (simp_all <;> omega)) ?_
    first | rfl | (simp only [h0, i_BareStep_1, i_BareStep_2, bareStep, canStep, stepped, stepMem, stepOut, withGuest, needOf, cT, cF] <;> rfl) | (simp_all [Ty.cells, i_BareStep_1, i_BareStep_2, bareStep, canStep, stepped, stepMem, stepOut, withGuest, needOf]; done)
  · refine brN (fun h1 => ?_) (fun h1 => ?_)
    · refine must (by first | assumption | (simp_all <;> omega)) ?_
      first | rfl | (simp only [h0, h1, i_BareStep_1, i_BareStep_2, bareStep, canStep, stepped, stepMem, stepOut, withGuest, needOf, cT, cF] <;> rfl) | (simp_all [Ty.cells, i_BareStep_1, i_BareStep_2, bareStep, canStep, stepped, stepMem, stepOut, withGuest, needOf]; done)
    · refine br (fun h2 => ?_) (fun h2 => ?_)
      · refine must (by first | assumption | (simp_all <;> omega)) ?_
        first | rfl | (simp only [h0, h1, h2, i_BareStep_1, i_BareStep_2, bareStep, canStep, stepped, stepMem, stepOut, withGuest, needOf, cT, cF] <;> rfl) | (simp_all [Ty.cells, i_BareStep_1, i_BareStep_2, bareStep, canStep, stepped, stepMem, stepOut, withGuest, needOf]; done)
      · refine must rfl ?_
        refine must rfl ?_
        refine br (fun h3 => ?_) (fun h3 => ?_)
        · refine must (by first | assumption | (simp_all <;> omega)) ?_
          refine must (by first | assumption | (simp_all <;> omega)) ?_
          first | rfl | (simp only [h0, h1, h2, h3, i_BareStep_1, i_BareStep_2, bareStep, canStep, stepped, stepMem, stepOut, withGuest, needOf, cT, cF] <;> rfl) | (simp_all [Ty.cells, i_BareStep_1, i_BareStep_2, bareStep, canStep, stepped, stepMem, stepOut, withGuest, needOf]; done)
        · refine br (fun h4 => ?_) (fun h4 => ?_)
          · refine must (by first | assumption | (simp_all <;> omega)) ?_
            refine must (by first | assumption | (simp_all <;> omega)) ?_
            first | rfl | (simp only [h0, h1, h2, h3, h4, i_BareStep_1, i_BareStep_2, bareStep, canStep, stepped, stepMem, stepOut, withGuest, needOf, cT, cF] <;> rfl) | (simp_all [Ty.cells, i_BareStep_1, i_BareStep_2, bareStep, canStep, stepped, stepMem, stepOut, withGuest, needOf]; done)
          · refine br (fun h5 => ?_) (fun h5 => ?_)
            · refine br (fun h6 => ?_) (fun h6 => ?_)
              · refine must rfl ?_
                refine must rfl ?_
                refine must rfl ?_
                refine brN (fun h7 => ?_) (fun h7 => ?_)
                · refine must rfl ?_
                  refine must rfl ?_
                  refine must (by first | assumption | (simp_all <;> omega)) ?_
                  refine must (by first | assumption | (simp_all <;> omega)) ?_
                  first | rfl | (simp only [h0, h1, h2, h3, h4, h5, h6, h7, i_BareStep_1, i_BareStep_2, bareStep, canStep, stepped, stepMem, stepOut, withGuest, needOf, cT, cF] <;> rfl) | (simp_all [Ty.cells, i_BareStep_1, i_BareStep_2, bareStep, canStep, stepped, stepMem, stepOut, withGuest, needOf]; done)
                · refine br (fun h8 => ?_) (fun h8 => ?_)
                  · refine must rfl ?_
                    refine must (by first | assumption | (simp_all <;> omega)) ?_
                    refine must (by first | assumption | (simp_all <;> omega)) ?_
                    refine must (by first | assumption | (simp_all <;> omega)) ?_
                    first | rfl | (simp only [h0, h1, h2, h3, h4, h5, h6, h7, h8, i_BareStep_1, i_BareStep_2, bareStep, canStep, stepped, stepMem, stepOut, withGuest, needOf, cT, cF] <;> rfl) | (simp_all [Ty.cells, i_BareStep_1, i_BareStep_2, bareStep, canStep, stepped, stepMem, stepOut, withGuest, needOf]; done)
                  · refine must rfl ?_
                    refine must rfl ?_
                    refine must (by first | assumption | (simp_all <;> omega)) ?_
                    refine must (by first | assumption | (simp_all <;> omega)) ?_
                    first | rfl | (simp only [h0, h1, h2, h3, h4, h5, h6, h7, h8, i_BareStep_1, i_BareStep_2, bareStep, canStep, stepped, stepMem, stepOut, withGuest, needOf, cT, cF] <;> rfl) | (simp_all [Ty.cells, i_BareStep_1, i_BareStep_2, bareStep, canStep, stepped, stepMem, stepOut, withGuest, needOf]; done)
              · refine br (fun h7 => ?_) (fun h7 => ?_)
                · refine must rfl ?_
                  refine must (by first | assumption | (simp_all <;> omega)) ?_
                  refine must (by first | assumption | (simp_all <;> omega)) ?_
                  first | rfl | (simp only [h0, h1, h2, h3, h4, h5, h6, h7, i_BareStep_1, i_BareStep_2, bareStep, canStep, stepped, stepMem, stepOut, withGuest, needOf, cT, cF] <;> rfl) | (simp_all [Ty.cells, i_BareStep_1, i_BareStep_2, bareStep, canStep, stepped, stepMem, stepOut, withGuest, needOf]; done)
                · refine must rfl ?_
                  refine must rfl ?_
                  refine br (fun h8 => ?_) (fun h8 => ?_)
                  · refine must (by first | assumption | (simp_all <;> omega)) ?_
                    refine must (by first | assumption | (simp_all <;> omega)) ?_
                    first | rfl | (simp only [h0, h1, h2, h3, h4, h5, h6, h7, h8, i_BareStep_1, i_BareStep_2, bareStep, canStep, stepped, stepMem, stepOut, withGuest, needOf, cT, cF] <;> rfl) | (simp_all [Ty.cells, i_BareStep_1, i_BareStep_2, bareStep, canStep, stepped, stepMem, stepOut, withGuest, needOf]; done)
                  · refine br (fun h9 => ?_) (fun h9 => ?_)
                    · refine must (by first | assumption | (simp_all <;> omega)) ?_
                      refine must (by first | assumption | (simp_all <;> omega)) ?_
                      refine must (by first | assumption | (simp_all <;> omega)) ?_
                      first | rfl | (simp only [h0, h1, h2, h3, h4, h5, h6, h7, h8, h9, i_BareStep_1, i_BareStep_2, bareStep, canStep, stepped, stepMem, stepOut, withGuest, needOf, cT, cF] <;> rfl) | (simp_all [Ty.cells, i_BareStep_1, i_BareStep_2, bareStep, canStep, stepped, stepMem, stepOut, withGuest, needOf]; done)
                    · refine must (by first | assumption | (simp_all <;> omega)) ?_
                      refine must (by first | assumption | (simp_all <;> omega)) ?_
                      first | rfl | (simp only [h0, h1, h2, h3, h4, h5, h6, h7, h8, h9, i_BareStep_1, i_BareStep_2, bareStep, canStep, stepped, stepMem, stepOut, withGuest, needOf, cT, cF] <;> rfl) | (simp_all [Ty.cells, i_BareStep_1, i_BareStep_2, bareStep, canStep, stepped, stepMem, stepOut, withGuest, needOf]; done)
            · refine br (fun h6 => ?_) (fun h6 => ?_)
              · refine must rfl ?_
                refine must rfl ?_
                refine must rfl ?_
                refine brN (fun h7 => ?_) (fun h7 => ?_)
                · refine must rfl ?_
                  refine must rfl ?_
                  refine must (by first | assumption | (simp_all <;> omega)) ?_
                  refine must (by first | assumption | (simp_all <;> omega)) ?_
                  first | rfl | (simp only [h0, h1, h2, h3, h4, h5, h6, h7, i_BareStep_1, i_BareStep_2, bareStep, canStep, stepped, stepMem, stepOut, withGuest, needOf, cT, cF] <;> rfl) | (simp_all [Ty.cells, i_BareStep_1, i_BareStep_2, bareStep, canStep, stepped, stepMem, stepOut, withGuest, needOf]; done)
                · refine br (fun h8 => ?_) (fun h8 => ?_)
                  · refine must rfl ?_
                    refine must (by first | assumption | (simp_all <;> omega)) ?_
                    refine must (by first | assumption | (simp_all <;> omega)) ?_
                    refine must (by first | assumption | (simp_all <;> omega)) ?_
                    first | rfl | (simp only [h0, h1, h2, h3, h4, h5, h6, h7, h8, i_BareStep_1, i_BareStep_2, bareStep, canStep, stepped, stepMem, stepOut, withGuest, needOf, cT, cF] <;> rfl) | (simp_all [Ty.cells, i_BareStep_1, i_BareStep_2, bareStep, canStep, stepped, stepMem, stepOut, withGuest, needOf]; done)
                  · refine must rfl ?_
                    refine must rfl ?_
                    refine must (by first | assumption | (simp_all <;> omega)) ?_
                    refine must (by first | assumption | (simp_all <;> omega)) ?_
                    first | rfl | (simp only [h0, h1, h2, h3, h4, h5, h6, h7, h8, i_BareStep_1, i_BareStep_2, bareStep, canStep, stepped, stepMem, stepOut, withGuest, needOf, cT, cF] <;> rfl) | (simp_all [Ty.cells, i_BareStep_1, i_BareStep_2, bareStep, canStep, stepped, stepMem, stepOut, withGuest, needOf]; done)
              · refine br (fun h7 => ?_) (fun h7 => ?_)
                · refine must rfl ?_
                  refine must (by first | assumption | (simp_all <;> omega)) ?_
                  refine must (by first | assumption | (simp_all <;> omega)) ?_
                  first | rfl | (simp only [h0, h1, h2, h3, h4, h5, h6, h7, i_BareStep_1, i_BareStep_2, bareStep, canStep, stepped, stepMem, stepOut, withGuest, needOf, cT, cF] <;> rfl) | (simp_all [Ty.cells, i_BareStep_1, i_BareStep_2, bareStep, canStep, stepped, stepMem, stepOut, withGuest, needOf]; done)
                · refine must rfl ?_
                  refine must rfl ?_
                  refine br (fun h8 => ?_) (fun h8 => ?_)
                  · refine must (by first | assumption | (simp_all <;> omega)) ?_
                    refine must (by first | assumption | (simp_all <;> omega)) ?_
                    first | rfl | (simp only [h0, h1, h2, h3, h4, h5, h6, h7, h8, i_BareStep_1, i_BareStep_2, bareStep, canStep, stepped, stepMem, stepOut, withGuest, needOf, cT, cF] <;> rfl) | (simp_all [Ty.cells, i_BareStep_1, i_BareStep_2, bareStep, canStep, stepped, stepMem, stepOut, withGuest, needOf]; done)
                  · refine br (fun h9 => ?_) (fun h9 => ?_)
                    · refine must (by first | assumption | (simp_all <;> omega)) ?_
                      refine must (by first | assumption | (simp_all <;> omega)) ?_
                      refine must (by first | assumption | (simp_all <;> omega)) ?_
                      first | rfl | (simp only [h0, h1, h2, h3, h4, h5, h6, h7, h8, h9, i_BareStep_1, i_BareStep_2, bareStep, canStep, stepped, stepMem, stepOut, withGuest, needOf, cT, cF] <;> rfl) | (simp_all [Ty.cells, i_BareStep_1, i_BareStep_2, bareStep, canStep, stepped, stepMem, stepOut, withGuest, needOf]; done)
                    · refine must (by first | assumption | (simp_all <;> omega)) ?_
                      refine must (by first | assumption | (simp_all <;> omega)) ?_
                      first | rfl | (simp only [h0, h1, h2, h3, h4, h5, h6, h7, h8, h9, i_BareStep_1, i_BareStep_2, bareStep, canStep, stepped, stepMem, stepOut, withGuest, needOf, cT, cF] <;> rfl) | (simp_all [Ty.cells, i_BareStep_1, i_BareStep_2, bareStep, canStep, stepped, stepMem, stepOut, withGuest, needOf]; done)
theorem holds_i_BareStep : Holds Tryz.prog 19 run_i_BareStep := by
  refine holds_of_eval (engQ_ok ctrN7_ok mctC_ok pct0_ok tct0_ok) (fn_ok (by kernel_rfl)) ?_
  intro avs rs hr h
  have hb := allB_of_rep hr
  unfold run_i_BareStep at h
  split at h
  · rename_i a0_0 a0_1 a0_2 a0_3 a1
    obtain ⟨hc, rfl⟩ := some_pair h
    obtain ⟨N, hN⟩ := law_i_BareStep (⟨a0_0, a0_1, a0_2, a0_3⟩ : Bare) a1 hb hc
    exact ⟨tmsOf [], N, 12, (nf_i_BareStep N (⟨a0_0, a0_1, a0_2, a0_3⟩ : Bare) a1).trans hN⟩
  · cases h

@[simp, reducible] noncomputable def s_BareStep_c (b : Bare) (g : Int) : Bool := pc (SmB b)
@[simp, reducible] def s_BareStep_1 (b : Bare) (g : Int) : Bare := bareStep b g
@[simp, reducible] def s_BareStep_2 (b : Bare) (g : Int) : Bool := canStep b g
noncomputable def run_s_BareStep : List AV → Option (Bool × List AV)
  | [.agg [.s (.sl .int) a0_0, .s .guest a0_1, .s .int a0_2, .i .i64 a0_3], .one (.i .i64 a1)] => some ((s_BareStep_c (⟨a0_0, a0_1, a0_2, a0_3⟩ : Bare) a1), [.agg (Ty.cells .bare (s_BareStep_1 (⟨a0_0, a0_1, a0_2, a0_3⟩ : Bare) a1)), .one (.b (s_BareStep_2 (⟨a0_0, a0_1, a0_2, a0_3⟩ : Bare) a1))])
  | _ => none

noncomputable def E_s_BareStep (N : Nat) (a0 : Bare) (a1 : Int) : Option Ans :=
  (bif (s_l17Copy_c a0) then (bif (s_GuestAt_c (s_l17Copy a0) a1) then (bif (s_WantOf_c (s_GuestAt_1 (s_l17Copy a0) a1)) then (bif (bif (s_GuestAt_2 (s_l17Copy a0) a1) then false else true) then (some [(.agg (Ty.cells .bare (s_l17Copy a0))), (.one (.b false))]) else (bif (s_BareOk_c (s_l17Copy a0)) then (bif (bif (s_BareOk (s_l17Copy a0)) then false else true) then (some [(.agg (Ty.cells .bare (s_l17Copy a0))), (.one (.b false))]) else (bif (ieq (s_WantOf (s_GuestAt_1 (s_l17Copy a0) a1)) 0) then (some [(.agg (Ty.cells .bare (s_l17Copy a0))), (.one (.b false))]) else (bif (ieq (s_WantOf (s_GuestAt_1 (s_l17Copy a0) a1)) 1) then (bif (s_Interrupted_c (s_GuestAt_1 (s_l17Copy a0) a1)) then (bif (inb a1 (ln (s_l17Copy a0).Guests)) then (share (up (s_l17Copy a0).Guests a1 (s_Interrupted (s_GuestAt_1 (s_l17Copy a0) a1))) (fun x3 => (some [(.agg (Ty.cells .bare ({ (s_l17Copy a0) with Guests := x3 } : Bare))), (.one (.b true))]))) else none) else none) else (bif (ieq (s_WantOf (s_GuestAt_1 (s_l17Copy a0) a1)) 2) then (bif (s_Plainly_c (s_GuestAt_1 (s_l17Copy a0) a1)) then (bif (inb a1 (ln (s_l17Copy a0).Guests)) then (share (up (s_l17Copy a0).Guests a1 (s_Plainly (s_GuestAt_1 (s_l17Copy a0) a1))) (fun x3 => (some [(.agg (Ty.cells .bare ({ (s_l17Copy a0) with Guests := x3 } : Bare))), (.one (.b true))]))) else none) else none) else (bif (ieq (s_WantOf (s_GuestAt_1 (s_l17Copy a0) a1)) 3) then (bif (ieq (s_WantOf (s_GuestAt_1 (s_l17Copy a0) a1)) 3) then (bif (s_Address_c (s_GuestAt_1 (s_l17Copy a0) a1)) then (bif (s_AddrPage_c (s_Address (s_GuestAt_1 (s_l17Copy a0) a1))) then (bif (s_NeedOf_c (ieq (s_WantOf (s_GuestAt_1 (s_l17Copy a0) a1)) 4)) then (bif (s_WalkInner_c (s_GuestAt_1 (s_l17Copy a0) a1).Live (s_AddrPage (s_Address (s_GuestAt_1 (s_l17Copy a0) a1))) (s_NeedOf (ieq (s_WantOf (s_GuestAt_1 (s_l17Copy a0) a1)) 4))) then (bif (bif (s_WalkInner_2 (s_GuestAt_1 (s_l17Copy a0) a1).Live (s_AddrPage (s_Address (s_GuestAt_1 (s_l17Copy a0) a1))) (s_NeedOf (ieq (s_WantOf (s_GuestAt_1 (s_l17Copy a0) a1)) 4))) then false else true) then (bif (s_AddrPage_c (s_Address (s_GuestAt_1 (s_l17Copy a0) a1))) then (bif (s_FaultExit_c (s_AddrPage (s_Address (s_GuestAt_1 (s_l17Copy a0) a1))) (ieq (s_WantOf (s_GuestAt_1 (s_l17Copy a0) a1)) 4)) then (bif (s_Stopped_c (s_GuestAt_1 (s_l17Copy a0) a1) (s_FaultExit (s_AddrPage (s_Address (s_GuestAt_1 (s_l17Copy a0) a1))) (ieq (s_WantOf (s_GuestAt_1 (s_l17Copy a0) a1)) 4))) then (bif (inb a1 (ln (s_l17Copy a0).Guests)) then (share (up (s_l17Copy a0).Guests a1 (s_Stopped (s_GuestAt_1 (s_l17Copy a0) a1) (s_FaultExit (s_AddrPage (s_Address (s_GuestAt_1 (s_l17Copy a0) a1))) (ieq (s_WantOf (s_GuestAt_1 (s_l17Copy a0) a1)) 4)))) (fun x3 => (some [(.agg (Ty.cells .bare ({ (s_l17Copy a0) with Guests := x3 } : Bare))), (.one (.b true))]))) else none) else none) else none) else none) else (bif (ieq (s_WantOf (s_GuestAt_1 (s_l17Copy a0) a1)) 4) then (bif (s_AddrCell_c (s_Address (s_GuestAt_1 (s_l17Copy a0) a1))) then (bif (s_WithCell_c (s_l17Copy a0).Memory (s_WalkInner_1 (s_GuestAt_1 (s_l17Copy a0) a1).Live (s_AddrPage (s_Address (s_GuestAt_1 (s_l17Copy a0) a1))) (s_NeedOf (ieq (s_WantOf (s_GuestAt_1 (s_l17Copy a0) a1)) 4))) (s_AddrCell (s_Address (s_GuestAt_1 (s_l17Copy a0) a1))) (s_GuestAt_1 (s_l17Copy a0) a1).A) then (bif (s_Stored_c (s_GuestAt_1 (s_l17Copy a0) a1)) then (bif (inb a1 (ln (s_l17Copy a0).Guests)) then (share (up (s_l17Copy a0).Guests a1 (s_Stored (s_GuestAt_1 (s_l17Copy a0) a1))) (fun x3 => (some [(.agg (Ty.cells .bare ({ (s_l17Copy a0) with Memory := (s_WithCell (s_l17Copy a0).Memory (s_WalkInner_1 (s_GuestAt_1 (s_l17Copy a0) a1).Live (s_AddrPage (s_Address (s_GuestAt_1 (s_l17Copy a0) a1))) (s_NeedOf (ieq (s_WantOf (s_GuestAt_1 (s_l17Copy a0) a1)) 4))) (s_AddrCell (s_Address (s_GuestAt_1 (s_l17Copy a0) a1))) (s_GuestAt_1 (s_l17Copy a0) a1).A), Guests := x3 } : Bare))), (.one (.b true))]))) else none) else none) else none) else none) else (bif (s_AddrCell_c (s_Address (s_GuestAt_1 (s_l17Copy a0) a1))) then (bif (s_CellAt_c (s_l17Copy a0).Memory (s_WalkInner_1 (s_GuestAt_1 (s_l17Copy a0) a1).Live (s_AddrPage (s_Address (s_GuestAt_1 (s_l17Copy a0) a1))) (s_NeedOf (ieq (s_WantOf (s_GuestAt_1 (s_l17Copy a0) a1)) 4))) (s_AddrCell (s_Address (s_GuestAt_1 (s_l17Copy a0) a1)))) then (bif (s_Loaded_c (s_GuestAt_1 (s_l17Copy a0) a1) (s_CellAt (s_l17Copy a0).Memory (s_WalkInner_1 (s_GuestAt_1 (s_l17Copy a0) a1).Live (s_AddrPage (s_Address (s_GuestAt_1 (s_l17Copy a0) a1))) (s_NeedOf (ieq (s_WantOf (s_GuestAt_1 (s_l17Copy a0) a1)) 4))) (s_AddrCell (s_Address (s_GuestAt_1 (s_l17Copy a0) a1))))) then (bif (inb a1 (ln (s_l17Copy a0).Guests)) then (share (up (s_l17Copy a0).Guests a1 (s_Loaded (s_GuestAt_1 (s_l17Copy a0) a1) (s_CellAt (s_l17Copy a0).Memory (s_WalkInner_1 (s_GuestAt_1 (s_l17Copy a0) a1).Live (s_AddrPage (s_Address (s_GuestAt_1 (s_l17Copy a0) a1))) (s_NeedOf (ieq (s_WantOf (s_GuestAt_1 (s_l17Copy a0) a1)) 4))) (s_AddrCell (s_Address (s_GuestAt_1 (s_l17Copy a0) a1)))))) (fun x3 => (some [(.agg (Ty.cells .bare ({ (s_l17Copy a0) with Guests := x3 } : Bare))), (.one (.b true))]))) else none) else none) else none) else none))) else none) else none) else none) else none) else (bif (s_l18Trap_c (s_GuestAt_1 (s_l17Copy a0) a1) (s_GuestAt_1 (s_l17Copy a0) a1).Ctl.Traps (s_WantOf (s_GuestAt_1 (s_l17Copy a0) a1))) then (bif (s_l18Trap_2 (s_GuestAt_1 (s_l17Copy a0) a1) (s_GuestAt_1 (s_l17Copy a0) a1).Ctl.Traps (s_WantOf (s_GuestAt_1 (s_l17Copy a0) a1))) then (bif (ieq (s_WantOf (s_GuestAt_1 (s_l17Copy a0) a1)) 5) then (bif (s_InsAt_c (s_GuestAt_1 (s_l17Copy a0) a1).Prog (s_GuestAt_1 (s_l17Copy a0) a1).Pc) then (bif (s_PutOut_c (s_l17Copy a0) (s_InsAt (s_GuestAt_1 (s_l17Copy a0) a1).Prog (s_GuestAt_1 (s_l17Copy a0) a1).Pc).X) then (bif (inb a1 (ln (s_PutOut (s_l17Copy a0) (s_InsAt (s_GuestAt_1 (s_l17Copy a0) a1).Prog (s_GuestAt_1 (s_l17Copy a0) a1).Pc).X).Guests)) then (share (up (s_PutOut (s_l17Copy a0) (s_InsAt (s_GuestAt_1 (s_l17Copy a0) a1).Prog (s_GuestAt_1 (s_l17Copy a0) a1).Pc).X).Guests a1 (s_l18Trap_1 (s_GuestAt_1 (s_l17Copy a0) a1) (s_GuestAt_1 (s_l17Copy a0) a1).Ctl.Traps (s_WantOf (s_GuestAt_1 (s_l17Copy a0) a1)))) (fun x3 => (some [(.agg (Ty.cells .bare ({ (s_PutOut (s_l17Copy a0) (s_InsAt (s_GuestAt_1 (s_l17Copy a0) a1).Prog (s_GuestAt_1 (s_l17Copy a0) a1).Pc).X) with Guests := x3 } : Bare))), (.one (.b true))]))) else none) else none) else none) else (bif (inb a1 (ln (s_l17Copy a0).Guests)) then (share (up (s_l17Copy a0).Guests a1 (s_l18Trap_1 (s_GuestAt_1 (s_l17Copy a0) a1) (s_GuestAt_1 (s_l17Copy a0) a1).Ctl.Traps (s_WantOf (s_GuestAt_1 (s_l17Copy a0) a1)))) (fun x3 => (some [(.agg (Ty.cells .bare ({ (s_l17Copy a0) with Guests := x3 } : Bare))), (.one (.b true))]))) else none)) else (bif (inb a1 (ln (s_l17Copy a0).Guests)) then (share (up (s_l17Copy a0).Guests a1 (s_l18Trap_1 (s_GuestAt_1 (s_l17Copy a0) a1) (s_GuestAt_1 (s_l17Copy a0) a1).Ctl.Traps (s_WantOf (s_GuestAt_1 (s_l17Copy a0) a1)))) (fun x3 => (some [(.agg (Ty.cells .bare ({ (s_l17Copy a0) with Guests := x3 } : Bare))), (.one (.b true))]))) else none)) else none)) else (bif (ieq (s_WantOf (s_GuestAt_1 (s_l17Copy a0) a1)) 4) then (bif (s_Address_c (s_GuestAt_1 (s_l17Copy a0) a1)) then (bif (s_AddrPage_c (s_Address (s_GuestAt_1 (s_l17Copy a0) a1))) then (bif (s_NeedOf_c (ieq (s_WantOf (s_GuestAt_1 (s_l17Copy a0) a1)) 4)) then (bif (s_WalkInner_c (s_GuestAt_1 (s_l17Copy a0) a1).Live (s_AddrPage (s_Address (s_GuestAt_1 (s_l17Copy a0) a1))) (s_NeedOf (ieq (s_WantOf (s_GuestAt_1 (s_l17Copy a0) a1)) 4))) then (bif (bif (s_WalkInner_2 (s_GuestAt_1 (s_l17Copy a0) a1).Live (s_AddrPage (s_Address (s_GuestAt_1 (s_l17Copy a0) a1))) (s_NeedOf (ieq (s_WantOf (s_GuestAt_1 (s_l17Copy a0) a1)) 4))) then false else true) then (bif (s_AddrPage_c (s_Address (s_GuestAt_1 (s_l17Copy a0) a1))) then (bif (s_FaultExit_c (s_AddrPage (s_Address (s_GuestAt_1 (s_l17Copy a0) a1))) (ieq (s_WantOf (s_GuestAt_1 (s_l17Copy a0) a1)) 4)) then (bif (s_Stopped_c (s_GuestAt_1 (s_l17Copy a0) a1) (s_FaultExit (s_AddrPage (s_Address (s_GuestAt_1 (s_l17Copy a0) a1))) (ieq (s_WantOf (s_GuestAt_1 (s_l17Copy a0) a1)) 4))) then (bif (inb a1 (ln (s_l17Copy a0).Guests)) then (share (up (s_l17Copy a0).Guests a1 (s_Stopped (s_GuestAt_1 (s_l17Copy a0) a1) (s_FaultExit (s_AddrPage (s_Address (s_GuestAt_1 (s_l17Copy a0) a1))) (ieq (s_WantOf (s_GuestAt_1 (s_l17Copy a0) a1)) 4)))) (fun x3 => (some [(.agg (Ty.cells .bare ({ (s_l17Copy a0) with Guests := x3 } : Bare))), (.one (.b true))]))) else none) else none) else none) else none) else (bif (ieq (s_WantOf (s_GuestAt_1 (s_l17Copy a0) a1)) 4) then (bif (s_AddrCell_c (s_Address (s_GuestAt_1 (s_l17Copy a0) a1))) then (bif (s_WithCell_c (s_l17Copy a0).Memory (s_WalkInner_1 (s_GuestAt_1 (s_l17Copy a0) a1).Live (s_AddrPage (s_Address (s_GuestAt_1 (s_l17Copy a0) a1))) (s_NeedOf (ieq (s_WantOf (s_GuestAt_1 (s_l17Copy a0) a1)) 4))) (s_AddrCell (s_Address (s_GuestAt_1 (s_l17Copy a0) a1))) (s_GuestAt_1 (s_l17Copy a0) a1).A) then (bif (s_Stored_c (s_GuestAt_1 (s_l17Copy a0) a1)) then (bif (inb a1 (ln (s_l17Copy a0).Guests)) then (share (up (s_l17Copy a0).Guests a1 (s_Stored (s_GuestAt_1 (s_l17Copy a0) a1))) (fun x3 => (some [(.agg (Ty.cells .bare ({ (s_l17Copy a0) with Memory := (s_WithCell (s_l17Copy a0).Memory (s_WalkInner_1 (s_GuestAt_1 (s_l17Copy a0) a1).Live (s_AddrPage (s_Address (s_GuestAt_1 (s_l17Copy a0) a1))) (s_NeedOf (ieq (s_WantOf (s_GuestAt_1 (s_l17Copy a0) a1)) 4))) (s_AddrCell (s_Address (s_GuestAt_1 (s_l17Copy a0) a1))) (s_GuestAt_1 (s_l17Copy a0) a1).A), Guests := x3 } : Bare))), (.one (.b true))]))) else none) else none) else none) else none) else (bif (s_AddrCell_c (s_Address (s_GuestAt_1 (s_l17Copy a0) a1))) then (bif (s_CellAt_c (s_l17Copy a0).Memory (s_WalkInner_1 (s_GuestAt_1 (s_l17Copy a0) a1).Live (s_AddrPage (s_Address (s_GuestAt_1 (s_l17Copy a0) a1))) (s_NeedOf (ieq (s_WantOf (s_GuestAt_1 (s_l17Copy a0) a1)) 4))) (s_AddrCell (s_Address (s_GuestAt_1 (s_l17Copy a0) a1)))) then (bif (s_Loaded_c (s_GuestAt_1 (s_l17Copy a0) a1) (s_CellAt (s_l17Copy a0).Memory (s_WalkInner_1 (s_GuestAt_1 (s_l17Copy a0) a1).Live (s_AddrPage (s_Address (s_GuestAt_1 (s_l17Copy a0) a1))) (s_NeedOf (ieq (s_WantOf (s_GuestAt_1 (s_l17Copy a0) a1)) 4))) (s_AddrCell (s_Address (s_GuestAt_1 (s_l17Copy a0) a1))))) then (bif (inb a1 (ln (s_l17Copy a0).Guests)) then (share (up (s_l17Copy a0).Guests a1 (s_Loaded (s_GuestAt_1 (s_l17Copy a0) a1) (s_CellAt (s_l17Copy a0).Memory (s_WalkInner_1 (s_GuestAt_1 (s_l17Copy a0) a1).Live (s_AddrPage (s_Address (s_GuestAt_1 (s_l17Copy a0) a1))) (s_NeedOf (ieq (s_WantOf (s_GuestAt_1 (s_l17Copy a0) a1)) 4))) (s_AddrCell (s_Address (s_GuestAt_1 (s_l17Copy a0) a1)))))) (fun x3 => (some [(.agg (Ty.cells .bare ({ (s_l17Copy a0) with Guests := x3 } : Bare))), (.one (.b true))]))) else none) else none) else none) else none))) else none) else none) else none) else none) else (bif (s_l18Trap_c (s_GuestAt_1 (s_l17Copy a0) a1) (s_GuestAt_1 (s_l17Copy a0) a1).Ctl.Traps (s_WantOf (s_GuestAt_1 (s_l17Copy a0) a1))) then (bif (s_l18Trap_2 (s_GuestAt_1 (s_l17Copy a0) a1) (s_GuestAt_1 (s_l17Copy a0) a1).Ctl.Traps (s_WantOf (s_GuestAt_1 (s_l17Copy a0) a1))) then (bif (ieq (s_WantOf (s_GuestAt_1 (s_l17Copy a0) a1)) 5) then (bif (s_InsAt_c (s_GuestAt_1 (s_l17Copy a0) a1).Prog (s_GuestAt_1 (s_l17Copy a0) a1).Pc) then (bif (s_PutOut_c (s_l17Copy a0) (s_InsAt (s_GuestAt_1 (s_l17Copy a0) a1).Prog (s_GuestAt_1 (s_l17Copy a0) a1).Pc).X) then (bif (inb a1 (ln (s_PutOut (s_l17Copy a0) (s_InsAt (s_GuestAt_1 (s_l17Copy a0) a1).Prog (s_GuestAt_1 (s_l17Copy a0) a1).Pc).X).Guests)) then (share (up (s_PutOut (s_l17Copy a0) (s_InsAt (s_GuestAt_1 (s_l17Copy a0) a1).Prog (s_GuestAt_1 (s_l17Copy a0) a1).Pc).X).Guests a1 (s_l18Trap_1 (s_GuestAt_1 (s_l17Copy a0) a1) (s_GuestAt_1 (s_l17Copy a0) a1).Ctl.Traps (s_WantOf (s_GuestAt_1 (s_l17Copy a0) a1)))) (fun x3 => (some [(.agg (Ty.cells .bare ({ (s_PutOut (s_l17Copy a0) (s_InsAt (s_GuestAt_1 (s_l17Copy a0) a1).Prog (s_GuestAt_1 (s_l17Copy a0) a1).Pc).X) with Guests := x3 } : Bare))), (.one (.b true))]))) else none) else none) else none) else (bif (inb a1 (ln (s_l17Copy a0).Guests)) then (share (up (s_l17Copy a0).Guests a1 (s_l18Trap_1 (s_GuestAt_1 (s_l17Copy a0) a1) (s_GuestAt_1 (s_l17Copy a0) a1).Ctl.Traps (s_WantOf (s_GuestAt_1 (s_l17Copy a0) a1)))) (fun x3 => (some [(.agg (Ty.cells .bare ({ (s_l17Copy a0) with Guests := x3 } : Bare))), (.one (.b true))]))) else none)) else (bif (inb a1 (ln (s_l17Copy a0).Guests)) then (share (up (s_l17Copy a0).Guests a1 (s_l18Trap_1 (s_GuestAt_1 (s_l17Copy a0) a1) (s_GuestAt_1 (s_l17Copy a0) a1).Ctl.Traps (s_WantOf (s_GuestAt_1 (s_l17Copy a0) a1)))) (fun x3 => (some [(.agg (Ty.cells .bare ({ (s_l17Copy a0) with Guests := x3 } : Bare))), (.one (.b true))]))) else none)) else none))))))) else none)) else none) else none) else none)

theorem nf_s_BareStep (N : Nat) (a0 : Bare) (a1 : Int) : evalFn (cfgQ (aget ctrN7) (aget mctC) (aget pct0) (aget tct0)) (tmsOf []) N 12 16 [.agg (Ty.cells .bare a0), .one (.i .i64 a1)] = E_s_BareStep N a0 a1 := by kernel_rfl

theorem law_s_BareStep (a0 : Bare) (a1 : Int) (hb : AllB big [.agg (Ty.cells .bare a0), .one (.i .i64 a1)]) (hc : (s_BareStep_c a0 a1) = true) : ∃ N, E_s_BareStep N a0 a1 = some [.agg (Ty.cells .bare (s_BareStep_1 a0 a1)), .one (.b (s_BareStep_2 a0 a1))] := by
  have hs := pc_iff.1 hc; have hx := smG_at a1 hs; have hz : _ ∧ _ ∧ _ := hs; have hg : a0.Guests.length ≤ 1048576 := hs.2.1.1; have hw7 := want7 (gAt a0 a1); have h34 : ieq (wantOf (gAt a0 a1)) 3 = true → ieq (wantOf (gAt a0 a1)) 4 = false := fun h => ieq_two h rfl
  refine ⟨0, ?_⟩
  unfold E_s_BareStep
  refine must (by first | assumption | (simp_all <;> omega)) ?_
  refine must (by first | assumption | (simp_all <;> omega)) ?_
  refine must rfl ?_
  refine brN (fun h0 => ?_) (fun h0 => ?_)
  · first | rfl | (simp only [h0, s_BareStep_1, s_BareStep_2, bareStep, canStep, stepped, stepMem, stepOut, withGuest, needOf, setG, cT, cF] <;> rfl) | (simp_all [Ty.cells, s_BareStep_1, s_BareStep_2, bareStep, canStep, stepped, stepMem, stepOut, withGuest, needOf, setG]; done)
  · refine must rfl ?_
    refine brN (fun h1 => ?_) (fun h1 => ?_)
    · first | rfl | (simp only [h0, h1, s_BareStep_1, s_BareStep_2, bareStep, canStep, stepped, stepMem, stepOut, withGuest, needOf, setG, cT, cF] <;> rfl) | (simp_all [Ty.cells, s_BareStep_1, s_BareStep_2, bareStep, canStep, stepped, stepMem, stepOut, withGuest, needOf, setG]; done)
    · refine br (fun h2 => ?_) (fun h2 => ?_)
      · first | rfl | (simp only [h0, h1, h2, s_BareStep_1, s_BareStep_2, bareStep, canStep, stepped, stepMem, stepOut, withGuest, needOf, setG, cT, cF] <;> rfl) | (simp_all [Ty.cells, s_BareStep_1, s_BareStep_2, bareStep, canStep, stepped, stepMem, stepOut, withGuest, needOf, setG]; done)
      · refine br (fun h3 => ?_) (fun h3 => ?_)
        · refine must (by first | assumption | (simp_all <;> omega)) ?_
          refine must (by first | assumption | (simp_all <;> omega)) ?_
          refine shr ?_
          first | rfl | (simp only [h0, h1, h2, h3, s_BareStep_1, s_BareStep_2, bareStep, canStep, stepped, stepMem, stepOut, withGuest, needOf, setG, cT, cF] <;> rfl) | (simp_all [Ty.cells, s_BareStep_1, s_BareStep_2, bareStep, canStep, stepped, stepMem, stepOut, withGuest, needOf, setG]; done)
        · refine br (fun h4 => ?_) (fun h4 => ?_)
          · refine must (by first | assumption | (simp_all <;> omega)) ?_
            refine must (by first | assumption | (simp_all <;> omega)) ?_
            refine shr ?_
            first | rfl | (simp only [h0, h1, h2, h3, h4, s_BareStep_1, s_BareStep_2, bareStep, canStep, stepped, stepMem, stepOut, withGuest, needOf, setG, cT, cF] <;> rfl) | (simp_all [Ty.cells, s_BareStep_1, s_BareStep_2, bareStep, canStep, stepped, stepMem, stepOut, withGuest, needOf, setG]; done)
          · refine br (fun h5 => ?_) (fun h5 => ?_)
            · refine br (fun h6 => ?_) (fun h6 => ?_)
              · refine must rfl ?_
                refine must rfl ?_
                refine must rfl ?_
                refine must rfl ?_
                refine brN (fun h7 => ?_) (fun h7 => ?_)
                · refine must rfl ?_
                  refine must rfl ?_
                  refine must (by first | assumption | (simp_all <;> omega)) ?_
                  refine must (by first | assumption | (simp_all <;> omega)) ?_
                  refine shr ?_
                  first | rfl | (simp only [h0, h1, h2, h3, h4, h5, h6, h7, s_BareStep_1, s_BareStep_2, bareStep, canStep, stepped, stepMem, stepOut, withGuest, needOf, setG, cT, cF] <;> rfl) | (simp_all [Ty.cells, s_BareStep_1, s_BareStep_2, bareStep, canStep, stepped, stepMem, stepOut, withGuest, needOf, setG]; done)
                · refine br (fun h8 => ?_) (fun h8 => ?_)
                  · refine must rfl ?_
                    refine must (by first | assumption | (simp_all <;> omega)) ?_
                    refine must (by first | assumption | (simp_all <;> omega)) ?_
                    refine must (by first | assumption | (simp_all <;> omega)) ?_
                    refine shr ?_
                    first | rfl | (simp only [h0, h1, h2, h3, h4, h5, h6, h7, h8, s_BareStep_1, s_BareStep_2, bareStep, canStep, stepped, stepMem, stepOut, withGuest, needOf, setG, cT, cF] <;> rfl) | (simp_all [Ty.cells, s_BareStep_1, s_BareStep_2, bareStep, canStep, stepped, stepMem, stepOut, withGuest, needOf, setG]; done)
                  · refine must rfl ?_
                    refine must rfl ?_
                    refine must (by first | assumption | (simp_all <;> omega)) ?_
                    refine must (by first | assumption | (simp_all <;> omega)) ?_
                    refine shr ?_
                    first | rfl | (simp only [h0, h1, h2, h3, h4, h5, h6, h7, h8, s_BareStep_1, s_BareStep_2, bareStep, canStep, stepped, stepMem, stepOut, withGuest, needOf, setG, cT, cF] <;> rfl) | (simp_all [Ty.cells, s_BareStep_1, s_BareStep_2, bareStep, canStep, stepped, stepMem, stepOut, withGuest, needOf, setG]; done)
              · refine must (by first | assumption | (simp_all <;> omega)) ?_
                refine br (fun h7 => ?_) (fun h7 => ?_)
                · refine br (fun h8 => ?_) (fun h8 => ?_)
                  · refine must rfl ?_
                    refine must (by first | assumption | (simp_all <;> omega)) ?_
                    refine must (by first | assumption | (simp_all <;> omega)) ?_
                    refine shr ?_
                    first | rfl | (simp only [h0, h1, h2, h3, h4, h5, h6, h7, h8, s_BareStep_1, s_BareStep_2, bareStep, canStep, stepped, stepMem, stepOut, withGuest, needOf, setG, cT, cF] <;> rfl) | (simp_all [Ty.cells, s_BareStep_1, s_BareStep_2, bareStep, canStep, stepped, stepMem, stepOut, withGuest, needOf, setG]; done)
                  · refine must (by first | assumption | (simp_all <;> omega)) ?_
                    refine shr ?_
                    first | rfl | (simp only [h0, h1, h2, h3, h4, h5, h6, h7, h8, s_BareStep_1, s_BareStep_2, bareStep, canStep, stepped, stepMem, stepOut, withGuest, needOf, setG, cT, cF] <;> rfl) | (simp_all [Ty.cells, s_BareStep_1, s_BareStep_2, bareStep, canStep, stepped, stepMem, stepOut, withGuest, needOf, setG]; done)
                · refine must (by first | assumption | (simp_all <;> omega)) ?_
                  refine shr ?_
                  first | rfl | (simp only [h0, h1, h2, h3, h4, h5, h6, h7, s_BareStep_1, s_BareStep_2, bareStep, canStep, stepped, stepMem, stepOut, withGuest, needOf, setG, cT, cF] <;> rfl) | (simp_all [Ty.cells, s_BareStep_1, s_BareStep_2, bareStep, canStep, stepped, stepMem, stepOut, withGuest, needOf, setG]; done)
            · refine br (fun h6 => ?_) (fun h6 => ?_)
              · refine must rfl ?_
                refine must rfl ?_
                refine must rfl ?_
                refine must rfl ?_
                refine brN (fun h7 => ?_) (fun h7 => ?_)
                · refine must rfl ?_
                  refine must rfl ?_
                  refine must (by first | assumption | (simp_all <;> omega)) ?_
                  refine must (by first | assumption | (simp_all <;> omega)) ?_
                  refine shr ?_
                  first | rfl | (simp only [h0, h1, h2, h3, h4, h5, h6, h7, s_BareStep_1, s_BareStep_2, bareStep, canStep, stepped, stepMem, stepOut, withGuest, needOf, setG, cT, cF] <;> rfl) | (simp_all [Ty.cells, s_BareStep_1, s_BareStep_2, bareStep, canStep, stepped, stepMem, stepOut, withGuest, needOf, setG]; done)
                · refine br (fun h8 => ?_) (fun h8 => ?_)
                  · refine must rfl ?_
                    refine must (by first | assumption | (simp_all <;> omega)) ?_
                    refine must (by first | assumption | (simp_all <;> omega)) ?_
                    refine must (by first | assumption | (simp_all <;> omega)) ?_
                    refine shr ?_
                    first | rfl | (simp only [h0, h1, h2, h3, h4, h5, h6, h7, h8, s_BareStep_1, s_BareStep_2, bareStep, canStep, stepped, stepMem, stepOut, withGuest, needOf, setG, cT, cF] <;> rfl) | (simp_all [Ty.cells, s_BareStep_1, s_BareStep_2, bareStep, canStep, stepped, stepMem, stepOut, withGuest, needOf, setG]; done)
                  · refine must rfl ?_
                    refine must rfl ?_
                    refine must (by first | assumption | (simp_all <;> omega)) ?_
                    refine must (by first | assumption | (simp_all <;> omega)) ?_
                    refine shr ?_
                    first | rfl | (simp only [h0, h1, h2, h3, h4, h5, h6, h7, h8, s_BareStep_1, s_BareStep_2, bareStep, canStep, stepped, stepMem, stepOut, withGuest, needOf, setG, cT, cF] <;> rfl) | (simp_all [Ty.cells, s_BareStep_1, s_BareStep_2, bareStep, canStep, stepped, stepMem, stepOut, withGuest, needOf, setG]; done)
              · refine must (by first | assumption | (simp_all <;> omega)) ?_
                refine br (fun h7 => ?_) (fun h7 => ?_)
                · refine br (fun h8 => ?_) (fun h8 => ?_)
                  · refine must rfl ?_
                    refine must (by first | assumption | (simp_all <;> omega)) ?_
                    refine must (by first | assumption | (simp_all <;> omega)) ?_
                    refine shr ?_
                    first | rfl | (simp only [h0, h1, h2, h3, h4, h5, h6, h7, h8, s_BareStep_1, s_BareStep_2, bareStep, canStep, stepped, stepMem, stepOut, withGuest, needOf, setG, cT, cF] <;> rfl) | (simp_all [Ty.cells, s_BareStep_1, s_BareStep_2, bareStep, canStep, stepped, stepMem, stepOut, withGuest, needOf, setG]; done)
                  · refine must (by first | assumption | (simp_all <;> omega)) ?_
                    refine shr ?_
                    first | rfl | (simp only [h0, h1, h2, h3, h4, h5, h6, h7, h8, s_BareStep_1, s_BareStep_2, bareStep, canStep, stepped, stepMem, stepOut, withGuest, needOf, setG, cT, cF] <;> rfl) | (simp_all [Ty.cells, s_BareStep_1, s_BareStep_2, bareStep, canStep, stepped, stepMem, stepOut, withGuest, needOf, setG]; done)
                · refine must (by first | assumption | (simp_all <;> omega)) ?_
                  refine shr ?_
                  first | rfl | (simp only [h0, h1, h2, h3, h4, h5, h6, h7, s_BareStep_1, s_BareStep_2, bareStep, canStep, stepped, stepMem, stepOut, withGuest, needOf, setG, cT, cF] <;> rfl) | (simp_all [Ty.cells, s_BareStep_1, s_BareStep_2, bareStep, canStep, stepped, stepMem, stepOut, withGuest, needOf, setG]; done)
theorem holds_s_BareStep : Holds Tryz.prog 16 run_s_BareStep := by
  refine holds_of_eval (engQ_ok ctrN7_ok mctC_ok pct0_ok tct0_ok) (fn_ok (by kernel_rfl)) ?_
  intro avs rs hr h
  have hb := allB_of_rep hr
  unfold run_s_BareStep at h
  split at h
  · rename_i a0_0 a0_1 a0_2 a0_3 a1
    obtain ⟨hc, rfl⟩ := some_pair h
    obtain ⟨N, hN⟩ := law_s_BareStep (⟨a0_0, a0_1, a0_2, a0_3⟩ : Bare) a1 hb hc
    exact ⟨tmsOf [], N, 12, (nf_s_BareStep N (⟨a0_0, a0_1, a0_2, a0_3⟩ : Bare) a1).trans hN⟩
  · cases h

end Go.Proofs.YtdbdlamkkkdjhaaGreat.E
