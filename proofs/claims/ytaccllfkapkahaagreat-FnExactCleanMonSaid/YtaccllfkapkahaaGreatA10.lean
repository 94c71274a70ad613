/- What is proved here: contracts of the bare machine's functions: guests, and a bare step. -/
import Derived.Test.YtaccllfkapkahaaGreatA9
import Derived.KernelRfl
namespace Go.Proofs.YtaccllfkapkahaaGreat.E
open Go
set_option maxRecDepth 100000
set_option linter.unusedVariables false
set_option linter.unusedSimpArgs false
set_option linter.unusedSectionVars false
theorem eE (x y : GExit) : x = y ↔ x.Kind = y.Kind ∧ x.Page = y.Page ∧ x.Write = y.Write ∧ x.N = y.N := by cases x; cases y; simp
@[simp, reducible] noncomputable def i_copyMem_c (l : List (List Int)) : Bool := pc (SmM l)
@[simp, reducible] def i_copyMem (l : List (List Int)) : List (List Int) := l
noncomputable def run_i_copyMem : List AV → Option (Bool × List AV)
  | [.one (.s (.sl .int) a0)] => some ((i_copyMem_c a0), [.one (.s (.sl .int) (i_copyMem a0))])
  | _ => none

noncomputable def E_i_copyMem (N : Nat) (a0 : List (List Int)) : Option Ans :=
  (iter (σ := (Int × (Int × ((List (List Int)) × ((List (List Int)) × Unit))))) N (fun r2 s3 => (bif (ilt s3.2.1 s3.1) then (bif (inb s3.2.1 (ln s3.2.2.2.1)) then (bif (i_copyInts_c (ix s3.2.2.2.1 s3.2.1 [])) then (bif (few (ln (ap s3.2.2.1 [(i_copyInts (ix s3.2.2.2.1 s3.2.1 []))]))) then (r2 (s3.1, ((wadd .i64 s3.2.1 1), ((ap s3.2.2.1 [(i_copyInts (ix s3.2.2.2.1 s3.2.1 []))]), (s3.2.2.2.1, ()))))) else none) else none) else none) else (some [(.one (.s (.sl .int) s3.2.2.1))]))) ((ln a0), (0, ([], (a0, ())))))

def tms_i_copyMem : FuncId → Nat → Option Tmpl := tmsOf [(45, 0, { n := 20, tm := [(3, .sl 0 []), (7, .sl 1 []), (8, .i .i64), (9, .i .i64)], lo := [], ro := [(0, (.sl .int), true), (1, (.sl .int), false)] })]

theorem nf_i_copyMem (N : Nat) (a0 : List (List Int)) : evalFn (cfgQ (aget ctrN2) (aget mctC) (aget pct0) (aget tct0)) tms_i_copyMem N 12 45 [.one (.s (.sl .int) a0)] = E_i_copyMem N a0 := by kernel_rfl

theorem law_i_copyMem (a0 : List (List Int)) (hb : AllB big [.one (.s (.sl .int) a0)]) (hc : (i_copyMem_c a0) = true) : ∃ N, E_i_copyMem N a0 = some [.one (.s (.sl .int) (i_copyMem a0))] := by
  have hs := pc_iff.1 hc
  have hl := sm_big hs.1
  refine ⟨NN, ?_⟩
  have hNN : ∀ {n : Nat}, n ≤ big → n < NN := fun h => NN_lt h
  generalize NN = N at hNN ⊢
  unfold E_i_copyMem
  refine (iter_list a0 (fun i (t : (List (List Int))) => ((ln a0), (i : Int), t, a0, ())) _ (fun _ x acc κ => bif i_copyInts_c x then (bif few (ln (ap acc [i_copyInts x])) then κ (ap acc [i_copyInts x]) else none) else none) (fun (t : (List (List Int))) => (some [(.one (.s (.sl .int) t))])) (fun i hi t rec => ?_) (fun t rec => ?_) _ ([]) (hNN hl.1)).trans ?_
  · simp only [ilt_ln hi, inb_ln hi, ix_ln hi, wadd_up hi hl.1, cT]
  · simp only [ilt_end, cF]
  exact app_loop i_copyInts_c i_copyInts _ a0 0 [] (fun x hx => ⟨by exact pc_true (Nat.le_trans (hs.2 x hx) (by decide)), rfl⟩) (by simpa using hl.2)
theorem holds_i_copyMem : Holds Tryz.prog 45 run_i_copyMem := by
  refine holds_of_eval (engQ_ok ctrN2_ok mctC_ok pct0_ok tct0_ok) (fn_ok (by kernel_rfl)) ?_
  intro avs rs hr h
  have hb := allB_of_rep hr
  unfold run_i_copyMem at h
  split at h
  · rename_i a0
    obtain ⟨hc, rfl⟩ := some_pair h
    obtain ⟨N, hN⟩ := law_i_copyMem a0 hb hc
    exact ⟨tms_i_copyMem, N, 12, (nf_i_copyMem N a0).trans hN⟩
  · cases h

@[simp, reducible] noncomputable def i_copyGuest_c (g : Guest) : Bool := pc (SmG g)
@[simp, reducible] def i_copyGuest (g : Guest) : Guest := g
noncomputable def run_i_copyGuest : List AV → Option (Bool × List AV)
  | [.agg [.s .ins a0_0, .i .i64 a0_1, .i .i64 a0_2, .s .slot a0_3, .s .slot a0_4, .i .i64 a0_5, .i .i64 a0_6, .b a0_7, .i .i64 a0_8, .i .i64 a0_9, .i .i64 a0_10, .b a0_11, .i .i64 a0_12, .b a0_13, .s .int a0_14]] => some ((i_copyGuest_c (⟨a0_0, a0_1, a0_2, a0_3, a0_4, ⟨a0_5, a0_6, a0_7⟩, a0_8, ⟨a0_9, a0_10, a0_11, a0_12⟩, a0_13, a0_14⟩ : Guest)), [.agg (Ty.cells .guest (i_copyGuest (⟨a0_0, a0_1, a0_2, a0_3, a0_4, ⟨a0_5, a0_6, a0_7⟩, a0_8, ⟨a0_9, a0_10, a0_11, a0_12⟩, a0_13, a0_14⟩ : Guest)))])
  | _ => none

noncomputable def E_i_copyGuest (N : Nat) (a0 : Guest) : Option Ans :=
  (bif (i_copyProg_c a0.Prog) then (bif (i_copyTable_c a0.Written) then (bif (i_copyTable_c a0.Live) then (bif (i_copyInts_c a0.Seen) then (some [(.agg (Ty.cells .guest ({ a0 with Prog := (i_copyProg a0.Prog), Written := (i_copyTable a0.Written), Live := (i_copyTable a0.Live), Seen := (i_copyInts a0.Seen) } : Guest)))]) else none) else none) else none) else none)

theorem nf_i_copyGuest (N : Nat) (a0 : Guest) : evalFn (cfgQ (aget ctrN2) (aget mctC) (aget pct0) (aget tct0)) (tmsOf []) N 12 112 [.agg (Ty.cells .guest a0)] = E_i_copyGuest N a0 := by kernel_rfl

theorem law_i_copyGuest (a0 : Guest) (hb : AllB big [.agg (Ty.cells .guest a0)]) (hc : (i_copyGuest_c a0) = true) : ∃ N, E_i_copyGuest N a0 = some [.agg (Ty.cells .guest (i_copyGuest a0))] := by
  have hs := pc_iff.1 hc; obtain ⟨h1, h2, h3, h4⟩ := hs; have hs1 : a0.Prog.length ≤ 2147483648 := (by omega); have hs2 : a0.Written.length ≤ 2147483648 := (by omega); have hs3 : a0.Live.length ≤ 2147483648 := (by omega); have hs4 : a0.Seen.length ≤ 2147483648 := (by omega)
  refine ⟨0, ?_⟩
  unfold E_i_copyGuest
  refine must (by first | assumption | (simp_all <;> omega)) ?_
  refine must (by first | assumption | (simp_all <;> omega)) ?_
  refine must (by first | assumption | (simp_all <;> omega)) ?_
  refine must (by first | assumption | (simp_all <;> omega)) ?_
  first | rfl | (simp only [i_copyGuest, cT, cF] <;> rfl) | (simp_all [Ty.cells, i_copyGuest]; done)
theorem holds_i_copyGuest : Holds Tryz.prog 112 run_i_copyGuest := by
  refine holds_of_eval (engQ_ok ctrN2_ok mctC_ok pct0_ok tct0_ok) (fn_ok (by kernel_rfl)) ?_
  intro avs rs hr h
  have hb := allB_of_rep hr
  unfold run_i_copyGuest at h
  split at h
  · rename_i a0_0 a0_1 a0_2 a0_3 a0_4 a0_5 a0_6 a0_7 a0_8 a0_9 a0_10 a0_11 a0_12 a0_13 a0_14
    obtain ⟨hc, rfl⟩ := some_pair h
    obtain ⟨N, hN⟩ := law_i_copyGuest (⟨a0_0, a0_1, a0_2, a0_3, a0_4, ⟨a0_5, a0_6, a0_7⟩, a0_8, ⟨a0_9, a0_10, a0_11, a0_12⟩, a0_13, a0_14⟩ : Guest) hb hc
    exact ⟨tmsOf [], N, 12, (nf_i_copyGuest N (⟨a0_0, a0_1, a0_2, a0_3, a0_4, ⟨a0_5, a0_6, a0_7⟩, a0_8, ⟨a0_9, a0_10, a0_11, a0_12⟩, a0_13, a0_14⟩ : Guest)).trans hN⟩
  · cases h

def walkOk (t : List Slot) (p n : Int) : Bool := bif ieq (slotAt t p).Page (-1) then false else (bif enough (slotAt t p).Rights n then win n 1 3 else false)
def walkAt (t : List Slot) (p n : Int) : Int := bif walkOk t p n then (slotAt t p).Page else -1
theorem rights03 {r : Int} (h : rightsOk r = true) : 0 ≤ r ∧ r ≤ 3 := win_true.1 h
theorem enough_win {a n : Int} (h : enough a n = true) : win n 1 3 = !ieq n 0 := by
  unfold enough at h
  cases h1 : rightsOk a
  · rw [h1] at h; cases h
  · cases h2 : rightsOk n
    · rw [h1, h2] at h; cases h
    · have := rights03 h2
      have e : (win n 1 3 = true) ↔ (!ieq n 0) = true := by
        rw [win_true]
        simp [ieq]
        omega
      cases h3 : win n 1 3 <;> cases h4 : (!ieq n 0) <;> simp_all
noncomputable def ctrN3 : Ctrs := [(45, run_i_copyMem), (112, run_i_copyGuest), (72, run_s_MemOk), (47, run_i_MemOk), (127, run_s_ProgOk), (114, run_i_ProgOk), (128, run_s_CtlOk), (115, run_i_CtlOk)] ++ ctrN2

theorem ctrN3_ok : ∀ f run, aget ctrN3 f = some run → Holds Tryz.prog f run := ctr_more ctrN2_ok (by
  intro x hx
  simp only [List.mem_cons, List.not_mem_nil, or_false] at hx
  rcases hx with rfl | rfl | rfl | rfl | rfl | rfl | rfl | rfl
  · exact holds_i_copyMem
  · exact holds_i_copyGuest
  · exact holds_s_MemOk
  · exact holds_i_MemOk
  · exact holds_s_ProgOk
  · exact holds_i_ProgOk
  · exact holds_s_CtlOk
  · exact holds_i_CtlOk)

def takesIrq (g : Guest) : Bool := bif canRun g then (bif g.Ctl.Open then ige (topIrq g.Pending) 0 else false) else false
def irqRest (p : Int) : Int := bif ilt (topIrq p) 0 then p else wsub .i64 p (wshl .i64 1 (topIrq p))
def irqTop (p : Int) : Int := bif ilt (topIrq p) 0 then -1 else topIrq p
theorem topIrq_ok {p : Int} (h : ilt (topIrq p) 0 = false) : wcv .u64 (topIrq p) = topIrq p ∧ ile 0 (topIrq p) = true ∧ wandn .i64 p (wshl .i64 1 (topIrq p)) = wsub .i64 p (wshl .i64 1 (topIrq p)) := by
  unfold topIrq at *
  cases h1 : pendOk p
  · rw [h1] at h; cases h
  · simp only [h1, cT] at h ⊢
    obtain ⟨h0, h2⟩ := win_true.1 h1
    have r := of_fin (P := fun x => -1 ≤ scan x ∧ scan x ≤ 7 ∧ (0 ≤ scan x → wsub .i64 x (wshl .i64 1 (scan x)) = wandn .i64 x (wshl .i64 1 (scan x)))) scan_rng h0 h2
    have h3 : 0 ≤ scan p := by
      unfold ilt at h
      have := of_decide_eq_false h
      omega
    exact ⟨wcv_u64 h3 (by omega), decide_eq_true h3, (r.2.2 h3).symm⟩
def saw (g : Guest) (n : Int) : Guest := bif ilt (ln g.Seen) 40 then { g with Seen := ap g.Seen [n] } else g
@[simp] theorem smG_saw {g : Guest} (n : Int) (h : SmG g) : SmG (saw g n) := by
  unfold saw
  cases h1 : ilt (ln g.Seen) 40
  · exact h
  · have := of_decide_eq_true h1
    refine ⟨h.1, h.2.1, h.2.2.1, ?_⟩
    simp [ln] at *; omega
def stopped (g : Guest) (e : GExit) : Guest := { g with Exit := e }
@[simp] theorem smG_stopped {g : Guest} (e : GExit) (h : SmG g) : SmG (stopped g e) := h
def movedG (g : Guest) : Guest := bif ige g.Pc 12 then { g with Pc := 12 } else { g with Pc := wadd .i64 g.Pc 1 }
@[simp] theorem smG_moved {g : Guest} (h : SmG g) : SmG (movedG g) := by
  unfold movedG
  cases ige g.Pc 12 <;> exact h
noncomputable def ctrN4 : Ctrs := ctrN3
theorem ctrN4_ok : ∀ f run, aget ctrN4 f = some run → Holds Tryz.prog f run := ctrN3_ok

def interrupted (g : Guest) : Guest := bif takesIrq g then saw { g with Pending := irqRest g.Pending } (wadd .i64 100 (irqTop g.Pending)) else g
@[simp] theorem smG_int {g : Guest} (h : SmG g) : SmG (interrupted g) := by
  unfold interrupted
  cases takesIrq g
  · exact h
  · exact smG_saw (g := { g with Pending := irqRest g.Pending }) _ h
def opWant (o : Int) : Int := bif ieq o 3 then 3 else (bif ieq o 4 then 4 else (bif ieq o 5 then 5 else (bif ieq o 6 then 6 else (bif ieq o 7 then 7 else 2))))
def wantOf (g : Guest) : Int := bif canRun g then (bif takesIrq g then 1 else opWant (insAt g.Prog g.Pc).Op) else 0
def held (g : Guest) : Guest := movedG { g with Halted := true }
@[simp] theorem smG_held {g : Guest} (h : SmG g) : SmG (held g) := smG_moved (g := { g with Halted := true }) h
def loaded (g : Guest) (v : Int) : Guest := movedG (saw { g with A := v } v)
@[simp] theorem smG_loaded {g : Guest} (v : Int) (h : SmG g) : SmG (loaded g v) := smG_moved (smG_saw (g := { g with A := v }) v h)
def trapped (g : Guest) (w : Int) : Guest := bif ieq w 5 then stopped g (outExit (insAt g.Prog g.Pc).X) else stopped g ⟨4, 0, false, 0⟩
@[simp] theorem smG_trapped {g : Guest} (w : Int) (h : SmG g) : SmG (trapped g w) := by
  unfold trapped
  cases ieq w 5 <;> exact h
def guestOk (g : Guest) : Bool := progOk g.Prog && (win g.A 0 99 && (win g.Pc 0 12 && (tableOk g.Written 4 8 && (tableOk g.Live 4 8 && (ctlOk g.Ctl && (pendOk g.Pending && (exitOk g.Exit && ile (ln g.Seen) 40)))))))
@[simp, reducible] def s_GuestOk_c (g : Guest) : Bool := true
@[simp, reducible] def s_GuestOk (g : Guest) : Bool := guestOk g
noncomputable def run_s_GuestOk : List AV → Option (Bool × List AV)
  | [.agg [.s .ins a0_0, .i .i64 a0_1, .i .i64 a0_2, .s .slot a0_3, .s .slot a0_4, .i .i64 a0_5, .i .i64 a0_6, .b a0_7, .i .i64 a0_8, .i .i64 a0_9, .i .i64 a0_10, .b a0_11, .i .i64 a0_12, .b a0_13, .s .int a0_14]] => some ((s_GuestOk_c (⟨a0_0, a0_1, a0_2, a0_3, a0_4, ⟨a0_5, a0_6, a0_7⟩, a0_8, ⟨a0_9, a0_10, a0_11, a0_12⟩, a0_13, a0_14⟩ : Guest)), [.one (.b (s_GuestOk (⟨a0_0, a0_1, a0_2, a0_3, a0_4, ⟨a0_5, a0_6, a0_7⟩, a0_8, ⟨a0_9, a0_10, a0_11, a0_12⟩, a0_13, a0_14⟩ : Guest)))])
  | _ => none

noncomputable def E_s_GuestOk (N : Nat) (a0 : Guest) : Option Ans :=
  (bif (s_ProgOk_c a0.Prog) then (bif (s_ProgOk a0.Prog) then (bif (s_l01In_c a0.A 0 99) then (bif (s_l01In a0.A 0 99) then (bif (s_l01In_c a0.Pc 0 12) then (bif (s_l01In a0.Pc 0 12) then (bif (s_TableOk_c a0.Written 4 8) then (bif (s_TableOk a0.Written 4 8) then (bif (s_TableOk_c a0.Live 4 8) then (bif (s_TableOk a0.Live 4 8) then (bif (s_CtlOk_c a0.Ctl) then (bif (s_CtlOk a0.Ctl) then (bif (s_PendOk_c a0.Pending) then (bif (s_PendOk a0.Pending) then (bif (s_ExitOk_c a0.Exit) then (bif (s_ExitOk a0.Exit) then (some [(.one (.b (ile (ln a0.Seen) 40)))]) else (some [(.one (.b false))])) else none) else (some [(.one (.b false))])) else none) else (some [(.one (.b false))])) else none) else (some [(.one (.b false))])) else none) else (some [(.one (.b false))])) else none) else (some [(.one (.b false))])) else none) else (some [(.one (.b false))])) else none) else (some [(.one (.b false))])) else none)

theorem nf_s_GuestOk (N : Nat) (a0 : Guest) : evalFn (cfgQ (aget ctrN4) (aget mctC) (aget pct0) (aget tct0)) (tmsOf []) N 12 104 [.agg (Ty.cells .guest a0)] = E_s_GuestOk N a0 := by kernel_rfl

theorem law_s_GuestOk (a0 : Guest) (hb : AllB big [.agg (Ty.cells .guest a0)]) (hc : (s_GuestOk_c a0) = true) : ∃ N, E_s_GuestOk N a0 = some [.one (.b (s_GuestOk a0))] := by
  refine ⟨0, ?_⟩
  unfold E_s_GuestOk
  refine must rfl ?_
  refine br (fun h0 => ?_) (fun h0 => ?_)
  · refine must rfl ?_
    refine br (fun h1 => ?_) (fun h1 => ?_)
    · refine must rfl ?_
      refine br (fun h2 => ?_) (fun h2 => ?_)
      · refine must rfl ?_
        refine br (fun h3 => ?_) (fun h3 => ?_)
        · refine must rfl ?_
          refine br (fun h4 => ?_) (fun h4 => ?_)
          · refine must rfl ?_
            refine br (fun h5 => ?_) (fun h5 => ?_)
            · refine must rfl ?_
              refine br (fun h6 => ?_) (fun h6 => ?_)
              · refine must rfl ?_
                refine br (fun h7 => ?_) (fun h7 => ?_)
                · first | rfl | (simp only [h0, h1, h2, h3, h4, h5, h6, h7, s_GuestOk, guestOk, cT, cF] <;> rfl) | (simp_all [Ty.cells, s_GuestOk, guestOk]; done)
                · first | rfl | (simp only [h0, h1, h2, h3, h4, h5, h6, h7, s_GuestOk, guestOk, cT, cF] <;> rfl) | (simp_all [Ty.cells, s_GuestOk, guestOk]; done)
              · first | rfl | (simp only [h0, h1, h2, h3, h4, h5, h6, s_GuestOk, guestOk, cT, cF] <;> rfl) | (simp_all [Ty.cells, s_GuestOk, guestOk]; done)
            · first | rfl | (simp only [h0, h1, h2, h3, h4, h5, s_GuestOk, guestOk, cT, cF] <;> rfl) | (simp_all [Ty.cells, s_GuestOk, guestOk]; done)
          · first | rfl | (simp only [h0, h1, h2, h3, h4, s_GuestOk, guestOk, cT, cF] <;> rfl) | (simp_all [Ty.cells, s_GuestOk, guestOk]; done)
        · first | rfl | (simp only [h0, h1, h2, h3, s_GuestOk, guestOk, cT, cF] <;> rfl) | (simp_all [Ty.cells, s_GuestOk, guestOk]; done)
      · first | rfl | (simp only [h0, h1, h2, s_GuestOk, guestOk, cT, cF] <;> rfl) | (simp_all [Ty.cells, s_GuestOk, guestOk]; done)
    · first | rfl | (simp only [h0, h1, s_GuestOk, guestOk, cT, cF] <;> rfl) | (simp_all [Ty.cells, s_GuestOk, guestOk]; done)
  · first | rfl | (simp only [h0, s_GuestOk, guestOk, cT, cF] <;> rfl) | (simp_all [Ty.cells, s_GuestOk, guestOk]; done)
theorem holds_s_GuestOk : Holds Tryz.prog 104 run_s_GuestOk := by
  refine holds_of_eval (engQ_ok ctrN4_ok mctC_ok pct0_ok tct0_ok) (fn_ok (by kernel_rfl)) ?_
  intro avs rs hr h
  have hb := allB_of_rep hr
  unfold run_s_GuestOk at h
  split at h
  · rename_i a0_0 a0_1 a0_2 a0_3 a0_4 a0_5 a0_6 a0_7 a0_8 a0_9 a0_10 a0_11 a0_12 a0_13 a0_14
    obtain ⟨hc, rfl⟩ := some_pair h
    obtain ⟨N, hN⟩ := law_s_GuestOk (⟨a0_0, a0_1, a0_2, a0_3, a0_4, ⟨a0_5, a0_6, a0_7⟩, a0_8, ⟨a0_9, a0_10, a0_11, a0_12⟩, a0_13, a0_14⟩ : Guest) hb hc
    exact ⟨tmsOf [], N, 12, (nf_s_GuestOk N (⟨a0_0, a0_1, a0_2, a0_3, a0_4, ⟨a0_5, a0_6, a0_7⟩, a0_8, ⟨a0_9, a0_10, a0_11, a0_12⟩, a0_13, a0_14⟩ : Guest)).trans hN⟩
  · cases h

@[simp, reducible] def i_GuestOk_c (g : Guest) : Bool := true
@[simp, reducible] def i_GuestOk (g : Guest) : Bool := guestOk g
noncomputable def run_i_GuestOk : List AV → Option (Bool × List AV)
  | [.agg [.s .ins a0_0, .i .i64 a0_1, .i .i64 a0_2, .s .slot a0_3, .s .slot a0_4, .i .i64 a0_5, .i .i64 a0_6, .b a0_7, .i .i64 a0_8, .i .i64 a0_9, .i .i64 a0_10, .b a0_11, .i .i64 a0_12, .b a0_13, .s .int a0_14]] => some ((i_GuestOk_c (⟨a0_0, a0_1, a0_2, a0_3, a0_4, ⟨a0_5, a0_6, a0_7⟩, a0_8, ⟨a0_9, a0_10, a0_11, a0_12⟩, a0_13, a0_14⟩ : Guest)), [.one (.b (i_GuestOk (⟨a0_0, a0_1, a0_2, a0_3, a0_4, ⟨a0_5, a0_6, a0_7⟩, a0_8, ⟨a0_9, a0_10, a0_11, a0_12⟩, a0_13, a0_14⟩ : Guest)))])
  | _ => none

noncomputable def E_i_GuestOk (N : Nat) (a0 : Guest) : Option Ans :=
  (bif (i_ProgOk_c a0.Prog) then (bif (i_ProgOk a0.Prog) then (bif (i_within_c a0.A 0 99) then (bif (i_within a0.A 0 99) then (bif (i_within_c a0.Pc 0 12) then (bif (i_within a0.Pc 0 12) then (bif (i_TableOk_c a0.Written 4 8) then (bif (i_TableOk a0.Written 4 8) then (bif (i_TableOk_c a0.Live 4 8) then (bif (i_TableOk a0.Live 4 8) then (bif (i_CtlOk_c a0.Ctl) then (bif (i_CtlOk a0.Ctl) then (bif (i_PendOk_c a0.Pending) then (bif (i_PendOk a0.Pending) then (bif (i_ExitOk_c a0.Exit) then (bif (i_ExitOk a0.Exit) then (some [(.one (.b (ile (ln a0.Seen) 40)))]) else (some [(.one (.b false))])) else none) else (some [(.one (.b false))])) else none) else (some [(.one (.b false))])) else none) else (some [(.one (.b false))])) else none) else (some [(.one (.b false))])) else none) else (some [(.one (.b false))])) else none) else (some [(.one (.b false))])) else none) else (some [(.one (.b false))])) else none)

theorem nf_i_GuestOk (N : Nat) (a0 : Guest) : evalFn (cfgQ (aget ctrN4) (aget mctC) (aget pct0) (aget tct0)) (tmsOf []) N 12 88 [.agg (Ty.cells .guest a0)] = E_i_GuestOk N a0 := by kernel_rfl

theorem law_i_GuestOk (a0 : Guest) (hb : AllB big [.agg (Ty.cells .guest a0)]) (hc : (i_GuestOk_c a0) = true) : ∃ N, E_i_GuestOk N a0 = some [.one (.b (i_GuestOk a0))] := by
  refine ⟨0, ?_⟩
  unfold E_i_GuestOk
  refine must rfl ?_
  refine br (fun h0 => ?_) (fun h0 => ?_)
  · refine must rfl ?_
    refine br (fun h1 => ?_) (fun h1 => ?_)
    · refine must rfl ?_
      refine br (fun h2 => ?_) (fun h2 => ?_)
      · refine must rfl ?_
        refine br (fun h3 => ?_) (fun h3 => ?_)
        · refine must rfl ?_
          refine br (fun h4 => ?_) (fun h4 => ?_)
          · refine must rfl ?_
            refine br (fun h5 => ?_) (fun h5 => ?_)
            · refine must rfl ?_
              refine br (fun h6 => ?_) (fun h6 => ?_)
              · refine must rfl ?_
                refine br (fun h7 => ?_) (fun h7 => ?_)
                · first | rfl | (simp only [h0, h1, h2, h3, h4, h5, h6, h7, i_GuestOk, guestOk, cT, cF] <;> rfl) | (simp_all [Ty.cells, i_GuestOk, guestOk]; done)
                · first | rfl | (simp only [h0, h1, h2, h3, h4, h5, h6, h7, i_GuestOk, guestOk, cT, cF] <;> rfl) | (simp_all [Ty.cells, i_GuestOk, guestOk]; done)
              · first | rfl | (simp only [h0, h1, h2, h3, h4, h5, h6, i_GuestOk, guestOk, cT, cF] <;> rfl) | (simp_all [Ty.cells, i_GuestOk, guestOk]; done)
            · first | rfl | (simp only [h0, h1, h2, h3, h4, h5, i_GuestOk, guestOk, cT, cF] <;> rfl) | (simp_all [Ty.cells, i_GuestOk, guestOk]; done)
          · first | rfl | (simp only [h0, h1, h2, h3, h4, i_GuestOk, guestOk, cT, cF] <;> rfl) | (simp_all [Ty.cells, i_GuestOk, guestOk]; done)
        · first | rfl | (simp only [h0, h1, h2, h3, i_GuestOk, guestOk, cT, cF] <;> rfl) | (simp_all [Ty.cells, i_GuestOk, guestOk]; done)
      · first | rfl | (simp only [h0, h1, h2, i_GuestOk, guestOk, cT, cF] <;> rfl) | (simp_all [Ty.cells, i_GuestOk, guestOk]; done)
    · first | rfl | (simp only [h0, h1, i_GuestOk, guestOk, cT, cF] <;> rfl) | (simp_all [Ty.cells, i_GuestOk, guestOk]; done)
  · first | rfl | (simp only [h0, i_GuestOk, guestOk, cT, cF] <;> rfl) | (simp_all [Ty.cells, i_GuestOk, guestOk]; done)
theorem holds_i_GuestOk : Holds Tryz.prog 88 run_i_GuestOk := by
  refine holds_of_eval (engQ_ok ctrN4_ok mctC_ok pct0_ok tct0_ok) (fn_ok (by kernel_rfl)) ?_
  intro avs rs hr h
  have hb := allB_of_rep hr
  unfold run_i_GuestOk at h
  split at h
  · rename_i a0_0 a0_1 a0_2 a0_3 a0_4 a0_5 a0_6 a0_7 a0_8 a0_9 a0_10 a0_11 a0_12 a0_13 a0_14
    obtain ⟨hc, rfl⟩ := some_pair h
    obtain ⟨N, hN⟩ := law_i_GuestOk (⟨a0_0, a0_1, a0_2, a0_3, a0_4, ⟨a0_5, a0_6, a0_7⟩, a0_8, ⟨a0_9, a0_10, a0_11, a0_12⟩, a0_13, a0_14⟩ : Guest) hb hc
    exact ⟨tmsOf [], N, 12, (nf_i_GuestOk N (⟨a0_0, a0_1, a0_2, a0_3, a0_4, ⟨a0_5, a0_6, a0_7⟩, a0_8, ⟨a0_9, a0_10, a0_11, a0_12⟩, a0_13, a0_14⟩ : Guest)).trans hN⟩
  · cases h

@[simp, reducible] noncomputable def i_copyGuests_c (l : List Guest) : Bool := pc (SmGs l)
@[simp, reducible] def i_copyGuests (l : List Guest) : List Guest := l
noncomputable def run_i_copyGuests : List AV → Option (Bool × List AV)
  | [.one (.s .guest a0)] => some ((i_copyGuests_c a0), [.one (.s .guest (i_copyGuests a0))])
  | _ => none

noncomputable def E_i_copyGuests (N : Nat) (a0 : List Guest) : Option Ans :=
  (iter (σ := (Int × (Int × ((List Guest) × ((List Guest) × Unit))))) N (fun r2 s3 => (bif (ilt s3.2.1 s3.1) then (bif (inb s3.2.1 (ln s3.2.2.2.1)) then (bif (i_copyGuest_c (ix s3.2.2.2.1 s3.2.1 (Ty.dflt .guest))) then (bif (few (ln (ap s3.2.2.1 [(i_copyGuest (ix s3.2.2.2.1 s3.2.1 (Ty.dflt .guest)))]))) then (r2 (s3.1, ((wadd .i64 s3.2.1 1), ((ap s3.2.2.1 [(i_copyGuest (ix s3.2.2.2.1 s3.2.1 (Ty.dflt .guest)))]), (s3.2.2.2.1, ()))))) else none) else none) else none) else (some [(.one (.s .guest s3.2.2.1))]))) ((ln a0), (0, ([], (a0, ())))))

def tms_i_copyGuests : FuncId → Nat → Option Tmpl := tmsOf [(83, 0, { n := 20, tm := [(3, .sl 0 []), (7, .sl 1 []), (8, .i .i64), (9, .i .i64)], lo := [], ro := [(0, .guest, true), (1, .guest, false)] })]

theorem nf_i_copyGuests (N : Nat) (a0 : List Guest) : evalFn (cfgQ (aget ctrN4) (aget mctC) (aget pct0) (aget tct0)) tms_i_copyGuests N 12 83 [.one (.s .guest a0)] = E_i_copyGuests N a0 := by kernel_rfl

theorem law_i_copyGuests (a0 : List Guest) (hb : AllB big [.one (.s .guest a0)]) (hc : (i_copyGuests_c a0) = true) : ∃ N, E_i_copyGuests N a0 = some [.one (.s .guest (i_copyGuests a0))] := by
  have hs := pc_iff.1 hc
  have hl := sm_big hs.1
  refine ⟨NN, ?_⟩
  have hNN : ∀ {n : Nat}, n ≤ big → n < NN := fun h => NN_lt h
  generalize NN = N at hNN ⊢
  unfold E_i_copyGuests
  refine (iter_list a0 (fun i (t : (List Guest)) => ((ln a0), (i : Int), t, a0, ())) _ (fun _ x acc κ => bif i_copyGuest_c x then (bif few (ln (ap acc [i_copyGuest x])) then κ (ap acc [i_copyGuest x]) else none) else none) (fun (t : (List Guest)) => (some [(.one (.s .guest t))])) (fun i hi t rec => ?_) (fun t rec => ?_) _ ([]) (hNN hl.1)).trans ?_
  · simp only [ilt_ln hi, inb_ln hi, ix_ln hi, wadd_up hi hl.1, cT]
  · simp only [ilt_end, cF]
  exact app_loop i_copyGuest_c i_copyGuest _ a0 0 [] (fun x hx => ⟨by exact pc_true (hs.2 x hx), rfl⟩) (by simpa using hl.2)
theorem holds_i_copyGuests : Holds Tryz.prog 83 run_i_copyGuests := by
  refine holds_of_eval (engQ_ok ctrN4_ok mctC_ok pct0_ok tct0_ok) (fn_ok (by kernel_rfl)) ?_
  intro avs rs hr h
  have hb := allB_of_rep hr
  unfold run_i_copyGuests at h
  split at h
  · rename_i a0
    obtain ⟨hc, rfl⟩ := some_pair h
    obtain ⟨N, hN⟩ := law_i_copyGuests a0 hb hc
    exact ⟨tms_i_copyGuests, N, 12, (nf_i_copyGuests N a0).trans hN⟩
  · cases h

def gAt (b : Bare) (i : Int) : Guest := bif hasB i (ln b.Guests) then ix b.Guests i (Ty.dflt .guest) else Ty.dflt .guest
@[simp] theorem smG_at {b : Bare} (i : Int) (h : SmB b) : SmG (gAt b i) := by
  unfold gAt
  cases hh : hasB i (ln b.Guests)
  · exact smG_0
  · exact smG_ix h.2.1 hh _
noncomputable def ctrN5 : Ctrs := [(104, run_s_GuestOk), (88, run_i_GuestOk), (83, run_i_copyGuests)] ++ ctrN4

theorem ctrN5_ok : ∀ f run, aget ctrN5 f = some run → Holds Tryz.prog f run := ctr_more ctrN4_ok (by
  intro x hx
  simp only [List.mem_cons, List.not_mem_nil, or_false] at hx
  rcases hx with rfl | rfl | rfl
  · exact holds_s_GuestOk
  · exact holds_i_GuestOk
  · exact holds_i_copyGuests)

def plainly (g : Guest) : Guest := bif ine (wantOf g) 2 then g else (bif win g.A 0 99 then (bif win (insAt g.Prog g.Pc).X 0 99 then (bif ieq (insAt g.Prog g.Pc).Op 1 then { movedG g with A := (insAt g.Prog g.Pc).X } else (bif ieq (insAt g.Prog g.Pc).Op 2 then { movedG g with A := wrem (wadd .i64 g.A (insAt g.Prog g.Pc).X) 100 } else (bif ieq (insAt g.Prog g.Pc).Op 8 then (bif ieq g.A 0 then { movedG g with Pc := (insAt g.Prog g.Pc).X } else movedG g) else movedG g))) else movedG g) else movedG g)
@[simp] theorem moved_Prog (g : Guest) : (movedG g).Prog = g.Prog := by
  unfold movedG
  cases ige g.Pc 12 <;> rfl
@[simp] theorem moved_A (g : Guest) : (movedG g).A = g.A := by
  unfold movedG
  cases ige g.Pc 12 <;> rfl
@[simp] theorem moved_Written (g : Guest) : (movedG g).Written = g.Written := by
  unfold movedG
  cases ige g.Pc 12 <;> rfl
@[simp] theorem moved_Live (g : Guest) : (movedG g).Live = g.Live := by
  unfold movedG
  cases ige g.Pc 12 <;> rfl
@[simp] theorem moved_Ctl (g : Guest) : (movedG g).Ctl = g.Ctl := by
  unfold movedG
  cases ige g.Pc 12 <;> rfl
@[simp] theorem moved_Pending (g : Guest) : (movedG g).Pending = g.Pending := by
  unfold movedG
  cases ige g.Pc 12 <;> rfl
@[simp] theorem moved_Exit (g : Guest) : (movedG g).Exit = g.Exit := by
  unfold movedG
  cases ige g.Pc 12 <;> rfl
@[simp] theorem moved_Halted (g : Guest) : (movedG g).Halted = g.Halted := by
  unfold movedG
  cases ige g.Pc 12 <;> rfl
@[simp] theorem moved_Seen (g : Guest) : (movedG g).Seen = g.Seen := by
  unfold movedG
  cases ige g.Pc 12 <;> rfl
@[simp] theorem moved_PcA (g : Guest) (x : Int) : (movedG { g with A := x }).Pc = (movedG g).Pc := by
  unfold movedG
  cases ige g.Pc 12 <;> rfl
@[simp] theorem smG_plainly {g : Guest} (h : SmG g) : SmG (plainly g) := by
  have hm := smG_moved h
  unfold plainly
  cases ine (wantOf g) 2
  · cases win g.A 0 99
    · exact hm
    · cases win (insAt g.Prog g.Pc).X 0 99
      · exact hm
      · cases ieq (insAt g.Prog g.Pc).Op 1
        · cases ieq (insAt g.Prog g.Pc).Op 2
          · cases ieq (insAt g.Prog g.Pc).Op 8
            · exact hm
            · cases ieq g.A 0 <;> exact hm
          · exact hm
        · exact hm
  · exact h
def address (g : Guest) : Int := bif ine (wantOf g) 3 then (bif ine (wantOf g) 4 then -1 else (insAt g.Prog g.Pc).X) else (insAt g.Prog g.Pc).X
def trap1 (g : Guest) (t w : Int) : Guest := bif ieq w 6 then stopped g (callExit (insAt g.Prog g.Pc).X) else (bif (ieq w 5 && hasTrap t 1) then stopped g (outExit (insAt g.Prog g.Pc).X) else (bif (ieq w 7 && hasTrap t 2) then stopped g ⟨4, 0, false, 0⟩ else (bif ieq w 7 then held g else movedG g)))
def trap2 (t w : Int) : Bool := bif ieq w 6 then false else (bif (ieq w 5 && hasTrap t 1) then false else (bif (ieq w 7 && hasTrap t 2) then false else true))
@[simp] theorem smG_trap1 {g : Guest} (t w : Int) (h : SmG g) : SmG (trap1 g t w) := by
  unfold trap1
  cases ieq w 6
  · cases (ieq w 5 && hasTrap t 1)
    · cases (ieq w 7 && hasTrap t 2)
      · cases ieq w 7
        · exact smG_moved h
        · exact smG_held h
      · exact h
    · exact h
  · exact h
def bareOk (b : Bare) : Bool := bif b.Guests.all guestOk then (memOk b.Memory 8 && (win (ln b.Guests) 1 2 && (ile (ln b.Outs) 40 && pendOk b.Pending))) else false
noncomputable def ctrN6 : Ctrs := ctrN5
theorem ctrN6_ok : ∀ f run, aget ctrN6 f = some run → Holds Tryz.prog f run := ctrN5_ok

def setG (b : Bare) (i : Int) (x : Guest) : Bare := { b with Guests := up b.Guests i x }
def withGuest (b : Bare) (i : Int) (x : Guest) : Bare := bif hasB i (ln b.Guests) then setG b i x else b
def putOut (b : Bare) (n : Int) : Bare := bif ilt (ln b.Outs) 40 then { b with Outs := ap b.Outs [n] } else b
@[simp] theorem smB_setG {b : Bare} {i : Int} {x : Guest} (h : SmB b) (hx : SmG x) : SmB (setG b i x) := ⟨h.1, smGs_up h.2.1 hx, h.2.2⟩
@[simp] theorem smB_putOut {b : Bare} {n : Int} (h : SmB b) : SmB (putOut b n) := by
  unfold putOut
  cases h1 : ilt (ln b.Outs) 40
  · exact h
  · have := of_decide_eq_true h1
    refine ⟨h.1, h.2.1, ?_⟩
    simp [ln] at *; omega
@[simp] theorem putOut_g (b : Bare) (n : Int) : (putOut b n).Guests = b.Guests := by
  unfold putOut
  cases ilt (ln b.Outs) 40 <;> rfl
@[simp] theorem smM_with {m : List (List Int)} {p c v : Int} (h : SmM m) : SmM (withCell m p c v) := by
  unfold withCell
  cases h1 : memHas m p c
  · exact h
  · cases h2 : win v 0 99
    · exact h
    · exact smM_up h (by simpa using smM_ix h ((memHas_iff m p c).1 h1).1 [])
noncomputable def ctrN7 : Ctrs := ctrN6
theorem ctrN7_ok : ∀ f run, aget ctrN7 f = some run → Holds Tryz.prog f run := ctrN6_ok

/-- What a guest's load or store leads to. -/
def stepMem (b : Bare) (g : Int) (x : Guest) (w : Bool) : Bare :=
  bif walkOk x.Live (addrPage (address x)) (needOf w) then
    (bif w then setG { b with Memory := withCell b.Memory (walkAt x.Live (addrPage (address x)) (needOf w)) (addrCell (address x)) x.A } g (movedG x)
    else setG b g (loaded x (cellAt b.Memory (walkAt x.Live (addrPage (address x)) (needOf w)) (addrCell (address x)))))
  else setG b g (stopped x (faultExit (addrPage (address x)) w))
def stepOut (b : Bare) (g : Int) (x : Guest) (w : Int) : Bare :=
  setG (bif (bif trap2 x.Ctl.Traps w then ieq w 5 else false) then putOut b (insAt x.Prog x.Pc).X else b) g (trap1 x x.Ctl.Traps w)
def stepped (b : Bare) (g : Int) (x : Guest) (w : Int) : Bare :=
  bif ieq w 1 then setG b g (interrupted x) else (bif ieq w 2 then setG b g (plainly x) else (bif ieq w 3 then stepMem b g x false else (bif ieq w 4 then stepMem b g x true else stepOut b g x w)))
theorem tr1 (x : Guest) (t w : Int) : ieq w 6 = true → trap1 x t w = stopped x (callExit (insAt x.Prog x.Pc).X) ∧ trap2 t w = false := by
  intro h
  simp [trap1, trap2, h]
theorem tr2 (x : Guest) (t w : Int) : ieq w 6 = false → (ieq w 5 = false → ieq w 6 = false → ieq w 7 = true) → hasTrap t (trapOf w) = true → trap1 x t w = trapped x w ∧ trap2 t w = false := by
  intro h6 h7 h
  unfold trap1 trap2 trapped trapOf at *
  cases h5 : ieq w 5 <;> simp_all
theorem tr3 (x : Guest) (t w : Int) : ieq w 6 = false → ieq w 7 = false → hasTrap t (trapOf w) = false → ieq w 5 = true → trap1 x t w = movedG x ∧ trap2 t w = true := by
  intro h6 h7 h h5
  unfold trap1 trap2 trapOf at *
  simp_all
theorem tr4 (x : Guest) (t w : Int) : ieq w 6 = false → (ieq w 5 = false → ieq w 6 = false → ieq w 7 = true) → hasTrap t (trapOf w) = false → ieq w 5 = false → trap1 x t w = held x := by
  intro h6 h7 h h5
  unfold trap1 trapOf at *
  simp_all
def canStep (b : Bare) (g : Int) : Bool := bif hasB g (ln b.Guests) then (bif bareOk b then !ieq (wantOf (gAt b g)) 0 else false) else false
def bareStep (b : Bare) (g : Int) : Bare := bif canStep b g then stepped b g (gAt b g) (wantOf (gAt b g)) else b
@[simp] theorem smB_mem {b : Bare} {g : Int} {x : Guest} {w : Bool} (h : SmB b) (hx : SmG x) : SmB (stepMem b g x w) := by
  unfold stepMem
  cases walkOk x.Live (addrPage (address x)) (needOf w)
  · exact smB_setG h hx
  · cases w
    · exact smB_setG h (smG_loaded _ hx)
    · exact ⟨smM_with h.1, smGs_up h.2.1 (smG_moved hx), h.2.2⟩
@[simp] theorem smB_out {b : Bare} {g : Int} {x : Guest} {w : Int} (h : SmB b) (hx : SmG x) : SmB (stepOut b g x w) := by
  unfold stepOut
  cases (bif trap2 x.Ctl.Traps w then ieq w 5 else false)
  · exact smB_setG h (smG_trap1 _ _ hx)
  · exact smB_setG (smB_putOut h) (smG_trap1 _ _ hx)
@[simp] theorem smB_stepped {b : Bare} {g : Int} {x : Guest} {w : Int} (h : SmB b) (hx : SmG x) : SmB (stepped b g x w) := by
  unfold stepped
  cases ieq w 1
  · cases ieq w 2
    · cases ieq w 3
      · cases ieq w 4
        · exact smB_out h hx
        · exact smB_mem h hx
      · exact smB_mem h hx
    · exact smB_setG h (smG_plainly hx)
  · exact smB_setG h (smG_int hx)
@[simp] theorem smB_step {b : Bare} {g : Int} (h : SmB b) : SmB (bareStep b g) := by
  unfold bareStep
  cases canStep b g
  · exact h
  · exact smB_stepped h (smG_at g h)
theorem want7 (x : Guest) : ieq (wantOf x) 0 = false → ieq (wantOf x) 1 = false → ieq (wantOf x) 2 = false → ieq (wantOf x) 3 = false → ieq (wantOf x) 4 = false → ieq (wantOf x) 5 = false → ieq (wantOf x) 6 = false → ieq (wantOf x) 7 = true := by
  unfold wantOf opWant
  cases canRun x
  · intro h; cases h
  · cases takesIrq x
    · simp only [cT, cF]
      generalize (insAt x.Prog x.Pc).Op = o
      cases ieq o 3 <;> cases ieq o 4 <;> cases ieq o 5 <;> cases ieq o 6 <;> cases ieq o 7 <;> simp [ieq]
    · intro _ h; cases h
theorem ieq_two {x : Int} {a b : Int} (h : ieq x a = true) (hab : ieq a b = false) : ieq x b = false := by
  have : x = a := by simpa [ieq] using h
  rw [this]; exact hab
end Go.Proofs.YtaccllfkapkahaaGreat.E
