/- What is proved here: contracts of the exact laws' own functions, at bare machines. -/
import Derived.Test.YtdbdlamkkkdjhaaGreatA11
import Derived.KernelRfl
namespace Go.Proofs.YtdbdlamkkkdjhaaGreat.E
open Go
set_option maxRecDepth 100000
set_option linter.unusedVariables false
set_option linter.unusedSimpArgs false

theorem l_szInsS_S : SzP (fun x => ∀ c ∈ Ty.cells (.sl .ins) x, CVB sm c) l_szInsS := by
  intro x n h0 h1
  obtain ⟨a, b⟩ := l_szInsS_P x n h0 h1
  exact ⟨a, fun h c hc => by rw [List.mem_singleton.1 hc]; exact b h⟩

noncomputable def l_szBare_c (_ : Bare) (n : Int) : Bool := pc (0 ≤ n ∧ n ≤ 1048576)
def l_szBare (x : Bare) (n : Int) : Int := (fun n => thn (l_szIntSS x.Memory n) (fun n => thn (l_szGuestS x.Guests n) (fun n => thn (l_szIntS x.Outs n) (fun n => n)))) n
noncomputable def run_l_szBare : List AV → Option (Bool × List AV)
  | [.agg [.s (.sl .int) a0_0, .s .guest a0_1, .s .int a0_2, .i .i64 a0_3], .one (.i .i64 a1)] => some ((l_szBare_c (⟨a0_0, a0_1, a0_2, a0_3⟩ : Bare) a1), [.one (.i .i64 (l_szBare (⟨a0_0, a0_1, a0_2, a0_3⟩ : Bare) a1))])
  | _ => none

noncomputable def E_l_szBare (N : Nat) (a0 : Bare) (a1 : Int) : Option Ans :=
  (bif (l_szIntSS_c a0.Memory a1) then (bif (ilt (l_szIntSS a0.Memory a1) 0) then (some [(.one (.i .i64 (-1)))]) else (bif (l_szGuestS_c a0.Guests (l_szIntSS a0.Memory a1)) then (bif (ilt (l_szGuestS a0.Guests (l_szIntSS a0.Memory a1)) 0) then (some [(.one (.i .i64 (-1)))]) else (bif (l_szIntS_c a0.Outs (l_szGuestS a0.Guests (l_szIntSS a0.Memory a1))) then (bif (ilt (l_szIntS a0.Outs (l_szGuestS a0.Guests (l_szIntSS a0.Memory a1))) 0) then (some [(.one (.i .i64 (-1)))]) else (some [(.one (.i .i64 (l_szIntS a0.Outs (l_szGuestS a0.Guests (l_szIntSS a0.Memory a1)))))])) else none)) else none)) else none)

theorem nf_l_szBare (N : Nat) (a0 : Bare) (a1 : Int) : evalFn (cfgQ (aget ctrO3) (aget mctC) (aget pct0) (aget tct0)) (tmsOf []) N 12 14 [.agg (Ty.cells .bare a0), .one (.i .i64 a1)] = E_l_szBare N a0 a1 := by kernel_rfl

theorem l_szBare_S : SzP (fun x => ∀ c ∈ Ty.cells .bare x, CVB sm c) l_szBare := by
  intro x n h0 h1
  obtain ⟨a, b⟩ := szP_thn (l_szIntSS_P x.Memory) (szP_thn (l_szGuestS_P x.Guests) (szP_thn (l_szIntS_P x.Outs) (fun n _ _ => ⟨Int.le_refl _, fun _ => trivial⟩))) n h0 h1
  refine ⟨a, fun h c hc => ?_⟩
  obtain ⟨g0, g1, g2, _⟩ := b h
  simp only [Ty.cells, List.mem_cons, List.not_mem_nil, or_false] at hc
  rcases hc with rfl | rfl | rfl | rfl
  · exact g0
  · exact g1
  · exact g2
  · first | exact .i _ _ | exact .b _
theorem law_l_szBare (a0 : Bare) (a1 : Int) (hb : AllB big [.agg (Ty.cells .bare a0), .one (.i .i64 a1)]) (hc : (l_szBare_c a0 a1) = true) : ∃ N, E_l_szBare N a0 a1 = some [.one (.i .i64 (l_szBare a0 a1))] := by
  obtain ⟨h0, h1⟩ := pc_iff.1 hc
  refine ⟨0, ?_⟩
  unfold E_l_szBare l_szBare
  simp only [thn]
  have c0 : l_szIntSS_c a0.Memory a1 = true := pc_true ⟨by omega, by omega⟩
  have p0 := (l_szIntSS_P a0.Memory a1 (by omega) (by omega)).1
  rw [c0, cT]
  generalize l_szIntSS a0.Memory a1 = n0 at *
  rw [ilt_zero]
  by_cases k0 : n0 < 0
  · simp [k0]
  simp only [k0, decide_false, cF, if_false]
  have c1 : l_szGuestS_c a0.Guests n0 = true := pc_true ⟨by omega, by omega⟩
  have p1 := (l_szGuestS_P a0.Guests n0 (by omega) (by omega)).1
  rw [c1, cT]
  generalize l_szGuestS a0.Guests n0 = n1 at *
  rw [ilt_zero]
  by_cases k1 : n1 < 0
  · simp [k1]
  simp only [k1, decide_false, cF, if_false]
  have c2 : l_szIntS_c a0.Outs n1 = true := pc_true ⟨by omega, by omega⟩
  have p2 := (l_szIntS_P a0.Outs n1 (by omega) (by omega)).1
  rw [c2, cT]
  generalize l_szIntS a0.Outs n1 = n2 at *
  rw [ilt_zero]
  by_cases k2 : n2 < 0
  · simp [k2]
  simp only [k2, decide_false, cF, if_false]
theorem holds_l_szBare : Holds Tryz.prog 14 run_l_szBare := by
  refine holds_of_eval (engQ_ok ctrO3_ok mctC_ok pct0_ok tct0_ok) (fn_ok (by kernel_rfl)) ?_
  intro avs rs hr h
  have hb := allB_of_rep hr
  unfold run_l_szBare at h
  split at h
  · rename_i a0_0 a0_1 a0_2 a0_3 a1
    obtain ⟨hc, rfl⟩ := some_pair h
    obtain ⟨N, hN⟩ := law_l_szBare (⟨a0_0, a0_1, a0_2, a0_3⟩ : Bare) a1 hb hc
    exact ⟨tmsOf [], N, 12, (nf_l_szBare N (⟨a0_0, a0_1, a0_2, a0_3⟩ : Bare) a1).trans hN⟩
  · cases h



noncomputable def ctrP1 : Ctrs := [(14, run_l_szBare)] ++ ctrO3

theorem ctrP1_ok : ∀ f run, aget ctrP1 f = some run → Holds Tryz.prog f run := ctr_more ctrO3_ok (by
  intro x hx
  simp only [List.mem_cons, List.not_mem_nil, or_false] at hx
  rcases hx with rfl
  · exact holds_l_szBare)


noncomputable def l_szBareS_c (_ : List Bare) (n : Int) : Bool := pc (0 ≤ n ∧ n ≤ 1048576)
def l_szBareS (l : List Bare) (n : Int) : Int := szLL l_szBare l n
noncomputable def run_l_szBareS : List AV → Option (Bool × List AV)
  | [.one (.s .bare a0), .one (.i .i64 a1)] => some ((l_szBareS_c a0 a1), [.one (.i .i64 (l_szBareS a0 a1))])
  | _ => none

noncomputable def E_l_szBareS (N : Nat) (a0 : List Bare) (a1 : Int) : Option Ans :=
  (bif (ilt (wsub .i64 a1 (ln a0)) 0) then (some [(.one (.i .i64 (-1)))]) else (iter (σ := (Int × (Int × ((List Bare) × Unit)))) N (fun r3 s4 => (bif (ilt s4.2.1 (ln s4.2.2.1)) then (bif (inb s4.2.1 (ln s4.2.2.1)) then (bif (l_szBare_c (ix s4.2.2.1 s4.2.1 (Ty.dflt .bare)) s4.1) then (bif (ilt (l_szBare (ix s4.2.2.1 s4.2.1 (Ty.dflt .bare)) s4.1) 0) then (some [(.one (.i .i64 (-1)))]) else (r3 ((l_szBare (ix s4.2.2.1 s4.2.1 (Ty.dflt .bare)) s4.1), ((wadd .i64 s4.2.1 1), (s4.2.2.1, ()))))) else none) else none) else (some [(.one (.i .i64 s4.1))]))) ((wsub .i64 a1 (ln a0)), (0, (a0, ())))))

def tms_l_szBareS : FuncId → Nat → Option Tmpl := tmsOf [(5, 0, { n := 27, tm := [(0, .sl 0 []), (1, .i .i64), (5, .i .i64)], lo := [], ro := [(0, .bare, false)] })]

theorem nf_l_szBareS (N : Nat) (a0 : List Bare) (a1 : Int) : evalFn (cfgQ (aget ctrP1) (aget mctC) (aget pct0) (aget tct0)) tms_l_szBareS N 12 5 [.one (.s .bare a0), .one (.i .i64 a1)] = E_l_szBareS N a0 a1 := by kernel_rfl

theorem l_szBareS_P (l : List Bare) : ∀ n, 0 ≤ n → n ≤ 1048576 → l_szBareS l n ≤ n ∧ (0 ≤ l_szBareS l n → CVB sm (.s .bare l)) := fun n h0 h1 => by
  obtain ⟨a, b⟩ := szP_list (S := fun x => ∀ c ∈ Ty.cells .bare x, CVB sm c) (f := l_szBare) l_szBare_S l n h0 h1
  exact ⟨a, fun h => .s .bare l (b h).1 (b h).2⟩
theorem law_l_szBareS (a0 : List Bare) (a1 : Int) (hb : AllB big [.one (.s .bare a0), .one (.i .i64 a1)]) (hc : (l_szBareS_c a0 a1) = true) : ∃ N, E_l_szBareS N a0 a1 = some [.one (.i .i64 (l_szBareS a0 a1))] := by
  obtain ⟨h0, h1⟩ := pc_iff.1 hc
  have hl := ((allB_cons hb).1 _ (List.mem_singleton.2 rfl)).len
  refine ⟨a0.length + 1, ?_⟩
  simp only [E_l_szBareS, szL_eq hl h0 h1, l_szBareS, szLL, thn, ilt_zero]
  by_cases h : a1 - a0.length < 0
  · simp [h]
  · simp only [h, decide_false, cF, if_false]
    exact sz_loop a0 _ l_szBare_c l_szBare l_szBare_S (fun x n h0 h1 => pc_true ⟨h0, h1⟩) hl _ (by omega) (by omega) (Nat.lt_succ_self _)
theorem holds_l_szBareS : Holds Tryz.prog 5 run_l_szBareS := by
  refine holds_of_eval (engQ_ok ctrP1_ok mctC_ok pct0_ok tct0_ok) (fn_ok (by kernel_rfl)) ?_
  intro avs rs hr h
  have hb := allB_of_rep hr
  unfold run_l_szBareS at h
  split at h
  · rename_i a0 a1
    obtain ⟨hc, rfl⟩ := some_pair h
    obtain ⟨N, hN⟩ := law_l_szBareS a0 a1 hb hc
    exact ⟨tms_l_szBareS, N, 12, (nf_l_szBareS N a0 a1).trans hN⟩
  · cases h



noncomputable def ctrP2 : Ctrs := [(5, run_l_szBareS)] ++ ctrP1

theorem ctrP2_ok : ∀ f run, aget ctrP2 f = some run → Holds Tryz.prog f run := ctr_more ctrP1_ok (by
  intro x hx
  simp only [List.mem_cons, List.not_mem_nil, or_false] at hx
  rcases hx with rfl
  · exact holds_l_szBareS)


noncomputable def l_toBare_c (x : Bare) : Bool := pc (∀ c ∈ Ty.cells .bare x, CVB sm c)
def l_toBare (x : Bare) : Bare := x
noncomputable def run_l_toBare : List AV → Option (Bool × List AV)
  | [.agg [.s (.sl .int) a0_0, .s .guest a0_1, .s .int a0_2, .i .i64 a0_3]] => some ((l_toBare_c (⟨a0_0, a0_1, a0_2, a0_3⟩ : Bare)), [.agg (Ty.cells .bare (l_toBare (⟨a0_0, a0_1, a0_2, a0_3⟩ : Bare)))])
  | _ => none

noncomputable def E_l_toBare (N : Nat) (a0 : Bare) : Option Ans :=
  (bif (l_toIntSS_c a0.Memory) then (bif (l_toGuestS_c a0.Guests) then (bif (l_toIntS_c a0.Outs) then (some [(.agg (Ty.cells .bare (⟨(l_toIntSS a0.Memory), (l_toGuestS a0.Guests), (l_toIntS a0.Outs), a0.Pending⟩ : Bare)))]) else none) else none) else none)

theorem nf_l_toBare (N : Nat) (a0 : Bare) : evalFn (cfgQ (aget ctrP2) (aget mctC) (aget pct0) (aget tct0)) (tmsOf []) N 12 17 [.agg (Ty.cells .bare a0)] = E_l_toBare N a0 := by kernel_rfl

theorem law_l_toBare (a0 : Bare) (hb : AllB big [.agg (Ty.cells .bare a0)]) (hc : (l_toBare_c a0) = true) : ∃ N, E_l_toBare N a0 = some [.agg (Ty.cells .bare (l_toBare a0))] := by
  have h := pc_iff.1 hc
  have h0 : l_toIntSS_c a0.Memory = true := pc_true (h (.s (.sl .int) a0.Memory) (by simp [Ty.cells]))
  have h1 : l_toGuestS_c a0.Guests = true := pc_true (h (.s .guest a0.Guests) (by simp [Ty.cells]))
  have h2 : l_toIntS_c a0.Outs = true := pc_true (h (.s .int a0.Outs) (by simp [Ty.cells]))
  refine ⟨0, ?_⟩
  simp only [E_l_toBare, h0, h1, h2, cT]
  rfl
theorem holds_l_toBare : Holds Tryz.prog 17 run_l_toBare := by
  refine holds_of_eval (engQ_ok ctrP2_ok mctC_ok pct0_ok tct0_ok) (fn_ok (by kernel_rfl)) ?_
  intro avs rs hr h
  have hb := allB_of_rep hr
  unfold run_l_toBare at h
  split at h
  · rename_i a0_0 a0_1 a0_2 a0_3
    obtain ⟨hc, rfl⟩ := some_pair h
    obtain ⟨N, hN⟩ := law_l_toBare (⟨a0_0, a0_1, a0_2, a0_3⟩ : Bare) hb hc
    exact ⟨tmsOf [], N, 12, (nf_l_toBare N (⟨a0_0, a0_1, a0_2, a0_3⟩ : Bare)).trans hN⟩
  · cases h



noncomputable def ctrP3 : Ctrs := [(17, run_l_toBare)] ++ ctrP2

theorem ctrP3_ok : ∀ f run, aget ctrP3 f = some run → Holds Tryz.prog f run := ctr_more ctrP2_ok (by
  intro x hx
  simp only [List.mem_cons, List.not_mem_nil, or_false] at hx
  rcases hx with rfl
  · exact holds_l_toBare)


noncomputable def l_toBareS_c (l : List Bare) : Bool := pc (CVB sm (.s .bare l))
def l_toBareS (l : List Bare) : List Bare := l
noncomputable def run_l_toBareS : List AV → Option (Bool × List AV)
  | [.one (.s .bare a0)] => some ((l_toBareS_c a0), [.one (.s .bare (l_toBareS a0))])
  | _ => none

noncomputable def E_l_toBareS (N : Nat) (a0 : List Bare) : Option Ans :=
  (bif (bif (few (ln a0)) then (ieq (ln a0) (ln a0)) else false) then (iter (σ := (Int × ((List Bare) × ((List Bare) × Unit)))) N (fun r2 s3 => (bif (ilt s3.1 (ln s3.2.1)) then (bif (inb s3.1 (ln s3.2.1)) then (bif (l_toBare_c (ix s3.2.1 s3.1 (Ty.dflt .bare))) then (bif (inb s3.1 (ln s3.2.2.1)) then (share (up s3.2.2.1 s3.1 (l_toBare (ix s3.2.1 s3.1 (Ty.dflt .bare)))) (fun x4 => (r2 ((wadd .i64 s3.1 1), (s3.2.1, (x4, ())))))) else none) else none) else none) else (some [(.one (.s .bare s3.2.2.1))]))) (0, (a0, ((rp (ln a0) (Ty.dflt .bare)), ())))) else none)

def tms_l_toBareS : FuncId → Nat → Option Tmpl := tmsOf [(7, 0, { n := 23, tm := [(0, .sl 0 []), (3, .sl 1 []), (4, .i .i64)], lo := [], ro := [(0, .bare, false), (1, .bare, true)] })]

theorem nf_l_toBareS (N : Nat) (a0 : List Bare) : evalFn (cfgQ (aget ctrP3) (aget mctC) (aget pct0) (aget tct0)) tms_l_toBareS N 12 7 [.one (.s .bare a0)] = E_l_toBareS N a0 := by kernel_rfl

theorem law_l_toBareS (a0 : List Bare) (hb : AllB big [.one (.s .bare a0)]) (hc : (l_toBareS_c a0) = true) : ∃ N, E_l_toBareS N a0 = some [.one (.s .bare (l_toBareS a0))] := by
  have hs := pc_iff.1 hc
  have hl := sm_big hs.len
  refine ⟨a0.length + 1, ?_⟩
  unfold E_l_toBareS
  rw [few_ln hl.2, ieq_self]
  exact to_loop a0 _ l_toBare_c l_toBare (fun l => some [AV.one (.s .bare l)]) hl.1 (fun x hx => ⟨by first | rfl | exact pc_true (hs.inv.2 x hx) | exact pc_true (hs.inv.2 x hx _ (List.mem_singleton.2 rfl)), rfl⟩) (Nat.lt_succ_self _)
theorem holds_l_toBareS : Holds Tryz.prog 7 run_l_toBareS := by
  refine holds_of_eval (engQ_ok ctrP3_ok mctC_ok pct0_ok tct0_ok) (fn_ok (by kernel_rfl)) ?_
  intro avs rs hr h
  have hb := allB_of_rep hr
  unfold run_l_toBareS at h
  split at h
  · rename_i a0
    obtain ⟨hc, rfl⟩ := some_pair h
    obtain ⟨N, hN⟩ := law_l_toBareS a0 hb hc
    exact ⟨tms_l_toBareS, N, 12, (nf_l_toBareS N a0).trans hN⟩
  · cases h



noncomputable def ctrP4 : Ctrs := [(7, run_l_toBareS)] ++ ctrP3

theorem ctrP4_ok : ∀ f run, aget ctrP4 f = some run → Holds Tryz.prog f run := ctr_more ctrP3_ok (by
  intro x hx
  simp only [List.mem_cons, List.not_mem_nil, or_false] at hx
  rcases hx with rfl
  · exact holds_l_toBareS)


noncomputable def l_eqBare_c (x y : Bare) : Bool := pc (x = y)
def l_eqBare (_ _ : Bare) : Bool := true
noncomputable def run_l_eqBare : List AV → Option (Bool × List AV)
  | [.agg [.s (.sl .int) a0_0, .s .guest a0_1, .s .int a0_2, .i .i64 a0_3], .agg [.s (.sl .int) a1_0, .s .guest a1_1, .s .int a1_2, .i .i64 a1_3]] => some ((l_eqBare_c (⟨a0_0, a0_1, a0_2, a0_3⟩ : Bare) (⟨a1_0, a1_1, a1_2, a1_3⟩ : Bare)), [.one (.b (l_eqBare (⟨a0_0, a0_1, a0_2, a0_3⟩ : Bare) (⟨a1_0, a1_1, a1_2, a1_3⟩ : Bare)))])
  | _ => none

noncomputable def E_l_eqBare (N : Nat) (a0 : Bare) (a1 : Bare) : Option Ans :=
  (bif (l_eqIntSS_c a0.Memory a1.Memory) then (bif (bif (l_eqIntSS a0.Memory a1.Memory) then false else true) then (some [(.one (.b false))]) else (bif (l_eqGuestS_c a0.Guests a1.Guests) then (bif (bif (l_eqGuestS a0.Guests a1.Guests) then false else true) then (some [(.one (.b false))]) else (bif (l_eqIntS_c a0.Outs a1.Outs) then (bif (bif (l_eqIntS a0.Outs a1.Outs) then false else true) then (some [(.one (.b false))]) else (bif (ine a0.Pending a1.Pending) then (some [(.one (.b false))]) else (some [(.one (.b true))]))) else none)) else none)) else none)

theorem nf_l_eqBare (N : Nat) (a0 : Bare) (a1 : Bare) : evalFn (cfgQ (aget ctrP4) (aget mctC) (aget pct0) (aget tct0)) (tmsOf []) N 12 20 [.agg (Ty.cells .bare a0), .agg (Ty.cells .bare a1)] = E_l_eqBare N a0 a1 := by kernel_rfl

theorem law_l_eqBare (a0 : Bare) (a1 : Bare) (hb : AllB big [.agg (Ty.cells .bare a0), .agg (Ty.cells .bare a1)]) (hc : (l_eqBare_c a0 a1) = true) : ∃ N, E_l_eqBare N a0 a1 = some [.one (.b (l_eqBare a0 a1))] := by
  have := pc_iff.1 hc
  subst this
  refine ⟨0, ?_⟩
  simp only [E_l_eqBare, l_eqIntSS_c, l_eqGuestS_c, l_eqIntS_c, l_eqIntSS, l_eqGuestS, l_eqIntS, pc_T, ine_self, beqb_self, cT, cF, Bool.not_true, l_eqBare]
theorem holds_l_eqBare : Holds Tryz.prog 20 run_l_eqBare := by
  refine holds_of_eval (engQ_ok ctrP4_ok mctC_ok pct0_ok tct0_ok) (fn_ok (by kernel_rfl)) ?_
  intro avs rs hr h
  have hb := allB_of_rep hr
  unfold run_l_eqBare at h
  split at h
  · rename_i a0_0 a0_1 a0_2 a0_3 a1_0 a1_1 a1_2 a1_3
    obtain ⟨hc, rfl⟩ := some_pair h
    obtain ⟨N, hN⟩ := law_l_eqBare (⟨a0_0, a0_1, a0_2, a0_3⟩ : Bare) (⟨a1_0, a1_1, a1_2, a1_3⟩ : Bare) hb hc
    exact ⟨tmsOf [], N, 12, (nf_l_eqBare N (⟨a0_0, a0_1, a0_2, a0_3⟩ : Bare) (⟨a1_0, a1_1, a1_2, a1_3⟩ : Bare)).trans hN⟩
  · cases h




noncomputable def ctrP5 : Ctrs := [(20, run_l_eqBare)] ++ ctrP4

theorem ctrP5_ok : ∀ f run, aget ctrP5 f = some run → Holds Tryz.prog f run := ctr_more ctrP4_ok (by
  intro x hx
  simp only [List.mem_cons, List.not_mem_nil, or_false] at hx
  rcases hx with rfl
  · exact holds_l_eqBare)


noncomputable def l_eqBareS_c (x y : List Bare) : Bool := pc (x = y)
def l_eqBareS (_ _ : List Bare) : Bool := true
noncomputable def run_l_eqBareS : List AV → Option (Bool × List AV)
  | [.one (.s .bare a0), .one (.s .bare a1)] => some ((l_eqBareS_c a0 a1), [.one (.b (l_eqBareS a0 a1))])
  | _ => none

noncomputable def E_l_eqBareS (N : Nat) (a0 : List Bare) (a1 : List Bare) : Option Ans :=
  (bif (ine (ln a0) (ln a1)) then (some [(.one (.b false))]) else (iter (σ := (Int × ((List Bare) × ((List Bare) × Unit)))) N (fun r3 s4 => (bif (ilt s4.1 (ln s4.2.1)) then (bif (inb s4.1 (ln s4.2.1)) then (bif (inb s4.1 (ln s4.2.2.1)) then (bif (l_eqBare_c (ix s4.2.1 s4.1 (Ty.dflt .bare)) (ix s4.2.2.1 s4.1 (Ty.dflt .bare))) then (bif (bif (l_eqBare (ix s4.2.1 s4.1 (Ty.dflt .bare)) (ix s4.2.2.1 s4.1 (Ty.dflt .bare))) then false else true) then (some [(.one (.b false))]) else (r3 ((wadd .i64 s4.1 1), (s4.2.1, (s4.2.2.1, ()))))) else none) else none) else none) else (some [(.one (.b true))]))) (0, (a0, (a1, ())))))

def tms_l_eqBareS : FuncId → Nat → Option Tmpl := tmsOf [(9, 0, { n := 27, tm := [(0, .sl 0 []), (1, .sl 1 []), (5, .i .i64)], lo := [], ro := [(0, .bare, false), (1, .bare, false)] })]

theorem nf_l_eqBareS (N : Nat) (a0 : List Bare) (a1 : List Bare) : evalFn (cfgQ (aget ctrP5) (aget mctC) (aget pct0) (aget tct0)) tms_l_eqBareS N 12 9 [.one (.s .bare a0), .one (.s .bare a1)] = E_l_eqBareS N a0 a1 := by kernel_rfl

theorem law_l_eqBareS (a0 : List Bare) (a1 : List Bare) (hb : AllB big [.one (.s .bare a0), .one (.s .bare a1)]) (hc : (l_eqBareS_c a0 a1) = true) : ∃ N, E_l_eqBareS N a0 a1 = some [.one (.b (l_eqBareS a0 a1))] := by
  have := pc_iff.1 hc
  subst this
  have hl := ((allB_cons hb).1 _ (List.mem_singleton.2 rfl)).len
  refine ⟨a0.length + 1, ?_⟩
  unfold E_l_eqBareS
  rw [ine_self]
  refine eq_loop a0 (Ty.dflt .bare) _ _ hl (fun i hi rec => ?_) (fun rec => ?_) (Nat.lt_succ_self _)
  · simp only [ilt_ln hi, inb_ln hi, ix_ln hi, l_eqBare_c, l_eqBare, pc_T, ine_self, beqb_self, cT, cF, Bool.not_true]
  · simp only [ilt_end, cF, l_eqBareS]
theorem holds_l_eqBareS : Holds Tryz.prog 9 run_l_eqBareS := by
  refine holds_of_eval (engQ_ok ctrP5_ok mctC_ok pct0_ok tct0_ok) (fn_ok (by kernel_rfl)) ?_
  intro avs rs hr h
  have hb := allB_of_rep hr
  unfold run_l_eqBareS at h
  split at h
  · rename_i a0 a1
    obtain ⟨hc, rfl⟩ := some_pair h
    obtain ⟨N, hN⟩ := law_l_eqBareS a0 a1 hb hc
    exact ⟨tms_l_eqBareS, N, 12, (nf_l_eqBareS N a0 a1).trans hN⟩
  · cases h




noncomputable def ctrP6 : Ctrs := [(9, run_l_eqBareS)] ++ ctrP5

theorem ctrP6_ok : ∀ f run, aget ctrP6 f = some run → Holds Tryz.prog f run := ctr_more ctrP5_ok (by
  intro x hx
  simp only [List.mem_cons, List.not_mem_nil, or_false] at hx
  rcases hx with rfl
  · exact holds_l_eqBareS)


noncomputable def ctrBare : Ctrs := ctrP6
theorem ctrBare_ok : ∀ f run, aget ctrBare f = some run → Holds Tryz.prog f run := ctrP6_ok

/-! Weights. -/
theorem W_Bare1 (x : Bare) : W (mcL mIntS x.Memory + (mcL mGuest x.Guests + (mcL mInt x.Outs + 0))) (l_szBare x) := by
  show W _ (fun n => thn (l_szIntSS x.Memory n) (fun n => thn (l_szGuestS x.Guests n) (fun n => thn (l_szIntS x.Outs n) (fun n => n))))
  exact W_thn (W_IntSS _) (W_thn (W_Guest _) (W_thn (W_Int _) W_id))
theorem W_Bare (l : List Bare) : W (mcL mBare l) (l_szBareS l) := W_list (s := 1) (by decide) W_Bare1 (fun x => by unfold mBare; omega) l
end Go.Proofs.YtdbdlamkkkdjhaaGreat.E
