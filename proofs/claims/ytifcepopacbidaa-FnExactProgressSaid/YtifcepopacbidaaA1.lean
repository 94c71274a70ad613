/- What is proved here: contracts of the functions that FnExactSteps reaches. -/
import Derived.Test.YtifcepopacbidaaP1
import Derived.KernelRfl
namespace Go.Proofs.Ytifcepopacbidaa.E
open Go
set_option maxRecDepth 100000

/-! Copies. -/

/-- A loop that copies element by element. -/
theorem to_loop {α ρ : Type} (l : List α) (d : α) (c : α → Bool) (f : α → α) (K : List α → Option ρ) (hl : l.length ≤ big) (hf : ∀ x ∈ l, c x = true ∧ f x = x) {N : Nat} (hN : l.length < N) :
    iter N (fun r (s : Int × List α × List α × Unit) => (bif (ilt s.1 (ln s.2.1)) then (bif (inb s.1 (ln s.2.1)) then (bif (c (ix s.2.1 s.1 d)) then (bif (inb s.1 (ln s.2.2.1)) then
      (r ((wadd .i64 s.1 1), (s.2.1, ((up s.2.2.1 s.1 (f (ix s.2.1 s.1 d))), ())))) else none) else none) else none) else K s.2.2.1)) (0, (l, ((rp (ln l) d), ()))) = K l := by
  -- the copies so far, then what was laid
  have key : ∀ (m i N : Nat), l.length - i = m → i ≤ l.length → m < N → iter N (fun r (s : Int × List α × List α × Unit) => (bif (ilt s.1 (ln s.2.1)) then (bif (inb s.1 (ln s.2.1)) then (bif (c (ix s.2.1 s.1 d)) then (bif (inb s.1 (ln s.2.2.1)) then
      (r ((wadd .i64 s.1 1), (s.2.1, ((up s.2.2.1 s.1 (f (ix s.2.1 s.1 d))), ())))) else none) else none) else none) else K s.2.2.1)) ((i : Int), (l, (l.take i ++ List.replicate (l.length - i) d, ()))) = K l := by
    intro m
    induction m with
    | zero =>
      intro i N hm hi hN
      have : i = l.length := by omega
      subst this
      obtain ⟨n, rfl⟩ : ∃ n, N = n + 1 := ⟨N - 1, by omega⟩
      rw [iter_succ]
      simp only [ilt_end, cond_false]
      simp
    | succ m ih =>
      intro i N hm hi hN
      obtain ⟨n, rfl⟩ : ∃ n, N = n + 1 := ⟨N - 1, by omega⟩
      have hlt : i < l.length := by omega
      have hlen : (l.take i ++ List.replicate (l.length - i) d).length = l.length := by simp; omega
      obtain ⟨h1, h2⟩ := hf l[i] (List.getElem_mem hlt)
      have hup : up (l.take i ++ List.replicate (l.length - i) d) (i : Int) l[i] = l.take (i + 1) ++ List.replicate (l.length - (i + 1)) d := by
        unfold up
        apply List.ext_getElem?
        intro k
        have e : (i : Int).toNat = i := by omega
        rw [e, List.getElem?_set]
        by_cases hk : i = k
        · subst hk
          rw [if_pos rfl, if_pos (by omega), List.getElem?_append_left (by simp; omega), List.getElem?_take, if_pos (by omega), List.getElem?_eq_getElem hlt]
        · rw [if_neg hk]
          by_cases hki : k < i
          · rw [List.getElem?_append_left (by simp; omega), List.getElem?_append_left (by simp; omega), List.getElem?_take, List.getElem?_take, if_pos hki, if_pos (by omega)]
          · have e1 : (l.take i).length = i := by simp; omega
            have e2 : (l.take (i + 1)).length = i + 1 := by simp; omega
            rw [List.getElem?_append_right (by omega), List.getElem?_append_right (by omega), List.getElem?_replicate, List.getElem?_replicate, e1, e2]
            by_cases hkl : k < l.length
            · rw [if_pos (by omega), if_pos (by omega)]
            · rw [if_neg (by omega), if_neg (by omega)]
      rw [iter_succ]
      simp only [ilt_ln hlt, inb_ln hlt, ix_ln hlt, h1, h2, cond_true, inb_ln (l := l.take i ++ List.replicate (l.length - i) d) (i := i) (by omega), wadd_up hlt hl, hup]
      exact ih (i + 1) n (by omega) (by omega) (by omega)
  have := key l.length 0 N (by omega) (Nat.zero_le _) hN
  have e : rp (ln l) d = List.replicate l.length d := by simp [rp, ln]
  rw [e]
  simpa using this

/-- A loop that holds two lists against each other: the same list. -/
theorem eq_loop {α ρ : Type} (l : List α) (d : α) (F : (Int × List α × List α × Unit → Option ρ) → Int × List α × List α × Unit → Option ρ) (k : Option ρ) (hl : l.length ≤ big)
    (hstep : ∀ (i : Nat) (hi : i < l.length) rec, F rec ((i : Int), l, l, ()) = rec (wadd .i64 (i : Int) 1, l, l, ())) (hend : ∀ rec, F rec ((l.length : Int), l, l, ()) = k) {N : Nat} (hN : l.length < N) :
    iter N F (0, (l, (l, ()))) = k := by
  have key : ∀ (m i N : Nat), l.length - i = m → i ≤ l.length → m < N → iter N F ((i : Int), (l, (l, ()))) = k := by
    intro m
    induction m with
    | zero =>
      intro i N hm hi hN
      have : i = l.length := by omega
      subst this
      obtain ⟨n, rfl⟩ : ∃ n, N = n + 1 := ⟨N - 1, by omega⟩
      rw [iter_succ, hend]
    | succ m ih =>
      intro i N hm hi hN
      obtain ⟨n, rfl⟩ : ∃ n, N = n + 1 := ⟨N - 1, by omega⟩
      have hlt : i < l.length := by omega
      rw [iter_succ, hstep i hlt, wadd_up hlt hl]
      exact ih (i + 1) n (by omega) (by omega) (by omega)
  exact key l.length 0 N (by omega) (Nat.zero_le _) hN

/-- Small enough to be copied. -/
def sm : Nat := 1048576

/-! toAct, eqAct .. -/

def l_toAct_c (_ : GAct) : Bool := true
def l_toAct (x : GAct) : GAct := x
noncomputable def run_l_toAct : List AV → Option (Bool × List AV)
  | [.agg [.i .i64 a0_0, .i .i64 a0_1, .i .i64 a0_2, .i .i64 a0_3, .i .i64 a0_4, .i .i64 a0_5]] => some ((l_toAct_c (⟨a0_0, a0_1, a0_2, a0_3, a0_4, a0_5⟩ : GAct)), [.agg (Ty.cells .act (l_toAct (⟨a0_0, a0_1, a0_2, a0_3, a0_4, a0_5⟩ : GAct)))])
  | _ => none

noncomputable def E_l_toAct (N : Nat) (a0 : GAct) : Option Ans :=
  (some [(.agg [(.i .i64 a0.Kind), (.i .i64 a0.M), (.i .i64 a0.G), (.i .i64 a0.X), (.i .i64 a0.Y), (.i .i64 a0.Z)])])

def tms_l_toAct : FuncId → Nat → Option Tmpl := tmsOf []

theorem nf_l_toAct (N : Nat) (a0 : GAct) : evalFn (cfgOf (aget ctr0) (aget mct0)) tms_l_toAct N 12 32 [.agg (Ty.cells .act a0)] = E_l_toAct N a0 := by kernel_rfl

theorem law_l_toAct (a0 : GAct) (hb : AllB big [.agg (Ty.cells .act a0)]) (hc : l_toAct_c a0 = true) : ∃ N, E_l_toAct N a0 = some [.agg (Ty.cells .act (l_toAct a0))] := by
  exact ⟨0, rfl⟩
theorem holds_l_toAct : Holds Try.prog 32 run_l_toAct := by
  refine holds_of_eval (eng_ok ctr0_ok mct0_ok) (fn_ok (by kernel_rfl)) ?_
  intro avs rs hr h
  have hb := allB_of_rep hr
  unfold run_l_toAct at h
  split at h
  · rename_i a0_0 a0_1 a0_2 a0_3 a0_4 a0_5
    obtain ⟨hc, rfl⟩ := some_pair h
    obtain ⟨N, hN⟩ := law_l_toAct (⟨a0_0, a0_1, a0_2, a0_3, a0_4, a0_5⟩ : GAct) hb hc
    exact ⟨tms_l_toAct, N, 12, (nf_l_toAct N (⟨a0_0, a0_1, a0_2, a0_3, a0_4, a0_5⟩ : GAct)).trans hN⟩
  · cases h


noncomputable def l_eqAct_c (x y : GAct) : Bool := pc (x = y)
def l_eqAct (_ _ : GAct) : Bool := true
noncomputable def run_l_eqAct : List AV → Option (Bool × List AV)
  | [.agg [.i .i64 a0_0, .i .i64 a0_1, .i .i64 a0_2, .i .i64 a0_3, .i .i64 a0_4, .i .i64 a0_5], .agg [.i .i64 a1_0, .i .i64 a1_1, .i .i64 a1_2, .i .i64 a1_3, .i .i64 a1_4, .i .i64 a1_5]] => some ((l_eqAct_c (⟨a0_0, a0_1, a0_2, a0_3, a0_4, a0_5⟩ : GAct) (⟨a1_0, a1_1, a1_2, a1_3, a1_4, a1_5⟩ : GAct)), [.one (.b (l_eqAct (⟨a0_0, a0_1, a0_2, a0_3, a0_4, a0_5⟩ : GAct) (⟨a1_0, a1_1, a1_2, a1_3, a1_4, a1_5⟩ : GAct)))])
  | _ => none

noncomputable def E_l_eqAct (N : Nat) (a0 : GAct) (a1 : GAct) : Option Ans :=
  (bif (ine a0.Kind a1.Kind) then (some [(.one (.b false))]) else (bif (ine a0.M a1.M) then (some [(.one (.b false))]) else (bif (ine a0.G a1.G) then (some [(.one (.b false))]) else (bif (ine a0.X a1.X) then (some [(.one (.b false))]) else (bif (ine a0.Y a1.Y) then (some [(.one (.b false))]) else (bif (ine a0.Z a1.Z) then (some [(.one (.b false))]) else (some [(.one (.b true))])))))))

def tms_l_eqAct : FuncId → Nat → Option Tmpl := tmsOf []

theorem nf_l_eqAct (N : Nat) (a0 : GAct) (a1 : GAct) : evalFn (cfgOf (aget ctr0) (aget mct0)) tms_l_eqAct N 12 33 [.agg (Ty.cells .act a0), .agg (Ty.cells .act a1)] = E_l_eqAct N a0 a1 := by kernel_rfl

theorem law_l_eqAct (a0 : GAct) (a1 : GAct) (hb : AllB big [.agg (Ty.cells .act a0), .agg (Ty.cells .act a1)]) (hc : l_eqAct_c a0 a1 = true) : ∃ N, E_l_eqAct N a0 a1 = some [.one (.b (l_eqAct a0 a1))] := by
  have := pc_iff.1 hc
  subst this
  exact ⟨0, by simp [E_l_eqAct, ine_self, l_eqAct]⟩
theorem holds_l_eqAct : Holds Try.prog 33 run_l_eqAct := by
  refine holds_of_eval (eng_ok ctr0_ok mct0_ok) (fn_ok (by kernel_rfl)) ?_
  intro avs rs hr h
  have hb := allB_of_rep hr
  unfold run_l_eqAct at h
  split at h
  · rename_i a0_0 a0_1 a0_2 a0_3 a0_4 a0_5 a1_0 a1_1 a1_2 a1_3 a1_4 a1_5
    obtain ⟨hc, rfl⟩ := some_pair h
    obtain ⟨N, hN⟩ := law_l_eqAct (⟨a0_0, a0_1, a0_2, a0_3, a0_4, a0_5⟩ : GAct) (⟨a1_0, a1_1, a1_2, a1_3, a1_4, a1_5⟩ : GAct) hb hc
    exact ⟨tms_l_eqAct, N, 12, (nf_l_eqAct N (⟨a0_0, a0_1, a0_2, a0_3, a0_4, a0_5⟩ : GAct) (⟨a1_0, a1_1, a1_2, a1_3, a1_4, a1_5⟩ : GAct)).trans hN⟩
  · cases h


def szL {α : Type} (l : List α) (n : Int) : Int := if n - l.length < 0 then -1 else n - l.length
noncomputable def l_szActS_c (_ : List GAct) (n : Int) : Bool := pc (0 ≤ n ∧ n ≤ 1048576)
def l_szActS (l : List GAct) (n : Int) : Int := szL l n
theorem szL_eq {α : Type} {l : List α} {n : Int} (hl : l.length ≤ big) (h0 : 0 ≤ n) (h1 : n ≤ 1048576) : wsub .i64 n (ln l) = n - l.length := by
  rw [big_val] at hl
  exact wsub_id (by simp only [ln]; omega) (by simp only [ln]; omega)
noncomputable def run_l_szActS : List AV → Option (Bool × List AV)
  | [.one (.s .act a0), .one (.i .i64 a1)] => some ((l_szActS_c a0 a1), [.one (.i .i64 (l_szActS a0 a1))])
  | _ => none

noncomputable def E_l_szActS (N : Nat) (a0 : List GAct) (a1 : Int) : Option Ans :=
  (bif (ilt (wsub .i64 a1 (ln a0)) 0) then (some [(.one (.i .i64 (-1)))]) else (some [(.one (.i .i64 (wsub .i64 a1 (ln a0))))]))

def tms_l_szActS : FuncId → Nat → Option Tmpl := tmsOf []

theorem nf_l_szActS (N : Nat) (a0 : List GAct) (a1 : Int) : evalFn (cfgOf (aget ctr0) (aget mct0)) tms_l_szActS N 12 9 [.one (.s .act a0), .one (.i .i64 a1)] = E_l_szActS N a0 a1 := by kernel_rfl

theorem law_l_szActS (a0 : List GAct) (a1 : Int) (hb : AllB big [.one (.s .act a0), .one (.i .i64 a1)]) (hc : l_szActS_c a0 a1 = true) : ∃ N, E_l_szActS N a0 a1 = some [.one (.i .i64 (l_szActS a0 a1))] := by
  obtain ⟨h0, h1⟩ := pc_iff.1 hc
  have hl := (allB_cons hb).1 _ (List.mem_singleton.2 rfl)
  refine ⟨0, ?_⟩
  simp only [E_l_szActS, szL_eq hl.len h0 h1, l_szActS, szL, ilt]
  by_cases h : a1 - a0.length < 0 <;> simp [h]
theorem holds_l_szActS : Holds Try.prog 9 run_l_szActS := by
  refine holds_of_eval (eng_ok ctr0_ok mct0_ok) (fn_ok (by kernel_rfl)) ?_
  intro avs rs hr h
  have hb := allB_of_rep hr
  unfold run_l_szActS at h
  split at h
  · rename_i a0 a1
    obtain ⟨hc, rfl⟩ := some_pair h
    obtain ⟨N, hN⟩ := law_l_szActS a0 a1 hb hc
    exact ⟨tms_l_szActS, N, 12, (nf_l_szActS N a0 a1).trans hN⟩
  · cases h

noncomputable def ctr1 : List (Nat × (List AV → Option (Bool × List AV))) := [(32, run_l_toAct), (33, run_l_eqAct), (9, run_l_szActS)] ++ ctr0

theorem ctr1_ok : ∀ f run, aget ctr1 f = some run → Holds Try.prog f run := ctr_more ctr0_ok (by
  intro x hx
  simp only [List.mem_cons, List.not_mem_nil, or_false] at hx
  rcases hx with rfl | rfl | rfl
  · exact holds_l_toAct
  · exact holds_l_eqAct
  · exact holds_l_szActS)


noncomputable def l_toActS_c (l : List GAct) : Bool := pc (l.length ≤ sm)
def l_toActS (l : List GAct) : List GAct := l
noncomputable def run_l_toActS : List AV → Option (Bool × List AV)
  | [.one (.s .act a0)] => some ((l_toActS_c a0), [.one (.s .act (l_toActS a0))])
  | _ => none

noncomputable def E_l_toActS (N : Nat) (a0 : List GAct) : Option Ans :=
  (bif (bif (few (ln a0)) then (ieq (ln a0) (ln a0)) else false) then (iter (σ := (Int × ((List GAct) × ((List GAct) × Unit)))) N (fun r2 s3 => (bif (ilt s3.1 (ln s3.2.1)) then (bif (inb s3.1 (ln s3.2.1)) then (bif (l_toAct_c (ix s3.2.1 s3.1 (Ty.dflt .act))) then (bif (inb s3.1 (ln s3.2.2.1)) then (r2 ((wadd .i64 s3.1 1), (s3.2.1, ((up s3.2.2.1 s3.1 (l_toAct (ix s3.2.1 s3.1 (Ty.dflt .act)))), ())))) else none) else none) else none) else (some [(.one (.s .act s3.2.2.1))]))) (0, (a0, ((rp (ln a0) (Ty.dflt .act)), ())))) else none)

def tms_l_toActS : FuncId → Nat → Option Tmpl := tmsOf [(11, 0, { n := 23, tm := [(0, .sl 0 []), (3, .sl 1 []), (4, .i .i64)], lo := [], ro := [(0, .act, false), (1, .act, true)] })]

theorem nf_l_toActS (N : Nat) (a0 : List GAct) : evalFn (cfgOf (aget ctr1) (aget mct0)) tms_l_toActS N 12 11 [.one (.s .act a0)] = E_l_toActS N a0 := by kernel_rfl

theorem law_l_toActS (a0 : List GAct) (hb : AllB big [.one (.s .act a0)]) (hc : l_toActS_c a0 = true) : ∃ N, E_l_toActS N a0 = some [.one (.s .act (l_toActS a0))] := by
  have hl : a0.length ≤ sm := pc_iff.1 hc
  refine ⟨a0.length + 1, ?_⟩
  unfold E_l_toActS
  rw [few_ln (by unfold sm at hl; omega), ieq_self]
  exact to_loop a0 (Ty.dflt .act) l_toAct_c l_toAct (fun l => some [AV.one (.s .act l)]) (by unfold sm at hl; rw [big_val]; omega) (fun x _ => ⟨rfl, rfl⟩) (Nat.lt_succ_self _)
theorem holds_l_toActS : Holds Try.prog 11 run_l_toActS := by
  refine holds_of_eval (eng_ok ctr1_ok mct0_ok) (fn_ok (by kernel_rfl)) ?_
  intro avs rs hr h
  have hb := allB_of_rep hr
  unfold run_l_toActS at h
  split at h
  · rename_i a0
    obtain ⟨hc, rfl⟩ := some_pair h
    obtain ⟨N, hN⟩ := law_l_toActS a0 hb hc
    exact ⟨tms_l_toActS, N, 12, (nf_l_toActS N a0).trans hN⟩
  · cases h


noncomputable def l_eqActS_c (x y : List GAct) : Bool := pc (x = y)
def l_eqActS (_ _ : List GAct) : Bool := true
noncomputable def run_l_eqActS : List AV → Option (Bool × List AV)
  | [.one (.s .act a0), .one (.s .act a1)] => some ((l_eqActS_c a0 a1), [.one (.b (l_eqActS a0 a1))])
  | _ => none

noncomputable def E_l_eqActS (N : Nat) (a0 : List GAct) (a1 : List GAct) : Option Ans :=
  (bif (ine (ln a0) (ln a1)) then (some [(.one (.b false))]) else (iter (σ := (Int × ((List GAct) × ((List GAct) × Unit)))) N (fun r3 s4 => (bif (ilt s4.1 (ln s4.2.1)) then (bif (inb s4.1 (ln s4.2.1)) then (bif (inb s4.1 (ln s4.2.2.1)) then (bif (l_eqAct_c (ix s4.2.1 s4.1 (Ty.dflt .act)) (ix s4.2.2.1 s4.1 (Ty.dflt .act))) then (bif (bif (l_eqAct (ix s4.2.1 s4.1 (Ty.dflt .act)) (ix s4.2.2.1 s4.1 (Ty.dflt .act))) then false else true) then (some [(.one (.b false))]) else (r3 ((wadd .i64 s4.1 1), (s4.2.1, (s4.2.2.1, ()))))) else none) else none) else none) else (some [(.one (.b true))]))) (0, (a0, (a1, ())))))

def tms_l_eqActS : FuncId → Nat → Option Tmpl := tmsOf [(13, 0, { n := 27, tm := [(0, .sl 0 []), (1, .sl 1 []), (5, .i .i64)], lo := [], ro := [(0, .act, false), (1, .act, false)] })]

theorem nf_l_eqActS (N : Nat) (a0 : List GAct) (a1 : List GAct) : evalFn (cfgOf (aget ctr1) (aget mct0)) tms_l_eqActS N 12 13 [.one (.s .act a0), .one (.s .act a1)] = E_l_eqActS N a0 a1 := by kernel_rfl

theorem law_l_eqActS (a0 : List GAct) (a1 : List GAct) (hb : AllB big [.one (.s .act a0), .one (.s .act a1)]) (hc : l_eqActS_c a0 a1 = true) : ∃ N, E_l_eqActS N a0 a1 = some [.one (.b (l_eqActS a0 a1))] := by
  have := pc_iff.1 hc
  subst this
  have hl := ((allB_cons hb).1 _ (List.mem_singleton.2 rfl)).len
  refine ⟨a0.length + 1, ?_⟩
  unfold E_l_eqActS
  rw [ine_self]
  refine eq_loop a0 (Ty.dflt .act) _ _ hl (fun i hi rec => ?_) (fun rec => ?_) (Nat.lt_succ_self _)
  · simp [ilt_ln hi, inb_ln hi, ix_ln hi, l_eqAct_c, l_eqAct, pc_true]
  · simp [ilt_end, l_eqActS]
theorem holds_l_eqActS : Holds Try.prog 13 run_l_eqActS := by
  refine holds_of_eval (eng_ok ctr1_ok mct0_ok) (fn_ok (by kernel_rfl)) ?_
  intro avs rs hr h
  have hb := allB_of_rep hr
  unfold run_l_eqActS at h
  split at h
  · rename_i a0 a1
    obtain ⟨hc, rfl⟩ := some_pair h
    obtain ⟨N, hN⟩ := law_l_eqActS a0 a1 hb hc
    exact ⟨tms_l_eqActS, N, 12, (nf_l_eqActS N a0 a1).trans hN⟩
  · cases h


/-! The steps of a guest among actions. -/

def stepsOf (m g : Int) : List GAct → Int → Int
  | [], n => n
  | a :: l, n => stepsOf m g l (bif ieq a.Kind 1 then (bif ieq a.M m then (bif ieq a.G g then wadd .i64 n 1 else n) else n) else n)

theorem goL_steps {ρ : Type} (m g : Int) (K : Int → Option ρ) : ∀ (l : List GAct) (i : Nat) (n : Int),
    goL (fun _ (a : GAct) (n : Int) k => (bif ieq a.Kind 1 then (bif ieq a.M m then (bif ieq a.G g then k (wadd .i64 n 1) else k n) else k n) else k n)) K l i n = K (stepsOf m g l n)
  | [], _, _ => rfl
  | a :: l, i, n => by
    simp only [goL, stepsOf]
    cases ieq a.Kind 1 <;> cases ieq a.M m <;> cases ieq a.G g <;> exact goL_steps m g K l _ _

def s_Steps_c (_ : List GAct) (_ _ : Int) : Bool := true
def s_Steps (l : List GAct) (m g : Int) : Int := stepsOf m g l 0
noncomputable def run_s_Steps : List AV → Option (Bool × List AV)
  | [.one (.s .act a0), .one (.i .i64 a1), .one (.i .i64 a2)] => some ((s_Steps_c a0 a1 a2), [.one (.i .i64 (s_Steps a0 a1 a2))])
  | _ => none

noncomputable def E_s_Steps (N : Nat) (a0 : List GAct) (a1 : Int) (a2 : Int) : Option Ans :=
  (iter (σ := (Int × (Int × (Int × (Int × ((List GAct) × Unit)))))) N (fun r4 s5 => (bif (ilt s5.2.2.2.1 (ln s5.2.2.2.2.1)) then (bif (inb s5.2.2.2.1 (ln s5.2.2.2.2.1)) then (bif (ieq (ix s5.2.2.2.2.1 s5.2.2.2.1 (Ty.dflt .act)).Kind 1) then (bif (inb s5.2.2.2.1 (ln s5.2.2.2.2.1)) then (bif (ieq (ix s5.2.2.2.2.1 s5.2.2.2.1 (Ty.dflt .act)).M s5.1) then (bif (inb s5.2.2.2.1 (ln s5.2.2.2.2.1)) then (bif (ieq (ix s5.2.2.2.2.1 s5.2.2.2.1 (Ty.dflt .act)).G s5.2.1) then (r4 (s5.1, (s5.2.1, ((wadd .i64 s5.2.2.1 1), ((wadd .i64 s5.2.2.2.1 1), (s5.2.2.2.2.1, ())))))) else (r4 (s5.1, (s5.2.1, (s5.2.2.1, ((wadd .i64 s5.2.2.2.1 1), (s5.2.2.2.2.1, ()))))))) else none) else (r4 (s5.1, (s5.2.1, (s5.2.2.1, ((wadd .i64 s5.2.2.2.1 1), (s5.2.2.2.2.1, ()))))))) else none) else (r4 (s5.1, (s5.2.1, (s5.2.2.1, ((wadd .i64 s5.2.2.2.1 1), (s5.2.2.2.2.1, ()))))))) else none) else (some [(.one (.i .i64 s5.2.2.1))]))) (a1, (a2, (0, (0, (a0, ()))))))

def tms_s_Steps : FuncId → Nat → Option Tmpl := tmsOf [(10, 0, { n := 42, tm := [(0, .sl 0 []), (1, .i .i64), (2, .i .i64), (7, .i .i64), (8, .i .i64)], lo := [], ro := [(0, .act, false)] })]

theorem nf_s_Steps (N : Nat) (a0 : List GAct) (a1 : Int) (a2 : Int) : evalFn (cfgOf (aget ctr1) (aget mct0)) tms_s_Steps N 12 10 [.one (.s .act a0), .one (.i .i64 a1), .one (.i .i64 a2)] = E_s_Steps N a0 a1 a2 := by kernel_rfl

theorem law_s_Steps (a0 : List GAct) (a1 : Int) (a2 : Int) (hb : AllB big [.one (.s .act a0), .one (.i .i64 a1), .one (.i .i64 a2)]) (hc : s_Steps_c a0 a1 a2 = true) : ∃ N, E_s_Steps N a0 a1 a2 = some [.one (.i .i64 (s_Steps a0 a1 a2))] := by
  have hl := ((allB_cons hb).1 _ (List.mem_singleton.2 rfl)).len
  refine ⟨a0.length + 1, ?_⟩
  unfold E_s_Steps
  refine (iter_list a0 (fun i n => (a1, a2, n, (i : Int), a0, ())) _ (fun _ (a : GAct) (n : Int) k => (bif ieq a.Kind 1 then (bif ieq a.M a1 then (bif ieq a.G a2 then k (wadd .i64 n 1) else k n) else k n) else k n)) (fun n => some [AV.one (.i .i64 n)])
    (fun i hi n rec => ?_) (fun n rec => ?_) _ 0 (Nat.lt_succ_self _)).trans (goL_steps a1 a2 _ a0 0 0)
  · simp only [ilt_ln hi, inb_ln hi, ix_ln hi, cond_true, wadd_up hi hl]
  · simp only [ilt_end, cond_false]
theorem holds_s_Steps : Holds Try.prog 10 run_s_Steps := by
  refine holds_of_eval (eng_ok ctr1_ok mct0_ok) (fn_ok (by kernel_rfl)) ?_
  intro avs rs hr h
  have hb := allB_of_rep hr
  unfold run_s_Steps at h
  split at h
  · rename_i a0 a1 a2
    obtain ⟨hc, rfl⟩ := some_pair h
    obtain ⟨N, hN⟩ := law_s_Steps a0 a1 a2 hb hc
    exact ⟨tms_s_Steps, N, 12, (nf_s_Steps N a0 a1 a2).trans hN⟩
  · cases h


def i_Steps_c (_ : List GAct) (_ _ : Int) : Bool := true
def i_Steps (l : List GAct) (m g : Int) : Int := stepsOf m g l 0
noncomputable def run_i_Steps : List AV → Option (Bool × List AV)
  | [.one (.s .act a0), .one (.i .i64 a1), .one (.i .i64 a2)] => some ((i_Steps_c a0 a1 a2), [.one (.i .i64 (i_Steps a0 a1 a2))])
  | _ => none

noncomputable def E_i_Steps (N : Nat) (a0 : List GAct) (a1 : Int) (a2 : Int) : Option Ans :=
  (iter (σ := (Int × (Int × (Int × (Int × (Int × ((List GAct) × Unit))))))) N (fun r4 s5 => (bif (ilt s5.2.2.2.2.1 s5.2.2.2.1) then (bif (inb s5.2.2.2.2.1 (ln s5.2.2.2.2.2.1)) then (bif (ieq (ix s5.2.2.2.2.2.1 s5.2.2.2.2.1 (Ty.dflt .act)).Kind 1) then (bif (ieq (ix s5.2.2.2.2.2.1 s5.2.2.2.2.1 (Ty.dflt .act)).M s5.1) then (bif (ieq (ix s5.2.2.2.2.2.1 s5.2.2.2.2.1 (Ty.dflt .act)).G s5.2.1) then (r4 (s5.1, (s5.2.1, ((wadd .i64 s5.2.2.1 1), (s5.2.2.2.1, ((wadd .i64 s5.2.2.2.2.1 1), (s5.2.2.2.2.2.1, ()))))))) else (r4 (s5.1, (s5.2.1, (s5.2.2.1, (s5.2.2.2.1, ((wadd .i64 s5.2.2.2.2.1 1), (s5.2.2.2.2.2.1, ())))))))) else (r4 (s5.1, (s5.2.1, (s5.2.2.1, (s5.2.2.2.1, ((wadd .i64 s5.2.2.2.2.1 1), (s5.2.2.2.2.2.1, ())))))))) else (r4 (s5.1, (s5.2.1, (s5.2.2.1, (s5.2.2.2.1, ((wadd .i64 s5.2.2.2.2.1 1), (s5.2.2.2.2.2.1, ())))))))) else none) else (some [(.one (.i .i64 s5.2.2.1))]))) (a1, (a2, (0, ((ln a0), (0, (a0, ())))))))

def tms_i_Steps : FuncId → Nat → Option Tmpl := tmsOf [(12, 0, { n := 35, tm := [(1, .i .i64), (2, .i .i64), (7, .i .i64), (10, .sl 0 []), (11, .i .i64), (12, .i .i64)], lo := [], ro := [(0, .act, false)] })]

theorem nf_i_Steps (N : Nat) (a0 : List GAct) (a1 : Int) (a2 : Int) : evalFn (cfgOf (aget ctr1) (aget mct0)) tms_i_Steps N 12 12 [.one (.s .act a0), .one (.i .i64 a1), .one (.i .i64 a2)] = E_i_Steps N a0 a1 a2 := by kernel_rfl

theorem law_i_Steps (a0 : List GAct) (a1 : Int) (a2 : Int) (hb : AllB big [.one (.s .act a0), .one (.i .i64 a1), .one (.i .i64 a2)]) (hc : i_Steps_c a0 a1 a2 = true) : ∃ N, E_i_Steps N a0 a1 a2 = some [.one (.i .i64 (i_Steps a0 a1 a2))] := by
  have hl := ((allB_cons hb).1 _ (List.mem_singleton.2 rfl)).len
  refine ⟨a0.length + 1, ?_⟩
  unfold E_i_Steps
  refine (iter_list a0 (fun i n => (a1, a2, n, ln a0, (i : Int), a0, ())) _ (fun _ (a : GAct) (n : Int) k => (bif ieq a.Kind 1 then (bif ieq a.M a1 then (bif ieq a.G a2 then k (wadd .i64 n 1) else k n) else k n) else k n)) (fun n => some [AV.one (.i .i64 n)])
    (fun i hi n rec => ?_) (fun n rec => ?_) _ 0 (Nat.lt_succ_self _)).trans (goL_steps a1 a2 _ a0 0 0)
  · simp only [ilt_ln hi, inb_ln hi, ix_ln hi, cond_true, wadd_up hi hl]
  · simp only [ilt_end, cond_false]
theorem holds_i_Steps : Holds Try.prog 12 run_i_Steps := by
  refine holds_of_eval (eng_ok ctr1_ok mct0_ok) (fn_ok (by kernel_rfl)) ?_
  intro avs rs hr h
  have hb := allB_of_rep hr
  unfold run_i_Steps at h
  split at h
  · rename_i a0 a1 a2
    obtain ⟨hc, rfl⟩ := some_pair h
    obtain ⟨N, hN⟩ := law_i_Steps a0 a1 a2 hb hc
    exact ⟨tms_i_Steps, N, 12, (nf_i_Steps N a0 a1 a2).trans hN⟩
  · cases h

noncomputable def ctr2 : List (Nat × (List AV → Option (Bool × List AV))) := [(11, run_l_toActS), (13, run_l_eqActS), (10, run_s_Steps), (12, run_i_Steps)] ++ ctr1

theorem ctr2_ok : ∀ f run, aget ctr2 f = some run → Holds Try.prog f run := ctr_more ctr1_ok (by
  intro x hx
  simp only [List.mem_cons, List.not_mem_nil, or_false] at hx
  rcases hx with rfl | rfl | rfl | rfl
  · exact holds_l_toActS
  · exact holds_l_eqActS
  · exact holds_s_Steps
  · exact holds_i_Steps)


end Go.Proofs.Ytifcepopacbidaa.E
