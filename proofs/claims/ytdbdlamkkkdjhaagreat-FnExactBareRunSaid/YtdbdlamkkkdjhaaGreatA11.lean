/- What is proved here: contracts of rounds of bare machines. -/
import Derived.Test.YtdbdlamkkkdjhaaGreatA10
import Derived.KernelRfl
namespace Go.Proofs.YtdbdlamkkkdjhaaGreat.E
open Go
set_option maxRecDepth 100000
set_option linter.unusedVariables false
set_option linter.unusedSimpArgs false
set_option linter.unusedSectionVars false

/-- A loop that counts up, of whose state something is known. -/
theorem iter_to {σ ρ τ : Type} (n : Nat) (st : Nat → τ → σ) (F : (σ → Option ρ) → σ → Option ρ) (I : Nat → τ → Prop) (res : Nat → τ → Option ρ)
    (hstep : ∀ (i : Nat) (t : τ) (rec : σ → Option ρ), i < n → I i t → (∀ t', I (i + 1) t' → rec (st (i + 1) t') = res (i + 1) t') → F rec (st i t) = res i t)
    (hend : ∀ (t : τ) (rec : σ → Option ρ), I n t → F rec (st n t) = res n t) : ∀ (N i : Nat) (t : τ), I i t → i ≤ n → n - i < N → iter N F (st i t) = res i t := by
  have key : ∀ (m N i : Nat) (t : τ), n - i = m → I i t → i ≤ n → m < N → iter N F (st i t) = res i t := by
    intro m
    induction m with
    | zero =>
      intro N i t hm hI hi hN
      obtain ⟨k, rfl⟩ : ∃ k, N = k + 1 := ⟨N - 1, by omega⟩
      have : i = n := by omega
      subst this
      rw [iter_succ]
      exact hend t _ hI
    | succ m ih =>
      intro N i t hm hI hi hN
      obtain ⟨k, rfl⟩ : ∃ k, N = k + 1 := ⟨N - 1, by omega⟩
      rw [iter_succ]
      exact hstep i t _ (by omega) hI (fun t' hI' => ih k (i + 1) t' (by omega) hI' (by omega) (by omega))
  intro N i t hI hi hN
  exact key (n - i) N i t rfl hI hi hN

section
variable {α : Type}
theorem up_self {l : List α} {i : Nat} (h : i < l.length) (d : α) : up l (i : Int) (ix l (i : Int) d) = l := by
  rw [ix_ln h]
  unfold up
  apply List.ext_getElem?
  intro k
  rw [List.getElem?_set]
  have e : (i : Int).toNat = i := by omega
  rw [e]
  by_cases hk : i = k
  · subst hk
    simp [h]
  · simp [hk]
theorem ix_up {l : List α} {i : Nat} (h : i < l.length) (x d : α) : ix (up l (i : Int) x) (i : Int) d = x := by
  unfold ix up
  have e : (i : Int).toNat = i := by omega
  rw [e]
  simp [List.getD, h]
theorem up_up (l : List α) (i : Int) (x y : α) : up (up l i x) i y = up l i y := by
  unfold up
  simp
theorem take_up {l : List α} {i : Nat} (h : i < l.length) (x : α) : (up l (i : Int) x).take (i + 1) = l.take i ++ [x] := by
  unfold up
  have e : (i : Int).toNat = i := by omega
  rw [e]
  apply List.ext_getElem?
  intro k
  by_cases hk : k < i
  · rw [List.getElem?_take, if_pos (by omega), List.getElem?_set, if_neg (by omega), List.getElem?_append_left (by simp; omega), List.getElem?_take, if_pos hk]
  · have hl : (l.take i).length = i := by simp; omega
    rw [List.getElem?_take, List.getElem?_append_right (by omega), hl]
    by_cases hk2 : k = i
    · subst hk2
      simp [h]
    · rw [if_neg (by omega), List.getElem?_eq_none (by simp; omega)]
theorem drop_up {l : List α} {i : Nat} (x : α) : (up l (i : Int) x).drop (i + 1) = l.drop (i + 1) := by
  unfold up
  have e : (i : Int).toNat = i := by omega
  rw [e]
  apply List.ext_getElem?
  intro k
  rw [List.getElem?_drop, List.getElem?_drop, List.getElem?_set, if_neg (by omega)]
theorem get_up {l : List α} {i k : Nat} (h : i < k) (x : α) : (up l (i : Int) x)[k]? = l[k]? := by
  unfold up
  have e : (i : Int).toNat = i := by omega
  rw [e, List.getElem?_set, if_neg (by omega)]
end

def brought (n a b : Int) : Int := bif ilt n a then a else (bif ilt b a then a else imin n b)
@[simp, reducible] def i_Brought_c (_ _ _ : Int) : Bool := true
@[simp, reducible] def i_Brought (n a b : Int) : Int := brought n a b
noncomputable def run_i_Brought : List AV → Option (Bool × List AV)
  | [.one (.i .i64 a0), .one (.i .i64 a1), .one (.i .i64 a2)] => some ((i_Brought_c a0 a1 a2), [.one (.i .i64 (i_Brought a0 a1 a2))])
  | _ => none

noncomputable def E_i_Brought (N : Nat) (a0 : Int) (a1 : Int) (a2 : Int) : Option Ans :=
  (bif (ilt a0 a1) then (some [(.one (.i .i64 a1))]) else (bif (ilt a2 a1) then (some [(.one (.i .i64 a1))]) else (some [(.one (.i .i64 (imin a0 a2)))])))

theorem nf_i_Brought (N : Nat) (a0 : Int) (a1 : Int) (a2 : Int) : evalFn (cfgQ (aget ctrN7) (aget mctC) (aget pct0) (aget tct0)) (tmsOf []) N 12 28 [.one (.i .i64 a0), .one (.i .i64 a1), .one (.i .i64 a2)] = E_i_Brought N a0 a1 a2 := by kernel_rfl

theorem law_i_Brought (a0 : Int) (a1 : Int) (a2 : Int) (hb : AllB big [.one (.i .i64 a0), .one (.i .i64 a1), .one (.i .i64 a2)]) (hc : (i_Brought_c a0 a1 a2) = true) : ∃ N, E_i_Brought N a0 a1 a2 = some [.one (.i .i64 (i_Brought a0 a1 a2))] := by
  refine ⟨0, ?_⟩
  unfold E_i_Brought
  refine br (fun h0 => ?_) (fun h0 => ?_)
  · first | rfl | (simp only [h0, i_Brought, brought, cT, cF] <;> rfl) | (simp_all [Ty.cells, i_Brought, brought]; done)
  · refine br (fun h1 => ?_) (fun h1 => ?_)
    · first | rfl | (simp only [h0, h1, i_Brought, brought, cT, cF] <;> rfl) | (simp_all [Ty.cells, i_Brought, brought]; done)
    · first | rfl | (simp only [h0, h1, i_Brought, brought, cT, cF] <;> rfl) | (simp_all [Ty.cells, i_Brought, brought]; done)
theorem holds_i_Brought : Holds Tryz.prog 28 run_i_Brought := by
  refine holds_of_eval (engQ_ok ctrN7_ok mctC_ok pct0_ok tct0_ok) (fn_ok (by kernel_rfl)) ?_
  intro avs rs hr h
  have hb := allB_of_rep hr
  unfold run_i_Brought at h
  split at h
  · rename_i a0 a1 a2
    obtain ⟨hc, rfl⟩ := some_pair h
    obtain ⟨N, hN⟩ := law_i_Brought a0 a1 a2 hb hc
    exact ⟨tmsOf [], N, 12, (nf_i_Brought N a0 a1 a2).trans hN⟩
  · cases h

@[simp, reducible] def s_Brought_c (_ _ _ : Int) : Bool := true
@[simp, reducible] def s_Brought (n a b : Int) : Int := brought n a b
noncomputable def run_s_Brought : List AV → Option (Bool × List AV)
  | [.one (.i .i64 a0), .one (.i .i64 a1), .one (.i .i64 a2)] => some ((s_Brought_c a0 a1 a2), [.one (.i .i64 (s_Brought a0 a1 a2))])
  | _ => none

noncomputable def E_s_Brought (N : Nat) (a0 : Int) (a1 : Int) (a2 : Int) : Option Ans :=
  (bif (ilt a2 a1) then (some [(.one (.i .i64 a1))]) else (bif (ilt a0 a1) then (some [(.one (.i .i64 a1))]) else (bif (igt a0 a2) then (some [(.one (.i .i64 a2))]) else (some [(.one (.i .i64 a0))]))))

theorem nf_s_Brought (N : Nat) (a0 : Int) (a1 : Int) (a2 : Int) : evalFn (cfgQ (aget ctrN7) (aget mctC) (aget pct0) (aget tct0)) (tmsOf []) N 12 27 [.one (.i .i64 a0), .one (.i .i64 a1), .one (.i .i64 a2)] = E_s_Brought N a0 a1 a2 := by kernel_rfl

theorem law_s_Brought (a0 : Int) (a1 : Int) (a2 : Int) (hb : AllB big [.one (.i .i64 a0), .one (.i .i64 a1), .one (.i .i64 a2)]) (hc : (s_Brought_c a0 a1 a2) = true) : ∃ N, E_s_Brought N a0 a1 a2 = some [.one (.i .i64 (s_Brought a0 a1 a2))] := by
  refine ⟨0, ?_⟩
  unfold E_s_Brought
  unfold s_Brought brought imin
  cases h1 : ilt a2 a1 <;> cases h2 : ilt a0 a1 <;> cases h3 : igt a0 a2 <;> simp [igt] at * <;> omega
theorem holds_s_Brought : Holds Tryz.prog 27 run_s_Brought := by
  refine holds_of_eval (engQ_ok ctrN7_ok mctC_ok pct0_ok tct0_ok) (fn_ok (by kernel_rfl)) ?_
  intro avs rs hr h
  have hb := allB_of_rep hr
  unfold run_s_Brought at h
  split at h
  · rename_i a0 a1 a2
    obtain ⟨hc, rfl⟩ := some_pair h
    obtain ⟨N, hN⟩ := law_s_Brought a0 a1 a2 hb hc
    exact ⟨tmsOf [], N, 12, (nf_s_Brought N a0 a1 a2).trans hN⟩
  · cases h

theorem brought40 (n : Int) : 0 ≤ brought n 0 40 ∧ brought n 0 40 ≤ 40 := by
  unfold brought
  cases h1 : ilt n 0
  · have h1 := of_decide_eq_false h1
    simp only [cF, show ilt 40 0 = false from rfl, imin]
    split <;> omega
  · simp

@[simp, reducible] noncomputable def i_copyBares_c (l : List Bare) : Bool := pc (SmBs l)
@[simp, reducible] def i_copyBares (l : List Bare) : List Bare := l
noncomputable def run_i_copyBares : List AV → Option (Bool × List AV)
  | [.one (.s .bare a0)] => some ((i_copyBares_c a0), [.one (.s .bare (i_copyBares a0))])
  | _ => none

noncomputable def E_i_copyBares (N : Nat) (a0 : List Bare) : Option Ans :=
  (iter (σ := (Int × (Int × ((List Bare) × ((List Bare) × Unit))))) N (fun r2 s3 => (bif (ilt s3.2.1 s3.1) then (bif (inb s3.2.1 (ln s3.2.2.2.1)) then (bif (i_copyBare_c (ix s3.2.2.2.1 s3.2.1 (Ty.dflt .bare))) then (bif (few (ln (ap s3.2.2.1 [(i_copyBare (ix s3.2.2.2.1 s3.2.1 (Ty.dflt .bare)))]))) then (r2 (s3.1, ((wadd .i64 s3.2.1 1), ((ap s3.2.2.1 [(i_copyBare (ix s3.2.2.2.1 s3.2.1 (Ty.dflt .bare)))]), (s3.2.2.2.1, ()))))) else none) else none) else none) else (some [(.one (.s .bare s3.2.2.1))]))) ((ln a0), (0, ([], (a0, ())))))

def tms_i_copyBares : FuncId → Nat → Option Tmpl := tmsOf [(18, 0, { n := 20, tm := [(3, .sl 0 []), (7, .sl 1 []), (8, .i .i64), (9, .i .i64)], lo := [], ro := [(0, .bare, true), (1, .bare, false)] })]

theorem nf_i_copyBares (N : Nat) (a0 : List Bare) : evalFn (cfgQ (aget ctrN7) (aget mctC) (aget pct0) (aget tct0)) tms_i_copyBares N 12 18 [.one (.s .bare a0)] = E_i_copyBares N a0 := by kernel_rfl

theorem law_i_copyBares (a0 : List Bare) (hb : AllB big [.one (.s .bare a0)]) (hc : (i_copyBares_c a0) = true) : ∃ N, E_i_copyBares N a0 = some [.one (.s .bare (i_copyBares a0))] := by
  have hs := pc_iff.1 hc
  have hl := sm_big hs.1
  refine ⟨NN, ?_⟩
  have hNN : ∀ {n : Nat}, n ≤ big → n < NN := fun h => NN_lt h
  generalize NN = N at hNN ⊢
  unfold E_i_copyBares
  refine (iter_list a0 (fun i (t : (List Bare)) => ((ln a0), (i : Int), t, a0, ())) _ (fun _ x acc κ => bif i_copyBare_c x then (bif few (ln (ap acc [i_copyBare x])) then κ (ap acc [i_copyBare x]) else none) else none) (fun (t : (List Bare)) => (some [(.one (.s .bare t))])) (fun i hi t rec => ?_) (fun t rec => ?_) _ ([]) (hNN hl.1)).trans ?_
  · simp only [ilt_ln hi, inb_ln hi, ix_ln hi, wadd_up hi hl.1, cT]
  · simp only [ilt_end, cF]
  exact app_loop i_copyBare_c i_copyBare _ a0 0 [] (fun x hx => ⟨pc_true (hs.2 x hx), rfl⟩) (by simpa using hl.2)
theorem holds_i_copyBares : Holds Tryz.prog 18 run_i_copyBares := by
  refine holds_of_eval (engQ_ok ctrN7_ok mctC_ok pct0_ok tct0_ok) (fn_ok (by kernel_rfl)) ?_
  intro avs rs hr h
  have hb := allB_of_rep hr
  unfold run_i_copyBares at h
  split at h
  · rename_i a0
    obtain ⟨hc, rfl⟩ := some_pair h
    obtain ⟨N, hN⟩ := law_i_copyBares a0 hb hc
    exact ⟨tms_i_copyBares, N, 12, (nf_i_copyBares N a0).trans hN⟩
  · cases h

@[simp, reducible] noncomputable def s_l28Bares_c (l : List Bare) : Bool := pc (SmBs l)
@[simp, reducible] def s_l28Bares (l : List Bare) : List Bare := l
noncomputable def run_s_l28Bares : List AV → Option (Bool × List AV)
  | [.one (.s .bare a0)] => some ((s_l28Bares_c a0), [.one (.s .bare (s_l28Bares a0))])
  | _ => none

noncomputable def E_s_l28Bares (N : Nat) (a0 : List Bare) : Option Ans :=
  (iter (σ := (Int × ((List Bare) × ((List Bare) × Unit)))) N (fun r2 s3 => (bif (ilt s3.1 (ln s3.2.1)) then (bif (inb s3.1 (ln s3.2.1)) then (bif (s_l17Copy_c (ix s3.2.1 s3.1 (Ty.dflt .bare))) then (bif (few (ln (ap s3.2.2.1 [(s_l17Copy (ix s3.2.1 s3.1 (Ty.dflt .bare)))]))) then (r2 ((wadd .i64 s3.1 1), (s3.2.1, ((ap s3.2.2.1 [(s_l17Copy (ix s3.2.1 s3.1 (Ty.dflt .bare)))]), ())))) else none) else none) else none) else (some [(.one (.s .bare s3.2.2.1))]))) (0, (a0, ([], ()))))

def tms_s_l28Bares : FuncId → Nat → Option Tmpl := tmsOf [(15, 0, { n := 21, tm := [(0, .sl 0 []), (3, .sl 1 []), (4, .i .i64)], lo := [], ro := [(0, .bare, false), (1, .bare, true)] })]

theorem nf_s_l28Bares (N : Nat) (a0 : List Bare) : evalFn (cfgQ (aget ctrN7) (aget mctC) (aget pct0) (aget tct0)) tms_s_l28Bares N 12 15 [.one (.s .bare a0)] = E_s_l28Bares N a0 := by kernel_rfl

theorem law_s_l28Bares (a0 : List Bare) (hb : AllB big [.one (.s .bare a0)]) (hc : (s_l28Bares_c a0) = true) : ∃ N, E_s_l28Bares N a0 = some [.one (.s .bare (s_l28Bares a0))] := by
  have hs := pc_iff.1 hc
  have hl := sm_big hs.1
  refine ⟨NN, ?_⟩
  have hNN : ∀ {n : Nat}, n ≤ big → n < NN := fun h => NN_lt h
  generalize NN = N at hNN ⊢
  unfold E_s_l28Bares
  refine (iter_list a0 (fun i (t : (List Bare)) => ((i : Int), a0, t, ())) _ (fun _ x acc κ => bif s_l17Copy_c x then (bif few (ln (ap acc [s_l17Copy x])) then κ (ap acc [s_l17Copy x]) else none) else none) (fun (t : (List Bare)) => (some [(.one (.s .bare t))])) (fun i hi t rec => ?_) (fun t rec => ?_) _ ([]) (hNN hl.1)).trans ?_
  · simp only [ilt_ln hi, inb_ln hi, ix_ln hi, wadd_up hi hl.1, cT]
  · simp only [ilt_end, cF]
  exact app_loop s_l17Copy_c s_l17Copy _ a0 0 [] (fun x hx => ⟨pc_true (hs.2 x hx), rfl⟩) (by simpa using hl.2)
theorem holds_s_l28Bares : Holds Tryz.prog 15 run_s_l28Bares := by
  refine holds_of_eval (engQ_ok ctrN7_ok mctC_ok pct0_ok tct0_ok) (fn_ok (by kernel_rfl)) ?_
  intro avs rs hr h
  have hb := allB_of_rep hr
  unfold run_s_l28Bares at h
  split at h
  · rename_i a0
    obtain ⟨hc, rfl⟩ := some_pair h
    obtain ⟨N, hN⟩ := law_s_l28Bares a0 hb hc
    exact ⟨tms_s_l28Bares, N, 12, (nf_s_l28Bares N a0).trans hN⟩
  · cases h

noncomputable def ctrO1 : Ctrs := [(19, run_i_BareStep), (16, run_s_BareStep), (18, run_i_copyBares), (15, run_s_l28Bares), (28, run_i_Brought), (27, run_s_Brought)] ++ ctrN7

theorem ctrO1_ok : ∀ f run, aget ctrO1 f = some run → Holds Tryz.prog f run := ctr_more ctrN7_ok (by
  intro x hx
  simp only [List.mem_cons, List.not_mem_nil, or_false] at hx
  rcases hx with rfl | rfl | rfl | rfl | rfl | rfl
  · exact holds_i_BareStep
  · exact holds_s_BareStep
  · exact holds_i_copyBares
  · exact holds_s_l28Bares
  · exact holds_i_Brought
  · exact holds_s_Brought)


/-- So many guests of a machine have their turn. -/
def rb : Nat → Nat → Bare → Int → Bare × Int
  | 0, _, b, c => (b, c)
  | m + 1, j, b, c => rb m (j + 1) (bareStep b (j : Int)) (bif canStep b (j : Int) then wadd .i64 c 1 else c)
theorem smB_rb : ∀ (m j : Nat) (b : Bare) (c : Int), SmB b → SmB (rb m j b c).1
  | 0, _, _, _, h => h
  | m + 1, j, b, c, h => smB_rb m (j + 1) _ _ (smB_step h)
def rnd : List Bare → Int → List Bare × Int
  | [], c => ([], c)
  | b :: l, c => ((rb b.Guests.length 0 b c).1 :: (rnd l (rb b.Guests.length 0 b c).2).1, (rnd l (rb b.Guests.length 0 b c).2).2)
theorem rnd_len : ∀ (l : List Bare) (c : Int), (rnd l c).1.length = l.length
  | [], _ => rfl
  | b :: l, c => by simp [rnd, rnd_len l]
theorem smB_rnd : ∀ (l : List Bare) (c : Int), (∀ b ∈ l, SmB b) → ∀ b ∈ (rnd l c).1, SmB b
  | [], _, _, b, hb => by cases hb
  | x :: l, c, h, b, hb => by
    simp only [rnd, List.mem_cons] at hb
    rcases hb with rfl | hb
    · exact smB_rb _ _ _ _ (h x (by simp))
    · exact smB_rnd l _ (fun y hy => h y (by simp [hy])) b hb
theorem smBs_rnd {l : List Bare} (h : SmBs l) (c : Int) : SmBs (rnd l c).1 := ⟨by rw [rnd_len]; exact h.1, smB_rnd l c h.2⟩

/-- What the outer loop's state is known to be. -/
structure RI (a : List Bare) (i : Nat) (l : List Bare) : Prop where
  len : l.length = a.length
  sm : SmBs l
  eq : ∀ k, i ≤ k → l[k]? = a[k]?
theorem RI.up {a l : List Bare} {i : Nat} (h : RI a i l) (x : Bare) (hx : SmB x) : RI a (i + 1) (up l (i : Int) x) :=
  ⟨by rw [up_len]; exact h.len, smBs_up h.sm hx, fun k hk => by rw [get_up (by omega)]; exact h.eq k (by omega)⟩
/-- What the inner loop's state is known to be. -/
structure RJ (l : List Bare) (i : Nat) (l' : List Bare) : Prop where
  len : l'.length = l.length
  sm : SmB (ix l' (i : Int) (Ty.dflt .bare))
  up : ∀ x, E.up l' (i : Int) x = E.up l (i : Int) x
theorem RJ.next {l l' : List Bare} {i : Nat} (h : RJ l i l') (hi : i < l.length) (x : Bare) (hx : SmB x) : RJ l i (E.up l' (i : Int) x) :=
  ⟨by rw [up_len]; exact h.len, by rw [ix_up (by rw [h.len]; exact hi)]; exact hx, fun y => by rw [up_up]; exact h.up y⟩
def resR (l : List Bare) (i : Nat) (c : Int) : Option Ans := some [AV.one (.s .bare (l.take i ++ (rnd (l.drop i) c).1)), AV.one (.i .i64 (rnd (l.drop i) c).2)]
theorem resR_end (l : List Bare) (c : Int) : resR l l.length c = some [AV.one (.s .bare l), AV.one (.i .i64 c)] := by
  unfold resR
  simp [rnd]
theorem resR_step {l : List Bare} {i : Nat} (hi : i < l.length) (c : Int) :
    resR (up l (i : Int) (rb l[i].Guests.length 0 l[i] c).1) (i + 1) (rb l[i].Guests.length 0 l[i] c).2 = resR l i c := by
  unfold resR
  rw [take_up hi, drop_up, List.drop_eq_getElem_cons hi]
  simp [rnd]
theorem inb_lt {α : Type} {l : List α} {i : Nat} (h : i < l.length) : inb (i : Int) (ln l) = true := inb_ln h

@[simp, reducible] noncomputable def i_BareRound_c (l : List Bare) : Bool := pc (SmBs l)
@[simp, reducible] def i_BareRound_1 (l : List Bare) : List Bare := (rnd l 0).1
@[simp, reducible] def i_BareRound_2 (l : List Bare) : Int := (rnd l 0).2
noncomputable def run_i_BareRound : List AV → Option (Bool × List AV)
  | [.one (.s .bare a0)] => some ((i_BareRound_c a0), [.one (.s .bare (i_BareRound_1 a0)), .one (.i .i64 (i_BareRound_2 a0))])
  | _ => none

noncomputable def E_i_BareRound (N : Nat) (a0 : List Bare) : Option Ans :=
  (bif (i_copyBares_c a0) then (iter (σ := (Int × (Int × (Int × ((List Bare) × ((List Bare) × Unit)))))) N (fun r2 s3 => (bif (ilt s3.2.2.1 s3.2.1) then (bif (inb s3.2.2.1 (ln s3.2.2.2.1)) then (iter (σ := (Int × (Int × (Int × (Int × (Int × (Int × ((List Bare) × ((List Bare) × Unit))))))))) N (fun r4 s5 => (bif (ilt s5.2.2.2.2.2.1 s5.2.2.2.2.1) then (bif (inb s5.2.1 (ln s5.2.2.2.2.2.2.2.1)) then (bif (i_BareStep_c (ix s5.2.2.2.2.2.2.2.1 s5.2.1 (Ty.dflt .bare)) s5.2.2.2.2.2.1) then (bif (inb s5.2.1 (ln s5.2.2.2.2.2.2.2.1)) then (share (up s5.2.2.2.2.2.2.2.1 s5.2.1 (i_BareStep_1 (ix s5.2.2.2.2.2.2.2.1 s5.2.1 (Ty.dflt .bare)) s5.2.2.2.2.2.1)) (fun x6 => (bif (i_BareStep_2 (ix s5.2.2.2.2.2.2.2.1 s5.2.1 (Ty.dflt .bare)) s5.2.2.2.2.2.1) then (r4 ((wadd .i64 s5.1 1), (s5.2.1, (s5.2.2.1, (s5.2.2.2.1, (s5.2.2.2.2.1, ((wadd .i64 s5.2.2.2.2.2.1 1), (s5.2.2.2.2.2.2.1, (x6, ()))))))))) else (r4 (s5.1, (s5.2.1, (s5.2.2.1, (s5.2.2.2.1, (s5.2.2.2.2.1, ((wadd .i64 s5.2.2.2.2.2.1 1), (s5.2.2.2.2.2.2.1, (x6, ())))))))))))) else none) else none) else none) else (r2 (s5.1, (s5.2.2.1, ((wadd .i64 s5.2.2.2.1 1), (s5.2.2.2.2.2.2.1, (s5.2.2.2.2.2.2.2.1, ())))))))) (s3.1, (s3.2.2.1, (s3.2.1, (s3.2.2.1, ((ln (ix s3.2.2.2.1 s3.2.2.1 (Ty.dflt .bare)).Guests), (0, (s3.2.2.2.1, (s3.2.2.2.2.1, ()))))))))) else none) else (some [(.one (.s .bare s3.2.2.2.2.1)), (.one (.i .i64 s3.1))]))) (0, ((ln (i_copyBares a0)), (0, (a0, ((i_copyBares a0), ())))))) else none)

def tms_i_BareRound : FuncId → Nat → Option Tmpl := tmsOf [(8, 0, { n := 46, tm := [(0, .sl 0 []), (4, .sl 1 []), (5, .i .i64), (13, .i .i64), (14, .i .i64)], lo := [], ro := [(0, .bare, false), (1, .bare, true)] }), (8, 2, { n := 46, tm := [(0, .sl 0 []), (4, .sl 1 []), (5, .i .i64), (6, .i .i64), (13, .i .i64), (14, .i .i64), (22, .i .i64), (23, .i .i64)], lo := [], ro := [(0, .bare, false), (1, .bare, true)] })]

theorem nf_i_BareRound (N : Nat) (a0 : List Bare) : evalFn (cfgQ (aget ctrO1) (aget mctC) (aget pct0) (aget tct0)) tms_i_BareRound N 12 8 [.one (.s .bare a0)] = E_i_BareRound N a0 := by kernel_rfl

theorem law_i_BareRound (a0 : List Bare) (hb : AllB big [.one (.s .bare a0)]) (hc : (i_BareRound_c a0) = true) : ∃ N, E_i_BareRound N a0 = some [.one (.s .bare (i_BareRound_1 a0)), .one (.i .i64 (i_BareRound_2 a0))] := by
  have hs := pc_iff.1 hc
  have hl := sm_big hs.1
  refine ⟨NN, ?_⟩
  have hNN : ∀ {n : Nat}, n ≤ big → n < NN := fun h => NN_lt h
  generalize NN = N at hNN ⊢
  unfold E_i_BareRound
  refine must (pc_true hs) ?_
  refine (iter_to a0.length (fun i (t : List Bare × Int) => (t.2, (ln a0, ((i : Int), (a0, (t.1, ())))))) _ (fun i t => RI a0 i t.1) (fun i t => resR t.1 i t.2) (fun i t rec hi hI hr => ?_) (fun t rec hI => ?_) N 0 (a0, 0) ⟨rfl, hs, fun _ _ => rfl⟩ (Nat.zero_le _) (hNN hl.1)).trans (by simp [resR])
  · obtain ⟨l, c⟩ := t
    have hil : i < l.length := by rw [hI.len]; exact hi
    have he : l[i] = a0[i] := by
      have := hI.eq i (Nat.le_refl _)
      rw [List.getElem?_eq_getElem hil, List.getElem?_eq_getElem hi] at this
      exact Option.some.inj this
    have hb : SmB l[i] := hI.sm.2 _ (List.getElem_mem hil)
    have hg : l[i].Guests.length ≤ big := (sm_big hb.2.1.1).1
    refine must (ilt_ln hi) (must (inb_ln hi) ?_)
    rw [show ix a0 (i : Int) (Ty.dflt .bare) = l[i] from (ix_ln hi _).trans he.symm]
    refine (iter_to l[i].Guests.length (fun j (t : List Bare × Int) => (t.2, ((i : Int), (ln a0, ((i : Int), (ln l[i].Guests, ((j : Int), (a0, (t.1, ())))))))))
      _ (fun j t => RJ l i t.1) (fun j t => rec ((rb (l[i].Guests.length - j) j (ix t.1 (i : Int) (Ty.dflt .bare)) t.2).2, (ln a0, (((i + 1 : Nat) : Int), (a0, (up l (i : Int) (rb (l[i].Guests.length - j) j (ix t.1 (i : Int) (Ty.dflt .bare)) t.2).1, ()))))))
      (fun j t rec1 hj hJ hr1 => ?_) (fun t rec1 hJ => ?_) N 0 (l, c) ⟨rfl, by rw [ix_ln hil]; exact hb, fun _ => rfl⟩ (Nat.zero_le _) (hNN hg)).trans ?_
    · obtain ⟨l', d⟩ := t
      have hil' : i < l'.length := by rw [hJ.len]; exact hil
      refine must (ilt_ln hj) (must (inb_ln hil') (must (pc_true hJ.sm) (must (inb_ln hil') (shr ?_))))
      have hn : RJ l i (up l' (i : Int) (bareStep (ix l' (i : Int) (Ty.dflt .bare)) (j : Int))) := hJ.next hil _ (smB_step hJ.sm)
      have e : l[i].Guests.length - j = (l[i].Guests.length - (j + 1)) + 1 := by omega
      have q := hr1 (up l' (i : Int) (bareStep (ix l' (i : Int) (Ty.dflt .bare)) (j : Int)), bif canStep (ix l' (i : Int) (Ty.dflt .bare)) (j : Int) then wadd .i64 d 1 else d) hn
      simp only [ix_up hil'] at q
      rw [e]
      simp only [rb, wadd_up hj hg]
      rw [← q]
      show (bif canStep (ix l' (i : Int) (Ty.dflt .bare)) (j : Int) then _ else _) = _
      cases canStep (ix l' (i : Int) (Ty.dflt .bare)) (j : Int) <;> rfl
    · obtain ⟨l', d⟩ := t
      have hil' : i < l'.length := by rw [hJ.len]; exact hil
      refine mustF ilt_end ?_
      simp only [Nat.sub_self, rb, wadd_up hi hl.1]
      rw [← hJ.up, up_self hil']
    · simp only [Nat.sub_zero, ix_ln hil]
      exact (hr (up l (i : Int) (rb l[i].Guests.length 0 l[i] c).1, (rb l[i].Guests.length 0 l[i] c).2) (hI.up _ (smB_rb _ _ _ _ hb))).trans (resR_step hil c)
  · obtain ⟨l, c⟩ := t
    refine mustF ilt_end ?_
    rw [← hI.len, resR_end]
theorem holds_i_BareRound : Holds Tryz.prog 8 run_i_BareRound := by
  refine holds_of_eval (engQ_ok ctrO1_ok mctC_ok pct0_ok tct0_ok) (fn_ok (by kernel_rfl)) ?_
  intro avs rs hr h
  have hb := allB_of_rep hr
  unfold run_i_BareRound at h
  split at h
  · rename_i a0
    obtain ⟨hc, rfl⟩ := some_pair h
    obtain ⟨N, hN⟩ := law_i_BareRound a0 hb hc
    exact ⟨tms_i_BareRound, N, 12, (nf_i_BareRound N a0).trans hN⟩
  · cases h

@[simp, reducible] noncomputable def s_BareRound_c (l : List Bare) : Bool := pc (SmBs l)
@[simp, reducible] def s_BareRound_1 (l : List Bare) : List Bare := (rnd l 0).1
@[simp, reducible] def s_BareRound_2 (l : List Bare) : Int := (rnd l 0).2
noncomputable def run_s_BareRound : List AV → Option (Bool × List AV)
  | [.one (.s .bare a0)] => some ((s_BareRound_c a0), [.one (.s .bare (s_BareRound_1 a0)), .one (.i .i64 (s_BareRound_2 a0))])
  | _ => none

noncomputable def E_s_BareRound (N : Nat) (a0 : List Bare) : Option Ans :=
  (bif (s_l28Bares_c a0) then (iter (σ := (Int × (Int × ((List Bare) × Unit)))) N (fun r2 s3 => (bif (ilt s3.2.1 (ln s3.2.2.1)) then (bif (inb s3.2.1 (ln s3.2.2.1)) then (iter (σ := (Int × (Int × (Int × (Int × ((List Bare) × Unit)))))) N (fun r4 s5 => (bif (ilt s5.2.2.2.1 s5.2.2.1) then (bif (inb s5.2.1 (ln s5.2.2.2.2.1)) then (bif (s_BareStep_c (ix s5.2.2.2.2.1 s5.2.1 (Ty.dflt .bare)) s5.2.2.2.1) then (bif (inb s5.2.1 (ln s5.2.2.2.2.1)) then (share (up s5.2.2.2.2.1 s5.2.1 (s_BareStep_1 (ix s5.2.2.2.2.1 s5.2.1 (Ty.dflt .bare)) s5.2.2.2.1)) (fun x6 => (bif (s_BareStep_2 (ix s5.2.2.2.2.1 s5.2.1 (Ty.dflt .bare)) s5.2.2.2.1) then (r4 ((wadd .i64 s5.1 1), (s5.2.1, (s5.2.2.1, ((wadd .i64 s5.2.2.2.1 1), (x6, ())))))) else (r4 (s5.1, (s5.2.1, (s5.2.2.1, ((wadd .i64 s5.2.2.2.1 1), (x6, ()))))))))) else none) else none) else none) else (r2 (s5.1, ((wadd .i64 s5.2.1 1), (s5.2.2.2.2.1, ())))))) (s3.1, (s3.2.1, ((ln (ix s3.2.2.1 s3.2.1 (Ty.dflt .bare)).Guests), (0, (s3.2.2.1, ())))))) else none) else (some [(.one (.s .bare s3.2.2.1)), (.one (.i .i64 s3.1))]))) (0, (0, ((s_l28Bares a0), ())))) else none)

def tms_s_BareRound : FuncId → Nat → Option Tmpl := tmsOf [(6, 0, { n := 47, tm := [(0, .sl 0 []), (4, .i .i64), (5, .i .i64)], lo := [], ro := [(0, .bare, true)] }), (6, 2, { n := 47, tm := [(0, .sl 0 []), (4, .i .i64), (5, .i .i64), (6, .i .i64), (7, .i .i64)], lo := [], ro := [(0, .bare, true)] })]

theorem nf_s_BareRound (N : Nat) (a0 : List Bare) : evalFn (cfgQ (aget ctrO1) (aget mctC) (aget pct0) (aget tct0)) tms_s_BareRound N 12 6 [.one (.s .bare a0)] = E_s_BareRound N a0 := by kernel_rfl

theorem law_s_BareRound (a0 : List Bare) (hb : AllB big [.one (.s .bare a0)]) (hc : (s_BareRound_c a0) = true) : ∃ N, E_s_BareRound N a0 = some [.one (.s .bare (s_BareRound_1 a0)), .one (.i .i64 (s_BareRound_2 a0))] := by
  have hs := pc_iff.1 hc
  have hl := sm_big hs.1
  refine ⟨NN, ?_⟩
  have hNN : ∀ {n : Nat}, n ≤ big → n < NN := fun h => NN_lt h
  generalize NN = N at hNN ⊢
  unfold E_s_BareRound
  refine must (pc_true hs) ?_
  refine (iter_to a0.length (fun i (t : List Bare × Int) => (t.2, ((i : Int), (t.1, ())))) _ (fun i t => RI a0 i t.1) (fun i t => resR t.1 i t.2) (fun i t rec hi hI hr => ?_) (fun t rec hI => ?_) N 0 (a0, 0) ⟨rfl, hs, fun _ _ => rfl⟩ (Nat.zero_le _) (hNN hl.1)).trans (by simp [resR])
  · obtain ⟨l, c⟩ := t
    have hil : i < l.length := by rw [hI.len]; exact hi
    have hb : SmB l[i] := hI.sm.2 _ (List.getElem_mem hil)
    have hg : l[i].Guests.length ≤ big := (sm_big hb.2.1.1).1
    refine must (ilt_ln hil) (must (inb_ln hil) ?_)
    simp only [ix_ln hil]
    refine (iter_to l[i].Guests.length (fun j (t : List Bare × Int) => (t.2, ((i : Int), (ln l[i].Guests, ((j : Int), (t.1, ()))))))
      _ (fun j t => RJ l i t.1) (fun j t => rec ((rb (l[i].Guests.length - j) j (ix t.1 (i : Int) (Ty.dflt .bare)) t.2).2, (((i + 1 : Nat) : Int), (up l (i : Int) (rb (l[i].Guests.length - j) j (ix t.1 (i : Int) (Ty.dflt .bare)) t.2).1, ()))))
      (fun j t rec1 hj hJ hr1 => ?_) (fun t rec1 hJ => ?_) N 0 (l, c) ⟨rfl, by rw [ix_ln hil]; exact hb, fun _ => rfl⟩ (Nat.zero_le _) (hNN hg)).trans ?_
    · obtain ⟨l', d⟩ := t
      have hil' : i < l'.length := by rw [hJ.len]; exact hil
      refine must (ilt_ln hj) (must (inb_ln hil') (must (pc_true hJ.sm) (must (inb_ln hil') (shr ?_))))
      have hn : RJ l i (up l' (i : Int) (bareStep (ix l' (i : Int) (Ty.dflt .bare)) (j : Int))) := hJ.next hil _ (smB_step hJ.sm)
      have e : l[i].Guests.length - j = (l[i].Guests.length - (j + 1)) + 1 := by omega
      have q := hr1 (up l' (i : Int) (bareStep (ix l' (i : Int) (Ty.dflt .bare)) (j : Int)), bif canStep (ix l' (i : Int) (Ty.dflt .bare)) (j : Int) then wadd .i64 d 1 else d) hn
      simp only [ix_up hil'] at q
      rw [e]
      simp only [rb, wadd_up hj hg]
      rw [← q]
      show (bif canStep (ix l' (i : Int) (Ty.dflt .bare)) (j : Int) then _ else _) = _
      cases canStep (ix l' (i : Int) (Ty.dflt .bare)) (j : Int) <;> rfl
    · obtain ⟨l', d⟩ := t
      have hil' : i < l'.length := by rw [hJ.len]; exact hil
      refine mustF ilt_end ?_
      simp only [Nat.sub_self, rb, wadd_up hi hl.1]
      rw [← hJ.up, up_self hil']
    · simp only [Nat.sub_zero, ix_ln hil]
      exact (hr (up l (i : Int) (rb l[i].Guests.length 0 l[i] c).1, (rb l[i].Guests.length 0 l[i] c).2) (hI.up _ (smB_rb _ _ _ _ hb))).trans (resR_step hil c)
  · obtain ⟨l, c⟩ := t
    have e : (a0.length : Nat) = l.length := hI.len.symm
    rw [e]
    refine mustF ilt_end ?_
    rw [resR_end]
theorem holds_s_BareRound : Holds Tryz.prog 6 run_s_BareRound := by
  refine holds_of_eval (engQ_ok ctrO1_ok mctC_ok pct0_ok tct0_ok) (fn_ok (by kernel_rfl)) ?_
  intro avs rs hr h
  have hb := allB_of_rep hr
  unfold run_s_BareRound at h
  split at h
  · rename_i a0
    obtain ⟨hc, rfl⟩ := some_pair h
    obtain ⟨N, hN⟩ := law_s_BareRound a0 hb hc
    exact ⟨tms_s_BareRound, N, 12, (nf_s_BareRound N a0).trans hN⟩
  · cases h

noncomputable def ctrO2 : Ctrs := [(8, run_i_BareRound), (6, run_s_BareRound)] ++ ctrO1

theorem ctrO2_ok : ∀ f run, aget ctrO2 f = some run → Holds Tryz.prog f run := ctr_more ctrO1_ok (by
  intro x hx
  simp only [List.mem_cons, List.not_mem_nil, or_false] at hx
  rcases hx with rfl | rfl
  · exact holds_i_BareRound
  · exact holds_s_BareRound)


def nrun : Nat → List Bare → Int → List Bare × Int
  | 0, l, c => (l, c)
  | n + 1, l, c => nrun n (rnd l 0).1 (wadd .i64 c (rnd l 0).2)
def resN (n : Nat) (l : List Bare) (c : Int) : Option Ans := some [AV.one (.s .bare (nrun n l c).1), AV.one (.i .i64 (nrun n l c).2)]
@[simp, reducible] noncomputable def i_BareRun_c (l : List Bare) (_ : Int) : Bool := pc (SmBs l)
@[simp, reducible] def i_BareRun_1 (l : List Bare) (r : Int) : List Bare := (nrun (brought r 0 40).toNat l 0).1
@[simp, reducible] def i_BareRun_2 (l : List Bare) (r : Int) : Int := (nrun (brought r 0 40).toNat l 0).2
noncomputable def run_i_BareRun : List AV → Option (Bool × List AV)
  | [.one (.s .bare a0), .one (.i .i64 a1)] => some ((i_BareRun_c a0 a1), [.one (.s .bare (i_BareRun_1 a0 a1)), .one (.i .i64 (i_BareRun_2 a0 a1))])
  | _ => none

noncomputable def E_i_BareRun (N : Nat) (a0 : List Bare) (a1 : Int) : Option Ans :=
  (bif (i_copyBares_c a0) then (iter (σ := (Int × (Int × (Int × ((List Bare) × Unit))))) N (fun r3 s4 => (bif (i_Brought_c s4.1 0 40) then (bif (ilt s4.2.2.1 (i_Brought s4.1 0 40)) then (bif (i_BareRound_c s4.2.2.2.1) then (r3 (s4.1, ((wadd .i64 s4.2.1 (i_BareRound_2 s4.2.2.2.1)), ((wadd .i64 s4.2.2.1 1), ((i_BareRound_1 s4.2.2.2.1), ()))))) else none) else (some [(.one (.s .bare s4.2.2.2.1)), (.one (.i .i64 s4.2.1))])) else none)) (a1, (0, (0, ((i_copyBares a0), ()))))) else none)

def tms_i_BareRun : FuncId → Nat → Option Tmpl := tmsOf [(13, 0, { n := 30, tm := [(1, .i .i64), (6, .sl 0 []), (7, .i .i64), (8, .i .i64)], lo := [], ro := [(0, .bare, true)] })]

theorem nf_i_BareRun (N : Nat) (a0 : List Bare) (a1 : Int) : evalFn (cfgQ (aget ctrO2) (aget mctC) (aget pct0) (aget tct0)) tms_i_BareRun N 12 13 [.one (.s .bare a0), .one (.i .i64 a1)] = E_i_BareRun N a0 a1 := by kernel_rfl

theorem law_i_BareRun (a0 : List Bare) (a1 : Int) (hb : AllB big [.one (.s .bare a0), .one (.i .i64 a1)]) (hc : (i_BareRun_c a0 a1) = true) : ∃ N, E_i_BareRun N a0 a1 = some [.one (.s .bare (i_BareRun_1 a0 a1)), .one (.i .i64 (i_BareRun_2 a0 a1))] := by
  have hs := pc_iff.1 hc
  have hb := brought40 a1
  refine ⟨NN, ?_⟩
  have hNN : ∀ {n : Nat}, n ≤ big → n < NN := fun h => NN_lt h
  generalize NN = N at hNN ⊢
  unfold E_i_BareRun
  refine must (pc_true hs) ?_
  refine iter_to (brought a1 0 40).toNat (fun i (t : List Bare × Int) => (a1, (t.2, ((i : Int), (t.1, ()))))) _ (fun i t => SmBs t.1) (fun i t => resN ((brought a1 0 40).toNat - i) t.1 t.2) (fun i t rec hi hI hr => ?_) (fun t rec hI => ?_) N 0 (a0, 0) hs (Nat.zero_le _) (hNN (by rw [big_val]; omega))
  · obtain ⟨l, c⟩ := t
    refine must rfl (must (decide_eq_true (by show (i : Int) < brought a1 0 40; omega)) (must (pc_true hI) ?_))
    have e : (brought a1 0 40).toNat - i = ((brought a1 0 40).toNat - (i + 1)) + 1 := by omega
    simp only [wadd_up hi (by rw [big_val]; omega)]
    rw [e]
    exact hr ((rnd l 0).1, wadd .i64 c (rnd l 0).2) (smBs_rnd hI 0)
  · obtain ⟨l, c⟩ := t
    refine must rfl (mustF (decide_eq_false (by show ¬ (((brought a1 0 40).toNat : Nat) : Int) < brought a1 0 40; omega)) ?_)
    simp [resN, nrun]
theorem holds_i_BareRun : Holds Tryz.prog 13 run_i_BareRun := by
  refine holds_of_eval (engQ_ok ctrO2_ok mctC_ok pct0_ok tct0_ok) (fn_ok (by kernel_rfl)) ?_
  intro avs rs hr h
  have hb := allB_of_rep hr
  unfold run_i_BareRun at h
  split at h
  · rename_i a0 a1
    obtain ⟨hc, rfl⟩ := some_pair h
    obtain ⟨N, hN⟩ := law_i_BareRun a0 a1 hb hc
    exact ⟨tms_i_BareRun, N, 12, (nf_i_BareRun N a0 a1).trans hN⟩
  · cases h

@[simp, reducible] noncomputable def s_BareRun_c (l : List Bare) (_ : Int) : Bool := pc (SmBs l)
@[simp, reducible] def s_BareRun_1 (l : List Bare) (r : Int) : List Bare := (nrun (brought r 0 40).toNat l 0).1
@[simp, reducible] def s_BareRun_2 (l : List Bare) (r : Int) : Int := (nrun (brought r 0 40).toNat l 0).2
noncomputable def run_s_BareRun : List AV → Option (Bool × List AV)
  | [.one (.s .bare a0), .one (.i .i64 a1)] => some ((s_BareRun_c a0 a1), [.one (.s .bare (s_BareRun_1 a0 a1)), .one (.i .i64 (s_BareRun_2 a0 a1))])
  | _ => none

noncomputable def E_s_BareRun (N : Nat) (a0 : List Bare) (a1 : Int) : Option Ans :=
  (bif (s_l28Bares_c a0) then (bif (s_Brought_c a1 0 40) then (iter (σ := (Int × (Int × ((List Bare) × Unit)))) N (fun r3 s4 => (bif (igt s4.2.1 0) then (bif (s_BareRound_c s4.2.2.1) then (r3 ((wadd .i64 s4.1 (s_BareRound_2 s4.2.2.1)), ((wsub .i64 s4.2.1 1), ((s_BareRound_1 s4.2.2.1), ())))) else none) else (some [(.one (.s .bare s4.2.2.1)), (.one (.i .i64 s4.1))]))) (0, ((s_Brought a1 0 40), ((s_l28Bares a0), ())))) else none) else none)

def tms_s_BareRun : FuncId → Nat → Option Tmpl := tmsOf [(12, 0, { n := 27, tm := [(0, .sl 0 []), (6, .i .i64), (7, .i .i64)], lo := [], ro := [(0, .bare, true)] })]

theorem nf_s_BareRun (N : Nat) (a0 : List Bare) (a1 : Int) : evalFn (cfgQ (aget ctrO2) (aget mctC) (aget pct0) (aget tct0)) tms_s_BareRun N 12 12 [.one (.s .bare a0), .one (.i .i64 a1)] = E_s_BareRun N a0 a1 := by kernel_rfl

theorem law_s_BareRun (a0 : List Bare) (a1 : Int) (hb : AllB big [.one (.s .bare a0), .one (.i .i64 a1)]) (hc : (s_BareRun_c a0 a1) = true) : ∃ N, E_s_BareRun N a0 a1 = some [.one (.s .bare (s_BareRun_1 a0 a1)), .one (.i .i64 (s_BareRun_2 a0 a1))] := by
  have hs := pc_iff.1 hc
  have hb := brought40 a1
  refine ⟨NN, ?_⟩
  have hNN : ∀ {n : Nat}, n ≤ big → n < NN := fun h => NN_lt h
  generalize NN = N at hNN ⊢
  unfold E_s_BareRun
  refine must (pc_true hs) (must rfl ?_)
  have e0 : s_Brought a1 0 40 = (((brought a1 0 40).toNat - 0 : Nat) : Int) := by show brought a1 0 40 = _; omega
  rw [e0]
  refine iter_to (brought a1 0 40).toNat (fun i (t : List Bare × Int) => (t.2, ((((brought a1 0 40).toNat - i : Nat) : Int), (t.1, ())))) _ (fun i t => SmBs t.1) (fun i t => resN ((brought a1 0 40).toNat - i) t.1 t.2) (fun i t rec hi hI hr => ?_) (fun t rec hI => ?_) N 0 (a0, 0) hs (Nat.zero_le _) (hNN (by rw [big_val]; omega))
  · obtain ⟨l, c⟩ := t
    refine must (decide_eq_true (by show (((brought a1 0 40).toNat - i : Nat) : Int) > 0; omega)) (must (pc_true hI) ?_)
    have e : (brought a1 0 40).toNat - i = ((brought a1 0 40).toNat - (i + 1)) + 1 := by omega
    have e2 : wsub .i64 (((brought a1 0 40).toNat - i : Nat) : Int) 1 = (((brought a1 0 40).toNat - (i + 1) : Nat) : Int) := by rw [wsub_id (by omega) (by omega)]; omega
    simp only [e2]
    rw [e]
    exact hr ((rnd l 0).1, wadd .i64 c (rnd l 0).2) (smBs_rnd hI 0)
  · obtain ⟨l, c⟩ := t
    refine mustF (decide_eq_false (by show ¬ (((brought a1 0 40).toNat - (brought a1 0 40).toNat : Nat) : Int) > 0; omega)) ?_
    simp [resN, nrun]
theorem holds_s_BareRun : Holds Tryz.prog 12 run_s_BareRun := by
  refine holds_of_eval (engQ_ok ctrO2_ok mctC_ok pct0_ok tct0_ok) (fn_ok (by kernel_rfl)) ?_
  intro avs rs hr h
  have hb := allB_of_rep hr
  unfold run_s_BareRun at h
  split at h
  · rename_i a0 a1
    obtain ⟨hc, rfl⟩ := some_pair h
    obtain ⟨N, hN⟩ := law_s_BareRun a0 a1 hb hc
    exact ⟨tms_s_BareRun, N, 12, (nf_s_BareRun N a0 a1).trans hN⟩
  · cases h

noncomputable def ctrO3 : Ctrs := [(13, run_i_BareRun), (12, run_s_BareRun)] ++ ctrO2

theorem ctrO3_ok : ∀ f run, aget ctrO3 f = some run → Holds Tryz.prog f run := ctr_more ctrO2_ok (by
  intro x hx
  simp only [List.mem_cons, List.not_mem_nil, or_false] at hx
  rcases hx with rfl | rfl
  · exact holds_i_BareRun
  · exact holds_s_BareRun)

end Go.Proofs.YtdbdlamkkkdjhaaGreat.E
