/- What is proved here: a machine that is cleaned weighs no more; a host that is numbered reads so. -/
import Derived.Test.YtaccllfkapkahaaGreatA15
import Derived.KernelRfl
namespace Go.Proofs.YtaccllfkapkahaaGreat.E
open Go
set_option maxRecDepth 100000
set_option linter.unusedVariables false
set_option linter.unusedSimpArgs false
set_option linter.unusedSectionVars false

theorem mcL_const {α : Type} {m : α → Int} {c : Int} (h : ∀ x, m x = c) : ∀ l : List α, mcL m l = c * l.length
  | [] => by simp [mcL]
  | x :: l => by
    simp only [mcL, mcL_const h l, h x, List.length_cons]
    rw [Int.natCast_add, Int.mul_add]
    omega
theorem mcL_upC {α : Type} {m : α → Int} {c : Int} (h : ∀ x, m x = c) (l : List α) (i : Int) (x : α) : mcL m (up l i x) = mcL m l := by rw [mcL_const h, mcL_const h, up_len]
theorem mKept_forget (k : Kept) (p : Int) : mKept (forgetAt k p) = mKept k := by
  unfold forgetAt
  cases keptHas k p
  · rfl
  · show mcL mBool (up k.Known p false) + mcL mSlot (up k.Slots p noSlot) = _
    rw [mcL_upC (m := mBool) (c := 1) (fun _ => rfl), mcL_upC (m := mSlot) (c := 2) (fun _ => rfl)]
    rfl
theorem mKept_all : ∀ (l : List Int) (k : Kept), mKept (forgetAll k l) = mKept k
  | [], _ => rfl
  | p :: l, k => (mKept_all l (forgetAt k p)).trans (mKept_forget k p)
theorem mcL_tabN (gs : List Guest) (p : Int) : ∀ (n : Nat) (ts : List Kept), n ≤ ts.length → mcL mKept (tabN gs p n ts) ≤ mcL mKept ts
  | 0, _, _ => Int.le_refl _
  | n + 1, ts, hn => by
    refine Int.le_trans ?_ (mcL_tabN gs p n ts (by omega))
    exact mcL_up _ n _ (Ty.dflt .kept) (by rw [tabN_len]; omega) (Int.le_of_eq (mKept_all _ _))
theorem mEntry_flushed (l : List Entry) (p : Int) : mcL mEntry (flushed l p) ≤ mcL mEntry l := by
  rw [mcL_const (m := mEntry) (c := 4) (fun _ => rfl) (flushed l p), mcL_const (m := mEntry) (c := 4) (fun _ => rfl) l]
  have := flushed_len l p
  omega
theorem mMon_undirt (x : Mon) (p : Int) : mMon (undirt x p) = mMon x := by
  unfold mMon undirt
  simp only [mcL_upC (m := mBool) (c := 1) (fun _ => rfl)]
theorem mMon_slot (x : Mon) (p : Int) (s : Slot) : mMon { tabM x p x.Tables.length with Outer := up x.Outer p s } ≤ mMon x := by
  unfold mMon tabM
  simp only [mcL_upC (m := mSlot) (c := 2) (fun _ => rfl)]
  have := mcL_tabN x.Guests p x.Tables.length x.Tables (Nat.le_refl _)
  omega
theorem mHost_undirt {h : Host} {m p : Int} (hm : hasB m (ln h.Mons) = true) : mHost (undirtH h m p) ≤ mHost h := by
  have := mcL_upB (m := mMon) (x := undirt (ix h.Mons m (Ty.dflt .mon)) p) (Ty.dflt .mon) hm (Int.le_of_eq (mMon_undirt _ _))
  unfold mHost undirtH
  simp only
  omega
theorem mHost_slotted {h : Host} {m p : Int} {s : Slot} (hm : hasB m (ln h.Mons) = true) : mHost (slotted h m p s) ≤ mHost h := by
  have h1 := mcL_upB (m := mMon) (x := { tabM (ix h.Mons m (Ty.dflt .mon)) p (ix h.Mons m (Ty.dflt .mon)).Tables.length with Outer := up (ix h.Mons m (Ty.dflt .mon)).Outer p s }) (Ty.dflt .mon) hm (mMon_slot _ _ _)
  dsimp only at h1
  have h2 := mEntry_flushed h.Buffer (ix (ix h.Mons m (Ty.dflt .mon)).Outer p (Ty.dflt .slot)).Page
  have h3 := mEntry_flushed h.IoBuffer (ix (ix h.Mons m (Ty.dflt .mon)).Outer p (Ty.dflt .slot)).Page
  unfold slotted
  cases ine (ix (ix h.Mons m (Ty.dflt .mon)).Outer p (Ty.dflt .slot)).Page (-1) <;> simp only [cT, cF, mHost] <;> omega
theorem mHost_guard {h : Host} {m p : Int} : mHost (guard1 h m p) ≤ mHost h := by
  unfold guard1
  cases hp : pageHas h m p
  · exact Int.le_refl _
  · have P := pageHas_at hp
    cases slotEq (ix (ix h.Mons m (Ty.dflt .mon)).Outer p (Ty.dflt .slot)) noSlot
    · exact Int.le_trans (mHost_slotted (undirt_has P.hm)) (mHost_undirt P.hm)
    · exact mHost_undirt P.hm
theorem mHost_go (m : Int) : ∀ (n i : Nat) (h : Host), mHost (cleanGo m n i h) ≤ mHost h
  | 0, _, _ => Int.le_refl _
  | n + 1, i, h => Int.le_trans (mHost_go m n (i + 1) _) mHost_guard
theorem mHost_clean (h : Host) (m : Int) : mHost (cleaned h m) ≤ mHost h := by
  unfold cleaned
  cases monHas h m
  · exact Int.le_refl _
  · exact mHost_go m 8 0 h
theorem host_bound {h : Host} {n : Int} (h0 : 0 ≤ n) (h1 : n ≤ 1048576) (hp : 0 ≤ l_szHost h n) : mHost h ≤ 15728640 := by
  obtain ⟨hle, hw⟩ := W_Host h n h0 h1
  have hw := hw hp
  omega

/-! A host that is numbered. -/
section
variable {α : Type} {f : α → Int → α} {nx : α → Int → Int} {m : α → Int}
structure ResK (f : α → Int → α) (nx : α → Int → Int) (m : α → Int) (l : List α) (k : Int) : Prop where
  c : 0 ≤ k ∧ k + mcL m l ≤ mkB
  hc : mkL f nx (mkL f nx l k) k = mkL f nx l k ∧ 0 ≤ k ∧ k + mcL m (mkL f nx l k) ≤ mkB
  e : enL nx (mkL f nx l k) k = enL nx l k
  nn : 0 ≤ enL nx l k
  v : enL nx l k = k + mcL m l
theorem resK (h : Mk f nx m) (l : List α) (k : Int) (hk : 0 ≤ k) (hl : k + mcL m l ≤ 1000000000000) : ResK f nx m l k := by
  have hB : mkB = 4611686018427387904 := rfl
  have hn := mcL_nn h.nn l
  refine ⟨⟨hk, by omega⟩, ⟨mkL_2 h l k, hk, by rw [mkL_m h]; omega⟩, by rw [enL_eq h.nx, enL_eq h.nx, mkL_m h], by rw [enL_eq h.nx]; omega, enL_eq h.nx l k⟩
end
def markedH (h : Host) (k : Int) : Host := ⟨l_markIntSS_1 h.Memory k, l_markMonS_1 h.Mons (l_markIntSS_2 h.Memory k), l_markEntryS_1 h.Buffer (l_markMonS_2 h.Mons (l_markIntSS_2 h.Memory k)), l_markEntryS_1 h.IoBuffer (l_markEntryS_2 h.Buffer (l_markMonS_2 h.Mons (l_markIntSS_2 h.Memory k)))⟩
def endH (h : Host) (k : Int) : Int := l_markEntryS_2 h.IoBuffer (l_markEntryS_2 h.Buffer (l_markMonS_2 h.Mons (l_markIntSS_2 h.Memory k)))
structure HeldH (h : Host) (k : Int) : Prop where
  c1 : l_heldIntSS_c h.Memory k = true
  n1 : ilt (l_heldIntSS h.Memory k) 0 = false
  c2 : l_heldMonS_c h.Mons (l_heldIntSS h.Memory k) = true
  n2 : ilt (l_heldMonS h.Mons (l_heldIntSS h.Memory k)) 0 = false
  c3 : l_heldEntryS_c h.Buffer (l_heldMonS h.Mons (l_heldIntSS h.Memory k)) = true
  n3 : ilt (l_heldEntryS h.Buffer (l_heldMonS h.Mons (l_heldIntSS h.Memory k))) 0 = false
  c4 : l_heldEntryS_c h.IoBuffer (l_heldEntryS h.Buffer (l_heldMonS h.Mons (l_heldIntSS h.Memory k))) = true
  n4 : ilt (l_heldEntryS h.IoBuffer (l_heldEntryS h.Buffer (l_heldMonS h.Mons (l_heldIntSS h.Memory k)))) 0 = false
noncomputable def l_heldHost_c (h : Host) (k : Int) : Bool := pc (HeldH h k)
def l_heldHost (h : Host) (k : Int) : Int := l_heldEntryS h.IoBuffer (l_heldEntryS h.Buffer (l_heldMonS h.Mons (l_heldIntSS h.Memory k)))
noncomputable def run_l_heldHost : List AV → Option (Bool × List AV)
  | [.agg [.s (.sl .int) a0_0, .s .mon a0_1, .s .entry a0_2, .s .entry a0_3], .one (.i .i64 a1)] => some ((l_heldHost_c (⟨a0_0, a0_1, a0_2, a0_3⟩ : Host) a1), [.one (.i .i64 (l_heldHost (⟨a0_0, a0_1, a0_2, a0_3⟩ : Host) a1))])
  | _ => none

noncomputable def E_l_heldHost (N : Nat) (a0 : Host) (a1 : Int) : Option Ans :=
  (bif (l_heldIntSS_c a0.Memory a1) then (bif (ilt (l_heldIntSS a0.Memory a1) 0) then (some [(.one (.i .i64 (-1)))]) else (bif (l_heldMonS_c a0.Mons (l_heldIntSS a0.Memory a1)) then (bif (ilt (l_heldMonS a0.Mons (l_heldIntSS a0.Memory a1)) 0) then (some [(.one (.i .i64 (-1)))]) else (bif (l_heldEntryS_c a0.Buffer (l_heldMonS a0.Mons (l_heldIntSS a0.Memory a1))) then (bif (ilt (l_heldEntryS a0.Buffer (l_heldMonS a0.Mons (l_heldIntSS a0.Memory a1))) 0) then (some [(.one (.i .i64 (-1)))]) else (bif (l_heldEntryS_c a0.IoBuffer (l_heldEntryS a0.Buffer (l_heldMonS a0.Mons (l_heldIntSS a0.Memory a1)))) then (bif (ilt (l_heldEntryS a0.IoBuffer (l_heldEntryS a0.Buffer (l_heldMonS a0.Mons (l_heldIntSS a0.Memory a1)))) 0) then (some [(.one (.i .i64 (-1)))]) else (some [(.one (.i .i64 (l_heldEntryS a0.IoBuffer (l_heldEntryS a0.Buffer (l_heldMonS a0.Mons (l_heldIntSS a0.Memory a1))))))])) else none)) else none)) else none)) else none)

theorem nf_l_heldHost (N : Nat) (a0 : Host) (a1 : Int) : evalFn (cfgQ (aget ctrJ11) (aget mctC) (aget pct0) (aget tctJ)) (tmsOf []) N 12 10 [.agg (hostC a0), .one (.i .i64 a1)] = E_l_heldHost N a0 a1 := by kernel_rfl

theorem law_l_heldHost (a0 : Host) (a1 : Int) (hb : AllB big [.agg (hostC a0), .one (.i .i64 a1)]) (hc : (l_heldHost_c a0 a1) = true) : ∃ N, E_l_heldHost N a0 a1 = some [.one (.i .i64 (l_heldHost a0 a1))] := by
  have H := pc_iff.1 hc
  refine ⟨0, ?_⟩
  unfold E_l_heldHost
  exact must H.c1 (mustF H.n1 (must H.c2 (mustF H.n2 (must H.c3 (mustF H.n3 (must H.c4 (mustF H.n4 rfl)))))))
theorem holds_l_heldHost : Holds Tryz.prog 10 run_l_heldHost := by
  refine holds_of_eval (engQ_ok ctrJ11_ok mctC_ok pct0_ok tctJ_ok) (fn_ok (by kernel_rfl)) ?_
  intro avs rs hr h
  have hb := allB_of_rep hr
  unfold run_l_heldHost at h
  split at h
  · rename_i a0_0 a0_1 a0_2 a0_3 a1
    obtain ⟨hc, rfl⟩ := some_pair h
    obtain ⟨N, hN⟩ := law_l_heldHost (⟨a0_0, a0_1, a0_2, a0_3⟩ : Host) a1 hb hc
    exact ⟨tmsOf [], N, 12, (nf_l_heldHost N (⟨a0_0, a0_1, a0_2, a0_3⟩ : Host) a1).trans hN⟩
  · cases h

noncomputable def ctrHH : Ctrs := [(10, run_l_heldHost)] ++ ctrJ11

theorem ctrHH_ok : ∀ f run, aget ctrHH f = some run → Holds Tryz.prog f run := ctr_more ctrJ11_ok (by
  intro x hx
  simp only [List.mem_cons, List.not_mem_nil, or_false] at hx
  rcases hx with rfl
  · exact holds_l_heldHost)

/-- A host that is a result, numbered. -/
structure ResH (h : Host) : Prop where
  c1 : l_markIntSS_c h.Memory 1 = true
  c2 : l_markMonS_c h.Mons (l_markIntSS_2 h.Memory 1) = true
  c3 : l_markEntryS_c h.Buffer (l_markMonS_2 h.Mons (l_markIntSS_2 h.Memory 1)) = true
  c4 : l_markEntryS_c h.IoBuffer (l_markEntryS_2 h.Buffer (l_markMonS_2 h.Mons (l_markIntSS_2 h.Memory 1))) = true
  hc : l_heldHost_c (markedH h 1) 1 = true
  e : l_heldHost (markedH h 1) 1 = endH h 1
  nn : ilt (endH h 1) 0 = false
theorem resH {h : Host} (hb : mHost h ≤ 900000000000) : ResH h := by
  unfold mHost at hb
  have n1 := mcL_nn MkIntS.nn h.Memory
  have n2 := mcL_nn MkMon.nn h.Mons
  have n3 := mcL_nn MkEntry.nn h.Buffer
  have n4 := mcL_nn MkEntry.nn h.IoBuffer
  have R1 := resK MkIntS h.Memory 1 (by omega) (by omega)
  have R2 := resK MkMon h.Mons _ R1.nn (by rw [R1.v]; omega)
  have R3 := resK MkEntry h.Buffer _ R2.nn (by rw [R2.v, R1.v]; omega)
  have R4 := resK MkEntry h.IoBuffer _ R3.nn (by rw [R3.v, R2.v, R1.v]; omega)
  have e1 : l_heldIntSS (markedH h 1).Memory 1 = l_markIntSS_2 h.Memory 1 := R1.e
  have e2 : l_heldMonS (markedH h 1).Mons (l_markIntSS_2 h.Memory 1) = l_markMonS_2 h.Mons (l_markIntSS_2 h.Memory 1) := R2.e
  have e3 : l_heldEntryS (markedH h 1).Buffer (l_markMonS_2 h.Mons (l_markIntSS_2 h.Memory 1)) = l_markEntryS_2 h.Buffer (l_markMonS_2 h.Mons (l_markIntSS_2 h.Memory 1)) := R3.e
  have e4 : l_heldEntryS (markedH h 1).IoBuffer (l_markEntryS_2 h.Buffer (l_markMonS_2 h.Mons (l_markIntSS_2 h.Memory 1))) = endH h 1 := R4.e
  have ee : l_heldHost (markedH h 1) 1 = endH h 1 := by
    unfold l_heldHost
    rw [e1, e2, e3, e4]
  refine ⟨pc_t R1.c, pc_t R2.c, pc_t R3.c, pc_t R4.c, pc_t ⟨pc_t R1.hc, ?_, ?_, ?_, ?_, ?_, ?_, ?_⟩, ee, ilt_nn R4.nn⟩
  · rw [e1]; exact ilt_nn R1.nn
  · rw [e1]; exact pc_t R2.hc
  · rw [e1, e2]; exact ilt_nn R2.nn
  · rw [e1, e2]; exact pc_t R3.hc
  · rw [e1, e2, e3]; exact ilt_nn R3.nn
  · rw [e1, e2, e3]; exact pc_t R4.hc
  · rw [e1, e2, e3, e4]; exact ilt_nn R4.nn
end Go.Proofs.YtaccllfkapkahaaGreat.E
