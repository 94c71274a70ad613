/- What is proved here: a bare step makes a machine no greater than it is, but for what may be seen and put out. -/
import Derived.Test.YtdbdlamkkkdjhaaGreatA12
import Derived.KernelRfl
namespace Go.Proofs.YtdbdlamkkkdjhaaGreat.E
open Go
set_option maxRecDepth 100000
set_option linter.unusedVariables false
set_option linter.unusedSimpArgs false

theorem mcL_int : ∀ l : List Int, mcL mInt l = l.length
  | [] => rfl
  | x :: l => by simp only [mcL, mcL_int l, mInt, List.length_cons]; omega
theorem mcL_up {α : Type} {m : α → Int} : ∀ (l : List α) (k : Nat) (x d : α), k < l.length → m x ≤ m (ix l (k : Int) d) → mcL m (up l (k : Int) x) ≤ mcL m l
  | [], k, x, d, h, _ => by simp at h
  | y :: l, 0, x, d, _, h => by
    have e : ix (y :: l) ((0 : Nat) : Int) d = y := rfl
    rw [e] at h
    have e2 : up (y :: l) ((0 : Nat) : Int) x = x :: l := rfl
    rw [e2]
    simp only [mcL]
    omega
  | y :: l, k + 1, x, d, h, hm => by
    have hk : k < l.length := by simpa using h
    have e : ix (y :: l) ((k + 1 : Nat) : Int) d = ix l (k : Int) d := by rw [ix_ln h, ix_ln hk]; rfl
    have e2 : up (y :: l) ((k + 1 : Nat) : Int) x = y :: up l (k : Int) x := by
      unfold up
      have a1 : ((k + 1 : Nat) : Int).toNat = k + 1 := by omega
      have a2 : ((k : Nat) : Int).toNat = k := by omega
      rw [a1, a2]; rfl
    rw [e] at hm
    rw [e2]
    have := mcL_up l k x d hk hm
    simp only [mcL]
    omega
theorem mcL_upB {α : Type} {m : α → Int} {l : List α} {i : Int} {x : α} (d : α) (h : hasB i (ln l) = true) (hm : m x ≤ m (ix l i d)) : mcL m (up l i x) ≤ mcL m l := by
  obtain ⟨k, rfl, hk⟩ := has_nat (n := l.length) h
  exact mcL_up l k x d hk hm
theorem mcL_mono {α : Type} {m m' : α → Int} (h : ∀ x, m x ≤ m' x) : ∀ l : List α, mcL m l ≤ mcL m' l
  | [] => Int.le_refl _
  | x :: l => by
    have := mcL_mono h l
    have := h x
    simp only [mcL]
    omega
theorem mcL_mul {α : Type} {m m' : α → Int} (k : Int) (h : ∀ x, m x ≤ k * m' x) : ∀ l : List α, mcL m l ≤ k * mcL m' l
  | [] => by simp [mcL]
  | x :: l => by
    have := mcL_mul k h l
    have := h x
    simp only [mcL, Int.mul_add]
    omega

/-- As mGuest and mBare, but what is seen and put out weighs as much as it may become. -/
def gW (x : Guest) : Int := mcL mIns x.Prog + mcL mSlot x.Written + mcL mSlot x.Live + ((max x.Seen.length 40 : Nat) : Int) + 11
def bW (b : Bare) : Int := mcL mIntS b.Memory + mcL gW b.Guests + ((max b.Outs.length 40 : Nat) : Int) + 1
theorem gW_saw (x : Guest) (n : Int) : gW (saw x n) ≤ gW x := by
  unfold saw
  cases h : ilt (ln x.Seen) 40
  · exact Int.le_refl _
  · have h := of_decide_eq_true h
    simp only [ln] at h
    simp only [cT, gW, ap_len, List.length_singleton]
    omega
theorem gW_moved (x : Guest) : gW (movedG x) = gW x := by simp [gW]
theorem gW_held (x : Guest) : gW (held x) = gW x := by unfold held; rw [gW_moved]; rfl
theorem gW_loaded (x : Guest) (v : Int) : gW (loaded x v) ≤ gW x := by
  unfold loaded
  rw [gW_moved]
  exact gW_saw { x with A := v } v
theorem gW_int (x : Guest) : gW (interrupted x) ≤ gW x := by
  unfold interrupted
  cases takesIrq x
  · exact Int.le_refl _
  · exact gW_saw { x with Pending := irqRest x.Pending } _
theorem gW_plainly (x : Guest) : gW (plainly x) ≤ gW x := by
  have hm : gW (movedG x) ≤ gW x := by rw [gW_moved]; exact Int.le_refl _
  unfold plainly
  cases ine (wantOf x) 2
  · cases win x.A 0 99
    · exact hm
    · cases win (insAt x.Prog x.Pc).X 0 99
      · exact hm
      · cases ieq (insAt x.Prog x.Pc).Op 1
        · cases ieq (insAt x.Prog x.Pc).Op 2
          · cases ieq (insAt x.Prog x.Pc).Op 8
            · exact hm
            · cases ieq x.A 0 <;> exact hm
          · exact hm
        · exact hm
  · exact Int.le_refl _
theorem gW_trap1 (x : Guest) (t w : Int) : gW (trap1 x t w) ≤ gW x := by
  unfold trap1
  cases ieq w 6
  · cases (ieq w 5 && hasTrap t 1)
    · cases (ieq w 7 && hasTrap t 2)
      · cases ieq w 7
        · simp [gW_moved]
        · simp [gW_held]
      · exact Int.le_refl _
    · exact Int.le_refl _
  · exact Int.le_refl _
theorem bW_setG {b : Bare} {g : Int} {x : Guest} (h : hasB g (ln b.Guests) = true) (hx : gW x ≤ gW (gAt b g)) : bW (setG b g x) ≤ bW b := by
  have := mcL_upB (Ty.dflt .guest) h (m := gW) (x := x) (by simpa [gAt, h] using hx)
  simp only [setG, bW]
  omega
theorem mem_with (m : List (List Int)) (p c v : Int) : mcL mIntS (withCell m p c v) ≤ mcL mIntS m := by
  unfold withCell
  cases h : memHas m p c
  · exact Int.le_refl _
  · cases win v 0 99
    · exact Int.le_refl _
    · refine mcL_upB [] ((memHas_iff m p c).1 h).1 ?_
      simp only [mIntS, mcL_int, up_len]
      exact Int.le_refl _
theorem putOut_bW (b : Bare) (n : Int) : bW (putOut b n) ≤ bW b := by
  unfold putOut
  cases h : ilt (ln b.Outs) 40
  · exact Int.le_refl _
  · have h := of_decide_eq_true h
    simp only [ln] at h
    simp only [cT, bW, ap_len, List.length_singleton]
    omega
theorem bW_step (b : Bare) (g : Int) : bW (bareStep b g) ≤ bW b := by
  unfold bareStep
  cases hc : canStep b g
  · exact Int.le_refl _
  · have hh : hasB g (ln b.Guests) = true := by
      unfold canStep at hc
      cases h : hasB g (ln b.Guests)
      · rw [h] at hc; cases hc
      · rfl
    simp only [cT, stepped]
    cases ieq (wantOf (gAt b g)) 1
    · cases ieq (wantOf (gAt b g)) 2
      · have hmem : ∀ w, bW (stepMem b g (gAt b g) w) ≤ bW b := by
          intro w
          unfold stepMem
          cases walkOk (gAt b g).Live (addrPage (address (gAt b g))) (needOf w)
          · exact bW_setG hh (Int.le_refl _)
          · cases w
            · exact bW_setG hh (gW_loaded _ _)
            · have h1 := mem_with b.Memory (walkAt (gAt b g).Live (addrPage (address (gAt b g))) (needOf true)) (addrCell (address (gAt b g))) (gAt b g).A
              have h2 := mcL_upB (Ty.dflt .guest) hh (m := gW) (x := movedG (gAt b g)) (by rw [gW_moved]; simp [gAt, hh])
              simp only [cT, setG, bW]
              omega
        cases ieq (wantOf (gAt b g)) 3
        · cases ieq (wantOf (gAt b g)) 4
          · simp only [cF, stepOut]
            cases (bif trap2 (gAt b g).Ctl.Traps (wantOf (gAt b g)) then ieq (wantOf (gAt b g)) 5 else false)
            · exact bW_setG hh (gW_trap1 _ _ _)
            · have e : gAt (putOut b (insAt (gAt b g).Prog (gAt b g).Pc).X) g = gAt b g := by simp [gAt]
              refine Int.le_trans (bW_setG (by simpa using hh) ?_) (putOut_bW b _)
              show _ ≤ gW (gAt (putOut b (insAt (gAt b g).Prog (gAt b g).Pc).X) g)
              rw [e]
              exact gW_trap1 _ _ _
          · exact hmem true
        · exact hmem false
      · exact bW_setG hh (gW_plainly _)
    · exact bW_setG hh (gW_int _)
theorem bW_rb : ∀ (m j : Nat) (b : Bare) (c : Int), bW (rb m j b c).1 ≤ bW b
  | 0, _, _, _ => Int.le_refl _
  | m + 1, j, b, c => Int.le_trans (bW_rb m (j + 1) _ _) (bW_step b _)
theorem bW_rnd : ∀ (l : List Bare) (c : Int), mcL bW (rnd l c).1 ≤ mcL bW l
  | [], _ => Int.le_refl _
  | b :: l, c => by
    have h1 := bW_rb b.Guests.length 0 b c
    have h2 := bW_rnd l (rb b.Guests.length 0 b c).2
    simp only [rnd, mcL]
    omega
theorem bW_nrun : ∀ (n : Nat) (l : List Bare) (c : Int), mcL bW (nrun n l c).1 ≤ mcL bW l
  | 0, _, _ => Int.le_refl _
  | n + 1, l, c => Int.le_trans (bW_nrun n _ _) (bW_rnd l 0)
theorem gW_le (x : Guest) : gW x ≤ 5 * mGuest x := by
  have h1 := mcL_nn MkIns.nn x.Prog
  have h2 := mcL_nn MkSlot.nn x.Written
  have h3 := mcL_nn MkSlot.nn x.Live
  simp only [gW, mGuest, mcL_int]
  omega
theorem gW_ge (x : Guest) : mGuest x ≤ gW x := by
  simp only [gW, mGuest, mcL_int]
  omega
theorem bW_le (b : Bare) : bW b ≤ 45 * mBare b := by
  have h1 := mcL_nn MkIntS.nn b.Memory
  have h2 := mcL_mul 5 gW_le b.Guests
  have h3 := mcL_nn MkGuest.nn b.Guests
  simp only [bW, mBare, mcL_int]
  omega
theorem bW_ge (b : Bare) : mBare b ≤ bW b := by
  have h2 := mcL_mono gW_ge b.Guests
  simp only [bW, mBare, mcL_int]
  omega
/-- What is no greater than lists that were measured is no greater than what may be numbered. -/
theorem bare_bound {a l : List Bare} {n : Int} (h0 : 0 ≤ n) (h1 : n ≤ 1048576) (hp : 0 ≤ l_szBareS a n) (h : mcL bW l ≤ mcL bW a) : mcL mBare l ≤ 1000000000000 := by
  obtain ⟨hle, hw⟩ := W_Bare a n h0 h1
  have hw := hw hp
  have e1 := mcL_mono bW_ge l
  have e2 := mcL_mul 45 bW_le a
  omega
end Go.Proofs.YtdbdlamkkkdjhaaGreat.E
