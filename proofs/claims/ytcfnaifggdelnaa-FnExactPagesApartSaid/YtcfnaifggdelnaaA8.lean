/- What is proved here: what is counted bounds what is numbered; results that are numbered read so. -/
import Derived.Test.YtcfnaifggdelnaaA7
import Derived.KernelRfl
namespace Go.Proofs.Ytcfnaifggdelnaa.E
open Go
set_option maxRecDepth 100000
set_option linter.unusedVariables false
set_option linter.unusedSimpArgs false

/-- What there is to be numbered is no more than fifteen times what was counted. -/
def W (c : Int) (f : Int → Int) : Prop := ∀ n, 0 ≤ n → n ≤ 1048576 → f n ≤ n ∧ (0 ≤ f n → c ≤ 15 * (n - f n))

theorem W_thn {a b : Int} {f g : Int → Int} (hf : W a f) (hg : W b g) : W (a + b) (fun n => thn (f n) g) := by
  intro n h0 h1
  obtain ⟨x, y⟩ := hf n h0 h1
  show thn (f n) g ≤ n ∧ (0 ≤ thn (f n) g → a + b ≤ 15 * (n - thn (f n) g))
  unfold thn
  split
  · exact ⟨by omega, fun h => by omega⟩
  · obtain ⟨z, u⟩ := hg (f n) (by omega) (by omega)
    refine ⟨by omega, fun h => ?_⟩
    have := y (by omega)
    have := u h
    omega
theorem W_id : W 0 (fun n => n) := fun n h0 h1 => by
  show n ≤ n ∧ (0 ≤ n → 0 ≤ 15 * (n - n))
  exact ⟨Int.le_refl _, fun h => by omega⟩
theorem mcL_le {α : Type} {m : α → Int} (h : ∀ x, m x ≤ 15) : ∀ l : List α, mcL m l ≤ 15 * l.length
  | [] => by simp [mcL]
  | x :: l => by
    have := mcL_le h l
    have := h x
    simp only [mcL, List.length_cons]; omega
theorem W_flat {α : Type} {m : α → Int} (h : ∀ x, m x ≤ 15) (l : List α) : W (mcL m l) (szL l) := by
  intro n h0 h1
  have := mcL_le h l
  unfold szL
  split
  · exact ⟨by omega, fun h => by omega⟩
  · exact ⟨by omega, fun h => by omega⟩
theorem W_go {α : Type} {m mc : α → Int} {s : Int} {f : α → Int → Int} (hs : s ≤ 15) (h : ∀ x, W (mc x) (f x)) (hm : ∀ x, m x = mc x + s) : ∀ l : List α, W (mcL m l - 15 * l.length) (szGo f l)
  | [] => fun n h0 h1 => ⟨Int.le_refl _, fun h => by simp [mcL, szGo]⟩
  | x :: l => by
    intro n h0 h1
    obtain ⟨a, b⟩ := h x n h0 h1
    simp only [szGo, mcL, List.length_cons]
    unfold thn
    split
    · exact ⟨by omega, fun h => by omega⟩
    · obtain ⟨c, d⟩ := W_go hs h hm l (f x n) (by omega) (by omega)
      refine ⟨by omega, fun hp => ?_⟩
      have := b (by omega)
      have := d hp
      have := hm x
      omega
theorem W_list {α : Type} {m mc : α → Int} {s : Int} {f : α → Int → Int} (hs : s ≤ 15) (h : ∀ x, W (mc x) (f x)) (hm : ∀ x, m x = mc x + s) (l : List α) : W (mcL m l) (szLL f l) := by
  intro n h0 h1
  unfold szLL thn
  split
  · exact ⟨by omega, fun h => by omega⟩
  · obtain ⟨c, d⟩ := W_go hs h hm l (n - l.length) (by omega) (by omega)
    refine ⟨by omega, fun hp => ?_⟩
    have := d hp
    omega

theorem W_IntS (l : List Int) : W (mIntS l) (l_szIntS l) := W_flat (fun _ => by unfold mInt; decide) l
theorem W_IntSS (l : List (List Int)) : W (mcL mIntS l) (l_szIntSS l) := W_list (s := 0) (by decide) W_IntS (fun x => by omega) l
theorem W_Bool (l : List Bool) : W (mcL mBool l) (l_szBoolS l) := W_flat (fun _ => by unfold mBool; decide) l
theorem W_Int (l : List Int) : W (mcL mInt l) (l_szIntS l) := W_flat (fun _ => by unfold mInt; decide) l
theorem W_Slot (l : List Slot) : W (mcL mSlot l) (l_szSlotS l) := W_flat (fun _ => by unfold mSlot; decide) l
theorem W_Ins (l : List Ins) : W (mcL mIns l) (l_szInsS l) := W_flat (fun _ => by unfold mIns; decide) l
theorem W_Entry (l : List Entry) : W (mcL mEntry l) (l_szEntryS l) := W_flat (fun _ => by unfold mEntry; decide) l
theorem W_Guest1 (x : Guest) : W (mcL mIns x.Prog + (mcL mSlot x.Written + (mcL mSlot x.Live + (mcL mInt x.Seen + 0)))) (l_szGuest x) := by
  show W _ (fun n => thn (l_szInsS x.Prog n) (fun n => thn (l_szSlotS x.Written n) (fun n => thn (l_szSlotS x.Live n) (fun n => thn (l_szIntS x.Seen n) (fun n => n)))))
  exact W_thn (W_Ins _) (W_thn (W_Slot _) (W_thn (W_Slot _) (W_thn (W_Int _) W_id)))
theorem W_Guest (l : List Guest) : W (mcL mGuest l) (l_szGuestS l) := W_list (s := 11) (by decide) W_Guest1 (fun x => by unfold mGuest; omega) l
theorem W_Kept1 (x : Kept) : W (mcL mBool x.Known + (mcL mSlot x.Slots + 0)) (l_szKept x) := by
  show W _ (fun n => thn (l_szBoolS x.Known n) (fun n => thn (l_szSlotS x.Slots n) (fun n => n)))
  exact W_thn (W_Bool _) (W_thn (W_Slot _) W_id)
theorem W_Kept (l : List Kept) : W (mcL mKept l) (l_szKeptS l) := W_list (s := 0) (by decide) W_Kept1 (fun x => by unfold mKept; omega) l
theorem W_Mon1 (x : Mon) : W (mcL mSlot x.Outer + (mcL mIntS x.Out + (mcL mBool x.Dirty + (mcL mGuest x.Guests + (mcL mInt x.Outs + (mcL mKept x.Tables + 0)))))) (l_szMon x) := by
  show W _ (fun n => thn (l_szSlotS x.Outer n) (fun n => thn (l_szIntSS x.Out n) (fun n => thn (l_szBoolS x.Dirty n) (fun n => thn (l_szGuestS x.Guests n) (fun n => thn (l_szIntS x.Outs n) (fun n => thn (l_szKeptS x.Tables n) (fun n => n)))))))
  exact W_thn (W_Slot _) (W_thn (W_IntSS _) (W_thn (W_Bool _) (W_thn (W_Guest _) (W_thn (W_Int _) (W_thn (W_Kept _) W_id)))))
theorem W_Mon (l : List Mon) : W (mcL mMon l) (l_szMonS l) := W_list (s := 3) (by decide) W_Mon1 (fun x => by unfold mMon; omega) l
def mHost (h : Host) : Int := mcL mIntS h.Memory + (mcL mMon h.Mons + (mcL mEntry h.Buffer + (mcL mEntry h.IoBuffer + 0)))
theorem W_Host (h : Host) : W (mHost h) (l_szHost h) := by
  show W _ (fun n => thn (l_szIntSS h.Memory n) (fun n => thn (l_szMonS h.Mons n) (fun n => thn (l_szEntryS h.Buffer n) (fun n => thn (l_szEntryS h.IoBuffer n) (fun n => n)))))
  exact W_thn (W_IntSS _) (W_thn (W_Mon _) (W_thn (W_Entry _) (W_thn (W_Entry _) W_id)))

section
variable {α : Type} {f : α → Int → α} {nx : α → Int → Int} {m : α → Int}
/-- A result that is numbered. -/
structure Res (f : α → Int → α) (nx : α → Int → Int) (m : α → Int) (l : List α) : Prop where
  c : 0 ≤ (1 : Int) ∧ 1 + mcL m l ≤ mkB
  hc : mkL f nx (mkL f nx l 1) 1 = mkL f nx l 1 ∧ 0 ≤ (1 : Int) ∧ 1 + mcL m (mkL f nx l 1) ≤ mkB
  e : enL nx (mkL f nx l 1) 1 = enL nx l 1
  nn : ilt (enL nx l 1) 0 = false
theorem res (h : Mk f nx m) (l : List α) (hl : mcL m l ≤ 1000000000000) : Res f nx m l := by
  have hB : mkB = 4611686018427387904 := rfl
  have hn := mcL_nn h.nn l
  refine ⟨⟨by decide, by omega⟩, ⟨mkL_2 h l 1, by decide, by rw [mkL_m h]; omega⟩, by rw [enL_eq h.nx, enL_eq h.nx, mkL_m h], ilt_nn (by rw [enL_eq h.nx]; omega)⟩
theorem res_flat (h : Mk f nx m) (h15 : ∀ x, m x ≤ 15) (l : List α) (hl : l.length ≤ 2147483648) : Res f nx m l := res h l (by have := mcL_le h15 l; omega)
end
theorem beq_rfl_Bool (l : List Bool) : l_eqBoolS_c l l = true := pc_true rfl
theorem beq_rfl_Int (l : List Int) : l_eqIntS_c l l = true := pc_true rfl
theorem eq_Bool (l : List Bool) : l_eqBoolS l l = true := rfl
theorem eq_Int (l : List Int) : l_eqIntS l l = true := rfl

theorem mcL_int : ∀ l : List Int, mcL mInt l = l.length
  | [] => rfl
  | x :: l => by simp only [mcL, mcL_int l, mInt, List.length_cons]; omega
theorem mcL_up {α : Type} {m : α → Int} : ∀ (l : List α) (k : Nat) (x d : α), k < l.length → m x ≤ m (ix l (k : Int) d) → mcL m (up l (k : Int) x) ≤ mcL m l
  | [], k, x, d, h, _ => by simp at h
  | y :: l, 0, x, d, _, h => by
    have e : ix (y :: l) ((0 : Nat) : Int) d = y := rfl
    rw [e] at h
    have e2 : up (y :: l) ((0 : Nat) : Int) x = x :: l := rfl
    rw [e2]
    simp only [mcL]
    omega
  | y :: l, k + 1, x, d, h, hm => by
    have hk : k < l.length := by simpa using h
    have e : ix (y :: l) ((k + 1 : Nat) : Int) d = ix l (k : Int) d := by rw [ix_ln h, ix_ln hk]; rfl
    have e2 : up (y :: l) ((k + 1 : Nat) : Int) x = y :: up l (k : Int) x := by
      unfold up
      have a1 : ((k + 1 : Nat) : Int).toNat = k + 1 := by omega
      have a2 : ((k : Nat) : Int).toNat = k := by omega
      rw [a1, a2]; rfl
    rw [e] at hm
    rw [e2]
    have := mcL_up l k x d hk hm
    simp only [mcL]
    omega
theorem mcL_upB {α : Type} {m : α → Int} {l : List α} {i : Int} {x : α} (d : α) (h : hasB i (ln l) = true) (hm : m x ≤ m (ix l i d)) : mcL m (up l i x) ≤ mcL m l := by
  obtain ⟨k, rfl, hk⟩ := has_nat (n := l.length) h
  exact mcL_up l k x d hk hm
theorem mcL_mono {α : Type} {m m' : α → Int} (h : ∀ x, m x ≤ m' x) : ∀ l : List α, mcL m l ≤ mcL m' l
  | [] => Int.le_refl _
  | x :: l => by
    have := mcL_mono h l
    have := h x
    simp only [mcL]
    omega
theorem mcL_mul {α : Type} {m m' : α → Int} (k : Int) (h : ∀ x, m x ≤ k * m' x) : ∀ l : List α, mcL m l ≤ k * mcL m' l
  | [] => by simp [mcL]
  | x :: l => by
    have := mcL_mul k h l
    have := h x
    simp only [mcL, Int.mul_add]
    omega
end Go.Proofs.Ytcfnaifggdelnaa.E
