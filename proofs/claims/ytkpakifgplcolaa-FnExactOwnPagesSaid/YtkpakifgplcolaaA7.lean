/- What is proved here: contracts of the exact laws' own functions that write numbers into what was handed in, and that look whether they stand there. -/
import Derived.Test.YtkpakifgplcolaaA6
import Derived.KernelRfl
namespace Go.Proofs.Ytkpakifgplcolaa.E
open Go
set_option maxRecDepth 100000
set_option linter.unusedVariables false
set_option linter.unusedSimpArgs false

def mkB : Int := 4611686018427387904

section
variable {α : Type}
def mcL (m : α → Int) : List α → Int
  | [] => 0
  | x :: l => m x + mcL m l
def mkL (f : α → Int → α) (nx : α → Int → Int) : List α → Int → List α
  | [], _ => []
  | x :: l, k => f x k :: mkL f nx l (nx x k)
def enL (nx : α → Int → Int) : List α → Int → Int
  | [], k => k
  | x :: l, k => enL nx l (nx x k)

/-- What is written, what number comes next, how many numbers there are. -/
structure Mk (f : α → Int → α) (nx : α → Int → Int) (m : α → Int) : Prop where
  nn : ∀ x, 0 ≤ m x
  nx : ∀ x k, nx x k = k + m x
  f2 : ∀ x k, f (f x k) k = f x k
  m2 : ∀ x k, m (f x k) = m x

variable {f : α → Int → α} {nx : α → Int → Int} {m : α → Int}

theorem mcL_nn (h : ∀ x, 0 ≤ m x) : ∀ l : List α, 0 ≤ mcL m l
  | [] => Int.le_refl _
  | x :: l => by
    have h1 := h x
    have h2 := mcL_nn h l
    simp only [mcL]; omega
theorem enL_eq (h : ∀ x k, nx x k = k + m x) : ∀ (l : List α) (k : Int), enL nx l k = k + mcL m l
  | [], k => by simp [enL, mcL]
  | x :: l, k => by
    have h2 := enL_eq h l (nx x k)
    simp only [enL, mcL]
    rw [h2, h]; omega
theorem mkL_len : ∀ (l : List α) (k : Int), (mkL f nx l k).length = l.length
  | [], _ => rfl
  | x :: l, k => by simp only [mkL, List.length_cons, mkL_len l]
theorem mkL_m (h : Mk f nx m) : ∀ (l : List α) (k : Int), mcL m (mkL f nx l k) = mcL m l
  | [], _ => rfl
  | x :: l, k => by simp only [mkL, mcL, mkL_m h l, h.m2]
theorem mkL_2 (h : Mk f nx m) : ∀ (l : List α) (k : Int), mkL f nx (mkL f nx l k) k = mkL f nx l k
  | [], _ => rfl
  | x :: l, k => by
    have e : nx (f x k) k = nx x k := by rw [h.nx, h.nx, h.m2]
    simp only [mkL, h.f2, e, mkL_2 h l]
/-- A list of such is such. -/
theorem Mk.list (h : Mk f nx m) : Mk (fun l k => mkL f nx l k) (fun l k => enL nx l k) (fun l => mcL m l) :=
  ⟨fun l => mcL_nn h.nn l, fun l k => enL_eq h.nx l k, fun l k => mkL_2 h l k, fun l k => mkL_m h l k⟩

theorem iter_mark {ρ : Type} (h : Mk f nx m) (F : (Int × Int × List α × Unit → Option ρ) → Int × Int × List α × Unit → Option ρ) (K : Int → List α → Option ρ)
    (hstep : ∀ (i : Nat) (L : List α) (hi : i < L.length) (k : Int) (rec : Int × Int × List α × Unit → Option ρ), 0 ≤ k → k + m L[i] ≤ mkB → L.length ≤ big → F rec (k, (i : Int), L, ()) = rec (nx L[i] k, ((i + 1 : Nat) : Int), L.set i (f L[i] k), ()))
    (hend : ∀ (L : List α) (k : Int) (rec : Int × Int × List α × Unit → Option ρ), F rec (k, (L.length : Int), L, ()) = K k L) :
    ∀ (l : List α) (k : Int) (N : Nat), l.length ≤ big → 0 ≤ k → k + mcL m l ≤ mkB → l.length < N → iter N F (k, 0, l, ()) = K (enL nx l k) (mkL f nx l k) := by
  have key : ∀ (rest done : List α) (k : Int) (N : Nat), (done ++ rest).length ≤ big → 0 ≤ k → k + mcL m rest ≤ mkB → rest.length < N → iter N F (k, (done.length : Int), done ++ rest, ()) = K (enL nx rest k) (done ++ mkL f nx rest k) := by
    intro rest
    induction rest with
    | nil =>
      intro done k N hl h0 h1 hN
      obtain ⟨n, rfl⟩ : ∃ n, N = n + 1 := ⟨N - 1, by simp at hN; omega⟩
      rw [iter_succ]
      simp only [List.append_nil, mkL, enL]
      exact hend done k _
    | cons x rest ih =>
      intro done k N hl h0 h1 hN
      simp only [List.length_cons] at hN
      obtain ⟨n, rfl⟩ : ∃ n, N = n + 1 := ⟨N - 1, by omega⟩
      have hi : done.length < (done ++ x :: rest).length := by simp
      have hx : (done ++ x :: rest)[done.length] = x := by simp
      have hnn := h.nn x
      have hn2 := mcL_nn h.nn rest
      simp only [mcL] at h1
      rw [iter_succ, hstep done.length (done ++ x :: rest) hi k _ h0 (by rw [hx]; omega) hl, hx]
      have e : (done ++ x :: rest).set done.length (f x k) = (done ++ [f x k]) ++ rest := by simp
      have e2 : done.length + 1 = (done ++ [f x k]).length := by simp
      rw [e, e2, ih (done ++ [f x k]) (nx x k) n (by simpa using hl) (by rw [h.nx]; omega) (by rw [h.nx]; omega) (by omega)]
      simp [mkL, enL]
  intro l k N hl h0 h1 hN
  exact key l [] k N hl h0 h1 hN

theorem iter_held {ρ : Type} (h : Mk f nx m) (l : List α) (F : (Int × Int × List α × Unit → Option ρ) → Int × Int × List α × Unit → Option ρ) (K : Int → Option ρ)
    (hstep : ∀ (i : Nat) (hi : i < l.length) (k : Int) (rec : Int × Int × List α × Unit → Option ρ), f l[i] k = l[i] → 0 ≤ k → k + m l[i] ≤ mkB → F rec (k, (i : Int), l, ()) = rec (nx l[i] k, ((i + 1 : Nat) : Int), l, ()))
    (hend : ∀ (k : Int) (rec : Int × Int × List α × Unit → Option ρ), F rec (k, (l.length : Int), l, ()) = K k) :
    ∀ (k : Int) (N : Nat), mkL f nx l k = l → 0 ≤ k → k + mcL m l ≤ mkB → l.length < N → iter N F (k, 0, l, ()) = K (enL nx l k) := by
  have key : ∀ (j : Nat) (i : Nat) (k : Int) (N : Nat), l.length - i = j → i ≤ l.length → mkL f nx (l.drop i) k = l.drop i → 0 ≤ k → k + mcL m (l.drop i) ≤ mkB → j < N → iter N F (k, (i : Int), l, ()) = K (enL nx (l.drop i) k) := by
    intro j
    induction j with
    | zero =>
      intro i k N hj hi he h0 h1 hN
      have : i = l.length := by omega
      subst this
      obtain ⟨n, rfl⟩ : ∃ n, N = n + 1 := ⟨N - 1, by omega⟩
      rw [iter_succ, hend, List.drop_length]
      rfl
    | succ j ih =>
      intro i k N hj hi he h0 h1 hN
      obtain ⟨n, rfl⟩ : ∃ n, N = n + 1 := ⟨N - 1, by omega⟩
      have hlt : i < l.length := by omega
      have hd := List.drop_eq_getElem_cons hlt
      rw [hd] at he h1 ⊢
      simp only [mkL, List.cons.injEq] at he
      simp only [mcL] at h1
      have hnn := h.nn l[i]
      have hn2 := mcL_nn h.nn (l.drop (i + 1))
      rw [iter_succ, hstep i hlt k _ he.1 h0 (by omega)]
      simp only [enL]
      exact ih (i + 1) (nx l[i] k) n (by omega) (by omega) he.2 (by rw [h.nx]; omega) (by rw [h.nx]; omega) (by omega)
  intro k N he h0 h1 hN
  have := key l.length 0 k N (by omega) (Nat.zero_le _) (by simpa using he) h0 (by simpa using h1) hN
  simpa using this
end

section
variable {α : Type}
theorem up_nat (l : List α) (i : Nat) (x : α) : up l (i : Int) x = l.set i x := by simp [up]
theorem ln_set (l : List α) (i : Nat) (x : α) : ln (l.set i x) = ln l := by simp [ln]
theorem ix_set {l : List α} {i : Nat} (h : i < l.length) (x d : α) : ix (l.set i x) (i : Int) d = x := by simp [ix, List.getD, h]
theorem set_set (l : List α) (i : Nat) (x y : α) : (l.set i x).set i y = l.set i y := List.set_set ..
end
theorem ine30 : ine 3 0 = true := rfl
theorem ilt_nn {k : Int} (h : 0 ≤ k) : ilt k 0 = false := decide_eq_false (by omega)


theorem inb_set {α : Type} {l : List α} {i : Nat} (h : i < l.length) (x : α) : inb (i : Int) (ln (l.set i x)) = true := by rw [ln_set]; exact inb_ln h


def fInt (_ : Int) (k : Int) : Int := k
def nInt (_ : Int) (k : Int) : Int := k + 1
def mInt (_ : Int) : Int := 1
theorem MkInt : Mk fInt nInt mInt := ⟨fun _ => by unfold mInt; decide, fun _ _ => rfl, fun _ _ => rfl, fun _ _ => rfl⟩

def fBool (_ : Bool) (k : Int) : Bool := ieq (wrem k 3) 0
def nBool (_ : Bool) (k : Int) : Int := k + 1
def mBool (_ : Bool) : Int := 1
theorem MkBool : Mk fBool nBool mBool := ⟨fun _ => by unfold mBool; decide, fun _ _ => rfl, fun _ _ => rfl, fun _ _ => rfl⟩

def fSlot (_ : Slot) (k : Int) : Slot := ⟨k, k + 1⟩
def nSlot (_ : Slot) (k : Int) : Int := k + 1 + 1
def mSlot (_ : Slot) : Int := 2
theorem MkSlot : Mk fSlot nSlot mSlot := ⟨fun _ => by unfold mSlot; decide, fun _ k => by unfold nSlot mSlot; omega, fun _ _ => rfl, fun _ _ => rfl⟩

def fIns (_ : Ins) (k : Int) : Ins := ⟨k, k + 1⟩
def nIns (_ : Ins) (k : Int) : Int := k + 1 + 1
def mIns (_ : Ins) : Int := 2
theorem MkIns : Mk fIns nIns mIns := ⟨fun _ => by unfold mIns; decide, fun _ k => by unfold nIns mIns; omega, fun _ _ => rfl, fun _ _ => rfl⟩

def fEntry (_ : Entry) (k : Int) : Entry := ⟨k, k + 1, k + 1 + 1, k + 1 + 1 + 1⟩
def nEntry (_ : Entry) (k : Int) : Int := k + 1 + 1 + 1 + 1
def mEntry (_ : Entry) : Int := 4
theorem MkEntry : Mk fEntry nEntry mEntry := ⟨fun _ => by unfold mEntry; decide, fun _ k => by unfold nEntry mEntry; omega, fun _ _ => rfl, fun _ _ => rfl⟩

def fAct (_ : GAct) (k : Int) : GAct := ⟨k, k + 1, k + 1 + 1, k + 1 + 1 + 1, k + 1 + 1 + 1 + 1, k + 1 + 1 + 1 + 1 + 1⟩
def nAct (_ : GAct) (k : Int) : Int := k + 1 + 1 + 1 + 1 + 1 + 1
def mAct (_ : GAct) : Int := 6
theorem MkAct : Mk fAct nAct mAct := ⟨fun _ => by unfold mAct; decide, fun _ k => by unfold nAct mAct; omega, fun _ _ => rfl, fun _ _ => rfl⟩

def fTold (_ : Told) (k : Int) : Told := ⟨ieq (wrem (k) 3) 0, k + 1⟩
def nTold (_ : Told) (k : Int) : Int := k + 1 + 1
def mTold (_ : Told) : Int := 2
theorem MkTold : Mk fTold nTold mTold := ⟨fun _ => by unfold mTold; decide, fun _ k => by unfold nTold mTold; omega, fun _ _ => rfl, fun _ _ => rfl⟩

def fIntS (l : List Int) (k : Int) : List Int := mkL fInt nInt l k
def nIntS (l : List Int) (k : Int) : Int := enL nInt l k
def mIntS (l : List Int) : Int := mcL mInt l
theorem MkIntS : Mk fIntS nIntS mIntS := MkInt.list

def fInsS (l : List Ins) (k : Int) : List Ins := mkL fIns nIns l k
def nInsS (l : List Ins) (k : Int) : Int := enL nIns l k
def mInsS (l : List Ins) : Int := mcL mIns l
theorem MkInsS : Mk fInsS nInsS mInsS := MkIns.list

def fInsSS (l : List (List Ins)) (k : Int) : List (List Ins) := mkL fInsS nInsS l k
def nInsSS (l : List (List Ins)) (k : Int) : Int := enL nInsS l k
def mInsSS (l : List (List Ins)) : Int := mcL mInsS l
theorem MkInsSS : Mk fInsSS nInsSS mInsSS := MkInsS.list

def fKept (x : Kept) (k : Int) : Kept := ⟨mkL fBool nBool x.Known (k), mkL fSlot nSlot x.Slots (enL nBool x.Known (k))⟩
def nKept (x : Kept) (k : Int) : Int := enL nSlot x.Slots (enL nBool x.Known (k))
def mKept (x : Kept) : Int := mcL mBool x.Known + mcL mSlot x.Slots
theorem nn_Kept (x : Kept) : 0 ≤ mKept x := by
  have h0 := mcL_nn MkBool.nn x.Known
  have h1 := mcL_nn MkSlot.nn x.Slots
  unfold mKept; omega
theorem nx_Kept (x : Kept) (k : Int) : nKept x k = k + mKept x := by
  unfold nKept mKept
  simp only [enL_eq MkBool.nx, enL_eq MkSlot.nx]
  omega
theorem MkKept : Mk fKept nKept mKept := ⟨nn_Kept, nx_Kept, fun x k => by simp only [fKept, enL_eq MkBool.nx, enL_eq MkSlot.nx, mkL_m MkBool, mkL_m MkSlot, mkL_2 MkBool, mkL_2 MkSlot], fun x k => by simp only [mKept, fKept, mkL_m MkBool, mkL_m MkSlot]⟩

def fGuest (x : Guest) (k : Int) : Guest := ⟨mkL fIns nIns x.Prog (k), enL nIns x.Prog (k), enL nIns x.Prog (k) + 1, mkL fSlot nSlot x.Written (enL nIns x.Prog (k) + 1 + 1), mkL fSlot nSlot x.Live (enL nSlot x.Written (enL nIns x.Prog (k) + 1 + 1)), ⟨enL nSlot x.Live (enL nSlot x.Written (enL nIns x.Prog (k) + 1 + 1)), enL nSlot x.Live (enL nSlot x.Written (enL nIns x.Prog (k) + 1 + 1)) + 1, ieq (wrem (enL nSlot x.Live (enL nSlot x.Written (enL nIns x.Prog (k) + 1 + 1)) + 1 + 1) 3) 0⟩, enL nSlot x.Live (enL nSlot x.Written (enL nIns x.Prog (k) + 1 + 1)) + 1 + 1 + 1, ⟨enL nSlot x.Live (enL nSlot x.Written (enL nIns x.Prog (k) + 1 + 1)) + 1 + 1 + 1 + 1, enL nSlot x.Live (enL nSlot x.Written (enL nIns x.Prog (k) + 1 + 1)) + 1 + 1 + 1 + 1 + 1, ieq (wrem (enL nSlot x.Live (enL nSlot x.Written (enL nIns x.Prog (k) + 1 + 1)) + 1 + 1 + 1 + 1 + 1 + 1) 3) 0, enL nSlot x.Live (enL nSlot x.Written (enL nIns x.Prog (k) + 1 + 1)) + 1 + 1 + 1 + 1 + 1 + 1 + 1⟩, ieq (wrem (enL nSlot x.Live (enL nSlot x.Written (enL nIns x.Prog (k) + 1 + 1)) + 1 + 1 + 1 + 1 + 1 + 1 + 1 + 1) 3) 0, mkL fInt nInt x.Seen (enL nSlot x.Live (enL nSlot x.Written (enL nIns x.Prog (k) + 1 + 1)) + 1 + 1 + 1 + 1 + 1 + 1 + 1 + 1 + 1)⟩
def nGuest (x : Guest) (k : Int) : Int := enL nInt x.Seen (enL nSlot x.Live (enL nSlot x.Written (enL nIns x.Prog (k) + 1 + 1)) + 1 + 1 + 1 + 1 + 1 + 1 + 1 + 1 + 1)
def mGuest (x : Guest) : Int := mcL mIns x.Prog + mcL mSlot x.Written + mcL mSlot x.Live + mcL mInt x.Seen + 11
theorem nn_Guest (x : Guest) : 0 ≤ mGuest x := by
  have h0 := mcL_nn MkIns.nn x.Prog
  have h1 := mcL_nn MkSlot.nn x.Written
  have h2 := mcL_nn MkSlot.nn x.Live
  have h3 := mcL_nn MkInt.nn x.Seen
  unfold mGuest; omega
theorem nx_Guest (x : Guest) (k : Int) : nGuest x k = k + mGuest x := by
  unfold nGuest mGuest
  simp only [enL_eq MkIns.nx, enL_eq MkInt.nx, enL_eq MkSlot.nx]
  omega
theorem MkGuest : Mk fGuest nGuest mGuest := ⟨nn_Guest, nx_Guest, fun x k => by simp only [fGuest, enL_eq MkIns.nx, enL_eq MkInt.nx, enL_eq MkSlot.nx, mkL_m MkIns, mkL_m MkInt, mkL_m MkSlot, mkL_2 MkIns, mkL_2 MkInt, mkL_2 MkSlot], fun x k => by simp only [mGuest, fGuest, mkL_m MkIns, mkL_m MkInt, mkL_m MkSlot]⟩

def fMon (x : Mon) (k : Int) : Mon := ⟨mkL fSlot nSlot x.Outer (k), mkL fIntS nIntS x.Out (enL nSlot x.Outer (k)), mkL fBool nBool x.Dirty (enL nIntS x.Out (enL nSlot x.Outer (k))), mkL fGuest nGuest x.Guests (enL nBool x.Dirty (enL nIntS x.Out (enL nSlot x.Outer (k)))), mkL fInt nInt x.Outs (enL nGuest x.Guests (enL nBool x.Dirty (enL nIntS x.Out (enL nSlot x.Outer (k))))), enL nInt x.Outs (enL nGuest x.Guests (enL nBool x.Dirty (enL nIntS x.Out (enL nSlot x.Outer (k))))), enL nInt x.Outs (enL nGuest x.Guests (enL nBool x.Dirty (enL nIntS x.Out (enL nSlot x.Outer (k))))) + 1, mkL fKept nKept x.Tables (enL nInt x.Outs (enL nGuest x.Guests (enL nBool x.Dirty (enL nIntS x.Out (enL nSlot x.Outer (k))))) + 1 + 1), enL nKept x.Tables (enL nInt x.Outs (enL nGuest x.Guests (enL nBool x.Dirty (enL nIntS x.Out (enL nSlot x.Outer (k))))) + 1 + 1)⟩
def nMon (x : Mon) (k : Int) : Int := enL nKept x.Tables (enL nInt x.Outs (enL nGuest x.Guests (enL nBool x.Dirty (enL nIntS x.Out (enL nSlot x.Outer (k))))) + 1 + 1) + 1
def mMon (x : Mon) : Int := mcL mSlot x.Outer + mcL mIntS x.Out + mcL mBool x.Dirty + mcL mGuest x.Guests + mcL mInt x.Outs + mcL mKept x.Tables + 3
theorem nn_Mon (x : Mon) : 0 ≤ mMon x := by
  have h0 := mcL_nn MkSlot.nn x.Outer
  have h1 := mcL_nn MkIntS.nn x.Out
  have h2 := mcL_nn MkBool.nn x.Dirty
  have h3 := mcL_nn MkGuest.nn x.Guests
  have h4 := mcL_nn MkInt.nn x.Outs
  have h5 := mcL_nn MkKept.nn x.Tables
  unfold mMon; omega
theorem nx_Mon (x : Mon) (k : Int) : nMon x k = k + mMon x := by
  unfold nMon mMon
  simp only [enL_eq MkBool.nx, enL_eq MkGuest.nx, enL_eq MkInt.nx, enL_eq MkIntS.nx, enL_eq MkKept.nx, enL_eq MkSlot.nx]
  omega
theorem MkMon : Mk fMon nMon mMon := ⟨nn_Mon, nx_Mon, fun x k => by simp only [fMon, enL_eq MkBool.nx, enL_eq MkGuest.nx, enL_eq MkInt.nx, enL_eq MkIntS.nx, enL_eq MkKept.nx, enL_eq MkSlot.nx, mkL_m MkBool, mkL_m MkGuest, mkL_m MkInt, mkL_m MkIntS, mkL_m MkKept, mkL_m MkSlot, mkL_2 MkBool, mkL_2 MkGuest, mkL_2 MkInt, mkL_2 MkIntS, mkL_2 MkKept, mkL_2 MkSlot], fun x k => by simp only [mMon, fMon, mkL_m MkBool, mkL_m MkGuest, mkL_m MkInt, mkL_m MkIntS, mkL_m MkKept, mkL_m MkSlot]⟩

def fBare (x : Bare) (k : Int) : Bare := ⟨mkL fIntS nIntS x.Memory (k), mkL fGuest nGuest x.Guests (enL nIntS x.Memory (k)), mkL fInt nInt x.Outs (enL nGuest x.Guests (enL nIntS x.Memory (k))), enL nInt x.Outs (enL nGuest x.Guests (enL nIntS x.Memory (k)))⟩
def nBare (x : Bare) (k : Int) : Int := enL nInt x.Outs (enL nGuest x.Guests (enL nIntS x.Memory (k))) + 1
def mBare (x : Bare) : Int := mcL mIntS x.Memory + mcL mGuest x.Guests + mcL mInt x.Outs + 1
theorem nn_Bare (x : Bare) : 0 ≤ mBare x := by
  have h0 := mcL_nn MkIntS.nn x.Memory
  have h1 := mcL_nn MkGuest.nn x.Guests
  have h2 := mcL_nn MkInt.nn x.Outs
  unfold mBare; omega
theorem nx_Bare (x : Bare) (k : Int) : nBare x k = k + mBare x := by
  unfold nBare mBare
  simp only [enL_eq MkGuest.nx, enL_eq MkInt.nx, enL_eq MkIntS.nx]
  omega
theorem MkBare : Mk fBare nBare mBare := ⟨nn_Bare, nx_Bare, fun x k => by simp only [fBare, enL_eq MkGuest.nx, enL_eq MkInt.nx, enL_eq MkIntS.nx, mkL_m MkGuest, mkL_m MkInt, mkL_m MkIntS, mkL_2 MkGuest, mkL_2 MkInt, mkL_2 MkIntS], fun x k => by simp only [mBare, fBare, mkL_m MkGuest, mkL_m MkInt, mkL_m MkIntS]⟩

noncomputable def l_markIntS_c (l : List Int) (k : Int) : Bool := pc (0 ≤ k ∧ k + mcL mInt l ≤ mkB)
def l_markIntS_1 (l : List Int) (k : Int) : List Int := mkL fInt nInt l k
def l_markIntS_2 (l : List Int) (k : Int) : Int := enL nInt l k
noncomputable def mrun_l_markIntS : CV → Int → Option (Bool × CV × Int)
  | .s .int l, k => some (l_markIntS_c l k, .s .int (l_markIntS_1 l k), l_markIntS_2 l k)
  | _, _ => none

noncomputable def E_l_markIntS (N : Nat) (a0 : List Int) (a1 : Int) : Option Ans :=
  (iter (σ := (Int × (Int × ((List Int) × Unit)))) N (fun r3 s4 => (bif (ilt s4.2.1 (ln s4.2.2.1)) then (bif (inb s4.2.1 (ln s4.2.2.1)) then (share (up s4.2.2.1 s4.2.1 s4.1) (fun x5 => (r3 ((wadd .i64 s4.1 1), ((wadd .i64 s4.2.1 1), (x5, ())))))) else none) else (some [(.one (.s .int s4.2.2.1)), (.one (.i .i64 s4.1))]))) (a1, (0, (a0, ()))))

def tms_l_markIntS : FuncId → Nat → Option Tmpl := tmsOf [(11, 0, { n := 19, tm := [(0, .sl 0 []), (1, .i .i64), (5, .i .i64)], lo := [], ro := [(0, .int, true)] })]

theorem nf_l_markIntS (N : Nat) (a0 : List Int) (a1 : Int) : evalI (cfgQ (aget ctrV) (aget mct0) (aget pct0) (aget tct0)) tms_l_markIntS N 12 11 .int a0 a1 = E_l_markIntS N a0 a1 := by kernel_rfl

theorem law_l_markIntS (a0 : List Int) (a1 : Int) (hb : CVB big (.s .int a0)) (hc : l_markIntS_c a0 a1 = true) : ∃ N, E_l_markIntS N a0 a1 = some [.one (.s .int (l_markIntS_1 a0 a1)), .one (.i .i64 (l_markIntS_2 a0 a1))] := by
  obtain ⟨h0, h1⟩ := pc_iff.1 hc
  have hl := hb.len
  refine ⟨NN, ?_⟩
  have hNN : ∀ {n : Nat}, n ≤ big → n < NN := fun h => NN_lt h
  generalize NN = N at hNN ⊢
  unfold E_l_markIntS
  exact iter_mark MkInt _ (fun k L => some [AV.one (.s .int L), AV.one (.i .i64 k)]) (fun i L hi k rec h0 h1 hL => by
    have hw := wadd_up hi hL
    generalize hx : L[i] = x at h1 ⊢
    have hix : ∀ d, ix L (i : Int) d = x := fun d => (ix_ln hi d).trans hx
    simp only [mInt, mkB] at h1
    simp (disch := omega) only [share, ilt_ln hi, inb_ln hi, hw, up_nat, wadd_id, ine30, cT]
    rfl
    ) (fun L k rec => by simp only [ilt_end, cF]) a0 a1 N hl h0 h1 (hNN hl)
theorem holds_l_markIntS : HoldsI Try.prog 11 mrun_l_markIntS := by
  refine holdsI_of_eval (engQ_ok ctrV_ok mct0_ok pct0_ok tct0_ok) (fn_ok (by kernel_rfl)) ?_
  intro t l k c' k' hr h
  obtain ⟨W, v, S, hrep⟩ := hr
  have hb := CVB.of_rep hrep
  unfold mrun_l_markIntS at h
  split at h
  · rename_i t2 l2 heq
    cases heq
    simp only [Option.some.injEq, Prod.mk.injEq] at h
    obtain ⟨hc, rfl, rfl⟩ := h
    obtain ⟨N, hN⟩ := law_l_markIntS _ _ hb hc
    exact ⟨tms_l_markIntS, N, 12, (nf_l_markIntS N _ _).trans hN⟩
  · cases h


noncomputable def l_markBoolS_c (l : List Bool) (k : Int) : Bool := pc (0 ≤ k ∧ k + mcL mBool l ≤ mkB)
def l_markBoolS_1 (l : List Bool) (k : Int) : List Bool := mkL fBool nBool l k
def l_markBoolS_2 (l : List Bool) (k : Int) : Int := enL nBool l k
noncomputable def mrun_l_markBoolS : CV → Int → Option (Bool × CV × Int)
  | .s .bool l, k => some (l_markBoolS_c l k, .s .bool (l_markBoolS_1 l k), l_markBoolS_2 l k)
  | _, _ => none

noncomputable def E_l_markBoolS (N : Nat) (a0 : List Bool) (a1 : Int) : Option Ans :=
  (iter (σ := (Int × (Int × ((List Bool) × Unit)))) N (fun r3 s4 => (bif (ilt s4.2.1 (ln s4.2.2.1)) then (bif (ine 3 0) then (bif (inb s4.2.1 (ln s4.2.2.1)) then (share (up s4.2.2.1 s4.2.1 (ieq (wrem s4.1 3) 0)) (fun x5 => (r3 ((wadd .i64 s4.1 1), ((wadd .i64 s4.2.1 1), (x5, ())))))) else none) else none) else (some [(.one (.s .bool s4.2.2.1)), (.one (.i .i64 s4.1))]))) (a1, (0, (a0, ()))))

def tms_l_markBoolS : FuncId → Nat → Option Tmpl := tmsOf [(41, 0, { n := 21, tm := [(0, .sl 0 []), (1, .i .i64), (5, .i .i64)], lo := [], ro := [(0, .bool, true)] })]

theorem nf_l_markBoolS (N : Nat) (a0 : List Bool) (a1 : Int) : evalI (cfgQ (aget ctrV) (aget mct0) (aget pct0) (aget tct0)) tms_l_markBoolS N 12 41 .bool a0 a1 = E_l_markBoolS N a0 a1 := by kernel_rfl

theorem law_l_markBoolS (a0 : List Bool) (a1 : Int) (hb : CVB big (.s .bool a0)) (hc : l_markBoolS_c a0 a1 = true) : ∃ N, E_l_markBoolS N a0 a1 = some [.one (.s .bool (l_markBoolS_1 a0 a1)), .one (.i .i64 (l_markBoolS_2 a0 a1))] := by
  obtain ⟨h0, h1⟩ := pc_iff.1 hc
  have hl := hb.len
  refine ⟨NN, ?_⟩
  have hNN : ∀ {n : Nat}, n ≤ big → n < NN := fun h => NN_lt h
  generalize NN = N at hNN ⊢
  unfold E_l_markBoolS
  exact iter_mark MkBool _ (fun k L => some [AV.one (.s .bool L), AV.one (.i .i64 k)]) (fun i L hi k rec h0 h1 hL => by
    have hw := wadd_up hi hL
    generalize hx : L[i] = x at h1 ⊢
    have hix : ∀ d, ix L (i : Int) d = x := fun d => (ix_ln hi d).trans hx
    simp only [mBool, mkB] at h1
    simp (disch := omega) only [share, ilt_ln hi, inb_ln hi, hw, up_nat, wadd_id, ine30, cT]
    rfl
    ) (fun L k rec => by simp only [ilt_end, cF]) a0 a1 N hl h0 h1 (hNN hl)
theorem holds_l_markBoolS : HoldsI Try.prog 41 mrun_l_markBoolS := by
  refine holdsI_of_eval (engQ_ok ctrV_ok mct0_ok pct0_ok tct0_ok) (fn_ok (by kernel_rfl)) ?_
  intro t l k c' k' hr h
  obtain ⟨W, v, S, hrep⟩ := hr
  have hb := CVB.of_rep hrep
  unfold mrun_l_markBoolS at h
  split at h
  · rename_i t2 l2 heq
    cases heq
    simp only [Option.some.injEq, Prod.mk.injEq] at h
    obtain ⟨hc, rfl, rfl⟩ := h
    obtain ⟨N, hN⟩ := law_l_markBoolS _ _ hb hc
    exact ⟨tms_l_markBoolS, N, 12, (nf_l_markBoolS N _ _).trans hN⟩
  · cases h


noncomputable def l_markSlotS_c (l : List Slot) (k : Int) : Bool := pc (0 ≤ k ∧ k + mcL mSlot l ≤ mkB)
def l_markSlotS_1 (l : List Slot) (k : Int) : List Slot := mkL fSlot nSlot l k
def l_markSlotS_2 (l : List Slot) (k : Int) : Int := enL nSlot l k
noncomputable def mrun_l_markSlotS : CV → Int → Option (Bool × CV × Int)
  | .s .slot l, k => some (l_markSlotS_c l k, .s .slot (l_markSlotS_1 l k), l_markSlotS_2 l k)
  | _, _ => none

noncomputable def E_l_markSlotS (N : Nat) (a0 : List Slot) (a1 : Int) : Option Ans :=
  (iter (σ := (Int × (Int × ((List Slot) × Unit)))) N (fun r3 s4 => (bif (ilt s4.2.1 (ln s4.2.2.1)) then (bif (inb s4.2.1 (ln s4.2.2.1)) then (share (up s4.2.2.1 s4.2.1 ({ (ix s4.2.2.1 s4.2.1 (Ty.dflt .slot)) with Page := s4.1 } : Slot)) (fun x5 => (bif (inb s4.2.1 (ln x5)) then (share (up x5 s4.2.1 ({ (ix x5 s4.2.1 (Ty.dflt .slot)) with Rights := (wadd .i64 s4.1 1) } : Slot)) (fun x6 => (r3 ((wadd .i64 (wadd .i64 s4.1 1) 1), ((wadd .i64 s4.2.1 1), (x6, ())))))) else none))) else none) else (some [(.one (.s .slot s4.2.2.1)), (.one (.i .i64 s4.1))]))) (a1, (0, (a0, ()))))

def tms_l_markSlotS : FuncId → Nat → Option Tmpl := tmsOf [(40, 0, { n := 27, tm := [(0, .sl 0 []), (1, .i .i64), (5, .i .i64)], lo := [], ro := [(0, .slot, true)] })]

theorem nf_l_markSlotS (N : Nat) (a0 : List Slot) (a1 : Int) : evalI (cfgQ (aget ctrV) (aget mct0) (aget pct0) (aget tct0)) tms_l_markSlotS N 12 40 .slot a0 a1 = E_l_markSlotS N a0 a1 := by kernel_rfl

theorem law_l_markSlotS (a0 : List Slot) (a1 : Int) (hb : CVB big (.s .slot a0)) (hc : l_markSlotS_c a0 a1 = true) : ∃ N, E_l_markSlotS N a0 a1 = some [.one (.s .slot (l_markSlotS_1 a0 a1)), .one (.i .i64 (l_markSlotS_2 a0 a1))] := by
  obtain ⟨h0, h1⟩ := pc_iff.1 hc
  have hl := hb.len
  refine ⟨NN, ?_⟩
  have hNN : ∀ {n : Nat}, n ≤ big → n < NN := fun h => NN_lt h
  generalize NN = N at hNN ⊢
  unfold E_l_markSlotS
  exact iter_mark MkSlot _ (fun k L => some [AV.one (.s .slot L), AV.one (.i .i64 k)]) (fun i L hi k rec h0 h1 hL => by
    have hw := wadd_up hi hL
    generalize hx : L[i] = x at h1 ⊢
    have hix : ∀ d, ix L (i : Int) d = x := fun d => (ix_ln hi d).trans hx
    simp only [mSlot, mkB] at h1
    simp (disch := omega) only [share, ilt_ln hi, inb_ln hi, hix, hw, up_nat, ln_set, ix_set hi, set_set, wadd_id, ine30, cT]
    rfl
    ) (fun L k rec => by simp only [ilt_end, cF]) a0 a1 N hl h0 h1 (hNN hl)
theorem holds_l_markSlotS : HoldsI Try.prog 40 mrun_l_markSlotS := by
  refine holdsI_of_eval (engQ_ok ctrV_ok mct0_ok pct0_ok tct0_ok) (fn_ok (by kernel_rfl)) ?_
  intro t l k c' k' hr h
  obtain ⟨W, v, S, hrep⟩ := hr
  have hb := CVB.of_rep hrep
  unfold mrun_l_markSlotS at h
  split at h
  · rename_i t2 l2 heq
    cases heq
    simp only [Option.some.injEq, Prod.mk.injEq] at h
    obtain ⟨hc, rfl, rfl⟩ := h
    obtain ⟨N, hN⟩ := law_l_markSlotS _ _ hb hc
    exact ⟨tms_l_markSlotS, N, 12, (nf_l_markSlotS N _ _).trans hN⟩
  · cases h


noncomputable def l_markInsS_c (l : List Ins) (k : Int) : Bool := pc (0 ≤ k ∧ k + mcL mIns l ≤ mkB)
def l_markInsS_1 (l : List Ins) (k : Int) : List Ins := mkL fIns nIns l k
def l_markInsS_2 (l : List Ins) (k : Int) : Int := enL nIns l k
noncomputable def mrun_l_markInsS : CV → Int → Option (Bool × CV × Int)
  | .s .ins l, k => some (l_markInsS_c l k, .s .ins (l_markInsS_1 l k), l_markInsS_2 l k)
  | _, _ => none

noncomputable def E_l_markInsS (N : Nat) (a0 : List Ins) (a1 : Int) : Option Ans :=
  (iter (σ := (Int × (Int × ((List Ins) × Unit)))) N (fun r3 s4 => (bif (ilt s4.2.1 (ln s4.2.2.1)) then (bif (inb s4.2.1 (ln s4.2.2.1)) then (share (up s4.2.2.1 s4.2.1 ({ (ix s4.2.2.1 s4.2.1 (Ty.dflt .ins)) with Op := s4.1 } : Ins)) (fun x5 => (bif (inb s4.2.1 (ln x5)) then (share (up x5 s4.2.1 ({ (ix x5 s4.2.1 (Ty.dflt .ins)) with X := (wadd .i64 s4.1 1) } : Ins)) (fun x6 => (r3 ((wadd .i64 (wadd .i64 s4.1 1) 1), ((wadd .i64 s4.2.1 1), (x6, ())))))) else none))) else none) else (some [(.one (.s .ins s4.2.2.1)), (.one (.i .i64 s4.1))]))) (a1, (0, (a0, ()))))

def tms_l_markInsS : FuncId → Nat → Option Tmpl := tmsOf [(61, 0, { n := 27, tm := [(0, .sl 0 []), (1, .i .i64), (5, .i .i64)], lo := [], ro := [(0, .ins, true)] })]

theorem nf_l_markInsS (N : Nat) (a0 : List Ins) (a1 : Int) : evalI (cfgQ (aget ctrV) (aget mct0) (aget pct0) (aget tct0)) tms_l_markInsS N 12 61 .ins a0 a1 = E_l_markInsS N a0 a1 := by kernel_rfl

theorem law_l_markInsS (a0 : List Ins) (a1 : Int) (hb : CVB big (.s .ins a0)) (hc : l_markInsS_c a0 a1 = true) : ∃ N, E_l_markInsS N a0 a1 = some [.one (.s .ins (l_markInsS_1 a0 a1)), .one (.i .i64 (l_markInsS_2 a0 a1))] := by
  obtain ⟨h0, h1⟩ := pc_iff.1 hc
  have hl := hb.len
  refine ⟨NN, ?_⟩
  have hNN : ∀ {n : Nat}, n ≤ big → n < NN := fun h => NN_lt h
  generalize NN = N at hNN ⊢
  unfold E_l_markInsS
  exact iter_mark MkIns _ (fun k L => some [AV.one (.s .ins L), AV.one (.i .i64 k)]) (fun i L hi k rec h0 h1 hL => by
    have hw := wadd_up hi hL
    generalize hx : L[i] = x at h1 ⊢
    have hix : ∀ d, ix L (i : Int) d = x := fun d => (ix_ln hi d).trans hx
    simp only [mIns, mkB] at h1
    simp (disch := omega) only [share, ilt_ln hi, inb_ln hi, hix, hw, up_nat, ln_set, ix_set hi, set_set, wadd_id, ine30, cT]
    rfl
    ) (fun L k rec => by simp only [ilt_end, cF]) a0 a1 N hl h0 h1 (hNN hl)
theorem holds_l_markInsS : HoldsI Try.prog 61 mrun_l_markInsS := by
  refine holdsI_of_eval (engQ_ok ctrV_ok mct0_ok pct0_ok tct0_ok) (fn_ok (by kernel_rfl)) ?_
  intro t l k c' k' hr h
  obtain ⟨W, v, S, hrep⟩ := hr
  have hb := CVB.of_rep hrep
  unfold mrun_l_markInsS at h
  split at h
  · rename_i t2 l2 heq
    cases heq
    simp only [Option.some.injEq, Prod.mk.injEq] at h
    obtain ⟨hc, rfl, rfl⟩ := h
    obtain ⟨N, hN⟩ := law_l_markInsS _ _ hb hc
    exact ⟨tms_l_markInsS, N, 12, (nf_l_markInsS N _ _).trans hN⟩
  · cases h


noncomputable def l_markEntryS_c (l : List Entry) (k : Int) : Bool := pc (0 ≤ k ∧ k + mcL mEntry l ≤ mkB)
def l_markEntryS_1 (l : List Entry) (k : Int) : List Entry := mkL fEntry nEntry l k
def l_markEntryS_2 (l : List Entry) (k : Int) : Int := enL nEntry l k
noncomputable def mrun_l_markEntryS : CV → Int → Option (Bool × CV × Int)
  | .s .entry l, k => some (l_markEntryS_c l k, .s .entry (l_markEntryS_1 l k), l_markEntryS_2 l k)
  | _, _ => none

noncomputable def E_l_markEntryS (N : Nat) (a0 : List Entry) (a1 : Int) : Option Ans :=
  (iter (σ := (Int × (Int × ((List Entry) × Unit)))) N (fun r3 s4 => (bif (ilt s4.2.1 (ln s4.2.2.1)) then (bif (inb s4.2.1 (ln s4.2.2.1)) then (share (up s4.2.2.1 s4.2.1 ({ (ix s4.2.2.1 s4.2.1 (Ty.dflt .entry)) with Tag := s4.1 } : Entry)) (fun x5 => (bif (inb s4.2.1 (ln x5)) then (share (up x5 s4.2.1 ({ (ix x5 s4.2.1 (Ty.dflt .entry)) with Page := (wadd .i64 s4.1 1) } : Entry)) (fun x6 => (bif (inb s4.2.1 (ln x6)) then (share (up x6 s4.2.1 ({ (ix x6 s4.2.1 (Ty.dflt .entry)) with Host := (wadd .i64 (wadd .i64 s4.1 1) 1) } : Entry)) (fun x7 => (bif (inb s4.2.1 (ln x7)) then (share (up x7 s4.2.1 ({ (ix x7 s4.2.1 (Ty.dflt .entry)) with Rights := (wadd .i64 (wadd .i64 (wadd .i64 s4.1 1) 1) 1) } : Entry)) (fun x8 => (r3 ((wadd .i64 (wadd .i64 (wadd .i64 (wadd .i64 s4.1 1) 1) 1) 1), ((wadd .i64 s4.2.1 1), (x8, ())))))) else none))) else none))) else none))) else none) else (some [(.one (.s .entry s4.2.2.1)), (.one (.i .i64 s4.1))]))) (a1, (0, (a0, ()))))

def tms_l_markEntryS : FuncId → Nat → Option Tmpl := tmsOf [(28, 0, { n := 41, tm := [(0, .sl 0 []), (1, .i .i64), (5, .i .i64)], lo := [], ro := [(0, .entry, true)] })]

theorem nf_l_markEntryS (N : Nat) (a0 : List Entry) (a1 : Int) : evalI (cfgQ (aget ctrV) (aget mct0) (aget pct0) (aget tct0)) tms_l_markEntryS N 12 28 .entry a0 a1 = E_l_markEntryS N a0 a1 := by kernel_rfl

theorem law_l_markEntryS (a0 : List Entry) (a1 : Int) (hb : CVB big (.s .entry a0)) (hc : l_markEntryS_c a0 a1 = true) : ∃ N, E_l_markEntryS N a0 a1 = some [.one (.s .entry (l_markEntryS_1 a0 a1)), .one (.i .i64 (l_markEntryS_2 a0 a1))] := by
  obtain ⟨h0, h1⟩ := pc_iff.1 hc
  have hl := hb.len
  refine ⟨NN, ?_⟩
  have hNN : ∀ {n : Nat}, n ≤ big → n < NN := fun h => NN_lt h
  generalize NN = N at hNN ⊢
  unfold E_l_markEntryS
  exact iter_mark MkEntry _ (fun k L => some [AV.one (.s .entry L), AV.one (.i .i64 k)]) (fun i L hi k rec h0 h1 hL => by
    have hw := wadd_up hi hL
    generalize hx : L[i] = x at h1 ⊢
    have hix : ∀ d, ix L (i : Int) d = x := fun d => (ix_ln hi d).trans hx
    simp only [mEntry, mkB] at h1
    simp (disch := omega) only [share, ilt_ln hi, inb_ln hi, hix, hw, up_nat, ln_set, ix_set hi, set_set, wadd_id, ine30, cT]
    rfl
    ) (fun L k rec => by simp only [ilt_end, cF]) a0 a1 N hl h0 h1 (hNN hl)
theorem holds_l_markEntryS : HoldsI Try.prog 28 mrun_l_markEntryS := by
  refine holdsI_of_eval (engQ_ok ctrV_ok mct0_ok pct0_ok tct0_ok) (fn_ok (by kernel_rfl)) ?_
  intro t l k c' k' hr h
  obtain ⟨W, v, S, hrep⟩ := hr
  have hb := CVB.of_rep hrep
  unfold mrun_l_markEntryS at h
  split at h
  · rename_i t2 l2 heq
    cases heq
    simp only [Option.some.injEq, Prod.mk.injEq] at h
    obtain ⟨hc, rfl, rfl⟩ := h
    obtain ⟨N, hN⟩ := law_l_markEntryS _ _ hb hc
    exact ⟨tms_l_markEntryS, N, 12, (nf_l_markEntryS N _ _).trans hN⟩
  · cases h




noncomputable def mctA : Mcts := [(11, mrun_l_markIntS), (41, mrun_l_markBoolS), (40, mrun_l_markSlotS), (61, mrun_l_markInsS), (28, mrun_l_markEntryS)] ++ mct0

theorem mctA_ok : ∀ f run, aget mctA f = some run → HoldsI Try.prog f run := mct_more mct0_ok (by
  intro x hx
  simp only [List.mem_cons, List.not_mem_nil, or_false] at hx
  rcases hx with rfl | rfl | rfl | rfl | rfl
  · exact holds_l_markIntS
  · exact holds_l_markBoolS
  · exact holds_l_markSlotS
  · exact holds_l_markInsS
  · exact holds_l_markEntryS)


noncomputable def l_markIntSS_c (l : List (List Int)) (k : Int) : Bool := pc (0 ≤ k ∧ k + mcL mIntS l ≤ mkB)
def l_markIntSS_1 (l : List (List Int)) (k : Int) : List (List Int) := mkL fIntS nIntS l k
def l_markIntSS_2 (l : List (List Int)) (k : Int) : Int := enL nIntS l k
noncomputable def mrun_l_markIntSS : CV → Int → Option (Bool × CV × Int)
  | .s (.sl .int) l, k => some (l_markIntSS_c l k, .s (.sl .int) (l_markIntSS_1 l k), l_markIntSS_2 l k)
  | _, _ => none

noncomputable def E_l_markIntSS (N : Nat) (a0 : List (List Int)) (a1 : Int) : Option Ans :=
  (iter (σ := (Int × (Int × ((List (List Int)) × Unit)))) N (fun r3 s4 => (bif (ilt s4.2.1 (ln s4.2.2.1)) then (bif (inb s4.2.1 (ln s4.2.2.1)) then (bif (l_markIntS_c (ix s4.2.2.1 s4.2.1 []) s4.1) then (share (up s4.2.2.1 s4.2.1 (l_markIntS_1 (ix s4.2.2.1 s4.2.1 []) s4.1)) (fun x5 => (r3 ((l_markIntS_2 (ix s4.2.2.1 s4.2.1 []) s4.1), ((wadd .i64 s4.2.1 1), (x5, ())))))) else none) else none) else (some [(.one (.s (.sl .int) s4.2.2.1)), (.one (.i .i64 s4.1))]))) (a1, (0, (a0, ()))))

def tms_l_markIntSS : FuncId → Nat → Option Tmpl := tmsOf [(26, 0, { n := 19, tm := [(0, .sl 0 []), (1, .i .i64), (5, .i .i64)], lo := [], ro := [(0, (.sl .int), true)] })]

theorem nf_l_markIntSS (N : Nat) (a0 : List (List Int)) (a1 : Int) : evalI (cfgQ (aget ctrV) (aget mctA) (aget pct0) (aget tct0)) tms_l_markIntSS N 12 26 (.sl .int) a0 a1 = E_l_markIntSS N a0 a1 := by kernel_rfl

theorem law_l_markIntSS (a0 : List (List Int)) (a1 : Int) (hb : CVB big (.s (.sl .int) a0)) (hc : l_markIntSS_c a0 a1 = true) : ∃ N, E_l_markIntSS N a0 a1 = some [.one (.s (.sl .int) (l_markIntSS_1 a0 a1)), .one (.i .i64 (l_markIntSS_2 a0 a1))] := by
  obtain ⟨h0, h1⟩ := pc_iff.1 hc
  have hl := hb.len
  refine ⟨NN, ?_⟩
  have hNN : ∀ {n : Nat}, n ≤ big → n < NN := fun h => NN_lt h
  generalize NN = N at hNN ⊢
  unfold E_l_markIntSS
  exact iter_mark MkIntS _ (fun k L => some [AV.one (.s (.sl .int) L), AV.one (.i .i64 k)]) (fun i L hi k rec h0 h1 hL => by
    have hw := wadd_up hi hL
    generalize hx : L[i] = x at h1 ⊢
    have hix : ∀ d, ix L (i : Int) d = x := fun d => (ix_ln hi d).trans hx
    have c1 : l_markIntS_c x k = true := pc_true ⟨h0, h1⟩
    simp only [share, ilt_ln hi, inb_ln hi, hix, c1, hw, up_nat, l_markIntS_1, l_markIntS_2, cT]
    rfl
    ) (fun L k rec => by simp only [ilt_end, cF]) a0 a1 N hl h0 h1 (hNN hl)
theorem holds_l_markIntSS : HoldsI Try.prog 26 mrun_l_markIntSS := by
  refine holdsI_of_eval (engQ_ok ctrV_ok mctA_ok pct0_ok tct0_ok) (fn_ok (by kernel_rfl)) ?_
  intro t l k c' k' hr h
  obtain ⟨W, v, S, hrep⟩ := hr
  have hb := CVB.of_rep hrep
  unfold mrun_l_markIntSS at h
  split at h
  · rename_i t2 l2 heq
    cases heq
    simp only [Option.some.injEq, Prod.mk.injEq] at h
    obtain ⟨hc, rfl, rfl⟩ := h
    obtain ⟨N, hN⟩ := law_l_markIntSS _ _ hb hc
    exact ⟨tms_l_markIntSS, N, 12, (nf_l_markIntSS N _ _).trans hN⟩
  · cases h



noncomputable def l_markKeptS_c (l : List Kept) (k : Int) : Bool := pc (0 ≤ k ∧ k + mcL mKept l ≤ mkB)
def l_markKeptS_1 (l : List Kept) (k : Int) : List Kept := mkL fKept nKept l k
def l_markKeptS_2 (l : List Kept) (k : Int) : Int := enL nKept l k
noncomputable def mrun_l_markKeptS : CV → Int → Option (Bool × CV × Int)
  | .s .kept l, k => some (l_markKeptS_c l k, .s .kept (l_markKeptS_1 l k), l_markKeptS_2 l k)
  | _, _ => none

noncomputable def E_l_markKeptS (N : Nat) (a0 : List Kept) (a1 : Int) : Option Ans :=
  (iter (σ := (Int × (Int × ((List Kept) × Unit)))) N (fun r3 s4 => (bif (ilt s4.2.1 (ln s4.2.2.1)) then (bif (inb s4.2.1 (ln s4.2.2.1)) then (bif (l_markBoolS_c (ix s4.2.2.1 s4.2.1 (Ty.dflt .kept)).Known s4.1) then (share (up s4.2.2.1 s4.2.1 ({ (ix s4.2.2.1 s4.2.1 (Ty.dflt .kept)) with Known := (l_markBoolS_1 (ix s4.2.2.1 s4.2.1 (Ty.dflt .kept)).Known s4.1) } : Kept)) (fun x5 => (bif (inb s4.2.1 (ln x5)) then (bif (l_markSlotS_c (ix x5 s4.2.1 (Ty.dflt .kept)).Slots (l_markBoolS_2 (ix s4.2.2.1 s4.2.1 (Ty.dflt .kept)).Known s4.1)) then (share (up x5 s4.2.1 ({ (ix x5 s4.2.1 (Ty.dflt .kept)) with Slots := (l_markSlotS_1 (ix x5 s4.2.1 (Ty.dflt .kept)).Slots (l_markBoolS_2 (ix s4.2.2.1 s4.2.1 (Ty.dflt .kept)).Known s4.1)) } : Kept)) (fun x6 => (r3 ((l_markSlotS_2 (ix x5 s4.2.1 (Ty.dflt .kept)).Slots (l_markBoolS_2 (ix s4.2.2.1 s4.2.1 (Ty.dflt .kept)).Known s4.1)), ((wadd .i64 s4.2.1 1), (x6, ())))))) else none) else none))) else none) else none) else (some [(.one (.s .kept s4.2.2.1)), (.one (.i .i64 s4.1))]))) (a1, (0, (a0, ()))))

def tms_l_markKeptS : FuncId → Nat → Option Tmpl := tmsOf [(43, 0, { n := 27, tm := [(0, .sl 0 []), (1, .i .i64), (5, .i .i64)], lo := [], ro := [(0, .kept, true)] })]

theorem nf_l_markKeptS (N : Nat) (a0 : List Kept) (a1 : Int) : evalI (cfgQ (aget ctrV) (aget mctA) (aget pct0) (aget tct0)) tms_l_markKeptS N 12 43 .kept a0 a1 = E_l_markKeptS N a0 a1 := by kernel_rfl

theorem law_l_markKeptS (a0 : List Kept) (a1 : Int) (hb : CVB big (.s .kept a0)) (hc : l_markKeptS_c a0 a1 = true) : ∃ N, E_l_markKeptS N a0 a1 = some [.one (.s .kept (l_markKeptS_1 a0 a1)), .one (.i .i64 (l_markKeptS_2 a0 a1))] := by
  obtain ⟨h0, h1⟩ := pc_iff.1 hc
  have hl := hb.len
  refine ⟨NN, ?_⟩
  have hNN : ∀ {n : Nat}, n ≤ big → n < NN := fun h => NN_lt h
  generalize NN = N at hNN ⊢
  unfold E_l_markKeptS
  exact iter_mark MkKept _ (fun k L => some [AV.one (.s .kept L), AV.one (.i .i64 k)]) (fun i L hi k rec h0 h1 hL => by
    have hw := wadd_up hi hL
    generalize hx : L[i] = x at h1 ⊢
    have hix : ∀ d, ix L (i : Int) d = x := fun d => (ix_ln hi d).trans hx
    simp only [mKept, mkB] at h1
    have hn0 := mcL_nn MkBool.nn x.Known
    have hn1 := mcL_nn MkSlot.nn x.Slots
    have he0 := enL_eq MkBool.nx x.Known (k)
    have he1 := enL_eq MkSlot.nx x.Slots (enL nBool x.Known (k))
    have c0 : l_markBoolS_c x.Known (k) = true := pc_true ⟨by omega, by unfold mkB; omega⟩
    have c1 : l_markSlotS_c x.Slots (enL nBool x.Known (k)) = true := pc_true ⟨by omega, by unfold mkB; omega⟩
    simp (disch := omega) only [share, ilt_ln hi, inb_ln hi, inb_set hi, hix, hw, up_nat, ln_set, ix_set hi, set_set, wadd_id, ine30, cT, c0, l_markBoolS_1, l_markBoolS_2, c1, l_markSlotS_1, l_markSlotS_2]
    rfl
    ) (fun L k rec => by simp only [ilt_end, cF]) a0 a1 N hl h0 h1 (hNN hl)
theorem holds_l_markKeptS : HoldsI Try.prog 43 mrun_l_markKeptS := by
  refine holdsI_of_eval (engQ_ok ctrV_ok mctA_ok pct0_ok tct0_ok) (fn_ok (by kernel_rfl)) ?_
  intro t l k c' k' hr h
  obtain ⟨W, v, S, hrep⟩ := hr
  have hb := CVB.of_rep hrep
  unfold mrun_l_markKeptS at h
  split at h
  · rename_i t2 l2 heq
    cases heq
    simp only [Option.some.injEq, Prod.mk.injEq] at h
    obtain ⟨hc, rfl, rfl⟩ := h
    obtain ⟨N, hN⟩ := law_l_markKeptS _ _ hb hc
    exact ⟨tms_l_markKeptS, N, 12, (nf_l_markKeptS N _ _).trans hN⟩
  · cases h


noncomputable def l_markGuestS_c (l : List Guest) (k : Int) : Bool := pc (0 ≤ k ∧ k + mcL mGuest l ≤ mkB)
def l_markGuestS_1 (l : List Guest) (k : Int) : List Guest := mkL fGuest nGuest l k
def l_markGuestS_2 (l : List Guest) (k : Int) : Int := enL nGuest l k
noncomputable def mrun_l_markGuestS : CV → Int → Option (Bool × CV × Int)
  | .s .guest l, k => some (l_markGuestS_c l k, .s .guest (l_markGuestS_1 l k), l_markGuestS_2 l k)
  | _, _ => none

noncomputable def E_l_markGuestS (N : Nat) (a0 : List Guest) (a1 : Int) : Option Ans :=
  (iter (σ := (Int × (Int × ((List Guest) × Unit)))) N (fun r3 s4 => (bif (ilt s4.2.1 (ln s4.2.2.1)) then (bif (inb s4.2.1 (ln s4.2.2.1)) then (bif (l_markInsS_c (ix s4.2.2.1 s4.2.1 (Ty.dflt .guest)).Prog s4.1) then (share (up s4.2.2.1 s4.2.1 ({ (ix s4.2.2.1 s4.2.1 (Ty.dflt .guest)) with Prog := (l_markInsS_1 (ix s4.2.2.1 s4.2.1 (Ty.dflt .guest)).Prog s4.1) } : Guest)) (fun x5 => (bif (inb s4.2.1 (ln x5)) then (share (up x5 s4.2.1 ({ (ix x5 s4.2.1 (Ty.dflt .guest)) with A := (l_markInsS_2 (ix s4.2.2.1 s4.2.1 (Ty.dflt .guest)).Prog s4.1) } : Guest)) (fun x6 => (bif (inb s4.2.1 (ln x6)) then (share (up x6 s4.2.1 ({ (ix x6 s4.2.1 (Ty.dflt .guest)) with Pc := (wadd .i64 (l_markInsS_2 (ix s4.2.2.1 s4.2.1 (Ty.dflt .guest)).Prog s4.1) 1) } : Guest)) (fun x7 => (bif (inb s4.2.1 (ln x7)) then (bif (l_markSlotS_c (ix x7 s4.2.1 (Ty.dflt .guest)).Written (wadd .i64 (wadd .i64 (l_markInsS_2 (ix s4.2.2.1 s4.2.1 (Ty.dflt .guest)).Prog s4.1) 1) 1)) then (share (up x7 s4.2.1 ({ (ix x7 s4.2.1 (Ty.dflt .guest)) with Written := (l_markSlotS_1 (ix x7 s4.2.1 (Ty.dflt .guest)).Written (wadd .i64 (wadd .i64 (l_markInsS_2 (ix s4.2.2.1 s4.2.1 (Ty.dflt .guest)).Prog s4.1) 1) 1)) } : Guest)) (fun x8 => (bif (inb s4.2.1 (ln x8)) then (bif (l_markSlotS_c (ix x8 s4.2.1 (Ty.dflt .guest)).Live (l_markSlotS_2 (ix x7 s4.2.1 (Ty.dflt .guest)).Written (wadd .i64 (wadd .i64 (l_markInsS_2 (ix s4.2.2.1 s4.2.1 (Ty.dflt .guest)).Prog s4.1) 1) 1))) then (share (up x8 s4.2.1 ({ (ix x8 s4.2.1 (Ty.dflt .guest)) with Live := (l_markSlotS_1 (ix x8 s4.2.1 (Ty.dflt .guest)).Live (l_markSlotS_2 (ix x7 s4.2.1 (Ty.dflt .guest)).Written (wadd .i64 (wadd .i64 (l_markInsS_2 (ix s4.2.2.1 s4.2.1 (Ty.dflt .guest)).Prog s4.1) 1) 1))) } : Guest)) (fun x9 => (bif (inb s4.2.1 (ln x9)) then (share (up x9 s4.2.1 ({ (ix x9 s4.2.1 (Ty.dflt .guest)) with Ctl := ({ (ix x9 s4.2.1 (Ty.dflt .guest)).Ctl with Traps := (l_markSlotS_2 (ix x8 s4.2.1 (Ty.dflt .guest)).Live (l_markSlotS_2 (ix x7 s4.2.1 (Ty.dflt .guest)).Written (wadd .i64 (wadd .i64 (l_markInsS_2 (ix s4.2.2.1 s4.2.1 (Ty.dflt .guest)).Prog s4.1) 1) 1))) } : Ctl) } : Guest)) (fun x10 => (bif (inb s4.2.1 (ln x10)) then (share (up x10 s4.2.1 ({ (ix x10 s4.2.1 (Ty.dflt .guest)) with Ctl := ({ (ix x10 s4.2.1 (Ty.dflt .guest)).Ctl with Post := (wadd .i64 (l_markSlotS_2 (ix x8 s4.2.1 (Ty.dflt .guest)).Live (l_markSlotS_2 (ix x7 s4.2.1 (Ty.dflt .guest)).Written (wadd .i64 (wadd .i64 (l_markInsS_2 (ix s4.2.2.1 s4.2.1 (Ty.dflt .guest)).Prog s4.1) 1) 1))) 1) } : Ctl) } : Guest)) (fun x11 => (bif (ine 3 0) then (bif (inb s4.2.1 (ln x11)) then (share (up x11 s4.2.1 ({ (ix x11 s4.2.1 (Ty.dflt .guest)) with Ctl := ({ (ix x11 s4.2.1 (Ty.dflt .guest)).Ctl with Open := (ieq (wrem (wadd .i64 (wadd .i64 (l_markSlotS_2 (ix x8 s4.2.1 (Ty.dflt .guest)).Live (l_markSlotS_2 (ix x7 s4.2.1 (Ty.dflt .guest)).Written (wadd .i64 (wadd .i64 (l_markInsS_2 (ix s4.2.2.1 s4.2.1 (Ty.dflt .guest)).Prog s4.1) 1) 1))) 1) 1) 3) 0) } : Ctl) } : Guest)) (fun x12 => (bif (inb s4.2.1 (ln x12)) then (share (up x12 s4.2.1 ({ (ix x12 s4.2.1 (Ty.dflt .guest)) with Pending := (wadd .i64 (wadd .i64 (wadd .i64 (l_markSlotS_2 (ix x8 s4.2.1 (Ty.dflt .guest)).Live (l_markSlotS_2 (ix x7 s4.2.1 (Ty.dflt .guest)).Written (wadd .i64 (wadd .i64 (l_markInsS_2 (ix s4.2.2.1 s4.2.1 (Ty.dflt .guest)).Prog s4.1) 1) 1))) 1) 1) 1) } : Guest)) (fun x13 => (bif (inb s4.2.1 (ln x13)) then (share (up x13 s4.2.1 ({ (ix x13 s4.2.1 (Ty.dflt .guest)) with Exit := ({ (ix x13 s4.2.1 (Ty.dflt .guest)).Exit with Kind := (wadd .i64 (wadd .i64 (wadd .i64 (wadd .i64 (l_markSlotS_2 (ix x8 s4.2.1 (Ty.dflt .guest)).Live (l_markSlotS_2 (ix x7 s4.2.1 (Ty.dflt .guest)).Written (wadd .i64 (wadd .i64 (l_markInsS_2 (ix s4.2.2.1 s4.2.1 (Ty.dflt .guest)).Prog s4.1) 1) 1))) 1) 1) 1) 1) } : GExit) } : Guest)) (fun x14 => (bif (inb s4.2.1 (ln x14)) then (share (up x14 s4.2.1 ({ (ix x14 s4.2.1 (Ty.dflt .guest)) with Exit := ({ (ix x14 s4.2.1 (Ty.dflt .guest)).Exit with Page := (wadd .i64 (wadd .i64 (wadd .i64 (wadd .i64 (wadd .i64 (l_markSlotS_2 (ix x8 s4.2.1 (Ty.dflt .guest)).Live (l_markSlotS_2 (ix x7 s4.2.1 (Ty.dflt .guest)).Written (wadd .i64 (wadd .i64 (l_markInsS_2 (ix s4.2.2.1 s4.2.1 (Ty.dflt .guest)).Prog s4.1) 1) 1))) 1) 1) 1) 1) 1) } : GExit) } : Guest)) (fun x15 => (bif (ine 3 0) then (bif (inb s4.2.1 (ln x15)) then (share (up x15 s4.2.1 ({ (ix x15 s4.2.1 (Ty.dflt .guest)) with Exit := ({ (ix x15 s4.2.1 (Ty.dflt .guest)).Exit with Write := (ieq (wrem (wadd .i64 (wadd .i64 (wadd .i64 (wadd .i64 (wadd .i64 (wadd .i64 (l_markSlotS_2 (ix x8 s4.2.1 (Ty.dflt .guest)).Live (l_markSlotS_2 (ix x7 s4.2.1 (Ty.dflt .guest)).Written (wadd .i64 (wadd .i64 (l_markInsS_2 (ix s4.2.2.1 s4.2.1 (Ty.dflt .guest)).Prog s4.1) 1) 1))) 1) 1) 1) 1) 1) 1) 3) 0) } : GExit) } : Guest)) (fun x16 => (bif (inb s4.2.1 (ln x16)) then (share (up x16 s4.2.1 ({ (ix x16 s4.2.1 (Ty.dflt .guest)) with Exit := ({ (ix x16 s4.2.1 (Ty.dflt .guest)).Exit with N := (wadd .i64 (wadd .i64 (wadd .i64 (wadd .i64 (wadd .i64 (wadd .i64 (wadd .i64 (l_markSlotS_2 (ix x8 s4.2.1 (Ty.dflt .guest)).Live (l_markSlotS_2 (ix x7 s4.2.1 (Ty.dflt .guest)).Written (wadd .i64 (wadd .i64 (l_markInsS_2 (ix s4.2.2.1 s4.2.1 (Ty.dflt .guest)).Prog s4.1) 1) 1))) 1) 1) 1) 1) 1) 1) 1) } : GExit) } : Guest)) (fun x17 => (bif (ine 3 0) then (bif (inb s4.2.1 (ln x17)) then (share (up x17 s4.2.1 ({ (ix x17 s4.2.1 (Ty.dflt .guest)) with Halted := (ieq (wrem (wadd .i64 (wadd .i64 (wadd .i64 (wadd .i64 (wadd .i64 (wadd .i64 (wadd .i64 (wadd .i64 (l_markSlotS_2 (ix x8 s4.2.1 (Ty.dflt .guest)).Live (l_markSlotS_2 (ix x7 s4.2.1 (Ty.dflt .guest)).Written (wadd .i64 (wadd .i64 (l_markInsS_2 (ix s4.2.2.1 s4.2.1 (Ty.dflt .guest)).Prog s4.1) 1) 1))) 1) 1) 1) 1) 1) 1) 1) 1) 3) 0) } : Guest)) (fun x18 => (bif (inb s4.2.1 (ln x18)) then (bif (l_markIntS_c (ix x18 s4.2.1 (Ty.dflt .guest)).Seen (wadd .i64 (wadd .i64 (wadd .i64 (wadd .i64 (wadd .i64 (wadd .i64 (wadd .i64 (wadd .i64 (wadd .i64 (l_markSlotS_2 (ix x8 s4.2.1 (Ty.dflt .guest)).Live (l_markSlotS_2 (ix x7 s4.2.1 (Ty.dflt .guest)).Written (wadd .i64 (wadd .i64 (l_markInsS_2 (ix s4.2.2.1 s4.2.1 (Ty.dflt .guest)).Prog s4.1) 1) 1))) 1) 1) 1) 1) 1) 1) 1) 1) 1)) then (share (up x18 s4.2.1 ({ (ix x18 s4.2.1 (Ty.dflt .guest)) with Seen := (l_markIntS_1 (ix x18 s4.2.1 (Ty.dflt .guest)).Seen (wadd .i64 (wadd .i64 (wadd .i64 (wadd .i64 (wadd .i64 (wadd .i64 (wadd .i64 (wadd .i64 (wadd .i64 (l_markSlotS_2 (ix x8 s4.2.1 (Ty.dflt .guest)).Live (l_markSlotS_2 (ix x7 s4.2.1 (Ty.dflt .guest)).Written (wadd .i64 (wadd .i64 (l_markInsS_2 (ix s4.2.2.1 s4.2.1 (Ty.dflt .guest)).Prog s4.1) 1) 1))) 1) 1) 1) 1) 1) 1) 1) 1) 1)) } : Guest)) (fun x19 => (r3 ((l_markIntS_2 (ix x18 s4.2.1 (Ty.dflt .guest)).Seen (wadd .i64 (wadd .i64 (wadd .i64 (wadd .i64 (wadd .i64 (wadd .i64 (wadd .i64 (wadd .i64 (wadd .i64 (l_markSlotS_2 (ix x8 s4.2.1 (Ty.dflt .guest)).Live (l_markSlotS_2 (ix x7 s4.2.1 (Ty.dflt .guest)).Written (wadd .i64 (wadd .i64 (l_markInsS_2 (ix s4.2.2.1 s4.2.1 (Ty.dflt .guest)).Prog s4.1) 1) 1))) 1) 1) 1) 1) 1) 1) 1) 1) 1)), ((wadd .i64 s4.2.1 1), (x19, ())))))) else none) else none))) else none) else none))) else none))) else none) else none))) else none))) else none))) else none))) else none) else none))) else none))) else none))) else none) else none))) else none) else none))) else none))) else none))) else none) else none) else (some [(.one (.s .guest s4.2.2.1)), (.one (.i .i64 s4.1))]))) (a1, (0, (a0, ()))))

def tms_l_markGuestS : FuncId → Nat → Option Tmpl := tmsOf [(42, 0, { n := 131, tm := [(0, .sl 0 []), (1, .i .i64), (5, .i .i64)], lo := [], ro := [(0, .guest, true)] })]

theorem nf_l_markGuestS (N : Nat) (a0 : List Guest) (a1 : Int) : evalI (cfgQ (aget ctrV) (aget mctA) (aget pct0) (aget tct0)) tms_l_markGuestS N 12 42 .guest a0 a1 = E_l_markGuestS N a0 a1 := by kernel_rfl

theorem law_l_markGuestS (a0 : List Guest) (a1 : Int) (hb : CVB big (.s .guest a0)) (hc : l_markGuestS_c a0 a1 = true) : ∃ N, E_l_markGuestS N a0 a1 = some [.one (.s .guest (l_markGuestS_1 a0 a1)), .one (.i .i64 (l_markGuestS_2 a0 a1))] := by
  obtain ⟨h0, h1⟩ := pc_iff.1 hc
  have hl := hb.len
  refine ⟨NN, ?_⟩
  have hNN : ∀ {n : Nat}, n ≤ big → n < NN := fun h => NN_lt h
  generalize NN = N at hNN ⊢
  unfold E_l_markGuestS
  exact iter_mark MkGuest _ (fun k L => some [AV.one (.s .guest L), AV.one (.i .i64 k)]) (fun i L hi k rec h0 h1 hL => by
    have hw := wadd_up hi hL
    generalize hx : L[i] = x at h1 ⊢
    have hix : ∀ d, ix L (i : Int) d = x := fun d => (ix_ln hi d).trans hx
    simp only [mGuest, mkB] at h1
    have hn0 := mcL_nn MkIns.nn x.Prog
    have hn1 := mcL_nn MkSlot.nn x.Written
    have hn2 := mcL_nn MkSlot.nn x.Live
    have hn3 := mcL_nn MkInt.nn x.Seen
    have he0 := enL_eq MkIns.nx x.Prog (k)
    have he1 := enL_eq MkSlot.nx x.Written (enL nIns x.Prog (k) + 1 + 1)
    have he2 := enL_eq MkSlot.nx x.Live (enL nSlot x.Written (enL nIns x.Prog (k) + 1 + 1))
    have he3 := enL_eq MkInt.nx x.Seen (enL nSlot x.Live (enL nSlot x.Written (enL nIns x.Prog (k) + 1 + 1)) + 1 + 1 + 1 + 1 + 1 + 1 + 1 + 1 + 1)
    have c0 : l_markInsS_c x.Prog (k) = true := pc_true ⟨by omega, by unfold mkB; omega⟩
    have c1 : l_markSlotS_c x.Written (enL nIns x.Prog (k) + 1 + 1) = true := pc_true ⟨by omega, by unfold mkB; omega⟩
    have c2 : l_markSlotS_c x.Live (enL nSlot x.Written (enL nIns x.Prog (k) + 1 + 1)) = true := pc_true ⟨by omega, by unfold mkB; omega⟩
    have c3 : l_markIntS_c x.Seen (enL nSlot x.Live (enL nSlot x.Written (enL nIns x.Prog (k) + 1 + 1)) + 1 + 1 + 1 + 1 + 1 + 1 + 1 + 1 + 1) = true := pc_true ⟨by omega, by unfold mkB; omega⟩
    simp (disch := omega) only [share, ilt_ln hi, inb_ln hi, inb_set hi, hix, hw, up_nat, ln_set, ix_set hi, set_set, wadd_id, ine30, cT, c0, l_markInsS_1, l_markInsS_2, c1, l_markSlotS_1, l_markSlotS_2, c2, c3, l_markIntS_1, l_markIntS_2]
    rfl
    ) (fun L k rec => by simp only [ilt_end, cF]) a0 a1 N hl h0 h1 (hNN hl)
theorem holds_l_markGuestS : HoldsI Try.prog 42 mrun_l_markGuestS := by
  refine holdsI_of_eval (engQ_ok ctrV_ok mctA_ok pct0_ok tct0_ok) (fn_ok (by kernel_rfl)) ?_
  intro t l k c' k' hr h
  obtain ⟨W, v, S, hrep⟩ := hr
  have hb := CVB.of_rep hrep
  unfold mrun_l_markGuestS at h
  split at h
  · rename_i t2 l2 heq
    cases heq
    simp only [Option.some.injEq, Prod.mk.injEq] at h
    obtain ⟨hc, rfl, rfl⟩ := h
    obtain ⟨N, hN⟩ := law_l_markGuestS _ _ hb hc
    exact ⟨tms_l_markGuestS, N, 12, (nf_l_markGuestS N _ _).trans hN⟩
  · cases h


noncomputable def mctB : Mcts := [(26, mrun_l_markIntSS), (43, mrun_l_markKeptS), (42, mrun_l_markGuestS)] ++ mctA

theorem mctB_ok : ∀ f run, aget mctB f = some run → HoldsI Try.prog f run := mct_more mctA_ok (by
  intro x hx
  simp only [List.mem_cons, List.not_mem_nil, or_false] at hx
  rcases hx with rfl | rfl | rfl
  · exact holds_l_markIntSS
  · exact holds_l_markKeptS
  · exact holds_l_markGuestS)



noncomputable def l_markMonS_c (l : List Mon) (k : Int) : Bool := pc (0 ≤ k ∧ k + mcL mMon l ≤ mkB)
def l_markMonS_1 (l : List Mon) (k : Int) : List Mon := mkL fMon nMon l k
def l_markMonS_2 (l : List Mon) (k : Int) : Int := enL nMon l k
noncomputable def mrun_l_markMonS : CV → Int → Option (Bool × CV × Int)
  | .s .mon l, k => some (l_markMonS_c l k, .s .mon (l_markMonS_1 l k), l_markMonS_2 l k)
  | _, _ => none

noncomputable def E_l_markMonS (N : Nat) (a0 : List Mon) (a1 : Int) : Option Ans :=
  (iter (σ := (Int × (Int × ((List Mon) × Unit)))) N (fun r3 s4 => (bif (ilt s4.2.1 (ln s4.2.2.1)) then (bif (inb s4.2.1 (ln s4.2.2.1)) then (bif (l_markSlotS_c (ix s4.2.2.1 s4.2.1 (Ty.dflt .mon)).Outer s4.1) then (share (up s4.2.2.1 s4.2.1 ({ (ix s4.2.2.1 s4.2.1 (Ty.dflt .mon)) with Outer := (l_markSlotS_1 (ix s4.2.2.1 s4.2.1 (Ty.dflt .mon)).Outer s4.1) } : Mon)) (fun x5 => (bif (inb s4.2.1 (ln x5)) then (bif (l_markIntSS_c (ix x5 s4.2.1 (Ty.dflt .mon)).Out (l_markSlotS_2 (ix s4.2.2.1 s4.2.1 (Ty.dflt .mon)).Outer s4.1)) then (share (up x5 s4.2.1 ({ (ix x5 s4.2.1 (Ty.dflt .mon)) with Out := (l_markIntSS_1 (ix x5 s4.2.1 (Ty.dflt .mon)).Out (l_markSlotS_2 (ix s4.2.2.1 s4.2.1 (Ty.dflt .mon)).Outer s4.1)) } : Mon)) (fun x6 => (bif (inb s4.2.1 (ln x6)) then (bif (l_markBoolS_c (ix x6 s4.2.1 (Ty.dflt .mon)).Dirty (l_markIntSS_2 (ix x5 s4.2.1 (Ty.dflt .mon)).Out (l_markSlotS_2 (ix s4.2.2.1 s4.2.1 (Ty.dflt .mon)).Outer s4.1))) then (share (up x6 s4.2.1 ({ (ix x6 s4.2.1 (Ty.dflt .mon)) with Dirty := (l_markBoolS_1 (ix x6 s4.2.1 (Ty.dflt .mon)).Dirty (l_markIntSS_2 (ix x5 s4.2.1 (Ty.dflt .mon)).Out (l_markSlotS_2 (ix s4.2.2.1 s4.2.1 (Ty.dflt .mon)).Outer s4.1))) } : Mon)) (fun x7 => (bif (inb s4.2.1 (ln x7)) then (bif (l_markGuestS_c (ix x7 s4.2.1 (Ty.dflt .mon)).Guests (l_markBoolS_2 (ix x6 s4.2.1 (Ty.dflt .mon)).Dirty (l_markIntSS_2 (ix x5 s4.2.1 (Ty.dflt .mon)).Out (l_markSlotS_2 (ix s4.2.2.1 s4.2.1 (Ty.dflt .mon)).Outer s4.1)))) then (share (up x7 s4.2.1 ({ (ix x7 s4.2.1 (Ty.dflt .mon)) with Guests := (l_markGuestS_1 (ix x7 s4.2.1 (Ty.dflt .mon)).Guests (l_markBoolS_2 (ix x6 s4.2.1 (Ty.dflt .mon)).Dirty (l_markIntSS_2 (ix x5 s4.2.1 (Ty.dflt .mon)).Out (l_markSlotS_2 (ix s4.2.2.1 s4.2.1 (Ty.dflt .mon)).Outer s4.1)))) } : Mon)) (fun x8 => (bif (inb s4.2.1 (ln x8)) then (bif (l_markIntS_c (ix x8 s4.2.1 (Ty.dflt .mon)).Outs (l_markGuestS_2 (ix x7 s4.2.1 (Ty.dflt .mon)).Guests (l_markBoolS_2 (ix x6 s4.2.1 (Ty.dflt .mon)).Dirty (l_markIntSS_2 (ix x5 s4.2.1 (Ty.dflt .mon)).Out (l_markSlotS_2 (ix s4.2.2.1 s4.2.1 (Ty.dflt .mon)).Outer s4.1))))) then (share (up x8 s4.2.1 ({ (ix x8 s4.2.1 (Ty.dflt .mon)) with Outs := (l_markIntS_1 (ix x8 s4.2.1 (Ty.dflt .mon)).Outs (l_markGuestS_2 (ix x7 s4.2.1 (Ty.dflt .mon)).Guests (l_markBoolS_2 (ix x6 s4.2.1 (Ty.dflt .mon)).Dirty (l_markIntSS_2 (ix x5 s4.2.1 (Ty.dflt .mon)).Out (l_markSlotS_2 (ix s4.2.2.1 s4.2.1 (Ty.dflt .mon)).Outer s4.1))))) } : Mon)) (fun x9 => (bif (inb s4.2.1 (ln x9)) then (share (up x9 s4.2.1 ({ (ix x9 s4.2.1 (Ty.dflt .mon)) with Pending := (l_markIntS_2 (ix x8 s4.2.1 (Ty.dflt .mon)).Outs (l_markGuestS_2 (ix x7 s4.2.1 (Ty.dflt .mon)).Guests (l_markBoolS_2 (ix x6 s4.2.1 (Ty.dflt .mon)).Dirty (l_markIntSS_2 (ix x5 s4.2.1 (Ty.dflt .mon)).Out (l_markSlotS_2 (ix s4.2.2.1 s4.2.1 (Ty.dflt .mon)).Outer s4.1))))) } : Mon)) (fun x10 => (bif (inb s4.2.1 (ln x10)) then (share (up x10 s4.2.1 ({ (ix x10 s4.2.1 (Ty.dflt .mon)) with Traps := (wadd .i64 (l_markIntS_2 (ix x8 s4.2.1 (Ty.dflt .mon)).Outs (l_markGuestS_2 (ix x7 s4.2.1 (Ty.dflt .mon)).Guests (l_markBoolS_2 (ix x6 s4.2.1 (Ty.dflt .mon)).Dirty (l_markIntSS_2 (ix x5 s4.2.1 (Ty.dflt .mon)).Out (l_markSlotS_2 (ix s4.2.2.1 s4.2.1 (Ty.dflt .mon)).Outer s4.1))))) 1) } : Mon)) (fun x11 => (bif (inb s4.2.1 (ln x11)) then (bif (l_markKeptS_c (ix x11 s4.2.1 (Ty.dflt .mon)).Tables (wadd .i64 (wadd .i64 (l_markIntS_2 (ix x8 s4.2.1 (Ty.dflt .mon)).Outs (l_markGuestS_2 (ix x7 s4.2.1 (Ty.dflt .mon)).Guests (l_markBoolS_2 (ix x6 s4.2.1 (Ty.dflt .mon)).Dirty (l_markIntSS_2 (ix x5 s4.2.1 (Ty.dflt .mon)).Out (l_markSlotS_2 (ix s4.2.2.1 s4.2.1 (Ty.dflt .mon)).Outer s4.1))))) 1) 1)) then (share (up x11 s4.2.1 ({ (ix x11 s4.2.1 (Ty.dflt .mon)) with Tables := (l_markKeptS_1 (ix x11 s4.2.1 (Ty.dflt .mon)).Tables (wadd .i64 (wadd .i64 (l_markIntS_2 (ix x8 s4.2.1 (Ty.dflt .mon)).Outs (l_markGuestS_2 (ix x7 s4.2.1 (Ty.dflt .mon)).Guests (l_markBoolS_2 (ix x6 s4.2.1 (Ty.dflt .mon)).Dirty (l_markIntSS_2 (ix x5 s4.2.1 (Ty.dflt .mon)).Out (l_markSlotS_2 (ix s4.2.2.1 s4.2.1 (Ty.dflt .mon)).Outer s4.1))))) 1) 1)) } : Mon)) (fun x12 => (bif (inb s4.2.1 (ln x12)) then (share (up x12 s4.2.1 ({ (ix x12 s4.2.1 (Ty.dflt .mon)) with Own := (l_markKeptS_2 (ix x11 s4.2.1 (Ty.dflt .mon)).Tables (wadd .i64 (wadd .i64 (l_markIntS_2 (ix x8 s4.2.1 (Ty.dflt .mon)).Outs (l_markGuestS_2 (ix x7 s4.2.1 (Ty.dflt .mon)).Guests (l_markBoolS_2 (ix x6 s4.2.1 (Ty.dflt .mon)).Dirty (l_markIntSS_2 (ix x5 s4.2.1 (Ty.dflt .mon)).Out (l_markSlotS_2 (ix s4.2.2.1 s4.2.1 (Ty.dflt .mon)).Outer s4.1))))) 1) 1)) } : Mon)) (fun x13 => (r3 ((wadd .i64 (l_markKeptS_2 (ix x11 s4.2.1 (Ty.dflt .mon)).Tables (wadd .i64 (wadd .i64 (l_markIntS_2 (ix x8 s4.2.1 (Ty.dflt .mon)).Outs (l_markGuestS_2 (ix x7 s4.2.1 (Ty.dflt .mon)).Guests (l_markBoolS_2 (ix x6 s4.2.1 (Ty.dflt .mon)).Dirty (l_markIntSS_2 (ix x5 s4.2.1 (Ty.dflt .mon)).Out (l_markSlotS_2 (ix s4.2.2.1 s4.2.1 (Ty.dflt .mon)).Outer s4.1))))) 1) 1)) 1), ((wadd .i64 s4.2.1 1), (x13, ())))))) else none))) else none) else none))) else none))) else none))) else none) else none))) else none) else none))) else none) else none))) else none) else none))) else none) else none) else (some [(.one (.s .mon s4.2.2.1)), (.one (.i .i64 s4.1))]))) (a1, (0, (a0, ()))))

def tms_l_markMonS : FuncId → Nat → Option Tmpl := tmsOf [(27, 0, { n := 76, tm := [(0, .sl 0 []), (1, .i .i64), (5, .i .i64)], lo := [], ro := [(0, .mon, true)] })]

theorem nf_l_markMonS (N : Nat) (a0 : List Mon) (a1 : Int) : evalI (cfgQ (aget ctrV) (aget mctB) (aget pct0) (aget tct0)) tms_l_markMonS N 12 27 .mon a0 a1 = E_l_markMonS N a0 a1 := by kernel_rfl

theorem law_l_markMonS (a0 : List Mon) (a1 : Int) (hb : CVB big (.s .mon a0)) (hc : l_markMonS_c a0 a1 = true) : ∃ N, E_l_markMonS N a0 a1 = some [.one (.s .mon (l_markMonS_1 a0 a1)), .one (.i .i64 (l_markMonS_2 a0 a1))] := by
  obtain ⟨h0, h1⟩ := pc_iff.1 hc
  have hl := hb.len
  refine ⟨NN, ?_⟩
  have hNN : ∀ {n : Nat}, n ≤ big → n < NN := fun h => NN_lt h
  generalize NN = N at hNN ⊢
  unfold E_l_markMonS
  exact iter_mark MkMon _ (fun k L => some [AV.one (.s .mon L), AV.one (.i .i64 k)]) (fun i L hi k rec h0 h1 hL => by
    have hw := wadd_up hi hL
    generalize hx : L[i] = x at h1 ⊢
    have hix : ∀ d, ix L (i : Int) d = x := fun d => (ix_ln hi d).trans hx
    simp only [mMon, mkB] at h1
    have hn0 := mcL_nn MkSlot.nn x.Outer
    have hn1 := mcL_nn MkIntS.nn x.Out
    have hn2 := mcL_nn MkBool.nn x.Dirty
    have hn3 := mcL_nn MkGuest.nn x.Guests
    have hn4 := mcL_nn MkInt.nn x.Outs
    have hn5 := mcL_nn MkKept.nn x.Tables
    have he0 := enL_eq MkSlot.nx x.Outer (k)
    have he1 := enL_eq MkIntS.nx x.Out (enL nSlot x.Outer (k))
    have he2 := enL_eq MkBool.nx x.Dirty (enL nIntS x.Out (enL nSlot x.Outer (k)))
    have he3 := enL_eq MkGuest.nx x.Guests (enL nBool x.Dirty (enL nIntS x.Out (enL nSlot x.Outer (k))))
    have he4 := enL_eq MkInt.nx x.Outs (enL nGuest x.Guests (enL nBool x.Dirty (enL nIntS x.Out (enL nSlot x.Outer (k)))))
    have he5 := enL_eq MkKept.nx x.Tables (enL nInt x.Outs (enL nGuest x.Guests (enL nBool x.Dirty (enL nIntS x.Out (enL nSlot x.Outer (k))))) + 1 + 1)
    have c0 : l_markSlotS_c x.Outer (k) = true := pc_true ⟨by omega, by unfold mkB; omega⟩
    have c1 : l_markIntSS_c x.Out (enL nSlot x.Outer (k)) = true := pc_true ⟨by omega, by unfold mkB; omega⟩
    have c2 : l_markBoolS_c x.Dirty (enL nIntS x.Out (enL nSlot x.Outer (k))) = true := pc_true ⟨by omega, by unfold mkB; omega⟩
    have c3 : l_markGuestS_c x.Guests (enL nBool x.Dirty (enL nIntS x.Out (enL nSlot x.Outer (k)))) = true := pc_true ⟨by omega, by unfold mkB; omega⟩
    have c4 : l_markIntS_c x.Outs (enL nGuest x.Guests (enL nBool x.Dirty (enL nIntS x.Out (enL nSlot x.Outer (k))))) = true := pc_true ⟨by omega, by unfold mkB; omega⟩
    have c5 : l_markKeptS_c x.Tables (enL nInt x.Outs (enL nGuest x.Guests (enL nBool x.Dirty (enL nIntS x.Out (enL nSlot x.Outer (k))))) + 1 + 1) = true := pc_true ⟨by omega, by unfold mkB; omega⟩
    simp (disch := omega) only [share, ilt_ln hi, inb_ln hi, inb_set hi, hix, hw, up_nat, ln_set, ix_set hi, set_set, wadd_id, ine30, cT, c0, l_markSlotS_1, l_markSlotS_2, c1, l_markIntSS_1, l_markIntSS_2, c2, l_markBoolS_1, l_markBoolS_2, c3, l_markGuestS_1, l_markGuestS_2, c4, l_markIntS_1, l_markIntS_2, c5, l_markKeptS_1, l_markKeptS_2]
    rfl
    ) (fun L k rec => by simp only [ilt_end, cF]) a0 a1 N hl h0 h1 (hNN hl)
theorem holds_l_markMonS : HoldsI Try.prog 27 mrun_l_markMonS := by
  refine holdsI_of_eval (engQ_ok ctrV_ok mctB_ok pct0_ok tct0_ok) (fn_ok (by kernel_rfl)) ?_
  intro t l k c' k' hr h
  obtain ⟨W, v, S, hrep⟩ := hr
  have hb := CVB.of_rep hrep
  unfold mrun_l_markMonS at h
  split at h
  · rename_i t2 l2 heq
    cases heq
    simp only [Option.some.injEq, Prod.mk.injEq] at h
    obtain ⟨hc, rfl, rfl⟩ := h
    obtain ⟨N, hN⟩ := law_l_markMonS _ _ hb hc
    exact ⟨tms_l_markMonS, N, 12, (nf_l_markMonS N _ _).trans hN⟩
  · cases h



noncomputable def mctC : Mcts := [(27, mrun_l_markMonS)] ++ mctB

theorem mctC_ok : ∀ f run, aget mctC f = some run → HoldsI Try.prog f run := mct_more mctB_ok (by
  intro x hx
  simp only [List.mem_cons, List.not_mem_nil, or_false] at hx
  rcases hx with rfl
  · exact holds_l_markMonS)


noncomputable def l_heldIntS_c (l : List Int) (k : Int) : Bool := pc (mkL fInt nInt l k = l ∧ 0 ≤ k ∧ k + mcL mInt l ≤ mkB)
def l_heldIntS (l : List Int) (k : Int) : Int := enL nInt l k
noncomputable def run_l_heldIntS : List AV → Option (Bool × List AV)
  | [.one (.s .int a0), .one (.i .i64 a1)] => some ((l_heldIntS_c a0 a1), [.one (.i .i64 (l_heldIntS a0 a1))])
  | _ => none

noncomputable def E_l_heldIntS (N : Nat) (a0 : List Int) (a1 : Int) : Option Ans :=
  (iter (σ := (Int × (Int × ((List Int) × Unit)))) N (fun r3 s4 => (bif (ilt s4.2.1 (ln s4.2.2.1)) then (bif (inb s4.2.1 (ln s4.2.2.1)) then (bif (ine (ix s4.2.2.1 s4.2.1 0) s4.1) then (some [(.one (.i .i64 (-1)))]) else (r3 ((wadd .i64 s4.1 1), ((wadd .i64 s4.2.1 1), (s4.2.2.1, ()))))) else none) else (some [(.one (.i .i64 s4.1))]))) (a1, (0, (a0, ()))))

def tms_l_heldIntS : FuncId → Nat → Option Tmpl := tmsOf [(12, 0, { n := 21, tm := [(0, .sl 0 []), (1, .i .i64), (5, .i .i64)], lo := [], ro := [(0, .int, false)] })]

theorem nf_l_heldIntS (N : Nat) (a0 : List Int) (a1 : Int) : evalFn (cfgQ (aget ctrV) (aget mctC) (aget pct0) (aget tct0)) tms_l_heldIntS N 12 12 [.one (.s .int a0), .one (.i .i64 a1)] = E_l_heldIntS N a0 a1 := by kernel_rfl

theorem law_l_heldIntS (a0 : List Int) (a1 : Int) (hb : AllB big [.one (.s .int a0), .one (.i .i64 a1)]) (hc : (l_heldIntS_c a0 a1) = true) : ∃ N, E_l_heldIntS N a0 a1 = some [.one (.i .i64 (l_heldIntS a0 a1))] := by
  obtain ⟨he, h0, h1⟩ := pc_iff.1 hc
  have hl := ((allB_cons hb).1 _ (List.mem_singleton.2 rfl)).len
  refine ⟨NN, ?_⟩
  have hNN : ∀ {n : Nat}, n ≤ big → n < NN := fun h => NN_lt h
  generalize NN = N at hNN ⊢
  unfold E_l_heldIntS
  exact iter_held MkInt a0 _ (fun k => some [AV.one (.i .i64 k)]) (fun i hi k rec he h0 h1 => by
    have hw := wadd_up hi hl
    have hix : ∀ d, ix a0 (i : Int) d = a0[i] := fun d => ix_ln hi d
    generalize a0[i] = x at he h1 hix ⊢
    simp only [mInt, mkB] at h1
    rw [← he] at hix
    simp (disch := omega) only [ilt_ln hi, inb_ln hi, hix, fInt, hw, wadd_id, ine30, ine_self, beqb_self, cT, cF]
    rfl
    ) (fun k rec => by simp only [ilt_end, cF]) a1 N he h0 h1 (hNN hl)
theorem holds_l_heldIntS : Holds Try.prog 12 run_l_heldIntS := by
  refine holds_of_eval (engQ_ok ctrV_ok mctC_ok pct0_ok tct0_ok) (fn_ok (by kernel_rfl)) ?_
  intro avs rs hr h
  have hb := allB_of_rep hr
  unfold run_l_heldIntS at h
  split at h
  · rename_i a0 a1
    obtain ⟨hc, rfl⟩ := some_pair h
    obtain ⟨N, hN⟩ := law_l_heldIntS a0 a1 hb hc
    exact ⟨tms_l_heldIntS, N, 12, (nf_l_heldIntS N a0 a1).trans hN⟩
  · cases h








noncomputable def ctrH1 : Ctrs := [(12, run_l_heldIntS)] ++ ctrV

theorem ctrH1_ok : ∀ f run, aget ctrH1 f = some run → Holds Try.prog f run := ctr_more ctrV_ok (by
  intro x hx
  simp only [List.mem_cons, List.not_mem_nil, or_false] at hx
  rcases hx with rfl
  · exact holds_l_heldIntS)






noncomputable def ctrH2 : Ctrs := ctrH1
theorem ctrH2_ok : ∀ f run, aget ctrH2 f = some run → Holds Try.prog f run := ctrH1_ok





noncomputable def ctrH3 : Ctrs := ctrH2
theorem ctrH3_ok : ∀ f run, aget ctrH3 f = some run → Holds Try.prog f run := ctrH2_ok


noncomputable def ctrU : Ctrs := ctrH3
theorem ctrU_ok : ∀ f run, aget ctrU f = some run → Holds Try.prog f run := ctrH3_ok

end Go.Proofs.Ytkpakifgplcolaa.E
