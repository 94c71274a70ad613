/- What is proved here: contracts of the exact laws' own functions that write numbers into what was handed in, and that look whether they stand there. -/
import Derived.Test.YtcfnaifggdelnaaA6
import Derived.KernelRfl
namespace Go.Proofs.Ytcfnaifggdelnaa.E
open Go
set_option maxRecDepth 100000
set_option linter.unusedVariables false
set_option linter.unusedSimpArgs false

def mkB : Int := 4611686018427387904

section
variable {α : Type}
def mcL (m : α → Int) : List α → Int
  | [] => 0
  | x :: l => m x + mcL m l
def mkL (f : α → Int → α) (nx : α → Int → Int) : List α → Int → List α
  | [], _ => []
  | x :: l, k => f x k :: mkL f nx l (nx x k)
def enL (nx : α → Int → Int) : List α → Int → Int
  | [], k => k
  | x :: l, k => enL nx l (nx x k)

/-- What is written, what number comes next, how many numbers there are. -/
structure Mk (f : α → Int → α) (nx : α → Int → Int) (m : α → Int) : Prop where
  nn : ∀ x, 0 ≤ m x
  nx : ∀ x k, nx x k = k + m x
  f2 : ∀ x k, f (f x k) k = f x k
  m2 : ∀ x k, m (f x k) = m x

variable {f : α → Int → α} {nx : α → Int → Int} {m : α → Int}

theorem mcL_nn (h : ∀ x, 0 ≤ m x) : ∀ l : List α, 0 ≤ mcL m l
  | [] => Int.le_refl _
  | x :: l => by
    have h1 := h x
    have h2 := mcL_nn h l
    simp only [mcL]; omega
theorem enL_eq (h : ∀ x k, nx x k = k + m x) : ∀ (l : List α) (k : Int), enL nx l k = k + mcL m l
  | [], k => by simp [enL, mcL]
  | x :: l, k => by
    have h2 := enL_eq h l (nx x k)
    simp only [enL, mcL]
    rw [h2, h]; omega
theorem mkL_len : ∀ (l : List α) (k : Int), (mkL f nx l k).length = l.length
  | [], _ => rfl
  | x :: l, k => by simp only [mkL, List.length_cons, mkL_len l]
theorem mkL_m (h : Mk f nx m) : ∀ (l : List α) (k : Int), mcL m (mkL f nx l k) = mcL m l
  | [], _ => rfl
  | x :: l, k => by simp only [mkL, mcL, mkL_m h l, h.m2]
theorem mkL_2 (h : Mk f nx m) : ∀ (l : List α) (k : Int), mkL f nx (mkL f nx l k) k = mkL f nx l k
  | [], _ => rfl
  | x :: l, k => by
    have e : nx (f x k) k = nx x k := by rw [h.nx, h.nx, h.m2]
    simp only [mkL, h.f2, e, mkL_2 h l]
/-- A list of such is such. -/
theorem Mk.list (h : Mk f nx m) : Mk (fun l k => mkL f nx l k) (fun l k => enL nx l k) (fun l => mcL m l) :=
  ⟨fun l => mcL_nn h.nn l, fun l k => enL_eq h.nx l k, fun l k => mkL_2 h l k, fun l k => mkL_m h l k⟩

theorem iter_mark {ρ : Type} (h : Mk f nx m) (F : (Int × Int × List α × Unit → Option ρ) → Int × Int × List α × Unit → Option ρ) (K : Int → List α → Option ρ)
    (hstep : ∀ (i : Nat) (L : List α) (hi : i < L.length) (k : Int) (rec : Int × Int × List α × Unit → Option ρ), 0 ≤ k → k + m L[i] ≤ mkB → L.length ≤ big → F rec (k, (i : Int), L, ()) = rec (nx L[i] k, ((i + 1 : Nat) : Int), L.set i (f L[i] k), ()))
    (hend : ∀ (L : List α) (k : Int) (rec : Int × Int × List α × Unit → Option ρ), F rec (k, (L.length : Int), L, ()) = K k L) :
    ∀ (l : List α) (k : Int) (N : Nat), l.length ≤ big → 0 ≤ k → k + mcL m l ≤ mkB → l.length < N → iter N F (k, 0, l, ()) = K (enL nx l k) (mkL f nx l k) := by
  have key : ∀ (rest done : List α) (k : Int) (N : Nat), (done ++ rest).length ≤ big → 0 ≤ k → k + mcL m rest ≤ mkB → rest.length < N → iter N F (k, (done.length : Int), done ++ rest, ()) = K (enL nx rest k) (done ++ mkL f nx rest k) := by
    intro rest
    induction rest with
    | nil =>
      intro done k N hl h0 h1 hN
      obtain ⟨n, rfl⟩ : ∃ n, N = n + 1 := ⟨N - 1, by simp at hN; omega⟩
      rw [iter_succ]
      simp only [List.append_nil, mkL, enL]
      exact hend done k _
    | cons x rest ih =>
      intro done k N hl h0 h1 hN
      simp only [List.length_cons] at hN
      obtain ⟨n, rfl⟩ : ∃ n, N = n + 1 := ⟨N - 1, by omega⟩
      have hi : done.length < (done ++ x :: rest).length := by simp
      have hx : (done ++ x :: rest)[done.length] = x := by simp
      have hnn := h.nn x
      have hn2 := mcL_nn h.nn rest
      simp only [mcL] at h1
      rw [iter_succ, hstep done.length (done ++ x :: rest) hi k _ h0 (by rw [hx]; omega) hl, hx]
      have e : (done ++ x :: rest).set done.length (f x k) = (done ++ [f x k]) ++ rest := by simp
      have e2 : done.length + 1 = (done ++ [f x k]).length := by simp
      rw [e, e2, ih (done ++ [f x k]) (nx x k) n (by simpa using hl) (by rw [h.nx]; omega) (by rw [h.nx]; omega) (by omega)]
      simp [mkL, enL]
  intro l k N hl h0 h1 hN
  exact key l [] k N hl h0 h1 hN

theorem iter_held {ρ : Type} (h : Mk f nx m) (l : List α) (F : (Int × Int × List α × Unit → Option ρ) → Int × Int × List α × Unit → Option ρ) (K : Int → Option ρ)
    (hstep : ∀ (i : Nat) (hi : i < l.length) (k : Int) (rec : Int × Int × List α × Unit → Option ρ), f l[i] k = l[i] → 0 ≤ k → k + m l[i] ≤ mkB → F rec (k, (i : Int), l, ()) = rec (nx l[i] k, ((i + 1 : Nat) : Int), l, ()))
    (hend : ∀ (k : Int) (rec : Int × Int × List α × Unit → Option ρ), F rec (k, (l.length : Int), l, ()) = K k) :
    ∀ (k : Int) (N : Nat), mkL f nx l k = l → 0 ≤ k → k + mcL m l ≤ mkB → l.length < N → iter N F (k, 0, l, ()) = K (enL nx l k) := by
  have key : ∀ (j : Nat) (i : Nat) (k : Int) (N : Nat), l.length - i = j → i ≤ l.length → mkL f nx (l.drop i) k = l.drop i → 0 ≤ k → k + mcL m (l.drop i) ≤ mkB → j < N → iter N F (k, (i : Int), l, ()) = K (enL nx (l.drop i) k) := by
    intro j
    induction j with
    | zero =>
      intro i k N hj hi he h0 h1 hN
      have : i = l.length := by omega
      subst this
      obtain ⟨n, rfl⟩ : ∃ n, N = n + 1 := ⟨N - 1, by omega⟩
      rw [iter_succ, hend, List.drop_length]
      rfl
    | succ j ih =>
      intro i k N hj hi he h0 h1 hN
      obtain ⟨n, rfl⟩ : ∃ n, N = n + 1 := ⟨N - 1, by omega⟩
      have hlt : i < l.length := by omega
      have hd := List.drop_eq_getElem_cons hlt
      rw [hd] at he h1 ⊢
      simp only [mkL, List.cons.injEq] at he
      simp only [mcL] at h1
      have hnn := h.nn l[i]
      have hn2 := mcL_nn h.nn (l.drop (i + 1))
      rw [iter_succ, hstep i hlt k _ he.1 h0 (by omega)]
      simp only [enL]
      exact ih (i + 1) (nx l[i] k) n (by omega) (by omega) he.2 (by rw [h.nx]; omega) (by rw [h.nx]; omega) (by omega)
  intro k N he h0 h1 hN
  have := key l.length 0 k N (by omega) (Nat.zero_le _) (by simpa using he) h0 (by simpa using h1) hN
  simpa using this
end

section
variable {α : Type}
theorem up_nat (l : List α) (i : Nat) (x : α) : up l (i : Int) x = l.set i x := by simp [up]
theorem ln_set (l : List α) (i : Nat) (x : α) : ln (l.set i x) = ln l := by simp [ln]
theorem ix_set {l : List α} {i : Nat} (h : i < l.length) (x d : α) : ix (l.set i x) (i : Int) d = x := by simp [ix, List.getD, h]
theorem set_set (l : List α) (i : Nat) (x y : α) : (l.set i x).set i y = l.set i y := List.set_set ..
end
theorem ine30 : ine 3 0 = true := rfl
theorem ilt_nn {k : Int} (h : 0 ≤ k) : ilt k 0 = false := decide_eq_false (by omega)


theorem inb_set {α : Type} {l : List α} {i : Nat} (h : i < l.length) (x : α) : inb (i : Int) (ln (l.set i x)) = true := by rw [ln_set]; exact inb_ln h


def fInt (_ : Int) (k : Int) : Int := k
def nInt (_ : Int) (k : Int) : Int := k + 1
def mInt (_ : Int) : Int := 1
theorem MkInt : Mk fInt nInt mInt := ⟨fun _ => by unfold mInt; decide, fun _ _ => rfl, fun _ _ => rfl, fun _ _ => rfl⟩

def fBool (_ : Bool) (k : Int) : Bool := ieq (wrem k 3) 0
def nBool (_ : Bool) (k : Int) : Int := k + 1
def mBool (_ : Bool) : Int := 1
theorem MkBool : Mk fBool nBool mBool := ⟨fun _ => by unfold mBool; decide, fun _ _ => rfl, fun _ _ => rfl, fun _ _ => rfl⟩

def fSlot (_ : Slot) (k : Int) : Slot := ⟨k, k + 1⟩
def nSlot (_ : Slot) (k : Int) : Int := k + 1 + 1
def mSlot (_ : Slot) : Int := 2
theorem MkSlot : Mk fSlot nSlot mSlot := ⟨fun _ => by unfold mSlot; decide, fun _ k => by unfold nSlot mSlot; omega, fun _ _ => rfl, fun _ _ => rfl⟩

def fIns (_ : Ins) (k : Int) : Ins := ⟨k, k + 1⟩
def nIns (_ : Ins) (k : Int) : Int := k + 1 + 1
def mIns (_ : Ins) : Int := 2
theorem MkIns : Mk fIns nIns mIns := ⟨fun _ => by unfold mIns; decide, fun _ k => by unfold nIns mIns; omega, fun _ _ => rfl, fun _ _ => rfl⟩

def fEntry (_ : Entry) (k : Int) : Entry := ⟨k, k + 1, k + 1 + 1, k + 1 + 1 + 1⟩
def nEntry (_ : Entry) (k : Int) : Int := k + 1 + 1 + 1 + 1
def mEntry (_ : Entry) : Int := 4
theorem MkEntry : Mk fEntry nEntry mEntry := ⟨fun _ => by unfold mEntry; decide, fun _ k => by unfold nEntry mEntry; omega, fun _ _ => rfl, fun _ _ => rfl⟩

def fAct (_ : GAct) (k : Int) : GAct := ⟨k, k + 1, k + 1 + 1, k + 1 + 1 + 1, k + 1 + 1 + 1 + 1, k + 1 + 1 + 1 + 1 + 1⟩
def nAct (_ : GAct) (k : Int) : Int := k + 1 + 1 + 1 + 1 + 1 + 1
def mAct (_ : GAct) : Int := 6
theorem MkAct : Mk fAct nAct mAct := ⟨fun _ => by unfold mAct; decide, fun _ k => by unfold nAct mAct; omega, fun _ _ => rfl, fun _ _ => rfl⟩

def fTold (_ : Told) (k : Int) : Told := ⟨ieq (wrem (k) 3) 0, k + 1⟩
def nTold (_ : Told) (k : Int) : Int := k + 1 + 1
def mTold (_ : Told) : Int := 2
theorem MkTold : Mk fTold nTold mTold := ⟨fun _ => by unfold mTold; decide, fun _ k => by unfold nTold mTold; omega, fun _ _ => rfl, fun _ _ => rfl⟩

def fIntS (l : List Int) (k : Int) : List Int := mkL fInt nInt l k
def nIntS (l : List Int) (k : Int) : Int := enL nInt l k
def mIntS (l : List Int) : Int := mcL mInt l
theorem MkIntS : Mk fIntS nIntS mIntS := MkInt.list

def fInsS (l : List Ins) (k : Int) : List Ins := mkL fIns nIns l k
def nInsS (l : List Ins) (k : Int) : Int := enL nIns l k
def mInsS (l : List Ins) : Int := mcL mIns l
theorem MkInsS : Mk fInsS nInsS mInsS := MkIns.list

def fInsSS (l : List (List Ins)) (k : Int) : List (List Ins) := mkL fInsS nInsS l k
def nInsSS (l : List (List Ins)) (k : Int) : Int := enL nInsS l k
def mInsSS (l : List (List Ins)) : Int := mcL mInsS l
theorem MkInsSS : Mk fInsSS nInsSS mInsSS := MkInsS.list

def fKept (x : Kept) (k : Int) : Kept := ⟨mkL fBool nBool x.Known (k), mkL fSlot nSlot x.Slots (enL nBool x.Known (k))⟩
def nKept (x : Kept) (k : Int) : Int := enL nSlot x.Slots (enL nBool x.Known (k))
def mKept (x : Kept) : Int := mcL mBool x.Known + mcL mSlot x.Slots
theorem nn_Kept (x : Kept) : 0 ≤ mKept x := by
  have h0 := mcL_nn MkBool.nn x.Known
  have h1 := mcL_nn MkSlot.nn x.Slots
  unfold mKept; omega
theorem nx_Kept (x : Kept) (k : Int) : nKept x k = k + mKept x := by
  unfold nKept mKept
  simp only [enL_eq MkBool.nx, enL_eq MkSlot.nx]
  omega
theorem MkKept : Mk fKept nKept mKept := ⟨nn_Kept, nx_Kept, fun x k => by simp only [fKept, enL_eq MkBool.nx, enL_eq MkSlot.nx, mkL_m MkBool, mkL_m MkSlot, mkL_2 MkBool, mkL_2 MkSlot], fun x k => by simp only [mKept, fKept, mkL_m MkBool, mkL_m MkSlot]⟩

def fGuest (x : Guest) (k : Int) : Guest := ⟨mkL fIns nIns x.Prog (k), enL nIns x.Prog (k), enL nIns x.Prog (k) + 1, mkL fSlot nSlot x.Written (enL nIns x.Prog (k) + 1 + 1), mkL fSlot nSlot x.Live (enL nSlot x.Written (enL nIns x.Prog (k) + 1 + 1)), ⟨enL nSlot x.Live (enL nSlot x.Written (enL nIns x.Prog (k) + 1 + 1)), enL nSlot x.Live (enL nSlot x.Written (enL nIns x.Prog (k) + 1 + 1)) + 1, ieq (wrem (enL nSlot x.Live (enL nSlot x.Written (enL nIns x.Prog (k) + 1 + 1)) + 1 + 1) 3) 0⟩, enL nSlot x.Live (enL nSlot x.Written (enL nIns x.Prog (k) + 1 + 1)) + 1 + 1 + 1, ⟨enL nSlot x.Live (enL nSlot x.Written (enL nIns x.Prog (k) + 1 + 1)) + 1 + 1 + 1 + 1, enL nSlot x.Live (enL nSlot x.Written (enL nIns x.Prog (k) + 1 + 1)) + 1 + 1 + 1 + 1 + 1, ieq (wrem (enL nSlot x.Live (enL nSlot x.Written (enL nIns x.Prog (k) + 1 + 1)) + 1 + 1 + 1 + 1 + 1 + 1) 3) 0, enL nSlot x.Live (enL nSlot x.Written (enL nIns x.Prog (k) + 1 + 1)) + 1 + 1 + 1 + 1 + 1 + 1 + 1⟩, ieq (wrem (enL nSlot x.Live (enL nSlot x.Written (enL nIns x.Prog (k) + 1 + 1)) + 1 + 1 + 1 + 1 + 1 + 1 + 1 + 1) 3) 0, mkL fInt nInt x.Seen (enL nSlot x.Live (enL nSlot x.Written (enL nIns x.Prog (k) + 1 + 1)) + 1 + 1 + 1 + 1 + 1 + 1 + 1 + 1 + 1)⟩
def nGuest (x : Guest) (k : Int) : Int := enL nInt x.Seen (enL nSlot x.Live (enL nSlot x.Written (enL nIns x.Prog (k) + 1 + 1)) + 1 + 1 + 1 + 1 + 1 + 1 + 1 + 1 + 1)
def mGuest (x : Guest) : Int := mcL mIns x.Prog + mcL mSlot x.Written + mcL mSlot x.Live + mcL mInt x.Seen + 11
theorem nn_Guest (x : Guest) : 0 ≤ mGuest x := by
  have h0 := mcL_nn MkIns.nn x.Prog
  have h1 := mcL_nn MkSlot.nn x.Written
  have h2 := mcL_nn MkSlot.nn x.Live
  have h3 := mcL_nn MkInt.nn x.Seen
  unfold mGuest; omega
theorem nx_Guest (x : Guest) (k : Int) : nGuest x k = k + mGuest x := by
  unfold nGuest mGuest
  simp only [enL_eq MkIns.nx, enL_eq MkInt.nx, enL_eq MkSlot.nx]
  omega
theorem MkGuest : Mk fGuest nGuest mGuest := ⟨nn_Guest, nx_Guest, fun x k => by simp only [fGuest, enL_eq MkIns.nx, enL_eq MkInt.nx, enL_eq MkSlot.nx, mkL_m MkIns, mkL_m MkInt, mkL_m MkSlot, mkL_2 MkIns, mkL_2 MkInt, mkL_2 MkSlot], fun x k => by simp only [mGuest, fGuest, mkL_m MkIns, mkL_m MkInt, mkL_m MkSlot]⟩

def fMon (x : Mon) (k : Int) : Mon := ⟨mkL fSlot nSlot x.Outer (k), mkL fIntS nIntS x.Out (enL nSlot x.Outer (k)), mkL fBool nBool x.Dirty (enL nIntS x.Out (enL nSlot x.Outer (k))), mkL fGuest nGuest x.Guests (enL nBool x.Dirty (enL nIntS x.Out (enL nSlot x.Outer (k)))), mkL fInt nInt x.Outs (enL nGuest x.Guests (enL nBool x.Dirty (enL nIntS x.Out (enL nSlot x.Outer (k))))), enL nInt x.Outs (enL nGuest x.Guests (enL nBool x.Dirty (enL nIntS x.Out (enL nSlot x.Outer (k))))), enL nInt x.Outs (enL nGuest x.Guests (enL nBool x.Dirty (enL nIntS x.Out (enL nSlot x.Outer (k))))) + 1, mkL fKept nKept x.Tables (enL nInt x.Outs (enL nGuest x.Guests (enL nBool x.Dirty (enL nIntS x.Out (enL nSlot x.Outer (k))))) + 1 + 1), enL nKept x.Tables (enL nInt x.Outs (enL nGuest x.Guests (enL nBool x.Dirty (enL nIntS x.Out (enL nSlot x.Outer (k))))) + 1 + 1)⟩
def nMon (x : Mon) (k : Int) : Int := enL nKept x.Tables (enL nInt x.Outs (enL nGuest x.Guests (enL nBool x.Dirty (enL nIntS x.Out (enL nSlot x.Outer (k))))) + 1 + 1) + 1
def mMon (x : Mon) : Int := mcL mSlot x.Outer + mcL mIntS x.Out + mcL mBool x.Dirty + mcL mGuest x.Guests + mcL mInt x.Outs + mcL mKept x.Tables + 3
theorem nn_Mon (x : Mon) : 0 ≤ mMon x := by
  have h0 := mcL_nn MkSlot.nn x.Outer
  have h1 := mcL_nn MkIntS.nn x.Out
  have h2 := mcL_nn MkBool.nn x.Dirty
  have h3 := mcL_nn MkGuest.nn x.Guests
  have h4 := mcL_nn MkInt.nn x.Outs
  have h5 := mcL_nn MkKept.nn x.Tables
  unfold mMon; omega
theorem nx_Mon (x : Mon) (k : Int) : nMon x k = k + mMon x := by
  unfold nMon mMon
  simp only [enL_eq MkBool.nx, enL_eq MkGuest.nx, enL_eq MkInt.nx, enL_eq MkIntS.nx, enL_eq MkKept.nx, enL_eq MkSlot.nx]
  omega
theorem MkMon : Mk fMon nMon mMon := ⟨nn_Mon, nx_Mon, fun x k => by simp only [fMon, enL_eq MkBool.nx, enL_eq MkGuest.nx, enL_eq MkInt.nx, enL_eq MkIntS.nx, enL_eq MkKept.nx, enL_eq MkSlot.nx, mkL_m MkBool, mkL_m MkGuest, mkL_m MkInt, mkL_m MkIntS, mkL_m MkKept, mkL_m MkSlot, mkL_2 MkBool, mkL_2 MkGuest, mkL_2 MkInt, mkL_2 MkIntS, mkL_2 MkKept, mkL_2 MkSlot], fun x k => by simp only [mMon, fMon, mkL_m MkBool, mkL_m MkGuest, mkL_m MkInt, mkL_m MkIntS, mkL_m MkKept, mkL_m MkSlot]⟩

def fBare (x : Bare) (k : Int) : Bare := ⟨mkL fIntS nIntS x.Memory (k), mkL fGuest nGuest x.Guests (enL nIntS x.Memory (k)), mkL fInt nInt x.Outs (enL nGuest x.Guests (enL nIntS x.Memory (k))), enL nInt x.Outs (enL nGuest x.Guests (enL nIntS x.Memory (k)))⟩
def nBare (x : Bare) (k : Int) : Int := enL nInt x.Outs (enL nGuest x.Guests (enL nIntS x.Memory (k))) + 1
def mBare (x : Bare) : Int := mcL mIntS x.Memory + mcL mGuest x.Guests + mcL mInt x.Outs + 1
theorem nn_Bare (x : Bare) : 0 ≤ mBare x := by
  have h0 := mcL_nn MkIntS.nn x.Memory
  have h1 := mcL_nn MkGuest.nn x.Guests
  have h2 := mcL_nn MkInt.nn x.Outs
  unfold mBare; omega
theorem nx_Bare (x : Bare) (k : Int) : nBare x k = k + mBare x := by
  unfold nBare mBare
  simp only [enL_eq MkGuest.nx, enL_eq MkInt.nx, enL_eq MkIntS.nx]
  omega
theorem MkBare : Mk fBare nBare mBare := ⟨nn_Bare, nx_Bare, fun x k => by simp only [fBare, enL_eq MkGuest.nx, enL_eq MkInt.nx, enL_eq MkIntS.nx, mkL_m MkGuest, mkL_m MkInt, mkL_m MkIntS, mkL_2 MkGuest, mkL_2 MkInt, mkL_2 MkIntS], fun x k => by simp only [mBare, fBare, mkL_m MkGuest, mkL_m MkInt, mkL_m MkIntS]⟩








noncomputable def mctA : Mcts := mct0
theorem mctA_ok : ∀ f run, aget mctA f = some run → HoldsI Try.prog f run := mct0_ok






noncomputable def mctB : Mcts := mctA
theorem mctB_ok : ∀ f run, aget mctB f = some run → HoldsI Try.prog f run := mctA_ok





noncomputable def mctC : Mcts := mctB
theorem mctC_ok : ∀ f run, aget mctC f = some run → HoldsI Try.prog f run := mctB_ok









noncomputable def ctrH1 : Ctrs := ctrV
theorem ctrH1_ok : ∀ f run, aget ctrH1 f = some run → Holds Try.prog f run := ctrV_ok






noncomputable def ctrH2 : Ctrs := ctrH1
theorem ctrH2_ok : ∀ f run, aget ctrH2 f = some run → Holds Try.prog f run := ctrH1_ok





noncomputable def ctrH3 : Ctrs := ctrH2
theorem ctrH3_ok : ∀ f run, aget ctrH3 f = some run → Holds Try.prog f run := ctrH2_ok


noncomputable def ctrU : Ctrs := ctrH3
theorem ctrU_ok : ∀ f run, aget ctrU f = some run → Holds Try.prog f run := ctrH3_ok

end Go.Proofs.Ytcfnaifggdelnaa.E
