/- What is proved here: contracts of what IsDirty, DirtOf, DirtyIn, OutOf, GuardedIn, ShareOf and Differ reach. -/
import Derived.Test.YtcfnaifggdelnaaA5
import Derived.KernelRfl
namespace Go.Proofs.Ytcfnaifggdelnaa.E
open Go
set_option maxRecDepth 100000
set_option linter.unusedVariables false
set_option linter.unusedSimpArgs false

theorem hE (h : Host) : (⟨h.Memory, h.Mons, h.Buffer, h.IoBuffer⟩ : Host) = h := rfl

/-- The places of those for which a condition holds. -/
def idxs {α : Type} (p : α → Bool) : List α → Nat → List Int
  | [], _ => []
  | x :: l, i => bif p x then (i : Int) :: idxs p l (i + 1) else idxs p l (i + 1)

theorem idxs_len {α : Type} (p : α → Bool) : ∀ (l : List α) (i : Nat), (idxs p l i).length ≤ l.length
  | [], _ => Nat.le_refl _
  | x :: l, i => by
    have := idxs_len p l (i + 1)
    simp only [idxs]
    cases p x <;> simp <;> omega

theorem goL_idxs {α ρ : Type} (p : α → Bool) (K : List Int → Option ρ) : ∀ (l : List α) (i : Nat) (acc : List Int), acc.length + l.length ≤ 2147483648 →
    goL (fun i x acc k => bif p x then (bif few (ln (ap acc [(i : Int)])) then k (ap acc [(i : Int)]) else none) else k acc) K l i acc = K (acc ++ idxs p l i)
  | [], i, acc, _ => by simp [goL, idxs]
  | x :: l, i, acc, h => by
    simp only [List.length_cons] at h
    simp only [goL, idxs]
    cases p x
    · simp only [cF]
      exact goL_idxs p K l (i + 1) acc (by omega)
    · simp only [cT]
      rw [few_ln (by simp [ap]; omega), cT, goL_idxs p K l (i + 1) _ (by simp [ap]; omega)]
      simp [ap]

def idxN (p : Nat → Bool) : Nat → Nat → List Int
  | 0, _ => []
  | n + 1, i => bif p i then (i : Int) :: idxN p n (i + 1) else idxN p n (i + 1)

theorem goN_idxs {ρ : Type} (p : Nat → Bool) (K : List Int → Option ρ) : ∀ (n i : Nat) (acc : List Int), acc.length + n ≤ 2147483648 →
    goN (fun i acc k => bif p i then (bif few (ln (ap acc [(i : Int)])) then k (ap acc [(i : Int)]) else none) else k acc) K n i acc = K (acc ++ idxN p n i)
  | 0, i, acc, _ => by simp [goN, idxN]
  | n + 1, i, acc, h => by
    simp only [goN, idxN]
    cases p i
    · simp only [cF]
      exact goN_idxs p K n (i + 1) acc (by omega)
    · simp only [cT]
      rw [few_ln (by simp [ap]; omega), cT, goN_idxs p K n (i + 1) _ (by simp [ap]; omega)]
      simp [ap]

theorem idxN_len (p : Nat → Bool) : ∀ (n i : Nat), (idxN p n i).length ≤ n
  | 0, _ => Nat.le_refl _
  | n + 1, i => by
    have := idxN_len p n (i + 1)
    simp only [idxN]
    cases p i <;> simp <;> omega

theorem monOf_sm {h : Host} (hs : SmHost h) (m : Int) : ∀ c ∈ Ty.cells .mon (monOf h m), CVB sm c := by
  unfold monOf
  cases hh : hasB m (ln h.Mons)
  · have e : ∀ {t : Ty}, CVB sm (.s t []) := fun {t} => .s t [] (Nat.zero_le _) (fun x hx => by cases hx)
    intro c hc
    simp only [cF, Ty.cells, Ty.dflt, List.mem_cons, List.not_mem_nil, or_false] at hc
    rcases hc with rfl | rfl | rfl | rfl | rfl | rfl | rfl | rfl | rfl
    all_goals first | exact e | exact .i _ _
  · exact hs.mons.inv.2 _ (ix_mem hh _)

def dirtOf (h : Host) (m : Int) : List Bool := (monOf h m).Dirty
theorem dirtOf_sm {h : Host} (hs : SmHost h) (m : Int) : CVB sm (.s .bool (dirtOf h m)) := monOf_sm hs m (.s .bool (monOf h m).Dirty) (by simp [Ty.cells])


def dirtyIn (h : Host) (m : Int) : List Int := idxs (fun b => b) (dirtOf h m) 0
noncomputable def ctrD1 : Ctrs := ctrW
theorem ctrD1_ok : ∀ f run, aget ctrD1 f = some run → Holds Try.prog f run := ctrW_ok



/-- The first place at which a condition holds. -/
def fstAt {α : Type} (p : α → Bool) : List α → Nat → Int
  | [], _ => -1
  | x :: l, i => bif p x then (i : Int) else fstAt p l (i + 1)
theorem goL_fst {α ρ : Type} (p : α → Bool) (f : Int → Option ρ) : ∀ (l : List α) (i : Nat), goL (fun i x (_ : Unit) k => bif p x then f (i : Int) else k ()) (fun _ => f (-1)) l i () = f (fstAt p l i)
  | [], _ => rfl
  | x :: l, i => by
    simp only [goL, fstAt]
    cases p x
    · exact goL_fst p f l (i + 1)
    · rfl
theorem fstAt_any {α : Type} (p : α → Bool) : ∀ (l : List α) (i : Nat), ige (fstAt p l i) 0 = l.any p
  | [], _ => rfl
  | x :: l, i => by
    simp only [fstAt, List.any_cons]
    cases p x
    · simp only [cF, Bool.false_or]; exact fstAt_any p l (i + 1)
    · simp only [cT, Bool.true_or, ige]; exact decide_eq_true (by omega)
noncomputable def ctrD2 : Ctrs := ctrD1
theorem ctrD2_ok : ∀ f run, aget ctrD2 f = some run → Holds Try.prog f run := ctrD1_ok

def hasI (l : List Int) (v : Int) : Bool := l.any fun x => ieq v x
noncomputable def ctrD3 : Ctrs := ctrD2
theorem ctrD3_ok : ∀ f run, aget ctrD3 f = some run → Holds Try.prog f run := ctrD2_ok


theorem ieq_comm (x y : Int) : ieq x y = ieq y x := by
  unfold ieq
  by_cases h : x = y
  · subst h; rfl
  · have h2 : y ≠ x := fun e => h e.symm
    rw [beq_eq_false_iff_ne.2 h, beq_eq_false_iff_ne.2 h2]
theorem goL_or {ρ : Type} (p : Int → Bool) (K : Bool → Option ρ) : ∀ (l : List Int) (i : Nat) (u : Bool), goL (fun _ x u k => bif u then k true else k (p x)) K l i u = K (u || l.any p)
  | [], _, u => by simp [goL]
  | x :: l, i, u => by
    simp only [goL, List.any_cons]
    cases u
    · rw [cF, goL_or p K l (i + 1) (p x)]; simp
    · rw [cT, goL_or p K l (i + 1) true]; simp

def isDirty (h : Host) (m : Int) (ps : List Int) : Bool := ps.all (hasI (dirtyIn h m))

def outOf (h : Host) (m : Int) : List Int := idxs (fun (s : Slot) => ieq s.Page (-1)) (monOf h m).Outer 0
theorem outer_sm {h : Host} (hs : SmHost h) (m : Int) : CVB sm (.s .slot (monOf h m).Outer) := monOf_sm hs m (.s .slot (monOf h m).Outer) (by simp [Ty.cells])

def guarded1 (s : Slot) : Bool := ine s.Page (-1) && !enough s.Rights 2
def guardedIn (h : Host) (m : Int) : List Int := idxs guarded1 (monOf h m).Outer 0

theorem goL_appN {α ρ : Type} (c : Nat → α → Bool) (f : Nat → Int) (K : List Int → Option ρ) : ∀ (l : List α) (i : Nat) (acc : List Int), (∀ i, ∀ x ∈ l, c i x = true) → acc.length + l.length ≤ 2147483648 →
    goL (fun i x acc k => bif c i x then (bif few (ln (ap acc [f i])) then k (ap acc [f i]) else none) else none) K l i acc = K (acc ++ (List.range' i l.length).map f)
  | [], i, acc, _, _ => by simp [goL]
  | x :: l, i, acc, hc, h => by
    simp only [List.length_cons] at h
    simp only [goL]
    rw [hc i x (by simp), cT, few_ln (by simp [ap]; omega), cT, goL_appN c f K l (i + 1) _ (fun j y hy => hc j y (by simp [hy])) (by simp [ap]; omega)]
    simp [ap, List.range'_succ]
def shareOf (h : Host) : List Int := (List.range' 0 h.Mons.length).map fun (i : Nat) => inUse h (i : Int)

/-! Pages, compared. -/

def all2 {α : Type} (eq : α → α → Bool) : List α → List α → Bool
  | [], [] => true
  | x :: l, y :: m => eq x y && all2 eq l m
  | _, _ => false
theorem all2_len {α : Type} (eq : α → α → Bool) : ∀ (l m : List α), l.length ≠ m.length → all2 eq l m = false
  | [], [], h => absurd rfl h
  | [], _ :: _, _ => rfl
  | _ :: _, [], _ => rfl
  | x :: l, y :: m, h => by simp only [all2, all2_len eq l m (by simpa using h), Bool.and_false]
theorem goL_all2 {α ρ : Type} (eq : α → α → Bool) (d : α) (b : List α) (r : Option ρ) (K : Unit → Option ρ) : ∀ (a : List α) (i : Nat), a.length + i = b.length →
    goL (fun i x (_ : Unit) k => bif eq x (ix b (i : Int) d) then k () else r) K a i () = bif all2 eq a (b.drop i) then K () else r
  | [], i, h => by
    have : b.drop i = [] := List.drop_eq_nil_of_le (by simp at h; omega)
    rw [this]; rfl
  | x :: a, i, h => by
    simp only [List.length_cons] at h
    have hi : i < b.length := by omega
    rw [List.drop_eq_getElem_cons hi]
    simp only [goL, all2, ix_ln hi]
    cases eq x b[i]
    · rfl
    · simp only [cT, Bool.true_and]
      exact goL_all2 eq d b r K a (i + 1) (by omega)
theorem ine_ne {α β : Type} {l : List α} {m : List β} (h : ine (ln l) (ln m) = true) : l.length ≠ m.length := by
  intro e
  simp only [ine, ln, e, bne_self_eq_false] at h
  cases h
theorem ine_not (x y : Int) : ine x y = !ieq x y := rfl

def eqI (a b : List Int) : Bool := all2 ieq a b
noncomputable def ctrD4 : Ctrs := ctrD3
theorem ctrD4_ok : ∀ f run, aget ctrD4 f = some run → Holds Try.prog f run := ctrD3_ok


def zero4 : List Int := rp 4 0
theorem few4 : (bif few 4 then ieq 4 4 else false) = true := rfl
def pageAt (m : List (List Int)) (p : Int) : List Int := bif hasB p (ln m) then ix m p [] else zero4
noncomputable def ctrD5 : Ctrs := ctrD4
theorem ctrD5_ok : ∀ f run, aget ctrD5 f = some run → Holds Try.prog f run := ctrD4_ok


def pageOf (h : Host) (m p : Int) : List Int :=
  bif hasB m (ln h.Mons) then (bif hasB p 8 then (bif ine (slotAt (ix h.Mons m (Ty.dflt .mon)).Outer p).Page (-1) then pageAt h.Memory (slotAt (ix h.Mons m (Ty.dflt .mon)).Outer p).Page else pageAt (ix h.Mons m (Ty.dflt .mon)).Out p) else zero4) else zero4
noncomputable def ctrD6 : Ctrs := ctrD5
theorem ctrD6_ok : ∀ f run, aget ctrD6 f = some run → Holds Try.prog f run := ctrD5_ok


def differ1 (a b : Host) (m : Int) (i : Nat) : Bool := !eqI (pageOf a m (i : Int)) (pageOf b m (i : Int))
def differ (a b : Host) (m : Int) : List Int := idxN (differ1 a b m) 8 0
noncomputable def ctrD7 : Ctrs := ctrD6
theorem ctrD7_ok : ∀ f run, aget ctrD7 f = some run → Holds Try.prog f run := ctrD6_ok

noncomputable def ctrV : Ctrs := ctrD7
theorem ctrV_ok : ∀ f run, aget ctrV f = some run → Holds Try.prog f run := ctrD7_ok
end Go.Proofs.Ytcfnaifggdelnaa.E
