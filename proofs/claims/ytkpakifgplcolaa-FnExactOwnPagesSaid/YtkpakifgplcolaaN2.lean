/- What is proved here: the contract of impl.ascending: it is handed a slice, and hands it back sorted, what stood twice struck. -/
import Derived.Test.YtkpakifgplcolaaN1
import Derived.Test.YtkpakifgplcolaaP1
namespace Go.Proofs.Ytkpakifgplcolaa.E
open Go Go.Sort Go.Proofs
set_option maxRecDepth 100000

theorem heap_far {w : World} {g off n : Nat} {os : Array Obj} (d : Array Int) {x : Nat} (hx : x < w.heap.size) (hne : x ≠ g) : (grow (putRow (Value.int .i64) (Sort.ahead w n) g off d) os).heap[x]? = w.heap[x]? := by
  rw [heap_grow_old _ _ (by simpa using hx)]
  have : g ≠ x := fun e => hne e.symm
  simp [putRow, mapBlock, Sort.ahead, Array.getElem?_modify, this]
theorem heap_far0 {w : World} {g off n : Nat} (d : Array Int) {x : Nat} (hne : x ≠ g) : (putRow (Value.int .i64) (Sort.ahead w n) g off d).heap[x]? = w.heap[x]? := by
  have : g ≠ x := fun e => hne e.symm
  simp [putRow, mapBlock, Sort.ahead, Array.getElem?_modify, this]

theorem asc_rep {w : World} {u : Value} {l : List Int} {K : BSet} (hR : Rep true w u (.s .int l) K) (hK : ∀ x, K x → x < w.heap.size) :
    Calls Try.prog 22 #[u] w fun r w' => ∃ v, r = .returned v ∧ Rep true w' v (.s .int (ascOf l)) K ∧ w'.os = w.os ∧ w'.tape = w.tape ∧ w'.output = w.output ∧ w.heap.size ≤ w'.heap.size ∧
      ∀ b, b < w.heap.size → ¬ K b → w'.heap[b]? = w.heap[b]? := by
  cases hR with
  | nil t =>
    refine (asc_walk0 none 0 w).mono ?_
    rintro r w' ⟨rfl, rfl⟩
    exact ⟨_, rfl, by rw [ascOf_nil]; exact .nil _ _, rfl, rfl, rfl, Nat.le_refl _, fun _ _ _ => rfl⟩
  | void t a S ho => cases ho
  | sl t l b off cap arr e fz V K' S hb hfz hlen hcap hsz hS hsub hdis hv hc =>
    have hz := hfz rfl
    subst hz
    have hwd : Ty.int.width = 1 := rfl
    have hvv : ∀ (j : Nat) (x : Int), l[j]? = some x → arr[off + j]? = some (.int .i64 x) := by
      intro j x hx
      have hj : j < l.length := (List.getElem?_eq_some_iff.1 hx).1
      have h1 := hv j 0 hj (by rw [hwd]; decide)
      have h2 := (hc j x hx 0 (.i .i64 x) rfl).int_inv
      rw [hwd, Nat.mul_one, Nat.add_zero, h2] at h1
      exact h1
    rw [hwd, Nat.mul_one] at hsz
    have hbig : l.length < 4611686018427387904 := by unfold big at hlen; omega
    refine (asc_walk rfl hb hvv (by omega) hbig hcap).mono ?_
    rintro r w' ⟨rfl, k, os, q, rfl⟩
    have hle := ascOf_len l
    have hn2 : (l.mergeSort fun x y => decide (x ≤ y)).length = l.length := by simp
    have h1 := heap_put (off := off) (n := k) (os := os) (l.mergeSort fun x y => decide (x ≤ y)).toArray hb
    have h2 := heap_put0 (off := off) (n := q) (ascOf l ++ List.replicate (l.length - (ascOf l).length) 0).toArray h1
    refine ⟨_, rfl, ?_, rfl, rfl, rfl, ?_, fun x hx hne => ?_⟩
    · refine .sl .int (ascOf l) b off cap _ e (0, 0) (fun i _ => .int .i64 ((ascOf l).getD i 0)) (fun _ _ _ => False) K h2 (fun _ => rfl) (by omega) (by omega) ?_ hS (fun _ _ _ _ _ h => h.elim) (fun _ _ _ _ _ _ _ _ _ _ h => h.elim) ?_ ?_
      · rw [hwd, Nat.mul_one]
        rw [size_put, size_put]
        exact hsz
      · intro i j hi hj
        have hj0 : j = 0 := by rw [hwd] at hj; omega
        subst hj0
        rw [hwd, Nat.mul_one, Nat.add_zero]
        refine get_put _ i _ ?_ ?_
        · rw [List.getElem?_append_left hi]
          simp [List.getD, hi]
        · rw [size_put, List.length_append, List.length_replicate]
          omega
      · intro i x hx j c hcj
        have hx2 : (ascOf l).getD i 0 = x := by simp [List.getD, hx]
        cases j with
        | zero =>
          simp only [Ty.cells, List.getElem?_cons_zero, Option.some.injEq] at hcj
          subst hcj
          rw [hx2]
          exact .i _ _ _
        | succ j => simp [Ty.cells] at hcj
    · have : (putRow (Value.int .i64) (Sort.ahead (grow (putRow (Value.int .i64) (Sort.ahead w k) b off (l.mergeSort fun x y => decide (x ≤ y)).toArray) os) q) b off (ascOf l ++ List.replicate (l.length - (ascOf l).length) 0).toArray).heap.size = w.heap.size + os.size := by
        simp [putRow, mapBlock, grow, Sort.ahead]
      omega
    · have hxb : x ≠ b := fun e => hne (e ▸ hS)
      rw [heap_far0 _ hxb, heap_far _ hx hxb]

def i_ascending_c (_ : List Int) : Bool := true
@[reducible] def i_ascending (l : List Int) : List Int := ascOf l
noncomputable def run_i_ascending : List AV → Option (Bool × List AV)
  | [.one (.s .int a0)] => some (i_ascending_c a0, [.one (.s .int (i_ascending a0))])
  | _ => none
theorem holds_i_ascending : HoldsT Try.prog 22 [true] none run_i_ascending := by
  refine ⟨fn_ok (by kernel_rfl), ?_⟩
  intro w K avs xs rs hx ho hr hK hd hrun
  unfold run_i_ascending at hrun
  split at hrun
  · rename_i a0
    cases hrun
    have hl : xs.length = 1 := hx
    match xs, hl with
    | [u], _ =>
      have hR : Rep true w u (.s .int a0) (K 0) := hr 0 _ u rfl rfl
      refine (asc_rep hR (fun x hx => hK 0 x (by simp [cvsOf, AV.cvs]) hx)).mono ?_
      rintro r w' ⟨v, rfl, g1, g2, g3, g4, g5, g6⟩
      refine ⟨g2, g3, g4, g5, fun b hb hn => g6 b hb (hn 0 (by simp [cvsOf, AV.cvs]) rfl), [v], fun _ => K 0, ⟨rfl, ?_⟩, rfl, ?_, ?_, ?_⟩
      · intro i c x hc hx
        cases i with
        | zero =>
          simp only [List.getElem?_cons_zero, Option.some.injEq] at hx
          subst hx
          have : c = .s .int (ascOf a0) := by simpa [cvsOf, AV.cvs] using hc.symm
          subst this
          exact g1
        | succ i => simp at hx
      · intro i x _ hKx
        have := hK 0 x (by simp [cvsOf, AV.cvs]) hKx
        exact ⟨by omega, .inl ⟨0, by simp [cvsOf, AV.cvs], rfl, hKx⟩⟩
      · intro i j x hi hj hne
        simp [cvsOf, AV.cvs] at hi hj
        omega
      · intro ja jr js h
        cases h
  · cases hrun
end Go.Proofs.Ytkpakifgplcolaa.E
