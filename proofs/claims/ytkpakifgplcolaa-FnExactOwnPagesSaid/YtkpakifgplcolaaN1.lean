/- What is proved here: impl.ascending sorts a slice of integers and strikes what stands twice; it works in the slice's own memory. -/
import Derived.Shelf.Lay
import Derived.Shelf.Sort.Plain
import Derived.Shelf.Slices.CompactI
import Derived.Shelf.Slices.In.SortNone
import Derived.Ground.NamesProg
import Derived.Ground.Names2Prog
import Derived.Test.YtkpakifgplcolaaProg
import Derived.Tactics2
import Derived.Lib.RowBridge
namespace Go.Proofs
open Go Go.Shelf
shelf_lay Lays.n189 Nm 189 at Try as Try.laysSort
shelf_lay Lays2.n20 Nm2 20 at Try as Try.laysCompact
end Go.Proofs
namespace Go.Proofs.Ytkpakifgplcolaa.E
open Go Go.Sort Go.Proofs
set_option maxRecDepth 100000

theorem sort_calls (blk off cap : Nat) (zs : List Int) (w : World) (hH : Go.Sort.Holds (Value.int .i64) w blk off zs.toArray) (hblk : blk < w.heap.size) (hsz : zs.length < 4611686018427387904) :
    Calls Try.prog 36 #[.slice (some ⟨blk, off, none⟩) zs.length cap] w fun e w' =>
      e = .returned (.tuple #[]) ∧ ∃ n os, w' = grow (putRow (Value.int .i64) (Sort.ahead w n) blk off (zs.mergeSort fun x y => decide (x ≤ y)).toArray) os :=
  Any.slices_Sort_int Try.laysSort blk off cap zs w hH hblk hsz
theorem sort_none (p : Option Addr) (cap : Nat) (w : World) : Calls Try.prog 36 #[.slice p 0 cap] w fun e w' => e = .returned (.tuple #[]) ∧ w' = w :=
  Any.slices_Sort_int_none Try.laysSort p cap w
theorem compact_calls (blk off cap : Nat) (zs : List Int) (w : World) (hH : Go.Sort.Holds (Value.int .i64) w blk off zs.toArray) (hsz : zs.length ≤ 9223372036854775807) (hcap : zs.length ≤ cap) :
    Calls Try.prog 37 #[.slice (some ⟨blk, off, none⟩) zs.length cap] w fun e w' => e = .returned (.slice (some ⟨blk, off, none⟩) (Lib.compact zs).length cap) ∧ ∃ q, w' = putRow (Value.int .i64) (Sort.ahead w q) blk off (Lib.compact zs ++ List.replicate (zs.length - (Lib.compact zs).length) 0).toArray :=
  Any.slices_Compact_int Try.laysCompact blk off cap zs w hH hsz hcap
theorem compact_none (a : Option Addr) (cap : Nat) (w : World) : Calls Try.prog 37 #[.slice a 0 cap] w fun e w' => e = .returned (.slice a 0 cap) ∧ w' = w :=
  Any.slices_Compact_int_empty Try.laysCompact a cap w

/-- What impl.ascending makes of a list. -/
def ascOf (zs : List Int) : List Int := Lib.compact (zs.mergeSort fun x y => decide (x ≤ y))
theorem ascOf_len (zs : List Int) : (ascOf zs).length ≤ zs.length := by
  have := Lib.compact_length_le (zs.mergeSort fun x y => decide (x ≤ y))
  simpa [ascOf] using this
theorem sort_calls' {blk off cap n : Nat} {zs : List Int} {w : World} (hn : zs.length = n) (hH : Go.Sort.Holds (Value.int .i64) w blk off zs.toArray) (hblk : blk < w.heap.size) (hsz : n < 4611686018427387904) :
    Calls Try.prog 36 #[.slice (some ⟨blk, off, none⟩) n cap] w fun e w' =>
      e = .returned (.tuple #[]) ∧ ∃ n os, w' = grow (putRow (Value.int .i64) (Sort.ahead w n) blk off (zs.mergeSort fun x y => decide (x ≤ y)).toArray) os := by
  subst hn
  exact sort_calls blk off cap zs w hH hblk hsz
theorem compact_calls' {blk off cap n : Nat} {zs : List Int} {w : World} (hn : zs.length = n) (hH : Go.Sort.Holds (Value.int .i64) w blk off zs.toArray) (hsz : n ≤ 9223372036854775807) (hcap : n ≤ cap) :
    Calls Try.prog 37 #[.slice (some ⟨blk, off, none⟩) n cap] w fun e w' => e = .returned (.slice (some ⟨blk, off, none⟩) (Lib.compact zs).length cap) ∧ ∃ q, w' = putRow (Value.int .i64) (Sort.ahead w q) blk off (Lib.compact zs ++ List.replicate (n - (Lib.compact zs).length) 0).toArray := by
  subst hn
  exact compact_calls blk off cap zs w hH hsz hcap

theorem heap_put {w : World} {g off n : Nat} {os : Array Obj} {cur : Array Value} {e : TypeId} {fr : Nat × Nat} (d : Array Int) (hb : w.heap[g]? = some (.cells cur e fr)) :
    (grow (putRow (Value.int .i64) (Sort.ahead w n) g off d) os).heap[g]? = some (.cells (putCells (Value.int .i64) off d cur) e fr) := by
  have hg : g < w.heap.size := (Array.getElem?_eq_some_iff.1 hb).1
  rw [heap_grow_old _ _ (by simpa using hg)]
  simp [putRow, mapBlock, Sort.ahead, Array.getElem?_modify, hb, onCells]
theorem heap_put0 {w : World} {g off n : Nat} {cur : Array Value} {e : TypeId} {fr : Nat × Nat} (d : Array Int) (hb : w.heap[g]? = some (.cells cur e fr)) :
    (putRow (Value.int .i64) (Sort.ahead w n) g off d).heap[g]? = some (.cells (putCells (Value.int .i64) off d cur) e fr) := by
  simp [putRow, mapBlock, Sort.ahead, Array.getElem?_modify, hb, onCells]
theorem size_put {cur : Array Value} {off : Nat} (d : Array Int) : (putCells (Value.int .i64) off d cur).size = cur.size := by simp [putCells]
theorem ascOf_nil : ascOf [] = [] := by simp [ascOf, Lib.compact, Lib.compactUpTo]
theorem get_put {cur : Array Value} {off : Nat} (d : List Int) (j : Nat) (x : Int) (hx : d[j]? = some x) (h : off + d.length ≤ cur.size) : (putCells (Value.int .i64) off d.toArray cur)[off + j]? = some (.int .i64 x) := by
  have hj : j < d.length := (List.getElem?_eq_some_iff.1 hx).1
  have e : d[j] = x := (List.getElem?_eq_some_iff.1 hx).2
  have hc : off + j < cur.size := by omega
  simp [putCells, hc, show off ≤ off + j by omega, show off + j < off + d.length by omega, hj, e]
theorem holds_at {w : World} {g off : Nat} {cur : Array Value} {e : TypeId} {zs : List Int} (hb : w.heap[g]? = some (.cells cur e (0, 0))) (hv : ∀ (j : Nat) (x : Int), zs[j]? = some x → cur[off + j]? = some (.int .i64 x)) : Go.Sort.Holds (Value.int .i64) w g off zs.toArray := by
  intro j hj
  have hj' : j < zs.length := by simpa using hj
  refine ⟨?_, by simp [World.frozen?, hb]⟩
  have := hv j zs[j] (by simp [hj'])
  simp [World.cell?, hb, this, hj']

theorem asc_walk {b off cap n : Nat} {zs : List Int} {w : World} {cur : Array Value} {e : TypeId} (hn : zs.length = n) (hb : w.heap[b]? = some (.cells cur e (0, 0))) (hv : ∀ (j : Nat) (x : Int), zs[j]? = some x → cur[off + j]? = some (.int .i64 x))
    (hc : off + n ≤ cur.size) (hsz : n < 4611686018427387904) (hcap : n ≤ cap) :
    Calls Try.prog 22 #[.slice (some ⟨b, off, none⟩) n cap] w fun r w' => r = .returned (.slice (some ⟨b, off, none⟩) (ascOf zs).length cap) ∧
      ∃ k os q, w' = putRow (Value.int .i64) (Sort.ahead (grow (putRow (Value.int .i64) (Sort.ahead w k) b off (zs.mergeSort fun x y => decide (x ≤ y)).toArray) os) q) b off (ascOf zs ++ List.replicate (n - (ascOf zs).length) 0).toArray := by
  have hH := holds_at hb hv
  have hblk : b < w.heap.size := (Array.getElem?_eq_some_iff.1 hb).1
  have hn2 : (zs.mergeSort fun x y => decide (x ≤ y)).length = n := by simpa using hn
  have hH2 : ∀ k os, Go.Sort.Holds (Value.int .i64) (grow (putRow (Value.int .i64) (Sort.ahead w k) b off (zs.mergeSort fun x y => decide (x ≤ y)).toArray) os) b off (zs.mergeSort fun x y => decide (x ≤ y)).toArray := fun k os =>
    holds_at (heap_put _ hb) (fun j x hx => get_put _ j x hx (by rw [hn2]; exact hc))
  clear hv hb hc
  go_enter Try.func22, Try.ntmps22
  go_wp2_with (first
    | (go_at_call 36; refine (sort_calls' hn hH hblk hsz).mono ?_; rintro r w' ⟨rfl, k, os, rfl⟩)
    | (go_at_call 37; refine (compact_calls' hn2 (hH2 _ _) (by omega) hcap).mono ?_; rintro r w' ⟨rfl, q, rfl⟩))
  go_ret
  exact ⟨rfl, _, _, _, rfl⟩
theorem asc_walk0 (p : Option Addr) (cap : Nat) (w : World) : Calls Try.prog 22 #[.slice p 0 cap] w fun r w' => r = .returned (.slice p 0 cap) ∧ w' = w := by
  go_enter Try.func22, Try.ntmps22
  go_wp2_with (first
    | (go_at_call 36; refine (sort_none _ _ _).mono ?_; rintro r w' ⟨rfl, rfl⟩)
    | (go_at_call 37; refine (compact_none _ _ _).mono ?_; rintro r w' ⟨rfl, rfl⟩))
  go_ret
  exact ⟨rfl, rfl⟩
end Go.Proofs.Ytkpakifgplcolaa.E
