/- What is proved here: impl.ascending sorts a slice of integers and strikes what stands twice; it works in the slice's own memory. -/
import Derived.Shelf.Sort.Plain
import Derived.Shelf.Slices.CompactI
import Derived.Shelf.Slices.In.SortNone
import Derived.Ground.NamesProg
import Derived.Ground.Names2Prog
import Derived.Test.YtkpakifgplcolaaProg
import Derived.Tactics2
import Derived.Lib.RowBridge
namespace Go.Proofs
open Go Go.Shelf
def Try.laysSort_ren : Go.Shelf.Ren := ⟨fun | 189 => 36 | 125 => 56 | 257 => 55 | 128 => 77 | 129 => 78 | 294 => 68 | 295 => 69 | 296 => 70 | 297 => 71 | 298 => 72 | 299 => 73 | 216 => 74 | 300 => 75 | 301 => 76 | 328 => 86 | 329 => 87 | 330 => 88 | 331 => 89 | 332 => 90 | 215 => 91 | 343 => 96 | n => n, fun | 28 => 28 | 3 => 3 | 46 => 97 | 0 => 0 | 51 => 133 | 53 => 135 | 4 => 4 | 183 => 126 | 182 => 125 | 131 => 130 | 5 => 5 | 9 => 9 | 218 => 145 | 222 => 149 | 228 => 157 | 229 => 158 | n => n, fun | n => n⟩
theorem Try.laysSort : Go.Proofs.Lays.n189 Try.prog Try.laysSort_ren := {
  mixed := by kernel_rfl
  f125 := Try.func56.trans (congrArg some (by kernel_rfl))
  f128 := Try.func77.trans (congrArg some (by kernel_rfl))
  f129 := Try.func78.trans (congrArg some (by kernel_rfl))
  f189 := Try.func36.trans (congrArg some (by kernel_rfl))
  f215 := Try.func91.trans (congrArg some (by kernel_rfl))
  f216 := Try.func74.trans (congrArg some (by kernel_rfl))
  f257 := Try.func55.trans (congrArg some (by kernel_rfl))
  f294 := Try.func68.trans (congrArg some (by kernel_rfl))
  f295 := Try.func69.trans (congrArg some (by kernel_rfl))
  f296 := Try.func70.trans (congrArg some (by kernel_rfl))
  f297 := Try.func71.trans (congrArg some (by kernel_rfl))
  f298 := Try.func72.trans (congrArg some (by kernel_rfl))
  f299 := Try.func73.trans (congrArg some (by kernel_rfl))
  f300 := Try.func75.trans (congrArg some (by kernel_rfl))
  f301 := Try.func76.trans (congrArg some (by kernel_rfl))
  f328 := Try.func86.trans (congrArg some (by kernel_rfl))
  f329 := Try.func87.trans (congrArg some (by kernel_rfl))
  f330 := Try.func88.trans (congrArg some (by kernel_rfl))
  f331 := Try.func89.trans (congrArg some (by kernel_rfl))
  f332 := Try.func90.trans (congrArg some (by kernel_rfl))
  f343 := Try.func96.trans (congrArg some (by kernel_rfl))
  t0 := Try.underlying0
  a0 := Try.isAgg0
  z0 := Try.sizeOf0
  v0 := Try.zeroValue0
  t3 := Try.underlying3
  a3 := Try.isAgg3
  z3 := Try.sizeOf3
  v3 := Try.zeroValue3
  t4 := Try.underlying4
  a4 := Try.isAgg4
  z4 := Try.sizeOf4
  v4 := Try.zeroValue4
  t5 := Try.underlying5
  a5 := Try.isAgg5
  z5 := Try.sizeOf5
  v5 := Try.zeroValue5
  t9 := Try.underlying9
  a9 := Try.isAgg9
  z9 := Try.sizeOf9
  v9 := Try.zeroValue9
  t28 := Try.underlying28
  a28 := Try.isAgg28
  z28 := Try.sizeOf28
  v28 := Try.zeroValue28
  t46 := Try.underlying97
  a46 := Try.isAgg97
  z46 := Try.sizeOf97
  v46 := Try.zeroValue97
  t51 := Try.underlying133
  a51 := Try.isAgg133
  z51 := Try.sizeOf133
  v51 := Try.zeroValue133
  t53 := Try.underlying135
  a53 := Try.isAgg135
  z53 := Try.sizeOf135
  v53 := Try.zeroValue135
  t131 := Try.underlying130
  a131 := Try.isAgg130
  z131 := Try.sizeOf130
  v131 := Try.zeroValue130
  t182 := Try.underlying125
  a182 := Try.isAgg125
  z182 := Try.sizeOf125
  v182 := Try.zeroValue125
  t183 := Try.underlying126
  a183 := Try.isAgg126
  z183 := Try.sizeOf126
  v183 := Try.zeroValue126
  t218 := Try.underlying145
  a218 := Try.isAgg145
  z218 := Try.sizeOf145
  v218 := Try.zeroValue145
  t222 := Try.underlying149
  a222 := Try.isAgg149
  z222 := Try.sizeOf149
  v222 := Try.zeroValue149
  t228 := Try.underlying157
  a228 := Try.isAgg157
  z228 := Try.sizeOf157
  v228 := Try.zeroValue157
  t229 := Try.underlying158
  a229 := Try.isAgg158
  z229 := Try.sizeOf158
  v229 := Try.zeroValue158 }
def Try.laysCompact_ren : Go.Shelf.Ren := ⟨fun | 20 => 37 | n => n, fun | 22 => 28 | 3 => 3 | 4 => 4 | 0 => 0 | n => n, fun | n => n⟩
theorem Try.laysCompact : Go.Proofs.Lays2.n20 Try.prog Try.laysCompact_ren := {
  mixed := by kernel_rfl
  f20 := Try.func37.trans (congrArg some (by kernel_rfl))
  t0 := Try.underlying0
  a0 := Try.isAgg0
  z0 := Try.sizeOf0
  v0 := Try.zeroValue0
  t3 := Try.underlying3
  a3 := Try.isAgg3
  z3 := Try.sizeOf3
  v3 := Try.zeroValue3
  t4 := Try.underlying4
  a4 := Try.isAgg4
  z4 := Try.sizeOf4
  v4 := Try.zeroValue4
  t22 := Try.underlying28
  a22 := Try.isAgg28
  z22 := Try.sizeOf28
  v22 := Try.zeroValue28
  i3 := by kernel_rfl }
end Go.Proofs
namespace Go.Proofs.Ytkpakifgplcolaa.E
open Go Go.Sort Go.Proofs
set_option maxRecDepth 100000

theorem sort_calls (blk off cap : Nat) (zs : List Int) (w : World) (hH : Go.Sort.Holds (Value.int .i64) w blk off zs.toArray) (hblk : blk < w.heap.size) (hsz : zs.length < 4611686018427387904) :
    Calls Try.prog 36 #[.slice (some ⟨blk, off, none⟩) zs.length cap] w fun e w' =>
      e = .returned (.tuple #[]) ∧ ∃ n os, w' = grow (putRow (Value.int .i64) (Sort.ahead w n) blk off (zs.mergeSort fun x y => decide (x ≤ y)).toArray) os :=
  Any.slices_Sort_int Try.laysSort blk off cap zs w hH hblk hsz
theorem sort_none (p : Option Addr) (cap : Nat) (w : World) : Calls Try.prog 36 #[.slice p 0 cap] w fun e w' => e = .returned (.tuple #[]) ∧ w' = w :=
  Any.slices_Sort_int_none Try.laysSort p cap w
theorem compact_calls (blk off cap : Nat) (zs : List Int) (w : World) (hH : Go.Sort.Holds (Value.int .i64) w blk off zs.toArray) (hsz : zs.length ≤ 9223372036854775807) (hcap : zs.length ≤ cap) :
    Calls Try.prog 37 #[.slice (some ⟨blk, off, none⟩) zs.length cap] w fun e w' => e = .returned (.slice (some ⟨blk, off, none⟩) (Lib.compact zs).length cap) ∧ ∃ q, w' = putRow (Value.int .i64) (Sort.ahead w q) blk off (Lib.compact zs ++ List.replicate (zs.length - (Lib.compact zs).length) 0).toArray :=
  Any.slices_Compact_int Try.laysCompact blk off cap zs w hH hsz hcap
theorem compact_none (a : Option Addr) (cap : Nat) (w : World) : Calls Try.prog 37 #[.slice a 0 cap] w fun e w' => e = .returned (.slice a 0 cap) ∧ w' = w :=
  Any.slices_Compact_int_empty Try.laysCompact a cap w

/-- What impl.ascending makes of a list. -/
def ascOf (zs : List Int) : List Int := Lib.compact (zs.mergeSort fun x y => decide (x ≤ y))
theorem ascOf_len (zs : List Int) : (ascOf zs).length ≤ zs.length := by
  have := Lib.compact_length_le (zs.mergeSort fun x y => decide (x ≤ y))
  simpa [ascOf] using this
theorem sort_calls' {blk off cap n : Nat} {zs : List Int} {w : World} (hn : zs.length = n) (hH : Go.Sort.Holds (Value.int .i64) w blk off zs.toArray) (hblk : blk < w.heap.size) (hsz : n < 4611686018427387904) :
    Calls Try.prog 36 #[.slice (some ⟨blk, off, none⟩) n cap] w fun e w' =>
      e = .returned (.tuple #[]) ∧ ∃ n os, w' = grow (putRow (Value.int .i64) (Sort.ahead w n) blk off (zs.mergeSort fun x y => decide (x ≤ y)).toArray) os := by
  subst hn
  exact sort_calls blk off cap zs w hH hblk hsz
theorem compact_calls' {blk off cap n : Nat} {zs : List Int} {w : World} (hn : zs.length = n) (hH : Go.Sort.Holds (Value.int .i64) w blk off zs.toArray) (hsz : n ≤ 9223372036854775807) (hcap : n ≤ cap) :
    Calls Try.prog 37 #[.slice (some ⟨blk, off, none⟩) n cap] w fun e w' => e = .returned (.slice (some ⟨blk, off, none⟩) (Lib.compact zs).length cap) ∧ ∃ q, w' = putRow (Value.int .i64) (Sort.ahead w q) blk off (Lib.compact zs ++ List.replicate (n - (Lib.compact zs).length) 0).toArray := by
  subst hn
  exact compact_calls blk off cap zs w hH hsz hcap

theorem heap_put {w : World} {g off n : Nat} {os : Array Obj} {cur : Array Value} {e : TypeId} {fr : Nat × Nat} (d : Array Int) (hb : w.heap[g]? = some (.cells cur e fr)) :
    (grow (putRow (Value.int .i64) (Sort.ahead w n) g off d) os).heap[g]? = some (.cells (putCells (Value.int .i64) off d cur) e fr) := by
  have hg : g < w.heap.size := (Array.getElem?_eq_some_iff.1 hb).1
  rw [heap_grow_old _ _ (by simpa using hg)]
  simp [putRow, mapBlock, Sort.ahead, Array.getElem?_modify, hb, onCells]
theorem heap_put0 {w : World} {g off n : Nat} {cur : Array Value} {e : TypeId} {fr : Nat × Nat} (d : Array Int) (hb : w.heap[g]? = some (.cells cur e fr)) :
    (putRow (Value.int .i64) (Sort.ahead w n) g off d).heap[g]? = some (.cells (putCells (Value.int .i64) off d cur) e fr) := by
  simp [putRow, mapBlock, Sort.ahead, Array.getElem?_modify, hb, onCells]
theorem size_put {cur : Array Value} {off : Nat} (d : Array Int) : (putCells (Value.int .i64) off d cur).size = cur.size := by simp [putCells]
theorem ascOf_nil : ascOf [] = [] := by simp [ascOf, Lib.compact, Lib.compactUpTo]
theorem get_put {cur : Array Value} {off : Nat} (d : List Int) (j : Nat) (x : Int) (hx : d[j]? = some x) (h : off + d.length ≤ cur.size) : (putCells (Value.int .i64) off d.toArray cur)[off + j]? = some (.int .i64 x) := by
  have hj : j < d.length := (List.getElem?_eq_some_iff.1 hx).1
  have e : d[j] = x := (List.getElem?_eq_some_iff.1 hx).2
  have hc : off + j < cur.size := by omega
  simp [putCells, hc, show off ≤ off + j by omega, show off + j < off + d.length by omega, hj, e]
theorem holds_at {w : World} {g off : Nat} {cur : Array Value} {e : TypeId} {zs : List Int} (hb : w.heap[g]? = some (.cells cur e (0, 0))) (hv : ∀ (j : Nat) (x : Int), zs[j]? = some x → cur[off + j]? = some (.int .i64 x)) : Go.Sort.Holds (Value.int .i64) w g off zs.toArray := by
  intro j hj
  have hj' : j < zs.length := by simpa using hj
  refine ⟨?_, by simp [World.frozen?, hb]⟩
  have := hv j zs[j] (by simp [hj'])
  simp [World.cell?, hb, this, hj']

theorem asc_walk {b off cap n : Nat} {zs : List Int} {w : World} {cur : Array Value} {e : TypeId} (hn : zs.length = n) (hb : w.heap[b]? = some (.cells cur e (0, 0))) (hv : ∀ (j : Nat) (x : Int), zs[j]? = some x → cur[off + j]? = some (.int .i64 x))
    (hc : off + n ≤ cur.size) (hsz : n < 4611686018427387904) (hcap : n ≤ cap) :
    Calls Try.prog 22 #[.slice (some ⟨b, off, none⟩) n cap] w fun r w' => r = .returned (.slice (some ⟨b, off, none⟩) (ascOf zs).length cap) ∧
      ∃ k os q, w' = putRow (Value.int .i64) (Sort.ahead (grow (putRow (Value.int .i64) (Sort.ahead w k) b off (zs.mergeSort fun x y => decide (x ≤ y)).toArray) os) q) b off (ascOf zs ++ List.replicate (n - (ascOf zs).length) 0).toArray := by
  have hH := holds_at hb hv
  have hblk : b < w.heap.size := (Array.getElem?_eq_some_iff.1 hb).1
  have hn2 : (zs.mergeSort fun x y => decide (x ≤ y)).length = n := by simpa using hn
  have hH2 : ∀ k os, Go.Sort.Holds (Value.int .i64) (grow (putRow (Value.int .i64) (Sort.ahead w k) b off (zs.mergeSort fun x y => decide (x ≤ y)).toArray) os) b off (zs.mergeSort fun x y => decide (x ≤ y)).toArray := fun k os =>
    holds_at (heap_put _ hb) (fun j x hx => get_put _ j x hx (by rw [hn2]; exact hc))
  clear hv hb hc
  go_enter Try.func22, Try.ntmps22
  go_wp2_with (first
    | (go_at_call 36; refine (sort_calls' hn hH hblk hsz).mono ?_; rintro r w' ⟨rfl, k, os, rfl⟩)
    | (go_at_call 37; refine (compact_calls' hn2 (hH2 _ _) (by omega) hcap).mono ?_; rintro r w' ⟨rfl, q, rfl⟩))
  go_ret
  exact ⟨rfl, _, _, _, rfl⟩
theorem asc_walk0 (p : Option Addr) (cap : Nat) (w : World) : Calls Try.prog 22 #[.slice p 0 cap] w fun r w' => r = .returned (.slice p 0 cap) ∧ w' = w := by
  go_enter Try.func22, Try.ntmps22
  go_wp2_with (first
    | (go_at_call 36; refine (sort_none _ _ _).mono ?_; rintro r w' ⟨rfl, rfl⟩)
    | (go_at_call 37; refine (compact_none _ _ _).mono ?_; rintro r w' ⟨rfl, rfl⟩))
  go_ret
  exact ⟨rfl, rfl⟩
end Go.Proofs.Ytkpakifgplcolaa.E
