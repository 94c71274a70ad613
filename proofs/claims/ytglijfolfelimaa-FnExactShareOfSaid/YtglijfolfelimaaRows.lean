/-
  No cell of these rows narrows 'for every input' (looked for: loops, veiled, ifaces, maps, wideKeys, modest, calm, conditions, laid).
  DERIVED. THE GIVEN ROWS OF THIS SEAT. 10 by the template 'for every input the law returns true; each argument reads behind the call as it read before'; 0 by the template 'total and deterministic' (their statements: YtglijfolfelimaaTotals.lean).
  GIVEN WITH THE SEED: the statements are not yours to turn. If you find one false, say at which input.
  Laid BY PROGRAM, IN A SANDBOX (cutbox-rows.mjs): the forced cells as the released guide's own fill.sh prints them over the translation 7de1a32b85ab8589… (all of the seat's roots in one cut). By AI agents, Wed Nov 11 2026. No macro, syntax, notation, axiom, sorry.
-/
import Derived.Test.YtglijfolfelimaaChecked
import GoSem.Claim
import GoSem.ClaimJoined
import GoSem.ClaimMapViews
import Derived.JoinedTies
import Derived.KernelRfl
namespace Go.Proofs.Ytglijfolfelimaa
/- THE CELL 'sum', in the pinned program and in every row, IS THE sha256 OF THE DUMP (.gsa) THAT YtglijfolfelimaaProg.lean LOADS. Nothing in Lean hashes anything: it is a label: what it is worth is what the hold of that sum in a sandbox is worth. -/
noncomputable def Try.pinned : Pinned := { name := "ytglijfolfelimaa", sum := "7de1a32b85ab8589039529550644dc1eb672aa9134b40f48bfeb36a1a91dd373", checked := Try.checked }
namespace Rows
def none {H : Type} : Left H := { results := [], args := [] }

/-- 'laws.FnExactIsDirty': WHATEVER THE INPUT: true; the input reads as it did. -/
def fnExactIsDirtySpec : ChangeSpec := { name := "fnExactIsDirty", fn := fun _ => fun
  | [d1, d2, d3] => { results := [.lit (.bool true)], args := [d1, d2, d3] }
  | _ => none }
def fnExactIsDirtyRow : OpenClaim := { program := "ytglijfolfelimaa", sum := "7de1a32b85ab8589039529550644dc1eb672aa9134b40f48bfeb36a1a91dd373", func := "loop.example/g00975/laws.FnExactIsDirty", spec := "fnExactIsDirty", apart := false }
def FnExactIsDirtySaid : Prop := fnExactIsDirtyRow.holds Try.pinned (OpenSpec.ofChange fnExactIsDirtySpec)

/-- ITS FALSE NEIGHBOUR: 'it returns false'. Refute it at one input. -/
def fnExactIsDirtyWrong : ChangeSpec := { name := "fnExactIsDirty", fn := fun _ => fun
  | [d1, d2, d3] => { results := [.lit (.bool false)], args := [d1, d2, d3] }
  | _ => none }
def FnExactIsDirtyWrongFalsely : Prop := fnExactIsDirtyRow.holds Try.pinned (OpenSpec.ofChange fnExactIsDirtyWrong)

/-- 'laws.FnExactTablesRight': WHATEVER THE INPUT: true; the input reads as it did. -/
def fnExactTablesRightSpec : ChangeSpec := { name := "fnExactTablesRight", fn := fun _ => fun
  | [d] => { results := [.lit (.bool true)], args := [d] }
  | _ => none }
def fnExactTablesRightRow : OpenClaim := { program := "ytglijfolfelimaa", sum := "7de1a32b85ab8589039529550644dc1eb672aa9134b40f48bfeb36a1a91dd373", func := "loop.example/g00975/laws.FnExactTablesRight", spec := "fnExactTablesRight", apart := false }
def FnExactTablesRightSaid : Prop := fnExactTablesRightRow.holds Try.pinned (OpenSpec.ofChange fnExactTablesRightSpec)

/-- ITS FALSE NEIGHBOUR: 'it returns false'. Refute it at one input. -/
def fnExactTablesRightWrong : ChangeSpec := { name := "fnExactTablesRight", fn := fun _ => fun
  | [d] => { results := [.lit (.bool false)], args := [d] }
  | _ => none }
def FnExactTablesRightWrongFalsely : Prop := fnExactTablesRightRow.holds Try.pinned (OpenSpec.ofChange fnExactTablesRightWrong)

/-- 'laws.FnExactEntriesRight': WHATEVER THE INPUT: true; the input reads as it did. -/
def fnExactEntriesRightSpec : ChangeSpec := { name := "fnExactEntriesRight", fn := fun _ => fun
  | [d1, d2] => { results := [.lit (.bool true)], args := [d1, d2] }
  | _ => none }
def fnExactEntriesRightRow : OpenClaim := { program := "ytglijfolfelimaa", sum := "7de1a32b85ab8589039529550644dc1eb672aa9134b40f48bfeb36a1a91dd373", func := "loop.example/g00975/laws.FnExactEntriesRight", spec := "fnExactEntriesRight", apart := false }
def FnExactEntriesRightSaid : Prop := fnExactEntriesRightRow.holds Try.pinned (OpenSpec.ofChange fnExactEntriesRightSpec)

/-- ITS FALSE NEIGHBOUR: 'it returns false'. Refute it at one input. -/
def fnExactEntriesRightWrong : ChangeSpec := { name := "fnExactEntriesRight", fn := fun _ => fun
  | [d1, d2] => { results := [.lit (.bool false)], args := [d1, d2] }
  | _ => none }
def FnExactEntriesRightWrongFalsely : Prop := fnExactEntriesRightRow.holds Try.pinned (OpenSpec.ofChange fnExactEntriesRightWrong)

/-- 'laws.FnExactDirtOf': WHATEVER THE INPUT: true; the input reads as it did. -/
def fnExactDirtOfSpec : ChangeSpec := { name := "fnExactDirtOf", fn := fun _ => fun
  | [d1, d2] => { results := [.lit (.bool true)], args := [d1, d2] }
  | _ => none }
def fnExactDirtOfRow : OpenClaim := { program := "ytglijfolfelimaa", sum := "7de1a32b85ab8589039529550644dc1eb672aa9134b40f48bfeb36a1a91dd373", func := "loop.example/g00975/laws.FnExactDirtOf", spec := "fnExactDirtOf", apart := false }
def FnExactDirtOfSaid : Prop := fnExactDirtOfRow.holds Try.pinned (OpenSpec.ofChange fnExactDirtOfSpec)

/-- ITS FALSE NEIGHBOUR: 'it returns false'. Refute it at one input. -/
def fnExactDirtOfWrong : ChangeSpec := { name := "fnExactDirtOf", fn := fun _ => fun
  | [d1, d2] => { results := [.lit (.bool false)], args := [d1, d2] }
  | _ => none }
def FnExactDirtOfWrongFalsely : Prop := fnExactDirtOfRow.holds Try.pinned (OpenSpec.ofChange fnExactDirtOfWrong)

/-- 'laws.FnExactDirtyIn': WHATEVER THE INPUT: true; the input reads as it did. -/
def fnExactDirtyInSpec : ChangeSpec := { name := "fnExactDirtyIn", fn := fun _ => fun
  | [d1, d2] => { results := [.lit (.bool true)], args := [d1, d2] }
  | _ => none }
def fnExactDirtyInRow : OpenClaim := { program := "ytglijfolfelimaa", sum := "7de1a32b85ab8589039529550644dc1eb672aa9134b40f48bfeb36a1a91dd373", func := "loop.example/g00975/laws.FnExactDirtyIn", spec := "fnExactDirtyIn", apart := false }
def FnExactDirtyInSaid : Prop := fnExactDirtyInRow.holds Try.pinned (OpenSpec.ofChange fnExactDirtyInSpec)

/-- ITS FALSE NEIGHBOUR: 'it returns false'. Refute it at one input. -/
def fnExactDirtyInWrong : ChangeSpec := { name := "fnExactDirtyIn", fn := fun _ => fun
  | [d1, d2] => { results := [.lit (.bool false)], args := [d1, d2] }
  | _ => none }
def FnExactDirtyInWrongFalsely : Prop := fnExactDirtyInRow.holds Try.pinned (OpenSpec.ofChange fnExactDirtyInWrong)

/-- 'laws.FnExactOutOf': WHATEVER THE INPUT: true; the input reads as it did. -/
def fnExactOutOfSpec : ChangeSpec := { name := "fnExactOutOf", fn := fun _ => fun
  | [d1, d2] => { results := [.lit (.bool true)], args := [d1, d2] }
  | _ => none }
def fnExactOutOfRow : OpenClaim := { program := "ytglijfolfelimaa", sum := "7de1a32b85ab8589039529550644dc1eb672aa9134b40f48bfeb36a1a91dd373", func := "loop.example/g00975/laws.FnExactOutOf", spec := "fnExactOutOf", unfollowed := true, recurses := true, apart := false }
def FnExactOutOfSaid : Prop := fnExactOutOfRow.holds Try.pinned (OpenSpec.ofChange fnExactOutOfSpec)

/-- ITS FALSE NEIGHBOUR: 'it returns false'. Refute it at one input. -/
def fnExactOutOfWrong : ChangeSpec := { name := "fnExactOutOf", fn := fun _ => fun
  | [d1, d2] => { results := [.lit (.bool false)], args := [d1, d2] }
  | _ => none }
def FnExactOutOfWrongFalsely : Prop := fnExactOutOfRow.holds Try.pinned (OpenSpec.ofChange fnExactOutOfWrong)

/-- 'laws.FnExactGuardedIn': WHATEVER THE INPUT: true; the input reads as it did. -/
def fnExactGuardedInSpec : ChangeSpec := { name := "fnExactGuardedIn", fn := fun _ => fun
  | [d1, d2] => { results := [.lit (.bool true)], args := [d1, d2] }
  | _ => none }
def fnExactGuardedInRow : OpenClaim := { program := "ytglijfolfelimaa", sum := "7de1a32b85ab8589039529550644dc1eb672aa9134b40f48bfeb36a1a91dd373", func := "loop.example/g00975/laws.FnExactGuardedIn", spec := "fnExactGuardedIn", unfollowed := true, recurses := true, apart := false }
def FnExactGuardedInSaid : Prop := fnExactGuardedInRow.holds Try.pinned (OpenSpec.ofChange fnExactGuardedInSpec)

/-- ITS FALSE NEIGHBOUR: 'it returns false'. Refute it at one input. -/
def fnExactGuardedInWrong : ChangeSpec := { name := "fnExactGuardedIn", fn := fun _ => fun
  | [d1, d2] => { results := [.lit (.bool false)], args := [d1, d2] }
  | _ => none }
def FnExactGuardedInWrongFalsely : Prop := fnExactGuardedInRow.holds Try.pinned (OpenSpec.ofChange fnExactGuardedInWrong)

/-- 'laws.FnExactShareOf': WHATEVER THE INPUT: true; the input reads as it did. -/
def fnExactShareOfSpec : ChangeSpec := { name := "fnExactShareOf", fn := fun _ => fun
  | [d] => { results := [.lit (.bool true)], args := [d] }
  | _ => none }
def fnExactShareOfRow : OpenClaim := { program := "ytglijfolfelimaa", sum := "7de1a32b85ab8589039529550644dc1eb672aa9134b40f48bfeb36a1a91dd373", func := "loop.example/g00975/laws.FnExactShareOf", spec := "fnExactShareOf", apart := false }
def FnExactShareOfSaid : Prop := fnExactShareOfRow.holds Try.pinned (OpenSpec.ofChange fnExactShareOfSpec)

/-- ITS FALSE NEIGHBOUR: 'it returns false'. Refute it at one input. -/
def fnExactShareOfWrong : ChangeSpec := { name := "fnExactShareOf", fn := fun _ => fun
  | [d] => { results := [.lit (.bool false)], args := [d] }
  | _ => none }
def FnExactShareOfWrongFalsely : Prop := fnExactShareOfRow.holds Try.pinned (OpenSpec.ofChange fnExactShareOfWrong)

/-- 'laws.FnExactDiffer': WHATEVER THE INPUT: true; the input reads as it did. -/
def fnExactDifferSpec : ChangeSpec := { name := "fnExactDiffer", fn := fun _ => fun
  | [d1, d2, d3] => { results := [.lit (.bool true)], args := [d1, d2, d3] }
  | _ => none }
def fnExactDifferRow : OpenClaim := { program := "ytglijfolfelimaa", sum := "7de1a32b85ab8589039529550644dc1eb672aa9134b40f48bfeb36a1a91dd373", func := "loop.example/g00975/laws.FnExactDiffer", spec := "fnExactDiffer", apart := false }
def FnExactDifferSaid : Prop := fnExactDifferRow.holds Try.pinned (OpenSpec.ofChange fnExactDifferSpec)

/-- ITS FALSE NEIGHBOUR: 'it returns false'. Refute it at one input. -/
def fnExactDifferWrong : ChangeSpec := { name := "fnExactDiffer", fn := fun _ => fun
  | [d1, d2, d3] => { results := [.lit (.bool false)], args := [d1, d2, d3] }
  | _ => none }
def FnExactDifferWrongFalsely : Prop := fnExactDifferRow.holds Try.pinned (OpenSpec.ofChange fnExactDifferWrong)

/-- 'laws.FnExactOwnPages': WHATEVER THE INPUT: true; the input reads as it did. -/
def fnExactOwnPagesSpec : ChangeSpec := { name := "fnExactOwnPages", fn := fun _ => fun
  | [d1, d2] => { results := [.lit (.bool true)], args := [d1, d2] }
  | _ => none }
def fnExactOwnPagesRow : OpenClaim := { program := "ytglijfolfelimaa", sum := "7de1a32b85ab8589039529550644dc1eb672aa9134b40f48bfeb36a1a91dd373", func := "loop.example/g00975/laws.FnExactOwnPages", spec := "fnExactOwnPages", recurses := true, apart := false }
def FnExactOwnPagesSaid : Prop := fnExactOwnPagesRow.holds Try.pinned (OpenSpec.ofChange fnExactOwnPagesSpec)

/-- ITS FALSE NEIGHBOUR: 'it returns false'. Refute it at one input. -/
def fnExactOwnPagesWrong : ChangeSpec := { name := "fnExactOwnPages", fn := fun _ => fun
  | [d1, d2] => { results := [.lit (.bool false)], args := [d1, d2] }
  | _ => none }
def FnExactOwnPagesWrongFalsely : Prop := fnExactOwnPagesRow.holds Try.pinned (OpenSpec.ofChange fnExactOwnPagesWrong)

/- THE SECOND FORM. 'bulk': how many values and letters a reading holds, each counted each time it is reached (what is shared counts as often as it is met; a slice's spare places count too). A statement '..UptoSaid' is the law's where the arguments, and the package variables that the reading takes, are together of bulk at most 1048576: NARROWER than '..Said'. Prove '..Said' where nothing that the law and all that it calls make is longer than what came in: it says more and counts as full. Else prove '..UptoSaid'. A law counts once. -/
mutual
def uptoBulk {H : Type} : DataW H → Nat
  | .lit (.string bytes) => bytes.length + 1
  | .lit _ => 1
  | .nil => 1
  | .ptr d => uptoBulk d + 1
  | .slice elems spare => uptoBulkAll elems + uptoBulkAll spare + 1
  | .agg parts => uptoBulkAll parts + 1
  | .iface _ d => uptoBulk d + 1
  | .map entries => uptoBulkEntries entries + 1
  | .held _ => 1
def uptoBulkAll {H : Type} : List (DataW H) → Nat
  | [] => 0
  | d :: r => uptoBulk d + uptoBulkAll r
def uptoBulkEntries {H : Type} : List (Lit × DataW H) → Nat
  | [] => 0
  | x :: r => uptoBulkEntry x + uptoBulkEntries r
def uptoBulkEntry {H : Type} : Lit × DataW H → Nat
  | (.string bytes, d) => bytes.length + uptoBulk d + 1
  | (_, d) => uptoBulk d + 1
 end
def uptoSmall : (H : Type) → List (DataW H) → Bool := fun _ ds => decide (uptoBulkAll ds ≤ 1048576)
def OpenSpec.upto (s : _root_.Go.ChangeSpec) : _root_.Go.OpenSpec := { _root_.Go.OpenSpec.ofChange s with cond := some uptoSmall }

/-- 'laws.FnExactIsDirty', WHERE WHAT IT READS IS OF BULK AT MOST 1048576: true; the input reads as it did. -/
def fnExactIsDirtyUptoRow : OpenClaim := { program := "ytglijfolfelimaa", sum := "7de1a32b85ab8589039529550644dc1eb672aa9134b40f48bfeb36a1a91dd373", func := "loop.example/g00975/laws.FnExactIsDirty", spec := "fnExactIsDirty", apart := false, narrowed := true }
def FnExactIsDirtyUptoSaid : Prop := fnExactIsDirtyUptoRow.holds Try.pinned (OpenSpec.upto fnExactIsDirtySpec)

/-- 'laws.FnExactTablesRight', WHERE WHAT IT READS IS OF BULK AT MOST 1048576: true; the input reads as it did. -/
def fnExactTablesRightUptoRow : OpenClaim := { program := "ytglijfolfelimaa", sum := "7de1a32b85ab8589039529550644dc1eb672aa9134b40f48bfeb36a1a91dd373", func := "loop.example/g00975/laws.FnExactTablesRight", spec := "fnExactTablesRight", apart := false, narrowed := true }
def FnExactTablesRightUptoSaid : Prop := fnExactTablesRightUptoRow.holds Try.pinned (OpenSpec.upto fnExactTablesRightSpec)

/-- 'laws.FnExactEntriesRight', WHERE WHAT IT READS IS OF BULK AT MOST 1048576: true; the input reads as it did. -/
def fnExactEntriesRightUptoRow : OpenClaim := { program := "ytglijfolfelimaa", sum := "7de1a32b85ab8589039529550644dc1eb672aa9134b40f48bfeb36a1a91dd373", func := "loop.example/g00975/laws.FnExactEntriesRight", spec := "fnExactEntriesRight", apart := false, narrowed := true }
def FnExactEntriesRightUptoSaid : Prop := fnExactEntriesRightUptoRow.holds Try.pinned (OpenSpec.upto fnExactEntriesRightSpec)

/-- 'laws.FnExactDirtOf', WHERE WHAT IT READS IS OF BULK AT MOST 1048576: true; the input reads as it did. -/
def fnExactDirtOfUptoRow : OpenClaim := { program := "ytglijfolfelimaa", sum := "7de1a32b85ab8589039529550644dc1eb672aa9134b40f48bfeb36a1a91dd373", func := "loop.example/g00975/laws.FnExactDirtOf", spec := "fnExactDirtOf", apart := false, narrowed := true }
def FnExactDirtOfUptoSaid : Prop := fnExactDirtOfUptoRow.holds Try.pinned (OpenSpec.upto fnExactDirtOfSpec)

/-- 'laws.FnExactDirtyIn', WHERE WHAT IT READS IS OF BULK AT MOST 1048576: true; the input reads as it did. -/
def fnExactDirtyInUptoRow : OpenClaim := { program := "ytglijfolfelimaa", sum := "7de1a32b85ab8589039529550644dc1eb672aa9134b40f48bfeb36a1a91dd373", func := "loop.example/g00975/laws.FnExactDirtyIn", spec := "fnExactDirtyIn", apart := false, narrowed := true }
def FnExactDirtyInUptoSaid : Prop := fnExactDirtyInUptoRow.holds Try.pinned (OpenSpec.upto fnExactDirtyInSpec)

/-- 'laws.FnExactOutOf', WHERE WHAT IT READS IS OF BULK AT MOST 1048576: true; the input reads as it did. -/
def fnExactOutOfUptoRow : OpenClaim := { program := "ytglijfolfelimaa", sum := "7de1a32b85ab8589039529550644dc1eb672aa9134b40f48bfeb36a1a91dd373", func := "loop.example/g00975/laws.FnExactOutOf", spec := "fnExactOutOf", unfollowed := true, recurses := true, apart := false, narrowed := true }
def FnExactOutOfUptoSaid : Prop := fnExactOutOfUptoRow.holds Try.pinned (OpenSpec.upto fnExactOutOfSpec)

/-- 'laws.FnExactGuardedIn', WHERE WHAT IT READS IS OF BULK AT MOST 1048576: true; the input reads as it did. -/
def fnExactGuardedInUptoRow : OpenClaim := { program := "ytglijfolfelimaa", sum := "7de1a32b85ab8589039529550644dc1eb672aa9134b40f48bfeb36a1a91dd373", func := "loop.example/g00975/laws.FnExactGuardedIn", spec := "fnExactGuardedIn", unfollowed := true, recurses := true, apart := false, narrowed := true }
def FnExactGuardedInUptoSaid : Prop := fnExactGuardedInUptoRow.holds Try.pinned (OpenSpec.upto fnExactGuardedInSpec)

/-- 'laws.FnExactShareOf', WHERE WHAT IT READS IS OF BULK AT MOST 1048576: true; the input reads as it did. -/
def fnExactShareOfUptoRow : OpenClaim := { program := "ytglijfolfelimaa", sum := "7de1a32b85ab8589039529550644dc1eb672aa9134b40f48bfeb36a1a91dd373", func := "loop.example/g00975/laws.FnExactShareOf", spec := "fnExactShareOf", apart := false, narrowed := true }
def FnExactShareOfUptoSaid : Prop := fnExactShareOfUptoRow.holds Try.pinned (OpenSpec.upto fnExactShareOfSpec)

/-- 'laws.FnExactDiffer', WHERE WHAT IT READS IS OF BULK AT MOST 1048576: true; the input reads as it did. -/
def fnExactDifferUptoRow : OpenClaim := { program := "ytglijfolfelimaa", sum := "7de1a32b85ab8589039529550644dc1eb672aa9134b40f48bfeb36a1a91dd373", func := "loop.example/g00975/laws.FnExactDiffer", spec := "fnExactDiffer", apart := false, narrowed := true }
def FnExactDifferUptoSaid : Prop := fnExactDifferUptoRow.holds Try.pinned (OpenSpec.upto fnExactDifferSpec)

/-- 'laws.FnExactOwnPages', WHERE WHAT IT READS IS OF BULK AT MOST 1048576: true; the input reads as it did. -/
def fnExactOwnPagesUptoRow : OpenClaim := { program := "ytglijfolfelimaa", sum := "7de1a32b85ab8589039529550644dc1eb672aa9134b40f48bfeb36a1a91dd373", func := "loop.example/g00975/laws.FnExactOwnPages", spec := "fnExactOwnPages", recurses := true, apart := false, narrowed := true }
def FnExactOwnPagesUptoSaid : Prop := fnExactOwnPagesUptoRow.holds Try.pinned (OpenSpec.upto fnExactOwnPagesSpec)

end Rows
end Go.Proofs.Ytglijfolfelimaa
