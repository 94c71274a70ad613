/-
  No cell of these rows narrows 'for every input' (looked for: loops, veiled, ifaces, maps, wideKeys, modest, calm, conditions, laid).
  DERIVED. THE GIVEN ROWS OF THIS SEAT. 4 by the template 'for every input the law returns true; each argument reads behind the call as it read before'; 0 by the template 'total and deterministic' (their statements: YthhbajmehldikaaGreatTotals.lean).
  GIVEN WITH THE SEED: the statements are not yours to turn. If you find one false, say at which input.
  Laid BY PROGRAM, IN A SANDBOX (cutbox-rows.mjs): the forced cells as the released guide's own fill.sh prints them over the translation ed229db23dd83f45… (all of the seat's roots in one cut). By AI agents, Wed Nov 11 2026. No macro, syntax, notation, axiom, sorry.
-/
import Derived.Test.YthhbajmehldikaaGreatChecked
import GoSem.Claim
import GoSem.ClaimJoined
import GoSem.ClaimMapViews
import Derived.JoinedTies
import Derived.KernelRfl
namespace Go.Proofs.YthhbajmehldikaaGreat
/- THE CELL 'sum', in the pinned program and in every row, IS THE sha256 OF THE DUMP (.gsa) THAT YthhbajmehldikaaGreatProg.lean LOADS. Nothing in Lean hashes anything: it is a label: what it is worth is what the hold of that sum in a sandbox is worth. -/
noncomputable def Tryz.pinned : Pinned := { name := "ythhbajmehldikaagreat", sum := "ed229db23dd83f459c96462d20c3deea38c2c6d24d63f8be85910077a45fef2b", checked := Tryz.checked }
namespace Rows
def none {H : Type} : Left H := { results := [], args := [] }

/-- 'laws.FnReflected': WHATEVER THE INPUT: true; the input reads as it did. -/
def fnReflectedSpec : ChangeSpec := { name := "fnReflected", fn := fun _ => fun
  | [d] => { results := [.lit (.bool true)], args := [d] }
  | _ => none }
def fnReflectedRow : OpenClaim := { program := "ythhbajmehldikaagreat", sum := "ed229db23dd83f459c96462d20c3deea38c2c6d24d63f8be85910077a45fef2b", func := "loop.example/g00975/laws.FnReflected", spec := "fnReflected", unfollowed := true, recurses := true, apart := false }
def FnReflectedSaid : Prop := fnReflectedRow.holds Tryz.pinned (OpenSpec.ofChange fnReflectedSpec)

/-- ITS FALSE NEIGHBOUR: 'it returns false'. Refute it at one input. -/
def fnReflectedWrong : ChangeSpec := { name := "fnReflected", fn := fun _ => fun
  | [d] => { results := [.lit (.bool false)], args := [d] }
  | _ => none }
def FnReflectedWrongFalsely : Prop := fnReflectedRow.holds Tryz.pinned (OpenSpec.ofChange fnReflectedWrong)

/-- 'laws.FnFlushedAll': WHATEVER THE INPUT: true; the input reads as it did. -/
def fnFlushedAllSpec : ChangeSpec := { name := "fnFlushedAll", fn := fun _ => fun
  | [d] => { results := [.lit (.bool true)], args := [d] }
  | _ => none }
def fnFlushedAllRow : OpenClaim := { program := "ythhbajmehldikaagreat", sum := "ed229db23dd83f459c96462d20c3deea38c2c6d24d63f8be85910077a45fef2b", func := "loop.example/g00975/laws.FnFlushedAll", spec := "fnFlushedAll", unfollowed := true, recurses := true, apart := false }
def FnFlushedAllSaid : Prop := fnFlushedAllRow.holds Tryz.pinned (OpenSpec.ofChange fnFlushedAllSpec)

/-- ITS FALSE NEIGHBOUR: 'it returns false'. Refute it at one input. -/
def fnFlushedAllWrong : ChangeSpec := { name := "fnFlushedAll", fn := fun _ => fun
  | [d] => { results := [.lit (.bool false)], args := [d] }
  | _ => none }
def FnFlushedAllWrongFalsely : Prop := fnFlushedAllRow.holds Tryz.pinned (OpenSpec.ofChange fnFlushedAllWrong)

/-- 'laws.FnLookups': WHATEVER THE INPUT: true; the input reads as it did. -/
def fnLookupsSpec : ChangeSpec := { name := "fnLookups", fn := fun _ => fun
  | [d] => { results := [.lit (.bool true)], args := [d] }
  | _ => none }
def fnLookupsRow : OpenClaim := { program := "ythhbajmehldikaagreat", sum := "ed229db23dd83f459c96462d20c3deea38c2c6d24d63f8be85910077a45fef2b", func := "loop.example/g00975/laws.FnLookups", spec := "fnLookups", unfollowed := true, recurses := true, apart := false }
def FnLookupsSaid : Prop := fnLookupsRow.holds Tryz.pinned (OpenSpec.ofChange fnLookupsSpec)

/-- ITS FALSE NEIGHBOUR: 'it returns false'. Refute it at one input. -/
def fnLookupsWrong : ChangeSpec := { name := "fnLookups", fn := fun _ => fun
  | [d] => { results := [.lit (.bool false)], args := [d] }
  | _ => none }
def FnLookupsWrongFalsely : Prop := fnLookupsRow.holds Tryz.pinned (OpenSpec.ofChange fnLookupsWrong)

/-- 'laws.FnOutside': WHATEVER THE INPUT: true; the input reads as it did. -/
def fnOutsideSpec : ChangeSpec := { name := "fnOutside", fn := fun _ => fun
  | [d] => { results := [.lit (.bool true)], args := [d] }
  | _ => none }
def fnOutsideRow : OpenClaim := { program := "ythhbajmehldikaagreat", sum := "ed229db23dd83f459c96462d20c3deea38c2c6d24d63f8be85910077a45fef2b", func := "loop.example/g00975/laws.FnOutside", spec := "fnOutside", unfollowed := true, recurses := true, apart := false }
def FnOutsideSaid : Prop := fnOutsideRow.holds Tryz.pinned (OpenSpec.ofChange fnOutsideSpec)

/-- ITS FALSE NEIGHBOUR: 'it returns false'. Refute it at one input. -/
def fnOutsideWrong : ChangeSpec := { name := "fnOutside", fn := fun _ => fun
  | [d] => { results := [.lit (.bool false)], args := [d] }
  | _ => none }
def FnOutsideWrongFalsely : Prop := fnOutsideRow.holds Tryz.pinned (OpenSpec.ofChange fnOutsideWrong)

/- THE SECOND FORM. 'bulk': how many values and letters a reading holds, each counted each time it is reached (what is shared counts as often as it is met; a slice's spare places count too). A statement '..UptoSaid' is the law's where the arguments, and the package variables that the reading takes, are together of bulk at most 1048576: NARROWER than '..Said'. Prove '..Said' where nothing that the law and all that it calls make is longer than what came in: it says more and counts as full. Else prove '..UptoSaid'. A law counts once. -/
mutual
def uptoBulk {H : Type} : DataW H → Nat
  | .lit (.string bytes) => bytes.length + 1
  | .lit _ => 1
  | .nil => 1
  | .ptr d => uptoBulk d + 1
  | .slice elems spare => uptoBulkAll elems + uptoBulkAll spare + 1
  | .agg parts => uptoBulkAll parts + 1
  | .iface _ d => uptoBulk d + 1
  | .map entries => uptoBulkEntries entries + 1
  | .held _ => 1
def uptoBulkAll {H : Type} : List (DataW H) → Nat
  | [] => 0
  | d :: r => uptoBulk d + uptoBulkAll r
def uptoBulkEntries {H : Type} : List (Lit × DataW H) → Nat
  | [] => 0
  | x :: r => uptoBulkEntry x + uptoBulkEntries r
def uptoBulkEntry {H : Type} : Lit × DataW H → Nat
  | (.string bytes, d) => bytes.length + uptoBulk d + 1
  | (_, d) => uptoBulk d + 1
 end
def uptoSmall : (H : Type) → List (DataW H) → Bool := fun _ ds => decide (uptoBulkAll ds ≤ 1048576)
def OpenSpec.upto (s : _root_.Go.ChangeSpec) : _root_.Go.OpenSpec := { _root_.Go.OpenSpec.ofChange s with cond := some uptoSmall }

/-- 'laws.FnReflected', WHERE WHAT IT READS IS OF BULK AT MOST 1048576: true; the input reads as it did. -/
def fnReflectedUptoRow : OpenClaim := { program := "ythhbajmehldikaagreat", sum := "ed229db23dd83f459c96462d20c3deea38c2c6d24d63f8be85910077a45fef2b", func := "loop.example/g00975/laws.FnReflected", spec := "fnReflected", unfollowed := true, recurses := true, apart := false, narrowed := true }
def FnReflectedUptoSaid : Prop := fnReflectedUptoRow.holds Tryz.pinned (OpenSpec.upto fnReflectedSpec)

/-- 'laws.FnFlushedAll', WHERE WHAT IT READS IS OF BULK AT MOST 1048576: true; the input reads as it did. -/
def fnFlushedAllUptoRow : OpenClaim := { program := "ythhbajmehldikaagreat", sum := "ed229db23dd83f459c96462d20c3deea38c2c6d24d63f8be85910077a45fef2b", func := "loop.example/g00975/laws.FnFlushedAll", spec := "fnFlushedAll", unfollowed := true, recurses := true, apart := false, narrowed := true }
def FnFlushedAllUptoSaid : Prop := fnFlushedAllUptoRow.holds Tryz.pinned (OpenSpec.upto fnFlushedAllSpec)

/-- 'laws.FnLookups', WHERE WHAT IT READS IS OF BULK AT MOST 1048576: true; the input reads as it did. -/
def fnLookupsUptoRow : OpenClaim := { program := "ythhbajmehldikaagreat", sum := "ed229db23dd83f459c96462d20c3deea38c2c6d24d63f8be85910077a45fef2b", func := "loop.example/g00975/laws.FnLookups", spec := "fnLookups", unfollowed := true, recurses := true, apart := false, narrowed := true }
def FnLookupsUptoSaid : Prop := fnLookupsUptoRow.holds Tryz.pinned (OpenSpec.upto fnLookupsSpec)

/-- 'laws.FnOutside', WHERE WHAT IT READS IS OF BULK AT MOST 1048576: true; the input reads as it did. -/
def fnOutsideUptoRow : OpenClaim := { program := "ythhbajmehldikaagreat", sum := "ed229db23dd83f459c96462d20c3deea38c2c6d24d63f8be85910077a45fef2b", func := "loop.example/g00975/laws.FnOutside", spec := "fnOutside", unfollowed := true, recurses := true, apart := false, narrowed := true }
def FnOutsideUptoSaid : Prop := fnOutsideUptoRow.holds Tryz.pinned (OpenSpec.upto fnOutsideSpec)

end Rows
end Go.Proofs.YthhbajmehldikaaGreat
