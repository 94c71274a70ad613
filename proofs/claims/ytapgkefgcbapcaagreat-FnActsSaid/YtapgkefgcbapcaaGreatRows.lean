/-
  No cell of these rows narrows 'for every input' (looked for: loops, veiled, ifaces, maps, wideKeys, modest, calm, conditions, laid).
  DERIVED. THE GIVEN ROWS OF THIS SEAT. 6 by the template 'for every input the law returns true; each argument reads behind the call as it read before'; 0 by the template 'total and deterministic' (their statements: YtapgkefgcbapcaaGreatTotals.lean).
  GIVEN WITH THE SEED: the statements are not yours to turn. If you find one false, say at which input.
  Laid BY PROGRAM, IN A SANDBOX (cutbox-rows.mjs): the forced cells as the released guide's own fill.sh prints them over the translation aa02eee6a4d1f376… (all of the seat's roots in one cut). By AI agents, Wed Nov 11 2026. No macro, syntax, notation, axiom, sorry.
-/
import Derived.Test.YtapgkefgcbapcaaGreatChecked
import GoSem.Claim
import GoSem.ClaimJoined
import GoSem.ClaimMapViews
import Derived.JoinedTies
import Derived.KernelRfl
namespace Go.Proofs.YtapgkefgcbapcaaGreat
/- THE CELL 'sum', in the pinned program and in every row, IS THE sha256 OF THE DUMP (.gsa) THAT YtapgkefgcbapcaaGreatProg.lean LOADS. Nothing in Lean hashes anything: it is a label: what it is worth is what the hold of that sum in a sandbox is worth. -/
noncomputable def Tryz.pinned : Pinned := { name := "ytapgkefgcbapcaagreat", sum := "aa02eee6a4d1f37624261dc9f0fe4f1276859d82612eaa8e601ff89fc23f5b96", checked := Tryz.checked }
namespace Rows
def none {H : Type} : Left H := { results := [], args := [] }

/-- 'laws.FnFair': WHATEVER THE INPUT: true; the input reads as it did. -/
def fnFairSpec : ChangeSpec := { name := "fnFair", fn := fun _ => fun
  | [d] => { results := [.lit (.bool true)], args := [d] }
  | _ => none }
def fnFairRow : OpenClaim := { program := "ytapgkefgcbapcaagreat", sum := "aa02eee6a4d1f37624261dc9f0fe4f1276859d82612eaa8e601ff89fc23f5b96", func := "loop.example/g00975/laws.FnFair", spec := "fnFair", unfollowed := true, recurses := true, apart := false }
def FnFairSaid : Prop := fnFairRow.holds Tryz.pinned (OpenSpec.ofChange fnFairSpec)

/-- ITS FALSE NEIGHBOUR: 'it returns false'. Refute it at one input. -/
def fnFairWrong : ChangeSpec := { name := "fnFair", fn := fun _ => fun
  | [d] => { results := [.lit (.bool false)], args := [d] }
  | _ => none }
def FnFairWrongFalsely : Prop := fnFairRow.holds Tryz.pinned (OpenSpec.ofChange fnFairWrong)

/-- 'laws.FnActs': WHATEVER THE INPUT: true; the input reads as it did. -/
def fnActsSpec : ChangeSpec := { name := "fnActs", fn := fun _ => fun
  | [d] => { results := [.lit (.bool true)], args := [d] }
  | _ => none }
def fnActsRow : OpenClaim := { program := "ytapgkefgcbapcaagreat", sum := "aa02eee6a4d1f37624261dc9f0fe4f1276859d82612eaa8e601ff89fc23f5b96", func := "loop.example/g00975/laws.FnActs", spec := "fnActs", unfollowed := true, recurses := true, apart := false }
def FnActsSaid : Prop := fnActsRow.holds Tryz.pinned (OpenSpec.ofChange fnActsSpec)

/-- ITS FALSE NEIGHBOUR: 'it returns false'. Refute it at one input. -/
def fnActsWrong : ChangeSpec := { name := "fnActs", fn := fun _ => fun
  | [d] => { results := [.lit (.bool false)], args := [d] }
  | _ => none }
def FnActsWrongFalsely : Prop := fnActsRow.holds Tryz.pinned (OpenSpec.ofChange fnActsWrong)

/-- 'laws.FnSeenAs': WHATEVER THE INPUT: true; the input reads as it did. -/
def fnSeenAsSpec : ChangeSpec := { name := "fnSeenAs", fn := fun _ => fun
  | [d] => { results := [.lit (.bool true)], args := [d] }
  | _ => none }
def fnSeenAsRow : OpenClaim := { program := "ytapgkefgcbapcaagreat", sum := "aa02eee6a4d1f37624261dc9f0fe4f1276859d82612eaa8e601ff89fc23f5b96", func := "loop.example/g00975/laws.FnSeenAs", spec := "fnSeenAs", unfollowed := true, recurses := true, apart := false }
def FnSeenAsSaid : Prop := fnSeenAsRow.holds Tryz.pinned (OpenSpec.ofChange fnSeenAsSpec)

/-- ITS FALSE NEIGHBOUR: 'it returns false'. Refute it at one input. -/
def fnSeenAsWrong : ChangeSpec := { name := "fnSeenAs", fn := fun _ => fun
  | [d] => { results := [.lit (.bool false)], args := [d] }
  | _ => none }
def FnSeenAsWrongFalsely : Prop := fnSeenAsRow.holds Tryz.pinned (OpenSpec.ofChange fnSeenAsWrong)

/-- 'laws.FnMended': WHATEVER THE INPUT: true; the input reads as it did. -/
def fnMendedSpec : ChangeSpec := { name := "fnMended", fn := fun _ => fun
  | [d] => { results := [.lit (.bool true)], args := [d] }
  | _ => none }
def fnMendedRow : OpenClaim := { program := "ytapgkefgcbapcaagreat", sum := "aa02eee6a4d1f37624261dc9f0fe4f1276859d82612eaa8e601ff89fc23f5b96", func := "loop.example/g00975/laws.FnMended", spec := "fnMended", unfollowed := true, recurses := true, apart := false }
def FnMendedSaid : Prop := fnMendedRow.holds Tryz.pinned (OpenSpec.ofChange fnMendedSpec)

/-- ITS FALSE NEIGHBOUR: 'it returns false'. Refute it at one input. -/
def fnMendedWrong : ChangeSpec := { name := "fnMended", fn := fun _ => fun
  | [d] => { results := [.lit (.bool false)], args := [d] }
  | _ => none }
def FnMendedWrongFalsely : Prop := fnMendedRow.holds Tryz.pinned (OpenSpec.ofChange fnMendedWrong)

/-- 'laws.FnMachines': WHATEVER THE INPUT: true; the input reads as it did. -/
def fnMachinesSpec : ChangeSpec := { name := "fnMachines", fn := fun _ => fun
  | [d] => { results := [.lit (.bool true)], args := [d] }
  | _ => none }
def fnMachinesRow : OpenClaim := { program := "ytapgkefgcbapcaagreat", sum := "aa02eee6a4d1f37624261dc9f0fe4f1276859d82612eaa8e601ff89fc23f5b96", func := "loop.example/g00975/laws.FnMachines", spec := "fnMachines", unfollowed := true, recurses := true, apart := false }
def FnMachinesSaid : Prop := fnMachinesRow.holds Tryz.pinned (OpenSpec.ofChange fnMachinesSpec)

/-- ITS FALSE NEIGHBOUR: 'it returns false'. Refute it at one input. -/
def fnMachinesWrong : ChangeSpec := { name := "fnMachines", fn := fun _ => fun
  | [d] => { results := [.lit (.bool false)], args := [d] }
  | _ => none }
def FnMachinesWrongFalsely : Prop := fnMachinesRow.holds Tryz.pinned (OpenSpec.ofChange fnMachinesWrong)

/-- 'laws.FnApart': WHATEVER THE INPUT: true; the input reads as it did. -/
def fnApartSpec : ChangeSpec := { name := "fnApart", fn := fun _ => fun
  | [d] => { results := [.lit (.bool true)], args := [d] }
  | _ => none }
def fnApartRow : OpenClaim := { program := "ytapgkefgcbapcaagreat", sum := "aa02eee6a4d1f37624261dc9f0fe4f1276859d82612eaa8e601ff89fc23f5b96", func := "loop.example/g00975/laws.FnApart", spec := "fnApart", recurses := true, apart := false }
def FnApartSaid : Prop := fnApartRow.holds Tryz.pinned (OpenSpec.ofChange fnApartSpec)

/-- ITS FALSE NEIGHBOUR: 'it returns false'. Refute it at one input. -/
def fnApartWrong : ChangeSpec := { name := "fnApart", fn := fun _ => fun
  | [d] => { results := [.lit (.bool false)], args := [d] }
  | _ => none }
def FnApartWrongFalsely : Prop := fnApartRow.holds Tryz.pinned (OpenSpec.ofChange fnApartWrong)

/- THE SECOND FORM. 'bulk': how many values and letters a reading holds, each counted each time it is reached (what is shared counts as often as it is met; a slice's spare places count too). A statement '..UptoSaid' is the law's where the arguments, and the package variables that the reading takes, are together of bulk at most 1048576: NARROWER than '..Said'. Prove '..Said' where nothing that the law and all that it calls make is longer than what came in: it says more and counts as full. Else prove '..UptoSaid'. A law counts once. -/
mutual
def uptoBulk {H : Type} : DataW H → Nat
  | .lit (.string bytes) => bytes.length + 1
  | .lit _ => 1
  | .nil => 1
  | .ptr d => uptoBulk d + 1
  | .slice elems spare => uptoBulkAll elems + uptoBulkAll spare + 1
  | .agg parts => uptoBulkAll parts + 1
  | .iface _ d => uptoBulk d + 1
  | .map entries => uptoBulkEntries entries + 1
  | .held _ => 1
def uptoBulkAll {H : Type} : List (DataW H) → Nat
  | [] => 0
  | d :: r => uptoBulk d + uptoBulkAll r
def uptoBulkEntries {H : Type} : List (Lit × DataW H) → Nat
  | [] => 0
  | x :: r => uptoBulkEntry x + uptoBulkEntries r
def uptoBulkEntry {H : Type} : Lit × DataW H → Nat
  | (.string bytes, d) => bytes.length + uptoBulk d + 1
  | (_, d) => uptoBulk d + 1
 end
def uptoSmall : (H : Type) → List (DataW H) → Bool := fun _ ds => decide (uptoBulkAll ds ≤ 1048576)
def OpenSpec.upto (s : _root_.Go.ChangeSpec) : _root_.Go.OpenSpec := { _root_.Go.OpenSpec.ofChange s with cond := some uptoSmall }

/-- 'laws.FnFair', WHERE WHAT IT READS IS OF BULK AT MOST 1048576: true; the input reads as it did. -/
def fnFairUptoRow : OpenClaim := { program := "ytapgkefgcbapcaagreat", sum := "aa02eee6a4d1f37624261dc9f0fe4f1276859d82612eaa8e601ff89fc23f5b96", func := "loop.example/g00975/laws.FnFair", spec := "fnFair", unfollowed := true, recurses := true, apart := false, narrowed := true }
def FnFairUptoSaid : Prop := fnFairUptoRow.holds Tryz.pinned (OpenSpec.upto fnFairSpec)

/-- 'laws.FnActs', WHERE WHAT IT READS IS OF BULK AT MOST 1048576: true; the input reads as it did. -/
def fnActsUptoRow : OpenClaim := { program := "ytapgkefgcbapcaagreat", sum := "aa02eee6a4d1f37624261dc9f0fe4f1276859d82612eaa8e601ff89fc23f5b96", func := "loop.example/g00975/laws.FnActs", spec := "fnActs", unfollowed := true, recurses := true, apart := false, narrowed := true }
def FnActsUptoSaid : Prop := fnActsUptoRow.holds Tryz.pinned (OpenSpec.upto fnActsSpec)

/-- 'laws.FnSeenAs', WHERE WHAT IT READS IS OF BULK AT MOST 1048576: true; the input reads as it did. -/
def fnSeenAsUptoRow : OpenClaim := { program := "ytapgkefgcbapcaagreat", sum := "aa02eee6a4d1f37624261dc9f0fe4f1276859d82612eaa8e601ff89fc23f5b96", func := "loop.example/g00975/laws.FnSeenAs", spec := "fnSeenAs", unfollowed := true, recurses := true, apart := false, narrowed := true }
def FnSeenAsUptoSaid : Prop := fnSeenAsUptoRow.holds Tryz.pinned (OpenSpec.upto fnSeenAsSpec)

/-- 'laws.FnMended', WHERE WHAT IT READS IS OF BULK AT MOST 1048576: true; the input reads as it did. -/
def fnMendedUptoRow : OpenClaim := { program := "ytapgkefgcbapcaagreat", sum := "aa02eee6a4d1f37624261dc9f0fe4f1276859d82612eaa8e601ff89fc23f5b96", func := "loop.example/g00975/laws.FnMended", spec := "fnMended", unfollowed := true, recurses := true, apart := false, narrowed := true }
def FnMendedUptoSaid : Prop := fnMendedUptoRow.holds Tryz.pinned (OpenSpec.upto fnMendedSpec)

/-- 'laws.FnMachines', WHERE WHAT IT READS IS OF BULK AT MOST 1048576: true; the input reads as it did. -/
def fnMachinesUptoRow : OpenClaim := { program := "ytapgkefgcbapcaagreat", sum := "aa02eee6a4d1f37624261dc9f0fe4f1276859d82612eaa8e601ff89fc23f5b96", func := "loop.example/g00975/laws.FnMachines", spec := "fnMachines", unfollowed := true, recurses := true, apart := false, narrowed := true }
def FnMachinesUptoSaid : Prop := fnMachinesUptoRow.holds Tryz.pinned (OpenSpec.upto fnMachinesSpec)

/-- 'laws.FnApart', WHERE WHAT IT READS IS OF BULK AT MOST 1048576: true; the input reads as it did. -/
def fnApartUptoRow : OpenClaim := { program := "ytapgkefgcbapcaagreat", sum := "aa02eee6a4d1f37624261dc9f0fe4f1276859d82612eaa8e601ff89fc23f5b96", func := "loop.example/g00975/laws.FnApart", spec := "fnApart", recurses := true, apart := false, narrowed := true }
def FnApartUptoSaid : Prop := fnApartUptoRow.holds Tryz.pinned (OpenSpec.upto fnApartSpec)

end Rows
end Go.Proofs.YtapgkefgcbapcaaGreat
