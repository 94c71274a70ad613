/-
  No cell of these rows narrows 'for every input' (looked for: loops, veiled, ifaces, maps, wideKeys, modest, calm, conditions, laid).
  DERIVED. THE GIVEN ROWS OF THIS SEAT. 4 by the template 'for every input the law returns true; each argument reads behind the call as it read before'; 0 by the template 'total and deterministic' (their statements: YtkbkcnjpecmckaaGreatTotals.lean).
  GIVEN WITH THE SEED: the statements are not yours to turn. If you find one false, say at which input.
  Laid BY PROGRAM, IN A SANDBOX (cutbox-rows.mjs): the forced cells as the released guide's own fill.sh prints them over the translation ab761b0f89c55c35… (all of the seat's roots in one cut). By AI agents, Wed Nov 11 2026. No macro, syntax, notation, axiom, sorry.
-/
import Derived.Test.YtkbkcnjpecmckaaGreatChecked
import GoSem.Claim
import GoSem.ClaimJoined
import GoSem.ClaimMapViews
import Derived.JoinedTies
import Derived.KernelRfl
namespace Go.Proofs.YtkbkcnjpecmckaaGreat
/- THE CELL 'sum', in the pinned program and in every row, IS THE sha256 OF THE DUMP (.gsa) THAT YtkbkcnjpecmckaaGreatProg.lean LOADS. Nothing in Lean hashes anything: it is a label: what it is worth is what the hold of that sum in a sandbox is worth. -/
noncomputable def Tryz.pinned : Pinned := { name := "ytkbkcnjpecmckaagreat", sum := "ab761b0f89c55c35a2520fb5a1110984047fd0653828241024688043067f6b38", checked := Tryz.checked }
namespace Rows
def none {H : Type} : Left H := { results := [], args := [] }

/-- 'laws.FnMachines': WHATEVER THE INPUT: true; the input reads as it did. -/
def fnMachinesSpec : ChangeSpec := { name := "fnMachines", fn := fun _ => fun
  | [d] => { results := [.lit (.bool true)], args := [d] }
  | _ => none }
def fnMachinesRow : OpenClaim := { program := "ytkbkcnjpecmckaagreat", sum := "ab761b0f89c55c35a2520fb5a1110984047fd0653828241024688043067f6b38", func := "loop.example/g00975/laws.FnMachines", spec := "fnMachines", unfollowed := true, recurses := true, apart := false }
def FnMachinesSaid : Prop := fnMachinesRow.holds Tryz.pinned (OpenSpec.ofChange fnMachinesSpec)

/-- ITS FALSE NEIGHBOUR: 'it returns false'. Refute it at one input. -/
def fnMachinesWrong : ChangeSpec := { name := "fnMachines", fn := fun _ => fun
  | [d] => { results := [.lit (.bool false)], args := [d] }
  | _ => none }
def FnMachinesWrongFalsely : Prop := fnMachinesRow.holds Tryz.pinned (OpenSpec.ofChange fnMachinesWrong)

/-- 'laws.FnMended': WHATEVER THE INPUT: true; the input reads as it did. -/
def fnMendedSpec : ChangeSpec := { name := "fnMended", fn := fun _ => fun
  | [d] => { results := [.lit (.bool true)], args := [d] }
  | _ => none }
def fnMendedRow : OpenClaim := { program := "ytkbkcnjpecmckaagreat", sum := "ab761b0f89c55c35a2520fb5a1110984047fd0653828241024688043067f6b38", func := "loop.example/g00975/laws.FnMended", spec := "fnMended", unfollowed := true, recurses := true, apart := false }
def FnMendedSaid : Prop := fnMendedRow.holds Tryz.pinned (OpenSpec.ofChange fnMendedSpec)

/-- ITS FALSE NEIGHBOUR: 'it returns false'. Refute it at one input. -/
def fnMendedWrong : ChangeSpec := { name := "fnMended", fn := fun _ => fun
  | [d] => { results := [.lit (.bool false)], args := [d] }
  | _ => none }
def FnMendedWrongFalsely : Prop := fnMendedRow.holds Tryz.pinned (OpenSpec.ofChange fnMendedWrong)

/-- 'laws.FnHostSteps': WHATEVER THE INPUT: true; the input reads as it did. -/
def fnHostStepsSpec : ChangeSpec := { name := "fnHostSteps", fn := fun _ => fun
  | [d] => { results := [.lit (.bool true)], args := [d] }
  | _ => none }
def fnHostStepsRow : OpenClaim := { program := "ytkbkcnjpecmckaagreat", sum := "ab761b0f89c55c35a2520fb5a1110984047fd0653828241024688043067f6b38", func := "loop.example/g00975/laws.FnHostSteps", spec := "fnHostSteps", unfollowed := true, recurses := true, apart := false }
def FnHostStepsSaid : Prop := fnHostStepsRow.holds Tryz.pinned (OpenSpec.ofChange fnHostStepsSpec)

/-- ITS FALSE NEIGHBOUR: 'it returns false'. Refute it at one input. -/
def fnHostStepsWrong : ChangeSpec := { name := "fnHostSteps", fn := fun _ => fun
  | [d] => { results := [.lit (.bool false)], args := [d] }
  | _ => none }
def FnHostStepsWrongFalsely : Prop := fnHostStepsRow.holds Tryz.pinned (OpenSpec.ofChange fnHostStepsWrong)

/-- 'laws.FnSeenAs': WHATEVER THE INPUT: true; the input reads as it did. -/
def fnSeenAsSpec : ChangeSpec := { name := "fnSeenAs", fn := fun _ => fun
  | [d] => { results := [.lit (.bool true)], args := [d] }
  | _ => none }
def fnSeenAsRow : OpenClaim := { program := "ytkbkcnjpecmckaagreat", sum := "ab761b0f89c55c35a2520fb5a1110984047fd0653828241024688043067f6b38", func := "loop.example/g00975/laws.FnSeenAs", spec := "fnSeenAs", unfollowed := true, recurses := true, apart := false }
def FnSeenAsSaid : Prop := fnSeenAsRow.holds Tryz.pinned (OpenSpec.ofChange fnSeenAsSpec)

/-- ITS FALSE NEIGHBOUR: 'it returns false'. Refute it at one input. -/
def fnSeenAsWrong : ChangeSpec := { name := "fnSeenAs", fn := fun _ => fun
  | [d] => { results := [.lit (.bool false)], args := [d] }
  | _ => none }
def FnSeenAsWrongFalsely : Prop := fnSeenAsRow.holds Tryz.pinned (OpenSpec.ofChange fnSeenAsWrong)

/- THE SECOND FORM. 'bulk': how many values and letters a reading holds, each counted each time it is reached (what is shared counts as often as it is met; a slice's spare places count too). A statement '..UptoSaid' is the law's where the arguments, and the package variables that the reading takes, are together of bulk at most 1048576: NARROWER than '..Said'. Prove '..Said' where nothing that the law and all that it calls make is longer than what came in: it says more and counts as full. Else prove '..UptoSaid'. A law counts once. -/
mutual
def uptoBulk {H : Type} : DataW H → Nat
  | .lit (.string bytes) => bytes.length + 1
  | .lit _ => 1
  | .nil => 1
  | .ptr d => uptoBulk d + 1
  | .slice elems spare => uptoBulkAll elems + uptoBulkAll spare + 1
  | .agg parts => uptoBulkAll parts + 1
  | .iface _ d => uptoBulk d + 1
  | .map entries => uptoBulkEntries entries + 1
  | .held _ => 1
def uptoBulkAll {H : Type} : List (DataW H) → Nat
  | [] => 0
  | d :: r => uptoBulk d + uptoBulkAll r
def uptoBulkEntries {H : Type} : List (Lit × DataW H) → Nat
  | [] => 0
  | x :: r => uptoBulkEntry x + uptoBulkEntries r
def uptoBulkEntry {H : Type} : Lit × DataW H → Nat
  | (.string bytes, d) => bytes.length + uptoBulk d + 1
  | (_, d) => uptoBulk d + 1
 end
def uptoSmall : (H : Type) → List (DataW H) → Bool := fun _ ds => decide (uptoBulkAll ds ≤ 1048576)
def OpenSpec.upto (s : _root_.Go.ChangeSpec) : _root_.Go.OpenSpec := { _root_.Go.OpenSpec.ofChange s with cond := some uptoSmall }

/-- 'laws.FnMachines', WHERE WHAT IT READS IS OF BULK AT MOST 1048576: true; the input reads as it did. -/
def fnMachinesUptoRow : OpenClaim := { program := "ytkbkcnjpecmckaagreat", sum := "ab761b0f89c55c35a2520fb5a1110984047fd0653828241024688043067f6b38", func := "loop.example/g00975/laws.FnMachines", spec := "fnMachines", unfollowed := true, recurses := true, apart := false, narrowed := true }
def FnMachinesUptoSaid : Prop := fnMachinesUptoRow.holds Tryz.pinned (OpenSpec.upto fnMachinesSpec)

/-- 'laws.FnMended', WHERE WHAT IT READS IS OF BULK AT MOST 1048576: true; the input reads as it did. -/
def fnMendedUptoRow : OpenClaim := { program := "ytkbkcnjpecmckaagreat", sum := "ab761b0f89c55c35a2520fb5a1110984047fd0653828241024688043067f6b38", func := "loop.example/g00975/laws.FnMended", spec := "fnMended", unfollowed := true, recurses := true, apart := false, narrowed := true }
def FnMendedUptoSaid : Prop := fnMendedUptoRow.holds Tryz.pinned (OpenSpec.upto fnMendedSpec)

/-- 'laws.FnHostSteps', WHERE WHAT IT READS IS OF BULK AT MOST 1048576: true; the input reads as it did. -/
def fnHostStepsUptoRow : OpenClaim := { program := "ytkbkcnjpecmckaagreat", sum := "ab761b0f89c55c35a2520fb5a1110984047fd0653828241024688043067f6b38", func := "loop.example/g00975/laws.FnHostSteps", spec := "fnHostSteps", unfollowed := true, recurses := true, apart := false, narrowed := true }
def FnHostStepsUptoSaid : Prop := fnHostStepsUptoRow.holds Tryz.pinned (OpenSpec.upto fnHostStepsSpec)

/-- 'laws.FnSeenAs', WHERE WHAT IT READS IS OF BULK AT MOST 1048576: true; the input reads as it did. -/
def fnSeenAsUptoRow : OpenClaim := { program := "ytkbkcnjpecmckaagreat", sum := "ab761b0f89c55c35a2520fb5a1110984047fd0653828241024688043067f6b38", func := "loop.example/g00975/laws.FnSeenAs", spec := "fnSeenAs", unfollowed := true, recurses := true, apart := false, narrowed := true }
def FnSeenAsUptoSaid : Prop := fnSeenAsUptoRow.holds Tryz.pinned (OpenSpec.upto fnSeenAsSpec)

end Rows
end Go.Proofs.YtkbkcnjpecmckaaGreat
