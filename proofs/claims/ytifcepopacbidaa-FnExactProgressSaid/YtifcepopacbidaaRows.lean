/-
  No cell of these rows narrows 'for every input' (looked for: loops, veiled, ifaces, maps, wideKeys, modest, calm, conditions, laid).
  DERIVED. THE GIVEN ROWS OF THIS SEAT. 6 by the template 'for every input the law returns true; each argument reads behind the call as it read before'; 0 by the template 'total and deterministic' (their statements: YtifcepopacbidaaTotals.lean).
  GIVEN WITH THE SEED: the statements are not yours to turn. If you find one false, say at which input.
  Laid BY PROGRAM, IN A SANDBOX (cutbox-rows.mjs): the forced cells as the released guide's own fill.sh prints them over the translation c38e243cc35aca12… (all of the seat's roots in one cut). By AI agents, Wed Nov 11 2026. No macro, syntax, notation, axiom, sorry.
-/
import Derived.Test.YtifcepopacbidaaChecked
import GoSem.Claim
import GoSem.ClaimJoined
import GoSem.ClaimMapViews
import Derived.JoinedTies
import Derived.KernelRfl
namespace Go.Proofs.Ytifcepopacbidaa
/- THE CELL 'sum', in the pinned program and in every row, IS THE sha256 OF THE DUMP (.gsa) THAT YtifcepopacbidaaProg.lean LOADS. Nothing in Lean hashes anything: it is a label: what it is worth is what the hold of that sum in a sandbox is worth. -/
noncomputable def Try.pinned : Pinned := { name := "ytifcepopacbidaa", sum := "c38e243cc35aca12c2ac28b51f727696f03f99e319854f0285e44ba5fbcf46d2", checked := Try.checked }
namespace Rows
def none {H : Type} : Left H := { results := [], args := [] }

/-- 'laws.FnExactSteps': WHATEVER THE INPUT: true; the input reads as it did. -/
def fnExactStepsSpec : ChangeSpec := { name := "fnExactSteps", fn := fun _ => fun
  | [d1, d2, d3] => { results := [.lit (.bool true)], args := [d1, d2, d3] }
  | _ => none }
def fnExactStepsRow : OpenClaim := { program := "ytifcepopacbidaa", sum := "c38e243cc35aca12c2ac28b51f727696f03f99e319854f0285e44ba5fbcf46d2", func := "loop.example/g00975/laws.FnExactSteps", spec := "fnExactSteps", apart := false }
def FnExactStepsSaid : Prop := fnExactStepsRow.holds Try.pinned (OpenSpec.ofChange fnExactStepsSpec)

/-- ITS FALSE NEIGHBOUR: 'it returns false'. Refute it at one input. -/
def fnExactStepsWrong : ChangeSpec := { name := "fnExactSteps", fn := fun _ => fun
  | [d1, d2, d3] => { results := [.lit (.bool false)], args := [d1, d2, d3] }
  | _ => none }
def FnExactStepsWrongFalsely : Prop := fnExactStepsRow.holds Try.pinned (OpenSpec.ofChange fnExactStepsWrong)

/-- 'laws.FnExactPagesApart': WHATEVER THE INPUT: true; the input reads as it did. -/
def fnExactPagesApartSpec : ChangeSpec := { name := "fnExactPagesApart", fn := fun _ => fun
  | [d] => { results := [.lit (.bool true)], args := [d] }
  | _ => none }
def fnExactPagesApartRow : OpenClaim := { program := "ytifcepopacbidaa", sum := "c38e243cc35aca12c2ac28b51f727696f03f99e319854f0285e44ba5fbcf46d2", func := "loop.example/g00975/laws.FnExactPagesApart", spec := "fnExactPagesApart", apart := false }
def FnExactPagesApartSaid : Prop := fnExactPagesApartRow.holds Try.pinned (OpenSpec.ofChange fnExactPagesApartSpec)

/-- ITS FALSE NEIGHBOUR: 'it returns false'. Refute it at one input. -/
def fnExactPagesApartWrong : ChangeSpec := { name := "fnExactPagesApart", fn := fun _ => fun
  | [d] => { results := [.lit (.bool false)], args := [d] }
  | _ => none }
def FnExactPagesApartWrongFalsely : Prop := fnExactPagesApartRow.holds Try.pinned (OpenSpec.ofChange fnExactPagesApartWrong)

/-- 'laws.FnExactQuiet': WHATEVER THE INPUT: true; the input reads as it did. -/
def fnExactQuietSpec : ChangeSpec := { name := "fnExactQuiet", fn := fun _ => fun
  | [d] => { results := [.lit (.bool true)], args := [d] }
  | _ => none }
def fnExactQuietRow : OpenClaim := { program := "ytifcepopacbidaa", sum := "c38e243cc35aca12c2ac28b51f727696f03f99e319854f0285e44ba5fbcf46d2", func := "loop.example/g00975/laws.FnExactQuiet", spec := "fnExactQuiet", apart := false }
def FnExactQuietSaid : Prop := fnExactQuietRow.holds Try.pinned (OpenSpec.ofChange fnExactQuietSpec)

/-- ITS FALSE NEIGHBOUR: 'it returns false'. Refute it at one input. -/
def fnExactQuietWrong : ChangeSpec := { name := "fnExactQuiet", fn := fun _ => fun
  | [d] => { results := [.lit (.bool false)], args := [d] }
  | _ => none }
def FnExactQuietWrongFalsely : Prop := fnExactQuietRow.holds Try.pinned (OpenSpec.ofChange fnExactQuietWrong)

/-- 'laws.FnExactProgress': WHATEVER THE INPUT: true; the input reads as it did. -/
def fnExactProgressSpec : ChangeSpec := { name := "fnExactProgress", fn := fun _ => fun
  | [d1, d2, d3, d4] => { results := [.lit (.bool true)], args := [d1, d2, d3, d4] }
  | _ => none }
def fnExactProgressRow : OpenClaim := { program := "ytifcepopacbidaa", sum := "c38e243cc35aca12c2ac28b51f727696f03f99e319854f0285e44ba5fbcf46d2", func := "loop.example/g00975/laws.FnExactProgress", spec := "fnExactProgress", apart := false }
def FnExactProgressSaid : Prop := fnExactProgressRow.holds Try.pinned (OpenSpec.ofChange fnExactProgressSpec)

/-- ITS FALSE NEIGHBOUR: 'it returns false'. Refute it at one input. -/
def fnExactProgressWrong : ChangeSpec := { name := "fnExactProgress", fn := fun _ => fun
  | [d1, d2, d3, d4] => { results := [.lit (.bool false)], args := [d1, d2, d3, d4] }
  | _ => none }
def FnExactProgressWrongFalsely : Prop := fnExactProgressRow.holds Try.pinned (OpenSpec.ofChange fnExactProgressWrong)

/-- 'laws.FnCrowded': WHATEVER THE INPUT: true; the input reads as it did. -/
def fnCrowdedSpec : ChangeSpec := { name := "fnCrowded", fn := fun _ => fun
  | [d] => { results := [.lit (.bool true)], args := [d] }
  | _ => none }
def fnCrowdedRow : OpenClaim := { program := "ytifcepopacbidaa", sum := "c38e243cc35aca12c2ac28b51f727696f03f99e319854f0285e44ba5fbcf46d2", func := "loop.example/g00975/laws.FnCrowded", spec := "fnCrowded", unfollowed := true, recurses := true, apart := false }
def FnCrowdedSaid : Prop := fnCrowdedRow.holds Try.pinned (OpenSpec.ofChange fnCrowdedSpec)

/-- ITS FALSE NEIGHBOUR: 'it returns false'. Refute it at one input. -/
def fnCrowdedWrong : ChangeSpec := { name := "fnCrowded", fn := fun _ => fun
  | [d] => { results := [.lit (.bool false)], args := [d] }
  | _ => none }
def FnCrowdedWrongFalsely : Prop := fnCrowdedRow.holds Try.pinned (OpenSpec.ofChange fnCrowdedWrong)

/-- 'laws.FnExactInUse': WHATEVER THE INPUT: true; the input reads as it did. -/
def fnExactInUseSpec : ChangeSpec := { name := "fnExactInUse", fn := fun _ => fun
  | [d1, d2] => { results := [.lit (.bool true)], args := [d1, d2] }
  | _ => none }
def fnExactInUseRow : OpenClaim := { program := "ytifcepopacbidaa", sum := "c38e243cc35aca12c2ac28b51f727696f03f99e319854f0285e44ba5fbcf46d2", func := "loop.example/g00975/laws.FnExactInUse", spec := "fnExactInUse", apart := false }
def FnExactInUseSaid : Prop := fnExactInUseRow.holds Try.pinned (OpenSpec.ofChange fnExactInUseSpec)

/-- ITS FALSE NEIGHBOUR: 'it returns false'. Refute it at one input. -/
def fnExactInUseWrong : ChangeSpec := { name := "fnExactInUse", fn := fun _ => fun
  | [d1, d2] => { results := [.lit (.bool false)], args := [d1, d2] }
  | _ => none }
def FnExactInUseWrongFalsely : Prop := fnExactInUseRow.holds Try.pinned (OpenSpec.ofChange fnExactInUseWrong)

/- THE SECOND FORM. 'bulk': how many values and letters a reading holds, each counted each time it is reached (what is shared counts as often as it is met; a slice's spare places count too). A statement '..UptoSaid' is the law's where the arguments, and the package variables that the reading takes, are together of bulk at most 1048576: NARROWER than '..Said'. Prove '..Said' where nothing that the law and all that it calls make is longer than what came in: it says more and counts as full. Else prove '..UptoSaid'. A law counts once. -/
mutual
def uptoBulk {H : Type} : DataW H → Nat
  | .lit (.string bytes) => bytes.length + 1
  | .lit _ => 1
  | .nil => 1
  | .ptr d => uptoBulk d + 1
  | .slice elems spare => uptoBulkAll elems + uptoBulkAll spare + 1
  | .agg parts => uptoBulkAll parts + 1
  | .iface _ d => uptoBulk d + 1
  | .map entries => uptoBulkEntries entries + 1
  | .held _ => 1
def uptoBulkAll {H : Type} : List (DataW H) → Nat
  | [] => 0
  | d :: r => uptoBulk d + uptoBulkAll r
def uptoBulkEntries {H : Type} : List (Lit × DataW H) → Nat
  | [] => 0
  | x :: r => uptoBulkEntry x + uptoBulkEntries r
def uptoBulkEntry {H : Type} : Lit × DataW H → Nat
  | (.string bytes, d) => bytes.length + uptoBulk d + 1
  | (_, d) => uptoBulk d + 1
 end
def uptoSmall : (H : Type) → List (DataW H) → Bool := fun _ ds => decide (uptoBulkAll ds ≤ 1048576)
def OpenSpec.upto (s : _root_.Go.ChangeSpec) : _root_.Go.OpenSpec := { _root_.Go.OpenSpec.ofChange s with cond := some uptoSmall }

/-- 'laws.FnExactSteps', WHERE WHAT IT READS IS OF BULK AT MOST 1048576: true; the input reads as it did. -/
def fnExactStepsUptoRow : OpenClaim := { program := "ytifcepopacbidaa", sum := "c38e243cc35aca12c2ac28b51f727696f03f99e319854f0285e44ba5fbcf46d2", func := "loop.example/g00975/laws.FnExactSteps", spec := "fnExactSteps", apart := false, narrowed := true }
def FnExactStepsUptoSaid : Prop := fnExactStepsUptoRow.holds Try.pinned (OpenSpec.upto fnExactStepsSpec)

/-- 'laws.FnExactPagesApart', WHERE WHAT IT READS IS OF BULK AT MOST 1048576: true; the input reads as it did. -/
def fnExactPagesApartUptoRow : OpenClaim := { program := "ytifcepopacbidaa", sum := "c38e243cc35aca12c2ac28b51f727696f03f99e319854f0285e44ba5fbcf46d2", func := "loop.example/g00975/laws.FnExactPagesApart", spec := "fnExactPagesApart", apart := false, narrowed := true }
def FnExactPagesApartUptoSaid : Prop := fnExactPagesApartUptoRow.holds Try.pinned (OpenSpec.upto fnExactPagesApartSpec)

/-- 'laws.FnExactQuiet', WHERE WHAT IT READS IS OF BULK AT MOST 1048576: true; the input reads as it did. -/
def fnExactQuietUptoRow : OpenClaim := { program := "ytifcepopacbidaa", sum := "c38e243cc35aca12c2ac28b51f727696f03f99e319854f0285e44ba5fbcf46d2", func := "loop.example/g00975/laws.FnExactQuiet", spec := "fnExactQuiet", apart := false, narrowed := true }
def FnExactQuietUptoSaid : Prop := fnExactQuietUptoRow.holds Try.pinned (OpenSpec.upto fnExactQuietSpec)

/-- 'laws.FnExactProgress', WHERE WHAT IT READS IS OF BULK AT MOST 1048576: true; the input reads as it did. -/
def fnExactProgressUptoRow : OpenClaim := { program := "ytifcepopacbidaa", sum := "c38e243cc35aca12c2ac28b51f727696f03f99e319854f0285e44ba5fbcf46d2", func := "loop.example/g00975/laws.FnExactProgress", spec := "fnExactProgress", apart := false, narrowed := true }
def FnExactProgressUptoSaid : Prop := fnExactProgressUptoRow.holds Try.pinned (OpenSpec.upto fnExactProgressSpec)

/-- 'laws.FnCrowded', WHERE WHAT IT READS IS OF BULK AT MOST 1048576: true; the input reads as it did. -/
def fnCrowdedUptoRow : OpenClaim := { program := "ytifcepopacbidaa", sum := "c38e243cc35aca12c2ac28b51f727696f03f99e319854f0285e44ba5fbcf46d2", func := "loop.example/g00975/laws.FnCrowded", spec := "fnCrowded", unfollowed := true, recurses := true, apart := false, narrowed := true }
def FnCrowdedUptoSaid : Prop := fnCrowdedUptoRow.holds Try.pinned (OpenSpec.upto fnCrowdedSpec)

/-- 'laws.FnExactInUse', WHERE WHAT IT READS IS OF BULK AT MOST 1048576: true; the input reads as it did. -/
def fnExactInUseUptoRow : OpenClaim := { program := "ytifcepopacbidaa", sum := "c38e243cc35aca12c2ac28b51f727696f03f99e319854f0285e44ba5fbcf46d2", func := "loop.example/g00975/laws.FnExactInUse", spec := "fnExactInUse", apart := false, narrowed := true }
def FnExactInUseUptoSaid : Prop := fnExactInUseUptoRow.holds Try.pinned (OpenSpec.upto fnExactInUseSpec)

end Rows
end Go.Proofs.Ytifcepopacbidaa
