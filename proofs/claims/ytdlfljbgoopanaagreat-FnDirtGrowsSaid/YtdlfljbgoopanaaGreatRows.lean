/-
  No cell of these rows narrows 'for every input' (looked for: loops, veiled, ifaces, maps, wideKeys, modest, calm, conditions, laid).
  DERIVED. THE GIVEN ROWS OF THIS SEAT. 4 by the template 'for every input the law returns true; each argument reads behind the call as it read before'; 0 by the template 'total and deterministic' (their statements: YtdlfljbgoopanaaGreatTotals.lean).
  GIVEN WITH THE SEED: the statements are not yours to turn. If you find one false, say at which input.
  Laid BY PROGRAM, IN A SANDBOX (cutbox-rows.mjs): the forced cells as the released guide's own fill.sh prints them over the translation a80fcf9a3697cd86… (all of the seat's roots in one cut). By AI agents, Wed Nov 11 2026. No macro, syntax, notation, axiom, sorry.
-/
import Derived.Test.YtdlfljbgoopanaaGreatChecked
import GoSem.Claim
import GoSem.ClaimJoined
import GoSem.ClaimMapViews
import Derived.JoinedTies
import Derived.KernelRfl
namespace Go.Proofs.YtdlfljbgoopanaaGreat
/- THE CELL 'sum', in the pinned program and in every row, IS THE sha256 OF THE DUMP (.gsa) THAT YtdlfljbgoopanaaGreatProg.lean LOADS. Nothing in Lean hashes anything: it is a label: what it is worth is what the hold of that sum in a sandbox is worth. -/
noncomputable def Tryz.pinned : Pinned := { name := "ytdlfljbgoopanaagreat", sum := "a80fcf9a3697cd86d07b15f029d05951855d6638eebb96915f1bb6138243664a", checked := Tryz.checked }
namespace Rows
def none {H : Type} : Left H := { results := [], args := [] }

/-- 'laws.FnApart': WHATEVER THE INPUT: true; the input reads as it did. -/
def fnApartSpec : ChangeSpec := { name := "fnApart", fn := fun _ => fun
  | [d] => { results := [.lit (.bool true)], args := [d] }
  | _ => none }
def fnApartRow : OpenClaim := { program := "ytdlfljbgoopanaagreat", sum := "a80fcf9a3697cd86d07b15f029d05951855d6638eebb96915f1bb6138243664a", func := "loop.example/g00975/laws.FnApart", spec := "fnApart", recurses := true, apart := false }
def FnApartSaid : Prop := fnApartRow.holds Tryz.pinned (OpenSpec.ofChange fnApartSpec)

/-- ITS FALSE NEIGHBOUR: 'it returns false'. Refute it at one input. -/
def fnApartWrong : ChangeSpec := { name := "fnApart", fn := fun _ => fun
  | [d] => { results := [.lit (.bool false)], args := [d] }
  | _ => none }
def FnApartWrongFalsely : Prop := fnApartRow.holds Tryz.pinned (OpenSpec.ofChange fnApartWrong)

/-- 'laws.FnDirtGrows': WHATEVER THE INPUT: true; the input reads as it did. -/
def fnDirtGrowsSpec : ChangeSpec := { name := "fnDirtGrows", fn := fun _ => fun
  | [d] => { results := [.lit (.bool true)], args := [d] }
  | _ => none }
def fnDirtGrowsRow : OpenClaim := { program := "ytdlfljbgoopanaagreat", sum := "a80fcf9a3697cd86d07b15f029d05951855d6638eebb96915f1bb6138243664a", func := "loop.example/g00975/laws.FnDirtGrows", spec := "fnDirtGrows", unfollowed := true, recurses := true, apart := false }
def FnDirtGrowsSaid : Prop := fnDirtGrowsRow.holds Tryz.pinned (OpenSpec.ofChange fnDirtGrowsSpec)

/-- ITS FALSE NEIGHBOUR: 'it returns false'. Refute it at one input. -/
def fnDirtGrowsWrong : ChangeSpec := { name := "fnDirtGrows", fn := fun _ => fun
  | [d] => { results := [.lit (.bool false)], args := [d] }
  | _ => none }
def FnDirtGrowsWrongFalsely : Prop := fnDirtGrowsRow.holds Tryz.pinned (OpenSpec.ofChange fnDirtGrowsWrong)

/-- 'laws.FnOthers': WHATEVER THE INPUT: true; the input reads as it did. -/
def fnOthersSpec : ChangeSpec := { name := "fnOthers", fn := fun _ => fun
  | [d] => { results := [.lit (.bool true)], args := [d] }
  | _ => none }
def fnOthersRow : OpenClaim := { program := "ytdlfljbgoopanaagreat", sum := "a80fcf9a3697cd86d07b15f029d05951855d6638eebb96915f1bb6138243664a", func := "loop.example/g00975/laws.FnOthers", spec := "fnOthers", unfollowed := true, recurses := true, apart := false }
def FnOthersSaid : Prop := fnOthersRow.holds Tryz.pinned (OpenSpec.ofChange fnOthersSpec)

/-- ITS FALSE NEIGHBOUR: 'it returns false'. Refute it at one input. -/
def fnOthersWrong : ChangeSpec := { name := "fnOthers", fn := fun _ => fun
  | [d] => { results := [.lit (.bool false)], args := [d] }
  | _ => none }
def FnOthersWrongFalsely : Prop := fnOthersRow.holds Tryz.pinned (OpenSpec.ofChange fnOthersWrong)

/-- 'laws.FnTwoActs': WHATEVER THE INPUT: true; the input reads as it did. -/
def fnTwoActsSpec : ChangeSpec := { name := "fnTwoActs", fn := fun _ => fun
  | [d] => { results := [.lit (.bool true)], args := [d] }
  | _ => none }
def fnTwoActsRow : OpenClaim := { program := "ytdlfljbgoopanaagreat", sum := "a80fcf9a3697cd86d07b15f029d05951855d6638eebb96915f1bb6138243664a", func := "loop.example/g00975/laws.FnTwoActs", spec := "fnTwoActs", unfollowed := true, recurses := true, apart := false }
def FnTwoActsSaid : Prop := fnTwoActsRow.holds Tryz.pinned (OpenSpec.ofChange fnTwoActsSpec)

/-- ITS FALSE NEIGHBOUR: 'it returns false'. Refute it at one input. -/
def fnTwoActsWrong : ChangeSpec := { name := "fnTwoActs", fn := fun _ => fun
  | [d] => { results := [.lit (.bool false)], args := [d] }
  | _ => none }
def FnTwoActsWrongFalsely : Prop := fnTwoActsRow.holds Tryz.pinned (OpenSpec.ofChange fnTwoActsWrong)

/- THE SECOND FORM. 'bulk': how many values and letters a reading holds, each counted each time it is reached (what is shared counts as often as it is met; a slice's spare places count too). A statement '..UptoSaid' is the law's where the arguments, and the package variables that the reading takes, are together of bulk at most 1048576: NARROWER than '..Said'. Prove '..Said' where nothing that the law and all that it calls make is longer than what came in: it says more and counts as full. Else prove '..UptoSaid'. A law counts once. -/
mutual
def uptoBulk {H : Type} : DataW H → Nat
  | .lit (.string bytes) => bytes.length + 1
  | .lit _ => 1
  | .nil => 1
  | .ptr d => uptoBulk d + 1
  | .slice elems spare => uptoBulkAll elems + uptoBulkAll spare + 1
  | .agg parts => uptoBulkAll parts + 1
  | .iface _ d => uptoBulk d + 1
  | .map entries => uptoBulkEntries entries + 1
  | .held _ => 1
def uptoBulkAll {H : Type} : List (DataW H) → Nat
  | [] => 0
  | d :: r => uptoBulk d + uptoBulkAll r
def uptoBulkEntries {H : Type} : List (Lit × DataW H) → Nat
  | [] => 0
  | x :: r => uptoBulkEntry x + uptoBulkEntries r
def uptoBulkEntry {H : Type} : Lit × DataW H → Nat
  | (.string bytes, d) => bytes.length + uptoBulk d + 1
  | (_, d) => uptoBulk d + 1
 end
def uptoSmall : (H : Type) → List (DataW H) → Bool := fun _ ds => decide (uptoBulkAll ds ≤ 1048576)
def OpenSpec.upto (s : _root_.Go.ChangeSpec) : _root_.Go.OpenSpec := { _root_.Go.OpenSpec.ofChange s with cond := some uptoSmall }

/-- 'laws.FnApart', WHERE WHAT IT READS IS OF BULK AT MOST 1048576: true; the input reads as it did. -/
def fnApartUptoRow : OpenClaim := { program := "ytdlfljbgoopanaagreat", sum := "a80fcf9a3697cd86d07b15f029d05951855d6638eebb96915f1bb6138243664a", func := "loop.example/g00975/laws.FnApart", spec := "fnApart", recurses := true, apart := false, narrowed := true }
def FnApartUptoSaid : Prop := fnApartUptoRow.holds Tryz.pinned (OpenSpec.upto fnApartSpec)

/-- 'laws.FnDirtGrows', WHERE WHAT IT READS IS OF BULK AT MOST 1048576: true; the input reads as it did. -/
def fnDirtGrowsUptoRow : OpenClaim := { program := "ytdlfljbgoopanaagreat", sum := "a80fcf9a3697cd86d07b15f029d05951855d6638eebb96915f1bb6138243664a", func := "loop.example/g00975/laws.FnDirtGrows", spec := "fnDirtGrows", unfollowed := true, recurses := true, apart := false, narrowed := true }
def FnDirtGrowsUptoSaid : Prop := fnDirtGrowsUptoRow.holds Tryz.pinned (OpenSpec.upto fnDirtGrowsSpec)

/-- 'laws.FnOthers', WHERE WHAT IT READS IS OF BULK AT MOST 1048576: true; the input reads as it did. -/
def fnOthersUptoRow : OpenClaim := { program := "ytdlfljbgoopanaagreat", sum := "a80fcf9a3697cd86d07b15f029d05951855d6638eebb96915f1bb6138243664a", func := "loop.example/g00975/laws.FnOthers", spec := "fnOthers", unfollowed := true, recurses := true, apart := false, narrowed := true }
def FnOthersUptoSaid : Prop := fnOthersUptoRow.holds Tryz.pinned (OpenSpec.upto fnOthersSpec)

/-- 'laws.FnTwoActs', WHERE WHAT IT READS IS OF BULK AT MOST 1048576: true; the input reads as it did. -/
def fnTwoActsUptoRow : OpenClaim := { program := "ytdlfljbgoopanaagreat", sum := "a80fcf9a3697cd86d07b15f029d05951855d6638eebb96915f1bb6138243664a", func := "loop.example/g00975/laws.FnTwoActs", spec := "fnTwoActs", unfollowed := true, recurses := true, apart := false, narrowed := true }
def FnTwoActsUptoSaid : Prop := fnTwoActsUptoRow.holds Tryz.pinned (OpenSpec.upto fnTwoActsSpec)

end Rows
end Go.Proofs.YtdlfljbgoopanaaGreat
