/-
  No cell of these rows narrows 'for every input' (looked for: loops, veiled, ifaces, maps, wideKeys, modest, calm, conditions, laid).
  DERIVED. THE GIVEN ROWS OF THIS SEAT. 4 by the template 'for every input the law returns true; each argument reads behind the call as it read before'; 0 by the template 'total and deterministic' (their statements: YthdlghbibaoabaaGreatTotals.lean).
  GIVEN WITH THE SEED: the statements are not yours to turn. If you find one false, say at which input.
  Laid BY PROGRAM, IN A SANDBOX (cutbox-rows.mjs): the forced cells as the released guide's own fill.sh prints them over the translation fd5b9503c44471fc… (all of the seat's roots in one cut). By AI agents, Wed Nov 11 2026. No macro, syntax, notation, axiom, sorry.
-/
import Derived.Test.YthdlghbibaoabaaGreatChecked
import GoSem.Claim
import GoSem.ClaimJoined
import GoSem.ClaimMapViews
import Derived.JoinedTies
import Derived.KernelRfl
namespace Go.Proofs.YthdlghbibaoabaaGreat
/- THE CELL 'sum', in the pinned program and in every row, IS THE sha256 OF THE DUMP (.gsa) THAT YthdlghbibaoabaaGreatProg.lean LOADS. Nothing in Lean hashes anything: it is a label: what it is worth is what the hold of that sum in a sandbox is worth. -/
noncomputable def Tryz.pinned : Pinned := { name := "ythdlghbibaoabaagreat", sum := "fd5b9503c44471fcc815a4fe5ee7d198167c5741185e7c442c96d71f71327553", checked := Tryz.checked }
namespace Rows
def none {H : Type} : Left H := { results := [], args := [] }

/-- 'laws.FnAccounts': WHATEVER THE INPUT: true; the input reads as it did. -/
def fnAccountsSpec : ChangeSpec := { name := "fnAccounts", fn := fun _ => fun
  | [d] => { results := [.lit (.bool true)], args := [d] }
  | _ => none }
def fnAccountsRow : OpenClaim := { program := "ythdlghbibaoabaagreat", sum := "fd5b9503c44471fcc815a4fe5ee7d198167c5741185e7c442c96d71f71327553", func := "loop.example/g00975/laws.FnAccounts", spec := "fnAccounts", unfollowed := true, recurses := true, apart := false }
def FnAccountsSaid : Prop := fnAccountsRow.holds Tryz.pinned (OpenSpec.ofChange fnAccountsSpec)

/-- ITS FALSE NEIGHBOUR: 'it returns false'. Refute it at one input. -/
def fnAccountsWrong : ChangeSpec := { name := "fnAccounts", fn := fun _ => fun
  | [d] => { results := [.lit (.bool false)], args := [d] }
  | _ => none }
def FnAccountsWrongFalsely : Prop := fnAccountsRow.holds Tryz.pinned (OpenSpec.ofChange fnAccountsWrong)

/-- 'laws.FnPaged': WHATEVER THE INPUT: true; the input reads as it did. -/
def fnPagedSpec : ChangeSpec := { name := "fnPaged", fn := fun _ => fun
  | [d] => { results := [.lit (.bool true)], args := [d] }
  | _ => none }
def fnPagedRow : OpenClaim := { program := "ythdlghbibaoabaagreat", sum := "fd5b9503c44471fcc815a4fe5ee7d198167c5741185e7c442c96d71f71327553", func := "loop.example/g00975/laws.FnPaged", spec := "fnPaged", unfollowed := true, recurses := true, apart := false }
def FnPagedSaid : Prop := fnPagedRow.holds Tryz.pinned (OpenSpec.ofChange fnPagedSpec)

/-- ITS FALSE NEIGHBOUR: 'it returns false'. Refute it at one input. -/
def fnPagedWrong : ChangeSpec := { name := "fnPaged", fn := fun _ => fun
  | [d] => { results := [.lit (.bool false)], args := [d] }
  | _ => none }
def FnPagedWrongFalsely : Prop := fnPagedRow.holds Tryz.pinned (OpenSpec.ofChange fnPagedWrong)

/-- 'laws.FnTurns': WHATEVER THE INPUT: true; the input reads as it did. -/
def fnTurnsSpec : ChangeSpec := { name := "fnTurns", fn := fun _ => fun
  | [d] => { results := [.lit (.bool true)], args := [d] }
  | _ => none }
def fnTurnsRow : OpenClaim := { program := "ythdlghbibaoabaagreat", sum := "fd5b9503c44471fcc815a4fe5ee7d198167c5741185e7c442c96d71f71327553", func := "loop.example/g00975/laws.FnTurns", spec := "fnTurns", unfollowed := true, recurses := true, apart := false }
def FnTurnsSaid : Prop := fnTurnsRow.holds Tryz.pinned (OpenSpec.ofChange fnTurnsSpec)

/-- ITS FALSE NEIGHBOUR: 'it returns false'. Refute it at one input. -/
def fnTurnsWrong : ChangeSpec := { name := "fnTurns", fn := fun _ => fun
  | [d] => { results := [.lit (.bool false)], args := [d] }
  | _ => none }
def FnTurnsWrongFalsely : Prop := fnTurnsRow.holds Tryz.pinned (OpenSpec.ofChange fnTurnsWrong)

/-- 'laws.FnStepsSplit': WHATEVER THE INPUT: true; the input reads as it did. -/
def fnStepsSplitSpec : ChangeSpec := { name := "fnStepsSplit", fn := fun _ => fun
  | [d] => { results := [.lit (.bool true)], args := [d] }
  | _ => none }
def fnStepsSplitRow : OpenClaim := { program := "ythdlghbibaoabaagreat", sum := "fd5b9503c44471fcc815a4fe5ee7d198167c5741185e7c442c96d71f71327553", func := "loop.example/g00975/laws.FnStepsSplit", spec := "fnStepsSplit", unfollowed := true, recurses := true, apart := false }
def FnStepsSplitSaid : Prop := fnStepsSplitRow.holds Tryz.pinned (OpenSpec.ofChange fnStepsSplitSpec)

/-- ITS FALSE NEIGHBOUR: 'it returns false'. Refute it at one input. -/
def fnStepsSplitWrong : ChangeSpec := { name := "fnStepsSplit", fn := fun _ => fun
  | [d] => { results := [.lit (.bool false)], args := [d] }
  | _ => none }
def FnStepsSplitWrongFalsely : Prop := fnStepsSplitRow.holds Tryz.pinned (OpenSpec.ofChange fnStepsSplitWrong)

/- THE SECOND FORM. 'bulk': how many values and letters a reading holds, each counted each time it is reached (what is shared counts as often as it is met; a slice's spare places count too). A statement '..UptoSaid' is the law's where the arguments, and the package variables that the reading takes, are together of bulk at most 1048576: NARROWER than '..Said'. Prove '..Said' where nothing that the law and all that it calls make is longer than what came in: it says more and counts as full. Else prove '..UptoSaid'. A law counts once. -/
mutual
def uptoBulk {H : Type} : DataW H → Nat
  | .lit (.string bytes) => bytes.length + 1
  | .lit _ => 1
  | .nil => 1
  | .ptr d => uptoBulk d + 1
  | .slice elems spare => uptoBulkAll elems + uptoBulkAll spare + 1
  | .agg parts => uptoBulkAll parts + 1
  | .iface _ d => uptoBulk d + 1
  | .map entries => uptoBulkEntries entries + 1
  | .held _ => 1
def uptoBulkAll {H : Type} : List (DataW H) → Nat
  | [] => 0
  | d :: r => uptoBulk d + uptoBulkAll r
def uptoBulkEntries {H : Type} : List (Lit × DataW H) → Nat
  | [] => 0
  | x :: r => uptoBulkEntry x + uptoBulkEntries r
def uptoBulkEntry {H : Type} : Lit × DataW H → Nat
  | (.string bytes, d) => bytes.length + uptoBulk d + 1
  | (_, d) => uptoBulk d + 1
 end
def uptoSmall : (H : Type) → List (DataW H) → Bool := fun _ ds => decide (uptoBulkAll ds ≤ 1048576)
def OpenSpec.upto (s : _root_.Go.ChangeSpec) : _root_.Go.OpenSpec := { _root_.Go.OpenSpec.ofChange s with cond := some uptoSmall }

/-- 'laws.FnAccounts', WHERE WHAT IT READS IS OF BULK AT MOST 1048576: true; the input reads as it did. -/
def fnAccountsUptoRow : OpenClaim := { program := "ythdlghbibaoabaagreat", sum := "fd5b9503c44471fcc815a4fe5ee7d198167c5741185e7c442c96d71f71327553", func := "loop.example/g00975/laws.FnAccounts", spec := "fnAccounts", unfollowed := true, recurses := true, apart := false, narrowed := true }
def FnAccountsUptoSaid : Prop := fnAccountsUptoRow.holds Tryz.pinned (OpenSpec.upto fnAccountsSpec)

/-- 'laws.FnPaged', WHERE WHAT IT READS IS OF BULK AT MOST 1048576: true; the input reads as it did. -/
def fnPagedUptoRow : OpenClaim := { program := "ythdlghbibaoabaagreat", sum := "fd5b9503c44471fcc815a4fe5ee7d198167c5741185e7c442c96d71f71327553", func := "loop.example/g00975/laws.FnPaged", spec := "fnPaged", unfollowed := true, recurses := true, apart := false, narrowed := true }
def FnPagedUptoSaid : Prop := fnPagedUptoRow.holds Tryz.pinned (OpenSpec.upto fnPagedSpec)

/-- 'laws.FnTurns', WHERE WHAT IT READS IS OF BULK AT MOST 1048576: true; the input reads as it did. -/
def fnTurnsUptoRow : OpenClaim := { program := "ythdlghbibaoabaagreat", sum := "fd5b9503c44471fcc815a4fe5ee7d198167c5741185e7c442c96d71f71327553", func := "loop.example/g00975/laws.FnTurns", spec := "fnTurns", unfollowed := true, recurses := true, apart := false, narrowed := true }
def FnTurnsUptoSaid : Prop := fnTurnsUptoRow.holds Tryz.pinned (OpenSpec.upto fnTurnsSpec)

/-- 'laws.FnStepsSplit', WHERE WHAT IT READS IS OF BULK AT MOST 1048576: true; the input reads as it did. -/
def fnStepsSplitUptoRow : OpenClaim := { program := "ythdlghbibaoabaagreat", sum := "fd5b9503c44471fcc815a4fe5ee7d198167c5741185e7c442c96d71f71327553", func := "loop.example/g00975/laws.FnStepsSplit", spec := "fnStepsSplit", unfollowed := true, recurses := true, apart := false, narrowed := true }
def FnStepsSplitUptoSaid : Prop := fnStepsSplitUptoRow.holds Tryz.pinned (OpenSpec.upto fnStepsSplitSpec)

end Rows
end Go.Proofs.YthdlghbibaoabaaGreat
