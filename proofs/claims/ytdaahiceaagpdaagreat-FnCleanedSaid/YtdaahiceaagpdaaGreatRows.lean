/-
  No cell of these rows narrows 'for every input' (looked for: loops, veiled, ifaces, maps, wideKeys, modest, calm, conditions, laid).
  DERIVED. THE GIVEN ROWS OF THIS SEAT. 4 by the template 'for every input the law returns true; each argument reads behind the call as it read before'; 0 by the template 'total and deterministic' (their statements: YtdaahiceaagpdaaGreatTotals.lean).
  GIVEN WITH THE SEED: the statements are not yours to turn. If you find one false, say at which input.
  Laid BY PROGRAM, IN A SANDBOX (cutbox-rows.mjs): the forced cells as the released guide's own fill.sh prints them over the translation 5b442ae06c64ed33… (all of the seat's roots in one cut). By AI agents, Wed Nov 11 2026. No macro, syntax, notation, axiom, sorry.
-/
import Derived.Test.YtdaahiceaagpdaaGreatChecked
import GoSem.Claim
import GoSem.ClaimJoined
import GoSem.ClaimMapViews
import Derived.JoinedTies
import Derived.KernelRfl
namespace Go.Proofs.YtdaahiceaagpdaaGreat
/- THE CELL 'sum', in the pinned program and in every row, IS THE sha256 OF THE DUMP (.gsa) THAT YtdaahiceaagpdaaGreatProg.lean LOADS. Nothing in Lean hashes anything: it is a label: what it is worth is what the hold of that sum in a sandbox is worth. -/
noncomputable def Tryz.pinned : Pinned := { name := "ytdaahiceaagpdaagreat", sum := "5b442ae06c64ed3350917b933599da7c7e81dc5da8397f543f590459cc715a87", checked := Tryz.checked }
namespace Rows
def none {H : Type} : Left H := { results := [], args := [] }

/-- 'laws.FnLed': WHATEVER THE INPUT: true; the input reads as it did. -/
def fnLedSpec : ChangeSpec := { name := "fnLed", fn := fun _ => fun
  | [d] => { results := [.lit (.bool true)], args := [d] }
  | _ => none }
def fnLedRow : OpenClaim := { program := "ytdaahiceaagpdaagreat", sum := "5b442ae06c64ed3350917b933599da7c7e81dc5da8397f543f590459cc715a87", func := "loop.example/g00975/laws.FnLed", spec := "fnLed", unfollowed := true, recurses := true, apart := false }
def FnLedSaid : Prop := fnLedRow.holds Tryz.pinned (OpenSpec.ofChange fnLedSpec)

/-- ITS FALSE NEIGHBOUR: 'it returns false'. Refute it at one input. -/
def fnLedWrong : ChangeSpec := { name := "fnLed", fn := fun _ => fun
  | [d] => { results := [.lit (.bool false)], args := [d] }
  | _ => none }
def FnLedWrongFalsely : Prop := fnLedRow.holds Tryz.pinned (OpenSpec.ofChange fnLedWrong)

/-- 'laws.FnSilent': WHATEVER THE INPUT: true; the input reads as it did. -/
def fnSilentSpec : ChangeSpec := { name := "fnSilent", fn := fun _ => fun
  | [d] => { results := [.lit (.bool true)], args := [d] }
  | _ => none }
def fnSilentRow : OpenClaim := { program := "ytdaahiceaagpdaagreat", sum := "5b442ae06c64ed3350917b933599da7c7e81dc5da8397f543f590459cc715a87", func := "loop.example/g00975/laws.FnSilent", spec := "fnSilent", unfollowed := true, recurses := true, apart := false }
def FnSilentSaid : Prop := fnSilentRow.holds Tryz.pinned (OpenSpec.ofChange fnSilentSpec)

/-- ITS FALSE NEIGHBOUR: 'it returns false'. Refute it at one input. -/
def fnSilentWrong : ChangeSpec := { name := "fnSilent", fn := fun _ => fun
  | [d] => { results := [.lit (.bool false)], args := [d] }
  | _ => none }
def FnSilentWrongFalsely : Prop := fnSilentRow.holds Tryz.pinned (OpenSpec.ofChange fnSilentWrong)

/-- 'laws.FnCleaned': WHATEVER THE INPUT: true; the input reads as it did. -/
def fnCleanedSpec : ChangeSpec := { name := "fnCleaned", fn := fun _ => fun
  | [d] => { results := [.lit (.bool true)], args := [d] }
  | _ => none }
def fnCleanedRow : OpenClaim := { program := "ytdaahiceaagpdaagreat", sum := "5b442ae06c64ed3350917b933599da7c7e81dc5da8397f543f590459cc715a87", func := "loop.example/g00975/laws.FnCleaned", spec := "fnCleaned", unfollowed := true, recurses := true, apart := false }
def FnCleanedSaid : Prop := fnCleanedRow.holds Tryz.pinned (OpenSpec.ofChange fnCleanedSpec)

/-- ITS FALSE NEIGHBOUR: 'it returns false'. Refute it at one input. -/
def fnCleanedWrong : ChangeSpec := { name := "fnCleaned", fn := fun _ => fun
  | [d] => { results := [.lit (.bool false)], args := [d] }
  | _ => none }
def FnCleanedWrongFalsely : Prop := fnCleanedRow.holds Tryz.pinned (OpenSpec.ofChange fnCleanedWrong)

/-- 'laws.FnGone': WHATEVER THE INPUT: true; the input reads as it did. -/
def fnGoneSpec : ChangeSpec := { name := "fnGone", fn := fun _ => fun
  | [d] => { results := [.lit (.bool true)], args := [d] }
  | _ => none }
def fnGoneRow : OpenClaim := { program := "ytdaahiceaagpdaagreat", sum := "5b442ae06c64ed3350917b933599da7c7e81dc5da8397f543f590459cc715a87", func := "loop.example/g00975/laws.FnGone", spec := "fnGone", unfollowed := true, recurses := true, apart := false }
def FnGoneSaid : Prop := fnGoneRow.holds Tryz.pinned (OpenSpec.ofChange fnGoneSpec)

/-- ITS FALSE NEIGHBOUR: 'it returns false'. Refute it at one input. -/
def fnGoneWrong : ChangeSpec := { name := "fnGone", fn := fun _ => fun
  | [d] => { results := [.lit (.bool false)], args := [d] }
  | _ => none }
def FnGoneWrongFalsely : Prop := fnGoneRow.holds Tryz.pinned (OpenSpec.ofChange fnGoneWrong)

/- THE SECOND FORM. 'bulk': how many values and letters a reading holds, each counted each time it is reached (what is shared counts as often as it is met; a slice's spare places count too). A statement '..UptoSaid' is the law's where the arguments, and the package variables that the reading takes, are together of bulk at most 1048576: NARROWER than '..Said'. Prove '..Said' where nothing that the law and all that it calls make is longer than what came in: it says more and counts as full. Else prove '..UptoSaid'. A law counts once. -/
mutual
def uptoBulk {H : Type} : DataW H → Nat
  | .lit (.string bytes) => bytes.length + 1
  | .lit _ => 1
  | .nil => 1
  | .ptr d => uptoBulk d + 1
  | .slice elems spare => uptoBulkAll elems + uptoBulkAll spare + 1
  | .agg parts => uptoBulkAll parts + 1
  | .iface _ d => uptoBulk d + 1
  | .map entries => uptoBulkEntries entries + 1
  | .held _ => 1
def uptoBulkAll {H : Type} : List (DataW H) → Nat
  | [] => 0
  | d :: r => uptoBulk d + uptoBulkAll r
def uptoBulkEntries {H : Type} : List (Lit × DataW H) → Nat
  | [] => 0
  | x :: r => uptoBulkEntry x + uptoBulkEntries r
def uptoBulkEntry {H : Type} : Lit × DataW H → Nat
  | (.string bytes, d) => bytes.length + uptoBulk d + 1
  | (_, d) => uptoBulk d + 1
 end
def uptoSmall : (H : Type) → List (DataW H) → Bool := fun _ ds => decide (uptoBulkAll ds ≤ 1048576)
def OpenSpec.upto (s : _root_.Go.ChangeSpec) : _root_.Go.OpenSpec := { _root_.Go.OpenSpec.ofChange s with cond := some uptoSmall }

/-- 'laws.FnLed', WHERE WHAT IT READS IS OF BULK AT MOST 1048576: true; the input reads as it did. -/
def fnLedUptoRow : OpenClaim := { program := "ytdaahiceaagpdaagreat", sum := "5b442ae06c64ed3350917b933599da7c7e81dc5da8397f543f590459cc715a87", func := "loop.example/g00975/laws.FnLed", spec := "fnLed", unfollowed := true, recurses := true, apart := false, narrowed := true }
def FnLedUptoSaid : Prop := fnLedUptoRow.holds Tryz.pinned (OpenSpec.upto fnLedSpec)

/-- 'laws.FnSilent', WHERE WHAT IT READS IS OF BULK AT MOST 1048576: true; the input reads as it did. -/
def fnSilentUptoRow : OpenClaim := { program := "ytdaahiceaagpdaagreat", sum := "5b442ae06c64ed3350917b933599da7c7e81dc5da8397f543f590459cc715a87", func := "loop.example/g00975/laws.FnSilent", spec := "fnSilent", unfollowed := true, recurses := true, apart := false, narrowed := true }
def FnSilentUptoSaid : Prop := fnSilentUptoRow.holds Tryz.pinned (OpenSpec.upto fnSilentSpec)

/-- 'laws.FnCleaned', WHERE WHAT IT READS IS OF BULK AT MOST 1048576: true; the input reads as it did. -/
def fnCleanedUptoRow : OpenClaim := { program := "ytdaahiceaagpdaagreat", sum := "5b442ae06c64ed3350917b933599da7c7e81dc5da8397f543f590459cc715a87", func := "loop.example/g00975/laws.FnCleaned", spec := "fnCleaned", unfollowed := true, recurses := true, apart := false, narrowed := true }
def FnCleanedUptoSaid : Prop := fnCleanedUptoRow.holds Tryz.pinned (OpenSpec.upto fnCleanedSpec)

/-- 'laws.FnGone', WHERE WHAT IT READS IS OF BULK AT MOST 1048576: true; the input reads as it did. -/
def fnGoneUptoRow : OpenClaim := { program := "ytdaahiceaagpdaagreat", sum := "5b442ae06c64ed3350917b933599da7c7e81dc5da8397f543f590459cc715a87", func := "loop.example/g00975/laws.FnGone", spec := "fnGone", unfollowed := true, recurses := true, apart := false, narrowed := true }
def FnGoneUptoSaid : Prop := fnGoneUptoRow.holds Tryz.pinned (OpenSpec.upto fnGoneSpec)

end Rows
end Go.Proofs.YtdaahiceaagpdaaGreat
