/-
  No cell of these rows narrows 'for every input' (looked for: loops, veiled, ifaces, maps, wideKeys, modest, calm, conditions, laid).
  DERIVED. THE GIVEN ROWS OF THIS SEAT. 3 by the template 'for every input the law returns true; each argument reads behind the call as it read before'; 0 by the template 'total and deterministic' (their statements: YtnnmbkjhakbicaaGreatTotals.lean).
  GIVEN WITH THE SEED: the statements are not yours to turn. If you find one false, say at which input.
  Laid BY PROGRAM, IN A SANDBOX (cutbox-rows.mjs): the forced cells as the released guide's own fill.sh prints them over the translation dc54958c2d1d689e… (all of the seat's roots in one cut). By AI agents, Wed Nov 11 2026. No macro, syntax, notation, axiom, sorry.
-/
import Derived.Test.YtnnmbkjhakbicaaGreatChecked
import GoSem.Claim
import GoSem.ClaimJoined
import GoSem.ClaimMapViews
import Derived.JoinedTies
import Derived.KernelRfl
namespace Go.Proofs.YtnnmbkjhakbicaaGreat
/- THE CELL 'sum', in the pinned program and in every row, IS THE sha256 OF THE DUMP (.gsa) THAT YtnnmbkjhakbicaaGreatProg.lean LOADS. Nothing in Lean hashes anything: it is a label: what it is worth is what the hold of that sum in a sandbox is worth. -/
noncomputable def Tryz.pinned : Pinned := { name := "ytnnmbkjhakbicaagreat", sum := "dc54958c2d1d689eb1ed3e79753920259008b473267f8963037fe830c08709c9", checked := Tryz.checked }
namespace Rows
def none {H : Type} : Left H := { results := [], args := [] }

/-- 'laws.FnLives': WHATEVER THE INPUT: true; the input reads as it did. -/
def fnLivesSpec : ChangeSpec := { name := "fnLives", fn := fun _ => fun
  | [d] => { results := [.lit (.bool true)], args := [d] }
  | _ => none }
def fnLivesRow : OpenClaim := { program := "ytnnmbkjhakbicaagreat", sum := "dc54958c2d1d689eb1ed3e79753920259008b473267f8963037fe830c08709c9", func := "loop.example/g00975/laws.FnLives", spec := "fnLives", unfollowed := true, recurses := true, apart := false }
def FnLivesSaid : Prop := fnLivesRow.holds Tryz.pinned (OpenSpec.ofChange fnLivesSpec)

/-- ITS FALSE NEIGHBOUR: 'it returns false'. Refute it at one input. -/
def fnLivesWrong : ChangeSpec := { name := "fnLives", fn := fun _ => fun
  | [d] => { results := [.lit (.bool false)], args := [d] }
  | _ => none }
def FnLivesWrongFalsely : Prop := fnLivesRow.holds Tryz.pinned (OpenSpec.ofChange fnLivesWrong)

/-- 'laws.FnTwoGuests': WHATEVER THE INPUT: true; the input reads as it did. -/
def fnTwoGuestsSpec : ChangeSpec := { name := "fnTwoGuests", fn := fun _ => fun
  | [d] => { results := [.lit (.bool true)], args := [d] }
  | _ => none }
def fnTwoGuestsRow : OpenClaim := { program := "ytnnmbkjhakbicaagreat", sum := "dc54958c2d1d689eb1ed3e79753920259008b473267f8963037fe830c08709c9", func := "loop.example/g00975/laws.FnTwoGuests", spec := "fnTwoGuests", unfollowed := true, recurses := true, apart := false }
def FnTwoGuestsSaid : Prop := fnTwoGuestsRow.holds Tryz.pinned (OpenSpec.ofChange fnTwoGuestsSpec)

/-- ITS FALSE NEIGHBOUR: 'it returns false'. Refute it at one input. -/
def fnTwoGuestsWrong : ChangeSpec := { name := "fnTwoGuests", fn := fun _ => fun
  | [d] => { results := [.lit (.bool false)], args := [d] }
  | _ => none }
def FnTwoGuestsWrongFalsely : Prop := fnTwoGuestsRow.holds Tryz.pinned (OpenSpec.ofChange fnTwoGuestsWrong)

/-- 'laws.FnSiblings': WHATEVER THE INPUT: true; the input reads as it did. -/
def fnSiblingsSpec : ChangeSpec := { name := "fnSiblings", fn := fun _ => fun
  | [d] => { results := [.lit (.bool true)], args := [d] }
  | _ => none }
def fnSiblingsRow : OpenClaim := { program := "ytnnmbkjhakbicaagreat", sum := "dc54958c2d1d689eb1ed3e79753920259008b473267f8963037fe830c08709c9", func := "loop.example/g00975/laws.FnSiblings", spec := "fnSiblings", unfollowed := true, recurses := true, apart := false }
def FnSiblingsSaid : Prop := fnSiblingsRow.holds Tryz.pinned (OpenSpec.ofChange fnSiblingsSpec)

/-- ITS FALSE NEIGHBOUR: 'it returns false'. Refute it at one input. -/
def fnSiblingsWrong : ChangeSpec := { name := "fnSiblings", fn := fun _ => fun
  | [d] => { results := [.lit (.bool false)], args := [d] }
  | _ => none }
def FnSiblingsWrongFalsely : Prop := fnSiblingsRow.holds Tryz.pinned (OpenSpec.ofChange fnSiblingsWrong)

/- THE SECOND FORM. 'bulk': how many values and letters a reading holds, each counted each time it is reached (what is shared counts as often as it is met; a slice's spare places count too). A statement '..UptoSaid' is the law's where the arguments, and the package variables that the reading takes, are together of bulk at most 1048576: NARROWER than '..Said'. Prove '..Said' where nothing that the law and all that it calls make is longer than what came in: it says more and counts as full. Else prove '..UptoSaid'. A law counts once. -/
mutual
def uptoBulk {H : Type} : DataW H → Nat
  | .lit (.string bytes) => bytes.length + 1
  | .lit _ => 1
  | .nil => 1
  | .ptr d => uptoBulk d + 1
  | .slice elems spare => uptoBulkAll elems + uptoBulkAll spare + 1
  | .agg parts => uptoBulkAll parts + 1
  | .iface _ d => uptoBulk d + 1
  | .map entries => uptoBulkEntries entries + 1
  | .held _ => 1
def uptoBulkAll {H : Type} : List (DataW H) → Nat
  | [] => 0
  | d :: r => uptoBulk d + uptoBulkAll r
def uptoBulkEntries {H : Type} : List (Lit × DataW H) → Nat
  | [] => 0
  | x :: r => uptoBulkEntry x + uptoBulkEntries r
def uptoBulkEntry {H : Type} : Lit × DataW H → Nat
  | (.string bytes, d) => bytes.length + uptoBulk d + 1
  | (_, d) => uptoBulk d + 1
 end
def uptoSmall : (H : Type) → List (DataW H) → Bool := fun _ ds => decide (uptoBulkAll ds ≤ 1048576)
def OpenSpec.upto (s : _root_.Go.ChangeSpec) : _root_.Go.OpenSpec := { _root_.Go.OpenSpec.ofChange s with cond := some uptoSmall }

/-- 'laws.FnLives', WHERE WHAT IT READS IS OF BULK AT MOST 1048576: true; the input reads as it did. -/
def fnLivesUptoRow : OpenClaim := { program := "ytnnmbkjhakbicaagreat", sum := "dc54958c2d1d689eb1ed3e79753920259008b473267f8963037fe830c08709c9", func := "loop.example/g00975/laws.FnLives", spec := "fnLives", unfollowed := true, recurses := true, apart := false, narrowed := true }
def FnLivesUptoSaid : Prop := fnLivesUptoRow.holds Tryz.pinned (OpenSpec.upto fnLivesSpec)

/-- 'laws.FnTwoGuests', WHERE WHAT IT READS IS OF BULK AT MOST 1048576: true; the input reads as it did. -/
def fnTwoGuestsUptoRow : OpenClaim := { program := "ytnnmbkjhakbicaagreat", sum := "dc54958c2d1d689eb1ed3e79753920259008b473267f8963037fe830c08709c9", func := "loop.example/g00975/laws.FnTwoGuests", spec := "fnTwoGuests", unfollowed := true, recurses := true, apart := false, narrowed := true }
def FnTwoGuestsUptoSaid : Prop := fnTwoGuestsUptoRow.holds Tryz.pinned (OpenSpec.upto fnTwoGuestsSpec)

/-- 'laws.FnSiblings', WHERE WHAT IT READS IS OF BULK AT MOST 1048576: true; the input reads as it did. -/
def fnSiblingsUptoRow : OpenClaim := { program := "ytnnmbkjhakbicaagreat", sum := "dc54958c2d1d689eb1ed3e79753920259008b473267f8963037fe830c08709c9", func := "loop.example/g00975/laws.FnSiblings", spec := "fnSiblings", unfollowed := true, recurses := true, apart := false, narrowed := true }
def FnSiblingsUptoSaid : Prop := fnSiblingsUptoRow.holds Tryz.pinned (OpenSpec.upto fnSiblingsSpec)

end Rows
end Go.Proofs.YtnnmbkjhakbicaaGreat
