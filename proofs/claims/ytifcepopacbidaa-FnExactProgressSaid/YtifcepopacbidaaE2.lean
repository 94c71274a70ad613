/- What is proved here: nothing of the program; this text lays the tables by which the evaluator reads this translation's types. -/
import Derived.Test.YtifcepopacbidaaE1
namespace Go.Proofs.Ytifcepopacbidaa.E
open Go

def tyTab : List (Nat × Ty) := [
  (3, .int),
  (76, .slot),
  (50, .ins),
  (90, .guest),
  (74, .mon),
  (126, .entry),
  (141, .kept),
  (62, .act),
  (103, .bare),
  (4, .bool),
  (5, .u8),
  (47, .sl .int),
  (51, .sl .ins),
  (52, .sl (.sl .ins)),
  (195, .slot),
  (220, .ins),
  (190, .guest),
  (122, .mon),
  (128, .entry),
  (193, .kept),
  (64, .act),
  (186, .sl .ins),
  (100000, .int)]

def eqTab : List Nat := [
  76,
  50,
  126,
  62,
  86,
  88,
  100000]

def typeCells (P : Program) : Nat → TypeId → Option (Bool × List CTy)
  | 0, _ => none
  | n + 1, T =>
    match P.underlying T with
    | some (.int k) => some (false, [.i k])
    | some .bool => some (false, [.b])
    | some (.slice e) => match aget tyTab e with
      | some t => some (false, [.s t])
      | none => none
    | some (.struct fs) => match optAll (fun (f : Field) => match typeCells P n f.type with | some x => some x.2 | none => none) fs.toList with
      | some l => some (true, l.flatten)
      | none => none
    | _ => none

def sliceElem (P : Program) (T : TypeId) : Option Ty :=
  match P.underlying T with
  | some (.slice e) => aget tyTab e
  | _ => none

def fieldOff (P : Program) (T : TypeId) (f : Nat) : Option (Nat × Nat) :=
  match P.underlying T with
  | some (.struct fs) => match fs[f]? with
    | some x => match P.info? x.type with
      | some i => if i.size = 0 then none else some (x.offset, i.size)
      | none => none
    | none => none
  | _ => none

/-- More types than the translation has. -/
def tyMax : Nat := 300

def below {α : Type} (T : Nat) (x : Option α) : Option α := cond (Nat.blt T tyMax) x none

noncomputable def cfgOf (ctr : FuncId → Option (List AV → Option (Bool × List AV))) (mct : FuncId → Option (CV → Int → Option (Bool × CV × Int))) : Cfg where
  P := Try.prog
  sty T := below T (sliceElem Try.prog T)
  cty T := below T (typeCells Try.prog 4 T)
  fof T f := fieldOff Try.prog T f
  eqt T := eqTab.contains T
  ctr := ctr
  mct := mct

end Go.Proofs.Ytifcepopacbidaa.E
