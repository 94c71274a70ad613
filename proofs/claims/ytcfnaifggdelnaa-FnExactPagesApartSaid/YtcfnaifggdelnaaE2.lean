/- What is proved here: nothing of the program; this text lays the tables by which the evaluator reads this translation's types. -/
import Derived.Test.YtcfnaifggdelnaaE1
namespace Go.Proofs.Ytcfnaifggdelnaa.E
open Go

def tyTab : List (Nat × Ty) := [
  (3, .int),
  (47, .slot),
  (116, .ins),
  (100, .guest),
  (45, .mon),
  (65, .entry),
  (103, .kept),
  (4, .bool),
  (5, .u8),
  (39, .sl .int),
  (96, .sl .ins),
  (95, .slot),
  (118, .ins),
  (90, .guest),
  (61, .mon),
  (67, .entry),
  (93, .kept),
  (84, .sl .ins),
  (100000, .int)]

def eqTab : List Nat := [
  47,
  116,
  65,
  97,
  98,
  100000]

def typeCells (P : Program) : Nat → TypeId → Option (Bool × List CTy)
  | 0, _ => none
  | n + 1, T =>
    match P.underlying T with
    | some (.int k) => some (false, [.i k])
    | some .bool => some (false, [.b])
    | some (.slice e) => match aget tyTab e with
      | some t => some (false, [.s t])
      | none => none
    | some (.struct fs) => match optAll (fun (f : Field) => match typeCells P n f.type with | some x => some x.2 | none => none) fs.toList with
      | some l => some (true, l.flatten)
      | none => none
    | _ => none

def sliceElem (P : Program) (T : TypeId) : Option Ty :=
  match P.underlying T with
  | some (.slice e) => aget tyTab e
  | _ => none

def fieldOff (P : Program) (T : TypeId) (f : Nat) : Option (Nat × Nat) :=
  match P.underlying T with
  | some (.struct fs) => match fs[f]? with
    | some x => match P.info? x.type with
      | some i => if i.size = 0 then none else some (x.offset, i.size)
      | none => none
    | none => none
  | _ => none

/-- More types than the translation has. -/
def tyMax : Nat := 700

def below {α : Type} (T : Nat) (x : Option α) : Option α := cond (Nat.blt T tyMax) x none

noncomputable def cfgQ (ctr : FuncId → Option (List AV → Option (Bool × List AV))) (mct : FuncId → Option (CV → Int → Option (Bool × CV × Int))) (pct : FuncId → Option (List Bool × (List CV → List AV → Option (Bool × List CV × List AV)))) (tct : FuncId → Option (List Bool × Option (Nat × Nat × List (List Nat)) × (List AV → Option (Bool × List AV)))) : Cfg where
  P := Try.prog
  sty T := below T (sliceElem Try.prog T)
  cty T := below T (typeCells Try.prog 4 T)
  fof T f := fieldOff Try.prog T f
  eqt T := eqTab.contains T
  ctr := ctr
  mct := mct
  pct := pct
  tct := tct

noncomputable def cfgOf (ctr : FuncId → Option (List AV → Option (Bool × List AV))) (mct : FuncId → Option (CV → Int → Option (Bool × CV × Int))) : Cfg := cfgQ ctr mct (fun _ => none) (fun _ => none)

end Go.Proofs.Ytcfnaifggdelnaa.E
