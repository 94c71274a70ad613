/- What is proved here: a part of the proof that the statement of this claim holds (several texts of wip/, laid together). -/
import Derived.Test.YtgjpbkhaaiffkaaGreatRows
import Derived.Calls
import Derived.LoopN
import Derived.Laws.Sem
import Derived.Laws.Rows
import Derived.Laws.Entries
import Derived.Laws.Slices
import Derived.Laws.Cells
import Derived.Laws.Tables
import Derived.Laws.Append
import Derived.Laws.CopyRow
import Derived.Laws.MakeOwn
import Derived.Laws.StructEq
import Derived.Laws.Small
import Derived.Laws.AppendOwn
import Derived.Great.BuildSlice
namespace Go.Proofs.YtgjpbkhaaiffkaaGreat.E
open Go
set_option linter.constructorNameAsVariable false
set_option linter.unusedVariables false
set_option maxRecDepth 100000
set_option linter.unusedSimpArgs false
set_option linter.unusedSectionVars false
noncomputable section
abbrev qA:=@List.getElem?_eq_some_iff
abbrev qB:=@List.getElem?_eq_getElem
abbrev qC:=@Option.some.injEq
abbrev qD:=@of_decide_eq_true
abbrev qE:=@Bool.and_eq_true
abbrev qF:=@List.mem_singleton
abbrev qG:=@decide_eq_false
abbrev qH:=@List.getElem?_cons_zero
abbrev qI:=@List.mem_cons
abbrev qJ:=@decide_eq_true
abbrev qK:=@List.mem_of_getElem?
abbrev qL:=@beq_iff_eq
abbrev qM:=@List.all_eq_true
abbrev qN:=@List.mem_flatMap
abbrev qO:=@List.getElem?_map
abbrev qP:=@List.getElem?_append_right
abbrev qQ:=@Nat.mul_le_mul_right
abbrev qR:=@List.mem_iff_getElem?
abbrev qS:=@Array.getElem?_eq_some_iff
abbrev qT:=@List.getElem?_append_left
abbrev qU:=@List.mem_cons_of_mem
abbrev qV:=@List.length_cons
abbrev qW:=@List.not_mem_nil
abbrev qX:=@Nat.le_refl
abbrev qY:=@decide_eq_true_eq
abbrev qZ:=@List.mem_or_eq_of_mem_set
abbrev q0:=@List.map_cons
abbrev q9:=@List.mem_cons_self
abbrev jA:=@List.append_nil
abbrev jB:=@Nat.le_trans
abbrev jC:=@List.mem_map
abbrev jD:=@List.getElem?_set
abbrev jE:=@Bool.not_eq_true'
abbrev jF:=@List.getElem?_toArray
abbrev jG:=@List.getElem_mem
abbrev jH:=@Nat.succ_mul
abbrev jI:=@List.mem_append
abbrev jJ:=@List.getElem?_take
abbrev jK:=@List.contains_eq_mem
abbrev jL:=@List.getElem?_cons_succ
abbrev jM:=@List.getElem?_drop
abbrev jN:=@Array.toArray_toList
abbrev jO:=@List.nil_append
abbrev jP:=@Nat.lt_of_lt_of_le
abbrev jQ:=@of_decide_eq_false
abbrev jR:=@Prod.mk.injEq
abbrev jS:=@Nat.zero_le
abbrev jT:=@Nat.zero_add
abbrev jU:=@Option.getD_some
abbrev jV:=@Array.getElem?_append_left
abbrev jW:=@List.mem_of_mem_take
abbrev jX:=@List.mem_append_left
abbrev jY:=@Array.getElem?_eq_getElem
abbrev jZ:=@List.size_toArray
abbrev j3:=@List.flatMap_cons
abbrev j4:=@List.getD_eq_getElem?_getD
abbrev j5:=@List.append_assoc
abbrev j6:=@Bool.or_eq_true
abbrev j7:=@List.drop_eq_getElem_cons
abbrev j8:=@Bool.false_eq_true
abbrev j9:=@List.getElem?_replicate
abbrev kA:=@Array.getElem?_append_right
abbrev kB:=@Nat.add_zero
abbrev kC:=@Bool.not_true
abbrev kD:=@List.cons_append
abbrev kE:=@List.mem_append_right
abbrev kF:=@List.mem_range
abbrev kG:=@Nat.eq_of_beq_eq_true
abbrev kH:=@Option.isNone_iff_eq_none
abbrev kI:=@List.mem_of_mem_drop
abbrev kJ:=@List.take_left'
abbrev kK:=@Nat.beq_eq
abbrev kL:=@List.any_eq_false
abbrev kM:=@Array.length_toList
abbrev kN:=@List.length_pos_iff
abbrev kO:=@Nat.lt_succ_self
abbrev kP:=@Nat.add_mul
abbrev kQ:=@Nat.sub_self
abbrev kR:=@List.length_append
abbrev kS:=@Array.getElem?_toList
abbrev kT:=@List.isPrefixOf_iff_prefix
abbrev kU:=@List.all_cons
abbrev kV:=@Int.toNat_natCast
abbrev kW:=@Bool.not_false
abbrev kX:=@List.drop_left'
abbrev kY:=@Int.le_refl
abbrev k5:=@List.ext_getElem?
abbrev k6:=@List.length_singleton
abbrev k7:=@Nat.le_of_eq
abbrev k8:=@List.length_filter_le
abbrev k9:=@Array.toList_map
abbrev uA:=@List.any_eq_true
abbrev uB:=@Nat.le_add_right
abbrev uD:=@List.range'_succ
abbrev uE:=@List.range_eq_range'
abbrev uF:=@List.flatMap_nil
abbrev uH:=@Nat.add_assoc
abbrev uI:=@Bool.true_and
abbrev uJ:=@List.sum_cons
abbrev uK:=@List.foldl_cons
abbrev uL:=@List.length_map
abbrev uM:=@List.mem_of_find?_eq_some
abbrev uN:=@Array.append_assoc
abbrev uO:=@List.mem_replicate
abbrev uP:=@List.mem_filterMap
abbrev uQ:=@Option.isSome_iff_exists
abbrev uR:=@Nat.mul_le_mul
abbrev uS:=@List.length_eq_zero_iff
abbrev uT:=@Option.bind_eq_some_iff
abbrev uU:=@Nat.le_succ_of_le
abbrev uW:=@List.drop_eq_nil_of_le
abbrev uX:=@Array.getElem?_eq_none
abbrev uY:=@List.findIdx?_eq_some_iff_getElem
abbrev uZ:=@Bool.or_false
abbrev u0:=@List.set_getElem_self
abbrev u1:=@Nat.lt_or_ge
abbrev u2:=@Bool.or_eq_false_iff
abbrev u3:=@List.countP_eq_zero
abbrev u4:=@List.drop_zero
abbrev vA:=@List.mapM_cons
abbrev vB:=@Array.getElem?_map
abbrev vC:=@Bool.and_true
abbrev vD:=@Nat.blt_eq
abbrev vE:=@List.countP_cons
abbrev vF:=@Nat.sub_zero
abbrev vG:=@forall_eq_or_imp
abbrev vH:=@List.length_take
abbrev vI:=@List.ext_getElem
structure Slot where
 Page:Int
 Rights:Int
structure Ins where
 Op:Int
 X:Int
structure Ctl where
 Traps:Int
 Post:Int
 Open:Bool
structure GExit where
 Kind:Int
 Page:Int
 Write:Bool
 N:Int
structure Entry where
 Tag:Int
 Page:Int
 Host:Int
 Rights:Int
structure GAct where
 Kind:Int
 M:Int
 G:Int
 X:Int
 Y:Int
 Z:Int
structure Told where
 Ok:Bool
 N:Int
structure Kept where
 Known:List Bool
 Slots:List Slot
structure Guest where
 Prog:List Ins
 A:Int
 Pc:Int
 Written:List Slot
 Live:List Slot
 Ctl:Ctl
 Pending:Int
 Exit:GExit
 Halted:Bool
 Seen:List Int
structure Bare where
 Memory:List (List Int)
 Guests:List Guest
 Outs:List Int
 Pending:Int
structure Mon where
 Outer:List Slot
 Out:List (List Int)
 Dirty:List Bool
 Guests:List Guest
 Outs:List Int
 Pending:Int
 Traps:Int
 Tables:List Kept
 Own:Int
structure Host where
 Memory:List (List Int)
 Mons:List Mon
 Buffer:List Entry
 IoBuffer:List Entry
section
variable {α:Type}
def ix (l:List α)(i:Int)(d:α):α:=l.getD i.toNat d
def up (l:List α)(i:Int)(x:α):List α:=l.set i.toNat x
def ln (l:List α):Int:=(l.length:Int)
def tk (l:List α)(n:Int):List α:=l.take n.toNat
def dp (l:List α)(n:Int):List α:=l.drop n.toNat
def rp (n:Int)(d:α):List α:=List.replicate n.toNat d
def ap (l m:List α):List α:=l++m
end
def zD (k:IntKind)(x y:Int):Int:=k.wrap (x+y)
def wsub (k:IntKind)(x y:Int):Int:=k.wrap (x-y)
def zlI (k:IntKind)(x y:Int):Int:=k.wrap (x*y)
def zSn (k:IntKind)(x y:Int):Int:=k.wrap (x.tdiv y)
def zkT (x y:Int):Int:=x.tmod y
def wand (k:IntKind)(x y:Int):Int:=k.wrap (BitVec.ofInt k.bits x &&& BitVec.ofInt k.bits y).toNat
def wor (k:IntKind)(x y:Int):Int:=k.wrap (BitVec.ofInt k.bits x ||| BitVec.ofInt k.bits y).toNat
def z0J (k:IntKind)(x y:Int):Int:=k.wrap (BitVec.ofInt k.bits x ^^^ BitVec.ofInt k.bits y).toNat
def zw8 (k:IntKind)(x y:Int):Int:=k.wrap (BitVec.ofInt k.bits x &&& ~~~ BitVec.ofInt k.bits y).toNat
def zkU (k:IntKind)(x y:Int):Int:=k.wrap (x*2 ^ (min y.toNat k.bits))
def zjB (k:IntKind)(x y:Int):Int:=x.fdiv (2 ^ (min y.toNat k.bits))
def wcv (k:IntKind)(x:Int):Int:=k.wrap x
def byteAt (s:ByteArray)(n:Int):Int:=match s[n.toNat]? with
 |some b=>(b.toNat:Int)
 |none=>0
def ieq (x y:Int):Bool:=x==y
def ine (x y:Int):Bool:=x != y
def ilt (x y:Int):Bool:=decide (x<y)
def ile (x y:Int):Bool:=decide (x<=y)
def igt (x y:Int):Bool:=decide (x>y)
def ige (x y:Int):Bool:=decide (x≥y)
def znj (x y:Bool):Bool:=x==y
def zwG (a b:Int):Int:=if b<a then b else a
def imax (a b:Int):Int:=if b>a then b else a
def inb (i n:Int):Bool:=decide (0<=i/\i<n)
def inr (a b n:Int):Bool:=decide (0<=a/\a<=b/\b<=n)
def few (n:Int):Bool:=decide (0<=n/\n.toNat<=2147483648)
inductive Ty where
 |int|u8|bool|slot|ins|entry|act|told|kept|guest|bare|mon
 |sl (t:Ty)
 deriving DecidableEq
abbrev Ty.den:Ty->Type
 |.int=>Int
 |.u8=>Int
 |.bool=>Bool
 |.slot=>Slot
 |.ins=>Ins
 |.entry=>Entry
 |.act=>GAct
 |.told=>Told
 |.kept=>Kept
 |.guest=>Guest
 |.bare=>Bare
 |.mon=>Mon
 |.sl t=>List t.den
inductive CV where
 |i (k:IntKind) (n:Int)
 |b (x:Bool)
 |s (t:Ty) (l:List t.den)
inductive CTy where
 |i (k:IntKind)
 |b
 |s (t:Ty)
 deriving DecidableEq
def CV.ty:CV->CTy
 |.i k _=>.i k
 |.b _=>.b
 |.s t _=>.s t
def Ty.shape:Ty->List CTy
 |.int=>[.i .i64]
 |.u8=>[.i .u8]
 |.bool=>[.b]
 |.slot=>[.i .i64,.i .i64]
 |.ins=>[.i .i64,.i .i64]
 |.entry=>[.i .i64,.i .i64,.i .i64,.i .i64]
 |.act=>[.i .i64,.i .i64,.i .i64,.i .i64,.i .i64,.i .i64]
 |.told=>[.b,.i .i64]
 |.kept=>[.s .bool,.s .slot]
 |.guest=>[.s .ins,.i .i64,.i .i64,.s .slot,.s .slot,.i .i64,.i .i64,.b,.i .i64,.i .i64,.i .i64,.b,.i .i64,.b,.s .int]
 |.bare=>[.s<|.sl .int,.s .guest,.s .int,.i .i64]
 |.mon=>[.s .slot,.s<|.sl .int,.s .bool,.s .guest,.s .int,.i .i64,.i .i64,.s .kept,.i .i64]
 |.sl t=>[.s t]
def Ty.width:Ty->Nat
 |.int=>1
 |.u8=>1
 |.bool=>1
 |.slot=>2
 |.ins=>2
 |.entry=>4
 |.act=>6
 |.told=>2
 |.kept=>2
 |.guest=>15
 |.bare=>4
 |.mon=>9
 |.sl _=>1
def Ty.dflt:(t:Ty)->t.den
 |.int=>(0:Int)
 |.u8=>(0:Int)
 |.bool=>false
 |.slot=>⟨0,0⟩
 |.ins=>⟨0,0⟩
 |.entry=>⟨0,0,0,0⟩
 |.act=>⟨0,0,0,0,0,0⟩
 |.told=>⟨false,0⟩
 |.kept=>⟨[],[]⟩
 |.guest=>⟨[],0,0,[],[],⟨0,0,false⟩,0,⟨0,0,false,0⟩,false,[]⟩
 |.bare=>⟨[],[],[],0⟩
 |.mon=>⟨[],[],[],[],[],0,0,[],0⟩
 |.sl _=>[]
abbrev zf:=Ty.dflt .mon
abbrev zn:=Ty.dflt .guest
abbrev ze2:=Ty.dflt .kept
abbrev zO:=Ty.dflt .slot
abbrev zfR:=Ty.dflt .entry
abbrev zp2:=Ty.dflt .ins
abbrev zIY:=Ty.dflt .bare
abbrev z5R:=Ty.dflt .act
abbrev z6v:=Ty.dflt .int
abbrev z6s:=Ty.dflt .bool
abbrev z6t:=Ty.dflt .told
def Ty.cells:(t:Ty)->t.den->List CV
 |.int,x=>[.i .i64 x]
 |.u8,x=>[.i .u8 x]
 |.bool,x=>[.b x]
 |.slot,x=>[.i .i64 x.Page,.i .i64 x.Rights]
 |.ins,x=>[.i .i64 x.Op,.i .i64 x.X]
 |.entry,x=>[.i .i64 x.Tag,.i .i64 x.Page,.i .i64 x.Host,.i .i64 x.Rights]
 |.act,x=>[.i .i64 x.Kind,.i .i64 x.M,.i .i64 x.G,.i .i64 x.X,.i .i64 x.Y,.i .i64 x.Z]
 |.told,x=>[.b x.Ok,.i .i64 x.N]
 |.kept,x=>[.s .bool x.Known,.s .slot x.Slots]
 |.guest,x=>[.s .ins x.Prog,.i .i64 x.A,.i .i64 x.Pc,.s .slot x.Written,.s .slot x.Live,.i .i64 x.Ctl.Traps,.i .i64 x.Ctl.Post,.b x.Ctl.Open,.i .i64 x.Pending,.i .i64 x.Exit.Kind,.i .i64 x.Exit.Page,.b x.Exit.Write,.i .i64 x.Exit.N,.b x.Halted,.s .int x.Seen]
 |.bare,x=>[.s (.sl .int) x.Memory,.s .guest x.Guests,.s .int x.Outs,.i .i64 x.Pending]
 |.mon,x=>[.s .slot x.Outer,.s (.sl .int) x.Out,.s .bool x.Dirty,.s .guest x.Guests,.s .int x.Outs,.i .i64 x.Pending,.i .i64 x.Traps,.s .kept x.Tables,.i .i64 x.Own]
 |.sl t,x=>[.s t x]
def Ty.ofCells:(t:Ty)->List CV->Option t.den
 |.int,cs=>match cs with
  |[.i .i64 x]=>some x
  |_=>none
 |.u8,cs=>match cs with
  |[.i .u8 x]=>some x
  |_=>none
 |.bool,cs=>match cs with
  |[.b x]=>some x
  |_=>none
 |.slot,cs=>match cs with
  |[.i .i64 a,.i .i64 b]=>some ⟨a,b⟩
  |_=>none
 |.ins,cs=>match cs with
  |[.i .i64 a,.i .i64 b]=>some ⟨a,b⟩
  |_=>none
 |.entry,cs=>match cs with
  |[.i .i64 a,.i .i64 b,.i .i64 c,.i .i64 d]=>some ⟨a,b,c,d⟩
  |_=>none
 |.act,cs=>match cs with
  |[.i .i64 a,.i .i64 b,.i .i64 c,.i .i64 d,.i .i64 e,.i .i64 f]=>some ⟨a,b,c,d,e,f⟩
  |_=>none
 |.told,cs=>match cs with
  |[.b a,.i .i64 b]=>some ⟨a,b⟩
  |_=>none
 |.kept,cs=>match cs with
  |[.s .bool a,.s .slot b]=>some ⟨a,b⟩
  |_=>none
 |.guest,cs=>match cs with
  |[.s .ins a,.i .i64 b,.i .i64 c,.s .slot d,.s .slot e,.i .i64 f1,.i .i64 f2,.b f3,.i .i64 g,.i .i64 h1,.i .i64 h2,.b h3,.i .i64 h4,.b j,.s .int k]=>some ⟨a,b,c,d,e,⟨f1,f2,f3⟩,g,⟨h1,h2,h3,h4⟩,j,k⟩
  |_=>none
 |.bare,cs=>match cs with
  |[.s (.sl .int) a,.s .guest b,.s .int c,.i .i64 d]=>some ⟨a,b,c,d⟩
  |_=>none
 |.mon,cs=>match cs with
  |[.s .slot a,.s (.sl .int) b,.s .bool c,.s .guest d,.s .int e,.i .i64 f,.i .i64 g,.s .kept h,.i .i64 i]=>some ⟨a,b,c,d,e,f,g,h,i⟩
  |_=>none
 |.sl t,cs=>match cs with
  |[.s t' x]=>if h:t'=t then some (h ▸ x) else none
  |_=>none
inductive At where
 |bad
 |i (k:IntKind) (n:Int)
 |b (x:Bool)
 |sl (r:Nat) (p:List (Int×Nat))
 |lp (l off:Nat)
 |ep (r:Nat) (p:List (Int×Nat)) (i:Int) (off:Nat)
 |fn (f:Nat) (caps:List Nat)
 |kp (r:Nat) (J:List (List Nat)) (t:Ty)
inductive TV where
 |at (a:At)
 |agg (l:List At)
inductive MV where
 |und
 |v (x:TV)
 |tup (l:List TV)
structure Root where
 t:Ty
 l:List t.den
 own:Bool
 ep:Option Nat
structure St where
 tm:List MV
 lo:List (Nat×List At)
 ro:List (Nat×Root)
 stk:List (List MV)
 nid:Nat
 ep:Nat
inductive AV where
 |one (c:CV)
 |agg (l:List CV)
structure Cfg where
 P:Program
 sty:TypeId->Option Ty
 cty:TypeId->Option (Bool×List CTy)
 fof:TypeId->Nat->Option (Nat×Nat)
 eqt:TypeId->Bool
 ctr:FuncId->Option (List AV->Option (Bool×List AV))
 mct:FuncId->Option (CV->Int->Option (Bool×CV×Int))
 pct:FuncId->Option (List Bool×(List CV->List AV->Option (Bool×List CV×List AV)))
 tct:FuncId->Option (List Bool×Option (Nat×Nat×List (List Nat))×(List AV->Option (Bool×List AV)))
def zl {α:Type}:List (Nat×α)->Nat->Option α
 |[],_=>none
 |(k,v)::r,n=>if k==n then some v else zl r n
def zg3:(t:Ty)->List t.den->List (Int×Nat)->Option CV
 |t,l,[]=>some (.s t l)
 |t,l,(i,j)::p=>
  match (t.cells<|ix l i t.dflt)[j]? with
  |some (.s t' l')=>zg3 t' l' p
  |_=>none
def splice {α:Type}(l:List α)(off:Nat)(new:List α):List α:=l.take off++new++l.drop (off+new.length)
def zo2:(t:Ty)->List t.den->List (Int×Nat)->CV->Option (List t.den)
 |t,_,[],cv=>
  match cv with
  |.s t' l'=>if h:t'=t then some (h ▸ l') else none
  |_=>none
 |t,l,(i,j)::p,cv=>
  match (t.cells<|ix l i t.dflt)[j]? with
  |some (.s t1 l1) =>
   match zo2 t1 l1 p cv with
   |some l2=>
    match t.ofCells (splice (t.cells<|ix l i t.dflt) j [.s t1 l2]) with
    |some x=>some (up l i x)
    |none=>none
   |none=>none
  |_=>none
def setRow (t:Ty)(l:List t.den)(i:Int)(j:Nat)(new:List CV):Option (List t.den):=
 match t.ofCells (splice (t.cells<|ix l i t.dflt) j new) with
 |some x=>some (up l i x)
 |none=>none
def zeroAt (id:Nat):CTy->At
 |.i k=>.i k 0
 |.b=>.b false
 |.s _=>.sl id []
def zeros:List CTy->Nat->List At
 |[],_=>[]
 |c::r,id=>zeroAt id c::zeros r (id+1)
def zcN (t:Ty)(l:List t.den):Root:=⟨t,l,true,none⟩
def zeroRoots:List CTy->Nat->List (Nat×Root)
 |[],_=>[]
 |.s t::r,id=>(id,zcN t [])::zeroRoots r (id+1)
 |_::r,id=>zeroRoots r (id+1)
def zqG (r:Nat)(p:List (Int×Nat))(i:Int):List CV->Nat->List At
 |[],_=>[]
 |.i k n::cs,j=>.i k n::zqG r p i cs (j+1)
 |.b x::cs,j=>.b x::zqG r p i cs (j+1)
 |.s _ _::cs,j=>.sl r (p++[(i,j)])::zqG r p i cs (j+1)
def zgQ:List CV->Nat->List At
 |[],_=>[]
 |.i k n::cs,id=>.i k n::zgQ cs (id+1)
 |.b x::cs,id=>.b x::zgQ cs (id+1)
 |.s _ _::cs,id=>.sl id []::zgQ cs (id+1)
def zET (own:Ty->Bool):List CV->Nat->List (Nat×Root)
 |[],_=>[]
 |.s t l::cs,id=>(id,⟨t,l,own t,none⟩)::zET own cs (id+1)
 |_::cs,id=>zET own cs (id+1)
def AV.cvs:AV->List CV
 |.one c=>[c]
 |.agg l=>l
def zcI:List AV->Nat->List TV
 |[],_=>[]
 |.one c::r,id=>.at ((zgQ [c] id).headD .bad)::zcI r (id+1)
 |.agg cs::r,id=>.agg (zgQ cs id)::zcI r (id+cs.length)
abbrev zsi:Ty->Bool:=λ_=>false
abbrev zlK:Ty->Bool:=λ_=>true
def z4V:List Nat:=[
 100000]
def zhR (f:FuncId):Bool:=z4V.any λx=>Nat.beq x f
def zAZ:Ty->Bool
 |.sl .int=>true
 |_=>false
def zcC (f:FuncId)(t:Ty):Bool:=cond (zAZ t) (!(zhR f)) true
def zcL (own:Ty->Bool):List AV->Nat->List (Nat×Root)
 |[],_=>[]
 |x::r,id=>zET own x.cvs id++zcL own r (id+x.cvs.length)
def zhQ:List TV->MV
 |[x]=>.v x
 |l=>.tup l
def CV.flat:CV->Bool
 |.s _ _=>false
 |_=>true
structure Dl where
 c:Bool:=true
 v:MV
 lo:List (Nat×List At):=[]
 ro:List (Nat×Root):=[]
 bump:Bool:=false
def Dl.at (a:At):Dl:={v:=.v (.at a)}
def zGk:Value->Option At
 |.int k n=>some (.i k n)
 |.bool x=>some (.b x)
 |_=>none
def St.opnd (st:St):Operand->Option MV
 |.tmp t=>match st.tm[t]? with
  |some (.v<|.at .bad)=>none
  |x=>x
 |.const v=>match zGk v with
  |some a=>some (.v<|.at a)
  |none=>none
 |.func f=>some (.v<|.at<|.fn f [])
 |.global _=>none
def St.at (st:St)(x:Operand):Option At :=
 match st.opnd x with
 |some (.v<|.at a)=>some a
 |_=>none
def St.root (st:St)(r:Nat):Option Root :=
 match zl st.ro r with
 |some R=>match R.ep with
  |none=>some R
  |some e=>if e==st.ep then some R else none
 |none=>none
def St.node (st:St)(r:Nat)(p:List (Int×Nat)):Option CV :=
 match st.root r with
 |some R=>zg3 R.t R.l p
 |none=>none
def St.cvOf (st:St):At->Option CV
 |.i k n=>some (.i k n)
 |.b x=>some (.b x)
 |.sl r p=>st.node r p
 |_=>none
def zcl {α β:Type}(f:α->Option β):List α->Option (List β)
 |[]=>some []
 |a::r=>
  match f a with
  |some b=>match zcl f r with
   |some bs=>some (b::bs)
   |none=>none
  |none=>none
def St.avOf (st:St):MV->Option AV
 |.v (.at a)=>match st.cvOf a with
  |some c=>some (.one c)
  |none=>none
 |.v (.agg l)=>match zcl st.cvOf l with
  |some cs=>some (.agg cs)
  |none=>none
 |_=>none
def zVH (op:BinOp)(k:IntKind)(x y:Int):Option (Bool×At):=
 match op with
 |.add=>some (true,.i k<|zD k x y)
 |.sub=>some (true,.i k<|wsub k x y)
 |.mul=>some (true,.i k<|zlI k x y)
 |.quo=>some (ine y 0,.i k<|zSn k x y)
 |.rem=>some (ine y 0,.i k<|zkT x y)
 |.and=>some (true,.i k<|wand k x y)
 |.or=>some (true,.i k<|wor k x y)
 |.xor=>some (true,.i k<|z0J k x y)
 |.andNot=>some (true,.i k<|zw8 k x y)
 |.eql=>some (true,.b<|ieq x y)
 |.neq=>some (true,.b<|ine x y)
 |.lss=>some (true,.b<|ilt x y)
 |.leq=>some (true,.b<|ile x y)
 |.gtr=>some (true,.b<|igt x y)
 |.geq=>some (true,.b<|ige x y)
 |_=>none
def shiftOp (op:BinOp)(k:IntKind)(x y:Int):Option (Bool×At):=
 match op with
 |.shl=>some (ile 0 y,.i k<|zkU k x y)
 |.shr=>some (ile 0 y,.i k<|zjB k x y)
 |_=>none
def zT6:BinOp->Bool
 |.shl | .shr=>true
 |_=>false
def zO3:At->At->Option Bool
 |.i k x,.i k' y=>if k=k' then some (ieq x y) else none
 |.b x,.b y=>some (znj x y)
 |_,_=>none
def zs5:List At->List At->Option Bool
 |[],[]=>some true
 |[a],[b]=>zO3 a b
 |a::r,b::s=>
  match zO3 a b,zs5 r s with
  |some x,some y=>some (x&&y)
  |_,_=>none
 |_,_=>none
def zni:At->Option CTy
 |.i k _=>some (.i k)
 |.b _=>some .b
 |_=>none
def zzk (op:BinOp)(e:Bool):Option Dl :=
 match op with
 |.eql=>some (.at<|.b e)
 |.neq=>some (.at<|.b<|!e)
 |_=>none
def zN:TV->List At
 |.at a=>[a]
 |.agg l=>l
def layParts (C:Cfg)(T:TypeId)(st:St):List (Nat×Operand)->List At->Option (List At)
 |[],cs=>some cs
 |(f,x)::r,cs=>
  match C.fof T f,st.opnd x with
  |some (off,n),some (.v y)=>if (zN y).length=n/\off+n<=cs.length then layParts C T st r (splice cs off<|zN y) else none
  |_,_=>none
def zmR:List (Int×Nat)->List (Int×Nat)->Option Bool
 |[],[]=>some true
 |(i,j)::p,(i',j')::q=>
  if j==j' then match zmR p q with
   |some c=>some (ieq i i'&&c)
   |none=>none
  else none
 |_,_=>none
def St.give (st:St)(tgt:Option (Nat×List (Int×Nat)×Int)):List At->Nat->Option (Bool×List CV×List Nat)
 |[],_=>some (true,[],[])
 |a::r,j=>
  match st.give tgt r (j+1) with
  |none=>none
  |some (c,cs,ks) =>
   match a with
   |.i k n=>some (c,.i k n::cs,ks)
   |.b x=>some (c,.b x::cs,ks)
   |.sl r [] =>
    match st.root r with
    |some R=>if R.own && !ks.contains r&&(match tgt with|some (r',_,_)=>!(r==r')|none=>true) then some (c,.s R.t R.l::cs,r::ks) else none
    |none=>none
   |.sl r q=>
    match tgt with
    |some (r',p,i) =>
     if r==r' then
      match zmR q (p++[(i,j)]),st.node r q with
      |some e,some cv=>some (c&&e,cv::cs,ks)
      |_,_=>none
     else none
    |none=>none
   |_=>none
def moved (st:St):List Nat->List (Nat×Root)
 |[]=>[]
 |r::ks=>match zl st.ro r with
  |some R=>(r,{R with own:=false,ep:=some (st.ep+1)})::moved st ks
  |none=>moved st ks
def rowParts (st:St)(t:Ty):List (Nat×Operand)->List t.den->List Nat->Option (List t.den×List Nat)
 |[],l,ks=>some (l,ks)
 |(i,x)::r,l,ks=>
  match st.opnd x with
  |some (.v y) =>
   match st.give none (zN y) 0 with
   |some (true,cs,ks')=>match t.ofCells cs with
    |some d=>if i<l.length&&ks'.all (λk=>!ks.contains k) then rowParts st t r (l.set i d) (ks'++ks) else none
    |none=>none
   |_=>none
  |_=>none
def Ty.flat (t:Ty):Bool:=t.shape.all λc=>match c with | .s _=>false|_=>true
def zv4 (t:Ty):CV->CV->Option (List t.den)
 |.s t1 l1,.s t2 l2=>if h:t1=t/\t2=t then some (ap (h.1 ▸ l1)<|h.2 ▸ l2) else none
 |_,_=>none
def zfk (st:St)(R:Root)(t:Ty)(l:List t.den):Root:=⟨t,l,false,if R.own then some st.ep else R.ep⟩
def zI7 (st:St)(id r:Nat)(p:List (Int×Nat))(R:Root)(t:Ty)(l:List t.den)(a:Int):Dl :=
 match R.own,p with
 |true,[]=>{c:=inr a (ln l) (ln l),v:=.v (.at<|.sl id []),ro:=(id,zcN t<|dp l a)::moved st [r],bump:=true}
 |_,_=>{c:=inr a (ln l) (ln l),v:=.v (.at<|.sl id []),ro:=[(id,zfk st R t<|dp l a)]}
def z4M:List Nat:=[
 100000]
def zAW (C:Cfg):Bool:=z4M.any λf=>(C.pct f).isSome
def zDT (C:Cfg)(st:St)(id r:Nat)(p:List (Int×Nat))(R:Root)(t:Ty)(l:List t.den)(b:Int):Dl :=
 match zAW C&&R.own,p with
 |true,[]=>{c:=inr 0 b (ln l),v:=.v (.at<|.sl id []),ro:=(id,zcN t<|tk l b)::moved st [r],bump:=true}
 |_,_=>{c:=inr 0 b (ln l),v:=.v (.at<|.sl id []),ro:=[(id,zfk st R t<|tk l b)]}
def delta (C:Cfg)(st:St)(o:Oper)(id:Nat):Option Dl :=
 match o.op with
 |.move x | .assign x=>
  match x with
  |.const (.pointer none)=>some {v:=.v (.at .bad)}
  |.const (.slice none 0 0)=>match C.sty o.type with
   |some t=>some {v:=.v (.at<|.sl id []),ro:=[(id,zcN t [])]}
   |none=>none
  |x=>match st.opnd x with
   |some v=>some {v}
   |none=>none
 |.pick c a b=>
  match st.at c,st.opnd a,st.opnd b with
  |some (.b c),some (.v<|.at<|.b x),some (.v<|.at<|.b y)=>some (.at<|.b<|cond c x y)
  |some (.b true),some v,_=>some {v}
  |some (.b false),_,some v=>some {v}
  |_,_,_=>none
 |.alloc T=>
  match C.cty T with
  |some (_,tys)=>if tys.length<=31 then some {v:=.v (.at<|.lp (id+31) 0),lo:=[(id+31,zeros tys id)],ro:=zeroRoots tys id} else none
  |none=>none
 |.box _ x=>
  match st.opnd x with
  |some (.v y)=>some {v:=.v (.at<|.lp id 0),lo:=[(id,zN y)]}
  |_=>none
 |.build T parts=>
  match C.cty T with
  |some (true,tys) =>
   match layParts C T st parts.toList (zeros tys id) with
   |some cs=>if tys.length<=31 then some {v:=.v (.agg cs),ro:=zeroRoots tys id} else none
   |none=>none
  |_=>none
 |.load T x=>
  match C.cty T,st.at x with
  |some (agg,tys),some (.lp l off) =>
   match zl st.lo l with
   |some cs=>
    if agg then (if off+tys.length<=cs.length then some {v:=.v (.agg<|(cs.drop off).take tys.length)} else none)
    else match cs[off]? with
     |some a=>some (.at a)
     |none=>none
   |none=>none
  |some (agg,tys),some (.ep r p i off) =>
   match st.node r p with
   |some (.s t l) =>
    if agg then (if off+tys.length<=t.width then some {v:=.v (.agg<|zqG r p i (((t.cells<|ix l i t.dflt).drop off).take tys.length) off)} else none)
    else match zqG r p i (((t.cells<|ix l i t.dflt).drop off).take 1) off with
     |[a]=>some (.at a)
     |_=>none
   |_=>none
  |_,_=>none
 |.store T a x=>
  match C.cty T,st.opnd x,st.at a with
  |some (_,tys),some (.v y),some (.lp l off) =>
   match zl st.lo l with
   |some cs=>if (zN y).length=tys.length/\off+tys.length<=cs.length then some {v:=.und,lo:=[(l,splice cs off<|zN y)]} else none
   |none=>none
  |some (_,tys),some (.v y),some (.ep r p i off) =>
   match st.root r,st.node r p,st.give none (zN y) 0 with
   |some R,some (.s t l),some (c,cvs,[]) =>
    if R.own&&(zN y).length==tys.length&&decide (off+tys.length<=t.width) then
     match setRow t l i off cvs with
     |some l'=>match zo2 R.t R.l p (.s t l') with
      |some m=>some {c,v:=.und,ro:=[(r,{R with l:=m})],bump:=true}
      |none=>none
     |none=>none
    else none
   |_,_,_=>none
  |some (_,[.s t]),none,some (.lp l off) =>
   match x with
   |.const (.slice none 0 0) =>
    match zl st.lo l with
    |some cs=>if off+1<=cs.length then some {v:=.und,lo:=[(l,splice cs off [.sl id []])],ro:=[(id,zcN t [])]} else none
    |none=>none
   |_=>none
  |_,_,_=>none
 |.nilCheck x=>
  match st.at x with
  |some (.lp l off)=>some (.at<|.lp l off)
  |some (.ep r p i off)=>some (.at<|.ep r p i off)
  |_=>none
 |.binOp op T x y _=>
  match st.opnd x,st.opnd y with
  |some (.v<|.at<|.i k a),some (.v<|.at<|.i k' b) =>
   if zT6 op then
    match shiftOp op k a b with
    |some (c,r)=>some {c,v:=.v (.at r)}
    |none=>none
   else if k=k' then
    match zVH op k a b with
    |some (c,r)=>some {c,v:=.v (.at r)}
    |none=>none
   else none
  |some (.v<|.at<|.b a),some (.v<|.at<|.b b)=>if C.cty T=some (false,[.b]) then zzk op (znj a b) else none
  |some (.v<|.agg l),some (.v<|.agg m) =>
   match C.cty T,zs5 l m with
   |some (true,tys),some e=>if C.eqt T=true/\zcl zni l=some tys/\zcl zni m=some tys then zzk op e else none
   |_,_=>none
  |_,_=>none
 |.unOp op _ x=>
  match op,st.at x with
  |.not,some (.b a)=>some (.at<|.b<|!a)
  |.neg,some (.i k n)=>some (.at<|.i k<|wsub k 0 n)
  |_,_=>none
 |.convert src dst x=>
  match C.cty src,C.cty dst,st.at x with
  |some _,some (false,[.i k]),some (.i _ n)=>some (.at<|.i k<|wcv k n)
  |_,_,_=>none
 |.makeFunc (.func f) first caps=>
  match first.toList,zcl (λx=>match st.at x with|some (.lp l 0)=>some l|_=>none) caps.toList with
  |[],some ls=>some (.at<|.fn f ls)
  |_,_=>none
 |.makeSlice T len cap=>
  match C.sty T,st.at len,st.at cap with
  |some t,some (.i .i64 n),some (.i .i64 m) =>
   some {c:=few n&&ieq n m,v:=.v (.at<|.sl id []),ro:=[(id,zcN t<|rp n t.dflt)]}
  |_,_,_=>none
 |.slice T x low high none=>
  match st.at x with
  |some (.sl r p) =>
   match st.root r,st.node r p with
   |some R,some (.s t l) =>
    if C.sty T=some t then
    match low,high with
    |none,none=>some {v:=.v (.at<|.sl id []),ro:=[(id,zfk st R t l)]}
    |some lo,none=>match st.at lo with
     |some (.i .i64 a)=>some (zI7 st id r p R t l a)
     |_=>none
    |none,some hi=>match st.at hi with
     |some (.i .i64 b)=>some (zDT C st id r p R t l b)
     |_=>none
    |some lo,some hi=>match st.at lo,st.at hi with
     |some (.i .i64 a),some (.i .i64 b)=>some {c:=inr a b (ln l),v:=.v (.at<|.sl id []),ro:=[(id,zfk st R t<|dp (tk l b) a)]}
     |_,_=>none
    else none
   |_,_=>none
  |_=>none
 |.fieldAddr T x f=>
  match C.fof T f,st.at x with
  |some (o,_),some (.lp l off)=>some (.at<|.lp l<|off+o)
  |some (o,_),some (.ep r p i off)=>some (.at<|.ep r p i<|off+o)
  |_,_=>none
 |.field T x f=>
  match C.P.underlying T with
  |some (.struct fs) =>
   match fs[f]? with
   |some fx=>
    match C.cty fx.type,st.opnd x with
    |some (agg,tys),some (.v<|.agg l) =>
     if fx.offset+tys.length<=l.length then
      match agg with
      |true=>some {v:=.v (.agg<|(l.drop fx.offset).take tys.length)}
      |false=>match l[fx.offset]? with
       |some a=>some (.at a)
       |none=>none
     else none
    |_,_=>none
   |none=>none
  |_=>none
 |.index T (.const<|.string s) i=>
  match C.P.underlying T,st.at i with
  |some .string,some (.i _ n)=>some {c:=inb n s.size,v:=.v (.at<|.i .u8<|byteAt s n)}
  |_,_=>none
 |.indexAddr T x i=>
  match st.at x,st.at i with
  |some (.sl r p),some (.i .i64 n) =>
   match st.node r p with
   |some (.s t l)=>if C.sty T=some t then some {c:=inb n (ln l),v:=.v (.at<|.ep r p n 0)} else none
   |_=>none
  |_,_=>none
 |.extract x j=>
  match st.opnd x with
  |some (.tup l)=>match l[j]? with
   |some y=>some {v:=.v y}
   |none=>none
  |_=>none
 |.call c=>
  match c.callee with
  |.builtin .len=>
   match c.args.toList,c.argTypes.toList with
   |[x],[T]=>match st.at x with
    |some (.sl r p)=>match st.node r p with
     |some (.s t l)=>if C.sty T=some t then some (.at<|.i .i64<|ln l) else none
     |_=>none
    |_=>none
   |_,_=>none
  |.builtin .min=>
   match c.args.toList with
   |[x,y]=>match st.at x,st.at y with
    |some (.i .i64 a),some (.i .i64 b)=>some (.at<|.i .i64<|zwG a b)
    |_,_=>none
   |_=>none
  |.builtin .max=>
   match c.args.toList with
   |[x,y]=>match st.at x,st.at y with
    |some (.i .i64 a),some (.i .i64 b)=>some (.at<|.i .i64<|imax a b)
    |_,_=>none
   |_=>none
  |.builtin .append=>
   match c.args.toList,c.argTypes.toList with
   |[x,y],[T,T2] =>
    if T2=T then
    match C.sty T,st.at x,st.at y with
    |some t,some (.sl r []),some (.sl r2 p2) =>
     match st.root r,st.root r2,st.node r2 p2 with
     |some R,some R2,some cv2=>
      if R.own&&(t.flat||R2.own&&p2.isEmpty && !(r==r2)) then
       match zv4 t (.s R.t R.l) cv2 with
       |some m=>some {c:=few (ln m),v:=.v (.at<|.sl id []),ro:=(id,zcN t m)::moved st (if t.flat then [r] else [r,r2]),bump:=true}
       |none=>none
      else none
     |_,_,_=>none
    |_,_,_=>none
    else none
   |_,_=>none
  |.value (.func f) =>
   match C.ctr f with
   |some run=>
    match zcl (λx=>match st.opnd x with|some v=>st.avOf v|none=>none) c.args.toList with
    |some avs=>match run avs with
     |some (c,rs)=>if (rs.flatMap AV.cvs).length<=31 then some {c,v:=zhQ (zcI rs id),ro:=zcL (zcC f) rs id} else none
     |none=>none
    |none=>none
   |none=>
    match C.tct f,c.args.toList with
    |some ([],_,run),x0::xr=>
     match st.opnd x0,zcl (λx=>match st.opnd x with|some v=>st.avOf v|none=>none) (x0::xr) with
     |some (.v v0),some avs=>match run avs with
      |some (c,rs)=>if (rs.flatMap AV.cvs).all CV.flat&&decide ((rs.flatMap AV.cvs).length<=31) then some {c,v:=zhQ (v0::zcI rs id)} else none
      |none=>none
     |_,_=>none
    |_,_=>none
  |_=>none
 |.buildSlice T len parts=>
  match C.sty T with
  |some t=>match rowParts st t parts.toList (List.replicate len t.dflt) [] with
   |some (l,ks)=>if len<=65536 then some {v:=.v (.at<|.sl id []),ro:=(id,zcN t l)::moved st ks,bump:=true} else none
   |none=>none
  |none=>none
 |_=>none
def St.put (st:St)(dst:Option Tmp)(v:MV):St :=
 match dst with
 |some d=>{st with tm:=st.tm.set d v}
 |none=>st
def St.apply(st:St)(dst:Option Tmp)(d:Dl):St :=
 {st with lo:=d.lo++st.lo,ro:=d.ro++st.ro,ep:=if d.bump then st.ep+1 else st.ep}.put dst d.v
def cols (p:List (Int×Nat)):List Nat:=p.map (·.2)
def coarse (js J:List (List Nat)):Bool:=js.all λm=>J.any λc=>c.isPrefixOf m
def zcO (r:Nat)(js:List (List Nat)):At->At
 |.kp r' J t=>cond (Nat.beq r r') (cond (coarse js J) (.kp r' J t) .bad) (.kp r' J t)
 |.sl r' q=>if r==r'&&js.any (λm=>m.isPrefixOf (cols q)) then .bad else .sl r' q
 |.ep r' q i o=>if r==r'&&js.any (λm=>m.isPrefixOf (cols q)) then .bad else .ep r' q i o
 |a=>a
def zlB (r:Nat)(js:List (List Nat)):TV->TV
 |.at a=>.at (zcO r js a)
 |.agg l=>.agg (l.map<|zcO r js)
def zga (r:Nat)(js:List (List Nat)):MV->MV
 |.und=>.und
 |.v x=>.v (zlB r js x)
 |.tup l=>.tup (l.map<|zlB r js)
def ziS:List At->List CV->Nat->List Nat
 |.sl _ (_::_)::r,_::cs,j=>ziS r cs (j+1)
 |_::r,.s _ _::cs,j=>j::ziS r cs (j+1)
 |_::r,_::cs,j=>ziS r cs (j+1)
 |_,_,_=>[]
def zGD (C:Cfg)(st:St)(o:Oper):Option (Bool×St):=
 match o.op with
 |.store T a x=>
  match C.cty T,st.opnd x,st.at a with
  |some (_,tys),some (.v y),some (.ep r p i off) =>
   match st.root r,st.node r p,st.give (some (r,p,i)) (zN y) off with
   |some R,some (.s t l),some (c,cvs,ks) =>
    if R.own&&(zN y).length==tys.length&&decide (off+tys.length<=t.width) then
     match setRow t l i off cvs with
     |some l'=>match zo2 R.t R.l p (.s t l') with
      |some m=>
       let js:=(ziS (zN y) cvs off).map λj=>cols p++[j]
       some (c,
        {st with
         tm:=st.tm.map (zga r js)
         stk:=st.stk.map λf=>f.map (zga r js)
         lo:=st.lo.map λx=>(x.1,x.2.map<|zcO r js)
         ro:=(r,{R with l:=m})::(moved st ks++st.ro)
         ep:=st.ep+1})
      |none=>none
     |none=>none
    else none
   |_,_,_=>none
  |_,_,_=>none
 |_=>none
def zhP (st:St)(r:Nat)(R:Root)(m:List R.t.den)(js:List (List Nat)):St :=
 {st with
  tm:=st.tm.map (zga r js)
  stk:=st.stk.map λf=>f.map (zga r js)
  lo:=st.lo.map λx=>(x.1,x.2.map<|zcO r js)
  ro:=(r,{R with l:=m})::st.ro
  ep:=st.ep+1}
def zD0 (C:Cfg)(st:St)(o:Oper):Option (Bool×St):=
 match o.op with
 |.store T a (.const<|.slice none 0 0) =>
  match C.cty T,st.at a with
  |some (_,[.s t1]),some (.ep r p i off) =>
   match st.root r,st.node r p with
   |some R,some (.s t l) =>
    if R.own&&decide (off+1<=t.width) then
     match setRow t l i off [.s t1 []] with
     |some l'=>match zo2 R.t R.l p (.s t l') with
      |some m=>some (true,zhP st r R m [cols p++[off]])
      |none=>none
     |none=>none
    else none
   |_,_=>none
  |_,_=>none
 |_=>none
def graft (C:Cfg)(st:St)(o:Oper):Option (Bool×St):=
 match zGD C st o with
 |some x=>some x
 |none=>zD0 C st o
def zOC (C:Cfg)(st:St)(o:Oper):Option (Bool×St×MV):=
 match o.op with
 |.call c=>
  match c.callee with
  |.value (.func f) =>
   match C.mct f,c.args.toList with
   |some run,[x,y] =>
    match st.at x,st.at y with
    |some (.sl r p),some (.i .i64 k) =>
     match st.root r,st.node r p with
     |some R,some (.s t l) =>
      match run (.s t l) k with
      |some (cc,.s t' l',k') =>
       if R.own=true/\t'=t then
        match zo2 R.t R.l p (.s t' l') with
        |some m=>some (cc,zhP st r R m ((List.range t.width).map λj=>cols p++[j]),.v<|.at<|.i .i64 k')
        |none=>none
       else none
      |_=>none
     |_,_=>none
    |_,_=>none
   |_,_=>none
  |_=>none
 |_=>none
def zbh:At->List Nat
 |.sl r _=>[r]
 |.ep r _ _ _=>[r]
 |.kp r _ _=>[r]
 |_=>[]
def zbn:At->List Nat
 |.lp l _=>[l]
 |.fn _ caps=>caps
 |_=>[]
def zbw:MV->List At
 |.und=>[]
 |.v x=>zN x
 |.tup l=>l.flatMap zN
def St.blk (st:St):List Bool->List At->Option (List CV×List Nat)
 |[],[]=>some ([],[])
 |own::ms,a::r=>
  match St.blk st ms r with
  |none=>none
  |some (cs,ks) =>
   match a with
   |.i k n=>some (.i k n::cs,ks)
   |.b x=>some (.b x::cs,ks)
   |.sl q [] =>
    match st.root q with
    |some R=>if R.own==own&&R.ep.isNone && !ks.contains q then some (.s R.t R.l::cs,cond own (q::ks) ks) else none
    |none=>none
   |_=>none
 |_,_=>none
def znk:List Bool->List At->List CV->Nat->Option (List At)
 |[],[],[],_=>some []
 |own::ms,a::r,c::cs,id=>
  match znk ms r cs (id+1) with
  |none=>none
  |some l=>
   match a,c with
   |.i k _,.i k' n=>if k=k' then some (.i k n::l) else none
   |.b _,.b x=>some (.b x::l)
   |.sl q [],.s _ _=>some (cond own (.sl id []::l) (.sl q []::l))
   |_,_=>none
 |_,_,_,_=>none
def zgb:List Bool->List CV->Nat->List (Nat×Root)
 |own::ms,.s t l::cs,id=>cond own ((id,zcN t l)::zgb ms cs (id+1)) (zgb ms cs<|id+1)
 |_::ms,_::cs,id=>zgb ms cs (id+1)
 |_,_,_=>[]
def killed (st:St):List Nat->List (Nat×Root)
 |[]=>[]
 |r::ks=>match zl st.ro r with
  |some R=>(r,{R with own:=false,ep:=some st.ep})::killed st ks
  |none=>killed st ks
def zAG (st:St)(ks:List Nat)(m:MV):Bool :=
 (zbw m).all λa=>(zbh a).all λr=>!ks.contains r&&(match st.root r with|some R=>R.ep.isNone|none=>false)
def St.avF (st:St)(ks:List Nat)(m:MV):Option AV:=if zAG st ks m then st.avOf m else none
def zO1 (st:St)(ks:List Nat)(y:Operand):Option AV :=
 match st.opnd y with
 |some v=>st.avF ks v
 |none=>none
def zQ3 (st:St)(ow:Ty->Bool)(own:List Bool)(run:List CV->List AV->Option (Bool×List CV×List AV))(id:Nat):List Operand->Option (Bool×St×MV)
 |x::ys=>
  match st.at x with
  |some (.lp l 0) =>
   match zl st.lo l with
   |some cells=>
    match st.blk own cells with
    |some (cs,ks) =>
     match zcl (zO1 st ks) ys with
     |some avs=>
      match run cs avs with
      |some (cc,cs',rs) =>
       match znk own cells cs' id with
       |some cells' =>
        if cells.length<=12/\(rs.flatMap AV.cvs).length<=16 then
         some (cc,{st with lo:=(l,cells')::st.lo,ro:=zgb own cs' id++(zcL ow rs (id+12)++(killed st ks++st.ro)),ep:=st.ep+1},zhQ<|zcI rs<|id+12)
        else none
       |none=>none
      |none=>none
     |none=>none
    |none=>none
   |none=>none
  |_=>none
 |_=>none
def zA2 (C:Cfg)(st:St)(o:Oper)(id:Nat):Option (Bool×St×MV):=
 match o.op with
 |.call c=>
  match c.callee with
  |.value (.func f) =>
   match C.pct f with
   |some (own,run)=>zQ3 st (zcC f) own run id c.args.toList
   |none=>none
  |_=>none
 |_=>none
def zK8 (st:St)(ow:Ty->Bool)(own:List Bool)(run:List CV->List AV->Option (Bool×List CV×List AV))(id:Nat):List Operand->Option Dl
 |x::ys=>
  match st.at x with
  |some (.lp l 0) =>
   match zl st.lo l with
   |some cells=>
    match st.blk own cells with
    |some (cs,ks) =>
     match zcl (zO1 st ks) ys with
     |some avs=>
      match run cs avs with
      |some (cc,cs',rs) =>
       match znk own cells cs' id with
       |some cells' =>
        if cells.length<=12/\(rs.flatMap AV.cvs).length<=16 then
         some {c:=cc,v:=zhQ (zcI rs<|id+12),lo:=[(l,cells')],ro:=zgb own cs' id++(zcL ow rs (id+12)++killed st ks),bump:=true}
        else none
       |none=>none
      |none=>none
     |none=>none
    |none=>none
   |none=>none
  |_=>none
 |_=>none
def zjm (C:Cfg)(o:Oper):Option (List Bool×(List CV->List AV->Option (Bool×List CV×List AV))):=
 match o.op with
 |.call c=>
  match c.callee with
  |.value (.func f)=>C.pct f
  |_=>none
 |_=>none
def zI3 (o:Oper):FuncId :=
 match o.op with
 |.call c=>
  match c.callee with
  |.value (.func f)=>f
  |_=>0
 |_=>0
def callArgs (o:Oper):List Operand :=
 match o.op with
 |.call c=>c.args.toList
 |_=>[]
def zkE (C:Cfg)(st:St)(o:Oper)(id:Nat):Option Dl :=
 match zjm C o with
 |some (own,run)=>zK8 st (zcC<|zI3 o) own run id (callArgs o)
 |none=>none
def zjC (C:Cfg)(st:St)(o:Oper)(id:Nat):Option Dl :=
 match delta C st o id with
 |some d=>some d
 |none=>zkE C st o id
def zWO (st:St)(ks:List Nat)(a:At):Bool :=
 (zbh a).all λr=>!ks.contains r&&(match st.root r with|some R=>R.ep.isNone|none=>false)
def St.tks (st:St):List Bool->List At->Option (List CV×List Nat)
 |[],[]=>some ([],[])
 |own::ms,a::r=>
  match St.tks st ms r with
  |none=>none
  |some (cs,ks) =>
   match own with
   |true=>
    match a with
    |.sl q [] =>
     match st.root q with
     |some R=>if R.own && !ks.contains q then some (.s R.t R.l::cs,q::ks) else none
     |none=>none
    |_=>none
   |false=>
    match st.cvOf a with
    |some c=>some (c::cs,ks)
    |none=>none
 |_,_=>none
def zgv:List TV->List CV->List AV
 |[],_=>[]
 |.at _::r,cs=>.one (cs.headD<|.b false)::zgv r (cs.drop 1)
 |.agg l::r,cs=>.agg (cs.take l.length)::zgv r (cs.drop l.length)
def zOK (st:St):List Operand->Option (List TV)
 |[]=>some []
 |x::r=>
  match st.opnd x,zOK st r with
  |some (.v y),some ys=>some (y::ys)
  |_,_=>none
def z5r:List (Nat×List (List<|Nat×Nat)):=[
 (372,[[(4,2)],[(4,3)]]),
 (100000,[])]
def zh0 (f:FuncId):List (List<|Nat×Nat):=
 match zl z5r f with
 |some x=>x
 |none=>[[]]
def zu3 (st:St)(ks:List Nat)(al:List (Nat×Nat)):Nat->List Bool->List At->Bool
 |j,own::ms,a::r=>(own||(al.any (λx=>Nat.beq x.1 j)||zWO st ks a))&&zu3 st ks al (j+1) ms r
 |_,_,_=>true
def zI1 (own:List Bool)(ats:List At)(al:List (Nat×Nat)):Bool :=
 al.all λx=>match ats[x.1]?,ats[x.2]?,own[x.1]?,own[x.2]? with
  |some (.sl q []),some (.sl r []),some false,some true=>Nat.beq q r
  |_,_,_,_=>false
def zlh (q n:Nat)(js:List (List Nat)):At->At
 |.sl r p=>cond (Nat.beq r q) (cond (js.any λm=>m.isPrefixOf (cols p)) .bad<|.sl n p) (.sl r p)
 |.ep r p i o=>cond (Nat.beq r q) (cond (js.any λm=>m.isPrefixOf (cols p)) .bad<|.ep n p i o) (.ep r p i o)
 |.kp r J t=>cond (Nat.beq r q) (cond (coarse js J) (.kp n J t) .bad) (.kp r J t)
 |a=>a
def zpE (f:At->At):TV->TV
 |.at a=>.at (f a)
 |.agg l=>.agg (l.map f)
def zjk (f:At->At):MV->MV
 |.und=>.und
 |.v x=>.v (zpE f x)
 |.tup l=>.tup (l.map<|zpE f)
def z2k (own:List Bool)(ats:List At)(id:Nat):Option (Nat×Nat×List (List Nat))->Option (Option<|Nat×Nat×List (List Nat))
 |none=>some none
 |some (ja,jr,js)=>match own[ja]?,ats[ja]? with
  |some true,some (.sl q [])=>some (some (q,id+jr,js))
  |_,_=>none
def St.ren (st:St):Option (Nat×Nat×List (List Nat))->St
 |none=>st
 |some (q,n,js)=>{st with tm:=st.tm.map (zjk<|zlh q n js),stk:=st.stk.map (λf=>f.map (zjk<|zlh q n js)),lo:=st.lo.map (λx=>(x.1,x.2.map<|zlh q n js))}
def zYO (st:St)(als:List (List<|Nat×Nat))(own:List Bool)(inp:Option (Nat×Nat×List (List Nat)))(run:List AV->Option (Bool×List AV))(id:Nat)(args:List Operand):Option (Bool×St×MV):=
 match zOK st args with
 |some tvs=>
  match st.tks own (tvs.flatMap zN) with
  |some (cs,ks) =>
   match z2k own (tvs.flatMap zN) id inp with
   |some x=>
    cond (als.any λal=>zI1 own (tvs.flatMap zN) al&&zu3 st ks al 0 own (tvs.flatMap zN))
     (match run (zgv tvs cs) with
     |some (cc,rs) =>
      if (rs.flatMap AV.cvs).length<=31 then
       some (cc,({st with ro:=zcL zlK rs id++(killed st ks++st.ro),ep:=st.ep+1}:St).ren x,zhQ<|zcI rs id)
      else none
     |none=>none) none
   |none=>none
  |none=>none
 |none=>none
def zOJ (C:Cfg)(st:St)(o:Oper)(id:Nat):Option (Bool×St×MV):=
 match o.op with
 |.call c=>
  match c.callee with
  |.value (.func f) =>
   match C.tct f with
   |some (own,inp,run)=>cond own.isEmpty none (zYO st (zh0 f) own inp run id c.args.toList)
   |none=>none
  |_=>none
 |_=>none
inductive IT where
 |hole
 |lit (i:Int)
inductive AT where
 |bad
 |i (k:IntKind)
 |b
 |sl (r:Nat) (js:List Nat)
 |lp (l off:Nat)
 |ep (r:Nat) (js:List Nat) (off:Nat)
 |fn (f:Nat) (caps:List Nat)
structure Tmpl where
 n:Nat
 tm:List (Nat×AT)
 lo:List (Nat×List AT)
 ro:List (Nat×Ty×Bool)
 sk:List (Nat×Nat×Nat×AT):=[]
 kr:Nat:=0
def AT.sig:AT->List CTy
 |.i k=>[.i k]
 |.b=>[.b]
 |.sl _ js=>js.map λ_=>.i .i64
 |.ep _ js _=>(js.map λ_=>CTy.i .i64)++[.i .i64]
 |_=>[]
def Tmpl.sig (T:Tmpl):List CTy :=
 T.tm.flatMap (λx=>x.2.sig)++T.lo.flatMap (λx=>x.2.flatMap AT.sig)++T.ro.map λx=>.s x.2.1
abbrev Dat:List CTy->Type
 |[]=>Unit
 |.i _::r=>Int×Dat r
 |.b::r=>Bool×Dat r
 |.s t::r=>List t.den×Dat r
def unpack:(sig:List CTy)->List CV->Option (Dat sig)
 |[],[]=>some ()
 |.i k::sig,.i k' n::cs=>if k=k' then match unpack sig cs with
  |some d=>some (n,d)
  |none=>none
  else none
 |.b::sig,.b x::cs=>match unpack sig cs with
  |some d=>some (x,d)
  |none=>none
 |.s t::sig,.s t' l::cs=>if h:t'=t then match unpack sig cs with
  |some d=>some (h ▸ l,d)
  |none=>none
  else none
 |_,_=>none
def packs:(sig:List CTy)->Dat sig->List CV
 |[],_=>[]
 |.i k::sig,d=>.i k d.1::packs sig d.2
 |.b::sig,d=>.b d.1::packs sig d.2
 |.s t::sig,d=>.s t d.1::packs sig d.2
structure Bnd where
 r:List (Nat×Nat)
 l:List (Nat×Nat)
def idx:List Nat->List (Int×Nat)->Option (List CV)
 |[],[]=>some []
 |j::js,(i,j')::p=>if j==j' then match idx js p with
  |some cs=>some (.i .i64 i::cs)
  |none=>none
  else none
 |_,_=>none
def zv6 (l:List (Nat×Nat))(k v:Nat):Option (List<|Nat×Nat):=
 match zl l k with
 |some u=>if u==v then some l else none
 |none=>if l.any (λx=>x.2==v) then none else some ((k,v)::l)
def zOw (l:List (Nat×Nat))(k v:Nat):Option (List<|Nat×Nat):=
 match zl l k with
 |some u=>if u==v then some l else none
 |none=>some ((k,v)::l)
def zAy (B:Bnd):AT->At->Option (Bnd×List CV)
 |.bad,_=>some (B,[])
 |.i k,.i k' n=>if k=k' then some (B,[.i k n]) else none
 |.b,.b x=>some (B,[.b x])
 |.sl r js,.sl r' p=>match zOw B.r r r',idx js p with
  |some br,some cs=>some ({B with r:=br},cs)
  |_,_=>none
 |.lp l off,.lp l' off'=>if off==off' then match zv6 B.l l l' with
  |some bl=>some ({B with l:=bl},[])
  |none=>none
  else none
 |.ep r js off,.ep r' p i off'=>if off==off' then match zOw B.r r r',idx js p with
  |some br,some cs=>some ({B with r:=br},cs++[.i .i64 i])
  |_,_=>none
  else none
 |.fn f caps,.fn f' caps'=>if f==f'&&caps.length==caps'.length then
  match (caps.zip caps').foldl (λ(acc:Option (List<|Nat×Nat)) x=>match acc with|some bl=>zv6 bl x.1 x.2|none=>none) (some B.l) with
  |some bl=>some ({B with l:=bl},[])
  |none=>none
  else none
 |_,_=>none
def zIH (st:St):Bnd->List (Nat×AT)->Option (Bnd×List CV)
 |B,[]=>some (B,[])
 |B,(n,a)::r=>
  match st.tm[n]? with
  |some (.v<|.at x)=>match zAy B a x with
   |some (B',cs)=>match zIH st B' r with
    |some (B'',cs')=>some (B'',cs++cs')
    |none=>none
   |none=>none
  |_=>none
def z6l (st:St)(f s k:Nat):Option At :=
 match st.stk[f]? with
 |some fr=>match fr[s]? with
  |some (.v x)=>(zN x)[k]?
  |_=>none
 |none=>none
def zIF (st:St):Bnd->List (Nat×Nat×Nat×AT)->Option Bnd
 |B,[]=>some B
 |B,(f,s,k,a)::r=>
  match z6l st f s k with
  |some x=>match zAy B a x with
   |some (B',[])=>zIF st B' r
   |_=>none
  |none=>none
def znb:Bnd->List AT->List At->Option (Bnd×List CV)
 |B,[],[]=>some (B,[])
 |B,a::r,x::y=>match zAy B a x with
  |some (B',cs)=>match znb B' r y with
   |some (B'',cs')=>some (B'',cs++cs')
   |none=>none
  |none=>none
 |_,_,_=>none
def zID (st:St):Bnd->List (Nat×List AT)->Option (Bnd×List CV)
 |B,[]=>some (B,[])
 |B,(l,xa)::r=>
  match zl B.l l with
  |some l'=>match zl st.lo l' with
   |some cells=>match znb B xa cells with
    |some (B',cs)=>match zID st B' r with
     |some (B'',cs')=>some (B'',cs++cs')
     |none=>none
    |none=>none
   |none=>none
  |none=>none
def zIE (st:St)(B:Bnd):List (Nat×Ty×Bool)->Option (List CV)
 |[]=>some []
 |(r,t,own)::rest=>
  match zl B.r r with
  |some r'=>match zl st.ro r' with
   |some R=>if R.t=t/\(own=true->R.own=true)/\R.ep=none then match zIE st B rest with
    |some cs=>some (.s R.t R.l::cs)
    |none=>none
    else none
   |none=>none
  |none=>none
def z0M (B:Bnd):Bool:=B.r.all (λx=>decide (x.1<1000))&&B.l.all (λx=>decide (x.1<1000))
def z5z (ros:List (Nat×Ty×Bool))(B:Bnd):Bool:=ros.all λx=>cond x.2.2 (B.r.all λy=>Nat.beq y.1 x.1||(match zl B.r x.1 with|some v=>!(Nat.beq v y.2)|none=>true)) true
def Tmpl.takeB (T:Tmpl)(st:St):Option (Bnd×List CV):=
 if T.n==st.tm.length then
  match zIH st ⟨[],[]⟩ T.tm with
  |some (B0,cs)=>match zIF st B0 T.sk with
   |some B=>match zID st B T.lo with
    |some (B',cs')=>match zIE st B' T.ro with
     |some cs''=>if z0M B'&&z5z T.ro B' then some (B',cs++cs'++cs'') else none
     |none=>none
    |none=>none
   |none=>none
  |none=>none
 else none
def Tmpl.take (T:Tmpl)(st:St):Option (List CV):=
 match T.takeB st with
 |some (_,cs)=>some cs
 |none=>none
def zIg:List (Nat×Nat)->Nat->Option Nat
 |[],_=>none
 |(k,v)::l,r=>cond (Nat.beq v r) (some k) (zIg l r)
def zqk (B:Bnd)(base:Nat):At->At
 |.i k n=>.i k n
 |.b x=>.b x
 |.sl r p=>match zIg B.r r with|some k=>.sl (base+k) p|none=>.bad
 |.ep r p i o=>match zIg B.r r with|some k=>.ep (base+k) p i o|none=>.bad
 |.kp r J t=>match zIg B.r r with|some k=>.kp (base+k) J t|none=>.bad
 |.lp l o=>match zIg B.l l with|some k=>.lp (base+k) o|none=>.bad
 |_=>.bad
def zrG (B:Bnd)(base:Nat)(stk:List (List MV)):List (List MV):=stk.map λf=>f.map (zjk<|zqk B base)
def ziF:List (Int×Nat)->List (Int×Nat)->Bool
 |[],[]=>true
 |[(i,j)],[(i',j')]=>cond (Nat.beq j j') (ieq i i') false
 |(i,j)::p,(i',j')::q=>cond (Nat.beq j j') (ieq i i'&&ziF p q) false
 |_,_=>false
def zwb (B:Bnd)(base:Nat)(r' r:Nat):Bool:=Nat.ble base r&&(match zl B.r (r-base) with|some v=>Nat.beq v r'|none=>false)
def zgr (B:Bnd)(base:Nat):At->At->Bool
 |.sl r' p',.sl r p=>cond (zwb B base r' r) (ziF p' p) false
 |.ep r' p' i' o',.ep r p i o=>cond (zwb B base r' r&&Nat.beq o' o) (ieq i' i&&ziF p' p) false
 |.kp r' J' t',.kp r J t=>zwb B base r' r&&(J'==J&&decide (t'=t))
 |.lp l' o',.lp l o=>Nat.ble base l&&Nat.beq o o'&&(match zl B.l (l-base) with|some v=>Nat.beq v l'|none=>false)
 |_,.sl _ _=>false
 |_,.lp _ _=>false
 |_,.ep _ _ _ _=>false
 |_,.fn _ _=>false
 |_,.kp _ _ _=>false
 |_,_=>true
def zAJ (B:Bnd)(base:Nat):List At->List At->Bool
 |[],[]=>true
 |a::r,b::s=>zgr B base a b&&zAJ B base r s
 |_,_=>false
def zzc (B:Bnd)(base:Nat):TV->TV->Bool
 |.at a,.at b=>zgr B base a b
 |.agg l,.agg m=>zAJ B base l m
 |_,_=>false
def zAK (B:Bnd)(base:Nat):List TV->List TV->Bool
 |[],[]=>true
 |a::r,b::s=>zzc B base a b&&zAK B base r s
 |_,_=>false
def zPe (B:Bnd)(base:Nat):MV->MV->Bool
 |.und,.und=>true
 |.v x,.v y=>zzc B base x y
 |.tup l,.tup m=>zAK B base l m
 |_,_=>false
def zOy (B:Bnd)(base:Nat):List MV->List MV->Bool
 |[],[]=>true
 |a::r,b::s=>zPe B base a b&&zOy B base r s
 |_,_=>false
def zgD (B:Bnd)(base:Nat):List (List MV)->List (List MV)->Bool
 |[],[]=>true
 |a::r,b::s=>zOy B base a b&&zgD B base r s
 |_,_=>false
def zvb:List Nat->List CV->Option (List (Int×Nat)×List CV)
 |[],cs=>some ([],cs)
 |j::js,.i _ n::cs=>match zvb js cs with
  |some (p,cs')=>some ((n,j)::p,cs')
  |none=>none
 |_,_=>none
def putAt (base:Nat):AT->List CV->Option (At×List CV)
 |.bad,cs=>some (.bad,cs)
 |.i k,.i _ n::cs=>some (.i k n,cs)
 |.b,.b x::cs=>some (.b x,cs)
 |.sl r js,cs=>match zvb js cs with
  |some (p,cs')=>some (.sl (base+r) p,cs')
  |none=>none
 |.lp l off,cs=>some (.lp (base+l) off,cs)
 |.ep r js off,cs=>match zvb js cs with
  |some (p,.i _ n::cs')=>some (.ep (base+r) p n off,cs')
  |_=>none
 |.fn f caps,cs=>some (.fn f (caps.map λl=>base+l),cs)
 |_,_=>none
def zOH (base:Nat):List (Nat×AT)->List CV->List MV->Option (List MV×List CV)
 |[],cs,tm=>some (tm,cs)
 |(n,a)::r,cs,tm=>match putAt base a cs with
  |some (x,cs')=>zOH base r cs' (tm.set n<|.v<|.at x)
  |none=>none
def putCells (base:Nat):List AT->List CV->Option (List At×List CV)
 |[],cs=>some ([],cs)
 |a::r,cs=>match putAt base a cs with
  |some (x,cs')=>match putCells base r cs' with
   |some (xs,cs'')=>some (x::xs,cs'')
   |none=>none
  |none=>none
def zOF (base:Nat):List (Nat×List AT)->List CV->Option (List (Nat×List At)×List CV)
 |[],cs=>some ([],cs)
 |(l,xa)::r,cs=>match putCells base xa cs with
  |some (xs,cs')=>match zOF base r cs' with
   |some (ls,cs'')=>some ((base+l,xs)::ls,cs'')
   |none=>none
  |none=>none
def zOG (base:Nat):List (Nat×Ty×Bool)->List CV->Option (List<|Nat×Root)
 |[],[]=>some []
 |(r,_,own)::rest,.s t l::cs=>match zOG base rest cs with
  |some ros=>some ((base+r,⟨t,l,own,none⟩)::ros)
  |none=>none
 |_,_=>none
def Tmpl.put (T:Tmpl)(base:Nat)(cs:List CV):Option St :=
 match zOH base T.tm cs (List.replicate T.n<|.v<|.at .bad) with
 |some (tm,cs')=>match zOF base T.lo cs' with
  |some (lo,cs'')=>match zOG base T.ro cs'' with
   |some ro=>some {tm,lo,ro,stk:=[],nid:=base+1000,ep:=0}
   |none=>none
  |none=>none
 |none=>none
def iter {σ ρ:Type}:Nat->((σ->Option ρ)->σ->Option ρ)->σ->Option ρ
 | 0,_,_=>none
 |n+1,F,s=>F (iter n F) s
inductive Ex where
 |normal
 |exit (id:Nat)
 |ret
abbrev Ans:=List AV
abbrev zgX:=FuncId->List MV->St->(List TV->St->Option Ans)->Option Ans
def guardOf (st:St)(ops:Array Oper)(j:Nat):Option MV :=
 match ops[j]? with
 |some o=>match o.dst with
  |some t=>st.tm[t]?
  |none=>none
 |none=>none
def zij (ops:Array Oper)(j:Nat):Option Tmp :=
 match ops[j]? with
 |some o=>o.dst
 |none=>none
def byName (C:Cfg)(x:Operand)(f:FuncId):Bool :=
 match x with
 |.func _=>(C.ctr f).isSome||(C.mct f).isSome||(C.pct f).isSome||(C.tct f).isSome
 |_=>false
def isIn (C:Cfg)(st:St)(o:Oper):Option (FuncId×List Nat×Array Operand):=
 match o.op with
 |.call {callee:=.value x,args,.. } =>
  match st.at x with
  |some (.fn f caps)=>cond (byName C x f) none (some (f,caps,args))
  |_=>none
 |_=>none
abbrev share {α β:Type}(x:α)(f:α->β):β:=f x
def zJb {β:Type}(a:At)(k:At->β):β :=
 match a with
 |.bad=>k .bad
 |.i c n=>k (.i c n)
 |.b x=>k (.b x)
 |.sl r p=>k (.sl r p)
 |.lp l o=>k (.lp l o)
 |.ep r p i o=>k (.ep r p i o)
 |.fn f c=>k (.fn f c)
 |.kp r J t=>k (.kp r J t)
def zTU {β:Type}(m:MV)(k:MV->β):β :=
 match m with
 |.und=>k .und
 |.v (.at a)=>zJb a λa=>k (.v<|.at a)
 |.v (.agg l)=>k (.v<|.agg l)
 |.tup l=>k (.tup l)
def zu1 {β:Type}:List MV->(List MV->β)->β
 |[],k=>k []
 |m::l,k=>zTU m λm=>zu1 l λl=>k (m::l)
def zoS {β:Type}(n:Nat)(k:Nat->β):β :=
 match n with
 | 0=>k 0
 |m+1=>k (m+1)
def zwo {β:Type}:List At->(List At->β)->β
 |[],k=>k []
 |a::l,k=>zJb a λa=>zwo l λl=>k (a::l)
def zAS {β:Type}:List (Nat×List At)->(List (Nat×List At)->β)->β
 |[],k=>k []
 |(n,cs)::l,k=>zoS n λn=>zwo cs λcs=>zAS l λl=>k ((n,cs)::l)
def zXy {β:Type}(b:Bool)(k:Bool->β):β :=
 match b with
 |true=>k true
 |false=>k false
def zTT {β:Type}(e:Option Nat)(k:Option Nat->β):β :=
 match e with
 |none=>k none
 |some n=>zoS n λn=>k (some n)
def zAT {β:Type}:List (Nat×Root)->(List (Nat×Root)->β)->β
 |[],k=>k []
 |(n,⟨t,x,own,ep⟩)::l,k=>zoS n λn=>zXy own λown=>zTT ep λep=>zAT l λl=>k ((n,⟨t,x,own,ep⟩)::l)
def St.forced (st:St)(k:St->Option Ans):Option Ans :=
 zu1 st.tm λtm=>zAS st.lo λlo=>zAT st.ro λro=>zoS st.nid λnid=>zoS st.ep λep=>k {tm,lo,ro,stk:=st.stk,nid,ep}
def St.shared (st:St)(k:St->Option Ans):Option Ans :=
 zu1 st.tm λtm=>
  match st.ro with
  |(r,R)::ro=>share R.l λl=>k {st with tm,ro:=(r,{R with l})::ro}
  |[]=>k {st with tm}
def wrote (o:Oper)(d:Dl)(st:St)(k:St->Option Ans):Option Ans :=
 match o.op,d.ro with
 |.store ..,[_]=>st.shared k
 |_,_=>k st
def step1 (C:Cfg)(base:Nat)(i:Nat)(o:Oper)(st:St)(k:St->Option Ans):Option Ans :=
 match delta C st o (base+32*i) with
 |some d=>cond d.c (wrote o d (st.apply o.dst d) k) none
 |none=>
  match graft C st o with
  |some (c,st')=>cond c ((st'.put o.dst .und).shared k) none
  |none=>
   match zOC C st o with
   |some (c,st',v)=>cond c ((st'.put o.dst v).shared k) none
   |none=>
    match zA2 C st o (base+32*i) with
    |some (c,st',v)=>cond c (k<|st'.put o.dst v) none
    |none=>
     match zOJ C st o (base+32*i) with
     |some (c,st',v)=>cond c (k<|st'.put o.dst v) none
     |none=>none
def guarded (ops:Array Oper)(o:Oper)(st:St)(run skip:St->Option Ans):Option Ans :=
 match o.guard with
 |none=>run st
 |some (j,want) =>
  match guardOf st ops j with
  |some .und=>skip (st.put o.dst .und)
  |some (.v<|.at<|.b x) =>
   cond x
    (match want with
     |true=>run (st.put (zij ops j)<|.v<|.at<|.b true)
     |false=>skip ((st.put (zij ops j)<|.v<|.at<|.b true).put o.dst .und))
    (match want with
     |true=>skip ((st.put (zij ops j)<|.v<|.at<|.b false).put o.dst .und)
     |false=>run (st.put (zij ops j)<|.v<|.at<|.b false))
  |_=>none
def znn (C:Cfg)(call:zgX)(ops:Array Oper)(base:Nat)(k:St->Option Ans):List Nat->St->Option Ans
 |[],st=>k st
 |i::rest,st=>
  match ops[i]? with
  |none=>none
  |some o=>
   guarded ops o st
    (λst=>
     match isIn C st o with
     |some (f,caps,args) =>
      match zcl (λx=>st.opnd x) args.toList with
      |some vs=>call f (vs++caps.map λl=>.v (.at<|.lp l 0)) st λrs st'=>znn C call ops base k rest (st'.put o.dst<|zhQ rs)
      |none=>none
     |none=>step1 C base i o st (znn C call ops base k rest))
    (znn C call ops base k rest)
def znA (o:Oper):List Nat :=
 o.op.operands.toList.filterMap λx=>match x with
  |.tmp t=>some t
  |_=>none
structure Foot where
 tm:List Nat
 ro:List Nat
 lo:List Nat
 dst:Option Nat
 wro:List Nat
 wlo:List Nat
def zrj (st:St)(o:Oper):List At:=(o.op.operands.toList.filterMap st.opnd).flatMap zbw
def zu6 (ops:Array Oper)(o:Oper):List Nat :=
 match o.guard with
 |some (j,_)=>(zij ops j).toList
 |none=>[]
def zfF (st:St)(ops:Array Oper)(o:Oper)(d:Dl):Foot :=
 {tm:=znA o++zu6 ops o,ro:=(zrj st o).flatMap zbh,lo:=(zrj st o).flatMap zbn,dst:=o.dst,wro:=d.ro.map (·.1),wlo:=d.lo.map (·.1)}
def zzi (st:St)(o:Oper):List Nat :=
 (zrj st o).flatMap λa=>match a with
  |.lp l _=>match zl st.lo l with
   |some cells=>cells.flatMap zbh
   |none=>[]
  |_=>[]
def ztu (o:Oper):Bool :=
 match o.op with
 |.move (.tmp _)=>true
 |_=>false
def zfg (C:Cfg)(st:St)(ops:Array Oper)(o:Oper)(d:Dl):Foot :=
 {zfF st ops o d with
  ro:=cond (ztu o) [] ((zfF st ops o d).ro++cond (zjm C o).isSome (zzi st o) [])
  lo:=cond (ztu o) [] (zfF st ops o d).lo}
def zkP (ops:Array Oper)(o:Oper):Foot :=
 {tm:=zu6 ops o,ro:=[],lo:=[],dst:=o.dst,wro:=[],wlo:=[]}
def zy7 (a b:List Nat):Bool:=a.all λx=>!b.contains x
def Foot.apart (x y:Foot):Bool :=
 (match x.dst with
  |some d=>!y.tm.contains d && !(y.dst==some d)
  |none=>true) &&
 (match y.dst with
  |some d=>!x.tm.contains d
  |none=>true) &&
 zy7 x.wro (y.ro++y.wro)&&zy7 y.wro x.ro&&zy7 x.wlo (y.lo++y.wlo)&&zy7 y.wlo x.lo
def zmE (s:List Nat)(x:Nat):Bool:=s.any λy=>Nat.beq x y
def addN (l s:List Nat):List Nat:=l.foldr (λx s=>cond (zmE s x) s (x::s)) s
def waits (ops:Array Oper)(acc:List (List Nat))(i:Nat):List Nat :=
 match ops[i]? with
 |some o=>o.after.toList.foldr (λe s=>cond (Region.binds .any e) (cond (zmE s e.on) s<|addN (acc.getD e.on []) (e.on::s)) s) []
 |none=>[]
def zh2 (ops:Array Oper):List Nat->List (List Nat)->List (List Nat)
 |[],acc=>acc
 |i::r,acc=>zh2 ops r (acc++[waits ops acc i])
def zXB (cl:List (List Nat))(m:Nat):Bool:=(List.range m).all λj=>(cl.getD m []).contains j
def pinned (n:Nat)(cl:List (List Nat))(m:Nat):Bool:=zXB cl m&&(List.range' (m+1)<|n-(m+1)).all λk=>(cl.getD k []).contains m
def zhI (n:Nat)(cl:List (List Nat)):List Bool:=(List.range n).map (pinned n cl)
def zcf:List Bool->Nat
 |false::r=>zcf r+1
 |_=>0
def zK2 (md:Region.Mode)(ops:Array Oper)(rk:Nat->Nat):Bool :=
 (List.range ops.size).all λi=>match ops[i]? with
  |some o=>o.after.toList.all λe=>!Region.binds md e||(Nat.blt e.on ops.size&&Nat.blt (rk e.on) (rk i))
  |none=>true
def z2j:List Nat->Nat->Nat
 |[],_=>0
 |a::r,i=>cond (Nat.beq a i) 0 (z2j r i+1)
def zXr (ops:Array Oper)(cl:List (List Nat)):Bool :=
 cond (Region.departs ops) (zK2 .text ops (λi=>i)&&zK2 .gc ops (z2j<|Region.linearise .gc ops 0)) true &&
 (List.range ops.size).all (λi=>(cl.getD i []).all λj=>decide (j<i))
def zmW (cl:List (List Nat))(fs:List (Nat×Foot)):Bool :=
 fs.all λx=>fs.all λy=>!(decide (x.1<y.1))||(cl.getD y.1 []).contains x.1||x.2.apart y.2
def zKW (ops:Array Oper)(i:Nat):Bool :=
 match ops[i]? with
 |some o=>match o.op with
  |.store .. | .buildSlice ..=>true
  |.slice _ _ (some _) none none=>true
  |.call c=>match c.callee with
   |.builtin .append=>true
   |_=>false
  |_=>false
 |none=>false
def zPQ (o:Oper):Bool :=
 match o.op with
 |.slice _ _ none (some _) none=>true
 |_=>false
def zkx (C:Cfg)(ops:Array Oper)(i:Nat):Bool :=
 zKW ops i||(match ops[i]? with|some o=>(zjm C o).isSome||(zAW C&&zPQ o)|none=>false)
def zfB (b:Bool)(R:Root):Root :=
 match b,R.ep with
 |true,some _=>{R with ep:=some 0}
 |_,_=>R
def St.effD (st:St)(b:Bool)(dst:Option Tmp)(d:Dl):St :=
 {st with lo:=d.lo++st.lo,ro:=d.ro.map (λ(x:Nat×Root)=>(x.1,zfB b x.2))++st.ro}.put dst d.v
structure App where
 dst:Nat
 r:Nat
 p:List (Int×Nat)
 t:Ty
 l:List t.den
def zps (C:Cfg)(st:St)(o:Oper):Option (Bool×App):=
 match o.op,o.dst,o.guard with
 |.call c,some d,none=>
  match c.callee with
  |.builtin .append=>
   match c.args.toList,c.argTypes.toList with
   |[x,y],[T,T2] =>
    if T2=T then
    match C.sty T,st.at x,st.at y with
    |some t,some (.sl r (a::p)),some (.sl r2 p2) =>
     match st.root r,st.node r (a::p),st.node r2 p2 with
     |some R,some cv1,some cv2=>
      if R.own&&t.flat && !(r==r2) then
       match zv4 t cv1 cv2,cv2 with
       |some m,.s _ (_::_)=>some (few<|ln m,⟨d,r,a::p,t,m⟩)
       |_,_=>none
      else none
     |_,_,_=>none
    |_,_,_=>none
    else none
   |_,_=>none
  |_=>none
 |_,_,_=>none
def zqn (o:Oper):Bool :=
 o.guard.isNone&&match o.op with
 |.move (.tmp _) | .load .. | .fieldAddr .. | .indexAddr .. | .nilCheck ..=>true
 |_=>false
def zzL (ops:Array Oper)(cl:List (List Nat))(m a:Nat):Bool :=
 (List.range' m<|a-m).all λj=>(cl.getD a []).contains j||(match ops[j]? with|some o=>zqn o|none=>false)
def zAH:Dl:={v:=.v (.at .bad)}
def sameAt:At->At->Bool
 |.i k n,.i k' n'=>cond (decide (k=k')) (ieq n n') false
 |.b x,.b y=>znj x y
 |.sl r p,.sl r' p'=>cond (Nat.beq r r') (ziF p p') false
 |.ep r p i o,.ep r' p' i' o'=>cond (Nat.beq r r'&&Nat.beq o o') (ieq i i'&&ziF p p') false
 |.lp l o,.lp l' o'=>Nat.beq l l'&&Nat.beq o o'
 |.fn f c,.fn f' c'=>Nat.beq f f'&&c==c'
 |_,_=>false
def zUo:List At->List At->Bool
 |[],[]=>true
 |a::r,b::s=>sameAt a b&&zUo r s
 |_,_=>false
def z5e:MV->MV->Bool
 |.v (.at a),.v (.at b)=>sameAt a b
 |.v (.agg l),.v (.agg m)=>zUo l m
 |_,_=>false
def zVN (cl:List (List Nat))(m a:Nat):List Nat:=(List.range' m<|a-m).filter λj=>!(cl.getD a []).contains j
def zP6 (ops:Array Oper)(cl:List (List Nat))(js:List Nat)(o:Oper):Bool :=
 js.all λj=>match ops[j]? with
  |some p=>match p.dst with
   |some t=>!(znA o).contains t&&js.all λi=>match ops[i]? with
    |some q=>(!(znA q).contains t||(cl.getD i []).contains j)&&(i==j || !(q.dst==some t))
    |none=>false
   |none=>false
  |none=>false
def zT5 (_:Oper):Bool:=false
def zP7 (C:Cfg)(ops:Array Oper)(base:Nat)(k:St->Option Ans):List Nat->St->Option Ans
 |[],st=>k st
 |j::r,st=>
  match ops[j]? with
  |some o=>match delta C st o (base+32*j),o.dst with
   |some d,some t=>match st.tm[t]? with
    |some m=>cond (d.c&&z5e d.v m) (zP7 C ops base k r st) none
    |none=>none
   |_,_=>none
  |none=>none
def zrE (C:Cfg)(ops:Array Oper)(cl:List (List Nat))(b:Bool)(base m:Nat)(k:St->Option Ans)(kl:App->St->Option Ans)(kc:Nat->St->Option Ans):List Nat->List (Nat×Foot)->St->Option Ans
 |[],fs,st=>if zmW cl fs then k st else none
 |i::rest,fs,st=>
  match ops[i]? with
  |none=>none
  |some o=>
   guarded ops o st
    (λst' =>
     match zjC C st' o (base+32*i) with
     |some d=>cond d.c (zrE C ops cl b base m k kl kc rest ((i,zfg C st' ops o d)::fs)<|st'.effD b o.dst d) none
     |none=>
      match rest,zps C st' o with
      |[],some (c,x)=>if b&&zzL ops cl m i&&decide (x.dst<st'.tm.length)&&zmW cl ((i,zfF st' ops o zAH)::fs) then cond c (kl x<|st'.put o.dst<|.v<|.at .bad) none else none
      |[],none=>if zT5 o&&zzL ops cl m i&&zP6 ops cl (zVN cl m i) o&&zmW cl fs then kc i st' else none
      |_,_=>none)
    (λst'=>zrE C ops cl b base m k kl kc rest ((i,zkP ops o)::fs) st')
def zzM (C:Cfg)(st:St)(o:Oper)(x:App):Option (Bool×St):=
 match o.op,o.guard with
 |.store T a (.tmp d),none=>
  match C.cty T,st.at a with
  |some (false,[.s t1]),some (.ep r p i off) =>
   match st.root r,st.node r p,zmR (p++[(i,off)]) x.p with
   |some R,some (.s t l),some c=>
    if R.own&&Nat.beq d x.dst&&Nat.beq r x.r&&decide (off<t.width) then
     match setRow t l i off [.s x.t x.l] with
     |some l'=>match zo2 R.t R.l p (.s t l') with
      |some m=>some (c,zhP st r R m [cols p++[off]])
      |none=>none
     |none=>none
    else none
   |_,_,_=>none
  |_,_=>none
 |_,_=>none
def zoW (C:Cfg)(ops:Array Oper)(base:Nat)(x:App)(k:Nat->List Bool->St->Option Ans):List Bool->Nat->St->Option Ans
 |true::r,m,st=>
  match ops[m]? with
  |none=>none
  |some o=>
   match zzM C st o x with
   |some (c,st')=>cond c ((st'.put o.dst .und).shared (k (m+1) r)) none
   |none=>
    if zqn o && !(o.dst==some x.dst) then
     match delta C st o (base+32*m) with
     |some d=>cond d.c (zoW C ops base x k r (m+1)<|st.apply o.dst d) none
     |none=>none
    else none
 |_,_,_=>none
def zjP (C:Cfg)(call:zgX)(ops:Array Oper)(cl:List (List Nat))(base:Nat)(k:St->Option Ans):Nat->Nat->List Bool->St->Option Ans
 | 0,_,_,_=>none
 |fuel+1,m,pins,st=>
  match pins with
  |[]=>k st
  |true::r=>znn C call ops base (λst'=>zjP C call ops cl base k fuel (m+1) r st') [m] st
  |false::r=>
   let n:=zcf r+1
   let b:=(List.range' m n).any (zkx C ops)
   zrE C ops cl b base m (λst'=>zjP C call ops cl base k fuel (m+n) (r.drop<|zcf r) st')
    (λx st'=>zoW C ops base x (λm' r' st''=>zjP C call ops cl base k fuel m' r' st'') (r.drop<|zcf r) (m+n) st')
    (λi st'=>znn C call ops base (zP7 C ops base (λst''=>zjP C call ops cl base k fuel (m+n) (r.drop<|zcf r) st'')<|zVN cl m i) [i] st')
    (List.range' m n) [] {st with ep:=if b then st.ep+1 else st.ep}
def zDU (C:Cfg)(call:zgX)(ops:Array Oper)(k:St->Option Ans)(st:St):Option Ans :=
 let cl:=zh2 ops (List.range ops.size) []
 if zXr ops cl then zjP C call ops cl st.nid k (ops.size+1) 0 (zhI ops.size cl) {st with nid:=st.nid+32*ops.size} else none
def zkm:Code->Nat
 |.seq a b=>zkm a+zkm b+1
 |.cond _ a b=>zkm a+zkm b+1
 |.block _ a=>zkm a+1
 |.loop a=>zkm a+1
 |_=>1
def zTV:Code->Bool
 |.cond _ _ _=>true
 |.seq _ b=>zTV b
 |_=>false
def zT7 (a b:Code):Nat:=1000000+1000*zkm a+zkm b
def z5W (T:Tmpl)(st:St):Bool :=
 T.tm.all λx=>match x.2,st.tm[x.1]? with
  |.lp _ o,some (.v<|.at<|.lp _ o')=>Nat.beq o o'
  |_,_=>true
def z5C (tm:Nat->Option Tmpl)(st:St)(a b:Code):Option Tmpl :=
 match tm 999999 with
 |some _=>match zTV a with
  |true=>match tm (zT7 a b) with
   |some T=>cond (z5W T st) (some T) (tm<|1000000000+zT7 a b)
   |none=>none
  |false=>none
 |none=>none
def z4R:List (List MV)->Nat
 |[.v<|.at<|.kp r _ _]::_=>r
 |_=>0
def zKl (T:Tmpl)(st:St):List (List MV):=zrG ⟨[(T.kr,z4R st.stk)],[]⟩ st.nid st.stk
def z1T (T:Tmpl)(nid:Nat)(stk:List (List MV))(k:St->Option Ans)(s:Dat T.sig):Option Ans :=
 match T.put nid (packs T.sig s) with
 |none=>none
 |some st1=>k {st1 with stk:=stk}
def z1S (T:Tmpl)(nid:Nat)(stk:List (List MV))(st:St)(κ:Dat T.sig->Option Ans):Option Ans :=
 match T.takeB st with
 |none=>none
 |some (B,cs)=>match unpack T.sig cs with
  |none=>none
  |some s=>cond (zgD B nid st.stk stk) (κ s) none
def zhC (C:Cfg)(tm:Nat->Option Tmpl)(N:Nat)(call:zgX):Code->St->(Ex->St->Option Ans)->Option Ans
 |.skip,st,k=>k .normal st
 |.region _ ops false,st,k=>
  st.forced λst=>znn C call ops st.nid (λst'=>k .normal st') (List.range ops.size) {st with nid:=st.nid+32*ops.size}
 |.region _ ops true,st,k=>
  st.forced λst=>zDU C call ops (λst'=>k .normal st') st
 |.seq a b,st,k=>
  match z5C tm st a b with
  |none=>zhC C tm N call a st λe st'=>match e with
   |.normal=>zhC C tm N call b st' k
   |e=>k e st'
  |some T=>
   share (z1T T st.nid (zKl T st) λst1=>zhC C tm N call b st1 k) λκ=>zhC C tm N call a st λe st'=>match e with
    |.normal=>z1S T st.nid (zKl T st) st' κ
    |e=>k e st'
 |.cond c a b,st,k=>
  match st.at c with
  |some (.b x)=>cond x (zhC C tm N call a st k) (zhC C tm N call b st k)
  |_=>none
 |.block id (.loop body),st,k=>
  match tm id with
  |none=>none
  |some T=>
   match T.takeB st with
   |none=>none
   |some (B0,cs) =>
    match unpack T.sig cs with
    |none=>none
    |some s0=>
     cond (zgD B0 st.nid st.stk<|zrG B0 st.nid st.stk)
     (iter N (λrec s=>
      match T.put st.nid (packs T.sig s) with
      |none=>none
      |some st1=>zhC C tm N call body {st1 with stk:=zrG B0 st.nid st.stk} λe st'=>match e with
       |.normal=>match T.takeB st' with
        |none=>none
        |some (B',cs')=>match unpack T.sig cs' with
         |none=>none
         |some s'=>cond (zgD B' st.nid st'.stk<|zrG B0 st.nid st.stk) (rec s') none
       |.exit id'=>if id'==id then k .normal st' else k (.exit id') st'
       |.ret=>k .ret st') s0) none
 |.block id body,st,k=>zhC C tm N call body st λe st'=>match e with
  |.exit id'=>if id'==id then k .normal st' else k (.exit id') st'
  |e=>k e st'
 |.exit id,st,k=>k (.exit id) st
 |.ret,st,k=>k .ret st
 |_,_,_=>none
def zi5 (C:Cfg)(st:St):List ResultVar->Option (List TV)
 |[]=>some []
 |.tmp t::r=>
  match st.tm[t]?,zi5 C st r with
  |some (.v x),some xs=>some (x::xs)
  |_,_=>none
 |.cell t T::r=>
  match st.at (.tmp t),C.cty T,zi5 C st r with
  |some (.lp l off),some (agg,tys),some xs=>match zl st.lo l with
   |some cs=>
    if agg then (if off+tys.length<=cs.length then some (.agg ((cs.drop off).take tys.length)::xs) else none)
    else match cs[off]? with
     |some a=>some (.at a::xs)
     |none=>none
   |none=>none
  |_,_,_=>none
def ztb (C:Cfg)(tms:FuncId->Nat->Option Tmpl)(N:Nat)(call:zgX)(f:FuncId)(vs:List MV)(st:St)(k:List TV->St->Option Ans):Option Ans :=
 match C.P.funcs[f]? with
 |some fn=>
  match fn.body with
  |some body=>
   zhC C (tms f) N call body {st with tm:=vs++List.replicate (fn.ntmps-vs.length) .und,stk:=st.tm::st.stk} λe st' =>
    match e with
    |.exit _=>none
    |_=>match zi5 C st' fn.results.toList,st'.stk with
     |some rs,tm::stk=>k rs {st' with tm,stk}
     |_,_=>none
  |none=>none
 |none=>none
def zU5 (f:FuncId)(vs:List MV)(st:St)(k:List TV->St->Option Ans)(run:List AV->Option (Bool×List AV)):Option Ans :=
 match zcl st.avOf vs with
 |some avs=>
  match run avs with
  |some (c,rs)=>if (rs.flatMap AV.cvs).length<=31 then cond c (k (zcI rs st.nid) {st with ro:=zcL (zcC f) rs st.nid++st.ro,nid:=st.nid+32}) none else none
  |none=>none
 |none=>none
def zp6 (C:Cfg)(tms:FuncId->Nat->Option Tmpl)(N:Nat):Nat->zgX
 | 0=>λ_ _ _ _=>none
 |d+1=>λf vs st k=>
  match C.ctr f with
  |some run=>zU5 f vs st k run
  |none=>ztb C tms N (zp6 C tms N d) f vs st k
def zpr (st:St):List TV->List Nat->Option Ans
 |[],_=>some []
 |.at a::r,seen=>
  match st.give none [a] 0 with
  |some (true,[c],ks)=>if ks.all (λk=>!seen.contains k) then match zpr st r (ks++seen) with
   |some xa=>some (.one c::xa)
   |none=>none
   else none
  |_=>none
 |.agg l::r,seen=>
  match st.give none l 0 with
  |some (true,cs,ks)=>if ks.all (λk=>!seen.contains k) then match zpr st r (ks++seen) with
   |some xa=>some (.agg cs::xa)
   |none=>none
   else none
  |_=>none
def zA8 (R:Root):Root:=cond (zAZ R.t&&R.ep.isNone) {R with own:=true} R
def St.thaw (st:St)(nf:Bool):St:=cond nf {st with ro:=st.ro.map λx=>(x.1,zA8 x.2)} st
def zoR (args:List AV):Bool:=(args.flatMap AV.cvs).all λc=>match c with | .s t _=>t.flat|_=>true
def evalFn (C:Cfg)(tms:FuncId->Nat->Option Tmpl)(N D:Nat)(f:FuncId)(args:List AV):Option Ans :=
 cond (zhR f && !(zoR args)) none
 (ztb C tms N (zp6 C tms N D) f ((zcI args 0).map .v) {tm:=[],lo:=[],ro:=zcL zsi args 0,stk:=[],nid:=(args.flatMap AV.cvs).length,ep:=0} λrs st=>zpr (st.thaw<|zhR f) rs [])
def zOL:List (Nat×Ty):=[
 (3,.int),
 (76,.slot),
 (181,.ins),
 (111,.guest),
 (61,.mon),
 (131,.entry),
 (127,.kept),
 (43,.act),
 (39,.told),
 (70,.bare),
 (4,.bool),
 (5,.u8),
 (52,.sl .int),
 (107,.sl .ins),
 (67,.sl<|.sl .ins),
 (100000,.int)]
def zAN:List Nat:=[
 76,
 181,
 131,
 43,
 39,
 80,
 109,
 100000]
def zcu (P:Program):Nat->TypeId->Option (Bool×List CTy)
 | 0,_=>none
 |n+1,T=>
  match P.underlying T with
  |some (.int k)=>some (false,[.i k])
  |some .bool=>some (false,[.b])
  |some (.slice e)=>match zl zOL e with
   |some t=>some (false,[.s t])
   |none=>none
  |some (.struct fs)=>match zcl (λ(f:Field)=>match zcu P n f.type with|some x=>some x.2|none=>none) fs.toList with
   |some l=>some (true,l.flatten)
   |none=>none
  |_=>none
def ztX (P:Program)(T:TypeId):Option Ty :=
 match P.underlying T with
 |some (.slice e)=>zl zOL e
 |_=>none
def zr4 (P:Program)(T:TypeId)(f:Nat):Option (Nat×Nat):=
 match P.underlying T with
 |some (.struct fs)=>match fs[f]? with
  |some x=>match P.info? x.type with
   |some i=>if i.size=0 then none else some (x.offset,i.size)
   |none=>none
  |none=>none
 |_=>none
def zgq:Nat:=700
def below {α:Type}(T:Nat)(x:Option α):Option α:=cond (Nat.blt T zgq) x none
noncomputable def zlF (ctr:FuncId->Option (List AV->Option (Bool×List AV)))(mct:FuncId->Option (CV->Int->Option (Bool×CV×Int)))(pct:FuncId->Option (List Bool×(List CV->List AV->Option (Bool×List CV×List AV))))(tct:FuncId->Option (List Bool×Option (Nat×Nat×List (List Nat))×(List AV->Option (Bool×List AV)))):Cfg where
 P:=Tryz.prog
 sty T:=below T (ztX Tryz.prog T)
 cty T:=below T (zcu Tryz.prog 4 T)
 fof T f:=zr4 Tryz.prog T f
 eqt T:=zAN.contains T
 ctr:=ctr
 mct:=mct
 pct:=pct
 tct:=tct
abbrev zT:=Nat->Prop
def big:Nat:=140737488355328
theorem zc8 (t:Ty)(x:t.den):(t.cells x).length=t.width:=by cases t<;>rfl
theorem zeU (t:Ty):t.shape.length=t.width:=by cases t<;>rfl
theorem zDE (t:Ty)(x:t.den):(t.cells x).map CV.ty=t.shape:=by cases t<;>rfl
theorem zjG {t:Ty}{cs:List CV}{x:t.den}(h:t.ofCells cs=some x):t.cells x=cs:=by
 cases t<;>simp only [Ty.ofCells]at h<;>split at h<;>first
  |(cases h;rfl)
  | (split at h
     .rename_i hh;cases hh;cases h;rfl
     .cases h)
  |cases h
inductive Rep (o:Bool) (w:World):Value->CV->zT->Prop
 |i (k:IntKind) (n:Int) (S:zT):Rep o w (.int k n) (.i k n) S
 |b (x:Bool) (S:zT):Rep o w (.bool x) (.b x) S
 |nil (t:Ty) (S:zT):Rep o w (.slice none 0 0) (.s t []) S
 |void (t:Ty) (a:Addr) (S:zT) (ho:o=false):Rep o w (.slice (some a) 0 0) (.s t []) S
 |sl (t:Ty) (l:List t.den) (b off cap:Nat) (arr:Array Value) (e:TypeId) (fz:Nat×Nat) (V:Nat->Nat->Value) (K:Nat->Nat->zT) (S:zT)
  (hb:w.heap[b]?=some (.cells arr e fz)) (hfz:o=true->fz=(0,0))
  (hlen:l.length<=big) (hcap:l.length<=cap) (hsz:off+cap*t.width<=arr.size)
  (hS:S b) (hsub:∀i j x,i<l.length->j<t.width->K i j x->S x/\(o=true->x≠b))
  (hdis:o=true->∀i j i' j' x,i<l.length->j<t.width->i'<l.length->j'<t.width->K i j x->K i' j' x->i=i'/\j=j')
  (hv:∀i j,i<l.length->j<t.width->arr[off+i*t.width+j]?=some (V i j))
  (hc:∀i x,l[i]?=some x->∀j c,(t.cells x)[j]?=some c->Rep o w (V i j) c (K i j)) :
  Rep o w (.slice (some ⟨b,off,none⟩) l.length cap) (.s t l) S
theorem Rep.frame {o:Bool}{w w':World}{v:Value}{c:CV}{S:zT}(h:Rep o w v c S)(hf:∀x,S x->w'.heap[x]?=w.heap[x]?):Rep o w' v c S:=by induction h with|i k n S=>exact .i k n S|b x S=>exact .b x S|nil t S=>exact .nil t S|void t a S ho=>exact .void t a S ho|sl t l b off cap arr e fz V K S hb hfz hlen hcap hsz hS hsub hdis hv hc ih=>refine .sl t l b off cap arr e fz V K S ((hf b hS).trans hb) hfz hlen hcap hsz hS hsub hdis hv ?_;intro i x hx j c hcj;have hi:i<l.length:=(qA.1 hx).1;have hj:j<t.width:=(by have:=(qA.1 hcj).1;rw[zc8] at this;exact this);exact ih i x hx j c hcj (λy hy=>hf y (hsub i j y hi hj hy).1)
theorem Rep.weak {o:Bool}{w:World}{v:Value}{c:CV}{S S':zT}(h:Rep o w v c S)(hs:∀x,S x->S' x):Rep o w v c S':=by cases h with|i k n=>exact .i k n S'|b x=>exact .b x S'|nil t=>exact .nil t S'|void t a _ ho=>exact .void t a S' ho|sl t l b off cap arr e fz V K _ hb hfz hlen hcap hsz hS hsub hdis hv hc=>exact .sl t l b off cap arr e fz V K S' hb hfz hlen hcap hsz (hs _ hS) (λi j x hi hj hk=>⟨hs _ (hsub i j x hi hj hk).1,(hsub i j x hi hj hk).2⟩) hdis hv hc
theorem Rep.ro {o:Bool}{w:World}{v:Value}{c:CV}{S:zT}(h:Rep o w v c S):Rep false w v c S:=by induction h with|i k n S=>exact .i k n S|b x S=>exact .b x S|nil t S=>exact .nil t S|void t a S ho=>exact .void t a S rfl|sl t l b off cap arr e fz V K S hb hfz hlen hcap hsz hS hsub hdis hv hc ih=>exact .sl t l b off cap arr e fz V K S hb (λh=>by cases h) hlen hcap hsz hS (λi j x hi hj hk=>⟨(hsub i j x hi hj hk).1,λh=>by cases h⟩) (λh=>by cases h) hv ih
theorem Rep.len {o:Bool}{w:World}{v:Value}{t:Ty}{l:List t.den}{S:zT}(h:Rep o w v (.s t l) S) :
 (∃a cap,v = .slice a l.length cap/\l.length<=cap)/\l.length<=big:=by
 cases h with
 |nil=>exact⟨⟨none,0,rfl,qX _⟩,jS _⟩
 |void t a _ ho=>exact⟨⟨some a,0,rfl,qX _⟩,jS _⟩
 |sl _ _ b off cap arr e fz V K _ hb hfz hlen hcap=>exact⟨⟨_,cap,rfl,hcap⟩,hlen⟩
theorem Rep.int_inv {o:Bool}{w:World}{v:Value}{k:IntKind}{n:Int}{S:zT}(h:Rep o w v (.i k n) S):v = .int k n:=by cases h;rfl
theorem Rep.bool_inv {o:Bool}{w:World}{v:Value}{x:Bool}{S:zT}(h:Rep o w v (.b x) S):v = .bool x:=by cases h;rfl
def zQ (w:World):Ty->Value->List (Int×Nat)->Option Value
 |_,v,[]=>some v
 |t,.slice (some a) len _,(i,j)::p=>
  if 0<=i/\i.toNat<len then
   match t.shape[j]? with
   |some (.s t')=>match w.cell? ⟨a.block,a.off+i.toNat*t.width+j,none⟩ with
    |some v'=>zQ w t' v' p
    |none=>none
   |_=>none
  else none
 |_,_,_=>none
def zuI:Ty->List (Int×Nat)->Option Ty
 |t,[]=>some t
 |t,(_,j)::p=>match t.shape[j]? with
  |some (.s t')=>zuI t' p
  |_=>none
theorem zE5 {t:Ty}{x:t.den}{j:Nat}{c:CV}(h:(t.cells x)[j]?=some c):t.shape[j]?=some c.ty:=by have:=zDE t x;rw[<- this,qO,h];rfl
theorem zw5 {t:Ty}{x:t.den}{j:Nat}{ct:CTy}(h:t.shape[j]?=some ct):∃c,(t.cells x)[j]?=some c/\c.ty=ct:=by have h2:=zDE t x;rw[<- h2,qO]at h;cases hc:(t.cells x)[j]? with|none=>rw[hc]at h;cases h|some c=>rw[hc]at h;exact⟨c,rfl,by simpa using h⟩
theorem zk5 {c:CV}{t:Ty}(h:c.ty = .s t):∃l:List t.den,c = .s t l:=by cases c with|i k n=>cases h|b x=>cases h|s t' l=>cases h;exact⟨l,rfl⟩
theorem cell_of_block {w:World}{b o:Nat}{arr:Array Value}{e:TypeId}{fz:Nat×Nat}(hb:w.heap[b]?=some (.cells arr e fz)):w.cell? ⟨b,o,none⟩=arr[o]?:=by simp[World.cell?,hb]
theorem zlc {α:Type}{l:List α}{i:Int}{d:α}(h:i.toNat<l.length):l[i.toNat]?=some (ix l i d):=by simp[ix,List.getD,qB h]
theorem Rep.at {o:Bool}{w:World}:∀(p:List (Int×Nat)) {v v':Value} {t:Ty} {l:List t.den} {S:zT},Rep o w v (.s t l) S->zQ w t v p=some v'->
 ∃(t':Ty) (l':List t'.den) (S':zT),zg3 t l p=some (.s t' l')/\zuI t p=some t'/\Rep o w v' (.s t' l') S'/\∀x,S' x->S x:=by
 intro p
 induction p with
 |nil=>intro v v' t l S h hh;simp only[zQ,qC]at hh;subst hh;exact⟨t,l,S,rfl,rfl,h,λ_ hx=>hx⟩
 |cons ij p ih=>obtain⟨i,j⟩:=ij;intro v v' t l S h hh;cases h with|nil=>simp[zQ]at hh|void=>simp[zQ]at hh|sl _ _ b off cap arr e fz V K _ hb hfz hlen hcap hsz hS hsub hdis hv hc=>simp only[zQ]at hh;split at hh;{rename_i hi;split at hh;{rename_i t' hsh;rw[cell_of_block hb]at hh;have hj:j<t.width:=(by rw[<- zeU];exact(qA.1 hsh).1);rw[hv i.toNat j hi.2 hj]at hh;simp only at hh;obtain⟨c,hcj,hct⟩:=zw5 (x:=ix l i t.dflt) hsh;obtain⟨l',rfl⟩:=zk5 hct;have hr:=hc i.toNat _ (zlc hi.2) j _ hcj;obtain⟨t2,l2,S2,h1,h2,h3,h4⟩:=ih hr hh;refine⟨t2,l2,S2,?_,?_,h3,λx hx=>(hsub i.toNat j x hi.2 hj<|h4 x hx).1⟩;{simp only [zg3,hcj,h1]};{simp only [zuI,hsh,h2]}};{cases hh}};{cases hh}
theorem zda {o:Bool}{w w':World}:∀(p:List (Int×Nat)) {v:Value} {t:Ty} {l:List t.den} {S:zT},Rep o w v (.s t l) S->(∀x,S x->w'.heap[x]?=w.heap[x]?)->zQ w' t v p=zQ w t v p:=by intro p;induction p with|nil=>intro v t l S _ _;rfl|cons ij p ih=>obtain⟨i,j⟩:=ij;intro v t l S h hf;(cases h with|nil=>rfl|void=>simp[zQ]|sl _ _ b off cap arr e fz V K _ hb hfz hlen hcap hsz hS hsub hdis hv hc=>simp only[zQ];split;{rename_i hi;split;{rename_i t' hsh;rw[cell_of_block hb,cell_of_block<|(hf b hS).trans hb];have hj:j<t.width:=(by rw[<- zeU];exact(qA.1 hsh).1);rw[hv i.toNat j hi.2 hj];simp only;obtain⟨c,hcj,hct⟩:=zw5 (x:=ix l i t.dflt) hsh;obtain⟨l',rfl⟩:=zk5 hct;exact ih (hc i.toNat _ (zlc hi.2) j _ hcj) (λx hx=>hf x (hsub i.toNat j x hi.2 hj hx).1)};{rfl}};{rfl})
theorem zZX {cs:List CV}{k:IntKind}{r:List CTy}(h:cs.map CV.ty = .i k::r):∃n cs',cs = .i k n::cs'/\cs'.map CV.ty=r:=by cases cs with|nil=>cases h|cons c cs=>simp only[q0,List.cons.injEq]at h;(cases c with|i k' n=>obtain⟨h1,h2⟩:=h;cases h1;exact⟨n,cs,rfl,h2⟩|b x=>cases h.1|s t l=>cases h.1)
theorem zZW {cs:List CV}{r:List CTy}(h:cs.map CV.ty = .b::r):∃x cs',cs = .b x::cs'/\cs'.map CV.ty=r:=by cases cs with|nil=>cases h|cons c cs=>simp only[q0,List.cons.injEq]at h;(cases c with|i k' n=>cases h.1|b x=>exact⟨x,cs,rfl,h.2⟩|s t l=>cases h.1)
theorem zZY {cs:List CV}{t:Ty}{r:List CTy}(h:cs.map CV.ty = .s t::r):∃(l:List t.den) (cs':List CV),cs = .s t l::cs'/\cs'.map CV.ty=r:=by cases cs with|nil=>cases h|cons c cs=>simp only[q0,List.cons.injEq]at h;(cases c with|i k' n=>cases h.1|b x=>cases h.1|s t' l=>obtain⟨h1,h2⟩:=h;cases h1;exact⟨l,cs,rfl,h2⟩)
theorem zH2:∀{t:Ty} {cs:List CV},cs.map CV.ty=t.shape->∃x,t.ofCells cs=some x:=by
 intro t cs h;cases t<;>simp only [Ty.shape]at h <;>
  (repeat (first
   |(obtain⟨n,cs',h1,h2⟩:=zZX h;subst h1;clear h;rename _=>h)
   |(obtain⟨n,cs',h1,h2⟩:=zZW h;subst h1;clear h;rename _=>h)
   |(obtain⟨n,cs',h1,h2⟩:=zZY h;subst h1;clear h;rename _=>h))) <;>
  (cases (List.map_eq_nil_iff.1 h);first|exact⟨_,rfl⟩|exact⟨_,dif_pos rfl⟩)
theorem zid {α:Type}(l:List α)(off:Nat)(new:List α)(h:off+new.length<=l.length):(splice l off new).length=l.length:=by simp[splice];omega
theorem zeV {α:Type}(l:List α)(off:Nat)(new:List α)(h:off+new.length<=l.length)(j:Nat)(h1:off<=j)(h2:j<off+new.length):(splice l off new)[j]?=new[j-off]?:=by unfold splice;rw[j5,qP (by simp;omega),qT (by simp;omega)];congr 1;simp;omega
theorem zeK {α:Type}(l:List α)(off:Nat)(new:List α)(h:off+new.length<=l.length)(j:Nat)(h1:j<off\/off+new.length<=j):(splice l off new)[j]?=l[j]?:=by unfold splice;rcases h1 with h1|h1;{rw [j5,qT (by simp;omega),jJ];simp[h1]};{rw [j5,qP (by simp;omega),qP (by simp;omega),jM];congr 1;simp;omega}
theorem zWz {α β:Type}(f:α->β)(l:List α)(off:Nat)(new:List α):(splice l off new).map f=splice (l.map f) off (new.map f):=by simp[splice,List.map_take,List.map_drop]
theorem zDp {α:Type}(l:List α)(off:Nat)(new:List α)(h:off+new.length<=l.length)(hs:∀k,k<new.length->l[off+k]?=new[k]?):splice l off new=l:=by apply k5;intro j;by_cases h1:off<=j/\j<off+new.length;{rw [zeV l off new h j h1.1 h1.2,<- hs (j-off) (by omega)];congr 1;omega};{rw [zeK l off new h j (by omega)]}
theorem z2m {α:Type}{l:List α}{i:Int}{x:α}{k:Nat}(h:k<l.length):(up l i x)[k]?=if i.toNat=k then some x else l[k]?:=by unfold up;rw[jD];split;{rename_i h1;subst h1;simp[h]};{rfl}
theorem zgZ {α:Type}(l:List α)(i:Int)(x:α):(up l i x).length=l.length:=by simp[up]
theorem Rep.focus {w:World}:∀(p:List (Int×Nat)) {v v':Value} {t:Ty} {l:List t.den} {S:zT},Rep true w v (.s t l) S->zQ w t v p=some v'->
 ∃(t':Ty) (l':List t'.den) (S1:zT),zg3 t l p=some (.s t' l')/\zuI t p=some t'/\Rep true w v' (.s t' l') S1/\(∀x,S1 x->S x)/\
  ∀(w':World) (l2:List t'.den) (S2:zT),(∀x,S x->¬ S1 x->w'.heap[x]?=w.heap[x]?)->(∀x,S2 x->S x->S1 x)->Rep true w' v' (.s t' l2) S2->
   ∃m,zo2 t l p (.s t' l2)=some m/\Rep true w' v (.s t m) (λx=>(S x/\¬ S1 x)\/S2 x)/\
    (∀q u,zQ w t v q=some u->(∀q',q=p++q'->q'=[])->zQ w' t v q=some u)/\
    (∀q',zQ w' t v (p++q')=zQ w' t' v' q'):=by
 intro p
 induction p with
 |nil=>intro v v' t l S h hh;simp only[zQ,qC]at hh;subst hh;refine⟨t,l,S,rfl,rfl,h,λ_ hx=>hx,λw' l2 S2 _ _ h2=>⟨l2,by simp[zo2],h2.weak λx hx=>.inr hx,?_,λ_=>rfl⟩⟩;intro q u hq hn;have:=hn q (by simp);subst this;exact hq
 |cons ij p ih=>
  obtain⟨i,j⟩:=ij;intro v v' t l S h hh;cases h with
  |nil=>simp[zQ]at hh
  |void _ _ _ ho=>cases ho
  |sl _ _ b off cap arr e fz V K _ hb hfz hlen hcap hsz hS hsub hdis hv hc=>
   have hh0:=hh;simp only[zQ]at hh;split at hh;{rename_i hi;split at hh;{rename_i t0 hsh;rw[cell_of_block hb]at hh;have hj:j<t.width:=(by rw[<- zeU];exact(qA.1 hsh).1);rw[hv i.toNat j hi.2 hj]at hh;simp only at hh;obtain⟨c,hcj,hct⟩:=zw5 (x:=ix l i t.dflt) hsh;obtain⟨l0,rfl⟩:=zk5 hct;have hr:=hc i.toNat _ (zlc hi.2) j _ hcj;obtain⟨t',l',S1,h1,h2,h3,h4,h5⟩:=ih hr hh;have hbS1:¬ S1 b:=λhx=>(hsub i.toNat j b hi.2 hj<|h4 b hx).2 rfl rfl;refine⟨t',l',S1,by simp only[zg3,hcj,h1],by simp only[zuI,hsh,h2],h3,λx hx=>(hsub i.toNat j x hi.2 hj<|h4 x hx).1,?_⟩;intro w' l2 S2 hkeep hS2 hrep;have hKs:∀x,K i.toNat j x->S x:=λx hx=>(hsub i.toNat j x hi.2 hj hx).1;obtain⟨m0,hm0,hrm0,hq0,hq1⟩:=h5 w' l2 S2 (λx hx hn=>hkeep x (hKs x hx) hn) (λx hx hk=>hS2 x hx (hKs x hk)) hrep;have hcl:j+[CV.s t0 m0].length<=(t.cells<|ix l i t.dflt).length:=(by rw[zc8];simp;omega);have hshape:(splice (t.cells<|ix l i t.dflt) j [CV.s t0 m0]).map CV.ty=t.shape:=(by rw[zWz,zDE];refine zDp _ _ _ (by rw[zeU];simp;omega) ?_;intro k hk;have:k=0:=(by simpa using hk);subst this;simpa [CV.ty] using hsh);obtain⟨x',hx'⟩:=zH2 hshape;have hx'c:=zjG hx';have hb':w'.heap[b]?=some (.cells arr e fz):=(hkeep b hS hbS1).trans hb;have hoth:∀i1 j1,i1<l.length->j1<t.width->¬ (i1=i.toNat/\j1=j)->∀x,K i1 j1 x->¬ S1 x/\w'.heap[x]?=w.heap[x]?:=(by intro i1 j1 hi1 hj1 hne x hx;have hn:¬ S1 x:=λh=>hne (hdis rfl i1 j1 i.toNat j x hi1 hj1 hi.2 hj hx (h4 x h));exact⟨hn,hkeep x (hsub i1 j1 x hi1 hj1 hx).1 hn⟩);refine⟨up l i x',?_,?_,?_,?_⟩;{simp only [zo2,hcj,hm0,hx']};{have hl':(up l i x').length=l.length:=zgZ _ _ _;rw[<- hl'];refine .sl t (up l i x') b off cap arr e fz V (λi1 j1=>if i1=i.toNat/\j1=j then (λx=>(K i1 j1 x/\¬ S1 x)\/S2 x) else K i1 j1) _ hb' hfz (by omega) (by omega) hsz (.inl ⟨hS,hbS1⟩) ?_ ?_ (by rw[hl'];exact hv) ?_;{intro i1 j1 x hi1 hj1 hk;rw[hl']at hi1;split at hk;{rename_i he;rcases hk with⟨hk,hn⟩|hk;{exact⟨.inl ⟨(hsub i1 j1 x hi1 hj1 hk).1,hn⟩,(hsub i1 j1 x hi1 hj1 hk).2⟩};{refine⟨.inr hk,λ_ hxb=>?_⟩;subst hxb;exact hbS1 (hS2 x hk hS)}};{rename_i he;exact⟨.inl ⟨(hsub i1 j1 x hi1 hj1 hk).1,(hoth i1 j1 hi1 hj1 he x hk).1⟩,(hsub i1 j1 x hi1 hj1 hk).2⟩}};{intro _ i1 j1 i2 j2 x hi1 hj1 hi2 hj2 hk1 hk2;rw[hl']at hi1 hi2;split at hk1;{rename_i he1;split at hk2;{rename_i he2;exact⟨he1.1.trans he2.1.symm,he1.2.trans he2.2.symm⟩};{rename_i he2;rcases hk1 with⟨hk1,_⟩|hk1;{exact hdis rfl i1 j1 i2 j2 x hi1 hj1 hi2 hj2 hk1 hk2};{exact absurd (hS2 x hk1 (hsub i2 j2 x hi2 hj2 hk2).1) (hoth i2 j2 hi2 hj2 he2 x hk2).1}}};{rename_i he1;split at hk2;{rename_i he2;rcases hk2 with⟨hk2,_⟩|hk2;{exact hdis rfl i1 j1 i2 j2 x hi1 hj1 hi2 hj2 hk1 hk2};{exact absurd (hS2 x hk2 (hsub i1 j1 x hi1 hj1 hk1).1) (hoth i1 j1 hi1 hj1 he1 x hk1).1}};{exact hdis rfl i1 j1 i2 j2 x hi1 hj1 hi2 hj2 hk1 hk2}}};{intro i1 y hy j1 c hcy;have hi1:i1<l.length:=(by have:=(qA.1 hy).1;rwa [hl'] at this);have hj1:j1<t.width:=(by have:=(qA.1 hcy).1;rwa [zc8] at this);rw[z2m hi1]at hy;by_cases he:i1=i.toNat/\j1=j;{obtain⟨he1,he2⟩:=he;subst he1 he2;simp only[if_true,qC]at hy;subst hy;rw[hx'c,zeV _ _ _ hcl j1 (qX _) (by simp)]at hcy;simp only[kQ,qH,qC]at hcy;subst hcy;simp only[and_self,if_true];exact hrm0};{simp only [he,if_false];have hcell:∃y0,l[i1]?=some y0/\(t.cells y0)[j1]?=some c:=(by by_cases hii:i.toNat=i1;{subst hii;simp only[if_true,qC]at hy;subst hy;have hjj:j1≠j:=λh=>he ⟨rfl,h⟩;rw[hx'c,zeK _ _ _ hcl j1 (by simp;omega)]at hcy;exact⟨_,zlc hi.2,hcy⟩};{simp only [hii,if_false]at hy;exact⟨y,hy,hcy⟩});obtain⟨y0,hy0,hcy0⟩:=hcell;exact(hc i1 y0 hy0 j1 c hcy0).frame λx hx=>(hoth i1 j1 hi1 hj1 he x hx).2}}};{intro q u hq hne;cases q with|nil=>exact hq|cons ab q=>obtain⟨i1,j1⟩:=ab;simp only[zQ]at hq ⊢;split at hq;{rename_i hi1;rw[if_pos hi1];split at hq;{rename_i t1 hsh1;rw[cell_of_block hb]at hq;rw[cell_of_block hb'];have hj1:j1<t.width:=(by rw[<- zeU];exact(qA.1 hsh1).1);rw[hv i1.toNat j1 hi1.2 hj1]at hq ⊢;simp only at hq ⊢;by_cases he:i1.toNat=i.toNat/\j1=j;{have hii:i1=i:=(by omega);obtain⟨_,rfl⟩:=he;subst hii;rw[hsh]at hsh1;cases hsh1;exact hq0 q u hq (λq' hq'=>hne q' (by simp[hq']))};{obtain⟨c1,hc1,hct1⟩:=zw5 (x:=ix l i1 t.dflt) hsh1;obtain⟨l1,rfl⟩:=zk5 hct1;rw[zda q (hc i1.toNat _ (zlc hi1.2) j1 _ hc1) λx hx=>(hoth i1.toNat j1 hi1.2 hj1 he x hx).2];exact hq}};{cases hq}};{cases hq}};{intro q';have:=hq1 q';simp only[kD,zQ];rw[if_pos hi,hsh];simp only;rw[cell_of_block hb',hv i.toNat j hi.2 hj];exact this}};{cases hh}};{cases hh}
structure Env where
 ρ:Nat->Value
 φ:Nat->zT
 β:Nat->Nat
 κ:World
def z4c (kw w:World)(t:Ty)(v:Value)(J:List (List Nat)):Prop :=
 ∀p u,zQ kw t v p=some u->J.any (λc=>c.isPrefixOf (cols p))=false->zQ w t v p=some u
def VA (w:World)(st:St)(E:Env):At->Value->Prop
 |.bad,_=>True
 |.i k n,v=>v = .int k n
 |.b x,v=>v = .bool x
 |.sl r p,v=>(∃a len cap,v = .slice a len cap)/\∀R,st.root r=some R->zQ w R.t (E.ρ r) p=some v
 |.lp l off,v=>(∃a,v = .pointer (some a))/\∀cs,zl st.lo l=some cs->v = .pointer (some ⟨E.β l,off,none⟩)
 |.ep r p i off,v=>(∃a,v = .pointer (some a))/\∀R,st.root r=some R->∃b o len cap t',zQ w R.t (E.ρ r) p=some (.slice (some ⟨b,o,none⟩) len cap)/\zuI R.t p=some t'/\
  0<=i/\i.toNat<len/\v = .pointer (some ⟨b,o+i.toNat*t'.width+off,none⟩)
 |.fn f caps,v=>∃vs:Array Value,v = .func (.func f) #[] vs/\vs.size=caps.length/\
  ∀(k l:Nat) (u:Value),caps[k]?=some l->vs[k]?=some u->(∃a,u = .pointer (some a))/\∀cs,zl st.lo l=some cs->u = .pointer (some ⟨E.β l,0,none⟩)
 |.kp r J t,v=>(∃a len cap,v = .slice a len cap)/\∀R,st.root r=some R->R.t=t/\E.ρ r=v/\z4c E.κ w t v J
def VT (w:World)(st:St)(E:Env):TV->Value->Prop
 |.at a,v=>VA w st E a v
 |.agg l,v=>∃vs:Array Value,v = .agg vs/\vs.size=l.length/\∀(j:Nat) (a:At) (u:Value),l[j]?=some a->vs[j]?=some u->u.oneCell'=true/\VA w st E a u
def VM (w:World)(st:St)(E:Env):MV->Value->Prop
 |.und,v=>v=undef
 |.v x,v=>VT w st E x v
 |.tup l,v=>∃vs:Array Value,v = .tuple vs/\vs.size=l.length/\∀(j:Nat) (x:TV) (u:Value),l[j]?=some x->vs[j]?=some u->VT w st E x u
def At.ids (a:At):List Nat:=zbh a++zbn a
def MV.ids (m:MV):List Nat:=(zbw m).flatMap At.ids
structure Trans (st:St) (E:Env) (w:World) (st1:St) (E1:Env) (w1:World) (U:Nat->Prop):Prop where
 ro:∀r,U r->∀R1,st1.root r=some R1->∃R,st.root r=some R/\R1.t=R.t/\∀p u,zQ w R.t (E.ρ r) p=some u->zQ w1 R.t (E1.ρ r) p=some u
 lo:∀l,U l->∀cs1,zl st1.lo l=some cs1->(∃cs,zl st.lo l=some cs)/\E1.β l=E.β l
 κ:E1.κ=E.κ
section
variable {st st1:St} {E E1:Env} {w w1:World} {U:Nat->Prop}
theorem VA.tr (T:Trans st E w st1 E1 w1 U){a:At}{v:Value}(hU:∀n∈a.ids,U n)(h:VA w st E a v):VA w1 st1 E1 a v:=by cases a with|bad=>trivial|i k n=>exact h|b x=>exact h|sl r p=>refine⟨h.1,λR1 hR1=>?_⟩;obtain⟨R,hR,ht,hh⟩:=T.ro r (hU r (by simp[At.ids,zbh])) R1 hR1;rw[ht];exact hh p v (h.2 R hR)|lp l off=>refine⟨h.1,λcs1 h1=>?_⟩;obtain⟨⟨cs,hcs⟩,hβ⟩:=T.lo l (hU l (by simp[At.ids,zbh,zbn])) cs1 h1;rw[hβ];exact h.2 cs hcs|ep r p i off=>refine⟨h.1,λR1 hR1=>?_⟩;obtain⟨R,hR,ht,hh⟩:=T.ro r (hU r (by simp[At.ids,zbh])) R1 hR1;obtain⟨b,o,len,cap,t',h1,h2,h3⟩:=h.2 R hR;exact⟨b,o,len,cap,t',by rw[ht];exact hh p _ h1,by rw[ht];exact h2,h3⟩|fn f caps=>obtain⟨vs,h1,h2,h3⟩:=h;refine⟨vs,h1,h2,λk l u hk hu=>⟨(h3 k l u hk hu).1,λcs1 hcs1=>?_⟩⟩;obtain⟨⟨cs,hcs⟩,hβ⟩:=T.lo l (hU l (by simp only[At.ids,zbh,zbn,jO];exact qK hk)) cs1 hcs1;rw[hβ];exact(h3 k l u hk hu).2 cs hcs|kp r J t=>refine⟨h.1,λR1 hR1=>?_⟩;obtain⟨R,hR,ht,hh⟩:=T.ro r (hU r (by simp[At.ids,zbh])) R1 hR1;have e:E1.ρ r=E.ρ r:=(by have:=hh [] (E.ρ r) rfl;simpa [zQ] using this);obtain⟨h1,h2,h3⟩:=h.2 R hR;refine⟨ht.trans h1,e.trans h2,λp u hp hJ=>?_⟩;rw[T.κ]at hp;have:=hh p u (by rw[h1,h2];exact h3 p u hp hJ);rwa [e,h1,h2] at this
theorem VT.tr (T:Trans st E w st1 E1 w1 U){x:TV}{v:Value}(hU:∀a∈zN x,∀n∈a.ids,U n)(h:VT w st E x v):VT w1 st1 E1 x v:=by rcases x with a|l;{exact VA.tr T (hU a (by simp[zN])) h};{obtain⟨vs,h1,h2,h3⟩:=h;exact⟨vs,h1,h2,λj a u ha hu=>⟨(h3 j a u ha hu).1,VA.tr T (hU a (by simp only[zN];exact qK ha)) (h3 j a u ha hu).2⟩⟩}
theorem VM.tr (T:Trans st E w st1 E1 w1 U){m:MV}{v:Value}(hU:∀n∈m.ids,U n)(h:VM w st E m v):VM w1 st1 E1 m v:=by have hU':∀a∈zbw m,∀n∈a.ids,U n:=λa ha n hn=>hU n (by simp only[MV.ids,qN];exact⟨a,ha,hn⟩);cases m with|und=>exact h|v x=>exact VT.tr T hU' h|tup l=>obtain⟨vs,h1,h2,h3⟩:=h;refine⟨vs,h1,h2,λj x u hx hu=>VT.tr T (λa ha=>hU' a ?_) (h3 j x u hx hu)⟩;simp only[zbw,qN];exact⟨x,qK hx,ha⟩
end
structure Mem (w0:World) (S0:zT) (st:St) (E:Env) (w:World):Prop where
 os:w.os=w0.os
 tape:w.tape=w0.tape
 output:w.output=w0.output
 size:w0.heap.size<=w.heap.size
 keep:∀b,b<w0.heap.size->¬ S0 b->w.heap[b]?=w0.heap[b]?
 rep:∀r R,st.root r=some R->Rep R.own w (E.ρ r) (.s R.t R.l) (E.φ r)
 rlt:∀r R,st.root r=some R->∀x,E.φ r x->x<w.heap.size
 mine:∀r R,st.root r=some R->R.own=true->R.ep=none/\∀x,E.φ r x->S0 x\/w0.heap.size<=x
 frz:¬ S0 w0.heap.size->∀r R,st.root r=some R->R.own=false->R.ep=none->R.t.flat=false->∀x,E.φ r x->S0 x\/w0.heap.size<=x
 apart:∀r R r' R',st.root r=some R->R.own=true->st.root r'=some R'->R'.ep=none->r≠r'->∀x,E.φ r x->¬ E.φ r' x
 loc:∀l cs,zl st.lo l=some cs->(S0 (E.β l)\/w0.heap.size<=E.β l)/\∃vals e,w.heap[E.β l]?=some (.cells vals e (0,0))/\vals.size=cs.length/\
  ∀(j:Nat) (c:At) (u:Value),cs[j]?=some c->vals[j]?=some u->u.oneCell'=true/\VA w st E c u
 linj:∀l l' cs cs',zl st.lo l=some cs->zl st.lo l'=some cs'->E.β l=E.β l'->l=l'
 lro:∀l cs r R,zl st.lo l=some cs->st.root r=some R->¬ E.φ r (E.β l)
 epo:∀r R e,zl st.ro r=some R->R.ep=some e->e<=st.ep
 κ:E.κ=w0
structure Ids (st:St) (U:Nat->Prop):Prop where
 ro:∀n R,zl st.ro n=some R->U n
 lo:∀n cs,zl st.lo n=some cs->U n/\∀a∈cs,∀m∈a.ids,U m
 tm:∀m∈st.tm,∀n∈m.ids,U n
 stk:∀f∈st.stk,∀m∈f,∀n∈m.ids,U n
def Slots (w:World)(st:St)(E:Env)(tm:List MV)(ts:Array Value):Prop :=
 ts.size=tm.length/\∀(i:Nat) (m:MV) (v:Value),tm[i]?=some m->ts[i]?=some v->VM w st E m v
def Stack (w:World)(st:St)(E:Env):List (List MV)->List (Array Value)->Prop
 |[],[]=>True
 |f::r,ts::s=>Slots w st E f ts/\Stack w st E r s
 |_,_=>False
structure Sim (w0:World) (S0:zT) (U:Nat->Prop) (st:St) (E:Env) (ts:Array Value) (sv:List (Array Value)) (w:World):Prop where
 mem:Mem w0 S0 st E w
 ids:Ids st U
 tm:Slots w st E st.tm ts
 stk:Stack w st E st.stk sv
theorem Slots.tr {st st1:St}{E E1:Env}{w w1:World}{U:Nat->Prop}(T:Trans st E w st1 E1 w1 U){tm:List MV}{ts:Array Value}(hU:∀m∈tm,∀n∈m.ids,U n)(h:Slots w st E tm ts):Slots w1 st1 E1 tm ts :=
 ⟨h.1,λi m v hm hv=>VM.tr T (hU m<|qK hm) (h.2 i m v hm hv)⟩
theorem Stack.tr {st st1:St}{E E1:Env}{w w1:World}{U:Nat->Prop}(T:Trans st E w st1 E1 w1 U):∀{l:List (List MV)} {s:List (Array Value)},(∀f∈l,∀m∈f,∀n∈m.ids,U n)->Stack w st E l s->Stack w1 st1 E1 l s
 |[],[],_,_=>trivial
 |f::r,ts::s,hU,h=>⟨Slots.tr T (hU f (by simp)) h.1,Stack.tr T (λf hf=>hU f (by simp[hf])) h.2⟩
 |[],_::_,_,h=>h.elim
 |_::_,[],_,h=>h.elim
theorem zbH {α:Type}(l m:List (Nat×α))(n:Nat):zl (l++m) n=match zl l n with
 |some x=>some x
 |none=>zl m n:=by
 induction l with
 |nil=>rfl
 |cons a l ih=>obtain⟨k,v⟩:=a;simp only[kD,zl];split;{rfl};{exact ih}
theorem zmz {α:Type}{l:List (Nat×α)}{n:Nat}{x:α}(h:zl l n=some x):(n,x)∈l:=by induction l with|nil=>cases h|cons a l ih=>obtain⟨k,v⟩:=a;simp only[zl]at h;split at h;{rename_i he;simp only[qL]at he;subst he;cases h;exact q9};{exact qU _ (ih h)}
theorem Sim.next {w0:World}{S0:zT}{U U1:Nat->Prop}{st st1:St}{E E1:Env}{ts:Array Value}{sv:List (Array Value)}{w w1:World}(h:Sim w0 S0 U st E ts sv w)(hM:Mem w0 S0 st1 E1 w1)(T:Trans st E w st1 E1 w1 U)(htm:st1.tm=st.tm)(hstk:st1.stk=st.stk)(hU:∀n,U n->U1 n)(hro:∀n R,zl st1.ro n=some R->U1 n)(hlo:∀n cs,zl st1.lo n=some cs->U1 n/\∀a∈cs,∀m∈a.ids,U1 m){dst:Option Tmp}{mv:MV}{v:Value}(hv:VM w1 st1 E1 mv v)(hvi:∀n∈mv.ids,U1 n) :
 Sim w0 S0 U1 (st1.put dst mv) E1 (({tmps:=ts,defers:=[]}:Act).put dst v).tmps sv w1:=by
 have hput:(st1.put dst mv).ro=st1.ro/\(st1.put dst mv).lo=st1.lo/\(st1.put dst mv).stk=st1.stk/\(st1.put dst mv).ep=st1.ep:=by cases dst<;>exact⟨rfl,rfl,rfl,rfl⟩
 have hroot:∀r,(st1.put dst mv).root r=st1.root r:=fun r=>by simp only[St.root,hput.1,hput.2.2.2]
 have T':Trans st1 E1 w1 (st1.put dst mv) E1 w1 (fun _=>True):=
  ⟨fun r _ R1 h1=>⟨R1,by rw[<- hroot];exact h1,rfl,fun _ _ h=>h⟩,fun l _ cs1 h1=>⟨⟨cs1,by rw[<- hput.2.1];exact h1⟩,rfl⟩,rfl⟩
 refine⟨?_,?_,?_,?_⟩
 .exact ⟨hM.os,hM.tape,hM.output,hM.size,hM.keep,fun r R hr=>hM.rep r R (by rw[<- hroot];exact hr),fun r R hr=>hM.rlt r R (by rw[<- hroot];exact hr),
   fun r R hr=>hM.mine r R (by rw[<- hroot];exact hr),fun hz r R hr=>hM.frz hz r R (by rw[<- hroot];exact hr),fun r R r' R' h1 h2 h3=>hM.apart r R r' R' (by rw[<- hroot];exact h1) h2 (by rw[<- hroot];exact h3),
   fun l cs hl=>by obtain⟨h1,vals,e,h2,h3,h4⟩:=hM.loc l cs (by rw[<- hput.2.1];exact hl);exact⟨h1,vals,e,h2,h3,fun j c u hc hu=>⟨(h4 j c u hc hu).1,VA.tr T' (fun _ _=>trivial) (h4 j c u hc hu).2⟩⟩,
   fun l l' cs cs' h1 h2=>hM.linj l l' cs cs' (by rw[<- hput.2.1];exact h1) (by rw[<- hput.2.1];exact h2),
   fun l cs r R h1 h2=>hM.lro l cs r R (by rw[<- hput.2.1];exact h1) (by rw[<- hroot];exact h2),
   fun r R e h1 h2=>by rw[hput.2.2.2];exact hM.epo r R e (by rw[<- hput.1];exact h1) h2,hM.κ⟩
 .refine⟨fun n R hn=>hro n R (by rw[<- hput.1];exact hn),fun n cs hn=>hlo n cs (by rw[<- hput.2.1];exact hn),?_,?_⟩
  .intro m hm n hn;cases dst with
   |none=>exact hU n (h.ids.tm m (by simpa [St.put,htm] using hm) n hn)
   |some d=>simp only[St.put]at hm;rcases qZ hm with hm|hm;{exact hU n (h.ids.tm m (by rw[<- htm];exact hm) n hn)};{subst hm;exact hvi n hn}
  .intro f hf m hm n hn;rw[hput.2.2.1,hstk]at hf;exact hU n (h.ids.stk f hf m hm n hn)
 .have hs:=Slots.tr T (fun m hm n hn=>h.ids.tm m hm n hn) h.tm;have hs':=Slots.tr T' (fun _ _ _ _=>trivial) hs;cases dst with
  |none=>simpa [St.put,Act.put,htm] using hs'
  |some d=>refine⟨by simp[St.put,Act.put,htm,hs.1],fun i m u hm hu=>?_⟩;simp only[St.put,htm]at hm;simp only[Act.put]at hu;rw[jD]at hm;rw[Array.getElem?_setIfInBounds]at hu;split at hm;{rename_i hd;subst hd;rw[if_pos rfl]at hu;split at hm;{cases hm;split at hu;{cases hu;exact VM.tr T' (fun _ _=>trivial) hv};{cases hu}};{cases hm}};{rename_i hd;rw[if_neg hd]at hu;exact hs'.2 i m u hm hu}
 .rw [hput.2.2.1,hstk];exact Stack.tr T' (fun _ _ _ _ _ _=>trivial) (Stack.tr T (fun f hf m hm n hn=>h.ids.stk f hf m hm n hn) h.stk)
section
variable {w0 w w1:World} {S0:zT} {st:St} {E E1:Env} {U:Nat->Prop}
structure IdsM (st:St) (U:Nat->Prop):Prop where
 ro:∀n R,zl st.ro n=some R->U n
 lo:∀n cs,zl st.lo n=some cs->U n/\∀a∈cs,∀m∈a.ids,U m
theorem Ids.mem (h:Ids st U):IdsM st U:=⟨h.ro,h.lo⟩
theorem zbr {r:Nat}{R:Root}(h:st.root r=some R):zl st.ro r=some R/\(R.ep=none\/R.ep=some st.ep):=by unfold St.root at h;split at h;{rename_i Q hQ;split at h;{rename_i hn;cases h;exact⟨hQ,.inl hn⟩};{rename_i e he;split at h;{rename_i hb;simp only[qL]at hb;subst hb;cases h;exact⟨hQ,.inr he⟩};{cases h}}};{cases h}
theorem zhx {r:Nat}{R:Root}(h:zl st.ro r=some R)(he:R.ep=none\/R.ep=some st.ep):st.root r=some R:=by unfold St.root;rw[h];simp only;rcases he with he|he;{rw [he]};{rw [he];simp}
theorem Mem.addRootsO (h:Mem w0 S0 st E w)(hI:IdsM st U){dro:List (Nat×Root)}(hos:w1.os=w.os)(htp:w1.tape=w.tape)(hout:w1.output=w.output)(hsz:w.heap.size<=w1.heap.size)(hkeep:∀x,x<w.heap.size->w1.heap[x]?=w.heap[x]?)(hnew:∀r R,zl dro r=some R->¬ U r/\R.ep=none/\Rep R.own w1 (E1.ρ r) (.s R.t R.l) (E1.φ r)/\∀x,E1.φ r x->w.heap.size<=x/\x<w1.heap.size)(hnd:∀r R r' R',zl dro r=some R->R.own=true->zl dro r'=some R'->r≠r'->∀x,E1.φ r x->¬ E1.φ r' x)(hold:∀n,U n->E1.ρ n=E.ρ n/\E1.φ n=E.φ n/\E1.β n=E.β n)(hκ:E1.κ=E.κ:=by rfl) :
 Mem w0 S0 {st with ro:=dro++st.ro} E1 w1/\Trans st E w {st with ro:=dro++st.ro} E1 w1 U:=by
 have hroot:∀r R,({st with ro:=dro++st.ro}:St).root r=some R->zl dro r=some R\/(st.root r=some R/\U r):=by intro r R hr;obtain⟨h1,h2⟩:=zbr hr;simp only[zbH]at h1;split at h1;{rename_i Q hQ;cases h1;exact .inl hQ};{exact .inr ⟨zhx h1 h2,hI.ro r R h1⟩}
 have hfr:∀r R,st.root r=some R->∀x,E.φ r x->w1.heap[x]?=w.heap[x]?:=λr R hr x hx=>hkeep x (h.rlt r R hr x hx);have hT:Trans st E w {st with ro:=dro++st.ro} E1 w1 U:=by refine⟨λr hU R1 hR1=>?_,λl hU cs1 h1=>⟨⟨cs1,h1⟩,(hold l hU).2.2⟩,hκ⟩;rcases hroot r R1 hR1 with hd|⟨hr,_⟩;{exact absurd hU (hnew r R1 hd).1};{refine⟨R1,hr,rfl,λp u hp=>?_⟩;rw[(hold r hU).1,zda p (h.rep r R1 hr)<|hfr r R1 hr];exact hp}
 refine⟨⟨hos.trans h.os,htp.trans h.tape,hout.trans h.output,jB h.size hsz,λb hb hS=>(hkeep b<|jP hb h.size).trans (h.keep b hb hS),?_,?_,?_,?_,?_,?_,?_,?_,?_,hκ.trans h.κ⟩,hT⟩
 .intro r R hr;rcases hroot r R hr with hd|⟨hr,hU⟩
  .obtain⟨_,_,hrep,_⟩:=hnew r R hd;exact hrep
  .rw [(hold r hU).1,(hold r hU).2.1];exact(h.rep r R hr).frame (hfr r R hr)
 .intro r R hr x hx;rcases hroot r R hr with hd|⟨hr,hU⟩
  .exact((hnew r R hd).2.2.2 x hx).2
  .rw [(hold r hU).2.1]at hx;exact jP (h.rlt r R hr x hx) hsz
 .intro r R hr ho;rcases hroot r R hr with hd|⟨hr,hU⟩
  .obtain⟨_,he,_,hx⟩:=hnew r R hd;exact⟨he,λx hx'=>.inr (jB h.size (hx x hx').1)⟩
  .rw [(hold r hU).2.1];exact h.mine r R hr ho
 .intro hz r R hr ho he hf;rcases hroot r R hr with hd|⟨hr,hU⟩
  .obtain⟨_,_,_,hx⟩:=hnew r R hd;exact λx hx'=>.inr (jB h.size (hx x hx').1)
  .rw [(hold r hU).2.1];exact h.frz hz r R hr ho he hf
 .intro r R r' R' hr ho hr' he hne x hx;rcases hroot r R hr with hd|⟨hr,hU⟩
  .rcases hroot r' R' hr' with hd'|⟨hr',hU'⟩
   .exact hnd r R r' R' hd ho hd' hne x hx
   .rw [(hold r' hU').2.1];intro hx';have:=h.rlt r' R' hr' x hx';have:=((hnew r R hd).2.2.2 x hx).1;omega
  .rw [(hold r hU).2.1]at hx;rcases hroot r' R' hr' with hd'|⟨hr',hU'⟩
   .intro hx';have:=h.rlt r R hr x hx;have:=((hnew r' R' hd').2.2.2 x hx').1;omega
   .rw [(hold r' hU').2.1];exact h.apart r R r' R' hr ho hr' he hne x hx
 .intro l cs hl;obtain⟨hU,hids⟩:=hI.lo l cs hl;obtain⟨h1,vals,e,h2,h3,h4⟩:=h.loc l cs hl;rw[(hold l hU).2.2];have hlt:E.β l<w.heap.size:=(qS.1 h2).1;exact⟨h1,vals,e,(hkeep _ hlt).trans h2,h3,λj c u hc hu=>⟨(h4 j c u hc hu).1,VA.tr hT (λn hn=>hids c (qK hc) n hn) (h4 j c u hc hu).2⟩⟩
 .intro l l' cs cs' hl hl' he;rw[(hold l (hI.lo l cs hl).1).2.2,(hold l' (hI.lo l' cs' hl').1).2.2]at he;exact h.linj l l' cs cs' hl hl' he
 .intro l cs r R hl hr;have hβ:=(hold l (hI.lo l cs hl).1).2.2;rw[hβ];obtain⟨h1,vals,e,h2,h3,h4⟩:=h.loc l cs hl;have hlt:E.β l<w.heap.size:=(qS.1 h2).1;rcases hroot r R hr with hd|⟨hr,hU⟩
  .intro hx;have:=((hnew r R hd).2.2.2 _ hx).1;omega
  .rw [(hold r hU).2.1];exact h.lro l cs r R hl hr
 .intro r R e hr he;simp only[zbH]at hr;split at hr
  .rename_i hQ;cases hr;rw[(hnew r R hQ).2.1]at he;cases he
  .exact h.epo r R e hr he
theorem Mem.addRoots (h:Mem w0 S0 st E w)(hI:IdsM st U){dro:List (Nat×Root)}(hos:w1.os=w.os)(htp:w1.tape=w.tape)(hout:w1.output=w.output)(hsz:w.heap.size<=w1.heap.size)(hkeep:∀x,x<w.heap.size->w1.heap[x]?=w.heap[x]?)(hnew:∀r R,zl dro r=some R->¬ U r/\R.own=true/\R.ep=none/\Rep true w1 (E1.ρ r) (.s R.t R.l) (E1.φ r)/\∀x,E1.φ r x->w.heap.size<=x/\x<w1.heap.size)(hnd:∀r R r' R',zl dro r=some R->zl dro r'=some R'->r≠r'->∀x,E1.φ r x->¬ E1.φ r' x)(hold:∀n,U n->E1.ρ n=E.ρ n/\E1.φ n=E.φ n/\E1.β n=E.β n)(hκ:E1.κ=E.κ:=by rfl) :
 Mem w0 S0 {st with ro:=dro++st.ro} E1 w1/\Trans st E w {st with ro:=dro++st.ro} E1 w1 U :=
 h.addRootsO hI hos htp hout hsz hkeep (λr R hr=>by
  obtain⟨h1,h2,h3,h4,h5⟩:=hnew r R hr;exact⟨h1,h3,by rw[h2];exact h4,h5⟩) (λr R r' R' h1 _ h2=>hnd r R r' R' h1 h2) hold hκ
theorem Mem.addLoc (h:Mem w0 S0 st E w)(hI:IdsM st U){id:Nat}(hid:¬ U id){vals:Array Value}{e:TypeId}{cs:List At}(hsz:vals.size=cs.length)(hcs:∀(j:Nat) (c:At) (u:Value),cs[j]?=some c->vals[j]?=some u->u.oneCell'=true/\VA w st E c u)(hci:∀a∈cs,∀m∈a.ids,U m) :
 Mem w0 S0 {st with lo:=(id,cs)::st.lo} {E with β:=λn=>if n=id then w.heap.size else E.β n} (w.alloc<|.cells vals e (0,0))/\
  Trans st E w {st with lo:=(id,cs)::st.lo} {E with β:=λn=>if n=id then w.heap.size else E.β n} (w.alloc<|.cells vals e (0,0)) U:=by
 have hkeep:∀x,x<w.heap.size->(w.alloc<|.cells vals e (0,0)).heap[x]?=w.heap[x]?:=λx hx=>heap_alloc_old w _ x hx;have hfr:∀r R,st.root r=some R->∀x,E.φ r x->(w.alloc<|.cells vals e (0,0)).heap[x]?=w.heap[x]?:=λr R hr x hx=>hkeep x (h.rlt r R hr x hx);have hlo:∀l cs1,zl ((id,cs)::st.lo) l=some cs1->(l=id/\cs1=cs)\/(l≠id/\zl st.lo l=some cs1):=by intro l cs1 hl;simp only[zl]at hl;split at hl;{rename_i he;simp only[qL]at he;cases hl;exact .inl ⟨he.symm,rfl⟩};{rename_i he;simp only[qL]at he;exact .inr ⟨λh=>he h.symm,hl⟩}
 have hT:Trans st E w {st with lo:=(id,cs)::st.lo} {E with β:=λn=>if n=id then w.heap.size else E.β n} (w.alloc<|.cells vals e (0,0)) U:=by refine⟨λr hU R1 hR1=>⟨R1,hR1,rfl,λp u hp=>?_⟩,λl hU cs1 h1=>?_,rfl⟩;{have hr:st.root r=some R1:=hR1;show zQ (w.alloc<|.cells vals e (0,0)) R1.t (E.ρ r) p=some u;rw[zda p (h.rep r R1 hr)<|hfr r R1 hr];exact hp};{have hne:l≠id:=λhe=>hid (he ▸ hU);rcases hlo l cs1 h1 with⟨he,_⟩|⟨_,h2⟩;{exact absurd he hne};{exact⟨⟨cs1,h2⟩,by simp[hne]⟩}}
 refine⟨⟨h.os,h.tape,h.output,by simp;have:=h.size;omega,λb hb hS=>(hkeep b<|jP hb h.size).trans (h.keep b hb hS),λr R hr=>(h.rep r R hr).frame (hfr r R hr),
  λr R hr x hx=>by simp;exact Nat.lt_succ_of_lt (h.rlt r R hr x hx),h.mine,h.frz,h.apart,?_,?_,?_,h.epo,h.κ⟩,hT⟩
 .intro l cs1 hl;rcases hlo l cs1 hl with⟨rfl,rfl⟩|⟨hne,hl⟩
  .refine⟨.inr (by simp;exact h.size),vals,e,by simp only[if_true];exact heap_alloc_new w _,hsz,λj c u hc hu=>⟨(hcs j c u hc hu).1,VA.tr hT (λn hn=>hci c (qK hc) n hn) (hcs j c u hc hu).2⟩⟩
  .obtain⟨h1,vals',e',h2,h3,h4⟩:=h.loc l cs1 hl;have hlt:E.β l<w.heap.size:=(qS.1 h2).1;simp only[hne,if_false];exact⟨h1,vals',e',(hkeep _ hlt).trans h2,h3,λj c u hc hu=>⟨(h4 j c u hc hu).1,VA.tr hT (λn hn=>(hI.lo l cs1 hl).2 c (qK hc) n hn) (h4 j c u hc hu).2⟩⟩
 .intro l l' cs1 cs2 hl hl' he;have hlt:∀l cs,zl st.lo l=some cs->E.β l<w.heap.size:=λl cs hl=>by obtain⟨_,vals',e',h2,_⟩:=h.loc l cs hl;exact(qS.1 h2).1
  rcases hlo l cs1 hl with⟨rfl,rfl⟩|⟨hne,hl2⟩
  .rcases hlo l' cs2 hl' with⟨rfl,rfl⟩|⟨hne',hl2'⟩
   .rfl
   .simp only [if_true,hne',if_false]at he;have:=hlt l' cs2 hl2';omega
  .rcases hlo l' cs2 hl' with⟨rfl,rfl⟩|⟨hne',hl2'⟩
   .simp only [if_true,hne,if_false]at he;have:=hlt l cs1 hl2;omega
   .simp only [hne,hne',if_false]at he;exact h.linj l l' cs1 cs2 hl2 hl2' he
 .intro l cs1 r R hl hr;rcases hlo l cs1 hl with⟨rfl,rfl⟩|⟨hne,hl⟩
  .simp only [if_true];intro hx;have:=h.rlt r R hr _ hx;omega
  .simp only [hne,if_false];exact h.lro l cs1 r R hl hr
theorem Mem.stLoc (h:Mem w0 S0 st E w)(hI:IdsM st U){l:Nat}{cs cs':List At}(hl:zl st.lo l=some cs){vals':Array Value}{e':TypeId}(hos:w1.os=w.os)(htp:w1.tape=w.tape)(hout:w1.output=w.output)(hsz:w1.heap.size=w.heap.size)(hkeep:∀x,x≠E.β l->w1.heap[x]?=w.heap[x]?)(hnew:w1.heap[E.β l]?=some (.cells vals' e' (0,0)))(hsz':vals'.size=cs'.length)(hcs:∀(j:Nat) (c:At) (u:Value),cs'[j]?=some c->vals'[j]?=some u->u.oneCell'=true/\VA w st E c u)(hci:∀a∈cs',∀m∈a.ids,U m) :
 Mem w0 S0 {st with lo:=(l,cs')::st.lo} E w1/\Trans st E w {st with lo:=(l,cs')::st.lo} E w1 U:=by
 have hfr:∀r R,st.root r=some R->∀x,E.φ r x->w1.heap[x]?=w.heap[x]?:=λr R hr x hx=>hkeep x (λhe=>h.lro l cs r R hl hr (he ▸ hx));have hlo:∀k cs1,zl ((l,cs')::st.lo) k=some cs1->(k=l/\cs1=cs')\/(k≠l/\zl st.lo k=some cs1):=by intro k cs1 hk;simp only[zl]at hk;split at hk;{rename_i he;simp only[qL]at he;cases hk;exact .inl ⟨he.symm,rfl⟩};{rename_i he;simp only[qL]at he;exact .inr ⟨λh=>he h.symm,hk⟩}
 have hT:Trans st E w {st with lo:=(l,cs')::st.lo} E w1 U:=by refine⟨λr hU R1 hR1=>⟨R1,hR1,rfl,λp u hp=>?_⟩,λk hU cs1 h1=>?_,rfl⟩;{have hr:st.root r=some R1:=hR1;rw[zda p (h.rep r R1 hr)<|hfr r R1 hr];exact hp};{rcases hlo k cs1 h1 with⟨rfl,_⟩|⟨_,h2⟩;{exact⟨⟨cs,hl⟩,rfl⟩};{exact⟨⟨cs1,h2⟩,rfl⟩}}
 obtain⟨hb1,vals,e,hb2,hb3,hb4⟩:=h.loc l cs hl;refine⟨⟨hos.trans h.os,htp.trans h.tape,hout.trans h.output,by rw[hsz];exact h.size,λb hb hS=>?_,λr R hr=>(h.rep r R hr).frame (hfr r R hr),
  λr R hr x hx=>by rw[hsz];exact h.rlt r R hr x hx,h.mine,h.frz,h.apart,?_,?_,?_,h.epo,h.κ⟩,hT⟩
 .refine(hkeep b λhe=>?_).trans (h.keep b hb hS);subst he;rcases hb1 with hb1|hb1
  .exact hS hb1
  .omega
 .intro k cs1 hk;rcases hlo k cs1 hk with⟨rfl,rfl⟩|⟨hne,hk⟩
  .exact⟨hb1,vals',e',hnew,hsz',λj c u hc hu=>⟨(hcs j c u hc hu).1,VA.tr hT (λn hn=>hci c (qK hc) n hn) (hcs j c u hc hu).2⟩⟩
  .obtain⟨h1,vals2,e2,h2,h3,h4⟩:=h.loc k cs1 hk;refine⟨h1,vals2,e2,(hkeep _ λhe=>hne (h.linj k l cs1 cs hk hl he)).trans h2,h3,λj c u hc hu=>⟨(h4 j c u hc hu).1,VA.tr hT (λn hn=>(hI.lo k cs1 hk).2 c (qK hc) n hn) (h4 j c u hc hu).2⟩⟩
 .intro k k' cs1 cs2 hk hk' he;rcases hlo k cs1 hk with⟨rfl,rfl⟩|⟨hne,hk2⟩
  .rcases hlo k' cs2 hk' with⟨rfl,rfl⟩|⟨hne',hk2'⟩
   .rfl
   .exact h.linj k k' cs cs2 hl hk2' he
  .rcases hlo k' cs2 hk' with⟨rfl,rfl⟩|⟨hne',hk2'⟩
   .exact h.linj k k' cs1 cs hk2 hl he
   .exact h.linj k k' cs1 cs2 hk2 hk2' he
 .intro k cs1 r R hk hr;rcases hlo k cs1 hk with⟨rfl,rfl⟩|⟨hne,hk⟩
  .exact h.lro k cs r R hl hr
  .exact h.lro k cs1 r R hk hr
theorem Mem.mut (h:Mem w0 S0 st E w)(hI:IdsM st U){r:Nat}{R:Root}(hr:st.root r=some R)(ho:R.own=true){m:List R.t.den}(hos:w1.os=w.os)(htp:w1.tape=w.tape)(hout:w1.output=w.output)(hsz:w1.heap.size=w.heap.size)(hkeep:∀x,¬ E.φ r x->w1.heap[x]?=w.heap[x]?)(hrep:Rep true w1 (E.ρ r) (.s R.t m) (E.φ r))(hhdr:∀p u,zQ w R.t (E.ρ r) p=some u->zQ w1 R.t (E.ρ r) p=some u) :
 Mem w0 S0 {st with ro:=(r,{R with l:=m})::st.ro,ep:=st.ep+1} E w1/\Trans st E w {st with ro:=(r,{R with l:=m})::st.ro,ep:=st.ep+1} E w1 U:=by
 obtain⟨hre,hrm⟩:=h.mine r R hr ho;have hroot:∀q Q,({st with ro:=(r,{R with l:=m})::st.ro,ep:=st.ep+1}:St).root q=some Q->
  (q=r/\Q={R with l:=m})\/(q≠r/\st.root q=some Q/\Q.ep=none):=by
  intro q Q hq;obtain⟨h1,h2⟩:=zbr hq;simp only[zl]at h1;split at h1
  .rename_i he;simp only[qL]at he;cases h1;exact .inl ⟨he.symm,rfl⟩
  .rename_i he;simp only[qL]at he;refine .inr ⟨λh=>he h.symm,?_⟩;rcases h2 with h2|h2
   .exact⟨zhx h1<|.inl h2,h2⟩
   .have:=h.epo q Q _ h1 h2;simp only at this;omega
 have hoth:∀q Q,q≠r->st.root q=some Q->Q.ep=none->∀x,E.φ q x->w1.heap[x]?=w.heap[x]? :=
  λq Q hne hq hQ x hx=>hkeep x (λhxr=>h.apart r R q Q hr ho hq hQ (λe=>hne e.symm) x hxr hx)
 have hT:Trans st E w {st with ro:=(r,{R with l:=m})::st.ro,ep:=st.ep+1} E w1 U:=by refine⟨λq hU Q hQ=>?_,λl hU cs1 h1=>⟨⟨cs1,h1⟩,rfl⟩,rfl⟩;rcases hroot q Q hQ with⟨rfl,rfl⟩|⟨hne,hq,hQe⟩;{exact⟨R,hr,rfl,hhdr⟩};{refine⟨Q,hq,rfl,λp u hp=>?_⟩;rw[zda p (h.rep q Q hq)<|hoth q Q hne hq hQe];exact hp}
 refine⟨⟨hos.trans h.os,htp.trans h.tape,hout.trans h.output,by rw[hsz];exact h.size,?_,?_,?_,?_,?_,?_,?_,h.linj,?_,?_,h.κ⟩,hT⟩
 .intro b hb hS;refine(hkeep b λhx=>?_).trans (h.keep b hb hS);rcases hrm b hx with h1|h1
  .exact hS h1
  .omega
 .intro q Q hq;rcases hroot q Q hq with⟨rfl,rfl⟩|⟨hne,hq,hQe⟩
  .simp only [ho];exact hrep
  .exact(h.rep q Q hq).frame (hoth q Q hne hq hQe)
 .intro q Q hq x hx;rw[hsz];rcases hroot q Q hq with⟨rfl,rfl⟩|⟨hne,hq,hQe⟩
  .exact h.rlt q R hr x hx
  .exact h.rlt q Q hq x hx
 .intro q Q hq hoq;rcases hroot q Q hq with⟨rfl,rfl⟩|⟨hne,hq,hQe⟩
  .exact⟨hre,hrm⟩
  .exact h.mine q Q hq hoq
 .intro hz q Q hq hoq he hf;rcases hroot q Q hq with⟨rfl,rfl⟩|⟨hne,hq,hQe⟩
  .exact hrm
  .exact h.frz hz q Q hq hoq he hf
 .intro q Q q' Q' hq hoq hq' he hne x hx;have h1:∃R1,st.root q=some R1/\R1.own=true:=by rcases hroot q Q hq with⟨rfl,rfl⟩|⟨_,hq,_⟩;{exact⟨R,hr,ho⟩};{exact⟨Q,hq,hoq⟩}
  have h2:∃R2,st.root q'=some R2/\R2.ep=none:=by rcases hroot q' Q' hq' with⟨rfl,rfl⟩|⟨_,hq',hQ'⟩;{exact⟨R,hr,hre⟩};{exact⟨Q',hq',hQ'⟩}
  obtain⟨R1,h1a,h1b⟩:=h1;obtain⟨R2,h2a,h2b⟩:=h2;exact h.apart q R1 q' R2 h1a h1b h2a h2b hne x hx
 .intro l cs hl;obtain⟨h1,vals,e,h2,h3,h4⟩:=h.loc l cs hl;exact⟨h1,vals,e,(hkeep _<|h.lro l cs r R hl hr).trans h2,h3,λj c u hc hu=>⟨(h4 j c u hc hu).1,VA.tr hT (λn hn=>(hI.lo l cs hl).2 c (qK hc) n hn) (h4 j c u hc hu).2⟩⟩
 .intro l cs q Q hl hq;rcases hroot q Q hq with⟨rfl,rfl⟩|⟨hne,hq,hQe⟩
  .exact h.lro l cs q R hl hr
  .exact h.lro l cs q Q hl hq
 .intro q Q e hq he;simp only[zl]at hq;split at hq
  .cases hq;simp only[hre]at he;cases he
  .exact uU (h.epo q Q e hq he)
theorem zle {st:St}:∀(ks:List Nat) (q:Nat) (Q:Root),zl (moved st ks) q=some Q->q∈ks/\∃R,zl st.ro q=some R/\Q={R with own:=false,ep:=some (st.ep+1)}:=by intro ks;induction ks with|nil=>intro q Q h;cases h|cons k ks ih=>intro q Q h;simp only[moved]at h;split at h;{rename_i R hR;simp only[zl]at h;split at h;{rename_i he;simp only[qL]at he;subst he;cases h;exact⟨by simp,R,hR,rfl⟩};{obtain⟨h1,h2⟩:=ih q Q h;exact⟨by simp[h1],h2⟩}};{obtain⟨h1,h2⟩:=ih q Q h;exact⟨by simp[h1],h2⟩}
theorem zHY {st:St}:∀(ks:List Nat) (q:Nat),zl (moved st ks) q=none->q∈ks->zl st.ro q=none:=by
 intro ks
 induction ks with
 |nil=>intro q _ h;cases h
 |cons k ks ih=>intro q h hm;simp only[moved]at h;split at h;{rename_i R hR;simp only[zl]at h;split at h;{cases h};{rename_i he;simp only[qL]at he;rcases qI.1 hm with h1|h1;{exact absurd h1.symm he};{exact ih q h h1}}};{rename_i hR;rcases qI.1 hm with h1|h1;{subst h1;exact hR};{exact ih q h h1}}
theorem Mem.merge (h:Mem w0 S0 st E w)(hI:IdsM st U){id:Nat}(hid:¬ U id){ks:List Nat}{t:Ty}{m:List t.den}{v:Value}{φn:zT}(hks:∀k∈ks,∃R,st.root k=some R/\R.own=true)(hos:w1.os=w.os)(htp:w1.tape=w.tape)(hout:w1.output=w.output)(hsz:w.heap.size<=w1.heap.size)(hkeep:∀x,x<w.heap.size->(∀k∈ks,¬ E.φ k x)->w1.heap[x]?=w.heap[x]?)(hφ:∀x,φn x->(∃k∈ks,E.φ k x)\/(w.heap.size<=x/\x<w1.heap.size))(hrep:Rep true w1 v (.s t m) φn)(hold:∀k∈ks,∀R,st.root k=some R->Rep false w1 (E.ρ k) (.s R.t R.l) (E.φ k)/\∀p u,zQ w R.t (E.ρ k) p=some u->zQ w1 R.t (E.ρ k) p=some u) :
 Mem w0 S0 {st with ro:=(id,zcN t m)::moved st ks++st.ro,ep:=st.ep+1} {E with ρ:=λn=>if n=id then v else E.ρ n,φ:=λn=>if n=id then φn else E.φ n} w1/\
  Trans st E w {st with ro:=(id,zcN t m)::moved st ks++st.ro,ep:=st.ep+1} {E with ρ:=λn=>if n=id then v else E.ρ n,φ:=λn=>if n=id then φn else E.φ n} w1 U:=by
 have hroot:∀q Q,({st with ro:=(id,zcN t m)::moved st ks++st.ro,ep:=st.ep+1}:St).root q=some Q->
  (q=id/\Q=zcN t m)\/(q≠id/\q∈ks/\∃R,st.root q=some R/\R.own=true/\Q={R with own:=false,ep:=some (st.ep+1)})\/(q≠id/\q∉ks/\st.root q=some Q/\Q.ep=none):=by
  intro q Q hq;obtain⟨h1,h2⟩:=zbr hq;simp only[kD,zl]at h1;split at h1
  .rename_i he;simp only[qL]at he;cases h1;exact .inl ⟨he.symm,rfl⟩
  .rename_i he;simp only[qL]at he;have hne:q≠id:=λh=>he h.symm;rw[zbH]at h1;split at h1
   .rename_i Q' hQ';cases h1;obtain⟨hm,R,hR,rfl⟩:=zle ks q _ hQ';obtain⟨R2,hR2,hR2o⟩:=hks q hm;have:=(zbr hR2).1;rw[hR] at this;cases this;exact .inr (.inl ⟨hne,hm,R,hR2,hR2o,rfl⟩)
   .rename_i hnone;have hnk:q∉ks:=λhm=>by have:=zHY ks q hnone hm;rw[this]at h1;cases h1
    refine .inr (.inr ⟨hne,hnk,?_⟩);rcases h2 with h2|h2
    .exact⟨zhx h1<|.inl h2,h2⟩
    .have:=h.epo q Q _ h1 h2;simp only at this;omega
 have hoth:∀q Q,q∉ks->st.root q=some Q->Q.ep=none->∀x,E.φ q x->w1.heap[x]?=w.heap[x]?:=by intro q Q hnk hq hQ x hx;refine hkeep x (h.rlt q Q hq x hx) (λk hk hxk=>?_);obtain⟨R,hR,hRo⟩:=hks k hk;exact h.apart k R q Q hR hRo hq hQ (λe=>hnk (e ▸ hk)) x hxk hx
 have hUid:∀q R,st.root q=some R->q≠id:=λq R hq e=>hid (e ▸ hI.ro q R (zbr hq).1);have hT:Trans st E w {st with ro:=(id,zcN t m)::moved st ks++st.ro,ep:=st.ep+1} {E with ρ:=λn=>if n=id then v else E.ρ n,φ:=λn=>if n=id then φn else E.φ n} w1 U:=by refine⟨λq hU Q hQ=>?_,λl hU cs1 h1=>⟨⟨cs1,h1⟩,rfl⟩,rfl⟩;rcases hroot q Q hQ with⟨rfl,rfl⟩|⟨hne,hk,R,hR,_,rfl⟩|⟨hne,hnk,hqs,hQe⟩;{exact absurd hU hid};{exact⟨R,hR,rfl,by simp only[hne,if_false];exact(hold q hk R hR).2⟩};{refine⟨Q,hqs,rfl,λp u hp=>?_⟩;simp only[hne,if_false];rw[zda p (h.rep q Q hqs)<|hoth q Q hnk hqs hQe];exact hp}
 have hmine:∀k∈ks,∀x,E.φ k x->(S0 x\/w0.heap.size<=x)/\x<w.heap.size:=by intro k hk x hx;obtain⟨R,hR,hRo⟩:=hks k hk;exact⟨(h.mine k R hR hRo).2 x hx,h.rlt k R hR x hx⟩
 refine⟨⟨hos.trans h.os,htp.trans h.tape,hout.trans h.output,jB h.size hsz,?_,?_,?_,?_,?_,?_,?_,h.linj,?_,?_,h.κ⟩,hT⟩
 .intro b hb hS;refine(hkeep b (jP hb h.size) λk hk hx=>?_).trans (h.keep b hb hS);rcases (hmine k hk b hx).1 with h1|h1
  .exact hS h1
  .omega
 .intro q Q hq;rcases hroot q Q hq with⟨rfl,rfl⟩|⟨hne,hk,R,hR,_,rfl⟩|⟨hne,hnk,hqs,hQe⟩
  .simp only [zcN,if_true];exact hrep
  .simp only [hne,if_false];exact(hold q hk R hR).1
  .simp only [hne,if_false];exact(h.rep q Q hqs).frame (hoth q Q hnk hqs hQe)
 .intro q Q hq x hx;rcases hroot q Q hq with⟨rfl,rfl⟩|⟨hne,hk,R,hR,_,rfl⟩|⟨hne,hnk,hqs,hQe⟩
  .simp only [if_true]at hx;rcases hφ x hx with⟨k,hk,hx⟩|hx
   .exact jP (hmine k hk x hx).2 hsz
   .exact hx.2
  .simp only [hne,if_false]at hx;exact jP (h.rlt q R hR x hx) hsz
  .simp only [hne,if_false]at hx;exact jP (h.rlt q Q hqs x hx) hsz
 .intro q Q hq hoq;rcases hroot q Q hq with⟨rfl,rfl⟩|⟨hne,hk,R,hR,_,rfl⟩|⟨hne,hnk,hqs,hQe⟩
  .refine⟨rfl,λx hx=>?_⟩;simp only[if_true]at hx;rcases hφ x hx with⟨k,hk,hx⟩|hx
   .exact(hmine k hk x hx).1
   .exact .inr (jB h.size hx.1)
  .cases hoq
  .simp only [hne,if_false];exact h.mine q Q hqs hoq
 .intro hz q Q hq hoq he hf;rcases hroot q Q hq with⟨rfl,rfl⟩|⟨hne,hk,R,hR,_,rfl⟩|⟨hne,hnk,hqs,hQe⟩
  .cases hoq
  .cases he
  .simp only [hne,if_false];exact h.frz hz q Q hqs hoq he hf
 .intro q Q q' Q' hq hoq hq' he hnn x hx;rcases hroot q Q hq with⟨rfl,rfl⟩|⟨hne,hk,R,hR,_,rfl⟩|⟨hne,hnk,hqs,hQe⟩
  .rcases hroot q' Q' hq' with⟨rfl,rfl⟩|⟨hne',hk',R',hR',_,rfl⟩|⟨hne',hnk',hqs',hQe'⟩
   .exact absurd rfl hnn
   .cases he
   .simp only [if_true]at hx;simp only[hne',if_false];rcases hφ x hx with⟨k,hk,hx⟩|hx
    .obtain⟨R,hR,hRo⟩:=hks k hk;exact h.apart k R q' Q' hR hRo hqs' hQe' (λe=>hnk' (e ▸ hk)) x hx
    .intro hx';have:=h.rlt q' Q' hqs' x hx';omega
  .cases hoq
  .simp only [hne,if_false]at hx;rcases hroot q' Q' hq' with⟨rfl,rfl⟩|⟨hne',hk',R',hR',_,rfl⟩|⟨hne',hnk',hqs',hQe'⟩
   .simp only [if_true];intro hx';rcases hφ x hx' with⟨k,hk,hx'⟩|hx'
    .obtain⟨R,hR,hRo⟩:=hks k hk;exact h.apart k R q Q hR hRo hqs hQe (λe=>hnk (e ▸ hk)) x hx' hx
    .have:=h.rlt q Q hqs x hx;omega
   .cases he
   .simp only [hne',if_false];exact h.apart q Q q' Q' hqs hoq hqs' hQe' hnn x hx
 .intro l cs hl;obtain⟨h1,vals,e,h2,h3,h4⟩:=h.loc l cs hl;have hlt:E.β l<w.heap.size:=(qS.1 h2).1;refine⟨h1,vals,e,(hkeep _ hlt λk hk hx=>?_).trans h2,h3,λj c u hc hu=>⟨(h4 j c u hc hu).1,VA.tr hT (λn hn=>(hI.lo l cs hl).2 c (qK hc) n hn) (h4 j c u hc hu).2⟩⟩;obtain⟨R,hR,_⟩:=hks k hk;exact h.lro l cs k R hl hR hx
 .intro l cs q Q hl hq;obtain⟨h1,vals,e,h2,h3,h4⟩:=h.loc l cs hl;have hlt:E.β l<w.heap.size:=(qS.1 h2).1;rcases hroot q Q hq with⟨rfl,rfl⟩|⟨hne,hk,R,hR,_,rfl⟩|⟨hne,hnk,hqs,hQe⟩
  .simp only [if_true];intro hx;rcases hφ _ hx with⟨k,hk,hx⟩|hx
   .obtain⟨R,hR,_⟩:=hks k hk;exact h.lro l cs k R hl hR hx
   .omega
  .simp only [hne,if_false];exact h.lro l cs q R hl hR
  .simp only [hne,if_false];exact h.lro l cs q Q hl hqs
 .intro q Q e hq he;simp only[kD,zl]at hq;split at hq
  .cases hq;cases he
  .rw [zbH]at hq;split at hq
   .rename_i Q' hQ';cases hq;obtain⟨_,R,_,rfl⟩:=zle ks q _ hQ';simp only[qC]at he;subst he;exact qX _
   .exact uU (h.epo q Q e hq he)
theorem Mem.view (h:Mem w0 S0 st E w)(hI:IdsM st U){id:Nat}(hid:¬ U id){r:Nat}{R:Root}(hr:st.root r=some R){t:Ty}{m:List t.den}{v:Value}(hrep:Rep false w v (.s t m) (E.φ r))(htf:t.flat=false->R.t.flat=false) :
 Mem w0 S0 {st with ro:=(id,zfk st R t m)::st.ro} {E with ρ:=λn=>if n=id then v else E.ρ n,φ:=λn=>if n=id then E.φ r else E.φ n} w/\
  Trans st E w {st with ro:=(id,zfk st R t m)::st.ro} {E with ρ:=λn=>if n=id then v else E.ρ n,φ:=λn=>if n=id then E.φ r else E.φ n} w U:=by
 have hroot:∀q Q,({st with ro:=(id,zfk st R t m)::st.ro}:St).root q=some Q->(q=id/\Q=zfk st R t m)\/(q≠id/\st.root q=some Q):=by intro q Q hq;obtain⟨h1,h2⟩:=zbr hq;simp only[zl]at h1;split at h1;{rename_i he;simp only[qL]at he;cases h1;exact .inl ⟨he.symm,rfl⟩};{rename_i he;simp only[qL]at he;exact .inr ⟨λh=>he h.symm,zhx h1 h2⟩}
 have hre:=(zbr hr).2;have hT:Trans st E w {st with ro:=(id,zfk st R t m)::st.ro} {E with ρ:=λn=>if n=id then v else E.ρ n,φ:=λn=>if n=id then E.φ r else E.φ n} w U:=by refine⟨λq hU Q hQ=>?_,λl hU cs1 h1=>⟨⟨cs1,h1⟩,rfl⟩,rfl⟩;rcases hroot q Q hQ with⟨rfl,rfl⟩|⟨hne,hq⟩;{exact absurd hU hid};{exact⟨Q,hq,rfl,by simp only[hne,if_false];exact λ_ _ h=>h⟩}
 refine⟨⟨h.os,h.tape,h.output,h.size,h.keep,?_,?_,?_,?_,?_,?_,h.linj,?_,?_,h.κ⟩,hT⟩
 .intro q Q hq;rcases hroot q Q hq with⟨rfl,rfl⟩|⟨hne,hqs⟩
  .simp only [zfk,if_true];exact hrep
  .simp only [hne,if_false];exact h.rep q Q hqs
 .intro q Q hq x hx;rcases hroot q Q hq with⟨rfl,rfl⟩|⟨hne,hqs⟩
  .simp only [if_true]at hx;exact h.rlt r R hr x hx
  .simp only [hne,if_false]at hx;exact h.rlt q Q hqs x hx
 .intro q Q hq hoq;rcases hroot q Q hq with⟨rfl,rfl⟩|⟨hne,hqs⟩
  .cases hoq
  .simp only [hne,if_false];exact h.mine q Q hqs hoq
 .intro hz q Q hq hoq he hf;rcases hroot q Q hq with⟨rfl,rfl⟩|⟨hne,hqs⟩
  .simp only [zfk]at he;split at he
   .cases he
   .rename_i hown;simp only[if_true];exact h.frz hz r R hr (by simpa using hown) he (htf hf)
  .simp only [hne,if_false];exact h.frz hz q Q hqs hoq he hf
 .intro q Q q' Q' hq hoq hq' he hnn x hx;rcases hroot q Q hq with⟨rfl,rfl⟩|⟨hne,hqs⟩
  .cases hoq
  .simp only [hne,if_false]at hx;rcases hroot q' Q' hq' with⟨rfl,rfl⟩|⟨hne',hqs'⟩
   .simp only [if_true];simp only[zfk]at he;split at he
    .cases he
    .rename_i hown;refine h.apart q Q r R hqs hoq hr he (λe=>?_) x hx;subst e;rw[hr]at hqs;cases hqs;exact hown hoq
   .simp only [hne',if_false];exact h.apart q Q q' Q' hqs hoq hqs' he hnn x hx
 .intro l cs hl;obtain⟨h1,vals,e,h2,h3,h4⟩:=h.loc l cs hl;exact⟨h1,vals,e,h2,h3,λj c u hc hu=>⟨(h4 j c u hc hu).1,VA.tr hT (λn hn=>(hI.lo l cs hl).2 c (qK hc) n hn) (h4 j c u hc hu).2⟩⟩
 .intro l cs q Q hl hq;rcases hroot q Q hq with⟨rfl,rfl⟩|⟨hne,hqs⟩
  .simp only [if_true];exact h.lro l cs r R hl hr
  .simp only [hne,if_false];exact h.lro l cs q Q hl hqs
 .intro q Q e hq he;simp only[zl]at hq;split at hq
  .cases hq;simp only[zfk]at he;split at he
   .cases he;exact qX _
   .exact h.epo r R e (zbr hr).1 he
  .exact h.epo q Q e hq he
end
def zeroV:CTy->Value
 |.i k=>.int k 0
 |.b=>.bool false
 |.s _=>.slice none 0 0
def zP3:TypeDesc->Bool
 |.struct _ | .array _ _=>true
 |_=>false
structure TypeOk (P:Program) (T:TypeId) (agg:Bool) (tys:List CTy):Prop where
 und:∃d,P.underlying T=some d/\zP3 d=agg/\(∀k,tys=[.i k]->agg=false->d = .int k)/\(tys=[.b]->agg=false->d = .bool)
 info:∃i z,P.info? T=some i/\i.size=tys.length/\i.zero=some z/\z.cells.toList=tys.map zeroV
 one:agg=false->tys.length=1
structure ElemOk (P:Program) (T e:TypeId) (t:Ty):Prop where
 und:P.underlying T=some (.slice e)
 info:∃i z,P.info? e=some i/\i.size=t.width/\i.zero=some z/\z.cells.toList=t.shape.map zeroV/\i.bytes<=1024
structure FieldOk (P:Program) (T:TypeId) (f off n:Nat):Prop where
 ok:∃(fs:Array Field) (x:Field) (i:TypeInfo),P.underlying T=some (.struct fs)/\fs[f]?=some x/\x.offset=off/\P.info? x.type=some i/\i.size=n/\n≠0
def VS:At->Value->Prop
 |.i k n,v=>v = .int k n
 |.b x,v=>v = .bool x
 |_,_=>True
def VSs (l:List At)(xs:Array Value):Prop:=xs.size=l.length/\∀(j:Nat) (a:At) (u:Value),l[j]?=some a->xs[j]?=some u->VS a u
structure CfgOk (C:Cfg):Prop where
 cty:∀T agg tys,C.cty T=some (agg,tys)->TypeOk C.P T agg tys
 sty:∀T t,C.sty T=some t->∃e,ElemOk C.P T e t
 fof:∀T f off n,C.fof T f=some (off,n)->FieldOk C.P T f off n
 str:∀T tys,C.cty T=some (true,tys)->∃(fs:Array Field) (places:List (Nat×Nat)),C.P.underlying T=some (.struct fs)/\fs.toList.mapM (fun f=>(C.P.info? f.type).map fun i=>(f.offset,i.size))=some places/\
  ∀f off n,C.fof T f=some (off,n)->places[f]?=some (off,n)
 eqt:∀T tys,C.eqt T=true->C.cty T=some (true,tys)->∀(l m:List At) (e:Bool) (xs ys:Array Value) (w:World) (x y:Operand) (op:BinOp),
  zcl zni l=some tys->zcl zni m=some tys->zs5 l m=some e->VSs l xs->VSs m ys->
  (eqGuard op T x y (.agg xs) (.agg ys)).run C.P w = .ok () w/\(Op.equal T (.agg xs) (.agg ys)).run C.P w = .ok e w
section
variable {P:Program} {w:World}
theorem ztB {T:TypeId}{agg:Bool}{tys:List CTy}(h:TypeOk P T agg tys):(isAgg T).run P w = .ok agg w:=by obtain⟨d,hd,ha,_,_⟩:=h.und;subst ha;unfold isAgg;rw[Sem.run_bind,run_underlying hd w];cases d<;>simp [zP3]
theorem zwW {T:TypeId}{agg:Bool}{tys:List CTy}(h:TypeOk P T agg tys):(sizeOf T).run P w = .ok tys.length w:=by obtain⟨i,z,hi,hs,_⟩:=h.info;simp[sizeOf,typeInfo,hi,hs]
theorem z0i {T:TypeId}{agg:Bool}{tys:List CTy}(h:TypeOk P T agg tys):∃z,(zeroValue T).run P w = .ok z w/\z.cells.toList=tys.map zeroV:=by obtain⟨i,z,hi,hs,hz,hc⟩:=h.info;exact⟨z,by simp[zeroValue,typeInfo,hi,hz],hc⟩
end
section
variable {C:Cfg} {w0 w:World} {S0:zT} {U:Nat->Prop} {st:St} {E:Env} {ts:Array Value} {sv:List (Array Value)}
def Mine (id:Nat)(n:Nat):Prop:=id<=n/\n<id+32
def Goes (C:Cfg)(w0:World)(S0:zT)(U:Nat->Prop)(st:St)(ts:Array Value)(sv:List (Array Value))(w:World)(o:Oper)(id:Nat)(st':St->St):Prop :=
 ∀(next:Act->World->Prop) (Q:Exit->Act->World->Prop),
  (∀E' v w',Sim w0 S0 (λn=>U n\/Mine id n) (st' st) E' (({tmps:=ts,defers:=[]}:Act).put o.dst v).tmps sv w'->next (({tmps:=ts,defers:=[]}:Act).put o.dst v) w')->
  o.wp C.P {tmps:=ts,defers:=[]} w next Q
theorem zGC {o:Oper}{id:Nat}{f:St->St}{v:Value}{w':World}{E':Env}(hr:(execOp ({tmps:=ts,defers:=[]}:Act).eval o).run C.P w = .ok (.value v) w')(h:Sim w0 S0 (λn=>U n\/Mine id n) (f st) E' (({tmps:=ts,defers:=[]}:Act).put o.dst v).tmps sv w'):Goes C w0 S0 U st ts sv w o id f:=by intro next Q hn;unfold Oper.wp;rw[hr,Oper.upon_value];exact hn E' v w' h
theorem ztg {o:Oper}{id:Nat}{f:St->St}{w':World}{E':Env}(hr:(execOp ({tmps:=ts,defers:=[]}:Act).eval o).run C.P w = .ok .skip w')(h:Sim w0 S0 (λn=>U n\/Mine id n) (f st) E' (({tmps:=ts,defers:=[]}:Act).put o.dst undef).tmps sv w'):Goes C w0 S0 U st ts sv w o id f:=by intro next Q hn;unfold Oper.wp;rw[hr,Oper.upon_skip];exact hn E' undef w' h
theorem Sim.trans_self:Trans st E w st E w U:=⟨λ_ _ R h=>⟨R,h,rfl,λ_ _ h=>h⟩,λ_ _ cs h=>⟨⟨cs,h⟩,rfl⟩,rfl⟩
theorem zcY (hS:Sim w0 S0 U st E ts sv w){o:Oper}{id:Nat}{mv:MV}{v:Value}(hr:(execOp ({tmps:=ts,defers:=[]}:Act).eval o).run C.P w = .ok (.value v) w)(hv:VM w st E mv v)(hi:∀n∈mv.ids,U n):Goes C w0 S0 U st ts sv w o id (λst=>st.apply o.dst {v:=mv}):=by refine zGC hr (E':=E) ?_;exact Sim.next hS (st1:=st) hS.mem Sim.trans_self rfl rfl (λn h=>.inl h) (λn R h=>.inl (hS.ids.ro n R h)) (λn cs h=>⟨.inl (hS.ids.lo n cs h).1,λa ha m hm=>.inl ((hS.ids.lo n cs h).2 a ha m hm)⟩) hv (λn hn=>.inl (hi n hn))
def zq9 (C:Cfg)(U:Nat->Prop)(st:St)(E:Env)(ts:Array Value)(w:World)(o:Oper)(d:Dl):Prop :=
 ∃v,(execOp ({tmps:=ts,defers:=[]}:Act).eval o).run C.P w = .ok (.value v) w/\VM w st E d.v v/\(∀n∈d.v.ids,U n)/\d.lo=[]/\d.ro=[]/\d.bump=false
theorem zpG {o:Oper}{mv:MV}{c:Bool}{v:Value}(hr:(execOp ({tmps:=ts,defers:=[]}:Act).eval o).run C.P w = .ok (.value v) w)(hv:VM w st E mv v)(hi:∀n∈mv.ids,U n):zq9 C U st E ts w o {c,v:=mv} :=
 ⟨v,hr,hv,hi,rfl,rfl,rfl⟩
theorem zq9.goes {o:Oper}{d:Dl}(h:zq9 C U st E ts w o d)(hS:Sim w0 S0 U st E ts sv w){id:Nat}:Goes C w0 S0 U st ts sv w o id (λst=>st.apply o.dst d):=by obtain⟨v,hr,hv,hi,h1,h2,h3⟩:=h;have e:(λst:St=>st.apply o.dst d)=λst=>st.apply o.dst {v:=d.v}:=(by funext st;simp only[St.apply,h1,h2,h3]);rw[e];exact zcY hS hr hv hi
theorem zPd {v:Value}{a:At}(h:zGk v=some a):VA w st E a v/\a.ids=[]:=by cases v<;>simp [zGk]at h<;>subst h<;>exact⟨rfl,rfl⟩
theorem zbX (hS:Sim w0 S0 U st E ts sv w){x:Operand}{mv:MV}(h:st.opnd x=some mv) :
 VM w st E mv (({tmps:=ts,defers:=[]}:Act).eval x)/\∀n∈mv.ids,U n:=by
 cases x with
 |tmp t=>have ht:st.tm[t]?=some mv:=(by simp only[St.opnd]at h;split at h;{cases h};{exact h});have hlt:t<st.tm.length:=(qA.1 ht).1;have hts:ts[t]?=some (({tmps:=ts,defers:=[]}:Act).eval (.tmp t)):=(by have:t<ts.size:=(by rw[hS.tm.1];exact hlt);simp[Act.eval,Array.getD,this]);exact⟨hS.tm.2 t mv _ ht hts,λn hn=>hS.ids.tm mv (qK ht) n hn⟩
 |const v=>simp only[St.opnd]at h;split at h;{rename_i a ha;cases h;obtain⟨h1,h2⟩:=zPd (w:=w) (st:=st) (E:=E) ha;refine⟨h1,λn hn=>?_⟩;simp[MV.ids,zbw,zN,h2]at hn};{cases h}
 |global g=>simp[St.opnd]at h
 |func f=>simp only[St.opnd,qC]at h;subst h;refine⟨⟨#[],rfl,rfl,λk l u hk=>by simp at hk⟩,λn hn=>?_⟩;simp[MV.ids,zbw,zN,At.ids,zbh,zbn]at hn
theorem zI2 {x:Operand}{a:At}(h:st.at x=some a):st.opnd x=some (.v<|.at a):=by unfold St.at at h;split at h;{rename_i b hb;cases h;exact hb};{cases h}
theorem zbA (hS:Sim w0 S0 U st E ts sv w){x:Operand}{a:At}(h:st.at x=some a) :
 VA w st E a (({tmps:=ts,defers:=[]}:Act).eval x)/\∀n∈a.ids,U n:=by
 obtain⟨h1,h2⟩:=zbX hS (zI2 h);exact⟨h1,λn hn=>h2 n (by simpa [MV.ids,zbw,zN] using hn)⟩
theorem zdG {a:At}:(MV.v<|.at a).ids=a.ids:=by simp[MV.ids,zbw,zN]
theorem zYi (hS:Sim w0 S0 U st E ts sv w){o:Oper}{x:Operand}{mv:MV}(ho:o.op = .move x\/o.op = .assign x)(h:st.opnd x=some mv) :
 zq9 C U st E ts w o {v:=mv}:=by
 obtain⟨h1,h2⟩:=zbX hS h;refine zpG ?_ h1 h2;rcases ho with ho|ho<;>simp [execOp,ho]
theorem zYx (hS:Sim w0 S0 U st E ts sv w){o:Oper}{id:Nat}{x:Operand}{mv:MV}(ho:o.op = .move x\/o.op = .assign x)(h:st.opnd x=some mv) :
 Goes C w0 S0 U st ts sv w o id (λst=>st.apply o.dst {v:=mv}):=(zYi hS ho h).goes hS
theorem z5b (hS:Sim w0 S0 U st E ts sv w){o:Oper}{id:Nat}{c a b:Operand}{d:Dl}(ho:o.op = .pick c a b)(h:delta C st o id=some d):Goes C w0 S0 U st ts sv w o id (λst=>st.apply o.dst d):=by simp only[delta,ho]at h;split at h;{rename_i cb x y h1 h2 h3;cases h;have hc:=(zbA hS h1).1;have hx:=(zbX hS h2).1;have hy:=(zbX hS h3).1;refine zcY hS (v:=.bool (cond cb x y)) ?_ rfl (by simp[MV.ids,zbw,zN,At.ids,zbh,zbn]);simp only[VA]at hc;simp only[VM,VT,VA]at hx hy;cases cb<;>simp [execOp,ho,hc,hx,hy,asBool]};{rename_i v h1 h2 hnn;cases h;have hc:=(zbA hS h1).1;obtain⟨hx,hxi⟩:=zbX hS h2;refine zcY hS ?_ hx hxi;simp only[VA]at hc;simp[execOp,ho,hc,asBool]};{rename_i v h1 h2 hnn;cases h;have hc:=(zbA hS h1).1;obtain⟨hx,hxi⟩:=zbX hS h2;refine zcY hS ?_ hx hxi;simp only[VA]at hc;simp[execOp,ho,hc,asBool]};{cases h}
theorem zH8 (hS:Sim w0 S0 U st E ts sv w){o:Oper}{id:Nat}{x:Operand}{d:Dl}(ho:o.op = .nilCheck x)(h:delta C st o id=some d):zq9 C U st E ts w o d:=by simp only[delta,ho]at h;split at h;{rename_i l off h1;cases h;obtain⟨h2,h3⟩:=zbA hS h1;obtain⟨a,ha⟩:=h2.1;refine zpG ?_ h2 (by rw[zdG];exact h3);simp[execOp,ho,ha]};{rename_i r p i off h1;cases h;obtain⟨h2,h3⟩:=zbA hS h1;obtain⟨a,ha⟩:=h2.1;refine zpG ?_ h2 (by rw[zdG];exact h3);simp[execOp,ho,ha]};{cases h}
theorem zWn (hS:Sim w0 S0 U st E ts sv w){o:Oper}{id:Nat}{x:Operand}{d:Dl}(ho:o.op = .nilCheck x)(h:delta C st o id=some d):Goes C w0 S0 U st ts sv w o id (λst=>st.apply o.dst d):=(zH8 (id:=id) hS ho h).goes hS
theorem zYt {op:BinOp}{k:IntKind}{x y:Int}{c:Bool}{a:At}(hs:zT6 op=false)(h:zVH op k x y=some (c,a))(hc:c=true)(T:TypeId)(p q:Operand) :
 ∃v,((do eqGuard op T p q (.int k x) (.int k y);binOp op T (.int k x) (.int k y)):Sem Value).run C.P w = .ok v w/\VA w st E a v/\a.ids=[]:=by
 have hg:(eqGuard op T p q (.int k x)<|.int k y).run C.P w = .ok () w:=by unfold eqGuard;split<;>rfl
 cases op<;>simp only [zVH,qC,jR,reduceCtorEq]at h<;>(obtain⟨h1,rfl⟩:=h) <;>
  refine⟨_,?_,rfl,rfl⟩<;>rw [Sem.run_bind,hg]<;>simp only [Result.andThen_ok,binOp,ne_eq,not_true_eq_false,if_false,Op.intArith,Op.intBits,Op.intCmp,Sem.run_pure,zD,wsub,zlI,wand,wor,z0J,zw8,ieq,ine,ilt,ile,igt,ige]
 case quo=>
  subst hc;have:y≠0:=by simpa [ine] using h1
  simp[Op.intDiv,this,zSn]
 case rem=>
  subst hc;have:y≠0:=by simpa [ine] using h1
  simp[Op.intDiv,this,zkT]
theorem zSE {op:BinOp}{T:TypeId}{p q:Operand}{k k':IntKind}{x y:Int}:(eqGuard op T p q (.int k x)<|.int k' y).run C.P w = .ok () w:=by unfold eqGuard;split<;>rfl
theorem zPB {op:BinOp}{T:TypeId}{p q:Operand}{x y:Bool}:(eqGuard op T p q (.bool x)<|.bool y).run C.P w = .ok () w:=by unfold eqGuard;split<;>rfl
theorem zTe {op:BinOp}{k k':IntKind}{x y:Int}{c:Bool}{a:At}(h:shiftOp op k x y=some (c,a))(hc:c=true)(T:TypeId)(p q:Operand) :
 ∃v,((do eqGuard op T p q (.int k x) (.int k' y);binOp op T (.int k x) (.int k' y)):Sem Value).run C.P w = .ok v w/\VA w st E a v/\a.ids=[]:=by
 cases op<;>simp only [shiftOp,qC,jR,reduceCtorEq]at h<;>(obtain⟨h1,rfl⟩:=h) <;>
  refine⟨_,?_,rfl,rfl⟩<;>rw [Sem.run_bind,zSE]<;>subst hc<;>simp only [ile,qY]at h1 <;>
  simp[binOp,Op.shift,show ¬ y<0 by omega,zkU,zjB]
theorem zTR {op:BinOp}{e:Bool}{d:Dl}(h:zzk op e=some d){x y:Value}{T:TypeId}(he:(Op.equal T x y).run C.P w = .ok e w)(h1:binOp .eql T x y=(do pure (.bool<|<- Op.equal T x y)))(h2:binOp .neq T x y=(do pure (.bool<|!(<- Op.equal T x y)))) :
 ∃e',d = .at (.b e')/\(binOp op T x y).run C.P w = .ok (.bool e') w:=by
 unfold zzk at h;split at h
 .cases h;refine⟨_,rfl,?_⟩;rw[h1,Sem.run_bind,he];rfl
 .cases h;refine⟨_,rfl,?_⟩;rw[h2,Sem.run_bind,he];rfl
 .cases h
theorem z3P (hC:CfgOk C)(hS:Sim w0 S0 U st E ts sv w){o:Oper}{id:Nat}{op:BinOp}{T T2:TypeId}{x y:Operand}{d:Dl}(ho:o.op = .binOp op T x y T2)(h:delta C st o id=some d)(hc:d.c=true):Goes C w0 S0 U st ts sv w o id (λst=>st.apply o.dst d):=by
 have run:∀{v:Value},((do eqGuard op T x y (({tmps:=ts,defers:=[]}:Act).eval x) (({tmps:=ts,defers:=[]}:Act).eval y);binOp op T (({tmps:=ts,defers:=[]}:Act).eval x) (({tmps:=ts,defers:=[]}:Act).eval y)):Sem Value).run C.P w = .ok v w->
  (execOp ({tmps:=ts,defers:=[]}:Act).eval o).run C.P w = .ok (.value v) w:=by
  intro v hv;simp only[execOp,ho];rw[Sem.run_bind,hv];rfl
 simp only[delta,ho]at h;split at h;{rename_i k a k' b h1 h2;have hx:=(zbX hS h1).1;have hy:=(zbX hS h2).1;simp only[VM,VT,VA]at hx hy;split at h;{rename_i hs;split at h;{rename_i c r hr;cases h;obtain⟨v,hv,hva,hi⟩:=zTe (C:=C) (w:=w) (st:=st) (E:=E) (k':=k') hr hc T x y;rw[<- hx,<- hy]at hv;exact zcY hS (run hv) hva (by rw[zdG,hi];simp)};{cases h}};{rename_i hs;split at h;{rename_i hk;subst hk;split at h;{rename_i c r hr;cases h;obtain⟨v,hv,hva,hi⟩:=zYt (C:=C) (w:=w) (st:=st) (E:=E) (by simpa using hs) hr hc T x y;rw[<- hx,<- hy]at hv;exact zcY hS (run hv) hva (by rw[zdG,hi];simp)};{cases h}};{cases h}}}
 .rename_i a b h1 h2;have hx:=(zbX hS h1).1;have hy:=(zbX hS h2).1;simp only[VM,VT,VA]at hx hy;split at h
  .rename_i hT;obtain⟨dd,hd,_,_,hb⟩:=(hC.cty T _ _ hT).und;have hbb:=hb rfl rfl;subst hbb;have heq:(Op.equal T (.bool a)<|.bool b).run C.P w = .ok (a==b) w:=run_equalIn_bool' w 9999 T a b hd;obtain⟨e,rfl,hr⟩:=zTR (C:=C) (w:=w) h (x:=.bool a) (y:=.bool b) heq (by rfl) (by rfl)
   have hr2:((do eqGuard op T x y (.bool a) (.bool b);binOp op T (.bool a) (.bool b)):Sem Value).run C.P w = .ok (.bool e) w:=by
    rw[Sem.run_bind,zPB];exact hr
   rw[<- hx,<- hy]at hr2;exact zcY hS (run hr2) rfl (by rw[zdG];simp[At.ids,zbh,zbn])
  {cases h}
 .rename_i l m h1 h2;split at h
  .rename_i tys e hT he;split at h
   .rename_i hh;obtain⟨⟨xs,hxs,hxl,hxv⟩,_⟩:=zbX hS h1;obtain⟨⟨ys,hys,hyl,hyv⟩,_⟩:=zbX hS h2;have vs:∀{a:At} {u:Value},VA w st E a u->VS a u:=(by intro a u hu;cases a<;>first|exact hu|trivial);obtain⟨hg,heq⟩:=hC.eqt T tys hh.1 hT l m e xs ys w x y op hh.2.1 hh.2.2 he ⟨hxl,λj a u ha hu=>vs (hxv j a u ha hu).2⟩ ⟨hyl,λj a u ha hu=>vs (hyv j a u ha hu).2⟩;obtain⟨e',rfl,hr⟩:=zTR (C:=C) (w:=w) h (x:=.agg xs) (y:=.agg ys) heq (by rfl) (by rfl)
    have hr2:((do eqGuard op T x y (.agg xs) (.agg ys);binOp op T (.agg xs) (.agg ys)):Sem Value).run C.P w = .ok (.bool e') w:=by
     rw[Sem.run_bind,hg];exact hr
    rw[<- hxs,<- hys]at hr2;exact zcY hS (run hr2) rfl (by rw[zdG];simp[At.ids,zbh,zbn])
   {cases h}
  {cases h}
 {cases h}
theorem z5c (hS:Sim w0 S0 U st E ts sv w){o:Oper}{id:Nat}{op:UnOp}{T:TypeId}{x:Operand}{d:Dl}(ho:o.op = .unOp op T x)(h:delta C st o id=some d):Goes C w0 S0 U st ts sv w o id (λst=>st.apply o.dst d):=by simp only[delta,ho]at h;split at h;{rename_i a h1;cases h;have hx:=(zbA hS h1).1;simp only[VA]at hx;exact zcY hS (v:=.bool (!a)) (by simp[execOp,ho,hx,Op.unary]) rfl (by rw[zdG];simp[At.ids,zbh,zbn])};{rename_i k n h1;cases h;have hx:=(zbA hS h1).1;simp only[VA]at hx;exact zcY hS (v:=.int k (wsub k 0 n)) (by simp[execOp,ho,hx,Op.unary,Op.intArith,wsub]) rfl (by rw[zdG];simp[At.ids,zbh,zbn])};{cases h}
theorem zYu (hC:CfgOk C)(hS:Sim w0 S0 U st E ts sv w){o:Oper}{id:Nat}{src dst:TypeId}{x:Operand}{d:Dl}(ho:o.op = .convert src dst x)(h:delta C st o id=some d):Goes C w0 S0 U st ts sv w o id (λst=>st.apply o.dst d):=by simp only[delta,ho]at h;split at h;{rename_i y k k' n h0 h1 h2;cases h;have hx:=(zbA hS h2).1;simp only[VA]at hx;obtain⟨dd,hd,_,hk,_⟩:=(hC.cty dst _ _ h1).und;have hk':=hk k rfl rfl;subst hk';obtain⟨ds,hds,_⟩:=(hC.cty src y.1 y.2 h0).und;exact zcY hS (v:=.int k (wcv k n)) (by simp[execOp,ho,hx,convert,run_underlying hds,run_underlying hd,Conv.intToInt,wcv]) rfl (by rw[zdG];simp[At.ids,zbh,zbn])};{cases h}
theorem zYv (hS:Sim w0 S0 U st E ts sv w){o:Oper}{id:Nat}{x:Operand}{j:Nat}{d:Dl}(ho:o.op = .extract x j)(h:delta C st o id=some d):Goes C w0 S0 U st ts sv w o id (λst=>st.apply o.dst d):=by simp only[delta,ho]at h;split at h;{rename_i l h1;split at h;{rename_i y hy;cases h;obtain⟨⟨vs,hvs,hsz,hv⟩,hi⟩:=zbX hS h1;have hlt:j<vs.size:=(by rw[hsz];exact(qA.1 hy).1);refine zcY hS (v:=vs[j]) ?_ (hv j y vs[j] hy (by simp[hlt])) (λn hn=>hi n ?_);{simp [execOp,ho,hvs,Instr.extract,hlt]};{simp only [MV.ids,zbw,qN]at hn ⊢;obtain⟨a,ha,hn⟩:=hn;exact⟨a,⟨y,qK hy,ha⟩,hn⟩}};{cases h}};{cases h}
theorem zl0 {α β:Type}{f:α->Option β}:∀{l:List α} {bs:List β},zcl f l=some bs->l.length=bs.length/\∀(i:Nat) (a:α) (b:β),l[i]?=some a->bs[i]?=some b->f a=some b:=by
 intro l
 induction l with
 |nil=>intro bs h;cases h;exact⟨rfl,λi a b h=>by simp at h⟩
 |cons a l ih=>intro bs h;simp only[zcl]at h;split at h;{rename_i b hb;split at h;{rename_i bs' hbs;cases h;obtain⟨h1,h2⟩:=ih hbs;refine⟨by simp[h1],λi x y hx hy=>?_⟩;cases i with|zero=>simp at hx hy;subst hx hy;exact hb|succ i=>exact h2 i x y (by simpa using hx) (by simpa using hy)};{cases h}};{cases h}
theorem zWm (hS:Sim w0 S0 U st E ts sv w){o:Oper}{id:Nat}{f:FuncId}{first caps:Array Operand}{d:Dl}(ho:o.op = .makeFunc (.func f) first caps)(h:delta C st o id=some d):Goes C w0 S0 U st ts sv w o id (λst=>st.apply o.dst d):=by simp only[delta,ho]at h;split at h;{rename_i ls h1 h2;cases h;obtain⟨hl,hf⟩:=zl0 h2;have hfirst:first = #[]:=(by simpa using h1);have hcap:∀(k l:Nat) (u:Operand),caps[k]?=some u->ls[k]?=some l->st.at u=some (.lp l 0):=(by intro k l u hu hk;have:=hf k u l (by simpa using hu) hk;split at this;{rename_i l' hl';cases this;exact hl'};{cases this});refine zcY hS (v:=.func (.func f) #[] (caps.map ({tmps:=ts,defers:=[]}:Act).eval)) ?_ ⟨_,rfl,by simp[<- hl],?_⟩ ?_;{simp [execOp,ho,Instr.makeFunc,hfirst]};{intro k l u hk hu;simp only[vB]at hu;cases hx:caps[k]? with|none=>rw[hx]at hu;cases hu|some q=>rw[hx]at hu;cases hu;exact(zbA hS<|hcap k l q hx hk).1};{intro n hn;rw[zdG]at hn;simp only[At.ids,zbh,zbn,jO]at hn;obtain⟨k,hk⟩:=qR.1 hn;have hlt:k<caps.size:=(by have:=(qA.1 hk).1;rw[<- hl] at this;simpa using this);exact(zbA hS<|hcap k n caps[k] (by simp[hlt]) hk).2 n (by simp[At.ids,zbh,zbn])}};{cases h}
theorem z3R (hC:CfgOk C)(hS:Sim w0 S0 U st E ts sv w){o:Oper}{id:Nat}{T:TypeId}{x:Operand}{f:Nat}{d:Dl}(ho:o.op = .field T x f)(h:delta C st o id=some d):Goes C w0 S0 U st ts sv w o id (λst=>st.apply o.dst d):=by simp only[delta,ho]at h;split at h;{rename_i fs hfs;split at h;{rename_i fx hfx;split at h;{rename_i agg tys l hT h1;split at h;{rename_i hle;have hTO:=hC.cty fx.type agg tys hT;obtain⟨⟨vs,hvs,hsz,hv⟩,hi⟩:=zbX hS h1;have hfx':fs[f]?=some fx:=hfx;split at h;{cases h;refine zcY hS (v:=.agg (vs.extract fx.offset<|fx.offset+tys.length)) ?_ ⟨_,rfl,by simp;omega,λj a u ha hu=>?_⟩ (λn hn=>hi n ?_);{simp [execOp,ho,hvs,Instr.field,run_underlying hfs,hfx',asAgg,part,ztB hTO,zwW hTO]};{rw [jJ,jM]at ha;split at ha;{rename_i hj;refine hv (fx.offset+j) a u ha ?_;rw[Array.getElem?_extract]at hu;split at hu;{exact hu};{cases hu}};{cases ha}};{simp only [MV.ids,zbw,zN,qN]at hn ⊢;obtain⟨a,ha,hn⟩:=hn;exact⟨a,kI<|jW ha,hn⟩}};{split at h;{rename_i a ha;cases h;have hlt:fx.offset<vs.size:=(by rw[hsz];exact(qA.1 ha).1);have hu:=jY hlt;refine zcY hS (v:=vs[fx.offset]) ?_ (hv fx.offset a _ ha hu).2 (λn hn=>hi n ?_);{simp [execOp,ho,hvs,Instr.field,run_underlying hfs,hfx',asAgg,part,ztB hTO,hu]};{rw [zdG]at hn;simp only[MV.ids,zbw,zN,qN];exact⟨a,qK ha,hn⟩}};{cases h}}};{cases h}};{cases h}};{cases h}};{cases h}
theorem zC4 (hC:CfgOk C)(hS:Sim w0 S0 U st E ts sv w){o:Oper}{id:Nat}{T:TypeId}{x:Operand}{f:Nat}{d:Dl}(ho:o.op = .fieldAddr T x f)(h:delta C st o id=some d):zq9 C U st E ts w o d:=by
 simp only[delta,ho]at h;have run:∀{off n:Nat} {a:Addr},C.fof T f=some (off,n)->({tmps:=ts,defers:=[]}:Act).eval x = .pointer (some a)->
  (execOp ({tmps:=ts,defers:=[]}:Act).eval o).run C.P w = .ok (.value<|.pointer<|some<|a.add off) w:=by
  intro off n a hf hx;obtain⟨fs,fx,i,h1,h2,h3,h4,h5,h6⟩:=(hC.fof T f off n hf).ok;simp[execOp,ho,hx,Instr.fieldAt,run_underlying h1,h2,Instr.sureAddr,fieldPlace,sizeOf,typeInfo,h4,h5,h6,h3]
 have add:∀(b a n:Nat),(⟨b,a,none⟩:Addr).add n=⟨b,a+n,none⟩:=(by intro b a n;unfold Addr.add;split<;>simp_all);split at h;{rename_i off n l o1 hf h1;cases h;obtain⟨⟨⟨a,ha⟩,h2⟩,hi⟩:=zbA hS h1;refine zpG (run hf ha) ⟨⟨_,rfl⟩,λcs hcs=>?_⟩ (by rw[zdG];exact hi);have:=h2 cs hcs;rw[ha] at this;simp only[Value.pointer.injEq,qC] at this;subst this;rw[add]};{rename_i off n r p i o1 hf h1;cases h;obtain⟨⟨⟨a,ha⟩,h2⟩,hi⟩:=zbA hS h1;refine zpG (run hf ha) ⟨⟨_,rfl⟩,λR hR=>?_⟩ (by rw[zdG];exact hi);obtain⟨b,o2,len,cap,t',g1,g2,g3,g4,g5⟩:=h2 R hR;rw[ha] at g5;simp only[Value.pointer.injEq,qC] at g5;subst g5;exact⟨b,o2,len,cap,t',g1,g2,g3,g4,by rw[add,uH]⟩};{cases h}
theorem zTf (hC:CfgOk C)(hS:Sim w0 S0 U st E ts sv w){o:Oper}{id:Nat}{T:TypeId}{x:Operand}{f:Nat}{d:Dl}(ho:o.op = .fieldAddr T x f)(h:delta C st o id=some d):Goes C w0 S0 U st ts sv w o id (λst=>st.apply o.dst d):=(zC4 (id:=id) hC hS ho h).goes hS
theorem z3S (hS:Sim w0 S0 U st E ts sv w){o:Oper}{id:Nat}{T:TypeId}{s:ByteArray}{y:Operand}{d:Dl}(ho:o.op = .index T (.const<|.string s) y)(h:delta C st o id=some d)(hc:d.c=true):Goes C w0 S0 U st ts sv w o id (λst=>st.apply o.dst d):=by simp only[delta,ho]at h;split at h;{rename_i k n hT h2;cases h;have hy:=(zbA hS h2).1;simp only[VA]at hy;have hc':0<=n/\n<(s.size:Int):=qD hc;have hlt:n.toNat<s.size:=(by omega);have hx:({tmps:=ts,defers:=[]}:Act).eval (.const<|.string s) = .string s:=rfl;have hg:s[n.toNat]?=some s[n.toNat]:=getElem?_pos s n.toNat hlt;refine zcY hS (v:=.int .u8 (s[n.toNat].toNat:Int)) ?_ ?_ (by rw[zdG];simp[At.ids,zbh,zbn]);{simp [execOp,ho,hx,hy,Instr.index,run_underlying hT,asIntOf,hc'.1,hg]};{show Value.int .u8 _=Value.int .u8 (byteAt s n);unfold byteAt;rw[hg]}};{cases h}
theorem zfT {r:Nat}{p:List (Int×Nat)}{cv:CV}(h:st.node r p=some cv):∃R,st.root r=some R/\zg3 R.t R.l p=some cv:=by unfold St.node at h;split at h;{rename_i R hR;exact⟨R,hR,h⟩};{cases h}
theorem zsJ (hS:Sim w0 S0 U st E ts sv w){r:Nat}{p:List (Int×Nat)}{v:Value}{t:Ty}{l:List t.den}(hv:VA w st E (.sl r p) v)(hn:st.node r p=some (.s t l)) :
 ∃R S',st.root r=some R/\zuI R.t p=some t/\zQ w R.t (E.ρ r) p=some v/\Rep R.own w v (.s t l) S'/\∀x,S' x->E.φ r x:=by
 obtain⟨R,hR,hg⟩:=zfT hn;have hh:=hv.2 R hR;obtain⟨t',l',S',h1,h2,h3,h4⟩:=Rep.at p (hS.mem.rep r R hR) hh;rw[hg]at h1;cases h1;exact⟨R,S',hR,h2,hh,h3,h4⟩
theorem zC5 (hC:CfgOk C)(hS:Sim w0 S0 U st E ts sv w){o:Oper}{id:Nat}{T:TypeId}{x y:Operand}{d:Dl}(ho:o.op = .indexAddr T x y)(h:delta C st o id=some d)(hc:d.c=true):zq9 C U st E ts w o d:=by simp only[delta,ho]at h;split at h;{rename_i r p n h1 h2;split at h;{rename_i t l hn;split at h;{rename_i hT;cases h;obtain⟨hx,hxi⟩:=zbA hS h1;have hy:=(zbA hS h2).1;simp only[VA]at hy;obtain⟨e,hE⟩:=hC.sty T t hT;obtain⟨R,S',hR,g1,g2,g3,g4⟩:=zsJ hS hx hn;have hc':0<=n/\n<(l.length:Int):=qD hc;obtain⟨i,z,hi,hs,_⟩:=hE.info;generalize hv:({tmps:=ts,defers:=[]}:Act).eval x=v at *;cases g3 with|nil=>simp at hc';omega|void=>simp at hc';omega|sl _ _ b off cap arr e' fz V K _ hb hfz hlen hcap hsz hS' hsub hdis hvv hcc=>have add:(⟨b,off,none⟩:Addr).add (n.toNat*t.width)=⟨b,off+n.toNat*t.width,none⟩:=(by unfold Addr.add;split<;>simp_all);refine zpG (v:=.pointer (some ⟨b,off+n.toNat*t.width,none⟩)) ?_ ⟨⟨_,rfl⟩,λR' hR'=>?_⟩ ?_;{simp [execOp,ho,hv,hy,Instr.indexAt,run_underlying hE.und,asIntOf,hc',sizeOf,typeInfo,hi,hs,add]};{rw [hR]at hR';cases hR';exact⟨b,off,l.length,cap,t,g2,g1,hc'.1,by omega,by simp⟩};{rw [zdG];simpa [At.ids,zbh,zbn] using hxi}};{cases h}};{cases h}};{cases h}
theorem zTg (hC:CfgOk C)(hS:Sim w0 S0 U st E ts sv w){o:Oper}{id:Nat}{T:TypeId}{x y:Operand}{d:Dl}(ho:o.op = .indexAddr T x y)(h:delta C st o id=some d)(hc:d.c=true):Goes C w0 S0 U st ts sv w o id (λst=>st.apply o.dst d):=(zC5 (id:=id) hC hS ho h hc).goes hS
theorem z5J (hS:Sim w0 S0 U st E ts sv w){o:Oper}{id:Nat}{c:Call}{x:Operand}{T e:TypeId}{r:Nat}{p:List (Int×Nat)}{t:Ty}{l:List t.den}(ho:o.op = .call c)(hcb:c.callee = .builtin .len)(hca:c.args.toList=[x])(hct:c.argTypes.toList=[T])(hT:C.P.underlying T=some (.slice e))(h1:st.at x=some (.sl r p))(hn:st.node r p=some (.s t l)):Goes C w0 S0 U st ts sv w o id (λst=>st.apply o.dst (.at<|.i .i64<|ln l)):=by obtain⟨hx,hxi⟩:=zbA hS h1;obtain⟨R,S',hR,g1,g2,g3,g4⟩:=zsJ hS hx hn;obtain⟨⟨a,cap,hv,_⟩,_⟩:=g3.len;have hca':c.args = #[x]:=(by rw[<- hca]);have hct':c.argTypes = #[T]:=(by rw[<- hct]);refine zcY hS (v:=goInt l.length) ?_ rfl (by rw[zdG];simp[At.ids,zbh,zbn]);simp[execOp,ho,resolve,hcb,invoke,builtin,hca',hct',hv,Builtin.len_,run_underlying hT]
end
section
variable {C:Cfg} {w0 w:World} {S0:zT} {U:Nat->Prop} {st:St} {E:Env} {ts:Array Value} {sv:List (Array Value)}
theorem cells_one {v:Value}(h:v.oneCell'=true):v.cells = #[v]:=by cases v<;>simp_all [Value.cells,Value.oneCell']
theorem VA.one {a:At}{v:Value}(h:VA w st E a v)(hb:a≠.bad):v.oneCell'=true:=by cases a with|bad=>exact absurd rfl hb|i k n=>cases h;rfl|b x=>cases h;rfl|sl r p=>obtain⟨⟨a,len,cap,rfl⟩,_⟩:=h;rfl|lp l off=>obtain⟨⟨a,rfl⟩,_⟩:=h;rfl|ep r p i off=>obtain⟨⟨a,rfl⟩,_⟩:=h;rfl|fn f caps=>obtain⟨vs,rfl,_⟩:=h;rfl|kp r J t=>obtain⟨⟨a,len,cap,rfl⟩,_⟩:=h;rfl
theorem zrK {x:Operand}{y:TV}(h:st.opnd x=some (.v y)):y≠.at .bad:=by rintro rfl;cases x with|tmp t=>simp only[St.opnd]at h;split at h;{cases h};{rename_i hne;exact hne h}|const v=>simp only[St.opnd]at h;split at h;{rename_i a ha;simp only[qC,MV.v.injEq,TV.at.injEq]at h;subst h;cases v<;>simp [zGk]at ha};{cases h}|global g=>simp[St.opnd]at h|func f=>simp[St.opnd]at h
theorem VT.cells {x:TV}{v:Value}(h:VT w st E x v)(hb:x≠.at .bad) :
 v.cells.size=(zN x).length/\∀(j:Nat) (a:At) (u:Value),(zN x)[j]?=some a->v.cells[j]?=some u->u.oneCell'=true/\VA w st E a u:=by
 rcases x with a|l
 .have h1:v.oneCell'=true:=VA.one h (λe=>hb (by rw[e]))
  rw[cells_one h1];refine⟨rfl,λj a' u ha hu=>?_⟩;cases j with
  |zero=>simp[zN]at ha hu;subst ha hu;exact⟨h1,h⟩
  |succ j=>simp[zN]at ha
 .obtain⟨vs,rfl,h2,h3⟩:=h;exact⟨h2,h3⟩
theorem znG {P:Program}{T:TypeId}{tys:List CTy}{b off:Nat}{arr:Array Value}{e:TypeId}{fz:Nat×Nat}(hT:TypeOk P T true tys)(hb:w.heap[b]?=some (.cells arr e fz))(h:off+tys.length<=arr.size) :
 (loadVar T ⟨b,off,none⟩).run P w = .ok (.agg ((arr.toList.drop off).take tys.length).toArray) w:=by
 have hl:((arr.toList.drop off).take tys.length).length=tys.length:=by simp;omega
 have:=run_loadCells_list (P:=P) w ⟨b,off,none⟩ ((arr.toList.drop off).take tys.length) (λj v hv=>by
  have hadd:(⟨b,off,none⟩:Addr).add j=⟨b,off+j,none⟩:=by unfold Addr.add;split<;>simp_all
  rw[hadd,cell_of_row w b (off+j) arr e fz hb];rw[jJ]at hv;split at hv
  .simpa [jM] using hv
  .cases hv)
 rw[hl] at this;unfold loadVar;rw[Sem.run_bind,ztB hT];simp[Result.andThen,zwW hT,this]
theorem znH {P:Program}{T:TypeId}{tys:List CTy}{b off:Nat}{arr:Array Value}{e:TypeId}{fz:Nat×Nat}{v:Value}(hT:TypeOk P T false tys)(hb:w.heap[b]?=some (.cells arr e fz))(h:arr[off]?=some v) :
 (loadVar T ⟨b,off,none⟩).run P w = .ok v w:=by
 unfold loadVar;rw[Sem.run_bind,ztB hT];have:w.cell? ⟨b,off,none⟩=some v:=by rw[cell_of_row w b off arr e fz hb];exact h
 simp[this]
theorem zGG:∀(p:List (Int×Nat)) {t t' t2:Ty} {v:Value} {b o len cap:Nat} {i:Int} {j:Nat} {u:Value},zQ w t v p=some (.slice (some ⟨b,o,none⟩) len cap)->zuI t p=some t'->
 0<=i->i.toNat<len->t'.shape[j]?=some (.s t2)->w.cell? ⟨b,o+i.toNat*t'.width+j,none⟩=some u->zQ w t v (p++[(i,j)])=some u
 |[],t,t',t2,v,b,o,len,cap,i,j,u,h1,h2,h3,h4,h5,h6=>by simp only[zQ,qC,zuI]at h1 h2;subst h1 h2;simp[zQ,h3,h4,h5,h6]
 |(i',j')::p,t,t',t2,v,b,o,len,cap,i,j,u,h1,h2,h3,h4,h5,h6=>by simp only[zuI]at h2;split at h2;{rename_i t3 ht3;cases v with|slice a l c=>(cases a with|none=>simp[zQ]at h1|some a=>simp only[zQ,ht3]at h1;simp only[kD,zQ,ht3];split at h1;{rename_i hi;rw[if_pos hi];split at h1;{rename_i v' hv';exact zGG p h1 h2 h3 h4 h5 h6};{cases h1}};{cases h1})|_=>simp[zQ]at h1};{cases h2}
def zwh (r:Nat)(p:List (Int×Nat))(i:Int)(j:Nat):CV->At
 |.i k n=>.i k n
 |.b x=>.b x
 |.s _ _=>.sl r (p++[(i,j)])
theorem zwg (r:Nat)(p:List (Int×Nat))(i:Int):∀(cs:List CV) (j k:Nat),(zqG r p i cs j)[k]?=cs[k]?.map (zwh r p i<|j+k)
 |[],j,k=>by simp[zqG]
 |c::cs,j,k=>by have e:zqG r p i (c::cs) j=zwh r p i j c::zqG r p i cs (j+1):=(by cases c<;>rfl);rw[e];cases k with|zero=>simp|succ k=>simp only[jL];rw[zwg r p i cs (j+1) k];congr 2;omega
theorem zPw (r:Nat)(p:List (Int×Nat))(i:Int):∀(cs:List CV) (j:Nat),(zqG r p i cs j).length=cs.length
 |[],_=>rfl
 |c::cs,j=>by cases c<;>simp [zqG,zPw r p i cs<|j+1]
theorem zMh {r:Nat}{p:List (Int×Nat)}{i:Int}{j:Nat}{c:CV}{n:Nat}(h:n∈(zwh r p i j c).ids):n=r:=by cases c<;>simp [zwh,At.ids,zbh,zbn]at h;exact h
theorem VA.oneC {c:CV}{r:Nat}{p:List (Int×Nat)}{i:Int}{j:Nat}{v:Value}(h:VA w st E (zwh r p i j c) v):v.oneCell'=true :=
 h.one (by cases c<;>simp [zwh])
theorem zYh (hC:CfgOk C)(hS:Sim w0 S0 U st E ts sv w){o:Oper}{id:Nat}{T:TypeId}{x:Operand}{d:Dl}(ho:o.op = .load T x)(h:delta C st o id=some d):zq9 C U st E ts w o d:=by
 have run:∀{v:Value} {a:Addr},({tmps:=ts,defers:=[]}:Act).eval x = .pointer (some a)->(loadVar T a).run C.P w = .ok v w->
  (execOp ({tmps:=ts,defers:=[]}:Act).eval o).run C.P w = .ok (.value v) w:=by
  intro v a hx hr;simp[execOp,ho,Instr.loadAt,hx,Instr.sureAddr,hr]
 simp only[delta,ho]at h;split at h;{rename_i agg tys l off hT h1;obtain⟨hx,hxi⟩:=zbA hS h1;have hTO:=hC.cty T agg tys hT;split at h;{rename_i cs hcs;have hxp:=hx.2 cs hcs;obtain⟨_,vals,e,g1,g2,g3⟩:=hS.mem.loc l cs hcs;have hids:=(hS.ids.lo l cs hcs).2;split at h;{rename_i hagg;cases hagg;split at h;{rename_i hle;cases h;refine zpG (run hxp<|znG hTO g1 (by omega)) ⟨_,rfl,by simp;omega,λj a u ha hu=>?_⟩ ?_;{simp only [jJ,jM]at ha;simp only[jF,jJ,jM,kS]at hu;split at ha;{rename_i hj;rw[if_pos hj]at hu;exact g3 (off+j) a u ha hu};{cases ha}};{intro n hn;simp only[MV.ids,zbw,zN,qN]at hn;obtain⟨a,ha,hn⟩:=hn;exact hids a (kI<|jW ha) n hn}};{cases h}};{rename_i hagg;have:agg=false:=(by simpa using hagg);subst this;split at h;{rename_i a ha;cases h;have hlt:off<vals.size:=(by rw[g2];exact(qA.1 ha).1);have hv:vals[off]?=some vals[off]:=(by simp[hlt]);exact zpG (run hxp<|znH hTO g1 hv) (g3 off a _ ha hv).2 (λn hn=>hids a (qK ha) n (by rw[zdG]at hn;exact hn))};{cases h}}};{cases h}}
 .rename_i agg tys r p i off hT h1;obtain⟨hx,hxi⟩:=zbA hS h1;have hTO:=hC.cty T agg tys hT;split at h
  .rename_i t l hn;obtain⟨R,hR,hg⟩:=zfT hn;obtain⟨b,o2,len,cap,t',e1,e2,e3,e4,e5⟩:=hx.2 R hR;obtain⟨t2,l2,S',f1,f2,f3,f4⟩:=Rep.at p (hS.mem.rep r R hR) e1;rw[hg] at f1;cases f1;rw[e2] at f2;cases f2;have hUr:U r:=hxi r (by simp[At.ids,zbh])
   cases f3 with
   |void=>omega
   |sl _ _ _ _ _ arr e' fz V K _ hb hfz hlen hcap hsz hS' hsub hdis hvv hcc=>
   have hil:l[i.toNat]?=some (ix l i t.dflt):=zlc e4;have hrow:(i.toNat+1)*t.width<=cap*t.width:=qQ _ (by omega);rw[jH]at hrow;have key:∀(j:Nat) (c:CV) (u:Value),(t.cells<|ix l i t.dflt)[j]?=some c->arr[o2+i.toNat*t.width+j]?=some u->VA w st E (zwh r p i j c) u:=(by intro j c u hc hu;have hj:j<t.width:=(by have:=(qA.1 hc).1;rw[zc8] at this;exact this);have hr:=hcc i.toNat _ hil j c hc;have hV:=hvv i.toNat j e4 hj;rw[hV]at hu;cases hu;cases c with|i k n=>exact hr.int_inv|b y=>exact hr.bool_inv|s t3 l3=>obtain⟨⟨a3,cap3,h3,_⟩,_⟩:=hr.len;refine⟨⟨a3,_,cap3,h3⟩,λR' hR'=>?_⟩;rw[hR]at hR';cases hR';exact zGG p e1 e2 e3 e4 (zE5 hc) (by rw[cell_of_block hb];exact hV));split at h;{rename_i hagg;cases hagg;split at h;{rename_i hle;cases h;refine zpG (run e5<|znG hTO hb (by omega)) ⟨_,rfl,?_,λj a u ha hu=>?_⟩ ?_;{rw [zPw];simp[zc8];omega};{rw [zwg]at ha;simp only[jJ,jM]at ha;simp only[jF,jJ,jM,kS]at hu;split at ha;{rename_i hj;rw[if_pos hj]at hu;cases hc:(t.cells<|ix l i t.dflt)[off+j]? with|none=>rw[hc]at ha;cases ha|some c=>rw[hc]at ha;cases ha;have:=key (off+j) c u hc (by rw[<- uH];exact hu);exact⟨this.oneC,this⟩};{cases ha}};{intro n hn;simp only[MV.ids,zbw,zN,qN]at hn;obtain⟨a,ha,hn⟩:=hn;obtain⟨k,hk⟩:=qR.1 ha;rw[zwg]at hk;cases hc:(((t.cells<|ix l i t.dflt).drop off).take tys.length)[k]? with|none=>rw[hc]at hk;cases hk|some c=>rw[hc]at hk;cases hk;rw[zMh hn];exact hUr}};{cases h}};{rename_i hagg;have:agg=false:=(by simpa using hagg);subst this;split at h;{rename_i a ha;cases h;have h0:(zqG r p i (((t.cells<|ix l i t.dflt).drop off).take 1) off)[0]?=some a:=(by rw[ha];rfl);rw[zwg]at h0;cases hc:(((t.cells<|ix l i t.dflt).drop off).take 1)[0]? with|none=>rw[hc]at h0;cases h0|some c=>rw[hc]at h0;simp only[Option.map_some,qC,kB]at h0;subst h0;have hc':(t.cells<|ix l i t.dflt)[off]?=some c:=(by simpa using hc);have hj:off<t.width:=(by have:=(qA.1 hc').1;rw[zc8] at this;exact this);have hV:=hvv i.toNat off e4 hj;exact zpG (run e5<|znH hTO hb hV) (key off c _ hc' hV) (λn hn=>by rw[zdG]at hn;rw[zMh hn];exact hUr)};{cases h}}
  {cases h}
 {cases h}
theorem z5a (hC:CfgOk C)(hS:Sim w0 S0 U st E ts sv w){o:Oper}{id:Nat}{T:TypeId}{x:Operand}{d:Dl}(ho:o.op = .load T x)(h:delta C st o id=some d):Goes C w0 S0 U st ts sv w o id (λst=>st.apply o.dst d):=(zYh (id:=id) hC hS ho h).goes hS
theorem z5L (hS:Sim w0 S0 U st E ts sv w){o:Oper}{id:Nat}{x y:Operand}{a b:Int}{c:Call}(ho:o.op = .call c)(hb:c.callee = .builtin .min)(ha:c.args.toList=[x,y])(h1:st.at x=some (.i .i64 a))(h2:st.at y=some (.i .i64 b)):Goes C w0 S0 U st ts sv w o id (λst=>st.apply o.dst (.at<|.i .i64<|zwG a b)):=by have hx:=(zbA hS h1).1;have hy:=(zbA hS h2).1;simp only[VA]at hx hy;have ha':c.args = #[x,y]:=(by rw[<- ha]);refine zcY hS (v:=.int .i64 (zwG a b)) ?_ rfl (by rw[zdG];simp[At.ids,zbh,zbn]);simp[execOp,ho,resolve,hb,invoke,builtin,ha',hx,hy,run_min_int2,zwG]
theorem z5K (hS:Sim w0 S0 U st E ts sv w){o:Oper}{id:Nat}{x y:Operand}{a b:Int}{c:Call}(ho:o.op = .call c)(hb:c.callee = .builtin .max)(ha:c.args.toList=[x,y])(h1:st.at x=some (.i .i64 a))(h2:st.at y=some (.i .i64 b)):Goes C w0 S0 U st ts sv w o id (λst=>st.apply o.dst (.at<|.i .i64<|imax a b)):=by have hx:=(zbA hS h1).1;have hy:=(zbA hS h2).1;simp only[VA]at hx hy;have ha':c.args = #[x,y]:=(by rw[<- ha]);refine zcY hS (v:=.int .i64 (imax a b)) ?_ rfl (by rw[zdG];simp[At.ids,zbh,zbn]);simp[execOp,ho,resolve,hb,invoke,builtin,ha',hx,hy,run_max_int2,imax]
end
section
variable {C:Cfg} {w0 w w1:World} {S0:zT} {U:Nat->Prop} {st st1:St} {E E1:Env} {ts:Array Value} {sv:List (Array Value)}
theorem zkp (hS:Sim w0 S0 U st E ts sv w){o:Oper}{id:Nat}{mv:MV}{v:Value}{f:St->St}{n:Next}(hr:(execOp ({tmps:=ts,defers:=[]}:Act).eval o).run C.P w = .ok n w1)(hn:n = .value v\/(n = .skip/\v=undef))(hM:Mem w0 S0 st1 E1 w1)(T:Trans st E w st1 E1 w1 U)(hf:f st=st1.put o.dst mv)(htm:st1.tm=st.tm)(hstk:st1.stk=st.stk)(hro:∀n R,zl st1.ro n=some R->U n\/Mine id n)(hlo:∀n cs,zl st1.lo n=some cs->(U n\/Mine id n)/\∀a∈cs,∀m∈a.ids,U m\/Mine id m)(hv:VM w1 st1 E1 mv v)(hi:∀n∈mv.ids,U n\/Mine id n):Goes C w0 S0 U st ts sv w o id f:=by have hs:Sim w0 S0 (λn=>U n\/Mine id n) (f st) E1 (({tmps:=ts,defers:=[]}:Act).put o.dst v).tmps sv w1:=(by rw[hf];exact Sim.next hS hM T htm hstk (λn h=>.inl h) hro hlo hv hi);rcases hn with rfl|⟨rfl,rfl⟩;{exact zGC hr hs};{exact ztg hr hs}
theorem zfh (id:Nat):Mine id id:=⟨qX _,by omega⟩
theorem z5I (hS:Sim w0 S0 U st E ts sv w){o:Oper}{id:Nat}(hid:∀n,Mine id n->¬ U n){T:TypeId}{x:Operand}{d:Dl}(ho:o.op = .box T x)(h:delta C st o id=some d):Goes C w0 S0 U st ts sv w o id (λst=>st.apply o.dst d):=by simp only[delta,ho]at h;split at h;{rename_i y h1;cases h;obtain⟨hx,hxi⟩:=zbX hS h1;obtain⟨hc1,hc2⟩:=VT.cells hx (zrK h1);have hci:∀a∈zN y,∀m∈a.ids,U m:=λa ha m hm=>hxi m (by simp only[MV.ids,zbw,qN];exact⟨a,ha,hm⟩);have hnid:=hid id (zfh id);obtain⟨hM,hT⟩:=hS.mem.addLoc hS.ids.mem hnid (e:=T) hc1 hc2 hci;refine zkp hS (v:=.pointer (some ⟨w.heap.size,0,none⟩)) ?_ (.inl rfl) hM hT rfl rfl rfl (λn R hn=>.inl (hS.ids.ro n R hn)) ?_ ?_ ?_;{simp [execOp,ho,Instr.box,newVar,newRow,newObj,Sem.run]};{intro n cs hn;simp only[zl]at hn;split at hn;{rename_i he;simp only[qL]at he;subst he;cases hn;exact⟨.inr<|zfh _,λa ha m hm=>.inl (hci a ha m hm)⟩};{exact⟨.inl (hS.ids.lo n cs hn).1,λa ha m hm=>.inl ((hS.ids.lo n cs hn).2 a ha m hm)⟩}};{exact⟨⟨_,rfl⟩,λcs _=>by simp⟩};{intro n hn;rw[zdG]at hn;simp only[At.ids,zbh,zbn,jO,qF]at hn;subst hn;exact .inr (zfh _)}};{cases h}
theorem zMY:∀(tys:List CTy) (id k:Nat),(zeros tys id)[k]?=tys[k]?.map (zeroAt<|id+k)
 |[],id,k=>by simp[zeros]
 |c::r,id,k=>by cases k with|zero=>simp[zeros]|succ k=>simp only[zeros,jL];rw[zMY r (id+1) k];congr 2;omega
theorem zAE:∀(tys:List CTy) (id:Nat),(zeros tys id).length=tys.length
 |[],_=>rfl
 |c::r,id=>by simp[zeros,zAE r]
theorem zhZ:∀(tys:List CTy) (id n:Nat) (R:Root),zl (zeroRoots tys id) n=some R->id<=n/\n<id+tys.length/\∃t,R=zcN t []
 |[],_,_,_,h=>by cases h
 |c::r,id,n,R,h=>by have hr:zl (zeroRoots r<|id+1) n=some R->id<=n/\n<id+(c::r).length/\∃t,R=zcN t []:=λh=>(by obtain⟨h1,h2,h3⟩:=zhZ r (id+1) n R h;exact⟨by omega,by simp;omega,h3⟩);cases c with|i k=>exact hr h|b=>exact hr h|s t=>simp only[zeroRoots,zl]at h;split at h;{rename_i he;simp only[qL]at he;cases h;exact⟨by omega,by simp;omega,t,rfl⟩};{exact hr h}
theorem zWH {c:CTy}{id n:Nat}(h:n∈(zeroAt id c).ids):n=id:=by cases c<;>simp [zeroAt,At.ids,zbh,zbn]at h;exact h
def zhY (E:Env)(id:Nat):Env:={E with ρ:=λn=>if id<=n/\n<id+31 then .slice none 0 0 else E.ρ n,φ:=λn=>if id<=n/\n<id+31 then λ_=>False else E.φ n}
theorem Mem.zeroRoots (hS:Mem w0 S0 st E w)(hI:IdsM st U){id:Nat}(hid:∀n,Mine id n->¬ U n){tys:List CTy}(hle:tys.length<=31) :
 Mem w0 S0 {st with ro:=Go.Proofs.YtgjpbkhaaiffkaaGreat.E.zeroRoots tys id++st.ro} (zhY E id) w/\Trans st E w {st with ro:=Go.Proofs.YtgjpbkhaaiffkaaGreat.E.zeroRoots tys id++st.ro} (zhY E id) w U:=by
 refine hS.addRoots hI rfl rfl rfl (qX _) (λ_ _=>rfl) (λr R hr=>?_) (λr R r' R' h1 _ _ x hx=>?_) (λn hn=>?_)
 .obtain⟨h1,h2,t,rfl⟩:=zhZ tys id r R hr;have hm:id<=r/\r<id+31:=⟨h1,by omega⟩
  refine⟨hid r ⟨h1,by omega⟩,rfl,rfl,?_,λx hx=>?_⟩
  .simp only [zhY,if_pos hm,zcN];exact .nil t _
  .simp only [zhY,if_pos hm]at hx
 .obtain⟨h1,h2,_⟩:=zhZ tys id r R h1;have hm:id<=r/\r<id+31:=⟨h1,by omega⟩
  simp only[zhY,if_pos hm]at hx
 .have hm:¬ (id<=n/\n<id+31):=λhm=>hid n ⟨hm.1,by omega⟩ hn
  simp only[zhY,if_neg hm];exact⟨trivial,trivial,trivial⟩
theorem zsM {tys:List CTy}{id k:Nat}{a:At}(hle:tys.length<=31)(h:(zeros tys id)[k]?=some a) :
 ∃c,tys[k]?=some c/\(zeroV c).oneCell'=true/\(∀st w,VA w st (zhY E id) a<|zeroV c)/\∀n∈a.ids,id<=n/\n<id+31:=by
 rw[zMY]at h;cases hc:tys[k]? with
 |none=>rw[hc]at h;cases h
 |some c=>rw[hc]at h;cases h;have hk:k<tys.length:=(qA.1 hc).1;refine⟨c,rfl,by cases c<;>rfl,λst w=>?_,λn hn=>?_⟩;{cases c with|i k=>rfl|b=>rfl|s t=>refine⟨⟨none,0,0,rfl⟩,λR hR=>?_⟩;have hm:id<=id+k/\id+k<id+31:=⟨by omega,by omega⟩;simp only[zQ,zhY,if_pos hm];rfl};{rw [zWH hn];omega}
theorem z3O (hC:CfgOk C)(hS:Sim w0 S0 U st E ts sv w){o:Oper}{id:Nat}(hid:∀n,Mine id n->¬ U n){T:TypeId}{d:Dl}(ho:o.op = .alloc T)(h:delta C st o id=some d):Goes C w0 S0 U st ts sv w o id (fun st=>st.apply o.dst d):=by
 simp only[delta,ho]at h;split at h
 .rename_i agg tys hT;split at h
  .rename_i hle;cases h;obtain⟨hM1,hT1⟩:=hS.mem.zeroRoots hS.ids.mem hid hle;obtain⟨z,hz,hzc⟩:=z0i (w:=w) (hC.cty T agg tys hT);have hIM:IdsM {st with ro:=Go.Proofs.YtgjpbkhaaiffkaaGreat.E.zeroRoots tys id++st.ro} (fun n=>U n\/(id<=n/\n<id+31)):=(by refine⟨fun n R hn=>?_,fun n cs hn=>⟨.inl (hS.ids.lo n cs hn).1,fun a ha m hm=>.inl ((hS.ids.lo n cs hn).2 a ha m hm)⟩⟩;simp only[zbH]at hn;split at hn;{rename_i Q hQ;obtain⟨h1,h2,_⟩:=zhZ tys id n Q hQ;exact .inr ⟨h1,by omega⟩};{exact .inl (hS.ids.ro n R hn)});have hsz:z.cells.size=(zeros tys id).length:=(by rw[zAE,<- kM,hzc];simp);have hcs:∀(j:Nat) (c:At) (u:Value),(zeros tys id)[j]?=some c->z.cells[j]?=some u->u.oneCell'=true/\VA w {st with ro:=Go.Proofs.YtgjpbkhaaiffkaaGreat.E.zeroRoots tys id++st.ro} (zhY E id) c u:=by intro j c u hc hu;obtain⟨ct,h1,h2,h3,_⟩:=zsM (E:=E) hle hc;have:z.cells.toList[j]?=some u:=(by simpa using hu);rw[hzc,qO,h1] at this;cases this;exact⟨h2,h3 _ _⟩
   obtain⟨hM2,hT2⟩:=hM1.addLoc hIM (id:=id+31) (fun hn=>hn.elim (hid _ ⟨by omega,by omega⟩) (fun h=>by omega)) (e:=T) hsz hcs (fun a ha m hm=>by
    obtain⟨k,hk⟩:=qR.1 ha;obtain⟨_,_,_,_,h4⟩:=zsM (E:=E) hle hk;exact .inr (h4 m hm))
   refine zkp hS (v:=.pointer (some ⟨w.heap.size,0,none⟩)) (w1:=w.alloc (.cells z.cells T (0,0))) ?_ (.inl rfl) hM2 ?_ rfl rfl rfl ?_ ?_ ?_ ?_;{simp [execOp,ho,Instr.alloc,hz,newVar,newRow,newObj,Sem.run]}
   .exact ⟨fun r hU R1 hR1=>by
     obtain⟨R,hR,ht,hh⟩:=hT2.ro r (.inl hU) R1 hR1;obtain⟨R',hR',ht',hh'⟩:=hT1.ro r hU R hR;refine⟨R',hR',ht.trans ht',fun p u hp=>?_⟩;rw[<- ht'];exact hh p u (by rw[ht'];exact hh' p u hp),
     fun l hU cs1 h1=>by
     obtain⟨⟨cs,hcs⟩,hβ⟩:=hT2.lo l (.inl hU) cs1 h1;obtain⟨⟨cs',hcs'⟩,hβ'⟩:=hT1.lo l hU cs hcs;exact⟨⟨cs',hcs'⟩,hβ.trans hβ'⟩,hT2.κ.trans hT1.κ⟩
   {intro n R hn;rcases hIM.ro n R hn with h|h;{exact .inl h};{exact .inr ⟨h.1,by omega⟩}};{intro n cs hn;simp only[zl]at hn;split at hn;{rename_i he;simp only[qL]at he;subst he;cases hn;refine⟨.inr ⟨by omega,by omega⟩,fun a ha m hm=>?_⟩;obtain⟨k,hk⟩:=qR.1 ha;obtain⟨_,_,_,_,h4⟩:=zsM (E:=E) hle hk;exact .inr ⟨(h4 m hm).1,by have:=(h4 m hm).2;omega⟩};{exact⟨.inl (hS.ids.lo n cs hn).1,fun a ha m hm=>.inl ((hS.ids.lo n cs hn).2 a ha m hm)⟩}};{exact⟨⟨_,rfl⟩,fun cs _=>by simp⟩};{intro n hn;rw[zdG]at hn;simp only[At.ids,zbh,zbn,jO,qF]at hn;subst hn;exact .inr ⟨by omega,by omega⟩}
  {cases h}
 {cases h}
end
section
variable {C:Cfg} {w0 w w1:World} {S0:zT} {U:Nat->Prop} {st st1:St} {E E1:Env} {ts:Array Value} {sv:List (Array Value)}
theorem zDj (hC:CfgOk C)(hS:Sim w0 S0 U st E ts sv w){o:Oper}{id:Nat}{T:TypeId}{a x:Operand}{agg:Bool}{tys:List CTy}{y:TV}{l off:Nat}{cs:List At}(ho:o.op = .store T a x)(hT:C.cty T=some (agg,tys))(hxv:VM w st E (.v y) (({tmps:=ts,defers:=[]}:Act).eval x))(hxi:∀n∈(MV.v y).ids,U n)(hnb:y≠.at .bad)(ha:st.at a=some (.lp l off))(hcs:zl st.lo l=some cs)(hlen:(zN y).length=tys.length)(hle:off+tys.length<=cs.length) :
 Goes C w0 S0 U st ts sv w o id (λst=>st.apply o.dst {v:=.und,lo:=[(l,splice cs off<|zN y)]}):=by
 obtain⟨hav,hai⟩:=zbA hS ha;obtain⟨hc1,hc2⟩:=VT.cells hxv hnb;have hci:∀a∈zN y,∀m∈a.ids,U m:=λa ha m hm=>hxi m (by simp only[MV.ids,zbw,qN];exact⟨a,ha,hm⟩)
 have hap:=hav.2 cs hcs;obtain⟨g0,vals,e,g1,g2,g3⟩:=hS.mem.loc l cs hcs;obtain⟨hUl,hids⟩:=hS.ids.lo l cs hcs;generalize hv:({tmps:=ts,defers:=[]}:Act).eval x=v at *;have h1c:∀u∈v.cells.toList,u.oneCell'=true:=by intro u hu;obtain⟨j,hj⟩:=qR.1 hu;have hlt:j<(zN y).length:=(by rw[<- hc1];have:=(qA.1 hj).1;simpa using this);exact(hc2 j _ u (qB hlt) (by simpa using hj)).1
 have hcl:v.cells.toList.length=(zN y).length:=by simpa using hc1
 have hst:=run_storeCells_at (P:=C.P) (E.β l) off e v.cells.toList 0 vals w g1 (by rw[hcl,g2];omega) h1c
 have hsp:(vals.toList.take (off+0)++v.cells.toList++vals.toList.drop (off+0+v.cells.toList.length))=splice vals.toList off v.cells.toList:=by simp[splice]
 rw[hsp]at hst;have hb1:off+v.cells.toList.length<=vals.toList.length:=by rw[hcl];simp;omega
 have hb2:off+(zN y).length<=cs.length:=by omega
 have hmem:∀c∈splice cs off (zN y),∀m∈c.ids,U m:=by intro c hc m hm;simp only[splice,jI]at hc;rcases hc with (hc|hc)|hc;{exact hids c (jW hc) m hm};{exact hci c hc m hm};{exact hids c (kI hc) m hm}
 obtain⟨hM,hTr⟩:=hS.mem.stLoc hS.ids.mem hcs (cs':=splice cs off (zN y)) (vals':=(splice vals.toList off v.cells.toList).toArray) (e':=e) (w1:=w.setRow (E.β l) (splice vals.toList off v.cells.toList).toArray)
  rfl rfl rfl (by simp) (λx hx=>setRow_other w _ x _ hx) (setRow_heap w _ _ _ e _ g1)
  (by rw[zid cs off _ hb2,jZ,zid _ _ _ hb1];simpa using g2)
  (λj c u hc hu=>by
   simp only[jF]at hu
   by_cases hj:off<=j/\j<off+(zN y).length
   .rw [zeV cs off _ hb2 j hj.1 hj.2]at hc;rw[zeV _ off _ hb1 j hj.1 (by rw[hcl];exact hj.2)]at hu
    exact hc2 (j-off) c u hc (by simpa using hu)
   .rw [zeK cs off _ hb2 j (by omega)]at hc
    rw[zeK _ off _ hb1 j (by rw[hcl];omega)]at hu
    exact g3 j c u hc (by simpa using hu)) hmem
 refine zkp hS (v:=undef) (mv:=.und) (n:=.skip) ?_ (.inr ⟨rfl,rfl⟩) hM hTr rfl rfl rfl (λn R hn=>.inl (hS.ids.ro n R hn)) ?_ rfl ?_
 .have hsz:v.cells.size=tys.length:=by rw[hc1,hlen]
  simp[execOp,ho,Instr.storeAt,hap,Instr.sureAddr,storeVar,zwW<|hC.cty T agg tys hT,hv,hsz,hst]
 .intro n cs' hn;simp only[zl]at hn;split at hn
  .rename_i he;simp only[qL]at he;subst he;cases hn;exact⟨.inl hUl,λc hc m hm=>.inl (hmem c hc m hm)⟩
  .exact⟨.inl (hS.ids.lo n cs' hn).1,λa ha m hm=>.inl ((hS.ids.lo n cs' hn).2 a ha m hm)⟩
 .intro n hn;simp[MV.ids,zbw]at hn
theorem zWp (hC:CfgOk C)(hS:Sim w0 S0 U st E ts sv w){o:Oper}{id:Nat}{T:TypeId}{a x:Operand}{agg:Bool}{tys:List CTy}{y:TV}{l off:Nat}{cs:List At}(ho:o.op = .store T a x)(hT:C.cty T=some (agg,tys))(hx:st.opnd x=some (.v y))(ha:st.at a=some (.lp l off))(hcs:zl st.lo l=some cs)(hlen:(zN y).length=tys.length)(hle:off+tys.length<=cs.length) :
 Goes C w0 S0 U st ts sv w o id (λst=>st.apply o.dst {v:=.und,lo:=[(l,splice cs off<|zN y)]}):=
 zDj hC hS ho hT (zbX hS hx).1 (zbX hS hx).2 (zrK hx) ha hcs hlen hle
theorem zTq (hC:CfgOk C)(hS:Sim w0 S0 U st E ts sv w){o:Oper}{id:Nat}(hid:∀n,Mine id n->¬ U n){T:TypeId}{a:Operand}{agg:Bool}{t:Ty}{l off:Nat}{cs:List At}(ho:o.op = .store T a (.const<|.slice none 0 0))(hT:C.cty T=some (agg,[.s t]))(ha:st.at a=some (.lp l off))(hcs:zl st.lo l=some cs)(hle:off+1<=cs.length) :
 Goes C w0 S0 U st ts sv w o id (λst=>st.apply o.dst {v:=.und,lo:=[(l,splice cs off [.sl id []])],ro:=[(id,zcN t [])]}):=by
 intro next Q hn;obtain⟨hM,hTr⟩:=hS.mem.zeroRoots hS.ids.mem hid (tys:=[.s t]) (by simp)
 have hS1:Sim w0 S0 (λn=>U n\/Mine id n) {st with ro:=zeroRoots [.s t] id++st.ro} (zhY E id) ts sv w :=
  Sim.next hS hM hTr rfl rfl (λn h=>.inl h) (λn R h=>by
   simp only[zbH]at h;split at h
   .rename_i Q hQ;obtain⟨h1,h2,_⟩:=zhZ [.s t] id n Q hQ;simp only[qV,List.length_nil]at h2;exact .inr ⟨h1,by omega⟩
   .exact .inl (hS.ids.ro n R h))
   (λn cs hn=>⟨.inl (hS.ids.lo n cs hn).1,λa ha m hm=>.inl ((hS.ids.lo n cs hn).2 a ha m hm)⟩) (dst:=none) (mv:=.und) (v:=undef) rfl (λn hn=>by simp[MV.ids,zbw]at hn)
 have g:=zDj (id:=id) hC hS1 (y:=.at (.sl id [])) ho hT ⟨⟨none,0,0,rfl⟩,λR hR=>by simp[zQ,zhY,Act.eval]⟩
  (λn hn=>by
   rw[zdG]at hn;simp only[At.ids,zbh,zbn,jA,qF]at hn;subst hn;exact .inr (zfh _)) (by simp) ha hcs rfl (by simpa using hle)
 refine g next Q (λE' v w' hs=>hn E' v w' ?_);have e:(λn=>(U n\/Mine id n)\/Mine id n)=λn=>U n\/Mine id n:=by funext n;simp[or_assoc]
 rw[e]at hs;exact hs
theorem zPN (hS:Sim w0 S0 U st E ts sv w){o:Oper}{id:Nat}(hid:∀n,Mine id n->¬ U n){t:Ty}{l:List t.den}{c:Bool}{v:Value}{S:zT}(hr:(execOp ({tmps:=ts,defers:=[]}:Act).eval o).run C.P w = .ok (.value v) w1)(hos:w1.os=w.os)(htp:w1.tape=w.tape)(hout:w1.output=w.output)(hsz:w.heap.size<=w1.heap.size)(hkeep:∀x,x<w.heap.size->w1.heap[x]?=w.heap[x]?)(hrep:Rep true w1 v (.s t l) S)(hfresh:∀x,S x->w.heap.size<=x/\x<w1.heap.size) :
 Goes C w0 S0 U st ts sv w o id (λst=>st.apply o.dst {c,v:=.v (.at<|.sl id []),ro:=[(id,zcN t l)]}):=by
 have hnid:=hid id (zfh id);obtain⟨hM,hT⟩:=hS.mem.addRoots hS.ids.mem (dro:=[(id,zcN t l)]) (w1:=w1) (E1:={E with ρ:=λn=>if n=id then v else E.ρ n,φ:=λn=>if n=id then S else E.φ n})
  hos htp hout hsz hkeep (λr R hr=>by
   simp only[zl]at hr;split at hr
   .rename_i he;simp only[qL]at he;subst he;cases hr;exact⟨hnid,rfl,rfl,by simpa [zcN] using hrep,λx hx=>hfresh x (by simpa using hx)⟩
   .cases hr)
  (λr R r' R' h1 h2 hne=>by
   simp only[zl]at h1 h2;split at h1
   .split at h2
    .rename_i e1 e2;simp only[qL] at e1 e2;exact absurd (e1.symm.trans e2) hne
    .cases h2
   .cases h1)
  (λn hn=>by
   have:n≠id:=λe=>hnid (e ▸ hn);simp[this])
 obtain⟨⟨a,cap,hv,_⟩,_⟩:=hrep.len;refine zkp hS hr (.inl rfl) hM hT rfl rfl rfl ?_ (λn cs hn=>⟨.inl (hS.ids.lo n cs hn).1,λa ha m hm=>.inl ((hS.ids.lo n cs hn).2 a ha m hm)⟩) ?_ ?_
 .intro n R hn;simp only[kD,jO,zl]at hn;split at hn
  .rename_i he;simp only[qL]at he;subst he;exact .inr (zfh _)
  .exact .inl (hS.ids.ro n R hn)
 .exact⟨⟨a,_,cap,hv⟩,λR hR=>by simp[zQ]⟩
 .intro n hn;rw[zdG]at hn;simp only[At.ids,zbh,zbn,jA,qF]at hn;subst hn;exact .inr (zfh _)
theorem z2l (hS:Sim w0 S0 U st E ts sv w){o:Oper}{id:Nat}(hid:∀n,Mine id n->¬ U n){t:Ty}(ho:o.op = .move (.const<|.slice none 0 0)\/o.op = .assign (.const<|.slice none 0 0)) :
 Goes C w0 S0 U st ts sv w o id (λst=>st.apply o.dst {v:=.v (.at<|.sl id []),ro:=[(id,zcN t [])]}):=by
 refine zPN hS hid (v:=.slice none 0 0) (S:=λ_=>False) (w1:=w) ?_ rfl rfl rfl (qX _) (λ_ _=>rfl) (.nil t _) (λx hx=>hx.elim);rcases ho with ho|ho<;>simp [execOp,ho,Act.eval]
def zYU:CTy->CV
 |.i k=>.i k 0
 |.b=>.b false
 |.s t=>.s t []
theorem zGm (t:Ty):t.cells t.dflt=t.shape.map zYU:=by cases t<;>rfl
theorem zRl (o:Bool)(w:World)(c:CTy)(S:zT):Rep o w (zeroV c) (zYU c) S:=by cases c with|i k=>exact .i k 0 S|b=>exact .b false S|s t=>exact .nil t S
theorem zAB (t:Ty):0<t.width:=by cases t<;>simp [Ty.width]
theorem zzX {z:Array Value}{t:Ty}(hz:z.toList=t.shape.map zeroV){n i j:Nat}(hi:i<n)(hj:j<t.width) :
 ∃c,t.shape[j]?=some c/\(madeCells z<|n*t.width)[i*t.width+j]?=some (zeroV c):=by
 have hw:z.size=t.width:=by rw[<- kM,hz];simp[zeU]
 have hjs:j<t.shape.length:=by rw[zeU];exact hj
 refine⟨t.shape[j],by simp[hjs],?_⟩
 have hlt:i*t.width+j<n*t.width:=by have:(i+1)*t.width<=n*t.width:=qQ _ hi;rw[jH] at this;omega
 have hm:(i*t.width+j) % t.width=j:=by rw[Nat.add_comm,Nat.add_mul_mod_self_right,Nat.mod_eq_of_lt hj]
 have hzj:z[j]! = zeroV t.shape[j]:=by have h1:z.toList[j]?=some (zeroV t.shape[j]):=(by rw[hz];simp[hjs]);have h2:z[j]?=some (zeroV t.shape[j]):=(by simpa using h1);rw[getElem!_def,h2]
 unfold madeCells;rw[vB,Array.getElem?_range];simp[hlt,hw,hm,hzj]
theorem zJa {n:Int}(h:few n=true):0<=n/\n<=2147483648:=by have:=qD h;omega
theorem zTp (hC:CfgOk C)(hS:Sim w0 S0 U st E ts sv w){o:Oper}{id:Nat}(hid:∀n,Mine id n->¬ U n){T:TypeId}{x y:Operand}{d:Dl}(ho:o.op = .makeSlice T x y)(h:delta C st o id=some d)(hc:d.c=true):Goes C w0 S0 U st ts sv w o id (λst=>st.apply o.dst d):=by
 simp only[delta,ho]at h;split at h
 .rename_i t n m hT h1 h2;cases h;have hx:=(zbA hS h1).1;have hy:=(zbA hS h2).1;simp only[VA]at hx hy;simp only[qE,ieq,qL]at hc;obtain⟨hf,rfl⟩:=hc;obtain⟨h0,hbig⟩:=zJa hf;obtain⟨e,hE⟩:=hC.sty T t hT;obtain⟨i,z,hi,hs,hz,hzc,hby⟩:=hE.info;have hb2:(i.bytes:Int)*n<=281474976710656:=(by have:(i.bytes:Int)*n<=1024*2147483648:=Int.mul_le_mul (by omega) hbig h0 (by omega);omega);have hr:=run_make (P:=C.P) w T e i z hE.und hi hz .i64 .i64 n n h0 (kY _) hb2 (by omega);rw[hs]at hr;have hnn:n.toNat<=2147483648:=(by omega);have hsz:=size_madeCells z.cells (n.toNat*t.width);refine zPN hS hid (S:=λx=>x=w.heap.size) (w1:=w.alloc (.cells (madeCells z.cells<|n.toNat*t.width) e)) (v:=.slice (some ⟨w.heap.size,0,none⟩) n.toNat n.toNat) ?_ rfl rfl rfl (by simp) (λx hx=>heap_alloc_old w _ x hx) ?_ (λx hx=>by subst hx;simp);{simp [execOp,ho,hx,hy,hr]}
  .have hlen:(rp n t.dflt).length=n.toNat:=by simp[rp]
   have:=Rep.sl (o:=true) (w:=w.alloc (.cells (madeCells z.cells<|n.toNat*t.width) e)) t (rp n t.dflt) w.heap.size 0 n.toNat (madeCells z.cells<|n.toNat*t.width) e (0,0)
    (λ_ j=>((t.shape[j]?).map zeroV).getD undef) (λ_ _ _=>False) (λx=>x=w.heap.size) (heap_alloc_new w _) (λ_=>rfl) (by rw[hlen];simp only[big];omega) (by rw[hlen];exact qX _) (by rw[hsz];omega) rfl
    (λ_ _ _ _ _ h=>h.elim) (λ_ _ _ _ _ _ _ _ _ _ h=>h.elim) (λi j hi hj=>by
     rw[hlen]at hi;obtain⟨c,h1,h2⟩:=zzX hzc hi hj;rw[jT,h2,h1];rfl)
    (λi x hx j c hcj=>by
     simp only[rp]at hx;rw[j9]at hx;split at hx
     .cases hx;rw[zGm,qO]at hcj;cases hcc:t.shape[j]? with
      |none=>rw[hcc]at hcj;cases hcj
      |some ct=>rw[hcc]at hcj;cases hcj;exact zRl true _ ct _
     .cases hx)
   rw[hlen] at this;exact this
 {cases h}
end
section
variable {C:Cfg} {w0 w w1:World} {S0:zT} {U:Nat->Prop} {st st1:St} {E E1:Env} {ts:Array Value} {sv:List (Array Value)}
theorem add_lit (b o n:Nat):(⟨b,o,none⟩:Addr).add n=⟨b,o+n,none⟩:=by unfold Addr.add;split<;>simp_all
theorem z3g {P:Program}{T e:TypeId}(h:P.underlying T=some (.slice e)):P.elem T=e/\P.underlying T=some (.slice<|P.elem T):=by have:P.elem T=e:=(by simp[Program.elem,h]);exact⟨this,by rw[this];exact h⟩
theorem Rep.subO {o:Bool}{t:Ty}{l:List t.den}{a:Option Addr}{len cap x y:Nat}{S:zT}(h:Rep o w (.slice a len cap) (.s t l) S)(hxy:x<=y)(hy:y<=l.length) :
 Rep o w (sliced a x y cap t.width) (.s t<|(l.take y).drop x) S:=by
 cases h with
 |nil=>have hy0:y=0:=(by simpa using hy);have hx0:x=0:=(by omega);subst hy0 hx0;exact .nil t S
 |void _ a _ ho=>have hy0:y=0:=(by simpa using hy);have hx0:x=0:=(by omega);subst hy0 hx0;exact .void t _ S (by assumption)
 |sl _ _ b off cap arr e fz V K _ hb hfz hlen hcap hsz hS hsub hdis hv hc=>
  have hl:((l.take y).drop x).length=y-x:=by simp;omega
  have e1:sliced (some ⟨b,off,none⟩) x y cap t.width = .slice (some ⟨b,if cap=x then off else off+x*t.width,none⟩) ((l.take y).drop x).length (cap-x):=by
   unfold sliced;rw[hl];split
   .rfl
   .simp [add_lit]
  rw[e1];have hrow:∀i,i<y-x->cap≠x:=λi hi=>(by omega);have hmul:(cap-x)*t.width+x*t.width=cap*t.width:=by rw[<- kP];congr 1;omega
  refine .sl t _ b _ (cap-x) arr e fz (λi j=>V (x+i) j) (λi j=>K (x+i) j) S hb hfz (by rw[hl];omega) (by rw[hl];omega) ?_ hS (λi j z hi hj hk=>⟨(hsub (x+i) j z (by rw[hl]at hi;omega) hj hk).1,(hsub (x+i) j z (by rw[hl]at hi;omega) hj hk).2⟩) (λho i j i' j' z hi hj hi' hj' hk hk'=>by
   rw[hl]at hi hi';have:=hdis ho (x+i) j (x+i') j' z (by omega) hj (by omega) hj' hk hk'
   exact⟨by omega,this.2⟩) ?_ ?_
  {split;{rename_i hcx;subst hcx;simp;omega};{omega}};{intro i j hi hj;rw[hl]at hi;rw[if_neg<|hrow i hi,<- hv (x+i) j (by omega) hj,kP];congr 1;omega};{intro i z hz j c hcj;rw[jM,jJ]at hz;split at hz;{exact hc (x+i) z hz j c hcj};{cases hz}}
theorem Rep.sub {o:Bool}{t:Ty}{l:List t.den}{a:Option Addr}{len cap x y:Nat}{S:zT}(h:Rep o w (.slice a len cap) (.s t l) S)(hxy:x<=y)(hy:y<=l.length) :
 Rep false w (sliced a x y cap t.width) (.s t<|(l.take y).drop x) S:=(h.subO hxy hy).ro
theorem zXC {t0:Ty}{l0:List t0.den}{p:List (Int×Nat)}{t:Ty}{l:List t.den}(h:zg3 t0 l0 p=some (.s t l))(hf:t.flat=false):t0.flat=false:=by
 cases p with
 |nil=>cases h;exact hf
 |cons a p=>
  obtain⟨i,j⟩:=a;cases t0 with
  |kept=>rfl
  |guest=>rfl
  |bare=>rfl
  |mon=>rfl
  |sl t=>rfl
  |int=>match j,h with|0,h=>cases h|n+1,h=>cases h
  |u8=>match j,h with|0,h=>cases h|n+1,h=>cases h
  |bool=>match j,h with|0,h=>cases h|n+1,h=>cases h
  |slot=>match j,h with|0,h=>cases h|1,h=>cases h|n+2,h=>cases h
  |ins=>match j,h with|0,h=>cases h|1,h=>cases h|n+2,h=>cases h
  |entry=>match j,h with|0,h=>cases h|1,h=>cases h|2,h=>cases h|3,h=>cases h|n+4,h=>cases h
  |act=>match j,h with|0,h=>cases h|1,h=>cases h|2,h=>cases h|3,h=>cases h|4,h=>cases h|5,h=>cases h|n+6,h=>cases h
  |told=>match j,h with|0,h=>cases h|1,h=>cases h|n+2,h=>cases h
theorem zts {r:Nat}{R:Root}{p:List (Int×Nat)}{t:Ty}{l:List t.den}(hR:st.root r=some R)(hn:st.node r p=some (.s t l))(hf:t.flat=false):R.t.flat=false:=by obtain⟨R',hR',hg⟩:=zfT hn;rw[hR]at hR';cases hR';exact zXC hg hf
theorem zth (hS:Sim w0 S0 U st E ts sv w){o:Oper}{id:Nat}(hid:∀n,Mine id n->¬ U n){r:Nat}{R:Root}(hR:st.root r=some R){t:Ty}{l:List t.den}{c:Bool}{v:Value}(hr:(execOp ({tmps:=ts,defers:=[]}:Act).eval o).run C.P w = .ok (.value v) w)(hrep:Rep false w v (.s t l) (E.φ r))(htf:t.flat=false->R.t.flat=false) :
 Goes C w0 S0 U st ts sv w o id (λs=>s.apply o.dst {c,v:=.v (.at<|.sl id []),ro:=[(id,zfk st R t l)]}):=by
 have hnid:=hid id (zfh id);obtain⟨hM,hT⟩:=hS.mem.view hS.ids.mem hnid hR hrep htf;obtain⟨⟨a,cap,hv,_⟩,_⟩:=hrep.len;refine zkp hS hr (.inl rfl) hM hT rfl rfl rfl ?_ (λn cs hn=>⟨.inl (hS.ids.lo n cs hn).1,λa ha m hm=>.inl ((hS.ids.lo n cs hn).2 a ha m hm)⟩) ?_ ?_
 .intro n R hn;simp only[zl]at hn;split at hn
  .rename_i he;simp only[qL]at he;subst he;exact .inr (zfh _)
  .exact .inl (hS.ids.ro n R hn)
 .exact⟨⟨a,_,cap,hv⟩,λR hR=>by simp[zQ]⟩
 .intro n hn;rw[zdG]at hn;simp only[At.ids,zbh,zbn,jA,qF]at hn;subst hn;exact .inr (zfh _)
theorem zk9 (hS:Sim w0 S0 U st E ts sv w){o:Oper}{id:Nat}(hid:∀n,Mine id n->¬ U n){ks:List Nat}{t:Ty}{m:List t.den}{c:Bool}{v:Value}{φn:zT}(hr:(execOp ({tmps:=ts,defers:=[]}:Act).eval o).run C.P w = .ok (.value v) w1)(hks:∀k∈ks,∃R,st.root k=some R/\R.own=true)(hos:w1.os=w.os)(htp:w1.tape=w.tape)(hout:w1.output=w.output)(hsz:w.heap.size<=w1.heap.size)(hkeep:∀x,x<w.heap.size->(∀k∈ks,¬ E.φ k x)->w1.heap[x]?=w.heap[x]?)(hφ:∀x,φn x->(∃k∈ks,E.φ k x)\/(w.heap.size<=x/\x<w1.heap.size))(hrep:Rep true w1 v (.s t m) φn)(hold:∀k∈ks,∀R,st.root k=some R->Rep false w1 (E.ρ k) (.s R.t R.l) (E.φ k)/\∀p u,zQ w R.t (E.ρ k) p=some u->zQ w1 R.t (E.ρ k) p=some u) :
 Goes C w0 S0 U st ts sv w o id (λs=>s.apply o.dst {c,v:=.v (.at<|.sl id []),ro:=(id,zcN t m)::moved st ks,bump:=true}):=by
 have hnid:=hid id (zfh id);obtain⟨hM,hT⟩:=hS.mem.merge hS.ids.mem hnid hks hos htp hout hsz hkeep hφ hrep hold;obtain⟨⟨a,cap,hv,_⟩,_⟩:=hrep.len;refine zkp hS hr (.inl rfl) hM hT rfl rfl rfl ?_ (λn cs hn=>⟨.inl (hS.ids.lo n cs hn).1,λa ha m hm=>.inl ((hS.ids.lo n cs hn).2 a ha m hm)⟩) ?_ ?_
 .intro n R hn;simp only[kD,zl]at hn;split at hn
  .rename_i he;simp only[qL]at he;subst he;exact .inr (zfh _)
  .rw [zbH]at hn;split at hn
   .rename_i Q hQ;obtain⟨_,R0,hR0,_⟩:=zle ks n Q hQ;exact .inl (hS.ids.ro n R0 hR0)
   .exact .inl (hS.ids.ro n R hn)
 .exact⟨⟨a,_,cap,hv⟩,λR hR=>by simp[zQ]⟩
 .intro n hn;rw[zdG]at hn;simp only[At.ids,zbh,zbn,jA,qF]at hn;subst hn;exact .inr (zfh _)
theorem zKk {a b n:Int}(h:inr a b n=true):0<=a/\a<=b/\b<=n:=qD h
theorem z3T (hC:CfgOk C)(hS:Sim w0 S0 U st E ts sv w){o:Oper}{id:Nat}(hid:∀n,Mine id n->¬ U n){T:TypeId}{x:Operand}{lo hi:Option Operand}{d:Dl}(ho:o.op = .slice T x lo hi none)(h:delta C st o id=some d)(hc:d.c=true):Goes C w0 S0 U st ts sv w o id (fun st=>st.apply o.dst d):=by
 simp only[delta,ho]at h;split at h
 .rename_i r p h1;split at h
  .rename_i R t l hR hn;split at h
   .rename_i hT;obtain⟨hx,hxi⟩:=zbA hS h1;obtain⟨e,hE⟩:=hC.sty T t hT;obtain⟨hel,hu⟩:=z3g hE.und;obtain⟨i,z,hi',hs,_⟩:=hE.info;have hse:(sizeOf (C.P.elem T)).run C.P w = .ok t.width w:=(by rw[hel];simp[sizeOf,typeInfo,hi',hs]);obtain⟨R',S',hR',g1,g2,g3,g4⟩:=zsJ hS hx hn;rw[hR]at hR';cases hR';obtain⟨⟨a,cap,hv,hcl⟩,hbig⟩:=g3.len;generalize hvv:({tmps:=ts,defers:=[]}:Act).eval x=v at *;subst hv;have g3':=g3.weak (S':=E.φ r) g4;split at h;{cases h;have hrep:=g3'.sub (jS l.length) (qX _);simp only[List.take_length,u4]at hrep;refine zth hS hid hR ?_ hrep (zts hR hn);simp[execOp,ho,hvv,run_sliceAt_slice (P:=C.P) w T _ _ _ _ hu,run_slice_all (P:=C.P) w T a l.length cap hu,hse]}
    .rename_i lo';split at h
     .rename_i n h2;cases h;have hy:=(zbA hS h2).1;simp only[VA]at hy;have hcc:inr n (ln l) (ln l)=true:=(by unfold zI7 at hc;split at hc<;>exact hc);obtain⟨c1,c2,c3⟩:=zKk hcc;simp only[ln] at c2 c3;have hrepO:=g3'.subO (x:=n.toNat) (y:=l.length) (by omega) (qX _);have hrep:=g3'.sub (x:=n.toNat) (y:=l.length) (by omega) (qX _);simp only[List.take_length]at hrep hrepO;have hex:(execOp ({tmps:=ts,defers:=[]}:Act).eval o).run C.P w = .ok (.value (sliced a n.toNat l.length cap t.width)) w:=(by simp[execOp,ho,hvv,hy,run_sliceAt_slice (P:=C.P) w T _ _ _ _ hu,run_slice_l (P:=C.P) w T a l.length cap hu .i64 n c1 c2,hse]);unfold zI7;split
      .rename_i hown;rw[hown]at hrepO;exact zk9 hS hid (w1:=w) (φn:=E.φ r) hex (fun k hk=>by
        simp only[qF]at hk;subst hk;exact⟨R,hR,hown⟩) rfl rfl rfl (qX _) (fun _ _ _=>rfl) (fun z hz=>.inl ⟨r,by simp,hz⟩) hrepO (fun k hk Q hQ=>⟨(hS.mem.rep k Q hQ).ro,fun _ _ h=>h⟩)
      {exact zth hS hid hR hex hrep (zts hR hn)}
     {cases h}
    .rename_i hi2;split at h
     .rename_i n h2;cases h;have hcc:inr 0 n (ln l)=true:=(by unfold zDT at hc;split at hc<;>exact hc);obtain⟨c1,c2,c3⟩:=zKk hcc;simp only[ln] at c2 c3;have hy:=(zbA hS h2).1;simp only[VA]at hy;have hrepO:=g3'.subO (x:=0) (y:=n.toNat) (by omega) (by omega);have hrep:=g3'.sub (x:=0) (y:=n.toNat) (by omega) (by omega);simp only[u4]at hrep hrepO;have hex:(execOp ({tmps:=ts,defers:=[]}:Act).eval o).run C.P w = .ok (.value (sliced a 0 n.toNat cap t.width)) w:=(by simp[execOp,ho,hvv,hy,run_sliceAt_slice (P:=C.P) w T _ _ _ _ hu,run_slice_h (P:=C.P) w T a l.length cap hu .i64 n c2 (by omega),hse]);unfold zDT;split
      .rename_i hown;have hown:R.own=true:=by rw[qE]at hown;exact hown.2
       rw[hown]at hrepO;exact zk9 hS hid (w1:=w) (φn:=E.φ r) hex (fun k hk=>by
        simp only[qF]at hk;subst hk;exact⟨R,hR,hown⟩) rfl rfl rfl (qX _) (fun _ _ _=>rfl) (fun z hz=>.inl ⟨r,by simp,hz⟩) hrepO (fun k hk Q hQ=>⟨(hS.mem.rep k Q hQ).ro,fun _ _ h=>h⟩)
      {exact zth hS hid hR hex hrep (zts hR hn)}
     {cases h}
    {rename_i lo' hi2;split at h;{rename_i n m h2 h3;cases h;obtain⟨c1,c2,c3⟩:=zKk hc;simp only[ln] at c2 c3;have hy:=(zbA hS h2).1;have hz:=(zbA hS h3).1;simp only[VA]at hy hz;have hrep:=g3'.sub (x:=n.toNat) (y:=m.toNat) (by omega) (by omega);refine zth hS hid hR ?_ hrep (zts hR hn);simp[execOp,ho,hvv,hy,hz,run_sliceAt_slice (P:=C.P) w T _ _ _ _ hu,run_slice_lh (P:=C.P) w T a l.length cap hu .i64 .i64 n m c1 c2 (by omega),hse]};{cases h}}
   {cases h}
  {cases h}
 {cases h}
theorem Rep.flat {o o':Bool}{w w':World}{v:Value}{c:CV}{S S':zT}(h:Rep o w v c S)(hf:c.flat=true):Rep o' w' v c S':=by cases h with|i k n=>exact .i k n S'|b x=>exact .b x S'|nil=>cases hf|void=>cases hf|sl=>cases hf
theorem zte {t:Ty}(hf:t.flat=true){x:t.den}{j:Nat}{c:CV}(h:(t.cells x)[j]?=some c):c.flat=true:=by have hs:=zE5 h;have:=qM.1 hf c.ty (qK hs);cases c with|i k n=>rfl|b y=>rfl|s t l=>cases this
theorem Rep.one {o:Bool}{w:World}{v:Value}{c:CV}{S:zT}(h:Rep o w v c S):v.oneCell'=true:=by cases h<;>rfl
structure Rows (o:Bool) (w:World) (t:Ty) (l:List t.den) (arr:Array Value) (off:Nat) (b:Nat) (V:Nat->Nat->Value) (K:Nat->Nat->zT) (S:zT):Prop where
 sub:∀i j x,i<l.length->j<t.width->K i j x->S x/\(o=true->x≠b)
 dis:o=true->∀i j i' j' x,i<l.length->j<t.width->i'<l.length->j'<t.width->K i j x->K i' j' x->i=i'/\j=j'
 val:∀i j,i<l.length->j<t.width->arr[off+i*t.width+j]?=some (V i j)
 con:∀i x,l[i]?=some x->∀j c,(t.cells x)[j]?=some c->Rep o w (V i j) c (K i j)
theorem Rep.join {w1:World}{t:Ty}{l1 l2:List t.den}{b off cap:Nat}{arr:Array Value}{e:TypeId}{V1 V2:Nat->Nat->Value}{K1 K2:Nat->Nat->zT}{S:zT}(hb:w1.heap[b]?=some (.cells arr e (0,0)))(hlen:l1.length+l2.length<=big)(hcap:l1.length+l2.length<=cap)(hsz:off+cap*t.width<=arr.size)(hS:S b)(v1:∀i j,i<l1.length->j<t.width->arr[off+i*t.width+j]?=some (V1 i j))(v2:∀i j,i<l2.length->j<t.width->arr[off+(l1.length+i)*t.width+j]?=some (V2 i j))(c1:∀i x,l1[i]?=some x->∀j c,(t.cells x)[j]?=some c->Rep true w1 (V1 i j) c (K1 i j))(c2:∀i x,l2[i]?=some x->∀j c,(t.cells x)[j]?=some c->Rep true w1 (V2 i j) c (K2 i j))(s1:∀i j x,i<l1.length->j<t.width->K1 i j x->S x/\x≠b)(s2:∀i j x,i<l2.length->j<t.width->K2 i j x->S x/\x≠b)(d1:∀i j i' j' x,i<l1.length->j<t.width->i'<l1.length->j'<t.width->K1 i j x->K1 i' j' x->i=i'/\j=j')(d2:∀i j i' j' x,i<l2.length->j<t.width->i'<l2.length->j'<t.width->K2 i j x->K2 i' j' x->i=i'/\j=j')(d12:∀i j i' j' x,i<l1.length->j<t.width->i'<l2.length->j'<t.width->K1 i j x->¬ K2 i' j' x) :
 Rep true w1 (.slice (some ⟨b,off,none⟩) (l1.length+l2.length) cap) (.s t<|ap l1 l2) S:=by
 have hl:(ap l1 l2).length=l1.length+l2.length:=by simp[ap]
 rw[<- hl];refine .sl t (ap l1 l2) b off cap arr e (0,0) (λi j=>if i<l1.length then V1 i j else V2 (i-l1.length) j) (λi j=>if i<l1.length then K1 i j else K2 (i-l1.length) j) S hb (λ_=>rfl) (by omega) (by omega) hsz hS ?_ ?_ ?_ ?_
 .intro i j x hi hj hk
  by_cases h:i<l1.length
  .simp only [if_pos h]at hk;exact⟨(s1 i j x h hj hk).1,λ_=>(s1 i j x h hj hk).2⟩
  .simp only [if_neg h]at hk;have:=s2 (i-l1.length) j x (by omega) hj hk
   exact⟨this.1,λ_=>this.2⟩
 .intro _ i j i' j' x hi hj hi' hj' hk hk'
  by_cases h:i<l1.length<;>by_cases h':i'<l1.length
  .simp only [if_pos h]at hk;simp only[if_pos h']at hk';exact d1 i j i' j' x h hj h' hj' hk hk'
  .simp only [if_pos h]at hk;simp only[if_neg h']at hk';exact absurd hk' (d12 i j _ j' x h hj (by omega) hj' hk)
  .simp only [if_neg h]at hk;simp only[if_pos h']at hk';exact absurd hk (d12 i' j' _ j x h' hj' (by omega) hj hk')
  .simp only [if_neg h]at hk;simp only[if_neg h']at hk';have:=d2 _ j _ j' x (by omega) hj (by omega) hj' hk hk'
   exact⟨by omega,this.2⟩
 .intro i j hi hj
  by_cases h:i<l1.length
  .simp only [if_pos h];exact v1 i j h hj
  .simp only [if_neg h];rw[<- v2 (i-l1.length) j (by omega) hj]
   congr 3
   congr 1
   omega
 .intro i x hx j c hcj;simp only[ap]at hx
  by_cases h:i<l1.length
  .simp only [if_pos h];rw[qT h]at hx;exact c1 i x hx j c hcj
  .simp only [if_neg h];rw[qP (by omega)]at hx
   exact c2 _ x hx j c hcj
theorem run_append_room' {P:Program}{w:World}(t ty e:TypeId)(i:TypeInfo)(ht:P.underlying t=some (.slice e))(hi:P.info? e=some i)(g off sLen sCap:Nat)(cur:Array Value)(e':TypeId)(hg:w.heap[g]?=some (.cells cur e' (0,0)))(a:Addr)(m c:Nat)(news:List Value)(hl:news.length=m*i.size)(hnews:∀j u,news[j]?=some u->w.cell? (a.add j)=some u)(h1:∀u∈news,u.oneCell'=true)(hroom:sLen+m<=sCap)(hfit:off+sLen*i.size+news.length<=cur.size) :
 (Builtin.append_ #[t,t] ty #[.slice (some ⟨g,off,none⟩) sLen sCap,.slice (some a) m c]).run P w =
  .ok (.slice (some ⟨g,off,none⟩) (sLen+m) sCap) (w.setRow g (splice cur.toList (off+sLen*i.size) news).toArray):=by
 have hf:=run_firstCells_some (P:=P) w i.size m a m c news hl hnews;have hst:=run_storeCells_at P g (off+sLen*i.size) e' news 0 cur w hg (by simpa using hfit) h1
 simp only[kB]at hst;simp[Builtin.append_,run_underlying ht,sizeOf,typeInfo,hi,Builtin.lenOf,hroom,hf,add_lit,hst,splice]
theorem zIi {P:Program}{w:World}(t ty e:TypeId)(i:TypeInfo)(ht:P.underlying t=some (.slice e))(hi:P.info? e=some i)(s:Option Addr)(sLen sCap:Nat)(hroom:sLen<=sCap)(a:Option Addr)(c:Nat) :
 (Builtin.append_ #[t,t] ty #[.slice s sLen sCap,.slice a 0 c]).run P w = .ok (.slice s sLen sCap) w:=by
 cases s<;>cases a<;>simp [Builtin.append_,run_underlying ht,sizeOf,typeInfo,hi,Builtin.lenOf,Builtin.firstCells,loadCells,loadCellsFrom,hroom,storeCells]
end
section
variable {C:Cfg} {w0 w w1:World} {S0:zT} {U:Nat->Prop} {st st1:St} {E E1:Env} {ts:Array Value} {sv:List (Array Value)}
theorem Rep.behind {t:Ty}{l:List t.den}{b off cap:Nat}{arr arr':Array Value}{e e':TypeId}{V:Nat->Nat->Value}{K:Nat->Nat->zT}{S:zT}(hlen:l.length<=big)(hcap:l.length<=cap)(hsz:off+cap*t.width<=arr.size)(hS:S b)(hR:Rows true w t l arr off b V K S)(hb:w.heap[b]?=some (.cells arr e (0,0)))(hb1:w1.heap[b]?=some (.cells arr' e' (0,0)))(hs:arr'.size=arr.size)(hsame:∀k,k<off+l.length*t.width->arr'[k]?=arr[k]?)(hkeep:∀x,x≠b->w1.heap[x]?=w.heap[x]?) :
 Rep true w1 (.slice (some ⟨b,off,none⟩) l.length cap) (.s t l) S/\
  ∀p u,zQ w t (.slice (some ⟨b,off,none⟩) l.length cap) p=some u->zQ w1 t (.slice (some ⟨b,off,none⟩) l.length cap) p=some u:=by
 have hrow:∀i j,i<l.length->j<t.width->off+i*t.width+j<off+l.length*t.width:=by intro i j hi hj;have:(i+1)*t.width<=l.length*t.width:=qQ _ hi;rw[jH] at this;omega
 have hc1:∀i x,l[i]?=some x->∀j c,(t.cells x)[j]?=some c->Rep true w1 (V i j) c (K i j):=by intro i x hx j c hcj;have hi:i<l.length:=(qA.1 hx).1;have hj:j<t.width:=(by have:=(qA.1 hcj).1;rw[zc8] at this;exact this);exact(hR.con i x hx j c hcj).frame (λy hy=>hkeep y ((hR.sub i j y hi hj hy).2 rfl))
 refine⟨.sl t l b off cap arr' e' (0,0) V K S hb1 (λ_=>rfl) hlen hcap (by rw[hs];exact hsz) hS hR.sub hR.dis (λi j hi hj=>?_) hc1,?_⟩
 .rw [hsame _<|hrow i j hi hj];exact hR.val i j hi hj
 .intro p u hp;cases p with
  |nil=>exact hp
  |cons ij p=>obtain⟨i,j⟩:=ij;simp only[zQ]at hp ⊢;split at hp;{rename_i hi;rw[if_pos hi];split at hp;{rename_i t' ht';have hj:j<t.width:=(by rw[<- zeU];exact(qA.1 ht').1);rw[cell_of_block hb,hR.val _ _ hi.2 hj]at hp;rw[cell_of_block hb1,hsame _<|hrow _ _ hi.2 hj,hR.val _ _ hi.2 hj];simp only at hp ⊢;have hx:l[i.toNat]?=some (l[i.toNat]'hi.2):=qB hi.2;obtain⟨c,hc,hct⟩:=zw5 (x:=l[i.toNat]'hi.2) ht';obtain⟨l',rfl⟩:=zk5 hct;have hr:=hR.con _ _ hx j _ hc;rw[zda p hr λy hy=>hkeep y ((hR.sub _ j y hi.2 hj hy).2 rfl)];exact hp};{cases hp}};{cases hp}
theorem z0j (hC:CfgOk C)(hS:Sim w0 S0 U st E ts sv w){o:Oper}{id:Nat}(hid:∀n,Mine id n->¬ U n){T:TypeId}{x y:Operand}{c:Call}(ho:o.op = .call c)(hcb:c.callee = .builtin .append)(hca:c.args.toList=[x,y])(hct:c.argTypes.toList=[T,T]){t:Ty}(hT:C.sty T=some t){r r2:Nat}{p2:List (Int×Nat)}(h1:st.at x=some (.sl r []))(h2:st.at y=some (.sl r2 p2)){R R2:Root}(hR:st.root r=some R)(hR2:st.root r2=some R2)(hown:R.own=true)(hcond:t.flat=true\/(R2.own=true/\p2=[]/\r≠r2)){l2:List t.den}(hn:st.node r2 p2=some (.s t l2)){l1:List t.den}(hR1:R=⟨t,l1,R.own,R.ep⟩)(hfew:few (ln<|ap l1 l2)=true) :
 Goes C w0 S0 U st ts sv w o id (λs=>s.apply o.dst {c:=few (ln<|ap l1 l2),v:=.v (.at<|.sl id []),ro:=(id,zcN t<|ap l1 l2)::moved st (if t.flat then [r] else [r,r2]),bump:=true}):=by
 obtain⟨hx,_⟩:=zbA hS h1;obtain⟨hy,_⟩:=zbA hS h2;obtain⟨e,hE⟩:=hC.sty T t hT;obtain⟨i,z,hi,hs,hz,hzc,hby⟩:=hE.info;have hca':c.args = #[x,y]:=by rw[<- hca]
 have hct':c.argTypes = #[T,T]:=by rw[<- hct]
 have hv1:E.ρ r=({tmps:=ts,defers:=[]}:Act).eval x:=by have:=hx.2 R hR;simpa [zQ] using this
 have hrep1:Rep true w (E.ρ r) (.s t l1) (E.φ r):=by have:=hS.mem.rep r R hR;rw[hown,hR1] at this;exact this
 obtain⟨R',S2,hR',g1,g2,g3,g4⟩:=zsJ hS hy hn;rw[hR2]at hR';cases hR';have run:∀{v:Value} {w':World},(Builtin.append_ #[T,T] o.type #[E.ρ r,({tmps:=ts,defers:=[]}:Act).eval y]).run C.P w = .ok v w'->
  (execOp ({tmps:=ts,defers:=[]}:Act).eval o).run C.P w = .ok (.value v) w':=by
  intro v w' hr;rw[hv1]at hr;simp[execOp,ho,resolve,hcb,invoke,builtin,hca',hct',hr]
 generalize hvy:({tmps:=ts,defers:=[]}:Act).eval y=v2 at *;obtain⟨f0,f1⟩:=zJa hfew;have hlen:l1.length+l2.length<=2147483648:=by simp only[ln,ap,kR] at f1;omega
 have hks:∀k∈(if t.flat=true then [r] else [r,r2]),∃R,st.root k=some R/\R.own=true:=by intro k hk;split at hk;{simp only [qF]at hk;subst hk;exact⟨R,hR,hown⟩};{rename_i hf;simp only[qI,qW,or_false]at hk;rcases hk with rfl|rfl;{exact⟨R,hR,hown⟩};{exact⟨R2,hR2,(hcond.resolve_left hf).1⟩}}
 have hrin:r∈(if t.flat=true then [r] else [r,r2]):=by split<;>simp
 have hrs:∀{Q:Root} {k:Nat},k=r->st.root k=some Q->Q=R:=λh hq=>by subst h;rw[hR]at hq;cases hq;rfl
 by_cases hl2:l2=[]
 .subst hl2;obtain⟨⟨a2,c2,hv2,_⟩,_⟩:=g3.len;obtain⟨⟨a1,c1,hv1',hc1⟩,_⟩:=hrep1.len;have hap:ap l1 []=l1:=by simp[ap]
  rw[hap];refine zk9 hS hid (v:=E.ρ r) (φn:=E.φ r) (w1:=w) (run ?_) hks rfl rfl rfl (qX _) (λ_ _ _=>rfl) (λx hx=>.inl ⟨r,hrin,hx⟩) hrep1 (λk hk Q hQ=>⟨(hS.mem.rep k Q hQ).ro,λ_ _ h=>h⟩);rw[hv1',hv2];exact zIi T o.type e i hE.und hi a1 _ _ hc1 a2 _
 .cases g3 with
  |nil=>exact absurd rfl hl2
  |void=>exact absurd rfl hl2
  |sl _ _ b2 off2 cap2 arr2 e2 fz2 V2 K2 _ hb2 hfz2 hlen2 hcap2 hsz2 hS2 hsub2 hdis2 hvv2 hcc2=>
  have hm0:0<l2.length:=kN.2 hl2;have hmul2:l2.length*t.width<=cap2*t.width:=qQ _ hcap2;generalize hnews:(arr2.toList.drop off2).take (l2.length*t.width)=news;have hnl:news.length=l2.length*t.width:=by rw[<- hnews];simp;omega
  have hnat:∀k,k<l2.length*t.width->news[k]?=arr2[off2+k]?:=by intro k hk;rw[<- hnews,jJ,if_pos hk,jM];simp
  have hnc:∀j u,news[j]?=some u->w.cell? ((⟨b2,off2,none⟩:Addr).add j)=some u:=by intro j u hu;have hj:j<l2.length*t.width:=(by rw[<- hnl];exact(qA.1 hu).1);rw[add_lit,cell_of_block hb2,<- hnat j hj];exact hu
  have hrow2:∀i j,i<l2.length->j<t.width->i*t.width+j<l2.length*t.width:=by intro i j hi hj;have:(i+1)*t.width<=l2.length*t.width:=qQ _ hi;rw[jH] at this;omega
  have hnv:∀i j,i<l2.length->j<t.width->news[i*t.width+j]?=some (V2 i j):=by intro i j hi hj;rw[hnat _<|hrow2 i j hi hj,<- uH];exact hvv2 i j hi hj
  have hwp:=zAB t;have hn1:∀u∈news,u.oneCell'=true:=by intro u hu;obtain⟨k,hk⟩:=qR.1 hu;have hkl:k<l2.length*t.width:=(by rw[<- hnl];exact(qA.1 hk).1);have hki:k / t.width<l2.length:=(Nat.div_lt_iff_lt_mul hwp).2 hkl;have hkj:k % t.width<t.width:=Nat.mod_lt _ hwp;have:=hnv _ _ hki hkj;rw[Nat.mul_comm,Nat.div_add_mod,hk] at this;cases this;have hx:=qB hki;have hcj:(t.cells<|l2[k / t.width]'hki)[k % t.width]?=some ((t.cells<|l2[k / t.width]'hki)[k % t.width]'(by rw[zc8];exact hkj)):=qB _;exact(hcc2 _ _ hx _ _ hcj).one
  have hK2:∃K:Nat->Nat->zT,(∀(w1:World),(∀x,(∃k∈(if t.flat=true then [r] else [r,r2]),k≠r/\E.φ k x)->w1.heap[x]?=w.heap[x]?)->
   ∀i x,l2[i]?=some x->∀j c,(t.cells x)[j]?=some c->Rep true w1 (V2 i j) c (K i j))/\
   (∀i j x,i<l2.length->j<t.width->K i j x->∃k∈(if t.flat=true then [r] else [r,r2]),k≠r/\E.φ k x)/\
   (∀i j i' j' x,i<l2.length->j<t.width->i'<l2.length->j'<t.width->K i j x->K i' j' x->i=i'/\j=j'):=by
   by_cases hf:t.flat=true
   .exact⟨λ_ _ _=>False,λw1 _ i x hx j c hcj=>(hcc2 i x hx j c hcj).flat (zte hf hcj),λ_ _ _ _ _ h=>h.elim,λ_ _ _ _ _ _ _ _ _ h=>h.elim⟩
   .obtain⟨ho2,hp2,hne⟩:=hcond.resolve_left hf;have hin:r2∈(if t.flat=true then [r] else [r,r2]):=by rw[if_neg hf];simp
    have hsub:∀i j x,i<l2.length->j<t.width->K2 i j x->∃k∈(if t.flat=true then [r] else [r,r2]),k≠r/\E.φ k x :=
     λi j x hi hj hk=>⟨r2,hin,λe=>hne e.symm,g4 x (hsub2 i j x hi hj hk).1⟩
    rw[ho2]at hcc2 hdis2;refine⟨K2,λw1 hw i x hx j c hcj=>?_,hsub,hdis2 rfl⟩;have hi':i<l2.length:=(qA.1 hx).1;have hj':j<t.width:=by have:=(qA.1 hcj).1;rw[zc8] at this;exact this
    exact(hcc2 i x hx j c hcj).frame (λy hy=>hw y (hsub i j y hi' hj' hy))
  obtain⟨K,hKc,hKs,hKd⟩:=hK2;have hkapart:∀x k,k∈(if t.flat=true then [r] else [r,r2])->k≠r->E.φ k x->¬ E.φ r x:=by intro x k hk hkr hx hxr;obtain⟨Q,hQ,hQo⟩:=hks k hk;exact hS.mem.apart r R k Q hR hown hQ (hS.mem.mine k Q hQ hQo).1 (λe=>hkr e.symm) x hxr hx
  have hbytes:(l1.length+l2.length)*i.bytes<=140737488355328:=by have:=uR hlen hby;omega
  have grown:∀(olds:List Value) (cap':Nat) (V1:Nat->Nat->Value) (K1:Nat->Nat->zT) (zs:Array Value),olds.length=l1.length*t.width->l1.length+l2.length<=cap'->zs.size=(cap'-(l1.length+l2.length))*t.width->
   (∀i j,i<l1.length->j<t.width->olds[i*t.width+j]?=some (V1 i j))->
   (∀i x,l1[i]?=some x->∀j c,(t.cells x)[j]?=some c->Rep true w (V1 i j) c (K1 i j))->
   (∀i j x,i<l1.length->j<t.width->K1 i j x->E.φ r x)->
   (∀i j i' j' x,i<l1.length->j<t.width->i'<l1.length->j'<t.width->K1 i j x->K1 i' j' x->i=i'/\j=j')->
   (Builtin.append_ #[T,T] o.type #[E.ρ r,.slice (some ⟨b2,off2,none⟩) l2.length cap2]).run C.P w = .ok (.slice (some ⟨w.heap.size,0,none⟩) (l1.length+l2.length) cap') (w.drew.alloc<|.cells (olds.toArray++news.toArray++zs) e (0,0))->
   Goes C w0 S0 U st ts sv w o id (λs=>s.apply o.dst {c:=few (ln<|ap l1 l2),v:=.v (.at<|.sl id []),ro:=(id,zcN t<|ap l1 l2)::moved st (if t.flat then [r] else [r,r2]),bump:=true}):=by
   intro olds cap' V1 K1 zs hol hcap' hzs ho1 hc1 hk1 hd1 hr;generalize hw1:w.drew.alloc (.cells (olds.toArray++news.toArray++zs) e (0,0))=w1 at hr;have hsame:∀x,x<w.heap.size->w1.heap[x]?=w.heap[x]?:=λx hx=>by rw[<- hw1];exact heap_alloc_old w.drew _ x hx
   have hsize:w1.heap.size=w.heap.size+1:=by rw[<- hw1];simp
   have hlt:∀k Q,st.root k=some Q->∀x,E.φ k x->w1.heap[x]?=w.heap[x]?:=λk Q hQ x hx=>hsame x (hS.mem.rlt k Q hQ x hx);have hrow1:∀i j,i<l1.length->j<t.width->i*t.width+j<l1.length*t.width:=by intro i j hi hj;have:(i+1)*t.width<=l1.length*t.width:=qQ _ hi;rw[jH] at this;omega
   refine zk9 hS hid (w1:=w1) (φn:=λx=>(∃k∈(if t.flat=true then [r] else [r,r2]),E.φ k x)\/x=w.heap.size) (run hr) hks (by rw[<- hw1];rfl) (by rw[<- hw1];rfl) (by rw[<- hw1];rfl) (by omega) (λx hx _=>hsame x hx) ?_ ?_ ?_
   .rintro x (hx|rfl)
    .exact .inl hx
    .exact .inr ⟨qX _,by omega⟩
   .refine Rep.join (arr:=olds.toArray++news.toArray++zs) (e:=e) (V1:=V1) (V2:=V2) (K1:=K1) (K2:=K) ?_ (by simp only[big];omega) hcap' ?_ (.inr rfl) ?_ ?_ ?_ ?_ ?_ ?_ hd1 hKd ?_
    .rw [<- hw1];exact heap_alloc_new w.drew _
    .simp only [Array.size_append,jZ,hol,hnl,hzs,<- kP];have:l1.length+l2.length+(cap'-(l1.length+l2.length))=cap':=by omega
     rw[this];omega
    .intro i j hi hj;have:=hrow1 i j hi hj;rw[jT,uN,jV (by simp[hol];exact this)]
     simpa using ho1 i j hi hj
    .intro i j hi hj;have:=hrow2 i j hi hj;rw[jT,kP,uN,kA (by simp[hol];omega),jV (by simp[hol,hnl];omega)]
     rw[<- hnv i j hi hj];simp only[jZ,hol,jF]
     congr 1
     omega
    .intro i x hx j c hcj;have hi':i<l1.length:=(qA.1 hx).1;have hj':j<t.width:=by have:=(qA.1 hcj).1;rw[zc8] at this;exact this
     exact(hc1 i x hx j c hcj).frame (λy hy=>hlt r R hR y (hk1 i j y hi' hj' hy))
    .refine hKc w1 ?_
     rintro x ⟨k,hk,_,hx⟩
     obtain⟨Q,hQ,_⟩:=hks k hk;exact hlt k Q hQ x hx
    .intro i j x hi hj hk;have:=hk1 i j x hi hj hk;exact⟨.inl ⟨r,hrin,this⟩,λe=>by have:=hS.mem.rlt r R hR x this;omega⟩
    .intro i j x hi hj hk;obtain⟨k,hk1,_,hx⟩:=hKs i j x hi hj hk;obtain⟨Q,hQ,_⟩:=hks k hk1;exact⟨.inl ⟨k,hk1,hx⟩,λe=>by have:=hS.mem.rlt k Q hQ x hx;omega⟩
    .intro i j i' j' x hi hj hi' hj' hk hk';obtain⟨k,hka,hkb,hx⟩:=hKs i' j' x hi' hj' hk';exact hkapart x k hka hkb hx (hk1 i j x hi hj hk)
   .intro k hk Q hQ;refine⟨((hS.mem.rep k Q hQ).frame (hlt k Q hQ)).ro,λp u hp=>?_⟩;rw[zda p (hS.mem.rep k Q hQ)<|hlt k Q hQ];exact hp
  generalize hv1e:E.ρ r=v1 at *;have hzsz:z.cells.size=t.width:=by rw[<- kM,hzc];simp[zeU]
  cases hrep1 with
  |nil=>
   have hr:=run_append_nil (P:=C.P) w T o.type e i z hE.und hi hz ⟨b2,off2,none⟩ l2.length cap2 news (by rw[hs];exact hnl) hnc hm0 (by omega) (by
    have:=uR (show l2.length<=2147483648 by omega) hby
    omega)
   have hge:=grownCap_ge w l2.length 0 e;refine grown [] (grownCap w l2.length 0 e) (λ_ _=>undef) (λ_ _ _=>False) (Builtin.zeroCells z.cells<|grownCap w l2.length 0 e-l2.length) (by simp) (by simpa using hge) (by simp[size_zeroCells,hzsz]) (λi j hi=>by simp at hi) (λi x hx=>by simp at hx) (λ_ _ _ _ _ h=>h.elim) (λ_ _ _ _ _ _ _ _ _ h=>h.elim) ?_;rw[hr];simp
  |void _ _ _ ho=>cases ho
  |sl _ _ b off cap arr e1 fz V1 K1 _ hb hfz hlen1 hcap1 hsz1 hS1 hsub1 hdis1 hvv1 hcc1=>
   have hfz':=hfz rfl;subst hfz';have hmul1:l1.length*t.width<=cap*t.width:=qQ _ hcap1;by_cases hroom:l1.length+l2.length<=cap;{have hmulr:(l1.length+l2.length)*t.width<=cap*t.width:=qQ _ hroom;rw[kP]at hmulr;have hr:=run_append_room' (P:=C.P) (w:=w) T o.type e i hE.und hi b off l1.length cap arr e1 hb ⟨b2,off2,none⟩ l2.length cap2 news (by rw[hs];exact hnl) hnc hn1 hroom (by rw[hs,hnl];omega);rw[hs]at hr;have hbs:off+l1.length*t.width+news.length<=arr.toList.length:=(by rw[hnl];simp;omega);generalize hw1:w.setRow b (splice arr.toList (off+l1.length*t.width) news).toArray=w1 at hr;have hb1:w1.heap[b]?=some (.cells (splice arr.toList (off+l1.length*t.width) news).toArray e1 (0,0)):=(by rw[<- hw1];exact setRow_heap w b _ _ e1 _ hb);have hoth:∀x,x≠b->w1.heap[x]?=w.heap[x]?:=λx hx=>(by rw[<- hw1];exact setRow_other w b x _ hx);have hasz:(splice arr.toList (off+l1.length*t.width) news).toArray.size=arr.size:=(by rw[jZ,zid _ _ _ hbs];simp);have hkeepr:∀k,k<off+l1.length*t.width->(splice arr.toList (off+l1.length*t.width) news).toArray[k]?=arr[k]?:=(by intro k hk;rw[jF,zeK _ _ _ hbs k<|.inl hk];simp);have hRows:Rows true w t l1 arr off b V1 K1 (E.φ r):=⟨hsub1,hdis1,hvv1,hcc1⟩;obtain⟨k1,k2⟩:=Rep.behind (w1:=w1) hlen1 hcap1 hsz1 hS1 hRows hb hb1 hasz hkeepr hoth;have hrow1:∀i j,i<l1.length->j<t.width->i*t.width+j<l1.length*t.width:=(by intro i j hi hj;have:(i+1)*t.width<=l1.length*t.width:=qQ _ hi;rw[jH] at this;omega);refine zk9 hS hid (w1:=w1) (φn:=λx=>∃k∈(if t.flat=true then [r] else [r,r2]),E.φ k x) (run hr) hks (by rw[<- hw1];rfl) (by rw[<- hw1];rfl) (by rw[<- hw1];rfl) (by rw[<- hw1];simp) (λx hx hnk=>hoth x λe=>hnk r hrin (e ▸ hS1)) (λx hx=>.inl hx) ?_ ?_;{refine Rep.join (arr:=(splice arr.toList (off+l1.length*t.width) news).toArray) (e:=e1) (V1:=V1) (V2:=V2) (K1:=K1) (K2:=K) hb1 (by simp only[big];omega) hroom (by rw[hasz];exact hsz1) ⟨r,hrin,hS1⟩ ?_ ?_ ?_ ?_ ?_ ?_ (hdis1 rfl) hKd ?_;{intro i j hi hj;have:=hrow1 i j hi hj;rw[hkeepr _ (by omega)];exact hvv1 i j hi hj};{intro i j hi hj;have:=hrow2 i j hi hj;rw[jF,kP,zeV _ _ _ hbs _ (by omega) (by rw[hnl];omega),<- hnv i j hi hj];congr 1;omega};{intro i x hx j c hcj;have hi':i<l1.length:=(qA.1 hx).1;have hj':j<t.width:=(by have:=(qA.1 hcj).1;rw[zc8] at this;exact this);exact(hcc1 i x hx j c hcj).frame (λy hy=>hoth y ((hsub1 i j y hi' hj' hy).2 rfl))};{refine hKc w1 ?_;rintro x ⟨k,hk,hkr,hx⟩;exact hoth x (λe=>hkapart x k hk hkr hx (e ▸ hS1))};{intro i j x hi hj hk;exact⟨⟨r,hrin,(hsub1 i j x hi hj hk).1⟩,(hsub1 i j x hi hj hk).2 rfl⟩};{intro i j x hi hj hk;obtain⟨k,hka,hkb,hx⟩:=hKs i j x hi hj hk;exact⟨⟨k,hka,hx⟩,λe=>hkapart x k hka hkb hx (e ▸ hS1)⟩};{intro i j i' j' x hi hj hi' hj' hk hk';obtain⟨k,hka,hkb,hx⟩:=hKs i' j' x hi' hj' hk';exact hkapart x k hka hkb hx (hsub1 i j x hi hj hk).1}};{intro k hk Q hQ;by_cases hkr:k=r;{subst hkr;rw[hR]at hQ;cases hQ;rw[hR1,hv1e];exact⟨k1.ro,k2⟩};{have hfr:∀x,E.φ k x->w1.heap[x]?=w.heap[x]?:=λx hx=>hoth x (λe=>hkapart x k hk hkr hx (e ▸ hS1));refine⟨((hS.mem.rep k Q hQ).frame hfr).ro,λp u hp=>?_⟩;rw[zda p (hS.mem.rep k Q hQ) hfr];exact hp}}}
   .generalize holds:(arr.toList.drop off).take (l1.length*t.width)=olds;have hol:olds.length=l1.length*t.width:=(by rw[<- holds];simp;omega);have hoat:∀k,k<l1.length*t.width->olds[k]?=arr[off+k]?:=by intro k hk;rw[<- holds,jJ,if_pos hk,jM];simp
    have hr:=run_append_grow (P:=C.P) w T o.type e i z hE.und hi hz ⟨b,off,none⟩ l1.length cap olds (by rw[hs];exact hol) (λj u hu=>by
     have hj:j<l1.length*t.width:=by rw[<- hol];exact(qA.1 hu).1
     rw[add_lit,cell_of_block hb,<- hoat j hj];exact hu) ⟨b2,off2,none⟩ l2.length cap2 news (by rw[hs];exact hnl) hnc (by omega) (by omega) (growslice_fits (by omega) hbytes)
    have hge:=grownCap_ge w (l1.length+l2.length) cap e;refine grown olds _ V1 K1 _ hol hge (by rw[size_zeroCells,hzsz]) (λi j hi hj=>?_) hcc1 (λi j x hi hj hk=>(hsub1 i j x hi hj hk).1) (hdis1 rfl) hr;have:(i+1)*t.width<=l1.length*t.width:=qQ _ hi;rw[jH] at this;rw[hoat _ (by omega),<- uH];exact hvv1 i j hi hj
end
section
variable {C:Cfg} {w0 w w1:World} {S0:zT} {U:Nat->Prop} {st st1:St} {E E1:Env} {ts:Array Value} {sv:List (Array Value)}
theorem zMj {place:Nat->Option (Nat×Nat)}{cells:Array Value}{i off size:Nat}{v:Value}{rest:List (Nat×Value)}(h1:place i=some (off,size))(h2:v.cells.size=size)(h3:off+size<=cells.size) :
 Instr.fill place cells ((i,v)::rest)=Instr.fill place (splice cells.toList off v.cells.toList).toArray rest:=by
 have hb:off+v.cells.toList.length<=cells.toList.length:=by simp[h2];exact h3
 have e:v.cells.zipIdx.foldl (λcs (x:Value×Nat)=>cs.setIfInBounds (off+x.2) x.1) cells=(splice cells.toList off v.cells.toList).toArray:=by rw[<- Array.foldl_toList,Array.toList_zipIdx];obtain⟨g1,g2⟩:=Great.foldl_set off v.cells.toList 0 cells;apply Array.ext_getElem?;intro k;rw[g2 k];have e0:(splice cells.toList off v.cells.toList).toArray[k]?=(splice cells.toList off v.cells.toList)[k]?:=jF;rw[e0];by_cases hk:off<=k/\k<off+v.cells.toList.length;{rw [zeV _ _ _ hb k hk.1 hk.2,if_pos ⟨by omega,by omega,by simp at hb;simp at hk;omega⟩];simp};{rw [zeK _ _ _ hb k (by omega),if_neg (by omega)];simp}
 rw[Instr.fill,h1];simp only;rw[if_neg (by simp[h2];omega)]
 rw[<- e]
def aφ (E:Env):At->zT
 |.sl r []=>E.φ r
 |_=>λ_=>False
structure Given (st:St) (xs:List At) (cs:List CV) (ks:List Nat):Prop where
 len:cs.length=xs.length
 own:∀r∈ks,∃R,st.root r=some R/\R.own=true
 get:∀(k:Nat) (a:At),xs[k]?=some a->(∃k' n,a = .i k' n/\cs[k]?=some (.i k' n))\/(∃x,a = .b x/\cs[k]?=some (.b x))\/∃r R,a = .sl r []/\st.root r=some R/\r∈ks/\cs[k]?=some (.s R.t R.l)
 inj:∀(k k' r:Nat),xs[k]?=some (.sl r [])->xs[k']?=some (.sl r [])->k=k'
theorem zqe:∀(xs:List At) (j:Nat) (c:Bool) (cs:List CV) (ks:List Nat),st.give none xs j=some (c,cs,ks)->c=true/\Given st xs cs ks
 |[],j,c,cs,ks,h=>by simp only[St.give,qC,jR]at h;obtain⟨rfl,rfl,rfl⟩:=h;exact⟨rfl,rfl,λr hr=>by simp at hr,λk a h=>by simp at h,λk k' r h=>by simp at h⟩
 |a::r,j,c,cs,ks,h=>by
  simp only[St.give]at h;split at h;{cases h}
  .rename_i c' cs' ks' hg;obtain⟨hc,hG⟩:=zqe r (j+1) c' cs' ks' hg;subst hc;split at h;{rename_i k n;cases h;refine⟨rfl,by simp[hG.len],hG.own,λk' a ha=>?_,λk1 k2 r' h1 h2=>?_⟩;{cases k' with|zero=>simp at ha;subst ha;exact .inl ⟨k,n,rfl,rfl⟩|succ k'=>exact hG.get k' a (by simpa using ha)};{cases k1<;>cases k2<;>simp at h1 h2;exact congrArg _ (hG.inj _ _ r' h1 h2)}};{rename_i x;cases h;refine⟨rfl,by simp[hG.len],hG.own,λk' a ha=>?_,λk1 k2 r' h1 h2=>?_⟩;{cases k' with|zero=>simp at ha;subst ha;exact .inr (.inl ⟨x,rfl,rfl⟩)|succ k'=>exact hG.get k' a (by simpa using ha)};{cases k1<;>cases k2<;>simp at h1 h2;exact congrArg _ (hG.inj _ _ r' h1 h2)}}
   .rename_i q;split at h
    .rename_i R hR;split at h
     .rename_i hcond;cases h;simp only[vC,qE,jE,jK,decide_eq_false_iff_not]at hcond;have hnew:∀k:Nat,r[k]?≠some (At.sl q []):=(by intro k hk;rcases hG.get k _ hk with⟨_,_,h,_⟩|⟨_,h,_⟩|⟨r2,_,h,_,hm,_⟩;{cases h};{cases h};{cases h;exact hcond.2 hm});refine⟨rfl,by simp[hG.len],?_,λk' a ha=>?_,λk1 k2 r' h1 h2=>?_⟩;{intro r2 hr2;rcases qI.1 hr2 with rfl|hr2;{exact⟨R,hR,hcond.1⟩};{exact hG.own r2 hr2}}
      .cases k' with
       |zero=>simp at ha;subst ha;exact .inr (.inr ⟨q,R,rfl,hR,by simp,rfl⟩)
       |succ k' =>rcases hG.get k' a (by simpa using ha) with h|h|⟨r2,R2,h1,h2,h3,h4⟩;{exact .inl h};{exact .inr (.inl h)};{exact .inr (.inr ⟨r2,R2,h1,h2,by simp[h3],h4⟩)}
      {cases k1<;>cases k2<;>simp at h1 h2;{rfl};{subst h1;exact absurd h2 (hnew _)};{subst h2;exact absurd h1 (hnew _)};{exact congrArg _ (hG.inj _ _ r' h1 h2)}}
     {cases h}
    {cases h}
   {cases h};{cases h}
theorem Given.rep {xs:List At}{cs:List CV}{ks:List Nat}(hG:Given st xs cs ks)(hM:Mem w0 S0 st E w){k:Nat}{a:At}{c:CV}{u:Value}(ha:xs[k]?=some a)(hc:cs[k]?=some c)(hu:VA w st E a u):Rep true w u c (aφ E a):=by rcases hG.get k a ha with⟨k',n,rfl,h⟩|⟨x,rfl,h⟩|⟨r,R,rfl,hR,hm,h⟩;{rw [hc]at h;cases h;cases hu;exact .i _ _ _};{rw [hc]at h;cases h;cases hu;exact .b _ _};{rw [hc]at h;cases h;have:=hu.2 R hR;simp only[zQ,qC] at this;subst this;have hr:=hM.rep r R hR;obtain⟨R',hR',ho⟩:=hG.own r hm;rw[hR]at hR';cases hR';rw[ho]at hr;exact hr}
theorem Given.fi {xs:List At}{cs:List CV}{ks:List Nat}(hG:Given st xs cs ks){k:Nat}{a:At}{x:Nat}(ha:xs[k]?=some a)(hx:aφ E a x):∃r∈ks,a = .sl r []/\E.φ r x:=by rcases hG.get k a ha with⟨k',n,rfl,h⟩|⟨x,rfl,h⟩|⟨r,R,rfl,hR,hm,h⟩;{exact hx.elim};{exact hx.elim};{exact⟨r,hm,rfl,hx⟩}
theorem Mem.own_apart (hM:Mem w0 S0 st E w){r r':Nat}{R R':Root}(hR:st.root r=some R)(ho:R.own=true)(hR':st.root r'=some R')(ho':R'.own=true){x:Nat}(hx:E.φ r x)(hx':E.φ r' x):r=r':=by by_cases h:r=r';{exact h};{exact absurd hx' (hM.apart r R r' R' hR ho hR' (hM.mine r' R' hR' ho').1 h x hx)}
theorem zvj {T:TypeId}{places:List (Nat×Nat)}(hpl:∀f off n,C.fof T f=some (off,n)->places[f]?=some (off,n)){st1:St}{ev:Operand->Value}(hev:∀x y,st.opnd x=some (.v y)->VT w st1 E1 y (ev x)) :
 ∀(parts:List (Nat×Operand)) (cs cs':List At) (cells:Array Value),layParts C T st parts cs=some cs'->cells.size=cs.length->
  (∀(j:Nat) (a:At) (u:Value),cs[j]?=some a->cells[j]?=some u->u.oneCell'=true/\VA w st1 E1 a u)->
  ∃cells':Array Value,Instr.fill (places[·]?) cells (parts.map λx=>(x.1,ev x.2))=some cells'/\cells'.size=cs'.length/\
   (∀(j:Nat) (a:At) (u:Value),cs'[j]?=some a->cells'[j]?=some u->u.oneCell'=true/\VA w st1 E1 a u)
 |[],cs,cs',cells,h,hs,hv=>by cases h;exact⟨cells,rfl,hs,hv⟩
 |(f,x)::r,cs,cs',cells,h,hs,hv=>by simp only[layParts]at h;split at h;{rename_i off n y hf hx;split at h;{rename_i hc;obtain⟨hl,hle⟩:=hc;have hy:=hev x y hx;obtain⟨c1,c2⟩:=VT.cells hy (zrK hx);have hb2:off+(zN y).length<=cs.length:=(by rw[hl];exact hle);have hb1:off+(ev x).cells.toList.length<=cells.toList.length:=(by simp[c1,hl,hs];exact hle);simp only[q0];rw[zMj (hpl f off n hf) (by rw[c1,hl]) (by rw[hs];exact hle)];refine zvj hpl hev r (splice cs off<|zN y) cs' _ h (by rw[jZ,zid _ _ _ hb1,zid _ _ _ hb2];simpa using hs) ?_;intro j a u ha hu;rw[jF]at hu;by_cases hj:off<=j/\j<off+(zN y).length;{rw [zeV _ _ _ hb2 j hj.1 hj.2]at ha;rw[zeV _ _ _ hb1 j hj.1 (by simp[c1];exact hj.2)]at hu;exact c2 _ a u ha (by simpa using hu)};{rw [zeK _ _ _ hb2 j (by omega)]at ha;rw[zeK _ _ _ hb1 j (by simp[c1];omega)]at hu;exact hv j a u ha (by simpa using hu)}};{cases h}};{cases h}
theorem zzV {T:TypeId}:∀(parts:List (Nat×Operand)) (cs cs':List At),layParts C T st parts cs=some cs'->∀a∈cs',a∈cs\/∃x y,st.opnd x=some (.v y)/\a∈zN y
 |[],cs,cs',h,a,ha=>by cases h;exact .inl ha
 |(f,x)::r,cs,cs',h,a,ha=>by simp only[layParts]at h;split at h;{rename_i off n y hf hx;split at h;{rcases zzV r _ cs' h a ha with h1|h1;{simp only [splice,jI]at h1;rcases h1 with (h1|h1)|h1;{exact .inl (jW h1)};{exact .inr ⟨x,y,hx,h1⟩};{exact .inl (kI h1)}};{exact .inr h1}};{cases h}};{cases h}
theorem z3Q (hC:CfgOk C)(hS:Sim w0 S0 U st E ts sv w){o:Oper}{id:Nat}(hid:∀n,Mine id n->¬ U n){T:TypeId}{parts:Array (Nat×Operand)}{d:Dl}(ho:o.op = .build T parts)(h:delta C st o id=some d):Goes C w0 S0 U st ts sv w o id (λst=>st.apply o.dst d):=by
 simp only[delta,ho]at h;split at h
 .rename_i tys hT;split at h
  .rename_i cs hcs;split at h
   .rename_i hle;cases h;obtain⟨hM1,hT1⟩:=hS.mem.zeroRoots hS.ids.mem hid hle;obtain⟨fs,places,hu,hpl,hpf⟩:=hC.str T tys hT;obtain⟨i,z,hi,hs,hz,hzc⟩:=(hC.cty T true tys hT).info;have hsz:z.cells.size=(zeros tys id).length:=by rw[zAE,<- kM,hzc];simp
    obtain⟨cells,hf,hcl,hcv⟩:=zvj (w:=w) (st1:={st with ro:=Go.Proofs.YtgjpbkhaaiffkaaGreat.E.zeroRoots tys id++st.ro}) (E1:=zhY E id) (ev:=({tmps:=ts,defers:=[]}:Act).eval) hpf
     (λx y hx=>by
      obtain⟨h1,h2⟩:=zbX hS hx;exact VT.tr hT1 (λa ha n hn=>h2 n (by simp only[MV.ids,zbw,qN];exact⟨a,ha,hn⟩)) h1)
     parts.toList (zeros tys id) cs z.cells hcs hsz (λj a u ha hu=>by
      obtain⟨ct,h1,h2,h3,_⟩:=zsM (E:=E) hle ha;have:z.cells.toList[j]?=some u:=by simpa using hu
      rw[hzc,qO,h1] at this;cases this;exact⟨h2,h3 _ _⟩)
    refine zkp hS (v:=.agg cells) (mv:=.v (.agg cs)) ?_ (.inl rfl) hM1 hT1 rfl rfl rfl ?_ (λn cs hn=>⟨.inl (hS.ids.lo n cs hn).1,λa ha m hm=>.inl ((hS.ids.lo n cs hn).2 a ha m hm)⟩) ⟨cells,rfl,hcl,hcv⟩ ?_;{have hb:C.P.built T (parts.map λx=>(x.1,({tmps:=ts,defers:=[]}:Act).eval x.2)).toList=some cells:=(by simp only[Program.built,hi,hu,hz,hpl,k9];simpa using hf);have:=run_build (P:=C.P) w T _ cells hb;simp[execOp,ho,this]};{intro n R hn;simp only[zbH]at hn;split at hn;{rename_i Q hQ;obtain⟨h1,h2,_⟩:=zhZ tys id n Q hQ;exact .inr ⟨h1,by omega⟩};{exact .inl (hS.ids.ro n R hn)}};{intro n hn;simp only[MV.ids,zbw,zN,qN]at hn;obtain⟨a,ha,hn⟩:=hn;rcases zzV parts.toList _ cs hcs a ha with h1|⟨x,y,hx,h1⟩;{obtain⟨k,hk⟩:=qR.1 h1;obtain⟨_,_,_,_,h4⟩:=zsM (E:=E) hle hk;exact .inr ⟨(h4 n hn).1,by have:=(h4 n hn).2;omega⟩};{exact .inl ((zbX hS hx).2 n (by simp only[MV.ids,zbw,qN];exact⟨a,h1,hn⟩))}}
   {cases h}
  {cases h}
 {cases h}
end
section
variable {C:Cfg} {w0 w w1:World} {S0:zT} {U:Nat->Prop} {st st1:St} {E E1:Env} {ts:Array Value} {sv:List (Array Value)}
theorem zTC (t:Ty):t.width<=16:=by cases t<;>simp [Ty.width]
structure Laid (w:World) (st:St) (E:Env) (t:Ty) (l:List t.den) (ks:List Nat) (cells:Array Value):Prop where
 size:cells.size=l.length*t.width
 own:∀r∈ks,∃R,st.root r=some R/\R.own=true
 rows:∃V K,Rows true w t l cells 0 w.heap.size V K (fun x=>∃r∈ks,E.φ r x)
theorem zvu (hM:Mem w0 S0 st E w){t:Ty}{ev:Operand->Value}(hev:∀x y,st.opnd x=some (.v y)->VT w st E y (ev x)) :
 ∀(parts:List (Nat×Operand)) (l:List t.den) (ks:List Nat) (l':List t.den) (ks':List Nat) (cells:Array Value),rowParts st t parts l ks=some (l',ks')->Laid w st E t l ks cells->
  ∃cells',Instr.fill (fun i=>some (i*t.width,t.width)) cells (parts.map fun x=>(x.1,ev x.2))=some cells'/\l'.length=l.length/\Laid w st E t l' ks' cells'
 |[],l,ks,l',ks',cells,h,hL=>by simp only[rowParts,qC,jR]at h;obtain⟨rfl,rfl⟩:=h;exact⟨cells,rfl,rfl,hL⟩
 |(i,x)::r,l,ks,l',ks',cells,h,hL=>by
  simp only[rowParts]at h;split at h
  .rename_i y hx;split at h
   .rename_i cs k2 hg;split at h
    .rename_i d hd;split at h
     .rename_i hcond;simp only[qE,qY,qM,jE,jK,decide_eq_false_iff_not]at hcond;obtain⟨hil,hdisj⟩:=hcond;obtain⟨_,hG⟩:=zqe _ _ _ _ _ hg;have hcs:=zjG hd;have hcl:cs.length=t.width:=(by rw[<- hcs,zc8]);obtain⟨c1,c2⟩:=VT.cells (hev x y hx) (zrK hx);have hyl:(zN y).length=t.width:=(by rw[<- hG.len,hcl]);have hvl:(ev x).cells.size=t.width:=(by rw[c1,hyl]);have hrow:(i+1)*t.width<=l.length*t.width:=qQ _ hil;rw[jH]at hrow;have hfit:i*t.width+t.width<=cells.size:=(by rw[hL.size];exact hrow);have hb:i*t.width+(ev x).cells.toList.length<=cells.toList.length:=(by simp[hvl];exact hfit);obtain⟨V,K,hR⟩:=hL.rows;have hown:∀r∈k2++ks,∃R,st.root r=some R/\R.own=true:=fun r hr=>(jI.1 hr).elim (hG.own r) (hL.own r);have hat:∀j,j<t.width->∃a u,(zN y)[j]?=some a/\(ev x).cells[j]?=some u/\VA w st E a u:=by intro j hj;have h1:j<(zN y).length:=(by omega);have h2:j<(ev x).cells.size:=(by omega);have e1:=qB h1;have e2:(ev x).cells[j]?=some (ev x).cells[j]:=jY h2;exact⟨_,_,e1,e2,(c2 j _ _ e1 e2).2⟩
      have hnew:∀j z,j<t.width->(match (zN y)[j]? with|some a=>aφ E a|none=>fun _=>False) z->∃a,(zN y)[j]?=some a/\∃r∈k2,a = .sl r []/\E.φ r z:=by
       intro j z hj hz;obtain⟨a,u,ha,_,_⟩:=hat j hj;rw[ha]at hz;exact⟨a,ha,hG.fi ha hz⟩
      have hlt:∀r∈k2++ks,∀z,E.φ r z->z<w.heap.size:=by intro r hr z hz;obtain⟨R,hR,_⟩:=hown r hr;exact hM.rlt r R hR z hz
      have hL':Laid w st E t (l.set i d) (k2++ks) (splice cells.toList (i*t.width) (ev x).cells.toList).toArray:=by
       refine⟨by rw[jZ,zid _ _ _ hb];simpa using hL.size,hown,?_⟩;refine⟨fun i' j=>if i'=i then ((ev x).cells[j]?).getD undef else V i' j,fun i' j=>if i'=i then (match (zN y)[j]? with|some a=>aφ E a|none=>fun _=>False) else K i' j,?_,?_,?_,?_⟩;{intro i' j z hi hj hz;by_cases he:i'=i;{simp only [if_pos he]at hz;obtain⟨a,ha,r,hr,_,hrz⟩:=hnew j z hj hz;have hm:r∈k2++ks:=jX _ hr;exact⟨⟨r,hm,hrz⟩,fun _ e=>by have:=hlt r hm z hrz;omega⟩};{simp only [if_neg he]at hz;obtain⟨⟨r,hr,hrz⟩,h2⟩:=hR.sub i' j z (by simpa using hi) hj hz;exact⟨⟨r,kE _ hr,hrz⟩,h2⟩}};{intro _ i1 j1 i2 j2 z hi1 hj1 hi2 hj2 hz1 hz2;by_cases h1:i1=i<;>by_cases h2:i2=i;{simp only [if_pos h1]at hz1;simp only[if_pos h2]at hz2;obtain⟨a,ha,r1,hr1,rfl,hrz1⟩:=hnew j1 z hj1 hz1;obtain⟨a,ha2,r2,hr2,rfl,hrz2⟩:=hnew j2 z hj2 hz2;obtain⟨R1,hR1,ho1⟩:=hG.own r1 hr1;obtain⟨R2,hR2,ho2⟩:=hG.own r2 hr2;have:=hM.own_apart hR1 ho1 hR2 ho2 hrz1 hrz2;subst this;exact⟨h1.trans h2.symm,hG.inj j1 j2 r1 ha ha2⟩};{simp only [if_pos h1]at hz1;simp only[if_neg h2]at hz2;obtain⟨a,ha,r1,hr1,_,hrz1⟩:=hnew j1 z hj1 hz1;obtain⟨⟨r2,hr2,hrz2⟩,_⟩:=hR.sub i2 j2 z (by simpa using hi2) hj2 hz2;obtain⟨R1,hR1,ho1⟩:=hG.own r1 hr1;obtain⟨R2,hR2,ho2⟩:=hL.own r2 hr2;have:=hM.own_apart hR1 ho1 hR2 ho2 hrz1 hrz2;subst this;exact absurd hr2 (hdisj r1 hr1)};{simp only [if_neg h1]at hz1;simp only[if_pos h2]at hz2;obtain⟨a,ha,r1,hr1,_,hrz1⟩:=hnew j2 z hj2 hz2;obtain⟨⟨r2,hr2,hrz2⟩,_⟩:=hR.sub i1 j1 z (by simpa using hi1) hj1 hz1;obtain⟨R1,hR1,ho1⟩:=hG.own r1 hr1;obtain⟨R2,hR2,ho2⟩:=hL.own r2 hr2;have:=hM.own_apart hR1 ho1 hR2 ho2 hrz1 hrz2;subst this;exact absurd hr2 (hdisj r1 hr1)};{simp only [if_neg h1]at hz1;simp only[if_neg h2]at hz2;exact hR.dis rfl i1 j1 i2 j2 z (by simpa using hi1) hj1 (by simpa using hi2) hj2 hz1 hz2}}
       .intro i' j hi hj;have hi':i'<l.length:=(by simpa using hi);rw[jF];by_cases he:i'=i;{subst he;simp only[if_true];rw[zeV _ _ _ hb _ (by omega) (by simp[hvl];omega)];obtain⟨a,u,_,hu,_⟩:=hat j hj;rw[hu];have e:0+i'*t.width+j-i'*t.width=j:=(by omega);rw[e];simpa using hu}
        .simp only [if_neg he];rw[zeK _ _ _ hb _ (by
          simp only[kM,hvl];rcases u1 i' i with hlt|hge
          .left
           have:(i'+1)*t.width<=i*t.width:=qQ _ hlt;rw[jH] at this;omega
          .right
           have:(i+1)*t.width<=i'*t.width:=qQ _ (by omega)
           rw[jH] at this;omega)]
         simpa using hR.val i' j hi' hj
       {intro i' z hz j c hcj;by_cases he:i'=i;{subst he;simp only[if_true];rw[jD]at hz;simp only[if_true,if_pos hil]at hz;cases hz;rw[hcs]at hcj;have hj:j<t.width:=(by rw[<- hcl];exact(qA.1 hcj).1);obtain⟨a,u,ha,hu,hau⟩:=hat j hj;rw[ha,hu];exact hG.rep hM ha hcj hau};{simp only [if_neg he];rw[jD,if_neg (fun e=>he e.symm)]at hz;exact hR.con i' z hz j c hcj}}
      obtain⟨cells',h1,h2,h3⟩:=zvu hM hev r (l.set i d) (k2++ks) l' ks' _ h hL';refine⟨cells',?_,by rw[h2];simp,h3⟩;simp only[q0];rw[zMj (place:=fun i=>some (i*t.width,t.width)) rfl hvl hfit];exact h1
     {cases h}
    {cases h}
   {cases h}
  {cases h}
structure LaidZ (w:World) (st:St) (E:Env) (t:Ty) (l:List t.den) (ks:List Nat) (cells:Array Value):Prop where
 size:cells.size=l.length*t.width
 own:∀r∈ks,∃R,st.root r=some R/\R.own=true
 rows:∃V K,Rows false w t l cells 0 w.heap.size V K (fun x=>∃r∈ks,E.φ r x)
structure LaidV (w:World) (st:St) (E:Env) (t:Ty) (l:List t.den) (cells:Array Value):Prop where
 size:cells.size=l.length*t.width
 rows:∃V K,Rows false w t l cells 0 w.heap.size V K (fun x=>∃r R,st.root r=some R/\E.φ r x)
theorem zIj {P:Program}{w:World}(t e:TypeId)(len:Nat)(parts:Array (Nat×Value))(cells:Array Value)(ie:TypeInfo)(z:Value)(hu:P.underlying t=some (.slice e))(hie:P.info? e=some ie)(hz:ie.zero=some z)(hsmall:¬ len*ie.size>2 ^ 24)(h:Instr.fill (λi=>some (i*ie.size,ie.size)) (madeCells z.cells<|len*ie.size) parts.toList=some cells) :
 (Instr.buildSlice t len parts).run P w = .ok (.slice (some ⟨w.heap.size,0,none⟩) len len) (w.alloc<|.cells cells e):=by
 by_cases hpos:len*ie.size=0
 .rw [hpos]at h;have e0:madeCells z.cells 0 = #[]:=by simp[madeCells,Array.range_zero']
  rw[e0]at h;simp[Instr.buildSlice,run_underlying hu,sizeOf,typeInfo,zeroValue,hie,hz,hpos,h,newRow,Array.range_zero']
 .exact run_buildSlice w t e len parts cells ie z hu hie hz hsmall hpos h
theorem zRr (hC:CfgOk C)(hS:Sim w0 S0 U st E ts sv w){o:Oper}{id:Nat}(hid:∀n,Mine id n->¬ U n){T:TypeId}{len:Nat}{parts:Array (Nat×Operand)}{d:Dl}(ho:o.op = .buildSlice T len parts)(h:delta C st o id=some d):Goes C w0 S0 U st ts sv w o id (λst=>st.apply o.dst d):=by
 simp only[delta,ho]at h;split at h
 .rename_i t hT;split at h
  .rename_i l ks hr;split at h
   .rename_i hle;cases h;obtain⟨e,hE⟩:=hC.sty T t hT;obtain⟨i,z,hi,hs,hz,hzc,hby⟩:=hE.info;have hM:=hS.mem;have hL0:Laid w st E t (List.replicate len t.dflt) [] (madeCells z.cells<|len*t.width):=(by refine⟨by simp[size_madeCells],λr hr=>by simp at hr,λ_ j=>((t.shape[j]?).map zeroV).getD undef,λ_ _ _=>False,λ_ _ _ _ _ h=>h.elim,λ_ _ _ _ _ _ _ _ _ _ h=>h.elim,λi j hi hj=>?_,λi x hx j c hcj=>?_⟩;{obtain⟨c,h1,h2⟩:=zzX hzc (by simpa using hi) hj;rw[jT,h2,h1];rfl};{rw [j9]at hx;split at hx;{cases hx;rw[zGm,qO]at hcj;cases hcc:t.shape[j]? with|none=>rw[hcc]at hcj;cases hcj|some ct=>rw[hcc]at hcj;cases hcj;exact zRl true _ ct _};{cases hx}});obtain⟨cells,hf,hll,hL⟩:=zvu hM (ev:=({tmps:=ts,defers:=[]}:Act).eval) (λx y hx=>(zbX hS hx).1) parts.toList _ [] l ks _ hr hL0;have hll':l.length=len:=(by rw[hll];simp);have hsmall:¬ len*i.size>2 ^ 24:=(by rw[hs];have:=uR hle (zTC t);omega);have hrun:=zIj (P:=C.P) (w:=w) T e len (parts.map λx=>(x.1,({tmps:=ts,defers:=[]}:Act).eval x.2)) cells i z hE.und hi hz hsmall (by rw[hs,k9];exact hf);obtain⟨V,K,hR⟩:=hL.rows;generalize hw1:w.alloc (.cells cells e)=w1 at hrun;have hsame:∀x,x<w.heap.size->w1.heap[x]?=w.heap[x]?:=λx hx=>(by rw[<- hw1];exact heap_alloc_old w _ x hx);have hsize:w1.heap.size=w.heap.size+1:=(by rw[<- hw1];simp);have hblt:∀k∈ks,∀x,E.φ k x->x<w.heap.size:=λk hk x hx=>(by obtain⟨Q,hQ,_⟩:=hL.own k hk;exact hM.rlt k Q hQ x hx);refine zk9 hS hid (w1:=w1) (v:=.slice (some ⟨w.heap.size,0,none⟩) len len) (φn:=λx=>(∃k∈ks,E.φ k x)\/x=w.heap.size) ?_ hL.own (by rw[<- hw1];rfl) (by rw[<- hw1];rfl) (by rw[<- hw1];rfl) (by omega) (λx hx _=>hsame x hx) ?_ ?_ ?_;{simp [execOp,ho,hrun]};{rintro x (hx|rfl);{exact .inl hx};{exact .inr ⟨qX _,by omega⟩}}
    .have hcsz:cells.size=len*t.width:=by rw[hL.size,hll']
     have:=Rep.sl (o:=true) (w:=w1) t l w.heap.size 0 len cells e (0,0) V K (λx=>(∃k∈ks,E.φ k x)\/x=w.heap.size) (by rw[<- hw1];exact heap_alloc_new w _) (λ_=>rfl) (by rw[hll'];simp only[big];omega) (by omega) (by omega) (.inr rfl)
      (λi j x hi hj hk=>⟨.inl (hR.sub i j x hi hj hk).1,(hR.sub i j x hi hj hk).2⟩) hR.dis hR.val
      (λi x hx j c hcj=>by
       have hi':i<l.length:=(qA.1 hx).1;have hj':j<t.width:=by have:=(qA.1 hcj).1;rw[zc8] at this;exact this
       refine(hR.con i x hx j c hcj).frame (λy hy=>?_);obtain⟨⟨k,hk,hky⟩,_⟩:=hR.sub i j y hi' hj' hy;exact hsame y (hblt k hk y hky))
     rw[hll'] at this;exact this
    {intro k hk Q hQ;have hfr:∀x,E.φ k x->w1.heap[x]?=w.heap[x]?:=λx hx=>hsame x (hM.rlt k Q hQ x hx);refine⟨((hM.rep k Q hQ).frame hfr).ro,λp u hp=>?_⟩;rw[zda p (hM.rep k Q hQ) hfr];exact hp}
   {cases h}
  {cases h}
 {cases h}
end
def zdF (o:Bool)(w:World)(cvs:List CV)(xs:List Value)(K:Nat->zT):Prop :=
 xs.length=cvs.length/\∀(i:Nat) (c:CV) (x:Value),cvs[i]?=some c->xs[i]?=some x->Rep o w x c (K i)
def zo0 (f:FuncId):CV->Bool
 |.s t _=>zcC f t
 |_=>true
def zuJ (o:CV->Bool)(w:World)(cvs:List CV)(xs:List Value)(K:Nat->zT):Prop :=
 xs.length=cvs.length/\∀(i:Nat) (c:CV) (x:Value),cvs[i]?=some c->xs[i]?=some x->Rep (o c) w x c (K i)
theorem zdF.o {o:CV->Bool}{w:World}{cvs:List CV}{xs:List Value}{K:Nat->zT}(h:zdF true w cvs xs K):zuJ o w cvs xs K :=
 ⟨h.1,λi c x hc hx=>by cases o c;exact(h.2 i c x hc hx).ro;exact h.2 i c x hc hx⟩
def zB (rs:List AV):List CV:=rs.flatMap AV.cvs
def zbQ:List AV->List Value->List Value
 |[],_=>[]
 |.one _::r,xs=>xs.headD undef::zbQ r (xs.drop 1)
 |.agg cs::r,xs=>.agg (xs.take cs.length).toArray::zbQ r (xs.drop cs.length)
def zj6:List Value->Value
 |[x]=>x
 |l=>.tuple l.toArray
structure Grown (w w':World):Prop where
 os:w'.os=w.os
 tape:w'.tape=w.tape
 output:w'.output=w.output
 size:w.heap.size<=w'.heap.size
 keep:∀b,b<w.heap.size->w'.heap[b]?=w.heap[b]?
structure FnOk (P:Program) (f:FuncId):Prop where
 ok:∃fn b,P.funcs[f]?=some fn/\fn.body=some b/\(fn.name == "runtime.NumGoroutine")=false
structure Fresh (w w':World) (n:Nat) (K:Nat->zT):Prop where
 lt:∀i x,i<n->K i x->w.heap.size<=x/\x<w'.heap.size
 dis:∀i j x,i<n->j<n->K i x->K j x->i=j
structure FreshO (o:CV->Bool) (w w':World) (cvs:List CV) (K:Nat->zT):Prop where
 lt:∀i x,i<cvs.length->K i x->w.heap.size<=x/\x<w'.heap.size
 dis:∀i j c x,cvs[i]?=some c->o c=true->j<cvs.length->K i x->K j x->i=j
theorem Fresh.o {o:CV->Bool}{w w':World}{cvs:List CV}{K:Nat->zT}(h:Fresh w w' cvs.length K):FreshO o w w' cvs K :=
 ⟨h.lt,λi j c x hc _ hj hx hx'=>h.dis i j x (qA.1 hc).1 hj hx hx'⟩
def Holds (P:Program)(f:FuncId)(run:List AV->Option (Bool×List AV)):Prop :=
 FnOk P f/\∀(w:World) (avs:List AV) (xs:List Value) (rs:List AV),zdF false w (zB avs) xs (λ_ b=>b<w.heap.size)->run avs=some (true,rs)->
  Calls P f (zbQ avs xs).toArray w fun
   |.returned v,w'=>Grown w w'/\∃(ys:List Value) (K:Nat->zT),zuJ (zo0 f) w' (zB rs) ys K/\v=zj6 (zbQ rs ys)/\FreshO (zo0 f) w w' (zB rs) K
   |_,_=>False
def zOV (P:Program)(f:FuncId)(run:List AV->Option (Bool×List AV)):Prop :=
 FnOk P f/\∀(w:World) (avs:List AV) (xs:List Value) (rs:List AV),zdF false w (zB avs) xs (λ_ b=>b<w.heap.size)->run avs=some (true,rs)->
  Calls P f (zbQ avs xs).toArray w fun
   |.returned v,w'=>Grown w w'/\∃(ys:List Value),zdF true w' (zB rs) ys (λ_ _=>False)/\v=zj6 ((zbQ avs xs).headD undef::zbQ rs ys)
   |_,_=>False
def zF2 (P:Program)(f:FuncId)(run:CV->Int->Option (Bool×CV×Int)):Prop :=
 FnOk P f/\∀(w:World) (v:Value) (t:Ty) (l:List t.den) (k:Int) (S:zT) (c':CV) (k':Int),Rep true w v (.s t l) S->(∀x,S x->x<w.heap.size)->run (.s t l) k=some (true,c',k')->
  Calls P f #[v,.int .i64 k] w fun
   |.returned u,w'=>w'.os=w.os/\w'.tape=w.tape/\w'.output=w.output/\w.heap.size<=w'.heap.size/\(∀b,b<w.heap.size->¬ S b->w'.heap[b]?=w.heap[b]?)/\u = .int .i64 k'/\
    ∃S':zT,Rep true w' v c' S'/\∀x,S' x->(S x\/w.heap.size<=x)/\x<w'.heap.size
   |_,_=>False
section
variable {C:Cfg} {w0 w w1:World} {S0:zT} {U:Nat->Prop} {st st1:St} {E E1:Env} {ts:Array Value} {sv:List (Array Value)}
theorem zdF.append {o:Bool}{c1 c2:List CV}{x1 x2:List Value}{K:Nat->zT}(h1:zdF o w c1 x1 K)(h2:zdF o w c2 x2 λi=>K (c1.length+i)):zdF o w (c1++c2) (x1++x2) K:=by refine⟨by simp[h1.1,h2.1],λi c x hc hx=>?_⟩;by_cases hi:i<c1.length;{rw [qT hi]at hc;rw[qT (by rw[h1.1];exact hi)]at hx;exact h1.2 i c x hc hx};{rw [qP (by omega)]at hc;rw[qP (by rw[h1.1];omega),h1.1]at hx;have:=h2.2 _ c x hc hx;have e:c1.length+(i-c1.length)=i:=(by omega);simp only at this;rw[e] at this;exact this}
theorem zrd (hS:Sim w0 S0 U st E ts sv w){a:At}{u:Value}{c:CV}(hc:st.cvOf a=some c)(hu:VA w st E a u):Rep false w u c (λb=>b<w.heap.size)/\u.oneCell'=true:=by
 cases a with
 |i k n=>cases hc;cases hu;exact⟨.i _ _ _,rfl⟩
 |b x=>cases hc;cases hu;exact⟨.b _ _,rfl⟩
 |sl r p=>simp only[St.cvOf]at hc;obtain⟨R,hR,hg⟩:=zfT hc;obtain⟨t',l',S',h1,h2,h3,h4⟩:=Rep.at p (hS.mem.rep r R hR) (hu.2 R hR);rw[hg]at h1;cases h1;exact⟨(h3.weak λx hx=>hS.mem.rlt r R hR x (h4 x hx)).ro,h3.one⟩
 |bad=>cases hc
 |lp l off=>cases hc
 |ep r p i off=>cases hc
 |fn f caps=>cases hc
 |kp r J t=>cases hc
theorem zv5 (hS:Sim w0 S0 U st E ts sv w):∀(l:List Operand) (avs:List AV),zcl (λx=>match st.opnd x with|some v=>st.avOf v|none=>none) l=some avs->
 ∃xs,zdF false w (zB avs) xs (λ_ b=>b<w.heap.size)/\l.map ({tmps:=ts,defers:=[]}:Act).eval=zbQ avs xs
 |[],avs,h=>by cases h;exact⟨[],⟨rfl,λi c x h=>by simp[zB]at h⟩,rfl⟩
 |x::r,avs,h=>by simp only[zcl]at h;split at h;{rename_i av hav;split at h;{rename_i avs' hr;cases h;obtain⟨xs,hxs,hm⟩:=zv5 hS r avs' hr;split at hav;{rename_i mv hmv;obtain⟨hv,-⟩:=zbX hS hmv;unfold St.avOf at hav;split at hav;{rename_i a;split at hav;{rename_i c hc;cases hav;obtain⟨h1,h2⟩:=zrd hS hc hv;refine⟨({tmps:=ts,defers:=[]}:Act).eval x::xs,?_,by simp[zbQ,hm]⟩;have e:zB (AV.one c::avs')=[c]++zB avs':=(by simp[zB,AV.cvs]);rw[e];refine zdF.append (x1:=[({tmps:=ts,defers:=[]}:Act).eval x]) ⟨rfl,λi c' u hc' hu=>?_⟩ hxs;cases i with|zero=>simp at hc' hu;subst hc' hu;exact h1|succ i=>simp at hc'};{cases hav}};{rename_i l;split at hav;{rename_i cs hcs;cases hav;obtain⟨vs,hvs,hsz,hvv⟩:=hv;obtain⟨hl,hf⟩:=zl0 hcs;have hlen:vs.toList.length=cs.length:=(by simp[hsz,hl]);refine⟨vs.toList++xs,?_,?_⟩;{have e:zB (AV.agg cs::avs')=cs++zB avs':=(by simp[zB,AV.cvs]);rw[e];refine zdF.append ⟨hlen,λi c' u hc' hu=>?_⟩ hxs;have hi:i<l.length:=(by rw[hl];exact(qA.1 hc').1);have ha:=qB hi;exact(zrd hS (hf i _ _ ha hc') (hvv i _ u ha (by simpa using hu)).2).1};{simp only [q0,zbQ,hvs,<- hlen,kJ,kX,hm,jN]}};{cases hav}};{cases hav}};{cases hav}};{cases h}};{cases h}
def zvi (n:Nat):CV->At
 |.i k x=>.i k x
 |.b x=>.b x
 |.s _ _=>.sl n []
theorem zsh:∀(cs:List CV) (id k:Nat),(zgQ cs id)[k]?=cs[k]?.map (zvi<|id+k)
 |[],id,k=>by simp[zgQ]
 |c::cs,id,k=>by have e:zgQ (c::cs) id=zvi id c::zgQ cs (id+1):=(by cases c<;>rfl);rw[e];cases k with|zero=>simp|succ k=>simp only[jL];rw[zsh cs (id+1) k];congr 2;omega
theorem zwK:∀(cs:List CV) (id:Nat),(zgQ cs id).length=cs.length
 |[],_=>rfl
 |c::cs,id=>by cases c<;>simp [zgQ,zwK cs<|id+1]
theorem zQO (own:Ty->Bool):∀(cs:List CV) (id n:Nat) (R:Root),zl (zET own cs id) n=some R->id<=n/\∃t l,cs[n-id]?=some (.s t l)/\R=⟨t,l,own t,none⟩
 |[],_,_,_,h=>by cases h
 |c::cs,id,n,R,h=>by have hr:zl (zET own cs<|id+1) n=some R->id<=n/\∃t l,(c::cs)[n-id]?=some (.s t l)/\R=⟨t,l,own t,none⟩:=λh=>(by obtain⟨h1,t,l,h2,h3⟩:=zQO own cs (id+1) n R h;have e:n-id=(n-(id+1))+1:=(by omega);exact⟨by omega,t,l,by rw[e,jL];exact h2,h3⟩);cases c with|i k x=>exact hr h|b x=>exact hr h|s t l=>simp only[zET,zl]at h;split at h;{rename_i he;simp only[qL]at he;subst he;cases h;exact⟨qX _,t,l,by simp,rfl⟩};{exact hr h}
theorem zfe (own:Ty->Bool):∀(rs:List AV) (id n:Nat) (R:Root),zl (zcL own rs id) n=some R->id<=n/\∃t l,(zB rs)[n-id]?=some (.s t l)/\R=⟨t,l,own t,none⟩
 |[],_,_,_,h=>by cases h
 |x::rs,id,n,R,h=>by have e:zB (x::rs)=x.cvs++zB rs:=(by simp[zB]);have h:zl (zET own x.cvs id++zcL own rs (id+x.cvs.length)) n=some R:=h;rw[zbH]at h;rw[e];split at h;{rename_i Q hQ;cases h;obtain⟨h1,t,l,h2,h3⟩:=zQO own x.cvs id n R hQ;refine⟨h1,t,l,?_,h3⟩;rw[qT (qA.1 h2).1];exact h2};{obtain⟨h1,t,l,h2,h3⟩:=zfe own rs (id+x.cvs.length) n R h;refine⟨by omega,t,l,?_,h3⟩;rw[qP (by omega)];have e2:n-id-x.cvs.length=n-(id+x.cvs.length):=(by omega);rw[e2];exact h2}
theorem zgP:∀(rs:List AV) (ys:List Value) (id:Nat),ys.length=(zB rs).length->(∀(i:Nat) (c:CV) (u:Value),(zB rs)[i]?=some c->ys[i]?=some u->VA w st E (zvi (id+i) c) u/\u.oneCell'=true)->
 (zcI rs id).length=(zbQ rs ys).length/\∀(k:Nat) (x:TV) (u:Value),(zcI rs id)[k]?=some x->(zbQ rs ys)[k]?=some u->VT w st E x u
 |[],ys,id,_,_=>⟨rfl,λk x u h=>by simp[zcI]at h⟩
 |.one c::rs,ys,id,hl,hv=>by
  have e:zB (AV.one c::rs)=c::zB rs:=by simp[zB,AV.cvs]
  rw[e]at hl hv;cases ys with
  |nil=>simp at hl
  |cons y ys=>
   obtain⟨h1,h2⟩:=zgP rs ys (id+1) (by simpa using hl) (λi c u hc hu=>by
    have:=hv (i+1) c u (by simpa using hc) (by simpa using hu)
    have e:id+(i+1)=id+1+i:=by omega
    rw[e] at this;exact this)
   refine⟨by simp[zcI,zbQ,h1],λk x u hx hu=>?_⟩;cases k with|zero=>simp only[zcI,zbQ,qH,qC,List.headD_cons]at hx hu;subst hx hu;have:=(hv 0 c y (by simp) (by simp)).1;cases c<;>exact this|succ k=>exact h2 k x u (by simpa [zcI] using hx) (by simpa [zbQ] using hu)
 |.agg cs::rs,ys,id,hl,hv=>by
  have e:zB (AV.agg cs::rs)=cs++zB rs:=by simp[zB,AV.cvs]
  rw[e]at hl hv;rw[kR]at hl;obtain⟨h1,h2⟩:=zgP rs (ys.drop cs.length) (id+cs.length) (by simp;omega) (λi c u hc hu=>by
   have:=hv (cs.length+i) c u (by rw[qP (by omega)];simpa using hc) (by rw[jM]at hu;exact hu)
   have e:id+(cs.length+i)=id+cs.length+i:=by omega
   rw[e] at this;exact this)
  refine⟨by simp[zcI,zbQ,h1],λk x u hx hu=>?_⟩;cases k with|zero=>simp only[zcI,zbQ,qH,qC]at hx hu;subst hx hu;refine⟨_,rfl,by simp[zwK];omega,λj a u ha hu=>?_⟩;rw[zsh]at ha;(cases hc:cs[j]? with|none=>rw[hc]at ha;cases ha|some c=>rw[hc]at ha;cases ha;have hj:j<cs.length:=(qA.1 hc).1;simp only[jF,jJ,if_pos hj]at hu;have:=hv j c u (by rw[qT hj];exact hc) hu;exact⟨this.2,this.1⟩)|succ k=>exact h2 k x u (by simpa [zcI] using hx) (by simpa [zbQ] using hu)
theorem zoY {l:List TV}{us:List Value}(hl:l.length=us.length)(hv:∀(k:Nat) (x:TV) (u:Value),l[k]?=some x->us[k]?=some u->VT w st E x u):VM w st E (zhQ l) (zj6 us):=by
 match l,us,hl,hv with
 |[],[],_,_=>exact⟨#[],rfl,rfl,λj x u h=>by simp at h⟩
 |[x],[u],_,hv=>exact hv 0 x u rfl rfl
 |x::y::l,u::v::us,hl,hv=>exact⟨_,rfl,by simpa using hl.symm,λj x' u' h1 h2=>hv j x' u' h1 (by simpa using h2)⟩
 |[x],u::v::us,hl,_=>simp at hl
 |x::y::l,[u],hl,_=>simp at hl
 |[],u::us,hl,_=>simp at hl
 |x::l,[],hl,_=>simp at hl
theorem zwL {n m:Nat}{c:CV}(h:m∈(zvi n c).ids):m=n:=by cases c<;>simp [zvi,At.ids,zbh,zbn]at h;exact h
theorem zff:∀(rs:List AV) (id m:Nat) (x:TV) (a:At),x∈zcI rs id->a∈zN x->m∈a.ids->id<=m/\m<id+(zB rs).length
 |[],_,_,_,_,h,_,_=>by simp[zcI]at h
 |.one c::rs,id,m,x,a,hx,ha,hm=>by have e:(zB (AV.one c::rs)).length=1+(zB rs).length:=(by simp[zB,AV.cvs];omega);rw[e];simp only[zcI,qI]at hx;rcases hx with rfl|hx;{simp only [zN,qF]at ha;subst ha;have:(zgQ [c] id).headD .bad=zvi id c:=(by cases c<;>rfl);rw[this]at hm;rw[zwL hm];omega};{have:=zff rs (id+1) m x a hx ha hm;omega}
 |.agg cs::rs,id,m,x,a,hx,ha,hm=>by have e:(zB (AV.agg cs::rs)).length=cs.length+(zB rs).length:=(by simp[zB,AV.cvs]);rw[e];simp only[zcI,qI]at hx;rcases hx with rfl|hx;{simp only [zN]at ha;obtain⟨k,hk⟩:=qR.1 ha;rw[zsh]at hk;cases hc:cs[k]? with|none=>rw[hc]at hk;cases hk|some c=>rw[hc]at hk;cases hk;have hkl:k<cs.length:=(qA.1 hc).1;rw[zwL hm];omega};{have:=zff rs (id+cs.length) m x a hx ha hm;omega}
theorem zoX {l:List TV}{a:At}(h:a∈zbw (zhQ l)):∃x∈l,a∈zN x:=by
 match l,h with
 |[],h=>simp[zhQ,zbw]at h
 |[x],h=>exact⟨x,by simp,h⟩
 |x::y::l,h=>simpa [zhQ,zbw] using h
theorem s_call (hS:Sim w0 S0 U st E ts sv w){o:Oper}{id:Nat}(hid:∀n,Mine id n->¬ U n){c:Call}{f:FuncId}{run:List AV->Option (Bool×List AV)}(ho:o.op = .call c)(hcb:c.callee = .value (.func f))(hH:Holds C.P f run){avs rs:List AV}(ha:zcl (λx=>match st.opnd x with|some v=>st.avOf v|none=>none) c.args.toList=some avs)(hr:run avs=some (true,rs))(hle:(zB rs).length<=31) :
 Goes C w0 S0 U st ts sv w o id (λst=>st.apply o.dst {c:=true,v:=zhQ (zcI rs id),ro:=zcL (zcC f) rs id}):=by
 intro next Q hn;obtain⟨⟨fn,b,hf,hb,hname⟩,hH⟩:=hH;obtain⟨xs,hxs,hm⟩:=zv5 hS c.args.toList avs ha;have hargs:c.args.map ({tmps:=ts,defers:=[]}:Act).eval=(zbQ avs xs).toArray:=by rw[<- hm,<- k9,jN]
 have hexec:(execOp ({tmps:=ts,defers:=[]}:Act).eval o).run C.P w = .ok (.enter f (zbQ avs xs).toArray) w:=by have hname':fn.name≠ "runtime.NumGoroutine":=(by simpa using hname);simp[execOp,ho,resolve,hcb,Act.eval,Deferred.ofValue,invoke,callFunc,hf,hb,hname',hargs]
 unfold Oper.wp;rw[hexec,Oper.upon_enter];refine(hH w avs xs rs hxs hr).mono ?_;intro e w' he;cases e with
 |panicked chain=>exact he.elim
 |outgrown=>exact he.elim
 |returned v=>
  obtain⟨hg,ys,K,hys,rfl,hfr⟩:=he;have hE1:∀n,(id<=n/\n<id+31)->¬ U n:=λn h=>hid n ⟨h.1,by omega⟩
  obtain⟨hM,hT⟩:=hS.mem.addRootsO hS.ids.mem (dro:=zcL (zcC f) rs id) (w1:=w')
   (E1:={E with ρ:=λn=>if id<=n/\n<id+31 then (ys[n-id]?).getD undef else E.ρ n,φ:=λn=>if id<=n/\n<id+31 then (λx=>n-id<(zB rs).length/\K (n-id) x) else E.φ n})
   hg.os hg.tape hg.output hg.size hg.keep (λr R hR=>by
    obtain⟨h1,t,l,h2,rfl⟩:=zfe (zcC f) rs id r R hR;have hlt:r-id<(zB rs).length:=(qA.1 h2).1;have hm:id<=r/\r<id+31:=⟨h1,by omega⟩
    have hy:r-id<ys.length:=by rw[hys.1];exact hlt
    refine⟨hE1 r hm,rfl,?_,λx hx=>?_⟩
    .simp only [if_pos hm,qB hy,jU];exact(hys.2 _ _ _ h2<|qB hy).weak (λx hx=>⟨hlt,hx⟩)
    .simp only [if_pos hm]at hx;exact hfr.lt _ x hlt hx.2)
   (λr R r' R' h1 ho h2 hne x hx hx'=>by
    obtain⟨g1,t,l,g2,rfl⟩:=zfe (zcC f) rs id r R h1;obtain⟨g1',t',l',g2',rfl⟩:=zfe (zcC f) rs id r' R' h2;have hlt:r-id<(zB rs).length:=(qA.1 g2).1;have hlt':r'-id<(zB rs).length:=(qA.1 g2').1;have hm:id<=r/\r<id+31:=⟨g1,by omega⟩
    have hm':id<=r'/\r'<id+31:=⟨g1',by omega⟩
    simp only[if_pos hm]at hx;simp only[if_pos hm']at hx';have:=hfr.dis _ _ _ x g2 ho hlt' hx.2 hx'.2;omega)
   (λn hn=>by
    have hm:¬ (id<=n/\n<id+31):=λh=>hE1 n h hn;simp only[if_neg hm];exact⟨trivial,trivial,trivial⟩)
  obtain⟨g1,g2⟩:=zgP (w:=w') (st:={st with ro:=zcL (zcC f) rs id++st.ro}) (E:={E with ρ:=λn=>if id<=n/\n<id+31 then (ys[n-id]?).getD undef else E.ρ n,φ:=λn=>if id<=n/\n<id+31 then (λx=>n-id<(zB rs).length/\K (n-id) x) else E.φ n})
   rs ys id hys.1 (λi c u hc hu=>by
    have hrep:=hys.2 i c u hc hu;refine⟨?_,hrep.one⟩;have hlt:i<(zB rs).length:=(qA.1 hc).1;cases c with
    |i k n=>exact hrep.int_inv
    |b x=>exact hrep.bool_inv
    |s t l=>
     obtain⟨⟨a,cap,hv,_⟩,_⟩:=hrep.len;refine⟨⟨a,_,cap,hv⟩,λR hR=>?_⟩;have hm:id<=id+i/\id+i<id+31:=⟨by omega,by omega⟩
     have e:id+i-id=i:=by omega
     simp only[zQ,if_pos hm,e,hu,jU])
  exact hn _ _ _ (Sim.next hS hM hT rfl rfl (λn h=>.inl h) (λn R h=>by
   simp only[zbH]at h;split at h
   .rename_i Q hQ;obtain⟨h1,t,l,h2,_⟩:=zfe (zcC f) rs id n Q hQ;have hlt:n-id<(zB rs).length:=(qA.1 h2).1;exact .inr ⟨h1,by omega⟩
   .exact .inl (hS.ids.ro n R h))
   (λn cs hn=>⟨.inl (hS.ids.lo n cs hn).1,λa ha m hm=>.inl ((hS.ids.lo n cs hn).2 a ha m hm)⟩) (zoY g1 g2) (λn hn=>by
    simp only[MV.ids,qN]at hn;obtain⟨a,ha,hn⟩:=hn;obtain⟨x,hx,ha⟩:=zoX ha;have:=zff rs id n x a hx ha hn;exact .inr ⟨this.1,by omega⟩))
theorem z5d (hS:Sim w0 S0 U st E ts sv w){o:Oper}{id:Nat}(hid:∀n,Mine id n->¬ U n){c:Call}{f:FuncId}{run:List AV->Option (Bool×List AV)}(ho:o.op = .call c)(hcb:c.callee = .value (.func f))(hH:zOV C.P f run){x0:Operand}{xr:List Operand}(hca:c.args.toList=x0::xr){v0:TV}(h0:st.opnd x0=some (.v v0)){avs rs:List AV}(ha:zcl (λx=>match st.opnd x with|some v=>st.avOf v|none=>none) (x0::xr)=some avs)(hr:run avs=some (true,rs))(hfl:(zB rs).all CV.flat=true)(hle:(zB rs).length<=31) :
 Goes C w0 S0 U st ts sv w o id (λst=>st.apply o.dst {c:=true,v:=zhQ (v0::zcI rs id)}):=by
 intro next Q hn;obtain⟨⟨fn,b,hf,hb,hname⟩,hH⟩:=hH;obtain⟨xs,hxs,hm⟩:=zv5 hS (x0::xr) avs ha;obtain⟨hv0,hi0⟩:=zbX hS h0;have hhead:(zbQ avs xs).headD undef=({tmps:=ts,defers:=[]}:Act).eval x0:=by rw[<- hm];rfl
 have hargs:c.args.map ({tmps:=ts,defers:=[]}:Act).eval=(zbQ avs xs).toArray:=by rw[<- hm,<- hca,<- k9,jN]
 have hexec:(execOp ({tmps:=ts,defers:=[]}:Act).eval o).run C.P w = .ok (.enter f (zbQ avs xs).toArray) w:=by have hname':fn.name≠ "runtime.NumGoroutine":=(by simpa using hname);simp[execOp,ho,resolve,hcb,Act.eval,Deferred.ofValue,invoke,callFunc,hf,hb,hname',hargs]
 unfold Oper.wp;rw[hexec,Oper.upon_enter];refine(hH w avs xs rs hxs hr).mono ?_;intro e w' he;cases e with
 |panicked chain=>exact he.elim
 |outgrown=>exact he.elim
 |returned v=>
  obtain⟨hg,ys,hys,rfl⟩:=he;rw[hhead];obtain⟨hM,hT⟩:=hS.mem.addRoots hS.ids.mem (dro:=[]) (w1:=w') (E1:=E) hg.os hg.tape hg.output hg.size hg.keep (λr R hR=>by cases hR) (λr R _ _ hR=>by cases hR) (λ_ _=>⟨rfl,rfl,rfl⟩)
  have hflat:∀(i:Nat) (c:CV),(zB rs)[i]?=some c->c.flat=true:=λi c hc=>qM.1 hfl c (qK hc);obtain⟨g1,g2⟩:=zgP (w:=w') (st:=st) (E:=E) rs ys id hys.1 (λi c u hc hu=>by
   have hrep:=hys.2 i c u hc hu;refine⟨?_,hrep.one⟩;have hfc:=hflat i c hc;cases c with
   |i k n=>exact hrep.int_inv
   |b x=>exact hrep.bool_inv
   |s t l=>cases hfc)
  exact hn _ _ _ (Sim.next hS (st1:=st) hM hT rfl rfl (λn h=>.inl h) (λn R h=>.inl (hS.ids.ro n R h))
   (λn cs hn=>⟨.inl (hS.ids.lo n cs hn).1,λa ha m hm=>.inl ((hS.ids.lo n cs hn).2 a ha m hm)⟩) (zoY (l:=v0::zcI rs id) (us:=({tmps:=ts,defers:=[]}:Act).eval x0::zbQ rs ys) (by simp[g1]) (λk x u hk hu=>by
    cases k with
    |zero=>simp only[qH,qC]at hk hu;subst hk hu;exact VT.tr hT (λa ha n hn=>hi0 n (by simp only[MV.ids,zbw,qN];exact⟨a,ha,hn⟩)) hv0
    |succ k=>exact g2 k x u (by simpa using hk) (by simpa using hu))) (λn hn2=>by
    simp only[MV.ids,qN]at hn2;obtain⟨a,ha,hn3⟩:=hn2;obtain⟨x,hx,ha2⟩:=zoX ha;rcases qI.1 hx with rfl|hx
    .exact .inl (hi0 n (by simp only[MV.ids,zbw,qN];exact⟨a,ha2,hn3⟩))
    .have:=zff rs id n x a hx ha2 hn3;exact .inr ⟨this.1,by omega⟩))
end
section
variable {C:Cfg} {w0 w w1:World} {S0:zT} {U:Nat->Prop} {st st1:St} {E E1:Env} {ts:Array Value} {sv:List (Array Value)}
def Hit (i j0 n i' j:Nat):Prop:=i'=i/\j0<=j/\j<j0+n
theorem zDl {t:Ty}{l l':List t.den}{i:Int}{j0:Nat}{cvs:List CV}(h:setRow t l i j0 cvs=some l') :
 ∃d,t.cells d=splice (t.cells<|ix l i t.dflt) j0 cvs/\l'=up l i d:=by
 unfold setRow at h;split at h
 .rename_i d hd;cases h;exact⟨d,zjG hd,rfl⟩
 .cases h
theorem Rep.setCells {t:Ty}{l l':List t.den}{b off cap:Nat}{arr:Array Value}{e':TypeId}{V:Nat->Nat->Value}{K:Nat->Nat->zT}{S:zT}{i:Int}{j0:Nat}{cvs:List CV}{us:List Value}{Kn:Nat->zT}(hlen:l.length<=big)(hcap:l.length<=cap)(hsz:off+cap*t.width<=arr.size)(hR:Rows true w t l arr off b V K S)(hi:i.toNat<l.length)(hl:us.length=cvs.length)(hfit:j0+us.length<=t.width)(hset:setRow t l i j0 cvs=some l')(hb1:w1.heap[b]?=some (.cells (splice arr.toList (off+i.toNat*t.width+j0) us).toArray e' (0,0)))(hus:∀(k:Nat) (c:CV) (u:Value),cvs[k]?=some c->us[k]?=some u->Rep true w1 u c (Kn k))(hold:∀i' j,i'<l.length->j<t.width->¬ Hit i.toNat j0 us.length i' j->∀x,K i' j x->w1.heap[x]?=w.heap[x]?)(hKb:∀k x,k<us.length->Kn k x->x≠b)(hKd:∀k k' x,k<us.length->k'<us.length->Kn k x->Kn k' x->k=k')(hKo:∀k x i' j,k<us.length->Kn k x->i'<l.length->j<t.width->¬ Hit i.toNat j0 us.length i' j->¬ K i' j x) :
 Rep true w1 (.slice (some ⟨b,off,none⟩) l.length cap) (.s t l') (fun x=>x=b\/(∃i' j,i'<l.length/\j<t.width/\¬ Hit i.toNat j0 us.length i' j/\K i' j x)\/∃k,k<us.length/\Kn k x):=by
 obtain⟨d,hd,rfl⟩:=zDl hset;have hrow:(i.toNat+1)*t.width<=cap*t.width:=qQ _ (by omega)
 rw[jH]at hrow;have hbs:off+i.toNat*t.width+j0+us.length<=arr.toList.length:=by simp;omega
 have hcb:j0+cvs.length<=(t.cells (ix l i t.dflt)).length:=by rw[zc8,<- hl];exact hfit
 have hlu:(up l i d).length=l.length:=zgZ l i d;have hHit:∀i' j,Decidable (Hit i.toNat j0 us.length i' j):=fun i' j=>by unfold Hit;exact inferInstance
 have key:=Rep.sl (o:=true) (w:=w1) t (up l i d) b off cap (splice arr.toList (off+i.toNat*t.width+j0) us).toArray e' (0,0)
  (fun i' j=>if Hit i.toNat j0 us.length i' j then (us[j-j0]?).getD undef else V i' j) (fun i' j=>if Hit i.toNat j0 us.length i' j then Kn (j-j0) else K i' j)
  (fun x=>x=b\/(∃i' j,i'<l.length/\j<t.width/\¬ Hit i.toNat j0 us.length i' j/\K i' j x)\/∃k,k<us.length/\Kn k x)
  hb1 (fun _=>rfl) (by omega) (by omega) (by rw[jZ,zid _ _ _ hbs];simpa using hsz) (.inl rfl)
  (fun i' j x hi' hj hx=>by
   rw[hlu]at hi'
   by_cases hh:Hit i.toNat j0 us.length i' j
   .simp only [if_pos hh]at hx;obtain⟨_,h2,h3⟩:=hh;exact⟨.inr (.inr ⟨j-j0,by omega,hx⟩),fun _=>hKb _ x (by omega) hx⟩
   .simp only [if_neg hh]at hx;exact⟨.inr (.inl ⟨i',j,hi',hj,hh,hx⟩),(hR.sub i' j x hi' hj hx).2⟩)
  (fun _ i1 j1 i2 j2 x h1 hj1 h2 hj2 hx1 hx2=>by
   rw[hlu]at h1 h2
   by_cases hh1:Hit i.toNat j0 us.length i1 j1<;>by_cases hh2:Hit i.toNat j0 us.length i2 j2
   .simp only [if_pos hh1]at hx1;simp only[if_pos hh2]at hx2;obtain⟨a1,b1,c1⟩:=hh1;obtain⟨a2,b2,c2⟩:=hh2;have:=hKd _ _ x (by omega) (by omega) hx1 hx2
    exact⟨a1.trans a2.symm,by omega⟩
   .simp only [if_pos hh1]at hx1;simp only[if_neg hh2]at hx2;exact absurd hx2 (hKo _ x i2 j2 (by have:=hh1.2;omega) hx1 h2 hj2 hh2)
   .simp only [if_neg hh1]at hx1;simp only[if_pos hh2]at hx2;exact absurd hx1 (hKo _ x i1 j1 (by have:=hh2.2;omega) hx2 h1 hj1 hh1)
   .simp only [if_neg hh1]at hx1;simp only[if_neg hh2]at hx2;exact hR.dis rfl i1 j1 i2 j2 x h1 hj1 h2 hj2 hx1 hx2)
  (fun i' j hi' hj=>by
   rw[hlu]at hi';rw[jF]
   by_cases hh:Hit i.toNat j0 us.length i' j
   .simp only [if_pos hh];obtain⟨rfl,h2,h3⟩:=hh;rw[zeV _ _ _ hbs _ (by omega) (by omega)]
    have e:off+i.toNat*t.width+j-(off+i.toNat*t.width+j0)=j-j0:=by omega
    rw[e,qB (by omega)]
    rfl
   .simp only [if_neg hh];rw[zeK _ _ _ hbs _ (by
     rcases Nat.lt_trichotomy i' i.toNat with h|h|h
     .have:(i'+1)*t.width<=i.toNat*t.width:=qQ _ h;rw[jH] at this;omega
     .subst h
      by_cases hj0:j<j0
      .omega
      .have:¬ j<j0+us.length:=fun hh'=>hh ⟨rfl,by omega,hh'⟩
       omega
     .have:(i.toNat+1)*t.width<=i'*t.width:=qQ _ h;rw[jH] at this;omega)]
    simpa using hR.val i' j hi' hj)
  (fun i' x hx j c hcj=>by
   have hi':i'<l.length:=by have:=(qA.1 hx).1;rw[hlu] at this;exact this
   have hj:j<t.width:=by have:=(qA.1 hcj).1;rw[zc8] at this;exact this
   rw[z2m hi']at hx
   by_cases hh:Hit i.toNat j0 us.length i' j
   .simp only [if_pos hh];obtain⟨h1,h2,h3⟩:=hh;rw[if_pos h1.symm]at hx;cases hx;rw[hd,zeV _ _ _ hcb j h2 (by omega)]at hcj
    have hk:j-j0<us.length:=by omega
    rw[qB hk];exact hus _ c _ hcj (qB hk)
   .simp only [if_neg hh];split at hx
    .rename_i h1;cases hx;rw[hd,zeK _ _ _ hcb j (by
      by_cases hj0:j<j0
      .exact .inl hj0
      .have:¬ j<j0+us.length:=fun hh'=>hh ⟨h1.symm,by omega,hh'⟩
       right;omega)]at hcj
     rw[<- h1]at hi' hh ⊢;exact(hR.con i.toNat _ (zlc hi) j c hcj).frame (hold i.toNat j hi hj hh)
    .exact(hR.con i' x hx j c hcj).frame (hold i' j hi' hj hh))
 rw[hlu] at key;exact key
theorem zns {t:Ty}{l l':List t.den}{b off cap:Nat}{arr:Array Value}{e e':TypeId}{V:Nat->Nat->Value}{K:Nat->Nat->zT}{S:zT}{i:Int}{j0:Nat}{cvs:List CV}{us:List Value}(hcap:l.length<=cap)(hsz:off+cap*t.width<=arr.size)(hR:Rows true w t l arr off b V K S)(hb:w.heap[b]?=some (.cells arr e (0,0)))(hi:i.toNat<l.length)(hl:us.length=cvs.length)(hfit:j0+us.length<=t.width)(hset:setRow t l i j0 cvs=some l')(hb1:w1.heap[b]?=some (.cells (splice arr.toList (off+i.toNat*t.width+j0) us).toArray e' (0,0)))(hold:∀i' j,i'<l.length->j<t.width->¬ Hit i.toNat j0 us.length i' j->∀x,K i' j x->w1.heap[x]?=w.heap[x]?)(q:List (Int×Nat))(hq:∀i' j q',q=(i',j)::q'->∀(k:Nat) (c:CV),j=j0+k->cvs[k]?=some c->c.flat=true\/(i'.toNat=i.toNat->us[k]?=some (V i.toNat j)))(hoth:∀x,x≠b->w1.heap[x]?=w.heap[x]?){u:Value}(h:zQ w t (.slice (some ⟨b,off,none⟩) l.length cap) q=some u):zQ w1 t (.slice (some ⟨b,off,none⟩) l.length cap) q=some u:=by
 obtain⟨d,hd,rfl⟩:=zDl hset;have hrow:(i.toNat+1)*t.width<=cap*t.width:=qQ _ (by omega);rw[jH]at hrow;have hbs:off+i.toNat*t.width+j0+us.length<=arr.toList.length:=(by simp;omega);have hcb:j0+cvs.length<=(t.cells (ix l i t.dflt)).length:=by rw[zc8,<- hl];exact hfit
 cases q with
 |nil=>exact h
 |cons ij q=>
  obtain⟨i',j⟩:=ij;simp only[zQ]at h ⊢;split at h
  .rename_i hi';rw[if_pos hi'];split at h
   .rename_i t' ht';have hj:j<t.width:=by rw[<- zeU];exact(qA.1 ht').1
    have hcell:w1.cell? ⟨b,off+i'.toNat*t.width+j,none⟩=w.cell? ⟨b,off+i'.toNat*t.width+j,none⟩:=by
     rw[cell_of_block hb,cell_of_block hb1,jF];by_cases hhit:Hit i.toNat j0 us.length i'.toNat j;{obtain⟨h1,h2,h3⟩:=hhit;have hk:j-j0<cvs.length:=(by omega);have hck:=qB hk;rcases hq i' j q rfl (j-j0) _ (by omega) hck with hf|hv;{exfalso;have hcj:(t.cells d)[j]?=some cvs[j-j0]:=(by rw[hd,zeV _ _ _ hcb j h2 (by omega)];exact hck);have:=zE5 hcj;rw[ht'] at this;have hs:=(Option.some.inj this).symm;obtain⟨l3,h3⟩:=zk5 hs;rw[h3]at hf;cases hf};{have hv:=hv h1;rw[h1,zeV _ _ _ hbs _ (by omega) (by omega),hR.val _ _ (by rw[<- h1];exact hi'.2) hj];have e:off+i.toNat*t.width+j-(off+i.toNat*t.width+j0)=j-j0:=(by omega);rw[e,hv]}}
     .rw [zeK _ _ _ hbs _ (by
       rcases Nat.lt_trichotomy i'.toNat i.toNat with h|h|h
       .have:(i'.toNat+1)*t.width<=i.toNat*t.width:=qQ _ h;rw[jH] at this;omega
       .rw [h]
        by_cases hj0:j<j0
        .omega
        .have:¬ j<j0+us.length:=fun hh'=>hhit ⟨h,by omega,hh'⟩
         omega
       .have:(i.toNat+1)*t.width<=i'.toNat*t.width:=qQ _ h;rw[jH] at this;omega)]
      simp
    rw[hcell];rw[cell_of_block hb,hR.val _ _ hi'.2 hj]at h ⊢;simp only at h ⊢;have hx:l[i'.toNat]?=some (l[i'.toNat]'hi'.2):=qB hi'.2;obtain⟨c,hc,hct⟩:=zw5 (x:=l[i'.toNat]'hi'.2) ht';obtain⟨l3,rfl⟩:=zk5 hct;rw[zda q (hR.con _ _ hx j _ hc) (fun x hx=>hoth x ((hR.sub _ j x hi'.2 hj hx).2 rfl))];exact h
   {cases h}
  {cases h}
theorem zn8 {P:Program}{T:TypeId}{agg:Bool}{tys:List CTy}{b off:Nat}{arr:Array Value}{e:TypeId}{v:Value}(hT:TypeOk P T agg tys)(hb:w.heap[b]?=some (.cells arr e (0,0)))(hv:v.cells.size=tys.length)(h:off+tys.length<=arr.size)(h1:∀u∈v.cells.toList,u.oneCell'=true) :
 (storeVar T ⟨b,off,none⟩ v).run P w = .ok () (w.setRow b (splice arr.toList off v.cells.toList).toArray):=by
 have hst:=run_storeCells_at (P:=P) b off e v.cells.toList 0 arr w hb (by simp[hv];omega) h1
 have hsp:(arr.toList.take (off+0)++v.cells.toList++arr.toList.drop (off+0+v.cells.toList.length))=splice arr.toList off v.cells.toList:=by simp[splice]
 rw[hsp]at hst;simp[storeVar,zwW hT,hv,hst]
theorem zGB {xs:List At}{cs:List CV}(hG:Given st xs cs []){k:Nat}{c:CV}(h:cs[k]?=some c):c.flat=true:=by have hk:k<xs.length:=(by rw[<- hG.len];exact(qA.1 h).1);rcases hG.get k _ (qB hk) with⟨_,_,_,h2⟩|⟨_,_,h2⟩|⟨_,_,_,_,h2,_⟩;{rw [h]at h2;cases h2;rfl};{rw [h]at h2;cases h2;rfl};{cases h2}
theorem zrm (p q:List (Int×Nat)):(∃q',q=p++q')\/¬ ∃q',q=p++q':=Classical.em _
theorem zWo (hC:CfgOk C)(hS:Sim w0 S0 U st E ts sv w){o:Oper}{id:Nat}{T:TypeId}{a x:Operand}{agg:Bool}{tys:List CTy}{y:TV}{r:Nat}{p:List (Int×Nat)}{i:Int}{off:Nat}(ho:o.op = .store T a x)(hT:C.cty T=some (agg,tys))(hx:st.opnd x=some (.v y))(ha:st.at a=some (.ep r p i off)){R:Root}(hRr:st.root r=some R){t:Ty}{l l':List t.den}(hn:st.node r p=some (.s t l)){c:Bool}{cvs:List CV}(hg:st.give none (zN y) 0=some (c,cvs,[]))(hown:R.own=true)(hlen:(zN y).length=tys.length)(hfit:off+tys.length<=t.width)(hset:setRow t l i off cvs=some l'){m:List R.t.den}(hput:zo2 R.t R.l p (.s t l')=some m){c':Bool} :
 Goes C w0 S0 U st ts sv w o id (λs=>s.apply o.dst {c:=c',v:=.und,ro:=[(r,{R with l:=m})],bump:=true}):=by
 obtain⟨hxv,hxi⟩:=zbX hS hx;obtain⟨hav,hai⟩:=zbA hS ha;obtain⟨_,hG⟩:=zqe _ _ _ _ _ hg;obtain⟨hc1,hc2⟩:=VT.cells hxv (zrK hx);obtain⟨b,o2,len,cap,t1,e1,e2,e3,e4,e5⟩:=hav.2 R hRr;have hrep:=hS.mem.rep r R hRr;rw[hown]at hrep;obtain⟨t',l0,S1,f1,f2,f3,f4,f5⟩:=Rep.focus p hrep e1;have hg1:zg3 R.t R.l p=some (.s t l):=by obtain⟨R',hR',hg'⟩:=zfT hn;rw[hRr]at hR';cases hR';exact hg'
 rw[hg1] at f1;cases f1;rw[e2] at f2;cases f2;have fw:=f5 w l S1 (λ_ _ _=>rfl) (λ_ h _=>h) f3;obtain⟨_,_,_,_,fwp⟩:=fw;generalize hv:({tmps:=ts,defers:=[]}:Act).eval x=v at *;cases f3 with
 |void _ _ _ ho=>cases ho
 |sl _ _ _ _ _ arr e' fz V K _ hb hfz hlen1 hcap hsz hS' hsub hdis hvv hcc=>
 have hfz':=hfz rfl;subst hfz';have hRows:Rows true w t l arr o2 b V K S1:=⟨hsub,hdis,hvv,hcc⟩;have hul:v.cells.toList.length=cvs.length:=by rw[hG.len];simpa using hc1
 have husz:v.cells.size=tys.length:=by rw[hc1,hlen]
 have hfit':off+v.cells.toList.length<=t.width:=by simp[husz];exact hfit
 have hrow:(i.toNat+1)*t.width<=cap*t.width:=qQ _ (by omega)
 rw[jH]at hrow;have h1c:∀u∈v.cells.toList,u.oneCell'=true:=by intro u hu;obtain⟨j,hj⟩:=qR.1 hu;have hlt:j<(zN y).length:=(by rw[<- hc1];have:=(qA.1 hj).1;simpa using this);exact(hc2 j _ u (qB hlt) (by simpa using hj)).1
 have hrun:=zn8 (w:=w) (off:=o2+i.toNat*t.width+off) (hC.cty T agg tys hT) hb husz (by omega) h1c
 generalize hw1:w.setRow b (splice arr.toList (o2+i.toNat*t.width+off) v.cells.toList).toArray=w1 at hrun;have hb1:w1.heap[b]?=some (.cells (splice arr.toList (o2+i.toNat*t.width+off) v.cells.toList).toArray e' (0,0)):=by rw[<- hw1];exact setRow_heap w b _ _ e' _ hb
 have hoth:∀x,x≠b->w1.heap[x]?=w.heap[x]?:=λx hx=>by rw[<- hw1];exact setRow_other w b x _ hx
 have hold:∀i' j,i'<l.length->j<t.width->¬ Hit i.toNat off v.cells.toList.length i' j->∀x,K i' j x->w1.heap[x]?=w.heap[x]?:=λi' j hi' hj _ x hx=>hoth x ((hsub i' j x hi' hj hx).2 rfl);have hset1:=Rep.setCells (w:=w) (w1:=w1) (Kn:=λ_ _=>False) hlen1 hcap hsz hRows e4 hul hfit' hset hb1 (λk c u hc hu=>by
  have hk:k<(zN y).length:=by rw[<- hG.len];exact(qA.1 hc).1
  have hat:=qB hk;exact(hG.rep hS.mem hat hc (hc2 k _ u hat (by simpa using hu)).2).flat (zGB hG hc)) hold (λ_ _ _ h=>h.elim) (λ_ _ _ _ _ h=>h.elim) (λ_ _ _ _ _ h=>h.elim)
 obtain⟨m',hm',hrm,hh1,hh2⟩:=f5 w1 l' _ (λx hx hnx=>hoth x λe=>hnx (e ▸ hS')) (λx hx _=>by
  rcases hx with rfl|⟨i',j,hi',hj,_,hk⟩|⟨_,_,h⟩
  .exact hS'
  .exact(hsub i' j x hi' hj hk).1
  .exact h.elim) hset1
 rw[hput]at hm';cases hm';have hrm':=hrm.weak (S':=E.φ r) (λx hx=>by
  rcases hx with⟨hx,_⟩|rfl|⟨i',j,hi',hj,_,hk⟩|⟨_,_,h⟩
  .exact hx
  .exact f4 _ hS'
  .exact f4 _ (hsub i' j x hi' hj hk).1
  .exact h.elim)
 obtain⟨hM,hTr⟩:=hS.mem.mut hS.ids.mem hRr hown (w1:=w1) (m:=m) (by rw[<- hw1];rfl) (by rw[<- hw1];rfl) (by rw[<- hw1];rfl) (by rw[<- hw1];simp) (λx hx=>hoth x λe=>hx (e ▸ f4 b hS')) hrm' (λq u hq=>by
  rcases zrm p q with⟨q',rfl⟩|hnp
  .rw [hh2 q'];rw[fwp q']at hq;exact zns hcap hsz hRows hb e4 hul hfit' hset hb1 hold q' (λ_ _ _ _ k c _ hc=>.inl (zGB hG hc)) hoth hq
  .exact hh1 q u hq λq' he=>absurd ⟨q',he⟩ hnp)
 refine zkp hS (v:=undef) (mv:=.und) (n:=.skip) ?_ (.inr ⟨rfl,rfl⟩) hM hTr rfl rfl rfl (λn R' hn=>?_) (λn cs hn=>⟨.inl (hS.ids.lo n cs hn).1,λa ha m hm=>.inl ((hS.ids.lo n cs hn).2 a ha m hm)⟩) rfl (λn hn=>by simp[MV.ids,zbw]at hn)
 .simp [execOp,ho,Instr.storeAt,e5,Instr.sureAddr,hv,hrun]
 .simp only [zl]at hn;split at hn
  .rename_i he;simp only[qL]at he;subst he;exact .inl (hS.ids.ro _ R (zbr hRr).1)
  .exact .inl (hS.ids.ro n R' hn)
end
end
end Go.Proofs.YtgjpbkhaaiffkaaGreat.E
