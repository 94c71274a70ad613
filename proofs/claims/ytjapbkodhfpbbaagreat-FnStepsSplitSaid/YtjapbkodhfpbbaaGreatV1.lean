/- What is proved here: a part of the proof that the statement of this claim holds (several texts of wip/, laid together). -/
import Derived.Test.YtjapbkodhfpbbaaGreatRows
import Derived.Calls
import Derived.LoopN
import Derived.Laws.Sem
import Derived.Laws.Entries
import Derived.Laws.Slices
import Derived.Laws.Cells
import Derived.Laws.Tables
import Derived.Laws.Append
import Derived.Laws.CopyRow
import Derived.Laws.MakeOwn
import Derived.Laws.StructEq
import Derived.Laws.Small
import Derived.Laws.AppendOwn
import Derived.Great.BuildSlice
namespace Go.Proofs.YtjapbkodhfpbbaaGreat.E
open Go
set_option linter.constructorNameAsVariable false
set_option linter.unusedVariables false
set_option maxRecDepth 100000
set_option linter.unusedSimpArgs false
set_option linter.unusedSectionVars false
noncomputable section
abbrev qA:=@List.getElem?_eq_some_iff
abbrev qB:=@List.getElem?_eq_getElem
abbrev qC:=@Option.some.injEq
abbrev qD:=@of_decide_eq_true
abbrev qE:=@Bool.and_eq_true
abbrev qF:=@List.mem_singleton
abbrev qG:=@List.mem_cons
abbrev qH:=@List.getElem?_cons_zero
abbrev qI:=@decide_eq_true
abbrev qJ:=@List.mem_of_getElem?
abbrev qK:=@decide_eq_false
abbrev qL:=@beq_iff_eq
abbrev qM:=@List.all_eq_true
abbrev qN:=@List.not_mem_nil
abbrev qO:=@Array.getElem?_eq_some_iff
abbrev qP:=@List.mem_flatMap
abbrev qQ:=@List.getElem?_map
abbrev qR:=@List.getElem?_append_right
abbrev qS:=@Nat.mul_le_mul_right
abbrev qT:=@Nat.le_trans
abbrev qU:=@List.mem_iff_getElem?
abbrev qV:=@List.getElem?_append_left
abbrev qW:=@Nat.le_refl
abbrev qX:=@List.mem_or_eq_of_mem_set
abbrev qY:=@List.mem_cons_of_mem
abbrev qZ:=@List.length_cons
abbrev q0:=@decide_eq_true_eq
abbrev q9:=@List.getElem?_set
abbrev jA:=@List.append_nil
abbrev jB:=@List.mem_cons_self
abbrev jC:=@Nat.lt_of_lt_of_le
abbrev jD:=@List.map_cons
abbrev jE:=@List.mem_map
abbrev jF:=@Bool.not_eq_true'
abbrev jG:=@List.getElem?_toArray
abbrev jH:=@List.mem_append
abbrev jI:=@Array.getElem?_eq_getElem
abbrev jJ:=@List.getElem?_take
abbrev jK:=@List.getElem_mem
abbrev jL:=@Nat.succ_mul
abbrev jM:=@List.contains_eq_mem
abbrev jN:=@List.getElem?_cons_succ
abbrev jO:=@List.getElem?_drop
abbrev jP:=@List.nil_append
abbrev jQ:=@Array.toArray_toList
abbrev jR:=@of_decide_eq_false
abbrev jS:=@Prod.mk.injEq
abbrev jT:=@List.mem_of_mem_take
abbrev jU:=@Bool.not_true
abbrev jV:=@Bool.not_false
abbrev jW:=@Nat.add_zero
abbrev jX:=@Nat.zero_add
abbrev jY:=@Option.getD_some
abbrev jZ:=@Nat.lt_succ_self
abbrev j3:=@Nat.zero_le
abbrev j4:=@Array.getElem?_append_left
abbrev j5:=@List.mem_append_left
abbrev j6:=@List.cons_append
abbrev j7:=@List.size_toArray
abbrev j8:=@List.flatMap_cons
abbrev j9:=@List.length_append
abbrev kA:=@List.getD_eq_getElem?_getD
abbrev kB:=@Int.le_refl
abbrev kC:=@List.append_assoc
abbrev kD:=@Bool.or_eq_true
abbrev kE:=@Bool.false_eq_true
abbrev kF:=@List.getElem?_replicate
abbrev kG:=@Int.toNat_natCast
abbrev kH:=@Array.getElem?_append_right
abbrev kI:=@List.mem_append_right
abbrev kJ:=@List.mem_range
abbrev kK:=@Nat.eq_of_beq_eq_true
abbrev kL:=@Option.isNone_iff_eq_none
abbrev kM:=@List.mem_of_mem_drop
abbrev kN:=@List.length_nil
abbrev kO:=@List.take_left'
abbrev kP:=@Nat.beq_eq
abbrev kQ:=@List.any_eq_false
abbrev kR:=@Array.length_toList
abbrev kS:=@List.length_pos_iff
abbrev kT:=@Nat.add_mul
abbrev kU:=@Array.getElem?_toList
abbrev kV:=@List.isPrefixOf_iff_prefix
abbrev kW:=@List.all_cons
abbrev kX:=@List.drop_eq_getElem_cons
abbrev kY:=@Nat.le_of_eq
abbrev k5:=@List.drop_left'
abbrev k6:=@List.ext_getElem?
abbrev k7:=@Nat.sub_self
abbrev k8:=@Array.getElem?_setIfInBounds
abbrev k9:=@List.length_singleton
abbrev uA:=@List.length_filter_le
abbrev uB:=@Array.toList_map
abbrev uD:=@List.any_eq_true
abbrev uE:=@Nat.le_add_right
abbrev uF:=@List.flatMap_nil
abbrev uH:=@Nat.add_assoc
abbrev uI:=@List.sum_cons
abbrev uJ:=@List.foldl_cons
abbrev uK:=@List.length_map
abbrev uL:=@List.mem_of_find?_eq_some
abbrev uM:=@Array.append_assoc
abbrev uN:=@List.mem_replicate
abbrev uO:=@List.mem_filterMap
abbrev uP:=@Option.isSome_iff_exists
abbrev uQ:=@Nat.mul_le_mul
abbrev uR:=@List.length_eq_zero_iff
abbrev uS:=@Option.bind_eq_some_iff
abbrev uT:=@Int.eq_ofNat_of_zero_le
abbrev uU:=@Nat.le_succ_of_le
abbrev uW:=@Array.getElem?_eq_none
abbrev uX:=@List.findIdx?_eq_some_iff_getElem
abbrev uY:=@Nat.mul_one
abbrev uZ:=@Bool.true_and
abbrev u0:=@Bool.or_false
abbrev u1:=@List.length_drop
abbrev u2:=@List.length_take
abbrev u3:=@List.take_append_drop
abbrev u4:=@List.set_getElem_self
abbrev vA:=@Nat.lt_or_ge
abbrev vB:=@Bool.or_eq_false_iff
abbrev vC:=@List.countP_eq_zero
abbrev vD:=@List.mapM_cons
abbrev vE:=@Array.getElem?_map
abbrev vF:=@Bool.and_true
abbrev vG:=@Nat.blt_eq
abbrev vH:=@List.range'_succ
abbrev vI:=@List.countP_cons
abbrev vJ:=@Nat.sub_zero
abbrev vK:=@forall_eq_or_imp
abbrev vL:=@Int.le_of_lt
structure Slot where
 Page:Int
 Rights:Int
structure Ins where
 Op:Int
 X:Int
structure Ctl where
 Traps:Int
 Post:Int
 Open:Bool
structure GExit where
 Kind:Int
 Page:Int
 Write:Bool
 N:Int
structure Entry where
 Tag:Int
 Page:Int
 Host:Int
 Rights:Int
structure GAct where
 Kind:Int
 M:Int
 G:Int
 X:Int
 Y:Int
 Z:Int
structure Told where
 Ok:Bool
 N:Int
structure Kept where
 Known:List Bool
 Slots:List Slot
structure Guest where
 Prog:List Ins
 A:Int
 Pc:Int
 Written:List Slot
 Live:List Slot
 Ctl:Ctl
 Pending:Int
 Exit:GExit
 Halted:Bool
 Seen:List Int
structure Bare where
 Memory:List (List Int)
 Guests:List Guest
 Outs:List Int
 Pending:Int
structure Mon where
 Outer:List Slot
 Out:List (List Int)
 Dirty:List Bool
 Guests:List Guest
 Outs:List Int
 Pending:Int
 Traps:Int
 Tables:List Kept
 Own:Int
structure Host where
 Memory:List (List Int)
 Mons:List Mon
 Buffer:List Entry
 IoBuffer:List Entry
section
variable {α:Type}
def ix (l:List α)(i:Int)(d:α):α:=l.getD i.toNat d
def up (l:List α)(i:Int)(x:α):List α:=l.set i.toNat x
def ln (l:List α):Int:=(l.length:Int)
def tk (l:List α)(n:Int):List α:=l.take n.toNat
def dp (l:List α)(n:Int):List α:=l.drop n.toNat
def rp (n:Int)(d:α):List α:=List.replicate n.toNat d
def ap (l m:List α):List α:=l++m
end
def zM (k:IntKind)(x y:Int):Int:=k.wrap (x+y)
def wsub (k:IntKind)(x y:Int):Int:=k.wrap (x-y)
def zk5 (k:IntKind)(x y:Int):Int:=k.wrap (x*y)
def zWi (k:IntKind)(x y:Int):Int:=k.wrap (x.tdiv y)
def zmY (x y:Int):Int:=x.tmod y
def wand (k:IntKind)(x y:Int):Int:=k.wrap (BitVec.ofInt k.bits x &&& BitVec.ofInt k.bits y).toNat
def wor (k:IntKind)(x y:Int):Int:=k.wrap (BitVec.ofInt k.bits x ||| BitVec.ofInt k.bits y).toNat
def z5Z (k:IntKind)(x y:Int):Int:=k.wrap (BitVec.ofInt k.bits x ^^^ BitVec.ofInt k.bits y).toNat
def zz7 (k:IntKind)(x y:Int):Int:=k.wrap (BitVec.ofInt k.bits x &&& ~~~ BitVec.ofInt k.bits y).toNat
def zlX (k:IntKind)(x y:Int):Int:=k.wrap (x*2 ^ (min y.toNat k.bits))
def zkx (k:IntKind)(x y:Int):Int:=x.fdiv (2 ^ (min y.toNat k.bits))
def wcv (k:IntKind)(x:Int):Int:=k.wrap x
def byteAt (s:ByteArray)(n:Int):Int:=match s[n.toNat]? with
 |some b=>(b.toNat:Int)
 |none=>0
def ieq (x y:Int):Bool:=x==y
def ine (x y:Int):Bool:=x != y
def ilt (x y:Int):Bool:=decide (x<y)
def ile (x y:Int):Bool:=decide (x<=y)
def igt (x y:Int):Bool:=decide (x>y)
def ige (x y:Int):Bool:=decide (x≥y)
def znW (x y:Bool):Bool:=x==y
def zN2 (a b:Int):Int:=if b<a then b else a
def imax (a b:Int):Int:=if b>a then b else a
def inb (i n:Int):Bool:=decide (0<=i/\i<n)
def inr (a b n:Int):Bool:=decide (0<=a/\a<=b/\b<=n)
def few (n:Int):Bool:=decide (0<=n/\n.toNat<=2147483648)
inductive Ty where
 |int|u8|bool|slot|ins|entry|act|told|kept|guest|bare|mon
 |sl (t:Ty)
 deriving DecidableEq
abbrev Ty.den:Ty->Type
 |.int=>Int
 |.u8=>Int
 |.bool=>Bool
 |.slot=>Slot
 |.ins=>Ins
 |.entry=>Entry
 |.act=>GAct
 |.told=>Told
 |.kept=>Kept
 |.guest=>Guest
 |.bare=>Bare
 |.mon=>Mon
 |.sl t=>List t.den
inductive CV where
 |i (k:IntKind) (n:Int)
 |b (x:Bool)
 |s (t:Ty) (l:List t.den)
inductive CTy where
 |i (k:IntKind)
 |b
 |s (t:Ty)
 deriving DecidableEq
def CV.ty:CV->CTy
 |.i k _=>.i k
 |.b _=>.b
 |.s t _=>.s t
def Ty.shape:Ty->List CTy
 |.int=>[.i .i64]
 |.u8=>[.i .u8]
 |.bool=>[.b]
 |.slot=>[.i .i64,.i .i64]
 |.ins=>[.i .i64,.i .i64]
 |.entry=>[.i .i64,.i .i64,.i .i64,.i .i64]
 |.act=>[.i .i64,.i .i64,.i .i64,.i .i64,.i .i64,.i .i64]
 |.told=>[.b,.i .i64]
 |.kept=>[.s .bool,.s .slot]
 |.guest=>[.s .ins,.i .i64,.i .i64,.s .slot,.s .slot,.i .i64,.i .i64,.b,.i .i64,.i .i64,.i .i64,.b,.i .i64,.b,.s .int]
 |.bare=>[.s<|.sl .int,.s .guest,.s .int,.i .i64]
 |.mon=>[.s .slot,.s<|.sl .int,.s .bool,.s .guest,.s .int,.i .i64,.i .i64,.s .kept,.i .i64]
 |.sl t=>[.s t]
def Ty.width:Ty->Nat
 |.int=>1
 |.u8=>1
 |.bool=>1
 |.slot=>2
 |.ins=>2
 |.entry=>4
 |.act=>6
 |.told=>2
 |.kept=>2
 |.guest=>15
 |.bare=>4
 |.mon=>9
 |.sl _=>1
def Ty.dflt:(t:Ty)->t.den
 |.int=>(0:Int)
 |.u8=>(0:Int)
 |.bool=>false
 |.slot=>⟨0,0⟩
 |.ins=>⟨0,0⟩
 |.entry=>⟨0,0,0,0⟩
 |.act=>⟨0,0,0,0,0,0⟩
 |.told=>⟨false,0⟩
 |.kept=>⟨[],[]⟩
 |.guest=>⟨[],0,0,[],[],⟨0,0,false⟩,0,⟨0,0,false,0⟩,false,[]⟩
 |.bare=>⟨[],[],[],0⟩
 |.mon=>⟨[],[],[],[],[],0,0,[],0⟩
 |.sl _=>[]
abbrev zh:=Ty.dflt .mon
abbrev zu:=Ty.dflt .guest
abbrev zeC:=Ty.dflt .kept
abbrev zW:=Ty.dflt .slot
abbrev ze3:=Ty.dflt .entry
abbrev zrT:=Ty.dflt .ins
abbrev zWj:=Ty.dflt .bare
abbrev zbbn:=Ty.dflt .act
abbrev zbbo:=Ty.dflt .int
abbrev zbaQ:=Ty.dflt .bool
def Ty.cells:(t:Ty)->t.den->List CV
 |.int,x=>[.i .i64 x]
 |.u8,x=>[.i .u8 x]
 |.bool,x=>[.b x]
 |.slot,x=>[.i .i64 x.Page,.i .i64 x.Rights]
 |.ins,x=>[.i .i64 x.Op,.i .i64 x.X]
 |.entry,x=>[.i .i64 x.Tag,.i .i64 x.Page,.i .i64 x.Host,.i .i64 x.Rights]
 |.act,x=>[.i .i64 x.Kind,.i .i64 x.M,.i .i64 x.G,.i .i64 x.X,.i .i64 x.Y,.i .i64 x.Z]
 |.told,x=>[.b x.Ok,.i .i64 x.N]
 |.kept,x=>[.s .bool x.Known,.s .slot x.Slots]
 |.guest,x=>[.s .ins x.Prog,.i .i64 x.A,.i .i64 x.Pc,.s .slot x.Written,.s .slot x.Live,.i .i64 x.Ctl.Traps,.i .i64 x.Ctl.Post,.b x.Ctl.Open,.i .i64 x.Pending,.i .i64 x.Exit.Kind,.i .i64 x.Exit.Page,.b x.Exit.Write,.i .i64 x.Exit.N,.b x.Halted,.s .int x.Seen]
 |.bare,x=>[.s (.sl .int) x.Memory,.s .guest x.Guests,.s .int x.Outs,.i .i64 x.Pending]
 |.mon,x=>[.s .slot x.Outer,.s (.sl .int) x.Out,.s .bool x.Dirty,.s .guest x.Guests,.s .int x.Outs,.i .i64 x.Pending,.i .i64 x.Traps,.s .kept x.Tables,.i .i64 x.Own]
 |.sl t,x=>[.s t x]
def Ty.ofCells:(t:Ty)->List CV->Option t.den
 |.int,l=>match l with
  |[.i .i64 x]=>some x
  |_=>none
 |.u8,l=>match l with
  |[.i .u8 x]=>some x
  |_=>none
 |.bool,l=>match l with
  |[.b x]=>some x
  |_=>none
 |.slot,l=>match l with
  |[.i .i64 a,.i .i64 b]=>some ⟨a,b⟩
  |_=>none
 |.ins,l=>match l with
  |[.i .i64 a,.i .i64 b]=>some ⟨a,b⟩
  |_=>none
 |.entry,l=>match l with
  |[.i .i64 a,.i .i64 b,.i .i64 c,.i .i64 d]=>some ⟨a,b,c,d⟩
  |_=>none
 |.act,l=>match l with
  |[.i .i64 a,.i .i64 b,.i .i64 c,.i .i64 d,.i .i64 e,.i .i64 f]=>some ⟨a,b,c,d,e,f⟩
  |_=>none
 |.told,l=>match l with
  |[.b a,.i .i64 b]=>some ⟨a,b⟩
  |_=>none
 |.kept,l=>match l with
  |[.s .bool a,.s .slot b]=>some ⟨a,b⟩
  |_=>none
 |.guest,l=>match l with
  |[.s .ins a,.i .i64 b,.i .i64 c,.s .slot d,.s .slot e,.i .i64 m,.i .i64 n,.b p,.i .i64 g,.i .i64 q,.i .i64 r,.b u,.i .i64 v,.b j,.s .int k]=>some ⟨a,b,c,d,e,⟨m,n,p⟩,g,⟨q,r,u,v⟩,j,k⟩
  |_=>none
 |.bare,l=>match l with
  |[.s (.sl .int) a,.s .guest b,.s .int c,.i .i64 d]=>some ⟨a,b,c,d⟩
  |_=>none
 |.mon,l=>match l with
  |[.s .slot a,.s (.sl .int) b,.s .bool c,.s .guest d,.s .int e,.i .i64 f,.i .i64 g,.s .kept h,.i .i64 i]=>some ⟨a,b,c,d,e,f,g,h,i⟩
  |_=>none
 |.sl t,l=>match l with
  |[.s w x]=>if h:w=t then some (h ▸ x) else none
  |_=>none
inductive At where
 |bad
 |i (k:IntKind) (n:Int)
 |b (x:Bool)
 |sl (r:Nat) (p:List (Int×Nat))
 |lp (l off:Nat)
 |ep (r:Nat) (p:List (Int×Nat)) (i:Int) (off:Nat)
 |fn (f:Nat) (caps:List Nat)
 |kp (r:Nat) (J:List (List Nat)) (t:Ty)
inductive TV where
 |at (a:At)
 |agg (l:List At)
inductive MV where
 |und
 |v (x:TV)
 |tup (l:List TV)
structure Root where
 t:Ty
 l:List t.den
 own:Bool
 ep:Option Nat
structure St where
 tm:List MV
 lo:List (Nat×List At)
 ro:List (Nat×Root)
 stk:List (List MV)
 nid:Nat
 ep:Nat
inductive AV where
 |one (c:CV)
 |agg (l:List CV)
structure Cfg where
 P:Program
 sty:TypeId->Option Ty
 cty:TypeId->Option (Bool×List CTy)
 fof:TypeId->Nat->Option (Nat×Nat)
 eqt:TypeId->Bool
 ctr:FuncId->Option (List AV->Option (Bool×List AV))
 mct:FuncId->Option (CV->Int->Option (Bool×CV×Int))
 pct:FuncId->Option (List Bool×(List CV->List AV->Option (Bool×List CV×List AV)))
 tct:FuncId->Option (List Bool×Option (Nat×Nat×List (List Nat))×(List AV->Option (Bool×List AV)))
def zo {a:Type}:List (Nat×a)->Nat->Option a
 |[],_=>none
 |(k,v)::r,n=>if k==n then some v else zo r n
def zhC:(t:Ty)->List t.den->List (Int×Nat)->Option CV
 |t,l,[]=>some (.s t l)
 |t,l,(i,j)::p=>
  match (t.cells<|ix l i t.dflt)[j]? with
  |some (.s b a)=>zhC b a p
  |_=>none
def splice {b:Type}(l:List b)(off:Nat)(a:List b):List b:=l.take off++a++l.drop (off+a.length)
def zqF:(t:Ty)->List t.den->List (Int×Nat)->CV->Option (List t.den)
 |t,_,[],a=>
  match a with
  |.s f c=>if h:f=t then some (h ▸ c) else none
  |_=>none
 |t,l,(i,j)::p,a=>
  match (t.cells<|ix l i t.dflt)[j]? with
  |some (.s b d) =>
   match zqF b d p a with
   |some e=>
    match t.ofCells (splice (t.cells<|ix l i t.dflt) j [.s b e]) with
    |some x=>some (up l i x)
    |none=>none
   |none=>none
  |_=>none
def setRow (t:Ty)(l:List t.den)(i:Int)(j:Nat)(a:List CV):Option (List t.den):=
 match t.ofCells (splice (t.cells<|ix l i t.dflt) j a) with
 |some x=>some (up l i x)
 |none=>none
def zeroAt (id:Nat):CTy->At
 |.i k=>.i k 0
 |.b=>.b false
 |.s _=>.sl id []
def zeros:List CTy->Nat->List At
 |[],_=>[]
 |c::r,id=>zeroAt id c::zeros r (id+1)
def zc4 (t:Ty)(l:List t.den):Root:=⟨t,l,true,none⟩
def zeroRoots:List CTy->Nat->List (Nat×Root)
 |[],_=>[]
 |.s t::r,id=>(id,zc4 t [])::zeroRoots r (id+1)
 |_::r,id=>zeroRoots r (id+1)
def zsA (r:Nat)(p:List (Int×Nat))(i:Int):List CV->Nat->List At
 |[],_=>[]
 |.i k n::cs,j=>.i k n::zsA r p i cs (j+1)
 |.b x::cs,j=>.b x::zsA r p i cs (j+1)
 |.s _ _::cs,j=>.sl r (p++[(i,j)])::zsA r p i cs (j+1)
def zhp:List CV->Nat->List At
 |[],_=>[]
 |.i k n::cs,id=>.i k n::zhp cs (id+1)
 |.b x::cs,id=>.b x::zhp cs (id+1)
 |.s _ _::cs,id=>.sl id []::zhp cs (id+1)
def zIe (own:Ty->Bool):List CV->Nat->List (Nat×Root)
 |[],_=>[]
 |.s t l::cs,id=>(id,⟨t,l,own t,none⟩)::zIe own cs (id+1)
 |_::cs,id=>zIe own cs (id+1)
def AV.cvs:AV->List CV
 |.one c=>[c]
 |.agg l=>l
def zc0:List AV->Nat->List TV
 |[],_=>[]
 |.one c::r,id=>.at ((zhp [c] id).headD .bad)::zc0 r (id+1)
 |.agg a::r,id=>.agg (zhp a id)::zc0 r (id+a.length)
abbrev zuD:Ty->Bool:=λ_=>false
abbrev zm0:Ty->Bool:=λ_=>true
def zbax:List Nat:=[
 15,
 32,
 9,
 27,
 118,
 33,
 31,
 145,
 87,
 49,
 100000]
def ziv (f:FuncId):Bool:=zbax.any λx=>Nat.beq x f
def zEg:Ty->Bool
 |.sl .int=>true
 |_=>false
def zcW (f:FuncId)(t:Ty):Bool:=cond (zEg t) (!(ziv f)) true
def zc2 (own:Ty->Bool):List AV->Nat->List (Nat×Root)
 |[],_=>[]
 |x::r,id=>zIe own x.cvs id++zc2 own r (id+x.cvs.length)
def ziu:List TV->MV
 |[x]=>.v x
 |l=>.tup l
def CV.flat:CV->Bool
 |.s _ _=>false
 |_=>true
structure Dl where
 c:Bool:=true
 v:MV
 lo:List (Nat×List At):=[]
 ro:List (Nat×Root):=[]
 bump:Bool:=false
def Dl.at (a:At):Dl:={v:=.v (.at a)}
def zJO:Value->Option At
 |.int k n=>some (.i k n)
 |.bool x=>some (.b x)
 |_=>none
def St.opnd (st:St):Operand->Option MV
 |.tmp t=>match st.tm[t]? with
  |some (.v<|.at .bad)=>none
  |x=>x
 |.const v=>match zJO v with
  |some a=>some (.v<|.at a)
  |none=>none
 |.func f=>some (.v<|.at<|.fn f [])
 |.global _=>none
def St.at (st:St)(x:Operand):Option At :=
 match st.opnd x with
 |some (.v<|.at a)=>some a
 |_=>none
def St.root (st:St)(r:Nat):Option Root :=
 match zo st.ro r with
 |some R=>match R.ep with
  |none=>some R
  |some e=>if e==st.ep then some R else none
 |none=>none
def St.node (st:St)(r:Nat)(p:List (Int×Nat)):Option CV :=
 match st.root r with
 |some R=>zhC R.t R.l p
 |none=>none
def St.cvOf (st:St):At->Option CV
 |.i k n=>some (.i k n)
 |.b x=>some (.b x)
 |.sl r p=>st.node r p
 |_=>none
def zcD {c d:Type}(f:c->Option d):List c->Option (List d)
 |[]=>some []
 |a::r=>
  match f a with
  |some b=>match zcD f r with
   |some e=>some (b::e)
   |none=>none
  |none=>none
def St.avOf (st:St):MV->Option AV
 |.v (.at a)=>match st.cvOf a with
  |some c=>some (.one c)
  |none=>none
 |.v (.agg l)=>match zcD st.cvOf l with
  |some b=>some (.agg b)
  |none=>none
 |_=>none
def zZH (a:BinOp)(k:IntKind)(x y:Int):Option (Bool×At):=
 match a with
 |.add=>some (true,.i k<|zM k x y)
 |.sub=>some (true,.i k<|wsub k x y)
 |.mul=>some (true,.i k<|zk5 k x y)
 |.quo=>some (ine y 0,.i k<|zWi k x y)
 |.rem=>some (ine y 0,.i k<|zmY x y)
 |.and=>some (true,.i k<|wand k x y)
 |.or=>some (true,.i k<|wor k x y)
 |.xor=>some (true,.i k<|z5Z k x y)
 |.andNot=>some (true,.i k<|zz7 k x y)
 |.eql=>some (true,.b<|ieq x y)
 |.neq=>some (true,.b<|ine x y)
 |.lss=>some (true,.b<|ilt x y)
 |.leq=>some (true,.b<|ile x y)
 |.gtr=>some (true,.b<|igt x y)
 |.geq=>some (true,.b<|ige x y)
 |_=>none
def shiftOp (a:BinOp)(k:IntKind)(x y:Int):Option (Bool×At):=
 match a with
 |.shl=>some (ile 0 y,.i k<|zlX k x y)
 |.shr=>some (ile 0 y,.i k<|zkx k x y)
 |_=>none
def zYa:BinOp->Bool
 |.shl | .shr=>true
 |_=>false
def zSN:At->At->Option Bool
 |.i k x,.i a y=>if k=a then some (ieq x y) else none
 |.b x,.b y=>some (znW x y)
 |_,_=>none
def zvt:List At->List At->Option Bool
 |[],[]=>some true
 |[a],[b]=>zSN a b
 |a::r,b::s=>
  match zSN a b,zvt r s with
  |some x,some y=>some (x&&y)
  |_,_=>none
 |_,_=>none
def zoD:At->Option CTy
 |.i k _=>some (.i k)
 |.b _=>some .b
 |_=>none
def zCy (a:BinOp)(e:Bool):Option Dl :=
 match a with
 |.eql=>some (.at<|.b e)
 |.neq=>some (.at<|.b<|!e)
 |_=>none
def zV:TV->List At
 |.at a=>[a]
 |.agg l=>l
def layParts (C:Cfg)(T:TypeId)(c:St):List (Nat×Operand)->List At->Option (List At)
 |[],b=>some b
 |(f,x)::r,b=>
  match C.fof T f,c.opnd x with
  |some (a,n),some (.v y)=>if (zV y).length=n/\a+n<=b.length then layParts C T c r (splice b a<|zV y) else none
  |_,_=>none
def zob:List (Int×Nat)->List (Int×Nat)->Option Bool
 |[],[]=>some true
 |(i,j)::p,(a,b)::q=>
  if j==b then match zob p q with
   |some c=>some (ieq i a&&c)
   |none=>none
  else none
 |_,_=>none
def St.give (m:St)(d:Option (Nat×List (Int×Nat)×Int)):List At->Nat->Option (Bool×List CV×List Nat)
 |[],_=>some (true,[],[])
 |a::r,j=>
  match m.give d r (j+1) with
  |none=>none
  |some (c,g,f) =>
   match a with
   |.i k n=>some (c,.i k n::g,f)
   |.b x=>some (c,.b x::g,f)
   |.sl r [] =>
    match m.root r with
    |some R=>if R.own && !f.contains r&&(match d with|some (h,_,_)=>!(r==h)|none=>true) then some (c,.s R.t R.l::g,r::f) else none
    |none=>none
   |.sl r q=>
    match d with
    |some (h,p,i) =>
     if r==h then
      match zob q (p++[(i,j)]),m.node r q with
      |some e,some u=>some (c&&e,u::g,f)
      |_,_=>none
     else none
    |none=>none
   |_=>none
def moved (a:St):List Nat->List (Nat×Root)
 |[]=>[]
 |r::ks=>match zo a.ro r with
  |some R=>(r,{R with own:=false,ep:=some (a.ep+1)})::moved a ks
  |none=>moved a ks
def rowParts (c:St)(t:Ty):List (Nat×Operand)->List t.den->List Nat->Option (List t.den×List Nat)
 |[],l,b=>some (l,b)
 |(i,x)::r,l,b=>
  match c.opnd x with
  |some (.v y) =>
   match c.give none (zV y) 0 with
   |some (true,e,a)=>match t.ofCells e with
    |some d=>if i<l.length&&a.all (λk=>!b.contains k) then rowParts c t r (l.set i d) (a++b) else none
    |none=>none
   |_=>none
  |_=>none
def zge (a:St):List Nat->List (Nat×Root)
 |[]=>[]
 |r::ks=>match zo a.ro r with
  |some R=>(r,{R with own:=false})::zge a ks
  |none=>zge a ks
def Ty.flat (t:Ty):Bool:=t.shape.all λc=>match c with | .s _=>false|_=>true
def zy1 (t:Ty):CV->CV->Option (List t.den)
 |.s c a,.s d b=>if h:c=t/\d=t then some (ap (h.1 ▸ a)<|h.2 ▸ b) else none
 |_,_=>none
def zff (a:St)(R:Root)(t:Ty)(l:List t.den):Root:=⟨t,l,false,if R.own then some a.ep else R.ep⟩
def zban:List Nat:=[
 276,
 100000]
def zvK (C:Cfg):Bool:=zban.any λf=>(C.pct f).isSome
def zbau:List Nat:=[
 29,
 100000]
def zuC (C:Cfg):Bool:=zbau.any λf=>(C.ctr f).isSome
def zMN (C:Cfg)(b:St)(id r:Nat)(p:List (Int×Nat))(R:Root)(t:Ty)(l:List t.den)(a:Int):Dl :=
 match R.own,p with
 |true,[]=>cond (zuC C) {c:=inr a (ln l) (ln l),v:=.v (.at<|.sl id []),ro:=(id,⟨t,dp l a,false,none⟩)::zge b [r]}
  {c:=inr a (ln l) (ln l),v:=.v (.at<|.sl id []),ro:=(id,zc4 t<|dp l a)::moved b [r],bump:=true}
 |_,_=>{c:=inr a (ln l) (ln l),v:=.v (.at<|.sl id []),ro:=[(id,zff b R t<|dp l a)]}
def zHb (C:Cfg)(a:St)(id r:Nat)(p:List (Int×Nat))(R:Root)(t:Ty)(l:List t.den)(b:Int):Dl :=
 match R.own,p with
 |true,[]=>cond (zuC C) {c:=inr 0 b (ln l),v:=.v (.at<|.sl id []),ro:=(id,⟨t,tk l b,false,none⟩)::zge a [r]}
  (cond (zvK C) {c:=inr 0 b (ln l),v:=.v (.at<|.sl id []),ro:=(id,zc4 t<|tk l b)::moved a [r],bump:=true}
   {c:=inr 0 b (ln l),v:=.v (.at<|.sl id []),ro:=[(id,zff a R t<|tk l b)]})
 |_,_=>{c:=inr 0 b (ln l),v:=.v (.at<|.sl id []),ro:=[(id,zff a R t<|tk l b)]}
def delta (C:Cfg)(st:St)(o:Oper)(id:Nat):Option Dl :=
 match o.op with
 |.move x | .assign x=>
  match x with
  |.const (.pointer none)=>some {v:=.v (.at .bad)}
  |.const (.slice none 0 0)=>match C.sty o.type with
   |some t=>some {v:=.v (.at<|.sl id []),ro:=[(id,zc4 t [])]}
   |none=>none
  |x=>match st.opnd x with
   |some v=>some {v}
   |none=>none
 |.pick c a b=>
  match st.at c,st.opnd a,st.opnd b with
  |some (.b c),some (.v<|.at<|.b x),some (.v<|.at<|.b y)=>some (.at<|.b<|cond c x y)
  |some (.b true),some v,_=>some {v}
  |some (.b false),_,some v=>some {v}
  |_,_,_=>none
 |.alloc T=>
  match C.cty T with
  |some (_,g)=>if g.length<=31 then some {v:=.v (.at<|.lp (id+31) 0),lo:=[(id+31,zeros g id)],ro:=zeroRoots g id} else none
  |none=>none
 |.box _ x=>
  match st.opnd x with
  |some (.v y)=>some {v:=.v (.at<|.lp id 0),lo:=[(id,zV y)]}
  |_=>none
 |.build T h=>
  match C.cty T with
  |some (true,g) =>
   match layParts C T st h.toList (zeros g id) with
   |some u=>if g.length<=31 then some {v:=.v (.agg u),ro:=zeroRoots g id} else none
   |none=>none
  |_=>none
 |.load T x=>
  match C.cty T,st.at x with
  |some (q,g),some (.lp l d) =>
   match zo st.lo l with
   |some u=>
    if q then (if d+g.length<=u.length then some {v:=.v (.agg<|(u.drop d).take g.length)} else none)
    else match u[d]? with
     |some a=>some (.at a)
     |none=>none
   |none=>none
  |some (q,g),some (.ep r p i d) =>
   match st.node r p with
   |some (.s t l) =>
    if q then (if d+g.length<=t.width then some {v:=.v (.agg<|zsA r p i (((t.cells<|ix l i t.dflt).drop d).take g.length) d)} else none)
    else match zsA r p i (((t.cells<|ix l i t.dflt).drop d).take 1) d with
     |[a]=>some (.at a)
     |_=>none
   |_=>none
  |_,_=>none
 |.store T a x=>
  match C.cty T,st.opnd x,st.at a with
  |some (_,g),some (.v y),some (.lp l d) =>
   match zo st.lo l with
   |some u=>if (zV y).length=g.length/\d+g.length<=u.length then some {v:=.und,lo:=[(l,splice u d<|zV y)]} else none
   |none=>none
  |some (_,g),some (.v y),some (.ep r p i d) =>
   match st.root r,st.node r p,st.give none (zV y) 0 with
   |some R,some (.s t l),some (c,cvs,[]) =>
    if R.own&&(zV y).length==g.length&&decide (d+g.length<=t.width) then
     match setRow t l i d cvs with
     |some X=>match zqF R.t R.l p (.s t X) with
      |some m=>some {c,v:=.und,ro:=[(r,{R with l:=m})],bump:=true}
      |none=>none
     |none=>none
    else none
   |_,_,_=>none
  |some (_,[.s t]),none,some (.lp l d) =>
   match x with
   |.const (.slice none 0 0) =>
    match zo st.lo l with
    |some u=>if d+1<=u.length then some {v:=.und,lo:=[(l,splice u d [.sl id []])],ro:=[(id,zc4 t [])]} else none
    |none=>none
   |_=>none
  |_,_,_=>none
 |.nilCheck x=>
  match st.at x with
  |some (.lp l d)=>some (.at<|.lp l d)
  |some (.ep r p i d)=>some (.at<|.ep r p i d)
  |_=>none
 |.binOp z T x y _=>
  match st.opnd x,st.opnd y with
  |some (.v<|.at<|.i k a),some (.v<|.at<|.i V b) =>
   if zYa z then
    match shiftOp z k a b with
    |some (c,r)=>some {c,v:=.v (.at r)}
    |none=>none
   else if k=V then
    match zZH z k a b with
    |some (c,r)=>some {c,v:=.v (.at r)}
    |none=>none
   else none
  |some (.v<|.at<|.b a),some (.v<|.at<|.b b)=>if C.cty T=some (false,[.b]) then zCy z (znW a b) else none
  |some (.v<|.agg l),some (.v<|.agg m) =>
   match C.cty T,zvt l m with
   |some (true,g),some e=>if C.eqt T=true/\zcD zoD l=some g/\zcD zoD m=some g then zCy z e else none
   |_,_=>none
  |_,_=>none
 |.unOp z _ x=>
  match z,st.at x with
  |.not,some (.b a)=>some (.at<|.b<|!a)
  |.neg,some (.i k n)=>some (.at<|.i k<|wsub k 0 n)
  |_,_=>none
 |.convert M J x=>
  match C.cty M,C.cty J,st.at x with
  |some _,some (false,[.i k]),some (.i _ n)=>some (.at<|.i k<|wcv k n)
  |_,_,_=>none
 |.makeFunc (.func f) first D=>
  match first.toList,zcD (λx=>match st.at x with|some (.lp l 0)=>some l|_=>none) D.toList with
  |[],some Y=>some (.at<|.fn f Y)
  |_,_=>none
 |.makeSlice T len H=>
  match C.sty T,st.at len,st.at H with
  |some t,some (.i .i64 n),some (.i .i64 m) =>
   some {c:=few n&&ieq n m,v:=.v (.at<|.sl id []),ro:=[(id,zc4 t<|rp n t.dflt)]}
  |_,_,_=>none
 |.slice T x L E none=>
  match st.at x with
  |some (.sl r p) =>
   match st.root r,st.node r p with
   |some R,some (.s t l) =>
    if C.sty T=some t then
    match L,E with
    |none,none=>some {v:=.v (.at<|.sl id []),ro:=[(id,zff st R t l)]}
    |some lo,none=>match st.at lo with
     |some (.i .i64 a)=>some (zMN C st id r p R t l a)
     |_=>none
    |none,some K=>match st.at K with
     |some (.i .i64 b)=>some (zHb C st id r p R t l b)
     |_=>none
    |some lo,some K=>match st.at lo,st.at K with
     |some (.i .i64 a),some (.i .i64 b)=>some {c:=inr a b (ln l),v:=.v (.at<|.sl id []),ro:=[(id,zff st R t<|dp (tk l b) a)]}
     |_,_=>none
    else none
   |_,_=>none
  |_=>none
 |.fieldAddr T x f=>
  match C.fof T f,st.at x with
  |some (o,_),some (.lp l d)=>some (.at<|.lp l<|d+o)
  |some (o,_),some (.ep r p i d)=>some (.at<|.ep r p i<|d+o)
  |_,_=>none
 |.field T x f=>
  match C.P.underlying T with
  |some (.struct U) =>
   match U[f]? with
   |some F=>
    match C.cty F.type,st.opnd x with
    |some (q,g),some (.v<|.agg l) =>
     if F.offset+g.length<=l.length then
      match q with
      |true=>some {v:=.v (.agg<|(l.drop F.offset).take g.length)}
      |false=>match l[F.offset]? with
       |some a=>some (.at a)
       |none=>none
     else none
    |_,_=>none
   |none=>none
  |_=>none
 |.index T (.const<|.string s) i=>
  match C.P.underlying T,st.at i with
  |some .string,some (.i _ n)=>some {c:=inb n s.size,v:=.v (.at<|.i .u8<|byteAt s n)}
  |_,_=>none
 |.indexAddr T x i=>
  match st.at x,st.at i with
  |some (.sl r p),some (.i .i64 n) =>
   match st.node r p with
   |some (.s t l)=>if C.sty T=some t then some {c:=inb n (ln l),v:=.v (.at<|.ep r p n 0)} else none
   |_=>none
  |_,_=>none
 |.extract x j=>
  match st.opnd x with
  |some (.tup l)=>match l[j]? with
   |some y=>some {v:=.v y}
   |none=>none
  |_=>none
 |.call c=>
  match c.callee with
  |.builtin .len=>
   match c.args.toList,c.argTypes.toList with
   |[x],[T]=>match st.at x with
    |some (.sl r p)=>match st.node r p with
     |some (.s t l)=>if C.sty T=some t then some (.at<|.i .i64<|ln l) else none
     |_=>none
    |_=>none
   |_,_=>none
  |.builtin .min=>
   match c.args.toList with
   |[x,y]=>match st.at x,st.at y with
    |some (.i .i64 a),some (.i .i64 b)=>some (.at<|.i .i64<|zN2 a b)
    |_,_=>none
   |_=>none
  |.builtin .max=>
   match c.args.toList with
   |[x,y]=>match st.at x,st.at y with
    |some (.i .i64 a),some (.i .i64 b)=>some (.at<|.i .i64<|imax a b)
    |_,_=>none
   |_=>none
  |.builtin .append=>
   match c.args.toList,c.argTypes.toList with
   |[x,y],[T,S] =>
    if S=T then
    match C.sty T,st.at x,st.at y with
    |some t,some (.sl r []),some (.sl G N) =>
     match st.root r,st.root G,st.node G N with
     |some R,some Q,some I=>
      if R.own&&(t.flat||Q.own&&N.isEmpty && !(r==G)) then
       match zy1 t (.s R.t R.l) I with
       |some m=>some {c:=few (ln m),v:=.v (.at<|.sl id []),ro:=(id,zc4 t m)::moved st (if t.flat then [r] else [r,G]),bump:=true}
       |none=>none
      else none
     |_,_,_=>none
    |_,_,_=>none
    else none
   |_,_=>none
  |.value (.func f) =>
   match C.ctr f with
   |some B=>
    match zcD (λx=>match st.opnd x with|some v=>st.avOf v|none=>none) c.args.toList with
    |some w=>match B w with
     |some (c,A)=>if (A.flatMap AV.cvs).length<=31 then some {c,v:=ziu (zc0 A id),ro:=zc2 (zcW f) A id} else none
     |none=>none
    |none=>none
   |none=>
    match C.tct f,c.args.toList with
    |some ([],_,B),O::xr=>
     match st.opnd O,zcD (λx=>match st.opnd x with|some v=>st.avOf v|none=>none) (O::xr) with
     |some (.v Z),some w=>match B w with
      |some (c,A)=>if (A.flatMap AV.cvs).all CV.flat&&decide ((A.flatMap AV.cvs).length<=31) then some {c,v:=ziu (Z::zc0 A id)} else none
      |none=>none
     |_,_=>none
    |_,_=>none
  |_=>none
 |.buildSlice T len h=>
  match C.sty T with
  |some t=>match rowParts st t h.toList (List.replicate len t.dflt) [] with
   |some (l,W)=>if len<=65536 then some {v:=.v (.at<|.sl id []),ro:=(id,zc4 t l)::moved st W,bump:=true} else none
   |none=>none
  |none=>none
 |_=>none
def St.put (st:St)(dst:Option Tmp)(v:MV):St :=
 match dst with
 |some d=>{st with tm:=st.tm.set d v}
 |none=>st
def St.apply(st:St)(dst:Option Tmp)(d:Dl):St :=
 {st with lo:=d.lo++st.lo,ro:=d.ro++st.ro,ep:=if d.bump then st.ep+1 else st.ep}.put dst d.v
def cols (p:List (Int×Nat)):List Nat:=p.map (·.2)
def coarse (a J:List (List Nat)):Bool:=a.all λm=>J.any λc=>c.isPrefixOf m
def zc5 (r:Nat)(js:List (List Nat)):At->At
 |.kp b J t=>cond (Nat.beq r b) (cond (coarse js J) (.kp b J t) .bad) (.kp b J t)
 |.sl b q=>if r==b&&js.any (λm=>m.isPrefixOf (cols q)) then .bad else .sl b q
 |.ep b q i o=>if r==b&&js.any (λm=>m.isPrefixOf (cols q)) then .bad else .ep b q i o
 |a=>a
def zmM (r:Nat)(b:List (List Nat)):TV->TV
 |.at a=>.at (zc5 r b a)
 |.agg l=>.agg (l.map<|zc5 r b)
def zgE (r:Nat)(js:List (List Nat)):MV->MV
 |.und=>.und
 |.v x=>.v (zmM r js x)
 |.tup l=>.tup (l.map<|zmM r js)
def zjE:List At->List CV->Nat->List Nat
 |.sl _ (_::_)::r,_::cs,j=>zjE r cs (j+1)
 |_::r,.s _ _::cs,j=>j::zjE r cs (j+1)
 |_::r,_::cs,j=>zjE r cs (j+1)
 |_,_,_=>[]
def zJ4 (C:Cfg)(b:St)(o:Oper):Option (Bool×St):=
 match o.op with
 |.store T a x=>
  match C.cty T,b.opnd x,b.at a with
  |some (_,e),some (.v y),some (.ep r p i d) =>
   match b.root r,b.node r p,b.give (some (r,p,i)) (zV y) d with
   |some R,some (.s t l),some (c,cvs,h) =>
    if R.own&&(zV y).length==e.length&&decide (d+e.length<=t.width) then
     match setRow t l i d cvs with
     |some k=>match zqF R.t R.l p (.s t k) with
      |some m=>
       let g:=(zjE (zV y) cvs d).map λj=>cols p++[j]
       some (c,
        {b with
         tm:=b.tm.map (zgE r g)
         stk:=b.stk.map λf=>f.map (zgE r g)
         lo:=b.lo.map λx=>(x.1,x.2.map<|zc5 r g)
         ro:=(r,{R with l:=m})::(moved b h++b.ro)
         ep:=b.ep+1})
      |none=>none
     |none=>none
    else none
   |_,_,_=>none
  |_,_,_=>none
 |_=>none
def zit (a:St)(r:Nat)(R:Root)(m:List R.t.den)(js:List (List Nat)):St :=
 {a with
  tm:=a.tm.map (zgE r js)
  stk:=a.stk.map λf=>f.map (zgE r js)
  lo:=a.lo.map λx=>(x.1,x.2.map<|zc5 r js)
  ro:=(r,{R with l:=m})::a.ro
  ep:=a.ep+1}
def zHi (C:Cfg)(c:St)(o:Oper):Option (Bool×St):=
 match o.op with
 |.store T a (.const<|.slice none 0 0) =>
  match C.cty T,c.at a with
  |some (_,[.s e]),some (.ep r p i b) =>
   match c.root r,c.node r p with
   |some R,some (.s t l) =>
    if R.own&&decide (b+1<=t.width) then
     match setRow t l i b [.s e []] with
     |some d=>match zqF R.t R.l p (.s t d) with
      |some m=>some (true,zit c r R m [cols p++[b]])
      |none=>none
     |none=>none
    else none
   |_,_=>none
  |_,_=>none
 |_=>none
def graft (C:Cfg)(a:St)(o:Oper):Option (Bool×St):=
 match zJ4 C a o with
 |some x=>some x
 |none=>zHi C a o
def zSo (C:Cfg)(a:St)(o:Oper):Option (Bool×St×MV):=
 match o.op with
 |.call c=>
  match c.callee with
  |.value (.func f) =>
   match C.mct f,c.args.toList with
   |some b,[x,y] =>
    match a.at x,a.at y with
    |some (.sl r p),some (.i .i64 k) =>
     match a.root r,a.node r p with
     |some R,some (.s t l) =>
      match b (.s t l) k with
      |some (cc,.s d g,e) =>
       if R.own=true/\d=t then
        match zqF R.t R.l p (.s d g) with
        |some m=>some (cc,zit a r R m ((List.range t.width).map λj=>cols p++[j]),.v<|.at<|.i .i64 e)
        |none=>none
       else none
      |_=>none
     |_,_=>none
    |_,_=>none
   |_,_=>none
  |_=>none
 |_=>none
def zbo:At->List Nat
 |.sl r _=>[r]
 |.ep r _ _ _=>[r]
 |.kp r _ _=>[r]
 |_=>[]
def zbv:At->List Nat
 |.lp l _=>[l]
 |.fn _ a=>a
 |_=>[]
def zbI:MV->List At
 |.und=>[]
 |.v x=>zV x
 |.tup l=>l.flatMap zV
def St.blk (st:St):List Bool->List At->Option (List CV×List Nat)
 |[],[]=>some ([],[])
 |own::ms,a::r=>
  match St.blk st ms r with
  |none=>none
  |some (d,c) =>
   match a with
   |.i k n=>some (.i k n::d,c)
   |.b x=>some (.b x::d,c)
   |.sl q [] =>
    match st.root q with
    |some R=>if R.own==own&&R.ep.isNone && !c.contains q then some (.s R.t R.l::d,cond own (q::c) c) else none
    |none=>none
   |_=>none
 |_,_=>none
def zoE:List Bool->List At->List CV->Nat->Option (List At)
 |[],[],[],_=>some []
 |own::ms,a::r,c::cs,id=>
  match zoE ms r cs (id+1) with
  |none=>none
  |some l=>
   match a,c with
   |.i k _,.i d n=>if k=d then some (.i k n::l) else none
   |.b _,.b x=>some (.b x::l)
   |.sl q [],.s _ _=>some (cond own (.sl id []::l) (.sl q []::l))
   |_,_=>none
 |_,_,_,_=>none
def zgF:List Bool->List CV->Nat->List (Nat×Root)
 |own::ms,.s t l::cs,id=>cond own ((id,zc4 t l)::zgF ms cs (id+1)) (zgF ms cs<|id+1)
 |_::ms,_::cs,id=>zgF ms cs (id+1)
 |_,_,_=>[]
def killed (st:St):List Nat->List (Nat×Root)
 |[]=>[]
 |r::ks=>match zo st.ro r with
  |some R=>(r,{R with own:=false,ep:=some st.ep})::killed st ks
  |none=>killed st ks
def zDY (c:St)(b:List Nat)(m:MV):Bool :=
 (zbI m).all λa=>(zbo a).all λr=>!b.contains r&&(match c.root r with|some R=>R.ep.isNone|none=>false)
def St.avF (a:St)(b:List Nat)(m:MV):Option AV:=if zDY a b m then a.avOf m else none
def zSL (a:St)(b:List Nat)(y:Operand):Option AV :=
 match a.opnd y with
 |some v=>a.avF b v
 |none=>none
def zUJ (st:St)(h:Ty->Bool)(own:List Bool)(e:List CV->List AV->Option (Bool×List CV×List AV))(id:Nat):List Operand->Option (Bool×St×MV)
 |x::ys=>
  match st.at x with
  |some (.lp l 0) =>
   match zo st.lo l with
   |some cells=>
    match st.blk own cells with
    |some (g,f) =>
     match zcD (zSL st f) ys with
     |some c=>
      match e g c with
      |some (cc,b,d) =>
       match zoE own cells b id with
       |some a =>
        if cells.length<=12/\(d.flatMap AV.cvs).length<=16 then
         some (cc,{st with lo:=(l,a)::st.lo,ro:=zgF own b id++(zc2 h d (id+12)++(killed st f++st.ro)),ep:=st.ep+1},ziu<|zc0 d<|id+12)
        else none
       |none=>none
      |none=>none
     |none=>none
    |none=>none
   |none=>none
  |_=>none
 |_=>none
def zEj (C:Cfg)(st:St)(o:Oper)(id:Nat):Option (Bool×St×MV):=
 match o.op with
 |.call c=>
  match c.callee with
  |.value (.func f) =>
   match C.pct f with
   |some (own,a)=>zUJ st (zcW f) own a id c.args.toList
   |none=>none
  |_=>none
 |_=>none
def zOO (d:St)(j:Ty->Bool)(own:List Bool)(g:List CV->List AV->Option (Bool×List CV×List AV))(id:Nat):List Operand->Option Dl
 |x::ys=>
  match d.at x with
  |some (.lp l 0) =>
   match zo d.lo l with
   |some cells=>
    match d.blk own cells with
    |some (i,h) =>
     match zcD (zSL d h) ys with
     |some e=>
      match g i e with
      |some (cc,b,f) =>
       match zoE own cells b id with
       |some a =>
        if cells.length<=12/\(f.flatMap AV.cvs).length<=16 then
         some {c:=cc,v:=ziu (zc0 f<|id+12),lo:=[(l,a)],ro:=zgF own b id++(zc2 j f (id+12)++killed d h),bump:=true}
        else none
       |none=>none
      |none=>none
     |none=>none
    |none=>none
   |none=>none
  |_=>none
 |_=>none
def zkf (C:Cfg)(o:Oper):Option (List Bool×(List CV->List AV->Option (Bool×List CV×List AV))):=
 match o.op with
 |.call c=>
  match c.callee with
  |.value (.func f)=>C.pct f
  |_=>none
 |_=>none
def zMI (o:Oper):FuncId :=
 match o.op with
 |.call c=>
  match c.callee with
  |.value (.func f)=>f
  |_=>0
 |_=>0
def callArgs (o:Oper):List Operand :=
 match o.op with
 |.call c=>c.args.toList
 |_=>[]
def zlB (C:Cfg)(b:St)(o:Oper)(id:Nat):Option Dl :=
 match zkf C o with
 |some (own,a)=>zOO b (zcW<|zMI o) own a id (callArgs o)
 |none=>none
def zky (C:Cfg)(a:St)(o:Oper)(id:Nat):Option Dl :=
 match delta C a o id with
 |some d=>some d
 |none=>zlB C a o id
def z06 (c:St)(b:List Nat)(a:At):Bool :=
 (zbo a).all λr=>!b.contains r&&(match c.root r with|some R=>R.ep.isNone|none=>false)
def St.tks (d:St):List Bool->List At->Option (List CV×List Nat)
 |[],[]=>some ([],[])
 |own::ms,a::r=>
  match St.tks d ms r with
  |none=>none
  |some (e,b) =>
   match own with
   |true=>
    match a with
    |.sl q [] =>
     match d.root q with
     |some R=>if R.own && !b.contains q then some (.s R.t R.l::e,q::b) else none
     |none=>none
    |_=>none
   |false=>
    match d.cvOf a with
    |some c=>some (c::e,b)
    |none=>none
 |_,_=>none
def zg0:List TV->List CV->List AV
 |[],_=>[]
 |.at _::r,a=>.one (a.headD<|.b false)::zg0 r (a.drop 1)
 |.agg l::r,a=>.agg (a.take l.length)::zg0 r (a.drop l.length)
def zSv (a:St):List Operand->Option (List TV)
 |[]=>some []
 |x::r=>
  match a.opnd x,zSv a r with
  |some (.v y),some b=>some (y::b)
  |_,_=>none
def zbaV:List (Nat×List (List<|Nat×Nat)):=[
 (218,[[(4,2)],[(4,3)]]),
 (100000,[])]
def ziE (f:FuncId):List (List<|Nat×Nat):=
 match zo zbaV f with
 |some x=>x
 |none=>[[]]
def zxI (st:St)(ks:List Nat)(b:List (Nat×Nat)):Nat->List Bool->List At->Bool
 |j,own::ms,a::r=>(own||(b.any (λx=>Nat.beq x.1 j)||z06 st ks a))&&zxI st ks b (j+1) ms r
 |_,_,_=>true
def zMG (own:List Bool)(a:List At)(b:List (Nat×Nat)):Bool :=
 b.all λx=>match a[x.1]?,a[x.2]?,own[x.1]?,own[x.2]? with
  |some (.sl q []),some (.sl r []),some false,some true=>Nat.beq q r
  |_,_,_,_=>false
def zmo (q n:Nat)(b:List (List Nat)):At->At
 |.sl r p=>cond (Nat.beq r q) (cond (b.any λm=>m.isPrefixOf (cols p)) .bad<|.sl n p) (.sl r p)
 |.ep r p i o=>cond (Nat.beq r q) (cond (b.any λm=>m.isPrefixOf (cols p)) .bad<|.ep n p i o) (.ep r p i o)
 |.kp r J t=>cond (Nat.beq r q) (cond (coarse b J) (.kp n J t) .bad) (.kp r J t)
 |a=>a
def zrj (f:At->At):TV->TV
 |.at a=>.at (f a)
 |.agg l=>.agg (l.map f)
def zkd (f:At->At):MV->MV
 |.und=>.und
 |.v x=>.v (zrj f x)
 |.tup l=>.tup (l.map<|zrj f)
def z7W (own:List Bool)(a:List At)(id:Nat):Option (Nat×Nat×List (List Nat))->Option (Option<|Nat×Nat×List (List Nat))
 |none=>some none
 |some (b,c,d)=>match own[b]?,a[b]? with
  |some true,some (.sl q [])=>some (some (q,id+c,d))
  |_,_=>none
def St.ren (st:St):Option (Nat×Nat×List (List Nat))->St
 |none=>st
 |some (q,n,a)=>{st with tm:=st.tm.map (zkd<|zmo q n a),stk:=st.stk.map (λf=>f.map (zkd<|zmo q n a)),lo:=st.lo.map (λx=>(x.1,x.2.map<|zmo q n a))}
def z3A (st:St)(c:List (List<|Nat×Nat))(own:List Bool)(d:Option (Nat×Nat×List (List Nat)))(f:List AV->Option (Bool×List AV))(id:Nat)(b:List Operand):Option (Bool×St×MV):=
 match zSv st b with
 |some a=>
  match st.tks own (a.flatMap zV) with
  |some (i,h) =>
   match z7W own (a.flatMap zV) id d with
   |some x=>
    cond (c.any λg=>zMG own (a.flatMap zV) g&&zxI st h g 0 own (a.flatMap zV))
     (match f (zg0 a i) with
     |some (cc,e) =>
      if (e.flatMap AV.cvs).length<=31 then
       some (cc,({st with ro:=zc2 zm0 e id++(killed st h++st.ro),ep:=st.ep+1}:St).ren x,ziu<|zc0 e id)
      else none
     |none=>none) none
   |none=>none
  |none=>none
 |none=>none
def zSu (C:Cfg)(st:St)(o:Oper)(id:Nat):Option (Bool×St×MV):=
 match o.op with
 |.call c=>
  match c.callee with
  |.value (.func f) =>
   match C.tct f with
   |some (own,a,b)=>cond own.isEmpty none (z3A st (ziE f) own a b id c.args.toList)
   |none=>none
  |_=>none
 |_=>none
inductive IT where
 |hole
 |lit (i:Int)
inductive AT where
 |bad
 |i (k:IntKind)
 |b
 |sl (r:Nat) (js:List Nat)
 |lp (l off:Nat)
 |ep (r:Nat) (js:List Nat) (off:Nat)
 |fn (f:Nat) (caps:List Nat)
structure Tmpl where
 n:Nat
 tm:List (Nat×AT)
 lo:List (Nat×List AT)
 ro:List (Nat×Ty×Bool)
 sk:List (Nat×Nat×Nat×AT):=[]
 kr:Nat:=0
def AT.sig:AT->List CTy
 |.i k=>[.i k]
 |.b=>[.b]
 |.sl _ a=>a.map λ_=>.i .i64
 |.ep _ a _=>(a.map λ_=>CTy.i .i64)++[.i .i64]
 |_=>[]
def Tmpl.sig (T:Tmpl):List CTy :=
 T.tm.flatMap (λx=>x.2.sig)++T.lo.flatMap (λx=>x.2.flatMap AT.sig)++T.ro.map λx=>.s x.2.1
abbrev Dat:List CTy->Type
 |[]=>Unit
 |.i _::r=>Int×Dat r
 |.b::r=>Bool×Dat r
 |.s t::r=>List t.den×Dat r
def unpack:(sig:List CTy)->List CV->Option (Dat sig)
 |[],[]=>some ()
 |.i k::sig,.i a n::cs=>if k=a then match unpack sig cs with
  |some d=>some (n,d)
  |none=>none
  else none
 |.b::sig,.b x::cs=>match unpack sig cs with
  |some d=>some (x,d)
  |none=>none
 |.s t::sig,.s c l::cs=>if h:c=t then match unpack sig cs with
  |some d=>some (h ▸ l,d)
  |none=>none
  else none
 |_,_=>none
def packs:(sig:List CTy)->Dat sig->List CV
 |[],_=>[]
 |.i k::sig,d=>.i k d.1::packs sig d.2
 |.b::sig,d=>.b d.1::packs sig d.2
 |.s t::sig,d=>.s t d.1::packs sig d.2
structure Bnd where
 r:List (Nat×Nat)
 l:List (Nat×Nat)
def idx:List Nat->List (Int×Nat)->Option (List CV)
 |[],[]=>some []
 |j::js,(i,b)::p=>if j==b then match idx js p with
  |some a=>some (.i .i64 i::a)
  |none=>none
  else none
 |_,_=>none
def zy3 (l:List (Nat×Nat))(k v:Nat):Option (List<|Nat×Nat):=
 match zo l k with
 |some u=>if u==v then some l else none
 |none=>if l.any (λx=>x.2==v) then none else some ((k,v)::l)
def zSh (l:List (Nat×Nat))(k v:Nat):Option (List<|Nat×Nat):=
 match zo l k with
 |some u=>if u==v then some l else none
 |none=>some ((k,v)::l)
def zDQ (B:Bnd):AT->At->Option (Bnd×List CV)
 |.bad,_=>some (B,[])
 |.i k,.i t n=>if k=t then some (B,[.i k n]) else none
 |.b,.b x=>some (B,[.b x])
 |.sl r m,.sl q p=>match zSh B.r r q,idx m p with
  |some br,some j=>some ({B with r:=br},j)
  |_,_=>none
 |.lp l e,.lp u c=>if e==c then match zy3 B.l l u with
  |some g=>some ({B with l:=g},[])
  |none=>none
  else none
 |.ep r m e,.ep q p i c=>if e==c then match zSh B.r r q,idx m p with
  |some br,some j=>some ({B with r:=br},j++[.i .i64 i])
  |_,_=>none
  else none
 |.fn f d,.fn s a=>if f==s&&d.length==a.length then
  match (d.zip a).foldl (λ(h:Option (List<|Nat×Nat)) x=>match h with|some g=>zy3 g x.1 x.2|none=>none) (some B.l) with
  |some g=>some ({B with l:=g},[])
  |none=>none
  else none
 |_,_=>none
def zMk (d:St):Bnd->List (Nat×AT)->Option (Bnd×List CV)
 |B,[]=>some (B,[])
 |B,(n,a)::r=>
  match d.tm[n]? with
  |some (.v<|.at x)=>match zDQ B a x with
   |some (e,f)=>match zMk d e r with
    |some (b,c)=>some (b,f++c)
    |none=>none
   |none=>none
  |_=>none
def stAt (b:St)(f s k:Nat):Option At :=
 match b.stk[f]? with
 |some a=>match a[s]? with
  |some (.v x)=>(zV x)[k]?
  |_=>none
 |none=>none
def zMi (b:St):Bnd->List (Nat×Nat×Nat×AT)->Option Bnd
 |B,[]=>some B
 |B,(f,s,k,a)::r=>
  match stAt b f s k with
  |some x=>match zDQ B a x with
   |some (c,[])=>zMi b c r
   |_=>none
  |none=>none
def zov:Bnd->List AT->List At->Option (Bnd×List CV)
 |B,[],[]=>some (B,[])
 |B,a::r,x::y=>match zDQ B a x with
  |some (d,e)=>match zov d r y with
   |some (b,c)=>some (b,e++c)
   |none=>none
  |none=>none
 |_,_,_=>none
def zMg (c:St):Bnd->List (Nat×List AT)->Option (Bnd×List CV)
 |B,[]=>some (B,[])
 |B,(l,g)::r=>
  match zo B.l l with
  |some f=>match zo c.lo f with
   |some cells=>match zov B g cells with
    |some (d,e)=>match zMg c d r with
     |some (a,b)=>some (a,e++b)
     |none=>none
    |none=>none
   |none=>none
  |none=>none
def zMh (a:St)(B:Bnd):List (Nat×Ty×Bool)->Option (List CV)
 |[]=>some []
 |(r,t,own)::rest=>
  match zo B.r r with
  |some c=>match zo a.ro c with
   |some R=>if R.t=t/\(own=true->R.own=true)/\R.ep=none then match zMh a B rest with
    |some b=>some (.s R.t R.l::b)
    |none=>none
    else none
   |none=>none
  |none=>none
def z6c (B:Bnd):Bool:=B.r.all (λx=>decide (x.1<1000))&&B.l.all (λx=>decide (x.1<1000))
def zba3 (a:List (Nat×Ty×Bool))(B:Bnd):Bool:=a.all λx=>cond x.2.2 (B.r.all λy=>Nat.beq y.1 x.1||(match zo B.r x.1 with|some v=>!(Nat.beq v y.2)|none=>true)) true
def Tmpl.takeB (T:Tmpl)(b:St):Option (Bnd×List CV):=
 if T.n==b.tm.length then
  match zMk b ⟨[],[]⟩ T.tm with
  |some (e,f)=>match zMi b e T.sk with
   |some B=>match zMg b B T.lo with
    |some (c,d)=>match zMh b c T.ro with
     |some a=>if z6c c&&zba3 T.ro c then some (c,f++d++a) else none
     |none=>none
    |none=>none
   |none=>none
  |none=>none
 else none
def Tmpl.take (T:Tmpl)(b:St):Option (List CV):=
 match T.takeB b with
 |some (_,a)=>some a
 |none=>none
def zLN:List (Nat×Nat)->Nat->Option Nat
 |[],_=>none
 |(k,v)::l,r=>cond (Nat.beq v r) (some k) (zLN l r)
def zsb (B:Bnd)(a:Nat):At->At
 |.i k n=>.i k n
 |.b x=>.b x
 |.sl r p=>match zLN B.r r with|some k=>.sl (a+k) p|none=>.bad
 |.ep r p i o=>match zLN B.r r with|some k=>.ep (a+k) p i o|none=>.bad
 |.kp r J t=>match zLN B.r r with|some k=>.kp (a+k) J t|none=>.bad
 |.lp l o=>match zLN B.l l with|some k=>.lp (a+k) o|none=>.bad
 |_=>.bad
def ztM (B:Bnd)(a:Nat)(stk:List (List MV)):List (List MV):=stk.map λf=>f.map (zkd<|zsb B a)
def zjn:List (Int×Nat)->List (Int×Nat)->Bool
 |[],[]=>true
 |[(i,j)],[(a,b)]=>cond (Nat.beq j b) (ieq i a) false
 |(i,j)::p,(a,b)::q=>cond (Nat.beq j b) (ieq i a&&zjn p q) false
 |_,_=>false
def zy8 (B:Bnd)(a:Nat)(b r:Nat):Bool:=Nat.ble a r&&(match zo B.r (r-a) with|some v=>Nat.beq v b|none=>false)
def zgW (B:Bnd)(a:Nat):At->At->Bool
 |.sl b d,.sl r p=>cond (zy8 B a b r) (zjn d p) false
 |.ep b d f c,.ep r p i o=>cond (zy8 B a b r&&Nat.beq c o) (ieq f i&&zjn d p) false
 |.kp b e h,.kp r J t=>zy8 B a b r&&(e==J&&decide (h=t))
 |.lp g c,.lp l o=>Nat.ble a l&&Nat.beq o c&&(match zo B.l (l-a) with|some v=>Nat.beq v g|none=>false)
 |_,.sl _ _=>false
 |_,.lp _ _=>false
 |_,.ep _ _ _ _=>false
 |_,.fn _ _=>false
 |_,.kp _ _ _=>false
 |_,_=>true
def zD1 (B:Bnd)(c:Nat):List At->List At->Bool
 |[],[]=>true
 |a::r,b::s=>zgW B c a b&&zD1 B c r s
 |_,_=>false
def zCp (B:Bnd)(c:Nat):TV->TV->Bool
 |.at a,.at b=>zgW B c a b
 |.agg l,.agg m=>zD1 B c l m
 |_,_=>false
def zD2 (B:Bnd)(c:Nat):List TV->List TV->Bool
 |[],[]=>true
 |a::r,b::s=>zCp B c a b&&zD2 B c r s
 |_,_=>false
def zSZ (B:Bnd)(a:Nat):MV->MV->Bool
 |.und,.und=>true
 |.v x,.v y=>zCp B a x y
 |.tup l,.tup m=>zD2 B a l m
 |_,_=>false
def zSj (B:Bnd)(c:Nat):List MV->List MV->Bool
 |[],[]=>true
 |a::r,b::s=>zSZ B c a b&&zSj B c r s
 |_,_=>false
def zha (B:Bnd)(base:Nat):List (List MV)->List (List MV)->Bool
 |[],[]=>true
 |a::r,b::s=>zSj B base a b&&zha B base r s
 |_,_=>false
def zxT:List Nat->List CV->Option (List (Int×Nat)×List CV)
 |[],a=>some ([],a)
 |j::js,.i _ n::a=>match zxT js a with
  |some (p,b)=>some ((n,j)::p,b)
  |none=>none
 |_,_=>none
def putAt (a:Nat):AT->List CV->Option (At×List CV)
 |.bad,c=>some (.bad,c)
 |.i k,.i _ n::c=>some (.i k n,c)
 |.b,.b x::c=>some (.b x,c)
 |.sl r h,c=>match zxT h c with
  |some (p,d)=>some (.sl (a+r) p,d)
  |none=>none
 |.lp l e,c=>some (.lp (a+l) e,c)
 |.ep r h e,c=>match zxT h c with
  |some (p,.i _ n::d)=>some (.ep (a+r) p n e,d)
  |_=>none
 |.fn f g,c=>some (.fn f (g.map λl=>a+l),c)
 |_,_=>none
def zSs (b:Nat):List (Nat×AT)->List CV->List MV->Option (List MV×List CV)
 |[],c,tm=>some (tm,c)
 |(n,a)::r,c,tm=>match putAt b a c with
  |some (x,d)=>zSs b r d (tm.set n<|.v<|.at x)
  |none=>none
def putCells (b:Nat):List AT->List CV->Option (List At×List CV)
 |[],d=>some ([],d)
 |a::r,d=>match putAt b a d with
  |some (x,e)=>match putCells b r e with
   |some (f,c)=>some (x::f,c)
   |none=>none
  |none=>none
def zSq (a:Nat):List (Nat×List AT)->List CV->Option (List (Nat×List At)×List CV)
 |[],c=>some ([],c)
 |(l,f)::r,c=>match putCells a f c with
  |some (g,d)=>match zSq a r d with
   |some (e,b)=>some ((a+l,g)::e,b)
   |none=>none
  |none=>none
def zSr (a:Nat):List (Nat×Ty×Bool)->List CV->Option (List<|Nat×Root)
 |[],[]=>some []
 |(r,_,own)::rest,.s t l::cs=>match zSr a rest cs with
  |some b=>some ((a+r,⟨t,l,own,none⟩)::b)
  |none=>none
 |_,_=>none
def Tmpl.put (T:Tmpl)(base:Nat)(c:List CV):Option St :=
 match zSs base T.tm c (List.replicate T.n<|.v<|.at .bad) with
 |some (tm,b)=>match zSq base T.lo b with
  |some (lo,a)=>match zSr base T.ro a with
   |some ro=>some {tm,lo,ro,stk:=[],nid:=base+1000,ep:=0}
   |none=>none
  |none=>none
 |none=>none
def iter {σ a:Type}:Nat->((σ->Option a)->σ->Option a)->σ->Option a
 | 0,_,_=>none
 |n+1,F,s=>F (iter n F) s
inductive Ex where
 |normal
 |exit (id:Nat)
 |ret
abbrev Ans:=List AV
abbrev zhv:=FuncId->List MV->St->(List TV->St->Option Ans)->Option Ans
def guardOf (b:St)(a:Array Oper)(j:Nat):Option MV :=
 match a[j]? with
 |some o=>match o.dst with
  |some t=>b.tm[t]?
  |none=>none
 |none=>none
def ziX (a:Array Oper)(j:Nat):Option Tmp :=
 match a[j]? with
 |some o=>o.dst
 |none=>none
def byName (C:Cfg)(x:Operand)(f:FuncId):Bool :=
 match x with
 |.func _=>(C.ctr f).isSome||(C.mct f).isSome||(C.pct f).isSome||(C.tct f).isSome
 |_=>false
def isIn (C:Cfg)(b:St)(o:Oper):Option (FuncId×List Nat×Array Operand):=
 match o.op with
 |.call {callee:=.value x,args,.. } =>
  match b.at x with
  |some (.fn f a)=>cond (byName C x f) none (some (f,a,args))
  |_=>none
 |_=>none
abbrev share {a b:Type}(x:a)(f:a->b):b:=f x
def zMR {d:Type}(a:At)(k:At->d):d :=
 match a with
 |.bad=>k .bad
 |.i c n=>k (.i c n)
 |.b x=>k (.b x)
 |.sl r p=>k (.sl r p)
 |.lp l o=>k (.lp l o)
 |.ep r p i o=>k (.ep r p i o)
 |.fn f c=>k (.fn f c)
 |.kp r J t=>k (.kp r J t)
def zXZ {b:Type}(m:MV)(k:MV->b):b :=
 match m with
 |.und=>k .und
 |.v (.at a)=>zMR a λa=>k (.v<|.at a)
 |.v (.agg l)=>k (.v<|.agg l)
 |.tup l=>k (.tup l)
def zxH {a:Type}:List MV->(List MV->a)->a
 |[],k=>k []
 |m::l,k=>zXZ m λm=>zxH l λl=>k (m::l)
def zqu {a:Type}(n:Nat)(k:Nat->a):a :=
 match n with
 | 0=>k 0
 |m+1=>k (m+1)
def zzh {b:Type}:List At->(List At->b)->b
 |[],k=>k []
 |a::l,k=>zMR a λa=>zzh l λl=>k (a::l)
def zEa {b:Type}:List (Nat×List At)->(List (Nat×List At)->b)->b
 |[],k=>k []
 |(n,a)::l,k=>zqu n λn=>zzh a λa=>zEa l λl=>k ((n,a)::l)
def z1W {a:Type}(b:Bool)(k:Bool->a):a :=
 match b with
 |true=>k true
 |false=>k false
def zXY {a:Type}(e:Option Nat)(k:Option Nat->a):a :=
 match e with
 |none=>k none
 |some n=>zqu n λn=>k (some n)
def zEb {a:Type}:List (Nat×Root)->(List (Nat×Root)->a)->a
 |[],k=>k []
 |(n,⟨t,x,own,ep⟩)::l,k=>zqu n λn=>z1W own λown=>zXY ep λep=>zEb l λl=>k ((n,⟨t,x,own,ep⟩)::l)
def St.forced (a:St)(k:St->Option Ans):Option Ans :=
 zxH a.tm λtm=>zEa a.lo λlo=>zEb a.ro λro=>zqu a.nid λnid=>zqu a.ep λep=>k {tm,lo,ro,stk:=a.stk,nid,ep}
def St.shared (a:St)(k:St->Option Ans):Option Ans :=
 zxH a.tm λtm=>
  match a.ro with
  |(r,R)::ro=>share R.l λl=>k {a with tm,ro:=(r,{R with l})::ro}
  |[]=>k {a with tm}
def wrote (o:Oper)(d:Dl)(a:St)(k:St->Option Ans):Option Ans :=
 match o.op,d.ro with
 |.store ..,[_]=>a.shared k
 |_,_=>k a
def step1 (C:Cfg)(b:Nat)(i:Nat)(o:Oper)(e:St)(k:St->Option Ans):Option Ans :=
 match delta C e o (b+32*i) with
 |some d=>cond d.c (wrote o d (e.apply o.dst d) k) none
 |none=>
  match graft C e o with
  |some (c,a)=>cond c ((a.put o.dst .und).shared k) none
  |none=>
   match zSo C e o with
   |some (c,a,v)=>cond c ((a.put o.dst v).shared k) none
   |none=>
    match zEj C e o (b+32*i) with
    |some (c,a,v)=>cond c (k<|a.put o.dst v) none
    |none=>
     match zSu C e o (b+32*i) with
     |some (c,a,v)=>cond c (k<|a.put o.dst v) none
     |none=>none
def guarded (a:Array Oper)(o:Oper)(e:St)(d skip:St->Option Ans):Option Ans :=
 match o.guard with
 |none=>d e
 |some (j,c) =>
  match guardOf e a j with
  |some .und=>skip (e.put o.dst .und)
  |some (.v<|.at<|.b x) =>
   cond x
    (match c with
     |true=>d (e.put (ziX a j)<|.v<|.at<|.b true)
     |false=>skip ((e.put (ziX a j)<|.v<|.at<|.b true).put o.dst .und))
    (match c with
     |true=>skip ((e.put (ziX a j)<|.v<|.at<|.b false).put o.dst .und)
     |false=>d (e.put (ziX a j)<|.v<|.at<|.b false))
  |_=>none
def zoH (C:Cfg)(b:zhv)(c:Array Oper)(a:Nat)(k:St->Option Ans):List Nat->St->Option Ans
 |[],d=>k d
 |i::rest,d=>
  match c[i]? with
  |none=>none
  |some o=>
   guarded c o d
    (λd=>
     match isIn C d o with
     |some (f,g,e) =>
      match zcD (λx=>d.opnd x) e.toList with
      |some m=>b f (m++g.map λl=>.v (.at<|.lp l 0)) d λj h=>zoH C b c a k rest (h.put o.dst<|ziu j)
      |none=>none
     |none=>step1 C a i o d (zoH C b c a k rest))
    (zoH C b c a k rest)
def zo1 (o:Oper):List Nat :=
 o.op.operands.toList.filterMap λx=>match x with
  |.tmp t=>some t
  |_=>none
structure Foot where
 tm:List Nat
 ro:List Nat
 lo:List Nat
 dst:Option Nat
 wro:List Nat
 wlo:List Nat
def zto (a:St)(o:Oper):List At:=(o.op.operands.toList.filterMap a.opnd).flatMap zbI
def zxL (a:Array Oper)(o:Oper):List Nat :=
 match o.guard with
 |some (j,_)=>(ziX a j).toList
 |none=>[]
def zf8 (a:St)(ops:Array Oper)(o:Oper)(d:Dl):Foot :=
 {tm:=zo1 o++zxL ops o,ro:=(zto a o).flatMap zbo,lo:=(zto a o).flatMap zbv,dst:=o.dst,wro:=d.ro.map (·.1),wlo:=d.lo.map (·.1)}
def zCw (b:St)(o:Oper):List Nat :=
 (zto b o).flatMap λa=>match a with
  |.lp l _=>match zo b.lo l with
   |some cells=>cells.flatMap zbo
   |none=>[]
  |_=>[]
def zvV (o:Oper):Bool :=
 match o.op with
 |.move (.tmp _)=>true
 |_=>false
def zfG (C:Cfg)(b:St)(a:Array Oper)(o:Oper)(d:Dl):Foot :=
 {zf8 b a o d with
  ro:=cond (zvV o) [] ((zf8 b a o d).ro++cond (zkf C o).isSome (zCw b o) [])
  lo:=cond (zvV o) [] (zf8 b a o d).lo}
def zlT (a:Array Oper)(o:Oper):Foot :=
 {tm:=zxL a o,ro:=[],lo:=[],dst:=o.dst,wro:=[],wlo:=[]}
def zCj (a b:List Nat):Bool:=a.all λx=>!b.contains x
def Foot.apart (x y:Foot):Bool :=
 (match x.dst with
  |some d=>!y.tm.contains d && !(y.dst==some d)
  |none=>true) &&
 (match y.dst with
  |some d=>!x.tm.contains d
  |none=>true) &&
 zCj x.wro (y.ro++y.wro)&&zCj y.wro x.ro&&zCj x.wlo (y.lo++y.wlo)&&zCj y.wlo x.lo
def znZ (s:List Nat)(x:Nat):Bool:=s.any λy=>Nat.beq x y
def addN (l s:List Nat):List Nat:=l.foldr (λx s=>cond (znZ s x) s (x::s)) s
def waits (ops:Array Oper)(a:List (List Nat))(i:Nat):List Nat :=
 match ops[i]? with
 |some o=>o.after.toList.foldr (λe s=>cond (Region.binds .any e) (cond (znZ s e.on) s<|addN (a.getD e.on []) (e.on::s)) s) []
 |none=>[]
def ziG (ops:Array Oper):List Nat->List (List Nat)->List (List Nat)
 |[],a=>a
 |i::r,a=>ziG ops r (a++[waits ops a i])
def z1Z (a:List (List Nat))(m:Nat):Bool:=(List.range m).all λj=>(a.getD m []).contains j
def pinned (n:Nat)(a:List (List Nat))(m:Nat):Bool:=z1Z a m&&(List.range' (m+1)<|n-(m+1)).all λk=>(a.getD k []).contains m
def zih (n:Nat)(a:List (List Nat)):List Bool:=(List.range n).map (pinned n a)
def zcu:List Bool->Nat
 |false::r=>zcu r+1
 |_=>0
def zOK (c:Region.Mode)(a:Array Oper)(b:Nat->Nat):Bool :=
 (List.range a.size).all λi=>match a[i]? with
  |some o=>o.after.toList.all λe=>!Region.binds c e||(Nat.blt e.on a.size&&Nat.blt (b e.on) (b i))
  |none=>true
def z7V:List Nat->Nat->Nat
 |[],_=>0
 |a::r,i=>cond (Nat.beq a i) 0 (z7V r i+1)
def z1P (a:Array Oper)(b:List (List Nat)):Bool :=
 cond (Region.departs a) (zOK .text a (λi=>i)&&zOK .gc a (z7V<|Region.linearise .gc a 0)) true &&
 (List.range a.size).all (λi=>(b.getD i []).all λj=>decide (j<i))
def zog (b:List (List Nat))(a:List (Nat×Foot)):Bool :=
 a.all λx=>a.all λy=>!(decide (x.1<y.1))||(b.getD y.1 []).contains x.1||x.2.apart y.2
def zOF (a:Array Oper)(i:Nat):Bool :=
 match a[i]? with
 |some o=>match o.op with
  |.store .. | .buildSlice ..=>true
  |.slice _ _ (some _) none none=>true
  |.call c=>match c.callee with
   |.builtin .append=>true
   |_=>false
  |_=>false
 |none=>false
def zTx (o:Oper):Bool :=
 match o.op with
 |.slice _ _ none (some _) none=>true
 |_=>false
def zlv (C:Cfg)(ops:Array Oper)(i:Nat):Bool :=
 zOF ops i||(match ops[i]? with|some o=>(zkf C o).isSome||(zvK C&&zTx o)|none=>false)
def zf3 (b:Bool)(R:Root):Root :=
 match b,R.ep with
 |true,some _=>{R with ep:=some 0}
 |_,_=>R
def St.effD (c:St)(b:Bool)(a:Option Tmp)(d:Dl):St :=
 {c with lo:=d.lo++c.lo,ro:=d.ro.map (λ(x:Nat×Root)=>(x.1,zf3 b x.2))++c.ro}.put a d.v
structure App where
 dst:Nat
 r:Nat
 p:List (Int×Nat)
 t:Ty
 l:List t.den
def zq7 (C:Cfg)(e:St)(o:Oper):Option (Bool×App):=
 match o.op,o.dst,o.guard with
 |.call c,some d,none=>
  match c.callee with
  |.builtin .append=>
   match c.args.toList,c.argTypes.toList with
   |[x,y],[T,h] =>
    if h=T then
    match C.sty T,e.at x,e.at y with
    |some t,some (.sl r (a::p)),some (.sl g i) =>
     match e.root r,e.node r (a::p),e.node g i with
     |some R,some f,some b=>
      if R.own&&t.flat && !(r==g) then
       match zy1 t f b,b with
       |some m,.s _ (_::_)=>some (few<|ln m,⟨d,r,a::p,t,m⟩)
       |_,_=>none
      else none
     |_,_,_=>none
    |_,_,_=>none
    else none
   |_,_=>none
  |_=>none
 |_,_,_=>none
def zsh (o:Oper):Bool :=
 o.guard.isNone&&match o.op with
 |.move (.tmp _) | .load .. | .fieldAddr .. | .indexAddr .. | .nilCheck ..=>true
 |_=>false
def zCY (ops:Array Oper)(b:List (List Nat))(m a:Nat):Bool :=
 (List.range' m<|a-m).all λj=>(b.getD a []).contains j||(match ops[j]? with|some o=>zsh o|none=>false)
def zDZ:Dl:={v:=.v (.at .bad)}
def sameAt:At->At->Bool
 |.i k n,.i m s=>cond (decide (k=m)) (ieq n s) false
 |.b x,.b y=>znW x y
 |.sl r p,.sl e d=>cond (Nat.beq r e) (zjn p d) false
 |.ep r p i o,.ep e d j a=>cond (Nat.beq r e&&Nat.beq o a) (ieq i j&&zjn p d) false
 |.lp l o,.lp q a=>Nat.beq l q&&Nat.beq o a
 |.fn f c,.fn h g=>Nat.beq f h&&c==g
 |_,_=>false
def zYt:List At->List At->Bool
 |[],[]=>true
 |a::r,b::s=>sameAt a b&&zYt r s
 |_,_=>false
def zbaG:MV->MV->Bool
 |.v (.at a),.v (.at b)=>sameAt a b
 |.v (.agg l),.v (.agg m)=>zYt l m
 |_,_=>false
def zZR (b:List (List Nat))(m a:Nat):List Nat:=(List.range' m<|a-m).filter λj=>!(b.getD a []).contains j
def zTO (a:Array Oper)(c:List (List Nat))(b:List Nat)(o:Oper):Bool :=
 b.all λj=>match a[j]? with
  |some p=>match p.dst with
   |some t=>!(zo1 o).contains t&&b.all λi=>match a[i]? with
    |some q=>(!(zo1 q).contains t||(c.getD i []).contains j)&&(i==j || !(q.dst==some t))
    |none=>false
   |none=>false
  |none=>false
def zX9 (_:Oper):Bool:=false
def zTP (C:Cfg)(b:Array Oper)(a:Nat)(k:St->Option Ans):List Nat->St->Option Ans
 |[],e=>k e
 |j::r,e=>
  match b[j]? with
  |some o=>match delta C e o (a+32*j),o.dst with
   |some d,some t=>match e.tm[t]? with
    |some m=>cond (d.c&&zbaG d.v m) (zTP C b a k r e) none
    |none=>none
   |_,_=>none
  |none=>none
def ztK (C:Cfg)(a:Array Oper)(g:List (List Nat))(b:Bool)(f m:Nat)(k:St->Option Ans)(l:App->St->Option Ans)(j:Nat->St->Option Ans):List Nat->List (Nat×Foot)->St->Option Ans
 |[],h,n=>if zog g h then k n else none
 |i::rest,h,n=>
  match a[i]? with
  |none=>none
  |some o=>
   guarded a o n
    (λe =>
     match zky C e o (f+32*i) with
     |some d=>cond d.c (ztK C a g b f m k l j rest ((i,zfG C e a o d)::h)<|e.effD b o.dst d) none
     |none=>
      match rest,zq7 C e o with
      |[],some (c,x)=>if b&&zCY a g m i&&decide (x.dst<e.tm.length)&&zog g ((i,zf8 e a o zDZ)::h) then cond c (l x<|e.put o.dst<|.v<|.at .bad) none else none
      |[],none=>if zX9 o&&zCY a g m i&&zTO a g (zZR g m i) o&&zog g h then j i e else none
      |_,_=>none)
    (λe=>ztK C a g b f m k l j rest ((i,zlT a o)::h) e)
def zCZ (C:Cfg)(e:St)(o:Oper)(x:App):Option (Bool×St):=
 match o.op,o.guard with
 |.store T a (.tmp d),none=>
  match C.cty T,e.at a with
  |some (false,[.s g]),some (.ep r p i b) =>
   match e.root r,e.node r p,zob (p++[(i,b)]) x.p with
   |some R,some (.s t l),some c=>
    if R.own&&Nat.beq d x.dst&&Nat.beq r x.r&&decide (b<t.width) then
     match setRow t l i b [.s x.t x.l] with
     |some f=>match zqF R.t R.l p (.s t f) with
      |some m=>some (c,zit e r R m [cols p++[b]])
      |none=>none
     |none=>none
    else none
   |_,_,_=>none
  |_,_=>none
 |_,_=>none
def zqy (C:Cfg)(b:Array Oper)(a:Nat)(x:App)(k:Nat->List Bool->St->Option Ans):List Bool->Nat->St->Option Ans
 |true::r,m,e=>
  match b[m]? with
  |none=>none
  |some o=>
   match zCZ C e o x with
   |some (c,f)=>cond c ((f.put o.dst .und).shared (k (m+1) r)) none
   |none=>
    if zsh o && !(o.dst==some x.dst) then
     match delta C e o (a+32*m) with
     |some d=>cond d.c (zqy C b a x k r (m+1)<|e.apply o.dst d) none
     |none=>none
    else none
 |_,_,_=>none
def zkT (C:Cfg)(a:zhv)(ops:Array Oper)(f:List (List Nat))(base:Nat)(k:St->Option Ans):Nat->Nat->List Bool->St->Option Ans
 | 0,_,_,_=>none
 |d+1,m,g,h=>
  match g with
  |[]=>k h
  |true::r=>zoH C a ops base (λc=>zkT C a ops f base k d (m+1) r c) [m] h
  |false::r=>
   let n:=zcu r+1
   let b:=(List.range' m n).any (zlv C ops)
   ztK C ops f b base m (λc=>zkT C a ops f base k d (m+n) (r.drop<|zcu r) c)
    (λx c=>zqy C ops base x (λj l e=>zkT C a ops f base k d j l e) (r.drop<|zcu r) (m+n) c)
    (λi c=>zoH C a ops base (zTP C ops base (λe=>zkT C a ops f base k d (m+n) (r.drop<|zcu r) e)<|zZR f m i) [i] c)
    (List.range' m n) [] {h with ep:=if b then h.ep+1 else h.ep}
def zHc (C:Cfg)(b:zhv)(a:Array Oper)(k:St->Option Ans)(d:St):Option Ans :=
 let c:=ziG a (List.range a.size) []
 if z1P a c then zkT C b a c d.nid k (a.size+1) 0 (zih a.size c) {d with nid:=d.nid+32*a.size} else none
def zll:Code->Nat
 |.seq a b=>zll a+zll b+1
 |.cond _ a b=>zll a+zll b+1
 |.block _ a=>zll a+1
 |.loop a=>zll a+1
 |_=>1
def zX0:Code->Bool
 |.cond _ _ _=>true
 |.seq _ b=>zX0 b
 |_=>false
def zYb (a b:Code):Nat:=1000000+1000*zll a+zll b
def fitT (T:Tmpl)(b:St):Bool :=
 T.tm.all λx=>match x.2,b.tm[x.1]? with
  |.lp _ o,some (.v<|.at<|.lp _ a)=>Nat.beq o a
  |_,_=>true
def zba6 (tm:Nat->Option Tmpl)(c:St)(a b:Code):Option Tmpl :=
 match tm 999999 with
 |some _=>match zX0 a with
  |true=>match tm (zYb a b) with
   |some T=>cond (fitT T c) (some T) (tm<|1000000000+zYb a b)
   |none=>none
  |false=>none
 |none=>none
def zbar:List (List MV)->Nat
 |[.v<|.at<|.kp r _ _]::_=>r
 |_=>0
def zN4 (T:Tmpl)(a:St):List (List MV):=ztM ⟨[(T.kr,zbar a.stk)],[]⟩ a.nid a.stk
def z7p (T:Tmpl)(nid:Nat)(stk:List (List MV))(k:St->Option Ans)(s:Dat T.sig):Option Ans :=
 match T.put nid (packs T.sig s) with
 |none=>none
 |some a=>k {a with stk:=stk}
def z7o (T:Tmpl)(nid:Nat)(stk:List (List MV))(a:St)(c:Dat T.sig->Option Ans):Option Ans :=
 match T.takeB a with
 |none=>none
 |some (B,b)=>match unpack T.sig b with
  |none=>none
  |some s=>cond (zha B nid a.stk stk) (c s) none
def zib (C:Cfg)(tm:Nat->Option Tmpl)(N:Nat)(g:zhv):Code->St->(Ex->St->Option Ans)->Option Ans
 |.skip,d,k=>k .normal d
 |.region _ j false,d,k=>
  d.forced λd=>zoH C g j d.nid (λf=>k .normal f) (List.range j.size) {d with nid:=d.nid+32*j.size}
 |.region _ j true,d,k=>
  d.forced λd=>zHc C g j (λf=>k .normal f) d
 |.seq a b,d,k=>
  match zba6 tm d a b with
  |none=>zib C tm N g a d λe f=>match e with
   |.normal=>zib C tm N g b f k
   |e=>k e f
  |some T=>
   share (z7p T d.nid (zN4 T d) λl=>zib C tm N g b l k) λu=>zib C tm N g a d λe f=>match e with
    |.normal=>z7o T d.nid (zN4 T d) f u
    |e=>k e f
 |.cond c a b,d,k=>
  match d.at c with
  |some (.b x)=>cond x (zib C tm N g a d k) (zib C tm N g b d k)
  |_=>none
 |.block id (.loop h),d,k=>
  match tm id with
  |none=>none
  |some T=>
   match T.takeB d with
   |none=>none
   |some (m,q) =>
    match unpack T.sig q with
    |none=>none
    |some t=>
     cond (zha m d.nid d.stk<|ztM m d.nid d.stk)
     (iter N (λrec s=>
      match T.put d.nid (packs T.sig s) with
      |none=>none
      |some l=>zib C tm N g h {l with stk:=ztM m d.nid d.stk} λe f=>match e with
       |.normal=>match T.takeB f with
        |none=>none
        |some (p,n)=>match unpack T.sig n with
         |none=>none
         |some r=>cond (zha p d.nid f.stk<|ztM m d.nid d.stk) (rec r) none
       |.exit i=>if i==id then k .normal f else k (.exit i) f
       |.ret=>k .ret f) t) none
 |.block id h,d,k=>zib C tm N g h d λe f=>match e with
  |.exit i=>if i==id then k .normal f else k (.exit i) f
  |e=>k e f
 |.exit id,d,k=>k (.exit id) d
 |.ret,d,k=>k .ret d
 |_,_,_=>none
def zjZ (C:Cfg)(c:St):List ResultVar->Option (List TV)
 |[]=>some []
 |.tmp t::r=>
  match c.tm[t]?,zjZ C c r with
  |some (.v x),some e=>some (x::e)
  |_,_=>none
 |.cell t T::r=>
  match c.at (.tmp t),C.cty T,zjZ C c r with
  |some (.lp l b),some (f,d),some e=>match zo c.lo l with
   |some g=>
    if f then (if b+d.length<=g.length then some (.agg ((g.drop b).take d.length)::e) else none)
    else match g[b]? with
     |some a=>some (.at a::e)
     |none=>none
   |none=>none
  |_,_,_=>none
def zvC (C:Cfg)(h:FuncId->Nat->Option Tmpl)(N:Nat)(c:zhv)(f:FuncId)(i:List MV)(g:St)(k:List TV->St->Option Ans):Option Ans :=
 match C.P.funcs[f]? with
 |some d=>
  match d.body with
  |some b=>
   zib C (h f) N c b {g with tm:=i++List.replicate (d.ntmps-i.length) .und,stk:=g.tm::g.stk} λe a =>
    match e with
    |.exit _=>none
    |_=>match zjZ C a d.results.toList,a.stk with
     |some j,tm::stk=>k j {a with tm,stk}
     |_,_=>none
  |none=>none
 |none=>none
def zY7 (f:FuncId)(e:List MV)(st:St)(k:List TV->St->Option Ans)(d:List AV->Option (Bool×List AV)):Option Ans :=
 match zcD st.avOf e with
 |some a=>
  match d a with
  |some (c,b)=>if (b.flatMap AV.cvs).length<=31 then cond c (k (zc0 b st.nid) {st with ro:=zc2 (zcW f) b st.nid++st.ro,nid:=st.nid+32}) none else none
  |none=>none
 |none=>none
def zrX (C:Cfg)(a:FuncId->Nat->Option Tmpl)(N:Nat):Nat->zhv
 | 0=>λ_ _ _ _=>none
 |d+1=>λf e c k=>
  match C.ctr f with
  |some b=>zY7 f e c k b
  |none=>zvC C a N (zrX C a N d) f e c k
def zq6 (d:St):List TV->List Nat->Option Ans
 |[],_=>some []
 |.at a::r,seen=>
  match d.give none [a] 0 with
  |some (true,[c],b)=>if b.all (λk=>!seen.contains k) then match zq6 d r (b++seen) with
   |some e=>some (.one c::e)
   |none=>none
   else none
  |_=>none
 |.agg l::r,seen=>
  match d.give none l 0 with
  |some (true,f,b)=>if b.all (λk=>!seen.contains k) then match zq6 d r (b++seen) with
   |some e=>some (.agg f::e)
   |none=>none
   else none
  |_=>none
def zEp (R:Root):Root:=cond (zEg R.t&&R.ep.isNone) {R with own:=true} R
def St.thaw (a:St)(b:Bool):St:=cond b {a with ro:=a.ro.map λx=>(x.1,zEp x.2)} a
def zqs (a:List AV):Bool:=(a.flatMap AV.cvs).all λc=>match c with | .s t _=>t.flat|_=>true
def evalFn (C:Cfg)(tms:FuncId->Nat->Option Tmpl)(N D:Nat)(f:FuncId)(a:List AV):Option Ans :=
 cond (ziv f && !(zqs a)) none
 (zvC C tms N (zrX C tms N D) f ((zc0 a 0).map .v) {tm:=[],lo:=[],ro:=zc2 zuD a 0,stk:=[],nid:=(a.flatMap AV.cvs).length,ep:=0} λb c=>zq6 (c.thaw<|ziv f) b [])
def zSw:List (Nat×Ty):=[
 (3,.int),
 (77,.slot),
 (197,.ins),
 (129,.guest),
 (117,.mon),
 (131,.entry),
 (124,.kept),
 (31,.act),
 (36,.told),
 (89,.bare),
 (4,.bool),
 (5,.u8),
 (53,.sl .int),
 (125,.sl .ins),
 (219,.sl<|.sl .ins),
 (100000,.int)]
def zD6:List Nat:=[
 77,
 197,
 131,
 31,
 36,
 49,
 127,
 100000]
def zcL (P:Program):Nat->TypeId->Option (Bool×List CTy)
 | 0,_=>none
 |n+1,T=>
  match P.underlying T with
  |some (.int k)=>some (false,[.i k])
  |some .bool=>some (false,[.b])
  |some (.slice e)=>match zo zSw e with
   |some t=>some (false,[.s t])
   |none=>none
  |some (.struct a)=>match zcD (λ(f:Field)=>match zcL P n f.type with|some x=>some x.2|none=>none) a.toList with
   |some l=>some (true,l.flatten)
   |none=>none
  |_=>none
def zwx (P:Program)(T:TypeId):Option Ty :=
 match P.underlying T with
 |some (.slice e)=>zo zSw e
 |_=>none
def zui (P:Program)(T:TypeId)(f:Nat):Option (Nat×Nat):=
 match P.underlying T with
 |some (.struct a)=>match a[f]? with
  |some x=>match P.info? x.type with
   |some i=>if i.size=0 then none else some (x.offset,i.size)
   |none=>none
  |none=>none
 |_=>none
def zgV:Nat:=700
def below {a:Type}(T:Nat)(x:Option a):Option a:=cond (Nat.blt T zgV) x none
noncomputable def zmQ (a:FuncId->Option (List AV->Option (Bool×List AV)))(b:FuncId->Option (CV->Int->Option (Bool×CV×Int)))(c:FuncId->Option (List Bool×(List CV->List AV->Option (Bool×List CV×List AV))))(d:FuncId->Option (List Bool×Option (Nat×Nat×List (List Nat))×(List AV->Option (Bool×List AV)))):Cfg where
 P:=Tryz.prog
 sty T:=below T (zwx Tryz.prog T)
 cty T:=below T (zcL Tryz.prog 4 T)
 fof T f:=zui Tryz.prog T f
 eqt T:=zD6.contains T
 ctr:=a
 mct:=b
 pct:=c
 tct:=d
abbrev zY:=Nat->Prop
def big:Nat:=140737488355328
theorem zds (t:Ty)(x:t.den):(t.cells x).length=t.width:=by cases t<;>rfl
theorem zfd (t:Ty):t.shape.length=t.width:=by cases t<;>rfl
theorem zGV (t:Ty)(x:t.den):(t.cells x).map CV.ty=t.shape:=by cases t<;>rfl
theorem zkD {t:Ty}{a:List CV}{x:t.den}(h:t.ofCells a=some x):t.cells x=a:=by
 cases t<;>simp only [Ty.ofCells]at h<;>split at h<;>first
  |(cases h;rfl)
  | (split at h
     .rename_i hh;cases hh;cases h;rfl
     .cases h)
  |cases h
inductive Rep (o:Bool) (w:World):Value->CV->zY->Prop
 |i (k:IntKind) (n:Int) (S:zY):Rep o w (.int k n) (.i k n) S
 |b (x:Bool) (S:zY):Rep o w (.bool x) (.b x) S
 |nil (t:Ty) (S:zY):Rep o w (.slice none 0 0) (.s t []) S
 |void (t:Ty) (a:Addr) (S:zY) (ho:o=false):Rep o w (.slice (some a) 0 0) (.s t []) S
 |sl (t:Ty) (l:List t.den) (b off cap:Nat) (arr:Array Value) (e:TypeId) (fz:Nat×Nat) (V:Nat->Nat->Value) (K:Nat->Nat->zY) (S:zY)
  (hb:w.heap[b]?=some (.cells arr e fz)) (hfz:o=true->fz=(0,0))
  (hlen:l.length<=big) (hcap:l.length<=cap) (hsz:off+cap*t.width<=arr.size)
  (hS:S b) (hsub:∀i j x,i<l.length->j<t.width->K i j x->S x/\(o=true->x≠b))
  (hdis:o=true->∀i j i' j' x,i<l.length->j<t.width->i'<l.length->j'<t.width->K i j x->K i' j' x->i=i'/\j=j')
  (hv:∀i j,i<l.length->j<t.width->arr[off+i*t.width+j]?=some (V i j))
  (hc:∀i x,l[i]?=some x->∀j c,(t.cells x)[j]?=some c->Rep o w (V i j) c (K i j)) :
  Rep o w (.slice (some ⟨b,off,none⟩) l.length cap) (.s t l) S
theorem Rep.frame {o:Bool}{w w':World}{v:Value}{c:CV}{S:zY}(h:Rep o w v c S)(B:∀x,S x->w'.heap[x]?=w.heap[x]?):Rep o w' v c S:=by induction h with|i k n S=>exact .i k n S|b x S=>exact .b x S|nil t S=>exact .nil t S|void t a S H=>exact .void t a S H|sl t l b z r q e D V K S E s p f u A d m I M L=>refine .sl t l b z r q e D V K S ((B b A).trans E) s p f u A d m I ?_;intro i x C j c g;have F:i<l.length:=(qA.1 C).1;have G:j<t.width:=(by have:=(qA.1 g).1;rw[zds] at this;exact this);exact L i x C j c g (λy J=>B y (d i j y F G J).1)
theorem Rep.weak {o:Bool}{w:World}{v:Value}{c:CV}{S S':zY}(h:Rep o w v c S)(B:∀x,S x->S' x):Rep o w v c S':=by cases h with|i k n=>exact .i k n S'|b x=>exact .b x S'|nil t=>exact .nil t S'|void t a _ G=>exact .void t a S' G|sl t l b u q p e C V K _ E r m f s D d g H F=>exact .sl t l b u q p e C V K S' E r m f s (B _ D) (λi j x y z A=>⟨B _ (d i j x y z A).1,(d i j x y z A).2⟩) g H F
theorem Rep.ro {o:Bool}{w:World}{v:Value}{c:CV}{S:zY}(h:Rep o w v c S):Rep false w v c S:=by induction h with|i k n S=>exact .i k n S|b x S=>exact .b x S|nil t S=>exact .nil t S|void t a S H=>exact .void t a S rfl|sl t l b r p m e u V K S z A f d q y g s E G F=>exact .sl t l b r p m e u V K S z (λh=>by cases h) f d q y (λi j x B C D=>⟨(g i j x B C D).1,λh=>by cases h⟩) (λh=>by cases h) E F
theorem Rep.len {o:Bool}{w:World}{v:Value}{t:Ty}{l:List t.den}{S:zY}(h:Rep o w v (.s t l) S) :
 (∃a c,v = .slice a l.length c/\l.length<=c)/\l.length<=big:=by
 cases h with
 |nil=>exact⟨⟨none,0,rfl,qW _⟩,j3 _⟩
 |void t a _ n=>exact⟨⟨some a,0,rfl,qW _⟩,j3 _⟩
 |sl _ _ b j c g e k V K _ m i f d=>exact⟨⟨_,c,rfl,d⟩,f⟩
theorem Rep.int_inv {o:Bool}{w:World}{v:Value}{k:IntKind}{n:Int}{S:zY}(h:Rep o w v (.i k n) S):v = .int k n:=by cases h;rfl
theorem Rep.bool_inv {o:Bool}{w:World}{v:Value}{x:Bool}{S:zY}(h:Rep o w v (.b x) S):v = .bool x:=by cases h;rfl
def zba (w:World):Ty->Value->List (Int×Nat)->Option Value
 |_,v,[]=>some v
 |t,.slice (some a) len _,(i,j)::p=>
  if 0<=i/\i.toNat<len then
   match t.shape[j]? with
   |some (.s b)=>match w.cell? ⟨a.block,a.off+i.toNat*t.width+j,none⟩ with
    |some c=>zba w b c p
    |none=>none
   |_=>none
  else none
 |_,_,_=>none
def zxn:Ty->List (Int×Nat)->Option Ty
 |t,[]=>some t
 |t,(_,j)::p=>match t.shape[j]? with
  |some (.s a)=>zxn a p
  |_=>none
theorem zIz {t:Ty}{x:t.den}{j:Nat}{c:CV}(h:(t.cells x)[j]?=some c):t.shape[j]?=some c.ty:=by have:=zGV t x;rw[<- this,qQ,h];rfl
theorem zz4 {t:Ty}{x:t.den}{j:Nat}{a:CTy}(h:t.shape[j]?=some a):∃c,(t.cells x)[j]?=some c/\c.ty=a:=by have d:=zGV t x;rw[<- d,qQ]at h;cases b:(t.cells x)[j]? with|none=>rw[b]at h;cases h|some c=>rw[b]at h;exact⟨c,rfl,by simpa using h⟩
theorem zl9 {c:CV}{t:Ty}(h:c.ty = .s t):∃l:List t.den,c = .s t l:=by cases c with|i k n=>cases h|b x=>cases h|s a l=>cases h;exact⟨l,rfl⟩
theorem cell_of_block {w:World}{b o:Nat}{arr:Array Value}{e:TypeId}{a:Nat×Nat}(c:w.heap[b]?=some (.cells arr e a)):w.cell? ⟨b,o,none⟩=arr[o]?:=by simp[World.cell?,c]
theorem zmi {a:Type}{l:List a}{i:Int}{d:a}(h:i.toNat<l.length):l[i.toNat]?=some (ix l i d):=by simp[ix,List.getD,qB h]
theorem Rep.at {o:Bool}{w:World}:∀(p:List (Int×Nat)) {v m:Value} {t:Ty} {l:List t.den} {S:zY},Rep o w v (.s t l) S->zba w t v p=some m->
 ∃(k:Ty) (u:List k.den) (S':zY),zhC t l p=some (.s k u)/\zxn t p=some k/\Rep o w m (.s k u) S'/\∀x,S' x->S x:=by
 intro p
 induction p with
 |nil=>intro v m t l S h a;simp only[zba,qC]at a;subst a;exact⟨t,l,S,rfl,rfl,h,λ_ r=>r⟩
 |cons R p Q=>obtain⟨i,j⟩:=R;intro v m t l S h a;cases h with|nil=>simp[zba]at a|void=>simp[zba]at a|sl _ _ b U E D e X V K _ J M B y O Y g z P L=>simp only[zba]at a;split at a;{rename_i q;split at a;{rename_i k d;rw[cell_of_block J]at a;have A:j<t.width:=(by rw[<- zfd];exact(qA.1 d).1);rw[P i.toNat j q.2 A]at a;simp only at a;obtain⟨c,f,n⟩:=zz4 (x:=ix l i t.dflt) d;obtain⟨u,rfl⟩:=zl9 n;have N:=L i.toNat _ (zmi q.2) j _ f;obtain⟨W,T,C,F,G,H,I⟩:=Q N a;refine⟨W,T,C,?_,?_,H,λx r=>(g i.toNat j x q.2 A<|I x r).1⟩;{simp only [zhC,f,F]};{simp only [zxn,d,G]}};{cases a}};{cases a}
theorem zc6 {o:Bool}{w w':World}:∀(p:List (Int×Nat)) {v:Value} {t:Ty} {l:List t.den} {S:zY},Rep o w v (.s t l) S->(∀x,S x->w'.heap[x]?=w.heap[x]?)->zba w' t v p=zba w t v p:=by intro p;induction p with|nil=>intro v t l S _ _;rfl|cons I p H=>obtain⟨i,j⟩:=I;intro v t l S h r;(cases h with|nil=>rfl|void=>simp[zba]|sl _ _ b J A z e L V K _ m D y n E B d q F C=>simp only[zba];split;{rename_i k;split;{rename_i N a;rw[cell_of_block m,cell_of_block<|(r b B).trans m];have u:j<t.width:=(by rw[<- zfd];exact(qA.1 a).1);rw[F i.toNat j k.2 u];simp only;obtain⟨c,f,g⟩:=zz4 (x:=ix l i t.dflt) a;obtain⟨M,rfl⟩:=zl9 g;exact H (C i.toNat _ (zmi k.2) j _ f) (λx G=>r x (d i.toNat j x k.2 u G).1)};{rfl}};{rfl})
theorem z4Z {a:List CV}{k:IntKind}{r:List CTy}(h:a.map CV.ty = .i k::r):∃n d,a = .i k n::d/\d.map CV.ty=r:=by cases a with|nil=>cases h|cons c a=>simp only[jD,List.cons.injEq]at h;(cases c with|i g n=>obtain⟨e,f⟩:=h;cases e;exact⟨n,a,rfl,f⟩|b x=>cases h.1|s t l=>cases h.1)
theorem z4Y {a:List CV}{r:List CTy}(h:a.map CV.ty = .b::r):∃x d,a = .b x::d/\d.map CV.ty=r:=by cases a with|nil=>cases h|cons c a=>simp only[jD,List.cons.injEq]at h;(cases c with|i e n=>cases h.1|b x=>exact⟨x,a,rfl,h.2⟩|s t l=>cases h.1)
theorem z5a {a:List CV}{t:Ty}{r:List CTy}(h:a.map CV.ty = .s t::r):∃(l:List t.den) (d:List CV),a = .s t l::d/\d.map CV.ty=r:=by cases a with|nil=>cases h|cons c a=>simp only[jD,List.cons.injEq]at h;(cases c with|i g n=>cases h.1|b x=>cases h.1|s j l=>obtain⟨e,f⟩:=h;cases e;exact⟨l,a,rfl,f⟩)
theorem zLz:∀{t:Ty} {c:List CV},c.map CV.ty=t.shape->∃x,t.ofCells c=some x:=by
 intro t c h;cases t<;>simp only [Ty.shape]at h <;>
  (repeat (first
   |(obtain⟨n,a,b,d⟩:=z4Z h;subst b;clear h;rename _=>h)
   |(obtain⟨n,a,b,d⟩:=z4Y h;subst b;clear h;rename _=>h)
   |(obtain⟨n,a,b,d⟩:=z5a h;subst b;clear h;rename _=>h))) <;>
  (cases (List.map_eq_nil_iff.1 h);first|exact⟨_,rfl⟩|exact⟨_,dif_pos rfl⟩)
theorem ziS {c:Type}(l:List c)(b:Nat)(a:List c)(h:b+a.length<=l.length):(splice l b a).length=l.length:=by simp[splice];omega
theorem zfe {c:Type}(l:List c)(a:Nat)(b:List c)(h:a+b.length<=l.length)(j:Nat)(d:a<=j)(e:j<a+b.length):(splice l a b)[j]?=b[j-a]?:=by unfold splice;rw[kC,qR (by simp;omega),qV (by simp;omega)];congr 1;simp;omega
theorem ze2 {d:Type}(l:List d)(a:Nat)(b:List d)(h:a+b.length<=l.length)(j:Nat)(c:j<a\/a+b.length<=j):(splice l a b)[j]?=l[j]?:=by unfold splice;rcases c with c|c;{rw [kC,qV (by simp;omega),jJ];simp[c]};{rw [kC,qR (by simp;omega),qR (by simp;omega),jO];congr 1;simp;omega}
theorem z0Q {c d:Type}(f:c->d)(l:List c)(b:Nat)(a:List c):(splice l b a).map f=splice (l.map f) b (a.map f):=by simp[splice,List.map_take,List.map_drop]
theorem zGG {d:Type}(l:List d)(a:Nat)(b:List d)(h:a+b.length<=l.length)(e:∀k,k<b.length->l[a+k]?=b[k]?):splice l a b=l:=by apply k6;intro j;by_cases c:a<=j/\j<a+b.length;{rw [zfe l a b h j c.1 c.2,<- e (j-a) (by omega)];congr 1;omega};{rw [ze2 l a b h j (by omega)]}
theorem z7Y {a:Type}{l:List a}{i:Int}{x:a}{k:Nat}(h:k<l.length):(up l i x)[k]?=if i.toNat=k then some x else l[k]?:=by unfold up;rw[q9];split;{rename_i b;subst b;simp[h]};{rfl}
theorem zhy {a:Type}(l:List a)(i:Int)(x:a):(up l i x).length=l.length:=by simp[up]
theorem Rep.focus {w:World}:∀(p:List (Int×Nat)) {v v':Value} {t:Ty} {l:List t.den} {S:zY},Rep true w v (.s t l) S->zba w t v p=some v'->
 ∃(U:Ty) (l':List U.den) (O:zY),zhC t l p=some (.s U l')/\zxn t p=some U/\Rep true w v' (.s U l') O/\(∀x,O x->S x)/\
  ∀(w':World) (l2:List U.den) (S2:zY),(∀x,S x->¬ O x->w'.heap[x]?=w.heap[x]?)->(∀x,S2 x->S x->O x)->Rep true w' v' (.s U l2) S2->
   ∃m,zqF t l p (.s U l2)=some m/\Rep true w' v (.s t m) (λx=>(S x/\¬ O x)\/S2 x)/\
    (∀q u,zba w t v q=some u->(∀q',q=p++q'->q'=[])->zba w' t v q=some u)/\
    (∀q',zba w' t v (p++q')=zba w' U v' q'):=by
 intro p
 induction p with
 |nil=>intro v v' t l S h H;simp only[zba,qC]at H;subst H;refine⟨t,l,S,rfl,rfl,h,λ_ A=>A,λw' l2 S2 _ _ h2=>⟨l2,by simp[zqF],h2.weak λx A=>.inr A,?_,λ_=>rfl⟩⟩;intro q u M hn;have:=hn q (by simp);subst this;exact M
 |cons ij p ih=>
  obtain⟨i,j⟩:=ij;intro v v' t l S h H;cases h with
  |nil=>simp[zba]at H
  |void _ _ _ ho=>cases ho
  |sl _ _ b c5 b3 a5 e fz V K _ hb b6 c7 c6 c2 hS n G hv hc=>
   have c8:=H;simp only[zba]at H;split at H;{rename_i X;split at H;{rename_i t0 N;rw[cell_of_block hb]at H;have hj:j<t.width:=(by rw[<- zfd];exact(qA.1 N).1);rw[hv i.toNat j X.2 hj]at H;simp only at H;obtain⟨c,a3,b5⟩:=zz4 (x:=ix l i t.dflt) N;obtain⟨l0,rfl⟩:=zl9 b5;have hr:=hc i.toNat _ (zmi X.2) j _ a3;obtain⟨U,l',O,h1,h2,h3,h4,h5⟩:=ih hr H;have P:¬ O b:=λA=>(n i.toNat j b X.2 hj<|h4 b A).2 rfl rfl;refine⟨U,l',O,by simp only[zhC,a3,h1],by simp only[zxn,N,h2],h3,λx A=>(n i.toNat j x X.2 hj<|h4 x A).1,?_⟩;intro w' l2 S2 F W b0;have a6:∀x,K i.toNat j x->S x:=λx A=>(n i.toNat j x X.2 hj A).1;obtain⟨m0,b7,b1,b9,c0⟩:=h5 w' l2 S2 (λx A hn=>F x (a6 x A) hn) (λx A E=>W x A (a6 x E)) b0;have a7:j+[CV.s t0 m0].length<=(t.cells<|ix l i t.dflt).length:=(by rw[zds];simp;omega);have Z:(splice (t.cells<|ix l i t.dflt) j [CV.s t0 m0]).map CV.ty=t.shape:=(by rw[z0Q,zGV];refine zGG _ _ _ (by rw[zfd];simp;omega) ?_;intro k E;have:k=0:=(by simpa using E);subst this;simpa [CV.ty] using N);obtain⟨x',b2⟩:=zLz Z;have a0:=zkD b2;have a1:w'.heap[b]?=some (.cells a5 e fz):=(F b hS P).trans hb;have B:∀g f,g<l.length->f<t.width->¬ (g=i.toNat/\f=j)->∀x,K g f x->¬ O x/\w'.heap[x]?=w.heap[x]?:=(by intro g f a d a4 x A;have hn:¬ O x:=λh=>a4 (G rfl g f i.toNat j x a d X.2 hj A (h4 x h));exact⟨hn,F x (n g f x a d A).1 hn⟩);refine⟨up l i x',?_,?_,?_,?_⟩;{simp only [zqF,a3,b7,b2]};{have R:(up l i x').length=l.length:=zhy _ _ _;rw[<- R];refine .sl t (up l i x') b c5 b3 a5 e fz V (λg f=>if g=i.toNat/\f=j then (λx=>(K g f x/\¬ O x)\/S2 x) else K g f) _ a1 b6 (by omega) (by omega) c2 (.inl ⟨hS,P⟩) ?_ ?_ (by rw[R];exact hv) ?_;{intro g f x a d E;rw[R]at a;split at E;{rename_i T;rcases E with⟨E,hn⟩|E;{exact⟨.inl ⟨(n g f x a d E).1,hn⟩,(n g f x a d E).2⟩};{refine⟨.inr E,λ_ c3=>?_⟩;subst c3;exact P (W x E hS)}};{rename_i T;exact⟨.inl ⟨(n g f x a d E).1,(B g f a d T x E).1⟩,(n g f x a d E).2⟩}};{intro _ g f i2 j2 x a d L Q z r;rw[R]at a L;split at z;{rename_i J;split at r;{rename_i D;exact⟨J.1.trans D.1.symm,J.2.trans D.2.symm⟩};{rename_i D;rcases z with⟨z,_⟩|z;{exact G rfl g f i2 j2 x a d L Q z r};{exact absurd (W x z (n i2 j2 x L Q r).1) (B i2 j2 L Q D x r).1}}};{rename_i J;split at r;{rename_i D;rcases r with⟨r,_⟩|r;{exact G rfl g f i2 j2 x a d L Q z r};{exact absurd (W x r (n g f x a d z).1) (B g f a d J x z).1}};{exact G rfl g f i2 j2 x a d L Q z r}}};{intro g y hy f c C;have a:g<l.length:=(by have:=(qA.1 hy).1;rwa [R] at this);have d:f<t.width:=(by have:=(qA.1 C).1;rwa [zds] at this);rw[z7Y a]at hy;by_cases T:g=i.toNat/\f=j;{obtain⟨J,D⟩:=T;subst J D;simp only[if_true,qC]at hy;subst hy;rw[a0,zfe _ _ _ a7 f (qW _) (by simp)]at C;simp only[k7,qH,qC]at C;subst C;simp only[and_self,if_true];exact b1};{simp only [T,if_false];have a2:∃y0,l[g]?=some y0/\(t.cells y0)[f]?=some c:=(by by_cases Y:i.toNat=g;{subst Y;simp only[if_true,qC]at hy;subst hy;have c9:f≠j:=λh=>T ⟨rfl,h⟩;rw[a0,ze2 _ _ _ a7 f (by simp;omega)]at C;exact⟨_,zmi X.2,C⟩};{simp only [Y,if_false]at hy;exact⟨y,hy,C⟩});obtain⟨y0,c4,a9⟩:=a2;exact(hc g y0 c4 f c a9).frame λx A=>(B g f a d T x A).2}}};{intro q u M a4;cases q with|nil=>exact M|cons ab q=>obtain⟨g,f⟩:=ab;simp only[zba]at M ⊢;split at M;{rename_i a;rw[if_pos a];split at M;{rename_i t1 I;rw[cell_of_block hb]at M;rw[cell_of_block a1];have d:f<t.width:=(by rw[<- zfd];exact(qA.1 I).1);rw[hv g.toNat f a.2 d]at M ⊢;simp only at M ⊢;by_cases T:g.toNat=i.toNat/\f=j;{have Y:g=i:=(by omega);obtain⟨_,rfl⟩:=T;subst Y;rw[N]at I;cases I;exact b9 q u M (λq' b8=>a4 q' (by simp[b8]))};{obtain⟨c1,b4,a8⟩:=zz4 (x:=ix l g t.dflt) I;obtain⟨l1,rfl⟩:=zl9 a8;rw[zc6 q (hc g.toNat _ (zmi a.2) f _ b4) λx A=>(B g.toNat f a.2 d T x A).2];exact M}};{cases M}};{cases M}};{intro q';have:=c0 q';simp only[j6,zba];rw[if_pos X,N];simp only;rw[cell_of_block a1,hv i.toNat j X.2 hj];exact this}};{cases H}};{cases H}
structure Env where
 ρ:Nat->Value
 φ:Nat->zY
 β:Nat->Nat
 κ:World
def z9K (a w:World)(t:Ty)(v:Value)(J:List (List Nat)):Prop :=
 ∀p u,zba a t v p=some u->J.any (λc=>c.isPrefixOf (cols p))=false->zba w t v p=some u
def VA (w:World)(st:St)(E:Env):At->Value->Prop
 |.bad,_=>True
 |.i k n,v=>v = .int k n
 |.b x,v=>v = .bool x
 |.sl r p,v=>(∃a len c,v = .slice a len c)/\∀R,st.root r=some R->zba w R.t (E.ρ r) p=some v
 |.lp l e,v=>(∃a,v = .pointer (some a))/\∀g,zo st.lo l=some g->v = .pointer (some ⟨E.β l,e,none⟩)
 |.ep r p i e,v=>(∃a,v = .pointer (some a))/\∀R,st.root r=some R->∃b o len c j,zba w R.t (E.ρ r) p=some (.slice (some ⟨b,o,none⟩) len c)/\zxn R.t p=some j/\
  0<=i/\i.toNat<len/\v = .pointer (some ⟨b,o+i.toNat*j.width+e,none⟩)
 |.fn f d,v=>∃h:Array Value,v = .func (.func f) #[] h/\h.size=d.length/\
  ∀(k l:Nat) (u:Value),d[k]?=some l->h[k]?=some u->(∃a,u = .pointer (some a))/\∀g,zo st.lo l=some g->u = .pointer (some ⟨E.β l,0,none⟩)
 |.kp r J t,v=>(∃a len c,v = .slice a len c)/\∀R,st.root r=some R->R.t=t/\E.ρ r=v/\z9K E.κ w t v J
def VT (w:World)(st:St)(E:Env):TV->Value->Prop
 |.at a,v=>VA w st E a v
 |.agg l,v=>∃b:Array Value,v = .agg b/\b.size=l.length/\∀(j:Nat) (a:At) (u:Value),l[j]?=some a->b[j]?=some u->u.oneCell'=true/\VA w st E a u
def VM (w:World)(st:St)(E:Env):MV->Value->Prop
 |.und,v=>v=undef
 |.v x,v=>VT w st E x v
 |.tup l,v=>∃a:Array Value,v = .tuple a/\a.size=l.length/\∀(j:Nat) (x:TV) (u:Value),l[j]?=some x->a[j]?=some u->VT w st E x u
def At.ids (a:At):List Nat:=zbo a++zbv a
def MV.ids (m:MV):List Nat:=(zbI m).flatMap At.ids
structure Trans (st:St) (E:Env) (w:World) (st1:St) (E1:Env) (w1:World) (U:Nat->Prop):Prop where
 ro:∀r,U r->∀R1,st1.root r=some R1->∃R,st.root r=some R/\R1.t=R.t/\∀p u,zba w R.t (E.ρ r) p=some u->zba w1 R.t (E1.ρ r) p=some u
 lo:∀l,U l->∀cs1,zo st1.lo l=some cs1->(∃cs,zo st.lo l=some cs)/\E1.β l=E.β l
 κ:E1.κ=E.κ
section
variable {st st1:St} {E E1:Env} {w w1:World} {U:Nat->Prop}
theorem VA.tr (T:Trans st E w st1 E1 w1 U){a:At}{v:Value}(C:∀n∈a.ids,U n)(h:VA w st E a v):VA w1 st1 E1 a v:=by cases a with|bad=>trivial|i k n=>exact h|b x=>exact h|sl r p=>refine⟨h.1,λA c=>?_⟩;obtain⟨R,B,z,y⟩:=T.ro r (C r (by simp[At.ids,zbo])) A c;rw[z];exact y p v (h.2 R B)|lp l I=>refine⟨h.1,λg d=>?_⟩;obtain⟨⟨G,m⟩,q⟩:=T.lo l (C l (by simp[At.ids,zbo,zbv])) g d;rw[q];exact h.2 G m|ep r p i I=>refine⟨h.1,λA c=>?_⟩;obtain⟨R,B,z,y⟩:=T.ro r (C r (by simp[At.ids,zbo])) A c;obtain⟨b,o,len,F,O,d,j,s⟩:=h.2 R B;exact⟨b,o,len,F,O,by rw[z];exact y p _ d,by rw[z];exact j,s⟩|fn f K=>obtain⟨P,d,j,s⟩:=h;refine⟨P,d,j,λk l u H M=>⟨(s k l u H M).1,λg D=>?_⟩⟩;obtain⟨⟨G,m⟩,q⟩:=T.lo l (C l (by simp only[At.ids,zbo,zbv,jP];exact qJ H)) g D;rw[q];exact(s k l u H M).2 G m|kp r J t=>refine⟨h.1,λA c=>?_⟩;obtain⟨R,B,z,y⟩:=T.ro r (C r (by simp[At.ids,zbo])) A c;have e:E1.ρ r=E.ρ r:=(by have:=y [] (E.ρ r) rfl;simpa [zba] using this);obtain⟨d,j,s⟩:=h.2 R B;refine⟨z.trans d,e.trans j,λp u L N=>?_⟩;rw[T.κ]at L;have:=y p u (by rw[d,j];exact s p u L N);rwa [e,d,j] at this
theorem VT.tr (T:Trans st E w st1 E1 w1 U){x:TV}{v:Value}(d:∀a∈zV x,∀n∈a.ids,U n)(h:VT w st E x v):VT w1 st1 E1 x v:=by rcases x with a|l;{exact VA.tr T (d a (by simp[zV])) h};{obtain⟨i,f,g,c⟩:=h;exact⟨i,f,g,λj a u b e=>⟨(c j a u b e).1,VA.tr T (d a (by simp only[zV];exact qJ b)) (c j a u b e).2⟩⟩}
theorem VM.tr (T:Trans st E w st1 E1 w1 U){m:MV}{v:Value}(i:∀n∈m.ids,U n)(h:VM w st E m v):VM w1 st1 E1 m v:=by have b:∀a∈zbI m,∀n∈a.ids,U n:=λa c n k=>i n (by simp only[MV.ids,qP];exact⟨a,c,k⟩);cases m with|und=>exact h|v x=>exact VT.tr T b h|tup l=>obtain⟨q,e,f,g⟩:=h;refine⟨q,e,f,λj x u d p=>VT.tr T (λa c=>b a ?_) (g j x u d p)⟩;simp only[zbI,qP];exact⟨x,qJ d,c⟩
end
structure Mem (w0:World) (S0:zY) (st:St) (E:Env) (w:World):Prop where
 os:w.os=w0.os
 tape:w.tape=w0.tape
 output:w.output=w0.output
 size:w0.heap.size<=w.heap.size
 keep:∀b,b<w0.heap.size->¬ S0 b->w.heap[b]?=w0.heap[b]?
 rep:∀r R,st.root r=some R->Rep R.own w (E.ρ r) (.s R.t R.l) (E.φ r)
 rlt:∀r R,st.root r=some R->∀x,E.φ r x->x<w.heap.size
 mine:∀r R,st.root r=some R->R.own=true->R.ep=none/\∀x,E.φ r x->S0 x\/w0.heap.size<=x
 frz:¬ S0 w0.heap.size->∀r R,st.root r=some R->R.own=false->R.ep=none->R.t.flat=false->∀x,E.φ r x->S0 x\/w0.heap.size<=x
 apart:∀r R r' R',st.root r=some R->R.own=true->st.root r'=some R'->R'.ep=none->r≠r'->∀x,E.φ r x->¬ E.φ r' x
 loc:∀l cs,zo st.lo l=some cs->(S0 (E.β l)\/w0.heap.size<=E.β l)/\∃vals e,w.heap[E.β l]?=some (.cells vals e (0,0))/\vals.size=cs.length/\
  ∀(j:Nat) (c:At) (u:Value),cs[j]?=some c->vals[j]?=some u->u.oneCell'=true/\VA w st E c u
 linj:∀l l' cs cs',zo st.lo l=some cs->zo st.lo l'=some cs'->E.β l=E.β l'->l=l'
 lro:∀l cs r R,zo st.lo l=some cs->st.root r=some R->¬ E.φ r (E.β l)
 epo:∀r R e,zo st.ro r=some R->R.ep=some e->e<=st.ep
 κ:E.κ=w0
structure Ids (st:St) (U:Nat->Prop):Prop where
 ro:∀n R,zo st.ro n=some R->U n
 lo:∀n cs,zo st.lo n=some cs->U n/\∀a∈cs,∀m∈a.ids,U m
 tm:∀m∈st.tm,∀n∈m.ids,U n
 stk:∀f∈st.stk,∀m∈f,∀n∈m.ids,U n
def Slots (w:World)(b:St)(E:Env)(tm:List MV)(a:Array Value):Prop :=
 a.size=tm.length/\∀(i:Nat) (m:MV) (v:Value),tm[i]?=some m->a[i]?=some v->VM w b E m v
def Stack (w:World)(a:St)(E:Env):List (List MV)->List (Array Value)->Prop
 |[],[]=>True
 |f::r,b::s=>Slots w a E f b/\Stack w a E r s
 |_,_=>False
structure Sim (w0:World) (S0:zY) (U:Nat->Prop) (st:St) (E:Env) (ts:Array Value) (sv:List (Array Value)) (w:World):Prop where
 mem:Mem w0 S0 st E w
 ids:Ids st U
 tm:Slots w st E st.tm ts
 stk:Stack w st E st.stk sv
theorem Slots.tr {st st1:St}{E E1:Env}{w w1:World}{U:Nat->Prop}(T:Trans st E w st1 E1 w1 U){tm:List MV}{b:Array Value}(c:∀m∈tm,∀n∈m.ids,U n)(h:Slots w st E tm b):Slots w1 st1 E1 tm b :=
 ⟨h.1,λi m v a d=>VM.tr T (c m<|qJ a) (h.2 i m v a d)⟩
theorem Stack.tr {st st1:St}{E E1:Env}{w w1:World}{U:Nat->Prop}(T:Trans st E w st1 E1 w1 U):∀{l:List (List MV)} {s:List (Array Value)},(∀f∈l,∀m∈f,∀n∈m.ids,U n)->Stack w st E l s->Stack w1 st1 E1 l s
 |[],[],_,_=>trivial
 |f::r,c::s,a,h=>⟨Slots.tr T (a f (by simp)) h.1,Stack.tr T (λf b=>a f (by simp[b])) h.2⟩
 |[],_::_,_,h=>h.elim
 |_::_,[],_,h=>h.elim
theorem zbM {c:Type}(l m:List (Nat×c))(n:Nat):zo (l++m) n=match zo l n with
 |some x=>some x
 |none=>zo m n:=by
 induction l with
 |nil=>rfl
 |cons a l b=>obtain⟨k,v⟩:=a;simp only[j6,zo];split;{rfl};{exact b}
theorem znV {c:Type}{l:List (Nat×c)}{n:Nat}{x:c}(h:zo l n=some x):(n,x)∈l:=by induction l with|nil=>cases h|cons a l d=>obtain⟨k,v⟩:=a;simp only[zo]at h;split at h;{rename_i b;simp only[qL]at b;subst b;cases h;exact jB};{exact qY _ (d h)}
theorem Sim.next {Q:World}{H:zY}{U U1:Nat->Prop}{st st1:St}{E E1:Env}{X:Array Value}{W:List (Array Value)}{w w1:World}(h:Sim Q H U st E X W w)(p:Mem Q H st1 E1 w1)(T:Trans st E w st1 E1 w1 U)(t:st1.tm=st.tm)(A:st1.stk=st.stk)(L:∀n,U n->U1 n)(O:∀n R,zo st1.ro n=some R->U1 n)(N:∀n y,zo st1.lo n=some y->U1 n/\∀a∈y,∀m∈a.ids,U1 m){dst:Option Tmp}{mv:MV}{v:Value}(hv:VM w1 st1 E1 mv v)(P:∀n∈mv.ids,U1 n) :
 Sim Q H U1 (st1.put dst mv) E1 (({tmps:=X,defers:=[]}:Act).put dst v).tmps W w1:=by
 have b:(st1.put dst mv).ro=st1.ro/\(st1.put dst mv).lo=st1.lo/\(st1.put dst mv).stk=st1.stk/\(st1.put dst mv).ep=st1.ep:=by cases dst<;>exact⟨rfl,rfl,rfl,rfl⟩
 have g:∀r,(st1.put dst mv).root r=st1.root r:=fun r=>by simp only[St.root,b.1,b.2.2.2]
 have F:Trans st1 E1 w1 (st1.put dst mv) E1 w1 (fun _=>True):=
  ⟨fun r _ Z q=>⟨Z,by rw[<- g];exact q,rfl,fun _ _ h=>h⟩,fun l _ J q=>⟨⟨J,by rw[<- b.2.1];exact q⟩,rfl⟩,rfl⟩
 refine⟨?_,?_,?_,?_⟩
 .exact ⟨p.os,p.tape,p.output,p.size,p.keep,fun r R B=>p.rep r R (by rw[<- g];exact B),fun r R B=>p.rlt r R (by rw[<- g];exact B),
   fun r R B=>p.mine r R (by rw[<- g];exact B),fun hz r R B=>p.frz hz r R (by rw[<- g];exact B),fun r R r' Y q z K=>p.apart r R r' Y (by rw[<- g];exact q) z (by rw[<- g];exact K),
   fun l y hl=>by obtain⟨q,D,e,z,K,S⟩:=p.loc l y (by rw[<- b.2.1];exact hl);exact⟨q,D,e,z,K,fun j c u V x=>⟨(S j c u V x).1,VA.tr F (fun _ _=>trivial) (S j c u V x).2⟩⟩,
   fun l l' y I q z=>p.linj l l' y I (by rw[<- b.2.1];exact q) (by rw[<- b.2.1];exact z),
   fun l y r R q z=>p.lro l y r R (by rw[<- b.2.1];exact q) (by rw[<- g];exact z),
   fun r R e q z=>by rw[b.2.2.2];exact p.epo r R e (by rw[<- b.1];exact q) z,p.κ⟩
 .refine⟨fun n R s=>O n R (by rw[<- b.1];exact s),fun n y s=>N n y (by rw[<- b.2.1];exact s),?_,?_⟩
  .intro m k n s;cases dst with
   |none=>exact L n (h.ids.tm m (by simpa [St.put,t] using k) n s)
   |some d=>simp only[St.put]at k;rcases qX k with k|k;{exact L n (h.ids.tm m (by rw[<- t];exact k) n s)};{subst k;exact P n s}
  .intro f G m k n s;rw[b.2.2.1,A]at G;exact L n (h.ids.stk f G m k n s)
 .have hs:=Slots.tr T (fun m k n s=>h.ids.tm m k n s) h.tm;have C:=Slots.tr F (fun _ _ _ _=>trivial) hs;cases dst with
  |none=>simpa [St.put,Act.put,t] using C
  |some d=>refine⟨by simp[St.put,Act.put,t,hs.1],fun i m u k x=>?_⟩;simp only[St.put,t]at k;simp only[Act.put]at x;rw[q9]at k;rw[k8]at x;split at k;{rename_i M;subst M;rw[if_pos rfl]at x;split at k;{cases k;split at x;{cases x;exact VM.tr F (fun _ _=>trivial) hv};{cases x}};{cases k}};{rename_i M;rw[if_neg M]at x;exact C.2 i m u k x}
 .rw [b.2.2.1,A];exact Stack.tr F (fun _ _ _ _ _ _=>trivial) (Stack.tr T (fun f G m k n s=>h.ids.stk f G m k n s) h.stk)
section
variable {w0 w w1:World} {S0:zY} {st:St} {E E1:Env} {U:Nat->Prop}
structure IdsM (st:St) (U:Nat->Prop):Prop where
 ro:∀n R,zo st.ro n=some R->U n
 lo:∀n cs,zo st.lo n=some cs->U n/\∀a∈cs,∀m∈a.ids,U m
theorem Ids.mem (h:Ids st U):IdsM st U:=⟨h.ro,h.lo⟩
theorem zbu {r:Nat}{R:Root}(h:st.root r=some R):zo st.ro r=some R/\(R.ep=none\/R.ep=some st.ep):=by unfold St.root at h;split at h;{rename_i Q a;split at h;{rename_i d;cases h;exact⟨a,.inl d⟩};{rename_i e c;split at h;{rename_i b;simp only[qL]at b;subst b;cases h;exact⟨a,.inr c⟩};{cases h}}};{cases h}
theorem zhf {r:Nat}{R:Root}(h:zo st.ro r=some R)(a:R.ep=none\/R.ep=some st.ep):st.root r=some R:=by unfold St.root;rw[h];simp only;rcases a with a|a;{rw [a]};{rw [a];simp}
theorem Mem.addRootsO (h:Mem w0 S0 st E w)(I:IdsM st U){dro:List (Nat×Root)}(Y:w1.os=w.os)(Z:w1.tape=w.tape)(M:w1.output=w.output)(N:w.heap.size<=w1.heap.size)(m:∀x,x<w.heap.size->w1.heap[x]?=w.heap[x]?)(g:∀r R,zo dro r=some R->¬ U r/\R.ep=none/\Rep R.own w1 (E1.ρ r) (.s R.t R.l) (E1.φ r)/\∀x,E1.φ r x->w.heap.size<=x/\x<w1.heap.size)(X:∀r R z B,zo dro r=some R->R.own=true->zo dro z=some B->r≠z->∀x,E1.φ r x->¬ E1.φ z x)(a:∀n,U n->E1.ρ n=E.ρ n/\E1.φ n=E.φ n/\E1.β n=E.β n)(O:E1.κ=E.κ:=by rfl) :
 Mem w0 S0 {st with ro:=dro++st.ro} E1 w1/\Trans st E w {st with ro:=dro++st.ro} E1 w1 U:=by
 have d:∀r R,({st with ro:=dro++st.ro}:St).root r=some R->zo dro r=some R\/(st.root r=some R/\U r):=by intro r R f;obtain⟨A,G⟩:=zbu f;simp only[zbM]at A;split at A;{rename_i Q T;cases A;exact .inl T};{exact .inr ⟨zhf A G,I.ro r R A⟩}
 have J:∀r R,st.root r=some R->∀x,E.φ r x->w1.heap[x]?=w.heap[x]?:=λr R f x k=>m x (h.rlt r R f x k);have hT:Trans st E w {st with ro:=dro++st.ro} E1 w1 U:=by refine⟨λr i H V=>?_,λl i P A=>⟨⟨P,A⟩,(a l i).2.2⟩,O⟩;rcases d r H V with v|⟨f,_⟩;{exact absurd i (g r H v).1};{refine⟨H,f,rfl,λp u hp=>?_⟩;rw[(a r i).1,zc6 p (h.rep r H f)<|J r H f];exact hp}
 refine⟨⟨Y.trans h.os,Z.trans h.tape,M.trans h.output,qT h.size N,λb hb hS=>(m b<|jC hb h.size).trans (h.keep b hb hS),?_,?_,?_,?_,?_,?_,?_,?_,?_,O.trans h.κ⟩,hT⟩
 .intro r R f;rcases d r R f with v|⟨f,i⟩
  .obtain⟨_,_,hrep,_⟩:=g r R v;exact hrep
  .rw [(a r i).1,(a r i).2.1];exact(h.rep r R f).frame (J r R f)
 .intro r R f x k;rcases d r R f with v|⟨f,i⟩
  .exact((g r R v).2.2.2 x k).2
  .rw [(a r i).2.1]at k;exact jC (h.rlt r R f x k) N
 .intro r R f ho;rcases d r R f with v|⟨f,i⟩
  .obtain⟨_,he,_,k⟩:=g r R v;exact⟨he,λx q=>.inr (qT h.size (k x q).1)⟩
  .rw [(a r i).2.1];exact h.mine r R f ho
 .intro hz r R f ho he hf;rcases d r R f with v|⟨f,i⟩
  .obtain⟨_,_,_,k⟩:=g r R v;exact λx q=>.inr (qT h.size (k x q).1)
  .rw [(a r i).2.1];exact h.frz hz r R f ho he hf
 .intro r R z B f ho y he hne x k;rcases d r R f with v|⟨f,i⟩
  .rcases d z B y with F|⟨y,D⟩
   .exact X r R z B v ho F hne x k
   .rw [(a z D).2.1];intro q;have:=h.rlt z B y x q;have:=((g r R v).2.2.2 x k).1;omega
  .rw [(a r i).2.1]at k;rcases d z B y with F|⟨y,D⟩
   .intro q;have:=h.rlt r R f x k;have:=((g z B F).2.2.2 x q).1;omega
   .rw [(a z D).2.1];exact h.apart r R z B f ho y he hne x k
 .intro l cs hl;obtain⟨i,K⟩:=I.lo l cs hl;obtain⟨A,C,e,G,h3,S⟩:=h.loc l cs hl;rw[(a l i).2.2];have L:E.β l<w.heap.size:=(qO.1 G).1;exact⟨A,C,e,(m _ L).trans G,h3,λj c u W hu=>⟨(S j c u W hu).1,VA.tr hT (λn hn=>K c (qJ W) n hn) (S j c u W hu).2⟩⟩
 .intro l l' cs cs' hl hl' he;rw[(a l (I.lo l cs hl).1).2.2,(a l' (I.lo l' cs' hl').1).2.2]at he;exact h.linj l l' cs cs' hl hl' he
 .intro l cs r R hl f;have a0:=(a l (I.lo l cs hl).1).2.2;rw[a0];obtain⟨A,C,e,G,h3,S⟩:=h.loc l cs hl;have L:E.β l<w.heap.size:=(qO.1 G).1;rcases d r R f with v|⟨f,i⟩
  .intro k;have:=((g r R v).2.2.2 _ k).1;omega
  .rw [(a r i).2.1];exact h.lro l cs r R hl f
 .intro r R e f he;simp only[zbM]at f;split at f
  .rename_i T;cases f;rw[(g r R T).2.1]at he;cases he
  .exact h.epo r R e f he
theorem Mem.addRoots (h:Mem w0 S0 st E w)(z:IdsM st U){dro:List (Nat×Root)}(k:w1.os=w.os)(p:w1.tape=w.tape)(d:w1.output=w.output)(m:w.heap.size<=w1.heap.size)(a:∀x,x<w.heap.size->w1.heap[x]?=w.heap[x]?)(b:∀r R,zo dro r=some R->¬ U r/\R.own=true/\R.ep=none/\Rep true w1 (E1.ρ r) (.s R.t R.l) (E1.φ r)/\∀x,E1.φ r x->w.heap.size<=x/\x<w1.heap.size)(j:∀r R e f,zo dro r=some R->zo dro e=some f->r≠e->∀x,E1.φ r x->¬ E1.φ e x)(c:∀n,U n->E1.ρ n=E.ρ n/\E1.φ n=E.φ n/\E1.β n=E.β n)(q:E1.κ=E.κ:=by rfl) :
 Mem w0 S0 {st with ro:=dro++st.ro} E1 w1/\Trans st E w {st with ro:=dro++st.ro} E1 w1 U :=
 h.addRootsO z k p d m a (λr R A=>by
  obtain⟨g,i,u,v,y⟩:=b r R A;exact⟨g,u,by rw[i];exact v,y⟩) (λr R e f g _ i=>j r R e f g i) c q
theorem Mem.addLoc (h:Mem w0 S0 st E w)(W:IdsM st U){id:Nat}(O:¬ U id){f:Array Value}{e:TypeId}{v:List At}(Q:f.size=v.length)(H:∀(j:Nat) (c:At) (u:Value),v[j]?=some c->f[j]?=some u->u.oneCell'=true/\VA w st E c u)(N:∀a∈v,∀m∈a.ids,U m) :
 Mem w0 S0 {st with lo:=(id,v)::st.lo} {E with β:=λn=>if n=id then w.heap.size else E.β n} (w.alloc<|.cells f e (0,0))/\
  Trans st E w {st with lo:=(id,v)::st.lo} {E with β:=λn=>if n=id then w.heap.size else E.β n} (w.alloc<|.cells f e (0,0)) U:=by
 have k:∀x,x<w.heap.size->(w.alloc<|.cells f e (0,0)).heap[x]?=w.heap[x]?:=λx C=>heap_alloc_old w _ x C;have I:∀r R,st.root r=some R->∀x,E.φ r x->(w.alloc<|.cells f e (0,0)).heap[x]?=w.heap[x]?:=λr R y x C=>k x (h.rlt r R y x C);have s:∀l d,zo ((id,v)::st.lo) l=some d->(l=id/\d=v)\/(l≠id/\zo st.lo l=some d):=by intro l d i;simp only[zo]at i;split at i;{rename_i q;simp only[qL]at q;cases i;exact .inl ⟨q.symm,rfl⟩};{rename_i q;simp only[qL]at q;exact .inr ⟨λh=>q h.symm,i⟩}
 have M:Trans st E w {st with lo:=(id,v)::st.lo} {E with β:=λn=>if n=id then w.heap.size else E.β n} (w.alloc<|.cells f e (0,0)) U:=by refine⟨λr T F G=>⟨F,G,rfl,λp u Y=>?_⟩,λl T d L=>?_,rfl⟩;{have y:st.root r=some F:=G;show zba (w.alloc<|.cells f e (0,0)) F.t (E.ρ r) p=some u;rw[zc6 p (h.rep r F y)<|I r F y];exact Y};{have g:l≠id:=λq=>O (q ▸ T);rcases s l d L with⟨q,_⟩|⟨_,D⟩;{exact absurd q g};{exact⟨⟨d,D⟩,by simp[g]⟩}}
 refine⟨⟨h.os,h.tape,h.output,by simp;have:=h.size;omega,λb V X=>(k b<|jC V h.size).trans (h.keep b V X),λr R y=>(h.rep r R y).frame (I r R y),
  λr R y x C=>by simp;exact Nat.lt_succ_of_lt (h.rlt r R y x C),h.mine,h.frz,h.apart,?_,?_,?_,h.epo,h.κ⟩,M⟩
 .intro l d i;rcases s l d i with⟨rfl,rfl⟩|⟨g,i⟩
  .refine⟨.inr (by simp;exact h.size),f,e,by simp only[if_true];exact heap_alloc_new w _,Q,λj c u B K=>⟨(H j c u B K).1,VA.tr M (λn P=>N c (qJ B) n P) (H j c u B K).2⟩⟩
  .obtain⟨L,z,S,D,h3,h4⟩:=h.loc l d i;have A:E.β l<w.heap.size:=(qO.1 D).1;simp only[g,if_false];exact⟨L,z,S,(k _ A).trans D,h3,λj c u B K=>⟨(h4 j c u B K).1,VA.tr M (λn P=>(W.lo l d i).2 c (qJ B) n P) (h4 j c u B K).2⟩⟩
 .intro l l' d cs2 i hl' q;have A:∀l v,zo st.lo l=some v->E.β l<w.heap.size:=λl v i=>by obtain⟨_,z,S,D,_⟩:=h.loc l v i;exact(qO.1 D).1
  rcases s l d i with⟨rfl,rfl⟩|⟨g,J⟩
  .rcases s l' cs2 hl' with⟨rfl,rfl⟩|⟨hne',hl2'⟩
   .rfl
   .simp only [if_true,hne',if_false]at q;have:=A l' cs2 hl2';omega
  .rcases s l' cs2 hl' with⟨rfl,rfl⟩|⟨hne',hl2'⟩
   .simp only [if_true,g,if_false]at q;have:=A l d J;omega
   .simp only [g,hne',if_false]at q;exact h.linj l l' d cs2 J hl2' q
 .intro l d r R i y;rcases s l d i with⟨rfl,rfl⟩|⟨g,i⟩
  .simp only [if_true];intro C;have:=h.rlt r R y _ C;omega
  .simp only [g,if_false];exact h.lro l d r R i y
theorem Mem.stLoc (h:Mem w0 S0 st E w)(Y:IdsM st U){l:Nat}{v cs':List At}(z:zo st.lo l=some v){vals':Array Value}{e':TypeId}(S:w1.os=w.os)(T:w1.tape=w.tape)(H:w1.output=w.output)(I:w1.heap.size=w.heap.size)(i:∀x,x≠E.β l->w1.heap[x]?=w.heap[x]?)(G:w1.heap[E.β l]?=some (.cells vals' e' (0,0)))(J:vals'.size=cs'.length)(C:∀(j:Nat) (c:At) (u:Value),cs'[j]?=some c->vals'[j]?=some u->u.oneCell'=true/\VA w st E c u)(P:∀a∈cs',∀m∈a.ids,U m) :
 Mem w0 S0 {st with lo:=(l,cs')::st.lo} E w1/\Trans st E w {st with lo:=(l,cs')::st.lo} E w1 U:=by
 have D:∀r R,st.root r=some R->∀x,E.φ r x->w1.heap[x]?=w.heap[x]?:=λr R s x V=>i x (λg=>h.lro l v r R z s (g ▸ V));have q:∀k d,zo ((l,cs')::st.lo) k=some d->(k=l/\d=cs')\/(k≠l/\zo st.lo k=some d):=by intro k d f;simp only[zo]at f;split at f;{rename_i g;simp only[qL]at g;cases f;exact .inl ⟨g.symm,rfl⟩};{rename_i g;simp only[qL]at g;exact .inr ⟨λh=>g h.symm,f⟩}
 have O:Trans st E w {st with lo:=(l,cs')::st.lo} E w1 U:=by refine⟨λr Z L B=>⟨L,B,rfl,λp u hp=>?_⟩,λk Z d M=>?_,rfl⟩;{have s:st.root r=some L:=B;rw[zc6 p (h.rep r L s)<|D r L s];exact hp};{rcases q k d M with⟨rfl,_⟩|⟨_,N⟩;{exact⟨⟨v,z⟩,rfl⟩};{exact⟨⟨d,N⟩,rfl⟩}}
 obtain⟨t,X,e,a0,a1,a2⟩:=h.loc l v z;refine⟨⟨S.trans h.os,T.trans h.tape,H.trans h.output,by rw[I];exact h.size,λb hb W=>?_,λr R s=>(h.rep r R s).frame (D r R s),
  λr R s x V=>by rw[I];exact h.rlt r R s x V,h.mine,h.frz,h.apart,?_,?_,?_,h.epo,h.κ⟩,O⟩
 .refine(i b λg=>?_).trans (h.keep b hb W);subst g;rcases t with t|t
  .exact W t
  .omega
 .intro k d f;rcases q k d f with⟨rfl,rfl⟩|⟨A,f⟩
  .exact⟨t,vals',e',G,J,λj c u y K=>⟨(C j c u y K).1,VA.tr O (λn Q=>P c (qJ y) n Q) (C j c u y K).2⟩⟩
  .obtain⟨M,vals2,e2,N,h3,h4⟩:=h.loc k d f;refine⟨M,vals2,e2,(i _ λg=>A (h.linj k l d v f z g)).trans N,h3,λj c u y K=>⟨(h4 j c u y K).1,VA.tr O (λn Q=>(Y.lo k d f).2 c (qJ y) n Q) (h4 j c u y K).2⟩⟩
 .intro k k' d cs2 f hk' g;rcases q k d f with⟨rfl,rfl⟩|⟨A,F⟩
  .rcases q k' cs2 hk' with⟨rfl,rfl⟩|⟨hne',hk2'⟩
   .rfl
   .exact h.linj k k' v cs2 z hk2' g
  .rcases q k' cs2 hk' with⟨rfl,rfl⟩|⟨hne',hk2'⟩
   .exact h.linj k k' d v F z g
   .exact h.linj k k' d cs2 F hk2' g
 .intro k d r R f s;rcases q k d f with⟨rfl,rfl⟩|⟨A,f⟩
  .exact h.lro k v r R z s
  .exact h.lro k d r R f s
theorem Mem.mut (h:Mem w0 S0 st E w)(hI:IdsM st U){r:Nat}{R:Root}(z:st.root r=some R)(M:R.own=true){m:List R.t.den}(Y:w1.os=w.os)(Z:w1.tape=w.tape)(G:w1.output=w.output)(I:w1.heap.size=w.heap.size)(i:∀x,¬ E.φ r x->w1.heap[x]?=w.heap[x]?)(H:Rep true w1 (E.ρ r) (.s R.t m) (E.φ r))(F:∀p u,zba w R.t (E.ρ r) p=some u->zba w1 R.t (E.ρ r) p=some u) :
 Mem w0 S0 {st with ro:=(r,{R with l:=m})::st.ro,ep:=st.ep+1} E w1/\Trans st E w {st with ro:=(r,{R with l:=m})::st.ro,ep:=st.ep+1} E w1 U:=by
 obtain⟨C,D⟩:=h.mine r R z M;have d:∀q Q,({st with ro:=(r,{R with l:=m})::st.ro,ep:=st.ep+1}:St).root q=some Q->
  (q=r/\Q={R with l:=m})\/(q≠r/\st.root q=some Q/\Q.ep=none):=by
  intro q Q a;obtain⟨k,v⟩:=zbu a;simp only[zo]at k;split at k
  .rename_i he;simp only[qL]at he;cases k;exact .inl ⟨he.symm,rfl⟩
  .rename_i he;simp only[qL]at he;refine .inr ⟨λh=>he h.symm,?_⟩;rcases v with v|v
   .exact⟨zhf k<|.inl v,v⟩
   .have:=h.epo q Q _ k v;simp only at this;omega
 have y:∀q Q,q≠r->st.root q=some Q->Q.ep=none->∀x,E.φ q x->w1.heap[x]?=w.heap[x]? :=
  λq Q f a V x A=>i x (λa0=>h.apart r R q Q z M a V (λe=>f e.symm) x a0 A)
 have hT:Trans st E w {st with ro:=(r,{R with l:=m})::st.ro,ep:=st.ep+1} E w1 U:=by refine⟨λq hU Q V=>?_,λl hU N k=>⟨⟨N,k⟩,rfl⟩,rfl⟩;rcases d q Q V with⟨rfl,rfl⟩|⟨f,a,g⟩;{exact⟨R,z,rfl,F⟩};{refine⟨Q,a,rfl,λp u hp=>?_⟩;rw[zc6 p (h.rep q Q a)<|y q Q f a g];exact hp}
 refine⟨⟨Y.trans h.os,Z.trans h.tape,G.trans h.output,by rw[I];exact h.size,?_,?_,?_,?_,?_,?_,?_,h.linj,?_,?_,h.κ⟩,hT⟩
 .intro b hb hS;refine(i b λA=>?_).trans (h.keep b hb hS);rcases D b A with k|k
  .exact hS k
  .omega
 .intro q Q a;rcases d q Q a with⟨rfl,rfl⟩|⟨f,a,g⟩
  .simp only [M];exact H
  .exact(h.rep q Q a).frame (y q Q f a g)
 .intro q Q a x A;rw[I];rcases d q Q a with⟨rfl,rfl⟩|⟨f,a,g⟩
  .exact h.rlt q R z x A
  .exact h.rlt q Q a x A
 .intro q Q a hoq;rcases d q Q a with⟨rfl,rfl⟩|⟨f,a,g⟩
  .exact⟨C,D⟩
  .exact h.mine q Q a hoq
 .intro hz q Q a hoq he hf;rcases d q Q a with⟨rfl,rfl⟩|⟨f,a,g⟩
  .exact D
  .exact h.frz hz q Q a hoq he hf
 .intro q Q q' Q' a hoq B he f x A;have k:∃K,st.root q=some K/\K.own=true:=by rcases d q Q a with⟨rfl,rfl⟩|⟨_,a,_⟩;{exact⟨R,z,M⟩};{exact⟨Q,a,hoq⟩}
  have v:∃L,st.root q'=some L/\L.ep=none:=by rcases d q' Q' B with⟨rfl,rfl⟩|⟨_,B,W⟩;{exact⟨R,z,C⟩};{exact⟨Q',B,W⟩}
  obtain⟨K,O,P⟩:=k;obtain⟨L,S,T⟩:=v;exact h.apart q K q' L O P S T f x A
 .intro l cs hl;obtain⟨k,J,e,v,h3,h4⟩:=h.loc l cs hl;exact⟨k,J,e,(i _<|h.lro l cs r R hl z).trans v,h3,λj c u X hu=>⟨(h4 j c u X hu).1,VA.tr hT (λn hn=>(hI.lo l cs hl).2 c (qJ X) n hn) (h4 j c u X hu).2⟩⟩
 .intro l cs q Q hl a;rcases d q Q a with⟨rfl,rfl⟩|⟨f,a,g⟩
  .exact h.lro l cs q R hl z
  .exact h.lro l cs q Q hl a
 .intro q Q e a he;simp only[zo]at a;split at a
  .cases a;simp only[C]at he;cases he
  .exact uU (h.epo q Q e a he)
theorem zml {st:St}:∀(a:List Nat) (q:Nat) (Q:Root),zo (moved st a) q=some Q->q∈a/\∃R,zo st.ro q=some R/\Q={R with own:=false,ep:=some (st.ep+1)}:=by intro a;induction a with|nil=>intro q Q h;cases h|cons k a e=>intro q Q h;simp only[moved]at h;split at h;{rename_i R f;simp only[zo]at h;split at h;{rename_i d;simp only[qL]at d;subst d;cases h;exact⟨by simp,R,f,rfl⟩};{obtain⟨b,c⟩:=e q Q h;exact⟨by simp[b],c⟩}};{obtain⟨b,c⟩:=e q Q h;exact⟨by simp[b],c⟩}
theorem zLv {st:St}:∀(b:List Nat) (q:Nat),zo (moved st b) q=none->q∈b->zo st.ro q=none:=by
 intro b
 induction b with
 |nil=>intro q _ h;cases h
 |cons k b f=>intro q h e;simp only[moved]at h;split at h;{rename_i R c;simp only[zo]at h;split at h;{cases h};{rename_i d;simp only[qL]at d;rcases qG.1 e with a|a;{exact absurd a.symm d};{exact f q h a}}};{rename_i c;rcases qG.1 e with a|a;{subst a;exact c};{exact f q h a}}
theorem Mem.merge (h:Mem w0 S0 st E w)(hI:IdsM st U){id:Nat}(Z:¬ U id){D:List Nat}{t:Ty}{m:List t.den}{v:Value}{O:zY}(H:∀k∈D,∃R,st.root k=some R/\R.own=true)(a6:w1.os=w.os)(a7:w1.tape=w.tape)(a1:w1.output=w.output)(P:w.heap.size<=w1.heap.size)(G:∀x,x<w.heap.size->(∀k∈D,¬ E.φ k x)->w1.heap[x]?=w.heap[x]?)(N:∀x,O x->(∃k∈D,E.φ k x)\/(w.heap.size<=x/\x<w1.heap.size))(a2:Rep true w1 v (.s t m) O)(T:∀k∈D,∀R,st.root k=some R->Rep false w1 (E.ρ k) (.s R.t R.l) (E.φ k)/\∀p u,zba w R.t (E.ρ k) p=some u->zba w1 R.t (E.ρ k) p=some u) :
 Mem w0 S0 {st with ro:=(id,zc4 t m)::moved st D++st.ro,ep:=st.ep+1} {E with ρ:=λn=>if n=id then v else E.ρ n,φ:=λn=>if n=id then O else E.φ n} w1/\
  Trans st E w {st with ro:=(id,zc4 t m)::moved st D++st.ro,ep:=st.ep+1} {E with ρ:=λn=>if n=id then v else E.ρ n,φ:=λn=>if n=id then O else E.φ n} w1 U:=by
 have f:∀q Q,({st with ro:=(id,zc4 t m)::moved st D++st.ro,ep:=st.ep+1}:St).root q=some Q->
  (q=id/\Q=zc4 t m)\/(q≠id/\q∈D/\∃R,st.root q=some R/\R.own=true/\Q={R with own:=false,ep:=some (st.ep+1)})\/(q≠id/\q∉D/\st.root q=some Q/\Q.ep=none):=by
  intro q Q z;obtain⟨B,L⟩:=zbu z;simp only[j6,zo]at B;split at B
  .rename_i he;simp only[qL]at he;cases B;exact .inl ⟨he.symm,rfl⟩
  .rename_i he;simp only[qL]at he;have a:q≠id:=λh=>he h.symm;rw[zbM]at B;split at B
   .rename_i Q' hQ';cases B;obtain⟨hm,R,y,rfl⟩:=zml D q _ hQ';obtain⟨R2,X,Y⟩:=H q hm;have:=(zbu X).1;rw[y] at this;cases this;exact .inr (.inl ⟨a,hm,R,X,Y,rfl⟩)
   .rename_i hnone;have r:q∉D:=λhm=>by have:=zLv D q hnone hm;rw[this]at B;cases B
    refine .inr (.inr ⟨a,r,?_⟩);rcases L with L|L
    .exact⟨zhf B<|.inl L,L⟩
    .have:=h.epo q Q _ B L;simp only at this;omega
 have V:∀q Q,q∉D->st.root q=some Q->Q.ep=none->∀x,E.φ q x->w1.heap[x]?=w.heap[x]?:=by intro q Q r z hQ x d;refine G x (h.rlt q Q z x d) (λk i a8=>?_);obtain⟨R,y,F⟩:=H k i;exact h.apart k R q Q y F z hQ (λe=>r (e ▸ i)) x a8 d
 have a9:∀q R,st.root q=some R->q≠id:=λq R z e=>Z (e ▸ hI.ro q R (zbu z).1);have hT:Trans st E w {st with ro:=(id,zc4 t m)::moved st D++st.ro,ep:=st.ep+1} {E with ρ:=λn=>if n=id then v else E.ρ n,φ:=λn=>if n=id then O else E.φ n} w1 U:=by refine⟨λq hU Q hQ=>?_,λl hU a3 B=>⟨⟨a3,B⟩,rfl⟩,rfl⟩;rcases f q Q hQ with⟨rfl,rfl⟩|⟨a,i,R,y,_,rfl⟩|⟨a,r,g,A⟩;{exact absurd hU Z};{exact⟨R,y,rfl,by simp only[a,if_false];exact(T q i R y).2⟩};{refine⟨Q,g,rfl,λp u hp=>?_⟩;simp only[a,if_false];rw[zc6 p (h.rep q Q g)<|V q Q r g A];exact hp}
 have I:∀k∈D,∀x,E.φ k x->(S0 x\/w0.heap.size<=x)/\x<w.heap.size:=by intro k i x d;obtain⟨R,y,F⟩:=H k i;exact⟨(h.mine k R y F).2 x d,h.rlt k R y x d⟩
 refine⟨⟨a6.trans h.os,a7.trans h.tape,a1.trans h.output,qT h.size P,?_,?_,?_,?_,?_,?_,?_,h.linj,?_,?_,h.κ⟩,hT⟩
 .intro b hb hS;refine(G b (jC hb h.size) λk i d=>?_).trans (h.keep b hb hS);rcases (I k i b d).1 with B|B
  .exact hS B
  .omega
 .intro q Q z;rcases f q Q z with⟨rfl,rfl⟩|⟨a,i,R,y,_,rfl⟩|⟨a,r,g,A⟩
  .simp only [zc4,if_true];exact a2
  .simp only [a,if_false];exact(T q i R y).1
  .simp only [a,if_false];exact(h.rep q Q g).frame (V q Q r g A)
 .intro q Q z x d;rcases f q Q z with⟨rfl,rfl⟩|⟨a,i,R,y,_,rfl⟩|⟨a,r,g,A⟩
  .simp only [if_true]at d;rcases N x d with⟨k,i,d⟩|d
   .exact jC (I k i x d).2 P
   .exact d.2
  .simp only [a,if_false]at d;exact jC (h.rlt q R y x d) P
  .simp only [a,if_false]at d;exact jC (h.rlt q Q g x d) P
 .intro q Q z hoq;rcases f q Q z with⟨rfl,rfl⟩|⟨a,i,R,y,_,rfl⟩|⟨a,r,g,A⟩
  .refine⟨rfl,λx d=>?_⟩;simp only[if_true]at d;rcases N x d with⟨k,i,d⟩|d
   .exact(I k i x d).1
   .exact .inr (qT h.size d.1)
  .cases hoq
  .simp only [a,if_false];exact h.mine q Q g hoq
 .intro hz q Q z hoq he hf;rcases f q Q z with⟨rfl,rfl⟩|⟨a,i,R,y,_,rfl⟩|⟨a,r,g,A⟩
  .cases hoq
  .cases he
  .simp only [a,if_false];exact h.frz hz q Q g hoq he hf
 .intro q Q q' Q' z hoq hq' he hnn x d;rcases f q Q z with⟨rfl,rfl⟩|⟨a,i,R,y,_,rfl⟩|⟨a,r,g,A⟩
  .rcases f q' Q' hq' with⟨rfl,rfl⟩|⟨C,a5,R',a4,_,rfl⟩|⟨C,S,J,M⟩
   .exact absurd rfl hnn
   .cases he
   .simp only [if_true]at d;simp only[C,if_false];rcases N x d with⟨k,i,d⟩|d
    .obtain⟨R,y,F⟩:=H k i;exact h.apart k R q' Q' y F J M (λe=>S (e ▸ i)) x d
    .intro K;have:=h.rlt q' Q' J x K;omega
  .cases hoq
  .simp only [a,if_false]at d;rcases f q' Q' hq' with⟨rfl,rfl⟩|⟨C,a5,R',a4,_,rfl⟩|⟨C,S,J,M⟩
   .simp only [if_true];intro K;rcases N x K with⟨k,i,K⟩|K
    .obtain⟨R,y,F⟩:=H k i;exact h.apart k R q Q y F g A (λe=>r (e ▸ i)) x K d
    .have:=h.rlt q Q g x d;omega
   .cases he
   .simp only [C,if_false];exact h.apart q Q q' Q' g hoq J M hnn x d
 .intro l cs hl;obtain⟨B,W,e,L,h3,h4⟩:=h.loc l cs hl;have a0:E.β l<w.heap.size:=(qO.1 L).1;refine⟨B,W,e,(G _ a0 λk i d=>?_).trans L,h3,λj c u hc hu=>⟨(h4 j c u hc hu).1,VA.tr hT (λn hn=>(hI.lo l cs hl).2 c (qJ hc) n hn) (h4 j c u hc hu).2⟩⟩;obtain⟨R,y,_⟩:=H k i;exact h.lro l cs k R hl y d
 .intro l cs q Q hl z;obtain⟨B,W,e,L,h3,h4⟩:=h.loc l cs hl;have a0:E.β l<w.heap.size:=(qO.1 L).1;rcases f q Q z with⟨rfl,rfl⟩|⟨a,i,R,y,_,rfl⟩|⟨a,r,g,A⟩
  .simp only [if_true];intro d;rcases N _ d with⟨k,i,d⟩|d
   .obtain⟨R,y,_⟩:=H k i;exact h.lro l cs k R hl y d
   .omega
  .simp only [a,if_false];exact h.lro l cs q R hl y
  .simp only [a,if_false];exact h.lro l cs q Q hl g
 .intro q Q e z he;simp only[j6,zo]at z;split at z
  .cases z;cases he
  .rw [zbM]at z;split at z
   .rename_i Q' hQ';cases z;obtain⟨_,R,_,rfl⟩:=zml D q _ hQ';simp only[qC]at he;subst he;exact qW _
   .exact uU (h.epo q Q e z he)
theorem zuj {st:St}:∀(a:List Nat) (q:Nat) (Q:Root),zo (zge st a) q=some Q->q∈a/\∃R,zo st.ro q=some R/\Q={R with own:=false}:=by intro a;induction a with|nil=>intro q Q h;cases h|cons k a e=>intro q Q h;simp only[zge]at h;split at h;{rename_i R f;simp only[zo]at h;split at h;{rename_i d;simp only[qL]at d;subst d;cases h;exact⟨by simp,R,f,rfl⟩};{obtain⟨b,c⟩:=e q Q h;exact⟨by simp[b],c⟩}};{obtain⟨b,c⟩:=e q Q h;exact⟨by simp[b],c⟩}
theorem zTp {st:St}:∀(b:List Nat) (q:Nat),zo (zge st b) q=none->q∈b->zo st.ro q=none:=by
 intro b
 induction b with
 |nil=>intro q _ h;cases h
 |cons k b f=>intro q h e;simp only[zge]at h;split at h;{rename_i R c;simp only[zo]at h;split at h;{cases h};{rename_i d;simp only[qL]at d;rcases qG.1 e with a|a;{exact absurd a.symm d};{exact f q h a}}};{rename_i c;rcases qG.1 e with a|a;{subst a;exact c};{exact f q h a}}
theorem Mem.freeze (h:Mem w0 S0 st E w)(hI:IdsM st U){id:Nat}(W:¬ U id){G:List Nat}{t:Ty}{m:List t.den}{v:Value}{I:zY}(J:∀k∈G,∃R,st.root k=some R/\R.own=true)(a2:w1.os=w.os)(a3:w1.tape=w.tape)(Y:w1.output=w.output)(K:w.heap.size<=w1.heap.size)(A:∀x,x<w.heap.size->w1.heap[x]?=w.heap[x]?)(M:∀x,I x->(∃k∈G,E.φ k x)\/(w.heap.size<=x/\x<w1.heap.size))(a0:Rep false w1 v (.s t m) I) :
 Mem w0 S0 {st with ro:=(id,⟨t,m,false,none⟩)::zge st G++st.ro} {E with ρ:=λn=>if n=id then v else E.ρ n,φ:=λn=>if n=id then I else E.φ n} w1/\
  Trans st E w {st with ro:=(id,⟨t,m,false,none⟩)::zge st G++st.ro} {E with ρ:=λn=>if n=id then v else E.ρ n,φ:=λn=>if n=id then I else E.φ n} w1 U:=by
 have g:∀q Q,({st with ro:=(id,⟨t,m,false,none⟩)::zge st G++st.ro}:St).root q=some Q->
  (q=id/\Q=⟨t,m,false,none⟩)\/(q≠id/\q∈G/\∃R,st.root q=some R/\R.own=true/\Q={R with own:=false})\/(q≠id/\q∉G/\st.root q=some Q):=by
  intro q Q i;obtain⟨C,O⟩:=zbu i;simp only[j6,zo]at C;split at C
  .rename_i he;simp only[qL]at he;cases C;exact .inl ⟨he.symm,rfl⟩
  .rename_i he;simp only[qL]at he;have a:q≠id:=λh=>he h.symm;rw[zbM]at C;split at C
   .rename_i Q' hQ';cases C;obtain⟨hm,R,r,rfl⟩:=zuj G q _ hQ';obtain⟨R2,S,T⟩:=J q hm;have:=(zbu S).1;rw[r] at this;cases this;exact .inr (.inl ⟨a,hm,R,S,T,rfl⟩)
   .rename_i hnone;have y:q∉G:=λhm=>by have:=zTp G q hnone hm;rw[this]at C;cases C
    exact .inr (.inr ⟨a,y,zhf C O⟩)
 have D:∀q Q,st.root q=some Q->∀x,E.φ q x->w1.heap[x]?=w.heap[x]?:=λq Q i x f=>A x (h.rlt q Q i x f);have a4:∀q R,st.root q=some R->q≠id:=λq R i e=>W (e ▸ hI.ro q R (zbu i).1);have hT:Trans st E w {st with ro:=(id,⟨t,m,false,none⟩)::zge st G++st.ro} {E with ρ:=λn=>if n=id then v else E.ρ n,φ:=λn=>if n=id then I else E.φ n} w1 U:=by refine⟨λq hU Q hQ=>?_,λl hU a1 C=>⟨⟨a1,C⟩,rfl⟩,rfl⟩;rcases g q Q hQ with⟨rfl,rfl⟩|⟨a,z,R,r,_,rfl⟩|⟨a,y,d⟩;{exact absurd hU W};{refine⟨R,r,rfl,λp u hp=>?_⟩;simp only[a,if_false];rw[zc6 p (h.rep q R r)<|D q R r];exact hp};{refine⟨Q,d,rfl,λp u hp=>?_⟩;simp only[a,if_false];rw[zc6 p (h.rep q Q d)<|D q Q d];exact hp}
 have B:∀k∈G,∀x,E.φ k x->(S0 x\/w0.heap.size<=x)/\x<w.heap.size:=by intro k z x f;obtain⟨R,r,F⟩:=J k z;exact⟨(h.mine k R r F).2 x f,h.rlt k R r x f⟩
 refine⟨⟨a2.trans h.os,a3.trans h.tape,Y.trans h.output,qT h.size K,λb hb hS=>(A b<|jC hb h.size).trans (h.keep b hb hS),?_,?_,?_,?_,?_,?_,h.linj,?_,?_,h.κ⟩,hT⟩
 .intro q Q i;rcases g q Q i with⟨rfl,rfl⟩|⟨a,z,R,r,F,rfl⟩|⟨a,y,d⟩
  .simp only [if_true];exact a0
  .simp only [a,if_false];have:=(h.rep q R r).frame (D q R r);rw[F] at this;exact this.ro
  .simp only [a,if_false];exact(h.rep q Q d).frame (D q Q d)
 .intro q Q i x f;rcases g q Q i with⟨rfl,rfl⟩|⟨a,z,R,r,_,rfl⟩|⟨a,y,d⟩
  .simp only [if_true]at f;rcases M x f with⟨k,z,f⟩|f
   .exact jC (B k z x f).2 K
   .exact f.2
  .simp only [a,if_false]at f;exact jC (h.rlt q R r x f) K
  .simp only [a,if_false]at f;exact jC (h.rlt q Q d x f) K
 .intro q Q i hoq;rcases g q Q i with⟨rfl,rfl⟩|⟨a,z,R,r,_,rfl⟩|⟨a,y,d⟩
  .cases hoq
  .cases hoq
  .simp only [a,if_false];exact h.mine q Q d hoq
 .intro hz q Q i hoq he hf x f;rcases g q Q i with⟨rfl,rfl⟩|⟨a,z,R,r,F,rfl⟩|⟨a,y,d⟩
  .simp only [if_true]at f;rcases M x f with⟨k,z,f⟩|f
   .exact(B k z x f).1
   .exact .inr (qT h.size f.1)
  .simp only [a,if_false]at f;exact(B q z x f).1
  .simp only [a,if_false]at f;exact h.frz hz q Q d hoq he hf x f
 .intro q Q q' Q' i hoq hq' he hnn x f;rcases g q Q i with⟨rfl,rfl⟩|⟨a,z,R,r,_,rfl⟩|⟨a,y,d⟩
  .cases hoq
  .cases hoq
  .simp only [a,if_false]at f;rcases g q' Q' hq' with⟨rfl,rfl⟩|⟨H,a6,R',P,V,rfl⟩|⟨H,a5,Z⟩
   .simp only [if_true];intro L;rcases M x L with⟨k,z,L⟩|L
    .obtain⟨R,r,F⟩:=J k z;exact h.apart k R q Q r F d (h.mine q Q d hoq).1 (λe=>y (e ▸ z)) x L f
    .have:=h.rlt q Q d x f;omega
   .simp only [H,if_false];exact h.apart q Q q' R' d hoq P (h.mine q' R' P V).1 hnn x f
   .simp only [H,if_false];exact h.apart q Q q' Q' d hoq Z he hnn x f
 .intro l cs hl;obtain⟨C,N,e,O,h3,h4⟩:=h.loc l cs hl;have X:E.β l<w.heap.size:=(qO.1 O).1;exact⟨C,N,e,(A _ X).trans O,h3,λj c u hc hu=>⟨(h4 j c u hc hu).1,VA.tr hT (λn hn=>(hI.lo l cs hl).2 c (qJ hc) n hn) (h4 j c u hc hu).2⟩⟩
 .intro l cs q Q hl i;obtain⟨C,N,e,O,h3,h4⟩:=h.loc l cs hl;have X:E.β l<w.heap.size:=(qO.1 O).1;rcases g q Q i with⟨rfl,rfl⟩|⟨a,z,R,r,_,rfl⟩|⟨a,y,d⟩
  .simp only [if_true];intro f;rcases M _ f with⟨k,z,f⟩|f
   .obtain⟨R,r,_⟩:=J k z;exact h.lro l cs k R hl r f
   .omega
  .simp only [a,if_false];exact h.lro l cs q R hl r
  .simp only [a,if_false];exact h.lro l cs q Q hl d
 .intro q Q e i he;simp only[j6,zo]at i;split at i
  .cases i;cases he
  .rw [zbM]at i;split at i
   .rename_i Q' hQ';cases i;obtain⟨_,R,r,rfl⟩:=zuj G q _ hQ';exact h.epo q R e r he
   .exact h.epo q Q e i he
theorem Mem.view (h:Mem w0 S0 st E w)(M:IdsM st U){id:Nat}(F:¬ U id){r:Nat}{R:Root}(k:st.root r=some R){t:Ty}{m:List t.den}{v:Value}(z:Rep false w v (.s t m) (E.φ r))(G:t.flat=false->R.t.flat=false) :
 Mem w0 S0 {st with ro:=(id,zff st R t m)::st.ro} {E with ρ:=λn=>if n=id then v else E.ρ n,φ:=λn=>if n=id then E.φ r else E.φ n} w/\
  Trans st E w {st with ro:=(id,zff st R t m)::st.ro} {E with ρ:=λn=>if n=id then v else E.ρ n,φ:=λn=>if n=id then E.φ r else E.φ n} w U:=by
 have a:∀q Q,({st with ro:=(id,zff st R t m)::st.ro}:St).root q=some Q->(q=id/\Q=zff st R t m)\/(q≠id/\st.root q=some Q):=by intro q Q g;obtain⟨i,C⟩:=zbu g;simp only[zo]at i;split at i;{rename_i f;simp only[qL]at f;cases i;exact .inl ⟨f.symm,rfl⟩};{rename_i f;simp only[qL]at f;exact .inr ⟨λh=>f h.symm,zhf i C⟩}
 have P:=(zbu k).2;have I:Trans st E w {st with ro:=(id,zff st R t m)::st.ro} {E with ρ:=λn=>if n=id then v else E.ρ n,φ:=λn=>if n=id then E.φ r else E.φ n} w U:=by refine⟨λq J Q N=>?_,λl J B i=>⟨⟨B,i⟩,rfl⟩,rfl⟩;rcases a q Q N with⟨rfl,rfl⟩|⟨d,g⟩;{exact absurd J F};{exact⟨Q,g,rfl,by simp only[d,if_false];exact λ_ _ h=>h⟩}
 refine⟨⟨h.os,h.tape,h.output,h.size,h.keep,?_,?_,?_,?_,?_,?_,h.linj,?_,?_,h.κ⟩,I⟩
 .intro q Q g;rcases a q Q g with⟨rfl,rfl⟩|⟨d,b⟩
  .simp only [zff,if_true];exact z
  .simp only [d,if_false];exact h.rep q Q b
 .intro q Q g x hx;rcases a q Q g with⟨rfl,rfl⟩|⟨d,b⟩
  .simp only [if_true]at hx;exact h.rlt r R k x hx
  .simp only [d,if_false]at hx;exact h.rlt q Q b x hx
 .intro q Q g hoq;rcases a q Q g with⟨rfl,rfl⟩|⟨d,b⟩
  .cases hoq
  .simp only [d,if_false];exact h.mine q Q b hoq
 .intro hz q Q g hoq f hf;rcases a q Q g with⟨rfl,rfl⟩|⟨d,b⟩
  .simp only [zff]at f;split at f
   .cases f
   .rename_i hown;simp only[if_true];exact h.frz hz r R k (by simpa using hown) f (G hf)
  .simp only [d,if_false];exact h.frz hz q Q b hoq f hf
 .intro q Q q' Q' g hoq hq' f hnn x hx;rcases a q Q g with⟨rfl,rfl⟩|⟨d,b⟩
  .cases hoq
  .simp only [d,if_false]at hx;rcases a q' Q' hq' with⟨rfl,rfl⟩|⟨p,y⟩
   .simp only [if_true];simp only[zff]at f;split at f
    .cases f
    .rename_i hown;refine h.apart q Q r R b hoq k f (λe=>?_) x hx;subst e;rw[k]at b;cases b;exact hown hoq
   .simp only [p,if_false];exact h.apart q Q q' Q' b hoq y f hnn x hx
 .intro l cs hl;obtain⟨i,A,e,C,L,H⟩:=h.loc l cs hl;exact⟨i,A,e,C,L,λj c u D K=>⟨(H j c u D K).1,VA.tr I (λn O=>(M.lo l cs hl).2 c (qJ D) n O) (H j c u D K).2⟩⟩
 .intro l cs q Q hl g;rcases a q Q g with⟨rfl,rfl⟩|⟨d,b⟩
  .simp only [if_true];exact h.lro l cs r R hl k
  .simp only [d,if_false];exact h.lro l cs q Q hl b
 .intro q Q e g f;simp only[zo]at g;split at g
  .cases g;simp only[zff]at f;split at f
   .cases f;exact qW _
   .exact h.epo r R e (zbu k).1 f
  .exact h.epo q Q e g f
end
def zeroV:CTy->Value
 |.i k=>.int k 0
 |.b=>.bool false
 |.s _=>.slice none 0 0
def zTK:TypeDesc->Bool
 |.struct _ | .array _ _=>true
 |_=>false
structure TypeOk (P:Program) (T:TypeId) (agg:Bool) (tys:List CTy):Prop where
 und:∃d,P.underlying T=some d/\zTK d=agg/\(∀k,tys=[.i k]->agg=false->d = .int k)/\(tys=[.b]->agg=false->d = .bool)
 info:∃i z,P.info? T=some i/\i.size=tys.length/\i.zero=some z/\z.cells.toList=tys.map zeroV
 one:agg=false->tys.length=1
structure ElemOk (P:Program) (T e:TypeId) (t:Ty):Prop where
 und:P.underlying T=some (.slice e)
 info:∃i z,P.info? e=some i/\i.size=t.width/\i.zero=some z/\z.cells.toList=t.shape.map zeroV/\i.bytes<=1024
structure FieldOk (P:Program) (T:TypeId) (f off n:Nat):Prop where
 ok:∃(fs:Array Field) (x:Field) (i:TypeInfo),P.underlying T=some (.struct fs)/\fs[f]?=some x/\x.offset=off/\P.info? x.type=some i/\i.size=n/\n≠0
def VS:At->Value->Prop
 |.i k n,v=>v = .int k n
 |.b x,v=>v = .bool x
 |_,_=>True
def VSs (l:List At)(b:Array Value):Prop:=b.size=l.length/\∀(j:Nat) (a:At) (u:Value),l[j]?=some a->b[j]?=some u->VS a u
structure CfgOk (C:Cfg):Prop where
 cty:∀T agg tys,C.cty T=some (agg,tys)->TypeOk C.P T agg tys
 sty:∀T t,C.sty T=some t->∃e,ElemOk C.P T e t
 fof:∀T f off n,C.fof T f=some (off,n)->FieldOk C.P T f off n
 str:∀T tys,C.cty T=some (true,tys)->∃(fs:Array Field) (places:List (Nat×Nat)),C.P.underlying T=some (.struct fs)/\fs.toList.mapM (fun f=>(C.P.info? f.type).map fun i=>(f.offset,i.size))=some places/\
  ∀f off n,C.fof T f=some (off,n)->places[f]?=some (off,n)
 eqt:∀T tys,C.eqt T=true->C.cty T=some (true,tys)->∀(l m:List At) (e:Bool) (xs ys:Array Value) (w:World) (x y:Operand) (op:BinOp),
  zcD zoD l=some tys->zcD zoD m=some tys->zvt l m=some e->VSs l xs->VSs m ys->
  (eqGuard op T x y (.agg xs) (.agg ys)).run C.P w = .ok () w/\(Op.equal T (.agg xs) (.agg ys)).run C.P w = .ok e w
section
variable {P:Program} {w:World}
theorem zv8 {T:TypeId}{a:Bool}{b:List CTy}(h:TypeOk P T a b):(isAgg T).run P w = .ok a w:=by obtain⟨d,e,c,_,_⟩:=h.und;subst c;unfold isAgg;rw[Sem.run_bind,run_underlying e w];cases d<;>simp [zTK]
theorem zzR {T:TypeId}{b:Bool}{a:List CTy}(h:TypeOk P T b a):(sizeOf T).run P w = .ok a.length w:=by obtain⟨i,z,c,d,_⟩:=h.info;simp[sizeOf,typeInfo,c,d]
theorem z5w {T:TypeId}{b:Bool}{a:List CTy}(h:TypeOk P T b a):∃z,(zeroValue T).run P w = .ok z w/\z.cells.toList=a.map zeroV:=by obtain⟨i,z,d,f,e,c⟩:=h.info;exact⟨z,by simp[zeroValue,typeInfo,d,e],c⟩
end
section
variable {C:Cfg} {w0 w:World} {S0:zY} {U:Nat->Prop} {st:St} {E:Env} {ts:Array Value} {sv:List (Array Value)}
def Mine (id:Nat)(n:Nat):Prop:=id<=n/\n<id+32
def Goes (C:Cfg)(w0:World)(S0:zY)(U:Nat->Prop)(st:St)(ts:Array Value)(sv:List (Array Value))(w:World)(o:Oper)(id:Nat)(a:St->St):Prop :=
 ∀(next:Act->World->Prop) (Q:Exit->Act->World->Prop),
  (∀c v b,Sim w0 S0 (λn=>U n\/Mine id n) (a st) c (({tmps:=ts,defers:=[]}:Act).put o.dst v).tmps sv b->next (({tmps:=ts,defers:=[]}:Act).put o.dst v) b)->
  o.wp C.P {tmps:=ts,defers:=[]} w next Q
theorem zJ3 {o:Oper}{id:Nat}{f:St->St}{v:Value}{a:World}{E':Env}(c:(execOp ({tmps:=ts,defers:=[]}:Act).eval o).run C.P w = .ok (.value v) a)(h:Sim w0 S0 (λn=>U n\/Mine id n) (f st) E' (({tmps:=ts,defers:=[]}:Act).put o.dst v).tmps sv a):Goes C w0 S0 U st ts sv w o id f:=by intro next Q b;unfold Oper.wp;rw[c,Oper.upon_value];exact b E' v a h
theorem zvJ {o:Oper}{id:Nat}{f:St->St}{w':World}{a:Env}(c:(execOp ({tmps:=ts,defers:=[]}:Act).eval o).run C.P w = .ok .skip w')(h:Sim w0 S0 (λn=>U n\/Mine id n) (f st) a (({tmps:=ts,defers:=[]}:Act).put o.dst undef).tmps sv w'):Goes C w0 S0 U st ts sv w o id f:=by intro next Q b;unfold Oper.wp;rw[c,Oper.upon_skip];exact b a undef w' h
theorem Sim.trans_self:Trans st E w st E w U:=⟨λ_ _ R h=>⟨R,h,rfl,λ_ _ h=>h⟩,λ_ _ a h=>⟨⟨a,h⟩,rfl⟩,rfl⟩
theorem zdg (b:Sim w0 S0 U st E ts sv w){o:Oper}{id:Nat}{c:MV}{v:Value}(j:(execOp ({tmps:=ts,defers:=[]}:Act).eval o).run C.P w = .ok (.value v) w)(k:VM w st E c v)(f:∀n∈c.ids,U n):Goes C w0 S0 U st ts sv w o id (λst=>st.apply o.dst {v:=c}):=by refine zJ3 j (E':=E) ?_;exact Sim.next b (st1:=st) b.mem Sim.trans_self rfl rfl (λn h=>.inl h) (λn R h=>.inl (b.ids.ro n R h)) (λn d h=>⟨.inl (b.ids.lo n d h).1,λa e m g=>.inl ((b.ids.lo n d h).2 a e m g)⟩) k (λn i=>.inl (f n i))
def ztc (C:Cfg)(U:Nat->Prop)(st:St)(E:Env)(ts:Array Value)(w:World)(o:Oper)(d:Dl):Prop :=
 ∃v,(execOp ({tmps:=ts,defers:=[]}:Act).eval o).run C.P w = .ok (.value v) w/\VM w st E d.v v/\(∀n∈d.v.ids,U n)/\d.lo=[]/\d.ro=[]/\d.bump=false
theorem zrl {o:Oper}{a:MV}{c:Bool}{v:Value}(d:(execOp ({tmps:=ts,defers:=[]}:Act).eval o).run C.P w = .ok (.value v) w)(e:VM w st E a v)(b:∀n∈a.ids,U n):ztc C U st E ts w o {c,v:=a} :=
 ⟨v,d,e,b,rfl,rfl,rfl⟩
theorem ztc.goes {o:Oper}{d:Dl}(h:ztc C U st E ts w o d)(f:Sim w0 S0 U st E ts sv w){id:Nat}:Goes C w0 S0 U st ts sv w o id (λst=>st.apply o.dst d):=by obtain⟨v,i,j,g,a,b,c⟩:=h;have e:(λst:St=>st.apply o.dst d)=λst=>st.apply o.dst {v:=d.v}:=(by funext st;simp only[St.apply,a,b,c]);rw[e];exact zdg f i j g
theorem zSY {v:Value}{a:At}(h:zJO v=some a):VA w st E a v/\a.ids=[]:=by cases v<;>simp [zJO]at h<;>subst h<;>exact⟨rfl,rfl⟩
theorem zcb (c:Sim w0 S0 U st E ts sv w){x:Operand}{mv:MV}(h:st.opnd x=some mv) :
 VM w st E mv (({tmps:=ts,defers:=[]}:Act).eval x)/\∀n∈mv.ids,U n:=by
 cases x with
 |tmp t=>have e:st.tm[t]?=some mv:=(by simp only[St.opnd]at h;split at h;{cases h};{exact h});have d:t<st.tm.length:=(qA.1 e).1;have i:ts[t]?=some (({tmps:=ts,defers:=[]}:Act).eval (.tmp t)):=(by have:t<ts.size:=(by rw[c.tm.1];exact d);simp[Act.eval,Array.getD,this]);exact⟨c.tm.2 t mv _ e i,λn b=>c.ids.tm mv (qJ e) n b⟩
 |const v=>simp only[St.opnd]at h;split at h;{rename_i a p;cases h;obtain⟨j,m⟩:=zSY (w:=w) (st:=st) (E:=E) p;refine⟨j,λn b=>?_⟩;simp[MV.ids,zbI,zV,m]at b};{cases h}
 |global g=>simp[St.opnd]at h
 |func f=>simp only[St.opnd,qC]at h;subst h;refine⟨⟨#[],rfl,rfl,λk l u q=>by simp at q⟩,λn b=>?_⟩;simp[MV.ids,zbI,zV,At.ids,zbo,zbv]at b
theorem zMH {x:Operand}{a:At}(h:st.at x=some a):st.opnd x=some (.v<|.at a):=by unfold St.at at h;split at h;{rename_i b c;cases h;exact c};{cases h}
theorem zbN (d:Sim w0 S0 U st E ts sv w){x:Operand}{a:At}(h:st.at x=some a) :
 VA w st E a (({tmps:=ts,defers:=[]}:Act).eval x)/\∀n∈a.ids,U n:=by
 obtain⟨b,c⟩:=zcb d (zMH h);exact⟨b,λn e=>c n (by simpa [MV.ids,zbI,zV] using e)⟩
theorem zdL {a:At}:(MV.v<|.at a).ids=a.ids:=by simp[MV.ids,zbI,zV]
theorem z2O (e:Sim w0 S0 U st E ts sv w){o:Oper}{x:Operand}{b:MV}(a:o.op = .move x\/o.op = .assign x)(h:st.opnd x=some b) :
 ztc C U st E ts w o {v:=b}:=by
 obtain⟨c,d⟩:=zcb e h;refine zrl ?_ c d;rcases a with a|a<;>simp [execOp,a]
theorem z3i (a:Sim w0 S0 U st E ts sv w){o:Oper}{id:Nat}{x:Operand}{b:MV}(c:o.op = .move x\/o.op = .assign x)(h:st.opnd x=some b) :
 Goes C w0 S0 U st ts sv w o id (λst=>st.apply o.dst {v:=b}):=(z2O a c h).goes a
theorem zbaD (e:Sim w0 S0 U st E ts sv w){o:Oper}{id:Nat}{c a b:Operand}{d:Dl}(l:o.op = .pick c a b)(h:delta C st o id=some d):Goes C w0 S0 U st ts sv w o id (λst=>st.apply o.dst d):=by simp only[delta,l]at h;split at h;{rename_i n x y j k q;cases h;have f:=(zbN e j).1;have i:=(zcb e k).1;have p:=(zcb e q).1;refine zdg e (v:=.bool (cond n x y)) ?_ rfl (by simp[MV.ids,zbI,zV,At.ids,zbo,zbv]);simp only[VA]at f;simp only[VM,VT,VA]at i p;cases n<;>simp [execOp,l,f,i,p,asBool]};{rename_i v j k m;cases h;have f:=(zbN e j).1;obtain⟨i,g⟩:=zcb e k;refine zdg e ?_ i g;simp only[VA]at f;simp[execOp,l,f,asBool]};{rename_i v j k m;cases h;have f:=(zbN e j).1;obtain⟨i,g⟩:=zcb e k;refine zdg e ?_ i g;simp only[VA]at f;simp[execOp,l,f,asBool]};{cases h}
theorem zLF (k:Sim w0 S0 U st E ts sv w){o:Oper}{id:Nat}{x:Operand}{d:Dl}(g:o.op = .nilCheck x)(h:delta C st o id=some d):ztc C U st E ts w o d:=by simp only[delta,g]at h;split at h;{rename_i l j c;cases h;obtain⟨b,e⟩:=zbN k c;obtain⟨a,f⟩:=b.1;refine zrl ?_ b (by rw[zdL];exact e);simp[execOp,g,f]};{rename_i r p i j c;cases h;obtain⟨b,e⟩:=zbN k c;obtain⟨a,f⟩:=b.1;refine zrl ?_ b (by rw[zdL];exact e);simp[execOp,g,f]};{cases h}
theorem z0F (a:Sim w0 S0 U st E ts sv w){o:Oper}{id:Nat}{x:Operand}{d:Dl}(b:o.op = .nilCheck x)(h:delta C st o id=some d):Goes C w0 S0 U st ts sv w o id (λst=>st.apply o.dst d):=(zLF (id:=id) a b h).goes a
theorem z3a {b:BinOp}{k:IntKind}{x y:Int}{c:Bool}{a:At}(f:zYa b=false)(h:zZH b k x y=some (c,a))(e:c=true)(T:TypeId)(p q:Operand) :
 ∃v,((do eqGuard b T p q (.int k x) (.int k y);binOp b T (.int k x) (.int k y)):Sem Value).run C.P w = .ok v w/\VA w st E a v/\a.ids=[]:=by
 have hg:(eqGuard b T p q (.int k x)<|.int k y).run C.P w = .ok () w:=by unfold eqGuard;split<;>rfl
 cases b<;>simp only [zZH,qC,jS,reduceCtorEq]at h<;>(obtain⟨d,rfl⟩:=h) <;>
  refine⟨_,?_,rfl,rfl⟩<;>rw [Sem.run_bind,hg]<;>simp only [Result.andThen_ok,binOp,ne_eq,not_true_eq_false,if_false,Op.intArith,Op.intBits,Op.intCmp,Sem.run_pure,zM,wsub,zk5,wand,wor,z5Z,zz7,ieq,ine,ilt,ile,igt,ige]
 case quo=>
  subst e;have:y≠0:=by simpa [ine] using d
  simp[Op.intDiv,this,zWi]
 case rem=>
  subst e;have:y≠0:=by simpa [ine] using d
  simp[Op.intDiv,this,zmY]
theorem zWA {b:BinOp}{T:TypeId}{p q:Operand}{k a:IntKind}{x y:Int}:(eqGuard b T p q (.int k x)<|.int a y).run C.P w = .ok () w:=by unfold eqGuard;split<;>rfl
theorem zTi {a:BinOp}{T:TypeId}{p q:Operand}{x y:Bool}:(eqGuard a T p q (.bool x)<|.bool y).run C.P w = .ok () w:=by unfold eqGuard;split<;>rfl
theorem zXa {b:BinOp}{k k':IntKind}{x y:Int}{c:Bool}{a:At}(h:shiftOp b k x y=some (c,a))(e:c=true)(T:TypeId)(p q:Operand) :
 ∃v,((do eqGuard b T p q (.int k x) (.int k' y);binOp b T (.int k x) (.int k' y)):Sem Value).run C.P w = .ok v w/\VA w st E a v/\a.ids=[]:=by
 cases b<;>simp only [shiftOp,qC,jS,reduceCtorEq]at h<;>(obtain⟨d,rfl⟩:=h) <;>
  refine⟨_,?_,rfl,rfl⟩<;>rw [Sem.run_bind,zWA]<;>subst e<;>simp only [ile,q0]at d <;>
  simp[binOp,Op.shift,show ¬ y<0 by omega,zlX,zkx]
theorem zXW {f:BinOp}{e:Bool}{d:Dl}(h:zCy f e=some d){x y:Value}{T:TypeId}(c:(Op.equal T x y).run C.P w = .ok e w)(g:binOp .eql T x y=(do pure (.bool<|<- Op.equal T x y)))(i:binOp .neq T x y=(do pure (.bool<|!(<- Op.equal T x y)))) :
 ∃a,d = .at (.b a)/\(binOp f T x y).run C.P w = .ok (.bool a) w:=by
 unfold zCy at h;split at h
 .cases h;refine⟨_,rfl,?_⟩;rw[g,Sem.run_bind,c];rfl
 .cases h;refine⟨_,rfl,?_⟩;rw[i,Sem.run_bind,c];rfl
 .cases h
theorem z9u (S:CfgOk C)(g:Sim w0 S0 U st E ts sv w){o:Oper}{id:Nat}{n:BinOp}{T Z:TypeId}{x y:Operand}{d:Dl}(W:o.op = .binOp n T x y Z)(h:delta C st o id=some d)(V:d.c=true):Goes C w0 S0 U st ts sv w o id (λst=>st.apply o.dst d):=by
 have i:∀{v:Value},((do eqGuard n T x y (({tmps:=ts,defers:=[]}:Act).eval x) (({tmps:=ts,defers:=[]}:Act).eval y);binOp n T (({tmps:=ts,defers:=[]}:Act).eval x) (({tmps:=ts,defers:=[]}:Act).eval y)):Sem Value).run C.P w = .ok v w->
  (execOp ({tmps:=ts,defers:=[]}:Act).eval o).run C.P w = .ok (.value v) w:=by
  intro v s;simp only[execOp,W];rw[Sem.run_bind,s];rfl
 simp only[delta,W]at h;split at h;{rename_i k a k' b B D;have z:=(zcb g B).1;have A:=(zcb g D).1;simp only[VM,VT,VA]at z A;split at h;{rename_i X;split at h;{rename_i c r q;cases h;obtain⟨v,s,t,K⟩:=zXa (C:=C) (w:=w) (st:=st) (E:=E) (k':=k') q V T x y;rw[<- z,<- A]at s;exact zdg g (i s) t (by rw[zdL,K];simp)};{cases h}};{rename_i X;split at h;{rename_i hk;subst hk;split at h;{rename_i c r q;cases h;obtain⟨v,s,t,K⟩:=z3a (C:=C) (w:=w) (st:=st) (E:=E) (by simpa using X) q V T x y;rw[<- z,<- A]at s;exact zdg g (i s) t (by rw[zdL,K];simp)};{cases h}};{cases h}}}
 .rename_i a b B D;have z:=(zcb g B).1;have A:=(zcb g D).1;simp only[VM,VT,VA]at z A;split at h
  .rename_i hT;obtain⟨dd,hd,_,_,hb⟩:=(S.cty T _ _ hT).und;have J:=hb rfl rfl;subst J;have p:(Op.equal T (.bool a)<|.bool b).run C.P w = .ok (a==b) w:=run_equalIn_bool' w 9999 T a b hd;obtain⟨e,rfl,q⟩:=zXW (C:=C) (w:=w) h (x:=.bool a) (y:=.bool b) p (by rfl) (by rfl)
   have f:((do eqGuard n T x y (.bool a) (.bool b);binOp n T (.bool a) (.bool b)):Sem Value).run C.P w = .ok (.bool e) w:=by
    rw[Sem.run_bind,zTi];exact q
   rw[<- z,<- A]at f;exact zdg g (i f) rfl (by rw[zdL];simp[At.ids,zbo,zbv])
  {cases h}
 .rename_i l m B D;split at h
  .rename_i tys e hT he;split at h
   .rename_i hh;obtain⟨⟨G,M,L,N⟩,_⟩:=zcb g B;obtain⟨⟨H,Q,O,R⟩,_⟩:=zcb g D;have Y:∀{a:At} {u:Value},VA w st E a u->VS a u:=(by intro a u F;cases a<;>first|exact F|trivial);obtain⟨hg,p⟩:=S.eqt T tys hh.1 hT l m e G H w x y n hh.2.1 hh.2.2 he ⟨L,λj a u I F=>Y (N j a u I F).2⟩ ⟨O,λj a u I F=>Y (R j a u I F).2⟩;obtain⟨e',rfl,q⟩:=zXW (C:=C) (w:=w) h (x:=.agg G) (y:=.agg H) p (by rfl) (by rfl)
    have f:((do eqGuard n T x y (.agg G) (.agg H);binOp n T (.agg G) (.agg H)):Sem Value).run C.P w = .ok (.bool e') w:=by
     rw[Sem.run_bind,hg];exact q
    rw[<- M,<- Q]at f;exact zdg g (i f) rfl (by rw[zdL];simp[At.ids,zbo,zbv])
   {cases h}
  {cases h}
 {cases h}
theorem zbaE (c:Sim w0 S0 U st E ts sv w){o:Oper}{id:Nat}{g:UnOp}{T:TypeId}{x:Operand}{d:Dl}(f:o.op = .unOp g T x)(h:delta C st o id=some d):Goes C w0 S0 U st ts sv w o id (λst=>st.apply o.dst d):=by simp only[delta,f]at h;split at h;{rename_i a e;cases h;have b:=(zbN c e).1;simp only[VA]at b;exact zdg c (v:=.bool (!a)) (by simp[execOp,f,b,Op.unary]) rfl (by rw[zdL];simp[At.ids,zbo,zbv])};{rename_i k n e;cases h;have b:=(zbN c e).1;simp only[VA]at b;exact zdg c (v:=.int k (wsub k 0 n)) (by simp[execOp,f,b,Op.unary,Op.intArith,wsub]) rfl (by rw[zdL];simp[At.ids,zbo,zbv])};{cases h}
theorem z3b (f:CfgOk C)(g:Sim w0 S0 U st E ts sv w){o:Oper}{id:Nat}{b a:TypeId}{x:Operand}{d:Dl}(i:o.op = .convert b a x)(h:delta C st o id=some d):Goes C w0 S0 U st ts sv w o id (λst=>st.apply o.dst d):=by simp only[delta,i]at h;split at h;{rename_i y k u n l m p;cases h;have j:=(zbN g p).1;simp only[VA]at j;obtain⟨s,q,_,r,_⟩:=(f.cty a _ _ m).und;have e:=r k rfl rfl;subst e;obtain⟨t,c,_⟩:=(f.cty b y.1 y.2 l).und;exact zdg g (v:=.int k (wcv k n)) (by simp[execOp,i,j,convert,run_underlying c,run_underlying q,Conv.intToInt,wcv]) rfl (by rw[zdL];simp[At.ids,zbo,zbv])};{cases h}
theorem z3c (k:Sim w0 S0 U st E ts sv w){o:Oper}{id:Nat}{x:Operand}{j:Nat}{d:Dl}(m:o.op = .extract x j)(h:delta C st o id=some d):Goes C w0 S0 U st ts sv w o id (λst=>st.apply o.dst d):=by simp only[delta,m]at h;split at h;{rename_i l p;split at h;{rename_i y g;cases h;obtain⟨⟨i,f,e,s⟩,r⟩:=zcb k p;have b:j<i.size:=(by rw[e];exact(qA.1 g).1);refine zdg k (v:=i[j]) ?_ (s j y i[j] g (by simp[b])) (λn c=>r n ?_);{simp [execOp,m,f,Instr.extract,b]};{simp only [MV.ids,zbI,qP]at c ⊢;obtain⟨a,q,c⟩:=c;exact⟨a,⟨y,qJ g,q⟩,c⟩}};{cases h}};{cases h}
theorem znj {j k:Type}{f:j->Option k}:∀{l:List j} {c:List k},zcD f l=some c->l.length=c.length/\∀(i:Nat) (a:j) (b:k),l[i]?=some a->c[i]?=some b->f a=some b:=by
 intro l
 induction l with
 |nil=>intro c h;cases h;exact⟨rfl,λi a b h=>by simp at h⟩
 |cons a l r=>intro c h;simp only[zcD]at h;split at h;{rename_i b q;split at h;{rename_i m d;cases h;obtain⟨n,p⟩:=r d;refine⟨by simp[n],λi x y e g=>?_⟩;cases i with|zero=>simp at e g;subst e g;exact q|succ i=>exact p i x y (by simpa using e) (by simpa using g)};{cases h}};{cases h}
theorem z0E (i:Sim w0 S0 U st E ts sv w){o:Oper}{id:Nat}{f:FuncId}{first a:Array Operand}{d:Dl}(t:o.op = .makeFunc (.func f) first a)(h:delta C st o id=some d):Goes C w0 S0 U st ts sv w o id (λst=>st.apply o.dst d):=by simp only[delta,t]at h;split at h;{rename_i A x y;cases h;obtain⟨s,z⟩:=znj y;have b:first = #[]:=(by simpa using x);have c:∀(k l:Nat) (u:Operand),a[k]?=some u->A[k]?=some l->st.at u=some (.lp l 0):=(by intro k l u e g;have:=z k u l (by simpa using e) g;split at this;{rename_i B j;cases this;exact j};{cases this});refine zdg i (v:=.func (.func f) #[] (a.map ({tmps:=ts,defers:=[]}:Act).eval)) ?_ ⟨_,rfl,by simp[<- s],?_⟩ ?_;{simp [execOp,t,Instr.makeFunc,b]};{intro k l u g e;simp only[vE]at e;cases r:a[k]? with|none=>rw[r]at e;cases e|some q=>rw[r]at e;cases e;exact(zbN i<|c k l q r g).1};{intro n p;rw[zdL]at p;simp only[At.ids,zbo,zbv,jP]at p;obtain⟨k,g⟩:=qU.1 p;have m:k<a.size:=(by have:=(qA.1 g).1;rw[<- s] at this;simpa using this);exact(zbN i<|c k n a[k] (by simp[m]) g).2 n (by simp[At.ids,zbo,zbv])}};{cases h}
theorem z9w (I:CfgOk C)(s:Sim w0 S0 U st E ts sv w){o:Oper}{id:Nat}{T:TypeId}{x:Operand}{f:Nat}{d:Dl}(z:o.op = .field T x f)(h:delta C st o id=some d):Goes C w0 S0 U st ts sv w o id (λst=>st.apply o.dst d):=by simp only[delta,z]at h;split at h;{rename_i G m;split at h;{rename_i c t;split at h;{rename_i r q l J H;split at h;{rename_i K;have g:=I.cty c.type r q J;obtain⟨⟨B,p,A,F⟩,D⟩:=zcb s H;have e:G[f]?=some c:=t;split at h;{cases h;refine zdg s (v:=.agg (B.extract c.offset<|c.offset+q.length)) ?_ ⟨_,rfl,by simp;omega,λj a u b k=>?_⟩ (λn i=>D n ?_);{simp [execOp,z,p,Instr.field,run_underlying m,e,asAgg,part,zv8 g,zzR g]};{rw [jJ,jO]at b;split at b;{rename_i L;refine F (c.offset+j) a u b ?_;rw[Array.getElem?_extract]at k;split at k;{exact k};{cases k}};{cases b}};{simp only [MV.ids,zbI,zV,qP]at i ⊢;obtain⟨a,b,i⟩:=i;exact⟨a,kM<|jT b,i⟩}};{split at h;{rename_i a b;cases h;have y:c.offset<B.size:=(by rw[A];exact(qA.1 b).1);have k:=jI y;refine zdg s (v:=B[c.offset]) ?_ (F c.offset a _ b k).2 (λn i=>D n ?_);{simp [execOp,z,p,Instr.field,run_underlying m,e,asAgg,part,zv8 g,k]};{rw [zdL]at i;simp only[MV.ids,zbI,zV,qP];exact⟨a,qJ b,i⟩}};{cases h}}};{cases h}};{cases h}};{cases h}};{cases h}
theorem zGm (L:CfgOk C)(y:Sim w0 S0 U st E ts sv w){o:Oper}{id:Nat}{T:TypeId}{x:Operand}{f:Nat}{d:Dl}(z:o.op = .fieldAddr T x f)(h:delta C st o id=some d):ztc C U st E ts w o d:=by
 simp only[delta,z]at h;have q:∀{c n:Nat} {a:Addr},C.fof T f=some (c,n)->({tmps:=ts,defers:=[]}:Act).eval x = .pointer (some a)->
  (execOp ({tmps:=ts,defers:=[]}:Act).eval o).run C.P w = .ok (.value<|.pointer<|some<|a.add c) w:=by
  intro c n a m N;obtain⟨V,W,i,g,j,H,I,J,K⟩:=(L.fof T f c n m).ok;simp[execOp,z,N,Instr.fieldAt,run_underlying g,j,Instr.sureAddr,fieldPlace,sizeOf,typeInfo,I,J,K,H]
 have e:∀(b a n:Nat),(⟨b,a,none⟩:Addr).add n=⟨b,a+n,none⟩:=(by intro b a n;unfold Addr.add;split<;>simp_all);split at h;{rename_i c n l O m g;cases h;obtain⟨⟨⟨a,k⟩,j⟩,v⟩:=zbN y g;refine zrl (q m k) ⟨⟨_,rfl⟩,λA u=>?_⟩ (by rw[zdL];exact v);have:=j A u;rw[k] at this;simp only[Value.pointer.injEq,qC] at this;subst this;rw[e]};{rename_i c n r p i O m g;cases h;obtain⟨⟨⟨a,k⟩,j⟩,v⟩:=zbN y g;refine zrl (q m k) ⟨⟨_,rfl⟩,λR M=>?_⟩ (by rw[zdL];exact v);obtain⟨b,Q,len,s,S,B,D,F,G,t⟩:=j R M;rw[k] at t;simp only[Value.pointer.injEq,qC] at t;subst t;exact⟨b,Q,len,s,S,B,D,F,G,by rw[e,uH]⟩};{cases h}
theorem zXb (b:CfgOk C)(a:Sim w0 S0 U st E ts sv w){o:Oper}{id:Nat}{T:TypeId}{x:Operand}{f:Nat}{d:Dl}(c:o.op = .fieldAddr T x f)(h:delta C st o id=some d):Goes C w0 S0 U st ts sv w o id (λst=>st.apply o.dst d):=(zGm (id:=id) b a c h).goes a
theorem z9x (e:Sim w0 S0 U st E ts sv w){o:Oper}{id:Nat}{T:TypeId}{s:ByteArray}{y:Operand}{d:Dl}(f:o.op = .index T (.const<|.string s) y)(h:delta C st o id=some d)(l:d.c=true):Goes C w0 S0 U st ts sv w o id (λst=>st.apply o.dst d):=by simp only[delta,f]at h;split at h;{rename_i k n j i;cases h;have g:=(zbN e i).1;simp only[VA]at g;have a:0<=n/\n<(s.size:Int):=qD l;have b:n.toNat<s.size:=(by omega);have m:({tmps:=ts,defers:=[]}:Act).eval (.const<|.string s) = .string s:=rfl;have hg:s[n.toNat]?=some s[n.toNat]:=getElem?_pos s n.toNat b;refine zdg e (v:=.int .u8 (s[n.toNat].toNat:Int)) ?_ ?_ (by rw[zdL];simp[At.ids,zbo,zbv]);{simp [execOp,f,m,g,Instr.index,run_underlying j,asIntOf,a.1,hg]};{show Value.int .u8 _=Value.int .u8 (byteAt s n);unfold byteAt;rw[hg]}};{cases h}
theorem zgm {r:Nat}{p:List (Int×Nat)}{a:CV}(h:st.node r p=some a):∃R,st.root r=some R/\zhC R.t R.l p=some a:=by unfold St.node at h;split at h;{rename_i R b;exact⟨R,b,h⟩};{cases h}
theorem zvb (g:Sim w0 S0 U st E ts sv w){r:Nat}{p:List (Int×Nat)}{v:Value}{t:Ty}{l:List t.den}(i:VA w st E (.sl r p) v)(h:st.node r p=some (.s t l)) :
 ∃R S',st.root r=some R/\zxn R.t p=some t/\zba w R.t (E.ρ r) p=some v/\Rep R.own w v (.s t l) S'/\∀x,S' x->E.φ r x:=by
 obtain⟨R,a,hg⟩:=zgm h;have c:=i.2 R a;obtain⟨k,j,S',b,d,e,f⟩:=Rep.at p (g.mem.rep r R a) c;rw[hg]at b;cases b;exact⟨R,S',a,d,c,e,f⟩
theorem zGn (N:CfgOk C)(m:Sim w0 S0 U st E ts sv w){o:Oper}{id:Nat}{T:TypeId}{x y:Operand}{d:Dl}(B:o.op = .indexAddr T x y)(h:delta C st o id=some d)(S:d.c=true):ztc C U st E ts w o d:=by simp only[delta,B]at h;split at h;{rename_i r p n L M;split at h;{rename_i t l Z;split at h;{rename_i Q;cases h;obtain⟨hx,q⟩:=zbN m L;have F:=(zbN m M).1;simp only[VA]at F;obtain⟨e,hE⟩:=N.sty T t Q;obtain⟨R,S',O,H,I,J,g4⟩:=zvb m hx Z;have a:0<=n/\n<(l.length:Int):=qD S;obtain⟨i,z,Y,hs,_⟩:=hE.info;generalize hv:({tmps:=ts,defers:=[]}:Act).eval x=v at *;cases J with|nil=>simp at a;omega|void=>simp at a;omega|sl _ _ b f k G e' fz V K _ hb X A s a0 P D u a1 W=>have j:(⟨b,f,none⟩:Addr).add (n.toNat*t.width)=⟨b,f+n.toNat*t.width,none⟩:=(by unfold Addr.add;split<;>simp_all);refine zrl (v:=.pointer (some ⟨b,f+n.toNat*t.width,none⟩)) ?_ ⟨⟨_,rfl⟩,λR' g=>?_⟩ ?_;{simp [execOp,B,hv,F,Instr.indexAt,run_underlying hE.und,asIntOf,a,sizeOf,typeInfo,Y,hs,j]};{rw [O]at g;cases g;exact⟨b,f,l.length,k,t,I,H,a.1,by omega,by simp⟩};{rw [zdL];simpa [At.ids,zbo,zbv] using q}};{cases h}};{cases h}};{cases h}
theorem zXc (b:CfgOk C)(a:Sim w0 S0 U st E ts sv w){o:Oper}{id:Nat}{T:TypeId}{x y:Operand}{d:Dl}(f:o.op = .indexAddr T x y)(h:delta C st o id=some d)(e:d.c=true):Goes C w0 S0 U st ts sv w o id (λst=>st.apply o.dst d):=(zGn (id:=id) b a f h e).goes a
theorem zbbf (f:Sim w0 S0 U st E ts sv w){o:Oper}{id:Nat}{c:Call}{x:Operand}{T e:TypeId}{r:Nat}{p:List (Int×Nat)}{t:Ty}{l:List t.den}(y:o.op = .call c)(h:c.callee = .builtin .len)(g:c.args.toList=[x])(j:c.argTypes.toList=[T])(q:C.P.underlying T=some (.slice e))(n:st.at x=some (.sl r p))(u:st.node r p=some (.s t l)):Goes C w0 S0 U st ts sv w o id (λst=>st.apply o.dst (.at<|.i .i64<|ln l)):=by obtain⟨A,B⟩:=zbN f n;obtain⟨R,D,I,F,G,m,H⟩:=zvb f A u;obtain⟨⟨a,k,z,_⟩,_⟩:=m.len;have b:c.args = #[x]:=(by rw[<- g]);have d:c.argTypes = #[T]:=(by rw[<- j]);refine zdg f (v:=goInt l.length) ?_ rfl (by rw[zdL];simp[At.ids,zbo,zbv]);simp[execOp,y,resolve,h,invoke,builtin,b,d,z,Builtin.len_,run_underlying q]
end
section
variable {C:Cfg} {w0 w:World} {S0:zY} {U:Nat->Prop} {st:St} {E:Env} {ts:Array Value} {sv:List (Array Value)}
theorem cells_one {v:Value}(h:v.oneCell'=true):v.cells = #[v]:=by cases v<;>simp_all [Value.cells,Value.oneCell']
theorem VA.one {a:At}{v:Value}(h:VA w st E a v)(g:a≠.bad):v.oneCell'=true:=by cases a with|bad=>exact absurd rfl g|i k n=>cases h;rfl|b x=>cases h;rfl|sl r p=>obtain⟨⟨a,len,c,rfl⟩,_⟩:=h;rfl|lp l d=>obtain⟨⟨a,rfl⟩,_⟩:=h;rfl|ep r p i d=>obtain⟨⟨a,rfl⟩,_⟩:=h;rfl|fn f e=>obtain⟨j,rfl,_⟩:=h;rfl|kp r J t=>obtain⟨⟨a,len,c,rfl⟩,_⟩:=h;rfl
theorem ztQ {x:Operand}{y:TV}(h:st.opnd x=some (.v y)):y≠.at .bad:=by rintro rfl;cases x with|tmp t=>simp only[St.opnd]at h;split at h;{cases h};{rename_i b;exact b h}|const v=>simp only[St.opnd]at h;split at h;{rename_i a c;simp only[qC,MV.v.injEq,TV.at.injEq]at h;subst h;cases v<;>simp [zJO]at c};{cases h}|global g=>simp[St.opnd]at h|func f=>simp[St.opnd]at h
theorem VT.cells {x:TV}{v:Value}(h:VT w st E x v)(d:x≠.at .bad) :
 v.cells.size=(zV x).length/\∀(j:Nat) (a:At) (u:Value),(zV x)[j]?=some a->v.cells[j]?=some u->u.oneCell'=true/\VA w st E a u:=by
 rcases x with a|l
 .have h1:v.oneCell'=true:=VA.one h (λe=>d (by rw[e]))
  rw[cells_one h1];refine⟨rfl,λj f u b c=>?_⟩;cases j with
  |zero=>simp[zV]at b c;subst b c;exact⟨h1,h⟩
  |succ j=>simp[zV]at b
 .obtain⟨vs,rfl,h2,h3⟩:=h;exact⟨h2,h3⟩
theorem zo8 {P:Program}{T:TypeId}{d:List CTy}{b a:Nat}{c:Array Value}{e:TypeId}{i:Nat×Nat}(k:TypeOk P T true d)(l:w.heap[b]?=some (.cells c e i))(h:a+d.length<=c.size) :
 (loadVar T ⟨b,a,none⟩).run P w = .ok (.agg ((c.toList.drop a).take d.length).toArray) w:=by
 have m:((c.toList.drop a).take d.length).length=d.length:=by simp;omega
 have:=run_loadCells_list (P:=P) w ⟨b,a,none⟩ ((c.toList.drop a).take d.length) (λj v g=>by
  have f:(⟨b,a,none⟩:Addr).add j=⟨b,a+j,none⟩:=by unfold Addr.add;split<;>simp_all
  rw[f,cell_of_row w b (a+j) c e i l];rw[jJ]at g;split at g
  .simpa [jO] using g
  .cases g)
 rw[m] at this;unfold loadVar;rw[Sem.run_bind,zv8 k];simp[Result.andThen,zzR k,this]
theorem zo9 {P:Program}{T:TypeId}{d:List CTy}{b a:Nat}{c:Array Value}{e:TypeId}{f:Nat×Nat}{v:Value}(g:TypeOk P T false d)(i:w.heap[b]?=some (.cells c e f))(h:c[a]?=some v) :
 (loadVar T ⟨b,a,none⟩).run P w = .ok v w:=by
 unfold loadVar;rw[Sem.run_bind,zv8 g];have:w.cell? ⟨b,a,none⟩=some v:=by rw[cell_of_row w b a c e f i];exact h
 simp[this]
theorem zJ7:∀(p:List (Int×Nat)) {t h r:Ty} {v:Value} {b o len e:Nat} {i:Int} {j:Nat} {u:Value},zba w t v p=some (.slice (some ⟨b,o,none⟩) len e)->zxn t p=some h->
 0<=i->i.toNat<len->h.shape[j]?=some (.s r)->w.cell? ⟨b,o+i.toNat*h.width+j,none⟩=some u->zba w t v (p++[(i,j)])=some u
 |[],t,h,r,v,b,o,len,e,i,j,u,d,f,k,m,n,q=>by simp only[zba,qC,zxn]at d f;subst d f;simp[zba,k,m,n,q]
 |(z,A)::p,t,h,r,v,b,o,len,e,i,j,u,d,f,k,m,n,q=>by simp only[zxn]at f;split at f;{rename_i B g;cases v with|slice a l c=>(cases a with|none=>simp[zba]at d|some a=>simp only[zba,g]at d;simp only[j6,zba,g];split at d;{rename_i x;rw[if_pos x];split at d;{rename_i C y;exact zJ7 p d f k m n q};{cases d}};{cases d})|_=>simp[zba]at d};{cases f}
def zzb (r:Nat)(p:List (Int×Nat))(i:Int)(j:Nat):CV->At
 |.i k n=>.i k n
 |.b x=>.b x
 |.s _ _=>.sl r (p++[(i,j)])
theorem zza (r:Nat)(p:List (Int×Nat))(i:Int):∀(a:List CV) (j k:Nat),(zsA r p i a j)[k]?=a[k]?.map (zzb r p i<|j+k)
 |[],j,k=>by simp[zsA]
 |c::a,j,k=>by have e:zsA r p i (c::a) j=zzb r p i j c::zsA r p i a (j+1):=(by cases c<;>rfl);rw[e];cases k with|zero=>simp|succ k=>simp only[jN];rw[zza r p i a (j+1) k];congr 2;omega
theorem zTc (r:Nat)(p:List (Int×Nat))(i:Int):∀(a:List CV) (j:Nat),(zsA r p i a j).length=a.length
 |[],_=>rfl
 |c::a,j=>by cases c<;>simp [zsA,zTc r p i a<|j+1]
theorem zP4 {r:Nat}{p:List (Int×Nat)}{i:Int}{j:Nat}{c:CV}{n:Nat}(h:n∈(zzb r p i j c).ids):n=r:=by cases c<;>simp [zzb,At.ids,zbo,zbv]at h;exact h
theorem VA.oneC {c:CV}{r:Nat}{p:List (Int×Nat)}{i:Int}{j:Nat}{v:Value}(h:VA w st E (zzb r p i j c) v):v.oneCell'=true :=
 h.one (by cases c<;>simp [zzb])
theorem z2N (hC:CfgOk C)(Q:Sim w0 S0 U st E ts sv w){o:Oper}{id:Nat}{T:TypeId}{x:Operand}{d:Dl}(ho:o.op = .load T x)(h:delta C st o id=some d):ztc C U st E ts w o d:=by
 have G:∀{v:Value} {a:Addr},({tmps:=ts,defers:=[]}:Act).eval x = .pointer (some a)->(loadVar T a).run C.P w = .ok v w->
  (execOp ({tmps:=ts,defers:=[]}:Act).eval o).run C.P w = .ok (.value v) w:=by
  intro v a hx Z;simp[execOp,ho,Instr.loadAt,hx,Instr.sureAddr,Z]
 simp only[delta,ho]at h;split at h;{rename_i A H l f hT h1;obtain⟨hx,a2⟩:=zbN Q h1;have B:=hC.cty T A H hT;split at h;{rename_i cs J;have a4:=hx.2 cs J;obtain⟨_,D,e,g1,g2,g3⟩:=Q.mem.loc l cs J;have I:=(Q.ids.lo l cs J).2;split at h;{rename_i m;cases m;split at h;{rename_i b0;cases h;refine zrl (G a4<|zo8 B g1 (by omega)) ⟨_,rfl,by simp;omega,λj a u g F=>?_⟩ ?_;{simp only [jJ,jO]at g;simp only[jG,jJ,jO,kU]at F;split at g;{rename_i L;rw[if_pos L]at F;exact g3 (f+j) a u g F};{cases g}};{intro n q;simp only[MV.ids,zbI,zV,qP]at q;obtain⟨a,g,q⟩:=q;exact I a (kM<|jT g) n q}};{cases h}};{rename_i m;have:A=false:=(by simpa using m);subst this;split at h;{rename_i a g;cases h;have b1:f<D.size:=(by rw[g2];exact(qA.1 g).1);have hv:D[f]?=some D[f]:=(by simp[b1]);exact zrl (G a4<|zo9 B g1 hv) (g3 f a _ g hv).2 (λn q=>I a (qJ g) n (by rw[zdL]at q;exact q))};{cases h}}};{cases h}}
 .rename_i A H r p i f hT h1;obtain⟨hx,a2⟩:=zbN Q h1;have B:=hC.cty T A H hT;split at h
  .rename_i t l q;obtain⟨R,hR,hg⟩:=zgm q;obtain⟨b,o2,len,a7,t',e1,e2,e3,e4,e5⟩:=hx.2 R hR;obtain⟨t2,l2,S',f1,f2,f3,f4⟩:=Rep.at p (Q.mem.rep r R hR) e1;rw[hg] at f1;cases f1;rw[e2] at f2;cases f2;have S:U r:=a2 r (by simp[At.ids,zbo])
   cases f3 with
   |void=>omega
   |sl _ _ _ _ _ a6 e' fz V K _ hb b7 b4 b2 b8 b6 b5 b3 a1 a8=>
   have a9:l[i.toNat]?=some (ix l i t.dflt):=zmi e4;have a0:(i.toNat+1)*t.width<=a7*t.width:=qS _ (by omega);rw[jL]at a0;have a5:∀(j:Nat) (c:CV) (u:Value),(t.cells<|ix l i t.dflt)[j]?=some c->a6[o2+i.toNat*t.width+j]?=some u->VA w st E (zzb r p i j c) u:=(by intro j c u z F;have L:j<t.width:=(by have:=(qA.1 z).1;rw[zds] at this;exact this);have Z:=a8 i.toNat _ a9 j c z;have W:=a1 i.toNat j e4 L;rw[W]at F;cases F;cases c with|i k n=>exact Z.int_inv|b y=>exact Z.bool_inv|s t3 l3=>obtain⟨⟨a3,N,h3,_⟩,_⟩:=Z.len;refine⟨⟨a3,_,N,h3⟩,λR' O=>?_⟩;rw[hR]at O;cases O;exact zJ7 p e1 e2 e3 e4 (zIz z) (by rw[cell_of_block hb];exact W));split at h;{rename_i m;cases m;split at h;{rename_i b0;cases h;refine zrl (G e5<|zo8 B hb (by omega)) ⟨_,rfl,?_,λj a u g F=>?_⟩ ?_;{rw [zTc];simp[zds];omega};{rw [zza]at g;simp only[jJ,jO]at g;simp only[jG,jJ,jO,kU]at F;split at g;{rename_i L;rw[if_pos L]at F;cases z:(t.cells<|ix l i t.dflt)[f+j]? with|none=>rw[z]at g;cases g|some c=>rw[z]at g;cases g;have:=a5 (f+j) c u z (by rw[<- uH];exact F);exact⟨this.oneC,this⟩};{cases g}};{intro n q;simp only[MV.ids,zbI,zV,qP]at q;obtain⟨a,g,q⟩:=q;obtain⟨k,Y⟩:=qU.1 g;rw[zza]at Y;cases z:(((t.cells<|ix l i t.dflt).drop f).take H.length)[k]? with|none=>rw[z]at Y;cases Y|some c=>rw[z]at Y;cases Y;rw[zP4 q];exact S}};{cases h}};{rename_i m;have:A=false:=(by simpa using m);subst this;split at h;{rename_i a g;cases h;have M:(zsA r p i (((t.cells<|ix l i t.dflt).drop f).take 1) f)[0]?=some a:=(by rw[g];rfl);rw[zza]at M;cases z:(((t.cells<|ix l i t.dflt).drop f).take 1)[0]? with|none=>rw[z]at M;cases M|some c=>rw[z]at M;simp only[Option.map_some,qC,jW]at M;subst M;have X:(t.cells<|ix l i t.dflt)[f]?=some c:=(by simpa using z);have L:f<t.width:=(by have:=(qA.1 X).1;rw[zds] at this;exact this);have W:=a1 i.toNat f e4 L;exact zrl (G e5<|zo9 B hb W) (a5 f c _ X W) (λn q=>by rw[zdL]at q;rw[zP4 q];exact S)};{cases h}}
  {cases h}
 {cases h}
theorem zbaC (b:CfgOk C)(a:Sim w0 S0 U st E ts sv w){o:Oper}{id:Nat}{T:TypeId}{x:Operand}{d:Dl}(c:o.op = .load T x)(h:delta C st o id=some d):Goes C w0 S0 U st ts sv w o id (λst=>st.apply o.dst d):=(z2N (id:=id) b a c h).goes a
theorem zbbh (d:Sim w0 S0 U st E ts sv w){o:Oper}{id:Nat}{x y:Operand}{a b:Int}{c:Call}(m:o.op = .call c)(l:c.callee = .builtin .min)(k:c.args.toList=[x,y])(h:st.at x=some (.i .i64 a))(j:st.at y=some (.i .i64 b)):Goes C w0 S0 U st ts sv w o id (λst=>st.apply o.dst (.at<|.i .i64<|zN2 a b)):=by have f:=(zbN d h).1;have g:=(zbN d j).1;simp only[VA]at f g;have e:c.args = #[x,y]:=(by rw[<- k]);refine zdg d (v:=.int .i64 (zN2 a b)) ?_ rfl (by rw[zdL];simp[At.ids,zbo,zbv]);simp[execOp,m,resolve,l,invoke,builtin,e,f,g,run_min_int2,zN2]
theorem zbbg (d:Sim w0 S0 U st E ts sv w){o:Oper}{id:Nat}{x y:Operand}{a b:Int}{c:Call}(m:o.op = .call c)(l:c.callee = .builtin .max)(k:c.args.toList=[x,y])(h:st.at x=some (.i .i64 a))(j:st.at y=some (.i .i64 b)):Goes C w0 S0 U st ts sv w o id (λst=>st.apply o.dst (.at<|.i .i64<|imax a b)):=by have f:=(zbN d h).1;have g:=(zbN d j).1;simp only[VA]at f g;have e:c.args = #[x,y]:=(by rw[<- k]);refine zdg d (v:=.int .i64 (imax a b)) ?_ rfl (by rw[zdL];simp[At.ids,zbo,zbv]);simp[execOp,m,resolve,l,invoke,builtin,e,f,g,run_max_int2,imax]
end
section
variable {C:Cfg} {w0 w w1:World} {S0:zY} {U:Nat->Prop} {st st1:St} {E E1:Env} {ts:Array Value} {sv:List (Array Value)}
theorem zkb (l:Sim w0 S0 U st E ts sv w){o:Oper}{id:Nat}{mv:MV}{v:Value}{f:St->St}{n:Next}(i:(execOp ({tmps:=ts,defers:=[]}:Act).eval o).run C.P w = .ok n w1)(r:n = .value v\/(n = .skip/\v=undef))(k:Mem w0 S0 st1 E1 w1)(T:Trans st E w st1 E1 w1 U)(p:f st=st1.put o.dst mv)(e:st1.tm=st.tm)(b:st1.stk=st.stk)(d:∀n R,zo st1.ro n=some R->U n\/Mine id n)(c:∀n g,zo st1.lo n=some g->(U n\/Mine id n)/\∀a∈g,∀m∈a.ids,U m\/Mine id m)(s:VM w1 st1 E1 mv v)(q:∀n∈mv.ids,U n\/Mine id n):Goes C w0 S0 U st ts sv w o id f:=by have j:Sim w0 S0 (λn=>U n\/Mine id n) (f st) E1 (({tmps:=ts,defers:=[]}:Act).put o.dst v).tmps sv w1:=(by rw[p];exact Sim.next l k T e b (λn h=>.inl h) d c s q);rcases r with rfl|⟨rfl,rfl⟩;{exact zJ3 i j};{exact zvJ i j}
theorem zes (id:Nat):Mine id id:=⟨qW _,by omega⟩
theorem zbbe (c:Sim w0 S0 U st E ts sv w){o:Oper}{id:Nat}(q:∀n,Mine id n->¬ U n){T:TypeId}{x:Operand}{d:Dl}(u:o.op = .box T x)(h:delta C st o id=some d):Goes C w0 S0 U st ts sv w o id (λst=>st.apply o.dst d):=by simp only[delta,u]at h;split at h;{rename_i y s;cases h;obtain⟨B,r⟩:=zcb c s;obtain⟨l,p⟩:=VT.cells B (ztQ s);have g:∀a∈zV y,∀m∈a.ids,U m:=λa f m i=>r m (by simp only[MV.ids,zbI,qP];exact⟨a,f,i⟩);have j:=q id (zes id);obtain⟨z,A⟩:=c.mem.addLoc c.ids.mem j (e:=T) l p g;refine zkb c (v:=.pointer (some ⟨w.heap.size,0,none⟩)) ?_ (.inl rfl) z A rfl rfl rfl (λn R b=>.inl (c.ids.ro n R b)) ?_ ?_ ?_;{simp [execOp,u,Instr.box,newVar,newRow,newObj,Sem.run]};{intro n k b;simp only[zo]at b;split at b;{rename_i t;simp only[qL]at t;subst t;cases b;exact⟨.inr<|zes _,λa f m i=>.inl (g a f m i)⟩};{exact⟨.inl (c.ids.lo n k b).1,λa f m i=>.inl ((c.ids.lo n k b).2 a f m i)⟩}};{exact⟨⟨_,rfl⟩,λk _=>by simp⟩};{intro n b;rw[zdL]at b;simp only[At.ids,zbo,zbv,jP,qF]at b;subst b;exact .inr (zes _)}};{cases h}
theorem zQJ:∀(a:List CTy) (id k:Nat),(zeros a id)[k]?=a[k]?.map (zeroAt<|id+k)
 |[],id,k=>by simp[zeros]
 |c::r,id,k=>by cases k with|zero=>simp[zeros]|succ k=>simp only[zeros,jN];rw[zQJ r (id+1) k];congr 2;omega
theorem zDW:∀(a:List CTy) (id:Nat),(zeros a id).length=a.length
 |[],_=>rfl
 |c::r,id=>by simp[zeros,zDW r]
theorem ziD:∀(tys:List CTy) (id n:Nat) (R:Root),zo (zeroRoots tys id) n=some R->id<=n/\n<id+tys.length/\∃t,R=zc4 t []
 |[],_,_,_,h=>by cases h
 |c::r,id,n,R,h=>by have a:zo (zeroRoots r<|id+1) n=some R->id<=n/\n<id+(c::r).length/\∃t,R=zc4 t []:=λh=>(by obtain⟨f,g,d⟩:=ziD r (id+1) n R h;exact⟨by omega,by simp;omega,d⟩);cases c with|i k=>exact a h|b=>exact a h|s t=>simp only[zeroRoots,zo]at h;split at h;{rename_i e;simp only[qL]at e;cases h;exact⟨by omega,by simp;omega,t,rfl⟩};{exact a h}
theorem z0Z {c:CTy}{id n:Nat}(h:n∈(zeroAt id c).ids):n=id:=by cases c<;>simp [zeroAt,At.ids,zbo,zbv]at h;exact h
def ziC (E:Env)(id:Nat):Env:={E with ρ:=λn=>if id<=n/\n<id+31 then .slice none 0 0 else E.ρ n,φ:=λn=>if id<=n/\n<id+31 then λ_=>False else E.φ n}
theorem Mem.zeroRoots (f:Mem w0 S0 st E w)(e:IdsM st U){id:Nat}(c:∀n,Mine id n->¬ U n){tys:List CTy}(g:tys.length<=31) :
 Mem w0 S0 {st with ro:=Go.Proofs.YtjapbkodhfpbbaaGreat.E.zeroRoots tys id++st.ro} (ziC E id) w/\Trans st E w {st with ro:=Go.Proofs.YtjapbkodhfpbbaaGreat.E.zeroRoots tys id++st.ro} (ziC E id) w U:=by
 refine f.addRoots e rfl rfl rfl (qW _) (λ_ _=>rfl) (λr R i=>?_) (λr R k j b _ _ x d=>?_) (λn h=>?_)
 .obtain⟨b,h2,t,rfl⟩:=ziD tys id r R i;have a:id<=r/\r<id+31:=⟨b,by omega⟩
  refine⟨c r ⟨b,by omega⟩,rfl,rfl,?_,λx d=>?_⟩
  .simp only [ziC,if_pos a,zc4];exact .nil t _
  .simp only [ziC,if_pos a]at d
 .obtain⟨b,h2,_⟩:=ziD tys id r R b;have a:id<=r/\r<id+31:=⟨b,by omega⟩
  simp only[ziC,if_pos a]at d
 .have a:¬ (id<=n/\n<id+31):=λa=>c n ⟨a.1,by omega⟩ h
  simp only[ziC,if_neg a];exact⟨trivial,trivial,trivial⟩
theorem zve {d:List CTy}{id k:Nat}{a:At}(f:d.length<=31)(h:(zeros d id)[k]?=some a) :
 ∃c,d[k]?=some c/\(zeroV c).oneCell'=true/\(∀st w,VA w st (ziC E id) a<|zeroV c)/\∀n∈a.ids,id<=n/\n<id+31:=by
 rw[zQJ]at h;cases e:d[k]? with
 |none=>rw[e]at h;cases h
 |some c=>rw[e]at h;cases h;have m:k<d.length:=(qA.1 e).1;refine⟨c,rfl,by cases c<;>rfl,λst w=>?_,λn j=>?_⟩;{cases c with|i k=>rfl|b=>rfl|s t=>refine⟨⟨none,0,0,rfl⟩,λR l=>?_⟩;have g:id<=id+k/\id+k<id+31:=⟨by omega,by omega⟩;simp only[zba,ziC,if_pos g];rfl};{rw [z0Z j];omega}
theorem z9t (hC:CfgOk C)(g:Sim w0 S0 U st E ts sv w){o:Oper}{id:Nat}(G:∀n,Mine id n->¬ U n){T:TypeId}{d:Dl}(ho:o.op = .alloc T)(h:delta C st o id=some d):Goes C w0 S0 U st ts sv w o id (fun st=>st.apply o.dst d):=by
 simp only[delta,ho]at h;split at h
 .rename_i agg tys hT;split at h
  .rename_i hle;cases h;obtain⟨M,q⟩:=g.mem.zeroRoots g.ids.mem G hle;obtain⟨z,hz,H⟩:=z5w (w:=w) (hC.cty T agg tys hT);have B:IdsM {st with ro:=Go.Proofs.YtjapbkodhfpbbaaGreat.E.zeroRoots tys id++st.ro} (fun n=>U n\/(id<=n/\n<id+31)):=(by refine⟨fun n R b=>?_,fun n f b=>⟨.inl (g.ids.lo n f b).1,fun a t m i=>.inl ((g.ids.lo n f b).2 a t m i)⟩⟩;simp only[zbM]at b;split at b;{rename_i Q hQ;obtain⟨A,Y,_⟩:=ziD tys id n Q hQ;exact .inr ⟨A,by omega⟩};{exact .inl (g.ids.ro n R b)});have W:z.cells.size=(zeros tys id).length:=(by rw[zDW,<- kR,H];simp);have x:∀(j:Nat) (c:At) (u:Value),(zeros tys id)[j]?=some c->z.cells[j]?=some u->u.oneCell'=true/\VA w {st with ro:=Go.Proofs.YtjapbkodhfpbbaaGreat.E.zeroRoots tys id++st.ro} (ziC E id) c u:=by intro j c u hc hu;obtain⟨ct,A,Y,h3,_⟩:=zve (E:=E) hle hc;have:z.cells.toList[j]?=some u:=(by simpa using hu);rw[H,qQ,A] at this;cases this;exact⟨Y,h3 _ _⟩
   obtain⟨N,s⟩:=M.addLoc B (id:=id+31) (fun b=>b.elim (G _ ⟨by omega,by omega⟩) (fun h=>by omega)) (e:=T) W x (fun a t m i=>by
    obtain⟨k,V⟩:=qU.1 t;obtain⟨_,_,_,_,J⟩:=zve (E:=E) hle V;exact .inr (J m i))
   refine zkb g (v:=.pointer (some ⟨w.heap.size,0,none⟩)) (w1:=w.alloc (.cells z.cells T (0,0))) ?_ (.inl rfl) N ?_ rfl rfl rfl ?_ ?_ ?_ ?_;{simp [execOp,ho,Instr.alloc,hz,newVar,newRow,newObj,Sem.run]}
   .exact ⟨fun r D R1 P=>by
     obtain⟨R,hR,ht,hh⟩:=s.ro r (.inl D) R1 P;obtain⟨R',O,y,S⟩:=q.ro r D R hR;refine⟨R',O,ht.trans y,fun p u hp=>?_⟩;rw[<- y];exact hh p u (by rw[y];exact S p u hp),
     fun l D L A=>by
     obtain⟨⟨f,x⟩,X⟩:=s.lo l (.inl D) L A;obtain⟨⟨K,F⟩,I⟩:=q.lo l D f x;exact⟨⟨K,F⟩,X.trans I⟩,s.κ.trans q.κ⟩
   {intro n R b;rcases B.ro n R b with h|h;{exact .inl h};{exact .inr ⟨h.1,by omega⟩}};{intro n f b;simp only[zo]at b;split at b;{rename_i Z;simp only[qL]at Z;subst Z;cases b;refine⟨.inr ⟨by omega,by omega⟩,fun a t m i=>?_⟩;obtain⟨k,V⟩:=qU.1 t;obtain⟨_,_,_,_,J⟩:=zve (E:=E) hle V;exact .inr ⟨(J m i).1,by have:=(J m i).2;omega⟩};{exact⟨.inl (g.ids.lo n f b).1,fun a t m i=>.inl ((g.ids.lo n f b).2 a t m i)⟩}};{exact⟨⟨_,rfl⟩,fun f _=>by simp⟩};{intro n b;rw[zdL]at b;simp only[At.ids,zbo,zbv,jP,qF]at b;subst b;exact .inr ⟨by omega,by omega⟩}
  {cases h}
 {cases h}
end
section
variable {C:Cfg} {w0 w w1:World} {S0:zY} {U:Nat->Prop} {st st1:St} {E E1:Env} {ts:Array Value} {sv:List (Array Value)}
theorem zGB (hC:CfgOk C)(h:Sim w0 S0 U st E ts sv w){o:Oper}{id:Nat}{T:TypeId}{a x:Operand}{F:Bool}{tys:List CTy}{y:TV}{l b:Nat}{g:List At}(ho:o.op = .store T a x)(hT:C.cty T=some (F,tys))(Y:VM w st E (.v y) (({tmps:=ts,defers:=[]}:Act).eval x))(X:∀n∈(MV.v y).ids,U n)(V:y≠.at .bad)(G:st.at a=some (.lp l b))(k:zo st.lo l=some g)(I:(zV y).length=tys.length)(a1:b+tys.length<=g.length) :
 Goes C w0 S0 U st ts sv w o id (λst=>st.apply o.dst {v:=.und,lo:=[(l,splice g b<|zV y)]}):=by
 obtain⟨O,a0⟩:=zbN h G;obtain⟨A,H⟩:=VT.cells Y V;have Q:∀a∈zV y,∀m∈a.ids,U m:=λa G m p=>X m (by simp only[MV.ids,zbI,qP];exact⟨a,G,p⟩)
 have N:=O.2 g k;obtain⟨g0,d,e,Z,g2,g3⟩:=h.mem.loc l g k;obtain⟨M,r⟩:=h.ids.lo l g k;generalize hv:({tmps:=ts,defers:=[]}:Act).eval x=v at *;have K:∀u∈v.cells.toList,u.oneCell'=true:=by intro u D;obtain⟨j,B⟩:=qU.1 D;have S:j<(zV y).length:=(by rw[<- A];have:=(qA.1 B).1;simpa using this);exact(H j _ u (qB S) (by simpa using B)).1
 have i:v.cells.toList.length=(zV y).length:=by simpa using A
 have J:=run_storeCells_at (P:=C.P) (E.β l) b e v.cells.toList 0 d w Z (by rw[i,g2];omega) K
 have W:(d.toList.take (b+0)++v.cells.toList++d.toList.drop (b+0+v.cells.toList.length))=splice d.toList b v.cells.toList:=by simp[splice]
 rw[W]at J;have t:b+v.cells.toList.length<=d.toList.length:=by rw[i];simp;omega
 have z:b+(zV y).length<=g.length:=by omega
 have s:∀c∈splice g b (zV y),∀m∈c.ids,U m:=by intro c f m p;simp only[splice,jH]at f;rcases f with (f|f)|f;{exact r c (jT f) m p};{exact Q c f m p};{exact r c (kM f) m p}
 obtain⟨hM,L⟩:=h.mem.stLoc h.ids.mem k (cs':=splice g b (zV y)) (vals':=(splice d.toList b v.cells.toList).toArray) (e':=e) (w1:=w.setRow (E.β l) (splice d.toList b v.cells.toList).toArray)
  rfl rfl rfl (by simp) (λx hx=>setRow_other w _ x _ hx) (setRow_heap w _ _ _ e _ Z)
  (by rw[ziS g b _ z,j7,ziS _ _ _ t];simpa using g2)
  (λj c u f D=>by
   simp only[jG]at D
   by_cases B:b<=j/\j<b+(zV y).length
   .rw [zfe g b _ z j B.1 B.2]at f;rw[zfe _ b _ t j B.1 (by rw[i];exact B.2)]at D
    exact H (j-b) c u f (by simpa using D)
   .rw [ze2 g b _ z j (by omega)]at f
    rw[ze2 _ b _ t j (by rw[i];omega)]at D
    exact g3 j c u f (by simpa using D)) s
 refine zkb h (v:=undef) (mv:=.und) (n:=.skip) ?_ (.inr ⟨rfl,rfl⟩) hM L rfl rfl rfl (λn R q=>.inl (h.ids.ro n R q)) ?_ rfl ?_
 .have hsz:v.cells.size=tys.length:=by rw[A,I]
  simp[execOp,ho,Instr.storeAt,N,Instr.sureAddr,storeVar,zzR<|hC.cty T F tys hT,hv,hsz,J]
 .intro n cs' q;simp only[zo]at q;split at q
  .rename_i he;simp only[qL]at he;subst he;cases q;exact⟨.inl M,λc f m p=>.inl (s c f m p)⟩
  .exact⟨.inl (h.ids.lo n cs' q).1,λa G m p=>.inl ((h.ids.lo n cs' q).2 a G m p)⟩
 .intro n q;simp[MV.ids,zbI]at q
theorem z0H (k:CfgOk C)(g:Sim w0 S0 U st E ts sv w){o:Oper}{id:Nat}{T:TypeId}{a x:Operand}{e:Bool}{c:List CTy}{y:TV}{l b:Nat}{f:List At}(p:o.op = .store T a x)(m:C.cty T=some (e,c))(j:st.opnd x=some (.v y))(n:st.at a=some (.lp l b))(h:zo st.lo l=some f)(d:(zV y).length=c.length)(i:b+c.length<=f.length) :
 Goes C w0 S0 U st ts sv w o id (λst=>st.apply o.dst {v:=.und,lo:=[(l,splice f b<|zV y)]}):=
 zGB k g p m (zcb g j).1 (zcb g j).2 (ztQ j) n h d i
theorem zXt (D:CfgOk C)(f:Sim w0 S0 U st E ts sv w){o:Oper}{id:Nat}(r:∀n,Mine id n->¬ U n){T:TypeId}{a:Operand}{i:Bool}{t:Ty}{l c:Nat}{d:List At}(I:o.op = .store T a (.const<|.slice none 0 0))(G:C.cty T=some (i,[.s t]))(p:st.at a=some (.lp l c))(q:zo st.lo l=some d)(u:c+1<=d.length) :
 Goes C w0 S0 U st ts sv w o id (λst=>st.apply o.dst {v:=.und,lo:=[(l,splice d c [.sl id []])],ro:=[(id,zc4 t [])]}):=by
 intro next Q b;obtain⟨F,k⟩:=f.mem.zeroRoots f.ids.mem r (tys:=[.s t]) (by simp)
 have j:Sim w0 S0 (λn=>U n\/Mine id n) {st with ro:=zeroRoots [.s t] id++st.ro} (ziC E id) ts sv w :=
  Sim.next f F k rfl rfl (λn h=>.inl h) (λn R h=>by
   simp only[zbM]at h;split at h
   .rename_i Q hQ;obtain⟨A,B,_⟩:=ziD [.s t] id n Q hQ;simp only[qZ,kN]at B;exact .inr ⟨A,by omega⟩
   .exact .inl (f.ids.ro n R h))
   (λn d b=>⟨.inl (f.ids.lo n d b).1,λa p m H=>.inl ((f.ids.lo n d b).2 a p m H)⟩) (dst:=none) (mv:=.und) (v:=undef) rfl (λn b=>by simp[MV.ids,zbI]at b)
 have g:=zGB (id:=id) D j (y:=.at (.sl id [])) I G ⟨⟨none,0,0,rfl⟩,λR K=>by simp[zba,ziC,Act.eval]⟩
  (λn b=>by
   rw[zdL]at b;simp only[At.ids,zbo,zbv,jA,qF]at b;subst b;exact .inr (zes _)) (by simp) p q rfl (by simpa using u)
 refine g next Q (λz v J x=>b z v J ?_);have e:(λn=>(U n\/Mine id n)\/Mine id n)=λn=>U n\/Mine id n:=by funext n;simp[or_assoc]
 rw[e]at x;exact x
theorem zTu (i:Sim w0 S0 U st E ts sv w){o:Oper}{id:Nat}(y:∀n,Mine id n->¬ U n){t:Ty}{l:List t.den}{c:Bool}{v:Value}{S:zY}(j:(execOp ({tmps:=ts,defers:=[]}:Act).eval o).run C.P w = .ok (.value v) w1)(A:w1.os=w.os)(D:w1.tape=w.tape)(k:w1.output=w.output)(B:w.heap.size<=w1.heap.size)(h:∀x,x<w.heap.size->w1.heap[x]?=w.heap[x]?)(g:Rep true w1 v (.s t l) S)(d:∀x,S x->w.heap.size<=x/\x<w1.heap.size) :
 Goes C w0 S0 U st ts sv w o id (λst=>st.apply o.dst {c,v:=.v (.at<|.sl id []),ro:=[(id,zc4 t l)]}):=by
 have f:=y id (zes id);obtain⟨G,H⟩:=i.mem.addRoots i.ids.mem (dro:=[(id,zc4 t l)]) (w1:=w1) (E1:={E with ρ:=λn=>if n=id then v else E.ρ n,φ:=λn=>if n=id then S else E.φ n})
  A D k B h (λr R j=>by
   simp only[zo]at j;split at j
   .rename_i he;simp only[qL]at he;subst he;cases j;exact⟨f,rfl,rfl,by simpa [zc4] using g,λx L=>d x (by simpa using L)⟩
   .cases j)
  (λr R O M q u z=>by
   simp only[zo]at q u;split at q
   .split at u
    .rename_i e1 e2;simp only[qL] at e1 e2;exact absurd (e1.symm.trans e2) z
    .cases u
   .cases q)
  (λn b=>by
   have:n≠id:=λe=>f (e ▸ b);simp[this])
 obtain⟨⟨a,p,K,_⟩,_⟩:=g.len;refine zkb i j (.inl rfl) G H rfl rfl rfl ?_ (λn F b=>⟨.inl (i.ids.lo n F b).1,λa I m J=>.inl ((i.ids.lo n F b).2 a I m J)⟩) ?_ ?_
 .intro n R b;simp only[j6,jP,zo]at b;split at b
  .rename_i he;simp only[qL]at he;subst he;exact .inr (zes _)
  .exact .inl (i.ids.ro n R b)
 .exact⟨⟨a,_,p,K⟩,λR N=>by simp[zba]⟩
 .intro n b;rw[zdL]at b;simp only[At.ids,zbo,zbv,jA,qF]at b;subst b;exact .inr (zes _)
theorem z7X (c:Sim w0 S0 U st E ts sv w){o:Oper}{id:Nat}(b:∀n,Mine id n->¬ U n){t:Ty}(a:o.op = .move (.const<|.slice none 0 0)\/o.op = .assign (.const<|.slice none 0 0)) :
 Goes C w0 S0 U st ts sv w o id (λst=>st.apply o.dst {v:=.v (.at<|.sl id []),ro:=[(id,zc4 t [])]}):=by
 refine zTu c b (v:=.slice none 0 0) (S:=λ_=>False) (w1:=w) ?_ rfl rfl rfl (qW _) (λ_ _=>rfl) (.nil t _) (λx d=>d.elim);rcases a with a|a<;>simp [execOp,a,Act.eval]
def z3G:CTy->CV
 |.i k=>.i k 0
 |.b=>.b false
 |.s t=>.s t []
theorem zJQ (t:Ty):t.cells t.dflt=t.shape.map z3G:=by cases t<;>rfl
theorem zU5 (o:Bool)(w:World)(c:CTy)(S:zY):Rep o w (zeroV c) (z3G c) S:=by cases c with|i k=>exact .i k 0 S|b=>exact .b false S|s t=>exact .nil t S
theorem zDT (t:Ty):0<t.width:=by cases t<;>simp [Ty.width]
theorem zDb {z:Array Value}{t:Ty}(f:z.toList=t.shape.map zeroV){n i j:Nat}(k:i<n)(e:j<t.width) :
 ∃c,t.shape[j]?=some c/\(madeCells z<|n*t.width)[i*t.width+j]?=some (zeroV c):=by
 have m:z.size=t.width:=by rw[<- kR,f];simp[zfd]
 have a:j<t.shape.length:=by rw[zfd];exact e
 refine⟨t.shape[j],by simp[a],?_⟩
 have b:i*t.width+j<n*t.width:=by have:(i+1)*t.width<=n*t.width:=qS _ k;rw[jL] at this;omega
 have l:(i*t.width+j) % t.width=j:=by rw[Nat.add_comm,Nat.add_mul_mod_self_right,Nat.mod_eq_of_lt e]
 have d:z[j]! = zeroV t.shape[j]:=by have g:z.toList[j]?=some (zeroV t.shape[j]):=(by rw[f];simp[a]);have h:z[j]?=some (zeroV t.shape[j]):=(by simpa using g);rw[getElem!_def,h]
 unfold madeCells;rw[vE,Array.getElem?_range];simp[b,m,l,d]
theorem zMQ {n:Int}(h:few n=true):0<=n/\n<=2147483648:=by have:=qD h;omega
theorem zXs (J:CfgOk C)(q:Sim w0 S0 U st E ts sv w){o:Oper}{id:Nat}(s:∀n,Mine id n->¬ U n){T:TypeId}{x y:Operand}{d:Dl}(F:o.op = .makeSlice T x y)(h:delta C st o id=some d)(D:d.c=true):Goes C w0 S0 U st ts sv w o id (λst=>st.apply o.dst d):=by
 simp only[delta,F]at h;split at h
 .rename_i t n m hT l p;cases h;have a:=(zbN q l).1;have H:=(zbN q p).1;simp only[VA]at a H;simp only[qE,ieq,qL]at D;obtain⟨L,rfl⟩:=D;obtain⟨B,f⟩:=zMQ L;obtain⟨e,hE⟩:=J.sty T t hT;obtain⟨i,z,k,O,Q,A,K⟩:=hE.info;have r:(i.bytes:Int)*n<=281474976710656:=(by have:(i.bytes:Int)*n<=1024*2147483648:=Int.mul_le_mul (by omega) f B (by omega);omega);have G:=run_make (P:=C.P) w T e i z hE.und k Q .i64 .i64 n n B (kB _) r (by omega);rw[O]at G;have N:n.toNat<=2147483648:=(by omega);have u:=size_madeCells z.cells (n.toNat*t.width);refine zTu q s (S:=λx=>x=w.heap.size) (w1:=w.alloc (.cells (madeCells z.cells<|n.toNat*t.width) e)) (v:=.slice (some ⟨w.heap.size,0,none⟩) n.toNat n.toNat) ?_ rfl rfl rfl (by simp) (λx a=>heap_alloc_old w _ x a) ?_ (λx a=>by subst a;simp);{simp [execOp,F,a,H,G]}
  .have hlen:(rp n t.dflt).length=n.toNat:=by simp[rp]
   have:=Rep.sl (o:=true) (w:=w.alloc (.cells (madeCells z.cells<|n.toNat*t.width) e)) t (rp n t.dflt) w.heap.size 0 n.toNat (madeCells z.cells<|n.toNat*t.width) e (0,0)
    (λ_ j=>((t.shape[j]?).map zeroV).getD undef) (λ_ _ _=>False) (λx=>x=w.heap.size) (heap_alloc_new w _) (λ_=>rfl) (by rw[hlen];simp only[big];omega) (by rw[hlen];exact qW _) (by rw[u];omega) rfl
    (λ_ _ _ _ _ h=>h.elim) (λ_ _ _ _ _ _ _ _ _ _ h=>h.elim) (λi j k M=>by
     rw[hlen]at k;obtain⟨c,l,p⟩:=zDb A k M;rw[jX,p,l];rfl)
    (λi x a j c b=>by
     simp only[rp]at a;rw[kF]at a;split at a
     .cases a;rw[zJQ,qQ]at b;cases g:t.shape[j]? with
      |none=>rw[g]at b;cases b
      |some I=>rw[g]at b;cases b;exact zU5 true _ I _
     .cases a)
   rw[hlen] at this;exact this
 {cases h}
end
section
variable {C:Cfg} {w0 w w1:World} {S0:zY} {U:Nat->Prop} {st st1:St} {E E1:Env} {ts:Array Value} {sv:List (Array Value)}
theorem add_lit (b o n:Nat):(⟨b,o,none⟩:Addr).add n=⟨b,o+n,none⟩:=by unfold Addr.add;split<;>simp_all
theorem z8P {P:Program}{T e:TypeId}(h:P.underlying T=some (.slice e)):P.elem T=e/\P.underlying T=some (.slice<|P.elem T):=by have:P.elem T=e:=(by simp[Program.elem,h]);exact⟨this,by rw[this];exact h⟩
theorem Rep.subO {o:Bool}{t:Ty}{l:List t.den}{a:Option Addr}{len d x y:Nat}{S:zY}(h:Rep o w (.slice a len d) (.s t l) S)(X:x<=y)(N:y<=l.length) :
 Rep o w (sliced a x y d t.width) (.s t<|(l.take y).drop x) S:=by
 cases h with
 |nil=>have n:y=0:=(by simpa using N);have m:x=0:=(by omega);subst n m;exact .nil t S
 |void _ a _ M=>have n:y=0:=(by simpa using N);have m:x=0:=(by omega);subst n m;exact .void t _ S (by assumption)
 |sl _ _ b p d B e P V K _ R E J I U Q g r W T=>
  have k:((l.take y).drop x).length=y-x:=by simp;omega
  have O:sliced (some ⟨b,p,none⟩) x y d t.width = .slice (some ⟨b,if d=x then p else p+x*t.width,none⟩) ((l.take y).drop x).length (d-x):=by
   unfold sliced;rw[k];split
   .rfl
   .simp [add_lit]
  rw[O];have u:∀i,i<y-x->d≠x:=λi f=>(by omega);have L:(d-x)*t.width+x*t.width=d*t.width:=by rw[<- kT];congr 1;omega
  refine .sl t _ b _ (d-x) B e P (λi j=>V (x+i) j) (λi j=>K (x+i) j) S R E (by rw[k];omega) (by rw[k];omega) ?_ Q (λi j z f q v=>⟨(g (x+i) j z (by rw[k]at f;omega) q v).1,(g (x+i) j z (by rw[k]at f;omega) q v).2⟩) (λM i j Y Z z f q F G v H=>by
   rw[k]at f F;have:=r M (x+i) j (x+Y) Z z (by omega) q (by omega) G v H
   exact⟨by omega,this.2⟩) ?_ ?_
  {split;{rename_i D;subst D;simp;omega};{omega}};{intro i j f q;rw[k]at f;rw[if_neg<|u i f,<- W (x+i) j (by omega) q,kT];congr 1;omega};{intro i z A j c C;rw[jO,jJ]at A;split at A;{exact T (x+i) z A j c C};{cases A}}
theorem Rep.sub {o:Bool}{t:Ty}{l:List t.den}{a:Option Addr}{len b x y:Nat}{S:zY}(h:Rep o w (.slice a len b) (.s t l) S)(c:x<=y)(d:y<=l.length) :
 Rep false w (sliced a x y b t.width) (.s t<|(l.take y).drop x) S:=(h.subO c d).ro
theorem z14 {b:Ty}{d:List b.den}{p:List (Int×Nat)}{t:Ty}{l:List t.den}(h:zhC b d p=some (.s t l))(c:t.flat=false):b.flat=false:=by
 cases p with
 |nil=>cases h;exact c
 |cons a p=>
  obtain⟨i,j⟩:=a;cases b with
  |kept=>rfl
  |guest=>rfl
  |bare=>rfl
  |mon=>rfl
  |sl t=>rfl
  |int=>match j,h with|0,h=>cases h|n+1,h=>cases h
  |u8=>match j,h with|0,h=>cases h|n+1,h=>cases h
  |bool=>match j,h with|0,h=>cases h|n+1,h=>cases h
  |slot=>match j,h with|0,h=>cases h|1,h=>cases h|n+2,h=>cases h
  |ins=>match j,h with|0,h=>cases h|1,h=>cases h|n+2,h=>cases h
  |entry=>match j,h with|0,h=>cases h|1,h=>cases h|2,h=>cases h|3,h=>cases h|n+4,h=>cases h
  |act=>match j,h with|0,h=>cases h|1,h=>cases h|2,h=>cases h|3,h=>cases h|4,h=>cases h|5,h=>cases h|n+6,h=>cases h
  |told=>match j,h with|0,h=>cases h|1,h=>cases h|n+2,h=>cases h
theorem zsd {r:Nat}{R:Root}{p:List (Int×Nat)}{t:Ty}{l:List t.den}(b:st.root r=some R)(d:st.node r p=some (.s t l))(c:t.flat=false):R.t.flat=false:=by obtain⟨e,a,hg⟩:=zgm d;rw[b]at a;cases a;exact z14 hg c
theorem zr5 (e:Sim w0 S0 U st E ts sv w){o:Oper}{id:Nat}(h:∀n,Mine id n->¬ U n){r:Nat}{R:Root}(k:st.root r=some R){t:Ty}{l:List t.den}{c:Bool}{v:Value}(y:(execOp ({tmps:=ts,defers:=[]}:Act).eval o).run C.P w = .ok (.value v) w)(d:Rep false w v (.s t l) (E.φ r))(i:t.flat=false->R.t.flat=false) :
 Goes C w0 S0 U st ts sv w o id (λs=>s.apply o.dst {c,v:=.v (.at<|.sl id []),ro:=[(id,zff st R t l)]}):=by
 have f:=h id (zes id);obtain⟨p,q⟩:=e.mem.view e.ids.mem f k d i;obtain⟨⟨a,g,z,_⟩,_⟩:=d.len;refine zkb e y (.inl rfl) p q rfl rfl rfl ?_ (λn j b=>⟨.inl (e.ids.lo n j b).1,λa u m x=>.inl ((e.ids.lo n j b).2 a u m x)⟩) ?_ ?_
 .intro n R b;simp only[zo]at b;split at b
  .rename_i he;simp only[qL]at he;subst he;exact .inr (zes _)
  .exact .inl (e.ids.ro n R b)
 .exact⟨⟨a,_,g,z⟩,λR k=>by simp[zba]⟩
 .intro n b;rw[zdL]at b;simp only[At.ids,zbo,zbv,jA,qF]at b;subst b;exact .inr (zes _)
theorem zme (e:Sim w0 S0 U st E ts sv w){o:Oper}{id:Nat}(y:∀n,Mine id n->¬ U n){g:List Nat}{t:Ty}{m:List t.den}{c:Bool}{v:Value}{φn:zY}(M:(execOp ({tmps:=ts,defers:=[]}:Act).eval o).run C.P w = .ok (.value v) w1)(z:∀k∈g,∃R,st.root k=some R/\R.own=true)(A:w1.os=w.os)(D:w1.tape=w.tape)(j:w1.output=w.output)(B:w.heap.size<=w1.heap.size)(f:∀x,x<w.heap.size->(∀k∈g,¬ E.φ k x)->w1.heap[x]?=w.heap[x]?)(F:∀x,φn x->(∃k∈g,E.φ k x)\/(w.heap.size<=x/\x<w1.heap.size))(d:Rep true w1 v (.s t m) φn)(i:∀k∈g,∀R,st.root k=some R->Rep false w1 (E.ρ k) (.s R.t R.l) (E.φ k)/\∀p u,zba w R.t (E.ρ k) p=some u->zba w1 R.t (E.ρ k) p=some u) :
 Goes C w0 S0 U st ts sv w o id (λs=>s.apply o.dst {c,v:=.v (.at<|.sl id []),ro:=(id,zc4 t m)::moved st g,bump:=true}):=by
 have h:=y id (zes id);obtain⟨I,J⟩:=e.mem.merge e.ids.mem h z A D j B f F d i;obtain⟨⟨a,q,N,_⟩,_⟩:=d.len;refine zkb e M (.inl rfl) I J rfl rfl rfl ?_ (λn G b=>⟨.inl (e.ids.lo n G b).1,λa K m L=>.inl ((e.ids.lo n G b).2 a K m L)⟩) ?_ ?_
 .intro n R b;simp only[j6,zo]at b;split at b
  .rename_i he;simp only[qL]at he;subst he;exact .inr (zes _)
  .rw [zbM]at b;split at b
   .rename_i Q hQ;obtain⟨_,H,r,_⟩:=zml g n Q hQ;exact .inl (e.ids.ro n H r)
   .exact .inl (e.ids.ro n R b)
 .exact⟨⟨a,_,q,N⟩,λR O=>by simp[zba]⟩
 .intro n b;rw[zdL]at b;simp only[At.ids,zbo,zbv,jA,qF]at b;subst b;exact .inr (zes _)
theorem zGa (e:Sim w0 S0 U st E ts sv w){o:Oper}{id:Nat}(p:∀n,Mine id n->¬ U n){i:List Nat}{t:Ty}{m:List t.den}{c:Bool}{v:Value}{φn:zY}(I:(execOp ({tmps:=ts,defers:=[]}:Act).eval o).run C.P w = .ok (.value v) w1)(q:∀k∈i,∃R,st.root k=some R/\R.own=true)(r:w1.os=w.os)(y:w1.tape=w.tape)(h:w1.output=w.output)(u:w.heap.size<=w1.heap.size)(f:∀x,x<w.heap.size->w1.heap[x]?=w.heap[x]?)(z:∀x,φn x->(∃k∈i,E.φ k x)\/(w.heap.size<=x/\x<w1.heap.size))(d:Rep false w1 v (.s t m) φn) :
 Goes C w0 S0 U st ts sv w o id (λs=>s.apply o.dst {c,v:=.v (.at<|.sl id []),ro:=(id,⟨t,m,false,none⟩)::zge st i}):=by
 have g:=p id (zes id);obtain⟨D,F⟩:=e.mem.freeze e.ids.mem g q r y h u f z d;obtain⟨⟨a,j,J,_⟩,_⟩:=d.len;refine zkb e I (.inl rfl) D F rfl rfl rfl ?_ (λn A b=>⟨.inl (e.ids.lo n A b).1,λa G m H=>.inl ((e.ids.lo n A b).2 a G m H)⟩) ?_ ?_
 .intro n R b;simp only[j6,zo]at b;split at b
  .rename_i he;simp only[qL]at he;subst he;exact .inr (zes _)
  .rw [zbM]at b;split at b
   .rename_i Q hQ;obtain⟨_,B,l,_⟩:=zuj i n Q hQ;exact .inl (e.ids.ro n B l)
   .exact .inl (e.ids.ro n R b)
 .exact⟨⟨a,_,j,J⟩,λR K=>by simp[zba]⟩
 .intro n b;rw[zdL]at b;simp only[At.ids,zbo,zbv,jA,qF]at b;subst b;exact .inr (zes _)
theorem zN3 {a b n:Int}(h:inr a b n=true):0<=a/\a<=b/\b<=n:=qD h
theorem z9y (hC:CfgOk C)(j:Sim w0 S0 U st E ts sv w){o:Oper}{id:Nat}(g:∀n,Mine id n->¬ U n){T:TypeId}{x:Operand}{lo hi:Option Operand}{d:Dl}(O:o.op = .slice T x lo hi none)(h:delta C st o id=some d)(B:d.c=true):Goes C w0 S0 U st ts sv w o id (λst=>st.apply o.dst d):=by
 simp only[delta,O]at h;split at h
 .rename_i r p h1;split at h
  .rename_i R t l hR hn;split at h
   .rename_i hT;obtain⟨hx,a2⟩:=zbN j h1;obtain⟨e,hE⟩:=hC.sty T t hT;obtain⟨W,I⟩:=z8P hE.und;obtain⟨i,z,X,hs,_⟩:=hE.info;have F:(sizeOf<|C.P.elem T).run C.P w = .ok t.width w:=(by rw[W];simp[sizeOf,typeInfo,X,hs]);obtain⟨R',S',N,g1,g2,g3,g4⟩:=zvb j hx hn;rw[hR]at N;cases N;obtain⟨⟨a,u,hv,a1⟩,a0⟩:=g3.len;generalize G:({tmps:=ts,defers:=[]}:Act).eval x=v at *;subst hv;have A:=g3.weak (S':=E.φ r) g4;split at h;{cases h;have b:=A.sub (j3 l.length) (qW _);simp only[List.take_length,List.drop_zero]at b;refine zr5 j g hR ?_ b (zsd hR hn);simp[execOp,O,G,run_sliceAt_slice (P:=C.P) w T _ _ _ _ I,run_slice_all (P:=C.P) w T a l.length u I,F]}
    .rename_i Z;split at h
     .rename_i n M;cases h;have J:=(zbN j M).1;simp only[VA]at J;have K:inr n (ln l) (ln l)=true:=(by unfold zMN at B;split at B;{cases s:zuC C<;>(rw [s]at B;exact B)};{exact B});obtain⟨S,H,L⟩:=zN3 K;simp only[ln] at H L;have f:=A.subO (x:=n.toNat) (y:=l.length) (by omega) (qW _);have b:=A.sub (x:=n.toNat) (y:=l.length) (by omega) (qW _);simp only[List.take_length]at b f;have q:(execOp ({tmps:=ts,defers:=[]}:Act).eval o).run C.P w = .ok (.value<|sliced a n.toNat l.length u t.width) w:=(by simp[execOp,O,G,J,run_sliceAt_slice (P:=C.P) w T _ _ _ _ I,run_slice_l (P:=C.P) w T a l.length u I .i64 n S H,F]);unfold zMN;split
      .rename_i hown;cases zuC C with
       |true=>
        exact zGa j g (w1:=w) (φn:=E.φ r) q (λk s=>by
         simp only[qF]at s;subst s;exact⟨R,hR,hown⟩) rfl rfl rfl (qW _) (λ_ _=>rfl) (λz D=>.inl ⟨r,by simp,D⟩) b
       |false=>
       rw[hown]at f;exact zme j g (w1:=w) (φn:=E.φ r) q (λk s=>by
        simp only[qF]at s;subst s;exact⟨R,hR,hown⟩) rfl rfl rfl (qW _) (λ_ _ _=>rfl) (λz D=>.inl ⟨r,by simp,D⟩) f (λk s Q V=>⟨(j.mem.rep k Q V).ro,λ_ _ h=>h⟩)
      {exact zr5 j g hR q b (zsd hR hn)}
     {cases h}
    .rename_i Y;split at h
     .rename_i n M;cases h;have K:inr 0 n (ln l)=true:=(by unfold zHb at B;split at B;{cases s:zuC C<;>cases hh:zvK C<;>(rw [s]at B;first|exact B|(rw [hh]at B;exact B))};{exact B});obtain⟨S,H,L⟩:=zN3 K;simp only[ln] at H L;have J:=(zbN j M).1;simp only[VA]at J;have f:=A.subO (x:=0) (y:=n.toNat) (by omega) (by omega);have b:=A.sub (x:=0) (y:=n.toNat) (by omega) (by omega);simp only[List.drop_zero]at b f;have q:(execOp ({tmps:=ts,defers:=[]}:Act).eval o).run C.P w = .ok (.value<|sliced a 0 n.toNat u t.width) w:=(by simp[execOp,O,G,J,run_sliceAt_slice (P:=C.P) w T _ _ _ _ I,run_slice_h (P:=C.P) w T a l.length u I .i64 n H (by omega),F]);unfold zHb;split
      .rename_i hown;cases zuC C with
       |true=>
        exact zGa j g (w1:=w) (φn:=E.φ r) q (λk s=>by
         simp only[qF]at s;subst s;exact⟨R,hR,hown⟩) rfl rfl rfl (qW _) (λ_ _=>rfl) (λz D=>.inl ⟨r,by simp,D⟩) b
       |false=>
       cases zvK C with
       |false=>exact zr5 j g hR q b (zsd hR hn)
       |true=>
       rw[hown]at f;exact zme j g (w1:=w) (φn:=E.φ r) q (λk s=>by
        simp only[qF]at s;subst s;exact⟨R,hR,hown⟩) rfl rfl rfl (qW _) (λ_ _ _=>rfl) (λz D=>.inl ⟨r,by simp,D⟩) f (λk s Q V=>⟨(j.mem.rep k Q V).ro,λ_ _ h=>h⟩)
      {exact zr5 j g hR q b (zsd hR hn)}
     {cases h}
    {rename_i Z Y;split at h;{rename_i n m M h3;cases h;obtain⟨S,H,L⟩:=zN3 B;simp only[ln] at H L;have J:=(zbN j M).1;have D:=(zbN j h3).1;simp only[VA]at J D;have b:=A.sub (x:=n.toNat) (y:=m.toNat) (by omega) (by omega);refine zr5 j g hR ?_ b (zsd hR hn);simp[execOp,O,G,J,D,run_sliceAt_slice (P:=C.P) w T _ _ _ _ I,run_slice_lh (P:=C.P) w T a l.length u I .i64 .i64 n m S H (by omega),F]};{cases h}}
   {cases h}
  {cases h}
 {cases h}
theorem Rep.flat {o d:Bool}{w w':World}{v:Value}{c:CV}{S S':zY}(h:Rep o w v c S)(a:c.flat=true):Rep d w' v c S':=by cases h with|i k n=>exact .i k n S'|b x=>exact .b x S'|nil=>cases a|void=>cases a|sl=>cases a
theorem zvG {t:Ty}(a:t.flat=true){x:t.den}{j:Nat}{c:CV}(h:(t.cells x)[j]?=some c):c.flat=true:=by have d:=zIz h;have:=qM.1 a c.ty (qJ d);cases c with|i k n=>rfl|b y=>rfl|s t l=>cases this
theorem Rep.one {o:Bool}{w:World}{v:Value}{c:CV}{S:zY}(h:Rep o w v c S):v.oneCell'=true:=by cases h<;>rfl
structure Rows (o:Bool) (w:World) (t:Ty) (l:List t.den) (arr:Array Value) (off:Nat) (b:Nat) (V:Nat->Nat->Value) (K:Nat->Nat->zY) (S:zY):Prop where
 sub:∀i j x,i<l.length->j<t.width->K i j x->S x/\(o=true->x≠b)
 dis:o=true->∀i j i' j' x,i<l.length->j<t.width->i'<l.length->j'<t.width->K i j x->K i' j' x->i=i'/\j=j'
 val:∀i j,i<l.length->j<t.width->arr[off+i*t.width+j]?=some (V i j)
 con:∀i x,l[i]?=some x->∀j c,(t.cells x)[j]?=some c->Rep o w (V i j) c (K i j)
theorem Rep.join {w1:World}{t:Ty}{a g:List t.den}{b k l:Nat}{arr:Array Value}{e:TypeId}{V1 V2:Nat->Nat->Value}{K1 K2:Nat->Nat->zY}{S:zY}(B:w1.heap[b]?=some (.cells arr e (0,0)))(r:a.length+g.length<=big)(q:a.length+g.length<=l)(p:k+l*t.width<=arr.size)(A:S b)(E:∀i j,i<a.length->j<t.width->arr[k+i*t.width+j]?=some (V1 i j))(F:∀i j,i<g.length->j<t.width->arr[k+(a.length+i)*t.width+j]?=some (V2 i j))(v:∀i x,a[i]?=some x->∀j c,(t.cells x)[j]?=some c->Rep true w1 (V1 i j) c (K1 i j))(w:∀i x,g[i]?=some x->∀j c,(t.cells x)[j]?=some c->Rep true w1 (V2 i j) c (K2 i j))(u:∀i j x,i<a.length->j<t.width->K1 i j x->S x/\x≠b)(D:∀i j x,i<g.length->j<t.width->K2 i j x->S x/\x≠b)(y:∀i j f d x,i<a.length->j<t.width->f<a.length->d<t.width->K1 i j x->K1 f d x->i=f/\j=d)(z:∀i j f d x,i<g.length->j<t.width->f<g.length->d<t.width->K2 i j x->K2 f d x->i=f/\j=d)(n:∀i j f d x,i<a.length->j<t.width->f<g.length->d<t.width->K1 i j x->¬ K2 f d x) :
 Rep true w1 (.slice (some ⟨b,k,none⟩) (a.length+g.length) l) (.s t<|ap a g) S:=by
 have C:(ap a g).length=a.length+g.length:=by simp[ap]
 rw[<- C];refine .sl t (ap a g) b k l arr e (0,0) (λi j=>if i<a.length then V1 i j else V2 (i-a.length) j) (λi j=>if i<a.length then K1 i j else K2 (i-a.length) j) S B (λ_=>rfl) (by omega) (by omega) p A ?_ ?_ ?_ ?_
 .intro i j x hi hj hk
  by_cases h:i<a.length
  .simp only [if_pos h]at hk;exact⟨(u i j x h hj hk).1,λ_=>(u i j x h hj hk).2⟩
  .simp only [if_neg h]at hk;have:=D (i-a.length) j x (by omega) hj hk
   exact⟨this.1,λ_=>this.2⟩
 .intro _ i j f d x hi hj hi' hj' hk hk'
  by_cases h:i<a.length<;>by_cases m:f<a.length
  .simp only [if_pos h]at hk;simp only[if_pos m]at hk';exact y i j f d x h hj m hj' hk hk'
  .simp only [if_pos h]at hk;simp only[if_neg m]at hk';exact absurd hk' (n i j _ d x h hj (by omega) hj' hk)
  .simp only [if_neg h]at hk;simp only[if_pos m]at hk';exact absurd hk (n f d _ j x m hj' (by omega) hj hk')
  .simp only [if_neg h]at hk;simp only[if_neg m]at hk';have:=z _ j _ d x (by omega) hj (by omega) hj' hk hk'
   exact⟨by omega,this.2⟩
 .intro i j hi hj
  by_cases h:i<a.length
  .simp only [if_pos h];exact E i j h hj
  .simp only [if_neg h];rw[<- F (i-a.length) j (by omega) hj]
   congr 3
   congr 1
   omega
 .intro i x hx j c hcj;simp only[ap]at hx
  by_cases h:i<a.length
  .simp only [if_pos h];rw[qV h]at hx;exact v i x hx j c hcj
  .simp only [if_neg h];rw[qR (by omega)]at hx
   exact w _ x hx j c hcj
theorem run_append_room' {P:Program}{w:World}(t ty e:TypeId)(i:TypeInfo)(z:P.underlying t=some (.slice e))(x:P.info? e=some i)(g f d h:Nat)(k:Array Value)(r:TypeId)(hg:w.heap[g]?=some (.cells k r (0,0)))(a:Addr)(m c:Nat)(b:List Value)(y:b.length=m*i.size)(l:∀j u,b[j]?=some u->w.cell? (a.add j)=some u)(s:∀u∈b,u.oneCell'=true)(n:d+m<=h)(p:f+d*i.size+b.length<=k.size) :
 (Builtin.append_ #[t,t] ty #[.slice (some ⟨g,f,none⟩) d h,.slice (some a) m c]).run P w =
  .ok (.slice (some ⟨g,f,none⟩) (d+m) h) (w.setRow g (splice k.toList (f+d*i.size) b).toArray):=by
 have v:=run_firstCells_some (P:=P) w i.size m a m c b y l;have q:=run_storeCells_at P g (f+d*i.size) r b 0 k w hg (by simpa using p) s
 simp only[jW]at q;simp[Builtin.append_,run_underlying z,sizeOf,typeInfo,x,Builtin.lenOf,n,v,add_lit,q,splice]
theorem zLP {P:Program}{w:World}(t ty e:TypeId)(i:TypeInfo)(h:P.underlying t=some (.slice e))(g:P.info? e=some i)(s:Option Addr)(d b:Nat)(f:d<=b)(a:Option Addr)(c:Nat) :
 (Builtin.append_ #[t,t] ty #[.slice s d b,.slice a 0 c]).run P w = .ok (.slice s d b) w:=by
 cases s<;>cases a<;>simp [Builtin.append_,run_underlying h,sizeOf,typeInfo,g,Builtin.lenOf,Builtin.firstCells,loadCells,loadCellsFrom,f,storeCells]
end
section
variable {C:Cfg} {w0 w w1:World} {S0:zY} {U:Nat->Prop} {st st1:St} {E E1:Env} {ts:Array Value} {sv:List (Array Value)}
theorem Rep.behind {t:Ty}{l:List t.den}{b a g:Nat}{arr f:Array Value}{e I:TypeId}{V:Nat->Nat->Value}{K:Nat->Nat->zY}{S:zY}(B:l.length<=big)(z:l.length<=g)(G:a+g*t.width<=arr.size)(J:S b)(q:Rows true w t l arr a b V K S)(L:w.heap[b]?=some (.cells arr e (0,0)))(v:w1.heap[b]?=some (.cells f I (0,0)))(O:f.size=arr.size)(m:∀k,k<a+l.length*t.width->f[k]?=arr[k]?)(h:∀x,x≠b->w1.heap[x]?=w.heap[x]?) :
 Rep true w1 (.slice (some ⟨b,a,none⟩) l.length g) (.s t l) S/\
  ∀p u,zba w t (.slice (some ⟨b,a,none⟩) l.length g) p=some u->zba w1 t (.slice (some ⟨b,a,none⟩) l.length g) p=some u:=by
 have r:∀i j,i<l.length->j<t.width->a+i*t.width+j<a+l.length*t.width:=by intro i j d n;have:(i+1)*t.width<=l.length*t.width:=qS _ d;rw[jL] at this;omega
 have E:∀i x,l[i]?=some x->∀j c,(t.cells x)[j]?=some c->Rep true w1 (V i j) c (K i j):=by intro i x D j c A;have d:i<l.length:=(qA.1 D).1;have n:j<t.width:=(by have:=(qA.1 A).1;rw[zds] at this;exact this);exact(q.con i x D j c A).frame (λy H=>h y ((q.sub i j y d n H).2 rfl))
 refine⟨.sl t l b a g f I (0,0) V K S v (λ_=>rfl) B z (by rw[O];exact G) J q.sub q.dis (λi j d n=>?_) E,?_⟩
 .rw [m _<|r i j d n];exact q.val i j d n
 .intro p u hp;cases p with
  |nil=>exact hp
  |cons P p=>obtain⟨i,j⟩:=P;simp only[zba]at hp ⊢;split at hp;{rename_i d;rw[if_pos d];split at hp;{rename_i R C;have n:j<t.width:=(by rw[<- zfd];exact(qA.1 C).1);rw[cell_of_block L,q.val _ _ d.2 n]at hp;rw[cell_of_block v,m _<|r _ _ d.2 n,q.val _ _ d.2 n];simp only at hp ⊢;have D:l[i.toNat]?=some (l[i.toNat]'d.2):=qB d.2;obtain⟨c,M,F⟩:=zz4 (x:=l[i.toNat]'d.2) C;obtain⟨Q,rfl⟩:=zl9 F;have N:=q.con _ _ D j _ M;rw[zc6 p N λy H=>h y ((q.sub _ j y d.2 n H).2 rfl)];exact hp};{cases hp}};{cases hp}
theorem z5x (hC:CfgOk C)(X:Sim w0 S0 U st E ts sv w){o:Oper}{id:Nat}(e8:∀n,Mine id n->¬ U n){T:TypeId}{x y:Operand}{c:Call}(ho:o.op = .call c)(hcb:c.callee = .builtin .append)(hca:c.args.toList=[x,y])(hct:c.argTypes.toList=[T,T]){t:Ty}(hT:C.sty T=some t){r r2:Nat}{p2:List (Int×Nat)}(h1:st.at x=some (.sl r []))(h2:st.at y=some (.sl r2 p2)){R R2:Root}(hR:st.root r=some R)(g6:st.root r2=some R2)(a9:R.own=true)(c0:t.flat=true\/(R2.own=true/\p2=[]/\r≠r2)){l:List t.den}(hn:st.node r2 p2=some (.s t l)){f:List t.den}(g5:R=⟨t,f,R.own,R.ep⟩)(h3:few (ln<|ap f l)=true) :
 Goes C w0 S0 U st ts sv w o id (λs=>s.apply o.dst {c:=few (ln<|ap f l),v:=.v (.at<|.sl id []),ro:=(id,zc4 t<|ap f l)::moved st (if t.flat then [r] else [r,r2]),bump:=true}):=by
 obtain⟨d,_⟩:=zbN X h1;obtain⟨hy,_⟩:=zbN X h2;obtain⟨e,hE⟩:=hC.sty T t hT;obtain⟨i,z,g,hs,hz,hzc,g8⟩:=hE.info;have g9:c.args = #[x,y]:=by rw[<- hca]
 have h0:c.argTypes = #[T,T]:=by rw[<- hct]
 have hv1:E.ρ r=({tmps:=ts,defers:=[]}:Act).eval x:=by have:=d.2 R hR;simpa [zba] using this
 have a3:Rep true w (E.ρ r) (.s t f) (E.φ r):=by have:=X.mem.rep r R hR;rw[a9,g5] at this;exact this
 obtain⟨R',S2,g0,g1,g2,g3,g4⟩:=zvb X hy hn;rw[g6]at g0;cases g0;have f7:∀{v:Value} {w':World},(Builtin.append_ #[T,T] o.type #[E.ρ r,({tmps:=ts,defers:=[]}:Act).eval y]).run C.P w = .ok v w'->
  (execOp ({tmps:=ts,defers:=[]}:Act).eval o).run C.P w = .ok (.value v) w':=by
  intro v w' hr;rw[hv1]at hr;simp[execOp,ho,resolve,hcb,invoke,builtin,g9,h0,hr]
 generalize hvy:({tmps:=ts,defers:=[]}:Act).eval y=v2 at *;obtain⟨f0,f1⟩:=zMQ h3;have h7:f.length+l.length<=2147483648:=by simp only[ln,ap,j9] at f1;omega
 have b6:∀k∈(if t.flat=true then [r] else [r,r2]),∃R,st.root k=some R/\R.own=true:=by intro k m;split at m;{simp only [qF]at m;subst m;exact⟨R,hR,a9⟩};{rename_i hf;simp only[qG,qN,or_false]at m;rcases m with rfl|rfl;{exact⟨R,hR,a9⟩};{exact⟨R2,g6,(c0.resolve_left hf).1⟩}}
 have Z:r∈(if t.flat=true then [r] else [r,r2]):=by split<;>simp
 have hrs:∀{Q:Root} {k:Nat},k=r->st.root k=some Q->Q=R:=λh hq=>by subst h;rw[hR]at hq;cases hq;rfl
 by_cases d1:l=[]
 .subst d1;obtain⟨⟨a2,c2,hv2,_⟩,_⟩:=g3.len;obtain⟨⟨a1,c1,h8,e4⟩,_⟩:=a3.len;have hap:ap f []=f:=by simp[ap]
  rw[hap];refine zme X e8 (v:=E.ρ r) (φn:=E.φ r) (w1:=w) (f7 ?_) b6 rfl rfl rfl (qW _) (λ_ _ _=>rfl) (λx d=>.inl ⟨r,Z,d⟩) a3 (λk m Q N=>⟨(X.mem.rep k Q N).ro,λ_ _ h=>h⟩);rw[h8,hv2];exact zLP T o.type e i hE.und g a1 _ _ e4 a2 _
 .cases g3 with
  |nil=>exact absurd rfl d1
  |void=>exact absurd rfl d1
  |sl _ _ b2 J W d3 e2 fz2 V2 K2 _ hb2 hfz2 hlen2 e6 hsz2 hS2 f6 c3 hvv2 a7=>
  have hm0:0<l.length:=kS.2 d1;have hmul2:l.length*t.width<=W*t.width:=qS _ e6;generalize c5:(d3.toList.drop J).take (l.length*t.width)=a;have L:a.length=l.length*t.width:=by rw[<- c5];simp;omega
  have d5:∀k,k<l.length*t.width->a[k]?=d3[J+k]?:=by intro k m;rw[<- c5,jJ,if_pos m,jO];simp
  have f4:∀j u,a[j]?=some u->w.cell? ((⟨b2,J,none⟩:Addr).add j)=some u:=by intro j u hu;have q:j<l.length*t.width:=(by rw[<- L];exact(qA.1 hu).1);rw[add_lit,cell_of_block hb2,<- d5 j q];exact hu
  have a6:∀i j,i<l.length->j<t.width->i*t.width+j<l.length*t.width:=by intro i j g q;have:(i+1)*t.width<=l.length*t.width:=qS _ g;rw[jL] at this;omega
  have f5:∀i j,i<l.length->j<t.width->a[i*t.width+j]?=some (V2 i j):=by intro i j g q;rw[d5 _<|a6 i j g q,<- uH];exact hvv2 i j g q
  have hwp:=zDT t;have hn1:∀u∈a,u.oneCell'=true:=by intro u hu;obtain⟨k,m⟩:=qU.1 hu;have hkl:k<l.length*t.width:=(by rw[<- L];exact(qA.1 m).1);have d0:k / t.width<l.length:=(Nat.div_lt_iff_lt_mul hwp).2 hkl;have h6:k % t.width<t.width:=Nat.mod_lt _ hwp;have:=f5 _ _ d0 h6;rw[Nat.mul_comm,Nat.div_add_mod,m] at this;cases this;have d:=qB d0;have D:(t.cells<|l[k / t.width]'d0)[k % t.width]?=some ((t.cells<|l[k / t.width]'d0)[k % t.width]'(by rw[zds];exact h6)):=qB _;exact(a7 _ _ d _ _ D).one
  have hK2:∃K:Nat->Nat->zY,(∀(w1:World),(∀x,(∃k∈(if t.flat=true then [r] else [r,r2]),k≠r/\E.φ k x)->w1.heap[x]?=w.heap[x]?)->
   ∀i x,l[i]?=some x->∀j c,(t.cells x)[j]?=some c->Rep true w1 (V2 i j) c (K i j))/\
   (∀i j x,i<l.length->j<t.width->K i j x->∃k∈(if t.flat=true then [r] else [r,r2]),k≠r/\E.φ k x)/\
   (∀i j i' j' x,i<l.length->j<t.width->i'<l.length->j'<t.width->K i j x->K i' j' x->i=i'/\j=j'):=by
   by_cases hf:t.flat=true
   .exact⟨λ_ _ _=>False,λw1 _ i x d j c D=>(a7 i x d j c D).flat (zvG hf D),λ_ _ _ _ _ h=>h.elim,λ_ _ _ _ _ _ _ _ _ h=>h.elim⟩
   .obtain⟨ho2,hp2,hne⟩:=c0.resolve_left hf;have hin:r2∈(if t.flat=true then [r] else [r,r2]):=by rw[if_neg hf];simp
    have d7:∀i j x,i<l.length->j<t.width->K2 i j x->∃k∈(if t.flat=true then [r] else [r,r2]),k≠r/\E.φ k x :=
     λi j x g q m=>⟨r2,hin,λe=>hne e.symm,g4 x (f6 i j x g q m).1⟩
    rw[ho2]at a7 c3;refine⟨K2,λw1 hw i x d j c D=>?_,d7,c3 rfl⟩;have O:i<l.length:=(qA.1 d).1;have S:j<t.width:=by have:=(qA.1 D).1;rw[zds] at this;exact this
    exact(a7 i x d j c D).frame (λy hy=>hw y (d7 i j y O S hy))
  obtain⟨K,f8,c8,f9⟩:=hK2;have A:∀x k,k∈(if t.flat=true then [r] else [r,r2])->k≠r->E.φ k x->¬ E.φ r x:=by intro x k m b5 d hxr;obtain⟨Q,N,hQo⟩:=b6 k m;exact X.mem.apart r R k Q hR a9 N (X.mem.mine k Q N hQo).1 (λe=>b5 e.symm) x hxr d
  have c9:(f.length+l.length)*i.bytes<=140737488355328:=by have:=uQ h7 g8;omega
  have b7:∀(B:List Value) (M:Nat) (V1:Nat->Nat->Value) (K1:Nat->Nat->zY) (zs:Array Value),B.length=f.length*t.width->f.length+l.length<=M->zs.size=(M-(f.length+l.length))*t.width->
   (∀i j,i<f.length->j<t.width->B[i*t.width+j]?=some (V1 i j))->
   (∀i x,f[i]?=some x->∀j c,(t.cells x)[j]?=some c->Rep true w (V1 i j) c (K1 i j))->
   (∀i j x,i<f.length->j<t.width->K1 i j x->E.φ r x)->
   (∀i j i' j' x,i<f.length->j<t.width->i'<f.length->j'<t.width->K1 i j x->K1 i' j' x->i=i'/\j=j')->
   (Builtin.append_ #[T,T] o.type #[E.ρ r,.slice (some ⟨b2,J,none⟩) l.length W]).run C.P w = .ok (.slice (some ⟨w.heap.size,0,none⟩) (f.length+l.length) M) (w.drew.alloc<|.cells (B.toArray++a.toArray++zs) e (0,0))->
   Goes C w0 S0 U st ts sv w o id (λs=>s.apply o.dst {c:=few (ln<|ap f l),v:=.v (.at<|.sl id []),ro:=(id,zc4 t<|ap f l)::moved st (if t.flat then [r] else [r,r2]),bump:=true}):=by
   intro B M V1 K1 zs V e5 hzs ho1 e4 b3 hd1 hr;generalize G:w.drew.alloc (.cells (B.toArray++a.toArray++zs) e (0,0))=w1 at hr;have c6:∀x,x<w.heap.size->w1.heap[x]?=w.heap[x]?:=λx d=>by rw[<- G];exact heap_alloc_old w.drew _ x d
   have hsize:w1.heap.size=w.heap.size+1:=by rw[<- G];simp
   have d2:∀k Q,st.root k=some Q->∀x,E.φ k x->w1.heap[x]?=w.heap[x]?:=λk Q N x d=>c6 x (X.mem.rlt k Q N x d);have a5:∀i j,i<f.length->j<t.width->i*t.width+j<f.length*t.width:=by intro i j g q;have:(i+1)*t.width<=f.length*t.width:=qS _ g;rw[jL] at this;omega
   refine zme X e8 (w1:=w1) (φn:=λx=>(∃k∈(if t.flat=true then [r] else [r,r2]),E.φ k x)\/x=w.heap.size) (f7 hr) b6 (by rw[<- G];rfl) (by rw[<- G];rfl) (by rw[<- G];rfl) (by omega) (λx d _=>c6 x d) ?_ ?_ ?_
   .rintro x (d|rfl)
    .exact .inl d
    .exact .inr ⟨qW _,by omega⟩
   .refine Rep.join (arr:=B.toArray++a.toArray++zs) (e:=e) (V1:=V1) (V2:=V2) (K1:=K1) (K2:=K) ?_ (by simp only[big];omega) e5 ?_ (.inr rfl) ?_ ?_ ?_ ?_ ?_ ?_ hd1 f9 ?_
    .rw [<- G];exact heap_alloc_new w.drew _
    .simp only [Array.size_append,j7,V,L,hzs,<- kT];have:f.length+l.length+(M-(f.length+l.length))=M:=by omega
     rw[this];omega
    .intro i j g q;have:=a5 i j g q;rw[jX,uM,j4 (by simp[V];exact this)]
     simpa using ho1 i j g q
    .intro i j g q;have:=a6 i j g q;rw[jX,kT,uM,kH (by simp[V];omega),j4 (by simp[V,L];omega)]
     rw[<- f5 i j g q];simp only[j7,V,jG]
     congr 1
     omega
    .intro i x d j c D;have O:i<f.length:=(qA.1 d).1;have S:j<t.width:=by have:=(qA.1 D).1;rw[zds] at this;exact this
     exact(e4 i x d j c D).frame (λy hy=>d2 r R hR y (b3 i j y O S hy))
    .refine f8 w1 ?_
     rintro x ⟨k,m,_,d⟩
     obtain⟨Q,N,_⟩:=b6 k m;exact d2 k Q N x d
    .intro i j x g q m;have:=b3 i j x g q m;exact⟨.inl ⟨r,Z,this⟩,λe=>by have:=X.mem.rlt r R hR x this;omega⟩
    .intro i j x g q m;obtain⟨k,b3,_,d⟩:=c8 i j x g q m;obtain⟨Q,N,_⟩:=b6 k b3;exact⟨.inl ⟨k,b3,d⟩,λe=>by have:=X.mem.rlt k Q N x d;omega⟩
    .intro i j i' j' x g q O S m e9;obtain⟨k,b4,c4,d⟩:=c8 i' j' x O S e9;exact A x k b4 c4 d (b3 i j x g q m)
   .intro k m Q N;refine⟨((X.mem.rep k Q N).frame (d2 k Q N)).ro,λp u hp=>?_⟩;rw[zc6 p (X.mem.rep k Q N)<|d2 k Q N];exact hp
  generalize h9:E.ρ r=v1 at *;have d9:z.cells.size=t.width:=by rw[<- kR,hzc];simp[zfd]
  cases a3 with
  |nil=>
   have hr:=run_append_nil (P:=C.P) w T o.type e i z hE.und g hz ⟨b2,J,none⟩ l.length W a (by rw[hs];exact L) f4 hm0 (by omega) (by
    have:=uQ (show l.length<=2147483648 by omega) g8
    omega)
   have e7:=grownCap_ge w l.length 0 e;refine b7 [] (grownCap w l.length 0 e) (λ_ _=>undef) (λ_ _ _=>False) (Builtin.zeroCells z.cells<|grownCap w l.length 0 e-l.length) (by simp) (by simpa using e7) (by simp[size_zeroCells,d9]) (λi j g=>by simp at g) (λi x d=>by simp at d) (λ_ _ _ _ _ h=>h.elim) (λ_ _ _ _ _ _ _ _ _ h=>h.elim) ?_;rw[hr];simp
  |void _ _ _ ho=>cases ho
  |sl _ _ b I b0 H e1 fz V1 K1 _ hb hfz f2 b8 d8 b1 F a0 c7 b9=>
   have h5:=hfz rfl;subst h5;have hmul1:f.length*t.width<=b0*t.width:=qS _ b8;by_cases a4:f.length+l.length<=b0;{have f3:(f.length+l.length)*t.width<=b0*t.width:=qS _ a4;rw[kT]at f3;have hr:=run_append_room' (P:=C.P) (w:=w) T o.type e i hE.und g b I f.length b0 H e1 hb ⟨b2,J,none⟩ l.length W a (by rw[hs];exact L) f4 hn1 a4 (by rw[hs,L];omega);rw[hs]at hr;have e3:I+f.length*t.width+a.length<=H.toList.length:=(by rw[L];simp;omega);generalize G:w.setRow b (splice H.toList (I+f.length*t.width) a).toArray=w1 at hr;have g7:w1.heap[b]?=some (.cells (splice H.toList (I+f.length*t.width) a).toArray e1 (0,0)):=(by rw[<- G];exact setRow_heap w b _ _ e1 _ hb);have Y:∀x,x≠b->w1.heap[x]?=w.heap[x]?:=λx d=>(by rw[<- G];exact setRow_other w b x _ d);have d4:(splice H.toList (I+f.length*t.width) a).toArray.size=H.size:=(by rw[j7,ziS _ _ _ e3];simp);have a8:∀k,k<I+f.length*t.width->(splice H.toList (I+f.length*t.width) a).toArray[k]?=H[k]?:=(by intro k m;rw[jG,ze2 _ _ _ e3 k<|.inl m];simp);have e0:Rows true w t f H I b V1 K1 (E.φ r):=⟨F,a0,c7,b9⟩;obtain⟨k1,k2⟩:=Rep.behind (w1:=w1) f2 b8 d8 b1 e0 hb g7 d4 a8 Y;have a5:∀i j,i<f.length->j<t.width->i*t.width+j<f.length*t.width:=(by intro i j g q;have:(i+1)*t.width<=f.length*t.width:=qS _ g;rw[jL] at this;omega);refine zme X e8 (w1:=w1) (φn:=λx=>∃k∈(if t.flat=true then [r] else [r,r2]),E.φ k x) (f7 hr) b6 (by rw[<- G];rfl) (by rw[<- G];rfl) (by rw[<- G];rfl) (by rw[<- G];simp) (λx d hnk=>Y x λe=>hnk r Z (e ▸ b1)) (λx d=>.inl d) ?_ ?_;{refine Rep.join (arr:=(splice H.toList (I+f.length*t.width) a).toArray) (e:=e1) (V1:=V1) (V2:=V2) (K1:=K1) (K2:=K) g7 (by simp only[big];omega) a4 (by rw[d4];exact d8) ⟨r,Z,b1⟩ ?_ ?_ ?_ ?_ ?_ ?_ (a0 rfl) f9 ?_;{intro i j g q;have:=a5 i j g q;rw[a8 _ (by omega)];exact c7 i j g q};{intro i j g q;have:=a6 i j g q;rw[jG,kT,zfe _ _ _ e3 _ (by omega) (by rw[L];omega),<- f5 i j g q];congr 1;omega};{intro i x d j c D;have O:i<f.length:=(qA.1 d).1;have S:j<t.width:=(by have:=(qA.1 D).1;rw[zds] at this;exact this);exact(b9 i x d j c D).frame (λy hy=>Y y ((F i j y O S hy).2 rfl))};{refine f8 w1 ?_;rintro x ⟨k,m,b5,d⟩;exact Y x (λe=>A x k m b5 d (e ▸ b1))};{intro i j x g q m;exact⟨⟨r,Z,(F i j x g q m).1⟩,(F i j x g q m).2 rfl⟩};{intro i j x g q m;obtain⟨k,b4,c4,d⟩:=c8 i j x g q m;exact⟨⟨k,b4,d⟩,λe=>A x k b4 c4 d (e ▸ b1)⟩};{intro i j i' j' x g q O S m e9;obtain⟨k,b4,c4,d⟩:=c8 i' j' x O S e9;exact A x k b4 c4 d (F i j x g q m).1}};{intro k m Q N;by_cases b5:k=r;{subst b5;rw[hR]at N;cases N;rw[g5,h9];exact⟨k1.ro,k2⟩};{have h4:∀x,E.φ k x->w1.heap[x]?=w.heap[x]?:=λx d=>Y x (λe=>A x k m b5 d (e ▸ b1));refine⟨((X.mem.rep k Q N).frame h4).ro,λp u hp=>?_⟩;rw[zc6 p (X.mem.rep k Q N) h4];exact hp}}}
   .generalize holds:(H.toList.drop I).take (f.length*t.width)=B;have V:B.length=f.length*t.width:=(by rw[<- holds];simp;omega);have d6:∀k,k<f.length*t.width->B[k]?=H[I+k]?:=by intro k m;rw[<- holds,jJ,if_pos m,jO];simp
    have hr:=run_append_grow (P:=C.P) w T o.type e i z hE.und g hz ⟨b,I,none⟩ f.length b0 B (by rw[hs];exact V) (λj u hu=>by
     have q:j<f.length*t.width:=by rw[<- V];exact(qA.1 hu).1
     rw[add_lit,cell_of_block hb,<- d6 j q];exact hu) ⟨b2,J,none⟩ l.length W a (by rw[hs];exact L) f4 (by omega) (by omega) (growslice_fits (by omega) c9)
    have e7:=grownCap_ge w (f.length+l.length) b0 e;refine b7 B _ V1 K1 _ V e7 (by rw[size_zeroCells,d9]) (λi j g q=>?_) b9 (λi j x g q m=>(F i j x g q m).1) (a0 rfl) hr;have:(i+1)*t.width<=f.length*t.width:=qS _ g;rw[jL] at this;rw[d6 _ (by omega),<- uH];exact c7 i j g q
end
section
variable {C:Cfg} {w0 w w1:World} {S0:zY} {U:Nat->Prop} {st st1:St} {E E1:Env} {ts:Array Value} {sv:List (Array Value)}
theorem zP5 {place:Nat->Option (Nat×Nat)}{cells:Array Value}{i a b:Nat}{v:Value}{c:List (Nat×Value)}(m:place i=some (a,b))(g:v.cells.size=b)(n:a+b<=cells.size) :
 Instr.fill place cells ((i,v)::c)=Instr.fill place (splice cells.toList a v.cells.toList).toArray c:=by
 have d:a+v.cells.toList.length<=cells.toList.length:=by simp[g];exact n
 have e:v.cells.zipIdx.foldl (λh (x:Value×Nat)=>h.setIfInBounds (a+x.2) x.1) cells=(splice cells.toList a v.cells.toList).toArray:=by rw[<- Array.foldl_toList,Array.toList_zipIdx];obtain⟨p,l⟩:=Great.foldl_set a v.cells.toList 0 cells;apply Array.ext_getElem?;intro k;rw[l k];have j:(splice cells.toList a v.cells.toList).toArray[k]?=(splice cells.toList a v.cells.toList)[k]?:=jG;rw[j];by_cases f:a<=k/\k<a+v.cells.toList.length;{rw [zfe _ _ _ d k f.1 f.2,if_pos ⟨by omega,by omega,by simp at d;simp at f;omega⟩];simp};{rw [ze2 _ _ _ d k (by omega),if_neg (by omega)];simp}
 rw[Instr.fill,m];simp only;rw[if_neg (by simp[g];omega)]
 rw[<- e]
def aφ (E:Env):At->zY
 |.sl r []=>E.φ r
 |_=>λ_=>False
structure Given (st:St) (xs:List At) (cs:List CV) (ks:List Nat):Prop where
 len:cs.length=xs.length
 own:∀r∈ks,∃R,st.root r=some R/\R.own=true
 get:∀(k:Nat) (a:At),xs[k]?=some a->(∃k' n,a = .i k' n/\cs[k]?=some (.i k' n))\/(∃x,a = .b x/\cs[k]?=some (.b x))\/∃r R,a = .sl r []/\st.root r=some R/\r∈ks/\cs[k]?=some (.s R.t R.l)
 inj:∀(k k' r:Nat),xs[k]?=some (.sl r [])->xs[k']?=some (.sl r [])->k=k'
theorem zr3:∀(w:List At) (j:Nat) (c:Bool) (t:List CV) (u:List Nat),st.give none w j=some (c,t,u)->c=true/\Given st w t u
 |[],j,c,t,u,h=>by simp only[St.give,qC,jS]at h;obtain⟨rfl,rfl,rfl⟩:=h;exact⟨rfl,rfl,λr E=>by simp at E,λk a h=>by simp at h,λk f r h=>by simp at h⟩
 |a::r,j,c,t,u,h=>by
  simp only[St.give]at h;split at h;{cases h}
  .rename_i c' cs' ks' hg;obtain⟨B,b⟩:=zr3 r (j+1) c' cs' ks' hg;subst B;split at h;{rename_i k n;cases h;refine⟨rfl,by simp[b.len],b.own,λf a g=>?_,λm p s d e=>?_⟩;{cases f with|zero=>simp at g;subst g;exact .inl ⟨k,n,rfl,rfl⟩|succ f=>exact b.get f a (by simpa using g)};{cases m<;>cases p<;>simp at d e;exact congrArg _ (b.inj _ _ s d e)}};{rename_i x;cases h;refine⟨rfl,by simp[b.len],b.own,λf a g=>?_,λm p s d e=>?_⟩;{cases f with|zero=>simp at g;subst g;exact .inr (.inl ⟨x,rfl,rfl⟩)|succ f=>exact b.get f a (by simpa using g)};{cases m<;>cases p<;>simp at d e;exact congrArg _ (b.inj _ _ s d e)}}
   .rename_i q;split at h
    .rename_i R hR;split at h
     .rename_i hcond;cases h;simp only[vF,qE,jF,jM,decide_eq_false_iff_not]at hcond;have i:∀k:Nat,r[k]?≠some (At.sl q []):=(by intro k C;rcases b.get k _ C with⟨_,_,h,_⟩|⟨_,h,_⟩|⟨v,_,h,_,D,_⟩;{cases h};{cases h};{cases h;exact hcond.2 D});refine⟨rfl,by simp[b.len],?_,λf a g=>?_,λm p s d e=>?_⟩;{intro v l;rcases qG.1 l with rfl|l;{exact⟨R,hR,hcond.1⟩};{exact b.own v l}}
      .cases f with
       |zero=>simp at g;subst g;exact .inr (.inr ⟨q,R,rfl,hR,by simp,rfl⟩)
       |succ f =>rcases b.get f a (by simpa using g) with h|h|⟨v,y,d,e,z,A⟩;{exact .inl h};{exact .inr (.inl h)};{exact .inr (.inr ⟨v,y,d,e,by simp[z],A⟩)}
      {cases m<;>cases p<;>simp at d e;{rfl};{subst d;exact absurd e (i _)};{subst e;exact absurd d (i _)};{exact congrArg _ (b.inj _ _ s d e)}}
     {cases h}
    {cases h}
   {cases h};{cases h}
theorem Given.rep {p:List At}{j:List CV}{ks:List Nat}(l:Given st p j ks)(q:Mem w0 S0 st E w){k:Nat}{a:At}{c:CV}{u:Value}(s:p[k]?=some a)(f:j[k]?=some c)(g:VA w st E a u):Rep true w u c (aφ E a):=by rcases l.get k a s with⟨z,n,rfl,h⟩|⟨x,rfl,h⟩|⟨r,R,rfl,e,t,h⟩;{rw [f]at h;cases h;cases g;exact .i _ _ _};{rw [f]at h;cases h;cases g;exact .b _ _};{rw [f]at h;cases h;have:=g.2 R e;simp only[zba,qC] at this;subst this;have m:=q.rep r R e;obtain⟨y,d,v⟩:=l.own r t;rw[e]at d;cases d;rw[v]at m;exact m}
theorem Given.fi {d:List At}{e:List CV}{c:List Nat}(f:Given st d e c){k:Nat}{a:At}{x:Nat}(g:d[k]?=some a)(b:aφ E a x):∃r∈c,a = .sl r []/\E.φ r x:=by rcases f.get k a g with⟨l,n,rfl,h⟩|⟨x,rfl,h⟩|⟨r,R,rfl,j,i,h⟩;{exact b.elim};{exact b.elim};{exact⟨r,i,rfl,b⟩}
theorem Mem.own_apart (f:Mem w0 S0 st E w){r a:Nat}{R c:Root}(g:st.root r=some R)(i:R.own=true)(b:st.root a=some c)(d:c.own=true){x:Nat}(j:E.φ r x)(e:E.φ a x):r=a:=by by_cases h:r=a;{exact h};{exact absurd e (f.apart r R a c g i b (f.mine a c b d).1 h x j)}
theorem zx2 {T:TypeId}{d:List (Nat×Nat)}(q:∀f c n,C.fof T f=some (c,n)->d[f]?=some (c,n)){st1:St}{ev:Operand->Value}(p:∀x y,st.opnd x=some (.v y)->VT w st1 E1 y (ev x)) :
 ∀(g:List (Nat×Operand)) (i e:List At) (cells:Array Value),layParts C T st g i=some e->cells.size=i.length->
  (∀(j:Nat) (a:At) (u:Value),i[j]?=some a->cells[j]?=some u->u.oneCell'=true/\VA w st1 E1 a u)->
  ∃b:Array Value,Instr.fill (d[·]?) cells (g.map λx=>(x.1,ev x.2))=some b/\b.size=e.length/\
   (∀(j:Nat) (a:At) (u:Value),e[j]?=some a->b[j]?=some u->u.oneCell'=true/\VA w st1 E1 a u)
 |[],i,e,cells,h,s,E=>by cases h;exact⟨cells,rfl,s,E⟩
 |(f,x)::r,i,e,cells,h,s,E=>by simp only[layParts]at h;split at h;{rename_i c n y I F;split at h;{rename_i H;obtain⟨D,m⟩:=H;have J:=p x y F;obtain⟨z,G⟩:=VT.cells J (ztQ F);have l:c+(zV y).length<=i.length:=(by rw[D];exact m);have k:c+(ev x).cells.toList.length<=cells.toList.length:=(by simp[z,D,s];exact m);simp only[jD];rw[zP5 (q f c n I) (by rw[z,D]) (by rw[s];exact m)];refine zx2 q p r (splice i c<|zV y) e _ h (by rw[j7,ziS _ _ _ k,ziS _ _ _ l];simpa using s) ?_;intro j a u A t;rw[jG]at t;by_cases B:c<=j/\j<c+(zV y).length;{rw [zfe _ _ _ l j B.1 B.2]at A;rw[zfe _ _ _ k j B.1 (by simp[z];exact B.2)]at t;exact G _ a u A (by simpa using t)};{rw [ze2 _ _ _ l j (by omega)]at A;rw[ze2 _ _ _ k j (by simp[z];omega)]at t;exact E j a u A (by simpa using t)}};{cases h}};{cases h}
theorem zC8 {T:TypeId}:∀(d:List (Nat×Operand)) (e b:List At),layParts C T st d e=some b->∀a∈b,a∈e\/∃x y,st.opnd x=some (.v y)/\a∈zV y
 |[],e,b,h,a,g=>by cases h;exact .inl g
 |(f,x)::r,e,b,h,a,g=>by simp only[layParts]at h;split at h;{rename_i j n y k i;split at h;{rcases zC8 r _ b h a g with c|c;{simp only [splice,jH]at c;rcases c with (c|c)|c;{exact .inl (jT c)};{exact .inr ⟨x,y,i,c⟩};{exact .inl (kM c)}};{exact .inr c}};{cases h}};{cases h}
theorem z9v (L:CfgOk C)(f:Sim w0 S0 U st E ts sv w){o:Oper}{id:Nat}(D:∀n,Mine id n->¬ U n){T:TypeId}{b:Array (Nat×Operand)}{d:Dl}(M:o.op = .build T b)(h:delta C st o id=some d):Goes C w0 S0 U st ts sv w o id (λst=>st.apply o.dst d):=by
 simp only[delta,M]at h;split at h
 .rename_i tys hT;split at h
  .rename_i l hcs;split at h
   .rename_i hle;cases h;obtain⟨t,p⟩:=f.mem.zeroRoots f.ids.mem D hle;obtain⟨fs,s,I,G,F⟩:=L.str T tys hT;obtain⟨i,z,W,hs,Z,q⟩:=(L.cty T true tys hT).info;have H:z.cells.size=(zeros tys id).length:=by rw[zDW,<- kR,q];simp
    obtain⟨cells,V,A,B⟩:=zx2 (w:=w) (st1:={st with ro:=Go.Proofs.YtjapbkodhfpbbaaGreat.E.zeroRoots tys id++st.ro}) (E1:=ziC E id) (ev:=({tmps:=ts,defers:=[]}:Act).eval) F
     (λx y J=>by
      obtain⟨e,r⟩:=zcb f J;exact VT.tr p (λa g n c=>r n (by simp only[MV.ids,zbI,qP];exact⟨a,g,c⟩)) e)
     b.toList (zeros tys id) l z.cells hcs H (λj a u g I=>by
      obtain⟨ct,e,r,N,_⟩:=zve (E:=E) hle g;have:z.cells.toList[j]?=some u:=by simpa using I
      rw[q,qQ,e] at this;cases this;exact⟨r,N _ _⟩)
    refine zkb f (v:=.agg cells) (mv:=.v (.agg l)) ?_ (.inl rfl) t p rfl rfl rfl ?_ (λn l c=>⟨.inl (f.ids.lo n l c).1,λa g m Y=>.inl ((f.ids.lo n l c).2 a g m Y)⟩) ⟨cells,rfl,A,B⟩ ?_;{have S:C.P.built T (b.map λx=>(x.1,({tmps:=ts,defers:=[]}:Act).eval x.2)).toList=some cells:=(by simp only[Program.built,W,I,Z,G,uB];simpa using V);have:=run_build (P:=C.P) w T _ cells S;simp[execOp,M,this]};{intro n R c;simp only[zbM]at c;split at c;{rename_i Q O;obtain⟨e,r,_⟩:=ziD tys id n Q O;exact .inr ⟨e,by omega⟩};{exact .inl (f.ids.ro n R c)}};{intro n c;simp only[MV.ids,zbI,zV,qP]at c;obtain⟨a,g,c⟩:=c;rcases zC8 b.toList _ l hcs a g with e|⟨x,y,J,e⟩;{obtain⟨k,X⟩:=qU.1 e;obtain⟨_,_,_,_,K⟩:=zve (E:=E) hle X;exact .inr ⟨(K n c).1,by have:=(K n c).2;omega⟩};{exact .inl ((zcb f J).2 n (by simp only[MV.ids,zbI,qP];exact⟨a,e,c⟩))}}
   {cases h}
  {cases h}
 {cases h}
end
section
variable {C:Cfg} {w0 w w1:World} {S0:zY} {U:Nat->Prop} {st st1:St} {E E1:Env} {ts:Array Value} {sv:List (Array Value)}
theorem zXG (t:Ty):t.width<=16:=by cases t<;>simp [Ty.width]
structure Laid (w:World) (st:St) (E:Env) (t:Ty) (l:List t.den) (ks:List Nat) (cells:Array Value):Prop where
 size:cells.size=l.length*t.width
 own:∀r∈ks,∃R,st.root r=some R/\R.own=true
 rows:∃V K,Rows true w t l cells 0 w.heap.size V K (fun x=>∃r∈ks,E.φ r x)
theorem zyi (hM:Mem w0 S0 st E w){t:Ty}{ev:Operand->Value}(a7:∀x y,st.opnd x=some (.v y)->VT w st E y (ev x)) :
 ∀(L:List (Nat×Operand)) (l:List t.den) (X:List Nat) (l':List t.den) (J:List Nat) (cells:Array Value),rowParts st t L l X=some (l',J)->Laid w st E t l X cells->
  ∃b,Instr.fill (fun i=>some (i*t.width,t.width)) cells (L.map fun x=>(x.1,ev x.2))=some b/\l'.length=l.length/\Laid w st E t l' J b
 |[],l,X,l',J,cells,h,Y=>by simp only[rowParts,qC,jS]at h;obtain⟨rfl,rfl⟩:=h;exact⟨cells,rfl,rfl,Y⟩
 |(i,x)::r,l,X,l',J,cells,h,Y=>by
  simp only[rowParts]at h;split at h
  .rename_i y hx;split at h
   .rename_i cs k2 hg;split at h
    .rename_i d hd;split at h
     .rename_i hcond;simp only[qE,q0,qM,jF,jM,decide_eq_false_iff_not]at hcond;obtain⟨b0,G⟩:=hcond;obtain⟨_,O⟩:=zr3 _ _ _ _ _ hg;have a6:=zkD hd;have a5:cs.length=t.width:=(by rw[<- a6,zds]);obtain⟨c1,c2⟩:=VT.cells (a7 x y hx) (ztQ hx);have b5:(zV y).length=t.width:=(by rw[<- O.len,a5]);have W:(ev x).cells.size=t.width:=(by rw[c1,b5]);have a2:(i+1)*t.width<=l.length*t.width:=qS _ b0;rw[jL]at a2;have a0:i*t.width+t.width<=cells.size:=(by rw[Y.size];exact a2);have hb:i*t.width+(ev x).cells.toList.length<=cells.toList.length:=(by simp[W];exact a0);obtain⟨V,K,Z⟩:=Y.rows;have a1:∀r∈k2++X,∃R,st.root r=some R/\R.own=true:=fun r hr=>(jH.1 hr).elim (O.own r) (Y.own r);have a3:∀j,j<t.width->∃a u,(zV y)[j]?=some a/\(ev x).cells[j]?=some u/\VA w st E a u:=by intro j M;have N:j<(zV y).length:=(by omega);have B:j<(ev x).cells.size:=(by omega);have e1:=qB N;have e2:(ev x).cells[j]?=some (ev x).cells[j]:=jI B;exact⟨_,_,e1,e2,(c2 j _ _ e1 e2).2⟩
      have g:∀j z,j<t.width->(match (zV y)[j]? with|some a=>aφ E a|none=>fun _=>False) z->∃a,(zV y)[j]?=some a/\∃r∈k2,a = .sl r []/\E.φ r z:=by
       intro j z M A;obtain⟨a,u,F,_,_⟩:=a3 j M;rw[F]at A;exact⟨a,F,O.fi F A⟩
      have a4:∀r∈k2++X,∀z,E.φ r z->z<w.heap.size:=by intro r hr z A;obtain⟨R,Z,_⟩:=a1 r hr;exact hM.rlt r R Z z A
      have b1:Laid w st E t (l.set i d) (k2++X) (splice cells.toList (i*t.width) (ev x).cells.toList).toArray:=by
       refine⟨by rw[j7,ziS _ _ _ hb];simpa using Y.size,a1,?_⟩;refine⟨fun f j=>if f=i then ((ev x).cells[j]?).getD undef else V f j,fun f j=>if f=i then (match (zV y)[j]? with|some a=>aφ E a|none=>fun _=>False) else K f j,?_,?_,?_,?_⟩;{intro f j z hi M A;by_cases Q:f=i;{simp only [if_pos Q]at A;obtain⟨a,F,r,hr,_,U⟩:=g j z M A;have hm:r∈k2++X:=j5 _ hr;exact⟨⟨r,hm,U⟩,fun _ e=>by have:=a4 r hm z U;omega⟩};{simp only [if_neg Q]at A;obtain⟨⟨r,hr,U⟩,B⟩:=Z.sub f j z (by simpa using hi) M A;exact⟨⟨r,kI _ hr,U⟩,B⟩}};{intro _ i1 j1 i2 j2 z a8 S a9 T n p;by_cases N:i1=i<;>by_cases B:i2=i;{simp only [if_pos N]at n;simp only[if_pos B]at p;obtain⟨a,F,r1,q,rfl,k⟩:=g j1 z S n;obtain⟨a,b2,r2,s,rfl,m⟩:=g j2 z T p;obtain⟨R1,C,H⟩:=O.own r1 q;obtain⟨R2,D,I⟩:=O.own r2 s;have:=hM.own_apart C H D I k m;subst this;exact⟨N.trans B.symm,O.inj j1 j2 r1 F b2⟩};{simp only [if_pos N]at n;simp only[if_neg B]at p;obtain⟨a,F,r1,q,_,k⟩:=g j1 z S n;obtain⟨⟨r2,s,m⟩,_⟩:=Z.sub i2 j2 z (by simpa using a9) T p;obtain⟨R1,C,H⟩:=O.own r1 q;obtain⟨R2,D,I⟩:=Y.own r2 s;have:=hM.own_apart C H D I k m;subst this;exact absurd s (G r1 q)};{simp only [if_neg N]at n;simp only[if_pos B]at p;obtain⟨a,F,r1,q,_,k⟩:=g j2 z T p;obtain⟨⟨r2,s,m⟩,_⟩:=Z.sub i1 j1 z (by simpa using a8) S n;obtain⟨R1,C,H⟩:=O.own r1 q;obtain⟨R2,D,I⟩:=Y.own r2 s;have:=hM.own_apart C H D I k m;subst this;exact absurd s (G r1 q)};{simp only [if_neg N]at n;simp only[if_neg B]at p;exact Z.dis rfl i1 j1 i2 j2 z (by simpa using a8) S (by simpa using a9) T n p}}
       .intro f j hi M;have b4:f<l.length:=(by simpa using hi);rw[jG];by_cases Q:f=i;{subst Q;simp only[if_true];rw[zfe _ _ _ hb _ (by omega) (by simp[W];omega)];obtain⟨a,u,_,hu,_⟩:=a3 j M;rw[hu];have e:0+f*t.width+j-f*t.width=j:=(by omega);rw[e];simpa using hu}
        .simp only [if_neg Q];rw[ze2 _ _ _ hb _ (by
          simp only[kR,W];rcases vA f i with a4|b6
          .left
           have:(f+1)*t.width<=i*t.width:=qS _ a4;rw[jL] at this;omega
          .right
           have:(i+1)*t.width<=f*t.width:=qS _ (by omega)
           rw[jL] at this;omega)]
         simpa using Z.val f j b4 M
       {intro f z A j c P;by_cases Q:f=i;{subst Q;simp only[if_true];rw[q9]at A;simp only[if_true,if_pos b0]at A;cases A;rw[a6]at P;have M:j<t.width:=(by rw[<- a5];exact(qA.1 P).1);obtain⟨a,u,F,hu,b3⟩:=a3 j M;rw[F,hu];exact O.rep hM F P b3};{simp only [if_neg Q];rw[q9,if_neg (fun e=>Q e.symm)]at A;exact Z.con f z A j c P}}
      obtain⟨b,N,B,h3⟩:=zyi hM a7 r (l.set i d) (k2++X) l' J _ h b1;refine⟨b,?_,by rw[B];simp,h3⟩;simp only[jD];rw[zP5 (place:=fun i=>some (i*t.width,t.width)) rfl W a0];exact N
     {cases h}
    {cases h}
   {cases h}
  {cases h}
structure LaidZ (w:World) (st:St) (E:Env) (t:Ty) (l:List t.den) (ks:List Nat) (cells:Array Value):Prop where
 size:cells.size=l.length*t.width
 own:∀r∈ks,∃R,st.root r=some R/\R.own=true
 rows:∃V K,Rows false w t l cells 0 w.heap.size V K (fun x=>∃r∈ks,E.φ r x)
structure LaidV (w:World) (st:St) (E:Env) (t:Ty) (l:List t.den) (cells:Array Value):Prop where
 size:cells.size=l.length*t.width
 rows:∃V K,Rows false w t l cells 0 w.heap.size V K (fun x=>∃r R,st.root r=some R/\E.φ r x)
theorem zLQ {P:Program}{w:World}(t e:TypeId)(len:Nat)(a:Array (Nat×Value))(cells:Array Value)(d:TypeInfo)(z:Value)(g:P.underlying t=some (.slice e))(f:P.info? e=some d)(j:d.zero=some z)(c:¬ len*d.size>2 ^ 24)(h:Instr.fill (λi=>some (i*d.size,d.size)) (madeCells z.cells<|len*d.size) a.toList=some cells) :
 (Instr.buildSlice t len a).run P w = .ok (.slice (some ⟨w.heap.size,0,none⟩) len len) (w.alloc<|.cells cells e):=by
 by_cases b:len*d.size=0
 .rw [b]at h;have k:madeCells z.cells 0 = #[]:=by simp[madeCells,Array.range_zero']
  rw[k]at h;simp[Instr.buildSlice,run_underlying g,sizeOf,typeInfo,zeroValue,f,j,b,h,newRow,Array.range_zero']
 .exact run_buildSlice w t e len a cells d z g f j c b h
theorem zVa (hC:CfgOk C)(R:Sim w0 S0 U st E ts sv w){o:Oper}{id:Nat}(W:∀n,Mine id n->¬ U n){T:TypeId}{len:Nat}{g:Array (Nat×Operand)}{d:Dl}(ho:o.op = .buildSlice T len g)(h:delta C st o id=some d):Goes C w0 S0 U st ts sv w o id (λst=>st.apply o.dst d):=by
 simp only[delta,ho]at h;split at h
 .rename_i t hT;split at h
  .rename_i l ks hr;split at h
   .rename_i hle;cases h;obtain⟨e,hE⟩:=hC.sty T t hT;obtain⟨i,z,F,hs,hz,a1,a2⟩:=hE.info;have G:=R.mem;have O:Laid w st E t (List.replicate len t.dflt) [] (madeCells z.cells<|len*t.width):=(by refine⟨by simp[size_madeCells],λr hr=>by simp at hr,λ_ j=>((t.shape[j]?).map zeroV).getD undef,λ_ _ _=>False,λ_ _ _ _ _ h=>h.elim,λ_ _ _ _ _ _ _ _ _ _ h=>h.elim,λi j F N=>?_,λi x a j c b=>?_⟩;{obtain⟨c,h1,h2⟩:=zDb a1 (by simpa using F) N;rw[jX,h2,h1];rfl};{rw [kF]at a;split at a;{cases a;rw[zJQ,qQ]at b;cases J:t.shape[j]? with|none=>rw[J]at b;cases b|some ct=>rw[J]at b;cases b;exact zU5 true _ ct _};{cases a}});obtain⟨cells,hf,Z,M⟩:=zyi G (ev:=({tmps:=ts,defers:=[]}:Act).eval) (λx y a=>(zcb R a).1) g.toList _ [] l ks _ hr O;have q:l.length=len:=(by rw[Z];simp);have s:¬ len*i.size>2 ^ 24:=(by rw[hs];have:=uQ hle (zXG t);omega);have A:=zLQ (P:=C.P) (w:=w) T e len (g.map λx=>(x.1,({tmps:=ts,defers:=[]}:Act).eval x.2)) cells i z hE.und F hz s (by rw[hs,uB];exact hf);obtain⟨V,K,D⟩:=M.rows;generalize m:w.alloc (.cells cells e)=w1 at A;have f:∀x,x<w.heap.size->w1.heap[x]?=w.heap[x]?:=λx a=>(by rw[<- m];exact heap_alloc_old w _ x a);have a0:w1.heap.size=w.heap.size+1:=(by rw[<- m];simp);have I:∀k∈ks,∀x,E.φ k x->x<w.heap.size:=λk B x a=>(by obtain⟨Q,H,_⟩:=M.own k B;exact G.rlt k Q H x a);refine zme R W (w1:=w1) (v:=.slice (some ⟨w.heap.size,0,none⟩) len len) (φn:=λx=>(∃k∈ks,E.φ k x)\/x=w.heap.size) ?_ M.own (by rw[<- m];rfl) (by rw[<- m];rfl) (by rw[<- m];rfl) (by omega) (λx a _=>f x a) ?_ ?_ ?_;{simp [execOp,ho,A]};{rintro x (a|rfl);{exact .inl a};{exact .inr ⟨qW _,by omega⟩}}
    .have hcsz:cells.size=len*t.width:=by rw[M.size,q]
     have:=Rep.sl (o:=true) (w:=w1) t l w.heap.size 0 len cells e (0,0) V K (λx=>(∃k∈ks,E.φ k x)\/x=w.heap.size) (by rw[<- m];exact heap_alloc_new w _) (λ_=>rfl) (by rw[q];simp only[big];omega) (by omega) (by omega) (.inr rfl)
      (λi j x F N B=>⟨.inl (D.sub i j x F N B).1,(D.sub i j x F N B).2⟩) D.dis D.val
      (λi x a j c b=>by
       have S:i<l.length:=(qA.1 a).1;have X:j<t.width:=by have:=(qA.1 b).1;rw[zds] at this;exact this
       refine(D.con i x a j c b).frame (λy hy=>?_);obtain⟨⟨k,B,Y⟩,_⟩:=D.sub i j y S X hy;exact f y (I k B y Y))
     rw[q] at this;exact this
    {intro k B Q H;have L:∀x,E.φ k x->w1.heap[x]?=w.heap[x]?:=λx a=>f x (G.rlt k Q H x a);refine⟨((G.rep k Q H).frame L).ro,λp u hp=>?_⟩;rw[zc6 p (G.rep k Q H) L];exact hp}
   {cases h}
  {cases h}
 {cases h}
end
def zdH (o:Bool)(w:World)(cvs:List CV)(a:List Value)(K:Nat->zY):Prop :=
 a.length=cvs.length/\∀(i:Nat) (c:CV) (x:Value),cvs[i]?=some c->a[i]?=some x->Rep o w x c (K i)
def zo2 (f:FuncId):CV->Bool
 |.s t _=>zcW f t
 |_=>true
def ztG (o:CV->Bool)(w:World)(cvs:List CV)(a:List Value)(K:Nat->zY):Prop :=
 a.length=cvs.length/\∀(i:Nat) (c:CV) (x:Value),cvs[i]?=some c->a[i]?=some x->Rep (o c) w x c (K i)
theorem zdH.o {o:CV->Bool}{w:World}{cvs:List CV}{d:List Value}{K:Nat->zY}(h:zdH true w cvs d K):ztG o w cvs d K :=
 ⟨h.1,λi c x a b=>by cases o c;exact(h.2 i c x a b).ro;exact h.2 i c x a b⟩
def zD (rs:List AV):List CV:=rs.flatMap AV.cvs
def zbZ:List AV->List Value->List Value
 |[],_=>[]
 |.one _::r,a=>a.headD undef::zbZ r (a.drop 1)
 |.agg b::r,a=>.agg (a.take b.length).toArray::zbZ r (a.drop b.length)
def zkh:List Value->Value
 |[x]=>x
 |l=>.tuple l.toArray
structure Grown (w w':World):Prop where
 os:w'.os=w.os
 tape:w'.tape=w.tape
 output:w'.output=w.output
 size:w.heap.size<=w'.heap.size
 keep:∀b,b<w.heap.size->w'.heap[b]?=w.heap[b]?
structure FnOk (P:Program) (f:FuncId):Prop where
 ok:∃fn b,P.funcs[f]?=some fn/\fn.body=some b/\(fn.name == "runtime.NumGoroutine")=false
structure Fresh (w w':World) (n:Nat) (K:Nat->zY):Prop where
 lt:∀i x,i<n->K i x->w.heap.size<=x/\x<w'.heap.size
 dis:∀i j x,i<n->j<n->K i x->K j x->i=j
structure FreshO (o:CV->Bool) (w w':World) (cvs:List CV) (K:Nat->zY):Prop where
 lt:∀i x,i<cvs.length->K i x->w.heap.size<=x/\x<w'.heap.size
 dis:∀i j c x,cvs[i]?=some c->o c=true->j<cvs.length->K i x->K j x->i=j
theorem Fresh.o {o:CV->Bool}{w w':World}{cvs:List CV}{K:Nat->zY}(h:Fresh w w' cvs.length K):FreshO o w w' cvs K :=
 ⟨h.lt,λi j c x b _ d e a=>h.dis i j x (qA.1 b).1 d e a⟩
def Holds (P:Program)(f:FuncId)(d:List AV->Option (Bool×List AV)):Prop :=
 FnOk P f/\∀(w:World) (a:List AV) (e:List Value) (c:List AV),zdH false w (zD a) e (λ_ b=>b<w.heap.size)->d a=some (true,c)->
  Calls P f (zbZ a e).toArray w fun
   |.returned v,w'=>Grown w w'/\∃(g:List Value) (K:Nat->zY),ztG (zo2 f) w' (zD c) g K/\v=zkh (zbZ c g)/\FreshO (zo2 f) w w' (zD c) K
   |_,_=>False
def zSG (P:Program)(f:FuncId)(d:List AV->Option (Bool×List AV)):Prop :=
 FnOk P f/\∀(w:World) (a:List AV) (e:List Value) (c:List AV),zdH false w (zD a) e (λ_ b=>b<w.heap.size)->d a=some (true,c)->
  Calls P f (zbZ a e).toArray w fun
   |.returned v,w'=>Grown w w'/\∃(g:List Value),zdH true w' (zD c) g (λ_ _=>False)/\v=zkh ((zbZ a e).headD undef::zbZ c g)
   |_,_=>False
def zJx (P:Program)(f:FuncId)(a:CV->Int->Option (Bool×CV×Int)):Prop :=
 FnOk P f/\∀(w:World) (v:Value) (t:Ty) (l:List t.den) (k:Int) (S:zY) (d:CV) (e:Int),Rep true w v (.s t l) S->(∀x,S x->x<w.heap.size)->a (.s t l) k=some (true,d,e)->
  Calls P f #[v,.int .i64 k] w fun
   |.returned u,w'=>w'.os=w.os/\w'.tape=w.tape/\w'.output=w.output/\w.heap.size<=w'.heap.size/\(∀b,b<w.heap.size->¬ S b->w'.heap[b]?=w.heap[b]?)/\u = .int .i64 e/\
    ∃c:zY,Rep true w' v d c/\∀x,c x->(S x\/w.heap.size<=x)/\x<w'.heap.size
   |_,_=>False
section
variable {C:Cfg} {w0 w w1:World} {S0:zY} {U:Nat->Prop} {st st1:St} {E E1:Env} {ts:Array Value} {sv:List (Array Value)}
theorem zdH.append {o:Bool}{a g:List CV}{x1 k:List Value}{K:Nat->zY}(b:zdH o w a x1 K)(h:zdH o w g k λi=>K (a.length+i)):zdH o w (a++g) (x1++k) K:=by refine⟨by simp[b.1,h.1],λi c x d f=>?_⟩;by_cases j:i<a.length;{rw [qV j]at d;rw[qV (by rw[b.1];exact j)]at f;exact b.2 i c x d f};{rw [qR (by omega)]at d;rw[qR (by rw[b.1];omega),b.1]at f;have:=h.2 _ c x d f;have e:a.length+(i-a.length)=i:=(by omega);simp only at this;rw[e] at this;exact this}
theorem ztg (s:Sim w0 S0 U st E ts sv w){a:At}{u:Value}{c:CV}(d:st.cvOf a=some c)(g:VA w st E a u):Rep false w u c (λb=>b<w.heap.size)/\u.oneCell'=true:=by
 cases a with
 |i k n=>cases d;cases g;exact⟨.i _ _ _,rfl⟩
 |b x=>cases d;cases g;exact⟨.b _ _,rfl⟩
 |sl r p=>simp only[St.cvOf]at d;obtain⟨R,e,hg⟩:=zgm d;obtain⟨C,B,z,m,A,q,v⟩:=Rep.at p (s.mem.rep r R e) (g.2 R e);rw[hg]at m;cases m;exact⟨(q.weak λx y=>s.mem.rlt r R e x (v x y)).ro,q.one⟩
 |bad=>cases d
 |lp l h=>cases d
 |ep r p i h=>cases d
 |fn f j=>cases d
 |kp r J t=>cases d
theorem zy2 (p:Sim w0 S0 U st E ts sv w):∀(l:List Operand) (j:List AV),zcD (λx=>match st.opnd x with|some v=>st.avOf v|none=>none) l=some j->
 ∃n,zdH false w (zD j) n (λ_ b=>b<w.heap.size)/\l.map ({tmps:=ts,defers:=[]}:Act).eval=zbZ j n
 |[],j,h=>by cases h;exact⟨[],⟨rfl,λi c x h=>by simp[zD]at h⟩,rfl⟩
 |x::r,j,h=>by simp only[zcD]at h;split at h;{rename_i O d;split at h;{rename_i f N;cases h;obtain⟨n,m,F⟩:=zy2 p r f N;split at d;{rename_i Q y;obtain⟨G,-⟩:=zcb p y;unfold St.avOf at d;split at d;{rename_i a;split at d;{rename_i c K;cases d;obtain⟨J,P⟩:=ztg p K G;refine⟨({tmps:=ts,defers:=[]}:Act).eval x::n,?_,by simp[zbZ,F]⟩;have e:zD (AV.one c::f)=[c]++zD f:=(by simp[zD,AV.cvs]);rw[e];refine zdH.append (x1:=[({tmps:=ts,defers:=[]}:Act).eval x]) ⟨rfl,λi I u g q=>?_⟩ m;cases i with|zero=>simp at g q;subst g q;exact J|succ i=>simp at g};{cases d}};{rename_i l;split at d;{rename_i s t;cases d;obtain⟨H,A,z,B⟩:=G;obtain⟨D,L⟩:=znj t;have k:H.toList.length=s.length:=(by simp[z,D]);refine⟨H.toList++n,?_,?_⟩;{have e:zD (AV.agg s::f)=s++zD f:=(by simp[zD,AV.cvs]);rw[e];refine zdH.append ⟨k,λi I u g q=>?_⟩ m;have M:i<l.length:=(by rw[D];exact(qA.1 g).1);have C:=qB M;exact(ztg p (L i _ _ C g) (B i _ u C (by simpa using q)).2).1};{simp only [jD,zbZ,A,<- k,kO,k5,F,jQ]}};{cases d}};{cases d}};{cases d}};{cases h}};{cases h}
def zx1 (n:Nat):CV->At
 |.i k x=>.i k x
 |.b x=>.b x
 |.s _ _=>.sl n []
theorem zuB:∀(a:List CV) (id k:Nat),(zhp a id)[k]?=a[k]?.map (zx1<|id+k)
 |[],id,k=>by simp[zhp]
 |c::a,id,k=>by have e:zhp (c::a) id=zx1 id c::zhp a (id+1):=(by cases c<;>rfl);rw[e];cases k with|zero=>simp|succ k=>simp only[jN];rw[zuB a (id+1) k];congr 2;omega
theorem zzF:∀(a:List CV) (id:Nat),(zhp a id).length=a.length
 |[],_=>rfl
 |c::a,id=>by cases c<;>simp [zhp,zzF a<|id+1]
theorem zUu (own:Ty->Bool):∀(a:List CV) (id n:Nat) (R:Root),zo (zIe own a id) n=some R->id<=n/\∃t l,a[n-id]?=some (.s t l)/\R=⟨t,l,own t,none⟩
 |[],_,_,_,h=>by cases h
 |c::a,id,n,R,h=>by have d:zo (zIe own a<|id+1) n=some R->id<=n/\∃t l,(c::a)[n-id]?=some (.s t l)/\R=⟨t,l,own t,none⟩:=λh=>(by obtain⟨m,t,l,g,j⟩:=zUu own a (id+1) n R h;have e:n-id=(n-(id+1))+1:=(by omega);exact⟨by omega,t,l,by rw[e,jN];exact g,j⟩);cases c with|i k x=>exact d h|b x=>exact d h|s t l=>simp only[zIe,zo]at h;split at h;{rename_i f;simp only[qL]at f;subst f;cases h;exact⟨qW _,t,l,by simp,rfl⟩};{exact d h}
theorem zfE (own:Ty->Bool):∀(a:List AV) (id n:Nat) (R:Root),zo (zc2 own a id) n=some R->id<=n/\∃t l,(zD a)[n-id]?=some (.s t l)/\R=⟨t,l,own t,none⟩
 |[],_,_,_,h=>by cases h
 |x::a,id,n,R,h=>by have e:zD (x::a)=x.cvs++zD a:=(by simp[zD]);have h:zo (zIe own x.cvs id++zc2 own a (id+x.cvs.length)) n=some R:=h;rw[zbM]at h;rw[e];split at h;{rename_i Q g;cases h;obtain⟨d,t,l,b,c⟩:=zUu own x.cvs id n R g;refine⟨d,t,l,?_,c⟩;rw[qV (qA.1 b).1];exact b};{obtain⟨d,t,l,b,c⟩:=zfE own a (id+x.cvs.length) n R h;refine⟨by omega,t,l,?_,c⟩;rw[qR (by omega)];have f:n-id-x.cvs.length=n-(id+x.cvs.length):=(by omega);rw[f];exact b}
theorem zho:∀(d:List AV) (f:List Value) (id:Nat),f.length=(zD d).length->(∀(i:Nat) (c:CV) (u:Value),(zD d)[i]?=some c->f[i]?=some u->VA w st E (zx1 (id+i) c) u/\u.oneCell'=true)->
 (zc0 d id).length=(zbZ d f).length/\∀(k:Nat) (x:TV) (u:Value),(zc0 d id)[k]?=some x->(zbZ d f)[k]?=some u->VT w st E x u
 |[],f,id,_,_=>⟨rfl,λk x u h=>by simp[zc0]at h⟩
 |.one c::d,f,id,p,m=>by
  have e:zD (AV.one c::d)=c::zD d:=by simp[zD,AV.cvs]
  rw[e]at p m;cases f with
  |nil=>simp at p
  |cons y f=>
   obtain⟨r,s⟩:=zho d f (id+1) (by simpa using p) (λi c u l b=>by
    have:=m (i+1) c u (by simpa using l) (by simpa using b)
    have e:id+(i+1)=id+1+i:=by omega
    rw[e] at this;exact this)
   refine⟨by simp[zc0,zbZ,r],λk x u n b=>?_⟩;cases k with|zero=>simp only[zc0,zbZ,qH,qC,List.headD_cons]at n b;subst n b;have:=(m 0 c y (by simp) (by simp)).1;cases c<;>exact this|succ k=>exact s k x u (by simpa [zc0] using n) (by simpa [zbZ] using b)
 |.agg g::d,f,id,p,m=>by
  have e:zD (AV.agg g::d)=g++zD d:=by simp[zD,AV.cvs]
  rw[e]at p m;rw[j9]at p;obtain⟨r,s⟩:=zho d (f.drop g.length) (id+g.length) (by simp;omega) (λi c u l b=>by
   have:=m (g.length+i) c u (by rw[qR (by omega)];simpa using l) (by rw[jO]at b;exact b)
   have e:id+(g.length+i)=id+g.length+i:=by omega
   rw[e] at this;exact this)
  refine⟨by simp[zc0,zbZ,r],λk x u n b=>?_⟩;cases k with|zero=>simp only[zc0,zbZ,qH,qC]at n b;subst n b;refine⟨_,rfl,by simp[zzF];omega,λj a u q b=>?_⟩;rw[zuB]at q;(cases l:g[j]? with|none=>rw[l]at q;cases q|some c=>rw[l]at q;cases q;have t:j<g.length:=(qA.1 l).1;simp only[jG,jJ,if_pos t]at b;have:=m j c u (by rw[qV t];exact l) b;exact⟨this.2,this.1⟩)|succ k=>exact s k x u (by simpa [zc0] using n) (by simpa [zbZ] using b)
theorem zqA {l:List TV}{us:List Value}(a:l.length=us.length)(b:∀(k:Nat) (x:TV) (u:Value),l[k]?=some x->us[k]?=some u->VT w st E x u):VM w st E (ziu l) (zkh us):=by
 match l,us,a,b with
 |[],[],_,_=>exact⟨#[],rfl,rfl,λj x u h=>by simp at h⟩
 |[x],[u],_,b=>exact b 0 x u rfl rfl
 |x::y::l,u::v::us,a,b=>exact⟨_,rfl,by simpa using a.symm,λj f e c d=>b j f e c (by simpa using d)⟩
 |[x],u::v::us,a,_=>simp at a
 |x::y::l,[u],a,_=>simp at a
 |[],u::us,a,_=>simp at a
 |x::l,[],a,_=>simp at a
theorem zzG {n m:Nat}{c:CV}(h:m∈(zx1 n c).ids):m=n:=by cases c<;>simp [zx1,At.ids,zbo,zbv]at h;exact h
theorem zfF:∀(b:List AV) (id m:Nat) (x:TV) (a:At),x∈zc0 b id->a∈zV x->m∈a.ids->id<=m/\m<id+(zD b).length
 |[],_,_,_,_,h,_,_=>by simp[zc0]at h
 |.one c::b,id,m,x,a,d,f,g=>by have e:(zD (AV.one c::b)).length=1+(zD b).length:=(by simp[zD,AV.cvs];omega);rw[e];simp only[zc0,qG]at d;rcases d with rfl|d;{simp only [zV,qF]at f;subst f;have:(zhp [c] id).headD .bad=zx1 id c:=(by cases c<;>rfl);rw[this]at g;rw[zzG g];omega};{have:=zfF b (id+1) m x a d f g;omega}
 |.agg i::b,id,m,x,a,d,f,g=>by have e:(zD (AV.agg i::b)).length=i.length+(zD b).length:=(by simp[zD,AV.cvs]);rw[e];simp only[zc0,qG]at d;rcases d with rfl|d;{simp only [zV]at f;obtain⟨k,j⟩:=qU.1 f;rw[zuB]at j;cases l:i[k]? with|none=>rw[l]at j;cases j|some c=>rw[l]at j;cases j;have n:k<i.length:=(qA.1 l).1;rw[zzG g];omega};{have:=zfF b (id+i.length) m x a d f g;omega}
theorem zqz {l:List TV}{a:At}(h:a∈zbI (ziu l)):∃x∈l,a∈zV x:=by
 match l,h with
 |[],h=>simp[ziu,zbI]at h
 |[x],h=>exact⟨x,by simp,h⟩
 |x::y::l,h=>simpa [ziu,zbI] using h
theorem s_call (D:Sim w0 S0 U st E ts sv w){o:Oper}{id:Nat}(a3:∀n,Mine id n->¬ U n){c:Call}{f:FuncId}{T:List AV->Option (Bool×List AV)}(ho:o.op = .call c)(a2:c.callee = .value (.func f))(hH:Holds C.P f T){j d:List AV}(F:zcD (λx=>match st.opnd x with|some v=>st.avOf v|none=>none) c.args.toList=some j)(hr:T j=some (true,d))(a6:(zD d).length<=31) :
 Goes C w0 S0 U st ts sv w o id (λst=>st.apply o.dst {c:=true,v:=ziu (zc0 d id),ro:=zc2 (zcW f) d id}):=by
 intro next Q y;obtain⟨⟨fn,b,hf,hb,I⟩,hH⟩:=hH;obtain⟨xs,a5,q⟩:=zy2 D c.args.toList j F;have G:c.args.map ({tmps:=ts,defers:=[]}:Act).eval=(zbZ j xs).toArray:=by rw[<- q,<- uB,jQ]
 have H:(execOp ({tmps:=ts,defers:=[]}:Act).eval o).run C.P w = .ok (.enter f (zbZ j xs).toArray) w:=by have z:fn.name≠ "runtime.NumGoroutine":=(by simpa using I);simp[execOp,ho,resolve,a2,Act.eval,Deferred.ofValue,invoke,callFunc,hf,hb,z,G]
 unfold Oper.wp;rw[H,Oper.upon_enter];refine(hH w j xs d a5 hr).mono ?_;intro e w' he;cases e with
 |panicked Z=>exact he.elim
 |outgrown=>exact he.elim
 |returned v=>
  obtain⟨hg,X,K,B,rfl,N⟩:=he;have M:∀n,(id<=n/\n<id+31)->¬ U n:=λn h=>a3 n ⟨h.1,by omega⟩
  obtain⟨hM,hT⟩:=D.mem.addRootsO D.ids.mem (dro:=zc2 (zcW f) d id) (w1:=w')
   (E1:={E with ρ:=λn=>if id<=n/\n<id+31 then (X[n-id]?).getD undef else E.ρ n,φ:=λn=>if id<=n/\n<id+31 then (λx=>n-id<(zD d).length/\K (n-id) x) else E.φ n})
   hg.os hg.tape hg.output hg.size hg.keep (λr R hR=>by
    obtain⟨L,t,l,J,rfl⟩:=zfE (zcW f) d id r R hR;have p:r-id<(zD d).length:=(qA.1 J).1;have q:id<=r/\r<id+31:=⟨L,by omega⟩
    have hy:r-id<X.length:=by rw[B.1];exact p
    refine⟨M r q,rfl,?_,λx A=>?_⟩
    .simp only [if_pos q,qB hy,jY];exact(B.2 _ _ _ J<|qB hy).weak (λx A=>⟨p,A⟩)
    .simp only [if_pos q]at A;exact N.lt _ x p A.2)
   (λr R W R' L ho J a7 x A S=>by
    obtain⟨g1,t,l,V,rfl⟩:=zfE (zcW f) d id r R L;obtain⟨a0,t',l',a1,rfl⟩:=zfE (zcW f) d id W R' J;have p:r-id<(zD d).length:=(qA.1 V).1;have O:W-id<(zD d).length:=(qA.1 a1).1;have q:id<=r/\r<id+31:=⟨g1,by omega⟩
    have a4:id<=W/\W<id+31:=⟨a0,by omega⟩
    simp only[if_pos q]at A;simp only[if_pos a4]at S;have:=N.dis _ _ _ x V ho O A.2 S.2;omega)
   (λn y=>by
    have q:¬ (id<=n/\n<id+31):=λh=>M n h y;simp only[if_neg q];exact⟨trivial,trivial,trivial⟩)
  obtain⟨g1,V⟩:=zho (w:=w') (st:={st with ro:=zc2 (zcW f) d id++st.ro}) (E:={E with ρ:=λn=>if id<=n/\n<id+31 then (X[n-id]?).getD undef else E.ρ n,φ:=λn=>if id<=n/\n<id+31 then (λx=>n-id<(zD d).length/\K (n-id) x) else E.φ n})
   d X id B.1 (λi c u hc hu=>by
    have g:=B.2 i c u hc hu;refine⟨?_,g.one⟩;have p:i<(zD d).length:=(qA.1 hc).1;cases c with
    |i k n=>exact g.int_inv
    |b x=>exact g.bool_inv
    |s t l=>
     obtain⟨⟨a,Y,hv,_⟩,_⟩:=g.len;refine⟨⟨a,_,Y,hv⟩,λR hR=>?_⟩;have q:id<=id+i/\id+i<id+31:=⟨by omega,by omega⟩
     have e:id+i-id=i:=by omega
     simp only[zba,if_pos q,e,hu,jY])
  exact y _ _ _ (Sim.next D hM hT rfl rfl (λn h=>.inl h) (λn R h=>by
   simp only[zbM]at h;split at h
   .rename_i Q hQ;obtain⟨L,t,l,J,_⟩:=zfE (zcW f) d id n Q hQ;have p:n-id<(zD d).length:=(qA.1 J).1;exact .inr ⟨L,by omega⟩
   .exact .inl (D.ids.ro n R h))
   (λn cs y=>⟨.inl (D.ids.lo n cs y).1,λa F m q=>.inl ((D.ids.lo n cs y).2 a F m q)⟩) (zqA g1 V) (λn y=>by
    simp only[MV.ids,qP]at y;obtain⟨a,F,y⟩:=y;obtain⟨x,A,F⟩:=zqz F;have:=zfF d id n x a A F y;exact .inr ⟨this.1,by omega⟩))
theorem zbaF (q:Sim w0 S0 U st E ts sv w){o:Oper}{id:Nat}(a5:∀n,Mine id n->¬ U n){c:Call}{f:FuncId}{O:List AV->Option (Bool×List AV)}(ho:o.op = .call c)(a0:c.callee = .value (.func f))(X:zSG C.P f O){H:Operand}{xr:List Operand}(Z:c.args.toList=H::xr){v0:TV}(h0:st.opnd H=some (.v v0)){d j:List AV}(y:zcD (λx=>match st.opnd x with|some v=>st.avOf v|none=>none) (H::xr)=some d)(hr:O d=some (true,j))(a2:(zD j).all CV.flat=true)(a6:(zD j).length<=31) :
 Goes C w0 S0 U st ts sv w o id (λst=>st.apply o.dst {c:=true,v:=ziu (v0::zc0 j id)}):=by
 intro next Q G;obtain⟨⟨fn,b,hf,hb,F⟩,X⟩:=X;obtain⟨V,a4,T⟩:=zy2 q (H::xr) d y;obtain⟨a3,J⟩:=zcb q h0;have D:(zbZ d V).headD undef=({tmps:=ts,defers:=[]}:Act).eval H:=by rw[<- T];rfl
 have z:c.args.map ({tmps:=ts,defers:=[]}:Act).eval=(zbZ d V).toArray:=by rw[<- T,<- Z,<- uB,jQ]
 have A:(execOp ({tmps:=ts,defers:=[]}:Act).eval o).run C.P w = .ok (.enter f (zbZ d V).toArray) w:=by have p:fn.name≠ "runtime.NumGoroutine":=(by simpa using F);simp[execOp,ho,resolve,a0,Act.eval,Deferred.ofValue,invoke,callFunc,hf,hb,p,z]
 unfold Oper.wp;rw[A,Oper.upon_enter];refine(X w d V j a4 hr).mono ?_;intro e w' he;cases e with
 |panicked W=>exact he.elim
 |outgrown=>exact he.elim
 |returned v=>
  obtain⟨hg,ys,N,rfl⟩:=he;rw[D];obtain⟨hM,hT⟩:=q.mem.addRoots q.ids.mem (dro:=[]) (w1:=w') (E1:=E) hg.os hg.tape hg.output hg.size hg.keep (λr R Y=>by cases Y) (λr R _ _ Y=>by cases Y) (λ_ _=>⟨rfl,rfl,rfl⟩)
  have B:∀(i:Nat) (c:CV),(zD j)[i]?=some c->c.flat=true:=λi c S=>qM.1 a2 c (qJ S);obtain⟨g1,g2⟩:=zho (w:=w') (st:=st) (E:=E) j ys id N.1 (λi c u S M=>by
   have g:=N.2 i c u S M;refine⟨?_,g.one⟩;have a1:=B i c S;cases c with
   |i k n=>exact g.int_inv
   |b x=>exact g.bool_inv
   |s t l=>cases a1)
  exact G _ _ _ (Sim.next q (st1:=st) hM hT rfl rfl (λn h=>.inl h) (λn R h=>.inl (q.ids.ro n R h))
   (λn cs G=>⟨.inl (q.ids.lo n cs G).1,λa y m T=>.inl ((q.ids.lo n cs G).2 a y m T)⟩) (zqA (l:=v0::zc0 j id) (us:=({tmps:=ts,defers:=[]}:Act).eval H::zbZ j ys) (by simp[g1]) (λk x u hk M=>by
    cases k with
    |zero=>simp only[qH,qC]at hk M;subst hk M;exact VT.tr hT (λa y n G=>J n (by simp only[MV.ids,zbI,qP];exact⟨a,y,G⟩)) a3
    |succ k=>exact g2 k x u (by simpa using hk) (by simpa using M))) (λn K=>by
    simp only[MV.ids,qP]at K;obtain⟨a,y,L⟩:=K;obtain⟨x,hx,I⟩:=zqz y;rcases qG.1 hx with rfl|hx
    .exact .inl (J n (by simp only[MV.ids,zbI,qP];exact⟨a,I,L⟩))
    .have:=zfF j id n x a hx I L;exact .inr ⟨this.1,by omega⟩))
end
end
end Go.Proofs.YtjapbkodhfpbbaaGreat.E
