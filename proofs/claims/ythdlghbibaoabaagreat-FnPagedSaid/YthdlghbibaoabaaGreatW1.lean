/- What is proved here: a part of the proof that the statement of this claim holds (several texts of wip/, laid together). -/
import Derived.Test.YthdlghbibaoabaaGreatRows
import Derived.Calls
import Derived.LoopN
import Derived.Laws.Sem
import Derived.Laws.Entries
import Derived.Laws.Slices
import Derived.Laws.Cells
import Derived.Laws.Tables
import Derived.Laws.Append
import Derived.Laws.CopyRow
import Derived.Laws.MakeOwn
import Derived.Laws.StructEq
import Derived.Laws.Small
import Derived.Laws.AppendOwn
import Derived.Great.BuildSlice
namespace Go.Proofs.YthdlghbibaoabaaGreat.E
open Go
set_option linter.unusedVariables false
set_option maxRecDepth 100000
set_option linter.unusedSimpArgs false
set_option linter.unusedSectionVars false
noncomputable section
abbrev qA:=@List.getElem?_eq_some_iff
abbrev qB:=@List.getElem?_eq_getElem
abbrev qC:=@Option.some.injEq
abbrev qD:=@Bool.and_eq_true
abbrev qE:=@of_decide_eq_true
abbrev qF:=@List.mem_singleton
abbrev qG:=@List.mem_cons
abbrev qH:=@List.getElem?_cons_zero
abbrev qI:=@List.mem_of_getElem?
abbrev qJ:=@decide_eq_true
abbrev qK:=@beq_iff_eq
abbrev qL:=@decide_eq_false
abbrev qM:=@List.all_eq_true
abbrev qN:=@List.mem_flatMap
abbrev qO:=@List.not_mem_nil
abbrev qP:=@List.getElem?_map
abbrev qQ:=@Array.getElem?_eq_some_iff
abbrev qR:=@List.getElem?_append_right
abbrev qS:=@Nat.mul_le_mul_right
abbrev qT:=@List.mem_iff_getElem?
abbrev qU:=@Nat.le_trans
abbrev qV:=@List.getElem?_append_left
abbrev qW:=@List.mem_or_eq_of_mem_set
abbrev qX:=@List.mem_cons_of_mem
abbrev qY:=@List.length_cons
abbrev qZ:=@Nat.le_refl
abbrev q0:=@decide_eq_true_eq
abbrev q9:=@List.getElem?_set
abbrev jA:=@List.mem_cons_self
abbrev jB:=@List.map_cons
abbrev jC:=@List.append_nil
abbrev jD:=@List.mem_map
abbrev jE:=@Bool.not_eq_true'
abbrev jF:=@List.getElem?_toArray
abbrev jG:=@List.getElem_mem
abbrev jH:=@Array.getElem?_eq_getElem
abbrev jI:=@List.getElem?_take
abbrev jJ:=@List.mem_append
abbrev jK:=@Nat.lt_of_lt_of_le
abbrev jL:=@Nat.succ_mul
abbrev jM:=@Bool.not_true
abbrev jN:=@List.contains_eq_mem
abbrev jO:=@Bool.not_false
abbrev jP:=@List.getElem?_cons_succ
abbrev jQ:=@List.getElem?_drop
abbrev jR:=@Array.toArray_toList
abbrev jS:=@Nat.lt_succ_self
abbrev jT:=@Prod.mk.injEq
abbrev jU:=@List.nil_append
abbrev jV:=@List.mem_of_mem_take
abbrev jW:=@of_decide_eq_false
abbrev jX:=@Nat.zero_le
abbrev jY:=@Nat.add_zero
abbrev jZ:=@Option.getD_some
abbrev j3:=@Array.getElem?_append_left
abbrev j4:=@Nat.zero_add
abbrev j5:=@List.mem_append_left
abbrev j6:=@List.size_toArray
abbrev j7:=@List.flatMap_cons
abbrev j8:=@List.getD_eq_getElem?_getD
abbrev j9:=@List.append_assoc
abbrev kA:=@List.length_append
abbrev kB:=@Bool.false_eq_true
abbrev kC:=@List.getElem?_replicate
abbrev kD:=@Int.toNat_natCast
abbrev kE:=@Array.getElem?_append_right
abbrev kF:=@Bool.or_eq_true
abbrev kG:=@List.cons_append
abbrev kH:=@List.mem_append_right
abbrev kI:=@List.mem_range
abbrev kJ:=@Nat.eq_of_beq_eq_true
abbrev kK:=@Option.isNone_iff_eq_none
abbrev kL:=@List.drop_eq_getElem_cons
abbrev kM:=@List.mem_of_mem_drop
abbrev kN:=@List.take_left'
abbrev kO:=@Nat.beq_eq
abbrev kP:=@List.any_eq_false
abbrev kQ:=@Array.length_toList
abbrev kR:=@List.length_pos_iff
abbrev kS:=@Int.le_refl
abbrev kT:=@Nat.add_mul
abbrev kU:=@Array.getElem?_toList
abbrev kV:=@List.isPrefixOf_iff_prefix
abbrev kW:=@List.all_cons
abbrev kX:=@Nat.le_of_eq
abbrev kY:=@List.drop_left'
abbrev k5:=@List.ext_getElem?
abbrev k6:=@Nat.sub_self
abbrev k7:=@Array.getElem?_setIfInBounds
abbrev k8:=@List.length_singleton
abbrev k9:=@List.length_filter_le
abbrev uA:=@Array.toList_map
abbrev uB:=@List.any_eq_true
abbrev uD:=@Nat.le_add_right
abbrev uE:=@List.flatMap_nil
abbrev uF:=@Nat.add_assoc
abbrev uH:=@Bool.true_and
abbrev uI:=@List.sum_cons
abbrev uJ:=@List.length_nil
abbrev uK:=@List.foldl_cons
abbrev uL:=@List.length_map
abbrev uM:=@List.mem_of_find?_eq_some
abbrev uN:=@Array.append_assoc
abbrev uO:=@List.mem_replicate
abbrev uP:=@List.mem_filterMap
abbrev uQ:=@Option.isSome_iff_exists
abbrev uR:=@Nat.mul_le_mul
abbrev uS:=@List.length_eq_zero_iff
abbrev uT:=@Option.bind_eq_some_iff
abbrev uU:=@Int.eq_ofNat_of_zero_le
abbrev uW:=@Nat.le_succ_of_le
abbrev uX:=@Array.getElem?_eq_none
abbrev uY:=@List.findIdx?_eq_some_iff_getElem
abbrev uZ:=@Nat.mul_one
abbrev u0:=@Bool.or_false
abbrev u1:=@List.range'_succ
abbrev u2:=@List.set_getElem_self
abbrev u3:=@Nat.lt_or_ge
abbrev u4:=@List.range_eq_range'
abbrev u5:=@Bool.or_eq_false_iff
abbrev vA:=@List.countP_eq_zero
abbrev vB:=@List.drop_zero
abbrev vC:=@List.mapM_cons
abbrev vD:=@Array.getElem?_map
abbrev vE:=@Bool.and_true
abbrev vF:=@Nat.blt_eq
abbrev vG:=@List.countP_cons
abbrev vH:=@Nat.sub_zero
abbrev vI:=@forall_eq_or_imp
abbrev vJ:=@List.length_drop
abbrev vK:=@List.length_take
abbrev vL:=@Int.le_of_lt
structure Slot where
 Page:Int
 Rights:Int
structure Ins where
 Op:Int
 X:Int
structure Ctl where
 Traps:Int
 Post:Int
 Open:Bool
structure GExit where
 Kind:Int
 Page:Int
 Write:Bool
 N:Int
structure Entry where
 Tag:Int
 Page:Int
 Host:Int
 Rights:Int
structure GAct where
 Kind:Int
 M:Int
 G:Int
 X:Int
 Y:Int
 Z:Int
structure Told where
 Ok:Bool
 N:Int
structure Kept where
 Known:List Bool
 Slots:List Slot
structure Guest where
 Prog:List Ins
 A:Int
 Pc:Int
 Written:List Slot
 Live:List Slot
 Ctl:Ctl
 Pending:Int
 Exit:GExit
 Halted:Bool
 Seen:List Int
structure Bare where
 Memory:List (List Int)
 Guests:List Guest
 Outs:List Int
 Pending:Int
structure Mon where
 Outer:List Slot
 Out:List (List Int)
 Dirty:List Bool
 Guests:List Guest
 Outs:List Int
 Pending:Int
 Traps:Int
 Tables:List Kept
 Own:Int
structure Host where
 Memory:List (List Int)
 Mons:List Mon
 Buffer:List Entry
 IoBuffer:List Entry
section
variable {α:Type}
def ix (l:List α)(i:Int)(d:α):α:=l.getD i.toNat d
def up (l:List α)(i:Int)(x:α):List α:=l.set i.toNat x
def ln (l:List α):Int:=(l.length:Int)
def tk (l:List α)(n:Int):List α:=l.take n.toNat
def dp (l:List α)(n:Int):List α:=l.drop n.toNat
def rp (n:Int)(d:α):List α:=List.replicate n.toNat d
def ap (l m:List α):List α:=l++m
end
def zM (k:IntKind)(x y:Int):Int:=k.wrap (x+y)
def wsub (k:IntKind)(x y:Int):Int:=k.wrap (x-y)
def zng (k:IntKind)(x y:Int):Int:=k.wrap (x*y)
def zXv (k:IntKind)(x y:Int):Int:=k.wrap (x.tdiv y)
def zqi (x y:Int):Int:=x.tmod y
def wand (k:IntKind)(x y:Int):Int:=k.wrap (BitVec.ofInt k.bits x &&& BitVec.ofInt k.bits y).toNat
def wor (k:IntKind)(x y:Int):Int:=k.wrap (BitVec.ofInt k.bits x ||| BitVec.ofInt k.bits y).toNat
def z7w (k:IntKind)(x y:Int):Int:=k.wrap (BitVec.ofInt k.bits x ^^^ BitVec.ofInt k.bits y).toNat
def zNK (k:IntKind)(x y:Int):Int:=k.wrap (BitVec.ofInt k.bits x &&& ~~~ BitVec.ofInt k.bits y).toNat
def zpj (k:IntKind)(x y:Int):Int:=k.wrap (x*2 ^ (min y.toNat k.bits))
def zE5 (k:IntKind)(x y:Int):Int:=x.fdiv (2 ^ (min y.toNat k.bits))
def wcv (k:IntKind)(x:Int):Int:=k.wrap x
def byteAt (s:ByteArray)(n:Int):Int:=match s[n.toNat]? with
 |some b=>(b.toNat:Int)
 |none=>0
def ieq (x y:Int):Bool:=x==y
def ine (x y:Int):Bool:=x != y
def ilt (x y:Int):Bool:=decide (x<y)
def ile (x y:Int):Bool:=decide (x<=y)
def igt (x y:Int):Bool:=decide (x>y)
def ige (x y:Int):Bool:=decide (x≥y)
def zhf (x y:Bool):Bool:=x==y
def zOP (a b:Int):Int:=if b<a then b else a
def imax (a b:Int):Int:=if b>a then b else a
def inb (i n:Int):Bool:=decide (0<=i/\i<n)
def inr (a b n:Int):Bool:=decide (0<=a/\a<=b/\b<=n)
def few (n:Int):Bool:=decide (0<=n/\n<=2147483648)
inductive Ty where
 |int|u8|bool|slot|ins|entry|act|told|kept|guest|bare|mon
 |sl (t:Ty)
 deriving DecidableEq
abbrev Ty.den:Ty->Type
 |.int=>Int
 |.u8=>Int
 |.bool=>Bool
 |.slot=>Slot
 |.ins=>Ins
 |.entry=>Entry
 |.act=>GAct
 |.told=>Told
 |.kept=>Kept
 |.guest=>Guest
 |.bare=>Bare
 |.mon=>Mon
 |.sl t=>List t.den
inductive CV where
 |i (k:IntKind) (n:Int)
 |b (x:Bool)
 |s (t:Ty) (l:List t.den)
inductive CTy where
 |i (k:IntKind)
 |b
 |s (t:Ty)
 deriving DecidableEq
def CV.ty:CV->CTy
 |.i k _=>.i k
 |.b _=>.b
 |.s t _=>.s t
def Ty.shape:Ty->List CTy
 |.int=>[.i .i64]
 |.u8=>[.i .u8]
 |.bool=>[.b]
 |.slot=>[.i .i64,.i .i64]
 |.ins=>[.i .i64,.i .i64]
 |.entry=>[.i .i64,.i .i64,.i .i64,.i .i64]
 |.act=>[.i .i64,.i .i64,.i .i64,.i .i64,.i .i64,.i .i64]
 |.told=>[.b,.i .i64]
 |.kept=>[.s .bool,.s .slot]
 |.guest=>[.s .ins,.i .i64,.i .i64,.s .slot,.s .slot,.i .i64,.i .i64,.b,.i .i64,.i .i64,.i .i64,.b,.i .i64,.b,.s .int]
 |.bare=>[.s (.sl .int),.s .guest,.s .int,.i .i64]
 |.mon=>[.s .slot,.s (.sl .int),.s .bool,.s .guest,.s .int,.i .i64,.i .i64,.s .kept,.i .i64]
 |.sl t=>[.s t]
def Ty.width:Ty->Nat
 |.int=>1
 |.u8=>1
 |.bool=>1
 |.slot=>2
 |.ins=>2
 |.entry=>4
 |.act=>6
 |.told=>2
 |.kept=>2
 |.guest=>15
 |.bare=>4
 |.mon=>9
 |.sl _=>1
def Ty.dflt:(t:Ty)->t.den
 |.int=>(0:Int)
 |.u8=>(0:Int)
 |.bool=>false
 |.slot=>⟨0,0⟩
 |.ins=>⟨0,0⟩
 |.entry=>⟨0,0,0,0⟩
 |.act=>⟨0,0,0,0,0,0⟩
 |.told=>⟨false,0⟩
 |.kept=>⟨[],[]⟩
 |.guest=>⟨[],0,0,[],[],⟨0,0,false⟩,0,⟨0,0,false,0⟩,false,[]⟩
 |.bare=>⟨[],[],[],0⟩
 |.mon=>⟨[],[],[],[],[],0,0,[],0⟩
 |.sl _=>[]
abbrev zh:=Ty.dflt .mon
abbrev zC:=Ty.dflt .guest
abbrev zep:=Ty.dflt .kept
abbrev zQ:=Ty.dflt .slot
abbrev zpk:=Ty.dflt .ins
abbrev zeO:=Ty.dflt .entry
abbrev zNL:=Ty.dflt .bare
abbrev zbcE:=Ty.dflt .act
abbrev zbcF:=Ty.dflt .int
abbrev zbb8:=Ty.dflt .bool
def Ty.cells:(t:Ty)->t.den->List CV
 |.int,x=>[.i .i64 x]
 |.u8,x=>[.i .u8 x]
 |.bool,x=>[.b x]
 |.slot,x=>[.i .i64 x.Page,.i .i64 x.Rights]
 |.ins,x=>[.i .i64 x.Op,.i .i64 x.X]
 |.entry,x=>[.i .i64 x.Tag,.i .i64 x.Page,.i .i64 x.Host,.i .i64 x.Rights]
 |.act,x=>[.i .i64 x.Kind,.i .i64 x.M,.i .i64 x.G,.i .i64 x.X,.i .i64 x.Y,.i .i64 x.Z]
 |.told,x=>[.b x.Ok,.i .i64 x.N]
 |.kept,x=>[.s .bool x.Known,.s .slot x.Slots]
 |.guest,x=>[.s .ins x.Prog,.i .i64 x.A,.i .i64 x.Pc,.s .slot x.Written,.s .slot x.Live,.i .i64 x.Ctl.Traps,.i .i64 x.Ctl.Post,.b x.Ctl.Open,.i .i64 x.Pending,.i .i64 x.Exit.Kind,.i .i64 x.Exit.Page,.b x.Exit.Write,.i .i64 x.Exit.N,.b x.Halted,.s .int x.Seen]
 |.bare,x=>[.s (.sl .int) x.Memory,.s .guest x.Guests,.s .int x.Outs,.i .i64 x.Pending]
 |.mon,x=>[.s .slot x.Outer,.s (.sl .int) x.Out,.s .bool x.Dirty,.s .guest x.Guests,.s .int x.Outs,.i .i64 x.Pending,.i .i64 x.Traps,.s .kept x.Tables,.i .i64 x.Own]
 |.sl t,x=>[.s t x]
def Ty.ofCells:(t:Ty)->List CV->Option t.den
 |.int,l=>match l with
  |[.i .i64 x]=>some x
  |_=>none
 |.u8,l=>match l with
  |[.i .u8 x]=>some x
  |_=>none
 |.bool,l=>match l with
  |[.b x]=>some x
  |_=>none
 |.slot,l=>match l with
  |[.i .i64 a,.i .i64 b]=>some ⟨a,b⟩
  |_=>none
 |.ins,l=>match l with
  |[.i .i64 a,.i .i64 b]=>some ⟨a,b⟩
  |_=>none
 |.entry,l=>match l with
  |[.i .i64 a,.i .i64 b,.i .i64 c,.i .i64 d]=>some ⟨a,b,c,d⟩
  |_=>none
 |.act,l=>match l with
  |[.i .i64 a,.i .i64 b,.i .i64 c,.i .i64 d,.i .i64 e,.i .i64 f]=>some ⟨a,b,c,d,e,f⟩
  |_=>none
 |.told,l=>match l with
  |[.b a,.i .i64 b]=>some ⟨a,b⟩
  |_=>none
 |.kept,l=>match l with
  |[.s .bool a,.s .slot b]=>some ⟨a,b⟩
  |_=>none
 |.guest,l=>match l with
  |[.s .ins a,.i .i64 b,.i .i64 c,.s .slot d,.s .slot e,.i .i64 m,.i .i64 n,.b p,.i .i64 g,.i .i64 q,.i .i64 r,.b u,.i .i64 v,.b j,.s .int k]=>some ⟨a,b,c,d,e,⟨m,n,p⟩,g,⟨q,r,u,v⟩,j,k⟩
  |_=>none
 |.bare,l=>match l with
  |[.s (.sl .int) a,.s .guest b,.s .int c,.i .i64 d]=>some ⟨a,b,c,d⟩
  |_=>none
 |.mon,l=>match l with
  |[.s .slot a,.s (.sl .int) b,.s .bool c,.s .guest d,.s .int e,.i .i64 f,.i .i64 g,.s .kept h,.i .i64 i]=>some ⟨a,b,c,d,e,f,g,h,i⟩
  |_=>none
 |.sl t,l=>match l with
  |[.s w x]=>if h:w=t then some (h ▸ x) else none
  |_=>none
inductive At where
 |bad
 |i (k:IntKind) (n:Int)
 |b (x:Bool)
 |sl (r:Nat) (p:List (Int×Nat))
 |lp (l off:Nat)
 |ep (r:Nat) (p:List (Int×Nat)) (i:Int) (off:Nat)
 |fn (f:Nat) (caps:List Nat)
 |kp (r:Nat) (J:List (List Nat)) (t:Ty)
inductive TV where
 |at (a:At)
 |agg (l:List At)
inductive MV where
 |und
 |v (x:TV)
 |tup (l:List TV)
structure Root where
 t:Ty
 l:List t.den
 own:Bool
 ep:Option Nat
structure St where
 tm:List MV
 lo:List (Nat×List At)
 ro:List (Nat×Root)
 stk:List (List MV)
 nid:Nat
 ep:Nat
inductive AV where
 |one (c:CV)
 |agg (l:List CV)
structure Cfg where
 P:Program
 sty:TypeId->Option Ty
 cty:TypeId->Option (Bool×List CTy)
 fof:TypeId->Nat->Option (Nat×Nat)
 eqt:TypeId->Bool
 ctr:FuncId->Option (List AV->Option (Bool×List AV))
 mct:FuncId->Option (CV->Int->Option (Bool×CV×Int))
 pct:FuncId->Option (List Bool×(List CV->List AV->Option (Bool×List CV×List AV)))
 tct:FuncId->Option (List Bool×Option (Nat×Nat×List (List Nat))×(List AV->Option (Bool×List AV)))
def zl {a:Type}:List (Nat×a)->Nat->Option a
 |[],_=>none
 |(k,v)::r,n=>if k==n then some v else zl r n
def zgm:(t:Ty)->List t.den->List (Int×Nat)->Option CV
 |t,l,[]=>some (.s t l)
 |t,l,(i,j)::p=>
  match (t.cells (ix l i t.dflt))[j]? with
  |some (.s b a)=>zgm b a p
  |_=>none
def splice {b:Type}(l:List b)(off:Nat)(a:List b):List b:=l.take off++a++l.drop (off+a.length)
def zpR:(t:Ty)->List t.den->List (Int×Nat)->CV->Option (List t.den)
 |t,_,[],a=>
  match a with
  |.s f c=>if h:f=t then some (h ▸ c) else none
  |_=>none
 |t,l,(i,j)::p,a=>
  match (t.cells (ix l i t.dflt))[j]? with
  |some (.s b d) =>
   match zpR b d p a with
   |some e=>
    match t.ofCells (splice (t.cells (ix l i t.dflt)) j [.s b e]) with
    |some x=>some (up l i x)
    |none=>none
   |none=>none
  |_=>none
def setRow (t:Ty)(l:List t.den)(i:Int)(j:Nat)(a:List CV):Option (List t.den):=
 match t.ofCells (splice (t.cells (ix l i t.dflt)) j a) with
 |some x=>some (up l i x)
 |none=>none
def zeroAt (id:Nat):CTy->At
 |.i k=>.i k 0
 |.b=>.b false
 |.s _=>.sl id []
def zeros:List CTy->Nat->List At
 |[],_=>[]
 |c::r,id=>zeroAt id c::zeros r (id+1)
def zcP (t:Ty)(l:List t.den):Root:=⟨t,l,true,none⟩
def zeroRoots:List CTy->Nat->List (Nat×Root)
 |[],_=>[]
 |.s t::r,id=>(id,zcP t [])::zeroRoots r (id+1)
 |_::r,id=>zeroRoots r (id+1)
def zsa (r:Nat)(p:List (Int×Nat))(i:Int):List CV->Nat->List At
 |[],_=>[]
 |.i k n::cs,j=>.i k n::zsa r p i cs (j+1)
 |.b x::cs,j=>.b x::zsa r p i cs (j+1)
 |.s _ _::cs,j=>.sl r (p++[(i,j)])::zsa r p i cs (j+1)
def zgf:List CV->Nat->List At
 |[],_=>[]
 |.i k n::cs,id=>.i k n::zgf cs (id+1)
 |.b x::cs,id=>.b x::zgf cs (id+1)
 |.s _ _::cs,id=>.sl id []::zgf cs (id+1)
def zJx (own:Ty->Bool):List CV->Nat->List (Nat×Root)
 |[],_=>[]
 |.s t l::cs,id=>(id,⟨t,l,own t,none⟩)::zJx own cs (id+1)
 |_::cs,id=>zJx own cs (id+1)
def AV.cvs:AV->List CV
 |.one c=>[c]
 |.agg l=>l
def zcK:List AV->Nat->List TV
 |[],_=>[]
 |.one c::r,id=>.at ((zgf [c] id).headD .bad)::zcK r (id+1)
 |.agg a::r,id=>.agg (zgf a id)::zcK r (id+a.length)
abbrev zug:Ty->Bool:=fun _=>false
abbrev zlS:Ty->Bool:=fun _=>true
def zbbS:List Nat:=[
 48,
 8,
 51,
 34,
 25,
 40,
 142,
 82,
 67,
 100000]
def zhi (f:FuncId):Bool:=zbbS.any fun x=>Nat.beq x f
def zFt:Ty->Bool
 |.sl .int=>true
 |_=>false
def zcE (f:FuncId)(t:Ty):Bool:=cond (zFt t) (!(zhi f)) true
def zcN (own:Ty->Bool):List AV->Nat->List (Nat×Root)
 |[],_=>[]
 |x::r,id=>zJx own x.cvs id++zcN own r (id+x.cvs.length)
def zhh:List TV->MV
 |[x]=>.v x
 |l=>.tup l
def CV.flat:CV->Bool
 |.s _ _=>false
 |_=>true
structure Dl where
 c:Bool:=true
 v:MV
 lo:List (Nat×List At):=[]
 ro:List (Nat×Root):=[]
 bump:Bool:=false
def Dl.at (a:At):Dl:={v:=.v (.at a)}
def zK5:Value->Option At
 |.int k n=>some (.i k n)
 |.bool x=>some (.b x)
 |_=>none
def St.opnd (st:St):Operand->Option MV
 |.tmp t=>match st.tm[t]? with
  |some (.v (.at .bad))=>none
  |x=>x
 |.const v=>match zK5 v with
  |some a=>some (.v (.at a))
  |none=>none
 |.func f=>some (.v (.at (.fn f [])))
 |.global _=>none
def St.at (st:St)(x:Operand):Option At :=
 match st.opnd x with
 |some (.v (.at a))=>some a
 |_=>none
def St.root (st:St)(r:Nat):Option Root :=
 match zl st.ro r with
 |some R=>match R.ep with
  |none=>some R
  |some e=>if e==st.ep then some R else none
 |none=>none
def St.node (st:St)(r:Nat)(p:List (Int×Nat)):Option CV :=
 match st.root r with
 |some R=>zgm R.t R.l p
 |none=>none
def St.cvOf (st:St):At->Option CV
 |.i k n=>some (.i k n)
 |.b x=>some (.b x)
 |.sl r p=>st.node r p
 |_=>none
def zco {c d:Type}(f:c->Option d):List c->Option (List d)
 |[]=>some []
 |a::r=>
  match f a with
  |some b=>match zco f r with
   |some e=>some (b::e)
   |none=>none
  |none=>none
def St.avOf (st:St):MV->Option AV
 |.v (.at a)=>match st.cvOf a with
  |some c=>some (.one c)
  |none=>none
 |.v (.agg l)=>match zco st.cvOf l with
  |some b=>some (.agg b)
  |none=>none
 |_=>none
def z00 (a:BinOp)(k:IntKind)(x y:Int):Option (Bool×At):=
 match a with
 |.add=>some (true,.i k (zM k x y))
 |.sub=>some (true,.i k (wsub k x y))
 |.mul=>some (true,.i k (zng k x y))
 |.quo=>some (ine y 0,.i k (zXv k x y))
 |.rem=>some (ine y 0,.i k (zqi x y))
 |.and=>some (true,.i k (wand k x y))
 |.or=>some (true,.i k (wor k x y))
 |.xor=>some (true,.i k (z7w k x y))
 |.andNot=>some (true,.i k (zNK k x y))
 |.eql=>some (true,.b (ieq x y))
 |.neq=>some (true,.b (ine x y))
 |.lss=>some (true,.b (ilt x y))
 |.leq=>some (true,.b (ile x y))
 |.gtr=>some (true,.b (igt x y))
 |.geq=>some (true,.b (ige x y))
 |_=>none
def shiftOp (a:BinOp)(k:IntKind)(x y:Int):Option (Bool×At):=
 match a with
 |.shl=>some (ile 0 y,.i k (zpj k x y))
 |.shr=>some (ile 0 y,.i k (zE5 k x y))
 |_=>none
def zZx:BinOp->Bool
 |.shl | .shr=>true
 |_=>false
def zTW:At->At->Option Bool
 |.i k x,.i a y=>if k=a then some (ieq x y) else none
 |.b x,.b y=>some (zhf x y)
 |_,_=>none
def zvi:List At->List At->Option Bool
 |[],[]=>some true
 |[a],[b]=>zTW a b
 |a::r,b::s=>
  match zTW a b,zvi r s with
  |some x,some y=>some (x&&y)
  |_,_=>none
 |_,_=>none
def znI:At->Option CTy
 |.i k _=>some (.i k)
 |.b _=>some .b
 |_=>none
def zDp (a:BinOp)(e:Bool):Option Dl :=
 match a with
 |.eql=>some (.at (.b e))
 |.neq=>some (.at (.b (!e)))
 |_=>none
def zS:TV->List At
 |.at a=>[a]
 |.agg l=>l
def layParts (C:Cfg)(T:TypeId)(st:St):List (Nat×Operand)->List At->Option (List At)
 |[],b=>some b
 |(f,x)::r,b=>
  match C.fof T f,st.opnd x with
  |some (a,n),some (.v y)=>if (zS y).length=n/\a+n<=b.length then layParts C T st r (splice b a (zS y)) else none
  |_,_=>none
def zna:List (Int×Nat)->List (Int×Nat)->Option Bool
 |[],[]=>some true
 |(i,j)::p,(a,b)::q=>
  if j==b then match zna p q with
   |some c=>some (ieq i a&&c)
   |none=>none
  else none
 |_,_=>none
def St.give (st:St)(d:Option (Nat×List (Int×Nat)×Int)):List At->Nat->Option (Bool×List CV×List Nat)
 |[],_=>some (true,[],[])
 |a::r,j=>
  match st.give d r (j+1) with
  |none=>none
  |some (c,g,f) =>
   match a with
   |.i k n=>some (c,.i k n::g,f)
   |.b x=>some (c,.b x::g,f)
   |.sl r [] =>
    match st.root r with
    |some R=>if R.own && !f.contains r&&(match d with|some (h,_,_)=>!(r==h)|none=>true) then some (c,.s R.t R.l::g,r::f) else none
    |none=>none
   |.sl r q=>
    match d with
    |some (h,p,i) =>
     if r==h then
      match zna q (p++[(i,j)]),st.node r q with
      |some e,some m=>some (c&&e,m::g,f)
      |_,_=>none
     else none
    |none=>none
   |_=>none
def moved (st:St):List Nat->List (Nat×Root)
 |[]=>[]
 |r::ks=>match zl st.ro r with
  |some R=>(r,{R with own:=false,ep:=some (st.ep+1)})::moved st ks
  |none=>moved st ks
def rowParts (st:St)(t:Ty):List (Nat×Operand)->List t.den->List Nat->Option (List t.den×List Nat)
 |[],l,b=>some (l,b)
 |(i,x)::r,l,b=>
  match st.opnd x with
  |some (.v y) =>
   match st.give none (zS y) 0 with
   |some (true,c,a)=>match t.ofCells c with
    |some d=>if i<l.length&&a.all (fun k=>!b.contains k) then rowParts st t r (l.set i d) (a++b) else none
    |none=>none
   |_=>none
  |_=>none
def Ty.flat (t:Ty):Bool:=t.shape.all fun c=>match c with | .s _=>false|_=>true
def zzA (t:Ty):CV->CV->Option (List t.den)
 |.s c a,.s d b=>if h:c=t/\d=t then some (ap (h.1 ▸ a) (h.2 ▸ b)) else none
 |_,_=>none
def zeN (st:St)(R:Root)(t:Ty)(l:List t.den):Root:=⟨t,l,false,if R.own then some st.ep else R.ep⟩
def zNU (st:St)(id r:Nat)(p:List (Int×Nat))(R:Root)(t:Ty)(l:List t.den)(a:Int):Dl :=
 match R.own,p with
 |true,[]=>{c:=inr a (ln l) (ln l),v:=.v (.at (.sl id [])),ro:=(id,zcP t (dp l a))::moved st [r],bump:=true}
 |_,_=>{c:=inr a (ln l) (ln l),v:=.v (.at (.sl id [])),ro:=[(id,zeN st R t (dp l a))]}
def zbbK:List Nat:=[
 212,
 100000]
def zFp (C:Cfg):Bool:=zbbK.any fun f=>(C.pct f).isSome
def zIy (C:Cfg)(st:St)(id r:Nat)(p:List (Int×Nat))(R:Root)(t:Ty)(l:List t.den)(b:Int):Dl :=
 match zFp C&&R.own,p with
 |true,[]=>{c:=inr 0 b (ln l),v:=.v (.at (.sl id [])),ro:=(id,zcP t (tk l b))::moved st [r],bump:=true}
 |_,_=>{c:=inr 0 b (ln l),v:=.v (.at (.sl id [])),ro:=[(id,zeN st R t (tk l b))]}
def delta (C:Cfg)(st:St)(o:Oper)(id:Nat):Option Dl :=
 match o.op with
 |.move x | .assign x=>
  match x with
  |.const (.pointer none)=>some {v:=.v (.at .bad)}
  |.const (.slice none 0 0)=>match C.sty o.type with
   |some t=>some {v:=.v (.at (.sl id [])),ro:=[(id,zcP t [])]}
   |none=>none
  |x=>match st.opnd x with
   |some v=>some {v}
   |none=>none
 |.pick c a b=>
  match st.at c,st.opnd a,st.opnd b with
  |some (.b c),some (.v (.at (.b x))),some (.v (.at (.b y)))=>some (.at (.b (cond c x y)))
  |some (.b true),some v,_=>some {v}
  |some (.b false),_,some v=>some {v}
  |_,_,_=>none
 |.alloc T=>
  match C.cty T with
  |some (_,g)=>if g.length<=31 then some {v:=.v (.at (.lp (id+31) 0)),lo:=[(id+31,zeros g id)],ro:=zeroRoots g id} else none
  |none=>none
 |.box _ x=>
  match st.opnd x with
  |some (.v y)=>some {v:=.v (.at (.lp id 0)),lo:=[(id,zS y)]}
  |_=>none
 |.build T h=>
  match C.cty T with
  |some (true,g) =>
   match layParts C T st h.toList (zeros g id) with
   |some u=>if g.length<=31 then some {v:=.v (.agg u),ro:=zeroRoots g id} else none
   |none=>none
  |_=>none
 |.load T x=>
  match C.cty T,st.at x with
  |some (q,g),some (.lp l d) =>
   match zl st.lo l with
   |some u=>
    if q then (if d+g.length<=u.length then some {v:=.v (.agg ((u.drop d).take g.length))} else none)
    else match u[d]? with
     |some a=>some (.at a)
     |none=>none
   |none=>none
  |some (q,g),some (.ep r p i d) =>
   match st.node r p with
   |some (.s t l) =>
    if q then (if d+g.length<=t.width then some {v:=.v (.agg (zsa r p i (((t.cells (ix l i t.dflt)).drop d).take g.length) d))} else none)
    else match zsa r p i (((t.cells (ix l i t.dflt)).drop d).take 1) d with
     |[a]=>some (.at a)
     |_=>none
   |_=>none
  |_,_=>none
 |.store T a x=>
  match C.cty T,st.opnd x,st.at a with
  |some (_,g),some (.v y),some (.lp l d) =>
   match zl st.lo l with
   |some u=>if (zS y).length=g.length/\d+g.length<=u.length then some {v:=.und,lo:=[(l,splice u d (zS y))]} else none
   |none=>none
  |some (_,g),some (.v y),some (.ep r p i d) =>
   match st.root r,st.node r p,st.give none (zS y) 0 with
   |some R,some (.s t l),some (c,cvs,[]) =>
    if R.own&&(zS y).length==g.length&&decide (d+g.length<=t.width) then
     match setRow t l i d cvs with
     |some X=>match zpR R.t R.l p (.s t X) with
      |some m=>some {c,v:=.und,ro:=[(r,{R with l:=m})],bump:=true}
      |none=>none
     |none=>none
    else none
   |_,_,_=>none
  |some (_,[.s t]),none,some (.lp l d) =>
   match x with
   |.const (.slice none 0 0) =>
    match zl st.lo l with
    |some u=>if d+1<=u.length then some {v:=.und,lo:=[(l,splice u d [.sl id []])],ro:=[(id,zcP t [])]} else none
    |none=>none
   |_=>none
  |_,_,_=>none
 |.nilCheck x=>
  match st.at x with
  |some (.lp l d)=>some (.at (.lp l d))
  |some (.ep r p i d)=>some (.at (.ep r p i d))
  |_=>none
 |.binOp z T x y _=>
  match st.opnd x,st.opnd y with
  |some (.v (.at (.i k a))),some (.v (.at (.i V b))) =>
   if zZx z then
    match shiftOp z k a b with
    |some (c,r)=>some {c,v:=.v (.at r)}
    |none=>none
   else if k=V then
    match z00 z k a b with
    |some (c,r)=>some {c,v:=.v (.at r)}
    |none=>none
   else none
  |some (.v (.at (.b a))),some (.v (.at (.b b)))=>if C.cty T=some (false,[.b]) then zDp z (zhf a b) else none
  |some (.v (.agg l)),some (.v (.agg m)) =>
   match C.cty T,zvi l m with
   |some (true,g),some e=>if C.eqt T=true/\zco znI l=some g/\zco znI m=some g then zDp z e else none
   |_,_=>none
  |_,_=>none
 |.unOp z _ x=>
  match z,st.at x with
  |.not,some (.b a)=>some (.at (.b (!a)))
  |.neg,some (.i k n)=>some (.at (.i k (wsub k 0 n)))
  |_,_=>none
 |.convert M J x=>
  match C.cty M,C.cty J,st.at x with
  |some _,some (false,[.i k]),some (.i _ n)=>some (.at (.i k (wcv k n)))
  |_,_,_=>none
 |.makeFunc (.func f) first D=>
  match first.toList,zco (fun x=>match st.at x with|some (.lp l 0)=>some l|_=>none) D.toList with
  |[],some Y=>some (.at (.fn f Y))
  |_,_=>none
 |.makeSlice T len H=>
  match C.sty T,st.at len,st.at H with
  |some t,some (.i .i64 n),some (.i .i64 m) =>
   some {c:=few n&&ieq n m,v:=.v (.at (.sl id [])),ro:=[(id,zcP t (rp n t.dflt))]}
  |_,_,_=>none
 |.slice T x L E none=>
  match st.at x with
  |some (.sl r p) =>
   match st.root r,st.node r p with
   |some R,some (.s t l) =>
    if C.sty T=some t then
    match L,E with
    |none,none=>some {v:=.v (.at (.sl id [])),ro:=[(id,zeN st R t l)]}
    |some lo,none=>match st.at lo with
     |some (.i .i64 a)=>some (zNU st id r p R t l a)
     |_=>none
    |none,some K=>match st.at K with
     |some (.i .i64 b)=>some (zIy C st id r p R t l b)
     |_=>none
    |some lo,some K=>match st.at lo,st.at K with
     |some (.i .i64 a),some (.i .i64 b)=>some {c:=inr a b (ln l),v:=.v (.at (.sl id [])),ro:=[(id,zeN st R t (dp (tk l b) a))]}
     |_,_=>none
    else none
   |_,_=>none
  |_=>none
 |.fieldAddr T x f=>
  match C.fof T f,st.at x with
  |some (o,_),some (.lp l d)=>some (.at (.lp l (d+o)))
  |some (o,_),some (.ep r p i d)=>some (.at (.ep r p i (d+o)))
  |_,_=>none
 |.field T x f=>
  match C.P.underlying T with
  |some (.struct U) =>
   match U[f]? with
   |some F=>
    match C.cty F.type,st.opnd x with
    |some (q,g),some (.v (.agg l)) =>
     if F.offset+g.length<=l.length then
      match q with
      |true=>some {v:=.v (.agg ((l.drop F.offset).take g.length))}
      |false=>match l[F.offset]? with
       |some a=>some (.at a)
       |none=>none
     else none
    |_,_=>none
   |none=>none
  |_=>none
 |.index T (.const (.string s)) i=>
  match C.P.underlying T,st.at i with
  |some .string,some (.i _ n)=>some {c:=inb n s.size,v:=.v (.at (.i .u8 (byteAt s n)))}
  |_,_=>none
 |.indexAddr T x i=>
  match st.at x,st.at i with
  |some (.sl r p),some (.i .i64 n) =>
   match st.node r p with
   |some (.s t l)=>if C.sty T=some t then some {c:=inb n (ln l),v:=.v (.at (.ep r p n 0))} else none
   |_=>none
  |_,_=>none
 |.extract x j=>
  match st.opnd x with
  |some (.tup l)=>match l[j]? with
   |some y=>some {v:=.v y}
   |none=>none
  |_=>none
 |.call c=>
  match c.callee with
  |.builtin .len=>
   match c.args.toList,c.argTypes.toList with
   |[x],[T]=>match st.at x with
    |some (.sl r p)=>match st.node r p with
     |some (.s t l)=>if C.sty T=some t then some (.at (.i .i64 (ln l))) else none
     |_=>none
    |_=>none
   |_,_=>none
  |.builtin .min=>
   match c.args.toList with
   |[x,y]=>match st.at x,st.at y with
    |some (.i .i64 a),some (.i .i64 b)=>some (.at (.i .i64 (zOP a b)))
    |_,_=>none
   |_=>none
  |.builtin .max=>
   match c.args.toList with
   |[x,y]=>match st.at x,st.at y with
    |some (.i .i64 a),some (.i .i64 b)=>some (.at (.i .i64 (imax a b)))
    |_,_=>none
   |_=>none
  |.builtin .append=>
   match c.args.toList,c.argTypes.toList with
   |[x,y],[T,S] =>
    if S=T then
    match C.sty T,st.at x,st.at y with
    |some t,some (.sl r []),some (.sl G N) =>
     match st.root r,st.root G,st.node G N with
     |some R,some Q,some I=>
      if R.own&&(t.flat||Q.own&&N.isEmpty && !(r==G)) then
       match zzA t (.s R.t R.l) I with
       |some m=>some {c:=few (ln m),v:=.v (.at (.sl id [])),ro:=(id,zcP t m)::moved st (if t.flat then [r] else [r,G]),bump:=true}
       |none=>none
      else none
     |_,_,_=>none
    |_,_,_=>none
    else none
   |_,_=>none
  |.value (.func f) =>
   match C.ctr f with
   |some B=>
    match zco (fun x=>match st.opnd x with|some v=>st.avOf v|none=>none) c.args.toList with
    |some w=>match B w with
     |some (c,A)=>if (A.flatMap AV.cvs).length<=31 then some {c,v:=zhh (zcK A id),ro:=zcN (zcE f) A id} else none
     |none=>none
    |none=>none
   |none=>
    match C.tct f,c.args.toList with
    |some ([],_,B),O::xr=>
     match st.opnd O,zco (fun x=>match st.opnd x with|some v=>st.avOf v|none=>none) (O::xr) with
     |some (.v Z),some w=>match B w with
      |some (c,A)=>if (A.flatMap AV.cvs).all CV.flat&&decide ((A.flatMap AV.cvs).length<=31) then some {c,v:=zhh (Z::zcK A id)} else none
      |none=>none
     |_,_=>none
    |_,_=>none
  |_=>none
 |.buildSlice T len h=>
  match C.sty T with
  |some t=>match rowParts st t h.toList (List.replicate len t.dflt) [] with
   |some (l,W)=>if len<=65536 then some {v:=.v (.at (.sl id [])),ro:=(id,zcP t l)::moved st W,bump:=true} else none
   |none=>none
  |none=>none
 |_=>none
def St.put (st:St)(dst:Option Tmp)(v:MV):St :=
 match dst with
 |some d=>{st with tm:=st.tm.set d v}
 |none=>st
def St.apply(st:St)(dst:Option Tmp)(d:Dl):St :=
 {st with lo:=d.lo++st.lo,ro:=d.ro++st.ro,ep:=if d.bump then st.ep+1 else st.ep}.put dst d.v
def cols (p:List (Int×Nat)):List Nat:=p.map (·.2)
def coarse (js J:List (List Nat)):Bool:=js.all fun m=>J.any fun c=>c.isPrefixOf m
def zcR (r:Nat)(js:List (List Nat)):At->At
 |.kp b J t=>cond (Nat.beq r b) (cond (coarse js J) (.kp b J t) .bad) (.kp b J t)
 |.sl b q=>if r==b&&js.any (fun m=>m.isPrefixOf (cols q)) then .bad else .sl b q
 |.ep b q i o=>if r==b&&js.any (fun m=>m.isPrefixOf (cols q)) then .bad else .ep b q i o
 |a=>a
def zlJ (r:Nat)(js:List (List Nat)):TV->TV
 |.at a=>.at (zcR r js a)
 |.agg l=>.agg (l.map (zcR r js))
def zfB (r:Nat)(js:List (List Nat)):MV->MV
 |.und=>.und
 |.v x=>.v (zlJ r js x)
 |.tup l=>.tup (l.map (zlJ r js))
def ziv:List At->List CV->Nat->List Nat
 |.sl _ (_::_)::r,_::cs,j=>ziv r cs (j+1)
 |_::r,.s _ _::cs,j=>j::ziv r cs (j+1)
 |_::r,_::cs,j=>ziv r cs (j+1)
 |_,_,_=>[]
def zLk (C:Cfg)(st:St)(o:Oper):Option (Bool×St):=
 match o.op with
 |.store T a x=>
  match C.cty T,st.opnd x,st.at a with
  |some (_,d),some (.v y),some (.ep r p i b) =>
   match st.root r,st.node r p,st.give (some (r,p,i)) (zS y) b with
   |some R,some (.s t l),some (c,cvs,g) =>
    if R.own&&(zS y).length==d.length&&decide (b+d.length<=t.width) then
     match setRow t l i b cvs with
     |some h=>match zpR R.t R.l p (.s t h) with
      |some m=>
       let e:=(ziv (zS y) cvs b).map fun j=>cols p++[j]
       some (c,
        {st with
         tm:=st.tm.map (zfB r e)
         stk:=st.stk.map fun f=>f.map (zfB r e)
         lo:=st.lo.map fun x=>(x.1,x.2.map (zcR r e))
         ro:=(r,{R with l:=m})::(moved st g++st.ro)
         ep:=st.ep+1})
      |none=>none
     |none=>none
    else none
   |_,_,_=>none
  |_,_,_=>none
 |_=>none
def zhg (st:St)(r:Nat)(R:Root)(m:List R.t.den)(js:List (List Nat)):St :=
 {st with
  tm:=st.tm.map (zfB r js)
  stk:=st.stk.map fun f=>f.map (zfB r js)
  lo:=st.lo.map fun x=>(x.1,x.2.map (zcR r js))
  ro:=(r,{R with l:=m})::st.ro
  ep:=st.ep+1}
def zIE (C:Cfg)(st:St)(o:Oper):Option (Bool×St):=
 match o.op with
 |.store T a (.const (.slice none 0 0)) =>
  match C.cty T,st.at a with
  |some (_,[.s d]),some (.ep r p i b) =>
   match st.root r,st.node r p with
   |some R,some (.s t l) =>
    if R.own&&decide (b+1<=t.width) then
     match setRow t l i b [.s d []] with
     |some c=>match zpR R.t R.l p (.s t c) with
      |some m=>some (true,zhg st r R m [cols p++[b]])
      |none=>none
     |none=>none
    else none
   |_,_=>none
  |_,_=>none
 |_=>none
def graft (C:Cfg)(st:St)(o:Oper):Option (Bool×St):=
 match zLk C st o with
 |some x=>some x
 |none=>zIE C st o
def zTx (C:Cfg)(st:St)(o:Oper):Option (Bool×St×MV):=
 match o.op with
 |.call c=>
  match c.callee with
  |.value (.func f) =>
   match C.mct f,c.args.toList with
   |some a,[x,y] =>
    match st.at x,st.at y with
    |some (.sl r p),some (.i .i64 k) =>
     match st.root r,st.node r p with
     |some R,some (.s t l) =>
      match a (.s t l) k with
      |some (cc,.s b e,d) =>
       if R.own=true/\b=t then
        match zpR R.t R.l p (.s b e) with
        |some m=>some (cc,zhg st r R m ((List.range t.width).map fun j=>cols p++[j]),.v (.at (.i .i64 d)))
        |none=>none
       else none
      |_=>none
     |_,_=>none
    |_,_=>none
   |_,_=>none
  |_=>none
 |_=>none
def zbo:At->List Nat
 |.sl r _=>[r]
 |.ep r _ _ _=>[r]
 |.kp r _ _=>[r]
 |_=>[]
def zbq:At->List Nat
 |.lp l _=>[l]
 |.fn _ a=>a
 |_=>[]
def zbA:MV->List At
 |.und=>[]
 |.v x=>zS x
 |.tup l=>l.flatMap zS
def St.blk (st:St):List Bool->List At->Option (List CV×List Nat)
 |[],[]=>some ([],[])
 |own::ms,a::r=>
  match St.blk st ms r with
  |none=>none
  |some (d,c) =>
   match a with
   |.i k n=>some (.i k n::d,c)
   |.b x=>some (.b x::d,c)
   |.sl q [] =>
    match st.root q with
    |some R=>if R.own==own&&R.ep.isNone && !c.contains q then some (.s R.t R.l::d,cond own (q::c) c) else none
    |none=>none
   |_=>none
 |_,_=>none
def znJ:List Bool->List At->List CV->Nat->Option (List At)
 |[],[],[],_=>some []
 |own::ms,a::r,c::cs,id=>
  match znJ ms r cs (id+1) with
  |none=>none
  |some l=>
   match a,c with
   |.i k _,.i d n=>if k=d then some (.i k n::l) else none
   |.b _,.b x=>some (.b x::l)
   |.sl q [],.s _ _=>some (cond own (.sl id []::l) (.sl q []::l))
   |_,_=>none
 |_,_,_,_=>none
def zfD:List Bool->List CV->Nat->List (Nat×Root)
 |own::ms,.s t l::cs,id=>cond own ((id,zcP t l)::zfD ms cs (id+1)) (zfD ms cs (id+1))
 |_::ms,_::cs,id=>zfD ms cs (id+1)
 |_,_,_=>[]
def killed (st:St):List Nat->List (Nat×Root)
 |[]=>[]
 |r::ks=>match zl st.ro r with
  |some R=>(r,{R with own:=false,ep:=some st.ep})::killed st ks
  |none=>killed st ks
def zE8 (st:St)(ks:List Nat)(m:MV):Bool :=
 (zbA m).all fun a=>(zbo a).all fun r=>!ks.contains r&&(match st.root r with|some R=>R.ep.isNone|none=>false)
def St.avF (st:St)(ks:List Nat)(m:MV):Option AV:=if zE8 st ks m then st.avOf m else none
def zTU (st:St)(ks:List Nat)(y:Operand):Option AV :=
 match st.opnd y with
 |some v=>st.avF ks v
 |none=>none
def zV8 (st:St)(h:Ty->Bool)(own:List Bool)(e:List CV->List AV->Option (Bool×List CV×List AV))(id:Nat):List Operand->Option (Bool×St×MV)
 |x::ys=>
  match st.at x with
  |some (.lp l 0) =>
   match zl st.lo l with
   |some cells=>
    match st.blk own cells with
    |some (g,f) =>
     match zco (zTU st f) ys with
     |some c=>
      match e g c with
      |some (cc,b,d) =>
       match znJ own cells b id with
       |some a =>
        if cells.length<=12/\(d.flatMap AV.cvs).length<=16 then
         some (cc,{st with lo:=(l,a)::st.lo,ro:=zfD own b id++(zcN h d (id+12)++(killed st f++st.ro)),ep:=st.ep+1},zhh (zcK d (id+12)))
        else none
       |none=>none
      |none=>none
     |none=>none
    |none=>none
   |none=>none
  |_=>none
 |_=>none
def zFw (C:Cfg)(st:St)(o:Oper)(id:Nat):Option (Bool×St×MV):=
 match o.op with
 |.call c=>
  match c.callee with
  |.value (.func f) =>
   match C.pct f with
   |some (own,a)=>zV8 st (zcE f) own a id c.args.toList
   |none=>none
  |_=>none
 |_=>none
def zPO (st:St)(i:Ty->Bool)(own:List Bool)(f:List CV->List AV->Option (Bool×List CV×List AV))(id:Nat):List Operand->Option Dl
 |x::ys=>
  match st.at x with
  |some (.lp l 0) =>
   match zl st.lo l with
   |some cells=>
    match st.blk own cells with
    |some (h,g) =>
     match zco (zTU st g) ys with
     |some d=>
      match f h d with
      |some (cc,b,e) =>
       match znJ own cells b id with
       |some a =>
        if cells.length<=12/\(e.flatMap AV.cvs).length<=16 then
         some {c:=cc,v:=zhh (zcK e (id+12)),lo:=[(l,a)],ro:=zfD own b id++(zcN i e (id+12)++killed st g),bump:=true}
        else none
       |none=>none
      |none=>none
     |none=>none
    |none=>none
   |none=>none
  |_=>none
 |_=>none
def zi9 (C:Cfg)(o:Oper):Option (List Bool×(List CV->List AV->Option (Bool×List CV×List AV))):=
 match o.op with
 |.call c=>
  match c.callee with
  |.value (.func f)=>C.pct f
  |_=>none
 |_=>none
def zNQ (o:Oper):FuncId :=
 match o.op with
 |.call c=>
  match c.callee with
  |.value (.func f)=>f
  |_=>0
 |_=>0
def callArgs (o:Oper):List Operand :=
 match o.op with
 |.call c=>c.args.toList
 |_=>[]
def zkI (C:Cfg)(st:St)(o:Oper)(id:Nat):Option Dl :=
 match zi9 C o with
 |some (own,a)=>zPO st (zcE (zNQ o)) own a id (callArgs o)
 |none=>none
def zjv (C:Cfg)(st:St)(o:Oper)(id:Nat):Option Dl :=
 match delta C st o id with
 |some d=>some d
 |none=>zkI C st o id
def z2t (st:St)(ks:List Nat)(a:At):Bool :=
 (zbo a).all fun r=>!ks.contains r&&(match st.root r with|some R=>R.ep.isNone|none=>false)
def St.tks (st:St):List Bool->List At->Option (List CV×List Nat)
 |[],[]=>some ([],[])
 |own::ms,a::r=>
  match St.tks st ms r with
  |none=>none
  |some (d,b) =>
   match own with
   |true=>
    match a with
    |.sl q [] =>
     match st.root q with
     |some R=>if R.own && !b.contains q then some (.s R.t R.l::d,q::b) else none
     |none=>none
    |_=>none
   |false=>
    match st.cvOf a with
    |some c=>some (c::d,b)
    |none=>none
 |_,_=>none
def zfT:List TV->List CV->List AV
 |[],_=>[]
 |.at _::r,a=>.one (a.headD (.b false))::zfT r (a.drop 1)
 |.agg l::r,a=>.agg (a.take l.length)::zfT r (a.drop l.length)
def zTE (st:St):List Operand->Option (List TV)
 |[]=>some []
 |x::r=>
  match st.opnd x,zTE st r with
  |some (.v y),some a=>some (y::a)
  |_,_=>none
def zbcd:List (Nat×List (List (Nat×Nat))):=[
 (254,[[(4,2)],[(4,3)]]),
 (100000,[])]
def zhs (f:FuncId):List (List (Nat×Nat)):=
 match zl zbcd f with
 |some x=>x
 |none=>[[]]
def zx0 (st:St)(ks:List Nat)(b:List (Nat×Nat)):Nat->List Bool->List At->Bool
 |j,own::ms,a::r=>(own||(b.any (fun x=>Nat.beq x.1 j)||z2t st ks a))&&zx0 st ks b (j+1) ms r
 |_,_,_=>true
def zNO (own:List Bool)(a:List At)(b:List (Nat×Nat)):Bool :=
 b.all fun x=>match a[x.1]?,a[x.2]?,own[x.1]?,own[x.2]? with
  |some (.sl q []),some (.sl r []),some false,some true=>Nat.beq q r
  |_,_,_,_=>false
def zlk (q n:Nat)(js:List (List Nat)):At->At
 |.sl r p=>cond (Nat.beq r q) (cond (js.any (fun m=>m.isPrefixOf (cols p))) .bad (.sl n p)) (.sl r p)
 |.ep r p i o=>cond (Nat.beq r q) (cond (js.any (fun m=>m.isPrefixOf (cols p))) .bad (.ep n p i o)) (.ep r p i o)
 |.kp r J t=>cond (Nat.beq r q) (cond (coarse js J) (.kp n J t) .bad) (.kp r J t)
 |a=>a
def zqF (f:At->At):TV->TV
 |.at a=>.at (f a)
 |.agg l=>.agg (l.map f)
def zi6 (f:At->At):MV->MV
 |.und=>.und
 |.v x=>.v (zqF f x)
 |.tup l=>.tup (l.map (zqF f))
def z9w (own:List Bool)(a:List At)(id:Nat):Option (Nat×Nat×List (List Nat))->Option (Option (Nat×Nat×List (List Nat)))
 |none=>some none
 |some (b,c,d)=>match own[b]?,a[b]? with
  |some true,some (.sl q [])=>some (some (q,id+c,d))
  |_,_=>none
def St.ren (st:St):Option (Nat×Nat×List (List Nat))->St
 |none=>st
 |some (q,n,a)=>{st with tm:=st.tm.map (zi6 (zlk q n a)),stk:=st.stk.map (fun f=>f.map (zi6 (zlk q n a))),lo:=st.lo.map (fun x=>(x.1,x.2.map (zlk q n a)))}
def z4W (st:St)(c:List (List (Nat×Nat)))(own:List Bool)(d:Option (Nat×Nat×List (List Nat)))(f:List AV->Option (Bool×List AV))(id:Nat)(b:List Operand):Option (Bool×St×MV):=
 match zTE st b with
 |some a=>
  match st.tks own (a.flatMap zS) with
  |some (i,h) =>
   match z9w own (a.flatMap zS) id d with
   |some x=>
    cond (c.any fun g=>zNO own (a.flatMap zS) g&&zx0 st h g 0 own (a.flatMap zS))
     (match f (zfT a i) with
     |some (cc,e) =>
      if (e.flatMap AV.cvs).length<=31 then
       some (cc,({st with ro:=zcN zlS e id++(killed st h++st.ro),ep:=st.ep+1}:St).ren x,zhh (zcK e id))
      else none
     |none=>none) none
   |none=>none
  |none=>none
 |none=>none
def zTD (C:Cfg)(st:St)(o:Oper)(id:Nat):Option (Bool×St×MV):=
 match o.op with
 |.call c=>
  match c.callee with
  |.value (.func f) =>
   match C.tct f with
   |some (own,a,b)=>cond own.isEmpty none (z4W st (zhs f) own a b id c.args.toList)
   |none=>none
  |_=>none
 |_=>none
inductive IT where
 |hole
 |lit (i:Int)
inductive AT where
 |bad
 |i (k:IntKind)
 |b
 |sl (r:Nat) (js:List Nat)
 |lp (l off:Nat)
 |ep (r:Nat) (js:List Nat) (off:Nat)
 |fn (f:Nat) (caps:List Nat)
structure Tmpl where
 n:Nat
 tm:List (Nat×AT)
 lo:List (Nat×List AT)
 ro:List (Nat×Ty×Bool)
 sk:List (Nat×Nat×Nat×AT):=[]
 kr:Nat:=0
def AT.sig:AT->List CTy
 |.i k=>[.i k]
 |.b=>[.b]
 |.sl _ a=>a.map fun _=>.i .i64
 |.ep _ a _=>(a.map fun _=>CTy.i .i64)++[.i .i64]
 |_=>[]
def Tmpl.sig (T:Tmpl):List CTy :=
 T.tm.flatMap (fun x=>x.2.sig)++T.lo.flatMap (fun x=>x.2.flatMap AT.sig)++T.ro.map fun x=>.s x.2.1
abbrev Dat:List CTy->Type
 |[]=>Unit
 |.i _::r=>Int×Dat r
 |.b::r=>Bool×Dat r
 |.s t::r=>List t.den×Dat r
def unpack:(sig:List CTy)->List CV->Option (Dat sig)
 |[],[]=>some ()
 |.i k::sig,.i a n::cs=>if k=a then match unpack sig cs with
  |some d=>some (n,d)
  |none=>none
  else none
 |.b::sig,.b x::cs=>match unpack sig cs with
  |some d=>some (x,d)
  |none=>none
 |.s t::sig,.s c l::cs=>if h:c=t then match unpack sig cs with
  |some d=>some (h ▸ l,d)
  |none=>none
  else none
 |_,_=>none
def packs:(sig:List CTy)->Dat sig->List CV
 |[],_=>[]
 |.i k::sig,d=>.i k d.1::packs sig d.2
 |.b::sig,d=>.b d.1::packs sig d.2
 |.s t::sig,d=>.s t d.1::packs sig d.2
structure Bnd where
 r:List (Nat×Nat)
 l:List (Nat×Nat)
def idx:List Nat->List (Int×Nat)->Option (List CV)
 |[],[]=>some []
 |j::js,(i,b)::p=>if j==b then match idx js p with
  |some a=>some (.i .i64 i::a)
  |none=>none
  else none
 |_,_=>none
def zzC (l:List (Nat×Nat))(k v:Nat):Option (List (Nat×Nat)):=
 match zl l k with
 |some u=>if u==v then some l else none
 |none=>if l.any (fun x=>x.2==v) then none else some ((k,v)::l)
def zTr (l:List (Nat×Nat))(k v:Nat):Option (List (Nat×Nat)):=
 match zl l k with
 |some u=>if u==v then some l else none
 |none=>some ((k,v)::l)
def zE0 (B:Bnd):AT->At->Option (Bnd×List CV)
 |.bad,_=>some (B,[])
 |.i k,.i t n=>if k=t then some (B,[.i k n]) else none
 |.b,.b x=>some (B,[.b x])
 |.sl r m,.sl q p=>match zTr B.r r q,idx m p with
  |some br,some j=>some ({B with r:=br},j)
  |_,_=>none
 |.lp l e,.lp u c=>if e==c then match zzC B.l l u with
  |some g=>some ({B with l:=g},[])
  |none=>none
  else none
 |.ep r m e,.ep q p i c=>if e==c then match zTr B.r r q,idx m p with
  |some br,some j=>some ({B with r:=br},j++[.i .i64 i])
  |_,_=>none
  else none
 |.fn f d,.fn s a=>if f==s&&d.length==a.length then
  match (d.zip a).foldl (fun (h:Option (List (Nat×Nat))) x=>match h with|some g=>zzC g x.1 x.2|none=>none) (some B.l) with
  |some g=>some ({B with l:=g},[])
  |none=>none
  else none
 |_,_=>none
def zNq (st:St):Bnd->List (Nat×AT)->Option (Bnd×List CV)
 |B,[]=>some (B,[])
 |B,(n,a)::r=>
  match st.tm[n]? with
  |some (.v (.at x))=>match zE0 B a x with
   |some (d,e)=>match zNq st d r with
    |some (b,c)=>some (b,e++c)
    |none=>none
   |none=>none
  |_=>none
def stAt (st:St)(f s k:Nat):Option At :=
 match st.stk[f]? with
 |some a=>match a[s]? with
  |some (.v x)=>(zS x)[k]?
  |_=>none
 |none=>none
def zNo (st:St):Bnd->List (Nat×Nat×Nat×AT)->Option Bnd
 |B,[]=>some B
 |B,(f,s,k,a)::r=>
  match stAt st f s k with
  |some x=>match zE0 B a x with
   |some (b,[])=>zNo st b r
   |_=>none
  |none=>none
def znC:Bnd->List AT->List At->Option (Bnd×List CV)
 |B,[],[]=>some (B,[])
 |B,a::r,x::y=>match zE0 B a x with
  |some (d,e)=>match znC d r y with
   |some (b,c)=>some (b,e++c)
   |none=>none
  |none=>none
 |_,_,_=>none
def zNm (st:St):Bnd->List (Nat×List AT)->Option (Bnd×List CV)
 |B,[]=>some (B,[])
 |B,(l,f)::r=>
  match zl B.l l with
  |some e=>match zl st.lo e with
   |some cells=>match znC B f cells with
    |some (c,d)=>match zNm st c r with
     |some (a,b)=>some (a,d++b)
     |none=>none
    |none=>none
   |none=>none
  |none=>none
def zNn (st:St)(B:Bnd):List (Nat×Ty×Bool)->Option (List CV)
 |[]=>some []
 |(r,t,own)::rest=>
  match zl B.r r with
  |some b=>match zl st.ro b with
   |some R=>if R.t=t/\(own=true->R.own=true)/\R.ep=none then match zNn st B rest with
    |some a=>some (.s R.t R.l::a)
    |none=>none
    else none
   |none=>none
  |none=>none
def z7z (B:Bnd):Bool:=B.r.all (fun x=>decide (x.1<1000))&&B.l.all (fun x=>decide (x.1<1000))
def zbck (a:List (Nat×Ty×Bool))(B:Bnd):Bool:=a.all fun x=>cond x.2.2 (B.r.all fun y=>Nat.beq y.1 x.1||(match zl B.r x.1 with|some v=>!(Nat.beq v y.2)|none=>true)) true
def Tmpl.takeB (T:Tmpl)(st:St):Option (Bnd×List CV):=
 if T.n==st.tm.length then
  match zNq st ⟨[],[]⟩ T.tm with
  |some (d,e)=>match zNo st d T.sk with
   |some B=>match zNm st B T.lo with
    |some (b,c)=>match zNn st b T.ro with
     |some a=>if z7z b&&zbck T.ro b then some (b,e++c++a) else none
     |none=>none
    |none=>none
   |none=>none
  |none=>none
 else none
def Tmpl.take (T:Tmpl)(st:St):Option (List CV):=
 match T.takeB st with
 |some (_,a)=>some a
 |none=>none
def zMT:List (Nat×Nat)->Nat->Option Nat
 |[],_=>none
 |(k,v)::l,r=>cond (Nat.beq v r) (some k) (zMT l r)
def zrJ (B:Bnd)(base:Nat):At->At
 |.i k n=>.i k n
 |.b x=>.b x
 |.sl r p=>match zMT B.r r with|some k=>.sl (base+k) p|none=>.bad
 |.ep r p i o=>match zMT B.r r with|some k=>.ep (base+k) p i o|none=>.bad
 |.kp r J t=>match zMT B.r r with|some k=>.kp (base+k) J t|none=>.bad
 |.lp l o=>match zMT B.l l with|some k=>.lp (base+k) o|none=>.bad
 |_=>.bad
def ztv (B:Bnd)(base:Nat)(stk:List (List MV)):List (List MV):=stk.map fun f=>f.map (zi6 (zrJ B base))
def zij:List (Int×Nat)->List (Int×Nat)->Bool
 |[],[]=>true
 |[(i,j)],[(a,b)]=>cond (Nat.beq j b) (ieq i a) false
 |(i,j)::p,(a,b)::q=>cond (Nat.beq j b) (ieq i a&&zij p q) false
 |_,_=>false
def zzI (B:Bnd)(base:Nat)(a r:Nat):Bool:=Nat.ble base r&&(match zl B.r (r-base) with|some v=>Nat.beq v a|none=>false)
def zfR (B:Bnd)(base:Nat):At->At->Bool
 |.sl a c,.sl r p=>cond (zzI B base a r) (zij c p) false
 |.ep a c e b,.ep r p i o=>cond (zzI B base a r&&Nat.beq b o) (ieq e i&&zij c p) false
 |.kp a d g,.kp r J t=>zzI B base a r&&(d==J&&decide (g=t))
 |.lp f b,.lp l o=>Nat.ble base l&&Nat.beq o b&&(match zl B.l (l-base) with|some v=>Nat.beq v f|none=>false)
 |_,.sl _ _=>false
 |_,.lp _ _=>false
 |_,.ep _ _ _ _=>false
 |_,.fn _ _=>false
 |_,.kp _ _ _=>false
 |_,_=>true
def zFb (B:Bnd)(base:Nat):List At->List At->Bool
 |[],[]=>true
 |a::r,b::s=>zfR B base a b&&zFb B base r s
 |_,_=>false
def zDf (B:Bnd)(base:Nat):TV->TV->Bool
 |.at a,.at b=>zfR B base a b
 |.agg l,.agg m=>zFb B base l m
 |_,_=>false
def zFc (B:Bnd)(base:Nat):List TV->List TV->Bool
 |[],[]=>true
 |a::r,b::s=>zDf B base a b&&zFc B base r s
 |_,_=>false
def zT8 (B:Bnd)(base:Nat):MV->MV->Bool
 |.und,.und=>true
 |.v x,.v y=>zDf B base x y
 |.tup l,.tup m=>zFc B base l m
 |_,_=>false
def zTt (B:Bnd)(base:Nat):List MV->List MV->Bool
 |[],[]=>true
 |a::r,b::s=>zT8 B base a b&&zTt B base r s
 |_,_=>false
def zf1 (B:Bnd)(base:Nat):List (List MV)->List (List MV)->Bool
 |[],[]=>true
 |a::r,b::s=>zTt B base a b&&zf1 B base r s
 |_,_=>false
def zyg:List Nat->List CV->Option (List (Int×Nat)×List CV)
 |[],a=>some ([],a)
 |j::js,.i _ n::a=>match zyg js a with
  |some (p,b)=>some ((n,j)::p,b)
  |none=>none
 |_,_=>none
def putAt (base:Nat):AT->List CV->Option (At×List CV)
 |.bad,a=>some (.bad,a)
 |.i k,.i _ n::a=>some (.i k n,a)
 |.b,.b x::a=>some (.b x,a)
 |.sl r g,a=>match zyg g a with
  |some (p,c)=>some (.sl (base+r) p,c)
  |none=>none
 |.lp l d,a=>some (.lp (base+l) d,a)
 |.ep r g d,a=>match zyg g a with
  |some (p,.i _ n::c)=>some (.ep (base+r) p n d,c)
  |_=>none
 |.fn f e,a=>some (.fn f (e.map fun l=>base+l),a)
 |_,_=>none
def zTB (base:Nat):List (Nat×AT)->List CV->List MV->Option (List MV×List CV)
 |[],b,tm=>some (tm,b)
 |(n,a)::r,b,tm=>match putAt base a b with
  |some (x,c)=>zTB base r c (tm.set n (.v (.at x)))
  |none=>none
def putCells (base:Nat):List AT->List CV->Option (List At×List CV)
 |[],c=>some ([],c)
 |a::r,c=>match putAt base a c with
  |some (x,d)=>match putCells base r d with
   |some (e,b)=>some (x::e,b)
   |none=>none
  |none=>none
def zTz (base:Nat):List (Nat×List AT)->List CV->Option (List (Nat×List At)×List CV)
 |[],b=>some ([],b)
 |(l,e)::r,b=>match putCells base e b with
  |some (f,c)=>match zTz base r c with
   |some (d,a)=>some ((base+l,f)::d,a)
   |none=>none
  |none=>none
def zTA (base:Nat):List (Nat×Ty×Bool)->List CV->Option (List (Nat×Root))
 |[],[]=>some []
 |(r,_,own)::rest,.s t l::cs=>match zTA base rest cs with
  |some a=>some ((base+r,⟨t,l,own,none⟩)::a)
  |none=>none
 |_,_=>none
def Tmpl.put (T:Tmpl)(base:Nat)(cs:List CV):Option St :=
 match zTB base T.tm cs (List.replicate T.n (.v (.at .bad))) with
 |some (tm,b)=>match zTz base T.lo b with
  |some (lo,a)=>match zTA base T.ro a with
   |some ro=>some {tm,lo,ro,stk:=[],nid:=base+1000,ep:=0}
   |none=>none
  |none=>none
 |none=>none
def iter {σ a:Type}:Nat->((σ->Option a)->σ->Option a)->σ->Option a
 | 0,_,_=>none
 |n+1,F,s=>F (iter n F) s
inductive Ex where
 |normal
 |exit (id:Nat)
 |ret
abbrev Ans:=List AV
abbrev zgh:=FuncId->List MV->St->(List TV->St->Option Ans)->Option Ans
def guardOf (st:St)(ops:Array Oper)(j:Nat):Option MV :=
 match ops[j]? with
 |some o=>match o.dst with
  |some t=>st.tm[t]?
  |none=>none
 |none=>none
def zhW (ops:Array Oper)(j:Nat):Option Tmp :=
 match ops[j]? with
 |some o=>o.dst
 |none=>none
def byName (C:Cfg)(x:Operand)(f:FuncId):Bool :=
 match x with
 |.func _=>(C.ctr f).isSome||(C.mct f).isSome||(C.pct f).isSome||(C.tct f).isSome
 |_=>false
def isIn (C:Cfg)(st:St)(o:Oper):Option (FuncId×List Nat×Array Operand):=
 match o.op with
 |.call {callee:=.value x,args,.. } =>
  match st.at x with
  |some (.fn f a)=>cond (byName C x f) none (some (f,a,args))
  |_=>none
 |_=>none
abbrev share {a b:Type}(x:a)(f:a->b):b:=f x
def zNZ {d:Type}(a:At)(k:At->d):d :=
 match a with
 |.bad=>k .bad
 |.i c n=>k (.i c n)
 |.b x=>k (.b x)
 |.sl r p=>k (.sl r p)
 |.lp l o=>k (.lp l o)
 |.ep r p i o=>k (.ep r p i o)
 |.fn f c=>k (.fn f c)
 |.kp r J t=>k (.kp r J t)
def zZl {b:Type}(m:MV)(k:MV->b):b :=
 match m with
 |.und=>k .und
 |.v (.at a)=>zNZ a fun a=>k (.v (.at a))
 |.v (.agg l)=>k (.v (.agg l))
 |.tup l=>k (.tup l)
def zxZ {a:Type}:List MV->(List MV->a)->a
 |[],k=>k []
 |m::l,k=>zZl m fun m=>zxZ l fun l=>k (m::l)
def zpF {a:Type}(n:Nat)(k:Nat->a):a :=
 match n with
 | 0=>k 0
 |m+1=>k (m+1)
def zzU {b:Type}:List At->(List At->b)->b
 |[],k=>k []
 |a::l,k=>zNZ a fun a=>zzU l fun l=>k (a::l)
def zFl {b:Type}:List (Nat×List At)->(List (Nat×List At)->b)->b
 |[],k=>k []
 |(n,a)::l,k=>zpF n fun n=>zzU a fun a=>zFl l fun l=>k ((n,a)::l)
def z3r {a:Type}(b:Bool)(k:Bool->a):a :=
 match b with
 |true=>k true
 |false=>k false
def zZk {a:Type}(e:Option Nat)(k:Option Nat->a):a :=
 match e with
 |none=>k none
 |some n=>zpF n fun n=>k (some n)
def zFm {a:Type}:List (Nat×Root)->(List (Nat×Root)->a)->a
 |[],k=>k []
 |(n,⟨t,x,own,ep⟩)::l,k=>zpF n fun n=>z3r own fun own=>zZk ep fun ep=>zFm l fun l=>k ((n,⟨t,x,own,ep⟩)::l)
def St.forced (st:St)(k:St->Option Ans):Option Ans :=
 zxZ st.tm fun tm=>zFl st.lo fun lo=>zFm st.ro fun ro=>zpF st.nid fun nid=>zpF st.ep fun ep=>k {tm,lo,ro,stk:=st.stk,nid,ep}
def St.shared (st:St)(k:St->Option Ans):Option Ans :=
 zxZ st.tm fun tm=>
  match st.ro with
  |(r,R)::ro=>share R.l fun l=>k {st with tm,ro:=(r,{R with l})::ro}
  |[]=>k {st with tm}
def wrote (o:Oper)(d:Dl)(st:St)(k:St->Option Ans):Option Ans :=
 match o.op,d.ro with
 |.store ..,[_]=>st.shared k
 |_,_=>k st
def step1 (C:Cfg)(base:Nat)(i:Nat)(o:Oper)(st:St)(k:St->Option Ans):Option Ans :=
 match delta C st o (base+32*i) with
 |some d=>cond d.c (wrote o d (st.apply o.dst d) k) none
 |none=>
  match graft C st o with
  |some (c,a)=>cond c ((a.put o.dst .und).shared k) none
  |none=>
   match zTx C st o with
   |some (c,a,v)=>cond c ((a.put o.dst v).shared k) none
   |none=>
    match zFw C st o (base+32*i) with
    |some (c,a,v)=>cond c (k (a.put o.dst v)) none
    |none=>
     match zTD C st o (base+32*i) with
     |some (c,a,v)=>cond c (k (a.put o.dst v)) none
     |none=>none
def guarded (ops:Array Oper)(o:Oper)(st:St)(c skip:St->Option Ans):Option Ans :=
 match o.guard with
 |none=>c st
 |some (j,a) =>
  match guardOf st ops j with
  |some .und=>skip (st.put o.dst .und)
  |some (.v (.at (.b x))) =>
   cond x
    (match a with
     |true=>c (st.put (zhW ops j) (.v (.at (.b true))))
     |false=>skip ((st.put (zhW ops j) (.v (.at (.b true)))).put o.dst .und))
    (match a with
     |true=>skip ((st.put (zhW ops j) (.v (.at (.b false)))).put o.dst .und)
     |false=>c (st.put (zhW ops j) (.v (.at (.b false)))))
  |_=>none
def znN (C:Cfg)(a:zgh)(ops:Array Oper)(base:Nat)(k:St->Option Ans):List Nat->St->Option Ans
 |[],b=>k b
 |i::rest,b=>
  match ops[i]? with
  |none=>none
  |some o=>
   guarded ops o b
    (fun b=>
     match isIn C b o with
     |some (f,d,c) =>
      match zco (fun x=>b.opnd x) c.toList with
      |some h=>a f (h++d.map fun l=>.v (.at (.lp l 0))) b fun g e=>znN C a ops base k rest (e.put o.dst (zhh g))
      |none=>none
     |none=>step1 C base i o b (znN C a ops base k rest))
    (znN C a ops base k rest)
def zn9 (o:Oper):List Nat :=
 o.op.operands.toList.filterMap fun x=>match x with
  |.tmp t=>some t
  |_=>none
structure Foot where
 tm:List Nat
 ro:List Nat
 lo:List Nat
 dst:Option Nat
 wro:List Nat
 wlo:List Nat
def zs5 (st:St)(o:Oper):List At:=(o.op.operands.toList.filterMap st.opnd).flatMap zbA
def zx3 (ops:Array Oper)(o:Oper):List Nat :=
 match o.guard with
 |some (j,_)=>(zhW ops j).toList
 |none=>[]
def ze8 (st:St)(ops:Array Oper)(o:Oper)(d:Dl):Foot :=
 {tm:=zn9 o++zx3 ops o,ro:=(zs5 st o).flatMap zbo,lo:=(zs5 st o).flatMap zbq,dst:=o.dst,wro:=d.ro.map (·.1),wlo:=d.lo.map (·.1)}
def zDn (st:St)(o:Oper):List Nat :=
 (zs5 st o).flatMap fun a=>match a with
  |.lp l _=>match zl st.lo l with
   |some cells=>cells.flatMap zbo
   |none=>[]
  |_=>[]
def zvO (o:Oper):Bool :=
 match o.op with
 |.move (.tmp _)=>true
 |_=>false
def zeI (C:Cfg)(st:St)(ops:Array Oper)(o:Oper)(d:Dl):Foot :=
 {ze8 st ops o d with
  ro:=cond (zvO o) [] ((ze8 st ops o d).ro++cond (zi9 C o).isSome (zDn st o) [])
  lo:=cond (zvO o) [] (ze8 st ops o d).lo}
def zkX (ops:Array Oper)(o:Oper):Foot :=
 {tm:=zx3 ops o,ro:=[],lo:=[],dst:=o.dst,wro:=[],wlo:=[]}
def zC9 (a b:List Nat):Bool:=a.all fun x=>!b.contains x
def Foot.apart (x y:Foot):Bool :=
 (match x.dst with
  |some d=>!y.tm.contains d && !(y.dst==some d)
  |none=>true) &&
 (match y.dst with
  |some d=>!x.tm.contains d
  |none=>true) &&
 zC9 x.wro (y.ro++y.wro)&&zC9 y.wro x.ro&&zC9 x.wlo (y.lo++y.wlo)&&zC9 y.wlo x.lo
def zmQ (s:List Nat)(x:Nat):Bool:=s.any fun y=>Nat.beq x y
def addN (l s:List Nat):List Nat:=l.foldr (fun x s=>cond (zmQ s x) s (x::s)) s
def waits (ops:Array Oper)(a:List (List Nat))(i:Nat):List Nat :=
 match ops[i]? with
 |some o=>o.after.toList.foldr (fun e s=>cond (Region.binds .any e) (cond (zmQ s e.on) s (addN (a.getD e.on []) (e.on::s))) s) []
 |none=>[]
def zhu (ops:Array Oper):List Nat->List (List Nat)->List (List Nat)
 |[],a=>a
 |i::r,a=>zhu ops r (a++[waits ops a i])
def z3u (a:List (List Nat))(m:Nat):Bool:=(List.range m).all fun j=>(a.getD m []).contains j
def pinned (n:Nat)(a:List (List Nat))(m:Nat):Bool:=z3u a m&&(List.range' (m+1) (n-(m+1))).all fun k=>(a.getD k []).contains m
def zgX (n:Nat)(a:List (List Nat)):List Bool:=(List.range n).map (pinned n a)
def zcj:List Bool->Nat
 |false::r=>zcj r+1
 |_=>0
def zPJ (b:Region.Mode)(ops:Array Oper)(a:Nat->Nat):Bool :=
 (List.range ops.size).all fun i=>match ops[i]? with
  |some o=>o.after.toList.all fun e=>!Region.binds b e||(Nat.blt e.on ops.size&&Nat.blt (a e.on) (a i))
  |none=>true
def z9v:List Nat->Nat->Nat
 |[],_=>0
 |a::r,i=>cond (Nat.beq a i) 0 (z9v r i+1)
def z3k (ops:Array Oper)(a:List (List Nat)):Bool :=
 cond (Region.departs ops) (zPJ .text ops (fun i=>i)&&zPJ .gc ops (z9v (Region.linearise .gc ops 0))) true &&
 (List.range ops.size).all (fun i=>(a.getD i []).all fun j=>decide (j<i))
def znh (a:List (List Nat))(fs:List (Nat×Foot)):Bool :=
 fs.all fun x=>fs.all fun y=>!(decide (x.1<y.1))||(a.getD y.1 []).contains x.1||x.2.apart y.2
def zPD (ops:Array Oper)(i:Nat):Bool :=
 match ops[i]? with
 |some o=>match o.op with
  |.store .. | .buildSlice ..=>true
  |.slice _ _ (some _) none none=>true
  |.call c=>match c.callee with
   |.builtin .append=>true
   |_=>false
  |_=>false
 |none=>false
def zUO (o:Oper):Bool :=
 match o.op with
 |.slice _ _ none (some _) none=>true
 |_=>false
def zkC (C:Cfg)(ops:Array Oper)(i:Nat):Bool :=
 zPD ops i||(match ops[i]? with|some o=>(zi9 C o).isSome||(zFp C&&zUO o)|none=>false)
def ze2 (b:Bool)(R:Root):Root :=
 match b,R.ep with
 |true,some _=>{R with ep:=some 0}
 |_,_=>R
def St.effD (st:St)(b:Bool)(dst:Option Tmp)(d:Dl):St :=
 {st with lo:=d.lo++st.lo,ro:=d.ro.map (fun (x:Nat×Root)=>(x.1,ze2 b x.2))++st.ro}.put dst d.v
structure App where
 dst:Nat
 r:Nat
 p:List (Int×Nat)
 t:Ty
 l:List t.den
def zqo (C:Cfg)(st:St)(o:Oper):Option (Bool×App):=
 match o.op,o.dst,o.guard with
 |.call c,some d,none=>
  match c.callee with
  |.builtin .append=>
   match c.args.toList,c.argTypes.toList with
   |[x,y],[T,g] =>
    if g=T then
    match C.sty T,st.at x,st.at y with
    |some t,some (.sl r (a::p)),some (.sl f h) =>
     match st.root r,st.node r (a::p),st.node f h with
     |some R,some e,some b=>
      if R.own&&t.flat && !(r==f) then
       match zzA t e b,b with
       |some m,.s _ (_::_)=>some (few (ln m),⟨d,r,a::p,t,m⟩)
       |_,_=>none
      else none
     |_,_,_=>none
    |_,_,_=>none
    else none
   |_,_=>none
  |_=>none
 |_,_,_=>none
def zrN (o:Oper):Bool :=
 o.guard.isNone&&match o.op with
 |.move (.tmp _) | .load .. | .fieldAddr .. | .indexAddr .. | .nilCheck ..=>true
 |_=>false
def zDS (ops:Array Oper)(b:List (List Nat))(m a:Nat):Bool :=
 (List.range' m (a-m)).all fun j=>(b.getD a []).contains j||(match ops[j]? with|some o=>zrN o|none=>false)
def zE9:Dl:={v:=.v (.at .bad)}
def sameAt:At->At->Bool
 |.i k n,.i m s=>cond (decide (k=m)) (ieq n s) false
 |.b x,.b y=>zhf x y
 |.sl r p,.sl e d=>cond (Nat.beq r e) (zij p d) false
 |.ep r p i o,.ep e d j a=>cond (Nat.beq r e&&Nat.beq o a) (ieq i j&&zij p d) false
 |.lp l o,.lp q a=>Nat.beq l q&&Nat.beq o a
 |.fn f c,.fn h g=>Nat.beq f h&&c==g
 |_,_=>false
def zZP:List At->List At->Bool
 |[],[]=>true
 |a::r,b::s=>sameAt a b&&zZP r s
 |_,_=>false
def zbb0:MV->MV->Bool
 |.v (.at a),.v (.at b)=>sameAt a b
 |.v (.agg l),.v (.agg m)=>zZP l m
 |_,_=>false
def z1a (b:List (List Nat))(m a:Nat):List Nat:=(List.range' m (a-m)).filter fun j=>!(b.getD a []).contains j
def zU3 (ops:Array Oper)(a:List (List Nat))(js:List Nat)(o:Oper):Bool :=
 js.all fun j=>match ops[j]? with
  |some p=>match p.dst with
   |some t=>!(zn9 o).contains t&&js.all fun i=>match ops[i]? with
    |some q=>(!(zn9 q).contains t||(a.getD i []).contains j)&&(i==j || !(q.dst==some t))
    |none=>false
   |none=>false
  |none=>false
def zZw (_:Oper):Bool:=false
def zU4 (C:Cfg)(ops:Array Oper)(base:Nat)(k:St->Option Ans):List Nat->St->Option Ans
 |[],a=>k a
 |j::r,a=>
  match ops[j]? with
  |some o=>match delta C a o (base+32*j),o.dst with
   |some d,some t=>match a.tm[t]? with
    |some m=>cond (d.c&&zbb0 d.v m) (zU4 C ops base k r a) none
    |none=>none
   |_,_=>none
  |none=>none
def zts (C:Cfg)(ops:Array Oper)(e:List (List Nat))(b:Bool)(base m:Nat)(k:St->Option Ans)(h:App->St->Option Ans)(g:Nat->St->Option Ans):List Nat->List (Nat×Foot)->St->Option Ans
 |[],f,j=>if znh e f then k j else none
 |i::rest,f,j=>
  match ops[i]? with
  |none=>none
  |some o=>
   guarded ops o j
    (fun a =>
     match zjv C a o (base+32*i) with
     |some d=>cond d.c (zts C ops e b base m k h g rest ((i,zeI C a ops o d)::f) (a.effD b o.dst d)) none
     |none=>
      match rest,zqo C a o with
      |[],some (c,x)=>if b&&zDS ops e m i&&decide (x.dst<a.tm.length)&&znh e ((i,ze8 a ops o zE9)::f) then cond c (h x (a.put o.dst (.v (.at .bad)))) none else none
      |[],none=>if zZw o&&zDS ops e m i&&zU3 ops e (z1a e m i) o&&znh e f then g i a else none
      |_,_=>none)
    (fun a=>zts C ops e b base m k h g rest ((i,zkX ops o)::f) a)
def zDT (C:Cfg)(st:St)(o:Oper)(x:App):Option (Bool×St):=
 match o.op,o.guard with
 |.store T a (.tmp d),none=>
  match C.cty T,st.at a with
  |some (false,[.s f]),some (.ep r p i b) =>
   match st.root r,st.node r p,zna (p++[(i,b)]) x.p with
   |some R,some (.s t l),some c=>
    if R.own&&Nat.beq d x.dst&&Nat.beq r x.r&&decide (b<t.width) then
     match setRow t l i b [.s x.t x.l] with
     |some e=>match zpR R.t R.l p (.s t e) with
      |some m=>some (c,zhg st r R m [cols p++[b]])
      |none=>none
     |none=>none
    else none
   |_,_,_=>none
  |_,_=>none
 |_,_=>none
def zpK (C:Cfg)(ops:Array Oper)(base:Nat)(x:App)(k:Nat->List Bool->St->Option Ans):List Bool->Nat->St->Option Ans
 |true::r,m,a=>
  match ops[m]? with
  |none=>none
  |some o=>
   match zDT C a o x with
   |some (c,b)=>cond c ((b.put o.dst .und).shared (k (m+1) r)) none
   |none=>
    if zrN o && !(o.dst==some x.dst) then
     match delta C a o (base+32*m) with
     |some d=>cond d.c (zpK C ops base x k r (m+1) (a.apply o.dst d)) none
     |none=>none
    else none
 |_,_,_=>none
def zjQ (C:Cfg)(a:zgh)(ops:Array Oper)(f:List (List Nat))(base:Nat)(k:St->Option Ans):Nat->Nat->List Bool->St->Option Ans
 | 0,_,_,_=>none
 |d+1,m,g,h=>
  match g with
  |[]=>k h
  |true::r=>znN C a ops base (fun c=>zjQ C a ops f base k d (m+1) r c) [m] h
  |false::r=>
   let n:=zcj r+1
   let b:=(List.range' m n).any (zkC C ops)
   zts C ops f b base m (fun c=>zjQ C a ops f base k d (m+n) (r.drop (zcj r)) c)
    (fun x c=>zpK C ops base x (fun j l e=>zjQ C a ops f base k d j l e) (r.drop (zcj r)) (m+n) c)
    (fun i c=>znN C a ops base (zU4 C ops base (fun e=>zjQ C a ops f base k d (m+n) (r.drop (zcj r)) e) (z1a f m i)) [i] c)
    (List.range' m n) [] {h with ep:=if b then h.ep+1 else h.ep}
def zIz (C:Cfg)(a:zgh)(ops:Array Oper)(k:St->Option Ans)(st:St):Option Ans :=
 let b:=zhu ops (List.range ops.size) []
 if z3k ops b then zjQ C a ops b st.nid k (ops.size+1) 0 (zgX ops.size b) {st with nid:=st.nid+32*ops.size} else none
def zkl:Code->Nat
 |.seq a b=>zkl a+zkl b+1
 |.cond _ a b=>zkl a+zkl b+1
 |.block _ a=>zkl a+1
 |.loop a=>zkl a+1
 |_=>1
def zZm:Code->Bool
 |.cond _ _ _=>true
 |.seq _ b=>zZm b
 |_=>false
def zZy (a b:Code):Nat:=1000000+1000*zkl a+zkl b
def fitT (T:Tmpl)(st:St):Bool :=
 T.tm.all fun x=>match x.2,st.tm[x.1]? with
  |.lp _ o,some (.v (.at (.lp _ a)))=>Nat.beq o a
  |_,_=>true
def zbcn (tm:Nat->Option Tmpl)(st:St)(a b:Code):Option Tmpl :=
 match tm 999999 with
 |some _=>match zZm a with
  |true=>match tm (zZy a b) with
   |some T=>cond (fitT T st) (some T) (tm (1000000000+zZy a b))
   |none=>none
  |false=>none
 |none=>none
def zbbO:List (List MV)->Nat
 |[.v (.at (.kp r _ _))]::_=>r
 |_=>0
def zOR (T:Tmpl)(st:St):List (List MV):=ztv ⟨[(T.kr,zbbO st.stk)],[]⟩ st.nid st.stk
def z8W (T:Tmpl)(nid:Nat)(stk:List (List MV))(k:St->Option Ans)(s:Dat T.sig):Option Ans :=
 match T.put nid (packs T.sig s) with
 |none=>none
 |some a=>k {a with stk:=stk}
def z8V (T:Tmpl)(nid:Nat)(stk:List (List MV))(st:St)(κ:Dat T.sig->Option Ans):Option Ans :=
 match T.takeB st with
 |none=>none
 |some (B,a)=>match unpack T.sig a with
  |none=>none
  |some s=>cond (zf1 B nid st.stk stk) (κ s) none
def zgT (C:Cfg)(tm:Nat->Option Tmpl)(N:Nat)(g:zgh):Code->St->(Ex->St->Option Ans)->Option Ans
 |.skip,d,k=>k .normal d
 |.region _ j false,d,k=>
  d.forced fun d=>znN C g j d.nid (fun f=>k .normal f) (List.range j.size) {d with nid:=d.nid+32*j.size}
 |.region _ j true,d,k=>
  d.forced fun d=>zIz C g j (fun f=>k .normal f) d
 |.seq a b,d,k=>
  match zbcn tm d a b with
  |none=>zgT C tm N g a d fun e f=>match e with
   |.normal=>zgT C tm N g b f k
   |e=>k e f
  |some T=>
   share (z8W T d.nid (zOR T d) fun l=>zgT C tm N g b l k) fun u=>zgT C tm N g a d fun e f=>match e with
    |.normal=>z8V T d.nid (zOR T d) f u
    |e=>k e f
 |.cond c a b,d,k=>
  match d.at c with
  |some (.b x)=>cond x (zgT C tm N g a d k) (zgT C tm N g b d k)
  |_=>none
 |.block id (.loop h),d,k=>
  match tm id with
  |none=>none
  |some T=>
   match T.takeB d with
   |none=>none
   |some (m,q) =>
    match unpack T.sig q with
    |none=>none
    |some t=>
     cond (zf1 m d.nid d.stk (ztv m d.nid d.stk))
     (iter N (fun rec s=>
      match T.put d.nid (packs T.sig s) with
      |none=>none
      |some l=>zgT C tm N g h {l with stk:=ztv m d.nid d.stk} fun e f=>match e with
       |.normal=>match T.takeB f with
        |none=>none
        |some (p,n)=>match unpack T.sig n with
         |none=>none
         |some r=>cond (zf1 p d.nid f.stk (ztv m d.nid d.stk)) (rec r) none
       |.exit i=>if i==id then k .normal f else k (.exit i) f
       |.ret=>k .ret f) t) none
 |.block id h,d,k=>zgT C tm N g h d fun e f=>match e with
  |.exit i=>if i==id then k .normal f else k (.exit i) f
  |e=>k e f
 |.exit id,d,k=>k (.exit id) d
 |.ret,d,k=>k .ret d
 |_,_,_=>none
def ziP (C:Cfg)(st:St):List ResultVar->Option (List TV)
 |[]=>some []
 |.tmp t::r=>
  match st.tm[t]?,ziP C st r with
  |some (.v x),some d=>some (x::d)
  |_,_=>none
 |.cell t T::r=>
  match st.at (.tmp t),C.cty T,ziP C st r with
  |some (.lp l b),some (e,c),some d=>match zl st.lo l with
   |some f=>
    if e then (if b+c.length<=f.length then some (.agg ((f.drop b).take c.length)::d) else none)
    else match f[b]? with
     |some a=>some (.at a::d)
     |none=>none
   |none=>none
  |_,_,_=>none
def zvp (C:Cfg)(tms:FuncId->Nat->Option Tmpl)(N:Nat)(c:zgh)(f:FuncId)(g:List MV)(st:St)(k:List TV->St->Option Ans):Option Ans :=
 match C.P.funcs[f]? with
 |some d=>
  match d.body with
  |some b=>
   zgT C (tms f) N c b {st with tm:=g++List.replicate (d.ntmps-g.length) .und,stk:=st.tm::st.stk} fun e a =>
    match e with
    |.exit _=>none
    |_=>match ziP C a d.results.toList,a.stk with
     |some h,tm::stk=>k h {a with tm,stk}
     |_,_=>none
  |none=>none
 |none=>none
def z0r (f:FuncId)(e:List MV)(st:St)(k:List TV->St->Option Ans)(d:List AV->Option (Bool×List AV)):Option Ans :=
 match zco st.avOf e with
 |some a=>
  match d a with
  |some (c,b)=>if (b.flatMap AV.cvs).length<=31 then cond c (k (zcK b st.nid) {st with ro:=zcN (zcE f) b st.nid++st.ro,nid:=st.nid+32}) none else none
  |none=>none
 |none=>none
def zru (C:Cfg)(tms:FuncId->Nat->Option Tmpl)(N:Nat):Nat->zgh
 | 0=>fun _ _ _ _=>none
 |d+1=>fun f c b k=>
  match C.ctr f with
  |some a=>z0r f c b k a
  |none=>zvp C tms N (zru C tms N d) f c b k
def zqn (st:St):List TV->List Nat->Option Ans
 |[],_=>some []
 |.at a::r,seen=>
  match st.give none [a] 0 with
  |some (true,[c],b)=>if b.all (fun k=>!seen.contains k) then match zqn st r (b++seen) with
   |some d=>some (.one c::d)
   |none=>none
   else none
  |_=>none
 |.agg l::r,seen=>
  match st.give none l 0 with
  |some (true,e,b)=>if b.all (fun k=>!seen.contains k) then match zqn st r (b++seen) with
   |some d=>some (.agg e::d)
   |none=>none
   else none
  |_=>none
def zFH (R:Root):Root:=cond (zFt R.t&&R.ep.isNone) {R with own:=true} R
def St.thaw (st:St)(a:Bool):St:=cond a {st with ro:=st.ro.map fun x=>(x.1,zFH x.2)} st
def zpE (a:List AV):Bool:=(a.flatMap AV.cvs).all fun c=>match c with | .s t _=>t.flat|_=>true
def evalFn (C:Cfg)(tms:FuncId->Nat->Option Tmpl)(N D:Nat)(f:FuncId)(a:List AV):Option Ans :=
 cond (zhi f && !(zpE a)) none
 (zvp C tms N (zru C tms N D) f ((zcK a 0).map .v) {tm:=[],lo:=[],ro:=zcN zug a 0,stk:=[],nid:=(a.flatMap AV.cvs).length,ep:=0} fun b c=>zqn (c.thaw (zhi f)) b [])
def zTF:List (Nat×Ty):=[
 (3,.int),
 (90,.slot),
 (52,.ins),
 (71,.guest),
 (65,.mon),
 (160,.entry),
 (155,.kept),
 (42,.act),
 (118,.told),
 (137,.bare),
 (4,.bool),
 (5,.u8),
 (36,.sl .int),
 (53,.sl .ins),
 (54,.sl (.sl .ins)),
 (100000,.int)]
def zFg:List Nat:=[
 90,
 52,
 160,
 42,
 118,
 67,
 69,
 100000]
def zcz (P:Program):Nat->TypeId->Option (Bool×List CTy)
 | 0,_=>none
 |n+1,T=>
  match P.underlying T with
  |some (.int k)=>some (false,[.i k])
  |some .bool=>some (false,[.b])
  |some (.slice e)=>match zl zTF e with
   |some t=>some (false,[.s t])
   |none=>none
  |some (.struct a)=>match zco (fun (f:Field)=>match zcz P n f.type with|some x=>some x.2|none=>none) a.toList with
   |some l=>some (true,l.flatten)
   |none=>none
  |_=>none
def zwQ (P:Program)(T:TypeId):Option Ty :=
 match P.underlying T with
 |some (.slice e)=>zl zTF e
 |_=>none
def ztV (P:Program)(T:TypeId)(f:Nat):Option (Nat×Nat):=
 match P.underlying T with
 |some (.struct a)=>match a[f]? with
  |some x=>match P.info? x.type with
   |some i=>if i.size=0 then none else some (x.offset,i.size)
   |none=>none
  |none=>none
 |_=>none
def zfP:Nat:=700
def below {a:Type}(T:Nat)(x:Option a):Option a:=cond (Nat.blt T zfP) x none
def zlO (a:FuncId->Option (List AV->Option (Bool×List AV)))(b:FuncId->Option (CV->Int->Option (Bool×CV×Int)))(c:FuncId->Option (List Bool×(List CV->List AV->Option (Bool×List CV×List AV))))(d:FuncId->Option (List Bool×Option (Nat×Nat×List (List Nat))×(List AV->Option (Bool×List AV)))):Cfg where
 P:=Tryz.prog
 sty T:=below T (zwQ Tryz.prog T)
 cty T:=below T (zcz Tryz.prog 4 T)
 fof T f:=ztV Tryz.prog T f
 eqt T:=zFg.contains T
 ctr:=a
 mct:=b
 pct:=c
 tct:=d
abbrev zX:=Nat->Prop
def big:Nat:=140737488355328
theorem zc9 (t:Ty)(x:t.den):(t.cells x).length=t.width:=by cases t<;>rfl
theorem zei (t:Ty):t.shape.length=t.width:=by cases t<;>rfl
theorem zIk (t:Ty)(x:t.den):(t.cells x).map CV.ty=t.shape:=by cases t<;>rfl
theorem zjz {t:Ty}{cs:List CV}{x:t.den}(h:t.ofCells cs=some x):t.cells x=cs:=by
 cases t<;>simp only [Ty.ofCells]at h<;>split at h<;>first
  |(cases h;rfl)
  | (split at h
     .rename_i hh;cases hh;cases h;rfl
     .cases h)
  |cases h
inductive Rep (o:Bool) (w:World):Value->CV->zX->Prop
 |i (k:IntKind) (n:Int) (S:zX):Rep o w (.int k n) (.i k n) S
 |b (x:Bool) (S:zX):Rep o w (.bool x) (.b x) S
 |nil (t:Ty) (S:zX):Rep o w (.slice none 0 0) (.s t []) S
 |void (t:Ty) (a:Addr) (S:zX) (ho:o=false):Rep o w (.slice (some a) 0 0) (.s t []) S
 |sl (t:Ty) (l:List t.den) (b off cap:Nat) (arr:Array Value) (e:TypeId) (fz:Nat×Nat) (V:Nat->Nat->Value) (K:Nat->Nat->zX) (S:zX)
  (hb:w.heap[b]?=some (.cells arr e fz)) (hfz:o=true->fz=(0,0))
  (hlen:l.length<=big) (hcap:l.length<=cap) (hsz:off+cap*t.width<=arr.size)
  (hS:S b) (hsub:∀i j x,i<l.length->j<t.width->K i j x->S x/\(o=true->x≠b))
  (hdis:o=true->∀i j i' j' x,i<l.length->j<t.width->i'<l.length->j'<t.width->K i j x->K i' j' x->i=i'/\j=j')
  (hv:∀i j,i<l.length->j<t.width->arr[off+i*t.width+j]?=some (V i j))
  (hc:∀i x,l[i]?=some x->∀j c,(t.cells x)[j]?=some c->Rep o w (V i j) c (K i j)) :
  Rep o w (.slice (some ⟨b,off,none⟩) l.length cap) (.s t l) S
theorem Rep.frame {o:Bool}{w w':World}{v:Value}{c:CV}{S:zX}(h:Rep o w v c S)(B:∀x,S x->w'.heap[x]?=w.heap[x]?):Rep o w' v c S:=by induction h with|i k n S=>exact .i k n S|b x S=>exact .b x S|nil t S=>exact .nil t S|void t a S H=>exact .void t a S H|sl t l b z r q e D V K S E s p f u A d m I M L=>refine .sl t l b z r q e D V K S ((B b A).trans E) s p f u A d m I ?_;intro i x C j c g;have F:i<l.length:=(qA.1 C).1;have G:j<t.width:=(by have:=(qA.1 g).1;rw[zc9] at this;exact this);exact L i x C j c g (fun y J=>B y (d i j y F G J).1)
theorem Rep.weak {o:Bool}{w:World}{v:Value}{c:CV}{S S':zX}(h:Rep o w v c S)(B:∀x,S x->S' x):Rep o w v c S':=by cases h with|i k n=>exact .i k n S'|b x=>exact .b x S'|nil t=>exact .nil t S'|void t a _ G=>exact .void t a S' G|sl t l b u q p e C V K _ E r m f s D d g H F=>exact .sl t l b u q p e C V K S' E r m f s (B _ D) (fun i j x y z A=>⟨B _ (d i j x y z A).1,(d i j x y z A).2⟩) g H F
theorem Rep.ro {o:Bool}{w:World}{v:Value}{c:CV}{S:zX}(h:Rep o w v c S):Rep false w v c S:=by induction h with|i k n S=>exact .i k n S|b x S=>exact .b x S|nil t S=>exact .nil t S|void t a S H=>exact .void t a S rfl|sl t l b r p m e u V K S z A f d q y g s E G F=>exact .sl t l b r p m e u V K S z (fun h=>by cases h) f d q y (fun i j x B C D=>⟨(g i j x B C D).1,fun h=>by cases h⟩) (fun h=>by cases h) E F
theorem Rep.len {o:Bool}{w:World}{v:Value}{t:Ty}{l:List t.den}{S:zX}(h:Rep o w v (.s t l) S) :
 (∃a cap,v = .slice a l.length cap/\l.length<=cap)/\l.length<=big:=by
 cases h with
 |nil=>exact⟨⟨none,0,rfl,qZ _⟩,jX _⟩
 |void t a _ m=>exact⟨⟨some a,0,rfl,qZ _⟩,jX _⟩
 |sl _ _ b i cap f e j V K _ k g d c=>exact⟨⟨_,cap,rfl,c⟩,d⟩
theorem Rep.int_inv {o:Bool}{w:World}{v:Value}{k:IntKind}{n:Int}{S:zX}(h:Rep o w v (.i k n) S):v = .int k n:=by cases h;rfl
theorem Rep.bool_inv {o:Bool}{w:World}{v:Value}{x:Bool}{S:zX}(h:Rep o w v (.b x) S):v = .bool x:=by cases h;rfl
def zZ (w:World):Ty->Value->List (Int×Nat)->Option Value
 |_,v,[]=>some v
 |t,.slice (some a) len _,(i,j)::p=>
  if 0<=i/\i.toNat<len then
   match t.shape[j]? with
   |some (.s b)=>match w.cell? ⟨a.block,a.off+i.toNat*t.width+j,none⟩ with
    |some c=>zZ w b c p
    |none=>none
   |_=>none
  else none
 |_,_,_=>none
def zxG:Ty->List (Int×Nat)->Option Ty
 |t,[]=>some t
 |t,(_,j)::p=>match t.shape[j]? with
  |some (.s a)=>zxG a p
  |_=>none
theorem zJU {t:Ty}{x:t.den}{j:Nat}{c:CV}(h:(t.cells x)[j]?=some c):t.shape[j]?=some c.ty:=by have:=zIk t x;rw[<- this,qP,h];rfl
theorem zAT {t:Ty}{x:t.den}{j:Nat}{a:CTy}(h:t.shape[j]?=some a):∃c,(t.cells x)[j]?=some c/\c.ty=a:=by have d:=zIk t x;rw[<- d,qP]at h;cases b:(t.cells x)[j]? with|none=>rw[b]at h;cases h|some c=>rw[b]at h;exact⟨c,rfl,by simpa using h⟩
theorem zk5 {c:CV}{t:Ty}(h:c.ty = .s t):∃l:List t.den,c = .s t l:=by cases c with|i k n=>cases h|b x=>cases h|s a l=>cases h;exact⟨l,rfl⟩
theorem cell_of_block {w:World}{b o:Nat}{arr:Array Value}{e:TypeId}{a:Nat×Nat}(c:w.heap[b]?=some (.cells arr e a)):w.cell? ⟨b,o,none⟩=arr[o]?:=by simp[World.cell?,c]
theorem zld {a:Type}{l:List a}{i:Int}{d:a}(h:i.toNat<l.length):l[i.toNat]?=some (ix l i d):=by simp[ix,List.getD,qB h]
theorem Rep.at {o:Bool}{w:World}:∀(p:List (Int×Nat)) {v m:Value} {t:Ty} {l:List t.den} {S:zX},Rep o w v (.s t l) S->zZ w t v p=some m->
 ∃(k:Ty) (u:List k.den) (S':zX),zgm t l p=some (.s k u)/\zxG t p=some k/\Rep o w m (.s k u) S'/\∀x,S' x->S x:=by
 intro p
 induction p with
 |nil=>intro v m t l S h a;simp only[zZ,qC]at a;subst a;exact⟨t,l,S,rfl,rfl,h,fun _ r=>r⟩
 |cons R p Q=>obtain⟨i,j⟩:=R;intro v m t l S h a;cases h with|nil=>simp[zZ]at a|void=>simp[zZ]at a|sl _ _ b U E D e X V K _ J M B y O Y g z P L=>simp only[zZ]at a;split at a;{rename_i q;split at a;{rename_i k d;rw[cell_of_block J]at a;have A:j<t.width:=(by rw[<- zei];exact(qA.1 d).1);rw[P i.toNat j q.2 A]at a;simp only at a;obtain⟨c,f,n⟩:=zAT (x:=ix l i t.dflt) d;obtain⟨u,rfl⟩:=zk5 n;have N:=L i.toNat _ (zld q.2) j _ f;obtain⟨W,T,C,F,G,H,I⟩:=Q N a;refine⟨W,T,C,?_,?_,H,fun x r=>(g i.toNat j x q.2 A (I x r)).1⟩;{simp only [zgm,f,F]};{simp only [zxG,d,G]}};{cases a}};{cases a}
theorem zda {o:Bool}{w w':World}:∀(p:List (Int×Nat)) {v:Value} {t:Ty} {l:List t.den} {S:zX},Rep o w v (.s t l) S->(∀x,S x->w'.heap[x]?=w.heap[x]?)->zZ w' t v p=zZ w t v p:=by intro p;induction p with|nil=>intro v t l S _ _;rfl|cons I p H=>obtain⟨i,j⟩:=I;intro v t l S h r;(cases h with|nil=>rfl|void=>simp[zZ]|sl _ _ b J A z e L V K _ m D y n E B d q F C=>simp only[zZ];split;{rename_i k;split;{rename_i N a;rw[cell_of_block m,cell_of_block ((r b B).trans m)];have u:j<t.width:=(by rw[<- zei];exact(qA.1 a).1);rw[F i.toNat j k.2 u];simp only;obtain⟨c,f,g⟩:=zAT (x:=ix l i t.dflt) a;obtain⟨M,rfl⟩:=zk5 g;exact H (C i.toNat _ (zld k.2) j _ f) (fun x G=>r x (d i.toNat j x k.2 u G).1)};{rfl}};{rfl})
theorem z6x {cs:List CV}{k:IntKind}{r:List CTy}(h:cs.map CV.ty = .i k::r):∃n cs',cs = .i k n::cs'/\cs'.map CV.ty=r:=by cases cs with|nil=>cases h|cons c cs=>simp only[jB,List.cons.injEq]at h;(cases c with|i e n=>obtain⟨a,d⟩:=h;cases a;exact⟨n,cs,rfl,d⟩|b x=>cases h.1|s t l=>cases h.1)
theorem z6w {cs:List CV}{r:List CTy}(h:cs.map CV.ty = .b::r):∃x cs',cs = .b x::cs'/\cs'.map CV.ty=r:=by cases cs with|nil=>cases h|cons c cs=>simp only[jB,List.cons.injEq]at h;(cases c with|i a n=>cases h.1|b x=>exact⟨x,cs,rfl,h.2⟩|s t l=>cases h.1)
theorem z6y {cs:List CV}{t:Ty}{r:List CTy}(h:cs.map CV.ty = .s t::r):∃(l:List t.den) (cs':List CV),cs = .s t l::cs'/\cs'.map CV.ty=r:=by cases cs with|nil=>cases h|cons c cs=>simp only[jB,List.cons.injEq]at h;(cases c with|i e n=>cases h.1|b x=>cases h.1|s f l=>obtain⟨a,d⟩:=h;cases a;exact⟨l,cs,rfl,d⟩)
theorem zMF:∀{t:Ty} {cs:List CV},cs.map CV.ty=t.shape->∃x,t.ofCells cs=some x:=by
 intro t cs h;cases t<;>simp only [Ty.shape]at h <;>
  (repeat (first
   |(obtain⟨n,a,b,c⟩:=z6x h;subst b;clear h;rename _=>h)
   |(obtain⟨n,a,b,c⟩:=z6w h;subst b;clear h;rename _=>h)
   |(obtain⟨n,a,b,c⟩:=z6y h;subst b;clear h;rename _=>h))) <;>
  (cases (List.map_eq_nil_iff.1 h);first|exact⟨_,rfl⟩|exact⟨_,dif_pos rfl⟩)
theorem zhR {b:Type}(l:List b)(off:Nat)(a:List b)(h:off+a.length<=l.length):(splice l off a).length=l.length:=by simp[splice];omega
theorem zej {b:Type}(l:List b)(off:Nat)(a:List b)(h:off+a.length<=l.length)(j:Nat)(c:off<=j)(d:j<off+a.length):(splice l off a)[j]?=a[j-off]?:=by unfold splice;rw[j9,qR (by simp;omega),qV (by simp;omega)];congr 1;simp;omega
theorem zd8 {c:Type}(l:List c)(off:Nat)(a:List c)(h:off+a.length<=l.length)(j:Nat)(b:j<off\/off+a.length<=j):(splice l off a)[j]?=l[j]?:=by unfold splice;rcases b with b|b;{rw [j9,qV (by simp;omega),jI];simp[b]};{rw [j9,qR (by simp;omega),qR (by simp;omega),jQ];congr 1;simp;omega}
theorem z2d {b c:Type}(f:b->c)(l:List b)(off:Nat)(a:List b):(splice l off a).map f=splice (l.map f) off (a.map f):=by simp[splice,List.map_take,List.map_drop]
theorem zH5 {c:Type}(l:List c)(off:Nat)(a:List c)(h:off+a.length<=l.length)(d:∀k,k<a.length->l[off+k]?=a[k]?):splice l off a=l:=by apply k5;intro j;by_cases b:off<=j/\j<off+a.length;{rw [zej l off a h j b.1 b.2,<- d (j-off) (by omega)];congr 1;omega};{rw [zd8 l off a h j (by omega)]}
theorem z9y {a:Type}{l:List a}{i:Int}{x:a}{k:Nat}(h:k<l.length):(up l i x)[k]?=if i.toNat=k then some x else l[k]?:=by unfold up;rw[q9];split;{rename_i b;subst b;simp[h]};{rfl}
theorem zf0 {a:Type}(l:List a)(i:Int)(x:a):(up l i x).length=l.length:=by simp[up]
theorem Rep.focus {w:World}:∀(p:List (Int×Nat)) {v v':Value} {t:Ty} {l:List t.den} {S:zX},Rep true w v (.s t l) S->zZ w t v p=some v'->
 ∃(U:Ty) (l':List U.den) (O:zX),zgm t l p=some (.s U l')/\zxG t p=some U/\Rep true w v' (.s U l') O/\(∀x,O x->S x)/\
  ∀(w':World) (l2:List U.den) (S2:zX),(∀x,S x->¬ O x->w'.heap[x]?=w.heap[x]?)->(∀x,S2 x->S x->O x)->Rep true w' v' (.s U l2) S2->
   ∃m,zpR t l p (.s U l2)=some m/\Rep true w' v (.s t m) (fun x=>(S x/\¬ O x)\/S2 x)/\
    (∀q u,zZ w t v q=some u->(∀q',q=p++q'->q'=[])->zZ w' t v q=some u)/\
    (∀q',zZ w' t v (p++q')=zZ w' U v' q'):=by
 intro p
 induction p with
 |nil=>intro v v' t l S h H;simp only[zZ,qC]at H;subst H;refine⟨t,l,S,rfl,rfl,h,fun _ A=>A,fun w' l2 S2 _ _ h2=>⟨l2,by simp[zpR],h2.weak fun x A=>.inr A,?_,fun _=>rfl⟩⟩;intro q u M hn;have:=hn q (by simp);subst this;exact M
 |cons ij p ih=>
  obtain⟨i,j⟩:=ij;intro v v' t l S h H;cases h with
  |nil=>simp[zZ]at H
  |void _ _ _ ho=>cases ho
  |sl _ _ b c5 b3 a5 e fz V K _ hb b6 c7 c6 c2 hS n G hv hc=>
   have c8:=H;simp only[zZ]at H;split at H;{rename_i X;split at H;{rename_i t0 N;rw[cell_of_block hb]at H;have hj:j<t.width:=(by rw[<- zei];exact(qA.1 N).1);rw[hv i.toNat j X.2 hj]at H;simp only at H;obtain⟨c,a3,b5⟩:=zAT (x:=ix l i t.dflt) N;obtain⟨l0,rfl⟩:=zk5 b5;have hr:=hc i.toNat _ (zld X.2) j _ a3;obtain⟨U,l',O,h1,h2,h3,h4,h5⟩:=ih hr H;have P:¬ O b:=fun A=>(n i.toNat j b X.2 hj (h4 b A)).2 rfl rfl;refine⟨U,l',O,by simp only[zgm,a3,h1],by simp only[zxG,N,h2],h3,fun x A=>(n i.toNat j x X.2 hj (h4 x A)).1,?_⟩;intro w' l2 S2 F W b0;have a6:∀x,K i.toNat j x->S x:=fun x A=>(n i.toNat j x X.2 hj A).1;obtain⟨m0,b7,b1,b9,c0⟩:=h5 w' l2 S2 (fun x A hn=>F x (a6 x A) hn) (fun x A E=>W x A (a6 x E)) b0;have a7:j+[CV.s t0 m0].length<=(t.cells (ix l i t.dflt)).length:=(by rw[zc9];simp;omega);have Z:(splice (t.cells (ix l i t.dflt)) j [CV.s t0 m0]).map CV.ty=t.shape:=(by rw[z2d,zIk];refine zH5 _ _ _ (by rw[zei];simp;omega) ?_;intro k E;have:k=0:=(by simpa using E);subst this;simpa [CV.ty] using N);obtain⟨x',b2⟩:=zMF Z;have a0:=zjz b2;have a1:w'.heap[b]?=some (.cells a5 e fz):=(F b hS P).trans hb;have B:∀g f,g<l.length->f<t.width->¬ (g=i.toNat/\f=j)->∀x,K g f x->¬ O x/\w'.heap[x]?=w.heap[x]?:=(by intro g f a d a4 x A;have hn:¬ O x:=fun h=>a4 (G rfl g f i.toNat j x a d X.2 hj A (h4 x h));exact⟨hn,F x (n g f x a d A).1 hn⟩);refine⟨up l i x',?_,?_,?_,?_⟩;{simp only [zpR,a3,b7,b2]};{have R:(up l i x').length=l.length:=zf0 _ _ _;rw[<- R];refine .sl t (up l i x') b c5 b3 a5 e fz V (fun g f=>if g=i.toNat/\f=j then (fun x=>(K g f x/\¬ O x)\/S2 x) else K g f) _ a1 b6 (by omega) (by omega) c2 (.inl ⟨hS,P⟩) ?_ ?_ (by rw[R];exact hv) ?_;{intro g f x a d E;rw[R]at a;split at E;{rename_i T;rcases E with⟨E,hn⟩|E;{exact⟨.inl ⟨(n g f x a d E).1,hn⟩,(n g f x a d E).2⟩};{refine⟨.inr E,fun _ c3=>?_⟩;subst c3;exact P (W x E hS)}};{rename_i T;exact⟨.inl ⟨(n g f x a d E).1,(B g f a d T x E).1⟩,(n g f x a d E).2⟩}};{intro _ g f i2 j2 x a d L Q z r;rw[R]at a L;split at z;{rename_i J;split at r;{rename_i D;exact⟨J.1.trans D.1.symm,J.2.trans D.2.symm⟩};{rename_i D;rcases z with⟨z,_⟩|z;{exact G rfl g f i2 j2 x a d L Q z r};{exact absurd (W x z (n i2 j2 x L Q r).1) (B i2 j2 L Q D x r).1}}};{rename_i J;split at r;{rename_i D;rcases r with⟨r,_⟩|r;{exact G rfl g f i2 j2 x a d L Q z r};{exact absurd (W x r (n g f x a d z).1) (B g f a d J x z).1}};{exact G rfl g f i2 j2 x a d L Q z r}}};{intro g y hy f c C;have a:g<l.length:=(by have:=(qA.1 hy).1;rwa [R] at this);have d:f<t.width:=(by have:=(qA.1 C).1;rwa [zc9] at this);rw[z9y a]at hy;by_cases T:g=i.toNat/\f=j;{obtain⟨J,D⟩:=T;subst J D;simp only[if_true,qC]at hy;subst hy;rw[a0,zej _ _ _ a7 f (qZ _) (by simp)]at C;simp only[k6,qH,qC]at C;subst C;simp only[and_self,if_true];exact b1};{simp only [T,if_false];have a2:∃y0,l[g]?=some y0/\(t.cells y0)[f]?=some c:=(by by_cases Y:i.toNat=g;{subst Y;simp only[if_true,qC]at hy;subst hy;have c9:f≠j:=fun h=>T ⟨rfl,h⟩;rw[a0,zd8 _ _ _ a7 f (by simp;omega)]at C;exact⟨_,zld X.2,C⟩};{simp only [Y,if_false]at hy;exact⟨y,hy,C⟩});obtain⟨y0,c4,a9⟩:=a2;exact(hc g y0 c4 f c a9).frame fun x A=>(B g f a d T x A).2}}};{intro q u M a4;cases q with|nil=>exact M|cons ab q=>obtain⟨g,f⟩:=ab;simp only[zZ]at M ⊢;split at M;{rename_i a;rw[if_pos a];split at M;{rename_i t1 I;rw[cell_of_block hb]at M;rw[cell_of_block a1];have d:f<t.width:=(by rw[<- zei];exact(qA.1 I).1);rw[hv g.toNat f a.2 d]at M ⊢;simp only at M ⊢;by_cases T:g.toNat=i.toNat/\f=j;{have Y:g=i:=(by omega);obtain⟨_,rfl⟩:=T;subst Y;rw[N]at I;cases I;exact b9 q u M (fun q' b8=>a4 q' (by simp[b8]))};{obtain⟨c1,b4,a8⟩:=zAT (x:=ix l g t.dflt) I;obtain⟨l1,rfl⟩:=zk5 a8;rw[zda q (hc g.toNat _ (zld a.2) f _ b4) (fun x A=>(B g.toNat f a.2 d T x A).2)];exact M}};{cases M}};{cases M}};{intro q';have:=c0 q';simp only[kG,zZ];rw[if_pos X,N];simp only;rw[cell_of_block a1,hv i.toNat j X.2 hj];exact this}};{cases H}};{cases H}
structure Env where
 ρ:Nat->Value
 φ:Nat->zX
 β:Nat->Nat
 κ:World
def zbbd (a w:World)(t:Ty)(v:Value)(J:List (List Nat)):Prop :=
 ∀p u,zZ a t v p=some u->J.any (fun c=>c.isPrefixOf (cols p))=false->zZ w t v p=some u
def VA (w:World)(st:St)(E:Env):At->Value->Prop
 |.bad,_=>True
 |.i k n,v=>v = .int k n
 |.b x,v=>v = .bool x
 |.sl r p,v=>(∃a len c,v = .slice a len c)/\∀R,st.root r=some R->zZ w R.t (E.ρ r) p=some v
 |.lp l e,v=>(∃a,v = .pointer (some a))/\∀g,zl st.lo l=some g->v = .pointer (some ⟨E.β l,e,none⟩)
 |.ep r p i e,v=>(∃a,v = .pointer (some a))/\∀R,st.root r=some R->∃b o len c j,zZ w R.t (E.ρ r) p=some (.slice (some ⟨b,o,none⟩) len c)/\zxG R.t p=some j/\
  0<=i/\i.toNat<len/\v = .pointer (some ⟨b,o+i.toNat*j.width+e,none⟩)
 |.fn f d,v=>∃h:Array Value,v = .func (.func f) #[] h/\h.size=d.length/\
  ∀(k l:Nat) (u:Value),d[k]?=some l->h[k]?=some u->(∃a,u = .pointer (some a))/\∀g,zl st.lo l=some g->u = .pointer (some ⟨E.β l,0,none⟩)
 |.kp r J t,v=>(∃a len c,v = .slice a len c)/\∀R,st.root r=some R->R.t=t/\E.ρ r=v/\zbbd E.κ w t v J
def VT (w:World)(st:St)(E:Env):TV->Value->Prop
 |.at a,v=>VA w st E a v
 |.agg l,v=>∃b:Array Value,v = .agg b/\b.size=l.length/\∀(j:Nat) (a:At) (u:Value),l[j]?=some a->b[j]?=some u->u.oneCell'=true/\VA w st E a u
def VM (w:World)(st:St)(E:Env):MV->Value->Prop
 |.und,v=>v=undef
 |.v x,v=>VT w st E x v
 |.tup l,v=>∃a:Array Value,v = .tuple a/\a.size=l.length/\∀(j:Nat) (x:TV) (u:Value),l[j]?=some x->a[j]?=some u->VT w st E x u
def At.ids (a:At):List Nat:=zbo a++zbq a
def MV.ids (m:MV):List Nat:=(zbA m).flatMap At.ids
structure Trans (st:St) (E:Env) (w:World) (st1:St) (E1:Env) (w1:World) (U:Nat->Prop):Prop where
 ro:∀r,U r->∀R1,st1.root r=some R1->∃R,st.root r=some R/\R1.t=R.t/\∀p u,zZ w R.t (E.ρ r) p=some u->zZ w1 R.t (E1.ρ r) p=some u
 lo:∀l,U l->∀cs1,zl st1.lo l=some cs1->(∃cs,zl st.lo l=some cs)/\E1.β l=E.β l
 κ:E1.κ=E.κ
section
variable {st st1:St} {E E1:Env} {w w1:World} {U:Nat->Prop}
theorem VA.tr (T:Trans st E w st1 E1 w1 U){a:At}{v:Value}(C:∀n∈a.ids,U n)(h:VA w st E a v):VA w1 st1 E1 a v:=by cases a with|bad=>trivial|i k n=>exact h|b x=>exact h|sl r p=>refine⟨h.1,fun A c=>?_⟩;obtain⟨R,B,z,y⟩:=T.ro r (C r (by simp[At.ids,zbo])) A c;rw[z];exact y p v (h.2 R B)|lp l I=>refine⟨h.1,fun g d=>?_⟩;obtain⟨⟨G,m⟩,q⟩:=T.lo l (C l (by simp[At.ids,zbo,zbq])) g d;rw[q];exact h.2 G m|ep r p i I=>refine⟨h.1,fun A c=>?_⟩;obtain⟨R,B,z,y⟩:=T.ro r (C r (by simp[At.ids,zbo])) A c;obtain⟨b,o,len,F,O,d,j,s⟩:=h.2 R B;exact⟨b,o,len,F,O,by rw[z];exact y p _ d,by rw[z];exact j,s⟩|fn f K=>obtain⟨P,d,j,s⟩:=h;refine⟨P,d,j,fun k l u H M=>⟨(s k l u H M).1,fun g D=>?_⟩⟩;obtain⟨⟨G,m⟩,q⟩:=T.lo l (C l (by simp only[At.ids,zbo,zbq,jU];exact qI H)) g D;rw[q];exact(s k l u H M).2 G m|kp r J t=>refine⟨h.1,fun A c=>?_⟩;obtain⟨R,B,z,y⟩:=T.ro r (C r (by simp[At.ids,zbo])) A c;have e:E1.ρ r=E.ρ r:=(by have:=y [] (E.ρ r) rfl;simpa [zZ] using this);obtain⟨d,j,s⟩:=h.2 R B;refine⟨z.trans d,e.trans j,fun p u L N=>?_⟩;rw[T.κ]at L;have:=y p u (by rw[d,j];exact s p u L N);rwa [e,d,j] at this
theorem VT.tr (T:Trans st E w st1 E1 w1 U){x:TV}{v:Value}(d:∀a∈zS x,∀n∈a.ids,U n)(h:VT w st E x v):VT w1 st1 E1 x v:=by rcases x with a|l;{exact VA.tr T (d a (by simp[zS])) h};{obtain⟨i,f,g,c⟩:=h;exact⟨i,f,g,fun j a u b e=>⟨(c j a u b e).1,VA.tr T (d a (by simp only[zS];exact qI b)) (c j a u b e).2⟩⟩}
theorem VM.tr (T:Trans st E w st1 E1 w1 U){m:MV}{v:Value}(i:∀n∈m.ids,U n)(h:VM w st E m v):VM w1 st1 E1 m v:=by have b:∀a∈zbA m,∀n∈a.ids,U n:=fun a c n k=>i n (by simp only[MV.ids,qN];exact⟨a,c,k⟩);cases m with|und=>exact h|v x=>exact VT.tr T b h|tup l=>obtain⟨q,e,f,g⟩:=h;refine⟨q,e,f,fun j x u d p=>VT.tr T (fun a c=>b a ?_) (g j x u d p)⟩;simp only[zbA,qN];exact⟨x,qI d,c⟩
end
structure Mem (w0:World) (S0:zX) (st:St) (E:Env) (w:World):Prop where
 os:w.os=w0.os
 tape:w.tape=w0.tape
 output:w.output=w0.output
 size:w0.heap.size<=w.heap.size
 keep:∀b,b<w0.heap.size->¬ S0 b->w.heap[b]?=w0.heap[b]?
 rep:∀r R,st.root r=some R->Rep R.own w (E.ρ r) (.s R.t R.l) (E.φ r)
 rlt:∀r R,st.root r=some R->∀x,E.φ r x->x<w.heap.size
 mine:∀r R,st.root r=some R->R.own=true->R.ep=none/\∀x,E.φ r x->S0 x\/w0.heap.size<=x
 frz:¬ S0 w0.heap.size->∀r R,st.root r=some R->R.own=false->R.ep=none->R.t.flat=false->∀x,E.φ r x->S0 x\/w0.heap.size<=x
 apart:∀r R r' R',st.root r=some R->R.own=true->st.root r'=some R'->R'.ep=none->r≠r'->∀x,E.φ r x->¬ E.φ r' x
 loc:∀l cs,zl st.lo l=some cs->(S0 (E.β l)\/w0.heap.size<=E.β l)/\∃vals e,w.heap[E.β l]?=some (.cells vals e (0,0))/\vals.size=cs.length/\
  ∀(j:Nat) (c:At) (u:Value),cs[j]?=some c->vals[j]?=some u->u.oneCell'=true/\VA w st E c u
 linj:∀l l' cs cs',zl st.lo l=some cs->zl st.lo l'=some cs'->E.β l=E.β l'->l=l'
 lro:∀l cs r R,zl st.lo l=some cs->st.root r=some R->¬ E.φ r (E.β l)
 epo:∀r R e,zl st.ro r=some R->R.ep=some e->e<=st.ep
 κ:E.κ=w0
structure Ids (st:St) (U:Nat->Prop):Prop where
 ro:∀n R,zl st.ro n=some R->U n
 lo:∀n cs,zl st.lo n=some cs->U n/\∀a∈cs,∀m∈a.ids,U m
 tm:∀m∈st.tm,∀n∈m.ids,U n
 stk:∀f∈st.stk,∀m∈f,∀n∈m.ids,U n
def Slots (w:World)(st:St)(E:Env)(tm:List MV)(a:Array Value):Prop :=
 a.size=tm.length/\∀(i:Nat) (m:MV) (v:Value),tm[i]?=some m->a[i]?=some v->VM w st E m v
def Stack (w:World)(st:St)(E:Env):List (List MV)->List (Array Value)->Prop
 |[],[]=>True
 |f::r,a::s=>Slots w st E f a/\Stack w st E r s
 |_,_=>False
structure Sim (w0:World) (S0:zX) (U:Nat->Prop) (st:St) (E:Env) (ts:Array Value) (sv:List (Array Value)) (w:World):Prop where
 mem:Mem w0 S0 st E w
 ids:Ids st U
 tm:Slots w st E st.tm ts
 stk:Stack w st E st.stk sv
theorem Slots.tr {st st1:St}{E E1:Env}{w w1:World}{U:Nat->Prop}(T:Trans st E w st1 E1 w1 U){tm:List MV}{b:Array Value}(c:∀m∈tm,∀n∈m.ids,U n)(h:Slots w st E tm b):Slots w1 st1 E1 tm b :=
 ⟨h.1,fun i m v a d=>VM.tr T (c m (qI a)) (h.2 i m v a d)⟩
theorem Stack.tr {st st1:St}{E E1:Env}{w w1:World}{U:Nat->Prop}(T:Trans st E w st1 E1 w1 U):∀{l:List (List MV)} {s:List (Array Value)},(∀f∈l,∀m∈f,∀n∈m.ids,U n)->Stack w st E l s->Stack w1 st1 E1 l s
 |[],[],_,_=>trivial
 |f::r,c::s,a,h=>⟨Slots.tr T (a f (by simp)) h.1,Stack.tr T (fun f b=>a f (by simp[b])) h.2⟩
 |[],_::_,_,h=>h.elim
 |_::_,[],_,h=>h.elim
theorem zbO {c:Type}(l m:List (Nat×c))(n:Nat):zl (l++m) n=match zl l n with
 |some x=>some x
 |none=>zl m n:=by
 induction l with
 |nil=>rfl
 |cons a l b=>obtain⟨k,v⟩:=a;simp only[kG,zl];split;{rfl};{exact b}
theorem zmN {c:Type}{l:List (Nat×c)}{n:Nat}{x:c}(h:zl l n=some x):(n,x)∈l:=by induction l with|nil=>cases h|cons a l d=>obtain⟨k,v⟩:=a;simp only[zl]at h;split at h;{rename_i b;simp only[qK]at b;subst b;cases h;exact jA};{exact qX _ (d h)}
theorem Sim.next {w0:World}{S0:zX}{U U1:Nat->Prop}{st st1:St}{E E1:Env}{Q:Array Value}{sv:List (Array Value)}{w w1:World}(h:Sim w0 S0 U st E Q sv w)(p:Mem w0 S0 st1 E1 w1)(T:Trans st E w st1 E1 w1 U)(t:st1.tm=st.tm)(z:st1.stk=st.stk)(J:∀n,U n->U1 n)(M:∀n R,zl st1.ro n=some R->U1 n)(L:∀n cs,zl st1.lo n=some cs->U1 n/\∀a∈cs,∀m∈a.ids,U1 m){dst:Option Tmp}{mv:MV}{v:Value}(X:VM w1 st1 E1 mv v)(N:∀n∈mv.ids,U1 n) :
 Sim w0 S0 U1 (st1.put dst mv) E1 (({tmps:=Q,defers:=[]}:Act).put dst v).tmps sv w1:=by
 have b:(st1.put dst mv).ro=st1.ro/\(st1.put dst mv).lo=st1.lo/\(st1.put dst mv).stk=st1.stk/\(st1.put dst mv).ep=st1.ep:=by cases dst<;>exact⟨rfl,rfl,rfl,rfl⟩
 have g:∀r,(st1.put dst mv).root r=st1.root r:=fun r=>by simp only[St.root,b.1,b.2.2.2]
 have D:Trans st1 E1 w1 (st1.put dst mv) E1 w1 (fun _=>True):=
  ⟨fun r _ V q=>⟨V,by rw[<- g];exact q,rfl,fun _ _ h=>h⟩,fun l _ H q=>⟨⟨H,by rw[<- b.2.1];exact q⟩,rfl⟩,rfl⟩
 refine⟨?_,?_,?_,?_⟩
 .exact ⟨p.os,p.tape,p.output,p.size,p.keep,fun r R A=>p.rep r R (by rw[<- g];exact A),fun r R A=>p.rlt r R (by rw[<- g];exact A),
   fun r R A=>p.mine r R (by rw[<- g];exact A),fun Y r R A=>p.frz Y r R (by rw[<- g];exact A),fun r R r' S q y I=>p.apart r R r' S (by rw[<- g];exact q) y (by rw[<- g];exact I),
   fun l cs W=>by obtain⟨q,C,e,y,I,O⟩:=p.loc l cs (by rw[<- b.2.1];exact W);exact⟨q,C,e,y,I,fun j c u P x=>⟨(O j c u P x).1,VA.tr D (fun _ _=>trivial) (O j c u P x).2⟩⟩,
   fun l Z cs G q y=>p.linj l Z cs G (by rw[<- b.2.1];exact q) (by rw[<- b.2.1];exact y),
   fun l cs r R q y=>p.lro l cs r R (by rw[<- b.2.1];exact q) (by rw[<- g];exact y),
   fun r R e q y=>by rw[b.2.2.2];exact p.epo r R e (by rw[<- b.1];exact q) y,p.κ⟩
 .refine⟨fun n R s=>M n R (by rw[<- b.1];exact s),fun n cs s=>L n cs (by rw[<- b.2.1];exact s),?_,?_⟩
  .intro m k n s;cases dst with
   |none=>exact J n (h.ids.tm m (by simpa [St.put,t] using k) n s)
   |some d=>simp only[St.put]at k;rcases qW k with k|k;{exact J n (h.ids.tm m (by rw[<- t];exact k) n s)};{subst k;exact N n s}
  .intro f F m k n s;rw[b.2.2.1,z]at F;exact J n (h.ids.stk f F m k n s)
 .have hs:=Slots.tr T (fun m k n s=>h.ids.tm m k n s) h.tm;have B:=Slots.tr D (fun _ _ _ _=>trivial) hs;cases dst with
  |none=>simpa [St.put,Act.put,t] using B
  |some d=>refine⟨by simp[St.put,Act.put,t,hs.1],fun i m u k x=>?_⟩;simp only[St.put,t]at k;simp only[Act.put]at x;rw[q9]at k;rw[k7]at x;split at k;{rename_i K;subst K;rw[if_pos rfl]at x;split at k;{cases k;split at x;{cases x;exact VM.tr D (fun _ _=>trivial) X};{cases x}};{cases k}};{rename_i K;rw[if_neg K]at x;exact B.2 i m u k x}
 .rw [b.2.2.1,z];exact Stack.tr D (fun _ _ _ _ _ _=>trivial) (Stack.tr T (fun f F m k n s=>h.ids.stk f F m k n s) h.stk)
section
variable {w0 w w1:World} {S0:zX} {st:St} {E E1:Env} {U:Nat->Prop}
structure IdsM (st:St) (U:Nat->Prop):Prop where
 ro:∀n R,zl st.ro n=some R->U n
 lo:∀n cs,zl st.lo n=some cs->U n/\∀a∈cs,∀m∈a.ids,U m
theorem Ids.mem (h:Ids st U):IdsM st U:=⟨h.ro,h.lo⟩
theorem zbw {r:Nat}{R:Root}(h:st.root r=some R):zl st.ro r=some R/\(R.ep=none\/R.ep=some st.ep):=by unfold St.root at h;split at h;{rename_i Q a;split at h;{rename_i d;cases h;exact⟨a,.inl d⟩};{rename_i e c;split at h;{rename_i b;simp only[qK]at b;subst b;cases h;exact⟨a,.inr c⟩};{cases h}}};{cases h}
theorem zgN {r:Nat}{R:Root}(h:zl st.ro r=some R)(a:R.ep=none\/R.ep=some st.ep):st.root r=some R:=by unfold St.root;rw[h];simp only;rcases a with a|a;{rw [a]};{rw [a];simp}
theorem Mem.addRootsO (h:Mem w0 S0 st E w)(I:IdsM st U){dro:List (Nat×Root)}(Y:w1.os=w.os)(Z:w1.tape=w.tape)(M:w1.output=w.output)(N:w.heap.size<=w1.heap.size)(m:∀x,x<w.heap.size->w1.heap[x]?=w.heap[x]?)(g:∀r R,zl dro r=some R->¬ U r/\R.ep=none/\Rep R.own w1 (E1.ρ r) (.s R.t R.l) (E1.φ r)/\∀x,E1.φ r x->w.heap.size<=x/\x<w1.heap.size)(X:∀r R z B,zl dro r=some R->R.own=true->zl dro z=some B->r≠z->∀x,E1.φ r x->¬ E1.φ z x)(a:∀n,U n->E1.ρ n=E.ρ n/\E1.φ n=E.φ n/\E1.β n=E.β n)(O:E1.κ=E.κ:=by rfl) :
 Mem w0 S0 {st with ro:=dro++st.ro} E1 w1/\Trans st E w {st with ro:=dro++st.ro} E1 w1 U:=by
 have d:∀r R,({st with ro:=dro++st.ro}:St).root r=some R->zl dro r=some R\/(st.root r=some R/\U r):=by intro r R f;obtain⟨A,G⟩:=zbw f;simp only[zbO]at A;split at A;{rename_i Q T;cases A;exact .inl T};{exact .inr ⟨zgN A G,I.ro r R A⟩}
 have J:∀r R,st.root r=some R->∀x,E.φ r x->w1.heap[x]?=w.heap[x]?:=fun r R f x k=>m x (h.rlt r R f x k);have hT:Trans st E w {st with ro:=dro++st.ro} E1 w1 U:=by refine⟨fun r i H V=>?_,fun l i P A=>⟨⟨P,A⟩,(a l i).2.2⟩,O⟩;rcases d r H V with v|⟨f,_⟩;{exact absurd i (g r H v).1};{refine⟨H,f,rfl,fun p u hp=>?_⟩;rw[(a r i).1,zda p (h.rep r H f) (J r H f)];exact hp}
 refine⟨⟨Y.trans h.os,Z.trans h.tape,M.trans h.output,qU h.size N,fun b hb hS=>(m b (jK hb h.size)).trans (h.keep b hb hS),?_,?_,?_,?_,?_,?_,?_,?_,?_,O.trans h.κ⟩,hT⟩
 .intro r R f;rcases d r R f with v|⟨f,i⟩
  .obtain⟨_,_,hrep,_⟩:=g r R v;exact hrep
  .rw [(a r i).1,(a r i).2.1];exact(h.rep r R f).frame (J r R f)
 .intro r R f x k;rcases d r R f with v|⟨f,i⟩
  .exact((g r R v).2.2.2 x k).2
  .rw [(a r i).2.1]at k;exact jK (h.rlt r R f x k) N
 .intro r R f ho;rcases d r R f with v|⟨f,i⟩
  .obtain⟨_,he,_,k⟩:=g r R v;exact⟨he,fun x q=>.inr (qU h.size (k x q).1)⟩
  .rw [(a r i).2.1];exact h.mine r R f ho
 .intro hz r R f ho he hf;rcases d r R f with v|⟨f,i⟩
  .obtain⟨_,_,_,k⟩:=g r R v;exact fun x q=>.inr (qU h.size (k x q).1)
  .rw [(a r i).2.1];exact h.frz hz r R f ho he hf
 .intro r R z B f ho y he hne x k;rcases d r R f with v|⟨f,i⟩
  .rcases d z B y with F|⟨y,D⟩
   .exact X r R z B v ho F hne x k
   .rw [(a z D).2.1];intro q;have:=h.rlt z B y x q;have:=((g r R v).2.2.2 x k).1;omega
  .rw [(a r i).2.1]at k;rcases d z B y with F|⟨y,D⟩
   .intro q;have:=h.rlt r R f x k;have:=((g z B F).2.2.2 x q).1;omega
   .rw [(a z D).2.1];exact h.apart r R z B f ho y he hne x k
 .intro l cs hl;obtain⟨i,K⟩:=I.lo l cs hl;obtain⟨A,C,e,G,h3,S⟩:=h.loc l cs hl;rw[(a l i).2.2];have L:E.β l<w.heap.size:=(qQ.1 G).1;exact⟨A,C,e,(m _ L).trans G,h3,fun j c u W hu=>⟨(S j c u W hu).1,VA.tr hT (fun n hn=>K c (qI W) n hn) (S j c u W hu).2⟩⟩
 .intro l l' cs cs' hl hl' he;rw[(a l (I.lo l cs hl).1).2.2,(a l' (I.lo l' cs' hl').1).2.2]at he;exact h.linj l l' cs cs' hl hl' he
 .intro l cs r R hl f;have a0:=(a l (I.lo l cs hl).1).2.2;rw[a0];obtain⟨A,C,e,G,h3,S⟩:=h.loc l cs hl;have L:E.β l<w.heap.size:=(qQ.1 G).1;rcases d r R f with v|⟨f,i⟩
  .intro k;have:=((g r R v).2.2.2 _ k).1;omega
  .rw [(a r i).2.1];exact h.lro l cs r R hl f
 .intro r R e f he;simp only[zbO]at f;split at f
  .rename_i T;cases f;rw[(g r R T).2.1]at he;cases he
  .exact h.epo r R e f he
theorem Mem.addRoots (h:Mem w0 S0 st E w)(z:IdsM st U){dro:List (Nat×Root)}(k:w1.os=w.os)(p:w1.tape=w.tape)(d:w1.output=w.output)(m:w.heap.size<=w1.heap.size)(a:∀x,x<w.heap.size->w1.heap[x]?=w.heap[x]?)(b:∀r R,zl dro r=some R->¬ U r/\R.own=true/\R.ep=none/\Rep true w1 (E1.ρ r) (.s R.t R.l) (E1.φ r)/\∀x,E1.φ r x->w.heap.size<=x/\x<w1.heap.size)(j:∀r R e f,zl dro r=some R->zl dro e=some f->r≠e->∀x,E1.φ r x->¬ E1.φ e x)(c:∀n,U n->E1.ρ n=E.ρ n/\E1.φ n=E.φ n/\E1.β n=E.β n)(q:E1.κ=E.κ:=by rfl) :
 Mem w0 S0 {st with ro:=dro++st.ro} E1 w1/\Trans st E w {st with ro:=dro++st.ro} E1 w1 U :=
 h.addRootsO z k p d m a (fun r R A=>by
  obtain⟨g,i,u,v,y⟩:=b r R A;exact⟨g,u,by rw[i];exact v,y⟩) (fun r R e f g _ i=>j r R e f g i) c q
theorem Mem.addLoc (h:Mem w0 S0 st E w)(V:IdsM st U){id:Nat}(N:¬ U id){f:Array Value}{e:TypeId}{cs:List At}(P:f.size=cs.length)(G:∀(j:Nat) (c:At) (u:Value),cs[j]?=some c->f[j]?=some u->u.oneCell'=true/\VA w st E c u)(M:∀a∈cs,∀m∈a.ids,U m) :
 Mem w0 S0 {st with lo:=(id,cs)::st.lo} {E with β:=fun n=>if n=id then w.heap.size else E.β n} (w.alloc (.cells f e (0,0)))/\
  Trans st E w {st with lo:=(id,cs)::st.lo} {E with β:=fun n=>if n=id then w.heap.size else E.β n} (w.alloc (.cells f e (0,0))) U:=by
 have k:∀x,x<w.heap.size->(w.alloc (.cells f e (0,0))).heap[x]?=w.heap[x]?:=fun x B=>heap_alloc_old w _ x B;have H:∀r R,st.root r=some R->∀x,E.φ r x->(w.alloc (.cells f e (0,0))).heap[x]?=w.heap[x]?:=fun r R v x B=>k x (h.rlt r R v x B);have s:∀l d,zl ((id,cs)::st.lo) l=some d->(l=id/\d=cs)\/(l≠id/\zl st.lo l=some d):=by intro l d i;simp only[zl]at i;split at i;{rename_i q;simp only[qK]at q;cases i;exact .inl ⟨q.symm,rfl⟩};{rename_i q;simp only[qK]at q;exact .inr ⟨fun h=>q h.symm,i⟩}
 have L:Trans st E w {st with lo:=(id,cs)::st.lo} {E with β:=fun n=>if n=id then w.heap.size else E.β n} (w.alloc (.cells f e (0,0))) U:=by refine⟨fun r S D F=>⟨D,F,rfl,fun p u X=>?_⟩,fun l S d K=>?_,rfl⟩;{have v:st.root r=some D:=F;show zZ (w.alloc (.cells f e (0,0))) D.t (E.ρ r) p=some u;rw[zda p (h.rep r D v) (H r D v)];exact X};{have g:l≠id:=fun q=>N (q ▸ S);rcases s l d K with⟨q,_⟩|⟨_,C⟩;{exact absurd q g};{exact⟨⟨d,C⟩,by simp[g]⟩}}
 refine⟨⟨h.os,h.tape,h.output,by simp;have:=h.size;omega,fun b T W=>(k b (jK T h.size)).trans (h.keep b T W),fun r R v=>(h.rep r R v).frame (H r R v),
  fun r R v x B=>by simp;exact Nat.lt_succ_of_lt (h.rlt r R v x B),h.mine,h.frz,h.apart,?_,?_,?_,h.epo,h.κ⟩,L⟩
 .intro l d i;rcases s l d i with⟨rfl,rfl⟩|⟨g,i⟩
  .refine⟨.inr (by simp;exact h.size),f,e,by simp only[if_true];exact heap_alloc_new w _,P,fun j c u A J=>⟨(G j c u A J).1,VA.tr L (fun n O=>M c (qI A) n O) (G j c u A J).2⟩⟩
  .obtain⟨K,y,Q,C,h3,h4⟩:=h.loc l d i;have z:E.β l<w.heap.size:=(qQ.1 C).1;simp only[g,if_false];exact⟨K,y,Q,(k _ z).trans C,h3,fun j c u A J=>⟨(h4 j c u A J).1,VA.tr L (fun n O=>(V.lo l d i).2 c (qI A) n O) (h4 j c u A J).2⟩⟩
 .intro l l' d cs2 i hl' q;have z:∀l cs,zl st.lo l=some cs->E.β l<w.heap.size:=fun l cs i=>by obtain⟨_,y,Q,C,_⟩:=h.loc l cs i;exact(qQ.1 C).1
  rcases s l d i with⟨rfl,rfl⟩|⟨g,I⟩
  .rcases s l' cs2 hl' with⟨rfl,rfl⟩|⟨hne',hl2'⟩
   .rfl
   .simp only [if_true,hne',if_false]at q;have:=z l' cs2 hl2';omega
  .rcases s l' cs2 hl' with⟨rfl,rfl⟩|⟨hne',hl2'⟩
   .simp only [if_true,g,if_false]at q;have:=z l d I;omega
   .simp only [g,hne',if_false]at q;exact h.linj l l' d cs2 I hl2' q
 .intro l d r R i v;rcases s l d i with⟨rfl,rfl⟩|⟨g,i⟩
  .simp only [if_true];intro B;have:=h.rlt r R v _ B;omega
  .simp only [g,if_false];exact h.lro l d r R i v
theorem Mem.stLoc (h:Mem w0 S0 st E w)(X:IdsM st U){l:Nat}{cs cs':List At}(y:zl st.lo l=some cs){vals':Array Value}{e':TypeId}(Q:w1.os=w.os)(S:w1.tape=w.tape)(G:w1.output=w.output)(H:w1.heap.size=w.heap.size)(i:∀x,x≠E.β l->w1.heap[x]?=w.heap[x]?)(F:w1.heap[E.β l]?=some (.cells vals' e' (0,0)))(I:vals'.size=cs'.length)(B:∀(j:Nat) (c:At) (u:Value),cs'[j]?=some c->vals'[j]?=some u->u.oneCell'=true/\VA w st E c u)(O:∀a∈cs',∀m∈a.ids,U m) :
 Mem w0 S0 {st with lo:=(l,cs')::st.lo} E w1/\Trans st E w {st with lo:=(l,cs')::st.lo} E w1 U:=by
 have C:∀r R,st.root r=some R->∀x,E.φ r x->w1.heap[x]?=w.heap[x]?:=fun r R s x T=>i x (fun g=>h.lro l cs r R y s (g ▸ T));have q:∀k d,zl ((l,cs')::st.lo) k=some d->(k=l/\d=cs')\/(k≠l/\zl st.lo k=some d):=by intro k d f;simp only[zl]at f;split at f;{rename_i g;simp only[qK]at g;cases f;exact .inl ⟨g.symm,rfl⟩};{rename_i g;simp only[qK]at g;exact .inr ⟨fun h=>g h.symm,f⟩}
 have N:Trans st E w {st with lo:=(l,cs')::st.lo} E w1 U:=by refine⟨fun r Y K A=>⟨K,A,rfl,fun p u hp=>?_⟩,fun k Y d L=>?_,rfl⟩;{have s:st.root r=some K:=A;rw[zda p (h.rep r K s) (C r K s)];exact hp};{rcases q k d L with⟨rfl,_⟩|⟨_,M⟩;{exact⟨⟨cs,y⟩,rfl⟩};{exact⟨⟨d,M⟩,rfl⟩}}
 obtain⟨t,W,e,a0,a1,a2⟩:=h.loc l cs y;refine⟨⟨Q.trans h.os,S.trans h.tape,G.trans h.output,by rw[H];exact h.size,fun b Z V=>?_,fun r R s=>(h.rep r R s).frame (C r R s),
  fun r R s x T=>by rw[H];exact h.rlt r R s x T,h.mine,h.frz,h.apart,?_,?_,?_,h.epo,h.κ⟩,N⟩
 .refine(i b (fun g=>?_)).trans (h.keep b Z V);subst g;rcases t with t|t
  .exact V t
  .omega
 .intro k d f;rcases q k d f with⟨rfl,rfl⟩|⟨z,f⟩
  .exact⟨t,vals',e',F,I,fun j c u v J=>⟨(B j c u v J).1,VA.tr N (fun n P=>O c (qI v) n P) (B j c u v J).2⟩⟩
  .obtain⟨L,vals2,e2,M,h3,h4⟩:=h.loc k d f;refine⟨L,vals2,e2,(i _ (fun g=>z (h.linj k l d cs f y g))).trans M,h3,fun j c u v J=>⟨(h4 j c u v J).1,VA.tr N (fun n P=>(X.lo k d f).2 c (qI v) n P) (h4 j c u v J).2⟩⟩
 .intro k k' d cs2 f hk' g;rcases q k d f with⟨rfl,rfl⟩|⟨z,D⟩
  .rcases q k' cs2 hk' with⟨rfl,rfl⟩|⟨hne',hk2'⟩
   .rfl
   .exact h.linj k k' cs cs2 y hk2' g
  .rcases q k' cs2 hk' with⟨rfl,rfl⟩|⟨hne',hk2'⟩
   .exact h.linj k k' d cs D y g
   .exact h.linj k k' d cs2 D hk2' g
 .intro k d r R f s;rcases q k d f with⟨rfl,rfl⟩|⟨z,f⟩
  .exact h.lro k cs r R y s
  .exact h.lro k d r R f s
theorem Mem.mut (h:Mem w0 S0 st E w)(hI:IdsM st U){r:Nat}{R:Root}(z:st.root r=some R)(M:R.own=true){m:List R.t.den}(Y:w1.os=w.os)(Z:w1.tape=w.tape)(G:w1.output=w.output)(I:w1.heap.size=w.heap.size)(i:∀x,¬ E.φ r x->w1.heap[x]?=w.heap[x]?)(H:Rep true w1 (E.ρ r) (.s R.t m) (E.φ r))(F:∀p u,zZ w R.t (E.ρ r) p=some u->zZ w1 R.t (E.ρ r) p=some u) :
 Mem w0 S0 {st with ro:=(r,{R with l:=m})::st.ro,ep:=st.ep+1} E w1/\Trans st E w {st with ro:=(r,{R with l:=m})::st.ro,ep:=st.ep+1} E w1 U:=by
 obtain⟨C,D⟩:=h.mine r R z M;have d:∀q Q,({st with ro:=(r,{R with l:=m})::st.ro,ep:=st.ep+1}:St).root q=some Q->
  (q=r/\Q={R with l:=m})\/(q≠r/\st.root q=some Q/\Q.ep=none):=by
  intro q Q a;obtain⟨k,v⟩:=zbw a;simp only[zl]at k;split at k
  .rename_i he;simp only[qK]at he;cases k;exact .inl ⟨he.symm,rfl⟩
  .rename_i he;simp only[qK]at he;refine .inr ⟨fun h=>he h.symm,?_⟩;rcases v with v|v
   .exact⟨zgN k (.inl v),v⟩
   .have:=h.epo q Q _ k v;simp only at this;omega
 have y:∀q Q,q≠r->st.root q=some Q->Q.ep=none->∀x,E.φ q x->w1.heap[x]?=w.heap[x]? :=
  fun q Q f a V x A=>i x (fun a0=>h.apart r R q Q z M a V (fun e=>f e.symm) x a0 A)
 have hT:Trans st E w {st with ro:=(r,{R with l:=m})::st.ro,ep:=st.ep+1} E w1 U:=by refine⟨fun q hU Q V=>?_,fun l hU N k=>⟨⟨N,k⟩,rfl⟩,rfl⟩;rcases d q Q V with⟨rfl,rfl⟩|⟨f,a,g⟩;{exact⟨R,z,rfl,F⟩};{refine⟨Q,a,rfl,fun p u hp=>?_⟩;rw[zda p (h.rep q Q a) (y q Q f a g)];exact hp}
 refine⟨⟨Y.trans h.os,Z.trans h.tape,G.trans h.output,by rw[I];exact h.size,?_,?_,?_,?_,?_,?_,?_,h.linj,?_,?_,h.κ⟩,hT⟩
 .intro b hb hS;refine(i b (fun A=>?_)).trans (h.keep b hb hS);rcases D b A with k|k
  .exact hS k
  .omega
 .intro q Q a;rcases d q Q a with⟨rfl,rfl⟩|⟨f,a,g⟩
  .simp only [M];exact H
  .exact(h.rep q Q a).frame (y q Q f a g)
 .intro q Q a x A;rw[I];rcases d q Q a with⟨rfl,rfl⟩|⟨f,a,g⟩
  .exact h.rlt q R z x A
  .exact h.rlt q Q a x A
 .intro q Q a hoq;rcases d q Q a with⟨rfl,rfl⟩|⟨f,a,g⟩
  .exact⟨C,D⟩
  .exact h.mine q Q a hoq
 .intro hz q Q a hoq he hf;rcases d q Q a with⟨rfl,rfl⟩|⟨f,a,g⟩
  .exact D
  .exact h.frz hz q Q a hoq he hf
 .intro q Q q' Q' a hoq B he f x A;have k:∃K,st.root q=some K/\K.own=true:=by rcases d q Q a with⟨rfl,rfl⟩|⟨_,a,_⟩;{exact⟨R,z,M⟩};{exact⟨Q,a,hoq⟩}
  have v:∃L,st.root q'=some L/\L.ep=none:=by rcases d q' Q' B with⟨rfl,rfl⟩|⟨_,B,W⟩;{exact⟨R,z,C⟩};{exact⟨Q',B,W⟩}
  obtain⟨K,O,P⟩:=k;obtain⟨L,S,T⟩:=v;exact h.apart q K q' L O P S T f x A
 .intro l cs hl;obtain⟨k,J,e,v,h3,h4⟩:=h.loc l cs hl;exact⟨k,J,e,(i _ (h.lro l cs r R hl z)).trans v,h3,fun j c u X hu=>⟨(h4 j c u X hu).1,VA.tr hT (fun n hn=>(hI.lo l cs hl).2 c (qI X) n hn) (h4 j c u X hu).2⟩⟩
 .intro l cs q Q hl a;rcases d q Q a with⟨rfl,rfl⟩|⟨f,a,g⟩
  .exact h.lro l cs q R hl z
  .exact h.lro l cs q Q hl a
 .intro q Q e a he;simp only[zl]at a;split at a
  .cases a;simp only[C]at he;cases he
  .exact uW (h.epo q Q e a he)
theorem zlg {st:St}:∀(ks:List Nat) (q:Nat) (Q:Root),zl (moved st ks) q=some Q->q∈ks/\∃R,zl st.ro q=some R/\Q={R with own:=false,ep:=some (st.ep+1)}:=by intro ks;induction ks with|nil=>intro q Q h;cases h|cons k ks d=>intro q Q h;simp only[moved]at h;split at h;{rename_i R e;simp only[zl]at h;split at h;{rename_i c;simp only[qK]at c;subst c;cases h;exact⟨by simp,R,e,rfl⟩};{obtain⟨a,b⟩:=d q Q h;exact⟨by simp[a],b⟩}};{obtain⟨a,b⟩:=d q Q h;exact⟨by simp[a],b⟩}
theorem zMB {st:St}:∀(ks:List Nat) (q:Nat),zl (moved st ks) q=none->q∈ks->zl st.ro q=none:=by
 intro ks
 induction ks with
 |nil=>intro q _ h;cases h
 |cons k ks e=>intro q h d;simp only[moved]at h;split at h;{rename_i R b;simp only[zl]at h;split at h;{cases h};{rename_i c;simp only[qK]at c;rcases qG.1 d with a|a;{exact absurd a.symm c};{exact e q h a}}};{rename_i b;rcases qG.1 d with a|a;{subst a;exact b};{exact e q h a}}
theorem Mem.merge (h:Mem w0 S0 st E w)(hI:IdsM st U){id:Nat}(X:¬ U id){ks:List Nat}{t:Ty}{m:List t.den}{v:Value}{φn:zX}(G:∀k∈ks,∃R,st.root k=some R/\R.own=true)(a4:w1.os=w.os)(a5:w1.tape=w.tape)(Z:w1.output=w.output)(N:w.heap.size<=w1.heap.size)(F:∀x,x<w.heap.size->(∀k∈ks,¬ E.φ k x)->w1.heap[x]?=w.heap[x]?)(M:∀x,φn x->(∃k∈ks,E.φ k x)\/(w.heap.size<=x/\x<w1.heap.size))(a0:Rep true w1 v (.s t m) φn)(P:∀k∈ks,∀R,st.root k=some R->Rep false w1 (E.ρ k) (.s R.t R.l) (E.φ k)/\∀p u,zZ w R.t (E.ρ k) p=some u->zZ w1 R.t (E.ρ k) p=some u) :
 Mem w0 S0 {st with ro:=(id,zcP t m)::moved st ks++st.ro,ep:=st.ep+1} {E with ρ:=fun n=>if n=id then v else E.ρ n,φ:=fun n=>if n=id then φn else E.φ n} w1/\
  Trans st E w {st with ro:=(id,zcP t m)::moved st ks++st.ro,ep:=st.ep+1} {E with ρ:=fun n=>if n=id then v else E.ρ n,φ:=fun n=>if n=id then φn else E.φ n} w1 U:=by
 have f:∀q Q,({st with ro:=(id,zcP t m)::moved st ks++st.ro,ep:=st.ep+1}:St).root q=some Q->
  (q=id/\Q=zcP t m)\/(q≠id/\q∈ks/\∃R,st.root q=some R/\R.own=true/\Q={R with own:=false,ep:=some (st.ep+1)})\/(q≠id/\q∉ks/\st.root q=some Q/\Q.ep=none):=by
  intro q Q z;obtain⟨B,K⟩:=zbw z;simp only[kG,zl]at B;split at B
  .rename_i he;simp only[qK]at he;cases B;exact .inl ⟨he.symm,rfl⟩
  .rename_i he;simp only[qK]at he;have a:q≠id:=fun h=>he h.symm;rw[zbO]at B;split at B
   .rename_i Q' hQ';cases B;obtain⟨hm,R,y,rfl⟩:=zlg ks q _ hQ';obtain⟨R2,V,W⟩:=G q hm;have:=(zbw V).1;rw[y] at this;cases this;exact .inr (.inl ⟨a,hm,R,V,W,rfl⟩)
   .rename_i hnone;have r:q∉ks:=fun hm=>by have:=zMB ks q hnone hm;rw[this]at B;cases B
    refine .inr (.inr ⟨a,r,?_⟩);rcases K with K|K
    .exact⟨zgN B (.inl K),K⟩
    .have:=h.epo q Q _ B K;simp only at this;omega
 have S:∀q Q,q∉ks->st.root q=some Q->Q.ep=none->∀x,E.φ q x->w1.heap[x]?=w.heap[x]?:=by intro q Q r z hQ x d;refine F x (h.rlt q Q z x d) (fun k i a6=>?_);obtain⟨R,y,D⟩:=G k i;exact h.apart k R q Q y D z hQ (fun e=>r (e ▸ i)) x a6 d
 have a7:∀q R,st.root q=some R->q≠id:=fun q R z e=>X (e ▸ hI.ro q R (zbw z).1);have hT:Trans st E w {st with ro:=(id,zcP t m)::moved st ks++st.ro,ep:=st.ep+1} {E with ρ:=fun n=>if n=id then v else E.ρ n,φ:=fun n=>if n=id then φn else E.φ n} w1 U:=by refine⟨fun q hU Q hQ=>?_,fun l hU a1 B=>⟨⟨a1,B⟩,rfl⟩,rfl⟩;rcases f q Q hQ with⟨rfl,rfl⟩|⟨a,i,R,y,_,rfl⟩|⟨a,r,g,A⟩;{exact absurd hU X};{exact⟨R,y,rfl,by simp only[a,if_false];exact(P q i R y).2⟩};{refine⟨Q,g,rfl,fun p u hp=>?_⟩;simp only[a,if_false];rw[zda p (h.rep q Q g) (S q Q r g A)];exact hp}
 have H:∀k∈ks,∀x,E.φ k x->(S0 x\/w0.heap.size<=x)/\x<w.heap.size:=by intro k i x d;obtain⟨R,y,D⟩:=G k i;exact⟨(h.mine k R y D).2 x d,h.rlt k R y x d⟩
 refine⟨⟨a4.trans h.os,a5.trans h.tape,Z.trans h.output,qU h.size N,?_,?_,?_,?_,?_,?_,?_,h.linj,?_,?_,h.κ⟩,hT⟩
 .intro b hb hS;refine(F b (jK hb h.size) (fun k i d=>?_)).trans (h.keep b hb hS);rcases (H k i b d).1 with B|B
  .exact hS B
  .omega
 .intro q Q z;rcases f q Q z with⟨rfl,rfl⟩|⟨a,i,R,y,_,rfl⟩|⟨a,r,g,A⟩
  .simp only [zcP,if_true];exact a0
  .simp only [a,if_false];exact(P q i R y).1
  .simp only [a,if_false];exact(h.rep q Q g).frame (S q Q r g A)
 .intro q Q z x d;rcases f q Q z with⟨rfl,rfl⟩|⟨a,i,R,y,_,rfl⟩|⟨a,r,g,A⟩
  .simp only [if_true]at d;rcases M x d with⟨k,i,d⟩|d
   .exact jK (H k i x d).2 N
   .exact d.2
  .simp only [a,if_false]at d;exact jK (h.rlt q R y x d) N
  .simp only [a,if_false]at d;exact jK (h.rlt q Q g x d) N
 .intro q Q z hoq;rcases f q Q z with⟨rfl,rfl⟩|⟨a,i,R,y,_,rfl⟩|⟨a,r,g,A⟩
  .refine⟨rfl,fun x d=>?_⟩;simp only[if_true]at d;rcases M x d with⟨k,i,d⟩|d
   .exact(H k i x d).1
   .exact .inr (qU h.size d.1)
  .cases hoq
  .simp only [a,if_false];exact h.mine q Q g hoq
 .intro hz q Q z hoq he hf;rcases f q Q z with⟨rfl,rfl⟩|⟨a,i,R,y,_,rfl⟩|⟨a,r,g,A⟩
  .cases hoq
  .cases he
  .simp only [a,if_false];exact h.frz hz q Q g hoq he hf
 .intro q Q q' Q' z hoq hq' he hnn x d;rcases f q Q z with⟨rfl,rfl⟩|⟨a,i,R,y,_,rfl⟩|⟨a,r,g,A⟩
  .rcases f q' Q' hq' with⟨rfl,rfl⟩|⟨C,a3,R',a2,_,rfl⟩|⟨C,O,I,L⟩
   .exact absurd rfl hnn
   .cases he
   .simp only [if_true]at d;simp only[C,if_false];rcases M x d with⟨k,i,d⟩|d
    .obtain⟨R,y,D⟩:=G k i;exact h.apart k R q' Q' y D I L (fun e=>O (e ▸ i)) x d
    .intro J;have:=h.rlt q' Q' I x J;omega
  .cases hoq
  .simp only [a,if_false]at d;rcases f q' Q' hq' with⟨rfl,rfl⟩|⟨C,a3,R',a2,_,rfl⟩|⟨C,O,I,L⟩
   .simp only [if_true];intro J;rcases M x J with⟨k,i,J⟩|J
    .obtain⟨R,y,D⟩:=G k i;exact h.apart k R q Q y D g A (fun e=>r (e ▸ i)) x J d
    .have:=h.rlt q Q g x d;omega
   .cases he
   .simp only [C,if_false];exact h.apart q Q q' Q' g hoq I L hnn x d
 .intro l cs hl;obtain⟨B,T,e,K,h3,h4⟩:=h.loc l cs hl;have Y:E.β l<w.heap.size:=(qQ.1 K).1;refine⟨B,T,e,(F _ Y (fun k i d=>?_)).trans K,h3,fun j c u hc hu=>⟨(h4 j c u hc hu).1,VA.tr hT (fun n hn=>(hI.lo l cs hl).2 c (qI hc) n hn) (h4 j c u hc hu).2⟩⟩;obtain⟨R,y,_⟩:=G k i;exact h.lro l cs k R hl y d
 .intro l cs q Q hl z;obtain⟨B,T,e,K,h3,h4⟩:=h.loc l cs hl;have Y:E.β l<w.heap.size:=(qQ.1 K).1;rcases f q Q z with⟨rfl,rfl⟩|⟨a,i,R,y,_,rfl⟩|⟨a,r,g,A⟩
  .simp only [if_true];intro d;rcases M _ d with⟨k,i,d⟩|d
   .obtain⟨R,y,_⟩:=G k i;exact h.lro l cs k R hl y d
   .omega
  .simp only [a,if_false];exact h.lro l cs q R hl y
  .simp only [a,if_false];exact h.lro l cs q Q hl g
 .intro q Q e z he;simp only[kG,zl]at z;split at z
  .cases z;cases he
  .rw [zbO]at z;split at z
   .rename_i Q' hQ';cases z;obtain⟨_,R,_,rfl⟩:=zlg ks q _ hQ';simp only[qC]at he;subst he;exact qZ _
   .exact uW (h.epo q Q e z he)
theorem Mem.view (h:Mem w0 S0 st E w)(M:IdsM st U){id:Nat}(F:¬ U id){r:Nat}{R:Root}(k:st.root r=some R){t:Ty}{m:List t.den}{v:Value}(z:Rep false w v (.s t m) (E.φ r))(G:t.flat=false->R.t.flat=false) :
 Mem w0 S0 {st with ro:=(id,zeN st R t m)::st.ro} {E with ρ:=fun n=>if n=id then v else E.ρ n,φ:=fun n=>if n=id then E.φ r else E.φ n} w/\
  Trans st E w {st with ro:=(id,zeN st R t m)::st.ro} {E with ρ:=fun n=>if n=id then v else E.ρ n,φ:=fun n=>if n=id then E.φ r else E.φ n} w U:=by
 have a:∀q Q,({st with ro:=(id,zeN st R t m)::st.ro}:St).root q=some Q->(q=id/\Q=zeN st R t m)\/(q≠id/\st.root q=some Q):=by intro q Q g;obtain⟨i,C⟩:=zbw g;simp only[zl]at i;split at i;{rename_i f;simp only[qK]at f;cases i;exact .inl ⟨f.symm,rfl⟩};{rename_i f;simp only[qK]at f;exact .inr ⟨fun h=>f h.symm,zgN i C⟩}
 have P:=(zbw k).2;have I:Trans st E w {st with ro:=(id,zeN st R t m)::st.ro} {E with ρ:=fun n=>if n=id then v else E.ρ n,φ:=fun n=>if n=id then E.φ r else E.φ n} w U:=by refine⟨fun q J Q N=>?_,fun l J B i=>⟨⟨B,i⟩,rfl⟩,rfl⟩;rcases a q Q N with⟨rfl,rfl⟩|⟨d,g⟩;{exact absurd J F};{exact⟨Q,g,rfl,by simp only[d,if_false];exact fun _ _ h=>h⟩}
 refine⟨⟨h.os,h.tape,h.output,h.size,h.keep,?_,?_,?_,?_,?_,?_,h.linj,?_,?_,h.κ⟩,I⟩
 .intro q Q g;rcases a q Q g with⟨rfl,rfl⟩|⟨d,b⟩
  .simp only [zeN,if_true];exact z
  .simp only [d,if_false];exact h.rep q Q b
 .intro q Q g x hx;rcases a q Q g with⟨rfl,rfl⟩|⟨d,b⟩
  .simp only [if_true]at hx;exact h.rlt r R k x hx
  .simp only [d,if_false]at hx;exact h.rlt q Q b x hx
 .intro q Q g hoq;rcases a q Q g with⟨rfl,rfl⟩|⟨d,b⟩
  .cases hoq
  .simp only [d,if_false];exact h.mine q Q b hoq
 .intro hz q Q g hoq f hf;rcases a q Q g with⟨rfl,rfl⟩|⟨d,b⟩
  .simp only [zeN]at f;split at f
   .cases f
   .rename_i hown;simp only[if_true];exact h.frz hz r R k (by simpa using hown) f (G hf)
  .simp only [d,if_false];exact h.frz hz q Q b hoq f hf
 .intro q Q q' Q' g hoq hq' f hnn x hx;rcases a q Q g with⟨rfl,rfl⟩|⟨d,b⟩
  .cases hoq
  .simp only [d,if_false]at hx;rcases a q' Q' hq' with⟨rfl,rfl⟩|⟨p,y⟩
   .simp only [if_true];simp only[zeN]at f;split at f
    .cases f
    .rename_i hown;refine h.apart q Q r R b hoq k f (fun e=>?_) x hx;subst e;rw[k]at b;cases b;exact hown hoq
   .simp only [p,if_false];exact h.apart q Q q' Q' b hoq y f hnn x hx
 .intro l cs hl;obtain⟨i,A,e,C,L,H⟩:=h.loc l cs hl;exact⟨i,A,e,C,L,fun j c u D K=>⟨(H j c u D K).1,VA.tr I (fun n O=>(M.lo l cs hl).2 c (qI D) n O) (H j c u D K).2⟩⟩
 .intro l cs q Q hl g;rcases a q Q g with⟨rfl,rfl⟩|⟨d,b⟩
  .simp only [if_true];exact h.lro l cs r R hl k
  .simp only [d,if_false];exact h.lro l cs q Q hl b
 .intro q Q e g f;simp only[zl]at g;split at g
  .cases g;simp only[zeN]at f;split at f
   .cases f;exact qZ _
   .exact h.epo r R e (zbw k).1 f
  .exact h.epo q Q e g f
end
def zeroV:CTy->Value
 |.i k=>.int k 0
 |.b=>.bool false
 |.s _=>.slice none 0 0
def zUZ:TypeDesc->Bool
 |.struct _ | .array _ _=>true
 |_=>false
structure TypeOk (P:Program) (T:TypeId) (agg:Bool) (tys:List CTy):Prop where
 und:∃d,P.underlying T=some d/\zUZ d=agg/\(∀k,tys=[.i k]->agg=false->d = .int k)/\(tys=[.b]->agg=false->d = .bool)
 info:∃i z,P.info? T=some i/\i.size=tys.length/\i.zero=some z/\z.cells.toList=tys.map zeroV
 one:agg=false->tys.length=1
structure ElemOk (P:Program) (T e:TypeId) (t:Ty):Prop where
 und:P.underlying T=some (.slice e)
 info:∃i z,P.info? e=some i/\i.size=t.width/\i.zero=some z/\z.cells.toList=t.shape.map zeroV/\i.bytes<=1024
structure FieldOk (P:Program) (T:TypeId) (f off n:Nat):Prop where
 ok:∃(fs:Array Field) (x:Field) (i:TypeInfo),P.underlying T=some (.struct fs)/\fs[f]?=some x/\x.offset=off/\P.info? x.type=some i/\i.size=n/\n≠0
def VS:At->Value->Prop
 |.i k n,v=>v = .int k n
 |.b x,v=>v = .bool x
 |_,_=>True
def VSs (l:List At)(xs:Array Value):Prop:=xs.size=l.length/\∀(j:Nat) (a:At) (u:Value),l[j]?=some a->xs[j]?=some u->VS a u
structure CfgOk (C:Cfg):Prop where
 cty:∀T agg tys,C.cty T=some (agg,tys)->TypeOk C.P T agg tys
 sty:∀T t,C.sty T=some t->∃e,ElemOk C.P T e t
 fof:∀T f off n,C.fof T f=some (off,n)->FieldOk C.P T f off n
 str:∀T tys,C.cty T=some (true,tys)->∃(fs:Array Field) (places:List (Nat×Nat)),C.P.underlying T=some (.struct fs)/\fs.toList.mapM (fun f=>(C.P.info? f.type).map fun i=>(f.offset,i.size))=some places/\
  ∀f off n,C.fof T f=some (off,n)->places[f]?=some (off,n)
 eqt:∀T tys,C.eqt T=true->C.cty T=some (true,tys)->∀(l m:List At) (e:Bool) (xs ys:Array Value) (w:World) (x y:Operand) (op:BinOp),
  zco znI l=some tys->zco znI m=some tys->zvi l m=some e->VSs l xs->VSs m ys->
  (eqGuard op T x y (.agg xs) (.agg ys)).run C.P w = .ok () w/\(Op.equal T (.agg xs) (.agg ys)).run C.P w = .ok e w
section
variable {P:Program} {w:World}
theorem zv1 {T:TypeId}{a:Bool}{tys:List CTy}(h:TypeOk P T a tys):(isAgg T).run P w = .ok a w:=by obtain⟨d,c,b,_,_⟩:=h.und;subst b;unfold isAgg;rw[Sem.run_bind,run_underlying c w];cases d<;>simp [zUZ]
theorem zAw {T:TypeId}{a:Bool}{tys:List CTy}(h:TypeOk P T a tys):(sizeOf T).run P w = .ok tys.length w:=by obtain⟨i,z,b,c,_⟩:=h.info;simp[sizeOf,typeInfo,b,c]
theorem z6T {T:TypeId}{a:Bool}{tys:List CTy}(h:TypeOk P T a tys):∃z,(zeroValue T).run P w = .ok z w/\z.cells.toList=tys.map zeroV:=by obtain⟨i,z,c,e,d,b⟩:=h.info;exact⟨z,by simp[zeroValue,typeInfo,c,d],b⟩
end
section
variable {C:Cfg} {w0 w:World} {S0:zX} {U:Nat->Prop} {st:St} {E:Env} {ts:Array Value} {sv:List (Array Value)}
def Mine (id:Nat)(n:Nat):Prop:=id<=n/\n<id+32
def Goes (C:Cfg)(w0:World)(S0:zX)(U:Nat->Prop)(st:St)(ts:Array Value)(sv:List (Array Value))(w:World)(o:Oper)(id:Nat)(a:St->St):Prop :=
 ∀(next:Act->World->Prop) (Q:Exit->Act->World->Prop),
  (∀c v b,Sim w0 S0 (fun n=>U n\/Mine id n) (a st) c (({tmps:=ts,defers:=[]}:Act).put o.dst v).tmps sv b->next (({tmps:=ts,defers:=[]}:Act).put o.dst v) b)->
  o.wp C.P {tmps:=ts,defers:=[]} w next Q
theorem zLj {o:Oper}{id:Nat}{f:St->St}{v:Value}{w':World}{E':Env}(b:(execOp ({tmps:=ts,defers:=[]}:Act).eval o).run C.P w = .ok (.value v) w')(h:Sim w0 S0 (fun n=>U n\/Mine id n) (f st) E' (({tmps:=ts,defers:=[]}:Act).put o.dst v).tmps sv w'):Goes C w0 S0 U st ts sv w o id f:=by intro next Q a;unfold Oper.wp;rw[b,Oper.upon_value];exact a E' v w' h
theorem zvv {o:Oper}{id:Nat}{f:St->St}{w':World}{E':Env}(b:(execOp ({tmps:=ts,defers:=[]}:Act).eval o).run C.P w = .ok .skip w')(h:Sim w0 S0 (fun n=>U n\/Mine id n) (f st) E' (({tmps:=ts,defers:=[]}:Act).put o.dst undef).tmps sv w'):Goes C w0 S0 U st ts sv w o id f:=by intro next Q a;unfold Oper.wp;rw[b,Oper.upon_skip];exact a E' undef w' h
theorem Sim.trans_self:Trans st E w st E w U:=⟨fun _ _ R h=>⟨R,h,rfl,fun _ _ h=>h⟩,fun _ _ a h=>⟨⟨a,h⟩,rfl⟩,rfl⟩
theorem zc0 (b:Sim w0 S0 U st E ts sv w){o:Oper}{id:Nat}{mv:MV}{v:Value}(i:(execOp ({tmps:=ts,defers:=[]}:Act).eval o).run C.P w = .ok (.value v) w)(j:VM w st E mv v)(e:∀n∈mv.ids,U n):Goes C w0 S0 U st ts sv w o id (fun st=>st.apply o.dst {v:=mv}):=by refine zLj i (E':=E) ?_;exact Sim.next b (st1:=st) b.mem Sim.trans_self rfl rfl (fun n h=>.inl h) (fun n R h=>.inl (b.ids.ro n R h)) (fun n c h=>⟨.inl (b.ids.lo n c h).1,fun a d m f=>.inl ((b.ids.lo n c h).2 a d m f)⟩) j (fun n g=>.inl (e n g))
def zsR (C:Cfg)(U:Nat->Prop)(st:St)(E:Env)(ts:Array Value)(w:World)(o:Oper)(d:Dl):Prop :=
 ∃v,(execOp ({tmps:=ts,defers:=[]}:Act).eval o).run C.P w = .ok (.value v) w/\VM w st E d.v v/\(∀n∈d.v.ids,U n)/\d.lo=[]/\d.ro=[]/\d.bump=false
theorem zqH {o:Oper}{mv:MV}{c:Bool}{v:Value}(b:(execOp ({tmps:=ts,defers:=[]}:Act).eval o).run C.P w = .ok (.value v) w)(d:VM w st E mv v)(a:∀n∈mv.ids,U n):zsR C U st E ts w o {c,v:=mv} :=
 ⟨v,b,d,a,rfl,rfl,rfl⟩
theorem zsR.goes {o:Oper}{d:Dl}(h:zsR C U st E ts w o d)(f:Sim w0 S0 U st E ts sv w){id:Nat}:Goes C w0 S0 U st ts sv w o id (fun st=>st.apply o.dst d):=by obtain⟨v,i,j,g,a,b,c⟩:=h;have e:(fun st:St=>st.apply o.dst d)=fun st=>st.apply o.dst {v:=d.v}:=(by funext st;simp only[St.apply,a,b,c]);rw[e];exact zc0 f i j g
theorem zT7 {v:Value}{a:At}(h:zK5 v=some a):VA w st E a v/\a.ids=[]:=by cases v<;>simp [zK5]at h<;>subst h<;>exact⟨rfl,rfl⟩
theorem zb0 (c:Sim w0 S0 U st E ts sv w){x:Operand}{mv:MV}(h:st.opnd x=some mv) :
 VM w st E mv (({tmps:=ts,defers:=[]}:Act).eval x)/\∀n∈mv.ids,U n:=by
 cases x with
 |tmp t=>have e:st.tm[t]?=some mv:=(by simp only[St.opnd]at h;split at h;{cases h};{exact h});have d:t<st.tm.length:=(qA.1 e).1;have i:ts[t]?=some (({tmps:=ts,defers:=[]}:Act).eval (.tmp t)):=(by have:t<ts.size:=(by rw[c.tm.1];exact d);simp[Act.eval,Array.getD,this]);exact⟨c.tm.2 t mv _ e i,fun n b=>c.ids.tm mv (qI e) n b⟩
 |const v=>simp only[St.opnd]at h;split at h;{rename_i a p;cases h;obtain⟨j,m⟩:=zT7 (w:=w) (st:=st) (E:=E) p;refine⟨j,fun n b=>?_⟩;simp[MV.ids,zbA,zS,m]at b};{cases h}
 |global g=>simp[St.opnd]at h
 |func f=>simp only[St.opnd,qC]at h;subst h;refine⟨⟨#[],rfl,rfl,fun k l u q=>by simp at q⟩,fun n b=>?_⟩;simp[MV.ids,zbA,zS,At.ids,zbo,zbq]at b
theorem zNP {x:Operand}{a:At}(h:st.at x=some a):st.opnd x=some (.v (.at a)):=by unfold St.at at h;split at h;{rename_i b c;cases h;exact c};{cases h}
theorem zbG (d:Sim w0 S0 U st E ts sv w){x:Operand}{a:At}(h:st.at x=some a) :
 VA w st E a (({tmps:=ts,defers:=[]}:Act).eval x)/\∀n∈a.ids,U n:=by
 obtain⟨b,c⟩:=zb0 d (zNP h);exact⟨b,fun n e=>c n (by simpa [MV.ids,zbA,zS] using e)⟩
theorem zdm {a:At}:(MV.v (.at a)).ids=a.ids:=by simp[MV.ids,zbA,zS]
theorem z4k (d:Sim w0 S0 U st E ts sv w){o:Oper}{x:Operand}{mv:MV}(a:o.op = .move x\/o.op = .assign x)(h:st.opnd x=some mv) :
 zsR C U st E ts w o {v:=mv}:=by
 obtain⟨b,c⟩:=zb0 d h;refine zqH ?_ b c;rcases a with a|a<;>simp [execOp,a]
theorem z4D (a:Sim w0 S0 U st E ts sv w){o:Oper}{id:Nat}{x:Operand}{mv:MV}(b:o.op = .move x\/o.op = .assign x)(h:st.opnd x=some mv) :
 Goes C w0 S0 U st ts sv w o id (fun st=>st.apply o.dst {v:=mv}):=(z4k a b h).goes a
theorem zbbX (e:Sim w0 S0 U st E ts sv w){o:Oper}{id:Nat}{c a b:Operand}{d:Dl}(l:o.op = .pick c a b)(h:delta C st o id=some d):Goes C w0 S0 U st ts sv w o id (fun st=>st.apply o.dst d):=by simp only[delta,l]at h;split at h;{rename_i n x y j k q;cases h;have f:=(zbG e j).1;have i:=(zb0 e k).1;have p:=(zb0 e q).1;refine zc0 e (v:=.bool (cond n x y)) ?_ rfl (by simp[MV.ids,zbA,zS,At.ids,zbo,zbq]);simp only[VA]at f;simp only[VM,VT,VA]at i p;cases n<;>simp [execOp,l,f,i,p,asBool]};{rename_i v j k m;cases h;have f:=(zbG e j).1;obtain⟨i,g⟩:=zb0 e k;refine zc0 e ?_ i g;simp only[VA]at f;simp[execOp,l,f,asBool]};{rename_i v j k m;cases h;have f:=(zbG e j).1;obtain⟨i,g⟩:=zb0 e k;refine zc0 e ?_ i g;simp only[VA]at f;simp[execOp,l,f,asBool]};{cases h}
theorem zMM (k:Sim w0 S0 U st E ts sv w){o:Oper}{id:Nat}{x:Operand}{d:Dl}(g:o.op = .nilCheck x)(h:delta C st o id=some d):zsR C U st E ts w o d:=by simp only[delta,g]at h;split at h;{rename_i l j c;cases h;obtain⟨b,e⟩:=zbG k c;obtain⟨a,f⟩:=b.1;refine zqH ?_ b (by rw[zdm];exact e);simp[execOp,g,f]};{rename_i r p i j c;cases h;obtain⟨b,e⟩:=zbG k c;obtain⟨a,f⟩:=b.1;refine zqH ?_ b (by rw[zdm];exact e);simp[execOp,g,f]};{cases h}
theorem z1V (a:Sim w0 S0 U st E ts sv w){o:Oper}{id:Nat}{x:Operand}{d:Dl}(b:o.op = .nilCheck x)(h:delta C st o id=some d):Goes C w0 S0 U st ts sv w o id (fun st=>st.apply o.dst d):=(zMM (id:=id) a b h).goes a
theorem z4w {b:BinOp}{k:IntKind}{x y:Int}{c:Bool}{a:At}(f:zZx b=false)(h:z00 b k x y=some (c,a))(e:c=true)(T:TypeId)(p q:Operand) :
 ∃v,((do eqGuard b T p q (.int k x) (.int k y);binOp b T (.int k x) (.int k y)):Sem Value).run C.P w = .ok v w/\VA w st E a v/\a.ids=[]:=by
 have hg:(eqGuard b T p q (.int k x) (.int k y)).run C.P w = .ok () w:=by unfold eqGuard;split<;>rfl
 cases b<;>simp only [z00,qC,jT,reduceCtorEq]at h<;>(obtain⟨d,rfl⟩:=h) <;>
  refine⟨_,?_,rfl,rfl⟩<;>rw [Sem.run_bind,hg]<;>simp only [Result.andThen_ok,binOp,ne_eq,not_true_eq_false,if_false,Op.intArith,Op.intBits,Op.intCmp,Sem.run_pure,zM,wsub,zng,wand,wor,z7w,zNK,ieq,ine,ilt,ile,igt,ige]
 case quo=>
  subst e;have:y≠0:=by simpa [ine] using d
  simp[Op.intDiv,this,zXv]
 case rem=>
  subst e;have:y≠0:=by simpa [ine] using d
  simp[Op.intDiv,this,zqi]
theorem zXN {a:BinOp}{T:TypeId}{p q:Operand}{k k':IntKind}{x y:Int}:(eqGuard a T p q (.int k x) (.int k' y)).run C.P w = .ok () w:=by unfold eqGuard;split<;>rfl
theorem zUy {a:BinOp}{T:TypeId}{p q:Operand}{x y:Bool}:(eqGuard a T p q (.bool x) (.bool y)).run C.P w = .ok () w:=by unfold eqGuard;split<;>rfl
theorem zYv {b:BinOp}{k k':IntKind}{x y:Int}{c:Bool}{a:At}(h:shiftOp b k x y=some (c,a))(e:c=true)(T:TypeId)(p q:Operand) :
 ∃v,((do eqGuard b T p q (.int k x) (.int k' y);binOp b T (.int k x) (.int k' y)):Sem Value).run C.P w = .ok v w/\VA w st E a v/\a.ids=[]:=by
 cases b<;>simp only [shiftOp,qC,jT,reduceCtorEq]at h<;>(obtain⟨d,rfl⟩:=h) <;>
  refine⟨_,?_,rfl,rfl⟩<;>rw [Sem.run_bind,zXN]<;>subst e<;>simp only [ile,q0]at d <;>
  simp[binOp,Op.shift,show ¬ y<0 by omega,zpj,zE5]
theorem zZi {c:BinOp}{e:Bool}{d:Dl}(h:zDp c e=some d){x y:Value}{T:TypeId}(a:(Op.equal T x y).run C.P w = .ok e w)(f:binOp .eql T x y=(do pure (.bool (<- Op.equal T x y))))(g:binOp .neq T x y=(do pure (.bool (!(<- Op.equal T x y))))) :
 ∃e',d = .at (.b e')/\(binOp c T x y).run C.P w = .ok (.bool e') w:=by
 unfold zDp at h;split at h
 .cases h;refine⟨_,rfl,?_⟩;rw[f,Sem.run_bind,a];rfl
 .cases h;refine⟨_,rfl,?_⟩;rw[g,Sem.run_bind,a];rfl
 .cases h
theorem zbaU (S:CfgOk C)(g:Sim w0 S0 U st E ts sv w){o:Oper}{id:Nat}{n:BinOp}{T Z:TypeId}{x y:Operand}{d:Dl}(W:o.op = .binOp n T x y Z)(h:delta C st o id=some d)(V:d.c=true):Goes C w0 S0 U st ts sv w o id (fun st=>st.apply o.dst d):=by
 have i:∀{v:Value},((do eqGuard n T x y (({tmps:=ts,defers:=[]}:Act).eval x) (({tmps:=ts,defers:=[]}:Act).eval y);binOp n T (({tmps:=ts,defers:=[]}:Act).eval x) (({tmps:=ts,defers:=[]}:Act).eval y)):Sem Value).run C.P w = .ok v w->
  (execOp ({tmps:=ts,defers:=[]}:Act).eval o).run C.P w = .ok (.value v) w:=by
  intro v s;simp only[execOp,W];rw[Sem.run_bind,s];rfl
 simp only[delta,W]at h;split at h;{rename_i k a k' b B D;have z:=(zb0 g B).1;have A:=(zb0 g D).1;simp only[VM,VT,VA]at z A;split at h;{rename_i X;split at h;{rename_i c r q;cases h;obtain⟨v,s,t,K⟩:=zYv (C:=C) (w:=w) (st:=st) (E:=E) (k':=k') q V T x y;rw[<- z,<- A]at s;exact zc0 g (i s) t (by rw[zdm,K];simp)};{cases h}};{rename_i X;split at h;{rename_i hk;subst hk;split at h;{rename_i c r q;cases h;obtain⟨v,s,t,K⟩:=z4w (C:=C) (w:=w) (st:=st) (E:=E) (by simpa using X) q V T x y;rw[<- z,<- A]at s;exact zc0 g (i s) t (by rw[zdm,K];simp)};{cases h}};{cases h}}}
 .rename_i a b B D;have z:=(zb0 g B).1;have A:=(zb0 g D).1;simp only[VM,VT,VA]at z A;split at h
  .rename_i hT;obtain⟨dd,hd,_,_,hb⟩:=(S.cty T _ _ hT).und;have J:=hb rfl rfl;subst J;have p:(Op.equal T (.bool a) (.bool b)).run C.P w = .ok (a==b) w:=run_equalIn_bool' w 9999 T a b hd;obtain⟨e,rfl,q⟩:=zZi (C:=C) (w:=w) h (x:=.bool a) (y:=.bool b) p (by rfl) (by rfl)
   have f:((do eqGuard n T x y (.bool a) (.bool b);binOp n T (.bool a) (.bool b)):Sem Value).run C.P w = .ok (.bool e) w:=by
    rw[Sem.run_bind,zUy];exact q
   rw[<- z,<- A]at f;exact zc0 g (i f) rfl (by rw[zdm];simp[At.ids,zbo,zbq])
  {cases h}
 .rename_i l m B D;split at h
  .rename_i tys e hT he;split at h
   .rename_i hh;obtain⟨⟨G,M,L,N⟩,_⟩:=zb0 g B;obtain⟨⟨H,Q,O,R⟩,_⟩:=zb0 g D;have Y:∀{a:At} {u:Value},VA w st E a u->VS a u:=(by intro a u F;cases a<;>first|exact F|trivial);obtain⟨hg,p⟩:=S.eqt T tys hh.1 hT l m e G H w x y n hh.2.1 hh.2.2 he ⟨L,fun j a u I F=>Y (N j a u I F).2⟩ ⟨O,fun j a u I F=>Y (R j a u I F).2⟩;obtain⟨e',rfl,q⟩:=zZi (C:=C) (w:=w) h (x:=.agg G) (y:=.agg H) p (by rfl) (by rfl)
    have f:((do eqGuard n T x y (.agg G) (.agg H);binOp n T (.agg G) (.agg H)):Sem Value).run C.P w = .ok (.bool e') w:=by
     rw[Sem.run_bind,hg];exact q
    rw[<- M,<- Q]at f;exact zc0 g (i f) rfl (by rw[zdm];simp[At.ids,zbo,zbq])
   {cases h}
  {cases h}
 {cases h}
theorem zbbY (c:Sim w0 S0 U st E ts sv w){o:Oper}{id:Nat}{g:UnOp}{T:TypeId}{x:Operand}{d:Dl}(f:o.op = .unOp g T x)(h:delta C st o id=some d):Goes C w0 S0 U st ts sv w o id (fun st=>st.apply o.dst d):=by simp only[delta,f]at h;split at h;{rename_i a e;cases h;have b:=(zbG c e).1;simp only[VA]at b;exact zc0 c (v:=.bool (!a)) (by simp[execOp,f,b,Op.unary]) rfl (by rw[zdm];simp[At.ids,zbo,zbq])};{rename_i k n e;cases h;have b:=(zbG c e).1;simp only[VA]at b;exact zc0 c (v:=.int k (wsub k 0 n)) (by simp[execOp,f,b,Op.unary,Op.intArith,wsub]) rfl (by rw[zdm];simp[At.ids,zbo,zbq])};{cases h}
theorem z4x (e:CfgOk C)(f:Sim w0 S0 U st E ts sv w){o:Oper}{id:Nat}{a dst:TypeId}{x:Operand}{d:Dl}(g:o.op = .convert a dst x)(h:delta C st o id=some d):Goes C w0 S0 U st ts sv w o id (fun st=>st.apply o.dst d):=by simp only[delta,g]at h;split at h;{rename_i y k t n j l m;cases h;have i:=(zbG f m).1;simp only[VA]at i;obtain⟨r,p,_,q,_⟩:=(e.cty dst _ _ l).und;have c:=q k rfl rfl;subst c;obtain⟨s,b,_⟩:=(e.cty a y.1 y.2 j).und;exact zc0 f (v:=.int k (wcv k n)) (by simp[execOp,g,i,convert,run_underlying b,run_underlying p,Conv.intToInt,wcv]) rfl (by rw[zdm];simp[At.ids,zbo,zbq])};{cases h}
theorem z4y (k:Sim w0 S0 U st E ts sv w){o:Oper}{id:Nat}{x:Operand}{j:Nat}{d:Dl}(m:o.op = .extract x j)(h:delta C st o id=some d):Goes C w0 S0 U st ts sv w o id (fun st=>st.apply o.dst d):=by simp only[delta,m]at h;split at h;{rename_i l p;split at h;{rename_i y g;cases h;obtain⟨⟨i,f,e,s⟩,r⟩:=zb0 k p;have b:j<i.size:=(by rw[e];exact(qA.1 g).1);refine zc0 k (v:=i[j]) ?_ (s j y i[j] g (by simp[b])) (fun n c=>r n ?_);{simp [execOp,m,f,Instr.extract,b]};{simp only [MV.ids,zbA,qN]at c ⊢;obtain⟨a,q,c⟩:=c;exact⟨a,⟨y,qI g,q⟩,c⟩}};{cases h}};{cases h}
theorem zl8 {j k:Type}{f:j->Option k}:∀{l:List j} {c:List k},zco f l=some c->l.length=c.length/\∀(i:Nat) (a:j) (b:k),l[i]?=some a->c[i]?=some b->f a=some b:=by
 intro l
 induction l with
 |nil=>intro c h;cases h;exact⟨rfl,fun i a b h=>by simp at h⟩
 |cons a l r=>intro c h;simp only[zco]at h;split at h;{rename_i b q;split at h;{rename_i m d;cases h;obtain⟨n,p⟩:=r d;refine⟨by simp[n],fun i x y e g=>?_⟩;cases i with|zero=>simp at e g;subst e g;exact q|succ i=>exact p i x y (by simpa using e) (by simpa using g)};{cases h}};{cases h}
theorem z1U (i:Sim w0 S0 U st E ts sv w){o:Oper}{id:Nat}{f:FuncId}{first a:Array Operand}{d:Dl}(t:o.op = .makeFunc (.func f) first a)(h:delta C st o id=some d):Goes C w0 S0 U st ts sv w o id (fun st=>st.apply o.dst d):=by simp only[delta,t]at h;split at h;{rename_i A x y;cases h;obtain⟨s,z⟩:=zl8 y;have b:first = #[]:=(by simpa using x);have c:∀(k l:Nat) (u:Operand),a[k]?=some u->A[k]?=some l->st.at u=some (.lp l 0):=(by intro k l u e g;have:=z k u l (by simpa using e) g;split at this;{rename_i B j;cases this;exact j};{cases this});refine zc0 i (v:=.func (.func f) #[] (a.map ({tmps:=ts,defers:=[]}:Act).eval)) ?_ ⟨_,rfl,by simp[<- s],?_⟩ ?_;{simp [execOp,t,Instr.makeFunc,b]};{intro k l u g e;simp only[vD]at e;cases r:a[k]? with|none=>rw[r]at e;cases e|some q=>rw[r]at e;cases e;exact(zbG i (c k l q r g)).1};{intro n p;rw[zdm]at p;simp only[At.ids,zbo,zbq,jU]at p;obtain⟨k,g⟩:=qT.1 p;have m:k<a.size:=(by have:=(qA.1 g).1;rw[<- s] at this;simpa using this);exact(zbG i (c k n a[k] (by simp[m]) g)).2 n (by simp[At.ids,zbo,zbq])}};{cases h}
theorem zbaW (I:CfgOk C)(s:Sim w0 S0 U st E ts sv w){o:Oper}{id:Nat}{T:TypeId}{x:Operand}{f:Nat}{d:Dl}(z:o.op = .field T x f)(h:delta C st o id=some d):Goes C w0 S0 U st ts sv w o id (fun st=>st.apply o.dst d):=by simp only[delta,z]at h;split at h;{rename_i G m;split at h;{rename_i c t;split at h;{rename_i r q l J H;split at h;{rename_i K;have g:=I.cty c.type r q J;obtain⟨⟨B,p,A,F⟩,D⟩:=zb0 s H;have e:G[f]?=some c:=t;split at h;{cases h;refine zc0 s (v:=.agg (B.extract c.offset (c.offset+q.length))) ?_ ⟨_,rfl,by simp;omega,fun j a u b k=>?_⟩ (fun n i=>D n ?_);{simp [execOp,z,p,Instr.field,run_underlying m,e,asAgg,part,zv1 g,zAw g]};{rw [jI,jQ]at b;split at b;{rename_i L;refine F (c.offset+j) a u b ?_;rw[Array.getElem?_extract]at k;split at k;{exact k};{cases k}};{cases b}};{simp only [MV.ids,zbA,zS,qN]at i ⊢;obtain⟨a,b,i⟩:=i;exact⟨a,kM (jV b),i⟩}};{split at h;{rename_i a b;cases h;have y:c.offset<B.size:=(by rw[A];exact(qA.1 b).1);have k:=jH y;refine zc0 s (v:=B[c.offset]) ?_ (F c.offset a _ b k).2 (fun n i=>D n ?_);{simp [execOp,z,p,Instr.field,run_underlying m,e,asAgg,part,zv1 g,k]};{rw [zdm]at i;simp only[MV.ids,zbA,zS,qN];exact⟨a,qI b,i⟩}};{cases h}}};{cases h}};{cases h}};{cases h}};{cases h}
theorem zHy (L:CfgOk C)(y:Sim w0 S0 U st E ts sv w){o:Oper}{id:Nat}{T:TypeId}{x:Operand}{f:Nat}{d:Dl}(z:o.op = .fieldAddr T x f)(h:delta C st o id=some d):zsR C U st E ts w o d:=by
 simp only[delta,z]at h;have q:∀{c n:Nat} {a:Addr},C.fof T f=some (c,n)->({tmps:=ts,defers:=[]}:Act).eval x = .pointer (some a)->
  (execOp ({tmps:=ts,defers:=[]}:Act).eval o).run C.P w = .ok (.value (.pointer (some (a.add c)))) w:=by
  intro c n a m N;obtain⟨V,W,i,g,j,H,I,J,K⟩:=(L.fof T f c n m).ok;simp[execOp,z,N,Instr.fieldAt,run_underlying g,j,Instr.sureAddr,fieldPlace,sizeOf,typeInfo,I,J,K,H]
 have e:∀(b a n:Nat),(⟨b,a,none⟩:Addr).add n=⟨b,a+n,none⟩:=(by intro b a n;unfold Addr.add;split<;>simp_all);split at h;{rename_i c n l O m g;cases h;obtain⟨⟨⟨a,k⟩,j⟩,v⟩:=zbG y g;refine zqH (q m k) ⟨⟨_,rfl⟩,fun A u=>?_⟩ (by rw[zdm];exact v);have:=j A u;rw[k] at this;simp only[Value.pointer.injEq,qC] at this;subst this;rw[e]};{rename_i c n r p i O m g;cases h;obtain⟨⟨⟨a,k⟩,j⟩,v⟩:=zbG y g;refine zqH (q m k) ⟨⟨_,rfl⟩,fun R M=>?_⟩ (by rw[zdm];exact v);obtain⟨b,Q,len,s,S,B,D,F,G,t⟩:=j R M;rw[k] at t;simp only[Value.pointer.injEq,qC] at t;subst t;exact⟨b,Q,len,s,S,B,D,F,G,by rw[e,uF]⟩};{cases h}
theorem zYw (b:CfgOk C)(a:Sim w0 S0 U st E ts sv w){o:Oper}{id:Nat}{T:TypeId}{x:Operand}{f:Nat}{d:Dl}(c:o.op = .fieldAddr T x f)(h:delta C st o id=some d):Goes C w0 S0 U st ts sv w o id (fun st=>st.apply o.dst d):=(zHy (id:=id) b a c h).goes a
theorem zbaX (e:Sim w0 S0 U st E ts sv w){o:Oper}{id:Nat}{T:TypeId}{s:ByteArray}{y:Operand}{d:Dl}(f:o.op = .index T (.const (.string s)) y)(h:delta C st o id=some d)(l:d.c=true):Goes C w0 S0 U st ts sv w o id (fun st=>st.apply o.dst d):=by simp only[delta,f]at h;split at h;{rename_i k n j i;cases h;have g:=(zbG e i).1;simp only[VA]at g;have a:0<=n/\n<(s.size:Int):=qE l;have b:n.toNat<s.size:=(by omega);have m:({tmps:=ts,defers:=[]}:Act).eval (.const (.string s)) = .string s:=rfl;have hg:s[n.toNat]?=some s[n.toNat]:=getElem?_pos s n.toNat b;refine zc0 e (v:=.int .u8 (s[n.toNat].toNat:Int)) ?_ ?_ (by rw[zdm];simp[At.ids,zbo,zbq]);{simp [execOp,f,m,g,Instr.index,run_underlying j,asIntOf,a.1,hg]};{show Value.int .u8 _=Value.int .u8 (byteAt s n);unfold byteAt;rw[hg]}};{cases h}
theorem zfo {r:Nat}{p:List (Int×Nat)}{a:CV}(h:st.node r p=some a):∃R,st.root r=some R/\zgm R.t R.l p=some a:=by unfold St.node at h;split at h;{rename_i R b;exact⟨R,b,h⟩};{cases h}
theorem zuZ (g:Sim w0 S0 U st E ts sv w){r:Nat}{p:List (Int×Nat)}{v:Value}{t:Ty}{l:List t.den}(i:VA w st E (.sl r p) v)(h:st.node r p=some (.s t l)) :
 ∃R S',st.root r=some R/\zxG R.t p=some t/\zZ w R.t (E.ρ r) p=some v/\Rep R.own w v (.s t l) S'/\∀x,S' x->E.φ r x:=by
 obtain⟨R,a,hg⟩:=zfo h;have c:=i.2 R a;obtain⟨k,j,S',b,d,e,f⟩:=Rep.at p (g.mem.rep r R a) c;rw[hg]at b;cases b;exact⟨R,S',a,d,c,e,f⟩
theorem zHz (N:CfgOk C)(m:Sim w0 S0 U st E ts sv w){o:Oper}{id:Nat}{T:TypeId}{x y:Operand}{d:Dl}(B:o.op = .indexAddr T x y)(h:delta C st o id=some d)(S:d.c=true):zsR C U st E ts w o d:=by simp only[delta,B]at h;split at h;{rename_i r p n L M;split at h;{rename_i t l Z;split at h;{rename_i Q;cases h;obtain⟨hx,q⟩:=zbG m L;have F:=(zbG m M).1;simp only[VA]at F;obtain⟨e,hE⟩:=N.sty T t Q;obtain⟨R,S',O,H,I,J,g4⟩:=zuZ m hx Z;have a:0<=n/\n<(l.length:Int):=qE S;obtain⟨i,z,Y,hs,_⟩:=hE.info;generalize hv:({tmps:=ts,defers:=[]}:Act).eval x=v at *;cases J with|nil=>simp at a;omega|void=>simp at a;omega|sl _ _ b f k G e' fz V K _ hb X A s a0 P D u a1 W=>have j:(⟨b,f,none⟩:Addr).add (n.toNat*t.width)=⟨b,f+n.toNat*t.width,none⟩:=(by unfold Addr.add;split<;>simp_all);refine zqH (v:=.pointer (some ⟨b,f+n.toNat*t.width,none⟩)) ?_ ⟨⟨_,rfl⟩,fun R' g=>?_⟩ ?_;{simp [execOp,B,hv,F,Instr.indexAt,run_underlying hE.und,asIntOf,a,sizeOf,typeInfo,Y,hs,j]};{rw [O]at g;cases g;exact⟨b,f,l.length,k,t,I,H,a.1,by omega,by simp⟩};{rw [zdm];simpa [At.ids,zbo,zbq] using q}};{cases h}};{cases h}};{cases h}
theorem zYx (b:CfgOk C)(a:Sim w0 S0 U st E ts sv w){o:Oper}{id:Nat}{T:TypeId}{x y:Operand}{d:Dl}(f:o.op = .indexAddr T x y)(h:delta C st o id=some d)(e:d.c=true):Goes C w0 S0 U st ts sv w o id (fun st=>st.apply o.dst d):=(zHz (id:=id) b a f h e).goes a
theorem zbcv (f:Sim w0 S0 U st E ts sv w){o:Oper}{id:Nat}{c:Call}{x:Operand}{T e:TypeId}{r:Nat}{p:List (Int×Nat)}{t:Ty}{l:List t.den}(y:o.op = .call c)(h:c.callee = .builtin .len)(g:c.args.toList=[x])(j:c.argTypes.toList=[T])(q:C.P.underlying T=some (.slice e))(n:st.at x=some (.sl r p))(u:st.node r p=some (.s t l)):Goes C w0 S0 U st ts sv w o id (fun st=>st.apply o.dst (.at (.i .i64 (ln l)))):=by obtain⟨A,B⟩:=zbG f n;obtain⟨R,D,I,F,G,m,H⟩:=zuZ f A u;obtain⟨⟨a,k,z,_⟩,_⟩:=m.len;have b:c.args = #[x]:=(by rw[<- g]);have d:c.argTypes = #[T]:=(by rw[<- j]);refine zc0 f (v:=goInt l.length) ?_ rfl (by rw[zdm];simp[At.ids,zbo,zbq]);simp[execOp,y,resolve,h,invoke,builtin,b,d,z,Builtin.len_,run_underlying q]
end
section
variable {C:Cfg} {w0 w:World} {S0:zX} {U:Nat->Prop} {st:St} {E:Env} {ts:Array Value} {sv:List (Array Value)}
theorem cells_one {v:Value}(h:v.oneCell'=true):v.cells = #[v]:=by cases v<;>simp_all [Value.cells,Value.oneCell']
theorem VA.one {a:At}{v:Value}(h:VA w st E a v)(g:a≠.bad):v.oneCell'=true:=by cases a with|bad=>exact absurd rfl g|i k n=>cases h;rfl|b x=>cases h;rfl|sl r p=>obtain⟨⟨a,len,c,rfl⟩,_⟩:=h;rfl|lp l d=>obtain⟨⟨a,rfl⟩,_⟩:=h;rfl|ep r p i d=>obtain⟨⟨a,rfl⟩,_⟩:=h;rfl|fn f e=>obtain⟨j,rfl,_⟩:=h;rfl|kp r J t=>obtain⟨⟨a,len,c,rfl⟩,_⟩:=h;rfl
theorem ztx {x:Operand}{y:TV}(h:st.opnd x=some (.v y)):y≠.at .bad:=by rintro rfl;cases x with|tmp t=>simp only[St.opnd]at h;split at h;{cases h};{rename_i b;exact b h}|const v=>simp only[St.opnd]at h;split at h;{rename_i a c;simp only[qC,MV.v.injEq,TV.at.injEq]at h;subst h;cases v<;>simp [zK5]at c};{cases h}|global g=>simp[St.opnd]at h|func f=>simp[St.opnd]at h
theorem VT.cells {x:TV}{v:Value}(h:VT w st E x v)(d:x≠.at .bad) :
 v.cells.size=(zS x).length/\∀(j:Nat) (a:At) (u:Value),(zS x)[j]?=some a->v.cells[j]?=some u->u.oneCell'=true/\VA w st E a u:=by
 rcases x with a|l
 .have h1:v.oneCell'=true:=VA.one h (fun e=>d (by rw[e]))
  rw[cells_one h1];refine⟨rfl,fun j f u b c=>?_⟩;cases j with
  |zero=>simp[zS]at b c;subst b c;exact⟨h1,h⟩
  |succ j=>simp[zS]at b
 .obtain⟨vs,rfl,h2,h3⟩:=h;exact⟨h2,h3⟩
theorem zoe {P:Program}{T:TypeId}{tys:List CTy}{b off:Nat}{arr:Array Value}{e:TypeId}{d:Nat×Nat}(f:TypeOk P T true tys)(g:w.heap[b]?=some (.cells arr e d))(h:off+tys.length<=arr.size) :
 (loadVar T ⟨b,off,none⟩).run P w = .ok (.agg ((arr.toList.drop off).take tys.length).toArray) w:=by
 have i:((arr.toList.drop off).take tys.length).length=tys.length:=by simp;omega
 have:=run_loadCells_list (P:=P) w ⟨b,off,none⟩ ((arr.toList.drop off).take tys.length) (fun j v c=>by
  have a:(⟨b,off,none⟩:Addr).add j=⟨b,off+j,none⟩:=by unfold Addr.add;split<;>simp_all
  rw[a,cell_of_row w b (off+j) arr e d g];rw[jI]at c;split at c
  .simpa [jQ] using c
  .cases c)
 rw[i] at this;unfold loadVar;rw[Sem.run_bind,zv1 f];simp[Result.andThen,zAw f,this]
theorem zof {P:Program}{T:TypeId}{tys:List CTy}{b off:Nat}{arr:Array Value}{e:TypeId}{a:Nat×Nat}{v:Value}(c:TypeOk P T false tys)(d:w.heap[b]?=some (.cells arr e a))(h:arr[off]?=some v) :
 (loadVar T ⟨b,off,none⟩).run P w = .ok v w:=by
 unfold loadVar;rw[Sem.run_bind,zv1 c];have:w.cell? ⟨b,off,none⟩=some v:=by rw[cell_of_row w b off arr e a d];exact h
 simp[this]
theorem zLo:∀(p:List (Int×Nat)) {t g q:Ty} {v:Value} {b o len cap:Nat} {i:Int} {j:Nat} {u:Value},zZ w t v p=some (.slice (some ⟨b,o,none⟩) len cap)->zxG t p=some g->
 0<=i->i.toNat<len->g.shape[j]?=some (.s q)->w.cell? ⟨b,o+i.toNat*g.width+j,none⟩=some u->zZ w t v (p++[(i,j)])=some u
 |[],t,g,q,v,b,o,len,cap,i,j,u,d,e,h,k,m,n=>by simp only[zZ,qC,zxG]at d e;subst d e;simp[zZ,h,k,m,n]
 |(y,z)::p,t,g,q,v,b,o,len,cap,i,j,u,d,e,h,k,m,n=>by simp only[zxG]at e;split at e;{rename_i A f;cases v with|slice a l c=>(cases a with|none=>simp[zZ]at d|some a=>simp only[zZ,f]at d;simp only[kG,zZ,f];split at d;{rename_i r;rw[if_pos r];split at d;{rename_i B x;exact zLo p d e h k m n};{cases d}};{cases d})|_=>simp[zZ]at d};{cases e}
def zzP (r:Nat)(p:List (Int×Nat))(i:Int)(j:Nat):CV->At
 |.i k n=>.i k n
 |.b x=>.b x
 |.s _ _=>.sl r (p++[(i,j)])
theorem zzO (r:Nat)(p:List (Int×Nat))(i:Int):∀(cs:List CV) (j k:Nat),(zsa r p i cs j)[k]?=cs[k]?.map (zzP r p i (j+k))
 |[],j,k=>by simp[zsa]
 |c::cs,j,k=>by have e:zsa r p i (c::cs) j=zzP r p i j c::zsa r p i cs (j+1):=(by cases c<;>rfl);rw[e];cases k with|zero=>simp|succ k=>simp only[jP];rw[zzO r p i cs (j+1) k];congr 2;omega
theorem zUs (r:Nat)(p:List (Int×Nat))(i:Int):∀(cs:List CV) (j:Nat),(zsa r p i cs j).length=cs.length
 |[],_=>rfl
 |c::cs,j=>by cases c<;>simp [zsa,zUs r p i cs (j+1)]
theorem zQ5 {r:Nat}{p:List (Int×Nat)}{i:Int}{j:Nat}{c:CV}{n:Nat}(h:n∈(zzP r p i j c).ids):n=r:=by cases c<;>simp [zzP,At.ids,zbo,zbq]at h;exact h
theorem VA.oneC {c:CV}{r:Nat}{p:List (Int×Nat)}{i:Int}{j:Nat}{v:Value}(h:VA w st E (zzP r p i j c) v):v.oneCell'=true :=
 h.one (by cases c<;>simp [zzP])
theorem z4j (hC:CfgOk C)(Q:Sim w0 S0 U st E ts sv w){o:Oper}{id:Nat}{T:TypeId}{x:Operand}{d:Dl}(ho:o.op = .load T x)(h:delta C st o id=some d):zsR C U st E ts w o d:=by
 have G:∀{v:Value} {a:Addr},({tmps:=ts,defers:=[]}:Act).eval x = .pointer (some a)->(loadVar T a).run C.P w = .ok v w->
  (execOp ({tmps:=ts,defers:=[]}:Act).eval o).run C.P w = .ok (.value v) w:=by
  intro v a hx Z;simp[execOp,ho,Instr.loadAt,hx,Instr.sureAddr,Z]
 simp only[delta,ho]at h;split at h;{rename_i A H l f hT h1;obtain⟨hx,a2⟩:=zbG Q h1;have B:=hC.cty T A H hT;split at h;{rename_i cs J;have a4:=hx.2 cs J;obtain⟨_,D,e,g1,g2,g3⟩:=Q.mem.loc l cs J;have I:=(Q.ids.lo l cs J).2;split at h;{rename_i m;cases m;split at h;{rename_i b0;cases h;refine zqH (G a4 (zoe B g1 (by omega))) ⟨_,rfl,by simp;omega,fun j a u g F=>?_⟩ ?_;{simp only [jI,jQ]at g;simp only[jF,jI,jQ,kU]at F;split at g;{rename_i L;rw[if_pos L]at F;exact g3 (f+j) a u g F};{cases g}};{intro n q;simp only[MV.ids,zbA,zS,qN]at q;obtain⟨a,g,q⟩:=q;exact I a (kM (jV g)) n q}};{cases h}};{rename_i m;have:A=false:=(by simpa using m);subst this;split at h;{rename_i a g;cases h;have b1:f<D.size:=(by rw[g2];exact(qA.1 g).1);have hv:D[f]?=some D[f]:=(by simp[b1]);exact zqH (G a4 (zof B g1 hv)) (g3 f a _ g hv).2 (fun n q=>I a (qI g) n (by rw[zdm]at q;exact q))};{cases h}}};{cases h}}
 .rename_i A H r p i f hT h1;obtain⟨hx,a2⟩:=zbG Q h1;have B:=hC.cty T A H hT;split at h
  .rename_i t l q;obtain⟨R,hR,hg⟩:=zfo q;obtain⟨b,o2,len,a7,t',e1,e2,e3,e4,e5⟩:=hx.2 R hR;obtain⟨t2,l2,S',f1,f2,f3,f4⟩:=Rep.at p (Q.mem.rep r R hR) e1;rw[hg] at f1;cases f1;rw[e2] at f2;cases f2;have S:U r:=a2 r (by simp[At.ids,zbo])
   cases f3 with
   |void=>omega
   |sl _ _ _ _ _ a6 e' fz V K _ hb b7 b4 b2 b8 b6 b5 b3 a1 a8=>
   have a9:l[i.toNat]?=some (ix l i t.dflt):=zld e4;have a0:(i.toNat+1)*t.width<=a7*t.width:=qS _ (by omega);rw[jL]at a0;have a5:∀(j:Nat) (c:CV) (u:Value),(t.cells (ix l i t.dflt))[j]?=some c->a6[o2+i.toNat*t.width+j]?=some u->VA w st E (zzP r p i j c) u:=(by intro j c u z F;have L:j<t.width:=(by have:=(qA.1 z).1;rw[zc9] at this;exact this);have Z:=a8 i.toNat _ a9 j c z;have W:=a1 i.toNat j e4 L;rw[W]at F;cases F;cases c with|i k n=>exact Z.int_inv|b y=>exact Z.bool_inv|s t3 l3=>obtain⟨⟨a3,N,h3,_⟩,_⟩:=Z.len;refine⟨⟨a3,_,N,h3⟩,fun R' O=>?_⟩;rw[hR]at O;cases O;exact zLo p e1 e2 e3 e4 (zJU z) (by rw[cell_of_block hb];exact W));split at h;{rename_i m;cases m;split at h;{rename_i b0;cases h;refine zqH (G e5 (zoe B hb (by omega))) ⟨_,rfl,?_,fun j a u g F=>?_⟩ ?_;{rw [zUs];simp[zc9];omega};{rw [zzO]at g;simp only[jI,jQ]at g;simp only[jF,jI,jQ,kU]at F;split at g;{rename_i L;rw[if_pos L]at F;cases z:(t.cells (ix l i t.dflt))[f+j]? with|none=>rw[z]at g;cases g|some c=>rw[z]at g;cases g;have:=a5 (f+j) c u z (by rw[<- uF];exact F);exact⟨this.oneC,this⟩};{cases g}};{intro n q;simp only[MV.ids,zbA,zS,qN]at q;obtain⟨a,g,q⟩:=q;obtain⟨k,Y⟩:=qT.1 g;rw[zzO]at Y;cases z:(((t.cells (ix l i t.dflt)).drop f).take H.length)[k]? with|none=>rw[z]at Y;cases Y|some c=>rw[z]at Y;cases Y;rw[zQ5 q];exact S}};{cases h}};{rename_i m;have:A=false:=(by simpa using m);subst this;split at h;{rename_i a g;cases h;have M:(zsa r p i (((t.cells (ix l i t.dflt)).drop f).take 1) f)[0]?=some a:=(by rw[g];rfl);rw[zzO]at M;cases z:(((t.cells (ix l i t.dflt)).drop f).take 1)[0]? with|none=>rw[z]at M;cases M|some c=>rw[z]at M;simp only[Option.map_some,qC,jY]at M;subst M;have X:(t.cells (ix l i t.dflt))[f]?=some c:=(by simpa using z);have L:f<t.width:=(by have:=(qA.1 X).1;rw[zc9] at this;exact this);have W:=a1 i.toNat f e4 L;exact zqH (G e5 (zof B hb W)) (a5 f c _ X W) (fun n q=>by rw[zdm]at q;rw[zQ5 q];exact S)};{cases h}}
  {cases h}
 {cases h}
theorem zbbW (b:CfgOk C)(a:Sim w0 S0 U st E ts sv w){o:Oper}{id:Nat}{T:TypeId}{x:Operand}{d:Dl}(c:o.op = .load T x)(h:delta C st o id=some d):Goes C w0 S0 U st ts sv w o id (fun st=>st.apply o.dst d):=(z4j (id:=id) b a c h).goes a
theorem zbcx (d:Sim w0 S0 U st E ts sv w){o:Oper}{id:Nat}{x y:Operand}{a b:Int}{c:Call}(m:o.op = .call c)(l:c.callee = .builtin .min)(k:c.args.toList=[x,y])(h:st.at x=some (.i .i64 a))(j:st.at y=some (.i .i64 b)):Goes C w0 S0 U st ts sv w o id (fun st=>st.apply o.dst (.at (.i .i64 (zOP a b)))):=by have f:=(zbG d h).1;have g:=(zbG d j).1;simp only[VA]at f g;have e:c.args = #[x,y]:=(by rw[<- k]);refine zc0 d (v:=.int .i64 (zOP a b)) ?_ rfl (by rw[zdm];simp[At.ids,zbo,zbq]);simp[execOp,m,resolve,l,invoke,builtin,e,f,g,run_min_int2,zOP]
theorem zbcw (d:Sim w0 S0 U st E ts sv w){o:Oper}{id:Nat}{x y:Operand}{a b:Int}{c:Call}(m:o.op = .call c)(l:c.callee = .builtin .max)(k:c.args.toList=[x,y])(h:st.at x=some (.i .i64 a))(j:st.at y=some (.i .i64 b)):Goes C w0 S0 U st ts sv w o id (fun st=>st.apply o.dst (.at (.i .i64 (imax a b)))):=by have f:=(zbG d h).1;have g:=(zbG d j).1;simp only[VA]at f g;have e:c.args = #[x,y]:=(by rw[<- k]);refine zc0 d (v:=.int .i64 (imax a b)) ?_ rfl (by rw[zdm];simp[At.ids,zbo,zbq]);simp[execOp,m,resolve,l,invoke,builtin,e,f,g,run_max_int2,imax]
end
section
variable {C:Cfg} {w0 w w1:World} {S0:zX} {U:Nat->Prop} {st st1:St} {E E1:Env} {ts:Array Value} {sv:List (Array Value)}
theorem zkr (k:Sim w0 S0 U st E ts sv w){o:Oper}{id:Nat}{mv:MV}{v:Value}{f:St->St}{n:Next}(g:(execOp ({tmps:=ts,defers:=[]}:Act).eval o).run C.P w = .ok n w1)(q:n = .value v\/(n = .skip/\v=undef))(j:Mem w0 S0 st1 E1 w1)(T:Trans st E w st1 E1 w1 U)(l:f st=st1.put o.dst mv)(e:st1.tm=st.tm)(b:st1.stk=st.stk)(d:∀n R,zl st1.ro n=some R->U n\/Mine id n)(c:∀n cs,zl st1.lo n=some cs->(U n\/Mine id n)/\∀a∈cs,∀m∈a.ids,U m\/Mine id m)(r:VM w1 st1 E1 mv v)(p:∀n∈mv.ids,U n\/Mine id n):Goes C w0 S0 U st ts sv w o id f:=by have i:Sim w0 S0 (fun n=>U n\/Mine id n) (f st) E1 (({tmps:=ts,defers:=[]}:Act).put o.dst v).tmps sv w1:=(by rw[l];exact Sim.next k j T e b (fun n h=>.inl h) d c r p);rcases q with rfl|⟨rfl,rfl⟩;{exact zLj g i};{exact zvv g i}
theorem zeJ (id:Nat):Mine id id:=⟨qZ _,by omega⟩
theorem zbcu (c:Sim w0 S0 U st E ts sv w){o:Oper}{id:Nat}(q:∀n,Mine id n->¬ U n){T:TypeId}{x:Operand}{d:Dl}(u:o.op = .box T x)(h:delta C st o id=some d):Goes C w0 S0 U st ts sv w o id (fun st=>st.apply o.dst d):=by simp only[delta,u]at h;split at h;{rename_i y s;cases h;obtain⟨B,r⟩:=zb0 c s;obtain⟨l,p⟩:=VT.cells B (ztx s);have g:∀a∈zS y,∀m∈a.ids,U m:=fun a f m i=>r m (by simp only[MV.ids,zbA,qN];exact⟨a,f,i⟩);have j:=q id (zeJ id);obtain⟨z,A⟩:=c.mem.addLoc c.ids.mem j (e:=T) l p g;refine zkr c (v:=.pointer (some ⟨w.heap.size,0,none⟩)) ?_ (.inl rfl) z A rfl rfl rfl (fun n R b=>.inl (c.ids.ro n R b)) ?_ ?_ ?_;{simp [execOp,u,Instr.box,newVar,newRow,newObj,Sem.run]};{intro n k b;simp only[zl]at b;split at b;{rename_i t;simp only[qK]at t;subst t;cases b;exact⟨.inr (zeJ _),fun a f m i=>.inl (g a f m i)⟩};{exact⟨.inl (c.ids.lo n k b).1,fun a f m i=>.inl ((c.ids.lo n k b).2 a f m i)⟩}};{exact⟨⟨_,rfl⟩,fun k _=>by simp⟩};{intro n b;rw[zdm]at b;simp only[At.ids,zbo,zbq,jU,qF]at b;subst b;exact .inr (zeJ _)}};{cases h}
theorem zRO:∀(tys:List CTy) (id k:Nat),(zeros tys id)[k]?=tys[k]?.map (zeroAt (id+k))
 |[],id,k=>by simp[zeros]
 |c::r,id,k=>by cases k with|zero=>simp[zeros]|succ k=>simp only[zeros,jP];rw[zRO r (id+1) k];congr 2;omega
theorem zE6:∀(tys:List CTy) (id:Nat),(zeros tys id).length=tys.length
 |[],_=>rfl
 |c::r,id=>by simp[zeros,zE6 r]
theorem zhr:∀(tys:List CTy) (id n:Nat) (R:Root),zl (zeroRoots tys id) n=some R->id<=n/\n<id+tys.length/\∃t,R=zcP t []
 |[],_,_,_,h=>by cases h
 |c::r,id,n,R,h=>by have a:zl (zeroRoots r (id+1)) n=some R->id<=n/\n<id+(c::r).length/\∃t,R=zcP t []:=fun h=>(by obtain⟨f,g,d⟩:=zhr r (id+1) n R h;exact⟨by omega,by simp;omega,d⟩);cases c with|i k=>exact a h|b=>exact a h|s t=>simp only[zeroRoots,zl]at h;split at h;{rename_i e;simp only[qK]at e;cases h;exact⟨by omega,by simp;omega,t,rfl⟩};{exact a h}
theorem z2l {c:CTy}{id n:Nat}(h:n∈(zeroAt id c).ids):n=id:=by cases c<;>simp [zeroAt,At.ids,zbo,zbq]at h;exact h
def zhq (E:Env)(id:Nat):Env:={E with ρ:=fun n=>if id<=n/\n<id+31 then .slice none 0 0 else E.ρ n,φ:=fun n=>if id<=n/\n<id+31 then fun _=>False else E.φ n}
theorem Mem.zeroRoots (f:Mem w0 S0 st E w)(e:IdsM st U){id:Nat}(c:∀n,Mine id n->¬ U n){tys:List CTy}(g:tys.length<=31) :
 Mem w0 S0 {st with ro:=Go.Proofs.YthdlghbibaoabaaGreat.E.zeroRoots tys id++st.ro} (zhq E id) w/\Trans st E w {st with ro:=Go.Proofs.YthdlghbibaoabaaGreat.E.zeroRoots tys id++st.ro} (zhq E id) w U:=by
 refine f.addRoots e rfl rfl rfl (qZ _) (fun _ _=>rfl) (fun r R i=>?_) (fun r R k j b _ _ x d=>?_) (fun n h=>?_)
 .obtain⟨b,h2,t,rfl⟩:=zhr tys id r R i;have a:id<=r/\r<id+31:=⟨b,by omega⟩
  refine⟨c r ⟨b,by omega⟩,rfl,rfl,?_,fun x d=>?_⟩
  .simp only [zhq,if_pos a,zcP];exact .nil t _
  .simp only [zhq,if_pos a]at d
 .obtain⟨b,h2,_⟩:=zhr tys id r R b;have a:id<=r/\r<id+31:=⟨b,by omega⟩
  simp only[zhq,if_pos a]at d
 .have a:¬ (id<=n/\n<id+31):=fun a=>c n ⟨a.1,by omega⟩ h
  simp only[zhq,if_neg a];exact⟨trivial,trivial,trivial⟩
theorem zu3 {tys:List CTy}{id k:Nat}{a:At}(e:tys.length<=31)(h:(zeros tys id)[k]?=some a) :
 ∃c,tys[k]?=some c/\(zeroV c).oneCell'=true/\(∀st w,VA w st (zhq E id) a (zeroV c))/\∀n∈a.ids,id<=n/\n<id+31:=by
 rw[zRO]at h;cases d:tys[k]? with
 |none=>rw[d]at h;cases h
 |some c=>rw[d]at h;cases h;have l:k<tys.length:=(qA.1 d).1;refine⟨c,rfl,by cases c<;>rfl,fun st w=>?_,fun n g=>?_⟩;{cases c with|i k=>rfl|b=>rfl|s t=>refine⟨⟨none,0,0,rfl⟩,fun R j=>?_⟩;have f:id<=id+k/\id+k<id+31:=⟨by omega,by omega⟩;simp only[zZ,zhq,if_pos f];rfl};{rw [z2l g];omega}
theorem zbaT (hC:CfgOk C)(g:Sim w0 S0 U st E ts sv w){o:Oper}{id:Nat}(G:∀n,Mine id n->¬ U n){T:TypeId}{d:Dl}(ho:o.op = .alloc T)(h:delta C st o id=some d):Goes C w0 S0 U st ts sv w o id (fun st=>st.apply o.dst d):=by
 simp only[delta,ho]at h;split at h
 .rename_i agg tys hT;split at h
  .rename_i hle;cases h;obtain⟨M,q⟩:=g.mem.zeroRoots g.ids.mem G hle;obtain⟨z,hz,H⟩:=z6T (w:=w) (hC.cty T agg tys hT);have B:IdsM {st with ro:=Go.Proofs.YthdlghbibaoabaaGreat.E.zeroRoots tys id++st.ro} (fun n=>U n\/(id<=n/\n<id+31)):=(by refine⟨fun n R b=>?_,fun n f b=>⟨.inl (g.ids.lo n f b).1,fun a t m i=>.inl ((g.ids.lo n f b).2 a t m i)⟩⟩;simp only[zbO]at b;split at b;{rename_i Q hQ;obtain⟨A,Y,_⟩:=zhr tys id n Q hQ;exact .inr ⟨A,by omega⟩};{exact .inl (g.ids.ro n R b)});have W:z.cells.size=(zeros tys id).length:=(by rw[zE6,<- kQ,H];simp);have x:∀(j:Nat) (c:At) (u:Value),(zeros tys id)[j]?=some c->z.cells[j]?=some u->u.oneCell'=true/\VA w {st with ro:=Go.Proofs.YthdlghbibaoabaaGreat.E.zeroRoots tys id++st.ro} (zhq E id) c u:=by intro j c u hc hu;obtain⟨ct,A,Y,h3,_⟩:=zu3 (E:=E) hle hc;have:z.cells.toList[j]?=some u:=(by simpa using hu);rw[H,qP,A] at this;cases this;exact⟨Y,h3 _ _⟩
   obtain⟨N,s⟩:=M.addLoc B (id:=id+31) (fun b=>b.elim (G _ ⟨by omega,by omega⟩) (fun h=>by omega)) (e:=T) W x (fun a t m i=>by
    obtain⟨k,V⟩:=qT.1 t;obtain⟨_,_,_,_,J⟩:=zu3 (E:=E) hle V;exact .inr (J m i))
   refine zkr g (v:=.pointer (some ⟨w.heap.size,0,none⟩)) (w1:=w.alloc (.cells z.cells T (0,0))) ?_ (.inl rfl) N ?_ rfl rfl rfl ?_ ?_ ?_ ?_;{simp [execOp,ho,Instr.alloc,hz,newVar,newRow,newObj,Sem.run]}
   .exact ⟨fun r D R1 P=>by
     obtain⟨R,hR,ht,hh⟩:=s.ro r (.inl D) R1 P;obtain⟨R',O,y,S⟩:=q.ro r D R hR;refine⟨R',O,ht.trans y,fun p u hp=>?_⟩;rw[<- y];exact hh p u (by rw[y];exact S p u hp),
     fun l D L A=>by
     obtain⟨⟨f,x⟩,X⟩:=s.lo l (.inl D) L A;obtain⟨⟨K,F⟩,I⟩:=q.lo l D f x;exact⟨⟨K,F⟩,X.trans I⟩,s.κ.trans q.κ⟩
   {intro n R b;rcases B.ro n R b with h|h;{exact .inl h};{exact .inr ⟨h.1,by omega⟩}};{intro n f b;simp only[zl]at b;split at b;{rename_i Z;simp only[qK]at Z;subst Z;cases b;refine⟨.inr ⟨by omega,by omega⟩,fun a t m i=>?_⟩;obtain⟨k,V⟩:=qT.1 t;obtain⟨_,_,_,_,J⟩:=zu3 (E:=E) hle V;exact .inr ⟨(J m i).1,by have:=(J m i).2;omega⟩};{exact⟨.inl (g.ids.lo n f b).1,fun a t m i=>.inl ((g.ids.lo n f b).2 a t m i)⟩}};{exact⟨⟨_,rfl⟩,fun f _=>by simp⟩};{intro n b;rw[zdm]at b;simp only[At.ids,zbo,zbq,jU,qF]at b;subst b;exact .inr ⟨by omega,by omega⟩}
  {cases h}
 {cases h}
end
section
variable {C:Cfg} {w0 w w1:World} {S0:zX} {U:Nat->Prop} {st st1:St} {E E1:Env} {ts:Array Value} {sv:List (Array Value)}
theorem zH0 (hC:CfgOk C)(f:Sim w0 S0 U st E ts sv w){o:Oper}{id:Nat}{T:TypeId}{a x:Operand}{B:Bool}{tys:List CTy}{y:TV}{l off:Nat}{cs:List At}(ho:o.op = .store T a x)(hT:C.cty T=some (B,tys))(W:VM w st E (.v y) (({tmps:=ts,defers:=[]}:Act).eval x))(V:∀n∈(MV.v y).ids,U n)(Q:y≠.at .bad)(D:st.at a=some (.lp l off))(h:zl st.lo l=some cs)(G:(zS y).length=tys.length)(a1:off+tys.length<=cs.length) :
 Goes C w0 S0 U st ts sv w o id (fun st=>st.apply o.dst {v:=.und,lo:=[(l,splice cs off (zS y))]}):=by
 obtain⟨M,a0⟩:=zbG f D;obtain⟨t,F⟩:=VT.cells W Q;have N:∀a∈zS y,∀m∈a.ids,U m:=fun a D m i=>V m (by simp only[MV.ids,zbA,qN];exact⟨a,D,i⟩)
 have L:=M.2 cs h;obtain⟨g0,b,e,X,Y,Z⟩:=f.mem.loc l cs h;obtain⟨K,p⟩:=f.ids.lo l cs h;generalize hv:({tmps:=ts,defers:=[]}:Act).eval x=v at *;have I:∀u∈v.cells.toList,u.oneCell'=true:=by intro u A;obtain⟨j,z⟩:=qT.1 A;have O:j<(zS y).length:=(by rw[<- t];have:=(qA.1 z).1;simpa using this);exact(F j _ u (qB O) (by simpa using z)).1
 have g:v.cells.toList.length=(zS y).length:=by simpa using t
 have H:=run_storeCells_at (P:=C.P) (E.β l) off e v.cells.toList 0 b w X (by rw[g,Y];omega) I
 have S:(b.toList.take (off+0)++v.cells.toList++b.toList.drop (off+0+v.cells.toList.length))=splice b.toList off v.cells.toList:=by simp[splice]
 rw[S]at H;have r:off+v.cells.toList.length<=b.toList.length:=by rw[g];simp;omega
 have s:off+(zS y).length<=cs.length:=by omega
 have q:∀c∈splice cs off (zS y),∀m∈c.ids,U m:=by intro c d m i;simp only[splice,jJ]at d;rcases d with (d|d)|d;{exact p c (jV d) m i};{exact N c d m i};{exact p c (kM d) m i}
 obtain⟨hM,J⟩:=f.mem.stLoc f.ids.mem h (cs':=splice cs off (zS y)) (vals':=(splice b.toList off v.cells.toList).toArray) (e':=e) (w1:=w.setRow (E.β l) (splice b.toList off v.cells.toList).toArray)
  rfl rfl rfl (by simp) (fun x hx=>setRow_other w _ x _ hx) (setRow_heap w _ _ _ e _ X)
  (by rw[zhR cs off _ s,j6,zhR _ _ _ r];simpa using Y)
  (fun j c u d A=>by
   simp only[jF]at A
   by_cases z:off<=j/\j<off+(zS y).length
   .rw [zej cs off _ s j z.1 z.2]at d;rw[zej _ off _ r j z.1 (by rw[g];exact z.2)]at A
    exact F (j-off) c u d (by simpa using A)
   .rw [zd8 cs off _ s j (by omega)]at d
    rw[zd8 _ off _ r j (by rw[g];omega)]at A
    exact Z j c u d (by simpa using A)) q
 refine zkr f (v:=undef) (mv:=.und) (n:=.skip) ?_ (.inr ⟨rfl,rfl⟩) hM J rfl rfl rfl (fun n R k=>.inl (f.ids.ro n R k)) ?_ rfl ?_
 .have hsz:v.cells.size=tys.length:=by rw[t,G]
  simp[execOp,ho,Instr.storeAt,L,Instr.sureAddr,storeVar,zAw (hC.cty T B tys hT),hv,hsz,H]
 .intro n cs' k;simp only[zl]at k;split at k
  .rename_i he;simp only[qK]at he;subst he;cases k;exact⟨.inl K,fun c d m i=>.inl (q c d m i)⟩
  .exact⟨.inl (f.ids.lo n cs' k).1,fun a D m i=>.inl ((f.ids.lo n cs' k).2 a D m i)⟩
 .intro n k;simp[MV.ids,zbA]at k
theorem z1X (h:CfgOk C)(d:Sim w0 S0 U st E ts sv w){o:Oper}{id:Nat}{T:TypeId}{a x:Operand}{c:Bool}{tys:List CTy}{y:TV}{l off:Nat}{cs:List At}(k:o.op = .store T a x)(i:C.cty T=some (c,tys))(g:st.opnd x=some (.v y))(j:st.at a=some (.lp l off))(e:zl st.lo l=some cs)(b:(zS y).length=tys.length)(f:off+tys.length<=cs.length) :
 Goes C w0 S0 U st ts sv w o id (fun st=>st.apply o.dst {v:=.und,lo:=[(l,splice cs off (zS y))]}):=
 zH0 h d k i (zb0 d g).1 (zb0 d g).2 (ztx g) j e b f
theorem zYR (A:CfgOk C)(c:Sim w0 S0 U st E ts sv w){o:Oper}{id:Nat}(p:∀n,Mine id n->¬ U n){T:TypeId}{a:Operand}{d:Bool}{t:Ty}{l off:Nat}{cs:List At}(G:o.op = .store T a (.const (.slice none 0 0)))(D:C.cty T=some (d,[.s t]))(j:st.at a=some (.lp l off))(k:zl st.lo l=some cs)(q:off+1<=cs.length) :
 Goes C w0 S0 U st ts sv w o id (fun st=>st.apply o.dst {v:=.und,lo:=[(l,splice cs off [.sl id []])],ro:=[(id,zcP t [])]}):=by
 intro next Q b;obtain⟨B,i⟩:=c.mem.zeroRoots c.ids.mem p (tys:=[.s t]) (by simp)
 have f:Sim w0 S0 (fun n=>U n\/Mine id n) {st with ro:=zeroRoots [.s t] id++st.ro} (zhq E id) ts sv w :=
  Sim.next c B i rfl rfl (fun n h=>.inl h) (fun n R h=>by
   simp only[zbO]at h;split at h
   .rename_i Q hQ;obtain⟨x,z,_⟩:=zhr [.s t] id n Q hQ;simp only[qY,uJ]at z;exact .inr ⟨x,by omega⟩
   .exact .inl (c.ids.ro n R h))
   (fun n cs b=>⟨.inl (c.ids.lo n cs b).1,fun a j m F=>.inl ((c.ids.lo n cs b).2 a j m F)⟩) (dst:=none) (mv:=.und) (v:=undef) rfl (fun n b=>by simp[MV.ids,zbA]at b)
 have g:=zH0 (id:=id) A f (y:=.at (.sl id [])) G D ⟨⟨none,0,0,rfl⟩,fun R I=>by simp[zZ,zhq,Act.eval]⟩
  (fun n b=>by
   rw[zdm]at b;simp only[At.ids,zbo,zbq,jC,qF]at b;subst b;exact .inr (zeJ _)) (by simp) j k rfl (by simpa using q)
 refine g next Q (fun u v H r=>b u v H ?_);have e:(fun n=>(U n\/Mine id n)\/Mine id n)=fun n=>U n\/Mine id n:=by funext n;simp[or_assoc]
 rw[e]at r;exact r
theorem zUL (i:Sim w0 S0 U st E ts sv w){o:Oper}{id:Nat}(y:∀n,Mine id n->¬ U n){t:Ty}{l:List t.den}{c:Bool}{v:Value}{S:zX}(j:(execOp ({tmps:=ts,defers:=[]}:Act).eval o).run C.P w = .ok (.value v) w1)(A:w1.os=w.os)(D:w1.tape=w.tape)(k:w1.output=w.output)(B:w.heap.size<=w1.heap.size)(h:∀x,x<w.heap.size->w1.heap[x]?=w.heap[x]?)(g:Rep true w1 v (.s t l) S)(d:∀x,S x->w.heap.size<=x/\x<w1.heap.size) :
 Goes C w0 S0 U st ts sv w o id (fun st=>st.apply o.dst {c,v:=.v (.at (.sl id [])),ro:=[(id,zcP t l)]}):=by
 have f:=y id (zeJ id);obtain⟨G,H⟩:=i.mem.addRoots i.ids.mem (dro:=[(id,zcP t l)]) (w1:=w1) (E1:={E with ρ:=fun n=>if n=id then v else E.ρ n,φ:=fun n=>if n=id then S else E.φ n})
  A D k B h (fun r R j=>by
   simp only[zl]at j;split at j
   .rename_i he;simp only[qK]at he;subst he;cases j;exact⟨f,rfl,rfl,by simpa [zcP] using g,fun x L=>d x (by simpa using L)⟩
   .cases j)
  (fun r R O M q u z=>by
   simp only[zl]at q u;split at q
   .split at u
    .rename_i e1 e2;simp only[qK] at e1 e2;exact absurd (e1.symm.trans e2) z
    .cases u
   .cases q)
  (fun n b=>by
   have:n≠id:=fun e=>f (e ▸ b);simp[this])
 obtain⟨⟨a,p,K,_⟩,_⟩:=g.len;refine zkr i j (.inl rfl) G H rfl rfl rfl ?_ (fun n F b=>⟨.inl (i.ids.lo n F b).1,fun a I m J=>.inl ((i.ids.lo n F b).2 a I m J)⟩) ?_ ?_
 .intro n R b;simp only[kG,jU,zl]at b;split at b
  .rename_i he;simp only[qK]at he;subst he;exact .inr (zeJ _)
  .exact .inl (i.ids.ro n R b)
 .exact⟨⟨a,_,p,K⟩,fun R N=>by simp[zZ]⟩
 .intro n b;rw[zdm]at b;simp only[At.ids,zbo,zbq,jC,qF]at b;subst b;exact .inr (zeJ _)
theorem z9x (c:Sim w0 S0 U st E ts sv w){o:Oper}{id:Nat}(b:∀n,Mine id n->¬ U n){t:Ty}(a:o.op = .move (.const (.slice none 0 0))\/o.op = .assign (.const (.slice none 0 0))) :
 Goes C w0 S0 U st ts sv w o id (fun st=>st.apply o.dst {v:=.v (.at (.sl id [])),ro:=[(id,zcP t [])]}):=by
 refine zUL c b (v:=.slice none 0 0) (S:=fun _=>False) (w1:=w) ?_ rfl rfl rfl (qZ _) (fun _ _=>rfl) (.nil t _) (fun x d=>d.elim);rcases a with a|a<;>simp [execOp,a,Act.eval]
def z5e:CTy->CV
 |.i k=>.i k 0
 |.b=>.b false
 |.s t=>.s t []
theorem zK7 (t:Ty):t.cells t.dflt=t.shape.map z5e:=by cases t<;>rfl
theorem zWs (o:Bool)(w:World)(c:CTy)(S:zX):Rep o w (zeroV c) (z5e c) S:=by cases c with|i k=>exact .i k 0 S|b=>exact .b false S|s t=>exact .nil t S
theorem zE2 (t:Ty):0<t.width:=by cases t<;>simp [Ty.width]
theorem zDX {z:Array Value}{t:Ty}(f:z.toList=t.shape.map zeroV){n i j:Nat}(k:i<n)(e:j<t.width) :
 ∃c,t.shape[j]?=some c/\(madeCells z (n*t.width))[i*t.width+j]?=some (zeroV c):=by
 have m:z.size=t.width:=by rw[<- kQ,f];simp[zei]
 have a:j<t.shape.length:=by rw[zei];exact e
 refine⟨t.shape[j],by simp[a],?_⟩
 have b:i*t.width+j<n*t.width:=by have:(i+1)*t.width<=n*t.width:=qS _ k;rw[jL] at this;omega
 have l:(i*t.width+j) % t.width=j:=by rw[Nat.add_comm,Nat.add_mul_mod_self_right,Nat.mod_eq_of_lt e]
 have d:z[j]! = zeroV t.shape[j]:=by have g:z.toList[j]?=some (zeroV t.shape[j]):=(by rw[f];simp[a]);have h:z[j]?=some (zeroV t.shape[j]):=(by simpa using g);rw[getElem!_def,h]
 unfold madeCells;rw[vD,Array.getElem?_range];simp[b,m,l,d]
theorem zNY {n:Int}(h:few n=true):0<=n/\n<=2147483648:=qE h
theorem zYQ (J:CfgOk C)(q:Sim w0 S0 U st E ts sv w){o:Oper}{id:Nat}(s:∀n,Mine id n->¬ U n){T:TypeId}{x y:Operand}{d:Dl}(F:o.op = .makeSlice T x y)(h:delta C st o id=some d)(D:d.c=true):Goes C w0 S0 U st ts sv w o id (fun st=>st.apply o.dst d):=by
 simp only[delta,F]at h;split at h
 .rename_i t n m hT l p;cases h;have a:=(zbG q l).1;have H:=(zbG q p).1;simp only[VA]at a H;simp only[qD,ieq,qK]at D;obtain⟨L,rfl⟩:=D;obtain⟨B,f⟩:=zNY L;obtain⟨e,hE⟩:=J.sty T t hT;obtain⟨i,z,k,O,Q,A,K⟩:=hE.info;have r:(i.bytes:Int)*n<=281474976710656:=(by have:(i.bytes:Int)*n<=1024*2147483648:=Int.mul_le_mul (by omega) f B (by omega);omega);have G:=run_make (P:=C.P) w T e i z hE.und k Q .i64 .i64 n n B (kS _) r (by omega);rw[O]at G;have N:n.toNat<=2147483648:=(by omega);have u:=size_madeCells z.cells (n.toNat*t.width);refine zUL q s (S:=fun x=>x=w.heap.size) (w1:=w.alloc (.cells (madeCells z.cells (n.toNat*t.width)) e)) (v:=.slice (some ⟨w.heap.size,0,none⟩) n.toNat n.toNat) ?_ rfl rfl rfl (by simp) (fun x a=>heap_alloc_old w _ x a) ?_ (fun x a=>by subst a;simp);{simp [execOp,F,a,H,G]}
  .have hlen:(rp n t.dflt).length=n.toNat:=by simp[rp]
   have:=Rep.sl (o:=true) (w:=w.alloc (.cells (madeCells z.cells (n.toNat*t.width)) e)) t (rp n t.dflt) w.heap.size 0 n.toNat (madeCells z.cells (n.toNat*t.width)) e (0,0)
    (fun _ j=>((t.shape[j]?).map zeroV).getD undef) (fun _ _ _=>False) (fun x=>x=w.heap.size) (heap_alloc_new w _) (fun _=>rfl) (by rw[hlen];simp only[big];omega) (by rw[hlen];exact qZ _) (by rw[u];omega) rfl
    (fun _ _ _ _ _ h=>h.elim) (fun _ _ _ _ _ _ _ _ _ _ h=>h.elim) (fun i j k M=>by
     rw[hlen]at k;obtain⟨c,l,p⟩:=zDX A k M;rw[j4,p,l];rfl)
    (fun i x a j c b=>by
     simp only[rp]at a;rw[kC]at a;split at a
     .cases a;rw[zK7,qP]at b;cases g:t.shape[j]? with
      |none=>rw[g]at b;cases b
      |some I=>rw[g]at b;cases b;exact zWs true _ I _
     .cases a)
   rw[hlen] at this;exact this
 {cases h}
end
section
variable {C:Cfg} {w0 w w1:World} {S0:zX} {U:Nat->Prop} {st st1:St} {E E1:Env} {ts:Array Value} {sv:List (Array Value)}
theorem add_lit (b o n:Nat):(⟨b,o,none⟩:Addr).add n=⟨b,o+n,none⟩:=by unfold Addr.add;split<;>simp_all
theorem zbag {P:Program}{T e:TypeId}(h:P.underlying T=some (.slice e)):P.elem T=e/\P.underlying T=some (.slice (P.elem T)):=by have:P.elem T=e:=(by simp[Program.elem,h]);exact⟨this,by rw[this];exact h⟩
theorem Rep.subO {o:Bool}{t:Ty}{l:List t.den}{a:Option Addr}{len cap x y:Nat}{S:zX}(h:Rep o w (.slice a len cap) (.s t l) S)(W:x<=y)(M:y<=l.length) :
 Rep o w (sliced a x y cap t.width) (.s t ((l.take y).drop x)) S:=by
 cases h with
 |nil=>have m:y=0:=(by simpa using M);have k:x=0:=(by omega);subst m k;exact .nil t S
 |void _ a _ L=>have m:y=0:=(by simpa using M);have k:x=0:=(by omega);subst m k;exact .void t _ S (by assumption)
 |sl _ _ b n cap A e O V K _ Q D I H T P f q U R=>
  have g:((l.take y).drop x).length=y-x:=by simp;omega
  have N:sliced (some ⟨b,n,none⟩) x y cap t.width = .slice (some ⟨b,if cap=x then n else n+x*t.width,none⟩) ((l.take y).drop x).length (cap-x):=by
   unfold sliced;rw[g];split
   .rfl
   .simp [add_lit]
  rw[N];have r:∀i,i<y-x->cap≠x:=fun i d=>(by omega);have J:(cap-x)*t.width+x*t.width=cap*t.width:=by rw[<- kT];congr 1;omega
  refine .sl t _ b _ (cap-x) A e O (fun i j=>V (x+i) j) (fun i j=>K (x+i) j) S Q D (by rw[g];omega) (by rw[g];omega) ?_ P (fun i j z d p u=>⟨(f (x+i) j z (by rw[g]at d;omega) p u).1,(f (x+i) j z (by rw[g]at d;omega) p u).2⟩) (fun L i j X Y z d p E F u G=>by
   rw[g]at d E;have:=q L (x+i) j (x+X) Y z (by omega) p (by omega) F u G
   exact⟨by omega,this.2⟩) ?_ ?_
  {split;{rename_i C;subst C;simp;omega};{omega}};{intro i j d p;rw[g]at d;rw[if_neg (r i d),<- U (x+i) j (by omega) p,kT];congr 1;omega};{intro i z v j c B;rw[jQ,jI]at v;split at v;{exact R (x+i) z v j c B};{cases v}}
theorem Rep.sub {o:Bool}{t:Ty}{l:List t.den}{a:Option Addr}{len cap x y:Nat}{S:zX}(h:Rep o w (.slice a len cap) (.s t l) S)(b:x<=y)(c:y<=l.length) :
 Rep false w (sliced a x y cap t.width) (.s t ((l.take y).drop x)) S:=(h.subO b c).ro
theorem z3v {b:Ty}{l0:List b.den}{p:List (Int×Nat)}{t:Ty}{l:List t.den}(h:zgm b l0 p=some (.s t l))(c:t.flat=false):b.flat=false:=by
 cases p with
 |nil=>cases h;exact c
 |cons a p=>
  obtain⟨i,j⟩:=a;cases b with
  |kept=>rfl
  |guest=>rfl
  |bare=>rfl
  |mon=>rfl
  |sl t=>rfl
  |int=>match j,h with|0,h=>cases h|n+1,h=>cases h
  |u8=>match j,h with|0,h=>cases h|n+1,h=>cases h
  |bool=>match j,h with|0,h=>cases h|n+1,h=>cases h
  |slot=>match j,h with|0,h=>cases h|1,h=>cases h|n+2,h=>cases h
  |ins=>match j,h with|0,h=>cases h|1,h=>cases h|n+2,h=>cases h
  |entry=>match j,h with|0,h=>cases h|1,h=>cases h|2,h=>cases h|3,h=>cases h|n+4,h=>cases h
  |act=>match j,h with|0,h=>cases h|1,h=>cases h|2,h=>cases h|3,h=>cases h|4,h=>cases h|5,h=>cases h|n+6,h=>cases h
  |told=>match j,h with|0,h=>cases h|1,h=>cases h|n+2,h=>cases h
theorem zvL {r:Nat}{R:Root}{p:List (Int×Nat)}{t:Ty}{l:List t.den}(b:st.root r=some R)(d:st.node r p=some (.s t l))(c:t.flat=false):R.t.flat=false:=by obtain⟨e,a,hg⟩:=zfo d;rw[b]at a;cases a;exact z3v hg c
theorem zvw (e:Sim w0 S0 U st E ts sv w){o:Oper}{id:Nat}(h:∀n,Mine id n->¬ U n){r:Nat}{R:Root}(k:st.root r=some R){t:Ty}{l:List t.den}{c:Bool}{v:Value}(y:(execOp ({tmps:=ts,defers:=[]}:Act).eval o).run C.P w = .ok (.value v) w)(d:Rep false w v (.s t l) (E.φ r))(i:t.flat=false->R.t.flat=false) :
 Goes C w0 S0 U st ts sv w o id (fun s=>s.apply o.dst {c,v:=.v (.at (.sl id [])),ro:=[(id,zeN st R t l)]}):=by
 have f:=h id (zeJ id);obtain⟨p,q⟩:=e.mem.view e.ids.mem f k d i;obtain⟨⟨a,g,z,_⟩,_⟩:=d.len;refine zkr e y (.inl rfl) p q rfl rfl rfl ?_ (fun n j b=>⟨.inl (e.ids.lo n j b).1,fun a u m x=>.inl ((e.ids.lo n j b).2 a u m x)⟩) ?_ ?_
 .intro n R b;simp only[zl]at b;split at b
  .rename_i he;simp only[qK]at he;subst he;exact .inr (zeJ _)
  .exact .inl (e.ids.ro n R b)
 .exact⟨⟨a,_,g,z⟩,fun R k=>by simp[zZ]⟩
 .intro n b;rw[zdm]at b;simp only[At.ids,zbo,zbq,jC,qF]at b;subst b;exact .inr (zeJ _)
theorem zk8 (e:Sim w0 S0 U st E ts sv w){o:Oper}{id:Nat}(r:∀n,Mine id n->¬ U n){ks:List Nat}{t:Ty}{m:List t.den}{c:Bool}{v:Value}{φn:zX}(L:(execOp ({tmps:=ts,defers:=[]}:Act).eval o).run C.P w = .ok (.value v) w1)(y:∀k∈ks,∃R,st.root k=some R/\R.own=true)(z:w1.os=w.os)(B:w1.tape=w.tape)(i:w1.output=w.output)(A:w.heap.size<=w1.heap.size)(f:∀x,x<w.heap.size->(∀k∈ks,¬ E.φ k x)->w1.heap[x]?=w.heap[x]?)(D:∀x,φn x->(∃k∈ks,E.φ k x)\/(w.heap.size<=x/\x<w1.heap.size))(d:Rep true w1 v (.s t m) φn)(h:∀k∈ks,∀R,st.root k=some R->Rep false w1 (E.ρ k) (.s R.t R.l) (E.φ k)/\∀p u,zZ w R.t (E.ρ k) p=some u->zZ w1 R.t (E.ρ k) p=some u) :
 Goes C w0 S0 U st ts sv w o id (fun s=>s.apply o.dst {c,v:=.v (.at (.sl id [])),ro:=(id,zcP t m)::moved st ks,bump:=true}):=by
 have g:=r id (zeJ id);obtain⟨H,I⟩:=e.mem.merge e.ids.mem g y z B i A f D d h;obtain⟨⟨a,j,M,_⟩,_⟩:=d.len;refine zkr e L (.inl rfl) H I rfl rfl rfl ?_ (fun n F b=>⟨.inl (e.ids.lo n F b).1,fun a J m K=>.inl ((e.ids.lo n F b).2 a J m K)⟩) ?_ ?_
 .intro n R b;simp only[kG,zl]at b;split at b
  .rename_i he;simp only[qK]at he;subst he;exact .inr (zeJ _)
  .rw [zbO]at b;split at b
   .rename_i Q hQ;obtain⟨_,G,q,_⟩:=zlg ks n Q hQ;exact .inl (e.ids.ro n G q)
   .exact .inl (e.ids.ro n R b)
 .exact⟨⟨a,_,j,M⟩,fun R N=>by simp[zZ]⟩
 .intro n b;rw[zdm]at b;simp only[At.ids,zbo,zbq,jC,qF]at b;subst b;exact .inr (zeJ _)
theorem zOQ {a b n:Int}(h:inr a b n=true):0<=a/\a<=b/\b<=n:=qE h
theorem zbaY (hC:CfgOk C)(j:Sim w0 S0 U st E ts sv w){o:Oper}{id:Nat}(u:∀n,Mine id n->¬ U n){T:TypeId}{x:Operand}{lo hi:Option Operand}{d:Dl}(S:o.op = .slice T x lo hi none)(h:delta C st o id=some d)(I:d.c=true):Goes C w0 S0 U st ts sv w o id (fun st=>st.apply o.dst d):=by
 simp only[delta,S]at h;split at h
 .rename_i r p h1;split at h
  .rename_i R t l hR hn;split at h
   .rename_i hT;obtain⟨hx,a3⟩:=zbG j h1;obtain⟨e,hE⟩:=hC.sty T t hT;obtain⟨X,G⟩:=zbag hE.und;obtain⟨i,z,Y,hs,_⟩:=hE.info;have B:(sizeOf (C.P.elem T)).run C.P w = .ok t.width w:=(by rw[X];simp[sizeOf,typeInfo,Y,hs]);obtain⟨R',S',O,g1,g2,g3,g4⟩:=zuZ j hx hn;rw[hR]at O;cases O;obtain⟨⟨a,q,hv,a2⟩,a1⟩:=g3.len;generalize D:({tmps:=ts,defers:=[]}:Act).eval x=v at *;subst hv;have s:=g3.weak (S':=E.φ r) g4;split at h;{cases h;have b:=s.sub (jX l.length) (qZ _);simp only[List.take_length,vB]at b;refine zvw j u hR ?_ b (zvL hR hn);simp[execOp,S,D,run_sliceAt_slice (P:=C.P) w T _ _ _ _ G,run_slice_all (P:=C.P) w T a l.length q G,B]}
    .rename_i a0;split at h
     .rename_i n N;cases h;have H:=(zbG j N).1;simp only[VA]at H;have J:inr n (ln l) (ln l)=true:=(by unfold zNU at I;split at I<;>exact I);obtain⟨V,F,M⟩:=zOQ J;simp only[ln] at F M;have f:=s.subO (x:=n.toNat) (y:=l.length) (by omega) (qZ _);have b:=s.sub (x:=n.toNat) (y:=l.length) (by omega) (qZ _);simp only[List.take_length]at b f;have A:(execOp ({tmps:=ts,defers:=[]}:Act).eval o).run C.P w = .ok (.value (sliced a n.toNat l.length q t.width)) w:=(by simp[execOp,S,D,H,run_sliceAt_slice (P:=C.P) w T _ _ _ _ G,run_slice_l (P:=C.P) w T a l.length q G .i64 n V F,B]);unfold zNU;split
      .rename_i g;rw[g]at f;exact zk8 j u (w1:=w) (φn:=E.φ r) A (fun k K=>by
        simp only[qF]at K;subst K;exact⟨R,hR,g⟩) rfl rfl rfl (qZ _) (fun _ _ _=>rfl) (fun z L=>.inl ⟨r,by simp,L⟩) f (fun k K Q W=>⟨(j.mem.rep k Q W).ro,fun _ _ h=>h⟩)
      {exact zvw j u hR A b (zvL hR hn)}
     {cases h}
    .rename_i Z;split at h
     .rename_i n N;cases h;have J:inr 0 n (ln l)=true:=(by unfold zIy at I;split at I<;>exact I);obtain⟨V,F,M⟩:=zOQ J;simp only[ln] at F M;have H:=(zbG j N).1;simp only[VA]at H;have f:=s.subO (x:=0) (y:=n.toNat) (by omega) (by omega);have b:=s.sub (x:=0) (y:=n.toNat) (by omega) (by omega);simp only[vB]at b f;have A:(execOp ({tmps:=ts,defers:=[]}:Act).eval o).run C.P w = .ok (.value (sliced a 0 n.toNat q t.width)) w:=(by simp[execOp,S,D,H,run_sliceAt_slice (P:=C.P) w T _ _ _ _ G,run_slice_h (P:=C.P) w T a l.length q G .i64 n F (by omega),B]);unfold zIy;split
      .rename_i g;have g:R.own=true:=by rw[qD]at g;exact g.2
       rw[g]at f;exact zk8 j u (w1:=w) (φn:=E.φ r) A (fun k K=>by
        simp only[qF]at K;subst K;exact⟨R,hR,g⟩) rfl rfl rfl (qZ _) (fun _ _ _=>rfl) (fun z L=>.inl ⟨r,by simp,L⟩) f (fun k K Q W=>⟨(j.mem.rep k Q W).ro,fun _ _ h=>h⟩)
      {exact zvw j u hR A b (zvL hR hn)}
     {cases h}
    {rename_i a0 Z;split at h;{rename_i n m N h3;cases h;obtain⟨V,F,M⟩:=zOQ I;simp only[ln] at F M;have H:=(zbG j N).1;have L:=(zbG j h3).1;simp only[VA]at H L;have b:=s.sub (x:=n.toNat) (y:=m.toNat) (by omega) (by omega);refine zvw j u hR ?_ b (zvL hR hn);simp[execOp,S,D,H,L,run_sliceAt_slice (P:=C.P) w T _ _ _ _ G,run_slice_lh (P:=C.P) w T a l.length q G .i64 .i64 n m V F (by omega),B]};{cases h}}
   {cases h}
  {cases h}
 {cases h}
theorem Rep.flat {o d:Bool}{w w':World}{v:Value}{c:CV}{S S':zX}(h:Rep o w v c S)(a:c.flat=true):Rep d w' v c S':=by cases h with|i k n=>exact .i k n S'|b x=>exact .b x S'|nil=>cases a|void=>cases a|sl=>cases a
theorem zvs {t:Ty}(a:t.flat=true){x:t.den}{j:Nat}{c:CV}(h:(t.cells x)[j]?=some c):c.flat=true:=by have d:=zJU h;have:=qM.1 a c.ty (qI d);cases c with|i k n=>rfl|b y=>rfl|s t l=>cases this
theorem Rep.one {o:Bool}{w:World}{v:Value}{c:CV}{S:zX}(h:Rep o w v c S):v.oneCell'=true:=by cases h<;>rfl
structure Rows (o:Bool) (w:World) (t:Ty) (l:List t.den) (arr:Array Value) (off:Nat) (b:Nat) (V:Nat->Nat->Value) (K:Nat->Nat->zX) (S:zX):Prop where
 sub:∀i j x,i<l.length->j<t.width->K i j x->S x/\(o=true->x≠b)
 dis:o=true->∀i j i' j' x,i<l.length->j<t.width->i'<l.length->j'<t.width->K i j x->K i' j' x->i=i'/\j=j'
 val:∀i j,i<l.length->j<t.width->arr[off+i*t.width+j]?=some (V i j)
 con:∀i x,l[i]?=some x->∀j c,(t.cells x)[j]?=some c->Rep o w (V i j) c (K i j)
theorem Rep.join {w1:World}{t:Ty}{a g:List t.den}{b off cap:Nat}{arr:Array Value}{e:TypeId}{V1 V2:Nat->Nat->Value}{K1 K2:Nat->Nat->zX}{S:zX}(y:w1.heap[b]?=some (.cells arr e (0,0)))(p:a.length+g.length<=big)(n:a.length+g.length<=cap)(m:off+cap*t.width<=arr.size)(w:S b)(B:∀i j,i<a.length->j<t.width->arr[off+i*t.width+j]?=some (V1 i j))(C:∀i j,i<g.length->j<t.width->arr[off+(a.length+i)*t.width+j]?=some (V2 i j))(r:∀i x,a[i]?=some x->∀j c,(t.cells x)[j]?=some c->Rep true w1 (V1 i j) c (K1 i j))(c2:∀i x,g[i]?=some x->∀j c,(t.cells x)[j]?=some c->Rep true w1 (V2 i j) c (K2 i j))(q:∀i j x,i<a.length->j<t.width->K1 i j x->S x/\x≠b)(A:∀i j x,i<g.length->j<t.width->K2 i j x->S x/\x≠b)(u:∀i j f d x,i<a.length->j<t.width->f<a.length->d<t.width->K1 i j x->K1 f d x->i=f/\j=d)(v:∀i j f d x,i<g.length->j<t.width->f<g.length->d<t.width->K2 i j x->K2 f d x->i=f/\j=d)(l:∀i j f d x,i<a.length->j<t.width->f<g.length->d<t.width->K1 i j x->¬ K2 f d x) :
 Rep true w1 (.slice (some ⟨b,off,none⟩) (a.length+g.length) cap) (.s t (ap a g)) S:=by
 have z:(ap a g).length=a.length+g.length:=by simp[ap]
 rw[<- z];refine .sl t (ap a g) b off cap arr e (0,0) (fun i j=>if i<a.length then V1 i j else V2 (i-a.length) j) (fun i j=>if i<a.length then K1 i j else K2 (i-a.length) j) S y (fun _=>rfl) (by omega) (by omega) m w ?_ ?_ ?_ ?_
 .intro i j x hi hj hk
  by_cases h:i<a.length
  .simp only [if_pos h]at hk;exact⟨(q i j x h hj hk).1,fun _=>(q i j x h hj hk).2⟩
  .simp only [if_neg h]at hk;have:=A (i-a.length) j x (by omega) hj hk
   exact⟨this.1,fun _=>this.2⟩
 .intro _ i j f d x hi hj hi' hj' hk hk'
  by_cases h:i<a.length<;>by_cases k:f<a.length
  .simp only [if_pos h]at hk;simp only[if_pos k]at hk';exact u i j f d x h hj k hj' hk hk'
  .simp only [if_pos h]at hk;simp only[if_neg k]at hk';exact absurd hk' (l i j _ d x h hj (by omega) hj' hk)
  .simp only [if_neg h]at hk;simp only[if_pos k]at hk';exact absurd hk (l f d _ j x k hj' (by omega) hj hk')
  .simp only [if_neg h]at hk;simp only[if_neg k]at hk';have:=v _ j _ d x (by omega) hj (by omega) hj' hk hk'
   exact⟨by omega,this.2⟩
 .intro i j hi hj
  by_cases h:i<a.length
  .simp only [if_pos h];exact B i j h hj
  .simp only [if_neg h];rw[<- C (i-a.length) j (by omega) hj]
   congr 3
   congr 1
   omega
 .intro i x hx j c hcj;simp only[ap]at hx
  by_cases h:i<a.length
  .simp only [if_pos h];rw[qV h]at hx;exact r i x hx j c hcj
  .simp only [if_neg h];rw[qR (by omega)]at hx
   exact c2 _ x hx j c hcj
theorem run_append_room' {P:Program}{w:World}(t ty e:TypeId)(i:TypeInfo)(x:P.underlying t=some (.slice e))(s:P.info? e=some i)(g off d f:Nat)(h:Array Value)(e':TypeId)(hg:w.heap[g]?=some (.cells h e' (0,0)))(a:Addr)(m c:Nat)(b:List Value)(v:b.length=m*i.size)(k:∀j u,b[j]?=some u->w.cell? (a.add j)=some u)(q:∀u∈b,u.oneCell'=true)(l:d+m<=f)(n:off+d*i.size+b.length<=h.size) :
 (Builtin.append_ #[t,t] ty #[.slice (some ⟨g,off,none⟩) d f,.slice (some a) m c]).run P w =
  .ok (.slice (some ⟨g,off,none⟩) (d+m) f) (w.setRow g (splice h.toList (off+d*i.size) b).toArray):=by
 have r:=run_firstCells_some (P:=P) w i.size m a m c b v k;have p:=run_storeCells_at P g (off+d*i.size) e' b 0 h w hg (by simpa using n) q
 simp only[jY]at p;simp[Builtin.append_,run_underlying x,sizeOf,typeInfo,s,Builtin.lenOf,l,r,add_lit,p,splice]
theorem zMV {P:Program}{w:World}(t ty e:TypeId)(i:TypeInfo)(h:P.underlying t=some (.slice e))(g:P.info? e=some i)(s:Option Addr)(d b:Nat)(f:d<=b)(a:Option Addr)(c:Nat) :
 (Builtin.append_ #[t,t] ty #[.slice s d b,.slice a 0 c]).run P w = .ok (.slice s d b) w:=by
 cases s<;>cases a<;>simp [Builtin.append_,run_underlying h,sizeOf,typeInfo,g,Builtin.lenOf,Builtin.firstCells,loadCells,loadCellsFrom,f,storeCells]
end
section
variable {C:Cfg} {w0 w w1:World} {S0:zX} {U:Nat->Prop} {st st1:St} {E E1:Env} {ts:Array Value} {sv:List (Array Value)}
theorem Rep.behind {t:Ty}{l:List t.den}{b off cap:Nat}{arr d:Array Value}{e e':TypeId}{V:Nat->Nat->Value}{K:Nat->Nat->zX}{S:zX}(z:l.length<=big)(r:l.length<=cap)(E:off+cap*t.width<=arr.size)(G:S b)(m:Rows true w t l arr off b V K S)(H:w.heap[b]?=some (.cells arr e (0,0)))(q:w1.heap[b]?=some (.cells d e' (0,0)))(L:d.size=arr.size)(g:∀k,k<off+l.length*t.width->d[k]?=arr[k]?)(f:∀x,x≠b->w1.heap[x]?=w.heap[x]?) :
 Rep true w1 (.slice (some ⟨b,off,none⟩) l.length cap) (.s t l) S/\
  ∀p u,zZ w t (.slice (some ⟨b,off,none⟩) l.length cap) p=some u->zZ w1 t (.slice (some ⟨b,off,none⟩) l.length cap) p=some u:=by
 have n:∀i j,i<l.length->j<t.width->off+i*t.width+j<off+l.length*t.width:=by intro i j a h;have:(i+1)*t.width<=l.length*t.width:=qS _ a;rw[jL] at this;omega
 have C:∀i x,l[i]?=some x->∀j c,(t.cells x)[j]?=some c->Rep true w1 (V i j) c (K i j):=by intro i x B j c v;have a:i<l.length:=(qA.1 B).1;have h:j<t.width:=(by have:=(qA.1 v).1;rw[zc9] at this;exact this);exact(m.con i x B j c v).frame (fun y F=>f y ((m.sub i j y a h F).2 rfl))
 refine⟨.sl t l b off cap d e' (0,0) V K S q (fun _=>rfl) z r (by rw[L];exact E) G m.sub m.dis (fun i j a h=>?_) C,?_⟩
 .rw [g _ (n i j a h)];exact m.val i j a h
 .intro p u hp;cases p with
  |nil=>exact hp
  |cons M p=>obtain⟨i,j⟩:=M;simp only[zZ]at hp ⊢;split at hp;{rename_i a;rw[if_pos a];split at hp;{rename_i O A;have h:j<t.width:=(by rw[<- zei];exact(qA.1 A).1);rw[cell_of_block H,m.val _ _ a.2 h]at hp;rw[cell_of_block q,g _ (n _ _ a.2 h),m.val _ _ a.2 h];simp only at hp ⊢;have B:l[i.toNat]?=some (l[i.toNat]'a.2):=qB a.2;obtain⟨c,I,D⟩:=zAT (x:=l[i.toNat]'a.2) A;obtain⟨N,rfl⟩:=zk5 D;have J:=m.con _ _ B j _ I;rw[zda p J (fun y F=>f y ((m.sub _ j y a.2 h F).2 rfl))];exact hp};{cases hp}};{cases hp}
theorem z6U (hC:CfgOk C)(X:Sim w0 S0 U st E ts sv w){o:Oper}{id:Nat}(e8:∀n,Mine id n->¬ U n){T:TypeId}{x y:Operand}{c:Call}(ho:o.op = .call c)(hcb:c.callee = .builtin .append)(hca:c.args.toList=[x,y])(hct:c.argTypes.toList=[T,T]){t:Ty}(hT:C.sty T=some t){r r2:Nat}{p2:List (Int×Nat)}(h1:st.at x=some (.sl r []))(h2:st.at y=some (.sl r2 p2)){R R2:Root}(hR:st.root r=some R)(g6:st.root r2=some R2)(a9:R.own=true)(c0:t.flat=true\/(R2.own=true/\p2=[]/\r≠r2)){l:List t.den}(hn:st.node r2 p2=some (.s t l)){f:List t.den}(g5:R=⟨t,f,R.own,R.ep⟩)(h3:few (ln (ap f l))=true) :
 Goes C w0 S0 U st ts sv w o id (fun s=>s.apply o.dst {c:=few (ln (ap f l)),v:=.v (.at (.sl id [])),ro:=(id,zcP t (ap f l))::moved st (if t.flat then [r] else [r,r2]),bump:=true}):=by
 obtain⟨d,_⟩:=zbG X h1;obtain⟨hy,_⟩:=zbG X h2;obtain⟨e,hE⟩:=hC.sty T t hT;obtain⟨i,z,g,hs,hz,hzc,g8⟩:=hE.info;have g9:c.args = #[x,y]:=by rw[<- hca]
 have h0:c.argTypes = #[T,T]:=by rw[<- hct]
 have hv1:E.ρ r=({tmps:=ts,defers:=[]}:Act).eval x:=by have:=d.2 R hR;simpa [zZ] using this
 have a3:Rep true w (E.ρ r) (.s t f) (E.φ r):=by have:=X.mem.rep r R hR;rw[a9,g5] at this;exact this
 obtain⟨R',S2,g0,g1,g2,g3,g4⟩:=zuZ X hy hn;rw[g6]at g0;cases g0;have f7:∀{v:Value} {w':World},(Builtin.append_ #[T,T] o.type #[E.ρ r,({tmps:=ts,defers:=[]}:Act).eval y]).run C.P w = .ok v w'->
  (execOp ({tmps:=ts,defers:=[]}:Act).eval o).run C.P w = .ok (.value v) w':=by
  intro v w' hr;rw[hv1]at hr;simp[execOp,ho,resolve,hcb,invoke,builtin,g9,h0,hr]
 generalize hvy:({tmps:=ts,defers:=[]}:Act).eval y=v2 at *;obtain⟨f0,f1⟩:=zNY h3;have h7:f.length+l.length<=2147483648:=by simp only[ln,ap,kA] at f1;omega
 have b6:∀k∈(if t.flat=true then [r] else [r,r2]),∃R,st.root k=some R/\R.own=true:=by intro k m;split at m;{simp only [qF]at m;subst m;exact⟨R,hR,a9⟩};{rename_i hf;simp only[qG,qO,or_false]at m;rcases m with rfl|rfl;{exact⟨R,hR,a9⟩};{exact⟨R2,g6,(c0.resolve_left hf).1⟩}}
 have Z:r∈(if t.flat=true then [r] else [r,r2]):=by split<;>simp
 have hrs:∀{Q:Root} {k:Nat},k=r->st.root k=some Q->Q=R:=fun h hq=>by subst h;rw[hR]at hq;cases hq;rfl
 by_cases d1:l=[]
 .subst d1;obtain⟨⟨a2,c2,hv2,_⟩,_⟩:=g3.len;obtain⟨⟨a1,c1,h8,e4⟩,_⟩:=a3.len;have hap:ap f []=f:=by simp[ap]
  rw[hap];refine zk8 X e8 (v:=E.ρ r) (φn:=E.φ r) (w1:=w) (f7 ?_) b6 rfl rfl rfl (qZ _) (fun _ _ _=>rfl) (fun x d=>.inl ⟨r,Z,d⟩) a3 (fun k m Q N=>⟨(X.mem.rep k Q N).ro,fun _ _ h=>h⟩);rw[h8,hv2];exact zMV T o.type e i hE.und g a1 _ _ e4 a2 _
 .cases g3 with
  |nil=>exact absurd rfl d1
  |void=>exact absurd rfl d1
  |sl _ _ b2 J W d3 e2 fz2 V2 K2 _ hb2 hfz2 hlen2 e6 hsz2 hS2 f6 c3 hvv2 a7=>
  have hm0:0<l.length:=kR.2 d1;have hmul2:l.length*t.width<=W*t.width:=qS _ e6;generalize c5:(d3.toList.drop J).take (l.length*t.width)=a;have L:a.length=l.length*t.width:=by rw[<- c5];simp;omega
  have d5:∀k,k<l.length*t.width->a[k]?=d3[J+k]?:=by intro k m;rw[<- c5,jI,if_pos m,jQ];simp
  have f4:∀j u,a[j]?=some u->w.cell? ((⟨b2,J,none⟩:Addr).add j)=some u:=by intro j u hu;have q:j<l.length*t.width:=(by rw[<- L];exact(qA.1 hu).1);rw[add_lit,cell_of_block hb2,<- d5 j q];exact hu
  have a6:∀i j,i<l.length->j<t.width->i*t.width+j<l.length*t.width:=by intro i j g q;have:(i+1)*t.width<=l.length*t.width:=qS _ g;rw[jL] at this;omega
  have f5:∀i j,i<l.length->j<t.width->a[i*t.width+j]?=some (V2 i j):=by intro i j g q;rw[d5 _ (a6 i j g q),<- uF];exact hvv2 i j g q
  have hwp:=zE2 t;have hn1:∀u∈a,u.oneCell'=true:=by intro u hu;obtain⟨k,m⟩:=qT.1 hu;have hkl:k<l.length*t.width:=(by rw[<- L];exact(qA.1 m).1);have d0:k / t.width<l.length:=(Nat.div_lt_iff_lt_mul hwp).2 hkl;have h6:k % t.width<t.width:=Nat.mod_lt _ hwp;have:=f5 _ _ d0 h6;rw[Nat.mul_comm,Nat.div_add_mod,m] at this;cases this;have d:=qB d0;have D:(t.cells (l[k / t.width]'d0))[k % t.width]?=some ((t.cells (l[k / t.width]'d0))[k % t.width]'(by rw[zc9];exact h6)):=qB _;exact(a7 _ _ d _ _ D).one
  have hK2:∃K:Nat->Nat->zX,(∀(w1:World),(∀x,(∃k∈(if t.flat=true then [r] else [r,r2]),k≠r/\E.φ k x)->w1.heap[x]?=w.heap[x]?)->
   ∀i x,l[i]?=some x->∀j c,(t.cells x)[j]?=some c->Rep true w1 (V2 i j) c (K i j))/\
   (∀i j x,i<l.length->j<t.width->K i j x->∃k∈(if t.flat=true then [r] else [r,r2]),k≠r/\E.φ k x)/\
   (∀i j i' j' x,i<l.length->j<t.width->i'<l.length->j'<t.width->K i j x->K i' j' x->i=i'/\j=j'):=by
   by_cases hf:t.flat=true
   .exact⟨fun _ _ _=>False,fun w1 _ i x d j c D=>(a7 i x d j c D).flat (zvs hf D),fun _ _ _ _ _ h=>h.elim,fun _ _ _ _ _ _ _ _ _ h=>h.elim⟩
   .obtain⟨ho2,hp2,hne⟩:=c0.resolve_left hf;have hin:r2∈(if t.flat=true then [r] else [r,r2]):=by rw[if_neg hf];simp
    have d7:∀i j x,i<l.length->j<t.width->K2 i j x->∃k∈(if t.flat=true then [r] else [r,r2]),k≠r/\E.φ k x :=
     fun i j x g q m=>⟨r2,hin,fun e=>hne e.symm,g4 x (f6 i j x g q m).1⟩
    rw[ho2]at a7 c3;refine⟨K2,fun w1 hw i x d j c D=>?_,d7,c3 rfl⟩;have O:i<l.length:=(qA.1 d).1;have S:j<t.width:=by have:=(qA.1 D).1;rw[zc9] at this;exact this
    exact(a7 i x d j c D).frame (fun y hy=>hw y (d7 i j y O S hy))
  obtain⟨K,f8,c8,f9⟩:=hK2;have A:∀x k,k∈(if t.flat=true then [r] else [r,r2])->k≠r->E.φ k x->¬ E.φ r x:=by intro x k m b5 d hxr;obtain⟨Q,N,hQo⟩:=b6 k m;exact X.mem.apart r R k Q hR a9 N (X.mem.mine k Q N hQo).1 (fun e=>b5 e.symm) x hxr d
  have c9:(f.length+l.length)*i.bytes<=140737488355328:=by have:=uR h7 g8;omega
  have b7:∀(B:List Value) (M:Nat) (V1:Nat->Nat->Value) (K1:Nat->Nat->zX) (zs:Array Value),B.length=f.length*t.width->f.length+l.length<=M->zs.size=(M-(f.length+l.length))*t.width->
   (∀i j,i<f.length->j<t.width->B[i*t.width+j]?=some (V1 i j))->
   (∀i x,f[i]?=some x->∀j c,(t.cells x)[j]?=some c->Rep true w (V1 i j) c (K1 i j))->
   (∀i j x,i<f.length->j<t.width->K1 i j x->E.φ r x)->
   (∀i j i' j' x,i<f.length->j<t.width->i'<f.length->j'<t.width->K1 i j x->K1 i' j' x->i=i'/\j=j')->
   (Builtin.append_ #[T,T] o.type #[E.ρ r,.slice (some ⟨b2,J,none⟩) l.length W]).run C.P w = .ok (.slice (some ⟨w.heap.size,0,none⟩) (f.length+l.length) M) (w.drew.alloc (.cells (B.toArray++a.toArray++zs) e (0,0)))->
   Goes C w0 S0 U st ts sv w o id (fun s=>s.apply o.dst {c:=few (ln (ap f l)),v:=.v (.at (.sl id [])),ro:=(id,zcP t (ap f l))::moved st (if t.flat then [r] else [r,r2]),bump:=true}):=by
   intro B M V1 K1 zs V e5 hzs ho1 e4 b3 hd1 hr;generalize G:w.drew.alloc (.cells (B.toArray++a.toArray++zs) e (0,0))=w1 at hr;have c6:∀x,x<w.heap.size->w1.heap[x]?=w.heap[x]?:=fun x d=>by rw[<- G];exact heap_alloc_old w.drew _ x d
   have hsize:w1.heap.size=w.heap.size+1:=by rw[<- G];simp
   have d2:∀k Q,st.root k=some Q->∀x,E.φ k x->w1.heap[x]?=w.heap[x]?:=fun k Q N x d=>c6 x (X.mem.rlt k Q N x d);have a5:∀i j,i<f.length->j<t.width->i*t.width+j<f.length*t.width:=by intro i j g q;have:(i+1)*t.width<=f.length*t.width:=qS _ g;rw[jL] at this;omega
   refine zk8 X e8 (w1:=w1) (φn:=fun x=>(∃k∈(if t.flat=true then [r] else [r,r2]),E.φ k x)\/x=w.heap.size) (f7 hr) b6 (by rw[<- G];rfl) (by rw[<- G];rfl) (by rw[<- G];rfl) (by omega) (fun x d _=>c6 x d) ?_ ?_ ?_
   .rintro x (d|rfl)
    .exact .inl d
    .exact .inr ⟨qZ _,by omega⟩
   .refine Rep.join (arr:=B.toArray++a.toArray++zs) (e:=e) (V1:=V1) (V2:=V2) (K1:=K1) (K2:=K) ?_ (by simp only[big];omega) e5 ?_ (.inr rfl) ?_ ?_ ?_ ?_ ?_ ?_ hd1 f9 ?_
    .rw [<- G];exact heap_alloc_new w.drew _
    .simp only [Array.size_append,j6,V,L,hzs,<- kT];have:f.length+l.length+(M-(f.length+l.length))=M:=by omega
     rw[this];omega
    .intro i j g q;have:=a5 i j g q;rw[j4,uN,j3 (by simp[V];exact this)]
     simpa using ho1 i j g q
    .intro i j g q;have:=a6 i j g q;rw[j4,kT,uN,kE (by simp[V];omega),j3 (by simp[V,L];omega)]
     rw[<- f5 i j g q];simp only[j6,V,jF]
     congr 1
     omega
    .intro i x d j c D;have O:i<f.length:=(qA.1 d).1;have S:j<t.width:=by have:=(qA.1 D).1;rw[zc9] at this;exact this
     exact(e4 i x d j c D).frame (fun y hy=>d2 r R hR y (b3 i j y O S hy))
    .refine f8 w1 ?_
     rintro x ⟨k,m,_,d⟩
     obtain⟨Q,N,_⟩:=b6 k m;exact d2 k Q N x d
    .intro i j x g q m;have:=b3 i j x g q m;exact⟨.inl ⟨r,Z,this⟩,fun e=>by have:=X.mem.rlt r R hR x this;omega⟩
    .intro i j x g q m;obtain⟨k,b3,_,d⟩:=c8 i j x g q m;obtain⟨Q,N,_⟩:=b6 k b3;exact⟨.inl ⟨k,b3,d⟩,fun e=>by have:=X.mem.rlt k Q N x d;omega⟩
    .intro i j i' j' x g q O S m e9;obtain⟨k,b4,c4,d⟩:=c8 i' j' x O S e9;exact A x k b4 c4 d (b3 i j x g q m)
   .intro k m Q N;refine⟨((X.mem.rep k Q N).frame (d2 k Q N)).ro,fun p u hp=>?_⟩;rw[zda p (X.mem.rep k Q N) (d2 k Q N)];exact hp
  generalize h9:E.ρ r=v1 at *;have d9:z.cells.size=t.width:=by rw[<- kQ,hzc];simp[zei]
  cases a3 with
  |nil=>
   have hr:=run_append_nil (P:=C.P) w T o.type e i z hE.und g hz ⟨b2,J,none⟩ l.length W a (by rw[hs];exact L) f4 hm0 (by omega) (by
    have:=uR (show l.length<=2147483648 by omega) g8
    omega)
   have e7:=grownCap_ge w l.length 0 e;refine b7 [] (grownCap w l.length 0 e) (fun _ _=>undef) (fun _ _ _=>False) (Builtin.zeroCells z.cells (grownCap w l.length 0 e-l.length)) (by simp) (by simpa using e7) (by simp[size_zeroCells,d9]) (fun i j g=>by simp at g) (fun i x d=>by simp at d) (fun _ _ _ _ _ h=>h.elim) (fun _ _ _ _ _ _ _ _ _ h=>h.elim) ?_;rw[hr];simp
  |void _ _ _ ho=>cases ho
  |sl _ _ b I b0 H e1 fz V1 K1 _ hb hfz f2 b8 d8 b1 F a0 c7 b9=>
   have h5:=hfz rfl;subst h5;have hmul1:f.length*t.width<=b0*t.width:=qS _ b8;by_cases a4:f.length+l.length<=b0;{have f3:(f.length+l.length)*t.width<=b0*t.width:=qS _ a4;rw[kT]at f3;have hr:=run_append_room' (P:=C.P) (w:=w) T o.type e i hE.und g b I f.length b0 H e1 hb ⟨b2,J,none⟩ l.length W a (by rw[hs];exact L) f4 hn1 a4 (by rw[hs,L];omega);rw[hs]at hr;have e3:I+f.length*t.width+a.length<=H.toList.length:=(by rw[L];simp;omega);generalize G:w.setRow b (splice H.toList (I+f.length*t.width) a).toArray=w1 at hr;have g7:w1.heap[b]?=some (.cells (splice H.toList (I+f.length*t.width) a).toArray e1 (0,0)):=(by rw[<- G];exact setRow_heap w b _ _ e1 _ hb);have Y:∀x,x≠b->w1.heap[x]?=w.heap[x]?:=fun x d=>(by rw[<- G];exact setRow_other w b x _ d);have d4:(splice H.toList (I+f.length*t.width) a).toArray.size=H.size:=(by rw[j6,zhR _ _ _ e3];simp);have a8:∀k,k<I+f.length*t.width->(splice H.toList (I+f.length*t.width) a).toArray[k]?=H[k]?:=(by intro k m;rw[jF,zd8 _ _ _ e3 k (.inl m)];simp);have e0:Rows true w t f H I b V1 K1 (E.φ r):=⟨F,a0,c7,b9⟩;obtain⟨k1,k2⟩:=Rep.behind (w1:=w1) f2 b8 d8 b1 e0 hb g7 d4 a8 Y;have a5:∀i j,i<f.length->j<t.width->i*t.width+j<f.length*t.width:=(by intro i j g q;have:(i+1)*t.width<=f.length*t.width:=qS _ g;rw[jL] at this;omega);refine zk8 X e8 (w1:=w1) (φn:=fun x=>∃k∈(if t.flat=true then [r] else [r,r2]),E.φ k x) (f7 hr) b6 (by rw[<- G];rfl) (by rw[<- G];rfl) (by rw[<- G];rfl) (by rw[<- G];simp) (fun x d hnk=>Y x (fun e=>hnk r Z (e ▸ b1))) (fun x d=>.inl d) ?_ ?_;{refine Rep.join (arr:=(splice H.toList (I+f.length*t.width) a).toArray) (e:=e1) (V1:=V1) (V2:=V2) (K1:=K1) (K2:=K) g7 (by simp only[big];omega) a4 (by rw[d4];exact d8) ⟨r,Z,b1⟩ ?_ ?_ ?_ ?_ ?_ ?_ (a0 rfl) f9 ?_;{intro i j g q;have:=a5 i j g q;rw[a8 _ (by omega)];exact c7 i j g q};{intro i j g q;have:=a6 i j g q;rw[jF,kT,zej _ _ _ e3 _ (by omega) (by rw[L];omega),<- f5 i j g q];congr 1;omega};{intro i x d j c D;have O:i<f.length:=(qA.1 d).1;have S:j<t.width:=(by have:=(qA.1 D).1;rw[zc9] at this;exact this);exact(b9 i x d j c D).frame (fun y hy=>Y y ((F i j y O S hy).2 rfl))};{refine f8 w1 ?_;rintro x ⟨k,m,b5,d⟩;exact Y x (fun e=>A x k m b5 d (e ▸ b1))};{intro i j x g q m;exact⟨⟨r,Z,(F i j x g q m).1⟩,(F i j x g q m).2 rfl⟩};{intro i j x g q m;obtain⟨k,b4,c4,d⟩:=c8 i j x g q m;exact⟨⟨k,b4,d⟩,fun e=>A x k b4 c4 d (e ▸ b1)⟩};{intro i j i' j' x g q O S m e9;obtain⟨k,b4,c4,d⟩:=c8 i' j' x O S e9;exact A x k b4 c4 d (F i j x g q m).1}};{intro k m Q N;by_cases b5:k=r;{subst b5;rw[hR]at N;cases N;rw[g5,h9];exact⟨k1.ro,k2⟩};{have h4:∀x,E.φ k x->w1.heap[x]?=w.heap[x]?:=fun x d=>Y x (fun e=>A x k m b5 d (e ▸ b1));refine⟨((X.mem.rep k Q N).frame h4).ro,fun p u hp=>?_⟩;rw[zda p (X.mem.rep k Q N) h4];exact hp}}}
   .generalize holds:(H.toList.drop I).take (f.length*t.width)=B;have V:B.length=f.length*t.width:=(by rw[<- holds];simp;omega);have d6:∀k,k<f.length*t.width->B[k]?=H[I+k]?:=by intro k m;rw[<- holds,jI,if_pos m,jQ];simp
    have hr:=run_append_grow (P:=C.P) w T o.type e i z hE.und g hz ⟨b,I,none⟩ f.length b0 B (by rw[hs];exact V) (fun j u hu=>by
     have q:j<f.length*t.width:=by rw[<- V];exact(qA.1 hu).1
     rw[add_lit,cell_of_block hb,<- d6 j q];exact hu) ⟨b2,J,none⟩ l.length W a (by rw[hs];exact L) f4 (by omega) (by omega) (growslice_fits (by omega) c9)
    have e7:=grownCap_ge w (f.length+l.length) b0 e;refine b7 B _ V1 K1 _ V e7 (by rw[size_zeroCells,d9]) (fun i j g q=>?_) b9 (fun i j x g q m=>(F i j x g q m).1) (a0 rfl) hr;have:(i+1)*t.width<=f.length*t.width:=qS _ g;rw[jL] at this;rw[d6 _ (by omega),<- uF];exact c7 i j g q
end
section
variable {C:Cfg} {w0 w w1:World} {S0:zX} {U:Nat->Prop} {st st1:St} {E E1:Env} {ts:Array Value} {sv:List (Array Value)}
theorem zQ6 {place:Nat->Option (Nat×Nat)}{cells:Array Value}{i off a:Nat}{v:Value}{b:List (Nat×Value)}(l:place i=some (off,a))(f:v.cells.size=a)(m:off+a<=cells.size) :
 Instr.fill place cells ((i,v)::b)=Instr.fill place (splice cells.toList off v.cells.toList).toArray b:=by
 have c:off+v.cells.toList.length<=cells.toList.length:=by simp[f];exact m
 have e:v.cells.zipIdx.foldl (fun g (x:Value×Nat)=>g.setIfInBounds (off+x.2) x.1) cells=(splice cells.toList off v.cells.toList).toArray:=by rw[<- Array.foldl_toList,Array.toList_zipIdx];obtain⟨n,j⟩:=Great.foldl_set off v.cells.toList 0 cells;apply Array.ext_getElem?;intro k;rw[j k];have h:(splice cells.toList off v.cells.toList).toArray[k]?=(splice cells.toList off v.cells.toList)[k]?:=jF;rw[h];by_cases d:off<=k/\k<off+v.cells.toList.length;{rw [zej _ _ _ c k d.1 d.2,if_pos ⟨by omega,by omega,by simp at c;simp at d;omega⟩];simp};{rw [zd8 _ _ _ c k (by omega),if_neg (by omega)];simp}
 rw[Instr.fill,l];simp only;rw[if_neg (by simp[f];omega)]
 rw[<- e]
def aφ (E:Env):At->zX
 |.sl r []=>E.φ r
 |_=>fun _=>False
structure Given (st:St) (xs:List At) (cs:List CV) (ks:List Nat):Prop where
 len:cs.length=xs.length
 own:∀r∈ks,∃R,st.root r=some R/\R.own=true
 get:∀(k:Nat) (a:At),xs[k]?=some a->(∃k' n,a = .i k' n/\cs[k]?=some (.i k' n))\/(∃x,a = .b x/\cs[k]?=some (.b x))\/∃r R,a = .sl r []/\st.root r=some R/\r∈ks/\cs[k]?=some (.s R.t R.l)
 inj:∀(k k' r:Nat),xs[k]?=some (.sl r [])->xs[k']?=some (.sl r [])->k=k'
theorem zrA:∀(xs:List At) (j:Nat) (c:Bool) (cs:List CV) (ks:List Nat),st.give none xs j=some (c,cs,ks)->c=true/\Given st xs cs ks
 |[],j,c,cs,ks,h=>by simp only[St.give,qC,jT]at h;obtain⟨rfl,rfl,rfl⟩:=h;exact⟨rfl,rfl,fun r B=>by simp at B,fun k a h=>by simp at h,fun k f r h=>by simp at h⟩
 |a::r,j,c,cs,ks,h=>by
  simp only[St.give]at h;split at h;{cases h}
  .rename_i c' cs' ks' hg;obtain⟨y,b⟩:=zrA r (j+1) c' cs' ks' hg;subst y;split at h;{rename_i k n;cases h;refine⟨rfl,by simp[b.len],b.own,fun f a g=>?_,fun m p s d e=>?_⟩;{cases f with|zero=>simp at g;subst g;exact .inl ⟨k,n,rfl,rfl⟩|succ f=>exact b.get f a (by simpa using g)};{cases m<;>cases p<;>simp at d e;exact congrArg _ (b.inj _ _ s d e)}};{rename_i x;cases h;refine⟨rfl,by simp[b.len],b.own,fun f a g=>?_,fun m p s d e=>?_⟩;{cases f with|zero=>simp at g;subst g;exact .inr (.inl ⟨x,rfl,rfl⟩)|succ f=>exact b.get f a (by simpa using g)};{cases m<;>cases p<;>simp at d e;exact congrArg _ (b.inj _ _ s d e)}}
   .rename_i q;split at h
    .rename_i R hR;split at h
     .rename_i hcond;cases h;simp only[vE,qD,jE,jN,decide_eq_false_iff_not]at hcond;have i:∀k:Nat,r[k]?≠some (At.sl q []):=(by intro k z;rcases b.get k _ z with⟨_,_,h,_⟩|⟨_,h,_⟩|⟨t,_,h,_,A,_⟩;{cases h};{cases h};{cases h;exact hcond.2 A});refine⟨rfl,by simp[b.len],?_,fun f a g=>?_,fun m p s d e=>?_⟩;{intro t l;rcases qG.1 l with rfl|l;{exact⟨R,hR,hcond.1⟩};{exact b.own t l}}
      .cases f with
       |zero=>simp at g;subst g;exact .inr (.inr ⟨q,R,rfl,hR,by simp,rfl⟩)
       |succ f =>rcases b.get f a (by simpa using g) with h|h|⟨t,u,d,e,v,w⟩;{exact .inl h};{exact .inr (.inl h)};{exact .inr (.inr ⟨t,u,d,e,by simp[v],w⟩)}
      {cases m<;>cases p<;>simp at d e;{rfl};{subst d;exact absurd e (i _)};{subst e;exact absurd d (i _)};{exact congrArg _ (b.inj _ _ s d e)}}
     {cases h}
    {cases h}
   {cases h};{cases h}
theorem Given.rep {xs:List At}{cs:List CV}{ks:List Nat}(j:Given st xs cs ks)(m:Mem w0 S0 st E w){k:Nat}{a:At}{c:CV}{u:Value}(p:xs[k]?=some a)(f:cs[k]?=some c)(g:VA w st E a u):Rep true w u c (aφ E a):=by rcases j.get k a p with⟨v,n,rfl,h⟩|⟨x,rfl,h⟩|⟨r,R,rfl,e,q,h⟩;{rw [f]at h;cases h;cases g;exact .i _ _ _};{rw [f]at h;cases h;cases g;exact .b _ _};{rw [f]at h;cases h;have:=g.2 R e;simp only[zZ,qC] at this;subst this;have l:=m.rep r R e;obtain⟨t,d,s⟩:=j.own r q;rw[e]at d;cases d;rw[s]at l;exact l}
theorem Given.fi {xs:List At}{cs:List CV}{ks:List Nat}(c:Given st xs cs ks){k:Nat}{a:At}{x:Nat}(d:xs[k]?=some a)(b:aφ E a x):∃r∈ks,a = .sl r []/\E.φ r x:=by rcases c.get k a d with⟨g,n,rfl,h⟩|⟨x,rfl,h⟩|⟨r,R,rfl,f,e,h⟩;{exact b.elim};{exact b.elim};{exact⟨r,e,rfl,b⟩}
theorem Mem.own_apart (f:Mem w0 S0 st E w){r a:Nat}{R c:Root}(g:st.root r=some R)(i:R.own=true)(b:st.root a=some c)(d:c.own=true){x:Nat}(j:E.φ r x)(e:E.φ a x):r=a:=by by_cases h:r=a;{exact h};{exact absurd e (f.apart r R a c g i b (f.mine a c b d).1 h x j)}
theorem zym {T:TypeId}{c:List (Nat×Nat)}(l:∀f off n,C.fof T f=some (off,n)->c[f]?=some (off,n)){st1:St}{ev:Operand->Value}(k:∀x y,st.opnd x=some (.v y)->VT w st1 E1 y (ev x)) :
 ∀(d:List (Nat×Operand)) (cs cs':List At) (cells:Array Value),layParts C T st d cs=some cs'->cells.size=cs.length->
  (∀(j:Nat) (a:At) (u:Value),cs[j]?=some a->cells[j]?=some u->u.oneCell'=true/\VA w st1 E1 a u)->
  ∃b:Array Value,Instr.fill (c[·]?) cells (d.map fun x=>(x.1,ev x.2))=some b/\b.size=cs'.length/\
   (∀(j:Nat) (a:At) (u:Value),cs'[j]?=some a->b[j]?=some u->u.oneCell'=true/\VA w st1 E1 a u)
 |[],cs,cs',cells,h,m,A=>by cases h;exact⟨cells,rfl,m,A⟩
 |(f,x)::r,cs,cs',cells,h,m,A=>by simp only[layParts]at h;split at h;{rename_i off n y F B;split at h;{rename_i E;obtain⟨z,i⟩:=E;have G:=k x y B;obtain⟨q,D⟩:=VT.cells G (ztx B);have g:off+(zS y).length<=cs.length:=(by rw[z];exact i);have e:off+(ev x).cells.toList.length<=cells.toList.length:=(by simp[q,z,m];exact i);simp only[jB];rw[zQ6 (l f off n F) (by rw[q,z]) (by rw[m];exact i)];refine zym l k r (splice cs off (zS y)) cs' _ h (by rw[j6,zhR _ _ _ e,zhR _ _ _ g];simpa using m) ?_;intro j a u s p;rw[jF]at p;by_cases t:off<=j/\j<off+(zS y).length;{rw [zej _ _ _ g j t.1 t.2]at s;rw[zej _ _ _ e j t.1 (by simp[q];exact t.2)]at p;exact D _ a u s (by simpa using p)};{rw [zd8 _ _ _ g j (by omega)]at s;rw[zd8 _ _ _ e j (by simp[q];omega)]at p;exact A j a u s (by simpa using p)}};{cases h}};{cases h}
theorem zDU {T:TypeId}:∀(c:List (Nat×Operand)) (cs cs':List At),layParts C T st c cs=some cs'->∀a∈cs',a∈cs\/∃x y,st.opnd x=some (.v y)/\a∈zS y
 |[],cs,cs',h,a,d=>by cases h;exact .inl d
 |(f,x)::r,cs,cs',h,a,d=>by simp only[layParts]at h;split at h;{rename_i g n y i e;split at h;{rcases zDU r _ cs' h a d with b|b;{simp only [splice,jJ]at b;rcases b with (b|b)|b;{exact .inl (jV b)};{exact .inr ⟨x,y,e,b⟩};{exact .inl (kM b)}};{exact .inr b}};{cases h}};{cases h}
theorem zbaV (L:CfgOk C)(f:Sim w0 S0 U st E ts sv w){o:Oper}{id:Nat}(D:∀n,Mine id n->¬ U n){T:TypeId}{b:Array (Nat×Operand)}{d:Dl}(M:o.op = .build T b)(h:delta C st o id=some d):Goes C w0 S0 U st ts sv w o id (fun st=>st.apply o.dst d):=by
 simp only[delta,M]at h;split at h
 .rename_i tys hT;split at h
  .rename_i l hcs;split at h
   .rename_i hle;cases h;obtain⟨t,p⟩:=f.mem.zeroRoots f.ids.mem D hle;obtain⟨fs,s,I,G,F⟩:=L.str T tys hT;obtain⟨i,z,W,hs,Z,q⟩:=(L.cty T true tys hT).info;have H:z.cells.size=(zeros tys id).length:=by rw[zE6,<- kQ,q];simp
    obtain⟨cells,V,A,B⟩:=zym (w:=w) (st1:={st with ro:=Go.Proofs.YthdlghbibaoabaaGreat.E.zeroRoots tys id++st.ro}) (E1:=zhq E id) (ev:=({tmps:=ts,defers:=[]}:Act).eval) F
     (fun x y J=>by
      obtain⟨e,r⟩:=zb0 f J;exact VT.tr p (fun a g n c=>r n (by simp only[MV.ids,zbA,qN];exact⟨a,g,c⟩)) e)
     b.toList (zeros tys id) l z.cells hcs H (fun j a u g I=>by
      obtain⟨ct,e,r,N,_⟩:=zu3 (E:=E) hle g;have:z.cells.toList[j]?=some u:=by simpa using I
      rw[q,qP,e] at this;cases this;exact⟨r,N _ _⟩)
    refine zkr f (v:=.agg cells) (mv:=.v (.agg l)) ?_ (.inl rfl) t p rfl rfl rfl ?_ (fun n l c=>⟨.inl (f.ids.lo n l c).1,fun a g m Y=>.inl ((f.ids.lo n l c).2 a g m Y)⟩) ⟨cells,rfl,A,B⟩ ?_;{have S:C.P.built T (b.map fun x=>(x.1,({tmps:=ts,defers:=[]}:Act).eval x.2)).toList=some cells:=(by simp only[Program.built,W,I,Z,G,uA];simpa using V);have:=run_build (P:=C.P) w T _ cells S;simp[execOp,M,this]};{intro n R c;simp only[zbO]at c;split at c;{rename_i Q O;obtain⟨e,r,_⟩:=zhr tys id n Q O;exact .inr ⟨e,by omega⟩};{exact .inl (f.ids.ro n R c)}};{intro n c;simp only[MV.ids,zbA,zS,qN]at c;obtain⟨a,g,c⟩:=c;rcases zDU b.toList _ l hcs a g with e|⟨x,y,J,e⟩;{obtain⟨k,X⟩:=qT.1 e;obtain⟨_,_,_,_,K⟩:=zu3 (E:=E) hle X;exact .inr ⟨(K n c).1,by have:=(K n c).2;omega⟩};{exact .inl ((zb0 f J).2 n (by simp only[MV.ids,zbA,qN];exact⟨a,e,c⟩))}}
   {cases h}
  {cases h}
 {cases h}
end
section
variable {C:Cfg} {w0 w w1:World} {S0:zX} {U:Nat->Prop} {st st1:St} {E E1:Env} {ts:Array Value} {sv:List (Array Value)}
theorem zY4 (t:Ty):t.width<=16:=by cases t<;>simp [Ty.width]
structure Laid (w:World) (st:St) (E:Env) (t:Ty) (l:List t.den) (ks:List Nat) (cells:Array Value):Prop where
 size:cells.size=l.length*t.width
 own:∀r∈ks,∃R,st.root r=some R/\R.own=true
 rows:∃V K,Rows true w t l cells 0 w.heap.size V K (fun x=>∃r∈ks,E.φ r x)
theorem zyB (hM:Mem w0 S0 st E w){t:Ty}{ev:Operand->Value}(a6:∀x y,st.opnd x=some (.v y)->VT w st E y (ev x)) :
 ∀(L:List (Nat×Operand)) (l:List t.den) (ks:List Nat) (l':List t.den) (J:List Nat) (cells:Array Value),rowParts st t L l ks=some (l',J)->Laid w st E t l ks cells->
  ∃b,Instr.fill (fun i=>some (i*t.width,t.width)) cells (L.map fun x=>(x.1,ev x.2))=some b/\l'.length=l.length/\Laid w st E t l' J b
 |[],l,ks,l',J,cells,h,X=>by simp only[rowParts,qC,jT]at h;obtain⟨rfl,rfl⟩:=h;exact⟨cells,rfl,rfl,X⟩
 |(i,x)::r,l,ks,l',J,cells,h,X=>by
  simp only[rowParts]at h;split at h
  .rename_i y hx;split at h
   .rename_i cs k2 hg;split at h
    .rename_i d hd;split at h
     .rename_i hcond;simp only[qD,q0,qM,jE,jN,decide_eq_false_iff_not]at hcond;obtain⟨a9,G⟩:=hcond;obtain⟨_,O⟩:=zrA _ _ _ _ _ hg;have a5:=zjz hd;have a4:cs.length=t.width:=(by rw[<- a5,zc9]);obtain⟨c1,c2⟩:=VT.cells (a6 x y hx) (ztx hx);have b4:(zS y).length=t.width:=(by rw[<- O.len,a4]);have W:(ev x).cells.size=t.width:=(by rw[c1,b4]);have a1:(i+1)*t.width<=l.length*t.width:=qS _ a9;rw[jL]at a1;have Z:i*t.width+t.width<=cells.size:=(by rw[X.size];exact a1);have hb:i*t.width+(ev x).cells.toList.length<=cells.toList.length:=(by simp[W];exact Z);obtain⟨V,K,Y⟩:=X.rows;have a0:∀r∈k2++ks,∃R,st.root r=some R/\R.own=true:=fun r hr=>(jJ.1 hr).elim (O.own r) (X.own r);have a2:∀j,j<t.width->∃a u,(zS y)[j]?=some a/\(ev x).cells[j]?=some u/\VA w st E a u:=by intro j M;have N:j<(zS y).length:=(by omega);have B:j<(ev x).cells.size:=(by omega);have e1:=qB N;have e2:(ev x).cells[j]?=some (ev x).cells[j]:=jH B;exact⟨_,_,e1,e2,(c2 j _ _ e1 e2).2⟩
      have g:∀j z,j<t.width->(match (zS y)[j]? with|some a=>aφ E a|none=>fun _=>False) z->∃a,(zS y)[j]?=some a/\∃r∈k2,a = .sl r []/\E.φ r z:=by
       intro j z M A;obtain⟨a,u,F,_,_⟩:=a2 j M;rw[F]at A;exact⟨a,F,O.fi F A⟩
      have a3:∀r∈k2++ks,∀z,E.φ r z->z<w.heap.size:=by intro r hr z A;obtain⟨R,Y,_⟩:=a0 r hr;exact hM.rlt r R Y z A
      have b0:Laid w st E t (l.set i d) (k2++ks) (splice cells.toList (i*t.width) (ev x).cells.toList).toArray:=by
       refine⟨by rw[j6,zhR _ _ _ hb];simpa using X.size,a0,?_⟩;refine⟨fun f j=>if f=i then ((ev x).cells[j]?).getD undef else V f j,fun f j=>if f=i then (match (zS y)[j]? with|some a=>aφ E a|none=>fun _=>False) else K f j,?_,?_,?_,?_⟩;{intro f j z hi M A;by_cases Q:f=i;{simp only [if_pos Q]at A;obtain⟨a,F,r,hr,_,U⟩:=g j z M A;have hm:r∈k2++ks:=j5 _ hr;exact⟨⟨r,hm,U⟩,fun _ e=>by have:=a3 r hm z U;omega⟩};{simp only [if_neg Q]at A;obtain⟨⟨r,hr,U⟩,B⟩:=Y.sub f j z (by simpa using hi) M A;exact⟨⟨r,kH _ hr,U⟩,B⟩}};{intro _ i1 j1 i2 j2 z a7 S a8 T n p;by_cases N:i1=i<;>by_cases B:i2=i;{simp only [if_pos N]at n;simp only[if_pos B]at p;obtain⟨a,F,r1,q,rfl,k⟩:=g j1 z S n;obtain⟨a,b1,r2,s,rfl,m⟩:=g j2 z T p;obtain⟨R1,C,H⟩:=O.own r1 q;obtain⟨R2,D,I⟩:=O.own r2 s;have:=hM.own_apart C H D I k m;subst this;exact⟨N.trans B.symm,O.inj j1 j2 r1 F b1⟩};{simp only [if_pos N]at n;simp only[if_neg B]at p;obtain⟨a,F,r1,q,_,k⟩:=g j1 z S n;obtain⟨⟨r2,s,m⟩,_⟩:=Y.sub i2 j2 z (by simpa using a8) T p;obtain⟨R1,C,H⟩:=O.own r1 q;obtain⟨R2,D,I⟩:=X.own r2 s;have:=hM.own_apart C H D I k m;subst this;exact absurd s (G r1 q)};{simp only [if_neg N]at n;simp only[if_pos B]at p;obtain⟨a,F,r1,q,_,k⟩:=g j2 z T p;obtain⟨⟨r2,s,m⟩,_⟩:=Y.sub i1 j1 z (by simpa using a7) S n;obtain⟨R1,C,H⟩:=O.own r1 q;obtain⟨R2,D,I⟩:=X.own r2 s;have:=hM.own_apart C H D I k m;subst this;exact absurd s (G r1 q)};{simp only [if_neg N]at n;simp only[if_neg B]at p;exact Y.dis rfl i1 j1 i2 j2 z (by simpa using a7) S (by simpa using a8) T n p}}
       .intro f j hi M;have b3:f<l.length:=(by simpa using hi);rw[jF];by_cases Q:f=i;{subst Q;simp only[if_true];rw[zej _ _ _ hb _ (by omega) (by simp[W];omega)];obtain⟨a,u,_,hu,_⟩:=a2 j M;rw[hu];have e:0+f*t.width+j-f*t.width=j:=(by omega);rw[e];simpa using hu}
        .simp only [if_neg Q];rw[zd8 _ _ _ hb _ (by
          simp only[kQ,W];rcases u3 f i with a3|b5
          .left
           have:(f+1)*t.width<=i*t.width:=qS _ a3;rw[jL] at this;omega
          .right
           have:(i+1)*t.width<=f*t.width:=qS _ (by omega)
           rw[jL] at this;omega)]
         simpa using Y.val f j b3 M
       {intro f z A j c P;by_cases Q:f=i;{subst Q;simp only[if_true];rw[q9]at A;simp only[if_true,if_pos a9]at A;cases A;rw[a5]at P;have M:j<t.width:=(by rw[<- a4];exact(qA.1 P).1);obtain⟨a,u,F,hu,b2⟩:=a2 j M;rw[F,hu];exact O.rep hM F P b2};{simp only [if_neg Q];rw[q9,if_neg (fun e=>Q e.symm)]at A;exact Y.con f z A j c P}}
      obtain⟨b,N,B,h3⟩:=zyB hM a6 r (l.set i d) (k2++ks) l' J _ h b0;refine⟨b,?_,by rw[B];simp,h3⟩;simp only[jB];rw[zQ6 (place:=fun i=>some (i*t.width,t.width)) rfl W Z];exact N
     {cases h}
    {cases h}
   {cases h}
  {cases h}
structure LaidZ (w:World) (st:St) (E:Env) (t:Ty) (l:List t.den) (ks:List Nat) (cells:Array Value):Prop where
 size:cells.size=l.length*t.width
 own:∀r∈ks,∃R,st.root r=some R/\R.own=true
 rows:∃V K,Rows false w t l cells 0 w.heap.size V K (fun x=>∃r∈ks,E.φ r x)
structure LaidV (w:World) (st:St) (E:Env) (t:Ty) (l:List t.den) (cells:Array Value):Prop where
 size:cells.size=l.length*t.width
 rows:∃V K,Rows false w t l cells 0 w.heap.size V K (fun x=>∃r R,st.root r=some R/\E.φ r x)
theorem zMW {P:Program}{w:World}(t e:TypeId)(len:Nat)(a:Array (Nat×Value))(cells:Array Value)(d:TypeInfo)(z:Value)(g:P.underlying t=some (.slice e))(f:P.info? e=some d)(j:d.zero=some z)(c:¬ len*d.size>2 ^ 24)(h:Instr.fill (fun i=>some (i*d.size,d.size)) (madeCells z.cells (len*d.size)) a.toList=some cells) :
 (Instr.buildSlice t len a).run P w = .ok (.slice (some ⟨w.heap.size,0,none⟩) len len) (w.alloc (.cells cells e)):=by
 by_cases b:len*d.size=0
 .rw [b]at h;have k:madeCells z.cells 0 = #[]:=by simp[madeCells,Array.range_zero']
  rw[k]at h;simp[Instr.buildSlice,run_underlying g,sizeOf,typeInfo,zeroValue,f,j,b,h,newRow,Array.range_zero']
 .exact run_buildSlice w t e len a cells d z g f j c b h
theorem zWv (hC:CfgOk C)(R:Sim w0 S0 U st E ts sv w){o:Oper}{id:Nat}(W:∀n,Mine id n->¬ U n){T:TypeId}{len:Nat}{g:Array (Nat×Operand)}{d:Dl}(ho:o.op = .buildSlice T len g)(h:delta C st o id=some d):Goes C w0 S0 U st ts sv w o id (fun st=>st.apply o.dst d):=by
 simp only[delta,ho]at h;split at h
 .rename_i t hT;split at h
  .rename_i l ks hr;split at h
   .rename_i hle;cases h;obtain⟨e,hE⟩:=hC.sty T t hT;obtain⟨i,z,F,hs,hz,a1,a2⟩:=hE.info;have G:=R.mem;have O:Laid w st E t (List.replicate len t.dflt) [] (madeCells z.cells (len*t.width)):=(by refine⟨by simp[size_madeCells],fun r hr=>by simp at hr,fun _ j=>((t.shape[j]?).map zeroV).getD undef,fun _ _ _=>False,fun _ _ _ _ _ h=>h.elim,fun _ _ _ _ _ _ _ _ _ _ h=>h.elim,fun i j F N=>?_,fun i x a j c b=>?_⟩;{obtain⟨c,h1,h2⟩:=zDX a1 (by simpa using F) N;rw[j4,h2,h1];rfl};{rw [kC]at a;split at a;{cases a;rw[zK7,qP]at b;cases J:t.shape[j]? with|none=>rw[J]at b;cases b|some ct=>rw[J]at b;cases b;exact zWs true _ ct _};{cases a}});obtain⟨cells,hf,Z,M⟩:=zyB G (ev:=({tmps:=ts,defers:=[]}:Act).eval) (fun x y a=>(zb0 R a).1) g.toList _ [] l ks _ hr O;have q:l.length=len:=(by rw[Z];simp);have s:¬ len*i.size>2 ^ 24:=(by rw[hs];have:=uR hle (zY4 t);omega);have A:=zMW (P:=C.P) (w:=w) T e len (g.map fun x=>(x.1,({tmps:=ts,defers:=[]}:Act).eval x.2)) cells i z hE.und F hz s (by rw[hs,uA];exact hf);obtain⟨V,K,D⟩:=M.rows;generalize m:w.alloc (.cells cells e)=w1 at A;have f:∀x,x<w.heap.size->w1.heap[x]?=w.heap[x]?:=fun x a=>(by rw[<- m];exact heap_alloc_old w _ x a);have a0:w1.heap.size=w.heap.size+1:=(by rw[<- m];simp);have I:∀k∈ks,∀x,E.φ k x->x<w.heap.size:=fun k B x a=>(by obtain⟨Q,H,_⟩:=M.own k B;exact G.rlt k Q H x a);refine zk8 R W (w1:=w1) (v:=.slice (some ⟨w.heap.size,0,none⟩) len len) (φn:=fun x=>(∃k∈ks,E.φ k x)\/x=w.heap.size) ?_ M.own (by rw[<- m];rfl) (by rw[<- m];rfl) (by rw[<- m];rfl) (by omega) (fun x a _=>f x a) ?_ ?_ ?_;{simp [execOp,ho,A]};{rintro x (a|rfl);{exact .inl a};{exact .inr ⟨qZ _,by omega⟩}}
    .have hcsz:cells.size=len*t.width:=by rw[M.size,q]
     have:=Rep.sl (o:=true) (w:=w1) t l w.heap.size 0 len cells e (0,0) V K (fun x=>(∃k∈ks,E.φ k x)\/x=w.heap.size) (by rw[<- m];exact heap_alloc_new w _) (fun _=>rfl) (by rw[q];simp only[big];omega) (by omega) (by omega) (.inr rfl)
      (fun i j x F N B=>⟨.inl (D.sub i j x F N B).1,(D.sub i j x F N B).2⟩) D.dis D.val
      (fun i x a j c b=>by
       have S:i<l.length:=(qA.1 a).1;have X:j<t.width:=by have:=(qA.1 b).1;rw[zc9] at this;exact this
       refine(D.con i x a j c b).frame (fun y hy=>?_);obtain⟨⟨k,B,Y⟩,_⟩:=D.sub i j y S X hy;exact f y (I k B y Y))
     rw[q] at this;exact this
    {intro k B Q H;have L:∀x,E.φ k x->w1.heap[x]?=w.heap[x]?:=fun x a=>f x (G.rlt k Q H x a);refine⟨((G.rep k Q H).frame L).ro,fun p u hp=>?_⟩;rw[zda p (G.rep k Q H) L];exact hp}
   {cases h}
  {cases h}
 {cases h}
end
def zdf (o:Bool)(w:World)(cvs:List CV)(xs:List Value)(K:Nat->zX):Prop :=
 xs.length=cvs.length/\∀(i:Nat) (c:CV) (x:Value),cvs[i]?=some c->xs[i]?=some x->Rep o w x c (K i)
def zob (f:FuncId):CV->Bool
 |.s t _=>zcE f t
 |_=>true
def ztp (o:CV->Bool)(w:World)(cvs:List CV)(xs:List Value)(K:Nat->zX):Prop :=
 xs.length=cvs.length/\∀(i:Nat) (c:CV) (x:Value),cvs[i]?=some c->xs[i]?=some x->Rep (o c) w x c (K i)
theorem zdf.o {o:CV->Bool}{w:World}{cvs:List CV}{xs:List Value}{K:Nat->zX}(h:zdf true w cvs xs K):ztp o w cvs xs K :=
 ⟨h.1,fun i c x a b=>by cases o c;exact(h.2 i c x a b).ro;exact h.2 i c x a b⟩
def zA (rs:List AV):List CV:=rs.flatMap AV.cvs
def zbQ:List AV->List Value->List Value
 |[],_=>[]
 |.one _::r,a=>a.headD undef::zbQ r (a.drop 1)
 |.agg b::r,a=>.agg (a.take b.length).toArray::zbQ r (a.drop b.length)
def zjb:List Value->Value
 |[x]=>x
 |l=>.tuple l.toArray
structure Grown (w w':World):Prop where
 os:w'.os=w.os
 tape:w'.tape=w.tape
 output:w'.output=w.output
 size:w.heap.size<=w'.heap.size
 keep:∀b,b<w.heap.size->w'.heap[b]?=w.heap[b]?
structure FnOk (P:Program) (f:FuncId):Prop where
 ok:∃fn b,P.funcs[f]?=some fn/\fn.body=some b/\(fn.name == "runtime.NumGoroutine")=false
structure Fresh (w w':World) (n:Nat) (K:Nat->zX):Prop where
 lt:∀i x,i<n->K i x->w.heap.size<=x/\x<w'.heap.size
 dis:∀i j x,i<n->j<n->K i x->K j x->i=j
structure FreshO (o:CV->Bool) (w w':World) (cvs:List CV) (K:Nat->zX):Prop where
 lt:∀i x,i<cvs.length->K i x->w.heap.size<=x/\x<w'.heap.size
 dis:∀i j c x,cvs[i]?=some c->o c=true->j<cvs.length->K i x->K j x->i=j
theorem Fresh.o {o:CV->Bool}{w w':World}{cvs:List CV}{K:Nat->zX}(h:Fresh w w' cvs.length K):FreshO o w w' cvs K :=
 ⟨h.lt,fun i j c x b _ d e a=>h.dis i j x (qA.1 b).1 d e a⟩
def Holds (P:Program)(f:FuncId)(d:List AV->Option (Bool×List AV)):Prop :=
 FnOk P f/\∀(w:World) (a:List AV) (e:List Value) (c:List AV),zdf false w (zA a) e (fun _ b=>b<w.heap.size)->d a=some (true,c)->
  Calls P f (zbQ a e).toArray w fun
   |.returned v,w'=>Grown w w'/\∃(g:List Value) (K:Nat->zX),ztp (zob f) w' (zA c) g K/\v=zjb (zbQ c g)/\FreshO (zob f) w w' (zA c) K
   |_,_=>False
def zTO (P:Program)(f:FuncId)(d:List AV->Option (Bool×List AV)):Prop :=
 FnOk P f/\∀(w:World) (a:List AV) (e:List Value) (c:List AV),zdf false w (zA a) e (fun _ b=>b<w.heap.size)->d a=some (true,c)->
  Calls P f (zbQ a e).toArray w fun
   |.returned v,w'=>Grown w w'/\∃(g:List Value),zdf true w' (zA c) g (fun _ _=>False)/\v=zjb ((zbQ a e).headD undef::zbQ c g)
   |_,_=>False
def zKN (P:Program)(f:FuncId)(a:CV->Int->Option (Bool×CV×Int)):Prop :=
 FnOk P f/\∀(w:World) (v:Value) (t:Ty) (l:List t.den) (k:Int) (S:zX) (d:CV) (e:Int),Rep true w v (.s t l) S->(∀x,S x->x<w.heap.size)->a (.s t l) k=some (true,d,e)->
  Calls P f #[v,.int .i64 k] w fun
   |.returned u,w'=>w'.os=w.os/\w'.tape=w.tape/\w'.output=w.output/\w.heap.size<=w'.heap.size/\(∀b,b<w.heap.size->¬ S b->w'.heap[b]?=w.heap[b]?)/\u = .int .i64 e/\
    ∃c:zX,Rep true w' v d c/\∀x,c x->(S x\/w.heap.size<=x)/\x<w'.heap.size
   |_,_=>False
section
variable {C:Cfg} {w0 w w1:World} {S0:zX} {U:Nat->Prop} {st st1:St} {E E1:Env} {ts:Array Value} {sv:List (Array Value)}
theorem zdf.append {o:Bool}{a c2:List CV}{x1 j:List Value}{K:Nat->zX}(b:zdf o w a x1 K)(g:zdf o w c2 j (fun i=>K (a.length+i))):zdf o w (a++c2) (x1++j) K:=by refine⟨by simp[b.1,g.1],fun i c x d f=>?_⟩;by_cases h:i<a.length;{rw [qV h]at d;rw[qV (by rw[b.1];exact h)]at f;exact b.2 i c x d f};{rw [qR (by omega)]at d;rw[qR (by rw[b.1];omega),b.1]at f;have:=g.2 _ c x d f;have e:a.length+(i-a.length)=i:=(by omega);simp only at this;rw[e] at this;exact this}
theorem zsV (s:Sim w0 S0 U st E ts sv w){a:At}{u:Value}{c:CV}(d:st.cvOf a=some c)(g:VA w st E a u):Rep false w u c (fun b=>b<w.heap.size)/\u.oneCell'=true:=by
 cases a with
 |i k n=>cases d;cases g;exact⟨.i _ _ _,rfl⟩
 |b x=>cases d;cases g;exact⟨.b _ _,rfl⟩
 |sl r p=>simp only[St.cvOf]at d;obtain⟨R,e,hg⟩:=zfo d;obtain⟨C,B,z,m,A,q,v⟩:=Rep.at p (s.mem.rep r R e) (g.2 R e);rw[hg]at m;cases m;exact⟨(q.weak (fun x y=>s.mem.rlt r R e x (v x y))).ro,q.one⟩
 |bad=>cases d
 |lp l h=>cases d
 |ep r p i h=>cases d
 |fn f j=>cases d
 |kp r J t=>cases d
theorem zzB (m:Sim w0 S0 U st E ts sv w):∀(l:List Operand) (avs:List AV),zco (fun x=>match st.opnd x with|some v=>st.avOf v|none=>none) l=some avs->
 ∃xs,zdf false w (zA avs) xs (fun _ b=>b<w.heap.size)/\l.map ({tmps:=ts,defers:=[]}:Act).eval=zbQ avs xs
 |[],avs,h=>by cases h;exact⟨[],⟨rfl,fun i c x h=>by simp[zA]at h⟩,rfl⟩
 |x::r,avs,h=>by simp only[zco]at h;split at h;{rename_i M d;split at h;{rename_i f L;cases h;obtain⟨xs,k,C⟩:=zzB m r f L;split at d;{rename_i O s;obtain⟨D,-⟩:=zb0 m s;unfold St.avOf at d;split at d;{rename_i a;split at d;{rename_i c I;cases d;obtain⟨H,N⟩:=zsV m I D;refine⟨({tmps:=ts,defers:=[]}:Act).eval x::xs,?_,by simp[zbQ,C]⟩;have e:zA (AV.one c::f)=[c]++zA f:=(by simp[zA,AV.cvs]);rw[e];refine zdf.append (x1:=[({tmps:=ts,defers:=[]}:Act).eval x]) ⟨rfl,fun i G u g n=>?_⟩ k;cases i with|zero=>simp at g n;subst g n;exact H|succ i=>simp at g};{cases d}};{rename_i l;split at d;{rename_i p q;cases d;obtain⟨F,y,t,z⟩:=D;obtain⟨B,J⟩:=zl8 q;have j:F.toList.length=p.length:=(by simp[t,B]);refine⟨F.toList++xs,?_,?_⟩;{have e:zA (AV.agg p::f)=p++zA f:=(by simp[zA,AV.cvs]);rw[e];refine zdf.append ⟨j,fun i G u g n=>?_⟩ k;have K:i<l.length:=(by rw[B];exact(qA.1 g).1);have A:=qB K;exact(zsV m (J i _ _ A g) (z i _ u A (by simpa using n)).2).1};{simp only [jB,zbQ,y,<- j,kN,kY,C,jR]}};{cases d}};{cases d}};{cases d}};{cases h}};{cases h}
def zyl (n:Nat):CV->At
 |.i k x=>.i k x
 |.b x=>.b x
 |.s _ _=>.sl n []
theorem zuf:∀(cs:List CV) (id k:Nat),(zgf cs id)[k]?=cs[k]?.map (zyl (id+k))
 |[],id,k=>by simp[zgf]
 |c::cs,id,k=>by have e:zgf (c::cs) id=zyl id c::zgf cs (id+1):=(by cases c<;>rfl);rw[e];cases k with|zero=>simp|succ k=>simp only[jP];rw[zuf cs (id+1) k];congr 2;omega
theorem zAj:∀(cs:List CV) (id:Nat),(zgf cs id).length=cs.length
 |[],_=>rfl
 |c::cs,id=>by cases c<;>simp [zgf,zAj cs (id+1)]
theorem zVP (own:Ty->Bool):∀(cs:List CV) (id n:Nat) (R:Root),zl (zJx own cs id) n=some R->id<=n/\∃t l,cs[n-id]?=some (.s t l)/\R=⟨t,l,own t,none⟩
 |[],_,_,_,h=>by cases h
 |c::cs,id,n,R,h=>by have a:zl (zJx own cs (id+1)) n=some R->id<=n/\∃t l,(c::cs)[n-id]?=some (.s t l)/\R=⟨t,l,own t,none⟩:=fun h=>(by obtain⟨j,t,l,f,g⟩:=zVP own cs (id+1) n R h;have e:n-id=(n-(id+1))+1:=(by omega);exact⟨by omega,t,l,by rw[e,jP];exact f,g⟩);cases c with|i k x=>exact a h|b x=>exact a h|s t l=>simp only[zJx,zl]at h;split at h;{rename_i d;simp only[qK]at d;subst d;cases h;exact⟨qZ _,t,l,by simp,rfl⟩};{exact a h}
theorem zeG (own:Ty->Bool):∀(rs:List AV) (id n:Nat) (R:Root),zl (zcN own rs id) n=some R->id<=n/\∃t l,(zA rs)[n-id]?=some (.s t l)/\R=⟨t,l,own t,none⟩
 |[],_,_,_,h=>by cases h
 |x::rs,id,n,R,h=>by have e:zA (x::rs)=x.cvs++zA rs:=(by simp[zA]);have h:zl (zJx own x.cvs id++zcN own rs (id+x.cvs.length)) n=some R:=h;rw[zbO]at h;rw[e];split at h;{rename_i Q f;cases h;obtain⟨c,t,l,a,b⟩:=zVP own x.cvs id n R f;refine⟨c,t,l,?_,b⟩;rw[qV (qA.1 a).1];exact a};{obtain⟨c,t,l,a,b⟩:=zeG own rs (id+x.cvs.length) n R h;refine⟨by omega,t,l,?_,b⟩;rw[qR (by omega)];have d:n-id-x.cvs.length=n-(id+x.cvs.length):=(by omega);rw[d];exact a}
theorem zge:∀(rs:List AV) (d:List Value) (id:Nat),d.length=(zA rs).length->(∀(i:Nat) (c:CV) (u:Value),(zA rs)[i]?=some c->d[i]?=some u->VA w st E (zyl (id+i) c) u/\u.oneCell'=true)->
 (zcK rs id).length=(zbQ rs d).length/\∀(k:Nat) (x:TV) (u:Value),(zcK rs id)[k]?=some x->(zbQ rs d)[k]?=some u->VT w st E x u
 |[],d,id,_,_=>⟨rfl,fun k x u h=>by simp[zcK]at h⟩
 |.one c::rs,d,id,n,l=>by
  have e:zA (AV.one c::rs)=c::zA rs:=by simp[zA,AV.cvs]
  rw[e]at n l;cases d with
  |nil=>simp at n
  |cons y d=>
   obtain⟨q,r⟩:=zge rs d (id+1) (by simpa using n) (fun i c u g b=>by
    have:=l (i+1) c u (by simpa using g) (by simpa using b)
    have e:id+(i+1)=id+1+i:=by omega
    rw[e] at this;exact this)
   refine⟨by simp[zcK,zbQ,q],fun k x u m b=>?_⟩;cases k with|zero=>simp only[zcK,zbQ,qH,qC,List.headD_cons]at m b;subst m b;have:=(l 0 c y (by simp) (by simp)).1;cases c<;>exact this|succ k=>exact r k x u (by simpa [zcK] using m) (by simpa [zbQ] using b)
 |.agg f::rs,d,id,n,l=>by
  have e:zA (AV.agg f::rs)=f++zA rs:=by simp[zA,AV.cvs]
  rw[e]at n l;rw[kA]at n;obtain⟨q,r⟩:=zge rs (d.drop f.length) (id+f.length) (by simp;omega) (fun i c u g b=>by
   have:=l (f.length+i) c u (by rw[qR (by omega)];simpa using g) (by rw[jQ]at b;exact b)
   have e:id+(f.length+i)=id+f.length+i:=by omega
   rw[e] at this;exact this)
  refine⟨by simp[zcK,zbQ,q],fun k x u m b=>?_⟩;cases k with|zero=>simp only[zcK,zbQ,qH,qC]at m b;subst m b;refine⟨_,rfl,by simp[zAj];omega,fun j a u p b=>?_⟩;rw[zuf]at p;(cases g:f[j]? with|none=>rw[g]at p;cases p|some c=>rw[g]at p;cases p;have s:j<f.length:=(qA.1 g).1;simp only[jF,jI,if_pos s]at b;have:=l j c u (by rw[qV s];exact g) b;exact⟨this.2,this.1⟩)|succ k=>exact r k x u (by simpa [zcK] using m) (by simpa [zbQ] using b)
theorem zpN {l:List TV}{us:List Value}(a:l.length=us.length)(b:∀(k:Nat) (x:TV) (u:Value),l[k]?=some x->us[k]?=some u->VT w st E x u):VM w st E (zhh l) (zjb us):=by
 match l,us,a,b with
 |[],[],_,_=>exact⟨#[],rfl,rfl,fun j x u h=>by simp at h⟩
 |[x],[u],_,b=>exact b 0 x u rfl rfl
 |x::y::l,u::v::us,a,b=>exact⟨_,rfl,by simpa using a.symm,fun j f e c d=>b j f e c (by simpa using d)⟩
 |[x],u::v::us,a,_=>simp at a
 |x::y::l,[u],a,_=>simp at a
 |[],u::us,a,_=>simp at a
 |x::l,[],a,_=>simp at a
theorem zAk {n m:Nat}{c:CV}(h:m∈(zyl n c).ids):m=n:=by cases c<;>simp [zyl,At.ids,zbo,zbq]at h;exact h
theorem zeH:∀(rs:List AV) (id m:Nat) (x:TV) (a:At),x∈zcK rs id->a∈zS x->m∈a.ids->id<=m/\m<id+(zA rs).length
 |[],_,_,_,_,h,_,_=>by simp[zcK]at h
 |.one c::rs,id,m,x,a,b,d,f=>by have e:(zA (AV.one c::rs)).length=1+(zA rs).length:=(by simp[zA,AV.cvs];omega);rw[e];simp only[zcK,qG]at b;rcases b with rfl|b;{simp only [zS,qF]at d;subst d;have:(zgf [c] id).headD .bad=zyl id c:=(by cases c<;>rfl);rw[this]at f;rw[zAk f];omega};{have:=zeH rs (id+1) m x a b d f;omega}
 |.agg g::rs,id,m,x,a,b,d,f=>by have e:(zA (AV.agg g::rs)).length=g.length+(zA rs).length:=(by simp[zA,AV.cvs]);rw[e];simp only[zcK,qG]at b;rcases b with rfl|b;{simp only [zS]at d;obtain⟨k,i⟩:=qT.1 d;rw[zuf]at i;cases j:g[k]? with|none=>rw[j]at i;cases i|some c=>rw[j]at i;cases i;have l:k<g.length:=(qA.1 j).1;rw[zAk f];omega};{have:=zeH rs (id+g.length) m x a b d f;omega}
theorem zpM {l:List TV}{a:At}(h:a∈zbA (zhh l)):∃x∈l,a∈zS x:=by
 match l,h with
 |[],h=>simp[zhh,zbA]at h
 |[x],h=>exact⟨x,by simp,h⟩
 |x::y::l,h=>simpa [zhh,zbA] using h
theorem s_call (A:Sim w0 S0 U st E ts sv w){o:Oper}{id:Nat}(a2:∀n,Mine id n->¬ U n){c:Call}{f:FuncId}{O:List AV->Option (Bool×List AV)}(ho:o.op = .call c)(a1:c.callee = .value (.func f))(hH:Holds C.P f O){avs rs:List AV}(B:zco (fun x=>match st.opnd x with|some v=>st.avOf v|none=>none) c.args.toList=some avs)(hr:O avs=some (true,rs))(a5:(zA rs).length<=31) :
 Goes C w0 S0 U st ts sv w o id (fun st=>st.apply o.dst {c:=true,v:=zhh (zcK rs id),ro:=zcN (zcE f) rs id}):=by
 intro next Q p;obtain⟨⟨fn,b,hf,hb,G⟩,hH⟩:=hH;obtain⟨xs,a4,j⟩:=zzB A c.args.toList avs B;have D:c.args.map ({tmps:=ts,defers:=[]}:Act).eval=(zbQ avs xs).toArray:=by rw[<- j,<- uA,jR]
 have F:(execOp ({tmps:=ts,defers:=[]}:Act).eval o).run C.P w = .ok (.enter f (zbQ avs xs).toArray) w:=by have q:fn.name≠ "runtime.NumGoroutine":=(by simpa using G);simp[execOp,ho,resolve,a1,Act.eval,Deferred.ofValue,invoke,callFunc,hf,hb,q,D]
 unfold Oper.wp;rw[F,Oper.upon_enter];refine(hH w avs xs rs a4 hr).mono ?_;intro e w' he;cases e with
 |panicked X=>exact he.elim
 |outgrown=>exact he.elim
 |returned v=>
  obtain⟨hg,V,K,z,rfl,L⟩:=he;have J:∀n,(id<=n/\n<id+31)->¬ U n:=fun n h=>a2 n ⟨h.1,by omega⟩
  obtain⟨hM,hT⟩:=A.mem.addRootsO A.ids.mem (dro:=zcN (zcE f) rs id) (w1:=w')
   (E1:={E with ρ:=fun n=>if id<=n/\n<id+31 then (V[n-id]?).getD undef else E.ρ n,φ:=fun n=>if id<=n/\n<id+31 then (fun x=>n-id<(zA rs).length/\K (n-id) x) else E.φ n})
   hg.os hg.tape hg.output hg.size hg.keep (fun r R hR=>by
    obtain⟨I,t,l,H,rfl⟩:=zeG (zcE f) rs id r R hR;have g:r-id<(zA rs).length:=(qA.1 H).1;have j:id<=r/\r<id+31:=⟨I,by omega⟩
    have hy:r-id<V.length:=by rw[z.1];exact g
    refine⟨J r j,rfl,?_,fun x y=>?_⟩
    .simp only [if_pos j,qB hy,jZ];exact(z.2 _ _ _ H (qB hy)).weak (fun x y=>⟨g,y⟩)
    .simp only [if_pos j]at y;exact L.lt _ x g y.2)
   (fun r R T R' I ho H a6 x y N=>by
    obtain⟨Y,t,l,S,rfl⟩:=zeG (zcE f) rs id r R I;obtain⟨Z,t',l',a0,rfl⟩:=zeG (zcE f) rs id T R' H;have g:r-id<(zA rs).length:=(qA.1 S).1;have M:T-id<(zA rs).length:=(qA.1 a0).1;have j:id<=r/\r<id+31:=⟨Y,by omega⟩
    have a3:id<=T/\T<id+31:=⟨Z,by omega⟩
    simp only[if_pos j]at y;simp only[if_pos a3]at N;have:=L.dis _ _ _ x S ho M y.2 N.2;omega)
   (fun n p=>by
    have j:¬ (id<=n/\n<id+31):=fun h=>J n h p;simp only[if_neg j];exact⟨trivial,trivial,trivial⟩)
  obtain⟨Y,S⟩:=zge (w:=w') (st:={st with ro:=zcN (zcE f) rs id++st.ro}) (E:={E with ρ:=fun n=>if id<=n/\n<id+31 then (V[n-id]?).getD undef else E.ρ n,φ:=fun n=>if id<=n/\n<id+31 then (fun x=>n-id<(zA rs).length/\K (n-id) x) else E.φ n})
   rs V id z.1 (fun i c u hc hu=>by
    have d:=z.2 i c u hc hu;refine⟨?_,d.one⟩;have g:i<(zA rs).length:=(qA.1 hc).1;cases c with
    |i k n=>exact d.int_inv
    |b x=>exact d.bool_inv
    |s t l=>
     obtain⟨⟨a,W,hv,_⟩,_⟩:=d.len;refine⟨⟨a,_,W,hv⟩,fun R hR=>?_⟩;have j:id<=id+i/\id+i<id+31:=⟨by omega,by omega⟩
     have e:id+i-id=i:=by omega
     simp only[zZ,if_pos j,e,hu,jZ])
  exact p _ _ _ (Sim.next A hM hT rfl rfl (fun n h=>.inl h) (fun n R h=>by
   simp only[zbO]at h;split at h
   .rename_i Q hQ;obtain⟨I,t,l,H,_⟩:=zeG (zcE f) rs id n Q hQ;have g:n-id<(zA rs).length:=(qA.1 H).1;exact .inr ⟨I,by omega⟩
   .exact .inl (A.ids.ro n R h))
   (fun n cs p=>⟨.inl (A.ids.lo n cs p).1,fun a B m j=>.inl ((A.ids.lo n cs p).2 a B m j)⟩) (zpN Y S) (fun n p=>by
    simp only[MV.ids,qN]at p;obtain⟨a,B,p⟩:=p;obtain⟨x,y,B⟩:=zpM B;have:=zeH rs id n x a y B p;exact .inr ⟨this.1,by omega⟩))
theorem zbbZ (j:Sim w0 S0 U st E ts sv w){o:Oper}{id:Nat}(a4:∀n,Mine id n->¬ U n){c:Call}{f:FuncId}{M:List AV->Option (Bool×List AV)}(ho:o.op = .call c)(Y:c.callee = .value (.func f))(V:zTO C.P f M){F:Operand}{xr:List Operand}(X:c.args.toList=F::xr){v0:TV}(h0:st.opnd F=some (.v v0)){avs rs:List AV}(p:zco (fun x=>match st.opnd x with|some v=>st.avOf v|none=>none) (F::xr)=some avs)(hr:M avs=some (true,rs))(a1:(zA rs).all CV.flat=true)(a5:(zA rs).length<=31) :
 Goes C w0 S0 U st ts sv w o id (fun st=>st.apply o.dst {c:=true,v:=zhh (v0::zcK rs id)}):=by
 intro next Q D;obtain⟨⟨fn,b,hf,hb,B⟩,V⟩:=V;obtain⟨S,a3,O⟩:=zzB j (F::xr) avs p;obtain⟨a2,H⟩:=zb0 j h0;have A:(zbQ avs S).headD undef=({tmps:=ts,defers:=[]}:Act).eval F:=by rw[<- O];rfl
 have q:c.args.map ({tmps:=ts,defers:=[]}:Act).eval=(zbQ avs S).toArray:=by rw[<- O,<- X,<- uA,jR]
 have y:(execOp ({tmps:=ts,defers:=[]}:Act).eval o).run C.P w = .ok (.enter f (zbQ avs S).toArray) w:=by have g:fn.name≠ "runtime.NumGoroutine":=(by simpa using B);simp[execOp,ho,resolve,Y,Act.eval,Deferred.ofValue,invoke,callFunc,hf,hb,g,q]
 unfold Oper.wp;rw[y,Oper.upon_enter];refine(V w avs S rs a3 hr).mono ?_;intro e w' Z;cases e with
 |panicked T=>exact Z.elim
 |outgrown=>exact Z.elim
 |returned v=>
  obtain⟨hg,ys,L,rfl⟩:=Z;rw[A];obtain⟨hM,hT⟩:=j.mem.addRoots j.ids.mem (dro:=[]) (w1:=w') (E1:=E) hg.os hg.tape hg.output hg.size hg.keep (fun r R W=>by cases W) (fun r R _ _ W=>by cases W) (fun _ _=>⟨rfl,rfl,rfl⟩)
  have z:∀(i:Nat) (c:CV),(zA rs)[i]?=some c->c.flat=true:=fun i c N=>qM.1 a1 c (qI N);obtain⟨g1,g2⟩:=zge (w:=w') (st:=st) (E:=E) rs ys id L.1 (fun i c u N K=>by
   have d:=L.2 i c u N K;refine⟨?_,d.one⟩;have a0:=z i c N;cases c with
   |i k n=>exact d.int_inv
   |b x=>exact d.bool_inv
   |s t l=>cases a0)
  exact D _ _ _ (Sim.next j (st1:=st) hM hT rfl rfl (fun n h=>.inl h) (fun n R h=>.inl (j.ids.ro n R h))
   (fun n cs D=>⟨.inl (j.ids.lo n cs D).1,fun a p m O=>.inl ((j.ids.lo n cs D).2 a p m O)⟩) (zpN (l:=v0::zcK rs id) (us:=({tmps:=ts,defers:=[]}:Act).eval F::zbQ rs ys) (by simp[g1]) (fun k x u hk K=>by
    cases k with
    |zero=>simp only[qH,qC]at hk K;subst hk K;exact VT.tr hT (fun a p n D=>H n (by simp only[MV.ids,zbA,qN];exact⟨a,p,D⟩)) a2
    |succ k=>exact g2 k x u (by simpa using hk) (by simpa using K))) (fun n I=>by
    simp only[MV.ids,qN]at I;obtain⟨a,p,J⟩:=I;obtain⟨x,hx,G⟩:=zpM p;rcases qG.1 hx with rfl|hx
    .exact .inl (H n (by simp only[MV.ids,zbA,qN];exact⟨a,G,J⟩))
    .have:=zeH rs id n x a hx G J;exact .inr ⟨this.1,by omega⟩))
end
section
variable {C:Cfg} {w0 w w1:World} {S0:zX} {U:Nat->Prop} {st st1:St} {E E1:Env} {ts:Array Value} {sv:List (Array Value)}
def Hit (i a n b j:Nat):Prop:=b=i/\a<=j/\j<a+n
theorem zH1 {t:Ty}{l b:List t.den}{i:Int}{a:Nat}{cvs:List CV}(h:setRow t l i a cvs=some b) :
 ∃d,t.cells d=splice (t.cells (ix l i t.dflt)) a cvs/\b=up l i d:=by
 unfold setRow at h;split at h
 .rename_i d hd;cases h;exact⟨d,zjz hd,rfl⟩
 .cases h
theorem Rep.setCells {t:Ty}{l l':List t.den}{b off cap:Nat}{arr:Array Value}{e':TypeId}{V:Nat->Nat->Value}{K:Nat->Nat->zX}{S:zX}{i:Int}{f:Nat}{cvs:List CV}{us:List Value}{Kn:Nat->zX}(a4:l.length<=big)(a3:l.length<=cap)(W:off+cap*t.width<=arr.size)(H:Rows true w t l arr off b V K S)(hi:i.toNat<l.length)(hl:us.length=cvs.length)(J:f+us.length<=t.width)(P:setRow t l i f cvs=some l')(U:w1.heap[b]?=some (.cells (splice arr.toList (off+i.toNat*t.width+f) us).toArray e' (0,0)))(X:∀(k:Nat) (c:CV) (u:Value),cvs[k]?=some c->us[k]?=some u->Rep true w1 u c (Kn k))(B:∀a j,a<l.length->j<t.width->¬ Hit i.toNat f us.length a j->∀x,K a j x->w1.heap[x]?=w.heap[x]?)(R:∀k x,k<us.length->Kn k x->x≠b)(T:∀k k' x,k<us.length->k'<us.length->Kn k x->Kn k' x->k=k')(G:∀k x a j,k<us.length->Kn k x->a<l.length->j<t.width->¬ Hit i.toNat f us.length a j->¬ K a j x) :
 Rep true w1 (.slice (some ⟨b,off,none⟩) l.length cap) (.s t l') (fun x=>x=b\/(∃a j,a<l.length/\j<t.width/\¬ Hit i.toNat f us.length a j/\K a j x)\/∃k,k<us.length/\Kn k x):=by
 obtain⟨d,hd,rfl⟩:=zH1 P;have O:(i.toNat+1)*t.width<=cap*t.width:=qS _ (by omega)
 rw[jL]at O;have D:off+i.toNat*t.width+f+us.length<=arr.toList.length:=by simp;omega
 have I:f+cvs.length<=(t.cells (ix l i t.dflt)).length:=by rw[zc9,<- hl];exact J
 have z:(up l i d).length=l.length:=zf0 l i d;have a0:∀a j,Decidable (Hit i.toNat f us.length a j):=fun a j=>by unfold Hit;exact inferInstance
 have Q:=Rep.sl (o:=true) (w:=w1) t (up l i d) b off cap (splice arr.toList (off+i.toNat*t.width+f) us).toArray e' (0,0)
  (fun a j=>if Hit i.toNat f us.length a j then (us[j-f]?).getD undef else V a j) (fun a j=>if Hit i.toNat f us.length a j then Kn (j-f) else K a j)
  (fun x=>x=b\/(∃a j,a<l.length/\j<t.width/\¬ Hit i.toNat f us.length a j/\K a j x)\/∃k,k<us.length/\Kn k x)
  U (fun _=>rfl) (by omega) (by omega) (by rw[j6,zhR _ _ _ D];simpa using W) (.inl rfl)
  (fun a j x g F v=>by
   rw[z]at g
   by_cases m:Hit i.toNat f us.length a j
   .simp only [if_pos m]at v;obtain⟨_,C,h3⟩:=m;exact⟨.inr (.inr ⟨j-f,by omega,v⟩),fun _=>R _ x (by omega) v⟩
   .simp only [if_neg m]at v;exact⟨.inr (.inl ⟨a,j,g,F,m,v⟩),(H.sub a j x g F v).2⟩)
  (fun _ Y j1 Z j2 x A M C N n p=>by
   rw[z]at A C
   by_cases q:Hit i.toNat f us.length Y j1<;>by_cases r:Hit i.toNat f us.length Z j2
   .simp only [if_pos q]at n;simp only[if_pos r]at p;obtain⟨a1,b1,c1⟩:=q;obtain⟨a2,b2,c2⟩:=r;have:=T _ _ x (by omega) (by omega) n p
    exact⟨a1.trans a2.symm,by omega⟩
   .simp only [if_pos q]at n;simp only[if_neg r]at p;exact absurd p (G _ x Z j2 (by have:=q.2;omega) n C N r)
   .simp only [if_neg q]at n;simp only[if_pos r]at p;exact absurd n (G _ x Y j1 (by have:=r.2;omega) p A M q)
   .simp only [if_neg q]at n;simp only[if_neg r]at p;exact H.dis rfl Y j1 Z j2 x A M C N n p)
  (fun a j g F=>by
   rw[z]at g;rw[jF]
   by_cases m:Hit i.toNat f us.length a j
   .simp only [if_pos m];obtain⟨rfl,C,h3⟩:=m;rw[zej _ _ _ D _ (by omega) (by omega)]
    have e:off+i.toNat*t.width+j-(off+i.toNat*t.width+f)=j-f:=by omega
    rw[e,qB (by omega)]
    rfl
   .simp only [if_neg m];rw[zd8 _ _ _ D _ (by
     rcases Nat.lt_trichotomy a i.toNat with h|h|h
     .have:(a+1)*t.width<=i.toNat*t.width:=qS _ h;rw[jL] at this;omega
     .subst h
      by_cases L:j<f
      .omega
      .have:¬ j<f+us.length:=fun E=>m ⟨rfl,by omega,E⟩
       omega
     .have:(i.toNat+1)*t.width<=a*t.width:=qS _ h;rw[jL] at this;omega)]
    simpa using H.val a j g F)
  (fun a x v j c y=>by
   have g:a<l.length:=by have:=(qA.1 v).1;rw[z] at this;exact this
   have F:j<t.width:=by have:=(qA.1 y).1;rw[zc9] at this;exact this
   rw[z9y g]at v
   by_cases m:Hit i.toNat f us.length a j
   .simp only [if_pos m];obtain⟨A,C,h3⟩:=m;rw[if_pos A.symm]at v;cases v;rw[hd,zej _ _ _ I j C (by omega)]at y
    have hk:j-f<us.length:=by omega
    rw[qB hk];exact X _ c _ y (qB hk)
   .simp only [if_neg m];split at v
    .rename_i A;cases v;rw[hd,zd8 _ _ _ I j (by
      by_cases L:j<f
      .exact .inl L
      .have:¬ j<f+us.length:=fun E=>m ⟨A.symm,by omega,E⟩
       right;omega)]at y
     rw[<- A]at g m ⊢;exact(H.con i.toNat _ (zld hi) j c y).frame (B i.toNat j hi F m)
    .exact(H.con a x v j c y).frame (B a j g F m))
 rw[z] at Q;exact Q
theorem znV {t:Ty}{l l':List t.den}{b off cap:Nat}{arr:Array Value}{e e':TypeId}{V:Nat->Nat->Value}{K:Nat->Nat->zX}{S:zX}{i:Int}{f:Nat}{cvs:List CV}{us:List Value}(M:l.length<=cap)(Z:off+cap*t.width<=arr.size)(z:Rows true w t l arr off b V K S)(L:w.heap[b]?=some (.cells arr e (0,0)))(hi:i.toNat<l.length)(W:us.length=cvs.length)(r:f+us.length<=t.width)(y:setRow t l i f cvs=some l')(B:w1.heap[b]?=some (.cells (splice arr.toList (off+i.toNat*t.width+f) us).toArray e' (0,0)))(O:∀a j,a<l.length->j<t.width->¬ Hit i.toNat f us.length a j->∀x,K a j x->w1.heap[x]?=w.heap[x]?)(q:List (Int×Nat))(X:∀a j q',q=(a,j)::q'->∀(k:Nat) (c:CV),j=f+k->cvs[k]?=some c->c.flat=true\/(a.toNat=i.toNat->us[k]?=some (V i.toNat j)))(s:∀x,x≠b->w1.heap[x]?=w.heap[x]?){u:Value}(h:zZ w t (.slice (some ⟨b,off,none⟩) l.length cap) q=some u):zZ w1 t (.slice (some ⟨b,off,none⟩) l.length cap) q=some u:=by
 obtain⟨d,R,rfl⟩:=zH1 y;have v:(i.toNat+1)*t.width<=cap*t.width:=qS _ (by omega);rw[jL]at v;have n:off+i.toNat*t.width+f+us.length<=arr.toList.length:=(by simp;omega);have C:f+cvs.length<=(t.cells (ix l i t.dflt)).length:=by rw[zc9,<- W];exact r
 cases q with
 |nil=>exact h
 |cons ij q=>
  obtain⟨a,j⟩:=ij;simp only[zZ]at h ⊢;split at h
  .rename_i hi';rw[if_pos hi'];split at h
   .rename_i t' ht';have G:j<t.width:=by rw[<- zei];exact(qA.1 ht').1
    have m:w1.cell? ⟨b,off+a.toNat*t.width+j,none⟩=w.cell? ⟨b,off+a.toNat*t.width+j,none⟩:=by
     rw[cell_of_block L,cell_of_block B,jF];by_cases g:Hit i.toNat f us.length a.toNat j;{obtain⟨A,P,J⟩:=g;have U:j-f<cvs.length:=(by omega);have p:=qB U;rcases X a j q rfl (j-f) _ (by omega) p with N|H;{exfalso;have D:(t.cells d)[j]?=some cvs[j-f]:=(by rw[R,zej _ _ _ C j P (by omega)];exact p);have:=zJU D;rw[ht'] at this;have Y:=(Option.some.inj this).symm;obtain⟨l3,J⟩:=zk5 Y;rw[J]at N;cases N};{have H:=H A;rw[A,zej _ _ _ n _ (by omega) (by omega),z.val _ _ (by rw[<- A];exact hi'.2) G];have e:off+i.toNat*t.width+j-(off+i.toNat*t.width+f)=j-f:=(by omega);rw[e,H]}}
     .rw [zd8 _ _ _ n _ (by
       rcases Nat.lt_trichotomy a.toNat i.toNat with h|h|h
       .have:(a.toNat+1)*t.width<=i.toNat*t.width:=qS _ h;rw[jL] at this;omega
       .rw [h]
        by_cases T:j<f
        .omega
        .have:¬ j<f+us.length:=fun F=>g ⟨h,by omega,F⟩
         omega
       .have:(i.toNat+1)*t.width<=a.toNat*t.width:=qS _ h;rw[jL] at this;omega)]
      simp
    rw[m];rw[cell_of_block L,z.val _ _ hi'.2 G]at h ⊢;simp only at h ⊢;have I:l[a.toNat]?=some (l[a.toNat]'hi'.2):=qB hi'.2;obtain⟨c,Q,E⟩:=zAT (x:=l[a.toNat]'hi'.2) ht';obtain⟨l3,rfl⟩:=zk5 E;rw[zda q (z.con _ _ I j _ Q) (fun x I=>s x ((z.sub _ j x hi'.2 G I).2 rfl))];exact h
   {cases h}
  {cases h}
theorem zoq {P:Program}{T:TypeId}{c:Bool}{tys:List CTy}{b off:Nat}{arr:Array Value}{e:TypeId}{v:Value}(i:TypeOk P T c tys)(j:w.heap[b]?=some (.cells arr e (0,0)))(f:v.cells.size=tys.length)(h:off+tys.length<=arr.size)(g:∀u∈v.cells.toList,u.oneCell'=true) :
 (storeVar T ⟨b,off,none⟩ v).run P w = .ok () (w.setRow b (splice arr.toList off v.cells.toList).toArray):=by
 have a:=run_storeCells_at (P:=P) b off e v.cells.toList 0 arr w j (by simp[f];omega) g
 have d:(arr.toList.take (off+0)++v.cells.toList++arr.toList.drop (off+0+v.cells.toList.length))=splice arr.toList off v.cells.toList:=by simp[splice]
 rw[d]at a;simp[storeVar,zAw i,f,a]
theorem zLi {xs:List At}{cs:List CV}(b:Given st xs cs []){k:Nat}{c:CV}(h:cs[k]?=some c):c.flat=true:=by have d:k<xs.length:=(by rw[<- b.len];exact(qA.1 h).1);rcases b.get k _ (qB d) with⟨_,_,_,a⟩|⟨_,_,a⟩|⟨_,_,_,_,a,_⟩;{rw [h]at a;cases a;rfl};{rw [h]at a;cases a;rfl};{cases a}
theorem zs8 (p q:List (Int×Nat)):(∃a,q=p++a)\/¬ ∃a,q=p++a:=Classical.em _
theorem z1W (hC:CfgOk C)(D:Sim w0 S0 U st E ts sv w){o:Oper}{id:Nat}{T:TypeId}{a x:Operand}{a1:Bool}{tys:List CTy}{y:TV}{r:Nat}{p:List (Int×Nat)}{i:Int}{off:Nat}(ho:o.op = .store T a x)(hT:C.cty T=some (a1,tys))(d:st.opnd x=some (.v y))(ha:st.at a=some (.ep r p i off)){R:Root}(B:st.root r=some R){t:Ty}{l l':List t.den}(H:st.node r p=some (.s t l)){c:Bool}{cvs:List CV}(hg:st.give none (zS y) 0=some (c,cvs,[]))(O:R.own=true)(a9:(zS y).length=tys.length)(a7:off+tys.length<=t.width)(S:setRow t l i off cvs=some l'){m:List R.t.den}(b1:zpR R.t R.l p (.s t l')=some m){c':Bool} :
 Goes C w0 S0 U st ts sv w o id (fun s=>s.apply o.dst {c:=c',v:=.und,ro:=[(r,{R with l:=m})],bump:=true}):=by
 obtain⟨d2,d4⟩:=zb0 D d;obtain⟨c0,d3⟩:=zbG D ha;obtain⟨_,hG⟩:=zrA _ _ _ _ _ hg;obtain⟨Y,a5⟩:=VT.cells d2 (ztx d);obtain⟨b,o2,len,b6,t1,e1,e2,e3,e4,e5⟩:=c0.2 R B;have P:=D.mem.rep r R B;rw[O]at P;obtain⟨t',l0,S1,f1,f2,f3,f4,f5⟩:=Rep.focus p P e1;have c4:zgm R.t R.l p=some (.s t l):=by obtain⟨R',a2,c3⟩:=zfo H;rw[B]at a2;cases a2;exact c3
 rw[c4] at f1;cases f1;rw[e2] at f2;cases f2;have fw:=(f5 w l S1 (fun _ _ _=>rfl) (fun _ h _=>h) f3);obtain⟨_,_,_,_,b7⟩:=fw;generalize hv:({tmps:=ts,defers:=[]}:Act).eval x=v at *;cases f3 with
 |void _ _ _ ho=>cases ho
 |sl _ _ _ _ _ X e' fz V K _ hb c2 Z L b4 I g a6 d1 c1=>
 have a8:=c2 rfl;subst a8;have A:Rows true w t l X o2 b V K S1:=⟨g,a6,d1,c1⟩;have b5:v.cells.toList.length=cvs.length:=by rw[hG.len];simpa using Y
 have W:v.cells.size=tys.length:=by rw[Y,a9]
 have F:off+v.cells.toList.length<=t.width:=by simp[W];exact a7
 have b3:(i.toNat+1)*t.width<=b6*t.width:=qS _ (by omega)
 rw[jL]at b3;have b8:∀u∈v.cells.toList,u.oneCell'=true:=by intro u hu;obtain⟨j,M⟩:=qT.1 hu;have c7:j<(zS y).length:=(by rw[<- Y];have:=(qA.1 M).1;simpa using this);exact(a5 j _ u (qB c7) (by simpa using M)).1
 have Q:=zoq (w:=w) (off:=o2+i.toNat*t.width+off) (hC.cty T a1 tys hT) hb W (by omega) b8
 generalize z:w.setRow b (splice X.toList (o2+i.toNat*t.width+off) v.cells.toList).toArray=w1 at Q;have a4:w1.heap[b]?=some (.cells (splice X.toList (o2+i.toNat*t.width+off) v.cells.toList).toArray e' (0,0)):=by rw[<- z];exact setRow_heap w b _ _ e' _ hb
 have f:∀x,x≠b->w1.heap[x]?=w.heap[x]?:=fun x d=>by rw[<- z];exact setRow_other w b x _ d
 have N:∀J j,J<l.length->j<t.width->¬ Hit i.toNat off v.cells.toList.length J j->∀x,K J j x->w1.heap[x]?=w.heap[x]?:=fun J j G M _ x d=>f x ((g J j x G M d).2 rfl);have a0:=Rep.setCells (w:=w) (w1:=w1) (Kn:=fun _ _=>False) Z L b4 A e4 b5 F S a4 (fun k c u hc hu=>by
  have hk:k<(zS y).length:=by rw[<- hG.len];exact(qA.1 hc).1
  have a3:=qB hk;exact(hG.rep D.mem a3 hc (a5 k _ u a3 (by simpa using hu)).2).flat (zLi hG hc)) N (fun _ _ _ h=>h.elim) (fun _ _ _ _ _ h=>h.elim) (fun _ _ _ _ _ h=>h.elim)
 obtain⟨m',b0,d0,c5,c6⟩:=f5 w1 l' _ (fun x d c9=>f x (fun e=>c9 (e ▸ I))) (fun x d _=>by
  rcases d with rfl|⟨J,j,G,M,_,hk⟩|⟨_,_,h⟩
  .exact I
  .exact(g J j x G M hk).1
  .exact h.elim) a0
 rw[b1]at b0;cases b0;have b2:=d0.weak (S':=E.φ r) (fun x d=>by
  rcases d with⟨d,_⟩|rfl|⟨J,j,G,M,_,hk⟩|⟨_,_,h⟩
  .exact d
  .exact f4 _ I
  .exact f4 _ (g J j x G M hk).1
  .exact h.elim)
 obtain⟨hM,b9⟩:=D.mem.mut D.ids.mem B O (w1:=w1) (m:=m) (by rw[<- z];rfl) (by rw[<- z];rfl) (by rw[<- z];rfl) (by rw[<- z];simp) (fun x d=>f x (fun e=>d (e ▸ f4 b I))) b2 (fun q u hq=>by
  rcases zs8 p q with⟨q',rfl⟩|c8
  .rw [c6 q'];rw[b7 q']at hq;exact znV L b4 A hb e4 b5 F S a4 N q' (fun _ _ _ _ k c _ hc=>.inl (zLi hG hc)) f hq
  .exact c5 q u hq (fun q' he=>absurd ⟨q',he⟩ c8))
 refine zkr D (v:=undef) (mv:=.und) (n:=.skip) ?_ (.inr ⟨rfl,rfl⟩) hM b9 rfl rfl rfl (fun n R' H=>?_) (fun n cs H=>⟨.inl (D.ids.lo n cs H).1,fun a ha m hm=>.inl ((D.ids.lo n cs H).2 a ha m hm)⟩) rfl (fun n H=>by simp[MV.ids,zbA]at H)
 .simp [execOp,ho,Instr.storeAt,e5,Instr.sureAddr,hv,Q]
 .simp only [zl]at H;split at H
  .rename_i he;simp only[qK]at he;subst he;exact .inl (D.ids.ro _ R (zbw B).1)
  .exact .inl (D.ids.ro n R' H)
end
end
end Go.Proofs.YthdlghbibaoabaaGreat.E
