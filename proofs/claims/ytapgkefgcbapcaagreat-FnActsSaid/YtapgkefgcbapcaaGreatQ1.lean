/- What is proved here: a part of the proof of the claim. -/
import Derived.Test.YtapgkefgcbapcaaGreatRows
import Derived.Calls
import Derived.LoopN
import Derived.Laws.Sem
import Derived.Laws.Entries
import Derived.Laws.Slices
import Derived.Laws.Cells
import Derived.Laws.Tables
import Derived.Laws.Append
import Derived.Laws.CopyRow
import Derived.Laws.MakeOwn
import Derived.Laws.StructEq
import Derived.Laws.Small
import Derived.Laws.AppendOwn
import Derived.Great.BuildSlice
namespace Go.Proofs.YtapgkefgcbapcaaGreat.E
open Go
set_option linter.defProp false
set_option linter.constructorNameAsVariable false
set_option linter.unusedVariables false
set_option maxRecDepth 100000
set_option linter.unusedSimpArgs false
set_option linter.unusedSectionVars false
noncomputable section
abbrev LV:=Array Value
abbrev LI:=List Int
abbrev qA:=@List.getElem?_eq_some_iff
abbrev qB:=@List.getElem?_eq_getElem
abbrev qC:=@Option.some.injEq
abbrev qD:=@of_decide_eq_true
abbrev qE:=@Bool.and_eq_true
abbrev qF:=@List.mem_singleton
abbrev qG:=@List.mem_cons
abbrev qH:=@decide_eq_false
abbrev qI:=@List.getElem?_cons_zero
abbrev qJ:=@List.mem_of_getElem?
abbrev qK:=@beq_iff_eq
abbrev qL:=@decide_eq_true
abbrev qM:=@of_decide_eq_false
abbrev qN:=@List.not_mem_nil
abbrev qO:=@Array.getElem?_eq_some_iff
abbrev qP:=@List.all_eq_true
abbrev qQ:=@List.getElem?_map
abbrev qR:=@List.mem_flatMap
abbrev qS:=@Nat.mul_le_mul_right
abbrev qT:=@Nat.le_trans
abbrev qU:=@List.getElem?_append_right
abbrev qV:=@List.mem_iff_getElem?
abbrev qW:=@List.getElem?_append_left
abbrev qX:=@Nat.le_refl
abbrev qY:=@List.length_cons
abbrev qZ:=@List.mem_cons_of_mem
abbrev jA:=@decide_eq_true_eq
abbrev jB:=@Nat.lt_of_lt_of_le
abbrev jC:=@List.getElem?_set
abbrev jD:=@List.mem_or_eq_of_mem_set
abbrev jE:=@Bool.not_eq_true'
abbrev jF:=@List.append_nil
abbrev jG:=@List.map_cons
abbrev jH:=@List.mem_map
abbrev jI:=@List.getElem_mem
abbrev jJ:=@List.mem_cons_self
abbrev jK:=@List.mem_append
abbrev jL:=@List.getElem?_toArray
abbrev jM:=@Array.getElem?_eq_getElem
abbrev jN:=@List.contains_eq_mem
abbrev jO:=@Nat.succ_mul
abbrev jP:=@List.getElem?_take
abbrev jQ:=@Bool.not_true
abbrev jR:=@Bool.not_false
abbrev jS:=@List.getElem?_cons_succ
abbrev jT:=@Prod.mk.injEq
abbrev jU:=@Nat.lt_succ_self
abbrev jV:=@List.getElem?_drop
abbrev jW:=@List.nil_append
abbrev jX:=@Array.toArray_toList
abbrev jY:=@Nat.eq_of_beq_eq_true
abbrev jZ:=@Option.isNone_iff_eq_none
abbrev j6:=@Bool.or_eq_true
abbrev j7:=@Nat.zero_le
abbrev j8:=@List.mem_of_mem_take
abbrev j9:=@List.mem_append_left
abbrev kA:=@Nat.add_zero
abbrev kB:=@Nat.zero_add
abbrev kC:=@Option.getD_some
abbrev kD:=@List.size_toArray
abbrev kE:=@Array.getElem?_append_left
abbrev kF:=@List.cons_append
abbrev kG:=@List.flatMap_cons
abbrev kH:=@List.getElem?_replicate
abbrev kI:=@List.getD_eq_getElem?_getD
abbrev kJ:=@List.append_assoc
abbrev kK:=@List.mem_append_right
abbrev kL:=@List.length_append
abbrev kM:=@Array.getElem?_setIfInBounds
abbrev kN:=@Int.toNat_natCast
abbrev kO:=@Array.getElem?_append_right
abbrev kP:=@Array.length_toList
abbrev kQ:=@Int.le_refl
abbrev kR:=@List.mem_range
abbrev kS:=@Bool.false_eq_true
abbrev kT:=@List.drop_eq_getElem_cons
abbrev kU:=@List.take_left'
abbrev kV:=@Nat.beq_eq
abbrev kW:=@List.any_eq_false
abbrev kX:=@List.length_pos_iff
abbrev kY:=@Nat.add_mul
abbrev k5:=@Nat.sub_self
abbrev k6:=@Array.getElem?_toList
abbrev k7:=@List.length_nil
abbrev k8:=@List.isPrefixOf_iff_prefix
abbrev k9:=@List.all_cons
abbrev uA:=@List.mem_of_mem_drop
abbrev uB:=@Array.toList_map
abbrev uD:=@Nat.le_of_eq
abbrev uE:=@List.drop_left'
abbrev uF:=@List.mem_filterMap
abbrev uH:=@List.ext_getElem?
abbrev uI:=@Nat.mul_le_mul
abbrev uJ:=@List.any_eq_true
abbrev uK:=@Nat.le_add_right
abbrev uL:=@List.flatMap_nil
abbrev uM:=@Nat.add_assoc
abbrev uN:=@Bool.true_and
abbrev uO:=@Bool.or_false
abbrev uP:=@List.foldl_cons
abbrev uQ:=@List.length_map
abbrev uR:=@Array.append_assoc
abbrev uS:=@Nat.lt_or_ge
abbrev uT:=@Option.isSome_iff_exists
abbrev uU:=@List.length_eq_zero_iff
abbrev uW:=@Option.bind_eq_some_iff
abbrev uX:=@Int.eq_ofNat_of_zero_le
abbrev uY:=@Nat.le_succ_of_le
abbrev uZ:=@Array.getElem?_eq_none
abbrev u0:=@List.findIdx?_eq_some_iff_getElem
abbrev u1:=@Nat.mul_one
abbrev u2:=@List.sum_cons
abbrev u3:=@List.range'_succ
abbrev u4:=@List.length_filter_le
abbrev vA:=@List.set_getElem_self
abbrev vB:=@Array.getElem?_setIfInBounds_ne
abbrev vC:=@List.range_eq_range'
abbrev vD:=@Bool.or_eq_false_iff
abbrev vE:=@List.drop_zero
abbrev vF:=@List.mapM_cons
abbrev vG:=@Array.getElem?_map
abbrev vH:=@Bool.and_true
abbrev vI:=@Nat.blt_eq
abbrev vJ:=@List.countP_cons
abbrev vK:=@List.mem_reverse
abbrev vL:=@Nat.sub_zero
abbrev vM:=@forall_eq_or_imp
abbrev vN:=@List.length_take
abbrev vO:=@Int.le_of_lt
structure k0 where
 af:Int
 an:Int
structure Ins where
 Op:Int
 X:Int
structure Ctl where
 aq:Int
 Post:Int
 Open:Bool
structure aD where
 Kind:Int
 af:Int
 Write:Bool
 N:Int
structure au where
 Tag:Int
 af:Int
 ad:Int
 an:Int
structure r0 where
 Kind:Int
 M:Int
 G:Int
 X:Int
 Y:Int
 Z:Int
structure aE where
 Ok:Bool
 N:Int
structure aA where
 ay:List Bool
 az:List k0
structure ah where
 aw:List Ins
 A:Int
 Pc:Int
 ar:List k0
 ax:List k0
 Ctl:Ctl
 aj:Int
 Exit:aD
 aF:Bool
 aC:List Int
structure ai where
 ag:List (List Int)
 ac:List ah
 Outs:List Int
 aj:Int
structure Mon where
 ae:List k0
 Out:List (List Int)
 av:List Bool
 ac:List ah
 Outs:List Int
 aj:Int
 aq:Int
 ak:List aA
 Own:Int
structure ad where
 ag:List (List Int)
 aa:List Mon
 ao:List au
 am:List au
section
variable {α:Type}
def ix (l:List α)(i:Int)(d:α):α:=l.getD i.toNat d
def up (l:List α)(i:Int)(x:α):List α:=l.set i.toNat x
def ln (l:List α):Int:=(l.length:Int)
def tk (l:List α)(n:Int):List α:=l.take n.toNat
def dp (l:List α)(n:Int):List α:=l.drop n.toNat
def rp (n:Int)(d:α):List α:=List.replicate n.toNat d
def ap (l m:List α):List α:=l++m
end
def zM (k:IntKind)(x y:Int):Int:=k.wrap (x+y)
def wsub (k:IntKind)(x y:Int):Int:=k.wrap (x-y)
def zm8 (k:IntKind)(x y:Int):Int:=k.wrap (x*y)
def z08 (k:IntKind)(x y:Int):Int:=k.wrap (x.tdiv y)
def zs6 (x y:Int):Int:=x.tmod y
def wand (k:IntKind)(x y:Int):Int:=k.wrap (BitVec.ofInt k.bits x &&& BitVec.ofInt k.bits y).toNat
def wor (k:IntKind)(x y:Int):Int:=k.wrap (BitVec.ofInt k.bits x ||| BitVec.ofInt k.bits y).toNat
def wxor (k:IntKind)(x y:Int):Int:=k.wrap (BitVec.ofInt k.bits x ^^^ BitVec.ofInt k.bits y).toNat
def zCg (k:IntKind)(x y:Int):Int:=k.wrap (BitVec.ofInt k.bits x &&& ~~~ BitVec.ofInt k.bits y).toNat
def zo8 (k:IntKind)(x y:Int):Int:=k.wrap (x*2 ^ (min y.toNat k.bits))
def zlU (k:IntKind)(x y:Int):Int:=x.fdiv (2 ^ (min y.toNat k.bits))
def wcv (k:IntKind)(x:Int):Int:=k.wrap x
def byteAt (s:ByteArray)(n:Int):Int:=match s[n.toNat]? with
 |some b=>(b.toNat:Int)
 |none=>0
def ieq (x y:Int):Bool:=x==y
def ine (x y:Int):Bool:=x != y
def ilt (x y:Int):Bool:=decide (x<y)
def ile (x y:Int):Bool:=decide (x<=y)
def igt (x y:Int):Bool:=decide (x>y)
def ige (x y:Int):Bool:=decide (x≥y)
def zhn (x y:Bool):Bool:=x==y
def zSb (a b:Int):Int:=if b<a then b else a
def imax (a b:Int):Int:=if b>a then b else a
def inb (i n:Int):Bool:=decide (0<=i/\i<n)
def inr (a b n:Int):Bool:=decide (0<=a/\a<=b/\b<=n)
def few (n:Int):Bool:=decide (0<=n/\n.toNat<=2147483648)
inductive Ty where
 |int|u8|bool|slot|ins|entry|act|told|kept|guest|bare|mon
 |sl (t:Ty)
 deriving DecidableEq
abbrev Ty.den:Ty->Type
 |.int=>Int
 |.u8=>Int
 |.bool=>Bool
 |.slot=>k0
 |.ins=>Ins
 |.entry=>au
 |.act=>r0
 |.told=>aE
 |.kept=>aA
 |.guest=>ah
 |.bare=>ai
 |.mon=>Mon
 |.sl t=>List t.den
inductive CV where
 |i (k:IntKind) (n:Int)
 |b (x:Bool)
 |s (t:Ty) (l:List t.den)
abbrev LC:=List CV
inductive CTy where
 |i (k:IntKind)
 |b
 |s (t:Ty)
 deriving DecidableEq
def CV.ty:CV->CTy
 |.i k _=>.i k
 |.b _=>.b
 |.s t _=>.s t
def Ty.shape:Ty->List CTy
 |.int=>[.i .i64]
 |.u8=>[.i .u8]
 |.bool=>[.b]
 |.slot=>[.i .i64,.i .i64]
 |.ins=>[.i .i64,.i .i64]
 |.entry=>[.i .i64,.i .i64,.i .i64,.i .i64]
 |.act=>[.i .i64,.i .i64,.i .i64,.i .i64,.i .i64,.i .i64]
 |.told=>[.b,.i .i64]
 |.kept=>[.s .bool,.s .slot]
 |.guest=>[.s .ins,.i .i64,.i .i64,.s .slot,.s .slot,.i .i64,.i .i64,.b,.i .i64,.i .i64,.i .i64,.b,.i .i64,.b,.s .int]
 |.bare=>[.s<|.sl .int,.s .guest,.s .int,.i .i64]
 |.mon=>[.s .slot,.s<|.sl .int,.s .bool,.s .guest,.s .int,.i .i64,.i .i64,.s .kept,.i .i64]
 |.sl t=>[.s t]
def Ty.wi:Ty->Nat
 |.int=>1
 |.u8=>1
 |.bool=>1
 |.slot=>2
 |.ins=>2
 |.entry=>4
 |.act=>6
 |.told=>2
 |.kept=>2
 |.guest=>15
 |.bare=>4
 |.mon=>9
 |.sl _=>1
def Ty.dflt:(t:Ty)->t.den
 |.int=>(0:Int)
 |.u8=>(0:Int)
 |.bool=>false
 |.slot=>⟨0,0⟩
 |.ins=>⟨0,0⟩
 |.entry=>⟨0,0,0,0⟩
 |.act=>⟨0,0,0,0,0,0⟩
 |.told=>⟨false,0⟩
 |.kept=>⟨[],[]⟩
 |.guest=>⟨[],0,0,[],[],⟨0,0,false⟩,0,⟨0,0,false,0⟩,false,[]⟩
 |.bare=>⟨[],[],[],0⟩
 |.mon=>⟨[],[],[],[],[],0,0,[],0⟩
 |.sl _=>[]
abbrev zi:=Ty.dflt .mon
abbrev zA:=Ty.dflt .guest
abbrev zec:=Ty.dflt .kept
abbrev zX:=Ty.dflt .slot
abbrev zfW:=Ty.dflt .entry
abbrev zsx:=Ty.dflt .ins
abbrev zdf:=Ty.dflt .bare
abbrev zbfR:=Ty.dflt .act
abbrev zbfS:=Ty.dflt .int
abbrev zbfe:=Ty.dflt .bool
def Ty.cells:(t:Ty)->t.den->LC
 |.int,x=>[.i .i64 x]
 |.u8,x=>[.i .u8 x]
 |.bool,x=>[.b x]
 |.slot,x=>[.i .i64 x.af,.i .i64 x.an]
 |.ins,x=>[.i .i64 x.Op,.i .i64 x.X]
 |.entry,x=>[.i .i64 x.Tag,.i .i64 x.af,.i .i64 x.ad,.i .i64 x.an]
 |.act,x=>[.i .i64 x.Kind,.i .i64 x.M,.i .i64 x.G,.i .i64 x.X,.i .i64 x.Y,.i .i64 x.Z]
 |.told,x=>[.b x.Ok,.i .i64 x.N]
 |.kept,x=>[.s .bool x.ay,.s .slot x.az]
 |.guest,x=>[.s .ins x.aw,.i .i64 x.A,.i .i64 x.Pc,.s .slot x.ar,.s .slot x.ax,.i .i64 x.Ctl.aq,.i .i64 x.Ctl.Post,.b x.Ctl.Open,.i .i64 x.aj,.i .i64 x.Exit.Kind,.i .i64 x.Exit.af,.b x.Exit.Write,.i .i64 x.Exit.N,.b x.aF,.s .int x.aC]
 |.bare,x=>[.s (.sl .int) x.ag,.s .guest x.ac,.s .int x.Outs,.i .i64 x.aj]
 |.mon,x=>[.s .slot x.ae,.s (.sl .int) x.Out,.s .bool x.av,.s .guest x.ac,.s .int x.Outs,.i .i64 x.aj,.i .i64 x.aq,.s .kept x.ak,.i .i64 x.Own]
 |.sl t,x=>[.s t x]
def Ty.ofCells:(t:Ty)->LC->Option t.den
 |.int,l=>match l with
  |[.i .i64 x]=>some x
  |_=>none
 |.u8,l=>match l with
  |[.i .u8 x]=>some x
  |_=>none
 |.bool,l=>match l with
  |[.b x]=>some x
  |_=>none
 |.slot,l=>match l with
  |[.i .i64 a,.i .i64 b]=>some ⟨a,b⟩
  |_=>none
 |.ins,l=>match l with
  |[.i .i64 a,.i .i64 b]=>some ⟨a,b⟩
  |_=>none
 |.entry,l=>match l with
  |[.i .i64 a,.i .i64 b,.i .i64 c,.i .i64 d]=>some ⟨a,b,c,d⟩
  |_=>none
 |.act,l=>match l with
  |[.i .i64 a,.i .i64 b,.i .i64 c,.i .i64 d,.i .i64 e,.i .i64 f]=>some ⟨a,b,c,d,e,f⟩
  |_=>none
 |.told,l=>match l with
  |[.b a,.i .i64 b]=>some ⟨a,b⟩
  |_=>none
 |.kept,l=>match l with
  |[.s .bool a,.s .slot b]=>some ⟨a,b⟩
  |_=>none
 |.guest,l=>match l with
  |[.s .ins a,.i .i64 b,.i .i64 c,.s .slot d,.s .slot e,.i .i64 m,.i .i64 n,.b p,.i .i64 g,.i .i64 q,.i .i64 r,.b u,.i .i64 v,.b j,.s .int k]=>some ⟨a,b,c,d,e,⟨m,n,p⟩,g,⟨q,r,u,v⟩,j,k⟩
  |_=>none
 |.bare,l=>match l with
  |[.s (.sl .int) a,.s .guest b,.s .int c,.i .i64 d]=>some ⟨a,b,c,d⟩
  |_=>none
 |.mon,l=>match l with
  |[.s .slot a,.s (.sl .int) b,.s .bool c,.s .guest d,.s .int e,.i .i64 f,.i .i64 g,.s .kept h,.i .i64 i]=>some ⟨a,b,c,d,e,f,g,h,i⟩
  |_=>none
 |.sl t,l=>match l with
  |[.s w x]=>if h:w=t then some (h ▸ x) else none
  |_=>none
inductive At where
 |bad
 |i (k:IntKind) (n:Int)
 |b (x:Bool)
 |sl (r:Nat) (p:List (Int×Nat))
 |lp (l off:Nat)
 |ep (r:Nat) (p:List (Int×Nat)) (i:Int) (off:Nat)
 |fn (f:Nat) (caps:List Nat)
 |kp (r:Nat) (J:List (List Nat)) (t:Ty)
inductive TV where
 |at (a:At)
 |agg (l:List At)
inductive MV where
 |und
 |v (x:TV)
 |tup (l:List TV)
structure Root where
 t:Ty
 l:List t.den
 own:Bool
 ep:Option Nat
structure St where
 tm:List MV
 lo:List (Nat×List At)
 ro:List (Nat×Root)
 stk:List (List MV)
 nid:Nat
 ep:Nat
inductive AV where
 |one (c:CV)
 |agg (l:List CV)
abbrev LA:=List AV
abbrev LW:=List AV->Option (Bool×List AV)
structure Cfg where
 P:Program
 sty:TypeId->Option Ty
 cty:TypeId->Option (Bool×List CTy)
 fof:TypeId->Nat->Option (Nat×Nat)
 eqt:TypeId->Bool
 ctr:FuncId->Option (List AV->Option (Bool×List AV))
 mct:FuncId->Option (CV->Int->Option (Bool×CV×Int))
 pct:FuncId->Option (List Bool×(List CV->List AV->Option (Bool×List CV×List AV)))
 tct:FuncId->Option (List Bool×Option (Nat×Nat×List (List Nat))×(List AV->Option (Bool×List AV)))
def zy {a:Type}:List (Nat×a)->Nat->Option a
 |[],_=>none
 |(k,v)::r,n=>if k==n then some v else zy r n
def ziZ:(t:Ty)->List t.den->List (Int×Nat)->Option CV
 |t,l,[]=>some (.s t l)
 |t,l,(i,j)::p=>
  match (t.cells<|ix l i t.dflt)[j]? with
  |some (.s b a)=>ziZ b a p
  |_=>none
def C0 {b:Type}(l:List b)(off:Nat)(a:List b):List b:=l.take off++a++l.drop (off+a.length)
def zsU:(t:Ty)->List t.den->List (Int×Nat)->CV->Option (List t.den)
 |t,_,[],a=>
  match a with
  |.s f c=>if h:f=t then some (h ▸ c) else none
  |_=>none
 |t,l,(i,j)::p,a=>
  match (t.cells<|ix l i t.dflt)[j]? with
  |some (.s b d) =>
   match zsU b d p a with
   |some e=>
    match t.ofCells (C0 (t.cells<|ix l i t.dflt) j [.s b e]) with
    |some x=>some (up l i x)
    |none=>none
   |none=>none
  |_=>none
def setRow (t:Ty)(l:List t.den)(i:Int)(j:Nat)(a:LC):Option (List t.den):=
 match t.ofCells (C0 (t.cells<|ix l i t.dflt) j a) with
 |some x=>some (up l i x)
 |none=>none
def zeroAt (id:Nat):CTy->At
 |.i k=>.i k 0
 |.b=>.b false
 |.s _=>.sl id []
def zeros:List CTy->Nat->List At
 |[],_=>[]
 |c::r,id=>zeroAt id c::zeros r (id+1)
def zdN (t:Ty)(l:List t.den):Root:=⟨t,l,true,none⟩
def zeroRoots:List CTy->Nat->List (Nat×Root)
 |[],_=>[]
 |.s t::r,id=>(id,zdN t [])::zeroRoots r (id+1)
 |_::r,id=>zeroRoots r (id+1)
def zuG (r:Nat)(p:List (Int×Nat))(i:Int):LC->Nat->List At
 |[],_=>[]
 |.i k n::cs,j=>.i k n::zuG r p i cs (j+1)
 |.b x::cs,j=>.b x::zuG r p i cs (j+1)
 |.s _ _::cs,j=>.sl r (p++[(i,j)])::zuG r p i cs (j+1)
def ziI:LC->Nat->List At
 |[],_=>[]
 |.i k n::cs,id=>.i k n::ziI cs (id+1)
 |.b x::cs,id=>.b x::ziI cs (id+1)
 |.s _ _::cs,id=>.sl id []::ziI cs (id+1)
def zLQ (own:Ty->Bool):LC->Nat->List (Nat×Root)
 |[],_=>[]
 |.s t l::cs,id=>(id,⟨t,l,own t,none⟩)::zLQ own cs (id+1)
 |_::cs,id=>zLQ own cs (id+1)
def AV.cvs:AV->LC
 |.one c=>[c]
 |.agg l=>l
def zdw:LA->Nat->List TV
 |[],_=>[]
 |.one c::r,id=>.at ((ziI [c] id).headD .bad)::zdw r (id+1)
 |.agg a::r,id=>.agg (ziI a id)::zdw r (id+a.length)
abbrev zwS:Ty->Bool:=λ_=>false
abbrev zpa:Ty->Bool:=λ_=>true
def zbeZ:List Nat:=[
 44,
 32,
 20,
 85,
 15,
 18,
 29,
 48,
 59,
 71,
 46,
 86,
 84,
 75,
 49,
 47,
 76,
 74,
 243,
 152,
 105,
 169,
 100000]
def zka (f:FuncId):Bool:=zbeZ.any λx=>Nat.beq x f
def zGI:Ty->Bool
 |.sl .int=>true
 |.bare=>true
 |_=>false
def zdj (f:FuncId)(t:Ty):Bool:=cond (zGI t) (!(zka f)) true
def zdy (own:Ty->Bool):LA->Nat->List (Nat×Root)
 |[],_=>[]
 |x::r,id=>zLQ own x.cvs id++zdy own r (id+x.cvs.length)
def zj9:List TV->MV
 |[x]=>.v x
 |l=>.tup l
def CV.flat:CV->Bool
 |.s _ _=>false
 |_=>true
structure Dl where
 c:Bool:=true
 v:MV
 lo:List (Nat×List At):=[]
 ro:List (Nat×Root):=[]
 bump:Bool:=false
def Dl.at (a:At):Dl:={v:=.v (.at a)}
def zNr:Value->Option At
 |.int k n=>some (.i k n)
 |.bool x=>some (.b x)
 |_=>none
def St.opnd (st:St):Operand->Option MV
 |.tmp t=>match st.tm[t]? with
  |some (.v<|.at .bad)=>none
  |x=>x
 |.const v=>match zNr v with
  |some a=>some (.v<|.at a)
  |none=>none
 |.func f=>some (.v<|.at<|.fn f [])
 |.global _=>none
def St.at (st:St)(x:Operand):Option At :=
 match st.opnd x with
 |some (.v<|.at a)=>some a
 |_=>none
def St.root (st:St)(r:Nat):Option Root :=
 match zy st.ro r with
 |some R=>match R.ep with
  |none=>some R
  |some e=>if e==st.ep then some R else none
 |none=>none
def St.node (st:St)(r:Nat)(p:List (Int×Nat)):Option CV :=
 match st.root r with
 |some R=>ziZ R.t R.l p
 |none=>none
def St.cvOf (st:St):At->Option CV
 |.i k n=>some (.i k n)
 |.b x=>some (.b x)
 |.sl r p=>st.node r p
 |_=>none
def zcR {c d:Type}(f:c->Option d):List c->Option (List d)
 |[]=>some []
 |a::r=>
  match f a with
  |some b=>match zcR f r with
   |some e=>some (b::e)
   |none=>none
  |none=>none
def St.avOf (st:St):MV->Option AV
 |.v (.at a)=>match st.cvOf a with
  |some c=>some (.one c)
  |none=>none
 |.v (.agg l)=>match zcR st.cvOf l with
  |some b=>some (.agg b)
  |none=>none
 |_=>none
def z4J (a:BinOp)(k:IntKind)(x y:Int):Option (Bool×At):=
 match a with
 |.add=>some (true,.i k<|zM k x y)
 |.sub=>some (true,.i k<|wsub k x y)
 |.mul=>some (true,.i k<|zm8 k x y)
 |.quo=>some (ine y 0,.i k<|z08 k x y)
 |.rem=>some (ine y 0,.i k<|zs6 x y)
 |.and=>some (true,.i k<|wand k x y)
 |.or=>some (true,.i k<|wor k x y)
 |.xor=>some (true,.i k<|wxor k x y)
 |.andNot=>some (true,.i k<|zCg k x y)
 |.eql=>some (true,.b<|ieq x y)
 |.neq=>some (true,.b<|ine x y)
 |.lss=>some (true,.b<|ilt x y)
 |.leq=>some (true,.b<|ile x y)
 |.gtr=>some (true,.b<|igt x y)
 |.geq=>some (true,.b<|ige x y)
 |_=>none
def shiftOp (a:BinOp)(k:IntKind)(x y:Int):Option (Bool×At):=
 match a with
 |.shl=>some (ile 0 y,.i k<|zo8 k x y)
 |.shr=>some (ile 0 y,.i k<|zlU k x y)
 |_=>none
def z3i:BinOp->Bool
 |.shl | .shr=>true
 |_=>false
def zXL:At->At->Option Bool
 |.i k x,.i a y=>if k=a then some (ieq x y) else none
 |.b x,.b y=>some (zhn x y)
 |_,_=>none
def zxx:List At->List At->Option Bool
 |[],[]=>some true
 |[a],[b]=>zXL a b
 |a::r,b::s=>
  match zXL a b,zxx r s with
  |some x,some y=>some (x&&y)
  |_,_=>none
 |_,_=>none
def zq0:At->Option CTy
 |.i k _=>some (.i k)
 |.b _=>some .b
 |_=>none
def zE7 (a:BinOp)(e:Bool):Option Dl :=
 match a with
 |.eql=>some (.at<|.b e)
 |.neq=>some (.at<|.b<|!e)
 |_=>none
def zZ:TV->List At
 |.at a=>[a]
 |.agg l=>l
def layParts (C:Cfg)(T:TypeId)(c:St):List (Nat×Operand)->List At->Option (List At)
 |[],b=>some b
 |(f,x)::r,b=>
  match C.fof T f,c.opnd x with
  |some (a,n),some (.v y)=>if (zZ y).length=n/\a+n<=b.length then layParts C T c r (C0 b a<|zZ y) else none
  |_,_=>none
def zqq:List (Int×Nat)->List (Int×Nat)->Option Bool
 |[],[]=>some true
 |(i,j)::p,(a,b)::q=>
  if j==b then match zqq p q with
   |some c=>some (ieq i a&&c)
   |none=>none
  else none
 |_,_=>none
def St.give (m:St)(d:Option (Nat×List (Int×Nat)×Int)):List At->Nat->Option (Bool×LC×List Nat)
 |[],_=>some (true,[],[])
 |a::r,j=>
  match m.give d r (j+1) with
  |none=>none
  |some (c,g,f) =>
   match a with
   |.i k n=>some (c,.i k n::g,f)
   |.b x=>some (c,.b x::g,f)
   |.sl r [] =>
    match m.root r with
    |some R=>if R.own && !f.contains r&&(match d with|some (h,_,_)=>!(r==h)|none=>true) then some (c,.s R.t R.l::g,r::f) else none
    |none=>none
   |.sl r q=>
    match d with
    |some (h,p,i) =>
     if r==h then
      match zqq q (p++[(i,j)]),m.node r q with
      |some e,some u=>some (c&&e,u::g,f)
      |_,_=>none
     else none
    |none=>none
   |_=>none
def moved (a:St):List Nat->List (Nat×Root)
 |[]=>[]
 |r::ks=>match zy a.ro r with
  |some R=>(r,{R with own:=false,ep:=some (a.ep+1)})::moved a ks
  |none=>moved a ks
def rowParts (c:St)(t:Ty):List (Nat×Operand)->List t.den->List Nat->Option (List t.den×List Nat)
 |[],l,b=>some (l,b)
 |(i,x)::r,l,b=>
  match c.opnd x with
  |some (.v y) =>
   match c.give none (zZ y) 0 with
   |some (true,e,a)=>match t.ofCells e with
    |some d=>if i<l.length&&a.all (λk=>!b.contains k) then rowParts c t r (l.set i d) (a++b) else none
    |none=>none
   |_=>none
  |_=>none
def Ty.flat (t:Ty):Bool:=t.shape.all λc=>match c with | .s _=>false|_=>true
def zto (R:Root):Root:=cond (R.ep.isNone && !R.t.flat) {R with own:=true} R
def St.own1 (a:St):St:={a with ro:=a.ro.map λx=>(x.1,zto x.2)}
def rowPartsZ (c:St)(t:Ty):List (Nat×Operand)->List t.den->List Nat->Option (List t.den×List Nat)
 |[],l,a=>some (l,a)
 |(i,x)::r,l,a=>
  match c.opnd x with
  |some (.v y) =>
   match c.own1.give none (zZ y) 0 with
   |some (true,e,b)=>match t.ofCells e with
    |some d=>if i<l.length then rowPartsZ c t r (l.set i d) (b++a) else none
    |none=>none
   |_=>none
  |_=>none
def zgw (a:St):List Nat->List (Nat×Root)
 |[]=>[]
 |r::ks=>match zy a.ro r with
  |some R=>(r,{R with own:=false})::zgw a ks
  |none=>zgw a ks
def zA6 (t:Ty):CV->CV->Option (List t.den)
 |.s c a,.s d b=>if h:c=t/\d=t then some (ap (h.1 ▸ a)<|h.2 ▸ b) else none
 |_,_=>none
def zf8 (a:St)(R:Root)(t:Ty)(l:List t.den):Root:=⟨t,l,false,if R.own then some a.ep else R.ep⟩
def zbeN:List Nat:=[
 391,
 100000]
def zxQ (C:Cfg):Bool:=zbeN.any λf=>(C.pct f).isSome
def zbeV:List Nat:=[
 100000]
def zwQ (C:Cfg):Bool:=zbeV.any λf=>(C.ctr f).isSome
def zQO (C:Cfg)(b:St)(id r:Nat)(p:List (Int×Nat))(R:Root)(t:Ty)(l:List t.den)(a:Int):Dl :=
 match R.own,p with
 |true,[]=>cond (zwQ C) {c:=inr a (ln l) (ln l),v:=.v (.at<|.sl id []),ro:=(id,⟨t,dp l a,false,none⟩)::zgw b [r]}
  {c:=inr a (ln l) (ln l),v:=.v (.at<|.sl id []),ro:=(id,zdN t<|dp l a)::moved b [r],bump:=true}
 |_,_=>{c:=inr a (ln l) (ln l),v:=.v (.at<|.sl id []),ro:=[(id,zf8 b R t<|dp l a)]}
def zKp (C:Cfg)(a:St)(id r:Nat)(p:List (Int×Nat))(R:Root)(t:Ty)(l:List t.den)(b:Int):Dl :=
 match R.own,p with
 |true,[]=>cond (zwQ C) {c:=inr 0 b (ln l),v:=.v (.at<|.sl id []),ro:=(id,⟨t,tk l b,false,none⟩)::zgw a [r]}
  (cond (zxQ C) {c:=inr 0 b (ln l),v:=.v (.at<|.sl id []),ro:=(id,zdN t<|tk l b)::moved a [r],bump:=true}
   {c:=inr 0 b (ln l),v:=.v (.at<|.sl id []),ro:=[(id,zf8 a R t<|tk l b)]})
 |_,_=>{c:=inr 0 b (ln l),v:=.v (.at<|.sl id []),ro:=[(id,zf8 a R t<|tk l b)]}
def z0 (C:Cfg)(st:St)(o:Oper)(id:Nat):Option Dl :=
 match o.op with
 |.move x | .assign x=>
  match x with
  |.const (.pointer none)=>some {v:=.v (.at .bad)}
  |.const (.slice none 0 0)=>match C.sty o.type with
   |some t=>some {v:=.v (.at<|.sl id []),ro:=[(id,zdN t [])]}
   |none=>none
  |x=>match st.opnd x with
   |some v=>some {v}
   |none=>none
 |.pick c a b=>
  match st.at c,st.opnd a,st.opnd b with
  |some (.b c),some (.v<|.at<|.b x),some (.v<|.at<|.b y)=>some (.at<|.b<|cond c x y)
  |some (.b true),some v,_=>some {v}
  |some (.b false),_,some v=>some {v}
  |_,_,_=>none
 |.alloc T=>
  match C.cty T with
  |some (_,g)=>if g.length<=31 then some {v:=.v (.at<|.lp (id+31) 0),lo:=[(id+31,zeros g id)],ro:=zeroRoots g id} else none
  |none=>none
 |.box _ x=>
  match st.opnd x with
  |some (.v y)=>some {v:=.v (.at<|.lp id 0),lo:=[(id,zZ y)]}
  |_=>none
 |.build T h=>
  match C.cty T with
  |some (true,g) =>
   match layParts C T st h.toList (zeros g id) with
   |some u=>if g.length<=31 then some {v:=.v (.agg u),ro:=zeroRoots g id} else none
   |none=>none
  |_=>none
 |.load T x=>
  match C.cty T,st.at x with
  |some (q,g),some (.lp l d) =>
   match zy st.lo l with
   |some u=>
    if q then (if d+g.length<=u.length then some {v:=.v (.agg<|(u.drop d).take g.length)} else none)
    else match u[d]? with
     |some a=>some (.at a)
     |none=>none
   |none=>none
  |some (q,g),some (.ep r p i d) =>
   match st.node r p with
   |some (.s t l) =>
    if q then (if d+g.length<=t.wi then some {v:=.v (.agg<|zuG r p i (((t.cells<|ix l i t.dflt).drop d).take g.length) d)} else none)
    else match zuG r p i (((t.cells<|ix l i t.dflt).drop d).take 1) d with
     |[a]=>some (.at a)
     |_=>none
   |_=>none
  |_,_=>none
 |.store T a x=>
  match C.cty T,st.opnd x,st.at a with
  |some (_,g),some (.v y),some (.lp l d) =>
   match zy st.lo l with
   |some u=>if (zZ y).length=g.length/\d+g.length<=u.length then some {v:=.und,lo:=[(l,C0 u d<|zZ y)]} else none
   |none=>none
  |some (_,g),some (.v y),some (.ep r p i d) =>
   match st.root r,st.node r p,st.give none (zZ y) 0 with
   |some R,some (.s t l),some (c,cvs,[]) =>
    if R.own&&(zZ y).length==g.length&&decide (d+g.length<=t.wi) then
     match setRow t l i d cvs with
     |some X=>match zsU R.t R.l p (.s t X) with
      |some m=>some {c,v:=.und,ro:=[(r,{R with l:=m})],bump:=true}
      |none=>none
     |none=>none
    else none
   |_,_,_=>none
  |some (_,[.s t]),none,some (.lp l d) =>
   match x with
   |.const (.slice none 0 0) =>
    match zy st.lo l with
    |some u=>if d+1<=u.length then some {v:=.und,lo:=[(l,C0 u d [.sl id []])],ro:=[(id,zdN t [])]} else none
    |none=>none
   |_=>none
  |_,_,_=>none
 |.nilCheck x=>
  match st.at x with
  |some (.lp l d)=>some (.at<|.lp l d)
  |some (.ep r p i d)=>some (.at<|.ep r p i d)
  |_=>none
 |.binOp z T x y _=>
  match st.opnd x,st.opnd y with
  |some (.v<|.at<|.i k a),some (.v<|.at<|.i W b) =>
   if z3i z then
    match shiftOp z k a b with
    |some (c,r)=>some {c,v:=.v (.at r)}
    |none=>none
   else if k=W then
    match z4J z k a b with
    |some (c,r)=>some {c,v:=.v (.at r)}
    |none=>none
   else none
  |some (.v<|.at<|.b a),some (.v<|.at<|.b b)=>if C.cty T=some (false,[.b]) then zE7 z (zhn a b) else none
  |some (.v<|.agg l),some (.v<|.agg m) =>
   match C.cty T,zxx l m with
   |some (true,g),some e=>if C.eqt T=true/\zcR zq0 l=some g/\zcR zq0 m=some g then zE7 z e else none
   |_,_=>none
  |_,_=>none
 |.unOp z _ x=>
  match z,st.at x with
  |.not,some (.b a)=>some (.at<|.b<|!a)
  |.neg,some (.i k n)=>some (.at<|.i k<|wsub k 0 n)
  |_,_=>none
 |.convert O K x=>
  match C.cty O,C.cty K,st.at x with
  |some _,some (false,[.i k]),some (.i _ n)=>some (.at<|.i k<|wcv k n)
  |_,_,_=>none
 |.makeFunc (.func f) first D=>
  match first.toList,zcR (λx=>match st.at x with|some (.lp l 0)=>some l|_=>none) D.toList with
  |[],some Y=>some (.at<|.fn f Y)
  |_,_=>none
 |.makeSlice T len I=>
  match C.sty T,st.at len,st.at I with
  |some t,some (.i .i64 n),some (.i .i64 m) =>
   some {c:=few n&&ieq n m,v:=.v (.at<|.sl id []),ro:=[(id,zdN t<|rp n t.dflt)]}
  |_,_,_=>none
 |.slice T x N E none=>
  match st.at x with
  |some (.sl r p) =>
   match st.root r,st.node r p with
   |some R,some (.s t l) =>
    if C.sty T=some t then
    match N,E with
    |none,none=>some {v:=.v (.at<|.sl id []),ro:=[(id,zf8 st R t l)]}
    |some lo,none=>match st.at lo with
     |some (.i .i64 a)=>some (zQO C st id r p R t l a)
     |_=>none
    |none,some L=>match st.at L with
     |some (.i .i64 b)=>some (zKp C st id r p R t l b)
     |_=>none
    |some lo,some L=>match st.at lo,st.at L with
     |some (.i .i64 a),some (.i .i64 b)=>some {c:=inr a b (ln l),v:=.v (.at<|.sl id []),ro:=[(id,zf8 st R t<|dp (tk l b) a)]}
     |_,_=>none
    else none
   |_,_=>none
  |_=>none
 |.fieldAddr T x f=>
  match C.fof T f,st.at x with
  |some (o,_),some (.lp l d)=>some (.at<|.lp l<|d+o)
  |some (o,_),some (.ep r p i d)=>some (.at<|.ep r p i<|d+o)
  |_,_=>none
 |.field T x f=>
  match C.P.underlying T with
  |some (.struct V) =>
   match V[f]? with
   |some F=>
    match C.cty F.type,st.opnd x with
    |some (q,g),some (.v<|.agg l) =>
     if F.offset+g.length<=l.length then
      match q with
      |true=>some {v:=.v (.agg<|(l.drop F.offset).take g.length)}
      |false=>match l[F.offset]? with
       |some a=>some (.at a)
       |none=>none
     else none
    |_,_=>none
   |none=>none
  |_=>none
 |.index T (.const<|.string s) i=>
  match C.P.underlying T,st.at i with
  |some .string,some (.i _ n)=>some {c:=inb n s.size,v:=.v (.at<|.i .u8<|byteAt s n)}
  |_,_=>none
 |.indexAddr T x i=>
  match st.at x,st.at i with
  |some (.sl r p),some (.i .i64 n) =>
   match st.node r p with
   |some (.s t l)=>if C.sty T=some t then some {c:=inb n (ln l),v:=.v (.at<|.ep r p n 0)} else none
   |_=>none
  |_,_=>none
 |.extract x j=>
  match st.opnd x with
  |some (.tup l)=>match l[j]? with
   |some y=>some {v:=.v y}
   |none=>none
  |_=>none
 |.call c=>
  match c.callee with
  |.builtin .len=>
   match c.args.toList,c.argTypes.toList with
   |[x],[T]=>match st.at x with
    |some (.sl r p)=>match st.node r p with
     |some (.s t l)=>if C.sty T=some t then some (.at<|.i .i64<|ln l) else none
     |_=>none
    |_=>none
   |_,_=>none
  |.builtin .min=>
   match c.args.toList with
   |[x,y]=>match st.at x,st.at y with
    |some (.i .i64 a),some (.i .i64 b)=>some (.at<|.i .i64<|zSb a b)
    |_,_=>none
   |_=>none
  |.builtin .max=>
   match c.args.toList with
   |[x,y]=>match st.at x,st.at y with
    |some (.i .i64 a),some (.i .i64 b)=>some (.at<|.i .i64<|imax a b)
    |_,_=>none
   |_=>none
  |.builtin .append=>
   match c.args.toList,c.argTypes.toList with
   |[x,y],[T,U] =>
    if U=T then
    match C.sty T,st.at x,st.at y with
    |some t,some (.sl r []),some (.sl G Q) =>
     match st.root r,st.root G,st.node G Q with
     |some R,some H,some J=>
      if R.own&&(t.flat||Q.isEmpty && !(r==G)&&H.own) then
       match zA6 t (.s R.t R.l) J with
       |some m=>some {c:=few (ln m),v:=.v (.at<|.sl id []),ro:=(id,⟨t,m,t.flat||H.own,none⟩)::cond (t.flat || !H.own) (moved st [r]) (moved st [r,G]),bump:=true}
       |none=>none
      else none
     |_,_,_=>none
    |_,_,_=>none
    else none
   |_,_=>none
  |.value (.func f) =>
   match C.ctr f with
   |some B=>
    match zcR (λx=>match st.opnd x with|some v=>st.avOf v|none=>none) c.args.toList with
    |some w=>match B w with
     |some (c,A)=>if (A.flatMap AV.cvs).length<=31 then some {c,v:=zj9 (zdw A id),ro:=zdy (zdj f) A id} else none
     |none=>none
    |none=>none
   |none=>
    match C.tct f,c.args.toList with
    |some ([],_,B),S::xr=>
     match st.opnd S,zcR (λx=>match st.opnd x with|some v=>st.avOf v|none=>none) (S::xr) with
     |some (.v Z),some w=>match B w with
      |some (c,A)=>if (A.flatMap AV.cvs).all CV.flat&&decide ((A.flatMap AV.cvs).length<=31) then some {c,v:=zj9 (Z::zdw A id)} else none
      |none=>none
     |_,_=>none
    |_,_=>none
  |_=>none
 |.buildSlice T len h=>
  match C.sty T with
  |some t=>match rowParts st t h.toList (List.replicate len t.dflt) [] with
   |some (l,M)=>if len<=65536 then some {v:=.v (.at<|.sl id []),ro:=(id,zdN t l)::moved st M,bump:=true} else none
   |none=>match rowPartsZ st t h.toList (List.replicate len t.dflt) [] with
    |some (l,M)=>if len<=65536 then some {v:=.v (.at<|.sl id []),ro:=(id,⟨t,l,false,none⟩)::zgw st M} else none
    |none=>none
  |none=>none
 |_=>none
def St.put (st:St)(dst:Option Tmp)(v:MV):St :=
 match dst with
 |some d=>{st with tm:=st.tm.set d v}
 |none=>st
def St.apply(st:St)(dst:Option Tmp)(d:Dl):St :=
 {st with lo:=d.lo++st.lo,ro:=d.ro++st.ro,ep:=if d.bump then st.ep+1 else st.ep}.put dst d.v
def cols (p:List (Int×Nat)):List Nat:=p.map (·.2)
def coarse (a J:List (List Nat)):Bool:=a.all λm=>J.any λc=>c.isPrefixOf m
def zdA (r:Nat)(js:List (List Nat)):At->At
 |.kp b J t=>cond (Nat.beq r b) (cond (coarse js J) (.kp b J t) .bad) (.kp b J t)
 |.sl b q=>if r==b&&js.any (λm=>m.isPrefixOf (cols q)) then .bad else .sl b q
 |.ep b q i o=>if r==b&&js.any (λm=>m.isPrefixOf (cols q)) then .bad else .ep b q i o
 |a=>a
def zoZ (r:Nat)(b:List (List Nat)):TV->TV
 |.at a=>.at (zdA r b a)
 |.agg l=>.agg (l.map<|zdA r b)
def zhD (r:Nat)(js:List (List Nat)):MV->MV
 |.und=>.und
 |.v x=>.v (zoZ r js x)
 |.tup l=>.tup (l.map<|zoZ r js)
def zlx:List At->LC->Nat->List Nat
 |.sl _ (_::_)::r,_::cs,j=>zlx r cs (j+1)
 |_::r,.s _ _::cs,j=>j::zlx r cs (j+1)
 |_::r,_::cs,j=>zlx r cs (j+1)
 |_,_,_=>[]
def zNG (C:Cfg)(b:St)(o:Oper):Option (Bool×St):=
 match o.op with
 |.store T a x=>
  match C.cty T,b.opnd x,b.at a with
  |some (_,e),some (.v y),some (.ep r p i d) =>
   match b.root r,b.node r p,b.give (some (r,p,i)) (zZ y) d with
   |some R,some (.s t l),some (c,cvs,h) =>
    if R.own&&(zZ y).length==e.length&&decide (d+e.length<=t.wi) then
     match setRow t l i d cvs with
     |some k=>match zsU R.t R.l p (.s t k) with
      |some m=>
       let g:=(zlx (zZ y) cvs d).map λj=>cols p++[j]
       some (c,
        {b with
         tm:=b.tm.map (zhD r g)
         stk:=b.stk.map λf=>f.map (zhD r g)
         lo:=b.lo.map λx=>(x.1,x.2.map<|zdA r g)
         ro:=(r,{R with l:=m})::(moved b h++b.ro)
         ep:=b.ep+1})
      |none=>none
     |none=>none
    else none
   |_,_,_=>none
  |_,_,_=>none
 |_=>none
def zj8 (a:St)(r:Nat)(R:Root)(m:List R.t.den)(js:List (List Nat)):St :=
 {a with
  tm:=a.tm.map (zhD r js)
  stk:=a.stk.map λf=>f.map (zhD r js)
  lo:=a.lo.map λx=>(x.1,x.2.map<|zdA r js)
  ro:=(r,{R with l:=m})::a.ro
  ep:=a.ep+1}
def zKx (C:Cfg)(c:St)(o:Oper):Option (Bool×St):=
 match o.op with
 |.store T a (.const<|.slice none 0 0) =>
  match C.cty T,c.at a with
  |some (_,[.s e]),some (.ep r p i b) =>
   match c.root r,c.node r p with
   |some R,some (.s t l) =>
    if R.own&&decide (b+1<=t.wi) then
     match setRow t l i b [.s e []] with
     |some d=>match zsU R.t R.l p (.s t d) with
      |some m=>some (true,zj8 c r R m [cols p++[b]])
      |none=>none
     |none=>none
    else none
   |_,_=>none
  |_,_=>none
 |_=>none
def graft (C:Cfg)(a:St)(o:Oper):Option (Bool×St):=
 match zNG C a o with
 |some x=>some x
 |none=>zKx C a o
def zXl (C:Cfg)(a:St)(o:Oper):Option (Bool×St×MV):=
 match o.op with
 |.call c=>
  match c.callee with
  |.value (.func f) =>
   match C.mct f,c.args.toList with
   |some b,[x,y] =>
    match a.at x,a.at y with
    |some (.sl r p),some (.i .i64 k) =>
     match a.root r,a.node r p with
     |some R,some (.s t l) =>
      match b (.s t l) k with
      |some (cc,.s d g,e) =>
       if R.own=true/\d=t then
        match zsU R.t R.l p (.s d g) with
        |some m=>some (cc,zj8 a r R m ((List.range t.wi).map λj=>cols p++[j]),.v<|.at<|.i .i64 e)
        |none=>none
       else none
      |_=>none
     |_,_=>none
    |_,_=>none
   |_,_=>none
  |_=>none
 |_=>none
def zby:At->List Nat
 |.sl r _=>[r]
 |.ep r _ _ _=>[r]
 |.kp r _ _=>[r]
 |_=>[]
def zbG:At->List Nat
 |.lp l _=>[l]
 |.fn _ a=>a
 |_=>[]
def zbL:MV->List At
 |.und=>[]
 |.v x=>zZ x
 |.tup l=>l.flatMap zZ
def St.blk (st:St):List Bool->List At->Option (LC×List Nat)
 |[],[]=>some ([],[])
 |own::ms,a::r=>
  match St.blk st ms r with
  |none=>none
  |some (d,c) =>
   match a with
   |.i k n=>some (.i k n::d,c)
   |.b x=>some (.b x::d,c)
   |.sl q [] =>
    match st.root q with
    |some R=>if R.own==own&&R.ep.isNone && !c.contains q then some (.s R.t R.l::d,cond own (q::c) c) else none
    |none=>none
   |_=>none
 |_,_=>none
def zq1:List Bool->List At->LC->Nat->Option (List At)
 |[],[],[],_=>some []
 |own::ms,a::r,c::cs,id=>
  match zq1 ms r cs (id+1) with
  |none=>none
  |some l=>
   match a,c with
   |.i k _,.i d n=>if k=d then some (.i k n::l) else none
   |.b _,.b x=>some (.b x::l)
   |.sl q [],.s _ _=>some (cond own (.sl id []::l) (.sl q []::l))
   |_,_=>none
 |_,_,_,_=>none
def zhE:List Bool->LC->Nat->List (Nat×Root)
 |own::ms,.s t l::cs,id=>cond own ((id,zdN t l)::zhE ms cs (id+1)) (zhE ms cs<|id+1)
 |_::ms,_::cs,id=>zhE ms cs (id+1)
 |_,_,_=>[]
def killed (st:St):List Nat->List (Nat×Root)
 |[]=>[]
 |r::ks=>match zy st.ro r with
  |some R=>(r,{R with own:=false,ep:=some st.ep})::killed st ks
  |none=>killed st ks
def zGr (c:St)(b:List Nat)(m:MV):Bool :=
 (zbL m).all λa=>(zby a).all λr=>!b.contains r&&(match c.root r with|some R=>R.ep.isNone|none=>false)
def St.avF (a:St)(b:List Nat)(m:MV):Option AV:=if zGr a b m then a.avOf m else none
def zXJ (a:St)(b:List Nat)(y:Operand):Option AV :=
 match a.opnd y with
 |some v=>a.avF b v
 |none=>none
def zZE (st:St)(h:Ty->Bool)(own:List Bool)(e:LC->LA->Option (Bool×LC×LA))(id:Nat):List Operand->Option (Bool×St×MV)
 |x::ys=>
  match st.at x with
  |some (.lp l 0) =>
   match zy st.lo l with
   |some cells=>
    match st.blk own cells with
    |some (g,f) =>
     match zcR (zXJ st f) ys with
     |some c=>
      match e g c with
      |some (cc,b,d) =>
       match zq1 own cells b id with
       |some a =>
        if cells.length<=12/\(d.flatMap AV.cvs).length<=16 then
         some (cc,{st with lo:=(l,a)::st.lo,ro:=zhE own b id++(zdy h d (id+12)++(killed st f++st.ro)),ep:=st.ep+1},zj9<|zdw d<|id+12)
        else none
       |none=>none
      |none=>none
     |none=>none
    |none=>none
   |none=>none
  |_=>none
 |_=>none
def zGL (C:Cfg)(st:St)(o:Oper)(id:Nat):Option (Bool×St×MV):=
 match o.op with
 |.call c=>
  match c.callee with
  |.value (.func f) =>
   match C.pct f with
   |some (own,a)=>zZE st (zdj f) own a id c.args.toList
   |none=>none
  |_=>none
 |_=>none
def zTi (d:St)(j:Ty->Bool)(own:List Bool)(g:LC->LA->Option (Bool×LC×LA))(id:Nat):List Operand->Option Dl
 |x::ys=>
  match d.at x with
  |some (.lp l 0) =>
   match zy d.lo l with
   |some cells=>
    match d.blk own cells with
    |some (i,h) =>
     match zcR (zXJ d h) ys with
     |some e=>
      match g i e with
      |some (cc,b,f) =>
       match zq1 own cells b id with
       |some a =>
        if cells.length<=12/\(f.flatMap AV.cvs).length<=16 then
         some {c:=cc,v:=zj9 (zdw f<|id+12),lo:=[(l,a)],ro:=zhE own b id++(zdy j f (id+12)++killed d h),bump:=true}
        else none
       |none=>none
      |none=>none
     |none=>none
    |none=>none
   |none=>none
  |_=>none
 |_=>none
def zmh (C:Cfg)(o:Oper):Option (List Bool×(LC->LA->Option (Bool×LC×LA))):=
 match o.op with
 |.call c=>
  match c.callee with
  |.value (.func f)=>C.pct f
  |_=>none
 |_=>none
def zQJ (o:Oper):FuncId :=
 match o.op with
 |.call c=>
  match c.callee with
  |.value (.func f)=>f
  |_=>0
 |_=>0
def callArgs (o:Oper):List Operand :=
 match o.op with
 |.call c=>c.args.toList
 |_=>[]
def znL (C:Cfg)(b:St)(o:Oper)(id:Nat):Option Dl :=
 match zmh C o with
 |some (own,a)=>zTi b (zdj<|zQJ o) own a id (callArgs o)
 |none=>none
def zmF (C:Cfg)(a:St)(o:Oper)(id:Nat):Option Dl :=
 match z0 C a o id with
 |some d=>some d
 |none=>znL C a o id
def z6s (c:St)(b:List Nat)(a:At):Bool :=
 (zby a).all λr=>!b.contains r&&(match c.root r with|some R=>R.ep.isNone|none=>false)
def St.tks (d:St):List Bool->List At->Option (LC×List Nat)
 |[],[]=>some ([],[])
 |own::ms,a::r=>
  match St.tks d ms r with
  |none=>none
  |some (e,b) =>
   match own with
   |true=>
    match a with
    |.sl q [] =>
     match d.root q with
     |some R=>if R.own && !b.contains q then some (.s R.t R.l::e,q::b) else none
     |none=>none
    |_=>none
   |false=>
    match d.cvOf a with
    |some c=>some (c::e,b)
    |none=>none
 |_,_=>none
def zia:List TV->LC->LA
 |[],_=>[]
 |.at _::r,a=>.one (a.headD<|.b false)::zia r (a.drop 1)
 |.agg l::r,a=>.agg (a.take l.length)::zia r (a.drop l.length)
def zXr (a:St):List Operand->Option (List TV)
 |[]=>some []
 |x::r=>
  match a.opnd x,zXr a r with
  |some (.v y),some b=>some (y::b)
  |_,_=>none
def zbfr:List (Nat×List (List<|Nat×Nat)):=[
 (337,[[(4,2)],[(4,3)]]),
 (100000,[])]
def zkr (f:FuncId):List (List<|Nat×Nat):=
 match zy zbfr f with
 |some x=>x
 |none=>[[]]
def zzT (st:St)(ks:List Nat)(b:List (Nat×Nat)):Nat->List Bool->List At->Bool
 |j,own::ms,a::r=>(own||(b.any (λx=>Nat.beq x.1 j)||z6s st ks a))&&zzT st ks b (j+1) ms r
 |_,_,_=>true
def zQH (own:List Bool)(a:List At)(b:List (Nat×Nat)):Bool :=
 b.all λx=>match a[x.1]?,a[x.2]?,own[x.1]?,own[x.2]? with
  |some (.sl q []),some (.sl r []),some false,some true=>Nat.beq q r
  |_,_,_,_=>false
def zou (q n:Nat)(b:List (List Nat)):At->At
 |.sl r p=>cond (Nat.beq r q) (cond (b.any λm=>m.isPrefixOf (cols p)) .bad<|.sl n p) (.sl r p)
 |.ep r p i o=>cond (Nat.beq r q) (cond (b.any λm=>m.isPrefixOf (cols p)) .bad<|.ep n p i o) (.ep r p i o)
 |.kp r J t=>cond (Nat.beq r q) (cond (coarse b J) (.kp n J t) .bad) (.kp r J t)
 |a=>a
def ztn (f:At->At):TV->TV
 |.at a=>.at (f a)
 |.agg l=>.agg (l.map f)
def zmf (f:At->At):MV->MV
 |.und=>.und
 |.v x=>.v (ztn f x)
 |.tup l=>.tup (l.map<|ztn f)
def zbcF (own:List Bool)(a:List At)(id:Nat):Option (Nat×Nat×List (List Nat))->Option (Option<|Nat×Nat×List (List Nat))
 |none=>some none
 |some (b,c,d)=>match own[b]?,a[b]? with
  |some true,some (.sl q [])=>some (some (q,id+c,d))
  |_,_=>none
def St.ren (st:St):Option (Nat×Nat×List (List Nat))->St
 |none=>st
 |some (q,n,a)=>{st with tm:=st.tm.map (zmf<|zou q n a),stk:=st.stk.map (λf=>f.map (zmf<|zou q n a)),lo:=st.lo.map (λx=>(x.1,x.2.map<|zou q n a))}
def z8O (st:St)(c:List (List<|Nat×Nat))(own:List Bool)(d:Option (Nat×Nat×List (List Nat)))(f:LW)(id:Nat)(b:List Operand):Option (Bool×St×MV):=
 match zXr st b with
 |some a=>
  match st.tks own (a.flatMap zZ) with
  |some (i,h) =>
   match zbcF own (a.flatMap zZ) id d with
   |some x=>
    cond (c.any λg=>zQH own (a.flatMap zZ) g&&zzT st h g 0 own (a.flatMap zZ))
     (match f (zia a i) with
     |some (cc,e) =>
      if (e.flatMap AV.cvs).length<=31 then
       some (cc,({st with ro:=zdy zpa e id++(killed st h++st.ro),ep:=st.ep+1}:St).ren x,zj9<|zdw e id)
      else none
     |none=>none) none
   |none=>none
  |none=>none
 |none=>none
def zXq (C:Cfg)(st:St)(o:Oper)(id:Nat):Option (Bool×St×MV):=
 match o.op with
 |.call c=>
  match c.callee with
  |.value (.func f) =>
   match C.tct f with
   |some (own,a,b)=>cond own.isEmpty none (z8O st (zkr f) own a b id c.args.toList)
   |none=>none
  |_=>none
 |_=>none
inductive IT where
 |hole
 |lit (i:Int)
inductive AT where
 |bad
 |i (k:IntKind)
 |b
 |sl (r:Nat) (js:List Nat)
 |lp (l off:Nat)
 |ep (r:Nat) (js:List Nat) (off:Nat)
 |fn (f:Nat) (caps:List Nat)
structure Tmpl where
 n:Nat
 tm:List (Nat×AT)
 lo:List (Nat×List AT)
 ro:List (Nat×Ty×Bool)
 sk:List (Nat×Nat×Nat×AT):=[]
 kr:Nat:=0
def AT.sig:AT->List CTy
 |.i k=>[.i k]
 |.b=>[.b]
 |.sl _ a=>a.map λ_=>.i .i64
 |.ep _ a _=>(a.map λ_=>CTy.i .i64)++[.i .i64]
 |_=>[]
def Tmpl.sig (T:Tmpl):List CTy :=
 T.tm.flatMap (λx=>x.2.sig)++T.lo.flatMap (λx=>x.2.flatMap AT.sig)++T.ro.map λx=>.s x.2.1
abbrev Dat:List CTy->Type
 |[]=>Unit
 |.i _::r=>Int×Dat r
 |.b::r=>Bool×Dat r
 |.s t::r=>List t.den×Dat r
def unpack:(sig:List CTy)->LC->Option (Dat sig)
 |[],[]=>some ()
 |.i k::sig,.i a n::cs=>if k=a then match unpack sig cs with
  |some d=>some (n,d)
  |none=>none
  else none
 |.b::sig,.b x::cs=>match unpack sig cs with
  |some d=>some (x,d)
  |none=>none
 |.s t::sig,.s c l::cs=>if h:c=t then match unpack sig cs with
  |some d=>some (h ▸ l,d)
  |none=>none
  else none
 |_,_=>none
def packs:(sig:List CTy)->Dat sig->LC
 |[],_=>[]
 |.i k::sig,d=>.i k d.1::packs sig d.2
 |.b::sig,d=>.b d.1::packs sig d.2
 |.s t::sig,d=>.s t d.1::packs sig d.2
structure Bnd where
 r:List (Nat×Nat)
 l:List (Nat×Nat)
def idx:List Nat->List (Int×Nat)->Option LC
 |[],[]=>some []
 |j::js,(i,b)::p=>if j==b then match idx js p with
  |some a=>some (.i .i64 i::a)
  |none=>none
  else none
 |_,_=>none
def zBb (l:List (Nat×Nat))(k v:Nat):Option (List<|Nat×Nat):=
 match zy l k with
 |some u=>if u==v then some l else none
 |none=>if l.any (λx=>x.2==v) then none else some ((k,v)::l)
def zXf (l:List (Nat×Nat))(k v:Nat):Option (List<|Nat×Nat):=
 match zy l k with
 |some u=>if u==v then some l else none
 |none=>some ((k,v)::l)
def zGi (B:Bnd):AT->At->Option (Bnd×LC)
 |.bad,_=>some (B,[])
 |.i k,.i t n=>if k=t then some (B,[.i k n]) else none
 |.b,.b x=>some (B,[.b x])
 |.sl r m,.sl q p=>match zXf B.r r q,idx m p with
  |some br,some j=>some ({B with r:=br},j)
  |_,_=>none
 |.lp l e,.lp u c=>if e==c then match zBb B.l l u with
  |some g=>some ({B with l:=g},[])
  |none=>none
  else none
 |.ep r m e,.ep q p i c=>if e==c then match zXf B.r r q,idx m p with
  |some br,some j=>some ({B with r:=br},j++[.i .i64 i])
  |_,_=>none
  else none
 |.fn f d,.fn s a=>if f==s&&d.length==a.length then
  match (d.zip a).foldl (λ(h:Option (List<|Nat×Nat)) x=>match h with|some g=>zBb g x.1 x.2|none=>none) (some B.l) with
  |some g=>some ({B with l:=g},[])
  |none=>none
  else none
 |_,_=>none
def zQe (d:St):Bnd->List (Nat×AT)->Option (Bnd×LC)
 |B,[]=>some (B,[])
 |B,(n,a)::r=>
  match d.tm[n]? with
  |some (.v<|.at x)=>match zGi B a x with
   |some (e,f)=>match zQe d e r with
    |some (b,c)=>some (b,f++c)
    |none=>none
   |none=>none
  |_=>none
def stAt (b:St)(f s k:Nat):Option At :=
 match b.stk[f]? with
 |some a=>match a[s]? with
  |some (.v x)=>(zZ x)[k]?
  |_=>none
 |none=>none
def zQc (b:St):Bnd->List (Nat×Nat×Nat×AT)->Option Bnd
 |B,[]=>some B
 |B,(f,s,k,a)::r=>
  match stAt b f s k with
  |some x=>match zGi B a x with
   |some (c,[])=>zQc b c r
   |_=>none
  |none=>none
def zqQ:Bnd->List AT->List At->Option (Bnd×LC)
 |B,[],[]=>some (B,[])
 |B,a::r,x::y=>match zGi B a x with
  |some (d,e)=>match zqQ d r y with
   |some (b,c)=>some (b,e++c)
   |none=>none
  |none=>none
 |_,_,_=>none
def zQa (c:St):Bnd->List (Nat×List AT)->Option (Bnd×LC)
 |B,[]=>some (B,[])
 |B,(l,g)::r=>
  match zy B.l l with
  |some f=>match zy c.lo f with
   |some cells=>match zqQ B g cells with
    |some (d,e)=>match zQa c d r with
     |some (a,b)=>some (a,e++b)
     |none=>none
    |none=>none
   |none=>none
  |none=>none
def zQb (a:St)(B:Bnd):List (Nat×Ty×Bool)->Option LC
 |[]=>some []
 |(r,t,own)::rest=>
  match zy B.r r with
  |some c=>match zy a.ro c with
   |some R=>if R.t=t/\(own=true->R.own=true)/\R.ep=none then match zQb a B rest with
    |some b=>some (.s R.t R.l::b)
    |none=>none
    else none
   |none=>none
  |none=>none
def zbaU (B:Bnd):Bool:=B.r.all (λx=>decide (x.1<1000))&&B.l.all (λx=>decide (x.1<1000))
def zbfA (a:List (Nat×Ty×Bool))(B:Bnd):Bool:=a.all λx=>cond x.2.2 (B.r.all λy=>Nat.beq y.1 x.1||(match zy B.r x.1 with|some v=>!(Nat.beq v y.2)|none=>true)) true
def Tmpl.takeB (T:Tmpl)(b:St):Option (Bnd×LC):=
 if T.n==b.tm.length then
  match zQe b ⟨[],[]⟩ T.tm with
  |some (e,f)=>match zQc b e T.sk with
   |some B=>match zQa b B T.lo with
    |some (c,d)=>match zQb b c T.ro with
     |some a=>if zbaU c&&zbfA T.ro c then some (c,f++d++a) else none
     |none=>none
    |none=>none
   |none=>none
  |none=>none
 else none
def Tmpl.take (T:Tmpl)(b:St):Option LC:=
 match T.takeB b with
 |some (_,a)=>some a
 |none=>none
def zPF:List (Nat×Nat)->Nat->Option Nat
 |[],_=>none
 |(k,v)::l,r=>cond (Nat.beq v r) (some k) (zPF l r)
def zt9 (B:Bnd)(a:Nat):At->At
 |.i k n=>.i k n
 |.b x=>.b x
 |.sl r p=>match zPF B.r r with|some k=>.sl (a+k) p|none=>.bad
 |.ep r p i o=>match zPF B.r r with|some k=>.ep (a+k) p i o|none=>.bad
 |.kp r J t=>match zPF B.r r with|some k=>.kp (a+k) J t|none=>.bad
 |.lp l o=>match zPF B.l l with|some k=>.lp (a+k) o|none=>.bad
 |_=>.bad
def zv2 (B:Bnd)(a:Nat)(stk:List (List MV)):List (List MV):=stk.map λf=>f.map (zmf<|zt9 B a)
def zln:List (Int×Nat)->List (Int×Nat)->Bool
 |[],[]=>true
 |[(i,j)],[(a,b)]=>cond (Nat.beq j b) (ieq i a) false
 |(i,j)::p,(a,b)::q=>cond (Nat.beq j b) (ieq i a&&zln p q) false
 |_,_=>false
def zBf (B:Bnd)(a:Nat)(b r:Nat):Bool:=Nat.ble a r&&(match zy B.r (r-a) with|some v=>Nat.beq v b|none=>false)
def zh7 (B:Bnd)(a:Nat):At->At->Bool
 |.sl b d,.sl r p=>cond (zBf B a b r) (zln d p) false
 |.ep b d f c,.ep r p i o=>cond (zBf B a b r&&Nat.beq c o) (ieq f i&&zln d p) false
 |.kp b e h,.kp r J t=>zBf B a b r&&(e==J&&decide (h=t))
 |.lp g c,.lp l o=>Nat.ble a l&&Nat.beq o c&&(match zy B.l (l-a) with|some v=>Nat.beq v g|none=>false)
 |_,.sl _ _=>false
 |_,.lp _ _=>false
 |_,.ep _ _ _ _=>false
 |_,.fn _ _=>false
 |_,.kp _ _ _=>false
 |_,_=>true
def zGt (B:Bnd)(c:Nat):List At->List At->Bool
 |[],[]=>true
 |a::r,b::s=>zh7 B c a b&&zGt B c r s
 |_,_=>false
def zEU (B:Bnd)(c:Nat):TV->TV->Bool
 |.at a,.at b=>zh7 B c a b
 |.agg l,.agg m=>zGt B c l m
 |_,_=>false
def zGu (B:Bnd)(c:Nat):List TV->List TV->Bool
 |[],[]=>true
 |a::r,b::s=>zEU B c a b&&zGu B c r s
 |_,_=>false
def zXT (B:Bnd)(a:Nat):MV->MV->Bool
 |.und,.und=>true
 |.v x,.v y=>zEU B a x y
 |.tup l,.tup m=>zGu B a l m
 |_,_=>false
def zXh (B:Bnd)(c:Nat):List MV->List MV->Bool
 |[],[]=>true
 |a::r,b::s=>zXT B c a b&&zXh B c r s
 |_,_=>false
def ziq (B:Bnd)(base:Nat):List (List MV)->List (List MV)->Bool
 |[],[]=>true
 |a::r,b::s=>zXh B base a b&&ziq B base r s
 |_,_=>false
def zz4:List Nat->LC->Option (List (Int×Nat)×LC)
 |[],a=>some ([],a)
 |j::js,.i _ n::a=>match zz4 js a with
  |some (p,b)=>some ((n,j)::p,b)
  |none=>none
 |_,_=>none
def putAt (a:Nat):AT->LC->Option (At×LC)
 |.bad,c=>some (.bad,c)
 |.i k,.i _ n::c=>some (.i k n,c)
 |.b,.b x::c=>some (.b x,c)
 |.sl r h,c=>match zz4 h c with
  |some (p,d)=>some (.sl (a+r) p,d)
  |none=>none
 |.lp l e,c=>some (.lp (a+l) e,c)
 |.ep r h e,c=>match zz4 h c with
  |some (p,.i _ n::d)=>some (.ep (a+r) p n e,d)
  |_=>none
 |.fn f g,c=>some (.fn f (g.map λl=>a+l),c)
 |_,_=>none
def zXp (b:Nat):List (Nat×AT)->LC->List MV->Option (List MV×LC)
 |[],c,tm=>some (tm,c)
 |(n,a)::r,c,tm=>match putAt b a c with
  |some (x,d)=>zXp b r d (tm.set n<|.v<|.at x)
  |none=>none
def putCells (b:Nat):List AT->LC->Option (List At×LC)
 |[],d=>some ([],d)
 |a::r,d=>match putAt b a d with
  |some (x,e)=>match putCells b r e with
   |some (f,c)=>some (x::f,c)
   |none=>none
  |none=>none
def zXn (a:Nat):List (Nat×List AT)->LC->Option (List (Nat×List At)×LC)
 |[],c=>some ([],c)
 |(l,f)::r,c=>match putCells a f c with
  |some (g,d)=>match zXn a r d with
   |some (e,b)=>some ((a+l,g)::e,b)
   |none=>none
  |none=>none
def zXo (a:Nat):List (Nat×Ty×Bool)->LC->Option (List<|Nat×Root)
 |[],[]=>some []
 |(r,_,own)::rest,.s t l::cs=>match zXo a rest cs with
  |some b=>some ((a+r,⟨t,l,own,none⟩)::b)
  |none=>none
 |_,_=>none
def Tmpl.put (T:Tmpl)(base:Nat)(c:LC):Option St :=
 match zXp base T.tm c (List.replicate T.n<|.v<|.at .bad) with
 |some (tm,b)=>match zXn base T.lo b with
  |some (lo,a)=>match zXo base T.ro a with
   |some ro=>some {tm,lo,ro,stk:=[],nid:=base+1000,ep:=0}
   |none=>none
  |none=>none
 |none=>none
def q0 {σ a:Type}:Nat->((σ->Option a)->σ->Option a)->σ->Option a
 | 0,_,_=>none
 |n+1,F,s=>F (q0 n F) s
inductive Ex where
 |normal
 |exit (id:Nat)
 |ret
abbrev Ans:=LA
abbrev zh6:=FuncId->List MV->St->(List TV->St->Option Ans)->Option Ans
def guardOf (b:St)(a:Array Oper)(j:Nat):Option MV :=
 match a[j]? with
 |some o=>match o.dst with
  |some t=>b.tm[t]?
  |none=>none
 |none=>none
def zkU (a:Array Oper)(j:Nat):Option Tmp :=
 match a[j]? with
 |some o=>o.dst
 |none=>none
def byName (C:Cfg)(x:Operand)(f:FuncId):Bool :=
 match x with
 |.func _=>(C.ctr f).isSome||(C.mct f).isSome||(C.pct f).isSome||(C.tct f).isSome
 |_=>false
def isIn (C:Cfg)(b:St)(o:Oper):Option (FuncId×List Nat×Array Operand):=
 match o.op with
 |.call {callee:=.value x,args,.. } =>
  match b.at x with
  |some (.fn f a)=>cond (byName C x f) none (some (f,a,args))
  |_=>none
 |_=>none
abbrev p0 {a b:Type}(x:a)(f:a->b):b:=f x
def zQS {d:Type}(a:At)(k:At->d):d :=
 match a with
 |.bad=>k .bad
 |.i c n=>k (.i c n)
 |.b x=>k (.b x)
 |.sl r p=>k (.sl r p)
 |.lp l o=>k (.lp l o)
 |.ep r p i o=>k (.ep r p i o)
 |.fn f c=>k (.fn f c)
 |.kp r J t=>k (.kp r J t)
def z3b {b:Type}(m:MV)(k:MV->b):b :=
 match m with
 |.und=>k .und
 |.v (.at a)=>zQS a λa=>k (.v<|.at a)
 |.v (.agg l)=>k (.v<|.agg l)
 |.tup l=>k (.tup l)
def zzS {a:Type}:List MV->(List MV->a)->a
 |[],k=>k []
 |m::l,k=>z3b m λm=>zzS l λl=>k (m::l)
def zsK {a:Type}(n:Nat)(k:Nat->a):a :=
 match n with
 | 0=>k 0
 |m+1=>k (m+1)
def zBs {b:Type}:List At->(List At->b)->b
 |[],k=>k []
 |a::l,k=>zQS a λa=>zBs l λl=>k (a::l)
def zGB {b:Type}:List (Nat×List At)->(List (Nat×List At)->b)->b
 |[],k=>k []
 |(n,a)::l,k=>zsK n λn=>zBs a λa=>zGB l λl=>k ((n,a)::l)
def z7o {a:Type}(b:Bool)(k:Bool->a):a :=
 match b with
 |true=>k true
 |false=>k false
def z3a {a:Type}(e:Option Nat)(k:Option Nat->a):a :=
 match e with
 |none=>k none
 |some n=>zsK n λn=>k (some n)
def zGC {a:Type}:List (Nat×Root)->(List (Nat×Root)->a)->a
 |[],k=>k []
 |(n,⟨t,x,own,ep⟩)::l,k=>zsK n λn=>z7o own λown=>z3a ep λep=>zGC l λl=>k ((n,⟨t,x,own,ep⟩)::l)
def St.forced (a:St)(k:St->Option Ans):Option Ans :=
 zzS a.tm λtm=>zGB a.lo λlo=>zGC a.ro λro=>zsK a.nid λnid=>zsK a.ep λep=>k {tm,lo,ro,stk:=a.stk,nid,ep}
def St.shared (a:St)(k:St->Option Ans):Option Ans :=
 zzS a.tm λtm=>
  match a.ro with
  |(r,R)::ro=>p0 R.l λl=>k {a with tm,ro:=(r,{R with l})::ro}
  |[]=>k {a with tm}
def wrote (o:Oper)(d:Dl)(a:St)(k:St->Option Ans):Option Ans :=
 match o.op,d.ro with
 |.store ..,[_]=>a.shared k
 |_,_=>k a
def step1 (C:Cfg)(b:Nat)(i:Nat)(o:Oper)(e:St)(k:St->Option Ans):Option Ans :=
 match z0 C e o (b+32*i) with
 |some d=>cond d.c (wrote o d (e.apply o.dst d) k) none
 |none=>
  match graft C e o with
  |some (c,a)=>cond c ((a.put o.dst .und).shared k) none
  |none=>
   match zXl C e o with
   |some (c,a,v)=>cond c ((a.put o.dst v).shared k) none
   |none=>
    match zGL C e o (b+32*i) with
    |some (c,a,v)=>cond c (k<|a.put o.dst v) none
    |none=>
     match zXq C e o (b+32*i) with
     |some (c,a,v)=>cond c (k<|a.put o.dst v) none
     |none=>none
def guarded (a:Array Oper)(o:Oper)(e:St)(d skip:St->Option Ans):Option Ans :=
 match o.guard with
 |none=>d e
 |some (j,c) =>
  match guardOf e a j with
  |some .und=>skip (e.put o.dst .und)
  |some (.v<|.at<|.b x) =>
   cond x
    (match c with
     |true=>d (e.put (zkU a j)<|.v<|.at<|.b true)
     |false=>skip ((e.put (zkU a j)<|.v<|.at<|.b true).put o.dst .und))
    (match c with
     |true=>skip ((e.put (zkU a j)<|.v<|.at<|.b false).put o.dst .und)
     |false=>d (e.put (zkU a j)<|.v<|.at<|.b false))
  |_=>none
def zpc (C:Cfg)(a:zh6)(ops:Array Oper)(base:Nat)(k:St->Option Ans):List Nat->St->Option Ans
 |[],b=>k b
 |i::rest,b=>
  match ops[i]? with
  |none=>none
  |some o=>
   guarded ops o b
    (λb=>
     match isIn C b o with
     |some (f,d,c) =>
      match zcR (λx=>b.opnd x) c.toList with
      |some h=>a f (h++d.map λl=>.v (.at<|.lp l 0)) b λg e=>zpc C a ops base k rest (e.put o.dst<|zj9 g)
      |none=>none
     |none=>step1 C base i o b (zpc C a ops base k rest))
    (zpc C a ops base k rest)
def zjO (o:Oper):List Nat :=
 o.op.operands.toList.filterMap λx=>match x with
  |.tmp t=>some t
  |_=>none
structure Foot where
 tm:List Nat
 ro:List Nat
 lo:List Nat
 dst:Option Nat
 wro:List Nat
 wlo:List Nat
def zvA (a:St)(o:Oper):List At:=(o.op.operands.toList.filterMap a.opnd).flatMap zbL
def zzW (a:Array Oper)(o:Oper):List Nat :=
 match o.guard with
 |some (j,_)=>(zkU a j).toList
 |none=>[]
def zgU (a:St)(ops:Array Oper)(o:Oper)(d:Dl):Foot :=
 {tm:=zjO o++zzW ops o,ro:=(zvA a o).flatMap zby,lo:=(zvA a o).flatMap zbG,dst:=o.dst,wro:=d.ro.map (·.1),wlo:=d.lo.map (·.1)}
def zE5 (b:St)(o:Oper):List Nat :=
 (zvA b o).flatMap λa=>match a with
  |.lp l _=>match zy b.lo l with
   |some cells=>cells.flatMap zby
   |none=>[]
  |_=>[]
def zya (o:Oper):Bool :=
 match o.op with
 |.move (.tmp _)=>true
 |_=>false
def zgz (C:Cfg)(b:St)(a:Array Oper)(o:Oper)(d:Dl):Foot :=
 {zgU b a o d with
  ro:=cond (zya o) [] ((zgU b a o d).ro++cond (zmh C o).isSome (zE5 b o) [])
  lo:=cond (zya o) [] (zgU b a o d).lo}
def zn5 (a:Array Oper)(o:Oper):Foot :=
 {tm:=zzW a o,ro:=[],lo:=[],dst:=o.dst,wro:=[],wlo:=[]}
def zEN (a b:List Nat):Bool:=a.all λx=>!b.contains x
def Foot.apart (x y:Foot):Bool :=
 (match x.dst with
  |some d=>!y.tm.contains d && !(y.dst==some d)
  |none=>true) &&
 (match y.dst with
  |some d=>!x.tm.contains d
  |none=>true) &&
 zEN x.wro (y.ro++y.wro)&&zEN y.wro x.ro&&zEN x.wlo (y.lo++y.wlo)&&zEN y.wlo x.lo
def zqb (s:List Nat)(x:Nat):Bool:=s.any λy=>Nat.beq x y
def addN (l s:List Nat):List Nat:=l.foldr (λx s=>cond (zqb s x) s (x::s)) s
def waits (ops:Array Oper)(a:List (List Nat))(i:Nat):List Nat :=
 match ops[i]? with
 |some o=>o.after.toList.foldr (λe s=>cond (Region.binds .any e) (cond (zqb s e.on) s<|addN (a.getD e.on []) (e.on::s)) s) []
 |none=>[]
def zks (ops:Array Oper):List Nat->List (List Nat)->List (List Nat)
 |[],a=>a
 |i::r,a=>zks ops r (a++[waits ops a i])
def z7q (a:List (List Nat))(m:Nat):Bool:=(List.range m).all λj=>(a.getD m []).contains j
def pinned (n:Nat)(a:List (List Nat))(m:Nat):Bool:=z7q a m&&(List.range' (m+1)<|n-(m+1)).all λk=>(a.getD k []).contains m
def zjP (n:Nat)(a:List (List Nat)):List Bool:=(List.range n).map (pinned n a)
def zcs:List Bool->Nat
 |false::r=>zcs r+1
 |_=>0
def zTd (c:Region.Mode)(a:Array Oper)(b:Nat->Nat):Bool :=
 (List.range a.size).all λi=>match a[i]? with
  |some o=>o.after.toList.all λe=>!Region.binds c e||(Nat.blt e.on a.size&&Nat.blt (b e.on) (b i))
  |none=>true
def zbcD:List Nat->Nat->Nat
 |[],_=>0
 |a::r,i=>cond (Nat.beq a i) 0 (zbcD r i+1)
def z7i (a:Array Oper)(b:List (List Nat)):Bool :=
 cond (Region.departs a) (zTd .text a (λi=>i)&&zTd .gc a (zbcD<|Region.linearise .gc a 0)) true &&
 (List.range a.size).all (λi=>(b.getD i []).all λj=>decide (j<i))
def zoe (b:List (List Nat))(a:List (Nat×Foot)):Bool :=
 a.all λx=>a.all λy=>!(decide (x.1<y.1))||(b.getD y.1 []).contains x.1||x.2.apart y.2
def zS8 (a:Array Oper)(i:Nat):Bool :=
 match a[i]? with
 |some o=>match o.op with
  |.store .. | .buildSlice ..=>true
  |.slice _ _ (some _) none none=>true
  |.call c=>match c.callee with
   |.builtin .append=>true
   |_=>false
  |_=>false
 |none=>false
def zYq (o:Oper):Bool :=
 match o.op with
 |.slice _ _ none (some _) none=>true
 |_=>false
def zmg (C:Cfg)(ops:Array Oper)(i:Nat):Bool :=
 zS8 ops i||(match ops[i]? with|some o=>(zmh C o).isSome||(zxQ C&&zYq o)|none=>false)
def zgQ (b:Bool)(R:Root):Root :=
 match b,R.ep with
 |true,some _=>{R with ep:=some 0}
 |_,_=>R
def St.effD (a:St)(b:Bool)(dst:Option Tmp)(d:Dl):St :=
 {a with lo:=d.lo++a.lo,ro:=d.ro.map (λ(x:Nat×Root)=>(x.1,zgQ b x.2))++a.ro}.put dst d.v
structure App where
 dst:Nat
 r:Nat
 p:List (Int×Nat)
 t:Ty
 l:List t.den
def ztc (C:Cfg)(e:St)(o:Oper):Option (Bool×App):=
 match o.op,o.dst,o.guard with
 |.call c,some d,none=>
  match c.callee with
  |.builtin .append=>
   match c.args.toList,c.argTypes.toList with
   |[x,y],[T,h] =>
    if h=T then
    match C.sty T,e.at x,e.at y with
    |some t,some (.sl r (a::p)),some (.sl g i) =>
     match e.root r,e.node r (a::p),e.node g i with
     |some R,some f,some b=>
      if R.own&&t.flat && !(r==g) then
       match zA6 t f b,b with
       |some m,.s _ (_::_)=>some (few<|ln m,⟨d,r,a::p,t,m⟩)
       |_,_=>none
      else none
     |_,_,_=>none
    |_,_,_=>none
    else none
   |_,_=>none
  |_=>none
 |_,_,_=>none
def zmK (o:Oper):Bool :=
 o.guard.isNone&&match o.op with
 |.move (.tmp _) | .load .. | .fieldAddr .. | .indexAddr .. | .nilCheck ..=>true
 |_=>false
def zz7 (ops:Array Oper)(b:List (List Nat))(m a:Nat):Bool :=
 (List.range' m<|a-m).all λj=>(b.getD a []).contains j||(match ops[j]? with|some o=>zmK o|none=>false)
def zGs:Dl:={v:=.v (.at .bad)}
def sameAt:At->At->Bool
 |.i k n,.i m s=>cond (decide (k=m)) (ieq n s) false
 |.b x,.b y=>zhn x y
 |.sl r p,.sl e d=>cond (Nat.beq r e) (zln p d) false
 |.ep r p i o,.ep e d j a=>cond (Nat.beq r e&&Nat.beq o a) (ieq i j&&zln p d) false
 |.lp l o,.lp q a=>Nat.beq l q&&Nat.beq o a
 |.fn f c,.fn h g=>Nat.beq f h&&c==g
 |_,_=>false
def zGQ:List At->List At->Bool
 |[],[]=>true
 |a::r,b::s=>sameAt a b&&zGQ r s
 |_,_=>false
def zPY:MV->MV->Bool
 |.v (.at a),.v (.at b)=>sameAt a b
 |.v (.agg l),.v (.agg m)=>zGQ l m
 |_,_=>false
def zoo (b:List (List Nat))(m a:Nat):List Nat:=(List.range' m<|a-m).filter λj=>!(b.getD a []).contains j
def zLx (ops:Array Oper)(b:List (List Nat))(a:List Nat)(o:Oper):Bool :=
 a.all λj=>match ops[j]? with
  |some p=>match p.dst with
   |some t=>!(zjO o).contains t&&a.all λi=>match ops[i]? with
    |some q=>(!(zjO q).contains t||(b.getD i []).contains j)&&(i==j || !(q.dst==some t))
    |none=>false
   |none=>false
  |none=>false
def zsM (o:Oper):Bool :=
 o.guard.isNone&&o.dst.isSome&&match o.op with
  |.call c=>match c.callee with
   |.value _=>true
   |_=>false
  |_=>false
def zqf (C:Cfg)(ops:Array Oper)(base:Nat)(k:St->Option Ans):List Nat->St->Option Ans
 |[],a=>k a
 |j::r,a=>
  match ops[j]? with
  |some o=>match z0 C a o (base+32*j),o.dst with
   |some d,some t=>match a.tm[t]? with
    |some m=>cond (d.c&&zPY d.v m) (zqf C ops base k r a) none
    |none=>none
   |_,_=>none
  |none=>none
def zv1 (C:Cfg)(a:Array Oper)(g:List (List Nat))(b:Bool)(f m:Nat)(k:St->Option Ans)(l:App->St->Option Ans)(j:Nat->St->Option Ans):List Nat->List (Nat×Foot)->St->Option Ans
 |[],h,n=>if zoe g h then k n else none
 |i::rest,h,n=>
  match a[i]? with
  |none=>none
  |some o=>
   guarded a o n
    (λe =>
     match zmF C e o (f+32*i) with
     |some d=>cond d.c (zv1 C a g b f m k l j rest ((i,zgz C e a o d)::h)<|e.effD b o.dst d) none
     |none=>
      match rest,ztc C e o with
      |[],some (c,x)=>if b&&zz7 a g m i&&decide (x.dst<e.tm.length)&&zoe g ((i,zgU e a o zGs)::h) then cond c (l x<|e.put o.dst<|.v<|.at .bad) none else none
      |[],none=>if zsM o&&zz7 a g m i&&zLx a g (zoo g m i) o&&zoe g h then j i e else none
      |_,_=>none)
    (λe=>zv1 C a g b f m k l j rest ((i,zn5 a o)::h) e)
def zFC (C:Cfg)(e:St)(o:Oper)(x:App):Option (Bool×St):=
 match o.op,o.guard with
 |.store T a (.tmp d),none=>
  match C.cty T,e.at a with
  |some (false,[.s g]),some (.ep r p i b) =>
   match e.root r,e.node r p,zqq (p++[(i,b)]) x.p with
   |some R,some (.s t l),some c=>
    if R.own&&Nat.beq d x.dst&&Nat.beq r x.r&&decide (b<t.wi) then
     match setRow t l i b [.s x.t x.l] with
     |some f=>match zsU R.t R.l p (.s t f) with
      |some m=>some (c,zj8 e r R m [cols p++[b]])
      |none=>none
     |none=>none
    else none
   |_,_,_=>none
  |_,_=>none
 |_,_=>none
def zsO (C:Cfg)(b:Array Oper)(a:Nat)(x:App)(k:Nat->List Bool->St->Option Ans):List Bool->Nat->St->Option Ans
 |true::r,m,e=>
  match b[m]? with
  |none=>none
  |some o=>
   match zFC C e o x with
   |some (c,f)=>cond c ((f.put o.dst .und).shared (k (m+1) r)) none
   |none=>
    if zmK o && !(o.dst==some x.dst) then
     match z0 C e o (a+32*m) with
     |some d=>cond d.c (zsO C b a x k r (m+1)<|e.apply o.dst d) none
     |none=>none
    else none
 |_,_,_=>none
def zmX (C:Cfg)(a:zh6)(ops:Array Oper)(f:List (List Nat))(base:Nat)(k:St->Option Ans):Nat->Nat->List Bool->St->Option Ans
 | 0,_,_,_=>none
 |d+1,m,g,h=>
  match g with
  |[]=>k h
  |true::r=>zpc C a ops base (λc=>zmX C a ops f base k d (m+1) r c) [m] h
  |false::r=>
   let n:=zcs r+1
   let b:=(List.range' m n).any (zmg C ops)
   zv1 C ops f b base m (λc=>zmX C a ops f base k d (m+n) (r.drop<|zcs r) c)
    (λx c=>zsO C ops base x (λj l e=>zmX C a ops f base k d j l e) (r.drop<|zcs r) (m+n) c)
    (λi c=>zpc C a ops base (zqf C ops base (λe=>zmX C a ops f base k d (m+n) (r.drop<|zcs r) e)<|zoo f m i) [i] c)
    (List.range' m n) [] {h with ep:=if b then h.ep+1 else h.ep}
def zKq (C:Cfg)(b:zh6)(a:Array Oper)(k:St->Option Ans)(d:St):Option Ans :=
 let c:=zks a (List.range a.size) []
 if z7i a c then zmX C b a c d.nid k (a.size+1) 0 (zjP a.size c) {d with nid:=d.nid+32*a.size} else none
def znw:Code->Nat
 |.seq a b=>znw a+znw b+1
 |.cond _ a b=>znw a+znw b+1
 |.block _ a=>znw a+1
 |.loop a=>znw a+1
 |_=>1
def z3c:Code->Bool
 |.cond _ _ _=>true
 |.seq _ b=>z3c b
 |_=>false
def z3j (a b:Code):Nat:=1000000+1000*znw a+znw b
def fitT (T:Tmpl)(b:St):Bool :=
 T.tm.all λx=>match x.2,b.tm[x.1]? with
  |.lp _ o,some (.v<|.at<|.lp _ a)=>Nat.beq o a
  |_,_=>true
def zbfB (tm:Nat->Option Tmpl)(c:St)(a b:Code):Option Tmpl :=
 match tm 999999 with
 |some _=>match z3c a with
  |true=>match tm (z3j a b) with
   |some T=>cond (fitT T c) (some T) (tm<|1000000000+z3j a b)
   |none=>none
  |false=>none
 |none=>none
def zbeS:List (List MV)->Nat
 |[.v<|.at<|.kp r _ _]::_=>r
 |_=>0
def zSe (T:Tmpl)(a:St):List (List MV):=zv2 ⟨[(T.kr,zbeS a.stk)],[]⟩ a.nid a.stk
def zbb6 (T:Tmpl)(nid:Nat)(stk:List (List MV))(k:St->Option Ans)(s:Dat T.sig):Option Ans :=
 match T.put nid (packs T.sig s) with
 |none=>none
 |some a=>k {a with stk:=stk}
def zbb5 (T:Tmpl)(nid:Nat)(stk:List (List MV))(a:St)(c:Dat T.sig->Option Ans):Option Ans :=
 match T.takeB a with
 |none=>none
 |some (B,b)=>match unpack T.sig b with
  |none=>none
  |some s=>cond (ziq B nid a.stk stk) (c s) none
def zjH (C:Cfg)(tm:Nat->Option Tmpl)(N:Nat)(g:zh6):Code->St->(Ex->St->Option Ans)->Option Ans
 |.skip,d,k=>k .normal d
 |.region _ j false,d,k=>
  d.forced λd=>zpc C g j d.nid (λf=>k .normal f) (List.range j.size) {d with nid:=d.nid+32*j.size}
 |.region _ j true,d,k=>
  d.forced λd=>zKq C g j (λf=>k .normal f) d
 |.seq a b,d,k=>
  match zbfB tm d a b with
  |none=>zjH C tm N g a d λe f=>match e with
   |.normal=>zjH C tm N g b f k
   |e=>k e f
  |some T=>
   p0 (zbb6 T d.nid (zSe T d) λl=>zjH C tm N g b l k) λu=>zjH C tm N g a d λe f=>match e with
    |.normal=>zbb5 T d.nid (zSe T d) f u
    |e=>k e f
 |.cond c a b,d,k=>
  match d.at c with
  |some (.b x)=>cond x (zjH C tm N g a d k) (zjH C tm N g b d k)
  |_=>none
 |.block id (.loop h),d,k=>
  match tm id with
  |none=>none
  |some T=>
   match T.takeB d with
   |none=>none
   |some (m,q) =>
    match unpack T.sig q with
    |none=>none
    |some t=>
     cond (ziq m d.nid d.stk<|zv2 m d.nid d.stk)
     (q0 N (λrec s=>
      match T.put d.nid (packs T.sig s) with
      |none=>none
      |some l=>zjH C tm N g h {l with stk:=zv2 m d.nid d.stk} λe f=>match e with
       |.normal=>match T.takeB f with
        |none=>none
        |some (p,n)=>match unpack T.sig n with
         |none=>none
         |some r=>cond (ziq p d.nid f.stk<|zv2 m d.nid d.stk) (rec r) none
       |.exit i=>if i==id then k .normal f else k (.exit i) f
       |.ret=>k .ret f) t) none
 |.block id h,d,k=>zjH C tm N g h d λe f=>match e with
  |.exit i=>if i==id then k .normal f else k (.exit i) f
  |e=>k e f
 |.exit id,d,k=>k (.exit id) d
 |.ret,d,k=>k .ret d
 |_,_,_=>none
def zlZ (C:Cfg)(c:St):List ResultVar->Option (List TV)
 |[]=>some []
 |.tmp t::r=>
  match c.tm[t]?,zlZ C c r with
  |some (.v x),some e=>some (x::e)
  |_,_=>none
 |.cell t T::r=>
  match c.at (.tmp t),C.cty T,zlZ C c r with
  |some (.lp l b),some (f,d),some e=>match zy c.lo l with
   |some g=>
    if f then (if b+d.length<=g.length then some (.agg ((g.drop b).take d.length)::e) else none)
    else match g[b]? with
     |some a=>some (.at a::e)
     |none=>none
   |none=>none
  |_,_,_=>none
def zxG (C:Cfg)(h:FuncId->Nat->Option Tmpl)(N:Nat)(c:zh6)(f:FuncId)(i:List MV)(g:St)(k:List TV->St->Option Ans):Option Ans :=
 match C.P.funcs[f]? with
 |some d=>
  match d.body with
  |some b=>
   zjH C (h f) N c b {g with tm:=i++List.replicate (d.ntmps-i.length) .und,stk:=g.tm::g.stk} λe a =>
    match e with
    |.exit _=>none
    |_=>match zlZ C a d.results.toList,a.stk with
     |some j,tm::stk=>k j {a with tm,stk}
     |_,_=>none
  |none=>none
 |none=>none
def z4g (f:FuncId)(e:List MV)(st:St)(k:List TV->St->Option Ans)(d:LW):Option Ans :=
 match zcR st.avOf e with
 |some a=>
  match d a with
  |some (c,b)=>if (b.flatMap AV.cvs).length<=31 then cond c (k (zdw b st.nid) {st with ro:=zdy (zdj f) b st.nid++st.ro,nid:=st.nid+32}) none else none
  |none=>none
 |none=>none
def ztU (C:Cfg)(a:FuncId->Nat->Option Tmpl)(N:Nat):Nat->zh6
 | 0=>λ_ _ _ _=>none
 |d+1=>λf e c k=>
  match C.ctr f with
  |some b=>z4g f e c k b
  |none=>zxG C a N (ztU C a N d) f e c k
def ztb (d:St):List TV->List Nat->Option Ans
 |[],_=>some []
 |.at a::r,seen=>
  match d.give none [a] 0 with
  |some (true,[c],b)=>if b.all (λk=>!seen.contains k) then match ztb d r (b++seen) with
   |some e=>some (.one c::e)
   |none=>none
   else none
  |_=>none
 |.agg l::r,seen=>
  match d.give none l 0 with
  |some (true,f,b)=>if b.all (λk=>!seen.contains k) then match ztb d r (b++seen) with
   |some e=>some (.agg f::e)
   |none=>none
   else none
  |_=>none
def zGX (R:Root):Root:=cond (zGI R.t&&R.ep.isNone) {R with own:=true} R
def St.thaw (a:St)(b:Bool):St:=cond b {a with ro:=a.ro.map λx=>(x.1,zGX x.2)} a
def zsJ (a:LA):Bool:=(a.flatMap AV.cvs).all λc=>match c with | .s t _=>t.flat|_=>true
def evalFn (C:Cfg)(tms:FuncId->Nat->Option Tmpl)(N D:Nat)(f:FuncId)(a:LA):Option Ans :=
 cond (zka f && !(zsJ a)) none
 (zxG C tms N (ztU C tms N D) f ((zdw a 0).map .v) {tm:=[],lo:=[],ro:=zdy zwS a 0,stk:=[],nid:=(a.flatMap AV.cvs).length,ep:=0} λb c=>ztb (c.thaw<|zka f) b [])
def zXs:List (Nat×Ty):=[
 (3,.int),
 (91,.slot),
 (85,.ins),
 (132,.guest),
 (96,.mon),
 (178,.entry),
 (161,.kept),
 (47,.act),
 (51,.told),
 (76,.bare),
 (4,.bool),
 (5,.u8),
 (32,.sl .int),
 (86,.sl .ins),
 (87,.sl<|.sl .ins),
 (100000,.int)]
def zGx:List Nat:=[
 91,
 85,
 178,
 47,
 51,
 61,
 130,
 100000]
def zc4 (P:Program):Nat->TypeId->Option (Bool×List CTy)
 | 0,_=>none
 |n+1,T=>
  match P.underlying T with
  |some (.int k)=>some (false,[.i k])
  |some .bool=>some (false,[.b])
  |some (.slice e)=>match zy zXs e with
   |some t=>some (false,[.s t])
   |none=>none
  |some (.struct a)=>match zcR (λ(f:Field)=>match zc4 P n f.type with|some x=>some x.2|none=>none) a.toList with
   |some l=>some (true,l.flatten)
   |none=>none
  |_=>none
def zyJ (P:Program)(T:TypeId):Option Ty :=
 match P.underlying T with
 |some (.slice e)=>zy zXs e
 |_=>none
def zwv (P:Program)(T:TypeId)(f:Nat):Option (Nat×Nat):=
 match P.underlying T with
 |some (.struct a)=>match a[f]? with
  |some x=>match P.info? x.type with
   |some i=>if i.size=0 then none else some (x.offset,i.size)
   |none=>none
  |none=>none
 |_=>none
def zh5:Nat:=700
def below {a:Type}(T:Nat)(x:Option a):Option a:=cond (Nat.blt T zh5) x none
noncomputable def zo4 (a:FuncId->Option (List AV->Option (Bool×List AV)))(b:FuncId->Option (CV->Int->Option (Bool×CV×Int)))(c:FuncId->Option (List Bool×(List CV->List AV->Option (Bool×List CV×List AV))))(d:FuncId->Option (List Bool×Option (Nat×Nat×List (List Nat))×(List AV->Option (Bool×List AV)))):Cfg where
 P:=Tryz.prog
 sty T:=below T (zyJ Tryz.prog T)
 cty T:=below T (zc4 Tryz.prog 4 T)
 fof T f:=zwv Tryz.prog T f
 eqt T:=zGx.contains T
 ctr:=a
 mct:=b
 pct:=c
 tct:=d
abbrev zbd:=Nat->Prop
def big:Nat:=140737488355328
def zdG (t:Ty)(x:t.den):(t.cells x).length=t.wi:=by cases t<;>rfl
def zf7 (t:Ty):t.shape.length=t.wi:=by cases t<;>rfl
def zKa (t:Ty)(x:t.den):(t.cells x).map CV.ty=t.shape:=by cases t<;>rfl
def zkh {t:Ty}{a:LC}{x:t.den}(h:t.ofCells a=some x):t.cells x=a:=by
 cases t<;>simp only [Ty.ofCells]at h<;>split at h<;>first
  |(cases h;rfl)
  | (split at h
     .rename_i hh;cases hh;cases h;rfl
     .cases h)
  |cases h
inductive Rep (o:Bool) (w:World):Value->CV->zbd->Prop
 |i (k:IntKind) (n:Int) (S:zbd):Rep o w (.int k n) (.i k n) S
 |b (x:Bool) (S:zbd):Rep o w (.bool x) (.b x) S
 |nil (t:Ty) (S:zbd):Rep o w (.slice none 0 0) (.s t []) S
 |void (t:Ty) (a:Addr) (S:zbd) (ho:o=false):Rep o w (.slice (some a) 0 0) (.s t []) S
 |sl (t:Ty) (l:List t.den) (b off cap:Nat) (arr:Array Value) (e:TypeId) (fz:Nat×Nat) (V:Nat->Nat->Value) (K:Nat->Nat->zbd) (S:zbd)
  (hb:w.heap[b]?=some (.cells arr e fz)) (hfz:o=true->fz=(0,0))
  (hlen:l.length<=big) (hcap:l.length<=cap) (hsz:off+cap*t.wi<=arr.size)
  (hS:S b) (hsub:∀i j x,i<l.length->j<t.wi->K i j x->S x/\(o=true->x≠b))
  (hdis:o=true->∀i j i' j' x,i<l.length->j<t.wi->i'<l.length->j'<t.wi->K i j x->K i' j' x->i=i'/\j=j')
  (hv:∀i j,i<l.length->j<t.wi->arr[off+i*t.wi+j]?=some (V i j))
  (hc:∀i x,l[i]?=some x->∀j c,(t.cells x)[j]?=some c->Rep o w (V i j) c (K i j)) :
  Rep o w (.slice (some ⟨b,off,none⟩) l.length cap) (.s t l) S
def Rep.frame {o:Bool}{w w':World}{v:Value}{c:CV}{S:zbd}(h:Rep o w v c S)(B:∀x,S x->w'.heap[x]?=w.heap[x]?):Rep o w' v c S:=by induction h with|i k n S=>exact .i k n S|b x S=>exact .b x S|nil t S=>exact .nil t S|void t a S H=>exact .void t a S H|sl t l b z r q e D V K S E s p f u A d m I M L=>refine .sl t l b z r q e D V K S ((B b A).trans E) s p f u A d m I ?_;intro i x C j c g;have F:i<l.length:=(qA.1 C).1;have G:j<t.wi:=(by have:=(qA.1 g).1;rw[zdG] at this;exact this);exact L i x C j c g (λy J=>B y (d i j y F G J).1)
def Rep.weak {o:Bool}{w:World}{v:Value}{c:CV}{S S':zbd}(h:Rep o w v c S)(B:∀x,S x->S' x):Rep o w v c S':=by cases h with|i k n=>exact .i k n S'|b x=>exact .b x S'|nil t=>exact .nil t S'|void t a _ G=>exact .void t a S' G|sl t l b u q p e C V K _ E r m f s D d g H F=>exact .sl t l b u q p e C V K S' E r m f s (B _ D) (λi j x y z A=>⟨B _ (d i j x y z A).1,(d i j x y z A).2⟩) g H F
def Rep.ro {o:Bool}{w:World}{v:Value}{c:CV}{S:zbd}(h:Rep o w v c S):Rep false w v c S:=by induction h with|i k n S=>exact .i k n S|b x S=>exact .b x S|nil t S=>exact .nil t S|void t a S H=>exact .void t a S rfl|sl t l b r p m e u V K S z A f d q y g s E G F=>exact .sl t l b r p m e u V K S z (λh=>by cases h) f d q y (λi j x B C D=>⟨(g i j x B C D).1,λh=>by cases h⟩) (λh=>by cases h) E F
def Rep.len {o:Bool}{w:World}{v:Value}{t:Ty}{l:List t.den}{S:zbd}(h:Rep o w v (.s t l) S) :
 (∃a c,v = .slice a l.length c/\l.length<=c)/\l.length<=big:=by
 cases h with
 |nil=>exact⟨⟨none,0,rfl,qX _⟩,j7 _⟩
 |void t a _ n=>exact⟨⟨some a,0,rfl,qX _⟩,j7 _⟩
 |sl _ _ b j c g e k V K _ m i f d=>exact⟨⟨_,c,rfl,d⟩,f⟩
def Rep.int_inv {o:Bool}{w:World}{v:Value}{k:IntKind}{n:Int}{S:zbd}(h:Rep o w v (.i k n) S):v = .int k n:=by cases h;rfl
def Rep.bool_inv {o:Bool}{w:World}{v:Value}{x:Bool}{S:zbd}(h:Rep o w v (.b x) S):v = .bool x:=by cases h;rfl
def zbg (w:World):Ty->Value->List (Int×Nat)->Option Value
 |_,v,[]=>some v
 |t,.slice (some a) len _,(i,j)::p=>
  if 0<=i/\i.toNat<len then
   match t.shape[j]? with
   |some (.s b)=>match w.cell? ⟨a.block,a.off+i.toNat*t.wi+j,none⟩ with
    |some c=>zbg w b c p
    |none=>none
   |_=>none
  else none
 |_,_,_=>none
def zzq:Ty->List (Int×Nat)->Option Ty
 |t,[]=>some t
 |t,(_,j)::p=>match t.shape[j]? with
  |some (.s a)=>zzq a p
  |_=>none
def zMb {t:Ty}{x:t.den}{j:Nat}{c:CV}(h:(t.cells x)[j]?=some c):t.shape[j]?=some c.ty:=by have:=zKa t x;rw[<- this,qQ,h];rfl
def zCd {t:Ty}{x:t.den}{j:Nat}{a:CTy}(h:t.shape[j]?=some a):∃c,(t.cells x)[j]?=some c/\c.ty=a:=by have d:=zKa t x;rw[<- d,qQ]at h;cases b:(t.cells x)[j]? with|none=>rw[b]at h;cases h|some c=>rw[b]at h;exact⟨c,rfl,by simpa using h⟩
def zoh {c:CV}{t:Ty}(h:c.ty = .s t):∃l:List t.den,c = .s t l:=by cases c with|i k n=>cases h|b x=>cases h|s a l=>cases h;exact⟨l,rfl⟩
def D0 {w:World}{b o:Nat}{arr:LV}{e:TypeId}{a:Nat×Nat}(c:w.heap[b]?=some (.cells arr e a)):w.cell? ⟨b,o,none⟩=arr[o]?:=by simp[World.cell?,c]
def zon {a:Type}{l:List a}{i:Int}{d:a}(h:i.toNat<l.length):l[i.toNat]?=some (ix l i d):=by simp[ix,List.getD,qB h]
def Rep.at {o:Bool}{w:World}:∀(p:List (Int×Nat)) {v m:Value} {t:Ty} {l:List t.den} {S:zbd},Rep o w v (.s t l) S->zbg w t v p=some m->
 ∃(k:Ty) (u:List k.den) (S':zbd),ziZ t l p=some (.s k u)/\zzq t p=some k/\Rep o w m (.s k u) S'/\∀x,S' x->S x:=by
 intro p
 induction p with
 |nil=>intro v m t l S h a;simp only[zbg,qC]at a;subst a;exact⟨t,l,S,rfl,rfl,h,λ_ r=>r⟩
 |cons R p Q=>obtain⟨i,j⟩:=R;intro v m t l S h a;cases h with|nil=>simp[zbg]at a|void=>simp[zbg]at a|sl _ _ b U E D e X V K _ J M B y O Y g z P L=>simp only[zbg]at a;split at a;{rename_i q;split at a;{rename_i k d;rw[D0 J]at a;have A:j<t.wi:=(by rw[<- zf7];exact(qA.1 d).1);rw[P i.toNat j q.2 A]at a;simp only at a;obtain⟨c,f,n⟩:=zCd (x:=ix l i t.dflt) d;obtain⟨u,rfl⟩:=zoh n;have N:=L i.toNat _ (zon q.2) j _ f;obtain⟨W,T,C,F,G,H,I⟩:=Q N a;refine⟨W,T,C,?_,?_,H,λx r=>(g i.toNat j x q.2 A<|I x r).1⟩;{simp only [ziZ,f,F]};{simp only [zzq,d,G]}};{cases a}};{cases a}
def zdB {o:Bool}{w w':World}:∀(p:List (Int×Nat)) {v:Value} {t:Ty} {l:List t.den} {S:zbd},Rep o w v (.s t l) S->(∀x,S x->w'.heap[x]?=w.heap[x]?)->zbg w' t v p=zbg w t v p:=by intro p;induction p with|nil=>intro v t l S _ _;rfl|cons I p H=>obtain⟨i,j⟩:=I;intro v t l S h r;(cases h with|nil=>rfl|void=>simp[zbg]|sl _ _ b J A z e L V K _ m D y n E B d q F C=>simp only[zbg];split;{rename_i k;split;{rename_i N a;rw[D0 m,D0<|(r b B).trans m];have u:j<t.wi:=(by rw[<- zf7];exact(qA.1 a).1);rw[F i.toNat j k.2 u];simp only;obtain⟨c,f,g⟩:=zCd (x:=ix l i t.dflt) a;obtain⟨M,rfl⟩:=zoh g;exact H (C i.toNat _ (zon k.2) j _ f) (λx G=>r x (d i.toNat j x k.2 u G).1)};{rfl}};{rfl})
def zbaa {a:LC}{k:IntKind}{r:List CTy}(h:a.map CV.ty = .i k::r):∃n d,a = .i k n::d/\d.map CV.ty=r:=by cases a with|nil=>cases h|cons c a=>simp only[jG,List.cons.injEq]at h;(cases c with|i g n=>obtain⟨e,f⟩:=h;cases e;exact⟨n,a,rfl,f⟩|b x=>cases h.1|s t l=>cases h.1)
def z99 {a:LC}{r:List CTy}(h:a.map CV.ty = .b::r):∃x d,a = .b x::d/\d.map CV.ty=r:=by cases a with|nil=>cases h|cons c a=>simp only[jG,List.cons.injEq]at h;(cases c with|i e n=>cases h.1|b x=>exact⟨x,a,rfl,h.2⟩|s t l=>cases h.1)
def zbab {a:LC}{t:Ty}{r:List CTy}(h:a.map CV.ty = .s t::r):∃(l:List t.den) (d:LC),a = .s t l::d/\d.map CV.ty=r:=by cases a with|nil=>cases h|cons c a=>simp only[jG,List.cons.injEq]at h;(cases c with|i g n=>cases h.1|b x=>cases h.1|s j l=>obtain⟨e,f⟩:=h;cases e;exact⟨l,a,rfl,f⟩)
def zPw:∀{t:Ty} {c:LC},c.map CV.ty=t.shape->∃x,t.ofCells c=some x:=by
 intro t c h;cases t<;>simp only [Ty.shape]at h <;>
  (repeat (first
   |(obtain⟨n,a,b,d⟩:=zbaa h;subst b;clear h;rename _=>h)
   |(obtain⟨n,a,b,d⟩:=z99 h;subst b;clear h;rename _=>h)
   |(obtain⟨n,a,b,d⟩:=zbab h;subst b;clear h;rename _=>h))) <;>
  (cases (List.map_eq_nil_iff.1 h);first|exact⟨_,rfl⟩|exact⟨_,dif_pos rfl⟩)
def zi5 {c:Type}(l:List c)(b:Nat)(a:List c)(h:b+a.length<=l.length):(C0 l b a).length=l.length:=by simp[C0];omega
def zfA {c:Type}(l:List c)(a:Nat)(b:List c)(h:a+b.length<=l.length)(j:Nat)(d:a<=j)(e:j<a+b.length):(C0 l a b)[j]?=b[j-a]?:=by unfold C0;rw[kJ,qU (by simp;omega),qW (by simp;omega)];congr 1;simp;omega
def zfl {d:Type}(l:List d)(a:Nat)(b:List d)(h:a+b.length<=l.length)(j:Nat)(c:j<a\/a+b.length<=j):(C0 l a b)[j]?=l[j]?:=by unfold C0;rcases c with c|c;{rw [kJ,qW (by simp;omega),jP];simp[c]};{rw [kJ,qU (by simp;omega),qU (by simp;omega),jV];congr 1;simp;omega}
def z6f {c d:Type}(f:c->d)(l:List c)(b:Nat)(a:List c):(C0 l b a).map f=C0 (l.map f) b (a.map f):=by simp[C0,List.map_take,List.map_drop]
def zJR {d:Type}(l:List d)(a:Nat)(b:List d)(h:a+b.length<=l.length)(e:∀k,k<b.length->l[a+k]?=b[k]?):C0 l a b=l:=by apply uH;intro j;by_cases c:a<=j/\j<a+b.length;{rw [zfA l a b h j c.1 c.2,<- e (j-a) (by omega)];congr 1;omega};{rw [zfl l a b h j (by omega)]}
def zbcH {a:Type}{l:List a}{i:Int}{x:a}{k:Nat}(h:k<l.length):(up l i x)[k]?=if i.toNat=k then some x else l[k]?:=by unfold up;rw[jC];split;{rename_i b;subst b;simp[h]};{rfl}
def zfB {a:Type}(l:List a)(i:Int)(x:a):(up l i x).length=l.length:=by simp[up]
def Rep.focus {w:World}:∀(p:List (Int×Nat)) {v v':Value} {t:Ty} {l:List t.den} {S:zbd},Rep true w v (.s t l) S->zbg w t v p=some v'->
 ∃(U:Ty) (l':List U.den) (O:zbd),ziZ t l p=some (.s U l')/\zzq t p=some U/\Rep true w v' (.s U l') O/\(∀x,O x->S x)/\
  ∀(w':World) (l2:List U.den) (S2:zbd),(∀x,S x->¬ O x->w'.heap[x]?=w.heap[x]?)->(∀x,S2 x->S x->O x)->Rep true w' v' (.s U l2) S2->
   ∃m,zsU t l p (.s U l2)=some m/\Rep true w' v (.s t m) (λx=>(S x/\¬ O x)\/S2 x)/\
    (∀q u,zbg w t v q=some u->(∀q',q=p++q'->q'=[])->zbg w' t v q=some u)/\
    (∀q',zbg w' t v (p++q')=zbg w' U v' q'):=by
 intro p
 induction p with
 |nil=>intro v v' t l S h H;simp only[zbg,qC]at H;subst H;refine⟨t,l,S,rfl,rfl,h,λ_ A=>A,λw' l2 S2 _ _ h2=>⟨l2,by simp[zsU],h2.weak λx A=>.inr A,?_,λ_=>rfl⟩⟩;intro q u M hn;have:=hn q (by simp);subst this;exact M
 |cons ij p ih=>
  obtain⟨i,j⟩:=ij;intro v v' t l S h H;cases h with
  |nil=>simp[zbg]at H
  |void _ _ _ ho=>cases ho
  |sl _ _ b c5 b3 a5 e fz V K _ hb b6 c7 c6 c2 hS n G hv hc=>
   have c8:=H;simp only[zbg]at H;split at H;{rename_i X;split at H;{rename_i t0 N;rw[D0 hb]at H;have hj:j<t.wi:=(by rw[<- zf7];exact(qA.1 N).1);rw[hv i.toNat j X.2 hj]at H;simp only at H;obtain⟨c,a3,b5⟩:=zCd (x:=ix l i t.dflt) N;obtain⟨l0,rfl⟩:=zoh b5;have hr:=hc i.toNat _ (zon X.2) j _ a3;obtain⟨U,l',O,h1,h2,h3,h4,h5⟩:=ih hr H;have P:¬ O b:=λA=>(n i.toNat j b X.2 hj<|h4 b A).2 rfl rfl;refine⟨U,l',O,by simp only[ziZ,a3,h1],by simp only[zzq,N,h2],h3,λx A=>(n i.toNat j x X.2 hj<|h4 x A).1,?_⟩;intro w' l2 S2 F W b0;have a6:∀x,K i.toNat j x->S x:=λx A=>(n i.toNat j x X.2 hj A).1;obtain⟨m0,b7,b1,b9,c0⟩:=h5 w' l2 S2 (λx A hn=>F x (a6 x A) hn) (λx A E=>W x A (a6 x E)) b0;have a7:j+[CV.s t0 m0].length<=(t.cells<|ix l i t.dflt).length:=(by rw[zdG];simp;omega);have Z:(C0 (t.cells<|ix l i t.dflt) j [CV.s t0 m0]).map CV.ty=t.shape:=(by rw[z6f,zKa];refine zJR _ _ _ (by rw[zf7];simp;omega) ?_;intro k E;have:k=0:=(by simpa using E);subst this;simpa [CV.ty] using N);obtain⟨x',b2⟩:=zPw Z;have a0:=zkh b2;have a1:w'.heap[b]?=some (.cells a5 e fz):=(F b hS P).trans hb;have B:∀g f,g<l.length->f<t.wi->¬ (g=i.toNat/\f=j)->∀x,K g f x->¬ O x/\w'.heap[x]?=w.heap[x]?:=(by intro g f a d a4 x A;have hn:¬ O x:=λh=>a4 (G rfl g f i.toNat j x a d X.2 hj A (h4 x h));exact⟨hn,F x (n g f x a d A).1 hn⟩);refine⟨up l i x',?_,?_,?_,?_⟩;{simp only [zsU,a3,b7,b2]};{have R:(up l i x').length=l.length:=zfB _ _ _;rw[<- R];refine .sl t (up l i x') b c5 b3 a5 e fz V (λg f=>if g=i.toNat/\f=j then (λx=>(K g f x/\¬ O x)\/S2 x) else K g f) _ a1 b6 (by omega) (by omega) c2 (.inl ⟨hS,P⟩) ?_ ?_ (by rw[R];exact hv) ?_;{intro g f x a d E;rw[R]at a;split at E;{rename_i T;rcases E with⟨E,hn⟩|E;{exact⟨.inl ⟨(n g f x a d E).1,hn⟩,(n g f x a d E).2⟩};{refine⟨.inr E,λ_ c3=>?_⟩;subst c3;exact P (W x E hS)}};{rename_i T;exact⟨.inl ⟨(n g f x a d E).1,(B g f a d T x E).1⟩,(n g f x a d E).2⟩}};{intro _ g f i2 j2 x a d L Q z r;rw[R]at a L;split at z;{rename_i J;split at r;{rename_i D;exact⟨J.1.trans D.1.symm,J.2.trans D.2.symm⟩};{rename_i D;rcases z with⟨z,_⟩|z;{exact G rfl g f i2 j2 x a d L Q z r};{exact absurd (W x z (n i2 j2 x L Q r).1) (B i2 j2 L Q D x r).1}}};{rename_i J;split at r;{rename_i D;rcases r with⟨r,_⟩|r;{exact G rfl g f i2 j2 x a d L Q z r};{exact absurd (W x r (n g f x a d z).1) (B g f a d J x z).1}};{exact G rfl g f i2 j2 x a d L Q z r}}};{intro g y hy f c C;have a:g<l.length:=(by have:=(qA.1 hy).1;rwa [R] at this);have d:f<t.wi:=(by have:=(qA.1 C).1;rwa [zdG] at this);rw[zbcH a]at hy;by_cases T:g=i.toNat/\f=j;{obtain⟨J,D⟩:=T;subst J D;simp only[if_true,qC]at hy;subst hy;rw[a0,zfA _ _ _ a7 f (qX _) (by simp)]at C;simp only[k5,qI,qC]at C;subst C;simp only[and_self,if_true];exact b1};{simp only [T,if_false];have a2:∃y0,l[g]?=some y0/\(t.cells y0)[f]?=some c:=(by by_cases Y:i.toNat=g;{subst Y;simp only[if_true,qC]at hy;subst hy;have c9:f≠j:=λh=>T ⟨rfl,h⟩;rw[a0,zfl _ _ _ a7 f (by simp;omega)]at C;exact⟨_,zon X.2,C⟩};{simp only [Y,if_false]at hy;exact⟨y,hy,C⟩});obtain⟨y0,c4,a9⟩:=a2;exact(hc g y0 c4 f c a9).frame λx A=>(B g f a d T x A).2}}};{intro q u M a4;cases q with|nil=>exact M|cons ab q=>obtain⟨g,f⟩:=ab;simp only[zbg]at M ⊢;split at M;{rename_i a;rw[if_pos a];split at M;{rename_i t1 I;rw[D0 hb]at M;rw[D0 a1];have d:f<t.wi:=(by rw[<- zf7];exact(qA.1 I).1);rw[hv g.toNat f a.2 d]at M ⊢;simp only at M ⊢;by_cases T:g.toNat=i.toNat/\f=j;{have Y:g=i:=(by omega);obtain⟨_,rfl⟩:=T;subst Y;rw[N]at I;cases I;exact b9 q u M (λq' b8=>a4 q' (by simp[b8]))};{obtain⟨c1,b4,a8⟩:=zCd (x:=ix l g t.dflt) I;obtain⟨l1,rfl⟩:=zoh a8;rw[zdB q (hc g.toNat _ (zon a.2) f _ b4) λx A=>(B g.toNat f a.2 d T x A).2];exact M}};{cases M}};{cases M}};{intro q';have:=c0 q';simp only[kF,zbg];rw[if_pos X,N];simp only;rw[D0 a1,hv i.toNat j X.2 hj];exact this}};{cases H}};{cases H}
structure Env where
 ρ:Nat->Value
 φ:Nat->zbd
 β:Nat->Nat
 κ:World
def zbd8 (a w:World)(t:Ty)(v:Value)(J:List (List Nat)):Prop :=
 ∀p u,zbg a t v p=some u->J.any (λc=>c.isPrefixOf (cols p))=false->zbg w t v p=some u
def VA (w:World)(st:St)(E:Env):At->Value->Prop
 |.bad,_=>True
 |.i k n,v=>v = .int k n
 |.b x,v=>v = .bool x
 |.sl r p,v=>(∃a len c,v = .slice a len c)/\∀R,st.root r=some R->zbg w R.t (E.ρ r) p=some v
 |.lp l e,v=>(∃a,v = .pointer (some a))/\∀g,zy st.lo l=some g->v = .pointer (some ⟨E.β l,e,none⟩)
 |.ep r p i e,v=>(∃a,v = .pointer (some a))/\∀R,st.root r=some R->∃b o len c j,zbg w R.t (E.ρ r) p=some (.slice (some ⟨b,o,none⟩) len c)/\zzq R.t p=some j/\
  0<=i/\i.toNat<len/\v = .pointer (some ⟨b,o+i.toNat*j.wi+e,none⟩)
 |.fn f d,v=>∃h:LV,v = .func (.func f) #[] h/\h.size=d.length/\
  ∀(k l:Nat) (u:Value),d[k]?=some l->h[k]?=some u->(∃a,u = .pointer (some a))/\∀g,zy st.lo l=some g->u = .pointer (some ⟨E.β l,0,none⟩)
 |.kp r J t,v=>(∃a len c,v = .slice a len c)/\∀R,st.root r=some R->R.t=t/\E.ρ r=v/\zbd8 E.κ w t v J
def VT (w:World)(st:St)(E:Env):TV->Value->Prop
 |.at a,v=>VA w st E a v
 |.agg l,v=>∃b:LV,v = .agg b/\b.size=l.length/\∀(j:Nat) (a:At) (u:Value),l[j]?=some a->b[j]?=some u->u.oneCell'=true/\VA w st E a u
def VM (w:World)(st:St)(E:Env):MV->Value->Prop
 |.und,v=>v=undef
 |.v x,v=>VT w st E x v
 |.tup l,v=>∃a:LV,v = .tuple a/\a.size=l.length/\∀(j:Nat) (x:TV) (u:Value),l[j]?=some x->a[j]?=some u->VT w st E x u
def At.ids (a:At):List Nat:=zby a++zbG a
def MV.ids (m:MV):List Nat:=(zbL m).flatMap At.ids
structure Trans (st:St) (E:Env) (w:World) (st1:St) (E1:Env) (w1:World) (U:Nat->Prop):Prop where
 ro:∀r,U r->∀R1,st1.root r=some R1->∃R,st.root r=some R/\R1.t=R.t/\∀p u,zbg w R.t (E.ρ r) p=some u->zbg w1 R.t (E1.ρ r) p=some u
 lo:∀l,U l->∀cs1,zy st1.lo l=some cs1->(∃cs,zy st.lo l=some cs)/\E1.β l=E.β l
 κ:E1.κ=E.κ
section
variable {st st1:St} {E E1:Env} {w w1:World} {U:Nat->Prop}
def VA.tr (T:Trans st E w st1 E1 w1 U){a:At}{v:Value}(C:∀n∈a.ids,U n)(h:VA w st E a v):VA w1 st1 E1 a v:=by cases a with|bad=>trivial|i k n=>exact h|b x=>exact h|sl r p=>refine⟨h.1,λA c=>?_⟩;obtain⟨R,B,z,y⟩:=T.ro r (C r (by simp[At.ids,zby])) A c;rw[z];exact y p v (h.2 R B)|lp l I=>refine⟨h.1,λg d=>?_⟩;obtain⟨⟨G,m⟩,q⟩:=T.lo l (C l (by simp[At.ids,zby,zbG])) g d;rw[q];exact h.2 G m|ep r p i I=>refine⟨h.1,λA c=>?_⟩;obtain⟨R,B,z,y⟩:=T.ro r (C r (by simp[At.ids,zby])) A c;obtain⟨b,o,len,F,O,d,j,s⟩:=h.2 R B;exact⟨b,o,len,F,O,by rw[z];exact y p _ d,by rw[z];exact j,s⟩|fn f K=>obtain⟨P,d,j,s⟩:=h;refine⟨P,d,j,λk l u H M=>⟨(s k l u H M).1,λg D=>?_⟩⟩;obtain⟨⟨G,m⟩,q⟩:=T.lo l (C l (by simp only[At.ids,zby,zbG,jW];exact qJ H)) g D;rw[q];exact(s k l u H M).2 G m|kp r J t=>refine⟨h.1,λA c=>?_⟩;obtain⟨R,B,z,y⟩:=T.ro r (C r (by simp[At.ids,zby])) A c;have e:E1.ρ r=E.ρ r:=(by have:=y [] (E.ρ r) rfl;simpa [zbg] using this);obtain⟨d,j,s⟩:=h.2 R B;refine⟨z.trans d,e.trans j,λp u L N=>?_⟩;rw[T.κ]at L;have:=y p u (by rw[d,j];exact s p u L N);rwa [e,d,j] at this
def VT.tr (T:Trans st E w st1 E1 w1 U){x:TV}{v:Value}(d:∀a∈zZ x,∀n∈a.ids,U n)(h:VT w st E x v):VT w1 st1 E1 x v:=by rcases x with a|l;{exact VA.tr T (d a (by simp[zZ])) h};{obtain⟨i,f,g,c⟩:=h;exact⟨i,f,g,λj a u b e=>⟨(c j a u b e).1,VA.tr T (d a (by simp only[zZ];exact qJ b)) (c j a u b e).2⟩⟩}
def VM.tr (T:Trans st E w st1 E1 w1 U){m:MV}{v:Value}(i:∀n∈m.ids,U n)(h:VM w st E m v):VM w1 st1 E1 m v:=by have b:∀a∈zbL m,∀n∈a.ids,U n:=λa c n k=>i n (by simp only[MV.ids,qR];exact⟨a,c,k⟩);cases m with|und=>exact h|v x=>exact VT.tr T b h|tup l=>obtain⟨q,e,f,g⟩:=h;refine⟨q,e,f,λj x u d p=>VT.tr T (λa c=>b a ?_) (g j x u d p)⟩;simp only[zbL,qR];exact⟨x,qJ d,c⟩
end
structure Mem (w0:World) (S0:zbd) (st:St) (E:Env) (w:World):Prop where
 os:w.os=w0.os
 tape:w.tape=w0.tape
 output:w.output=w0.output
 size:w0.heap.size<=w.heap.size
 keep:∀b,b<w0.heap.size->¬ S0 b->w.heap[b]?=w0.heap[b]?
 rep:∀r R,st.root r=some R->Rep R.own w (E.ρ r) (.s R.t R.l) (E.φ r)
 rlt:∀r R,st.root r=some R->∀x,E.φ r x->x<w.heap.size
 mine:∀r R,st.root r=some R->R.own=true->R.ep=none/\∀x,E.φ r x->S0 x\/w0.heap.size<=x
 frz:¬ S0 w0.heap.size->∀r R,st.root r=some R->R.own=false->R.ep=none->R.t.flat=false->∀x,E.φ r x->S0 x\/w0.heap.size<=x
 apart:∀r R r' R',st.root r=some R->R.own=true->st.root r'=some R'->R'.ep=none->r≠r'->∀x,E.φ r x->¬ E.φ r' x
 loc:∀l cs,zy st.lo l=some cs->(S0 (E.β l)\/w0.heap.size<=E.β l)/\∃vals e,w.heap[E.β l]?=some (.cells vals e (0,0))/\vals.size=cs.length/\
  ∀(j:Nat) (c:At) (u:Value),cs[j]?=some c->vals[j]?=some u->u.oneCell'=true/\VA w st E c u
 linj:∀l l' cs cs',zy st.lo l=some cs->zy st.lo l'=some cs'->E.β l=E.β l'->l=l'
 lro:∀l cs r R,zy st.lo l=some cs->st.root r=some R->¬ E.φ r (E.β l)
 epo:∀r R e,zy st.ro r=some R->R.ep=some e->e<=st.ep
 κ:E.κ=w0
structure Ids (st:St) (U:Nat->Prop):Prop where
 ro:∀n R,zy st.ro n=some R->U n
 lo:∀n cs,zy st.lo n=some cs->U n/\∀a∈cs,∀m∈a.ids,U m
 tm:∀m∈st.tm,∀n∈m.ids,U n
 stk:∀f∈st.stk,∀m∈f,∀n∈m.ids,U n
def az (w:World)(b:St)(E:Env)(tm:List MV)(a:LV):Prop :=
 a.size=tm.length/\∀(i:Nat) (m:MV) (v:Value),tm[i]?=some m->a[i]?=some v->VM w b E m v
def Stack (w:World)(a:St)(E:Env):List (List MV)->List LV->Prop
 |[],[]=>True
 |f::r,b::s=>az w a E f b/\Stack w a E r s
 |_,_=>False
structure Sim (w0:World) (S0:zbd) (U:Nat->Prop) (st:St) (E:Env) (ts:Array Value) (sv:List (Array Value)) (w:World):Prop where
 mem:Mem w0 S0 st E w
 ids:Ids st U
 tm:az w st E st.tm ts
 stk:Stack w st E st.stk sv
def az.tr {st st1:St}{E E1:Env}{w w1:World}{U:Nat->Prop}(T:Trans st E w st1 E1 w1 U){tm:List MV}{b:LV}(c:∀m∈tm,∀n∈m.ids,U n)(h:az w st E tm b):az w1 st1 E1 tm b :=
 ⟨h.1,λi m v a d=>VM.tr T (c m<|qJ a) (h.2 i m v a d)⟩
def Stack.tr {st st1:St}{E E1:Env}{w w1:World}{U:Nat->Prop}(T:Trans st E w st1 E1 w1 U):∀{l:List (List MV)} {s:List LV},(∀f∈l,∀m∈f,∀n∈m.ids,U n)->Stack w st E l s->Stack w1 st1 E1 l s
 |[],[],_,_=>trivial
 |f::r,c::s,a,h=>⟨az.tr T (a f (by simp)) h.1,Stack.tr T (λf b=>a f (by simp[b])) h.2⟩
 |[],_::_,_,h=>h.elim
 |_::_,[],_,h=>h.elim
def zbM {c:Type}(l m:List (Nat×c))(n:Nat):zy (l++m) n=match zy l n with
 |some x=>some x
 |none=>zy m n:=by
 induction l with
 |nil=>rfl
 |cons a l b=>obtain⟨k,v⟩:=a;simp only[kF,zy];split;{rfl};{exact b}
def zp6 {c:Type}{l:List (Nat×c)}{n:Nat}{x:c}(h:zy l n=some x):(n,x)∈l:=by induction l with|nil=>cases h|cons a l d=>obtain⟨k,v⟩:=a;simp only[zy]at h;split at h;{rename_i b;simp only[qK]at b;subst b;cases h;exact jJ};{exact qZ _ (d h)}
def Sim.next {Q:World}{H:zbd}{U U1:Nat->Prop}{st st1:St}{E E1:Env}{X:LV}{W:List LV}{w w1:World}(h:Sim Q H U st E X W w)(p:Mem Q H st1 E1 w1)(T:Trans st E w st1 E1 w1 U)(t:st1.tm=st.tm)(A:st1.stk=st.stk)(L:∀n,U n->U1 n)(O:∀n R,zy st1.ro n=some R->U1 n)(N:∀n y,zy st1.lo n=some y->U1 n/\∀a∈y,∀m∈a.ids,U1 m){dst:Option Tmp}{mv:MV}{v:Value}(hv:VM w1 st1 E1 mv v)(P:∀n∈mv.ids,U1 n) :
 Sim Q H U1 (st1.put dst mv) E1 (({tmps:=X,defers:=[]}:Act).put dst v).tmps W w1:=by
 have b:(st1.put dst mv).ro=st1.ro/\(st1.put dst mv).lo=st1.lo/\(st1.put dst mv).stk=st1.stk/\(st1.put dst mv).ep=st1.ep:=by cases dst<;>exact⟨rfl,rfl,rfl,rfl⟩
 have g:∀r,(st1.put dst mv).root r=st1.root r:=fun r=>by simp only[St.root,b.1,b.2.2.2]
 have F:Trans st1 E1 w1 (st1.put dst mv) E1 w1 (fun _=>True):=
  ⟨fun r _ Z q=>⟨Z,by rw[<- g];exact q,rfl,fun _ _ h=>h⟩,fun l _ J q=>⟨⟨J,by rw[<- b.2.1];exact q⟩,rfl⟩,rfl⟩
 refine⟨?_,?_,?_,?_⟩
 .exact ⟨p.os,p.tape,p.output,p.size,p.keep,fun r R B=>p.rep r R (by rw[<- g];exact B),fun r R B=>p.rlt r R (by rw[<- g];exact B),
   fun r R B=>p.mine r R (by rw[<- g];exact B),fun hz r R B=>p.frz hz r R (by rw[<- g];exact B),fun r R r' Y q z K=>p.apart r R r' Y (by rw[<- g];exact q) z (by rw[<- g];exact K),
   fun l y hl=>by obtain⟨q,D,e,z,K,S⟩:=p.loc l y (by rw[<- b.2.1];exact hl);exact⟨q,D,e,z,K,fun j c u V x=>⟨(S j c u V x).1,VA.tr F (fun _ _=>trivial) (S j c u V x).2⟩⟩,
   fun l l' y I q z=>p.linj l l' y I (by rw[<- b.2.1];exact q) (by rw[<- b.2.1];exact z),
   fun l y r R q z=>p.lro l y r R (by rw[<- b.2.1];exact q) (by rw[<- g];exact z),
   fun r R e q z=>by rw[b.2.2.2];exact p.epo r R e (by rw[<- b.1];exact q) z,p.κ⟩
 .refine⟨fun n R s=>O n R (by rw[<- b.1];exact s),fun n y s=>N n y (by rw[<- b.2.1];exact s),?_,?_⟩
  .intro m k n s;cases dst with
   |none=>exact L n (h.ids.tm m (by simpa [St.put,t] using k) n s)
   |some d=>simp only[St.put]at k;rcases jD k with k|k;{exact L n (h.ids.tm m (by rw[<- t];exact k) n s)};{subst k;exact P n s}
  .intro f G m k n s;rw[b.2.2.1,A]at G;exact L n (h.ids.stk f G m k n s)
 .have hs:=az.tr T (fun m k n s=>h.ids.tm m k n s) h.tm;have C:=az.tr F (fun _ _ _ _=>trivial) hs;cases dst with
  |none=>simpa [St.put,Act.put,t] using C
  |some d=>refine⟨by simp[St.put,Act.put,t,hs.1],fun i m u k x=>?_⟩;simp only[St.put,t]at k;simp only[Act.put]at x;rw[jC]at k;rw[kM]at x;split at k;{rename_i M;subst M;rw[if_pos rfl]at x;split at k;{cases k;split at x;{cases x;exact VM.tr F (fun _ _=>trivial) hv};{cases x}};{cases k}};{rename_i M;rw[if_neg M]at x;exact C.2 i m u k x}
 .rw [b.2.2.1,A];exact Stack.tr F (fun _ _ _ _ _ _=>trivial) (Stack.tr T (fun f G m k n s=>h.ids.stk f G m k n s) h.stk)
section
variable {w0 w w1:World} {S0:zbd} {st:St} {E E1:Env} {U:Nat->Prop}
structure IdsM (st:St) (U:Nat->Prop):Prop where
 ro:∀n R,zy st.ro n=some R->U n
 lo:∀n cs,zy st.lo n=some cs->U n/\∀a∈cs,∀m∈a.ids,U m
def Ids.mem (h:Ids st U):IdsM st U:=⟨h.ro,h.lo⟩
def zbD {r:Nat}{R:Root}(h:st.root r=some R):zy st.ro r=some R/\(R.ep=none\/R.ep=some st.ep):=by unfold St.root at h;split at h;{rename_i Q a;split at h;{rename_i d;cases h;exact⟨a,.inl d⟩};{rename_i e c;split at h;{rename_i b;simp only[qK]at b;subst b;cases h;exact⟨a,.inr c⟩};{cases h}}};{cases h}
def zg5 {r:Nat}{R:Root}(h:zy st.ro r=some R)(a:R.ep=none\/R.ep=some st.ep):st.root r=some R:=by unfold St.root;rw[h];simp only;rcases a with a|a;{rw [a]};{rw [a];simp}
def Mem.addRootsO (h:Mem w0 S0 st E w)(I:IdsM st U){dro:List (Nat×Root)}(Y:w1.os=w.os)(Z:w1.tape=w.tape)(M:w1.output=w.output)(N:w.heap.size<=w1.heap.size)(m:∀x,x<w.heap.size->w1.heap[x]?=w.heap[x]?)(g:∀r R,zy dro r=some R->¬ U r/\R.ep=none/\Rep R.own w1 (E1.ρ r) (.s R.t R.l) (E1.φ r)/\∀x,E1.φ r x->w.heap.size<=x/\x<w1.heap.size)(X:∀r R z B,zy dro r=some R->R.own=true->zy dro z=some B->r≠z->∀x,E1.φ r x->¬ E1.φ z x)(a:∀n,U n->E1.ρ n=E.ρ n/\E1.φ n=E.φ n/\E1.β n=E.β n)(O:E1.κ=E.κ:=by rfl) :
 Mem w0 S0 {st with ro:=dro++st.ro} E1 w1/\Trans st E w {st with ro:=dro++st.ro} E1 w1 U:=by
 have d:∀r R,({st with ro:=dro++st.ro}:St).root r=some R->zy dro r=some R\/(st.root r=some R/\U r):=by intro r R f;obtain⟨A,G⟩:=zbD f;simp only[zbM]at A;split at A;{rename_i Q T;cases A;exact .inl T};{exact .inr ⟨zg5 A G,I.ro r R A⟩}
 have J:∀r R,st.root r=some R->∀x,E.φ r x->w1.heap[x]?=w.heap[x]?:=λr R f x k=>m x (h.rlt r R f x k);have hT:Trans st E w {st with ro:=dro++st.ro} E1 w1 U:=by refine⟨λr i H V=>?_,λl i P A=>⟨⟨P,A⟩,(a l i).2.2⟩,O⟩;rcases d r H V with v|⟨f,_⟩;{exact absurd i (g r H v).1};{refine⟨H,f,rfl,λp u hp=>?_⟩;rw[(a r i).1,zdB p (h.rep r H f)<|J r H f];exact hp}
 refine⟨⟨Y.trans h.os,Z.trans h.tape,M.trans h.output,qT h.size N,λb hb hS=>(m b<|jB hb h.size).trans (h.keep b hb hS),?_,?_,?_,?_,?_,?_,?_,?_,?_,O.trans h.κ⟩,hT⟩
 .intro r R f;rcases d r R f with v|⟨f,i⟩
  .obtain⟨_,_,hrep,_⟩:=g r R v;exact hrep
  .rw [(a r i).1,(a r i).2.1];exact(h.rep r R f).frame (J r R f)
 .intro r R f x k;rcases d r R f with v|⟨f,i⟩
  .exact((g r R v).2.2.2 x k).2
  .rw [(a r i).2.1]at k;exact jB (h.rlt r R f x k) N
 .intro r R f ho;rcases d r R f with v|⟨f,i⟩
  .obtain⟨_,he,_,k⟩:=g r R v;exact⟨he,λx q=>.inr (qT h.size (k x q).1)⟩
  .rw [(a r i).2.1];exact h.mine r R f ho
 .intro hz r R f ho he hf;rcases d r R f with v|⟨f,i⟩
  .obtain⟨_,_,_,k⟩:=g r R v;exact λx q=>.inr (qT h.size (k x q).1)
  .rw [(a r i).2.1];exact h.frz hz r R f ho he hf
 .intro r R z B f ho y he hne x k;rcases d r R f with v|⟨f,i⟩
  .rcases d z B y with F|⟨y,D⟩
   .exact X r R z B v ho F hne x k
   .rw [(a z D).2.1];intro q;have:=h.rlt z B y x q;have:=((g r R v).2.2.2 x k).1;omega
  .rw [(a r i).2.1]at k;rcases d z B y with F|⟨y,D⟩
   .intro q;have:=h.rlt r R f x k;have:=((g z B F).2.2.2 x q).1;omega
   .rw [(a z D).2.1];exact h.apart r R z B f ho y he hne x k
 .intro l cs hl;obtain⟨i,K⟩:=I.lo l cs hl;obtain⟨A,C,e,G,h3,S⟩:=h.loc l cs hl;rw[(a l i).2.2];have L:E.β l<w.heap.size:=(qO.1 G).1;exact⟨A,C,e,(m _ L).trans G,h3,λj c u W hu=>⟨(S j c u W hu).1,VA.tr hT (λn hn=>K c (qJ W) n hn) (S j c u W hu).2⟩⟩
 .intro l l' cs cs' hl hl' he;rw[(a l (I.lo l cs hl).1).2.2,(a l' (I.lo l' cs' hl').1).2.2]at he;exact h.linj l l' cs cs' hl hl' he
 .intro l cs r R hl f;have a0:=(a l (I.lo l cs hl).1).2.2;rw[a0];obtain⟨A,C,e,G,h3,S⟩:=h.loc l cs hl;have L:E.β l<w.heap.size:=(qO.1 G).1;rcases d r R f with v|⟨f,i⟩
  .intro k;have:=((g r R v).2.2.2 _ k).1;omega
  .rw [(a r i).2.1];exact h.lro l cs r R hl f
 .intro r R e f he;simp only[zbM]at f;split at f
  .rename_i T;cases f;rw[(g r R T).2.1]at he;cases he
  .exact h.epo r R e f he
def Mem.addRoots (h:Mem w0 S0 st E w)(z:IdsM st U){dro:List (Nat×Root)}(k:w1.os=w.os)(p:w1.tape=w.tape)(d:w1.output=w.output)(m:w.heap.size<=w1.heap.size)(a:∀x,x<w.heap.size->w1.heap[x]?=w.heap[x]?)(b:∀r R,zy dro r=some R->¬ U r/\R.own=true/\R.ep=none/\Rep true w1 (E1.ρ r) (.s R.t R.l) (E1.φ r)/\∀x,E1.φ r x->w.heap.size<=x/\x<w1.heap.size)(j:∀r R e f,zy dro r=some R->zy dro e=some f->r≠e->∀x,E1.φ r x->¬ E1.φ e x)(c:∀n,U n->E1.ρ n=E.ρ n/\E1.φ n=E.φ n/\E1.β n=E.β n)(q:E1.κ=E.κ:=by rfl) :
 Mem w0 S0 {st with ro:=dro++st.ro} E1 w1/\Trans st E w {st with ro:=dro++st.ro} E1 w1 U :=
 h.addRootsO z k p d m a (λr R A=>by
  obtain⟨g,i,u,v,y⟩:=b r R A;exact⟨g,u,by rw[i];exact v,y⟩) (λr R e f g _ i=>j r R e f g i) c q
def Mem.addLoc (h:Mem w0 S0 st E w)(W:IdsM st U){id:Nat}(O:¬ U id){f:LV}{e:TypeId}{v:List At}(Q:f.size=v.length)(H:∀(j:Nat) (c:At) (u:Value),v[j]?=some c->f[j]?=some u->u.oneCell'=true/\VA w st E c u)(N:∀a∈v,∀m∈a.ids,U m) :
 Mem w0 S0 {st with lo:=(id,v)::st.lo} {E with β:=λn=>if n=id then w.heap.size else E.β n} (w.alloc<|.cells f e (0,0))/\
  Trans st E w {st with lo:=(id,v)::st.lo} {E with β:=λn=>if n=id then w.heap.size else E.β n} (w.alloc<|.cells f e (0,0)) U:=by
 have k:∀x,x<w.heap.size->(w.alloc<|.cells f e (0,0)).heap[x]?=w.heap[x]?:=λx C=>heap_alloc_old w _ x C;have I:∀r R,st.root r=some R->∀x,E.φ r x->(w.alloc<|.cells f e (0,0)).heap[x]?=w.heap[x]?:=λr R y x C=>k x (h.rlt r R y x C);have s:∀l d,zy ((id,v)::st.lo) l=some d->(l=id/\d=v)\/(l≠id/\zy st.lo l=some d):=by intro l d i;simp only[zy]at i;split at i;{rename_i q;simp only[qK]at q;cases i;exact .inl ⟨q.symm,rfl⟩};{rename_i q;simp only[qK]at q;exact .inr ⟨λh=>q h.symm,i⟩}
 have M:Trans st E w {st with lo:=(id,v)::st.lo} {E with β:=λn=>if n=id then w.heap.size else E.β n} (w.alloc<|.cells f e (0,0)) U:=by refine⟨λr T F G=>⟨F,G,rfl,λp u Y=>?_⟩,λl T d L=>?_,rfl⟩;{have y:st.root r=some F:=G;show zbg (w.alloc<|.cells f e (0,0)) F.t (E.ρ r) p=some u;rw[zdB p (h.rep r F y)<|I r F y];exact Y};{have g:l≠id:=λq=>O (q ▸ T);rcases s l d L with⟨q,_⟩|⟨_,D⟩;{exact absurd q g};{exact⟨⟨d,D⟩,by simp[g]⟩}}
 refine⟨⟨h.os,h.tape,h.output,by simp;have:=h.size;omega,λb V X=>(k b<|jB V h.size).trans (h.keep b V X),λr R y=>(h.rep r R y).frame (I r R y),
  λr R y x C=>by simp;exact Nat.lt_succ_of_lt (h.rlt r R y x C),h.mine,h.frz,h.apart,?_,?_,?_,h.epo,h.κ⟩,M⟩
 .intro l d i;rcases s l d i with⟨rfl,rfl⟩|⟨g,i⟩
  .refine⟨.inr (by simp;exact h.size),f,e,by simp only[if_true];exact heap_alloc_new w _,Q,λj c u B K=>⟨(H j c u B K).1,VA.tr M (λn P=>N c (qJ B) n P) (H j c u B K).2⟩⟩
  .obtain⟨L,z,S,D,h3,h4⟩:=h.loc l d i;have A:E.β l<w.heap.size:=(qO.1 D).1;simp only[g,if_false];exact⟨L,z,S,(k _ A).trans D,h3,λj c u B K=>⟨(h4 j c u B K).1,VA.tr M (λn P=>(W.lo l d i).2 c (qJ B) n P) (h4 j c u B K).2⟩⟩
 .intro l l' d cs2 i hl' q;have A:∀l v,zy st.lo l=some v->E.β l<w.heap.size:=λl v i=>by obtain⟨_,z,S,D,_⟩:=h.loc l v i;exact(qO.1 D).1
  rcases s l d i with⟨rfl,rfl⟩|⟨g,J⟩
  .rcases s l' cs2 hl' with⟨rfl,rfl⟩|⟨hne',hl2'⟩
   .rfl
   .simp only [if_true,hne',if_false]at q;have:=A l' cs2 hl2';omega
  .rcases s l' cs2 hl' with⟨rfl,rfl⟩|⟨hne',hl2'⟩
   .simp only [if_true,g,if_false]at q;have:=A l d J;omega
   .simp only [g,hne',if_false]at q;exact h.linj l l' d cs2 J hl2' q
 .intro l d r R i y;rcases s l d i with⟨rfl,rfl⟩|⟨g,i⟩
  .simp only [if_true];intro C;have:=h.rlt r R y _ C;omega
  .simp only [g,if_false];exact h.lro l d r R i y
def Mem.stLoc (h:Mem w0 S0 st E w)(Y:IdsM st U){l:Nat}{v cs':List At}(z:zy st.lo l=some v){vals':LV}{e':TypeId}(S:w1.os=w.os)(T:w1.tape=w.tape)(H:w1.output=w.output)(I:w1.heap.size=w.heap.size)(i:∀x,x≠E.β l->w1.heap[x]?=w.heap[x]?)(G:w1.heap[E.β l]?=some (.cells vals' e' (0,0)))(J:vals'.size=cs'.length)(C:∀(j:Nat) (c:At) (u:Value),cs'[j]?=some c->vals'[j]?=some u->u.oneCell'=true/\VA w st E c u)(P:∀a∈cs',∀m∈a.ids,U m) :
 Mem w0 S0 {st with lo:=(l,cs')::st.lo} E w1/\Trans st E w {st with lo:=(l,cs')::st.lo} E w1 U:=by
 have D:∀r R,st.root r=some R->∀x,E.φ r x->w1.heap[x]?=w.heap[x]?:=λr R s x V=>i x (λg=>h.lro l v r R z s (g ▸ V));have q:∀k d,zy ((l,cs')::st.lo) k=some d->(k=l/\d=cs')\/(k≠l/\zy st.lo k=some d):=by intro k d f;simp only[zy]at f;split at f;{rename_i g;simp only[qK]at g;cases f;exact .inl ⟨g.symm,rfl⟩};{rename_i g;simp only[qK]at g;exact .inr ⟨λh=>g h.symm,f⟩}
 have O:Trans st E w {st with lo:=(l,cs')::st.lo} E w1 U:=by refine⟨λr Z L B=>⟨L,B,rfl,λp u hp=>?_⟩,λk Z d M=>?_,rfl⟩;{have s:st.root r=some L:=B;rw[zdB p (h.rep r L s)<|D r L s];exact hp};{rcases q k d M with⟨rfl,_⟩|⟨_,N⟩;{exact⟨⟨v,z⟩,rfl⟩};{exact⟨⟨d,N⟩,rfl⟩}}
 obtain⟨t,X,e,a0,a1,a2⟩:=h.loc l v z;refine⟨⟨S.trans h.os,T.trans h.tape,H.trans h.output,by rw[I];exact h.size,λb hb W=>?_,λr R s=>(h.rep r R s).frame (D r R s),
  λr R s x V=>by rw[I];exact h.rlt r R s x V,h.mine,h.frz,h.apart,?_,?_,?_,h.epo,h.κ⟩,O⟩
 .refine(i b λg=>?_).trans (h.keep b hb W);subst g;rcases t with t|t
  .exact W t
  .omega
 .intro k d f;rcases q k d f with⟨rfl,rfl⟩|⟨A,f⟩
  .exact⟨t,vals',e',G,J,λj c u y K=>⟨(C j c u y K).1,VA.tr O (λn Q=>P c (qJ y) n Q) (C j c u y K).2⟩⟩
  .obtain⟨M,vals2,e2,N,h3,h4⟩:=h.loc k d f;refine⟨M,vals2,e2,(i _ λg=>A (h.linj k l d v f z g)).trans N,h3,λj c u y K=>⟨(h4 j c u y K).1,VA.tr O (λn Q=>(Y.lo k d f).2 c (qJ y) n Q) (h4 j c u y K).2⟩⟩
 .intro k k' d cs2 f hk' g;rcases q k d f with⟨rfl,rfl⟩|⟨A,F⟩
  .rcases q k' cs2 hk' with⟨rfl,rfl⟩|⟨hne',hk2'⟩
   .rfl
   .exact h.linj k k' v cs2 z hk2' g
  .rcases q k' cs2 hk' with⟨rfl,rfl⟩|⟨hne',hk2'⟩
   .exact h.linj k k' d v F z g
   .exact h.linj k k' d cs2 F hk2' g
 .intro k d r R f s;rcases q k d f with⟨rfl,rfl⟩|⟨A,f⟩
  .exact h.lro k v r R z s
  .exact h.lro k d r R f s
def Mem.mut (h:Mem w0 S0 st E w)(hI:IdsM st U){r:Nat}{R:Root}(z:st.root r=some R)(M:R.own=true){m:List R.t.den}(Y:w1.os=w.os)(Z:w1.tape=w.tape)(G:w1.output=w.output)(I:w1.heap.size=w.heap.size)(i:∀x,¬ E.φ r x->w1.heap[x]?=w.heap[x]?)(H:Rep true w1 (E.ρ r) (.s R.t m) (E.φ r))(F:∀p u,zbg w R.t (E.ρ r) p=some u->zbg w1 R.t (E.ρ r) p=some u) :
 Mem w0 S0 {st with ro:=(r,{R with l:=m})::st.ro,ep:=st.ep+1} E w1/\Trans st E w {st with ro:=(r,{R with l:=m})::st.ro,ep:=st.ep+1} E w1 U:=by
 obtain⟨C,D⟩:=h.mine r R z M;have d:∀q Q,({st with ro:=(r,{R with l:=m})::st.ro,ep:=st.ep+1}:St).root q=some Q->
  (q=r/\Q={R with l:=m})\/(q≠r/\st.root q=some Q/\Q.ep=none):=by
  intro q Q a;obtain⟨k,v⟩:=zbD a;simp only[zy]at k;split at k
  .rename_i he;simp only[qK]at he;cases k;exact .inl ⟨he.symm,rfl⟩
  .rename_i he;simp only[qK]at he;refine .inr ⟨λh=>he h.symm,?_⟩;rcases v with v|v
   .exact⟨zg5 k<|.inl v,v⟩
   .have:=h.epo q Q _ k v;simp only at this;omega
 have y:∀q Q,q≠r->st.root q=some Q->Q.ep=none->∀x,E.φ q x->w1.heap[x]?=w.heap[x]? :=
  λq Q f a V x A=>i x (λa0=>h.apart r R q Q z M a V (λe=>f e.symm) x a0 A)
 have hT:Trans st E w {st with ro:=(r,{R with l:=m})::st.ro,ep:=st.ep+1} E w1 U:=by refine⟨λq hU Q V=>?_,λl hU N k=>⟨⟨N,k⟩,rfl⟩,rfl⟩;rcases d q Q V with⟨rfl,rfl⟩|⟨f,a,g⟩;{exact⟨R,z,rfl,F⟩};{refine⟨Q,a,rfl,λp u hp=>?_⟩;rw[zdB p (h.rep q Q a)<|y q Q f a g];exact hp}
 refine⟨⟨Y.trans h.os,Z.trans h.tape,G.trans h.output,by rw[I];exact h.size,?_,?_,?_,?_,?_,?_,?_,h.linj,?_,?_,h.κ⟩,hT⟩
 .intro b hb hS;refine(i b λA=>?_).trans (h.keep b hb hS);rcases D b A with k|k
  .exact hS k
  .omega
 .intro q Q a;rcases d q Q a with⟨rfl,rfl⟩|⟨f,a,g⟩
  .simp only [M];exact H
  .exact(h.rep q Q a).frame (y q Q f a g)
 .intro q Q a x A;rw[I];rcases d q Q a with⟨rfl,rfl⟩|⟨f,a,g⟩
  .exact h.rlt q R z x A
  .exact h.rlt q Q a x A
 .intro q Q a hoq;rcases d q Q a with⟨rfl,rfl⟩|⟨f,a,g⟩
  .exact⟨C,D⟩
  .exact h.mine q Q a hoq
 .intro hz q Q a hoq he hf;rcases d q Q a with⟨rfl,rfl⟩|⟨f,a,g⟩
  .exact D
  .exact h.frz hz q Q a hoq he hf
 .intro q Q q' Q' a hoq B he f x A;have k:∃K,st.root q=some K/\K.own=true:=by rcases d q Q a with⟨rfl,rfl⟩|⟨_,a,_⟩;{exact⟨R,z,M⟩};{exact⟨Q,a,hoq⟩}
  have v:∃L,st.root q'=some L/\L.ep=none:=by rcases d q' Q' B with⟨rfl,rfl⟩|⟨_,B,W⟩;{exact⟨R,z,C⟩};{exact⟨Q',B,W⟩}
  obtain⟨K,O,P⟩:=k;obtain⟨L,S,T⟩:=v;exact h.apart q K q' L O P S T f x A
 .intro l cs hl;obtain⟨k,J,e,v,h3,h4⟩:=h.loc l cs hl;exact⟨k,J,e,(i _<|h.lro l cs r R hl z).trans v,h3,λj c u X hu=>⟨(h4 j c u X hu).1,VA.tr hT (λn hn=>(hI.lo l cs hl).2 c (qJ X) n hn) (h4 j c u X hu).2⟩⟩
 .intro l cs q Q hl a;rcases d q Q a with⟨rfl,rfl⟩|⟨f,a,g⟩
  .exact h.lro l cs q R hl z
  .exact h.lro l cs q Q hl a
 .intro q Q e a he;simp only[zy]at a;split at a
  .cases a;simp only[C]at he;cases he
  .exact uY (h.epo q Q e a he)
def zor {st:St}:∀(a:List Nat) (q:Nat) (Q:Root),zy (moved st a) q=some Q->q∈a/\∃R,zy st.ro q=some R/\Q={R with own:=false,ep:=some (st.ep+1)}:=by intro a;induction a with|nil=>intro q Q h;cases h|cons k a e=>intro q Q h;simp only[moved]at h;split at h;{rename_i R f;simp only[zy]at h;split at h;{rename_i d;simp only[qK]at d;subst d;cases h;exact⟨by simp,R,f,rfl⟩};{obtain⟨b,c⟩:=e q Q h;exact⟨by simp[b],c⟩}};{obtain⟨b,c⟩:=e q Q h;exact⟨by simp[b],c⟩}
def zPs {st:St}:∀(b:List Nat) (q:Nat),zy (moved st b) q=none->q∈b->zy st.ro q=none:=by
 intro b
 induction b with
 |nil=>intro q _ h;cases h
 |cons k b f=>intro q h e;simp only[moved]at h;split at h;{rename_i R c;simp only[zy]at h;split at h;{cases h};{rename_i d;simp only[qK]at d;rcases qG.1 e with a|a;{exact absurd a.symm d};{exact f q h a}}};{rename_i c;rcases qG.1 e with a|a;{subst a;exact c};{exact f q h a}}
def Mem.merge (h:Mem w0 S0 st E w)(hI:IdsM st U){id:Nat}(Z:¬ U id){D:List Nat}{t:Ty}{m:List t.den}{v:Value}{O:zbd}(H:∀k∈D,∃R,st.root k=some R/\R.own=true)(a6:w1.os=w.os)(a7:w1.tape=w.tape)(a1:w1.output=w.output)(P:w.heap.size<=w1.heap.size)(G:∀x,x<w.heap.size->(∀k∈D,¬ E.φ k x)->w1.heap[x]?=w.heap[x]?)(N:∀x,O x->(∃k∈D,E.φ k x)\/(w.heap.size<=x/\x<w1.heap.size))(a2:Rep true w1 v (.s t m) O)(T:∀k∈D,∀R,st.root k=some R->Rep false w1 (E.ρ k) (.s R.t R.l) (E.φ k)/\∀p u,zbg w R.t (E.ρ k) p=some u->zbg w1 R.t (E.ρ k) p=some u) :
 Mem w0 S0 {st with ro:=(id,zdN t m)::moved st D++st.ro,ep:=st.ep+1} {E with ρ:=λn=>if n=id then v else E.ρ n,φ:=λn=>if n=id then O else E.φ n} w1/\
  Trans st E w {st with ro:=(id,zdN t m)::moved st D++st.ro,ep:=st.ep+1} {E with ρ:=λn=>if n=id then v else E.ρ n,φ:=λn=>if n=id then O else E.φ n} w1 U:=by
 have f:∀q Q,({st with ro:=(id,zdN t m)::moved st D++st.ro,ep:=st.ep+1}:St).root q=some Q->
  (q=id/\Q=zdN t m)\/(q≠id/\q∈D/\∃R,st.root q=some R/\R.own=true/\Q={R with own:=false,ep:=some (st.ep+1)})\/(q≠id/\q∉D/\st.root q=some Q/\Q.ep=none):=by
  intro q Q z;obtain⟨B,L⟩:=zbD z;simp only[kF,zy]at B;split at B
  .rename_i he;simp only[qK]at he;cases B;exact .inl ⟨he.symm,rfl⟩
  .rename_i he;simp only[qK]at he;have a:q≠id:=λh=>he h.symm;rw[zbM]at B;split at B
   .rename_i Q' hQ';cases B;obtain⟨hm,R,y,rfl⟩:=zor D q _ hQ';obtain⟨R2,X,Y⟩:=H q hm;have:=(zbD X).1;rw[y] at this;cases this;exact .inr (.inl ⟨a,hm,R,X,Y,rfl⟩)
   .rename_i hnone;have r:q∉D:=λhm=>by have:=zPs D q hnone hm;rw[this]at B;cases B
    refine .inr (.inr ⟨a,r,?_⟩);rcases L with L|L
    .exact⟨zg5 B<|.inl L,L⟩
    .have:=h.epo q Q _ B L;simp only at this;omega
 have V:∀q Q,q∉D->st.root q=some Q->Q.ep=none->∀x,E.φ q x->w1.heap[x]?=w.heap[x]?:=by intro q Q r z hQ x d;refine G x (h.rlt q Q z x d) (λk i a8=>?_);obtain⟨R,y,F⟩:=H k i;exact h.apart k R q Q y F z hQ (λe=>r (e ▸ i)) x a8 d
 have a9:∀q R,st.root q=some R->q≠id:=λq R z e=>Z (e ▸ hI.ro q R (zbD z).1);have hT:Trans st E w {st with ro:=(id,zdN t m)::moved st D++st.ro,ep:=st.ep+1} {E with ρ:=λn=>if n=id then v else E.ρ n,φ:=λn=>if n=id then O else E.φ n} w1 U:=by refine⟨λq hU Q hQ=>?_,λl hU a3 B=>⟨⟨a3,B⟩,rfl⟩,rfl⟩;rcases f q Q hQ with⟨rfl,rfl⟩|⟨a,i,R,y,_,rfl⟩|⟨a,r,g,A⟩;{exact absurd hU Z};{exact⟨R,y,rfl,by simp only[a,if_false];exact(T q i R y).2⟩};{refine⟨Q,g,rfl,λp u hp=>?_⟩;simp only[a,if_false];rw[zdB p (h.rep q Q g)<|V q Q r g A];exact hp}
 have I:∀k∈D,∀x,E.φ k x->(S0 x\/w0.heap.size<=x)/\x<w.heap.size:=by intro k i x d;obtain⟨R,y,F⟩:=H k i;exact⟨(h.mine k R y F).2 x d,h.rlt k R y x d⟩
 refine⟨⟨a6.trans h.os,a7.trans h.tape,a1.trans h.output,qT h.size P,?_,?_,?_,?_,?_,?_,?_,h.linj,?_,?_,h.κ⟩,hT⟩
 .intro b hb hS;refine(G b (jB hb h.size) λk i d=>?_).trans (h.keep b hb hS);rcases (I k i b d).1 with B|B
  .exact hS B
  .omega
 .intro q Q z;rcases f q Q z with⟨rfl,rfl⟩|⟨a,i,R,y,_,rfl⟩|⟨a,r,g,A⟩
  .simp only [zdN,if_true];exact a2
  .simp only [a,if_false];exact(T q i R y).1
  .simp only [a,if_false];exact(h.rep q Q g).frame (V q Q r g A)
 .intro q Q z x d;rcases f q Q z with⟨rfl,rfl⟩|⟨a,i,R,y,_,rfl⟩|⟨a,r,g,A⟩
  .simp only [if_true]at d;rcases N x d with⟨k,i,d⟩|d
   .exact jB (I k i x d).2 P
   .exact d.2
  .simp only [a,if_false]at d;exact jB (h.rlt q R y x d) P
  .simp only [a,if_false]at d;exact jB (h.rlt q Q g x d) P
 .intro q Q z hoq;rcases f q Q z with⟨rfl,rfl⟩|⟨a,i,R,y,_,rfl⟩|⟨a,r,g,A⟩
  .refine⟨rfl,λx d=>?_⟩;simp only[if_true]at d;rcases N x d with⟨k,i,d⟩|d
   .exact(I k i x d).1
   .exact .inr (qT h.size d.1)
  .cases hoq
  .simp only [a,if_false];exact h.mine q Q g hoq
 .intro hz q Q z hoq he hf;rcases f q Q z with⟨rfl,rfl⟩|⟨a,i,R,y,_,rfl⟩|⟨a,r,g,A⟩
  .cases hoq
  .cases he
  .simp only [a,if_false];exact h.frz hz q Q g hoq he hf
 .intro q Q q' Q' z hoq hq' he hnn x d;rcases f q Q z with⟨rfl,rfl⟩|⟨a,i,R,y,_,rfl⟩|⟨a,r,g,A⟩
  .rcases f q' Q' hq' with⟨rfl,rfl⟩|⟨C,a5,R',a4,_,rfl⟩|⟨C,S,J,M⟩
   .exact absurd rfl hnn
   .cases he
   .simp only [if_true]at d;simp only[C,if_false];rcases N x d with⟨k,i,d⟩|d
    .obtain⟨R,y,F⟩:=H k i;exact h.apart k R q' Q' y F J M (λe=>S (e ▸ i)) x d
    .intro K;have:=h.rlt q' Q' J x K;omega
  .cases hoq
  .simp only [a,if_false]at d;rcases f q' Q' hq' with⟨rfl,rfl⟩|⟨C,a5,R',a4,_,rfl⟩|⟨C,S,J,M⟩
   .simp only [if_true];intro K;rcases N x K with⟨k,i,K⟩|K
    .obtain⟨R,y,F⟩:=H k i;exact h.apart k R q Q y F g A (λe=>r (e ▸ i)) x K d
    .have:=h.rlt q Q g x d;omega
   .cases he
   .simp only [C,if_false];exact h.apart q Q q' Q' g hoq J M hnn x d
 .intro l cs hl;obtain⟨B,W,e,L,h3,h4⟩:=h.loc l cs hl;have a0:E.β l<w.heap.size:=(qO.1 L).1;refine⟨B,W,e,(G _ a0 λk i d=>?_).trans L,h3,λj c u hc hu=>⟨(h4 j c u hc hu).1,VA.tr hT (λn hn=>(hI.lo l cs hl).2 c (qJ hc) n hn) (h4 j c u hc hu).2⟩⟩;obtain⟨R,y,_⟩:=H k i;exact h.lro l cs k R hl y d
 .intro l cs q Q hl z;obtain⟨B,W,e,L,h3,h4⟩:=h.loc l cs hl;have a0:E.β l<w.heap.size:=(qO.1 L).1;rcases f q Q z with⟨rfl,rfl⟩|⟨a,i,R,y,_,rfl⟩|⟨a,r,g,A⟩
  .simp only [if_true];intro d;rcases N _ d with⟨k,i,d⟩|d
   .obtain⟨R,y,_⟩:=H k i;exact h.lro l cs k R hl y d
   .omega
  .simp only [a,if_false];exact h.lro l cs q R hl y
  .simp only [a,if_false];exact h.lro l cs q Q hl g
 .intro q Q e z he;simp only[kF,zy]at z;split at z
  .cases z;cases he
  .rw [zbM]at z;split at z
   .rename_i Q' hQ';cases z;obtain⟨_,R,_,rfl⟩:=zor D q _ hQ';simp only[qC]at he;subst he;exact qX _
   .exact uY (h.epo q Q e z he)
def zwx {st:St}:∀(a:List Nat) (q:Nat) (Q:Root),zy (zgw st a) q=some Q->q∈a/\∃R,zy st.ro q=some R/\Q={R with own:=false}:=by intro a;induction a with|nil=>intro q Q h;cases h|cons k a e=>intro q Q h;simp only[zgw]at h;split at h;{rename_i R f;simp only[zy]at h;split at h;{rename_i d;simp only[qK]at d;subst d;cases h;exact⟨by simp,R,f,rfl⟩};{obtain⟨b,c⟩:=e q Q h;exact⟨by simp[b],c⟩}};{obtain⟨b,c⟩:=e q Q h;exact⟨by simp[b],c⟩}
def zYk {st:St}:∀(b:List Nat) (q:Nat),zy (zgw st b) q=none->q∈b->zy st.ro q=none:=by
 intro b
 induction b with
 |nil=>intro q _ h;cases h
 |cons k b f=>intro q h e;simp only[zgw]at h;split at h;{rename_i R c;simp only[zy]at h;split at h;{cases h};{rename_i d;simp only[qK]at d;rcases qG.1 e with a|a;{exact absurd a.symm d};{exact f q h a}}};{rename_i c;rcases qG.1 e with a|a;{subst a;exact c};{exact f q h a}}
def Mem.freeze (h:Mem w0 S0 st E w)(hI:IdsM st U){id:Nat}(Y:¬ U id){C:List Nat}{t:Ty}{m:List t.den}{v:Value}{J:zbd}(Z:∀k∈C,∃R,st.root k=some R/\(R.own=true\/(R.ep=none/\R.t.flat=false)))(a8:w1.os=w.os)(a9:w1.tape=w.tape)(a2:w1.output=w.output)(M:w.heap.size<=w1.heap.size)(B:∀x,x<w.heap.size->w1.heap[x]?=w.heap[x]?)(O:∀x,J x->(∃k∈C,E.φ k x)\/(w.heap.size<=x/\x<w1.heap.size))(a4:Rep false w1 v (.s t m) J) :
 Mem w0 S0 {st with ro:=(id,⟨t,m,false,none⟩)::zgw st C++st.ro} {E with ρ:=λn=>if n=id then v else E.ρ n,φ:=λn=>if n=id then J else E.φ n} w1/\
  Trans st E w {st with ro:=(id,⟨t,m,false,none⟩)::zgw st C++st.ro} {E with ρ:=λn=>if n=id then v else E.ρ n,φ:=λn=>if n=id then J else E.φ n} w1 U:=by
 have G:∀k∈C,∃R,st.root k=some R/\R.ep=none/\(R.own=true\/R.t.flat=false):=λk y=>by obtain⟨R,i,K⟩:=Z k y;rcases K with L|⟨A,X⟩;{exact⟨R,i,(h.mine k R i L).1,.inl L⟩};{exact⟨R,i,A,.inr X⟩}
 have g:∀q Q,({st with ro:=(id,⟨t,m,false,none⟩)::zgw st C++st.ro}:St).root q=some Q->
  (q=id/\Q=⟨t,m,false,none⟩)\/(q≠id/\q∈C/\∃R,st.root q=some R/\R.ep=none/\Q={R with own:=false})\/(q≠id/\q∉C/\st.root q=some Q):=by
  intro q Q r;obtain⟨D,S⟩:=zbD r;simp only[kF,zy]at D;split at D
  .rename_i A;simp only[qK]at A;cases D;exact .inl ⟨A.symm,rfl⟩
  .rename_i A;simp only[qK]at A;have a:q≠id:=λh=>A h.symm;rw[zbM]at D;split at D
   .rename_i Q' hQ';cases D;obtain⟨hm,R,i,rfl⟩:=zwx C q _ hQ';obtain⟨R2,T,V,_⟩:=G q hm;have:=(zbD T).1;rw[i] at this;cases this;exact .inr (.inl ⟨a,hm,R,T,V,rfl⟩)
   .rename_i hnone;have z:q∉C:=λhm=>by have:=zYk C q hnone hm;rw[this]at D;cases D
    exact .inr (.inr ⟨a,z,zg5 D S⟩)
 have F:∀q Q,st.root q=some Q->∀x,E.φ q x->w1.heap[x]?=w.heap[x]?:=λq Q r x f=>B x (h.rlt q Q r x f);have b0:∀q R,st.root q=some R->q≠id:=λq R r e=>Y (e ▸ hI.ro q R (zbD r).1);have hT:Trans st E w {st with ro:=(id,⟨t,m,false,none⟩)::zgw st C++st.ro} {E with ρ:=λn=>if n=id then v else E.ρ n,φ:=λn=>if n=id then J else E.φ n} w1 U:=by refine⟨λq hU Q hQ=>?_,λl hU a5 D=>⟨⟨a5,D⟩,rfl⟩,rfl⟩;rcases g q Q hQ with⟨rfl,rfl⟩|⟨a,y,R,i,_,rfl⟩|⟨a,z,d⟩;{exact absurd hU Y};{refine⟨R,i,rfl,λp u hp=>?_⟩;simp only[a,if_false];rw[zdB p (h.rep q R i)<|F q R i];exact hp};{refine⟨Q,d,rfl,λp u hp=>?_⟩;simp only[a,if_false];rw[zdB p (h.rep q Q d)<|F q Q d];exact hp}
 have a1:∀k∈C,∀x,E.φ k x->x<w.heap.size:=by intro k y x f;obtain⟨R,i,_⟩:=G k y;exact h.rlt k R i x f
 have H:¬ S0 w0.heap.size->∀k∈C,∀x,E.φ k x->S0 x\/w0.heap.size<=x:=by
  intro hz k y x f;obtain⟨R,i,A,K⟩:=G k y;cases L:R.own with
  |true=>exact(h.mine k R i L).2 x f
  |false=>rcases K with K|X;{rw [L]at K;cases K};{exact h.frz hz k R i L A X x f}
 refine⟨⟨a8.trans h.os,a9.trans h.tape,a2.trans h.output,qT h.size M,λb hb hS=>(B b<|jB hb h.size).trans (h.keep b hb hS),?_,?_,?_,?_,?_,?_,h.linj,?_,?_,h.κ⟩,hT⟩
 .intro q Q r;rcases g q Q r with⟨rfl,rfl⟩|⟨a,y,R,i,a7,rfl⟩|⟨a,z,d⟩
  .simp only [if_true];exact a4
  .simp only [a,if_false];have:=(h.rep q R i).frame (F q R i);cases L:R.own with
   |true=>rw[L] at this;exact this.ro
   |false=>rw[L] at this;exact this
  .simp only [a,if_false];exact(h.rep q Q d).frame (F q Q d)
 .intro q Q r x f;rcases g q Q r with⟨rfl,rfl⟩|⟨a,y,R,i,_,rfl⟩|⟨a,z,d⟩
  .simp only [if_true]at f;rcases O x f with⟨k,y,f⟩|f
   .exact jB (a1 k y x f) M
   .exact f.2
  .simp only [a,if_false]at f;exact jB (h.rlt q R i x f) M
  .simp only [a,if_false]at f;exact jB (h.rlt q Q d x f) M
 .intro q Q r hoq;rcases g q Q r with⟨rfl,rfl⟩|⟨a,y,R,i,_,rfl⟩|⟨a,z,d⟩
  .cases hoq
  .cases hoq
  .simp only [a,if_false];exact h.mine q Q d hoq
 .intro hz q Q r hoq A X x f;rcases g q Q r with⟨rfl,rfl⟩|⟨a,y,R,i,a7,rfl⟩|⟨a,z,d⟩
  .simp only [if_true]at f;rcases O x f with⟨k,y,f⟩|f
   .exact H hz k y x f
   .exact .inr (qT h.size f.1)
  .simp only [a,if_false]at f;exact H hz q y x f
  .simp only [a,if_false]at f;exact h.frz hz q Q d hoq A X x f
 .intro q Q q' Q' r hoq hq' A hnn x f;rcases g q Q r with⟨rfl,rfl⟩|⟨a,y,R,i,_,rfl⟩|⟨a,z,d⟩
  .cases hoq
  .cases hoq
  .simp only [a,if_false]at f;rcases g q' Q' hq' with⟨rfl,rfl⟩|⟨I,b2,R',a6,W,rfl⟩|⟨I,b1,a3⟩
   .simp only [if_true];intro N;rcases O x N with⟨k,y,N⟩|N
    .obtain⟨R,i,hRe,_⟩:=G k y;exact h.apart q Q k R d hoq i hRe (λe=>z (e ▸ y)) x f N
    .have:=h.rlt q Q d x f;omega
   .simp only [I,if_false];exact h.apart q Q q' R' d hoq a6 W hnn x f
   .simp only [I,if_false];exact h.apart q Q q' Q' d hoq a3 A hnn x f
 .intro l cs hl;obtain⟨D,P,e,S,h3,h4⟩:=h.loc l cs hl;have a0:E.β l<w.heap.size:=(qO.1 S).1;exact⟨D,P,e,(B _ a0).trans S,h3,λj c u K hu=>⟨(h4 j c u K hu).1,VA.tr hT (λn hn=>(hI.lo l cs hl).2 c (qJ K) n hn) (h4 j c u K hu).2⟩⟩
 .intro l cs q Q hl r;obtain⟨D,P,e,S,h3,h4⟩:=h.loc l cs hl;have a0:E.β l<w.heap.size:=(qO.1 S).1;rcases g q Q r with⟨rfl,rfl⟩|⟨a,y,R,i,_,rfl⟩|⟨a,z,d⟩
  .simp only [if_true];intro f;rcases O _ f with⟨k,y,f⟩|f
   .obtain⟨R,i,_⟩:=G k y;exact h.lro l cs k R hl i f
   .omega
  .simp only [a,if_false];exact h.lro l cs q R hl i
  .simp only [a,if_false];exact h.lro l cs q Q hl d
 .intro q Q e r A;simp only[kF,zy]at r;split at r
  .cases r;cases A
  .rw [zbM]at r;split at r
   .rename_i Q' hQ';cases r;obtain⟨_,R,i,rfl⟩:=zwx C q _ hQ';exact h.epo q R e i A
   .exact h.epo q Q e r A
def Mem.view (h:Mem w0 S0 st E w)(M:IdsM st U){id:Nat}(F:¬ U id){r:Nat}{R:Root}(k:st.root r=some R){t:Ty}{m:List t.den}{v:Value}(z:Rep false w v (.s t m) (E.φ r))(G:t.flat=false->R.t.flat=false) :
 Mem w0 S0 {st with ro:=(id,zf8 st R t m)::st.ro} {E with ρ:=λn=>if n=id then v else E.ρ n,φ:=λn=>if n=id then E.φ r else E.φ n} w/\
  Trans st E w {st with ro:=(id,zf8 st R t m)::st.ro} {E with ρ:=λn=>if n=id then v else E.ρ n,φ:=λn=>if n=id then E.φ r else E.φ n} w U:=by
 have a:∀q Q,({st with ro:=(id,zf8 st R t m)::st.ro}:St).root q=some Q->(q=id/\Q=zf8 st R t m)\/(q≠id/\st.root q=some Q):=by intro q Q g;obtain⟨i,C⟩:=zbD g;simp only[zy]at i;split at i;{rename_i f;simp only[qK]at f;cases i;exact .inl ⟨f.symm,rfl⟩};{rename_i f;simp only[qK]at f;exact .inr ⟨λh=>f h.symm,zg5 i C⟩}
 have P:=(zbD k).2;have I:Trans st E w {st with ro:=(id,zf8 st R t m)::st.ro} {E with ρ:=λn=>if n=id then v else E.ρ n,φ:=λn=>if n=id then E.φ r else E.φ n} w U:=by refine⟨λq J Q N=>?_,λl J B i=>⟨⟨B,i⟩,rfl⟩,rfl⟩;rcases a q Q N with⟨rfl,rfl⟩|⟨d,g⟩;{exact absurd J F};{exact⟨Q,g,rfl,by simp only[d,if_false];exact λ_ _ h=>h⟩}
 refine⟨⟨h.os,h.tape,h.output,h.size,h.keep,?_,?_,?_,?_,?_,?_,h.linj,?_,?_,h.κ⟩,I⟩
 .intro q Q g;rcases a q Q g with⟨rfl,rfl⟩|⟨d,b⟩
  .simp only [zf8,if_true];exact z
  .simp only [d,if_false];exact h.rep q Q b
 .intro q Q g x hx;rcases a q Q g with⟨rfl,rfl⟩|⟨d,b⟩
  .simp only [if_true]at hx;exact h.rlt r R k x hx
  .simp only [d,if_false]at hx;exact h.rlt q Q b x hx
 .intro q Q g hoq;rcases a q Q g with⟨rfl,rfl⟩|⟨d,b⟩
  .cases hoq
  .simp only [d,if_false];exact h.mine q Q b hoq
 .intro hz q Q g hoq f hf;rcases a q Q g with⟨rfl,rfl⟩|⟨d,b⟩
  .simp only [zf8]at f;split at f
   .cases f
   .rename_i hown;simp only[if_true];exact h.frz hz r R k (by simpa using hown) f (G hf)
  .simp only [d,if_false];exact h.frz hz q Q b hoq f hf
 .intro q Q q' Q' g hoq hq' f hnn x hx;rcases a q Q g with⟨rfl,rfl⟩|⟨d,b⟩
  .cases hoq
  .simp only [d,if_false]at hx;rcases a q' Q' hq' with⟨rfl,rfl⟩|⟨p,y⟩
   .simp only [if_true];simp only[zf8]at f;split at f
    .cases f
    .rename_i hown;refine h.apart q Q r R b hoq k f (λe=>?_) x hx;subst e;rw[k]at b;cases b;exact hown hoq
   .simp only [p,if_false];exact h.apart q Q q' Q' b hoq y f hnn x hx
 .intro l cs hl;obtain⟨i,A,e,C,L,H⟩:=h.loc l cs hl;exact⟨i,A,e,C,L,λj c u D K=>⟨(H j c u D K).1,VA.tr I (λn O=>(M.lo l cs hl).2 c (qJ D) n O) (H j c u D K).2⟩⟩
 .intro l cs q Q hl g;rcases a q Q g with⟨rfl,rfl⟩|⟨d,b⟩
  .simp only [if_true];exact h.lro l cs r R hl k
  .simp only [d,if_false];exact h.lro l cs q Q hl b
 .intro q Q e g f;simp only[zy]at g;split at g
  .cases g;simp only[zf8]at f;split at f
   .cases f;exact qX _
   .exact h.epo r R e (zbD k).1 f
  .exact h.epo q Q e g f
end
def zeroV:CTy->Value
 |.i k=>.int k 0
 |.b=>.bool false
 |.s _=>.slice none 0 0
def zYE:TypeDesc->Bool
 |.struct _ | .array _ _=>true
 |_=>false
structure TypeOk (P:Program) (T:TypeId) (agg:Bool) (tys:List CTy):Prop where
 und:∃d,P.underlying T=some d/\zYE d=agg/\(∀k,tys=[.i k]->agg=false->d = .int k)/\(tys=[.b]->agg=false->d = .bool)
 info:∃i z,P.info? T=some i/\i.size=tys.length/\i.zero=some z/\z.cells.toList=tys.map zeroV
 one:agg=false->tys.length=1
structure ElemOk (P:Program) (T e:TypeId) (t:Ty):Prop where
 und:P.underlying T=some (.slice e)
 info:∃i z,P.info? e=some i/\i.size=t.wi/\i.zero=some z/\z.cells.toList=t.shape.map zeroV/\i.bytes<=1024
structure FieldOk (P:Program) (T:TypeId) (f off n:Nat):Prop where
 ok:∃(fs:Array Field) (x:Field) (i:TypeInfo),P.underlying T=some (.struct fs)/\fs[f]?=some x/\x.offset=off/\P.info? x.type=some i/\i.size=n/\n≠0
def VS:At->Value->Prop
 |.i k n,v=>v = .int k n
 |.b x,v=>v = .bool x
 |_,_=>True
def VSs (l:List At)(b:LV):Prop:=b.size=l.length/\∀(j:Nat) (a:At) (u:Value),l[j]?=some a->b[j]?=some u->VS a u
structure CfgOk (C:Cfg):Prop where
 cty:∀T agg tys,C.cty T=some (agg,tys)->TypeOk C.P T agg tys
 sty:∀T t,C.sty T=some t->∃e,ElemOk C.P T e t
 fof:∀T f off n,C.fof T f=some (off,n)->FieldOk C.P T f off n
 str:∀T tys,C.cty T=some (true,tys)->∃(fs:Array Field) (places:List (Nat×Nat)),C.P.underlying T=some (.struct fs)/\fs.toList.mapM (fun f=>(C.P.info? f.type).map fun i=>(f.offset,i.size))=some places/\
  ∀f off n,C.fof T f=some (off,n)->places[f]?=some (off,n)
 eqt:∀T tys,C.eqt T=true->C.cty T=some (true,tys)->∀(l m:List At) (e:Bool) (xs ys:Array Value) (w:World) (x y:Operand) (op:BinOp),
  zcR zq0 l=some tys->zcR zq0 m=some tys->zxx l m=some e->VSs l xs->VSs m ys->
  (eqGuard op T x y (.agg xs) (.agg ys)).run C.P w = .ok () w/\(Op.equal T (.agg xs) (.agg ys)).run C.P w = .ok e w
section
variable {P:Program} {w:World}
def zyo {T:TypeId}{a:Bool}{b:List CTy}(h:TypeOk P T a b):(isAgg T).run P w = .ok a w:=by obtain⟨d,e,c,_,_⟩:=h.und;subst c;unfold isAgg;rw[Sem.run_bind,run_underlying e w];cases d<;>simp [zYE]
def zBW {T:TypeId}{b:Bool}{a:List CTy}(h:TypeOk P T b a):(sizeOf T).run P w = .ok a.length w:=by obtain⟨i,z,c,d,_⟩:=h.info;simp[sizeOf,typeInfo,c,d]
def zbav {T:TypeId}{b:Bool}{a:List CTy}(h:TypeOk P T b a):∃z,(zeroValue T).run P w = .ok z w/\z.cells.toList=a.map zeroV:=by obtain⟨i,z,d,f,e,c⟩:=h.info;exact⟨z,by simp[zeroValue,typeInfo,d,e],c⟩
end
section
variable {C:Cfg} {w0 w:World} {S0:zbd} {U:Nat->Prop} {st:St} {E:Env} {ts:Array Value} {sv:List (Array Value)}
def Mine (id:Nat)(n:Nat):Prop:=id<=n/\n<id+32
def Goes (C:Cfg)(w0:World)(S0:zbd)(U:Nat->Prop)(st:St)(ts:LV)(sv:List LV)(w:World)(o:Oper)(id:Nat)(a:St->St):Prop :=
 ∀(next:Act->World->Prop) (Q:Exit->Act->World->Prop),
  (∀c v b,Sim w0 S0 (λn=>U n\/Mine id n) (a st) c (({tmps:=ts,defers:=[]}:Act).put o.dst v).tmps sv b->next (({tmps:=ts,defers:=[]}:Act).put o.dst v) b)->
  o.wp C.P {tmps:=ts,defers:=[]} w next Q
def zNF {o:Oper}{id:Nat}{f:St->St}{v:Value}{a:World}{E':Env}(c:(execOp ({tmps:=ts,defers:=[]}:Act).eval o).run C.P w = .ok (.value v) a)(h:Sim w0 S0 (λn=>U n\/Mine id n) (f st) E' (({tmps:=ts,defers:=[]}:Act).put o.dst v).tmps sv a):Goes C w0 S0 U st ts sv w o id f:=by intro next Q b;unfold Oper.wp;rw[c,Oper.upon_value];exact b E' v a h
def zxP {o:Oper}{id:Nat}{f:St->St}{w':World}{a:Env}(c:(execOp ({tmps:=ts,defers:=[]}:Act).eval o).run C.P w = .ok .skip w')(h:Sim w0 S0 (λn=>U n\/Mine id n) (f st) a (({tmps:=ts,defers:=[]}:Act).put o.dst undef).tmps sv w'):Goes C w0 S0 U st ts sv w o id f:=by intro next Q b;unfold Oper.wp;rw[c,Oper.upon_skip];exact b a undef w' h
def Sim.trans_self:Trans st E w st E w U:=⟨λ_ _ R h=>⟨R,h,rfl,λ_ _ h=>h⟩,λ_ _ a h=>⟨⟨a,h⟩,rfl⟩,rfl⟩
def zdR (b:Sim w0 S0 U st E ts sv w){o:Oper}{id:Nat}{c:MV}{v:Value}(j:(execOp ({tmps:=ts,defers:=[]}:Act).eval o).run C.P w = .ok (.value v) w)(k:VM w st E c v)(f:∀n∈c.ids,U n):Goes C w0 S0 U st ts sv w o id (λst=>st.apply o.dst {v:=c}):=by refine zNF j (E':=E) ?_;exact Sim.next b (st1:=st) b.mem Sim.trans_self rfl rfl (λn h=>.inl h) (λn R h=>.inl (b.ids.ro n R h)) (λn d h=>⟨.inl (b.ids.lo n d h).1,λa e m g=>.inl ((b.ids.lo n d h).2 a e m g)⟩) k (λn i=>.inl (f n i))
def zvg (C:Cfg)(U:Nat->Prop)(st:St)(E:Env)(ts:LV)(w:World)(o:Oper)(d:Dl):Prop :=
 ∃v,(execOp ({tmps:=ts,defers:=[]}:Act).eval o).run C.P w = .ok (.value v) w/\VM w st E d.v v/\(∀n∈d.v.ids,U n)/\d.lo=[]/\d.ro=[]/\d.bump=false
def ztp {o:Oper}{a:MV}{c:Bool}{v:Value}(d:(execOp ({tmps:=ts,defers:=[]}:Act).eval o).run C.P w = .ok (.value v) w)(e:VM w st E a v)(b:∀n∈a.ids,U n):zvg C U st E ts w o {c,v:=a} :=
 ⟨v,d,e,b,rfl,rfl,rfl⟩
def zvg.goes {o:Oper}{d:Dl}(h:zvg C U st E ts w o d)(f:Sim w0 S0 U st E ts sv w){id:Nat}:Goes C w0 S0 U st ts sv w o id (λst=>st.apply o.dst d):=by obtain⟨v,i,j,g,a,b,c⟩:=h;have e:(λst:St=>st.apply o.dst d)=λst=>st.apply o.dst {v:=d.v}:=(by funext st;simp only[St.apply,a,b,c]);rw[e];exact zdR f i j g
def zXS {v:Value}{a:At}(h:zNr v=some a):VA w st E a v/\a.ids=[]:=by cases v<;>simp [zNr]at h<;>subst h<;>exact⟨rfl,rfl⟩
def zcn (c:Sim w0 S0 U st E ts sv w){x:Operand}{mv:MV}(h:st.opnd x=some mv) :
 VM w st E mv (({tmps:=ts,defers:=[]}:Act).eval x)/\∀n∈mv.ids,U n:=by
 cases x with
 |tmp t=>have e:st.tm[t]?=some mv:=(by simp only[St.opnd]at h;split at h;{cases h};{exact h});have d:t<st.tm.length:=(qA.1 e).1;have i:ts[t]?=some (({tmps:=ts,defers:=[]}:Act).eval (.tmp t)):=(by have:t<ts.size:=(by rw[c.tm.1];exact d);simp[Act.eval,Array.getD,this]);exact⟨c.tm.2 t mv _ e i,λn b=>c.ids.tm mv (qJ e) n b⟩
 |const v=>simp only[St.opnd]at h;split at h;{rename_i a p;cases h;obtain⟨j,m⟩:=zXS (w:=w) (st:=st) (E:=E) p;refine⟨j,λn b=>?_⟩;simp[MV.ids,zbL,zZ,m]at b};{cases h}
 |global g=>simp[St.opnd]at h
 |func f=>simp only[St.opnd,qC]at h;subst h;refine⟨⟨#[],rfl,rfl,λk l u q=>by simp at q⟩,λn b=>?_⟩;simp[MV.ids,zbL,zZ,At.ids,zby,zbG]at b
def zQI {x:Operand}{a:At}(h:st.at x=some a):st.opnd x=some (.v<|.at a):=by unfold St.at at h;split at h;{rename_i b c;cases h;exact c};{cases h}
def zbN (d:Sim w0 S0 U st E ts sv w){x:Operand}{a:At}(h:st.at x=some a) :
 VA w st E a (({tmps:=ts,defers:=[]}:Act).eval x)/\∀n∈a.ids,U n:=by
 obtain⟨b,c⟩:=zcn d (zQI h);exact⟨b,λn e=>c n (by simpa [MV.ids,zbL,zZ] using e)⟩
def zeo {a:At}:(MV.v<|.at a).ids=a.ids:=by simp[MV.ids,zbL,zZ]
def z8c (e:Sim w0 S0 U st E ts sv w){o:Oper}{x:Operand}{b:MV}(a:o.op = .move x\/o.op = .assign x)(h:st.opnd x=some b) :
 zvg C U st E ts w o {v:=b}:=by
 obtain⟨c,d⟩:=zcn e h;refine ztp ?_ c d;rcases a with a|a<;>simp [execOp,a]
def z8x (a:Sim w0 S0 U st E ts sv w){o:Oper}{id:Nat}{x:Operand}{b:MV}(c:o.op = .move x\/o.op = .assign x)(h:st.opnd x=some b) :
 Goes C w0 S0 U st ts sv w o id (λst=>st.apply o.dst {v:=b}):=(z8c a c h).goes a
def zbe3 (e:Sim w0 S0 U st E ts sv w){o:Oper}{id:Nat}{c a b:Operand}{d:Dl}(l:o.op = .pick c a b)(h:z0 C st o id=some d):Goes C w0 S0 U st ts sv w o id (λst=>st.apply o.dst d):=by simp only[z0,l]at h;split at h;{rename_i n x y j k q;cases h;have f:=(zbN e j).1;have i:=(zcn e k).1;have p:=(zcn e q).1;refine zdR e (v:=.bool (cond n x y)) ?_ rfl (by simp[MV.ids,zbL,zZ,At.ids,zby,zbG]);simp only[VA]at f;simp only[VM,VT,VA]at i p;cases n<;>simp [execOp,l,f,i,p,asBool]};{rename_i v j k m;cases h;have f:=(zbN e j).1;obtain⟨i,g⟩:=zcn e k;refine zdR e ?_ i g;simp only[VA]at f;simp[execOp,l,f,asBool]};{rename_i v j k m;cases h;have f:=(zbN e j).1;obtain⟨i,g⟩:=zcn e k;refine zdR e ?_ i g;simp only[VA]at f;simp[execOp,l,f,asBool]};{cases h}
def zPA (k:Sim w0 S0 U st E ts sv w){o:Oper}{id:Nat}{x:Operand}{d:Dl}(g:o.op = .nilCheck x)(h:z0 C st o id=some d):zvg C U st E ts w o d:=by simp only[z0,g]at h;split at h;{rename_i l j c;cases h;obtain⟨b,e⟩:=zbN k c;obtain⟨a,f⟩:=b.1;refine ztp ?_ b (by rw[zeo];exact e);simp[execOp,g,f]};{rename_i r p i j c;cases h;obtain⟨b,e⟩:=zbN k c;obtain⟨a,f⟩:=b.1;refine ztp ?_ b (by rw[zeo];exact e);simp[execOp,g,f]};{cases h}
def z5W (a:Sim w0 S0 U st E ts sv w){o:Oper}{id:Nat}{x:Operand}{d:Dl}(b:o.op = .nilCheck x)(h:z0 C st o id=some d):Goes C w0 S0 U st ts sv w o id (λst=>st.apply o.dst d):=(zPA (id:=id) a b h).goes a
def z8r {b:BinOp}{k:IntKind}{x y:Int}{c:Bool}{a:At}(f:z3i b=false)(h:z4J b k x y=some (c,a))(e:c=true)(T:TypeId)(p q:Operand) :
 ∃v,((do eqGuard b T p q (.int k x) (.int k y);binOp b T (.int k x) (.int k y)):Sem Value).run C.P w = .ok v w/\VA w st E a v/\a.ids=[]:=by
 have hg:(eqGuard b T p q (.int k x)<|.int k y).run C.P w = .ok () w:=by unfold eqGuard;split<;>rfl
 cases b<;>simp only [z4J,qC,jT,reduceCtorEq]at h<;>(obtain⟨d,rfl⟩:=h) <;>
  refine⟨_,?_,rfl,rfl⟩<;>rw [Sem.run_bind,hg]<;>simp only [Result.andThen_ok,binOp,ne_eq,not_true_eq_false,if_false,Op.intArith,Op.intBits,Op.intCmp,Sem.run_pure,zM,wsub,zm8,wand,wor,wxor,zCg,ieq,ine,ilt,ile,igt,ige]
 case quo=>
  subst e;have:y≠0:=by simpa [ine] using d
  simp[Op.intDiv,this,z08]
 case rem=>
  subst e;have:y≠0:=by simpa [ine] using d
  simp[Op.intDiv,this,zs6]
def z1o {b:BinOp}{T:TypeId}{p q:Operand}{k a:IntKind}{x y:Int}:(eqGuard b T p q (.int k x)<|.int a y).run C.P w = .ok () w:=by unfold eqGuard;split<;>rfl
def zYe {a:BinOp}{T:TypeId}{p q:Operand}{x y:Bool}:(eqGuard a T p q (.bool x)<|.bool y).run C.P w = .ok () w:=by unfold eqGuard;split<;>rfl
def z19 {b:BinOp}{k k':IntKind}{x y:Int}{c:Bool}{a:At}(h:shiftOp b k x y=some (c,a))(e:c=true)(T:TypeId)(p q:Operand) :
 ∃v,((do eqGuard b T p q (.int k x) (.int k' y);binOp b T (.int k x) (.int k' y)):Sem Value).run C.P w = .ok v w/\VA w st E a v/\a.ids=[]:=by
 cases b<;>simp only [shiftOp,qC,jT,reduceCtorEq]at h<;>(obtain⟨d,rfl⟩:=h) <;>
  refine⟨_,?_,rfl,rfl⟩<;>rw [Sem.run_bind,z1o]<;>subst e<;>simp only [ile,jA]at d <;>
  simp[binOp,Op.shift,show ¬ y<0 by omega,zo8,zlU]
def z2Y {f:BinOp}{e:Bool}{d:Dl}(h:zE7 f e=some d){x y:Value}{T:TypeId}(c:(Op.equal T x y).run C.P w = .ok e w)(g:binOp .eql T x y=(do pure (.bool<|<- Op.equal T x y)))(i:binOp .neq T x y=(do pure (.bool<|!(<- Op.equal T x y)))) :
 ∃a,d = .at (.b a)/\(binOp f T x y).run C.P w = .ok (.bool a) w:=by
 unfold zE7 at h;split at h
 .cases h;refine⟨_,rfl,?_⟩;rw[g,Sem.run_bind,c];rfl
 .cases h;refine⟨_,rfl,?_⟩;rw[i,Sem.run_bind,c];rfl
 .cases h
def zbdQ (S:CfgOk C)(g:Sim w0 S0 U st E ts sv w){o:Oper}{id:Nat}{n:BinOp}{T Z:TypeId}{x y:Operand}{d:Dl}(W:o.op = .binOp n T x y Z)(h:z0 C st o id=some d)(V:d.c=true):Goes C w0 S0 U st ts sv w o id (λst=>st.apply o.dst d):=by
 have i:∀{v:Value},((do eqGuard n T x y (({tmps:=ts,defers:=[]}:Act).eval x) (({tmps:=ts,defers:=[]}:Act).eval y);binOp n T (({tmps:=ts,defers:=[]}:Act).eval x) (({tmps:=ts,defers:=[]}:Act).eval y)):Sem Value).run C.P w = .ok v w->
  (execOp ({tmps:=ts,defers:=[]}:Act).eval o).run C.P w = .ok (.value v) w:=by
  intro v s;simp only[execOp,W];rw[Sem.run_bind,s];rfl
 simp only[z0,W]at h;split at h;{rename_i k a k' b B D;have z:=(zcn g B).1;have A:=(zcn g D).1;simp only[VM,VT,VA]at z A;split at h;{rename_i X;split at h;{rename_i c r q;cases h;obtain⟨v,s,t,K⟩:=z19 (C:=C) (w:=w) (st:=st) (E:=E) (k':=k') q V T x y;rw[<- z,<- A]at s;exact zdR g (i s) t (by rw[zeo,K];simp)};{cases h}};{rename_i X;split at h;{rename_i hk;subst hk;split at h;{rename_i c r q;cases h;obtain⟨v,s,t,K⟩:=z8r (C:=C) (w:=w) (st:=st) (E:=E) (by simpa using X) q V T x y;rw[<- z,<- A]at s;exact zdR g (i s) t (by rw[zeo,K];simp)};{cases h}};{cases h}}}
 .rename_i a b B D;have z:=(zcn g B).1;have A:=(zcn g D).1;simp only[VM,VT,VA]at z A;split at h
  .rename_i hT;obtain⟨dd,hd,_,_,hb⟩:=(S.cty T _ _ hT).und;have J:=hb rfl rfl;subst J;have p:(Op.equal T (.bool a)<|.bool b).run C.P w = .ok (a==b) w:=run_equalIn_bool' w 9999 T a b hd;obtain⟨e,rfl,q⟩:=z2Y (C:=C) (w:=w) h (x:=.bool a) (y:=.bool b) p (by rfl) (by rfl)
   have f:((do eqGuard n T x y (.bool a) (.bool b);binOp n T (.bool a) (.bool b)):Sem Value).run C.P w = .ok (.bool e) w:=by
    rw[Sem.run_bind,zYe];exact q
   rw[<- z,<- A]at f;exact zdR g (i f) rfl (by rw[zeo];simp[At.ids,zby,zbG])
  {cases h}
 .rename_i l m B D;split at h
  .rename_i tys e hT he;split at h
   .rename_i hh;obtain⟨⟨G,M,L,N⟩,_⟩:=zcn g B;obtain⟨⟨H,Q,O,R⟩,_⟩:=zcn g D;have Y:∀{a:At} {u:Value},VA w st E a u->VS a u:=(by intro a u F;cases a<;>first|exact F|trivial);obtain⟨hg,p⟩:=S.eqt T tys hh.1 hT l m e G H w x y n hh.2.1 hh.2.2 he ⟨L,λj a u I F=>Y (N j a u I F).2⟩ ⟨O,λj a u I F=>Y (R j a u I F).2⟩;obtain⟨e',rfl,q⟩:=z2Y (C:=C) (w:=w) h (x:=.agg G) (y:=.agg H) p (by rfl) (by rfl)
    have f:((do eqGuard n T x y (.agg G) (.agg H);binOp n T (.agg G) (.agg H)):Sem Value).run C.P w = .ok (.bool e') w:=by
     rw[Sem.run_bind,hg];exact q
    rw[<- M,<- Q]at f;exact zdR g (i f) rfl (by rw[zeo];simp[At.ids,zby,zbG])
   {cases h}
  {cases h}
 {cases h}
def zbe4 (c:Sim w0 S0 U st E ts sv w){o:Oper}{id:Nat}{g:UnOp}{T:TypeId}{x:Operand}{d:Dl}(f:o.op = .unOp g T x)(h:z0 C st o id=some d):Goes C w0 S0 U st ts sv w o id (λst=>st.apply o.dst d):=by simp only[z0,f]at h;split at h;{rename_i a e;cases h;have b:=(zbN c e).1;simp only[VA]at b;exact zdR c (v:=.bool (!a)) (by simp[execOp,f,b,Op.unary]) rfl (by rw[zeo];simp[At.ids,zby,zbG])};{rename_i k n e;cases h;have b:=(zbN c e).1;simp only[VA]at b;exact zdR c (v:=.int k (wsub k 0 n)) (by simp[execOp,f,b,Op.unary,Op.intArith,wsub]) rfl (by rw[zeo];simp[At.ids,zby,zbG])};{cases h}
def z8s (f:CfgOk C)(g:Sim w0 S0 U st E ts sv w){o:Oper}{id:Nat}{b a:TypeId}{x:Operand}{d:Dl}(i:o.op = .convert b a x)(h:z0 C st o id=some d):Goes C w0 S0 U st ts sv w o id (λst=>st.apply o.dst d):=by simp only[z0,i]at h;split at h;{rename_i y k u n l m p;cases h;have j:=(zbN g p).1;simp only[VA]at j;obtain⟨s,q,_,r,_⟩:=(f.cty a _ _ m).und;have e:=r k rfl rfl;subst e;obtain⟨t,c,_⟩:=(f.cty b y.1 y.2 l).und;exact zdR g (v:=.int k (wcv k n)) (by simp[execOp,i,j,convert,run_underlying c,run_underlying q,Conv.intToInt,wcv]) rfl (by rw[zeo];simp[At.ids,zby,zbG])};{cases h}
def z8t (k:Sim w0 S0 U st E ts sv w){o:Oper}{id:Nat}{x:Operand}{j:Nat}{d:Dl}(m:o.op = .extract x j)(h:z0 C st o id=some d):Goes C w0 S0 U st ts sv w o id (λst=>st.apply o.dst d):=by simp only[z0,m]at h;split at h;{rename_i l p;split at h;{rename_i y g;cases h;obtain⟨⟨i,f,e,s⟩,r⟩:=zcn k p;have b:j<i.size:=(by rw[e];exact(qA.1 g).1);refine zdR k (v:=i[j]) ?_ (s j y i[j] g (by simp[b])) (λn c=>r n ?_);{simp [execOp,m,f,Instr.extract,b]};{simp only [MV.ids,zbL,qR]at c ⊢;obtain⟨a,q,c⟩:=c;exact⟨a,⟨y,qJ g,q⟩,c⟩}};{cases h}};{cases h}
def zpi {j k:Type}{f:j->Option k}:∀{l:List j} {c:List k},zcR f l=some c->l.length=c.length/\∀(i:Nat) (a:j) (b:k),l[i]?=some a->c[i]?=some b->f a=some b:=by
 intro l
 induction l with
 |nil=>intro c h;cases h;exact⟨rfl,λi a b h=>by simp at h⟩
 |cons a l r=>intro c h;simp only[zcR]at h;split at h;{rename_i b q;split at h;{rename_i m d;cases h;obtain⟨n,p⟩:=r d;refine⟨by simp[n],λi x y e g=>?_⟩;cases i with|zero=>simp at e g;subst e g;exact q|succ i=>exact p i x y (by simpa using e) (by simpa using g)};{cases h}};{cases h}
def z5V (i:Sim w0 S0 U st E ts sv w){o:Oper}{id:Nat}{f:FuncId}{first a:Array Operand}{d:Dl}(t:o.op = .makeFunc (.func f) first a)(h:z0 C st o id=some d):Goes C w0 S0 U st ts sv w o id (λst=>st.apply o.dst d):=by simp only[z0,t]at h;split at h;{rename_i A x y;cases h;obtain⟨s,z⟩:=zpi y;have b:first = #[]:=(by simpa using x);have c:∀(k l:Nat) (u:Operand),a[k]?=some u->A[k]?=some l->st.at u=some (.lp l 0):=(by intro k l u e g;have:=z k u l (by simpa using e) g;split at this;{rename_i B j;cases this;exact j};{cases this});refine zdR i (v:=.func (.func f) #[] (a.map ({tmps:=ts,defers:=[]}:Act).eval)) ?_ ⟨_,rfl,by simp[<- s],?_⟩ ?_;{simp [execOp,t,Instr.makeFunc,b]};{intro k l u g e;simp only[vG]at e;cases r:a[k]? with|none=>rw[r]at e;cases e|some q=>rw[r]at e;cases e;exact(zbN i<|c k l q r g).1};{intro n p;rw[zeo]at p;simp only[At.ids,zby,zbG,jW]at p;obtain⟨k,g⟩:=qV.1 p;have m:k<a.size:=(by have:=(qA.1 g).1;rw[<- s] at this;simpa using this);exact(zbN i<|c k n a[k] (by simp[m]) g).2 n (by simp[At.ids,zby,zbG])}};{cases h}
def zbdS (I:CfgOk C)(s:Sim w0 S0 U st E ts sv w){o:Oper}{id:Nat}{T:TypeId}{x:Operand}{f:Nat}{d:Dl}(z:o.op = .field T x f)(h:z0 C st o id=some d):Goes C w0 S0 U st ts sv w o id (λst=>st.apply o.dst d):=by simp only[z0,z]at h;split at h;{rename_i G m;split at h;{rename_i c t;split at h;{rename_i r q l J H;split at h;{rename_i K;have g:=I.cty c.type r q J;obtain⟨⟨B,p,A,F⟩,D⟩:=zcn s H;have e:G[f]?=some c:=t;split at h;{cases h;refine zdR s (v:=.agg (B.extract c.offset<|c.offset+q.length)) ?_ ⟨_,rfl,by simp;omega,λj a u b k=>?_⟩ (λn i=>D n ?_);{simp [execOp,z,p,Instr.field,run_underlying m,e,asAgg,part,zyo g,zBW g]};{rw [jP,jV]at b;split at b;{rename_i L;refine F (c.offset+j) a u b ?_;rw[Array.getElem?_extract]at k;split at k;{exact k};{cases k}};{cases b}};{simp only [MV.ids,zbL,zZ,qR]at i ⊢;obtain⟨a,b,i⟩:=i;exact⟨a,uA<|j8 b,i⟩}};{split at h;{rename_i a b;cases h;have y:c.offset<B.size:=(by rw[A];exact(qA.1 b).1);have k:=jM y;refine zdR s (v:=B[c.offset]) ?_ (F c.offset a _ b k).2 (λn i=>D n ?_);{simp [execOp,z,p,Instr.field,run_underlying m,e,asAgg,part,zyo g,k]};{rw [zeo]at i;simp only[MV.ids,zbL,zZ,qR];exact⟨a,qJ b,i⟩}};{cases h}}};{cases h}};{cases h}};{cases h}};{cases h}
def zJt (L:CfgOk C)(y:Sim w0 S0 U st E ts sv w){o:Oper}{id:Nat}{T:TypeId}{x:Operand}{f:Nat}{d:Dl}(z:o.op = .fieldAddr T x f)(h:z0 C st o id=some d):zvg C U st E ts w o d:=by
 simp only[z0,z]at h;have q:∀{c n:Nat} {a:Addr},C.fof T f=some (c,n)->({tmps:=ts,defers:=[]}:Act).eval x = .pointer (some a)->
  (execOp ({tmps:=ts,defers:=[]}:Act).eval o).run C.P w = .ok (.value<|.pointer<|some<|a.add c) w:=by
  intro c n a m N;obtain⟨V,W,i,g,j,H,I,J,K⟩:=(L.fof T f c n m).ok;simp[execOp,z,N,Instr.fieldAt,run_underlying g,j,Instr.sureAddr,fieldPlace,sizeOf,typeInfo,I,J,K,H]
 have e:∀(b a n:Nat),(⟨b,a,none⟩:Addr).add n=⟨b,a+n,none⟩:=(by intro b a n;unfold Addr.add;split<;>simp_all);split at h;{rename_i c n l O m g;cases h;obtain⟨⟨⟨a,k⟩,j⟩,v⟩:=zbN y g;refine ztp (q m k) ⟨⟨_,rfl⟩,λA u=>?_⟩ (by rw[zeo];exact v);have:=j A u;rw[k] at this;simp only[Value.pointer.injEq,qC] at this;subst this;rw[e]};{rename_i c n r p i O m g;cases h;obtain⟨⟨⟨a,k⟩,j⟩,v⟩:=zbN y g;refine ztp (q m k) ⟨⟨_,rfl⟩,λR M=>?_⟩ (by rw[zeo];exact v);obtain⟨b,Q,len,s,S,B,D,F,G,t⟩:=j R M;rw[k] at t;simp only[Value.pointer.injEq,qC] at t;subst t;exact⟨b,Q,len,s,S,B,D,F,G,by rw[e,uM]⟩};{cases h}
def z2a (b:CfgOk C)(a:Sim w0 S0 U st E ts sv w){o:Oper}{id:Nat}{T:TypeId}{x:Operand}{f:Nat}{d:Dl}(c:o.op = .fieldAddr T x f)(h:z0 C st o id=some d):Goes C w0 S0 U st ts sv w o id (λst=>st.apply o.dst d):=(zJt (id:=id) b a c h).goes a
def zbdT (e:Sim w0 S0 U st E ts sv w){o:Oper}{id:Nat}{T:TypeId}{s:ByteArray}{y:Operand}{d:Dl}(f:o.op = .index T (.const<|.string s) y)(h:z0 C st o id=some d)(l:d.c=true):Goes C w0 S0 U st ts sv w o id (λst=>st.apply o.dst d):=by simp only[z0,f]at h;split at h;{rename_i k n j i;cases h;have g:=(zbN e i).1;simp only[VA]at g;have a:0<=n/\n<(s.size:Int):=qD l;have b:n.toNat<s.size:=(by omega);have m:({tmps:=ts,defers:=[]}:Act).eval (.const<|.string s) = .string s:=rfl;have hg:s[n.toNat]?=some s[n.toNat]:=getElem?_pos s n.toNat b;refine zdR e (v:=.int .u8 (s[n.toNat].toNat:Int)) ?_ ?_ (by rw[zeo];simp[At.ids,zby,zbG]);{simp [execOp,f,m,g,Instr.index,run_underlying j,asIntOf,a.1,hg]};{show Value.int .u8 _=Value.int .u8 (byteAt s n);unfold byteAt;rw[hg]}};{cases h}
def zg7 {r:Nat}{p:List (Int×Nat)}{a:CV}(h:st.node r p=some a):∃R,st.root r=some R/\ziZ R.t R.l p=some a:=by unfold St.node at h;split at h;{rename_i R b;exact⟨R,b,h⟩};{cases h}
def zxf (g:Sim w0 S0 U st E ts sv w){r:Nat}{p:List (Int×Nat)}{v:Value}{t:Ty}{l:List t.den}(i:VA w st E (.sl r p) v)(h:st.node r p=some (.s t l)) :
 ∃R S',st.root r=some R/\zzq R.t p=some t/\zbg w R.t (E.ρ r) p=some v/\Rep R.own w v (.s t l) S'/\∀x,S' x->E.φ r x:=by
 obtain⟨R,a,hg⟩:=zg7 h;have c:=i.2 R a;obtain⟨k,j,S',b,d,e,f⟩:=Rep.at p (g.mem.rep r R a) c;rw[hg]at b;cases b;exact⟨R,S',a,d,c,e,f⟩
def zJu (N:CfgOk C)(m:Sim w0 S0 U st E ts sv w){o:Oper}{id:Nat}{T:TypeId}{x y:Operand}{d:Dl}(B:o.op = .indexAddr T x y)(h:z0 C st o id=some d)(S:d.c=true):zvg C U st E ts w o d:=by simp only[z0,B]at h;split at h;{rename_i r p n L M;split at h;{rename_i t l Z;split at h;{rename_i Q;cases h;obtain⟨hx,q⟩:=zbN m L;have F:=(zbN m M).1;simp only[VA]at F;obtain⟨e,hE⟩:=N.sty T t Q;obtain⟨R,S',O,H,I,J,g4⟩:=zxf m hx Z;have a:0<=n/\n<(l.length:Int):=qD S;obtain⟨i,z,Y,hs,_⟩:=hE.info;generalize hv:({tmps:=ts,defers:=[]}:Act).eval x=v at *;cases J with|nil=>simp at a;omega|void=>simp at a;omega|sl _ _ b f k G e' fz V K _ hb X A s a0 P D u a1 W=>have j:(⟨b,f,none⟩:Addr).add (n.toNat*t.wi)=⟨b,f+n.toNat*t.wi,none⟩:=(by unfold Addr.add;split<;>simp_all);refine ztp (v:=.pointer (some ⟨b,f+n.toNat*t.wi,none⟩)) ?_ ⟨⟨_,rfl⟩,λR' g=>?_⟩ ?_;{simp [execOp,B,hv,F,Instr.indexAt,run_underlying hE.und,asIntOf,a,sizeOf,typeInfo,Y,hs,j]};{rw [O]at g;cases g;exact⟨b,f,l.length,k,t,I,H,a.1,by omega,by simp⟩};{rw [zeo];simpa [At.ids,zby,zbG] using q}};{cases h}};{cases h}};{cases h}
def z2c (b:CfgOk C)(a:Sim w0 S0 U st E ts sv w){o:Oper}{id:Nat}{T:TypeId}{x y:Operand}{d:Dl}(f:o.op = .indexAddr T x y)(h:z0 C st o id=some d)(e:d.c=true):Goes C w0 S0 U st ts sv w o id (λst=>st.apply o.dst d):=(zJu (id:=id) b a f h e).goes a
def zbfK (f:Sim w0 S0 U st E ts sv w){o:Oper}{id:Nat}{c:Call}{x:Operand}{T e:TypeId}{r:Nat}{p:List (Int×Nat)}{t:Ty}{l:List t.den}(y:o.op = .call c)(h:c.callee = .builtin .len)(g:c.args.toList=[x])(j:c.argTypes.toList=[T])(q:C.P.underlying T=some (.slice e))(n:st.at x=some (.sl r p))(u:st.node r p=some (.s t l)):Goes C w0 S0 U st ts sv w o id (λst=>st.apply o.dst (.at<|.i .i64<|ln l)):=by obtain⟨A,B⟩:=zbN f n;obtain⟨R,D,I,F,G,m,H⟩:=zxf f A u;obtain⟨⟨a,k,z,_⟩,_⟩:=m.len;have b:c.args = #[x]:=(by rw[<- g]);have d:c.argTypes = #[T]:=(by rw[<- j]);refine zdR f (v:=goInt l.length) ?_ rfl (by rw[zeo];simp[At.ids,zby,zbG]);simp[execOp,y,resolve,h,invoke,builtin,b,d,z,Builtin.len_,run_underlying q]
end
section
variable {C:Cfg} {w0 w:World} {S0:zbd} {U:Nat->Prop} {st:St} {E:Env} {ts:Array Value} {sv:List (Array Value)}
def cells_one {v:Value}(h:v.oneCell'=true):v.cells = #[v]:=by cases v<;>simp_all [Value.cells,Value.oneCell']
def VA.one {a:At}{v:Value}(h:VA w st E a v)(g:a≠.bad):v.oneCell'=true:=by cases a with|bad=>exact absurd rfl g|i k n=>cases h;rfl|b x=>cases h;rfl|sl r p=>obtain⟨⟨a,len,c,rfl⟩,_⟩:=h;rfl|lp l d=>obtain⟨⟨a,rfl⟩,_⟩:=h;rfl|ep r p i d=>obtain⟨⟨a,rfl⟩,_⟩:=h;rfl|fn f e=>obtain⟨j,rfl,_⟩:=h;rfl|kp r J t=>obtain⟨⟨a,len,c,rfl⟩,_⟩:=h;rfl
def zsR {x:Operand}{y:TV}(h:st.opnd x=some (.v y)):y≠.at .bad:=by rintro rfl;cases x with|tmp t=>simp only[St.opnd]at h;split at h;{cases h};{rename_i b;exact b h}|const v=>simp only[St.opnd]at h;split at h;{rename_i a c;simp only[qC,MV.v.injEq,TV.at.injEq]at h;subst h;cases v<;>simp [zNr]at c};{cases h}|global g=>simp[St.opnd]at h|func f=>simp[St.opnd]at h
def VT.cells {x:TV}{v:Value}(h:VT w st E x v)(d:x≠.at .bad) :
 v.cells.size=(zZ x).length/\∀(j:Nat) (a:At) (u:Value),(zZ x)[j]?=some a->v.cells[j]?=some u->u.oneCell'=true/\VA w st E a u:=by
 rcases x with a|l
 .have h1:v.oneCell'=true:=VA.one h (λe=>d (by rw[e]))
  rw[cells_one h1];refine⟨rfl,λj f u b c=>?_⟩;cases j with
  |zero=>simp[zZ]at b c;subst b c;exact⟨h1,h⟩
  |succ j=>simp[zZ]at b
 .obtain⟨vs,rfl,h2,h3⟩:=h;exact⟨h2,h3⟩
def zrv {P:Program}{T:TypeId}{d:List CTy}{b a:Nat}{c:LV}{e:TypeId}{i:Nat×Nat}(k:TypeOk P T true d)(l:w.heap[b]?=some (.cells c e i))(h:a+d.length<=c.size) :
 (loadVar T ⟨b,a,none⟩).run P w = .ok (.agg ((c.toList.drop a).take d.length).toArray) w:=by
 have m:((c.toList.drop a).take d.length).length=d.length:=by simp;omega
 have:=run_loadCells_list (P:=P) w ⟨b,a,none⟩ ((c.toList.drop a).take d.length) (λj v g=>by
  have f:(⟨b,a,none⟩:Addr).add j=⟨b,a+j,none⟩:=by unfold Addr.add;split<;>simp_all
  rw[f,cell_of_row w b (a+j) c e i l];rw[jP]at g;split at g
  .simpa [jV] using g
  .cases g)
 rw[m] at this;unfold loadVar;rw[Sem.run_bind,zyo k];simp[Result.andThen,zBW k,this]
def zrx {P:Program}{T:TypeId}{d:List CTy}{b a:Nat}{c:LV}{e:TypeId}{f:Nat×Nat}{v:Value}(g:TypeOk P T false d)(i:w.heap[b]?=some (.cells c e f))(h:c[a]?=some v) :
 (loadVar T ⟨b,a,none⟩).run P w = .ok v w:=by
 unfold loadVar;rw[Sem.run_bind,zyo g];have:w.cell? ⟨b,a,none⟩=some v:=by rw[cell_of_row w b a c e f i];exact h
 simp[this]
def zNK:∀(p:List (Int×Nat)) {t h r:Ty} {v:Value} {b o len e:Nat} {i:Int} {j:Nat} {u:Value},zbg w t v p=some (.slice (some ⟨b,o,none⟩) len e)->zzq t p=some h->
 0<=i->i.toNat<len->h.shape[j]?=some (.s r)->w.cell? ⟨b,o+i.toNat*h.wi+j,none⟩=some u->zbg w t v (p++[(i,j)])=some u
 |[],t,h,r,v,b,o,len,e,i,j,u,d,f,k,m,n,q=>by simp only[zbg,qC,zzq]at d f;subst d f;simp[zbg,k,m,n,q]
 |(z,A)::p,t,h,r,v,b,o,len,e,i,j,u,d,f,k,m,n,q=>by simp only[zzq]at f;split at f;{rename_i B g;cases v with|slice a l c=>(cases a with|none=>simp[zbg]at d|some a=>simp only[zbg,g]at d;simp only[kF,zbg,g];split at d;{rename_i x;rw[if_pos x];split at d;{rename_i C y;exact zNK p d f k m n q};{cases d}};{cases d})|_=>simp[zbg]at d};{cases f}
def zBo (r:Nat)(p:List (Int×Nat))(i:Int)(j:Nat):CV->At
 |.i k n=>.i k n
 |.b x=>.b x
 |.s _ _=>.sl r (p++[(i,j)])
def zBn (r:Nat)(p:List (Int×Nat))(i:Int):∀(a:LC) (j k:Nat),(zuG r p i a j)[k]?=a[k]?.map (zBo r p i<|j+k)
 |[],j,k=>by simp[zuG]
 |c::a,j,k=>by have e:zuG r p i (c::a) j=zBo r p i j c::zuG r p i a (j+1):=(by cases c<;>rfl);rw[e];cases k with|zero=>simp|succ k=>simp only[jS];rw[zBn r p i a (j+1) k];congr 2;omega
def zYb (r:Nat)(p:List (Int×Nat))(i:Int):∀(a:LC) (j:Nat),(zuG r p i a j).length=a.length
 |[],_=>rfl
 |c::a,j=>by cases c<;>simp [zuG,zYb r p i a<|j+1]
def zUB {r:Nat}{p:List (Int×Nat)}{i:Int}{j:Nat}{c:CV}{n:Nat}(h:n∈(zBo r p i j c).ids):n=r:=by cases c<;>simp [zBo,At.ids,zby,zbG]at h;exact h
def VA.oneC {c:CV}{r:Nat}{p:List (Int×Nat)}{i:Int}{j:Nat}{v:Value}(h:VA w st E (zBo r p i j c) v):v.oneCell'=true :=
 h.one (by cases c<;>simp [zBo])
def z8b (hC:CfgOk C)(Q:Sim w0 S0 U st E ts sv w){o:Oper}{id:Nat}{T:TypeId}{x:Operand}{d:Dl}(ho:o.op = .load T x)(h:z0 C st o id=some d):zvg C U st E ts w o d:=by
 have G:∀{v:Value} {a:Addr},({tmps:=ts,defers:=[]}:Act).eval x = .pointer (some a)->(loadVar T a).run C.P w = .ok v w->
  (execOp ({tmps:=ts,defers:=[]}:Act).eval o).run C.P w = .ok (.value v) w:=by
  intro v a hx Z;simp[execOp,ho,Instr.loadAt,hx,Instr.sureAddr,Z]
 simp only[z0,ho]at h;split at h;{rename_i A H l f hT h1;obtain⟨hx,a2⟩:=zbN Q h1;have B:=hC.cty T A H hT;split at h;{rename_i cs J;have a4:=hx.2 cs J;obtain⟨_,D,e,g1,g2,g3⟩:=Q.mem.loc l cs J;have I:=(Q.ids.lo l cs J).2;split at h;{rename_i m;cases m;split at h;{rename_i b0;cases h;refine ztp (G a4<|zrv B g1 (by omega)) ⟨_,rfl,by simp;omega,λj a u g F=>?_⟩ ?_;{simp only [jP,jV]at g;simp only[jL,jP,jV,k6]at F;split at g;{rename_i L;rw[if_pos L]at F;exact g3 (f+j) a u g F};{cases g}};{intro n q;simp only[MV.ids,zbL,zZ,qR]at q;obtain⟨a,g,q⟩:=q;exact I a (uA<|j8 g) n q}};{cases h}};{rename_i m;have:A=false:=(by simpa using m);subst this;split at h;{rename_i a g;cases h;have b1:f<D.size:=(by rw[g2];exact(qA.1 g).1);have hv:D[f]?=some D[f]:=(by simp[b1]);exact ztp (G a4<|zrx B g1 hv) (g3 f a _ g hv).2 (λn q=>I a (qJ g) n (by rw[zeo]at q;exact q))};{cases h}}};{cases h}}
 .rename_i A H r p i f hT h1;obtain⟨hx,a2⟩:=zbN Q h1;have B:=hC.cty T A H hT;split at h
  .rename_i t l q;obtain⟨R,hR,hg⟩:=zg7 q;obtain⟨b,o2,len,a7,t',e1,e2,e3,e4,e5⟩:=hx.2 R hR;obtain⟨t2,l2,S',f1,f2,f3,f4⟩:=Rep.at p (Q.mem.rep r R hR) e1;rw[hg] at f1;cases f1;rw[e2] at f2;cases f2;have S:U r:=a2 r (by simp[At.ids,zby])
   cases f3 with
   |void=>omega
   |sl _ _ _ _ _ a6 e' fz V K _ hb b7 b4 b2 b8 b6 b5 b3 a1 a8=>
   have a9:l[i.toNat]?=some (ix l i t.dflt):=zon e4;have a0:(i.toNat+1)*t.wi<=a7*t.wi:=qS _ (by omega);rw[jO]at a0;have a5:∀(j:Nat) (c:CV) (u:Value),(t.cells<|ix l i t.dflt)[j]?=some c->a6[o2+i.toNat*t.wi+j]?=some u->VA w st E (zBo r p i j c) u:=(by intro j c u z F;have L:j<t.wi:=(by have:=(qA.1 z).1;rw[zdG] at this;exact this);have Z:=a8 i.toNat _ a9 j c z;have W:=a1 i.toNat j e4 L;rw[W]at F;cases F;cases c with|i k n=>exact Z.int_inv|b y=>exact Z.bool_inv|s t3 l3=>obtain⟨⟨a3,N,h3,_⟩,_⟩:=Z.len;refine⟨⟨a3,_,N,h3⟩,λR' O=>?_⟩;rw[hR]at O;cases O;exact zNK p e1 e2 e3 e4 (zMb z) (by rw[D0 hb];exact W));split at h;{rename_i m;cases m;split at h;{rename_i b0;cases h;refine ztp (G e5<|zrv B hb (by omega)) ⟨_,rfl,?_,λj a u g F=>?_⟩ ?_;{rw [zYb];simp[zdG];omega};{rw [zBn]at g;simp only[jP,jV]at g;simp only[jL,jP,jV,k6]at F;split at g;{rename_i L;rw[if_pos L]at F;cases z:(t.cells<|ix l i t.dflt)[f+j]? with|none=>rw[z]at g;cases g|some c=>rw[z]at g;cases g;have:=a5 (f+j) c u z (by rw[<- uM];exact F);exact⟨this.oneC,this⟩};{cases g}};{intro n q;simp only[MV.ids,zbL,zZ,qR]at q;obtain⟨a,g,q⟩:=q;obtain⟨k,Y⟩:=qV.1 g;rw[zBn]at Y;cases z:(((t.cells<|ix l i t.dflt).drop f).take H.length)[k]? with|none=>rw[z]at Y;cases Y|some c=>rw[z]at Y;cases Y;rw[zUB q];exact S}};{cases h}};{rename_i m;have:A=false:=(by simpa using m);subst this;split at h;{rename_i a g;cases h;have M:(zuG r p i (((t.cells<|ix l i t.dflt).drop f).take 1) f)[0]?=some a:=(by rw[g];rfl);rw[zBn]at M;cases z:(((t.cells<|ix l i t.dflt).drop f).take 1)[0]? with|none=>rw[z]at M;cases M|some c=>rw[z]at M;simp only[Option.map_some,qC,kA]at M;subst M;have X:(t.cells<|ix l i t.dflt)[f]?=some c:=(by simpa using z);have L:f<t.wi:=(by have:=(qA.1 X).1;rw[zdG] at this;exact this);have W:=a1 i.toNat f e4 L;exact ztp (G e5<|zrx B hb W) (a5 f c _ X W) (λn q=>by rw[zeo]at q;rw[zUB q];exact S)};{cases h}}
  {cases h}
 {cases h}
def zbe2 (b:CfgOk C)(a:Sim w0 S0 U st E ts sv w){o:Oper}{id:Nat}{T:TypeId}{x:Operand}{d:Dl}(c:o.op = .load T x)(h:z0 C st o id=some d):Goes C w0 S0 U st ts sv w o id (λst=>st.apply o.dst d):=(z8b (id:=id) b a c h).goes a
def zbfM (d:Sim w0 S0 U st E ts sv w){o:Oper}{id:Nat}{x y:Operand}{a b:Int}{c:Call}(m:o.op = .call c)(l:c.callee = .builtin .min)(k:c.args.toList=[x,y])(h:st.at x=some (.i .i64 a))(j:st.at y=some (.i .i64 b)):Goes C w0 S0 U st ts sv w o id (λst=>st.apply o.dst (.at<|.i .i64<|zSb a b)):=by have f:=(zbN d h).1;have g:=(zbN d j).1;simp only[VA]at f g;have e:c.args = #[x,y]:=(by rw[<- k]);refine zdR d (v:=.int .i64 (zSb a b)) ?_ rfl (by rw[zeo];simp[At.ids,zby,zbG]);simp[execOp,m,resolve,l,invoke,builtin,e,f,g,run_min_int2,zSb]
def zbfL (d:Sim w0 S0 U st E ts sv w){o:Oper}{id:Nat}{x y:Operand}{a b:Int}{c:Call}(m:o.op = .call c)(l:c.callee = .builtin .max)(k:c.args.toList=[x,y])(h:st.at x=some (.i .i64 a))(j:st.at y=some (.i .i64 b)):Goes C w0 S0 U st ts sv w o id (λst=>st.apply o.dst (.at<|.i .i64<|imax a b)):=by have f:=(zbN d h).1;have g:=(zbN d j).1;simp only[VA]at f g;have e:c.args = #[x,y]:=(by rw[<- k]);refine zdR d (v:=.int .i64 (imax a b)) ?_ rfl (by rw[zeo];simp[At.ids,zby,zbG]);simp[execOp,m,resolve,l,invoke,builtin,e,f,g,run_max_int2,imax]
end
section
variable {C:Cfg} {w0 w w1:World} {S0:zbd} {U:Nat->Prop} {st st1:St} {E E1:Env} {ts:Array Value} {sv:List (Array Value)}
def zma (l:Sim w0 S0 U st E ts sv w){o:Oper}{id:Nat}{mv:MV}{v:Value}{f:St->St}{n:Next}(i:(execOp ({tmps:=ts,defers:=[]}:Act).eval o).run C.P w = .ok n w1)(r:n = .value v\/(n = .skip/\v=undef))(k:Mem w0 S0 st1 E1 w1)(T:Trans st E w st1 E1 w1 U)(p:f st=st1.put o.dst mv)(e:st1.tm=st.tm)(b:st1.stk=st.stk)(d:∀n R,zy st1.ro n=some R->U n\/Mine id n)(c:∀n g,zy st1.lo n=some g->(U n\/Mine id n)/\∀a∈g,∀m∈a.ids,U m\/Mine id m)(s:VM w1 st1 E1 mv v)(q:∀n∈mv.ids,U n\/Mine id n):Goes C w0 S0 U st ts sv w o id f:=by have j:Sim w0 S0 (λn=>U n\/Mine id n) (f st) E1 (({tmps:=ts,defers:=[]}:Act).put o.dst v).tmps sv w1:=(by rw[p];exact Sim.next l k T e b (λn h=>.inl h) d c s q);rcases r with rfl|⟨rfl,rfl⟩;{exact zNF i j};{exact zxP i j}
def zfc (id:Nat):Mine id id:=⟨qX _,by omega⟩
def zbfJ (c:Sim w0 S0 U st E ts sv w){o:Oper}{id:Nat}(q:∀n,Mine id n->¬ U n){T:TypeId}{x:Operand}{d:Dl}(u:o.op = .box T x)(h:z0 C st o id=some d):Goes C w0 S0 U st ts sv w o id (λst=>st.apply o.dst d):=by simp only[z0,u]at h;split at h;{rename_i y s;cases h;obtain⟨B,r⟩:=zcn c s;obtain⟨l,p⟩:=VT.cells B (zsR s);have g:∀a∈zZ y,∀m∈a.ids,U m:=λa f m i=>r m (by simp only[MV.ids,zbL,qR];exact⟨a,f,i⟩);have j:=q id (zfc id);obtain⟨z,A⟩:=c.mem.addLoc c.ids.mem j (e:=T) l p g;refine zma c (v:=.pointer (some ⟨w.heap.size,0,none⟩)) ?_ (.inl rfl) z A rfl rfl rfl (λn R b=>.inl (c.ids.ro n R b)) ?_ ?_ ?_;{simp [execOp,u,Instr.box,newVar,newRow,newObj,Sem.run]};{intro n k b;simp only[zy]at b;split at b;{rename_i t;simp only[qK]at t;subst t;cases b;exact⟨.inr<|zfc _,λa f m i=>.inl (g a f m i)⟩};{exact⟨.inl (c.ids.lo n k b).1,λa f m i=>.inl ((c.ids.lo n k b).2 a f m i)⟩}};{exact⟨⟨_,rfl⟩,λk _=>by simp⟩};{intro n b;rw[zeo]at b;simp only[At.ids,zby,zbG,jW,qF]at b;subst b;exact .inr (zfc _)}};{cases h}
def zVe:∀(a:List CTy) (id k:Nat),(zeros a id)[k]?=a[k]?.map (zeroAt<|id+k)
 |[],id,k=>by simp[zeros]
 |c::r,id,k=>by cases k with|zero=>simp[zeros]|succ k=>simp only[zeros,jS];rw[zVe r (id+1) k];congr 2;omega
def zGp:∀(a:List CTy) (id:Nat),(zeros a id).length=a.length
 |[],_=>rfl
 |c::r,id=>by simp[zeros,zGp r]
def zkq:∀(tys:List CTy) (id n:Nat) (R:Root),zy (zeroRoots tys id) n=some R->id<=n/\n<id+tys.length/\∃t,R=zdN t []
 |[],_,_,_,h=>by cases h
 |c::r,id,n,R,h=>by have a:zy (zeroRoots r<|id+1) n=some R->id<=n/\n<id+(c::r).length/\∃t,R=zdN t []:=λh=>(by obtain⟨f,g,d⟩:=zkq r (id+1) n R h;exact⟨by omega,by simp;omega,d⟩);cases c with|i k=>exact a h|b=>exact a h|s t=>simp only[zeroRoots,zy]at h;split at h;{rename_i e;simp only[qK]at e;cases h;exact⟨by omega,by simp;omega,t,rfl⟩};{exact a h}
def z6o {c:CTy}{id n:Nat}(h:n∈(zeroAt id c).ids):n=id:=by cases c<;>simp [zeroAt,At.ids,zby,zbG]at h;exact h
def zkp (E:Env)(id:Nat):Env:={E with ρ:=λn=>if id<=n/\n<id+31 then .slice none 0 0 else E.ρ n,φ:=λn=>if id<=n/\n<id+31 then λ_=>False else E.φ n}
def Mem.zeroRoots (f:Mem w0 S0 st E w)(e:IdsM st U){id:Nat}(c:∀n,Mine id n->¬ U n){tys:List CTy}(g:tys.length<=31) :
 Mem w0 S0 {st with ro:=Go.Proofs.YtapgkefgcbapcaaGreat.E.zeroRoots tys id++st.ro} (zkp E id) w/\Trans st E w {st with ro:=Go.Proofs.YtapgkefgcbapcaaGreat.E.zeroRoots tys id++st.ro} (zkp E id) w U:=by
 refine f.addRoots e rfl rfl rfl (qX _) (λ_ _=>rfl) (λr R i=>?_) (λr R k j b _ _ x d=>?_) (λn h=>?_)
 .obtain⟨b,h2,t,rfl⟩:=zkq tys id r R i;have a:id<=r/\r<id+31:=⟨b,by omega⟩
  refine⟨c r ⟨b,by omega⟩,rfl,rfl,?_,λx d=>?_⟩
  .simp only [zkp,if_pos a,zdN];exact .nil t _
  .simp only [zkp,if_pos a]at d
 .obtain⟨b,h2,_⟩:=zkq tys id r R b;have a:id<=r/\r<id+31:=⟨b,by omega⟩
  simp only[zkp,if_pos a]at d
 .have a:¬ (id<=n/\n<id+31):=λa=>c n ⟨a.1,by omega⟩ h
  simp only[zkp,if_neg a];exact⟨trivial,trivial,trivial⟩
def zxi {d:List CTy}{id k:Nat}{a:At}(f:d.length<=31)(h:(zeros d id)[k]?=some a) :
 ∃c,d[k]?=some c/\(zeroV c).oneCell'=true/\(∀st w,VA w st (zkp E id) a<|zeroV c)/\∀n∈a.ids,id<=n/\n<id+31:=by
 rw[zVe]at h;cases e:d[k]? with
 |none=>rw[e]at h;cases h
 |some c=>rw[e]at h;cases h;have m:k<d.length:=(qA.1 e).1;refine⟨c,rfl,by cases c<;>rfl,λst w=>?_,λn j=>?_⟩;{cases c with|i k=>rfl|b=>rfl|s t=>refine⟨⟨none,0,0,rfl⟩,λR l=>?_⟩;have g:id<=id+k/\id+k<id+31:=⟨by omega,by omega⟩;simp only[zbg,zkp,if_pos g];rfl};{rw [z6o j];omega}
def zbdP (hC:CfgOk C)(g:Sim w0 S0 U st E ts sv w){o:Oper}{id:Nat}(G:∀n,Mine id n->¬ U n){T:TypeId}{d:Dl}(ho:o.op = .alloc T)(h:z0 C st o id=some d):Goes C w0 S0 U st ts sv w o id (fun st=>st.apply o.dst d):=by
 simp only[z0,ho]at h;split at h
 .rename_i agg tys hT;split at h
  .rename_i hle;cases h;obtain⟨M,q⟩:=g.mem.zeroRoots g.ids.mem G hle;obtain⟨z,hz,H⟩:=zbav (w:=w) (hC.cty T agg tys hT);have B:IdsM {st with ro:=Go.Proofs.YtapgkefgcbapcaaGreat.E.zeroRoots tys id++st.ro} (fun n=>U n\/(id<=n/\n<id+31)):=(by refine⟨fun n R b=>?_,fun n f b=>⟨.inl (g.ids.lo n f b).1,fun a t m i=>.inl ((g.ids.lo n f b).2 a t m i)⟩⟩;simp only[zbM]at b;split at b;{rename_i Q hQ;obtain⟨A,Y,_⟩:=zkq tys id n Q hQ;exact .inr ⟨A,by omega⟩};{exact .inl (g.ids.ro n R b)});have W:z.cells.size=(zeros tys id).length:=(by rw[zGp,<- kP,H];simp);have x:∀(j:Nat) (c:At) (u:Value),(zeros tys id)[j]?=some c->z.cells[j]?=some u->u.oneCell'=true/\VA w {st with ro:=Go.Proofs.YtapgkefgcbapcaaGreat.E.zeroRoots tys id++st.ro} (zkp E id) c u:=by intro j c u hc hu;obtain⟨ct,A,Y,h3,_⟩:=zxi (E:=E) hle hc;have:z.cells.toList[j]?=some u:=(by simpa using hu);rw[H,qQ,A] at this;cases this;exact⟨Y,h3 _ _⟩
   obtain⟨N,s⟩:=M.addLoc B (id:=id+31) (fun b=>b.elim (G _ ⟨by omega,by omega⟩) (fun h=>by omega)) (e:=T) W x (fun a t m i=>by
    obtain⟨k,V⟩:=qV.1 t;obtain⟨_,_,_,_,J⟩:=zxi (E:=E) hle V;exact .inr (J m i))
   refine zma g (v:=.pointer (some ⟨w.heap.size,0,none⟩)) (w1:=w.alloc (.cells z.cells T (0,0))) ?_ (.inl rfl) N ?_ rfl rfl rfl ?_ ?_ ?_ ?_;{simp [execOp,ho,Instr.alloc,hz,newVar,newRow,newObj,Sem.run]}
   .exact ⟨fun r D R1 P=>by
     obtain⟨R,hR,ht,hh⟩:=s.ro r (.inl D) R1 P;obtain⟨R',O,y,S⟩:=q.ro r D R hR;refine⟨R',O,ht.trans y,fun p u hp=>?_⟩;rw[<- y];exact hh p u (by rw[y];exact S p u hp),
     fun l D L A=>by
     obtain⟨⟨f,x⟩,X⟩:=s.lo l (.inl D) L A;obtain⟨⟨K,F⟩,I⟩:=q.lo l D f x;exact⟨⟨K,F⟩,X.trans I⟩,s.κ.trans q.κ⟩
   {intro n R b;rcases B.ro n R b with h|h;{exact .inl h};{exact .inr ⟨h.1,by omega⟩}};{intro n f b;simp only[zy]at b;split at b;{rename_i Z;simp only[qK]at Z;subst Z;cases b;refine⟨.inr ⟨by omega,by omega⟩,fun a t m i=>?_⟩;obtain⟨k,V⟩:=qV.1 t;obtain⟨_,_,_,_,J⟩:=zxi (E:=E) hle V;exact .inr ⟨(J m i).1,by have:=(J m i).2;omega⟩};{exact⟨.inl (g.ids.lo n f b).1,fun a t m i=>.inl ((g.ids.lo n f b).2 a t m i)⟩}};{exact⟨⟨_,rfl⟩,fun f _=>by simp⟩};{intro n b;rw[zeo]at b;simp only[At.ids,zby,zbG,jW,qF]at b;subst b;exact .inr ⟨by omega,by omega⟩}
  {cases h}
 {cases h}
end
section
variable {C:Cfg} {w0 w w1:World} {S0:zbd} {U:Nat->Prop} {st st1:St} {E E1:Env} {ts:Array Value} {sv:List (Array Value)}
def zJM (hC:CfgOk C)(h:Sim w0 S0 U st E ts sv w){o:Oper}{id:Nat}{T:TypeId}{a x:Operand}{F:Bool}{tys:List CTy}{y:TV}{l b:Nat}{g:List At}(ho:o.op = .store T a x)(hT:C.cty T=some (F,tys))(Y:VM w st E (.v y) (({tmps:=ts,defers:=[]}:Act).eval x))(X:∀n∈(MV.v y).ids,U n)(V:y≠.at .bad)(G:st.at a=some (.lp l b))(k:zy st.lo l=some g)(I:(zZ y).length=tys.length)(a1:b+tys.length<=g.length) :
 Goes C w0 S0 U st ts sv w o id (λst=>st.apply o.dst {v:=.und,lo:=[(l,C0 g b<|zZ y)]}):=by
 obtain⟨O,a0⟩:=zbN h G;obtain⟨A,H⟩:=VT.cells Y V;have Q:∀a∈zZ y,∀m∈a.ids,U m:=λa G m p=>X m (by simp only[MV.ids,zbL,qR];exact⟨a,G,p⟩)
 have N:=O.2 g k;obtain⟨g0,d,e,Z,g2,g3⟩:=h.mem.loc l g k;obtain⟨M,r⟩:=h.ids.lo l g k;generalize hv:({tmps:=ts,defers:=[]}:Act).eval x=v at *;have K:∀u∈v.cells.toList,u.oneCell'=true:=by intro u D;obtain⟨j,B⟩:=qV.1 D;have S:j<(zZ y).length:=(by rw[<- A];have:=(qA.1 B).1;simpa using this);exact(H j _ u (qB S) (by simpa using B)).1
 have i:v.cells.toList.length=(zZ y).length:=by simpa using A
 have J:=run_storeCells_at (P:=C.P) (E.β l) b e v.cells.toList 0 d w Z (by rw[i,g2];omega) K
 have W:(d.toList.take (b+0)++v.cells.toList++d.toList.drop (b+0+v.cells.toList.length))=C0 d.toList b v.cells.toList:=by simp[C0]
 rw[W]at J;have t:b+v.cells.toList.length<=d.toList.length:=by rw[i];simp;omega
 have z:b+(zZ y).length<=g.length:=by omega
 have s:∀c∈C0 g b (zZ y),∀m∈c.ids,U m:=by intro c f m p;simp only[C0,jK]at f;rcases f with (f|f)|f;{exact r c (j8 f) m p};{exact Q c f m p};{exact r c (uA f) m p}
 obtain⟨hM,L⟩:=h.mem.stLoc h.ids.mem k (cs':=C0 g b (zZ y)) (vals':=(C0 d.toList b v.cells.toList).toArray) (e':=e) (w1:=w.setRow (E.β l) (C0 d.toList b v.cells.toList).toArray)
  rfl rfl rfl (by simp) (λx hx=>setRow_other w _ x _ hx) (setRow_heap w _ _ _ e _ Z)
  (by rw[zi5 g b _ z,kD,zi5 _ _ _ t];simpa using g2)
  (λj c u f D=>by
   simp only[jL]at D
   by_cases B:b<=j/\j<b+(zZ y).length
   .rw [zfA g b _ z j B.1 B.2]at f;rw[zfA _ b _ t j B.1 (by rw[i];exact B.2)]at D
    exact H (j-b) c u f (by simpa using D)
   .rw [zfl g b _ z j (by omega)]at f
    rw[zfl _ b _ t j (by rw[i];omega)]at D
    exact g3 j c u f (by simpa using D)) s
 refine zma h (v:=undef) (mv:=.und) (n:=.skip) ?_ (.inr ⟨rfl,rfl⟩) hM L rfl rfl rfl (λn R q=>.inl (h.ids.ro n R q)) ?_ rfl ?_
 .have hsz:v.cells.size=tys.length:=by rw[A,I]
  simp[execOp,ho,Instr.storeAt,N,Instr.sureAddr,storeVar,zBW<|hC.cty T F tys hT,hv,hsz,J]
 .intro n cs' q;simp only[zy]at q;split at q
  .rename_i he;simp only[qK]at he;subst he;cases q;exact⟨.inl M,λc f m p=>.inl (s c f m p)⟩
  .exact⟨.inl (h.ids.lo n cs' q).1,λa G m p=>.inl ((h.ids.lo n cs' q).2 a G m p)⟩
 .intro n q;simp[MV.ids,zbL]at q
def z5Y (k:CfgOk C)(g:Sim w0 S0 U st E ts sv w){o:Oper}{id:Nat}{T:TypeId}{a x:Operand}{e:Bool}{c:List CTy}{y:TV}{l b:Nat}{f:List At}(p:o.op = .store T a x)(m:C.cty T=some (e,c))(j:st.opnd x=some (.v y))(n:st.at a=some (.lp l b))(h:zy st.lo l=some f)(d:(zZ y).length=c.length)(i:b+c.length<=f.length) :
 Goes C w0 S0 U st ts sv w o id (λst=>st.apply o.dst {v:=.und,lo:=[(l,C0 f b<|zZ y)]}):=
 zJM k g p m (zcn g j).1 (zcn g j).2 (zsR j) n h d i
def z2v (D:CfgOk C)(f:Sim w0 S0 U st E ts sv w){o:Oper}{id:Nat}(r:∀n,Mine id n->¬ U n){T:TypeId}{a:Operand}{i:Bool}{t:Ty}{l c:Nat}{d:List At}(I:o.op = .store T a (.const<|.slice none 0 0))(G:C.cty T=some (i,[.s t]))(p:st.at a=some (.lp l c))(q:zy st.lo l=some d)(u:c+1<=d.length) :
 Goes C w0 S0 U st ts sv w o id (λst=>st.apply o.dst {v:=.und,lo:=[(l,C0 d c [.sl id []])],ro:=[(id,zdN t [])]}):=by
 intro next Q b;obtain⟨F,k⟩:=f.mem.zeroRoots f.ids.mem r (tys:=[.s t]) (by simp)
 have j:Sim w0 S0 (λn=>U n\/Mine id n) {st with ro:=zeroRoots [.s t] id++st.ro} (zkp E id) ts sv w :=
  Sim.next f F k rfl rfl (λn h=>.inl h) (λn R h=>by
   simp only[zbM]at h;split at h
   .rename_i Q hQ;obtain⟨A,B,_⟩:=zkq [.s t] id n Q hQ;simp only[qY,k7]at B;exact .inr ⟨A,by omega⟩
   .exact .inl (f.ids.ro n R h))
   (λn d b=>⟨.inl (f.ids.lo n d b).1,λa p m H=>.inl ((f.ids.lo n d b).2 a p m H)⟩) (dst:=none) (mv:=.und) (v:=undef) rfl (λn b=>by simp[MV.ids,zbL]at b)
 have g:=zJM (id:=id) D j (y:=.at (.sl id [])) I G ⟨⟨none,0,0,rfl⟩,λR K=>by simp[zbg,zkp,Act.eval]⟩
  (λn b=>by
   rw[zeo]at b;simp only[At.ids,zby,zbG,jF,qF]at b;subst b;exact .inr (zfc _)) (by simp) p q rfl (by simpa using u)
 refine g next Q (λz v J x=>b z v J ?_);have e:(λn=>(U n\/Mine id n)\/Mine id n)=λn=>U n\/Mine id n:=by funext n;simp[or_assoc]
 rw[e]at x;exact x
def zYo (i:Sim w0 S0 U st E ts sv w){o:Oper}{id:Nat}(y:∀n,Mine id n->¬ U n){t:Ty}{l:List t.den}{c:Bool}{v:Value}{S:zbd}(j:(execOp ({tmps:=ts,defers:=[]}:Act).eval o).run C.P w = .ok (.value v) w1)(A:w1.os=w.os)(D:w1.tape=w.tape)(k:w1.output=w.output)(B:w.heap.size<=w1.heap.size)(h:∀x,x<w.heap.size->w1.heap[x]?=w.heap[x]?)(g:Rep true w1 v (.s t l) S)(d:∀x,S x->w.heap.size<=x/\x<w1.heap.size) :
 Goes C w0 S0 U st ts sv w o id (λst=>st.apply o.dst {c,v:=.v (.at<|.sl id []),ro:=[(id,zdN t l)]}):=by
 have f:=y id (zfc id);obtain⟨G,H⟩:=i.mem.addRoots i.ids.mem (dro:=[(id,zdN t l)]) (w1:=w1) (E1:={E with ρ:=λn=>if n=id then v else E.ρ n,φ:=λn=>if n=id then S else E.φ n})
  A D k B h (λr R j=>by
   simp only[zy]at j;split at j
   .rename_i he;simp only[qK]at he;subst he;cases j;exact⟨f,rfl,rfl,by simpa [zdN] using g,λx L=>d x (by simpa using L)⟩
   .cases j)
  (λr R O M q u z=>by
   simp only[zy]at q u;split at q
   .split at u
    .rename_i e1 e2;simp only[qK] at e1 e2;exact absurd (e1.symm.trans e2) z
    .cases u
   .cases q)
  (λn b=>by
   have:n≠id:=λe=>f (e ▸ b);simp[this])
 obtain⟨⟨a,p,K,_⟩,_⟩:=g.len;refine zma i j (.inl rfl) G H rfl rfl rfl ?_ (λn F b=>⟨.inl (i.ids.lo n F b).1,λa I m J=>.inl ((i.ids.lo n F b).2 a I m J)⟩) ?_ ?_
 .intro n R b;simp only[kF,jW,zy]at b;split at b
  .rename_i he;simp only[qK]at he;subst he;exact .inr (zfc _)
  .exact .inl (i.ids.ro n R b)
 .exact⟨⟨a,_,p,K⟩,λR N=>by simp[zbg]⟩
 .intro n b;rw[zeo]at b;simp only[At.ids,zby,zbG,jF,qF]at b;subst b;exact .inr (zfc _)
def zbcG (c:Sim w0 S0 U st E ts sv w){o:Oper}{id:Nat}(b:∀n,Mine id n->¬ U n){t:Ty}(a:o.op = .move (.const<|.slice none 0 0)\/o.op = .assign (.const<|.slice none 0 0)) :
 Goes C w0 S0 U st ts sv w o id (λst=>st.apply o.dst {v:=.v (.at<|.sl id []),ro:=[(id,zdN t [])]}):=by
 refine zYo c b (v:=.slice none 0 0) (S:=λ_=>False) (w1:=w) ?_ rfl rfl rfl (qX _) (λ_ _=>rfl) (.nil t _) (λx d=>d.elim);rcases a with a|a<;>simp [execOp,a,Act.eval]
def z8R:CTy->CV
 |.i k=>.i k 0
 |.b=>.b false
 |.s t=>.s t []
def zBp (t:Ty):t.cells t.dflt=t.shape.map z8R:=by cases t<;>rfl
def zL6 (o:Bool)(w:World)(c:CTy)(S:zbd):Rep o w (zeroV c) (z8R c) S:=by cases c with|i k=>exact .i k 0 S|b=>exact .b false S|s t=>exact .nil t S
def zGl (t:Ty):0<t.wi:=by cases t<;>simp [Ty.wi]
def zwR {z:LV}{t:Ty}(f:z.toList=t.shape.map zeroV){n i j:Nat}(k:i<n)(e:j<t.wi) :
 ∃c,t.shape[j]?=some c/\(madeCells z<|n*t.wi)[i*t.wi+j]?=some (zeroV c):=by
 have m:z.size=t.wi:=by rw[<- kP,f];simp[zf7]
 have a:j<t.shape.length:=by rw[zf7];exact e
 refine⟨t.shape[j],by simp[a],?_⟩
 have b:i*t.wi+j<n*t.wi:=by have:(i+1)*t.wi<=n*t.wi:=qS _ k;rw[jO] at this;omega
 have l:(i*t.wi+j) % t.wi=j:=by rw[Nat.add_comm,Nat.add_mul_mod_self_right,Nat.mod_eq_of_lt e]
 have d:z[j]! = zeroV t.shape[j]:=by have g:z.toList[j]?=some (zeroV t.shape[j]):=(by rw[f];simp[a]);have h:z[j]?=some (zeroV t.shape[j]):=(by simpa using g);rw[getElem!_def,h]
 unfold madeCells;rw[vG,Array.getElem?_range];simp[b,m,l,d]
def zQR {n:Int}(h:few n=true):0<=n/\n<=2147483648:=by have:=qD h;omega
def z2u (J:CfgOk C)(q:Sim w0 S0 U st E ts sv w){o:Oper}{id:Nat}(s:∀n,Mine id n->¬ U n){T:TypeId}{x y:Operand}{d:Dl}(F:o.op = .makeSlice T x y)(h:z0 C st o id=some d)(D:d.c=true):Goes C w0 S0 U st ts sv w o id (λst=>st.apply o.dst d):=by
 simp only[z0,F]at h;split at h
 .rename_i t n m hT l p;cases h;have a:=(zbN q l).1;have H:=(zbN q p).1;simp only[VA]at a H;simp only[qE,ieq,qK]at D;obtain⟨L,rfl⟩:=D;obtain⟨B,f⟩:=zQR L;obtain⟨e,hE⟩:=J.sty T t hT;obtain⟨i,z,k,O,Q,A,K⟩:=hE.info;have r:(i.bytes:Int)*n<=281474976710656:=(by have:(i.bytes:Int)*n<=1024*2147483648:=Int.mul_le_mul (by omega) f B (by omega);omega);have G:=run_make (P:=C.P) w T e i z hE.und k Q .i64 .i64 n n B (kQ _) r (by omega);rw[O]at G;have N:n.toNat<=2147483648:=(by omega);have u:=size_madeCells z.cells (n.toNat*t.wi);refine zYo q s (S:=λx=>x=w.heap.size) (w1:=w.alloc (.cells (madeCells z.cells<|n.toNat*t.wi) e)) (v:=.slice (some ⟨w.heap.size,0,none⟩) n.toNat n.toNat) ?_ rfl rfl rfl (by simp) (λx a=>heap_alloc_old w _ x a) ?_ (λx a=>by subst a;simp);{simp [execOp,F,a,H,G]}
  .have hlen:(rp n t.dflt).length=n.toNat:=by simp[rp]
   have:=Rep.sl (o:=true) (w:=w.alloc (.cells (madeCells z.cells<|n.toNat*t.wi) e)) t (rp n t.dflt) w.heap.size 0 n.toNat (madeCells z.cells<|n.toNat*t.wi) e (0,0)
    (λ_ j=>((t.shape[j]?).map zeroV).getD undef) (λ_ _ _=>False) (λx=>x=w.heap.size) (heap_alloc_new w _) (λ_=>rfl) (by rw[hlen];simp only[big];omega) (by rw[hlen];exact qX _) (by rw[u];omega) rfl
    (λ_ _ _ _ _ h=>h.elim) (λ_ _ _ _ _ _ _ _ _ _ h=>h.elim) (λi j k M=>by
     rw[hlen]at k;obtain⟨c,l,p⟩:=zwR A k M;rw[kB,p,l];rfl)
    (λi x a j c b=>by
     simp only[rp]at a;rw[kH]at a;split at a
     .cases a;rw[zBp,qQ]at b;cases g:t.shape[j]? with
      |none=>rw[g]at b;cases b
      |some I=>rw[g]at b;cases b;exact zL6 true _ I _
     .cases a)
   rw[hlen] at this;exact this
 {cases h}
end
section
variable {C:Cfg} {w0 w w1:World} {S0:zbd} {U:Nat->Prop} {st st1:St} {E E1:Env} {ts:Array Value} {sv:List (Array Value)}
def add_lit (b o n:Nat):(⟨b,o,none⟩:Addr).add n=⟨b,o+n,none⟩:=by unfold Addr.add;split<;>simp_all
def zbdn {P:Program}{T e:TypeId}(h:P.underlying T=some (.slice e)):P.elem T=e/\P.underlying T=some (.slice<|P.elem T):=by have:P.elem T=e:=(by simp[Program.elem,h]);exact⟨this,by rw[this];exact h⟩
def Rep.subO {o:Bool}{t:Ty}{l:List t.den}{a:Option Addr}{len d x y:Nat}{S:zbd}(h:Rep o w (.slice a len d) (.s t l) S)(X:x<=y)(N:y<=l.length) :
 Rep o w (sliced a x y d t.wi) (.s t<|(l.take y).drop x) S:=by
 cases h with
 |nil=>have n:y=0:=(by simpa using N);have m:x=0:=(by omega);subst n m;exact .nil t S
 |void _ a _ M=>have n:y=0:=(by simpa using N);have m:x=0:=(by omega);subst n m;exact .void t _ S (by assumption)
 |sl _ _ b p d B e P V K _ R E J I U Q g r W T=>
  have k:((l.take y).drop x).length=y-x:=by simp;omega
  have O:sliced (some ⟨b,p,none⟩) x y d t.wi = .slice (some ⟨b,if d=x then p else p+x*t.wi,none⟩) ((l.take y).drop x).length (d-x):=by
   unfold sliced;rw[k];split
   .rfl
   .simp [add_lit]
  rw[O];have u:∀i,i<y-x->d≠x:=λi f=>(by omega);have L:(d-x)*t.wi+x*t.wi=d*t.wi:=by rw[<- kY];congr 1;omega
  refine .sl t _ b _ (d-x) B e P (λi j=>V (x+i) j) (λi j=>K (x+i) j) S R E (by rw[k];omega) (by rw[k];omega) ?_ Q (λi j z f q v=>⟨(g (x+i) j z (by rw[k]at f;omega) q v).1,(g (x+i) j z (by rw[k]at f;omega) q v).2⟩) (λM i j Y Z z f q F G v H=>by
   rw[k]at f F;have:=r M (x+i) j (x+Y) Z z (by omega) q (by omega) G v H
   exact⟨by omega,this.2⟩) ?_ ?_
  {split;{rename_i D;subst D;simp;omega};{omega}};{intro i j f q;rw[k]at f;rw[if_neg<|u i f,<- W (x+i) j (by omega) q,kY];congr 1;omega};{intro i z A j c C;rw[jV,jP]at A;split at A;{exact T (x+i) z A j c C};{cases A}}
def Rep.sub {o:Bool}{t:Ty}{l:List t.den}{a:Option Addr}{len b x y:Nat}{S:zbd}(h:Rep o w (.slice a len b) (.s t l) S)(c:x<=y)(d:y<=l.length) :
 Rep false w (sliced a x y b t.wi) (.s t<|(l.take y).drop x) S:=(h.subO c d).ro
def z7r {b:Ty}{d:List b.den}{p:List (Int×Nat)}{t:Ty}{l:List t.den}(h:ziZ b d p=some (.s t l))(c:t.flat=false):b.flat=false:=by
 cases p with
 |nil=>cases h;exact c
 |cons a p=>
  obtain⟨i,j⟩:=a;cases b with
  |kept=>rfl
  |guest=>rfl
  |bare=>rfl
  |mon=>rfl
  |sl t=>rfl
  |int=>match j,h with|0,h=>cases h|n+1,h=>cases h
  |u8=>match j,h with|0,h=>cases h|n+1,h=>cases h
  |bool=>match j,h with|0,h=>cases h|n+1,h=>cases h
  |slot=>match j,h with|0,h=>cases h|1,h=>cases h|n+2,h=>cases h
  |ins=>match j,h with|0,h=>cases h|1,h=>cases h|n+2,h=>cases h
  |entry=>match j,h with|0,h=>cases h|1,h=>cases h|2,h=>cases h|3,h=>cases h|n+4,h=>cases h
  |act=>match j,h with|0,h=>cases h|1,h=>cases h|2,h=>cases h|3,h=>cases h|4,h=>cases h|5,h=>cases h|n+6,h=>cases h
  |told=>match j,h with|0,h=>cases h|1,h=>cases h|n+2,h=>cases h
def zug {r:Nat}{R:Root}{p:List (Int×Nat)}{t:Ty}{l:List t.den}(b:st.root r=some R)(d:st.node r p=some (.s t l))(c:t.flat=false):R.t.flat=false:=by obtain⟨e,a,hg⟩:=zg7 d;rw[b]at a;cases a;exact z7r hg c
def zt0 (e:Sim w0 S0 U st E ts sv w){o:Oper}{id:Nat}(h:∀n,Mine id n->¬ U n){r:Nat}{R:Root}(k:st.root r=some R){t:Ty}{l:List t.den}{c:Bool}{v:Value}(y:(execOp ({tmps:=ts,defers:=[]}:Act).eval o).run C.P w = .ok (.value v) w)(d:Rep false w v (.s t l) (E.φ r))(i:t.flat=false->R.t.flat=false) :
 Goes C w0 S0 U st ts sv w o id (λs=>s.apply o.dst {c,v:=.v (.at<|.sl id []),ro:=[(id,zf8 st R t l)]}):=by
 have f:=h id (zfc id);obtain⟨p,q⟩:=e.mem.view e.ids.mem f k d i;obtain⟨⟨a,g,z,_⟩,_⟩:=d.len;refine zma e y (.inl rfl) p q rfl rfl rfl ?_ (λn j b=>⟨.inl (e.ids.lo n j b).1,λa u m x=>.inl ((e.ids.lo n j b).2 a u m x)⟩) ?_ ?_
 .intro n R b;simp only[zy]at b;split at b
  .rename_i he;simp only[qK]at he;subst he;exact .inr (zfc _)
  .exact .inl (e.ids.ro n R b)
 .exact⟨⟨a,_,g,z⟩,λR k=>by simp[zbg]⟩
 .intro n b;rw[zeo]at b;simp only[At.ids,zby,zbG,jF,qF]at b;subst b;exact .inr (zfc _)
def zok (e:Sim w0 S0 U st E ts sv w){o:Oper}{id:Nat}(y:∀n,Mine id n->¬ U n){g:List Nat}{t:Ty}{m:List t.den}{c:Bool}{v:Value}{φn:zbd}(M:(execOp ({tmps:=ts,defers:=[]}:Act).eval o).run C.P w = .ok (.value v) w1)(z:∀k∈g,∃R,st.root k=some R/\R.own=true)(A:w1.os=w.os)(D:w1.tape=w.tape)(j:w1.output=w.output)(B:w.heap.size<=w1.heap.size)(f:∀x,x<w.heap.size->(∀k∈g,¬ E.φ k x)->w1.heap[x]?=w.heap[x]?)(F:∀x,φn x->(∃k∈g,E.φ k x)\/(w.heap.size<=x/\x<w1.heap.size))(d:Rep true w1 v (.s t m) φn)(i:∀k∈g,∀R,st.root k=some R->Rep false w1 (E.ρ k) (.s R.t R.l) (E.φ k)/\∀p u,zbg w R.t (E.ρ k) p=some u->zbg w1 R.t (E.ρ k) p=some u) :
 Goes C w0 S0 U st ts sv w o id (λs=>s.apply o.dst {c,v:=.v (.at<|.sl id []),ro:=(id,zdN t m)::moved st g,bump:=true}):=by
 have h:=y id (zfc id);obtain⟨I,J⟩:=e.mem.merge e.ids.mem h z A D j B f F d i;obtain⟨⟨a,q,N,_⟩,_⟩:=d.len;refine zma e M (.inl rfl) I J rfl rfl rfl ?_ (λn G b=>⟨.inl (e.ids.lo n G b).1,λa K m L=>.inl ((e.ids.lo n G b).2 a K m L)⟩) ?_ ?_
 .intro n R b;simp only[kF,zy]at b;split at b
  .rename_i he;simp only[qK]at he;subst he;exact .inr (zfc _)
  .rw [zbM]at b;split at b
   .rename_i Q hQ;obtain⟨_,H,r,_⟩:=zor g n Q hQ;exact .inl (e.ids.ro n H r)
   .exact .inl (e.ids.ro n R b)
 .exact⟨⟨a,_,q,N⟩,λR O=>by simp[zbg]⟩
 .intro n b;rw[zeo]at b;simp only[At.ids,zby,zbG,jF,qF]at b;subst b;exact .inr (zfc _)
def zy2 (e:Sim w0 S0 U st E ts sv w){o:Oper}{id:Nat}(p:∀n,Mine id n->¬ U n){i:List Nat}{t:Ty}{m:List t.den}{c:Bool}{v:Value}{φn:zbd}(I:(execOp ({tmps:=ts,defers:=[]}:Act).eval o).run C.P w = .ok (.value v) w1)(q:∀k∈i,∃R,st.root k=some R/\(R.own=true\/(R.ep=none/\R.t.flat=false)))(r:w1.os=w.os)(y:w1.tape=w.tape)(h:w1.output=w.output)(u:w.heap.size<=w1.heap.size)(f:∀x,x<w.heap.size->w1.heap[x]?=w.heap[x]?)(z:∀x,φn x->(∃k∈i,E.φ k x)\/(w.heap.size<=x/\x<w1.heap.size))(d:Rep false w1 v (.s t m) φn) :
 Goes C w0 S0 U st ts sv w o id (λs=>s.apply o.dst {c,v:=.v (.at<|.sl id []),ro:=(id,⟨t,m,false,none⟩)::zgw st i}):=by
 have g:=p id (zfc id);obtain⟨D,F⟩:=e.mem.freeze e.ids.mem g q r y h u f z d;obtain⟨⟨a,j,J,_⟩,_⟩:=d.len;refine zma e I (.inl rfl) D F rfl rfl rfl ?_ (λn A b=>⟨.inl (e.ids.lo n A b).1,λa G m H=>.inl ((e.ids.lo n A b).2 a G m H)⟩) ?_ ?_
 .intro n R b;simp only[kF,zy]at b;split at b
  .rename_i he;simp only[qK]at he;subst he;exact .inr (zfc _)
  .rw [zbM]at b;split at b
   .rename_i Q hQ;obtain⟨_,B,l,_⟩:=zwx i n Q hQ;exact .inl (e.ids.ro n B l)
   .exact .inl (e.ids.ro n R b)
 .exact⟨⟨a,_,j,J⟩,λR K=>by simp[zbg]⟩
 .intro n b;rw[zeo]at b;simp only[At.ids,zby,zbG,jF,qF]at b;subst b;exact .inr (zfc _)
def zSc {a b n:Int}(h:inr a b n=true):0<=a/\a<=b/\b<=n:=qD h
def zbdU (hC:CfgOk C)(j:Sim w0 S0 U st E ts sv w){o:Oper}{id:Nat}(g:∀n,Mine id n->¬ U n){T:TypeId}{x:Operand}{lo hi:Option Operand}{d:Dl}(O:o.op = .slice T x lo hi none)(h:z0 C st o id=some d)(B:d.c=true):Goes C w0 S0 U st ts sv w o id (λst=>st.apply o.dst d):=by
 simp only[z0,O]at h;split at h
 .rename_i r p h1;split at h
  .rename_i R t l hR hn;split at h
   .rename_i hT;obtain⟨hx,a2⟩:=zbN j h1;obtain⟨e,hE⟩:=hC.sty T t hT;obtain⟨W,I⟩:=zbdn hE.und;obtain⟨i,z,X,hs,_⟩:=hE.info;have F:(sizeOf<|C.P.elem T).run C.P w = .ok t.wi w:=(by rw[W];simp[sizeOf,typeInfo,X,hs]);obtain⟨R',S',N,g1,g2,g3,g4⟩:=zxf j hx hn;rw[hR]at N;cases N;obtain⟨⟨a,u,hv,a1⟩,a0⟩:=g3.len;generalize G:({tmps:=ts,defers:=[]}:Act).eval x=v at *;subst hv;have A:=g3.weak (S':=E.φ r) g4;split at h;{cases h;have b:=A.sub (j7 l.length) (qX _);simp only[List.take_length,vE]at b;refine zt0 j g hR ?_ b (zug hR hn);simp[execOp,O,G,run_sliceAt_slice (P:=C.P) w T _ _ _ _ I,run_slice_all (P:=C.P) w T a l.length u I,F]}
    .rename_i Z;split at h
     .rename_i n M;cases h;have J:=(zbN j M).1;simp only[VA]at J;have K:inr n (ln l) (ln l)=true:=(by unfold zQO at B;split at B;{cases s:zwQ C<;>(rw [s]at B;exact B)};{exact B});obtain⟨S,H,L⟩:=zSc K;simp only[ln] at H L;have f:=A.subO (x:=n.toNat) (y:=l.length) (by omega) (qX _);have b:=A.sub (x:=n.toNat) (y:=l.length) (by omega) (qX _);simp only[List.take_length]at b f;have q:(execOp ({tmps:=ts,defers:=[]}:Act).eval o).run C.P w = .ok (.value<|sliced a n.toNat l.length u t.wi) w:=(by simp[execOp,O,G,J,run_sliceAt_slice (P:=C.P) w T _ _ _ _ I,run_slice_l (P:=C.P) w T a l.length u I .i64 n S H,F]);unfold zQO;split
      .rename_i hown;cases zwQ C with
       |true=>
        exact zy2 j g (w1:=w) (φn:=E.φ r) q (λk s=>by
         simp only[qF]at s;subst s;exact⟨R,hR,.inl hown⟩) rfl rfl rfl (qX _) (λ_ _=>rfl) (λz D=>.inl ⟨r,by simp,D⟩) b
       |false=>
       rw[hown]at f;exact zok j g (w1:=w) (φn:=E.φ r) q (λk s=>by
        simp only[qF]at s;subst s;exact⟨R,hR,hown⟩) rfl rfl rfl (qX _) (λ_ _ _=>rfl) (λz D=>.inl ⟨r,by simp,D⟩) f (λk s Q V=>⟨(j.mem.rep k Q V).ro,λ_ _ h=>h⟩)
      {exact zt0 j g hR q b (zug hR hn)}
     {cases h}
    .rename_i Y;split at h
     .rename_i n M;cases h;have K:inr 0 n (ln l)=true:=(by unfold zKp at B;split at B;{cases s:zwQ C<;>cases hh:zxQ C<;>(rw [s]at B;first|exact B|(rw [hh]at B;exact B))};{exact B});obtain⟨S,H,L⟩:=zSc K;simp only[ln] at H L;have J:=(zbN j M).1;simp only[VA]at J;have f:=A.subO (x:=0) (y:=n.toNat) (by omega) (by omega);have b:=A.sub (x:=0) (y:=n.toNat) (by omega) (by omega);simp only[vE]at b f;have q:(execOp ({tmps:=ts,defers:=[]}:Act).eval o).run C.P w = .ok (.value<|sliced a 0 n.toNat u t.wi) w:=(by simp[execOp,O,G,J,run_sliceAt_slice (P:=C.P) w T _ _ _ _ I,run_slice_h (P:=C.P) w T a l.length u I .i64 n H (by omega),F]);unfold zKp;split
      .rename_i hown;cases zwQ C with
       |true=>
        exact zy2 j g (w1:=w) (φn:=E.φ r) q (λk s=>by
         simp only[qF]at s;subst s;exact⟨R,hR,.inl hown⟩) rfl rfl rfl (qX _) (λ_ _=>rfl) (λz D=>.inl ⟨r,by simp,D⟩) b
       |false=>
       cases zxQ C with
       |false=>exact zt0 j g hR q b (zug hR hn)
       |true=>
       rw[hown]at f;exact zok j g (w1:=w) (φn:=E.φ r) q (λk s=>by
        simp only[qF]at s;subst s;exact⟨R,hR,hown⟩) rfl rfl rfl (qX _) (λ_ _ _=>rfl) (λz D=>.inl ⟨r,by simp,D⟩) f (λk s Q V=>⟨(j.mem.rep k Q V).ro,λ_ _ h=>h⟩)
      {exact zt0 j g hR q b (zug hR hn)}
     {cases h}
    {rename_i Z Y;split at h;{rename_i n m M h3;cases h;obtain⟨S,H,L⟩:=zSc B;simp only[ln] at H L;have J:=(zbN j M).1;have D:=(zbN j h3).1;simp only[VA]at J D;have b:=A.sub (x:=n.toNat) (y:=m.toNat) (by omega) (by omega);refine zt0 j g hR ?_ b (zug hR hn);simp[execOp,O,G,J,D,run_sliceAt_slice (P:=C.P) w T _ _ _ _ I,run_slice_lh (P:=C.P) w T a l.length u I .i64 .i64 n m S H (by omega),F]};{cases h}}
   {cases h}
  {cases h}
 {cases h}
def Rep.flat {o d:Bool}{w w':World}{v:Value}{c:CV}{S S':zbd}(h:Rep o w v c S)(a:c.flat=true):Rep d w' v c S':=by cases h with|i k n=>exact .i k n S'|b x=>exact .b x S'|nil=>cases a|void=>cases a|sl=>cases a
def zxL {t:Ty}(a:t.flat=true){x:t.den}{j:Nat}{c:CV}(h:(t.cells x)[j]?=some c):c.flat=true:=by have d:=zMb h;have:=qP.1 a c.ty (qJ d);cases c with|i k n=>rfl|b y=>rfl|s t l=>cases this
def Rep.one {o:Bool}{w:World}{v:Value}{c:CV}{S:zbd}(h:Rep o w v c S):v.oneCell'=true:=by cases h<;>rfl
structure Rows (o:Bool) (w:World) (t:Ty) (l:List t.den) (arr:Array Value) (off:Nat) (b:Nat) (V:Nat->Nat->Value) (K:Nat->Nat->zbd) (S:zbd):Prop where
 sub:∀i j x,i<l.length->j<t.wi->K i j x->S x/\(o=true->x≠b)
 dis:o=true->∀i j i' j' x,i<l.length->j<t.wi->i'<l.length->j'<t.wi->K i j x->K i' j' x->i=i'/\j=j'
 val:∀i j,i<l.length->j<t.wi->arr[off+i*t.wi+j]?=some (V i j)
 con:∀i x,l[i]?=some x->∀j c,(t.cells x)[j]?=some c->Rep o w (V i j) c (K i j)
def Rep.join {w1:World}{t:Ty}{a g:List t.den}{b k l:Nat}{arr:LV}{e:TypeId}{V1 V2:Nat->Nat->Value}{K1 K2:Nat->Nat->zbd}{S:zbd}(B:w1.heap[b]?=some (.cells arr e (0,0)))(r:a.length+g.length<=big)(q:a.length+g.length<=l)(p:k+l*t.wi<=arr.size)(A:S b)(E:∀i j,i<a.length->j<t.wi->arr[k+i*t.wi+j]?=some (V1 i j))(F:∀i j,i<g.length->j<t.wi->arr[k+(a.length+i)*t.wi+j]?=some (V2 i j))(v:∀i x,a[i]?=some x->∀j c,(t.cells x)[j]?=some c->Rep true w1 (V1 i j) c (K1 i j))(w:∀i x,g[i]?=some x->∀j c,(t.cells x)[j]?=some c->Rep true w1 (V2 i j) c (K2 i j))(u:∀i j x,i<a.length->j<t.wi->K1 i j x->S x/\x≠b)(D:∀i j x,i<g.length->j<t.wi->K2 i j x->S x/\x≠b)(y:∀i j f d x,i<a.length->j<t.wi->f<a.length->d<t.wi->K1 i j x->K1 f d x->i=f/\j=d)(z:∀i j f d x,i<g.length->j<t.wi->f<g.length->d<t.wi->K2 i j x->K2 f d x->i=f/\j=d)(n:∀i j f d x,i<a.length->j<t.wi->f<g.length->d<t.wi->K1 i j x->¬ K2 f d x) :
 Rep true w1 (.slice (some ⟨b,k,none⟩) (a.length+g.length) l) (.s t<|ap a g) S:=by
 have C:(ap a g).length=a.length+g.length:=by simp[ap]
 rw[<- C];refine .sl t (ap a g) b k l arr e (0,0) (λi j=>if i<a.length then V1 i j else V2 (i-a.length) j) (λi j=>if i<a.length then K1 i j else K2 (i-a.length) j) S B (λ_=>rfl) (by omega) (by omega) p A ?_ ?_ ?_ ?_
 .intro i j x hi hj hk
  by_cases h:i<a.length
  .simp only [if_pos h]at hk;exact⟨(u i j x h hj hk).1,λ_=>(u i j x h hj hk).2⟩
  .simp only [if_neg h]at hk;have:=D (i-a.length) j x (by omega) hj hk
   exact⟨this.1,λ_=>this.2⟩
 .intro _ i j f d x hi hj hi' hj' hk hk'
  by_cases h:i<a.length<;>by_cases m:f<a.length
  .simp only [if_pos h]at hk;simp only[if_pos m]at hk';exact y i j f d x h hj m hj' hk hk'
  .simp only [if_pos h]at hk;simp only[if_neg m]at hk';exact absurd hk' (n i j _ d x h hj (by omega) hj' hk)
  .simp only [if_neg h]at hk;simp only[if_pos m]at hk';exact absurd hk (n f d _ j x m hj' (by omega) hj hk')
  .simp only [if_neg h]at hk;simp only[if_neg m]at hk';have:=z _ j _ d x (by omega) hj (by omega) hj' hk hk'
   exact⟨by omega,this.2⟩
 .intro i j hi hj
  by_cases h:i<a.length
  .simp only [if_pos h];exact E i j h hj
  .simp only [if_neg h];rw[<- F (i-a.length) j (by omega) hj]
   congr 3
   congr 1
   omega
 .intro i x hx j c hcj;simp only[ap]at hx
  by_cases h:i<a.length
  .simp only [if_pos h];rw[qW h]at hx;exact v i x hx j c hcj
  .simp only [if_neg h];rw[qU (by omega)]at hx
   exact w _ x hx j c hcj
def run_append_room' {P:Program}{w:World}(t ty e:TypeId)(i:TypeInfo)(z:P.underlying t=some (.slice e))(x:P.info? e=some i)(g f d h:Nat)(k:LV)(r:TypeId)(hg:w.heap[g]?=some (.cells k r (0,0)))(a:Addr)(m c:Nat)(b:List Value)(y:b.length=m*i.size)(l:∀j u,b[j]?=some u->w.cell? (a.add j)=some u)(s:∀u∈b,u.oneCell'=true)(n:d+m<=h)(p:f+d*i.size+b.length<=k.size) :
 (Builtin.append_ #[t,t] ty #[.slice (some ⟨g,f,none⟩) d h,.slice (some a) m c]).run P w =
  .ok (.slice (some ⟨g,f,none⟩) (d+m) h) (w.setRow g (C0 k.toList (f+d*i.size) b).toArray):=by
 have v:=run_firstCells_some (P:=P) w i.size m a m c b y l;have q:=run_storeCells_at P g (f+d*i.size) r b 0 k w hg (by simpa using p) s
 simp only[kA]at q;simp[Builtin.append_,run_underlying z,sizeOf,typeInfo,x,Builtin.lenOf,n,v,add_lit,q,C0]
def zPG {P:Program}{w:World}(t ty e:TypeId)(i:TypeInfo)(h:P.underlying t=some (.slice e))(g:P.info? e=some i)(s:Option Addr)(d b:Nat)(f:d<=b)(a:Option Addr)(c:Nat) :
 (Builtin.append_ #[t,t] ty #[.slice s d b,.slice a 0 c]).run P w = .ok (.slice s d b) w:=by
 cases s<;>cases a<;>simp [Builtin.append_,run_underlying h,sizeOf,typeInfo,g,Builtin.lenOf,Builtin.firstCells,loadCells,loadCellsFrom,f,storeCells]
end
section
variable {C:Cfg} {w0 w w1:World} {S0:zbd} {U:Nat->Prop} {st st1:St} {E E1:Env} {ts:Array Value} {sv:List (Array Value)}
def Rep.behind {t:Ty}{l:List t.den}{b a g:Nat}{arr f:LV}{e I:TypeId}{V:Nat->Nat->Value}{K:Nat->Nat->zbd}{S:zbd}(B:l.length<=big)(z:l.length<=g)(G:a+g*t.wi<=arr.size)(J:S b)(q:Rows true w t l arr a b V K S)(L:w.heap[b]?=some (.cells arr e (0,0)))(v:w1.heap[b]?=some (.cells f I (0,0)))(O:f.size=arr.size)(m:∀k,k<a+l.length*t.wi->f[k]?=arr[k]?)(h:∀x,x≠b->w1.heap[x]?=w.heap[x]?) :
 Rep true w1 (.slice (some ⟨b,a,none⟩) l.length g) (.s t l) S/\
  ∀p u,zbg w t (.slice (some ⟨b,a,none⟩) l.length g) p=some u->zbg w1 t (.slice (some ⟨b,a,none⟩) l.length g) p=some u:=by
 have r:∀i j,i<l.length->j<t.wi->a+i*t.wi+j<a+l.length*t.wi:=by intro i j d n;have:(i+1)*t.wi<=l.length*t.wi:=qS _ d;rw[jO] at this;omega
 have E:∀i x,l[i]?=some x->∀j c,(t.cells x)[j]?=some c->Rep true w1 (V i j) c (K i j):=by intro i x D j c A;have d:i<l.length:=(qA.1 D).1;have n:j<t.wi:=(by have:=(qA.1 A).1;rw[zdG] at this;exact this);exact(q.con i x D j c A).frame (λy H=>h y ((q.sub i j y d n H).2 rfl))
 refine⟨.sl t l b a g f I (0,0) V K S v (λ_=>rfl) B z (by rw[O];exact G) J q.sub q.dis (λi j d n=>?_) E,?_⟩
 .rw [m _<|r i j d n];exact q.val i j d n
 .intro p u hp;cases p with
  |nil=>exact hp
  |cons P p=>obtain⟨i,j⟩:=P;simp only[zbg]at hp ⊢;split at hp;{rename_i d;rw[if_pos d];split at hp;{rename_i R C;have n:j<t.wi:=(by rw[<- zf7];exact(qA.1 C).1);rw[D0 L,q.val _ _ d.2 n]at hp;rw[D0 v,m _<|r _ _ d.2 n,q.val _ _ d.2 n];simp only at hp ⊢;have D:l[i.toNat]?=some (l[i.toNat]'d.2):=qB d.2;obtain⟨c,M,F⟩:=zCd (x:=l[i.toNat]'d.2) C;obtain⟨Q,rfl⟩:=zoh F;have N:=q.con _ _ D j _ M;rw[zdB p N λy H=>h y ((q.sub _ j y d.2 n H).2 rfl)];exact hp};{cases hp}};{cases hp}
def zZ3 (hC:CfgOk C)(X:Sim w0 S0 U st E ts sv w){o:Oper}{id:Nat}(e8:∀n,Mine id n->¬ U n){T:TypeId}{x y:Operand}{c:Call}(ho:o.op = .call c)(hcb:c.callee = .builtin .append)(hca:c.args.toList=[x,y])(hct:c.argTypes.toList=[T,T]){t:Ty}(hT:C.sty T=some t){r r2:Nat}{p2:List (Int×Nat)}(h1:st.at x=some (.sl r []))(h2:st.at y=some (.sl r2 p2)){R R2:Root}(hR:st.root r=some R)(g6:st.root r2=some R2)(a9:R.own=true)(c0:t.flat=true\/(R2.own=true/\p2=[]/\r≠r2)){l:List t.den}(hn:st.node r2 p2=some (.s t l)){f:List t.den}(g5:R=⟨t,f,R.own,R.ep⟩)(h3:few (ln<|ap f l)=true) :
 Goes C w0 S0 U st ts sv w o id (λs=>s.apply o.dst {c:=few (ln<|ap f l),v:=.v (.at<|.sl id []),ro:=(id,zdN t<|ap f l)::moved st (if t.flat then [r] else [r,r2]),bump:=true}):=by
 obtain⟨d,_⟩:=zbN X h1;obtain⟨hy,_⟩:=zbN X h2;obtain⟨e,hE⟩:=hC.sty T t hT;obtain⟨i,z,g,hs,hz,hzc,g8⟩:=hE.info;have g9:c.args = #[x,y]:=by rw[<- hca]
 have h0:c.argTypes = #[T,T]:=by rw[<- hct]
 have hv1:E.ρ r=({tmps:=ts,defers:=[]}:Act).eval x:=by have:=d.2 R hR;simpa [zbg] using this
 have a3:Rep true w (E.ρ r) (.s t f) (E.φ r):=by have:=X.mem.rep r R hR;rw[a9,g5] at this;exact this
 obtain⟨R',S2,g0,g1,g2,g3,g4⟩:=zxf X hy hn;rw[g6]at g0;cases g0;have f7:∀{v:Value} {w':World},(Builtin.append_ #[T,T] o.type #[E.ρ r,({tmps:=ts,defers:=[]}:Act).eval y]).run C.P w = .ok v w'->
  (execOp ({tmps:=ts,defers:=[]}:Act).eval o).run C.P w = .ok (.value v) w':=by
  intro v w' hr;rw[hv1]at hr;simp[execOp,ho,resolve,hcb,invoke,builtin,g9,h0,hr]
 generalize hvy:({tmps:=ts,defers:=[]}:Act).eval y=v2 at *;obtain⟨f0,f1⟩:=zQR h3;have h7:f.length+l.length<=2147483648:=by simp only[ln,ap,kL] at f1;omega
 have b6:∀k∈(if t.flat=true then [r] else [r,r2]),∃R,st.root k=some R/\R.own=true:=by intro k m;split at m;{simp only [qF]at m;subst m;exact⟨R,hR,a9⟩};{rename_i hf;simp only[qG,qN,or_false]at m;rcases m with rfl|rfl;{exact⟨R,hR,a9⟩};{exact⟨R2,g6,(c0.resolve_left hf).1⟩}}
 have Z:r∈(if t.flat=true then [r] else [r,r2]):=by split<;>simp
 have hrs:∀{Q:Root} {k:Nat},k=r->st.root k=some Q->Q=R:=λh hq=>by subst h;rw[hR]at hq;cases hq;rfl
 by_cases d1:l=[]
 .subst d1;obtain⟨⟨a2,c2,hv2,_⟩,_⟩:=g3.len;obtain⟨⟨a1,c1,h8,e4⟩,_⟩:=a3.len;have hap:ap f []=f:=by simp[ap]
  rw[hap];refine zok X e8 (v:=E.ρ r) (φn:=E.φ r) (w1:=w) (f7 ?_) b6 rfl rfl rfl (qX _) (λ_ _ _=>rfl) (λx d=>.inl ⟨r,Z,d⟩) a3 (λk m Q N=>⟨(X.mem.rep k Q N).ro,λ_ _ h=>h⟩);rw[h8,hv2];exact zPG T o.type e i hE.und g a1 _ _ e4 a2 _
 .cases g3 with
  |nil=>exact absurd rfl d1
  |void=>exact absurd rfl d1
  |sl _ _ b2 J W d3 e2 fz2 V2 K2 _ hb2 hfz2 hlen2 e6 hsz2 hS2 f6 c3 hvv2 a7=>
  have hm0:0<l.length:=kX.2 d1;have hmul2:l.length*t.wi<=W*t.wi:=qS _ e6;generalize c5:(d3.toList.drop J).take (l.length*t.wi)=a;have L:a.length=l.length*t.wi:=by rw[<- c5];simp;omega
  have d5:∀k,k<l.length*t.wi->a[k]?=d3[J+k]?:=by intro k m;rw[<- c5,jP,if_pos m,jV];simp
  have f4:∀j u,a[j]?=some u->w.cell? ((⟨b2,J,none⟩:Addr).add j)=some u:=by intro j u hu;have q:j<l.length*t.wi:=(by rw[<- L];exact(qA.1 hu).1);rw[add_lit,D0 hb2,<- d5 j q];exact hu
  have a6:∀i j,i<l.length->j<t.wi->i*t.wi+j<l.length*t.wi:=by intro i j g q;have:(i+1)*t.wi<=l.length*t.wi:=qS _ g;rw[jO] at this;omega
  have f5:∀i j,i<l.length->j<t.wi->a[i*t.wi+j]?=some (V2 i j):=by intro i j g q;rw[d5 _<|a6 i j g q,<- uM];exact hvv2 i j g q
  have hwp:=zGl t;have hn1:∀u∈a,u.oneCell'=true:=by intro u hu;obtain⟨k,m⟩:=qV.1 hu;have hkl:k<l.length*t.wi:=(by rw[<- L];exact(qA.1 m).1);have d0:k / t.wi<l.length:=(Nat.div_lt_iff_lt_mul hwp).2 hkl;have h6:k % t.wi<t.wi:=Nat.mod_lt _ hwp;have:=f5 _ _ d0 h6;rw[Nat.mul_comm,Nat.div_add_mod,m] at this;cases this;have d:=qB d0;have D:(t.cells<|l[k / t.wi]'d0)[k % t.wi]?=some ((t.cells<|l[k / t.wi]'d0)[k % t.wi]'(by rw[zdG];exact h6)):=qB _;exact(a7 _ _ d _ _ D).one
  have hK2:∃K:Nat->Nat->zbd,(∀(w1:World),(∀x,(∃k∈(if t.flat=true then [r] else [r,r2]),k≠r/\E.φ k x)->w1.heap[x]?=w.heap[x]?)->
   ∀i x,l[i]?=some x->∀j c,(t.cells x)[j]?=some c->Rep true w1 (V2 i j) c (K i j))/\
   (∀i j x,i<l.length->j<t.wi->K i j x->∃k∈(if t.flat=true then [r] else [r,r2]),k≠r/\E.φ k x)/\
   (∀i j i' j' x,i<l.length->j<t.wi->i'<l.length->j'<t.wi->K i j x->K i' j' x->i=i'/\j=j'):=by
   by_cases hf:t.flat=true
   .exact⟨λ_ _ _=>False,λw1 _ i x d j c D=>(a7 i x d j c D).flat (zxL hf D),λ_ _ _ _ _ h=>h.elim,λ_ _ _ _ _ _ _ _ _ h=>h.elim⟩
   .obtain⟨ho2,hp2,hne⟩:=c0.resolve_left hf;have hin:r2∈(if t.flat=true then [r] else [r,r2]):=by rw[if_neg hf];simp
    have d7:∀i j x,i<l.length->j<t.wi->K2 i j x->∃k∈(if t.flat=true then [r] else [r,r2]),k≠r/\E.φ k x :=
     λi j x g q m=>⟨r2,hin,λe=>hne e.symm,g4 x (f6 i j x g q m).1⟩
    rw[ho2]at a7 c3;refine⟨K2,λw1 hw i x d j c D=>?_,d7,c3 rfl⟩;have O:i<l.length:=(qA.1 d).1;have S:j<t.wi:=by have:=(qA.1 D).1;rw[zdG] at this;exact this
    exact(a7 i x d j c D).frame (λy hy=>hw y (d7 i j y O S hy))
  obtain⟨K,f8,c8,f9⟩:=hK2;have A:∀x k,k∈(if t.flat=true then [r] else [r,r2])->k≠r->E.φ k x->¬ E.φ r x:=by intro x k m b5 d hxr;obtain⟨Q,N,hQo⟩:=b6 k m;exact X.mem.apart r R k Q hR a9 N (X.mem.mine k Q N hQo).1 (λe=>b5 e.symm) x hxr d
  have c9:(f.length+l.length)*i.bytes<=140737488355328:=by have:=uI h7 g8;omega
  have b7:∀(B:List Value) (M:Nat) (V1:Nat->Nat->Value) (K1:Nat->Nat->zbd) (zs:LV),B.length=f.length*t.wi->f.length+l.length<=M->zs.size=(M-(f.length+l.length))*t.wi->
   (∀i j,i<f.length->j<t.wi->B[i*t.wi+j]?=some (V1 i j))->
   (∀i x,f[i]?=some x->∀j c,(t.cells x)[j]?=some c->Rep true w (V1 i j) c (K1 i j))->
   (∀i j x,i<f.length->j<t.wi->K1 i j x->E.φ r x)->
   (∀i j i' j' x,i<f.length->j<t.wi->i'<f.length->j'<t.wi->K1 i j x->K1 i' j' x->i=i'/\j=j')->
   (Builtin.append_ #[T,T] o.type #[E.ρ r,.slice (some ⟨b2,J,none⟩) l.length W]).run C.P w = .ok (.slice (some ⟨w.heap.size,0,none⟩) (f.length+l.length) M) (w.drew.alloc<|.cells (B.toArray++a.toArray++zs) e (0,0))->
   Goes C w0 S0 U st ts sv w o id (λs=>s.apply o.dst {c:=few (ln<|ap f l),v:=.v (.at<|.sl id []),ro:=(id,zdN t<|ap f l)::moved st (if t.flat then [r] else [r,r2]),bump:=true}):=by
   intro B M V1 K1 zs V e5 hzs ho1 e4 b3 hd1 hr;generalize G:w.drew.alloc (.cells (B.toArray++a.toArray++zs) e (0,0))=w1 at hr;have c6:∀x,x<w.heap.size->w1.heap[x]?=w.heap[x]?:=λx d=>by rw[<- G];exact heap_alloc_old w.drew _ x d
   have hsize:w1.heap.size=w.heap.size+1:=by rw[<- G];simp
   have d2:∀k Q,st.root k=some Q->∀x,E.φ k x->w1.heap[x]?=w.heap[x]?:=λk Q N x d=>c6 x (X.mem.rlt k Q N x d);have a5:∀i j,i<f.length->j<t.wi->i*t.wi+j<f.length*t.wi:=by intro i j g q;have:(i+1)*t.wi<=f.length*t.wi:=qS _ g;rw[jO] at this;omega
   refine zok X e8 (w1:=w1) (φn:=λx=>(∃k∈(if t.flat=true then [r] else [r,r2]),E.φ k x)\/x=w.heap.size) (f7 hr) b6 (by rw[<- G];rfl) (by rw[<- G];rfl) (by rw[<- G];rfl) (by omega) (λx d _=>c6 x d) ?_ ?_ ?_
   .rintro x (d|rfl)
    .exact .inl d
    .exact .inr ⟨qX _,by omega⟩
   .refine Rep.join (arr:=B.toArray++a.toArray++zs) (e:=e) (V1:=V1) (V2:=V2) (K1:=K1) (K2:=K) ?_ (by simp only[big];omega) e5 ?_ (.inr rfl) ?_ ?_ ?_ ?_ ?_ ?_ hd1 f9 ?_
    .rw [<- G];exact heap_alloc_new w.drew _
    .simp only [Array.size_append,kD,V,L,hzs,<- kY];have:f.length+l.length+(M-(f.length+l.length))=M:=by omega
     rw[this];omega
    .intro i j g q;have:=a5 i j g q;rw[kB,uR,kE (by simp[V];exact this)]
     simpa using ho1 i j g q
    .intro i j g q;have:=a6 i j g q;rw[kB,kY,uR,kO (by simp[V];omega),kE (by simp[V,L];omega)]
     rw[<- f5 i j g q];simp only[kD,V,jL]
     congr 1
     omega
    .intro i x d j c D;have O:i<f.length:=(qA.1 d).1;have S:j<t.wi:=by have:=(qA.1 D).1;rw[zdG] at this;exact this
     exact(e4 i x d j c D).frame (λy hy=>d2 r R hR y (b3 i j y O S hy))
    .refine f8 w1 ?_
     rintro x ⟨k,m,_,d⟩
     obtain⟨Q,N,_⟩:=b6 k m;exact d2 k Q N x d
    .intro i j x g q m;have:=b3 i j x g q m;exact⟨.inl ⟨r,Z,this⟩,λe=>by have:=X.mem.rlt r R hR x this;omega⟩
    .intro i j x g q m;obtain⟨k,b3,_,d⟩:=c8 i j x g q m;obtain⟨Q,N,_⟩:=b6 k b3;exact⟨.inl ⟨k,b3,d⟩,λe=>by have:=X.mem.rlt k Q N x d;omega⟩
    .intro i j i' j' x g q O S m e9;obtain⟨k,b4,c4,d⟩:=c8 i' j' x O S e9;exact A x k b4 c4 d (b3 i j x g q m)
   .intro k m Q N;refine⟨((X.mem.rep k Q N).frame (d2 k Q N)).ro,λp u hp=>?_⟩;rw[zdB p (X.mem.rep k Q N)<|d2 k Q N];exact hp
  generalize h9:E.ρ r=v1 at *;have d9:z.cells.size=t.wi:=by rw[<- kP,hzc];simp[zf7]
  cases a3 with
  |nil=>
   have hr:=run_append_nil (P:=C.P) w T o.type e i z hE.und g hz ⟨b2,J,none⟩ l.length W a (by rw[hs];exact L) f4 hm0 (by omega) (by
    have:=uI (show l.length<=2147483648 by omega) g8
    omega)
   have e7:=grownCap_ge w l.length 0 e;refine b7 [] (grownCap w l.length 0 e) (λ_ _=>undef) (λ_ _ _=>False) (Builtin.zeroCells z.cells<|grownCap w l.length 0 e-l.length) (by simp) (by simpa using e7) (by simp[size_zeroCells,d9]) (λi j g=>by simp at g) (λi x d=>by simp at d) (λ_ _ _ _ _ h=>h.elim) (λ_ _ _ _ _ _ _ _ _ h=>h.elim) ?_;rw[hr];simp
  |void _ _ _ ho=>cases ho
  |sl _ _ b I b0 H e1 fz V1 K1 _ hb hfz f2 b8 d8 b1 F a0 c7 b9=>
   have h5:=hfz rfl;subst h5;have hmul1:f.length*t.wi<=b0*t.wi:=qS _ b8;by_cases a4:f.length+l.length<=b0;{have f3:(f.length+l.length)*t.wi<=b0*t.wi:=qS _ a4;rw[kY]at f3;have hr:=run_append_room' (P:=C.P) (w:=w) T o.type e i hE.und g b I f.length b0 H e1 hb ⟨b2,J,none⟩ l.length W a (by rw[hs];exact L) f4 hn1 a4 (by rw[hs,L];omega);rw[hs]at hr;have e3:I+f.length*t.wi+a.length<=H.toList.length:=(by rw[L];simp;omega);generalize G:w.setRow b (C0 H.toList (I+f.length*t.wi) a).toArray=w1 at hr;have g7:w1.heap[b]?=some (.cells (C0 H.toList (I+f.length*t.wi) a).toArray e1 (0,0)):=(by rw[<- G];exact setRow_heap w b _ _ e1 _ hb);have Y:∀x,x≠b->w1.heap[x]?=w.heap[x]?:=λx d=>(by rw[<- G];exact setRow_other w b x _ d);have d4:(C0 H.toList (I+f.length*t.wi) a).toArray.size=H.size:=(by rw[kD,zi5 _ _ _ e3];simp);have a8:∀k,k<I+f.length*t.wi->(C0 H.toList (I+f.length*t.wi) a).toArray[k]?=H[k]?:=(by intro k m;rw[jL,zfl _ _ _ e3 k<|.inl m];simp);have e0:Rows true w t f H I b V1 K1 (E.φ r):=⟨F,a0,c7,b9⟩;obtain⟨k1,k2⟩:=Rep.behind (w1:=w1) f2 b8 d8 b1 e0 hb g7 d4 a8 Y;have a5:∀i j,i<f.length->j<t.wi->i*t.wi+j<f.length*t.wi:=(by intro i j g q;have:(i+1)*t.wi<=f.length*t.wi:=qS _ g;rw[jO] at this;omega);refine zok X e8 (w1:=w1) (φn:=λx=>∃k∈(if t.flat=true then [r] else [r,r2]),E.φ k x) (f7 hr) b6 (by rw[<- G];rfl) (by rw[<- G];rfl) (by rw[<- G];rfl) (by rw[<- G];simp) (λx d hnk=>Y x λe=>hnk r Z (e ▸ b1)) (λx d=>.inl d) ?_ ?_;{refine Rep.join (arr:=(C0 H.toList (I+f.length*t.wi) a).toArray) (e:=e1) (V1:=V1) (V2:=V2) (K1:=K1) (K2:=K) g7 (by simp only[big];omega) a4 (by rw[d4];exact d8) ⟨r,Z,b1⟩ ?_ ?_ ?_ ?_ ?_ ?_ (a0 rfl) f9 ?_;{intro i j g q;have:=a5 i j g q;rw[a8 _ (by omega)];exact c7 i j g q};{intro i j g q;have:=a6 i j g q;rw[jL,kY,zfA _ _ _ e3 _ (by omega) (by rw[L];omega),<- f5 i j g q];congr 1;omega};{intro i x d j c D;have O:i<f.length:=(qA.1 d).1;have S:j<t.wi:=(by have:=(qA.1 D).1;rw[zdG] at this;exact this);exact(b9 i x d j c D).frame (λy hy=>Y y ((F i j y O S hy).2 rfl))};{refine f8 w1 ?_;rintro x ⟨k,m,b5,d⟩;exact Y x (λe=>A x k m b5 d (e ▸ b1))};{intro i j x g q m;exact⟨⟨r,Z,(F i j x g q m).1⟩,(F i j x g q m).2 rfl⟩};{intro i j x g q m;obtain⟨k,b4,c4,d⟩:=c8 i j x g q m;exact⟨⟨k,b4,d⟩,λe=>A x k b4 c4 d (e ▸ b1)⟩};{intro i j i' j' x g q O S m e9;obtain⟨k,b4,c4,d⟩:=c8 i' j' x O S e9;exact A x k b4 c4 d (F i j x g q m).1}};{intro k m Q N;by_cases b5:k=r;{subst b5;rw[hR]at N;cases N;rw[g5,h9];exact⟨k1.ro,k2⟩};{have h4:∀x,E.φ k x->w1.heap[x]?=w.heap[x]?:=λx d=>Y x (λe=>A x k m b5 d (e ▸ b1));refine⟨((X.mem.rep k Q N).frame h4).ro,λp u hp=>?_⟩;rw[zdB p (X.mem.rep k Q N) h4];exact hp}}}
   .generalize holds:(H.toList.drop I).take (f.length*t.wi)=B;have V:B.length=f.length*t.wi:=(by rw[<- holds];simp;omega);have d6:∀k,k<f.length*t.wi->B[k]?=H[I+k]?:=by intro k m;rw[<- holds,jP,if_pos m,jV];simp
    have hr:=run_append_grow (P:=C.P) w T o.type e i z hE.und g hz ⟨b,I,none⟩ f.length b0 B (by rw[hs];exact V) (λj u hu=>by
     have q:j<f.length*t.wi:=by rw[<- V];exact(qA.1 hu).1
     rw[add_lit,D0 hb,<- d6 j q];exact hu) ⟨b2,J,none⟩ l.length W a (by rw[hs];exact L) f4 (by omega) (by omega) (growslice_fits (by omega) c9)
    have e7:=grownCap_ge w (f.length+l.length) b0 e;refine b7 B _ V1 K1 _ V e7 (by rw[size_zeroCells,d9]) (λi j g q=>?_) b9 (λi j x g q m=>(F i j x g q m).1) (a0 rfl) hr;have:(i+1)*t.wi<=f.length*t.wi:=qS _ g;rw[jO] at this;rw[d6 _ (by omega),<- uM];exact c7 i j g q
end
section
variable {C:Cfg} {w0 w w1:World} {S0:zbd} {U:Nat->Prop} {st st1:St} {E E1:Env} {ts:Array Value} {sv:List (Array Value)}
def zE9 {place:Nat->Option (Nat×Nat)}{cells:LV}{i a b:Nat}{v:Value}{c:List (Nat×Value)}(m:place i=some (a,b))(g:v.cells.size=b)(n:a+b<=cells.size) :
 Instr.fill place cells ((i,v)::c)=Instr.fill place (C0 cells.toList a v.cells.toList).toArray c:=by
 have d:a+v.cells.toList.length<=cells.toList.length:=by simp[g];exact n
 have e:v.cells.zipIdx.foldl (λh (x:Value×Nat)=>h.setIfInBounds (a+x.2) x.1) cells=(C0 cells.toList a v.cells.toList).toArray:=by rw[<- Array.foldl_toList,Array.toList_zipIdx];obtain⟨p,l⟩:=Great.foldl_set a v.cells.toList 0 cells;apply Array.ext_getElem?;intro k;rw[l k];have j:(C0 cells.toList a v.cells.toList).toArray[k]?=(C0 cells.toList a v.cells.toList)[k]?:=jL;rw[j];by_cases f:a<=k/\k<a+v.cells.toList.length;{rw [zfA _ _ _ d k f.1 f.2,if_pos ⟨by omega,by omega,by simp at d;simp at f;omega⟩];simp};{rw [zfl _ _ _ d k (by omega),if_neg (by omega)];simp}
 rw[Instr.fill,m];simp only;rw[if_neg (by simp[g];omega)]
 rw[<- e]
def aφ (E:Env):At->zbd
 |.sl r []=>E.φ r
 |_=>λ_=>False
structure Given (st:St) (xs:List At) (cs:List CV) (ks:List Nat):Prop where
 len:cs.length=xs.length
 own:∀r∈ks,∃R,st.root r=some R/\R.own=true
 get:∀(k:Nat) (a:At),xs[k]?=some a->(∃k' n,a = .i k' n/\cs[k]?=some (.i k' n))\/(∃x,a = .b x/\cs[k]?=some (.b x))\/∃r R,a = .sl r []/\st.root r=some R/\r∈ks/\cs[k]?=some (.s R.t R.l)
 inj:∀(k k' r:Nat),xs[k]?=some (.sl r [])->xs[k']?=some (.sl r [])->k=k'
def zqD:∀(w:List At) (j:Nat) (c:Bool) (t:LC) (u:List Nat),st.give none w j=some (c,t,u)->c=true/\Given st w t u
 |[],j,c,t,u,h=>by simp only[St.give,qC,jT]at h;obtain⟨rfl,rfl,rfl⟩:=h;exact⟨rfl,rfl,λr E=>by simp at E,λk a h=>by simp at h,λk f r h=>by simp at h⟩
 |a::r,j,c,t,u,h=>by
  simp only[St.give]at h;split at h;{cases h}
  .rename_i c' cs' ks' hg;obtain⟨B,b⟩:=zqD r (j+1) c' cs' ks' hg;subst B;split at h;{rename_i k n;cases h;refine⟨rfl,by simp[b.len],b.own,λf a g=>?_,λm p s d e=>?_⟩;{cases f with|zero=>simp at g;subst g;exact .inl ⟨k,n,rfl,rfl⟩|succ f=>exact b.get f a (by simpa using g)};{cases m<;>cases p<;>simp at d e;exact congrArg _ (b.inj _ _ s d e)}};{rename_i x;cases h;refine⟨rfl,by simp[b.len],b.own,λf a g=>?_,λm p s d e=>?_⟩;{cases f with|zero=>simp at g;subst g;exact .inr (.inl ⟨x,rfl,rfl⟩)|succ f=>exact b.get f a (by simpa using g)};{cases m<;>cases p<;>simp at d e;exact congrArg _ (b.inj _ _ s d e)}}
   .rename_i q;split at h
    .rename_i R hR;split at h
     .rename_i hcond;cases h;simp only[vH,qE,jE,jN,decide_eq_false_iff_not]at hcond;have i:∀k:Nat,r[k]?≠some (At.sl q []):=(by intro k C;rcases b.get k _ C with⟨_,_,h,_⟩|⟨_,h,_⟩|⟨v,_,h,_,D,_⟩;{cases h};{cases h};{cases h;exact hcond.2 D});refine⟨rfl,by simp[b.len],?_,λf a g=>?_,λm p s d e=>?_⟩;{intro v l;rcases qG.1 l with rfl|l;{exact⟨R,hR,hcond.1⟩};{exact b.own v l}}
      .cases f with
       |zero=>simp at g;subst g;exact .inr (.inr ⟨q,R,rfl,hR,by simp,rfl⟩)
       |succ f =>rcases b.get f a (by simpa using g) with h|h|⟨v,y,d,e,z,A⟩;{exact .inl h};{exact .inr (.inl h)};{exact .inr (.inr ⟨v,y,d,e,by simp[z],A⟩)}
      {cases m<;>cases p<;>simp at d e;{rfl};{subst d;exact absurd e (i _)};{subst e;exact absurd d (i _)};{exact congrArg _ (b.inj _ _ s d e)}}
     {cases h}
    {cases h}
   {cases h};{cases h}
def Given.rep {p:List At}{j:LC}{ks:List Nat}(l:Given st p j ks)(q:Mem w0 S0 st E w){k:Nat}{a:At}{c:CV}{u:Value}(s:p[k]?=some a)(f:j[k]?=some c)(g:VA w st E a u):Rep true w u c (aφ E a):=by rcases l.get k a s with⟨z,n,rfl,h⟩|⟨x,rfl,h⟩|⟨r,R,rfl,e,t,h⟩;{rw [f]at h;cases h;cases g;exact .i _ _ _};{rw [f]at h;cases h;cases g;exact .b _ _};{rw [f]at h;cases h;have:=g.2 R e;simp only[zbg,qC] at this;subst this;have m:=q.rep r R e;obtain⟨y,d,v⟩:=l.own r t;rw[e]at d;cases d;rw[v]at m;exact m}
def zUT {r:Nat}{b:Root}(h:st.own1.root r=some b):∃R,st.root r=some R/\b.t=R.t/\HEq b.l R.l/\(b.own=true->R.own=true\/(R.ep=none/\R.t.flat=false)):=by obtain⟨g,c⟩:=zbD h;have i:∀l:List (Nat×Root),zy (l.map λx=>(x.1,zto x.2)) r=some b->∃R,zy l r=some R/\b=zto R:=(by intro l;induction l with|nil=>intro h;cases h|cons a l j=>obtain⟨k,v⟩:=a;intro h;simp only[jG,zy]at h ⊢;split at h;{rename_i e;rw[if_pos e];cases h;exact⟨v,rfl,rfl⟩};{rename_i e;rw[if_neg e];exact j h});obtain⟨R,f,rfl⟩:=i st.ro g;have c:(zto R).ep=none\/(zto R).ep=some st.ep:=c;unfold zto at c ⊢;cases d:R.ep.isNone && !R.t.flat with|false=>rw[d]at c;exact⟨R,zg5 f c,rfl,HEq.rfl,.inl⟩|true=>rw[d]at c;simp only[qE,jZ,jE]at d;exact⟨R,zg5 f<|.inl d.1,rfl,HEq.rfl,λ_=>.inr d⟩
def Given.own1 {i:List At}{b:LC}{a:List Nat}(d:Given st.own1 i b a):∀r∈a,∃R,st.root r=some R/\(R.own=true\/(R.ep=none/\R.t.flat=false)):=λr h=>by obtain⟨j,c,g⟩:=d.own r h;obtain⟨R,e,_,_,f⟩:=zUT c;exact⟨R,e,f g⟩
def Given.rep1 {q:List At}{j:LC}{C:List Nat}(v:Given st.own1 q j C)(y:Mem w0 S0 st E w){k:Nat}{a:At}{c:CV}{u:Value}(z:q[k]?=some a)(f:j[k]?=some c)(g:VA w st E a u):Rep false w u c (aφ E a):=by rcases v.get k a z with⟨G,n,rfl,h⟩|⟨x,rfl,h⟩|⟨r,s,rfl,d,F,h⟩;{rw [f]at h;cases h;cases g;exact .i _ _ _};{rw [f]at h;cases h;cases g;exact .b _ _};{rw [f]at h;cases h;obtain⟨R,m,B,A,_⟩:=zUT d;have:=g.2 R m;simp only[zbg,qC] at this;subst this;have p:=y.rep r R m;obtain⟨J,H,I,D⟩:=s;obtain⟨t,l,o,e⟩:=R;cases B;cases A;cases o with|true=>exact p.ro|false=>exact p}
def Given.fi {d:List At}{e:LC}{c:List Nat}(f:Given st d e c){k:Nat}{a:At}{x:Nat}(g:d[k]?=some a)(b:aφ E a x):∃r∈c,a = .sl r []/\E.φ r x:=by rcases f.get k a g with⟨l,n,rfl,h⟩|⟨x,rfl,h⟩|⟨r,R,rfl,j,i,h⟩;{exact b.elim};{exact b.elim};{exact⟨r,i,rfl,b⟩}
def Mem.own_apart (f:Mem w0 S0 st E w){r a:Nat}{R c:Root}(g:st.root r=some R)(i:R.own=true)(b:st.root a=some c)(d:c.own=true){x:Nat}(j:E.φ r x)(e:E.φ a x):r=a:=by by_cases h:r=a;{exact h};{exact absurd e (f.apart r R a c g i b (f.mine a c b d).1 h x j)}
def zAf {T:TypeId}{d:List (Nat×Nat)}(q:∀f c n,C.fof T f=some (c,n)->d[f]?=some (c,n)){st1:St}{ev:Operand->Value}(p:∀x y,st.opnd x=some (.v y)->VT w st1 E1 y (ev x)) :
 ∀(g:List (Nat×Operand)) (i e:List At) (cells:LV),layParts C T st g i=some e->cells.size=i.length->
  (∀(j:Nat) (a:At) (u:Value),i[j]?=some a->cells[j]?=some u->u.oneCell'=true/\VA w st1 E1 a u)->
  ∃b:LV,Instr.fill (d[·]?) cells (g.map λx=>(x.1,ev x.2))=some b/\b.size=e.length/\
   (∀(j:Nat) (a:At) (u:Value),e[j]?=some a->b[j]?=some u->u.oneCell'=true/\VA w st1 E1 a u)
 |[],i,e,cells,h,s,E=>by cases h;exact⟨cells,rfl,s,E⟩
 |(f,x)::r,i,e,cells,h,s,E=>by simp only[layParts]at h;split at h;{rename_i c n y I F;split at h;{rename_i H;obtain⟨D,m⟩:=H;have J:=p x y F;obtain⟨z,G⟩:=VT.cells J (zsR F);have l:c+(zZ y).length<=i.length:=(by rw[D];exact m);have k:c+(ev x).cells.toList.length<=cells.toList.length:=(by simp[z,D,s];exact m);simp only[jG];rw[zE9 (q f c n I) (by rw[z,D]) (by rw[s];exact m)];refine zAf q p r (C0 i c<|zZ y) e _ h (by rw[kD,zi5 _ _ _ k,zi5 _ _ _ l];simpa using s) ?_;intro j a u A t;rw[jL]at t;by_cases B:c<=j/\j<c+(zZ y).length;{rw [zfA _ _ _ l j B.1 B.2]at A;rw[zfA _ _ _ k j B.1 (by simp[z];exact B.2)]at t;exact G _ a u A (by simpa using t)};{rw [zfl _ _ _ l j (by omega)]at A;rw[zfl _ _ _ k j (by simp[z];omega)]at t;exact E j a u A (by simpa using t)}};{cases h}};{cases h}
def zFL {T:TypeId}:∀(d:List (Nat×Operand)) (e b:List At),layParts C T st d e=some b->∀a∈b,a∈e\/∃x y,st.opnd x=some (.v y)/\a∈zZ y
 |[],e,b,h,a,g=>by cases h;exact .inl g
 |(f,x)::r,e,b,h,a,g=>by simp only[layParts]at h;split at h;{rename_i j n y k i;split at h;{rcases zFL r _ b h a g with c|c;{simp only [C0,jK]at c;rcases c with (c|c)|c;{exact .inl (j8 c)};{exact .inr ⟨x,y,i,c⟩};{exact .inl (uA c)}};{exact .inr c}};{cases h}};{cases h}
def zbdR (L:CfgOk C)(f:Sim w0 S0 U st E ts sv w){o:Oper}{id:Nat}(D:∀n,Mine id n->¬ U n){T:TypeId}{b:Array (Nat×Operand)}{d:Dl}(M:o.op = .build T b)(h:z0 C st o id=some d):Goes C w0 S0 U st ts sv w o id (λst=>st.apply o.dst d):=by
 simp only[z0,M]at h;split at h
 .rename_i tys hT;split at h
  .rename_i l hcs;split at h
   .rename_i hle;cases h;obtain⟨t,p⟩:=f.mem.zeroRoots f.ids.mem D hle;obtain⟨fs,s,I,G,F⟩:=L.str T tys hT;obtain⟨i,z,W,hs,Z,q⟩:=(L.cty T true tys hT).info;have H:z.cells.size=(zeros tys id).length:=by rw[zGp,<- kP,q];simp
    obtain⟨cells,V,A,B⟩:=zAf (w:=w) (st1:={st with ro:=Go.Proofs.YtapgkefgcbapcaaGreat.E.zeroRoots tys id++st.ro}) (E1:=zkp E id) (ev:=({tmps:=ts,defers:=[]}:Act).eval) F
     (λx y J=>by
      obtain⟨e,r⟩:=zcn f J;exact VT.tr p (λa g n c=>r n (by simp only[MV.ids,zbL,qR];exact⟨a,g,c⟩)) e)
     b.toList (zeros tys id) l z.cells hcs H (λj a u g I=>by
      obtain⟨ct,e,r,N,_⟩:=zxi (E:=E) hle g;have:z.cells.toList[j]?=some u:=by simpa using I
      rw[q,qQ,e] at this;cases this;exact⟨r,N _ _⟩)
    refine zma f (v:=.agg cells) (mv:=.v (.agg l)) ?_ (.inl rfl) t p rfl rfl rfl ?_ (λn l c=>⟨.inl (f.ids.lo n l c).1,λa g m Y=>.inl ((f.ids.lo n l c).2 a g m Y)⟩) ⟨cells,rfl,A,B⟩ ?_;{have S:C.P.built T (b.map λx=>(x.1,({tmps:=ts,defers:=[]}:Act).eval x.2)).toList=some cells:=(by simp only[Program.built,W,I,Z,G,uB];simpa using V);have:=run_build (P:=C.P) w T _ cells S;simp[execOp,M,this]};{intro n R c;simp only[zbM]at c;split at c;{rename_i Q O;obtain⟨e,r,_⟩:=zkq tys id n Q O;exact .inr ⟨e,by omega⟩};{exact .inl (f.ids.ro n R c)}};{intro n c;simp only[MV.ids,zbL,zZ,qR]at c;obtain⟨a,g,c⟩:=c;rcases zFL b.toList _ l hcs a g with e|⟨x,y,J,e⟩;{obtain⟨k,X⟩:=qV.1 e;obtain⟨_,_,_,_,K⟩:=zxi (E:=E) hle X;exact .inr ⟨(K n c).1,by have:=(K n c).2;omega⟩};{exact .inl ((zcn f J).2 n (by simp only[MV.ids,zbL,qR];exact⟨a,e,c⟩))}}
   {cases h}
  {cases h}
 {cases h}
end
section
variable {C:Cfg} {w0 w w1:World} {S0:zbd} {U:Nat->Prop} {st st1:St} {E E1:Env} {ts:Array Value} {sv:List (Array Value)}
def zJY (t:Ty):t.wi<=16:=by cases t<;>simp [Ty.wi]
structure Laid (w:World) (st:St) (E:Env) (t:Ty) (l:List t.den) (ks:List Nat) (cells:Array Value):Prop where
 size:cells.size=l.length*t.wi
 own:∀r∈ks,∃R,st.root r=some R/\R.own=true
 rows:∃V K,Rows true w t l cells 0 w.heap.size V K (fun x=>∃r∈ks,E.φ r x)
def zAt (hM:Mem w0 S0 st E w){t:Ty}{ev:Operand->Value}(a7:∀x y,st.opnd x=some (.v y)->VT w st E y (ev x)) :
 ∀(L:List (Nat×Operand)) (l:List t.den) (X:List Nat) (l':List t.den) (J:List Nat) (cells:LV),rowParts st t L l X=some (l',J)->Laid w st E t l X cells->
  ∃b,Instr.fill (fun i=>some (i*t.wi,t.wi)) cells (L.map fun x=>(x.1,ev x.2))=some b/\l'.length=l.length/\Laid w st E t l' J b
 |[],l,X,l',J,cells,h,Y=>by simp only[rowParts,qC,jT]at h;obtain⟨rfl,rfl⟩:=h;exact⟨cells,rfl,rfl,Y⟩
 |(i,x)::r,l,X,l',J,cells,h,Y=>by
  simp only[rowParts]at h;split at h
  .rename_i y hx;split at h
   .rename_i cs k2 hg;split at h
    .rename_i d hd;split at h
     .rename_i hcond;simp only[qE,jA,qP,jE,jN,decide_eq_false_iff_not]at hcond;obtain⟨b0,G⟩:=hcond;obtain⟨_,O⟩:=zqD _ _ _ _ _ hg;have a6:=zkh hd;have a5:cs.length=t.wi:=(by rw[<- a6,zdG]);obtain⟨c1,c2⟩:=VT.cells (a7 x y hx) (zsR hx);have b5:(zZ y).length=t.wi:=(by rw[<- O.len,a5]);have W:(ev x).cells.size=t.wi:=(by rw[c1,b5]);have a2:(i+1)*t.wi<=l.length*t.wi:=qS _ b0;rw[jO]at a2;have a0:i*t.wi+t.wi<=cells.size:=(by rw[Y.size];exact a2);have hb:i*t.wi+(ev x).cells.toList.length<=cells.toList.length:=(by simp[W];exact a0);obtain⟨V,K,Z⟩:=Y.rows;have a1:∀r∈k2++X,∃R,st.root r=some R/\R.own=true:=fun r hr=>(jK.1 hr).elim (O.own r) (Y.own r);have a3:∀j,j<t.wi->∃a u,(zZ y)[j]?=some a/\(ev x).cells[j]?=some u/\VA w st E a u:=by intro j M;have N:j<(zZ y).length:=(by omega);have B:j<(ev x).cells.size:=(by omega);have e1:=qB N;have e2:(ev x).cells[j]?=some (ev x).cells[j]:=jM B;exact⟨_,_,e1,e2,(c2 j _ _ e1 e2).2⟩
      have g:∀j z,j<t.wi->(match (zZ y)[j]? with|some a=>aφ E a|none=>fun _=>False) z->∃a,(zZ y)[j]?=some a/\∃r∈k2,a = .sl r []/\E.φ r z:=by
       intro j z M A;obtain⟨a,u,F,_,_⟩:=a3 j M;rw[F]at A;exact⟨a,F,O.fi F A⟩
      have a4:∀r∈k2++X,∀z,E.φ r z->z<w.heap.size:=by intro r hr z A;obtain⟨R,Z,_⟩:=a1 r hr;exact hM.rlt r R Z z A
      have b1:Laid w st E t (l.set i d) (k2++X) (C0 cells.toList (i*t.wi) (ev x).cells.toList).toArray:=by
       refine⟨by rw[kD,zi5 _ _ _ hb];simpa using Y.size,a1,?_⟩;refine⟨fun f j=>if f=i then ((ev x).cells[j]?).getD undef else V f j,fun f j=>if f=i then (match (zZ y)[j]? with|some a=>aφ E a|none=>fun _=>False) else K f j,?_,?_,?_,?_⟩;{intro f j z hi M A;by_cases Q:f=i;{simp only [if_pos Q]at A;obtain⟨a,F,r,hr,_,U⟩:=g j z M A;have hm:r∈k2++X:=j9 _ hr;exact⟨⟨r,hm,U⟩,fun _ e=>by have:=a4 r hm z U;omega⟩};{simp only [if_neg Q]at A;obtain⟨⟨r,hr,U⟩,B⟩:=Z.sub f j z (by simpa using hi) M A;exact⟨⟨r,kK _ hr,U⟩,B⟩}};{intro _ i1 j1 i2 j2 z a8 S a9 T n p;by_cases N:i1=i<;>by_cases B:i2=i;{simp only [if_pos N]at n;simp only[if_pos B]at p;obtain⟨a,F,r1,q,rfl,k⟩:=g j1 z S n;obtain⟨a,b2,r2,s,rfl,m⟩:=g j2 z T p;obtain⟨R1,C,H⟩:=O.own r1 q;obtain⟨R2,D,I⟩:=O.own r2 s;have:=hM.own_apart C H D I k m;subst this;exact⟨N.trans B.symm,O.inj j1 j2 r1 F b2⟩};{simp only [if_pos N]at n;simp only[if_neg B]at p;obtain⟨a,F,r1,q,_,k⟩:=g j1 z S n;obtain⟨⟨r2,s,m⟩,_⟩:=Z.sub i2 j2 z (by simpa using a9) T p;obtain⟨R1,C,H⟩:=O.own r1 q;obtain⟨R2,D,I⟩:=Y.own r2 s;have:=hM.own_apart C H D I k m;subst this;exact absurd s (G r1 q)};{simp only [if_neg N]at n;simp only[if_pos B]at p;obtain⟨a,F,r1,q,_,k⟩:=g j2 z T p;obtain⟨⟨r2,s,m⟩,_⟩:=Z.sub i1 j1 z (by simpa using a8) S n;obtain⟨R1,C,H⟩:=O.own r1 q;obtain⟨R2,D,I⟩:=Y.own r2 s;have:=hM.own_apart C H D I k m;subst this;exact absurd s (G r1 q)};{simp only [if_neg N]at n;simp only[if_neg B]at p;exact Z.dis rfl i1 j1 i2 j2 z (by simpa using a8) S (by simpa using a9) T n p}}
       .intro f j hi M;have b4:f<l.length:=(by simpa using hi);rw[jL];by_cases Q:f=i;{subst Q;simp only[if_true];rw[zfA _ _ _ hb _ (by omega) (by simp[W];omega)];obtain⟨a,u,_,hu,_⟩:=a3 j M;rw[hu];have e:0+f*t.wi+j-f*t.wi=j:=(by omega);rw[e];simpa using hu}
        .simp only [if_neg Q];rw[zfl _ _ _ hb _ (by
          simp only[kP,W];rcases uS f i with a4|b6
          .left
           have:(f+1)*t.wi<=i*t.wi:=qS _ a4;rw[jO] at this;omega
          .right
           have:(i+1)*t.wi<=f*t.wi:=qS _ (by omega)
           rw[jO] at this;omega)]
         simpa using Z.val f j b4 M
       {intro f z A j c P;by_cases Q:f=i;{subst Q;simp only[if_true];rw[jC]at A;simp only[if_true,if_pos b0]at A;cases A;rw[a6]at P;have M:j<t.wi:=(by rw[<- a5];exact(qA.1 P).1);obtain⟨a,u,F,hu,b3⟩:=a3 j M;rw[F,hu];exact O.rep hM F P b3};{simp only [if_neg Q];rw[jC,if_neg (fun e=>Q e.symm)]at A;exact Z.con f z A j c P}}
      obtain⟨b,N,B,h3⟩:=zAt hM a7 r (l.set i d) (k2++X) l' J _ h b1;refine⟨b,?_,by rw[B];simp,h3⟩;simp only[jG];rw[zE9 (place:=fun i=>some (i*t.wi,t.wi)) rfl W a0];exact N
     {cases h}
    {cases h}
   {cases h}
  {cases h}
structure LaidZ (w:World) (st:St) (E:Env) (t:Ty) (l:List t.den) (ks:List Nat) (cells:Array Value):Prop where
 size:cells.size=l.length*t.wi
 own:∀r∈ks,∃R,st.root r=some R/\(R.own=true\/(R.ep=none/\R.t.flat=false))
 rows:∃V K,Rows false w t l cells 0 w.heap.size V K (fun x=>∃r∈ks,E.φ r x)
def zyj (hM:Mem w0 S0 st E w){t:Ty}{ev:Operand->Value}(S:∀x y,st.opnd x=some (.v y)->VT w st E y (ev x)) :
 ∀(m:List (Nat×Operand)) (l:List t.den) (B:List Nat) (M:List t.den) (k:List Nat) (cells:LV),rowPartsZ st t m l B=some (M,k)->LaidZ w st E t l B cells->
  ∃b,Instr.fill (fun i=>some (i*t.wi,t.wi)) cells (m.map fun x=>(x.1,ev x.2))=some b/\M.length=l.length/\LaidZ w st E t M k b
 |[],l,B,M,k,cells,h,L=>by simp only[rowPartsZ,qC,jT]at h;obtain⟨rfl,rfl⟩:=h;exact⟨cells,rfl,rfl,L⟩
 |(i,x)::r,l,B,M,k,cells,h,L=>by
  simp only[rowPartsZ]at h;split at h
  .rename_i y hx;split at h
   .rename_i cs k2 hg;split at h
    .rename_i d hd;split at h
     .rename_i hcond;have T:=hcond;obtain⟨_,W⟩:=zqD _ _ _ _ _ hg;have Q:=zkh hd;have P:cs.length=t.wi:=(by rw[<- Q,zdG]);obtain⟨c1,c2⟩:=VT.cells (S x y hx) (zsR hx);have a2:(zZ y).length=t.wi:=(by rw[<- W.len,P]);have A:(ev x).cells.size=t.wi:=(by rw[c1,a2]);have F:(i+1)*t.wi<=l.length*t.wi:=qS _ T;rw[jO]at F;have C:i*t.wi+t.wi<=cells.size:=(by rw[L.size];exact F);have hb:i*t.wi+(ev x).cells.toList.length<=cells.toList.length:=(by simp[A];exact C);obtain⟨V,K,O⟩:=L.rows;have D:∀r∈k2++B,∃R,st.root r=some R/\(R.own=true\/(R.ep=none/\R.t.flat=false)):=fun r J=>(jK.1 J).elim (W.own1 r) (L.own r);have H:∀j,j<t.wi->∃a u,(zZ y)[j]?=some a/\(ev x).cells[j]?=some u/\VA w st E a u:=by intro j n;have Y:j<(zZ y).length:=(by omega);have N:j<(ev x).cells.size:=(by omega);have e1:=qB Y;have e2:(ev x).cells[j]?=some (ev x).cells[j]:=jM N;exact⟨_,_,e1,e2,(c2 j _ _ e1 e2).2⟩
      have U:∀j z,j<t.wi->(match (zZ y)[j]? with|some a=>aφ E a|none=>fun _=>False) z->∃a,(zZ y)[j]?=some a/\∃r∈k2,a = .sl r []/\E.φ r z:=by
       intro j z n g;obtain⟨a,u,G,_,_⟩:=H j n;rw[G]at g;exact⟨a,G,W.fi G g⟩
      have I:∀r∈k2++B,∀z,E.φ r z->z<w.heap.size:=by intro r J z g;obtain⟨R,O,_⟩:=D r J;exact hM.rlt r R O z g
      have Z:LaidZ w st E t (l.set i d) (k2++B) (C0 cells.toList (i*t.wi) (ev x).cells.toList).toArray:=by
       refine⟨by rw[kD,zi5 _ _ _ hb];simpa using L.size,D,?_⟩;refine⟨fun f j=>if f=i then ((ev x).cells[j]?).getD undef else V f j,fun f j=>if f=i then (match (zZ y)[j]? with|some a=>aφ E a|none=>fun _=>False) else K f j,?_,?_,?_,?_⟩;{intro f j z hi n g;by_cases q:f=i;{simp only [if_pos q]at g;obtain⟨a,G,r,J,_,s⟩:=U j z n g;have hm:r∈k2++B:=j9 _ J;exact⟨⟨r,hm,s⟩,fun _ e=>by have:=I r hm z s;omega⟩};{simp only [if_neg q]at g;obtain⟨⟨r,J,s⟩,N⟩:=O.sub f j z (by simpa using hi) n g;exact⟨⟨r,kK _ J,s⟩,N⟩}};{intro ho;cases ho}
       .intro f j hi n;have a1:f<l.length:=(by simpa using hi);rw[jL];by_cases q:f=i;{subst q;simp only[if_true];rw[zfA _ _ _ hb _ (by omega) (by simp[A];omega)];obtain⟨a,u,_,X,_⟩:=H j n;rw[X];have e:0+f*t.wi+j-f*t.wi=j:=(by omega);rw[e];simpa using X}
        .simp only [if_neg q];rw[zfl _ _ _ hb _ (by
          simp only[kP,A];rcases uS f i with I|a3
          .left
           have:(f+1)*t.wi<=i*t.wi:=qS _ I;rw[jO] at this;omega
          .right
           have:(i+1)*t.wi<=f*t.wi:=qS _ (by omega)
           rw[jO] at this;omega)]
         simpa using O.val f j a1 n
       {intro f z g j c p;by_cases q:f=i;{subst q;simp only[if_true];rw[jC]at g;simp only[if_true,if_pos T]at g;cases g;rw[Q]at p;have n:j<t.wi:=(by rw[<- P];exact(qA.1 p).1);obtain⟨a,u,G,X,a0⟩:=H j n;rw[G,X];exact W.rep1 hM G p a0};{simp only [if_neg q];rw[jC,if_neg (fun e=>q e.symm)]at g;exact O.con f z g j c p}}
      obtain⟨b,Y,N,h3⟩:=zyj hM S r (l.set i d) (k2++B) M k _ h Z;refine⟨b,?_,by rw[N];simp,h3⟩;simp only[jG];rw[zE9 (place:=fun i=>some (i*t.wi,t.wi)) rfl A C];exact Y
     {cases h}
    {cases h}
   {cases h}
  {cases h}
structure LaidV (w:World) (st:St) (E:Env) (t:Ty) (l:List t.den) (cells:Array Value):Prop where
 size:cells.size=l.length*t.wi
 rows:∃V K,Rows false w t l cells 0 w.heap.size V K (fun x=>∃r R,st.root r=some R/\E.φ r x)
def zyk {P:Program}{w:World}(t e:TypeId)(len:Nat)(a:Array (Nat×Value))(cells:LV)(d:TypeInfo)(z:Value)(g:P.underlying t=some (.slice e))(f:P.info? e=some d)(j:d.zero=some z)(c:¬ len*d.size>2 ^ 24)(h:Instr.fill (λi=>some (i*d.size,d.size)) (madeCells z.cells<|len*d.size) a.toList=some cells) :
 (Instr.buildSlice t len a).run P w = .ok (.slice (some ⟨w.heap.size,0,none⟩) len len) (w.alloc<|.cells cells e):=by
 by_cases b:len*d.size=0
 .rw [b]at h;have k:madeCells z.cells 0 = #[]:=by simp[madeCells,Array.range_zero']
  rw[k]at h;simp[Instr.buildSlice,run_underlying g,sizeOf,typeInfo,zeroValue,f,j,b,h,newRow,Array.range_zero']
 .exact run_buildSlice w t e len a cells d z g f j c b h
def zZ4 (hC:CfgOk C)(hS:Sim w0 S0 U st E ts sv w){o:Oper}{id:Nat}(a1:∀n,Mine id n->¬ U n){T:TypeId}{len:Nat}{q:Array (Nat×Operand)}{d:Dl}(ho:o.op = .buildSlice T len q)(h:z0 C st o id=some d):Goes C w0 S0 U st ts sv w o id (λst=>st.apply o.dst d):=by
 simp only[z0,ho]at h;split at h
 .rename_i t hT;split at h
  .rename_i l ks X;split at h
   .rename_i hle;cases h;obtain⟨e,hE⟩:=hC.sty T t hT;obtain⟨i,z,F,hs,hz,Z,a2⟩:=hE.info;have L:=hS.mem;have M:Laid w st E t (List.replicate len t.dflt) [] (madeCells z.cells<|len*t.wi):=(by refine⟨by simp[size_madeCells],λr X=>by simp at X,λ_ j=>((t.shape[j]?).map zeroV).getD undef,λ_ _ _=>False,λ_ _ _ _ _ h=>h.elim,λ_ _ _ _ _ _ _ _ _ _ h=>h.elim,λi j F J=>?_,λi x a j c b=>?_⟩;{obtain⟨c,h1,h2⟩:=zwR Z (by simpa using F) J;rw[kB,h2,h1];rfl};{rw [kH]at a;split at a;{cases a;rw[zBp,qQ]at b;cases H:t.shape[j]? with|none=>rw[H]at b;cases b|some ct=>rw[H]at b;cases b;exact zL6 true _ ct _};{cases a}});obtain⟨cells,hf,W,I⟩:=zAt L (ev:=({tmps:=ts,defers:=[]}:Act).eval) (λx y a=>(zcn hS a).1) q.toList _ [] l ks _ X M;have m:l.length=len:=(by rw[W];simp);have s:¬ len*i.size>2 ^ 24:=(by rw[hs];have:=uI hle (zJY t);omega);have A:=zyk (P:=C.P) (w:=w) T e len (q.map λx=>(x.1,({tmps:=ts,defers:=[]}:Act).eval x.2)) cells i z hE.und F hz s (by rw[hs,uB];exact hf);obtain⟨V,K,D⟩:=I.rows;generalize g:w.alloc (.cells cells e)=w1 at A;have f:∀x,x<w.heap.size->w1.heap[x]?=w.heap[x]?:=λx a=>(by rw[<- g];exact heap_alloc_old w _ x a);have Y:w1.heap.size=w.heap.size+1:=(by rw[<- g];simp);have G:∀k∈ks,∀x,E.φ k x->x<w.heap.size:=λk B x a=>(by obtain⟨Q,N,_⟩:=I.own k B;exact L.rlt k Q N x a);refine zok hS a1 (w1:=w1) (v:=.slice (some ⟨w.heap.size,0,none⟩) len len) (φn:=λx=>(∃k∈ks,E.φ k x)\/x=w.heap.size) ?_ I.own (by rw[<- g];rfl) (by rw[<- g];rfl) (by rw[<- g];rfl) (by omega) (λx a _=>f x a) ?_ ?_ ?_;{simp [execOp,ho,A]};{rintro x (a|rfl);{exact .inl a};{exact .inr ⟨qX _,by omega⟩}}
    .have hcsz:cells.size=len*t.wi:=by rw[I.size,m]
     have:=Rep.sl (o:=true) (w:=w1) t l w.heap.size 0 len cells e (0,0) V K (λx=>(∃k∈ks,E.φ k x)\/x=w.heap.size) (by rw[<- g];exact heap_alloc_new w _) (λ_=>rfl) (by rw[m];simp only[big];omega) (by omega) (by omega) (.inr rfl)
      (λi j x F J B=>⟨.inl (D.sub i j x F J B).1,(D.sub i j x F J B).2⟩) D.dis D.val
      (λi x a j c b=>by
       have O:i<l.length:=(qA.1 a).1;have R:j<t.wi:=by have:=(qA.1 b).1;rw[zdG] at this;exact this
       refine(D.con i x a j c b).frame (λy hy=>?_);obtain⟨⟨k,B,S⟩,_⟩:=D.sub i j y O R hy;exact f y (G k B y S))
     rw[m] at this;exact this
    {intro k B Q N;have a0:∀x,E.φ k x->w1.heap[x]?=w.heap[x]?:=λx a=>f x (L.rlt k Q N x a);refine⟨((L.rep k Q N).frame a0).ro,λp u hp=>?_⟩;rw[zdB p (L.rep k Q N) a0];exact hp}
   {cases h}
  .split at h
   .rename_i l ks X;split at h
    .rename_i hle;cases h;obtain⟨e,hE⟩:=hC.sty T t hT;obtain⟨i,z,F,hs,hz,Z,a2⟩:=hE.info;have L:=hS.mem;have M:LaidZ w st E t (List.replicate len t.dflt) [] (madeCells z.cells<|len*t.wi):=(by refine⟨by simp[size_madeCells],λr X=>by simp at X,λ_ j=>((t.shape[j]?).map zeroV).getD undef,λ_ _ _=>False,λ_ _ _ _ _ h=>h.elim,λh=>Bool.noConfusion h,λi j F J=>?_,λi x a j c b=>?_⟩;{obtain⟨c,h1,h2⟩:=zwR Z (by simpa using F) J;rw[kB,h2,h1];rfl};{rw [kH]at a;split at a;{cases a;rw[zBp,qQ]at b;cases H:t.shape[j]? with|none=>rw[H]at b;cases b|some ct=>rw[H]at b;cases b;exact zL6 false _ ct _};{cases a}});obtain⟨cells,hf,W,I⟩:=zyj L (ev:=({tmps:=ts,defers:=[]}:Act).eval) (λx y a=>(zcn hS a).1) q.toList _ [] l ks _ X M;have m:l.length=len:=(by rw[W];simp);have s:¬ len*i.size>2 ^ 24:=(by rw[hs];have:=uI hle (zJY t);omega);have A:=zyk (P:=C.P) (w:=w) T e len (q.map λx=>(x.1,({tmps:=ts,defers:=[]}:Act).eval x.2)) cells i z hE.und F hz s (by rw[hs,uB];exact hf);obtain⟨V,K,D⟩:=I.rows;generalize g:w.alloc (.cells cells e)=w1 at A;have f:∀x,x<w.heap.size->w1.heap[x]?=w.heap[x]?:=λx a=>(by rw[<- g];exact heap_alloc_old w _ x a);have Y:w1.heap.size=w.heap.size+1:=(by rw[<- g];simp);have G:∀k∈ks,∀x,E.φ k x->x<w.heap.size:=λk B x a=>(by obtain⟨Q,N,_⟩:=I.own k B;exact L.rlt k Q N x a);refine zy2 hS a1 (w1:=w1) (v:=.slice (some ⟨w.heap.size,0,none⟩) len len) (φn:=λx=>(∃k∈ks,E.φ k x)\/x=w.heap.size) ?_ I.own (by rw[<- g];rfl) (by rw[<- g];rfl) (by rw[<- g];rfl) (by omega) (λx a=>f x a) ?_ ?_;{simp [execOp,ho,A]};{rintro x (a|rfl);{exact .inl a};{exact .inr ⟨qX _,by omega⟩}}
     .have hcsz:cells.size=len*t.wi:=by rw[I.size,m]
      have:=Rep.sl (o:=false) (w:=w1) t l w.heap.size 0 len cells e (0,0) V K (λx=>(∃k∈ks,E.φ k x)\/x=w.heap.size) (by rw[<- g];exact heap_alloc_new w _) (λh=>by cases h) (by rw[m];simp only[big];omega) (by omega) (by omega) (.inr rfl)
       (λi j x F J B=>⟨.inl (D.sub i j x F J B).1,(D.sub i j x F J B).2⟩) D.dis D.val
       (λi x a j c b=>by
        have O:i<l.length:=(qA.1 a).1;have R:j<t.wi:=by have:=(qA.1 b).1;rw[zdG] at this;exact this
        refine(D.con i x a j c b).frame (λy hy=>?_);obtain⟨⟨k,B,S⟩,_⟩:=D.sub i j y O R hy;exact f y (G k B y S))
      rw[m] at this;exact this
    {cases h}
   {cases h}
 {cases h}
end
end
end Go.Proofs.YtapgkefgcbapcaaGreat.E
