/- What is proved here: a part of the proof that the statement of this claim holds (several texts of wip/, laid together). -/
import Derived.Test.YtdnmkiajccpnoaaGreatU3
namespace Go.Proofs.YtdnmkiajccpnoaaGreat.E
open Go
set_option linter.unusedVariables false
set_option maxRecDepth 100000
set_option linter.unusedSimpArgs false
set_option linter.unusedSectionVars false
noncomputable section
theorem must {ρ:Type}{c:Bool}{a b r:Option ρ}(h:c=true)(k:a=r):(cond c a b)=r:=by rw[h];exact k
theorem mu {ρ:Type}{c:Bool}{a b r:Option ρ}(k:a=r)(h:c=true:=by first|assumption|(simp_all<;>omega)):(cond c a b)=r:=must h k
theorem zbN {ρ:Type}{c:Bool}{a b r:Option ρ}(h:c=false)(k:b=r):(cond c a b)=r:=by rw[h];exact k
theorem br {ρ:Type}{c:Bool}{a b r:Option ρ}(h1:c=true->a=r)(h2:c=false->b=r):(cond c a b)=r:=by
 cases c
 .exact h2 rfl
 .exact h1 rfl
theorem brN {ρ:Type}{c:Bool}{a b r:Option ρ}(h1:c=false->a=r)(h2:c=true->b=r):(cond (cond c false true) a b)=r:=by
 cases c
 .exact h1 rfl
 .exact h2 rfl
theorem shr {α ρ:Type}{x:α}{f:α->Option ρ}{r:Option ρ}(h:f x=r):share x f=r:=h
theorem ziv {ρ:Type}{c p:Bool}{a b:Option ρ}(hc:c=true):(cond c (cond (cond p false true) a b) none)=bif p then b else a:=by
 rw[hc];cases p<;>rfl
attribute [simp] zy
@[simp] theorem zbaT {α:Type}(l:List α):(few (ln l)=true)↔l.length<=2147483648:=by
 unfold few ln;rw[decide_eq_true_iff];omega
@[simp] theorem zbdr {α:Type}(l m:List α):(ap l m).length=l.length+m.length:=by simp[ap]
attribute [simp] zm4 ze0
@[simp] theorem z9P (n:Nat)(k:IntKind)(x:Int):CVB n (.i k x)↔True:=⟨fun _=>trivial,fun _=>.i k x⟩
@[simp] theorem zbdv (n:Nat)(x:Bool):CVB n (.b x)↔True:=⟨fun _=>trivial,fun _=>.b x⟩
theorem zl6 {n:Nat}{t:Ty}(l:List t.den):CVB n (.s t l)↔l.length<=n/\∀x∈l,∀c∈t.cells x,CVB n c:=⟨fun h=>h.inv,fun h=>.s t l h.1 h.2⟩
@[simp] theorem z1Q (n:Nat)(l:List Int):CVB n (.s .int l)↔l.length<=n:=by rw[zl6];simp[Ty.cells]
@[simp] theorem zbb2 (n:Nat)(l:List Int):CVB n (.s .u8 l)↔l.length<=n:=by rw[zl6];simp[Ty.cells]
@[simp] theorem z7G (n:Nat)(l:List Bool):CVB n (.s .bool l)↔l.length<=n:=by rw[zl6];simp[Ty.cells]
@[simp] theorem z7I (n:Nat)(l:List Slot):CVB n (.s .slot l)↔l.length<=n:=by rw[zl6];simp[Ty.cells]
@[simp] theorem zbaK (n:Nat)(l:List Ins):CVB n (.s .ins l)↔l.length<=n:=by rw[zl6];simp[Ty.cells]
@[simp] theorem z5v (n:Nat)(l:List Entry):CVB n (.s .entry l)↔l.length<=n:=by rw[zl6];simp[Ty.cells]
@[simp] theorem zbaJ (n:Nat)(l:List GAct):CVB n (.s .act l)↔l.length<=n:=by rw[zl6];simp[Ty.cells]
@[simp] theorem z7J (n:Nat)(l:List Told):CVB n (.s .told l)↔l.length<=n:=by rw[zl6];simp[Ty.cells]
def SmM (m:List (List Int)):Prop:=m.length<=1048576/\∀x∈m,x.length<=1048576
def SmG (g:Guest):Prop:=g.Prog.length<=1048576/\g.Written.length<=1048576/\g.Live.length<=1048576/\g.Seen.length<=1048576
def znY (l:List Guest):Prop:=l.length<=1048576/\∀x∈l,SmG x
def SmB (b:Bare):Prop:=SmM b.Memory/\znY b.Guests/\b.Outs.length<=1048576
def z2C (l:List Bare):Prop:=l.length<=1048576/\∀x∈l,SmB x
theorem z8x:sm=1048576:=rfl
@[simp] theorem z2W (l:List Int):CVB sm (.s .int l)↔l.length<=1048576:=z1Q sm l
@[simp] theorem zbc4 (l:List Int):CVB sm (.s .u8 l)↔l.length<=1048576:=zbb2 sm l
@[simp] theorem z0d (l:List Bool):CVB sm (.s .bool l)↔l.length<=1048576:=z7G sm l
@[simp] theorem z0e (l:List Slot):CVB sm (.s .slot l)↔l.length<=1048576:=z7I sm l
@[simp] theorem zbcN (l:List Ins):CVB sm (.s .ins l)↔l.length<=1048576:=zbaK sm l
@[simp] theorem zW8 (l:List Entry):CVB sm (.s .entry l)↔l.length<=1048576:=z5v sm l
@[simp] theorem zbcM (l:List GAct):CVB sm (.s .act l)↔l.length<=1048576:=zbaJ sm l
@[simp] theorem zbcw (l:List Told):CVB sm (.s .told l)↔l.length<=1048576:=z7J sm l
@[simp] theorem zqB (l:List (List Int)):CVB sm (.s (.sl .int) l)↔SmM l:=by rw[zl6];simp[Ty.cells,SmM,z8x]
@[simp] theorem zbao (g:Guest):(∀c∈Ty.cells .guest g,CVB sm c)↔SmG g:=by simp[Ty.cells,SmG,z8x]
@[simp] theorem zwR (l:List Guest):CVB sm (.s .guest l)↔znY l:=by rw[zl6];simp only[zbao];rfl
@[simp] theorem zban (b:Bare):(∀c∈Ty.cells .bare b,CVB sm c)↔SmB b:=by
 simp only[Ty.cells,qI,qX,or_false,u2,forall_eq,zqB,zwR,z1Q,z9P,and_true];rfl
@[simp] theorem zbc8 (l:List Bare):CVB sm (.s .bare l)↔z2C l:=by rw[zl6];simp only[zban];rfl
@[simp] theorem zbdu (a:List Ins)(b c:Int)(d e:List Slot)(f:Ctl)(g:Int)(h:GExit)(i:Bool)(j:List Int):SmG ⟨a,b,c,d,e,f,g,h,i,j⟩↔a.length<=1048576/\d.length<=1048576/\e.length<=1048576/\j.length<=1048576:=Iff.rfl
@[simp] theorem zbdt (m:List (List Int))(g:List Guest)(o:List Int)(p:Int):SmB ⟨m,g,o,p⟩↔SmM m/\znY g/\o.length<=1048576:=Iff.rfl
theorem zPE {m:List (List Int)}{i:Int}{x:List Int}(h:SmM m)(hx:x.length<=1048576):SmM (up m i x):=by
 refine ⟨by simpa using h.1,fun y hy=>?_⟩
 rcases jP hy with hy|rfl
 .exact h.2 y hy
 .exact hx
theorem zG7 {m:List Guest}{i:Int}{x:Guest}(h:znY m)(hx:SmG x):znY (up m i x):=by
 refine ⟨by simpa using h.1,fun y hy=>?_⟩
 rcases jP hy with hy|rfl
 .exact h.2 y hy
 .exact hx
theorem zbbo {m:List Bare}{i:Int}{x:Bare}(h:z2C m)(hx:SmB x):z2C (up m i x):=by
 refine ⟨by simpa using h.1,fun y hy=>?_⟩
 rcases jP hy with hy|rfl
 .exact h.2 y hy
 .exact hx
theorem zZo {l:List Guest}{i:Int}(h:znY l)(hh:hasB i (ln l)=true)(d:Guest):SmG (ix l i d):=h.2 _ (zbt hh d)
theorem zbco {l:List (List Int)}{i:Int}(h:SmM l)(hh:hasB i (ln l)=true)(d:List Int):(ix l i d).length<=1048576:=h.2 _ (zbt hh d)
@[simp] theorem zbcZ:SmG zo:=⟨by decide,by decide,by decide,by decide⟩
def win (x a b:Int):Bool:=ige x a&&ile x b
@[simp] theorem zWA (x a b:Int):zO x a b=win x a b:=rfl
@[simp] theorem zbdw (x a b:Int):zbr x a b=win x a b:=rfl
@[simp] theorem zXs (i n:Int):inb i n=hasB i n:=rfl
attribute [simp] zbK
@[simp] theorem zrr {α:Type}{l:List α}(h:l.length<=1048576)(i:Int):win i 0 (wsub .i64 (ln l) 1)=hasB i (ln l):=zTT (zb4 h).1 i
theorem zL5 {α:Type}{l:List α}(h:l.length<=big)(i:Int):win i 0 (wsub .i64 (ln l) 1)=hasB i (ln l):=zTT h i
theorem zeM {x a b:Int}:(win x a b=true)↔a<=x/\x<=b:=by
 unfold win ige ile;simp only[qE,decide_eq_true_iff]
theorem zbaX (a b:Int):ilt a b = !ige a b:=by
 unfold ilt ige
 by_cases h:a<b
 .rw [qK h,qH (by omega)];rfl
 .rw [qH h,qK (by omega)];rfl
attribute [simp] zbs zcm zgO zgK zhH zhu zhI zdP zj3 zhv zrb zqF zcg zc0
attribute [simp] zev zcB zf7 zdl
attribute [simp] zf4 zda zfB zdu
def zb0 (a:Int):Int:=bif ilt a 0 then -1 else zS8 .i64 a 4
def zfF (a:Int):Int:=bif ilt a 0 then -1 else zmX a 4
@[simp] abbrev zgo (a:Int):Bool:=true
@[simp] abbrev zcp (a:Int):Int:=zb0 a
def zAa:Run:=rF1 dI fun b=>(zgo b,[aI (zcp b)])
def zD8 (N:Nat)(a0:Int):OA:=
 (cond (ilt a0 0) (some [(aI (-1))]) (oN (ine 4 0) (some [(aI (zS8 .i64 a0 4))])))
theorem zR2 (a0:Int)(hc:zgo a0=true):∃N,zD8 N a0=some [aI (zcp a0)]:=by
 refine ⟨0,?_⟩;unfold zD8 oN;refine br (fun _=>?_) (fun _=>must rfl ?_)
 all_goals first|rfl|(simp only [*,zcp,zb0,cT,cF]<;>rfl)|simp_all[Ty.cells,zcp,zb0]
theorem zKS:u4 223 zAa:=kF1 zcO zi zl zn (zk []) zR2
@[simp] abbrev zez (a:Int):Bool:=true
@[simp] abbrev zbZ (a:Int):Int:=zb0 a
def zzJ:Run:=rF1 dI fun b=>(zez b,[aI (zbZ b)])
def zDC (N:Nat)(a0:Int):OA:=
 (cond (ilt a0 0) (some [(aI (-1))]) (oN (ine 4 0) (some [(aI (zS8 .i64 a0 4))])))
theorem zRw (a0:Int)(hc:zez a0=true):∃N,zDC N a0=some [aI (zbZ a0)]:=by
 refine ⟨0,?_⟩;unfold zDC oN;refine br (fun _=>?_) (fun _=>must rfl ?_)
 all_goals first|rfl|(simp only [*,zbZ,zb0,cT,cF]<;>rfl)|simp_all[Ty.cells,zbZ,zb0]
theorem zKq:u4 60 zzJ:=kF1 zcO zi zl zn (zk []) zRw
@[simp] abbrev zjn (a:Int):Bool:=true
@[simp] abbrev zei (a:Int):Int:=zfF a
def zz9:Run:=rF1 dI fun b=>(zjn b,[aI (zei b)])
def zD7 (N:Nat)(a0:Int):OA:=
 (cond (ilt a0 0) (some [(aI (-1))]) (oN (ine 4 0) (some [(aI (zmX a0 4))])))
theorem zR1 (a0:Int)(hc:zjn a0=true):∃N,zD7 N a0=some [aI (zei a0)]:=by
 refine ⟨0,?_⟩;unfold zD7 oN;refine br (fun _=>?_) (fun _=>must rfl ?_)
 all_goals first|rfl|(simp only [*,zei,zfF,cT,cF]<;>rfl)|simp_all[Ty.cells,zei,zfF]
theorem zKR:u4 224 zz9:=kF1 zcO zi zl zn (zk []) zR1
@[simp] abbrev zey (a:Int):Bool:=true
@[simp] abbrev zdU (a:Int):Int:=zfF a
def zzI:Run:=rF1 dI fun b=>(zey b,[aI (zdU b)])
def zDB (N:Nat)(a0:Int):OA:=
 (cond (ilt a0 0) (some [(aI (-1))]) (oN (ine 4 0) (some [(aI (zmX a0 4))])))
theorem zRv (a0:Int)(hc:zey a0=true):∃N,zDB N a0=some [aI (zdU a0)]:=by
 refine ⟨0,?_⟩;unfold zDB oN;refine br (fun _=>?_) (fun _=>must rfl ?_)
 all_goals first|rfl|(simp only [*,zdU,zfF,cT,cF]<;>rfl)|simp_all[Ty.cells,zdU,zfF]
theorem zKp:u4 65 zzI:=kF1 zcO zi zl zn (zk []) zRv
def zff (w:Bool):Int:=bif w then 2 else 1
@[simp] abbrev zuA (w:Bool):Bool:=true
@[simp] abbrev zfj (w:Bool):Int:=zff w
def zF5:Run:=rF1 dB fun b=>(zuA b,[aI (zfj b)])
def zMK (N:Nat)(a0:Bool):OA:=
 (cond a0 (some [(aI 2)]) (some [(aI 1)]))
theorem zYf (a0:Bool)(hc:zuA a0=true):∃N,zMK N a0=some [aI (zfj a0)]:=by
 refine ⟨0,?_⟩;unfold zMK;refine br (fun _=>?_) (fun _=>?_)
 all_goals first|rfl|(simp only [*,zfj,zff,cT,cF]<;>rfl)|simp_all[Ty.cells,zfj,zff]
theorem zQ2:u4 266 zF5:=kF1 zcO zi zl zn (zk []) zYf
@[simp] abbrev zpn (w:Bool):Bool:=true
@[simp] abbrev zeI (w:Bool):Int:=zff w
def zFC:Run:=rF1 dB fun b=>(zpn b,[aI (zeI b)])
def zMi (N:Nat)(a0:Bool):OA:=
 (cond a0 (some [(aI 2)]) (some [(aI 1)]))
theorem zXL (a0:Bool)(hc:zpn a0=true):∃N,zMi N a0=some [aI (zeI a0)]:=by
 refine ⟨0,?_⟩;unfold zMi;refine br (fun _=>?_) (fun _=>?_)
 all_goals first|rfl|(simp only [*,zeI,zff,cT,cF]<;>rfl)|simp_all[Ty.cells,zeI,zff]
theorem zQz:u4 61 zFC:=kF1 zcO zi zl zn (zk []) zXL
def zwT (p:Int)(w:Bool):GExit:=⟨1,p,w,0⟩
def zAH (n:Int):GExit:=⟨2,0,false,n⟩
def zGY (n:Int):GExit:=⟨3,0,false,n⟩
@[simp] abbrev znS (p:Int)(w:Bool):Bool:=true
@[simp] abbrev zg3 (p:Int)(w:Bool):GExit:=zwT p w
def zxx:Run:=rF2 dI dB fun b c=>(znS b c,[.agg (zjO (zg3 b c))])
def zCb (N:Nat)(a0:Int)(a1:Bool):OA:=
 (some [(.agg [(.i .i64 1),(.i .i64 a0),(.b a1),(.i .i64 0)])])
theorem zOT (a0:Int)(a1:Bool)(hc:znS a0 a1=true):∃N,zCb N a0 a1=some [.agg (zjO (zg3 a0 a1))]:=by
 refine ⟨0,?_⟩;unfold zCb
 first|rfl|(simp only [*,zg3,cT,cF]<;>rfl)|simp_all[Ty.cells,zg3]
theorem zHu:u4 268 zxx:=kF2 zcO zi zl zn (zk []) zOT
@[simp] abbrev zka (p:Int)(w:Bool):Bool:=true
@[simp] abbrev ziC (p:Int)(w:Bool):GExit:=zwT p w
def zxg:Run:=rF2 dI dB fun b c=>(zka b c,[.agg (zjO (ziC b c))])
def zBT (N:Nat)(a0:Int)(a1:Bool):OA:=
 (some [(.agg [(.i .i64 1),(.i .i64 a0),(.b a1),(.i .i64 0)])])
theorem zOA (a0:Int)(a1:Bool)(hc:zka a0 a1=true):∃N,zBT N a0 a1=some [.agg (zjO (ziC a0 a1))]:=by
 refine ⟨0,?_⟩;unfold zBT
 first|rfl|(simp only [*,ziC,cT,cF]<;>rfl)|simp_all[Ty.cells,ziC]
theorem zHd:u4 63 zxg:=kF2 zcO zi zl zn (zk []) zOA
@[simp] abbrev zwe (n:Int):Bool:=true
@[simp] abbrev zmv (n:Int):GExit:=zAH n
def zAc:Run:=rF1 dI fun b=>(zwe b,[.agg (zjO (zmv b))])
def zEb (N:Nat)(a0:Int):OA:=
 (some [(.agg [(.i .i64 2),(.i .i64 0),(.b false),(.i .i64 a0)])])
theorem zR5 (a0:Int)(hc:zwe a0=true):∃N,zEb N a0=some [.agg (zjO (zmv a0))]:=by
 refine ⟨0,?_⟩;unfold zEb
 first|rfl|(simp only [*,zmv,cT,cF]<;>rfl)|simp_all[Ty.cells,zmv]
theorem zKU:u4 310 zAc:=kF1 zcO zi zl zn (zk []) zR5
@[simp] abbrev zo9 (n:Int):Bool:=true
@[simp] abbrev zjS (n:Int):GExit:=zAH n
def zzL:Run:=rF1 dI fun b=>(zo9 b,[.agg (zjO (zjS b))])
def zDH (N:Nat)(a0:Int):OA:=
 (some [(.agg [(.i .i64 2),(.i .i64 0),(.b false),(.i .i64 a0)])])
theorem zRB (a0:Int)(hc:zo9 a0=true):∃N,zDH N a0=some [.agg (zjO (zjS a0))]:=by
 refine ⟨0,?_⟩;unfold zDH
 first|rfl|(simp only [*,zjS,cT,cF]<;>rfl)|simp_all[Ty.cells,zjS]
theorem zKs:u4 154 zzL:=kF1 zcO zi zl zn (zk []) zRB
@[simp] abbrev zyL (n:Int):Bool:=true
@[simp] abbrev zoH (n:Int):GExit:=zGY n
def zCV:Run:=rF1 dI fun b=>(zyL b,[.agg (zjO (zoH b))])
def zIN (N:Nat)(a0:Int):OA:=
 (some [(.agg [(.i .i64 3),(.i .i64 0),(.b false),(.i .i64 a0)])])
theorem zVC (a0:Int)(hc:zyL a0=true):∃N,zIN N a0=some [.agg (zjO (zoH a0))]:=by
 refine ⟨0,?_⟩;unfold zIN
 first|rfl|(simp only [*,zoH,cT,cF]<;>rfl)|simp_all[Ty.cells,zoH]
theorem zN2:u4 311 zCV:=kF1 zcO zi zl zn (zk []) zVC
@[simp] abbrev zyt (n:Int):Bool:=true
@[simp] abbrev zoz (n:Int):GExit:=zGY n
def zCx:Run:=rF1 dI fun b=>(zyt b,[.agg (zjO (zoz b))])
def zIm (N:Nat)(a0:Int):OA:=
 (some [(.agg [(.i .i64 3),(.i .i64 0),(.b false),(.i .i64 a0)])])
theorem zU9 (a0:Int)(hc:zyt a0=true):∃N,zIm N a0=some [.agg (zjO (zoz a0))]:=by
 refine ⟨0,?_⟩;unfold zIm
 first|rfl|(simp only [*,zoz,cT,cF]<;>rfl)|simp_all[Ty.cells,zoz]
theorem zNE:u4 243 zCx:=kF1 zcO zi zl zn (zk []) zU9
def zdr (t x:Int):Bool:=bif win t 0 3 then (cond (win x 1 2) (ine (wand .i64 t x) 0) false) else false
theorem zbaf (x:Int):win x 1 2=(ieq x 1||ieq x 2):=by
 have h:(win x 1 2=true)↔(ieq x 1||ieq x 2)=true:=by
  rw[zeM];simp only[ieq,jT,qJ];omega
 cases h1:win x 1 2<;>cases h2:(ieq x 1||ieq x 2)<;>simp_all
@[simp] abbrev ziN (t x:Int):Bool:=true
@[simp] abbrev zih (t x:Int):Bool:=zdr t x
def zCM:Run:=rF2 dI dI fun b c=>(ziN b c,[aB (zih b c)])
def zIF (N:Nat)(a0 a1:Int):OA:=
 (oN (zL a0 0 3) (cond (zO a0 0 3) (oN (zL a1 1 2) (cond (zO a1 1 2) (some [(aB (ine (wand .i64 a0 a1) 0))]) oF)) oF))
theorem zVt (a0 a1:Int)(hc:ziN a0 a1=true):∃N,zIF N a0 a1=some [aB (zih a0 a1)]:=by
 refine ⟨0,?_⟩;unfold zIF oN;refine must rfl (br (fun _=>must rfl (br (fun _=>?_) (fun _=>?_))) (fun _=>?_))
 all_goals first|rfl|(simp only [*,zih,zdr,cT,cF]<;>rfl)|simp_all[Ty.cells,zih,zdr]
theorem zNT:u4 309 zCM:=kF2 zcO zi zl zn (zk []) zVt
@[simp] abbrev zky (t x:Int):Bool:=true
@[simp] abbrev zjB (t x:Int):Bool:=zdr t x
def zCq:Run:=rF2 dI dI fun b c=>(zky b c,[aB (zjB b c)])
def zIf (N:Nat)(a0 a1:Int):OA:=
 let y0:=(aB (ine (wand .i64 a0 a1) 0)); (oN (zbk a0 0 3) (cond (zbr a0 0 3) (cond (ieq a1 1) (some [y0]) (cond (ieq a1 2) (some [y0]) oF)) oF))
theorem zU1 (a0 a1:Int)(hc:zky a0 a1=true):∃N,zIf N a0 a1=some [aB (zjB a0 a1)]:=by
 refine ⟨0,?_⟩;unfold zIf oN
 conv=>zeta
 refine must rfl (br (fun _=>br (fun _=>?_) (fun _=>br (fun _=>?_) (fun _=>?_))) (fun _=>?_))
 all_goals first|rfl|(simp only [*,zjB,zdr,zbaf,cT,cF]<;>rfl)|simp_all[Ty.cells,zjB,zdr,zbaf]
theorem zNx:u4 155 zCq:=kF2 zcO zi zl zn (zk []) zU1
def zeX (p:Int):Bool:=win p 0 255
@[simp] abbrev zfm (p:Int):Bool:=true
@[simp] abbrev zfl (p:Int):Bool:=zeX p
def zGa:Run:=rF1 dI fun b=>(zfm b,[aB (zfl b)])
def zMO (N:Nat)(a0:Int):OA:=
 (oN (zL a0 0 255) (some [(aB (zO a0 0 255))]))
theorem zYk (a0:Int)(hc:zfm a0=true):∃N,zMO N a0=some [aB (zfl a0)]:=by
 refine ⟨0,?_⟩;unfold zMO oN;refine must rfl ?_
 first|rfl|(simp only [*,zfl,zeX,cT,cF]<;>rfl)|simp_all[Ty.cells,zfl,zeX]
theorem zQ7:u4 312 zGa:=kF1 zcO zi zl zn (zk []) zYk
@[simp] abbrev zh7 (p:Int):Bool:=true
@[simp] abbrev ziD (p:Int):Bool:=zeX p
def zFI:Run:=rF1 dI fun b=>(zh7 b,[aB (ziD b)])
def zMn (N:Nat)(a0:Int):OA:=
 (oN (zbk a0 0 255) (some [(aB (zbr a0 0 255))]))
theorem zXR (a0:Int)(hc:zh7 a0=true):∃N,zMn N a0=some [aB (ziD a0)]:=by
 refine ⟨0,?_⟩;unfold zMn oN;refine must rfl ?_
 first|rfl|(simp only [*,ziD,zeX,cT,cF]<;>rfl)|simp_all[Ty.cells,ziD,zeX]
theorem zQF:u4 236 zFI:=kF1 zcO zi zl zn (zk []) zXR
def zdI (l:List Ins)(p:Int):Ins:=bif hasB p (ln l) then ix l p zss else ⟨7,0⟩
@[simp] abbrev zfz (l:List Ins)(p:Int):Bool:=true
@[simp] abbrev zfT (l:List Ins)(p:Int):Ins:=zdI l p
def zJB:Run:=rF2 (dS .ins) dI fun b c=>(zfz b c,[aT .ins (zfT b c)])
def zTp (N:Nat)(a0:lI)(a1:Int):OA:=
 (oN (zL a1 0 (wsub .i64 (ln a0) 1)) (cond (nB (zO a1 0 (wsub .i64 (ln a0) 1))) (some [(.agg [(.i .i64 7),(.i .i64 0)])]) (oN (inb a1 (ln a0)) (some [(.agg [(.i .i64 (ix a0 a1 zss).Op),(.i .i64 (ix a0 a1 zss).X)])]))))
theorem z0F (a0:List Ins)(a1:Int)(hb:zbC big [aS .ins a0,aI a1])(hc:zfz a0 a1=true):∃N,zTp N a0 a1=some [aT .ins (zfT a0 a1)]:=by
 have hl:=((zcL hb).1 _ (qF.2 rfl)).len;have hw:=zL5 hl
 refine ⟨0,?_⟩;unfold zTp oN nB;refine must rfl (brN (fun _=>?_) (fun _=>mu ?_))
 all_goals first|rfl|(simp only [*,zfT,zdI,cT,cF]<;>rfl)|simp_all[Ty.cells,zfT,zdI]
theorem zUG:u4 260 zJB:=hF2 zcO zi zl zn (zk []) z0F
@[simp] abbrev zgh (l:List Ins)(p:Int):Bool:=true
@[simp] abbrev zgr (l:List Ins)(p:Int):Ins:=zdI l p
def zJp:Run:=rF2 (dS .ins) dI fun b c=>(zgh b c,[aT .ins (zgr b c)])
def zTd (N:Nat)(a0:lI)(a1:Int):OA:=
 (oN (zbx a1 (ln a0)) (cond (nB (zbK a1 (ln a0))) (some [(.agg [(.i .i64 7),(.i .i64 0)])]) (oN (inb a1 (ln a0)) (some [(.agg [(.i .i64 (ix a0 a1 zss).Op),(.i .i64 (ix a0 a1 zss).X)])]))))
theorem z0s (a0:List Ins)(a1:Int)(hc:zgh a0 a1=true):∃N,zTd N a0 a1=some [aT .ins (zgr a0 a1)]:=by
 refine ⟨0,?_⟩;unfold zTd oN nB;refine must rfl (brN (fun _=>?_) (fun _=>mu ?_))
 all_goals first|rfl|(simp only [*,zgr,zdI,cT,cF]<;>rfl)|simp_all[Ty.cells,zgr,zdI]
theorem zUt:u4 138 zJp:=kF2 zcO zi zl zn (zk []) z0s
def zfs (w:Int):Int:=bif ieq w 5 then 1 else 2
@[simp] abbrev zpw (w:Int):Bool:=true
@[simp] abbrev zhx (w:Int):Int:=zfs w
def zFT:Run:=rF1 dI fun b=>(zpw b,[aI (zhx b)])
def zMy (N:Nat)(a0:Int):OA:=
 (cond (ieq a0 5) (some [(aI 1)]) (some [(aI 2)]))
theorem zX2 (a0:Int)(hc:zpw a0=true):∃N,zMy N a0=some [aI (zhx a0)]:=by
 refine ⟨0,?_⟩;unfold zMy;refine br (fun _=>?_) (fun _=>?_)
 all_goals first|rfl|(simp only [*,zhx,zfs,cT,cF]<;>rfl)|simp_all[Ty.cells,zhx,zfs]
theorem zQQ:u4 144 zFT:=kF1 zcO zi zl zn (zk []) zX2
def zeY (s:Slot)(n:Int):Bool:=bif zc2 s noSlot then true else (cond (igt n 0) (cond (win s.Page 0 (wsub .i64 n 1)) (win s.Rights 1 3) false) false)
@[simp] abbrev zuD (s:Slot)(n:Int):Bool:=true
@[simp] abbrev zri (s:Slot)(n:Int):Bool:=zeY s n
def zGd:Run:=rF2 (dT .slot) dI fun b c=>(zuD b c,[aB (zri b c)])
def zMR (N:Nat)(a0:Slot)(a1:Int):OA:=
 (oN zcg (cond (cond (ieq a0.Page zbs.Page) (ieq a0.Rights zbs.Rights) false) oT (oN (zL a0.Page 0 (wsub .i64 a1 1)) (cond (zO a0.Page 0 (wsub .i64 a1 1)) (cond (igt a1 0) (oN (zL a0.Rights 1 3) (some [(aB (zO a0.Rights 1 3))])) oF) oF))))
theorem zYn (a0:Slot)(a1:Int)(hc:zuD a0 a1=true):∃N,zMR N a0 a1=some [aB (zri a0 a1)]:=by
 refine ⟨0,?_⟩;unfold zMR oN;refine must rfl (br (fun _=>?_) (fun _=>must rfl (br (fun _=>br (fun _=>must rfl ?_) (fun _=>?_)) (fun _=>?_))))
 all_goals first|rfl|(simp only [*,zri,zeY,zc2,cT,cF]<;>rfl)|simp_all[Ty.cells,zri,zeY,zc2]
theorem zRa:u4 275 zGd:=kF2 zcO zi zl zn (zk []) zYn
@[simp] abbrev zum (s:Slot)(n:Int):Bool:=true
@[simp] abbrev zqM (s:Slot)(n:Int):Bool:=zeY s n
def zFN:Run:=rF2 (dT .slot) dI fun b c=>(zum b c,[aB (zqM b c)])
def zMs (N:Nat)(a0:Slot)(a1:Int):OA:=
 (oN zc0 (cond (cond (ieq a0.Page zcm.Page) (ieq a0.Rights zcm.Rights) false) oT (cond (igt a1 0) (oN (zbk a0.Page 0 (wsub .i64 a1 1)) (cond (zbr a0.Page 0 (wsub .i64 a1 1)) (oN (zbk a0.Rights 1 3) (some [(aB (zbr a0.Rights 1 3))])) oF)) oF)))
theorem zXW (a0:Slot)(a1:Int)(hc:zum a0 a1=true):∃N,zMs N a0 a1=some [aB (zqM a0 a1)]:=by
 refine ⟨0,?_⟩;unfold zMs oN;refine must rfl (br (fun _=>?_) (fun _=>br (fun _=>must rfl (br (fun _=>must rfl ?_) (fun _=>?_))) (fun _=>?_)))
 all_goals first|rfl|(simp only [*,zqM,zeY,zc2,cT,cF]<;>rfl)|simp_all[Ty.cells,zqM,zeY,zc2]
theorem zQK:u4 160 zFN:=kF2 zcO zi zl zn (zk []) zXW
@[simp] abbrev zfx (l:List Slot):Bool:=pc (l.length<=2147483648)
@[simp] abbrev zdL (l:List Slot):List Slot:=l
def zxp:Run:=rF1 (dS .slot) fun b=>(zfx b,[aS .slot (zdL b)])
def zB2 (N:Nat)(a0:lS):OA:=
 (oN (few (ln (ap [] a0))) (some [(aS .slot (ap [] a0))]))
theorem zOJ (a0:List Slot)(hc:zfx a0=true):∃N,zB2 N a0=some [aS .slot (zdL a0)]:=by
 have hs:=zy.1 hc;refine ⟨0,?_⟩;unfold zB2 oN;refine mu ?_
 first|rfl|(simp only [*,zdL,cT,cF]<;>rfl)|simp_all[Ty.cells,zdL]
theorem zHm:u4 186 zxp:=kF1 zcO zi zl zn (zk []) zOJ
@[simp] abbrev zpv (l:List Ins):Bool:=pc (l.length<=2147483648)
@[simp] abbrev zmh (l:List Ins):List Ins:=l
def zz3:Run:=rF1 (dS .ins) fun b=>(zpv b,[aS .ins (zmh b)])
def zD0 (N:Nat)(a0:lI):OA:=
 (oN (few (ln (ap [] a0))) (some [(aS .ins (ap [] a0))]))
theorem zRV (a0:List Ins)(hc:zpv a0=true):∃N,zD0 N a0=some [aS .ins (zmh a0)]:=by
 have hs:=zy.1 hc;refine ⟨0,?_⟩;unfold zD0 oN;refine mu ?_
 first|rfl|(simp only [*,zmh,cT,cF]<;>rfl)|simp_all[Ty.cells,zmh]
theorem zKL:u4 233 zz3:=kF1 zcO zi zl zn (zk []) zRV
def zjk (m:List (List Int))(p c:Int):Bool:=bif hasB p (ln m) then hasB c (ln (ix m p [])) else false
def cellAt (m:List (List Int))(p c:Int):Int:=bif zjk m p c then ix (ix m p []) c 0 else 0
def zer (m:List (List Int))(p c v:Int):List (List Int):=bif zjk m p c then (cond (win v 0 99) (up m p (up (ix m p []) c v)) m) else m
theorem zBj (m:List (List Int))(p c:Int):(zjk m p c=true)↔hasB p (ln m)=true/\hasB c (ln (ix m p []))=true:=by
 unfold zjk;cases hasB p (ln m)<;>simp
theorem zbb1 {n:Nat}{m:List (List Int)}(h:CVB n (.s (.sl .int) m)):m.length<=n/\∀p:Int,hasB p (ln m)=true->(ix m p []).length<=n :=
 ⟨h.len,fun p hp=>(h.inv.2 _ (zbt hp []) _ (qF.2 rfl)).len⟩
@[simp] abbrev zuF (m:List (List Int))(p c:Int):Bool:=true
@[simp] abbrev zrl (m:List (List Int))(p c:Int):Bool:=zjk m p c
def zGi:Run:=rF3 (dS (.sl .int)) dI dI fun b c d=>(zuF b c d,[aB (zrl b c d)])
def zMW (N:Nat)(a0:lM)(a1 a2:Int):OA:=
 let y0:=(wsub .i64 (ln (ix a0 a1 [])) 1); (oN (zL a1 0 (wsub .i64 (ln a0) 1)) (cond (zO a1 0 (wsub .i64 (ln a0) 1)) (oN (inb a1 (ln a0)) (oN (zL a2 0 y0) (some [(aB (zO a2 0 y0))]))) oF))
theorem zYs (a0:List (List Int))(a1 a2:Int)(hb:zbC big [aS (.sl .int) a0,aI a1,aI a2])(hc:zuF a0 a1 a2=true):∃N,zMW N a0 a1 a2=some [aB (zrl a0 a1 a2)]:=by
 have hl:=zbb1 ((zcL hb).1 _ (qF.2 rfl));have hw:=zL5 hl.1;have hw2:∀p i:Int,hasB p (ln a0)=true->win i 0 (wsub .i64 (ln (ix a0 p [])) 1)=hasB i (ln (ix a0 p [])):=fun p i h=>zL5 (hl.2 p h) i
 refine ⟨0,?_⟩;unfold zMW oN
 conv=>zeta
 refine must rfl (br (fun _=>mu (must rfl ?_)) (fun _=>?_))
 all_goals first|rfl|(simp only [*,zrl,zjk,cT,cF]<;>rfl)|simp_all[Ty.cells,zrl,zjk]
theorem zRe:u4 282 zGi:=hF3 zcO zi zl zn (zk []) zYs
@[simp] abbrev zmc (m:List (List Int))(p c:Int):Bool:=true
@[simp] abbrev zlk (m:List (List Int))(p c:Int):Int:=cellAt m p c
def zFs:Run:=rF3 (dS (.sl .int)) dI dI fun b c d=>(zmc b c d,[aI (zlk b c d)])
def zL8 (N:Nat)(a0:lM)(a1 a2:Int):OA:=
 let y0:=(ix a0 a1 []); (oN (zbx a1 (ln a0)) (cond (nB (zbK a1 (ln a0))) (some [(aI 0)]) (oN (inb a1 (ln a0)) (oN (zbx a2 (ln y0)) (cond (nB (zbK a2 (ln y0))) (some [(aI 0)]) (oN (inb a1 (ln a0)) (oN (inb a2 (ln y0)) (some [(aI (ix y0 a2 0))]))))))))
theorem zXA (a0:List (List Int))(a1 a2:Int)(hc:zmc a0 a1 a2=true):∃N,zL8 N a0 a1 a2=some [aI (zlk a0 a1 a2)]:=by
 refine ⟨0,?_⟩;unfold zL8 oN nB
 conv=>zeta
 refine must rfl (brN (fun _=>?_) (fun _=>mu (must rfl (brN (fun _=>?_) (fun _=>mu (mu ?_))))))
 all_goals first|rfl|(simp only [*,zlk,cellAt,zjk,cT,cF]<;>rfl)|simp_all[Ty.cells,zlk,cellAt,zjk]
theorem zQp:u4 68 zFs:=kF3 zcO zi zl zn (zk []) zXA
def z2M:zV:=[(258,zFW),(136,zFr),(223,zAa),(60,zzJ),(224,zz9),(65,zzI),(266,zF5),(61,zFC),(268,zxx),(63,zxg),(310,zAc),(154,zzL),(311,zCV),(243,zCx),(309,zCM),(155,zCq),(312,zGa),(236,zFI),(260,zJB),(138,zJp),(144,zFT),(275,zGd),(160,zFN),(186,zxp),(233,zz3),(282,zGi),(68,zFs)]++ctrU
theorem zfG:zJ z2M:=zf zQT (zf zQo (zf zKS (zf zKq (zf zKR (zf zKp (zf zQ2 (zf zQz (zf zHu (zf zHd (zf zKU (zf zKs (zf zN2 (zf zNE (zf zNT (zf zNx (zf zQ7 (zf zQF (zf zUG (zf zUt (zf zQQ (zf zRa (zf zQK (zf zHm (zf zKL (zf zRe (zf zQp zcO))))))))))))))))))))))))))
@[simp] abbrev zuy (m:List (List Int))(p c:Int):Bool:=true
@[simp] abbrev zoh (m:List (List Int))(p c:Int):Int:=cellAt m p c
def zFX:Run:=rF3 (dS (.sl .int)) dI dI fun b c d=>(zuy b c d,[aI (zoh b c d)])
def zMC (N:Nat)(a0:lM)(a1 a2:Int):OA:=
 (oN (zuF a0 a1 a2) (cond (nB (zrl a0 a1 a2)) (some [(aI 0)]) (oN (inb a1 (ln a0)) (oN (inb a2 (ln (ix a0 a1 []))) (some [(aI (ix (ix a0 a1 []) a2 0))])))))
theorem zX6 (a0:List (List Int))(a1 a2:Int)(hc:zuy a0 a1 a2=true):∃N,zMC N a0 a1 a2=some [aI (zoh a0 a1 a2)]:=by
 have hm:=(zBj a0 a1 a2).1;refine ⟨0,?_⟩;unfold zMC oN nB;refine must rfl (brN (fun _=>?_) (fun _=>mu (mu ?_)))
 all_goals first|rfl|(simp only [*,zoh,cellAt,cT,cF]<;>rfl)|simp_all[Ty.cells,zoh,cellAt]
theorem zQU:u4 225 zFX:=kF3 zfG zi zl zn (zk []) zX6
def zdd (t:List Slot)(n p:Int):Bool:=bif t.all (fun s=>zeY s p) then ieq (ln t) n else false
@[simp] abbrev zny (t:List Slot)(n p:Int):Bool:=true
@[simp] abbrev zij (t:List Slot)(n p:Int):Bool:=zdd t n p
def zC1:Run:=rF3 (dS .slot) dI dI fun b c d=>(zny b c d,[aB (zij b c d)])
def zIT (N:Nat)(a0:lS)(a1 a2:Int):OA:=
 (iter (σ:=(Int×(Int×(Int×(lS×Unit))))) N (fun r4 s5=>let y0:=s5.2.2.2.1;let y1:=(ix y0 s5.2.2.1 zK); (cond (ilt s5.2.2.1 (ln y0)) (oN (inb s5.2.2.1 (ln y0)) (oN (zuD y1 s5.2.1) (cond (nB (zri y1 s5.2.1)) oF (r4 (s5.1,(s5.2.1,((zD .i64 s5.2.2.1 1),(y0,())))))))) (some [(aB (ieq (ln y0) s5.1))]))) (a1,(a2,(0,(a0,())))))
def zWc:FuncId->Nat->Option Tmpl:=zk [(327,0,{ n:=25,tm:=[(0,.sl 0 []),(1,ti),(2,ti),(7,ti)],lo:=[],ro:=[(0,.slot,false)] })]
theorem zVI (a0:List Slot)(a1 a2:Int)(hb:zbC big [aS .slot a0,aI a1,aI a2])(hc:zny a0 a1 a2=true):∃N,zIT N a0 a1 a2=some [aB (zij a0 a1 a2)]:=by
 have hl:(_:List _).length<=big:=((zcL hb).1 _ (qF.2 rfl)).len;refine zbV fun N hNN=>?_;unfold zIT oN nB
 conv=>zeta
 refine (zbb a0 (fun i (t:Unit)=>(a1,a2,(i:Int),a0,())) _ (fun _ x (_:Unit) κ=>bif (fun s=>zeY s a2) x then κ () else oF) (fun (t:Unit)=>(some [(.one (.b (ieq (ln a0) a1)))])) (fun i hi t rec=>?_) (fun t rec=>?_) _ () (hNN hl)).trans ?_
 .simp only [zbi hi,zQ hi,zbc hi,zU hi hl,cT];exact ziv rfl
 .simp only [zbe,cF]
 rw[zgq (fun s=>zeY s a2)];refine br (fun h0=>?_) (fun h0=>?_)
 .first|rfl|(simp only [h0,zij,zdd,cT,cF]<;>rfl)|(simp_all [Ty.cells,zij,zdd];done)
 .first|rfl|(simp only [h0,zij,zdd,cT,cF]<;>rfl)|(simp_all [Ty.cells,zij,zdd];done)
theorem zN8:u4 327 zC1:=hF3 zfG zi zl zn zWc zVI
@[simp] abbrev znh (t:List Slot)(n p:Int):Bool:=true
@[simp] abbrev zh9 (t:List Slot)(n p:Int):Bool:=zdd t n p
def zCD:Run:=rF3 (dS .slot) dI dI fun b c d=>(znh b c d,[aB (zh9 b c d)])
def zIs (N:Nat)(a0:lS)(a1 a2:Int):OA:=
 (iter (σ:=(Int×(Int×(Int×(Int×(lS×Unit)))))) N (fun r4 s5=>let y1:=s5.2.2.2.2.1;let y0:=(ix y1 s5.2.2.2.1 zK); (cond (ilt s5.2.2.2.1 s5.2.2.1) (oN (inb s5.2.2.2.1 (ln y1)) (oN (zum y0 s5.2.1) (cond (nB (zqM y0 s5.2.1)) oF (r4 (s5.1,(s5.2.1,(s5.2.2.1,((zD .i64 s5.2.2.2.1 1),(y1,()))))))))) (some [(aB (ieq (ln y1) s5.1))]))) (a1,(a2,((ln a0),(0,(a0,()))))))
def zV8:FuncId->Nat->Option Tmpl:=zk [(235,0,{ n:=24,tm:=[(0,.sl 0 []),(1,ti),(2,ti),(9,.sl 0 []),(10,ti),(11,ti)],lo:=[],ro:=[(0,.slot,false)] })]
theorem zVf (a0:List Slot)(a1 a2:Int)(hb:zbC big [aS .slot a0,aI a1,aI a2])(hc:znh a0 a1 a2=true):∃N,zIs N a0 a1 a2=some [aB (zh9 a0 a1 a2)]:=by
 have hl:(_:List _).length<=big:=((zcL hb).1 _ (qF.2 rfl)).len;refine zbV fun N hNN=>?_;unfold zIs oN nB
 conv=>zeta
 refine (zbb a0 (fun i (t:Unit)=>(a1,a2,(ln a0),(i:Int),a0,())) _ (fun _ x (_:Unit) κ=>bif (fun s=>zeY s a2) x then κ () else oF) (fun (t:Unit)=>(some [(.one (.b (ieq (ln a0) a1)))])) (fun i hi t rec=>?_) (fun t rec=>?_) _ () (hNN hl)).trans ?_
 .simp only [zbi hi,zQ hi,zbc hi,zU hi hl,cT];exact ziv rfl
 .simp only [zbe,cF]
 rw[zgq (fun s=>zeY s a2)];refine br (fun h0=>?_) (fun h0=>?_)
 .first|rfl|(simp only [h0,zh9,zdd,cT,cF]<;>rfl)|(simp_all [Ty.cells,zh9,zdd];done)
 .first|rfl|(simp only [h0,zh9,zdd,cT,cF]<;>rfl)|(simp_all [Ty.cells,zh9,zdd];done)
theorem zNK:u4 235 zCD:=hF3 zfG zi zl zn zV8 zVf
def zcH (c:List Int):Bool:=bif c.all (fun x=>win x 0 99) then ieq (ln c) 4 else false
@[simp] abbrev zf3 (c:List Int):Bool:=true
@[simp] abbrev zfk (c:List Int):Bool:=zcH c
def zF9:Run:=rF1 (dS .int) fun b=>(zf3 b,[aB (zfk b)])
def zMN (N:Nat)(a0:List Int):OA:=
 (iter (σ:=(Int×((List Int)×Unit))) N (fun r2 s3=>(cond (ilt s3.1 (ln s3.2.1)) (oN (inb s3.1 (ln s3.2.1)) (oN (zL (ix s3.2.1 s3.1 0) 0 99) (cond (nB (zO (ix s3.2.1 s3.1 0) 0 99)) oF (r2 ((zD .i64 s3.1 1),(s3.2.1,())))))) (some [(aB (ieq (ln s3.2.1) 4))]))) (0,(a0,())))
def zZR:FuncId->Nat->Option Tmpl:=zk [(325,0,{ n:=19,tm:=[(0,.sl 0 []),(3,ti)],lo:=[],ro:=[(0,.int,false)] })]
theorem zYj (a0:List Int)(hb:zbC big [aS .int a0])(hc:zf3 a0=true):∃N,zMN N a0=some [aB (zfk a0)]:=by
 have hl:(_:List _).length<=big:=((zcL hb).1 _ (qF.2 rfl)).len;refine zbV fun N hNN=>?_;unfold zMN oN nB;refine (zbb a0 (fun i (t:Unit)=>((i:Int),a0,())) _ (fun _ x (_:Unit) κ=>bif (fun x=>win x 0 99) x then κ () else oF) (fun (t:Unit)=>(some [(.one (.b (ieq (ln a0) 4)))])) (fun i hi t rec=>?_) (fun t rec=>?_) _ () (hNN hl)).trans ?_
 .simp only [zbi hi,zQ hi,zbc hi,zU hi hl,cT];exact ziv rfl
 .simp only [zbe,cF]
 rw[zgq (fun x=>win x 0 99)];refine br (fun h0=>?_) (fun h0=>?_)
 .first|rfl|(simp only [h0,zfk,zcH,cT,cF]<;>rfl)|(simp_all [Ty.cells,zfk,zcH];done)
 .first|rfl|(simp only [h0,zfk,zcH,cT,cF]<;>rfl)|(simp_all [Ty.cells,zfk,zcH];done)
theorem zQ6:u4 325 zF9:=hF1 zfG zi zl zn zZR zYj
@[simp] abbrev zh6 (c:List Int):Bool:=true
@[simp] abbrev zgB (c:List Int):Bool:=zcH c
def zFH:Run:=rF1 (dS .int) fun b=>(zh6 b,[aB (zgB b)])
def zMm (N:Nat)(a0:List Int):OA:=
 (iter (σ:=(Int×(Int×((List Int)×Unit)))) N (fun r2 s3=>(cond (ilt s3.2.1 s3.1) (oN (inb s3.2.1 (ln s3.2.2.1)) (oN (zbk (ix s3.2.2.1 s3.2.1 0) 0 99) (cond (nB (zbr (ix s3.2.2.1 s3.2.1 0) 0 99)) oF (r2 (s3.1,((zD .i64 s3.2.1 1),(s3.2.2.1,()))))))) (some [(aB (ieq (ln s3.2.2.1) 4))]))) ((ln a0),(0,(a0,()))))
def zZH:FuncId->Nat->Option Tmpl:=zk [(234,0,{ n:=18,tm:=[(0,.sl 0 []),(5,.sl 0 []),(6,ti),(7,ti)],lo:=[],ro:=[(0,.int,false)] })]
theorem zXQ (a0:List Int)(hb:zbC big [aS .int a0])(hc:zh6 a0=true):∃N,zMm N a0=some [aB (zgB a0)]:=by
 have hl:(_:List _).length<=big:=((zcL hb).1 _ (qF.2 rfl)).len;refine zbV fun N hNN=>?_;unfold zMm oN nB;refine (zbb a0 (fun i (t:Unit)=>((ln a0),(i:Int),a0,())) _ (fun _ x (_:Unit) κ=>bif (fun x=>win x 0 99) x then κ () else oF) (fun (t:Unit)=>(some [(.one (.b (ieq (ln a0) 4)))])) (fun i hi t rec=>?_) (fun t rec=>?_) _ () (hNN hl)).trans ?_
 .simp only [zbi hi,zQ hi,zbc hi,zU hi hl,cT];exact ziv rfl
 .simp only [zbe,cF]
 rw[zgq (fun x=>win x 0 99)];refine br (fun h0=>?_) (fun h0=>?_)
 .first|rfl|(simp only [h0,zgB,zcH,cT,cF]<;>rfl)|(simp_all [Ty.cells,zgB,zcH];done)
 .first|rfl|(simp only [h0,zgB,zcH,cT,cF]<;>rfl)|(simp_all [Ty.cells,zgB,zcH];done)
theorem zQE:u4 234 zFH:=hF1 zfG zi zl zn zZH zXQ
def zgt (i:Ins):Bool:=bif (ieq i.Op 1||ieq i.Op 2||ieq i.Op 5||ieq i.Op 6) then win i.X 0 99 else (cond (ieq i.Op 3||ieq i.Op 4) (win i.X 0 15) (cond (ieq i.Op 7) (ieq i.X 0) (cond (ieq i.Op 8) (win i.X 0 11) false)))
@[simp] abbrev zGs (i:Ins):Bool:=true
@[simp] abbrev zAv (i:Ins):Bool:=zgt i
def zJC:Run:=rF1 (dT .ins) fun b=>(zGs b,[aB (zAv b)])
def zTq (N:Nat)(a0:Ins):OA:=
 let y10:=(ieq a0.Op 4);let y9:=(zL a0.X 0 99);let y8:=(aB (zO a0.X 0 99));let y7:=(ieq a0.Op 8);let y6:=(ieq a0.Op 7);let y5:=(ieq a0.Op 3);let y4:=(zL a0.X 0 11);let y3:=(zL a0.X 0 15);let y2:=(aB (ieq a0.X 0));let y1:=(aB (zO a0.X 0 11));let y0:=(aB (zO a0.X 0 15)); (cond (ieq a0.Op 1) (cond (ieq a0.Op 1) (oN y9 (some [y8])) (cond y5 (cond y5 (oN y3 (some [y0])) (cond y6 (some [y2]) (cond y7 (oN y4 (some [y1])) oF))) (cond y10 (oN y3 (some [y0])) (cond y6 (some [y2]) (cond y7 (oN y4 (some [y1])) oF))))) (cond (ieq a0.Op 2) (cond (ieq a0.Op 2) (oN y9 (some [y8])) (cond y5 (cond y5 (oN y3 (some [y0])) (cond y6 (some [y2]) (cond y7 (oN y4 (some [y1])) oF))) (cond y10 (oN y3 (some [y0])) (cond y6 (some [y2]) (cond y7 (oN y4 (some [y1])) oF))))) (cond (ieq a0.Op 5) (cond (ieq a0.Op 5) (oN y9 (some [y8])) (cond y5 (cond y5 (oN y3 (some [y0])) (cond y6 (some [y2]) (cond y7 (oN y4 (some [y1])) oF))) (cond y10 (oN y3 (some [y0])) (cond y6 (some [y2]) (cond y7 (oN y4 (some [y1])) oF))))) (cond (ieq a0.Op 6) (oN y9 (some [y8])) (cond y5 (cond y5 (oN y3 (some [y0])) (cond y6 (some [y2]) (cond y7 (oN y4 (some [y1])) oF))) (cond y10 (oN y3 (some [y0])) (cond y6 (some [y2]) (cond y7 (oN y4 (some [y1])) oF))))))))
theorem z0G (a0:Ins)(hc:zGs a0=true):∃N,zTq N a0=some [aB (zAv a0)]:=by
 refine ⟨0,?_⟩;unfold zTq oN
 conv=>zeta
 refine br (fun _=>br (fun _=>must rfl ?_) (fun _=>br (fun _=>br (fun _=>must rfl ?_) (fun _=>br (fun _=>?_) (fun _=>br (fun _=>must rfl ?_) (fun _=>?_)))) (fun _=>br (fun _=>must rfl ?_) (fun _=>br (fun _=>?_) (fun _=>br (fun _=>must rfl ?_) (fun _=>?_)))))) (fun _=>br (fun _=>br (fun _=>must rfl ?_) (fun _=>br (fun _=>br (fun _=>must rfl ?_) (fun _=>br (fun _=>?_) (fun _=>br (fun _=>must rfl ?_) (fun _=>?_)))) (fun _=>br (fun _=>must rfl ?_) (fun _=>br (fun _=>?_) (fun _=>br (fun _=>must rfl ?_) (fun _=>?_)))))) (fun _=>br (fun _=>br (fun _=>must rfl ?_) (fun _=>br (fun _=>br (fun _=>must rfl ?_) (fun _=>br (fun _=>?_) (fun _=>br (fun _=>must rfl ?_) (fun _=>?_)))) (fun _=>br (fun _=>must rfl ?_) (fun _=>br (fun _=>?_) (fun _=>br (fun _=>must rfl ?_) (fun _=>?_)))))) (fun _=>br (fun _=>must rfl ?_) (fun _=>br (fun _=>br (fun _=>must rfl ?_) (fun _=>br (fun _=>?_) (fun _=>br (fun _=>must rfl ?_) (fun _=>?_)))) (fun _=>br (fun _=>must rfl ?_) (fun _=>br (fun _=>?_) (fun _=>br (fun _=>must rfl ?_) (fun _=>?_))))))))
 all_goals first|rfl|(simp only [*,zAv,zgt,cT,cF]<;>rfl)|simp_all[Ty.cells,zAv,zgt]
theorem zUH:u4 331 zJC:=kF1 zfG zi zl zn (zk []) z0G
@[simp] abbrev zE9 (i:Ins):Bool:=true
@[simp] abbrev zzv (i:Ins):Bool:=zgt i
def zJq:Run:=rF1 (dT .ins) fun b=>(zE9 b,[aB (zzv b)])
def zTe (N:Nat)(a0:Ins):OA:=
 let y10:=(ieq a0.Op 4);let y9:=(zbk a0.X 0 99);let y8:=(aB (zbr a0.X 0 99));let y7:=(ieq a0.Op 8);let y6:=(ieq a0.Op 7);let y5:=(ieq a0.Op 3);let y4:=(zbk a0.X 0 11);let y3:=(zbk a0.X 0 15);let y2:=(aB (ieq a0.X 0));let y1:=(aB (zbr a0.X 0 11));let y0:=(aB (zbr a0.X 0 15)); (cond (ieq a0.Op 1) (cond (ieq a0.Op 1) (oN y9 (some [y8])) (cond y5 (cond y5 (oN y3 (some [y0])) (cond y6 (some [y2]) (cond y7 (oN y4 (some [y1])) oF))) (cond y10 (oN y3 (some [y0])) (cond y6 (some [y2]) (cond y7 (oN y4 (some [y1])) oF))))) (cond (ieq a0.Op 2) (cond (ieq a0.Op 2) (oN y9 (some [y8])) (cond y5 (cond y5 (oN y3 (some [y0])) (cond y6 (some [y2]) (cond y7 (oN y4 (some [y1])) oF))) (cond y10 (oN y3 (some [y0])) (cond y6 (some [y2]) (cond y7 (oN y4 (some [y1])) oF))))) (cond (ieq a0.Op 5) (cond (ieq a0.Op 5) (oN y9 (some [y8])) (cond y5 (cond y5 (oN y3 (some [y0])) (cond y6 (some [y2]) (cond y7 (oN y4 (some [y1])) oF))) (cond y10 (oN y3 (some [y0])) (cond y6 (some [y2]) (cond y7 (oN y4 (some [y1])) oF))))) (cond (ieq a0.Op 6) (oN y9 (some [y8])) (cond y5 (cond y5 (oN y3 (some [y0])) (cond y6 (some [y2]) (cond y7 (oN y4 (some [y1])) oF))) (cond y10 (oN y3 (some [y0])) (cond y6 (some [y2]) (cond y7 (oN y4 (some [y1])) oF))))))))
theorem z0t (a0:Ins)(hc:zE9 a0=true):∃N,zTe N a0=some [aB (zzv a0)]:=by
 refine ⟨0,?_⟩;unfold zTe oN
 conv=>zeta
 refine br (fun _=>br (fun _=>must rfl ?_) (fun _=>br (fun _=>br (fun _=>must rfl ?_) (fun _=>br (fun _=>?_) (fun _=>br (fun _=>must rfl ?_) (fun _=>?_)))) (fun _=>br (fun _=>must rfl ?_) (fun _=>br (fun _=>?_) (fun _=>br (fun _=>must rfl ?_) (fun _=>?_)))))) (fun _=>br (fun _=>br (fun _=>must rfl ?_) (fun _=>br (fun _=>br (fun _=>must rfl ?_) (fun _=>br (fun _=>?_) (fun _=>br (fun _=>must rfl ?_) (fun _=>?_)))) (fun _=>br (fun _=>must rfl ?_) (fun _=>br (fun _=>?_) (fun _=>br (fun _=>must rfl ?_) (fun _=>?_)))))) (fun _=>br (fun _=>br (fun _=>must rfl ?_) (fun _=>br (fun _=>br (fun _=>must rfl ?_) (fun _=>br (fun _=>?_) (fun _=>br (fun _=>must rfl ?_) (fun _=>?_)))) (fun _=>br (fun _=>must rfl ?_) (fun _=>br (fun _=>?_) (fun _=>br (fun _=>must rfl ?_) (fun _=>?_)))))) (fun _=>br (fun _=>must rfl ?_) (fun _=>br (fun _=>br (fun _=>must rfl ?_) (fun _=>br (fun _=>?_) (fun _=>br (fun _=>must rfl ?_) (fun _=>?_)))) (fun _=>br (fun _=>must rfl ?_) (fun _=>br (fun _=>?_) (fun _=>br (fun _=>must rfl ?_) (fun _=>?_))))))))
 all_goals first|rfl|(simp only [*,zzv,zgt,cT,cF]<;>rfl)|simp_all[Ty.cells,zzv,zgt]
theorem zUu:u4 321 zJq:=kF1 zfG zi zl zn (zk []) z0t
def zsA (e:GExit):Bool:=bif (ieq e.Kind 0||ieq e.Kind 4) then (ieq e.Page 0&&(!e.Write&&ieq e.N 0)) else (cond (ieq e.Kind 1) (win e.Page 0 3&&ieq e.N 0) (cond (ieq e.Kind 2||ieq e.Kind 3) (win e.N 0 99&&(ieq e.Page 0 && !e.Write)) false))
@[simp] theorem zbds (x:Bool):zjL x false = !x:=by cases x<;>rfl
attribute [simp] zdQ
@[simp] abbrev zBs (e:GExit):Bool:=true
@[simp] abbrev zwh (e:GExit):Bool:=zsA e
def zFZ:Run:=rF1 dE fun b=>(zBs b,[aB (zwh b)])
def zME (N:Nat)(a0:GExit):OA:=
 let y5:=(zO a0.N 0 99);let y4:=(zL a0.N 0 99);let y3:=(ieq a0.Kind 2);let y2:=(ieq a0.Page 0);let y1:=(aB (nB a0.Write));let y0:=(aB (cond (ieq a0.Kind a0.Kind) (cond y2 (cond (zjL a0.Write false) (ieq a0.N 0) false) false) false)); (cond (ieq a0.Kind 0) (cond (ieq a0.Kind 0) (some [y0]) (cond (ieq a0.Kind 1) (oN (zL a0.Page 0 3) (cond (zO a0.Page 0 3) (some [(aB (ieq a0.N 0))]) oF)) (cond y3 (cond y3 (oN y4 (cond y5 (cond y2 (some [y1]) oF) oF)) oF) (cond (ieq a0.Kind 3) (oN y4 (cond y5 (cond y2 (some [y1]) oF) oF)) oF)))) (cond (ieq a0.Kind 4) (some [y0]) (cond (ieq a0.Kind 1) (oN (zL a0.Page 0 3) (cond (zO a0.Page 0 3) (some [(aB (ieq a0.N 0))]) oF)) (cond y3 (cond y3 (oN y4 (cond y5 (cond y2 (some [y1]) oF) oF)) oF) (cond (ieq a0.Kind 3) (oN y4 (cond y5 (cond y2 (some [y1]) oF) oF)) oF)))))
theorem zX8 (a0:GExit)(hc:zBs a0=true):∃N,zME N a0=some [aB (zwh a0)]:=by
 refine ⟨0,?_⟩;unfold zME oN nB
 conv=>zeta
 refine br (fun _=>br (fun _=>?_) (fun _=>br (fun _=>must rfl (br (fun _=>?_) (fun _=>?_))) (fun _=>br (fun _=>br (fun _=>must rfl (br (fun _=>br (fun _=>?_) (fun _=>?_)) (fun _=>?_))) (fun _=>?_)) (fun _=>br (fun _=>must rfl (br (fun _=>br (fun _=>?_) (fun _=>?_)) (fun _=>?_))) (fun _=>?_))))) (fun _=>br (fun _=>?_) (fun _=>br (fun _=>must rfl (br (fun _=>?_) (fun _=>?_))) (fun _=>br (fun _=>br (fun _=>must rfl (br (fun _=>br (fun _=>?_) (fun _=>?_)) (fun _=>?_))) (fun _=>?_)) (fun _=>br (fun _=>must rfl (br (fun _=>br (fun _=>?_) (fun _=>?_)) (fun _=>?_))) (fun _=>?_)))))
 all_goals first|rfl|(simp only [*,zwh,zsA,cT,cF]<;>rfl)|simp_all[Ty.cells,zwh,zsA]
theorem zQW:u4 329 zFZ:=kF1 zfG zi zl zn (zk []) zX8
@[simp] abbrev zA3 (e:GExit):Bool:=true
@[simp] abbrev zvC (e:GExit):Bool:=zsA e
def zFv:Run:=rF1 dE fun b=>(zA3 b,[aB (zvC b)])
def zMb (N:Nat)(a0:GExit):OA:=
 let y5:=(zbr a0.N 0 99);let y4:=(zbk a0.N 0 99);let y3:=(ieq a0.Kind 2);let y2:=(aB (ieq a0.N 0));let y1:=(ieq a0.Page 0);let y0:=(aB (nB a0.Write)); (cond (ieq a0.Kind 0) (cond (ieq a0.Kind 0) (cond y1 (cond (nB a0.Write) (some [y2]) oF) oF) (cond (ieq a0.Kind 1) (oN (zbk a0.Page 0 3) (cond (zbr a0.Page 0 3) (some [y2]) oF)) (cond y3 (cond y3 (oN y4 (cond y5 (cond y1 (some [y0]) oF) oF)) oF) (cond (ieq a0.Kind 3) (oN y4 (cond y5 (cond y1 (some [y0]) oF) oF)) oF)))) (cond (ieq a0.Kind 4) (cond y1 (cond (nB a0.Write) (some [y2]) oF) oF) (cond (ieq a0.Kind 1) (oN (zbk a0.Page 0 3) (cond (zbr a0.Page 0 3) (some [y2]) oF)) (cond y3 (cond y3 (oN y4 (cond y5 (cond y1 (some [y0]) oF) oF)) oF) (cond (ieq a0.Kind 3) (oN y4 (cond y5 (cond y1 (some [y0]) oF) oF)) oF)))))
theorem zXD (a0:GExit)(hc:zA3 a0=true):∃N,zMb N a0=some [aB (zvC a0)]:=by
 refine ⟨0,?_⟩;unfold zMb oN nB
 conv=>zeta
 refine br (fun _=>br (fun _=>br (fun _=>brN (fun _=>?_) (fun _=>?_)) (fun _=>?_)) (fun _=>br (fun _=>must rfl (br (fun _=>?_) (fun _=>?_))) (fun _=>br (fun _=>br (fun _=>must rfl (br (fun _=>br (fun _=>?_) (fun _=>?_)) (fun _=>?_))) (fun _=>?_)) (fun _=>br (fun _=>must rfl (br (fun _=>br (fun _=>?_) (fun _=>?_)) (fun _=>?_))) (fun _=>?_))))) (fun _=>br (fun _=>br (fun _=>brN (fun _=>?_) (fun _=>?_)) (fun _=>?_)) (fun _=>br (fun _=>must rfl (br (fun _=>?_) (fun _=>?_))) (fun _=>br (fun _=>br (fun _=>must rfl (br (fun _=>br (fun _=>?_) (fun _=>?_)) (fun _=>?_))) (fun _=>?_)) (fun _=>br (fun _=>must rfl (br (fun _=>br (fun _=>?_) (fun _=>?_)) (fun _=>?_))) (fun _=>?_)))))
 all_goals first|rfl|(simp only [*,zvC,zsA,cT,cF]<;>rfl)|simp_all[Ty.cells,zvC,zsA]
theorem zQs:u4 296 zFv:=kF1 zfG zi zl zn (zk []) zXD
def zlc (c:Ctl):List Int:=(cond (win c.Traps 0 3) [] [1])++((cond (win c.Post 0 255) [] [2])++((cond (ine c.Post 0) (cond c.Open [] [3]) [])++(cond (ieq c.Traps 2) (cond (ine c.Post 0) [4] []) [])))
@[simp] theorem zbdp {α:Type}(x:α)(l m:List α):ap (x :: l) m=x :: ap l m:=rfl
@[simp] abbrev ztP (c:Ctl):Bool:=true
@[simp] abbrev zns (c:Ctl):List Int:=zlc c
def zxw:Run:=rF1 dC fun b=>(ztP b,[aS .int (zns b)])
def zCa (N:Nat)(a0:Ctl):OA:=
 let y10:=(aS .int []);let y8:=(ap (ap [] [2]) [4]);let y7:=(ap (ap [] [1]) [4]);let y6:=(aS .int (ap [] [2]));let y5:=(aS .int (ap [] [1]));let y4:=(ap (ap [] [2]) [3]);let y3:=(ap (ap [] [1]) [3]);let y2:=(ieq a0.Traps 2);let y1:=(ine a0.Post 0);let y0:=(ap (ap [] [1]) [2]);let y9:=(aS .int y0); (oN (zL a0.Traps 0 3) (cond (nB (zO a0.Traps 0 3)) (oN (few (ln (ap [] [1]))) (oN (zL a0.Post 0 255) (cond (nB (zO a0.Post 0 255)) (oN (few (ln y0)) (cond y1 (cond (nB a0.Open) (oN (few (ln (ap y0 [3]))) (cond y2 (cond y1 (oN (few (ln (ap (ap y0 [3]) [4]))) (some [(aS .int (ap (ap y0 [3]) [4]))])) (some [(aS .int (ap y0 [3]))])) (some [(aS .int (ap y0 [3]))]))) (cond y2 (cond y1 (oN (few (ln (ap y0 [4]))) (some [(aS .int (ap y0 [4]))])) (some [y9])) (some [y9]))) (cond y2 (cond y1 (oN (few (ln (ap y0 [4]))) (some [(aS .int (ap y0 [4]))])) (some [y9])) (some [y9])))) (cond y1 (cond (nB a0.Open) (oN (few (ln y3)) (cond y2 (cond y1 (oN (few (ln (ap y3 [4]))) (some [(aS .int (ap y3 [4]))])) (some [(aS .int y3)])) (some [(aS .int y3)]))) (cond y2 (cond y1 (oN (few (ln y7)) (some [(aS .int y7)])) (some [y5])) (some [y5]))) (cond y2 (cond y1 (oN (few (ln y7)) (some [(aS .int y7)])) (some [y5])) (some [y5])))))) (oN (zL a0.Post 0 255) (cond (nB (zO a0.Post 0 255)) (oN (few (ln (ap [] [2]))) (cond y1 (cond (nB a0.Open) (oN (few (ln y4)) (cond y2 (cond y1 (oN (few (ln (ap y4 [4]))) (some [(aS .int (ap y4 [4]))])) (some [(aS .int y4)])) (some [(aS .int y4)]))) (cond y2 (cond y1 (oN (few (ln y8)) (some [(aS .int y8)])) (some [y6])) (some [y6]))) (cond y2 (cond y1 (oN (few (ln y8)) (some [(aS .int y8)])) (some [y6])) (some [y6])))) (cond y1 (cond (nB a0.Open) (oN (few (ln (ap [] [3]))) (cond y2 (cond y1 (oN (few (ln (ap (ap [] [3]) [4]))) (some [(aS .int (ap (ap [] [3]) [4]))])) (some [(aS .int (ap [] [3]))])) (some [(aS .int (ap [] [3]))]))) (cond y2 (cond y1 (oN (few (ln (ap [] [4]))) (some [(aS .int (ap [] [4]))])) (some [y10])) (some [y10]))) (cond y2 (cond y1 (oN (few (ln (ap [] [4]))) (some [(aS .int (ap [] [4]))])) (some [y10])) (some [y10])))))))
theorem zOS (a0:Ctl)(hc:ztP a0=true):∃N,zCa N a0=some [aS .int (zns a0)]:=by
 refine ⟨0,?_⟩;unfold zCa oN nB
 conv=>zeta
 refine must rfl (brN (fun _=>mu (must rfl (brN (fun _=>mu (br (fun _=>brN (fun _=>mu (br (fun _=>br (fun _=>mu ?_) (fun _=>?_)) (fun _=>?_))) (fun _=>br (fun _=>br (fun _=>mu ?_) (fun _=>?_)) (fun _=>?_))) (fun _=>br (fun _=>br (fun _=>mu ?_) (fun _=>?_)) (fun _=>?_)))) (fun _=>br (fun _=>brN (fun _=>mu (br (fun _=>br (fun _=>mu ?_) (fun _=>?_)) (fun _=>?_))) (fun _=>br (fun _=>br (fun _=>mu ?_) (fun _=>?_)) (fun _=>?_))) (fun _=>br (fun _=>br (fun _=>mu ?_) (fun _=>?_)) (fun _=>?_)))))) (fun _=>must rfl (brN (fun _=>mu (br (fun _=>brN (fun _=>mu (br (fun _=>br (fun _=>mu ?_) (fun _=>?_)) (fun _=>?_))) (fun _=>br (fun _=>br (fun _=>mu ?_) (fun _=>?_)) (fun _=>?_))) (fun _=>br (fun _=>br (fun _=>mu ?_) (fun _=>?_)) (fun _=>?_)))) (fun _=>br (fun _=>brN (fun _=>mu (br (fun _=>br (fun _=>mu ?_) (fun _=>?_)) (fun _=>?_))) (fun _=>br (fun _=>br (fun _=>mu ?_) (fun _=>?_)) (fun _=>?_))) (fun _=>br (fun _=>br (fun _=>mu ?_) (fun _=>?_)) (fun _=>?_))))))
 all_goals first|rfl|(simp only [*,zns,zlc,cT,cF]<;>rfl)|simp_all[Ty.cells,zns,zlc]
theorem zHt:u4 313 zxw:=kF1 zfG zi zl zn (zk []) zOS
@[simp] abbrev ztn (c:Ctl):Bool:=true
@[simp] abbrev zm7 (c:Ctl):List Int:=zlc c
def zxf:Run:=rF1 dC fun b=>(ztn b,[aS .int (zm7 b)])
def zBS (N:Nat)(a0:Ctl):OA:=
 let y10:=(aS .int []);let y8:=(ap (ap [] [2]) [4]);let y7:=(ap (ap [] [1]) [4]);let y6:=(aS .int (ap [] [2]));let y5:=(aS .int (ap [] [1]));let y4:=(ap (ap [] [2]) [3]);let y3:=(ap (ap [] [1]) [3]);let y2:=(ieq a0.Traps 2);let y1:=(ine a0.Post 0);let y0:=(ap (ap [] [1]) [2]);let y9:=(aS .int y0); (oN (zbk a0.Traps 0 3) (cond (nB (zbr a0.Traps 0 3)) (oN (few (ln (ap [] [1]))) (oN (zbk a0.Post 0 255) (cond (nB (zbr a0.Post 0 255)) (oN (few (ln y0)) (cond y1 (cond (nB a0.Open) (oN (few (ln (ap y0 [3]))) (cond y2 (cond y1 (oN (few (ln (ap (ap y0 [3]) [4]))) (some [(aS .int (ap (ap y0 [3]) [4]))])) (some [(aS .int (ap y0 [3]))])) (some [(aS .int (ap y0 [3]))]))) (cond y2 (cond y1 (oN (few (ln (ap y0 [4]))) (some [(aS .int (ap y0 [4]))])) (some [y9])) (some [y9]))) (cond y2 (cond y1 (oN (few (ln (ap y0 [4]))) (some [(aS .int (ap y0 [4]))])) (some [y9])) (some [y9])))) (cond y1 (cond (nB a0.Open) (oN (few (ln y3)) (cond y2 (cond y1 (oN (few (ln (ap y3 [4]))) (some [(aS .int (ap y3 [4]))])) (some [(aS .int y3)])) (some [(aS .int y3)]))) (cond y2 (cond y1 (oN (few (ln y7)) (some [(aS .int y7)])) (some [y5])) (some [y5]))) (cond y2 (cond y1 (oN (few (ln y7)) (some [(aS .int y7)])) (some [y5])) (some [y5])))))) (oN (zbk a0.Post 0 255) (cond (nB (zbr a0.Post 0 255)) (oN (few (ln (ap [] [2]))) (cond y1 (cond (nB a0.Open) (oN (few (ln y4)) (cond y2 (cond y1 (oN (few (ln (ap y4 [4]))) (some [(aS .int (ap y4 [4]))])) (some [(aS .int y4)])) (some [(aS .int y4)]))) (cond y2 (cond y1 (oN (few (ln y8)) (some [(aS .int y8)])) (some [y6])) (some [y6]))) (cond y2 (cond y1 (oN (few (ln y8)) (some [(aS .int y8)])) (some [y6])) (some [y6])))) (cond y1 (cond (nB a0.Open) (oN (few (ln (ap [] [3]))) (cond y2 (cond y1 (oN (few (ln (ap (ap [] [3]) [4]))) (some [(aS .int (ap (ap [] [3]) [4]))])) (some [(aS .int (ap [] [3]))])) (some [(aS .int (ap [] [3]))]))) (cond y2 (cond y1 (oN (few (ln (ap [] [4]))) (some [(aS .int (ap [] [4]))])) (some [y10])) (some [y10]))) (cond y2 (cond y1 (oN (few (ln (ap [] [4]))) (some [(aS .int (ap [] [4]))])) (some [y10])) (some [y10])))))))
theorem zOz (a0:Ctl)(hc:ztn a0=true):∃N,zBS N a0=some [aS .int (zm7 a0)]:=by
 refine ⟨0,?_⟩;unfold zBS oN nB
 conv=>zeta
 refine must rfl (brN (fun _=>mu (must rfl (brN (fun _=>mu (br (fun _=>brN (fun _=>mu (br (fun _=>br (fun _=>mu ?_) (fun _=>?_)) (fun _=>?_))) (fun _=>br (fun _=>br (fun _=>mu ?_) (fun _=>?_)) (fun _=>?_))) (fun _=>br (fun _=>br (fun _=>mu ?_) (fun _=>?_)) (fun _=>?_)))) (fun _=>br (fun _=>brN (fun _=>mu (br (fun _=>br (fun _=>mu ?_) (fun _=>?_)) (fun _=>?_))) (fun _=>br (fun _=>br (fun _=>mu ?_) (fun _=>?_)) (fun _=>?_))) (fun _=>br (fun _=>br (fun _=>mu ?_) (fun _=>?_)) (fun _=>?_)))))) (fun _=>must rfl (brN (fun _=>mu (br (fun _=>brN (fun _=>mu (br (fun _=>br (fun _=>mu ?_) (fun _=>?_)) (fun _=>?_))) (fun _=>br (fun _=>br (fun _=>mu ?_) (fun _=>?_)) (fun _=>?_))) (fun _=>br (fun _=>br (fun _=>mu ?_) (fun _=>?_)) (fun _=>?_)))) (fun _=>br (fun _=>brN (fun _=>mu (br (fun _=>br (fun _=>mu ?_) (fun _=>?_)) (fun _=>?_))) (fun _=>br (fun _=>br (fun _=>mu ?_) (fun _=>?_)) (fun _=>?_))) (fun _=>br (fun _=>br (fun _=>mu ?_) (fun _=>?_)) (fun _=>?_))))))
 all_goals first|rfl|(simp only [*,zm7,zlc,cT,cF]<;>rfl)|simp_all[Ty.cells,zm7,zlc]
theorem zHc:u4 244 zxf:=kF1 zfG zi zl zn (zk []) zOz
def len8tab:ByteArray:=⟨⟨[0,1,2,2,3,3,3,3,4,4,4,4,4,4,4,4,5,5,5,5,5,5,5,5,5,5,5,5,5,5,5,5,6,6,6,6,6,6,6,6,6,6,6,6,6,6,6,6,6,6,6,6,6,6,6,6,6,6,6,6,6,6,6,6,7,7,7,7,7,7,7,7,7,7,7,7,7,7,7,7,7,7,7,7,7,7,7,7,7,7,7,7,7,7,7,7,7,7,7,7,7,7,7,7,7,7,7,7,7,7,7,7,7,7,7,7,7,7,7,7,7,7,7,7,7,7,7,7,8,8,8,8,8,8,8,8,8,8,8,8,8,8,8,8,8,8,8,8,8,8,8,8,8,8,8,8,8,8,8,8,8,8,8,8,8,8,8,8,8,8,8,8,8,8,8,8,8,8,8,8,8,8,8,8,8,8,8,8,8,8,8,8,8,8,8,8,8,8,8,8,8,8,8,8,8,8,8,8,8,8,8,8,8,8,8,8,8,8,8,8,8,8,8,8,8,8,8,8,8,8,8,8,8,8,8,8,8,8,8,8,8,8,8,8,8,8,8,8,8,8,8,8,8,8,8,8]⟩⟩
def zgH (p n:Int):Bool:=ieq (wand .i64 (zjy .i64 p n) 1) 1
def scan (p:Int):Int:=bif zgH p 7 then 7 else (cond (zgH p 6) 6 (cond (zgH p 5) 5 (cond (zgH p 4) 4 (cond (zgH p 3) 3 (cond (zgH p 2) 2 (cond (zgH p 1) 1 (cond (zgH p 0) 0 (-1))))))))
theorem z8p:∀n:Fin 256,zD .i64 0 (wcv .i64 (byteAt len8tab (wcv .u8 (n.val:Int))))=scan (n.val:Int)+1:=by decide +kernel
theorem zZk:∀n:Fin 256,-1<=scan (n.val:Int)/\scan (n.val:Int)<=7/\(0<=scan (n.val:Int)->wsub .i64 (n.val:Int) (zmY .i64 1 (scan (n.val:Int)))=zBO .i64 (n.val:Int) (zmY .i64 1 (scan (n.val:Int)))):=by decide +kernel
theorem zFm {P:Int->Prop}(h:∀n:Fin 256,P (n.val:Int)){x:Int}(h0:0<=x)(h1:x<=255):P x:=by
 have:=h ⟨x.toNat,by omega⟩
 have e:((x.toNat:Nat):Int)=x:=by omega
 simpa [e] using this
def zmZ (x:Int):Bool:=pc (0<=x/\x<=255)
def ziu (x:Int):Int:=scan x+1
def zhJ:List AV->Option (Bool×List AV)
 | [.one (.i .u64 b)]=>some ((zmZ b),[aI (ziu b)])
 | _=>none
def zmP (N:Nat)(a0:Int):OA:=
 let y2:=(zjy .u64 a0 16);let y0:=(zjy .u64 a0 32);let y1:=(zjy .u64 y0 16); (cond (ige a0 4294967296) (oN (ile 0 32) (cond (ige y0 65536) (oN (ile 0 16) (cond (ige y1 256) (oN (ile 0 8) (oN (inb (wcv .u8 (zjy .u64 y1 8)) 256) (some [(aI (zD .i64 (zD .i64 (zD .i64 32 16) 8) (wcv .i64 (byteAt len8tab (wcv .u8 (zjy .u64 y1 8))))))]))) (oN (inb (wcv .u8 y1) 256) (some [(aI (zD .i64 (zD .i64 32 16) (wcv .i64 (byteAt len8tab (wcv .u8 y1)))))])))) (cond (ige y0 256) (oN (ile 0 8) (oN (inb (wcv .u8 (zjy .u64 y0 8)) 256) (some [(aI (zD .i64 (zD .i64 32 8) (wcv .i64 (byteAt len8tab (wcv .u8 (zjy .u64 y0 8))))))]))) (oN (inb (wcv .u8 y0) 256) (some [(aI (zD .i64 32 (wcv .i64 (byteAt len8tab (wcv .u8 y0)))))]))))) (cond (ige a0 65536) (oN (ile 0 16) (cond (ige y2 256) (oN (ile 0 8) (oN (inb (wcv .u8 (zjy .u64 y2 8)) 256) (some [(aI (zD .i64 (zD .i64 (zD .i64 0 16) 8) (wcv .i64 (byteAt len8tab (wcv .u8 (zjy .u64 y2 8))))))]))) (oN (inb (wcv .u8 y2) 256) (some [(aI (zD .i64 (zD .i64 0 16) (wcv .i64 (byteAt len8tab (wcv .u8 y2)))))])))) (cond (ige a0 256) (oN (ile 0 8) (oN (inb (wcv .u8 (zjy .u64 a0 8)) 256) (some [(aI (zD .i64 (zD .i64 0 8) (wcv .i64 (byteAt len8tab (wcv .u8 (zjy .u64 a0 8))))))]))) (oN (inb (wcv .u8 a0) 256) (some [(aI (zD .i64 0 (wcv .i64 (byteAt len8tab (wcv .u8 a0)))))])))))
theorem zFl (N:Nat)(a0:Int):evalFn (cQ z2M zpD zLK zj6) (zk []) N 12 297 [.one (.i .u64 a0)]=zmP N a0:=by kernel_rfl
theorem zDA (a0:Int)(hb:zbC big [.one (.i .u64 a0)])(hc:zmZ a0=true):∃N,zmP N a0=some [aI (ziu a0)]:=by
 obtain ⟨h0,h1⟩:=zy.1 hc;refine ⟨0,?_⟩;unfold zmP oN
 conv=>zeta
 refine zbN (qH (by omega)) ?_
 refine zbN (qH (by omega)) ?_
 refine zbN (qH (by omega)) ?_
 have e:inb (wcv .u8 a0) 256=true:=zFm (P:=fun x=>inb (wcv .u8 x) 256=true) (by decide +kernel) h0 h1
 refine must e ?_;have e2:=zFm (P:=fun x=>zD .i64 0 (wcv .i64 (byteAt len8tab (wcv .u8 x)))=scan x+1) z8p h0 h1;rw[e2];rfl
theorem zov:u4 297 zhJ:=zXh zfG zi zl zn (zdT (by kernel_rfl)) fun avs rs hb h=>by
 unfold zhJ at h;split at h
 .obtain ⟨hc,rfl⟩:=zdO h;exact (zDA _ hb hc).elim fun N e=>⟨zk [],N,(zFl N _).trans e⟩
 .cases h
def z9y:zV:=[(225,zFX),(327,zC1),(235,zCD),(325,zF9),(234,zFH),(331,zJC),(321,zJq),(329,zFZ),(296,zFv),(313,zxw),(244,zxf),(297,zhJ)]++z2M
theorem zfH:zJ z9y:=zf zQU (zf zN8 (zf zNK (zf zQ6 (zf zQE (zf zUH (zf zUu (zf zQW (zf zQs (zf zHt (zf zHc (zf zov zfG)))))))))))
def ziX (m:List (List Int))(n:Int):Bool:=bif m.all zcH then ieq (ln m) n else false
@[simp] abbrev zs5 (m:List (List Int))(n:Int):Bool:=true
@[simp] abbrev zmF (m:List (List Int))(n:Int):Bool:=ziX m n
def zJD:Run:=rF2 (dS (.sl .int)) dI fun b c=>(zs5 b c,[aB (zmF b c)])
def zTr (N:Nat)(a0:lM)(a1:Int):OA:=
 (iter (σ:=(Int×(Int×(lM×Unit)))) N (fun r3 s4=>let y0:=s4.2.2.1; (cond (ilt s4.2.1 (ln y0)) (oN (inb s4.2.1 (ln y0)) (oN (zf3 (ix y0 s4.2.1 [])) (cond (nB (zfk (ix y0 s4.2.1 []))) oF (r3 (s4.1,((zD .i64 s4.2.1 1),(y0,()))))))) (some [(aB (ieq (ln y0) s4.1))]))) (a1,(0,(a0,()))))
def z1B:FuncId->Nat->Option Tmpl:=zk [(305,0,{ n:=22,tm:=[(0,.sl 0 []),(1,ti),(5,ti)],lo:=[],ro:=[(0,(.sl .int),false)] })]
theorem z0H (a0:List (List Int))(a1:Int)(hb:zbC big [aS (.sl .int) a0,aI a1])(hc:zs5 a0 a1=true):∃N,zTr N a0 a1=some [aB (zmF a0 a1)]:=by
 have hl:(_:List _).length<=big:=((zcL hb).1 _ (qF.2 rfl)).len;refine zbV fun N hNN=>?_;unfold zTr oN nB
 conv=>zeta
 refine (zbb a0 (fun i (t:Unit)=>(a1,(i:Int),a0,())) _ (fun _ x (_:Unit) κ=>bif (zcH) x then κ () else oF) (fun (t:Unit)=>(some [(.one (.b (ieq (ln a0) a1)))])) (fun i hi t rec=>?_) (fun t rec=>?_) _ () (hNN hl)).trans ?_
 .simp only [zbi hi,zQ hi,zbc hi,zU hi hl,cT];exact ziv rfl
 .simp only [zbe,cF]
 rw[zgq (zcH)];refine br (fun h0=>?_) (fun h0=>?_)
 .first|rfl|(simp only [h0,zmF,ziX,cT,cF]<;>rfl)|(simp_all [Ty.cells,zmF,ziX];done)
 .first|rfl|(simp only [h0,zmF,ziX,cT,cF]<;>rfl)|(simp_all [Ty.cells,zmF,ziX];done)
theorem zUI:u4 305 zJD:=hF2 zfH zi zl zn z1B z0H
@[simp] abbrev zsM (m:List (List Int))(n:Int):Bool:=true
@[simp] abbrev zme (m:List (List Int))(n:Int):Bool:=ziX m n
def zJr:Run:=rF2 (dS (.sl .int)) dI fun b c=>(zsM b c,[aB (zme b c)])
def zTf (N:Nat)(a0:lM)(a1:Int):OA:=
 (iter (σ:=(Int×(Int×(Int×(lM×Unit))))) N (fun r3 s4=>let y0:=s4.2.2.2.1; (cond (ilt s4.2.2.1 s4.2.1) (oN (inb s4.2.2.1 (ln y0)) (oN (zh6 (ix y0 s4.2.2.1 [])) (cond (nB (zgB (ix y0 s4.2.2.1 []))) oF (r3 (s4.1,(s4.2.1,((zD .i64 s4.2.2.1 1),(y0,())))))))) (some [(aB (ieq (ln y0) s4.1))]))) (a1,((ln a0),(0,(a0,())))))
def z1z:FuncId->Nat->Option Tmpl:=zk [(133,0,{ n:=21,tm:=[(0,.sl 0 []),(1,ti),(7,.sl 0 []),(8,ti),(9,ti)],lo:=[],ro:=[(0,(.sl .int),false)] })]
theorem z0u (a0:List (List Int))(a1:Int)(hb:zbC big [aS (.sl .int) a0,aI a1])(hc:zsM a0 a1=true):∃N,zTf N a0 a1=some [aB (zme a0 a1)]:=by
 have hl:(_:List _).length<=big:=((zcL hb).1 _ (qF.2 rfl)).len;refine zbV fun N hNN=>?_;unfold zTf oN nB
 conv=>zeta
 refine (zbb a0 (fun i (t:Unit)=>(a1,(ln a0),(i:Int),a0,())) _ (fun _ x (_:Unit) κ=>bif (zcH) x then κ () else oF) (fun (t:Unit)=>(some [(.one (.b (ieq (ln a0) a1)))])) (fun i hi t rec=>?_) (fun t rec=>?_) _ () (hNN hl)).trans ?_
 .simp only [zbi hi,zQ hi,zbc hi,zU hi hl,cT];exact ziv rfl
 .simp only [zbe,cF]
 rw[zgq (zcH)];refine br (fun h0=>?_) (fun h0=>?_)
 .first|rfl|(simp only [h0,zme,ziX,cT,cF]<;>rfl)|(simp_all [Ty.cells,zme,ziX];done)
 .first|rfl|(simp only [h0,zme,ziX,cT,cF]<;>rfl)|(simp_all [Ty.cells,zme,ziX];done)
theorem zUv:u4 133 zJr:=hF2 zfH zi zl zn z1z z0u
def zdz (p:List Ins):Bool:=bif p.all zgt then win (ln p) 1 12 else false
@[simp] abbrev zBx (p:List Ins):Bool:=true
@[simp] abbrev zoj (p:List Ins):Bool:=zdz p
def zGb:Run:=rF1 (dS .ins) fun b=>(zBx b,[aB (zoj b)])
def zMP (N:Nat)(a0:lI):OA:=
 (iter (σ:=(Int×(lI×Unit))) N (fun r2 s3=>let y0:=(ix s3.2.1 s3.1 zss); (cond (ilt s3.1 (ln s3.2.1)) (oN (inb s3.1 (ln s3.2.1)) (oN (zGs y0) (cond (nB (zAv y0)) oF (r2 ((zD .i64 s3.1 1),(s3.2.1,())))))) (oN (zL (ln s3.2.1) 1 12) (some [(aB (zO (ln s3.2.1) 1 12))])))) (0,(a0,())))
def zZS:FuncId->Nat->Option Tmpl:=zk [(328,0,{ n:=19,tm:=[(0,.sl 0 []),(3,ti)],lo:=[],ro:=[(0,.ins,false)] })]
theorem zYl (a0:List Ins)(hb:zbC big [aS .ins a0])(hc:zBx a0=true):∃N,zMP N a0=some [aB (zoj a0)]:=by
 have hl:(_:List _).length<=big:=((zcL hb).1 _ (qF.2 rfl)).len;refine zbV fun N hNN=>?_;unfold zMP oN nB
 conv=>zeta
 refine (zbb a0 (fun i (t:Unit)=>((i:Int),a0,())) _ (fun _ x (_:Unit) κ=>bif (zgt) x then κ () else oF) (fun (t:Unit)=>(cond (zL (ln a0) 1 12) (some [(.one (.b (zO (ln a0) 1 12)))]) none)) (fun i hi t rec=>?_) (fun t rec=>?_) _ () (hNN hl)).trans ?_
 .simp only [zbi hi,zQ hi,zbc hi,zU hi hl,cT];exact ziv rfl
 .simp only [zbe,cF]
 rw[zgq (zgt)];refine br (fun h0=>?_) (fun h0=>?_)
 .refine must rfl ?_
  first|rfl|(simp only [h0,zoj,zdz,cT,cF]<;>rfl)|(simp_all [Ty.cells,zoj,zdz];done)
 .first|rfl|(simp only [h0,zoj,zdz,cT,cF]<;>rfl)|(simp_all [Ty.cells,zoj,zdz];done)
theorem zQ8:u4 328 zGb:=hF1 zfH zi zl zn zZS zYl
@[simp] abbrev zA9 (p:List Ins):Bool:=true
@[simp] abbrev zn4 (p:List Ins):Bool:=zdz p
def zFJ:Run:=rF1 (dS .ins) fun b=>(zA9 b,[aB (zn4 b)])
def zMo (N:Nat)(a0:lI):OA:=
 (iter (σ:=(Int×(Int×(lI×Unit)))) N (fun r2 s3=>let y0:=(ix s3.2.2.1 s3.2.1 zss); (cond (ilt s3.2.1 s3.1) (oN (inb s3.2.1 (ln s3.2.2.1)) (oN (zE9 y0) (cond (nB (zzv y0)) oF (r2 (s3.1,((zD .i64 s3.2.1 1),(s3.2.2.1,()))))))) (oN (zbk (ln s3.2.2.1) 1 12) (some [(aB (zbr (ln s3.2.2.1) 1 12))])))) ((ln a0),(0,(a0,()))))
def zZI:FuncId->Nat->Option Tmpl:=zk [(295,0,{ n:=18,tm:=[(0,.sl 0 []),(5,.sl 0 []),(6,ti),(7,ti)],lo:=[],ro:=[(0,.ins,false)] })]
theorem zXS (a0:List Ins)(hb:zbC big [aS .ins a0])(hc:zA9 a0=true):∃N,zMo N a0=some [aB (zn4 a0)]:=by
 have hl:(_:List _).length<=big:=((zcL hb).1 _ (qF.2 rfl)).len;refine zbV fun N hNN=>?_;unfold zMo oN nB
 conv=>zeta
 refine (zbb a0 (fun i (t:Unit)=>((ln a0),(i:Int),a0,())) _ (fun _ x (_:Unit) κ=>bif (zgt) x then κ () else oF) (fun (t:Unit)=>(cond (zbk (ln a0) 1 12) (some [(.one (.b (zbr (ln a0) 1 12)))]) none)) (fun i hi t rec=>?_) (fun t rec=>?_) _ () (hNN hl)).trans ?_
 .simp only [zbi hi,zQ hi,zbc hi,zU hi hl,cT];exact ziv rfl
 .simp only [zbe,cF]
 rw[zgq (zgt)];refine br (fun h0=>?_) (fun h0=>?_)
 .refine must rfl ?_
  first|rfl|(simp only [h0,zn4,zdz,cT,cF]<;>rfl)|(simp_all [Ty.cells,zn4,zdz];done)
 .first|rfl|(simp only [h0,zn4,zdz,cT,cF]<;>rfl)|(simp_all [Ty.cells,zn4,zdz];done)
theorem zQG:u4 295 zFJ:=hF1 zfH zi zl zn zZI zXS
def zjM (c:Ctl):Bool:=ieq (ln (zlc c)) 0
@[simp] abbrev zs3 (c:Ctl):Bool:=true
@[simp] abbrev zre (c:Ctl):Bool:=zjM c
def zJz:Run:=rF1 dC fun b=>(zs3 b,[aB (zre b)])
def zTn (N:Nat)(a0:Ctl):OA:=
 (oN (ztP a0) (some [(aB (ieq (ln (zns a0)) 0))]))
theorem z0D (a0:Ctl)(hc:zs3 a0=true):∃N,zTn N a0=some [aB (zre a0)]:=by
 refine ⟨0,?_⟩;unfold zTn oN;refine must rfl ?_
 first|rfl|(simp only [*,zre,zjM,cT,cF]<;>rfl)|simp_all[Ty.cells,zre,zjM]
theorem zUE:u4 281 zJz:=kF1 zfH zi zl zn (zk []) z0D
@[simp] abbrev zsK (c:Ctl):Bool:=true
@[simp] abbrev zqH (c:Ctl):Bool:=zjM c
def zJn:Run:=rF1 dC fun b=>(zsK b,[aB (zqH b)])
def zTb (N:Nat)(a0:Ctl):OA:=
 (oN (ztn a0) (some [(aB (ieq (ln (zm7 a0)) 0))]))
theorem z0q (a0:Ctl)(hc:zsK a0=true):∃N,zTb N a0=some [aB (zqH a0)]:=by
 refine ⟨0,?_⟩;unfold zTb oN;refine must rfl ?_
 first|rfl|(simp only [*,zqH,zjM,cT,cF]<;>rfl)|simp_all[Ty.cells,zqH,zjM]
theorem zUr:u4 174 zJn:=kF1 zfH zi zl zn (zk []) z0q
def zcT (p:Int):Int:=bif zeX p then scan p else -1
theorem zS6 {x:Int}(h0:0<=x)(h1:x<=255):wcv .u64 x=x:=zFm (P:=fun x=>wcv .u64 x=x) (by decide +kernel) h0 h1
@[simp] abbrev zun (p:Int):Bool:=true
@[simp] abbrev zn5 (p:Int):Int:=zcT p
def zFP:Run:=rF1 dI fun b=>(zun b,[aI (zn5 b)])
def zMu (N:Nat)(a0:Int):OA:=
 (oN (zh7 a0) (cond (nB (ziD a0)) (some [(aI (-1))]) (oN (zmZ (wcv .u64 a0)) (some [(aI (wsub .i64 (ziu (wcv .u64 a0)) 1))]))))
theorem zXY (a0:Int)(hc:zun a0=true):∃N,zMu N a0=some [aI (zn5 a0)]:=by
 refine ⟨0,?_⟩;unfold zMu oN nB;refine must rfl ?_;cases h:zeX a0
 .refine must (by simp[h]) ?_
  simp[zcT,h]
 .obtain ⟨h0,h1⟩:=zeM.1 h;have r:=zFm (P:=fun x=>-1<=scan x/\scan x<=7/\(0<=scan x->wsub .i64 x (zmY .i64 1 (scan x))=zBO .i64 x (zmY .i64 1 (scan x)))) zZk h0 h1;refine zbN (by simp[h]) ?_
  rw[zS6 h0 h1];refine must (zN ⟨h0,h1⟩) ?_;have e:wsub .i64 (ziu a0) 1=scan a0:=by
   unfold ziu;rw[zvc (by omega) (by omega)];omega
  rw[e];simp[zcT,h]
theorem zQM:u4 238 zFP:=kF1 zfH zi zl zn (zk []) zXY
@[simp] abbrev zuE (p:Int):Bool:=true
@[simp] abbrev zok (p:Int):Int:=zcT p
def zGf:Run:=rF1 dI fun b=>(zuE b,[aI (zok b)])
def zMT (N:Nat)(a0:Int):OA:=
 (iter (σ:=(Int×(Int×Unit))) N (fun r2 s3=>(cond (ige s3.2.1 0) (oN (zfm s3.1) (cond (zfl s3.1) (oN (ile 0 (wcv .u64 s3.2.1)) (cond (ieq (wand .i64 (zjy .i64 s3.1 (wcv .u64 s3.2.1)) 1) 1) (some [(aI s3.2.1)]) (r2 (s3.1,((wsub .i64 s3.2.1 1),()))))) (some [(aI (-1))]))) (some [(aI (-1))]))) (a0,(7,())))
def zZT:FuncId->Nat->Option Tmpl:=zk [(308,0,{ n:=19,tm:=[(0,ti),(3,ti)],lo:=[],ro:=[] })]
theorem zYp (a0:Int)(hc:zuE a0=true):∃N,zMT N a0=some [aI (zok a0)]:=by
 refine ⟨10,?_⟩;unfold zMT oN;cases h:zeX a0
 .rw [zdh];refine must rfl ?_;refine must rfl ?_;refine zbN h ?_;simp[zcT,h]
 .have hs:zfl a0=true:=h;rw[zdh];refine must rfl (must rfl (must hs (must rfl (br (fun h7=>?_) (fun h7=>?_)))))
  .have e7:zgH a0 7=true:=h7;simp[zcT,h,scan,e7]
  have f7:zgH a0 7=false:=h7
  show iter 9 _ (a0,6,())=_
  rw[zdh];refine must rfl (must rfl (must hs (must rfl (br (fun h6=>?_) (fun h6=>?_)))))
  .have e6:zgH a0 6=true:=h6;simp[zcT,h,scan,e6,f7]
  have f6:zgH a0 6=false:=h6
  show iter 8 _ (a0,5,())=_
  rw[zdh];refine must rfl (must rfl (must hs (must rfl (br (fun h5=>?_) (fun h5=>?_)))))
  .have e5:zgH a0 5=true:=h5;simp[zcT,h,scan,e5,f7,f6]
  have f5:zgH a0 5=false:=h5
  show iter 7 _ (a0,4,())=_
  rw[zdh];refine must rfl (must rfl (must hs (must rfl (br (fun h4=>?_) (fun h4=>?_)))))
  .have e4:zgH a0 4=true:=h4;simp[zcT,h,scan,e4,f7,f6,f5]
  have f4:zgH a0 4=false:=h4
  show iter 6 _ (a0,3,())=_
  rw[zdh];refine must rfl (must rfl (must hs (must rfl (br (fun h3=>?_) (fun h3=>?_)))))
  .have e3:zgH a0 3=true:=h3;simp[zcT,h,scan,e3,f7,f6,f5,f4]
  have f3:zgH a0 3=false:=h3
  show iter 5 _ (a0,2,())=_
  rw[zdh];refine must rfl (must rfl (must hs (must rfl (br (fun h2=>?_) (fun h2=>?_)))))
  .have e2:zgH a0 2=true:=h2;simp[zcT,h,scan,e2,f7,f6,f5,f4,f3]
  have f2:zgH a0 2=false:=h2
  show iter 4 _ (a0,1,())=_
  rw[zdh];refine must rfl (must rfl (must hs (must rfl (br (fun h1=>?_) (fun h1=>?_)))))
  .have e1:zgH a0 1=true:=h1;simp[zcT,h,scan,e1,f7,f6,f5,f4,f3,f2]
  have f1:zgH a0 1=false:=h1
  show iter 3 _ (a0,0,())=_
  rw[zdh];refine must rfl (must rfl (must hs (must rfl (br (fun h0=>?_) (fun h0=>?_)))))
  .have e0:zgH a0 0=true:=h0;simp[zcT,h,scan,e0,f7,f6,f5,f4,f3,f2,f1]
  have f0:zgH a0 0=false:=h0
  show iter 2 _ (a0,-1,())=_
  rw[zdh];refine zbN rfl ?_;simp[zcT,h,scan,f7,f6,f5,f4,f3,f2,f1,f0]
theorem zRc:u4 308 zGf:=kF1 zfH zi zl zn zZT zYp
@[simp] abbrev zf1 (l:List (List Int)):Bool:=pc (SmM l)
@[simp] abbrev zdg (l:List (List Int)):List (List Int):=l
def zCF:Run:=rF1 (dS (.sl .int)) fun b=>(zf1 b,[aS (.sl .int) (zdg b)])
def zIu (N:Nat)(a0:lM):OA:=
 (iter (σ:=(Int×(Int×(lM×(lM×Unit))))) N (fun r2 s3=>let y0:=(ix s3.2.2.2.1 s3.2.1 []); (cond (ilt s3.2.1 s3.1) (oN (inb s3.2.1 (ln s3.2.2.2.1)) (oN (zdu y0) (oN (few (ln (ap s3.2.2.1 [(zdl y0)]))) (r2 (s3.1,((zD .i64 s3.2.1 1),((ap s3.2.2.1 [(zdl y0)]),(s3.2.2.2.1,())))))))) (some [(aS (.sl .int) s3.2.2.1)]))) ((ln a0),(0,([],(a0,())))))
def zV9:FuncId->Nat->Option Tmpl:=zk [(102,0,{ n:=20,tm:=[(3,.sl 0 []),(7,.sl 1 []),(8,ti),(9,ti)],lo:=[],ro:=[(0,(.sl .int),true),(1,(.sl .int),false)] })]
theorem zVh (a0:List (List Int))(hc:zf1 a0=true):∃N,zIu N a0=some [aS (.sl .int) (zdg a0)]:=by
 have hs:=zy.1 hc;have hl:=zb4 hs.1;refine zbV fun N hNN=>?_;unfold zIu oN
 conv=>zeta
 refine (zbb a0 (fun i (t:lM)=>((ln a0),(i:Int),t,a0,())) _ (fun _ x acc κ=>bif zdu x then (cond (few (ln (ap acc [zdl x]))) (κ (ap acc [zdl x])) none) else none) (fun (t:lM)=>(some [(.one (.s (.sl .int) t))])) (fun i hi t rec=>?_) (fun t rec=>?_) _ ([]) (hNN hl.1)).trans ?_
 .simp only [zbi hi,zQ hi,zbc hi,zU hi hl.1,cT]
 .simp only [zbe,cF]
 exact zjK zdu zdl _ a0 0 [] (fun x hx=>⟨by exact zN (jA (hs.2 x hx) (by decide)),rfl⟩) (by simpa using hl.2)
theorem zNM:u4 102 zCF:=kF1 zfH zi zl zn zV9 zVh
@[simp] abbrev zdn (g:Guest):Bool:=pc (SmG g)
@[simp] abbrev zce (g:Guest):Guest:=g
def zxo:Run:=rF1 (dT .guest) fun b=>(zdn b,[aT .guest (zce b)])
def zB1 (N:Nat)(a0:Guest):OA:=
 (oN (zpv a0.Prog) (oN (zfx a0.Written) (oN (zfx a0.Live) (oN (zdu a0.Seen) (some [(aT .guest ({ a0 with Prog:=(zmh a0.Prog),Written:=(zdL a0.Written),Live:=(zdL a0.Live),Seen:=(zdl a0.Seen) }:Guest))])))))
theorem zOI (a0:Guest)(hc:zdn a0=true):∃N,zB1 N a0=some [aT .guest (zce a0)]:=by
 have hs:=zy.1 hc;obtain ⟨h1,h2,h3,h4⟩:=hs;have hs1:a0.Prog.length<=2147483648:=(by omega);have hs2:a0.Written.length<=2147483648:=(by omega);have hs3:a0.Live.length<=2147483648:=(by omega);have hs4:a0.Seen.length<=2147483648:=(by omega)
 refine ⟨0,?_⟩;unfold zB1 oN;refine mu (mu (mu (mu ?_)))
 first|rfl|(simp only [*,zce,cT,cF]<;>rfl)|simp_all[Ty.cells,zce]
theorem zHl:u4 140 zxo:=kF1 zfH zi zl zn (zk []) zOI
def zgG (t:List Slot)(p n:Int):Bool:=bif ieq (zdB t p).Page (-1) then false else (cond (enough (zdB t p).Rights n) (win n 1 3) false)
def zcI (t:List Slot)(p n:Int):Int:=bif zgG t p n then (zdB t p).Page else -1
theorem z8j {r:Int}(h:zd3 r=true):0<=r/\r<=3:=zeM.1 h
theorem z3a {a n:Int}(h:enough a n=true):win n 1 3 = !ieq n 0:=by
 unfold enough at h;cases h1:zd3 a
 .rw [h1]at h;cases h
 .cases h2:zd3 n
  .rw [h1,h2]at h;cases h
  .have:=z8j h2;have e:(win n 1 3=true)↔(!ieq n 0)=true:=by
    rw[zeM];simp[ieq];omega
   cases h3:win n 1 3<;>cases h4:(!ieq n 0)<;>simp_all
@[simp] abbrev zkf (t:List Slot)(p n:Int):Bool:=true
@[simp] abbrev zhQ (t:List Slot)(p n:Int):Int:=zcI t p n
@[simp] abbrev zgC (t:List Slot)(p n:Int):Bool:=zgG t p n
def zxm:Run:=rF3 (dS .slot) dI dI fun b c d=>(zkf b c d,[aI (zhQ b c d),aB (zgC b c d)])
def zBZ (N:Nat)(a0:lS)(a1 a2:Int):OA:=
 let y0:=(zhv a0 a1); (oN (zjV a0 a1) (cond (ieq y0.Page (-1)) (some [(aI (-1)),(aB false)]) (oN (zdk y0.Rights a2) (cond (nB (zdP y0.Rights a2)) (some [(aI (-1)),(aB false)]) (oN (zbk a2 1 3) (cond (nB (zbr a2 1 3)) (some [(aI (-1)),(aB false)]) (some [(aI y0.Page),(aB true)])))))))
theorem zOG (a0:List Slot)(a1 a2:Int)(hc:zkf a0 a1 a2=true):∃N,zBZ N a0 a1 a2=some [aI (zhQ a0 a1 a2),aB (zgC a0 a1 a2)]:=by
 refine ⟨0,?_⟩;unfold zBZ oN nB
 conv=>zeta
 refine must rfl (br (fun _=>?_) (fun _=>must rfl (brN (fun _=>?_) (fun _=>must rfl (brN (fun _=>?_) (fun _=>?_))))))
 all_goals first|rfl|(simp only [*,zhQ,zgC,zcI,zgG,cT,cF]<;>rfl)|simp_all[Ty.cells,zhQ,zgC,zcI,zgG]
theorem zHj:u4 153 zxm:=kF3 zfH zi zl zn (zk []) zOG
@[simp] abbrev ztS (t:List Slot)(p n:Int):Bool:=true
@[simp] abbrev zkm (t:List Slot)(p n:Int):Int:=zcI t p n
@[simp] abbrev zkn (t:List Slot)(p n:Int):Bool:=zgG t p n
def zxD:Run:=rF3 (dS .slot) dI dI fun b c d=>(ztS b c d,[aI (zkm b c d),aB (zkn b c d)])
def zCh (N:Nat)(a0:lS)(a1 a2:Int):OA:=
 let y0:=(zj3 a0 a1); (oN (zqi a0 a1) (cond (ieq y0.Page (-1)) (some [(aI (-1)),(aB false)]) (oN (zgN y0.Rights a2) (cond (nB (zhI y0.Rights a2)) (some [(aI (-1)),(aB false)]) (cond (ieq a2 0) (some [(aI (-1)),(aB false)]) (some [(aI y0.Page),(aB true)]))))))
theorem zOZ (a0:List Slot)(a1 a2:Int)(hc:ztS a0 a1 a2=true):∃N,zCh N a0 a1 a2=some [aI (zkm a0 a1 a2),aB (zkn a0 a1 a2)]:=by
 have he:=@z3a (zdB a0 a1).Rights a2;refine ⟨0,?_⟩;unfold zCh oN nB
 conv=>zeta
 refine must rfl (br (fun _=>?_) (fun _=>must rfl (brN (fun _=>?_) (fun _=>br (fun _=>?_) (fun _=>?_)))))
 all_goals first|rfl|(simp only [*,zkm,zkn,zcI,zgG,cT,cF]<;>rfl)|simp_all[Ty.cells,zkm,zkn,zcI,zgG]
theorem zHA:u4 285 zxD:=kF3 zfH zi zl zn (zk []) zOZ
def z9z:zV:=[(297,zhJ),(102,zCF),(140,zxo),(285,zxD),(153,zxm),(305,zJD),(133,zJr),(328,zGb),(295,zFJ),(281,zJz),(174,zJn),(308,zGf),(238,zFP)]++z9y
theorem zfI:zJ z9z:=zf zov (zf zNM (zf zHl (zf zHA (zf zHj (zf zUI (zf zUv (zf zQ8 (zf zQG (zf zUE (zf zUr (zf zRc (zf zQM zfH))))))))))))
@[simp] abbrev zjt (m:List (List Int))(p c v:Int):Bool:=pc (SmM m)
@[simp] abbrev zj4 (m:List (List Int))(p c v:Int):List (List Int):=zer m p c v
def zAm:Run:=rF4 (dS (.sl .int)) dI dI dI fun b c d e=>(zjt b c d e,[aS (.sl .int) (zj4 b c d e)])
def zEm (N:Nat)(a0:lM)(a1 a2 a3:Int):OA:=
 let y0:=(zev a0); (oN (zf4 a0) (oN (zuF a0 a1 a2) (cond (zrl a0 a1 a2) (oN (zL a3 0 99) (cond (zO a3 0 99) (oN (inb a1 (ln y0)) (oN (inb a2 (ln (ix y0 a1 []))) (share (up y0 a1 (up (ix y0 a1 []) a2 a3)) (fun x5=>(some [(aS (.sl .int) x5)]))))) (some [(aS (.sl .int) y0)]))) (some [(aS (.sl .int) y0)]))))
theorem zSi (a0:List (List Int))(a1 a2 a3:Int)(hc:zjt a0 a1 a2 a3=true):∃N,zEm N a0 a1 a2 a3=some [aS (.sl .int) (zj4 a0 a1 a2 a3)]:=by
 have hs:=zy.1 hc;have hm:=(zBj a0 a1 a2).1
 refine ⟨0,?_⟩;unfold zEm oN
 conv=>zeta
 refine mu (must rfl (br (fun _=>must rfl (br (fun _=>mu (mu (shr ?_))) (fun _=>?_))) (fun _=>?_)))
 all_goals first|rfl|(simp only [*,zj4,zer,cT,cF]<;>rfl)|simp_all[Ty.cells,zj4,zer]
theorem zK6:u4 219 zAm:=kF4 zfI zi zl zn (zk []) zSi
@[simp] abbrev zfc (m:List (List Int))(p c v:Int):Bool:=pc (SmM m)
@[simp] abbrev zf0 (m:List (List Int))(p c v:Int):List (List Int):=zer m p c v
def zzW:Run:=rF4 (dS (.sl .int)) dI dI dI fun b c d e=>(zfc b c d e,[aS (.sl .int) (zf0 b c d e)])
def zDT (N:Nat)(a0:lM)(a1 a2 a3:Int):OA:=
 let y0:=(aS (.sl .int) (zdg a0)); (oN (zf1 a0) (oN (zbx a1 (ln a0)) (cond (zbK a1 (ln a0)) (oN (inb a1 (ln a0)) (oN (zbx a2 (ln (ix a0 a1 []))) (cond (zbK a2 (ln (ix a0 a1 []))) (oN (zbk a3 0 99) (cond (zbr a3 0 99) (oN (inb a1 (ln (zdg a0))) (oN (inb a2 (ln (ix (zdg a0) a1 []))) (share (up (zdg a0) a1 (up (ix (zdg a0) a1 []) a2 a3)) (fun x5=>(some [(aS (.sl .int) x5)]))))) (some [y0]))) (some [y0])))) (some [y0]))))
theorem zRO (a0:List (List Int))(a1 a2 a3:Int)(hc:zfc a0 a1 a2 a3=true):∃N,zDT N a0 a1 a2 a3=some [aS (.sl .int) (zf0 a0 a1 a2 a3)]:=by
 have hs:=zy.1 hc;refine ⟨0,?_⟩;unfold zDT oN
 conv=>zeta
 refine mu (must rfl (br (fun _=>mu (must rfl (br (fun _=>must rfl (br (fun _=>mu (mu (shr ?_))) (fun _=>?_))) (fun _=>?_)))) (fun _=>?_)))
 all_goals first|rfl|(simp only [*,zf0,zer,zjk,cT,cF]<;>rfl)|simp_all[Ty.cells,zf0,zer,zjk]
theorem zKE:u4 64 zzW:=kF4 zfI zi zl zn (zk []) zRO
def ziS (g:Guest):Bool:=bif canRun g then (cond g.Ctl.Open (ige (zcT g.Pending) 0) false) else false
@[simp] abbrev zqj (g:Guest):Bool:=true
@[simp] abbrev zmH (g:Guest):Bool:=ziS g
def zAl:Run:=rF1 (dT .guest) fun b=>(zqj b,[aB (zmH b)])
def zEl (N:Nat)(a0:Guest):OA:=
 (oN (zux a0) (cond (zrb a0) (cond a0.Ctl.Open (oN (zuE a0.Pending) (some [(aB (ige (zok a0.Pending) 0))])) oF) oF))
theorem zSh (a0:Guest)(hc:zqj a0=true):∃N,zEl N a0=some [aB (zmH a0)]:=by
 refine ⟨0,?_⟩;unfold zEl oN;refine must rfl (br (fun _=>br (fun _=>must rfl ?_) (fun _=>?_)) (fun _=>?_))
 all_goals first|rfl|(simp only [*,zmH,ziS,cT,cF]<;>rfl)|simp_all[Ty.cells,zmH,ziS]
theorem zK5:u4 259 zAl:=kF1 zfI zi zl zn (zk []) zSh
@[simp] abbrev zpt (g:Guest):Bool:=true
@[simp] abbrev zmf (g:Guest):Bool:=ziS g
def zzV:Run:=rF1 (dT .guest) fun b=>(zpt b,[aB (zmf b)])
def zDS (N:Nat)(a0:Guest):OA:=
 (oN (zue a0) (cond (zqF a0) (cond a0.Ctl.Open (oN (zun a0.Pending) (some [(aB (ige (zn5 a0.Pending) 0))])) oF) oF))
theorem zRN (a0:Guest)(hc:zpt a0=true):∃N,zDS N a0=some [aB (zmf a0)]:=by
 refine ⟨0,?_⟩;unfold zDS oN;refine must rfl (br (fun _=>br (fun _=>must rfl ?_) (fun _=>?_)) (fun _=>?_))
 all_goals first|rfl|(simp only [*,zmf,ziS,cT,cF]<;>rfl)|simp_all[Ty.cells,zmf,ziS]
theorem zKD:u4 137 zzV:=kF1 zfI zi zl zn (zk []) zRN
def zgu (p:Int):Int:=bif ilt (zcT p) 0 then p else wsub .i64 p (zmY .i64 1 (zcT p))
def zkg (p:Int):Int:=bif ilt (zcT p) 0 then -1 else zcT p
theorem zUj {p:Int}(h:ilt (zcT p) 0=false):wcv .u64 (zcT p)=zcT p/\ile 0 (zcT p)=true/\zBO .i64 p (zmY .i64 1 (zcT p))=wsub .i64 p (zmY .i64 1 (zcT p)):=by
 unfold zcT at *;cases h1:zeX p
 .rw [h1]at h;cases h
 .simp only [h1,cT]at h ⊢;obtain ⟨h0,h2⟩:=zeM.1 h1;have r:=zFm (P:=fun x=>-1<=scan x/\scan x<=7/\(0<=scan x->wsub .i64 x (zmY .i64 1 (scan x))=zBO .i64 x (zmY .i64 1 (scan x)))) zZk h0 h2;have h3:0<=scan p:=by
   unfold ilt at h;have:=qV h;omega
  exact ⟨zS6 h3 (by omega),qK h3,(r.2.2 h3).symm⟩
@[simp] abbrev zsg (p:Int):Bool:=true
@[simp] abbrev zkN (p:Int):Int:=zgu p
@[simp] abbrev zkO (p:Int):Int:=zkg p
@[simp] abbrev znz (p:Int):Bool:=!ilt (zcT p) 0
def zC2:Run:=rF1 dI fun b=>(zsg b,[aI (zkN b),aI (zkO b),aB (znz b)])
def zIU (N:Nat)(a0:Int):OA:=
 (oN (zuE a0) (cond (ilt (zok a0) 0) (some [(aI a0),(aI (-1)),(aB false)]) (oN (ile 0 (wcv .u64 (zok a0))) (some [(aI (wsub .i64 a0 (zmY .i64 1 (wcv .u64 (zok a0))))),(aI (zok a0)),(aB true)]))))
theorem zVJ (a0:Int)(hc:zsg a0=true):∃N,zIU N a0=some [aI (zkN a0),aI (zkO a0),aB (znz a0)]:=by
 have ht:=@zUj a0;refine ⟨0,?_⟩;unfold zIU oN;refine must rfl (br (fun _=>?_) (fun _=>mu ?_))
 all_goals first|rfl|(simp only [*,zkN,zkO,znz,zgu,zkg,cT,cF]<;>rfl)|simp_all[Ty.cells,zkN,zkO,znz,zgu,zkg]
theorem zN9:u4 262 zC2:=kF1 zfI zi zl zn (zk []) zVJ
@[simp] abbrev zrO (p:Int):Bool:=true
@[simp] abbrev zkE (p:Int):Int:=zgu p
@[simp] abbrev zkF (p:Int):Int:=zkg p
@[simp] abbrev zni (p:Int):Bool:=!ilt (zcT p) 0
def zCE:Run:=rF1 dI fun b=>(zrO b,[aI (zkE b),aI (zkF b),aB (zni b)])
def zIt (N:Nat)(a0:Int):OA:=
 (oN (zun a0) (cond (ilt (zn5 a0) 0) (some [(aI a0),(aI (-1)),(aB false)]) (oN (ile 0 (zn5 a0)) (some [(aI (zBO .i64 a0 (zmY .i64 1 (zn5 a0)))),(aI (zn5 a0)),(aB true)]))))
theorem zVg (a0:Int)(hc:zrO a0=true):∃N,zIt N a0=some [aI (zkE a0),aI (zkF a0),aB (zni a0)]:=by
 have ht:=@zUj a0;refine ⟨0,?_⟩;unfold zIt oN;refine must rfl (br (fun _=>?_) (fun _=>mu ?_))
 all_goals first|rfl|(simp only [*,zkE,zkF,zni,zgu,zkg,cT,cF]<;>rfl)|simp_all[Ty.cells,zkE,zkF,zni,zgu,zkg]
theorem zNL:u4 178 zCE:=kF1 zfI zi zl zn (zk []) zVg
def saw (g:Guest)(n:Int):Guest:=bif ilt (ln g.Seen) 40 then { g with Seen:=ap g.Seen [n] } else g
@[simp] theorem zG6 {g:Guest}(n:Int)(h:SmG g):SmG (saw g n):=by
 unfold saw;cases h1:ilt (ln g.Seen) 40
 .exact h
 .have:=qD h1;refine ⟨h.1,h.2.1,h.2.2.1,?_⟩;simp[ln] at *;omega
@[simp] abbrev zG2 (g:Guest)(n:Int):Bool:=pc (SmG g)
@[simp] abbrev zBy (g:Guest)(n:Int):Guest:=saw g n
def zUd:Run:=rF2 (dT .guest) dI fun b c=>(zG2 b c,[aT .guest (zBy b c)])
def z1K (N:Nat)(a0:Guest)(a1:Int):OA:=
 (oN (zda a0) (cond (ilt (ln (zcB a0).Seen) 40) (oN (few (ln (ap (zcB a0).Seen [a1]))) (some [(aT .guest ({ (zcB a0) with Seen:=(ap (zcB a0).Seen [a1]) }:Guest))])) (some [(aT .guest (zcB a0))])))
theorem z5U (a0:Guest)(a1:Int)(hc:zG2 a0 a1=true):∃N,z1K N a0 a1=some [aT .guest (zBy a0 a1)]:=by
 have hs:=zy.1 hc;have hz:a0.Seen.length<=1048576:=hs.2.2.2
 refine ⟨0,?_⟩;unfold z1K oN;refine mu (br (fun _=>mu ?_) (fun _=>?_))
 all_goals first|rfl|(simp only [*,zBy,saw,cT,cF]<;>rfl)|simp_all[Ty.cells,zBy,saw]
theorem z0o:u4 263 zUd:=kF2 zfI zi zl zn (zk []) z5U
@[simp] abbrev zGV (g:Guest)(n:Int):Bool:=pc (SmG g)
@[simp] abbrev zBa (g:Guest)(n:Int):Guest:=saw g n
def zT9:Run:=rF2 (dT .guest) dI fun b c=>(zGV b c,[aT .guest (zBa b c)])
def z1G (N:Nat)(a0:Guest)(a1:Int):OA:=
 (oN (zdn a0) (cond (ilt (ln a0.Seen) 40) (oN (few (ln (ap (zce a0).Seen [a1]))) (some [(aT .guest ({ (zce a0) with Seen:=(ap (zce a0).Seen [a1]) }:Guest))])) (some [(aT .guest (zce a0))])))
theorem z5Q (a0:Guest)(a1:Int)(hc:zGV a0 a1=true):∃N,z1G N a0 a1=some [aT .guest (zBa a0 a1)]:=by
 have hs:=zy.1 hc;have hz:a0.Seen.length<=1048576:=hs.2.2.2
 refine ⟨0,?_⟩;unfold z1G oN;refine mu (br (fun _=>mu ?_) (fun _=>?_))
 all_goals first|rfl|(simp only [*,zBa,saw,cT,cF]<;>rfl)|simp_all[Ty.cells,zBa,saw]
theorem z0k:u4 142 zT9:=kF2 zfI zi zl zn (zk []) z5Q
def stopped (g:Guest)(e:GExit):Guest:={ g with Exit:=e }
@[simp] theorem z1x {g:Guest}(e:GExit)(h:SmG g):SmG (stopped g e):=h
@[simp] abbrev zd7 (g:Guest)(e:GExit):Bool:=pc (SmG g)
@[simp] abbrev zdA (g:Guest)(e:GExit):Guest:=stopped g e
def zC0:Run:=rF2 (dT .guest) dE fun b c=>(zd7 b c,[aT .guest (zdA b c)])
def zIS (N:Nat)(a0:Guest)(a1:GExit):OA:=
 (oN (zda a0) (some [(aT .guest ({ (zcB a0) with Exit:=a1 }:Guest))]))
theorem zVH (a0:Guest)(a1:GExit)(hc:zd7 a0 a1=true):∃N,zIS N a0 a1=some [aT .guest (zdA a0 a1)]:=by
 have hs:=zy.1 hc;refine ⟨0,?_⟩;unfold zIS oN;refine mu ?_
 first|rfl|(simp only [*,zdA,stopped,cT,cF]<;>rfl)|simp_all[Ty.cells,zdA,stopped]
theorem zN7:u4 267 zC0:=kF2 zfI zi zl zn (zk []) zVH
@[simp] abbrev zdK (g:Guest)(e:GExit):Bool:=pc (SmG g)
@[simp] abbrev zeS (g:Guest)(e:GExit):Guest:=stopped g e
def zCC:Run:=rF2 (dT .guest) dE fun b c=>(zdK b c,[aT .guest (zeS b c)])
def zIr (N:Nat)(a0:Guest)(a1:GExit):OA:=
 (oN (zdn a0) (some [(aT .guest ({ (zce a0) with Exit:=a1 }:Guest))]))
theorem zVe (a0:Guest)(a1:GExit)(hc:zdK a0 a1=true):∃N,zIr N a0 a1=some [aT .guest (zeS a0 a1)]:=by
 have hs:=zy.1 hc;refine ⟨0,?_⟩;unfold zIr oN;refine mu ?_
 first|rfl|(simp only [*,zeS,stopped,cT,cF]<;>rfl)|simp_all[Ty.cells,zeS,stopped]
theorem zNJ:u4 62 zCC:=kF2 zfI zi zl zn (zk []) zVe
def zbJ (g:Guest):Guest:=bif ige g.Pc 12 then { g with Pc:=12 } else { g with Pc:=zD .i64 g.Pc 1 }
@[simp] theorem zjI {g:Guest}(h:SmG g):SmG (zbJ g):=by
 unfold zbJ;cases ige g.Pc 12<;>exact h
@[simp] abbrev zd5 (g:Guest):Bool:=pc (SmG g)
@[simp] abbrev zgw (g:Guest):Guest:=zbJ g
def zJF:Run:=rF1 (dT .guest) fun b=>(zd5 b,[aT .guest (zgw b)])
def zTt (N:Nat)(a0:Guest):OA:=
 (oN (zda a0) (cond (ige (zcB a0).Pc 12) (some [(aT .guest ({ (zcB a0) with Pc:=12 }:Guest))]) (some [(aT .guest ({ (zcB a0) with Pc:=(zD .i64 (zcB a0).Pc 1) }:Guest))])))
theorem z0J (a0:Guest)(hc:zd5 a0=true):∃N,zTt N a0=some [aT .guest (zgw a0)]:=by
 have hs:=zy.1 hc;refine ⟨0,?_⟩;unfold zTt oN;refine mu (br (fun _=>?_) (fun _=>?_))
 all_goals first|rfl|(simp only [*,zgw,zbJ,cT,cF]<;>rfl)|simp_all[Ty.cells,zgw,zbJ]
theorem zUK:u4 264 zJF:=kF1 zfI zi zl zn (zk []) z0J
@[simp] abbrev zdf (g:Guest):Bool:=pc (SmG g)
@[simp] abbrev zcY (g:Guest):Guest:=zbJ g
def zJu:Run:=rF1 (dT .guest) fun b=>(zdf b,[aT .guest (zcY b)])
def zTi (N:Nat)(a0:Guest):OA:=
 (oN (zdn a0) (cond (ige a0.Pc 12) (some [(aT .guest ({ (zce a0) with Pc:=12 }:Guest))]) (some [(aT .guest ({ (zce a0) with Pc:=(zD .i64 a0.Pc 1) }:Guest))])))
theorem z0x (a0:Guest)(hc:zdf a0=true):∃N,zTi N a0=some [aT .guest (zcY a0)]:=by
 have hs:=zy.1 hc;refine ⟨0,?_⟩;unfold zTi oN;refine mu (br (fun _=>?_) (fun _=>?_))
 all_goals first|rfl|(simp only [*,zcY,zbJ,cT,cF]<;>rfl)|simp_all[Ty.cells,zcY,zbJ]
theorem zUy:u4 141 zJu:=kF1 zfI zi zl zn (zk []) z0x
def z9A:zV:=[(219,zAm),(64,zzW),(259,zAl),(137,zzV),(262,zC2),(178,zCE),(263,zUd),(142,zT9),(267,zC0),(62,zCC),(264,zJF),(141,zJu)]++z9z
theorem zep:zJ z9A:=zf zK6 (zf zKE (zf zK5 (zf zKD (zf zN9 (zf zNL (zf z0o (zf z0k (zf zN7 (zf zNJ (zf zUK (zf zUy zfI)))))))))))
def interrupted (g:Guest):Guest:=bif ziS g then saw { g with Pending:=zgu g.Pending } (zD .i64 100 (zkg g.Pending)) else g
@[simp] theorem z2i {g:Guest}(h:SmG g):SmG (interrupted g):=by
 unfold interrupted;cases ziS g
 .exact h
 .exact zG6 (g:={ g with Pending:=zgu g.Pending }) _ h
@[simp] abbrev zqc (g:Guest):Bool:=pc (SmG g)
@[simp] abbrev zkl (g:Guest):Guest:=interrupted g
def zt4:Run:=rF1 (dT .guest) fun b=>(zqc b,[aT .guest (zkl b)])
def zwK (N:Nat)(a0:Guest):OA:=
 let y1:=(zD .i64 100 (zkO a0.Pending));let y0:=({ a0 with Pending:=(zkN a0.Pending) }:Guest); (oN (zqj a0) (cond (nB (zmH a0)) (oN (zda a0) (some [(aT .guest (zcB a0))])) (oN (zsg a0.Pending) (oN (zG2 y0 y1) (some [(aT .guest (zBy y0 y1))])))))
theorem zHW (a0:Guest)(hc:zqc a0=true):∃N,zwK N a0=some [aT .guest (zkl a0)]:=by
 have hs:=zy.1 hc;have hz:_/\_/\_/\_:=hs
 refine ⟨0,?_⟩;unfold zwK oN nB
 conv=>zeta
 refine must rfl (brN (fun _=>mu ?_) (fun _=>must rfl (mu ?_)))
 all_goals first|rfl|(simp only [*,zkl,interrupted,cT,cF]<;>rfl)|simp_all[Ty.cells,zkl,interrupted]
theorem zDy:u4 201 zt4:=kF1 zep zi zl zn (zk []) zHW
@[simp] abbrev zpj (g:Guest):Bool:=pc (SmG g)
@[simp] abbrev zhP (g:Guest):Guest:=interrupted g
def zt1:Run:=rF1 (dT .guest) fun b=>(zpj b,[aT .guest (zhP b)])
def zwz (N:Nat)(a0:Guest):OA:=
 let y1:=(zD .i64 100 (zkF a0.Pending));let y0:=({ a0 with Pending:=(zkE a0.Pending) }:Guest); (oN (zpt a0) (cond (nB (zmf a0)) (oN (zdn a0) (some [(aT .guest (zce a0))])) (oN (zrO a0.Pending) (oN (zGV y0 y1) (some [(aT .guest (zBa y0 y1))])))))
theorem zHL (a0:Guest)(hc:zpj a0=true):∃N,zwz N a0=some [aT .guest (zhP a0)]:=by
 have hs:=zy.1 hc;have hz:_/\_/\_/\_:=hs
 refine ⟨0,?_⟩;unfold zwz oN nB
 conv=>zeta
 refine must rfl (brN (fun _=>mu ?_) (fun _=>must rfl (mu ?_)))
 all_goals first|rfl|(simp only [*,zhP,interrupted,cT,cF]<;>rfl)|simp_all[Ty.cells,zhP,interrupted]
theorem zDo:u4 151 zt1:=kF1 zep zi zl zn (zk []) zHL
def zzF (o:Int):Int:=bif ieq o 3 then 3 else (cond (ieq o 4) 4 (cond (ieq o 5) 5 (cond (ieq o 6) 6 (cond (ieq o 7) 7 2))))
def zG (g:Guest):Int:=bif canRun g then (cond (ziS g) 1 (zzF (zdI g.Prog g.Pc).Op)) else 0
@[simp] abbrev zeH (g:Guest):Bool:=true
@[simp] abbrev zol (g:Guest):Int:=zG g
def zGh:Run:=rF1 (dT .guest) fun b=>(zeH b,[aI (zol b)])
def zMV (N:Nat)(a0:Guest):OA:=
 let y0:=(zfT a0.Prog a0.Pc).Op; (oN (zux a0) (cond (nB (zrb a0)) (some [(aI 0)]) (oN (zqj a0) (cond (zmH a0) (some [(aI 1)]) (oN (zfz a0.Prog a0.Pc) (cond (ieq y0 3) (some [(aI 3)]) (cond (ieq y0 4) (some [(aI 4)]) (cond (ieq y0 5) (some [(aI 5)]) (cond (ieq y0 6) (some [(aI 6)]) (cond (ieq y0 7) (some [(aI 7)]) (some [(aI 2)])))))))))))
theorem zYr (a0:Guest)(hc:zeH a0=true):∃N,zMV N a0=some [aI (zol a0)]:=by
 refine ⟨0,?_⟩;unfold zMV oN nB
 conv=>zeta
 refine must rfl (brN (fun _=>?_) (fun _=>must rfl (br (fun _=>?_) (fun _=>must rfl (br (fun _=>?_) (fun _=>br (fun _=>?_) (fun _=>br (fun _=>?_) (fun _=>br (fun _=>?_) (fun _=>br (fun _=>?_) (fun _=>?_))))))))))
 all_goals first|rfl|(simp only [*,zol,zG,zzF,cT,cF]<;>rfl)|simp_all[Ty.cells,zol,zG,zzF]
theorem zb3:u4 200 zGh:=kF1 zep zi zl zn (zk []) zYr
@[simp] abbrev zjW (g:Guest):Bool:=true
@[simp] abbrev zhw (g:Guest):Int:=zG g
def zFR:Run:=rF1 (dT .guest) fun b=>(zjW b,[aI (zhw b)])
def zMw (N:Nat)(a0:Guest):OA:=
 let y0:=(zgr a0.Prog a0.Pc).Op; (oN (zue a0) (cond (nB (zqF a0)) (some [(aI 0)]) (oN (zpt a0) (cond (zmf a0) (some [(aI 1)]) (oN (zgh a0.Prog a0.Pc) (cond (ieq y0 3) (some [(aI 3)]) (cond (ieq y0 4) (some [(aI 4)]) (cond (ieq y0 5) (some [(aI 5)]) (cond (ieq y0 6) (some [(aI 6)]) (cond (ieq y0 7) (some [(aI 7)]) (some [(aI 2)])))))))))))
theorem zX0 (a0:Guest)(hc:zjW a0=true):∃N,zMw N a0=some [aI (zhw a0)]:=by
 refine ⟨0,?_⟩;unfold zMw oN nB
 conv=>zeta
 refine must rfl (brN (fun _=>?_) (fun _=>must rfl (br (fun _=>?_) (fun _=>must rfl (br (fun _=>?_) (fun _=>br (fun _=>?_) (fun _=>br (fun _=>?_) (fun _=>br (fun _=>?_) (fun _=>br (fun _=>?_) (fun _=>?_))))))))))
 all_goals first|rfl|(simp only [*,zhw,zG,zzF,cT,cF]<;>rfl)|simp_all[Ty.cells,zhw,zG,zzF]
theorem zQO:u4 57 zFR:=kF1 zep zi zl zn (zk []) zX0
def held (g:Guest):Guest:=zbJ { g with Halted:=true }
@[simp] theorem zZn {g:Guest}(h:SmG g):SmG (held g):=zjI (g:={ g with Halted:=true }) h
@[simp] abbrev zoi (g:Guest):Bool:=pc (SmG g)
@[simp] abbrev zAu (g:Guest):Guest:=held g
def zPr:Run:=rF1 (dT .guest) fun b=>(zoi b,[aT .guest (zAu b)])
def zWJ (N:Nat)(a0:Guest):OA:=
 let y0:=({ a0 with Halted:=true }:Guest); (oN (zd5 y0) (some [(aT .guest (zgw y0))]))
theorem z3A (a0:Guest)(hc:zoi a0=true):∃N,zWJ N a0=some [aT .guest (zAu a0)]:=by
 have hs:=zy.1 hc;have hz:_/\_/\_/\_:=hs
 refine ⟨0,?_⟩;unfold zWJ oN
 conv=>zeta
 refine mu ?_
 first|rfl|(simp only [*,zAu,held,cT,cF]<;>rfl)|simp_all[Ty.cells,zAu,held]
theorem zXp:u4 279 zPr:=kF1 zep zi zl zn (zk []) z3A
@[simp] abbrev zjT (g:Guest):Bool:=pc (SmG g)
@[simp] abbrev zi8 (g:Guest):Guest:=held g
def zPo:Run:=rF1 (dT .guest) fun b=>(zjT b,[aT .guest (zi8 b)])
def zWF (N:Nat)(a0:Guest):OA:=
 let y0:=({ a0 with Halted:=true }:Guest); (oN (zdf y0) (some [(aT .guest (zcY y0))]))
theorem z3v (a0:Guest)(hc:zjT a0=true):∃N,zWF N a0=some [aT .guest (zi8 a0)]:=by
 have hs:=zy.1 hc;have hz:_/\_/\_/\_:=hs
 refine ⟨0,?_⟩;unfold zWF oN
 conv=>zeta
 refine mu ?_
 first|rfl|(simp only [*,zi8,held,cT,cF]<;>rfl)|simp_all[Ty.cells,zi8,held]
theorem zXk:u4 146 zPo:=kF1 zep zi zl zn (zk []) z3v
@[simp] abbrev zBz (g:Guest):Bool:=pc (SmG g)
@[simp] abbrev zwp (g:Guest):Guest:=zbJ g
def zGe:Run:=rF1 (dT .guest) fun b=>(zBz b,[aT .guest (zwp b)])
def zMS (N:Nat)(a0:Guest):OA:=
 (oN (zd5 a0) (some [(aT .guest (zgw a0))]))
theorem zYo (a0:Guest)(hc:zBz a0=true):∃N,zMS N a0=some [aT .guest (zwp a0)]:=by
 have hs:=zy.1 hc;refine ⟨0,?_⟩;unfold zMS oN;refine mu ?_
 first|rfl|(simp only [*,zwp,cT,cF]<;>rfl)|simp_all[Ty.cells,zwp]
theorem zRb:u4 269 zGe:=kF1 zep zi zl zn (zk []) zYo
@[simp] abbrev zps (g:Guest):Bool:=pc (SmG g)
@[simp] abbrev zlt (g:Guest):Guest:=zbJ g
def zFO:Run:=rF1 (dT .guest) fun b=>(zps b,[aT .guest (zlt b)])
def zMt (N:Nat)(a0:Guest):OA:=
 (oN (zdf a0) (some [(aT .guest (zcY a0))]))
theorem zXX (a0:Guest)(hc:zps a0=true):∃N,zMt N a0=some [aT .guest (zlt a0)]:=by
 have hs:=zy.1 hc;refine ⟨0,?_⟩;unfold zMt oN;refine mu ?_
 first|rfl|(simp only [*,zlt,cT,cF]<;>rfl)|simp_all[Ty.cells,zlt]
theorem zQL:u4 66 zFO:=kF1 zep zi zl zn (zk []) zXX
def loaded (g:Guest)(v:Int):Guest:=zbJ (saw { g with A:=v } v)
@[simp] theorem zPC {g:Guest}(v:Int)(h:SmG g):SmG (loaded g v):=zjI (zG6 (g:={ g with A:=v }) v h)
@[simp] abbrev zBt (g:Guest)(v:Int):Bool:=pc (SmG g)
@[simp] abbrev zwm (g:Guest)(v:Int):Guest:=loaded g v
def zF3:Run:=rF2 (dT .guest) dI fun b c=>(zBt b c,[aT .guest (zwm b c)])
def zMI (N:Nat)(a0:Guest)(a1:Int):OA:=
 let y0:=({ a0 with A:=a1 }:Guest); (oN (zG2 y0 a1) (oN (zd5 (zBy y0 a1)) (some [(aT .guest (zgw (zBy y0 a1)))])))
theorem zYc (a0:Guest)(a1:Int)(hc:zBt a0 a1=true):∃N,zMI N a0 a1=some [aT .guest (zwm a0 a1)]:=by
 have hs:=zy.1 hc;have hz:_/\_/\_/\_:=hs;have hk:SmG (saw { a0 with A:=a1 } a1):=zG6 (g:={ a0 with A:=a1 }) a1 hs
 refine ⟨0,?_⟩;unfold zMI oN
 conv=>zeta
 refine mu (mu ?_)
 first|rfl|(simp only [*,zwm,loaded,cT,cF]<;>rfl)|simp_all[Ty.cells,zwm,loaded]
theorem zQ0:u4 270 zF3:=kF2 zep zi zl zn (zk []) zYc
@[simp] abbrev zpm (g:Guest)(v:Int):Bool:=pc (SmG g)
@[simp] abbrev zlp (g:Guest)(v:Int):Guest:=loaded g v
def zFz:Run:=rF2 (dT .guest) dI fun b c=>(zpm b c,[aT .guest (zlp b c)])
def zMf (N:Nat)(a0:Guest)(a1:Int):OA:=
 let y0:=({ a0 with A:=a1 }:Guest); (oN (zGV y0 a1) (oN (zdf (zBa y0 a1)) (some [(aT .guest (zcY (zBa y0 a1)))])))
theorem zXH (a0:Guest)(a1:Int)(hc:zpm a0 a1=true):∃N,zMf N a0 a1=some [aT .guest (zlp a0 a1)]:=by
 have hs:=zy.1 hc;have hz:_/\_/\_/\_:=hs;have hk:SmG (saw { a0 with A:=a1 } a1):=zG6 (g:={ a0 with A:=a1 }) a1 hs
 refine ⟨0,?_⟩;unfold zMf oN
 conv=>zeta
 refine mu (mu ?_)
 first|rfl|(simp only [*,zlp,loaded,cT,cF]<;>rfl)|simp_all[Ty.cells,zlp,loaded]
theorem zQw:u4 67 zFz:=kF2 zep zi zl zn (zk []) zXH
def zrp (g:Guest)(w:Int):Guest:=bif ieq w 5 then stopped g (zGY (zdI g.Prog g.Pc).X) else stopped g ⟨4,0,false,0⟩
@[simp] theorem zbcx {g:Guest}(w:Int)(h:SmG g):SmG (zrp g w):=by
 unfold zrp;cases ieq w 5<;>exact h
@[simp] abbrev znk (g:Guest)(w:Int):Bool:=pc (SmG g)
@[simp] abbrev zjC (g:Guest)(w:Int):Guest:=zrp g w
def zCI:Run:=rF2 (dT .guest) dI fun b c=>(znk b c,[aT .guest (zjC b c)])
def zIx (N:Nat)(a0:Guest)(a1:Int):OA:=
 let y0:=(zgr a0.Prog a0.Pc).X; (cond (ieq a1 5) (oN (zgh a0.Prog a0.Pc) (oN (zyt y0) (oN (zdK a0 (zoz y0)) (some [(aT .guest (zeS a0 (zoz y0)))])))) (oN (zdK a0 (⟨4,0,false,0⟩:GExit)) (some [(aT .guest (zeS a0 (⟨4,0,false,0⟩:GExit)))])))
theorem zVk (a0:Guest)(a1:Int)(hc:znk a0 a1=true):∃N,zIx N a0 a1=some [aT .guest (zjC a0 a1)]:=by
 have hs:=zy.1 hc;refine ⟨0,?_⟩;unfold zIx oN
 conv=>zeta
 refine br (fun _=>must rfl (must rfl (mu ?_))) (fun _=>mu ?_)
 all_goals first|rfl|(simp only [*,zjC,zrp,cT,cF]<;>rfl)|simp_all[Ty.cells,zjC,zrp]
theorem zNP:u4 145 zCI:=kF2 zep zi zl zn (zk []) zVk
def zcP (g:Guest):Bool:=zdz g.Prog&&(win g.A 0 99&&(win g.Pc 0 12&&(zdd g.Written 4 8&&(zdd g.Live 4 8&&(zjM g.Ctl&&(zeX g.Pending&&(zsA g.Exit&&ile (ln g.Seen) 40)))))))
@[simp] abbrev znu (g:Guest):Bool:=true
@[simp] abbrev zlF (g:Guest):Bool:=zcP g
def zCL:Run:=rF1 (dT .guest) fun b=>(znu b,[aB (zlF b)])
def zIE (N:Nat)(a0:Guest):OA:=
 (oN (zBx a0.Prog) (cond (zoj a0.Prog) (oN (zL a0.A 0 99) (cond (zO a0.A 0 99) (oN (zL a0.Pc 0 12) (cond (zO a0.Pc 0 12) (oN (zny a0.Written 4 8) (cond (zij a0.Written 4 8) (oN (zny a0.Live 4 8) (cond (zij a0.Live 4 8) (oN (zs3 a0.Ctl) (cond (zre a0.Ctl) (oN (zfm a0.Pending) (cond (zfl a0.Pending) (oN (zBs a0.Exit) (cond (zwh a0.Exit) (some [(aB (ile (ln a0.Seen) 40))]) oF)) oF)) oF)) oF)) oF)) oF)) oF)) oF))
theorem zVs (a0:Guest)(hc:znu a0=true):∃N,zIE N a0=some [aB (zlF a0)]:=by
 refine ⟨0,?_⟩;unfold zIE oN;refine must rfl (br (fun _=>must rfl (br (fun _=>must rfl (br (fun _=>must rfl (br (fun _=>must rfl (br (fun _=>must rfl (br (fun _=>must rfl (br (fun _=>must rfl (br (fun _=>?_) (fun _=>?_))) (fun _=>?_))) (fun _=>?_))) (fun _=>?_))) (fun _=>?_))) (fun _=>?_))) (fun _=>?_))) (fun _=>?_))
 all_goals first|rfl|(simp only [*,zlF,zcP,cT,cF]<;>rfl)|simp_all[Ty.cells,zlF,zcP]
theorem zNS:u4 314 zCL:=kF1 zep zi zl zn (zk []) zVs
@[simp] abbrev zm8 (g:Guest):Bool:=true
@[simp] abbrev zlm (g:Guest):Bool:=zcP g
def zCp:Run:=rF1 (dT .guest) fun b=>(zm8 b,[aB (zlm b)])
def zIe (N:Nat)(a0:Guest):OA:=
 (oN (zA9 a0.Prog) (cond (zn4 a0.Prog) (oN (zbk a0.A 0 99) (cond (zbr a0.A 0 99) (oN (zbk a0.Pc 0 12) (cond (zbr a0.Pc 0 12) (oN (znh a0.Written 4 8) (cond (zh9 a0.Written 4 8) (oN (znh a0.Live 4 8) (cond (zh9 a0.Live 4 8) (oN (zsK a0.Ctl) (cond (zqH a0.Ctl) (oN (zh7 a0.Pending) (cond (ziD a0.Pending) (oN (zA3 a0.Exit) (cond (zvC a0.Exit) (some [(aB (ile (ln a0.Seen) 40))]) oF)) oF)) oF)) oF)) oF)) oF)) oF)) oF))
theorem zU0 (a0:Guest)(hc:zm8 a0=true):∃N,zIe N a0=some [aB (zlm a0)]:=by
 refine ⟨0,?_⟩;unfold zIe oN;refine must rfl (br (fun _=>must rfl (br (fun _=>must rfl (br (fun _=>must rfl (br (fun _=>must rfl (br (fun _=>must rfl (br (fun _=>must rfl (br (fun _=>must rfl (br (fun _=>?_) (fun _=>?_))) (fun _=>?_))) (fun _=>?_))) (fun _=>?_))) (fun _=>?_))) (fun _=>?_))) (fun _=>?_))) (fun _=>?_))
 all_goals first|rfl|(simp only [*,zlm,zcP,cT,cF]<;>rfl)|simp_all[Ty.cells,zlm,zcP]
theorem zNw:u4 237 zCp:=kF1 zep zi zl zn (zk []) zU0
@[simp] abbrev zch (l:List Guest):Bool:=pc (znY l)
@[simp] abbrev zcF (l:List Guest):List Guest:=l
def zv2:Run:=rF1 (dS .guest) fun b=>(zch b,[aS .guest (zcF b)])
def zy8 (N:Nat)(a0:lG):OA:=
 (iter (σ:=(Int×(Int×(lG×(lG×Unit))))) N (fun r2 s3=>let y0:=(ix s3.2.2.2.1 s3.2.1 zo); (cond (ilt s3.2.1 s3.1) (oN (inb s3.2.1 (ln s3.2.2.2.1)) (oN (zdn y0) (oN (few (ln (ap s3.2.2.1 [(zce y0)]))) (r2 (s3.1,((zD .i64 s3.2.1 1),((ap s3.2.2.1 [(zce y0)]),(s3.2.2.2.1,())))))))) (some [(aS .guest s3.2.2.1)]))) ((ln a0),(0,([],(a0,())))))
def zLZ:FuncId->Nat->Option Tmpl:=zk [(158,0,{ n:=20,tm:=[(3,.sl 0 []),(7,.sl 1 []),(8,ti),(9,ti)],lo:=[],ro:=[(0,.guest,true),(1,.guest,false)] })]
theorem zLr (a0:List Guest)(hc:zch a0=true):∃N,zy8 N a0=some [aS .guest (zcF a0)]:=by
 have hs:=zy.1 hc;have hl:=zb4 hs.1;refine zbV fun N hNN=>?_;unfold zy8 oN
 conv=>zeta
 refine (zbb a0 (fun i (t:lG)=>((ln a0),(i:Int),t,a0,())) _ (fun _ x acc κ=>bif zdn x then (cond (few (ln (ap acc [zce x]))) (κ (ap acc [zce x])) none) else none) (fun (t:lG)=>(some [(.one (.s .guest t))])) (fun i hi t rec=>?_) (fun t rec=>?_) _ ([]) (hNN hl.1)).trans ?_
 .simp only [zbi hi,zQ hi,zbc hi,zU hi hl.1,cT]
 .simp only [zbe,cF]
 exact zjK zdn zce _ a0 0 [] (fun x hx=>⟨by exact zN (hs.2 x hx),rfl⟩) (by simpa using hl.2)
theorem zEW:u4 158 zv2:=kF1 zep zi zl zn zLZ zLr
def gAt (b:Bare)(i:Int):Guest:=bif hasB i (ln b.Guests) then ix b.Guests i zo else Ty.dflt .guest
@[simp] theorem zeZ {b:Bare}(i:Int)(h:SmB b):SmG (gAt b i):=by
 unfold gAt;cases hh:hasB i (ln b.Guests)
 .exact zbcZ
 .exact zZo h.2.1 hh _
@[simp] abbrev zc6 (b:Bare)(i:Int):Bool:=pc (SmB b)
@[simp] abbrev zc4 (b:Bare)(i:Int):Guest:=gAt b i
@[simp] abbrev zc5 (b:Bare)(i:Int):Bool:=hasB i (ln b.Guests)
def zCo:Run:=rF2 (dT .bare) dI fun b c=>(zc6 b c,[aT .guest (zc4 b c),aB (zc5 b c)])
def zId (N:Nat)(a0:Bare)(a1:Int):OA:=
 let y0:=(ix a0.Guests a1 zo); (oN (zbx a1 (ln a0.Guests)) (cond (nB (zbK a1 (ln a0.Guests))) (some [(aT .guest (⟨[],0,0,[],[],⟨0,0,false⟩,0,⟨0,0,false,0⟩,false,[]⟩:Guest)),(aB false)]) (oN (inb a1 (ln a0.Guests)) (oN (zdn y0) (some [(aT .guest (zce y0)),(aB true)])))))
theorem zUZ (a0:Bare)(a1:Int)(hc:zc6 a0 a1=true):∃N,zId N a0 a1=some [aT .guest (zc4 a0 a1),aB (zc5 a0 a1)]:=by
 have hs:=zy.1 hc;have hl:a0.Guests.length<=1048576:=hs.2.1.1;have hx:hasB a1 (ln a0.Guests)=true->SmG (ix a0.Guests a1 zo):=fun h=>zZo hs.2.1 h _
 refine ⟨0,?_⟩;unfold zId oN nB
 conv=>zeta
 refine must rfl (brN (fun _=>?_) (fun _=>mu (mu ?_)))
 all_goals first|rfl|(simp only [*,zc4,zc5,gAt,Ty.dflt,cT,cF]<;>rfl)|simp_all[Ty.cells,zc4,zc5,gAt,Ty.dflt]
theorem zNv:u4 147 zCo:=kF2 zep zi zl zn (zk []) zUZ
def z9B:zV:=[(201,zt4),(151,zt1),(200,zGh),(57,zFR),(279,zPr),(146,zPo),(269,zGe),(66,zFO),(270,zF3),(67,zFz),(145,zCI),(314,zCL),(237,zCp),(158,zv2),(147,zCo)]++z9A
theorem zix:zJ z9B:=zf zDy (zf zDo (zf zb3 (zf zQO (zf zXp (zf zXk (zf zRb (zf zQL (zf zQ0 (zf zQw (zf zNP (zf zNS (zf zNw (zf zEW (zf zNv zep))))))))))))))
def plainly (g:Guest):Guest:=bif ine (zG g) 2 then g else (cond (win g.A 0 99) (cond (win (zdI g.Prog g.Pc).X 0 99) (cond (ieq (zdI g.Prog g.Pc).Op 1) { zbJ g with A:=(zdI g.Prog g.Pc).X } (cond (ieq (zdI g.Prog g.Pc).Op 2) { zbJ g with A:=zmX (zD .i64 g.A (zdI g.Prog g.Pc).X) 100 } (cond (ieq (zdI g.Prog g.Pc).Op 8) (cond (ieq g.A 0) { zbJ g with Pc:=(zdI g.Prog g.Pc).X } (zbJ g)) (zbJ g)))) (zbJ g)) (zbJ g))
@[simp] theorem zbcT (g:Guest):(zbJ g).Prog=g.Prog:=by
 unfold zbJ;cases ige g.Pc 12<;>rfl
@[simp] theorem zbdq (g:Guest):(zbJ g).A=g.A:=by
 unfold zbJ;cases ige g.Pc 12<;>rfl
@[simp] theorem zbbu (g:Guest):(zbJ g).Written=g.Written:=by
 unfold zbJ;cases ige g.Pc 12<;>rfl
@[simp] theorem zbcS (g:Guest):(zbJ g).Live=g.Live:=by
 unfold zbJ;cases ige g.Pc 12<;>rfl
@[simp] theorem zbc5 (g:Guest):(zbJ g).Ctl=g.Ctl:=by
 unfold zbJ;cases ige g.Pc 12<;>rfl
@[simp] theorem zbbt (g:Guest):(zbJ g).Pending=g.Pending:=by
 unfold zbJ;cases ige g.Pc 12<;>rfl
@[simp] theorem zbcR (g:Guest):(zbJ g).Exit=g.Exit:=by
 unfold zbJ;cases ige g.Pc 12<;>rfl
@[simp] theorem zbcf (g:Guest):(zbJ g).Halted=g.Halted:=by
 unfold zbJ;cases ige g.Pc 12<;>rfl
@[simp] theorem zbcU (g:Guest):(zbJ g).Seen=g.Seen:=by
 unfold zbJ;cases ige g.Pc 12<;>rfl
@[simp] theorem zbc6 (g:Guest)(x:Int):(zbJ { g with A:=x }).Pc=(zbJ g).Pc:=by
 unfold zbJ;cases ige g.Pc 12<;>rfl
@[simp] theorem zJR {g:Guest}(h:SmG g):SmG (plainly g):=by
 have hm:=zjI h;unfold plainly;cases ine (zG g) 2
 .cases win g.A 0 99
  .exact hm
  .cases win (zdI g.Prog g.Pc).X 0 99
   .exact hm
   .cases ieq (zdI g.Prog g.Pc).Op 1
    .cases ieq (zdI g.Prog g.Pc).Op 2
     .cases ieq (zdI g.Prog g.Pc).Op 8
      .exact hm
      .cases ieq g.A 0<;>exact hm
     .exact hm
    .exact hm
 .exact h
@[simp] abbrev zyw (g:Guest):Bool:=pc (SmG g)
@[simp] abbrev zoB (g:Guest):Guest:=plainly g
def zCA:Run:=rF1 (dT .guest) fun b=>(zyw b,[aT .guest (zoB b)])
def zIp (N:Nat)(a0:Guest):OA:=
 let y1:=(aT .guest (zcY a0));let y0:=(zgr a0.Prog a0.Pc); (oN (zjW a0) (cond (ine (zhw a0) 2) (oN (zdn a0) (some [(aT .guest (zce a0))])) (oN (zgh a0.Prog a0.Pc) (oN (zdf a0) (oN (zbk a0.A 0 99) (cond (nB (zbr a0.A 0 99)) (some [y1]) (oN (zbk y0.X 0 99) (cond (nB (zbr y0.X 0 99)) (some [y1]) (cond (ieq y0.Op 1) (some [(aT .guest ({ (zcY a0) with A:=y0.X }:Guest))]) (cond (ieq y0.Op 2) (oN (ine 100 0) (some [(aT .guest ({ (zcY a0) with A:=(zmX (zD .i64 a0.A y0.X) 100) }:Guest))])) (cond (ieq y0.Op 8) (cond (ieq a0.A 0) (some [(aT .guest ({ (zcY a0) with Pc:=y0.X }:Guest))]) (some [y1])) (some [y1]))))))))))))
theorem zVc (a0:Guest)(hc:zyw a0=true):∃N,zIp N a0=some [aT .guest (zoB a0)]:=by
 have hs:=zy.1 hc;refine ⟨0,?_⟩;unfold zIp oN nB
 conv=>zeta
 refine must rfl (br (fun _=>mu ?_) (fun _=>must rfl (mu (must rfl (brN (fun _=>?_) (fun _=>must rfl (brN (fun _=>?_) (fun _=>br (fun _=>?_) (fun _=>br (fun _=>must rfl ?_) (fun _=>br (fun _=>br (fun _=>?_) (fun _=>?_)) (fun _=>?_)))))))))))
 all_goals first|rfl|(simp only [*,zoB,plainly,cT,cF]<;>rfl)|simp_all[Ty.cells,zoB,plainly]
theorem zNH:u4 152 zCA:=kF1 zix zi zl zn (zk []) zVc
@[simp] abbrev zyN (g:Guest):Bool:=pc (SmG g)
@[simp] abbrev zs7 (g:Guest):Guest:=plainly g
def zCY:Run:=rF1 (dT .guest) fun b=>(zyN b,[aT .guest (zs7 b)])
def zIQ (N:Nat)(a0:Guest):OA:=
 let y7:=(ieq a0.A 0);let y5:=(zd5 a0);let y1:=(aT .guest (zgw a0));let y0:=(zfT a0.Prog a0.Pc);let y8:=({ a0 with A:=y0.X }:Guest);let y6:=(ieq y0.Op 8);let y4:=(zO y0.X 0 99);let y3:=(aT .guest ({ (zcB a0) with Pc:=y0.X }:Guest));let y2:=({ a0 with A:=(zmX (zD .i64 a0.A y0.X) 100) }:Guest); (oN (zeH a0) (cond (ine (zol a0) 2) (oN (zda a0) (some [(aT .guest (zcB a0))])) (oN (zfz a0.Prog a0.Pc) (oN (zL a0.A 0 99) (cond (zO a0.A 0 99) (oN (zL y0.X 0 99) (cond y4 (cond (ieq y0.Op 1) (oN (zd5 y8) (some [(aT .guest (zgw y8))])) (cond y4 (cond (ieq y0.Op 2) (oN (ine 100 0) (oN (zd5 y2) (some [(aT .guest (zgw y2))]))) (cond y4 (cond y6 (cond y7 (oN (zda a0) (some [y3])) (oN y5 (some [y1]))) (oN y5 (some [y1]))) (oN y5 (some [y1])))) (cond y4 (cond y6 (cond y7 (oN (zda a0) (some [y3])) (oN y5 (some [y1]))) (oN y5 (some [y1]))) (oN y5 (some [y1]))))) (cond y4 (cond (ieq y0.Op 2) (oN (ine 100 0) (oN (zd5 y2) (some [(aT .guest (zgw y2))]))) (cond y4 (cond y6 (cond y7 (oN (zda a0) (some [y3])) (oN y5 (some [y1]))) (oN y5 (some [y1]))) (oN y5 (some [y1])))) (cond y4 (cond y6 (cond y7 (oN (zda a0) (some [y3])) (oN y5 (some [y1]))) (oN y5 (some [y1]))) (oN y5 (some [y1])))))) (oN y5 (some [y1])))))))
theorem zVF (a0:Guest)(hc:zyN a0=true):∃N,zIQ N a0=some [aT .guest (zs7 a0)]:=by
 have hs:=zy.1 hc;have hz:_/\_/\_/\_:=hs
 refine ⟨0,?_⟩;unfold zIQ oN
 conv=>zeta
 refine must rfl (br (fun _=>mu ?_) (fun _=>must rfl (must rfl (br (fun _=>must rfl (br (fun _=>br (fun _=>mu ?_) (fun _=>br (fun _=>br (fun _=>must rfl (mu ?_)) (fun _=>br (fun _=>br (fun _=>br (fun _=>mu ?_) (fun _=>mu ?_)) (fun _=>mu ?_)) (fun _=>mu ?_))) (fun _=>br (fun _=>br (fun _=>br (fun _=>mu ?_) (fun _=>mu ?_)) (fun _=>mu ?_)) (fun _=>mu ?_)))) (fun _=>br (fun _=>br (fun _=>must rfl (mu ?_)) (fun _=>br (fun _=>br (fun _=>br (fun _=>mu ?_) (fun _=>mu ?_)) (fun _=>mu ?_)) (fun _=>mu ?_))) (fun _=>br (fun _=>br (fun _=>br (fun _=>mu ?_) (fun _=>mu ?_)) (fun _=>mu ?_)) (fun _=>mu ?_))))) (fun _=>mu ?_)))))
 all_goals first|rfl|(simp only [*,zs7,plainly,cT,cF]<;>rfl)|simp_all[Ty.cells,zs7,plainly]
theorem zN5:u4 202 zCY:=kF1 zix zi zl zn (zk []) zVF
def address (g:Guest):Int:=bif ine (zG g) 3 then (cond (ine (zG g) 4) (-1) ((zdI g.Prog g.Pc).X)) else (zdI g.Prog g.Pc).X
@[simp] abbrev zrX (g:Guest):Bool:=true
@[simp] abbrev zjE (g:Guest):Int:=address g
def zCK:Run:=rF1 (dT .guest) fun b=>(zrX b,[aI (zjE b)])
def zIz (N:Nat)(a0:Guest):OA:=
 (oN (zeH a0) (cond (ine (zol a0) 3) (cond (ine (zol a0) 4) (some [(aI (-1))]) (oN (zfz a0.Prog a0.Pc) (some [(aI (zfT a0.Prog a0.Pc).X)]))) (oN (zfz a0.Prog a0.Pc) (some [(aI (zfT a0.Prog a0.Pc).X)]))))
theorem zVn (a0:Guest)(hc:zrX a0=true):∃N,zIz N a0=some [aI (zjE a0)]:=by
 refine ⟨0,?_⟩;unfold zIz oN;refine must rfl (br (fun _=>br (fun _=>?_) (fun _=>must rfl ?_)) (fun _=>must rfl ?_))
 all_goals first|rfl|(simp only [*,zjE,address,cT,cF]<;>rfl)|simp_all[Ty.cells,zjE,address]
theorem zNR:u4 265 zCK:=kF1 zix zi zl zn (zk []) zVn
@[simp] abbrev zrG (g:Guest):Bool:=true
@[simp] abbrev zlj (g:Guest):Int:=address g
def zCn:Run:=rF1 (dT .guest) fun b=>(zrG b,[aI (zlj b)])
def zH8 (N:Nat)(a0:Guest):OA:=
 (oN (zjW a0) (cond (ine (zhw a0) 3) (cond (ine (zhw a0) 4) (some [(aI (-1))]) (oN (zgh a0.Prog a0.Pc) (some [(aI (zgr a0.Prog a0.Pc).X)]))) (oN (zgh a0.Prog a0.Pc) (some [(aI (zgr a0.Prog a0.Pc).X)]))))
theorem zUU (a0:Guest)(hc:zrG a0=true):∃N,zH8 N a0=some [aI (zlj a0)]:=by
 refine ⟨0,?_⟩;unfold zH8 oN;refine must rfl (br (fun _=>br (fun _=>?_) (fun _=>must rfl ?_)) (fun _=>must rfl ?_))
 all_goals first|rfl|(simp only [*,zlj,address,cT,cF]<;>rfl)|simp_all[Ty.cells,zlj,address]
theorem zNu:u4 58 zCn:=kF1 zix zi zl zn (zk []) zUU
def zga (g:Guest)(t w:Int):Guest:=bif ieq w 6 then stopped g (zAH (zdI g.Prog g.Pc).X) else (cond (ieq w 5&&zdr t 1) (stopped g (zGY (zdI g.Prog g.Pc).X)) (cond (ieq w 7&&zdr t 2) (stopped g ⟨4,0,false,0⟩) (cond (ieq w 7) (held g) (zbJ g))))
def zhK (t w:Int):Bool:=bif ieq w 6 then false else (cond (ieq w 5&&zdr t 1) false (cond (ieq w 7&&zdr t 2) false true))
@[simp] theorem zGx {g:Guest}(t w:Int)(h:SmG g):SmG (zga g t w):=by
 unfold zga;cases ieq w 6
 .cases (ieq w 5&&zdr t 1)
  .cases (ieq w 7&&zdr t 2)
   .cases ieq w 7
    .exact zjI h
    .exact zZn h
   .exact h
  .exact h
 .exact h
@[simp] abbrev zdN (g:Guest)(t w:Int):Bool:=pc (SmG g)
@[simp] abbrev zb2 (g:Guest)(t w:Int):Guest:=zga g t w
@[simp] abbrev zdb (g:Guest)(t w:Int):Bool:=zhK t w
def zC7:Run:=rF3 (dT .guest) dI dI fun b c d=>(zdN b c d,[aT .guest (zb2 b c d),aB (zdb b c d)])
def zIZ (N:Nat)(a0:Guest)(a1 a2:Int):OA:=
 let y3:=(aT .guest (zgw a0));let y2:=(aT .guest (zAu a0));let y1:=(⟨4,0,false,0⟩:GExit);let y0:=(zfT a0.Prog a0.Pc).X; (oN (zfz a0.Prog a0.Pc) (cond (ieq a2 6) (oN (zwe y0) (oN (zd7 a0 (zmv y0)) (some [(aT .guest (zdA a0 (zmv y0))),(aB false)]))) (cond (ieq a2 5) (oN (ziN a1 1) (cond (zih a1 1) (oN (zyL y0) (oN (zd7 a0 (zoH y0)) (some [(aT .guest (zdA a0 (zoH y0))),(aB false)]))) (cond (ieq a2 7) (oN (ziN a1 2) (cond (zih a1 2) (oN (zd7 a0 y1) (some [(aT .guest (zdA a0 y1)),(aB false)])) (cond (ieq a2 7) (oN (zoi a0) (some [y2,(aB true)])) (oN (zd5 a0) (some [y3,(aB true)]))))) (cond (ieq a2 7) (oN (zoi a0) (some [y2,(aB true)])) (oN (zd5 a0) (some [y3,(aB true)])))))) (cond (ieq a2 7) (oN (ziN a1 2) (cond (zih a1 2) (oN (zd7 a0 y1) (some [(aT .guest (zdA a0 y1)),(aB false)])) (cond (ieq a2 7) (oN (zoi a0) (some [y2,(aB true)])) (oN (zd5 a0) (some [y3,(aB true)]))))) (cond (ieq a2 7) (oN (zoi a0) (some [y2,(aB true)])) (oN (zd5 a0) (some [y3,(aB true)])))))))
theorem zVR (a0:Guest)(a1 a2:Int)(hc:zdN a0 a1 a2=true):∃N,zIZ N a0 a1 a2=some [aT .guest (zb2 a0 a1 a2),aB (zdb a0 a1 a2)]:=by
 have hs:=zy.1 hc;refine ⟨0,?_⟩;unfold zIZ oN
 conv=>zeta
 refine must rfl (br (fun _=>must rfl (mu ?_)) (fun _=>br (fun _=>must rfl (br (fun _=>must rfl (mu ?_)) (fun _=>br (fun _=>must rfl (br (fun _=>mu ?_) (fun _=>br (fun _=>mu ?_) (fun _=>mu ?_)))) (fun _=>br (fun _=>mu ?_) (fun _=>mu ?_))))) (fun _=>br (fun _=>must rfl (br (fun _=>mu ?_) (fun _=>br (fun _=>mu ?_) (fun _=>mu ?_)))) (fun _=>br (fun _=>mu ?_) (fun _=>mu ?_)))))
 all_goals first|rfl|(simp only [*,zb2,zdb,zga,zhK,cT,cF]<;>rfl)|simp_all[Ty.cells,zb2,zdb,zga,zhK]
theorem zOh:u4 272 zC7:=kF3 zix zi zl zn (zk []) zVR
def zbQ (b:Bare):Bool:=bif b.Guests.all zcP then (ziX b.Memory 8&&(win (ln b.Guests) 1 2&&(ile (ln b.Outs) 40&&zeX b.Pending))) else false
@[simp] abbrev zpY (b:Bare):Bool:=true
@[simp] abbrev zeJ (b:Bare):Bool:=zbQ b
def zFV:Run:=rF1 (dT .bare) fun b=>(zpY b,[aB (zeJ b)])
def zMA (N:Nat)(a0:Bare):OA:=
 (iter (σ:=(Int×(Int×(lM×(lG×((List Int)×Unit)))))) N (fun r2 s3=>let y0:=s3.2.2.2.1; (cond (ilt s3.1 (ln y0)) (oN (inb s3.1 (ln y0)) (oN (znu (ix y0 s3.1 zo)) (cond (nB (zlF (ix y0 s3.1 zo))) oF (r2 ((zD .i64 s3.1 1),(s3.2.1,(s3.2.2.1,(y0,(s3.2.2.2.2.1,()))))))))) (oN (zs5 s3.2.2.1 8) (cond (zmF s3.2.2.1 8) (oN (zL (ln y0) 1 2) (cond (zO (ln y0) 1 2) (cond (ile (ln s3.2.2.2.2.1) 40) (oN (zfm s3.2.1) (some [(aB (zfl s3.2.1))])) oF) oF)) oF)))) (0,(a0.Pending,(a0.Memory,(a0.Guests,(a0.Outs,()))))))
def zZM:FuncId->Nat->Option Tmpl:=zk [(283,0,{ n:=38,tm:=[(1,.lp 0 0),(3,ti)],lo:=[(0,[.sl 0 [],.sl 1 [],.sl 2 [],ti])],ro:=[(0,(.sl .int),false),(1,.guest,false),(2,.int,false)] })]
theorem zX4 (a0:Bare)(hb:zbC big [aT .bare a0])(hc:zpY a0=true):∃N,zMA N a0=some [aB (zeJ a0)]:=by
 have hl:(_:List _).length<=big:=((zcL hb).1 (.s .guest a0.Guests) (by simp[AV.cvs,Ty.cells])).len
 refine zbV fun N hNN=>?_;unfold zMA oN nB
 conv=>zeta
 refine (zbb a0.Guests (fun i (t:Unit)=>((i:Int),a0.Pending,a0.Memory,a0.Guests,a0.Outs,())) _ (fun _ x (_:Unit) κ=>bif (zcP) x then κ () else oF) (fun (t:Unit)=>(cond (zs5 a0.Memory 8) (cond (zmF a0.Memory 8) (cond (zL (ln a0.Guests) 1 2) (cond (zO (ln a0.Guests) 1 2) (cond (ile (ln a0.Outs) 40) (cond (zfm a0.Pending) (some [(.one (.b (zfl a0.Pending)))]) none) oF) oF) none) oF) none)) (fun i hi t rec=>?_) (fun t rec=>?_) _ () (hNN hl)).trans ?_
 .simp only [zbi hi,zQ hi,zbc hi,zU hi hl,cT];exact ziv rfl
 .simp only [zbe,cF]
 rw[zgq (zcP)];refine br (fun h0=>?_) (fun h0=>?_)
 .refine must rfl ?_;refine br (fun h1=>?_) (fun h1=>?_)
  .refine must rfl ?_;refine br (fun h2=>?_) (fun h2=>?_)
   .refine br (fun h3=>?_) (fun h3=>?_)
    .refine must rfl ?_
     first|rfl|(simp only [h0,h1,h2,h3,zeJ,zbQ,cT,cF]<;>rfl)|(simp_all [Ty.cells,zeJ,zbQ];done)
    .first|rfl|(simp only [h0,h1,h2,h3,zeJ,zbQ,cT,cF]<;>rfl)|(simp_all [Ty.cells,zeJ,zbQ];done)
   .first|rfl|(simp only [h0,h1,h2,zeJ,zbQ,cT,cF]<;>rfl)|(simp_all [Ty.cells,zeJ,zbQ];done)
  .first|rfl|(simp only [h0,h1,zeJ,zbQ,cT,cF]<;>rfl)|(simp_all [Ty.cells,zeJ,zbQ];done)
 .first|rfl|(simp only [h0,zeJ,zbQ,cT,cF]<;>rfl)|(simp_all [Ty.cells,zeJ,zbQ];done)
theorem zQS:u4 283 zFV:=hF1 zix zi zl zn zZM zX4
@[simp] abbrev zdj (b:Bare):Bool:=true
@[simp] abbrev zcl (b:Bare):Bool:=zbQ b
def zFq:Run:=rF1 (dT .bare) fun b=>(zdj b,[aB (zcl b)])
def zL6 (N:Nat)(a0:Bare):OA:=
 (iter (σ:=(Int×(Int×(Int×(lG×(lM×((List Int)×Unit))))))) N (fun r2 s3=>let y0:=s3.2.2.2.1;let y1:=(ix y0 s3.2.1 zo); (cond (ilt s3.2.1 s3.1) (oN (inb s3.2.1 (ln y0)) (oN (zm8 y1) (cond (nB (zlm y1)) oF (r2 (s3.1,((zD .i64 s3.2.1 1),(s3.2.2.1,(y0,(s3.2.2.2.2.1,(s3.2.2.2.2.2.1,())))))))))) (oN (zsM s3.2.2.2.2.1 8) (cond (zme s3.2.2.2.2.1 8) (oN (zbk (ln y0) 1 2) (cond (zbr (ln y0) 1 2) (cond (ile (ln s3.2.2.2.2.2.1) 40) (oN (zh7 s3.2.2.1) (some [(aB (ziD s3.2.2.1))])) oF) oF)) oF)))) ((ln a0.Guests),(0,(a0.Pending,(a0.Guests,(a0.Memory,(a0.Outs,())))))))
def zZC:FuncId->Nat->Option Tmpl:=zk [(148,0,{ n:=36,tm:=[(1,.lp 0 0),(6,.sl 0 []),(7,ti),(8,ti)],lo:=[(0,[.sl 1 [],.sl 0 [],.sl 2 [],ti])],ro:=[(0,.guest,false),(1,(.sl .int),false),(2,.int,false)] })]
theorem zXy (a0:Bare)(hb:zbC big [aT .bare a0])(hc:zdj a0=true):∃N,zL6 N a0=some [aB (zcl a0)]:=by
 have hl:(_:List _).length<=big:=((zcL hb).1 (.s .guest a0.Guests) (by simp[AV.cvs,Ty.cells])).len
 refine zbV fun N hNN=>?_;unfold zL6 oN nB
 conv=>zeta
 refine (zbb a0.Guests (fun i (t:Unit)=>((ln a0.Guests),(i:Int),a0.Pending,a0.Guests,a0.Memory,a0.Outs,())) _ (fun _ x (_:Unit) κ=>bif (zcP) x then κ () else oF) (fun (t:Unit)=>(cond (zsM a0.Memory 8) (cond (zme a0.Memory 8) (cond (zbk (ln a0.Guests) 1 2) (cond (zbr (ln a0.Guests) 1 2) (cond (ile (ln a0.Outs) 40) (cond (zh7 a0.Pending) (some [(.one (.b (ziD a0.Pending)))]) none) oF) oF) none) oF) none)) (fun i hi t rec=>?_) (fun t rec=>?_) _ () (hNN hl)).trans ?_
 .simp only [zbi hi,zQ hi,zbc hi,zU hi hl,cT];exact ziv rfl
 .simp only [zbe,cF]
 rw[zgq (zcP)];refine br (fun h0=>?_) (fun h0=>?_)
 .refine must rfl ?_;refine br (fun h1=>?_) (fun h1=>?_)
  .refine must rfl ?_;refine br (fun h2=>?_) (fun h2=>?_)
   .refine br (fun h3=>?_) (fun h3=>?_)
    .refine must rfl ?_
     first|rfl|(simp only [h0,h1,h2,h3,zcl,zbQ,cT,cF]<;>rfl)|(simp_all [Ty.cells,zcl,zbQ];done)
    .first|rfl|(simp only [h0,h1,h2,h3,zcl,zbQ,cT,cF]<;>rfl)|(simp_all [Ty.cells,zcl,zbQ];done)
   .first|rfl|(simp only [h0,h1,h2,zcl,zbQ,cT,cF]<;>rfl)|(simp_all [Ty.cells,zcl,zbQ];done)
  .first|rfl|(simp only [h0,h1,zcl,zbQ,cT,cF]<;>rfl)|(simp_all [Ty.cells,zcl,zbQ];done)
 .first|rfl|(simp only [h0,zcl,zbQ,cT,cF]<;>rfl)|(simp_all [Ty.cells,zcl,zbQ];done)
theorem zQn:u4 148 zFq:=hF1 zix zi zl zn zZC zXy
@[simp] abbrev zbF (b:Bare):Bool:=pc (SmB b)
@[simp] abbrev zbu (b:Bare):Bare:=b
def zzZ:Run:=rF1 (dT .bare) fun b=>(zbF b,[aT .bare (zbu b)])
def zDW (N:Nat)(a0:Bare):OA:=
 (oN (zf1 a0.Memory) (oN (zch a0.Guests) (oN (zdu a0.Outs) (some [(aT .bare (⟨(zdg a0.Memory),(zcF a0.Guests),(zdl a0.Outs),a0.Pending⟩:Bare))]))))
theorem zRR (a0:Bare)(hc:zbF a0=true):∃N,zDW N a0=some [aT .bare (zbu a0)]:=by
 have hs:=zy.1 hc;have hz:_/\_/\_:=hs
 refine ⟨0,?_⟩;unfold zDW oN;refine mu (mu (mu ?_))
 first|rfl|(simp only [*,zbu,cT,cF]<;>rfl)|simp_all[Ty.cells,zbu]
theorem zKH:u4 149 zzZ:=kF1 zix zi zl zn (zk []) zRR
@[simp] abbrev ze5 (b:Bare):Bool:=pc (SmB b)
@[simp] abbrev zb6 (b:Bare):Bare:=b
def zC6:Run:=rF1 (dT .bare) fun b=>(ze5 b,[aT .bare (zb6 b)])
def zIY (N:Nat)(a0:Bare):OA:=
 (oN (zf4 a0.Memory) (oN (zfB a0.Guests) (oN (few (ln (ap [] a0.Outs))) (some [(aT .bare (⟨(zev a0.Memory),(zf7 a0.Guests),(ap [] a0.Outs),a0.Pending⟩:Bare))]))))
theorem zVQ (a0:Bare)(hc:ze5 a0=true):∃N,zIY N a0=some [aT .bare (zb6 a0)]:=by
 have hs:=zy.1 hc;have hz:_/\_/\_:=hs
 refine ⟨0,?_⟩;unfold zIY oN;refine mu (mu (mu ?_))
 first|rfl|(simp only [*,zb6,cT,cF]<;>rfl)|simp_all[Ty.cells,zb6]
theorem zOg:u4 273 zC6:=kF1 zix zi zl zn (zk []) zVQ
def z9C:zV:=[(202,zCY),(152,zCA),(265,zCK),(58,zCn),(272,zC7),(283,zFV),(148,zFq),(149,zzZ),(273,zC6)]++z9B
theorem zKf:zJ z9C:=zf zN5 (zf zNH (zf zNR (zf zNu (zf zOh (zf zQS (zf zQn (zf zKH (zf zOg zix))))))))
def zeK (b:Bare)(i:Int)(x:Guest):Bare:={ b with Guests:=up b.Guests i x }
def zdC (b:Bare)(i:Int)(x:Guest):Bare:=bif hasB i (ln b.Guests) then zeK b i x else b
def zpK (b:Bare)(n:Int):Bare:=bif ilt (ln b.Outs) 40 then { b with Outs:=ap b.Outs [n] } else b
@[simp] theorem zon {b:Bare}{i:Int}{x:Guest}(h:SmB b)(hx:SmG x):SmB (zeK b i x):=⟨h.1,zG7 h.2.1 hx,h.2.2⟩
@[simp] theorem zPB {b:Bare}{n:Int}(h:SmB b):SmB (zpK b n):=by
 unfold zpK;cases h1:ilt (ln b.Outs) 40
 .exact h
 .have:=qD h1;refine ⟨h.1,h.2.1,?_⟩;simp[ln] at *;omega
@[simp] theorem zbdk (b:Bare)(n:Int):(zpK b n).Guests=b.Guests:=by
 unfold zpK;cases ilt (ln b.Outs) 40<;>rfl
@[simp] theorem zww {m:List (List Int)}{p c v:Int}(h:SmM m):SmM (zer m p c v):=by
 unfold zer;cases h1:zjk m p c
 .exact h
 .cases h2:win v 0 99
  .exact h
  .exact zPE h (by simpa using zbco h ((zBj m p c).1 h1).1 [])
@[simp] abbrev zbn (b:Bare)(i:Int)(x:Guest):Bool:=pc (SmB b/\SmG x)
@[simp] abbrev zb1 (b:Bare)(i:Int)(x:Guest):Bare:=zdC b i x
def zxn:Run:=rF3 (dT .bare) dI (dT .guest) fun b c d=>(zbn b c d,[aT .bare (zb1 b c d)])
def zB0 (N:Nat)(a0:Bare)(a1:Int)(a2:Guest):OA:=
 (oN (zbF a0) (oN (zbx a1 (ln a0.Guests)) (cond (zbK a1 (ln a0.Guests)) (oN (zdn a2) (oN (inb a1 (ln (zbu a0).Guests)) (share (up (zbu a0).Guests a1 (zce a2)) (fun x4=>(some [(aT .bare ({ (zbu a0) with Guests:=x4 }:Bare))]))))) (some [(aT .bare (zbu a0))]))))
theorem zOH (a0:Bare)(a1:Int)(a2:Guest)(hc:zbn a0 a1 a2=true):∃N,zB0 N a0 a1 a2=some [aT .bare (zb1 a0 a1 a2)]:=by
 have hs:=zy.1 hc;refine ⟨0,?_⟩;unfold zB0 oN;refine mu (must rfl (br (fun _=>mu (mu (shr ?_))) (fun _=>?_)))
 all_goals first|rfl|(simp only [*,zb1,zdC,zeK,cT,cF]<;>rfl)|simp_all[Ty.cells,zb1,zdC,zeK]
theorem zHk:u4 150 zxn:=kF3 zKf zi zl zn (zk []) zOH
@[simp] abbrev zul (b:Bare)(n:Int):Bool:=pc (SmB b)
@[simp] abbrev zqL (b:Bare)(n:Int):Bare:=zpK b n
def zFK:Run:=rF2 (dT .bare) dI fun b c=>(zul b c,[aT .bare (zqL b c)])
def zMp (N:Nat)(a0:Bare)(a1:Int):OA:=
 (oN (zbF a0) (cond (ilt (ln a0.Outs) 40) (oN (few (ln (ap (zbu a0).Outs [a1]))) (some [(aT .bare ({ (zbu a0) with Outs:=(ap (zbu a0).Outs [a1]) }:Bare))])) (some [(aT .bare (zbu a0))])))
theorem zXT (a0:Bare)(a1:Int)(hc:zul a0 a1=true):∃N,zMp N a0 a1=some [aT .bare (zqL a0 a1)]:=by
 have hs:=zy.1 hc;have hz:a0.Outs.length<=1048576:=hs.2.2
 refine ⟨0,?_⟩;unfold zMp oN;refine mu (br (fun _=>mu ?_) (fun _=>?_))
 all_goals first|rfl|(simp only [*,zqL,zpK,cT,cF]<;>rfl)|simp_all[Ty.cells,zqL,zpK]
theorem zQH:u4 156 zFK:=kF2 zKf zi zl zn (zk []) zXT
def z2N:zV:=[(150,zxn),(156,zFK)]++z9C
theorem zn1:zJ z2N:=zf zHk (zf zQH zKf)
def zu9 (b:Bare)(g:Int)(x:Guest)(w:Bool):Bare :=
 bif zgG x.Live (zb0 (address x)) (zff w) then
  (bif w then zeK { b with Memory:=zer b.Memory (zcI x.Live (zb0 (address x)) (zff w)) (zfF (address x)) x.A } g (zbJ x)
  else zeK b g (loaded x (cellAt b.Memory (zcI x.Live (zb0 (address x)) (zff w)) (zfF (address x)))))
 else zeK b g (stopped x (zwT (zb0 (address x)) w))
def zva (b:Bare)(g:Int)(x:Guest)(w:Int):Bare :=
 zeK (cond (cond (zhK x.Ctl.Traps w) (ieq w 5) false) (zpK b (zdI x.Prog x.Pc).X) b) g (zga x x.Ctl.Traps w)
def stepped (b:Bare)(g:Int)(x:Guest)(w:Int):Bare :=
 bif ieq w 1 then zeK b g (interrupted x) else (cond (ieq w 2) (zeK b g (plainly x)) (cond (ieq w 3) (zu9 b g x false) (cond (ieq w 4) (zu9 b g x true) (zva b g x w))))
theorem tr1 (x:Guest)(t w:Int):ieq w 6=true->zga x t w=stopped x (zAH (zdI x.Prog x.Pc).X)/\zhK t w=false:=by
 intro h;simp[zga,zhK,h]
theorem tr2 (x:Guest)(t w:Int):ieq w 6=false->(ieq w 5=false->ieq w 6=false->ieq w 7=true)->zdr t (zfs w)=true->zga x t w=zrp x w/\zhK t w=false:=by
 intro h6 h7 h;unfold zga zhK zrp zfs at *;cases h5:ieq w 5<;>simp_all
theorem tr3 (x:Guest)(t w:Int):ieq w 6=false->ieq w 7=false->zdr t (zfs w)=false->ieq w 5=true->zga x t w=zbJ x/\zhK t w=true:=by
 intro h6 h7 h h5;unfold zga zhK zfs at *
 simp_all
theorem tr4 (x:Guest)(t w:Int):ieq w 6=false->(ieq w 5=false->ieq w 6=false->ieq w 7=true)->zdr t (zfs w)=false->ieq w 5=false->zga x t w=held x:=by
 intro h6 h7 h h5;unfold zga zfs at *
 simp_all
def zqA (b:Bare)(g:Int):Bool:=bif hasB g (ln b.Guests) then (cond (zbQ b) (!ieq (zG (gAt b g)) 0) false) else false
def zk8 (b:Bare)(g:Int):Bare:=bif zqA b g then stepped b g (gAt b g) (zG (gAt b g)) else b
@[simp] theorem z2h {b:Bare}{g:Int}{x:Guest}{w:Bool}(h:SmB b)(hx:SmG x):SmB (zu9 b g x w):=by
 unfold zu9;cases zgG x.Live (zb0 (address x)) (zff w)
 .exact zon h hx
 .cases w
  .exact zon h (zPC _ hx)
  .exact ⟨zww h.1,zG7 h.2.1 (zjI hx),h.2.2⟩
@[simp] theorem zbbn {b:Bare}{g:Int}{x:Guest}{w:Int}(h:SmB b)(hx:SmG x):SmB (zva b g x w):=by
 unfold zva;cases (cond (zhK x.Ctl.Traps w) (ieq w 5) false)
 .exact zon h (zGx _ _ hx)
 .exact zon (zPB h) (zGx _ _ hx)
@[simp] theorem z1w {b:Bare}{g:Int}{x:Guest}{w:Int}(h:SmB b)(hx:SmG x):SmB (stepped b g x w):=by
 unfold stepped;cases ieq w 1
 .cases ieq w 2
  .cases ieq w 3
   .cases ieq w 4
    .exact zbbn h hx
    .exact z2h h hx
   .exact z2h h hx
  .exact zon h (zJR hx)
 .exact zon h (z2i hx)
@[simp] theorem zbdm {b:Bare}{g:Int}(h:SmB b):SmB (zk8 b g):=by
 unfold zk8;cases zqA b g
 .exact h
 .exact z1w h (zeZ g h)
theorem z4D (x:Guest):ieq (zG x) 0=false->ieq (zG x) 1=false->ieq (zG x) 2=false->ieq (zG x) 3=false->ieq (zG x) 4=false->ieq (zG x) 5=false->ieq (zG x) 6=false->ieq (zG x) 7=true:=by
 unfold zG zzF;cases canRun x
 .intro h;cases h
 .cases ziS x
  .simp only [cT,cF];generalize (zdI x.Prog x.Pc).Op=o;cases ieq o 3<;>cases ieq o 4<;>cases ieq o 5<;>cases ieq o 6<;>cases ieq o 7<;>simp [ieq]
  .intro _ h;cases h
theorem zRp {x:Int}{a b:Int}(h:ieq x a=true)(hab:ieq a b=false):ieq x b=false:=by
 have:x=a:=by simpa [ieq] using h
 rw[this];exact hab
@[simp] abbrev zvB (b:Bare)(g:Int):Bool:=pc (SmB b)
@[simp] abbrev zi6 (b:Bare)(g:Int):Bare:=zk8 b g
@[simp] abbrev zo6 (b:Bare)(g:Int):Bool:=zqA b g
def zq2:Run:=rF2 (dT .bare) dI fun b c=>(zvB b c,[aT .bare (zi6 b c),aB (zo6 b c)])
def zDF (N:Nat)(a0:Bare)(a1:Int):OA:=
 let y21:=a0.Memory;let y12:=(aT .bare (zbu a0));let y0:=(zc4 a0 a1);let y20:=y0.Ctl.Traps;let y18:=(aT .bare (zb1 a0 a1 (zi8 y0)));let y6:=(zhw y0);let y15:=(aT .bare (zb1 a0 a1 (zjC y0 y6)));let y4:=(zlj y0);let y16:=(zdU y4);let y10:=(zbZ y4);let y3:=(ieq y6 4);let y8:=(ziC y10 y3);let y13:=(aT .bare (zb1 a0 a1 (zeS y0 y8)));let y2:=(zgr y0.Prog y0.Pc).X;let y19:=(zbn (zqL a0 y2) a1 (zcY y0));let y11:=(aT .bare (zb1 (zqL a0 y2) a1 (zcY y0)));let y9:=(zeS y0 (zjS y2));let y1:=(zhQ y0.Live y10 (zeI y3));let y7:=(zlk y21 y1 y16);let y14:=(aT .bare (zb1 a0 a1 (zlp y0 y7)));let y5:=({ a0 with Memory:=(zf0 y21 y1 y16 y0.A) }:Bare);let y17:=(aT .bare (zb1 y5 a1 (zlt y0))); (oN (zc6 a0 a1) (oN (zjW y0) (oN (zdj a0) (cond (nB (zcl a0)) (oN (zbF a0) (some [y12,(aB false)])) (cond (nB (zc5 a0 a1)) (oN (zbF a0) (some [y12,(aB false)])) (cond (ieq y6 0) (oN (zbF a0) (some [y12,(aB false)])) (oN (zrG y0) (oN (zgh y0.Prog y0.Pc) (cond (ieq y6 1) (oN (zpj y0) (oN (zbn a0 a1 (zhP y0)) (some [(aT .bare (zb1 a0 a1 (zhP y0))),(aB true)]))) (cond (ieq y6 2) (oN (zyw y0) (oN (zbn a0 a1 (zoB y0)) (some [(aT .bare (zb1 a0 a1 (zoB y0))),(aB true)]))) (cond (ieq y6 3) (cond (ieq y6 3) (oN (zez y4) (oN (zpn y3) (oN (zkf y0.Live y10 (zeI y3)) (cond (nB (zgC y0.Live y10 (zeI y3))) (oN (zez y4) (oN (zka y10 y3) (oN (zdK y0 y8) (oN (zbn a0 a1 (zeS y0 y8)) (some [y13,(aB true)]))))) (cond y3 (oN (zey y4) (oN (zfc y21 y1 y16 y0.A) (oN (zps y0) (oN (zbn y5 a1 (zlt y0)) (some [y17,(aB true)]))))) (oN (zey y4) (oN (zmc y21 y1 y16) (oN (zpm y0 y7) (oN (zbn a0 a1 (zlp y0 y7)) (some [y14,(aB true)])))))))))) (cond (ieq y6 6) (oN (zo9 y2) (oN (zdK y0 (zjS y2)) (oN (zbn a0 a1 y9) (some [(aT .bare (zb1 a0 a1 y9)),(aB true)])))) (oN (zpw y6) (oN (zky y20 (zhx y6)) (cond (zjB y20 (zhx y6)) (oN (znk y0 y6) (oN (zbn a0 a1 (zjC y0 y6)) (some [y15,(aB true)]))) (cond (ieq y6 5) (oN (zul a0 y2) (oN (zdf y0) (oN y19 (some [y11,(aB true)])))) (oN (zjT y0) (oN (zbn a0 a1 (zi8 y0)) (some [y18,(aB true)]))))))))) (cond y3 (oN (zez y4) (oN (zpn y3) (oN (zkf y0.Live y10 (zeI y3)) (cond (nB (zgC y0.Live y10 (zeI y3))) (oN (zez y4) (oN (zka y10 y3) (oN (zdK y0 y8) (oN (zbn a0 a1 (zeS y0 y8)) (some [y13,(aB true)]))))) (cond y3 (oN (zey y4) (oN (zfc y21 y1 y16 y0.A) (oN (zps y0) (oN (zbn y5 a1 (zlt y0)) (some [y17,(aB true)]))))) (oN (zey y4) (oN (zmc y21 y1 y16) (oN (zpm y0 y7) (oN (zbn a0 a1 (zlp y0 y7)) (some [y14,(aB true)])))))))))) (cond (ieq y6 6) (oN (zo9 y2) (oN (zdK y0 (zjS y2)) (oN (zbn a0 a1 y9) (some [(aT .bare (zb1 a0 a1 y9)),(aB true)])))) (oN (zpw y6) (oN (zky y20 (zhx y6)) (cond (zjB y20 (zhx y6)) (oN (znk y0 y6) (oN (zbn a0 a1 (zjC y0 y6)) (some [y15,(aB true)]))) (cond (ieq y6 5) (oN (zul a0 y2) (oN (zdf y0) (oN y19 (some [y11,(aB true)])))) (oN (zjT y0) (oN (zbn a0 a1 (zi8 y0)) (some [y18,(aB true)]))))))))))))))))))))
theorem zRz (a0:Bare)(a1:Int)(hc:zvB a0 a1=true):∃N,zDF N a0 a1=some [aT .bare (zi6 a0 a1),aB (zo6 a0 a1)]:=by
 have hs:=zy.1 hc;have hx:=zeZ a1 hs;have hz:_/\_/\_:=hs;have hg:a0.Guests.length<=1048576:=hs.2.1.1;have hw7:=z4D (gAt a0 a1);have h34:ieq (zG (gAt a0 a1)) 3=true->ieq (zG (gAt a0 a1)) 4=false:=fun h=>zRp h rfl;have h57:ieq (zG (gAt a0 a1)) 5=true->ieq (zG (gAt a0 a1)) 7=false:=fun h=>zRp h rfl;have t1:=tr1 (gAt a0 a1) (gAt a0 a1).Ctl.Traps (zG (gAt a0 a1));have t2:=tr2 (gAt a0 a1) (gAt a0 a1).Ctl.Traps (zG (gAt a0 a1));have t3:=tr3 (gAt a0 a1) (gAt a0 a1).Ctl.Traps (zG (gAt a0 a1));have t4:=tr4 (gAt a0 a1) (gAt a0 a1).Ctl.Traps (zG (gAt a0 a1));have hp:∀n,SmB (zpK a0 n):=fun n=>zPB hs
 refine ⟨0,?_⟩;unfold zDF oN nB
 conv=>zeta
 refine mu (must rfl (must rfl (brN (fun _=>mu ?_) (fun _=>brN (fun _=>mu ?_) (fun _=>br (fun _=>mu ?_) (fun _=>must rfl (must rfl (br (fun _=>mu (mu ?_)) (fun _=>br (fun _=>mu (mu ?_)) (fun _=>br (fun _=>br (fun _=>must rfl (must rfl (must rfl (brN (fun _=>must rfl (must rfl (mu (mu ?_)))) (fun _=>br (fun _=>must rfl (mu (mu (mu ?_)))) (fun _=>must rfl (must rfl (mu (mu ?_))))))))) (fun _=>br (fun _=>must rfl (mu (mu ?_))) (fun _=>must rfl (must rfl (br (fun _=>mu (mu ?_)) (fun _=>br (fun _=>mu (mu (mu ?_))) (fun _=>mu (mu ?_)))))))) (fun _=>br (fun _=>must rfl (must rfl (must rfl (brN (fun _=>must rfl (must rfl (mu (mu ?_)))) (fun _=>br (fun _=>must rfl (mu (mu (mu ?_)))) (fun _=>must rfl (must rfl (mu (mu ?_))))))))) (fun _=>br (fun _=>must rfl (mu (mu ?_))) (fun _=>must rfl (must rfl (br (fun _=>mu (mu ?_)) (fun _=>br (fun _=>mu (mu (mu ?_))) (fun _=>mu (mu ?_))))))))))))))))))
 all_goals first|rfl|(simp only [*,zi6,zo6,zk8,zqA,stepped,zu9,zva,zdC,zff,cT,cF]<;>rfl)|simp_all[Ty.cells,zi6,zo6,zk8,zqA,stepped,zu9,zva,zdC,zff]
theorem zvs:u4 70 zq2:=kF2 zn1 zi zl zn (zk []) zRz
def SmK (k:Kept):Prop:=k.Known.length<=1048576/\k.Slots.length<=1048576
def zEr (l:List Kept):Prop:=l.length<=1048576/\∀x∈l,SmK x
def zes (m:Mon):Prop:=m.Outer.length<=1048576/\SmM m.Out/\m.Dirty.length<=1048576/\znY m.Guests/\m.Outs.length<=1048576/\zEr m.Tables
def zoW (l:List Mon):Prop:=l.length<=1048576/\∀x∈l,zes x
def SmH (h:Host):Prop:=SmM h.Memory/\zoW h.Mons/\h.Buffer.length<=1048576/\h.IoBuffer.length<=1048576
@[simp] theorem zzk (k:Kept):(∀c∈Ty.cells .kept k,CVB sm c)↔SmK k:=by simp[Ty.cells,SmK,z8x]
@[simp] theorem z7H (l:List Kept):CVB sm (.s .kept l)↔zEr l:=by rw[zl6];simp only[zzk];rfl
@[simp] theorem z1O (m:Mon):(∀c∈Ty.cells .mon m,CVB sm c)↔zes m:=by
 simp only[Ty.cells,qI,qX,or_false,u2,forall_eq,zqB,zwR,z7H,z2W,z0e,z0d,z9P,and_true,true_and];rfl
@[simp] theorem zbaL (l:List Mon):CVB sm (.s .mon l)↔zoW l:=by rw[zl6];simp only[z1O];rfl
@[simp] theorem zF (h:Host):zbA h↔SmH h:=by
 unfold zbA;simp only[zS,qI,qX,or_false,u2,forall_eq,zqB,zbaL,zW8];rfl
theorem zbf {p:Prop}(h:p):pc p=true:=zN h
theorem zu8 {l:List Kept}{i:Int}{x:Kept}(h:zEr l)(hx:SmK x):zEr (up l i x):=by
 refine ⟨by simpa using h.1,fun y hy=>?_⟩
 rcases jP hy with hy|rfl
 .exact h.2 y hy
 .exact hx
theorem zis {l:List Mon}{i:Int}{x:Mon}(h:zoW l)(hx:zes x):zoW (up l i x):=by
 refine ⟨by simpa using h.1,fun y hy=>?_⟩
 rcases jP hy with hy|rfl
 .exact h.2 y hy
 .exact hx
theorem zos {α:Type}{l:List α}(h:l.length<=1048576):few (ln (ap [] l))=true:=by
 rw[zm4,zbaT];omega
@[simp] abbrev zbI (h:Host):Bool:=pc (zbA h)
@[simp] abbrev zu (h:Host):Host:=h
def zC8:Run:=rF1 dH fun b=>(zbI b,[aH (zu b)])
def zI0 (N:Nat)(a0:Host):OA:=
 (oN (zf4 a0.Memory) (oN (few (ln (ap [] a0.Buffer))) (oN (few (ln (ap [] a0.IoBuffer))) (iter (σ:=(Int×(lM×(lN×(lE×(lE×(lM×(lN×(lE×(lE×(lM×(lN×(lE×(lE×Unit)))))))))))))) N (fun r2 s3=>let y2:=s3.2.2.2.2.2.2.2.2.2.2.2.2.1;let y1:=(ix s3.2.2.1 s3.1 zh);let y0:=(ap s3.2.2.2.2.2.2.2.2.2.2.1 [(zrm y1)]); (cond (ilt s3.1 (ln s3.2.2.1)) (oN (inb s3.1 (ln s3.2.2.1)) (oN (zqq y1) (oN (few (ln y0)) (r2 ((zD .i64 s3.1 1),(s3.2.1,(s3.2.2.1,(s3.2.2.2.1,(s3.2.2.2.2.1,(s3.2.2.2.2.2.1,(s3.2.2.2.2.2.2.1,(s3.2.2.2.2.2.2.2.1,(s3.2.2.2.2.2.2.2.2.1,(s3.2.2.2.2.2.2.2.2.2.1,(y0,(s3.2.2.2.2.2.2.2.2.2.2.2.1,(y2,()))))))))))))))))) (some [(aH (⟨s3.2.2.2.2.2.2.2.2.2.1,s3.2.2.2.2.2.2.2.2.2.2.1,s3.2.2.2.2.2.2.2.2.2.2.2.1,y2⟩:Host))]))) (0,(a0.Memory,(a0.Mons,(a0.Buffer,(a0.IoBuffer,([],([],([],([],((zev a0.Memory),([],((ap [] a0.Buffer),((ap [] a0.IoBuffer),())))))))))))))))))
def zWf:FuncId->Nat->Option Tmpl:=zk [(107,0,{ n:=36,tm:=[(1,.lp 0 0),(2,.lp 1 0),(3,.lp 2 0),(4,ti)],lo:=[(0,[.sl 0 [],.sl 1 [],.sl 2 [],.sl 3 []]),(1,[.sl 4 [],.sl 5 [],.sl 6 [],.sl 7 []]),(2,[.sl 8 [],.sl 9 [],.sl 10 [],.sl 11 []])],ro:=[(0,(.sl .int),false),(1,.mon,false),(2,.entry,false),(3,.entry,false),(4,(.sl .int),true),(5,.mon,true),(6,.entry,true),(7,.entry,true),(8,(.sl .int),true),(9,.mon,true),(10,.entry,true),(11,.entry,true)] })]
theorem zVS (a0:Host)(hc:zbI a0=true):∃N,zI0 N a0=some [aH (zu a0)]:=by
 obtain ⟨h1,h2,h3,h4⟩:=(zF a0).1 (zy.1 hc);have hl:=zb4 h2.1;refine zbV fun N hNN=>?_;unfold zI0 oN
 conv=>zeta
 refine must (zbf ((zqB _).2 h1)) (must (zos h3) (must (zos h4) ?_));refine (zbb a0.Mons (fun i (t:lN)=>((i:Int),a0.Memory,a0.Mons,a0.Buffer,a0.IoBuffer,[],[],[],[],(zev a0.Memory),t,(ap [] a0.Buffer),(ap [] a0.IoBuffer),())) _ (fun _ x acc κ=>bif zqq x then (cond (few (ln (ap acc [zrm x]))) (κ (ap acc [zrm x])) none) else none) (fun (t:lN)=>(some [(.agg (zS (⟨(zev a0.Memory),t,(ap [] a0.Buffer),(ap [] a0.IoBuffer)⟩:Host)))])) (fun i hi t rec=>?_) (fun t rec=>?_) _ ([]) (hNN hl.1)).trans ?_
 .simp only [zbi hi,zQ hi,zbc hi,zU hi hl.1,cT]
 .simp only [zbe,cF]
 exact zjK zqq zrm _ a0.Mons 0 [] (fun x hx=>⟨zbf ((z1O x).2 (h2.2 x hx)),rfl⟩) (by simpa using hl.2)
theorem zOi:u4 107 zC8:=kF1 zn1 zi zl zn zWf zVS
@[simp] abbrev zfd (k:Kept):Bool:=pc (SmK k)
@[simp] abbrev zci (k:Kept):Kept:=k
def zz2:Run:=rF1 (dT .kept) fun b=>(zfd b,[aT .kept (zci b)])
def zDZ (N:Nat)(a0:Kept):OA:=
 (oN (few (ln (ap [] a0.Known))) (oN (zfx a0.Slots) (some [(aT .kept (⟨(ap [] a0.Known),(zdL a0.Slots)⟩:Kept))])))
theorem zRU (a0:Kept)(hc:zfd a0=true):∃N,zDZ N a0=some [aT .kept (zci a0)]:=by
 have hs:=zy.1 hc;obtain ⟨h1,h2⟩:=hs;have hs1:a0.Known.length<=2147483648:=(by omega);have hs2:a0.Slots.length<=2147483648:=(by omega)
 refine ⟨0,?_⟩;unfold zDZ oN;refine mu (mu ?_)
 first|rfl|(simp only [*,zci,cT,cF]<;>rfl)|simp_all[Ty.cells,zci]
theorem zKK:u4 165 zz2:=kF1 zn1 zi zl zn (zk []) zRU
def z9q:zV:=[(107,zC8),(165,zz2)]++z2N
theorem zW3:zJ z9q:=zf zOi (zf zKK zn1)
@[simp] abbrev zkG (m:Mon):Bool:=pc (zes m)
@[simp] abbrev zlw (m:Mon):Mon:=m
def zCG:Run:=rF1 (dT .mon) fun b=>(zkG b,[aT .mon (zlw b)])
def zIv (N:Nat)(a0:Mon):OA:=
 (oN (zfx a0.Outer) (oN (zf1 a0.Out) (oN (few (ln (ap [] a0.Dirty))) (oN (zch a0.Guests) (oN (zdu a0.Outs) (iter (σ:=(Int×(Int×(Int×(Int×(Int×(Int×(Int×(Int×(lK×(lK×(lS×(lM×(lB×(lG×((List Int)×(lS×(lM×(lB×(lG×((List Int)×(lK×Unit)))))))))))))))))))))) N (fun r2 s3=>let y5:=s3.2.2.2.2.2.2.2.2.2.2.2.2.1;let y4:=s3.2.2.2.2.2.2.2.2.2.2.2.2.2.1;let y3:=s3.2.2.2.2.2.2.2.2.2.2.2.2.2.2.1;let y2:=s3.2.2.2.2.2.2.2.2.1;let y1:=s3.2.2.2.2.2.2.2.2.2.1;let y0:=(ix y1 s3.2.1 zcU); (cond (ilt s3.2.1 s3.1) (oN (inb s3.2.1 (ln y1)) (oN (zfd y0) (oN (few (ln (ap y2 [(zci y0)]))) (r2 (s3.1,((zD .i64 s3.2.1 1),(s3.2.2.1,(s3.2.2.2.1,(s3.2.2.2.2.1,(s3.2.2.2.2.2.1,(s3.2.2.2.2.2.2.1,(s3.2.2.2.2.2.2.2.1,((ap y2 [(zci y0)]),(y1,(s3.2.2.2.2.2.2.2.2.2.2.1,(s3.2.2.2.2.2.2.2.2.2.2.2.1,(y5,(y4,(y3,(s3.2.2.2.2.2.2.2.2.2.2.2.2.2.2.2.1,(s3.2.2.2.2.2.2.2.2.2.2.2.2.2.2.2.2.1,(s3.2.2.2.2.2.2.2.2.2.2.2.2.2.2.2.2.2.1,(s3.2.2.2.2.2.2.2.2.2.2.2.2.2.2.2.2.2.2.1,(s3.2.2.2.2.2.2.2.2.2.2.2.2.2.2.2.2.2.2.2.1,(s3.2.2.2.2.2.2.2.2.2.2.2.2.2.2.2.2.2.2.2.2.1,()))))))))))))))))))))))))) (some [(aT .mon (⟨s3.2.2.2.2.2.2.2.2.2.2.1,s3.2.2.2.2.2.2.2.2.2.2.2.1,y5,y4,y3,s3.2.2.1,s3.2.2.2.1,y2,s3.2.2.2.2.1⟩:Mon))]))) ((ln a0.Tables),(0,(a0.Pending,(a0.Traps,(a0.Own,(0,(0,(0,([],(a0.Tables,((zdL a0.Outer),((zdg a0.Out),((ap [] a0.Dirty),((zcF a0.Guests),((zdl a0.Outs),([],([],([],([],([],([],())))))))))))))))))))))))))))
def zWa:FuncId->Nat->Option Tmpl:=zk [(103,0,{ n:=44,tm:=[(1,.lp 0 0),(2,.lp 1 0),(3,.sl 0 []),(29,.sl 1 []),(30,ti),(31,ti)],lo:=[(0,[.sl 2 [],.sl 3 [],.sl 4 [],.sl 5 [],.sl 6 [],ti,ti,.sl 1 [],ti]),(1,[.sl 7 [],.sl 8 [],.sl 9 [],.sl 10 [],.sl 11 [],ti,ti,.sl 12 [],ti])],ro:=[(0,.kept,true),(1,.kept,false),(2,.slot,true),(3,(.sl .int),true),(4,.bool,true),(5,.guest,true),(6,.int,true),(7,.slot,true),(8,(.sl .int),true),(9,.bool,true),(10,.guest,true),(11,.int,true),(12,.kept,true)] })]
theorem zVi (a0:Mon)(hc:zkG a0=true):∃N,zIv N a0=some [aT .mon (zlw a0)]:=by
 obtain ⟨h1,h2,h3,h4,h5,h6⟩:=zy.1 hc;have hl:=zb4 h6.1;refine zbV fun N hNN=>?_;unfold zIv oN
 conv=>zeta
 have c1:zfx a0.Outer=true:=by simp;omega
 have c2:zf1 a0.Out=true:=by simp;exact h2
 have c4:zch a0.Guests=true:=by simp;exact h4
 have c5:zdu a0.Outs=true:=by simp;omega
 refine must c1 (must c2 (must (zos h3) (must c4 (must c5 ?_))));refine (zbb a0.Tables (fun i (t:lK)=>((ln a0.Tables),(i:Int),a0.Pending,a0.Traps,a0.Own,0,0,0,t,a0.Tables,(zdL a0.Outer),(zdg a0.Out),(ap [] a0.Dirty),(zcF a0.Guests),(zdl a0.Outs),[],[],[],[],[],[],())) _ (fun _ x acc κ=>bif zfd x then (cond (few (ln (ap acc [zci x]))) (κ (ap acc [zci x])) none) else none) (fun (t:lK)=>(some [(.agg (Ty.cells .mon (⟨(zdL a0.Outer),(zdg a0.Out),(ap [] a0.Dirty),(zcF a0.Guests),(zdl a0.Outs),a0.Pending,a0.Traps,t,a0.Own⟩:Mon)))])) (fun i hi t rec=>?_) (fun t rec=>?_) _ ([]) (hNN hl.1)).trans ?_
 .simp only [zbi hi,zQ hi,zbc hi,zU hi hl.1,cT]
 .simp only [zbe,cF]
 exact zjK zfd zci _ a0.Tables 0 [] (fun x hx=>⟨zbf (h6.2 x hx),rfl⟩) (by simpa using hl.2)
theorem zNN:u4 103 zCG:=kF1 zW3 zi zl zn zWa zVi
def z9r:zV:=[(103,zCG)]++z9q
theorem zAL:zJ z9r:=zf zNN zW3
@[simp] abbrev zba (h:Host):Bool:=pc (zbA h)
@[simp] abbrev zI (h:Host):Host:=h
def zz0:Run:=rF1 dH fun b=>(zba b,[aH (zI b)])
def zDX (N:Nat)(a0:Host):OA:=
 (oN (zf1 a0.Memory) (oN (few (ln (ap [] a0.Buffer))) (oN (few (ln (ap [] a0.IoBuffer))) (iter (σ:=(Int×(Int×(lN×(lM×(lN×(lE×(lE×(lM×(lN×(lE×(lE×Unit)))))))))))) N (fun r2 s3=>let y1:=(ix s3.2.2.1 s3.2.1 zh);let y0:=(ap s3.2.2.2.2.2.2.2.2.1 [(zlw y1)]); (cond (ilt s3.2.1 s3.1) (oN (inb s3.2.1 (ln s3.2.2.1)) (oN (zkG y1) (oN (few (ln y0)) (r2 (s3.1,((zD .i64 s3.2.1 1),(s3.2.2.1,(s3.2.2.2.1,(s3.2.2.2.2.1,(s3.2.2.2.2.2.1,(s3.2.2.2.2.2.2.1,(s3.2.2.2.2.2.2.2.1,(y0,(s3.2.2.2.2.2.2.2.2.2.1,(s3.2.2.2.2.2.2.2.2.2.2.1,()))))))))))))))) (some [(aH (⟨s3.2.2.2.2.2.2.2.1,s3.2.2.2.2.2.2.2.2.1,s3.2.2.2.2.2.2.2.2.2.1,s3.2.2.2.2.2.2.2.2.2.2.1⟩:Host))]))) ((ln a0.Mons),(0,(a0.Mons,([],([],([],([],((zdg a0.Memory),([],((ap [] a0.Buffer),((ap [] a0.IoBuffer),())))))))))))))))
def zST:FuncId->Nat->Option Tmpl:=zk [(38,0,{ n:=34,tm:=[(2,.lp 0 0),(3,.lp 1 0),(19,.sl 0 []),(20,ti),(21,ti)],lo:=[(0,[.sl 1 [],.sl 2 [],.sl 3 [],.sl 4 []]),(1,[.sl 5 [],.sl 6 [],.sl 7 [],.sl 8 []])],ro:=[(0,.mon,false),(1,(.sl .int),true),(2,.mon,true),(3,.entry,true),(4,.entry,true),(5,(.sl .int),true),(6,.mon,true),(7,.entry,true),(8,.entry,true)] })]
theorem zRS (a0:Host)(hc:zba a0=true):∃N,zDX N a0=some [aH (zI a0)]:=by
 obtain ⟨h1,h2,h3,h4⟩:=(zF a0).1 (zy.1 hc);have hl:=zb4 h2.1;refine zbV fun N hNN=>?_;unfold zDX oN
 conv=>zeta
 have c1:zf1 a0.Memory=true:=by simp;exact h1
 refine must c1 (must (zos h3) (must (zos h4) ?_));refine (zbb a0.Mons (fun i (t:lN)=>((ln a0.Mons),(i:Int),a0.Mons,[],[],[],[],(zdg a0.Memory),t,(ap [] a0.Buffer),(ap [] a0.IoBuffer),())) _ (fun _ x acc κ=>bif zkG x then (cond (few (ln (ap acc [zlw x]))) (κ (ap acc [zlw x])) none) else none) (fun (t:lN)=>(some [(.agg (zS (⟨(zdg a0.Memory),t,(ap [] a0.Buffer),(ap [] a0.IoBuffer)⟩:Host)))])) (fun i hi t rec=>?_) (fun t rec=>?_) _ ([]) (hNN hl.1)).trans ?_
 .simp only [zbi hi,zQ hi,zbc hi,zU hi hl.1,cT]
 .simp only [zbe,cF]
 exact zjK zkG zlw _ a0.Mons 0 [] (fun x hx=>⟨zbf (h2.2 x hx),rfl⟩) (by simpa using hl.2)
theorem zKI:u4 38 zz0:=kF1 zAL zi zl zn zST zRS
def allI {α:Type}(p:Nat->α->Bool):List α->Nat->Bool
 | [],_=>true
 | x :: l,i=>p i x&&allI p l (i+1)
theorem zKl {α ρ:Type}(p:Nat->α->Bool)(r:Option ρ)(K:Unit->Option ρ):∀(l:List α) (i:Nat),goL (fun i x (_:Unit) k=>bif p i x then k () else r) K l i ()=bif allI p l i then K () else r
 | [],_=>rfl
 | x :: l,i=>by
  simp only[goL,allI];cases p i x
  .rfl
  .simp only [cT,Bool.true_and];exact zKl p r K l (i+1)
theorem zTA {α:Type}(q:α->Bool)(l:List α)(d:α):∀(n i:Nat),i+n<=l.length->zve (fun j=>q (ix l (j:Int) d)) n i=((l.drop i).take n).all q
 | 0,i,_=>by simp[zve]
 | n+1,i,h=>by
  have hi:i<l.length:=by omega
  rw[kV hi,List.take_succ_cons,uB,<- zTA q l d n (i+1) (by omega)]
  simp only[zve,zbc hi]
def sameKey (a b:Entry):Bool:=bif ieq a.Tag b.Tag then ieq a.Page b.Page else false
def alone (l:List Entry)(i:Nat)(x:Entry):Bool:=(l.take i).all fun y=>!sameKey x y
def zrC (l:List Entry):Bool:=bif allI (alone l) l 0 then ile (ln l) 6 else false
theorem z7O {α:Type}{l:List α}{i:Nat}(h:i<=l.length):inr 0 (i:Int) (ln l)=true:=qK (by simp only[ln];omega)
@[simp] abbrev zo8 (l:List Entry):Bool:=true
@[simp] abbrev zo7 (l:List Entry):Bool:=zrC l
def zzK:Run:=rF1 (dS .entry) fun b=>(zo8 b,[aB (zo7 b)])
def zDG (N:Nat)(a0:lE):OA:=
 (iter (σ:=(Int×(Int×(lE×Unit)))) N (fun r2 s3=>let y3:=s3.2.2.1;let y1:=(ix y3 s3.2.1 zel); (cond (ilt s3.2.1 s3.1) (oN (inb s3.2.1 (ln y3)) (oN (inr 0 s3.2.1 (ln y3)) (iter (σ:=(Int×(Int×(Int×(Int×(Int×(Int×(Int×(Int×(lE×(lE×Unit))))))))))) N (fun r4 s5=>let y4:=s5.2.2.2.1;let y2:=s5.2.2.2.2.2.2.2.2.2.1;let y0:=(r4 (s5.1,(s5.2.1,(s5.2.2.1,((zD .i64 y4 1),(s5.2.2.2.2.1,(s5.2.2.2.2.2.1,(s5.2.2.2.2.2.2.1,(s5.2.2.2.2.2.2.2.1,(s5.2.2.2.2.2.2.2.2.1,(y2,()))))))))))); (cond (ilt y4 s5.2.2.1) (oN (inb y4 (ln y2)) (cond (ieq s5.2.2.2.2.1 (ix y2 y4 zel).Tag) (cond (ieq s5.2.2.2.2.2.1 (ix y2 y4 zel).Page) oF y0) y0)) (r2 (s5.1,((zD .i64 s5.2.1 1),(s5.2.2.2.2.2.2.2.2.1,())))))) (s3.1,(s3.2.1,((ln (tk y3 s3.2.1)),(0,(y1.Tag,(y1.Page,(y1.Host,(y1.Rights,(y3,((tk y3 s3.2.1),()))))))))))))) (some [(aB (ile (ln y3) 6))]))) ((ln a0),(0,(a0,()))))
def zSQ:FuncId->Nat->Option Tmpl:=zk [(134,0,{ n:=39,tm:=[(0,.sl 0 []),(7,.sl 0 []),(8,ti),(9,ti)],lo:=[],ro:=[(0,.entry,false)] }),(134,2,{ n:=39,tm:=[(0,.sl 0 []),(4,.lp 0 0),(7,.sl 0 []),(8,ti),(9,ti),(16,.sl 1 []),(17,ti),(18,ti)],lo:=[(0,[ti,ti,ti,ti])],ro:=[(0,.entry,false),(1,.entry,false)] })]
theorem zRA (a0:List Entry)(hb:zbC big [aS .entry a0])(hc:zo8 a0=true):∃N,zDG N a0=some [aB (zo7 a0)]:=by
 have hl:=(len0 hb);refine zbV fun N hNN=>?_;unfold zDG oN
 conv=>zeta
 refine (zbb a0 (fun i (t:Unit)=>((ln a0),(i:Int),a0,())) _ (fun i (x:Entry) (_:Unit) κ=>bif alone a0 i x then κ () else oF) (fun (t:Unit)=>(some [(.one (.b (ile (ln a0) 6)))])) (fun i hi t rec=>?_) (fun t rec=>?_) _ () (hNN hl)).trans ?_
 .simp only [zbi hi,zQ hi,zbc hi,zU hi hl,cT];rw[z7O (Nat.le_of_lt hi),cT];have hk:(tk a0 (i:Int)).length<=big:=jA (by simp[tk];omega) hl
  refine (zbb (tk a0 (i:Int)) (fun j (u:Unit)=>((ln a0),(i:Int),(ln (tk a0 (i:Int))),(j:Int),a0[i].Tag,a0[i].Page,a0[i].Host,a0[i].Rights,a0,(tk a0 (i:Int)),())) _ (fun _ (y:Entry) (_:Unit) κ=>bif !sameKey a0[i] y then κ () else oF) (fun (u:Unit)=>(rec ((ln a0),((((i+1:Nat)):Int),(a0,()))))) (fun j hj u rec1=>?_) (fun u rec1=>?_) _ () (hNN hk)).trans ?_
  .simp only [zbi hj,zQ hj,zbc hj,zU hj hk,cT,zU hi hl];unfold sameKey;cases ieq a0[i].Tag (tk a0 (i:Int))[j].Tag<;>cases ieq a0[i].Page (tk a0 (i:Int))[j].Page<;>rfl
  .simp only [zbe,cF,zU hi hl]
  rw[zgq (fun y=>!sameKey a0[i] y)];rfl
 .simp only [zbe,cF]
 rw[zKl (alone a0)];unfold zo7 zrC;cases allI (alone a0) a0 0<;>rfl
theorem zKr:u4 134 zzK:=hF1 zAL zi zl zn zSQ zRA
@[simp] abbrev zp1 (l:List Entry):Bool:=true
@[simp] abbrev zp0 (l:List Entry):Bool:=zrC l
def zAb:Run:=rF1 (dS .entry) fun b=>(zp1 b,[aB (zp0 b)])
def zEa (N:Nat)(a0:lE):OA:=
 (iter (σ:=(Int×(lE×Unit))) N (fun r2 s3=>(cond (ilt s3.1 (ln s3.2.1)) (iter (σ:=(Int×(Int×(lE×Unit)))) N (fun r4 s5=>let y0:=s5.2.2.1;let y2:=(ix y0 s5.2.1 zel);let y1:=(r4 (s5.1,((zD .i64 s5.2.1 1),(y0,())))); (cond (ilt s5.2.1 s5.1) (oN (inb s5.1 (ln y0)) (oN (inb s5.2.1 (ln y0)) (cond (ieq (ix y0 s5.1 zel).Tag y2.Tag) (oN (inb s5.1 (ln y0)) (oN (inb s5.2.1 (ln y0)) (cond (ieq (ix y0 s5.1 zel).Page y2.Page) oF y1))) y1))) (r2 ((zD .i64 s5.1 1),(y0,()))))) (s3.1,(0,(s3.2.1,())))) (some [(aB (ile (ln s3.2.1) 6))]))) (0,(a0,())))
def zSY:FuncId->Nat->Option Tmpl:=zk [(306,0,{ n:=43,tm:=[(0,.sl 0 []),(3,ti)],lo:=[],ro:=[(0,.entry,false)] }),(306,2,{ n:=43,tm:=[(0,.sl 0 []),(3,ti),(4,ti)],lo:=[],ro:=[(0,.entry,false)] })]
theorem zR4 (a0:List Entry)(hb:zbC big [aS .entry a0])(hc:zp1 a0=true):∃N,zEa N a0=some [aB (zp0 a0)]:=by
 have hl:=(len0 hb);refine zbV fun N hNN=>?_;unfold zEa oN
 conv=>zeta
 refine (zbb a0 (fun i (t:Unit)=>((i:Int),a0,())) _ (fun i (x:Entry) (_:Unit) κ=>bif alone a0 i x then κ () else oF) (fun (t:Unit)=>(some [(.one (.b (ile (ln a0) 6)))])) (fun i hi t rec=>?_) (fun t rec=>?_) _ () (hNN hl)).trans ?_
 .simp only [zbi hi,zQ hi,zbc hi,zU hi hl,cT];refine (zBf i (fun (j:Nat) (_:Unit)=>((i:Int),((j:Int),(a0,())))) _ (fun j (_:Unit) κ=>bif !sameKey a0[i] (ix a0 (j:Int) zel) then κ () else oF) (fun _=>rec (((i+1:Nat):Int),(a0,()))) (fun j hj u rec1=>?_) (fun u rec1=>?_) _ () (hNN (by omega))).trans ?_
  .have hj2:j<a0.length:=by omega
   simp only[show ilt (j:Int) (i:Int)=true from qK (by omega),zQ hi,zQ hj2,zbc hi,zU hj2 hl,cT]
   unfold sameKey;cases ieq a0[i].Tag (ix a0 (j:Int) zel).Tag<;>cases ieq a0[i].Page (ix a0 (j:Int) zel).Page<;>rfl
  .simp only [show ilt (i:Int) (i:Int)=false from qH (by omega),zU hi hl,cF]
  rw[zGT (fun j=>!sameKey a0[i] (ix a0 (j:Int) zel)),zTA (fun y=>!sameKey a0[i] y) a0 _ i 0 (by omega)]
  rfl
 .simp only [zbe,cF]
 rw[zKl (alone a0)];unfold zp0 zrC;cases allI (alone a0) a0 0<;>rfl
theorem zKT:u4 306 zAb:=hF1 zAL zi zl zn zSY zR4
def z9s:zV:=[(38,zz0),(306,zAb),(134,zzK)]++z9r
theorem zKc:zJ z9s:=zf zKI (zf zKT (zf zKr zAL))
theorem zRq (a b:Int):igt a b = !ile a b:=by
 unfold igt ile
 by_cases h:a<=b
 .rw [qK h,qH (by omega)];rfl
 .rw [qH h,qK (by omega)];rfl
theorem stB {c M:Bool}{E:OA}(h:c=true->E=some [AV.one (.b M)]):(cond (cond c false true) (some [AV.one (.b false)]) E)=some [AV.one (.b (cond c M false))]:=by
 cases c
 .rfl
 .exact h rfl
theorem stI {a b:Int}{M:Bool}{E:OA}(h:ieq a b=true->E=some [AV.one (.b M)]):(cond (ine a b) (some [AV.one (.b false)]) E)=some [AV.one (.b (cond (ieq a b) M false))]:=by
 rw[zhR];cases hh:ieq a b
 .rfl
 .exact h hh
theorem stG {a b:Int}{M:Bool}{E:OA}(h:ile a b=true->E=some [AV.one (.b M)]):(cond (igt a b) (some [AV.one (.b false)]) E)=some [AV.one (.b (cond (ile a b) M false))]:=by
 rw[zRq];cases hh:ile a b
 .rfl
 .exact h hh
def zu4 (s:Slot)(p:List Int):Bool:=bif zc2 s noSlot then zcH p else (cond (enough s.Rights 1) (ile (ln p) 0) false)
def fits (m:Mon)(j:Nat):Bool:=zu4 (ix m.Outer (j:Int) zK) (ix m.Out (j:Int) [])
def zeu (m:Mon):Bool:=bif win (ln m.Guests) 1 2 then (cond (ieq (ln m.Tables) (ln m.Guests)) (cond (zdd m.Outer 8 12) (cond (ieq (ln m.Out) 8) (cond (ieq (ln m.Dirty) 8) (cond (ile (ln m.Outs) 40) (cond (zeX m.Pending) (cond (win m.Traps 0 3) (cond (win m.Own 0 1000000000) (cond (m.Guests.all zcP) (zve (fits m) 8 0) false) false) false) false) false) false) false) false) false) else false
theorem zta {t:List Slot}{n p:Int}(h:zdd t n p=true):ln t=n:=by
 unfold zdd at h;cases h1:t.all (fun s=>zeY s p)
 .rw [h1]at h;cases h
 .rw [h1]at h;exact qD h
@[simp] abbrev zsO (m:Mon):Bool:=true
@[simp] abbrev zuW (m:Mon):Bool:=zeu m
def zJt:Run:=rF1 (dT .mon) fun b=>(zsO b,[aB (zuW b)])
def zTh (N:Nat)(a0:Mon):OA:=
 let y5:=(ln a0.Guests); (oN (zbk y5 1 2) (cond (nB (zbr y5 1 2)) oF (cond (ine (ln a0.Tables) y5) oF (oN (znh a0.Outer 8 12) (cond (nB (zh9 a0.Outer 8 12)) oF (cond (ine (ln a0.Out) 8) oF (cond (ine (ln a0.Dirty) 8) oF (cond (igt (ln a0.Outs) 40) oF (oN (zh7 a0.Pending) (cond (nB (ziD a0.Pending)) oF (oN (zbk a0.Traps 0 3) (cond (nB (zbr a0.Traps 0 3)) oF (oN (zbk a0.Own 0 1000000000) (cond (nB (zbr a0.Own 0 1000000000)) oF (iter (σ:=(Int×(Int×(Int×(Int×(Int×(lG×(lS×(lM×(lB×((List Int)×(lK×Unit)))))))))))) N (fun r2 s3=>let y6:=s3.2.2.2.2.2.2.1;let y3:=s3.2.2.2.2.2.1;let y7:=(ix y3 s3.2.1 zo); (cond (ilt s3.2.1 s3.1) (oN (inb s3.2.1 (ln y3)) (oN (zm8 y7) (cond (nB (zlm y7)) oF (r2 (s3.1,((zD .i64 s3.2.1 1),(s3.2.2.1,(s3.2.2.2.1,(s3.2.2.2.2.1,(y3,(y6,(s3.2.2.2.2.2.2.2.1,(s3.2.2.2.2.2.2.2.2.1,(s3.2.2.2.2.2.2.2.2.2.1,(s3.2.2.2.2.2.2.2.2.2.2.1,()))))))))))))))) (iter (σ:=(Int×(Int×(Int×(Int×(Int×(lS×(lM×(lB×(lG×((List Int)×(lK×Unit)))))))))))) N (fun r4 s5=>let y4:=s5.2.1;let y2:=s5.2.2.2.2.2.2.1;let y1:=(ix s5.2.2.2.2.2.1 y4 zK);let y0:=(r4 (s5.1,((zD .i64 y4 1),(s5.2.2.1,(s5.2.2.2.1,(s5.2.2.2.2.1,(s5.2.2.2.2.2.1,(y2,(s5.2.2.2.2.2.2.2.1,(s5.2.2.2.2.2.2.2.2.1,(s5.2.2.2.2.2.2.2.2.2.1,(s5.2.2.2.2.2.2.2.2.2.2.1,())))))))))))); (cond (ilt y4 s5.1) (oN (inb y4 (ln s5.2.2.2.2.2.1)) (oN zc0 (cond (cond (ieq y1.Page zcm.Page) (ieq y1.Rights zcm.Rights) false) (oN (inb y4 (ln y2)) (oN (zh6 (ix y2 y4 [])) (cond (nB (zgB (ix y2 y4 []))) oF y0))) (oN (zdk y1.Rights 1) (cond (nB (zdP y1.Rights 1)) oF (oN (inb y4 (ln y2)) (cond (igt (ln (ix y2 y4 [])) 0) oF y0))))))) oT)) ((ln y6),(0,(s3.2.2.1,(s3.2.2.2.1,(s3.2.2.2.2.1,(y6,(s3.2.2.2.2.2.2.2.1,(s3.2.2.2.2.2.2.2.2.1,(y3,(s3.2.2.2.2.2.2.2.2.2.1,(s3.2.2.2.2.2.2.2.2.2.2.1,())))))))))))))) (y5,(0,(a0.Pending,(a0.Traps,(a0.Own,(a0.Guests,(a0.Outer,(a0.Out,(a0.Dirty,(a0.Outs,(a0.Tables,()))))))))))))))))))))))))))
def z1A:FuncId->Nat->Option Tmpl:=zk [(135,0,{ n:=106,tm:=[(1,.lp 0 0),(64,.sl 0 []),(65,ti),(66,ti)],lo:=[(0,[.sl 1 [],.sl 2 [],.sl 3 [],.sl 0 [],.sl 4 [],ti,ti,.sl 5 [],ti])],ro:=[(0,.guest,false),(1,.slot,false),(2,(.sl .int),false),(3,.bool,false),(4,.int,false),(5,.kept,false)] }),(135,2,{ n:=106,tm:=[(1,.lp 0 0),(75,.sl 0 []),(76,ti),(77,ti)],lo:=[(0,[.sl 0 [],.sl 1 [],.sl 2 [],.sl 3 [],.sl 4 [],ti,ti,.sl 5 [],ti])],ro:=[(0,.slot,false),(1,(.sl .int),false),(2,.bool,false),(3,.guest,false),(4,.int,false),(5,.kept,false)] })]
theorem z0w (a0:Mon)(hb:zbC big [aT .mon a0])(hc:zsO a0=true):∃N,zTh N a0=some [aB (zuW a0)]:=by
 have hg:a0.Guests.length<=big:=((zcL hb).1 (.s .guest a0.Guests) (by simp[AV.cvs,Ty.cells])).len
 have ho:a0.Outer.length<=big:=((zcL hb).1 (.s .slot a0.Outer) (by simp[AV.cvs,Ty.cells])).len
 refine zbV fun N hNN=>?_;unfold zTh zuW zeu oN nB
 conv=>zeta
 refine must rfl (stB fun h0=>stI fun h1=>must rfl (stB fun h2=>stI fun h3=>stI fun h4=>stG fun h5=>must rfl (stB fun h6=>must rfl (stB fun h7=>must rfl (stB fun h8=>?_)))));have e1:=zta h2;have e3:ln a0.Out=8:=qD h3;simp only[ln] at e1 e3;refine (zbb a0.Guests (fun i (t:Unit)=>((ln a0.Guests),(i:Int),a0.Pending,a0.Traps,a0.Own,a0.Guests,a0.Outer,a0.Out,a0.Dirty,a0.Outs,a0.Tables,())) _ (fun _ (x:Guest) (_:Unit) κ=>bif zcP x then κ () else oF) (fun (t:Unit)=>(iter (σ:=(Int×(Int×(Int×(Int×(Int×(lS×(lM×(lB×(lG×((List Int)×(lK×Unit)))))))))))) N (fun r4 s5=>(cond (ilt s5.2.1 s5.1) (cond (inb s5.2.1 (ln s5.2.2.2.2.2.1)) (cond zc0 (cond (cond (ieq (ix s5.2.2.2.2.2.1 s5.2.1 zK).Page zcm.Page) (ieq (ix s5.2.2.2.2.2.1 s5.2.1 zK).Rights zcm.Rights) false) (cond (inb s5.2.1 (ln s5.2.2.2.2.2.2.1)) (cond (zh6 (ix s5.2.2.2.2.2.2.1 s5.2.1 [])) (cond (cond (zgB (ix s5.2.2.2.2.2.2.1 s5.2.1 [])) false true) oF (r4 (s5.1,((zD .i64 s5.2.1 1),(s5.2.2.1,(s5.2.2.2.1,(s5.2.2.2.2.1,(s5.2.2.2.2.2.1,(s5.2.2.2.2.2.2.1,(s5.2.2.2.2.2.2.2.1,(s5.2.2.2.2.2.2.2.2.1,(s5.2.2.2.2.2.2.2.2.2.1,(s5.2.2.2.2.2.2.2.2.2.2.1,()))))))))))))) none) none) (cond (zdk (ix s5.2.2.2.2.2.1 s5.2.1 zK).Rights 1) (cond (cond (zdP (ix s5.2.2.2.2.2.1 s5.2.1 zK).Rights 1) false true) oF (cond (inb s5.2.1 (ln s5.2.2.2.2.2.2.1)) (cond (igt (ln (ix s5.2.2.2.2.2.2.1 s5.2.1 [])) 0) oF (r4 (s5.1,((zD .i64 s5.2.1 1),(s5.2.2.1,(s5.2.2.2.1,(s5.2.2.2.2.1,(s5.2.2.2.2.2.1,(s5.2.2.2.2.2.2.1,(s5.2.2.2.2.2.2.2.1,(s5.2.2.2.2.2.2.2.2.1,(s5.2.2.2.2.2.2.2.2.2.1,(s5.2.2.2.2.2.2.2.2.2.2.1,()))))))))))))) none)) none)) none) none) (some [(.one (.b true))]))) ((ln a0.Outer),(0,(a0.Pending,(a0.Traps,(a0.Own,(a0.Outer,(a0.Out,(a0.Dirty,(a0.Guests,(a0.Outs,(a0.Tables,()))))))))))))) (fun i hi t rec=>?_) (fun t rec=>?_) _ () (hNN hg)).trans ?_
 .simp only [zbi hi,zQ hi,zbc hi,zU hi hg,cT];simp only[zm8,zlm,cT];cases zcP a0.Guests[i]<;>rfl
 .simp only [zbe,cF]
 rw[zgq zcP];cases a0.Guests.all zcP
 .rfl
 simp only[cT];refine (zbb a0.Outer (fun j (u:Unit)=>((ln a0.Outer),(j:Int),a0.Pending,a0.Traps,a0.Own,a0.Outer,a0.Out,a0.Dirty,a0.Guests,a0.Outs,a0.Tables,())) _ (fun j (_:Slot) (_:Unit) κ=>bif fits a0 j then κ () else oF) (fun (u:Unit)=>(some [(.one (.b true))])) (fun j hj u rec1=>?_) (fun u rec1=>?_) _ () (hNN ho)).trans ?_
 .simp only [zbi hj,zQ hj,zbc hj,zU hj ho,cT];have hj2:j<a0.Out.length:=by omega
  simp only[zc0,zcm,zh6,zgB,zdk,zdP,zQ hj2,zRq,cT];unfold fits zu4;simp only[zbc hj,zc2];cases ieq a0.Outer[j].Page noSlot.Page<;>cases ieq a0.Outer[j].Rights noSlot.Rights<;>cases enough a0.Outer[j].Rights 1<;>cases ile (ln (ix a0.Out (j:Int) [])) 0<;>cases zcH (ix a0.Out (j:Int) [])<;>rfl
 .simp only [zbe,cF]
 rw[zzp (fun j (_:Unit) κ=>bif fits a0 j then κ () else oF),zGT (fits a0),show a0.Outer.length=8 by omega]
 cases zve (fits a0) 8 0<;>rfl
theorem zUx:u4 135 zJt:=hF1 zKc zi zl zn z1A z0w
@[simp] abbrev zs6 (m:Mon):Bool:=true
@[simp] abbrev zu6 (m:Mon):Bool:=zeu m
def zJE:Run:=rF1 (dT .mon) fun b=>(zs6 b,[aB (zu6 b)])
def zTs (N:Nat)(a0:Mon):OA:=
 (oN (zL (ln a0.Guests) 1 2) (cond (nB (zO (ln a0.Guests) 1 2)) oF (cond (ine (ln a0.Tables) (ln a0.Guests)) oF (oN (zny a0.Outer 8 12) (cond (nB (zij a0.Outer 8 12)) oF (cond (ine (ln a0.Out) 8) oF (cond (ine (ln a0.Dirty) 8) oF (iter (σ:=(Int×(Int×(Int×(Int×(lS×(lM×(lB×(lG×((List Int)×(lK×Unit))))))))))) N (fun r2 s3=>let y3:=s3.2.2.2.2.2.2.2.1; (cond (ilt s3.1 (ln y3)) (oN (inb s3.1 (ln y3)) (oN (znu (ix y3 s3.1 zo)) (cond (nB (zlF (ix y3 s3.1 zo))) oF (r2 ((zD .i64 s3.1 1),(s3.2.1,(s3.2.2.1,(s3.2.2.2.1,(s3.2.2.2.2.1,(s3.2.2.2.2.2.1,(s3.2.2.2.2.2.2.1,(y3,(s3.2.2.2.2.2.2.2.2.1,(s3.2.2.2.2.2.2.2.2.2.1,())))))))))))))) (iter (σ:=(Int×(Int×(Int×(Int×(lS×(lM×(lB×(lG×((List Int)×(lK×Unit))))))))))) N (fun r4 s5=>let y7:=s5.2.2.2.2.1;let y4:=(inb s5.1 (ln s5.2.2.2.2.2.1));let y2:=(ix s5.2.2.2.2.2.1 s5.1 []);let y1:=(ix y7 s5.1 zK);let y6:=(ieq y1.Rights zbs.Rights);let y5:=(ieq y1.Page zbs.Page);let y0:=(r4 ((zD .i64 s5.1 1),(s5.2.1,(s5.2.2.1,(s5.2.2.2.1,(y7,(s5.2.2.2.2.2.1,(s5.2.2.2.2.2.2.1,(s5.2.2.2.2.2.2.2.1,(s5.2.2.2.2.2.2.2.2.1,(s5.2.2.2.2.2.2.2.2.2.1,()))))))))))); (cond (ilt s5.1 8) (oN (inb s5.1 (ln y7)) (oN zcg (cond (nB (cond y5 y6 false)) (oN y4 (cond (igt (ln y2) 0) oF (oN (inb s5.1 (ln y7)) (oN (zgN y1.Rights 1) (cond (nB (zhI y1.Rights 1)) oF (cond (nB (nB (cond y5 y6 false))) (oN y4 (oN (zf3 y2) (cond (nB (zfk y2)) oF y0))) y0)))))) (cond (nB (nB (cond y5 y6 false))) (oN y4 (oN (zf3 y2) (cond (nB (zfk y2)) oF y0))) y0)))) (cond (ile (ln s5.2.2.2.2.2.2.2.2.1) 40) (oN (zfm s5.2.1) (cond (zfl s5.2.1) (oN (zL s5.2.2.1 0 3) (cond (zO s5.2.2.1 0 3) (oN (zL s5.2.2.2.1 0 1000000000) (some [(aB (zO s5.2.2.2.1 0 1000000000))])) oF)) oF)) oF))) (0,(s3.2.1,(s3.2.2.1,(s3.2.2.2.1,(s3.2.2.2.2.1,(s3.2.2.2.2.2.1,(s3.2.2.2.2.2.2.1,(y3,(s3.2.2.2.2.2.2.2.2.1,(s3.2.2.2.2.2.2.2.2.2.1,()))))))))))))) (0,(a0.Pending,(a0.Traps,(a0.Own,(a0.Outer,(a0.Out,(a0.Dirty,(a0.Guests,(a0.Outs,(a0.Tables,()))))))))))))))))))
def z1C:FuncId->Nat->Option Tmpl:=zk [(307,0,{ n:=115,tm:=[(1,.lp 0 0),(3,ti)],lo:=[(0,[.sl 0 [],.sl 1 [],.sl 2 [],.sl 3 [],.sl 4 [],ti,ti,.sl 5 [],ti])],ro:=[(0,.slot,false),(1,(.sl .int),false),(2,.bool,false),(3,.guest,false),(4,.int,false),(5,.kept,false)] }),(307,2,{ n:=115,tm:=[(1,.lp 0 0),(4,ti)],lo:=[(0,[.sl 0 [],.sl 1 [],.sl 2 [],.sl 3 [],.sl 4 [],ti,ti,.sl 5 [],ti])],ro:=[(0,.slot,false),(1,(.sl .int),false),(2,.bool,false),(3,.guest,false),(4,.int,false),(5,.kept,false)] })]
theorem z0I (a0:Mon)(hb:zbC big [aT .mon a0])(hc:zs6 a0=true):∃N,zTs N a0=some [aB (zu6 a0)]:=by
 have hg:a0.Guests.length<=big:=((zcL hb).1 (.s .guest a0.Guests) (by simp[AV.cvs,Ty.cells])).len
 refine zbV fun N hNN=>?_;unfold zTs zu6 zeu oN nB
 conv=>zeta
 refine must rfl (stB fun h0=>stI fun h1=>must rfl (stB fun h2=>stI fun h3=>stI fun h4=>?_));have e1:=zta h2;have e3:ln a0.Out=8:=qD h3;simp only[ln] at e1 e3;refine (zbb a0.Guests (fun i (t:Unit)=>((i:Int),a0.Pending,a0.Traps,a0.Own,a0.Outer,a0.Out,a0.Dirty,a0.Guests,a0.Outs,a0.Tables,())) _ (fun _ (x:Guest) (_:Unit) κ=>bif zcP x then κ () else oF) (fun (t:Unit)=>(iter (σ:=(Int×(Int×(Int×(Int×(lS×(lM×(lB×(lG×((List Int)×(lK×Unit))))))))))) N (fun r4 s5=>(cond (ilt s5.1 8) (cond (inb s5.1 (ln s5.2.2.2.2.1)) (cond zcg (cond (cond (cond (ieq (ix s5.2.2.2.2.1 s5.1 zK).Page zbs.Page) (ieq (ix s5.2.2.2.2.1 s5.1 zK).Rights zbs.Rights) false) false true) (cond (inb s5.1 (ln s5.2.2.2.2.2.1)) (cond (igt (ln (ix s5.2.2.2.2.2.1 s5.1 [])) 0) oF (cond (inb s5.1 (ln s5.2.2.2.2.1)) (cond (zgN (ix s5.2.2.2.2.1 s5.1 zK).Rights 1) (cond (cond (zhI (ix s5.2.2.2.2.1 s5.1 zK).Rights 1) false true) oF (cond (cond (cond (cond (ieq (ix s5.2.2.2.2.1 s5.1 zK).Page zbs.Page) (ieq (ix s5.2.2.2.2.1 s5.1 zK).Rights zbs.Rights) false) false true) false true) (cond (inb s5.1 (ln s5.2.2.2.2.2.1)) (cond (zf3 (ix s5.2.2.2.2.2.1 s5.1 [])) (cond (cond (zfk (ix s5.2.2.2.2.2.1 s5.1 [])) false true) oF (r4 ((zD .i64 s5.1 1),(s5.2.1,(s5.2.2.1,(s5.2.2.2.1,(s5.2.2.2.2.1,(s5.2.2.2.2.2.1,(s5.2.2.2.2.2.2.1,(s5.2.2.2.2.2.2.2.1,(s5.2.2.2.2.2.2.2.2.1,(s5.2.2.2.2.2.2.2.2.2.1,())))))))))))) none) none) (r4 ((zD .i64 s5.1 1),(s5.2.1,(s5.2.2.1,(s5.2.2.2.1,(s5.2.2.2.2.1,(s5.2.2.2.2.2.1,(s5.2.2.2.2.2.2.1,(s5.2.2.2.2.2.2.2.1,(s5.2.2.2.2.2.2.2.2.1,(s5.2.2.2.2.2.2.2.2.2.1,()))))))))))))) none) none)) none) (cond (cond (cond (cond (ieq (ix s5.2.2.2.2.1 s5.1 zK).Page zbs.Page) (ieq (ix s5.2.2.2.2.1 s5.1 zK).Rights zbs.Rights) false) false true) false true) (cond (inb s5.1 (ln s5.2.2.2.2.2.1)) (cond (zf3 (ix s5.2.2.2.2.2.1 s5.1 [])) (cond (cond (zfk (ix s5.2.2.2.2.2.1 s5.1 [])) false true) oF (r4 ((zD .i64 s5.1 1),(s5.2.1,(s5.2.2.1,(s5.2.2.2.1,(s5.2.2.2.2.1,(s5.2.2.2.2.2.1,(s5.2.2.2.2.2.2.1,(s5.2.2.2.2.2.2.2.1,(s5.2.2.2.2.2.2.2.2.1,(s5.2.2.2.2.2.2.2.2.2.1,())))))))))))) none) none) (r4 ((zD .i64 s5.1 1),(s5.2.1,(s5.2.2.1,(s5.2.2.2.1,(s5.2.2.2.2.1,(s5.2.2.2.2.2.1,(s5.2.2.2.2.2.2.1,(s5.2.2.2.2.2.2.2.1,(s5.2.2.2.2.2.2.2.2.1,(s5.2.2.2.2.2.2.2.2.2.1,()))))))))))))) none) none) (cond (ile (ln s5.2.2.2.2.2.2.2.2.1) 40) (cond (zfm s5.2.1) (cond (zfl s5.2.1) (cond (zL s5.2.2.1 0 3) (cond (zO s5.2.2.1 0 3) (cond (zL s5.2.2.2.1 0 1000000000) (some [(.one (.b (zO s5.2.2.2.1 0 1000000000)))]) none) oF) none) oF) none) oF))) (0,(a0.Pending,(a0.Traps,(a0.Own,(a0.Outer,(a0.Out,(a0.Dirty,(a0.Guests,(a0.Outs,(a0.Tables,())))))))))))) (fun i hi t rec=>?_) (fun t rec=>?_) _ () (hNN hg)).trans ?_
 .simp only [zbi hi,zQ hi,zbc hi,zU hi hg,cT];simp only[znu,zlF,cT];cases zcP a0.Guests[i]<;>rfl
 .simp only [zbe,cF]
 rw[zgq zcP];cases hq:a0.Guests.all zcP
 .simp only [cF];cases ile (ln a0.Outs) 40<;>cases zeX a0.Pending<;>cases win a0.Traps 0 3<;>cases win a0.Own 0 1000000000<;>rfl
 simp only[cT];refine (zBf 8 (fun j (u:Unit)=>((j:Int),a0.Pending,a0.Traps,a0.Own,a0.Outer,a0.Out,a0.Dirty,a0.Guests,a0.Outs,a0.Tables,())) _ (fun j (_:Unit) κ=>bif fits a0 j then κ () else oF) (fun (u:Unit)=>(cond (ile (ln a0.Outs) 40) (cond (zfm a0.Pending) (cond (zfl a0.Pending) (cond (zL a0.Traps 0 3) (cond (zO a0.Traps 0 3) (cond (zL a0.Own 0 1000000000) (some [(.one (.b (zO a0.Own 0 1000000000)))]) none) oF) none) oF) none) oF)) (fun j hj u rec1=>?_) (fun u rec1=>?_) _ () (hNN (by decide))).trans ?_
 .simp only [show ilt (j:Int) 8=true from qK (by omega),zU hj (show 8<=big by decide),cT]
  have hj1:j<a0.Outer.length:=by omega
  have hj2:j<a0.Out.length:=by omega
  simp only[zcg,zbs,zf3,zfk,zgN,zhI,zQ hj1,zQ hj2,zRq,cT];unfold fits zu4;simp only[zbc hj1,zc2];cases ieq a0.Outer[j].Page noSlot.Page<;>cases ieq a0.Outer[j].Rights noSlot.Rights<;>cases enough a0.Outer[j].Rights 1<;>cases ile (ln (ix a0.Out (j:Int) [])) 0<;>cases zcH (ix a0.Out (j:Int) [])<;>rfl
 .simp only [show ilt (((8:Nat)):Int) 8=false from qH (by omega),cF]
  rfl
 rw[zGT (fits a0)];simp only[zfm,zfl,zL,zWA,cT];cases zve (fits a0) 8 0<;>cases ile (ln a0.Outs) 40<;>cases zeX a0.Pending<;>cases win a0.Traps 0 3<;>cases win a0.Own 0 1000000000<;>rfl
theorem zUJ:u4 307 zJE:=hF1 zKc zi zl zn z1C z0I
def z9t:zV:=[(307,zJE),(135,zJt)]++z9s
theorem zKd:zJ z9t:=zf zUJ (zf zUx zKc)
def zjx:List Slot->List Bool->Option (List Bool)
 | [],u=>some u
 | s :: l,u=>bif ilt s.Page 0 then zjx l u else (cond (ix u s.Page false) none (zjx l (up u s.Page true)))
def zm6:List Mon->List Bool->Bool
 | [],_=>true
 | m :: l,u=>bif zeu m then (match zjx m.Outer u with|some u'=>zm6 l u'|none=>false) else false
def zbE (h:Host):Bool:=bif ziX h.Memory 12 then (cond (win (ln h.Mons) 1 3) (cond (zrC h.Buffer) (cond (zrC h.IoBuffer) (zm6 h.Mons (rp 12 false)) false) false) false) else false
theorem zqs:∀(l:List Slot) (u u':List Bool),zjx l u=some u'->u'.length=u.length
 | [],u,u',h=>by cases h;rfl
 | s :: l,u,u',h=>by
  simp only[zjx]at h;cases h1:ilt s.Page 0
  .rw [h1]at h;cases h2:ix u s.Page false
   .rw [h2]at h;simpa using zqs l _ u' h
   .rw [h2]at h;cases h
  .rw [h1]at h;exact zqs l u u' h
theorem zG5 {t:List Slot}{n:Int}(h:zdd t n 12=true):∀s∈t,s.Page<12:=by
 intro s hs;unfold zdd at h;cases h1:t.all (fun s=>zeY s 12)
 .rw [h1]at h;cases h
 .have:=qT.1 h1 s hs;unfold zeY at this;cases h2:zc2 s noSlot
  .rw [h2] at this;simp only[cF,show igt 12 0=true from rfl,cT] at this
   cases h3:win s.Page 0 (wsub .i64 12 1)
   .rw [h3] at this;cases this
   .have:=(zeM.1 h3).2;rw[show wsub .i64 12 1=11 from rfl] at this
    omega
  .unfold zc2 at h2;rw[qE]at h2;have h2:s.Page = -1:=qD h2.1;omega
theorem zZ2 {s:Slot}{u:List Bool}(h:s.Page<12)(hu:u.length=12)(h0:ilt s.Page 0=false):inb s.Page (ln u)=true:=by
 have:=qV h0;exact qK (by simp only[ln];omega)
def zvf {ρ:Type}(r:Option ρ)(y:Slot)(u:List Bool)(κ:List Bool->Option ρ):Option ρ:=bif ilt y.Page 0 then κ u else (cond (inb y.Page (ln u)) (cond (ix u y.Page false) r (cond (inb y.Page (ln u)) (share (up u y.Page true) (fun x6=>κ x6)) none)) none)
theorem zAX {ρ:Type}(r:Option ρ)(K:List Bool->Option ρ):∀(l:List Slot) (i:Nat) (u:List Bool),(∀s∈l,s.Page<12)->u.length=12 ->
 goL (fun _ y u κ=>zvf r y u κ) K l i u=match zjx l u with|some u'=>K u'|none=>r
 | [],_,_,_,_=>rfl
 | s :: l,i,u,h,hu=>by
  simp only[goL,zjx,zvf];cases h1:ilt s.Page 0
  .have hh:=zZ2 (h s (by simp)) hu h1
   rw[hh];cases ix u s.Page false
   .simp only [cF,cT,share];exact zAX r K l (i+1) _ (fun s hs=>h s (by simp[hs])) (by simpa using hu)
   .rfl
  .simp only [cT];exact zAX r K l (i+1) u (fun s hs=>h s (by simp[hs])) hu
def z2F {ρ:Type}(r:Option ρ)(m:Mon)(u:List Bool)(κ:List Bool->Option ρ):Option ρ:=bif zeu m then goL (fun _ y u κ=>zvf r y u κ) κ m.Outer 0 u else r
theorem zcM {c x:Bool}:((cond c x false)=true)↔c=true/\x=true:=by
 cases c<;>simp
theorem znq {m:Mon}(h:zeu m=true):zdd m.Outer 8 12=true:=by
 unfold zeu at h;simp only[zcM]at h;exact h.2.2.1
theorem zXe {K:Bool->OA}(k:List Bool->OA)(hk:∀u,k u=K true):∀(l:List Mon) (i:Nat) (u:List Bool),u.length=12 ->
 goL (fun _ m u κ=>z2F (K false) m u κ) k l i u=K (zm6 l u)
 | [],_,u,_=>hk u
 | m :: l,i,u,hu=>by
  simp only[goL,zm6,z2F];cases h1:zeu m
  .rfl
  .simp only [cT];have ht:=znq h1;rw[zAX _ _ _ _ _ (zG5 ht) hu];cases h2:zjx m.Outer u with
   | none=>rfl
   | some u'=>exact zXe k hk l (i+1) u' ((zqs _ _ _ h2).trans hu)
@[simp] abbrev zcJ (h:Host):Bool:=true
@[simp] abbrev zcE (h:Host):Bool:=zbE h
def zFy:Run:=rF1 dH fun b=>(zcJ b,[aB (zcE b)])
def zMe (N:Nat)(a0:Host):OA:=
 (oN (zsM a0.Memory 12) (cond (nB (zme a0.Memory 12)) oF (oN (zbk (ln a0.Mons) 1 3) (cond (nB (zbr (ln a0.Mons) 1 3)) oF (oN (zo8 a0.Buffer) (cond (nB (zo7 a0.Buffer)) oF (oN (zo8 a0.IoBuffer) (cond (nB (zo7 a0.IoBuffer)) oF (oN (cond (few 12) (ieq 12 12) false) (iter (σ:=(Int×(Int×(lB×(lN×Unit))))) N (fun r2 s3=>let y1:=(ix s3.2.2.2.1 s3.2.1 zh); (cond (ilt s3.2.1 s3.1) (oN (inb s3.2.1 (ln s3.2.2.2.1)) (oN (zsO y1) (cond (nB (zuW y1)) oF (iter (σ:=(Int×(Int×(Int×(Int×(Int×(lB×(lN×Unit)))))))) N (fun r4 s5=>let y4:=s5.2.2.2.2.1;let y3:=s5.2.2.2.2.2.2.1;let y5:=(ix y3 s5.2.2.1 zh).Outer;let y2:=s5.2.2.2.2.2.1;let y0:=(ix y5 y4 zK).Page; (cond (ilt y4 s5.2.2.2.1) (oN (inb y4 (ln y5)) (cond (ilt y0 0) (r4 (s5.1,(s5.2.1,(s5.2.2.1,(s5.2.2.2.1,((zD .i64 y4 1),(y2,(y3,())))))))) (oN (inb y0 (ln y2)) (cond (ix y2 y0 false) oF (oN (inb y0 (ln y2)) (share (up y2 y0 true) (fun x6=>(r4 (s5.1,(s5.2.1,(s5.2.2.1,(s5.2.2.2.1,((zD .i64 y4 1),(x6,(y3,()))))))))))))))) (r2 (s5.1,((zD .i64 s5.2.1 1),(y2,(y3,()))))))) (s3.1,(s3.2.1,(s3.2.1,((ln y1.Outer),(0,(s3.2.2.1,(s3.2.2.2.1,()))))))))))) oT)) ((ln a0.Mons),(0,((rp 12 false),(a0.Mons,()))))))))))))))
def zZE:FuncId->Nat->Option Tmpl:=zk [(55,0,{ n:=63,tm:=[(3,.sl 0 []),(33,.sl 1 []),(34,ti),(35,ti)],lo:=[],ro:=[(0,.bool,true),(1,.mon,false)] }),(55,2,{ n:=63,tm:=[(3,.sl 0 []),(33,.sl 1 []),(34,ti),(35,ti),(43,.sl 1 [0]),(44,ti),(45,ti)],lo:=[],ro:=[(0,.bool,true),(1,.mon,false)] })]
theorem zXG (a0:Host)(hb:zbC big [aH a0])(hc:zcJ a0=true):∃N,zMe N a0=some [aB (zcE a0)]:=by
 have hm:CVB big (.s .mon a0.Mons):=(zcL hb).1 _ (by simp[AV.cvs,zS])
 have hl:=hm.len;refine zbV fun N hNN=>?_;unfold zMe zcE zbE oN nB
 conv=>zeta
 refine must rfl (stB fun h0=>must rfl (stB fun h1=>must rfl (stB fun h2=>must rfl (stB fun h3=>must rfl ?_))));refine (zbb a0.Mons (fun i (t:lB)=>((ln a0.Mons),(i:Int),t,a0.Mons,())) _ (fun _ (x:Mon) (u:List Bool) κ=>z2F (oF) x u κ) (fun (t:lB)=>(some [(.one (.b true))])) (fun i hi t rec=>?_) (fun t rec=>?_) _ ((rp 12 false)) (hNN hl)).trans ?_
 .simp only [zbi hi,zQ hi,zbc hi,zU hi hl,cT];unfold z2F;cases h4:zeu a0.Mons[i]
  .simp only [zsO,zuW,h4,cT,cF]
  simp only[zsO,zuW,h4,cT,cF];have ho:a0.Mons[i].Outer.length<=big:=(hm.inv.2 _ (jC hi) (.s .slot _) (by simp[Ty.cells])).len
  refine (zbb a0.Mons[i].Outer (fun j (u:lB)=>((ln a0.Mons),(i:Int),(i:Int),(ln a0.Mons[i].Outer),(j:Int),u,a0.Mons,())) _ (fun _ (y:Slot) (u:List Bool) κ=>zvf (oF) y u κ) (fun (u:lB)=>(rec ((ln a0.Mons),((((i+1:Nat)):Int),(u,(a0.Mons,())))))) (fun j hj u rec1=>?_) (fun u rec1=>?_) _ (t) (hNN ho)).trans ?_
  .simp only [zbi hj,zQ hj,zbc hj,zU hj ho,cT,zQ hi,zbc hi,zU hi hl];rfl
  .simp only [zbe,cF,zQ hi,zbc hi,zU hi hl]
  rfl
 .simp only [zbe,cF]
 exact zXe (K:=fun b=>some [AV.one (.b b)]) _ (fun _=>rfl) _ _ _ rfl
theorem zQv:u4 55 zFy:=hF1 zKd zi zl zn zZE zXG
@[simp] abbrev zfi (h:Host):Bool:=true
@[simp] abbrev zfh (h:Host):Bool:=zbE h
theorem zKo {ρ:Type}(r:Option ρ)(k:List Bool->Option ρ)(m:Mon):∀(n i:Nat) (u:List Bool),(∀s∈m.Outer,s.Page<12)->u.length=12->i+n=m.Outer.length ->
 goN (fun j u κ=>bif inb (j:Int) (ln m.Outer) then zvf r (ix m.Outer (j:Int) zK) u κ else none) k n i u=goL (fun _ y u κ=>zvf r y u κ) k (m.Outer.drop i) i u
 | 0,i,u,_,_,h=>by
  have:i=m.Outer.length:=by omega
  subst this;simp[goN,goL]
 | n+1,i,u,hs,hu,h=>by
  have hi:i<m.Outer.length:=by omega
  rw[kV hi];simp only[goN,goL,zQ hi,zbc hi,cT,zvf];cases h1:ilt m.Outer[i].Page 0
  .rw [zZ2 (hs _ (jC hi)) hu h1];cases ix u m.Outer[i].Page false
   .simp only [cF,cT,share];exact zKo r k m n (i+1) _ hs (by simpa using hu) (by omega)
   .rfl
  .simp only [cT];exact zKo r k m n (i+1) u hs hu (by omega)
def zF2:Run:=rF1 dH fun b=>(zfi b,[aB (zfh b)])
def zMH (N:Nat)(a0:Host):OA:=
 (oN (zs5 a0.Memory 12) (cond (nB (zmF a0.Memory 12)) oF (oN (zL (ln a0.Mons) 1 3) (cond (nB (zO (ln a0.Mons) 1 3)) oF (oN (zp1 a0.Buffer) (cond (nB (zp0 a0.Buffer)) oF (oN (zp1 a0.IoBuffer) (cond (nB (zp0 a0.IoBuffer)) oF (oN (cond (few 12) (ieq 12 12) false) (iter (σ:=(Int×(lB×(lM×(lN×(lE×(lE×Unit))))))) N (fun r2 s3=>let y7:=(ix s3.2.2.2.1 s3.1 zh); (cond (ilt s3.1 (ln s3.2.2.2.1)) (oN (inb s3.1 (ln s3.2.2.2.1)) (oN (zs6 y7) (cond (nB (zu6 y7)) oF (iter (σ:=(Int×(Int×(lB×(lM×(lN×(lE×(lE×Unit)))))))) N (fun r4 s5=>let y6:=(zD .i64 s5.2.1 1);let y5:=s5.2.2.2.2.2.1;let y4:=s5.2.2.2.2.2.2.1;let y3:=s5.2.2.1;let y2:=s5.2.2.2.2.1;let y8:=(ix y2 s5.1 zh).Outer;let y1:=(r4 (s5.1,(y6,(y3,(s5.2.2.2.1,(y2,(y5,(y4,()))))))));let y0:=(ix y8 s5.2.1 zK).Page;let y9:=(inb y0 (ln y3)); (cond (ilt s5.2.1 8) (oN (inb s5.1 (ln y2)) (oN (inb s5.2.1 (ln y8)) (cond (ige y0 0) (oN y9 (cond (ix y3 y0 false) oF (cond (ige y0 0) (oN y9 (share (up y3 y0 true) (fun x6=>(r4 (s5.1,(y6,(x6,(s5.2.2.2.1,(y2,(y5,(y4,()))))))))))) y1))) (cond (ige y0 0) (oN y9 (share (up y3 y0 true) (fun x6=>(r4 (s5.1,(y6,(x6,(s5.2.2.2.1,(y2,(y5,(y4,()))))))))))) y1)))) (r2 ((zD .i64 s5.1 1),(y3,(s5.2.2.2.1,(y2,(y5,(y4,()))))))))) (s3.1,(0,(s3.2.1,(s3.2.2.1,(s3.2.2.2.1,(s3.2.2.2.2.1,(s3.2.2.2.2.2.1,()))))))))))) oT)) (0,((rp 12 false),(a0.Memory,(a0.Mons,(a0.Buffer,(a0.IoBuffer,()))))))))))))))))
def zZO:FuncId->Nat->Option Tmpl:=zk [(256,0,{ n:=72,tm:=[(1,.lp 0 0),(3,.sl 0 []),(4,ti)],lo:=[(0,[.sl 1 [],.sl 2 [],.sl 3 [],.sl 4 []])],ro:=[(0,.bool,true),(1,(.sl .int),false),(2,.mon,false),(3,.entry,false),(4,.entry,false)] }),(256,2,{ n:=72,tm:=[(1,.lp 0 0),(3,.sl 0 []),(4,ti),(5,ti)],lo:=[(0,[.sl 1 [],.sl 2 [],.sl 3 [],.sl 4 []])],ro:=[(0,.bool,true),(1,(.sl .int),false),(2,.mon,false),(3,.entry,false),(4,.entry,false)] })]
theorem zYb (a0:Host)(hb:zbC big [aH a0])(hc:zfi a0=true):∃N,zMH N a0=some [aB (zfh a0)]:=by
 have hm:CVB big (.s .mon a0.Mons):=(zcL hb).1 _ (by simp[AV.cvs,zS])
 have hl:=hm.len;refine zbV fun N hNN=>?_;unfold zMH zfh zbE oN nB
 conv=>zeta
 refine must rfl (stB fun h0=>must rfl (stB fun h1=>must rfl (stB fun h2=>must rfl (stB fun h3=>must rfl ?_))));refine (zbb a0.Mons (fun i (t:lB)=>((i:Int),t,a0.Memory,a0.Mons,a0.Buffer,a0.IoBuffer,())) _ (fun _ (x:Mon) (u:List Bool) κ=>bif zeu x then goN (fun j u κ=>bif inb (j:Int) (ln x.Outer) then zvf (oF) (ix x.Outer (j:Int) zK) u κ else none) κ 8 0 u else oF) (fun (t:lB)=>(some [(.one (.b true))])) (fun i hi t rec=>?_) (fun t rec=>?_) _ ((rp 12 false)) (hNN hl)).trans ?_
 .simp only [zbi hi,zQ hi,zbc hi,zU hi hl,cT];cases h4:zeu a0.Mons[i]
  .simp only [zs6,zu6,h4,cT,cF]
  simp only[zs6,zu6,h4,cT,cF];refine (zBf 8 (fun j (u:lB)=>((i:Int),(j:Int),u,a0.Memory,a0.Mons,a0.Buffer,a0.IoBuffer,())) _ (fun j (u:List Bool) κ=>bif inb (j:Int) (ln a0.Mons[i].Outer) then zvf (oF) (ix a0.Mons[i].Outer (j:Int) zK) u κ else none) (fun (u:lB)=>(rec ((((i+1:Nat)):Int),(u,(a0.Memory,(a0.Mons,(a0.Buffer,(a0.IoBuffer,())))))))) (fun j hj u rec1=>?_) (fun u rec1=>?_) _ (t) (hNN (by decide))).trans ?_
  .simp only [show ilt (j:Int) 8=true from qK (by omega),zU hj (show 8<=big by decide),cT,zQ hi,zbc hi,zU hi hl]
   unfold zvf;have e:ige (ix a0.Mons[i].Outer (j:Int) zK).Page 0 = !ilt (ix a0.Mons[i].Outer (j:Int) zK).Page 0:=by rw[zbaX,Bool.not_not]
   simp only[e];cases ilt (ix a0.Mons[i].Outer (j:Int) zK).Page 0<;>cases inb (j:Int) (ln a0.Mons[i].Outer)<;>cases inb (ix a0.Mons[i].Outer (j:Int) zK).Page (ln u)<;>cases ix u (ix a0.Mons[i].Outer (j:Int) zK).Page false<;>rfl
  .simp only [show ilt (((8:Nat)):Int) 8=false from qH (by omega),cF,zQ hi,zbc hi,zU hi hl]
  rfl
 .simp only [zbe,cF]
 have key:∀(l:List Mon) (i:Nat) (u:List Bool),u.length=12->goL (fun _ (x:Mon) (u:List Bool) κ=>bif zeu x then goN (fun j u κ=>bif inb (j:Int) (ln x.Outer) then zvf (oF) (ix x.Outer (j:Int) zK) u κ else none) κ 8 0 u else oF) (fun _=>oT) l i u=some [AV.one (.b (zm6 l u))]:=by
  intro l
  induction l with
  | nil=>intro i u _;rfl
  | cons m l ih =>
   intro i u hu;simp only[goL,zm6];cases h1:zeu m
   .rfl
   .have ht:=znq h1;have e8:0+8=m.Outer.length:=by have:=zta ht;simp only[ln] at this;omega
    simp only[cT];rw[zKo _ _ m 8 0 u (zG5 ht) hu e8,List.drop_zero,zAX _ _ _ _ _ (zG5 ht) hu];cases h2:zjx m.Outer u with
    | none=>rfl
    | some u'=>exact ih (i+1) u' ((zqs _ _ _ h2).trans hu)
 exact key _ _ _ rfl
theorem zQZ:u4 256 zF2:=hF1 zKd zi zl zn zZO zYb
def z9u:zV:=[(256,zF2),(55,zFy)]++z9t
theorem zAM:zJ z9u:=zf zQZ (zf zQv zKd)
theorem z3m {h:Host}(hh:zbE h=true):(h.Mons.length:Int)<=3:=by
 unfold zbE at hh;simp only[zcM]at hh;exact (zeM.1 hh.2.1).2
def zbT (h:Host)(m:Int):Bool:=bif zbE h then hasB m (ln h.Mons) else false
def zbL (h:Host)(m p:Int):Bool:=bif zbE h then (cond (hasB m (ln h.Mons)) (hasB p 8) false) else false
theorem zS7 {h:Host}(hh:zbE h=true)(m:Int):win m 0 (wsub .i64 (ln h.Mons) 1)=hasB m (ln h.Mons):=zrr (by have:=z3m hh;omega) m
theorem win7 (p:Int):win p 0 7=hasB p 8:=by
 unfold win ige ile hasB
 by_cases h1:0<=p<;>by_cases h2:p<8
 .rw [qK (p:=p≥0) (by omega),qK (p:=p<=7) (by omega),qK (p:=0<=p/\p<8) ⟨h1,h2⟩];rfl
 .rw [qH (p:=p<=7) (by omega),qH (p:=0<=p/\p<8) (by omega)];simp
 .rw [qH (p:=p≥0) (by omega),qH (p:=0<=p/\p<8) (by omega)];simp
 .rw [qH (p:=p≥0) (by omega),qH (p:=0<=p/\p<8) (by omega)];simp
@[simp] abbrev zfq (h:Host)(m:Int):Bool:=true
@[simp] abbrev zfp (h:Host)(m:Int):Bool:=zbT h m
def zGl:Run:=rF2 dH dI fun b c=>(zfq b c,[aB (zfp b c)])
def zMZ (N:Nat)(a0:Host)(a1:Int):OA:=
 (oN (zfi a0) (cond (zfh a0) (oN (zL a1 0 (wsub .i64 (ln a0.Mons) 1)) (some [(aB (zO a1 0 (wsub .i64 (ln a0.Mons) 1)))])) oF))
theorem zYz (a0:Host)(a1:Int)(hc:zfq a0 a1=true):∃N,zMZ N a0 a1=some [aB (zfp a0 a1)]:=by
 refine ⟨0,?_⟩;unfold zMZ zfp zbT oN;cases hh:zbE a0
 .simp only [zfi,zfh,hh,cT,cF]
 .simp only [zfi,zfh,hh,cT,zL,zWA,zS7 hh]
theorem zRl:u4 205 zGl:=kF2 zAM zi zl zn (zk []) zYz
@[simp] abbrev zoK (h:Host)(m p:Int):Bool:=true
@[simp] abbrev zhW (h:Host)(m p:Int):Bool:=zbL h m p
def zJK:Run:=rF3 dH dI dI fun b c d=>(zoK b c d,[aB (zhW b c d)])
def zTy (N:Nat)(a0:Host)(a1 a2:Int):OA:=
 (oN (zfi a0) (cond (zfh a0) (oN (zL a1 0 (wsub .i64 (ln a0.Mons) 1)) (cond (zO a1 0 (wsub .i64 (ln a0.Mons) 1)) (oN (zL a2 0 7) (some [(aB (zO a2 0 7))])) oF)) oF))
theorem z0Q (a0:Host)(a1 a2:Int)(hc:zoK a0 a1 a2=true):∃N,zTy N a0 a1 a2=some [aB (zhW a0 a1 a2)]:=by
 refine ⟨0,?_⟩;unfold zTy zhW zbL oN;cases hh:zbE a0
 .simp only [zfi,zfh,hh,cT,cF]
 .simp only [zfi,zfh,hh,cT,zL,zWA,zS7 hh,win7];cases hasB a1 (ln a0.Mons)<;>rfl
theorem zUR:u4 217 zJK:=kF3 zAM zi zl zn (zk []) z0Q
@[simp] abbrev znj (h:Host)(m p:Int):Bool:=true
@[simp] abbrev zia (h:Host)(m p:Int):Bool:=zbL h m p
def zCH:Run:=rF3 dH dI dI fun b c d=>(znj b c d,[aB (zia b c d)])
def zIw (N:Nat)(a0:Host)(a1 a2:Int):OA:=
 (oN (zcJ a0) (cond (zcE a0) (oN (zbx a1 (ln a0.Mons)) (cond (zbK a1 (ln a0.Mons)) (oN (zbx a2 8) (some [(aB (zbK a2 8))])) oF)) oF))
theorem zVj (a0:Host)(a1 a2:Int)(hc:znj a0 a1 a2=true):∃N,zIw N a0 a1 a2=some [aB (zia a0 a1 a2)]:=by
 refine ⟨0,?_⟩;unfold zIw zia zbL oN;cases hh:zbE a0
 .simp only [zcJ,zcE,hh,cT,cF]
 .simp only [zcJ,zcE,hh,cT,zbx,zbK];cases hasB a1 (ln a0.Mons)<;>rfl
theorem zNO:u4 97 zCH:=kF3 zAM zi zl zn (zk []) zVj
def z9v:zV:=[(205,zGl),(217,zJK),(97,zCH)]++z9u
theorem zW4:zJ z9v:=zf zRl (zf zUR (zf zNO zAM))
def zgj (x y:List Int):Bool:=pc (x=y)
def zgM (_ _:List Int):Bool:=true
def zz6:Run:=rF2 (dS .int) (dS .int) fun b c=>(zgj b c,[aB (zgM b c)])
def zD4 (N:Nat)(a0 a1:List Int):OA:=
 (cond (ine (ln a0) (ln a1)) oF (iter (σ:=(Int×((List Int)×((List Int)×Unit)))) N (fun r3 s4=>(cond (ilt s4.1 (ln s4.2.1)) (oN (inb s4.1 (ln s4.2.1)) (oN (inb s4.1 (ln s4.2.2.1)) (cond (ine (ix s4.2.1 s4.1 0) (ix s4.2.2.1 s4.1 0)) oF (r3 ((zD .i64 s4.1 1),(s4.2.1,(s4.2.2.1,()))))))) oT)) (0,(a0,(a1,())))))
def zSV:FuncId->Nat->Option Tmpl:=zk [(123,0,{ n:=26,tm:=[(0,.sl 0 []),(1,.sl 1 []),(5,ti)],lo:=[],ro:=[(0,.int,false),(1,.int,false)] })]
theorem zRY (a0 a1:List Int)(hb:zbC big [aS .int a0,aS .int a1])(hc:zgj a0 a1=true):∃N,zD4 N a0 a1=some [aB (zgM a0 a1)]:=by
 have:=zy.1 hc;subst this;have hl:=(len0 hb);refine ⟨a0.length+1,?_⟩;unfold zD4 oN;rw[zcx];refine zkv a0 zbc3 _ _ hl (fun i hi rec=>?_) (fun rec=>?_) (jW _)
 .simp only [zbi hi,zQ hi,zbc hi,zpH,zcx,zdQ,zet,cT,cF,jV,jZ]
 .simp only [zbe,cF,zgM]
theorem zKO:u4 123 zz6:=hF2 zdV zbg zl zn zSV zRY
def zhS (x y:List Bool):Bool:=pc (x=y)
def ziF (_ _:List Bool):Bool:=true
def zxr:Run:=rF2 (dS .bool) (dS .bool) fun b c=>(zhS b c,[aB (ziF b c)])
def zB3 (N:Nat)(a0 a1:lB):OA:=
 (cond (ine (ln a0) (ln a1)) oF (iter (σ:=(Int×(lB×(lB×Unit)))) N (fun r3 s4=>(cond (ilt s4.1 (ln s4.2.1)) (oN (inb s4.1 (ln s4.2.1)) (oN (inb s4.1 (ln s4.2.2.1)) (cond (nB (zjL (ix s4.2.1 s4.1 false) (ix s4.2.2.1 s4.1 false))) oF (r3 ((zD .i64 s4.1 1),(s4.2.1,(s4.2.2.1,()))))))) oT)) (0,(a0,(a1,())))))
def zPS:FuncId->Nat->Option Tmpl:=zk [(227,0,{ n:=26,tm:=[(0,.sl 0 []),(1,.sl 1 []),(5,ti)],lo:=[],ro:=[(0,.bool,false),(1,.bool,false)] })]
theorem zOL (a0 a1:List Bool)(hb:zbC big [aS .bool a0,aS .bool a1])(hc:zhS a0 a1=true):∃N,zB3 N a0 a1=some [aB (ziF a0 a1)]:=by
 have:=zy.1 hc;subst this;have hl:=(len0 hb);refine ⟨a0.length+1,?_⟩;unfold zB3 oN nB;rw[zcx];refine zkv a0 zbcv _ _ hl (fun i hi rec=>?_) (fun rec=>?_) (jW _)
 .simp only [zbi hi,zQ hi,zbc hi,zpH,zcx,zdQ,zet,cT,cF,jV,jZ]
 .simp only [zbe,cF,ziF]
theorem zHo:u4 227 zxr:=hF2 zdV zbg zl zn zPS zOL
def zeF (x y:List Slot):Bool:=pc (x=y)
def ze3 (_ _:List Slot):Bool:=true
def zxv:Run:=rF2 (dS .slot) (dS .slot) fun b c=>(zeF b c,[aB (ze3 b c)])
def zB7 (N:Nat)(a0 a1:lS):OA:=
 (cond (ine (ln a0) (ln a1)) oF (iter (σ:=(Int×(lS×(lS×Unit)))) N (fun r3 s4=>let y1:=(ix s4.2.1 s4.1 zK);let y0:=(ix s4.2.2.1 s4.1 zK); (cond (ilt s4.1 (ln s4.2.1)) (oN (inb s4.1 (ln s4.2.1)) (oN (inb s4.1 (ln s4.2.2.1)) (cond (nB (cond (ieq y1.Page y0.Page) (ieq y1.Rights y0.Rights) false)) oF (r3 ((zD .i64 s4.1 1),(s4.2.1,(s4.2.2.1,()))))))) oT)) (0,(a0,(a1,())))))
def zPV:FuncId->Nat->Option Tmpl:=zk [(226,0,{ n:=26,tm:=[(0,.sl 0 []),(1,.sl 1 []),(5,ti)],lo:=[],ro:=[(0,.slot,false),(1,.slot,false)] })]
theorem zOP (a0 a1:List Slot)(hb:zbC big [aS .slot a0,aS .slot a1])(hc:zeF a0 a1=true):∃N,zB7 N a0 a1=some [aB (ze3 a0 a1)]:=by
 have:=zy.1 hc;subst this;have hl:=(len0 hb);refine ⟨a0.length+1,?_⟩;unfold zB7 oN nB
 conv=>zeta
 rw[zcx];refine zkv a0 zK _ _ hl (fun i hi rec=>?_) (fun rec=>?_) (jW _)
 .simp only [zbi hi,zQ hi,zbc hi,zpH,zcx,zdQ,zet,cT,cF,jV,jZ]
 .simp only [zbe,cF,ze3]
theorem zHs:u4 226 zxv:=hF2 zdV zbg zl zn zPV zOP
def zji (x y:List Entry):Bool:=pc (x=y)
def zjh (_ _:List Entry):Bool:=true
def zv3:Run:=rF2 (dS .entry) (dS .entry) fun b c=>(zji b c,[aB (zjh b c)])
def zy9 (N:Nat)(a0 a1:lE):OA:=
 (cond (ine (ln a0) (ln a1)) oF (iter (σ:=(Int×(lE×(lE×Unit)))) N (fun r3 s4=>let y1:=(ix s4.2.1 s4.1 zel);let y0:=(ix s4.2.2.1 s4.1 zel); (cond (ilt s4.1 (ln s4.2.1)) (oN (inb s4.1 (ln s4.2.1)) (oN (inb s4.1 (ln s4.2.2.1)) (cond (nB (cond (ieq y1.Tag y0.Tag) (cond (ieq y1.Page y0.Page) (cond (ieq y1.Host y0.Host) (ieq y1.Rights y0.Rights) false) false) false)) oF (r3 ((zD .i64 s4.1 1),(s4.2.1,(s4.2.2.1,()))))))) oT)) (0,(a0,(a1,())))))
def zL1:FuncId->Nat->Option Tmpl:=zk [(43,0,{ n:=26,tm:=[(0,.sl 0 []),(1,.sl 1 []),(5,ti)],lo:=[],ro:=[(0,.entry,false),(1,.entry,false)] })]
theorem zLt (a0 a1:List Entry)(hb:zbC big [aS .entry a0,aS .entry a1])(hc:zji a0 a1=true):∃N,zy9 N a0 a1=some [aB (zjh a0 a1)]:=by
 have:=zy.1 hc;subst this;have hl:=(len0 hb);refine ⟨a0.length+1,?_⟩;unfold zy9 oN nB
 conv=>zeta
 rw[zcx];refine zkv a0 zel _ _ hl (fun i hi rec=>?_) (fun rec=>?_) (jW _)
 .simp only [zbi hi,zQ hi,zbc hi,zpH,zcx,zdQ,zet,cT,cF,jV,jZ]
 .simp only [zbe,cF,zjh]
theorem zEY:u4 43 zv3:=hF2 zdV zbg zl zn zL1 zLt
def zpy (x y:List Ins):Bool:=pc (x=y)
def zpx (_ _:List Ins):Bool:=true
def zz5:Run:=rF2 (dS .ins) (dS .ins) fun b c=>(zpy b c,[aB (zpx b c)])
def zD3 (N:Nat)(a0 a1:lI):OA:=
 (cond (ine (ln a0) (ln a1)) oF (iter (σ:=(Int×(lI×(lI×Unit)))) N (fun r3 s4=>let y1:=(ix s4.2.1 s4.1 zss);let y0:=(ix s4.2.2.1 s4.1 zss); (cond (ilt s4.1 (ln s4.2.1)) (oN (inb s4.1 (ln s4.2.1)) (oN (inb s4.1 (ln s4.2.2.1)) (cond (nB (cond (ieq y1.Op y0.Op) (ieq y1.X y0.X) false)) oF (r3 ((zD .i64 s4.1 1),(s4.2.1,(s4.2.2.1,()))))))) oT)) (0,(a0,(a1,())))))
def zSU:FuncId->Nat->Option Tmpl:=zk [(318,0,{ n:=26,tm:=[(0,.sl 0 []),(1,.sl 1 []),(5,ti)],lo:=[],ro:=[(0,.ins,false),(1,.ins,false)] })]
theorem zRX (a0 a1:List Ins)(hb:zbC big [aS .ins a0,aS .ins a1])(hc:zpy a0 a1=true):∃N,zD3 N a0 a1=some [aB (zpx a0 a1)]:=by
 have:=zy.1 hc;subst this;have hl:=(len0 hb);refine ⟨a0.length+1,?_⟩;unfold zD3 oN nB
 conv=>zeta
 rw[zcx];refine zkv a0 zss _ _ hl (fun i hi rec=>?_) (fun rec=>?_) (jW _)
 .simp only [zbi hi,zQ hi,zbc hi,zpH,zcx,zdQ,zet,cT,cF,jV,jZ]
 .simp only [zbe,cF,zpx]
theorem zKN:u4 318 zz5:=hF2 zdV zbg zl zn zSU zRX
def zts (x y:List Told):Bool:=pc (x=y)
def zrR (_ _:List Told):Bool:=true
def zpM:Run:=rF2 (dS .told) (dS .told) fun b c=>(zts b c,[aB (zrR b c)])
def zB8 (N:Nat)(a0 a1:lT):OA:=
 (cond (ine (ln a0) (ln a1)) oF (iter (σ:=(Int×(lT×(lT×Unit)))) N (fun r3 s4=>let y1:=(ix s4.2.1 s4.1 zZ4);let y0:=(ix s4.2.2.1 s4.1 zZ4); (cond (ilt s4.1 (ln s4.2.1)) (oN (inb s4.1 (ln s4.2.1)) (oN (inb s4.1 (ln s4.2.2.1)) (cond (nB (cond (zjL y1.Ok y0.Ok) (ieq y1.N y0.N) false)) oF (r3 ((zD .i64 s4.1 1),(s4.2.1,(s4.2.2.1,()))))))) oT)) (0,(a0,(a1,())))))
def zPW:FuncId->Nat->Option Tmpl:=zk [(12,0,{ n:=26,tm:=[(0,.sl 0 []),(1,.sl 1 []),(5,ti)],lo:=[],ro:=[(0,.told,false),(1,.told,false)] })]
theorem zOQ (a0 a1:List Told)(hb:zbC big [aS .told a0,aS .told a1])(hc:zts a0 a1=true):∃N,zB8 N a0 a1=some [aB (zrR a0 a1)]:=by
 have:=zy.1 hc;subst this;have hl:=(len0 hb);refine ⟨a0.length+1,?_⟩;unfold zB8 oN nB
 conv=>zeta
 rw[zcx];refine zkv a0 zZ4 _ _ hl (fun i hi rec=>?_) (fun rec=>?_) (jW _)
 .simp only [zbi hi,zQ hi,zbc hi,zpH,zcx,zdQ,zet,cT,cF,jV,jZ]
 .simp only [zbe,cF,zrR]
theorem ztY:u4 12 zpM:=hF2 zdV zbg zl zn zPW zOQ
def z5q:zV:=[(123,zz6),(227,zxr),(226,zxv),(43,zv3),(318,zz5),(12,zpM)]++zo0
theorem zwQ:zJ z5q:=zf zKO (zf zHo (zf zHs (zf zEY (zf zKN (zf ztY zdV)))))
def zhT (x y:List (List Int)):Bool:=pc (x=y)
def ziG (_ _:List (List Int)):Bool:=true
def zxu:Run:=rF2 (dS (.sl .int)) (dS (.sl .int)) fun b c=>(zhT b c,[aB (ziG b c)])
def zB6 (N:Nat)(a0:lM)(a1:lM):OA:=
 (cond (ine (ln a0) (ln a1)) oF (iter (σ:=(Int×(lM×(lM×Unit)))) N (fun r3 s4=>(cond (ilt s4.1 (ln s4.2.1)) (oN (inb s4.1 (ln s4.2.1)) (oN (inb s4.1 (ln s4.2.2.1)) (oN (zgj (ix s4.2.1 s4.1 []) (ix s4.2.2.1 s4.1 [])) (cond (nB (zgM (ix s4.2.1 s4.1 []) (ix s4.2.2.1 s4.1 []))) oF (r3 ((zD .i64 s4.1 1),(s4.2.1,(s4.2.2.1,())))))))) oT)) (0,(a0,(a1,())))))
def zPU:FuncId->Nat->Option Tmpl:=zk [(41,0,{ n:=27,tm:=[(0,.sl 0 []),(1,.sl 1 []),(5,ti)],lo:=[],ro:=[(0,(.sl .int),false),(1,(.sl .int),false)] })]
theorem zOO (a0:List (List Int))(a1:List (List Int))(hb:zbC big [aS (.sl .int) a0,aS (.sl .int) a1])(hc:zhT a0 a1=true):∃N,zB6 N a0 a1=some [aB (ziG a0 a1)]:=by
 have:=zy.1 hc;subst this;have hl:=(len0 hb);refine ⟨a0.length+1,?_⟩;unfold zB6 oN nB;rw[zcx];refine zkv a0 (Ty.dflt (.sl .int)) _ _ hl (fun i hi rec=>?_) (fun rec=>?_) (jW _)
 .simp only [zbi hi,zQ hi,zbc hi,zgj,zgM,zpH,zcx,zdQ,zet,cT,cF,jV,jZ]
 .simp only [zbe,cF,ziG]
theorem zHr:u4 41 zxu:=hF2 zwQ zbg zl zn zPU zOO
def zpA (x y:Kept):Bool:=pc (x=y)
def zpz (_ _:Kept):Bool:=true
def zz7:Run:=rF2 (dT .kept) (dT .kept) fun b c=>(zpA b c,[aB (zpz b c)])
def zD5 (N:Nat)(a0 a1:Kept):OA:=
 (oN (zhS a0.Known a1.Known) (cond (ziF a0.Known a1.Known) (oN (zeF a0.Slots a1.Slots) (some [(aB (ze3 a0.Slots a1.Slots))])) oF))
theorem zRZ (a0 a1:Kept)(hc:zpA a0 a1=true):∃N,zD5 N a0 a1=some [aB (zpz a0 a1)]:=by
 have:=zy.1 hc;subst this;refine ⟨0,?_⟩;simp only[zD5,zhS,ziF,zeF,ze3,zpH,zcx,zdQ,zet,cT,cF,jV,jZ,zpz]
theorem zKP:u4 292 zz7:=kF2 zwQ zbg zl zn (zk []) zRZ
def znM (x y:Guest):Bool:=pc (x=y)
def znm (_ _:Guest):Bool:=true
def zxs:Run:=rF2 (dT .guest) (dT .guest) fun b c=>(znM b c,[aB (znm b c)])
def zB4 (N:Nat)(a0 a1:Guest):OA:=
 (oN (zpy a0.Prog a1.Prog) (cond (zpx a0.Prog a1.Prog) (cond (ieq a0.A a1.A) (cond (ieq a0.Pc a1.Pc) (oN (zeF a0.Written a1.Written) (cond (ze3 a0.Written a1.Written) (oN (zeF a0.Live a1.Live) (cond (ze3 a0.Live a1.Live) (cond (cond (ieq a0.Ctl.Traps a1.Ctl.Traps) (cond (ieq a0.Ctl.Post a1.Ctl.Post) (zjL a0.Ctl.Open a1.Ctl.Open) false) false) (cond (ieq a0.Pending a1.Pending) (cond (cond (ieq a0.Exit.Kind a1.Exit.Kind) (cond (ieq a0.Exit.Page a1.Exit.Page) (cond (zjL a0.Exit.Write a1.Exit.Write) (ieq a0.Exit.N a1.Exit.N) false) false) false) (cond (zjL a0.Halted a1.Halted) (oN (zgj a0.Seen a1.Seen) (some [(aB (zgM a0.Seen a1.Seen))])) oF) oF) oF) oF) oF)) oF)) oF) oF) oF))
theorem zOM (a0 a1:Guest)(hc:znM a0 a1=true):∃N,zB4 N a0 a1=some [aB (znm a0 a1)]:=by
 have:=zy.1 hc;subst this;refine ⟨0,?_⟩;simp only[zB4,zpy,zpx,zeF,ze3,zgj,zgM,zpH,zcx,zdQ,zet,cT,cF,jV,jZ,znm]
theorem zHp:u4 291 zxs:=kF2 zwQ zbg zl zn (zk []) zOM
def z5r:zV:=[(41,zxu),(292,zz7),(291,zxs)]++z5q
theorem zEK:zJ z5r:=zf zHr (zf zKP (zf zHp zwQ))
def znN (x y:List Kept):Bool:=pc (x=y)
def znn (_ _:List Kept):Bool:=true
def zxt:Run:=rF2 (dS .kept) (dS .kept) fun b c=>(znN b c,[aB (znn b c)])
def zB5 (N:Nat)(a0 a1:lK):OA:=
 (cond (ine (ln a0) (ln a1)) oF (iter (σ:=(Int×(lK×(lK×Unit)))) N (fun r3 s4=>let y1:=(ix s4.2.1 s4.1 zcU);let y0:=(ix s4.2.2.1 s4.1 zcU); (cond (ilt s4.1 (ln s4.2.1)) (oN (inb s4.1 (ln s4.2.1)) (oN (inb s4.1 (ln s4.2.2.1)) (oN (zpA y1 y0) (cond (nB (zpz y1 y0)) oF (r3 ((zD .i64 s4.1 1),(s4.2.1,(s4.2.2.1,())))))))) oT)) (0,(a0,(a1,())))))
def zPT:FuncId->Nat->Option Tmpl:=zk [(229,0,{ n:=27,tm:=[(0,.sl 0 []),(1,.sl 1 []),(5,ti)],lo:=[],ro:=[(0,.kept,false),(1,.kept,false)] })]
theorem zON (a0 a1:List Kept)(hb:zbC big [aS .kept a0,aS .kept a1])(hc:znN a0 a1=true):∃N,zB5 N a0 a1=some [aB (znn a0 a1)]:=by
 have:=zy.1 hc;subst this;have hl:=(len0 hb);refine ⟨a0.length+1,?_⟩;unfold zB5 oN nB
 conv=>zeta
 rw[zcx];refine zkv a0 zcU _ _ hl (fun i hi rec=>?_) (fun rec=>?_) (jW _)
 .simp only [zbi hi,zQ hi,zbc hi,zpA,zpz,zpH,zcx,zdQ,zet,cT,cF,jV,jZ]
 .simp only [zbe,cF,znn]
theorem zHq:u4 229 zxt:=hF2 zEK zbg zl zn zPT zON
def zmk (x y:List Guest):Bool:=pc (x=y)
def zlx (_ _:List Guest):Bool:=true
def zv4:Run:=rF2 (dS .guest) (dS .guest) fun b c=>(zmk b c,[aB (zlx b c)])
def zza (N:Nat)(a0 a1:lG):OA:=
 (cond (ine (ln a0) (ln a1)) oF (iter (σ:=(Int×(lG×(lG×Unit)))) N (fun r3 s4=>let y1:=(ix s4.2.1 s4.1 zo);let y0:=(ix s4.2.2.1 s4.1 zo); (cond (ilt s4.1 (ln s4.2.1)) (oN (inb s4.1 (ln s4.2.1)) (oN (inb s4.1 (ln s4.2.2.1)) (oN (znM y1 y0) (cond (nB (znm y1 y0)) oF (r3 ((zD .i64 s4.1 1),(s4.2.1,(s4.2.2.1,())))))))) oT)) (0,(a0,(a1,())))))
def zL2:FuncId->Nat->Option Tmpl:=zk [(228,0,{ n:=27,tm:=[(0,.sl 0 []),(1,.sl 1 []),(5,ti)],lo:=[],ro:=[(0,.guest,false),(1,.guest,false)] })]
theorem zLu (a0 a1:List Guest)(hb:zbC big [aS .guest a0,aS .guest a1])(hc:zmk a0 a1=true):∃N,zza N a0 a1=some [aB (zlx a0 a1)]:=by
 have:=zy.1 hc;subst this;have hl:=(len0 hb);refine ⟨a0.length+1,?_⟩;unfold zza oN nB
 conv=>zeta
 rw[zcx];refine zkv a0 zo _ _ hl (fun i hi rec=>?_) (fun rec=>?_) (jW _)
 .simp only [zbi hi,zQ hi,zbc hi,znM,znm,zpH,zcx,zdQ,zet,cT,cF,jV,jZ]
 .simp only [zbe,cF,zlx]
theorem zEZ:u4 228 zv4:=hF2 zEK zbg zl zn zL2 zLu
def z5s:zV:=[(229,zxt),(228,zv4)]++z5r
theorem zTI:zJ z5s:=zf zHq (zf zEZ zEK)
def zrQ (x y:Mon):Bool:=pc (x=y)
def zsS (_ _:Mon):Bool:=true
def zCJ:Run:=rF2 (dT .mon) (dT .mon) fun b c=>(zrQ b c,[aB (zsS b c)])
def zIy (N:Nat)(a0 a1:Mon):OA:=
 (oN (zeF a0.Outer a1.Outer) (cond (ze3 a0.Outer a1.Outer) (oN (zhT a0.Out a1.Out) (cond (ziG a0.Out a1.Out) (oN (zhS a0.Dirty a1.Dirty) (cond (ziF a0.Dirty a1.Dirty) (oN (zmk a0.Guests a1.Guests) (cond (zlx a0.Guests a1.Guests) (oN (zgj a0.Outs a1.Outs) (cond (zgM a0.Outs a1.Outs) (cond (ieq a0.Pending a1.Pending) (cond (ieq a0.Traps a1.Traps) (oN (znN a0.Tables a1.Tables) (cond (znn a0.Tables a1.Tables) (some [(aB (ieq a0.Own a1.Own))]) oF)) oF) oF) oF)) oF)) oF)) oF)) oF))
theorem zVm (a0 a1:Mon)(hc:zrQ a0 a1=true):∃N,zIy N a0 a1=some [aB (zsS a0 a1)]:=by
 have:=zy.1 hc;subst this;refine ⟨0,?_⟩;simp only[zIy,zeF,ze3,zhT,ziG,zhS,ziF,zmk,zlx,zgj,zgM,znN,znn,zpH,zcx,zdQ,zet,cT,cF,jV,jZ,zsS]
theorem zNQ:u4 124 zCJ:=kF2 zTI zbg zl zn (zk []) zVm
def z5t:zV:=[(124,zCJ)]++z5s
theorem zTJ:zJ z5t:=zf zNQ zTI
def zpC (x y:List Mon):Bool:=pc (x=y)
def zpB (_ _:List Mon):Bool:=true
def zz8:Run:=rF2 (dS .mon) (dS .mon) fun b c=>(zpC b c,[aB (zpB b c)])
def zD6 (N:Nat)(a0 a1:lN):OA:=
 (cond (ine (ln a0) (ln a1)) oF (iter (σ:=(Int×(lN×(lN×Unit)))) N (fun r3 s4=>let y1:=(ix s4.2.1 s4.1 zh);let y0:=(ix s4.2.2.1 s4.1 zh); (cond (ilt s4.1 (ln s4.2.1)) (oN (inb s4.1 (ln s4.2.1)) (oN (inb s4.1 (ln s4.2.2.1)) (oN (zrQ y1 y0) (cond (nB (zsS y1 y0)) oF (r3 ((zD .i64 s4.1 1),(s4.2.1,(s4.2.2.1,())))))))) oT)) (0,(a0,(a1,())))))
def zSW:FuncId->Nat->Option Tmpl:=zk [(42,0,{ n:=27,tm:=[(0,.sl 0 []),(1,.sl 1 []),(5,ti)],lo:=[],ro:=[(0,.mon,false),(1,.mon,false)] })]
theorem zR0 (a0 a1:List Mon)(hb:zbC big [aS .mon a0,aS .mon a1])(hc:zpC a0 a1=true):∃N,zD6 N a0 a1=some [aB (zpB a0 a1)]:=by
 have:=zy.1 hc;subst this;have hl:=(len0 hb);refine ⟨a0.length+1,?_⟩;unfold zD6 oN nB
 conv=>zeta
 rw[zcx];refine zkv a0 zh _ _ hl (fun i hi rec=>?_) (fun rec=>?_) (jW _)
 .simp only [zbi hi,zQ hi,zbc hi,zrQ,zsS,zpH,zcx,zdQ,zet,cT,cF,jV,jZ]
 .simp only [zbe,cF,zpB]
theorem zKQ:u4 42 zz8:=hF2 zTJ zbg zl zn zSW zR0
def zbbV:zV:=[(42,zz8)]++z5t
theorem z5u:zJ zbbV:=zf zKQ zTJ
def zvO (x y:Host):Bool:=pc (x=y)
def zut (_ _:Host):Bool:=true
def zz4:Run:=rF2 dH dH fun b c=>(zvO b c,[aB (zut b c)])
def zD2 (N:Nat)(a0 a1:Host):OA:=
 (oN (zhT a0.Memory a1.Memory) (cond (ziG a0.Memory a1.Memory) (oN (zpC a0.Mons a1.Mons) (cond (zpB a0.Mons a1.Mons) (oN (zji a0.Buffer a1.Buffer) (cond (zjh a0.Buffer a1.Buffer) (oN (zji a0.IoBuffer a1.IoBuffer) (some [(aB (zjh a0.IoBuffer a1.IoBuffer))])) oF)) oF)) oF))
theorem zRW (a0 a1:Host)(hc:zvO a0 a1=true):∃N,zD2 N a0 a1=some [aB (zut a0 a1)]:=by
 have:=zy.1 hc;subst this;refine ⟨0,?_⟩;simp only[zD2,zhT,ziG,zpC,zpB,zji,zjh,zpH,zcx,zdQ,zet,cT,cF,jV,jZ,zut]
theorem zKM:u4 11 zz4:=kF2 z5u zbg zl zn (zk []) zRW
def Ends {ρ:Type}(G:ρ->Prop)(o:Option ρ):Prop:=∃a,o=some a/\G a
section
variable {ρ:Type} {G:ρ->Prop}
theorem zbp {c:Bool}{a b:Option ρ}(h:c=true)(k:Ends G a):Ends G (cond c a b):=by rw[h];exact k
theorem zcR {c:Bool}{a b:Option ρ}(h1:c=true->Ends G a)(h2:c=false->Ends G b):Ends G (cond c a b):=by
 cases c
 .exact h2 rfl
 .exact h1 rfl
theorem zn2 {x:Option ρ}{f:Option ρ->Option ρ}(h:Ends G x)(k:∀t,Ends G t->Ends G (f t)):Ends G (share x f):=k x h
theorem zNd {a:ρ}(h:G a):Ends G (some a):=⟨a,rfl,h⟩
theorem zsy {σ:Type}{F:(σ->Option ρ)->σ->Option ρ}(I:Nat->σ->Prop)(h:∀n s rec,I n s->(∀k s',k<n->I k s'->Ends G (rec s'))->Ends G (F rec s)):∀(N n:Nat) (s:σ),I n s->n<N->Ends G (iter N F s)
 | 0,n,s,_,hn=>absurd hn (Nat.not_lt_zero n)
 | N+1,n,s,hI,hn=>h n s (iter N F) hI fun k s' hk hs=>zsy I h N k s' hs (by omega)
theorem zbaR {G:Ans->Prop}{o:OA}{r:Ans}(h:Ends (fun a=>a=r) o):o=some r:=by
 obtain ⟨a,h1,h2⟩:=h;rw[h1,h2]
end
instance:Inhabited Cur:=⟨⟨[],0,0⟩⟩
instance:Inhabited Ins:=⟨⟨0,0⟩⟩
instance:Inhabited GAct:=⟨⟨0,0,0,0,0,0⟩⟩
instance:Inhabited Ctl:=⟨⟨0,0,false⟩⟩
instance:Inhabited Host:=⟨⟨[],[],[],[]⟩⟩
def zcV (c:Cur):Prop:=0<=c.i/\c.b.length<=big
theorem zkX {T:Type}(av:T->AV){good:T->Prop}{b:List Int}{x y:Int}{v:T}(h:0<=x)(g:good v):Ends (fun a=>∃s v0,a=(AV.agg (zbv s) :: [av v0])/\(s.b=b/\0<=s.i)/\good v0) (some (AV.agg [.s .u8 b,.i .i64 x,.i .i64 y] :: [av v])) :=
 ⟨_,rfl,⟨b,x,y⟩,v,rfl,⟨rfl,h⟩,g⟩
def zm0 (N:Nat)(c:Cur)  : OA :=
 let y0:=(zD .i64 (zmW .i64 c.h 6364136223846793005) 1442695040888963407);let y1:=(wand .i64 (z8H .i64 (zjy .i64 y0 33) (zjy .i64 y0 45)) 255); (oN (ile 0 33) (oN (ile 0 45) (cond (ilt c.i (ln c.b)) (oN (inb c.i (ln c.b)) (some [(.agg [(.s .u8 c.b),(.i .i64 (zD .i64 c.i 1)),(.i .i64 y0)]),(aI (wand .i64 (zD .i64 y1 (wcv .i64 (ix c.b c.i 0))) 255))])) (some [(.agg [(.s .u8 c.b),(.i .i64 c.i),(.i .i64 y0)]),(aI y1)]))))
theorem zYM (N:Nat)(c:Cur)  : zfW (cQ zo0 zly zLK zj6) (zk []) N 12 51 [false,true,true] (zbv c) []=zm0 N c:=by kernel_rfl
def zlK (c:Cur)(s:Cur)(v0:Int):Prop:=(∃N,zm0 N c=some (AV.agg (zbv s) :: [aI v0]))/\(s.b=c.b/\0<=s.i)/\(0<=v0/\v0<=255)
def zc9 (c:Cur)  : Bool:=pc (∃s v0,zlK c s v0)
def zsh (c:Cur)  : Cur×Int:=Classical.epsilon fun r=>zlK c r.1 r.2
def zcf (c:Cur)  : Cur:=bif zc9 c then (zsh c).1 else ⟨[],0,0⟩
def zfA (c:Cur)  : Int:=(zsh c).2
theorem zkP {c:Cur}(h:zc9 c=true):zlK c (zcf c) (zfA c):=by
 obtain ⟨s,v0,h2⟩:=zy.1 h;have h3:zlK c (zsh c).1 (zsh c).2:=Classical.epsilon_spec (p:=fun r=>zlK c r.1 r.2) ⟨(s,v0),h2⟩;unfold zcf;rw[h,cT];exact h3
theorem znA (c:Cur)  : 0<=(zcf c).i:=by
 unfold zcf;cases h:zc9 c with
 | false=>exact jY 0
 | true =>
  have:=(zkP h).2.1.2;unfold zcf at this
  rwa [h] at this
theorem z1g (c:Cur)(h:∃N,Ends (fun a=>∃s v0,a=(AV.agg (zbv s) :: [aI v0])/\(s.b=c.b/\0<=s.i)/\(0<=v0/\v0<=255)) (zm0 N c)):zc9 c=true:=by
 obtain ⟨N,a,e,s,v0,rfl,h⟩:=h;exact zN ⟨s,v0,⟨N,e⟩,h⟩
def zqT:List CV->List AV->Option (Bool×List CV×List AV)
 | [.s .u8 b,.i .i64 c,.i .i64 d],[]=>some ((zc9 (⟨b,c,d⟩:Cur)),zbv (zcf (⟨b,c,d⟩:Cur)),[aI (zfA (⟨b,c,d⟩:Cur))])
 | _,_=>none
theorem zVK (c:Cur)(hb:zbC big (.agg (zbv c) :: []))(hc:zc9 c=true):∃N,zm0 N c=some (.agg (zbv (zcf c)) :: [aI (zfA c)]):=by
 exact (zkP hc).1
theorem zOa:zdp Tryz.prog 51 [false,true,true] zqT:=by
 refine zbW (zcD zdV zbg zl zn) (zdT (by kernel_rfl)) ?_
 intro cs avs cs' rs hl hr h;have hb:=zb9 hr;unfold zqT at h;split at h
 .obtain ⟨hc,rfl,rfl⟩:=zcj h;obtain ⟨N,hN⟩:=zVK _ (by exact hb) hc
  exact ⟨rfl,_,N,12,(zYM N _ ).trans hN⟩
 .cases h
theorem zUk {x m:Int}(h0:0<=m)(h1:m<9223372036854775808):0<=wand .i64 x m/\wand .i64 x m<=m:=by
 have hm:(BitVec.ofInt 64 m).toNat=m.toNat:=by
  rw[BitVec.toNat_ofInt];omega
 have hle:(BitVec.ofInt 64 x &&& BitVec.ofInt 64 m).toNat<=m.toNat:=by
  rw[BitVec.toNat_and,hm];exact Nat.and_le_right
 unfold wand
 show 0<=IntKind.wrap .i64 ((BitVec.ofInt 64 x &&& BitVec.ofInt 64 m).toNat:Int)/\IntKind.wrap .i64 ((BitVec.ofInt 64 x &&& BitVec.ofInt 64 m).toNat:Int)<=m
 rw[zvb (by omega) (by omega)]
 omega
@[simp] theorem zM7 {c:Cur}(h:zcV c):zc9 c=true:=by
 refine z1g c ⟨0,?_⟩;unfold zm0 oN
 conv=>zeta
 refine zbp rfl (zbp rfl (zcR (fun h0=>zbp (qK ⟨h.1,qD h0⟩) (zkX aI ?_ (zUk (by omega) (by omega)))) (fun _=>zkX aI h.1 (zUk (by omega) (by omega)))))
 have h1:c.i<ln c.b:=qD h0;have h2:=h.2;have h3:=h.1;rw[zuP]at h2;unfold ln at h1;rw[zmO (by omega) (by omega)]
 omega
def z3N:zdq:=[(51,([false,true,true],zqT))]++zLK
theorem zYU:zck z3N:=zdR zl (by
 intro x hx;simp only[qI,qX,or_false]at hx;rcases hx with rfl
 .exact zOa)
theorem zKi {b:List Int}{i h:Int}(h0:0<=i)(hb:b.length<=big):zcV ⟨b,i,h⟩:=⟨h0,hb⟩
theorem zS9 {x n:Int}(h0:0<=x)(hn:0<n):0<=zmX x n/\zmX x n<n:=by
 unfold zmX;exact ⟨Int.tmod_nonneg _ h0,Int.tmod_lt_of_pos _ hn⟩
def zk4 (N:Nat)(c:Cur)(a0:Int):OA:=
 let y2:=({ (zcf c) with b:=c.b }:Cur);let y0:=({ (zcf y2) with b:=c.b }:Cur);let y1:=({ (zcf y0) with b:=c.b }:Cur); (cond (ile a0 0) (some [(.agg [(.s .u8 c.b),(.i .i64 c.i),(.i .i64 c.h)]),(aI 0)]) (cond (ile a0 256) (oN (zc9 c) (oN (ine a0 0) (some [(.agg [(.s .u8 c.b),(.i .i64 (zcf c).i),(.i .i64 (zcf c).h)]),(aI (zmX (zfA c) a0))]))) (oN (zc9 c) (oN (zc9 y2) (oN (zc9 y0) (oN (zc9 y1) (oN (ine a0 0) (some [(.agg [(.s .u8 c.b),(.i .i64 (zcf y1).i),(.i .i64 (zcf y1).h)]),(aI (zmX (zD .i64 (zD .i64 (zD .i64 (zmW .i64 (zfA c) 16777216) (zmW .i64 (zfA y2) 65536)) (zmW .i64 (zfA y0) 256)) (zfA y1)) a0))]))))))))
theorem zV3 (N:Nat)(c:Cur)(a0:Int):zfW (cQ zo0 zly z3N zj6) (zk []) N 12 17 [false,true,true] (zbv c) [aI a0]=zk4 N c a0:=by kernel_rfl
def zko (c:Cur)(a0:Int)(s:Cur)(v0:Int):Prop:=(∃N,zk4 N c a0=some (AV.agg (zbv s) :: [aI v0]))/\(s.b=c.b/\0<=s.i)/\((0<a0->0<=v0/\v0<a0))
def zX (c:Cur)(a0:Int):Bool:=pc (∃s v0,zko c a0 s v0)
def zqm (c:Cur)(a0:Int):Cur×Int:=Classical.epsilon fun r=>zko c a0 r.1 r.2
def zB (c:Cur)(a0:Int):Cur:=bif zX c a0 then (zqm c a0).1 else ⟨[],0,0⟩
def zZ (c:Cur)(a0:Int):Int:=(zqm c a0).2
theorem zql {c:Cur}{a0:Int}(h:zX c a0=true):zko c a0 (zB c a0) (zZ c a0):=by
 obtain ⟨s,v0,h2⟩:=zy.1 h;have h3:zko c a0 (zqm c a0).1 (zqm c a0).2:=Classical.epsilon_spec (p:=fun r=>zko c a0 r.1 r.2) ⟨(s,v0),h2⟩;unfold zB;rw[h,cT];exact h3
theorem zca (c:Cur)(a0:Int):0<=(zB c a0).i:=by
 unfold zB;cases h:zX c a0 with
 | false=>exact jY 0
 | true =>
  have:=(zql h).2.1.2;unfold zB at this
  rwa [h] at this
theorem zZg (c:Cur)(a0:Int)(h:∃N,Ends (fun a=>∃s v0,a=(AV.agg (zbv s) :: [aI v0])/\(s.b=c.b/\0<=s.i)/\((0<a0->0<=v0/\v0<a0))) (zk4 N c a0)):zX c a0=true:=by
 obtain ⟨N,a,e,s,v0,rfl,h⟩:=h;exact zN ⟨s,v0,⟨N,e⟩,h⟩
def zpI:List CV->List AV->Option (Bool×List CV×List AV)
 | [.s .u8 b,.i .i64 c,.i .i64 d],[.one (.i .i64 e)]=>some ((zX (⟨b,c,d⟩:Cur) e),zbv (zB (⟨b,c,d⟩:Cur) e),[aI (zZ (⟨b,c,d⟩:Cur) e)])
 | _,_=>none
theorem zSl (c:Cur)(a0:Int)(hb:zbC big (.agg (zbv c) :: [aI a0]))(hc:zX c a0=true):∃N,zk4 N c a0=some (.agg (zbv (zB c a0)) :: [aI (zZ c a0)]):=by
 exact (zql hc).1
theorem zK9:zdp Tryz.prog 17 [false,true,true] zpI:=by
 refine zbW (zcD zdV zbg zYU zn) (zdT (by kernel_rfl)) ?_
 intro cs avs cs' rs hl hr h;have hb:=zb9 hr;unfold zpI at h;split at h
 .obtain ⟨hc,rfl,rfl⟩:=zcj h;obtain ⟨N,hN⟩:=zSl _ _ (by exact hb) hc
  exact ⟨rfl,_,N,12,(zV3 N _ _ ).trans hN⟩
 .cases h
theorem zhd {c:Cur}(h:zcV c)(n:Int):zX c n=true:=by
 refine zZg c n ⟨0,?_⟩;have k1:=zM7 h;have k2:zc9 { zcf c with b:=c.b }=true:=zM7 (zKi (znA _) h.2);have k3:zc9 { zcf { zcf c with b:=c.b } with b:=c.b }=true:=zM7 (zKi (znA _) h.2);have k4:zc9 { zcf { zcf { zcf c with b:=c.b } with b:=c.b } with b:=c.b }=true:=zM7 (zKi (znA _) h.2);have b1:=(zkP k1).2.2;have b2:=(zkP k2).2.2;have b3:=(zkP k3).2.2;have b4:=(zkP k4).2.2;unfold zk4 oN
 conv=>zeta
 refine zcR (fun h0=>zkX aI h.1 (fun hn=>absurd (qD h0) (by omega))) (fun h0=>?_)
 have hn:¬ n<=0:=qV h0;have hz:ine n 0=true:=by simp[ine];omega
 refine zcR (fun h1=>zbp k1 (zbp hz (zkX aI (znA _) (fun hp=>zS9 b1.1 hp)))) (fun h1=>?_);refine zbp k1 (zbp k2 (zbp k3 (zbp k4 (zbp hz (zkX aI (znA _) (fun hp=>zS9 ?_ hp))))));generalize zfA c=x1 at b1;generalize zfA _=x2 at b2;generalize zfA _=x3 at b3;generalize zfA _=x4 at b4;have w1:zmW .i64 x1 16777216=x1*16777216:=zvb (by omega) (by omega)
 have w2:zmW .i64 x2 65536=x2*65536:=zvb (by omega) (by omega)
 have w3:zmW .i64 x3 256=x3*256:=zvb (by omega) (by omega)
 rw[w1,w2,w3,zmO (x:=x1*16777216) (by omega) (by omega),zmO (x:=x1*16777216+x2*65536) (by omega) (by omega),zmO (by omega) (by omega)]
 omega
def zWr:zdq:=[(17,([false,true,true],zpI))]++z3N
theorem zLL:zck zWr:=zdR zYU (by
 intro x hx;simp only[qI,qX,or_false]at hx;rcases hx with rfl
 .exact zK9)
def zm1 (N:Nat)(c:Cur)(a0:Int):OA:=
 (oN (zX c a0) (some [(.agg [(.s .u8 c.b),(.i .i64 (zB c a0).i),(.i .i64 (zB c a0).h)]),(aB (ieq (zZ c a0) 0))]))
theorem zYN (N:Nat)(c:Cur)(a0:Int):zfW (cQ zo0 zly zWr zj6) (zk []) N 12 49 [false,true,true] (zbv c) [aI a0]=zm1 N c a0:=by kernel_rfl
def zlL (c:Cur)(a0:Int)(s:Cur)(v0:Bool):Prop:=(∃N,zm1 N c a0=some (AV.agg (zbv s) :: [aB v0]))/\(s.b=c.b/\0<=s.i)/\(True)
def zdM (c:Cur)(a0:Int):Bool:=pc (∃s v0,zlL c a0 s v0)
def zsi (c:Cur)(a0:Int):Cur×Bool:=Classical.epsilon fun r=>zlL c a0 r.1 r.2
def zb8 (c:Cur)(a0:Int):Cur:=bif zdM c a0 then (zsi c a0).1 else ⟨[],0,0⟩
def zik (c:Cur)(a0:Int):Bool:=(zsi c a0).2
theorem zJM {c:Cur}{a0:Int}(h:zdM c a0=true):zlL c a0 (zb8 c a0) (zik c a0):=by
 obtain ⟨s,v0,h2⟩:=zy.1 h;have h3:zlL c a0 (zsi c a0).1 (zsi c a0).2:=Classical.epsilon_spec (p:=fun r=>zlL c a0 r.1 r.2) ⟨(s,v0),h2⟩;unfold zb8;rw[h,cT];exact h3
theorem zg6 (c:Cur)(a0:Int):0<=(zb8 c a0).i:=by
 unfold zb8;cases h:zdM c a0 with
 | false=>exact jY 0
 | true =>
  have:=(zJM h).2.1.2;unfold zb8 at this
  rwa [h] at this
theorem z1h (c:Cur)(a0:Int)(h:∃N,Ends (fun a=>∃s v0,a=(AV.agg (zbv s) :: [aB v0])/\(s.b=c.b/\0<=s.i)/\(True)) (zm1 N c a0)):zdM c a0=true:=by
 obtain ⟨N,a,e,s,v0,rfl,h⟩:=h;exact zN ⟨s,v0,⟨N,e⟩,h⟩
def zqU:List CV->List AV->Option (Bool×List CV×List AV)
 | [.s .u8 b,.i .i64 c,.i .i64 d],[.one (.i .i64 e)]=>some ((zdM (⟨b,c,d⟩:Cur) e),zbv (zb8 (⟨b,c,d⟩:Cur) e),[aB (zik (⟨b,c,d⟩:Cur) e)])
 | _,_=>none
theorem zVL (c:Cur)(a0:Int)(hb:zbC big (.agg (zbv c) :: [aI a0]))(hc:zdM c a0=true):∃N,zm1 N c a0=some (.agg (zbv (zb8 c a0)) :: [aB (zik c a0)]):=by
 exact (zJM hc).1
theorem zOb:zdp Tryz.prog 49 [false,true,true] zqU:=by
 refine zbW (zcD zdV zbg zLL zn) (zdT (by kernel_rfl)) ?_
 intro cs avs cs' rs hl hr h;have hb:=zb9 hr;unfold zqU at h;split at h
 .obtain ⟨hc,rfl,rfl⟩:=zcj h;obtain ⟨N,hN⟩:=zVL _ _ (by exact hb) hc
  exact ⟨rfl,_,N,12,(zYN N _ _ ).trans hN⟩
 .cases h
theorem zPb {c:Cur}(h:zcV c)(n:Int):zdM c n=true:=by
 refine z1h c n ⟨0,?_⟩;unfold zm1 oN;exact zbp (zhd h _) (zkX aB (zca _ _) trivial)
def zi0 (N:Nat)(c:Cur)(a0:List Int):OA:=
 (oN (zX c (ln a0)) (oN (inb (zZ c (ln a0)) (ln a0)) (some [(.agg [(.s .u8 c.b),(.i .i64 (zB c (ln a0)).i),(.i .i64 (zB c (ln a0)).h)]),(aI (ix a0 (zZ c (ln a0)) 0))])))
theorem zO8 (N:Nat)(c:Cur)(a0:List Int):zfW (cQ zo0 zly zWr zj6) (zk []) N 12 129 [false,true,true] (zbv c) [aS .int a0]=zi0 N c a0:=by kernel_rfl
def zil (c:Cur)(a0:List Int)(s:Cur)(v0:Int):Prop:=(∃N,zi0 N c a0=some (AV.agg (zbv s) :: [aI v0]))/\(s.b=c.b/\0<=s.i)/\((0<a0.length->v0∈a0))
def zcq (c:Cur)(a0:List Int):Bool:=pc (∃s v0,zil c a0 s v0)
def zmJ (c:Cur)(a0:List Int):Cur×Int:=Classical.epsilon fun r=>zil c a0 r.1 r.2
def zbG (c:Cur)(a0:List Int):Cur:=bif zcq c a0 then (zmJ c a0).1 else ⟨[],0,0⟩
def zdH (c:Cur)(a0:List Int):Int:=(zmJ c a0).2
theorem zrk {c:Cur}{a0:List Int}(h:zcq c a0=true):zil c a0 (zbG c a0) (zdH c a0):=by
 obtain ⟨s,v0,h2⟩:=zy.1 h;have h3:zil c a0 (zmJ c a0).1 (zmJ c a0).2:=Classical.epsilon_spec (p:=fun r=>zil c a0 r.1 r.2) ⟨(s,v0),h2⟩;unfold zbG;rw[h,cT];exact h3
theorem zho (c:Cur)(a0:List Int):0<=(zbG c a0).i:=by
 unfold zbG;cases h:zcq c a0 with
 | false=>exact jY 0
 | true =>
  have:=(zrk h).2.1.2;unfold zbG at this
  rwa [h] at this
theorem zSG (c:Cur)(a0:List Int)(h:∃N,Ends (fun a=>∃s v0,a=(AV.agg (zbv s) :: [aI v0])/\(s.b=c.b/\0<=s.i)/\((0<a0.length->v0∈a0))) (zi0 N c a0)):zcq c a0=true:=by
 obtain ⟨N,a,e,s,v0,rfl,h⟩:=h;exact zN ⟨s,v0,⟨N,e⟩,h⟩
def zmV:List CV->List AV->Option (Bool×List CV×List AV)
 | [.s .u8 b,.i .i64 c,.i .i64 d],[.one (.s .int e)]=>some ((zcq (⟨b,c,d⟩:Cur) e),zbv (zbG (⟨b,c,d⟩:Cur) e),[aI (zdH (⟨b,c,d⟩:Cur) e)])
 | _,_=>none
theorem zLE (c:Cur)(a0:List Int)(hb:zbC big (.agg (zbv c) :: [aS .int a0]))(hc:zcq c a0=true):∃N,zi0 N c a0=some (.agg (zbv (zbG c a0)) :: [aI (zdH c a0)]):=by
 exact (zrk hc).1
theorem zE6:zdp Tryz.prog 129 [false,true,true] zmV:=by
 refine zbW (zcD zdV zbg zLL zn) (zdT (by kernel_rfl)) ?_
 intro cs avs cs' rs hl hr h;have hb:=zb9 hr;unfold zmV at h;split at h
 .obtain ⟨hc,rfl,rfl⟩:=zcj h;obtain ⟨N,hN⟩:=zLE _ _ (by exact hb) hc
  exact ⟨rfl,_,N,12,(zO8 N _ _ ).trans hN⟩
 .cases h
theorem zzG {c:Cur}(h:zcV c){l:List Int}(hl:l≠[]):zcq c l=true:=by
 refine zSG c l ⟨0,?_⟩;have hp:0<ln l:=by unfold ln;have:=uD.2 hl;omega
 have g:=(zql (zhd h (ln l))).2.2 hp;have hb:inb (zZ c (ln l)) (ln l)=true:=qK ⟨g.1,g.2⟩;unfold zi0 oN;exact zbp (zhd h _) (zbp hb (zkX aI (zca _ _) (fun _=>zbt hb 0)))
def z3O:zdq:=[(49,([false,true,true],zqU)),(129,([false,true,true],zmV))]++zWr
theorem zYV:zck z3O:=zdR zLL (by
 intro x hx;simp only[qI,qX,or_false]at hx;rcases hx with rfl|rfl
 .exact zOb
 .exact zE6)
theorem zem {c:Cur}{i k:Int}(h:zcV c)(h0:0<=i):zcV ⟨c.b,i,k⟩:=⟨h0,h.2⟩
theorem zbbc {c:Cur}(h:zcV c){l:List Int}(hl:l≠[]):zdH c l∈l:=(zrk (zzG h hl)).2.2 (uD.2 hl)
theorem znZ {c:Cur}(h:zcV c){n:Int}(hn:0<n):0<=zZ c n/\zZ c n<n:=(zql (zhd h n)).2.2 hn
theorem zOu {o x:Int}(h:(o=1\/o=2\/o=5\/o=6)/\0<=x/\x<=99\/(o=3\/o=4)/\0<=x/\x<=15\/o=8/\0<=x/\x<=11):zgt ⟨o,x⟩=true:=by
 have w:∀{a b:Int},a<=x->x<=b->win x a b=true:=fun h1 h2=>by simp only[win,ige,ile,qE,qY];exact ⟨h1,h2⟩
 rcases h with ⟨h|h|h|h,h1,h2⟩|⟨h|h,h1,h2⟩|⟨h,h1,h2⟩<;>subst h<;>exact w h1 h2
def zoR (N:Nat)(c:Cur)  : OA :=
 let y1:=(zdH c [1,2,3,3,3,4,4,4,5,6,8]);let y0:=({ (zbG c [1,2,3,3,3,4,4,4,5,6,8]) with b:=c.b }:Cur); (share (oN (zX y0 16) (some [(.agg [(.s .u8 c.b),(.i .i64 (zB y0 16).i),(.i .i64 (zB y0 16).h)]),(.agg [(.i .i64 y1),(.i .i64 (zZ y0 16))])])) (fun t1=>(share (cond (ieq y1 8) (oN (zX y0 4) (some [(.agg [(.s .u8 c.b),(.i .i64 (zB y0 4).i),(.i .i64 (zB y0 4).h)]),(.agg [(.i .i64 y1),(.i .i64 (zZ y0 4))])])) (oN (zX y0 100) (some [(.agg [(.s .u8 c.b),(.i .i64 (zB y0 100).i),(.i .i64 (zB y0 100).h)]),(.agg [(.i .i64 y1),(.i .i64 (zZ y0 100))])]))) (fun t0=>(oN (zcq c [1,2,3,3,3,4,4,4,5,6,8]) (cond (ieq y1 3) (cond (ieq y1 3) t1 t0) (cond (ieq y1 4) t1 t0)))))))
theorem z0Z (N:Nat)(c:Cur)  : zfW (cQ zo0 zly z3O zj6) (zk []) N 12 293 [false,true,true] (zbv c) []=zoR N c:=by kernel_rfl
def znB (c:Cur)(s:Cur)(v0:Ins):Prop:=(∃N,zoR N c=some (AV.agg (zbv s) :: [aT .ins v0]))/\(s.b=c.b/\0<=s.i)/\(zgt v0=true)
def zim (c:Cur)  : Bool:=pc (∃s v0,znB c s v0)
def zuG (c:Cur)  : Cur×Ins:=Classical.epsilon fun r=>znB c r.1 r.2
def zgQ (c:Cur)  : Cur:=bif zim c then (zuG c).1 else ⟨[],0,0⟩
def zwq (c:Cur)  : Ins:=(zuG c).2
theorem zBB {c:Cur}(h:zim c=true):znB c (zgQ c) (zwq c):=by
 obtain ⟨s,v0,h2⟩:=zy.1 h;have h3:znB c (zuG c).1 (zuG c).2:=Classical.epsilon_spec (p:=fun r=>znB c r.1 r.2) ⟨(s,v0),h2⟩;unfold zgQ;rw[h,cT];exact h3
theorem z4c (c:Cur)  : 0<=(zgQ c).i:=by
 unfold zgQ;cases h:zim c with
 | false=>exact jY 0
 | true =>
  have:=(zBB h).2.1.2;unfold zgQ at this
  rwa [h] at this
theorem z4b (c:Cur)(h:∃N,Ends (fun a=>∃s v0,a=(AV.agg (zbv s) :: [aT .ins v0])/\(s.b=c.b/\0<=s.i)/\(zgt v0=true)) (zoR N c)):zim c=true:=by
 obtain ⟨N,a,e,s,v0,rfl,h⟩:=h;exact zN ⟨s,v0,⟨N,e⟩,h⟩
def ztu:List CV->List AV->Option (Bool×List CV×List AV)
 | [.s .u8 b,.i .i64 c,.i .i64 d],[]=>some ((zim (⟨b,c,d⟩:Cur)),zbv (zgQ (⟨b,c,d⟩:Cur)),[aT .ins (zwq (⟨b,c,d⟩:Cur))])
 | _,_=>none
theorem zYu (c:Cur)(hb:zbC big (.agg (zbv c) :: []))(hc:zim c=true):∃N,zoR N c=some (.agg (zbv (zgQ c)) :: [aT .ins (zwq c)]):=by
 exact (zBB hc).1
theorem zRg:zdp Tryz.prog 293 [false,true,true] ztu:=by
 refine zbW (zcD zdV zbg zYV zn) (zdT (by kernel_rfl)) ?_
 intro cs avs cs' rs hl hr h;have hb:=zb9 hr;unfold ztu at h;split at h
 .obtain ⟨hc,rfl,rfl⟩:=zcj h;obtain ⟨N,hN⟩:=zYu _ (by exact hb) hc
  exact ⟨rfl,_,N,12,(z0Z N _ ).trans hN⟩
 .cases h
theorem z9T {c:Cur}(h:zcV c):zim c=true:=by
 refine z4b c ⟨0,?_⟩;have hk:([1,2,3,3,3,4,4,4,5,6,8]:List Int)≠[]:=by simp
 have hm:=zbbc h hk;have h1:zcV { zbG c [1,2,3,3,3,4,4,4,5,6,8] with b:=c.b }:=zem h (zho _ _);have b16:=znZ h1 (n:=16) (by omega)
 have b4:=znZ h1 (n:=4) (by omega)
 have b100:=znZ h1 (n:=100) (by omega)
 unfold zoR oN
 conv=>zeta
 generalize zdH c [1,2,3,3,3,4,4,4,5,6,8]=o at hm;simp only[qI,qX,or_false]at hm;have no:∀{n:Int},ieq o n=false->o≠n:=fun h e=>by subst e;simp[ieq]at h
 have ye:∀{n:Int},ieq o n=true->o=n:=fun h=>by simpa [ieq] using h
 have L:∀(n:Int),0<n->(zgt ⟨o,zZ { zbG c [1,2,3,3,3,4,4,4,5,6,8] with b:=c.b } n⟩=true)->Ends (fun a=>∃s v0,a=(AV.agg (zbv s) :: [aT .ins v0])/\(s.b=c.b/\0<=s.i)/\zgt v0=true)
  (cond (zX { zbG c [1,2,3,3,3,4,4,4,5,6,8] with b:=c.b } n) (some (AV.agg [.s .u8 c.b,.i .i64 (zB { zbG c [1,2,3,3,3,4,4,4,5,6,8] with b:=c.b } n).i,.i .i64 (zB { zbG c [1,2,3,3,3,4,4,4,5,6,8] with b:=c.b } n).h] :: [.agg [.i .i64 o,.i .i64 (zZ { zbG c [1,2,3,3,3,4,4,4,5,6,8] with b:=c.b } n)]])) none) :=
  fun n hn hi=>zbp (zhd h1 n) (zkX (aT .ins) (v:=⟨o,zZ _ n⟩) (zca _ _) hi)
 refine zbp (zzG h hk) (zcR (fun h3=>zcR (fun _=>L 16 (by omega) (zOu ?_)) (fun h4=>absurd (ye h3) (no h4))) (fun h3=>zcR (fun h4=>L 16 (by omega) (zOu ?_)) (fun h4=>zcR (fun h8=>L 4 (by omega) (zOu ?_)) (fun h8=>L 100 (by omega) (zOu ?_)))))
 .have:=ye h3;omega
 .have:=ye h4;omega
 .have:=ye h8;omega
 .have:=no h3;have:=no h4;have:=no h8;omega
def z3P:zdq:=[(293,([false,true,true],ztu))]++z3O
theorem zYW:zck z3P:=zdR zYV (by
 intro x hx;simp only[qI,qX,or_false]at hx;rcases hx with rfl
 .exact zRg)
theorem zoP {x y:Int}(h0:0<=x)(h1:x<=1000000)(h2:0<=y)(h3:y<=1000000):zD .i64 x y=x+y:=zmO (by omega) (by omega)
theorem zo2 {α:Type}{l:List α}(h:ln l<=1000000):few (ln l)=true:=qK ⟨by unfold ln;omega,by omega⟩
theorem znP {α:Type}(l:List α)(x:α):ln (ap l [x])=ln l+1:=by simp[ln,ap]
def zm2 (N:Nat)(c:Cur)  : OA :=
 (iter (σ:=(Int×(Int×(Int×(lI×((List Int)×Unit)))))) N (fun r2 s3=>let y3:=s3.2.2.2.1;let y2:=s3.2.2.2.2.1;let y1:=(⟨y2,s3.2.1,s3.2.2.1⟩:Cur);let y0:=({ (zB y1 7) with b:=y2 }:Cur); (oN (zX y1 7) (cond (ilt s3.1 (zD .i64 2 (zZ y1 7))) (oN (zim y0) (oN (few (ln (ap y3 [(zwq y0)]))) (r2 ((zD .i64 s3.1 1),((zgQ y0).i,((zgQ y0).h,((ap y3 [(zwq y0)]),(y2,())))))))) (oN (zdM y0 3) (cond (zik y0 3) (oN (few (ln (ap y3 [(⟨7,0⟩:Ins)]))) (some [(.agg [(.s .u8 y2),(.i .i64 (zb8 y0 3).i),(.i .i64 (zb8 y0 3).h)]),(aS .ins (ap y3 [(⟨7,0⟩:Ins)]))])) (oN (few (ln (ap y3 [(⟨8,0⟩:Ins)]))) (some [(.agg [(.s .u8 y2),(.i .i64 (zb8 y0 3).i),(.i .i64 (zb8 y0 3).h)]),(aS .ins (ap y3 [(⟨8,0⟩:Ins)]))]))))))) (0,(c.i,(c.h,([],(c.b,()))))))
def zWe:FuncId->Nat->Option Tmpl:=zk [(230,0,{ n:=29,tm:=[(0,.lp 0 0),(3,.sl 0 []),(4,ti)],lo:=[(0,[.sl 1 [],ti,ti])],ro:=[(0,.ins,true),(1,.u8,false)] })]
theorem zYO (N:Nat)(c:Cur)  : zfW (cQ zo0 zly z3P zj6) zWe N 12 230 [false,true,true] (zbv c) []=zm2 N c:=by kernel_rfl
def zlM (c:Cur)(s:Cur)(v0:List Ins):Prop:=(∃N,zm2 N c=some (AV.agg (zbv s) :: [aS .ins v0]))/\(s.b=c.b/\0<=s.i)/\(zdz v0=true)
def zf6 (c:Cur)  : Bool:=pc (∃s v0,zlM c s v0)
def zsj (c:Cur)  : Cur×List Ins:=Classical.epsilon fun r=>zlM c r.1 r.2
def ze4 (c:Cur)  : Cur:=bif zf6 c then (zsj c).1 else ⟨[],0,0⟩
def zoJ (c:Cur)  : List Ins:=(zsj c).2
theorem zyO {c:Cur}(h:zf6 c=true):zlM c (ze4 c) (zoJ c):=by
 obtain ⟨s,v0,h2⟩:=zy.1 h;have h3:zlM c (zsj c).1 (zsj c).2:=Classical.epsilon_spec (p:=fun r=>zlM c r.1 r.2) ⟨(s,v0),h2⟩;unfold ze4;rw[h,cT];exact h3
theorem z1j (c:Cur)  : 0<=(ze4 c).i:=by
 unfold ze4;cases h:zf6 c with
 | false=>exact jY 0
 | true =>
  have:=(zyO h).2.1.2;unfold ze4 at this
  rwa [h] at this
theorem z1i (c:Cur)(h:∃N,Ends (fun a=>∃s v0,a=(AV.agg (zbv s) :: [aS .ins v0])/\(s.b=c.b/\0<=s.i)/\(zdz v0=true)) (zm2 N c)):zf6 c=true:=by
 obtain ⟨N,a,e,s,v0,rfl,h⟩:=h;exact zN ⟨s,v0,⟨N,e⟩,h⟩
def zqV:List CV->List AV->Option (Bool×List CV×List AV)
 | [.s .u8 b,.i .i64 c,.i .i64 d],[]=>some ((zf6 (⟨b,c,d⟩:Cur)),zbv (ze4 (⟨b,c,d⟩:Cur)),[aS .ins (zoJ (⟨b,c,d⟩:Cur))])
 | _,_=>none
theorem zVO (c:Cur)(hb:zbC big (.agg (zbv c) :: []))(hc:zf6 c=true):∃N,zm2 N c=some (.agg (zbv (ze4 c)) :: [aS .ins (zoJ c)]):=by
 exact (zyO hc).1
theorem zOe:zdp Tryz.prog 230 [false,true,true] zqV:=by
 refine zbW (zcD zdV zbg zYW zn) (zdT (by kernel_rfl)) ?_
 intro cs avs cs' rs hl hr h;have hb:=zb9 hr;unfold zqV at h;split at h
 .obtain ⟨hc,rfl,rfl⟩:=zcj h;obtain ⟨N,hN⟩:=zVO _ (by exact hb) hc
  exact ⟨rfl,_,N,12,(zYO N _ ).trans hN⟩
 .cases h
theorem z6q {c:Cur}(h:zcV c):zf6 c=true:=by
 refine z1i c ⟨9,?_⟩;unfold zm2 oN
 conv=>zeta
 refine zsy (fun n s=>s.1+(n:Int)=8/\0<=s.1/\0<=s.2.1/\(∀x∈s.2.2.2.1,zgt x=true)/\ln s.2.2.2.1=s.1/\s.2.2.2.2.1=c.b) ?_ 9 8 _ ⟨rfl,jY 0,h.1,by simp,rfl,rfl⟩ (by omega)
 rintro n ⟨t,i,k,l,b,u⟩ rec ⟨h1,h2,h3,h4,h5,h6⟩ hrec
 dsimp only at h1 h2 h3 h4 h5 h6 ⊢
 subst h6;have hcur:zcV ⟨c.b,i,k⟩:=zem h h3;have hx:=znZ hcur (n:=7) (by omega)
 have hw:=zoP (x:=2) (by omega) (by omega) hx.1 (by omega)
 have h7:zcV { zB ⟨c.b,i,k⟩ 7 with b:=c.b }:=zem h (zca _ _);have fin:∀(y:Ins),zgt y=true->2<=t->zdz (ap l [y])=true:=by
  intro y hy ht;unfold zdz;rw[znP,h5];have:(ap l [y]).all zgt=true:=by
   simp only[ap,List.all_append,uB,List.all_nil,Bool.and_true,qE];exact ⟨qT.2 h4,hy⟩
  rw[this,cT];simp only[win,ige,ile,qE,qY];omega
 refine zbp (zhd hcur 7) (zcR (fun hc=>?_) (fun hc=>?_))
 .have hlt:t<zD .i64 2 (zZ ⟨c.b,i,k⟩ 7):=qD hc;rw[hw]at hlt;refine zbp (z9T h7) (zbp (zo2 (by rw[znP];omega)) (hrec (n-1) _ (by omega) ⟨?_,?_,z4c _,?_,?_,rfl⟩))
  .show zD .i64 t 1+_=8
   rw[zoP h2 (by omega) (by omega) (by omega)];omega
  .show 0<=zD .i64 t 1
   rw[zoP h2 (by omega) (by omega) (by omega)];omega
  .intro x hx;rcases jN.1 hx with hx|hx
   .exact h4 x hx
   .rw [qF.1 hx];exact (zBB (z9T h7)).2.2
  .show ln (ap l [_])=zD .i64 t 1
   rw[znP,zoP h2 (by omega) (by omega) (by omega)];omega
 .have hge:¬ t<zD .i64 2 (zZ ⟨c.b,i,k⟩ 7):=qV hc;rw[hw]at hge;refine zbp (zPb h7 3) (zcR (fun _=>zbp (zo2 (by rw[znP];omega)) (zkX (aS .ins) (zg6 _ _) (fin _ rfl (by omega)))) (fun _=>zbp (zo2 (by rw[znP];omega)) (zkX (aS .ins) (zg6 _ _) (fin _ rfl (by omega)))))
def z3Q:zdq:=[(230,([false,true,true],zqV))]++z3P
theorem zYX:zck z3Q:=zdR zYW (by
 intro x hx;simp only[qI,qX,or_false]at hx;rcases hx with rfl
 .exact zOe)
theorem zZ0 {α:Type}{c:Cur}(h:zcV c){P:α->Prop}{fc:Cur->Bool}{fs:Cur->Cur}{fv:Cur->α}(hf:∀{c:Cur},zcV c->fc c=true)(hp:∀c,0<=(fs c).i)(hg:∀{c:Cur},zcV c->P (fv c)){G:Ans->Prop}{R:Cur->List α->Ans}(hG:∀s l,s.b=c.b->0<=s.i->1<=l.length->l.length<=2->(∀x∈l,P x)->G (R s l)){F:(Int×Int×Int×List α×List Int×Unit->OA)->Int×Int×Int×List α×List Int×Unit->OA}(hF:∀rec t i k l,F rec (t,i,k,l,c.b,())=bif zX ⟨c.b,i,k⟩ 2 then (bif ilt t (zD .i64 1 (zZ ⟨c.b,i,k⟩ 2)) then (bif fc { zB ⟨c.b,i,k⟩ 2 with b:=c.b } then (bif few (ln (ap l [fv { zB ⟨c.b,i,k⟩ 2 with b:=c.b }])) then
        rec (zD .i64 t 1,(fs { zB ⟨c.b,i,k⟩ 2 with b:=c.b }).i,(fs { zB ⟨c.b,i,k⟩ 2 with b:=c.b }).h,ap l [fv { zB ⟨c.b,i,k⟩ 2 with b:=c.b }],c.b,()) else none) else none) else some (R ⟨c.b,(zB ⟨c.b,i,k⟩ 2).i,(zB ⟨c.b,i,k⟩ 2).h⟩ l)) else none) :
 Ends G (iter 3 F (0,c.i,c.h,[],c.b,())):=by
 refine zsy (fun n s=>s.1+(n:Int)=2/\0<=s.1/\0<=s.2.1/\(∀x∈s.2.2.2.1,P x)/\ln s.2.2.2.1=s.1/\s.2.2.2.2.1=c.b) ?_ 3 2 _ ⟨rfl,jY 0,h.1,by simp,rfl,rfl⟩ (by omega)
 rintro n ⟨t,i,k,l,b,u⟩ rec ⟨h1,h2,h3,h4,h5,h6⟩ hrec
 dsimp only at h1 h2 h3 h4 h5 h6
 subst h6;rw[hF];have hcur:zcV ⟨c.b,i,k⟩:=zem h h3;have hx:=znZ hcur (n:=2) (by omega)
 have hw:=zoP (x:=1) (by omega) (by omega) hx.1 (by omega)
 have h7:zcV { zB ⟨c.b,i,k⟩ 2 with b:=c.b }:=zem h (zca _ _);refine zbp (zhd hcur 2) (zcR (fun hc=>?_) (fun hc=>?_))
 .have hlt:t<zD .i64 1 (zZ ⟨c.b,i,k⟩ 2):=qD hc;rw[hw]at hlt;have ht:=zoP (y:=1) h2 (by omega) (by omega) (by omega)
  refine zbp (hf h7) (zbp (zo2 (by rw[znP];omega)) (hrec (n-1) _ (by omega) ⟨?_,?_,hp _,?_,?_,rfl⟩))
  .show zD .i64 t 1+_=2
   omega
  .show 0<=zD .i64 t 1
   omega
  .intro x hx;rcases jN.1 hx with hx|hx
   .exact h4 x hx
   .rw [qF.1 hx];exact hg h7
  .show ln (ap l [_])=zD .i64 t 1
   rw[znP];omega
 .have hge:¬ t<zD .i64 1 (zZ ⟨c.b,i,k⟩ 2):=qV hc;rw[hw]at hge;unfold ln at h5;exact zNd (hG _ l rfl (zca _ _) (by omega) (by omega) h4)
def zk5 (N:Nat)(c:Cur)  : OA :=
 (iter (σ:=(Int×(Int×(Int×(lP×((List Int)×Unit)))))) N (fun r2 s3=>let y2:=s3.2.2.2.2.1;let y1:=(⟨y2,s3.2.1,s3.2.2.1⟩:Cur);let y0:=({ (zB y1 2) with b:=y2 }:Cur); (oN (zX y1 2) (cond (ilt s3.1 (zD .i64 1 (zZ y1 2))) (oN (zf6 y0) (oN (few (ln (ap s3.2.2.2.1 [(zoJ y0)]))) (r2 ((zD .i64 s3.1 1),((ze4 y0).i,((ze4 y0).h,((ap s3.2.2.2.1 [(zoJ y0)]),(y2,())))))))) (some [(.agg [(.s .u8 y2),(.i .i64 (zB y1 2).i),(.i .i64 (zB y1 2).h)]),(aS (.sl .ins) s3.2.2.2.1)])))) (0,(c.i,(c.h,([],(c.b,()))))))
def zS3:FuncId->Nat->Option Tmpl:=zk [(125,0,{ n:=19,tm:=[(0,.lp 0 0),(3,.sl 0 []),(4,ti)],lo:=[(0,[.sl 1 [],ti,ti])],ro:=[(0,(.sl .ins),true),(1,.u8,false)] })]
theorem zV4 (N:Nat)(c:Cur)  : zfW (cQ zo0 zly z3Q zj6) zS3 N 12 125 [false,true,true] (zbv c) []=zk5 N c:=by kernel_rfl
def zkp (c:Cur)(s:Cur)(v0:List (List Ins)):Prop:=(∃N,zk5 N c=some (AV.agg (zbv s) :: [aS (.sl .ins) v0]))/\(s.b=c.b/\0<=s.i)/\(1<=v0.length/\v0.length<=2/\∀x∈v0,zdz x=true)
def zfo (c:Cur)  : Bool:=pc (∃s v0,zkp c s v0)
def zqo (c:Cur)  : Cur×List (List Ins):=Classical.epsilon fun r=>zkp c r.1 r.2
def zeB (c:Cur)  : Cur:=bif zfo c then (zqo c).1 else ⟨[],0,0⟩
def zmK (c:Cur)  : List (List Ins):=(zqo c).2
theorem zwr {c:Cur}(h:zfo c=true):zkp c (zeB c) (zmK c):=by
 obtain ⟨s,v0,h2⟩:=zy.1 h;have h3:zkp c (zqo c).1 (zqo c).2:=Classical.epsilon_spec (p:=fun r=>zkp c r.1 r.2) ⟨(s,v0),h2⟩;unfold zeB;rw[h,cT];exact h3
theorem zZi (c:Cur)  : 0<=(zeB c).i:=by
 unfold zeB;cases h:zfo c with
 | false=>exact jY 0
 | true =>
  have:=(zwr h).2.1.2;unfold zeB at this
  rwa [h] at this
theorem zZh (c:Cur)(h:∃N,Ends (fun a=>∃s v0,a=(AV.agg (zbv s) :: [aS (.sl .ins) v0])/\(s.b=c.b/\0<=s.i)/\(1<=v0.length/\v0.length<=2/\∀x∈v0,zdz x=true)) (zk5 N c)):zfo c=true:=by
 obtain ⟨N,a,e,s,v0,rfl,h⟩:=h;exact zN ⟨s,v0,⟨N,e⟩,h⟩
def zpJ:List CV->List AV->Option (Bool×List CV×List AV)
 | [.s .u8 b,.i .i64 c,.i .i64 d],[]=>some ((zfo (⟨b,c,d⟩:Cur)),zbv (zeB (⟨b,c,d⟩:Cur)),[aS (.sl .ins) (zmK (⟨b,c,d⟩:Cur))])
 | _,_=>none
theorem zSm (c:Cur)(hb:zbC big (.agg (zbv c) :: []))(hc:zfo c=true):∃N,zk5 N c=some (.agg (zbv (zeB c)) :: [aS (.sl .ins) (zmK c)]):=by
 exact (zwr hc).1
theorem zLa:zdp Tryz.prog 125 [false,true,true] zpJ:=by
 refine zbW (zcD zdV zbg zYX zn) (zdT (by kernel_rfl)) ?_
 intro cs avs cs' rs hl hr h;have hb:=zb9 hr;unfold zpJ at h;split at h
 .obtain ⟨hc,rfl,rfl⟩:=zcj h;obtain ⟨N,hN⟩:=zSm _ (by exact hb) hc
  exact ⟨rfl,_,N,12,(zV4 N _ ).trans hN⟩
 .cases h
theorem z2e {c:Cur}(h:zcV c):zfo c=true:=by
 refine zZh c ⟨3,?_⟩;unfold zk5 oN
 conv=>zeta
 exact zZ0 h (P:=fun x=>zdz x=true) (fc:=zf6) (fs:=ze4) (fv:=zoJ) (R:=fun s l=>AV.agg (zbv s) :: [aS (.sl .ins) l]) z6q z1j (fun h=>(zyO (z6q h)).2.2) (fun s l hb hi h1 h2 hl=>⟨s,l,rfl,⟨hb,hi⟩,h1,h2,hl⟩) (fun rec t i k l=>rfl)
def z3R:zdq:=[(125,([false,true,true],zpJ))]++z3Q
theorem zYY:zck z3R:=zdR zYX (by
 intro x hx;simp only[qI,qX,or_false]at hx;rcases hx with rfl
 .exact zLa)
def zoT (N:Nat)(c:Cur)  : OA :=
 (iter (σ:=(Int×(Int×(Int×(lQ×((List Int)×Unit)))))) N (fun r2 s3=>let y2:=s3.2.2.2.2.1;let y1:=(⟨y2,s3.2.1,s3.2.2.1⟩:Cur);let y0:=({ (zB y1 2) with b:=y2 }:Cur); (oN (zX y1 2) (cond (ilt s3.1 (zD .i64 1 (zZ y1 2))) (oN (zfo y0) (oN (few (ln (ap s3.2.2.2.1 [(zmK y0)]))) (r2 ((zD .i64 s3.1 1),((zeB y0).i,((zeB y0).h,((ap s3.2.2.2.1 [(zmK y0)]),(y2,())))))))) (some [(.agg [(.s .u8 y2),(.i .i64 (zB y1 2).i),(.i .i64 (zB y1 2).h)]),(aS (.sl (.sl .ins)) s3.2.2.2.1)])))) (0,(c.i,(c.h,([],(c.b,()))))))
def zZV:FuncId->Nat->Option Tmpl:=zk [(47,0,{ n:=19,tm:=[(0,.lp 0 0),(3,.sl 0 []),(4,ti)],lo:=[(0,[.sl 1 [],ti,ti])],ro:=[(0,(.sl (.sl .ins)),true),(1,.u8,false)] })]
theorem z01 (N:Nat)(c:Cur)  : zfW (cQ zo0 zly z3R zj6) zZV N 12 47 [false,true,true] (zbv c) []=zoT N c:=by kernel_rfl
def znD (c:Cur)(s:Cur)(v0:List (List (List Ins))):Prop:=(∃N,zoT N c=some (AV.agg (zbv s) :: [aS (.sl (.sl .ins)) v0]))/\(s.b=c.b/\0<=s.i)/\(1<=v0.length/\v0.length<=2/\∀p∈v0,1<=p.length/\p.length<=2/\∀x∈p,zdz x=true)
def zf8 (c:Cur)  : Bool:=pc (∃s v0,znD c s v0)
def zuI (c:Cur)  : Cur×List (List (List Ins)):=Classical.epsilon fun r=>znD c r.1 r.2
def zej (c:Cur)  : Cur:=bif zf8 c then (zuI c).1 else ⟨[],0,0⟩
def zlO (c:Cur)  : List (List (List Ins)):=(zuI c).2
theorem zBC {c:Cur}(h:zf8 c=true):znD c (zej c) (zlO c):=by
 obtain ⟨s,v0,h2⟩:=zy.1 h;have h3:znD c (zuI c).1 (zuI c).2:=Classical.epsilon_spec (p:=fun r=>znD c r.1 r.2) ⟨(s,v0),h2⟩;unfold zej;rw[h,cT];exact h3
theorem z4g (c:Cur)  : 0<=(zej c).i:=by
 unfold zej;cases h:zf8 c with
 | false=>exact jY 0
 | true =>
  have:=(zBC h).2.1.2;unfold zej at this
  rwa [h] at this
theorem z4f (c:Cur)(h:∃N,Ends (fun a=>∃s v0,a=(AV.agg (zbv s) :: [aS (.sl (.sl .ins)) v0])/\(s.b=c.b/\0<=s.i)/\(1<=v0.length/\v0.length<=2/\∀p∈v0,1<=p.length/\p.length<=2/\∀x∈p,zdz x=true)) (zoT N c)):zf8 c=true:=by
 obtain ⟨N,a,e,s,v0,rfl,h⟩:=h;exact zN ⟨s,v0,⟨N,e⟩,h⟩
def ztw:List CV->List AV->Option (Bool×List CV×List AV)
 | [.s .u8 b,.i .i64 c,.i .i64 d],[]=>some ((zf8 (⟨b,c,d⟩:Cur)),zbv (zej (⟨b,c,d⟩:Cur)),[aS (.sl (.sl .ins)) (zlO (⟨b,c,d⟩:Cur))])
 | _,_=>none
theorem zYw (c:Cur)(hb:zbC big (.agg (zbv c) :: []))(hc:zf8 c=true):∃N,zoT N c=some (.agg (zbv (zej c)) :: [aS (.sl (.sl .ins)) (zlO c)]):=by
 exact (zBC hc).1
theorem zRi:zdp Tryz.prog 47 [false,true,true] ztw:=by
 refine zbW (zcD zdV zbg zYY zn) (zdT (by kernel_rfl)) ?_
 intro cs avs cs' rs hl hr h;have hb:=zb9 hr;unfold ztw at h;split at h
 .obtain ⟨hc,rfl,rfl⟩:=zcj h;obtain ⟨N,hN⟩:=zYw _ (by exact hb) hc
  exact ⟨rfl,_,N,12,(z01 N _ ).trans hN⟩
 .cases h
theorem z8L {c:Cur}(h:zcV c):zf8 c=true:=by
 refine z4f c ⟨3,?_⟩;unfold zoT oN
 conv=>zeta
 exact zZ0 h (P:=fun p=>1<=p.length/\p.length<=2/\∀x∈p,zdz x=true) (fc:=zfo) (fs:=zeB) (fv:=zmK) (R:=fun s l=>AV.agg (zbv s) :: [aS (.sl (.sl .ins)) l]) z2e zZi (fun h=>(zwr (z2e h)).2.2) (fun s l hb hi h1 h2 hl=>⟨s,l,rfl,⟨hb,hi⟩,h1,h2,hl⟩) (fun rec t i k l=>rfl)
def z3S:zdq:=[(47,([false,true,true],ztw))]++z3R
theorem zYZ:zck z3S:=zdR zYY (by
 intro x hx;simp only[qI,qX,or_false]at hx;rcases hx with rfl
 .exact zRi)
theorem zGL {ρ:Type}{G:ρ->Prop}{x:Bool}{a b:Option ρ}(k:Ends G a)(h:x=true:=by first
 | exact zhd (by first|assumption|exact zem (by assumption) (zca _ _)|exact zem (by assumption) (zg6 _ _)|exact zem (by assumption) (zho _ _)) _
 | exact zPb (by first|assumption|exact zem (by assumption) (zca _ _)|exact zem (by assumption) (zg6 _ _)) _
 | exact zzG (by first|assumption|exact zem (by assumption) (zca _ _)) (by simp)):Ends G (cond x a b):=zbp h k
def zoS (N:Nat)(c:Cur)  : OA :=
 let y5:=(zZ c 4);let y0:=({ (zB c 4) with b:=c.b }:Cur);let y4:=(zik y0 4);let y3:=(zb8 y0 4);let y1:=({ y3 with b:=c.b }:Cur);let y2:=({ (zb8 y1 2) with b:=c.b }:Cur); (oN (zX c 4) (oN (zdM y0 4) (cond (nB y4) (cond (ine y5 2) (oN (zdM y1 2) (cond (zik y1 2) (oN (zX y2 256) (some [(.agg [(.s .u8 c.b),(.i .i64 (zB y2 256).i),(.i .i64 (zB y2 256).h)]),(.agg [(.i .i64 y5),(.i .i64 (zZ y2 256)),(.b (nB y4))])])) (some [(.agg [(.s .u8 c.b),(.i .i64 (zb8 y1 2).i),(.i .i64 (zb8 y1 2).h)]),(.agg [(.i .i64 y5),(.i .i64 0),(.b (nB y4))])]))) (some [(.agg [(.s .u8 c.b),(.i .i64 y3.i),(.i .i64 y3.h)]),(.agg [(.i .i64 y5),(.i .i64 0),(.b (nB y4))])])) (some [(.agg [(.s .u8 c.b),(.i .i64 y3.i),(.i .i64 y3.h)]),(.agg [(.i .i64 y5),(.i .i64 0),(.b (nB y4))])]))))
theorem z00 (N:Nat)(c:Cur)  : zfW (cQ zo0 zly z3S zj6) (zk []) N 12 231 [false,true,true] (zbv c) []=zoS N c:=by kernel_rfl
def znC (c:Cur)(s:Cur)(v0:Ctl):Prop:=(∃N,zoS N c=some (AV.agg (zbv s) :: [.agg (zyj v0)]))/\(s.b=c.b/\0<=s.i)/\(True)
def zin (c:Cur)  : Bool:=pc (∃s v0,znC c s v0)
def zuH (c:Cur)  : Cur×Ctl:=Classical.epsilon fun r=>znC c r.1 r.2
def zfn (c:Cur)  : Cur:=bif zin c then (zuH c).1 else ⟨[],0,0⟩
def zlN (c:Cur)  : Ctl:=(zuH c).2
theorem zPt {c:Cur}(h:zin c=true):znC c (zfn c) (zlN c):=by
 obtain ⟨s,v0,h2⟩:=zy.1 h;have h3:znC c (zuH c).1 (zuH c).2:=Classical.epsilon_spec (p:=fun r=>znC c r.1 r.2) ⟨(s,v0),h2⟩;unfold zfn;rw[h,cT];exact h3
theorem z4e (c:Cur)  : 0<=(zfn c).i:=by
 unfold zfn;cases h:zin c with
 | false=>exact jY 0
 | true =>
  have:=(zPt h).2.1.2;unfold zfn at this
  rwa [h] at this
theorem z4d (c:Cur)(h:∃N,Ends (fun a=>∃s v0,a=(AV.agg (zbv s) :: [.agg (zyj v0)])/\(s.b=c.b/\0<=s.i)/\(True)) (zoS N c)):zin c=true:=by
 obtain ⟨N,a,e,s,v0,rfl,h⟩:=h;exact zN ⟨s,v0,⟨N,e⟩,h⟩
def ztv:List CV->List AV->Option (Bool×List CV×List AV)
 | [.s .u8 b,.i .i64 c,.i .i64 d],[]=>some ((zin (⟨b,c,d⟩:Cur)),zbv (zfn (⟨b,c,d⟩:Cur)),[.agg (zyj (zlN (⟨b,c,d⟩:Cur)))])
 | _,_=>none
theorem zYv (c:Cur)(hb:zbC big (.agg (zbv c) :: []))(hc:zin c=true):∃N,zoS N c=some (.agg (zbv (zfn c)) :: [.agg (zyj (zlN c))]):=by
 exact (zPt hc).1
theorem zRh:zdp Tryz.prog 231 [false,true,true] ztv:=by
 refine zbW (zcD zdV zbg zYZ zn) (zdT (by kernel_rfl)) ?_
 intro cs avs cs' rs hl hr h;have hb:=zb9 hr;unfold ztv at h;split at h
 .obtain ⟨hc,rfl,rfl⟩:=zcj h;obtain ⟨N,hN⟩:=zYv _ (by exact hb) hc
  exact ⟨rfl,_,N,12,(z00 N _ ).trans hN⟩
 .cases h
theorem zbcL {c:Cur}(h:zcV c):zin c=true:=by
 refine z4d c ⟨0,?_⟩;unfold zoS oN nB
 conv=>zeta
 refine zGL (zGL (zcR (fun _=>zcR (fun _=>zGL (zcR (fun _=>zGL (?_)) (fun _=>?_))) (fun _=>?_)) (fun _=>?_)))
 all_goals exact zkX (fun x=>AV.agg (zyj x)) (v:=⟨_,_,_⟩) (by first|exact zca _ _|exact zg6 _ _) trivial
def z3T:zdq:=[(231,([false,true,true],ztv))]++z3S
theorem zLM:zck z3T:=zdR zYZ (by
 intro x hx;simp only[qI,qX,or_false]at hx;rcases hx with rfl
 .exact zRh)
theorem zdJ {ρ:Type}{G:ρ->Prop}{x:Bool}{a b:Option ρ}(k:Ends G a)(h:x=true:=by first
 | exact zhd (by first|assumption|exact zem (by assumption) (zca _ _)|exact zem (by assumption) (zho _ _)) _
 | exact zzG (by first|assumption|exact zem (by assumption) (zca _ _)) (by simp)
 | exact zbcL (zem (by assumption) (zca _ _))):Ends G (cond x a b):=zbp h k
def zoU (N:Nat)(c:Cur)  : OA :=
 let y13:=({ (zB c 2) with b:=c.b }:Cur);let y8:=(zZ c 2);let y2:=(zZ y13 2);let y1:=({ (zB y13 2) with b:=c.b }:Cur);let y10:=(zB y1 24);let y5:=(zZ y1 24);let y0:=({ y10 with b:=c.b }:Cur);let y14:=(zB y0 8);let y12:=({ (zB y0 4) with b:=c.b }:Cur);let y11:=({ y14 with b:=c.b }:Cur);let y9:=({ (zB y0 16) with b:=c.b }:Cur);let y7:=({ (zbG y0 [16,17]) with b:=c.b }:Cur);let y6:=({ (zbG y0 [13,13,14,15]) with b:=c.b }:Cur);let y4:=({ (zB y11 4) with b:=c.b }:Cur);let y3:=({ (zB y12 8) with b:=c.b }:Cur); (share (oN (zcq y0 [13,13,14,15]) (oN (zX y6 8) (some [(.agg [(.s .u8 c.b),(.i .i64 (zB y6 8).i),(.i .i64 (zB y6 8).h)]),(.agg [(.i .i64 (zdH y0 [13,13,14,15])),(.i .i64 y8),(.i .i64 y2),(.i .i64 (zZ y6 8)),(.i .i64 0),(.i .i64 0)])]))) (fun t5=>(share (cond (ieq y5 16) (oN (zcq y0 [16,17]) (oN (zX y7 4) (some [(.agg [(.s .u8 c.b),(.i .i64 (zB y7 4).i),(.i .i64 (zB y7 4).h)]),(.agg [(.i .i64 (zdH y0 [16,17])),(.i .i64 y8),(.i .i64 y2),(.i .i64 (zZ y7 4)),(.i .i64 0),(.i .i64 0)])]))) (some [(.agg [(.s .u8 c.b),(.i .i64 y10.i),(.i .i64 y10.h)]),(.agg [(.i .i64 1),(.i .i64 y8),(.i .i64 y2),(.i .i64 0),(.i .i64 0),(.i .i64 0)])])) (fun t4=>(share (oN (zX y0 4) (oN (zX y12 8) (oN (zcq y3 [3,3,1,2]) (some [(.agg [(.s .u8 c.b),(.i .i64 (zbG y3 [3,3,1,2]).i),(.i .i64 (zbG y3 [3,3,1,2]).h)]),(.agg [(.i .i64 2),(.i .i64 y8),(.i .i64 y2),(.i .i64 (zZ y0 4)),(.i .i64 (zZ y12 8)),(.i .i64 (zdH y3 [3,3,1,2]))])])))) (fun t3=>(share (oN (zX y0 4) (some [(.agg [(.s .u8 c.b),(.i .i64 (zB y0 4).i),(.i .i64 (zB y0 4).h)]),(.agg [(.i .i64 3),(.i .i64 y8),(.i .i64 y2),(.i .i64 (zZ y0 4)),(.i .i64 0),(.i .i64 0)])])) (fun t2=>(share (cond (ieq y5 7) (oN (zX y0 8) (some [(.agg [(.s .u8 c.b),(.i .i64 y14.i),(.i .i64 y14.h)]),(.agg [(.i .i64 6),(.i .i64 y8),(.i .i64 y2),(.i .i64 (zZ y0 8)),(.i .i64 0),(.i .i64 0)])])) (cond (ieq y5 8) (oN (zin y0) (cond ((zlN y0).Open) (some [(.agg [(.s .u8 c.b),(.i .i64 (zfn y0).i),(.i .i64 (zfn y0).h)]),(.agg [(.i .i64 7),(.i .i64 y8),(.i .i64 y2),(.i .i64 (zlN y0).Traps),(.i .i64 (zlN y0).Post),(.i .i64 1)])]) (some [(.agg [(.s .u8 c.b),(.i .i64 (zfn y0).i),(.i .i64 (zfn y0).h)]),(.agg [(.i .i64 7),(.i .i64 y8),(.i .i64 y2),(.i .i64 (zlN y0).Traps),(.i .i64 (zlN y0).Post),(.i .i64 0)])]))) (cond (ieq y5 9) (oN (zX y0 8) (oN (zX y11 4) (oN (zX y4 100) (some [(.agg [(.s .u8 c.b),(.i .i64 (zB y4 100).i),(.i .i64 (zB y4 100).h)]),(.agg [(.i .i64 8),(.i .i64 y8),(.i .i64 y2),(.i .i64 (zZ y0 8)),(.i .i64 (zZ y11 4)),(.i .i64 (zZ y4 100))])])))) (cond (ieq y5 10) (oN (zX y0 8) (some [(.agg [(.s .u8 c.b),(.i .i64 y14.i),(.i .i64 y14.h)]),(.agg [(.i .i64 9),(.i .i64 y8),(.i .i64 y2),(.i .i64 (zZ y0 8)),(.i .i64 0),(.i .i64 0)])])) (cond (ieq y5 11) (some [(.agg [(.s .u8 c.b),(.i .i64 y10.i),(.i .i64 y10.h)]),(.agg [(.i .i64 10),(.i .i64 y8),(.i .i64 y2),(.i .i64 0),(.i .i64 0),(.i .i64 0)])]) (cond (ieq y5 12) (oN (zX y0 16) (oN (zX y9 100) (some [(.agg [(.s .u8 c.b),(.i .i64 (zB y9 100).i),(.i .i64 (zB y9 100).h)]),(.agg [(.i .i64 11),(.i .i64 y8),(.i .i64 y2),(.i .i64 (zZ y0 16)),(.i .i64 (zZ y9 100)),(.i .i64 0)])]))) (cond (ieq y5 13) (oN (zX y0 16) (some [(.agg [(.s .u8 c.b),(.i .i64 (zB y0 16).i),(.i .i64 (zB y0 16).h)]),(.agg [(.i .i64 12),(.i .i64 y8),(.i .i64 y2),(.i .i64 (zZ y0 16)),(.i .i64 0),(.i .i64 0)])])) (cond (ieq y5 14) (cond (ieq y5 14) t5 t4) (cond (ieq y5 15) t5 t4))))))))) (fun t0=>(share (cond (ieq y5 4) (oN (zX y0 100) (some [(.agg [(.s .u8 c.b),(.i .i64 (zB y0 100).i),(.i .i64 (zB y0 100).h)]),(.agg [(.i .i64 4),(.i .i64 y8),(.i .i64 y2),(.i .i64 (zZ y0 100)),(.i .i64 0),(.i .i64 0)])])) (cond (ieq y5 5) (cond (ieq y5 5) (some [(.agg [(.s .u8 c.b),(.i .i64 y10.i),(.i .i64 y10.h)]),(.agg [(.i .i64 5),(.i .i64 y8),(.i .i64 y2),(.i .i64 0),(.i .i64 0),(.i .i64 0)])]) t0) (cond (ieq y5 6) (some [(.agg [(.s .u8 c.b),(.i .i64 y10.i),(.i .i64 y10.h)]),(.agg [(.i .i64 5),(.i .i64 y8),(.i .i64 y2),(.i .i64 0),(.i .i64 0),(.i .i64 0)])]) t0))) (fun t1=>(share (cond (ieq y5 2) (cond (ieq y5 2) t2 t1) (cond (ieq y5 3) t2 t1)) (fun t6=>(oN (zX c 2) (oN (zX y13 2) (oN (zX y1 24) (cond (ieq y5 0) (cond (ieq y5 0) t3 t6) (cond (ieq y5 1) t3 t6)))))))))))))))))))
theorem z03 (N:Nat)(c:Cur)  : zfW (cQ zo0 zly z3T zj6) (zk []) N 12 127 [false,true,true] (zbv c) []=zoU N c:=by kernel_rfl
def znF (c:Cur)(s:Cur)(v0:GAct):Prop:=(∃N,zoU N c=some (AV.agg (zbv s) :: [aT .act v0]))/\(s.b=c.b/\0<=s.i)/\(True)
def zfr (c:Cur)  : Bool:=pc (∃s v0,znF c s v0)
def zuK (c:Cur)  : Cur×GAct:=Classical.epsilon fun r=>znF c r.1 r.2
def zdm (c:Cur)  : Cur:=bif zfr c then (zuK c).1 else ⟨[],0,0⟩
def zlQ (c:Cur)  : GAct:=(zuK c).2
theorem zPu {c:Cur}(h:zfr c=true):znF c (zdm c) (zlQ c):=by
 obtain ⟨s,v0,h2⟩:=zy.1 h;have h3:znF c (zuK c).1 (zuK c).2:=Classical.epsilon_spec (p:=fun r=>znF c r.1 r.2) ⟨(s,v0),h2⟩;unfold zdm;rw[h,cT];exact h3
theorem zPv (c:Cur)  : 0<=(zdm c).i:=by
 unfold zdm;cases h:zfr c with
 | false=>exact jY 0
 | true =>
  have:=(zPu h).2.1.2;unfold zdm at this
  rwa [h] at this
theorem z4h (c:Cur)(h:∃N,Ends (fun a=>∃s v0,a=(AV.agg (zbv s) :: [aT .act v0])/\(s.b=c.b/\0<=s.i)/\(True)) (zoU N c)):zfr c=true:=by
 obtain ⟨N,a,e,s,v0,rfl,h⟩:=h;exact zN ⟨s,v0,⟨N,e⟩,h⟩
def ztx:List CV->List AV->Option (Bool×List CV×List AV)
 | [.s .u8 b,.i .i64 c,.i .i64 d],[]=>some ((zfr (⟨b,c,d⟩:Cur)),zbv (zdm (⟨b,c,d⟩:Cur)),[aT .act (zlQ (⟨b,c,d⟩:Cur))])
 | _,_=>none
theorem zYA (c:Cur)(hb:zbC big (.agg (zbv c) :: []))(hc:zfr c=true):∃N,zoU N c=some (.agg (zbv (zdm c)) :: [aT .act (zlQ c)]):=by
 exact (zPu hc).1
theorem zRm:zdp Tryz.prog 127 [false,true,true] ztx:=by
 refine zbW (zcD zdV zbg zLM zn) (zdT (by kernel_rfl)) ?_
 intro cs avs cs' rs hl hr h;have hb:=zb9 hr;unfold ztx at h;split at h
 .obtain ⟨hc,rfl,rfl⟩:=zcj h;obtain ⟨N,hN⟩:=zYA _ (by exact hb) hc
  exact ⟨rfl,_,N,12,(z03 N _ ).trans hN⟩
 .cases h
theorem z8K {c:Cur}(h:zcV c):zfr c=true:=by
 refine z4h c ⟨0,?_⟩;unfold zoU oN
 conv=>zeta
 refine zn2 (zdJ (zdJ (?_))) (fun _ ht5=>zn2 (zcR (fun _=>zdJ (zdJ (?_))) (fun _=>?_)) (fun _ ht4=>zn2 (zdJ (zdJ (zdJ (?_)))) (fun _ ht3=>zn2 (zdJ (?_)) (fun _ ht2=>zn2 (zcR (fun _=>zdJ (?_)) (fun _=>zcR (fun _=>zdJ (zcR (fun _=>?_) (fun _=>?_))) (fun _=>zcR (fun _=>zdJ (zdJ (zdJ (?_)))) (fun _=>zcR (fun _=>zdJ (?_)) (fun _=>zcR (fun _=>?_) (fun _=>zcR (fun _=>zdJ (zdJ (?_))) (fun _=>zcR (fun _=>zdJ (?_)) (fun _=>zcR (fun _=>zcR (fun _=>ht5) (fun _=>ht4)) (fun _=>zcR (fun _=>ht5) (fun _=>ht4)))))))))) (fun _ ht0=>zn2 (zcR (fun _=>zdJ (?_)) (fun _=>zcR (fun _=>zcR (fun _=>?_) (fun _=>ht0)) (fun _=>zcR (fun _=>?_) (fun _=>ht0)))) (fun _ ht1=>zn2 (zcR (fun _=>zcR (fun _=>ht2) (fun _=>ht1)) (fun _=>zcR (fun _=>ht2) (fun _=>ht1))) (fun _ ht6=>zdJ (zdJ (zdJ (zcR (fun _=>zcR (fun _=>ht3) (fun _=>ht6)) (fun _=>zcR (fun _=>ht3) (fun _=>ht6))))))))))))
 all_goals exact zkX (aT .act) (v:=⟨_,_,_,_,_,_⟩) (by first|exact zca _ _|exact zho _ _|exact z4e _) trivial
def zk6 (N:Nat)  : OA :=
 (iter (σ:=(Int×(lA×Unit))) N (fun r1 s2=>(cond (ilt s2.1 2) (iter (σ:=(Int×(Int×(lA×Unit)))) N (fun r3 s4=>(cond (ilt s4.2.1 2) (iter (σ:=(Int×(Int×(Int×(lA×Unit))))) N (fun r5 s6=>let y0:=(ap s6.2.2.2.1 [(⟨2,s6.1,s6.2.1,s6.2.2.1,(zD .i64 s6.2.2.1 (zmW .i64 3 s6.2.1)),3⟩:GAct),(⟨3,s6.1,s6.2.1,s6.2.2.1,0,0⟩:GAct)]); (cond (ilt s6.2.2.1 3) (oN (few (ln y0)) (r5 (s6.1,(s6.2.1,((zD .i64 s6.2.2.1 1),(y0,())))))) (r3 (s6.1,((zD .i64 s6.2.1 1),(s6.2.2.2.1,())))))) (s4.1,(s4.2.1,(0,(s4.2.2.1,()))))) (r1 ((zD .i64 s4.1 1),(s4.2.2.1,()))))) (s2.1,(0,(s2.2.1,())))) (some [(aS .act s2.2.1)]))) (0,([],())))
def zS4:FuncId->Nat->Option Tmpl:=zk [(126,0,{ n:=34,tm:=[(1,.sl 0 []),(2,ti)],lo:=[],ro:=[(0,.act,true)] }),(126,2,{ n:=34,tm:=[(1,.sl 0 []),(2,ti),(3,ti)],lo:=[],ro:=[(0,.act,true)] }),(126,4,{ n:=34,tm:=[(1,.sl 0 []),(2,ti),(3,ti),(4,ti)],lo:=[],ro:=[(0,.act,true)] })]
def zkq  (v0:List GAct):Prop:=(∃N,zk6 N=some [aS .act v0])/\(v0.length<=45)
def zjv  : Bool:=pc (∃v0,zkq v0)
def zGv  : List GAct:=Classical.epsilon fun r=>zkq r
def zuN  : List GAct:=(zGv)
theorem zGu  (h:zjv=true):zkq zuN:=by
 obtain ⟨v0,h2⟩:=zy.1 h;have h3:zkq (zGv):=Classical.epsilon_spec (p:=fun r=>zkq r) ⟨v0,h2⟩;exact h3
theorem zZj  (h:∃N,Ends (fun a=>∃v0,a=[aS .act v0]/\(v0.length<=45)) (zk6 N)):zjv=true:=by
 obtain ⟨N,a,e,v0,rfl,h⟩:=h;exact zN ⟨v0,⟨N,e⟩,h⟩
def zAp:Run:=rF0 (zjv,[aS .act zuN])
theorem zSn  (hc:zjv=true):∃N,zk6 N  = some [aS .act zuN]:=by
 exact (zGu hc).1
theorem zLb:u4 126 zAp:=kF0 zdV zbg zLM zn zS4 zSn
def z4L:List GAct:=match zk6 10 with
 | some [.one (.s .act l)]=>l
 | _=>[]
theorem z1N:zjv=true:=zZj ⟨10,_,(by kernel_rfl:zk6 10=some [aS .act z4L]),z4L,rfl,Nat.le_of_ble_eq_true (by kernel_rfl)⟩
def z3U:zdq:=[(127,([false,true,true],ztx))]++z3T
theorem zY0:zck z3U:=zdR zLM (by
 intro x hx;simp only[qI,qX,or_false]at hx;rcases hx with rfl
 .exact zRm)
def z4Q:zV:=[(126,zAp)]++zo0
theorem z4R:zJ z4Q:=zf zLb zdV
theorem zTU {c:Cur}(h:zcV c){m:Int}(h0:0<=m)(hm:m<=1000){G:Ans->Prop}{R:Cur->List GAct->Ans}(hG:∀s l,s.b=c.b->0<=s.i->ln l<=45+m->G (R s l)){F:(Int×Int×Int×Int×List GAct×List Int×Unit->OA)->Int×Int×Int×Int×List GAct×List Int×Unit->OA}(hF:∀rec t i k l,F rec (m,t,i,k,l,c.b,())=bif zX ⟨c.b,i,k⟩ (zD .i64 m 1) then (bif ilt t (zZ ⟨c.b,i,k⟩ (zD .i64 m 1)) then (bif zfr { zB ⟨c.b,i,k⟩ (zD .i64 m 1) with b:=c.b } then (bif few (ln (ap l [zlQ { zB ⟨c.b,i,k⟩ (zD .i64 m 1) with b:=c.b }])) then
        rec (m,zD .i64 t 1,(zdm { zB ⟨c.b,i,k⟩ (zD .i64 m 1) with b:=c.b }).i,(zdm { zB ⟨c.b,i,k⟩ (zD .i64 m 1) with b:=c.b }).h,ap l [zlQ { zB ⟨c.b,i,k⟩ (zD .i64 m 1) with b:=c.b }],c.b,()) else none) else none) else some (R ⟨c.b,(zB ⟨c.b,i,k⟩ (zD .i64 m 1)).i,(zB ⟨c.b,i,k⟩ (zD .i64 m 1)).h⟩ l)) else none){i0 k0:Int}(hi0:0<=i0){l0:List GAct}(hl0:l0.length<=45):Ends G (iter 1002 F (m,0,i0,k0,l0,c.b,())):=by
 refine zsy (fun n s=>s.1=m/\s.2.1+(n:Int)=1000/\0<=s.2.1/\0<=s.2.2.1/\(ln s.2.2.2.2.1<=45+s.2.1/\s.2.1<=m)/\s.2.2.2.2.2.1=c.b) ?_ 1002 1000 _ ⟨rfl,rfl,jY 0,hi0,⟨by unfold ln;show ((l0.length:Nat):Int)<=45+0;omega,h0⟩,rfl⟩ (by omega)
 rintro n ⟨q,t,i,k,l,b,u⟩ rec ⟨h0,h1,h2,h3,⟨h5,hq⟩,h6⟩ hrec
 dsimp only at h0 h1 h2 h3 h5 h6 hq
 subst h6;subst h0;rw[hF];have hcur:zcV ⟨c.b,i,k⟩:=zem h h3;have hw:=zoP (x:=q) (y:=1) (by omega) (by omega) (by omega) (by omega)
 have hx:=znZ hcur (n:=zD .i64 q 1) (by omega)
 have h7:zcV { zB ⟨c.b,i,k⟩ (zD .i64 q 1) with b:=c.b }:=zem h (zca _ _);refine zbp (zhd hcur _) (zcR (fun hc=>?_) (fun hc=>?_))
 .have hlt:t<zZ ⟨c.b,i,k⟩ (zD .i64 q 1):=qD hc;have ht:=zoP (y:=1) h2 (by omega) (by omega) (by omega)
  refine zbp (z8K h7) (zbp (zo2 (by rw[znP];omega)) (hrec (n-1) _ (by omega) ⟨rfl,?_,?_,zPv _,⟨?_,?_⟩,rfl⟩))
  .show zD .i64 t 1+_=1000
   omega
  .show 0<=zD .i64 t 1
   omega
  .show ln (ap l [_])<=45+zD .i64 t 1
   rw[znP];omega
  .show zD .i64 t 1<=q
   omega
 .refine zNd (hG _ l rfl (zca _ _) ?_);omega
def zm3 (N:Nat)(c:Cur)(a0:Int):OA:=
 (oN (zdM c 5) (cond (nB (zik c 5)) (oN zjv (iter (σ:=(Int×(Int×(Int×(Int×(lA×((List Int)×Unit))))))) N (fun r3 s4=>let y6:=s4.2.2.2.2.2.1;let y4:=(zD .i64 s4.1 1);let y2:=(⟨y6,s4.2.2.1,s4.2.2.2.1⟩:Cur);let y0:=({ (zB y2 y4) with b:=y6 }:Cur);let y8:=(ap s4.2.2.2.2.1 [(zlQ y0)]); (oN (zX y2 y4) (cond (ilt s4.2.1 (zZ y2 y4)) (oN (zfr y0) (oN (few (ln y8)) (r3 (s4.1,((zD .i64 s4.2.1 1),((zdm y0).i,((zdm y0).h,(y8,(y6,()))))))))) (some [(.agg [(.s .u8 y6),(.i .i64 (zB y2 y4).i),(.i .i64 (zB y2 y4).h)]),(aS .act s4.2.2.2.2.1)])))) (a0,(0,((zb8 c 5).i,((zb8 c 5).h,(zuN,(c.b,())))))))) (iter (σ:=(Int×(Int×(Int×(Int×(lA×((List Int)×Unit))))))) N (fun r3 s4=>let y7:=s4.2.2.2.2.2.1;let y5:=(zD .i64 s4.1 1);let y3:=(⟨y7,s4.2.2.1,s4.2.2.2.1⟩:Cur);let y1:=({ (zB y3 y5) with b:=y7 }:Cur);let y9:=(ap s4.2.2.2.2.1 [(zlQ y1)]); (oN (zX y3 y5) (cond (ilt s4.2.1 (zZ y3 y5)) (oN (zfr y1) (oN (few (ln y9)) (r3 (s4.1,((zD .i64 s4.2.1 1),((zdm y1).i,((zdm y1).h,(y9,(y7,()))))))))) (some [(.agg [(.s .u8 y7),(.i .i64 (zB y3 y5).i),(.i .i64 (zB y3 y5).h)]),(aS .act s4.2.2.2.2.1)])))) (a0,(0,((zb8 c 5).i,((zb8 c 5).h,([],(c.b,())))))))))
def zWh:FuncId->Nat->Option Tmpl:=zk [(48,0,{ n:=26,tm:=[(0,.lp 0 0),(1,ti),(5,.sl 0 []),(6,ti)],lo:=[(0,[.sl 1 [],ti,ti])],ro:=[(0,.act,true),(1,.u8,false)] })]
theorem zYT (N:Nat)(c:Cur)(a0:Int):zfW (cQ z4Q zly z3U zj6) zWh N 12 48 [false,true,true] (zbv c) [aI a0]=zm3 N c a0:=by kernel_rfl
def zlR (c:Cur)(a0:Int)(s:Cur)(v0:List GAct):Prop:=(∃N,zm3 N c a0=some (AV.agg (zbv s) :: [aS .act v0]))/\(s.b=c.b/\0<=s.i)/\(ln v0<=45+a0)
def ze8 (c:Cur)(a0:Int):Bool:=pc (∃s v0,zlR c a0 s v0)
def zsm (c:Cur)(a0:Int):Cur×List GAct:=Classical.epsilon fun r=>zlR c a0 r.1 r.2
def zd8 (c:Cur)(a0:Int):Cur:=bif ze8 c a0 then (zsm c a0).1 else ⟨[],0,0⟩
def ziq (c:Cur)(a0:Int):List GAct:=(zsm c a0).2
theorem zyP {c:Cur}{a0:Int}(h:ze8 c a0=true):zlR c a0 (zd8 c a0) (ziq c a0):=by
 obtain ⟨s,v0,h2⟩:=zy.1 h;have h3:zlR c a0 (zsm c a0).1 (zsm c a0).2:=Classical.epsilon_spec (p:=fun r=>zlR c a0 r.1 r.2) ⟨(s,v0),h2⟩;unfold zd8;rw[h,cT];exact h3
theorem z1m (c:Cur)(a0:Int):0<=(zd8 c a0).i:=by
 unfold zd8;cases h:ze8 c a0 with
 | false=>exact jY 0
 | true =>
  have:=(zyP h).2.1.2;unfold zd8 at this
  rwa [h] at this
theorem z1l (c:Cur)(a0:Int)(h:∃N,Ends (fun a=>∃s v0,a=(AV.agg (zbv s) :: [aS .act v0])/\(s.b=c.b/\0<=s.i)/\(ln v0<=45+a0)) (zm3 N c a0)):ze8 c a0=true:=by
 obtain ⟨N,a,e,s,v0,rfl,h⟩:=h;exact zN ⟨s,v0,⟨N,e⟩,h⟩
def zqX:List CV->List AV->Option (Bool×List CV×List AV)
 | [.s .u8 b,.i .i64 c,.i .i64 d],[.one (.i .i64 e)]=>some ((ze8 (⟨b,c,d⟩:Cur) e),zbv (zd8 (⟨b,c,d⟩:Cur) e),[aS .act (ziq (⟨b,c,d⟩:Cur) e)])
 | _,_=>none
theorem zVZ (c:Cur)(a0:Int)(hb:zbC big (.agg (zbv c) :: [aI a0]))(hc:ze8 c a0=true):∃N,zm3 N c a0=some (.agg (zbv (zd8 c a0)) :: [aS .act (ziq c a0)]):=by
 exact (zyP hc).1
theorem zOp:zdp Tryz.prog 48 [false,true,true] zqX:=by
 refine zbW (zcD z4R zbg zY0 zn) (zdT (by kernel_rfl)) ?_
 intro cs avs cs' rs hl hr h;have hb:=zb9 hr;unfold zqX at h;split at h
 .obtain ⟨hc,rfl,rfl⟩:=zcj h;obtain ⟨N,hN⟩:=zVZ _ _ (by exact hb) hc
  exact ⟨rfl,_,N,12,(zYT N _ _ ).trans hN⟩
 .cases h
theorem z4I {c:Cur}(h:zcV c){m:Int}(h0:0<=m)(hm:m<=1000):ze8 c m=true:=by
 refine z1l c m ⟨1002,?_⟩;unfold zm3 oN nB
 conv=>zeta
 have g:=zGu z1N;exact zbp (zPb h 5) (zcR (fun _=>zbp z1N (zTU h h0 hm (R:=fun s l=>AV.agg (zbv s) :: [aS .act l]) (fun s l hb hi hl=>⟨s,l,rfl,⟨hb,hi⟩,hl⟩) (fun rec t i k l=>rfl) (zg6 _ _) g.2)) (fun _=>zTU h h0 hm (R:=fun s l=>AV.agg (zbv s) :: [aS .act l]) (fun s l hb hi hl=>⟨s,l,rfl,⟨hb,hi⟩,hl⟩) (fun rec t i k l=>rfl) (zg6 _ _) (jU _)))
def z3V:zdq:=[(48,([false,true,true],zqX))]++z3U
theorem zY1:zck z3V:=zdR zY0 (by
 intro x hx;simp only[qI,qX,or_false]at hx;rcases hx with rfl
 .exact zOp)
end
end Go.Proofs.YtdnmkiajccpnoaaGreat.E
