/- What is proved here: a part of the proof that the statement of this claim holds (several texts of wip/, laid together). -/
import Derived.Test.YtdnmkiajccpnoaaGreatV3
namespace Go.Proofs.YtdnmkiajccpnoaaGreat.E
open Go
set_option linter.unusedVariables false
set_option maxRecDepth 100000
set_option linter.unusedSimpArgs false
set_option linter.unusedSectionVars false
noncomputable section
theorem must {ρ:Type}{c:Bool}{a b r:Option ρ}(h:c=true)(k:a=r):(cond c a b)=r:=by rw[h];exact k
theorem mu {ρ:Type}{c:Bool}{a b r:Option ρ}(k:a=r)(h:c=true:=by first|assumption|(simp_all<;>omega)):(cond c a b)=r:=must h k
theorem zcH {ρ:Type}{c:Bool}{a b r:Option ρ}(h:c=false)(k:b=r):(cond c a b)=r:=by rw[h];exact k
theorem br {ρ:Type}{c:Bool}{a b r:Option ρ}(h1:c=true->a=r)(h2:c=false->b=r):(cond c a b)=r:=by
 cases c
 .exact h2 rfl
 .exact h1 rfl
theorem brN {ρ:Type}{c:Bool}{a b r:Option ρ}(h1:c=false->a=r)(h2:c=true->b=r):(cond (cond c false true) a b)=r:=by
 cases c
 .exact h1 rfl
 .exact h2 rfl
theorem shr {α ρ:Type}{x:α}{f:α->Option ρ}{r:Option ρ}(h:f x=r):share x f=r:=h
theorem zhY {ρ:Type}{c p:Bool}{a b:Option ρ}(hc:c=true):(cond c (cond (cond p false true) a b) none)=bif p then b else a:=by
 rw[hc];cases p<;>rfl
attribute [simp] zD
@[simp] theorem z8S {α:Type}(l:List α):(few (ln l)=true)↔l.length<=2147483648:=by
 unfold few ln;rw[decide_eq_true_iff];omega
@[simp] theorem zbby {α:Type}(l m:List α):(ap l m).length=l.length+m.length:=by simp[ap]
attribute [simp] zl5 zgy
@[simp] theorem z7G (n:Nat)(k:IntKind)(x:Int):CVB n (.i k x)↔True:=⟨fun _=>trivial,fun _=>.i k x⟩
@[simp] theorem zbbD (n:Nat)(x:Bool):CVB n (.b x)↔True:=⟨fun _=>trivial,fun _=>.b x⟩
theorem zlc {n:Nat}{t:Ty}(l:List t.den):CVB n (.s t l)↔l.length<=n/\∀x∈l,∀c∈t.cells x,CVB n c:=⟨fun h=>h.inv,fun h=>.s t l h.1 h.2⟩
@[simp] theorem zYY (n:Nat)(l:List Int):CVB n (.s .int l)↔l.length<=n:=by rw[zlc];simp[Ty.cells]
@[simp] theorem zbac (n:Nat)(l:List Int):CVB n (.s .u8 l)↔l.length<=n:=by rw[zlc];simp[Ty.cells]
@[simp] theorem z5j (n:Nat)(l:List Bool):CVB n (.s .bool l)↔l.length<=n:=by rw[zlc];simp[Ty.cells]
@[simp] theorem z5l (n:Nat)(l:List Slot):CVB n (.s .slot l)↔l.length<=n:=by rw[zlc];simp[Ty.cells]
@[simp] theorem z8J (n:Nat)(l:List Ins):CVB n (.s .ins l)↔l.length<=n:=by rw[zlc];simp[Ty.cells]
@[simp] theorem z2E (n:Nat)(l:List Entry):CVB n (.s .entry l)↔l.length<=n:=by rw[zlc];simp[Ty.cells]
@[simp] theorem z8I (n:Nat)(l:List GAct):CVB n (.s .act l)↔l.length<=n:=by rw[zlc];simp[Ty.cells]
@[simp] theorem z5m (n:Nat)(l:List Told):CVB n (.s .told l)↔l.length<=n:=by rw[zlc];simp[Ty.cells]
def SmM (m:List (List Int)):Prop:=m.length<=1048576/\∀x∈m,x.length<=1048576
def SmG (g:Guest):Prop:=g.Prog.length<=1048576/\g.Written.length<=1048576/\g.Live.length<=1048576/\g.Seen.length<=1048576
def zmT (l:List Guest):Prop:=l.length<=1048576/\∀x∈l,SmG x
def SmB (b:Bare):Prop:=SmM b.Memory/\zmT b.Guests/\b.Outs.length<=1048576
def zZS (l:List Bare):Prop:=l.length<=1048576/\∀x∈l,SmB x
theorem z6o:sm=1048576:=rfl
@[simp] theorem z0h (l:List Int):CVB sm (.s .int l)↔l.length<=1048576:=zYY sm l
@[simp] theorem zbbb (l:List Int):CVB sm (.s .u8 l)↔l.length<=1048576:=zbac sm l
@[simp] theorem zXs (l:List Bool):CVB sm (.s .bool l)↔l.length<=1048576:=z5j sm l
@[simp] theorem zXt (l:List Slot):CVB sm (.s .slot l)↔l.length<=1048576:=z5l sm l
@[simp] theorem zbaP (l:List Ins):CVB sm (.s .ins l)↔l.length<=1048576:=z8J sm l
@[simp] theorem zUg (l:List Entry):CVB sm (.s .entry l)↔l.length<=1048576:=z2E sm l
@[simp] theorem zbaO (l:List GAct):CVB sm (.s .act l)↔l.length<=1048576:=z8I sm l
@[simp] theorem zbaH (l:List Told):CVB sm (.s .told l)↔l.length<=1048576:=z5m sm l
@[simp] theorem zpn (l:List (List Int)):CVB sm (.s (.sl .int) l)↔SmM l:=by rw[zlc];simp[Ty.cells,SmM,z6o]
@[simp] theorem z8n (g:Guest):(∀c∈Ty.cells .guest g,CVB sm c)↔SmG g:=by simp[Ty.cells,SmG,z6o]
@[simp] theorem zu4 (l:List Guest):CVB sm (.s .guest l)↔zmT l:=by rw[zlc];simp only[z8n];rfl
@[simp] theorem z8m (b:Bare):(∀c∈Ty.cells .bare b,CVB sm c)↔SmB b:=by
 simp only[Ty.cells,qI,qU,or_false,u0,forall_eq,zpn,zu4,zYY,z7G,and_true];rfl
@[simp] theorem zbbe (l:List Bare):CVB sm (.s .bare l)↔zZS l:=by rw[zlc];simp only[z8m];rfl
@[simp] theorem zbbB (a:List Ins)(b c:Int)(d e:List Slot)(f:Ctl)(g:Int)(h:GExit)(i:Bool)(j:List Int):SmG ⟨a,b,c,d,e,f,g,h,i,j⟩↔a.length<=1048576/\d.length<=1048576/\e.length<=1048576/\j.length<=1048576:=Iff.rfl
@[simp] theorem zbbA (m:List (List Int))(g:List Guest)(o:List Int)(p:Int):SmB ⟨m,g,o,p⟩↔SmM m/\zmT g/\o.length<=1048576:=Iff.rfl
theorem zM4 {m:List (List Int)}{i:Int}{x:List Int}(h:SmM m)(hx:x.length<=1048576):SmM (up m i x):=by
 refine ⟨by simpa using h.1,fun y hy=>?_⟩
 rcases qY hy with hy|rfl
 .exact h.2 y hy
 .exact hx
theorem zET {m:List Guest}{i:Int}{x:Guest}(h:zmT m)(hx:SmG x):zmT (up m i x):=by
 refine ⟨by simpa using h.1,fun y hy=>?_⟩
 rcases qY hy with hy|rfl
 .exact h.2 y hy
 .exact hx
theorem z9B {m:List Bare}{i:Int}{x:Bare}(h:zZS m)(hx:SmB x):zZS (up m i x):=by
 refine ⟨by simpa using h.1,fun y hy=>?_⟩
 rcases qY hy with hy|rfl
 .exact h.2 y hy
 .exact hx
theorem zWD {l:List Guest}{i:Int}(h:zmT l)(hh:hasB i (ln l)=true)(d:Guest):SmG (ix l i d):=h.2 _ (zbv hh d)
theorem zbaA {l:List (List Int)}{i:Int}(h:SmM l)(hh:hasB i (ln l)=true)(d:List Int):(ix l i d).length<=1048576:=h.2 _ (zbv hh d)
@[simp] theorem zba4:SmG zi:=⟨by decide,by decide,by decide,by decide⟩
def win (x a b:Int):Bool:=ige x a&&ile x b
@[simp] theorem zTB (x a b:Int):zM x a b=win x a b:=rfl
@[simp] theorem zbbE (x a b:Int):zbW x a b=win x a b:=rfl
@[simp] theorem zUH (i n:Int):inb i n=hasB i n:=rfl
attribute [simp] zcX
@[simp] theorem zp8 {α:Type}{l:List α}(h:l.length<=1048576)(i:Int):win i 0 (wsub .i64 (ln l) 1)=hasB i (ln l):=zQ1 (zcK h).1 i
theorem zJx {α:Type}{l:List α}(h:l.length<=big)(i:Int):win i 0 (wsub .i64 (ln l) 1)=hasB i (ln l):=zQ1 h i
theorem zfl {x a b:Int}:(win x a b=true)↔a<=x/\x<=b:=by
 unfold win ige ile;simp only[qE,decide_eq_true_iff]
theorem z8Z (a b:Int):ilt a b = !ige a b:=by
 unfold ilt ige
 by_cases h:a<b
 .rw [qJ h,qH (by omega)];rfl
 .rw [qH h,qJ (by omega)];rfl
attribute [simp] zbr zcw zgF zgC zhk zhd zhl zdT zjh zi7 zpP zps zcn zdc
attribute [simp] zew zcR zfY zdu
attribute [simp] zfV zdi zfu zdB
def zX (a:Int):Int:=bif ilt a 0 then -1 else zQb .i64 a 4
def zcG (a:Int):Int:=bif ilt a 0 then -1 else zjo a 4
@[simp] abbrev zgf (a:Int):Bool:=true
@[simp] abbrev zcC (a:Int):Int:=zX a
def zx3:Run:=rF1 dI fun b=>(zgf b,[aI (zcC b)])
def zBQ (N:Nat)(a0:Int):OA:=
 (cond (ilt a0 0) (some [(aI (-1))]) (oN (ine 4 0) (some [(aI (zQb .i64 a0 4))])))
theorem zO8 (a0:Int)(hc:zgf a0=true):∃N,zBQ N a0=some [aI (zcC a0)]:=by
 refine ⟨0,?_⟩;unfold zBQ oN;refine br (fun _=>?_) (fun _=>must rfl ?_)
 all_goals first|rfl|(simp only [*,zcC,zX,cT,cF]<;>rfl)|simp_all[Ty.cells,zcC,zX]
theorem zIm:u3 223 zx3:=kF1 zc1 zk zl zo (zq []) zO8
@[simp] abbrev zf6 (a:Int):Bool:=true
@[simp] abbrev zdX (a:Int):Int:=zX a
def zxJ:Run:=rF1 dI fun b=>(zf6 b,[aI (zdX b)])
def zBv (N:Nat)(a0:Int):OA:=
 (cond (ilt a0 0) (some [(aI (-1))]) (oN (ine 4 0) (some [(aI (zQb .i64 a0 4))])))
theorem zON (a0:Int)(hc:zf6 a0=true):∃N,zBv N a0=some [aI (zdX a0)]:=by
 refine ⟨0,?_⟩;unfold zBv oN;refine br (fun _=>?_) (fun _=>must rfl ?_)
 all_goals first|rfl|(simp only [*,zdX,zX,cT,cF]<;>rfl)|simp_all[Ty.cells,zdX,zX]
theorem zH2:u3 60 zxJ:=kF1 zc1 zk zl zo (zq []) zON
@[simp] abbrev ziE (a:Int):Bool:=true
@[simp] abbrev zem (a:Int):Int:=zcG a
def zx2:Run:=rF1 dI fun b=>(ziE b,[aI (zem b)])
def zBP (N:Nat)(a0:Int):OA:=
 (cond (ilt a0 0) (some [(aI (-1))]) (oN (ine 4 0) (some [(aI (zjo a0 4))])))
theorem zO7 (a0:Int)(hc:ziE a0=true):∃N,zBP N a0=some [aI (zem a0)]:=by
 refine ⟨0,?_⟩;unfold zBP oN;refine br (fun _=>?_) (fun _=>must rfl ?_)
 all_goals first|rfl|(simp only [*,zem,zcG,cT,cF]<;>rfl)|simp_all[Ty.cells,zem,zcG]
theorem zIl:u3 224 zx2:=kF1 zc1 zk zl zo (zq []) zO7
@[simp] abbrev zf5 (a:Int):Bool:=true
@[simp] abbrev zfP (a:Int):Int:=zcG a
def zxI:Run:=rF1 dI fun b=>(zf5 b,[aI (zfP b)])
def zBu (N:Nat)(a0:Int):OA:=
 (cond (ilt a0 0) (some [(aI (-1))]) (oN (ine 4 0) (some [(aI (zjo a0 4))])))
theorem zOM (a0:Int)(hc:zf5 a0=true):∃N,zBu N a0=some [aI (zfP a0)]:=by
 refine ⟨0,?_⟩;unfold zBu oN;refine br (fun _=>?_) (fun _=>must rfl ?_)
 all_goals first|rfl|(simp only [*,zfP,zcG,cT,cF]<;>rfl)|simp_all[Ty.cells,zfP,zcG]
theorem zH1:u3 65 zxI:=kF1 zc1 zk zl zo (zq []) zOM
def zbO (w:Bool):Int:=bif w then 2 else 1
@[simp] abbrev zsO (w:Bool):Bool:=true
@[simp] abbrev zfc (w:Bool):Int:=zbO w
def zDJ:Run:=rF1 dB fun b=>(zsO b,[aI (zfc b)])
def zJ9 (N:Nat)(a0:Bool):OA:=
 (cond a0 (some [(aI 2)]) (some [(aI 1)]))
theorem zVr (a0:Bool)(hc:zsO a0=true):∃N,zJ9 N a0=some [aI (zfc a0)]:=by
 refine ⟨0,?_⟩;unfold zJ9;refine br (fun _=>?_) (fun _=>?_)
 all_goals first|rfl|(simp only [*,zfc,zbO,cT,cF]<;>rfl)|simp_all[Ty.cells,zfc,zbO]
theorem zOm:u3 266 zDJ:=kF1 zc1 zk zl zo (zq []) zVr
@[simp] abbrev zob (w:Bool):Bool:=true
@[simp] abbrev zeL (w:Bool):Int:=zbO w
def zDh:Run:=rF1 dB fun b=>(zob b,[aI (zeL b)])
def zJI (N:Nat)(a0:Bool):OA:=
 (cond a0 (some [(aI 2)]) (some [(aI 1)]))
theorem zUX (a0:Bool)(hc:zob a0=true):∃N,zJI N a0=some [aI (zeL a0)]:=by
 refine ⟨0,?_⟩;unfold zJI;refine br (fun _=>?_) (fun _=>?_)
 all_goals first|rfl|(simp only [*,zeL,zbO,cT,cF]<;>rfl)|simp_all[Ty.cells,zeL,zbO]
theorem zNU:u3 61 zDh:=kF1 zc1 zk zl zo (zq []) zUX
def znn (p:Int)(w:Bool):GExit:=⟨1,p,w,0⟩
def zpk (n:Int):GExit:=⟨2,0,false,n⟩
def ztk (n:Int):GExit:=⟨3,0,false,n⟩
@[simp] abbrev zmN (p:Int)(w:Bool):Bool:=true
@[simp] abbrev zgM (p:Int)(w:Bool):GExit:=znn p w
def zvC:Run:=rF2 dI dB fun b c=>(zmN b c,[.agg (zlf (zgM b c))])
def zAf (N:Nat)(a0:Int)(a1:Bool):OA:=
 (some [(.agg [(.i .i64 1),(.i .i64 a0),(.b a1),(.i .i64 0)])])
theorem zMi (a0:Int)(a1:Bool)(hc:zmN a0 a1=true):∃N,zAf N a0 a1=some [.agg (zlf (zgM a0 a1))]:=by
 refine ⟨0,?_⟩;unfold zAf
 first|rfl|(simp only [*,zgM,cT,cF]<;>rfl)|simp_all[Ty.cells,zgM]
theorem zFd:u3 268 zvC:=kF2 zc1 zk zl zo (zq []) zMi
@[simp] abbrev zjs (p:Int)(w:Bool):Bool:=true
@[simp] abbrev zh2 (p:Int)(w:Bool):GExit:=znn p w
def zvn:Run:=rF2 dI dB fun b c=>(zjs b c,[.agg (zlf (zh2 b c))])
def zz0 (N:Nat)(a0:Int)(a1:Bool):OA:=
 (some [(.agg [(.i .i64 1),(.i .i64 a0),(.b a1),(.i .i64 0)])])
theorem zL2 (a0:Int)(a1:Bool)(hc:zjs a0 a1=true):∃N,zz0 N a0 a1=some [.agg (zlf (zh2 a0 a1))]:=by
 refine ⟨0,?_⟩;unfold zz0
 first|rfl|(simp only [*,zh2,cT,cF]<;>rfl)|simp_all[Ty.cells,zh2]
theorem zEY:u3 63 zvn:=kF2 zc1 zk zl zo (zq []) zL2
@[simp] abbrev zun (n:Int):Bool:=true
@[simp] abbrev zlz (n:Int):GExit:=zpk n
def zx5:Run:=rF1 dI fun b=>(zun b,[.agg (zlf (zlz b))])
def zBT (N:Nat)(a0:Int):OA:=
 (some [(.agg [(.i .i64 2),(.i .i64 0),(.b false),(.i .i64 a0)])])
theorem zPb (a0:Int)(hc:zun a0=true):∃N,zBT N a0=some [.agg (zlf (zlz a0))]:=by
 refine ⟨0,?_⟩;unfold zBT
 first|rfl|(simp only [*,zlz,cT,cF]<;>rfl)|simp_all[Ty.cells,zlz]
theorem zIo:u3 310 zx5:=kF1 zc1 zk zl zo (zq []) zPb
@[simp] abbrev zn7 (n:Int):Bool:=true
@[simp] abbrev zi3 (n:Int):GExit:=zpk n
def zxL:Run:=rF1 dI fun b=>(zn7 b,[.agg (zlf (zi3 b))])
def zBy (N:Nat)(a0:Int):OA:=
 (some [(.agg [(.i .i64 2),(.i .i64 0),(.b false),(.i .i64 a0)])])
theorem zOQ (a0:Int)(hc:zn7 a0=true):∃N,zBy N a0=some [.agg (zlf (zi3 a0))]:=by
 refine ⟨0,?_⟩;unfold zBy
 first|rfl|(simp only [*,zi3,cT,cF]<;>rfl)|simp_all[Ty.cells,zi3]
theorem zH4:u3 154 zxL:=kF1 zc1 zk zl zo (zq []) zOQ
@[simp] abbrev zwR (n:Int):Bool:=true
@[simp] abbrev znA (n:Int):GExit:=ztk n
def zAQ:Run:=rF1 dI fun b=>(zwR b,[.agg (zlf (znA b))])
def zGm (N:Nat)(a0:Int):OA:=
 (some [(.agg [(.i .i64 3),(.i .i64 0),(.b false),(.i .i64 a0)])])
theorem zSD (a0:Int)(hc:zwR a0=true):∃N,zGm N a0=some [.agg (zlf (znA a0))]:=by
 refine ⟨0,?_⟩;unfold zGm
 first|rfl|(simp only [*,znA,cT,cF]<;>rfl)|simp_all[Ty.cells,znA]
theorem zLu:u3 311 zAQ:=kF1 zc1 zk zl zo (zq []) zSD
@[simp] abbrev zwx (n:Int):Bool:=true
@[simp] abbrev zns (n:Int):GExit:=ztk n
def zAv:Run:=rF1 dI fun b=>(zwx b,[.agg (zlf (zns b))])
def zFY (N:Nat)(a0:Int):OA:=
 (some [(.agg [(.i .i64 3),(.i .i64 0),(.b false),(.i .i64 a0)])])
theorem zSe (a0:Int)(hc:zwx a0=true):∃N,zFY N a0=some [.agg (zlf (zns a0))]:=by
 refine ⟨0,?_⟩;unfold zFY
 first|rfl|(simp only [*,zns,cT,cF]<;>rfl)|simp_all[Ty.cells,zns]
theorem zK9:u3 243 zAv:=kF1 zc1 zk zl zo (zq []) zSe
def zc8 (t x:Int):Bool:=bif win t 0 3 then (cond (win x 1 2) (ine (wand .i64 t x) 0) false) else false
theorem z8b (x:Int):win x 1 2=(ieq x 1||ieq x 2):=by
 have h:(win x 1 2=true)↔(ieq x 1||ieq x 2)=true:=by
  rw[zfl];simp only[ieq,kD,qK];omega
 cases h1:win x 1 2<;>cases h2:(ieq x 1||ieq x 2)<;>simp_all
@[simp] abbrev zh9 (t x:Int):Bool:=true
@[simp] abbrev zhP (t x:Int):Bool:=zc8 t x
def zAH:Run:=rF2 dI dI fun b c=>(zh9 b c,[aB (zhP b c)])
def zGe (N:Nat)(a0 a1:Int):OA:=
 (oN (zK a0 0 3) (cond (zM a0 0 3) (oN (zK a1 1 2) (cond (zM a1 1 2) (some [(aB (ine (wand .i64 a0 a1) 0))]) oF)) oF))
theorem zSu (a0 a1:Int)(hc:zh9 a0 a1=true):∃N,zGe N a0 a1=some [aB (zhP a0 a1)]:=by
 refine ⟨0,?_⟩;unfold zGe oN;refine must rfl (br (fun _=>must rfl (br (fun _=>?_) (fun _=>?_))) (fun _=>?_))
 all_goals first|rfl|(simp only [*,zhP,zc8,cT,cF]<;>rfl)|simp_all[Ty.cells,zhP,zc8]
theorem zLl:u3 309 zAH:=kF2 zc1 zk zl zo (zq []) zSu
@[simp] abbrev zjN (t x:Int):Bool:=true
@[simp] abbrev ziP (t x:Int):Bool:=zc8 t x
def zAu:Run:=rF2 dI dI fun b c=>(zjN b c,[aB (ziP b c)])
def zFX (N:Nat)(a0 a1:Int):OA:=
 let y0:=(aB (ine (wand .i64 a0 a1) 0)); (oN (zbG a0 0 3) (cond (zbW a0 0 3) (cond (ieq a1 1) (some [y0]) (cond (ieq a1 2) (some [y0]) oF)) oF))
theorem zSd (a0 a1:Int)(hc:zjN a0 a1=true):∃N,zFX N a0 a1=some [aB (ziP a0 a1)]:=by
 refine ⟨0,?_⟩;unfold zFX oN
 conv=>zeta
 refine must rfl (br (fun _=>br (fun _=>?_) (fun _=>br (fun _=>?_) (fun _=>?_))) (fun _=>?_))
 all_goals first|rfl|(simp only [*,ziP,zc8,z8b,cT,cF]<;>rfl)|simp_all[Ty.cells,ziP,zc8,z8b]
theorem zK8:u3 155 zAu:=kF2 zc1 zk zl zo (zq []) zSd
def zcQ (p:Int):Bool:=win p 0 255
@[simp] abbrev zff (p:Int):Bool:=true
@[simp] abbrev zfe (p:Int):Bool:=zcQ p
def zDO:Run:=rF1 dI fun b=>(zff b,[aB (zfe b)])
def zKd (N:Nat)(a0:Int):OA:=
 (oN (zK a0 0 255) (some [(aB (zM a0 0 255))]))
theorem zVw (a0:Int)(hc:zff a0=true):∃N,zKd N a0=some [aB (zfe a0)]:=by
 refine ⟨0,?_⟩;unfold zKd oN;refine must rfl ?_
 first|rfl|(simp only [*,zfe,zcQ,cT,cF]<;>rfl)|simp_all[Ty.cells,zfe,zcQ]
theorem zOr:u3 312 zDO:=kF1 zc1 zk zl zo (zq []) zVw
@[simp] abbrev zi6 (p:Int):Bool:=true
@[simp] abbrev zi5 (p:Int):Bool:=zcQ p
def zDm:Run:=rF1 dI fun b=>(zi6 b,[aB (zi5 b)])
def zJM (N:Nat)(a0:Int):OA:=
 (oN (zbG a0 0 255) (some [(aB (zbW a0 0 255))]))
theorem zU2 (a0:Int)(hc:zi6 a0=true):∃N,zJM N a0=some [aB (zi5 a0)]:=by
 refine ⟨0,?_⟩;unfold zJM oN;refine must rfl ?_
 first|rfl|(simp only [*,zi5,zcQ,cT,cF]<;>rfl)|simp_all[Ty.cells,zi5,zcQ]
theorem zNZ:u3 236 zDm:=kF1 zc1 zk zl zo (zq []) zU2
def zbY (l:List Ins)(p:Int):Ins:=bif hasB p (ln l) then ix l p zq0 else ⟨7,0⟩
@[simp] abbrev zfs (l:List Ins)(p:Int):Bool:=true
@[simp] abbrev zfK (l:List Ins)(p:Int):Ins:=zbY l p
def zHa:Run:=rF2 (dS .ins) dI fun b c=>(zfs b c,[aT .ins (zfK b c)])
def zQo (N:Nat)(a0:lI)(a1:Int):OA:=
 (oN (zK a1 0 (wsub .i64 (ln a0) 1)) (cond (nB (zM a1 0 (wsub .i64 (ln a0) 1))) (some [(.agg [(.i .i64 7),(.i .i64 0)])]) (oN (inb a1 (ln a0)) (some [(.agg [(.i .i64 (ix a0 a1 zq0).Op),(.i .i64 (ix a0 a1 zq0).X)])]))))
theorem zXU (a0:List Ins)(a1:Int)(hb:zbD big [aS .ins a0,aI a1])(hc:zfs a0 a1=true):∃N,zQo N a0 a1=some [aT .ins (zfK a0 a1)]:=by
 have hl:=((zcY hb).1 _ (qF.2 rfl)).len;have hw:=zJx hl
 refine ⟨0,?_⟩;unfold zQo oN nB;refine must rfl (brN (fun _=>?_) (fun _=>mu ?_))
 all_goals first|rfl|(simp only [*,zfK,zbY,cT,cF]<;>rfl)|simp_all[Ty.cells,zfK,zbY]
theorem zRT:u3 260 zHa:=hF2 zc1 zk zl zo (zq []) zXU
@[simp] abbrev zf7 (l:List Ins)(p:Int):Bool:=true
@[simp] abbrev zgk (l:List Ins)(p:Int):Ins:=zbY l p
def zGZ:Run:=rF2 (dS .ins) dI fun b c=>(zf7 b c,[aT .ins (zgk b c)])
def zQd (N:Nat)(a0:lI)(a1:Int):OA:=
 (oN (zcr a1 (ln a0)) (cond (nB (zcX a1 (ln a0))) (some [(.agg [(.i .i64 7),(.i .i64 0)])]) (oN (inb a1 (ln a0)) (some [(.agg [(.i .i64 (ix a0 a1 zq0).Op),(.i .i64 (ix a0 a1 zq0).X)])]))))
theorem zXI (a0:List Ins)(a1:Int)(hc:zf7 a0 a1=true):∃N,zQd N a0 a1=some [aT .ins (zgk a0 a1)]:=by
 refine ⟨0,?_⟩;unfold zQd oN nB;refine must rfl (brN (fun _=>?_) (fun _=>mu ?_))
 all_goals first|rfl|(simp only [*,zgk,zbY,cT,cF]<;>rfl)|simp_all[Ty.cells,zgk,zbY]
theorem zRH:u3 138 zGZ:=kF2 zc1 zk zl zo (zq []) zXI
def zeT (w:Int):Int:=bif ieq w 5 then 1 else 2
@[simp] abbrev zoh (w:Int):Bool:=true
@[simp] abbrev zhg (w:Int):Int:=zeT w
def zDx:Run:=rF1 dI fun b=>(zoh b,[aI (zhg b)])
def zJX (N:Nat)(a0:Int):OA:=
 (cond (ieq a0 5) (some [(aI 1)]) (some [(aI 2)]))
theorem zVd (a0:Int)(hc:zoh a0=true):∃N,zJX N a0=some [aI (zhg a0)]:=by
 refine ⟨0,?_⟩;unfold zJX;refine br (fun _=>?_) (fun _=>?_)
 all_goals first|rfl|(simp only [*,zhg,zeT,cT,cF]<;>rfl)|simp_all[Ty.cells,zhg,zeT]
theorem zOa:u3 144 zDx:=kF1 zc1 zk zl zo (zq []) zVd
def zdD (s:Slot)(n:Int):Bool:=bif zcJ s noSlot then true else (cond (igt n 0) (cond (win s.Page 0 (wsub .i64 n 1)) (win s.Rights 1 3) false) false)
@[simp] abbrev zsR (s:Slot)(n:Int):Bool:=true
@[simp] abbrev zpV (s:Slot)(n:Int):Bool:=zdD s n
def zDR:Run:=rF2 (dT .slot) dI fun b c=>(zsR b c,[aB (zpV b c)])
def zKg (N:Nat)(a0:Slot)(a1:Int):OA:=
 (oN zcn (cond (cond (ieq a0.Page zbr.Page) (ieq a0.Rights zbr.Rights) false) oT (oN (zK a0.Page 0 (wsub .i64 a1 1)) (cond (zM a0.Page 0 (wsub .i64 a1 1)) (cond (igt a1 0) (oN (zK a0.Rights 1 3) (some [(aB (zM a0.Rights 1 3))])) oF) oF))))
theorem zVz (a0:Slot)(a1:Int)(hc:zsR a0 a1=true):∃N,zKg N a0 a1=some [aB (zpV a0 a1)]:=by
 refine ⟨0,?_⟩;unfold zKg oN;refine must rfl (br (fun _=>?_) (fun _=>must rfl (br (fun _=>br (fun _=>must rfl ?_) (fun _=>?_)) (fun _=>?_))))
 all_goals first|rfl|(simp only [*,zpV,zdD,zcJ,cT,cF]<;>rfl)|simp_all[Ty.cells,zpV,zdD,zcJ]
theorem zOu:u3 275 zDR:=kF2 zc1 zk zl zo (zq []) zVz
@[simp] abbrev zzb (s:Slot)(n:Int):Bool:=true
@[simp] abbrev ztU (s:Slot)(n:Int):Bool:=zdD s n
def zDr:Run:=rF2 (dT .slot) dI fun b c=>(zzb b c,[aB (ztU b c)])
def zJR (N:Nat)(a0:Slot)(a1:Int):OA:=
 (oN zdc (cond (cond (ieq a0.Page zcw.Page) (ieq a0.Rights zcw.Rights) false) oT (cond (igt a1 0) (oN (zbG a0.Page 0 (wsub .i64 a1 1)) (cond (zbW a0.Page 0 (wsub .i64 a1 1)) (oN (zbG a0.Rights 1 3) (some [(aB (zbW a0.Rights 1 3))])) oF)) oF)))
theorem zU7 (a0:Slot)(a1:Int)(hc:zzb a0 a1=true):∃N,zJR N a0 a1=some [aB (ztU a0 a1)]:=by
 refine ⟨0,?_⟩;unfold zJR oN;refine must rfl (br (fun _=>?_) (fun _=>br (fun _=>must rfl (br (fun _=>must rfl ?_) (fun _=>?_))) (fun _=>?_)))
 all_goals first|rfl|(simp only [*,ztU,zdD,zcJ,cT,cF]<;>rfl)|simp_all[Ty.cells,ztU,zdD,zcJ]
theorem zN4:u3 160 zDr:=kF2 zc1 zk zl zo (zq []) zU7
@[simp] abbrev zgr (l:List Slot):Bool:=pc (l.length<=2147483648)
@[simp] abbrev zeX (l:List Slot):List Slot:=l
def zvu:Run:=rF1 (dS .slot) fun b=>(zgr b,[aS .slot (zeX b)])
def zz7 (N:Nat)(a0:lS):OA:=
 (oN (few (ln (ap [] a0))) (some [(aS .slot (ap [] a0))]))
theorem zL9 (a0:List Slot)(hc:zgr a0=true):∃N,zz7 N a0=some [aS .slot (zeX a0)]:=by
 have hs:=zD.1 hc;refine ⟨0,?_⟩;unfold zz7 oN;refine mu ?_
 first|rfl|(simp only [*,zeX,cT,cF]<;>rfl)|simp_all[Ty.cells,zeX]
theorem zE5:u3 186 zvu:=kF1 zc1 zk zl zo (zq []) zL9
@[simp] abbrev ztV (l:List Ins):Bool:=pc (l.length<=2147483648)
@[simp] abbrev zog (l:List Ins):List Ins:=l
def zxW:Run:=rF1 (dS .ins) fun b=>(ztV b,[aS .ins (zog b)])
def zBI (N:Nat)(a0:lI):OA:=
 (oN (few (ln (ap [] a0))) (some [(aS .ins (ap [] a0))]))
theorem zO1 (a0:List Ins)(hc:ztV a0=true):∃N,zBI N a0=some [aS .ins (zog a0)]:=by
 have hs:=zD.1 hc;refine ⟨0,?_⟩;unfold zBI oN;refine mu ?_
 first|rfl|(simp only [*,zog,cT,cF]<;>rfl)|simp_all[Ty.cells,zog]
theorem zIf:u3 233 zxW:=kF1 zc1 zk zl zo (zq []) zO1
def zfz (m:List (List Int))(p c:Int):Bool:=bif hasB p (ln m) then hasB c (ln (ix m p [])) else false
def cellAt (m:List (List Int))(p c:Int):Int:=bif zfz m p c then ix (ix m p []) c 0 else 0
def zbu (m:List (List Int))(p c v:Int):List (List Int):=bif zfz m p c then (cond (win v 0 99) (up m p (up (ix m p []) c v)) m) else m
theorem zzq (m:List (List Int))(p c:Int):(zfz m p c=true)↔hasB p (ln m)=true/\hasB c (ln (ix m p []))=true:=by
 unfold zfz;cases hasB p (ln m)<;>simp
theorem zbab {n:Nat}{m:List (List Int)}(h:CVB n (.s (.sl .int) m)):m.length<=n/\∀p:Int,hasB p (ln m)=true->(ix m p []).length<=n :=
 ⟨h.len,fun p hp=>(h.inv.2 _ (zbv hp []) _ (qF.2 rfl)).len⟩
@[simp] abbrev zsU (m:List (List Int))(p c:Int):Bool:=true
@[simp] abbrev zpY (m:List (List Int))(p c:Int):Bool:=zfz m p c
def zDW:Run:=rF3 (dS (.sl .int)) dI dI fun b c d=>(zsU b c d,[aB (zpY b c d)])
def zKl (N:Nat)(a0:lM)(a1 a2:Int):OA:=
 let y0:=(wsub .i64 (ln (ix a0 a1 [])) 1); (oN (zK a1 0 (wsub .i64 (ln a0) 1)) (cond (zM a1 0 (wsub .i64 (ln a0) 1)) (oN (inb a1 (ln a0)) (oN (zK a2 0 y0) (some [(aB (zM a2 0 y0))]))) oF))
theorem zVE (a0:List (List Int))(a1 a2:Int)(hb:zbD big [aS (.sl .int) a0,aI a1,aI a2])(hc:zsU a0 a1 a2=true):∃N,zKl N a0 a1 a2=some [aB (zpY a0 a1 a2)]:=by
 have hl:=zbab ((zcY hb).1 _ (qF.2 rfl));have hw:=zJx hl.1;have hw2:∀p i:Int,hasB p (ln a0)=true->win i 0 (wsub .i64 (ln (ix a0 p [])) 1)=hasB i (ln (ix a0 p [])):=fun p i h=>zJx (hl.2 p h) i
 refine ⟨0,?_⟩;unfold zKl oN
 conv=>zeta
 refine must rfl (br (fun _=>mu (must rfl ?_)) (fun _=>?_))
 all_goals first|rfl|(simp only [*,zpY,zfz,cT,cF]<;>rfl)|simp_all[Ty.cells,zpY,zfz]
theorem zOy:u3 282 zDW:=hF3 zc1 zk zl zo (zq []) zVE
@[simp] abbrev zn8 (m:List (List Int))(p c:Int):Bool:=true
@[simp] abbrev zm0 (m:List (List Int))(p c:Int):Int:=cellAt m p c
def zC9:Run:=rF3 (dS (.sl .int)) dI dI fun b c d=>(zn8 b c d,[aI (zm0 b c d)])
def zJA (N:Nat)(a0:lM)(a1 a2:Int):OA:=
 let y0:=(ix a0 a1 []); (oN (zcr a1 (ln a0)) (cond (nB (zcX a1 (ln a0))) (some [(aI 0)]) (oN (inb a1 (ln a0)) (oN (zcr a2 (ln y0)) (cond (nB (zcX a2 (ln y0))) (some [(aI 0)]) (oN (inb a1 (ln a0)) (oN (inb a2 (ln y0)) (some [(aI (ix y0 a2 0))]))))))))
theorem zUP (a0:List (List Int))(a1 a2:Int)(hc:zn8 a0 a1 a2=true):∃N,zJA N a0 a1 a2=some [aI (zm0 a0 a1 a2)]:=by
 refine ⟨0,?_⟩;unfold zJA oN nB
 conv=>zeta
 refine must rfl (brN (fun _=>?_) (fun _=>mu (must rfl (brN (fun _=>?_) (fun _=>mu (mu ?_))))))
 all_goals first|rfl|(simp only [*,zm0,cellAt,zfz,cT,cF]<;>rfl)|simp_all[Ty.cells,zm0,cellAt,zfz]
theorem zNM:u3 68 zC9:=kF3 zc1 zk zl zo (zq []) zUP
def zZ6:zQ:=[(258,zDA),(136,zC8),(223,zx3),(60,zxJ),(224,zx2),(65,zxI),(266,zDJ),(61,zDh),(268,zvC),(63,zvn),(310,zx5),(154,zxL),(311,zAQ),(243,zAv),(309,zAH),(155,zAu),(312,zDO),(236,zDm),(260,zHa),(138,zGZ),(144,zDx),(275,zDR),(160,zDr),(186,zvu),(233,zxW),(282,zDW),(68,zC9)]++z96
theorem zfC:zI zZ6:=zh zOd (zh zNL (zh zIm (zh zH2 (zh zIl (zh zH1 (zh zOm (zh zNU (zh zFd (zh zEY (zh zIo (zh zH4 (zh zLu (zh zK9 (zh zLl (zh zK8 (zh zOr (zh zNZ (zh zRT (zh zRH (zh zOa (zh zOu (zh zN4 (zh zE5 (zh zIf (zh zOy (zh zNM zc1))))))))))))))))))))))))))
@[simp] abbrev zsM (m:List (List Int))(p c:Int):Bool:=true
@[simp] abbrev znb (m:List (List Int))(p c:Int):Int:=cellAt m p c
def zDB:Run:=rF3 (dS (.sl .int)) dI dI fun b c d=>(zsM b c d,[aI (znb b c d)])
def zJ1 (N:Nat)(a0:lM)(a1 a2:Int):OA:=
 (oN (zsU a0 a1 a2) (cond (nB (zpY a0 a1 a2)) (some [(aI 0)]) (oN (inb a1 (ln a0)) (oN (inb a2 (ln (ix a0 a1 []))) (some [(aI (ix (ix a0 a1 []) a2 0))])))))
theorem zVh (a0:List (List Int))(a1 a2:Int)(hc:zsM a0 a1 a2=true):∃N,zJ1 N a0 a1 a2=some [aI (znb a0 a1 a2)]:=by
 have hm:=(zzq a0 a1 a2).1;refine ⟨0,?_⟩;unfold zJ1 oN nB;refine must rfl (brN (fun _=>?_) (fun _=>mu (mu ?_)))
 all_goals first|rfl|(simp only [*,znb,cellAt,cT,cF]<;>rfl)|simp_all[Ty.cells,znb,cellAt]
theorem zOe:u3 225 zDB:=kF3 zfC zk zl zo (zq []) zVh
def zcF (t:List Slot)(n p:Int):Bool:=bif t.all (fun s=>zdD s p) then ieq (ln t) n else false
@[simp] abbrev zmx (t:List Slot)(n p:Int):Bool:=true
@[simp] abbrev zhR (t:List Slot)(n p:Int):Bool:=zcF t n p
def zAW:Run:=rF3 (dS .slot) dI dI fun b c d=>(zmx b c d,[aB (zhR b c d)])
def zGs (N:Nat)(a0:lS)(a1 a2:Int):OA:=
 (iter (σ:=(Int×(Int×(Int×(lS×Unit))))) N (fun r4 s5=>let y0:=s5.2.2.2.1;let y1:=(ix y0 s5.2.2.1 zN); (cond (ilt s5.2.2.1 (ln y0)) (oN (inb s5.2.2.1 (ln y0)) (oN (zsR y1 s5.2.1) (cond (nB (zpV y1 s5.2.1)) oF (r4 (s5.1,(s5.2.1,((zG .i64 s5.2.2.1 1),(y0,())))))))) (some [(aB (ieq (ln y0) s5.1))]))) (a1,(a2,(0,(a0,())))))
def zTd:FuncId->Nat->Option Tmpl:=zq [(327,0,{ n:=25,tm:=[(0,.sl 0 []),(1,ti),(2,ti),(7,ti)],lo:=[],ro:=[(0,.slot,false)] })]
theorem zSJ (a0:List Slot)(a1 a2:Int)(hb:zbD big [aS .slot a0,aI a1,aI a2])(hc:zmx a0 a1 a2=true):∃N,zGs N a0 a1 a2=some [aB (zhR a0 a1 a2)]:=by
 have hl:(_:List _).length<=big:=((zcY hb).1 _ (qF.2 rfl)).len;refine zb8 fun N hNN=>?_;unfold zGs oN nB
 conv=>zeta
 refine (zbc a0 (fun i (t:Unit)=>(a1,a2,(i:Int),a0,())) _ (fun _ x (_:Unit) κ=>bif (fun s=>zdD s a2) x then κ () else oF) (fun (t:Unit)=>(some [(.one (.b (ieq (ln a0) a1)))])) (fun i hi t rec=>?_) (fun t rec=>?_) _ () (hNN hl)).trans ?_
 .simp only [zbo hi,zY hi,zbd hi,zW hi hl,cT];exact zhY rfl
 .simp only [zbf,cF]
 rw[zgj (fun s=>zdD s a2)];refine br (fun h0=>?_) (fun h0=>?_)
 .first|rfl|(simp only [h0,zhR,zcF,cT,cF]<;>rfl)|(simp_all [Ty.cells,zhR,zcF];done)
 .first|rfl|(simp only [h0,zhR,zcF,cT,cF]<;>rfl)|(simp_all [Ty.cells,zhR,zcF];done)
theorem zLA:u3 327 zAW:=hF3 zfC zk zl zo zTd zSJ
@[simp] abbrev zmc (t:List Slot)(n p:Int):Bool:=true
@[simp] abbrev zhL (t:List Slot)(n p:Int):Bool:=zcF t n p
def zAz:Run:=rF3 (dS .slot) dI dI fun b c d=>(zmc b c d,[aB (zhL b c d)])
def zF2 (N:Nat)(a0:lS)(a1 a2:Int):OA:=
 (iter (σ:=(Int×(Int×(Int×(Int×(lS×Unit)))))) N (fun r4 s5=>let y1:=s5.2.2.2.2.1;let y0:=(ix y1 s5.2.2.2.1 zN); (cond (ilt s5.2.2.2.1 s5.2.2.1) (oN (inb s5.2.2.2.1 (ln y1)) (oN (zzb y0 s5.2.1) (cond (nB (ztU y0 s5.2.1)) oF (r4 (s5.1,(s5.2.1,(s5.2.2.1,((zG .i64 s5.2.2.2.1 1),(y1,()))))))))) (some [(aB (ieq (ln y1) s5.1))]))) (a1,(a2,((ln a0),(0,(a0,()))))))
def zS9:FuncId->Nat->Option Tmpl:=zq [(235,0,{ n:=24,tm:=[(0,.sl 0 []),(1,ti),(2,ti),(9,.sl 0 []),(10,ti),(11,ti)],lo:=[],ro:=[(0,.slot,false)] })]
theorem zSi (a0:List Slot)(a1 a2:Int)(hb:zbD big [aS .slot a0,aI a1,aI a2])(hc:zmc a0 a1 a2=true):∃N,zF2 N a0 a1 a2=some [aB (zhL a0 a1 a2)]:=by
 have hl:(_:List _).length<=big:=((zcY hb).1 _ (qF.2 rfl)).len;refine zb8 fun N hNN=>?_;unfold zF2 oN nB
 conv=>zeta
 refine (zbc a0 (fun i (t:Unit)=>(a1,a2,(ln a0),(i:Int),a0,())) _ (fun _ x (_:Unit) κ=>bif (fun s=>zdD s a2) x then κ () else oF) (fun (t:Unit)=>(some [(.one (.b (ieq (ln a0) a1)))])) (fun i hi t rec=>?_) (fun t rec=>?_) _ () (hNN hl)).trans ?_
 .simp only [zbo hi,zY hi,zbd hi,zW hi hl,cT];exact zhY rfl
 .simp only [zbf,cF]
 rw[zgj (fun s=>zdD s a2)];refine br (fun h0=>?_) (fun h0=>?_)
 .first|rfl|(simp only [h0,zhL,zcF,cT,cF]<;>rfl)|(simp_all [Ty.cells,zhL,zcF];done)
 .first|rfl|(simp only [h0,zhL,zcF,cT,cF]<;>rfl)|(simp_all [Ty.cells,zhL,zcF];done)
theorem zLd:u3 235 zAz:=hF3 zfC zk zl zo zS9 zSi
def zb6 (c:List Int):Bool:=bif c.all (fun x=>win x 0 99) then ieq (ln c) 4 else false
@[simp] abbrev zfU (c:List Int):Bool:=true
@[simp] abbrev zfd (c:List Int):Bool:=zb6 c
def zDN:Run:=rF1 (dS .int) fun b=>(zfU b,[aB (zfd b)])
def zKc (N:Nat)(a0:List Int):OA:=
 (iter (σ:=(Int×((List Int)×Unit))) N (fun r2 s3=>(cond (ilt s3.1 (ln s3.2.1)) (oN (inb s3.1 (ln s3.2.1)) (oN (zK (ix s3.2.1 s3.1 0) 0 99) (cond (nB (zM (ix s3.2.1 s3.1 0) 0 99)) oF (r2 ((zG .i64 s3.1 1),(s3.2.1,())))))) (some [(aB (ieq (ln s3.2.1) 4))]))) (0,(a0,())))
def zW4:FuncId->Nat->Option Tmpl:=zq [(325,0,{ n:=19,tm:=[(0,.sl 0 []),(3,ti)],lo:=[],ro:=[(0,.int,false)] })]
theorem zVv (a0:List Int)(hb:zbD big [aS .int a0])(hc:zfU a0=true):∃N,zKc N a0=some [aB (zfd a0)]:=by
 have hl:(_:List _).length<=big:=((zcY hb).1 _ (qF.2 rfl)).len;refine zb8 fun N hNN=>?_;unfold zKc oN nB;refine (zbc a0 (fun i (t:Unit)=>((i:Int),a0,())) _ (fun _ x (_:Unit) κ=>bif (fun x=>win x 0 99) x then κ () else oF) (fun (t:Unit)=>(some [(.one (.b (ieq (ln a0) 4)))])) (fun i hi t rec=>?_) (fun t rec=>?_) _ () (hNN hl)).trans ?_
 .simp only [zbo hi,zY hi,zbd hi,zW hi hl,cT];exact zhY rfl
 .simp only [zbf,cF]
 rw[zgj (fun x=>win x 0 99)];refine br (fun h0=>?_) (fun h0=>?_)
 .first|rfl|(simp only [h0,zfd,zb6,cT,cF]<;>rfl)|(simp_all [Ty.cells,zfd,zb6];done)
 .first|rfl|(simp only [h0,zfd,zb6,cT,cF]<;>rfl)|(simp_all [Ty.cells,zfd,zb6];done)
theorem zOq:u3 325 zDN:=hF1 zfC zk zl zo zW4 zVv
@[simp] abbrev zhK (c:List Int):Bool:=true
@[simp] abbrev zgp (c:List Int):Bool:=zb6 c
def zDl:Run:=rF1 (dS .int) fun b=>(zhK b,[aB (zgp b)])
def zJL (N:Nat)(a0:List Int):OA:=
 (iter (σ:=(Int×(Int×((List Int)×Unit)))) N (fun r2 s3=>(cond (ilt s3.2.1 s3.1) (oN (inb s3.2.1 (ln s3.2.2.1)) (oN (zbG (ix s3.2.2.1 s3.2.1 0) 0 99) (cond (nB (zbW (ix s3.2.2.1 s3.2.1 0) 0 99)) oF (r2 (s3.1,((zG .i64 s3.2.1 1),(s3.2.2.1,()))))))) (some [(aB (ieq (ln s3.2.2.1) 4))]))) ((ln a0),(0,(a0,()))))
def zWU:FuncId->Nat->Option Tmpl:=zq [(234,0,{ n:=18,tm:=[(0,.sl 0 []),(5,.sl 0 []),(6,ti),(7,ti)],lo:=[],ro:=[(0,.int,false)] })]
theorem zU1 (a0:List Int)(hb:zbD big [aS .int a0])(hc:zhK a0=true):∃N,zJL N a0=some [aB (zgp a0)]:=by
 have hl:(_:List _).length<=big:=((zcY hb).1 _ (qF.2 rfl)).len;refine zb8 fun N hNN=>?_;unfold zJL oN nB;refine (zbc a0 (fun i (t:Unit)=>((ln a0),(i:Int),a0,())) _ (fun _ x (_:Unit) κ=>bif (fun x=>win x 0 99) x then κ () else oF) (fun (t:Unit)=>(some [(.one (.b (ieq (ln a0) 4)))])) (fun i hi t rec=>?_) (fun t rec=>?_) _ () (hNN hl)).trans ?_
 .simp only [zbo hi,zY hi,zbd hi,zW hi hl,cT];exact zhY rfl
 .simp only [zbf,cF]
 rw[zgj (fun x=>win x 0 99)];refine br (fun h0=>?_) (fun h0=>?_)
 .first|rfl|(simp only [h0,zgp,zb6,cT,cF]<;>rfl)|(simp_all [Ty.cells,zgp,zb6];done)
 .first|rfl|(simp only [h0,zgp,zb6,cT,cF]<;>rfl)|(simp_all [Ty.cells,zgp,zb6];done)
theorem zNY:u3 234 zDl:=hF1 zfC zk zl zo zWU zU1
def zdN (i:Ins):Bool:=bif (ieq i.Op 1||ieq i.Op 2||ieq i.Op 5||ieq i.Op 6) then win i.X 0 99 else (cond (ieq i.Op 3||ieq i.Op 4) (win i.X 0 15) (cond (ieq i.Op 7) (ieq i.X 0) (cond (ieq i.Op 8) (win i.X 0 11) false)))
@[simp] abbrev zD8 (i:Ins):Bool:=true
@[simp] abbrev zyp (i:Ins):Bool:=zdN i
def zHb:Run:=rF1 (dT .ins) fun b=>(zD8 b,[aB (zyp b)])
def zQp (N:Nat)(a0:Ins):OA:=
 let y10:=(ieq a0.Op 4);let y9:=(zK a0.X 0 99);let y8:=(aB (zM a0.X 0 99));let y7:=(ieq a0.Op 8);let y6:=(ieq a0.Op 7);let y5:=(ieq a0.Op 3);let y4:=(zK a0.X 0 11);let y3:=(zK a0.X 0 15);let y2:=(aB (ieq a0.X 0));let y1:=(aB (zM a0.X 0 11));let y0:=(aB (zM a0.X 0 15)); (cond (ieq a0.Op 1) (cond (ieq a0.Op 1) (oN y9 (some [y8])) (cond y5 (cond y5 (oN y3 (some [y0])) (cond y6 (some [y2]) (cond y7 (oN y4 (some [y1])) oF))) (cond y10 (oN y3 (some [y0])) (cond y6 (some [y2]) (cond y7 (oN y4 (some [y1])) oF))))) (cond (ieq a0.Op 2) (cond (ieq a0.Op 2) (oN y9 (some [y8])) (cond y5 (cond y5 (oN y3 (some [y0])) (cond y6 (some [y2]) (cond y7 (oN y4 (some [y1])) oF))) (cond y10 (oN y3 (some [y0])) (cond y6 (some [y2]) (cond y7 (oN y4 (some [y1])) oF))))) (cond (ieq a0.Op 5) (cond (ieq a0.Op 5) (oN y9 (some [y8])) (cond y5 (cond y5 (oN y3 (some [y0])) (cond y6 (some [y2]) (cond y7 (oN y4 (some [y1])) oF))) (cond y10 (oN y3 (some [y0])) (cond y6 (some [y2]) (cond y7 (oN y4 (some [y1])) oF))))) (cond (ieq a0.Op 6) (oN y9 (some [y8])) (cond y5 (cond y5 (oN y3 (some [y0])) (cond y6 (some [y2]) (cond y7 (oN y4 (some [y1])) oF))) (cond y10 (oN y3 (some [y0])) (cond y6 (some [y2]) (cond y7 (oN y4 (some [y1])) oF))))))))
theorem zXV (a0:Ins)(hc:zD8 a0=true):∃N,zQp N a0=some [aB (zyp a0)]:=by
 refine ⟨0,?_⟩;unfold zQp oN
 conv=>zeta
 refine br (fun _=>br (fun _=>must rfl ?_) (fun _=>br (fun _=>br (fun _=>must rfl ?_) (fun _=>br (fun _=>?_) (fun _=>br (fun _=>must rfl ?_) (fun _=>?_)))) (fun _=>br (fun _=>must rfl ?_) (fun _=>br (fun _=>?_) (fun _=>br (fun _=>must rfl ?_) (fun _=>?_)))))) (fun _=>br (fun _=>br (fun _=>must rfl ?_) (fun _=>br (fun _=>br (fun _=>must rfl ?_) (fun _=>br (fun _=>?_) (fun _=>br (fun _=>must rfl ?_) (fun _=>?_)))) (fun _=>br (fun _=>must rfl ?_) (fun _=>br (fun _=>?_) (fun _=>br (fun _=>must rfl ?_) (fun _=>?_)))))) (fun _=>br (fun _=>br (fun _=>must rfl ?_) (fun _=>br (fun _=>br (fun _=>must rfl ?_) (fun _=>br (fun _=>?_) (fun _=>br (fun _=>must rfl ?_) (fun _=>?_)))) (fun _=>br (fun _=>must rfl ?_) (fun _=>br (fun _=>?_) (fun _=>br (fun _=>must rfl ?_) (fun _=>?_)))))) (fun _=>br (fun _=>must rfl ?_) (fun _=>br (fun _=>br (fun _=>must rfl ?_) (fun _=>br (fun _=>?_) (fun _=>br (fun _=>must rfl ?_) (fun _=>?_)))) (fun _=>br (fun _=>must rfl ?_) (fun _=>br (fun _=>?_) (fun _=>br (fun _=>must rfl ?_) (fun _=>?_))))))))
 all_goals first|rfl|(simp only [*,zyp,zdN,cT,cF]<;>rfl)|simp_all[Ty.cells,zyp,zdN]
theorem zRU:u3 331 zHb:=kF1 zfC zk zl zo (zq []) zXV
@[simp] abbrev zCM (i:Ins):Bool:=true
@[simp] abbrev zxx (i:Ins):Bool:=zdN i
def zG0:Run:=rF1 (dT .ins) fun b=>(zCM b,[aB (zxx b)])
def zQe (N:Nat)(a0:Ins):OA:=
 let y10:=(ieq a0.Op 4);let y9:=(zbG a0.X 0 99);let y8:=(aB (zbW a0.X 0 99));let y7:=(ieq a0.Op 8);let y6:=(ieq a0.Op 7);let y5:=(ieq a0.Op 3);let y4:=(zbG a0.X 0 11);let y3:=(zbG a0.X 0 15);let y2:=(aB (ieq a0.X 0));let y1:=(aB (zbW a0.X 0 11));let y0:=(aB (zbW a0.X 0 15)); (cond (ieq a0.Op 1) (cond (ieq a0.Op 1) (oN y9 (some [y8])) (cond y5 (cond y5 (oN y3 (some [y0])) (cond y6 (some [y2]) (cond y7 (oN y4 (some [y1])) oF))) (cond y10 (oN y3 (some [y0])) (cond y6 (some [y2]) (cond y7 (oN y4 (some [y1])) oF))))) (cond (ieq a0.Op 2) (cond (ieq a0.Op 2) (oN y9 (some [y8])) (cond y5 (cond y5 (oN y3 (some [y0])) (cond y6 (some [y2]) (cond y7 (oN y4 (some [y1])) oF))) (cond y10 (oN y3 (some [y0])) (cond y6 (some [y2]) (cond y7 (oN y4 (some [y1])) oF))))) (cond (ieq a0.Op 5) (cond (ieq a0.Op 5) (oN y9 (some [y8])) (cond y5 (cond y5 (oN y3 (some [y0])) (cond y6 (some [y2]) (cond y7 (oN y4 (some [y1])) oF))) (cond y10 (oN y3 (some [y0])) (cond y6 (some [y2]) (cond y7 (oN y4 (some [y1])) oF))))) (cond (ieq a0.Op 6) (oN y9 (some [y8])) (cond y5 (cond y5 (oN y3 (some [y0])) (cond y6 (some [y2]) (cond y7 (oN y4 (some [y1])) oF))) (cond y10 (oN y3 (some [y0])) (cond y6 (some [y2]) (cond y7 (oN y4 (some [y1])) oF))))))))
theorem zXJ (a0:Ins)(hc:zCM a0=true):∃N,zQe N a0=some [aB (zxx a0)]:=by
 refine ⟨0,?_⟩;unfold zQe oN
 conv=>zeta
 refine br (fun _=>br (fun _=>must rfl ?_) (fun _=>br (fun _=>br (fun _=>must rfl ?_) (fun _=>br (fun _=>?_) (fun _=>br (fun _=>must rfl ?_) (fun _=>?_)))) (fun _=>br (fun _=>must rfl ?_) (fun _=>br (fun _=>?_) (fun _=>br (fun _=>must rfl ?_) (fun _=>?_)))))) (fun _=>br (fun _=>br (fun _=>must rfl ?_) (fun _=>br (fun _=>br (fun _=>must rfl ?_) (fun _=>br (fun _=>?_) (fun _=>br (fun _=>must rfl ?_) (fun _=>?_)))) (fun _=>br (fun _=>must rfl ?_) (fun _=>br (fun _=>?_) (fun _=>br (fun _=>must rfl ?_) (fun _=>?_)))))) (fun _=>br (fun _=>br (fun _=>must rfl ?_) (fun _=>br (fun _=>br (fun _=>must rfl ?_) (fun _=>br (fun _=>?_) (fun _=>br (fun _=>must rfl ?_) (fun _=>?_)))) (fun _=>br (fun _=>must rfl ?_) (fun _=>br (fun _=>?_) (fun _=>br (fun _=>must rfl ?_) (fun _=>?_)))))) (fun _=>br (fun _=>must rfl ?_) (fun _=>br (fun _=>br (fun _=>must rfl ?_) (fun _=>br (fun _=>?_) (fun _=>br (fun _=>must rfl ?_) (fun _=>?_)))) (fun _=>br (fun _=>must rfl ?_) (fun _=>br (fun _=>?_) (fun _=>br (fun _=>must rfl ?_) (fun _=>?_))))))))
 all_goals first|rfl|(simp only [*,zxx,zdN,cT,cF]<;>rfl)|simp_all[Ty.cells,zxx,zdN]
theorem zRI:u3 321 zG0:=kF1 zfC zk zl zo (zq []) zXJ
def zhb (e:GExit):Bool:=bif (ieq e.Kind 0||ieq e.Kind 4) then (ieq e.Page 0&&(!e.Write&&ieq e.N 0)) else (cond (ieq e.Kind 1) (win e.Page 0 3&&ieq e.N 0) (cond (ieq e.Kind 2||ieq e.Kind 3) (win e.N 0 99&&(ieq e.Page 0 && !e.Write)) false))
@[simp] theorem zbbz (x:Bool):zkh x false = !x:=by cases x<;>rfl
attribute [simp] zdU
@[simp] abbrev zzy (e:GExit):Bool:=true
@[simp] abbrev zuo (e:GExit):Bool:=zhb e
def zDD:Run:=rF1 dE fun b=>(zzy b,[aB (zuo b)])
def zJ3 (N:Nat)(a0:GExit):OA:=
 let y5:=(zM a0.N 0 99);let y4:=(zK a0.N 0 99);let y3:=(ieq a0.Kind 2);let y2:=(ieq a0.Page 0);let y1:=(aB (nB a0.Write));let y0:=(aB (cond (ieq a0.Kind a0.Kind) (cond y2 (cond (zkh a0.Write false) (ieq a0.N 0) false) false) false)); (cond (ieq a0.Kind 0) (cond (ieq a0.Kind 0) (some [y0]) (cond (ieq a0.Kind 1) (oN (zK a0.Page 0 3) (cond (zM a0.Page 0 3) (some [(aB (ieq a0.N 0))]) oF)) (cond y3 (cond y3 (oN y4 (cond y5 (cond y2 (some [y1]) oF) oF)) oF) (cond (ieq a0.Kind 3) (oN y4 (cond y5 (cond y2 (some [y1]) oF) oF)) oF)))) (cond (ieq a0.Kind 4) (some [y0]) (cond (ieq a0.Kind 1) (oN (zK a0.Page 0 3) (cond (zM a0.Page 0 3) (some [(aB (ieq a0.N 0))]) oF)) (cond y3 (cond y3 (oN y4 (cond y5 (cond y2 (some [y1]) oF) oF)) oF) (cond (ieq a0.Kind 3) (oN y4 (cond y5 (cond y2 (some [y1]) oF) oF)) oF)))))
theorem zVj (a0:GExit)(hc:zzy a0=true):∃N,zJ3 N a0=some [aB (zuo a0)]:=by
 refine ⟨0,?_⟩;unfold zJ3 oN nB
 conv=>zeta
 refine br (fun _=>br (fun _=>?_) (fun _=>br (fun _=>must rfl (br (fun _=>?_) (fun _=>?_))) (fun _=>br (fun _=>br (fun _=>must rfl (br (fun _=>br (fun _=>?_) (fun _=>?_)) (fun _=>?_))) (fun _=>?_)) (fun _=>br (fun _=>must rfl (br (fun _=>br (fun _=>?_) (fun _=>?_)) (fun _=>?_))) (fun _=>?_))))) (fun _=>br (fun _=>?_) (fun _=>br (fun _=>must rfl (br (fun _=>?_) (fun _=>?_))) (fun _=>br (fun _=>br (fun _=>must rfl (br (fun _=>br (fun _=>?_) (fun _=>?_)) (fun _=>?_))) (fun _=>?_)) (fun _=>br (fun _=>must rfl (br (fun _=>br (fun _=>?_) (fun _=>?_)) (fun _=>?_))) (fun _=>?_)))))
 all_goals first|rfl|(simp only [*,zuo,zhb,cT,cF]<;>rfl)|simp_all[Ty.cells,zuo,zhb]
theorem zOg:u3 329 zDD:=kF1 zfC zk zl zo (zq []) zVj
@[simp] abbrev zy2 (e:GExit):Bool:=true
@[simp] abbrev ztN (e:GExit):Bool:=zhb e
def zDb:Run:=rF1 dE fun b=>(zy2 b,[aB (ztN b)])
def zJC (N:Nat)(a0:GExit):OA:=
 let y5:=(zbW a0.N 0 99);let y4:=(zbG a0.N 0 99);let y3:=(ieq a0.Kind 2);let y2:=(aB (ieq a0.N 0));let y1:=(ieq a0.Page 0);let y0:=(aB (nB a0.Write)); (cond (ieq a0.Kind 0) (cond (ieq a0.Kind 0) (cond y1 (cond (nB a0.Write) (some [y2]) oF) oF) (cond (ieq a0.Kind 1) (oN (zbG a0.Page 0 3) (cond (zbW a0.Page 0 3) (some [y2]) oF)) (cond y3 (cond y3 (oN y4 (cond y5 (cond y1 (some [y0]) oF) oF)) oF) (cond (ieq a0.Kind 3) (oN y4 (cond y5 (cond y1 (some [y0]) oF) oF)) oF)))) (cond (ieq a0.Kind 4) (cond y1 (cond (nB a0.Write) (some [y2]) oF) oF) (cond (ieq a0.Kind 1) (oN (zbG a0.Page 0 3) (cond (zbW a0.Page 0 3) (some [y2]) oF)) (cond y3 (cond y3 (oN y4 (cond y5 (cond y1 (some [y0]) oF) oF)) oF) (cond (ieq a0.Kind 3) (oN y4 (cond y5 (cond y1 (some [y0]) oF) oF)) oF)))))
theorem zUR (a0:GExit)(hc:zy2 a0=true):∃N,zJC N a0=some [aB (ztN a0)]:=by
 refine ⟨0,?_⟩;unfold zJC oN nB
 conv=>zeta
 refine br (fun _=>br (fun _=>br (fun _=>brN (fun _=>?_) (fun _=>?_)) (fun _=>?_)) (fun _=>br (fun _=>must rfl (br (fun _=>?_) (fun _=>?_))) (fun _=>br (fun _=>br (fun _=>must rfl (br (fun _=>br (fun _=>?_) (fun _=>?_)) (fun _=>?_))) (fun _=>?_)) (fun _=>br (fun _=>must rfl (br (fun _=>br (fun _=>?_) (fun _=>?_)) (fun _=>?_))) (fun _=>?_))))) (fun _=>br (fun _=>br (fun _=>brN (fun _=>?_) (fun _=>?_)) (fun _=>?_)) (fun _=>br (fun _=>must rfl (br (fun _=>?_) (fun _=>?_))) (fun _=>br (fun _=>br (fun _=>must rfl (br (fun _=>br (fun _=>?_) (fun _=>?_)) (fun _=>?_))) (fun _=>?_)) (fun _=>br (fun _=>must rfl (br (fun _=>br (fun _=>?_) (fun _=>?_)) (fun _=>?_))) (fun _=>?_)))))
 all_goals first|rfl|(simp only [*,ztN,zhb,cT,cF]<;>rfl)|simp_all[Ty.cells,ztN,zhb]
theorem zNO:u3 296 zDb:=kF1 zfC zk zl zo (zq []) zUR
def zkk (c:Ctl):List Int:=(cond (win c.Traps 0 3) [] [1])++((cond (win c.Post 0 255) [] [2])++((cond (ine c.Post 0) (cond c.Open [] [3]) [])++(cond (ieq c.Traps 2) (cond (ine c.Post 0) [4] []) [])))
@[simp] theorem zbbw {α:Type}(x:α)(l m:List α):ap (x :: l) m=x :: ap l m:=rfl
@[simp] abbrev zsc (c:Ctl):Bool:=true
@[simp] abbrev zmr (c:Ctl):List Int:=zkk c
def zvB:Run:=rF1 dC fun b=>(zsc b,[aS .int (zmr b)])
def zAe (N:Nat)(a0:Ctl):OA:=
 let y10:=(aS .int []);let y8:=(ap (ap [] [2]) [4]);let y7:=(ap (ap [] [1]) [4]);let y6:=(aS .int (ap [] [2]));let y5:=(aS .int (ap [] [1]));let y4:=(ap (ap [] [2]) [3]);let y3:=(ap (ap [] [1]) [3]);let y2:=(ieq a0.Traps 2);let y1:=(ine a0.Post 0);let y0:=(ap (ap [] [1]) [2]);let y9:=(aS .int y0); (oN (zK a0.Traps 0 3) (cond (nB (zM a0.Traps 0 3)) (oN (few (ln (ap [] [1]))) (oN (zK a0.Post 0 255) (cond (nB (zM a0.Post 0 255)) (oN (few (ln y0)) (cond y1 (cond (nB a0.Open) (oN (few (ln (ap y0 [3]))) (cond y2 (cond y1 (oN (few (ln (ap (ap y0 [3]) [4]))) (some [(aS .int (ap (ap y0 [3]) [4]))])) (some [(aS .int (ap y0 [3]))])) (some [(aS .int (ap y0 [3]))]))) (cond y2 (cond y1 (oN (few (ln (ap y0 [4]))) (some [(aS .int (ap y0 [4]))])) (some [y9])) (some [y9]))) (cond y2 (cond y1 (oN (few (ln (ap y0 [4]))) (some [(aS .int (ap y0 [4]))])) (some [y9])) (some [y9])))) (cond y1 (cond (nB a0.Open) (oN (few (ln y3)) (cond y2 (cond y1 (oN (few (ln (ap y3 [4]))) (some [(aS .int (ap y3 [4]))])) (some [(aS .int y3)])) (some [(aS .int y3)]))) (cond y2 (cond y1 (oN (few (ln y7)) (some [(aS .int y7)])) (some [y5])) (some [y5]))) (cond y2 (cond y1 (oN (few (ln y7)) (some [(aS .int y7)])) (some [y5])) (some [y5])))))) (oN (zK a0.Post 0 255) (cond (nB (zM a0.Post 0 255)) (oN (few (ln (ap [] [2]))) (cond y1 (cond (nB a0.Open) (oN (few (ln y4)) (cond y2 (cond y1 (oN (few (ln (ap y4 [4]))) (some [(aS .int (ap y4 [4]))])) (some [(aS .int y4)])) (some [(aS .int y4)]))) (cond y2 (cond y1 (oN (few (ln y8)) (some [(aS .int y8)])) (some [y6])) (some [y6]))) (cond y2 (cond y1 (oN (few (ln y8)) (some [(aS .int y8)])) (some [y6])) (some [y6])))) (cond y1 (cond (nB a0.Open) (oN (few (ln (ap [] [3]))) (cond y2 (cond y1 (oN (few (ln (ap (ap [] [3]) [4]))) (some [(aS .int (ap (ap [] [3]) [4]))])) (some [(aS .int (ap [] [3]))])) (some [(aS .int (ap [] [3]))]))) (cond y2 (cond y1 (oN (few (ln (ap [] [4]))) (some [(aS .int (ap [] [4]))])) (some [y10])) (some [y10]))) (cond y2 (cond y1 (oN (few (ln (ap [] [4]))) (some [(aS .int (ap [] [4]))])) (some [y10])) (some [y10])))))))
theorem zMh (a0:Ctl)(hc:zsc a0=true):∃N,zAe N a0=some [aS .int (zmr a0)]:=by
 refine ⟨0,?_⟩;unfold zAe oN nB
 conv=>zeta
 refine must rfl (brN (fun _=>mu (must rfl (brN (fun _=>mu (br (fun _=>brN (fun _=>mu (br (fun _=>br (fun _=>mu ?_) (fun _=>?_)) (fun _=>?_))) (fun _=>br (fun _=>br (fun _=>mu ?_) (fun _=>?_)) (fun _=>?_))) (fun _=>br (fun _=>br (fun _=>mu ?_) (fun _=>?_)) (fun _=>?_)))) (fun _=>br (fun _=>brN (fun _=>mu (br (fun _=>br (fun _=>mu ?_) (fun _=>?_)) (fun _=>?_))) (fun _=>br (fun _=>br (fun _=>mu ?_) (fun _=>?_)) (fun _=>?_))) (fun _=>br (fun _=>br (fun _=>mu ?_) (fun _=>?_)) (fun _=>?_)))))) (fun _=>must rfl (brN (fun _=>mu (br (fun _=>brN (fun _=>mu (br (fun _=>br (fun _=>mu ?_) (fun _=>?_)) (fun _=>?_))) (fun _=>br (fun _=>br (fun _=>mu ?_) (fun _=>?_)) (fun _=>?_))) (fun _=>br (fun _=>br (fun _=>mu ?_) (fun _=>?_)) (fun _=>?_)))) (fun _=>br (fun _=>brN (fun _=>mu (br (fun _=>br (fun _=>mu ?_) (fun _=>?_)) (fun _=>?_))) (fun _=>br (fun _=>br (fun _=>mu ?_) (fun _=>?_)) (fun _=>?_))) (fun _=>br (fun _=>br (fun _=>mu ?_) (fun _=>?_)) (fun _=>?_))))))
 all_goals first|rfl|(simp only [*,zmr,zkk,cT,cF]<;>rfl)|simp_all[Ty.cells,zmr,zkk]
theorem zFc:u3 313 zvB:=kF1 zfC zk zl zo (zq []) zMh
@[simp] abbrev zrO (c:Ctl):Bool:=true
@[simp] abbrev zl6 (c:Ctl):List Int:=zkk c
def zvl:Run:=rF1 dC fun b=>(zrO b,[aS .int (zl6 b)])
def zzY (N:Nat)(a0:Ctl):OA:=
 let y10:=(aS .int []);let y8:=(ap (ap [] [2]) [4]);let y7:=(ap (ap [] [1]) [4]);let y6:=(aS .int (ap [] [2]));let y5:=(aS .int (ap [] [1]));let y4:=(ap (ap [] [2]) [3]);let y3:=(ap (ap [] [1]) [3]);let y2:=(ieq a0.Traps 2);let y1:=(ine a0.Post 0);let y0:=(ap (ap [] [1]) [2]);let y9:=(aS .int y0); (oN (zbG a0.Traps 0 3) (cond (nB (zbW a0.Traps 0 3)) (oN (few (ln (ap [] [1]))) (oN (zbG a0.Post 0 255) (cond (nB (zbW a0.Post 0 255)) (oN (few (ln y0)) (cond y1 (cond (nB a0.Open) (oN (few (ln (ap y0 [3]))) (cond y2 (cond y1 (oN (few (ln (ap (ap y0 [3]) [4]))) (some [(aS .int (ap (ap y0 [3]) [4]))])) (some [(aS .int (ap y0 [3]))])) (some [(aS .int (ap y0 [3]))]))) (cond y2 (cond y1 (oN (few (ln (ap y0 [4]))) (some [(aS .int (ap y0 [4]))])) (some [y9])) (some [y9]))) (cond y2 (cond y1 (oN (few (ln (ap y0 [4]))) (some [(aS .int (ap y0 [4]))])) (some [y9])) (some [y9])))) (cond y1 (cond (nB a0.Open) (oN (few (ln y3)) (cond y2 (cond y1 (oN (few (ln (ap y3 [4]))) (some [(aS .int (ap y3 [4]))])) (some [(aS .int y3)])) (some [(aS .int y3)]))) (cond y2 (cond y1 (oN (few (ln y7)) (some [(aS .int y7)])) (some [y5])) (some [y5]))) (cond y2 (cond y1 (oN (few (ln y7)) (some [(aS .int y7)])) (some [y5])) (some [y5])))))) (oN (zbG a0.Post 0 255) (cond (nB (zbW a0.Post 0 255)) (oN (few (ln (ap [] [2]))) (cond y1 (cond (nB a0.Open) (oN (few (ln y4)) (cond y2 (cond y1 (oN (few (ln (ap y4 [4]))) (some [(aS .int (ap y4 [4]))])) (some [(aS .int y4)])) (some [(aS .int y4)]))) (cond y2 (cond y1 (oN (few (ln y8)) (some [(aS .int y8)])) (some [y6])) (some [y6]))) (cond y2 (cond y1 (oN (few (ln y8)) (some [(aS .int y8)])) (some [y6])) (some [y6])))) (cond y1 (cond (nB a0.Open) (oN (few (ln (ap [] [3]))) (cond y2 (cond y1 (oN (few (ln (ap (ap [] [3]) [4]))) (some [(aS .int (ap (ap [] [3]) [4]))])) (some [(aS .int (ap [] [3]))])) (some [(aS .int (ap [] [3]))]))) (cond y2 (cond y1 (oN (few (ln (ap [] [4]))) (some [(aS .int (ap [] [4]))])) (some [y10])) (some [y10]))) (cond y2 (cond y1 (oN (few (ln (ap [] [4]))) (some [(aS .int (ap [] [4]))])) (some [y10])) (some [y10])))))))
theorem zL0 (a0:Ctl)(hc:zrO a0=true):∃N,zzY N a0=some [aS .int (zl6 a0)]:=by
 refine ⟨0,?_⟩;unfold zzY oN nB
 conv=>zeta
 refine must rfl (brN (fun _=>mu (must rfl (brN (fun _=>mu (br (fun _=>brN (fun _=>mu (br (fun _=>br (fun _=>mu ?_) (fun _=>?_)) (fun _=>?_))) (fun _=>br (fun _=>br (fun _=>mu ?_) (fun _=>?_)) (fun _=>?_))) (fun _=>br (fun _=>br (fun _=>mu ?_) (fun _=>?_)) (fun _=>?_)))) (fun _=>br (fun _=>brN (fun _=>mu (br (fun _=>br (fun _=>mu ?_) (fun _=>?_)) (fun _=>?_))) (fun _=>br (fun _=>br (fun _=>mu ?_) (fun _=>?_)) (fun _=>?_))) (fun _=>br (fun _=>br (fun _=>mu ?_) (fun _=>?_)) (fun _=>?_)))))) (fun _=>must rfl (brN (fun _=>mu (br (fun _=>brN (fun _=>mu (br (fun _=>br (fun _=>mu ?_) (fun _=>?_)) (fun _=>?_))) (fun _=>br (fun _=>br (fun _=>mu ?_) (fun _=>?_)) (fun _=>?_))) (fun _=>br (fun _=>br (fun _=>mu ?_) (fun _=>?_)) (fun _=>?_)))) (fun _=>br (fun _=>brN (fun _=>mu (br (fun _=>br (fun _=>mu ?_) (fun _=>?_)) (fun _=>?_))) (fun _=>br (fun _=>br (fun _=>mu ?_) (fun _=>?_)) (fun _=>?_))) (fun _=>br (fun _=>br (fun _=>mu ?_) (fun _=>?_)) (fun _=>?_))))))
 all_goals first|rfl|(simp only [*,zl6,zkk,cT,cF]<;>rfl)|simp_all[Ty.cells,zl6,zkk]
theorem zEW:u3 244 zvl:=kF1 zfC zk zl zo (zq []) zL0
def len8tab:ByteArray:=⟨⟨[0,1,2,2,3,3,3,3,4,4,4,4,4,4,4,4,5,5,5,5,5,5,5,5,5,5,5,5,5,5,5,5,6,6,6,6,6,6,6,6,6,6,6,6,6,6,6,6,6,6,6,6,6,6,6,6,6,6,6,6,6,6,6,6,7,7,7,7,7,7,7,7,7,7,7,7,7,7,7,7,7,7,7,7,7,7,7,7,7,7,7,7,7,7,7,7,7,7,7,7,7,7,7,7,7,7,7,7,7,7,7,7,7,7,7,7,7,7,7,7,7,7,7,7,7,7,7,7,8,8,8,8,8,8,8,8,8,8,8,8,8,8,8,8,8,8,8,8,8,8,8,8,8,8,8,8,8,8,8,8,8,8,8,8,8,8,8,8,8,8,8,8,8,8,8,8,8,8,8,8,8,8,8,8,8,8,8,8,8,8,8,8,8,8,8,8,8,8,8,8,8,8,8,8,8,8,8,8,8,8,8,8,8,8,8,8,8,8,8,8,8,8,8,8,8,8,8,8,8,8,8,8,8,8,8,8,8,8,8,8,8,8,8,8,8,8,8,8,8,8,8,8,8,8,8,8]⟩⟩
def zgA (p n:Int):Bool:=ieq (wand .i64 (zjq .i64 p n) 1) 1
def scan (p:Int):Int:=bif zgA p 7 then 7 else (cond (zgA p 6) 6 (cond (zgA p 5) 5 (cond (zgA p 4) 4 (cond (zgA p 3) 3 (cond (zgA p 2) 2 (cond (zgA p 1) 1 (cond (zgA p 0) 0 (-1))))))))
theorem z6d:∀n:Fin 256,zG .i64 0 (wcv .i64 (byteAt len8tab (wcv .u8 (n.val:Int))))=scan (n.val:Int)+1:=by decide +kernel
theorem zWx:∀n:Fin 256,-1<=scan (n.val:Int)/\scan (n.val:Int)<=7/\(0<=scan (n.val:Int)->wsub .i64 (n.val:Int) (zk0 .i64 1 (scan (n.val:Int)))=zzV .i64 (n.val:Int) (zk0 .i64 1 (scan (n.val:Int)))):=by decide +kernel
theorem zC0 {P:Int->Prop}(h:∀n:Fin 256,P (n.val:Int)){x:Int}(h0:0<=x)(h1:x<=255):P x:=by
 have:=h ⟨x.toNat,by omega⟩
 have e:((x.toNat:Nat):Int)=x:=by omega
 simpa [e] using this
def zlY (x:Int):Bool:=pc (0<=x/\x<=255)
def zhX (x:Int):Int:=scan x+1
def zhq:List AV->Option (Bool×List AV)
 | [.one (.i .u64 b)]=>some ((zlY b),[aI (zhX b)])
 | _=>none
def zlR (N:Nat)(a0:Int):OA:=
 let y2:=(zjq .u64 a0 16);let y0:=(zjq .u64 a0 32);let y1:=(zjq .u64 y0 16); (cond (ige a0 4294967296) (oN (ile 0 32) (cond (ige y0 65536) (oN (ile 0 16) (cond (ige y1 256) (oN (ile 0 8) (oN (inb (wcv .u8 (zjq .u64 y1 8)) 256) (some [(aI (zG .i64 (zG .i64 (zG .i64 32 16) 8) (wcv .i64 (byteAt len8tab (wcv .u8 (zjq .u64 y1 8))))))]))) (oN (inb (wcv .u8 y1) 256) (some [(aI (zG .i64 (zG .i64 32 16) (wcv .i64 (byteAt len8tab (wcv .u8 y1)))))])))) (cond (ige y0 256) (oN (ile 0 8) (oN (inb (wcv .u8 (zjq .u64 y0 8)) 256) (some [(aI (zG .i64 (zG .i64 32 8) (wcv .i64 (byteAt len8tab (wcv .u8 (zjq .u64 y0 8))))))]))) (oN (inb (wcv .u8 y0) 256) (some [(aI (zG .i64 32 (wcv .i64 (byteAt len8tab (wcv .u8 y0)))))]))))) (cond (ige a0 65536) (oN (ile 0 16) (cond (ige y2 256) (oN (ile 0 8) (oN (inb (wcv .u8 (zjq .u64 y2 8)) 256) (some [(aI (zG .i64 (zG .i64 (zG .i64 0 16) 8) (wcv .i64 (byteAt len8tab (wcv .u8 (zjq .u64 y2 8))))))]))) (oN (inb (wcv .u8 y2) 256) (some [(aI (zG .i64 (zG .i64 0 16) (wcv .i64 (byteAt len8tab (wcv .u8 y2)))))])))) (cond (ige a0 256) (oN (ile 0 8) (oN (inb (wcv .u8 (zjq .u64 a0 8)) 256) (some [(aI (zG .i64 (zG .i64 0 8) (wcv .i64 (byteAt len8tab (wcv .u8 (zjq .u64 a0 8))))))]))) (oN (inb (wcv .u8 a0) 256) (some [(aI (zG .i64 0 (wcv .i64 (byteAt len8tab (wcv .u8 a0)))))])))))
theorem zCZ (N:Nat)(a0:Int):evalFn (cQ zZ6 zop zI9 zjm) (zq []) N 12 297 [.one (.i .u64 a0)]=zlR N a0:=by kernel_rfl
theorem zBt (a0:Int)(hb:zbD big [.one (.i .u64 a0)])(hc:zlY a0=true):∃N,zlR N a0=some [aI (zhX a0)]:=by
 obtain ⟨h0,h1⟩:=zD.1 hc;refine ⟨0,?_⟩;unfold zlR oN
 conv=>zeta
 refine zcH (qH (by omega)) ?_
 refine zcH (qH (by omega)) ?_
 refine zcH (qH (by omega)) ?_
 have e:inb (wcv .u8 a0) 256=true:=zC0 (P:=fun x=>inb (wcv .u8 x) 256=true) (by decide +kernel) h0 h1
 refine must e ?_;have e2:=zC0 (P:=fun x=>zG .i64 0 (wcv .i64 (byteAt len8tab (wcv .u8 x)))=scan x+1) z6d h0 h1;rw[e2];rfl
theorem znr:u3 297 zhq:=zUw zfC zk zl zo (zd2 (by kernel_rfl)) fun avs rs hb h=>by
 unfold zhq at h;split at h
 .obtain ⟨hc,rfl⟩:=zdS h;exact (zBt _ hb hc).elim fun N e=>⟨zq [],N,(zCZ N _).trans e⟩
 .cases h
def z7q:zQ:=[(225,zDB),(327,zAW),(235,zAz),(325,zDN),(234,zDl),(331,zHb),(321,zG0),(329,zDD),(296,zDb),(313,zvB),(244,zvl),(297,zhq)]++zZ6
theorem zfD:zI z7q:=zh zOe (zh zLA (zh zLd (zh zOq (zh zNY (zh zRU (zh zRI (zh zOg (zh zNO (zh zFc (zh zEW (zh znr zfC)))))))))))
def zhp (m:List (List Int))(n:Int):Bool:=bif m.all zb6 then ieq (ln m) n else false
@[simp] abbrev zrt (m:List (List Int))(n:Int):Bool:=true
@[simp] abbrev zlJ (m:List (List Int))(n:Int):Bool:=zhp m n
def zHc:Run:=rF2 (dS (.sl .int)) dI fun b c=>(zrt b c,[aB (zlJ b c)])
def zQq (N:Nat)(a0:lM)(a1:Int):OA:=
 (iter (σ:=(Int×(Int×(lM×Unit)))) N (fun r3 s4=>let y0:=s4.2.2.1; (cond (ilt s4.2.1 (ln y0)) (oN (inb s4.2.1 (ln y0)) (oN (zfU (ix y0 s4.2.1 [])) (cond (nB (zfd (ix y0 s4.2.1 []))) oF (r3 (s4.1,((zG .i64 s4.2.1 1),(y0,()))))))) (some [(aB (ieq (ln y0) s4.1))]))) (a1,(0,(a0,()))))
def zYH:FuncId->Nat->Option Tmpl:=zq [(305,0,{ n:=22,tm:=[(0,.sl 0 []),(1,ti),(5,ti)],lo:=[],ro:=[(0,(.sl .int),false)] })]
theorem zXW (a0:List (List Int))(a1:Int)(hb:zbD big [aS (.sl .int) a0,aI a1])(hc:zrt a0 a1=true):∃N,zQq N a0 a1=some [aB (zlJ a0 a1)]:=by
 have hl:(_:List _).length<=big:=((zcY hb).1 _ (qF.2 rfl)).len;refine zb8 fun N hNN=>?_;unfold zQq oN nB
 conv=>zeta
 refine (zbc a0 (fun i (t:Unit)=>(a1,(i:Int),a0,())) _ (fun _ x (_:Unit) κ=>bif (zb6) x then κ () else oF) (fun (t:Unit)=>(some [(.one (.b (ieq (ln a0) a1)))])) (fun i hi t rec=>?_) (fun t rec=>?_) _ () (hNN hl)).trans ?_
 .simp only [zbo hi,zY hi,zbd hi,zW hi hl,cT];exact zhY rfl
 .simp only [zbf,cF]
 rw[zgj (zb6)];refine br (fun h0=>?_) (fun h0=>?_)
 .first|rfl|(simp only [h0,zlJ,zhp,cT,cF]<;>rfl)|(simp_all [Ty.cells,zlJ,zhp];done)
 .first|rfl|(simp only [h0,zlJ,zhp,cT,cF]<;>rfl)|(simp_all [Ty.cells,zlJ,zhp];done)
theorem zRV:u3 305 zHc:=hF2 zfD zk zl zo zYH zXW
@[simp] abbrev zrh (m:List (List Int))(n:Int):Bool:=true
@[simp] abbrev zlj (m:List (List Int))(n:Int):Bool:=zhp m n
def zG1:Run:=rF2 (dS (.sl .int)) dI fun b c=>(zrh b c,[aB (zlj b c)])
def zQf (N:Nat)(a0:lM)(a1:Int):OA:=
 (iter (σ:=(Int×(Int×(Int×(lM×Unit))))) N (fun r3 s4=>let y0:=s4.2.2.2.1; (cond (ilt s4.2.2.1 s4.2.1) (oN (inb s4.2.2.1 (ln y0)) (oN (zhK (ix y0 s4.2.2.1 [])) (cond (nB (zgp (ix y0 s4.2.2.1 []))) oF (r3 (s4.1,(s4.2.1,((zG .i64 s4.2.2.1 1),(y0,())))))))) (some [(aB (ieq (ln y0) s4.1))]))) (a1,((ln a0),(0,(a0,())))))
def zYF:FuncId->Nat->Option Tmpl:=zq [(133,0,{ n:=21,tm:=[(0,.sl 0 []),(1,ti),(7,.sl 0 []),(8,ti),(9,ti)],lo:=[],ro:=[(0,(.sl .int),false)] })]
theorem zXK (a0:List (List Int))(a1:Int)(hb:zbD big [aS (.sl .int) a0,aI a1])(hc:zrh a0 a1=true):∃N,zQf N a0 a1=some [aB (zlj a0 a1)]:=by
 have hl:(_:List _).length<=big:=((zcY hb).1 _ (qF.2 rfl)).len;refine zb8 fun N hNN=>?_;unfold zQf oN nB
 conv=>zeta
 refine (zbc a0 (fun i (t:Unit)=>(a1,(ln a0),(i:Int),a0,())) _ (fun _ x (_:Unit) κ=>bif (zb6) x then κ () else oF) (fun (t:Unit)=>(some [(.one (.b (ieq (ln a0) a1)))])) (fun i hi t rec=>?_) (fun t rec=>?_) _ () (hNN hl)).trans ?_
 .simp only [zbo hi,zY hi,zbd hi,zW hi hl,cT];exact zhY rfl
 .simp only [zbf,cF]
 rw[zgj (zb6)];refine br (fun h0=>?_) (fun h0=>?_)
 .first|rfl|(simp only [h0,zlj,zhp,cT,cF]<;>rfl)|(simp_all [Ty.cells,zlj,zhp];done)
 .first|rfl|(simp only [h0,zlj,zhp,cT,cF]<;>rfl)|(simp_all [Ty.cells,zlj,zhp];done)
theorem zRJ:u3 133 zG1:=hF2 zfD zk zl zo zYF zXK
def zc4 (p:List Ins):Bool:=bif p.all zdN then win (ln p) 1 12 else false
@[simp] abbrev zzE (p:List Ins):Bool:=true
@[simp] abbrev znd (p:List Ins):Bool:=zc4 p
def zDP:Run:=rF1 (dS .ins) fun b=>(zzE b,[aB (znd b)])
def zKe (N:Nat)(a0:lI):OA:=
 (iter (σ:=(Int×(lI×Unit))) N (fun r2 s3=>let y0:=(ix s3.2.1 s3.1 zq0); (cond (ilt s3.1 (ln s3.2.1)) (oN (inb s3.1 (ln s3.2.1)) (oN (zD8 y0) (cond (nB (zyp y0)) oF (r2 ((zG .i64 s3.1 1),(s3.2.1,())))))) (oN (zK (ln s3.2.1) 1 12) (some [(aB (zM (ln s3.2.1) 1 12))])))) (0,(a0,())))
def zW5:FuncId->Nat->Option Tmpl:=zq [(328,0,{ n:=19,tm:=[(0,.sl 0 []),(3,ti)],lo:=[],ro:=[(0,.ins,false)] })]
theorem zVx (a0:List Ins)(hb:zbD big [aS .ins a0])(hc:zzE a0=true):∃N,zKe N a0=some [aB (znd a0)]:=by
 have hl:(_:List _).length<=big:=((zcY hb).1 _ (qF.2 rfl)).len;refine zb8 fun N hNN=>?_;unfold zKe oN nB
 conv=>zeta
 refine (zbc a0 (fun i (t:Unit)=>((i:Int),a0,())) _ (fun _ x (_:Unit) κ=>bif (zdN) x then κ () else oF) (fun (t:Unit)=>(cond (zK (ln a0) 1 12) (some [(.one (.b (zM (ln a0) 1 12)))]) none)) (fun i hi t rec=>?_) (fun t rec=>?_) _ () (hNN hl)).trans ?_
 .simp only [zbo hi,zY hi,zbd hi,zW hi hl,cT];exact zhY rfl
 .simp only [zbf,cF]
 rw[zgj (zdN)];refine br (fun h0=>?_) (fun h0=>?_)
 .refine must rfl ?_
  first|rfl|(simp only [h0,znd,zc4,cT,cF]<;>rfl)|(simp_all [Ty.cells,znd,zc4];done)
 .first|rfl|(simp only [h0,znd,zc4,cT,cF]<;>rfl)|(simp_all [Ty.cells,znd,zc4];done)
theorem zOs:u3 328 zDP:=hF1 zfD zk zl zo zW5 zVx
@[simp] abbrev zy8 (p:List Ins):Bool:=true
@[simp] abbrev zm3 (p:List Ins):Bool:=zc4 p
def zDn:Run:=rF1 (dS .ins) fun b=>(zy8 b,[aB (zm3 b)])
def zJN (N:Nat)(a0:lI):OA:=
 (iter (σ:=(Int×(Int×(lI×Unit)))) N (fun r2 s3=>let y0:=(ix s3.2.2.1 s3.2.1 zq0); (cond (ilt s3.2.1 s3.1) (oN (inb s3.2.1 (ln s3.2.2.1)) (oN (zCM y0) (cond (nB (zxx y0)) oF (r2 (s3.1,((zG .i64 s3.2.1 1),(s3.2.2.1,()))))))) (oN (zbG (ln s3.2.2.1) 1 12) (some [(aB (zbW (ln s3.2.2.1) 1 12))])))) ((ln a0),(0,(a0,()))))
def zWV:FuncId->Nat->Option Tmpl:=zq [(295,0,{ n:=18,tm:=[(0,.sl 0 []),(5,.sl 0 []),(6,ti),(7,ti)],lo:=[],ro:=[(0,.ins,false)] })]
theorem zU3 (a0:List Ins)(hb:zbD big [aS .ins a0])(hc:zy8 a0=true):∃N,zJN N a0=some [aB (zm3 a0)]:=by
 have hl:(_:List _).length<=big:=((zcY hb).1 _ (qF.2 rfl)).len;refine zb8 fun N hNN=>?_;unfold zJN oN nB
 conv=>zeta
 refine (zbc a0 (fun i (t:Unit)=>((ln a0),(i:Int),a0,())) _ (fun _ x (_:Unit) κ=>bif (zdN) x then κ () else oF) (fun (t:Unit)=>(cond (zbG (ln a0) 1 12) (some [(.one (.b (zbW (ln a0) 1 12)))]) none)) (fun i hi t rec=>?_) (fun t rec=>?_) _ () (hNN hl)).trans ?_
 .simp only [zbo hi,zY hi,zbd hi,zW hi hl,cT];exact zhY rfl
 .simp only [zbf,cF]
 rw[zgj (zdN)];refine br (fun h0=>?_) (fun h0=>?_)
 .refine must rfl ?_
  first|rfl|(simp only [h0,zm3,zc4,cT,cF]<;>rfl)|(simp_all [Ty.cells,zm3,zc4];done)
 .first|rfl|(simp only [h0,zm3,zc4,cT,cF]<;>rfl)|(simp_all [Ty.cells,zm3,zc4];done)
theorem zN0:u3 295 zDn:=hF1 zfD zk zl zo zWV zU3
def zhn (c:Ctl):Bool:=ieq (ln (zkk c)) 0
@[simp] abbrev zrq (c:Ctl):Bool:=true
@[simp] abbrev zpR (c:Ctl):Bool:=zhn c
def zG8:Run:=rF1 dC fun b=>(zrq b,[aB (zpR b)])
def zQm (N:Nat)(a0:Ctl):OA:=
 (oN (zsc a0) (some [(aB (ieq (ln (zmr a0)) 0))]))
theorem zXS (a0:Ctl)(hc:zrq a0=true):∃N,zQm N a0=some [aB (zpR a0)]:=by
 refine ⟨0,?_⟩;unfold zQm oN;refine must rfl ?_
 first|rfl|(simp only [*,zpR,zhn,cT,cF]<;>rfl)|simp_all[Ty.cells,zpR,zhn]
theorem zRR:u3 281 zG8:=kF1 zfD zk zl zo (zq []) zXS
@[simp] abbrev zCL (c:Ctl):Bool:=true
@[simp] abbrev zxw (c:Ctl):Bool:=zhn c
def zGY:Run:=rF1 dC fun b=>(zCL b,[aB (zxw b)])
def zQc (N:Nat)(a0:Ctl):OA:=
 (oN (zrO a0) (some [(aB (ieq (ln (zl6 a0)) 0))]))
theorem zXH (a0:Ctl)(hc:zCL a0=true):∃N,zQc N a0=some [aB (zxw a0)]:=by
 refine ⟨0,?_⟩;unfold zQc oN;refine must rfl ?_
 first|rfl|(simp only [*,zxw,zhn,cT,cF]<;>rfl)|simp_all[Ty.cells,zxw,zhn]
theorem zRG:u3 174 zGY:=kF1 zfD zk zl zo (zq []) zXH
def zdf (p:Int):Int:=bif zcQ p then scan p else -1
theorem zP9 {x:Int}(h0:0<=x)(h1:x<=255):wcv .u64 x=x:=zC0 (P:=fun x=>wcv .u64 x=x) (by decide +kernel) h0 h1
@[simp] abbrev zsE (p:Int):Bool:=true
@[simp] abbrev zm4 (p:Int):Int:=zdf p
def zDt:Run:=rF1 dI fun b=>(zsE b,[aI (zm4 b)])
def zJT (N:Nat)(a0:Int):OA:=
 (oN (zi6 a0) (cond (nB (zi5 a0)) (some [(aI (-1))]) (oN (zlY (wcv .u64 a0)) (some [(aI (wsub .i64 (zhX (wcv .u64 a0)) 1))]))))
theorem zU9 (a0:Int)(hc:zsE a0=true):∃N,zJT N a0=some [aI (zm4 a0)]:=by
 refine ⟨0,?_⟩;unfold zJT oN nB;refine must rfl ?_;cases h:zcQ a0
 .refine must (by simp[h]) ?_
  simp[zdf,h]
 .obtain ⟨h0,h1⟩:=zfl.1 h;have r:=zC0 (P:=fun x=>-1<=scan x/\scan x<=7/\(0<=scan x->wsub .i64 x (zk0 .i64 1 (scan x))=zzV .i64 x (zk0 .i64 1 (scan x)))) zWx h0 h1;refine zcH (by simp[h]) ?_
  rw[zP9 h0 h1];refine must (zbe ⟨h0,h1⟩) ?_;have e:wsub .i64 (zhX a0) 1=scan a0:=by
   unfold zhX;rw[ztp (by omega) (by omega)];omega
  rw[e];simp[zdf,h]
theorem zN6:u3 238 zDt:=kF1 zfD zk zl zo (zq []) zU9
@[simp] abbrev zsS (p:Int):Bool:=true
@[simp] abbrev zne (p:Int):Int:=zdf p
def zDT:Run:=rF1 dI fun b=>(zsS b,[aI (zne b)])
def zKi (N:Nat)(a0:Int):OA:=
 (iter (σ:=(Int×(Int×Unit))) N (fun r2 s3=>(cond (ige s3.2.1 0) (oN (zff s3.1) (cond (zfe s3.1) (oN (ile 0 (wcv .u64 s3.2.1)) (cond (ieq (wand .i64 (zjq .i64 s3.1 (wcv .u64 s3.2.1)) 1) 1) (some [(aI s3.2.1)]) (r2 (s3.1,((wsub .i64 s3.2.1 1),()))))) (some [(aI (-1))]))) (some [(aI (-1))]))) (a0,(7,())))
def zW6:FuncId->Nat->Option Tmpl:=zq [(308,0,{ n:=19,tm:=[(0,ti),(3,ti)],lo:=[],ro:=[] })]
theorem zVB (a0:Int)(hc:zsS a0=true):∃N,zKi N a0=some [aI (zne a0)]:=by
 refine ⟨10,?_⟩;unfold zKi oN;cases h:zcQ a0
 .rw [zdq];refine must rfl ?_;refine must rfl ?_;refine zcH h ?_;simp[zdf,h]
 .have hs:zfe a0=true:=h;rw[zdq];refine must rfl (must rfl (must hs (must rfl (br (fun h7=>?_) (fun h7=>?_)))))
  .have e7:zgA a0 7=true:=h7;simp[zdf,h,scan,e7]
  have f7:zgA a0 7=false:=h7
  show iter 9 _ (a0,6,())=_
  rw[zdq];refine must rfl (must rfl (must hs (must rfl (br (fun h6=>?_) (fun h6=>?_)))))
  .have e6:zgA a0 6=true:=h6;simp[zdf,h,scan,e6,f7]
  have f6:zgA a0 6=false:=h6
  show iter 8 _ (a0,5,())=_
  rw[zdq];refine must rfl (must rfl (must hs (must rfl (br (fun h5=>?_) (fun h5=>?_)))))
  .have e5:zgA a0 5=true:=h5;simp[zdf,h,scan,e5,f7,f6]
  have f5:zgA a0 5=false:=h5
  show iter 7 _ (a0,4,())=_
  rw[zdq];refine must rfl (must rfl (must hs (must rfl (br (fun h4=>?_) (fun h4=>?_)))))
  .have e4:zgA a0 4=true:=h4;simp[zdf,h,scan,e4,f7,f6,f5]
  have f4:zgA a0 4=false:=h4
  show iter 6 _ (a0,3,())=_
  rw[zdq];refine must rfl (must rfl (must hs (must rfl (br (fun h3=>?_) (fun h3=>?_)))))
  .have e3:zgA a0 3=true:=h3;simp[zdf,h,scan,e3,f7,f6,f5,f4]
  have f3:zgA a0 3=false:=h3
  show iter 5 _ (a0,2,())=_
  rw[zdq];refine must rfl (must rfl (must hs (must rfl (br (fun h2=>?_) (fun h2=>?_)))))
  .have e2:zgA a0 2=true:=h2;simp[zdf,h,scan,e2,f7,f6,f5,f4,f3]
  have f2:zgA a0 2=false:=h2
  show iter 4 _ (a0,1,())=_
  rw[zdq];refine must rfl (must rfl (must hs (must rfl (br (fun h1=>?_) (fun h1=>?_)))))
  .have e1:zgA a0 1=true:=h1;simp[zdf,h,scan,e1,f7,f6,f5,f4,f3,f2]
  have f1:zgA a0 1=false:=h1
  show iter 3 _ (a0,0,())=_
  rw[zdq];refine must rfl (must rfl (must hs (must rfl (br (fun h0=>?_) (fun h0=>?_)))))
  .have e0:zgA a0 0=true:=h0;simp[zdf,h,scan,e0,f7,f6,f5,f4,f3,f2,f1]
  have f0:zgA a0 0=false:=h0
  show iter 2 _ (a0,-1,())=_
  rw[zdq];refine zcH rfl ?_;simp[zdf,h,scan,f7,f6,f5,f4,f3,f2,f1,f0]
theorem zOw:u3 308 zDT:=kF1 zfD zk zl zo zW6 zVB
@[simp] abbrev zfS (l:List (List Int)):Bool:=pc (SmM l)
@[simp] abbrev zdp (l:List (List Int)):List (List Int):=l
def zAB:Run:=rF1 (dS (.sl .int)) fun b=>(zfS b,[aS (.sl .int) (zdp b)])
def zF4 (N:Nat)(a0:lM):OA:=
 (iter (σ:=(Int×(Int×(lM×(lM×Unit))))) N (fun r2 s3=>let y0:=(ix s3.2.2.2.1 s3.2.1 []); (cond (ilt s3.2.1 s3.1) (oN (inb s3.2.1 (ln s3.2.2.2.1)) (oN (zdB y0) (oN (few (ln (ap s3.2.2.1 [(zdu y0)]))) (r2 (s3.1,((zG .i64 s3.2.1 1),((ap s3.2.2.1 [(zdu y0)]),(s3.2.2.2.1,())))))))) (some [(aS (.sl .int) s3.2.2.1)]))) ((ln a0),(0,([],(a0,())))))
def zTa:FuncId->Nat->Option Tmpl:=zq [(102,0,{ n:=20,tm:=[(3,.sl 0 []),(7,.sl 1 []),(8,ti),(9,ti)],lo:=[],ro:=[(0,(.sl .int),true),(1,(.sl .int),false)] })]
theorem zSk (a0:List (List Int))(hc:zfS a0=true):∃N,zF4 N a0=some [aS (.sl .int) (zdp a0)]:=by
 have hs:=zD.1 hc;have hl:=zcK hs.1;refine zb8 fun N hNN=>?_;unfold zF4 oN
 conv=>zeta
 refine (zbc a0 (fun i (t:lM)=>((ln a0),(i:Int),t,a0,())) _ (fun _ x acc κ=>bif zdB x then (cond (few (ln (ap acc [zdu x]))) (κ (ap acc [zdu x])) none) else none) (fun (t:lM)=>(some [(.one (.s (.sl .int) t))])) (fun i hi t rec=>?_) (fun t rec=>?_) _ ([]) (hNN hl.1)).trans ?_
 .simp only [zbo hi,zY hi,zbd hi,zW hi hl.1,cT]
 .simp only [zbf,cF]
 exact ziX zdB zdu _ a0 0 [] (fun x hx=>⟨by exact zbe (jB (hs.2 x hx) (by decide)),rfl⟩) (by simpa using hl.2)
theorem zLf:u3 102 zAB:=kF1 zfD zk zl zo zTa zSk
@[simp] abbrev zdv (g:Guest):Bool:=pc (SmG g)
@[simp] abbrev zck (g:Guest):Guest:=g
def zvt:Run:=rF1 (dT .guest) fun b=>(zdv b,[aT .guest (zck b)])
def zz6 (N:Nat)(a0:Guest):OA:=
 (oN (ztV a0.Prog) (oN (zgr a0.Written) (oN (zgr a0.Live) (oN (zdB a0.Seen) (some [(aT .guest ({ a0 with Prog:=(zog a0.Prog),Written:=(zeX a0.Written),Live:=(zeX a0.Live),Seen:=(zdu a0.Seen) }:Guest))])))))
theorem zL8 (a0:Guest)(hc:zdv a0=true):∃N,zz6 N a0=some [aT .guest (zck a0)]:=by
 have hs:=zD.1 hc;obtain ⟨h1,h2,h3,h4⟩:=hs;have hs1:a0.Prog.length<=2147483648:=(by omega);have hs2:a0.Written.length<=2147483648:=(by omega);have hs3:a0.Live.length<=2147483648:=(by omega);have hs4:a0.Seen.length<=2147483648:=(by omega)
 refine ⟨0,?_⟩;unfold zz6 oN;refine mu (mu (mu (mu ?_)))
 first|rfl|(simp only [*,zck,cT,cF]<;>rfl)|simp_all[Ty.cells,zck]
theorem zE4:u3 140 zvt:=kF1 zfD zk zl zo (zq []) zL8
def zdZ (t:List Slot)(p n:Int):Bool:=bif ieq (zbn t p).Page (-1) then false else (cond (enough (zbn t p).Rights n) (win n 1 3) false)
def zbV (t:List Slot)(p n:Int):Int:=bif zdZ t p n then (zbn t p).Page else -1
theorem z5W {r:Int}(h:zcy r=true):0<=r/\r<=3:=zfl.1 h
theorem z0m {a n:Int}(h:enough a n=true):win n 1 3 = !ieq n 0:=by
 unfold enough at h;cases h1:zcy a
 .rw [h1]at h;cases h
 .cases h2:zcy n
  .rw [h1,h2]at h;cases h
  .have:=z5W h2;have e:(win n 1 3=true)↔(!ieq n 0)=true:=by
    rw[zfl];simp[ieq];omega
   cases h3:win n 1 3<;>cases h4:(!ieq n 0)<;>simp_all
@[simp] abbrev zjv (t:List Slot)(p n:Int):Bool:=true
@[simp] abbrev zhw (t:List Slot)(p n:Int):Int:=zbV t p n
@[simp] abbrev zgq (t:List Slot)(p n:Int):Bool:=zdZ t p n
def zvr:Run:=rF3 (dS .slot) dI dI fun b c d=>(zjv b c d,[aI (zhw b c d),aB (zgq b c d)])
def zz4 (N:Nat)(a0:lS)(a1 a2:Int):OA:=
 let y0:=(zi7 a0 a1); (oN (zlk a0 a1) (cond (ieq y0.Page (-1)) (some [(aI (-1)),(aB false)]) (oN (zds y0.Rights a2) (cond (nB (zdT y0.Rights a2)) (some [(aI (-1)),(aB false)]) (oN (zbG a2 1 3) (cond (nB (zbW a2 1 3)) (some [(aI (-1)),(aB false)]) (some [(aI y0.Page),(aB true)])))))))
theorem zL6 (a0:List Slot)(a1 a2:Int)(hc:zjv a0 a1 a2=true):∃N,zz4 N a0 a1 a2=some [aI (zhw a0 a1 a2),aB (zgq a0 a1 a2)]:=by
 refine ⟨0,?_⟩;unfold zz4 oN nB
 conv=>zeta
 refine must rfl (br (fun _=>?_) (fun _=>must rfl (brN (fun _=>?_) (fun _=>must rfl (brN (fun _=>?_) (fun _=>?_))))))
 all_goals first|rfl|(simp only [*,zhw,zgq,zbV,zdZ,cT,cF]<;>rfl)|simp_all[Ty.cells,zhw,zgq,zbV,zdZ]
theorem zE2:u3 153 zvr:=kF3 zfD zk zl zo (zq []) zL6
@[simp] abbrev zsf (t:List Slot)(p n:Int):Bool:=true
@[simp] abbrev zjA (t:List Slot)(p n:Int):Int:=zbV t p n
@[simp] abbrev zjB (t:List Slot)(p n:Int):Bool:=zdZ t p n
def zvI:Run:=rF3 (dS .slot) dI dI fun b c d=>(zsf b c d,[aI (zjA b c d),aB (zjB b c d)])
def zAl (N:Nat)(a0:lS)(a1 a2:Int):OA:=
 let y0:=(zjh a0 a1); (oN (zo1 a0 a1) (cond (ieq y0.Page (-1)) (some [(aI (-1)),(aB false)]) (oN (zgE y0.Rights a2) (cond (nB (zhl y0.Rights a2)) (some [(aI (-1)),(aB false)]) (cond (ieq a2 0) (some [(aI (-1)),(aB false)]) (some [(aI y0.Page),(aB true)]))))))
theorem zMo (a0:List Slot)(a1 a2:Int)(hc:zsf a0 a1 a2=true):∃N,zAl N a0 a1 a2=some [aI (zjA a0 a1 a2),aB (zjB a0 a1 a2)]:=by
 have he:=@z0m (zbn a0 a1).Rights a2;refine ⟨0,?_⟩;unfold zAl oN nB
 conv=>zeta
 refine must rfl (br (fun _=>?_) (fun _=>must rfl (brN (fun _=>?_) (fun _=>br (fun _=>?_) (fun _=>?_)))))
 all_goals first|rfl|(simp only [*,zjA,zjB,zbV,zdZ,cT,cF]<;>rfl)|simp_all[Ty.cells,zjA,zjB,zbV,zdZ]
theorem zFj:u3 285 zvI:=kF3 zfD zk zl zo (zq []) zMo
def z7r:zQ:=[(297,zhq),(102,zAB),(140,zvt),(285,zvI),(153,zvr),(305,zHc),(133,zG1),(328,zDP),(295,zDn),(281,zG8),(174,zGY),(308,zDT),(238,zDt)]++z7q
theorem zfE:zI z7r:=zh znr (zh zLf (zh zE4 (zh zFj (zh zE2 (zh zRV (zh zRJ (zh zOs (zh zN0 (zh zRR (zh zRG (zh zOw (zh zN6 zfD))))))))))))
@[simp] abbrev ziJ (m:List (List Int))(p c v:Int):Bool:=pc (SmM m)
@[simp] abbrev zji (m:List (List Int))(p c v:Int):List (List Int):=zbu m p c v
def zyg:Run:=rF4 (dS (.sl .int)) dI dI dI fun b c d e=>(ziJ b c d e,[aS (.sl .int) (zji b c d e)])
def zB3 (N:Nat)(a0:lM)(a1 a2 a3:Int):OA:=
 let y0:=(zew a0); (oN (zfV a0) (oN (zsU a0 a1 a2) (cond (zpY a0 a1 a2) (oN (zK a3 0 99) (cond (zM a3 0 99) (oN (inb a1 (ln y0)) (oN (inb a2 (ln (ix y0 a1 []))) (share (up y0 a1 (up (ix y0 a1 []) a2 a3)) (fun x5=>(some [(aS (.sl .int) x5)]))))) (some [(aS (.sl .int) y0)]))) (some [(aS (.sl .int) y0)]))))
theorem zPo (a0:List (List Int))(a1 a2 a3:Int)(hc:ziJ a0 a1 a2 a3=true):∃N,zB3 N a0 a1 a2 a3=some [aS (.sl .int) (zji a0 a1 a2 a3)]:=by
 have hs:=zD.1 hc;have hm:=(zzq a0 a1 a2).1
 refine ⟨0,?_⟩;unfold zB3 oN
 conv=>zeta
 refine mu (must rfl (br (fun _=>must rfl (br (fun _=>mu (mu (shr ?_))) (fun _=>?_))) (fun _=>?_)))
 all_goals first|rfl|(simp only [*,zji,zbu,cT,cF]<;>rfl)|simp_all[Ty.cells,zji,zbu]
theorem zIA:u3 219 zyg:=kF4 zfE zk zl zo (zq []) zPo
@[simp] abbrev zkv (m:List (List Int))(p c v:Int):Bool:=pc (SmM m)
@[simp] abbrev zlm (m:List (List Int))(p c v:Int):List (List Int):=zbu m p c v
def zxQ:Run:=rF4 (dS (.sl .int)) dI dI dI fun b c d e=>(zkv b c d e,[aS (.sl .int) (zlm b c d e)])
def zBC (N:Nat)(a0:lM)(a1 a2 a3:Int):OA:=
 let y0:=(aS (.sl .int) (zdp a0)); (oN (zfS a0) (oN (zcr a1 (ln a0)) (cond (zcX a1 (ln a0)) (oN (inb a1 (ln a0)) (oN (zcr a2 (ln (ix a0 a1 []))) (cond (zcX a2 (ln (ix a0 a1 []))) (oN (zbG a3 0 99) (cond (zbW a3 0 99) (oN (inb a1 (ln (zdp a0))) (oN (inb a2 (ln (ix (zdp a0) a1 []))) (share (up (zdp a0) a1 (up (ix (zdp a0) a1 []) a2 a3)) (fun x5=>(some [(aS (.sl .int) x5)]))))) (some [y0]))) (some [y0])))) (some [y0]))))
theorem zOV (a0:List (List Int))(a1 a2 a3:Int)(hc:zkv a0 a1 a2 a3=true):∃N,zBC N a0 a1 a2 a3=some [aS (.sl .int) (zlm a0 a1 a2 a3)]:=by
 have hs:=zD.1 hc;refine ⟨0,?_⟩;unfold zBC oN
 conv=>zeta
 refine mu (must rfl (br (fun _=>mu (must rfl (br (fun _=>must rfl (br (fun _=>mu (mu (shr ?_))) (fun _=>?_))) (fun _=>?_)))) (fun _=>?_)))
 all_goals first|rfl|(simp only [*,zlm,zbu,zfz,cT,cF]<;>rfl)|simp_all[Ty.cells,zlm,zbu,zfz]
theorem zH9:u3 64 zxQ:=kF4 zfE zk zl zo (zq []) zOV
def zfM (g:Guest):Bool:=bif canRun g then (cond g.Ctl.Open (ige (zdf g.Pending) 0) false) else false
@[simp] abbrev zo2 (g:Guest):Bool:=true
@[simp] abbrev zlL (g:Guest):Bool:=zfM g
def zyf:Run:=rF1 (dT .guest) fun b=>(zo2 b,[aB (zlL b)])
def zB2 (N:Nat)(a0:Guest):OA:=
 (oN (zsL a0) (cond (zpP a0) (cond a0.Ctl.Open (oN (zsS a0.Pending) (some [(aB (ige (zne a0.Pending) 0))])) oF) oF))
theorem zPn (a0:Guest)(hc:zo2 a0=true):∃N,zB2 N a0=some [aB (zlL a0)]:=by
 refine ⟨0,?_⟩;unfold zB2 oN;refine must rfl (br (fun _=>br (fun _=>must rfl ?_) (fun _=>?_)) (fun _=>?_))
 all_goals first|rfl|(simp only [*,zlL,zfM,cT,cF]<;>rfl)|simp_all[Ty.cells,zlL,zfM]
theorem zIz:u3 259 zyf:=kF1 zfE zk zl zo (zq []) zPn
@[simp] abbrev zof (g:Guest):Bool:=true
@[simp] abbrev zll (g:Guest):Bool:=zfM g
def zxP:Run:=rF1 (dT .guest) fun b=>(zof b,[aB (zll b)])
def zBB (N:Nat)(a0:Guest):OA:=
 (oN (zsz a0) (cond (zps a0) (cond a0.Ctl.Open (oN (zsE a0.Pending) (some [(aB (ige (zm4 a0.Pending) 0))])) oF) oF))
theorem zOU (a0:Guest)(hc:zof a0=true):∃N,zBB N a0=some [aB (zll a0)]:=by
 refine ⟨0,?_⟩;unfold zBB oN;refine must rfl (br (fun _=>br (fun _=>must rfl ?_) (fun _=>?_)) (fun _=>?_))
 all_goals first|rfl|(simp only [*,zll,zfM,cT,cF]<;>rfl)|simp_all[Ty.cells,zll,zfM]
theorem zH8:u3 137 zxP:=kF1 zfE zk zl zo (zq []) zOU
def zgY (p:Int):Int:=bif ilt (zdf p) 0 then p else wsub .i64 p (zk0 .i64 1 (zdf p))
def zmg (p:Int):Int:=bif ilt (zdf p) 0 then -1 else zdf p
theorem zRy {p:Int}(h:ilt (zdf p) 0=false):wcv .u64 (zdf p)=zdf p/\ile 0 (zdf p)=true/\zzV .i64 p (zk0 .i64 1 (zdf p))=wsub .i64 p (zk0 .i64 1 (zdf p)):=by
 unfold zdf at *;cases h1:zcQ p
 .rw [h1]at h;cases h
 .simp only [h1,cT]at h ⊢;obtain ⟨h0,h2⟩:=zfl.1 h1;have r:=zC0 (P:=fun x=>-1<=scan x/\scan x<=7/\(0<=scan x->wsub .i64 x (zk0 .i64 1 (scan x))=zzV .i64 x (zk0 .i64 1 (scan x)))) zWx h0 h2;have h3:0<=scan p:=by
   unfold ilt at h;have:=jP h;omega
  exact ⟨zP9 h3 (by omega),qJ h3,(r.2.2 h3).symm⟩
@[simp] abbrev zqR (p:Int):Bool:=true
@[simp] abbrev zjY (p:Int):Int:=zgY p
@[simp] abbrev zjZ (p:Int):Int:=zmg p
@[simp] abbrev zmy (p:Int):Bool:=!ilt (zdf p) 0
def zAX:Run:=rF1 dI fun b=>(zqR b,[aI (zjY b),aI (zjZ b),aB (zmy b)])
def zGt (N:Nat)(a0:Int):OA:=
 (oN (zsS a0) (cond (ilt (zne a0) 0) (some [(aI a0),(aI (-1)),(aB false)]) (oN (ile 0 (wcv .u64 (zne a0))) (some [(aI (wsub .i64 a0 (zk0 .i64 1 (wcv .u64 (zne a0))))),(aI (zne a0)),(aB true)]))))
theorem zSK (a0:Int)(hc:zqR a0=true):∃N,zGt N a0=some [aI (zjY a0),aI (zjZ a0),aB (zmy a0)]:=by
 have ht:=@zRy a0;refine ⟨0,?_⟩;unfold zGt oN;refine must rfl (br (fun _=>?_) (fun _=>mu ?_))
 all_goals first|rfl|(simp only [*,zjY,zjZ,zmy,zgY,zmg,cT,cF]<;>rfl)|simp_all[Ty.cells,zjY,zjZ,zmy,zgY,zmg]
theorem zLB:u3 262 zAX:=kF1 zfE zk zl zo (zq []) zSK
@[simp] abbrev zwA (p:Int):Bool:=true
@[simp] abbrev zmd (p:Int):Int:=zgY p
@[simp] abbrev zme (p:Int):Int:=zmg p
@[simp] abbrev zql (p:Int):Bool:=!ilt (zdf p) 0
def zAA:Run:=rF1 dI fun b=>(zwA b,[aI (zmd b),aI (zme b),aB (zql b)])
def zF3 (N:Nat)(a0:Int):OA:=
 (oN (zsE a0) (cond (ilt (zm4 a0) 0) (some [(aI a0),(aI (-1)),(aB false)]) (oN (ile 0 (zm4 a0)) (some [(aI (zzV .i64 a0 (zk0 .i64 1 (zm4 a0)))),(aI (zm4 a0)),(aB true)]))))
theorem zSj (a0:Int)(hc:zwA a0=true):∃N,zF3 N a0=some [aI (zmd a0),aI (zme a0),aB (zql a0)]:=by
 have ht:=@zRy a0;refine ⟨0,?_⟩;unfold zF3 oN;refine must rfl (br (fun _=>?_) (fun _=>mu ?_))
 all_goals first|rfl|(simp only [*,zmd,zme,zql,zgY,zmg,cT,cF]<;>rfl)|simp_all[Ty.cells,zmd,zme,zql,zgY,zmg]
theorem zLe:u3 178 zAA:=kF1 zfE zk zl zo (zq []) zSj
def saw (g:Guest)(n:Int):Guest:=bif ilt (ln g.Seen) 40 then { g with Seen:=ap g.Seen [n] } else g
@[simp] theorem zES {g:Guest}(n:Int)(h:SmG g):SmG (saw g n):=by
 unfold saw;cases h1:ilt (ln g.Seen) 40
 .exact h
 .have:=qD h1;refine ⟨h.1,h.2.1,h.2.2.1,?_⟩;simp[ln] at *;omega
@[simp] abbrev zEP (g:Guest)(n:Int):Bool:=pc (SmG g)
@[simp] abbrev zzF (g:Guest)(n:Int):Guest:=saw g n
def zRq:Run:=rF2 (dT .guest) dI fun b c=>(zEP b c,[aT .guest (zzF b c)])
def zYR (N:Nat)(a0:Guest)(a1:Int):OA:=
 (oN (zdi a0) (cond (ilt (ln (zcR a0).Seen) 40) (oN (few (ln (ap (zcR a0).Seen [a1]))) (some [(aT .guest ({ (zcR a0) with Seen:=(ap (zcR a0).Seen [a1]) }:Guest))])) (some [(aT .guest (zcR a0))])))
theorem z3l (a0:Guest)(a1:Int)(hc:zEP a0 a1=true):∃N,zYR N a0 a1=some [aT .guest (zzF a0 a1)]:=by
 have hs:=zD.1 hc;have hz:a0.Seen.length<=1048576:=hs.2.2.2
 refine ⟨0,?_⟩;unfold zYR oN;refine mu (br (fun _=>mu ?_) (fun _=>?_))
 all_goals first|rfl|(simp only [*,zzF,saw,cT,cF]<;>rfl)|simp_all[Ty.cells,zzF,saw]
theorem zXG:u3 263 zRq:=kF2 zfE zk zl zo (zq []) z3l
@[simp] abbrev zEG (g:Guest)(n:Int):Bool:=pc (SmG g)
@[simp] abbrev zy9 (g:Guest)(n:Int):Guest:=saw g n
def zRm:Run:=rF2 (dT .guest) dI fun b c=>(zEG b c,[aT .guest (zy9 b c)])
def zYN (N:Nat)(a0:Guest)(a1:Int):OA:=
 (oN (zdv a0) (cond (ilt (ln a0.Seen) 40) (oN (few (ln (ap (zck a0).Seen [a1]))) (some [(aT .guest ({ (zck a0) with Seen:=(ap (zck a0).Seen [a1]) }:Guest))])) (some [(aT .guest (zck a0))])))
theorem z3h (a0:Guest)(a1:Int)(hc:zEG a0 a1=true):∃N,zYN N a0 a1=some [aT .guest (zy9 a0 a1)]:=by
 have hs:=zD.1 hc;have hz:a0.Seen.length<=1048576:=hs.2.2.2
 refine ⟨0,?_⟩;unfold zYN oN;refine mu (br (fun _=>mu ?_) (fun _=>?_))
 all_goals first|rfl|(simp only [*,zy9,saw,cT,cF]<;>rfl)|simp_all[Ty.cells,zy9,saw]
theorem zXC:u3 142 zRm:=kF2 zfE zk zl zo (zq []) z3h
def stopped (g:Guest)(e:GExit):Guest:={ g with Exit:=e }
@[simp] theorem zbaI {g:Guest}(e:GExit)(h:SmG g):SmG (stopped g e):=h
@[simp] abbrev zee (g:Guest)(e:GExit):Bool:=pc (SmG g)
@[simp] abbrev zdI (g:Guest)(e:GExit):Guest:=stopped g e
def zAV:Run:=rF2 (dT .guest) dE fun b c=>(zee b c,[aT .guest (zdI b c)])
def zGr (N:Nat)(a0:Guest)(a1:GExit):OA:=
 (oN (zdi a0) (some [(aT .guest ({ (zcR a0) with Exit:=a1 }:Guest))]))
theorem zSI (a0:Guest)(a1:GExit)(hc:zee a0 a1=true):∃N,zGr N a0 a1=some [aT .guest (zdI a0 a1)]:=by
 have hs:=zD.1 hc;refine ⟨0,?_⟩;unfold zGr oN;refine mu ?_
 first|rfl|(simp only [*,zdI,stopped,cT,cF]<;>rfl)|simp_all[Ty.cells,zdI,stopped]
theorem zLz:u3 267 zAV:=kF2 zfE zk zl zo (zq []) zSI
@[simp] abbrev zfR (g:Guest)(e:GExit):Bool:=pc (SmG g)
@[simp] abbrev zf8 (g:Guest)(e:GExit):Guest:=stopped g e
def zAy:Run:=rF2 (dT .guest) dE fun b c=>(zfR b c,[aT .guest (zf8 b c)])
def zF1 (N:Nat)(a0:Guest)(a1:GExit):OA:=
 (oN (zdv a0) (some [(aT .guest ({ (zck a0) with Exit:=a1 }:Guest))]))
theorem zSh (a0:Guest)(a1:GExit)(hc:zfR a0 a1=true):∃N,zF1 N a0 a1=some [aT .guest (zf8 a0 a1)]:=by
 have hs:=zD.1 hc;refine ⟨0,?_⟩;unfold zF1 oN;refine mu ?_
 first|rfl|(simp only [*,zf8,stopped,cT,cF]<;>rfl)|simp_all[Ty.cells,zf8,stopped]
theorem zLc:u3 62 zAy:=kF2 zfE zk zl zo (zq []) zSh
def zbJ (g:Guest):Guest:=bif ige g.Pc 12 then { g with Pc:=12 } else { g with Pc:=zG .i64 g.Pc 1 }
@[simp] theorem zkY {g:Guest}(h:SmG g):SmG (zbJ g):=by
 unfold zbJ;cases ige g.Pc 12<;>exact h
@[simp] abbrev zea (g:Guest):Bool:=pc (SmG g)
@[simp] abbrev zgm (g:Guest):Guest:=zbJ g
def zHe:Run:=rF1 (dT .guest) fun b=>(zea b,[aT .guest (zgm b)])
def zQs (N:Nat)(a0:Guest):OA:=
 (oN (zdi a0) (cond (ige (zcR a0).Pc 12) (some [(aT .guest ({ (zcR a0) with Pc:=12 }:Guest))]) (some [(aT .guest ({ (zcR a0) with Pc:=(zG .i64 (zcR a0).Pc 1) }:Guest))])))
theorem zXY (a0:Guest)(hc:zea a0=true):∃N,zQs N a0=some [aT .guest (zgm a0)]:=by
 have hs:=zD.1 hc;refine ⟨0,?_⟩;unfold zQs oN;refine mu (br (fun _=>?_) (fun _=>?_))
 all_goals first|rfl|(simp only [*,zgm,zbJ,cT,cF]<;>rfl)|simp_all[Ty.cells,zgm,zbJ]
theorem zRX:u3 264 zHe:=kF1 zfE zk zl zo (zq []) zXY
@[simp] abbrev zev (g:Guest):Bool:=pc (SmG g)
@[simp] abbrev zeh (g:Guest):Guest:=zbJ g
def zG4:Run:=rF1 (dT .guest) fun b=>(zev b,[aT .guest (zeh b)])
def zQi (N:Nat)(a0:Guest):OA:=
 (oN (zdv a0) (cond (ige a0.Pc 12) (some [(aT .guest ({ (zck a0) with Pc:=12 }:Guest))]) (some [(aT .guest ({ (zck a0) with Pc:=(zG .i64 a0.Pc 1) }:Guest))])))
theorem zXN (a0:Guest)(hc:zev a0=true):∃N,zQi N a0=some [aT .guest (zeh a0)]:=by
 have hs:=zD.1 hc;refine ⟨0,?_⟩;unfold zQi oN;refine mu (br (fun _=>?_) (fun _=>?_))
 all_goals first|rfl|(simp only [*,zeh,zbJ,cT,cF]<;>rfl)|simp_all[Ty.cells,zeh,zbJ]
theorem zRM:u3 141 zG4:=kF1 zfE zk zl zo (zq []) zXN
def z7s:zQ:=[(219,zyg),(64,zxQ),(259,zyf),(137,zxP),(262,zAX),(178,zAA),(263,zRq),(142,zRm),(267,zAV),(62,zAy),(264,zHe),(141,zG4)]++z7r
theorem zes:zI z7s:=zh zIA (zh zH9 (zh zIz (zh zH8 (zh zLB (zh zLe (zh zXG (zh zXC (zh zLz (zh zLc (zh zRX (zh zRM zfE)))))))))))
def interrupted (g:Guest):Guest:=bif zfM g then saw { g with Pending:=zgY g.Pending } (zG .i64 100 (zmg g.Pending)) else g
@[simp] theorem zZy {g:Guest}(h:SmG g):SmG (interrupted g):=by
 unfold interrupted;cases zfM g
 .exact h
 .exact zES (g:={ g with Pending:=zgY g.Pending }) _ h
@[simp] abbrev zoV (g:Guest):Bool:=pc (SmG g)
@[simp] abbrev zjz (g:Guest):Guest:=interrupted g
def zsr:Run:=rF1 (dT .guest) fun b=>(zoV b,[aT .guest (zjz b)])
def zuU (N:Nat)(a0:Guest):OA:=
 let y1:=(zG .i64 100 (zjZ a0.Pending));let y0:=({ a0 with Pending:=(zjY a0.Pending) }:Guest); (oN (zo2 a0) (cond (nB (zlL a0)) (oN (zdi a0) (some [(aT .guest (zcR a0))])) (oN (zqR a0.Pending) (oN (zEP y0 y1) (some [(aT .guest (zzF y0 y1))])))))
theorem zFF (a0:Guest)(hc:zoV a0=true):∃N,zuU N a0=some [aT .guest (zjz a0)]:=by
 have hs:=zD.1 hc;have hz:_/\_/\_/\_:=hs
 refine ⟨0,?_⟩;unfold zuU oN nB
 conv=>zeta
 refine must rfl (brN (fun _=>mu ?_) (fun _=>must rfl (mu ?_)))
 all_goals first|rfl|(simp only [*,zjz,interrupted,cT,cF]<;>rfl)|simp_all[Ty.cells,zjz,interrupted]
theorem zBr:u3 201 zsr:=kF1 zes zk zl zo (zq []) zFF
@[simp] abbrev zn9 (g:Guest):Bool:=pc (SmG g)
@[simp] abbrev zhv (g:Guest):Guest:=interrupted g
def zso:Run:=rF1 (dT .guest) fun b=>(zn9 b,[aT .guest (zhv b)])
def zuJ (N:Nat)(a0:Guest):OA:=
 let y1:=(zG .i64 100 (zme a0.Pending));let y0:=({ a0 with Pending:=(zmd a0.Pending) }:Guest); (oN (zof a0) (cond (nB (zll a0)) (oN (zdv a0) (some [(aT .guest (zck a0))])) (oN (zwA a0.Pending) (oN (zEG y0 y1) (some [(aT .guest (zy9 y0 y1))])))))
theorem zFu (a0:Guest)(hc:zn9 a0=true):∃N,zuJ N a0=some [aT .guest (zhv a0)]:=by
 have hs:=zD.1 hc;have hz:_/\_/\_/\_:=hs
 refine ⟨0,?_⟩;unfold zuJ oN nB
 conv=>zeta
 refine must rfl (brN (fun _=>mu ?_) (fun _=>must rfl (mu ?_)))
 all_goals first|rfl|(simp only [*,zhv,interrupted,cT,cF]<;>rfl)|simp_all[Ty.cells,zhv,interrupted]
theorem zBh:u3 151 zso:=kF1 zes zk zl zo (zq []) zFu
def zrm (o:Int):Int:=bif ieq o 3 then 3 else (cond (ieq o 4) 4 (cond (ieq o 5) 5 (cond (ieq o 6) 6 (cond (ieq o 7) 7 2))))
def zF (g:Guest):Int:=bif canRun g then (cond (zfM g) 1 (zrm (zbY g.Prog g.Pc).Op)) else 0
@[simp] abbrev zeJ (g:Guest):Bool:=true
@[simp] abbrev znf (g:Guest):Int:=zF g
def zDV:Run:=rF1 (dT .guest) fun b=>(zeJ b,[aI (znf b)])
def zKk (N:Nat)(a0:Guest):OA:=
 let y0:=(zfK a0.Prog a0.Pc).Op; (oN (zsL a0) (cond (nB (zpP a0)) (some [(aI 0)]) (oN (zo2 a0) (cond (zlL a0) (some [(aI 1)]) (oN (zfs a0.Prog a0.Pc) (cond (ieq y0 3) (some [(aI 3)]) (cond (ieq y0 4) (some [(aI 4)]) (cond (ieq y0 5) (some [(aI 5)]) (cond (ieq y0 6) (some [(aI 6)]) (cond (ieq y0 7) (some [(aI 7)]) (some [(aI 2)])))))))))))
theorem zVD (a0:Guest)(hc:zeJ a0=true):∃N,zKk N a0=some [aI (znf a0)]:=by
 refine ⟨0,?_⟩;unfold zKk oN nB
 conv=>zeta
 refine must rfl (brN (fun _=>?_) (fun _=>must rfl (br (fun _=>?_) (fun _=>must rfl (br (fun _=>?_) (fun _=>br (fun _=>?_) (fun _=>br (fun _=>?_) (fun _=>br (fun _=>?_) (fun _=>br (fun _=>?_) (fun _=>?_))))))))))
 all_goals first|rfl|(simp only [*,znf,zF,zrm,cT,cF]<;>rfl)|simp_all[Ty.cells,znf,zF,zrm]
theorem zb4:u3 200 zDV:=kF1 zes zk zl zo (zq []) zVD
@[simp] abbrev zi8 (g:Guest):Bool:=true
@[simp] abbrev zhe (g:Guest):Int:=zF g
def zDv:Run:=rF1 (dT .guest) fun b=>(zi8 b,[aI (zhe b)])
def zJV (N:Nat)(a0:Guest):OA:=
 let y0:=(zgk a0.Prog a0.Pc).Op; (oN (zsz a0) (cond (nB (zps a0)) (some [(aI 0)]) (oN (zof a0) (cond (zll a0) (some [(aI 1)]) (oN (zf7 a0.Prog a0.Pc) (cond (ieq y0 3) (some [(aI 3)]) (cond (ieq y0 4) (some [(aI 4)]) (cond (ieq y0 5) (some [(aI 5)]) (cond (ieq y0 6) (some [(aI 6)]) (cond (ieq y0 7) (some [(aI 7)]) (some [(aI 2)])))))))))))
theorem zVb (a0:Guest)(hc:zi8 a0=true):∃N,zJV N a0=some [aI (zhe a0)]:=by
 refine ⟨0,?_⟩;unfold zJV oN nB
 conv=>zeta
 refine must rfl (brN (fun _=>?_) (fun _=>must rfl (br (fun _=>?_) (fun _=>must rfl (br (fun _=>?_) (fun _=>br (fun _=>?_) (fun _=>br (fun _=>?_) (fun _=>br (fun _=>?_) (fun _=>br (fun _=>?_) (fun _=>?_))))))))))
 all_goals first|rfl|(simp only [*,zhe,zF,zrm,cT,cF]<;>rfl)|simp_all[Ty.cells,zhe,zF,zrm]
theorem zN8:u3 57 zDv:=kF1 zes zk zl zo (zq []) zVb
def held (g:Guest):Guest:=zbJ { g with Halted:=true }
@[simp] theorem zWC {g:Guest}(h:SmG g):SmG (held g):=zkY (g:={ g with Halted:=true }) h
@[simp] abbrev znc (g:Guest):Bool:=pc (SmG g)
@[simp] abbrev zyo (g:Guest):Guest:=held g
def zMR:Run:=rF1 (dT .guest) fun b=>(znc b,[aT .guest (zyo b)])
def zTJ (N:Nat)(a0:Guest):OA:=
 let y0:=({ a0 with Halted:=true }:Guest); (oN (zea y0) (some [(aT .guest (zgm y0))]))
theorem z0S (a0:Guest)(hc:znc a0=true):∃N,zTJ N a0=some [aT .guest (zyo a0)]:=by
 have hs:=zD.1 hc;have hz:_/\_/\_/\_:=hs
 refine ⟨0,?_⟩;unfold zTJ oN
 conv=>zeta
 refine mu ?_
 first|rfl|(simp only [*,zyo,held,cT,cF]<;>rfl)|simp_all[Ty.cells,zyo,held]
theorem zUD:u3 279 zMR:=kF1 zes zk zl zo (zq []) z0S
@[simp] abbrev zm1 (g:Guest):Bool:=pc (SmG g)
@[simp] abbrev zmb (g:Guest):Guest:=held g
def zMO:Run:=rF1 (dT .guest) fun b=>(zm1 b,[aT .guest (zmb b)])
def zTF (N:Nat)(a0:Guest):OA:=
 let y0:=({ a0 with Halted:=true }:Guest); (oN (zev y0) (some [(aT .guest (zeh y0))]))
theorem z0N (a0:Guest)(hc:zm1 a0=true):∃N,zTF N a0=some [aT .guest (zmb a0)]:=by
 have hs:=zD.1 hc;have hz:_/\_/\_/\_:=hs
 refine ⟨0,?_⟩;unfold zTF oN
 conv=>zeta
 refine mu ?_
 first|rfl|(simp only [*,zmb,held,cT,cF]<;>rfl)|simp_all[Ty.cells,zmb,held]
theorem zUy:u3 146 zMO:=kF1 zes zk zl zo (zq []) z0N
@[simp] abbrev zzG (g:Guest):Bool:=pc (SmG g)
@[simp] abbrev zuy (g:Guest):Guest:=zbJ g
def zDS:Run:=rF1 (dT .guest) fun b=>(zzG b,[aT .guest (zuy b)])
def zKh (N:Nat)(a0:Guest):OA:=
 (oN (zea a0) (some [(aT .guest (zgm a0))]))
theorem zVA (a0:Guest)(hc:zzG a0=true):∃N,zKh N a0=some [aT .guest (zuy a0)]:=by
 have hs:=zD.1 hc;refine ⟨0,?_⟩;unfold zKh oN;refine mu ?_
 first|rfl|(simp only [*,zuy,cT,cF]<;>rfl)|simp_all[Ty.cells,zuy]
theorem zOv:u3 269 zDS:=kF1 zes zk zl zo (zq []) zVA
@[simp] abbrev zoe (g:Guest):Bool:=pc (SmG g)
@[simp] abbrev zkt (g:Guest):Guest:=zbJ g
def zDs:Run:=rF1 (dT .guest) fun b=>(zoe b,[aT .guest (zkt b)])
def zJS (N:Nat)(a0:Guest):OA:=
 (oN (zev a0) (some [(aT .guest (zeh a0))]))
theorem zU8 (a0:Guest)(hc:zoe a0=true):∃N,zJS N a0=some [aT .guest (zkt a0)]:=by
 have hs:=zD.1 hc;refine ⟨0,?_⟩;unfold zJS oN;refine mu ?_
 first|rfl|(simp only [*,zkt,cT,cF]<;>rfl)|simp_all[Ty.cells,zkt]
theorem zN5:u3 66 zDs:=kF1 zes zk zl zo (zq []) zU8
def loaded (g:Guest)(v:Int):Guest:=zbJ (saw { g with A:=v } v)
@[simp] theorem zM2 {g:Guest}(v:Int)(h:SmG g):SmG (loaded g v):=zkY (zES (g:={ g with A:=v }) v h)
@[simp] abbrev zzA (g:Guest)(v:Int):Bool:=pc (SmG g)
@[simp] abbrev zuv (g:Guest)(v:Int):Guest:=loaded g v
def zDH:Run:=rF2 (dT .guest) dI fun b c=>(zzA b c,[aT .guest (zuv b c)])
def zJ7 (N:Nat)(a0:Guest)(a1:Int):OA:=
 let y0:=({ a0 with A:=a1 }:Guest); (oN (zEP y0 a1) (oN (zea (zzF y0 a1)) (some [(aT .guest (zgm (zzF y0 a1)))])))
theorem zVo (a0:Guest)(a1:Int)(hc:zzA a0 a1=true):∃N,zJ7 N a0 a1=some [aT .guest (zuv a0 a1)]:=by
 have hs:=zD.1 hc;have hz:_/\_/\_/\_:=hs;have hk:SmG (saw { a0 with A:=a1 } a1):=zES (g:={ a0 with A:=a1 }) a1 hs
 refine ⟨0,?_⟩;unfold zJ7 oN
 conv=>zeta
 refine mu (mu ?_)
 first|rfl|(simp only [*,zuv,loaded,cT,cF]<;>rfl)|simp_all[Ty.cells,zuv,loaded]
theorem zOk:u3 270 zDH:=kF2 zes zk zl zo (zq []) zVo
@[simp] abbrev zoa (g:Guest)(v:Int):Bool:=pc (SmG g)
@[simp] abbrev zkr (g:Guest)(v:Int):Guest:=loaded g v
def zDf:Run:=rF2 (dT .guest) dI fun b c=>(zoa b c,[aT .guest (zkr b c)])
def zJG (N:Nat)(a0:Guest)(a1:Int):OA:=
 let y0:=({ a0 with A:=a1 }:Guest); (oN (zEG y0 a1) (oN (zev (zy9 y0 a1)) (some [(aT .guest (zeh (zy9 y0 a1)))])))
theorem zUV (a0:Guest)(a1:Int)(hc:zoa a0 a1=true):∃N,zJG N a0 a1=some [aT .guest (zkr a0 a1)]:=by
 have hs:=zD.1 hc;have hz:_/\_/\_/\_:=hs;have hk:SmG (saw { a0 with A:=a1 } a1):=zES (g:={ a0 with A:=a1 }) a1 hs
 refine ⟨0,?_⟩;unfold zJG oN
 conv=>zeta
 refine mu (mu ?_)
 first|rfl|(simp only [*,zkr,loaded,cT,cF]<;>rfl)|simp_all[Ty.cells,zkr,loaded]
theorem zNS:u3 67 zDf:=kF2 zes zk zl zo (zq []) zUV
def zp6 (g:Guest)(w:Int):Guest:=bif ieq w 5 then stopped g (ztk (zbY g.Prog g.Pc).X) else stopped g ⟨4,0,false,0⟩
@[simp] theorem zbaJ {g:Guest}(w:Int)(h:SmG g):SmG (zp6 g w):=by
 unfold zp6;cases ieq w 5<;>exact h
@[simp] abbrev zmf (g:Guest)(w:Int):Bool:=pc (SmG g)
@[simp] abbrev ziQ (g:Guest)(w:Int):Guest:=zp6 g w
def zAD:Run:=rF2 (dT .guest) dI fun b c=>(zmf b c,[aT .guest (ziQ b c)])
def zF6 (N:Nat)(a0:Guest)(a1:Int):OA:=
 let y0:=(zgk a0.Prog a0.Pc).X; (cond (ieq a1 5) (oN (zf7 a0.Prog a0.Pc) (oN (zwx y0) (oN (zfR a0 (zns y0)) (some [(aT .guest (zf8 a0 (zns y0)))])))) (oN (zfR a0 (⟨4,0,false,0⟩:GExit)) (some [(aT .guest (zf8 a0 (⟨4,0,false,0⟩:GExit)))])))
theorem zSm (a0:Guest)(a1:Int)(hc:zmf a0 a1=true):∃N,zF6 N a0 a1=some [aT .guest (ziQ a0 a1)]:=by
 have hs:=zD.1 hc;refine ⟨0,?_⟩;unfold zF6 oN
 conv=>zeta
 refine br (fun _=>must rfl (must rfl (mu ?_))) (fun _=>mu ?_)
 all_goals first|rfl|(simp only [*,ziQ,zp6,cT,cF]<;>rfl)|simp_all[Ty.cells,ziQ,zp6]
theorem zLh:u3 145 zAD:=kF2 zes zk zl zo (zq []) zSm
def zcU (g:Guest):Bool:=zc4 g.Prog&&(win g.A 0 99&&(win g.Pc 0 12&&(zcF g.Written 4 8&&(zcF g.Live 4 8&&(zhn g.Ctl&&(zcQ g.Pending&&(zhb g.Exit&&ile (ln g.Seen) 40)))))))
@[simp] abbrev zmt (g:Guest):Bool:=true
@[simp] abbrev zkK (g:Guest):Bool:=zcU g
def zAG:Run:=rF1 (dT .guest) fun b=>(zmt b,[aB (zkK b)])
def zGd (N:Nat)(a0:Guest):OA:=
 (oN (zzE a0.Prog) (cond (znd a0.Prog) (oN (zK a0.A 0 99) (cond (zM a0.A 0 99) (oN (zK a0.Pc 0 12) (cond (zM a0.Pc 0 12) (oN (zmx a0.Written 4 8) (cond (zhR a0.Written 4 8) (oN (zmx a0.Live 4 8) (cond (zhR a0.Live 4 8) (oN (zrq a0.Ctl) (cond (zpR a0.Ctl) (oN (zff a0.Pending) (cond (zfe a0.Pending) (oN (zzy a0.Exit) (cond (zuo a0.Exit) (some [(aB (ile (ln a0.Seen) 40))]) oF)) oF)) oF)) oF)) oF)) oF)) oF)) oF))
theorem zSt (a0:Guest)(hc:zmt a0=true):∃N,zGd N a0=some [aB (zkK a0)]:=by
 refine ⟨0,?_⟩;unfold zGd oN;refine must rfl (br (fun _=>must rfl (br (fun _=>must rfl (br (fun _=>must rfl (br (fun _=>must rfl (br (fun _=>must rfl (br (fun _=>must rfl (br (fun _=>must rfl (br (fun _=>?_) (fun _=>?_))) (fun _=>?_))) (fun _=>?_))) (fun _=>?_))) (fun _=>?_))) (fun _=>?_))) (fun _=>?_))) (fun _=>?_))
 all_goals first|rfl|(simp only [*,zkK,zcU,cT,cF]<;>rfl)|simp_all[Ty.cells,zkK,zcU]
theorem zLk:u3 314 zAG:=kF1 zes zk zl zo (zq []) zSt
@[simp] abbrev zma (g:Guest):Bool:=true
@[simp] abbrev zkq (g:Guest):Bool:=zcU g
def zAt:Run:=rF1 (dT .guest) fun b=>(zma b,[aB (zkq b)])
def zFW (N:Nat)(a0:Guest):OA:=
 (oN (zy8 a0.Prog) (cond (zm3 a0.Prog) (oN (zbG a0.A 0 99) (cond (zbW a0.A 0 99) (oN (zbG a0.Pc 0 12) (cond (zbW a0.Pc 0 12) (oN (zmc a0.Written 4 8) (cond (zhL a0.Written 4 8) (oN (zmc a0.Live 4 8) (cond (zhL a0.Live 4 8) (oN (zCL a0.Ctl) (cond (zxw a0.Ctl) (oN (zi6 a0.Pending) (cond (zi5 a0.Pending) (oN (zy2 a0.Exit) (cond (ztN a0.Exit) (some [(aB (ile (ln a0.Seen) 40))]) oF)) oF)) oF)) oF)) oF)) oF)) oF)) oF))
theorem zSc (a0:Guest)(hc:zma a0=true):∃N,zFW N a0=some [aB (zkq a0)]:=by
 refine ⟨0,?_⟩;unfold zFW oN;refine must rfl (br (fun _=>must rfl (br (fun _=>must rfl (br (fun _=>must rfl (br (fun _=>must rfl (br (fun _=>must rfl (br (fun _=>must rfl (br (fun _=>must rfl (br (fun _=>?_) (fun _=>?_))) (fun _=>?_))) (fun _=>?_))) (fun _=>?_))) (fun _=>?_))) (fun _=>?_))) (fun _=>?_))) (fun _=>?_))
 all_goals first|rfl|(simp only [*,zkq,zcU,cT,cF]<;>rfl)|simp_all[Ty.cells,zkq,zcU]
theorem zK7:u3 237 zAt:=kF1 zes zk zl zo (zq []) zSc
@[simp] abbrev zit (l:List Guest):Bool:=pc (zmT l)
@[simp] abbrev zis (l:List Guest):List Guest:=l
def zt8:Run:=rF1 (dS .guest) fun b=>(zit b,[aS .guest (zis b)])
def zw8 (N:Nat)(a0:lG):OA:=
 (iter (σ:=(Int×(Int×(lG×(lG×Unit))))) N (fun r2 s3=>let y0:=(ix s3.2.2.2.1 s3.2.1 zi); (cond (ilt s3.2.1 s3.1) (oN (inb s3.2.1 (ln s3.2.2.2.1)) (oN (zdv y0) (oN (few (ln (ap s3.2.2.1 [(zck y0)]))) (r2 (s3.1,((zG .i64 s3.2.1 1),((ap s3.2.2.1 [(zck y0)]),(s3.2.2.2.1,())))))))) (some [(aS .guest s3.2.2.1)]))) ((ln a0),(0,([],(a0,())))))
def zJp:FuncId->Nat->Option Tmpl:=zq [(158,0,{ n:=20,tm:=[(3,.sl 0 []),(7,.sl 1 []),(8,ti),(9,ti)],lo:=[],ro:=[(0,.guest,true),(1,.guest,false)] })]
theorem zIP (a0:List Guest)(hc:zit a0=true):∃N,zw8 N a0=some [aS .guest (zis a0)]:=by
 have hs:=zD.1 hc;have hl:=zcK hs.1;refine zb8 fun N hNN=>?_;unfold zw8 oN
 conv=>zeta
 refine (zbc a0 (fun i (t:lG)=>((ln a0),(i:Int),t,a0,())) _ (fun _ x acc κ=>bif zdv x then (cond (few (ln (ap acc [zck x]))) (κ (ap acc [zck x])) none) else none) (fun (t:lG)=>(some [(.one (.s .guest t))])) (fun i hi t rec=>?_) (fun t rec=>?_) _ ([]) (hNN hl.1)).trans ?_
 .simp only [zbo hi,zY hi,zbd hi,zW hi hl.1,cT]
 .simp only [zbf,cF]
 exact ziX zdv zck _ a0 0 [] (fun x hx=>⟨by exact zbe (hs.2 x hx),rfl⟩) (by simpa using hl.2)
theorem zCA:u3 158 zt8:=kF1 zes zk zl zo zJp zIP
def gAt (b:Bare)(i:Int):Guest:=bif hasB i (ln b.Guests) then ix b.Guests i zi else Ty.dflt .guest
@[simp] theorem ziN {b:Bare}(i:Int)(h:SmB b):SmG (gAt b i):=by
 unfold gAt;cases hh:hasB i (ln b.Guests)
 .exact zba4
 .exact zWD h.2.1 hh _
@[simp] abbrev zww (b:Bare)(i:Int):Bool:=pc (SmB b)
@[simp] abbrev zl8 (b:Bare)(i:Int):Guest:=gAt b i
@[simp] abbrev zl9 (b:Bare)(i:Int):Bool:=hasB i (ln b.Guests)
def zAs:Run:=rF2 (dT .bare) dI fun b c=>(zww b c,[aT .guest (zl8 b c),aB (zl9 b c)])
def zFV (N:Nat)(a0:Bare)(a1:Int):OA:=
 let y0:=(ix a0.Guests a1 zi); (oN (zcr a1 (ln a0.Guests)) (cond (nB (zcX a1 (ln a0.Guests))) (some [(aT .guest (⟨[],0,0,[],[],⟨0,0,false⟩,0,⟨0,0,false,0⟩,false,[]⟩:Guest)),(aB false)]) (oN (inb a1 (ln a0.Guests)) (oN (zdv y0) (some [(aT .guest (zck y0)),(aB true)])))))
theorem zSb (a0:Bare)(a1:Int)(hc:zww a0 a1=true):∃N,zFV N a0 a1=some [aT .guest (zl8 a0 a1),aB (zl9 a0 a1)]:=by
 have hs:=zD.1 hc;have hl:a0.Guests.length<=1048576:=hs.2.1.1;have hx:hasB a1 (ln a0.Guests)=true->SmG (ix a0.Guests a1 zi):=fun h=>zWD hs.2.1 h _
 refine ⟨0,?_⟩;unfold zFV oN nB
 conv=>zeta
 refine must rfl (brN (fun _=>?_) (fun _=>mu (mu ?_)))
 all_goals first|rfl|(simp only [*,zl8,zl9,gAt,Ty.dflt,cT,cF]<;>rfl)|simp_all[Ty.cells,zl8,zl9,gAt,Ty.dflt]
theorem zK6:u3 147 zAs:=kF2 zes zk zl zo (zq []) zSb
def z7t:zQ:=[(201,zsr),(151,zso),(200,zDV),(57,zDv),(279,zMR),(146,zMO),(269,zDS),(66,zDs),(270,zDH),(67,zDf),(145,zAD),(314,zAG),(237,zAt),(158,zt8),(147,zAs)]++z7s
theorem zh0:zI z7t:=zh zBr (zh zBh (zh zb4 (zh zN8 (zh zUD (zh zUy (zh zOv (zh zN5 (zh zOk (zh zNS (zh zLh (zh zLk (zh zK7 (zh zCA (zh zK6 zes))))))))))))))
def plainly (g:Guest):Guest:=bif ine (zF g) 2 then g else (cond (win g.A 0 99) (cond (win (zbY g.Prog g.Pc).X 0 99) (cond (ieq (zbY g.Prog g.Pc).Op 1) { zbJ g with A:=(zbY g.Prog g.Pc).X } (cond (ieq (zbY g.Prog g.Pc).Op 2) { zbJ g with A:=zjo (zG .i64 g.A (zbY g.Prog g.Pc).X) 100 } (cond (ieq (zbY g.Prog g.Pc).Op 8) (cond (ieq g.A 0) { zbJ g with Pc:=(zbY g.Prog g.Pc).X } (zbJ g)) (zbJ g)))) (zbJ g)) (zbJ g))
@[simp] theorem zbaX (g:Guest):(zbJ g).Prog=g.Prog:=by
 unfold zbJ;cases ige g.Pc 12<;>rfl
@[simp] theorem zbbx (g:Guest):(zbJ g).A=g.A:=by
 unfold zbJ;cases ige g.Pc 12<;>rfl
@[simp] theorem z9I (g:Guest):(zbJ g).Written=g.Written:=by
 unfold zbJ;cases ige g.Pc 12<;>rfl
@[simp] theorem zbaW (g:Guest):(zbJ g).Live=g.Live:=by
 unfold zbJ;cases ige g.Pc 12<;>rfl
@[simp] theorem zbbc (g:Guest):(zbJ g).Ctl=g.Ctl:=by
 unfold zbJ;cases ige g.Pc 12<;>rfl
@[simp] theorem z9H (g:Guest):(zbJ g).Pending=g.Pending:=by
 unfold zbJ;cases ige g.Pc 12<;>rfl
@[simp] theorem zbaV (g:Guest):(zbJ g).Exit=g.Exit:=by
 unfold zbJ;cases ige g.Pc 12<;>rfl
@[simp] theorem zbap (g:Guest):(zbJ g).Halted=g.Halted:=by
 unfold zbJ;cases ige g.Pc 12<;>rfl
@[simp] theorem zbaY (g:Guest):(zbJ g).Seen=g.Seen:=by
 unfold zbJ;cases ige g.Pc 12<;>rfl
@[simp] theorem zbbd (g:Guest)(x:Int):(zbJ { g with A:=x }).Pc=(zbJ g).Pc:=by
 unfold zbJ;cases ige g.Pc 12<;>rfl
@[simp] theorem zHq {g:Guest}(h:SmG g):SmG (plainly g):=by
 have hm:=zkY h;unfold plainly;cases ine (zF g) 2
 .cases win g.A 0 99
  .exact hm
  .cases win (zbY g.Prog g.Pc).X 0 99
   .exact hm
   .cases ieq (zbY g.Prog g.Pc).Op 1
    .cases ieq (zbY g.Prog g.Pc).Op 2
     .cases ieq (zbY g.Prog g.Pc).Op 8
      .exact hm
      .cases ieq g.A 0<;>exact hm
     .exact hm
    .exact hm
 .exact h
@[simp] abbrev zwz (g:Guest):Bool:=pc (SmG g)
@[simp] abbrev znu (g:Guest):Guest:=plainly g
def zAx:Run:=rF1 (dT .guest) fun b=>(zwz b,[aT .guest (znu b)])
def zF0 (N:Nat)(a0:Guest):OA:=
 let y1:=(aT .guest (zeh a0));let y0:=(zgk a0.Prog a0.Pc); (oN (zi8 a0) (cond (ine (zhe a0) 2) (oN (zdv a0) (some [(aT .guest (zck a0))])) (oN (zf7 a0.Prog a0.Pc) (oN (zev a0) (oN (zbG a0.A 0 99) (cond (nB (zbW a0.A 0 99)) (some [y1]) (oN (zbG y0.X 0 99) (cond (nB (zbW y0.X 0 99)) (some [y1]) (cond (ieq y0.Op 1) (some [(aT .guest ({ (zeh a0) with A:=y0.X }:Guest))]) (cond (ieq y0.Op 2) (oN (ine 100 0) (some [(aT .guest ({ (zeh a0) with A:=(zjo (zG .i64 a0.A y0.X) 100) }:Guest))])) (cond (ieq y0.Op 8) (cond (ieq a0.A 0) (some [(aT .guest ({ (zeh a0) with Pc:=y0.X }:Guest))]) (some [y1])) (some [y1]))))))))))))
theorem zSg (a0:Guest)(hc:zwz a0=true):∃N,zF0 N a0=some [aT .guest (znu a0)]:=by
 have hs:=zD.1 hc;refine ⟨0,?_⟩;unfold zF0 oN nB
 conv=>zeta
 refine must rfl (br (fun _=>mu ?_) (fun _=>must rfl (mu (must rfl (brN (fun _=>?_) (fun _=>must rfl (brN (fun _=>?_) (fun _=>br (fun _=>?_) (fun _=>br (fun _=>must rfl ?_) (fun _=>br (fun _=>br (fun _=>?_) (fun _=>?_)) (fun _=>?_)))))))))))
 all_goals first|rfl|(simp only [*,znu,plainly,cT,cF]<;>rfl)|simp_all[Ty.cells,znu,plainly]
theorem zLb:u3 152 zAx:=kF1 zh0 zk zl zo (zq []) zSg
@[simp] abbrev zwT (g:Guest):Bool:=pc (SmG g)
@[simp] abbrev zrv (g:Guest):Guest:=plainly g
def zAT:Run:=rF1 (dT .guest) fun b=>(zwT b,[aT .guest (zrv b)])
def zGp (N:Nat)(a0:Guest):OA:=
 let y7:=(ieq a0.A 0);let y5:=(zea a0);let y1:=(aT .guest (zgm a0));let y0:=(zfK a0.Prog a0.Pc);let y8:=({ a0 with A:=y0.X }:Guest);let y6:=(ieq y0.Op 8);let y4:=(zM y0.X 0 99);let y3:=(aT .guest ({ (zcR a0) with Pc:=y0.X }:Guest));let y2:=({ a0 with A:=(zjo (zG .i64 a0.A y0.X) 100) }:Guest); (oN (zeJ a0) (cond (ine (znf a0) 2) (oN (zdi a0) (some [(aT .guest (zcR a0))])) (oN (zfs a0.Prog a0.Pc) (oN (zK a0.A 0 99) (cond (zM a0.A 0 99) (oN (zK y0.X 0 99) (cond y4 (cond (ieq y0.Op 1) (oN (zea y8) (some [(aT .guest (zgm y8))])) (cond y4 (cond (ieq y0.Op 2) (oN (ine 100 0) (oN (zea y2) (some [(aT .guest (zgm y2))]))) (cond y4 (cond y6 (cond y7 (oN (zdi a0) (some [y3])) (oN y5 (some [y1]))) (oN y5 (some [y1]))) (oN y5 (some [y1])))) (cond y4 (cond y6 (cond y7 (oN (zdi a0) (some [y3])) (oN y5 (some [y1]))) (oN y5 (some [y1]))) (oN y5 (some [y1]))))) (cond y4 (cond (ieq y0.Op 2) (oN (ine 100 0) (oN (zea y2) (some [(aT .guest (zgm y2))]))) (cond y4 (cond y6 (cond y7 (oN (zdi a0) (some [y3])) (oN y5 (some [y1]))) (oN y5 (some [y1]))) (oN y5 (some [y1])))) (cond y4 (cond y6 (cond y7 (oN (zdi a0) (some [y3])) (oN y5 (some [y1]))) (oN y5 (some [y1]))) (oN y5 (some [y1])))))) (oN y5 (some [y1])))))))
theorem zSG (a0:Guest)(hc:zwT a0=true):∃N,zGp N a0=some [aT .guest (zrv a0)]:=by
 have hs:=zD.1 hc;have hz:_/\_/\_/\_:=hs
 refine ⟨0,?_⟩;unfold zGp oN
 conv=>zeta
 refine must rfl (br (fun _=>mu ?_) (fun _=>must rfl (must rfl (br (fun _=>must rfl (br (fun _=>br (fun _=>mu ?_) (fun _=>br (fun _=>br (fun _=>must rfl (mu ?_)) (fun _=>br (fun _=>br (fun _=>br (fun _=>mu ?_) (fun _=>mu ?_)) (fun _=>mu ?_)) (fun _=>mu ?_))) (fun _=>br (fun _=>br (fun _=>br (fun _=>mu ?_) (fun _=>mu ?_)) (fun _=>mu ?_)) (fun _=>mu ?_)))) (fun _=>br (fun _=>br (fun _=>must rfl (mu ?_)) (fun _=>br (fun _=>br (fun _=>br (fun _=>mu ?_) (fun _=>mu ?_)) (fun _=>mu ?_)) (fun _=>mu ?_))) (fun _=>br (fun _=>br (fun _=>br (fun _=>mu ?_) (fun _=>mu ?_)) (fun _=>mu ?_)) (fun _=>mu ?_))))) (fun _=>mu ?_)))))
 all_goals first|rfl|(simp only [*,zrv,plainly,cT,cF]<;>rfl)|simp_all[Ty.cells,zrv,plainly]
theorem zLx:u3 202 zAT:=kF1 zh0 zk zl zo (zq []) zSG
def address (g:Guest):Int:=bif ine (zF g) 3 then (cond (ine (zF g) 4) (-1) ((zbY g.Prog g.Pc).X)) else (zbY g.Prog g.Pc).X
@[simp] abbrev zqy (g:Guest):Bool:=true
@[simp] abbrev ziS (g:Guest):Int:=address g
def zAF:Run:=rF1 (dT .guest) fun b=>(zqy b,[aI (ziS b)])
def zF8 (N:Nat)(a0:Guest):OA:=
 (oN (zeJ a0) (cond (ine (znf a0) 3) (cond (ine (znf a0) 4) (some [(aI (-1))]) (oN (zfs a0.Prog a0.Pc) (some [(aI (zfK a0.Prog a0.Pc).X)]))) (oN (zfs a0.Prog a0.Pc) (some [(aI (zfK a0.Prog a0.Pc).X)]))))
theorem zSo (a0:Guest)(hc:zqy a0=true):∃N,zF8 N a0=some [aI (ziS a0)]:=by
 refine ⟨0,?_⟩;unfold zF8 oN;refine must rfl (br (fun _=>br (fun _=>?_) (fun _=>must rfl ?_)) (fun _=>must rfl ?_))
 all_goals first|rfl|(simp only [*,ziS,address,cT,cF]<;>rfl)|simp_all[Ty.cells,ziS,address]
theorem zLj:u3 265 zAF:=kF1 zh0 zk zl zo (zq []) zSo
@[simp] abbrev zqj (g:Guest):Bool:=true
@[simp] abbrev zkp (g:Guest):Int:=address g
def zAq:Run:=rF1 (dT .guest) fun b=>(zqj b,[aI (zkp b)])
def zFS (N:Nat)(a0:Guest):OA:=
 (oN (zi8 a0) (cond (ine (zhe a0) 3) (cond (ine (zhe a0) 4) (some [(aI (-1))]) (oN (zf7 a0.Prog a0.Pc) (some [(aI (zgk a0.Prog a0.Pc).X)]))) (oN (zf7 a0.Prog a0.Pc) (some [(aI (zgk a0.Prog a0.Pc).X)]))))
theorem zR8 (a0:Guest)(hc:zqj a0=true):∃N,zFS N a0=some [aI (zkp a0)]:=by
 refine ⟨0,?_⟩;unfold zFS oN;refine must rfl (br (fun _=>br (fun _=>?_) (fun _=>must rfl ?_)) (fun _=>must rfl ?_))
 all_goals first|rfl|(simp only [*,zkp,address,cT,cF]<;>rfl)|simp_all[Ty.cells,zkp,address]
theorem zK4:u3 58 zAq:=kF1 zh0 zk zl zo (zq []) zR8
def zeV (g:Guest)(t w:Int):Guest:=bif ieq w 6 then stopped g (zpk (zbY g.Prog g.Pc).X) else (cond (ieq w 5&&zc8 t 1) (stopped g (ztk (zbY g.Prog g.Pc).X)) (cond (ieq w 7&&zc8 t 2) (stopped g ⟨4,0,false,0⟩) (cond (ieq w 7) (held g) (zbJ g))))
def zgo (t w:Int):Bool:=bif ieq w 6 then false else (cond (ieq w 5&&zc8 t 1) false (cond (ieq w 7&&zc8 t 2) false true))
@[simp] theorem zEf {g:Guest}(t w:Int)(h:SmG g):SmG (zeV g t w):=by
 unfold zeV;cases ieq w 6
 .cases (ieq w 5&&zc8 t 1)
  .cases (ieq w 7&&zc8 t 2)
   .cases ieq w 7
    .exact zkY h
    .exact zWC h
   .exact h
  .exact h
 .exact h
@[simp] abbrev zdQ (g:Guest)(t w:Int):Bool:=pc (SmG g)
@[simp] abbrev zb2 (g:Guest)(t w:Int):Guest:=zeV g t w
@[simp] abbrev zdj (g:Guest)(t w:Int):Bool:=zgo t w
def zA2:Run:=rF3 (dT .guest) dI dI fun b c d=>(zdQ b c d,[aT .guest (zb2 b c d),aB (zdj b c d)])
def zGy (N:Nat)(a0:Guest)(a1 a2:Int):OA:=
 let y3:=(aT .guest (zgm a0));let y2:=(aT .guest (zyo a0));let y1:=(⟨4,0,false,0⟩:GExit);let y0:=(zfK a0.Prog a0.Pc).X; (oN (zfs a0.Prog a0.Pc) (cond (ieq a2 6) (oN (zun y0) (oN (zee a0 (zlz y0)) (some [(aT .guest (zdI a0 (zlz y0))),(aB false)]))) (cond (ieq a2 5) (oN (zh9 a1 1) (cond (zhP a1 1) (oN (zwR y0) (oN (zee a0 (znA y0)) (some [(aT .guest (zdI a0 (znA y0))),(aB false)]))) (cond (ieq a2 7) (oN (zh9 a1 2) (cond (zhP a1 2) (oN (zee a0 y1) (some [(aT .guest (zdI a0 y1)),(aB false)])) (cond (ieq a2 7) (oN (znc a0) (some [y2,(aB true)])) (oN (zea a0) (some [y3,(aB true)]))))) (cond (ieq a2 7) (oN (znc a0) (some [y2,(aB true)])) (oN (zea a0) (some [y3,(aB true)])))))) (cond (ieq a2 7) (oN (zh9 a1 2) (cond (zhP a1 2) (oN (zee a0 y1) (some [(aT .guest (zdI a0 y1)),(aB false)])) (cond (ieq a2 7) (oN (znc a0) (some [y2,(aB true)])) (oN (zea a0) (some [y3,(aB true)]))))) (cond (ieq a2 7) (oN (znc a0) (some [y2,(aB true)])) (oN (zea a0) (some [y3,(aB true)])))))))
theorem zSS (a0:Guest)(a1 a2:Int)(hc:zdQ a0 a1 a2=true):∃N,zGy N a0 a1 a2=some [aT .guest (zb2 a0 a1 a2),aB (zdj a0 a1 a2)]:=by
 have hs:=zD.1 hc;refine ⟨0,?_⟩;unfold zGy oN
 conv=>zeta
 refine must rfl (br (fun _=>must rfl (mu ?_)) (fun _=>br (fun _=>must rfl (br (fun _=>must rfl (mu ?_)) (fun _=>br (fun _=>must rfl (br (fun _=>mu ?_) (fun _=>br (fun _=>mu ?_) (fun _=>mu ?_)))) (fun _=>br (fun _=>mu ?_) (fun _=>mu ?_))))) (fun _=>br (fun _=>must rfl (br (fun _=>mu ?_) (fun _=>br (fun _=>mu ?_) (fun _=>mu ?_)))) (fun _=>br (fun _=>mu ?_) (fun _=>mu ?_)))))
 all_goals first|rfl|(simp only [*,zb2,zdj,zeV,zgo,cT,cF]<;>rfl)|simp_all[Ty.cells,zb2,zdj,zeV,zgo]
theorem zLJ:u3 272 zA2:=kF3 zh0 zk zl zo (zq []) zSS
def zbC (b:Bare):Bool:=bif b.Guests.all zcU then (zhp b.Memory 8&&(win (ln b.Guests) 1 2&&(ile (ln b.Outs) 40&&zcQ b.Pending))) else false
@[simp] abbrev zoH (b:Bare):Bool:=true
@[simp] abbrev zeM (b:Bare):Bool:=zbC b
def zDz:Run:=rF1 (dT .bare) fun b=>(zoH b,[aB (zeM b)])
def zJZ (N:Nat)(a0:Bare):OA:=
 (iter (σ:=(Int×(Int×(lM×(lG×((List Int)×Unit)))))) N (fun r2 s3=>let y0:=s3.2.2.2.1; (cond (ilt s3.1 (ln y0)) (oN (inb s3.1 (ln y0)) (oN (zmt (ix y0 s3.1 zi)) (cond (nB (zkK (ix y0 s3.1 zi))) oF (r2 ((zG .i64 s3.1 1),(s3.2.1,(s3.2.2.1,(y0,(s3.2.2.2.2.1,()))))))))) (oN (zrt s3.2.2.1 8) (cond (zlJ s3.2.2.1 8) (oN (zK (ln y0) 1 2) (cond (zM (ln y0) 1 2) (cond (ile (ln s3.2.2.2.2.1) 40) (oN (zff s3.2.1) (some [(aB (zfe s3.2.1))])) oF) oF)) oF)))) (0,(a0.Pending,(a0.Memory,(a0.Guests,(a0.Outs,()))))))
def zWZ:FuncId->Nat->Option Tmpl:=zq [(283,0,{ n:=38,tm:=[(1,.lp 0 0),(3,ti)],lo:=[(0,[.sl 0 [],.sl 1 [],.sl 2 [],ti])],ro:=[(0,(.sl .int),false),(1,.guest,false),(2,.int,false)] })]
theorem zVf (a0:Bare)(hb:zbD big [aT .bare a0])(hc:zoH a0=true):∃N,zJZ N a0=some [aB (zeM a0)]:=by
 have hl:(_:List _).length<=big:=((zcY hb).1 (.s .guest a0.Guests) (by simp[AV.cvs,Ty.cells])).len
 refine zb8 fun N hNN=>?_;unfold zJZ oN nB
 conv=>zeta
 refine (zbc a0.Guests (fun i (t:Unit)=>((i:Int),a0.Pending,a0.Memory,a0.Guests,a0.Outs,())) _ (fun _ x (_:Unit) κ=>bif (zcU) x then κ () else oF) (fun (t:Unit)=>(cond (zrt a0.Memory 8) (cond (zlJ a0.Memory 8) (cond (zK (ln a0.Guests) 1 2) (cond (zM (ln a0.Guests) 1 2) (cond (ile (ln a0.Outs) 40) (cond (zff a0.Pending) (some [(.one (.b (zfe a0.Pending)))]) none) oF) oF) none) oF) none)) (fun i hi t rec=>?_) (fun t rec=>?_) _ () (hNN hl)).trans ?_
 .simp only [zbo hi,zY hi,zbd hi,zW hi hl,cT];exact zhY rfl
 .simp only [zbf,cF]
 rw[zgj (zcU)];refine br (fun h0=>?_) (fun h0=>?_)
 .refine must rfl ?_;refine br (fun h1=>?_) (fun h1=>?_)
  .refine must rfl ?_;refine br (fun h2=>?_) (fun h2=>?_)
   .refine br (fun h3=>?_) (fun h3=>?_)
    .refine must rfl ?_
     first|rfl|(simp only [h0,h1,h2,h3,zeM,zbC,cT,cF]<;>rfl)|(simp_all [Ty.cells,zeM,zbC];done)
    .first|rfl|(simp only [h0,h1,h2,h3,zeM,zbC,cT,cF]<;>rfl)|(simp_all [Ty.cells,zeM,zbC];done)
   .first|rfl|(simp only [h0,h1,h2,zeM,zbC,cT,cF]<;>rfl)|(simp_all [Ty.cells,zeM,zbC];done)
  .first|rfl|(simp only [h0,h1,zeM,zbC,cT,cF]<;>rfl)|(simp_all [Ty.cells,zeM,zbC];done)
 .first|rfl|(simp only [h0,zeM,zbC,cT,cF]<;>rfl)|(simp_all [Ty.cells,zeM,zbC];done)
theorem zOc:u3 283 zDz:=hF1 zh0 zk zl zo zWZ zVf
@[simp] abbrev zy1 (b:Bare):Bool:=true
@[simp] abbrev zfF (b:Bare):Bool:=zbC b
def zC7:Run:=rF1 (dT .bare) fun b=>(zy1 b,[aB (zfF b)])
def zJy (N:Nat)(a0:Bare):OA:=
 (iter (σ:=(Int×(Int×(Int×(lG×(lM×((List Int)×Unit))))))) N (fun r2 s3=>let y0:=s3.2.2.2.1;let y1:=(ix y0 s3.2.1 zi); (cond (ilt s3.2.1 s3.1) (oN (inb s3.2.1 (ln y0)) (oN (zma y1) (cond (nB (zkq y1)) oF (r2 (s3.1,((zG .i64 s3.2.1 1),(s3.2.2.1,(y0,(s3.2.2.2.2.1,(s3.2.2.2.2.2.1,())))))))))) (oN (zrh s3.2.2.2.2.1 8) (cond (zlj s3.2.2.2.2.1 8) (oN (zbG (ln y0) 1 2) (cond (zbW (ln y0) 1 2) (cond (ile (ln s3.2.2.2.2.2.1) 40) (oN (zi6 s3.2.2.1) (some [(aB (zi5 s3.2.2.1))])) oF) oF)) oF)))) ((ln a0.Guests),(0,(a0.Pending,(a0.Guests,(a0.Memory,(a0.Outs,())))))))
def zWR:FuncId->Nat->Option Tmpl:=zq [(148,0,{ n:=36,tm:=[(1,.lp 0 0),(6,.sl 0 []),(7,ti),(8,ti)],lo:=[(0,[.sl 1 [],.sl 0 [],.sl 2 [],ti])],ro:=[(0,.guest,false),(1,(.sl .int),false),(2,.int,false)] })]
theorem zUN (a0:Bare)(hb:zbD big [aT .bare a0])(hc:zy1 a0=true):∃N,zJy N a0=some [aB (zfF a0)]:=by
 have hl:(_:List _).length<=big:=((zcY hb).1 (.s .guest a0.Guests) (by simp[AV.cvs,Ty.cells])).len
 refine zb8 fun N hNN=>?_;unfold zJy oN nB
 conv=>zeta
 refine (zbc a0.Guests (fun i (t:Unit)=>((ln a0.Guests),(i:Int),a0.Pending,a0.Guests,a0.Memory,a0.Outs,())) _ (fun _ x (_:Unit) κ=>bif (zcU) x then κ () else oF) (fun (t:Unit)=>(cond (zrh a0.Memory 8) (cond (zlj a0.Memory 8) (cond (zbG (ln a0.Guests) 1 2) (cond (zbW (ln a0.Guests) 1 2) (cond (ile (ln a0.Outs) 40) (cond (zi6 a0.Pending) (some [(.one (.b (zi5 a0.Pending)))]) none) oF) oF) none) oF) none)) (fun i hi t rec=>?_) (fun t rec=>?_) _ () (hNN hl)).trans ?_
 .simp only [zbo hi,zY hi,zbd hi,zW hi hl,cT];exact zhY rfl
 .simp only [zbf,cF]
 rw[zgj (zcU)];refine br (fun h0=>?_) (fun h0=>?_)
 .refine must rfl ?_;refine br (fun h1=>?_) (fun h1=>?_)
  .refine must rfl ?_;refine br (fun h2=>?_) (fun h2=>?_)
   .refine br (fun h3=>?_) (fun h3=>?_)
    .refine must rfl ?_
     first|rfl|(simp only [h0,h1,h2,h3,zfF,zbC,cT,cF]<;>rfl)|(simp_all [Ty.cells,zfF,zbC];done)
    .first|rfl|(simp only [h0,h1,h2,h3,zfF,zbC,cT,cF]<;>rfl)|(simp_all [Ty.cells,zfF,zbC];done)
   .first|rfl|(simp only [h0,h1,h2,zfF,zbC,cT,cF]<;>rfl)|(simp_all [Ty.cells,zfF,zbC];done)
  .first|rfl|(simp only [h0,h1,zfF,zbC,cT,cF]<;>rfl)|(simp_all [Ty.cells,zfF,zbC];done)
 .first|rfl|(simp only [h0,zfF,zbC,cT,cF]<;>rfl)|(simp_all [Ty.cells,zfF,zbC];done)
theorem zNK:u3 148 zC7:=hF1 zh0 zk zl zo zWR zUN
@[simp] abbrev zhf (b:Bare):Bool:=pc (SmB b)
@[simp] abbrev zei (b:Bare):Bare:=b
def zxS:Run:=rF1 (dT .bare) fun b=>(zhf b,[aT .bare (zei b)])
def zBE (N:Nat)(a0:Bare):OA:=
 (oN (zfS a0.Memory) (oN (zit a0.Guests) (oN (zdB a0.Outs) (some [(aT .bare (⟨(zdp a0.Memory),(zis a0.Guests),(zdu a0.Outs),a0.Pending⟩:Bare))]))))
theorem zOX (a0:Bare)(hc:zhf a0=true):∃N,zBE N a0=some [aT .bare (zei a0)]:=by
 have hs:=zD.1 hc;have hz:_/\_/\_:=hs
 refine ⟨0,?_⟩;unfold zBE oN;refine mu (mu (mu ?_))
 first|rfl|(simp only [*,zei,cT,cF]<;>rfl)|simp_all[Ty.cells,zei]
theorem zIb:u3 149 zxS:=kF1 zh0 zk zl zo (zq []) zOX
@[simp] abbrev ze0 (b:Bare):Bool:=pc (SmB b)
@[simp] abbrev zcb (b:Bare):Bare:=b
def zA1:Run:=rF1 (dT .bare) fun b=>(ze0 b,[aT .bare (zcb b)])
def zGx (N:Nat)(a0:Bare):OA:=
 (oN (zfV a0.Memory) (oN (zfu a0.Guests) (oN (few (ln (ap [] a0.Outs))) (some [(aT .bare (⟨(zew a0.Memory),(zfY a0.Guests),(ap [] a0.Outs),a0.Pending⟩:Bare))]))))
theorem zSR (a0:Bare)(hc:ze0 a0=true):∃N,zGx N a0=some [aT .bare (zcb a0)]:=by
 have hs:=zD.1 hc;have hz:_/\_/\_:=hs
 refine ⟨0,?_⟩;unfold zGx oN;refine mu (mu (mu ?_))
 first|rfl|(simp only [*,zcb,cT,cF]<;>rfl)|simp_all[Ty.cells,zcb]
theorem zLI:u3 273 zA1:=kF1 zh0 zk zl zo (zq []) zSR
def z7u:zQ:=[(202,zAT),(152,zAx),(265,zAF),(58,zAq),(272,zA2),(283,zDz),(148,zC7),(149,zxS),(273,zA1)]++z7t
theorem zHS:zI z7u:=zh zLx (zh zLb (zh zLj (zh zK4 (zh zLJ (zh zOc (zh zNK (zh zIb (zh zLI zh0))))))))
def zdC (b:Bare)(i:Int)(x:Guest):Bare:={ b with Guests:=up b.Guests i x }
def zrA (b:Bare)(i:Int)(x:Guest):Bare:=bif hasB i (ln b.Guests) then zdC b i x else b
def ziC (b:Bare)(n:Int):Bare:=bif ilt (ln b.Outs) 40 then { b with Outs:=ap b.Outs [n] } else b
@[simp] theorem znh {b:Bare}{i:Int}{x:Guest}(h:SmB b)(hx:SmG x):SmB (zdC b i x):=⟨h.1,zET h.2.1 hx,h.2.2⟩
@[simp] theorem zM0 {b:Bare}{n:Int}(h:SmB b):SmB (ziC b n):=by
 unfold ziC;cases h1:ilt (ln b.Outs) 40
 .exact h
 .have:=qD h1;refine ⟨h.1,h.2.1,?_⟩;simp[ln] at *;omega
@[simp] theorem zbbr (b:Bare)(n:Int):(ziC b n).Guests=b.Guests:=by
 unfold ziC;cases ilt (ln b.Outs) 40<;>rfl
@[simp] theorem zzR {m:List (List Int)}{p c v:Int}(h:SmM m):SmM (zbu m p c v):=by
 unfold zbu;cases h1:zfz m p c
 .exact h
 .cases h2:win v 0 99
  .exact h
  .exact zM4 h (by simpa using zbaA h ((zzq m p c).1 h1).1 [])
@[simp] abbrev zci (b:Bare)(i:Int)(x:Guest):Bool:=pc (SmB b/\SmG x)
@[simp] abbrev zdF (b:Bare)(i:Int)(x:Guest):Bare:=zrA b i x
def zvs:Run:=rF3 (dT .bare) dI (dT .guest) fun b c d=>(zci b c d,[aT .bare (zdF b c d)])
def zz5 (N:Nat)(a0:Bare)(a1:Int)(a2:Guest):OA:=
 (oN (zhf a0) (oN (zcr a1 (ln a0.Guests)) (cond (zcX a1 (ln a0.Guests)) (oN (zdv a2) (oN (inb a1 (ln (zei a0).Guests)) (share (up (zei a0).Guests a1 (zck a2)) (fun x4=>(some [(aT .bare ({ (zei a0) with Guests:=x4 }:Bare))]))))) (some [(aT .bare (zei a0))]))))
theorem zL7 (a0:Bare)(a1:Int)(a2:Guest)(hc:zci a0 a1 a2=true):∃N,zz5 N a0 a1 a2=some [aT .bare (zdF a0 a1 a2)]:=by
 have hs:=zD.1 hc;refine ⟨0,?_⟩;unfold zz5 oN;refine mu (must rfl (br (fun _=>mu (mu (shr ?_))) (fun _=>?_)))
 all_goals first|rfl|(simp only [*,zdF,zrA,zdC,cT,cF]<;>rfl)|simp_all[Ty.cells,zdF,zrA,zdC]
theorem zE3:u3 150 zvs:=kF3 zHS zk zl zo (zq []) zL7
@[simp] abbrev zsD (b:Bare)(n:Int):Bool:=pc (SmB b)
@[simp] abbrev zpu (b:Bare)(n:Int):Bare:=ziC b n
def zDo:Run:=rF2 (dT .bare) dI fun b c=>(zsD b c,[aT .bare (zpu b c)])
def zJO (N:Nat)(a0:Bare)(a1:Int):OA:=
 (oN (zhf a0) (cond (ilt (ln a0.Outs) 40) (oN (few (ln (ap (zei a0).Outs [a1]))) (some [(aT .bare ({ (zei a0) with Outs:=(ap (zei a0).Outs [a1]) }:Bare))])) (some [(aT .bare (zei a0))])))
theorem zU4 (a0:Bare)(a1:Int)(hc:zsD a0 a1=true):∃N,zJO N a0 a1=some [aT .bare (zpu a0 a1)]:=by
 have hs:=zD.1 hc;have hz:a0.Outs.length<=1048576:=hs.2.2
 refine ⟨0,?_⟩;unfold zJO oN;refine mu (br (fun _=>mu ?_) (fun _=>?_))
 all_goals first|rfl|(simp only [*,zpu,ziC,cT,cF]<;>rfl)|simp_all[Ty.cells,zpu,ziC]
theorem zN1:u3 156 zDo:=kF2 zHS zk zl zo (zq []) zU4
def zZ7:zQ:=[(150,zvs),(156,zDo)]++z7u
theorem zmW:zI zZ7:=zh zE3 (zh zN1 zHS)
def zj4 (b:Bare)(g:Int)(x:Guest)(w:Bool):Bare :=
 bif zdZ x.Live (zX (address x)) (zbO w) then
  (bif w then zdC { b with Memory:=zbu b.Memory (zbV x.Live (zX (address x)) (zbO w)) (zcG (address x)) x.A } g (zbJ x)
  else zdC b g (loaded x (cellAt b.Memory (zbV x.Live (zX (address x)) (zbO w)) (zcG (address x)))))
 else zdC b g (stopped x (znn (zX (address x)) w))
def zp3 (b:Bare)(g:Int)(x:Guest)(w:Int):Bare :=
 zdC (cond (cond (zgo x.Ctl.Traps w) (ieq w 5) false) (ziC b (zbY x.Prog x.Pc).X) b) g (zeV x x.Ctl.Traps w)
def stepped (b:Bare)(g:Int)(x:Guest)(w:Int):Bare :=
 bif ieq w 1 then zdC b g (interrupted x) else (cond (ieq w 2) (zdC b g (plainly x)) (cond (ieq w 3) (zj4 b g x false) (cond (ieq w 4) (zj4 b g x true) (zp3 b g x w))))
theorem tr1 (x:Guest)(t w:Int):ieq w 6=true->zeV x t w=stopped x (zpk (zbY x.Prog x.Pc).X)/\zgo t w=false:=by
 intro h;simp[zeV,zgo,h]
theorem tr2 (x:Guest)(t w:Int):ieq w 6=false->(ieq w 5=false->ieq w 6=false->ieq w 7=true)->zc8 t (zeT w)=true->zeV x t w=zp6 x w/\zgo t w=false:=by
 intro h6 h7 h;unfold zeV zgo zp6 zeT at *;cases h5:ieq w 5<;>simp_all
theorem tr3 (x:Guest)(t w:Int):ieq w 6=false->ieq w 7=false->zc8 t (zeT w)=false->ieq w 5=true->zeV x t w=zbJ x/\zgo t w=true:=by
 intro h6 h7 h h5;unfold zeV zgo zeT at *
 simp_all
theorem tr4 (x:Guest)(t w:Int):ieq w 6=false->(ieq w 5=false->ieq w 6=false->ieq w 7=true)->zc8 t (zeT w)=false->ieq w 5=false->zeV x t w=held x:=by
 intro h6 h7 h h5;unfold zeV zeT at *
 simp_all
def zgh (b:Bare)(g:Int):Bool:=bif hasB g (ln b.Guests) then (cond (zbC b) (!ieq (zF (gAt b g)) 0) false) else false
def zeq (b:Bare)(g:Int):Bare:=bif zgh b g then stepped b g (gAt b g) (zF (gAt b g)) else b
@[simp] theorem zZx {b:Bare}{g:Int}{x:Guest}{w:Bool}(h:SmB b)(hx:SmG x):SmB (zj4 b g x w):=by
 unfold zj4;cases zdZ x.Live (zX (address x)) (zbO w)
 .exact znh h hx
 .cases w
  .exact znh h (zM2 _ hx)
  .exact ⟨zzR h.1,zET h.2.1 (zkY hx),h.2.2⟩
@[simp] theorem z9A {b:Bare}{g:Int}{x:Guest}{w:Int}(h:SmB b)(hx:SmG x):SmB (zp3 b g x w):=by
 unfold zp3;cases (cond (zgo x.Ctl.Traps w) (ieq w 5) false)
 .exact znh h (zEf _ _ hx)
 .exact znh (zM0 h) (zEf _ _ hx)
@[simp] theorem zYE {b:Bare}{g:Int}{x:Guest}{w:Int}(h:SmB b)(hx:SmG x):SmB (stepped b g x w):=by
 unfold stepped;cases ieq w 1
 .cases ieq w 2
  .cases ieq w 3
   .cases ieq w 4
    .exact z9A h hx
    .exact zZx h hx
   .exact zZx h hx
  .exact znh h (zHq hx)
 .exact znh h (zZy hx)
@[simp] theorem zbbt {b:Bare}{g:Int}(h:SmB b):SmB (zeq b g):=by
 unfold zeq;cases zgh b g
 .exact h
 .exact zYE h (ziN g h)
theorem z1K (x:Guest):ieq (zF x) 0=false->ieq (zF x) 1=false->ieq (zF x) 2=false->ieq (zF x) 3=false->ieq (zF x) 4=false->ieq (zF x) 5=false->ieq (zF x) 6=false->ieq (zF x) 7=true:=by
 unfold zF zrm;cases canRun x
 .intro h;cases h
 .cases zfM x
  .simp only [cT,cF];generalize (zbY x.Prog x.Pc).Op=o;cases ieq o 3<;>cases ieq o 4<;>cases ieq o 5<;>cases ieq o 6<;>cases ieq o 7<;>simp [ieq]
  .intro _ h;cases h
theorem zZb {x:Int}{a b:Int}(h:ieq x a=true)(hab:ieq a b=false):ieq x b=false:=by
 have:x=a:=by simpa [ieq] using h
 rw[this];exact hab
@[simp] abbrev ztM (b:Bare)(g:Int):Bool:=pc (SmB b)
@[simp] abbrev ziq (b:Bare)(g:Int):Bare:=zeq b g
@[simp] abbrev zn4 (b:Bare)(g:Int):Bool:=zgh b g
def zpJ:Run:=rF2 (dT .bare) dI fun b c=>(ztM b c,[aT .bare (ziq b c),aB (zn4 b c)])
def zBw (N:Nat)(a0:Bare)(a1:Int):OA:=
 let y21:=a0.Memory;let y12:=(aT .bare (zei a0));let y0:=(zl8 a0 a1);let y20:=y0.Ctl.Traps;let y18:=(aT .bare (zdF a0 a1 (zmb y0)));let y6:=(zhe y0);let y15:=(aT .bare (zdF a0 a1 (ziQ y0 y6)));let y4:=(zkp y0);let y16:=(zfP y4);let y10:=(zdX y4);let y3:=(ieq y6 4);let y8:=(zh2 y10 y3);let y13:=(aT .bare (zdF a0 a1 (zf8 y0 y8)));let y2:=(zgk y0.Prog y0.Pc).X;let y19:=(zci (zpu a0 y2) a1 (zeh y0));let y11:=(aT .bare (zdF (zpu a0 y2) a1 (zeh y0)));let y9:=(zf8 y0 (zi3 y2));let y1:=(zhw y0.Live y10 (zeL y3));let y7:=(zm0 y21 y1 y16);let y14:=(aT .bare (zdF a0 a1 (zkr y0 y7)));let y5:=({ a0 with Memory:=(zlm y21 y1 y16 y0.A) }:Bare);let y17:=(aT .bare (zdF y5 a1 (zkt y0))); (oN (zww a0 a1) (oN (zi8 y0) (oN (zy1 a0) (cond (nB (zfF a0)) (oN (zhf a0) (some [y12,(aB false)])) (cond (nB (zl9 a0 a1)) (oN (zhf a0) (some [y12,(aB false)])) (cond (ieq y6 0) (oN (zhf a0) (some [y12,(aB false)])) (oN (zqj y0) (oN (zf7 y0.Prog y0.Pc) (cond (ieq y6 1) (oN (zn9 y0) (oN (zci a0 a1 (zhv y0)) (some [(aT .bare (zdF a0 a1 (zhv y0))),(aB true)]))) (cond (ieq y6 2) (oN (zwz y0) (oN (zci a0 a1 (znu y0)) (some [(aT .bare (zdF a0 a1 (znu y0))),(aB true)]))) (cond (ieq y6 3) (cond (ieq y6 3) (oN (zf6 y4) (oN (zob y3) (oN (zjv y0.Live y10 (zeL y3)) (cond (nB (zgq y0.Live y10 (zeL y3))) (oN (zf6 y4) (oN (zjs y10 y3) (oN (zfR y0 y8) (oN (zci a0 a1 (zf8 y0 y8)) (some [y13,(aB true)]))))) (cond y3 (oN (zf5 y4) (oN (zkv y21 y1 y16 y0.A) (oN (zoe y0) (oN (zci y5 a1 (zkt y0)) (some [y17,(aB true)]))))) (oN (zf5 y4) (oN (zn8 y21 y1 y16) (oN (zoa y0 y7) (oN (zci a0 a1 (zkr y0 y7)) (some [y14,(aB true)])))))))))) (cond (ieq y6 6) (oN (zn7 y2) (oN (zfR y0 (zi3 y2)) (oN (zci a0 a1 y9) (some [(aT .bare (zdF a0 a1 y9)),(aB true)])))) (oN (zoh y6) (oN (zjN y20 (zhg y6)) (cond (ziP y20 (zhg y6)) (oN (zmf y0 y6) (oN (zci a0 a1 (ziQ y0 y6)) (some [y15,(aB true)]))) (cond (ieq y6 5) (oN (zsD a0 y2) (oN (zev y0) (oN y19 (some [y11,(aB true)])))) (oN (zm1 y0) (oN (zci a0 a1 (zmb y0)) (some [y18,(aB true)]))))))))) (cond y3 (oN (zf6 y4) (oN (zob y3) (oN (zjv y0.Live y10 (zeL y3)) (cond (nB (zgq y0.Live y10 (zeL y3))) (oN (zf6 y4) (oN (zjs y10 y3) (oN (zfR y0 y8) (oN (zci a0 a1 (zf8 y0 y8)) (some [y13,(aB true)]))))) (cond y3 (oN (zf5 y4) (oN (zkv y21 y1 y16 y0.A) (oN (zoe y0) (oN (zci y5 a1 (zkt y0)) (some [y17,(aB true)]))))) (oN (zf5 y4) (oN (zn8 y21 y1 y16) (oN (zoa y0 y7) (oN (zci a0 a1 (zkr y0 y7)) (some [y14,(aB true)])))))))))) (cond (ieq y6 6) (oN (zn7 y2) (oN (zfR y0 (zi3 y2)) (oN (zci a0 a1 y9) (some [(aT .bare (zdF a0 a1 y9)),(aB true)])))) (oN (zoh y6) (oN (zjN y20 (zhg y6)) (cond (ziP y20 (zhg y6)) (oN (zmf y0 y6) (oN (zci a0 a1 (ziQ y0 y6)) (some [y15,(aB true)]))) (cond (ieq y6 5) (oN (zsD a0 y2) (oN (zev y0) (oN y19 (some [y11,(aB true)])))) (oN (zm1 y0) (oN (zci a0 a1 (zmb y0)) (some [y18,(aB true)]))))))))))))))))))))
theorem zOO (a0:Bare)(a1:Int)(hc:ztM a0 a1=true):∃N,zBw N a0 a1=some [aT .bare (ziq a0 a1),aB (zn4 a0 a1)]:=by
 have hs:=zD.1 hc;have hx:=ziN a1 hs;have hz:_/\_/\_:=hs;have hg:a0.Guests.length<=1048576:=hs.2.1.1;have hw7:=z1K (gAt a0 a1);have h34:ieq (zF (gAt a0 a1)) 3=true->ieq (zF (gAt a0 a1)) 4=false:=fun h=>zZb h rfl;have h57:ieq (zF (gAt a0 a1)) 5=true->ieq (zF (gAt a0 a1)) 7=false:=fun h=>zZb h rfl;have t1:=tr1 (gAt a0 a1) (gAt a0 a1).Ctl.Traps (zF (gAt a0 a1));have t2:=tr2 (gAt a0 a1) (gAt a0 a1).Ctl.Traps (zF (gAt a0 a1));have t3:=tr3 (gAt a0 a1) (gAt a0 a1).Ctl.Traps (zF (gAt a0 a1));have t4:=tr4 (gAt a0 a1) (gAt a0 a1).Ctl.Traps (zF (gAt a0 a1));have hp:∀n,SmB (ziC a0 n):=fun n=>zM0 hs
 refine ⟨0,?_⟩;unfold zBw oN nB
 conv=>zeta
 refine mu (must rfl (must rfl (brN (fun _=>mu ?_) (fun _=>brN (fun _=>mu ?_) (fun _=>br (fun _=>mu ?_) (fun _=>must rfl (must rfl (br (fun _=>mu (mu ?_)) (fun _=>br (fun _=>mu (mu ?_)) (fun _=>br (fun _=>br (fun _=>must rfl (must rfl (must rfl (brN (fun _=>must rfl (must rfl (mu (mu ?_)))) (fun _=>br (fun _=>must rfl (mu (mu (mu ?_)))) (fun _=>must rfl (must rfl (mu (mu ?_))))))))) (fun _=>br (fun _=>must rfl (mu (mu ?_))) (fun _=>must rfl (must rfl (br (fun _=>mu (mu ?_)) (fun _=>br (fun _=>mu (mu (mu ?_))) (fun _=>mu (mu ?_)))))))) (fun _=>br (fun _=>must rfl (must rfl (must rfl (brN (fun _=>must rfl (must rfl (mu (mu ?_)))) (fun _=>br (fun _=>must rfl (mu (mu (mu ?_)))) (fun _=>must rfl (must rfl (mu (mu ?_))))))))) (fun _=>br (fun _=>must rfl (mu (mu ?_))) (fun _=>must rfl (must rfl (br (fun _=>mu (mu ?_)) (fun _=>br (fun _=>mu (mu (mu ?_))) (fun _=>mu (mu ?_))))))))))))))))))
 all_goals first|rfl|(simp only [*,ziq,zn4,zeq,zgh,stepped,zj4,zp3,zrA,zbO,cT,cF]<;>rfl)|simp_all[Ty.cells,ziq,zn4,zeq,zgh,stepped,zj4,zp3,zrA,zbO]
theorem ztI:u3 70 zpJ:=kF2 zmW zk zl zo (zq []) zOO
def SmK (k:Kept):Prop:=k.Known.length<=1048576/\k.Slots.length<=1048576
def zB9 (l:List Kept):Prop:=l.length<=1048576/\∀x∈l,SmK x
def zfw (m:Mon):Prop:=m.Outer.length<=1048576/\SmM m.Out/\m.Dirty.length<=1048576/\zmT m.Guests/\m.Outs.length<=1048576/\zB9 m.Tables
def zq1 (l:List Mon):Prop:=l.length<=1048576/\∀x∈l,zfw x
def SmH (h:Host):Prop:=SmM h.Memory/\zq1 h.Mons/\h.Buffer.length<=1048576/\h.IoBuffer.length<=1048576
@[simp] theorem zxj (k:Kept):(∀c∈Ty.cells .kept k,CVB sm c)↔SmK k:=by simp[Ty.cells,SmK,z6o]
@[simp] theorem z5k (l:List Kept):CVB sm (.s .kept l)↔zB9 l:=by rw[zlc];simp only[zxj];rfl
@[simp] theorem zYW (m:Mon):(∀c∈Ty.cells .mon m,CVB sm c)↔zfw m:=by
 simp only[Ty.cells,qI,qU,or_false,u0,forall_eq,zpn,zu4,z5k,z0h,zXt,zXs,z7G,and_true,true_and];rfl
@[simp] theorem z8K (l:List Mon):CVB sm (.s .mon l)↔zq1 l:=by rw[zlc];simp only[zYW];rfl
@[simp] theorem zJ (h:Host):zcd h↔SmH h:=by
 unfold zcd;simp only[zba,qI,qU,or_false,u0,forall_eq,zpn,z8K,zUg];rfl
theorem zbb {p:Prop}(h:p):pc p=true:=zbe h
theorem zyt {l:List Kept}{i:Int}{x:Kept}(h:zB9 l)(hx:SmK x):zB9 (up l i x):=by
 refine ⟨by simpa using h.1,fun y hy=>?_⟩
 rcases qY hy with hy|rfl
 .exact h.2 y hy
 .exact hx
theorem ziW {l:List Mon}{i:Int}{x:Mon}(h:zq1 l)(hx:zfw x):zq1 (up l i x):=by
 refine ⟨by simpa using h.1,fun y hy=>?_⟩
 rcases qY hy with hy|rfl
 .exact h.2 y hy
 .exact hx
theorem zno {α:Type}{l:List α}(h:l.length<=1048576):few (ln (ap [] l))=true:=by
 rw[zl5,z8S];omega
@[simp] abbrev zbI (h:Host):Bool:=pc (zcd h)
@[simp] abbrev zu (h:Host):Host:=h
def zA3:Run:=rF1 dH fun b=>(zbI b,[aH (zu b)])
def zGz (N:Nat)(a0:Host):OA:=
 (oN (zfV a0.Memory) (oN (few (ln (ap [] a0.Buffer))) (oN (few (ln (ap [] a0.IoBuffer))) (iter (σ:=(Int×(lM×(lN×(lE×(lE×(lM×(lN×(lE×(lE×(lM×(lN×(lE×(lE×Unit)))))))))))))) N (fun r2 s3=>let y2:=s3.2.2.2.2.2.2.2.2.2.2.2.2.1;let y1:=(ix s3.2.2.1 s3.1 zf);let y0:=(ap s3.2.2.2.2.2.2.2.2.2.2.1 [(zp0 y1)]); (cond (ilt s3.1 (ln s3.2.2.1)) (oN (inb s3.1 (ln s3.2.2.1)) (oN (zo9 y1) (oN (few (ln y0)) (r2 ((zG .i64 s3.1 1),(s3.2.1,(s3.2.2.1,(s3.2.2.2.1,(s3.2.2.2.2.1,(s3.2.2.2.2.2.1,(s3.2.2.2.2.2.2.1,(s3.2.2.2.2.2.2.2.1,(s3.2.2.2.2.2.2.2.2.1,(s3.2.2.2.2.2.2.2.2.2.1,(y0,(s3.2.2.2.2.2.2.2.2.2.2.2.1,(y2,()))))))))))))))))) (some [(aH (⟨s3.2.2.2.2.2.2.2.2.2.1,s3.2.2.2.2.2.2.2.2.2.2.1,s3.2.2.2.2.2.2.2.2.2.2.2.1,y2⟩:Host))]))) (0,(a0.Memory,(a0.Mons,(a0.Buffer,(a0.IoBuffer,([],([],([],([],((zew a0.Memory),([],((ap [] a0.Buffer),((ap [] a0.IoBuffer),())))))))))))))))))
def zTg:FuncId->Nat->Option Tmpl:=zq [(107,0,{ n:=36,tm:=[(1,.lp 0 0),(2,.lp 1 0),(3,.lp 2 0),(4,ti)],lo:=[(0,[.sl 0 [],.sl 1 [],.sl 2 [],.sl 3 []]),(1,[.sl 4 [],.sl 5 [],.sl 6 [],.sl 7 []]),(2,[.sl 8 [],.sl 9 [],.sl 10 [],.sl 11 []])],ro:=[(0,(.sl .int),false),(1,.mon,false),(2,.entry,false),(3,.entry,false),(4,(.sl .int),true),(5,.mon,true),(6,.entry,true),(7,.entry,true),(8,(.sl .int),true),(9,.mon,true),(10,.entry,true),(11,.entry,true)] })]
theorem zST (a0:Host)(hc:zbI a0=true):∃N,zGz N a0=some [aH (zu a0)]:=by
 obtain ⟨h1,h2,h3,h4⟩:=(zJ a0).1 (zD.1 hc);have hl:=zcK h2.1;refine zb8 fun N hNN=>?_;unfold zGz oN
 conv=>zeta
 refine must (zbb ((zpn _).2 h1)) (must (zno h3) (must (zno h4) ?_));refine (zbc a0.Mons (fun i (t:lN)=>((i:Int),a0.Memory,a0.Mons,a0.Buffer,a0.IoBuffer,[],[],[],[],(zew a0.Memory),t,(ap [] a0.Buffer),(ap [] a0.IoBuffer),())) _ (fun _ x acc κ=>bif zo9 x then (cond (few (ln (ap acc [zp0 x]))) (κ (ap acc [zp0 x])) none) else none) (fun (t:lN)=>(some [(.agg (zba (⟨(zew a0.Memory),t,(ap [] a0.Buffer),(ap [] a0.IoBuffer)⟩:Host)))])) (fun i hi t rec=>?_) (fun t rec=>?_) _ ([]) (hNN hl.1)).trans ?_
 .simp only [zbo hi,zY hi,zbd hi,zW hi hl.1,cT]
 .simp only [zbf,cF]
 exact ziX zo9 zp0 _ a0.Mons 0 [] (fun x hx=>⟨zbb ((zYW x).2 (h2.2 x hx)),rfl⟩) (by simpa using hl.2)
theorem zLK:u3 107 zA3:=kF1 zmW zk zl zo zTg zST
@[simp] abbrev zf9 (k:Kept):Bool:=pc (SmK k)
@[simp] abbrev zdd (k:Kept):Kept:=k
def zxV:Run:=rF1 (dT .kept) fun b=>(zf9 b,[aT .kept (zdd b)])
def zBH (N:Nat)(a0:Kept):OA:=
 (oN (few (ln (ap [] a0.Known))) (oN (zgr a0.Slots) (some [(aT .kept (⟨(ap [] a0.Known),(zeX a0.Slots)⟩:Kept))])))
theorem zO0 (a0:Kept)(hc:zf9 a0=true):∃N,zBH N a0=some [aT .kept (zdd a0)]:=by
 have hs:=zD.1 hc;obtain ⟨h1,h2⟩:=hs;have hs1:a0.Known.length<=2147483648:=(by omega);have hs2:a0.Slots.length<=2147483648:=(by omega)
 refine ⟨0,?_⟩;unfold zBH oN;refine mu (mu ?_)
 first|rfl|(simp only [*,zdd,cT,cF]<;>rfl)|simp_all[Ty.cells,zdd]
theorem zIe:u3 165 zxV:=kF1 zmW zk zl zo (zq []) zO0
def z7i:zQ:=[(107,zA3),(165,zxV)]++zZ7
theorem zT9:zI z7i:=zh zLK (zh zIe zmW)
@[simp] abbrev zjO (m:Mon):Bool:=pc (zfw m)
@[simp] abbrev zkx (m:Mon):Mon:=m
def zAC:Run:=rF1 (dT .mon) fun b=>(zjO b,[aT .mon (zkx b)])
def zF5 (N:Nat)(a0:Mon):OA:=
 (oN (zgr a0.Outer) (oN (zfS a0.Out) (oN (few (ln (ap [] a0.Dirty))) (oN (zit a0.Guests) (oN (zdB a0.Outs) (iter (σ:=(Int×(Int×(Int×(Int×(Int×(Int×(Int×(Int×(lK×(lK×(lS×(lM×(lB×(lG×((List Int)×(lS×(lM×(lB×(lG×((List Int)×(lK×Unit)))))))))))))))))))))) N (fun r2 s3=>let y5:=s3.2.2.2.2.2.2.2.2.2.2.2.2.1;let y4:=s3.2.2.2.2.2.2.2.2.2.2.2.2.2.1;let y3:=s3.2.2.2.2.2.2.2.2.2.2.2.2.2.2.1;let y2:=s3.2.2.2.2.2.2.2.2.1;let y1:=s3.2.2.2.2.2.2.2.2.2.1;let y0:=(ix y1 s3.2.1 zd0); (cond (ilt s3.2.1 s3.1) (oN (inb s3.2.1 (ln y1)) (oN (zf9 y0) (oN (few (ln (ap y2 [(zdd y0)]))) (r2 (s3.1,((zG .i64 s3.2.1 1),(s3.2.2.1,(s3.2.2.2.1,(s3.2.2.2.2.1,(s3.2.2.2.2.2.1,(s3.2.2.2.2.2.2.1,(s3.2.2.2.2.2.2.2.1,((ap y2 [(zdd y0)]),(y1,(s3.2.2.2.2.2.2.2.2.2.2.1,(s3.2.2.2.2.2.2.2.2.2.2.2.1,(y5,(y4,(y3,(s3.2.2.2.2.2.2.2.2.2.2.2.2.2.2.2.1,(s3.2.2.2.2.2.2.2.2.2.2.2.2.2.2.2.2.1,(s3.2.2.2.2.2.2.2.2.2.2.2.2.2.2.2.2.2.1,(s3.2.2.2.2.2.2.2.2.2.2.2.2.2.2.2.2.2.2.1,(s3.2.2.2.2.2.2.2.2.2.2.2.2.2.2.2.2.2.2.2.1,(s3.2.2.2.2.2.2.2.2.2.2.2.2.2.2.2.2.2.2.2.2.1,()))))))))))))))))))))))))) (some [(aT .mon (⟨s3.2.2.2.2.2.2.2.2.2.2.1,s3.2.2.2.2.2.2.2.2.2.2.2.1,y5,y4,y3,s3.2.2.1,s3.2.2.2.1,y2,s3.2.2.2.2.1⟩:Mon))]))) ((ln a0.Tables),(0,(a0.Pending,(a0.Traps,(a0.Own,(0,(0,(0,([],(a0.Tables,((zeX a0.Outer),((zdp a0.Out),((ap [] a0.Dirty),((zis a0.Guests),((zdu a0.Outs),([],([],([],([],([],([],())))))))))))))))))))))))))))
def zTb:FuncId->Nat->Option Tmpl:=zq [(103,0,{ n:=44,tm:=[(1,.lp 0 0),(2,.lp 1 0),(3,.sl 0 []),(29,.sl 1 []),(30,ti),(31,ti)],lo:=[(0,[.sl 2 [],.sl 3 [],.sl 4 [],.sl 5 [],.sl 6 [],ti,ti,.sl 1 [],ti]),(1,[.sl 7 [],.sl 8 [],.sl 9 [],.sl 10 [],.sl 11 [],ti,ti,.sl 12 [],ti])],ro:=[(0,.kept,true),(1,.kept,false),(2,.slot,true),(3,(.sl .int),true),(4,.bool,true),(5,.guest,true),(6,.int,true),(7,.slot,true),(8,(.sl .int),true),(9,.bool,true),(10,.guest,true),(11,.int,true),(12,.kept,true)] })]
theorem zSl (a0:Mon)(hc:zjO a0=true):∃N,zF5 N a0=some [aT .mon (zkx a0)]:=by
 obtain ⟨h1,h2,h3,h4,h5,h6⟩:=zD.1 hc;have hl:=zcK h6.1;refine zb8 fun N hNN=>?_;unfold zF5 oN
 conv=>zeta
 have c1:zgr a0.Outer=true:=by simp;omega
 have c2:zfS a0.Out=true:=by simp;exact h2
 have c4:zit a0.Guests=true:=by simp;exact h4
 have c5:zdB a0.Outs=true:=by simp;omega
 refine must c1 (must c2 (must (zno h3) (must c4 (must c5 ?_))));refine (zbc a0.Tables (fun i (t:lK)=>((ln a0.Tables),(i:Int),a0.Pending,a0.Traps,a0.Own,0,0,0,t,a0.Tables,(zeX a0.Outer),(zdp a0.Out),(ap [] a0.Dirty),(zis a0.Guests),(zdu a0.Outs),[],[],[],[],[],[],())) _ (fun _ x acc κ=>bif zf9 x then (cond (few (ln (ap acc [zdd x]))) (κ (ap acc [zdd x])) none) else none) (fun (t:lK)=>(some [(.agg (Ty.cells .mon (⟨(zeX a0.Outer),(zdp a0.Out),(ap [] a0.Dirty),(zis a0.Guests),(zdu a0.Outs),a0.Pending,a0.Traps,t,a0.Own⟩:Mon)))])) (fun i hi t rec=>?_) (fun t rec=>?_) _ ([]) (hNN hl.1)).trans ?_
 .simp only [zbo hi,zY hi,zbd hi,zW hi hl.1,cT]
 .simp only [zbf,cF]
 exact ziX zf9 zdd _ a0.Tables 0 [] (fun x hx=>⟨zbb (h6.2 x hx),rfl⟩) (by simpa using hl.2)
theorem zLg:u3 103 zAC:=kF1 zT9 zk zl zo zTb zSl
def z7j:zQ:=[(103,zAC)]++z7i
theorem zyK:zI z7j:=zh zLg zT9
@[simp] abbrev ziu (h:Host):Bool:=pc (zcd h)
@[simp] abbrev zbs (h:Host):Host:=h
def zxT:Run:=rF1 dH fun b=>(ziu b,[aH (zbs b)])
def zBF (N:Nat)(a0:Host):OA:=
 (oN (zfS a0.Memory) (oN (few (ln (ap [] a0.Buffer))) (oN (few (ln (ap [] a0.IoBuffer))) (iter (σ:=(Int×(Int×(lN×(lM×(lN×(lE×(lE×(lM×(lN×(lE×(lE×Unit)))))))))))) N (fun r2 s3=>let y1:=(ix s3.2.2.1 s3.2.1 zf);let y0:=(ap s3.2.2.2.2.2.2.2.2.1 [(zkx y1)]); (cond (ilt s3.2.1 s3.1) (oN (inb s3.2.1 (ln s3.2.2.1)) (oN (zjO y1) (oN (few (ln y0)) (r2 (s3.1,((zG .i64 s3.2.1 1),(s3.2.2.1,(s3.2.2.2.1,(s3.2.2.2.2.1,(s3.2.2.2.2.2.1,(s3.2.2.2.2.2.2.1,(s3.2.2.2.2.2.2.2.1,(y0,(s3.2.2.2.2.2.2.2.2.2.1,(s3.2.2.2.2.2.2.2.2.2.2.1,()))))))))))))))) (some [(aH (⟨s3.2.2.2.2.2.2.2.1,s3.2.2.2.2.2.2.2.2.1,s3.2.2.2.2.2.2.2.2.2.1,s3.2.2.2.2.2.2.2.2.2.2.1⟩:Host))]))) ((ln a0.Mons),(0,(a0.Mons,([],([],([],([],((zdp a0.Memory),([],((ap [] a0.Buffer),((ap [] a0.IoBuffer),())))))))))))))))
def zPS:FuncId->Nat->Option Tmpl:=zq [(38,0,{ n:=34,tm:=[(2,.lp 0 0),(3,.lp 1 0),(19,.sl 0 []),(20,ti),(21,ti)],lo:=[(0,[.sl 1 [],.sl 2 [],.sl 3 [],.sl 4 []]),(1,[.sl 5 [],.sl 6 [],.sl 7 [],.sl 8 []])],ro:=[(0,.mon,false),(1,(.sl .int),true),(2,.mon,true),(3,.entry,true),(4,.entry,true),(5,(.sl .int),true),(6,.mon,true),(7,.entry,true),(8,.entry,true)] })]
theorem zOY (a0:Host)(hc:ziu a0=true):∃N,zBF N a0=some [aH (zbs a0)]:=by
 obtain ⟨h1,h2,h3,h4⟩:=(zJ a0).1 (zD.1 hc);have hl:=zcK h2.1;refine zb8 fun N hNN=>?_;unfold zBF oN
 conv=>zeta
 have c1:zfS a0.Memory=true:=by simp;exact h1
 refine must c1 (must (zno h3) (must (zno h4) ?_));refine (zbc a0.Mons (fun i (t:lN)=>((ln a0.Mons),(i:Int),a0.Mons,[],[],[],[],(zdp a0.Memory),t,(ap [] a0.Buffer),(ap [] a0.IoBuffer),())) _ (fun _ x acc κ=>bif zjO x then (cond (few (ln (ap acc [zkx x]))) (κ (ap acc [zkx x])) none) else none) (fun (t:lN)=>(some [(.agg (zba (⟨(zdp a0.Memory),t,(ap [] a0.Buffer),(ap [] a0.IoBuffer)⟩:Host)))])) (fun i hi t rec=>?_) (fun t rec=>?_) _ ([]) (hNN hl.1)).trans ?_
 .simp only [zbo hi,zY hi,zbd hi,zW hi hl.1,cT]
 .simp only [zbf,cF]
 exact ziX zjO zkx _ a0.Mons 0 [] (fun x hx=>⟨zbb (h2.2 x hx),rfl⟩) (by simpa using hl.2)
theorem zIc:u3 38 zxT:=kF1 zyK zk zl zo zPS zOY
def allI {α:Type}(p:Nat->α->Bool):List α->Nat->Bool
 | [],_=>true
 | x :: l,i=>p i x&&allI p l (i+1)
theorem zHY {α ρ:Type}(p:Nat->α->Bool)(r:Option ρ)(K:Unit->Option ρ):∀(l:List α) (i:Nat),goL (fun i x (_:Unit) k=>bif p i x then k () else r) K l i ()=bif allI p l i then K () else r
 | [],_=>rfl
 | x :: l,i=>by
  simp only[goL,allI];cases p i x
  .rfl
  .simp only [cT,Bool.true_and];exact zHY p r K l (i+1)
theorem zQz {α:Type}(q:α->Bool)(l:List α)(d:α):∀(n i:Nat),i+n<=l.length->znT (fun j=>q (ix l (j:Int) d)) n i=((l.drop i).take n).all q
 | 0,i,_=>by simp[znT]
 | n+1,i,h=>by
  have hi:i<l.length:=by omega
  rw[kH hi,List.take_succ_cons,k9,<- zQz q l d n (i+1) (by omega)]
  simp only[znT,zbd hi]
def sameKey (a b:Entry):Bool:=bif ieq a.Tag b.Tag then ieq a.Page b.Page else false
def alone (l:List Entry)(i:Nat)(x:Entry):Bool:=(l.take i).all fun y=>!sameKey x y
def zeU (l:List Entry):Bool:=bif allI (alone l) l 0 then ile (ln l) 6 else false
theorem z5x {α:Type}{l:List α}{i:Nat}(h:i<=l.length):inr 0 (i:Int) (ln l)=true:=qJ (by simp only[ln];omega)
@[simp] abbrev zn6 (l:List Entry):Bool:=true
@[simp] abbrev zn5 (l:List Entry):Bool:=zeU l
def zxK:Run:=rF1 (dS .entry) fun b=>(zn6 b,[aB (zn5 b)])
def zBx (N:Nat)(a0:lE):OA:=
 (iter (σ:=(Int×(Int×(lE×Unit)))) N (fun r2 s3=>let y3:=s3.2.2.1;let y1:=(ix y3 s3.2.1 zeo); (cond (ilt s3.2.1 s3.1) (oN (inb s3.2.1 (ln y3)) (oN (inr 0 s3.2.1 (ln y3)) (iter (σ:=(Int×(Int×(Int×(Int×(Int×(Int×(Int×(Int×(lE×(lE×Unit))))))))))) N (fun r4 s5=>let y4:=s5.2.2.2.1;let y2:=s5.2.2.2.2.2.2.2.2.2.1;let y0:=(r4 (s5.1,(s5.2.1,(s5.2.2.1,((zG .i64 y4 1),(s5.2.2.2.2.1,(s5.2.2.2.2.2.1,(s5.2.2.2.2.2.2.1,(s5.2.2.2.2.2.2.2.1,(s5.2.2.2.2.2.2.2.2.1,(y2,()))))))))))); (cond (ilt y4 s5.2.2.1) (oN (inb y4 (ln y2)) (cond (ieq s5.2.2.2.2.1 (ix y2 y4 zeo).Tag) (cond (ieq s5.2.2.2.2.2.1 (ix y2 y4 zeo).Page) oF y0) y0)) (r2 (s5.1,((zG .i64 s5.2.1 1),(s5.2.2.2.2.2.2.2.2.1,())))))) (s3.1,(s3.2.1,((ln (tk y3 s3.2.1)),(0,(y1.Tag,(y1.Page,(y1.Host,(y1.Rights,(y3,((tk y3 s3.2.1),()))))))))))))) (some [(aB (ile (ln y3) 6))]))) ((ln a0),(0,(a0,()))))
def zPR:FuncId->Nat->Option Tmpl:=zq [(134,0,{ n:=39,tm:=[(0,.sl 0 []),(7,.sl 0 []),(8,ti),(9,ti)],lo:=[],ro:=[(0,.entry,false)] }),(134,2,{ n:=39,tm:=[(0,.sl 0 []),(4,.lp 0 0),(7,.sl 0 []),(8,ti),(9,ti),(16,.sl 1 []),(17,ti),(18,ti)],lo:=[(0,[ti,ti,ti,ti])],ro:=[(0,.entry,false),(1,.entry,false)] })]
theorem zOP (a0:List Entry)(hb:zbD big [aS .entry a0])(hc:zn6 a0=true):∃N,zBx N a0=some [aB (zn5 a0)]:=by
 have hl:=(len0 hb);refine zb8 fun N hNN=>?_;unfold zBx oN
 conv=>zeta
 refine (zbc a0 (fun i (t:Unit)=>((ln a0),(i:Int),a0,())) _ (fun i (x:Entry) (_:Unit) κ=>bif alone a0 i x then κ () else oF) (fun (t:Unit)=>(some [(.one (.b (ile (ln a0) 6)))])) (fun i hi t rec=>?_) (fun t rec=>?_) _ () (hNN hl)).trans ?_
 .simp only [zbo hi,zY hi,zbd hi,zW hi hl,cT];rw[z5x (Nat.le_of_lt hi),cT];have hk:(tk a0 (i:Int)).length<=big:=jB (by simp[tk];omega) hl
  refine (zbc (tk a0 (i:Int)) (fun j (u:Unit)=>((ln a0),(i:Int),(ln (tk a0 (i:Int))),(j:Int),a0[i].Tag,a0[i].Page,a0[i].Host,a0[i].Rights,a0,(tk a0 (i:Int)),())) _ (fun _ (y:Entry) (_:Unit) κ=>bif !sameKey a0[i] y then κ () else oF) (fun (u:Unit)=>(rec ((ln a0),((((i+1:Nat)):Int),(a0,()))))) (fun j hj u rec1=>?_) (fun u rec1=>?_) _ () (hNN hk)).trans ?_
  .simp only [zbo hj,zY hj,zbd hj,zW hj hk,cT,zW hi hl];unfold sameKey;cases ieq a0[i].Tag (tk a0 (i:Int))[j].Tag<;>cases ieq a0[i].Page (tk a0 (i:Int))[j].Page<;>rfl
  .simp only [zbf,cF,zW hi hl]
  rw[zgj (fun y=>!sameKey a0[i] y)];rfl
 .simp only [zbf,cF]
 rw[zHY (alone a0)];unfold zn5 zeU;cases allI (alone a0) a0 0<;>rfl
theorem zH3:u3 134 zxK:=hF1 zyK zk zl zo zPR zOP
@[simp] abbrev zoK (l:List Entry):Bool:=true
@[simp] abbrev zoJ (l:List Entry):Bool:=zeU l
def zx4:Run:=rF1 (dS .entry) fun b=>(zoK b,[aB (zoJ b)])
def zBS (N:Nat)(a0:lE):OA:=
 (iter (σ:=(Int×(lE×Unit))) N (fun r2 s3=>(cond (ilt s3.1 (ln s3.2.1)) (iter (σ:=(Int×(Int×(lE×Unit)))) N (fun r4 s5=>let y0:=s5.2.2.1;let y2:=(ix y0 s5.2.1 zeo);let y1:=(r4 (s5.1,((zG .i64 s5.2.1 1),(y0,())))); (cond (ilt s5.2.1 s5.1) (oN (inb s5.1 (ln y0)) (oN (inb s5.2.1 (ln y0)) (cond (ieq (ix y0 s5.1 zeo).Tag y2.Tag) (oN (inb s5.1 (ln y0)) (oN (inb s5.2.1 (ln y0)) (cond (ieq (ix y0 s5.1 zeo).Page y2.Page) oF y1))) y1))) (r2 ((zG .i64 s5.1 1),(y0,()))))) (s3.1,(0,(s3.2.1,())))) (some [(aB (ile (ln s3.2.1) 6))]))) (0,(a0,())))
def zPX:FuncId->Nat->Option Tmpl:=zq [(306,0,{ n:=43,tm:=[(0,.sl 0 []),(3,ti)],lo:=[],ro:=[(0,.entry,false)] }),(306,2,{ n:=43,tm:=[(0,.sl 0 []),(3,ti),(4,ti)],lo:=[],ro:=[(0,.entry,false)] })]
theorem zPa (a0:List Entry)(hb:zbD big [aS .entry a0])(hc:zoK a0=true):∃N,zBS N a0=some [aB (zoJ a0)]:=by
 have hl:=(len0 hb);refine zb8 fun N hNN=>?_;unfold zBS oN
 conv=>zeta
 refine (zbc a0 (fun i (t:Unit)=>((i:Int),a0,())) _ (fun i (x:Entry) (_:Unit) κ=>bif alone a0 i x then κ () else oF) (fun (t:Unit)=>(some [(.one (.b (ile (ln a0) 6)))])) (fun i hi t rec=>?_) (fun t rec=>?_) _ () (hNN hl)).trans ?_
 .simp only [zbo hi,zY hi,zbd hi,zW hi hl,cT];refine (zzk i (fun (j:Nat) (_:Unit)=>((i:Int),((j:Int),(a0,())))) _ (fun j (_:Unit) κ=>bif !sameKey a0[i] (ix a0 (j:Int) zeo) then κ () else oF) (fun _=>rec (((i+1:Nat):Int),(a0,()))) (fun j hj u rec1=>?_) (fun u rec1=>?_) _ () (hNN (by omega))).trans ?_
  .have hj2:j<a0.length:=by omega
   simp only[show ilt (j:Int) (i:Int)=true from qJ (by omega),zY hi,zY hj2,zbd hi,zW hj2 hl,cT]
   unfold sameKey;cases ieq a0[i].Tag (ix a0 (j:Int) zeo).Tag<;>cases ieq a0[i].Page (ix a0 (j:Int) zeo).Page<;>rfl
  .simp only [show ilt (i:Int) (i:Int)=false from qH (by omega),zW hi hl,cF]
  rw[zEE (fun j=>!sameKey a0[i] (ix a0 (j:Int) zeo)),zQz (fun y=>!sameKey a0[i] y) a0 _ i 0 (by omega)]
  rfl
 .simp only [zbf,cF]
 rw[zHY (alone a0)];unfold zoJ zeU;cases allI (alone a0) a0 0<;>rfl
theorem zIn:u3 306 zx4:=hF1 zyK zk zl zo zPX zPa
def z7k:zQ:=[(38,zxT),(306,zx4),(134,zxK)]++z7j
theorem zHN:zI z7k:=zh zIc (zh zIn (zh zH3 zyK))
theorem zOI (a b:Int):igt a b = !ile a b:=by
 unfold igt ile
 by_cases h:a<=b
 .rw [qJ h,qH (by omega)];rfl
 .rw [qH h,qJ (by omega)];rfl
theorem stB {c M:Bool}{E:OA}(h:c=true->E=some [AV.one (.b M)]):(cond (cond c false true) (some [AV.one (.b false)]) E)=some [AV.one (.b (cond c M false))]:=by
 cases c
 .rfl
 .exact h rfl
theorem stI {a b:Int}{M:Bool}{E:OA}(h:ieq a b=true->E=some [AV.one (.b M)]):(cond (ine a b) (some [AV.one (.b false)]) E)=some [AV.one (.b (cond (ieq a b) M false))]:=by
 rw[zln];cases hh:ieq a b
 .rfl
 .exact h hh
theorem stG {a b:Int}{M:Bool}{E:OA}(h:ile a b=true->E=some [AV.one (.b M)]):(cond (igt a b) (some [AV.one (.b false)]) E)=some [AV.one (.b (cond (ile a b) M false))]:=by
 rw[zOI];cases hh:ile a b
 .rfl
 .exact h hh
def zlt (s:Slot)(p:List Int):Bool:=bif zcJ s noSlot then zb6 p else (cond (enough s.Rights 1) (ile (ln p) 0) false)
def fits (m:Mon)(j:Nat):Bool:=zlt (ix m.Outer (j:Int) zN) (ix m.Out (j:Int) [])
def zd3 (m:Mon):Bool:=bif win (ln m.Guests) 1 2 then (cond (ieq (ln m.Tables) (ln m.Guests)) (cond (zcF m.Outer 8 12) (cond (ieq (ln m.Out) 8) (cond (ieq (ln m.Dirty) 8) (cond (ile (ln m.Outs) 40) (cond (zcQ m.Pending) (cond (win m.Traps 0 3) (cond (win m.Own 0 1000000000) (cond (m.Guests.all zcU) (znT (fits m) 8 0) false) false) false) false) false) false) false) false) false) else false
theorem zrz {t:List Slot}{n p:Int}(h:zcF t n p=true):ln t=n:=by
 unfold zcF at h;cases h1:t.all (fun s=>zdD s p)
 .rw [h1]at h;cases h
 .rw [h1]at h;exact qD h
@[simp] abbrev zrj (m:Mon):Bool:=true
@[simp] abbrev ztd (m:Mon):Bool:=zd3 m
def zG3:Run:=rF1 (dT .mon) fun b=>(zrj b,[aB (ztd b)])
def zQh (N:Nat)(a0:Mon):OA:=
 let y5:=(ln a0.Guests); (oN (zbG y5 1 2) (cond (nB (zbW y5 1 2)) oF (cond (ine (ln a0.Tables) y5) oF (oN (zmc a0.Outer 8 12) (cond (nB (zhL a0.Outer 8 12)) oF (cond (ine (ln a0.Out) 8) oF (cond (ine (ln a0.Dirty) 8) oF (cond (igt (ln a0.Outs) 40) oF (oN (zi6 a0.Pending) (cond (nB (zi5 a0.Pending)) oF (oN (zbG a0.Traps 0 3) (cond (nB (zbW a0.Traps 0 3)) oF (oN (zbG a0.Own 0 1000000000) (cond (nB (zbW a0.Own 0 1000000000)) oF (iter (σ:=(Int×(Int×(Int×(Int×(Int×(lG×(lS×(lM×(lB×((List Int)×(lK×Unit)))))))))))) N (fun r2 s3=>let y6:=s3.2.2.2.2.2.2.1;let y3:=s3.2.2.2.2.2.1;let y7:=(ix y3 s3.2.1 zi); (cond (ilt s3.2.1 s3.1) (oN (inb s3.2.1 (ln y3)) (oN (zma y7) (cond (nB (zkq y7)) oF (r2 (s3.1,((zG .i64 s3.2.1 1),(s3.2.2.1,(s3.2.2.2.1,(s3.2.2.2.2.1,(y3,(y6,(s3.2.2.2.2.2.2.2.1,(s3.2.2.2.2.2.2.2.2.1,(s3.2.2.2.2.2.2.2.2.2.1,(s3.2.2.2.2.2.2.2.2.2.2.1,()))))))))))))))) (iter (σ:=(Int×(Int×(Int×(Int×(Int×(lS×(lM×(lB×(lG×((List Int)×(lK×Unit)))))))))))) N (fun r4 s5=>let y4:=s5.2.1;let y2:=s5.2.2.2.2.2.2.1;let y1:=(ix s5.2.2.2.2.2.1 y4 zN);let y0:=(r4 (s5.1,((zG .i64 y4 1),(s5.2.2.1,(s5.2.2.2.1,(s5.2.2.2.2.1,(s5.2.2.2.2.2.1,(y2,(s5.2.2.2.2.2.2.2.1,(s5.2.2.2.2.2.2.2.2.1,(s5.2.2.2.2.2.2.2.2.2.1,(s5.2.2.2.2.2.2.2.2.2.2.1,())))))))))))); (cond (ilt y4 s5.1) (oN (inb y4 (ln s5.2.2.2.2.2.1)) (oN zdc (cond (cond (ieq y1.Page zcw.Page) (ieq y1.Rights zcw.Rights) false) (oN (inb y4 (ln y2)) (oN (zhK (ix y2 y4 [])) (cond (nB (zgp (ix y2 y4 []))) oF y0))) (oN (zds y1.Rights 1) (cond (nB (zdT y1.Rights 1)) oF (oN (inb y4 (ln y2)) (cond (igt (ln (ix y2 y4 [])) 0) oF y0))))))) oT)) ((ln y6),(0,(s3.2.2.1,(s3.2.2.2.1,(s3.2.2.2.2.1,(y6,(s3.2.2.2.2.2.2.2.1,(s3.2.2.2.2.2.2.2.2.1,(y3,(s3.2.2.2.2.2.2.2.2.2.1,(s3.2.2.2.2.2.2.2.2.2.2.1,())))))))))))))) (y5,(0,(a0.Pending,(a0.Traps,(a0.Own,(a0.Guests,(a0.Outer,(a0.Out,(a0.Dirty,(a0.Outs,(a0.Tables,()))))))))))))))))))))))))))
def zYG:FuncId->Nat->Option Tmpl:=zq [(135,0,{ n:=106,tm:=[(1,.lp 0 0),(64,.sl 0 []),(65,ti),(66,ti)],lo:=[(0,[.sl 1 [],.sl 2 [],.sl 3 [],.sl 0 [],.sl 4 [],ti,ti,.sl 5 [],ti])],ro:=[(0,.guest,false),(1,.slot,false),(2,(.sl .int),false),(3,.bool,false),(4,.int,false),(5,.kept,false)] }),(135,2,{ n:=106,tm:=[(1,.lp 0 0),(75,.sl 0 []),(76,ti),(77,ti)],lo:=[(0,[.sl 0 [],.sl 1 [],.sl 2 [],.sl 3 [],.sl 4 [],ti,ti,.sl 5 [],ti])],ro:=[(0,.slot,false),(1,(.sl .int),false),(2,.bool,false),(3,.guest,false),(4,.int,false),(5,.kept,false)] })]
theorem zXM (a0:Mon)(hb:zbD big [aT .mon a0])(hc:zrj a0=true):∃N,zQh N a0=some [aB (ztd a0)]:=by
 have hg:a0.Guests.length<=big:=((zcY hb).1 (.s .guest a0.Guests) (by simp[AV.cvs,Ty.cells])).len
 have ho:a0.Outer.length<=big:=((zcY hb).1 (.s .slot a0.Outer) (by simp[AV.cvs,Ty.cells])).len
 refine zb8 fun N hNN=>?_;unfold zQh ztd zd3 oN nB
 conv=>zeta
 refine must rfl (stB fun h0=>stI fun h1=>must rfl (stB fun h2=>stI fun h3=>stI fun h4=>stG fun h5=>must rfl (stB fun h6=>must rfl (stB fun h7=>must rfl (stB fun h8=>?_)))));have e1:=zrz h2;have e3:ln a0.Out=8:=qD h3;simp only[ln] at e1 e3;refine (zbc a0.Guests (fun i (t:Unit)=>((ln a0.Guests),(i:Int),a0.Pending,a0.Traps,a0.Own,a0.Guests,a0.Outer,a0.Out,a0.Dirty,a0.Outs,a0.Tables,())) _ (fun _ (x:Guest) (_:Unit) κ=>bif zcU x then κ () else oF) (fun (t:Unit)=>(iter (σ:=(Int×(Int×(Int×(Int×(Int×(lS×(lM×(lB×(lG×((List Int)×(lK×Unit)))))))))))) N (fun r4 s5=>(cond (ilt s5.2.1 s5.1) (cond (inb s5.2.1 (ln s5.2.2.2.2.2.1)) (cond zdc (cond (cond (ieq (ix s5.2.2.2.2.2.1 s5.2.1 zN).Page zcw.Page) (ieq (ix s5.2.2.2.2.2.1 s5.2.1 zN).Rights zcw.Rights) false) (cond (inb s5.2.1 (ln s5.2.2.2.2.2.2.1)) (cond (zhK (ix s5.2.2.2.2.2.2.1 s5.2.1 [])) (cond (cond (zgp (ix s5.2.2.2.2.2.2.1 s5.2.1 [])) false true) oF (r4 (s5.1,((zG .i64 s5.2.1 1),(s5.2.2.1,(s5.2.2.2.1,(s5.2.2.2.2.1,(s5.2.2.2.2.2.1,(s5.2.2.2.2.2.2.1,(s5.2.2.2.2.2.2.2.1,(s5.2.2.2.2.2.2.2.2.1,(s5.2.2.2.2.2.2.2.2.2.1,(s5.2.2.2.2.2.2.2.2.2.2.1,()))))))))))))) none) none) (cond (zds (ix s5.2.2.2.2.2.1 s5.2.1 zN).Rights 1) (cond (cond (zdT (ix s5.2.2.2.2.2.1 s5.2.1 zN).Rights 1) false true) oF (cond (inb s5.2.1 (ln s5.2.2.2.2.2.2.1)) (cond (igt (ln (ix s5.2.2.2.2.2.2.1 s5.2.1 [])) 0) oF (r4 (s5.1,((zG .i64 s5.2.1 1),(s5.2.2.1,(s5.2.2.2.1,(s5.2.2.2.2.1,(s5.2.2.2.2.2.1,(s5.2.2.2.2.2.2.1,(s5.2.2.2.2.2.2.2.1,(s5.2.2.2.2.2.2.2.2.1,(s5.2.2.2.2.2.2.2.2.2.1,(s5.2.2.2.2.2.2.2.2.2.2.1,()))))))))))))) none)) none)) none) none) (some [(.one (.b true))]))) ((ln a0.Outer),(0,(a0.Pending,(a0.Traps,(a0.Own,(a0.Outer,(a0.Out,(a0.Dirty,(a0.Guests,(a0.Outs,(a0.Tables,()))))))))))))) (fun i hi t rec=>?_) (fun t rec=>?_) _ () (hNN hg)).trans ?_
 .simp only [zbo hi,zY hi,zbd hi,zW hi hg,cT];simp only[zma,zkq,cT];cases zcU a0.Guests[i]<;>rfl
 .simp only [zbf,cF]
 rw[zgj zcU];cases a0.Guests.all zcU
 .rfl
 simp only[cT];refine (zbc a0.Outer (fun j (u:Unit)=>((ln a0.Outer),(j:Int),a0.Pending,a0.Traps,a0.Own,a0.Outer,a0.Out,a0.Dirty,a0.Guests,a0.Outs,a0.Tables,())) _ (fun j (_:Slot) (_:Unit) κ=>bif fits a0 j then κ () else oF) (fun (u:Unit)=>(some [(.one (.b true))])) (fun j hj u rec1=>?_) (fun u rec1=>?_) _ () (hNN ho)).trans ?_
 .simp only [zbo hj,zY hj,zbd hj,zW hj ho,cT];have hj2:j<a0.Out.length:=by omega
  simp only[zdc,zcw,zhK,zgp,zds,zdT,zY hj2,zOI,cT];unfold fits zlt;simp only[zbd hj,zcJ];cases ieq a0.Outer[j].Page noSlot.Page<;>cases ieq a0.Outer[j].Rights noSlot.Rights<;>cases enough a0.Outer[j].Rights 1<;>cases ile (ln (ix a0.Out (j:Int) [])) 0<;>cases zb6 (ix a0.Out (j:Int) [])<;>rfl
 .simp only [zbf,cF]
 rw[zxr (fun j (_:Unit) κ=>bif fits a0 j then κ () else oF),zEE (fits a0),show a0.Outer.length=8 by omega]
 cases znT (fits a0) 8 0<;>rfl
theorem zRL:u3 135 zG3:=hF1 zHN zk zl zo zYG zXM
@[simp] abbrev zru (m:Mon):Bool:=true
@[simp] abbrev ztm (m:Mon):Bool:=zd3 m
def zHd:Run:=rF1 (dT .mon) fun b=>(zru b,[aB (ztm b)])
def zQr (N:Nat)(a0:Mon):OA:=
 (oN (zK (ln a0.Guests) 1 2) (cond (nB (zM (ln a0.Guests) 1 2)) oF (cond (ine (ln a0.Tables) (ln a0.Guests)) oF (oN (zmx a0.Outer 8 12) (cond (nB (zhR a0.Outer 8 12)) oF (cond (ine (ln a0.Out) 8) oF (cond (ine (ln a0.Dirty) 8) oF (iter (σ:=(Int×(Int×(Int×(Int×(lS×(lM×(lB×(lG×((List Int)×(lK×Unit))))))))))) N (fun r2 s3=>let y3:=s3.2.2.2.2.2.2.2.1; (cond (ilt s3.1 (ln y3)) (oN (inb s3.1 (ln y3)) (oN (zmt (ix y3 s3.1 zi)) (cond (nB (zkK (ix y3 s3.1 zi))) oF (r2 ((zG .i64 s3.1 1),(s3.2.1,(s3.2.2.1,(s3.2.2.2.1,(s3.2.2.2.2.1,(s3.2.2.2.2.2.1,(s3.2.2.2.2.2.2.1,(y3,(s3.2.2.2.2.2.2.2.2.1,(s3.2.2.2.2.2.2.2.2.2.1,())))))))))))))) (iter (σ:=(Int×(Int×(Int×(Int×(lS×(lM×(lB×(lG×((List Int)×(lK×Unit))))))))))) N (fun r4 s5=>let y7:=s5.2.2.2.2.1;let y4:=(inb s5.1 (ln s5.2.2.2.2.2.1));let y2:=(ix s5.2.2.2.2.2.1 s5.1 []);let y1:=(ix y7 s5.1 zN);let y6:=(ieq y1.Rights zbr.Rights);let y5:=(ieq y1.Page zbr.Page);let y0:=(r4 ((zG .i64 s5.1 1),(s5.2.1,(s5.2.2.1,(s5.2.2.2.1,(y7,(s5.2.2.2.2.2.1,(s5.2.2.2.2.2.2.1,(s5.2.2.2.2.2.2.2.1,(s5.2.2.2.2.2.2.2.2.1,(s5.2.2.2.2.2.2.2.2.2.1,()))))))))))); (cond (ilt s5.1 8) (oN (inb s5.1 (ln y7)) (oN zcn (cond (nB (cond y5 y6 false)) (oN y4 (cond (igt (ln y2) 0) oF (oN (inb s5.1 (ln y7)) (oN (zgE y1.Rights 1) (cond (nB (zhl y1.Rights 1)) oF (cond (nB (nB (cond y5 y6 false))) (oN y4 (oN (zfU y2) (cond (nB (zfd y2)) oF y0))) y0)))))) (cond (nB (nB (cond y5 y6 false))) (oN y4 (oN (zfU y2) (cond (nB (zfd y2)) oF y0))) y0)))) (cond (ile (ln s5.2.2.2.2.2.2.2.2.1) 40) (oN (zff s5.2.1) (cond (zfe s5.2.1) (oN (zK s5.2.2.1 0 3) (cond (zM s5.2.2.1 0 3) (oN (zK s5.2.2.2.1 0 1000000000) (some [(aB (zM s5.2.2.2.1 0 1000000000))])) oF)) oF)) oF))) (0,(s3.2.1,(s3.2.2.1,(s3.2.2.2.1,(s3.2.2.2.2.1,(s3.2.2.2.2.2.1,(s3.2.2.2.2.2.2.1,(y3,(s3.2.2.2.2.2.2.2.2.1,(s3.2.2.2.2.2.2.2.2.2.1,()))))))))))))) (0,(a0.Pending,(a0.Traps,(a0.Own,(a0.Outer,(a0.Out,(a0.Dirty,(a0.Guests,(a0.Outs,(a0.Tables,()))))))))))))))))))
def zYI:FuncId->Nat->Option Tmpl:=zq [(307,0,{ n:=115,tm:=[(1,.lp 0 0),(3,ti)],lo:=[(0,[.sl 0 [],.sl 1 [],.sl 2 [],.sl 3 [],.sl 4 [],ti,ti,.sl 5 [],ti])],ro:=[(0,.slot,false),(1,(.sl .int),false),(2,.bool,false),(3,.guest,false),(4,.int,false),(5,.kept,false)] }),(307,2,{ n:=115,tm:=[(1,.lp 0 0),(4,ti)],lo:=[(0,[.sl 0 [],.sl 1 [],.sl 2 [],.sl 3 [],.sl 4 [],ti,ti,.sl 5 [],ti])],ro:=[(0,.slot,false),(1,(.sl .int),false),(2,.bool,false),(3,.guest,false),(4,.int,false),(5,.kept,false)] })]
theorem zXX (a0:Mon)(hb:zbD big [aT .mon a0])(hc:zru a0=true):∃N,zQr N a0=some [aB (ztm a0)]:=by
 have hg:a0.Guests.length<=big:=((zcY hb).1 (.s .guest a0.Guests) (by simp[AV.cvs,Ty.cells])).len
 refine zb8 fun N hNN=>?_;unfold zQr ztm zd3 oN nB
 conv=>zeta
 refine must rfl (stB fun h0=>stI fun h1=>must rfl (stB fun h2=>stI fun h3=>stI fun h4=>?_));have e1:=zrz h2;have e3:ln a0.Out=8:=qD h3;simp only[ln] at e1 e3;refine (zbc a0.Guests (fun i (t:Unit)=>((i:Int),a0.Pending,a0.Traps,a0.Own,a0.Outer,a0.Out,a0.Dirty,a0.Guests,a0.Outs,a0.Tables,())) _ (fun _ (x:Guest) (_:Unit) κ=>bif zcU x then κ () else oF) (fun (t:Unit)=>(iter (σ:=(Int×(Int×(Int×(Int×(lS×(lM×(lB×(lG×((List Int)×(lK×Unit))))))))))) N (fun r4 s5=>(cond (ilt s5.1 8) (cond (inb s5.1 (ln s5.2.2.2.2.1)) (cond zcn (cond (cond (cond (ieq (ix s5.2.2.2.2.1 s5.1 zN).Page zbr.Page) (ieq (ix s5.2.2.2.2.1 s5.1 zN).Rights zbr.Rights) false) false true) (cond (inb s5.1 (ln s5.2.2.2.2.2.1)) (cond (igt (ln (ix s5.2.2.2.2.2.1 s5.1 [])) 0) oF (cond (inb s5.1 (ln s5.2.2.2.2.1)) (cond (zgE (ix s5.2.2.2.2.1 s5.1 zN).Rights 1) (cond (cond (zhl (ix s5.2.2.2.2.1 s5.1 zN).Rights 1) false true) oF (cond (cond (cond (cond (ieq (ix s5.2.2.2.2.1 s5.1 zN).Page zbr.Page) (ieq (ix s5.2.2.2.2.1 s5.1 zN).Rights zbr.Rights) false) false true) false true) (cond (inb s5.1 (ln s5.2.2.2.2.2.1)) (cond (zfU (ix s5.2.2.2.2.2.1 s5.1 [])) (cond (cond (zfd (ix s5.2.2.2.2.2.1 s5.1 [])) false true) oF (r4 ((zG .i64 s5.1 1),(s5.2.1,(s5.2.2.1,(s5.2.2.2.1,(s5.2.2.2.2.1,(s5.2.2.2.2.2.1,(s5.2.2.2.2.2.2.1,(s5.2.2.2.2.2.2.2.1,(s5.2.2.2.2.2.2.2.2.1,(s5.2.2.2.2.2.2.2.2.2.1,())))))))))))) none) none) (r4 ((zG .i64 s5.1 1),(s5.2.1,(s5.2.2.1,(s5.2.2.2.1,(s5.2.2.2.2.1,(s5.2.2.2.2.2.1,(s5.2.2.2.2.2.2.1,(s5.2.2.2.2.2.2.2.1,(s5.2.2.2.2.2.2.2.2.1,(s5.2.2.2.2.2.2.2.2.2.1,()))))))))))))) none) none)) none) (cond (cond (cond (cond (ieq (ix s5.2.2.2.2.1 s5.1 zN).Page zbr.Page) (ieq (ix s5.2.2.2.2.1 s5.1 zN).Rights zbr.Rights) false) false true) false true) (cond (inb s5.1 (ln s5.2.2.2.2.2.1)) (cond (zfU (ix s5.2.2.2.2.2.1 s5.1 [])) (cond (cond (zfd (ix s5.2.2.2.2.2.1 s5.1 [])) false true) oF (r4 ((zG .i64 s5.1 1),(s5.2.1,(s5.2.2.1,(s5.2.2.2.1,(s5.2.2.2.2.1,(s5.2.2.2.2.2.1,(s5.2.2.2.2.2.2.1,(s5.2.2.2.2.2.2.2.1,(s5.2.2.2.2.2.2.2.2.1,(s5.2.2.2.2.2.2.2.2.2.1,())))))))))))) none) none) (r4 ((zG .i64 s5.1 1),(s5.2.1,(s5.2.2.1,(s5.2.2.2.1,(s5.2.2.2.2.1,(s5.2.2.2.2.2.1,(s5.2.2.2.2.2.2.1,(s5.2.2.2.2.2.2.2.1,(s5.2.2.2.2.2.2.2.2.1,(s5.2.2.2.2.2.2.2.2.2.1,()))))))))))))) none) none) (cond (ile (ln s5.2.2.2.2.2.2.2.2.1) 40) (cond (zff s5.2.1) (cond (zfe s5.2.1) (cond (zK s5.2.2.1 0 3) (cond (zM s5.2.2.1 0 3) (cond (zK s5.2.2.2.1 0 1000000000) (some [(.one (.b (zM s5.2.2.2.1 0 1000000000)))]) none) oF) none) oF) none) oF))) (0,(a0.Pending,(a0.Traps,(a0.Own,(a0.Outer,(a0.Out,(a0.Dirty,(a0.Guests,(a0.Outs,(a0.Tables,())))))))))))) (fun i hi t rec=>?_) (fun t rec=>?_) _ () (hNN hg)).trans ?_
 .simp only [zbo hi,zY hi,zbd hi,zW hi hg,cT];simp only[zmt,zkK,cT];cases zcU a0.Guests[i]<;>rfl
 .simp only [zbf,cF]
 rw[zgj zcU];cases hq:a0.Guests.all zcU
 .simp only [cF];cases ile (ln a0.Outs) 40<;>cases zcQ a0.Pending<;>cases win a0.Traps 0 3<;>cases win a0.Own 0 1000000000<;>rfl
 simp only[cT];refine (zzk 8 (fun j (u:Unit)=>((j:Int),a0.Pending,a0.Traps,a0.Own,a0.Outer,a0.Out,a0.Dirty,a0.Guests,a0.Outs,a0.Tables,())) _ (fun j (_:Unit) κ=>bif fits a0 j then κ () else oF) (fun (u:Unit)=>(cond (ile (ln a0.Outs) 40) (cond (zff a0.Pending) (cond (zfe a0.Pending) (cond (zK a0.Traps 0 3) (cond (zM a0.Traps 0 3) (cond (zK a0.Own 0 1000000000) (some [(.one (.b (zM a0.Own 0 1000000000)))]) none) oF) none) oF) none) oF)) (fun j hj u rec1=>?_) (fun u rec1=>?_) _ () (hNN (by decide))).trans ?_
 .simp only [show ilt (j:Int) 8=true from qJ (by omega),zW hj (show 8<=big by decide),cT]
  have hj1:j<a0.Outer.length:=by omega
  have hj2:j<a0.Out.length:=by omega
  simp only[zcn,zbr,zfU,zfd,zgE,zhl,zY hj1,zY hj2,zOI,cT];unfold fits zlt;simp only[zbd hj1,zcJ];cases ieq a0.Outer[j].Page noSlot.Page<;>cases ieq a0.Outer[j].Rights noSlot.Rights<;>cases enough a0.Outer[j].Rights 1<;>cases ile (ln (ix a0.Out (j:Int) [])) 0<;>cases zb6 (ix a0.Out (j:Int) [])<;>rfl
 .simp only [show ilt (((8:Nat)):Int) 8=false from qH (by omega),cF]
  rfl
 rw[zEE (fits a0)];simp only[zff,zfe,zK,zTB,cT];cases znT (fits a0) 8 0<;>cases ile (ln a0.Outs) 40<;>cases zcQ a0.Pending<;>cases win a0.Traps 0 3<;>cases win a0.Own 0 1000000000<;>rfl
theorem zRW:u3 307 zHd:=hF1 zHN zk zl zo zYI zXX
def z7l:zQ:=[(307,zHd),(135,zG3)]++z7k
theorem zHO:zI z7l:=zh zRW (zh zRL zHN)
def zgz:List Slot->List Bool->Option (List Bool)
 | [],u=>some u
 | s :: l,u=>bif ilt s.Page 0 then zgz l u else (cond (ix u s.Page false) none (zgz l (up u s.Page true)))
def zio:List Mon->List Bool->Bool
 | [],_=>true
 | m :: l,u=>bif zd3 m then (match zgz m.Outer u with|some u'=>zio l u'|none=>false) else false
def zbX (h:Host):Bool:=bif zhp h.Memory 12 then (cond (win (ln h.Mons) 1 3) (cond (zeU h.Buffer) (cond (zeU h.IoBuffer) (zio h.Mons (rp 12 false)) false) false) false) else false
theorem zpd:∀(l:List Slot) (u u':List Bool),zgz l u=some u'->u'.length=u.length
 | [],u,u',h=>by cases h;rfl
 | s :: l,u,u',h=>by
  simp only[zgz]at h;cases h1:ilt s.Page 0
  .rw [h1]at h;cases h2:ix u s.Page false
   .rw [h2]at h;simpa using zpd l _ u' h
   .rw [h2]at h;cases h
  .rw [h1]at h;exact zpd l u u' h
theorem zER {t:List Slot}{n:Int}(h:zcF t n 12=true):∀s∈t,s.Page<12:=by
 intro s hs;unfold zcF at h;cases h1:t.all (fun s=>zdD s 12)
 .rw [h1]at h;cases h
 .have:=qO.1 h1 s hs;unfold zdD at this;cases h2:zcJ s noSlot
  .rw [h2] at this;simp only[cF,show igt 12 0=true from rfl,cT] at this
   cases h3:win s.Page 0 (wsub .i64 12 1)
   .rw [h3] at this;cases this
   .have:=(zfl.1 h3).2;rw[show wsub .i64 12 1=11 from rfl] at this
    omega
  .unfold zcJ at h2;rw[qE]at h2;have h2:s.Page = -1:=qD h2.1;omega
theorem zXf {s:Slot}{u:List Bool}(h:s.Page<12)(hu:u.length=12)(h0:ilt s.Page 0=false):inb s.Page (ln u)=true:=by
 have:=jP h0;exact qJ (by simp only[ln];omega)
def ztu {ρ:Type}(r:Option ρ)(y:Slot)(u:List Bool)(κ:List Bool->Option ρ):Option ρ:=bif ilt y.Page 0 then κ u else (cond (inb y.Page (ln u)) (cond (ix u y.Page false) r (cond (inb y.Page (ln u)) (share (up u y.Page true) (fun x6=>κ x6)) none)) none)
theorem zyU {ρ:Type}(r:Option ρ)(K:List Bool->Option ρ):∀(l:List Slot) (i:Nat) (u:List Bool),(∀s∈l,s.Page<12)->u.length=12 ->
 goL (fun _ y u κ=>ztu r y u κ) K l i u=match zgz l u with|some u'=>K u'|none=>r
 | [],_,_,_,_=>rfl
 | s :: l,i,u,h,hu=>by
  simp only[goL,zgz,ztu];cases h1:ilt s.Page 0
  .have hh:=zXf (h s (by simp)) hu h1
   rw[hh];cases ix u s.Page false
   .simp only [cF,cT,share];exact zyU r K l (i+1) _ (fun s hs=>h s (by simp[hs])) (by simpa using hu)
   .rfl
  .simp only [cT];exact zyU r K l (i+1) u (fun s hs=>h s (by simp[hs])) hu
def zZY {ρ:Type}(r:Option ρ)(m:Mon)(u:List Bool)(κ:List Bool->Option ρ):Option ρ:=bif zd3 m then goL (fun _ y u κ=>ztu r y u κ) κ m.Outer 0 u else r
theorem zcZ {c x:Bool}:((cond c x false)=true)↔c=true/\x=true:=by
 cases c<;>simp
theorem zmo {m:Mon}(h:zd3 m=true):zcF m.Outer 8 12=true:=by
 unfold zd3 at h;simp only[zcZ]at h;exact h.2.2.1
theorem zUr {K:Bool->OA}(k:List Bool->OA)(hk:∀u,k u=K true):∀(l:List Mon) (i:Nat) (u:List Bool),u.length=12 ->
 goL (fun _ m u κ=>zZY (K false) m u κ) k l i u=K (zio l u)
 | [],_,u,_=>hk u
 | m :: l,i,u,hu=>by
  simp only[goL,zio,zZY];cases h1:zd3 m
  .rfl
  .simp only [cT];have ht:=zmo h1;rw[zyU _ _ _ _ _ (zER ht) hu];cases h2:zgz m.Outer u with
   | none=>rfl
   | some u'=>exact zUr k hk l (i+1) u' ((zpd _ _ _ h2).trans hu)
@[simp] abbrev zsA (h:Host):Bool:=true
@[simp] abbrev ztQ (h:Host):Bool:=zbX h
def zDe:Run:=rF1 dH fun b=>(zsA b,[aB (ztQ b)])
def zJF (N:Nat)(a0:Host):OA:=
 (oN (zrh a0.Memory 12) (cond (nB (zlj a0.Memory 12)) oF (oN (zbG (ln a0.Mons) 1 3) (cond (nB (zbW (ln a0.Mons) 1 3)) oF (oN (zn6 a0.Buffer) (cond (nB (zn5 a0.Buffer)) oF (oN (zn6 a0.IoBuffer) (cond (nB (zn5 a0.IoBuffer)) oF (oN (cond (few 12) (ieq 12 12) false) (iter (σ:=(Int×(Int×(lB×(lN×Unit))))) N (fun r2 s3=>let y1:=(ix s3.2.2.2.1 s3.2.1 zf); (cond (ilt s3.2.1 s3.1) (oN (inb s3.2.1 (ln s3.2.2.2.1)) (oN (zrj y1) (cond (nB (ztd y1)) oF (iter (σ:=(Int×(Int×(Int×(Int×(Int×(lB×(lN×Unit)))))))) N (fun r4 s5=>let y4:=s5.2.2.2.2.1;let y3:=s5.2.2.2.2.2.2.1;let y5:=(ix y3 s5.2.2.1 zf).Outer;let y2:=s5.2.2.2.2.2.1;let y0:=(ix y5 y4 zN).Page; (cond (ilt y4 s5.2.2.2.1) (oN (inb y4 (ln y5)) (cond (ilt y0 0) (r4 (s5.1,(s5.2.1,(s5.2.2.1,(s5.2.2.2.1,((zG .i64 y4 1),(y2,(y3,())))))))) (oN (inb y0 (ln y2)) (cond (ix y2 y0 false) oF (oN (inb y0 (ln y2)) (share (up y2 y0 true) (fun x6=>(r4 (s5.1,(s5.2.1,(s5.2.2.1,(s5.2.2.2.1,((zG .i64 y4 1),(x6,(y3,()))))))))))))))) (r2 (s5.1,((zG .i64 s5.2.1 1),(y2,(y3,()))))))) (s3.1,(s3.2.1,(s3.2.1,((ln y1.Outer),(0,(s3.2.2.1,(s3.2.2.2.1,()))))))))))) oT)) ((ln a0.Mons),(0,((rp 12 false),(a0.Mons,()))))))))))))))
def zWT:FuncId->Nat->Option Tmpl:=zq [(55,0,{ n:=63,tm:=[(3,.sl 0 []),(33,.sl 1 []),(34,ti),(35,ti)],lo:=[],ro:=[(0,.bool,true),(1,.mon,false)] }),(55,2,{ n:=63,tm:=[(3,.sl 0 []),(33,.sl 1 []),(34,ti),(35,ti),(43,.sl 1 [0]),(44,ti),(45,ti)],lo:=[],ro:=[(0,.bool,true),(1,.mon,false)] })]
theorem zUU (a0:Host)(hb:zbD big [aH a0])(hc:zsA a0=true):∃N,zJF N a0=some [aB (ztQ a0)]:=by
 have hm:CVB big (.s .mon a0.Mons):=(zcY hb).1 _ (by simp[AV.cvs,zba])
 have hl:=hm.len;refine zb8 fun N hNN=>?_;unfold zJF ztQ zbX oN nB
 conv=>zeta
 refine must rfl (stB fun h0=>must rfl (stB fun h1=>must rfl (stB fun h2=>must rfl (stB fun h3=>must rfl ?_))));refine (zbc a0.Mons (fun i (t:lB)=>((ln a0.Mons),(i:Int),t,a0.Mons,())) _ (fun _ (x:Mon) (u:List Bool) κ=>zZY (oF) x u κ) (fun (t:lB)=>(some [(.one (.b true))])) (fun i hi t rec=>?_) (fun t rec=>?_) _ ((rp 12 false)) (hNN hl)).trans ?_
 .simp only [zbo hi,zY hi,zbd hi,zW hi hl,cT];unfold zZY;cases h4:zd3 a0.Mons[i]
  .simp only [zrj,ztd,h4,cT,cF]
  simp only[zrj,ztd,h4,cT,cF];have ho:a0.Mons[i].Outer.length<=big:=(hm.inv.2 _ (jF hi) (.s .slot _) (by simp[Ty.cells])).len
  refine (zbc a0.Mons[i].Outer (fun j (u:lB)=>((ln a0.Mons),(i:Int),(i:Int),(ln a0.Mons[i].Outer),(j:Int),u,a0.Mons,())) _ (fun _ (y:Slot) (u:List Bool) κ=>ztu (oF) y u κ) (fun (u:lB)=>(rec ((ln a0.Mons),((((i+1:Nat)):Int),(u,(a0.Mons,())))))) (fun j hj u rec1=>?_) (fun u rec1=>?_) _ (t) (hNN ho)).trans ?_
  .simp only [zbo hj,zY hj,zbd hj,zW hj ho,cT,zY hi,zbd hi,zW hi hl];rfl
  .simp only [zbf,cF,zY hi,zbd hi,zW hi hl]
  rfl
 .simp only [zbf,cF]
 exact zUr (K:=fun b=>some [AV.one (.b b)]) _ (fun _=>rfl) _ _ _ rfl
theorem zNR:u3 55 zDe:=hF1 zHO zk zl zo zWT zUU
@[simp] abbrev zfb (h:Host):Bool:=true
@[simp] abbrev zfa (h:Host):Bool:=zbX h
theorem zH0 {ρ:Type}(r:Option ρ)(k:List Bool->Option ρ)(m:Mon):∀(n i:Nat) (u:List Bool),(∀s∈m.Outer,s.Page<12)->u.length=12->i+n=m.Outer.length ->
 goN (fun j u κ=>bif inb (j:Int) (ln m.Outer) then ztu r (ix m.Outer (j:Int) zN) u κ else none) k n i u=goL (fun _ y u κ=>ztu r y u κ) k (m.Outer.drop i) i u
 | 0,i,u,_,_,h=>by
  have:i=m.Outer.length:=by omega
  subst this;simp[goN,goL]
 | n+1,i,u,hs,hu,h=>by
  have hi:i<m.Outer.length:=by omega
  rw[kH hi];simp only[goN,goL,zY hi,zbd hi,cT,ztu];cases h1:ilt m.Outer[i].Page 0
  .rw [zXf (hs _ (jF hi)) hu h1];cases ix u m.Outer[i].Page false
   .simp only [cF,cT,share];exact zH0 r k m n (i+1) _ hs (by simpa using hu) (by omega)
   .rfl
  .simp only [cT];exact zH0 r k m n (i+1) u hs hu (by omega)
def zDG:Run:=rF1 dH fun b=>(zfb b,[aB (zfa b)])
def zJ6 (N:Nat)(a0:Host):OA:=
 (oN (zrt a0.Memory 12) (cond (nB (zlJ a0.Memory 12)) oF (oN (zK (ln a0.Mons) 1 3) (cond (nB (zM (ln a0.Mons) 1 3)) oF (oN (zoK a0.Buffer) (cond (nB (zoJ a0.Buffer)) oF (oN (zoK a0.IoBuffer) (cond (nB (zoJ a0.IoBuffer)) oF (oN (cond (few 12) (ieq 12 12) false) (iter (σ:=(Int×(lB×(lM×(lN×(lE×(lE×Unit))))))) N (fun r2 s3=>let y7:=(ix s3.2.2.2.1 s3.1 zf); (cond (ilt s3.1 (ln s3.2.2.2.1)) (oN (inb s3.1 (ln s3.2.2.2.1)) (oN (zru y7) (cond (nB (ztm y7)) oF (iter (σ:=(Int×(Int×(lB×(lM×(lN×(lE×(lE×Unit)))))))) N (fun r4 s5=>let y6:=(zG .i64 s5.2.1 1);let y5:=s5.2.2.2.2.2.1;let y4:=s5.2.2.2.2.2.2.1;let y3:=s5.2.2.1;let y2:=s5.2.2.2.2.1;let y8:=(ix y2 s5.1 zf).Outer;let y1:=(r4 (s5.1,(y6,(y3,(s5.2.2.2.1,(y2,(y5,(y4,()))))))));let y0:=(ix y8 s5.2.1 zN).Page;let y9:=(inb y0 (ln y3)); (cond (ilt s5.2.1 8) (oN (inb s5.1 (ln y2)) (oN (inb s5.2.1 (ln y8)) (cond (ige y0 0) (oN y9 (cond (ix y3 y0 false) oF (cond (ige y0 0) (oN y9 (share (up y3 y0 true) (fun x6=>(r4 (s5.1,(y6,(x6,(s5.2.2.2.1,(y2,(y5,(y4,()))))))))))) y1))) (cond (ige y0 0) (oN y9 (share (up y3 y0 true) (fun x6=>(r4 (s5.1,(y6,(x6,(s5.2.2.2.1,(y2,(y5,(y4,()))))))))))) y1)))) (r2 ((zG .i64 s5.1 1),(y3,(s5.2.2.2.1,(y2,(y5,(y4,()))))))))) (s3.1,(0,(s3.2.1,(s3.2.2.1,(s3.2.2.2.1,(s3.2.2.2.2.1,(s3.2.2.2.2.2.1,()))))))))))) oT)) (0,((rp 12 false),(a0.Memory,(a0.Mons,(a0.Buffer,(a0.IoBuffer,()))))))))))))))))
def zW1:FuncId->Nat->Option Tmpl:=zq [(256,0,{ n:=72,tm:=[(1,.lp 0 0),(3,.sl 0 []),(4,ti)],lo:=[(0,[.sl 1 [],.sl 2 [],.sl 3 [],.sl 4 []])],ro:=[(0,.bool,true),(1,(.sl .int),false),(2,.mon,false),(3,.entry,false),(4,.entry,false)] }),(256,2,{ n:=72,tm:=[(1,.lp 0 0),(3,.sl 0 []),(4,ti),(5,ti)],lo:=[(0,[.sl 1 [],.sl 2 [],.sl 3 [],.sl 4 []])],ro:=[(0,.bool,true),(1,(.sl .int),false),(2,.mon,false),(3,.entry,false),(4,.entry,false)] })]
theorem zVn (a0:Host)(hb:zbD big [aH a0])(hc:zfb a0=true):∃N,zJ6 N a0=some [aB (zfa a0)]:=by
 have hm:CVB big (.s .mon a0.Mons):=(zcY hb).1 _ (by simp[AV.cvs,zba])
 have hl:=hm.len;refine zb8 fun N hNN=>?_;unfold zJ6 zfa zbX oN nB
 conv=>zeta
 refine must rfl (stB fun h0=>must rfl (stB fun h1=>must rfl (stB fun h2=>must rfl (stB fun h3=>must rfl ?_))));refine (zbc a0.Mons (fun i (t:lB)=>((i:Int),t,a0.Memory,a0.Mons,a0.Buffer,a0.IoBuffer,())) _ (fun _ (x:Mon) (u:List Bool) κ=>bif zd3 x then goN (fun j u κ=>bif inb (j:Int) (ln x.Outer) then ztu (oF) (ix x.Outer (j:Int) zN) u κ else none) κ 8 0 u else oF) (fun (t:lB)=>(some [(.one (.b true))])) (fun i hi t rec=>?_) (fun t rec=>?_) _ ((rp 12 false)) (hNN hl)).trans ?_
 .simp only [zbo hi,zY hi,zbd hi,zW hi hl,cT];cases h4:zd3 a0.Mons[i]
  .simp only [zru,ztm,h4,cT,cF]
  simp only[zru,ztm,h4,cT,cF];refine (zzk 8 (fun j (u:lB)=>((i:Int),(j:Int),u,a0.Memory,a0.Mons,a0.Buffer,a0.IoBuffer,())) _ (fun j (u:List Bool) κ=>bif inb (j:Int) (ln a0.Mons[i].Outer) then ztu (oF) (ix a0.Mons[i].Outer (j:Int) zN) u κ else none) (fun (u:lB)=>(rec ((((i+1:Nat)):Int),(u,(a0.Memory,(a0.Mons,(a0.Buffer,(a0.IoBuffer,())))))))) (fun j hj u rec1=>?_) (fun u rec1=>?_) _ (t) (hNN (by decide))).trans ?_
  .simp only [show ilt (j:Int) 8=true from qJ (by omega),zW hj (show 8<=big by decide),cT,zY hi,zbd hi,zW hi hl]
   unfold ztu;have e:ige (ix a0.Mons[i].Outer (j:Int) zN).Page 0 = !ilt (ix a0.Mons[i].Outer (j:Int) zN).Page 0:=by rw[z8Z,Bool.not_not]
   simp only[e];cases ilt (ix a0.Mons[i].Outer (j:Int) zN).Page 0<;>cases inb (j:Int) (ln a0.Mons[i].Outer)<;>cases inb (ix a0.Mons[i].Outer (j:Int) zN).Page (ln u)<;>cases ix u (ix a0.Mons[i].Outer (j:Int) zN).Page false<;>rfl
  .simp only [show ilt (((8:Nat)):Int) 8=false from qH (by omega),cF,zY hi,zbd hi,zW hi hl]
  rfl
 .simp only [zbf,cF]
 have key:∀(l:List Mon) (i:Nat) (u:List Bool),u.length=12->goL (fun _ (x:Mon) (u:List Bool) κ=>bif zd3 x then goN (fun j u κ=>bif inb (j:Int) (ln x.Outer) then ztu (oF) (ix x.Outer (j:Int) zN) u κ else none) κ 8 0 u else oF) (fun _=>oT) l i u=some [AV.one (.b (zio l u))]:=by
  intro l
  induction l with
  | nil=>intro i u _;rfl
  | cons m l ih =>
   intro i u hu;simp only[goL,zio];cases h1:zd3 m
   .rfl
   .have ht:=zmo h1;have e8:0+8=m.Outer.length:=by have:=zrz ht;simp only[ln] at this;omega
    simp only[cT];rw[zH0 _ _ m 8 0 u (zER ht) hu e8,List.drop_zero,zyU _ _ _ _ _ (zER ht) hu];cases h2:zgz m.Outer u with
    | none=>rfl
    | some u'=>exact ih (i+1) u' ((zpd _ _ _ h2).trans hu)
 exact key _ _ _ rfl
theorem zOj:u3 256 zDG:=hF1 zHO zk zl zo zW1 zVn
def z7m:zQ:=[(256,zDG),(55,zDe)]++z7l
theorem zHP:zI z7m:=zh zOj (zh zNR zHO)
theorem z0E {h:Host}(hh:zbX h=true):(h.Mons.length:Int)<=3:=by
 unfold zbX at hh;simp only[zcZ]at hh;exact (zfl.1 hh.2.1).2
def zcx (h:Host)(m:Int):Bool:=bif zbX h then hasB m (ln h.Mons) else false
def zcg (h:Host)(m p:Int):Bool:=bif zbX h then (cond (hasB m (ln h.Mons)) (hasB p 8) false) else false
theorem zQa {h:Host}(hh:zbX h=true)(m:Int):win m 0 (wsub .i64 (ln h.Mons) 1)=hasB m (ln h.Mons):=zp8 (by have:=z0E hh;omega) m
theorem win7 (p:Int):win p 0 7=hasB p 8:=by
 unfold win ige ile hasB
 by_cases h1:0<=p<;>by_cases h2:p<8
 .rw [qJ (p:=p≥0) (by omega),qJ (p:=p<=7) (by omega),qJ (p:=0<=p/\p<8) ⟨h1,h2⟩];rfl
 .rw [qH (p:=p<=7) (by omega),qH (p:=0<=p/\p<8) (by omega)];simp
 .rw [qH (p:=p≥0) (by omega),qH (p:=0<=p/\p<8) (by omega)];simp
 .rw [qH (p:=p≥0) (by omega),qH (p:=0<=p/\p<8) (by omega)];simp
@[simp] abbrev zfj (h:Host)(m:Int):Bool:=true
@[simp] abbrev zfi (h:Host)(m:Int):Bool:=zcx h m
def zDZ:Run:=rF2 dH dI fun b c=>(zfj b c,[aB (zfi b c)])
def zKo (N:Nat)(a0:Host)(a1:Int):OA:=
 (oN (zfb a0) (cond (zfa a0) (oN (zK a1 0 (wsub .i64 (ln a0.Mons) 1)) (some [(aB (zM a1 0 (wsub .i64 (ln a0.Mons) 1)))])) oF))
theorem zVL (a0:Host)(a1:Int)(hc:zfj a0 a1=true):∃N,zKo N a0 a1=some [aB (zfi a0 a1)]:=by
 refine ⟨0,?_⟩;unfold zKo zfi zcx oN;cases hh:zbX a0
 .simp only [zfb,zfa,hh,cT,cF]
 .simp only [zfb,zfa,hh,cT,zK,zTB,zQa hh]
theorem zOF:u3 205 zDZ:=kF2 zHP zk zl zo (zq []) zVL
@[simp] abbrev znE (h:Host)(m p:Int):Bool:=true
@[simp] abbrev zhB (h:Host)(m p:Int):Bool:=zcg h m p
def zHj:Run:=rF3 dH dI dI fun b c d=>(znE b c d,[aB (zhB b c d)])
def zQx (N:Nat)(a0:Host)(a1 a2:Int):OA:=
 (oN (zfb a0) (cond (zfa a0) (oN (zK a1 0 (wsub .i64 (ln a0.Mons) 1)) (cond (zM a1 0 (wsub .i64 (ln a0.Mons) 1)) (oN (zK a2 0 7) (some [(aB (zM a2 0 7))])) oF)) oF))
theorem zX5 (a0:Host)(a1 a2:Int)(hc:znE a0 a1 a2=true):∃N,zQx N a0 a1 a2=some [aB (zhB a0 a1 a2)]:=by
 refine ⟨0,?_⟩;unfold zQx zhB zcg oN;cases hh:zbX a0
 .simp only [zfb,zfa,hh,cT,cF]
 .simp only [zfb,zfa,hh,cT,zK,zTB,zQa hh,win7];cases hasB a1 (ln a0.Mons)<;>rfl
theorem zR4:u3 217 zHj:=kF3 zHP zk zl zo (zq []) zX5
def z7n:zQ:=[(205,zDZ),(217,zHj)]++z7m
theorem zUa:zI z7n:=zh zOF (zh zR4 zHP)
def zc9 (k:Kept)(p:Int):Bool:=bif hasB p (ln k.Known) then hasB p (ln k.Slots) else false
def zbL (k:Kept)(p:Int):Kept:=bif zc9 k p then ⟨up k.Known p false,up k.Slots p noSlot⟩ else k
@[simp] theorem zpc {k:Kept}{p:Int}(h:SmK k):SmK (zbL k p):=by
 unfold zbL;cases zc9 k p
 .exact h
 .exact ⟨by simpa using h.1,by simpa using h.2⟩
theorem has_lt {p:Int}{n m:Int}(h:hasB p n=true):ilt p m=hasB p m:=by
 have h:=qD h;unfold ilt hasB
 by_cases h1:p<m
 .rw [qJ h1,qJ ⟨h.1,h1⟩]
 .rw [qH h1,qH (by omega)]
@[simp] abbrev zo6 (k:Kept)(p:Int):Bool:=pc (SmK k)
@[simp] abbrev zib (k:Kept)(p:Int):Bool:=zc9 k p
def zDX:Run:=rF2 (dT .kept) dI fun b c=>(zo6 b c,[aB (zib b c)])
def zKm (N:Nat)(a0:Kept)(a1:Int):OA:=
 (oN (zK a1 0 (wsub .i64 (ln a0.Known) 1)) (cond (zM a1 0 (wsub .i64 (ln a0.Known) 1)) (some [(aB (ilt a1 (ln a0.Slots)))]) oF))
theorem zVF (a0:Kept)(a1:Int)(hc:zo6 a0 a1=true):∃N,zKm N a0 a1=some [aB (zib a0 a1)]:=by
 have hs:=zD.1 hc;refine ⟨0,?_⟩;unfold zKm zib zc9 oN;simp only[zK,zTB,zp8 hs.1,cT];cases hh:hasB a1 (ln a0.Known)
 .rfl
 .simp only [cT,has_lt hh]
theorem zOz:u3 278 zDX:=kF2 zUa zk zl zo (zq []) zVF
def z7o:zQ:=[(278,zDX)]++z7n
theorem zHQ:zI z7o:=zh zOz zUa
@[simp] abbrev zlB (k:Kept)(p:Int):Bool:=pc (SmK k)
@[simp] abbrev zkJ (k:Kept)(p:Int):Kept:=zbL k p
def zDE:Run:=rF2 (dT .kept) dI fun b c=>(zlB b c,[aT .kept (zkJ b c)])
def zJ4 (N:Nat)(a0:Kept)(a1:Int):OA:=
 let y0:=(zdr a0); (oN (zfW a0) (oN (zo6 y0 a1) (cond (zib y0 a1) (oN (inb a1 (ln y0.Known)) (share (up y0.Known a1 false) (fun x3=>(oN zcn (oN (inb a1 (ln y0.Slots)) (share (up y0.Slots a1 zbr) (fun x4=>(some [(aT .kept (⟨x3,x4⟩:Kept))])))))))) (some [(aT .kept y0)]))))
theorem zVk (a0:Kept)(a1:Int)(hc:zlB a0 a1=true):∃N,zJ4 N a0 a1=some [aT .kept (zkJ a0 a1)]:=by
 have hs:=zD.1 hc;refine ⟨0,?_⟩;unfold zJ4 zkJ oN
 conv=>zeta
 refine must (zbb ((zxj _).2 hs)) (must (zbb hs) ?_);unfold zbL;cases hh:zc9 a0 a1
 .simp only [zib,zdr,hh,cF]
 .simp only [zib,zdr,hh,cT];unfold zc9 at hh;obtain ⟨h1,h2⟩:=zcZ.1 hh;simp only[zUH,h1,h2,cT,share,zcn]
theorem zOh:u3 210 zDE:=kF2 zHQ zk zl zo (zq []) zVk
@[simp] abbrev zy3 (k:Kept)(p:Int):Bool:=pc (SmK k)
@[simp] abbrev ztO (k:Kept)(p:Int):Kept:=zbL k p
def zDc:Run:=rF2 (dT .kept) dI fun b c=>(zy3 b c,[aT .kept (ztO b c)])
def zJD (N:Nat)(a0:Kept)(a1:Int):OA:=
 let y0:=(zdd a0); (oN (zf9 a0) (oN (zcr a1 (ln a0.Known)) (cond (zcX a1 (ln a0.Known)) (oN (zcr a1 (ln a0.Slots)) (cond (zcX a1 (ln a0.Slots)) (oN (inb a1 (ln y0.Known)) (share (up y0.Known a1 false) (fun x3=>(oN zdc (oN (inb a1 (ln y0.Slots)) (share (up y0.Slots a1 zcw) (fun x4=>(some [(aT .kept (⟨x3,x4⟩:Kept))])))))))) (some [(aT .kept y0)]))) (some [(aT .kept y0)]))))
theorem zUS (a0:Kept)(a1:Int)(hc:zy3 a0 a1=true):∃N,zJD N a0 a1=some [aT .kept (ztO a0 a1)]:=by
 have hs:=zD.1 hc;refine ⟨0,?_⟩;unfold zJD ztO oN
 conv=>zeta
 refine must (zbb hs) (must rfl ?_);unfold zbL zc9;simp only[zcX,zcr,zdd,zUH,share,zdc,cT];cases hasB a1 (ln a0.Known)
 .rfl
 .cases hasB a1 (ln a0.Slots)<;>rfl
theorem zNP:u3 77 zDc:=kF2 zHQ zk zl zo (zq []) zUS
def z7p:zQ:=[(210,zDE),(77,zDc)]++z7o
theorem ztw:zI z7p:=zh zOh (zh zNP zHQ)
def zet (k:Kept)(l:List Int):Kept:=l.foldl zbL k
theorem zZC:∀(l:List Int) {k:Kept},SmK k->SmK (zet k l)
 | [],_,h=>h
 | p :: l,k,h=>zZC l (zpc (p:=p) h)
theorem zyT {ρ:Type}(K:List Bool×List Slot->Option ρ):∀(l:List Int) (i:Nat) (k:Kept),SmK k ->
 goL (fun _ x (t:List Bool×List Slot) κ=>bif pc (SmK ⟨t.1,t.2⟩) then κ ((zbL ⟨t.1,t.2⟩ x).Known,(zbL ⟨t.1,t.2⟩ x).Slots) else none) K l i (k.Known,k.Slots)=K ((zet k l).Known,(zet k l).Slots)
 | [],_,_,_=>rfl
 | x :: l,i,k,h=>by
  have e:pc (SmK ⟨k.Known,k.Slots⟩)=true:=zbb h;simp only[goL,e,cT];exact zyT K l (i+1) (zbL k x) (zpc h)
def zEo (l:List Slot)(p:Int):List Int:=idxs (fun (s:Slot)=>ieq s.Page p) l 0
def zhI (k:Kept)(l:List Slot)(p:Int):Kept:=zet k (zEo l p)
theorem z6n {k:Kept}(l:List Slot)(p:Int)(h:SmK k):SmK (zhI k l p):=zZC _ h
@[simp] abbrev zlA (k:Kept)(l:List Slot)(p:Int):Bool:=pc (SmK k/\l.length<=1048576)
@[simp] abbrev zup (k:Kept)(l:List Slot)(p:Int):Kept:=zhI k l p
def zug:Run:=rF3 (dT .kept) (dS .slot) dI fun b c d=>(zlA b c d,[aT .kept (zup b c d)])
def zxf (N:Nat)(a0:Kept)(a1:lS)(a2:Int):OA:=
 (oN (zfW a0) (oN (zzH a1 a2) (iter (σ:=(Int×((List Int)×(lB×(lS×(lB×(lS×Unit))))))) N (fun r4 s5=>let y1:=(ix s5.2.1 s5.1 0);let y0:=(⟨s5.2.2.1,s5.2.2.2.1⟩:Kept); (cond (ilt s5.1 (ln s5.2.1)) (oN (inb s5.1 (ln s5.2.1)) (oN (zlB y0 y1) (r4 ((zG .i64 s5.1 1),(s5.2.1,((zkJ y0 y1).Known,((zkJ y0 y1).Slots,(s5.2.2.2.2.1,(s5.2.2.2.2.2.1,()))))))))) (some [(aT .kept y0)]))) (0,((zpW a1 a2),((zdr a0).Known,((zdr a0).Slots,([],([],())))))))))
def zJu:FuncId->Nat->Option Tmpl:=zq [(303,0,{ n:=27,tm:=[(3,.lp 0 0),(6,.lp 1 0),(7,.sl 0 []),(8,ti)],lo:=[(0,[.sl 1 [],.sl 2 []]),(1,[.sl 3 [],.sl 4 []])],ro:=[(0,.int,true),(1,.bool,true),(2,.slot,true),(3,.bool,true),(4,.slot,true)] })]
theorem zIY (a0:Kept)(a1:List Slot)(a2:Int)(hc:zlA a0 a1 a2=true):∃N,zxf N a0 a1 a2=some [aT .kept (zup a0 a1 a2)]:=by
 obtain ⟨hs,hs2⟩:=zD.1 hc;have hl:(zpW a1 a2).length<=big:=jB (zzh _ a1 0) (zcK hs2).1;refine zb8 fun N hNN=>?_;unfold zxf oN
 conv=>zeta
 refine must (zbb ((zxj _).2 hs)) (must (zbb (by omega)) ?_)
 refine (zbc (zpW a1 a2) (fun i (t:lB×lS)=>((i:Int),(zpW a1 a2),t.1,t.2,[],[],())) _ (fun _ (x:Int) (t:List Bool×List Slot) κ=>bif pc (SmK ⟨t.1,t.2⟩) then κ ((zbL ⟨t.1,t.2⟩ x).Known,(zbL ⟨t.1,t.2⟩ x).Slots) else none) (fun (t:lB×lS)=>(some [(.agg (Ty.cells .kept (⟨t.1,t.2⟩:Kept)))])) (fun i hi t rec=>?_) (fun t rec=>?_) _ ((zdr a0).Known,(zdr a0).Slots) (hNN hl)).trans ?_
 .simp only [zbo hi,zY hi,zbd hi,zW hi hl,cT]
 .simp only [zbf,cF]
 exact zyT _ _ 0 a0 hs
theorem zCG:u3 303 zug:=kF3 ztw zk zl zo zJu zIY
@[simp] abbrev zpt (k:Kept)(l:List Slot)(p:Int):Bool:=pc (SmK k/\l.length<=1048576)
@[simp] abbrev ztP (k:Kept)(l:List Slot)(p:Int):Kept:=zhI k l p
def zt7:Run:=rF3 (dT .kept) (dS .slot) dI fun b c d=>(zpt b c d,[aT .kept (ztP b c d)])
def zw7 (N:Nat)(a0:Kept)(a1:lS)(a2:Int):OA:=
 (oN (zf9 a0) (oN (zzc a1 a2) (iter (σ:=(Int×(Int×((List Int)×(lB×(lS×(lB×(lS×Unit)))))))) N (fun r4 s5=>let y1:=(ix s5.2.2.1 s5.2.1 0);let y0:=(⟨s5.2.2.2.2.2.1,s5.2.2.2.2.2.2.1⟩:Kept); (cond (ilt s5.2.1 s5.1) (oN (inb s5.2.1 (ln s5.2.2.1)) (oN (zy3 y0 y1) (r4 (s5.1,((zG .i64 s5.2.1 1),(s5.2.2.1,(s5.2.2.2.1,(s5.2.2.2.2.1,((ztO y0 y1).Known,((ztO y0 y1).Slots,())))))))))) (some [(aT .kept y0)]))) ((ln (zku a1 a2)),(0,((zku a1 a2),([],([],((zdd a0).Known,((zdd a0).Slots,()))))))))))
def zJo:FuncId->Nat->Option Tmpl:=zq [(183,0,{ n:=25,tm:=[(6,.lp 0 0),(7,.lp 1 0),(14,.sl 0 []),(15,ti),(16,ti)],lo:=[(0,[.sl 1 [],.sl 2 []]),(1,[.sl 3 [],.sl 4 []])],ro:=[(0,.int,true),(1,.bool,true),(2,.slot,true),(3,.bool,true),(4,.slot,true)] })]
theorem zIO (a0:Kept)(a1:List Slot)(a2:Int)(hc:zpt a0 a1 a2=true):∃N,zw7 N a0 a1 a2=some [aT .kept (ztP a0 a1 a2)]:=by
 obtain ⟨hs,hs2⟩:=zD.1 hc;have hl:(zku a1 a2).length<=big:=jB (zzh _ a1 0) (zcK hs2).1;refine zb8 fun N hNN=>?_;unfold zw7 oN
 conv=>zeta
 refine must (zbb hs) (must (zbb (by omega)) ?_)
 refine (zbc (zku a1 a2) (fun i (t:lB×lS)=>((ln (zku a1 a2)),(i:Int),(zku a1 a2),[],[],t.1,t.2,())) _ (fun _ (x:Int) (t:List Bool×List Slot) κ=>bif pc (SmK ⟨t.1,t.2⟩) then κ ((zbL ⟨t.1,t.2⟩ x).Known,(zbL ⟨t.1,t.2⟩ x).Slots) else none) (fun (t:lB×lS)=>(some [(.agg (Ty.cells .kept (⟨t.1,t.2⟩:Kept)))])) (fun i hi t rec=>?_) (fun t rec=>?_) _ ((zdd a0).Known,(zdd a0).Slots) (hNN hl)).trans ?_
 .simp only [zbo hi,zY hi,zbd hi,zW hi hl,cT]
 .simp only [zbf,cF]
 exact zyT _ _ 0 a0 hs
theorem zCz:u3 183 zt7:=kF3 ztw zk zl zo zJo zIO
def flushed (l:List Entry)(p:Int):List Entry:=l.filter fun e=>!ieq e.Host p
theorem zGJ (l:List Entry)(p:Int):(flushed l p).length<=l.length:=kY _ _
theorem zlg {α ρ:Type}(p:α->Bool)(K:List α->Option ρ):∀(l:List α) (i:Nat) (acc:List α),acc.length+l.length<=2147483648 ->
 goL (fun _ x acc κ=>bif p x then (cond (few (ln (ap acc [x]))) (κ (ap acc [x])) none) else κ acc) K l i acc=K (acc++l.filter p)
 | [],i,acc,_=>by simp[goL]
 | x :: l,i,acc,h=>by
  simp only[qV]at h;simp only[goL];cases hp:p x
  .rw [cF,zlg p K l (i+1) acc (by omega),List.filter_cons_of_neg (by simp[hp])]
  .rw [cT,zgw (by simp[ap];omega),cT,zlg p K l (i+1) _ (by simp[ap];omega),List.filter_cons_of_pos hp]
   simp[ap]
@[simp] abbrev zhA (l:List Entry)(p:Int):Bool:=pc (l.length<=1048576)
@[simp] abbrev zqD (l:List Entry)(p:Int):List Entry:=flushed l p
def zvE:Run:=rF2 (dS .entry) dI fun b c=>(zhA b c,[aS .entry (zqD b c)])
def zAh (N:Nat)(a0:lE)(a1:Int):OA:=
 (iter (σ:=(Int×(Int×(lE×(lE×Unit))))) N (fun r3 s4=>let y1:=s4.2.2.1;let y0:=(ix y1 s4.2.1 zeo); (cond (ilt s4.2.1 (ln y1)) (oN (inb s4.2.1 (ln y1)) (cond (ine y0.Host s4.1) (oN (inb s4.2.1 (ln y1)) (oN (few (ln (ap s4.2.2.2.1 [y0]))) (r3 (s4.1,((zG .i64 s4.2.1 1),(y1,((ap s4.2.2.2.1 [y0]),()))))))) (r3 (s4.1,((zG .i64 s4.2.1 1),(y1,(s4.2.2.2.1,()))))))) (some [(aS .entry s4.2.2.2.1)]))) (a1,(0,(a0,([],())))))
def zNo:FuncId->Nat->Option Tmpl:=zq [(304,0,{ n:=29,tm:=[(0,.sl 0 []),(1,ti),(5,.sl 1 []),(6,ti)],lo:=[],ro:=[(0,.entry,false),(1,.entry,true)] })]
theorem zMk (a0:List Entry)(a1:Int)(hc:zhA a0 a1=true):∃N,zAh N a0 a1=some [aS .entry (zqD a0 a1)]:=by
 have hs:=zD.1 hc;have hl:=zcK hs;refine zb8 fun N hNN=>?_;unfold zAh oN
 conv=>zeta
 refine (zbc a0 (fun i (t:lE)=>(a1,(i:Int),a0,t,())) _ (fun _ (x:Entry) (t:List Entry) κ=>bif !ieq x.Host a1 then (cond (few (ln (ap t [x]))) (κ (ap t [x])) none) else κ t) (fun (t:lE)=>(some [(.one (.s .entry t))])) (fun i hi t rec=>?_) (fun t rec=>?_) _ ([]) (hNN hl.1)).trans ?_
 .simp only [zbo hi,zY hi,zbd hi,zW hi hl.1,cT];rfl
 .simp only [zbf,cF]
 exact zlg (fun e=>!ieq e.Host a1) _ a0 0 [] (by simpa using hl.2)
theorem zFf:u3 304 zvE:=kF2 ztw zk zl zo zNo zMk
@[simp] abbrev zhu (l:List Entry)(p:Int):Bool:=pc (l.length<=1048576)
@[simp] abbrev zjM (l:List Entry)(p:Int):List Entry:=flushed l p
def zvp:Run:=rF2 (dS .entry) dI fun b c=>(zhu b c,[aS .entry (zjM b c)])
def zz2 (N:Nat)(a0:lE)(a1:Int):OA:=
 (iter (σ:=(Int×(Int×(Int×(lE×(lE×Unit)))))) N (fun r3 s4=>let y1:=s4.2.2.2.2.1;let y0:=(ix y1 s4.2.1 zeo); (cond (ilt s4.2.1 s4.1) (oN (inb s4.2.1 (ln y1)) (cond (nB (ieq y0.Host s4.2.2.1)) (oN (few (ln (ap s4.2.2.2.1 [y0]))) (r3 (s4.1,((zG .i64 s4.2.1 1),(s4.2.2.1,((ap s4.2.2.2.1 [y0]),(y1,()))))))) (r3 (s4.1,((zG .i64 s4.2.1 1),(s4.2.2.1,(s4.2.2.2.1,(y1,())))))))) (some [(aS .entry s4.2.2.2.1)]))) ((ln a0),(0,(a1,([],(a0,()))))))
def zNh:FuncId->Nat->Option Tmpl:=zq [(167,0,{ n:=25,tm:=[(1,.fn 249 [0]),(5,.sl 0 []),(9,.sl 1 []),(10,ti),(11,ti)],lo:=[(0,[ti])],ro:=[(0,.entry,true),(1,.entry,false)] })]
theorem zL4 (a0:List Entry)(a1:Int)(hc:zhu a0 a1=true):∃N,zz2 N a0 a1=some [aS .entry (zjM a0 a1)]:=by
 have hs:=zD.1 hc;have hl:=zcK hs;refine zb8 fun N hNN=>?_;unfold zz2 oN nB
 conv=>zeta
 refine (zbc a0 (fun i (t:lE)=>((ln a0),(i:Int),a1,t,a0,())) _ (fun _ (x:Entry) (t:List Entry) κ=>bif !ieq x.Host a1 then (cond (few (ln (ap t [x]))) (κ (ap t [x])) none) else κ t) (fun (t:lE)=>(some [(.one (.s .entry t))])) (fun i hi t rec=>?_) (fun t rec=>?_) _ ([]) (hNN hl.1)).trans ?_
 .simp only [zbo hi,zY hi,zbd hi,zW hi hl.1,cT];cases ieq a0[i].Host a1<;>rfl
 .simp only [zbf,cF]
 exact zlg (fun e=>!ieq e.Host a1) _ a0 0 [] (by simpa using hl.2)
theorem zE0:u3 184 zvp:=kF2 ztw zk zl zo zNh zL4
def zZ5:zQ:=[(303,zug),(183,zt7),(304,zvE),(184,zvp)]++z7p
theorem zHR:zI zZ5:=zh zCG (zh zCz (zh zFf (zh zE0 ztw)))
def zkZ (gs:List Guest)(p:Int):Nat->List Kept->List Kept
 | 0,ts=>ts
 | n+1,ts=>up (zkZ gs p n ts) (n:Int) (zhI (ix (zkZ gs p n ts) (n:Int) zd0) (ix gs (n:Int) zi).Live p)
theorem zp4 (gs:List Guest)(p:Int):∀(n:Nat) (ts:List Kept),(zkZ gs p n ts).length=ts.length
 | 0,_=>rfl
 | n+1,ts=>by simp only[zkZ,zgy];exact zp4 gs p n ts
theorem zwg (gs:List Guest)(p:Int):∀(n:Nat) (ts:List Kept),n<=ts.length->zB9 ts->zB9 (zkZ gs p n ts)
 | 0,_,_,h=>h
 | n+1,ts,hn,h=>by
  have ih:=zwg gs p n ts (by omega) h
  have hl:n<(zkZ gs p n ts).length:=by rw[zp4];omega
  exact zyt ih (z6n _ _ (by rw[zbd hl];exact ih.2 _ (jF hl)))
def zj6 (x:Mon)(p:Int)(n:Nat):Mon:={ x with Tables:=zkZ x.Guests p n x.Tables }
theorem z4l {x:Mon}{p:Int}{n:Nat}(hn:n<=x.Tables.length)(h:zfw x):zfw (zj6 x p n):=⟨h.1,h.2.1,h.2.2.1,h.2.2.2.1,h.2.2.2.2.1,zwg _ _ _ _ hn h.2.2.2.2.2⟩
def zb7 (h:Host)(m p:Int)(s:Slot):Host :=
 bif ine (ix (ix h.Mons m zf).Outer p zN).Page (-1)
 then ⟨h.Memory,up h.Mons m { zj6 (ix h.Mons m zf) p (ix h.Mons m zf).Tables.length with Outer:=up (ix h.Mons m zf).Outer p s },flushed h.Buffer (ix (ix h.Mons m zf).Outer p zN).Page,flushed h.IoBuffer (ix (ix h.Mons m zf).Outer p zN).Page⟩
 else ⟨h.Memory,up h.Mons m { zj6 (ix h.Mons m zf) p (ix h.Mons m zf).Tables.length with Outer:=up (ix h.Mons m zf).Outer p s },h.Buffer,h.IoBuffer⟩
def z9K (h:Host)(m p:Int):Prop:=hasB m (ln h.Mons)=true/\hasB p (ln (ix h.Mons m zf).Outer)=true/\(ix h.Mons m zf).Tables.length<=(ix h.Mons m zf).Guests.length
@[simp] abbrev ze1 (h:Host)(m p:Int)(s:Slot):Bool:=pc (zcd h/\z9K h m p)
@[simp] abbrev zgP (h:Host)(m p:Int)(s:Slot):Host:=zb7 h m p s
def zr8:List AV->Option (Bool×List AV)
 | [.agg [.s (.sl .int) b,.s .mon c,.s .entry d,.s .entry e],.one (.i .i64 f),.one (.i .i64 g),.agg [.i .i64 h,.i .i64 j]]=>some ((ze1 (⟨b,c,d,e⟩:Host) f g (⟨h,j⟩:Slot)),[aH (zgP (⟨b,c,d,e⟩:Host) f g (⟨h,j⟩:Slot))])
 | _=>none
def zwk (N:Nat)(a0:Host)(a1 a2:Int)(a3:Slot):OA:=
 let y7:=(ix a0.Mons a1 zf); (oN (inb a1 (ln a0.Mons)) (oN (inb a2 (ln y7.Outer)) (iter (σ:=(Int×(Int×(Int×(Int×(Int×(Int×(Int×(Int×(Int×(Int×(Int×(Int×(Int×(Int×(Int×(lM×(lN×(lE×(lE×(lM×(lN×(lE×(lE×Unit)))))))))))))))))))))))) N (fun r5 s6=>let y19:=s6.2.2.1;let y18:=s6.2.2.2.2.2.2.2.2.2.2.2.1;let y17:=s6.2.2.2.2.2.2.2.2.2.2.2.2.1;let y15:=s6.2.2.2.2.2.2.2.2.2.2.2.2.2.2.1;let y14:=s6.2.2.2.2.2.2.2.2.2.2.2.2.2.2.2.1;let y13:=s6.2.2.2.2.2.2.2.1;let y11:=s6.2.2.2.2.2.2.2.2.1;let y10:=s6.2.2.2.1;let y9:=s6.2.2.2.2.2.2.2.2.2.2.1;let y8:=s6.2.2.2.2.2.2.2.2.2.2.2.2.2.2.2.2.2.1;let y6:=s6.2.2.2.2.2.2.2.2.2.2.2.2.2.2.2.2.2.2.1;let y5:=s6.2.2.2.2.2.2.1;let y3:=s6.2.2.2.2.2.2.2.2.2.1;let y1:=s6.2.2.2.2.2.2.2.2.2.2.2.2.2.1;let y0:=s6.2.2.2.2.2.2.2.2.2.2.2.2.2.2.2.2.1;let y20:=(ix y0 y3 zf).Guests;let y16:=(ix y20 y10 zi).Live;let y12:=(ix y0 y5 zf);let y4:=(ix y0 y1 zf).Tables;let y2:=(up y0 y5 ({ y12 with Outer:=(up y12.Outer s6.2.1 (⟨s6.2.2.2.2.1,s6.2.2.2.2.2.1⟩:Slot)) }:Mon)); (cond (ilt y10 (ln y4)) (oN (inb y10 (ln y4)) (oN (inb y10 (ln y20)) (oN (zlA (ix y4 y10 zd0) y16 s6.2.1) (oN (inb y10 (ln y4)) (share (up y0 y1 ({ (ix y0 y1 zf) with Tables:=(up y4 y10 (zup (ix y4 y10 zd0) y16 s6.2.1)) }:Mon)) (fun x7=>(r5 (s6.1,(s6.2.1,(y19,((zG .i64 y10 1),(s6.2.2.2.2.1,(s6.2.2.2.2.2.1,(y5,(y13,(y11,(y3,(y9,(y18,(y17,(y1,(y15,(y14,(x7,(y8,(y6,(s6.2.2.2.2.2.2.2.2.2.2.2.2.2.2.2.2.2.2.2.1,(s6.2.2.2.2.2.2.2.2.2.2.2.2.2.2.2.2.2.2.2.2.1,(s6.2.2.2.2.2.2.2.2.2.2.2.2.2.2.2.2.2.2.2.2.2.1,(s6.2.2.2.2.2.2.2.2.2.2.2.2.2.2.2.2.2.2.2.2.2.2.1,())))))))))))))))))))))))))))))) (cond (ine y19 (-1)) (oN (zhA y8 y19) (oN (zhA y6 y19) (oN (inb s6.2.1 (ln y12.Outer)) (share y2 (fun x7=>(oN (inb s6.1 (ln x7)) (oN (cond (cond (cond (cond (cond (cond (ieq y1 s6.1) true false) (cond (ieq y9 s6.1) true false) false) (cond (ieq y3 s6.1) true false) false) (cond (ieq y11 s6.1) true false) false) (cond (ieq y13 s6.1) true false) false) (cond (ieq y5 s6.1) true false) false) (share (up x7 s6.1 ({ (ix x7 y5 zf) with Out:=(ix x7 y13 zf).Out,Dirty:=(ix x7 y11 zf).Dirty,Guests:=(ix x7 y3 zf).Guests,Outs:=(ix x7 y9 zf).Outs,Pending:=y18,Traps:=y17,Tables:=(ix x7 y1 zf).Tables,Own:=y15 }:Mon)) (fun x8=>(some [(aH (⟨y14,x8,(zqD y8 y19),(zqD y6 y19)⟩:Host))])))))))))) (oN (inb s6.2.1 (ln y12.Outer)) (share y2 (fun x7=>(oN (inb s6.1 (ln x7)) (oN (cond (cond (cond (cond (cond (cond (ieq y1 s6.1) true false) (cond (ieq y9 s6.1) true false) false) (cond (ieq y3 s6.1) true false) false) (cond (ieq y11 s6.1) true false) false) (cond (ieq y13 s6.1) true false) false) (cond (ieq y5 s6.1) true false) false) (share (up x7 s6.1 ({ (ix x7 y5 zf) with Out:=(ix x7 y13 zf).Out,Dirty:=(ix x7 y11 zf).Dirty,Guests:=(ix x7 y3 zf).Guests,Outs:=(ix x7 y9 zf).Outs,Pending:=y18,Traps:=y17,Tables:=(ix x7 y1 zf).Tables,Own:=y15 }:Mon)) (fun x8=>(some [(aH (⟨y14,x8,y8,y6⟩:Host))]))))))))))) (a1,(a2,((ix y7.Outer a2 zN).Page,(0,(a3.Page,(a3.Rights,(a1,(a1,(a1,(a1,(a1,(y7.Pending,(y7.Traps,(a1,(y7.Own,(a0.Memory,(a0.Mons,(a0.Buffer,(a0.IoBuffer,([],([],([],([],()))))))))))))))))))))))))))
def zTh:FuncId->Nat->Option Tmpl:=zq [(255,0,{ n:=70,tm:=[(1,ti),(2,ti),(4,.lp 0 0),(7,.lp 1 0),(8,.lp 2 0),(9,.lp 3 0),(10,ti),(11,ti)],lo:=[(0,[.sl 0 [],.sl 1 [],.sl 2 [],.sl 3 []]),(1,[ti,ti]),(2,[.sl 4 [],.sl 5 [],.sl 6 [],.sl 7 []]),(3,[.sl 1 [0],.sl 1 [1],.sl 1 [2],.sl 1 [3],.sl 1 [4],ti,ti,.sl 1 [7],ti])],ro:=[(0,(.sl .int),true),(1,.mon,true),(2,.entry,true),(3,.entry,true),(4,(.sl .int),true),(5,.mon,true),(6,.entry,true),(7,.entry,true)] })]
theorem zV3 (N:Nat)(a0:Host)(a1 a2:Int)(a3:Slot):zEy (cQ zZ5 zop zI9 zjm) zTh N 12 255 [true,true,true,true,false,false,false,false] 1 1 [[0],[1],[2],[4],[7]] .mon [aH a0,aI a1,aI a2,aT .slot a3]=zwk N a0 a1 a2 a3:=by kernel_rfl
theorem zSW (a0:Host)(a1 a2:Int)(a3:Slot)(hb:zbD big [aH a0,aI a1,aI a2,aT .slot a3])(hc:ze1 a0 a1 a2 a3=true):∃N,zwk N a0 a1 a2 a3=some [aH (zgP a0 a1 a2 a3)]:=by
 obtain ⟨hs,h1,h2,h3⟩:=zD.1 hc;have hH:=(zJ a0).1 hs;have hm:zfw (ix a0.Mons a1 zf):=hH.2.1.2 _ (zbv h1 _);obtain ⟨k,rfl,hk⟩:=zdJ (n:=a0.Mons.length) h1;have hT:=(zcK hm.2.2.2.2.2.1).1;refine zb8 fun N hNN=>?_;unfold zwk oN
 conv=>zeta
 refine must h1 (must h2 ?_);refine zpw (ix a0.Mons (k:Int) zf).Tables.length (fun i (t:List Mon)=>((k:Int),a2,(ix (ix a0.Mons (k:Int) zf).Outer a2 zN).Page,(i:Int),a3.Page,a3.Rights,(k:Int),(k:Int),(k:Int),(k:Int),(k:Int),(ix a0.Mons (k:Int) zf).Pending,(ix a0.Mons (k:Int) zf).Traps,(k:Int),(ix a0.Mons (k:Int) zf).Own,a0.Memory,t,a0.Buffer,a0.IoBuffer,[],[],[],[],())) _
  (fun i t=>t=up a0.Mons (k:Int) (zj6 (ix a0.Mons (k:Int) zf) a2 i)) (fun _ _=>some [AV.agg (zba (zb7 a0 (k:Int) a2 a3))]) (fun i t rec hi hI hr=>?_) (fun t rec hI=>?_) _ 0 a0.Mons ?_ (jQ _) ?_
 .subst hI;have hi2:i<(zkZ (ix a0.Mons (k:Int) zf).Guests a2 i (ix a0.Mons (k:Int) zf).Tables).length:=by rw[zp4];exact hi
  have hi3:i<(ix a0.Mons (k:Int) zf).Guests.length:=by omega
  have hf:zlA (ix (zkZ (ix a0.Mons (k:Int) zf).Guests a2 i (ix a0.Mons (k:Int) zf).Tables) (i:Int) zd0) (ix (ix a0.Mons (k:Int) zf).Guests (i:Int) zi).Live a2=true :=
   zbb ⟨by rw[zbd hi2];exact (zwg _ _ _ _ (by omega) hm.2.2.2.2.2).2 _ (jF hi2),by rw[zbd hi3];exact (hm.2.2.2.1.2 _ (jF hi3)).2.2.1⟩
  simp only[zdO hk,zwi,zj6,zbo hi2,zY hi2,zY hi3,hf,cT,share,zW hi hT];exact hr _ rfl
 .subst hI;simp only[zdO hk,zwi,zgy,zj6,ln,zp4,zdU,show ilt (((ix a0.Mons (k:Int) zf).Tables.length:Nat):Int) (((ix a0.Mons (k:Int) zf).Tables.length:Nat):Int)=false from qH (by omega),cT,cF,share]
  have h1':inb (k:Int) ((a0.Mons.length:Nat):Int)=true:=h1;have h2':inb a2 (((ix a0.Mons (k:Int) zf).Outer.length:Nat):Int)=true:=h2;have f1:zhA a0.Buffer (ix (ix a0.Mons (k:Int) zf).Outer a2 zN).Page=true:=zbb hH.2.2.1;have f2:zhA a0.IoBuffer (ix (ix a0.Mons (k:Int) zf).Outer a2 zN).Page=true:=zbb hH.2.2.2;simp only[h1',h2',f1,f2,cT];unfold zb7;cases ine (ix (ix a0.Mons (k:Int) zf).Outer a2 zN).Page (-1)<;>rfl
 .exact (zP5 hk _).symm
 .exact hNN (by omega)
theorem zLN:zd6 Tryz.prog 255 [true,true,true,true,false,false,false,false] (some (1,1,[[0],[1],[2],[4],[7]])) zr8:=by
 refine zlh (kt:=.mon) (zcT zHR zk zl zo) (zd2 (by kernel_rfl)) (by kernel_rfl) ?_
 intro avs rs hl hr h;have hb:=zij hr;unfold zr8 at h;split at h
 .obtain ⟨hc,rfl⟩:=zdS h;obtain ⟨N,hN⟩:=zSW _ _ _ _ (by exact hb) hc
  exact ⟨⟨_,rfl⟩,rfl,_,N,12,(zV3 N _ _ _ _ ).trans hN⟩
 .cases h
def zWO:ze4:=[(255,([true,true,true,true,false,false,false,false],(some (1,1,[[0],[1],[2],[4],[7]])),zr8))]++zjm
theorem zda:zd7 zWO:=zp5 zo (by
 intro x hx;simp only[qI,qU,or_false]at hx;rcases hx with rfl
 .exact zLN)
def zXe (x:Mon)(p:Int):Mon:={ x with Dirty:=up x.Dirty p false }
def zp7 (h:Host)(m p:Int):Host:={ h with Mons:=up h.Mons m (zXe (ix h.Mons m zf) p) }
def ztG (h:Host)(m p:Int):Host:=bif zcg h m p then (cond (zcJ (ix (ix h.Mons m zf).Outer p zN) noSlot) (zp7 h m p) (zb7 (zp7 h m p) m p ⟨(ix (ix h.Mons m zf).Outer p zN).Page,1⟩)) else h
theorem zyY:∀(l:List Mon) (u:List Bool),zio l u=true->∀x∈l,zd3 x=true
 | [],_,_,x,hx=>by cases hx
 | m :: l,u,h,x,hx=>by
  simp only[zio]at h;cases h1:zd3 m
  .rw [h1]at h;cases h
  .rw [h1]at h;simp only[cT]at h;cases h2:zgz m.Outer u with
   | none=>rw[h2]at h;cases h
   | some u' =>
    rw[h2]at h;rcases qI.1 hx with rfl|hx
    .exact h1
    .exact zyY l u' h x hx
structure PageAt (h:Host) (m p:Int):Prop where
 hm:hasB m (ln h.Mons)=true
 hp:hasB p 8=true
 ok:zd3 (ix h.Mons m zf)=true
 ho:(ix h.Mons m zf).Outer.length=8
 hd:(ix h.Mons m zf).Dirty.length=8
 ht:(ix h.Mons m zf).Tables.length=(ix h.Mons m zf).Guests.length
 hs:zcJ (ix (ix h.Mons m zf).Outer p zN) noSlot=ieq (ix (ix h.Mons m zf).Outer p zN).Page (-1)
theorem zRv {s:Slot}{n:Int}(h:zdD s n=true):zcJ s noSlot=ieq s.Page (-1):=by
 unfold zdD at h;cases h1:zcJ s noSlot
 .rw [h1]at h;cases h2:ieq s.Page (-1)
  .rfl
  .have e:s.Page = -1:=qD h2;cases h3:igt n 0
   .rw [h3]at h;cases h
   .cases h4:win s.Page 0 (wsub .i64 n 1)
    .rw [h3,h4]at h;cases h
    .have:=(zfl.1 h4).1;omega
 .unfold zcJ at h1;rw[qE]at h1;exact h1.1.symm
theorem zMC {h:Host}{m p:Int}(hp:zcg h m p=true):PageAt h m p:=by
 unfold zcg at hp;simp only[zcZ]at hp;obtain ⟨h0,h1,h2⟩:=hp;unfold zbX at h0;simp only[zcZ]at h0;have hok:=zyY _ _ h0.2.2.2.2 _ (zbv h1 zf);have hk:=hok;unfold zd3 at hk;simp only[zcZ]at hk;have ho:(ix h.Mons m zf).Outer.length=8:=by have:=zrz hk.2.2.1;simp only[ln] at this;omega
 refine ⟨h1,h2,hok,ho,?_,?_,?_⟩
 .have:ln (ix h.Mons m zf).Dirty=8:=qD hk.2.2.2.2.1;simp only[ln] at this;omega
 .have:ln (ix h.Mons m zf).Tables=ln (ix h.Mons m zf).Guests:=qD hk.2.1;simp only[ln] at this;omega
 .have ht:=hk.2.2.1;unfold zcF at ht;simp only[zcZ]at ht;have hi:hasB p (ln (ix h.Mons m zf).Outer)=true:=by rw[ln,ho];exact h2
  exact zRv (qO.1 ht.1 _ (zbv hi _))
theorem zWG {x:Mon}{p:Int}(h:zfw x):zfw (zXe x p):=⟨h.1,h.2.1,by simpa [zXe] using h.2.2.1,h.2.2.2⟩
theorem zzQ {h:Host}{m p:Int}(hm:hasB m (ln h.Mons)=true)(hs:SmH h):SmH (zp7 h m p):=⟨hs.1,ziW hs.2.1 (zWG (hs.2.1.2 _ (zbv hm _))),hs.2.2⟩
theorem zHr {h:Host}{m p:Int}{s:Slot}(hm:hasB m (ln h.Mons)=true)(hs:SmH h):SmH (zb7 h m p s):=by
 have hx:=hs.2.1.2 _ (zbv hm zf);have ht:=z4l (p:=p) (qW _) hx;have hM:zq1 (up h.Mons m { zj6 (ix h.Mons m zf) p (ix h.Mons m zf).Tables.length with Outer:=up (ix h.Mons m zf).Outer p s }):=ziW hs.2.1 ⟨by simpa using hx.1,ht.2⟩
 unfold zb7;cases ine (ix (ix h.Mons m zf).Outer p zN).Page (-1)
 .exact ⟨hs.1,hM,hs.2.2⟩
 .exact ⟨hs.1,hM,jB (zGJ _ _) hs.2.2.1,jB (zGJ _ _) hs.2.2.2⟩
theorem zzT {h:Host}{m p:Int}(hm:hasB m (ln h.Mons)=true):hasB m (ln (zp7 h m p).Mons)=true:=by
 unfold zp7;simpa [ln] using hm
theorem z4h {h:Host}{m p:Int}(hs:SmH h):SmH (ztG h m p):=by
 unfold ztG;cases hp:zcg h m p
 .exact hs
 .have P:=zMC hp;cases zcJ (ix (ix h.Mons m zf).Outer p zN) noSlot
  .exact zHr (zzT P.hm) (zzQ P.hm hs)
  .exact zzQ P.hm hs
@[simp] abbrev zD4 (h:Host)(m p:Int):Bool:=pc (zcd h)
@[simp] abbrev zvK (h:Host)(m p:Int):Host:=ztG h m p
@[simp] abbrev zvL (h:Host)(m p:Int):Bool:=zcg h m p
def zG9:Run:=rF3 dH dI dI fun b c d=>(zD4 b c d,[aH (zvK b c d),aB (zvL b c d)])
def zQn (N:Nat)(a0:Host)(a1 a2:Int):OA:=
 let y3:=(zu a0);let y2:=(ix y3.Mons a1 zf); (oN (zbI a0) (oN (znE y3 a1 a2) (cond (nB (zhB y3 a1 a2)) (some [(aH y3),(aB false)]) (oN (inb a1 (ln y3.Mons)) (oN (inb a2 (ln y2.Dirty)) (share (up y3.Mons a1 ({ y2 with Dirty:=(up y2.Dirty a2 false) }:Mon)) (fun x4=>let y4:=(ix x4 a1 zf).Outer;let y1:=({ y3 with Mons:=x4 }:Host);let y0:=(ix y4 a2 zN);let y5:=({ y0 with Rights:=1 }:Slot); (oN (inb a1 (ln x4)) (oN (inb a2 (ln y4)) (oN zcn (cond (cond (ieq y0.Page zbr.Page) (ieq y0.Rights zbr.Rights) false) (some [(aH y1),(aB true)]) (oN (ze1 y1 a1 a2 y5) (some [(aH (zgP y1 a1 a2 y5)),(aB true)])))))))))))))
theorem zXT (a0:Host)(a1 a2:Int)(hc:zD4 a0 a1 a2=true):∃N,zQn N a0 a1 a2=some [aH (zvK a0 a1 a2),aB (zvL a0 a1 a2)]:=by
 have hs:=zD.1 hc;have hH:=(zJ a0).1 hs;refine ⟨0,?_⟩;unfold zQn zvK zvL ztG oN nB
 conv=>zeta
 refine must (zbb hs) (must rfl ?_);cases hp:zcg a0 a1 a2
 .simp only [zhB,zu,hp,cF,cT]
 .have P:=zMC hp;obtain ⟨k,rfl,hk⟩:=zdJ (n:=a0.Mons.length) P.hm;simp only[zhB,zu,hp,cT,cF];have i1:inb a2 (ln (ix a0.Mons (k:Int) zf).Dirty)=true:=by rw[ln,P.hd];exact P.hp
  have i2:inb a2 (ln (ix a0.Mons (k:Int) zf).Outer)=true:=by rw[ln,P.ho];exact P.hp
  refine must P.hm (must i1 ?_);simp only[share,zdO hk,i2,cT,zcn,zbr];refine must (zzT (p:=a2) P.hm) ?_;have e:∀s:Slot,zcJ s noSlot=bif ieq s.Page noSlot.Page then ieq s.Rights noSlot.Rights else false:=fun s=>by
   unfold zcJ;cases ieq s.Page noSlot.Page<;>rfl
  rw[<- e];cases zcJ (ix (ix a0.Mons (k:Int) zf).Outer a2 zN) noSlot
  .refine zcH rfl (must (zbb ⟨(zJ _).2 (zzQ P.hm hH),zzT (p:=a2) P.hm,?_,?_⟩) rfl)
   .simp only [zdO hk];exact i2
   .simp only [zdO hk];exact u1 P.ht
  .rfl
theorem zRS:u3 196 zG9:=kF3 zHR zk zl zda (zq []) zXT
def z2u:zQ:=[(196,zG9)]++zZ5
theorem z2v:zI z2u:=zh zRS zHR
def z2w:zQ:=z2u
theorem zeQ:zI z2w:=z2v
def zjd (o i t:Int):Int:=bif zc8 i t then 1 else (cond (zc8 o t) 2 0)
@[simp] abbrev zqO (o i t:Int):Bool:=true
@[simp] abbrev znB (o i t:Int):Int:=zjd o i t
def zAR:Run:=rF3 dI dI dI fun b c d=>(zqO b c d,[aI (znB b c d)])
def zGn (N:Nat)(a0 a1 a2:Int):OA:=
 (oN (zh9 a1 a2) (cond (zhP a1 a2) (some [(aI 1)]) (oN (zh9 a0 a2) (cond (zhP a0 a2) (some [(aI 2)]) (some [(aI 0)])))))
theorem zSE (a0 a1 a2:Int)(hc:zqO a0 a1 a2=true):∃N,zGn N a0 a1 a2=some [aI (znB a0 a1 a2)]:=by
 refine ⟨0,?_⟩;unfold zGn oN;refine must rfl (br (fun _=>?_) (fun _=>must rfl (br (fun _=>?_) (fun _=>?_))))
 all_goals first|rfl|(simp only [*,znB,zjd,cT,cF]<;>rfl)|simp_all[Ty.cells,znB,zjd]
theorem zLv:u3 271 zAR:=kF3 zeQ zk zl zda (zq []) zSE
@[simp] abbrev zwy (o i t:Int):Bool:=true
@[simp] abbrev znt (o i t:Int):Int:=zjd o i t
def zAw:Run:=rF3 dI dI dI fun b c d=>(zwy b c d,[aI (znt b c d)])
def zFZ (N:Nat)(a0 a1 a2:Int):OA:=
 (oN (zjN a1 a2) (cond (ziP a1 a2) (some [(aI 1)]) (oN (zjN a0 a2) (cond (ziP a0 a2) (some [(aI 2)]) (some [(aI 0)])))))
theorem zSf (a0 a1 a2:Int)(hc:zwy a0 a1 a2=true):∃N,zFZ N a0 a1 a2=some [aI (znt a0 a1 a2)]:=by
 refine ⟨0,?_⟩;unfold zFZ oN;refine must rfl (br (fun _=>?_) (fun _=>must rfl (br (fun _=>?_) (fun _=>?_))))
 all_goals first|rfl|(simp only [*,znt,zjd,cT,cF]<;>rfl)|simp_all[Ty.cells,znt,zjd]
theorem zLa:u3 143 zAw:=kF3 zeQ zk zl zda (zq []) zSf
theorem has3 (p:Int):hasB p 3=win p 0 2:=by
 unfold hasB win ige ile
 by_cases h1:0<=p<;>by_cases h2:p<3
 .rw [qJ (p:=0<=p/\p<3) ⟨h1,h2⟩,qJ (p:=p≥0) h1,qJ (p:=p<=2) (by omega)];rfl
 .rw [qH (p:=0<=p/\p<3) (by omega),qH (p:=p<=2) (by omega)];simp
 .rw [qH (p:=0<=p/\p<3) (by omega),qH (p:=p≥0) (by omega)];simp
 .rw [qH (p:=0<=p/\p<3) (by omega),qH (p:=p≥0) (by omega)];simp
theorem has2 (p:Int):hasB p 2=win p 0 1:=by
 unfold hasB win ige ile
 by_cases h1:0<=p<;>by_cases h2:p<2
 .rw [qJ (p:=0<=p/\p<2) ⟨h1,h2⟩,qJ (p:=p≥0) h1,qJ (p:=p<=1) (by omega)];rfl
 .rw [qH (p:=0<=p/\p<2) (by omega),qH (p:=p<=1) (by omega)];simp
 .rw [qH (p:=0<=p/\p<2) (by omega),qH (p:=p≥0) (by omega)];simp
 .rw [qH (p:=0<=p/\p<2) (by omega),qH (p:=p≥0) (by omega)];simp
def zdG (m g:Int):Int:=bif win m 0 2 then (cond (win g 0 1) (zG .i64 (zG .i64 1 g) (zlX .i64 m 2)) 0) else 0
@[simp] abbrev zkL (m g:Int):Bool:=true
@[simp] abbrev ztn (m g:Int):Int:=zdG m g
def zHg:Run:=rF2 dI dI fun b c=>(zkL b c,[aI (ztn b c)])
def zQu (N:Nat)(a0 a1:Int):OA:=
 (oN (zK a0 0 2) (cond (nB (zM a0 0 2)) (some [(aI 0)]) (oN (zK a1 0 1) (cond (nB (zM a1 0 1)) (some [(aI 0)]) (some [(aI (zG .i64 (zG .i64 1 a1) (zlX .i64 a0 2)))])))))
theorem zX0 (a0 a1:Int)(hc:zkL a0 a1=true):∃N,zQu N a0 a1=some [aI (ztn a0 a1)]:=by
 refine ⟨0,?_⟩;unfold zQu oN nB;refine must rfl (brN (fun _=>?_) (fun _=>must rfl (brN (fun _=>?_) (fun _=>?_))))
 all_goals first|rfl|(simp only [*,ztn,zdG,cT,cF]<;>rfl)|simp_all[Ty.cells,ztn,zdG]
theorem zRZ:u3 212 zHg:=kF2 zeQ zk zl zda (zq []) zX0
@[simp] abbrev zvg (m g:Int):Bool:=true
@[simp] abbrev zxy (m g:Int):Int:=zdG m g
def zG5:Run:=rF2 dI dI fun b c=>(zvg b c,[aI (zxy b c)])
def zQj (N:Nat)(a0 a1:Int):OA:=
 (oN (zcr a0 3) (cond (nB (zcX a0 3)) (some [(aI 0)]) (oN (zcr a1 2) (cond (nB (zcX a1 2)) (some [(aI 0)]) (some [(aI (zG .i64 (zG .i64 1 a1) (zlX .i64 a0 2)))])))))
theorem zXO (a0 a1:Int)(hc:zvg a0 a1=true):∃N,zQj N a0 a1=some [aI (zxy a0 a1)]:=by
 refine ⟨0,?_⟩;unfold zQj oN nB;refine must rfl (brN (fun _=>?_) (fun _=>must rfl (brN (fun _=>?_) (fun _=>?_))))
 all_goals first|rfl|(simp only [*,zxy,zdG,has3,has2,cT,cF]<;>rfl)|simp_all[Ty.cells,zxy,zdG,has3,has2]
theorem zRN:u3 79 zG5:=kF2 zeQ zk zl zda (zq []) zXO
def ziv (k:Kept)(p:Int):Bool:=bif zc9 k p then ix k.Known p false else false
def zdA (k:Kept)(p:Int):Slot:=bif ziv k p then ix k.Slots p zN else noSlot
@[simp] abbrev zEO (k:Kept)(p:Int):Bool:=pc (SmK k)
@[simp] abbrev ztl (k:Kept)(p:Int):Slot:=zdA k p
@[simp] abbrev zEN (k:Kept)(p:Int):Bool:=ziv k p
def zRp:Run:=rF2 (dT .kept) dI fun b c=>(zEO b c,[aT .slot (ztl b c),aB (zEN b c)])
def zYQ (N:Nat)(a0:Kept)(a1:Int):OA:=
 let y0:=(ix a0.Slots a1 zN); (oN (zo6 a0 a1) (cond (nB (zib a0 a1)) (oN zcn (some [(.agg [(.i .i64 zbr.Page),(.i .i64 zbr.Rights)]),(aB false)])) (oN (inb a1 (ln a0.Known)) (cond (nB (ix a0.Known a1 false)) (oN zcn (some [(.agg [(.i .i64 zbr.Page),(.i .i64 zbr.Rights)]),(aB false)])) (oN (inb a1 (ln a0.Slots)) (some [(.agg [(.i .i64 y0.Page),(.i .i64 y0.Rights)]),(aB true)]))))))
theorem z3k (a0:Kept)(a1:Int)(hc:zEO a0 a1=true):∃N,zYQ N a0 a1=some [aT .slot (ztl a0 a1),aB (zEN a0 a1)]:=by
 have hs:=zD.1 hc;refine ⟨0,?_⟩;unfold zYQ ztl zEN zdA ziv oN nB
 conv=>zeta
 refine must (zbb hs) ?_;rw[show zib a0 a1=zc9 a0 a1 from rfl]
 cases hh:zc9 a0 a1
 .rfl
 .unfold zc9 at hh;obtain ⟨h1,h2⟩:=zcZ.1 hh;simp only[zx h1,zx h2,cT];cases ix a0.Known a1 false<;>rfl
theorem zXF:u3 288 zRp:=kF2 zeQ zk zl zda (zq []) z3k
@[simp] abbrev zxv (k:Kept)(p:Int):Bool:=true
@[simp] abbrev ztc (k:Kept)(p:Int):Slot:=zdA k p
@[simp] abbrev zEF (k:Kept)(p:Int):Bool:=ziv k p
def zRl:Run:=rF2 (dT .kept) dI fun b c=>(zxv b c,[aT .slot (ztc b c),aB (zEF b c)])
def zYM (N:Nat)(a0:Kept)(a1:Int):OA:=
 let y0:=(ix a0.Slots a1 zN); (oN (zcr a1 (ln a0.Known)) (cond (nB (zcX a1 (ln a0.Known))) (oN zdc (some [(.agg [(.i .i64 zcw.Page),(.i .i64 zcw.Rights)]),(aB false)])) (oN (zcr a1 (ln a0.Slots)) (cond (nB (zcX a1 (ln a0.Slots))) (oN zdc (some [(.agg [(.i .i64 zcw.Page),(.i .i64 zcw.Rights)]),(aB false)])) (oN (inb a1 (ln a0.Known)) (cond (nB (ix a0.Known a1 false)) (oN zdc (some [(.agg [(.i .i64 zcw.Page),(.i .i64 zcw.Rights)]),(aB false)])) (oN (inb a1 (ln a0.Slots)) (some [(.agg [(.i .i64 y0.Page),(.i .i64 y0.Rights)]),(aB true)]))))))))
theorem z3g (a0:Kept)(a1:Int)(hc:zxv a0 a1=true):∃N,zYM N a0 a1=some [aT .slot (ztc a0 a1),aB (zEF a0 a1)]:=by
 refine ⟨0,?_⟩;unfold zYM ztc zEF zdA ziv zc9 oN nB
 conv=>zeta
 rw[show zcX a1 (ln a0.Known)=hasB a1 (ln a0.Known) from rfl,show zcX a1 (ln a0.Slots)=hasB a1 (ln a0.Slots) from rfl]
 cases h1:hasB a1 (ln a0.Known)
 .rfl
 .cases h2:hasB a1 (ln a0.Slots)
  .rfl
  .simp only [zcr,zx h1,zx h2,cT];cases ix a0.Known a1 false<;>rfl
theorem zXB:u3 240 zRl:=kF2 zeQ zk zl zda (zq []) z3g
def filled (k:Kept)(inner outer:List Slot)(p:Int):Kept:=bif zc9 k p then (cond (hasB p (ln inner)) ⟨up k.Known p true,up k.Slots p (zbi (ix inner p zN) outer)⟩ k) else k
@[simp] theorem z1C {k:Kept}{inner outer:List Slot}{p:Int}(h:SmK k):SmK (filled k inner outer p):=by
 unfold filled;cases zc9 k p
 .exact h
 .cases hasB p (ln inner)
  .exact h
  .exact ⟨by simpa using h.1,by simpa using h.2⟩
@[simp] abbrev zJe (k:Kept)(i o:List Slot)(p:Int):Bool:=pc (SmK k)
@[simp] abbrev zMS (k:Kept)(i o:List Slot)(p:Int):Kept:=filled k i o p
def zMQ:Run:=rF4 (dT .kept) (dS .slot) (dS .slot) dI fun b c d e=>(zJe b c d e,[aT .kept (zMS b c d e)])
def zTI (N:Nat)(a0:Kept)(a1 a2:lS)(a3:Int):OA:=
 let y0:=(zdr a0); (oN (zfW a0) (oN (zo6 y0 a3) (cond (zib y0 a3) (cond (ilt a3 (ln a1)) (oN (inb a3 (ln y0.Known)) (share (up y0.Known a3 true) (fun x5=>(oN (inb a3 (ln a1)) (oN (zkb (ix a1 a3 zN) a2) (oN (inb a3 (ln y0.Slots)) (share (up y0.Slots a3 (zmM (ix a1 a3 zN) a2)) (fun x6=>(some [(aT .kept (⟨x5,x6⟩:Kept))]))))))))) (some [(aT .kept y0)])) (some [(aT .kept y0)]))))
theorem z0R (a0:Kept)(a1 a2:List Slot)(a3:Int)(hc:zJe a0 a1 a2 a3=true):∃N,zTI N a0 a1 a2 a3=some [aT .kept (zMS a0 a1 a2 a3)]:=by
 have hs:=zD.1 hc;refine ⟨0,?_⟩;unfold zTI zMS filled oN
 conv=>zeta
 refine must (zbb ((zxj _).2 hs)) (must (zbb hs) ?_);rw[show zib (zdr a0) a3=zc9 a0 a3 from rfl]
 cases hh:zc9 a0 a3
 .rfl
 .unfold zc9 at hh;obtain ⟨h1,h2⟩:=zcZ.1 hh;rw[has_lt h1 (m:=ln a1)];cases h3:hasB a3 (ln a1)
  .rfl
  .simp only [cT,zdr,zx h1,zx h2,zx h3,share,zkb];rfl
theorem zUC:u3 289 zMQ:=kF4 zeQ zk zl zda (zq []) z0R
@[simp] abbrev zIH (k:Kept)(i o:List Slot)(p:Int):Bool:=pc (SmK k)
@[simp] abbrev zLS (k:Kept)(i o:List Slot)(p:Int):Kept:=filled k i o p
def zMN:Run:=rF4 (dT .kept) (dS .slot) (dS .slot) dI fun b c d e=>(zIH b c d e,[aT .kept (zLS b c d e)])
def zTE (N:Nat)(a0:Kept)(a1 a2:lS)(a3:Int):OA:=
 let y0:=(zdd a0); (oN (zf9 a0) (oN (zcr a3 (ln a0.Known)) (cond (zcX a3 (ln a0.Known)) (oN (zcr a3 (ln a0.Slots)) (cond (zcX a3 (ln a0.Slots)) (oN (zcr a3 (ln a1)) (cond (zcX a3 (ln a1)) (oN (inb a3 (ln y0.Known)) (share (up y0.Known a3 true) (fun x5=>(oN (inb a3 (ln a1)) (oN (zj7 (ix a1 a3 zN) a2) (oN (inb a3 (ln y0.Slots)) (share (up y0.Slots a3 (zmI (ix a1 a3 zN) a2)) (fun x6=>(some [(aT .kept (⟨x5,x6⟩:Kept))]))))))))) (some [(aT .kept y0)]))) (some [(aT .kept y0)]))) (some [(aT .kept y0)]))))
theorem z0M (a0:Kept)(a1 a2:List Slot)(a3:Int)(hc:zIH a0 a1 a2 a3=true):∃N,zTE N a0 a1 a2 a3=some [aT .kept (zLS a0 a1 a2 a3)]:=by
 have hs:=zD.1 hc;refine ⟨0,?_⟩;unfold zTE zLS filled zc9 oN
 conv=>zeta
 refine must (zbb hs) ?_;simp only[zcX,zcr,zdd,cT];cases h1:hasB a3 (ln a0.Known)
 .rfl
 .cases h2:hasB a3 (ln a0.Slots)
  .rfl
  .cases h3:hasB a3 (ln a1)
   .rfl
   .simp only [cT,zx h1,zx h2,zx h3,share,zj7];rfl
theorem zUx:u3 241 zMN:=kF4 zeQ zk zl zda (zq []) z0M
theorem zHZ {α ρ:Type}(p:α->Bool)(r:α->Option ρ)(K:Unit->Option ρ):∀(l:List α) (i:Nat),goL (fun _ x (_:Unit) k=>bif p x then r x else k ()) K l i ()=match l.find? p with|some x=>r x|none=>K ()
 | [],_=>rfl
 | x :: l,i=>by
  simp only[goL];cases h:p x
  .rw [List.find?_cons_of_neg (by simp[h])]
   exact zHZ p r K l (i+1)
  .rw [List.find?_cons_of_pos h];rfl
def zsy (b:List Entry)(t p:Int):Option Entry:=b.find? fun e=>bif ieq e.Tag t then ieq e.Page p else false
@[simp] abbrev zmP (b:List Entry)(t p:Int):Bool:=true
@[simp] abbrev zmO (b:List Entry)(t p:Int):Entry:=(zsy b t p).getD ⟨0,0,0,0⟩
@[simp] abbrev zjy (b:List Entry)(t p:Int):Bool:=(zsy b t p).isSome
def zvD:Run:=rF3 (dS .entry) dI dI fun b c d=>(zmP b c d,[aT .entry (zmO b c d),aB (zjy b c d)])
def zAg (N:Nat)(a0:lE)(a1 a2:Int):OA:=
 (iter (σ:=(Int×(Int×(Int×(Int×(Int×(Int×(Int×(lE×Unit))))))))) N (fun r4 s5=>let y2:=s5.2.2.2.2.2.2.2.1;let y3:=(inb s5.2.2.1 (ln y2));let y1:=(r4 (s5.1,(s5.2.1,((zG .i64 s5.2.2.1 1),(s5.2.2.2.1,(s5.2.2.2.2.1,(s5.2.2.2.2.2.1,(s5.2.2.2.2.2.2.1,(y2,())))))))));let y0:=(ix y2 s5.2.2.1 zeo); (cond (ilt s5.2.2.1 (ln y2)) (oN y3 (cond (ieq y0.Tag s5.1) (oN y3 (cond (ieq y0.Page s5.2.1) (oN y3 (some [(.agg [(.i .i64 y0.Tag),(.i .i64 y0.Page),(.i .i64 y0.Host),(.i .i64 y0.Rights)]),(aB true)])) y1)) y1)) (some [(.agg [(.i .i64 0),(.i .i64 0),(.i .i64 0),(.i .i64 0)]),(aB false)]))) (a1,(a2,(0,(0,(0,(0,(0,(a0,())))))))))
def zNn:FuncId->Nat->Option Tmpl:=zq [(286,0,{ n:=36,tm:=[(0,.sl 0 []),(1,ti),(2,ti),(6,.lp 0 0),(8,ti)],lo:=[(0,[ti,ti,ti,ti])],ro:=[(0,.entry,false)] })]
theorem zMj (a0:List Entry)(a1 a2:Int)(hb:zbD big [aS .entry a0,aI a1,aI a2])(hc:zmP a0 a1 a2=true):∃N,zAg N a0 a1 a2=some [aT .entry (zmO a0 a1 a2),aB (zjy a0 a1 a2)]:=by
 have hl:=(len0 hb);refine zb8 fun N hNN=>?_;unfold zAg oN
 conv=>zeta
 refine (zbc a0 (fun i (t:Unit)=>(a1,a2,(i:Int),0,0,0,0,a0,())) _ (fun _ (x:Entry) (_:Unit) κ=>bif (cond (ieq x.Tag a1) (ieq x.Page a2) false) then (some [AV.agg (Ty.cells .entry x),AV.one (.b true)]) else κ ()) (fun (t:Unit)=>(some [(.agg [(.i .i64 0),(.i .i64 0),(.i .i64 0),(.i .i64 0)]),(.one (.b false))])) (fun i hi t rec=>?_) (fun t rec=>?_) _ () (hNN hl)).trans ?_
 .simp only [zbo hi,zY hi,zbd hi,zW hi hl,cT];cases ieq a0[i].Tag a1<;>cases ieq a0[i].Page a2<;>rfl
 .simp only [zbf,cF]
 rw[zHZ (fun e:Entry=>bif ieq e.Tag a1 then ieq e.Page a2 else false)]
 unfold zmO zjy zsy;cases a0.find? (fun e:Entry=>bif ieq e.Tag a1 then ieq e.Page a2 else false)<;>rfl
theorem zFe:u3 286 zvD:=hF3 zeQ zk zl zda zNn zMj
@[simp] abbrev zmJ (b:List Entry)(t p:Int):Bool:=true
@[simp] abbrev zjt (b:List Entry)(t p:Int):Entry:=(zsy b t p).getD ⟨0,0,0,0⟩
@[simp] abbrev zju (b:List Entry)(t p:Int):Bool:=(zsy b t p).isSome
def zvo:Run:=rF3 (dS .entry) dI dI fun b c d=>(zmJ b c d,[aT .entry (zjt b c d),aB (zju b c d)])
def zz1 (N:Nat)(a0:lE)(a1 a2:Int):OA:=
 (iter (σ:=(Int×(Int×(Int×(Int×(Int×(Int×(Int×(Int×(lE×Unit)))))))))) N (fun r4 s5=>let y2:=s5.2.2.2.2.2.2.2.2.1;let y1:=(r4 (s5.1,(s5.2.1,(s5.2.2.1,((zG .i64 s5.2.2.2.1 1),(s5.2.2.2.2.1,(s5.2.2.2.2.2.1,(s5.2.2.2.2.2.2.1,(s5.2.2.2.2.2.2.2.1,(y2,()))))))))));let y0:=(ix y2 s5.2.2.2.1 zeo); (cond (ilt s5.2.2.2.1 s5.2.2.1) (oN (inb s5.2.2.2.1 (ln y2)) (cond (ieq y0.Tag s5.1) (cond (ieq y0.Page s5.2.1) (some [(.agg [(.i .i64 y0.Tag),(.i .i64 y0.Page),(.i .i64 y0.Host),(.i .i64 y0.Rights)]),(aB true)]) y1) y1)) (some [(.agg [(.i .i64 0),(.i .i64 0),(.i .i64 0),(.i .i64 0)]),(aB false)]))) (a1,(a2,((ln a0),(0,(0,(0,(0,(0,(a0,()))))))))))
def zNg:FuncId->Nat->Option Tmpl:=zq [(239,0,{ n:=29,tm:=[(1,ti),(2,ti),(6,.lp 0 0),(10,.sl 0 []),(11,ti),(12,ti)],lo:=[(0,[ti,ti,ti,ti])],ro:=[(0,.entry,false)] })]
theorem zL3 (a0:List Entry)(a1 a2:Int)(hb:zbD big [aS .entry a0,aI a1,aI a2])(hc:zmJ a0 a1 a2=true):∃N,zz1 N a0 a1 a2=some [aT .entry (zjt a0 a1 a2),aB (zju a0 a1 a2)]:=by
 have hl:=(len0 hb);refine zb8 fun N hNN=>?_;unfold zz1 oN
 conv=>zeta
 refine (zbc a0 (fun i (t:Unit)=>(a1,a2,(ln a0),(i:Int),0,0,0,0,a0,())) _ (fun _ (x:Entry) (_:Unit) κ=>bif (cond (ieq x.Tag a1) (ieq x.Page a2) false) then (some [AV.agg (Ty.cells .entry x),AV.one (.b true)]) else κ ()) (fun (t:Unit)=>(some [(.agg [(.i .i64 0),(.i .i64 0),(.i .i64 0),(.i .i64 0)]),(.one (.b false))])) (fun i hi t rec=>?_) (fun t rec=>?_) _ () (hNN hl)).trans ?_
 .simp only [zbo hi,zY hi,zbd hi,zW hi hl,cT];cases ieq a0[i].Tag a1<;>cases ieq a0[i].Page a2<;>rfl
 .simp only [zbf,cF]
 rw[zHZ (fun e:Entry=>bif ieq e.Tag a1 then ieq e.Page a2 else false)]
 unfold zjt zju zsy;cases a0.find? (fun e:Entry=>bif ieq e.Tag a1 then ieq e.Page a2 else false)<;>rfl
theorem zEZ:u3 239 zvo:=hF3 zeQ zk zl zda zNg zL3
def zrn (t p:Int)(e:Entry):Bool:=bif ine e.Tag t then true else ine e.Page p
def zco (b:List Entry)(t p:Int):List Entry:=b.filter (zrn t p)
theorem zyO (b:List Entry)(t p:Int):(zco b t p).length<=b.length:=kY _ _
@[simp] abbrev zgt (b:List Entry)(t p:Int):Bool:=pc (b.length<=1048576)
@[simp] abbrev zms (b:List Entry)(t p:Int):List Entry:=zco b t p
def zvF:Run:=rF3 (dS .entry) dI dI fun b c d=>(zgt b c d,[aS .entry (zms b c d)])
def zAi (N:Nat)(a0:lE)(a1 a2:Int):OA:=
 (iter (σ:=(Int×(Int×(Int×(lE×(lE×Unit)))))) N (fun r4 s5=>let y4:=s5.2.2.2.1;let y2:=(inb s5.2.2.1 (ln y4));let y0:=(ix y4 s5.2.2.1 zeo);let y3:=(ap s5.2.2.2.2.1 [y0]);let y1:=(r4 (s5.1,(s5.2.1,((zG .i64 s5.2.2.1 1),(y4,(y3,())))))); (cond (ilt s5.2.2.1 (ln y4)) (oN y2 (cond (ine y0.Tag s5.1) (oN y2 (oN (few (ln y3)) y1)) (oN y2 (cond (ine y0.Page s5.2.1) (oN y2 (oN (few (ln y3)) y1)) (r4 (s5.1,(s5.2.1,((zG .i64 s5.2.2.1 1),(y4,(s5.2.2.2.2.1,())))))))))) (some [(aS .entry s5.2.2.2.2.1)]))) (a1,(a2,(0,(a0,([],()))))))
def zNp:FuncId->Nat->Option Tmpl:=zq [(211,0,{ n:=40,tm:=[(0,.sl 0 []),(1,ti),(2,ti),(7,.sl 1 []),(8,ti)],lo:=[],ro:=[(0,.entry,false),(1,.entry,true)] })]
theorem zMl (a0:List Entry)(a1 a2:Int)(hc:zgt a0 a1 a2=true):∃N,zAi N a0 a1 a2=some [aS .entry (zms a0 a1 a2)]:=by
 have hs:=zD.1 hc;have hl:=zcK hs;refine zb8 fun N hNN=>?_;unfold zAi oN
 conv=>zeta
 refine (zbc a0 (fun i (t:lE)=>(a1,a2,(i:Int),a0,t,())) _ (fun _ (x:Entry) (t:List Entry) κ=>bif zrn a1 a2 x then (cond (few (ln (ap t [x]))) (κ (ap t [x])) none) else κ t) (fun (t:lE)=>(some [(.one (.s .entry t))])) (fun i hi t rec=>?_) (fun t rec=>?_) _ ([]) (hNN hl.1)).trans ?_
 .simp only [zbo hi,zY hi,zbd hi,zW hi hl.1,cT];unfold zrn;cases ine a0[i].Tag a1<;>cases ine a0[i].Page a2<;>rfl
 .simp only [zbf,cF]
 exact zlg (zrn a1 a2) _ a0 0 [] (by simpa using hl.2)
theorem zFg:u3 211 zvF:=kF3 zeQ zk zl zda zNp zMl
@[simp] abbrev zrR (b:List Entry)(t p:Int):Bool:=pc (b.length<=1048576)
@[simp] abbrev zqk (b:List Entry)(t p:Int):List Entry:=zco b t p
def zvq:Run:=rF3 (dS .entry) dI dI fun b c d=>(zrR b c d,[aS .entry (zqk b c d)])
def zz3 (N:Nat)(a0:lE)(a1 a2:Int):OA:=
 (iter (σ:=(Int×(Int×(Int×(Int×(lE×(lE×Unit))))))) N (fun r4 s5=>let y3:=s5.2.2.2.2.2.1;let y0:=(ix y3 s5.2.1 zeo);let y2:=(ap s5.2.2.2.2.1 [y0]);let y1:=(r4 (s5.1,((zG .i64 s5.2.1 1),(s5.2.2.1,(s5.2.2.2.1,(y2,(y3,()))))))); (cond (ilt s5.2.1 s5.1) (oN (inb s5.2.1 (ln y3)) (cond (ieq y0.Tag s5.2.2.1) (cond (nB (ieq y0.Page s5.2.2.2.1)) (oN (few (ln y2)) y1) (r4 (s5.1,((zG .i64 s5.2.1 1),(s5.2.2.1,(s5.2.2.2.1,(s5.2.2.2.2.1,(y3,())))))))) (oN (few (ln y2)) y1))) (some [(aS .entry s5.2.2.2.2.1)]))) ((ln a0),(0,(a1,(a2,([],(a0,())))))))
def zNi:FuncId->Nat->Option Tmpl:=zq [(167,0,{ n:=25,tm:=[(1,.fn 168 [0,1]),(5,.sl 0 []),(9,.sl 1 []),(10,ti),(11,ti)],lo:=[(0,[ti]),(1,[ti])],ro:=[(0,.entry,true),(1,.entry,false)] })]
theorem zL5 (a0:List Entry)(a1 a2:Int)(hc:zrR a0 a1 a2=true):∃N,zz3 N a0 a1 a2=some [aS .entry (zqk a0 a1 a2)]:=by
 have hs:=zD.1 hc;have hl:=zcK hs;refine zb8 fun N hNN=>?_;unfold zz3 oN nB
 conv=>zeta
 refine (zbc a0 (fun i (t:lE)=>((ln a0),(i:Int),a1,a2,t,a0,())) _ (fun _ (x:Entry) (t:List Entry) κ=>bif zrn a1 a2 x then (cond (few (ln (ap t [x]))) (κ (ap t [x])) none) else κ t) (fun (t:lE)=>(some [(.one (.s .entry t))])) (fun i hi t rec=>?_) (fun t rec=>?_) _ ([]) (hNN hl.1)).trans ?_
 .simp only [zbo hi,zY hi,zbd hi,zW hi hl.1,cT];unfold zrn;simp only[zln];cases ieq a0[i].Tag a1<;>cases ieq a0[i].Page a2<;>rfl
 .simp only [zbf,cF]
 exact zlg (zrn a1 a2) _ a0 0 [] (by simpa using hl.2)
theorem zE1:u3 78 zvq:=kF3 zeQ zk zl zda zNi zL5
def z7v:zQ:=[(271,zAR),(143,zAw),(212,zHg),(79,zG5),(288,zRp),(240,zRl),(289,zMQ),(241,zMN),(286,zvD),(239,zvo),(211,zvF),(78,zvq)]++z2w
theorem ztx:zI z7v:=zh zLv (zh zLa (zh zRZ (zh zRN (zh zXF (zh zXB (zh zUC (zh zUx (zh zFe (zh zEZ (zh zFg (zh zE1 zeQ)))))))))))
def zpG (b:List Entry)(e:Entry):List Entry:=bif igt (ln (ap (zco b e.Tag e.Page) [e])) 6 then dp (ap (zco b e.Tag e.Page) [e]) (wsub .i64 (ln (ap (zco b e.Tag e.Page) [e])) 6) else ap (zco b e.Tag e.Page) [e]
theorem zzv {b:List Entry}(e:Entry)(h:b.length<=1048576):(zpG b e).length<=1048576/\(ap (zco b e.Tag e.Page) [e]).length<=1048577:=by
 have h1:=zyO b e.Tag e.Page;have h2:(ap (zco b e.Tag e.Page) [e]).length<=1048577:=by simp[ap];omega
 refine ⟨?_,h2⟩;unfold zpG;cases h3:igt (ln (ap (zco b e.Tag e.Page) [e])) 6
 .have h3:=jP h3;simp only[ln]at h3;simp only[cF];omega
 .simp only [cT,dp,List.length_drop];have h3:=qD h3;have:wsub .i64 (ln (ap (zco b e.Tag e.Page) [e])) 6=ln (ap (zco b e.Tag e.Page) [e])-6:=ztp (by simp only[ln] at *;omega) (by simp only[ln] at *;omega)
  rw[this];simp only[ln] at *;omega
@[simp] abbrev zoY (b:List Entry)(e:Entry):Bool:=pc (b.length<=1048576)
@[simp] abbrev zoX (b:List Entry)(e:Entry):List Entry:=zpG b e
def zyc:Run:=rF2 (dS .entry) (dT .entry) fun b c=>(zoY b c,[aS .entry (zoX b c)])
def zB0 (N:Nat)(a0:lE)(a1:Entry):OA:=
 let y0:=(ap (zms a0 a1.Tag a1.Page) [a1]);let y1:=(wsub .i64 (ln y0) 6); (oN (zgt a0 a1.Tag a1.Page) (oN (few (ln y0)) (cond (igt (ln y0) 6) (oN (inr y1 (ln y0) (ln y0)) (oN (few (ln (ap [] (dp y0 y1)))) (some [(aS .entry (ap [] (dp y0 y1)))]))) (some [(aS .entry y0)]))))
theorem zPj (a0:List Entry)(a1:Entry)(hc:zoY a0 a1=true):∃N,zB0 N a0 a1=some [aS .entry (zoX a0 a1)]:=by
 have hs:=zD.1 hc;obtain ⟨h1,h2⟩:=zzv a1 hs;refine ⟨0,?_⟩;unfold zB0 oN
 conv=>zeta
 refine must (zbb hs) (must (zgw (jB h2 (by decide:1048577<=2147483648))) ?_)
 unfold zoX zpG at *
 show _=some [AV.one (.s .entry (cond (igt (ln (ap (zco a0 a1.Tag a1.Page) [a1])) 6) (dp (ap (zco a0 a1.Tag a1.Page) [a1]) (wsub .i64 (ln (ap (zco a0 a1.Tag a1.Page) [a1])) 6)) (ap (zco a0 a1.Tag a1.Page) [a1])))]
 cases h3:igt (ln (ap (zco a0 a1.Tag a1.Page) [a1])) 6
 .rfl
 .rw [h3]at h1;simp only[cT]at h1;have h3:=qD h3;have e:wsub .i64 (ln (ap (zco a0 a1.Tag a1.Page) [a1])) 6=ln (ap (zco a0 a1.Tag a1.Page) [a1])-6:=ztp (by simp only[ln] at *;omega) (by simp only[ln] at *;omega)
  refine must rfl (must (qJ ?_) (must ?_ ?_))
  .show 0<=wsub .i64 (ln (ap (zco a0 a1.Tag a1.Page) [a1])) 6/\wsub .i64 (ln (ap (zco a0 a1.Tag a1.Page) [a1])) 6<=ln (ap (zco a0 a1.Tag a1.Page) [a1])/\ln (ap (zco a0 a1.Tag a1.Page) [a1])<=ln (ap (zco a0 a1.Tag a1.Page) [a1])
   rw[e];simp only[ln] at *;omega
  .exact zno h1
  .rw [zl5];rfl
theorem zIw:u3 290 zyc:=kF2 ztx zk zl zda (zq []) zPj
@[simp] abbrev zod (b:List Entry)(e:Entry):Bool:=pc (b.length<=1048576)
@[simp] abbrev zoc (b:List Entry)(e:Entry):List Entry:=zpG b e
def zxN:Run:=rF2 (dS .entry) (dT .entry) fun b c=>(zod b c,[aS .entry (zoc b c)])
def zBA (N:Nat)(a0:lE)(a1:Entry):OA:=
 let y0:=(ap (zqk a0 a1.Tag a1.Page) [a1]);let y1:=(imax 0 (wsub .i64 (ln y0) 6)); (oN (zrR a0 a1.Tag a1.Page) (oN (few (ln y0)) (oN (inr y1 (ln y0) (ln y0)) (some [(aS .entry (dp y0 y1))]))))
theorem zOS (a0:List Entry)(a1:Entry)(hc:zod a0 a1=true):∃N,zBA N a0 a1=some [aS .entry (zoc a0 a1)]:=by
 have hs:=zD.1 hc;obtain ⟨_,h2⟩:=zzv a1 hs;refine ⟨0,?_⟩;unfold zBA zoc zpG oN
 conv=>zeta
 simp only[zqk];generalize ap (zco a0 a1.Tag a1.Page) [a1]=l at h2 ⊢;refine must (zbb hs) (must (zgw (jB h2 (by decide:1048577<=2147483648))) ?_)
 have e:wsub .i64 (ln l) 6=ln l-6:=ztp (by simp only[ln] at *;omega) (by simp only[ln] at *;omega)
 rw[e];cases h3:igt (ln l) 6
 .have h3:=jP h3;have e2:imax 0 (ln l-6)=0:=by
   unfold imax;rw[if_neg (by omega)]
  rw[e2];exact must (qJ (by simp only[ln];omega)) (by simp[dp])
 .have h3:=qD h3;have e2:imax 0 (ln l-6)=ln l-6:=by
   unfold imax;rw[if_pos (by omega)]
  rw[e2];exact must (qJ (by simp only[ln] at *;omega)) rfl
theorem zH6:u3 242 zxN:=kF2 ztx zk zl zda (zq []) zOS
def zn2 (l:List Slot)(p:Int):Option Nat:=l.findIdx? fun s=>ieq s.Page p
def zhN (p:Int):List Mon->Nat->Int×Int
 | [],_=>(-1,-1)
 | m :: l,i=>match zn2 m.Outer p with|some k=>((i:Int),(k:Int))|none=>zhN p l (i+1)
def zbw (h:Host)(p:Int):Int×Int:=bif ilt p 0 then (-1,-1) else zhN p h.Mons 0
theorem zQZ {ρ:Type}(p:Slot->Bool)(r:Nat->Option ρ)(K:Unit->Option ρ):∀(l:List Slot) (i:Nat),goL (fun j x (_:Unit) k=>bif p x then r j else k ()) K l i ()=match l.findIdx? p with|some k=>r (i+k)|none=>K ()
 | [],_=>rfl
 | x :: l,i=>by
  simp only[goL];rw[List.findIdx?_cons];cases h:p x
  .simp only [cF,j9,if_false];rw[zQZ p r K l (i+1)];cases l.findIdx? p with
   | none=>rfl
   | some k=>simp only[Option.map_some];congr 1;omega
  .rfl
theorem zND {ρ:Type}(p:Int)(r:Int->Int->Option ρ):∀(l:List Mon) (i:Nat),goL (fun i (x:Mon) (_:Unit) κ=>goL (fun j (y:Slot) (_:Unit) κ₁=>bif ieq y.Page p then r (i:Int) (j:Int) else κ₁ ()) (fun _=>κ ()) x.Outer 0 ()) (fun _=>r (-1) (-1)) l i ()=r (zhN p l i).1 (zhN p l i).2
 | [],_=>rfl
 | m :: l,i=>by
  simp only[goL,zhN];rw[zQZ (fun s=>ieq s.Page p) (fun j=>r (i:Int) (j:Int))];unfold zn2;cases m.Outer.findIdx? (fun s=>ieq s.Page p) with
  | none=>exact zND p r l (i+1)
  | some k=>simp only[jV]
@[simp] abbrev zj8 (h:Host)(p:Int):Bool:=true
@[simp] abbrev zgl (h:Host)(p:Int):Int:=(zbw h p).1
@[simp] abbrev zhJ (h:Host)(p:Int):Int:=(zbw h p).2
def zsp:Run:=rF2 dH dI fun b c=>(zj8 b c,[aI (zgl b c),aI (zhJ b c)])
def zuK (N:Nat)(a0:Host)(a1:Int):OA:=
 (cond (ilt a1 0) (some [(aI (-1)),(aI (-1))]) (iter (σ:=(Int×(Int×(Int×(lN×Unit))))) N (fun r3 s4=>let y3:=s4.2.2.1; (cond (ilt y3 s4.2.1) (oN (inb y3 (ln s4.2.2.2.1)) (iter (σ:=(Int×(Int×(Int×(Int×(Int×(Int×(Int×(lN×Unit))))))))) N (fun r5 s6=>let y2:=s6.2.2.2.2.2.2.2.1;let y1:=(ix y2 s6.2.2.2.2.1 zf).Outer;let y0:=s6.2.2.2.2.2.2.1; (cond (ilt y0 s6.2.2.2.2.2.1) (oN (inb y0 (ln y1)) (cond (ieq (ix y1 y0 zN).Page s6.1) (some [(aI s6.2.1),(aI y0)]) (r5 (s6.1,(s6.2.1,(s6.2.2.1,(s6.2.2.2.1,(s6.2.2.2.2.1,(s6.2.2.2.2.2.1,((zG .i64 y0 1),(y2,()))))))))))) (r3 (s6.1,(s6.2.2.1,((zG .i64 s6.2.2.2.1 1),(y2,()))))))) (s4.1,(y3,(s4.2.1,(y3,(y3,((ln (ix s4.2.2.2.1 y3 zf).Outer),(0,(s4.2.2.2.1,())))))))))) (some [(aI (-1)),(aI (-1))]))) (a1,((ln a0.Mons),(0,(a0.Mons,()))))))
def zFQ:FuncId->Nat->Option Tmpl:=zq [(247,0,{ n:=36,tm:=[(1,ti),(13,.sl 0 []),(14,ti),(15,ti)],lo:=[],ro:=[(0,.mon,false)] }),(247,2,{ n:=36,tm:=[(1,ti),(6,ti),(13,.sl 0 []),(14,ti),(15,ti),(21,.sl 0 [0]),(22,ti),(23,ti)],lo:=[],ro:=[(0,.mon,false)] })]
theorem zFv (a0:Host)(a1:Int)(hb:zbD big [aH a0,aI a1])(hc:zj8 a0 a1=true):∃N,zuK N a0 a1=some [aI (zgl a0 a1),aI (zhJ a0 a1)]:=by
 have hm:CVB big (.s .mon a0.Mons):=(zcY hb).1 _ (by simp[AV.cvs,zba])
 have hl:=hm.len;refine zb8 fun N hNN=>?_;unfold zuK zgl zhJ zbw oN
 conv=>zeta
 cases h0:ilt a1 0
 .simp only [cF];refine (zbc a0.Mons (fun i (t:Unit)=>(a1,(ln a0.Mons),(i:Int),a0.Mons,())) _ (fun i (x:Mon) (_:Unit) κ=>goL (fun j (y:Slot) (_:Unit) κ₁=>bif ieq y.Page a1 then some [AV.one (.i .i64 (i:Int)),AV.one (.i .i64 (j:Int))] else κ₁ ()) (fun _=>κ ()) x.Outer 0 ()) (fun (t:Unit)=>(some [(.one (.i .i64 (-1))),(.one (.i .i64 (-1)))])) (fun i hi t rec=>?_) (fun t rec=>?_) _ () (hNN hl)).trans ?_
  .simp only [zbo hi,zY hi,zbd hi,zW hi hl,cT];have ho:a0.Mons[i].Outer.length<=big:=(hm.inv.2 _ (jF hi) (.s .slot _) (by simp[Ty.cells])).len
   refine (zbc a0.Mons[i].Outer (fun j (u:Unit)=>(a1,(i:Int),(ln a0.Mons),(i:Int),(i:Int),(ln a0.Mons[i].Outer),(j:Int),a0.Mons,())) _ (fun j (y:Slot) (_:Unit) κ₁=>bif ieq y.Page a1 then some [AV.one (.i .i64 (i:Int)),AV.one (.i .i64 (j:Int))] else κ₁ ()) (fun (u:Unit)=>(rec (a1,((ln a0.Mons),((((i+1:Nat)):Int),(a0.Mons,())))))) (fun j hj u rec1=>?_) (fun u rec1=>?_) _ () (hNN ho)).trans ?_
   .simp only [zbo hj,zY hj,zbd hj,zW hj ho,cT,zY hi,zbd hi,zW hi hl]
   .simp only [zbf,cF,zY hi,zbd hi,zW hi hl]
   rfl
  .simp only [zbf,cF]
  exact zND a1 (fun i j=>some [AV.one (.i .i64 i),AV.one (.i .i64 j)]) a0.Mons 0
 .rfl
theorem zBi:u3 247 zsp:=hF2 ztx zk zl zda zFQ zFv
theorem z2U {α τ ρ:Type}(r:Option ρ):∀(l:List α) (i:Nat) (t:τ),goL (fun _ _ _ _=>r) (fun _=>r) l i t=r
 | [],_,_=>rfl
 | _ :: _,_,_=>rfl
@[simp] abbrev zkc (h:Host)(p:Int):Bool:=true
@[simp] abbrev zgn (h:Host)(p:Int):Int:=(zbw h p).1
@[simp] abbrev zhQ (h:Host)(p:Int):Int:=(zbw h p).2
def zss:Run:=rF2 dH dI fun b c=>(zkc b c,[aI (zgn b c),aI (zhQ b c)])
def zuV (N:Nat)(a0:Host)(a1:Int):OA:=
 (iter (σ:=(Int×(Int×(lM×(lN×(lE×(lE×Unit))))))) N (fun r3 s4=>(cond (ilt s4.2.1 (ln s4.2.2.2.1)) (cond (ige s4.1 0) (iter (σ:=(Int×(Int×(Int×(lM×(lN×(lE×(lE×Unit)))))))) N (fun r5 s6=>let y1:=s6.2.2.2.2.1;let y0:=(ix y1 s6.2.1 zf).Outer; (oN (inb s6.2.1 (ln y1)) (cond (ilt s6.2.2.1 (ln y0)) (oN (inb s6.2.1 (ln y1)) (oN (inb s6.2.2.1 (ln y0)) (cond (ieq (ix y0 s6.2.2.1 zN).Page s6.1) (some [(aI s6.2.1),(aI s6.2.2.1)]) (r5 (s6.1,(s6.2.1,((zG .i64 s6.2.2.1 1),(s6.2.2.2.1,(y1,(s6.2.2.2.2.2.1,(s6.2.2.2.2.2.2.1,()))))))))))) (r3 (s6.1,((zG .i64 s6.2.1 1),(s6.2.2.2.1,(y1,(s6.2.2.2.2.2.1,(s6.2.2.2.2.2.2.1,())))))))))) (s4.1,(s4.2.1,(0,(s4.2.2.1,(s4.2.2.2.1,(s4.2.2.2.2.1,(s4.2.2.2.2.2.1,())))))))) (some [(aI (-1)),(aI (-1))])) (some [(aI (-1)),(aI (-1))]))) (a1,(0,(a0.Memory,(a0.Mons,(a0.Buffer,(a0.IoBuffer,())))))))
def zFR:FuncId->Nat->Option Tmpl:=zq [(301,0,{ n:=44,tm:=[(1,ti),(2,.lp 0 0),(6,ti)],lo:=[(0,[.sl 0 [],.sl 1 [],.sl 2 [],.sl 3 []])],ro:=[(0,(.sl .int),false),(1,.mon,false),(2,.entry,false),(3,.entry,false)] }),(301,2,{ n:=44,tm:=[(1,ti),(2,.lp 0 0),(6,ti),(7,ti)],lo:=[(0,[.sl 0 [],.sl 1 [],.sl 2 [],.sl 3 []])],ro:=[(0,(.sl .int),false),(1,.mon,false),(2,.entry,false),(3,.entry,false)] })]
theorem zFG (a0:Host)(a1:Int)(hb:zbD big [aH a0,aI a1])(hc:zkc a0 a1=true):∃N,zuV N a0 a1=some [aI (zgn a0 a1),aI (zhQ a0 a1)]:=by
 have hm:CVB big (.s .mon a0.Mons):=(zcY hb).1 _ (by simp[AV.cvs,zba])
 have hl:=hm.len;refine zb8 fun N hNN=>?_;unfold zuV zgn zhQ zbw oN
 conv=>zeta
 refine (zbc a0.Mons (fun i (t:Unit)=>(a1,(i:Int),a0.Memory,a0.Mons,a0.Buffer,a0.IoBuffer,())) _ (fun i (x:Mon) (_:Unit) κ=>bif ige a1 0 then goL (fun j (y:Slot) (_:Unit) κ₁=>bif ieq y.Page a1 then some [AV.one (.i .i64 (i:Int)),AV.one (.i .i64 (j:Int))] else κ₁ ()) (fun _=>κ ()) x.Outer 0 () else some [AV.one (.i .i64 (-1)),AV.one (.i .i64 (-1))]) (fun (t:Unit)=>(some [(.one (.i .i64 (-1))),(.one (.i .i64 (-1)))])) (fun i hi t rec=>?_) (fun t rec=>?_) _ () (hNN hl)).trans ?_
 .simp only [zbo hi,zY hi,zbd hi,zW hi hl,cT];cases h0:ige a1 0
  .rfl
  have ho:a0.Mons[i].Outer.length<=big:=(hm.inv.2 _ (jF hi) (.s .slot _) (by simp[Ty.cells])).len
  simp only[cT];refine (zbc a0.Mons[i].Outer (fun j (_:Unit)=>(a1,((i:Int),((j:Int),(a0.Memory,(a0.Mons,(a0.Buffer,(a0.IoBuffer,())))))))) _ (fun j (y:Slot) (_:Unit) κ₁=>bif ieq y.Page a1 then some [AV.one (.i .i64 (i:Int)),AV.one (.i .i64 (j:Int))] else κ₁ ()) (fun _=>rec (a1,(((i+1:Nat):Int),(a0.Memory,(a0.Mons,(a0.Buffer,(a0.IoBuffer,()))))))) (fun j hj u rec1=>?_) (fun u rec1=>?_) _ () (hNN ho)).trans ?_
  .simp only [zbo hj,zY hj,zbd hj,zW hj ho,cT,zY hi,zbd hi]
  .simp only [zbf,cF,cT,zY hi,zbd hi,zW hi hl]
  rfl
 .simp only [zbf,cF]
 cases h0:ige a1 0
 .have h1:ilt a1 0=true:=by
   have:=jP h0;exact qJ (by omega)
  rw[h1];exact z2U _ _ _ _
 .have h1:ilt a1 0=false:=by
   have:=qD h0;exact qH (by omega)
  rw[h1];exact zND a1 (fun i j=>some [AV.one (.i .i64 i),AV.one (.i .i64 j)]) a0.Mons 0
theorem zBs:u3 301 zss:=hF2 ztx zk zl zda zFR zFG
def z7w:zQ:=[(290,zyc),(242,zxN),(301,zss),(247,zsp)]++z7v
theorem zty:zI z7w:=zh zIw (zh zH6 (zh zBs (zh zBi ztx)))
def zb1 (h:Host):List Int:=zwB (fun i=>ilt (zbw h (i:Int)).1 0) h.Memory.length 0
@[simp] abbrev zlC (h:Host):Bool:=pc (h.Memory.length<=1048576)
@[simp] abbrev ze9 (h:Host):List Int:=zb1 h
def zDF:Run:=rF1 dH fun b=>(zlC b,[aS .int (ze9 b)])
def zJ5 (N:Nat)(a0:Host):OA:=
 (iter (σ:=(Int×((List Int)×(lM×(lN×(lE×(lE×Unit))))))) N (fun r2 s3=>let y0:=(⟨s3.2.2.1,s3.2.2.2.1,s3.2.2.2.2.1,s3.2.2.2.2.2.1⟩:Host); (cond (ilt s3.1 (ln s3.2.2.1)) (oN (zkc y0 s3.1) (cond (ilt (zgn y0 s3.1) 0) (oN (few (ln (ap s3.2.1 [s3.1]))) (r2 ((zG .i64 s3.1 1),((ap s3.2.1 [s3.1]),(s3.2.2.1,(s3.2.2.2.1,(s3.2.2.2.2.1,(s3.2.2.2.2.2.1,())))))))) (r2 ((zG .i64 s3.1 1),(s3.2.1,(s3.2.2.1,(s3.2.2.2.1,(s3.2.2.2.2.1,(s3.2.2.2.2.2.1,()))))))))) (some [(aS .int s3.2.1)]))) (0,([],(a0.Memory,(a0.Mons,(a0.Buffer,(a0.IoBuffer,())))))))
def zW0:FuncId->Nat->Option Tmpl:=zq [(300,0,{ n:=28,tm:=[(1,.lp 0 0),(3,.sl 0 []),(4,ti)],lo:=[(0,[.sl 1 [],.sl 2 [],.sl 3 [],.sl 4 []])],ro:=[(0,.int,true),(1,(.sl .int),false),(2,.mon,false),(3,.entry,false),(4,.entry,false)] })]
theorem zVm (a0:Host)(hc:zlC a0=true):∃N,zJ5 N a0=some [aS .int (ze9 a0)]:=by
 have hs:=zD.1 hc;have hl:=zcK hs;refine zb8 fun N hNN=>?_;unfold zJ5 oN
 conv=>zeta
 refine (zbc a0.Memory (fun i (t:(List Int))=>((i:Int),t,a0.Memory,a0.Mons,a0.Buffer,a0.IoBuffer,())) _ (fun i (_:List Int) (t:List Int) κ=>bif ilt (zbw a0 (i:Int)).1 0 then (cond (few (ln (ap t [(i:Int)]))) (κ (ap t [(i:Int)])) none) else κ t) (fun (t:(List Int))=>(some [(.one (.s .int t))])) (fun i hi t rec=>?_) (fun t rec=>?_) _ ([]) (hNN hl.1)).trans ?_
 .simp only [zbo hi,zY hi,zbd hi,zW hi hl.1,cT]
 .simp only [zbf,cF]
 rw[zxr (fun i (t:List Int) κ=>bif ilt (zbw a0 (i:Int)).1 0 then (cond (few (ln (ap t [(i:Int)]))) (κ (ap t [(i:Int)])) none) else κ t)]
 exact zyV (fun i=>ilt (zbw a0 (i:Int)).1 0) _ _ 0 [] (by simpa using hl.2)
theorem zOi:u3 300 zDF:=kF1 zty zk zl zda zW0 zVm
@[simp] abbrev zli (h:Host):Bool:=pc (h.Memory.length<=1048576)
@[simp] abbrev zfG (h:Host):List Int:=zb1 h
def zDd:Run:=rF1 dH fun b=>(zli b,[aS .int (zfG b)])
def zJE (N:Nat)(a0:Host):OA:=
 (iter (σ:=(Int×(Int×((List Int)×(lM×(lN×(lE×(lE×Unit)))))))) N (fun r2 s3=>let y1:=s3.2.2.2.2.2.2.1;let y0:=(⟨s3.2.2.2.1,s3.2.2.2.2.1,s3.2.2.2.2.2.1,y1⟩:Host); (cond (ilt s3.2.1 s3.1) (oN (zj8 y0 s3.2.1) (cond (ilt (zgl y0 s3.2.1) 0) (oN (few (ln (ap s3.2.2.1 [s3.2.1]))) (r2 (s3.1,((zG .i64 s3.2.1 1),((ap s3.2.2.1 [s3.2.1]),(s3.2.2.2.1,(s3.2.2.2.2.1,(s3.2.2.2.2.2.1,(y1,()))))))))) (r2 (s3.1,((zG .i64 s3.2.1 1),(s3.2.2.1,(s3.2.2.2.1,(s3.2.2.2.2.1,(s3.2.2.2.2.2.1,(y1,())))))))))) (some [(aS .int s3.2.2.1)]))) ((ln a0.Memory),(0,([],(a0.Memory,(a0.Mons,(a0.Buffer,(a0.IoBuffer,()))))))))
def zWS:FuncId->Nat->Option Tmpl:=zq [(180,0,{ n:=28,tm:=[(1,.lp 0 0),(3,.sl 0 []),(10,ti),(11,ti)],lo:=[(0,[.sl 1 [],.sl 2 [],.sl 3 [],.sl 4 []])],ro:=[(0,.int,true),(1,(.sl .int),false),(2,.mon,false),(3,.entry,false),(4,.entry,false)] })]
theorem zUT (a0:Host)(hc:zli a0=true):∃N,zJE N a0=some [aS .int (zfG a0)]:=by
 have hs:=zD.1 hc;have hl:=zcK hs;refine zb8 fun N hNN=>?_;unfold zJE oN
 conv=>zeta
 refine (zbc a0.Memory (fun i (t:(List Int))=>((ln a0.Memory),(i:Int),t,a0.Memory,a0.Mons,a0.Buffer,a0.IoBuffer,())) _ (fun i (_:List Int) (t:List Int) κ=>bif ilt (zbw a0 (i:Int)).1 0 then (cond (few (ln (ap t [(i:Int)]))) (κ (ap t [(i:Int)])) none) else κ t) (fun (t:(List Int))=>(some [(.one (.s .int t))])) (fun i hi t rec=>?_) (fun t rec=>?_) _ ([]) (hNN hl.1)).trans ?_
 .simp only [zbo hi,zY hi,zbd hi,zW hi hl.1,cT]
 .simp only [zbf,cF]
 rw[zxr (fun i (t:List Int) κ=>bif ilt (zbw a0 (i:Int)).1 0 then (cond (few (ln (ap t [(i:Int)]))) (κ (ap t [(i:Int)])) none) else κ t)]
 exact zyV (fun i=>ilt (zbw a0 (i:Int)).1 0) _ _ 0 [] (by simpa using hl.2)
theorem zNQ:u3 180 zDd:=kF1 zty zk zl zda zWS zUT
def zhm (m:List (List Int))(p:Int)(c:List Int):List (List Int):=bif hasB p (ln m) then (cond (zb6 c) (up m p c) m) else m
@[simp] abbrev zkM (m:List (List Int))(p:Int)(c:List Int):Bool:=pc (SmM m/\c.length<=1048576)
@[simp] abbrev zjj (m:List (List Int))(p:Int)(c:List Int):List (List Int):=zhm m p c
def zyh:Run:=rF3 (dS (.sl .int)) dI (dS .int) fun b c d=>(zkM b c d,[aS (.sl .int) (zjj b c d)])
def zB4 (N:Nat)(a0:lM)(a1:Int)(a2:List Int):OA:=
 (oN (zfV a0) (oN (zK a1 0 (wsub .i64 (ln a0) 1)) (cond (zM a1 0 (wsub .i64 (ln a0) 1)) (oN (zfU a2) (cond (zfd a2) (oN (few (ln (ap [] a2))) (oN (inb a1 (ln (zew a0))) (share (up (zew a0) a1 (ap [] a2)) (fun x4=>(some [(aS (.sl .int) x4)]))))) (some [(aS (.sl .int) (zew a0))]))) (some [(aS (.sl .int) (zew a0))]))))
theorem zPp (a0:List (List Int))(a1:Int)(a2:List Int)(hc:zkM a0 a1 a2=true):∃N,zB4 N a0 a1 a2=some [aS (.sl .int) (zjj a0 a1 a2)]:=by
 obtain ⟨hs,hs2⟩:=zD.1 hc;refine ⟨0,?_⟩;unfold zB4 zjj zhm oN;refine must (zbb ((zpn _).2 hs)) (must rfl ?_);rw[show zM a1 0 (wsub .i64 (ln a0) 1)=hasB a1 (ln a0) from zp8 hs.1 a1]
 cases h1:hasB a1 (ln a0)
 .rfl
 .simp only [cT,zfU,zfd];cases h2:zb6 a2
  .rfl
  .refine must rfl (must (zno hs2) (must (zx h1) ?_));rw[zl5];rfl
theorem zIB:u3 302 zyh:=kF3 zty zk zl zda (zq []) zPp
@[simp] abbrev zkw (m:List (List Int))(p:Int)(c:List Int):Bool:=pc (SmM m/\c.length<=1048576)
@[simp] abbrev zi9 (m:List (List Int))(p:Int)(c:List Int):List (List Int):=zhm m p c
def zxR:Run:=rF3 (dS (.sl .int)) dI (dS .int) fun b c d=>(zkw b c d,[aS (.sl .int) (zi9 b c d)])
def zBD (N:Nat)(a0:lM)(a1:Int)(a2:List Int):OA:=
 (oN (zfS a0) (oN (zcr a1 (ln a0)) (cond (zcX a1 (ln a0)) (oN (zhK a2) (cond (zgp a2) (oN (zdB a2) (oN (inb a1 (ln (zdp a0))) (share (up (zdp a0) a1 (zdu a2)) (fun x4=>(some [(aS (.sl .int) x4)]))))) (some [(aS (.sl .int) (zdp a0))]))) (some [(aS (.sl .int) (zdp a0))]))))
theorem zOW (a0:List (List Int))(a1:Int)(a2:List Int)(hc:zkw a0 a1 a2=true):∃N,zBD N a0 a1 a2=some [aS (.sl .int) (zi9 a0 a1 a2)]:=by
 obtain ⟨hs,hs2⟩:=zD.1 hc;refine ⟨0,?_⟩;unfold zBD zi9 zhm oN;refine must (zbb hs) (must rfl ?_);rw[show zcX a1 (ln a0)=hasB a1 (ln a0) from rfl]
 cases h1:hasB a1 (ln a0)
 .rfl
 .simp only [cT,zhK,zgp];cases h2:zb6 a2
  .rfl
  .refine must rfl (must (zbb (jB hs2 (by decide))) (must (zx h1) rfl))
theorem zIa:u3 182 zxR:=kF3 zty zk zl zda (zq []) zOW
def zqe:zQ:=[(300,zDF),(180,zDd),(302,zyh),(182,zxR)]++z7w
theorem zg8:zI zqe:=zh zOi (zh zNQ (zh zIB (zh zIa zty)))
abbrev mZ:Mon:=Ty.dflt .mon
abbrev sZ:Slot:=Ty.dflt .slot
def ShM (x:Mon):Prop:=x.Outer.length=8/\x.Out.length=8/\x.Dirty.length=8/\x.Tables.length=x.Guests.length
def Shape (h:Host):Prop:=SmH h/\∀x∈h.Mons,ShM x
theorem zic {h:Host}{m:Int}{x:Mon}(hs:Shape h)(h1:zfw x)(h2:ShM x):Shape { h with Mons:=up h.Mons m x }:=by
 refine ⟨⟨hs.1.1,ziW hs.1.2.1 h1,hs.1.2.2⟩,fun y hy=>?_⟩;rcases qY hy with hy|rfl
 .exact hs.2 y hy
 .exact h2
theorem zcc {h:Host}(hs:Shape h){m:Int}(hm:hasB m (ln h.Mons)=true):zfw (ix h.Mons m mZ)/\ShM (ix h.Mons m mZ):=⟨hs.1.2.1.2 _ (zbv hm _),hs.2 _ (zbv hm _)⟩
theorem zRt {h:Host}{mm:List (List Int)}(hs:Shape h)(h1:SmM mm):Shape { h with Memory:=mm }:=⟨⟨h1,hs.1.2⟩,hs.2⟩
theorem zsj {h:Host}{m p:Int}{s:Slot}(hm:hasB m (ln h.Mons)=true)(hs:Shape h):Shape (zb7 h m p s):=by
 refine ⟨zHr hm hs.1,?_⟩;obtain ⟨_,h2⟩:=zcc hs hm;have key:∀y∈up h.Mons m { zj6 (ix h.Mons m mZ) p (ix h.Mons m mZ).Tables.length with Outer:=up (ix h.Mons m mZ).Outer p s },ShM y:=by
  intro y hy;rcases qY hy with hy|rfl
  .exact hs.2 y hy
  .exact ⟨by simpa using h2.1,h2.2.1,h2.2.2.1,by simpa [zj6,zp4] using h2.2.2.2⟩
 unfold zb7;cases ine (ix (ix h.Mons m mZ).Outer p sZ).Page (-1)<;>exact key
theorem zgb (h:Host)(m p:Int)(s:Slot):(zb7 h m p s).Mons=up h.Mons m { zj6 (ix h.Mons m mZ) p (ix h.Mons m mZ).Tables.length with Outer:=up (ix h.Mons m mZ).Outer p s }/\(zb7 h m p s).Memory=h.Memory:=by
 unfold zb7;cases ine (ix (ix h.Mons m mZ).Outer p sZ).Page (-1)<;>exact ⟨rfl,rfl⟩
theorem zep {h:Host}{m k:Int}{x:Mon}(hm:hasB m (ln h.Mons)=true):hasB m (ln (up h.Mons k x))=true:=by simpa [ln] using hm
theorem zGN {h:Host}{m k p:Int}{s:Slot}(hm:hasB m (ln h.Mons)=true):hasB m (ln (zb7 h k p s).Mons)=true:=by
 rw[(zgb h k p s).1];exact zep hm
theorem zdk {α:Type}{l:List α}{p:Int}(h:l.length=8)(hp:hasB p 8=true):hasB p (ln l)=true:=by rw[ln,h];exact hp
def zzj (h:Host)(m p:Int)(s:Slot):Host :=
 bif ine s.Page (-1) then ⟨h.Memory,up h.Mons m (zj6 (ix h.Mons m mZ) p (ix h.Mons m mZ).Guests.length),flushed h.Buffer s.Page,flushed h.IoBuffer s.Page⟩
 else ⟨h.Memory,up h.Mons m (zj6 (ix h.Mons m mZ) p (ix h.Mons m mZ).Guests.length),h.Buffer,h.IoBuffer⟩
theorem zzP {h:Host}{k:Nat}{p:Int}{s:Slot}(hk:k<h.Mons.length)(ht:(ix h.Mons (k:Int) mZ).Tables.length=(ix h.Mons (k:Int) mZ).Guests.length) :
 zzj { h with Mons:=up h.Mons (k:Int) { ix h.Mons (k:Int) mZ with Outer:=up (ix h.Mons (k:Int) mZ).Outer p s } } (k:Int) p (ix (ix h.Mons (k:Int) mZ).Outer p sZ)=zb7 h (k:Int) p s:=by
 unfold zb7 zzj;simp only[zdO hk,zwi,zj6,ht]
def z0G {ρ:Type}(m p:Int)(i:Nat)(t:List Mon)(κ:List Mon->Option ρ):Option ρ :=
 (cond (inb (i:Int) (ln (ix t m mZ).Tables)) (cond (inb (i:Int) (ln (ix t m mZ).Guests)) (cond (pc (SmK (ix (ix t m mZ).Tables (i:Int) zd0)/\(ix (ix t m mZ).Guests (i:Int) zi).Live.length<=1048576)) (cond (inb (i:Int) (ln (ix t m mZ).Tables)) (κ (up t m ({ (ix t m mZ) with Tables:=(up (ix t m mZ).Tables (i:Int) (zhI (ix (ix t m mZ).Tables (i:Int) zd0) (ix (ix t m mZ).Guests (i:Int) zi).Live p)) }:Mon))) none) none) none) none)
theorem zY9 {ρ:Type}{mons:List Mon}{k:Nat}(hk:k<mons.length)(p:Int)(hm:zfw (ix mons (k:Int) mZ))(ht:(ix mons (k:Int) mZ).Tables.length=(ix mons (k:Int) mZ).Guests.length)(K:List Mon->Option ρ) :
 ∀(n i:Nat),i+n=(ix mons (k:Int) mZ).Guests.length->goN (fun i t κ=>z0G (k:Int) p i t κ) K n i (up mons (k:Int) (zj6 (ix mons (k:Int) mZ) p i))=K (up mons (k:Int) (zj6 (ix mons (k:Int) mZ) p (ix mons (k:Int) mZ).Guests.length))
 | 0,i,h=>by
  have:i=(ix mons (k:Int) mZ).Guests.length:=by omega
  subst this;rfl
 | n+1,i,h=>by
  have hi3:i<(ix mons (k:Int) mZ).Guests.length:=by omega
  have hi2:i<(zkZ (ix mons (k:Int) mZ).Guests p i (ix mons (k:Int) mZ).Tables).length:=by rw[zp4];omega
  have hf:pc (SmK (ix (zkZ (ix mons (k:Int) mZ).Guests p i (ix mons (k:Int) mZ).Tables) (i:Int) zd0)/\(ix (ix mons (k:Int) mZ).Guests (i:Int) zi).Live.length<=1048576)=true :=
   zbb ⟨by rw[zbd hi2];exact (zwg _ _ _ _ (by omega) hm.2.2.2.2.2).2 _ (jF hi2),by rw[zbd hi3];exact (hm.2.2.2.1.2 _ (jF hi3)).2.2.1⟩
  simp only[goN,z0G,zdO hk,zwi,zj6,zY hi2,zY hi3,hf,cT];exact zY9 hk p hm ht K n (i+1) (by omega)
@[simp] abbrev zej (h:Host)(m p:Int)(s:Slot):Bool:=pc (Shape h/\hasB m (ln h.Mons)=true)
@[simp] abbrev zek (h:Host)(m p:Int)(s:Slot):Host:=zzj h m p s
def zlV:List CV->List AV->Option (Bool×List CV×List AV)
 | [.s (.sl .int) b,.s .mon c,.s .entry d,.s .entry e],[.one (.i .i64 f),.one (.i .i64 g),.agg [.i .i64 h,.i .i64 j]]=>some ((zej (⟨b,c,d,e⟩:Host) f g (⟨h,j⟩:Slot)),zba (zek (⟨b,c,d,e⟩:Host) f g (⟨h,j⟩:Slot)),[])
 | _,_=>none
def zpg (N:Nat)(c:Host)(a0 a1:Int)(a2:Slot):OA:=
 (oN (inb a0 (ln c.Mons)) (iter (σ:=(Int×(Int×(Int×(Int×(Int×(Int×(lN×(lM×(lE×(lE×Unit))))))))))) N (fun r5 s6=>let y7:=s6.2.2.2.2.2.2.2.1;let y5:=s6.2.2.2.2.2.2.1;let y4:=s6.2.2.2.2.1;let y3:=s6.2.2.2.2.2.2.2.2.1;let y2:=s6.2.2.2.2.2.2.2.2.2.1;let y1:=s6.2.2.2.1;let y0:=(ix y5 s6.2.1 zf);let y8:=(ix y0.Tables y1 zd0);let y6:=(ix y0.Guests y1 zi).Live; (cond (ilt y1 s6.2.2.1) (oN (inb y1 (ln y0.Tables)) (oN (inb y1 (ln y0.Guests)) (oN (zpt y8 y6 s6.1) (oN (inb y1 (ln y0.Tables)) (share (up y5 s6.2.1 ({ y0 with Tables:=(up y0.Tables y1 (ztP y8 y6 s6.1)) }:Mon)) (fun x7=>(r5 (s6.1,(s6.2.1,(s6.2.2.1,((zG .i64 y1 1),(y4,(s6.2.2.2.2.2.1,(x7,(y7,(y3,(y2,()))))))))))))))))) (cond (ine y4 (-1)) (oN (zhu y3 y4) (oN (zhu y2 y4) (some [(aH (⟨y7,y5,(zjM y3 y4),(zjM y2 y4)⟩:Host))]))) (some [(aH (⟨y7,y5,y3,y2⟩:Host))])))) (a1,(a0,((ln (ix c.Mons a0 zf).Guests),(0,(a2.Page,(a2.Rights,(c.Mons,(c.Memory,(c.Buffer,(c.IoBuffer,()))))))))))))
def zJq:FuncId->Nat->Option Tmpl:=zq [(100,0,{ n:=71,tm:=[(0,.lp 0 0),(2,ti),(7,.lp 1 0),(8,.ep 0 [] 0),(20,ti),(21,ti)],lo:=[(0,[.sl 1 [],.sl 0 [],.sl 2 [],.sl 3 []]),(1,[ti,ti])],ro:=[(0,.mon,true),(1,(.sl .int),true),(2,.entry,true),(3,.entry,true)] })]
theorem zMt (N:Nat)(c:Host)(a0 a1:Int)(a2:Slot):zfN (cQ zqe zop zI9 zWO) zJq N 12 100 [true,true,true,true] (zba c) [aI a0,aI a1,aT .slot a2]=zpg N c a0 a1 a2:=by kernel_rfl
theorem zIQ (c:Host)(a0 a1:Int)(a2:Slot)(hb:zbD big (.agg (zba c) :: [aI a0,aI a1,aT .slot a2]))(hc:zej c a0 a1 a2=true):∃N,zpg N c a0 a1 a2=some (.agg (zba (zek c a0 a1 a2)) :: []):=by
 obtain ⟨hs,hm⟩:=zD.1 hc;obtain ⟨g1,g2⟩:=zcc hs hm;have hg:(ix c.Mons a0 mZ).Guests.length<=big:=(zcK g1.2.2.2.1.1).1;refine zb8 fun N hNN=>?_;unfold zpg oN
 conv=>zeta
 refine must (zx hm) ?_;refine (zbc ((ix c.Mons a0 zf).Guests) (fun i (t:lN)=>(a1,a0,(ln (ix c.Mons a0 zf).Guests),(i:Int),a2.Page,a2.Rights,t,c.Memory,c.Buffer,c.IoBuffer,())) _ (fun i (x:Guest) (t:List Mon) κ=>z0G a0 a1 i t κ) (fun (t:lN)=>(cond (ine a2.Page (-1)) (cond (zhu c.Buffer a2.Page) (cond (zhu c.IoBuffer a2.Page) (some [(.agg (zba (⟨c.Memory,t,(zjM c.Buffer a2.Page),(zjM c.IoBuffer a2.Page)⟩:Host)))]) none) none) (some [(.agg (zba (⟨c.Memory,t,c.Buffer,c.IoBuffer⟩:Host)))]))) (fun i hi t rec=>?_) (fun t rec=>?_) _ (c.Mons) (hNN hg)).trans ?_
 .simp only [zbo hi,zY hi,zbd hi,zW hi hg,cT];rfl
 .simp only [zbf,cF]
 obtain ⟨k,rfl,hk⟩:=zdJ (n:=c.Mons.length) hm;rw[zxr (fun i t κ=>z0G (k:Int) a1 i t κ)];have e0:c.Mons=up c.Mons (k:Int) (zj6 (ix c.Mons (k:Int) mZ) a1 0):=(zP5 hk _).symm;refine (congrArg _ e0).trans ((zY9 hk a1 g1 g2.2.2.2 _ _ 0 (jV _)).trans ?_)
 show (cond (ine a2.Page (-1)) _ _)=some [AV.agg (zba (zzj c (k:Int) a1 a2))]
 unfold zzj;cases ine a2.Page (-1)
 .rfl
 .exact must rfl (must (zbb hs.1.2.2.1) (must (zbb hs.1.2.2.2) rfl))
theorem zCB:zdx Tryz.prog 100 [true,true,true,true] zlV:=by
 refine zbT (zcT zg8 zk zl zda) (zd2 (by kernel_rfl)) ?_
 intro cs avs cs' rs hl hr h;have hb:=zce hr;unfold zlV at h;split at h
 .obtain ⟨hc,rfl,rfl⟩:=zct h;obtain ⟨N,hN⟩:=zIQ _ _ _ _ (by exact hb) hc
  exact ⟨rfl,_,N,12,(zMt N _ _ _ _ ).trans hN⟩
 .cases h
def z03:zdy:=[(100,([true,true,true,true],zlV))]++zI9
theorem zPI:zcv z03:=zdV zl (by
 intro x hx;simp only[qI,qU,or_false]at hx;rcases hx with rfl
 .exact zCB)
def zeG (h:Host)(m p:Int):Host:={ h with Mons:=up h.Mons m { ix h.Mons m mZ with Out:=up (ix h.Mons m mZ).Out p (zca h.Memory (ix (ix h.Mons m mZ).Outer p sZ).Page) } }
def zdl (h:Host)(m p:Int):Host:=zb7 (zeG h m p) m p noSlot
theorem zWE {m:List (List Int)}{p:Int}(h:SmM m):(zca m p).length<=1048576:=by
 unfold zca;cases hh:hasB p (ln m)
 .exact (by decide:zzW.length<=1048576)
 .exact h.2 _ (zbv hh _)
theorem zwW {h:Host}{m p:Int}(hs:Shape h)(hm:hasB m (ln h.Mons)=true):Shape (zeG h m p):=by
 obtain ⟨g1,g2⟩:=zcc hs hm;exact zic hs ⟨g1.1,zM4 g1.2.1 (zWE hs.1.1),g1.2.2⟩ ⟨g2.1,by simpa using g2.2.1,g2.2.2⟩
theorem zMW {h:Host}{m p:Int}(hs:Shape h)(hm:hasB m (ln h.Mons)=true):Shape (zdl h m p):=zsj (zep hm) (zwW hs hm)
@[simp] abbrev zsY (h:Host)(m p:Int):Bool:=pc (Shape h/\hasB m (ln h.Mons)=true/\hasB p 8=true)
@[simp] abbrev zzK (h:Host)(m p:Int):Host:=zdl h m p
def zul:List AV->Option (Bool×List AV)
 | [.agg [.s (.sl .int) b,.s .mon c,.s .entry d,.s .entry e],.one (.i .i64 f),.one (.i .i64 g)]=>some ((zsY (⟨b,c,d,e⟩:Host) f g),[aH (zzK (⟨b,c,d,e⟩:Host) f g)])
 | _=>none
def zyA (N:Nat)(a0:Host)(a1 a2:Int):OA:=
 let y0:=(ix a0.Mons a1 zf);let y1:=(ix y0.Outer a2 zN).Page; (oN (inb a1 (ln a0.Mons)) (oN (inb a1 (ln a0.Mons)) (oN (inb a2 (ln y0.Outer)) (oN (zzC a0.Memory y1) (oN (inb a2 (ln y0.Out)) (share (up a0.Mons a1 ({ y0 with Out:=(up y0.Out a2 (zzB a0.Memory y1)) }:Mon)) (fun x4=>let y2:=({ a0 with Mons:=x4 }:Host); (oN zcn (oN (ze1 y2 a1 a2 zbr) (some [(aH (zgP y2 a1 a2 zbr))]))))))))))
theorem zYh (N:Nat)(a0:Host)(a1 a2:Int):zEy (cQ zqe zop z03 zWO) (zq []) N 12 253 [true,true,true,true,false,false] 1 1 [[0],[1],[2],[4],[7]] .mon [aH a0,aI a1,aI a2]=zyA N a0 a1 a2:=by kernel_rfl
theorem zVK (a0:Host)(a1 a2:Int)(hb:zbD big [aH a0,aI a1,aI a2])(hc:zsY a0 a1 a2=true):∃N,zyA N a0 a1 a2=some [aH (zzK a0 a1 a2)]:=by
 obtain ⟨hs,hm,hp⟩:=zD.1 hc;obtain ⟨g1,g2⟩:=zcc hs hm;obtain ⟨k,rfl,hk⟩:=zdJ (n:=a0.Mons.length) hm;have hS:=zwW (p:=a2) hs hm;refine ⟨0,?_⟩;unfold zyA oN
 conv=>zeta
 refine must (zx hm) (must (zx hm) (must (zx (zdk g2.1 hp)) (must (zbb ((zpn _).2 hs.1.1)) (must (zx (zdk g2.2.1 hp)) (shr (must rfl (must (zbb ⟨(zJ _).2 hS.1,zep hm,?_,?_⟩) rfl)))))))
 .simp only [zdO hk];exact zdk g2.1 hp
 .simp only [zdO hk];exact u1 g2.2.2.2
theorem zOE:zd6 Tryz.prog 253 [true,true,true,true,false,false] (some (1,1,[[0],[1],[2],[4],[7]])) zul:=by
 refine zlh (kt:=.mon) (zcT zg8 zk zPI zda) (zd2 (by kernel_rfl)) (by kernel_rfl) ?_
 intro avs rs hl hr h;have hb:=zij hr;unfold zul at h;split at h
 .obtain ⟨hc,rfl⟩:=zdS h;obtain ⟨N,hN⟩:=zVK _ _ _ (by exact hb) hc
  exact ⟨⟨_,rfl⟩,rfl,_,N,12,(zYh N _ _ _ ).trans hN⟩
 .cases h
@[simp] abbrev zIJ (h:Host)(m p:Int):Bool:=pc (Shape h/\hasB m (ln h.Mons)=true/\hasB p 8=true)
@[simp] abbrev zIK (h:Host)(m p:Int):Host:=zdl h m p
def zwF:List CV->List AV->Option (Bool×List CV×List AV)
 | [.s (.sl .int) b,.s .mon c,.s .entry d,.s .entry e],[.one (.i .i64 f),.one (.i .i64 g)]=>some ((zIJ (⟨b,c,d,e⟩:Host) f g),zba (zIK (⟨b,c,d,e⟩:Host) f g),[])
 | _,_=>none
def zHB (N:Nat)(c:Host)(a0 a1:Int):OA:=
 let y0:=(ix c.Mons a0 zf);let y1:=(ix y0.Outer a1 zN); (oN (inb a0 (ln c.Mons)) (oN (inb a1 (ln y0.Outer)) (oN (zi4 c.Memory y1.Page) (oN (inb a1 (ln y0.Out)) (share (up c.Mons a0 ({ y0 with Out:=(up y0.Out a1 (zm2 c.Memory y1.Page)) }:Mon)) (fun x4=>let y2:=(ix x4 a0 zf); (oN zdc (oN (inb a1 (ln y2.Outer)) (share (up x4 a0 ({ y2 with Outer:=(up y2.Outer a1 zcw) }:Mon)) (fun x5=>let y3:=({ c with Mons:=x5 }:Host); (oN (zej y3 a0 a1 y1) (some [(aH (zek y3 a0 a1 y1))]))))))))))))
theorem z3y (N:Nat)(c:Host)(a0 a1:Int):zfN (cQ zqe zop z03 zWO) (zq []) N 12 98 [true,true,true,true] (zba c) [aI a0,aI a1]=zHB N c a0 a1:=by kernel_rfl
theorem z0P (c:Host)(a0 a1:Int)(hb:zbD big (.agg (zba c) :: [aI a0,aI a1]))(hc:zIJ c a0 a1=true):∃N,zHB N c a0 a1=some (.agg (zba (zIK c a0 a1)) :: []):=by
 obtain ⟨hs,hm,hp⟩:=zD.1 hc;obtain ⟨g1,g2⟩:=zcc hs hm;obtain ⟨k,rfl,hk⟩:=zdJ (n:=c.Mons.length) hm;have hS:=zwW (p:=a1) hs hm;have hm':hasB (k:Int) (ln (zeG c (k:Int) a1).Mons)=true:=zep hm;have hk':k<(zeG c (k:Int) a1).Mons.length:=by simpa [zeG] using hk
 have ex:ix (zeG c (k:Int) a1).Mons (k:Int) mZ={ ix c.Mons (k:Int) mZ with Out:=up (ix c.Mons (k:Int) mZ).Out a1 (zca c.Memory (ix (ix c.Mons (k:Int) mZ).Outer a1 sZ).Page) }:=zdO hk _ _;have hX:Shape { zeG c (k:Int) a1 with Mons:=up (zeG c (k:Int) a1).Mons (k:Int) { ix (zeG c (k:Int) a1).Mons (k:Int) mZ with Outer:=up (ix (zeG c (k:Int) a1).Mons (k:Int) mZ).Outer a1 noSlot } }:=by
  obtain ⟨q1,q2⟩:=zcc hS hm';exact zic hS ⟨by simpa using q1.1,q1.2⟩ ⟨by simpa using q2.1,q2.2⟩
 refine ⟨0,?_⟩;unfold zHB oN
 conv=>zeta
 refine must (zx hm) (must (zx (zdk g2.1 hp)) (must (zbb ((zpn _).2 hs.1.1)) (must (zx (zdk g2.2.1 hp)) (shr (must rfl (must ?_ (shr (must (zbb ⟨hX,zep hm'⟩) ?_))))))))
 .rw [zdO hk];exact zx (zdk g2.1 hp)
 .have:=zzP (p:=a1) (s:=noSlot) hk' (by rw[ex];exact g2.2.2.2)
  rw[ex] at this
  show some [AV.agg (zba (zzj { zeG c (k:Int) a1 with Mons:=up (zeG c (k:Int) a1).Mons (k:Int) { ix (zeG c (k:Int) a1).Mons (k:Int) mZ with Outer:=up (ix (zeG c (k:Int) a1).Mons (k:Int) mZ).Outer a1 noSlot } } (k:Int) a1 (ix (ix c.Mons (k:Int) mZ).Outer a1 sZ)))]=_
  rw[ex];exact congrArg (fun x=>some [AV.agg (zba x)]) this
theorem zUA:zdx Tryz.prog 98 [true,true,true,true] zwF:=by
 refine zbT (zcT zg8 zk zPI zda) (zd2 (by kernel_rfl)) ?_
 intro cs avs cs' rs hl hr h;have hb:=zce hr;unfold zwF at h;split at h
 .obtain ⟨hc,rfl,rfl⟩:=zct h;obtain ⟨N,hN⟩:=z0P _ _ _ (by exact hb) hc
  exact ⟨rfl,_,N,12,(z3y N _ _ _ ).trans hN⟩
 .cases h
def z04:zdy:=[(98,([true,true,true,true],zwF))]++z03
theorem zPJ:zcv z04:=zdV zPI (by
 intro x hx;simp only[qI,qU,or_false]at hx;rcases hx with rfl
 .exact zUA)
def z1H:ze4:=[(253,([true,true,true,true,false,false],(some (1,1,[[0],[1],[2],[4],[7]])),zul))]++zWO
theorem zPQ:zd7 z1H:=zp5 zda (by
 intro x hx;simp only[qI,qU,or_false]at hx;rcases hx with rfl
 .exact zOE)
end
end Go.Proofs.YtdnmkiajccpnoaaGreat.E
