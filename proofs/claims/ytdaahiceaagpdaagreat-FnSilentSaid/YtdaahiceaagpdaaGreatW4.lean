/- What is proved here: a part of the proof that the statement of this claim holds (several texts of wip/, laid together). -/
import Derived.Test.YtdaahiceaagpdaaGreatW3
namespace Go.Proofs.YtdaahiceaagpdaaGreat.E
open Go
set_option linter.unusedVariables false
set_option maxRecDepth 100000
set_option linter.unusedSimpArgs false
set_option linter.unusedSectionVars false
noncomputable section
theorem must {ρ:Type}{c:Bool}{a b r:Option ρ}(h:c=true)(k:a=r):(cond c a b)=r:=by rw[h];exact k
theorem mu {ρ:Type}{c:Bool}{a b r:Option ρ}(k:a=r)(h:c=true:=by first|assumption|(simp_all<;>omega)):(cond c a b)=r:=must h k
theorem zcB {ρ:Type}{c:Bool}{a b r:Option ρ}(h:c=false)(k:b=r):(cond c a b)=r:=by rw[h];exact k
theorem br {ρ:Type}{c:Bool}{a b r:Option ρ}(h1:c=true->a=r)(h2:c=false->b=r):(cond c a b)=r:=by
 cases c
 .exact h2 rfl
 .exact h1 rfl
theorem brN {ρ:Type}{c:Bool}{a b r:Option ρ}(h1:c=false->a=r)(h2:c=true->b=r):(cond (cond c false true) a b)=r:=by
 cases c
 .exact h1 rfl
 .exact h2 rfl
theorem shr {α ρ:Type}{x:α}{f:α->Option ρ}{r:Option ρ}(h:f x=r):share x f=r:=h
theorem zhX {ρ:Type}{c p:Bool}{a b:Option ρ}(hc:c=true):(cond c (cond (cond p false true) a b) none)=bif p then b else a:=by
 rw[hc];cases p<;>rfl
attribute [simp] zF
@[simp] theorem z8h {α:Type}(l:List α):(few (ln l)=true)↔l.length<=2147483648:=by
 unfold few ln;rw[decide_eq_true_iff];omega
@[simp] theorem zbaV {α:Type}(l m:List α):(ap l m).length=l.length+m.length:=by simp[ap]
attribute [simp] zma zgv
@[simp] theorem z6U (n:Nat)(k:IntKind)(x:Int):CVB n (.i k x)↔True:=⟨fun _=>trivial,fun _=>.i k x⟩
@[simp] theorem zba0 (n:Nat)(x:Bool):CVB n (.b x)↔True:=⟨fun _=>trivial,fun _=>.b x⟩
theorem zle {n:Nat}{t:Ty}(l:List t.den):CVB n (.s t l)↔l.length<=n/\∀x∈l,∀c∈t.cells x,CVB n c:=⟨fun h=>h.inv,fun h=>.s t l h.1 h.2⟩
@[simp] theorem zYj (n:Nat)(l:List Int):CVB n (.s .int l)↔l.length<=n:=by rw[zle];simp[Ty.cells]
@[simp] theorem z9x (n:Nat)(l:List Int):CVB n (.s .u8 l)↔l.length<=n:=by rw[zle];simp[Ty.cells]
@[simp] theorem z4p (n:Nat)(l:List Bool):CVB n (.s .bool l)↔l.length<=n:=by rw[zle];simp[Ty.cells]
@[simp] theorem z4r (n:Nat)(l:List Slot):CVB n (.s .slot l)↔l.length<=n:=by rw[zle];simp[Ty.cells]
@[simp] theorem z7Y (n:Nat)(l:List Ins):CVB n (.s .ins l)↔l.length<=n:=by rw[zle];simp[Ty.cells]
@[simp] theorem z1M (n:Nat)(l:List Entry):CVB n (.s .entry l)↔l.length<=n:=by rw[zle];simp[Ty.cells]
@[simp] theorem z7X (n:Nat)(l:List GAct):CVB n (.s .act l)↔l.length<=n:=by rw[zle];simp[Ty.cells]
@[simp] theorem z4s (n:Nat)(l:List Told):CVB n (.s .told l)↔l.length<=n:=by rw[zle];simp[Ty.cells]
def SmM (m:List (List Int)):Prop:=m.length<=1048576/\∀x∈m,x.length<=1048576
def SmG (g:Guest):Prop:=g.Prog.length<=1048576/\g.Written.length<=1048576/\g.Live.length<=1048576/\g.Seen.length<=1048576
def zmY (l:List Guest):Prop:=l.length<=1048576/\∀x∈l,SmG x
def SmB (b:Bare):Prop:=SmM b.Memory/\zmY b.Guests/\b.Outs.length<=1048576
def zZa (l:List Bare):Prop:=l.length<=1048576/\∀x∈l,SmB x
theorem z5x:sm=1048576:=rfl
@[simp] theorem zZz (l:List Int):CVB sm (.s .int l)↔l.length<=1048576:=zYj sm l
@[simp] theorem zbax (l:List Int):CVB sm (.s .u8 l)↔l.length<=1048576:=z9x sm l
@[simp] theorem zWM (l:List Bool):CVB sm (.s .bool l)↔l.length<=1048576:=z4p sm l
@[simp] theorem zWN (l:List Slot):CVB sm (.s .slot l)↔l.length<=1048576:=z4r sm l
@[simp] theorem zbab (l:List Ins):CVB sm (.s .ins l)↔l.length<=1048576:=z7Y sm l
@[simp] theorem zTC (l:List Entry):CVB sm (.s .entry l)↔l.length<=1048576:=z1M sm l
@[simp] theorem zbaa (l:List GAct):CVB sm (.s .act l)↔l.length<=1048576:=z7X sm l
@[simp] theorem z90 (l:List Told):CVB sm (.s .told l)↔l.length<=1048576:=z4s sm l
@[simp] theorem zpr (l:List (List Int)):CVB sm (.s (.sl .int) l)↔SmM l:=by rw[zle];simp[Ty.cells,SmM,z5x]
@[simp] theorem z7C (g:Guest):(∀c∈Ty.cells .guest g,CVB sm c)↔SmG g:=by simp[Ty.cells,SmG,z5x]
@[simp] theorem zuX (l:List Guest):CVB sm (.s .guest l)↔zmY l:=by rw[zle];simp only[z7C];rfl
@[simp] theorem z7B (b:Bare):(∀c∈Ty.cells .bare b,CVB sm c)↔SmB b:=by
 simp only[Ty.cells,qI,qX,or_false,vG,forall_eq,zpr,zuX,zYj,z6U,and_true];rfl
@[simp] theorem zbaA (l:List Bare):CVB sm (.s .bare l)↔zZa l:=by rw[zle];simp only[z7B];rfl
@[simp] theorem zbaY (a:List Ins)(b c:Int)(d e:List Slot)(f:Ctl)(g:Int)(h:GExit)(i:Bool)(j:List Int):SmG ⟨a,b,c,d,e,f,g,h,i,j⟩↔a.length<=1048576/\d.length<=1048576/\e.length<=1048576/\j.length<=1048576:=Iff.rfl
@[simp] theorem zbaX (m:List (List Int))(g:List Guest)(o:List Int)(p:Int):SmB ⟨m,g,o,p⟩↔SmM m/\zmY g/\o.length<=1048576:=Iff.rfl
theorem zMB {m:List (List Int)}{i:Int}{x:List Int}(h:SmM m)(hx:x.length<=1048576):SmM (up m i x):=by
 refine ⟨by simpa using h.1,fun y hy=>?_⟩
 rcases qZ hy with hy|rfl
 .exact h.2 y hy
 .exact hx
theorem zEC {m:List Guest}{i:Int}{x:Guest}(h:zmY m)(hx:SmG x):zmY (up m i x):=by
 refine ⟨by simpa using h.1,fun y hy=>?_⟩
 rcases qZ hy with hy|rfl
 .exact h.2 y hy
 .exact hx
theorem z8R {m:List Bare}{i:Int}{x:Bare}(h:zZa m)(hx:SmB x):zZa (up m i x):=by
 refine ⟨by simpa using h.1,fun y hy=>?_⟩
 rcases qZ hy with hy|rfl
 .exact h.2 y hy
 .exact hx
theorem zVW {l:List Guest}{i:Int}(h:zmY l)(hh:hasB i (ln l)=true)(d:Guest):SmG (ix l i d):=h.2 _ (zbu hh d)
theorem z9U {l:List (List Int)}{i:Int}(h:SmM l)(hh:hasB i (ln l)=true)(d:List Int):(ix l i d).length<=1048576:=h.2 _ (zbu hh d)
@[simp] theorem zbaq:SmG zi:=⟨by decide,by decide,by decide,by decide⟩
def win (x a b:Int):Bool:=ige x a&&ile x b
@[simp] theorem zSX (x a b:Int):zL x a b=win x a b:=rfl
@[simp] theorem zba1 (x a b:Int):zbR x a b=win x a b:=rfl
@[simp] theorem zT2 (i n:Int):inb i n=hasB i n:=rfl
attribute [simp] zcO
@[simp] theorem zqc {α:Type}{l:List α}(h:l.length<=1048576)(i:Int):win i 0 (wsub .i64 (ln l) 1)=hasB i (ln l):=zCx (zcJ h).1 i
theorem zI5 {α:Type}{l:List α}(h:l.length<=big)(i:Int):win i 0 (wsub .i64 (ln l) 1)=hasB i (ln l):=zCx h i
theorem zfh {x a b:Int}:(win x a b=true)↔a<=x/\x<=b:=by
 unfold win ige ile;simp only[qD,decide_eq_true_iff]
theorem z8o (a b:Int):ilt a b = !ige a b:=by
 unfold ilt ige
 by_cases h:a<b
 .rw [qJ h,qG (by omega)];rfl
 .rw [qG h,qJ (by omega)];rfl
attribute [simp] zbs zcv zgD zgA zhi zha zhj zdR zhk zi7 zpU zpw zcq zdb
attribute [simp] zeq zcS zfV zds
attribute [simp] zfS zdh zfq zdz
def zW (a:Int):Int:=bif ilt a 0 then -1 else zPG .i64 a 4
def zcG (a:Int):Int:=bif ilt a 0 then -1 else ziK a 4
@[simp] abbrev zgd (a:Int):Bool:=true
@[simp] abbrev zcD (a:Int):Int:=zW a
def zxR:Run:=rF1 dI fun b=>(zgd b,[aI (zcD b)])
def zBu (N:Nat)(a0:Int):OA:=
 (cond (ilt a0 0) (some [(aI (-1))]) (oN (ine 4 0) (some [(aI (zPG .i64 a0 4))])))
theorem zOD (a0:Int)(hc:zgd a0=true):∃N,zBu N a0=some [aI (zcD a0)]:=by
 refine ⟨0,?_⟩;unfold zBu oN;refine br (fun _=>?_) (fun _=>must rfl ?_)
 all_goals first|rfl|(simp only [*,zcD,zW,cT,cF]<;>rfl)|simp_all[Ty.cells,zcD,zW]
theorem zHV:vJ 271 zxR:=kF1 zc3 zk zl zo (zq []) zOD
@[simp] abbrev zf4 (a:Int):Bool:=true
@[simp] abbrev zdT (a:Int):Int:=zW a
def zxA:Run:=rF1 dI fun b=>(zf4 b,[aI (zdT b)])
def zBa (N:Nat)(a0:Int):OA:=
 (cond (ilt a0 0) (some [(aI (-1))]) (oN (ine 4 0) (some [(aI (zPG .i64 a0 4))])))
theorem zOj (a0:Int)(hc:zf4 a0=true):∃N,zBa N a0=some [aI (zdT a0)]:=by
 refine ⟨0,?_⟩;unfold zBa oN;refine br (fun _=>?_) (fun _=>must rfl ?_)
 all_goals first|rfl|(simp only [*,zdT,zW,cT,cF]<;>rfl)|simp_all[Ty.cells,zdT,zW]
theorem zHE:vJ 54 zxA:=kF1 zc3 zk zl zo (zq []) zOj
@[simp] abbrev ziA (a:Int):Bool:=true
@[simp] abbrev zee (a:Int):Int:=zcG a
def zxQ:Run:=rF1 dI fun b=>(ziA b,[aI (zee b)])
def zBt (N:Nat)(a0:Int):OA:=
 (cond (ilt a0 0) (some [(aI (-1))]) (oN (ine 4 0) (some [(aI (ziK a0 4))])))
theorem zOC (a0:Int)(hc:ziA a0=true):∃N,zBt N a0=some [aI (zee a0)]:=by
 refine ⟨0,?_⟩;unfold zBt oN;refine br (fun _=>?_) (fun _=>must rfl ?_)
 all_goals first|rfl|(simp only [*,zee,zcG,cT,cF]<;>rfl)|simp_all[Ty.cells,zee,zcG]
theorem zHU:vJ 272 zxQ:=kF1 zc3 zk zl zo (zq []) zOC
@[simp] abbrev zf3 (a:Int):Bool:=true
@[simp] abbrev zfN (a:Int):Int:=zcG a
def zxz:Run:=rF1 dI fun b=>(zf3 b,[aI (zfN b)])
def zA9 (N:Nat)(a0:Int):OA:=
 (cond (ilt a0 0) (some [(aI (-1))]) (oN (ine 4 0) (some [(aI (ziK a0 4))])))
theorem zOi (a0:Int)(hc:zf3 a0=true):∃N,zA9 N a0=some [aI (zfN a0)]:=by
 refine ⟨0,?_⟩;unfold zA9 oN;refine br (fun _=>?_) (fun _=>must rfl ?_)
 all_goals first|rfl|(simp only [*,zfN,zcG,cT,cF]<;>rfl)|simp_all[Ty.cells,zfN,zcG]
theorem zHD:vJ 59 zxz:=kF1 zc3 zk zl zo (zq []) zOi
def zbM (w:Bool):Int:=bif w then 2 else 1
@[simp] abbrev zsO (w:Bool):Bool:=true
@[simp] abbrev ze6 (w:Bool):Int:=zbM w
def zDn:Run:=rF1 dB fun b=>(zsO b,[aI (ze6 b)])
def zJH (N:Nat)(a0:Bool):OA:=
 (cond a0 (some [(aI 2)]) (some [(aI 1)]))
theorem zUJ (a0:Bool)(hc:zsO a0=true):∃N,zJH N a0=some [aI (ze6 a0)]:=by
 refine ⟨0,?_⟩;unfold zJH;refine br (fun _=>?_) (fun _=>?_)
 all_goals first|rfl|(simp only [*,ze6,zbM,cT,cF]<;>rfl)|simp_all[Ty.cells,ze6,zbM]
theorem zNR:vJ 299 zDn:=kF1 zc3 zk zl zo (zq []) zUJ
@[simp] abbrev zok (w:Bool):Bool:=true
@[simp] abbrev zeF (w:Bool):Int:=zbM w
def zCV:Run:=rF1 dB fun b=>(zok b,[aI (zeF b)])
def zJg (N:Nat)(a0:Bool):OA:=
 (cond a0 (some [(aI 2)]) (some [(aI 1)]))
theorem zUg (a0:Bool)(hc:zok a0=true):∃N,zJg N a0=some [aI (zeF a0)]:=by
 refine ⟨0,?_⟩;unfold zJg;refine br (fun _=>?_) (fun _=>?_)
 all_goals first|rfl|(simp only [*,zeF,zbM,cT,cF]<;>rfl)|simp_all[Ty.cells,zeF,zbM]
theorem zNp:vJ 55 zCV:=kF1 zc3 zk zl zo (zq []) zUg
def znx (p:Int)(w:Bool):GExit:=⟨1,p,w,0⟩
def zpn (n:Int):GExit:=⟨2,0,false,n⟩
def ztk (n:Int):GExit:=⟨3,0,false,n⟩
@[simp] abbrev zmS (p:Int)(w:Bool):Bool:=true
@[simp] abbrev zgK (p:Int)(w:Bool):GExit:=znx p w
def zvt:Run:=rF2 dI dB fun b c=>(zmS b c,[.agg (zlg (zgK b c))])
def zzV (N:Nat)(a0:Int)(a1:Bool):OA:=
 (some [(.agg [(.i .i64 1),(.i .i64 a0),(.b a1),(.i .i64 0)])])
theorem zLM (a0:Int)(a1:Bool)(hc:zmS a0 a1=true):∃N,zzV N a0 a1=some [.agg (zlg (zgK a0 a1))]:=by
 refine ⟨0,?_⟩;unfold zzV
 first|rfl|(simp only [*,zgK,cT,cF]<;>rfl)|simp_all[Ty.cells,zgK]
theorem zES:vJ 301 zvt:=kF2 zc3 zk zl zo (zq []) zLM
@[simp] abbrev zjr (p:Int)(w:Bool):Bool:=true
@[simp] abbrev zh2 (p:Int)(w:Bool):GExit:=znx p w
def zvg:Run:=rF2 dI dB fun b c=>(zjr b c,[.agg (zlg (zh2 b c))])
def zzI (N:Nat)(a0:Int)(a1:Bool):OA:=
 (some [(.agg [(.i .i64 1),(.i .i64 a0),(.b a1),(.i .i64 0)])])
theorem zLy (a0:Int)(a1:Bool)(hc:zjr a0 a1=true):∃N,zzI N a0 a1=some [.agg (zlg (zh2 a0 a1))]:=by
 refine ⟨0,?_⟩;unfold zzI
 first|rfl|(simp only [*,zh2,cT,cF]<;>rfl)|simp_all[Ty.cells,zh2]
theorem zEF:vJ 57 zvg:=kF2 zc3 zk zl zo (zq []) zLy
@[simp] abbrev zuj (n:Int):Bool:=true
@[simp] abbrev zlC (n:Int):GExit:=zpn n
def zxT:Run:=rF1 dI fun b=>(zuj b,[.agg (zlg (zlC b))])
def zBx (N:Nat)(a0:Int):OA:=
 (some [(.agg [(.i .i64 2),(.i .i64 0),(.b false),(.i .i64 a0)])])
theorem zOG (a0:Int)(hc:zuj a0=true):∃N,zBx N a0=some [.agg (zlg (zlC a0))]:=by
 refine ⟨0,?_⟩;unfold zBx
 first|rfl|(simp only [*,zlC,cT,cF]<;>rfl)|simp_all[Ty.cells,zlC]
theorem zHX:vJ 319 zxT:=kF1 zc3 zk zl zo (zq []) zOG
@[simp] abbrev zoc (n:Int):Bool:=true
@[simp] abbrev zi3 (n:Int):GExit:=zpn n
def zxC:Run:=rF1 dI fun b=>(zoc b,[.agg (zlg (zi3 b))])
def zBd (N:Nat)(a0:Int):OA:=
 (some [(.agg [(.i .i64 2),(.i .i64 0),(.b false),(.i .i64 a0)])])
theorem zOm (a0:Int)(hc:zoc a0=true):∃N,zBd N a0=some [.agg (zlg (zi3 a0))]:=by
 refine ⟨0,?_⟩;unfold zBd
 first|rfl|(simp only [*,zi3,cT,cF]<;>rfl)|simp_all[Ty.cells,zi3]
theorem zHG:vJ 132 zxC:=kF1 zc3 zk zl zo (zq []) zOm
@[simp] abbrev zwH (n:Int):Bool:=true
@[simp] abbrev znK (n:Int):GExit:=ztk n
def zAv:Run:=rF1 dI fun b=>(zwH b,[.agg (zlg (znK b))])
def zFY (N:Nat)(a0:Int):OA:=
 (some [(.agg [(.i .i64 3),(.i .i64 0),(.b false),(.i .i64 a0)])])
theorem zR2 (a0:Int)(hc:zwH a0=true):∃N,zFY N a0=some [.agg (zlg (znK a0))]:=by
 refine ⟨0,?_⟩;unfold zFY
 first|rfl|(simp only [*,znK,cT,cF]<;>rfl)|simp_all[Ty.cells,znK]
theorem zK2:vJ 320 zAv:=kF1 zc3 zk zl zo (zq []) zR2
@[simp] abbrev zwl (n:Int):Bool:=true
@[simp] abbrev znD (n:Int):GExit:=ztk n
def zAb:Run:=rF1 dI fun b=>(zwl b,[.agg (zlg (znD b))])
def zFB (N:Nat)(a0:Int):OA:=
 (some [(.agg [(.i .i64 3),(.i .i64 0),(.b false),(.i .i64 a0)])])
theorem zRE (a0:Int)(hc:zwl a0=true):∃N,zFB N a0=some [.agg (zlg (znD a0))]:=by
 refine ⟨0,?_⟩;unfold zFB
 first|rfl|(simp only [*,znD,cT,cF]<;>rfl)|simp_all[Ty.cells,znD]
theorem zKH:vJ 175 zAb:=kF1 zc3 zk zl zo (zq []) zRE
def zcL (t x:Int):Bool:=bif win t 0 3 then (cond (win x 1 2) (ine (wand .i64 t x) 0) false) else false
theorem z7q (x:Int):win x 1 2=(ieq x 1||ieq x 2):=by
 have h:(win x 1 2=true)↔(ieq x 1||ieq x 2)=true:=by
  rw[zfh];simp only[ieq,jU,qK];omega
 cases h1:win x 1 2<;>cases h2:(ieq x 1||ieq x 2)<;>simp_all
@[simp] abbrev zh8 (t x:Int):Bool:=true
@[simp] abbrev zhN (t x:Int):Bool:=zcL t x
def zAm:Run:=rF2 dI dI fun b c=>(zh8 b c,[aB (zhN b c)])
def zFQ (N:Nat)(a0 a1:Int):OA:=
 (oN (zJ a0 0 3) (cond (zL a0 0 3) (oN (zJ a1 1 2) (cond (zL a1 1 2) (some [(aB (ine (wand .i64 a0 a1) 0))]) oF)) oF))
theorem zRT (a0 a1:Int)(hc:zh8 a0 a1=true):∃N,zFQ N a0 a1=some [aB (zhN a0 a1)]:=by
 refine ⟨0,?_⟩;unfold zFQ oN;refine must rfl (br (fun _=>must rfl (br (fun _=>?_) (fun _=>?_))) (fun _=>?_))
 all_goals first|rfl|(simp only [*,zhN,zcL,cT,cF]<;>rfl)|simp_all[Ty.cells,zhN,zcL]
theorem zKS:vJ 318 zAm:=kF2 zc3 zk zl zo (zq []) zRT
@[simp] abbrev zjL (t x:Int):Bool:=true
@[simp] abbrev ziN (t x:Int):Bool:=zcL t x
def zAa:Run:=rF2 dI dI fun b c=>(zjL b c,[aB (ziN b c)])
def zFA (N:Nat)(a0 a1:Int):OA:=
 let y0:=(aB (ine (wand .i64 a0 a1) 0)); (oN (zbD a0 0 3) (cond (zbR a0 0 3) (cond (ieq a1 1) (some [y0]) (cond (ieq a1 2) (some [y0]) oF)) oF))
theorem zRD (a0 a1:Int)(hc:zjL a0 a1=true):∃N,zFA N a0 a1=some [aB (ziN a0 a1)]:=by
 refine ⟨0,?_⟩;unfold zFA oN
 conv=>zeta
 refine must rfl (br (fun _=>br (fun _=>?_) (fun _=>br (fun _=>?_) (fun _=>?_))) (fun _=>?_))
 all_goals first|rfl|(simp only [*,ziN,zcL,z7q,cT,cF]<;>rfl)|simp_all[Ty.cells,ziN,zcL,z7q]
theorem zKG:vJ 133 zAa:=kF2 zc3 zk zl zo (zq []) zRD
def zcR (p:Int):Bool:=win p 0 255
@[simp] abbrev ze9 (p:Int):Bool:=true
@[simp] abbrev ze8 (p:Int):Bool:=zcR p
def zDs:Run:=rF1 dI fun b=>(ze9 b,[aB (ze8 b)])
def zJM (N:Nat)(a0:Int):OA:=
 (oN (zJ a0 0 255) (some [(aB (zL a0 0 255))]))
theorem zUP (a0:Int)(hc:ze9 a0=true):∃N,zJM N a0=some [aB (ze8 a0)]:=by
 refine ⟨0,?_⟩;unfold zJM oN;refine must rfl ?_
 first|rfl|(simp only [*,ze8,zcR,cT,cF]<;>rfl)|simp_all[Ty.cells,ze8,zcR]
theorem zNW:vJ 215 zDs:=kF1 zc3 zk zl zo (zq []) zUP
@[simp] abbrev zi6 (p:Int):Bool:=true
@[simp] abbrev zi5 (p:Int):Bool:=zcR p
def zC0:Run:=rF1 dI fun b=>(zi6 b,[aB (zi5 b)])
def zJk (N:Nat)(a0:Int):OA:=
 (oN (zbD a0 0 255) (some [(aB (zbR a0 0 255))]))
theorem zUl (a0:Int)(hc:zi6 a0=true):∃N,zJk N a0=some [aB (zi5 a0)]:=by
 refine ⟨0,?_⟩;unfold zJk oN;refine must rfl ?_
 first|rfl|(simp only [*,zi5,zcR,cT,cF]<;>rfl)|simp_all[Ty.cells,zi5,zcR]
theorem zNu:vJ 167 zC0:=kF1 zc3 zk zl zo (zq []) zUl
def zbW (l:List Ins)(p:Int):Ins:=bif hasB p (ln l) then ix l p zq3 else ⟨7,0⟩
@[simp] abbrev zfo (l:List Ins)(p:Int):Bool:=true
@[simp] abbrev zfJ (l:List Ins)(p:Int):Ins:=zbW l p
def zGL:Run:=rF2 (dS .ins) dI fun b c=>(zfo b c,[aT .ins (zfJ b c)])
def zPV (N:Nat)(a0:lI)(a1:Int):OA:=
 (oN (zJ a1 0 (wsub .i64 (ln a0) 1)) (cond (nB (zL a1 0 (wsub .i64 (ln a0) 1))) (some [(.agg [(.i .i64 7),(.i .i64 0)])]) (oN (inb a1 (ln a0)) (some [(.agg [(.i .i64 (ix a0 a1 zq3).Op),(.i .i64 (ix a0 a1 zq3).X)])]))))
theorem zXf (a0:List Ins)(a1:Int)(hb:zbN big [aS .ins a0,aI a1])(hc:zfo a0 a1=true):∃N,zPV N a0 a1=some [aT .ins (zfJ a0 a1)]:=by
 have hl:=((zc0 hb).1 _ (qF.2 rfl)).len;have hw:=zI5 hl
 refine ⟨0,?_⟩;unfold zPV oN nB;refine must rfl (brN (fun _=>?_) (fun _=>mu ?_))
 all_goals first|rfl|(simp only [*,zfJ,zbW,cT,cF]<;>rfl)|simp_all[Ty.cells,zfJ,zbW]
theorem zRm:vJ 294 zGL:=hF2 zc3 zk zl zo (zq []) zXf
@[simp] abbrev zf5 (l:List Ins)(p:Int):Bool:=true
@[simp] abbrev zgi (l:List Ins)(p:Int):Ins:=zbW l p
def zGA:Run:=rF2 (dS .ins) dI fun b c=>(zf5 b c,[aT .ins (zgi b c)])
def zPJ (N:Nat)(a0:lI)(a1:Int):OA:=
 (oN (zcm a1 (ln a0)) (cond (nB (zcO a1 (ln a0))) (some [(.agg [(.i .i64 7),(.i .i64 0)])]) (oN (inb a1 (ln a0)) (some [(.agg [(.i .i64 (ix a0 a1 zq3).Op),(.i .i64 (ix a0 a1 zq3).X)])]))))
theorem zW2 (a0:List Ins)(a1:Int)(hc:zf5 a0 a1=true):∃N,zPJ N a0 a1=some [aT .ins (zgi a0 a1)]:=by
 refine ⟨0,?_⟩;unfold zPJ oN nB;refine must rfl (brN (fun _=>?_) (fun _=>mu ?_))
 all_goals first|rfl|(simp only [*,zgi,zbW,cT,cF]<;>rfl)|simp_all[Ty.cells,zgi,zbW]
theorem zRa:vJ 118 zGA:=kF2 zc3 zk zl zo (zq []) zW2
def zdL (w:Int):Int:=bif ieq w 5 then 1 else 2
@[simp] abbrev zos (w:Int):Bool:=true
@[simp] abbrev zhd (w:Int):Int:=zdL w
def zDb:Run:=rF1 dI fun b=>(zos b,[aI (zhd b)])
def zJv (N:Nat)(a0:Int):OA:=
 (cond (ieq a0 5) (some [(aI 1)]) (some [(aI 2)]))
theorem zUw (a0:Int)(hc:zos a0=true):∃N,zJv N a0=some [aI (zhd a0)]:=by
 refine ⟨0,?_⟩;unfold zJv;refine br (fun _=>?_) (fun _=>?_)
 all_goals first|rfl|(simp only [*,zhd,zdL,cT,cF]<;>rfl)|simp_all[Ty.cells,zhd,zdL]
theorem zNF:vJ 123 zDb:=kF1 zc3 zk zl zo (zq []) zUw
def zdC (s:Slot)(n:Int):Bool:=bif zcI s noSlot then true else (cond (igt n 0) (cond (win s.Page 0 (wsub .i64 n 1)) (win s.Rights 1 3) false) false)
@[simp] abbrev zsS (s:Slot)(n:Int):Bool:=true
@[simp] abbrev zp0 (s:Slot)(n:Int):Bool:=zdC s n
def zDw:Run:=rF2 (dT .slot) dI fun b c=>(zsS b c,[aB (zp0 b c)])
def zJQ (N:Nat)(a0:Slot)(a1:Int):OA:=
 (oN zcq (cond (cond (ieq a0.Page zbs.Page) (ieq a0.Rights zbs.Rights) false) oT (oN (zJ a0.Page 0 (wsub .i64 a1 1)) (cond (zL a0.Page 0 (wsub .i64 a1 1)) (cond (igt a1 0) (oN (zJ a0.Rights 1 3) (some [(aB (zL a0.Rights 1 3))])) oF) oF))))
theorem zUT (a0:Slot)(a1:Int)(hc:zsS a0 a1=true):∃N,zJQ N a0 a1=some [aB (zp0 a0 a1)]:=by
 refine ⟨0,?_⟩;unfold zJQ oN;refine must rfl (br (fun _=>?_) (fun _=>must rfl (br (fun _=>br (fun _=>must rfl ?_) (fun _=>?_)) (fun _=>?_))))
 all_goals first|rfl|(simp only [*,zp0,zdC,zcI,cT,cF]<;>rfl)|simp_all[Ty.cells,zp0,zdC,zcI]
theorem zN0:vJ 276 zDw:=kF2 zc3 zk zl zo (zq []) zUT
@[simp] abbrev zyW (s:Slot)(n:Int):Bool:=true
@[simp] abbrev ztQ (s:Slot)(n:Int):Bool:=zdC s n
def zC5:Run:=rF2 (dT .slot) dI fun b c=>(zyW b c,[aB (ztQ b c)])
def zJp (N:Nat)(a0:Slot)(a1:Int):OA:=
 (oN zdb (cond (cond (ieq a0.Page zcv.Page) (ieq a0.Rights zcv.Rights) false) oT (cond (igt a1 0) (oN (zbD a0.Page 0 (wsub .i64 a1 1)) (cond (zbR a0.Page 0 (wsub .i64 a1 1)) (oN (zbD a0.Rights 1 3) (some [(aB (zbR a0.Rights 1 3))])) oF)) oF)))
theorem zUq (a0:Slot)(a1:Int)(hc:zyW a0 a1=true):∃N,zJp N a0 a1=some [aB (ztQ a0 a1)]:=by
 refine ⟨0,?_⟩;unfold zJp oN;refine must rfl (br (fun _=>?_) (fun _=>br (fun _=>must rfl (br (fun _=>must rfl ?_) (fun _=>?_))) (fun _=>?_)))
 all_goals first|rfl|(simp only [*,ztQ,zdC,zcI,cT,cF]<;>rfl)|simp_all[Ty.cells,ztQ,zdC,zcI]
theorem zNz:vJ 223 zC5:=kF2 zc3 zk zl zo (zq []) zUq
@[simp] abbrev zgp (l:List Slot):Bool:=pc (l.length<=2147483648)
@[simp] abbrev zeR (l:List Slot):List Slot:=l
def zvn:Run:=rF1 (dS .slot) fun b=>(zgp b,[aS .slot (zeR b)])
def zzP (N:Nat)(a0:lS):OA:=
 (oN (few (ln (ap [] a0))) (some [(aS .slot (ap [] a0))]))
theorem zLF (a0:List Slot)(hc:zgp a0=true):∃N,zzP N a0=some [aS .slot (zeR a0)]:=by
 have hs:=zF.1 hc;refine ⟨0,?_⟩;unfold zzP oN;refine mu ?_
 first|rfl|(simp only [*,zeR,cT,cF]<;>rfl)|simp_all[Ty.cells,zeR]
theorem zEM:vJ 171 zvn:=kF1 zc3 zk zl zo (zq []) zLF
@[simp] abbrev ztR (l:List Ins):Bool:=pc (l.length<=2147483648)
@[simp] abbrev zor (l:List Ins):List Ins:=l
def zxM:Run:=rF1 (dS .ins) fun b=>(ztR b,[aS .ins (zor b)])
def zBo (N:Nat)(a0:lI):OA:=
 (oN (few (ln (ap [] a0))) (some [(aS .ins (ap [] a0))]))
theorem zOy (a0:List Ins)(hc:ztR a0=true):∃N,zBo N a0=some [aS .ins (zor a0)]:=by
 have hs:=zF.1 hc;refine ⟨0,?_⟩;unfold zBo oN;refine mu ?_
 first|rfl|(simp only [*,zor,cT,cF]<;>rfl)|simp_all[Ty.cells,zor]
theorem zHQ:vJ 174 zxM:=kF1 zc3 zk zl zo (zq []) zOy
def zfv (m:List (List Int))(p c:Int):Bool:=bif hasB p (ln m) then hasB c (ln (ix m p [])) else false
def cellAt (m:List (List Int))(p c:Int):Int:=bif zfv m p c then ix (ix m p []) c 0 else 0
def zbv (m:List (List Int))(p c v:Int):List (List Int):=bif zfv m p c then (cond (win v 0 99) (up m p (up (ix m p []) c v)) m) else m
theorem zza (m:List (List Int))(p c:Int):(zfv m p c=true)↔hasB p (ln m)=true/\hasB c (ln (ix m p []))=true:=by
 unfold zfv;cases hasB p (ln m)<;>simp
theorem z9w {n:Nat}{m:List (List Int)}(h:CVB n (.s (.sl .int) m)):m.length<=n/\∀p:Int,hasB p (ln m)=true->(ix m p []).length<=n :=
 ⟨h.len,fun p hp=>(h.inv.2 _ (zbu hp []) _ (qF.2 rfl)).len⟩
@[simp] abbrev zsV (m:List (List Int))(p c:Int):Bool:=true
@[simp] abbrev zp3 (m:List (List Int))(p c:Int):Bool:=zfv m p c
def zDB:Run:=rF3 (dS (.sl .int)) dI dI fun b c d=>(zsV b c d,[aB (zp3 b c d)])
def zJV (N:Nat)(a0:lM)(a1 a2:Int):OA:=
 let y0:=(wsub .i64 (ln (ix a0 a1 [])) 1); (oN (zJ a1 0 (wsub .i64 (ln a0) 1)) (cond (zL a1 0 (wsub .i64 (ln a0) 1)) (oN (inb a1 (ln a0)) (oN (zJ a2 0 y0) (some [(aB (zL a2 0 y0))]))) oF))
theorem zUY (a0:List (List Int))(a1 a2:Int)(hb:zbN big [aS (.sl .int) a0,aI a1,aI a2])(hc:zsV a0 a1 a2=true):∃N,zJV N a0 a1 a2=some [aB (zp3 a0 a1 a2)]:=by
 have hl:=z9w ((zc0 hb).1 _ (qF.2 rfl));have hw:=zI5 hl.1;have hw2:∀p i:Int,hasB p (ln a0)=true->win i 0 (wsub .i64 (ln (ix a0 p [])) 1)=hasB i (ln (ix a0 p [])):=fun p i h=>zI5 (hl.2 p h) i
 refine ⟨0,?_⟩;unfold zJV oN
 conv=>zeta
 refine must rfl (br (fun _=>mu (must rfl ?_)) (fun _=>?_))
 all_goals first|rfl|(simp only [*,zp3,zfv,cT,cF]<;>rfl)|simp_all[Ty.cells,zp3,zfv]
theorem zN4:vJ 311 zDB:=hF3 zc3 zk zl zo (zq []) zUY
@[simp] abbrev zod (m:List (List Int))(p c:Int):Bool:=true
@[simp] abbrev zm5 (m:List (List Int))(p c:Int):Int:=cellAt m p c
def zCN:Run:=rF3 (dS (.sl .int)) dI dI fun b c d=>(zod b c d,[aI (zm5 b c d)])
def zI8 (N:Nat)(a0:lM)(a1 a2:Int):OA:=
 let y0:=(ix a0 a1 []); (oN (zcm a1 (ln a0)) (cond (nB (zcO a1 (ln a0))) (some [(aI 0)]) (oN (inb a1 (ln a0)) (oN (zcm a2 (ln y0)) (cond (nB (zcO a2 (ln y0))) (some [(aI 0)]) (oN (inb a1 (ln a0)) (oN (inb a2 (ln y0)) (some [(aI (ix y0 a2 0))]))))))))
theorem zT8 (a0:List (List Int))(a1 a2:Int)(hc:zod a0 a1 a2=true):∃N,zI8 N a0 a1 a2=some [aI (zm5 a0 a1 a2)]:=by
 refine ⟨0,?_⟩;unfold zI8 oN nB
 conv=>zeta
 refine must rfl (brN (fun _=>?_) (fun _=>mu (must rfl (brN (fun _=>?_) (fun _=>mu (mu ?_))))))
 all_goals first|rfl|(simp only [*,zm5,cellAt,zfv,cT,cF]<;>rfl)|simp_all[Ty.cells,zm5,cellAt,zfv]
theorem zNh:vJ 62 zCN:=kF3 zc3 zk zl zo (zq []) zT8
def zZp:zO:=[(292,zDe),(116,zCM),(271,zxR),(54,zxA),(272,zxQ),(59,zxz),(299,zDn),(55,zCV),(301,zvt),(57,zvg),(319,zxT),(132,zxC),(320,zAv),(175,zAb),(318,zAm),(133,zAa),(215,zDs),(167,zC0),(294,zGL),(118,zGA),(123,zDb),(276,zDw),(223,zC5),(171,zvn),(174,zxM),(311,zDB),(62,zCN)]++z9r
theorem zfz:zG zZp:=zh zNI (zh zNg (zh zHV (zh zHE (zh zHU (zh zHD (zh zNR (zh zNp (zh zES (zh zEF (zh zHX (zh zHG (zh zK2 (zh zKH (zh zKS (zh zKG (zh zNW (zh zNu (zh zRm (zh zRa (zh zNF (zh zN0 (zh zNz (zh zEM (zh zHQ (zh zN4 (zh zNh zc3))))))))))))))))))))))))))
@[simp] abbrev zsM (m:List (List Int))(p c:Int):Bool:=true
@[simp] abbrev znj (m:List (List Int))(p c:Int):Int:=cellAt m p c
def zDf:Run:=rF3 (dS (.sl .int)) dI dI fun b c d=>(zsM b c d,[aI (znj b c d)])
def zJz (N:Nat)(a0:lM)(a1 a2:Int):OA:=
 (oN (zsV a0 a1 a2) (cond (nB (zp3 a0 a1 a2)) (some [(aI 0)]) (oN (inb a1 (ln a0)) (oN (inb a2 (ln (ix a0 a1 []))) (some [(aI (ix (ix a0 a1 []) a2 0))])))))
theorem zUA (a0:List (List Int))(a1 a2:Int)(hc:zsM a0 a1 a2=true):∃N,zJz N a0 a1 a2=some [aI (znj a0 a1 a2)]:=by
 have hm:=(zza a0 a1 a2).1;refine ⟨0,?_⟩;unfold zJz oN nB;refine must rfl (brN (fun _=>?_) (fun _=>mu (mu ?_)))
 all_goals first|rfl|(simp only [*,znj,cellAt,cT,cF]<;>rfl)|simp_all[Ty.cells,znj,cellAt]
theorem zNJ:vJ 273 zDf:=kF3 zfz zk zl zo (zq []) zUA
def zcF (t:List Slot)(n p:Int):Bool:=bif t.all (fun s=>zdC s p) then ieq (ln t) n else false
@[simp] abbrev zmD (t:List Slot)(n p:Int):Bool:=true
@[simp] abbrev zhP (t:List Slot)(n p:Int):Bool:=zcF t n p
def zAB:Run:=rF3 (dS .slot) dI dI fun b c d=>(zmD b c d,[aB (zhP b c d)])
def zF4 (N:Nat)(a0:lS)(a1 a2:Int):OA:=
 (iter (σ:=(Int×(Int×(Int×(lS×Unit))))) N (fun r4 s5=>let y0:=s5.2.2.2.1;let y1:=(ix y0 s5.2.2.1 zN); (cond (ilt s5.2.2.1 (ln y0)) (oN (inb s5.2.2.1 (ln y0)) (oN (zsS y1 s5.2.1) (cond (nB (zp0 y1 s5.2.1)) oF (r4 (s5.1,(s5.2.1,((zI .i64 s5.2.2.1 1),(y0,())))))))) (some [(aB (ieq (ln y0) s5.1))]))) (a1,(a2,(0,(a0,())))))
def zSA:FuncId->Nat->Option Tmpl:=zq [(213,0,{ n:=25,tm:=[(0,.sl 0 []),(1,ti),(2,ti),(7,ti)],lo:=[],ro:=[(0,.slot,false)] })]
theorem zR8 (a0:List Slot)(a1 a2:Int)(hb:zbN big [aS .slot a0,aI a1,aI a2])(hc:zmD a0 a1 a2=true):∃N,zF4 N a0 a1 a2=some [aB (zhP a0 a1 a2)]:=by
 have hl:(_:List _).length<=big:=((zc0 hb).1 _ (qF.2 rfl)).len;refine zce fun N hNN=>?_;unfold zF4 oN nB
 conv=>zeta
 refine (zbd a0 (fun i (t:Unit)=>(a1,a2,(i:Int),a0,())) _ (fun _ x (_:Unit) κ=>bif (fun s=>zdC s a2) x then κ () else oF) (fun (t:Unit)=>(some [(.one (.b (ieq (ln a0) a1)))])) (fun i hi t rec=>?_) (fun t rec=>?_) _ () (hNN hl)).trans ?_
 .simp only [zbx hi,zbb hi,zbg hi,zZ hi hl,cT];exact zhX rfl
 .simp only [zbp,cF]
 rw[zgh (fun s=>zdC s a2)];refine br (fun h0=>?_) (fun h0=>?_)
 .first|rfl|(simp only [h0,zhP,zcF,cT,cF]<;>rfl)|(simp_all [Ty.cells,zhP,zcF];done)
 .first|rfl|(simp only [h0,zhP,zcF,cT,cF]<;>rfl)|(simp_all [Ty.cells,zhP,zcF];done)
theorem zK8:vJ 213 zAB:=hF3 zfz zk zl zo zSA zR8
@[simp] abbrev zmh (t:List Slot)(n p:Int):Bool:=true
@[simp] abbrev zhJ (t:List Slot)(n p:Int):Bool:=zcF t n p
def zAf:Run:=rF3 (dS .slot) dI dI fun b c d=>(zmh b c d,[aB (zhJ b c d)])
def zFF (N:Nat)(a0:lS)(a1 a2:Int):OA:=
 (iter (σ:=(Int×(Int×(Int×(Int×(lS×Unit)))))) N (fun r4 s5=>let y1:=s5.2.2.2.2.1;let y0:=(ix y1 s5.2.2.2.1 zN); (cond (ilt s5.2.2.2.1 s5.2.2.1) (oN (inb s5.2.2.2.1 (ln y1)) (oN (zyW y0 s5.2.1) (cond (nB (ztQ y0 s5.2.1)) oF (r4 (s5.1,(s5.2.1,(s5.2.2.1,((zI .i64 s5.2.2.2.1 1),(y1,()))))))))) (some [(aB (ieq (ln y1) s5.1))]))) (a1,(a2,((ln a0),(0,(a0,()))))))
def zSw:FuncId->Nat->Option Tmpl:=zq [(166,0,{ n:=24,tm:=[(0,.sl 0 []),(1,ti),(2,ti),(9,.sl 0 []),(10,ti),(11,ti)],lo:=[],ro:=[(0,.slot,false)] })]
theorem zRI (a0:List Slot)(a1 a2:Int)(hb:zbN big [aS .slot a0,aI a1,aI a2])(hc:zmh a0 a1 a2=true):∃N,zFF N a0 a1 a2=some [aB (zhJ a0 a1 a2)]:=by
 have hl:(_:List _).length<=big:=((zc0 hb).1 _ (qF.2 rfl)).len;refine zce fun N hNN=>?_;unfold zFF oN nB
 conv=>zeta
 refine (zbd a0 (fun i (t:Unit)=>(a1,a2,(ln a0),(i:Int),a0,())) _ (fun _ x (_:Unit) κ=>bif (fun s=>zdC s a2) x then κ () else oF) (fun (t:Unit)=>(some [(.one (.b (ieq (ln a0) a1)))])) (fun i hi t rec=>?_) (fun t rec=>?_) _ () (hNN hl)).trans ?_
 .simp only [zbx hi,zbb hi,zbg hi,zZ hi hl,cT];exact zhX rfl
 .simp only [zbp,cF]
 rw[zgh (fun s=>zdC s a2)];refine br (fun h0=>?_) (fun h0=>?_)
 .first|rfl|(simp only [h0,zhJ,zcF,cT,cF]<;>rfl)|(simp_all [Ty.cells,zhJ,zcF];done)
 .first|rfl|(simp only [h0,zhJ,zcF,cT,cF]<;>rfl)|(simp_all [Ty.cells,zhJ,zcF];done)
theorem zKL:vJ 166 zAf:=hF3 zfz zk zl zo zSw zRI
def zca (c:List Int):Bool:=bif c.all (fun x=>win x 0 99) then ieq (ln c) 4 else false
@[simp] abbrev zfR (c:List Int):Bool:=true
@[simp] abbrev ze7 (c:List Int):Bool:=zca c
def zDr:Run:=rF1 (dS .int) fun b=>(zfR b,[aB (ze7 b)])
def zJL (N:Nat)(a0:List Int):OA:=
 (iter (σ:=(Int×((List Int)×Unit))) N (fun r2 s3=>(cond (ilt s3.1 (ln s3.2.1)) (oN (inb s3.1 (ln s3.2.1)) (oN (zJ (ix s3.2.1 s3.1 0) 0 99) (cond (nB (zL (ix s3.2.1 s3.1 0) 0 99)) oF (r2 ((zI .i64 s3.1 1),(s3.2.1,())))))) (some [(aB (ieq (ln s3.2.1) 4))]))) (0,(a0,())))
def zWo:FuncId->Nat->Option Tmpl:=zq [(212,0,{ n:=19,tm:=[(0,.sl 0 []),(3,ti)],lo:=[],ro:=[(0,.int,false)] })]
theorem zUO (a0:List Int)(hb:zbN big [aS .int a0])(hc:zfR a0=true):∃N,zJL N a0=some [aB (ze7 a0)]:=by
 have hl:(_:List _).length<=big:=((zc0 hb).1 _ (qF.2 rfl)).len;refine zce fun N hNN=>?_;unfold zJL oN nB;refine (zbd a0 (fun i (t:Unit)=>((i:Int),a0,())) _ (fun _ x (_:Unit) κ=>bif (fun x=>win x 0 99) x then κ () else oF) (fun (t:Unit)=>(some [(.one (.b (ieq (ln a0) 4)))])) (fun i hi t rec=>?_) (fun t rec=>?_) _ () (hNN hl)).trans ?_
 .simp only [zbx hi,zbb hi,zbg hi,zZ hi hl,cT];exact zhX rfl
 .simp only [zbp,cF]
 rw[zgh (fun x=>win x 0 99)];refine br (fun h0=>?_) (fun h0=>?_)
 .first|rfl|(simp only [h0,ze7,zca,cT,cF]<;>rfl)|(simp_all [Ty.cells,ze7,zca];done)
 .first|rfl|(simp only [h0,ze7,zca,cT,cF]<;>rfl)|(simp_all [Ty.cells,ze7,zca];done)
theorem zNV:vJ 212 zDr:=hF1 zfz zk zl zo zWo zUO
@[simp] abbrev zhI (c:List Int):Bool:=true
@[simp] abbrev zgn (c:List Int):Bool:=zca c
def zCZ:Run:=rF1 (dS .int) fun b=>(zhI b,[aB (zgn b)])
def zJj (N:Nat)(a0:List Int):OA:=
 (iter (σ:=(Int×(Int×((List Int)×Unit)))) N (fun r2 s3=>(cond (ilt s3.2.1 s3.1) (oN (inb s3.2.1 (ln s3.2.2.1)) (oN (zbD (ix s3.2.2.1 s3.2.1 0) 0 99) (cond (nB (zbR (ix s3.2.2.1 s3.2.1 0) 0 99)) oF (r2 (s3.1,((zI .i64 s3.2.1 1),(s3.2.2.1,()))))))) (some [(aB (ieq (ln s3.2.2.1) 4))]))) ((ln a0),(0,(a0,()))))
def zWe:FuncId->Nat->Option Tmpl:=zq [(165,0,{ n:=18,tm:=[(0,.sl 0 []),(5,.sl 0 []),(6,ti),(7,ti)],lo:=[],ro:=[(0,.int,false)] })]
theorem zUk (a0:List Int)(hb:zbN big [aS .int a0])(hc:zhI a0=true):∃N,zJj N a0=some [aB (zgn a0)]:=by
 have hl:(_:List _).length<=big:=((zc0 hb).1 _ (qF.2 rfl)).len;refine zce fun N hNN=>?_;unfold zJj oN nB;refine (zbd a0 (fun i (t:Unit)=>((ln a0),(i:Int),a0,())) _ (fun _ x (_:Unit) κ=>bif (fun x=>win x 0 99) x then κ () else oF) (fun (t:Unit)=>(some [(.one (.b (ieq (ln a0) 4)))])) (fun i hi t rec=>?_) (fun t rec=>?_) _ () (hNN hl)).trans ?_
 .simp only [zbx hi,zbb hi,zbg hi,zZ hi hl,cT];exact zhX rfl
 .simp only [zbp,cF]
 rw[zgh (fun x=>win x 0 99)];refine br (fun h0=>?_) (fun h0=>?_)
 .first|rfl|(simp only [h0,zgn,zca,cT,cF]<;>rfl)|(simp_all [Ty.cells,zgn,zca];done)
 .first|rfl|(simp only [h0,zgn,zca,cT,cF]<;>rfl)|(simp_all [Ty.cells,zgn,zca];done)
theorem zNt:vJ 165 zCZ:=hF1 zfz zk zl zo zWe zUk
def zdM (i:Ins):Bool:=bif (ieq i.Op 1||ieq i.Op 2||ieq i.Op 5||ieq i.Op 6) then win i.X 0 99 else (cond (ieq i.Op 3||ieq i.Op 4) (win i.X 0 15) (cond (ieq i.Op 7) (ieq i.X 0) (cond (ieq i.Op 8) (win i.X 0 11) false)))
@[simp] abbrev zDN (i:Ins):Bool:=true
@[simp] abbrev zyd (i:Ins):Bool:=zdM i
def zGM:Run:=rF1 (dT .ins) fun b=>(zDN b,[aB (zyd b)])
def zPW (N:Nat)(a0:Ins):OA:=
 let y10:=(ieq a0.Op 4);let y9:=(zJ a0.X 0 99);let y8:=(aB (zL a0.X 0 99));let y7:=(ieq a0.Op 8);let y6:=(ieq a0.Op 7);let y5:=(ieq a0.Op 3);let y4:=(zJ a0.X 0 11);let y3:=(zJ a0.X 0 15);let y2:=(aB (ieq a0.X 0));let y1:=(aB (zL a0.X 0 11));let y0:=(aB (zL a0.X 0 15)); (cond (ieq a0.Op 1) (cond (ieq a0.Op 1) (oN y9 (some [y8])) (cond y5 (cond y5 (oN y3 (some [y0])) (cond y6 (some [y2]) (cond y7 (oN y4 (some [y1])) oF))) (cond y10 (oN y3 (some [y0])) (cond y6 (some [y2]) (cond y7 (oN y4 (some [y1])) oF))))) (cond (ieq a0.Op 2) (cond (ieq a0.Op 2) (oN y9 (some [y8])) (cond y5 (cond y5 (oN y3 (some [y0])) (cond y6 (some [y2]) (cond y7 (oN y4 (some [y1])) oF))) (cond y10 (oN y3 (some [y0])) (cond y6 (some [y2]) (cond y7 (oN y4 (some [y1])) oF))))) (cond (ieq a0.Op 5) (cond (ieq a0.Op 5) (oN y9 (some [y8])) (cond y5 (cond y5 (oN y3 (some [y0])) (cond y6 (some [y2]) (cond y7 (oN y4 (some [y1])) oF))) (cond y10 (oN y3 (some [y0])) (cond y6 (some [y2]) (cond y7 (oN y4 (some [y1])) oF))))) (cond (ieq a0.Op 6) (oN y9 (some [y8])) (cond y5 (cond y5 (oN y3 (some [y0])) (cond y6 (some [y2]) (cond y7 (oN y4 (some [y1])) oF))) (cond y10 (oN y3 (some [y0])) (cond y6 (some [y2]) (cond y7 (oN y4 (some [y1])) oF))))))))
theorem zXg (a0:Ins)(hc:zDN a0=true):∃N,zPW N a0=some [aB (zyd a0)]:=by
 refine ⟨0,?_⟩;unfold zPW oN
 conv=>zeta
 refine br (fun _=>br (fun _=>must rfl ?_) (fun _=>br (fun _=>br (fun _=>must rfl ?_) (fun _=>br (fun _=>?_) (fun _=>br (fun _=>must rfl ?_) (fun _=>?_)))) (fun _=>br (fun _=>must rfl ?_) (fun _=>br (fun _=>?_) (fun _=>br (fun _=>must rfl ?_) (fun _=>?_)))))) (fun _=>br (fun _=>br (fun _=>must rfl ?_) (fun _=>br (fun _=>br (fun _=>must rfl ?_) (fun _=>br (fun _=>?_) (fun _=>br (fun _=>must rfl ?_) (fun _=>?_)))) (fun _=>br (fun _=>must rfl ?_) (fun _=>br (fun _=>?_) (fun _=>br (fun _=>must rfl ?_) (fun _=>?_)))))) (fun _=>br (fun _=>br (fun _=>must rfl ?_) (fun _=>br (fun _=>br (fun _=>must rfl ?_) (fun _=>br (fun _=>?_) (fun _=>br (fun _=>must rfl ?_) (fun _=>?_)))) (fun _=>br (fun _=>must rfl ?_) (fun _=>br (fun _=>?_) (fun _=>br (fun _=>must rfl ?_) (fun _=>?_)))))) (fun _=>br (fun _=>must rfl ?_) (fun _=>br (fun _=>br (fun _=>must rfl ?_) (fun _=>br (fun _=>?_) (fun _=>br (fun _=>must rfl ?_) (fun _=>?_)))) (fun _=>br (fun _=>must rfl ?_) (fun _=>br (fun _=>?_) (fun _=>br (fun _=>must rfl ?_) (fun _=>?_))))))))
 all_goals first|rfl|(simp only [*,zyd,zdM,cT,cF]<;>rfl)|simp_all[Ty.cells,zyd,zdM]
theorem zRn:vJ 314 zGM:=kF1 zfz zk zl zo (zq []) zXg
@[simp] abbrev zCo (i:Ins):Bool:=true
@[simp] abbrev zxo (i:Ins):Bool:=zdM i
def zGB:Run:=rF1 (dT .ins) fun b=>(zCo b,[aB (zxo b)])
def zPK (N:Nat)(a0:Ins):OA:=
 let y10:=(ieq a0.Op 4);let y9:=(zbD a0.X 0 99);let y8:=(aB (zbR a0.X 0 99));let y7:=(ieq a0.Op 8);let y6:=(ieq a0.Op 7);let y5:=(ieq a0.Op 3);let y4:=(zbD a0.X 0 11);let y3:=(zbD a0.X 0 15);let y2:=(aB (ieq a0.X 0));let y1:=(aB (zbR a0.X 0 11));let y0:=(aB (zbR a0.X 0 15)); (cond (ieq a0.Op 1) (cond (ieq a0.Op 1) (oN y9 (some [y8])) (cond y5 (cond y5 (oN y3 (some [y0])) (cond y6 (some [y2]) (cond y7 (oN y4 (some [y1])) oF))) (cond y10 (oN y3 (some [y0])) (cond y6 (some [y2]) (cond y7 (oN y4 (some [y1])) oF))))) (cond (ieq a0.Op 2) (cond (ieq a0.Op 2) (oN y9 (some [y8])) (cond y5 (cond y5 (oN y3 (some [y0])) (cond y6 (some [y2]) (cond y7 (oN y4 (some [y1])) oF))) (cond y10 (oN y3 (some [y0])) (cond y6 (some [y2]) (cond y7 (oN y4 (some [y1])) oF))))) (cond (ieq a0.Op 5) (cond (ieq a0.Op 5) (oN y9 (some [y8])) (cond y5 (cond y5 (oN y3 (some [y0])) (cond y6 (some [y2]) (cond y7 (oN y4 (some [y1])) oF))) (cond y10 (oN y3 (some [y0])) (cond y6 (some [y2]) (cond y7 (oN y4 (some [y1])) oF))))) (cond (ieq a0.Op 6) (oN y9 (some [y8])) (cond y5 (cond y5 (oN y3 (some [y0])) (cond y6 (some [y2]) (cond y7 (oN y4 (some [y1])) oF))) (cond y10 (oN y3 (some [y0])) (cond y6 (some [y2]) (cond y7 (oN y4 (some [y1])) oF))))))))
theorem zW3 (a0:Ins)(hc:zCo a0=true):∃N,zPK N a0=some [aB (zxo a0)]:=by
 refine ⟨0,?_⟩;unfold zPK oN
 conv=>zeta
 refine br (fun _=>br (fun _=>must rfl ?_) (fun _=>br (fun _=>br (fun _=>must rfl ?_) (fun _=>br (fun _=>?_) (fun _=>br (fun _=>must rfl ?_) (fun _=>?_)))) (fun _=>br (fun _=>must rfl ?_) (fun _=>br (fun _=>?_) (fun _=>br (fun _=>must rfl ?_) (fun _=>?_)))))) (fun _=>br (fun _=>br (fun _=>must rfl ?_) (fun _=>br (fun _=>br (fun _=>must rfl ?_) (fun _=>br (fun _=>?_) (fun _=>br (fun _=>must rfl ?_) (fun _=>?_)))) (fun _=>br (fun _=>must rfl ?_) (fun _=>br (fun _=>?_) (fun _=>br (fun _=>must rfl ?_) (fun _=>?_)))))) (fun _=>br (fun _=>br (fun _=>must rfl ?_) (fun _=>br (fun _=>br (fun _=>must rfl ?_) (fun _=>br (fun _=>?_) (fun _=>br (fun _=>must rfl ?_) (fun _=>?_)))) (fun _=>br (fun _=>must rfl ?_) (fun _=>br (fun _=>?_) (fun _=>br (fun _=>must rfl ?_) (fun _=>?_)))))) (fun _=>br (fun _=>must rfl ?_) (fun _=>br (fun _=>br (fun _=>must rfl ?_) (fun _=>br (fun _=>?_) (fun _=>br (fun _=>must rfl ?_) (fun _=>?_)))) (fun _=>br (fun _=>must rfl ?_) (fun _=>br (fun _=>?_) (fun _=>br (fun _=>must rfl ?_) (fun _=>?_))))))))
 all_goals first|rfl|(simp only [*,zxo,zdM,cT,cF]<;>rfl)|simp_all[Ty.cells,zxo,zdM]
theorem zRb:vJ 281 zGB:=kF1 zfz zk zl zo (zq []) zW3
def zg9 (e:GExit):Bool:=bif (ieq e.Kind 0||ieq e.Kind 4) then (ieq e.Page 0&&(!e.Write&&ieq e.N 0)) else (cond (ieq e.Kind 1) (win e.Page 0 3&&ieq e.N 0) (cond (ieq e.Kind 2||ieq e.Kind 3) (win e.N 0 99&&(ieq e.Page 0 && !e.Write)) false))
@[simp] theorem zbaW (x:Bool):ziX x false = !x:=by cases x<;>rfl
attribute [simp] zhe
@[simp] abbrev zzk (e:GExit):Bool:=true
@[simp] abbrev zuk (e:GExit):Bool:=zg9 e
def zDh:Run:=rF1 dE fun b=>(zzk b,[aB (zuk b)])
def zJB (N:Nat)(a0:GExit):OA:=
 let y5:=(zL a0.N 0 99);let y4:=(zJ a0.N 0 99);let y3:=(ieq a0.Kind 2);let y2:=(ieq a0.Page 0);let y1:=(aB (nB a0.Write));let y0:=(aB (cond (ieq a0.Kind a0.Kind) (cond y2 (cond (ziX a0.Write false) (ieq a0.N 0) false) false) false)); (cond (ieq a0.Kind 0) (cond (ieq a0.Kind 0) (some [y0]) (cond (ieq a0.Kind 1) (oN (zJ a0.Page 0 3) (cond (zL a0.Page 0 3) (some [(aB (ieq a0.N 0))]) oF)) (cond y3 (cond y3 (oN y4 (cond y5 (cond y2 (some [y1]) oF) oF)) oF) (cond (ieq a0.Kind 3) (oN y4 (cond y5 (cond y2 (some [y1]) oF) oF)) oF)))) (cond (ieq a0.Kind 4) (some [y0]) (cond (ieq a0.Kind 1) (oN (zJ a0.Page 0 3) (cond (zL a0.Page 0 3) (some [(aB (ieq a0.N 0))]) oF)) (cond y3 (cond y3 (oN y4 (cond y5 (cond y2 (some [y1]) oF) oF)) oF) (cond (ieq a0.Kind 3) (oN y4 (cond y5 (cond y2 (some [y1]) oF) oF)) oF)))))
theorem zUC (a0:GExit)(hc:zzk a0=true):∃N,zJB N a0=some [aB (zuk a0)]:=by
 refine ⟨0,?_⟩;unfold zJB oN nB
 conv=>zeta
 refine br (fun _=>br (fun _=>?_) (fun _=>br (fun _=>must rfl (br (fun _=>?_) (fun _=>?_))) (fun _=>br (fun _=>br (fun _=>must rfl (br (fun _=>br (fun _=>?_) (fun _=>?_)) (fun _=>?_))) (fun _=>?_)) (fun _=>br (fun _=>must rfl (br (fun _=>br (fun _=>?_) (fun _=>?_)) (fun _=>?_))) (fun _=>?_))))) (fun _=>br (fun _=>?_) (fun _=>br (fun _=>must rfl (br (fun _=>?_) (fun _=>?_))) (fun _=>br (fun _=>br (fun _=>must rfl (br (fun _=>br (fun _=>?_) (fun _=>?_)) (fun _=>?_))) (fun _=>?_)) (fun _=>br (fun _=>must rfl (br (fun _=>br (fun _=>?_) (fun _=>?_)) (fun _=>?_))) (fun _=>?_)))))
 all_goals first|rfl|(simp only [*,zuk,zg9,cT,cF]<;>rfl)|simp_all[Ty.cells,zuk,zg9]
theorem zNL:vJ 279 zDh:=kF1 zfz zk zl zo (zq []) zUC
@[simp] abbrev zyN (e:GExit):Bool:=true
@[simp] abbrev ztN (e:GExit):Bool:=zg9 e
def zCP:Run:=rF1 dE fun b=>(zyN b,[aB (ztN b)])
def zJa (N:Nat)(a0:GExit):OA:=
 let y5:=(zbR a0.N 0 99);let y4:=(zbD a0.N 0 99);let y3:=(ieq a0.Kind 2);let y2:=(aB (ieq a0.N 0));let y1:=(ieq a0.Page 0);let y0:=(aB (nB a0.Write)); (cond (ieq a0.Kind 0) (cond (ieq a0.Kind 0) (cond y1 (cond (nB a0.Write) (some [y2]) oF) oF) (cond (ieq a0.Kind 1) (oN (zbD a0.Page 0 3) (cond (zbR a0.Page 0 3) (some [y2]) oF)) (cond y3 (cond y3 (oN y4 (cond y5 (cond y1 (some [y0]) oF) oF)) oF) (cond (ieq a0.Kind 3) (oN y4 (cond y5 (cond y1 (some [y0]) oF) oF)) oF)))) (cond (ieq a0.Kind 4) (cond y1 (cond (nB a0.Write) (some [y2]) oF) oF) (cond (ieq a0.Kind 1) (oN (zbD a0.Page 0 3) (cond (zbR a0.Page 0 3) (some [y2]) oF)) (cond y3 (cond y3 (oN y4 (cond y5 (cond y1 (some [y0]) oF) oF)) oF) (cond (ieq a0.Kind 3) (oN y4 (cond y5 (cond y1 (some [y0]) oF) oF)) oF)))))
theorem zUa (a0:GExit)(hc:zyN a0=true):∃N,zJa N a0=some [aB (ztN a0)]:=by
 refine ⟨0,?_⟩;unfold zJa oN nB
 conv=>zeta
 refine br (fun _=>br (fun _=>br (fun _=>brN (fun _=>?_) (fun _=>?_)) (fun _=>?_)) (fun _=>br (fun _=>must rfl (br (fun _=>?_) (fun _=>?_))) (fun _=>br (fun _=>br (fun _=>must rfl (br (fun _=>br (fun _=>?_) (fun _=>?_)) (fun _=>?_))) (fun _=>?_)) (fun _=>br (fun _=>must rfl (br (fun _=>br (fun _=>?_) (fun _=>?_)) (fun _=>?_))) (fun _=>?_))))) (fun _=>br (fun _=>br (fun _=>brN (fun _=>?_) (fun _=>?_)) (fun _=>?_)) (fun _=>br (fun _=>must rfl (br (fun _=>?_) (fun _=>?_))) (fun _=>br (fun _=>br (fun _=>must rfl (br (fun _=>br (fun _=>?_) (fun _=>?_)) (fun _=>?_))) (fun _=>?_)) (fun _=>br (fun _=>must rfl (br (fun _=>br (fun _=>?_) (fun _=>?_)) (fun _=>?_))) (fun _=>?_)))))
 all_goals first|rfl|(simp only [*,ztN,zg9,cT,cF]<;>rfl)|simp_all[Ty.cells,ztN,zg9]
theorem zNj:vJ 226 zCP:=kF1 zfz zk zl zo (zq []) zUa
def zki (c:Ctl):List Int:=(cond (win c.Traps 0 3) [] [1])++((cond (win c.Post 0 255) [] [2])++((cond (ine c.Post 0) (cond c.Open [] [3]) [])++(cond (ieq c.Traps 2) (cond (ine c.Post 0) [4] []) [])))
@[simp] theorem zbaT {α:Type}(x:α)(l m:List α):ap (x :: l) m=x :: ap l m:=rfl
@[simp] abbrev zsb (c:Ctl):Bool:=true
@[simp] abbrev zmx (c:Ctl):List Int:=zki c
def zvs:Run:=rF1 dC fun b=>(zsb b,[aS .int (zmx b)])
def zzU (N:Nat)(a0:Ctl):OA:=
 let y10:=(aS .int []);let y8:=(ap (ap [] [2]) [4]);let y7:=(ap (ap [] [1]) [4]);let y6:=(aS .int (ap [] [2]));let y5:=(aS .int (ap [] [1]));let y4:=(ap (ap [] [2]) [3]);let y3:=(ap (ap [] [1]) [3]);let y2:=(ieq a0.Traps 2);let y1:=(ine a0.Post 0);let y0:=(ap (ap [] [1]) [2]);let y9:=(aS .int y0); (oN (zJ a0.Traps 0 3) (cond (nB (zL a0.Traps 0 3)) (oN (few (ln (ap [] [1]))) (oN (zJ a0.Post 0 255) (cond (nB (zL a0.Post 0 255)) (oN (few (ln y0)) (cond y1 (cond (nB a0.Open) (oN (few (ln (ap y0 [3]))) (cond y2 (cond y1 (oN (few (ln (ap (ap y0 [3]) [4]))) (some [(aS .int (ap (ap y0 [3]) [4]))])) (some [(aS .int (ap y0 [3]))])) (some [(aS .int (ap y0 [3]))]))) (cond y2 (cond y1 (oN (few (ln (ap y0 [4]))) (some [(aS .int (ap y0 [4]))])) (some [y9])) (some [y9]))) (cond y2 (cond y1 (oN (few (ln (ap y0 [4]))) (some [(aS .int (ap y0 [4]))])) (some [y9])) (some [y9])))) (cond y1 (cond (nB a0.Open) (oN (few (ln y3)) (cond y2 (cond y1 (oN (few (ln (ap y3 [4]))) (some [(aS .int (ap y3 [4]))])) (some [(aS .int y3)])) (some [(aS .int y3)]))) (cond y2 (cond y1 (oN (few (ln y7)) (some [(aS .int y7)])) (some [y5])) (some [y5]))) (cond y2 (cond y1 (oN (few (ln y7)) (some [(aS .int y7)])) (some [y5])) (some [y5])))))) (oN (zJ a0.Post 0 255) (cond (nB (zL a0.Post 0 255)) (oN (few (ln (ap [] [2]))) (cond y1 (cond (nB a0.Open) (oN (few (ln y4)) (cond y2 (cond y1 (oN (few (ln (ap y4 [4]))) (some [(aS .int (ap y4 [4]))])) (some [(aS .int y4)])) (some [(aS .int y4)]))) (cond y2 (cond y1 (oN (few (ln y8)) (some [(aS .int y8)])) (some [y6])) (some [y6]))) (cond y2 (cond y1 (oN (few (ln y8)) (some [(aS .int y8)])) (some [y6])) (some [y6])))) (cond y1 (cond (nB a0.Open) (oN (few (ln (ap [] [3]))) (cond y2 (cond y1 (oN (few (ln (ap (ap [] [3]) [4]))) (some [(aS .int (ap (ap [] [3]) [4]))])) (some [(aS .int (ap [] [3]))])) (some [(aS .int (ap [] [3]))]))) (cond y2 (cond y1 (oN (few (ln (ap [] [4]))) (some [(aS .int (ap [] [4]))])) (some [y10])) (some [y10]))) (cond y2 (cond y1 (oN (few (ln (ap [] [4]))) (some [(aS .int (ap [] [4]))])) (some [y10])) (some [y10])))))))
theorem zLL (a0:Ctl)(hc:zsb a0=true):∃N,zzU N a0=some [aS .int (zmx a0)]:=by
 refine ⟨0,?_⟩;unfold zzU oN nB
 conv=>zeta
 refine must rfl (brN (fun _=>mu (must rfl (brN (fun _=>mu (br (fun _=>brN (fun _=>mu (br (fun _=>br (fun _=>mu ?_) (fun _=>?_)) (fun _=>?_))) (fun _=>br (fun _=>br (fun _=>mu ?_) (fun _=>?_)) (fun _=>?_))) (fun _=>br (fun _=>br (fun _=>mu ?_) (fun _=>?_)) (fun _=>?_)))) (fun _=>br (fun _=>brN (fun _=>mu (br (fun _=>br (fun _=>mu ?_) (fun _=>?_)) (fun _=>?_))) (fun _=>br (fun _=>br (fun _=>mu ?_) (fun _=>?_)) (fun _=>?_))) (fun _=>br (fun _=>br (fun _=>mu ?_) (fun _=>?_)) (fun _=>?_)))))) (fun _=>must rfl (brN (fun _=>mu (br (fun _=>brN (fun _=>mu (br (fun _=>br (fun _=>mu ?_) (fun _=>?_)) (fun _=>?_))) (fun _=>br (fun _=>br (fun _=>mu ?_) (fun _=>?_)) (fun _=>?_))) (fun _=>br (fun _=>br (fun _=>mu ?_) (fun _=>?_)) (fun _=>?_)))) (fun _=>br (fun _=>brN (fun _=>mu (br (fun _=>br (fun _=>mu ?_) (fun _=>?_)) (fun _=>?_))) (fun _=>br (fun _=>br (fun _=>mu ?_) (fun _=>?_)) (fun _=>?_))) (fun _=>br (fun _=>br (fun _=>mu ?_) (fun _=>?_)) (fun _=>?_))))))
 all_goals first|rfl|(simp only [*,zmx,zki,cT,cF]<;>rfl)|simp_all[Ty.cells,zmx,zki]
theorem zER:vJ 315 zvs:=kF1 zfz zk zl zo (zq []) zLL
@[simp] abbrev zrR (c:Ctl):Bool:=true
@[simp] abbrev zmc (c:Ctl):List Int:=zki c
def zvf:Run:=rF1 dC fun b=>(zrR b,[aS .int (zmc b)])
def zzH (N:Nat)(a0:Ctl):OA:=
 let y10:=(aS .int []);let y8:=(ap (ap [] [2]) [4]);let y7:=(ap (ap [] [1]) [4]);let y6:=(aS .int (ap [] [2]));let y5:=(aS .int (ap [] [1]));let y4:=(ap (ap [] [2]) [3]);let y3:=(ap (ap [] [1]) [3]);let y2:=(ieq a0.Traps 2);let y1:=(ine a0.Post 0);let y0:=(ap (ap [] [1]) [2]);let y9:=(aS .int y0); (oN (zbD a0.Traps 0 3) (cond (nB (zbR a0.Traps 0 3)) (oN (few (ln (ap [] [1]))) (oN (zbD a0.Post 0 255) (cond (nB (zbR a0.Post 0 255)) (oN (few (ln y0)) (cond y1 (cond (nB a0.Open) (oN (few (ln (ap y0 [3]))) (cond y2 (cond y1 (oN (few (ln (ap (ap y0 [3]) [4]))) (some [(aS .int (ap (ap y0 [3]) [4]))])) (some [(aS .int (ap y0 [3]))])) (some [(aS .int (ap y0 [3]))]))) (cond y2 (cond y1 (oN (few (ln (ap y0 [4]))) (some [(aS .int (ap y0 [4]))])) (some [y9])) (some [y9]))) (cond y2 (cond y1 (oN (few (ln (ap y0 [4]))) (some [(aS .int (ap y0 [4]))])) (some [y9])) (some [y9])))) (cond y1 (cond (nB a0.Open) (oN (few (ln y3)) (cond y2 (cond y1 (oN (few (ln (ap y3 [4]))) (some [(aS .int (ap y3 [4]))])) (some [(aS .int y3)])) (some [(aS .int y3)]))) (cond y2 (cond y1 (oN (few (ln y7)) (some [(aS .int y7)])) (some [y5])) (some [y5]))) (cond y2 (cond y1 (oN (few (ln y7)) (some [(aS .int y7)])) (some [y5])) (some [y5])))))) (oN (zbD a0.Post 0 255) (cond (nB (zbR a0.Post 0 255)) (oN (few (ln (ap [] [2]))) (cond y1 (cond (nB a0.Open) (oN (few (ln y4)) (cond y2 (cond y1 (oN (few (ln (ap y4 [4]))) (some [(aS .int (ap y4 [4]))])) (some [(aS .int y4)])) (some [(aS .int y4)]))) (cond y2 (cond y1 (oN (few (ln y8)) (some [(aS .int y8)])) (some [y6])) (some [y6]))) (cond y2 (cond y1 (oN (few (ln y8)) (some [(aS .int y8)])) (some [y6])) (some [y6])))) (cond y1 (cond (nB a0.Open) (oN (few (ln (ap [] [3]))) (cond y2 (cond y1 (oN (few (ln (ap (ap [] [3]) [4]))) (some [(aS .int (ap (ap [] [3]) [4]))])) (some [(aS .int (ap [] [3]))])) (some [(aS .int (ap [] [3]))]))) (cond y2 (cond y1 (oN (few (ln (ap [] [4]))) (some [(aS .int (ap [] [4]))])) (some [y10])) (some [y10]))) (cond y2 (cond y1 (oN (few (ln (ap [] [4]))) (some [(aS .int (ap [] [4]))])) (some [y10])) (some [y10])))))))
theorem zLx (a0:Ctl)(hc:zrR a0=true):∃N,zzH N a0=some [aS .int (zmc a0)]:=by
 refine ⟨0,?_⟩;unfold zzH oN nB
 conv=>zeta
 refine must rfl (brN (fun _=>mu (must rfl (brN (fun _=>mu (br (fun _=>brN (fun _=>mu (br (fun _=>br (fun _=>mu ?_) (fun _=>?_)) (fun _=>?_))) (fun _=>br (fun _=>br (fun _=>mu ?_) (fun _=>?_)) (fun _=>?_))) (fun _=>br (fun _=>br (fun _=>mu ?_) (fun _=>?_)) (fun _=>?_)))) (fun _=>br (fun _=>brN (fun _=>mu (br (fun _=>br (fun _=>mu ?_) (fun _=>?_)) (fun _=>?_))) (fun _=>br (fun _=>br (fun _=>mu ?_) (fun _=>?_)) (fun _=>?_))) (fun _=>br (fun _=>br (fun _=>mu ?_) (fun _=>?_)) (fun _=>?_)))))) (fun _=>must rfl (brN (fun _=>mu (br (fun _=>brN (fun _=>mu (br (fun _=>br (fun _=>mu ?_) (fun _=>?_)) (fun _=>?_))) (fun _=>br (fun _=>br (fun _=>mu ?_) (fun _=>?_)) (fun _=>?_))) (fun _=>br (fun _=>br (fun _=>mu ?_) (fun _=>?_)) (fun _=>?_)))) (fun _=>br (fun _=>brN (fun _=>mu (br (fun _=>br (fun _=>mu ?_) (fun _=>?_)) (fun _=>?_))) (fun _=>br (fun _=>br (fun _=>mu ?_) (fun _=>?_)) (fun _=>?_))) (fun _=>br (fun _=>br (fun _=>mu ?_) (fun _=>?_)) (fun _=>?_))))))
 all_goals first|rfl|(simp only [*,zmc,zki,cT,cF]<;>rfl)|simp_all[Ty.cells,zmc,zki]
theorem zEE:vJ 282 zvf:=kF1 zfz zk zl zo (zq []) zLx
def len8tab:ByteArray:=⟨⟨[0,1,2,2,3,3,3,3,4,4,4,4,4,4,4,4,5,5,5,5,5,5,5,5,5,5,5,5,5,5,5,5,6,6,6,6,6,6,6,6,6,6,6,6,6,6,6,6,6,6,6,6,6,6,6,6,6,6,6,6,6,6,6,6,7,7,7,7,7,7,7,7,7,7,7,7,7,7,7,7,7,7,7,7,7,7,7,7,7,7,7,7,7,7,7,7,7,7,7,7,7,7,7,7,7,7,7,7,7,7,7,7,7,7,7,7,7,7,7,7,7,7,7,7,7,7,7,7,8,8,8,8,8,8,8,8,8,8,8,8,8,8,8,8,8,8,8,8,8,8,8,8,8,8,8,8,8,8,8,8,8,8,8,8,8,8,8,8,8,8,8,8,8,8,8,8,8,8,8,8,8,8,8,8,8,8,8,8,8,8,8,8,8,8,8,8,8,8,8,8,8,8,8,8,8,8,8,8,8,8,8,8,8,8,8,8,8,8,8,8,8,8,8,8,8,8,8,8,8,8,8,8,8,8,8,8,8,8,8,8,8,8,8,8,8,8,8,8,8,8,8,8,8,8,8,8]⟩⟩
def zgx (p n:Int):Bool:=ieq (wand .i64 (zjn .i64 p n) 1) 1
def scan (p:Int):Int:=bif zgx p 7 then 7 else (cond (zgx p 6) 6 (cond (zgx p 5) 5 (cond (zgx p 4) 4 (cond (zgx p 3) 3 (cond (zgx p 2) 2 (cond (zgx p 1) 1 (cond (zgx p 0) 0 (-1))))))))
theorem z5m:∀n:Fin 256,zI .i64 0 (wcv .i64 (byteAt len8tab (wcv .u8 (n.val:Int))))=scan (n.val:Int)+1:=by decide +kernel
theorem zVQ:∀n:Fin 256,-1<=scan (n.val:Int)/\scan (n.val:Int)<=7/\(0<=scan (n.val:Int)->wsub .i64 (n.val:Int) (zk1 .i64 1 (scan (n.val:Int)))=zzE .i64 (n.val:Int) (zk1 .i64 1 (scan (n.val:Int)))):=by decide +kernel
theorem zCE {P:Int->Prop}(h:∀n:Fin 256,P (n.val:Int)){x:Int}(h0:0<=x)(h1:x<=255):P x:=by
 have:=h ⟨x.toNat,by omega⟩
 have e:((x.toNat:Nat):Int)=x:=by omega
 simpa [e] using this
def zl3 (x:Int):Bool:=pc (0<=x/\x<=255)
def zhW (x:Int):Int:=scan x+1
def zhp:List AV->Option (Bool×List AV)
 | [.one (.i .u64 b)]=>some ((zl3 b),[aI (zhW b)])
 | _=>none
def zlV (N:Nat)(a0:Int):OA:=
 let y2:=(zjn .u64 a0 16);let y0:=(zjn .u64 a0 32);let y1:=(zjn .u64 y0 16); (cond (ige a0 4294967296) (oN (ile 0 32) (cond (ige y0 65536) (oN (ile 0 16) (cond (ige y1 256) (oN (ile 0 8) (oN (inb (wcv .u8 (zjn .u64 y1 8)) 256) (some [(aI (zI .i64 (zI .i64 (zI .i64 32 16) 8) (wcv .i64 (byteAt len8tab (wcv .u8 (zjn .u64 y1 8))))))]))) (oN (inb (wcv .u8 y1) 256) (some [(aI (zI .i64 (zI .i64 32 16) (wcv .i64 (byteAt len8tab (wcv .u8 y1)))))])))) (cond (ige y0 256) (oN (ile 0 8) (oN (inb (wcv .u8 (zjn .u64 y0 8)) 256) (some [(aI (zI .i64 (zI .i64 32 8) (wcv .i64 (byteAt len8tab (wcv .u8 (zjn .u64 y0 8))))))]))) (oN (inb (wcv .u8 y0) 256) (some [(aI (zI .i64 32 (wcv .i64 (byteAt len8tab (wcv .u8 y0)))))]))))) (cond (ige a0 65536) (oN (ile 0 16) (cond (ige y2 256) (oN (ile 0 8) (oN (inb (wcv .u8 (zjn .u64 y2 8)) 256) (some [(aI (zI .i64 (zI .i64 (zI .i64 0 16) 8) (wcv .i64 (byteAt len8tab (wcv .u8 (zjn .u64 y2 8))))))]))) (oN (inb (wcv .u8 y2) 256) (some [(aI (zI .i64 (zI .i64 0 16) (wcv .i64 (byteAt len8tab (wcv .u8 y2)))))])))) (cond (ige a0 256) (oN (ile 0 8) (oN (inb (wcv .u8 (zjn .u64 a0 8)) 256) (some [(aI (zI .i64 (zI .i64 0 8) (wcv .i64 (byteAt len8tab (wcv .u8 (zjn .u64 a0 8))))))]))) (oN (inb (wcv .u8 a0) 256) (some [(aI (zI .i64 0 (wcv .i64 (byteAt len8tab (wcv .u8 a0)))))])))))
theorem zCD (N:Nat)(a0:Int):evalFn (cQ zZp zow zIJ zk0) (zq []) N 12 184 [.one (.i .u64 a0)]=zlV N a0:=by kernel_rfl
theorem zA8 (a0:Int)(hb:zbN big [.one (.i .u64 a0)])(hc:zl3 a0=true):∃N,zlV N a0=some [aI (zhW a0)]:=by
 obtain ⟨h0,h1⟩:=zF.1 hc;refine ⟨0,?_⟩;unfold zlV oN
 conv=>zeta
 refine zcB (qG (by omega)) ?_
 refine zcB (qG (by omega)) ?_
 refine zcB (qG (by omega)) ?_
 have e:inb (wcv .u8 a0) 256=true:=zCE (P:=fun x=>inb (wcv .u8 x) 256=true) (by decide +kernel) h0 h1
 refine must e ?_;have e2:=zCE (P:=fun x=>zI .i64 0 (wcv .i64 (byteAt len8tab (wcv .u8 x)))=scan x+1) z5m h0 h1;rw[e2];rfl
theorem znB:vJ 184 zhp:=zTR zfz zk zl zo (zem (by kernel_rfl)) fun avs rs hb h=>by
 unfold zhp at h;split at h
 .obtain ⟨hc,rfl⟩:=zdQ h;exact (zA8 _ hb hc).elim fun N e=>⟨zq [],N,(zCD N _).trans e⟩
 .cases h
def z6z:zO:=[(273,zDf),(213,zAB),(166,zAf),(212,zDr),(165,zCZ),(314,zGM),(281,zGB),(279,zDh),(226,zCP),(315,zvs),(282,zvf),(184,zhp)]++zZp
theorem zfA:zG z6z:=zh zNJ (zh zK8 (zh zKL (zh zNV (zh zNt (zh zRn (zh zRb (zh zNL (zh zNj (zh zER (zh zEE (zh znB zfz)))))))))))
def zho (m:List (List Int))(n:Int):Bool:=bif m.all zca then ieq (ln m) n else false
@[simp] abbrev zrv (m:List (List Int))(n:Int):Bool:=true
@[simp] abbrev zlM (m:List (List Int))(n:Int):Bool:=zho m n
def zGN:Run:=rF2 (dS (.sl .int)) dI fun b c=>(zrv b c,[aB (zlM b c)])
def zPX (N:Nat)(a0:lM)(a1:Int):OA:=
 (iter (σ:=(Int×(Int×(lM×Unit)))) N (fun r3 s4=>let y0:=s4.2.2.1; (cond (ilt s4.2.1 (ln y0)) (oN (inb s4.2.1 (ln y0)) (oN (zfR (ix y0 s4.2.1 [])) (cond (nB (ze7 (ix y0 s4.2.1 []))) oF (r3 (s4.1,((zI .i64 s4.2.1 1),(y0,()))))))) (some [(aB (ieq (ln y0) s4.1))]))) (a1,(0,(a0,()))))
def zX2:FuncId->Nat->Option Tmpl:=zq [(155,0,{ n:=22,tm:=[(0,.sl 0 []),(1,ti),(5,ti)],lo:=[],ro:=[(0,(.sl .int),false)] })]
theorem zXh (a0:List (List Int))(a1:Int)(hb:zbN big [aS (.sl .int) a0,aI a1])(hc:zrv a0 a1=true):∃N,zPX N a0 a1=some [aB (zlM a0 a1)]:=by
 have hl:(_:List _).length<=big:=((zc0 hb).1 _ (qF.2 rfl)).len;refine zce fun N hNN=>?_;unfold zPX oN nB
 conv=>zeta
 refine (zbd a0 (fun i (t:Unit)=>(a1,(i:Int),a0,())) _ (fun _ x (_:Unit) κ=>bif (zca) x then κ () else oF) (fun (t:Unit)=>(some [(.one (.b (ieq (ln a0) a1)))])) (fun i hi t rec=>?_) (fun t rec=>?_) _ () (hNN hl)).trans ?_
 .simp only [zbx hi,zbb hi,zbg hi,zZ hi hl,cT];exact zhX rfl
 .simp only [zbp,cF]
 rw[zgh (zca)];refine br (fun h0=>?_) (fun h0=>?_)
 .first|rfl|(simp only [h0,zlM,zho,cT,cF]<;>rfl)|(simp_all [Ty.cells,zlM,zho];done)
 .first|rfl|(simp only [h0,zlM,zho,cT,cF]<;>rfl)|(simp_all [Ty.cells,zlM,zho];done)
theorem zRo:vJ 155 zGN:=hF2 zfA zk zl zo zX2 zXh
@[simp] abbrev zrk (m:List (List Int))(n:Int):Bool:=true
@[simp] abbrev zlk (m:List (List Int))(n:Int):Bool:=zho m n
def zGC:Run:=rF2 (dS (.sl .int)) dI fun b c=>(zrk b c,[aB (zlk b c)])
def zPL (N:Nat)(a0:lM)(a1:Int):OA:=
 (iter (σ:=(Int×(Int×(Int×(lM×Unit))))) N (fun r3 s4=>let y0:=s4.2.2.2.1; (cond (ilt s4.2.2.1 s4.2.1) (oN (inb s4.2.2.1 (ln y0)) (oN (zhI (ix y0 s4.2.2.1 [])) (cond (nB (zgn (ix y0 s4.2.2.1 []))) oF (r3 (s4.1,(s4.2.1,((zI .i64 s4.2.2.1 1),(y0,())))))))) (some [(aB (ieq (ln y0) s4.1))]))) (a1,((ln a0),(0,(a0,())))))
def zX0:FuncId->Nat->Option Tmpl:=zq [(106,0,{ n:=21,tm:=[(0,.sl 0 []),(1,ti),(7,.sl 0 []),(8,ti),(9,ti)],lo:=[],ro:=[(0,(.sl .int),false)] })]
theorem zW4 (a0:List (List Int))(a1:Int)(hb:zbN big [aS (.sl .int) a0,aI a1])(hc:zrk a0 a1=true):∃N,zPL N a0 a1=some [aB (zlk a0 a1)]:=by
 have hl:(_:List _).length<=big:=((zc0 hb).1 _ (qF.2 rfl)).len;refine zce fun N hNN=>?_;unfold zPL oN nB
 conv=>zeta
 refine (zbd a0 (fun i (t:Unit)=>(a1,(ln a0),(i:Int),a0,())) _ (fun _ x (_:Unit) κ=>bif (zca) x then κ () else oF) (fun (t:Unit)=>(some [(.one (.b (ieq (ln a0) a1)))])) (fun i hi t rec=>?_) (fun t rec=>?_) _ () (hNN hl)).trans ?_
 .simp only [zbx hi,zbb hi,zbg hi,zZ hi hl,cT];exact zhX rfl
 .simp only [zbp,cF]
 rw[zgh (zca)];refine br (fun h0=>?_) (fun h0=>?_)
 .first|rfl|(simp only [h0,zlk,zho,cT,cF]<;>rfl)|(simp_all [Ty.cells,zlk,zho];done)
 .first|rfl|(simp only [h0,zlk,zho,cT,cF]<;>rfl)|(simp_all [Ty.cells,zlk,zho];done)
theorem zRc:vJ 106 zGC:=hF2 zfA zk zl zo zX0 zW4
def zc6 (p:List Ins):Bool:=bif p.all zdM then win (ln p) 1 12 else false
@[simp] abbrev zzp (p:List Ins):Bool:=true
@[simp] abbrev znm (p:List Ins):Bool:=zc6 p
def zDt:Run:=rF1 (dS .ins) fun b=>(zzp b,[aB (znm b)])
def zJN (N:Nat)(a0:lI):OA:=
 (iter (σ:=(Int×(lI×Unit))) N (fun r2 s3=>let y0:=(ix s3.2.1 s3.1 zq3); (cond (ilt s3.1 (ln s3.2.1)) (oN (inb s3.1 (ln s3.2.1)) (oN (zDN y0) (cond (nB (zyd y0)) oF (r2 ((zI .i64 s3.1 1),(s3.2.1,())))))) (oN (zJ (ln s3.2.1) 1 12) (some [(aB (zL (ln s3.2.1) 1 12))])))) (0,(a0,())))
def zWp:FuncId->Nat->Option Tmpl:=zq [(277,0,{ n:=19,tm:=[(0,.sl 0 []),(3,ti)],lo:=[],ro:=[(0,.ins,false)] })]
theorem zUQ (a0:List Ins)(hb:zbN big [aS .ins a0])(hc:zzp a0=true):∃N,zJN N a0=some [aB (znm a0)]:=by
 have hl:(_:List _).length<=big:=((zc0 hb).1 _ (qF.2 rfl)).len;refine zce fun N hNN=>?_;unfold zJN oN nB
 conv=>zeta
 refine (zbd a0 (fun i (t:Unit)=>((i:Int),a0,())) _ (fun _ x (_:Unit) κ=>bif (zdM) x then κ () else oF) (fun (t:Unit)=>(cond (zJ (ln a0) 1 12) (some [(.one (.b (zL (ln a0) 1 12)))]) none)) (fun i hi t rec=>?_) (fun t rec=>?_) _ () (hNN hl)).trans ?_
 .simp only [zbx hi,zbb hi,zbg hi,zZ hi hl,cT];exact zhX rfl
 .simp only [zbp,cF]
 rw[zgh (zdM)];refine br (fun h0=>?_) (fun h0=>?_)
 .refine must rfl ?_
  first|rfl|(simp only [h0,znm,zc6,cT,cF]<;>rfl)|(simp_all [Ty.cells,znm,zc6];done)
 .first|rfl|(simp only [h0,znm,zc6,cT,cF]<;>rfl)|(simp_all [Ty.cells,znm,zc6];done)
theorem zNX:vJ 277 zDt:=hF1 zfA zk zl zo zWp zUQ
@[simp] abbrev zyT (p:List Ins):Bool:=true
@[simp] abbrev zm9 (p:List Ins):Bool:=zc6 p
def zC1:Run:=rF1 (dS .ins) fun b=>(zyT b,[aB (zm9 b)])
def zJl (N:Nat)(a0:lI):OA:=
 (iter (σ:=(Int×(Int×(lI×Unit)))) N (fun r2 s3=>let y0:=(ix s3.2.2.1 s3.2.1 zq3); (cond (ilt s3.2.1 s3.1) (oN (inb s3.2.1 (ln s3.2.2.1)) (oN (zCo y0) (cond (nB (zxo y0)) oF (r2 (s3.1,((zI .i64 s3.2.1 1),(s3.2.2.1,()))))))) (oN (zbD (ln s3.2.2.1) 1 12) (some [(aB (zbR (ln s3.2.2.1) 1 12))])))) ((ln a0),(0,(a0,()))))
def zWf:FuncId->Nat->Option Tmpl:=zq [(224,0,{ n:=18,tm:=[(0,.sl 0 []),(5,.sl 0 []),(6,ti),(7,ti)],lo:=[],ro:=[(0,.ins,false)] })]
theorem zUm (a0:List Ins)(hb:zbN big [aS .ins a0])(hc:zyT a0=true):∃N,zJl N a0=some [aB (zm9 a0)]:=by
 have hl:(_:List _).length<=big:=((zc0 hb).1 _ (qF.2 rfl)).len;refine zce fun N hNN=>?_;unfold zJl oN nB
 conv=>zeta
 refine (zbd a0 (fun i (t:Unit)=>((ln a0),(i:Int),a0,())) _ (fun _ x (_:Unit) κ=>bif (zdM) x then κ () else oF) (fun (t:Unit)=>(cond (zbD (ln a0) 1 12) (some [(.one (.b (zbR (ln a0) 1 12)))]) none)) (fun i hi t rec=>?_) (fun t rec=>?_) _ () (hNN hl)).trans ?_
 .simp only [zbx hi,zbb hi,zbg hi,zZ hi hl,cT];exact zhX rfl
 .simp only [zbp,cF]
 rw[zgh (zdM)];refine br (fun h0=>?_) (fun h0=>?_)
 .refine must rfl ?_
  first|rfl|(simp only [h0,zm9,zc6,cT,cF]<;>rfl)|(simp_all [Ty.cells,zm9,zc6];done)
 .first|rfl|(simp only [h0,zm9,zc6,cT,cF]<;>rfl)|(simp_all [Ty.cells,zm9,zc6];done)
theorem zNv:vJ 224 zC1:=hF1 zfA zk zl zo zWf zUm
def zhm (c:Ctl):Bool:=ieq (ln (zki c)) 0
@[simp] abbrev zrt (c:Ctl):Bool:=true
@[simp] abbrev zpW (c:Ctl):Bool:=zhm c
def zGJ:Run:=rF1 dC fun b=>(zrt b,[aB (zpW b)])
def zPT (N:Nat)(a0:Ctl):OA:=
 (oN (zsb a0) (some [(aB (ieq (ln (zmx a0)) 0))]))
theorem zXd (a0:Ctl)(hc:zrt a0=true):∃N,zPT N a0=some [aB (zpW a0)]:=by
 refine ⟨0,?_⟩;unfold zPT oN;refine must rfl ?_
 first|rfl|(simp only [*,zpW,zhm,cT,cF]<;>rfl)|simp_all[Ty.cells,zpW,zhm]
theorem zRk:vJ 278 zGJ:=kF1 zfA zk zl zo (zq []) zXd
@[simp] abbrev zCn (c:Ctl):Bool:=true
@[simp] abbrev zxn (c:Ctl):Bool:=zhm c
def zGz:Run:=rF1 dC fun b=>(zCn b,[aB (zxn b)])
def zPI (N:Nat)(a0:Ctl):OA:=
 (oN (zrR a0) (some [(aB (ieq (ln (zmc a0)) 0))]))
theorem zW1 (a0:Ctl)(hc:zCn a0=true):∃N,zPI N a0=some [aB (zxn a0)]:=by
 refine ⟨0,?_⟩;unfold zPI oN;refine must rfl ?_
 first|rfl|(simp only [*,zxn,zhm,cT,cF]<;>rfl)|simp_all[Ty.cells,zxn,zhm]
theorem zQ9:vJ 225 zGz:=kF1 zfA zk zl zo (zq []) zW1
def zde (p:Int):Int:=bif zcR p then scan p else -1
theorem zPE {x:Int}(h0:0<=x)(h1:x<=255):wcv .u64 x=x:=zCE (P:=fun x=>wcv .u64 x=x) (by decide +kernel) h0 h1
@[simp] abbrev zsD (p:Int):Bool:=true
@[simp] abbrev zna (p:Int):Int:=zde p
def zC7:Run:=rF1 dI fun b=>(zsD b,[aI (zna b)])
def zJr (N:Nat)(a0:Int):OA:=
 (oN (zi6 a0) (cond (nB (zi5 a0)) (some [(aI (-1))]) (oN (zl3 (wcv .u64 a0)) (some [(aI (wsub .i64 (zhW (wcv .u64 a0)) 1))]))))
theorem zUs (a0:Int)(hc:zsD a0=true):∃N,zJr N a0=some [aI (zna a0)]:=by
 refine ⟨0,?_⟩;unfold zJr oN nB;refine must rfl ?_;cases h:zcR a0
 .refine must (by simp[h]) ?_
  simp[zde,h]
 .obtain ⟨h0,h1⟩:=zfh.1 h;have r:=zCE (P:=fun x=>-1<=scan x/\scan x<=7/\(0<=scan x->wsub .i64 x (zk1 .i64 1 (scan x))=zzE .i64 x (zk1 .i64 1 (scan x)))) zVQ h0 h1;refine zcB (by simp[h]) ?_
  rw[zPE h0 h1];refine must (zU ⟨h0,h1⟩) ?_;have e:wsub .i64 (zhW a0) 1=scan a0:=by
   unfold zhW;rw[ztp (by omega) (by omega)];omega
  rw[e];simp[zde,h]
theorem zNB:vJ 173 zC7:=kF1 zfA zk zl zo (zq []) zUs
@[simp] abbrev zsU (p:Int):Bool:=true
@[simp] abbrev zno (p:Int):Int:=zde p
def zDy:Run:=rF1 dI fun b=>(zsU b,[aI (zno b)])
def zJS (N:Nat)(a0:Int):OA:=
 (iter (σ:=(Int×(Int×Unit))) N (fun r2 s3=>(cond (ige s3.2.1 0) (oN (ze9 s3.1) (cond (ze8 s3.1) (oN (ile 0 (wcv .u64 s3.2.1)) (cond (ieq (wand .i64 (zjn .i64 s3.1 (wcv .u64 s3.2.1)) 1) 1) (some [(aI s3.2.1)]) (r2 (s3.1,((wsub .i64 s3.2.1 1),()))))) (some [(aI (-1))]))) (some [(aI (-1))]))) (a0,(7,())))
def zWr:FuncId->Nat->Option Tmpl:=zq [(317,0,{ n:=19,tm:=[(0,ti),(3,ti)],lo:=[],ro:=[] })]
theorem zUV (a0:Int)(hc:zsU a0=true):∃N,zJS N a0=some [aI (zno a0)]:=by
 refine ⟨10,?_⟩;unfold zJS oN;cases h:zcR a0
 .rw [zdp];refine must rfl ?_;refine must rfl ?_;refine zcB h ?_;simp[zde,h]
 .have hs:ze8 a0=true:=h;rw[zdp];refine must rfl (must rfl (must hs (must rfl (br (fun h7=>?_) (fun h7=>?_)))))
  .have e7:zgx a0 7=true:=h7;simp[zde,h,scan,e7]
  have f7:zgx a0 7=false:=h7
  show iter 9 _ (a0,6,())=_
  rw[zdp];refine must rfl (must rfl (must hs (must rfl (br (fun h6=>?_) (fun h6=>?_)))))
  .have e6:zgx a0 6=true:=h6;simp[zde,h,scan,e6,f7]
  have f6:zgx a0 6=false:=h6
  show iter 8 _ (a0,5,())=_
  rw[zdp];refine must rfl (must rfl (must hs (must rfl (br (fun h5=>?_) (fun h5=>?_)))))
  .have e5:zgx a0 5=true:=h5;simp[zde,h,scan,e5,f7,f6]
  have f5:zgx a0 5=false:=h5
  show iter 7 _ (a0,4,())=_
  rw[zdp];refine must rfl (must rfl (must hs (must rfl (br (fun h4=>?_) (fun h4=>?_)))))
  .have e4:zgx a0 4=true:=h4;simp[zde,h,scan,e4,f7,f6,f5]
  have f4:zgx a0 4=false:=h4
  show iter 6 _ (a0,3,())=_
  rw[zdp];refine must rfl (must rfl (must hs (must rfl (br (fun h3=>?_) (fun h3=>?_)))))
  .have e3:zgx a0 3=true:=h3;simp[zde,h,scan,e3,f7,f6,f5,f4]
  have f3:zgx a0 3=false:=h3
  show iter 5 _ (a0,2,())=_
  rw[zdp];refine must rfl (must rfl (must hs (must rfl (br (fun h2=>?_) (fun h2=>?_)))))
  .have e2:zgx a0 2=true:=h2;simp[zde,h,scan,e2,f7,f6,f5,f4,f3]
  have f2:zgx a0 2=false:=h2
  show iter 4 _ (a0,1,())=_
  rw[zdp];refine must rfl (must rfl (must hs (must rfl (br (fun h1=>?_) (fun h1=>?_)))))
  .have e1:zgx a0 1=true:=h1;simp[zde,h,scan,e1,f7,f6,f5,f4,f3,f2]
  have f1:zgx a0 1=false:=h1
  show iter 3 _ (a0,0,())=_
  rw[zdp];refine must rfl (must rfl (must hs (must rfl (br (fun h0=>?_) (fun h0=>?_)))))
  .have e0:zgx a0 0=true:=h0;simp[zde,h,scan,e0,f7,f6,f5,f4,f3,f2,f1]
  have f0:zgx a0 0=false:=h0
  show iter 2 _ (a0,-1,())=_
  rw[zdp];refine zcB rfl ?_;simp[zde,h,scan,f7,f6,f5,f4,f3,f2,f1,f0]
theorem zN2:vJ 317 zDy:=kF1 zfA zk zl zo zWr zUV
@[simp] abbrev zfP (l:List (List Int)):Bool:=pc (SmM l)
@[simp] abbrev zdo (l:List (List Int)):List (List Int):=l
def zAh:Run:=rF1 (dS (.sl .int)) fun b=>(zfP b,[aS (.sl .int) (zdo b)])
def zFH (N:Nat)(a0:lM):OA:=
 (iter (σ:=(Int×(Int×(lM×(lM×Unit))))) N (fun r2 s3=>let y0:=(ix s3.2.2.2.1 s3.2.1 []); (cond (ilt s3.2.1 s3.1) (oN (inb s3.2.1 (ln s3.2.2.2.1)) (oN (zdz y0) (oN (few (ln (ap s3.2.2.1 [(zds y0)]))) (r2 (s3.1,((zI .i64 s3.2.1 1),((ap s3.2.2.1 [(zds y0)]),(s3.2.2.2.1,())))))))) (some [(aS (.sl .int) s3.2.2.1)]))) ((ln a0),(0,([],(a0,())))))
def zSx:FuncId->Nat->Option Tmpl:=zq [(114,0,{ n:=20,tm:=[(3,.sl 0 []),(7,.sl 1 []),(8,ti),(9,ti)],lo:=[],ro:=[(0,(.sl .int),true),(1,(.sl .int),false)] })]
theorem zRK (a0:List (List Int))(hc:zfP a0=true):∃N,zFH N a0=some [aS (.sl .int) (zdo a0)]:=by
 have hs:=zF.1 hc;have hl:=zcJ hs.1;refine zce fun N hNN=>?_;unfold zFH oN
 conv=>zeta
 refine (zbd a0 (fun i (t:lM)=>((ln a0),(i:Int),t,a0,())) _ (fun _ x acc κ=>bif zdz x then (cond (few (ln (ap acc [zds x]))) (κ (ap acc [zds x])) none) else none) (fun (t:lM)=>(some [(.one (.s (.sl .int) t))])) (fun i hi t rec=>?_) (fun t rec=>?_) _ ([]) (hNN hl.1)).trans ?_
 .simp only [zbx hi,zbb hi,zbg hi,zZ hi hl.1,cT]
 .simp only [zbp,cF]
 exact ziW zdz zds _ a0 0 [] (fun x hx=>⟨by exact zU (jD (hs.2 x hx) (by decide)),rfl⟩) (by simpa using hl.2)
theorem zKN:vJ 114 zAh:=kF1 zfA zk zl zo zSx zRK
@[simp] abbrev zdu (g:Guest):Bool:=pc (SmG g)
@[simp] abbrev zcl (g:Guest):Guest:=g
def zvm:Run:=rF1 (dT .guest) fun b=>(zdu b,[aT .guest (zcl b)])
def zzO (N:Nat)(a0:Guest):OA:=
 (oN (ztR a0.Prog) (oN (zgp a0.Written) (oN (zgp a0.Live) (oN (zdz a0.Seen) (some [(aT .guest ({ a0 with Prog:=(zor a0.Prog),Written:=(zeR a0.Written),Live:=(zeR a0.Live),Seen:=(zds a0.Seen) }:Guest))])))))
theorem zLE (a0:Guest)(hc:zdu a0=true):∃N,zzO N a0=some [aT .guest (zcl a0)]:=by
 have hs:=zF.1 hc;obtain ⟨h1,h2,h3,h4⟩:=hs;have hs1:a0.Prog.length<=2147483648:=(by omega);have hs2:a0.Written.length<=2147483648:=(by omega);have hs3:a0.Live.length<=2147483648:=(by omega);have hs4:a0.Seen.length<=2147483648:=(by omega)
 refine ⟨0,?_⟩;unfold zzO oN;refine mu (mu (mu (mu ?_)))
 first|rfl|(simp only [*,zcl,cT,cF]<;>rfl)|simp_all[Ty.cells,zcl]
theorem zEL:vJ 119 zvm:=kF1 zfA zk zl zo (zq []) zLE
def zdU (t:List Slot)(p n:Int):Bool:=bif ieq (zbk t p).Page (-1) then false else (cond (enough (zbk t p).Rights n) (win n 1 3) false)
def zbY (t:List Slot)(p n:Int):Int:=bif zdU t p n then (zbk t p).Page else -1
theorem z5f {r:Int}(h:zcx r=true):0<=r/\r<=3:=zfh.1 h
theorem zZE {a n:Int}(h:enough a n=true):win n 1 3 = !ieq n 0:=by
 unfold enough at h;cases h1:zcx a
 .rw [h1]at h;cases h
 .cases h2:zcx n
  .rw [h1,h2]at h;cases h
  .have:=z5f h2;have e:(win n 1 3=true)↔(!ieq n 0)=true:=by
    rw[zfh];simp[ieq];omega
   cases h3:win n 1 3<;>cases h4:(!ieq n 0)<;>simp_all
@[simp] abbrev zju (t:List Slot)(p n:Int):Bool:=true
@[simp] abbrev zhw (t:List Slot)(p n:Int):Int:=zbY t p n
@[simp] abbrev zgo (t:List Slot)(p n:Int):Bool:=zdU t p n
def zvk:Run:=rF3 (dS .slot) dI dI fun b c d=>(zju b c d,[aI (zhw b c d),aB (zgo b c d)])
def zzM (N:Nat)(a0:lS)(a1 a2:Int):OA:=
 let y0:=(zi7 a0 a1); (oN (zll a0 a1) (cond (ieq y0.Page (-1)) (some [(aI (-1)),(aB false)]) (oN (zdr y0.Rights a2) (cond (nB (zdR y0.Rights a2)) (some [(aI (-1)),(aB false)]) (oN (zbD a2 1 3) (cond (nB (zbR a2 1 3)) (some [(aI (-1)),(aB false)]) (some [(aI y0.Page),(aB true)])))))))
theorem zLC (a0:List Slot)(a1 a2:Int)(hc:zju a0 a1 a2=true):∃N,zzM N a0 a1 a2=some [aI (zhw a0 a1 a2),aB (zgo a0 a1 a2)]:=by
 refine ⟨0,?_⟩;unfold zzM oN nB
 conv=>zeta
 refine must rfl (br (fun _=>?_) (fun _=>must rfl (brN (fun _=>?_) (fun _=>must rfl (brN (fun _=>?_) (fun _=>?_))))))
 all_goals first|rfl|(simp only [*,zhw,zgo,zbY,zdU,cT,cF]<;>rfl)|simp_all[Ty.cells,zhw,zgo,zbY,zdU]
theorem zEJ:vJ 89 zvk:=kF3 zfA zk zl zo (zq []) zLC
@[simp] abbrev zse (t:List Slot)(p n:Int):Bool:=true
@[simp] abbrev zjA (t:List Slot)(p n:Int):Int:=zbY t p n
@[simp] abbrev zjB (t:List Slot)(p n:Int):Bool:=zdU t p n
def zvz:Run:=rF3 (dS .slot) dI dI fun b c d=>(zse b c d,[aI (zjA b c d),aB (zjB b c d)])
def zz1 (N:Nat)(a0:lS)(a1 a2:Int):OA:=
 let y0:=(zhk a0 a1); (oN (zjh a0 a1) (cond (ieq y0.Page (-1)) (some [(aI (-1)),(aB false)]) (oN (zgC y0.Rights a2) (cond (nB (zhj y0.Rights a2)) (some [(aI (-1)),(aB false)]) (cond (ieq a2 0) (some [(aI (-1)),(aB false)]) (some [(aI y0.Page),(aB true)]))))))
theorem zLS (a0:List Slot)(a1 a2:Int)(hc:zse a0 a1 a2=true):∃N,zz1 N a0 a1 a2=some [aI (zjA a0 a1 a2),aB (zjB a0 a1 a2)]:=by
 have he:=@zZE (zbk a0 a1).Rights a2;refine ⟨0,?_⟩;unfold zz1 oN nB
 conv=>zeta
 refine must rfl (br (fun _=>?_) (fun _=>must rfl (brN (fun _=>?_) (fun _=>br (fun _=>?_) (fun _=>?_)))))
 all_goals first|rfl|(simp only [*,zjA,zjB,zbY,zdU,cT,cF]<;>rfl)|simp_all[Ty.cells,zjA,zjB,zbY,zdU]
theorem zEY:vJ 13 zvz:=kF3 zfA zk zl zo (zq []) zLS
def z6A:zO:=[(184,zhp),(114,zAh),(119,zvm),(13,zvz),(89,zvk),(155,zGN),(106,zGC),(277,zDt),(224,zC1),(278,zGJ),(225,zGz),(317,zDy),(173,zC7)]++z6z
theorem zfB:zG z6A:=zh znB (zh zKN (zh zEL (zh zEY (zh zEJ (zh zRo (zh zRc (zh zNX (zh zNv (zh zRk (zh zQ9 (zh zN2 (zh zNB zfA))))))))))))
@[simp] abbrev ziF (m:List (List Int))(p c v:Int):Bool:=pc (SmM m)
@[simp] abbrev zji (m:List (List Int))(p c v:Int):List (List Int):=zbv m p c v
def zx4:Run:=rF4 (dS (.sl .int)) dI dI dI fun b c d e=>(ziF b c d e,[aS (.sl .int) (zji b c d e)])
def zBH (N:Nat)(a0:lM)(a1 a2 a3:Int):OA:=
 let y0:=(zeq a0); (oN (zfS a0) (oN (zsV a0 a1 a2) (cond (zp3 a0 a1 a2) (oN (zJ a3 0 99) (cond (zL a3 0 99) (oN (inb a1 (ln y0)) (oN (inb a2 (ln (ix y0 a1 []))) (share (up y0 a1 (up (ix y0 a1 []) a2 a3)) (fun x5=>(some [(aS (.sl .int) x5)]))))) (some [(aS (.sl .int) y0)]))) (some [(aS (.sl .int) y0)]))))
theorem zOT (a0:List (List Int))(a1 a2 a3:Int)(hc:ziF a0 a1 a2 a3=true):∃N,zBH N a0 a1 a2 a3=some [aS (.sl .int) (zji a0 a1 a2 a3)]:=by
 have hs:=zF.1 hc;have hm:=(zza a0 a1 a2).1
 refine ⟨0,?_⟩;unfold zBH oN
 conv=>zeta
 refine mu (must rfl (br (fun _=>must rfl (br (fun _=>mu (mu (shr ?_))) (fun _=>?_))) (fun _=>?_)))
 all_goals first|rfl|(simp only [*,zji,zbv,cT,cF]<;>rfl)|simp_all[Ty.cells,zji,zbv]
theorem zH9:vJ 268 zx4:=kF4 zfB zk zl zo (zq []) zOT
@[simp] abbrev zkw (m:List (List Int))(p c v:Int):Bool:=pc (SmM m)
@[simp] abbrev zln (m:List (List Int))(p c v:Int):List (List Int):=zbv m p c v
def zxG:Run:=rF4 (dS (.sl .int)) dI dI dI fun b c d e=>(zkw b c d e,[aS (.sl .int) (zln b c d e)])
def zBi (N:Nat)(a0:lM)(a1 a2 a3:Int):OA:=
 let y0:=(aS (.sl .int) (zdo a0)); (oN (zfP a0) (oN (zcm a1 (ln a0)) (cond (zcO a1 (ln a0)) (oN (inb a1 (ln a0)) (oN (zcm a2 (ln (ix a0 a1 []))) (cond (zcO a2 (ln (ix a0 a1 []))) (oN (zbD a3 0 99) (cond (zbR a3 0 99) (oN (inb a1 (ln (zdo a0))) (oN (inb a2 (ln (ix (zdo a0) a1 []))) (share (up (zdo a0) a1 (up (ix (zdo a0) a1 []) a2 a3)) (fun x5=>(some [(aS (.sl .int) x5)]))))) (some [y0]))) (some [y0])))) (some [y0]))))
theorem zOs (a0:List (List Int))(a1 a2 a3:Int)(hc:zkw a0 a1 a2 a3=true):∃N,zBi N a0 a1 a2 a3=some [aS (.sl .int) (zln a0 a1 a2 a3)]:=by
 have hs:=zF.1 hc;refine ⟨0,?_⟩;unfold zBi oN
 conv=>zeta
 refine mu (must rfl (br (fun _=>mu (must rfl (br (fun _=>must rfl (br (fun _=>mu (mu (shr ?_))) (fun _=>?_))) (fun _=>?_)))) (fun _=>?_)))
 all_goals first|rfl|(simp only [*,zln,zbv,zfv,cT,cF]<;>rfl)|simp_all[Ty.cells,zln,zbv,zfv]
theorem zHK:vJ 58 zxG:=kF4 zfB zk zl zo (zq []) zOs
def zfL (g:Guest):Bool:=bif canRun g then (cond g.Ctl.Open (ige (zde g.Pending) 0) false) else false
@[simp] abbrev zo7 (g:Guest):Bool:=true
@[simp] abbrev zlO (g:Guest):Bool:=zfL g
def zx3:Run:=rF1 (dT .guest) fun b=>(zo7 b,[aB (zlO b)])
def zBG (N:Nat)(a0:Guest):OA:=
 (oN (zsL a0) (cond (zpU a0) (cond a0.Ctl.Open (oN (zsU a0.Pending) (some [(aB (ige (zno a0.Pending) 0))])) oF) oF))
theorem zOS (a0:Guest)(hc:zo7 a0=true):∃N,zBG N a0=some [aB (zlO a0)]:=by
 refine ⟨0,?_⟩;unfold zBG oN;refine must rfl (br (fun _=>br (fun _=>must rfl ?_) (fun _=>?_)) (fun _=>?_))
 all_goals first|rfl|(simp only [*,zlO,zfL,cT,cF]<;>rfl)|simp_all[Ty.cells,zlO,zfL]
theorem zH8:vJ 293 zx3:=kF1 zfB zk zl zo (zq []) zOS
@[simp] abbrev zoq (g:Guest):Bool:=true
@[simp] abbrev zlm (g:Guest):Bool:=zfL g
def zxF:Run:=rF1 (dT .guest) fun b=>(zoq b,[aB (zlm b)])
def zBh (N:Nat)(a0:Guest):OA:=
 (oN (zsz a0) (cond (zpw a0) (cond a0.Ctl.Open (oN (zsD a0.Pending) (some [(aB (ige (zna a0.Pending) 0))])) oF) oF))
theorem zOr (a0:Guest)(hc:zoq a0=true):∃N,zBh N a0=some [aB (zlm a0)]:=by
 refine ⟨0,?_⟩;unfold zBh oN;refine must rfl (br (fun _=>br (fun _=>must rfl ?_) (fun _=>?_)) (fun _=>?_))
 all_goals first|rfl|(simp only [*,zlm,zfL,cT,cF]<;>rfl)|simp_all[Ty.cells,zlm,zfL]
theorem zHJ:vJ 117 zxF:=kF1 zfB zk zl zo (zq []) zOr
def zgW (p:Int):Int:=bif ilt (zde p) 0 then p else wsub .i64 p (zk1 .i64 1 (zde p))
def zml (p:Int):Int:=bif ilt (zde p) 0 then -1 else zde p
theorem zQ1 {p:Int}(h:ilt (zde p) 0=false):wcv .u64 (zde p)=zde p/\ile 0 (zde p)=true/\zzE .i64 p (zk1 .i64 1 (zde p))=wsub .i64 p (zk1 .i64 1 (zde p)):=by
 unfold zde at *;cases h1:zcR p
 .rw [h1]at h;cases h
 .simp only [h1,cT]at h ⊢;obtain ⟨h0,h2⟩:=zfh.1 h1;have r:=zCE (P:=fun x=>-1<=scan x/\scan x<=7/\(0<=scan x->wsub .i64 x (zk1 .i64 1 (scan x))=zzE .i64 x (zk1 .i64 1 (scan x)))) zVQ h0 h2;have h3:0<=scan p:=by
   unfold ilt at h;have:=jT h;omega
  exact ⟨zPE h3 (by omega),qJ h3,(r.2.2 h3).symm⟩
@[simp] abbrev zqU (p:Int):Bool:=true
@[simp] abbrev zjX (p:Int):Int:=zgW p
@[simp] abbrev zjY (p:Int):Int:=zml p
@[simp] abbrev zmE (p:Int):Bool:=!ilt (zde p) 0
def zAC:Run:=rF1 dI fun b=>(zqU b,[aI (zjX b),aI (zjY b),aB (zmE b)])
def zF5 (N:Nat)(a0:Int):OA:=
 (oN (zsU a0) (cond (ilt (zno a0) 0) (some [(aI a0),(aI (-1)),(aB false)]) (oN (ile 0 (wcv .u64 (zno a0))) (some [(aI (wsub .i64 a0 (zk1 .i64 1 (wcv .u64 (zno a0))))),(aI (zno a0)),(aB true)]))))
theorem zR9 (a0:Int)(hc:zqU a0=true):∃N,zF5 N a0=some [aI (zjX a0),aI (zjY a0),aB (zmE a0)]:=by
 have ht:=@zQ1 a0;refine ⟨0,?_⟩;unfold zF5 oN;refine must rfl (br (fun _=>?_) (fun _=>mu ?_))
 all_goals first|rfl|(simp only [*,zjX,zjY,zmE,zgW,zml,cT,cF]<;>rfl)|simp_all[Ty.cells,zjX,zjY,zmE,zgW,zml]
theorem zK9:vJ 295 zAC:=kF1 zfB zk zl zo (zq []) zR9
@[simp] abbrev zwo (p:Int):Bool:=true
@[simp] abbrev zmi (p:Int):Int:=zgW p
@[simp] abbrev zmj (p:Int):Int:=zml p
@[simp] abbrev zqo (p:Int):Bool:=!ilt (zde p) 0
def zAg:Run:=rF1 dI fun b=>(zwo b,[aI (zmi b),aI (zmj b),aB (zqo b)])
def zFG (N:Nat)(a0:Int):OA:=
 (oN (zsD a0) (cond (ilt (zna a0) 0) (some [(aI a0),(aI (-1)),(aB false)]) (oN (ile 0 (zna a0)) (some [(aI (zzE .i64 a0 (zk1 .i64 1 (zna a0)))),(aI (zna a0)),(aB true)]))))
theorem zRJ (a0:Int)(hc:zwo a0=true):∃N,zFG N a0=some [aI (zmi a0),aI (zmj a0),aB (zqo a0)]:=by
 have ht:=@zQ1 a0;refine ⟨0,?_⟩;unfold zFG oN;refine must rfl (br (fun _=>?_) (fun _=>mu ?_))
 all_goals first|rfl|(simp only [*,zmi,zmj,zqo,zgW,zml,cT,cF]<;>rfl)|simp_all[Ty.cells,zmi,zmj,zqo,zgW,zml]
theorem zKM:vJ 176 zAg:=kF1 zfB zk zl zo (zq []) zRJ
def saw (g:Guest)(n:Int):Guest:=bif ilt (ln g.Seen) 40 then { g with Seen:=ap g.Seen [n] } else g
@[simp] theorem zEB {g:Guest}(n:Int)(h:SmG g):SmG (saw g n):=by
 unfold saw;cases h1:ilt (ln g.Seen) 40
 .exact h
 .have:=qE h1;refine ⟨h.1,h.2.1,h.2.2.1,?_⟩;simp[ln] at *;omega
@[simp] abbrev zEy (g:Guest)(n:Int):Bool:=pc (SmG g)
@[simp] abbrev zzq (g:Guest)(n:Int):Guest:=saw g n
def zQU:Run:=rF2 (dT .guest) dI fun b c=>(zEy b c,[aT .guest (zzq b c)])
def zYc (N:Nat)(a0:Guest)(a1:Int):OA:=
 (oN (zdh a0) (cond (ilt (ln (zcS a0).Seen) 40) (oN (few (ln (ap (zcS a0).Seen [a1]))) (some [(aT .guest ({ (zcS a0) with Seen:=(ap (zcS a0).Seen [a1]) }:Guest))])) (some [(aT .guest (zcS a0))])))
theorem z2p (a0:Guest)(a1:Int)(hc:zEy a0 a1=true):∃N,zYc N a0 a1=some [aT .guest (zzq a0 a1)]:=by
 have hs:=zF.1 hc;have hz:a0.Seen.length<=1048576:=hs.2.2.2
 refine ⟨0,?_⟩;unfold zYc oN;refine mu (br (fun _=>mu ?_) (fun _=>?_))
 all_goals first|rfl|(simp only [*,zzq,saw,cT,cF]<;>rfl)|simp_all[Ty.cells,zzq,saw]
theorem zW0:vJ 296 zQU:=kF2 zfB zk zl zo (zq []) z2p
@[simp] abbrev zEp (g:Guest)(n:Int):Bool:=pc (SmG g)
@[simp] abbrev zyU (g:Guest)(n:Int):Guest:=saw g n
def zQQ:Run:=rF2 (dT .guest) dI fun b c=>(zEp b c,[aT .guest (zyU b c)])
def zX8 (N:Nat)(a0:Guest)(a1:Int):OA:=
 (oN (zdu a0) (cond (ilt (ln a0.Seen) 40) (oN (few (ln (ap (zcl a0).Seen [a1]))) (some [(aT .guest ({ (zcl a0) with Seen:=(ap (zcl a0).Seen [a1]) }:Guest))])) (some [(aT .guest (zcl a0))])))
theorem z2k (a0:Guest)(a1:Int)(hc:zEp a0 a1=true):∃N,zX8 N a0 a1=some [aT .guest (zyU a0 a1)]:=by
 have hs:=zF.1 hc;have hz:a0.Seen.length<=1048576:=hs.2.2.2
 refine ⟨0,?_⟩;unfold zX8 oN;refine mu (br (fun _=>mu ?_) (fun _=>?_))
 all_goals first|rfl|(simp only [*,zyU,saw,cT,cF]<;>rfl)|simp_all[Ty.cells,zyU,saw]
theorem zWW:vJ 121 zQQ:=kF2 zfB zk zl zo (zq []) z2k
def stopped (g:Guest)(e:GExit):Guest:={ g with Exit:=e }
@[simp] theorem z92 {g:Guest}(e:GExit)(h:SmG g):SmG (stopped g e):=h
@[simp] abbrev zd6 (g:Guest)(e:GExit):Bool:=pc (SmG g)
@[simp] abbrev zdG (g:Guest)(e:GExit):Guest:=stopped g e
def zAA:Run:=rF2 (dT .guest) dE fun b c=>(zd6 b c,[aT .guest (zdG b c)])
def zF3 (N:Nat)(a0:Guest)(a1:GExit):OA:=
 (oN (zdh a0) (some [(aT .guest ({ (zcS a0) with Exit:=a1 }:Guest))]))
theorem zR7 (a0:Guest)(a1:GExit)(hc:zd6 a0 a1=true):∃N,zF3 N a0 a1=some [aT .guest (zdG a0 a1)]:=by
 have hs:=zF.1 hc;refine ⟨0,?_⟩;unfold zF3 oN;refine mu ?_
 first|rfl|(simp only [*,zdG,stopped,cT,cF]<;>rfl)|simp_all[Ty.cells,zdG,stopped]
theorem zK7:vJ 300 zAA:=kF2 zfB zk zl zo (zq []) zR7
@[simp] abbrev zfO (g:Guest)(e:GExit):Bool:=pc (SmG g)
@[simp] abbrev zf6 (g:Guest)(e:GExit):Guest:=stopped g e
def zAe:Run:=rF2 (dT .guest) dE fun b c=>(zfO b c,[aT .guest (zf6 b c)])
def zFE (N:Nat)(a0:Guest)(a1:GExit):OA:=
 (oN (zdu a0) (some [(aT .guest ({ (zcl a0) with Exit:=a1 }:Guest))]))
theorem zRH (a0:Guest)(a1:GExit)(hc:zfO a0 a1=true):∃N,zFE N a0 a1=some [aT .guest (zf6 a0 a1)]:=by
 have hs:=zF.1 hc;refine ⟨0,?_⟩;unfold zFE oN;refine mu ?_
 first|rfl|(simp only [*,zf6,stopped,cT,cF]<;>rfl)|simp_all[Ty.cells,zf6,stopped]
theorem zKK:vJ 56 zAe:=kF2 zfB zk zl zo (zq []) zRH
def zbH (g:Guest):Guest:=bif ige g.Pc 12 then { g with Pc:=12 } else { g with Pc:=zI .i64 g.Pc 1 }
@[simp] theorem zkY {g:Guest}(h:SmG g):SmG (zbH g):=by
 unfold zbH;cases ige g.Pc 12<;>exact h
@[simp] abbrev zd2 (g:Guest):Bool:=pc (SmG g)
@[simp] abbrev zgk (g:Guest):Guest:=zbH g
def zGP:Run:=rF1 (dT .guest) fun b=>(zd2 b,[aT .guest (zgk b)])
def zP0 (N:Nat)(a0:Guest):OA:=
 (oN (zdh a0) (cond (ige (zcS a0).Pc 12) (some [(aT .guest ({ (zcS a0) with Pc:=12 }:Guest))]) (some [(aT .guest ({ (zcS a0) with Pc:=(zI .i64 (zcS a0).Pc 1) }:Guest))])))
theorem zXk (a0:Guest)(hc:zd2 a0=true):∃N,zP0 N a0=some [aT .guest (zgk a0)]:=by
 have hs:=zF.1 hc;refine ⟨0,?_⟩;unfold zP0 oN;refine mu (br (fun _=>?_) (fun _=>?_))
 all_goals first|rfl|(simp only [*,zgk,zbH,cT,cF]<;>rfl)|simp_all[Ty.cells,zgk,zbH]
theorem zRq:vJ 297 zGP:=kF1 zfB zk zl zo (zq []) zXk
@[simp] abbrev zep (g:Guest):Bool:=pc (SmG g)
@[simp] abbrev zd9 (g:Guest):Guest:=zbH g
def zGE:Run:=rF1 (dT .guest) fun b=>(zep b,[aT .guest (zd9 b)])
def zPO (N:Nat)(a0:Guest):OA:=
 (oN (zdu a0) (cond (ige a0.Pc 12) (some [(aT .guest ({ (zcl a0) with Pc:=12 }:Guest))]) (some [(aT .guest ({ (zcl a0) with Pc:=(zI .i64 a0.Pc 1) }:Guest))])))
theorem zW7 (a0:Guest)(hc:zep a0=true):∃N,zPO N a0=some [aT .guest (zd9 a0)]:=by
 have hs:=zF.1 hc;refine ⟨0,?_⟩;unfold zPO oN;refine mu (br (fun _=>?_) (fun _=>?_))
 all_goals first|rfl|(simp only [*,zd9,zbH,cT,cF]<;>rfl)|simp_all[Ty.cells,zd9,zbH]
theorem zRe:vJ 120 zGE:=kF1 zfB zk zl zo (zq []) zW7
def z6B:zO:=[(268,zx4),(58,zxG),(293,zx3),(117,zxF),(295,zAC),(176,zAg),(296,zQU),(121,zQQ),(300,zAA),(56,zAe),(297,zGP),(120,zGE)]++z6A
theorem zek:zG z6B:=zh zH9 (zh zHK (zh zH8 (zh zHJ (zh zK9 (zh zKM (zh zW0 (zh zWW (zh zK7 (zh zKK (zh zRq (zh zRe zfB)))))))))))
def interrupted (g:Guest):Guest:=bif zfL g then saw { g with Pending:=zgW g.Pending } (zI .i64 100 (zml g.Pending)) else g
@[simp] theorem zYQ {g:Guest}(h:SmG g):SmG (interrupted g):=by
 unfold interrupted;cases zfL g
 .exact h
 .exact zEB (g:={ g with Pending:=zgW g.Pending }) _ h
@[simp] abbrev zo1 (g:Guest):Bool:=pc (SmG g)
@[simp] abbrev zjz (g:Guest):Guest:=interrupted g
def zsr:Run:=rF1 (dT .guest) fun b=>(zo1 b,[aT .guest (zjz b)])
def zuQ (N:Nat)(a0:Guest):OA:=
 let y1:=(zI .i64 100 (zjY a0.Pending));let y0:=({ a0 with Pending:=(zjX a0.Pending) }:Guest); (oN (zo7 a0) (cond (nB (zlO a0)) (oN (zdh a0) (some [(aT .guest (zcS a0))])) (oN (zqU a0.Pending) (oN (zEy y0 y1) (some [(aT .guest (zzq y0 y1))])))))
theorem zFk (a0:Guest)(hc:zo1 a0=true):∃N,zuQ N a0=some [aT .guest (zjz a0)]:=by
 have hs:=zF.1 hc;have hz:_/\_/\_/\_:=hs
 refine ⟨0,?_⟩;unfold zuQ oN nB
 conv=>zeta
 refine must rfl (brN (fun _=>mu ?_) (fun _=>must rfl (mu ?_)))
 all_goals first|rfl|(simp only [*,zjz,interrupted,cT,cF]<;>rfl)|simp_all[Ty.cells,zjz,interrupted]
theorem zA6:vJ 253 zsr:=kF1 zek zk zl zo (zq []) zFk
@[simp] abbrev zoi (g:Guest):Bool:=pc (SmG g)
@[simp] abbrev zhv (g:Guest):Guest:=interrupted g
def zso:Run:=rF1 (dT .guest) fun b=>(zoi b,[aT .guest (zhv b)])
def zuF (N:Nat)(a0:Guest):OA:=
 let y1:=(zI .i64 100 (zmj a0.Pending));let y0:=({ a0 with Pending:=(zmi a0.Pending) }:Guest); (oN (zoq a0) (cond (nB (zlm a0)) (oN (zdu a0) (some [(aT .guest (zcl a0))])) (oN (zwo a0.Pending) (oN (zEp y0 y1) (some [(aT .guest (zyU y0 y1))])))))
theorem zE9 (a0:Guest)(hc:zoi a0=true):∃N,zuF N a0=some [aT .guest (zhv a0)]:=by
 have hs:=zF.1 hc;have hz:_/\_/\_/\_:=hs
 refine ⟨0,?_⟩;unfold zuF oN nB
 conv=>zeta
 refine must rfl (brN (fun _=>mu ?_) (fun _=>must rfl (mu ?_)))
 all_goals first|rfl|(simp only [*,zhv,interrupted,cT,cF]<;>rfl)|simp_all[Ty.cells,zhv,interrupted]
theorem zAW:vJ 130 zso:=kF1 zek zk zl zo (zq []) zE9
def zro (o:Int):Int:=bif ieq o 3 then 3 else (cond (ieq o 4) 4 (cond (ieq o 5) 5 (cond (ieq o 6) 6 (cond (ieq o 7) 7 2))))
def zC (g:Guest):Int:=bif canRun g then (cond (zfL g) 1 (zro (zbW g.Prog g.Pc).Op)) else 0
@[simp] abbrev zeD (g:Guest):Bool:=true
@[simp] abbrev znp (g:Guest):Int:=zC g
def zDA:Run:=rF1 (dT .guest) fun b=>(zeD b,[aI (znp b)])
def zJU (N:Nat)(a0:Guest):OA:=
 let y0:=(zfJ a0.Prog a0.Pc).Op; (oN (zsL a0) (cond (nB (zpU a0)) (some [(aI 0)]) (oN (zo7 a0) (cond (zlO a0) (some [(aI 1)]) (oN (zfo a0.Prog a0.Pc) (cond (ieq y0 3) (some [(aI 3)]) (cond (ieq y0 4) (some [(aI 4)]) (cond (ieq y0 5) (some [(aI 5)]) (cond (ieq y0 6) (some [(aI 6)]) (cond (ieq y0 7) (some [(aI 7)]) (some [(aI 2)])))))))))))
theorem zUX (a0:Guest)(hc:zeD a0=true):∃N,zJU N a0=some [aI (znp a0)]:=by
 refine ⟨0,?_⟩;unfold zJU oN nB
 conv=>zeta
 refine must rfl (brN (fun _=>?_) (fun _=>must rfl (br (fun _=>?_) (fun _=>must rfl (br (fun _=>?_) (fun _=>br (fun _=>?_) (fun _=>br (fun _=>?_) (fun _=>br (fun _=>?_) (fun _=>br (fun _=>?_) (fun _=>?_))))))))))
 all_goals first|rfl|(simp only [*,znp,zC,zro,cT,cF]<;>rfl)|simp_all[Ty.cells,znp,zC,zro]
theorem zb6:vJ 252 zDA:=kF1 zek zk zl zo (zq []) zUX
@[simp] abbrev zi8 (g:Guest):Bool:=true
@[simp] abbrev zhb (g:Guest):Int:=zC g
def zC9:Run:=rF1 (dT .guest) fun b=>(zi8 b,[aI (zhb b)])
def zJt (N:Nat)(a0:Guest):OA:=
 let y0:=(zgi a0.Prog a0.Pc).Op; (oN (zsz a0) (cond (nB (zpw a0)) (some [(aI 0)]) (oN (zoq a0) (cond (zlm a0) (some [(aI 1)]) (oN (zf5 a0.Prog a0.Pc) (cond (ieq y0 3) (some [(aI 3)]) (cond (ieq y0 4) (some [(aI 4)]) (cond (ieq y0 5) (some [(aI 5)]) (cond (ieq y0 6) (some [(aI 6)]) (cond (ieq y0 7) (some [(aI 7)]) (some [(aI 2)])))))))))))
theorem zUu (a0:Guest)(hc:zi8 a0=true):∃N,zJt N a0=some [aI (zhb a0)]:=by
 refine ⟨0,?_⟩;unfold zJt oN nB
 conv=>zeta
 refine must rfl (brN (fun _=>?_) (fun _=>must rfl (br (fun _=>?_) (fun _=>must rfl (br (fun _=>?_) (fun _=>br (fun _=>?_) (fun _=>br (fun _=>?_) (fun _=>br (fun _=>?_) (fun _=>br (fun _=>?_) (fun _=>?_))))))))))
 all_goals first|rfl|(simp only [*,zhb,zC,zro,cT,cF]<;>rfl)|simp_all[Ty.cells,zhb,zC,zro]
theorem zND:vJ 52 zC9:=kF1 zek zk zl zo (zq []) zUu
def held (g:Guest):Guest:=zbH { g with Halted:=true }
@[simp] theorem zVV {g:Guest}(h:SmG g):SmG (held g):=zkY (g:={ g with Halted:=true }) h
@[simp] abbrev znk (g:Guest):Bool:=pc (SmG g)
@[simp] abbrev zyc (g:Guest):Guest:=held g
def zMm:Run:=rF1 (dT .guest) fun b=>(znk b,[aT .guest (zyc b)])
def zS5 (N:Nat)(a0:Guest):OA:=
 let y0:=({ a0 with Halted:=true }:Guest); (oN (zd2 y0) (some [(aT .guest (zgk y0))]))
theorem zZ9 (a0:Guest)(hc:znk a0=true):∃N,zS5 N a0=some [aT .guest (zyc a0)]:=by
 have hs:=zF.1 hc;have hz:_/\_/\_/\_:=hs
 refine ⟨0,?_⟩;unfold zS5 oN
 conv=>zeta
 refine mu ?_
 first|rfl|(simp only [*,zyc,held,cT,cF]<;>rfl)|simp_all[Ty.cells,zyc,held]
theorem zTY:vJ 309 zMm:=kF1 zek zk zl zo (zq []) zZ9
@[simp] abbrev zm6 (g:Guest):Bool:=pc (SmG g)
@[simp] abbrev zmg (g:Guest):Guest:=held g
def zMj:Run:=rF1 (dT .guest) fun b=>(zm6 b,[aT .guest (zmg b)])
def zS1 (N:Nat)(a0:Guest):OA:=
 let y0:=({ a0 with Halted:=true }:Guest); (oN (zep y0) (some [(aT .guest (zd9 y0))]))
theorem zZ4 (a0:Guest)(hc:zm6 a0=true):∃N,zS1 N a0=some [aT .guest (zmg a0)]:=by
 have hs:=zF.1 hc;have hz:_/\_/\_/\_:=hs
 refine ⟨0,?_⟩;unfold zS1 oN
 conv=>zeta
 refine mu ?_
 first|rfl|(simp only [*,zmg,held,cT,cF]<;>rfl)|simp_all[Ty.cells,zmg,held]
theorem zTT:vJ 125 zMj:=kF1 zek zk zl zo (zq []) zZ4
@[simp] abbrev zzr (g:Guest):Bool:=pc (SmG g)
@[simp] abbrev zuu (g:Guest):Guest:=zbH g
def zDx:Run:=rF1 (dT .guest) fun b=>(zzr b,[aT .guest (zuu b)])
def zJR (N:Nat)(a0:Guest):OA:=
 (oN (zd2 a0) (some [(aT .guest (zgk a0))]))
theorem zUU (a0:Guest)(hc:zzr a0=true):∃N,zJR N a0=some [aT .guest (zuu a0)]:=by
 have hs:=zF.1 hc;refine ⟨0,?_⟩;unfold zJR oN;refine mu ?_
 first|rfl|(simp only [*,zuu,cT,cF]<;>rfl)|simp_all[Ty.cells,zuu]
theorem zN1:vJ 302 zDx:=kF1 zek zk zl zo (zq []) zUU
@[simp] abbrev zop (g:Guest):Bool:=pc (SmG g)
@[simp] abbrev zku (g:Guest):Guest:=zbH g
def zC6:Run:=rF1 (dT .guest) fun b=>(zop b,[aT .guest (zku b)])
def zJq (N:Nat)(a0:Guest):OA:=
 (oN (zep a0) (some [(aT .guest (zd9 a0))]))
theorem zUr (a0:Guest)(hc:zop a0=true):∃N,zJq N a0=some [aT .guest (zku a0)]:=by
 have hs:=zF.1 hc;refine ⟨0,?_⟩;unfold zJq oN;refine mu ?_
 first|rfl|(simp only [*,zku,cT,cF]<;>rfl)|simp_all[Ty.cells,zku]
theorem zNA:vJ 60 zC6:=kF1 zek zk zl zo (zq []) zUr
def loaded (g:Guest)(v:Int):Guest:=zbH (saw { g with A:=v } v)
@[simp] theorem zMz {g:Guest}(v:Int)(h:SmG g):SmG (loaded g v):=zkY (zEB (g:={ g with A:=v }) v h)
@[simp] abbrev zzl (g:Guest)(v:Int):Bool:=pc (SmG g)
@[simp] abbrev zur (g:Guest)(v:Int):Guest:=loaded g v
def zDl:Run:=rF2 (dT .guest) dI fun b c=>(zzl b c,[aT .guest (zur b c)])
def zJF (N:Nat)(a0:Guest)(a1:Int):OA:=
 let y0:=({ a0 with A:=a1 }:Guest); (oN (zEy y0 a1) (oN (zd2 (zzq y0 a1)) (some [(aT .guest (zgk (zzq y0 a1)))])))
theorem zUG (a0:Guest)(a1:Int)(hc:zzl a0 a1=true):∃N,zJF N a0 a1=some [aT .guest (zur a0 a1)]:=by
 have hs:=zF.1 hc;have hz:_/\_/\_/\_:=hs;have hk:SmG (saw { a0 with A:=a1 } a1):=zEB (g:={ a0 with A:=a1 }) a1 hs
 refine ⟨0,?_⟩;unfold zJF oN
 conv=>zeta
 refine mu (mu ?_)
 first|rfl|(simp only [*,zur,loaded,cT,cF]<;>rfl)|simp_all[Ty.cells,zur,loaded]
theorem zNP:vJ 303 zDl:=kF2 zek zk zl zo (zq []) zUG
@[simp] abbrev zoj (g:Guest)(v:Int):Bool:=pc (SmG g)
@[simp] abbrev zkr (g:Guest)(v:Int):Guest:=loaded g v
def zCT:Run:=rF2 (dT .guest) dI fun b c=>(zoj b c,[aT .guest (zkr b c)])
def zJe (N:Nat)(a0:Guest)(a1:Int):OA:=
 let y0:=({ a0 with A:=a1 }:Guest); (oN (zEp y0 a1) (oN (zep (zyU y0 a1)) (some [(aT .guest (zd9 (zyU y0 a1)))])))
theorem zUe (a0:Guest)(a1:Int)(hc:zoj a0 a1=true):∃N,zJe N a0 a1=some [aT .guest (zkr a0 a1)]:=by
 have hs:=zF.1 hc;have hz:_/\_/\_/\_:=hs;have hk:SmG (saw { a0 with A:=a1 } a1):=zEB (g:={ a0 with A:=a1 }) a1 hs
 refine ⟨0,?_⟩;unfold zJe oN
 conv=>zeta
 refine mu (mu ?_)
 first|rfl|(simp only [*,zkr,loaded,cT,cF]<;>rfl)|simp_all[Ty.cells,zkr,loaded]
theorem zNn:vJ 61 zCT:=kF2 zek zk zl zo (zq []) zUe
def zqa (g:Guest)(w:Int):Guest:=bif ieq w 5 then stopped g (ztk (zbW g.Prog g.Pc).X) else stopped g ⟨4,0,false,0⟩
@[simp] theorem z94 {g:Guest}(w:Int)(h:SmG g):SmG (zqa g w):=by
 unfold zqa;cases ieq w 5<;>exact h
@[simp] abbrev zmk (g:Guest)(w:Int):Bool:=pc (SmG g)
@[simp] abbrev ziP (g:Guest)(w:Int):Guest:=zqa g w
def zAj:Run:=rF2 (dT .guest) dI fun b c=>(zmk b c,[aT .guest (ziP b c)])
def zFJ (N:Nat)(a0:Guest)(a1:Int):OA:=
 let y0:=(zgi a0.Prog a0.Pc).X; (cond (ieq a1 5) (oN (zf5 a0.Prog a0.Pc) (oN (zwl y0) (oN (zfO a0 (znD y0)) (some [(aT .guest (zf6 a0 (znD y0)))])))) (oN (zfO a0 (⟨4,0,false,0⟩:GExit)) (some [(aT .guest (zf6 a0 (⟨4,0,false,0⟩:GExit)))])))
theorem zRM (a0:Guest)(a1:Int)(hc:zmk a0 a1=true):∃N,zFJ N a0 a1=some [aT .guest (ziP a0 a1)]:=by
 have hs:=zF.1 hc;refine ⟨0,?_⟩;unfold zFJ oN
 conv=>zeta
 refine br (fun _=>must rfl (must rfl (mu ?_))) (fun _=>mu ?_)
 all_goals first|rfl|(simp only [*,ziP,zqa,cT,cF]<;>rfl)|simp_all[Ty.cells,ziP,zqa]
theorem zKP:vJ 124 zAj:=kF2 zek zk zl zo (zq []) zRM
def zcV (g:Guest):Bool:=zc6 g.Prog&&(win g.A 0 99&&(win g.Pc 0 12&&(zcF g.Written 4 8&&(zcF g.Live 4 8&&(zhm g.Ctl&&(zcR g.Pending&&(zg9 g.Exit&&ile (ln g.Seen) 40)))))))
@[simp] abbrev zmz (g:Guest):Bool:=true
@[simp] abbrev zkL (g:Guest):Bool:=zcV g
def zAl:Run:=rF1 (dT .guest) fun b=>(zmz b,[aB (zkL b)])
def zFP (N:Nat)(a0:Guest):OA:=
 (oN (zzp a0.Prog) (cond (znm a0.Prog) (oN (zJ a0.A 0 99) (cond (zL a0.A 0 99) (oN (zJ a0.Pc 0 12) (cond (zL a0.Pc 0 12) (oN (zmD a0.Written 4 8) (cond (zhP a0.Written 4 8) (oN (zmD a0.Live 4 8) (cond (zhP a0.Live 4 8) (oN (zrt a0.Ctl) (cond (zpW a0.Ctl) (oN (ze9 a0.Pending) (cond (ze8 a0.Pending) (oN (zzk a0.Exit) (cond (zuk a0.Exit) (some [(aB (ile (ln a0.Seen) 40))]) oF)) oF)) oF)) oF)) oF)) oF)) oF)) oF))
theorem zRS (a0:Guest)(hc:zmz a0=true):∃N,zFP N a0=some [aB (zkL a0)]:=by
 refine ⟨0,?_⟩;unfold zFP oN;refine must rfl (br (fun _=>must rfl (br (fun _=>must rfl (br (fun _=>must rfl (br (fun _=>must rfl (br (fun _=>must rfl (br (fun _=>must rfl (br (fun _=>must rfl (br (fun _=>?_) (fun _=>?_))) (fun _=>?_))) (fun _=>?_))) (fun _=>?_))) (fun _=>?_))) (fun _=>?_))) (fun _=>?_))) (fun _=>?_))
 all_goals first|rfl|(simp only [*,zkL,zcV,cT,cF]<;>rfl)|simp_all[Ty.cells,zkL,zcV]
theorem zKR:vJ 214 zAl:=kF1 zek zk zl zo (zq []) zRS
@[simp] abbrev zmf (g:Guest):Bool:=true
@[simp] abbrev zkq (g:Guest):Bool:=zcV g
def zz9:Run:=rF1 (dT .guest) fun b=>(zmf b,[aB (zkq b)])
def zFz (N:Nat)(a0:Guest):OA:=
 (oN (zyT a0.Prog) (cond (zm9 a0.Prog) (oN (zbD a0.A 0 99) (cond (zbR a0.A 0 99) (oN (zbD a0.Pc 0 12) (cond (zbR a0.Pc 0 12) (oN (zmh a0.Written 4 8) (cond (zhJ a0.Written 4 8) (oN (zmh a0.Live 4 8) (cond (zhJ a0.Live 4 8) (oN (zCn a0.Ctl) (cond (zxn a0.Ctl) (oN (zi6 a0.Pending) (cond (zi5 a0.Pending) (oN (zyN a0.Exit) (cond (ztN a0.Exit) (some [(aB (ile (ln a0.Seen) 40))]) oF)) oF)) oF)) oF)) oF)) oF)) oF)) oF))
theorem zRC (a0:Guest)(hc:zmf a0=true):∃N,zFz N a0=some [aB (zkq a0)]:=by
 refine ⟨0,?_⟩;unfold zFz oN;refine must rfl (br (fun _=>must rfl (br (fun _=>must rfl (br (fun _=>must rfl (br (fun _=>must rfl (br (fun _=>must rfl (br (fun _=>must rfl (br (fun _=>must rfl (br (fun _=>?_) (fun _=>?_))) (fun _=>?_))) (fun _=>?_))) (fun _=>?_))) (fun _=>?_))) (fun _=>?_))) (fun _=>?_))) (fun _=>?_))
 all_goals first|rfl|(simp only [*,zkq,zcV,cT,cF]<;>rfl)|simp_all[Ty.cells,zkq,zcV]
theorem zKF:vJ 168 zz9:=kF1 zek zk zl zo (zq []) zRC
@[simp] abbrev zis (l:List Guest):Bool:=pc (zmY l)
@[simp] abbrev zir (l:List Guest):List Guest:=l
def zt4:Run:=rF1 (dS .guest) fun b=>(zis b,[aS .guest (zir b)])
def zwY (N:Nat)(a0:lG):OA:=
 (iter (σ:=(Int×(Int×(lG×(lG×Unit))))) N (fun r2 s3=>let y0:=(ix s3.2.2.2.1 s3.2.1 zi); (cond (ilt s3.2.1 s3.1) (oN (inb s3.2.1 (ln s3.2.2.2.1)) (oN (zdu y0) (oN (few (ln (ap s3.2.2.1 [(zcl y0)]))) (r2 (s3.1,((zI .i64 s3.2.1 1),((ap s3.2.2.1 [(zcl y0)]),(s3.2.2.2.1,())))))))) (some [(aS .guest s3.2.2.1)]))) ((ln a0),(0,([],(a0,())))))
def zIY:FuncId->Nat->Option Tmpl:=zq [(172,0,{ n:=20,tm:=[(3,.sl 0 []),(7,.sl 1 []),(8,ti),(9,ti)],lo:=[],ro:=[(0,.guest,true),(1,.guest,false)] })]
theorem zIp (a0:List Guest)(hc:zis a0=true):∃N,zwY N a0=some [aS .guest (zir a0)]:=by
 have hs:=zF.1 hc;have hl:=zcJ hs.1;refine zce fun N hNN=>?_;unfold zwY oN
 conv=>zeta
 refine (zbd a0 (fun i (t:lG)=>((ln a0),(i:Int),t,a0,())) _ (fun _ x acc κ=>bif zdu x then (cond (few (ln (ap acc [zcl x]))) (κ (ap acc [zcl x])) none) else none) (fun (t:lG)=>(some [(.one (.s .guest t))])) (fun i hi t rec=>?_) (fun t rec=>?_) _ ([]) (hNN hl.1)).trans ?_
 .simp only [zbx hi,zbb hi,zbg hi,zZ hi hl.1,cT]
 .simp only [zbp,cF]
 exact ziW zdu zcl _ a0 0 [] (fun x hx=>⟨by exact zU (hs.2 x hx),rfl⟩) (by simpa using hl.2)
theorem zCd:vJ 172 zt4:=kF1 zek zk zl zo zIY zIp
def gAt (b:Bare)(i:Int):Guest:=bif hasB i (ln b.Guests) then ix b.Guests i zi else Ty.dflt .guest
@[simp] theorem ziJ {b:Bare}(i:Int)(h:SmB b):SmG (gAt b i):=by
 unfold gAt;cases hh:hasB i (ln b.Guests)
 .exact zbaq
 .exact zVW h.2.1 hh _
@[simp] abbrev zwk (b:Bare)(i:Int):Bool:=pc (SmB b)
@[simp] abbrev zmd (b:Bare)(i:Int):Guest:=gAt b i
@[simp] abbrev zme (b:Bare)(i:Int):Bool:=hasB i (ln b.Guests)
def zz8:Run:=rF2 (dT .bare) dI fun b c=>(zwk b c,[aT .guest (zmd b c),aB (zme b c)])
def zFy (N:Nat)(a0:Bare)(a1:Int):OA:=
 let y0:=(ix a0.Guests a1 zi); (oN (zcm a1 (ln a0.Guests)) (cond (nB (zcO a1 (ln a0.Guests))) (some [(aT .guest (⟨[],0,0,[],[],⟨0,0,false⟩,0,⟨0,0,false,0⟩,false,[]⟩:Guest)),(aB false)]) (oN (inb a1 (ln a0.Guests)) (oN (zdu y0) (some [(aT .guest (zcl y0)),(aB true)])))))
theorem zRB (a0:Bare)(a1:Int)(hc:zwk a0 a1=true):∃N,zFy N a0 a1=some [aT .guest (zmd a0 a1),aB (zme a0 a1)]:=by
 have hs:=zF.1 hc;have hl:a0.Guests.length<=1048576:=hs.2.1.1;have hx:hasB a1 (ln a0.Guests)=true->SmG (ix a0.Guests a1 zi):=fun h=>zVW hs.2.1 h _
 refine ⟨0,?_⟩;unfold zFy oN nB
 conv=>zeta
 refine must rfl (brN (fun _=>?_) (fun _=>mu (mu ?_)))
 all_goals first|rfl|(simp only [*,zmd,zme,gAt,Ty.dflt,cT,cF]<;>rfl)|simp_all[Ty.cells,zmd,zme,gAt,Ty.dflt]
theorem zKE:vJ 126 zz8:=kF2 zek zk zl zo (zq []) zRB
def z6C:zO:=[(253,zsr),(130,zso),(252,zDA),(52,zC9),(309,zMm),(125,zMj),(302,zDx),(60,zC6),(303,zDl),(61,zCT),(124,zAj),(214,zAl),(168,zz9),(172,zt4),(126,zz8)]++z6B
theorem zhZ:zG z6C:=zh zA6 (zh zAW (zh zb6 (zh zND (zh zTY (zh zTT (zh zN1 (zh zNA (zh zNP (zh zNn (zh zKP (zh zKR (zh zKF (zh zCd (zh zKE zek))))))))))))))
def plainly (g:Guest):Guest:=bif ine (zC g) 2 then g else (cond (win g.A 0 99) (cond (win (zbW g.Prog g.Pc).X 0 99) (cond (ieq (zbW g.Prog g.Pc).Op 1) { zbH g with A:=(zbW g.Prog g.Pc).X } (cond (ieq (zbW g.Prog g.Pc).Op 2) { zbH g with A:=ziK (zI .i64 g.A (zbW g.Prog g.Pc).X) 100 } (cond (ieq (zbW g.Prog g.Pc).Op 8) (cond (ieq g.A 0) { zbH g with Pc:=(zbW g.Prog g.Pc).X } (zbH g)) (zbH g)))) (zbH g)) (zbH g))
@[simp] theorem zbaj (g:Guest):(zbH g).Prog=g.Prog:=by
 unfold zbH;cases ige g.Pc 12<;>rfl
@[simp] theorem zbaU (g:Guest):(zbH g).A=g.A:=by
 unfold zbH;cases ige g.Pc 12<;>rfl
@[simp] theorem z8X (g:Guest):(zbH g).Written=g.Written:=by
 unfold zbH;cases ige g.Pc 12<;>rfl
@[simp] theorem zbai (g:Guest):(zbH g).Live=g.Live:=by
 unfold zbH;cases ige g.Pc 12<;>rfl
@[simp] theorem zbay (g:Guest):(zbH g).Ctl=g.Ctl:=by
 unfold zbH;cases ige g.Pc 12<;>rfl
@[simp] theorem z8W (g:Guest):(zbH g).Pending=g.Pending:=by
 unfold zbH;cases ige g.Pc 12<;>rfl
@[simp] theorem zbah (g:Guest):(zbH g).Exit=g.Exit:=by
 unfold zbH;cases ige g.Pc 12<;>rfl
@[simp] theorem z9K (g:Guest):(zbH g).Halted=g.Halted:=by
 unfold zbH;cases ige g.Pc 12<;>rfl
@[simp] theorem zbak (g:Guest):(zbH g).Seen=g.Seen:=by
 unfold zbH;cases ige g.Pc 12<;>rfl
@[simp] theorem zbaz (g:Guest)(x:Int):(zbH { g with A:=x }).Pc=(zbH g).Pc:=by
 unfold zbH;cases ige g.Pc 12<;>rfl
@[simp] theorem zG1 {g:Guest}(h:SmG g):SmG (plainly g):=by
 have hm:=zkY h;unfold plainly;cases ine (zC g) 2
 .cases win g.A 0 99
  .exact hm
  .cases win (zbW g.Prog g.Pc).X 0 99
   .exact hm
   .cases ieq (zbW g.Prog g.Pc).Op 1
    .cases ieq (zbW g.Prog g.Pc).Op 2
     .cases ieq (zbW g.Prog g.Pc).Op 8
      .exact hm
      .cases ieq g.A 0<;>exact hm
     .exact hm
    .exact hm
 .exact h
@[simp] abbrev zwn (g:Guest):Bool:=pc (SmG g)
@[simp] abbrev znF (g:Guest):Guest:=plainly g
def zAd:Run:=rF1 (dT .guest) fun b=>(zwn b,[aT .guest (znF b)])
def zFD (N:Nat)(a0:Guest):OA:=
 let y1:=(aT .guest (zd9 a0));let y0:=(zgi a0.Prog a0.Pc); (oN (zi8 a0) (cond (ine (zhb a0) 2) (oN (zdu a0) (some [(aT .guest (zcl a0))])) (oN (zf5 a0.Prog a0.Pc) (oN (zep a0) (oN (zbD a0.A 0 99) (cond (nB (zbR a0.A 0 99)) (some [y1]) (oN (zbD y0.X 0 99) (cond (nB (zbR y0.X 0 99)) (some [y1]) (cond (ieq y0.Op 1) (some [(aT .guest ({ (zd9 a0) with A:=y0.X }:Guest))]) (cond (ieq y0.Op 2) (oN (ine 100 0) (some [(aT .guest ({ (zd9 a0) with A:=(ziK (zI .i64 a0.A y0.X) 100) }:Guest))])) (cond (ieq y0.Op 8) (cond (ieq a0.A 0) (some [(aT .guest ({ (zd9 a0) with Pc:=y0.X }:Guest))]) (some [y1])) (some [y1]))))))))))))
theorem zRG (a0:Guest)(hc:zwn a0=true):∃N,zFD N a0=some [aT .guest (znF a0)]:=by
 have hs:=zF.1 hc;refine ⟨0,?_⟩;unfold zFD oN nB
 conv=>zeta
 refine must rfl (br (fun _=>mu ?_) (fun _=>must rfl (mu (must rfl (brN (fun _=>?_) (fun _=>must rfl (brN (fun _=>?_) (fun _=>br (fun _=>?_) (fun _=>br (fun _=>must rfl ?_) (fun _=>br (fun _=>br (fun _=>?_) (fun _=>?_)) (fun _=>?_)))))))))))
 all_goals first|rfl|(simp only [*,znF,plainly,cT,cF]<;>rfl)|simp_all[Ty.cells,znF,plainly]
theorem zKJ:vJ 131 zAd:=kF1 zhZ zk zl zo (zq []) zRG
@[simp] abbrev zwJ (g:Guest):Bool:=pc (SmG g)
@[simp] abbrev zrz (g:Guest):Guest:=plainly g
def zAy:Run:=rF1 (dT .guest) fun b=>(zwJ b,[aT .guest (zrz b)])
def zF1 (N:Nat)(a0:Guest):OA:=
 let y7:=(ieq a0.A 0);let y5:=(zd2 a0);let y1:=(aT .guest (zgk a0));let y0:=(zfJ a0.Prog a0.Pc);let y8:=({ a0 with A:=y0.X }:Guest);let y6:=(ieq y0.Op 8);let y4:=(zL y0.X 0 99);let y3:=(aT .guest ({ (zcS a0) with Pc:=y0.X }:Guest));let y2:=({ a0 with A:=(ziK (zI .i64 a0.A y0.X) 100) }:Guest); (oN (zeD a0) (cond (ine (znp a0) 2) (oN (zdh a0) (some [(aT .guest (zcS a0))])) (oN (zfo a0.Prog a0.Pc) (oN (zJ a0.A 0 99) (cond (zL a0.A 0 99) (oN (zJ y0.X 0 99) (cond y4 (cond (ieq y0.Op 1) (oN (zd2 y8) (some [(aT .guest (zgk y8))])) (cond y4 (cond (ieq y0.Op 2) (oN (ine 100 0) (oN (zd2 y2) (some [(aT .guest (zgk y2))]))) (cond y4 (cond y6 (cond y7 (oN (zdh a0) (some [y3])) (oN y5 (some [y1]))) (oN y5 (some [y1]))) (oN y5 (some [y1])))) (cond y4 (cond y6 (cond y7 (oN (zdh a0) (some [y3])) (oN y5 (some [y1]))) (oN y5 (some [y1]))) (oN y5 (some [y1]))))) (cond y4 (cond (ieq y0.Op 2) (oN (ine 100 0) (oN (zd2 y2) (some [(aT .guest (zgk y2))]))) (cond y4 (cond y6 (cond y7 (oN (zdh a0) (some [y3])) (oN y5 (some [y1]))) (oN y5 (some [y1]))) (oN y5 (some [y1])))) (cond y4 (cond y6 (cond y7 (oN (zdh a0) (some [y3])) (oN y5 (some [y1]))) (oN y5 (some [y1]))) (oN y5 (some [y1])))))) (oN y5 (some [y1])))))))
theorem zR5 (a0:Guest)(hc:zwJ a0=true):∃N,zF1 N a0=some [aT .guest (zrz a0)]:=by
 have hs:=zF.1 hc;have hz:_/\_/\_/\_:=hs
 refine ⟨0,?_⟩;unfold zF1 oN
 conv=>zeta
 refine must rfl (br (fun _=>mu ?_) (fun _=>must rfl (must rfl (br (fun _=>must rfl (br (fun _=>br (fun _=>mu ?_) (fun _=>br (fun _=>br (fun _=>must rfl (mu ?_)) (fun _=>br (fun _=>br (fun _=>br (fun _=>mu ?_) (fun _=>mu ?_)) (fun _=>mu ?_)) (fun _=>mu ?_))) (fun _=>br (fun _=>br (fun _=>br (fun _=>mu ?_) (fun _=>mu ?_)) (fun _=>mu ?_)) (fun _=>mu ?_)))) (fun _=>br (fun _=>br (fun _=>must rfl (mu ?_)) (fun _=>br (fun _=>br (fun _=>br (fun _=>mu ?_) (fun _=>mu ?_)) (fun _=>mu ?_)) (fun _=>mu ?_))) (fun _=>br (fun _=>br (fun _=>br (fun _=>mu ?_) (fun _=>mu ?_)) (fun _=>mu ?_)) (fun _=>mu ?_))))) (fun _=>mu ?_)))))
 all_goals first|rfl|(simp only [*,zrz,plainly,cT,cF]<;>rfl)|simp_all[Ty.cells,zrz,plainly]
theorem zK5:vJ 254 zAy:=kF1 zhZ zk zl zo (zq []) zR5
def address (g:Guest):Int:=bif ine (zC g) 3 then (cond (ine (zC g) 4) (-1) ((zbW g.Prog g.Pc).X)) else (zbW g.Prog g.Pc).X
@[simp] abbrev zqB (g:Guest):Bool:=true
@[simp] abbrev ziR (g:Guest):Int:=address g
def zAk:Run:=rF1 (dT .guest) fun b=>(zqB b,[aI (ziR b)])
def zFK (N:Nat)(a0:Guest):OA:=
 (oN (zeD a0) (cond (ine (znp a0) 3) (cond (ine (znp a0) 4) (some [(aI (-1))]) (oN (zfo a0.Prog a0.Pc) (some [(aI (zfJ a0.Prog a0.Pc).X)]))) (oN (zfo a0.Prog a0.Pc) (some [(aI (zfJ a0.Prog a0.Pc).X)]))))
theorem zRN (a0:Guest)(hc:zqB a0=true):∃N,zFK N a0=some [aI (ziR a0)]:=by
 refine ⟨0,?_⟩;unfold zFK oN;refine must rfl (br (fun _=>br (fun _=>?_) (fun _=>must rfl ?_)) (fun _=>must rfl ?_))
 all_goals first|rfl|(simp only [*,ziR,address,cT,cF]<;>rfl)|simp_all[Ty.cells,ziR,address]
theorem zKQ:vJ 298 zAk:=kF1 zhZ zk zl zo (zq []) zRN
@[simp] abbrev zqm (g:Guest):Bool:=true
@[simp] abbrev zkp (g:Guest):Int:=address g
def zz7:Run:=rF1 (dT .guest) fun b=>(zqm b,[aI (zkp b)])
def zFx (N:Nat)(a0:Guest):OA:=
 (oN (zi8 a0) (cond (ine (zhb a0) 3) (cond (ine (zhb a0) 4) (some [(aI (-1))]) (oN (zf5 a0.Prog a0.Pc) (some [(aI (zgi a0.Prog a0.Pc).X)]))) (oN (zf5 a0.Prog a0.Pc) (some [(aI (zgi a0.Prog a0.Pc).X)]))))
theorem zRA (a0:Guest)(hc:zqm a0=true):∃N,zFx N a0=some [aI (zkp a0)]:=by
 refine ⟨0,?_⟩;unfold zFx oN;refine must rfl (br (fun _=>br (fun _=>?_) (fun _=>must rfl ?_)) (fun _=>must rfl ?_))
 all_goals first|rfl|(simp only [*,zkp,address,cT,cF]<;>rfl)|simp_all[Ty.cells,zkp,address]
theorem zKD:vJ 53 zz7:=kF1 zhZ zk zl zo (zq []) zRA
def zeP (g:Guest)(t w:Int):Guest:=bif ieq w 6 then stopped g (zpn (zbW g.Prog g.Pc).X) else (cond (ieq w 5&&zcL t 1) (stopped g (ztk (zbW g.Prog g.Pc).X)) (cond (ieq w 7&&zcL t 2) (stopped g ⟨4,0,false,0⟩) (cond (ieq w 7) (held g) (zbH g))))
def zfg (t w:Int):Bool:=bif ieq w 6 then false else (cond (ieq w 5&&zcL t 1) false (cond (ieq w 7&&zcL t 2) false true))
@[simp] theorem zDV {g:Guest}(t w:Int)(h:SmG g):SmG (zeP g t w):=by
 unfold zeP;cases ieq w 6
 .cases (ieq w 5&&zcL t 1)
  .cases (ieq w 7&&zcL t 2)
   .cases ieq w 7
    .exact zkY h
    .exact zVV h
   .exact h
  .exact h
 .exact h
@[simp] abbrev zdP (g:Guest)(t w:Int):Bool:=pc (SmG g)
@[simp] abbrev zb4 (g:Guest)(t w:Int):Guest:=zeP g t w
@[simp] abbrev zdi (g:Guest)(t w:Int):Bool:=zfg t w
def zAH:Run:=rF3 (dT .guest) dI dI fun b c d=>(zdP b c d,[aT .guest (zb4 b c d),aB (zdi b c d)])
def zGa (N:Nat)(a0:Guest)(a1 a2:Int):OA:=
 let y3:=(aT .guest (zgk a0));let y2:=(aT .guest (zyc a0));let y1:=(⟨4,0,false,0⟩:GExit);let y0:=(zfJ a0.Prog a0.Pc).X; (oN (zfo a0.Prog a0.Pc) (cond (ieq a2 6) (oN (zuj y0) (oN (zd6 a0 (zlC y0)) (some [(aT .guest (zdG a0 (zlC y0))),(aB false)]))) (cond (ieq a2 5) (oN (zh8 a1 1) (cond (zhN a1 1) (oN (zwH y0) (oN (zd6 a0 (znK y0)) (some [(aT .guest (zdG a0 (znK y0))),(aB false)]))) (cond (ieq a2 7) (oN (zh8 a1 2) (cond (zhN a1 2) (oN (zd6 a0 y1) (some [(aT .guest (zdG a0 y1)),(aB false)])) (cond (ieq a2 7) (oN (znk a0) (some [y2,(aB true)])) (oN (zd2 a0) (some [y3,(aB true)]))))) (cond (ieq a2 7) (oN (znk a0) (some [y2,(aB true)])) (oN (zd2 a0) (some [y3,(aB true)])))))) (cond (ieq a2 7) (oN (zh8 a1 2) (cond (zhN a1 2) (oN (zd6 a0 y1) (some [(aT .guest (zdG a0 y1)),(aB false)])) (cond (ieq a2 7) (oN (znk a0) (some [y2,(aB true)])) (oN (zd2 a0) (some [y3,(aB true)]))))) (cond (ieq a2 7) (oN (znk a0) (some [y2,(aB true)])) (oN (zd2 a0) (some [y3,(aB true)])))))))
theorem zSh (a0:Guest)(a1 a2:Int)(hc:zdP a0 a1 a2=true):∃N,zGa N a0 a1 a2=some [aT .guest (zb4 a0 a1 a2),aB (zdi a0 a1 a2)]:=by
 have hs:=zF.1 hc;refine ⟨0,?_⟩;unfold zGa oN
 conv=>zeta
 refine must rfl (br (fun _=>must rfl (mu ?_)) (fun _=>br (fun _=>must rfl (br (fun _=>must rfl (mu ?_)) (fun _=>br (fun _=>must rfl (br (fun _=>mu ?_) (fun _=>br (fun _=>mu ?_) (fun _=>mu ?_)))) (fun _=>br (fun _=>mu ?_) (fun _=>mu ?_))))) (fun _=>br (fun _=>must rfl (br (fun _=>mu ?_) (fun _=>br (fun _=>mu ?_) (fun _=>mu ?_)))) (fun _=>br (fun _=>mu ?_) (fun _=>mu ?_)))))
 all_goals first|rfl|(simp only [*,zb4,zdi,zeP,zfg,cT,cF]<;>rfl)|simp_all[Ty.cells,zb4,zdi,zeP,zfg]
theorem zLh:vJ 305 zAH:=kF3 zhZ zk zl zo (zq []) zSh
def zbC (b:Bare):Bool:=bif b.Guests.all zcV then (zho b.Memory 8&&(win (ln b.Guests) 1 2&&(ile (ln b.Outs) 40&&zcR b.Pending))) else false
@[simp] abbrev zoN (b:Bare):Bool:=true
@[simp] abbrev zeH (b:Bare):Bool:=zbC b
def zDd:Run:=rF1 (dT .bare) fun b=>(zoN b,[aB (zeH b)])
def zJx (N:Nat)(a0:Bare):OA:=
 (iter (σ:=(Int×(Int×(lM×(lG×((List Int)×Unit)))))) N (fun r2 s3=>let y0:=s3.2.2.2.1; (cond (ilt s3.1 (ln y0)) (oN (inb s3.1 (ln y0)) (oN (zmz (ix y0 s3.1 zi)) (cond (nB (zkL (ix y0 s3.1 zi))) oF (r2 ((zI .i64 s3.1 1),(s3.2.1,(s3.2.2.1,(y0,(s3.2.2.2.2.1,()))))))))) (oN (zrv s3.2.2.1 8) (cond (zlM s3.2.2.1 8) (oN (zJ (ln y0) 1 2) (cond (zL (ln y0) 1 2) (cond (ile (ln s3.2.2.2.2.1) 40) (oN (ze9 s3.2.1) (some [(aB (ze8 s3.2.1))])) oF) oF)) oF)))) (0,(a0.Pending,(a0.Memory,(a0.Guests,(a0.Outs,()))))))
def zWj:FuncId->Nat->Option Tmpl:=zq [(312,0,{ n:=38,tm:=[(1,.lp 0 0),(3,ti)],lo:=[(0,[.sl 0 [],.sl 1 [],.sl 2 [],ti])],ro:=[(0,(.sl .int),false),(1,.guest,false),(2,.int,false)] })]
theorem zUy (a0:Bare)(hb:zbN big [aT .bare a0])(hc:zoN a0=true):∃N,zJx N a0=some [aB (zeH a0)]:=by
 have hl:(_:List _).length<=big:=((zc0 hb).1 (.s .guest a0.Guests) (by simp[AV.cvs,Ty.cells])).len
 refine zce fun N hNN=>?_;unfold zJx oN nB
 conv=>zeta
 refine (zbd a0.Guests (fun i (t:Unit)=>((i:Int),a0.Pending,a0.Memory,a0.Guests,a0.Outs,())) _ (fun _ x (_:Unit) κ=>bif (zcV) x then κ () else oF) (fun (t:Unit)=>(cond (zrv a0.Memory 8) (cond (zlM a0.Memory 8) (cond (zJ (ln a0.Guests) 1 2) (cond (zL (ln a0.Guests) 1 2) (cond (ile (ln a0.Outs) 40) (cond (ze9 a0.Pending) (some [(.one (.b (ze8 a0.Pending)))]) none) oF) oF) none) oF) none)) (fun i hi t rec=>?_) (fun t rec=>?_) _ () (hNN hl)).trans ?_
 .simp only [zbx hi,zbb hi,zbg hi,zZ hi hl,cT];exact zhX rfl
 .simp only [zbp,cF]
 rw[zgh (zcV)];refine br (fun h0=>?_) (fun h0=>?_)
 .refine must rfl ?_;refine br (fun h1=>?_) (fun h1=>?_)
  .refine must rfl ?_;refine br (fun h2=>?_) (fun h2=>?_)
   .refine br (fun h3=>?_) (fun h3=>?_)
    .refine must rfl ?_
     first|rfl|(simp only [h0,h1,h2,h3,zeH,zbC,cT,cF]<;>rfl)|(simp_all [Ty.cells,zeH,zbC];done)
    .first|rfl|(simp only [h0,h1,h2,h3,zeH,zbC,cT,cF]<;>rfl)|(simp_all [Ty.cells,zeH,zbC];done)
   .first|rfl|(simp only [h0,h1,h2,zeH,zbC,cT,cF]<;>rfl)|(simp_all [Ty.cells,zeH,zbC];done)
  .first|rfl|(simp only [h0,h1,zeH,zbC,cT,cF]<;>rfl)|(simp_all [Ty.cells,zeH,zbC];done)
 .first|rfl|(simp only [h0,zeH,zbC,cT,cF]<;>rfl)|(simp_all [Ty.cells,zeH,zbC];done)
theorem zNH:vJ 312 zDd:=hF1 zhZ zk zl zo zWj zUy
@[simp] abbrev zyM (b:Bare):Bool:=true
@[simp] abbrev zfD (b:Bare):Bool:=zbC b
def zCL:Run:=rF1 (dT .bare) fun b=>(zyM b,[aB (zfD b)])
def zI6 (N:Nat)(a0:Bare):OA:=
 (iter (σ:=(Int×(Int×(Int×(lG×(lM×((List Int)×Unit))))))) N (fun r2 s3=>let y0:=s3.2.2.2.1;let y1:=(ix y0 s3.2.1 zi); (cond (ilt s3.2.1 s3.1) (oN (inb s3.2.1 (ln y0)) (oN (zmf y1) (cond (nB (zkq y1)) oF (r2 (s3.1,((zI .i64 s3.2.1 1),(s3.2.2.1,(y0,(s3.2.2.2.2.1,(s3.2.2.2.2.2.1,())))))))))) (oN (zrk s3.2.2.2.2.1 8) (cond (zlk s3.2.2.2.2.1 8) (oN (zbD (ln y0) 1 2) (cond (zbR (ln y0) 1 2) (cond (ile (ln s3.2.2.2.2.2.1) 40) (oN (zi6 s3.2.2.1) (some [(aB (zi5 s3.2.2.1))])) oF) oF)) oF)))) ((ln a0.Guests),(0,(a0.Pending,(a0.Guests,(a0.Memory,(a0.Outs,())))))))
def zWb:FuncId->Nat->Option Tmpl:=zq [(127,0,{ n:=36,tm:=[(1,.lp 0 0),(6,.sl 0 []),(7,ti),(8,ti)],lo:=[(0,[.sl 1 [],.sl 0 [],.sl 2 [],ti])],ro:=[(0,.guest,false),(1,(.sl .int),false),(2,.int,false)] })]
theorem zT6 (a0:Bare)(hb:zbN big [aT .bare a0])(hc:zyM a0=true):∃N,zI6 N a0=some [aB (zfD a0)]:=by
 have hl:(_:List _).length<=big:=((zc0 hb).1 (.s .guest a0.Guests) (by simp[AV.cvs,Ty.cells])).len
 refine zce fun N hNN=>?_;unfold zI6 oN nB
 conv=>zeta
 refine (zbd a0.Guests (fun i (t:Unit)=>((ln a0.Guests),(i:Int),a0.Pending,a0.Guests,a0.Memory,a0.Outs,())) _ (fun _ x (_:Unit) κ=>bif (zcV) x then κ () else oF) (fun (t:Unit)=>(cond (zrk a0.Memory 8) (cond (zlk a0.Memory 8) (cond (zbD (ln a0.Guests) 1 2) (cond (zbR (ln a0.Guests) 1 2) (cond (ile (ln a0.Outs) 40) (cond (zi6 a0.Pending) (some [(.one (.b (zi5 a0.Pending)))]) none) oF) oF) none) oF) none)) (fun i hi t rec=>?_) (fun t rec=>?_) _ () (hNN hl)).trans ?_
 .simp only [zbx hi,zbb hi,zbg hi,zZ hi hl,cT];exact zhX rfl
 .simp only [zbp,cF]
 rw[zgh (zcV)];refine br (fun h0=>?_) (fun h0=>?_)
 .refine must rfl ?_;refine br (fun h1=>?_) (fun h1=>?_)
  .refine must rfl ?_;refine br (fun h2=>?_) (fun h2=>?_)
   .refine br (fun h3=>?_) (fun h3=>?_)
    .refine must rfl ?_
     first|rfl|(simp only [h0,h1,h2,h3,zfD,zbC,cT,cF]<;>rfl)|(simp_all [Ty.cells,zfD,zbC];done)
    .first|rfl|(simp only [h0,h1,h2,h3,zfD,zbC,cT,cF]<;>rfl)|(simp_all [Ty.cells,zfD,zbC];done)
   .first|rfl|(simp only [h0,h1,h2,zfD,zbC,cT,cF]<;>rfl)|(simp_all [Ty.cells,zfD,zbC];done)
  .first|rfl|(simp only [h0,h1,zfD,zbC,cT,cF]<;>rfl)|(simp_all [Ty.cells,zfD,zbC];done)
 .first|rfl|(simp only [h0,zfD,zbC,cT,cF]<;>rfl)|(simp_all [Ty.cells,zfD,zbC];done)
theorem zNf:vJ 127 zCL:=hF1 zhZ zk zl zo zWb zT6
@[simp] abbrev zhc (b:Bare):Bool:=pc (SmB b)
@[simp] abbrev zea (b:Bare):Bare:=b
def zxI:Run:=rF1 (dT .bare) fun b=>(zhc b,[aT .bare (zea b)])
def zBk (N:Nat)(a0:Bare):OA:=
 (oN (zfP a0.Memory) (oN (zis a0.Guests) (oN (zdz a0.Outs) (some [(aT .bare (⟨(zdo a0.Memory),(zir a0.Guests),(zds a0.Outs),a0.Pending⟩:Bare))]))))
theorem zOu (a0:Bare)(hc:zhc a0=true):∃N,zBk N a0=some [aT .bare (zea a0)]:=by
 have hs:=zF.1 hc;have hz:_/\_/\_:=hs
 refine ⟨0,?_⟩;unfold zBk oN;refine mu (mu (mu ?_))
 first|rfl|(simp only [*,zea,cT,cF]<;>rfl)|simp_all[Ty.cells,zea]
theorem zHM:vJ 128 zxI:=kF1 zhZ zk zl zo (zq []) zOu
@[simp] abbrev zeT (b:Bare):Bool:=pc (SmB b)
@[simp] abbrev zcf (b:Bare):Bare:=b
def zAG:Run:=rF1 (dT .bare) fun b=>(zeT b,[aT .bare (zcf b)])
def zF9 (N:Nat)(a0:Bare):OA:=
 (oN (zfS a0.Memory) (oN (zfq a0.Guests) (oN (few (ln (ap [] a0.Outs))) (some [(aT .bare (⟨(zeq a0.Memory),(zfV a0.Guests),(ap [] a0.Outs),a0.Pending⟩:Bare))]))))
theorem zSg (a0:Bare)(hc:zeT a0=true):∃N,zF9 N a0=some [aT .bare (zcf a0)]:=by
 have hs:=zF.1 hc;have hz:_/\_/\_:=hs
 refine ⟨0,?_⟩;unfold zF9 oN;refine mu (mu (mu ?_))
 first|rfl|(simp only [*,zcf,cT,cF]<;>rfl)|simp_all[Ty.cells,zcf]
theorem zLg:vJ 306 zAG:=kF1 zhZ zk zl zo (zq []) zSg
def z6D:zO:=[(254,zAy),(131,zAd),(298,zAk),(53,zz7),(305,zAH),(312,zDd),(127,zCL),(128,zxI),(306,zAG)]++z6C
theorem zHu:zG z6D:=zh zK5 (zh zKJ (zh zKQ (zh zKD (zh zLh (zh zNH (zh zNf (zh zHM (zh zLg zhZ))))))))
def zdB (b:Bare)(i:Int)(x:Guest):Bare:={ b with Guests:=up b.Guests i x }
def zrC (b:Bare)(i:Int)(x:Guest):Bare:=bif hasB i (ln b.Guests) then zdB b i x else b
def ziy (b:Bare)(n:Int):Bare:=bif ilt (ln b.Outs) 40 then { b with Outs:=ap b.Outs [n] } else b
@[simp] theorem znt {b:Bare}{i:Int}{x:Guest}(h:SmB b)(hx:SmG x):SmB (zdB b i x):=⟨h.1,zEC h.2.1 hx,h.2.2⟩
@[simp] theorem zMx {b:Bare}{n:Int}(h:SmB b):SmB (ziy b n):=by
 unfold ziy;cases h1:ilt (ln b.Outs) 40
 .exact h
 .have:=qE h1;refine ⟨h.1,h.2.1,?_⟩;simp[ln] at *;omega
@[simp] theorem zbaO (b:Bare)(n:Int):(ziy b n).Guests=b.Guests:=by
 unfold ziy;cases ilt (ln b.Outs) 40<;>rfl
@[simp] theorem zzA {m:List (List Int)}{p c v:Int}(h:SmM m):SmM (zbv m p c v):=by
 unfold zbv;cases h1:zfv m p c
 .exact h
 .cases h2:win v 0 99
  .exact h
  .exact zMB h (by simpa using z9U h ((zza m p c).1 h1).1 [])
@[simp] abbrev zcj (b:Bare)(i:Int)(x:Guest):Bool:=pc (SmB b/\SmG x)
@[simp] abbrev zdE (b:Bare)(i:Int)(x:Guest):Bare:=zrC b i x
def zvl:Run:=rF3 (dT .bare) dI (dT .guest) fun b c d=>(zcj b c d,[aT .bare (zdE b c d)])
def zzN (N:Nat)(a0:Bare)(a1:Int)(a2:Guest):OA:=
 (oN (zhc a0) (oN (zcm a1 (ln a0.Guests)) (cond (zcO a1 (ln a0.Guests)) (oN (zdu a2) (oN (inb a1 (ln (zea a0).Guests)) (share (up (zea a0).Guests a1 (zcl a2)) (fun x4=>(some [(aT .bare ({ (zea a0) with Guests:=x4 }:Bare))]))))) (some [(aT .bare (zea a0))]))))
theorem zLD (a0:Bare)(a1:Int)(a2:Guest)(hc:zcj a0 a1 a2=true):∃N,zzN N a0 a1 a2=some [aT .bare (zdE a0 a1 a2)]:=by
 have hs:=zF.1 hc;refine ⟨0,?_⟩;unfold zzN oN;refine mu (must rfl (br (fun _=>mu (mu (shr ?_))) (fun _=>?_)))
 all_goals first|rfl|(simp only [*,zdE,zrC,zdB,cT,cF]<;>rfl)|simp_all[Ty.cells,zdE,zrC,zdB]
theorem zEK:vJ 129 zvl:=kF3 zHu zk zl zo (zq []) zLD
@[simp] abbrev zsC (b:Bare)(n:Int):Bool:=pc (SmB b)
@[simp] abbrev zpy (b:Bare)(n:Int):Bare:=ziy b n
def zC2:Run:=rF2 (dT .bare) dI fun b c=>(zsC b c,[aT .bare (zpy b c)])
def zJm (N:Nat)(a0:Bare)(a1:Int):OA:=
 (oN (zhc a0) (cond (ilt (ln a0.Outs) 40) (oN (few (ln (ap (zea a0).Outs [a1]))) (some [(aT .bare ({ (zea a0) with Outs:=(ap (zea a0).Outs [a1]) }:Bare))])) (some [(aT .bare (zea a0))])))
theorem zUn (a0:Bare)(a1:Int)(hc:zsC a0 a1=true):∃N,zJm N a0 a1=some [aT .bare (zpy a0 a1)]:=by
 have hs:=zF.1 hc;have hz:a0.Outs.length<=1048576:=hs.2.2
 refine ⟨0,?_⟩;unfold zJm oN;refine mu (br (fun _=>mu ?_) (fun _=>?_))
 all_goals first|rfl|(simp only [*,zpy,ziy,cT,cF]<;>rfl)|simp_all[Ty.cells,zpy,ziy]
theorem zNw:vJ 134 zC2:=kF2 zHu zk zl zo (zq []) zUn
def zZq:zO:=[(129,zvl),(134,zC2)]++z6D
theorem zpq:zG zZq:=zh zEK (zh zNw zHu)
def zj3 (b:Bare)(g:Int)(x:Guest)(w:Bool):Bare :=
 bif zdU x.Live (zW (address x)) (zbM w) then
  (bif w then zdB { b with Memory:=zbv b.Memory (zbY x.Live (zW (address x)) (zbM w)) (zcG (address x)) x.A } g (zbH x)
  else zdB b g (loaded x (cellAt b.Memory (zbY x.Live (zW (address x)) (zbM w)) (zcG (address x)))))
 else zdB b g (stopped x (znx (zW (address x)) w))
def zp7 (b:Bare)(g:Int)(x:Guest)(w:Int):Bare :=
 zdB (cond (cond (zfg x.Ctl.Traps w) (ieq w 5) false) (ziy b (zbW x.Prog x.Pc).X) b) g (zeP x x.Ctl.Traps w)
def stepped (b:Bare)(g:Int)(x:Guest)(w:Int):Bare :=
 bif ieq w 1 then zdB b g (interrupted x) else (cond (ieq w 2) (zdB b g (plainly x)) (cond (ieq w 3) (zj3 b g x false) (cond (ieq w 4) (zj3 b g x true) (zp7 b g x w))))
theorem tr1 (x:Guest)(t w:Int):ieq w 6=true->zeP x t w=stopped x (zpn (zbW x.Prog x.Pc).X)/\zfg t w=false:=by
 intro h;simp[zeP,zfg,h]
theorem tr2 (x:Guest)(t w:Int):ieq w 6=false->(ieq w 5=false->ieq w 6=false->ieq w 7=true)->zcL t (zdL w)=true->zeP x t w=zqa x w/\zfg t w=false:=by
 intro h6 h7 h;unfold zeP zfg zqa zdL at *;cases h5:ieq w 5<;>simp_all
theorem tr3 (x:Guest)(t w:Int):ieq w 6=false->ieq w 7=false->zcL t (zdL w)=false->ieq w 5=true->zeP x t w=zbH x/\zfg t w=true:=by
 intro h6 h7 h h5;unfold zeP zfg zdL at *
 simp_all
theorem tr4 (x:Guest)(t w:Int):ieq w 6=false->(ieq w 5=false->ieq w 6=false->ieq w 7=true)->zcL t (zdL w)=false->ieq w 5=false->zeP x t w=held x:=by
 intro h6 h7 h h5;unfold zeP zdL at *
 simp_all
def zgf (b:Bare)(g:Int):Bool:=bif hasB g (ln b.Guests) then (cond (zbC b) (!ieq (zC (gAt b g)) 0) false) else false
def zei (b:Bare)(g:Int):Bare:=bif zgf b g then stepped b g (gAt b g) (zC (gAt b g)) else b
@[simp] theorem zYP {b:Bare}{g:Int}{x:Guest}{w:Bool}(h:SmB b)(hx:SmG x):SmB (zj3 b g x w):=by
 unfold zj3;cases zdU x.Live (zW (address x)) (zbM w)
 .exact znt h hx
 .cases w
  .exact znt h (zMz _ hx)
  .exact ⟨zzA h.1,zEC h.2.1 (zkY hx),h.2.2⟩
@[simp] theorem z8Q {b:Bare}{g:Int}{x:Guest}{w:Int}(h:SmB b)(hx:SmG x):SmB (zp7 b g x w):=by
 unfold zp7;cases (cond (zfg x.Ctl.Traps w) (ieq w 5) false)
 .exact znt h (zDV _ _ hx)
 .exact znt (zMx h) (zDV _ _ hx)
@[simp] theorem zXZ {b:Bare}{g:Int}{x:Guest}{w:Int}(h:SmB b)(hx:SmG x):SmB (stepped b g x w):=by
 unfold stepped;cases ieq w 1
 .cases ieq w 2
  .cases ieq w 3
   .cases ieq w 4
    .exact z8Q h hx
    .exact zYP h hx
   .exact zYP h hx
  .exact znt h (zG1 hx)
 .exact znt h (zYQ hx)
@[simp] theorem zbaQ {b:Bare}{g:Int}(h:SmB b):SmB (zei b g):=by
 unfold zei;cases zgf b g
 .exact h
 .exact zXZ h (ziJ g h)
theorem z0Z (x:Guest):ieq (zC x) 0=false->ieq (zC x) 1=false->ieq (zC x) 2=false->ieq (zC x) 3=false->ieq (zC x) 4=false->ieq (zC x) 5=false->ieq (zC x) 6=false->ieq (zC x) 7=true:=by
 unfold zC zro;cases canRun x
 .intro h;cases h
 .cases zfL x
  .simp only [cT,cF];generalize (zbW x.Prog x.Pc).Op=o;cases ieq o 3<;>cases ieq o 4<;>cases ieq o 5<;>cases ieq o 6<;>cases ieq o 7<;>simp [ieq]
  .intro _ h;cases h
theorem zYw {x:Int}{a b:Int}(h:ieq x a=true)(hab:ieq a b=false):ieq x b=false:=by
 have:x=a:=by simpa [ieq] using h
 rw[this];exact hab
@[simp] abbrev ztM (b:Bare)(g:Int):Bool:=pc (SmB b)
@[simp] abbrev zio (b:Bare)(g:Int):Bare:=zei b g
@[simp] abbrev zn9 (b:Bare)(g:Int):Bool:=zgf b g
def zpM:Run:=rF2 (dT .bare) dI fun b c=>(ztM b c,[aT .bare (zio b c),aB (zn9 b c)])
def zBb (N:Nat)(a0:Bare)(a1:Int):OA:=
 let y21:=a0.Memory;let y12:=(aT .bare (zea a0));let y0:=(zmd a0 a1);let y20:=y0.Ctl.Traps;let y18:=(aT .bare (zdE a0 a1 (zmg y0)));let y6:=(zhb y0);let y15:=(aT .bare (zdE a0 a1 (ziP y0 y6)));let y4:=(zkp y0);let y16:=(zfN y4);let y10:=(zdT y4);let y3:=(ieq y6 4);let y8:=(zh2 y10 y3);let y13:=(aT .bare (zdE a0 a1 (zf6 y0 y8)));let y2:=(zgi y0.Prog y0.Pc).X;let y19:=(zcj (zpy a0 y2) a1 (zd9 y0));let y11:=(aT .bare (zdE (zpy a0 y2) a1 (zd9 y0)));let y9:=(zf6 y0 (zi3 y2));let y1:=(zhw y0.Live y10 (zeF y3));let y7:=(zm5 y21 y1 y16);let y14:=(aT .bare (zdE a0 a1 (zkr y0 y7)));let y5:=({ a0 with Memory:=(zln y21 y1 y16 y0.A) }:Bare);let y17:=(aT .bare (zdE y5 a1 (zku y0))); (oN (zwk a0 a1) (oN (zi8 y0) (oN (zyM a0) (cond (nB (zfD a0)) (oN (zhc a0) (some [y12,(aB false)])) (cond (nB (zme a0 a1)) (oN (zhc a0) (some [y12,(aB false)])) (cond (ieq y6 0) (oN (zhc a0) (some [y12,(aB false)])) (oN (zqm y0) (oN (zf5 y0.Prog y0.Pc) (cond (ieq y6 1) (oN (zoi y0) (oN (zcj a0 a1 (zhv y0)) (some [(aT .bare (zdE a0 a1 (zhv y0))),(aB true)]))) (cond (ieq y6 2) (oN (zwn y0) (oN (zcj a0 a1 (znF y0)) (some [(aT .bare (zdE a0 a1 (znF y0))),(aB true)]))) (cond (ieq y6 3) (cond (ieq y6 3) (oN (zf4 y4) (oN (zok y3) (oN (zju y0.Live y10 (zeF y3)) (cond (nB (zgo y0.Live y10 (zeF y3))) (oN (zf4 y4) (oN (zjr y10 y3) (oN (zfO y0 y8) (oN (zcj a0 a1 (zf6 y0 y8)) (some [y13,(aB true)]))))) (cond y3 (oN (zf3 y4) (oN (zkw y21 y1 y16 y0.A) (oN (zop y0) (oN (zcj y5 a1 (zku y0)) (some [y17,(aB true)]))))) (oN (zf3 y4) (oN (zod y21 y1 y16) (oN (zoj y0 y7) (oN (zcj a0 a1 (zkr y0 y7)) (some [y14,(aB true)])))))))))) (cond (ieq y6 6) (oN (zoc y2) (oN (zfO y0 (zi3 y2)) (oN (zcj a0 a1 y9) (some [(aT .bare (zdE a0 a1 y9)),(aB true)])))) (oN (zos y6) (oN (zjL y20 (zhd y6)) (cond (ziN y20 (zhd y6)) (oN (zmk y0 y6) (oN (zcj a0 a1 (ziP y0 y6)) (some [y15,(aB true)]))) (cond (ieq y6 5) (oN (zsC a0 y2) (oN (zep y0) (oN y19 (some [y11,(aB true)])))) (oN (zm6 y0) (oN (zcj a0 a1 (zmg y0)) (some [y18,(aB true)]))))))))) (cond y3 (oN (zf4 y4) (oN (zok y3) (oN (zju y0.Live y10 (zeF y3)) (cond (nB (zgo y0.Live y10 (zeF y3))) (oN (zf4 y4) (oN (zjr y10 y3) (oN (zfO y0 y8) (oN (zcj a0 a1 (zf6 y0 y8)) (some [y13,(aB true)]))))) (cond y3 (oN (zf3 y4) (oN (zkw y21 y1 y16 y0.A) (oN (zop y0) (oN (zcj y5 a1 (zku y0)) (some [y17,(aB true)]))))) (oN (zf3 y4) (oN (zod y21 y1 y16) (oN (zoj y0 y7) (oN (zcj a0 a1 (zkr y0 y7)) (some [y14,(aB true)])))))))))) (cond (ieq y6 6) (oN (zoc y2) (oN (zfO y0 (zi3 y2)) (oN (zcj a0 a1 y9) (some [(aT .bare (zdE a0 a1 y9)),(aB true)])))) (oN (zos y6) (oN (zjL y20 (zhd y6)) (cond (ziN y20 (zhd y6)) (oN (zmk y0 y6) (oN (zcj a0 a1 (ziP y0 y6)) (some [y15,(aB true)]))) (cond (ieq y6 5) (oN (zsC a0 y2) (oN (zep y0) (oN y19 (some [y11,(aB true)])))) (oN (zm6 y0) (oN (zcj a0 a1 (zmg y0)) (some [y18,(aB true)]))))))))))))))))))))
theorem zOk (a0:Bare)(a1:Int)(hc:ztM a0 a1=true):∃N,zBb N a0 a1=some [aT .bare (zio a0 a1),aB (zn9 a0 a1)]:=by
 have hs:=zF.1 hc;have hx:=ziJ a1 hs;have hz:_/\_/\_:=hs;have hg:a0.Guests.length<=1048576:=hs.2.1.1;have hw7:=z0Z (gAt a0 a1);have h34:ieq (zC (gAt a0 a1)) 3=true->ieq (zC (gAt a0 a1)) 4=false:=fun h=>zYw h rfl;have h57:ieq (zC (gAt a0 a1)) 5=true->ieq (zC (gAt a0 a1)) 7=false:=fun h=>zYw h rfl;have t1:=tr1 (gAt a0 a1) (gAt a0 a1).Ctl.Traps (zC (gAt a0 a1));have t2:=tr2 (gAt a0 a1) (gAt a0 a1).Ctl.Traps (zC (gAt a0 a1));have t3:=tr3 (gAt a0 a1) (gAt a0 a1).Ctl.Traps (zC (gAt a0 a1));have t4:=tr4 (gAt a0 a1) (gAt a0 a1).Ctl.Traps (zC (gAt a0 a1));have hp:∀n,SmB (ziy a0 n):=fun n=>zMx hs
 refine ⟨0,?_⟩;unfold zBb oN nB
 conv=>zeta
 refine mu (must rfl (must rfl (brN (fun _=>mu ?_) (fun _=>brN (fun _=>mu ?_) (fun _=>br (fun _=>mu ?_) (fun _=>must rfl (must rfl (br (fun _=>mu (mu ?_)) (fun _=>br (fun _=>mu (mu ?_)) (fun _=>br (fun _=>br (fun _=>must rfl (must rfl (must rfl (brN (fun _=>must rfl (must rfl (mu (mu ?_)))) (fun _=>br (fun _=>must rfl (mu (mu (mu ?_)))) (fun _=>must rfl (must rfl (mu (mu ?_))))))))) (fun _=>br (fun _=>must rfl (mu (mu ?_))) (fun _=>must rfl (must rfl (br (fun _=>mu (mu ?_)) (fun _=>br (fun _=>mu (mu (mu ?_))) (fun _=>mu (mu ?_)))))))) (fun _=>br (fun _=>must rfl (must rfl (must rfl (brN (fun _=>must rfl (must rfl (mu (mu ?_)))) (fun _=>br (fun _=>must rfl (mu (mu (mu ?_)))) (fun _=>must rfl (must rfl (mu (mu ?_))))))))) (fun _=>br (fun _=>must rfl (mu (mu ?_))) (fun _=>must rfl (must rfl (br (fun _=>mu (mu ?_)) (fun _=>br (fun _=>mu (mu (mu ?_))) (fun _=>mu (mu ?_))))))))))))))))))
 all_goals first|rfl|(simp only [*,zio,zn9,zei,zgf,stepped,zj3,zp7,zrC,zbM,cT,cF]<;>rfl)|simp_all[Ty.cells,zio,zn9,zei,zgf,stepped,zj3,zp7,zrC,zbM]
theorem ztG:vJ 64 zpM:=kF2 zpq zk zl zo (zq []) zOk
def SmK (k:Kept):Prop:=k.Known.length<=1048576/\k.Slots.length<=1048576
def zBM (l:List Kept):Prop:=l.length<=1048576/\∀x∈l,SmK x
def zfr (m:Mon):Prop:=m.Outer.length<=1048576/\SmM m.Out/\m.Dirty.length<=1048576/\zmY m.Guests/\m.Outs.length<=1048576/\zBM m.Tables
def zq5 (l:List Mon):Prop:=l.length<=1048576/\∀x∈l,zfr x
def SmH (h:Host):Prop:=SmM h.Memory/\zq5 h.Mons/\h.Buffer.length<=1048576/\h.IoBuffer.length<=1048576
@[simp] theorem zw8 (k:Kept):(∀c∈Ty.cells .kept k,CVB sm c)↔SmK k:=by simp[Ty.cells,SmK,z5x]
@[simp] theorem z4q (l:List Kept):CVB sm (.s .kept l)↔zBM l:=by rw[zle];simp only[zw8];rfl
@[simp] theorem zYh (m:Mon):(∀c∈Ty.cells .mon m,CVB sm c)↔zfr m:=by
 simp only[Ty.cells,qI,qX,or_false,vG,forall_eq,zpr,zuX,z4q,zZz,zWN,zWM,z6U,and_true,true_and];rfl
@[simp] theorem z7Z (l:List Mon):CVB sm (.s .mon l)↔zq5 l:=by rw[zle];simp only[zYh];rfl
@[simp] theorem zK (h:Host):zb2 h↔SmH h:=by
 unfold zb2;simp only[zbc,qI,qX,or_false,vG,forall_eq,zpr,z7Z,zTC];rfl
theorem zbe {p:Prop}(h:p):pc p=true:=zU h
theorem zyh {l:List Kept}{i:Int}{x:Kept}(h:zBM l)(hx:SmK x):zBM (up l i x):=by
 refine ⟨by simpa using h.1,fun y hy=>?_⟩
 rcases qZ hy with hy|rfl
 .exact h.2 y hy
 .exact hx
theorem ziV {l:List Mon}{i:Int}{x:Mon}(h:zq5 l)(hx:zfr x):zq5 (up l i x):=by
 refine ⟨by simpa using h.1,fun y hy=>?_⟩
 rcases qZ hy with hy|rfl
 .exact h.2 y hy
 .exact hx
theorem zny {α:Type}{l:List α}(h:l.length<=1048576):few (ln (ap [] l))=true:=by
 rw[zma,z8h];omega
@[simp] abbrev zbG (h:Host):Bool:=pc (zb2 h)
@[simp] abbrev zu (h:Host):Host:=h
def zAI:Run:=rF1 dH fun b=>(zbG b,[aH (zu b)])
def zGb (N:Nat)(a0:Host):OA:=
 (oN (zfS a0.Memory) (oN (few (ln (ap [] a0.Buffer))) (oN (few (ln (ap [] a0.IoBuffer))) (iter (σ:=(Int×(lM×(lN×(lE×(lE×(lM×(lN×(lE×(lE×(lM×(lN×(lE×(lE×Unit)))))))))))))) N (fun r2 s3=>let y2:=s3.2.2.2.2.2.2.2.2.2.2.2.2.1;let y1:=(ix s3.2.2.1 s3.1 zf);let y0:=(ap s3.2.2.2.2.2.2.2.2.2.2.1 [(znq y1)]); (cond (ilt s3.1 (ln s3.2.2.1)) (oN (inb s3.1 (ln s3.2.2.1)) (oN (zjk y1) (oN (few (ln y0)) (r2 ((zI .i64 s3.1 1),(s3.2.1,(s3.2.2.1,(s3.2.2.2.1,(s3.2.2.2.2.1,(s3.2.2.2.2.2.1,(s3.2.2.2.2.2.2.1,(s3.2.2.2.2.2.2.2.1,(s3.2.2.2.2.2.2.2.2.1,(s3.2.2.2.2.2.2.2.2.2.1,(y0,(s3.2.2.2.2.2.2.2.2.2.2.2.1,(y2,()))))))))))))))))) (some [(aH (⟨s3.2.2.2.2.2.2.2.2.2.1,s3.2.2.2.2.2.2.2.2.2.2.1,s3.2.2.2.2.2.2.2.2.2.2.2.1,y2⟩:Host))]))) (0,(a0.Memory,(a0.Mons,(a0.Buffer,(a0.IoBuffer,([],([],([],([],((zeq a0.Memory),([],((ap [] a0.Buffer),((ap [] a0.IoBuffer),())))))))))))))))))
def zSD:FuncId->Nat->Option Tmpl:=zq [(35,0,{ n:=36,tm:=[(1,.lp 0 0),(2,.lp 1 0),(3,.lp 2 0),(4,ti)],lo:=[(0,[.sl 0 [],.sl 1 [],.sl 2 [],.sl 3 []]),(1,[.sl 4 [],.sl 5 [],.sl 6 [],.sl 7 []]),(2,[.sl 8 [],.sl 9 [],.sl 10 [],.sl 11 []])],ro:=[(0,(.sl .int),false),(1,.mon,false),(2,.entry,false),(3,.entry,false),(4,(.sl .int),true),(5,.mon,true),(6,.entry,true),(7,.entry,true),(8,(.sl .int),true),(9,.mon,true),(10,.entry,true),(11,.entry,true)] })]
theorem zSi (a0:Host)(hc:zbG a0=true):∃N,zGb N a0=some [aH (zu a0)]:=by
 obtain ⟨h1,h2,h3,h4⟩:=(zK a0).1 (zF.1 hc);have hl:=zcJ h2.1;refine zce fun N hNN=>?_;unfold zGb oN
 conv=>zeta
 refine must (zbe ((zpr _).2 h1)) (must (zny h3) (must (zny h4) ?_));refine (zbd a0.Mons (fun i (t:lN)=>((i:Int),a0.Memory,a0.Mons,a0.Buffer,a0.IoBuffer,[],[],[],[],(zeq a0.Memory),t,(ap [] a0.Buffer),(ap [] a0.IoBuffer),())) _ (fun _ x acc κ=>bif zjk x then (cond (few (ln (ap acc [znq x]))) (κ (ap acc [znq x])) none) else none) (fun (t:lN)=>(some [(.agg (zbc (⟨(zeq a0.Memory),t,(ap [] a0.Buffer),(ap [] a0.IoBuffer)⟩:Host)))])) (fun i hi t rec=>?_) (fun t rec=>?_) _ ([]) (hNN hl.1)).trans ?_
 .simp only [zbx hi,zbb hi,zbg hi,zZ hi hl.1,cT]
 .simp only [zbp,cF]
 exact ziW zjk znq _ a0.Mons 0 [] (fun x hx=>⟨zbe ((zYh x).2 (h2.2 x hx)),rfl⟩) (by simpa using hl.2)
theorem zLi:vJ 35 zAI:=kF1 zpq zk zl zo zSD zSi
@[simp] abbrev zf7 (k:Kept):Bool:=pc (SmK k)
@[simp] abbrev zdc (k:Kept):Kept:=k
def zxL:Run:=rF1 (dT .kept) fun b=>(zf7 b,[aT .kept (zdc b)])
def zBn (N:Nat)(a0:Kept):OA:=
 (oN (few (ln (ap [] a0.Known))) (oN (zgp a0.Slots) (some [(aT .kept (⟨(ap [] a0.Known),(zeR a0.Slots)⟩:Kept))])))
theorem zOx (a0:Kept)(hc:zf7 a0=true):∃N,zBn N a0=some [aT .kept (zdc a0)]:=by
 have hs:=zF.1 hc;obtain ⟨h1,h2⟩:=hs;have hs1:a0.Known.length<=2147483648:=(by omega);have hs2:a0.Slots.length<=2147483648:=(by omega)
 refine ⟨0,?_⟩;unfold zBn oN;refine mu (mu ?_)
 first|rfl|(simp only [*,zdc,cT,cF]<;>rfl)|simp_all[Ty.cells,zdc]
theorem zHP:vJ 151 zxL:=kF1 zpq zk zl zo (zq []) zOx
def z6r:zO:=[(35,zAI),(151,zxL)]++zZq
theorem zTv:zG z6r:=zh zLi (zh zHP zpq)
@[simp] abbrev zjM (m:Mon):Bool:=pc (zfr m)
@[simp] abbrev zkz (m:Mon):Mon:=m
def zAi:Run:=rF1 (dT .mon) fun b=>(zjM b,[aT .mon (zkz b)])
def zFI (N:Nat)(a0:Mon):OA:=
 (oN (zgp a0.Outer) (oN (zfP a0.Out) (oN (few (ln (ap [] a0.Dirty))) (oN (zis a0.Guests) (oN (zdz a0.Outs) (iter (σ:=(Int×(Int×(Int×(Int×(Int×(Int×(Int×(Int×(lK×(lK×(lS×(lM×(lB×(lG×((List Int)×(lS×(lM×(lB×(lG×((List Int)×(lK×Unit)))))))))))))))))))))) N (fun r2 s3=>let y5:=s3.2.2.2.2.2.2.2.2.2.2.2.2.1;let y4:=s3.2.2.2.2.2.2.2.2.2.2.2.2.2.1;let y3:=s3.2.2.2.2.2.2.2.2.2.2.2.2.2.2.1;let y2:=s3.2.2.2.2.2.2.2.2.1;let y1:=s3.2.2.2.2.2.2.2.2.2.1;let y0:=(ix y1 s3.2.1 zez); (cond (ilt s3.2.1 s3.1) (oN (inb s3.2.1 (ln y1)) (oN (zf7 y0) (oN (few (ln (ap y2 [(zdc y0)]))) (r2 (s3.1,((zI .i64 s3.2.1 1),(s3.2.2.1,(s3.2.2.2.1,(s3.2.2.2.2.1,(s3.2.2.2.2.2.1,(s3.2.2.2.2.2.2.1,(s3.2.2.2.2.2.2.2.1,((ap y2 [(zdc y0)]),(y1,(s3.2.2.2.2.2.2.2.2.2.2.1,(s3.2.2.2.2.2.2.2.2.2.2.2.1,(y5,(y4,(y3,(s3.2.2.2.2.2.2.2.2.2.2.2.2.2.2.2.1,(s3.2.2.2.2.2.2.2.2.2.2.2.2.2.2.2.2.1,(s3.2.2.2.2.2.2.2.2.2.2.2.2.2.2.2.2.2.1,(s3.2.2.2.2.2.2.2.2.2.2.2.2.2.2.2.2.2.2.1,(s3.2.2.2.2.2.2.2.2.2.2.2.2.2.2.2.2.2.2.2.1,(s3.2.2.2.2.2.2.2.2.2.2.2.2.2.2.2.2.2.2.2.2.1,()))))))))))))))))))))))))) (some [(aT .mon (⟨s3.2.2.2.2.2.2.2.2.2.2.1,s3.2.2.2.2.2.2.2.2.2.2.2.1,y5,y4,y3,s3.2.2.1,s3.2.2.2.1,y2,s3.2.2.2.2.1⟩:Mon))]))) ((ln a0.Tables),(0,(a0.Pending,(a0.Traps,(a0.Own,(0,(0,(0,([],(a0.Tables,((zeR a0.Outer),((zdo a0.Out),((ap [] a0.Dirty),((zir a0.Guests),((zds a0.Outs),([],([],([],([],([],([],())))))))))))))))))))))))))))
def zSy:FuncId->Nat->Option Tmpl:=zq [(115,0,{ n:=44,tm:=[(1,.lp 0 0),(2,.lp 1 0),(3,.sl 0 []),(29,.sl 1 []),(30,ti),(31,ti)],lo:=[(0,[.sl 2 [],.sl 3 [],.sl 4 [],.sl 5 [],.sl 6 [],ti,ti,.sl 1 [],ti]),(1,[.sl 7 [],.sl 8 [],.sl 9 [],.sl 10 [],.sl 11 [],ti,ti,.sl 12 [],ti])],ro:=[(0,.kept,true),(1,.kept,false),(2,.slot,true),(3,(.sl .int),true),(4,.bool,true),(5,.guest,true),(6,.int,true),(7,.slot,true),(8,(.sl .int),true),(9,.bool,true),(10,.guest,true),(11,.int,true),(12,.kept,true)] })]
theorem zRL (a0:Mon)(hc:zjM a0=true):∃N,zFI N a0=some [aT .mon (zkz a0)]:=by
 obtain ⟨h1,h2,h3,h4,h5,h6⟩:=zF.1 hc;have hl:=zcJ h6.1;refine zce fun N hNN=>?_;unfold zFI oN
 conv=>zeta
 have c1:zgp a0.Outer=true:=by simp;omega
 have c2:zfP a0.Out=true:=by simp;exact h2
 have c4:zis a0.Guests=true:=by simp;exact h4
 have c5:zdz a0.Outs=true:=by simp;omega
 refine must c1 (must c2 (must (zny h3) (must c4 (must c5 ?_))));refine (zbd a0.Tables (fun i (t:lK)=>((ln a0.Tables),(i:Int),a0.Pending,a0.Traps,a0.Own,0,0,0,t,a0.Tables,(zeR a0.Outer),(zdo a0.Out),(ap [] a0.Dirty),(zir a0.Guests),(zds a0.Outs),[],[],[],[],[],[],())) _ (fun _ x acc κ=>bif zf7 x then (cond (few (ln (ap acc [zdc x]))) (κ (ap acc [zdc x])) none) else none) (fun (t:lK)=>(some [(.agg (Ty.cells .mon (⟨(zeR a0.Outer),(zdo a0.Out),(ap [] a0.Dirty),(zir a0.Guests),(zds a0.Outs),a0.Pending,a0.Traps,t,a0.Own⟩:Mon)))])) (fun i hi t rec=>?_) (fun t rec=>?_) _ ([]) (hNN hl.1)).trans ?_
 .simp only [zbx hi,zbb hi,zbg hi,zZ hi hl.1,cT]
 .simp only [zbp,cF]
 exact ziW zf7 zdc _ a0.Tables 0 [] (fun x hx=>⟨zbe (h6.2 x hx),rfl⟩) (by simpa using hl.2)
theorem zKO:vJ 115 zAi:=kF1 zTv zk zl zo zSy zRL
def z6s:zO:=[(115,zAi)]++z6r
theorem zyv:zG z6s:=zh zKO zTv
@[simp] abbrev zky (h:Host):Bool:=pc (zb2 h)
@[simp] abbrev zbL (h:Host):Host:=h
def zxJ:Run:=rF1 dH fun b=>(zky b,[aH (zbL b)])
def zBl (N:Nat)(a0:Host):OA:=
 (oN (zfP a0.Memory) (oN (few (ln (ap [] a0.Buffer))) (oN (few (ln (ap [] a0.IoBuffer))) (iter (σ:=(Int×(Int×(lN×(lM×(lN×(lE×(lE×(lM×(lN×(lE×(lE×Unit)))))))))))) N (fun r2 s3=>let y1:=(ix s3.2.2.1 s3.2.1 zf);let y0:=(ap s3.2.2.2.2.2.2.2.2.1 [(zkz y1)]); (cond (ilt s3.2.1 s3.1) (oN (inb s3.2.1 (ln s3.2.2.1)) (oN (zjM y1) (oN (few (ln y0)) (r2 (s3.1,((zI .i64 s3.2.1 1),(s3.2.2.1,(s3.2.2.2.1,(s3.2.2.2.2.1,(s3.2.2.2.2.2.1,(s3.2.2.2.2.2.2.1,(s3.2.2.2.2.2.2.2.1,(y0,(s3.2.2.2.2.2.2.2.2.2.1,(s3.2.2.2.2.2.2.2.2.2.2.1,()))))))))))))))) (some [(aH (⟨s3.2.2.2.2.2.2.2.1,s3.2.2.2.2.2.2.2.2.1,s3.2.2.2.2.2.2.2.2.2.1,s3.2.2.2.2.2.2.2.2.2.2.1⟩:Host))]))) ((ln a0.Mons),(0,(a0.Mons,([],([],([],([],((zdo a0.Memory),([],((ap [] a0.Buffer),((ap [] a0.IoBuffer),())))))))))))))))
def zPo:FuncId->Nat->Option Tmpl:=zq [(48,0,{ n:=34,tm:=[(2,.lp 0 0),(3,.lp 1 0),(19,.sl 0 []),(20,ti),(21,ti)],lo:=[(0,[.sl 1 [],.sl 2 [],.sl 3 [],.sl 4 []]),(1,[.sl 5 [],.sl 6 [],.sl 7 [],.sl 8 []])],ro:=[(0,.mon,false),(1,(.sl .int),true),(2,.mon,true),(3,.entry,true),(4,.entry,true),(5,(.sl .int),true),(6,.mon,true),(7,.entry,true),(8,.entry,true)] })]
theorem zOv (a0:Host)(hc:zky a0=true):∃N,zBl N a0=some [aH (zbL a0)]:=by
 obtain ⟨h1,h2,h3,h4⟩:=(zK a0).1 (zF.1 hc);have hl:=zcJ h2.1;refine zce fun N hNN=>?_;unfold zBl oN
 conv=>zeta
 have c1:zfP a0.Memory=true:=by simp;exact h1
 refine must c1 (must (zny h3) (must (zny h4) ?_));refine (zbd a0.Mons (fun i (t:lN)=>((ln a0.Mons),(i:Int),a0.Mons,[],[],[],[],(zdo a0.Memory),t,(ap [] a0.Buffer),(ap [] a0.IoBuffer),())) _ (fun _ x acc κ=>bif zjM x then (cond (few (ln (ap acc [zkz x]))) (κ (ap acc [zkz x])) none) else none) (fun (t:lN)=>(some [(.agg (zbc (⟨(zdo a0.Memory),t,(ap [] a0.Buffer),(ap [] a0.IoBuffer)⟩:Host)))])) (fun i hi t rec=>?_) (fun t rec=>?_) _ ([]) (hNN hl.1)).trans ?_
 .simp only [zbx hi,zbb hi,zbg hi,zZ hi hl.1,cT]
 .simp only [zbp,cF]
 exact ziW zjM zkz _ a0.Mons 0 [] (fun x hx=>⟨zbe (h2.2 x hx),rfl⟩) (by simpa using hl.2)
theorem zHN:vJ 48 zxJ:=kF1 zyv zk zl zo zPo zOv
def allI {α:Type}(p:Nat->α->Bool):List α->Nat->Bool
 | [],_=>true
 | x :: l,i=>p i x&&allI p l (i+1)
theorem zHA {α ρ:Type}(p:Nat->α->Bool)(r:Option ρ)(K:Unit->Option ρ):∀(l:List α) (i:Nat),goL (fun i x (_:Unit) k=>bif p i x then k () else r) K l i ()=bif allI p l i then K () else r
 | [],_=>rfl
 | x :: l,i=>by
  simp only[goL,allI];cases p i x
  .rfl
  .simp only [cT,Bool.true_and];exact zHA p r K l (i+1)
theorem zP7 {α:Type}(q:α->Bool)(l:List α)(d:α):∀(n i:Nat),i+n<=l.length->zn1 (fun j=>q (ix l (j:Int) d)) n i=((l.drop i).take n).all q
 | 0,i,_=>by simp[zn1]
 | n+1,i,h=>by
  have hi:i<l.length:=by omega
  rw[kW hi,List.take_succ_cons,uI,<- zP7 q l d n (i+1) (by omega)]
  simp only[zn1,zbg hi]
def sameKey (a b:Entry):Bool:=bif ieq a.Tag b.Tag then ieq a.Page b.Page else false
def alone (l:List Entry)(i:Nat)(x:Entry):Bool:=(l.take i).all fun y=>!sameKey x y
def zeO (l:List Entry):Bool:=bif allI (alone l) l 0 then ile (ln l) 6 else false
theorem z4D {α:Type}{l:List α}{i:Nat}(h:i<=l.length):inr 0 (i:Int) (ln l)=true:=qJ (by simp only[ln];omega)
@[simp] abbrev zob (l:List Entry):Bool:=true
@[simp] abbrev zoa (l:List Entry):Bool:=zeO l
def zxB:Run:=rF1 (dS .entry) fun b=>(zob b,[aB (zoa b)])
def zBc (N:Nat)(a0:lE):OA:=
 (iter (σ:=(Int×(Int×(lE×Unit)))) N (fun r2 s3=>let y3:=s3.2.2.1;let y1:=(ix y3 s3.2.1 zfl); (cond (ilt s3.2.1 s3.1) (oN (inb s3.2.1 (ln y3)) (oN (inr 0 s3.2.1 (ln y3)) (iter (σ:=(Int×(Int×(Int×(Int×(Int×(Int×(Int×(Int×(lE×(lE×Unit))))))))))) N (fun r4 s5=>let y4:=s5.2.2.2.1;let y2:=s5.2.2.2.2.2.2.2.2.2.1;let y0:=(r4 (s5.1,(s5.2.1,(s5.2.2.1,((zI .i64 y4 1),(s5.2.2.2.2.1,(s5.2.2.2.2.2.1,(s5.2.2.2.2.2.2.1,(s5.2.2.2.2.2.2.2.1,(s5.2.2.2.2.2.2.2.2.1,(y2,()))))))))))); (cond (ilt y4 s5.2.2.1) (oN (inb y4 (ln y2)) (cond (ieq s5.2.2.2.2.1 (ix y2 y4 zfl).Tag) (cond (ieq s5.2.2.2.2.2.1 (ix y2 y4 zfl).Page) oF y0) y0)) (r2 (s5.1,((zI .i64 s5.2.1 1),(s5.2.2.2.2.2.2.2.2.1,())))))) (s3.1,(s3.2.1,((ln (tk y3 s3.2.1)),(0,(y1.Tag,(y1.Page,(y1.Host,(y1.Rights,(y3,((tk y3 s3.2.1),()))))))))))))) (some [(aB (ile (ln y3) 6))]))) ((ln a0),(0,(a0,()))))
def zPn:FuncId->Nat->Option Tmpl:=zq [(107,0,{ n:=39,tm:=[(0,.sl 0 []),(7,.sl 0 []),(8,ti),(9,ti)],lo:=[],ro:=[(0,.entry,false)] }),(107,2,{ n:=39,tm:=[(0,.sl 0 []),(4,.lp 0 0),(7,.sl 0 []),(8,ti),(9,ti),(16,.sl 1 []),(17,ti),(18,ti)],lo:=[(0,[ti,ti,ti,ti])],ro:=[(0,.entry,false),(1,.entry,false)] })]
theorem zOl (a0:List Entry)(hb:zbN big [aS .entry a0])(hc:zob a0=true):∃N,zBc N a0=some [aB (zoa a0)]:=by
 have hl:=(len0 hb);refine zce fun N hNN=>?_;unfold zBc oN
 conv=>zeta
 refine (zbd a0 (fun i (t:Unit)=>((ln a0),(i:Int),a0,())) _ (fun i (x:Entry) (_:Unit) κ=>bif alone a0 i x then κ () else oF) (fun (t:Unit)=>(some [(.one (.b (ile (ln a0) 6)))])) (fun i hi t rec=>?_) (fun t rec=>?_) _ () (hNN hl)).trans ?_
 .simp only [zbx hi,zbb hi,zbg hi,zZ hi hl,cT];rw[z4D (Nat.le_of_lt hi),cT];have hk:(tk a0 (i:Int)).length<=big:=jD (by simp[tk];omega) hl
  refine (zbd (tk a0 (i:Int)) (fun j (u:Unit)=>((ln a0),(i:Int),(ln (tk a0 (i:Int))),(j:Int),a0[i].Tag,a0[i].Page,a0[i].Host,a0[i].Rights,a0,(tk a0 (i:Int)),())) _ (fun _ (y:Entry) (_:Unit) κ=>bif !sameKey a0[i] y then κ () else oF) (fun (u:Unit)=>(rec ((ln a0),((((i+1:Nat)):Int),(a0,()))))) (fun j hj u rec1=>?_) (fun u rec1=>?_) _ () (hNN hk)).trans ?_
  .simp only [zbx hj,zbb hj,zbg hj,zZ hj hk,cT,zZ hi hl];unfold sameKey;cases ieq a0[i].Tag (tk a0 (i:Int))[j].Tag<;>cases ieq a0[i].Page (tk a0 (i:Int))[j].Page<;>rfl
  .simp only [zbp,cF,zZ hi hl]
  rw[zgh (fun y=>!sameKey a0[i] y)];rfl
 .simp only [zbp,cF]
 rw[zHA (alone a0)];unfold zoa zeO;cases allI (alone a0) a0 0<;>rfl
theorem zHF:vJ 107 zxB:=hF1 zyv zk zl zo zPn zOl
@[simp] abbrev zoQ (l:List Entry):Bool:=true
@[simp] abbrev zoP (l:List Entry):Bool:=zeO l
def zxS:Run:=rF1 (dS .entry) fun b=>(zoQ b,[aB (zoP b)])
def zBw (N:Nat)(a0:lE):OA:=
 (iter (σ:=(Int×(lE×Unit))) N (fun r2 s3=>(cond (ilt s3.1 (ln s3.2.1)) (iter (σ:=(Int×(Int×(lE×Unit)))) N (fun r4 s5=>let y0:=s5.2.2.1;let y2:=(ix y0 s5.2.1 zfl);let y1:=(r4 (s5.1,((zI .i64 s5.2.1 1),(y0,())))); (cond (ilt s5.2.1 s5.1) (oN (inb s5.1 (ln y0)) (oN (inb s5.2.1 (ln y0)) (cond (ieq (ix y0 s5.1 zfl).Tag y2.Tag) (oN (inb s5.1 (ln y0)) (oN (inb s5.2.1 (ln y0)) (cond (ieq (ix y0 s5.1 zfl).Page y2.Page) oF y1))) y1))) (r2 ((zI .i64 s5.1 1),(y0,()))))) (s3.1,(0,(s3.2.1,())))) (some [(aB (ile (ln s3.2.1) 6))]))) (0,(a0,())))
def zPs:FuncId->Nat->Option Tmpl:=zq [(156,0,{ n:=43,tm:=[(0,.sl 0 []),(3,ti)],lo:=[],ro:=[(0,.entry,false)] }),(156,2,{ n:=43,tm:=[(0,.sl 0 []),(3,ti),(4,ti)],lo:=[],ro:=[(0,.entry,false)] })]
theorem zOF (a0:List Entry)(hb:zbN big [aS .entry a0])(hc:zoQ a0=true):∃N,zBw N a0=some [aB (zoP a0)]:=by
 have hl:=(len0 hb);refine zce fun N hNN=>?_;unfold zBw oN
 conv=>zeta
 refine (zbd a0 (fun i (t:Unit)=>((i:Int),a0,())) _ (fun i (x:Entry) (_:Unit) κ=>bif alone a0 i x then κ () else oF) (fun (t:Unit)=>(some [(.one (.b (ile (ln a0) 6)))])) (fun i hi t rec=>?_) (fun t rec=>?_) _ () (hNN hl)).trans ?_
 .simp only [zbx hi,zbb hi,zbg hi,zZ hi hl,cT];refine (ztU i (fun (j:Nat) (_:Unit)=>((i:Int),((j:Int),(a0,())))) _ (fun j (_:Unit) κ=>bif !sameKey a0[i] (ix a0 (j:Int) zfl) then κ () else oF) (fun _=>rec (((i+1:Nat):Int),(a0,()))) (fun j hj u rec1=>?_) (fun u rec1=>?_) _ () (hNN (by omega))).trans ?_
  .have hj2:j<a0.length:=by omega
   simp only[show ilt (j:Int) (i:Int)=true from qJ (by omega),zbb hi,zbb hj2,zbg hi,zZ hj2 hl,cT]
   unfold sameKey;cases ieq a0[i].Tag (ix a0 (j:Int) zfl).Tag<;>cases ieq a0[i].Page (ix a0 (j:Int) zfl).Page<;>rfl
  .simp only [show ilt (i:Int) (i:Int)=false from qG (by omega),zZ hi hl,cF]
  rw[zEn (fun j=>!sameKey a0[i] (ix a0 (j:Int) zfl)),zP7 (fun y=>!sameKey a0[i] y) a0 _ i 0 (by omega)]
  rfl
 .simp only [zbp,cF]
 rw[zHA (alone a0)];unfold zoP zeO;cases allI (alone a0) a0 0<;>rfl
theorem zHW:vJ 156 zxS:=hF1 zyv zk zl zo zPs zOF
def z6t:zO:=[(48,zxJ),(156,zxS),(107,zxB)]++z6s
theorem zHp:zG z6t:=zh zHN (zh zHW (zh zHF zyv))
theorem zOd (a b:Int):igt a b = !ile a b:=by
 unfold igt ile
 by_cases h:a<=b
 .rw [qJ h,qG (by omega)];rfl
 .rw [qG h,qJ (by omega)];rfl
theorem stB {c M:Bool}{E:OA}(h:c=true->E=some [AV.one (.b M)]):(cond (cond c false true) (some [AV.one (.b false)]) E)=some [AV.one (.b (cond c M false))]:=by
 cases c
 .rfl
 .exact h rfl
theorem stI {a b:Int}{M:Bool}{E:OA}(h:ieq a b=true->E=some [AV.one (.b M)]):(cond (ine a b) (some [AV.one (.b false)]) E)=some [AV.one (.b (cond (ieq a b) M false))]:=by
 rw[zlo];cases hh:ieq a b
 .rfl
 .exact h hh
theorem stG {a b:Int}{M:Bool}{E:OA}(h:ile a b=true->E=some [AV.one (.b M)]):(cond (igt a b) (some [AV.one (.b false)]) E)=some [AV.one (.b (cond (ile a b) M false))]:=by
 rw[zOd];cases hh:ile a b
 .rfl
 .exact h hh
def zlw (s:Slot)(p:List Int):Bool:=bif zcI s noSlot then zca p else (cond (enough s.Rights 1) (ile (ln p) 0) false)
def fits (m:Mon)(j:Nat):Bool:=zlw (ix m.Outer (j:Int) zN) (ix m.Out (j:Int) [])
def zdW (m:Mon):Bool:=bif win (ln m.Guests) 1 2 then (cond (ieq (ln m.Tables) (ln m.Guests)) (cond (zcF m.Outer 8 12) (cond (ieq (ln m.Out) 8) (cond (ieq (ln m.Dirty) 8) (cond (ile (ln m.Outs) 40) (cond (zcR m.Pending) (cond (win m.Traps 0 3) (cond (win m.Own 0 1000000000) (cond (m.Guests.all zcV) (zn1 (fits m) 8 0) false) false) false) false) false) false) false) false) false) else false
theorem zrB {t:List Slot}{n p:Int}(h:zcF t n p=true):ln t=n:=by
 unfold zcF at h;cases h1:t.all (fun s=>zdC s p)
 .rw [h1]at h;cases h
 .rw [h1]at h;exact qE h
@[simp] abbrev zrl (m:Mon):Bool:=true
@[simp] abbrev ztc (m:Mon):Bool:=zdW m
def zGD:Run:=rF1 (dT .mon) fun b=>(zrl b,[aB (ztc b)])
def zPN (N:Nat)(a0:Mon):OA:=
 let y5:=(ln a0.Guests); (oN (zbD y5 1 2) (cond (nB (zbR y5 1 2)) oF (cond (ine (ln a0.Tables) y5) oF (oN (zmh a0.Outer 8 12) (cond (nB (zhJ a0.Outer 8 12)) oF (cond (ine (ln a0.Out) 8) oF (cond (ine (ln a0.Dirty) 8) oF (cond (igt (ln a0.Outs) 40) oF (oN (zi6 a0.Pending) (cond (nB (zi5 a0.Pending)) oF (oN (zbD a0.Traps 0 3) (cond (nB (zbR a0.Traps 0 3)) oF (oN (zbD a0.Own 0 1000000000) (cond (nB (zbR a0.Own 0 1000000000)) oF (iter (σ:=(Int×(Int×(Int×(Int×(Int×(lG×(lS×(lM×(lB×((List Int)×(lK×Unit)))))))))))) N (fun r2 s3=>let y6:=s3.2.2.2.2.2.2.1;let y3:=s3.2.2.2.2.2.1;let y7:=(ix y3 s3.2.1 zi); (cond (ilt s3.2.1 s3.1) (oN (inb s3.2.1 (ln y3)) (oN (zmf y7) (cond (nB (zkq y7)) oF (r2 (s3.1,((zI .i64 s3.2.1 1),(s3.2.2.1,(s3.2.2.2.1,(s3.2.2.2.2.1,(y3,(y6,(s3.2.2.2.2.2.2.2.1,(s3.2.2.2.2.2.2.2.2.1,(s3.2.2.2.2.2.2.2.2.2.1,(s3.2.2.2.2.2.2.2.2.2.2.1,()))))))))))))))) (iter (σ:=(Int×(Int×(Int×(Int×(Int×(lS×(lM×(lB×(lG×((List Int)×(lK×Unit)))))))))))) N (fun r4 s5=>let y4:=s5.2.1;let y2:=s5.2.2.2.2.2.2.1;let y1:=(ix s5.2.2.2.2.2.1 y4 zN);let y0:=(r4 (s5.1,((zI .i64 y4 1),(s5.2.2.1,(s5.2.2.2.1,(s5.2.2.2.2.1,(s5.2.2.2.2.2.1,(y2,(s5.2.2.2.2.2.2.2.1,(s5.2.2.2.2.2.2.2.2.1,(s5.2.2.2.2.2.2.2.2.2.1,(s5.2.2.2.2.2.2.2.2.2.2.1,())))))))))))); (cond (ilt y4 s5.1) (oN (inb y4 (ln s5.2.2.2.2.2.1)) (oN zdb (cond (cond (ieq y1.Page zcv.Page) (ieq y1.Rights zcv.Rights) false) (oN (inb y4 (ln y2)) (oN (zhI (ix y2 y4 [])) (cond (nB (zgn (ix y2 y4 []))) oF y0))) (oN (zdr y1.Rights 1) (cond (nB (zdR y1.Rights 1)) oF (oN (inb y4 (ln y2)) (cond (igt (ln (ix y2 y4 [])) 0) oF y0))))))) oT)) ((ln y6),(0,(s3.2.2.1,(s3.2.2.2.1,(s3.2.2.2.2.1,(y6,(s3.2.2.2.2.2.2.2.1,(s3.2.2.2.2.2.2.2.2.1,(y3,(s3.2.2.2.2.2.2.2.2.2.1,(s3.2.2.2.2.2.2.2.2.2.2.1,())))))))))))))) (y5,(0,(a0.Pending,(a0.Traps,(a0.Own,(a0.Guests,(a0.Outer,(a0.Out,(a0.Dirty,(a0.Outs,(a0.Tables,()))))))))))))))))))))))))))
def zX1:FuncId->Nat->Option Tmpl:=zq [(108,0,{ n:=106,tm:=[(1,.lp 0 0),(64,.sl 0 []),(65,ti),(66,ti)],lo:=[(0,[.sl 1 [],.sl 2 [],.sl 3 [],.sl 0 [],.sl 4 [],ti,ti,.sl 5 [],ti])],ro:=[(0,.guest,false),(1,.slot,false),(2,(.sl .int),false),(3,.bool,false),(4,.int,false),(5,.kept,false)] }),(108,2,{ n:=106,tm:=[(1,.lp 0 0),(75,.sl 0 []),(76,ti),(77,ti)],lo:=[(0,[.sl 0 [],.sl 1 [],.sl 2 [],.sl 3 [],.sl 4 [],ti,ti,.sl 5 [],ti])],ro:=[(0,.slot,false),(1,(.sl .int),false),(2,.bool,false),(3,.guest,false),(4,.int,false),(5,.kept,false)] })]
theorem zW6 (a0:Mon)(hb:zbN big [aT .mon a0])(hc:zrl a0=true):∃N,zPN N a0=some [aB (ztc a0)]:=by
 have hg:a0.Guests.length<=big:=((zc0 hb).1 (.s .guest a0.Guests) (by simp[AV.cvs,Ty.cells])).len
 have ho:a0.Outer.length<=big:=((zc0 hb).1 (.s .slot a0.Outer) (by simp[AV.cvs,Ty.cells])).len
 refine zce fun N hNN=>?_;unfold zPN ztc zdW oN nB
 conv=>zeta
 refine must rfl (stB fun h0=>stI fun h1=>must rfl (stB fun h2=>stI fun h3=>stI fun h4=>stG fun h5=>must rfl (stB fun h6=>must rfl (stB fun h7=>must rfl (stB fun h8=>?_)))));have e1:=zrB h2;have e3:ln a0.Out=8:=qE h3;simp only[ln] at e1 e3;refine (zbd a0.Guests (fun i (t:Unit)=>((ln a0.Guests),(i:Int),a0.Pending,a0.Traps,a0.Own,a0.Guests,a0.Outer,a0.Out,a0.Dirty,a0.Outs,a0.Tables,())) _ (fun _ (x:Guest) (_:Unit) κ=>bif zcV x then κ () else oF) (fun (t:Unit)=>(iter (σ:=(Int×(Int×(Int×(Int×(Int×(lS×(lM×(lB×(lG×((List Int)×(lK×Unit)))))))))))) N (fun r4 s5=>(cond (ilt s5.2.1 s5.1) (cond (inb s5.2.1 (ln s5.2.2.2.2.2.1)) (cond zdb (cond (cond (ieq (ix s5.2.2.2.2.2.1 s5.2.1 zN).Page zcv.Page) (ieq (ix s5.2.2.2.2.2.1 s5.2.1 zN).Rights zcv.Rights) false) (cond (inb s5.2.1 (ln s5.2.2.2.2.2.2.1)) (cond (zhI (ix s5.2.2.2.2.2.2.1 s5.2.1 [])) (cond (cond (zgn (ix s5.2.2.2.2.2.2.1 s5.2.1 [])) false true) oF (r4 (s5.1,((zI .i64 s5.2.1 1),(s5.2.2.1,(s5.2.2.2.1,(s5.2.2.2.2.1,(s5.2.2.2.2.2.1,(s5.2.2.2.2.2.2.1,(s5.2.2.2.2.2.2.2.1,(s5.2.2.2.2.2.2.2.2.1,(s5.2.2.2.2.2.2.2.2.2.1,(s5.2.2.2.2.2.2.2.2.2.2.1,()))))))))))))) none) none) (cond (zdr (ix s5.2.2.2.2.2.1 s5.2.1 zN).Rights 1) (cond (cond (zdR (ix s5.2.2.2.2.2.1 s5.2.1 zN).Rights 1) false true) oF (cond (inb s5.2.1 (ln s5.2.2.2.2.2.2.1)) (cond (igt (ln (ix s5.2.2.2.2.2.2.1 s5.2.1 [])) 0) oF (r4 (s5.1,((zI .i64 s5.2.1 1),(s5.2.2.1,(s5.2.2.2.1,(s5.2.2.2.2.1,(s5.2.2.2.2.2.1,(s5.2.2.2.2.2.2.1,(s5.2.2.2.2.2.2.2.1,(s5.2.2.2.2.2.2.2.2.1,(s5.2.2.2.2.2.2.2.2.2.1,(s5.2.2.2.2.2.2.2.2.2.2.1,()))))))))))))) none)) none)) none) none) (some [(.one (.b true))]))) ((ln a0.Outer),(0,(a0.Pending,(a0.Traps,(a0.Own,(a0.Outer,(a0.Out,(a0.Dirty,(a0.Guests,(a0.Outs,(a0.Tables,()))))))))))))) (fun i hi t rec=>?_) (fun t rec=>?_) _ () (hNN hg)).trans ?_
 .simp only [zbx hi,zbb hi,zbg hi,zZ hi hg,cT];simp only[zmf,zkq,cT];cases zcV a0.Guests[i]<;>rfl
 .simp only [zbp,cF]
 rw[zgh zcV];cases a0.Guests.all zcV
 .rfl
 simp only[cT];refine (zbd a0.Outer (fun j (u:Unit)=>((ln a0.Outer),(j:Int),a0.Pending,a0.Traps,a0.Own,a0.Outer,a0.Out,a0.Dirty,a0.Guests,a0.Outs,a0.Tables,())) _ (fun j (_:Slot) (_:Unit) κ=>bif fits a0 j then κ () else oF) (fun (u:Unit)=>(some [(.one (.b true))])) (fun j hj u rec1=>?_) (fun u rec1=>?_) _ () (hNN ho)).trans ?_
 .simp only [zbx hj,zbb hj,zbg hj,zZ hj ho,cT];have hj2:j<a0.Out.length:=by omega
  simp only[zdb,zcv,zhI,zgn,zdr,zdR,zbb hj2,zOd,cT];unfold fits zlw;simp only[zbg hj,zcI];cases ieq a0.Outer[j].Page noSlot.Page<;>cases ieq a0.Outer[j].Rights noSlot.Rights<;>cases enough a0.Outer[j].Rights 1<;>cases ile (ln (ix a0.Out (j:Int) [])) 0<;>cases zca (ix a0.Out (j:Int) [])<;>rfl
 .simp only [zbp,cF]
 rw[zxh (fun j (_:Unit) κ=>bif fits a0 j then κ () else oF),zEn (fits a0),show a0.Outer.length=8 by omega]
 cases zn1 (fits a0) 8 0<;>rfl
theorem zRd:vJ 108 zGD:=hF1 zHp zk zl zo zX1 zW6
@[simp] abbrev zry (m:Mon):Bool:=true
@[simp] abbrev ztm (m:Mon):Bool:=zdW m
def zGO:Run:=rF1 (dT .mon) fun b=>(zry b,[aB (ztm b)])
def zPZ (N:Nat)(a0:Mon):OA:=
 (oN (zJ (ln a0.Guests) 1 2) (cond (nB (zL (ln a0.Guests) 1 2)) oF (cond (ine (ln a0.Tables) (ln a0.Guests)) oF (oN (zmD a0.Outer 8 12) (cond (nB (zhP a0.Outer 8 12)) oF (cond (ine (ln a0.Out) 8) oF (cond (ine (ln a0.Dirty) 8) oF (iter (σ:=(Int×(Int×(Int×(Int×(lS×(lM×(lB×(lG×((List Int)×(lK×Unit))))))))))) N (fun r2 s3=>let y3:=s3.2.2.2.2.2.2.2.1; (cond (ilt s3.1 (ln y3)) (oN (inb s3.1 (ln y3)) (oN (zmz (ix y3 s3.1 zi)) (cond (nB (zkL (ix y3 s3.1 zi))) oF (r2 ((zI .i64 s3.1 1),(s3.2.1,(s3.2.2.1,(s3.2.2.2.1,(s3.2.2.2.2.1,(s3.2.2.2.2.2.1,(s3.2.2.2.2.2.2.1,(y3,(s3.2.2.2.2.2.2.2.2.1,(s3.2.2.2.2.2.2.2.2.2.1,())))))))))))))) (iter (σ:=(Int×(Int×(Int×(Int×(lS×(lM×(lB×(lG×((List Int)×(lK×Unit))))))))))) N (fun r4 s5=>let y7:=s5.2.2.2.2.1;let y4:=(inb s5.1 (ln s5.2.2.2.2.2.1));let y2:=(ix s5.2.2.2.2.2.1 s5.1 []);let y1:=(ix y7 s5.1 zN);let y6:=(ieq y1.Rights zbs.Rights);let y5:=(ieq y1.Page zbs.Page);let y0:=(r4 ((zI .i64 s5.1 1),(s5.2.1,(s5.2.2.1,(s5.2.2.2.1,(y7,(s5.2.2.2.2.2.1,(s5.2.2.2.2.2.2.1,(s5.2.2.2.2.2.2.2.1,(s5.2.2.2.2.2.2.2.2.1,(s5.2.2.2.2.2.2.2.2.2.1,()))))))))))); (cond (ilt s5.1 8) (oN (inb s5.1 (ln y7)) (oN zcq (cond (nB (cond y5 y6 false)) (oN y4 (cond (igt (ln y2) 0) oF (oN (inb s5.1 (ln y7)) (oN (zgC y1.Rights 1) (cond (nB (zhj y1.Rights 1)) oF (cond (nB (nB (cond y5 y6 false))) (oN y4 (oN (zfR y2) (cond (nB (ze7 y2)) oF y0))) y0)))))) (cond (nB (nB (cond y5 y6 false))) (oN y4 (oN (zfR y2) (cond (nB (ze7 y2)) oF y0))) y0)))) (cond (ile (ln s5.2.2.2.2.2.2.2.2.1) 40) (oN (ze9 s5.2.1) (cond (ze8 s5.2.1) (oN (zJ s5.2.2.1 0 3) (cond (zL s5.2.2.1 0 3) (oN (zJ s5.2.2.2.1 0 1000000000) (some [(aB (zL s5.2.2.2.1 0 1000000000))])) oF)) oF)) oF))) (0,(s3.2.1,(s3.2.2.1,(s3.2.2.2.1,(s3.2.2.2.2.1,(s3.2.2.2.2.2.1,(s3.2.2.2.2.2.2.1,(y3,(s3.2.2.2.2.2.2.2.2.1,(s3.2.2.2.2.2.2.2.2.2.1,()))))))))))))) (0,(a0.Pending,(a0.Traps,(a0.Own,(a0.Outer,(a0.Out,(a0.Dirty,(a0.Guests,(a0.Outs,(a0.Tables,()))))))))))))))))))
def zX3:FuncId->Nat->Option Tmpl:=zq [(157,0,{ n:=115,tm:=[(1,.lp 0 0),(3,ti)],lo:=[(0,[.sl 0 [],.sl 1 [],.sl 2 [],.sl 3 [],.sl 4 [],ti,ti,.sl 5 [],ti])],ro:=[(0,.slot,false),(1,(.sl .int),false),(2,.bool,false),(3,.guest,false),(4,.int,false),(5,.kept,false)] }),(157,2,{ n:=115,tm:=[(1,.lp 0 0),(4,ti)],lo:=[(0,[.sl 0 [],.sl 1 [],.sl 2 [],.sl 3 [],.sl 4 [],ti,ti,.sl 5 [],ti])],ro:=[(0,.slot,false),(1,(.sl .int),false),(2,.bool,false),(3,.guest,false),(4,.int,false),(5,.kept,false)] })]
theorem zXj (a0:Mon)(hb:zbN big [aT .mon a0])(hc:zry a0=true):∃N,zPZ N a0=some [aB (ztm a0)]:=by
 have hg:a0.Guests.length<=big:=((zc0 hb).1 (.s .guest a0.Guests) (by simp[AV.cvs,Ty.cells])).len
 refine zce fun N hNN=>?_;unfold zPZ ztm zdW oN nB
 conv=>zeta
 refine must rfl (stB fun h0=>stI fun h1=>must rfl (stB fun h2=>stI fun h3=>stI fun h4=>?_));have e1:=zrB h2;have e3:ln a0.Out=8:=qE h3;simp only[ln] at e1 e3;refine (zbd a0.Guests (fun i (t:Unit)=>((i:Int),a0.Pending,a0.Traps,a0.Own,a0.Outer,a0.Out,a0.Dirty,a0.Guests,a0.Outs,a0.Tables,())) _ (fun _ (x:Guest) (_:Unit) κ=>bif zcV x then κ () else oF) (fun (t:Unit)=>(iter (σ:=(Int×(Int×(Int×(Int×(lS×(lM×(lB×(lG×((List Int)×(lK×Unit))))))))))) N (fun r4 s5=>(cond (ilt s5.1 8) (cond (inb s5.1 (ln s5.2.2.2.2.1)) (cond zcq (cond (cond (cond (ieq (ix s5.2.2.2.2.1 s5.1 zN).Page zbs.Page) (ieq (ix s5.2.2.2.2.1 s5.1 zN).Rights zbs.Rights) false) false true) (cond (inb s5.1 (ln s5.2.2.2.2.2.1)) (cond (igt (ln (ix s5.2.2.2.2.2.1 s5.1 [])) 0) oF (cond (inb s5.1 (ln s5.2.2.2.2.1)) (cond (zgC (ix s5.2.2.2.2.1 s5.1 zN).Rights 1) (cond (cond (zhj (ix s5.2.2.2.2.1 s5.1 zN).Rights 1) false true) oF (cond (cond (cond (cond (ieq (ix s5.2.2.2.2.1 s5.1 zN).Page zbs.Page) (ieq (ix s5.2.2.2.2.1 s5.1 zN).Rights zbs.Rights) false) false true) false true) (cond (inb s5.1 (ln s5.2.2.2.2.2.1)) (cond (zfR (ix s5.2.2.2.2.2.1 s5.1 [])) (cond (cond (ze7 (ix s5.2.2.2.2.2.1 s5.1 [])) false true) oF (r4 ((zI .i64 s5.1 1),(s5.2.1,(s5.2.2.1,(s5.2.2.2.1,(s5.2.2.2.2.1,(s5.2.2.2.2.2.1,(s5.2.2.2.2.2.2.1,(s5.2.2.2.2.2.2.2.1,(s5.2.2.2.2.2.2.2.2.1,(s5.2.2.2.2.2.2.2.2.2.1,())))))))))))) none) none) (r4 ((zI .i64 s5.1 1),(s5.2.1,(s5.2.2.1,(s5.2.2.2.1,(s5.2.2.2.2.1,(s5.2.2.2.2.2.1,(s5.2.2.2.2.2.2.1,(s5.2.2.2.2.2.2.2.1,(s5.2.2.2.2.2.2.2.2.1,(s5.2.2.2.2.2.2.2.2.2.1,()))))))))))))) none) none)) none) (cond (cond (cond (cond (ieq (ix s5.2.2.2.2.1 s5.1 zN).Page zbs.Page) (ieq (ix s5.2.2.2.2.1 s5.1 zN).Rights zbs.Rights) false) false true) false true) (cond (inb s5.1 (ln s5.2.2.2.2.2.1)) (cond (zfR (ix s5.2.2.2.2.2.1 s5.1 [])) (cond (cond (ze7 (ix s5.2.2.2.2.2.1 s5.1 [])) false true) oF (r4 ((zI .i64 s5.1 1),(s5.2.1,(s5.2.2.1,(s5.2.2.2.1,(s5.2.2.2.2.1,(s5.2.2.2.2.2.1,(s5.2.2.2.2.2.2.1,(s5.2.2.2.2.2.2.2.1,(s5.2.2.2.2.2.2.2.2.1,(s5.2.2.2.2.2.2.2.2.2.1,())))))))))))) none) none) (r4 ((zI .i64 s5.1 1),(s5.2.1,(s5.2.2.1,(s5.2.2.2.1,(s5.2.2.2.2.1,(s5.2.2.2.2.2.1,(s5.2.2.2.2.2.2.1,(s5.2.2.2.2.2.2.2.1,(s5.2.2.2.2.2.2.2.2.1,(s5.2.2.2.2.2.2.2.2.2.1,()))))))))))))) none) none) (cond (ile (ln s5.2.2.2.2.2.2.2.2.1) 40) (cond (ze9 s5.2.1) (cond (ze8 s5.2.1) (cond (zJ s5.2.2.1 0 3) (cond (zL s5.2.2.1 0 3) (cond (zJ s5.2.2.2.1 0 1000000000) (some [(.one (.b (zL s5.2.2.2.1 0 1000000000)))]) none) oF) none) oF) none) oF))) (0,(a0.Pending,(a0.Traps,(a0.Own,(a0.Outer,(a0.Out,(a0.Dirty,(a0.Guests,(a0.Outs,(a0.Tables,())))))))))))) (fun i hi t rec=>?_) (fun t rec=>?_) _ () (hNN hg)).trans ?_
 .simp only [zbx hi,zbb hi,zbg hi,zZ hi hg,cT];simp only[zmz,zkL,cT];cases zcV a0.Guests[i]<;>rfl
 .simp only [zbp,cF]
 rw[zgh zcV];cases hq:a0.Guests.all zcV
 .simp only [cF];cases ile (ln a0.Outs) 40<;>cases zcR a0.Pending<;>cases win a0.Traps 0 3<;>cases win a0.Own 0 1000000000<;>rfl
 simp only[cT];refine (ztU 8 (fun j (u:Unit)=>((j:Int),a0.Pending,a0.Traps,a0.Own,a0.Outer,a0.Out,a0.Dirty,a0.Guests,a0.Outs,a0.Tables,())) _ (fun j (_:Unit) κ=>bif fits a0 j then κ () else oF) (fun (u:Unit)=>(cond (ile (ln a0.Outs) 40) (cond (ze9 a0.Pending) (cond (ze8 a0.Pending) (cond (zJ a0.Traps 0 3) (cond (zL a0.Traps 0 3) (cond (zJ a0.Own 0 1000000000) (some [(.one (.b (zL a0.Own 0 1000000000)))]) none) oF) none) oF) none) oF)) (fun j hj u rec1=>?_) (fun u rec1=>?_) _ () (hNN (by decide))).trans ?_
 .simp only [show ilt (j:Int) 8=true from qJ (by omega),zZ hj (show 8<=big by decide),cT]
  have hj1:j<a0.Outer.length:=by omega
  have hj2:j<a0.Out.length:=by omega
  simp only[zcq,zbs,zfR,ze7,zgC,zhj,zbb hj1,zbb hj2,zOd,cT];unfold fits zlw;simp only[zbg hj1,zcI];cases ieq a0.Outer[j].Page noSlot.Page<;>cases ieq a0.Outer[j].Rights noSlot.Rights<;>cases enough a0.Outer[j].Rights 1<;>cases ile (ln (ix a0.Out (j:Int) [])) 0<;>cases zca (ix a0.Out (j:Int) [])<;>rfl
 .simp only [show ilt (((8:Nat)):Int) 8=false from qG (by omega),cF]
  rfl
 rw[zEn (fits a0)];simp only[ze9,ze8,zJ,zSX,cT];cases zn1 (fits a0) 8 0<;>cases ile (ln a0.Outs) 40<;>cases zcR a0.Pending<;>cases win a0.Traps 0 3<;>cases win a0.Own 0 1000000000<;>rfl
theorem zRp:vJ 157 zGO:=hF1 zHp zk zl zo zX3 zXj
def z6u:zO:=[(157,zGO),(108,zGD)]++z6t
theorem zHq:zG z6u:=zh zRp (zh zRd zHp)
def zgw:List Slot->List Bool->Option (List Bool)
 | [],u=>some u
 | s :: l,u=>bif ilt s.Page 0 then zgw l u else (cond (ix u s.Page false) none (zgw l (up u s.Page true)))
def zin:List Mon->List Bool->Bool
 | [],_=>true
 | m :: l,u=>bif zdW m then (match zgw m.Outer u with|some u'=>zin l u'|none=>false) else false
def zbQ (h:Host):Bool:=bif zho h.Memory 12 then (cond (win (ln h.Mons) 1 3) (cond (zeO h.Buffer) (cond (zeO h.IoBuffer) (zin h.Mons (rp 12 false)) false) false) false) else false
theorem zpg:∀(l:List Slot) (u u':List Bool),zgw l u=some u'->u'.length=u.length
 | [],u,u',h=>by cases h;rfl
 | s :: l,u,u',h=>by
  simp only[zgw]at h;cases h1:ilt s.Page 0
  .rw [h1]at h;cases h2:ix u s.Page false
   .rw [h2]at h;simpa using zpg l _ u' h
   .rw [h2]at h;cases h
  .rw [h1]at h;exact zpg l u u' h
theorem zEA {t:List Slot}{n:Int}(h:zcF t n 12=true):∀s∈t,s.Page<12:=by
 intro s hs;unfold zcF at h;cases h1:t.all (fun s=>zdC s 12)
 .rw [h1]at h;cases h
 .have:=qM.1 h1 s hs;unfold zdC at this;cases h2:zcI s noSlot
  .rw [h2] at this;simp only[cF,show igt 12 0=true from rfl,cT] at this
   cases h3:win s.Page 0 (wsub .i64 12 1)
   .rw [h3] at this;cases this
   .have:=(zfh.1 h3).2;rw[show wsub .i64 12 1=11 from rfl] at this
    omega
  .unfold zcI at h2;rw[qD]at h2;have h2:s.Page = -1:=qE h2.1;omega
theorem zWA {s:Slot}{u:List Bool}(h:s.Page<12)(hu:u.length=12)(h0:ilt s.Page 0=false):inb s.Page (ln u)=true:=by
 have:=jT h0;exact qJ (by simp only[ln];omega)
def ztt {ρ:Type}(r:Option ρ)(y:Slot)(u:List Bool)(κ:List Bool->Option ρ):Option ρ:=bif ilt y.Page 0 then κ u else (cond (inb y.Page (ln u)) (cond (ix u y.Page false) r (cond (inb y.Page (ln u)) (share (up u y.Page true) (fun x6=>κ x6)) none)) none)
theorem zyF {ρ:Type}(r:Option ρ)(K:List Bool->Option ρ):∀(l:List Slot) (i:Nat) (u:List Bool),(∀s∈l,s.Page<12)->u.length=12 ->
 goL (fun _ y u κ=>ztt r y u κ) K l i u=match zgw l u with|some u'=>K u'|none=>r
 | [],_,_,_,_=>rfl
 | s :: l,i,u,h,hu=>by
  simp only[goL,zgw,ztt];cases h1:ilt s.Page 0
  .have hh:=zWA (h s (by simp)) hu h1
   rw[hh];cases ix u s.Page false
   .simp only [cF,cT,share];exact zyF r K l (i+1) _ (fun s hs=>h s (by simp[hs])) (by simpa using hu)
   .rfl
  .simp only [cT];exact zyF r K l (i+1) u (fun s hs=>h s (by simp[hs])) hu
def zZg {ρ:Type}(r:Option ρ)(m:Mon)(u:List Bool)(κ:List Bool->Option ρ):Option ρ:=bif zdW m then goL (fun _ y u κ=>ztt r y u κ) κ m.Outer 0 u else r
theorem zc1 {c x:Bool}:((cond c x false)=true)↔c=true/\x=true:=by
 cases c<;>simp
theorem zmt {m:Mon}(h:zdW m=true):zcF m.Outer 8 12=true:=by
 unfold zdW at h;simp only[zc1]at h;exact h.2.2.1
theorem zTM {K:Bool->OA}(k:List Bool->OA)(hk:∀u,k u=K true):∀(l:List Mon) (i:Nat) (u:List Bool),u.length=12 ->
 goL (fun _ m u κ=>zZg (K false) m u κ) k l i u=K (zin l u)
 | [],_,u,_=>hk u
 | m :: l,i,u,hu=>by
  simp only[goL,zin,zZg];cases h1:zdW m
  .rfl
  .simp only [cT];have ht:=zmt h1;rw[zyF _ _ _ _ _ (zEA ht) hu];cases h2:zgw m.Outer u with
   | none=>rfl
   | some u'=>exact zTM k hk l (i+1) u' ((zpg _ _ _ h2).trans hu)
@[simp] abbrev zoe (h:Host):Bool:=true
@[simp] abbrev zm7 (h:Host):Bool:=zbQ h
def zCS:Run:=rF1 dH fun b=>(zoe b,[aB (zm7 b)])
def zJd (N:Nat)(a0:Host):OA:=
 (oN (zrk a0.Memory 12) (cond (nB (zlk a0.Memory 12)) oF (oN (zbD (ln a0.Mons) 1 3) (cond (nB (zbR (ln a0.Mons) 1 3)) oF (oN (zob a0.Buffer) (cond (nB (zoa a0.Buffer)) oF (oN (zob a0.IoBuffer) (cond (nB (zoa a0.IoBuffer)) oF (oN (cond (few 12) (ieq 12 12) false) (iter (σ:=(Int×(Int×(lB×(lN×Unit))))) N (fun r2 s3=>let y1:=(ix s3.2.2.2.1 s3.2.1 zf); (cond (ilt s3.2.1 s3.1) (oN (inb s3.2.1 (ln s3.2.2.2.1)) (oN (zrl y1) (cond (nB (ztc y1)) oF (iter (σ:=(Int×(Int×(Int×(Int×(Int×(lB×(lN×Unit)))))))) N (fun r4 s5=>let y4:=s5.2.2.2.2.1;let y3:=s5.2.2.2.2.2.2.1;let y5:=(ix y3 s5.2.2.1 zf).Outer;let y2:=s5.2.2.2.2.2.1;let y0:=(ix y5 y4 zN).Page; (cond (ilt y4 s5.2.2.2.1) (oN (inb y4 (ln y5)) (cond (ilt y0 0) (r4 (s5.1,(s5.2.1,(s5.2.2.1,(s5.2.2.2.1,((zI .i64 y4 1),(y2,(y3,())))))))) (oN (inb y0 (ln y2)) (cond (ix y2 y0 false) oF (oN (inb y0 (ln y2)) (share (up y2 y0 true) (fun x6=>(r4 (s5.1,(s5.2.1,(s5.2.2.1,(s5.2.2.2.1,((zI .i64 y4 1),(x6,(y3,()))))))))))))))) (r2 (s5.1,((zI .i64 s5.2.1 1),(y2,(y3,()))))))) (s3.1,(s3.2.1,(s3.2.1,((ln y1.Outer),(0,(s3.2.2.1,(s3.2.2.2.1,()))))))))))) oT)) ((ln a0.Mons),(0,((rp 12 false),(a0.Mons,()))))))))))))))
def zWd:FuncId->Nat->Option Tmpl:=zq [(44,0,{ n:=63,tm:=[(3,.sl 0 []),(33,.sl 1 []),(34,ti),(35,ti)],lo:=[],ro:=[(0,.bool,true),(1,.mon,false)] }),(44,2,{ n:=63,tm:=[(3,.sl 0 []),(33,.sl 1 []),(34,ti),(35,ti),(43,.sl 1 [0]),(44,ti),(45,ti)],lo:=[],ro:=[(0,.bool,true),(1,.mon,false)] })]
theorem zUd (a0:Host)(hb:zbN big [aH a0])(hc:zoe a0=true):∃N,zJd N a0=some [aB (zm7 a0)]:=by
 have hm:CVB big (.s .mon a0.Mons):=(zc0 hb).1 _ (by simp[AV.cvs,zbc])
 have hl:=hm.len;refine zce fun N hNN=>?_;unfold zJd zm7 zbQ oN nB
 conv=>zeta
 refine must rfl (stB fun h0=>must rfl (stB fun h1=>must rfl (stB fun h2=>must rfl (stB fun h3=>must rfl ?_))));refine (zbd a0.Mons (fun i (t:lB)=>((ln a0.Mons),(i:Int),t,a0.Mons,())) _ (fun _ (x:Mon) (u:List Bool) κ=>zZg (oF) x u κ) (fun (t:lB)=>(some [(.one (.b true))])) (fun i hi t rec=>?_) (fun t rec=>?_) _ ((rp 12 false)) (hNN hl)).trans ?_
 .simp only [zbx hi,zbb hi,zbg hi,zZ hi hl,cT];unfold zZg;cases h4:zdW a0.Mons[i]
  .simp only [zrl,ztc,h4,cT,cF]
  simp only[zrl,ztc,h4,cT,cF];have ho:a0.Mons[i].Outer.length<=big:=(hm.inv.2 _ (jH hi) (.s .slot _) (by simp[Ty.cells])).len
  refine (zbd a0.Mons[i].Outer (fun j (u:lB)=>((ln a0.Mons),(i:Int),(i:Int),(ln a0.Mons[i].Outer),(j:Int),u,a0.Mons,())) _ (fun _ (y:Slot) (u:List Bool) κ=>ztt (oF) y u κ) (fun (u:lB)=>(rec ((ln a0.Mons),((((i+1:Nat)):Int),(u,(a0.Mons,())))))) (fun j hj u rec1=>?_) (fun u rec1=>?_) _ (t) (hNN ho)).trans ?_
  .simp only [zbx hj,zbb hj,zbg hj,zZ hj ho,cT,zbb hi,zbg hi,zZ hi hl];rfl
  .simp only [zbp,cF,zbb hi,zbg hi,zZ hi hl]
  rfl
 .simp only [zbp,cF]
 exact zTM (K:=fun b=>some [AV.one (.b b)]) _ (fun _=>rfl) _ _ _ rfl
theorem zNm:vJ 44 zCS:=hF1 zHq zk zl zo zWd zUd
@[simp] abbrev ze5 (h:Host):Bool:=true
@[simp] abbrev ze4 (h:Host):Bool:=zbQ h
theorem zHC {ρ:Type}(r:Option ρ)(k:List Bool->Option ρ)(m:Mon):∀(n i:Nat) (u:List Bool),(∀s∈m.Outer,s.Page<12)->u.length=12->i+n=m.Outer.length ->
 goN (fun j u κ=>bif inb (j:Int) (ln m.Outer) then ztt r (ix m.Outer (j:Int) zN) u κ else none) k n i u=goL (fun _ y u κ=>ztt r y u κ) k (m.Outer.drop i) i u
 | 0,i,u,_,_,h=>by
  have:i=m.Outer.length:=by omega
  subst this;simp[goN,goL]
 | n+1,i,u,hs,hu,h=>by
  have hi:i<m.Outer.length:=by omega
  rw[kW hi];simp only[goN,goL,zbb hi,zbg hi,cT,ztt];cases h1:ilt m.Outer[i].Page 0
  .rw [zWA (hs _ (jH hi)) hu h1];cases ix u m.Outer[i].Page false
   .simp only [cF,cT,share];exact zHC r k m n (i+1) _ hs (by simpa using hu) (by omega)
   .rfl
  .simp only [cT];exact zHC r k m n (i+1) u hs hu (by omega)
def zDk:Run:=rF1 dH fun b=>(ze5 b,[aB (ze4 b)])
def zJE (N:Nat)(a0:Host):OA:=
 (oN (zrv a0.Memory 12) (cond (nB (zlM a0.Memory 12)) oF (oN (zJ (ln a0.Mons) 1 3) (cond (nB (zL (ln a0.Mons) 1 3)) oF (oN (zoQ a0.Buffer) (cond (nB (zoP a0.Buffer)) oF (oN (zoQ a0.IoBuffer) (cond (nB (zoP a0.IoBuffer)) oF (oN (cond (few 12) (ieq 12 12) false) (iter (σ:=(Int×(lB×(lM×(lN×(lE×(lE×Unit))))))) N (fun r2 s3=>let y7:=(ix s3.2.2.2.1 s3.1 zf); (cond (ilt s3.1 (ln s3.2.2.2.1)) (oN (inb s3.1 (ln s3.2.2.2.1)) (oN (zry y7) (cond (nB (ztm y7)) oF (iter (σ:=(Int×(Int×(lB×(lM×(lN×(lE×(lE×Unit)))))))) N (fun r4 s5=>let y6:=(zI .i64 s5.2.1 1);let y5:=s5.2.2.2.2.2.1;let y4:=s5.2.2.2.2.2.2.1;let y3:=s5.2.2.1;let y2:=s5.2.2.2.2.1;let y8:=(ix y2 s5.1 zf).Outer;let y1:=(r4 (s5.1,(y6,(y3,(s5.2.2.2.1,(y2,(y5,(y4,()))))))));let y0:=(ix y8 s5.2.1 zN).Page;let y9:=(inb y0 (ln y3)); (cond (ilt s5.2.1 8) (oN (inb s5.1 (ln y2)) (oN (inb s5.2.1 (ln y8)) (cond (ige y0 0) (oN y9 (cond (ix y3 y0 false) oF (cond (ige y0 0) (oN y9 (share (up y3 y0 true) (fun x6=>(r4 (s5.1,(y6,(x6,(s5.2.2.2.1,(y2,(y5,(y4,()))))))))))) y1))) (cond (ige y0 0) (oN y9 (share (up y3 y0 true) (fun x6=>(r4 (s5.1,(y6,(x6,(s5.2.2.2.1,(y2,(y5,(y4,()))))))))))) y1)))) (r2 ((zI .i64 s5.1 1),(y3,(s5.2.2.2.1,(y2,(y5,(y4,()))))))))) (s3.1,(0,(s3.2.1,(s3.2.2.1,(s3.2.2.2.1,(s3.2.2.2.2.1,(s3.2.2.2.2.2.1,()))))))))))) oT)) (0,((rp 12 false),(a0.Memory,(a0.Mons,(a0.Buffer,(a0.IoBuffer,()))))))))))))))))
def zWl:FuncId->Nat->Option Tmpl:=zq [(97,0,{ n:=72,tm:=[(1,.lp 0 0),(3,.sl 0 []),(4,ti)],lo:=[(0,[.sl 1 [],.sl 2 [],.sl 3 [],.sl 4 []])],ro:=[(0,.bool,true),(1,(.sl .int),false),(2,.mon,false),(3,.entry,false),(4,.entry,false)] }),(97,2,{ n:=72,tm:=[(1,.lp 0 0),(3,.sl 0 []),(4,ti),(5,ti)],lo:=[(0,[.sl 1 [],.sl 2 [],.sl 3 [],.sl 4 []])],ro:=[(0,.bool,true),(1,(.sl .int),false),(2,.mon,false),(3,.entry,false),(4,.entry,false)] })]
theorem zUF (a0:Host)(hb:zbN big [aH a0])(hc:ze5 a0=true):∃N,zJE N a0=some [aB (ze4 a0)]:=by
 have hm:CVB big (.s .mon a0.Mons):=(zc0 hb).1 _ (by simp[AV.cvs,zbc])
 have hl:=hm.len;refine zce fun N hNN=>?_;unfold zJE ze4 zbQ oN nB
 conv=>zeta
 refine must rfl (stB fun h0=>must rfl (stB fun h1=>must rfl (stB fun h2=>must rfl (stB fun h3=>must rfl ?_))));refine (zbd a0.Mons (fun i (t:lB)=>((i:Int),t,a0.Memory,a0.Mons,a0.Buffer,a0.IoBuffer,())) _ (fun _ (x:Mon) (u:List Bool) κ=>bif zdW x then goN (fun j u κ=>bif inb (j:Int) (ln x.Outer) then ztt (oF) (ix x.Outer (j:Int) zN) u κ else none) κ 8 0 u else oF) (fun (t:lB)=>(some [(.one (.b true))])) (fun i hi t rec=>?_) (fun t rec=>?_) _ ((rp 12 false)) (hNN hl)).trans ?_
 .simp only [zbx hi,zbb hi,zbg hi,zZ hi hl,cT];cases h4:zdW a0.Mons[i]
  .simp only [zry,ztm,h4,cT,cF]
  simp only[zry,ztm,h4,cT,cF];refine (ztU 8 (fun j (u:lB)=>((i:Int),(j:Int),u,a0.Memory,a0.Mons,a0.Buffer,a0.IoBuffer,())) _ (fun j (u:List Bool) κ=>bif inb (j:Int) (ln a0.Mons[i].Outer) then ztt (oF) (ix a0.Mons[i].Outer (j:Int) zN) u κ else none) (fun (u:lB)=>(rec ((((i+1:Nat)):Int),(u,(a0.Memory,(a0.Mons,(a0.Buffer,(a0.IoBuffer,())))))))) (fun j hj u rec1=>?_) (fun u rec1=>?_) _ (t) (hNN (by decide))).trans ?_
  .simp only [show ilt (j:Int) 8=true from qJ (by omega),zZ hj (show 8<=big by decide),cT,zbb hi,zbg hi,zZ hi hl]
   unfold ztt;have e:ige (ix a0.Mons[i].Outer (j:Int) zN).Page 0 = !ilt (ix a0.Mons[i].Outer (j:Int) zN).Page 0:=by rw[z8o,Bool.not_not]
   simp only[e];cases ilt (ix a0.Mons[i].Outer (j:Int) zN).Page 0<;>cases inb (j:Int) (ln a0.Mons[i].Outer)<;>cases inb (ix a0.Mons[i].Outer (j:Int) zN).Page (ln u)<;>cases ix u (ix a0.Mons[i].Outer (j:Int) zN).Page false<;>rfl
  .simp only [show ilt (((8:Nat)):Int) 8=false from qG (by omega),cF,zbb hi,zbg hi,zZ hi hl]
  rfl
 .simp only [zbp,cF]
 have key:∀(l:List Mon) (i:Nat) (u:List Bool),u.length=12->goL (fun _ (x:Mon) (u:List Bool) κ=>bif zdW x then goN (fun j u κ=>bif inb (j:Int) (ln x.Outer) then ztt (oF) (ix x.Outer (j:Int) zN) u κ else none) κ 8 0 u else oF) (fun _=>oT) l i u=some [AV.one (.b (zin l u))]:=by
  intro l
  induction l with
  | nil=>intro i u _;rfl
  | cons m l ih =>
   intro i u hu;simp only[goL,zin];cases h1:zdW m
   .rfl
   .have ht:=zmt h1;have e8:0+8=m.Outer.length:=by have:=zrB ht;simp only[ln] at this;omega
    simp only[cT];rw[zHC _ _ m 8 0 u (zEA ht) hu e8,List.drop_zero,zyF _ _ _ _ _ (zEA ht) hu];cases h2:zgw m.Outer u with
    | none=>rfl
    | some u'=>exact ih (i+1) u' ((zpg _ _ _ h2).trans hu)
 exact key _ _ _ rfl
theorem zNO:vJ 97 zDk:=hF1 zHq zk zl zo zWl zUF
def z6v:zO:=[(97,zDk),(44,zCS)]++z6u
theorem zHr:zG z6v:=zh zNO (zh zNm zHq)
theorem zZW {h:Host}(hh:zbQ h=true):(h.Mons.length:Int)<=3:=by
 unfold zbQ at hh;simp only[zc1]at hh;exact (zfh.1 hh.2.1).2
def zcw (h:Host)(m:Int):Bool:=bif zbQ h then hasB m (ln h.Mons) else false
def zci (h:Host)(m p:Int):Bool:=bif zbQ h then (cond (hasB m (ln h.Mons)) (hasB p 8) false) else false
theorem zPF {h:Host}(hh:zbQ h=true)(m:Int):win m 0 (wsub .i64 (ln h.Mons) 1)=hasB m (ln h.Mons):=zqc (by have:=zZW hh;omega) m
theorem win7 (p:Int):win p 0 7=hasB p 8:=by
 unfold win ige ile hasB
 by_cases h1:0<=p<;>by_cases h2:p<8
 .rw [qJ (p:=p≥0) (by omega),qJ (p:=p<=7) (by omega),qJ (p:=0<=p/\p<8) ⟨h1,h2⟩];rfl
 .rw [qG (p:=p<=7) (by omega),qG (p:=0<=p/\p<8) (by omega)];simp
 .rw [qG (p:=p≥0) (by omega),qG (p:=0<=p/\p<8) (by omega)];simp
 .rw [qG (p:=p≥0) (by omega),qG (p:=0<=p/\p<8) (by omega)];simp
@[simp] abbrev zfe (h:Host)(m:Int):Bool:=true
@[simp] abbrev zfd (h:Host)(m:Int):Bool:=zcw h m
def zDE:Run:=rF2 dH dI fun b c=>(zfe b c,[aB (zfd b c)])
def zJY (N:Nat)(a0:Host)(a1:Int):OA:=
 (oN (ze5 a0) (cond (ze4 a0) (oN (zJ a1 0 (wsub .i64 (ln a0.Mons) 1)) (some [(aB (zL a1 0 (wsub .i64 (ln a0.Mons) 1)))])) oF))
theorem zU5 (a0:Host)(a1:Int)(hc:zfe a0 a1=true):∃N,zJY N a0 a1=some [aB (zfd a0 a1)]:=by
 refine ⟨0,?_⟩;unfold zJY zfd zcw oN;cases hh:zbQ a0
 .simp only [ze5,ze4,hh,cT,cF]
 .simp only [ze5,ze4,hh,cT,zJ,zSX,zPF hh]
theorem zOb:vJ 257 zDE:=kF2 zHr zk zl zo (zq []) zU5
@[simp] abbrev znN (h:Host)(m p:Int):Bool:=true
@[simp] abbrev zhz (h:Host)(m p:Int):Bool:=zci h m p
def zGU:Run:=rF3 dH dI dI fun b c d=>(znN b c d,[aB (zhz b c d)])
def zP5 (N:Nat)(a0:Host)(a1 a2:Int):OA:=
 (oN (ze5 a0) (cond (ze4 a0) (oN (zJ a1 0 (wsub .i64 (ln a0.Mons) 1)) (cond (zL a1 0 (wsub .i64 (ln a0.Mons) 1)) (oN (zJ a2 0 7) (some [(aB (zL a2 0 7))])) oF)) oF))
theorem zXq (a0:Host)(a1 a2:Int)(hc:znN a0 a1 a2=true):∃N,zP5 N a0 a1 a2=some [aB (zhz a0 a1 a2)]:=by
 refine ⟨0,?_⟩;unfold zP5 zhz zci oN;cases hh:zbQ a0
 .simp only [ze5,ze4,hh,cT,cF]
 .simp only [ze5,ze4,hh,cT,zJ,zSX,zPF hh,win7];cases hasB a1 (ln a0.Mons)<;>rfl
theorem zRw:vJ 267 zGU:=kF3 zHr zk zl zo (zq []) zXq
def z6w:zO:=[(257,zDE),(267,zGU)]++z6v
theorem zTw:zG z6w:=zh zOb (zh zRw zHr)
def zc8 (k:Kept)(p:Int):Bool:=bif hasB p (ln k.Known) then hasB p (ln k.Slots) else false
def zbK (k:Kept)(p:Int):Kept:=bif zc8 k p then ⟨up k.Known p false,up k.Slots p noSlot⟩ else k
@[simp] theorem zpf {k:Kept}{p:Int}(h:SmK k):SmK (zbK k p):=by
 unfold zbK;cases zc8 k p
 .exact h
 .exact ⟨by simpa using h.1,by simpa using h.2⟩
theorem has_lt {p:Int}{n m:Int}(h:hasB p n=true):ilt p m=hasB p m:=by
 have h:=qE h;unfold ilt hasB
 by_cases h1:p<m
 .rw [qJ h1,qJ ⟨h.1,h1⟩]
 .rw [qG h1,qG (by omega)]
@[simp] abbrev zpb (k:Kept)(p:Int):Bool:=pc (SmK k)
@[simp] abbrev zia (k:Kept)(p:Int):Bool:=zc8 k p
def zDC:Run:=rF2 (dT .kept) dI fun b c=>(zpb b c,[aB (zia b c)])
def zJW (N:Nat)(a0:Kept)(a1:Int):OA:=
 (oN (zJ a1 0 (wsub .i64 (ln a0.Known) 1)) (cond (zL a1 0 (wsub .i64 (ln a0.Known) 1)) (some [(aB (ilt a1 (ln a0.Slots)))]) oF))
theorem zUZ (a0:Kept)(a1:Int)(hc:zpb a0 a1=true):∃N,zJW N a0 a1=some [aB (zia a0 a1)]:=by
 have hs:=zF.1 hc;refine ⟨0,?_⟩;unfold zJW zia zc8 oN;simp only[zJ,zSX,zqc hs.1,cT];cases hh:hasB a1 (ln a0.Known)
 .rfl
 .simp only [cT,has_lt hh]
theorem zN5:vJ 158 zDC:=kF2 zTw zk zl zo (zq []) zUZ
def z6x:zO:=[(158,zDC)]++z6w
theorem zHs:zG z6x:=zh zN5 zTw
@[simp] abbrev zlE (k:Kept)(p:Int):Bool:=pc (SmK k)
@[simp] abbrev zkK (k:Kept)(p:Int):Kept:=zbK k p
def zDi:Run:=rF2 (dT .kept) dI fun b c=>(zlE b c,[aT .kept (zkK b c)])
def zJC (N:Nat)(a0:Kept)(a1:Int):OA:=
 let y0:=(zdq a0); (oN (zfT a0) (oN (zpb y0 a1) (cond (zia y0 a1) (oN (inb a1 (ln y0.Known)) (share (up y0.Known a1 false) (fun x3=>(oN zcq (oN (inb a1 (ln y0.Slots)) (share (up y0.Slots a1 zbs) (fun x4=>(some [(aT .kept (⟨x3,x4⟩:Kept))])))))))) (some [(aT .kept y0)]))))
theorem zUD (a0:Kept)(a1:Int)(hc:zlE a0 a1=true):∃N,zJC N a0 a1=some [aT .kept (zkK a0 a1)]:=by
 have hs:=zF.1 hc;refine ⟨0,?_⟩;unfold zJC zkK oN
 conv=>zeta
 refine must (zbe ((zw8 _).2 hs)) (must (zbe hs) ?_);unfold zbK;cases hh:zc8 a0 a1
 .simp only [zia,zdq,hh,cF]
 .simp only [zia,zdq,hh,cT];unfold zc8 at hh;obtain ⟨h1,h2⟩:=zc1.1 hh;simp only[zT2,h1,h2,cT,share,zcq]
theorem zNM:vJ 262 zDi:=kF2 zHs zk zl zo (zq []) zUD
@[simp] abbrev zyO (k:Kept)(p:Int):Bool:=pc (SmK k)
@[simp] abbrev ztO (k:Kept)(p:Int):Kept:=zbK k p
def zCQ:Run:=rF2 (dT .kept) dI fun b c=>(zyO b c,[aT .kept (ztO b c)])
def zJb (N:Nat)(a0:Kept)(a1:Int):OA:=
 let y0:=(zdc a0); (oN (zf7 a0) (oN (zcm a1 (ln a0.Known)) (cond (zcO a1 (ln a0.Known)) (oN (zcm a1 (ln a0.Slots)) (cond (zcO a1 (ln a0.Slots)) (oN (inb a1 (ln y0.Known)) (share (up y0.Known a1 false) (fun x3=>(oN zdb (oN (inb a1 (ln y0.Slots)) (share (up y0.Slots a1 zcv) (fun x4=>(some [(aT .kept (⟨x3,x4⟩:Kept))])))))))) (some [(aT .kept y0)]))) (some [(aT .kept y0)]))))
theorem zUb (a0:Kept)(a1:Int)(hc:zyO a0 a1=true):∃N,zJb N a0 a1=some [aT .kept (ztO a0 a1)]:=by
 have hs:=zF.1 hc;refine ⟨0,?_⟩;unfold zJb ztO oN
 conv=>zeta
 refine must (zbe hs) (must rfl ?_);unfold zbK zc8;simp only[zcO,zcm,zdc,zT2,share,zdb,cT];cases hasB a1 (ln a0.Known)
 .rfl
 .cases hasB a1 (ln a0.Slots)<;>rfl
theorem zNk:vJ 228 zCQ:=kF2 zHs zk zl zo (zq []) zUb
def z6y:zO:=[(262,zDi),(228,zCQ)]++z6x
theorem ztv:zG z6y:=zh zNM (zh zNk zHs)
def zen (k:Kept)(l:List Int):Kept:=l.foldl zbK k
theorem zYU:∀(l:List Int) {k:Kept},SmK k->SmK (zen k l)
 | [],_,h=>h
 | p :: l,k,h=>zYU l (zpf (p:=p) h)
theorem zyE {ρ:Type}(K:List Bool×List Slot->Option ρ):∀(l:List Int) (i:Nat) (k:Kept),SmK k ->
 goL (fun _ x (t:List Bool×List Slot) κ=>bif pc (SmK ⟨t.1,t.2⟩) then κ ((zbK ⟨t.1,t.2⟩ x).Known,(zbK ⟨t.1,t.2⟩ x).Slots) else none) K l i (k.Known,k.Slots)=K ((zen k l).Known,(zen k l).Slots)
 | [],_,_,_=>rfl
 | x :: l,i,k,h=>by
  have e:pc (SmK ⟨k.Known,k.Slots⟩)=true:=zbe h;simp only[goL,e,cT];exact zyE K l (i+1) (zbK k x) (zpf h)
def zD7 (l:List Slot)(p:Int):List Int:=idxs (fun (s:Slot)=>ieq s.Page p) l 0
def zhG (k:Kept)(l:List Slot)(p:Int):Kept:=zen k (zD7 l p)
theorem z5w {k:Kept}(l:List Slot)(p:Int)(h:SmK k):SmK (zhG k l p):=zYU _ h
@[simp] abbrev zlD (k:Kept)(l:List Slot)(p:Int):Bool:=pc (SmK k/\l.length<=1048576)
@[simp] abbrev zul (k:Kept)(l:List Slot)(p:Int):Kept:=zhG k l p
def zt8:Run:=rF3 (dT .kept) (dS .slot) dI fun b c d=>(zlD b c d,[aT .kept (zul b c d)])
def zw4 (N:Nat)(a0:Kept)(a1:lS)(a2:Int):OA:=
 (oN (zfT a0) (oN (zzs a1 a2) (iter (σ:=(Int×((List Int)×(lB×(lS×(lB×(lS×Unit))))))) N (fun r4 s5=>let y1:=(ix s5.2.1 s5.1 0);let y0:=(⟨s5.2.2.1,s5.2.2.2.1⟩:Kept); (cond (ilt s5.1 (ln s5.2.1)) (oN (inb s5.1 (ln s5.2.1)) (oN (zlE y0 y1) (r4 ((zI .i64 s5.1 1),(s5.2.1,((zkK y0 y1).Known,((zkK y0 y1).Slots,(s5.2.2.2.2.1,(s5.2.2.2.2.2.1,()))))))))) (some [(aT .kept y0)]))) (0,((zp1 a1 a2),((zdq a0).Known,((zdq a0).Slots,([],([],())))))))))
def zI2:FuncId->Nat->Option Tmpl:=zq [(220,0,{ n:=27,tm:=[(3,.lp 0 0),(6,.lp 1 0),(7,.sl 0 []),(8,ti)],lo:=[(0,[.sl 1 [],.sl 2 []]),(1,[.sl 3 [],.sl 4 []])],ro:=[(0,.int,true),(1,.bool,true),(2,.slot,true),(3,.bool,true),(4,.slot,true)] })]
theorem zIx (a0:Kept)(a1:List Slot)(a2:Int)(hc:zlD a0 a1 a2=true):∃N,zw4 N a0 a1 a2=some [aT .kept (zul a0 a1 a2)]:=by
 obtain ⟨hs,hs2⟩:=zF.1 hc;have hl:(zp1 a1 a2).length<=big:=jD (zy2 _ a1 0) (zcJ hs2).1;refine zce fun N hNN=>?_;unfold zw4 oN
 conv=>zeta
 refine must (zbe ((zw8 _).2 hs)) (must (zbe (by omega)) ?_)
 refine (zbd (zp1 a1 a2) (fun i (t:lB×lS)=>((i:Int),(zp1 a1 a2),t.1,t.2,[],[],())) _ (fun _ (x:Int) (t:List Bool×List Slot) κ=>bif pc (SmK ⟨t.1,t.2⟩) then κ ((zbK ⟨t.1,t.2⟩ x).Known,(zbK ⟨t.1,t.2⟩ x).Slots) else none) (fun (t:lB×lS)=>(some [(.agg (Ty.cells .kept (⟨t.1,t.2⟩:Kept)))])) (fun i hi t rec=>?_) (fun t rec=>?_) _ ((zdq a0).Known,(zdq a0).Slots) (hNN hl)).trans ?_
 .simp only [zbx hi,zbb hi,zbg hi,zZ hi hl,cT]
 .simp only [zbp,cF]
 exact zyE _ _ 0 a0 hs
theorem zCi:vJ 220 zt8:=kF3 ztv zk zl zo zI2 zIx
@[simp] abbrev zpx (k:Kept)(l:List Slot)(p:Int):Bool:=pc (SmK k/\l.length<=1048576)
@[simp] abbrev ztP (k:Kept)(l:List Slot)(p:Int):Kept:=zhG k l p
def zt3:Run:=rF3 (dT .kept) (dS .slot) dI fun b c d=>(zpx b c d,[aT .kept (ztP b c d)])
def zwX (N:Nat)(a0:Kept)(a1:lS)(a2:Int):OA:=
 (oN (zf7 a0) (oN (zyX a1 a2) (iter (σ:=(Int×(Int×((List Int)×(lB×(lS×(lB×(lS×Unit)))))))) N (fun r4 s5=>let y1:=(ix s5.2.2.1 s5.2.1 0);let y0:=(⟨s5.2.2.2.2.2.1,s5.2.2.2.2.2.2.1⟩:Kept); (cond (ilt s5.2.1 s5.1) (oN (inb s5.2.1 (ln s5.2.2.1)) (oN (zyO y0 y1) (r4 (s5.1,((zI .i64 s5.2.1 1),(s5.2.2.1,(s5.2.2.2.1,(s5.2.2.2.2.1,((ztO y0 y1).Known,((ztO y0 y1).Slots,())))))))))) (some [(aT .kept y0)]))) ((ln (zkv a1 a2)),(0,((zkv a1 a2),([],([],((zdc a0).Known,((zdc a0).Slots,()))))))))))
def zIX:FuncId->Nat->Option Tmpl:=zq [(178,0,{ n:=25,tm:=[(6,.lp 0 0),(7,.lp 1 0),(14,.sl 0 []),(15,ti),(16,ti)],lo:=[(0,[.sl 1 [],.sl 2 []]),(1,[.sl 3 [],.sl 4 []])],ro:=[(0,.int,true),(1,.bool,true),(2,.slot,true),(3,.bool,true),(4,.slot,true)] })]
theorem zIo (a0:Kept)(a1:List Slot)(a2:Int)(hc:zpx a0 a1 a2=true):∃N,zwX N a0 a1 a2=some [aT .kept (ztP a0 a1 a2)]:=by
 obtain ⟨hs,hs2⟩:=zF.1 hc;have hl:(zkv a1 a2).length<=big:=jD (zy2 _ a1 0) (zcJ hs2).1;refine zce fun N hNN=>?_;unfold zwX oN
 conv=>zeta
 refine must (zbe hs) (must (zbe (by omega)) ?_)
 refine (zbd (zkv a1 a2) (fun i (t:lB×lS)=>((ln (zkv a1 a2)),(i:Int),(zkv a1 a2),[],[],t.1,t.2,())) _ (fun _ (x:Int) (t:List Bool×List Slot) κ=>bif pc (SmK ⟨t.1,t.2⟩) then κ ((zbK ⟨t.1,t.2⟩ x).Known,(zbK ⟨t.1,t.2⟩ x).Slots) else none) (fun (t:lB×lS)=>(some [(.agg (Ty.cells .kept (⟨t.1,t.2⟩:Kept)))])) (fun i hi t rec=>?_) (fun t rec=>?_) _ ((zdc a0).Known,(zdc a0).Slots) (hNN hl)).trans ?_
 .simp only [zbx hi,zbb hi,zbg hi,zZ hi hl,cT]
 .simp only [zbp,cF]
 exact zyE _ _ 0 a0 hs
theorem zCc:vJ 178 zt3:=kF3 ztv zk zl zo zIX zIo
def flushed (l:List Entry)(p:Int):List Entry:=l.filter fun e=>!ieq e.Host p
theorem zGk (l:List Entry)(p:Int):(flushed l p).length<=l.length:=uC _ _
theorem zlh {α ρ:Type}(p:α->Bool)(K:List α->Option ρ):∀(l:List α) (i:Nat) (acc:List α),acc.length+l.length<=2147483648 ->
 goL (fun _ x acc κ=>bif p x then (cond (few (ln (ap acc [x]))) (κ (ap acc [x])) none) else κ acc) K l i acc=K (acc++l.filter p)
 | [],i,acc,_=>by simp[goL]
 | x :: l,i,acc,h=>by
  simp only[qW]at h;simp only[goL];cases hp:p x
  .rw [cF,zlh p K l (i+1) acc (by omega),List.filter_cons_of_neg (by simp[hp])]
  .rw [cT,zgt (by simp[ap];omega),cT,zlh p K l (i+1) _ (by simp[ap];omega),List.filter_cons_of_pos hp]
   simp[ap]
@[simp] abbrev zhy (l:List Entry)(p:Int):Bool:=pc (l.length<=1048576)
@[simp] abbrev zqG (l:List Entry)(p:Int):List Entry:=flushed l p
def zvv:Run:=rF2 (dS .entry) dI fun b c=>(zhy b c,[aS .entry (zqG b c)])
def zzX (N:Nat)(a0:lE)(a1:Int):OA:=
 (iter (σ:=(Int×(Int×(lE×(lE×Unit))))) N (fun r3 s4=>let y1:=s4.2.2.1;let y0:=(ix y1 s4.2.1 zfl); (cond (ilt s4.2.1 (ln y1)) (oN (inb s4.2.1 (ln y1)) (cond (ine y0.Host s4.1) (oN (inb s4.2.1 (ln y1)) (oN (few (ln (ap s4.2.2.2.1 [y0]))) (r3 (s4.1,((zI .i64 s4.2.1 1),(y1,((ap s4.2.2.2.1 [y0]),()))))))) (r3 (s4.1,((zI .i64 s4.2.1 1),(y1,(s4.2.2.2.1,()))))))) (some [(aS .entry s4.2.2.2.1)]))) (a1,(0,(a0,([],())))))
def zMR:FuncId->Nat->Option Tmpl:=zq [(221,0,{ n:=29,tm:=[(0,.sl 0 []),(1,ti),(5,.sl 1 []),(6,ti)],lo:=[],ro:=[(0,.entry,false),(1,.entry,true)] })]
theorem zLO (a0:List Entry)(a1:Int)(hc:zhy a0 a1=true):∃N,zzX N a0 a1=some [aS .entry (zqG a0 a1)]:=by
 have hs:=zF.1 hc;have hl:=zcJ hs;refine zce fun N hNN=>?_;unfold zzX oN
 conv=>zeta
 refine (zbd a0 (fun i (t:lE)=>(a1,(i:Int),a0,t,())) _ (fun _ (x:Entry) (t:List Entry) κ=>bif !ieq x.Host a1 then (cond (few (ln (ap t [x]))) (κ (ap t [x])) none) else κ t) (fun (t:lE)=>(some [(.one (.s .entry t))])) (fun i hi t rec=>?_) (fun t rec=>?_) _ ([]) (hNN hl.1)).trans ?_
 .simp only [zbx hi,zbb hi,zbg hi,zZ hi hl.1,cT];rfl
 .simp only [zbp,cF]
 exact zlh (fun e=>!ieq e.Host a1) _ a0 0 [] (by simpa using hl.2)
theorem zEU:vJ 221 zvv:=kF2 ztv zk zl zo zMR zLO
@[simp] abbrev zhu (l:List Entry)(p:Int):Bool:=pc (l.length<=1048576)
@[simp] abbrev zjK (l:List Entry)(p:Int):List Entry:=flushed l p
def zvi:Run:=rF2 (dS .entry) dI fun b c=>(zhu b c,[aS .entry (zjK b c)])
def zzK (N:Nat)(a0:lE)(a1:Int):OA:=
 (iter (σ:=(Int×(Int×(Int×(lE×(lE×Unit)))))) N (fun r3 s4=>let y1:=s4.2.2.2.2.1;let y0:=(ix y1 s4.2.1 zfl); (cond (ilt s4.2.1 s4.1) (oN (inb s4.2.1 (ln y1)) (cond (nB (ieq y0.Host s4.2.2.1)) (oN (few (ln (ap s4.2.2.2.1 [y0]))) (r3 (s4.1,((zI .i64 s4.2.1 1),(s4.2.2.1,((ap s4.2.2.2.1 [y0]),(y1,()))))))) (r3 (s4.1,((zI .i64 s4.2.1 1),(s4.2.2.1,(s4.2.2.2.1,(y1,())))))))) (some [(aS .entry s4.2.2.2.1)]))) ((ln a0),(0,(a1,([],(a0,()))))))
def zMM:FuncId->Nat->Option Tmpl:=zq [(209,0,{ n:=25,tm:=[(1,.fn 229 [0]),(5,.sl 0 []),(9,.sl 1 []),(10,ti),(11,ti)],lo:=[(0,[ti])],ro:=[(0,.entry,true),(1,.entry,false)] })]
theorem zLA (a0:List Entry)(a1:Int)(hc:zhu a0 a1=true):∃N,zzK N a0 a1=some [aS .entry (zjK a0 a1)]:=by
 have hs:=zF.1 hc;have hl:=zcJ hs;refine zce fun N hNN=>?_;unfold zzK oN nB
 conv=>zeta
 refine (zbd a0 (fun i (t:lE)=>((ln a0),(i:Int),a1,t,a0,())) _ (fun _ (x:Entry) (t:List Entry) κ=>bif !ieq x.Host a1 then (cond (few (ln (ap t [x]))) (κ (ap t [x])) none) else κ t) (fun (t:lE)=>(some [(.one (.s .entry t))])) (fun i hi t rec=>?_) (fun t rec=>?_) _ ([]) (hNN hl.1)).trans ?_
 .simp only [zbx hi,zbb hi,zbg hi,zZ hi hl.1,cT];cases ieq a0[i].Host a1<;>rfl
 .simp only [zbp,cF]
 exact zlh (fun e=>!ieq e.Host a1) _ a0 0 [] (by simpa using hl.2)
theorem zEH:vJ 179 zvi:=kF2 ztv zk zl zo zMM zLA
def zZo:zO:=[(220,zt8),(178,zt3),(221,zvv),(179,zvi)]++z6y
theorem zHt:zG zZo:=zh zCi (zh zCc (zh zEU (zh zEH ztv)))
def zkZ (gs:List Guest)(p:Int):Nat->List Kept->List Kept
 | 0,ts=>ts
 | n+1,ts=>up (zkZ gs p n ts) (n:Int) (zhG (ix (zkZ gs p n ts) (n:Int) zez) (ix gs (n:Int) zi).Live p)
theorem zp8 (gs:List Guest)(p:Int):∀(n:Nat) (ts:List Kept),(zkZ gs p n ts).length=ts.length
 | 0,_=>rfl
 | n+1,ts=>by simp only[zkZ,zgv];exact zp8 gs p n ts
theorem zv6 (gs:List Guest)(p:Int):∀(n:Nat) (ts:List Kept),n<=ts.length->zBM ts->zBM (zkZ gs p n ts)
 | 0,_,_,h=>h
 | n+1,ts,hn,h=>by
  have ih:=zv6 gs p n ts (by omega) h
  have hl:n<(zkZ gs p n ts).length:=by rw[zp8];omega
  exact zyh ih (z5w _ _ (by rw[zbg hl];exact ih.2 _ (jH hl)))
def zj5 (x:Mon)(p:Int)(n:Nat):Mon:={ x with Tables:=zkZ x.Guests p n x.Tables }
theorem z3n {x:Mon}{p:Int}{n:Nat}(hn:n<=x.Tables.length)(h:zfr x):zfr (zj5 x p n):=⟨h.1,h.2.1,h.2.2.1,h.2.2.2.1,h.2.2.2.2.1,zv6 _ _ _ _ hn h.2.2.2.2.2⟩
def zcb (h:Host)(m p:Int)(s:Slot):Host :=
 bif ine (ix (ix h.Mons m zf).Outer p zN).Page (-1)
 then ⟨h.Memory,up h.Mons m { zj5 (ix h.Mons m zf) p (ix h.Mons m zf).Tables.length with Outer:=up (ix h.Mons m zf).Outer p s },flushed h.Buffer (ix (ix h.Mons m zf).Outer p zN).Page,flushed h.IoBuffer (ix (ix h.Mons m zf).Outer p zN).Page⟩
 else ⟨h.Memory,up h.Mons m { zj5 (ix h.Mons m zf) p (ix h.Mons m zf).Tables.length with Outer:=up (ix h.Mons m zf).Outer p s },h.Buffer,h.IoBuffer⟩
def z8Z (h:Host)(m p:Int):Prop:=hasB m (ln h.Mons)=true/\hasB p (ln (ix h.Mons m zf).Outer)=true/\(ix h.Mons m zf).Tables.length<=(ix h.Mons m zf).Guests.length
@[simp] abbrev zeU (h:Host)(m p:Int)(s:Slot):Bool:=pc (zb2 h/\z8Z h m p)
@[simp] abbrev zgN (h:Host)(m p:Int)(s:Slot):Host:=zcb h m p s
def zr7:List AV->Option (Bool×List AV)
 | [.agg [.s (.sl .int) b,.s .mon c,.s .entry d,.s .entry e],.one (.i .i64 f),.one (.i .i64 g),.agg [.i .i64 h,.i .i64 j]]=>some ((zeU (⟨b,c,d,e⟩:Host) f g (⟨h,j⟩:Slot)),[aH (zgN (⟨b,c,d,e⟩:Host) f g (⟨h,j⟩:Slot))])
 | _=>none
def zwa (N:Nat)(a0:Host)(a1 a2:Int)(a3:Slot):OA:=
 let y7:=(ix a0.Mons a1 zf); (oN (inb a1 (ln a0.Mons)) (oN (inb a2 (ln y7.Outer)) (iter (σ:=(Int×(Int×(Int×(Int×(Int×(Int×(Int×(Int×(Int×(Int×(Int×(Int×(Int×(Int×(Int×(lM×(lN×(lE×(lE×(lM×(lN×(lE×(lE×Unit)))))))))))))))))))))))) N (fun r5 s6=>let y19:=s6.2.2.1;let y18:=s6.2.2.2.2.2.2.2.2.2.2.2.1;let y17:=s6.2.2.2.2.2.2.2.2.2.2.2.2.1;let y15:=s6.2.2.2.2.2.2.2.2.2.2.2.2.2.2.1;let y14:=s6.2.2.2.2.2.2.2.2.2.2.2.2.2.2.2.1;let y13:=s6.2.2.2.2.2.2.2.1;let y11:=s6.2.2.2.2.2.2.2.2.1;let y10:=s6.2.2.2.1;let y9:=s6.2.2.2.2.2.2.2.2.2.2.1;let y8:=s6.2.2.2.2.2.2.2.2.2.2.2.2.2.2.2.2.2.1;let y6:=s6.2.2.2.2.2.2.2.2.2.2.2.2.2.2.2.2.2.2.1;let y5:=s6.2.2.2.2.2.2.1;let y3:=s6.2.2.2.2.2.2.2.2.2.1;let y1:=s6.2.2.2.2.2.2.2.2.2.2.2.2.2.1;let y0:=s6.2.2.2.2.2.2.2.2.2.2.2.2.2.2.2.2.1;let y20:=(ix y0 y3 zf).Guests;let y16:=(ix y20 y10 zi).Live;let y12:=(ix y0 y5 zf);let y4:=(ix y0 y1 zf).Tables;let y2:=(up y0 y5 ({ y12 with Outer:=(up y12.Outer s6.2.1 (⟨s6.2.2.2.2.1,s6.2.2.2.2.2.1⟩:Slot)) }:Mon)); (cond (ilt y10 (ln y4)) (oN (inb y10 (ln y4)) (oN (inb y10 (ln y20)) (oN (zlD (ix y4 y10 zez) y16 s6.2.1) (oN (inb y10 (ln y4)) (share (up y0 y1 ({ (ix y0 y1 zf) with Tables:=(up y4 y10 (zul (ix y4 y10 zez) y16 s6.2.1)) }:Mon)) (fun x7=>(r5 (s6.1,(s6.2.1,(y19,((zI .i64 y10 1),(s6.2.2.2.2.1,(s6.2.2.2.2.2.1,(y5,(y13,(y11,(y3,(y9,(y18,(y17,(y1,(y15,(y14,(x7,(y8,(y6,(s6.2.2.2.2.2.2.2.2.2.2.2.2.2.2.2.2.2.2.2.1,(s6.2.2.2.2.2.2.2.2.2.2.2.2.2.2.2.2.2.2.2.2.1,(s6.2.2.2.2.2.2.2.2.2.2.2.2.2.2.2.2.2.2.2.2.2.1,(s6.2.2.2.2.2.2.2.2.2.2.2.2.2.2.2.2.2.2.2.2.2.2.1,())))))))))))))))))))))))))))))) (cond (ine y19 (-1)) (oN (zhy y8 y19) (oN (zhy y6 y19) (oN (inb s6.2.1 (ln y12.Outer)) (share y2 (fun x7=>(oN (inb s6.1 (ln x7)) (oN (cond (cond (cond (cond (cond (cond (ieq y1 s6.1) true false) (cond (ieq y9 s6.1) true false) false) (cond (ieq y3 s6.1) true false) false) (cond (ieq y11 s6.1) true false) false) (cond (ieq y13 s6.1) true false) false) (cond (ieq y5 s6.1) true false) false) (share (up x7 s6.1 ({ (ix x7 y5 zf) with Out:=(ix x7 y13 zf).Out,Dirty:=(ix x7 y11 zf).Dirty,Guests:=(ix x7 y3 zf).Guests,Outs:=(ix x7 y9 zf).Outs,Pending:=y18,Traps:=y17,Tables:=(ix x7 y1 zf).Tables,Own:=y15 }:Mon)) (fun x8=>(some [(aH (⟨y14,x8,(zqG y8 y19),(zqG y6 y19)⟩:Host))])))))))))) (oN (inb s6.2.1 (ln y12.Outer)) (share y2 (fun x7=>(oN (inb s6.1 (ln x7)) (oN (cond (cond (cond (cond (cond (cond (ieq y1 s6.1) true false) (cond (ieq y9 s6.1) true false) false) (cond (ieq y3 s6.1) true false) false) (cond (ieq y11 s6.1) true false) false) (cond (ieq y13 s6.1) true false) false) (cond (ieq y5 s6.1) true false) false) (share (up x7 s6.1 ({ (ix x7 y5 zf) with Out:=(ix x7 y13 zf).Out,Dirty:=(ix x7 y11 zf).Dirty,Guests:=(ix x7 y3 zf).Guests,Outs:=(ix x7 y9 zf).Outs,Pending:=y18,Traps:=y17,Tables:=(ix x7 y1 zf).Tables,Own:=y15 }:Mon)) (fun x8=>(some [(aH (⟨y14,x8,y8,y6⟩:Host))]))))))))))) (a1,(a2,((ix y7.Outer a2 zN).Page,(0,(a3.Page,(a3.Rights,(a1,(a1,(a1,(a1,(a1,(y7.Pending,(y7.Traps,(a1,(y7.Own,(a0.Memory,(a0.Mons,(a0.Buffer,(a0.IoBuffer,([],([],([],([],()))))))))))))))))))))))))))
def zSE:FuncId->Nat->Option Tmpl:=zq [(160,0,{ n:=70,tm:=[(1,ti),(2,ti),(4,.lp 0 0),(7,.lp 1 0),(8,.lp 2 0),(9,.lp 3 0),(10,ti),(11,ti)],lo:=[(0,[.sl 0 [],.sl 1 [],.sl 2 [],.sl 3 []]),(1,[ti,ti]),(2,[.sl 4 [],.sl 5 [],.sl 6 [],.sl 7 []]),(3,[.sl 1 [0],.sl 1 [1],.sl 1 [2],.sl 1 [3],.sl 1 [4],ti,ti,.sl 1 [7],ti])],ro:=[(0,(.sl .int),true),(1,.mon,true),(2,.entry,true),(3,.entry,true),(4,(.sl .int),true),(5,.mon,true),(6,.entry,true),(7,.entry,true)] })]
theorem zVn (N:Nat)(a0:Host)(a1 a2:Int)(a3:Slot):zEh (cQ zZo zow zIJ zk0) zSE N 12 160 [true,true,true,true,false,false,false,false] 1 1 [[0],[1],[2],[4],[7]] .mon [aH a0,aI a1,aI a2,aT .slot a3]=zwa N a0 a1 a2 a3:=by kernel_rfl
theorem zSl (a0:Host)(a1 a2:Int)(a3:Slot)(hb:zbN big [aH a0,aI a1,aI a2,aT .slot a3])(hc:zeU a0 a1 a2 a3=true):∃N,zwa N a0 a1 a2 a3=some [aH (zgN a0 a1 a2 a3)]:=by
 obtain ⟨hs,h1,h2,h3⟩:=zF.1 hc;have hH:=(zK a0).1 hs;have hm:zfr (ix a0.Mons a1 zf):=hH.2.1.2 _ (zbu h1 _);obtain ⟨k,rfl,hk⟩:=zdH (n:=a0.Mons.length) h1;have hT:=(zcJ hm.2.2.2.2.2.1).1;refine zce fun N hNN=>?_;unfold zwa oN
 conv=>zeta
 refine must h1 (must h2 ?_);refine zEq (ix a0.Mons (k:Int) zf).Tables.length (fun i (t:List Mon)=>((k:Int),a2,(ix (ix a0.Mons (k:Int) zf).Outer a2 zN).Page,(i:Int),a3.Page,a3.Rights,(k:Int),(k:Int),(k:Int),(k:Int),(k:Int),(ix a0.Mons (k:Int) zf).Pending,(ix a0.Mons (k:Int) zf).Traps,(k:Int),(ix a0.Mons (k:Int) zf).Own,a0.Memory,t,a0.Buffer,a0.IoBuffer,[],[],[],[],())) _
  (fun i t=>t=up a0.Mons (k:Int) (zj5 (ix a0.Mons (k:Int) zf) a2 i)) (fun _ _=>some [AV.agg (zbc (zcb a0 (k:Int) a2 a3))]) (fun i t rec hi hI hr=>?_) (fun t rec hI=>?_) _ 0 a0.Mons ?_ (jV _) ?_
 .subst hI;have hi2:i<(zkZ (ix a0.Mons (k:Int) zf).Guests a2 i (ix a0.Mons (k:Int) zf).Tables).length:=by rw[zp8];exact hi
  have hi3:i<(ix a0.Mons (k:Int) zf).Guests.length:=by omega
  have hf:zlD (ix (zkZ (ix a0.Mons (k:Int) zf).Guests a2 i (ix a0.Mons (k:Int) zf).Tables) (i:Int) zez) (ix (ix a0.Mons (k:Int) zf).Guests (i:Int) zi).Live a2=true :=
   zbe ⟨by rw[zbg hi2];exact (zv6 _ _ _ _ (by omega) hm.2.2.2.2.2).2 _ (jH hi2),by rw[zbg hi3];exact (hm.2.2.2.1.2 _ (jH hi3)).2.2.1⟩
  simp only[zdN hk,zv8,zj5,zbx hi2,zbb hi2,zbb hi3,hf,cT,share,zZ hi hT];exact hr _ rfl
 .subst hI;simp only[zdN hk,zv8,zgv,zj5,ln,zp8,zhe,show ilt (((ix a0.Mons (k:Int) zf).Tables.length:Nat):Int) (((ix a0.Mons (k:Int) zf).Tables.length:Nat):Int)=false from qG (by omega),cT,cF,share]
  have h1':inb (k:Int) ((a0.Mons.length:Nat):Int)=true:=h1;have h2':inb a2 (((ix a0.Mons (k:Int) zf).Outer.length:Nat):Int)=true:=h2;have f1:zhy a0.Buffer (ix (ix a0.Mons (k:Int) zf).Outer a2 zN).Page=true:=zbe hH.2.2.1;have f2:zhy a0.IoBuffer (ix (ix a0.Mons (k:Int) zf).Outer a2 zN).Page=true:=zbe hH.2.2.2;simp only[h1',h2',f1,f2,cT];unfold zcb;cases ine (ix (ix a0.Mons (k:Int) zf).Outer a2 zN).Page (-1)<;>rfl
 .exact (zPA hk _).symm
 .exact hNN (by omega)
theorem zLl:zdY Tryz.prog 160 [true,true,true,true,false,false,false,false] (some (1,1,[[0],[1],[2],[4],[7]])) zr7:=by
 refine zli (kt:=.mon) (zc7 zHt zk zl zo) (zem (by kernel_rfl)) (by kernel_rfl) ?_
 intro avs rs hl hr h;have hb:=zih hr;unfold zr7 at h;split at h
 .obtain ⟨hc,rfl⟩:=zdQ h;obtain ⟨N,hN⟩:=zSl _ _ _ _ (by exact hb) hc
  exact ⟨⟨_,rfl⟩,rfl,_,N,12,(zVn N _ _ _ _ ).trans hN⟩
 .cases h
def zV8:zeX:=[(160,([true,true,true,true,false,false,false,false],(some (1,1,[[0],[1],[2],[4],[7]])),zr7))]++zk0
theorem zc9:zdZ zV8:=zp9 zo (by
 intro x hx;simp only[qI,qX,or_false]at hx;rcases hx with rfl
 .exact zLl)
def zWz (x:Mon)(p:Int):Mon:={ x with Dirty:=up x.Dirty p false }
def zqb (h:Host)(m p:Int):Host:={ h with Mons:=up h.Mons m (zWz (ix h.Mons m zf) p) }
def ztE (h:Host)(m p:Int):Host:=bif zci h m p then (cond (zcI (ix (ix h.Mons m zf).Outer p zN) noSlot) (zqb h m p) (zcb (zqb h m p) m p ⟨(ix (ix h.Mons m zf).Outer p zN).Page,1⟩)) else h
theorem zyJ:∀(l:List Mon) (u:List Bool),zin l u=true->∀x∈l,zdW x=true
 | [],_,_,x,hx=>by cases hx
 | m :: l,u,h,x,hx=>by
  simp only[zin]at h;cases h1:zdW m
  .rw [h1]at h;cases h
  .rw [h1]at h;simp only[cT]at h;cases h2:zgw m.Outer u with
   | none=>rw[h2]at h;cases h
   | some u' =>
    rw[h2]at h;rcases qI.1 hx with rfl|hx
    .exact h1
    .exact zyJ l u' h x hx
structure PageAt (h:Host) (m p:Int):Prop where
 hm:hasB m (ln h.Mons)=true
 hp:hasB p 8=true
 ok:zdW (ix h.Mons m zf)=true
 ho:(ix h.Mons m zf).Outer.length=8
 hd:(ix h.Mons m zf).Dirty.length=8
 ht:(ix h.Mons m zf).Tables.length=(ix h.Mons m zf).Guests.length
 hs:zcI (ix (ix h.Mons m zf).Outer p zN) noSlot=ieq (ix (ix h.Mons m zf).Outer p zN).Page (-1)
theorem zQY {s:Slot}{n:Int}(h:zdC s n=true):zcI s noSlot=ieq s.Page (-1):=by
 unfold zdC at h;cases h1:zcI s noSlot
 .rw [h1]at h;cases h2:ieq s.Page (-1)
  .rfl
  .have e:s.Page = -1:=qE h2;cases h3:igt n 0
   .rw [h3]at h;cases h
   .cases h4:win s.Page 0 (wsub .i64 n 1)
    .rw [h3,h4]at h;cases h
    .have:=(zfh.1 h4).1;omega
 .unfold zcI at h1;rw[qD]at h1;exact h1.1.symm
theorem zL8 {h:Host}{m p:Int}(hp:zci h m p=true):PageAt h m p:=by
 unfold zci at hp;simp only[zc1]at hp;obtain ⟨h0,h1,h2⟩:=hp;unfold zbQ at h0;simp only[zc1]at h0;have hok:=zyJ _ _ h0.2.2.2.2 _ (zbu h1 zf);have hk:=hok;unfold zdW at hk;simp only[zc1]at hk;have ho:(ix h.Mons m zf).Outer.length=8:=by have:=zrB hk.2.2.1;simp only[ln] at this;omega
 refine ⟨h1,h2,hok,ho,?_,?_,?_⟩
 .have:ln (ix h.Mons m zf).Dirty=8:=qE hk.2.2.2.2.1;simp only[ln] at this;omega
 .have:ln (ix h.Mons m zf).Tables=ln (ix h.Mons m zf).Guests:=qE hk.2.1;simp only[ln] at this;omega
 .have ht:=hk.2.2.1;unfold zcF at ht;simp only[zc1]at ht;have hi:hasB p (ln (ix h.Mons m zf).Outer)=true:=by rw[ln,ho];exact h2
  exact zQY (qM.1 ht.1 _ (zbu hi _))
theorem zVZ {x:Mon}{p:Int}(h:zfr x):zfr (zWz x p):=⟨h.1,h.2.1,by simpa [zWz] using h.2.2.1,h.2.2.2⟩
theorem zzy {h:Host}{m p:Int}(hm:hasB m (ln h.Mons)=true)(hs:SmH h):SmH (zqb h m p):=⟨hs.1,ziV hs.2.1 (zVZ (hs.2.1.2 _ (zbu hm _))),hs.2.2⟩
theorem zG2 {h:Host}{m p:Int}{s:Slot}(hm:hasB m (ln h.Mons)=true)(hs:SmH h):SmH (zcb h m p s):=by
 have hx:=hs.2.1.2 _ (zbu hm zf);have ht:=z3n (p:=p) (qV _) hx;have hM:zq5 (up h.Mons m { zj5 (ix h.Mons m zf) p (ix h.Mons m zf).Tables.length with Outer:=up (ix h.Mons m zf).Outer p s }):=ziV hs.2.1 ⟨by simpa using hx.1,ht.2⟩
 unfold zcb;cases ine (ix (ix h.Mons m zf).Outer p zN).Page (-1)
 .exact ⟨hs.1,hM,hs.2.2⟩
 .exact ⟨hs.1,hM,jD (zGk _ _) hs.2.2.1,jD (zGk _ _) hs.2.2.2⟩
theorem zzC {h:Host}{m p:Int}(hm:hasB m (ln h.Mons)=true):hasB m (ln (zqb h m p).Mons)=true:=by
 unfold zqb;simpa [ln] using hm
theorem z3k {h:Host}{m p:Int}(hs:SmH h):SmH (ztE h m p):=by
 unfold ztE;cases hp:zci h m p
 .exact hs
 .have P:=zL8 hp;cases zcI (ix (ix h.Mons m zf).Outer p zN) noSlot
  .exact zG2 (zzC P.hm) (zzy P.hm hs)
  .exact zzy P.hm hs
@[simp] abbrev zDJ (h:Host)(m p:Int):Bool:=pc (zb2 h)
@[simp] abbrev zvB (h:Host)(m p:Int):Host:=ztE h m p
@[simp] abbrev zvC (h:Host)(m p:Int):Bool:=zci h m p
def zGK:Run:=rF3 dH dI dI fun b c d=>(zDJ b c d,[aH (zvB b c d),aB (zvC b c d)])
def zPU (N:Nat)(a0:Host)(a1 a2:Int):OA:=
 let y3:=(zu a0);let y2:=(ix y3.Mons a1 zf); (oN (zbG a0) (oN (znN y3 a1 a2) (cond (nB (zhz y3 a1 a2)) (some [(aH y3),(aB false)]) (oN (inb a1 (ln y3.Mons)) (oN (inb a2 (ln y2.Dirty)) (share (up y3.Mons a1 ({ y2 with Dirty:=(up y2.Dirty a2 false) }:Mon)) (fun x4=>let y4:=(ix x4 a1 zf).Outer;let y1:=({ y3 with Mons:=x4 }:Host);let y0:=(ix y4 a2 zN);let y5:=({ y0 with Rights:=1 }:Slot); (oN (inb a1 (ln x4)) (oN (inb a2 (ln y4)) (oN zcq (cond (cond (ieq y0.Page zbs.Page) (ieq y0.Rights zbs.Rights) false) (some [(aH y1),(aB true)]) (oN (zeU y1 a1 a2 y5) (some [(aH (zgN y1 a1 a2 y5)),(aB true)])))))))))))))
theorem zXe (a0:Host)(a1 a2:Int)(hc:zDJ a0 a1 a2=true):∃N,zPU N a0 a1 a2=some [aH (zvB a0 a1 a2),aB (zvC a0 a1 a2)]:=by
 have hs:=zF.1 hc;have hH:=(zK a0).1 hs;refine ⟨0,?_⟩;unfold zPU zvB zvC ztE oN nB
 conv=>zeta
 refine must (zbe hs) (must rfl ?_);cases hp:zci a0 a1 a2
 .simp only [zhz,zu,hp,cF,cT]
 .have P:=zL8 hp;obtain ⟨k,rfl,hk⟩:=zdH (n:=a0.Mons.length) P.hm;simp only[zhz,zu,hp,cT,cF];have i1:inb a2 (ln (ix a0.Mons (k:Int) zf).Dirty)=true:=by rw[ln,P.hd];exact P.hp
  have i2:inb a2 (ln (ix a0.Mons (k:Int) zf).Outer)=true:=by rw[ln,P.ho];exact P.hp
  refine must P.hm (must i1 ?_);simp only[share,zdN hk,i2,cT,zcq,zbs];refine must (zzC (p:=a2) P.hm) ?_;have e:∀s:Slot,zcI s noSlot=bif ieq s.Page noSlot.Page then ieq s.Rights noSlot.Rights else false:=fun s=>by
   unfold zcI;cases ieq s.Page noSlot.Page<;>rfl
  rw[<- e];cases zcI (ix (ix a0.Mons (k:Int) zf).Outer a2 zN) noSlot
  .refine zcB rfl (must (zbe ⟨(zK _).2 (zzy P.hm hH),zzC (p:=a2) P.hm,?_,?_⟩) rfl)
   .simp only [zdN hk];exact i2
   .simp only [zdN hk];exact vH P.ht
  .rfl
theorem zRl:vJ 248 zGK:=kF3 zHt zk zl zc9 (zq []) zXe
def z1E:zO:=[(248,zGK)]++zZo
theorem z1F:zG z1E:=zh zRl zHt
def z1G:zO:=z1E
theorem zeK:zG z1G:=z1F
def zh4 (o i t:Int):Int:=bif zcL i t then 1 else (cond (zcL o t) 2 0)
@[simp] abbrev zqR (o i t:Int):Bool:=true
@[simp] abbrev znL (o i t:Int):Int:=zh4 o i t
def zAw:Run:=rF3 dI dI dI fun b c d=>(zqR b c d,[aI (znL b c d)])
def zFZ (N:Nat)(a0 a1 a2:Int):OA:=
 (oN (zh8 a1 a2) (cond (zhN a1 a2) (some [(aI 1)]) (oN (zh8 a0 a2) (cond (zhN a0 a2) (some [(aI 2)]) (some [(aI 0)])))))
theorem zR3 (a0 a1 a2:Int)(hc:zqR a0 a1 a2=true):∃N,zFZ N a0 a1 a2=some [aI (znL a0 a1 a2)]:=by
 refine ⟨0,?_⟩;unfold zFZ oN;refine must rfl (br (fun _=>?_) (fun _=>must rfl (br (fun _=>?_) (fun _=>?_))))
 all_goals first|rfl|(simp only [*,znL,zh4,cT,cF]<;>rfl)|simp_all[Ty.cells,znL,zh4]
theorem zK3:vJ 304 zAw:=kF3 zeK zk zl zc9 (zq []) zR3
@[simp] abbrev zwm (o i t:Int):Bool:=true
@[simp] abbrev znE (o i t:Int):Int:=zh4 o i t
def zAc:Run:=rF3 dI dI dI fun b c d=>(zwm b c d,[aI (znE b c d)])
def zFC (N:Nat)(a0 a1 a2:Int):OA:=
 (oN (zjL a1 a2) (cond (ziN a1 a2) (some [(aI 1)]) (oN (zjL a0 a2) (cond (ziN a0 a2) (some [(aI 2)]) (some [(aI 0)])))))
theorem zRF (a0 a1 a2:Int)(hc:zwm a0 a1 a2=true):∃N,zFC N a0 a1 a2=some [aI (znE a0 a1 a2)]:=by
 refine ⟨0,?_⟩;unfold zFC oN;refine must rfl (br (fun _=>?_) (fun _=>must rfl (br (fun _=>?_) (fun _=>?_))))
 all_goals first|rfl|(simp only [*,znE,zh4,cT,cF]<;>rfl)|simp_all[Ty.cells,znE,zh4]
theorem zKI:vJ 122 zAc:=kF3 zeK zk zl zc9 (zq []) zRF
theorem z9D (p:Int):hasB p 3=win p 0 2:=by
 unfold hasB win ige ile
 by_cases h1:0<=p<;>by_cases h2:p<3
 .rw [qJ (p:=0<=p/\p<3) ⟨h1,h2⟩,qJ (p:=p≥0) h1,qJ (p:=p<=2) (by omega)];rfl
 .rw [qG (p:=0<=p/\p<3) (by omega),qG (p:=p<=2) (by omega)];simp
 .rw [qG (p:=0<=p/\p<3) (by omega),qG (p:=p≥0) (by omega)];simp
 .rw [qG (p:=0<=p/\p<3) (by omega),qG (p:=p≥0) (by omega)];simp
theorem z9C (p:Int):hasB p 2=win p 0 1:=by
 unfold hasB win ige ile
 by_cases h1:0<=p<;>by_cases h2:p<2
 .rw [qJ (p:=0<=p/\p<2) ⟨h1,h2⟩,qJ (p:=p≥0) h1,qJ (p:=p<=1) (by omega)];rfl
 .rw [qG (p:=0<=p/\p<2) (by omega),qG (p:=p<=1) (by omega)];simp
 .rw [qG (p:=0<=p/\p<2) (by omega),qG (p:=p≥0) (by omega)];simp
 .rw [qG (p:=0<=p/\p<2) (by omega),qG (p:=p≥0) (by omega)];simp
def zdF (m g:Int):Int:=bif win m 0 2 then (cond (win g 0 1) (zI .i64 (zI .i64 1 g) (zl2 .i64 m 2)) 0) else 0
@[simp] abbrev zkM (m g:Int):Bool:=true
@[simp] abbrev ztn (m g:Int):Int:=zdF m g
def zGR:Run:=rF2 dI dI fun b c=>(zkM b c,[aI (ztn b c)])
def zP2 (N:Nat)(a0 a1:Int):OA:=
 (oN (zJ a0 0 2) (cond (nB (zL a0 0 2)) (some [(aI 0)]) (oN (zJ a1 0 1) (cond (nB (zL a1 0 1)) (some [(aI 0)]) (some [(aI (zI .i64 (zI .i64 1 a1) (zl2 .i64 a0 2)))])))))
theorem zXm (a0 a1:Int)(hc:zkM a0 a1=true):∃N,zP2 N a0 a1=some [aI (ztn a0 a1)]:=by
 refine ⟨0,?_⟩;unfold zP2 oN nB;refine must rfl (brN (fun _=>?_) (fun _=>must rfl (brN (fun _=>?_) (fun _=>?_))))
 all_goals first|rfl|(simp only [*,ztn,zdF,cT,cF]<;>rfl)|simp_all[Ty.cells,ztn,zdF]
theorem zRs:vJ 99 zGR:=kF2 zeK zk zl zc9 (zq []) zXm
@[simp] abbrev zva (m g:Int):Bool:=true
@[simp] abbrev zxp (m g:Int):Int:=zdF m g
def zGG:Run:=rF2 dI dI fun b c=>(zva b c,[aI (zxp b c)])
def zPQ (N:Nat)(a0 a1:Int):OA:=
 (oN (zcm a0 3) (cond (nB (zcO a0 3)) (some [(aI 0)]) (oN (zcm a1 2) (cond (nB (zcO a1 2)) (some [(aI 0)]) (some [(aI (zI .i64 (zI .i64 1 a1) (zl2 .i64 a0 2)))])))))
theorem zW9 (a0 a1:Int)(hc:zva a0 a1=true):∃N,zPQ N a0 a1=some [aI (zxp a0 a1)]:=by
 refine ⟨0,?_⟩;unfold zPQ oN nB;refine must rfl (brN (fun _=>?_) (fun _=>must rfl (brN (fun _=>?_) (fun _=>?_))))
 all_goals first|rfl|(simp only [*,zxp,zdF,z9D,z9C,cT,cF]<;>rfl)|simp_all[Ty.cells,zxp,zdF,z9D,z9C]
theorem zRg:vJ 90 zGG:=kF2 zeK zk zl zc9 (zq []) zW9
def zit (k:Kept)(p:Int):Bool:=bif zc8 k p then ix k.Known p false else false
def zdy (k:Kept)(p:Int):Slot:=bif zit k p then ix k.Slots p zN else noSlot
@[simp] abbrev zEx (k:Kept)(p:Int):Bool:=pc (SmK k)
@[simp] abbrev ztl (k:Kept)(p:Int):Slot:=zdy k p
@[simp] abbrev zEw (k:Kept)(p:Int):Bool:=zit k p
def zQT:Run:=rF2 (dT .kept) dI fun b c=>(zEx b c,[aT .slot (ztl b c),aB (zEw b c)])
def zYb (N:Nat)(a0:Kept)(a1:Int):OA:=
 let y0:=(ix a0.Slots a1 zN); (oN (zpb a0 a1) (cond (nB (zia a0 a1)) (oN zcq (some [(.agg [(.i .i64 zbs.Page),(.i .i64 zbs.Rights)]),(aB false)])) (oN (inb a1 (ln a0.Known)) (cond (nB (ix a0.Known a1 false)) (oN zcq (some [(.agg [(.i .i64 zbs.Page),(.i .i64 zbs.Rights)]),(aB false)])) (oN (inb a1 (ln a0.Slots)) (some [(.agg [(.i .i64 y0.Page),(.i .i64 y0.Rights)]),(aB true)]))))))
theorem z2o (a0:Kept)(a1:Int)(hc:zEx a0 a1=true):∃N,zYb N a0 a1=some [aT .slot (ztl a0 a1),aB (zEw a0 a1)]:=by
 have hs:=zF.1 hc;refine ⟨0,?_⟩;unfold zYb ztl zEw zdy zit oN nB
 conv=>zeta
 refine must (zbe hs) ?_;rw[show zia a0 a1=zc8 a0 a1 from rfl]
 cases hh:zc8 a0 a1
 .rfl
 .unfold zc8 at hh;obtain ⟨h1,h2⟩:=zc1.1 hh;simp only[zx h1,zx h2,cT];cases ix a0.Known a1 false<;>rfl
theorem zWZ:vJ 101 zQT:=kF2 zeK zk zl zc9 (zq []) z2o
@[simp] abbrev zxm (k:Kept)(p:Int):Bool:=true
@[simp] abbrev ztb (k:Kept)(p:Int):Slot:=zdy k p
@[simp] abbrev zEo (k:Kept)(p:Int):Bool:=zit k p
def zQP:Run:=rF2 (dT .kept) dI fun b c=>(zxm b c,[aT .slot (ztb b c),aB (zEo b c)])
def zX7 (N:Nat)(a0:Kept)(a1:Int):OA:=
 let y0:=(ix a0.Slots a1 zN); (oN (zcm a1 (ln a0.Known)) (cond (nB (zcO a1 (ln a0.Known))) (oN zdb (some [(.agg [(.i .i64 zcv.Page),(.i .i64 zcv.Rights)]),(aB false)])) (oN (zcm a1 (ln a0.Slots)) (cond (nB (zcO a1 (ln a0.Slots))) (oN zdb (some [(.agg [(.i .i64 zcv.Page),(.i .i64 zcv.Rights)]),(aB false)])) (oN (inb a1 (ln a0.Known)) (cond (nB (ix a0.Known a1 false)) (oN zdb (some [(.agg [(.i .i64 zcv.Page),(.i .i64 zcv.Rights)]),(aB false)])) (oN (inb a1 (ln a0.Slots)) (some [(.agg [(.i .i64 y0.Page),(.i .i64 y0.Rights)]),(aB true)]))))))))
theorem z2j (a0:Kept)(a1:Int)(hc:zxm a0 a1=true):∃N,zX7 N a0 a1=some [aT .slot (ztb a0 a1),aB (zEo a0 a1)]:=by
 refine ⟨0,?_⟩;unfold zX7 ztb zEo zdy zit zc8 oN nB
 conv=>zeta
 rw[show zcO a1 (ln a0.Known)=hasB a1 (ln a0.Known) from rfl,show zcO a1 (ln a0.Slots)=hasB a1 (ln a0.Slots) from rfl]
 cases h1:hasB a1 (ln a0.Known)
 .rfl
 .cases h2:hasB a1 (ln a0.Slots)
  .rfl
  .simp only [zcm,zx h1,zx h2,cT];cases ix a0.Known a1 false<;>rfl
theorem zWV:vJ 82 zQP:=kF2 zeK zk zl zc9 (zq []) z2j
def filled (k:Kept)(inner outer:List Slot)(p:Int):Kept:=bif zc8 k p then (cond (hasB p (ln inner)) ⟨up k.Known p true,up k.Slots p (zbh (ix inner p zN) outer)⟩ k) else k
@[simp] theorem z0R {k:Kept}{inner outer:List Slot}{p:Int}(h:SmK k):SmK (filled k inner outer p):=by
 unfold filled;cases zc8 k p
 .exact h
 .cases hasB p (ln inner)
  .exact h
  .exact ⟨by simpa using h.1,by simpa using h.2⟩
@[simp] abbrev zIP (k:Kept)(i o:List Slot)(p:Int):Bool:=pc (SmK k)
@[simp] abbrev zMn (k:Kept)(i o:List Slot)(p:Int):Kept:=filled k i o p
def zMl:Run:=rF4 (dT .kept) (dS .slot) (dS .slot) dI fun b c d e=>(zIP b c d e,[aT .kept (zMn b c d e)])
def zS4 (N:Nat)(a0:Kept)(a1 a2:lS)(a3:Int):OA:=
 let y0:=(zdq a0); (oN (zfT a0) (oN (zpb y0 a3) (cond (zia y0 a3) (cond (ilt a3 (ln a1)) (oN (inb a3 (ln y0.Known)) (share (up y0.Known a3 true) (fun x5=>(oN (inb a3 (ln a1)) (oN (zka (ix a1 a3 zN) a2) (oN (inb a3 (ln y0.Slots)) (share (up y0.Slots a3 (zmR (ix a1 a3 zN) a2)) (fun x6=>(some [(aT .kept (⟨x5,x6⟩:Kept))]))))))))) (some [(aT .kept y0)])) (some [(aT .kept y0)]))))
theorem zZ8 (a0:Kept)(a1 a2:List Slot)(a3:Int)(hc:zIP a0 a1 a2 a3=true):∃N,zS4 N a0 a1 a2 a3=some [aT .kept (zMn a0 a1 a2 a3)]:=by
 have hs:=zF.1 hc;refine ⟨0,?_⟩;unfold zS4 zMn filled oN
 conv=>zeta
 refine must (zbe ((zw8 _).2 hs)) (must (zbe hs) ?_);rw[show zia (zdq a0) a3=zc8 a0 a3 from rfl]
 cases hh:zc8 a0 a3
 .rfl
 .unfold zc8 at hh;obtain ⟨h1,h2⟩:=zc1.1 hh;rw[has_lt h1 (m:=ln a1)];cases h3:hasB a3 (ln a1)
  .rfl
  .simp only [cT,zdq,zx h1,zx h2,zx h3,share,zka];rfl
theorem zTX:vJ 103 zMl:=kF4 zeK zk zl zc9 (zq []) zZ8
@[simp] abbrev zIg (k:Kept)(i o:List Slot)(p:Int):Bool:=pc (SmK k)
@[simp] abbrev zLq (k:Kept)(i o:List Slot)(p:Int):Kept:=filled k i o p
def zMi:Run:=rF4 (dT .kept) (dS .slot) (dS .slot) dI fun b c d e=>(zIg b c d e,[aT .kept (zLq b c d e)])
def zS0 (N:Nat)(a0:Kept)(a1 a2:lS)(a3:Int):OA:=
 let y0:=(zdc a0); (oN (zf7 a0) (oN (zcm a3 (ln a0.Known)) (cond (zcO a3 (ln a0.Known)) (oN (zcm a3 (ln a0.Slots)) (cond (zcO a3 (ln a0.Slots)) (oN (zcm a3 (ln a1)) (cond (zcO a3 (ln a1)) (oN (inb a3 (ln y0.Known)) (share (up y0.Known a3 true) (fun x5=>(oN (inb a3 (ln a1)) (oN (zj6 (ix a1 a3 zN) a2) (oN (inb a3 (ln y0.Slots)) (share (up y0.Slots a3 (zmM (ix a1 a3 zN) a2)) (fun x6=>(some [(aT .kept (⟨x5,x6⟩:Kept))]))))))))) (some [(aT .kept y0)]))) (some [(aT .kept y0)]))) (some [(aT .kept y0)]))))
theorem zZ3 (a0:Kept)(a1 a2:List Slot)(a3:Int)(hc:zIg a0 a1 a2 a3=true):∃N,zS0 N a0 a1 a2 a3=some [aT .kept (zLq a0 a1 a2 a3)]:=by
 have hs:=zF.1 hc;refine ⟨0,?_⟩;unfold zS0 zLq filled zc8 oN
 conv=>zeta
 refine must (zbe hs) ?_;simp only[zcO,zcm,zdc,cT];cases h1:hasB a3 (ln a0.Known)
 .rfl
 .cases h2:hasB a3 (ln a0.Slots)
  .rfl
  .cases h3:hasB a3 (ln a1)
   .rfl
   .simp only [cT,zx h1,zx h2,zx h3,share,zj6];rfl
theorem zTS:vJ 93 zMi:=kF4 zeK zk zl zc9 (zq []) zZ3
theorem zHB {α ρ:Type}(p:α->Bool)(r:α->Option ρ)(K:Unit->Option ρ):∀(l:List α) (i:Nat),goL (fun _ x (_:Unit) k=>bif p x then r x else k ()) K l i ()=match l.find? p with|some x=>r x|none=>K ()
 | [],_=>rfl
 | x :: l,i=>by
  simp only[goL];cases h:p x
  .rw [List.find?_cons_of_neg (by simp[h])]
   exact zHB p r K l (i+1)
  .rw [List.find?_cons_of_pos h];rfl
def zsy (b:List Entry)(t p:Int):Option Entry:=b.find? fun e=>bif ieq e.Tag t then ieq e.Page p else false
@[simp] abbrev zmU (b:List Entry)(t p:Int):Bool:=true
@[simp] abbrev zmT (b:List Entry)(t p:Int):Entry:=(zsy b t p).getD ⟨0,0,0,0⟩
@[simp] abbrev zjy (b:List Entry)(t p:Int):Bool:=(zsy b t p).isSome
def zvu:Run:=rF3 (dS .entry) dI dI fun b c d=>(zmU b c d,[aT .entry (zmT b c d),aB (zjy b c d)])
def zzW (N:Nat)(a0:lE)(a1 a2:Int):OA:=
 (iter (σ:=(Int×(Int×(Int×(Int×(Int×(Int×(Int×(lE×Unit))))))))) N (fun r4 s5=>let y2:=s5.2.2.2.2.2.2.2.1;let y3:=(inb s5.2.2.1 (ln y2));let y1:=(r4 (s5.1,(s5.2.1,((zI .i64 s5.2.2.1 1),(s5.2.2.2.1,(s5.2.2.2.2.1,(s5.2.2.2.2.2.1,(s5.2.2.2.2.2.2.1,(y2,())))))))));let y0:=(ix y2 s5.2.2.1 zfl); (cond (ilt s5.2.2.1 (ln y2)) (oN y3 (cond (ieq y0.Tag s5.1) (oN y3 (cond (ieq y0.Page s5.2.1) (oN y3 (some [(.agg [(.i .i64 y0.Tag),(.i .i64 y0.Page),(.i .i64 y0.Host),(.i .i64 y0.Rights)]),(aB true)])) y1)) y1)) (some [(.agg [(.i .i64 0),(.i .i64 0),(.i .i64 0),(.i .i64 0)]),(aB false)]))) (a1,(a2,(0,(0,(0,(0,(0,(a0,())))))))))
def zMQ:FuncId->Nat->Option Tmpl:=zq [(100,0,{ n:=36,tm:=[(0,.sl 0 []),(1,ti),(2,ti),(6,.lp 0 0),(8,ti)],lo:=[(0,[ti,ti,ti,ti])],ro:=[(0,.entry,false)] })]
theorem zLN (a0:List Entry)(a1 a2:Int)(hb:zbN big [aS .entry a0,aI a1,aI a2])(hc:zmU a0 a1 a2=true):∃N,zzW N a0 a1 a2=some [aT .entry (zmT a0 a1 a2),aB (zjy a0 a1 a2)]:=by
 have hl:=(len0 hb);refine zce fun N hNN=>?_;unfold zzW oN
 conv=>zeta
 refine (zbd a0 (fun i (t:Unit)=>(a1,a2,(i:Int),0,0,0,0,a0,())) _ (fun _ (x:Entry) (_:Unit) κ=>bif (cond (ieq x.Tag a1) (ieq x.Page a2) false) then (some [AV.agg (Ty.cells .entry x),AV.one (.b true)]) else κ ()) (fun (t:Unit)=>(some [(.agg [(.i .i64 0),(.i .i64 0),(.i .i64 0),(.i .i64 0)]),(.one (.b false))])) (fun i hi t rec=>?_) (fun t rec=>?_) _ () (hNN hl)).trans ?_
 .simp only [zbx hi,zbb hi,zbg hi,zZ hi hl,cT];cases ieq a0[i].Tag a1<;>cases ieq a0[i].Page a2<;>rfl
 .simp only [zbp,cF]
 rw[zHB (fun e:Entry=>bif ieq e.Tag a1 then ieq e.Page a2 else false)]
 unfold zmT zjy zsy;cases a0.find? (fun e:Entry=>bif ieq e.Tag a1 then ieq e.Page a2 else false)<;>rfl
theorem zET:vJ 100 zvu:=hF3 zeK zk zl zc9 zMQ zLN
@[simp] abbrev zmN (b:List Entry)(t p:Int):Bool:=true
@[simp] abbrev zjs (b:List Entry)(t p:Int):Entry:=(zsy b t p).getD ⟨0,0,0,0⟩
@[simp] abbrev zjt (b:List Entry)(t p:Int):Bool:=(zsy b t p).isSome
def zvh:Run:=rF3 (dS .entry) dI dI fun b c d=>(zmN b c d,[aT .entry (zjs b c d),aB (zjt b c d)])
def zzJ (N:Nat)(a0:lE)(a1 a2:Int):OA:=
 (iter (σ:=(Int×(Int×(Int×(Int×(Int×(Int×(Int×(Int×(lE×Unit)))))))))) N (fun r4 s5=>let y2:=s5.2.2.2.2.2.2.2.2.1;let y1:=(r4 (s5.1,(s5.2.1,(s5.2.2.1,((zI .i64 s5.2.2.2.1 1),(s5.2.2.2.2.1,(s5.2.2.2.2.2.1,(s5.2.2.2.2.2.2.1,(s5.2.2.2.2.2.2.2.1,(y2,()))))))))));let y0:=(ix y2 s5.2.2.2.1 zfl); (cond (ilt s5.2.2.2.1 s5.2.2.1) (oN (inb s5.2.2.2.1 (ln y2)) (cond (ieq y0.Tag s5.1) (cond (ieq y0.Page s5.2.1) (some [(.agg [(.i .i64 y0.Tag),(.i .i64 y0.Page),(.i .i64 y0.Host),(.i .i64 y0.Rights)]),(aB true)]) y1) y1)) (some [(.agg [(.i .i64 0),(.i .i64 0),(.i .i64 0),(.i .i64 0)]),(aB false)]))) (a1,(a2,((ln a0),(0,(0,(0,(0,(0,(a0,()))))))))))
def zML:FuncId->Nat->Option Tmpl:=zq [(91,0,{ n:=29,tm:=[(1,ti),(2,ti),(6,.lp 0 0),(10,.sl 0 []),(11,ti),(12,ti)],lo:=[(0,[ti,ti,ti,ti])],ro:=[(0,.entry,false)] })]
theorem zLz (a0:List Entry)(a1 a2:Int)(hb:zbN big [aS .entry a0,aI a1,aI a2])(hc:zmN a0 a1 a2=true):∃N,zzJ N a0 a1 a2=some [aT .entry (zjs a0 a1 a2),aB (zjt a0 a1 a2)]:=by
 have hl:=(len0 hb);refine zce fun N hNN=>?_;unfold zzJ oN
 conv=>zeta
 refine (zbd a0 (fun i (t:Unit)=>(a1,a2,(ln a0),(i:Int),0,0,0,0,a0,())) _ (fun _ (x:Entry) (_:Unit) κ=>bif (cond (ieq x.Tag a1) (ieq x.Page a2) false) then (some [AV.agg (Ty.cells .entry x),AV.one (.b true)]) else κ ()) (fun (t:Unit)=>(some [(.agg [(.i .i64 0),(.i .i64 0),(.i .i64 0),(.i .i64 0)]),(.one (.b false))])) (fun i hi t rec=>?_) (fun t rec=>?_) _ () (hNN hl)).trans ?_
 .simp only [zbx hi,zbb hi,zbg hi,zZ hi hl,cT];cases ieq a0[i].Tag a1<;>cases ieq a0[i].Page a2<;>rfl
 .simp only [zbp,cF]
 rw[zHB (fun e:Entry=>bif ieq e.Tag a1 then ieq e.Page a2 else false)]
 unfold zjs zjt zsy;cases a0.find? (fun e:Entry=>bif ieq e.Tag a1 then ieq e.Page a2 else false)<;>rfl
theorem zEG:vJ 91 zvh:=hF3 zeK zk zl zc9 zML zLz
def zrp (t p:Int)(e:Entry):Bool:=bif ine e.Tag t then true else ine e.Page p
def zcr (b:List Entry)(t p:Int):List Entry:=b.filter (zrp t p)
theorem zyz (b:List Entry)(t p:Int):(zcr b t p).length<=b.length:=uC _ _
@[simp] abbrev zgs (b:List Entry)(t p:Int):Bool:=pc (b.length<=1048576)
@[simp] abbrev zmy (b:List Entry)(t p:Int):List Entry:=zcr b t p
def zvw:Run:=rF3 (dS .entry) dI dI fun b c d=>(zgs b c d,[aS .entry (zmy b c d)])
def zzY (N:Nat)(a0:lE)(a1 a2:Int):OA:=
 (iter (σ:=(Int×(Int×(Int×(lE×(lE×Unit)))))) N (fun r4 s5=>let y4:=s5.2.2.2.1;let y2:=(inb s5.2.2.1 (ln y4));let y0:=(ix y4 s5.2.2.1 zfl);let y3:=(ap s5.2.2.2.2.1 [y0]);let y1:=(r4 (s5.1,(s5.2.1,((zI .i64 s5.2.2.1 1),(y4,(y3,())))))); (cond (ilt s5.2.2.1 (ln y4)) (oN y2 (cond (ine y0.Tag s5.1) (oN y2 (oN (few (ln y3)) y1)) (oN y2 (cond (ine y0.Page s5.2.1) (oN y2 (oN (few (ln y3)) y1)) (r4 (s5.1,(s5.2.1,((zI .i64 s5.2.2.1 1),(y4,(s5.2.2.2.2.1,())))))))))) (some [(aS .entry s5.2.2.2.2.1)]))) (a1,(a2,(0,(a0,([],()))))))
def zMS:FuncId->Nat->Option Tmpl:=zq [(161,0,{ n:=40,tm:=[(0,.sl 0 []),(1,ti),(2,ti),(7,.sl 1 []),(8,ti)],lo:=[],ro:=[(0,.entry,false),(1,.entry,true)] })]
theorem zLP (a0:List Entry)(a1 a2:Int)(hc:zgs a0 a1 a2=true):∃N,zzY N a0 a1 a2=some [aS .entry (zmy a0 a1 a2)]:=by
 have hs:=zF.1 hc;have hl:=zcJ hs;refine zce fun N hNN=>?_;unfold zzY oN
 conv=>zeta
 refine (zbd a0 (fun i (t:lE)=>(a1,a2,(i:Int),a0,t,())) _ (fun _ (x:Entry) (t:List Entry) κ=>bif zrp a1 a2 x then (cond (few (ln (ap t [x]))) (κ (ap t [x])) none) else κ t) (fun (t:lE)=>(some [(.one (.s .entry t))])) (fun i hi t rec=>?_) (fun t rec=>?_) _ ([]) (hNN hl.1)).trans ?_
 .simp only [zbx hi,zbb hi,zbg hi,zZ hi hl.1,cT];unfold zrp;cases ine a0[i].Tag a1<;>cases ine a0[i].Page a2<;>rfl
 .simp only [zbp,cF]
 exact zlh (zrp a1 a2) _ a0 0 [] (by simpa using hl.2)
theorem zEV:vJ 161 zvw:=kF3 zeK zk zl zc9 zMS zLP
@[simp] abbrev zrS (b:List Entry)(t p:Int):Bool:=pc (b.length<=1048576)
@[simp] abbrev zqn (b:List Entry)(t p:Int):List Entry:=zcr b t p
def zvj:Run:=rF3 (dS .entry) dI dI fun b c d=>(zrS b c d,[aS .entry (zqn b c d)])
def zzL (N:Nat)(a0:lE)(a1 a2:Int):OA:=
 (iter (σ:=(Int×(Int×(Int×(Int×(lE×(lE×Unit))))))) N (fun r4 s5=>let y3:=s5.2.2.2.2.2.1;let y0:=(ix y3 s5.2.1 zfl);let y2:=(ap s5.2.2.2.2.1 [y0]);let y1:=(r4 (s5.1,((zI .i64 s5.2.1 1),(s5.2.2.1,(s5.2.2.2.1,(y2,(y3,()))))))); (cond (ilt s5.2.1 s5.1) (oN (inb s5.2.1 (ln y3)) (cond (ieq y0.Tag s5.2.2.1) (cond (nB (ieq y0.Page s5.2.2.2.1)) (oN (few (ln y2)) y1) (r4 (s5.1,((zI .i64 s5.2.1 1),(s5.2.2.1,(s5.2.2.2.1,(s5.2.2.2.2.1,(y3,())))))))) (oN (few (ln y2)) y1))) (some [(aS .entry s5.2.2.2.2.1)]))) ((ln a0),(0,(a1,(a2,([],(a0,())))))))
def zMN:FuncId->Nat->Option Tmpl:=zq [(209,0,{ n:=25,tm:=[(1,.fn 210 [0,1]),(5,.sl 0 []),(9,.sl 1 []),(10,ti),(11,ti)],lo:=[(0,[ti]),(1,[ti])],ro:=[(0,.entry,true),(1,.entry,false)] })]
theorem zLB (a0:List Entry)(a1 a2:Int)(hc:zrS a0 a1 a2=true):∃N,zzL N a0 a1 a2=some [aS .entry (zqn a0 a1 a2)]:=by
 have hs:=zF.1 hc;have hl:=zcJ hs;refine zce fun N hNN=>?_;unfold zzL oN nB
 conv=>zeta
 refine (zbd a0 (fun i (t:lE)=>((ln a0),(i:Int),a1,a2,t,a0,())) _ (fun _ (x:Entry) (t:List Entry) κ=>bif zrp a1 a2 x then (cond (few (ln (ap t [x]))) (κ (ap t [x])) none) else κ t) (fun (t:lE)=>(some [(.one (.s .entry t))])) (fun i hi t rec=>?_) (fun t rec=>?_) _ ([]) (hNN hl.1)).trans ?_
 .simp only [zbx hi,zbb hi,zbg hi,zZ hi hl.1,cT];unfold zrp;simp only[zlo];cases ieq a0[i].Tag a1<;>cases ieq a0[i].Page a2<;>rfl
 .simp only [zbp,cF]
 exact zlh (zrp a1 a2) _ a0 0 [] (by simpa using hl.2)
theorem zEI:vJ 152 zvj:=kF3 zeK zk zl zc9 zMN zLB
def z6E:zO:=[(304,zAw),(122,zAc),(99,zGR),(90,zGG),(101,zQT),(82,zQP),(103,zMl),(93,zMi),(100,zvu),(91,zvh),(161,zvw),(152,zvj)]++z1G
theorem ztw:zG z6E:=zh zK3 (zh zKI (zh zRs (zh zRg (zh zWZ (zh zWV (zh zTX (zh zTS (zh zET (zh zEG (zh zEV (zh zEI zeK)))))))))))
def zpJ (b:List Entry)(e:Entry):List Entry:=bif igt (ln (ap (zcr b e.Tag e.Page) [e])) 6 then dp (ap (zcr b e.Tag e.Page) [e]) (wsub .i64 (ln (ap (zcr b e.Tag e.Page) [e])) 6) else ap (zcr b e.Tag e.Page) [e]
theorem zzh {b:List Entry}(e:Entry)(h:b.length<=1048576):(zpJ b e).length<=1048576/\(ap (zcr b e.Tag e.Page) [e]).length<=1048577:=by
 have h1:=zyz b e.Tag e.Page;have h2:(ap (zcr b e.Tag e.Page) [e]).length<=1048577:=by simp[ap];omega
 refine ⟨?_,h2⟩;unfold zpJ;cases h3:igt (ln (ap (zcr b e.Tag e.Page) [e])) 6
 .have h3:=jT h3;simp only[ln]at h3;simp only[cF];omega
 .simp only [cT,dp,List.length_drop];have h3:=qE h3;have:wsub .i64 (ln (ap (zcr b e.Tag e.Page) [e])) 6=ln (ap (zcr b e.Tag e.Page) [e])-6:=ztp (by simp only[ln] at *;omega) (by simp only[ln] at *;omega)
  rw[this];simp only[ln] at *;omega
@[simp] abbrev zo4 (b:List Entry)(e:Entry):Bool:=pc (b.length<=1048576)
@[simp] abbrev zo3 (b:List Entry)(e:Entry):List Entry:=zpJ b e
def zx0:Run:=rF2 (dS .entry) (dT .entry) fun b c=>(zo4 b c,[aS .entry (zo3 b c)])
def zBE (N:Nat)(a0:lE)(a1:Entry):OA:=
 let y0:=(ap (zmy a0 a1.Tag a1.Page) [a1]);let y1:=(wsub .i64 (ln y0) 6); (oN (zgs a0 a1.Tag a1.Page) (oN (few (ln y0)) (cond (igt (ln y0) 6) (oN (inr y1 (ln y0) (ln y0)) (oN (few (ln (ap [] (dp y0 y1)))) (some [(aS .entry (ap [] (dp y0 y1)))]))) (some [(aS .entry y0)]))))
theorem zOO (a0:List Entry)(a1:Entry)(hc:zo4 a0 a1=true):∃N,zBE N a0 a1=some [aS .entry (zo3 a0 a1)]:=by
 have hs:=zF.1 hc;obtain ⟨h1,h2⟩:=zzh a1 hs;refine ⟨0,?_⟩;unfold zBE oN
 conv=>zeta
 refine must (zbe hs) (must (zgt (jD h2 (by decide:1048577<=2147483648))) ?_)
 unfold zo3 zpJ at *
 show _=some [AV.one (.s .entry (cond (igt (ln (ap (zcr a0 a1.Tag a1.Page) [a1])) 6) (dp (ap (zcr a0 a1.Tag a1.Page) [a1]) (wsub .i64 (ln (ap (zcr a0 a1.Tag a1.Page) [a1])) 6)) (ap (zcr a0 a1.Tag a1.Page) [a1])))]
 cases h3:igt (ln (ap (zcr a0 a1.Tag a1.Page) [a1])) 6
 .rfl
 .rw [h3]at h1;simp only[cT]at h1;have h3:=qE h3;have e:wsub .i64 (ln (ap (zcr a0 a1.Tag a1.Page) [a1])) 6=ln (ap (zcr a0 a1.Tag a1.Page) [a1])-6:=ztp (by simp only[ln] at *;omega) (by simp only[ln] at *;omega)
  refine must rfl (must (qJ ?_) (must ?_ ?_))
  .show 0<=wsub .i64 (ln (ap (zcr a0 a1.Tag a1.Page) [a1])) 6/\wsub .i64 (ln (ap (zcr a0 a1.Tag a1.Page) [a1])) 6<=ln (ap (zcr a0 a1.Tag a1.Page) [a1])/\ln (ap (zcr a0 a1.Tag a1.Page) [a1])<=ln (ap (zcr a0 a1.Tag a1.Page) [a1])
   rw[e];simp only[ln] at *;omega
  .exact zny h1
  .rw [zma];rfl
theorem zH5:vJ 104 zx0:=kF2 ztw zk zl zc9 (zq []) zOO
@[simp] abbrev zom (b:List Entry)(e:Entry):Bool:=pc (b.length<=1048576)
@[simp] abbrev zol (b:List Entry)(e:Entry):List Entry:=zpJ b e
def zxD:Run:=rF2 (dS .entry) (dT .entry) fun b c=>(zom b c,[aS .entry (zol b c)])
def zBf (N:Nat)(a0:lE)(a1:Entry):OA:=
 let y0:=(ap (zqn a0 a1.Tag a1.Page) [a1]);let y1:=(imax 0 (wsub .i64 (ln y0) 6)); (oN (zrS a0 a1.Tag a1.Page) (oN (few (ln y0)) (oN (inr y1 (ln y0) (ln y0)) (some [(aS .entry (dp y0 y1))]))))
theorem zOo (a0:List Entry)(a1:Entry)(hc:zom a0 a1=true):∃N,zBf N a0 a1=some [aS .entry (zol a0 a1)]:=by
 have hs:=zF.1 hc;obtain ⟨_,h2⟩:=zzh a1 hs;refine ⟨0,?_⟩;unfold zBf zol zpJ oN
 conv=>zeta
 simp only[zqn];generalize ap (zcr a0 a1.Tag a1.Page) [a1]=l at h2 ⊢;refine must (zbe hs) (must (zgt (jD h2 (by decide:1048577<=2147483648))) ?_)
 have e:wsub .i64 (ln l) 6=ln l-6:=ztp (by simp only[ln] at *;omega) (by simp only[ln] at *;omega)
 rw[e];cases h3:igt (ln l) 6
 .have h3:=jT h3;have e2:imax 0 (ln l-6)=0:=by
   unfold imax;rw[if_neg (by omega)]
  rw[e2];exact must (qJ (by simp only[ln];omega)) (by simp[dp])
 .have h3:=qE h3;have e2:imax 0 (ln l-6)=ln l-6:=by
   unfold imax;rw[if_pos (by omega)]
  rw[e2];exact must (qJ (by simp only[ln] at *;omega)) rfl
theorem zHH:vJ 94 zxD:=kF2 ztw zk zl zc9 (zq []) zOo
def zn7 (l:List Slot)(p:Int):Option Nat:=l.findIdx? fun s=>ieq s.Page p
def zhL (p:Int):List Mon->Nat->Int×Int
 | [],_=>(-1,-1)
 | m :: l,i=>match zn7 m.Outer p with|some k=>((i:Int),(k:Int))|none=>zhL p l (i+1)
def zbw (h:Host)(p:Int):Int×Int:=bif ilt p 0 then (-1,-1) else zhL p h.Mons 0
theorem zQw {ρ:Type}(p:Slot->Bool)(r:Nat->Option ρ)(K:Unit->Option ρ):∀(l:List Slot) (i:Nat),goL (fun j x (_:Unit) k=>bif p x then r j else k ()) K l i ()=match l.findIdx? p with|some k=>r (i+k)|none=>K ()
 | [],_=>rfl
 | x :: l,i=>by
  simp only[goL];rw[List.findIdx?_cons];cases h:p x
  .simp only [cF,kA,if_false];rw[zQw p r K l (i+1)];cases l.findIdx? p with
   | none=>rfl
   | some k=>simp only[Option.map_some];congr 1;omega
  .rfl
theorem zM8 {ρ:Type}(p:Int)(r:Int->Int->Option ρ):∀(l:List Mon) (i:Nat),goL (fun i (x:Mon) (_:Unit) κ=>goL (fun j (y:Slot) (_:Unit) κ₁=>bif ieq y.Page p then r (i:Int) (j:Int) else κ₁ ()) (fun _=>κ ()) x.Outer 0 ()) (fun _=>r (-1) (-1)) l i ()=r (zhL p l i).1 (zhL p l i).2
 | [],_=>rfl
 | m :: l,i=>by
  simp only[goL,zhL];rw[zQw (fun s=>ieq s.Page p) (fun j=>r (i:Int) (j:Int))];unfold zn7;cases m.Outer.findIdx? (fun s=>ieq s.Page p) with
  | none=>exact zM8 p r l (i+1)
  | some k=>simp only[jZ]
@[simp] abbrev zj7 (h:Host)(p:Int):Bool:=true
@[simp] abbrev zgj (h:Host)(p:Int):Int:=(zbw h p).1
@[simp] abbrev zhH (h:Host)(p:Int):Int:=(zbw h p).2
def zsp:Run:=rF2 dH dI fun b c=>(zj7 b c,[aI (zgj b c),aI (zhH b c)])
def zuG (N:Nat)(a0:Host)(a1:Int):OA:=
 (cond (ilt a1 0) (some [(aI (-1)),(aI (-1))]) (iter (σ:=(Int×(Int×(Int×(lN×Unit))))) N (fun r3 s4=>let y3:=s4.2.2.1; (cond (ilt y3 s4.2.1) (oN (inb y3 (ln s4.2.2.2.1)) (iter (σ:=(Int×(Int×(Int×(Int×(Int×(Int×(Int×(lN×Unit))))))))) N (fun r5 s6=>let y2:=s6.2.2.2.2.2.2.2.1;let y1:=(ix y2 s6.2.2.2.2.1 zf).Outer;let y0:=s6.2.2.2.2.2.2.1; (cond (ilt y0 s6.2.2.2.2.2.1) (oN (inb y0 (ln y1)) (cond (ieq (ix y1 y0 zN).Page s6.1) (some [(aI s6.2.1),(aI y0)]) (r5 (s6.1,(s6.2.1,(s6.2.2.1,(s6.2.2.2.1,(s6.2.2.2.2.1,(s6.2.2.2.2.2.1,((zI .i64 y0 1),(y2,()))))))))))) (r3 (s6.1,(s6.2.2.1,((zI .i64 s6.2.2.2.1 1),(y2,()))))))) (s4.1,(y3,(s4.2.1,(y3,(y3,((ln (ix s4.2.2.2.1 y3 zf).Outer),(0,(s4.2.2.2.1,())))))))))) (some [(aI (-1)),(aI (-1))]))) (a1,((ln a0.Mons),(0,(a0.Mons,()))))))
def zFv:FuncId->Nat->Option Tmpl:=zq [(275,0,{ n:=36,tm:=[(1,ti),(13,.sl 0 []),(14,ti),(15,ti)],lo:=[],ro:=[(0,.mon,false)] }),(275,2,{ n:=36,tm:=[(1,ti),(6,ti),(13,.sl 0 []),(14,ti),(15,ti),(21,.sl 0 [0]),(22,ti),(23,ti)],lo:=[],ro:=[(0,.mon,false)] })]
theorem zFa (a0:Host)(a1:Int)(hb:zbN big [aH a0,aI a1])(hc:zj7 a0 a1=true):∃N,zuG N a0 a1=some [aI (zgj a0 a1),aI (zhH a0 a1)]:=by
 have hm:CVB big (.s .mon a0.Mons):=(zc0 hb).1 _ (by simp[AV.cvs,zbc])
 have hl:=hm.len;refine zce fun N hNN=>?_;unfold zuG zgj zhH zbw oN
 conv=>zeta
 cases h0:ilt a1 0
 .simp only [cF];refine (zbd a0.Mons (fun i (t:Unit)=>(a1,(ln a0.Mons),(i:Int),a0.Mons,())) _ (fun i (x:Mon) (_:Unit) κ=>goL (fun j (y:Slot) (_:Unit) κ₁=>bif ieq y.Page a1 then some [AV.one (.i .i64 (i:Int)),AV.one (.i .i64 (j:Int))] else κ₁ ()) (fun _=>κ ()) x.Outer 0 ()) (fun (t:Unit)=>(some [(.one (.i .i64 (-1))),(.one (.i .i64 (-1)))])) (fun i hi t rec=>?_) (fun t rec=>?_) _ () (hNN hl)).trans ?_
  .simp only [zbx hi,zbb hi,zbg hi,zZ hi hl,cT];have ho:a0.Mons[i].Outer.length<=big:=(hm.inv.2 _ (jH hi) (.s .slot _) (by simp[Ty.cells])).len
   refine (zbd a0.Mons[i].Outer (fun j (u:Unit)=>(a1,(i:Int),(ln a0.Mons),(i:Int),(i:Int),(ln a0.Mons[i].Outer),(j:Int),a0.Mons,())) _ (fun j (y:Slot) (_:Unit) κ₁=>bif ieq y.Page a1 then some [AV.one (.i .i64 (i:Int)),AV.one (.i .i64 (j:Int))] else κ₁ ()) (fun (u:Unit)=>(rec (a1,((ln a0.Mons),((((i+1:Nat)):Int),(a0.Mons,())))))) (fun j hj u rec1=>?_) (fun u rec1=>?_) _ () (hNN ho)).trans ?_
   .simp only [zbx hj,zbb hj,zbg hj,zZ hj ho,cT,zbb hi,zbg hi,zZ hi hl]
   .simp only [zbp,cF,zbb hi,zbg hi,zZ hi hl]
   rfl
  .simp only [zbp,cF]
  exact zM8 a1 (fun i j=>some [AV.one (.i .i64 i),AV.one (.i .i64 j)]) a0.Mons 0
 .rfl
theorem zAX:vJ 275 zsp:=hF2 ztw zk zl zc9 zFv zFa
theorem z15 {α τ ρ:Type}(r:Option ρ):∀(l:List α) (i:Nat) (t:τ),goL (fun _ _ _ _=>r) (fun _=>r) l i t=r
 | [],_,_=>rfl
 | _ :: _,_,_=>rfl
@[simp] abbrev zkb (h:Host)(p:Int):Bool:=true
@[simp] abbrev zgl (h:Host)(p:Int):Int:=(zbw h p).1
@[simp] abbrev zhO (h:Host)(p:Int):Int:=(zbw h p).2
def zss:Run:=rF2 dH dI fun b c=>(zkb b c,[aI (zgl b c),aI (zhO b c)])
def zuR (N:Nat)(a0:Host)(a1:Int):OA:=
 (iter (σ:=(Int×(Int×(lM×(lN×(lE×(lE×Unit))))))) N (fun r3 s4=>(cond (ilt s4.2.1 (ln s4.2.2.2.1)) (cond (ige s4.1 0) (iter (σ:=(Int×(Int×(Int×(lM×(lN×(lE×(lE×Unit)))))))) N (fun r5 s6=>let y1:=s6.2.2.2.2.1;let y0:=(ix y1 s6.2.1 zf).Outer; (oN (inb s6.2.1 (ln y1)) (cond (ilt s6.2.2.1 (ln y0)) (oN (inb s6.2.1 (ln y1)) (oN (inb s6.2.2.1 (ln y0)) (cond (ieq (ix y0 s6.2.2.1 zN).Page s6.1) (some [(aI s6.2.1),(aI s6.2.2.1)]) (r5 (s6.1,(s6.2.1,((zI .i64 s6.2.2.1 1),(s6.2.2.2.1,(y1,(s6.2.2.2.2.2.1,(s6.2.2.2.2.2.2.1,()))))))))))) (r3 (s6.1,((zI .i64 s6.2.1 1),(s6.2.2.2.1,(y1,(s6.2.2.2.2.2.1,(s6.2.2.2.2.2.2.1,())))))))))) (s4.1,(s4.2.1,(0,(s4.2.2.1,(s4.2.2.2.1,(s4.2.2.2.2.1,(s4.2.2.2.2.2.1,())))))))) (some [(aI (-1)),(aI (-1))])) (some [(aI (-1)),(aI (-1))]))) (a1,(0,(a0.Memory,(a0.Mons,(a0.Buffer,(a0.IoBuffer,())))))))
def zFw:FuncId->Nat->Option Tmpl:=zq [(217,0,{ n:=44,tm:=[(1,ti),(2,.lp 0 0),(6,ti)],lo:=[(0,[.sl 0 [],.sl 1 [],.sl 2 [],.sl 3 []])],ro:=[(0,(.sl .int),false),(1,.mon,false),(2,.entry,false),(3,.entry,false)] }),(217,2,{ n:=44,tm:=[(1,ti),(2,.lp 0 0),(6,ti),(7,ti)],lo:=[(0,[.sl 0 [],.sl 1 [],.sl 2 [],.sl 3 []])],ro:=[(0,(.sl .int),false),(1,.mon,false),(2,.entry,false),(3,.entry,false)] })]
theorem zFl (a0:Host)(a1:Int)(hb:zbN big [aH a0,aI a1])(hc:zkb a0 a1=true):∃N,zuR N a0 a1=some [aI (zgl a0 a1),aI (zhO a0 a1)]:=by
 have hm:CVB big (.s .mon a0.Mons):=(zc0 hb).1 _ (by simp[AV.cvs,zbc])
 have hl:=hm.len;refine zce fun N hNN=>?_;unfold zuR zgl zhO zbw oN
 conv=>zeta
 refine (zbd a0.Mons (fun i (t:Unit)=>(a1,(i:Int),a0.Memory,a0.Mons,a0.Buffer,a0.IoBuffer,())) _ (fun i (x:Mon) (_:Unit) κ=>bif ige a1 0 then goL (fun j (y:Slot) (_:Unit) κ₁=>bif ieq y.Page a1 then some [AV.one (.i .i64 (i:Int)),AV.one (.i .i64 (j:Int))] else κ₁ ()) (fun _=>κ ()) x.Outer 0 () else some [AV.one (.i .i64 (-1)),AV.one (.i .i64 (-1))]) (fun (t:Unit)=>(some [(.one (.i .i64 (-1))),(.one (.i .i64 (-1)))])) (fun i hi t rec=>?_) (fun t rec=>?_) _ () (hNN hl)).trans ?_
 .simp only [zbx hi,zbb hi,zbg hi,zZ hi hl,cT];cases h0:ige a1 0
  .rfl
  have ho:a0.Mons[i].Outer.length<=big:=(hm.inv.2 _ (jH hi) (.s .slot _) (by simp[Ty.cells])).len
  simp only[cT];refine (zbd a0.Mons[i].Outer (fun j (_:Unit)=>(a1,((i:Int),((j:Int),(a0.Memory,(a0.Mons,(a0.Buffer,(a0.IoBuffer,())))))))) _ (fun j (y:Slot) (_:Unit) κ₁=>bif ieq y.Page a1 then some [AV.one (.i .i64 (i:Int)),AV.one (.i .i64 (j:Int))] else κ₁ ()) (fun _=>rec (a1,(((i+1:Nat):Int),(a0.Memory,(a0.Mons,(a0.Buffer,(a0.IoBuffer,()))))))) (fun j hj u rec1=>?_) (fun u rec1=>?_) _ () (hNN ho)).trans ?_
  .simp only [zbx hj,zbb hj,zbg hj,zZ hj ho,cT,zbb hi,zbg hi]
  .simp only [zbp,cF,cT,zbb hi,zbg hi,zZ hi hl]
  rfl
 .simp only [zbp,cF]
 cases h0:ige a1 0
 .have h1:ilt a1 0=true:=by
   have:=jT h0;exact qJ (by omega)
  rw[h1];exact z15 _ _ _ _
 .have h1:ilt a1 0=false:=by
   have:=qE h0;exact qG (by omega)
  rw[h1];exact zM8 a1 (fun i j=>some [AV.one (.i .i64 i),AV.one (.i .i64 j)]) a0.Mons 0
theorem zA7:vJ 217 zss:=hF2 ztw zk zl zc9 zFw zFl
def z6F:zO:=[(104,zx0),(94,zxD),(217,zss),(275,zsp)]++z6E
theorem ztx:zG z6F:=zh zH5 (zh zHH (zh zA7 (zh zAX ztw)))
def zb3 (h:Host):List Int:=zwp (fun i=>ilt (zbw h (i:Int)).1 0) h.Memory.length 0
@[simp] abbrev zlF (h:Host):Bool:=pc (h.Memory.length<=1048576)
@[simp] abbrev ze3 (h:Host):List Int:=zb3 h
def zDj:Run:=rF1 dH fun b=>(zlF b,[aS .int (ze3 b)])
def zJD (N:Nat)(a0:Host):OA:=
 (iter (σ:=(Int×((List Int)×(lM×(lN×(lE×(lE×Unit))))))) N (fun r2 s3=>let y0:=(⟨s3.2.2.1,s3.2.2.2.1,s3.2.2.2.2.1,s3.2.2.2.2.2.1⟩:Host); (cond (ilt s3.1 (ln s3.2.2.1)) (oN (zkb y0 s3.1) (cond (ilt (zgl y0 s3.1) 0) (oN (few (ln (ap s3.2.1 [s3.1]))) (r2 ((zI .i64 s3.1 1),((ap s3.2.1 [s3.1]),(s3.2.2.1,(s3.2.2.2.1,(s3.2.2.2.2.1,(s3.2.2.2.2.2.1,())))))))) (r2 ((zI .i64 s3.1 1),(s3.2.1,(s3.2.2.1,(s3.2.2.2.1,(s3.2.2.2.2.1,(s3.2.2.2.2.2.1,()))))))))) (some [(aS .int s3.2.1)]))) (0,([],(a0.Memory,(a0.Mons,(a0.Buffer,(a0.IoBuffer,())))))))
def zWk:FuncId->Nat->Option Tmpl:=zq [(216,0,{ n:=28,tm:=[(1,.lp 0 0),(3,.sl 0 []),(4,ti)],lo:=[(0,[.sl 1 [],.sl 2 [],.sl 3 [],.sl 4 []])],ro:=[(0,.int,true),(1,(.sl .int),false),(2,.mon,false),(3,.entry,false),(4,.entry,false)] })]
theorem zUE (a0:Host)(hc:zlF a0=true):∃N,zJD N a0=some [aS .int (ze3 a0)]:=by
 have hs:=zF.1 hc;have hl:=zcJ hs;refine zce fun N hNN=>?_;unfold zJD oN
 conv=>zeta
 refine (zbd a0.Memory (fun i (t:(List Int))=>((i:Int),t,a0.Memory,a0.Mons,a0.Buffer,a0.IoBuffer,())) _ (fun i (_:List Int) (t:List Int) κ=>bif ilt (zbw a0 (i:Int)).1 0 then (cond (few (ln (ap t [(i:Int)]))) (κ (ap t [(i:Int)])) none) else κ t) (fun (t:(List Int))=>(some [(.one (.s .int t))])) (fun i hi t rec=>?_) (fun t rec=>?_) _ ([]) (hNN hl.1)).trans ?_
 .simp only [zbx hi,zbb hi,zbg hi,zZ hi hl.1,cT]
 .simp only [zbp,cF]
 rw[zxh (fun i (t:List Int) κ=>bif ilt (zbw a0 (i:Int)).1 0 then (cond (few (ln (ap t [(i:Int)]))) (κ (ap t [(i:Int)])) none) else κ t)]
 exact zyG (fun i=>ilt (zbw a0 (i:Int)).1 0) _ _ 0 [] (by simpa using hl.2)
theorem zNN:vJ 216 zDj:=kF1 ztx zk zl zc9 zWk zUE
@[simp] abbrev zlj (h:Host):Bool:=pc (h.Memory.length<=1048576)
@[simp] abbrev zfE (h:Host):List Int:=zb3 h
def zCR:Run:=rF1 dH fun b=>(zlj b,[aS .int (zfE b)])
def zJc (N:Nat)(a0:Host):OA:=
 (iter (σ:=(Int×(Int×((List Int)×(lM×(lN×(lE×(lE×Unit)))))))) N (fun r2 s3=>let y1:=s3.2.2.2.2.2.2.1;let y0:=(⟨s3.2.2.2.1,s3.2.2.2.2.1,s3.2.2.2.2.2.1,y1⟩:Host); (cond (ilt s3.2.1 s3.1) (oN (zj7 y0 s3.2.1) (cond (ilt (zgj y0 s3.2.1) 0) (oN (few (ln (ap s3.2.2.1 [s3.2.1]))) (r2 (s3.1,((zI .i64 s3.2.1 1),((ap s3.2.2.1 [s3.2.1]),(s3.2.2.2.1,(s3.2.2.2.2.1,(s3.2.2.2.2.2.1,(y1,()))))))))) (r2 (s3.1,((zI .i64 s3.2.1 1),(s3.2.2.1,(s3.2.2.2.1,(s3.2.2.2.2.1,(s3.2.2.2.2.2.1,(y1,())))))))))) (some [(aS .int s3.2.2.1)]))) ((ln a0.Memory),(0,([],(a0.Memory,(a0.Mons,(a0.Buffer,(a0.IoBuffer,()))))))))
def zWc:FuncId->Nat->Option Tmpl:=zq [(206,0,{ n:=28,tm:=[(1,.lp 0 0),(3,.sl 0 []),(10,ti),(11,ti)],lo:=[(0,[.sl 1 [],.sl 2 [],.sl 3 [],.sl 4 []])],ro:=[(0,.int,true),(1,(.sl .int),false),(2,.mon,false),(3,.entry,false),(4,.entry,false)] })]
theorem zUc (a0:Host)(hc:zlj a0=true):∃N,zJc N a0=some [aS .int (zfE a0)]:=by
 have hs:=zF.1 hc;have hl:=zcJ hs;refine zce fun N hNN=>?_;unfold zJc oN
 conv=>zeta
 refine (zbd a0.Memory (fun i (t:(List Int))=>((ln a0.Memory),(i:Int),t,a0.Memory,a0.Mons,a0.Buffer,a0.IoBuffer,())) _ (fun i (_:List Int) (t:List Int) κ=>bif ilt (zbw a0 (i:Int)).1 0 then (cond (few (ln (ap t [(i:Int)]))) (κ (ap t [(i:Int)])) none) else κ t) (fun (t:(List Int))=>(some [(.one (.s .int t))])) (fun i hi t rec=>?_) (fun t rec=>?_) _ ([]) (hNN hl.1)).trans ?_
 .simp only [zbx hi,zbb hi,zbg hi,zZ hi hl.1,cT]
 .simp only [zbp,cF]
 rw[zxh (fun i (t:List Int) κ=>bif ilt (zbw a0 (i:Int)).1 0 then (cond (few (ln (ap t [(i:Int)]))) (κ (ap t [(i:Int)])) none) else κ t)]
 exact zyG (fun i=>ilt (zbw a0 (i:Int)).1 0) _ _ 0 [] (by simpa using hl.2)
theorem zNl:vJ 206 zCR:=kF1 ztx zk zl zc9 zWc zUc
def zhl (m:List (List Int))(p:Int)(c:List Int):List (List Int):=bif hasB p (ln m) then (cond (zca c) (up m p c) m) else m
@[simp] abbrev zkN (m:List (List Int))(p:Int)(c:List Int):Bool:=pc (SmM m/\c.length<=1048576)
@[simp] abbrev zjj (m:List (List Int))(p:Int)(c:List Int):List (List Int):=zhl m p c
def zx5:Run:=rF3 (dS (.sl .int)) dI (dS .int) fun b c d=>(zkN b c d,[aS (.sl .int) (zjj b c d)])
def zBI (N:Nat)(a0:lM)(a1:Int)(a2:List Int):OA:=
 (oN (zfS a0) (oN (zJ a1 0 (wsub .i64 (ln a0) 1)) (cond (zL a1 0 (wsub .i64 (ln a0) 1)) (oN (zfR a2) (cond (ze7 a2) (oN (few (ln (ap [] a2))) (oN (inb a1 (ln (zeq a0))) (share (up (zeq a0) a1 (ap [] a2)) (fun x4=>(some [(aS (.sl .int) x4)]))))) (some [(aS (.sl .int) (zeq a0))]))) (some [(aS (.sl .int) (zeq a0))]))))
theorem zOU (a0:List (List Int))(a1:Int)(a2:List Int)(hc:zkN a0 a1 a2=true):∃N,zBI N a0 a1 a2=some [aS (.sl .int) (zjj a0 a1 a2)]:=by
 obtain ⟨hs,hs2⟩:=zF.1 hc;refine ⟨0,?_⟩;unfold zBI zjj zhl oN;refine must (zbe ((zpr _).2 hs)) (must rfl ?_);rw[show zL a1 0 (wsub .i64 (ln a0) 1)=hasB a1 (ln a0) from zqc hs.1 a1]
 cases h1:hasB a1 (ln a0)
 .rfl
 .simp only [cT,zfR,ze7];cases h2:zca a2
  .rfl
  .refine must rfl (must (zny hs2) (must (zx h1) ?_));rw[zma];rfl
theorem zIa:vJ 219 zx5:=kF3 ztx zk zl zc9 (zq []) zOU
@[simp] abbrev zkx (m:List (List Int))(p:Int)(c:List Int):Bool:=pc (SmM m/\c.length<=1048576)
@[simp] abbrev zi9 (m:List (List Int))(p:Int)(c:List Int):List (List Int):=zhl m p c
def zxH:Run:=rF3 (dS (.sl .int)) dI (dS .int) fun b c d=>(zkx b c d,[aS (.sl .int) (zi9 b c d)])
def zBj (N:Nat)(a0:lM)(a1:Int)(a2:List Int):OA:=
 (oN (zfP a0) (oN (zcm a1 (ln a0)) (cond (zcO a1 (ln a0)) (oN (zhI a2) (cond (zgn a2) (oN (zdz a2) (oN (inb a1 (ln (zdo a0))) (share (up (zdo a0) a1 (zds a2)) (fun x4=>(some [(aS (.sl .int) x4)]))))) (some [(aS (.sl .int) (zdo a0))]))) (some [(aS (.sl .int) (zdo a0))]))))
theorem zOt (a0:List (List Int))(a1:Int)(a2:List Int)(hc:zkx a0 a1 a2=true):∃N,zBj N a0 a1 a2=some [aS (.sl .int) (zi9 a0 a1 a2)]:=by
 obtain ⟨hs,hs2⟩:=zF.1 hc;refine ⟨0,?_⟩;unfold zBj zi9 zhl oN;refine must (zbe hs) (must rfl ?_);rw[show zcO a1 (ln a0)=hasB a1 (ln a0) from rfl]
 cases h1:hasB a1 (ln a0)
 .rfl
 .simp only [cT,zhI,zgn];cases h2:zca a2
  .rfl
  .refine must rfl (must (zbe (jD hs2 (by decide))) (must (zx h1) rfl))
theorem zHL:vJ 208 zxH:=kF3 ztx zk zl zc9 (zq []) zOt
def zqi:zO:=[(216,zDj),(206,zCR),(219,zx5),(208,zxH)]++z6F
theorem zg6:zG zqi:=zh zNN (zh zNl (zh zIa (zh zHL ztx)))
abbrev mZ:Mon:=Ty.dflt .mon
abbrev sZ:Slot:=Ty.dflt .slot
def ShM (x:Mon):Prop:=x.Outer.length=8/\x.Out.length=8/\x.Dirty.length=8/\x.Tables.length=x.Guests.length
def Shape (h:Host):Prop:=SmH h/\∀x∈h.Mons,ShM x
theorem zib {h:Host}{m:Int}{x:Mon}(hs:Shape h)(h1:zfr x)(h2:ShM x):Shape { h with Mons:=up h.Mons m x }:=by
 refine ⟨⟨hs.1.1,ziV hs.1.2.1 h1,hs.1.2.2⟩,fun y hy=>?_⟩;rcases qZ hy with hy|rfl
 .exact hs.2 y hy
 .exact h2
theorem zcg {h:Host}(hs:Shape h){m:Int}(hm:hasB m (ln h.Mons)=true):zfr (ix h.Mons m mZ)/\ShM (ix h.Mons m mZ):=⟨hs.1.2.1.2 _ (zbu hm _),hs.2 _ (zbu hm _)⟩
theorem zQW {h:Host}{mm:List (List Int)}(hs:Shape h)(h1:SmM mm):Shape { h with Memory:=mm }:=⟨⟨h1,hs.1.2⟩,hs.2⟩
theorem zsj {h:Host}{m p:Int}{s:Slot}(hm:hasB m (ln h.Mons)=true)(hs:Shape h):Shape (zcb h m p s):=by
 refine ⟨zG2 hm hs.1,?_⟩;obtain ⟨_,h2⟩:=zcg hs hm;have key:∀y∈up h.Mons m { zj5 (ix h.Mons m mZ) p (ix h.Mons m mZ).Tables.length with Outer:=up (ix h.Mons m mZ).Outer p s },ShM y:=by
  intro y hy;rcases qZ hy with hy|rfl
  .exact hs.2 y hy
  .exact ⟨by simpa using h2.1,h2.2.1,h2.2.2.1,by simpa [zj5,zp8] using h2.2.2.2⟩
 unfold zcb;cases ine (ix (ix h.Mons m mZ).Outer p sZ).Page (-1)<;>exact key
theorem zf9 (h:Host)(m p:Int)(s:Slot):(zcb h m p s).Mons=up h.Mons m { zj5 (ix h.Mons m mZ) p (ix h.Mons m mZ).Tables.length with Outer:=up (ix h.Mons m mZ).Outer p s }/\(zcb h m p s).Memory=h.Memory:=by
 unfold zcb;cases ine (ix (ix h.Mons m mZ).Outer p sZ).Page (-1)<;>exact ⟨rfl,rfl⟩
theorem zeh {h:Host}{m k:Int}{x:Mon}(hm:hasB m (ln h.Mons)=true):hasB m (ln (up h.Mons k x))=true:=by simpa [ln] using hm
theorem zGo {h:Host}{m k p:Int}{s:Slot}(hm:hasB m (ln h.Mons)=true):hasB m (ln (zcb h k p s).Mons)=true:=by
 rw[(zf9 h k p s).1];exact zeh hm
theorem zdj {α:Type}{l:List α}{p:Int}(h:l.length=8)(hp:hasB p 8=true):hasB p (ln l)=true:=by rw[ln,h];exact hp
def zy3 (h:Host)(m p:Int)(s:Slot):Host :=
 bif ine s.Page (-1) then ⟨h.Memory,up h.Mons m (zj5 (ix h.Mons m mZ) p (ix h.Mons m mZ).Guests.length),flushed h.Buffer s.Page,flushed h.IoBuffer s.Page⟩
 else ⟨h.Memory,up h.Mons m (zj5 (ix h.Mons m mZ) p (ix h.Mons m mZ).Guests.length),h.Buffer,h.IoBuffer⟩
theorem zzx {h:Host}{k:Nat}{p:Int}{s:Slot}(hk:k<h.Mons.length)(ht:(ix h.Mons (k:Int) mZ).Tables.length=(ix h.Mons (k:Int) mZ).Guests.length) :
 zy3 { h with Mons:=up h.Mons (k:Int) { ix h.Mons (k:Int) mZ with Outer:=up (ix h.Mons (k:Int) mZ).Outer p s } } (k:Int) p (ix (ix h.Mons (k:Int) mZ).Outer p sZ)=zcb h (k:Int) p s:=by
 unfold zcb zy3;simp only[zdN hk,zv8,zj5,ht]
def zZY {ρ:Type}(m p:Int)(i:Nat)(t:List Mon)(κ:List Mon->Option ρ):Option ρ :=
 (cond (inb (i:Int) (ln (ix t m mZ).Tables)) (cond (inb (i:Int) (ln (ix t m mZ).Guests)) (cond (pc (SmK (ix (ix t m mZ).Tables (i:Int) zez)/\(ix (ix t m mZ).Guests (i:Int) zi).Live.length<=1048576)) (cond (inb (i:Int) (ln (ix t m mZ).Tables)) (κ (up t m ({ (ix t m mZ) with Tables:=(up (ix t m mZ).Tables (i:Int) (zhG (ix (ix t m mZ).Tables (i:Int) zez) (ix (ix t m mZ).Guests (i:Int) zi).Live p)) }:Mon))) none) none) none) none)
theorem zYu {ρ:Type}{mons:List Mon}{k:Nat}(hk:k<mons.length)(p:Int)(hm:zfr (ix mons (k:Int) mZ))(ht:(ix mons (k:Int) mZ).Tables.length=(ix mons (k:Int) mZ).Guests.length)(K:List Mon->Option ρ) :
 ∀(n i:Nat),i+n=(ix mons (k:Int) mZ).Guests.length->goN (fun i t κ=>zZY (k:Int) p i t κ) K n i (up mons (k:Int) (zj5 (ix mons (k:Int) mZ) p i))=K (up mons (k:Int) (zj5 (ix mons (k:Int) mZ) p (ix mons (k:Int) mZ).Guests.length))
 | 0,i,h=>by
  have:i=(ix mons (k:Int) mZ).Guests.length:=by omega
  subst this;rfl
 | n+1,i,h=>by
  have hi3:i<(ix mons (k:Int) mZ).Guests.length:=by omega
  have hi2:i<(zkZ (ix mons (k:Int) mZ).Guests p i (ix mons (k:Int) mZ).Tables).length:=by rw[zp8];omega
  have hf:pc (SmK (ix (zkZ (ix mons (k:Int) mZ).Guests p i (ix mons (k:Int) mZ).Tables) (i:Int) zez)/\(ix (ix mons (k:Int) mZ).Guests (i:Int) zi).Live.length<=1048576)=true :=
   zbe ⟨by rw[zbg hi2];exact (zv6 _ _ _ _ (by omega) hm.2.2.2.2.2).2 _ (jH hi2),by rw[zbg hi3];exact (hm.2.2.2.1.2 _ (jH hi3)).2.2.1⟩
  simp only[goN,zZY,zdN hk,zv8,zj5,zbb hi2,zbb hi3,hf,cT];exact zYu hk p hm ht K n (i+1) (by omega)
@[simp] abbrev zeb (h:Host)(m p:Int)(s:Slot):Bool:=pc (Shape h/\hasB m (ln h.Mons)=true)
@[simp] abbrev zec (h:Host)(m p:Int)(s:Slot):Host:=zy3 h m p s
def zl0:List CV->List AV->Option (Bool×List CV×List AV)
 | [.s (.sl .int) b,.s .mon c,.s .entry d,.s .entry e],[.one (.i .i64 f),.one (.i .i64 g),.agg [.i .i64 h,.i .i64 j]]=>some ((zeb (⟨b,c,d,e⟩:Host) f g (⟨h,j⟩:Slot)),zbc (zec (⟨b,c,d,e⟩:Host) f g (⟨h,j⟩:Slot)),[])
 | _,_=>none
def zpj (N:Nat)(c:Host)(a0 a1:Int)(a2:Slot):OA:=
 (oN (inb a0 (ln c.Mons)) (iter (σ:=(Int×(Int×(Int×(Int×(Int×(Int×(lN×(lM×(lE×(lE×Unit))))))))))) N (fun r5 s6=>let y7:=s6.2.2.2.2.2.2.2.1;let y5:=s6.2.2.2.2.2.2.1;let y4:=s6.2.2.2.2.1;let y3:=s6.2.2.2.2.2.2.2.2.1;let y2:=s6.2.2.2.2.2.2.2.2.2.1;let y1:=s6.2.2.2.1;let y0:=(ix y5 s6.2.1 zf);let y8:=(ix y0.Tables y1 zez);let y6:=(ix y0.Guests y1 zi).Live; (cond (ilt y1 s6.2.2.1) (oN (inb y1 (ln y0.Tables)) (oN (inb y1 (ln y0.Guests)) (oN (zpx y8 y6 s6.1) (oN (inb y1 (ln y0.Tables)) (share (up y5 s6.2.1 ({ y0 with Tables:=(up y0.Tables y1 (ztP y8 y6 s6.1)) }:Mon)) (fun x7=>(r5 (s6.1,(s6.2.1,(s6.2.2.1,((zI .i64 y1 1),(y4,(s6.2.2.2.2.2.1,(x7,(y7,(y3,(y2,()))))))))))))))))) (cond (ine y4 (-1)) (oN (zhu y3 y4) (oN (zhu y2 y4) (some [(aH (⟨y7,y5,(zjK y3 y4),(zjK y2 y4)⟩:Host))]))) (some [(aH (⟨y7,y5,y3,y2⟩:Host))])))) (a1,(a0,((ln (ix c.Mons a0 zf).Guests),(0,(a2.Page,(a2.Rights,(c.Mons,(c.Memory,(c.Buffer,(c.IoBuffer,()))))))))))))
def zIZ:FuncId->Nat->Option Tmpl:=zq [(137,0,{ n:=71,tm:=[(0,.lp 0 0),(2,ti),(7,.lp 1 0),(8,.ep 0 [] 0),(20,ti),(21,ti)],lo:=[(0,[.sl 1 [],.sl 0 [],.sl 2 [],.sl 3 []]),(1,[ti,ti])],ro:=[(0,.mon,true),(1,(.sl .int),true),(2,.entry,true),(3,.entry,true)] })]
theorem zLY (N:Nat)(c:Host)(a0 a1:Int)(a2:Slot):zgz (cQ zqi zow zIJ zV8) zIZ N 12 137 [true,true,true,true] (zbc c) [aI a0,aI a1,aT .slot a2]=zpj N c a0 a1 a2:=by kernel_rfl
theorem zIq (c:Host)(a0 a1:Int)(a2:Slot)(hb:zbN big (.agg (zbc c) :: [aI a0,aI a1,aT .slot a2]))(hc:zeb c a0 a1 a2=true):∃N,zpj N c a0 a1 a2=some (.agg (zbc (zec c a0 a1 a2)) :: []):=by
 obtain ⟨hs,hm⟩:=zF.1 hc;obtain ⟨g1,g2⟩:=zcg hs hm;have hg:(ix c.Mons a0 mZ).Guests.length<=big:=(zcJ g1.2.2.2.1.1).1;refine zce fun N hNN=>?_;unfold zpj oN
 conv=>zeta
 refine must (zx hm) ?_;refine (zbd ((ix c.Mons a0 zf).Guests) (fun i (t:lN)=>(a1,a0,(ln (ix c.Mons a0 zf).Guests),(i:Int),a2.Page,a2.Rights,t,c.Memory,c.Buffer,c.IoBuffer,())) _ (fun i (x:Guest) (t:List Mon) κ=>zZY a0 a1 i t κ) (fun (t:lN)=>(cond (ine a2.Page (-1)) (cond (zhu c.Buffer a2.Page) (cond (zhu c.IoBuffer a2.Page) (some [(.agg (zbc (⟨c.Memory,t,(zjK c.Buffer a2.Page),(zjK c.IoBuffer a2.Page)⟩:Host)))]) none) none) (some [(.agg (zbc (⟨c.Memory,t,c.Buffer,c.IoBuffer⟩:Host)))]))) (fun i hi t rec=>?_) (fun t rec=>?_) _ (c.Mons) (hNN hg)).trans ?_
 .simp only [zbx hi,zbb hi,zbg hi,zZ hi hg,cT];rfl
 .simp only [zbp,cF]
 obtain ⟨k,rfl,hk⟩:=zdH (n:=c.Mons.length) hm;rw[zxh (fun i t κ=>zZY (k:Int) a1 i t κ)];have e0:c.Mons=up c.Mons (k:Int) (zj5 (ix c.Mons (k:Int) mZ) a1 0):=(zPA hk _).symm;refine (congrArg _ e0).trans ((zYu hk a1 g1 g2.2.2.2 _ _ 0 (jZ _)).trans ?_)
 show (cond (ine a2.Page (-1)) _ _)=some [AV.agg (zbc (zy3 c (k:Int) a1 a2))]
 unfold zy3;cases ine a2.Page (-1)
 .rfl
 .exact must rfl (must (zbe hs.1.2.2.1) (must (zbe hs.1.2.2.2) rfl))
theorem zCe:zdJ Tryz.prog 137 [true,true,true,true] zl0:=by
 refine zb5 (zc7 zg6 zk zl zc9) (zem (by kernel_rfl)) ?_
 intro cs avs cs' rs hl hr h;have hb:=zcu hr;unfold zl0 at h;split at h
 .obtain ⟨hc,rfl,rfl⟩:=zcT h;obtain ⟨N,hN⟩:=zIq _ _ _ _ (by exact hb) hc
  exact ⟨rfl,_,N,12,(zLY N _ _ _ _ ).trans hN⟩
 .cases h
def z0j:zdw:=[(137,([true,true,true,true],zl0))]++zIJ
theorem zPd:zct z0j:=zel zl (by
 intro x hx;simp only[qI,qX,or_false]at hx;rcases hx with rfl
 .exact zCe)
def zeA (h:Host)(m p:Int):Host:={ h with Mons:=up h.Mons m { ix h.Mons m mZ with Out:=up (ix h.Mons m mZ).Out p (zcd h.Memory (ix (ix h.Mons m mZ).Outer p sZ).Page) } }
def zdk (h:Host)(m p:Int):Host:=zcb (zeA h m p) m p noSlot
theorem zVX {m:List (List Int)}{p:Int}(h:SmM m):(zcd m p).length<=1048576:=by
 unfold zcd;cases hh:hasB p (ln m)
 .exact (by decide:zzF.length<=1048576)
 .exact h.2 _ (zbu hh _)
theorem zwM {h:Host}{m p:Int}(hs:Shape h)(hm:hasB m (ln h.Mons)=true):Shape (zeA h m p):=by
 obtain ⟨g1,g2⟩:=zcg hs hm;exact zib hs ⟨g1.1,zMB g1.2.1 (zVX hs.1.1),g1.2.2⟩ ⟨g2.1,by simpa using g2.2.1,g2.2.2⟩
theorem zMt {h:Host}{m p:Int}(hs:Shape h)(hm:hasB m (ln h.Mons)=true):Shape (zdk h m p):=zsj (zeh hm) (zwM hs hm)
@[simp] abbrev zsZ (h:Host)(m p:Int):Bool:=pc (Shape h/\hasB m (ln h.Mons)=true/\hasB p 8=true)
@[simp] abbrev zzv (h:Host)(m p:Int):Host:=zdk h m p
def zuh:List AV->Option (Bool×List AV)
 | [.agg [.s (.sl .int) b,.s .mon c,.s .entry d,.s .entry e],.one (.i .i64 f),.one (.i .i64 g)]=>some ((zsZ (⟨b,c,d,e⟩:Host) f g),[aH (zzv (⟨b,c,d,e⟩:Host) f g)])
 | _=>none
def zyn (N:Nat)(a0:Host)(a1 a2:Int):OA:=
 let y0:=(ix a0.Mons a1 zf);let y1:=(ix y0.Outer a2 zN).Page; (oN (inb a1 (ln a0.Mons)) (oN (inb a1 (ln a0.Mons)) (oN (inb a2 (ln y0.Outer)) (oN (zjg a0.Memory y1) (oN (inb a2 (ln y0.Out)) (share (up a0.Mons a1 ({ y0 with Out:=(up y0.Out a2 (znl a0.Memory y1)) }:Mon)) (fun x4=>let y2:=({ a0 with Mons:=x4 }:Host); (oN zcq (oN (zeU y2 a1 a2 zbs) (some [(aH (zgN y2 a1 a2 zbs))]))))))))))
theorem zXC (N:Nat)(a0:Host)(a1 a2:Int):zEh (cQ zqi zow z0j zV8) (zq []) N 12 218 [true,true,true,true,false,false] 1 1 [[0],[1],[2],[4],[7]] .mon [aH a0,aI a1,aI a2]=zyn N a0 a1 a2:=by kernel_rfl
theorem zU4 (a0:Host)(a1 a2:Int)(hb:zbN big [aH a0,aI a1,aI a2])(hc:zsZ a0 a1 a2=true):∃N,zyn N a0 a1 a2=some [aH (zzv a0 a1 a2)]:=by
 obtain ⟨hs,hm,hp⟩:=zF.1 hc;obtain ⟨g1,g2⟩:=zcg hs hm;obtain ⟨k,rfl,hk⟩:=zdH (n:=a0.Mons.length) hm;have hS:=zwM (p:=a2) hs hm;refine ⟨0,?_⟩;unfold zyn oN
 conv=>zeta
 refine must (zx hm) (must (zx hm) (must (zx (zdj g2.1 hp)) (must (zbe ((zpr _).2 hs.1.1)) (must (zx (zdj g2.2.1 hp)) (shr (must rfl (must (zbe ⟨(zK _).2 hS.1,zeh hm,?_,?_⟩) rfl)))))))
 .simp only [zdN hk];exact zdj g2.1 hp
 .simp only [zdN hk];exact vH g2.2.2.2
theorem zOa:zdY Tryz.prog 218 [true,true,true,true,false,false] (some (1,1,[[0],[1],[2],[4],[7]])) zuh:=by
 refine zli (kt:=.mon) (zc7 zg6 zk zPd zc9) (zem (by kernel_rfl)) (by kernel_rfl) ?_
 intro avs rs hl hr h;have hb:=zih hr;unfold zuh at h;split at h
 .obtain ⟨hc,rfl⟩:=zdQ h;obtain ⟨N,hN⟩:=zU4 _ _ _ (by exact hb) hc
  exact ⟨⟨_,rfl⟩,rfl,_,N,12,(zXC N _ _ _ ).trans hN⟩
 .cases h
@[simp] abbrev zIi (h:Host)(m p:Int):Bool:=pc (Shape h/\hasB m (ln h.Mons)=true/\hasB p 8=true)
@[simp] abbrev zIj (h:Host)(m p:Int):Host:=zdk h m p
def zwu:List CV->List AV->Option (Bool×List CV×List AV)
 | [.s (.sl .int) b,.s .mon c,.s .entry d,.s .entry e],[.one (.i .i64 f),.one (.i .i64 g)]=>some ((zIi (⟨b,c,d,e⟩:Host) f g),zbc (zIj (⟨b,c,d,e⟩:Host) f g),[])
 | _,_=>none
def zHc (N:Nat)(c:Host)(a0 a1:Int):OA:=
 let y0:=(ix c.Mons a0 zf);let y1:=(ix y0.Outer a1 zN); (oN (inb a0 (ln c.Mons)) (oN (inb a1 (ln y0.Outer)) (oN (zi4 c.Memory y1.Page) (oN (inb a1 (ln y0.Out)) (share (up c.Mons a0 ({ y0 with Out:=(up y0.Out a1 (zm8 c.Memory y1.Page)) }:Mon)) (fun x4=>let y2:=(ix x4 a0 zf); (oN zdb (oN (inb a1 (ln y2.Outer)) (share (up x4 a0 ({ y2 with Outer:=(up y2.Outer a1 zcv) }:Mon)) (fun x5=>let y3:=({ c with Mons:=x5 }:Host); (oN (zeb y3 a0 a1 y1) (some [(aH (zec y3 a0 a1 y1))]))))))))))))
theorem z2C (N:Nat)(c:Host)(a0 a1:Int):zgz (cQ zqi zow z0j zV8) (zq []) N 12 81 [true,true,true,true] (zbc c) [aI a0,aI a1]=zHc N c a0 a1:=by kernel_rfl
theorem zZ6 (c:Host)(a0 a1:Int)(hb:zbN big (.agg (zbc c) :: [aI a0,aI a1]))(hc:zIi c a0 a1=true):∃N,zHc N c a0 a1=some (.agg (zbc (zIj c a0 a1)) :: []):=by
 obtain ⟨hs,hm,hp⟩:=zF.1 hc;obtain ⟨g1,g2⟩:=zcg hs hm;obtain ⟨k,rfl,hk⟩:=zdH (n:=c.Mons.length) hm;have hS:=zwM (p:=a1) hs hm;have hm':hasB (k:Int) (ln (zeA c (k:Int) a1).Mons)=true:=zeh hm;have hk':k<(zeA c (k:Int) a1).Mons.length:=by simpa [zeA] using hk
 have ex:ix (zeA c (k:Int) a1).Mons (k:Int) mZ={ ix c.Mons (k:Int) mZ with Out:=up (ix c.Mons (k:Int) mZ).Out a1 (zcd c.Memory (ix (ix c.Mons (k:Int) mZ).Outer a1 sZ).Page) }:=zdN hk _ _;have hX:Shape { zeA c (k:Int) a1 with Mons:=up (zeA c (k:Int) a1).Mons (k:Int) { ix (zeA c (k:Int) a1).Mons (k:Int) mZ with Outer:=up (ix (zeA c (k:Int) a1).Mons (k:Int) mZ).Outer a1 noSlot } }:=by
  obtain ⟨q1,q2⟩:=zcg hS hm';exact zib hS ⟨by simpa using q1.1,q1.2⟩ ⟨by simpa using q2.1,q2.2⟩
 refine ⟨0,?_⟩;unfold zHc oN
 conv=>zeta
 refine must (zx hm) (must (zx (zdj g2.1 hp)) (must (zbe ((zpr _).2 hs.1.1)) (must (zx (zdj g2.2.1 hp)) (shr (must rfl (must ?_ (shr (must (zbe ⟨hX,zeh hm'⟩) ?_))))))))
 .rw [zdN hk];exact zx (zdj g2.1 hp)
 .have:=zzx (p:=a1) (s:=noSlot) hk' (by rw[ex];exact g2.2.2.2)
  rw[ex] at this
  show some [AV.agg (zbc (zy3 { zeA c (k:Int) a1 with Mons:=up (zeA c (k:Int) a1).Mons (k:Int) { ix (zeA c (k:Int) a1).Mons (k:Int) mZ with Outer:=up (ix (zeA c (k:Int) a1).Mons (k:Int) mZ).Outer a1 noSlot } } (k:Int) a1 (ix (ix c.Mons (k:Int) mZ).Outer a1 sZ)))]=_
  rw[ex];exact congrArg (fun x=>some [AV.agg (zbc x)]) this
theorem zTV:zdJ Tryz.prog 81 [true,true,true,true] zwu:=by
 refine zb5 (zc7 zg6 zk zPd zc9) (zem (by kernel_rfl)) ?_
 intro cs avs cs' rs hl hr h;have hb:=zcu hr;unfold zwu at h;split at h
 .obtain ⟨hc,rfl,rfl⟩:=zcT h;obtain ⟨N,hN⟩:=zZ6 _ _ _ (by exact hb) hc
  exact ⟨rfl,_,N,12,(z2C N _ _ _ ).trans hN⟩
 .cases h
def z0k:zdw:=[(81,([true,true,true,true],zwu))]++z0j
theorem zPe:zct z0k:=zel zPd (by
 intro x hx;simp only[qI,qX,or_false]at hx;rcases hx with rfl
 .exact zTV)
def z0W:zeX:=[(218,([true,true,true,true,false,false],(some (1,1,[[0],[1],[2],[4],[7]])),zuh))]++zV8
theorem zPm:zdZ z0W:=zp9 zc9 (by
 intro x hx;simp only[qI,qX,or_false]at hx;rcases hx with rfl
 .exact zOa)
end
end Go.Proofs.YtdaahiceaagpdaaGreat.E
