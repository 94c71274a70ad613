/- What is proved here: a part of the proof that the statement of this claim holds (several texts of wip/, laid together). -/
import Derived.Test.YtdaahiceaagpdaaGreatV3
namespace Go.Proofs.YtdaahiceaagpdaaGreat.E
open Go
set_option linter.unusedVariables false
set_option maxRecDepth 100000
set_option linter.unusedSimpArgs false
set_option linter.unusedSectionVars false
noncomputable section
theorem must {ρ:Type}{c:Bool}{a b r:Option ρ}(h:c=true)(k:a=r):(cond c a b)=r:=by rw[h];exact k
theorem mu {ρ:Type}{c:Bool}{a b r:Option ρ}(k:a=r)(h:c=true:=by first|assumption|(simp_all<;>omega)):(cond c a b)=r:=must h k
theorem zdI {ρ:Type}{c:Bool}{a b r:Option ρ}(h:c=false)(k:b=r):(cond c a b)=r:=by rw[h];exact k
theorem br {ρ:Type}{c:Bool}{a b r:Option ρ}(h1:c=true->a=r)(h2:c=false->b=r):(cond c a b)=r:=by
 cases c
 .exact h2 rfl
 .exact h1 rfl
theorem brN {ρ:Type}{c:Bool}{a b r:Option ρ}(h1:c=false->a=r)(h2:c=true->b=r):(cond (cond c false true) a b)=r:=by
 cases c
 .exact h1 rfl
 .exact h2 rfl
theorem shr {α ρ:Type}{x:α}{f:α->Option ρ}{r:Option ρ}(h:f x=r):share x f=r:=h
theorem zib {ρ:Type}{c p:Bool}{a b:Option ρ}(hc:c=true):(cond c (cond (cond p false true) a b) none)=bif p then b else a:=by
 rw[hc];cases p<;>rfl
attribute [simp] zD
@[simp] theorem z5a {α:Type}(l:List α):(few (ln l)=true)↔l.length<=2147483648:=by
 unfold few ln;rw[decide_eq_true_iff];omega
@[simp] theorem z7W {α:Type}(l m:List α):(ap l m).length=l.length+m.length:=by simp[ap]
attribute [simp] zlb zf2
@[simp] theorem z3L (n:Nat)(k:IntKind)(x:Int):CVB n (.i k x)↔True:=⟨fun _=>trivial,fun _=>.i k x⟩
@[simp] theorem z8a (n:Nat)(x:Bool):CVB n (.b x)↔True:=⟨fun _=>trivial,fun _=>.b x⟩
theorem zkj {n:Nat}{t:Ty}(l:List t.den):CVB n (.s t l)↔l.length<=n/\∀x∈l,∀c∈t.cells x,CVB n c:=⟨fun h=>h.inv,fun h=>.s t l h.1 h.2⟩
@[simp] theorem zVh (n:Nat)(l:List Int):CVB n (.s .int l)↔l.length<=n:=by rw[zkj];simp[Ty.cells]
@[simp] theorem z6w (n:Nat)(l:List Int):CVB n (.s .u8 l)↔l.length<=n:=by rw[zkj];simp[Ty.cells]
@[simp] theorem z1l (n:Nat)(l:List Bool):CVB n (.s .bool l)↔l.length<=n:=by rw[zkj];simp[Ty.cells]
@[simp] theorem z1o (n:Nat)(l:List Slot):CVB n (.s .slot l)↔l.length<=n:=by rw[zkj];simp[Ty.cells]
@[simp] theorem z4R (n:Nat)(l:List Ins):CVB n (.s .ins l)↔l.length<=n:=by rw[zkj];simp[Ty.cells]
@[simp] theorem zYV (n:Nat)(l:List Entry):CVB n (.s .entry l)↔l.length<=n:=by rw[zkj];simp[Ty.cells]
@[simp] theorem z4Q (n:Nat)(l:List GAct):CVB n (.s .act l)↔l.length<=n:=by rw[zkj];simp[Ty.cells]
@[simp] theorem z1p (n:Nat)(l:List Told):CVB n (.s .told l)↔l.length<=n:=by rw[zkj];simp[Ty.cells]
def SmM (m:List (List Int)):Prop:=m.length<=1048576/\∀x∈m,x.length<=1048576
def SmG (g:Guest):Prop:=g.Prog.length<=1048576/\g.Written.length<=1048576/\g.Live.length<=1048576/\g.Seen.length<=1048576
def zlS (l:List Guest):Prop:=l.length<=1048576/\∀x∈l,SmG x
def SmB (b:Bare):Prop:=SmM b.Memory/\zlS b.Guests/\b.Outs.length<=1048576
def zWg (l:List Bare):Prop:=l.length<=1048576/\∀x∈l,SmB x
theorem z2q:sm=1048576:=rfl
@[simp] theorem zWF (l:List Int):CVB sm (.s .int l)↔l.length<=1048576:=zVh sm l
@[simp] theorem z7E (l:List Int):CVB sm (.s .u8 l)↔l.length<=1048576:=z6w sm l
@[simp] theorem zTP (l:List Bool):CVB sm (.s .bool l)↔l.length<=1048576:=z1l sm l
@[simp] theorem zTQ (l:List Slot):CVB sm (.s .slot l)↔l.length<=1048576:=z1o sm l
@[simp] theorem z7g (l:List Ins):CVB sm (.s .ins l)↔l.length<=1048576:=z4R sm l
@[simp] theorem zQT (l:List Entry):CVB sm (.s .entry l)↔l.length<=1048576:=zYV sm l
@[simp] theorem z7f (l:List GAct):CVB sm (.s .act l)↔l.length<=1048576:=z4Q sm l
@[simp] theorem z6W (l:List Told):CVB sm (.s .told l)↔l.length<=1048576:=z1p sm l
@[simp] theorem zof (l:List (List Int)):CVB sm (.s (.sl .int) l)↔SmM l:=by rw[zkj];simp[Ty.cells,SmM,z2q]
@[simp] theorem z4v (g:Guest):(∀c∈Ty.cells .guest g,CVB sm c)↔SmG g:=by simp[Ty.cells,SmG,z2q]
@[simp] theorem ztE (l:List Guest):CVB sm (.s .guest l)↔zlS l:=by rw[zkj];simp only[z4v];rfl
@[simp] theorem z4u (b:Bare):(∀c∈Ty.cells .bare b,CVB sm c)↔SmB b:=by
 simp only[Ty.cells,qG,qW,or_false,vB,forall_eq,zof,ztE,zVh,z3L,and_true];rfl
@[simp] theorem z7H (l:List Bare):CVB sm (.s .bare l)↔zWg l:=by rw[zkj];simp only[z4u];rfl
@[simp] theorem z7Z (a:List Ins)(b c:Int)(d e:List Slot)(f:Ctl)(g:Int)(h:GExit)(i:Bool)(j:List Int):SmG ⟨a,b,c,d,e,f,g,h,i,j⟩↔a.length<=1048576/\d.length<=1048576/\e.length<=1048576/\j.length<=1048576:=Iff.rfl
@[simp] theorem z7Y (m:List (List Int))(g:List Guest)(o:List Int)(p:Int):SmB ⟨m,g,o,p⟩↔SmM m/\zlS g/\o.length<=1048576:=Iff.rfl
theorem zKo {m:List (List Int)}{i:Int}{x:List Int}(h:SmM m)(hx:x.length<=1048576):SmM (up m i x):=by
 refine ⟨by simpa using h.1,fun y hy=>?_⟩
 rcases qZ hy with hy|rfl
 .exact h.2 y hy
 .exact hx
theorem zCV {m:List Guest}{i:Int}{x:Guest}(h:zlS m)(hx:SmG x):zlS (up m i x):=by
 refine ⟨by simpa using h.1,fun y hy=>?_⟩
 rcases qZ hy with hy|rfl
 .exact h.2 y hy
 .exact hx
theorem z5N {m:List Bare}{i:Int}{x:Bare}(h:zWg m)(hx:SmB x):zWg (up m i x):=by
 refine ⟨by simpa using h.1,fun y hy=>?_⟩
 rcases qZ hy with hy|rfl
 .exact h.2 y hy
 .exact hx
theorem z0g {l:List Guest}{i:Int}(h:zlS l)(hh:hasB i (ln l)=true)(d:Guest):SmG (ix l i d):=h.2 _ (zbv hh d)
theorem z6Q {l:List (List Int)}{i:Int}(h:SmM l)(hh:hasB i (ln l)=true)(d:List Int):(ix l i d).length<=1048576:=h.2 _ (zbv hh d)
@[simp] theorem z7v:SmG zx:=⟨by decide,by decide,by decide,by decide⟩
def win (x a b:Int):Bool:=ige x a&&ile x b
@[simp] theorem zQi (x a b:Int):zL x a b=win x a b:=rfl
@[simp] theorem z8b (x a b:Int):zb0 x a b=win x a b:=rfl
@[simp] theorem zRi (i n:Int):inb i n=hasB i n:=rfl
attribute [simp] zdH
@[simp] theorem zo0 {α:Type}{l:List α}(h:l.length<=1048576)(i:Int):win i 0 (wsub .i64 (ln l) 1)=hasB i (ln l):=zN2 (zcP h).1 i
theorem zHf {α:Type}{l:List α}(h:l.length<=big)(i:Int):win i 0 (wsub .i64 (ln l) 1)=hasB i (ln l):=zN2 h i
theorem zfm {x a b:Int}:(win x a b=true)↔a<=x/\x<=b:=by
 unfold win ige ile;simp only[qD,decide_eq_true_iff]
theorem z5h (a b:Int):ilt a b = !ige a b:=by
 unfold ilt ige
 by_cases h:a<b
 .rw [qI h,qJ (by omega)];rfl
 .rw [qJ h,qI (by omega)];rfl
attribute [simp] zbq zbV zf8 zf6 zgJ zgF zfY zdw ziv zim zoI zck zcy
attribute [simp] zed zcI zfv zdx
attribute [simp] zfs zc6 ze7 zdA
def zbb (a:Int):Int:=bif ilt a 0 then -1 else zNf .i64 a 4
def zcU (a:Int):Int:=bif ilt a 0 then -1 else zfM a 4
@[simp] abbrev zfK (a:Int):Bool:=true
@[simp] abbrev zcA (a:Int):Int:=zbb a
def zwE:Run:=rF1 dI fun b=>(zfK b,[aI (zcA b)])
def zz3 (N:Nat)(a0:Int):OA:=
 (cond (ilt a0 0) (some [(aI (-1))]) (oN (ine 4 0) (some [(aI (zNf .i64 a0 4))])))
theorem zL9 (a0:Int)(hc:zfK a0=true):∃N,zz3 N a0=some [aI (zcA a0)]:=by
 refine ⟨0,?_⟩;unfold zz3 oN;refine br (fun _=>?_) (fun _=>must rfl ?_)
 all_goals first|rfl|(simp only [*,zcA,zbb,cT,cF]<;>rfl)|simp_all[Ty.cells,zcA,zbb]
theorem zF5:vF 271 zwE:=kF1 zeX zq zn zu (zo []) zL9
@[simp] abbrev zhV (a:Int):Bool:=true
@[simp] abbrev zd1 (a:Int):Int:=zcU a
def zwD:Run:=rF1 dI fun b=>(zhV b,[aI (zd1 b)])
def zz2 (N:Nat)(a0:Int):OA:=
 (cond (ilt a0 0) (some [(aI (-1))]) (oN (ine 4 0) (some [(aI (zfM a0 4))])))
theorem zL8 (a0:Int)(hc:zhV a0=true):∃N,zz2 N a0=some [aI (zd1 a0)]:=by
 refine ⟨0,?_⟩;unfold zz2 oN;refine br (fun _=>?_) (fun _=>must rfl ?_)
 all_goals first|rfl|(simp only [*,zd1,zcU,cT,cF]<;>rfl)|simp_all[Ty.cells,zd1,zcU]
theorem zF4:vF 272 zwD:=kF1 zeX zq zn zu (zo []) zL8
def zbX (w:Bool):Int:=bif w then 2 else 1
@[simp] abbrev zrt (w:Bool):Bool:=true
@[simp] abbrev zeO (w:Bool):Int:=zbX w
def zBM:Run:=rF1 dB fun b=>(zrt b,[aI (zeO b)])
def zHI (N:Nat)(a0:Bool):OA:=
 (cond a0 (some [(aI 2)]) (some [(aI 1)]))
theorem zRQ (a0:Bool)(hc:zrt a0=true):∃N,zHI N a0=some [aI (zeO a0)]:=by
 refine ⟨0,?_⟩;unfold zHI;refine br (fun _=>?_) (fun _=>?_)
 all_goals first|rfl|(simp only [*,zeO,zbX,cT,cF]<;>rfl)|simp_all[Ty.cells,zeO,zbX]
theorem zLt:vF 299 zBM:=kF1 zeX zq zn zu (zo []) zRQ
def zpV (p:Int)(w:Bool):GExit:=⟨1,p,w,0⟩
def zxf (n:Int):GExit:=⟨2,0,false,n⟩
def zwk (n:Int):GExit:=⟨3,0,false,n⟩
@[simp] abbrev zlL (p:Int)(w:Bool):Bool:=true
@[simp] abbrev zgf (p:Int)(w:Bool):GExit:=zpV p w
def zui:Run:=rF2 dI dB fun b c=>(zlL b c,[.agg (zxo (zgf b c))])
def zyL (N:Nat)(a0:Int)(a1:Bool):OA:=
 (some [(.agg [(.i .i64 1),(.i .i64 a0),(.b a1),(.i .i64 0)])])
theorem zJA (a0:Int)(a1:Bool)(hc:zlL a0 a1=true):∃N,zyL N a0 a1=some [.agg (zxo (zgf a0 a1))]:=by
 refine ⟨0,?_⟩;unfold zyL
 first|rfl|(simp only [*,zgf,cT,cF]<;>rfl)|simp_all[Ty.cells,zgf]
theorem zDd:vF 301 zui:=kF2 zeX zq zn zu (zo []) zJA
@[simp] abbrev zsU (n:Int):Bool:=true
@[simp] abbrev zkD (n:Int):GExit:=zxf n
def zwG:Run:=rF1 dI fun b=>(zsU b,[.agg (zxo (zkD b))])
def zz6 (N:Nat)(a0:Int):OA:=
 (some [(.agg [(.i .i64 2),(.i .i64 0),(.b false),(.i .i64 a0)])])
theorem zMc (a0:Int)(hc:zsU a0=true):∃N,zz6 N a0=some [.agg (zxo (zkD a0))]:=by
 refine ⟨0,?_⟩;unfold zz6
 first|rfl|(simp only [*,zkD,cT,cF]<;>rfl)|simp_all[Ty.cells,zkD]
theorem zF7:vF 319 zwG:=kF1 zeX zq zn zu (zo []) zMc
@[simp] abbrev zvq (n:Int):Bool:=true
@[simp] abbrev zmw (n:Int):GExit:=zwk n
def zzc:Run:=rF1 dI fun b=>(zvq b,[.agg (zxo (zmw b))])
def zEa (N:Nat)(a0:Int):OA:=
 (some [(.agg [(.i .i64 3),(.i .i64 0),(.b false),(.i .i64 a0)])])
theorem zPn (a0:Int)(hc:zvq a0=true):∃N,zEa N a0=some [.agg (zxo (zmw a0))]:=by
 refine ⟨0,?_⟩;unfold zEa
 first|rfl|(simp only [*,zmw,cT,cF]<;>rfl)|simp_all[Ty.cells,zmw]
theorem zIR:vF 320 zzc:=kF1 zeX zq zn zu (zo []) zPn
def zgo (t x:Int):Bool:=bif win t 0 3 then (cond (win x 1 2) (ine (wand .i64 t x) 0) false) else false
@[simp] abbrev zhx (t x:Int):Bool:=true
@[simp] abbrev zhd (t x:Int):Bool:=zgo t x
def zy3:Run:=rF2 dI dI fun b c=>(zhx b c,[aB (zhd b c)])
def zD2 (N:Nat)(a0 a1:Int):OA:=
 (oN (zI a0 0 3) (cond (zL a0 0 3) (oN (zI a1 1 2) (cond (zL a1 1 2) (some [(aB (ine (wand .i64 a0 a1) 0))]) oF)) oF))
theorem zPe (a0 a1:Int)(hc:zhx a0 a1=true):∃N,zD2 N a0 a1=some [aB (zhd a0 a1)]:=by
 refine ⟨0,?_⟩;unfold zD2 oN;refine must rfl (br (fun _=>must rfl (br (fun _=>?_) (fun _=>?_))) (fun _=>?_))
 all_goals first|rfl|(simp only [*,zhd,zgo,cT,cF]<;>rfl)|simp_all[Ty.cells,zhd,zgo]
theorem zII:vF 318 zy3:=kF2 zeX zq zn zu (zo []) zPe
def zcN (p:Int):Bool:=win p 0 255
@[simp] abbrev zeR (p:Int):Bool:=true
@[simp] abbrev zeQ (p:Int):Bool:=zcN p
def zBR:Run:=rF1 dI fun b=>(zeR b,[aB (zeQ b)])
def zHM (N:Nat)(a0:Int):OA:=
 (oN (zI a0 0 255) (some [(aB (zL a0 0 255))]))
theorem zRV (a0:Int)(hc:zeR a0=true):∃N,zHM N a0=some [aB (zeQ a0)]:=by
 refine ⟨0,?_⟩;unfold zHM oN;refine must rfl ?_
 first|rfl|(simp only [*,zeQ,zcN,cT,cF]<;>rfl)|simp_all[Ty.cells,zeQ,zcN]
theorem zLy:vF 215 zBR:=kF1 zeX zq zn zu (zo []) zRV
@[simp] abbrev zre (p:Int):Bool:=true
@[simp] abbrev zom (p:Int):Bool:=zcN p
def zBu:Run:=rF1 dI fun b=>(zre b,[aB (zom b)])
def zHp (N:Nat)(a0:Int):OA:=
 (oN (zbO a0 0 255) (some [(aB (zb0 a0 0 255))]))
theorem zRw (a0:Int)(hc:zre a0=true):∃N,zHp N a0=some [aB (zom a0)]:=by
 refine ⟨0,?_⟩;unfold zHp oN;refine must rfl ?_
 first|rfl|(simp only [*,zom,zcN,cT,cF]<;>rfl)|simp_all[Ty.cells,zom,zcN]
theorem zLb:vF 167 zBu:=kF1 zeX zq zn zu (zo []) zRw
def zce (l:List Ins)(p:Int):Ins:=bif hasB p (ln l) then ix l p zuY else ⟨7,0⟩
@[simp] abbrev ze5 (l:List Ins)(p:Int):Bool:=true
@[simp] abbrev zfk (l:List Ins)(p:Int):Ins:=zce l p
def zEY:Run:=rF2 (dS .ins) dI fun b c=>(ze5 b c,[aT .ins (zfk b c)])
def zNr (N:Nat)(a0:lI)(a1:Int):OA:=
 (oN (zI a1 0 (wsub .i64 (ln a0) 1)) (cond (nB (zL a1 0 (wsub .i64 (ln a0) 1))) (some [(.agg [(.i .i64 7),(.i .i64 0)])]) (oN (inb a1 (ln a0)) (some [(.agg [(.i .i64 (ix a0 a1 zuY).Op),(.i .i64 (ix a0 a1 zuY).X)])]))))
theorem zUf (a0:List Ins)(a1:Int)(hb:zbE big [aS .ins a0,aI a1])(hc:ze5 a0 a1=true):∃N,zNr N a0 a1=some [aT .ins (zfk a0 a1)]:=by
 have hl:=((zcm hb).1 _ (qF.2 rfl)).len;have hw:=zHf hl
 refine ⟨0,?_⟩;unfold zNr oN nB;refine must rfl (brN (fun _=>?_) (fun _=>mu ?_))
 all_goals first|rfl|(simp only [*,zfk,zce,cT,cF]<;>rfl)|simp_all[Ty.cells,zfk,zce]
theorem zOP:vF 294 zEY:=hF2 zeX zq zn zu (zo []) zUf
def zw7 (w:Int):Int:=bif ieq w 5 then 1 else 2
def zdd (s:Slot)(n:Int):Bool:=bif zcg s noSlot then true else (cond (igt n 0) (cond (win s.Page 0 (wsub .i64 n 1)) (win s.Rights 1 3) false) false)
@[simp] abbrev zrx (s:Slot)(n:Int):Bool:=true
@[simp] abbrev zoO (s:Slot)(n:Int):Bool:=zdd s n
def zBU:Run:=rF2 (dT .slot) dI fun b c=>(zrx b c,[aB (zoO b c)])
def zHP (N:Nat)(a0:Slot)(a1:Int):OA:=
 (oN zck (cond (cond (ieq a0.Page zbq.Page) (ieq a0.Rights zbq.Rights) false) oT (oN (zI a0.Page 0 (wsub .i64 a1 1)) (cond (zL a0.Page 0 (wsub .i64 a1 1)) (cond (igt a1 0) (oN (zI a0.Rights 1 3) (some [(aB (zL a0.Rights 1 3))])) oF) oF))))
theorem zRY (a0:Slot)(a1:Int)(hc:zrx a0 a1=true):∃N,zHP N a0 a1=some [aB (zoO a0 a1)]:=by
 refine ⟨0,?_⟩;unfold zHP oN;refine must rfl (br (fun _=>?_) (fun _=>must rfl (br (fun _=>br (fun _=>must rfl ?_) (fun _=>?_)) (fun _=>?_))))
 all_goals first|rfl|(simp only [*,zoO,zdd,zcg,cT,cF]<;>rfl)|simp_all[Ty.cells,zoO,zdd,zcg]
theorem zLB:vF 276 zBU:=kF2 zeX zq zn zu (zo []) zRY
@[simp] abbrev zxK (s:Slot)(n:Int):Bool:=true
@[simp] abbrev zsq (s:Slot)(n:Int):Bool:=zdd s n
def zBx:Run:=rF2 (dT .slot) dI fun b c=>(zxK b c,[aB (zsq b c)])
def zHs (N:Nat)(a0:Slot)(a1:Int):OA:=
 (oN zcy (cond (cond (ieq a0.Page zbV.Page) (ieq a0.Rights zbV.Rights) false) oT (cond (igt a1 0) (oN (zbO a0.Page 0 (wsub .i64 a1 1)) (cond (zb0 a0.Page 0 (wsub .i64 a1 1)) (oN (zbO a0.Rights 1 3) (some [(aB (zb0 a0.Rights 1 3))])) oF)) oF)))
theorem zRz (a0:Slot)(a1:Int)(hc:zxK a0 a1=true):∃N,zHs N a0 a1=some [aB (zsq a0 a1)]:=by
 refine ⟨0,?_⟩;unfold zHs oN;refine must rfl (br (fun _=>?_) (fun _=>br (fun _=>must rfl (br (fun _=>must rfl ?_) (fun _=>?_))) (fun _=>?_)))
 all_goals first|rfl|(simp only [*,zsq,zdd,zcg,cT,cF]<;>rfl)|simp_all[Ty.cells,zsq,zdd,zcg]
theorem zLe:vF 223 zBx:=kF2 zeX zq zn zu (zo []) zRz
@[simp] abbrev zfW (l:List Slot):Bool:=pc (l.length<=2147483648)
@[simp] abbrev zeB (l:List Slot):List Slot:=l
def zt7:Run:=rF1 (dS .slot) fun b=>(zfW b,[aS .slot (zeB b)])
def zyD (N:Nat)(a0:lS):OA:=
 (oN (few (ln (ap [] a0))) (some [(aS .slot (ap [] a0))]))
theorem zJr (a0:List Slot)(hc:zfW a0=true):∃N,zyD N a0=some [aS .slot (zeB a0)]:=by
 have hs:=zD.1 hc;refine ⟨0,?_⟩;unfold zyD oN;refine mu ?_
 first|rfl|(simp only [*,zeB,cT,cF]<;>rfl)|simp_all[Ty.cells,zeB]
theorem zC5:vF 171 zt7:=kF1 zeX zq zn zu (zo []) zJr
@[simp] abbrev zst (l:List Ins):Bool:=pc (l.length<=2147483648)
@[simp] abbrev zm6 (l:List Ins):List Ins:=l
def zwx:Run:=rF1 (dS .ins) fun b=>(zst b,[aS .ins (zm6 b)])
def zzV (N:Nat)(a0:lI):OA:=
 (oN (few (ln (ap [] a0))) (some [(aS .ins (ap [] a0))]))
theorem zL2 (a0:List Ins)(hc:zst a0=true):∃N,zzV N a0=some [aS .ins (zm6 a0)]:=by
 have hs:=zD.1 hc;refine ⟨0,?_⟩;unfold zzV oN;refine mu ?_
 first|rfl|(simp only [*,zm6,cT,cF]<;>rfl)|simp_all[Ty.cells,zm6]
theorem zFY:vF 174 zwx:=kF1 zeX zq zn zu (zo []) zL2
def zg9 (m:List (List Int))(p c:Int):Bool:=bif hasB p (ln m) then hasB c (ln (ix m p [])) else false
def cellAt (m:List (List Int))(p c:Int):Int:=bif zg9 m p c then ix (ix m p []) c 0 else 0
def zbz (m:List (List Int))(p c v:Int):List (List Int):=bif zg9 m p c then (cond (win v 0 99) (up m p (up (ix m p []) c v)) m) else m
theorem zxX (m:List (List Int))(p c:Int):(zg9 m p c=true)↔hasB p (ln m)=true/\hasB c (ln (ix m p []))=true:=by
 unfold zg9;cases hasB p (ln m)<;>simp
theorem z6v {n:Nat}{m:List (List Int)}(h:CVB n (.s (.sl .int) m)):m.length<=n/\∀p:Int,hasB p (ln m)=true->(ix m p []).length<=n :=
 ⟨h.len,fun p hp=>(h.inv.2 _ (zbv hp []) _ (qF.2 rfl)).len⟩
@[simp] abbrev zrz (m:List (List Int))(p c:Int):Bool:=true
@[simp] abbrev zoR (m:List (List Int))(p c:Int):Bool:=zg9 m p c
def zBZ:Run:=rF3 (dS (.sl .int)) dI dI fun b c d=>(zrz b c d,[aB (zoR b c d)])
def zHU (N:Nat)(a0:lM)(a1 a2:Int):OA:=
 let y0:=(wsub .i64 (ln (ix a0 a1 [])) 1); (oN (zI a1 0 (wsub .i64 (ln a0) 1)) (cond (zL a1 0 (wsub .i64 (ln a0) 1)) (oN (inb a1 (ln a0)) (oN (zI a2 0 y0) (some [(aB (zL a2 0 y0))]))) oF))
theorem zR3 (a0:List (List Int))(a1 a2:Int)(hb:zbE big [aS (.sl .int) a0,aI a1,aI a2])(hc:zrz a0 a1 a2=true):∃N,zHU N a0 a1 a2=some [aB (zoR a0 a1 a2)]:=by
 have hl:=z6v ((zcm hb).1 _ (qF.2 rfl));have hw:=zHf hl.1;have hw2:∀p i:Int,hasB p (ln a0)=true->win i 0 (wsub .i64 (ln (ix a0 p [])) 1)=hasB i (ln (ix a0 p [])):=fun p i h=>zHf (hl.2 p h) i
 refine ⟨0,?_⟩;unfold zHU oN
 conv=>zeta
 refine must rfl (br (fun _=>mu (must rfl ?_)) (fun _=>?_))
 all_goals first|rfl|(simp only [*,zoR,zg9,cT,cF]<;>rfl)|simp_all[Ty.cells,zoR,zg9]
theorem zLF:vF 311 zBZ:=hF3 zeX zq zn zu (zo []) zR3
def z3u:zO:=[(292,zBD),(271,zwE),(272,zwD),(299,zBM),(301,zui),(319,zwG),(320,zzc),(318,zy3),(215,zBR),(167,zBu),(294,zEY),(276,zBU),(223,zBx),(171,zt7),(174,zwx),(311,zBZ)]++z6q
theorem zfT:zF z3u:=zh zLk (zh zF5 (zh zF4 (zh zLt (zh zDd (zh zF7 (zh zIR (zh zII (zh zLy (zh zLb (zh zOP (zh zLB (zh zLe (zh zC5 (zh zFY (zh zLF zeX)))))))))))))))
@[simp] abbrev zrp (m:List (List Int))(p c:Int):Bool:=true
@[simp] abbrev zmb (m:List (List Int))(p c:Int):Int:=cellAt m p c
def zBE:Run:=rF3 (dS (.sl .int)) dI dI fun b c d=>(zrp b c d,[aI (zmb b c d)])
def zHz (N:Nat)(a0:lM)(a1 a2:Int):OA:=
 (oN (zrz a0 a1 a2) (cond (nB (zoR a0 a1 a2)) (some [(aI 0)]) (oN (inb a1 (ln a0)) (oN (inb a2 (ln (ix a0 a1 []))) (some [(aI (ix (ix a0 a1 []) a2 0))])))))
theorem zRG (a0:List (List Int))(a1 a2:Int)(hc:zrp a0 a1 a2=true):∃N,zHz N a0 a1 a2=some [aI (zmb a0 a1 a2)]:=by
 have hm:=(zxX a0 a1 a2).1;refine ⟨0,?_⟩;unfold zHz oN nB;refine must rfl (brN (fun _=>?_) (fun _=>mu (mu ?_)))
 all_goals first|rfl|(simp only [*,zmb,cellAt,cT,cF]<;>rfl)|simp_all[Ty.cells,zmb,cellAt]
theorem zLl:vF 273 zBE:=kF3 zfT zq zn zu (zo []) zRG
def zcn (t:List Slot)(n p:Int):Bool:=bif t.all (fun s=>zdd s p) then ieq (ln t) n else false
@[simp] abbrev zlu (t:List Slot)(n p:Int):Bool:=true
@[simp] abbrev zhf (t:List Slot)(n p:Int):Bool:=zcn t n p
def zzi:Run:=rF3 (dS .slot) dI dI fun b c d=>(zlu b c d,[aB (zhf b c d)])
def zEg (N:Nat)(a0:lS)(a1 a2:Int):OA:=
 (iter (σ:=(Int×(Int×(Int×(lS×Unit))))) N (fun r4 s5=>let y0:=s5.2.2.2.1;let y1:=(ix y0 s5.2.2.1 zK); (cond (ilt s5.2.2.1 (ln y0)) (oN (inb s5.2.2.1 (ln y0)) (oN (zrx y1 s5.2.1) (cond (nB (zoO y1 s5.2.1)) oF (r4 (s5.1,(s5.2.1,((zG .i64 s5.2.2.1 1),(y0,())))))))) (some [(aB (ieq (ln y0) s5.1))]))) (a1,(a2,(0,(a0,())))))
def zPW:FuncId->Nat->Option Tmpl:=zo [(213,0,{ n:=25,tm:=[(0,.sl 0 []),(1,ti),(2,ti),(7,ti)],lo:=[],ro:=[(0,.slot,false)] })]
theorem zPt (a0:List Slot)(a1 a2:Int)(hb:zbE big [aS .slot a0,aI a1,aI a2])(hc:zlu a0 a1 a2=true):∃N,zEg N a0 a1 a2=some [aB (zhf a0 a1 a2)]:=by
 have hl:(_:List _).length<=big:=((zcm hb).1 _ (qF.2 rfl)).len;refine zcd fun N hNN=>?_;unfold zEg oN nB
 conv=>zeta
 refine (zZ a0 (fun i (t:Unit)=>(a1,a2,(i:Int),a0,())) _ (fun _ x (_:Unit) κ=>bif (fun s=>zdd s a2) x then κ () else oF) (fun (t:Unit)=>(some [(.one (.b (ieq (ln a0) a1)))])) (fun i hi t rec=>?_) (fun t rec=>?_) _ () (hNN hl)).trans ?_
 .simp only [zbo hi,zS hi,zbc hi,zV hi hl,cT];exact zib rfl
 .simp only [zbg,cF]
 rw[zfd (fun s=>zdd s a2)];refine br (fun h0=>?_) (fun h0=>?_)
 .first|rfl|(simp only [h0,zhf,zcn,cT,cF]<;>rfl)|(simp_all [Ty.cells,zhf,zcn];done)
 .first|rfl|(simp only [h0,zhf,zcn,cT,cF]<;>rfl)|(simp_all [Ty.cells,zhf,zcn];done)
theorem zIX:vF 213 zzi:=hF3 zfT zq zn zu zPW zPt
@[simp] abbrev zle (t:List Slot)(n p:Int):Bool:=true
@[simp] abbrev zg7 (t:List Slot)(n p:Int):Bool:=zcn t n p
def zyX:Run:=rF3 (dS .slot) dI dI fun b c d=>(zle b c d,[aB (zg7 b c d)])
def zDS (N:Nat)(a0:lS)(a1 a2:Int):OA:=
 (iter (σ:=(Int×(Int×(Int×(Int×(lS×Unit)))))) N (fun r4 s5=>let y1:=s5.2.2.2.2.1;let y0:=(ix y1 s5.2.2.2.1 zK); (cond (ilt s5.2.2.2.1 s5.2.2.1) (oN (inb s5.2.2.2.1 (ln y1)) (oN (zxK y0 s5.2.1) (cond (nB (zsq y0 s5.2.1)) oF (r4 (s5.1,(s5.2.1,(s5.2.2.1,((zG .i64 s5.2.2.2.1 1),(y1,()))))))))) (some [(aB (ieq (ln y1) s5.1))]))) (a1,(a2,((ln a0),(0,(a0,()))))))
def zPS:FuncId->Nat->Option Tmpl:=zo [(166,0,{ n:=24,tm:=[(0,.sl 0 []),(1,ti),(2,ti),(9,.sl 0 []),(10,ti),(11,ti)],lo:=[],ro:=[(0,.slot,false)] })]
theorem zO4 (a0:List Slot)(a1 a2:Int)(hb:zbE big [aS .slot a0,aI a1,aI a2])(hc:zle a0 a1 a2=true):∃N,zDS N a0 a1 a2=some [aB (zg7 a0 a1 a2)]:=by
 have hl:(_:List _).length<=big:=((zcm hb).1 _ (qF.2 rfl)).len;refine zcd fun N hNN=>?_;unfold zDS oN nB
 conv=>zeta
 refine (zZ a0 (fun i (t:Unit)=>(a1,a2,(ln a0),(i:Int),a0,())) _ (fun _ x (_:Unit) κ=>bif (fun s=>zdd s a2) x then κ () else oF) (fun (t:Unit)=>(some [(.one (.b (ieq (ln a0) a1)))])) (fun i hi t rec=>?_) (fun t rec=>?_) _ () (hNN hl)).trans ?_
 .simp only [zbo hi,zS hi,zbc hi,zV hi hl,cT];exact zib rfl
 .simp only [zbg,cF]
 rw[zfd (fun s=>zdd s a2)];refine br (fun h0=>?_) (fun h0=>?_)
 .first|rfl|(simp only [h0,zg7,zcn,cT,cF]<;>rfl)|(simp_all [Ty.cells,zg7,zcn];done)
 .first|rfl|(simp only [h0,zg7,zcn,cT,cF]<;>rfl)|(simp_all [Ty.cells,zg7,zcn];done)
theorem zIC:vF 166 zyX:=hF3 zfT zq zn zu zPS zO4
def zb5 (c:List Int):Bool:=bif c.all (fun x=>win x 0 99) then ieq (ln c) 4 else false
@[simp] abbrev zfr (c:List Int):Bool:=true
@[simp] abbrev zeP (c:List Int):Bool:=zb5 c
def zBQ:Run:=rF1 (dS .int) fun b=>(zfr b,[aB (zeP b)])
def zHL (N:Nat)(a0:List Int):OA:=
 (iter (σ:=(Int×((List Int)×Unit))) N (fun r2 s3=>(cond (ilt s3.1 (ln s3.2.1)) (oN (inb s3.1 (ln s3.2.1)) (oN (zI (ix s3.2.1 s3.1 0) 0 99) (cond (nB (zL (ix s3.2.1 s3.1 0) 0 99)) oF (r2 ((zG .i64 s3.1 1),(s3.2.1,())))))) (some [(aB (ieq (ln s3.2.1) 4))]))) (0,(a0,())))
def zTr:FuncId->Nat->Option Tmpl:=zo [(212,0,{ n:=19,tm:=[(0,.sl 0 []),(3,ti)],lo:=[],ro:=[(0,.int,false)] })]
theorem zRU (a0:List Int)(hb:zbE big [aS .int a0])(hc:zfr a0=true):∃N,zHL N a0=some [aB (zeP a0)]:=by
 have hl:(_:List _).length<=big:=((zcm hb).1 _ (qF.2 rfl)).len;refine zcd fun N hNN=>?_;unfold zHL oN nB;refine (zZ a0 (fun i (t:Unit)=>((i:Int),a0,())) _ (fun _ x (_:Unit) κ=>bif (fun x=>win x 0 99) x then κ () else oF) (fun (t:Unit)=>(some [(.one (.b (ieq (ln a0) 4)))])) (fun i hi t rec=>?_) (fun t rec=>?_) _ () (hNN hl)).trans ?_
 .simp only [zbo hi,zS hi,zbc hi,zV hi hl,cT];exact zib rfl
 .simp only [zbg,cF]
 rw[zfd (fun x=>win x 0 99)];refine br (fun h0=>?_) (fun h0=>?_)
 .first|rfl|(simp only [h0,zeP,zb5,cT,cF]<;>rfl)|(simp_all [Ty.cells,zeP,zb5];done)
 .first|rfl|(simp only [h0,zeP,zb5,cT,cF]<;>rfl)|(simp_all [Ty.cells,zeP,zb5];done)
theorem zLx:vF 212 zBQ:=hF1 zfT zq zn zu zTr zRU
@[simp] abbrev zg6 (c:List Int):Bool:=true
@[simp] abbrev zfV (c:List Int):Bool:=zb5 c
def zBt:Run:=rF1 (dS .int) fun b=>(zg6 b,[aB (zfV b)])
def zHo (N:Nat)(a0:List Int):OA:=
 (iter (σ:=(Int×(Int×((List Int)×Unit)))) N (fun r2 s3=>(cond (ilt s3.2.1 s3.1) (oN (inb s3.2.1 (ln s3.2.2.1)) (oN (zbO (ix s3.2.2.1 s3.2.1 0) 0 99) (cond (nB (zb0 (ix s3.2.2.1 s3.2.1 0) 0 99)) oF (r2 (s3.1,((zG .i64 s3.2.1 1),(s3.2.2.1,()))))))) (some [(aB (ieq (ln s3.2.2.1) 4))]))) ((ln a0),(0,(a0,()))))
def zTi:FuncId->Nat->Option Tmpl:=zo [(165,0,{ n:=18,tm:=[(0,.sl 0 []),(5,.sl 0 []),(6,ti),(7,ti)],lo:=[],ro:=[(0,.int,false)] })]
theorem zRv (a0:List Int)(hb:zbE big [aS .int a0])(hc:zg6 a0=true):∃N,zHo N a0=some [aB (zfV a0)]:=by
 have hl:(_:List _).length<=big:=((zcm hb).1 _ (qF.2 rfl)).len;refine zcd fun N hNN=>?_;unfold zHo oN nB;refine (zZ a0 (fun i (t:Unit)=>((ln a0),(i:Int),a0,())) _ (fun _ x (_:Unit) κ=>bif (fun x=>win x 0 99) x then κ () else oF) (fun (t:Unit)=>(some [(.one (.b (ieq (ln a0) 4)))])) (fun i hi t rec=>?_) (fun t rec=>?_) _ () (hNN hl)).trans ?_
 .simp only [zbo hi,zS hi,zbc hi,zV hi hl,cT];exact zib rfl
 .simp only [zbg,cF]
 rw[zfd (fun x=>win x 0 99)];refine br (fun h0=>?_) (fun h0=>?_)
 .first|rfl|(simp only [h0,zfV,zb5,cT,cF]<;>rfl)|(simp_all [Ty.cells,zfV,zb5];done)
 .first|rfl|(simp only [h0,zfV,zb5,cT,cF]<;>rfl)|(simp_all [Ty.cells,zfV,zb5];done)
theorem zLa:vF 165 zBt:=hF1 zfT zq zn zu zTi zRv
def zdC (i:Ins):Bool:=bif (ieq i.Op 1||ieq i.Op 2||ieq i.Op 5||ieq i.Op 6) then win i.X 0 99 else (cond (ieq i.Op 3||ieq i.Op 4) (win i.X 0 15) (cond (ieq i.Op 7) (ieq i.X 0) (cond (ieq i.Op 8) (win i.X 0 11) false)))
@[simp] abbrev zCb (i:Ins):Bool:=true
@[simp] abbrev zw0 (i:Ins):Bool:=zdC i
def zEZ:Run:=rF1 (dT .ins) fun b=>(zCb b,[aB (zw0 b)])
def zNs (N:Nat)(a0:Ins):OA:=
 let y10:=(ieq a0.Op 4);let y9:=(zI a0.X 0 99);let y8:=(aB (zL a0.X 0 99));let y7:=(ieq a0.Op 8);let y6:=(ieq a0.Op 7);let y5:=(ieq a0.Op 3);let y4:=(zI a0.X 0 11);let y3:=(zI a0.X 0 15);let y2:=(aB (ieq a0.X 0));let y1:=(aB (zL a0.X 0 11));let y0:=(aB (zL a0.X 0 15)); (cond (ieq a0.Op 1) (cond (ieq a0.Op 1) (oN y9 (some [y8])) (cond y5 (cond y5 (oN y3 (some [y0])) (cond y6 (some [y2]) (cond y7 (oN y4 (some [y1])) oF))) (cond y10 (oN y3 (some [y0])) (cond y6 (some [y2]) (cond y7 (oN y4 (some [y1])) oF))))) (cond (ieq a0.Op 2) (cond (ieq a0.Op 2) (oN y9 (some [y8])) (cond y5 (cond y5 (oN y3 (some [y0])) (cond y6 (some [y2]) (cond y7 (oN y4 (some [y1])) oF))) (cond y10 (oN y3 (some [y0])) (cond y6 (some [y2]) (cond y7 (oN y4 (some [y1])) oF))))) (cond (ieq a0.Op 5) (cond (ieq a0.Op 5) (oN y9 (some [y8])) (cond y5 (cond y5 (oN y3 (some [y0])) (cond y6 (some [y2]) (cond y7 (oN y4 (some [y1])) oF))) (cond y10 (oN y3 (some [y0])) (cond y6 (some [y2]) (cond y7 (oN y4 (some [y1])) oF))))) (cond (ieq a0.Op 6) (oN y9 (some [y8])) (cond y5 (cond y5 (oN y3 (some [y0])) (cond y6 (some [y2]) (cond y7 (oN y4 (some [y1])) oF))) (cond y10 (oN y3 (some [y0])) (cond y6 (some [y2]) (cond y7 (oN y4 (some [y1])) oF))))))))
theorem zUg (a0:Ins)(hc:zCb a0=true):∃N,zNs N a0=some [aB (zw0 a0)]:=by
 refine ⟨0,?_⟩;unfold zNs oN
 conv=>zeta
 refine br (fun _=>br (fun _=>must rfl ?_) (fun _=>br (fun _=>br (fun _=>must rfl ?_) (fun _=>br (fun _=>?_) (fun _=>br (fun _=>must rfl ?_) (fun _=>?_)))) (fun _=>br (fun _=>must rfl ?_) (fun _=>br (fun _=>?_) (fun _=>br (fun _=>must rfl ?_) (fun _=>?_)))))) (fun _=>br (fun _=>br (fun _=>must rfl ?_) (fun _=>br (fun _=>br (fun _=>must rfl ?_) (fun _=>br (fun _=>?_) (fun _=>br (fun _=>must rfl ?_) (fun _=>?_)))) (fun _=>br (fun _=>must rfl ?_) (fun _=>br (fun _=>?_) (fun _=>br (fun _=>must rfl ?_) (fun _=>?_)))))) (fun _=>br (fun _=>br (fun _=>must rfl ?_) (fun _=>br (fun _=>br (fun _=>must rfl ?_) (fun _=>br (fun _=>?_) (fun _=>br (fun _=>must rfl ?_) (fun _=>?_)))) (fun _=>br (fun _=>must rfl ?_) (fun _=>br (fun _=>?_) (fun _=>br (fun _=>must rfl ?_) (fun _=>?_)))))) (fun _=>br (fun _=>must rfl ?_) (fun _=>br (fun _=>br (fun _=>must rfl ?_) (fun _=>br (fun _=>?_) (fun _=>br (fun _=>must rfl ?_) (fun _=>?_)))) (fun _=>br (fun _=>must rfl ?_) (fun _=>br (fun _=>?_) (fun _=>br (fun _=>must rfl ?_) (fun _=>?_))))))))
 all_goals first|rfl|(simp only [*,zw0,zdC,cT,cF]<;>rfl)|simp_all[Ty.cells,zw0,zdC]
theorem zOQ:vF 314 zEZ:=kF1 zfT zq zn zu (zo []) zUg
@[simp] abbrev zAY (i:Ins):Bool:=true
@[simp] abbrev zv9 (i:Ins):Bool:=zdC i
def zEP:Run:=rF1 (dT .ins) fun b=>(zAY b,[aB (zv9 b)])
def zNi (N:Nat)(a0:Ins):OA:=
 let y10:=(ieq a0.Op 4);let y9:=(zbO a0.X 0 99);let y8:=(aB (zb0 a0.X 0 99));let y7:=(ieq a0.Op 8);let y6:=(ieq a0.Op 7);let y5:=(ieq a0.Op 3);let y4:=(zbO a0.X 0 11);let y3:=(zbO a0.X 0 15);let y2:=(aB (ieq a0.X 0));let y1:=(aB (zb0 a0.X 0 11));let y0:=(aB (zb0 a0.X 0 15)); (cond (ieq a0.Op 1) (cond (ieq a0.Op 1) (oN y9 (some [y8])) (cond y5 (cond y5 (oN y3 (some [y0])) (cond y6 (some [y2]) (cond y7 (oN y4 (some [y1])) oF))) (cond y10 (oN y3 (some [y0])) (cond y6 (some [y2]) (cond y7 (oN y4 (some [y1])) oF))))) (cond (ieq a0.Op 2) (cond (ieq a0.Op 2) (oN y9 (some [y8])) (cond y5 (cond y5 (oN y3 (some [y0])) (cond y6 (some [y2]) (cond y7 (oN y4 (some [y1])) oF))) (cond y10 (oN y3 (some [y0])) (cond y6 (some [y2]) (cond y7 (oN y4 (some [y1])) oF))))) (cond (ieq a0.Op 5) (cond (ieq a0.Op 5) (oN y9 (some [y8])) (cond y5 (cond y5 (oN y3 (some [y0])) (cond y6 (some [y2]) (cond y7 (oN y4 (some [y1])) oF))) (cond y10 (oN y3 (some [y0])) (cond y6 (some [y2]) (cond y7 (oN y4 (some [y1])) oF))))) (cond (ieq a0.Op 6) (oN y9 (some [y8])) (cond y5 (cond y5 (oN y3 (some [y0])) (cond y6 (some [y2]) (cond y7 (oN y4 (some [y1])) oF))) (cond y10 (oN y3 (some [y0])) (cond y6 (some [y2]) (cond y7 (oN y4 (some [y1])) oF))))))))
theorem zT5 (a0:Ins)(hc:zAY a0=true):∃N,zNi N a0=some [aB (zv9 a0)]:=by
 refine ⟨0,?_⟩;unfold zNi oN
 conv=>zeta
 refine br (fun _=>br (fun _=>must rfl ?_) (fun _=>br (fun _=>br (fun _=>must rfl ?_) (fun _=>br (fun _=>?_) (fun _=>br (fun _=>must rfl ?_) (fun _=>?_)))) (fun _=>br (fun _=>must rfl ?_) (fun _=>br (fun _=>?_) (fun _=>br (fun _=>must rfl ?_) (fun _=>?_)))))) (fun _=>br (fun _=>br (fun _=>must rfl ?_) (fun _=>br (fun _=>br (fun _=>must rfl ?_) (fun _=>br (fun _=>?_) (fun _=>br (fun _=>must rfl ?_) (fun _=>?_)))) (fun _=>br (fun _=>must rfl ?_) (fun _=>br (fun _=>?_) (fun _=>br (fun _=>must rfl ?_) (fun _=>?_)))))) (fun _=>br (fun _=>br (fun _=>must rfl ?_) (fun _=>br (fun _=>br (fun _=>must rfl ?_) (fun _=>br (fun _=>?_) (fun _=>br (fun _=>must rfl ?_) (fun _=>?_)))) (fun _=>br (fun _=>must rfl ?_) (fun _=>br (fun _=>?_) (fun _=>br (fun _=>must rfl ?_) (fun _=>?_)))))) (fun _=>br (fun _=>must rfl ?_) (fun _=>br (fun _=>br (fun _=>must rfl ?_) (fun _=>br (fun _=>?_) (fun _=>br (fun _=>must rfl ?_) (fun _=>?_)))) (fun _=>br (fun _=>must rfl ?_) (fun _=>br (fun _=>?_) (fun _=>br (fun _=>must rfl ?_) (fun _=>?_))))))))
 all_goals first|rfl|(simp only [*,zv9,zdC,cT,cF]<;>rfl)|simp_all[Ty.cells,zv9,zdC]
theorem zOF:vF 281 zEP:=kF1 zfT zq zn zu (zo []) zT5
def zgC (e:GExit):Bool:=bif (ieq e.Kind 0||ieq e.Kind 4) then (ieq e.Page 0&&(!e.Write&&ieq e.N 0)) else (cond (ieq e.Kind 1) (win e.Page 0 3&&ieq e.N 0) (cond (ieq e.Kind 2||ieq e.Kind 3) (win e.N 0 99&&(ieq e.Page 0 && !e.Write)) false))
@[simp] theorem z7X (x:Bool):zje x false = !x:=by cases x<;>rfl
attribute [simp] zd7
@[simp] abbrev zx8 (e:GExit):Bool:=true
@[simp] abbrev zsV (e:GExit):Bool:=zgC e
def zBF:Run:=rF1 dE fun b=>(zx8 b,[aB (zsV b)])
def zHB (N:Nat)(a0:GExit):OA:=
 let y5:=(zL a0.N 0 99);let y4:=(zI a0.N 0 99);let y3:=(ieq a0.Kind 2);let y2:=(ieq a0.Page 0);let y1:=(aB (nB a0.Write));let y0:=(aB (cond (ieq a0.Kind a0.Kind) (cond y2 (cond (zje a0.Write false) (ieq a0.N 0) false) false) false)); (cond (ieq a0.Kind 0) (cond (ieq a0.Kind 0) (some [y0]) (cond (ieq a0.Kind 1) (oN (zI a0.Page 0 3) (cond (zL a0.Page 0 3) (some [(aB (ieq a0.N 0))]) oF)) (cond y3 (cond y3 (oN y4 (cond y5 (cond y2 (some [y1]) oF) oF)) oF) (cond (ieq a0.Kind 3) (oN y4 (cond y5 (cond y2 (some [y1]) oF) oF)) oF)))) (cond (ieq a0.Kind 4) (some [y0]) (cond (ieq a0.Kind 1) (oN (zI a0.Page 0 3) (cond (zL a0.Page 0 3) (some [(aB (ieq a0.N 0))]) oF)) (cond y3 (cond y3 (oN y4 (cond y5 (cond y2 (some [y1]) oF) oF)) oF) (cond (ieq a0.Kind 3) (oN y4 (cond y5 (cond y2 (some [y1]) oF) oF)) oF)))))
theorem zRI (a0:GExit)(hc:zx8 a0=true):∃N,zHB N a0=some [aB (zsV a0)]:=by
 refine ⟨0,?_⟩;unfold zHB oN nB
 conv=>zeta
 refine br (fun _=>br (fun _=>?_) (fun _=>br (fun _=>must rfl (br (fun _=>?_) (fun _=>?_))) (fun _=>br (fun _=>br (fun _=>must rfl (br (fun _=>br (fun _=>?_) (fun _=>?_)) (fun _=>?_))) (fun _=>?_)) (fun _=>br (fun _=>must rfl (br (fun _=>br (fun _=>?_) (fun _=>?_)) (fun _=>?_))) (fun _=>?_))))) (fun _=>br (fun _=>?_) (fun _=>br (fun _=>must rfl (br (fun _=>?_) (fun _=>?_))) (fun _=>br (fun _=>br (fun _=>must rfl (br (fun _=>br (fun _=>?_) (fun _=>?_)) (fun _=>?_))) (fun _=>?_)) (fun _=>br (fun _=>must rfl (br (fun _=>br (fun _=>?_) (fun _=>?_)) (fun _=>?_))) (fun _=>?_)))))
 all_goals first|rfl|(simp only [*,zsV,zgC,cT,cF]<;>rfl)|simp_all[Ty.cells,zsV,zgC]
theorem zLm:vF 279 zBF:=kF1 zfT zq zn zu (zo []) zRI
@[simp] abbrev zxC (e:GExit):Bool:=true
@[simp] abbrev zsk (e:GExit):Bool:=zgC e
def zBm:Run:=rF1 dE fun b=>(zxC b,[aB (zsk b)])
def zHh (N:Nat)(a0:GExit):OA:=
 let y5:=(zb0 a0.N 0 99);let y4:=(zbO a0.N 0 99);let y3:=(ieq a0.Kind 2);let y2:=(aB (ieq a0.N 0));let y1:=(ieq a0.Page 0);let y0:=(aB (nB a0.Write)); (cond (ieq a0.Kind 0) (cond (ieq a0.Kind 0) (cond y1 (cond (nB a0.Write) (some [y2]) oF) oF) (cond (ieq a0.Kind 1) (oN (zbO a0.Page 0 3) (cond (zb0 a0.Page 0 3) (some [y2]) oF)) (cond y3 (cond y3 (oN y4 (cond y5 (cond y1 (some [y0]) oF) oF)) oF) (cond (ieq a0.Kind 3) (oN y4 (cond y5 (cond y1 (some [y0]) oF) oF)) oF)))) (cond (ieq a0.Kind 4) (cond y1 (cond (nB a0.Write) (some [y2]) oF) oF) (cond (ieq a0.Kind 1) (oN (zbO a0.Page 0 3) (cond (zb0 a0.Page 0 3) (some [y2]) oF)) (cond y3 (cond y3 (oN y4 (cond y5 (cond y1 (some [y0]) oF) oF)) oF) (cond (ieq a0.Kind 3) (oN y4 (cond y5 (cond y1 (some [y0]) oF) oF)) oF)))))
theorem zRn (a0:GExit)(hc:zxC a0=true):∃N,zHh N a0=some [aB (zsk a0)]:=by
 refine ⟨0,?_⟩;unfold zHh oN nB
 conv=>zeta
 refine br (fun _=>br (fun _=>br (fun _=>brN (fun _=>?_) (fun _=>?_)) (fun _=>?_)) (fun _=>br (fun _=>must rfl (br (fun _=>?_) (fun _=>?_))) (fun _=>br (fun _=>br (fun _=>must rfl (br (fun _=>br (fun _=>?_) (fun _=>?_)) (fun _=>?_))) (fun _=>?_)) (fun _=>br (fun _=>must rfl (br (fun _=>br (fun _=>?_) (fun _=>?_)) (fun _=>?_))) (fun _=>?_))))) (fun _=>br (fun _=>br (fun _=>brN (fun _=>?_) (fun _=>?_)) (fun _=>?_)) (fun _=>br (fun _=>must rfl (br (fun _=>?_) (fun _=>?_))) (fun _=>br (fun _=>br (fun _=>must rfl (br (fun _=>br (fun _=>?_) (fun _=>?_)) (fun _=>?_))) (fun _=>?_)) (fun _=>br (fun _=>must rfl (br (fun _=>br (fun _=>?_) (fun _=>?_)) (fun _=>?_))) (fun _=>?_)))))
 all_goals first|rfl|(simp only [*,zsk,zgC,cT,cF]<;>rfl)|simp_all[Ty.cells,zsk,zgC]
theorem zK3:vF 226 zBm:=kF1 zfT zq zn zu (zo []) zRn
def zjt (c:Ctl):List Int:=(cond (win c.Traps 0 3) [] [1])++((cond (win c.Post 0 255) [] [2])++((cond (ine c.Post 0) (cond c.Open [] [3]) [])++(cond (ieq c.Traps 2) (cond (ine c.Post 0) [4] []) [])))
@[simp] theorem z7U {α:Type}(x:α)(l m:List α):ap (x :: l) m=x :: ap l m:=rfl
@[simp] abbrev zqQ (c:Ctl):Bool:=true
@[simp] abbrev zlo (c:Ctl):List Int:=zjt c
def zuh:Run:=rF1 dC fun b=>(zqQ b,[aS .int (zlo b)])
def zyK (N:Nat)(a0:Ctl):OA:=
 let y10:=(aS .int []);let y8:=(ap (ap [] [2]) [4]);let y7:=(ap (ap [] [1]) [4]);let y6:=(aS .int (ap [] [2]));let y5:=(aS .int (ap [] [1]));let y4:=(ap (ap [] [2]) [3]);let y3:=(ap (ap [] [1]) [3]);let y2:=(ieq a0.Traps 2);let y1:=(ine a0.Post 0);let y0:=(ap (ap [] [1]) [2]);let y9:=(aS .int y0); (oN (zI a0.Traps 0 3) (cond (nB (zL a0.Traps 0 3)) (oN (few (ln (ap [] [1]))) (oN (zI a0.Post 0 255) (cond (nB (zL a0.Post 0 255)) (oN (few (ln y0)) (cond y1 (cond (nB a0.Open) (oN (few (ln (ap y0 [3]))) (cond y2 (cond y1 (oN (few (ln (ap (ap y0 [3]) [4]))) (some [(aS .int (ap (ap y0 [3]) [4]))])) (some [(aS .int (ap y0 [3]))])) (some [(aS .int (ap y0 [3]))]))) (cond y2 (cond y1 (oN (few (ln (ap y0 [4]))) (some [(aS .int (ap y0 [4]))])) (some [y9])) (some [y9]))) (cond y2 (cond y1 (oN (few (ln (ap y0 [4]))) (some [(aS .int (ap y0 [4]))])) (some [y9])) (some [y9])))) (cond y1 (cond (nB a0.Open) (oN (few (ln y3)) (cond y2 (cond y1 (oN (few (ln (ap y3 [4]))) (some [(aS .int (ap y3 [4]))])) (some [(aS .int y3)])) (some [(aS .int y3)]))) (cond y2 (cond y1 (oN (few (ln y7)) (some [(aS .int y7)])) (some [y5])) (some [y5]))) (cond y2 (cond y1 (oN (few (ln y7)) (some [(aS .int y7)])) (some [y5])) (some [y5])))))) (oN (zI a0.Post 0 255) (cond (nB (zL a0.Post 0 255)) (oN (few (ln (ap [] [2]))) (cond y1 (cond (nB a0.Open) (oN (few (ln y4)) (cond y2 (cond y1 (oN (few (ln (ap y4 [4]))) (some [(aS .int (ap y4 [4]))])) (some [(aS .int y4)])) (some [(aS .int y4)]))) (cond y2 (cond y1 (oN (few (ln y8)) (some [(aS .int y8)])) (some [y6])) (some [y6]))) (cond y2 (cond y1 (oN (few (ln y8)) (some [(aS .int y8)])) (some [y6])) (some [y6])))) (cond y1 (cond (nB a0.Open) (oN (few (ln (ap [] [3]))) (cond y2 (cond y1 (oN (few (ln (ap (ap [] [3]) [4]))) (some [(aS .int (ap (ap [] [3]) [4]))])) (some [(aS .int (ap [] [3]))])) (some [(aS .int (ap [] [3]))]))) (cond y2 (cond y1 (oN (few (ln (ap [] [4]))) (some [(aS .int (ap [] [4]))])) (some [y10])) (some [y10]))) (cond y2 (cond y1 (oN (few (ln (ap [] [4]))) (some [(aS .int (ap [] [4]))])) (some [y10])) (some [y10])))))))
theorem zJz (a0:Ctl)(hc:zqQ a0=true):∃N,zyK N a0=some [aS .int (zlo a0)]:=by
 refine ⟨0,?_⟩;unfold zyK oN nB
 conv=>zeta
 refine must rfl (brN (fun _=>mu (must rfl (brN (fun _=>mu (br (fun _=>brN (fun _=>mu (br (fun _=>br (fun _=>mu ?_) (fun _=>?_)) (fun _=>?_))) (fun _=>br (fun _=>br (fun _=>mu ?_) (fun _=>?_)) (fun _=>?_))) (fun _=>br (fun _=>br (fun _=>mu ?_) (fun _=>?_)) (fun _=>?_)))) (fun _=>br (fun _=>brN (fun _=>mu (br (fun _=>br (fun _=>mu ?_) (fun _=>?_)) (fun _=>?_))) (fun _=>br (fun _=>br (fun _=>mu ?_) (fun _=>?_)) (fun _=>?_))) (fun _=>br (fun _=>br (fun _=>mu ?_) (fun _=>?_)) (fun _=>?_)))))) (fun _=>must rfl (brN (fun _=>mu (br (fun _=>brN (fun _=>mu (br (fun _=>br (fun _=>mu ?_) (fun _=>?_)) (fun _=>?_))) (fun _=>br (fun _=>br (fun _=>mu ?_) (fun _=>?_)) (fun _=>?_))) (fun _=>br (fun _=>br (fun _=>mu ?_) (fun _=>?_)) (fun _=>?_)))) (fun _=>br (fun _=>brN (fun _=>mu (br (fun _=>br (fun _=>mu ?_) (fun _=>?_)) (fun _=>?_))) (fun _=>br (fun _=>br (fun _=>mu ?_) (fun _=>?_)) (fun _=>?_))) (fun _=>br (fun _=>br (fun _=>mu ?_) (fun _=>?_)) (fun _=>?_))))))
 all_goals first|rfl|(simp only [*,zlo,zjt,cT,cF]<;>rfl)|simp_all[Ty.cells,zlo,zjt]
theorem zDc:vF 315 zuh:=kF1 zfT zq zn zu (zo []) zJz
@[simp] abbrev zqv (c:Ctl):Bool:=true
@[simp] abbrev zld (c:Ctl):List Int:=zjt c
def zt1:Run:=rF1 dC fun b=>(zqv b,[aS .int (zld b)])
def zyx (N:Nat)(a0:Ctl):OA:=
 let y10:=(aS .int []);let y8:=(ap (ap [] [2]) [4]);let y7:=(ap (ap [] [1]) [4]);let y6:=(aS .int (ap [] [2]));let y5:=(aS .int (ap [] [1]));let y4:=(ap (ap [] [2]) [3]);let y3:=(ap (ap [] [1]) [3]);let y2:=(ieq a0.Traps 2);let y1:=(ine a0.Post 0);let y0:=(ap (ap [] [1]) [2]);let y9:=(aS .int y0); (oN (zbO a0.Traps 0 3) (cond (nB (zb0 a0.Traps 0 3)) (oN (few (ln (ap [] [1]))) (oN (zbO a0.Post 0 255) (cond (nB (zb0 a0.Post 0 255)) (oN (few (ln y0)) (cond y1 (cond (nB a0.Open) (oN (few (ln (ap y0 [3]))) (cond y2 (cond y1 (oN (few (ln (ap (ap y0 [3]) [4]))) (some [(aS .int (ap (ap y0 [3]) [4]))])) (some [(aS .int (ap y0 [3]))])) (some [(aS .int (ap y0 [3]))]))) (cond y2 (cond y1 (oN (few (ln (ap y0 [4]))) (some [(aS .int (ap y0 [4]))])) (some [y9])) (some [y9]))) (cond y2 (cond y1 (oN (few (ln (ap y0 [4]))) (some [(aS .int (ap y0 [4]))])) (some [y9])) (some [y9])))) (cond y1 (cond (nB a0.Open) (oN (few (ln y3)) (cond y2 (cond y1 (oN (few (ln (ap y3 [4]))) (some [(aS .int (ap y3 [4]))])) (some [(aS .int y3)])) (some [(aS .int y3)]))) (cond y2 (cond y1 (oN (few (ln y7)) (some [(aS .int y7)])) (some [y5])) (some [y5]))) (cond y2 (cond y1 (oN (few (ln y7)) (some [(aS .int y7)])) (some [y5])) (some [y5])))))) (oN (zbO a0.Post 0 255) (cond (nB (zb0 a0.Post 0 255)) (oN (few (ln (ap [] [2]))) (cond y1 (cond (nB a0.Open) (oN (few (ln y4)) (cond y2 (cond y1 (oN (few (ln (ap y4 [4]))) (some [(aS .int (ap y4 [4]))])) (some [(aS .int y4)])) (some [(aS .int y4)]))) (cond y2 (cond y1 (oN (few (ln y8)) (some [(aS .int y8)])) (some [y6])) (some [y6]))) (cond y2 (cond y1 (oN (few (ln y8)) (some [(aS .int y8)])) (some [y6])) (some [y6])))) (cond y1 (cond (nB a0.Open) (oN (few (ln (ap [] [3]))) (cond y2 (cond y1 (oN (few (ln (ap (ap [] [3]) [4]))) (some [(aS .int (ap (ap [] [3]) [4]))])) (some [(aS .int (ap [] [3]))])) (some [(aS .int (ap [] [3]))]))) (cond y2 (cond y1 (oN (few (ln (ap [] [4]))) (some [(aS .int (ap [] [4]))])) (some [y10])) (some [y10]))) (cond y2 (cond y1 (oN (few (ln (ap [] [4]))) (some [(aS .int (ap [] [4]))])) (some [y10])) (some [y10])))))))
theorem zJl (a0:Ctl)(hc:zqv a0=true):∃N,zyx N a0=some [aS .int (zld a0)]:=by
 refine ⟨0,?_⟩;unfold zyx oN nB
 conv=>zeta
 refine must rfl (brN (fun _=>mu (must rfl (brN (fun _=>mu (br (fun _=>brN (fun _=>mu (br (fun _=>br (fun _=>mu ?_) (fun _=>?_)) (fun _=>?_))) (fun _=>br (fun _=>br (fun _=>mu ?_) (fun _=>?_)) (fun _=>?_))) (fun _=>br (fun _=>br (fun _=>mu ?_) (fun _=>?_)) (fun _=>?_)))) (fun _=>br (fun _=>brN (fun _=>mu (br (fun _=>br (fun _=>mu ?_) (fun _=>?_)) (fun _=>?_))) (fun _=>br (fun _=>br (fun _=>mu ?_) (fun _=>?_)) (fun _=>?_))) (fun _=>br (fun _=>br (fun _=>mu ?_) (fun _=>?_)) (fun _=>?_)))))) (fun _=>must rfl (brN (fun _=>mu (br (fun _=>brN (fun _=>mu (br (fun _=>br (fun _=>mu ?_) (fun _=>?_)) (fun _=>?_))) (fun _=>br (fun _=>br (fun _=>mu ?_) (fun _=>?_)) (fun _=>?_))) (fun _=>br (fun _=>br (fun _=>mu ?_) (fun _=>?_)) (fun _=>?_)))) (fun _=>br (fun _=>brN (fun _=>mu (br (fun _=>br (fun _=>mu ?_) (fun _=>?_)) (fun _=>?_))) (fun _=>br (fun _=>br (fun _=>mu ?_) (fun _=>?_)) (fun _=>?_))) (fun _=>br (fun _=>br (fun _=>mu ?_) (fun _=>?_)) (fun _=>?_))))))
 all_goals first|rfl|(simp only [*,zld,zjt,cT,cF]<;>rfl)|simp_all[Ty.cells,zld,zjt]
theorem zCZ:vF 282 zt1:=kF1 zfT zq zn zu (zo []) zJl
def zf3 (p n:Int):Bool:=ieq (wand .i64 (zCs .i64 p n) 1) 1
def scan (p:Int):Int:=bif zf3 p 7 then 7 else (cond (zf3 p 6) 6 (cond (zf3 p 5) 5 (cond (zf3 p 4) 4 (cond (zf3 p 3) 3 (cond (zf3 p 2) 2 (cond (zf3 p 1) 1 (cond (zf3 p 0) 0 (-1))))))))
theorem z2d:∀n:Fin 256,-1<=scan (n.val:Int)/\scan (n.val:Int)<=7/\(0<=scan (n.val:Int)->wsub .i64 (n.val:Int) (zn2 .i64 1 (scan (n.val:Int)))=zKM .i64 (n.val:Int) (zn2 .i64 1 (scan (n.val:Int)))):=by decide +kernel
theorem zZG {P:Int->Prop}(h:∀n:Fin 256,P (n.val:Int)){x:Int}(h0:0<=x)(h1:x<=255):P x:=by
 have:=h ⟨x.toNat,by omega⟩
 have e:((x.toNat:Nat):Int)=x:=by omega
 simpa [e] using this
def z3v:zO:=[(273,zBE),(213,zzi),(166,zyX),(212,zBQ),(165,zBt),(314,zEZ),(281,zEP),(279,zBF),(226,zBm),(315,zuh),(282,zt1)]++z3u
theorem zfU:zF z3v:=zh zLl (zh zIX (zh zIC (zh zLx (zh zLa (zh zOQ (zh zOF (zh zLm (zh zK3 (zh zDc (zh zCZ zfT))))))))))
def zgM (m:List (List Int))(n:Int):Bool:=bif m.all zb5 then ieq (ln m) n else false
@[simp] abbrev zqd (m:List (List Int))(n:Int):Bool:=true
@[simp] abbrev zkN (m:List (List Int))(n:Int):Bool:=zgM m n
def zE0:Run:=rF2 (dS (.sl .int)) dI fun b c=>(zqd b c,[aB (zkN b c)])
def zNt (N:Nat)(a0:lM)(a1:Int):OA:=
 (iter (σ:=(Int×(Int×(lM×Unit)))) N (fun r3 s4=>let y0:=s4.2.2.1; (cond (ilt s4.2.1 (ln y0)) (oN (inb s4.2.1 (ln y0)) (oN (zfr (ix y0 s4.2.1 [])) (cond (nB (zeP (ix y0 s4.2.1 []))) oF (r3 (s4.1,((zG .i64 s4.2.1 1),(y0,()))))))) (some [(aB (ieq (ln y0) s4.1))]))) (a1,(0,(a0,()))))
def zU1:FuncId->Nat->Option Tmpl:=zo [(155,0,{ n:=22,tm:=[(0,.sl 0 []),(1,ti),(5,ti)],lo:=[],ro:=[(0,(.sl .int),false)] })]
theorem zUh (a0:List (List Int))(a1:Int)(hb:zbE big [aS (.sl .int) a0,aI a1])(hc:zqd a0 a1=true):∃N,zNt N a0 a1=some [aB (zkN a0 a1)]:=by
 have hl:(_:List _).length<=big:=((zcm hb).1 _ (qF.2 rfl)).len;refine zcd fun N hNN=>?_;unfold zNt oN nB
 conv=>zeta
 refine (zZ a0 (fun i (t:Unit)=>(a1,(i:Int),a0,())) _ (fun _ x (_:Unit) κ=>bif (zb5) x then κ () else oF) (fun (t:Unit)=>(some [(.one (.b (ieq (ln a0) a1)))])) (fun i hi t rec=>?_) (fun t rec=>?_) _ () (hNN hl)).trans ?_
 .simp only [zbo hi,zS hi,zbc hi,zV hi hl,cT];exact zib rfl
 .simp only [zbg,cF]
 rw[zfd (zb5)];refine br (fun h0=>?_) (fun h0=>?_)
 .first|rfl|(simp only [h0,zkN,zgM,cT,cF]<;>rfl)|(simp_all [Ty.cells,zkN,zgM];done)
 .first|rfl|(simp only [h0,zkN,zgM,cT,cF]<;>rfl)|(simp_all [Ty.cells,zkN,zgM];done)
theorem zOR:vF 155 zE0:=hF2 zfU zq zn zu zU1 zUh
@[simp] abbrev zAZ (m:List (List Int))(n:Int):Bool:=true
@[simp] abbrev zol (m:List (List Int))(n:Int):Bool:=zgM m n
def zEQ:Run:=rF2 (dS (.sl .int)) dI fun b c=>(zAZ b c,[aB (zol b c)])
def zNj (N:Nat)(a0:lM)(a1:Int):OA:=
 (iter (σ:=(Int×(Int×(Int×(lM×Unit))))) N (fun r3 s4=>let y0:=s4.2.2.2.1; (cond (ilt s4.2.2.1 s4.2.1) (oN (inb s4.2.2.1 (ln y0)) (oN (zg6 (ix y0 s4.2.2.1 [])) (cond (nB (zfV (ix y0 s4.2.2.1 []))) oF (r3 (s4.1,(s4.2.1,((zG .i64 s4.2.2.1 1),(y0,())))))))) (some [(aB (ieq (ln y0) s4.1))]))) (a1,((ln a0),(0,(a0,())))))
def zUZ:FuncId->Nat->Option Tmpl:=zo [(106,0,{ n:=21,tm:=[(0,.sl 0 []),(1,ti),(7,.sl 0 []),(8,ti),(9,ti)],lo:=[],ro:=[(0,(.sl .int),false)] })]
theorem zT6 (a0:List (List Int))(a1:Int)(hb:zbE big [aS (.sl .int) a0,aI a1])(hc:zAZ a0 a1=true):∃N,zNj N a0 a1=some [aB (zol a0 a1)]:=by
 have hl:(_:List _).length<=big:=((zcm hb).1 _ (qF.2 rfl)).len;refine zcd fun N hNN=>?_;unfold zNj oN nB
 conv=>zeta
 refine (zZ a0 (fun i (t:Unit)=>(a1,(ln a0),(i:Int),a0,())) _ (fun _ x (_:Unit) κ=>bif (zb5) x then κ () else oF) (fun (t:Unit)=>(some [(.one (.b (ieq (ln a0) a1)))])) (fun i hi t rec=>?_) (fun t rec=>?_) _ () (hNN hl)).trans ?_
 .simp only [zbo hi,zS hi,zbc hi,zV hi hl,cT];exact zib rfl
 .simp only [zbg,cF]
 rw[zfd (zb5)];refine br (fun h0=>?_) (fun h0=>?_)
 .first|rfl|(simp only [h0,zol,zgM,cT,cF]<;>rfl)|(simp_all [Ty.cells,zol,zgM];done)
 .first|rfl|(simp only [h0,zol,zgM,cT,cF]<;>rfl)|(simp_all [Ty.cells,zol,zgM];done)
theorem zOG:vF 106 zEQ:=hF2 zfU zq zn zu zUZ zT6
def zcT (p:List Ins):Bool:=bif p.all zdC then win (ln p) 1 12 else false
@[simp] abbrev zyg (p:List Ins):Bool:=true
@[simp] abbrev zmd (p:List Ins):Bool:=zcT p
def zBS:Run:=rF1 (dS .ins) fun b=>(zyg b,[aB (zmd b)])
def zHN (N:Nat)(a0:lI):OA:=
 (iter (σ:=(Int×(lI×Unit))) N (fun r2 s3=>let y0:=(ix s3.2.1 s3.1 zuY); (cond (ilt s3.1 (ln s3.2.1)) (oN (inb s3.1 (ln s3.2.1)) (oN (zCb y0) (cond (nB (zw0 y0)) oF (r2 ((zG .i64 s3.1 1),(s3.2.1,())))))) (oN (zI (ln s3.2.1) 1 12) (some [(aB (zL (ln s3.2.1) 1 12))])))) (0,(a0,())))
def zTs:FuncId->Nat->Option Tmpl:=zo [(277,0,{ n:=19,tm:=[(0,.sl 0 []),(3,ti)],lo:=[],ro:=[(0,.ins,false)] })]
theorem zRW (a0:List Ins)(hb:zbE big [aS .ins a0])(hc:zyg a0=true):∃N,zHN N a0=some [aB (zmd a0)]:=by
 have hl:(_:List _).length<=big:=((zcm hb).1 _ (qF.2 rfl)).len;refine zcd fun N hNN=>?_;unfold zHN oN nB
 conv=>zeta
 refine (zZ a0 (fun i (t:Unit)=>((i:Int),a0,())) _ (fun _ x (_:Unit) κ=>bif (zdC) x then κ () else oF) (fun (t:Unit)=>(cond (zI (ln a0) 1 12) (some [(.one (.b (zL (ln a0) 1 12)))]) none)) (fun i hi t rec=>?_) (fun t rec=>?_) _ () (hNN hl)).trans ?_
 .simp only [zbo hi,zS hi,zbc hi,zV hi hl,cT];exact zib rfl
 .simp only [zbg,cF]
 rw[zfd (zdC)];refine br (fun h0=>?_) (fun h0=>?_)
 .refine must rfl ?_
  first|rfl|(simp only [h0,zmd,zcT,cT,cF]<;>rfl)|(simp_all [Ty.cells,zmd,zcT];done)
 .first|rfl|(simp only [h0,zmd,zcT,cT,cF]<;>rfl)|(simp_all [Ty.cells,zmd,zcT];done)
theorem zLz:vF 277 zBS:=hF1 zfU zq zn zu zTs zRW
@[simp] abbrev zxJ (p:List Ins):Bool:=true
@[simp] abbrev zl1 (p:List Ins):Bool:=zcT p
def zBv:Run:=rF1 (dS .ins) fun b=>(zxJ b,[aB (zl1 b)])
def zHq (N:Nat)(a0:lI):OA:=
 (iter (σ:=(Int×(Int×(lI×Unit)))) N (fun r2 s3=>let y0:=(ix s3.2.2.1 s3.2.1 zuY); (cond (ilt s3.2.1 s3.1) (oN (inb s3.2.1 (ln s3.2.2.1)) (oN (zAY y0) (cond (nB (zv9 y0)) oF (r2 (s3.1,((zG .i64 s3.2.1 1),(s3.2.2.1,()))))))) (oN (zbO (ln s3.2.2.1) 1 12) (some [(aB (zb0 (ln s3.2.2.1) 1 12))])))) ((ln a0),(0,(a0,()))))
def zTj:FuncId->Nat->Option Tmpl:=zo [(224,0,{ n:=18,tm:=[(0,.sl 0 []),(5,.sl 0 []),(6,ti),(7,ti)],lo:=[],ro:=[(0,.ins,false)] })]
theorem zRx (a0:List Ins)(hb:zbE big [aS .ins a0])(hc:zxJ a0=true):∃N,zHq N a0=some [aB (zl1 a0)]:=by
 have hl:(_:List _).length<=big:=((zcm hb).1 _ (qF.2 rfl)).len;refine zcd fun N hNN=>?_;unfold zHq oN nB
 conv=>zeta
 refine (zZ a0 (fun i (t:Unit)=>((ln a0),(i:Int),a0,())) _ (fun _ x (_:Unit) κ=>bif (zdC) x then κ () else oF) (fun (t:Unit)=>(cond (zbO (ln a0) 1 12) (some [(.one (.b (zb0 (ln a0) 1 12)))]) none)) (fun i hi t rec=>?_) (fun t rec=>?_) _ () (hNN hl)).trans ?_
 .simp only [zbo hi,zS hi,zbc hi,zV hi hl,cT];exact zib rfl
 .simp only [zbg,cF]
 rw[zfd (zdC)];refine br (fun h0=>?_) (fun h0=>?_)
 .refine must rfl ?_
  first|rfl|(simp only [h0,zl1,zcT,cT,cF]<;>rfl)|(simp_all [Ty.cells,zl1,zcT];done)
 .first|rfl|(simp only [h0,zl1,zcT,cT,cF]<;>rfl)|(simp_all [Ty.cells,zl1,zcT];done)
theorem zLc:vF 224 zBv:=hF1 zfU zq zn zu zTj zRx
def zgL (c:Ctl):Bool:=ieq (ln (zjt c)) 0
@[simp] abbrev zqb (c:Ctl):Bool:=true
@[simp] abbrev zoK (c:Ctl):Bool:=zgL c
def zEW:Run:=rF1 dC fun b=>(zqb b,[aB (zoK b)])
def zNp (N:Nat)(a0:Ctl):OA:=
 (oN (zqQ a0) (some [(aB (ieq (ln (zlo a0)) 0))]))
theorem zUd (a0:Ctl)(hc:zqb a0=true):∃N,zNp N a0=some [aB (zoK a0)]:=by
 refine ⟨0,?_⟩;unfold zNp oN;refine must rfl ?_
 first|rfl|(simp only [*,zoK,zgL,cT,cF]<;>rfl)|simp_all[Ty.cells,zoK,zgL]
theorem zON:vF 278 zEW:=kF1 zfU zq zn zu (zo []) zUd
@[simp] abbrev zAX (c:Ctl):Bool:=true
@[simp] abbrev zv8 (c:Ctl):Bool:=zgL c
def zEO:Run:=rF1 dC fun b=>(zAX b,[aB (zv8 b)])
def zNh (N:Nat)(a0:Ctl):OA:=
 (oN (zqv a0) (some [(aB (ieq (ln (zld a0)) 0))]))
theorem zT4 (a0:Ctl)(hc:zAX a0=true):∃N,zNh N a0=some [aB (zv8 a0)]:=by
 refine ⟨0,?_⟩;unfold zNh oN;refine must rfl ?_
 first|rfl|(simp only [*,zv8,zgL,cT,cF]<;>rfl)|simp_all[Ty.cells,zv8,zgL]
theorem zOE:vF 225 zEO:=kF1 zfU zq zn zu (zo []) zT4
def zdB (p:Int):Int:=bif zcN p then scan p else -1
theorem zWc {x:Int}(h0:0<=x)(h1:x<=255):wcv .u64 x=x:=zZG (P:=fun x=>wcv .u64 x=x) (by decide +kernel) h0 h1
@[simp] abbrev zry (p:Int):Bool:=true
@[simp] abbrev zme (p:Int):Int:=zdB p
def zBW:Run:=rF1 dI fun b=>(zry b,[aI (zme b)])
def zHR (N:Nat)(a0:Int):OA:=
 (iter (σ:=(Int×(Int×Unit))) N (fun r2 s3=>(cond (ige s3.2.1 0) (oN (zeR s3.1) (cond (zeQ s3.1) (oN (ile 0 (wcv .u64 s3.2.1)) (cond (ieq (wand .i64 (zCs .i64 s3.1 (wcv .u64 s3.2.1)) 1) 1) (some [(aI s3.2.1)]) (r2 (s3.1,((wsub .i64 s3.2.1 1),()))))) (some [(aI (-1))]))) (some [(aI (-1))]))) (a0,(7,())))
def zTt:FuncId->Nat->Option Tmpl:=zo [(317,0,{ n:=19,tm:=[(0,ti),(3,ti)],lo:=[],ro:=[] })]
theorem zR0 (a0:Int)(hc:zry a0=true):∃N,zHR N a0=some [aI (zme a0)]:=by
 refine ⟨10,?_⟩;unfold zHR oN;cases h:zcN a0
 .rw [zdf];refine must rfl ?_;refine must rfl ?_;refine zdI h ?_;simp[zdB,h]
 .have hs:zeQ a0=true:=h;rw[zdf];refine must rfl (must rfl (must hs (must rfl (br (fun h7=>?_) (fun h7=>?_)))))
  .have e7:zf3 a0 7=true:=h7;simp[zdB,h,scan,e7]
  have f7:zf3 a0 7=false:=h7
  show iter 9 _ (a0,6,())=_
  rw[zdf];refine must rfl (must rfl (must hs (must rfl (br (fun h6=>?_) (fun h6=>?_)))))
  .have e6:zf3 a0 6=true:=h6;simp[zdB,h,scan,e6,f7]
  have f6:zf3 a0 6=false:=h6
  show iter 8 _ (a0,5,())=_
  rw[zdf];refine must rfl (must rfl (must hs (must rfl (br (fun h5=>?_) (fun h5=>?_)))))
  .have e5:zf3 a0 5=true:=h5;simp[zdB,h,scan,e5,f7,f6]
  have f5:zf3 a0 5=false:=h5
  show iter 7 _ (a0,4,())=_
  rw[zdf];refine must rfl (must rfl (must hs (must rfl (br (fun h4=>?_) (fun h4=>?_)))))
  .have e4:zf3 a0 4=true:=h4;simp[zdB,h,scan,e4,f7,f6,f5]
  have f4:zf3 a0 4=false:=h4
  show iter 6 _ (a0,3,())=_
  rw[zdf];refine must rfl (must rfl (must hs (must rfl (br (fun h3=>?_) (fun h3=>?_)))))
  .have e3:zf3 a0 3=true:=h3;simp[zdB,h,scan,e3,f7,f6,f5,f4]
  have f3:zf3 a0 3=false:=h3
  show iter 5 _ (a0,2,())=_
  rw[zdf];refine must rfl (must rfl (must hs (must rfl (br (fun h2=>?_) (fun h2=>?_)))))
  .have e2:zf3 a0 2=true:=h2;simp[zdB,h,scan,e2,f7,f6,f5,f4,f3]
  have f2:zf3 a0 2=false:=h2
  show iter 4 _ (a0,1,())=_
  rw[zdf];refine must rfl (must rfl (must hs (must rfl (br (fun h1=>?_) (fun h1=>?_)))))
  .have e1:zf3 a0 1=true:=h1;simp[zdB,h,scan,e1,f7,f6,f5,f4,f3,f2]
  have f1:zf3 a0 1=false:=h1
  show iter 3 _ (a0,0,())=_
  rw[zdf];refine must rfl (must rfl (must hs (must rfl (br (fun h0=>?_) (fun h0=>?_)))))
  .have e0:zf3 a0 0=true:=h0;simp[zdB,h,scan,e0,f7,f6,f5,f4,f3,f2,f1]
  have f0:zf3 a0 0=false:=h0
  show iter 2 _ (a0,-1,())=_
  rw[zdf];refine zdI rfl ?_;simp[zdB,h,scan,f7,f6,f5,f4,f3,f2,f1,f0]
theorem zLD:vF 317 zBW:=kF1 zfU zq zn zu zTt zR0
@[simp] abbrev zhp (l:List (List Int)):Bool:=pc (SmM l)
@[simp] abbrev ze3 (l:List (List Int)):List (List Int):=l
def zyY:Run:=rF1 (dS (.sl .int)) fun b=>(zhp b,[aS (.sl .int) (ze3 b)])
def zDT (N:Nat)(a0:lM):OA:=
 (iter (σ:=(Int×(Int×(lM×(lM×Unit))))) N (fun r2 s3=>let y0:=(ix s3.2.2.2.1 s3.2.1 []); (cond (ilt s3.2.1 s3.1) (oN (inb s3.2.1 (ln s3.2.2.2.1)) (oN (zdA y0) (oN (few (ln (ap s3.2.2.1 [(zdx y0)]))) (r2 (s3.1,((zG .i64 s3.2.1 1),((ap s3.2.2.1 [(zdx y0)]),(s3.2.2.2.1,())))))))) (some [(aS (.sl .int) s3.2.2.1)]))) ((ln a0),(0,([],(a0,())))))
def zPT:FuncId->Nat->Option Tmpl:=zo [(114,0,{ n:=20,tm:=[(3,.sl 0 []),(7,.sl 1 []),(8,ti),(9,ti)],lo:=[],ro:=[(0,(.sl .int),true),(1,(.sl .int),false)] })]
theorem zO5 (a0:List (List Int))(hc:zhp a0=true):∃N,zDT N a0=some [aS (.sl .int) (ze3 a0)]:=by
 have hs:=zD.1 hc;have hl:=zcP hs.1;refine zcd fun N hNN=>?_;unfold zDT oN
 conv=>zeta
 refine (zZ a0 (fun i (t:lM)=>((ln a0),(i:Int),t,a0,())) _ (fun _ x acc κ=>bif zdA x then (cond (few (ln (ap acc [zdx x]))) (κ (ap acc [zdx x])) none) else none) (fun (t:lM)=>(some [(.one (.s (.sl .int) t))])) (fun i hi t rec=>?_) (fun t rec=>?_) _ ([]) (hNN hl.1)).trans ?_
 .simp only [zbo hi,zS hi,zbc hi,zV hi hl.1,cT]
 .simp only [zbg,cF]
 exact zic zdA zdx _ a0 0 [] (fun x hx=>⟨by exact zbi (jC (hs.2 x hx) (by decide)),rfl⟩) (by simpa using hl.2)
theorem zID:vF 114 zyY:=kF1 zfU zq zn zu zPT zO5
@[simp] abbrev ziJ (g:Guest):Bool:=pc (SmG g)
@[simp] abbrev zfo (g:Guest):Guest:=g
def zt6:Run:=rF1 (dT .guest) fun b=>(ziJ b,[aT .guest (zfo b)])
def zyC (N:Nat)(a0:Guest):OA:=
 (oN (zst a0.Prog) (oN (zfW a0.Written) (oN (zfW a0.Live) (oN (zdA a0.Seen) (some [(aT .guest ({ a0 with Prog:=(zm6 a0.Prog),Written:=(zeB a0.Written),Live:=(zeB a0.Live),Seen:=(zdx a0.Seen) }:Guest))])))))
theorem zJq (a0:Guest)(hc:ziJ a0=true):∃N,zyC N a0=some [aT .guest (zfo a0)]:=by
 have hs:=zD.1 hc;obtain ⟨h1,h2,h3,h4⟩:=hs;have hs1:a0.Prog.length<=2147483648:=(by omega);have hs2:a0.Written.length<=2147483648:=(by omega);have hs3:a0.Live.length<=2147483648:=(by omega);have hs4:a0.Seen.length<=2147483648:=(by omega)
 refine ⟨0,?_⟩;unfold zyC oN;refine mu (mu (mu (mu ?_)))
 first|rfl|(simp only [*,zfo,cT,cF]<;>rfl)|simp_all[Ty.cells,zfo]
theorem zC4:vF 119 zt6:=kF1 zfU zq zn zu (zo []) zJq
def zdn (t:List Slot)(p n:Int):Bool:=bif ieq (zbm t p).Page (-1) then false else (cond (enough (zbm t p).Rights n) (win n 1 3) false)
def zbQ (t:List Slot)(p n:Int):Int:=bif zdn t p n then (zbm t p).Page else -1
theorem z14 {r:Int}(h:zcu r=true):0<=r/\r<=3:=zfm.1 h
theorem zWK {a n:Int}(h:enough a n=true):win n 1 3 = !ieq n 0:=by
 unfold enough at h;cases h1:zcu a
 .rw [h1]at h;cases h
 .cases h2:zcu n
  .rw [h1,h2]at h;cases h
  .have:=z14 h2;have e:(win n 1 3=true)↔(!ieq n 0)=true:=by
    rw[zfm];simp[ieq];omega
   cases h3:win n 1 3<;>cases h4:(!ieq n 0)<;>simp_all
@[simp] abbrev zqx (t:List Slot)(p n:Int):Bool:=true
@[simp] abbrev ziH (t:List Slot)(p n:Int):Int:=zbQ t p n
@[simp] abbrev ziI (t:List Slot)(p n:Int):Bool:=zdn t p n
def zt5:Run:=rF3 (dS .slot) dI dI fun b c d=>(zqx b c d,[aI (ziH b c d),aB (ziI b c d)])
def zyB (N:Nat)(a0:lS)(a1 a2:Int):OA:=
 let y0:=(zim a0 a1); (oN (zkp a0 a1) (cond (ieq y0.Page (-1)) (some [(aI (-1)),(aB false)]) (oN (zc1 y0.Rights a2) (cond (nB (zdw y0.Rights a2)) (some [(aI (-1)),(aB false)]) (oN (zbO a2 1 3) (cond (nB (zb0 a2 1 3)) (some [(aI (-1)),(aB false)]) (some [(aI y0.Page),(aB true)])))))))
theorem zJp (a0:List Slot)(a1 a2:Int)(hc:zqx a0 a1 a2=true):∃N,zyB N a0 a1 a2=some [aI (ziH a0 a1 a2),aB (ziI a0 a1 a2)]:=by
 refine ⟨0,?_⟩;unfold zyB oN nB
 conv=>zeta
 refine must rfl (br (fun _=>?_) (fun _=>must rfl (brN (fun _=>?_) (fun _=>must rfl (brN (fun _=>?_) (fun _=>?_))))))
 all_goals first|rfl|(simp only [*,ziH,ziI,zbQ,zdn,cT,cF]<;>rfl)|simp_all[Ty.cells,ziH,ziI,zbQ,zdn]
theorem zC3:vF 89 zt5:=kF3 zfU zq zn zu (zo []) zJp
@[simp] abbrev zlQ (t:List Slot)(p n:Int):Bool:=true
@[simp] abbrev ziP (t:List Slot)(p n:Int):Int:=zbQ t p n
@[simp] abbrev zf0 (t:List Slot)(p n:Int):Bool:=zdn t p n
def znn:Run:=rF3 (dS .slot) dI dI fun b c d=>(zlQ b c d,[aI (ziP b c d),aB (zf0 b c d)])
def zyR (N:Nat)(a0:lS)(a1 a2:Int):OA:=
 let y0:=(ziv a0 a1); (oN (znQ a0 a1) (cond (ieq y0.Page (-1)) (some [(aI (-1)),(aB false)]) (oN (zfq y0.Rights a2) (cond (nB (zfY y0.Rights a2)) (some [(aI (-1)),(aB false)]) (cond (ieq a2 0) (some [(aI (-1)),(aB false)]) (some [(aI y0.Page),(aB true)]))))))
theorem zJG (a0:List Slot)(a1 a2:Int)(hc:zlQ a0 a1 a2=true):∃N,zyR N a0 a1 a2=some [aI (ziP a0 a1 a2),aB (zf0 a0 a1 a2)]:=by
 have he:=@zWK (zbm a0 a1).Rights a2;refine ⟨0,?_⟩;unfold zyR oN nB
 conv=>zeta
 refine must rfl (br (fun _=>?_) (fun _=>must rfl (brN (fun _=>?_) (fun _=>br (fun _=>?_) (fun _=>?_)))))
 all_goals first|rfl|(simp only [*,ziP,zf0,zbQ,zdn,cT,cF]<;>rfl)|simp_all[Ty.cells,ziP,zf0,zbQ,zdn]
theorem zq0:vF 13 znn:=kF3 zfU zq zn zu (zo []) zJG
def z3w:zO:=[(114,zyY),(119,zt6),(13,znn),(89,zt5),(155,zE0),(106,zEQ),(277,zBS),(224,zBv),(278,zEW),(225,zEO),(317,zBW)]++z3v
theorem zlW:zF z3w:=zh zID (zh zC4 (zh zq0 (zh zC3 (zh zOR (zh zOG (zh zLz (zh zLc (zh zON (zh zOE (zh zLD zfU))))))))))
@[simp] abbrev zh0 (m:List (List Int))(p c v:Int):Bool:=pc (SmM m)
@[simp] abbrev ziw (m:List (List Int))(p c v:Int):List (List Int):=zbz m p c v
def zwR:Run:=rF4 (dS (.sl .int)) dI dI dI fun b c d e=>(zh0 b c d e,[aS (.sl .int) (ziw b c d e)])
def zAg (N:Nat)(a0:lM)(a1 a2 a3:Int):OA:=
 let y0:=(zed a0); (oN (zfs a0) (oN (zrz a0 a1 a2) (cond (zoR a0 a1 a2) (oN (zI a3 0 99) (cond (zL a3 0 99) (oN (inb a1 (ln y0)) (oN (inb a2 (ln (ix y0 a1 []))) (share (up y0 a1 (up (ix y0 a1 []) a2 a3)) (fun x5=>(some [(aS (.sl .int) x5)]))))) (some [(aS (.sl .int) y0)]))) (some [(aS (.sl .int) y0)]))))
theorem zMp (a0:List (List Int))(a1 a2 a3:Int)(hc:zh0 a0 a1 a2 a3=true):∃N,zAg N a0 a1 a2 a3=some [aS (.sl .int) (ziw a0 a1 a2 a3)]:=by
 have hs:=zD.1 hc;have hm:=(zxX a0 a1 a2).1
 refine ⟨0,?_⟩;unfold zAg oN
 conv=>zeta
 refine mu (must rfl (br (fun _=>must rfl (br (fun _=>mu (mu (shr ?_))) (fun _=>?_))) (fun _=>?_)))
 all_goals first|rfl|(simp only [*,ziw,zbz,cT,cF]<;>rfl)|simp_all[Ty.cells,ziw,zbz]
theorem zGj:vF 268 zwR:=kF4 zlW zq zn zu (zo []) zMp
def zhD (g:Guest):Bool:=bif canRun g then (cond g.Ctl.Open (ige (zdB g.Pending) 0) false) else false
@[simp] abbrev znR (g:Guest):Bool:=true
@[simp] abbrev zkP (g:Guest):Bool:=zhD g
def zwQ:Run:=rF1 (dT .guest) fun b=>(znR b,[aB (zkP b)])
def zAf (N:Nat)(a0:Guest):OA:=
 (oN (zro a0) (cond (zoI a0) (cond a0.Ctl.Open (oN (zry a0.Pending) (some [(aB (ige (zme a0.Pending) 0))])) oF) oF))
theorem zMo (a0:Guest)(hc:znR a0=true):∃N,zAf N a0=some [aB (zkP a0)]:=by
 refine ⟨0,?_⟩;unfold zAf oN;refine must rfl (br (fun _=>br (fun _=>must rfl ?_) (fun _=>?_)) (fun _=>?_))
 all_goals first|rfl|(simp only [*,zkP,zhD,cT,cF]<;>rfl)|simp_all[Ty.cells,zkP,zhD]
theorem zGi:vF 293 zwQ:=kF1 zlW zq zn zu (zo []) zMo
def zi0 (p:Int):Int:=bif ilt (zdB p) 0 then p else wsub .i64 p (zn2 .i64 1 (zdB p))
def zsw (p:Int):Int:=bif ilt (zdB p) 0 then -1 else zdB p
theorem z0w {p:Int}(h:ilt (zdB p) 0=false):wcv .u64 (zdB p)=zdB p/\ile 0 (zdB p)=true/\zKM .i64 p (zn2 .i64 1 (zdB p))=wsub .i64 p (zn2 .i64 1 (zdB p)):=by
 unfold zdB at *;cases h1:zcN p
 .rw [h1]at h;cases h
 .simp only [h1,cT]at h ⊢;obtain ⟨h0,h2⟩:=zfm.1 h1;have r:=zZG (P:=fun x=>-1<=scan x/\scan x<=7/\(0<=scan x->wsub .i64 x (zn2 .i64 1 (scan x))=zKM .i64 x (zn2 .i64 1 (scan x)))) z2d h0 h2;have h3:0<=scan p:=by
   unfold ilt at h;have:=jT h;omega
  exact ⟨zWc h3 (by omega),qI h3,(r.2.2 h3).symm⟩
@[simp] abbrev zpF (p:Int):Bool:=true
@[simp] abbrev zja (p:Int):Int:=zi0 p
@[simp] abbrev zjb (p:Int):Int:=zsw p
@[simp] abbrev zlv (p:Int):Bool:=!ilt (zdB p) 0
def zzj:Run:=rF1 dI fun b=>(zpF b,[aI (zja b),aI (zjb b),aB (zlv b)])
def zEh (N:Nat)(a0:Int):OA:=
 (oN (zry a0) (cond (ilt (zme a0) 0) (some [(aI a0),(aI (-1)),(aB false)]) (oN (ile 0 (wcv .u64 (zme a0))) (some [(aI (wsub .i64 a0 (zn2 .i64 1 (wcv .u64 (zme a0))))),(aI (zme a0)),(aB true)]))))
theorem zPu (a0:Int)(hc:zpF a0=true):∃N,zEh N a0=some [aI (zja a0),aI (zjb a0),aB (zlv a0)]:=by
 have ht:=@z0w a0;refine ⟨0,?_⟩;unfold zEh oN;refine must rfl (br (fun _=>?_) (fun _=>mu ?_))
 all_goals first|rfl|(simp only [*,zja,zjb,zlv,zi0,zsw,cT,cF]<;>rfl)|simp_all[Ty.cells,zja,zjb,zlv,zi0,zsw]
theorem zIY:vF 295 zzj:=kF1 zlW zq zn zu (zo []) zPu
def saw (g:Guest)(n:Int):Guest:=bif ilt (ln g.Seen) 40 then { g with Seen:=ap g.Seen [n] } else g
@[simp] theorem zMR {g:Guest}(n:Int)(h:SmG g):SmG (saw g n):=by
 unfold saw;cases h1:ilt (ln g.Seen) 40
 .exact h
 .have:=qE h1;refine ⟨h.1,h.2.1,h.2.2.1,?_⟩;simp[ln] at *;omega
@[simp] abbrev zCS (g:Guest)(n:Int):Bool:=pc (SmG g)
@[simp] abbrev zyh (g:Guest)(n:Int):Guest:=saw g n
def zOq:Run:=rF2 (dT .guest) dI fun b c=>(zCS b c,[aT .guest (zyh b c)])
def zVa (N:Nat)(a0:Guest)(a1:Int):OA:=
 (oN (zc6 a0) (cond (ilt (ln (zcI a0).Seen) 40) (oN (few (ln (ap (zcI a0).Seen [a1]))) (some [(aT .guest ({ (zcI a0) with Seen:=(ap (zcI a0).Seen [a1]) }:Guest))])) (some [(aT .guest (zcI a0))])))
theorem zZr (a0:Guest)(a1:Int)(hc:zCS a0 a1=true):∃N,zVa N a0 a1=some [aT .guest (zyh a0 a1)]:=by
 have hs:=zD.1 hc;have hz:a0.Seen.length<=1048576:=hs.2.2.2
 refine ⟨0,?_⟩;unfold zVa oN;refine mu (br (fun _=>mu ?_) (fun _=>?_))
 all_goals first|rfl|(simp only [*,zyh,saw,cT,cF]<;>rfl)|simp_all[Ty.cells,zyh,saw]
theorem zT2:vF 296 zOq:=kF2 zlW zq zn zu (zo []) zZr
def stopped (g:Guest)(e:GExit):Guest:={ g with Exit:=e }
@[simp] theorem z6X {g:Guest}(e:GExit)(h:SmG g):SmG (stopped g e):=h
@[simp] abbrev zdW (g:Guest)(e:GExit):Bool:=pc (SmG g)
@[simp] abbrev zds (g:Guest)(e:GExit):Guest:=stopped g e
def zzh:Run:=rF2 (dT .guest) dE fun b c=>(zdW b c,[aT .guest (zds b c)])
def zEf (N:Nat)(a0:Guest)(a1:GExit):OA:=
 (oN (zc6 a0) (some [(aT .guest ({ (zcI a0) with Exit:=a1 }:Guest))]))
theorem zPs (a0:Guest)(a1:GExit)(hc:zdW a0 a1=true):∃N,zEf N a0 a1=some [aT .guest (zds a0 a1)]:=by
 have hs:=zD.1 hc;refine ⟨0,?_⟩;unfold zEf oN;refine mu ?_
 first|rfl|(simp only [*,zds,stopped,cT,cF]<;>rfl)|simp_all[Ty.cells,zds,stopped]
theorem zIW:vF 300 zzh:=kF2 zlW zq zn zu (zo []) zPs
def zbW (g:Guest):Guest:=bif ige g.Pc 12 then { g with Pc:=12 } else { g with Pc:=zG .i64 g.Pc 1 }
@[simp] theorem zj8 {g:Guest}(h:SmG g):SmG (zbW g):=by
 unfold zbW;cases ige g.Pc 12<;>exact h
@[simp] abbrev zdR (g:Guest):Bool:=pc (SmG g)
@[simp] abbrev zfP (g:Guest):Guest:=zbW g
def zE2:Run:=rF1 (dT .guest) fun b=>(zdR b,[aT .guest (zfP b)])
def zNv (N:Nat)(a0:Guest):OA:=
 (oN (zc6 a0) (cond (ige (zcI a0).Pc 12) (some [(aT .guest ({ (zcI a0) with Pc:=12 }:Guest))]) (some [(aT .guest ({ (zcI a0) with Pc:=(zG .i64 (zcI a0).Pc 1) }:Guest))])))
theorem zUj (a0:Guest)(hc:zdR a0=true):∃N,zNv N a0=some [aT .guest (zfP a0)]:=by
 have hs:=zD.1 hc;refine ⟨0,?_⟩;unfold zNv oN;refine mu (br (fun _=>?_) (fun _=>?_))
 all_goals first|rfl|(simp only [*,zfP,zbW,cT,cF]<;>rfl)|simp_all[Ty.cells,zfP,zbW]
theorem zOT:vF 297 zE2:=kF1 zlW zq zn zu (zo []) zUj
def z3x:zO:=[(268,zwR),(293,zwQ),(295,zzj),(296,zOq),(300,zzh),(297,zE2)]++z3w
theorem zif:zF z3x:=zh zGj (zh zGi (zh zIY (zh zT2 (zh zIW (zh zOT zlW)))))
def interrupted (g:Guest):Guest:=bif zhD g then saw { g with Pending:=zi0 g.Pending } (zG .i64 100 (zsw g.Pending)) else g
@[simp] theorem zVT {g:Guest}(h:SmG g):SmG (interrupted g):=by
 unfold interrupted;cases zhD g
 .exact h
 .exact zMR (g:={ g with Pending:=zi0 g.Pending }) _ h
@[simp] abbrev znK (g:Guest):Bool:=pc (SmG g)
@[simp] abbrev ziO (g:Guest):Guest:=interrupted g
def zq3:Run:=rF1 (dT .guest) fun b=>(znK b,[aT .guest (ziO b)])
def ztv (N:Nat)(a0:Guest):OA:=
 let y1:=(zG .i64 100 (zjb a0.Pending));let y0:=({ a0 with Pending:=(zja a0.Pending) }:Guest); (oN (znR a0) (cond (nB (zkP a0)) (oN (zc6 a0) (some [(aT .guest (zcI a0))])) (oN (zpF a0.Pending) (oN (zCS y0 y1) (some [(aT .guest (zyh y0 y1))])))))
theorem zDE (a0:Guest)(hc:znK a0=true):∃N,ztv N a0=some [aT .guest (ziO a0)]:=by
 have hs:=zD.1 hc;have hz:_/\_/\_/\_:=hs
 refine ⟨0,?_⟩;unfold ztv oN nB
 conv=>zeta
 refine must rfl (brN (fun _=>mu ?_) (fun _=>must rfl (mu ?_)))
 all_goals first|rfl|(simp only [*,ziO,interrupted,cT,cF]<;>rfl)|simp_all[Ty.cells,ziO,interrupted]
theorem zzL:vF 253 zq3:=kF1 zif zq zn zu (zo []) zDE
def zwj (o:Int):Int:=bif ieq o 3 then 3 else (cond (ieq o 4) 4 (cond (ieq o 5) 5 (cond (ieq o 6) 6 (cond (ieq o 7) 7 2))))
def zQ (g:Guest):Int:=bif canRun g then (cond (zhD g) 1 (zwj (zce g.Prog g.Pc).Op)) else 0
@[simp] abbrev zes (g:Guest):Bool:=true
@[simp] abbrev zmf (g:Guest):Int:=zQ g
def zBY:Run:=rF1 (dT .guest) fun b=>(zes b,[aI (zmf b)])
def zHT (N:Nat)(a0:Guest):OA:=
 let y0:=(zfk a0.Prog a0.Pc).Op; (oN (zro a0) (cond (nB (zoI a0)) (some [(aI 0)]) (oN (znR a0) (cond (zkP a0) (some [(aI 1)]) (oN (ze5 a0.Prog a0.Pc) (cond (ieq y0 3) (some [(aI 3)]) (cond (ieq y0 4) (some [(aI 4)]) (cond (ieq y0 5) (some [(aI 5)]) (cond (ieq y0 6) (some [(aI 6)]) (cond (ieq y0 7) (some [(aI 7)]) (some [(aI 2)])))))))))))
theorem zR2 (a0:Guest)(hc:zes a0=true):∃N,zHT N a0=some [aI (zmf a0)]:=by
 refine ⟨0,?_⟩;unfold zHT oN nB
 conv=>zeta
 refine must rfl (brN (fun _=>?_) (fun _=>must rfl (br (fun _=>?_) (fun _=>must rfl (br (fun _=>?_) (fun _=>br (fun _=>?_) (fun _=>br (fun _=>?_) (fun _=>br (fun _=>?_) (fun _=>br (fun _=>?_) (fun _=>?_))))))))))
 all_goals first|rfl|(simp only [*,zmf,zQ,zwj,cT,cF]<;>rfl)|simp_all[Ty.cells,zmf,zQ,zwj]
theorem zb3:vF 252 zBY:=kF1 zif zq zn zu (zo []) zR2
def held (g:Guest):Guest:=zbW { g with Halted:=true }
@[simp] theorem zSX {g:Guest}(h:SmG g):SmG (held g):=zj8 (g:={ g with Halted:=true }) h
@[simp] abbrev zmc (g:Guest):Bool:=pc (SmG g)
@[simp] abbrev zwZ (g:Guest):Guest:=held g
def zKa:Run:=rF1 (dT .guest) fun b=>(zmc b,[aT .guest (zwZ b)])
def zQp (N:Nat)(a0:Guest):OA:=
 let y0:=({ a0 with Halted:=true }:Guest); (oN (zdR y0) (some [(aT .guest (zfP y0))]))
theorem zXd (a0:Guest)(hc:zmc a0=true):∃N,zQp N a0=some [aT .guest (zwZ a0)]:=by
 have hs:=zD.1 hc;have hz:_/\_/\_/\_:=hs
 refine ⟨0,?_⟩;unfold zQp oN
 conv=>zeta
 refine mu ?_
 first|rfl|(simp only [*,zwZ,held,cT,cF]<;>rfl)|simp_all[Ty.cells,zwZ,held]
theorem zRe:vF 309 zKa:=kF1 zif zq zn zu (zo []) zXd
@[simp] abbrev zyi (g:Guest):Bool:=pc (SmG g)
@[simp] abbrev zs8 (g:Guest):Guest:=zbW g
def zBV:Run:=rF1 (dT .guest) fun b=>(zyi b,[aT .guest (zs8 b)])
def zHQ (N:Nat)(a0:Guest):OA:=
 (oN (zdR a0) (some [(aT .guest (zfP a0))]))
theorem zRZ (a0:Guest)(hc:zyi a0=true):∃N,zHQ N a0=some [aT .guest (zs8 a0)]:=by
 have hs:=zD.1 hc;refine ⟨0,?_⟩;unfold zHQ oN;refine mu ?_
 first|rfl|(simp only [*,zs8,cT,cF]<;>rfl)|simp_all[Ty.cells,zs8]
theorem zLC:vF 302 zBV:=kF1 zif zq zn zu (zo []) zRZ
def loaded (g:Guest)(v:Int):Guest:=zbW (saw { g with A:=v } v)
@[simp] theorem zKm {g:Guest}(v:Int)(h:SmG g):SmG (loaded g v):=zj8 (zMR (g:={ g with A:=v }) v h)
@[simp] abbrev zx9 (g:Guest)(v:Int):Bool:=pc (SmG g)
@[simp] abbrev zs5 (g:Guest)(v:Int):Guest:=loaded g v
def zBJ:Run:=rF2 (dT .guest) dI fun b c=>(zx9 b c,[aT .guest (zs5 b c)])
def zHF (N:Nat)(a0:Guest)(a1:Int):OA:=
 let y0:=({ a0 with A:=a1 }:Guest); (oN (zCS y0 a1) (oN (zdR (zyh y0 a1)) (some [(aT .guest (zfP (zyh y0 a1)))])))
theorem zRM (a0:Guest)(a1:Int)(hc:zx9 a0 a1=true):∃N,zHF N a0 a1=some [aT .guest (zs5 a0 a1)]:=by
 have hs:=zD.1 hc;have hz:_/\_/\_/\_:=hs;have hk:SmG (saw { a0 with A:=a1 } a1):=zMR (g:={ a0 with A:=a1 }) a1 hs
 refine ⟨0,?_⟩;unfold zHF oN
 conv=>zeta
 refine mu (mu ?_)
 first|rfl|(simp only [*,zs5,loaded,cT,cF]<;>rfl)|simp_all[Ty.cells,zs5,loaded]
theorem zLq:vF 303 zBJ:=kF2 zif zq zn zu (zo []) zRM
def zV9 (g:Guest)(w:Int):Guest:=bif ieq w 5 then stopped g (zwk (zce g.Prog g.Pc).X) else stopped g ⟨4,0,false,0⟩
@[simp] theorem z6Y {g:Guest}(w:Int)(h:SmG g):SmG (zV9 g w):=by
 unfold zV9;cases ieq w 5<;>exact h
def zcX (g:Guest):Bool:=zcT g.Prog&&(win g.A 0 99&&(win g.Pc 0 12&&(zcn g.Written 4 8&&(zcn g.Live 4 8&&(zgL g.Ctl&&(zcN g.Pending&&(zgC g.Exit&&ile (ln g.Seen) 40)))))))
@[simp] abbrev zlq (g:Guest):Bool:=true
@[simp] abbrev zjV (g:Guest):Bool:=zcX g
def zy2:Run:=rF1 (dT .guest) fun b=>(zlq b,[aB (zjV b)])
def zD1 (N:Nat)(a0:Guest):OA:=
 (oN (zyg a0.Prog) (cond (zmd a0.Prog) (oN (zI a0.A 0 99) (cond (zL a0.A 0 99) (oN (zI a0.Pc 0 12) (cond (zL a0.Pc 0 12) (oN (zlu a0.Written 4 8) (cond (zhf a0.Written 4 8) (oN (zlu a0.Live 4 8) (cond (zhf a0.Live 4 8) (oN (zqb a0.Ctl) (cond (zoK a0.Ctl) (oN (zeR a0.Pending) (cond (zeQ a0.Pending) (oN (zx8 a0.Exit) (cond (zsV a0.Exit) (some [(aB (ile (ln a0.Seen) 40))]) oF)) oF)) oF)) oF)) oF)) oF)) oF)) oF))
theorem zPd (a0:Guest)(hc:zlq a0=true):∃N,zD1 N a0=some [aB (zjV a0)]:=by
 refine ⟨0,?_⟩;unfold zD1 oN;refine must rfl (br (fun _=>must rfl (br (fun _=>must rfl (br (fun _=>must rfl (br (fun _=>must rfl (br (fun _=>must rfl (br (fun _=>must rfl (br (fun _=>must rfl (br (fun _=>?_) (fun _=>?_))) (fun _=>?_))) (fun _=>?_))) (fun _=>?_))) (fun _=>?_))) (fun _=>?_))) (fun _=>?_))) (fun _=>?_))
 all_goals first|rfl|(simp only [*,zjV,zcX,cT,cF]<;>rfl)|simp_all[Ty.cells,zjV,zcX]
theorem zIH:vF 214 zy2:=kF1 zif zq zn zu (zo []) zPd
@[simp] abbrev zpb (g:Guest):Bool:=true
@[simp] abbrev zmq (g:Guest):Bool:=zcX g
def zyW:Run:=rF1 (dT .guest) fun b=>(zpb b,[aB (zmq b)])
def zDR (N:Nat)(a0:Guest):OA:=
 (oN (zxJ a0.Prog) (cond (zl1 a0.Prog) (oN (zbO a0.A 0 99) (cond (zb0 a0.A 0 99) (oN (zbO a0.Pc 0 12) (cond (zb0 a0.Pc 0 12) (oN (zle a0.Written 4 8) (cond (zg7 a0.Written 4 8) (oN (zle a0.Live 4 8) (cond (zg7 a0.Live 4 8) (oN (zAX a0.Ctl) (cond (zv8 a0.Ctl) (oN (zre a0.Pending) (cond (zom a0.Pending) (oN (zxC a0.Exit) (cond (zsk a0.Exit) (some [(aB (ile (ln a0.Seen) 40))]) oF)) oF)) oF)) oF)) oF)) oF)) oF)) oF))
theorem zO3 (a0:Guest)(hc:zpb a0=true):∃N,zDR N a0=some [aB (zmq a0)]:=by
 refine ⟨0,?_⟩;unfold zDR oN;refine must rfl (br (fun _=>must rfl (br (fun _=>must rfl (br (fun _=>must rfl (br (fun _=>must rfl (br (fun _=>must rfl (br (fun _=>must rfl (br (fun _=>must rfl (br (fun _=>?_) (fun _=>?_))) (fun _=>?_))) (fun _=>?_))) (fun _=>?_))) (fun _=>?_))) (fun _=>?_))) (fun _=>?_))) (fun _=>?_))
 all_goals first|rfl|(simp only [*,zmq,zcX,cT,cF]<;>rfl)|simp_all[Ty.cells,zmq,zcX]
theorem zIB:vF 168 zyW:=kF1 zif zq zn zu (zo []) zO3
@[simp] abbrev zkq (l:List Guest):Bool:=pc (zlS l)
@[simp] abbrev zjD (l:List Guest):List Guest:=l
def zsG:Run:=rF1 (dS .guest) fun b=>(zkq b,[aS .guest (zjD b)])
def zvF (N:Nat)(a0:lG):OA:=
 (iter (σ:=(Int×(Int×(lG×(lG×Unit))))) N (fun r2 s3=>let y0:=(ix s3.2.2.2.1 s3.2.1 zx); (cond (ilt s3.2.1 s3.1) (oN (inb s3.2.1 (ln s3.2.2.2.1)) (oN (ziJ y0) (oN (few (ln (ap s3.2.2.1 [(zfo y0)]))) (r2 (s3.1,((zG .i64 s3.2.1 1),((ap s3.2.2.1 [(zfo y0)]),(s3.2.2.2.1,())))))))) (some [(aS .guest s3.2.2.1)]))) ((ln a0),(0,([],(a0,())))))
def zG7:FuncId->Nat->Option Tmpl:=zo [(172,0,{ n:=20,tm:=[(3,.sl 0 []),(7,.sl 1 []),(8,ti),(9,ti)],lo:=[],ro:=[(0,.guest,true),(1,.guest,false)] })]
theorem zGA (a0:List Guest)(hc:zkq a0=true):∃N,zvF N a0=some [aS .guest (zjD a0)]:=by
 have hs:=zD.1 hc;have hl:=zcP hs.1;refine zcd fun N hNN=>?_;unfold zvF oN
 conv=>zeta
 refine (zZ a0 (fun i (t:lG)=>((ln a0),(i:Int),t,a0,())) _ (fun _ x acc κ=>bif ziJ x then (cond (few (ln (ap acc [zfo x]))) (κ (ap acc [zfo x])) none) else none) (fun (t:lG)=>(some [(.one (.s .guest t))])) (fun i hi t rec=>?_) (fun t rec=>?_) _ ([]) (hNN hl.1)).trans ?_
 .simp only [zbo hi,zS hi,zbc hi,zV hi hl.1,cT]
 .simp only [zbg,cF]
 exact zic ziJ zfo _ a0 0 [] (fun x hx=>⟨by exact zbi (hs.2 x hx),rfl⟩) (by simpa using hl.2)
theorem zAM:vF 172 zsG:=kF1 zif zq zn zu zG7 zGA
def gAt (b:Bare)(i:Int):Guest:=bif hasB i (ln b.Guests) then ix b.Guests i zx else Ty.dflt .guest
@[simp] theorem ziU {b:Bare}(i:Int)(h:SmB b):SmG (gAt b i):=by
 unfold gAt;cases hh:hasB i (ln b.Guests)
 .exact z7v
 .exact z0g h.2.1 hh _
def z3y:zO:=[(253,zq3),(252,zBY),(309,zKa),(302,zBV),(303,zBJ),(214,zy2),(168,zyW),(172,zsG)]++z3x
theorem zoe:zF z3y:=zh zzL (zh zb3 (zh zRe (zh zLC (zh zLq (zh zIH (zh zIB (zh zAM zif)))))))
def plainly (g:Guest):Guest:=bif ine (zQ g) 2 then g else (cond (win g.A 0 99) (cond (win (zce g.Prog g.Pc).X 0 99) (cond (ieq (zce g.Prog g.Pc).Op 1) { zbW g with A:=(zce g.Prog g.Pc).X } (cond (ieq (zce g.Prog g.Pc).Op 2) { zbW g with A:=zfM (zG .i64 g.A (zce g.Prog g.Pc).X) 100 } (cond (ieq (zce g.Prog g.Pc).Op 8) (cond (ieq g.A 0) { zbW g with Pc:=(zce g.Prog g.Pc).X } (zbW g)) (zbW g)))) (zbW g)) (zbW g))
@[simp] theorem z7o (g:Guest):(zbW g).Prog=g.Prog:=by
 unfold zbW;cases ige g.Pc 12<;>rfl
@[simp] theorem z7V (g:Guest):(zbW g).A=g.A:=by
 unfold zbW;cases ige g.Pc 12<;>rfl
@[simp] theorem z5T (g:Guest):(zbW g).Written=g.Written:=by
 unfold zbW;cases ige g.Pc 12<;>rfl
@[simp] theorem z7n (g:Guest):(zbW g).Live=g.Live:=by
 unfold zbW;cases ige g.Pc 12<;>rfl
@[simp] theorem z7F (g:Guest):(zbW g).Ctl=g.Ctl:=by
 unfold zbW;cases ige g.Pc 12<;>rfl
@[simp] theorem z5S (g:Guest):(zbW g).Pending=g.Pending:=by
 unfold zbW;cases ige g.Pc 12<;>rfl
@[simp] theorem z7m (g:Guest):(zbW g).Exit=g.Exit:=by
 unfold zbW;cases ige g.Pc 12<;>rfl
@[simp] theorem z6I (g:Guest):(zbW g).Halted=g.Halted:=by
 unfold zbW;cases ige g.Pc 12<;>rfl
@[simp] theorem z7p (g:Guest):(zbW g).Seen=g.Seen:=by
 unfold zbW;cases ige g.Pc 12<;>rfl
@[simp] theorem z7G (g:Guest)(x:Int):(zbW { g with A:=x }).Pc=(zbW g).Pc:=by
 unfold zbW;cases ige g.Pc 12<;>rfl
@[simp] theorem zFe {g:Guest}(h:SmG g):SmG (plainly g):=by
 have hm:=zj8 h;unfold plainly;cases ine (zQ g) 2
 .cases win g.A 0 99
  .exact hm
  .cases win (zce g.Prog g.Pc).X 0 99
   .exact hm
   .cases ieq (zce g.Prog g.Pc).Op 1
    .cases ieq (zce g.Prog g.Pc).Op 2
     .cases ieq (zce g.Prog g.Pc).Op 8
      .exact hm
      .cases ieq g.A 0<;>exact hm
     .exact hm
    .exact hm
 .exact h
@[simp] abbrev zvs (g:Guest):Bool:=pc (SmG g)
@[simp] abbrev zqf (g:Guest):Guest:=plainly g
def zzf:Run:=rF1 (dT .guest) fun b=>(zvs b,[aT .guest (zqf b)])
def zEd (N:Nat)(a0:Guest):OA:=
 let y7:=(ieq a0.A 0);let y5:=(zdR a0);let y1:=(aT .guest (zfP a0));let y0:=(zfk a0.Prog a0.Pc);let y8:=({ a0 with A:=y0.X }:Guest);let y6:=(ieq y0.Op 8);let y4:=(zL y0.X 0 99);let y3:=(aT .guest ({ (zcI a0) with Pc:=y0.X }:Guest));let y2:=({ a0 with A:=(zfM (zG .i64 a0.A y0.X) 100) }:Guest); (oN (zes a0) (cond (ine (zmf a0) 2) (oN (zc6 a0) (some [(aT .guest (zcI a0))])) (oN (ze5 a0.Prog a0.Pc) (oN (zI a0.A 0 99) (cond (zL a0.A 0 99) (oN (zI y0.X 0 99) (cond y4 (cond (ieq y0.Op 1) (oN (zdR y8) (some [(aT .guest (zfP y8))])) (cond y4 (cond (ieq y0.Op 2) (oN (ine 100 0) (oN (zdR y2) (some [(aT .guest (zfP y2))]))) (cond y4 (cond y6 (cond y7 (oN (zc6 a0) (some [y3])) (oN y5 (some [y1]))) (oN y5 (some [y1]))) (oN y5 (some [y1])))) (cond y4 (cond y6 (cond y7 (oN (zc6 a0) (some [y3])) (oN y5 (some [y1]))) (oN y5 (some [y1]))) (oN y5 (some [y1]))))) (cond y4 (cond (ieq y0.Op 2) (oN (ine 100 0) (oN (zdR y2) (some [(aT .guest (zfP y2))]))) (cond y4 (cond y6 (cond y7 (oN (zc6 a0) (some [y3])) (oN y5 (some [y1]))) (oN y5 (some [y1]))) (oN y5 (some [y1])))) (cond y4 (cond y6 (cond y7 (oN (zc6 a0) (some [y3])) (oN y5 (some [y1]))) (oN y5 (some [y1]))) (oN y5 (some [y1])))))) (oN y5 (some [y1])))))))
theorem zPq (a0:Guest)(hc:zvs a0=true):∃N,zEd N a0=some [aT .guest (zqf a0)]:=by
 have hs:=zD.1 hc;have hz:_/\_/\_/\_:=hs
 refine ⟨0,?_⟩;unfold zEd oN
 conv=>zeta
 refine must rfl (br (fun _=>mu ?_) (fun _=>must rfl (must rfl (br (fun _=>must rfl (br (fun _=>br (fun _=>mu ?_) (fun _=>br (fun _=>br (fun _=>must rfl (mu ?_)) (fun _=>br (fun _=>br (fun _=>br (fun _=>mu ?_) (fun _=>mu ?_)) (fun _=>mu ?_)) (fun _=>mu ?_))) (fun _=>br (fun _=>br (fun _=>br (fun _=>mu ?_) (fun _=>mu ?_)) (fun _=>mu ?_)) (fun _=>mu ?_)))) (fun _=>br (fun _=>br (fun _=>must rfl (mu ?_)) (fun _=>br (fun _=>br (fun _=>br (fun _=>mu ?_) (fun _=>mu ?_)) (fun _=>mu ?_)) (fun _=>mu ?_))) (fun _=>br (fun _=>br (fun _=>br (fun _=>mu ?_) (fun _=>mu ?_)) (fun _=>mu ?_)) (fun _=>mu ?_))))) (fun _=>mu ?_)))))
 all_goals first|rfl|(simp only [*,zqf,plainly,cT,cF]<;>rfl)|simp_all[Ty.cells,zqf,plainly]
theorem zIU:vF 254 zzf:=kF1 zoe zq zn zu (zo []) zPq
def address (g:Guest):Int:=bif ine (zQ g) 3 then (cond (ine (zQ g) 4) (-1) ((zce g.Prog g.Pc).X)) else (zce g.Prog g.Pc).X
@[simp] abbrev zpm (g:Guest):Bool:=true
@[simp] abbrev zh6 (g:Guest):Int:=address g
def zy1:Run:=rF1 (dT .guest) fun b=>(zpm b,[aI (zh6 b)])
def zDW (N:Nat)(a0:Guest):OA:=
 (oN (zes a0) (cond (ine (zmf a0) 3) (cond (ine (zmf a0) 4) (some [(aI (-1))]) (oN (ze5 a0.Prog a0.Pc) (some [(aI (zfk a0.Prog a0.Pc).X)]))) (oN (ze5 a0.Prog a0.Pc) (some [(aI (zfk a0.Prog a0.Pc).X)]))))
theorem zO8 (a0:Guest)(hc:zpm a0=true):∃N,zDW N a0=some [aI (zh6 a0)]:=by
 refine ⟨0,?_⟩;unfold zDW oN;refine must rfl (br (fun _=>br (fun _=>?_) (fun _=>must rfl ?_)) (fun _=>must rfl ?_))
 all_goals first|rfl|(simp only [*,zh6,address,cT,cF]<;>rfl)|simp_all[Ty.cells,zh6,address]
theorem zIG:vF 298 zy1:=kF1 zoe zq zn zu (zo []) zO8
def ziD (g:Guest)(t w:Int):Guest:=bif ieq w 6 then stopped g (zxf (zce g.Prog g.Pc).X) else (cond (ieq w 5&&zgo t 1) (stopped g (zwk (zce g.Prog g.Pc).X)) (cond (ieq w 7&&zgo t 2) (stopped g ⟨4,0,false,0⟩) (cond (ieq w 7) (held g) (zbW g))))
def zjl (t w:Int):Bool:=bif ieq w 6 then false else (cond (ieq w 5&&zgo t 1) false (cond (ieq w 7&&zgo t 2) false true))
@[simp] theorem zCh {g:Guest}(t w:Int)(h:SmG g):SmG (ziD g t w):=by
 unfold ziD;cases ieq w 6
 .cases (ieq w 5&&zgo t 1)
  .cases (ieq w 7&&zgo t 2)
   .cases ieq w 7
    .exact zj8 h
    .exact zSX h
   .exact h
  .exact h
 .exact h
@[simp] abbrev zdF (g:Guest)(t w:Int):Bool:=pc (SmG g)
@[simp] abbrev zb1 (g:Guest)(t w:Int):Guest:=ziD g t w
@[simp] abbrev zc7 (g:Guest)(t w:Int):Bool:=zjl t w
def zzo:Run:=rF3 (dT .guest) dI dI fun b c d=>(zdF b c d,[aT .guest (zb1 b c d),aB (zc7 b c d)])
def zEm (N:Nat)(a0:Guest)(a1 a2:Int):OA:=
 let y3:=(aT .guest (zfP a0));let y2:=(aT .guest (zwZ a0));let y1:=(⟨4,0,false,0⟩:GExit);let y0:=(zfk a0.Prog a0.Pc).X; (oN (ze5 a0.Prog a0.Pc) (cond (ieq a2 6) (oN (zsU y0) (oN (zdW a0 (zkD y0)) (some [(aT .guest (zds a0 (zkD y0))),(aB false)]))) (cond (ieq a2 5) (oN (zhx a1 1) (cond (zhd a1 1) (oN (zvq y0) (oN (zdW a0 (zmw y0)) (some [(aT .guest (zds a0 (zmw y0))),(aB false)]))) (cond (ieq a2 7) (oN (zhx a1 2) (cond (zhd a1 2) (oN (zdW a0 y1) (some [(aT .guest (zds a0 y1)),(aB false)])) (cond (ieq a2 7) (oN (zmc a0) (some [y2,(aB true)])) (oN (zdR a0) (some [y3,(aB true)]))))) (cond (ieq a2 7) (oN (zmc a0) (some [y2,(aB true)])) (oN (zdR a0) (some [y3,(aB true)])))))) (cond (ieq a2 7) (oN (zhx a1 2) (cond (zhd a1 2) (oN (zdW a0 y1) (some [(aT .guest (zds a0 y1)),(aB false)])) (cond (ieq a2 7) (oN (zmc a0) (some [y2,(aB true)])) (oN (zdR a0) (some [y3,(aB true)]))))) (cond (ieq a2 7) (oN (zmc a0) (some [y2,(aB true)])) (oN (zdR a0) (some [y3,(aB true)])))))))
theorem zPC (a0:Guest)(a1 a2:Int)(hc:zdF a0 a1 a2=true):∃N,zEm N a0 a1 a2=some [aT .guest (zb1 a0 a1 a2),aB (zc7 a0 a1 a2)]:=by
 have hs:=zD.1 hc;refine ⟨0,?_⟩;unfold zEm oN
 conv=>zeta
 refine must rfl (br (fun _=>must rfl (mu ?_)) (fun _=>br (fun _=>must rfl (br (fun _=>must rfl (mu ?_)) (fun _=>br (fun _=>must rfl (br (fun _=>mu ?_) (fun _=>br (fun _=>mu ?_) (fun _=>mu ?_)))) (fun _=>br (fun _=>mu ?_) (fun _=>mu ?_))))) (fun _=>br (fun _=>must rfl (br (fun _=>mu ?_) (fun _=>br (fun _=>mu ?_) (fun _=>mu ?_)))) (fun _=>br (fun _=>mu ?_) (fun _=>mu ?_)))))
 all_goals first|rfl|(simp only [*,zb1,zc7,ziD,zjl,cT,cF]<;>rfl)|simp_all[Ty.cells,zb1,zc7,ziD,zjl]
theorem zI6:vF 305 zzo:=kF3 zoe zq zn zu (zo []) zPC
def zbU (b:Bare):Bool:=bif b.Guests.all zcX then (zgM b.Memory 8&&(win (ln b.Guests) 1 2&&(ile (ln b.Outs) 40&&zcN b.Pending))) else false
@[simp] abbrev znw (b:Bare):Bool:=true
@[simp] abbrev zeu (b:Bare):Bool:=zbU b
def zBC:Run:=rF1 (dT .bare) fun b=>(znw b,[aB (zeu b)])
def zHx (N:Nat)(a0:Bare):OA:=
 (iter (σ:=(Int×(Int×(lM×(lG×((List Int)×Unit)))))) N (fun r2 s3=>let y0:=s3.2.2.2.1; (cond (ilt s3.1 (ln y0)) (oN (inb s3.1 (ln y0)) (oN (zlq (ix y0 s3.1 zx)) (cond (nB (zjV (ix y0 s3.1 zx))) oF (r2 ((zG .i64 s3.1 1),(s3.2.1,(s3.2.2.1,(y0,(s3.2.2.2.2.1,()))))))))) (oN (zqd s3.2.2.1 8) (cond (zkN s3.2.2.1 8) (oN (zI (ln y0) 1 2) (cond (zL (ln y0) 1 2) (cond (ile (ln s3.2.2.2.2.1) 40) (oN (zeR s3.2.1) (some [(aB (zeQ s3.2.1))])) oF) oF)) oF)))) (0,(a0.Pending,(a0.Memory,(a0.Guests,(a0.Outs,()))))))
def zTm:FuncId->Nat->Option Tmpl:=zo [(312,0,{ n:=38,tm:=[(1,.lp 0 0),(3,ti)],lo:=[(0,[.sl 0 [],.sl 1 [],.sl 2 [],ti])],ro:=[(0,(.sl .int),false),(1,.guest,false),(2,.int,false)] })]
theorem zRE (a0:Bare)(hb:zbE big [aT .bare a0])(hc:znw a0=true):∃N,zHx N a0=some [aB (zeu a0)]:=by
 have hl:(_:List _).length<=big:=((zcm hb).1 (.s .guest a0.Guests) (by simp[AV.cvs,Ty.cells])).len
 refine zcd fun N hNN=>?_;unfold zHx oN nB
 conv=>zeta
 refine (zZ a0.Guests (fun i (t:Unit)=>((i:Int),a0.Pending,a0.Memory,a0.Guests,a0.Outs,())) _ (fun _ x (_:Unit) κ=>bif (zcX) x then κ () else oF) (fun (t:Unit)=>(cond (zqd a0.Memory 8) (cond (zkN a0.Memory 8) (cond (zI (ln a0.Guests) 1 2) (cond (zL (ln a0.Guests) 1 2) (cond (ile (ln a0.Outs) 40) (cond (zeR a0.Pending) (some [(.one (.b (zeQ a0.Pending)))]) none) oF) oF) none) oF) none)) (fun i hi t rec=>?_) (fun t rec=>?_) _ () (hNN hl)).trans ?_
 .simp only [zbo hi,zS hi,zbc hi,zV hi hl,cT];exact zib rfl
 .simp only [zbg,cF]
 rw[zfd (zcX)];refine br (fun h0=>?_) (fun h0=>?_)
 .refine must rfl ?_;refine br (fun h1=>?_) (fun h1=>?_)
  .refine must rfl ?_;refine br (fun h2=>?_) (fun h2=>?_)
   .refine br (fun h3=>?_) (fun h3=>?_)
    .refine must rfl ?_
     first|rfl|(simp only [h0,h1,h2,h3,zeu,zbU,cT,cF]<;>rfl)|(simp_all [Ty.cells,zeu,zbU];done)
    .first|rfl|(simp only [h0,h1,h2,h3,zeu,zbU,cT,cF]<;>rfl)|(simp_all [Ty.cells,zeu,zbU];done)
   .first|rfl|(simp only [h0,h1,h2,zeu,zbU,cT,cF]<;>rfl)|(simp_all [Ty.cells,zeu,zbU];done)
  .first|rfl|(simp only [h0,h1,zeu,zbU,cT,cF]<;>rfl)|(simp_all [Ty.cells,zeu,zbU];done)
 .first|rfl|(simp only [h0,zeu,zbU,cT,cF]<;>rfl)|(simp_all [Ty.cells,zeu,zbU];done)
theorem zLj:vF 312 zBC:=hF1 zoe zq zn zu zTm zRE
@[simp] abbrev zeE (b:Bare):Bool:=pc (SmB b)
@[simp] abbrev zb9 (b:Bare):Bare:=b
def zzn:Run:=rF1 (dT .bare) fun b=>(zeE b,[aT .bare (zb9 b)])
def zEl (N:Nat)(a0:Bare):OA:=
 (oN (zfs a0.Memory) (oN (ze7 a0.Guests) (oN (few (ln (ap [] a0.Outs))) (some [(aT .bare (⟨(zed a0.Memory),(zfv a0.Guests),(ap [] a0.Outs),a0.Pending⟩:Bare))]))))
theorem zPB (a0:Bare)(hc:zeE a0=true):∃N,zEl N a0=some [aT .bare (zb9 a0)]:=by
 have hs:=zD.1 hc;have hz:_/\_/\_:=hs
 refine ⟨0,?_⟩;unfold zEl oN;refine mu (mu (mu ?_))
 first|rfl|(simp only [*,zb9,cT,cF]<;>rfl)|simp_all[Ty.cells,zb9]
theorem zI5:vF 306 zzn:=kF1 zoe zq zn zu (zo []) zPB
def z3z:zO:=[(254,zzf),(298,zy1),(305,zzo),(312,zBC),(306,zzn)]++z3y
theorem z1f:zF z3z:=zh zIU (zh zIG (zh zI6 (zh zLj (zh zI5 zoe))))
def zd3 (b:Bare)(i:Int)(x:Guest):Bare:={ b with Guests:=up b.Guests i x }
def znj (b:Bare)(n:Int):Bare:=bif ilt (ln b.Outs) 40 then { b with Outs:=ap b.Outs [n] } else b
@[simp] theorem zmi {b:Bare}{i:Int}{x:Guest}(h:SmB b)(hx:SmG x):SmB (zd3 b i x):=⟨h.1,zCV h.2.1 hx,h.2.2⟩
@[simp] theorem zXW {b:Bare}{n:Int}(h:SmB b):SmB (znj b n):=by
 unfold znj;cases h1:ilt (ln b.Outs) 40
 .exact h
 .have:=qE h1;refine ⟨h.1,h.2.1,?_⟩;simp[ln] at *;omega
@[simp] theorem z7P (b:Bare)(n:Int):(znj b n).Guests=b.Guests:=by
 unfold znj;cases ilt (ln b.Outs) 40<;>rfl
@[simp] theorem zyr {m:List (List Int)}{p c v:Int}(h:SmM m):SmM (zbz m p c v):=by
 unfold zbz;cases h1:zg9 m p c
 .exact h
 .cases h2:win v 0 99
  .exact h
  .exact zKo h (by simpa using z6Q h ((zxX m p c).1 h1).1 [])
def zWw:zO:=z3z
theorem zr6:zF zWw:=z1f
def zmD (b:Bare)(g:Int)(x:Guest)(w:Bool):Bare :=
 bif zdn x.Live (zbb (address x)) (zbX w) then
  (bif w then zd3 { b with Memory:=zbz b.Memory (zbQ x.Live (zbb (address x)) (zbX w)) (zcU (address x)) x.A } g (zbW x)
  else zd3 b g (loaded x (cellAt b.Memory (zbQ x.Live (zbb (address x)) (zbX w)) (zcU (address x)))))
 else zd3 b g (stopped x (zpV (zbb (address x)) w))
def zCW (b:Bare)(g:Int)(x:Guest)(w:Int):Bare :=
 zd3 (cond (cond (zjl x.Ctl.Traps w) (ieq w 5) false) (znj b (zce x.Prog x.Pc).X) b) g (ziD x x.Ctl.Traps w)
def stepped (b:Bare)(g:Int)(x:Guest)(w:Int):Bare :=
 bif ieq w 1 then zd3 b g (interrupted x) else (cond (ieq w 2) (zd3 b g (plainly x)) (cond (ieq w 3) (zmD b g x false) (cond (ieq w 4) (zmD b g x true) (zCW b g x w))))
def zkg (b:Bare)(g:Int):Bool:=bif hasB g (ln b.Guests) then (cond (zbU b) (!ieq (zQ (gAt b g)) 0) false) else false
def zhm (b:Bare)(g:Int):Bare:=bif zkg b g then stepped b g (gAt b g) (zQ (gAt b g)) else b
@[simp] theorem zVS {b:Bare}{g:Int}{x:Guest}{w:Bool}(h:SmB b)(hx:SmG x):SmB (zmD b g x w):=by
 unfold zmD;cases zdn x.Live (zbb (address x)) (zbX w)
 .exact zmi h hx
 .cases w
  .exact zmi h (zKm _ hx)
  .exact ⟨zyr h.1,zCV h.2.1 (zj8 hx),h.2.2⟩
@[simp] theorem z5M {b:Bare}{g:Int}{x:Guest}{w:Int}(h:SmB b)(hx:SmG x):SmB (zCW b g x w):=by
 unfold zCW;cases (cond (zjl x.Ctl.Traps w) (ieq w 5) false)
 .exact zmi h (zCh _ _ hx)
 .exact zmi (zXW h) (zCh _ _ hx)
@[simp] theorem zUY {b:Bare}{g:Int}{x:Guest}{w:Int}(h:SmB b)(hx:SmG x):SmB (stepped b g x w):=by
 unfold stepped;cases ieq w 1
 .cases ieq w 2
  .cases ieq w 3
   .cases ieq w 4
    .exact z5M h hx
    .exact zVS h hx
   .exact zVS h hx
  .exact zmi h (zFe hx)
 .exact zmi h (zVT hx)
@[simp] theorem z7R {b:Bare}{g:Int}(h:SmB b):SmB (zhm b g):=by
 unfold zhm;cases zkg b g
 .exact h
 .exact zUY h (ziU g h)
theorem z7A (x:Guest):ieq (zQ x) 0=false->ieq (zQ x) 1=false->ieq (zQ x) 2=false->ieq (zQ x) 3=false->ieq (zQ x) 4=false->ieq (zQ x) 5=false->ieq (zQ x) 6=false->ieq (zQ x) 7=true:=by
 unfold zQ zwj;cases canRun x
 .intro h;cases h
 .cases zhD x
  .simp only [cT,cF];generalize (zce x.Prog x.Pc).Op=o;cases ieq o 3<;>cases ieq o 4<;>cases ieq o 5<;>cases ieq o 6<;>cases ieq o 7<;>simp [ieq]
  .intro _ h;cases h
def SmK (k:Kept):Prop:=k.Known.length<=1048576/\k.Slots.length<=1048576
def zAl (l:List Kept):Prop:=l.length<=1048576/\∀x∈l,SmK x
def ze8 (m:Mon):Prop:=m.Outer.length<=1048576/\SmM m.Out/\m.Dirty.length<=1048576/\zlS m.Guests/\m.Outs.length<=1048576/\zAl m.Tables
def zpP (l:List Mon):Prop:=l.length<=1048576/\∀x∈l,ze8 x
def SmH (h:Host):Prop:=SmM h.Memory/\zpP h.Mons/\h.Buffer.length<=1048576/\h.IoBuffer.length<=1048576
@[simp] theorem zvQ (k:Kept):(∀c∈Ty.cells .kept k,CVB sm c)↔SmK k:=by simp[Ty.cells,SmK,z2q]
@[simp] theorem z1m (l:List Kept):CVB sm (.s .kept l)↔zAl l:=by rw[zkj];simp only[zvQ];rfl
@[simp] theorem zVf (m:Mon):(∀c∈Ty.cells .mon m,CVB sm c)↔ze8 m:=by
 simp only[Ty.cells,qG,qW,or_false,vB,forall_eq,zof,ztE,z1m,zWF,zTQ,zTP,z3L,and_true,true_and];rfl
@[simp] theorem z4S (l:List Mon):CVB sm (.s .mon l)↔zpP l:=by rw[zkj];simp only[zVf];rfl
@[simp] theorem zM (h:Host):zcb h↔SmH h:=by
 unfold zcb;simp only[zbd,qG,qW,or_false,vB,forall_eq,zof,z4S,zQT];rfl
theorem zbr {p:Prop}(h:p):pc p=true:=zbi h
theorem zw4 {l:List Kept}{i:Int}{x:Kept}(h:zAl l)(hx:SmK x):zAl (up l i x):=by
 refine ⟨by simpa using h.1,fun y hy=>?_⟩
 rcases qZ hy with hy|rfl
 .exact h.2 y hy
 .exact hx
theorem zia {l:List Mon}{i:Int}{x:Mon}(h:zpP l)(hx:ze8 x):zpP (up l i x):=by
 refine ⟨by simpa using h.1,fun y hy=>?_⟩
 rcases qZ hy with hy|rfl
 .exact h.2 y hy
 .exact hx
theorem zmn {α:Type}{l:List α}(h:l.length<=1048576):few (ln (ap [] l))=true:=by
 rw[zlb,z5a];omega
@[simp] abbrev zbC (h:Host):Bool:=pc (zcb h)
@[simp] abbrev zk (h:Host):Host:=h
def zqL:Run:=rF1 dH fun b=>(zbC b,[aH (zk b)])
def zEn (N:Nat)(a0:Host):OA:=
 (oN (zfs a0.Memory) (oN (few (ln (ap [] a0.Buffer))) (oN (few (ln (ap [] a0.IoBuffer))) (iter (σ:=(Int×(lM×(lN×(lE×(lE×(lM×(lN×(lE×(lE×(lM×(lN×(lE×(lE×Unit)))))))))))))) N (fun r2 s3=>let y2:=s3.2.2.2.2.2.2.2.2.2.2.2.2.1;let y1:=(ix s3.2.2.1 s3.1 zf);let y0:=(ap s3.2.2.2.2.2.2.2.2.2.2.1 [(zoT y1)]); (cond (ilt s3.1 (ln s3.2.2.1)) (oN (inb s3.1 (ln s3.2.2.1)) (oN (znX y1) (oN (few (ln y0)) (r2 ((zG .i64 s3.1 1),(s3.2.1,(s3.2.2.1,(s3.2.2.2.1,(s3.2.2.2.2.1,(s3.2.2.2.2.2.1,(s3.2.2.2.2.2.2.1,(s3.2.2.2.2.2.2.2.1,(s3.2.2.2.2.2.2.2.2.1,(s3.2.2.2.2.2.2.2.2.2.1,(y0,(s3.2.2.2.2.2.2.2.2.2.2.2.1,(y2,()))))))))))))))))) (some [(aH (⟨s3.2.2.2.2.2.2.2.2.2.1,s3.2.2.2.2.2.2.2.2.2.2.1,s3.2.2.2.2.2.2.2.2.2.2.2.1,y2⟩:Host))]))) (0,(a0.Memory,(a0.Mons,(a0.Buffer,(a0.IoBuffer,([],([],([],([],((zed a0.Memory),([],((ap [] a0.Buffer),((ap [] a0.IoBuffer),())))))))))))))))))
def zPZ:FuncId->Nat->Option Tmpl:=zo [(35,0,{ n:=36,tm:=[(1,.lp 0 0),(2,.lp 1 0),(3,.lp 2 0),(4,ti)],lo:=[(0,[.sl 0 [],.sl 1 [],.sl 2 [],.sl 3 []]),(1,[.sl 4 [],.sl 5 [],.sl 6 [],.sl 7 []]),(2,[.sl 8 [],.sl 9 [],.sl 10 [],.sl 11 []])],ro:=[(0,(.sl .int),false),(1,.mon,false),(2,.entry,false),(3,.entry,false),(4,(.sl .int),true),(5,.mon,true),(6,.entry,true),(7,.entry,true),(8,(.sl .int),true),(9,.mon,true),(10,.entry,true),(11,.entry,true)] })]
theorem zPD (a0:Host)(hc:zbC a0=true):∃N,zEn N a0=some [aH (zk a0)]:=by
 obtain ⟨h1,h2,h3,h4⟩:=(zM a0).1 (zD.1 hc);have hl:=zcP h2.1;refine zcd fun N hNN=>?_;unfold zEn oN
 conv=>zeta
 refine must (zbr ((zof _).2 h1)) (must (zmn h3) (must (zmn h4) ?_));refine (zZ a0.Mons (fun i (t:lN)=>((i:Int),a0.Memory,a0.Mons,a0.Buffer,a0.IoBuffer,[],[],[],[],(zed a0.Memory),t,(ap [] a0.Buffer),(ap [] a0.IoBuffer),())) _ (fun _ x acc κ=>bif znX x then (cond (few (ln (ap acc [zoT x]))) (κ (ap acc [zoT x])) none) else none) (fun (t:lN)=>(some [(.agg (zbd (⟨(zed a0.Memory),t,(ap [] a0.Buffer),(ap [] a0.IoBuffer)⟩:Host)))])) (fun i hi t rec=>?_) (fun t rec=>?_) _ ([]) (hNN hl.1)).trans ?_
 .simp only [zbo hi,zS hi,zbc hi,zV hi hl.1,cT]
 .simp only [zbg,cF]
 exact zic znX zoT _ a0.Mons 0 [] (fun x hx=>⟨zbr ((zVf x).2 (h2.2 x hx)),rfl⟩) (by simpa using hl.2)
theorem ztQ:vF 35 zqL:=kF1 zr6 zq zn zu zPZ zPD
@[simp] abbrev zfE (k:Kept):Bool:=pc (SmK k)
@[simp] abbrev zc2 (k:Kept):Kept:=k
def zww:Run:=rF1 (dT .kept) fun b=>(zfE b,[aT .kept (zc2 b)])
def zzU (N:Nat)(a0:Kept):OA:=
 (oN (few (ln (ap [] a0.Known))) (oN (zfW a0.Slots) (some [(aT .kept (⟨(ap [] a0.Known),(zeB a0.Slots)⟩:Kept))])))
theorem zL1 (a0:Kept)(hc:zfE a0=true):∃N,zzU N a0=some [aT .kept (zc2 a0)]:=by
 have hs:=zD.1 hc;obtain ⟨h1,h2⟩:=hs;have hs1:a0.Known.length<=2147483648:=(by omega);have hs2:a0.Slots.length<=2147483648:=(by omega)
 refine ⟨0,?_⟩;unfold zzU oN;refine mu (mu ?_)
 first|rfl|(simp only [*,zc2,cT,cF]<;>rfl)|simp_all[Ty.cells,zc2]
theorem zFX:vF 151 zww:=kF1 zr6 zq zn zu (zo []) zL1
def z3m:zO:=[(35,zqL),(151,zww)]++zWw
theorem zQN:zF z3m:=zh ztQ (zh zFX zr6)
@[simp] abbrev ziZ (m:Mon):Bool:=pc (ze8 m)
@[simp] abbrev zjE (m:Mon):Mon:=m
def zyZ:Run:=rF1 (dT .mon) fun b=>(ziZ b,[aT .mon (zjE b)])
def zDU (N:Nat)(a0:Mon):OA:=
 (oN (zfW a0.Outer) (oN (zhp a0.Out) (oN (few (ln (ap [] a0.Dirty))) (oN (zkq a0.Guests) (oN (zdA a0.Outs) (iter (σ:=(Int×(Int×(Int×(Int×(Int×(Int×(Int×(Int×(lK×(lK×(lS×(lM×(lB×(lG×((List Int)×(lS×(lM×(lB×(lG×((List Int)×(lK×Unit)))))))))))))))))))))) N (fun r2 s3=>let y5:=s3.2.2.2.2.2.2.2.2.2.2.2.2.1;let y4:=s3.2.2.2.2.2.2.2.2.2.2.2.2.2.1;let y3:=s3.2.2.2.2.2.2.2.2.2.2.2.2.2.2.1;let y2:=s3.2.2.2.2.2.2.2.2.1;let y1:=s3.2.2.2.2.2.2.2.2.2.1;let y0:=(ix y1 s3.2.1 zcK); (cond (ilt s3.2.1 s3.1) (oN (inb s3.2.1 (ln y1)) (oN (zfE y0) (oN (few (ln (ap y2 [(zc2 y0)]))) (r2 (s3.1,((zG .i64 s3.2.1 1),(s3.2.2.1,(s3.2.2.2.1,(s3.2.2.2.2.1,(s3.2.2.2.2.2.1,(s3.2.2.2.2.2.2.1,(s3.2.2.2.2.2.2.2.1,((ap y2 [(zc2 y0)]),(y1,(s3.2.2.2.2.2.2.2.2.2.2.1,(s3.2.2.2.2.2.2.2.2.2.2.2.1,(y5,(y4,(y3,(s3.2.2.2.2.2.2.2.2.2.2.2.2.2.2.2.1,(s3.2.2.2.2.2.2.2.2.2.2.2.2.2.2.2.2.1,(s3.2.2.2.2.2.2.2.2.2.2.2.2.2.2.2.2.2.1,(s3.2.2.2.2.2.2.2.2.2.2.2.2.2.2.2.2.2.2.1,(s3.2.2.2.2.2.2.2.2.2.2.2.2.2.2.2.2.2.2.2.1,(s3.2.2.2.2.2.2.2.2.2.2.2.2.2.2.2.2.2.2.2.2.1,()))))))))))))))))))))))))) (some [(aT .mon (⟨s3.2.2.2.2.2.2.2.2.2.2.1,s3.2.2.2.2.2.2.2.2.2.2.2.1,y5,y4,y3,s3.2.2.1,s3.2.2.2.1,y2,s3.2.2.2.2.1⟩:Mon))]))) ((ln a0.Tables),(0,(a0.Pending,(a0.Traps,(a0.Own,(0,(0,(0,([],(a0.Tables,((zeB a0.Outer),((ze3 a0.Out),((ap [] a0.Dirty),((zjD a0.Guests),((zdx a0.Outs),([],([],([],([],([],([],())))))))))))))))))))))))))))
def zPU:FuncId->Nat->Option Tmpl:=zo [(115,0,{ n:=44,tm:=[(1,.lp 0 0),(2,.lp 1 0),(3,.sl 0 []),(29,.sl 1 []),(30,ti),(31,ti)],lo:=[(0,[.sl 2 [],.sl 3 [],.sl 4 [],.sl 5 [],.sl 6 [],ti,ti,.sl 1 [],ti]),(1,[.sl 7 [],.sl 8 [],.sl 9 [],.sl 10 [],.sl 11 [],ti,ti,.sl 12 [],ti])],ro:=[(0,.kept,true),(1,.kept,false),(2,.slot,true),(3,(.sl .int),true),(4,.bool,true),(5,.guest,true),(6,.int,true),(7,.slot,true),(8,(.sl .int),true),(9,.bool,true),(10,.guest,true),(11,.int,true),(12,.kept,true)] })]
theorem zO6 (a0:Mon)(hc:ziZ a0=true):∃N,zDU N a0=some [aT .mon (zjE a0)]:=by
 obtain ⟨h1,h2,h3,h4,h5,h6⟩:=zD.1 hc;have hl:=zcP h6.1;refine zcd fun N hNN=>?_;unfold zDU oN
 conv=>zeta
 have c1:zfW a0.Outer=true:=by simp;omega
 have c2:zhp a0.Out=true:=by simp;exact h2
 have c4:zkq a0.Guests=true:=by simp;exact h4
 have c5:zdA a0.Outs=true:=by simp;omega
 refine must c1 (must c2 (must (zmn h3) (must c4 (must c5 ?_))));refine (zZ a0.Tables (fun i (t:lK)=>((ln a0.Tables),(i:Int),a0.Pending,a0.Traps,a0.Own,0,0,0,t,a0.Tables,(zeB a0.Outer),(ze3 a0.Out),(ap [] a0.Dirty),(zjD a0.Guests),(zdx a0.Outs),[],[],[],[],[],[],())) _ (fun _ x acc κ=>bif zfE x then (cond (few (ln (ap acc [zc2 x]))) (κ (ap acc [zc2 x])) none) else none) (fun (t:lK)=>(some [(.agg (Ty.cells .mon (⟨(zeB a0.Outer),(ze3 a0.Out),(ap [] a0.Dirty),(zjD a0.Guests),(zdx a0.Outs),a0.Pending,a0.Traps,t,a0.Own⟩:Mon)))])) (fun i hi t rec=>?_) (fun t rec=>?_) _ ([]) (hNN hl.1)).trans ?_
 .simp only [zbo hi,zS hi,zbc hi,zV hi hl.1,cT]
 .simp only [zbg,cF]
 exact zic zfE zc2 _ a0.Tables 0 [] (fun x hx=>⟨zbr (h6.2 x hx),rfl⟩) (by simpa using hl.2)
theorem zIE:vF 115 zyZ:=kF1 zQN zq zn zu zPU zO6
def z3n:zO:=[(115,zyZ)]++z3m
theorem zxj:zF z3n:=zh zIE zQN
@[simp] abbrev zss (h:Host):Bool:=pc (zcb h)
@[simp] abbrev zxM (h:Host):Host:=h
def zwu:Run:=rF1 dH fun b=>(zss b,[aH (zxM b)])
def zzS (N:Nat)(a0:Host):OA:=
 (oN (zhp a0.Memory) (oN (few (ln (ap [] a0.Buffer))) (oN (few (ln (ap [] a0.IoBuffer))) (iter (σ:=(Int×(Int×(lN×(lM×(lN×(lE×(lE×(lM×(lN×(lE×(lE×Unit)))))))))))) N (fun r2 s3=>let y1:=(ix s3.2.2.1 s3.2.1 zf);let y0:=(ap s3.2.2.2.2.2.2.2.2.1 [(zjE y1)]); (cond (ilt s3.2.1 s3.1) (oN (inb s3.2.1 (ln s3.2.2.1)) (oN (ziZ y1) (oN (few (ln y0)) (r2 (s3.1,((zG .i64 s3.2.1 1),(s3.2.2.1,(s3.2.2.2.1,(s3.2.2.2.2.1,(s3.2.2.2.2.2.1,(s3.2.2.2.2.2.2.1,(s3.2.2.2.2.2.2.2.1,(y0,(s3.2.2.2.2.2.2.2.2.2.1,(s3.2.2.2.2.2.2.2.2.2.2.1,()))))))))))))))) (some [(aH (⟨s3.2.2.2.2.2.2.2.1,s3.2.2.2.2.2.2.2.2.1,s3.2.2.2.2.2.2.2.2.2.1,s3.2.2.2.2.2.2.2.2.2.2.1⟩:Host))]))) ((ln a0.Mons),(0,(a0.Mons,([],([],([],([],((ze3 a0.Memory),([],((ap [] a0.Buffer),((ap [] a0.IoBuffer),())))))))))))))))
def zMX:FuncId->Nat->Option Tmpl:=zo [(48,0,{ n:=34,tm:=[(2,.lp 0 0),(3,.lp 1 0),(19,.sl 0 []),(20,ti),(21,ti)],lo:=[(0,[.sl 1 [],.sl 2 [],.sl 3 [],.sl 4 []]),(1,[.sl 5 [],.sl 6 [],.sl 7 [],.sl 8 []])],ro:=[(0,.mon,false),(1,(.sl .int),true),(2,.mon,true),(3,.entry,true),(4,.entry,true),(5,(.sl .int),true),(6,.mon,true),(7,.entry,true),(8,.entry,true)] })]
theorem zLZ (a0:Host)(hc:zss a0=true):∃N,zzS N a0=some [aH (zxM a0)]:=by
 obtain ⟨h1,h2,h3,h4⟩:=(zM a0).1 (zD.1 hc);have hl:=zcP h2.1;refine zcd fun N hNN=>?_;unfold zzS oN
 conv=>zeta
 have c1:zhp a0.Memory=true:=by simp;exact h1
 refine must c1 (must (zmn h3) (must (zmn h4) ?_));refine (zZ a0.Mons (fun i (t:lN)=>((ln a0.Mons),(i:Int),a0.Mons,[],[],[],[],(ze3 a0.Memory),t,(ap [] a0.Buffer),(ap [] a0.IoBuffer),())) _ (fun _ x acc κ=>bif ziZ x then (cond (few (ln (ap acc [zjE x]))) (κ (ap acc [zjE x])) none) else none) (fun (t:lN)=>(some [(.agg (zbd (⟨(ze3 a0.Memory),t,(ap [] a0.Buffer),(ap [] a0.IoBuffer)⟩:Host)))])) (fun i hi t rec=>?_) (fun t rec=>?_) _ ([]) (hNN hl.1)).trans ?_
 .simp only [zbo hi,zS hi,zbc hi,zV hi hl.1,cT]
 .simp only [zbg,cF]
 exact zic ziZ zjE _ a0.Mons 0 [] (fun x hx=>⟨zbr (h2.2 x hx),rfl⟩) (by simpa using hl.2)
theorem zFV:vF 48 zwu:=kF1 zxj zq zn zu zMX zLZ
def allI {α:Type}(p:Nat->α->Bool):List α->Nat->Bool
 | [],_=>true
 | x :: l,i=>p i x&&allI p l (i+1)
theorem zFM {α ρ:Type}(p:Nat->α->Bool)(r:Option ρ)(K:Unit->Option ρ):∀(l:List α) (i:Nat),goL (fun i x (_:Unit) k=>bif p i x then k () else r) K l i ()=bif allI p l i then K () else r
 | [],_=>rfl
 | x :: l,i=>by
  simp only[goL,allI];cases p i x
  .rfl
  .simp only [cT,Bool.true_and];exact zFM p r K l (i+1)
theorem zNC {α:Type}(q:α->Bool)(l:List α)(d:α):∀(n i:Nat),i+n<=l.length->zkX (fun j=>q (ix l (j:Int) d)) n i=((l.drop i).take n).all q
 | 0,i,_=>by simp[zkX]
 | n+1,i,h=>by
  have hi:i<l.length:=by omega
  rw[kC hi,List.take_succ_cons,uC,<- zNC q l d n (i+1) (by omega)]
  simp only[zkX,zbc hi]
def sameKey (a b:Entry):Bool:=bif ieq a.Tag b.Tag then ieq a.Page b.Page else false
def alone (l:List Entry)(i:Nat)(x:Entry):Bool:=(l.take i).all fun y=>!sameKey x y
def zez (l:List Entry):Bool:=bif allI (alone l) l 0 then ile (ln l) 6 else false
theorem z1B {α:Type}{l:List α}{i:Nat}(h:i<=l.length):inr 0 (i:Int) (ln l)=true:=qI (by simp only[ln];omega)
@[simp] abbrev zmY (l:List Entry):Bool:=true
@[simp] abbrev zmX (l:List Entry):Bool:=zez l
def zwn:Run:=rF1 (dS .entry) fun b=>(zmY b,[aB (zmX b)])
def zzN (N:Nat)(a0:lE):OA:=
 (iter (σ:=(Int×(Int×(lE×Unit)))) N (fun r2 s3=>let y3:=s3.2.2.1;let y1:=(ix y3 s3.2.1 zdL); (cond (ilt s3.2.1 s3.1) (oN (inb s3.2.1 (ln y3)) (oN (inr 0 s3.2.1 (ln y3)) (iter (σ:=(Int×(Int×(Int×(Int×(Int×(Int×(Int×(Int×(lE×(lE×Unit))))))))))) N (fun r4 s5=>let y4:=s5.2.2.2.1;let y2:=s5.2.2.2.2.2.2.2.2.2.1;let y0:=(r4 (s5.1,(s5.2.1,(s5.2.2.1,((zG .i64 y4 1),(s5.2.2.2.2.1,(s5.2.2.2.2.2.1,(s5.2.2.2.2.2.2.1,(s5.2.2.2.2.2.2.2.1,(s5.2.2.2.2.2.2.2.2.1,(y2,()))))))))))); (cond (ilt y4 s5.2.2.1) (oN (inb y4 (ln y2)) (cond (ieq s5.2.2.2.2.1 (ix y2 y4 zdL).Tag) (cond (ieq s5.2.2.2.2.2.1 (ix y2 y4 zdL).Page) oF y0) y0)) (r2 (s5.1,((zG .i64 s5.2.1 1),(s5.2.2.2.2.2.2.2.2.1,())))))) (s3.1,(s3.2.1,((ln (tk y3 s3.2.1)),(0,(y1.Tag,(y1.Page,(y1.Host,(y1.Rights,(y3,((tk y3 s3.2.1),()))))))))))))) (some [(aB (ile (ln y3) 6))]))) ((ln a0),(0,(a0,()))))
def zMW:FuncId->Nat->Option Tmpl:=zo [(107,0,{ n:=39,tm:=[(0,.sl 0 []),(7,.sl 0 []),(8,ti),(9,ti)],lo:=[],ro:=[(0,.entry,false)] }),(107,2,{ n:=39,tm:=[(0,.sl 0 []),(4,.lp 0 0),(7,.sl 0 []),(8,ti),(9,ti),(16,.sl 1 []),(17,ti),(18,ti)],lo:=[(0,[ti,ti,ti,ti])],ro:=[(0,.entry,false),(1,.entry,false)] })]
theorem zLT (a0:List Entry)(hb:zbE big [aS .entry a0])(hc:zmY a0=true):∃N,zzN N a0=some [aB (zmX a0)]:=by
 have hl:=(len0 hb);refine zcd fun N hNN=>?_;unfold zzN oN
 conv=>zeta
 refine (zZ a0 (fun i (t:Unit)=>((ln a0),(i:Int),a0,())) _ (fun i (x:Entry) (_:Unit) κ=>bif alone a0 i x then κ () else oF) (fun (t:Unit)=>(some [(.one (.b (ile (ln a0) 6)))])) (fun i hi t rec=>?_) (fun t rec=>?_) _ () (hNN hl)).trans ?_
 .simp only [zbo hi,zS hi,zbc hi,zV hi hl,cT];rw[z1B (Nat.le_of_lt hi),cT];have hk:(tk a0 (i:Int)).length<=big:=jC (by simp[tk];omega) hl
  refine (zZ (tk a0 (i:Int)) (fun j (u:Unit)=>((ln a0),(i:Int),(ln (tk a0 (i:Int))),(j:Int),a0[i].Tag,a0[i].Page,a0[i].Host,a0[i].Rights,a0,(tk a0 (i:Int)),())) _ (fun _ (y:Entry) (_:Unit) κ=>bif !sameKey a0[i] y then κ () else oF) (fun (u:Unit)=>(rec ((ln a0),((((i+1:Nat)):Int),(a0,()))))) (fun j hj u rec1=>?_) (fun u rec1=>?_) _ () (hNN hk)).trans ?_
  .simp only [zbo hj,zS hj,zbc hj,zV hj hk,cT,zV hi hl];unfold sameKey;cases ieq a0[i].Tag (tk a0 (i:Int))[j].Tag<;>cases ieq a0[i].Page (tk a0 (i:Int))[j].Page<;>rfl
  .simp only [zbg,cF,zV hi hl]
  rw[zfd (fun y=>!sameKey a0[i] y)];rfl
 .simp only [zbg,cF]
 rw[zFM (alone a0)];unfold zmX zez;cases allI (alone a0) a0 0<;>rfl
theorem zFP:vF 107 zwn:=hF1 zxj zq zn zu zMW zLT
@[simp] abbrev znz (l:List Entry):Bool:=true
@[simp] abbrev zny (l:List Entry):Bool:=zez l
def zwF:Run:=rF1 (dS .entry) fun b=>(znz b,[aB (zny b)])
def zz5 (N:Nat)(a0:lE):OA:=
 (iter (σ:=(Int×(lE×Unit))) N (fun r2 s3=>(cond (ilt s3.1 (ln s3.2.1)) (iter (σ:=(Int×(Int×(lE×Unit)))) N (fun r4 s5=>let y0:=s5.2.2.1;let y2:=(ix y0 s5.2.1 zdL);let y1:=(r4 (s5.1,((zG .i64 s5.2.1 1),(y0,())))); (cond (ilt s5.2.1 s5.1) (oN (inb s5.1 (ln y0)) (oN (inb s5.2.1 (ln y0)) (cond (ieq (ix y0 s5.1 zdL).Tag y2.Tag) (oN (inb s5.1 (ln y0)) (oN (inb s5.2.1 (ln y0)) (cond (ieq (ix y0 s5.1 zdL).Page y2.Page) oF y1))) y1))) (r2 ((zG .i64 s5.1 1),(y0,()))))) (s3.1,(0,(s3.2.1,())))) (some [(aB (ile (ln s3.2.1) 6))]))) (0,(a0,())))
def zM2:FuncId->Nat->Option Tmpl:=zo [(156,0,{ n:=43,tm:=[(0,.sl 0 []),(3,ti)],lo:=[],ro:=[(0,.entry,false)] }),(156,2,{ n:=43,tm:=[(0,.sl 0 []),(3,ti),(4,ti)],lo:=[],ro:=[(0,.entry,false)] })]
theorem zMb (a0:List Entry)(hb:zbE big [aS .entry a0])(hc:znz a0=true):∃N,zz5 N a0=some [aB (zny a0)]:=by
 have hl:=(len0 hb);refine zcd fun N hNN=>?_;unfold zz5 oN
 conv=>zeta
 refine (zZ a0 (fun i (t:Unit)=>((i:Int),a0,())) _ (fun i (x:Entry) (_:Unit) κ=>bif alone a0 i x then κ () else oF) (fun (t:Unit)=>(some [(.one (.b (ile (ln a0) 6)))])) (fun i hi t rec=>?_) (fun t rec=>?_) _ () (hNN hl)).trans ?_
 .simp only [zbo hi,zS hi,zbc hi,zV hi hl,cT];refine (zGw i (fun (j:Nat) (_:Unit)=>((i:Int),((j:Int),(a0,())))) _ (fun j (_:Unit) κ=>bif !sameKey a0[i] (ix a0 (j:Int) zdL) then κ () else oF) (fun _=>rec (((i+1:Nat):Int),(a0,()))) (fun j hj u rec1=>?_) (fun u rec1=>?_) _ () (hNN (by omega))).trans ?_
  .have hj2:j<a0.length:=by omega
   simp only[show ilt (j:Int) (i:Int)=true from qI (by omega),zS hi,zS hj2,zbc hi,zV hj2 hl,cT]
   unfold sameKey;cases ieq a0[i].Tag (ix a0 (j:Int) zdL).Tag<;>cases ieq a0[i].Page (ix a0 (j:Int) zdL).Page<;>rfl
  .simp only [show ilt (i:Int) (i:Int)=false from qJ (by omega),zV hi hl,cF]
  rw[zv0 (fun j=>!sameKey a0[i] (ix a0 (j:Int) zdL)),zNC (fun y=>!sameKey a0[i] y) a0 _ i 0 (by omega)]
  rfl
 .simp only [zbg,cF]
 rw[zFM (alone a0)];unfold zny zez;cases allI (alone a0) a0 0<;>rfl
theorem zF6:vF 156 zwF:=hF1 zxj zq zn zu zM2 zMb
def z3o:zO:=[(48,zwu),(156,zwF),(107,zwn)]++z3n
theorem zFD:zF z3o:=zh zFV (zh zF6 (zh zFP zxj))
theorem zLO (a b:Int):igt a b = !ile a b:=by
 unfold igt ile
 by_cases h:a<=b
 .rw [qI h,qJ (by omega)];rfl
 .rw [qJ h,qI (by omega)];rfl
theorem stB {c M:Bool}{E:OA}(h:c=true->E=some [AV.one (.b M)]):(cond (cond c false true) (some [AV.one (.b false)]) E)=some [AV.one (.b (cond c M false))]:=by
 cases c
 .rfl
 .exact h rfl
theorem stI {a b:Int}{M:Bool}{E:OA}(h:ieq a b=true->E=some [AV.one (.b M)]):(cond (ine a b) (some [AV.one (.b false)]) E)=some [AV.one (.b (cond (ieq a b) M false))]:=by
 rw[zon];cases hh:ieq a b
 .rfl
 .exact h hh
theorem stG {a b:Int}{M:Bool}{E:OA}(h:ile a b=true->E=some [AV.one (.b M)]):(cond (igt a b) (some [AV.one (.b false)]) E)=some [AV.one (.b (cond (ile a b) M false))]:=by
 rw[zLO];cases hh:ile a b
 .rfl
 .exact h hh
def zkx (s:Slot)(p:List Int):Bool:=bif zcg s noSlot then zb5 p else (cond (enough s.Rights 1) (ile (ln p) 0) false)
def fits (m:Mon)(j:Nat):Bool:=zkx (ix m.Outer (j:Int) zK) (ix m.Out (j:Int) [])
def zdp (m:Mon):Bool:=bif win (ln m.Guests) 1 2 then (cond (ieq (ln m.Tables) (ln m.Guests)) (cond (zcn m.Outer 8 12) (cond (ieq (ln m.Out) 8) (cond (ieq (ln m.Dirty) 8) (cond (ile (ln m.Outs) 40) (cond (zcN m.Pending) (cond (win m.Traps 0 3) (cond (win m.Own 0 1000000000) (cond (m.Guests.all zcX) (zkX (fits m) 8 0) false) false) false) false) false) false) false) false) false) else false
theorem zmE {t:List Slot}{n p:Int}(h:zcn t n p=true):ln t=n:=by
 unfold zcn at h;cases h1:t.all (fun s=>zdd s p)
 .rw [h1]at h;cases h
 .rw [h1]at h;exact qE h
@[simp] abbrev zp3 (m:Mon):Bool:=true
@[simp] abbrev zrN (m:Mon):Bool:=zdp m
def zES:Run:=rF1 (dT .mon) fun b=>(zp3 b,[aB (zrN b)])
def zNl (N:Nat)(a0:Mon):OA:=
 let y5:=(ln a0.Guests); (oN (zbO y5 1 2) (cond (nB (zb0 y5 1 2)) oF (cond (ine (ln a0.Tables) y5) oF (oN (zle a0.Outer 8 12) (cond (nB (zg7 a0.Outer 8 12)) oF (cond (ine (ln a0.Out) 8) oF (cond (ine (ln a0.Dirty) 8) oF (cond (igt (ln a0.Outs) 40) oF (oN (zre a0.Pending) (cond (nB (zom a0.Pending)) oF (oN (zbO a0.Traps 0 3) (cond (nB (zb0 a0.Traps 0 3)) oF (oN (zbO a0.Own 0 1000000000) (cond (nB (zb0 a0.Own 0 1000000000)) oF (iter (σ:=(Int×(Int×(Int×(Int×(Int×(lG×(lS×(lM×(lB×((List Int)×(lK×Unit)))))))))))) N (fun r2 s3=>let y6:=s3.2.2.2.2.2.2.1;let y3:=s3.2.2.2.2.2.1;let y7:=(ix y3 s3.2.1 zx); (cond (ilt s3.2.1 s3.1) (oN (inb s3.2.1 (ln y3)) (oN (zpb y7) (cond (nB (zmq y7)) oF (r2 (s3.1,((zG .i64 s3.2.1 1),(s3.2.2.1,(s3.2.2.2.1,(s3.2.2.2.2.1,(y3,(y6,(s3.2.2.2.2.2.2.2.1,(s3.2.2.2.2.2.2.2.2.1,(s3.2.2.2.2.2.2.2.2.2.1,(s3.2.2.2.2.2.2.2.2.2.2.1,()))))))))))))))) (iter (σ:=(Int×(Int×(Int×(Int×(Int×(lS×(lM×(lB×(lG×((List Int)×(lK×Unit)))))))))))) N (fun r4 s5=>let y4:=s5.2.1;let y2:=s5.2.2.2.2.2.2.1;let y1:=(ix s5.2.2.2.2.2.1 y4 zK);let y0:=(r4 (s5.1,((zG .i64 y4 1),(s5.2.2.1,(s5.2.2.2.1,(s5.2.2.2.2.1,(s5.2.2.2.2.2.1,(y2,(s5.2.2.2.2.2.2.2.1,(s5.2.2.2.2.2.2.2.2.1,(s5.2.2.2.2.2.2.2.2.2.1,(s5.2.2.2.2.2.2.2.2.2.2.1,())))))))))))); (cond (ilt y4 s5.1) (oN (inb y4 (ln s5.2.2.2.2.2.1)) (oN zcy (cond (cond (ieq y1.Page zbV.Page) (ieq y1.Rights zbV.Rights) false) (oN (inb y4 (ln y2)) (oN (zg6 (ix y2 y4 [])) (cond (nB (zfV (ix y2 y4 []))) oF y0))) (oN (zc1 y1.Rights 1) (cond (nB (zdw y1.Rights 1)) oF (oN (inb y4 (ln y2)) (cond (igt (ln (ix y2 y4 [])) 0) oF y0))))))) oT)) ((ln y6),(0,(s3.2.2.1,(s3.2.2.2.1,(s3.2.2.2.2.1,(y6,(s3.2.2.2.2.2.2.2.1,(s3.2.2.2.2.2.2.2.2.1,(y3,(s3.2.2.2.2.2.2.2.2.2.1,(s3.2.2.2.2.2.2.2.2.2.2.1,())))))))))))))) (y5,(0,(a0.Pending,(a0.Traps,(a0.Own,(a0.Guests,(a0.Outer,(a0.Out,(a0.Dirty,(a0.Outs,(a0.Tables,()))))))))))))))))))))))))))
def zU0:FuncId->Nat->Option Tmpl:=zo [(108,0,{ n:=106,tm:=[(1,.lp 0 0),(64,.sl 0 []),(65,ti),(66,ti)],lo:=[(0,[.sl 1 [],.sl 2 [],.sl 3 [],.sl 0 [],.sl 4 [],ti,ti,.sl 5 [],ti])],ro:=[(0,.guest,false),(1,.slot,false),(2,(.sl .int),false),(3,.bool,false),(4,.int,false),(5,.kept,false)] }),(108,2,{ n:=106,tm:=[(1,.lp 0 0),(75,.sl 0 []),(76,ti),(77,ti)],lo:=[(0,[.sl 0 [],.sl 1 [],.sl 2 [],.sl 3 [],.sl 4 [],ti,ti,.sl 5 [],ti])],ro:=[(0,.slot,false),(1,(.sl .int),false),(2,.bool,false),(3,.guest,false),(4,.int,false),(5,.kept,false)] })]
theorem zT8 (a0:Mon)(hb:zbE big [aT .mon a0])(hc:zp3 a0=true):∃N,zNl N a0=some [aB (zrN a0)]:=by
 have hg:a0.Guests.length<=big:=((zcm hb).1 (.s .guest a0.Guests) (by simp[AV.cvs,Ty.cells])).len
 have ho:a0.Outer.length<=big:=((zcm hb).1 (.s .slot a0.Outer) (by simp[AV.cvs,Ty.cells])).len
 refine zcd fun N hNN=>?_;unfold zNl zrN zdp oN nB
 conv=>zeta
 refine must rfl (stB fun h0=>stI fun h1=>must rfl (stB fun h2=>stI fun h3=>stI fun h4=>stG fun h5=>must rfl (stB fun h6=>must rfl (stB fun h7=>must rfl (stB fun h8=>?_)))));have e1:=zmE h2;have e3:ln a0.Out=8:=qE h3;simp only[ln] at e1 e3;refine (zZ a0.Guests (fun i (t:Unit)=>((ln a0.Guests),(i:Int),a0.Pending,a0.Traps,a0.Own,a0.Guests,a0.Outer,a0.Out,a0.Dirty,a0.Outs,a0.Tables,())) _ (fun _ (x:Guest) (_:Unit) κ=>bif zcX x then κ () else oF) (fun (t:Unit)=>(iter (σ:=(Int×(Int×(Int×(Int×(Int×(lS×(lM×(lB×(lG×((List Int)×(lK×Unit)))))))))))) N (fun r4 s5=>(cond (ilt s5.2.1 s5.1) (cond (inb s5.2.1 (ln s5.2.2.2.2.2.1)) (cond zcy (cond (cond (ieq (ix s5.2.2.2.2.2.1 s5.2.1 zK).Page zbV.Page) (ieq (ix s5.2.2.2.2.2.1 s5.2.1 zK).Rights zbV.Rights) false) (cond (inb s5.2.1 (ln s5.2.2.2.2.2.2.1)) (cond (zg6 (ix s5.2.2.2.2.2.2.1 s5.2.1 [])) (cond (cond (zfV (ix s5.2.2.2.2.2.2.1 s5.2.1 [])) false true) oF (r4 (s5.1,((zG .i64 s5.2.1 1),(s5.2.2.1,(s5.2.2.2.1,(s5.2.2.2.2.1,(s5.2.2.2.2.2.1,(s5.2.2.2.2.2.2.1,(s5.2.2.2.2.2.2.2.1,(s5.2.2.2.2.2.2.2.2.1,(s5.2.2.2.2.2.2.2.2.2.1,(s5.2.2.2.2.2.2.2.2.2.2.1,()))))))))))))) none) none) (cond (zc1 (ix s5.2.2.2.2.2.1 s5.2.1 zK).Rights 1) (cond (cond (zdw (ix s5.2.2.2.2.2.1 s5.2.1 zK).Rights 1) false true) oF (cond (inb s5.2.1 (ln s5.2.2.2.2.2.2.1)) (cond (igt (ln (ix s5.2.2.2.2.2.2.1 s5.2.1 [])) 0) oF (r4 (s5.1,((zG .i64 s5.2.1 1),(s5.2.2.1,(s5.2.2.2.1,(s5.2.2.2.2.1,(s5.2.2.2.2.2.1,(s5.2.2.2.2.2.2.1,(s5.2.2.2.2.2.2.2.1,(s5.2.2.2.2.2.2.2.2.1,(s5.2.2.2.2.2.2.2.2.2.1,(s5.2.2.2.2.2.2.2.2.2.2.1,()))))))))))))) none)) none)) none) none) (some [(.one (.b true))]))) ((ln a0.Outer),(0,(a0.Pending,(a0.Traps,(a0.Own,(a0.Outer,(a0.Out,(a0.Dirty,(a0.Guests,(a0.Outs,(a0.Tables,()))))))))))))) (fun i hi t rec=>?_) (fun t rec=>?_) _ () (hNN hg)).trans ?_
 .simp only [zbo hi,zS hi,zbc hi,zV hi hg,cT];simp only[zpb,zmq,cT];cases zcX a0.Guests[i]<;>rfl
 .simp only [zbg,cF]
 rw[zfd zcX];cases a0.Guests.all zcX
 .rfl
 simp only[cT];refine (zZ a0.Outer (fun j (u:Unit)=>((ln a0.Outer),(j:Int),a0.Pending,a0.Traps,a0.Own,a0.Outer,a0.Out,a0.Dirty,a0.Guests,a0.Outs,a0.Tables,())) _ (fun j (_:Slot) (_:Unit) κ=>bif fits a0 j then κ () else oF) (fun (u:Unit)=>(some [(.one (.b true))])) (fun j hj u rec1=>?_) (fun u rec1=>?_) _ () (hNN ho)).trans ?_
 .simp only [zbo hj,zS hj,zbc hj,zV hj ho,cT];have hj2:j<a0.Out.length:=by omega
  simp only[zcy,zbV,zg6,zfV,zc1,zdw,zS hj2,zLO,cT];unfold fits zkx;simp only[zbc hj,zcg];cases ieq a0.Outer[j].Page noSlot.Page<;>cases ieq a0.Outer[j].Rights noSlot.Rights<;>cases enough a0.Outer[j].Rights 1<;>cases ile (ln (ix a0.Out (j:Int) [])) 0<;>cases zb5 (ix a0.Out (j:Int) [])<;>rfl
 .simp only [zbg,cF]
 rw[zrL (fun j (_:Unit) κ=>bif fits a0 j then κ () else oF),zv0 (fits a0),show a0.Outer.length=8 by omega]
 cases zkX (fits a0) 8 0<;>rfl
theorem zOI:vF 108 zES:=hF1 zFD zq zn zu zU0 zT8
@[simp] abbrev zqe (m:Mon):Bool:=true
@[simp] abbrev zrV (m:Mon):Bool:=zdp m
def zE1:Run:=rF1 (dT .mon) fun b=>(zqe b,[aB (zrV b)])
def zNu (N:Nat)(a0:Mon):OA:=
 (oN (zI (ln a0.Guests) 1 2) (cond (nB (zL (ln a0.Guests) 1 2)) oF (cond (ine (ln a0.Tables) (ln a0.Guests)) oF (oN (zlu a0.Outer 8 12) (cond (nB (zhf a0.Outer 8 12)) oF (cond (ine (ln a0.Out) 8) oF (cond (ine (ln a0.Dirty) 8) oF (iter (σ:=(Int×(Int×(Int×(Int×(lS×(lM×(lB×(lG×((List Int)×(lK×Unit))))))))))) N (fun r2 s3=>let y3:=s3.2.2.2.2.2.2.2.1; (cond (ilt s3.1 (ln y3)) (oN (inb s3.1 (ln y3)) (oN (zlq (ix y3 s3.1 zx)) (cond (nB (zjV (ix y3 s3.1 zx))) oF (r2 ((zG .i64 s3.1 1),(s3.2.1,(s3.2.2.1,(s3.2.2.2.1,(s3.2.2.2.2.1,(s3.2.2.2.2.2.1,(s3.2.2.2.2.2.2.1,(y3,(s3.2.2.2.2.2.2.2.2.1,(s3.2.2.2.2.2.2.2.2.2.1,())))))))))))))) (iter (σ:=(Int×(Int×(Int×(Int×(lS×(lM×(lB×(lG×((List Int)×(lK×Unit))))))))))) N (fun r4 s5=>let y7:=s5.2.2.2.2.1;let y4:=(inb s5.1 (ln s5.2.2.2.2.2.1));let y2:=(ix s5.2.2.2.2.2.1 s5.1 []);let y1:=(ix y7 s5.1 zK);let y6:=(ieq y1.Rights zbq.Rights);let y5:=(ieq y1.Page zbq.Page);let y0:=(r4 ((zG .i64 s5.1 1),(s5.2.1,(s5.2.2.1,(s5.2.2.2.1,(y7,(s5.2.2.2.2.2.1,(s5.2.2.2.2.2.2.1,(s5.2.2.2.2.2.2.2.1,(s5.2.2.2.2.2.2.2.2.1,(s5.2.2.2.2.2.2.2.2.2.1,()))))))))))); (cond (ilt s5.1 8) (oN (inb s5.1 (ln y7)) (oN zck (cond (nB (cond y5 y6 false)) (oN y4 (cond (igt (ln y2) 0) oF (oN (inb s5.1 (ln y7)) (oN (zfq y1.Rights 1) (cond (nB (zfY y1.Rights 1)) oF (cond (nB (nB (cond y5 y6 false))) (oN y4 (oN (zfr y2) (cond (nB (zeP y2)) oF y0))) y0)))))) (cond (nB (nB (cond y5 y6 false))) (oN y4 (oN (zfr y2) (cond (nB (zeP y2)) oF y0))) y0)))) (cond (ile (ln s5.2.2.2.2.2.2.2.2.1) 40) (oN (zeR s5.2.1) (cond (zeQ s5.2.1) (oN (zI s5.2.2.1 0 3) (cond (zL s5.2.2.1 0 3) (oN (zI s5.2.2.2.1 0 1000000000) (some [(aB (zL s5.2.2.2.1 0 1000000000))])) oF)) oF)) oF))) (0,(s3.2.1,(s3.2.2.1,(s3.2.2.2.1,(s3.2.2.2.2.1,(s3.2.2.2.2.2.1,(s3.2.2.2.2.2.2.1,(y3,(s3.2.2.2.2.2.2.2.2.1,(s3.2.2.2.2.2.2.2.2.2.1,()))))))))))))) (0,(a0.Pending,(a0.Traps,(a0.Own,(a0.Outer,(a0.Out,(a0.Dirty,(a0.Guests,(a0.Outs,(a0.Tables,()))))))))))))))))))
def zU2:FuncId->Nat->Option Tmpl:=zo [(157,0,{ n:=115,tm:=[(1,.lp 0 0),(3,ti)],lo:=[(0,[.sl 0 [],.sl 1 [],.sl 2 [],.sl 3 [],.sl 4 [],ti,ti,.sl 5 [],ti])],ro:=[(0,.slot,false),(1,(.sl .int),false),(2,.bool,false),(3,.guest,false),(4,.int,false),(5,.kept,false)] }),(157,2,{ n:=115,tm:=[(1,.lp 0 0),(4,ti)],lo:=[(0,[.sl 0 [],.sl 1 [],.sl 2 [],.sl 3 [],.sl 4 [],ti,ti,.sl 5 [],ti])],ro:=[(0,.slot,false),(1,(.sl .int),false),(2,.bool,false),(3,.guest,false),(4,.int,false),(5,.kept,false)] })]
theorem zUi (a0:Mon)(hb:zbE big [aT .mon a0])(hc:zqe a0=true):∃N,zNu N a0=some [aB (zrV a0)]:=by
 have hg:a0.Guests.length<=big:=((zcm hb).1 (.s .guest a0.Guests) (by simp[AV.cvs,Ty.cells])).len
 refine zcd fun N hNN=>?_;unfold zNu zrV zdp oN nB
 conv=>zeta
 refine must rfl (stB fun h0=>stI fun h1=>must rfl (stB fun h2=>stI fun h3=>stI fun h4=>?_));have e1:=zmE h2;have e3:ln a0.Out=8:=qE h3;simp only[ln] at e1 e3;refine (zZ a0.Guests (fun i (t:Unit)=>((i:Int),a0.Pending,a0.Traps,a0.Own,a0.Outer,a0.Out,a0.Dirty,a0.Guests,a0.Outs,a0.Tables,())) _ (fun _ (x:Guest) (_:Unit) κ=>bif zcX x then κ () else oF) (fun (t:Unit)=>(iter (σ:=(Int×(Int×(Int×(Int×(lS×(lM×(lB×(lG×((List Int)×(lK×Unit))))))))))) N (fun r4 s5=>(cond (ilt s5.1 8) (cond (inb s5.1 (ln s5.2.2.2.2.1)) (cond zck (cond (cond (cond (ieq (ix s5.2.2.2.2.1 s5.1 zK).Page zbq.Page) (ieq (ix s5.2.2.2.2.1 s5.1 zK).Rights zbq.Rights) false) false true) (cond (inb s5.1 (ln s5.2.2.2.2.2.1)) (cond (igt (ln (ix s5.2.2.2.2.2.1 s5.1 [])) 0) oF (cond (inb s5.1 (ln s5.2.2.2.2.1)) (cond (zfq (ix s5.2.2.2.2.1 s5.1 zK).Rights 1) (cond (cond (zfY (ix s5.2.2.2.2.1 s5.1 zK).Rights 1) false true) oF (cond (cond (cond (cond (ieq (ix s5.2.2.2.2.1 s5.1 zK).Page zbq.Page) (ieq (ix s5.2.2.2.2.1 s5.1 zK).Rights zbq.Rights) false) false true) false true) (cond (inb s5.1 (ln s5.2.2.2.2.2.1)) (cond (zfr (ix s5.2.2.2.2.2.1 s5.1 [])) (cond (cond (zeP (ix s5.2.2.2.2.2.1 s5.1 [])) false true) oF (r4 ((zG .i64 s5.1 1),(s5.2.1,(s5.2.2.1,(s5.2.2.2.1,(s5.2.2.2.2.1,(s5.2.2.2.2.2.1,(s5.2.2.2.2.2.2.1,(s5.2.2.2.2.2.2.2.1,(s5.2.2.2.2.2.2.2.2.1,(s5.2.2.2.2.2.2.2.2.2.1,())))))))))))) none) none) (r4 ((zG .i64 s5.1 1),(s5.2.1,(s5.2.2.1,(s5.2.2.2.1,(s5.2.2.2.2.1,(s5.2.2.2.2.2.1,(s5.2.2.2.2.2.2.1,(s5.2.2.2.2.2.2.2.1,(s5.2.2.2.2.2.2.2.2.1,(s5.2.2.2.2.2.2.2.2.2.1,()))))))))))))) none) none)) none) (cond (cond (cond (cond (ieq (ix s5.2.2.2.2.1 s5.1 zK).Page zbq.Page) (ieq (ix s5.2.2.2.2.1 s5.1 zK).Rights zbq.Rights) false) false true) false true) (cond (inb s5.1 (ln s5.2.2.2.2.2.1)) (cond (zfr (ix s5.2.2.2.2.2.1 s5.1 [])) (cond (cond (zeP (ix s5.2.2.2.2.2.1 s5.1 [])) false true) oF (r4 ((zG .i64 s5.1 1),(s5.2.1,(s5.2.2.1,(s5.2.2.2.1,(s5.2.2.2.2.1,(s5.2.2.2.2.2.1,(s5.2.2.2.2.2.2.1,(s5.2.2.2.2.2.2.2.1,(s5.2.2.2.2.2.2.2.2.1,(s5.2.2.2.2.2.2.2.2.2.1,())))))))))))) none) none) (r4 ((zG .i64 s5.1 1),(s5.2.1,(s5.2.2.1,(s5.2.2.2.1,(s5.2.2.2.2.1,(s5.2.2.2.2.2.1,(s5.2.2.2.2.2.2.1,(s5.2.2.2.2.2.2.2.1,(s5.2.2.2.2.2.2.2.2.1,(s5.2.2.2.2.2.2.2.2.2.1,()))))))))))))) none) none) (cond (ile (ln s5.2.2.2.2.2.2.2.2.1) 40) (cond (zeR s5.2.1) (cond (zeQ s5.2.1) (cond (zI s5.2.2.1 0 3) (cond (zL s5.2.2.1 0 3) (cond (zI s5.2.2.2.1 0 1000000000) (some [(.one (.b (zL s5.2.2.2.1 0 1000000000)))]) none) oF) none) oF) none) oF))) (0,(a0.Pending,(a0.Traps,(a0.Own,(a0.Outer,(a0.Out,(a0.Dirty,(a0.Guests,(a0.Outs,(a0.Tables,())))))))))))) (fun i hi t rec=>?_) (fun t rec=>?_) _ () (hNN hg)).trans ?_
 .simp only [zbo hi,zS hi,zbc hi,zV hi hg,cT];simp only[zlq,zjV,cT];cases zcX a0.Guests[i]<;>rfl
 .simp only [zbg,cF]
 rw[zfd zcX];cases hq:a0.Guests.all zcX
 .simp only [cF];cases ile (ln a0.Outs) 40<;>cases zcN a0.Pending<;>cases win a0.Traps 0 3<;>cases win a0.Own 0 1000000000<;>rfl
 simp only[cT];refine (zGw 8 (fun j (u:Unit)=>((j:Int),a0.Pending,a0.Traps,a0.Own,a0.Outer,a0.Out,a0.Dirty,a0.Guests,a0.Outs,a0.Tables,())) _ (fun j (_:Unit) κ=>bif fits a0 j then κ () else oF) (fun (u:Unit)=>(cond (ile (ln a0.Outs) 40) (cond (zeR a0.Pending) (cond (zeQ a0.Pending) (cond (zI a0.Traps 0 3) (cond (zL a0.Traps 0 3) (cond (zI a0.Own 0 1000000000) (some [(.one (.b (zL a0.Own 0 1000000000)))]) none) oF) none) oF) none) oF)) (fun j hj u rec1=>?_) (fun u rec1=>?_) _ () (hNN (by decide))).trans ?_
 .simp only [show ilt (j:Int) 8=true from qI (by omega),zV hj (show 8<=big by decide),cT]
  have hj1:j<a0.Outer.length:=by omega
  have hj2:j<a0.Out.length:=by omega
  simp only[zck,zbq,zfr,zeP,zfq,zfY,zS hj1,zS hj2,zLO,cT];unfold fits zkx;simp only[zbc hj1,zcg];cases ieq a0.Outer[j].Page noSlot.Page<;>cases ieq a0.Outer[j].Rights noSlot.Rights<;>cases enough a0.Outer[j].Rights 1<;>cases ile (ln (ix a0.Out (j:Int) [])) 0<;>cases zb5 (ix a0.Out (j:Int) [])<;>rfl
 .simp only [show ilt (((8:Nat)):Int) 8=false from qJ (by omega),cF]
  rfl
 rw[zv0 (fits a0)];simp only[zeR,zeQ,zI,zQi,cT];cases zkX (fits a0) 8 0<;>cases ile (ln a0.Outs) 40<;>cases zcN a0.Pending<;>cases win a0.Traps 0 3<;>cases win a0.Own 0 1000000000<;>rfl
theorem zOS:vF 157 zE1:=hF1 zFD zq zn zu zU2 zUi
def z3p:zO:=[(157,zE1),(108,zES)]++z3o
theorem zFE:zF z3p:=zh zOS (zh zOI zFD)
def zfL:List Slot->List Bool->Option (List Bool)
 | [],u=>some u
 | s :: l,u=>bif ilt s.Page 0 then zfL l u else (cond (ix u s.Page false) none (zfL l (up u s.Page true)))
def zgE:List Mon->List Bool->Bool
 | [],_=>true
 | m :: l,u=>bif zdp m then (match zfL m.Outer u with|some u'=>zgE l u'|none=>false) else false
def zbI (h:Host):Bool:=bif zgM h.Memory 12 then (cond (win (ln h.Mons) 1 3) (cond (zez h.Buffer) (cond (zez h.IoBuffer) (zgE h.Mons (rp 12 false)) false) false) false) else false
theorem zn1:∀(l:List Slot) (u u':List Bool),zfL l u=some u'->u'.length=u.length
 | [],u,u',h=>by cases h;rfl
 | s :: l,u,u',h=>by
  simp only[zfL]at h;cases h1:ilt s.Page 0
  .rw [h1]at h;cases h2:ix u s.Page false
   .rw [h2]at h;simpa using zn1 l _ u' h
   .rw [h2]at h;cases h
  .rw [h1]at h;exact zn1 l u u' h
theorem zCU {t:List Slot}{n:Int}(h:zcn t n 12=true):∀s∈t,s.Page<12:=by
 intro s hs;unfold zcn at h;cases h1:t.all (fun s=>zdd s 12)
 .rw [h1]at h;cases h
 .have:=qL.1 h1 s hs;unfold zdd at this;cases h2:zcg s noSlot
  .rw [h2] at this;simp only[cF,show igt 12 0=true from rfl,cT] at this
   cases h3:win s.Page 0 (wsub .i64 12 1)
   .rw [h3] at this;cases this
   .have:=(zfm.1 h3).2;rw[show wsub .i64 12 1=11 from rfl] at this
    omega
  .unfold zcg at h2;rw[qD]at h2;have h2:s.Page = -1:=qE h2.1;omega
theorem zTC {s:Slot}{u:List Bool}(h:s.Page<12)(hu:u.length=12)(h0:ilt s.Page 0=false):inb s.Page (ln u)=true:=by
 have:=jT h0;exact qI (by simp only[ln];omega)
def zr3 {ρ:Type}(r:Option ρ)(y:Slot)(u:List Bool)(κ:List Bool->Option ρ):Option ρ:=bif ilt y.Page 0 then κ u else (cond (inb y.Page (ln u)) (cond (ix u y.Page false) r (cond (inb y.Page (ln u)) (share (up u y.Page true) (fun x6=>κ x6)) none)) none)
theorem zxv {ρ:Type}(r:Option ρ)(K:List Bool->Option ρ):∀(l:List Slot) (i:Nat) (u:List Bool),(∀s∈l,s.Page<12)->u.length=12 ->
 goL (fun _ y u κ=>zr3 r y u κ) K l i u=match zfL l u with|some u'=>K u'|none=>r
 | [],_,_,_,_=>rfl
 | s :: l,i,u,h,hu=>by
  simp only[goL,zfL,zr3];cases h1:ilt s.Page 0
  .have hh:=zTC (h s (by simp)) hu h1
   rw[hh];cases ix u s.Page false
   .simp only [cF,cT,share];exact zxv r K l (i+1) _ (fun s hs=>h s (by simp[hs])) (by simpa using hu)
   .rfl
  .simp only [cT];exact zxv r K l (i+1) u (fun s hs=>h s (by simp[hs])) hu
def zWm {ρ:Type}(r:Option ρ)(m:Mon)(u:List Bool)(κ:List Bool->Option ρ):Option ρ:=bif zdp m then goL (fun _ y u κ=>zr3 r y u κ) κ m.Outer 0 u else r
theorem zcw {c x:Bool}:((cond c x false)=true)↔c=true/\x=true:=by
 cases c<;>simp
theorem zht {m:Mon}(h:zdp m=true):zcn m.Outer 8 12=true:=by
 unfold zdp at h;simp only[zcw]at h;exact h.2.2.1
theorem zQ4 {K:Bool->OA}(k:List Bool->OA)(hk:∀u,k u=K true):∀(l:List Mon) (i:Nat) (u:List Bool),u.length=12 ->
 goL (fun _ m u κ=>zWm (K false) m u κ) k l i u=K (zgE l u)
 | [],_,u,_=>hk u
 | m :: l,i,u,hu=>by
  simp only[goL,zgE,zWm];cases h1:zdp m
  .rfl
  .simp only [cT];have ht:=zht h1;rw[zxv _ _ _ _ _ (zCU ht) hu];cases h2:zfL m.Outer u with
   | none=>rfl
   | some u'=>exact zQ4 k hk l (i+1) u' ((zn1 _ _ _ h2).trans hu)
@[simp] abbrev zrb (h:Host):Bool:=true
@[simp] abbrev zsn (h:Host):Bool:=zbI h
def zBp:Run:=rF1 dH fun b=>(zrb b,[aB (zsn b)])
def zHk (N:Nat)(a0:Host):OA:=
 (oN (zAZ a0.Memory 12) (cond (nB (zol a0.Memory 12)) oF (oN (zbO (ln a0.Mons) 1 3) (cond (nB (zb0 (ln a0.Mons) 1 3)) oF (oN (zmY a0.Buffer) (cond (nB (zmX a0.Buffer)) oF (oN (zmY a0.IoBuffer) (cond (nB (zmX a0.IoBuffer)) oF (oN (cond (few 12) (ieq 12 12) false) (iter (σ:=(Int×(Int×(lB×(lN×Unit))))) N (fun r2 s3=>let y1:=(ix s3.2.2.2.1 s3.2.1 zf); (cond (ilt s3.2.1 s3.1) (oN (inb s3.2.1 (ln s3.2.2.2.1)) (oN (zp3 y1) (cond (nB (zrN y1)) oF (iter (σ:=(Int×(Int×(Int×(Int×(Int×(lB×(lN×Unit)))))))) N (fun r4 s5=>let y4:=s5.2.2.2.2.1;let y3:=s5.2.2.2.2.2.2.1;let y5:=(ix y3 s5.2.2.1 zf).Outer;let y2:=s5.2.2.2.2.2.1;let y0:=(ix y5 y4 zK).Page; (cond (ilt y4 s5.2.2.2.1) (oN (inb y4 (ln y5)) (cond (ilt y0 0) (r4 (s5.1,(s5.2.1,(s5.2.2.1,(s5.2.2.2.1,((zG .i64 y4 1),(y2,(y3,())))))))) (oN (inb y0 (ln y2)) (cond (ix y2 y0 false) oF (oN (inb y0 (ln y2)) (share (up y2 y0 true) (fun x6=>(r4 (s5.1,(s5.2.1,(s5.2.2.1,(s5.2.2.2.1,((zG .i64 y4 1),(x6,(y3,()))))))))))))))) (r2 (s5.1,((zG .i64 s5.2.1 1),(y2,(y3,()))))))) (s3.1,(s3.2.1,(s3.2.1,((ln y1.Outer),(0,(s3.2.2.1,(s3.2.2.2.1,()))))))))))) oT)) ((ln a0.Mons),(0,((rp 12 false),(a0.Mons,()))))))))))))))
def zTg:FuncId->Nat->Option Tmpl:=zo [(44,0,{ n:=63,tm:=[(3,.sl 0 []),(33,.sl 1 []),(34,ti),(35,ti)],lo:=[],ro:=[(0,.bool,true),(1,.mon,false)] }),(44,2,{ n:=63,tm:=[(3,.sl 0 []),(33,.sl 1 []),(34,ti),(35,ti),(43,.sl 1 [0]),(44,ti),(45,ti)],lo:=[],ro:=[(0,.bool,true),(1,.mon,false)] })]
theorem zRq (a0:Host)(hb:zbE big [aH a0])(hc:zrb a0=true):∃N,zHk N a0=some [aB (zsn a0)]:=by
 have hm:CVB big (.s .mon a0.Mons):=(zcm hb).1 _ (by simp[AV.cvs,zbd])
 have hl:=hm.len;refine zcd fun N hNN=>?_;unfold zHk zsn zbI oN nB
 conv=>zeta
 refine must rfl (stB fun h0=>must rfl (stB fun h1=>must rfl (stB fun h2=>must rfl (stB fun h3=>must rfl ?_))));refine (zZ a0.Mons (fun i (t:lB)=>((ln a0.Mons),(i:Int),t,a0.Mons,())) _ (fun _ (x:Mon) (u:List Bool) κ=>zWm (oF) x u κ) (fun (t:lB)=>(some [(.one (.b true))])) (fun i hi t rec=>?_) (fun t rec=>?_) _ ((rp 12 false)) (hNN hl)).trans ?_
 .simp only [zbo hi,zS hi,zbc hi,zV hi hl,cT];unfold zWm;cases h4:zdp a0.Mons[i]
  .simp only [zp3,zrN,h4,cT,cF]
  simp only[zp3,zrN,h4,cT,cF];have ho:a0.Mons[i].Outer.length<=big:=(hm.inv.2 _ (jG hi) (.s .slot _) (by simp[Ty.cells])).len
  refine (zZ a0.Mons[i].Outer (fun j (u:lB)=>((ln a0.Mons),(i:Int),(i:Int),(ln a0.Mons[i].Outer),(j:Int),u,a0.Mons,())) _ (fun _ (y:Slot) (u:List Bool) κ=>zr3 (oF) y u κ) (fun (u:lB)=>(rec ((ln a0.Mons),((((i+1:Nat)):Int),(u,(a0.Mons,())))))) (fun j hj u rec1=>?_) (fun u rec1=>?_) _ (t) (hNN ho)).trans ?_
  .simp only [zbo hj,zS hj,zbc hj,zV hj ho,cT,zS hi,zbc hi,zV hi hl];rfl
  .simp only [zbg,cF,zS hi,zbc hi,zV hi hl]
  rfl
 .simp only [zbg,cF]
 exact zQ4 (K:=fun b=>some [AV.one (.b b)]) _ (fun _=>rfl) _ _ _ rfl
theorem zK6:vF 44 zBp:=hF1 zFE zq zn zu zTg zRq
@[simp] abbrev zeN (h:Host):Bool:=true
@[simp] abbrev zeM (h:Host):Bool:=zbI h
theorem zFO {ρ:Type}(r:Option ρ)(k:List Bool->Option ρ)(m:Mon):∀(n i:Nat) (u:List Bool),(∀s∈m.Outer,s.Page<12)->u.length=12->i+n=m.Outer.length ->
 goN (fun j u κ=>bif inb (j:Int) (ln m.Outer) then zr3 r (ix m.Outer (j:Int) zK) u κ else none) k n i u=goL (fun _ y u κ=>zr3 r y u κ) k (m.Outer.drop i) i u
 | 0,i,u,_,_,h=>by
  have:i=m.Outer.length:=by omega
  subst this;simp[goN,goL]
 | n+1,i,u,hs,hu,h=>by
  have hi:i<m.Outer.length:=by omega
  rw[kC hi];simp only[goN,goL,zS hi,zbc hi,cT,zr3];cases h1:ilt m.Outer[i].Page 0
  .rw [zTC (hs _ (jG hi)) hu h1];cases ix u m.Outer[i].Page false
   .simp only [cF,cT,share];exact zFO r k m n (i+1) _ hs (by simpa using hu) (by omega)
   .rfl
  .simp only [cT];exact zFO r k m n (i+1) u hs hu (by omega)
def zBI:Run:=rF1 dH fun b=>(zeN b,[aB (zeM b)])
def zHE (N:Nat)(a0:Host):OA:=
 (oN (zqd a0.Memory 12) (cond (nB (zkN a0.Memory 12)) oF (oN (zI (ln a0.Mons) 1 3) (cond (nB (zL (ln a0.Mons) 1 3)) oF (oN (znz a0.Buffer) (cond (nB (zny a0.Buffer)) oF (oN (znz a0.IoBuffer) (cond (nB (zny a0.IoBuffer)) oF (oN (cond (few 12) (ieq 12 12) false) (iter (σ:=(Int×(lB×(lM×(lN×(lE×(lE×Unit))))))) N (fun r2 s3=>let y7:=(ix s3.2.2.2.1 s3.1 zf); (cond (ilt s3.1 (ln s3.2.2.2.1)) (oN (inb s3.1 (ln s3.2.2.2.1)) (oN (zqe y7) (cond (nB (zrV y7)) oF (iter (σ:=(Int×(Int×(lB×(lM×(lN×(lE×(lE×Unit)))))))) N (fun r4 s5=>let y6:=(zG .i64 s5.2.1 1);let y5:=s5.2.2.2.2.2.1;let y4:=s5.2.2.2.2.2.2.1;let y3:=s5.2.2.1;let y2:=s5.2.2.2.2.1;let y8:=(ix y2 s5.1 zf).Outer;let y1:=(r4 (s5.1,(y6,(y3,(s5.2.2.2.1,(y2,(y5,(y4,()))))))));let y0:=(ix y8 s5.2.1 zK).Page;let y9:=(inb y0 (ln y3)); (cond (ilt s5.2.1 8) (oN (inb s5.1 (ln y2)) (oN (inb s5.2.1 (ln y8)) (cond (ige y0 0) (oN y9 (cond (ix y3 y0 false) oF (cond (ige y0 0) (oN y9 (share (up y3 y0 true) (fun x6=>(r4 (s5.1,(y6,(x6,(s5.2.2.2.1,(y2,(y5,(y4,()))))))))))) y1))) (cond (ige y0 0) (oN y9 (share (up y3 y0 true) (fun x6=>(r4 (s5.1,(y6,(x6,(s5.2.2.2.1,(y2,(y5,(y4,()))))))))))) y1)))) (r2 ((zG .i64 s5.1 1),(y3,(s5.2.2.2.1,(y2,(y5,(y4,()))))))))) (s3.1,(0,(s3.2.1,(s3.2.2.1,(s3.2.2.2.1,(s3.2.2.2.2.1,(s3.2.2.2.2.2.1,()))))))))))) oT)) (0,((rp 12 false),(a0.Memory,(a0.Mons,(a0.Buffer,(a0.IoBuffer,()))))))))))))))))
def zTo:FuncId->Nat->Option Tmpl:=zo [(97,0,{ n:=72,tm:=[(1,.lp 0 0),(3,.sl 0 []),(4,ti)],lo:=[(0,[.sl 1 [],.sl 2 [],.sl 3 [],.sl 4 []])],ro:=[(0,.bool,true),(1,(.sl .int),false),(2,.mon,false),(3,.entry,false),(4,.entry,false)] }),(97,2,{ n:=72,tm:=[(1,.lp 0 0),(3,.sl 0 []),(4,ti),(5,ti)],lo:=[(0,[.sl 1 [],.sl 2 [],.sl 3 [],.sl 4 []])],ro:=[(0,.bool,true),(1,(.sl .int),false),(2,.mon,false),(3,.entry,false),(4,.entry,false)] })]
theorem zRL (a0:Host)(hb:zbE big [aH a0])(hc:zeN a0=true):∃N,zHE N a0=some [aB (zeM a0)]:=by
 have hm:CVB big (.s .mon a0.Mons):=(zcm hb).1 _ (by simp[AV.cvs,zbd])
 have hl:=hm.len;refine zcd fun N hNN=>?_;unfold zHE zeM zbI oN nB
 conv=>zeta
 refine must rfl (stB fun h0=>must rfl (stB fun h1=>must rfl (stB fun h2=>must rfl (stB fun h3=>must rfl ?_))));refine (zZ a0.Mons (fun i (t:lB)=>((i:Int),t,a0.Memory,a0.Mons,a0.Buffer,a0.IoBuffer,())) _ (fun _ (x:Mon) (u:List Bool) κ=>bif zdp x then goN (fun j u κ=>bif inb (j:Int) (ln x.Outer) then zr3 (oF) (ix x.Outer (j:Int) zK) u κ else none) κ 8 0 u else oF) (fun (t:lB)=>(some [(.one (.b true))])) (fun i hi t rec=>?_) (fun t rec=>?_) _ ((rp 12 false)) (hNN hl)).trans ?_
 .simp only [zbo hi,zS hi,zbc hi,zV hi hl,cT];cases h4:zdp a0.Mons[i]
  .simp only [zqe,zrV,h4,cT,cF]
  simp only[zqe,zrV,h4,cT,cF];refine (zGw 8 (fun j (u:lB)=>((i:Int),(j:Int),u,a0.Memory,a0.Mons,a0.Buffer,a0.IoBuffer,())) _ (fun j (u:List Bool) κ=>bif inb (j:Int) (ln a0.Mons[i].Outer) then zr3 (oF) (ix a0.Mons[i].Outer (j:Int) zK) u κ else none) (fun (u:lB)=>(rec ((((i+1:Nat)):Int),(u,(a0.Memory,(a0.Mons,(a0.Buffer,(a0.IoBuffer,())))))))) (fun j hj u rec1=>?_) (fun u rec1=>?_) _ (t) (hNN (by decide))).trans ?_
  .simp only [show ilt (j:Int) 8=true from qI (by omega),zV hj (show 8<=big by decide),cT,zS hi,zbc hi,zV hi hl]
   unfold zr3;have e:ige (ix a0.Mons[i].Outer (j:Int) zK).Page 0 = !ilt (ix a0.Mons[i].Outer (j:Int) zK).Page 0:=by rw[z5h,Bool.not_not]
   simp only[e];cases ilt (ix a0.Mons[i].Outer (j:Int) zK).Page 0<;>cases inb (j:Int) (ln a0.Mons[i].Outer)<;>cases inb (ix a0.Mons[i].Outer (j:Int) zK).Page (ln u)<;>cases ix u (ix a0.Mons[i].Outer (j:Int) zK).Page false<;>rfl
  .simp only [show ilt (((8:Nat)):Int) 8=false from qJ (by omega),cF,zS hi,zbc hi,zV hi hl]
  rfl
 .simp only [zbg,cF]
 have key:∀(l:List Mon) (i:Nat) (u:List Bool),u.length=12->goL (fun _ (x:Mon) (u:List Bool) κ=>bif zdp x then goN (fun j u κ=>bif inb (j:Int) (ln x.Outer) then zr3 (oF) (ix x.Outer (j:Int) zK) u κ else none) κ 8 0 u else oF) (fun _=>oT) l i u=some [AV.one (.b (zgE l u))]:=by
  intro l
  induction l with
  | nil=>intro i u _;rfl
  | cons m l ih =>
   intro i u hu;simp only[goL,zgE];cases h1:zdp m
   .rfl
   .have ht:=zht h1;have e8:0+8=m.Outer.length:=by have:=zmE ht;simp only[ln] at this;omega
    simp only[cT];rw[zFO _ _ m 8 0 u (zCU ht) hu e8,uY,zxv _ _ _ _ _ (zCU ht) hu];cases h2:zfL m.Outer u with
    | none=>rfl
    | some u'=>exact ih (i+1) u' ((zn1 _ _ _ h2).trans hu)
 exact key _ _ _ rfl
theorem zLp:vF 97 zBI:=hF1 zFE zq zn zu zTo zRL
def zWu:zO:=[(97,zBI),(44,zBp)]++z3p
theorem zxk:zF zWu:=zh zLp (zh zK6 zFE)
theorem zJd {h:Host}(hh:zbI h=true):(h.Mons.length:Int)<=3:=by
 unfold zbI at hh;simp only[zcw]at hh;exact (zfm.1 hh.2.1).2
def zct (h:Host)(m:Int):Bool:=bif zbI h then hasB m (ln h.Mons) else false
def zcf (h:Host)(m p:Int):Bool:=bif zbI h then (cond (hasB m (ln h.Mons)) (hasB p 8) false) else false
theorem zNe {h:Host}(hh:zbI h=true)(m:Int):win m 0 (wsub .i64 (ln h.Mons) 1)=hasB m (ln h.Mons):=zo0 (by have:=zJd hh;omega) m
theorem z7T (p:Int):win p 0 7=hasB p 8:=by
 unfold win ige ile hasB
 by_cases h1:0<=p<;>by_cases h2:p<8
 .rw [qI (p:=p≥0) (by omega),qI (p:=p<=7) (by omega),qI (p:=0<=p/\p<8) ⟨h1,h2⟩];rfl
 .rw [qJ (p:=p<=7) (by omega),qJ (p:=0<=p/\p<8) (by omega)];simp
 .rw [qJ (p:=p≥0) (by omega),qJ (p:=0<=p/\p<8) (by omega)];simp
 .rw [qJ (p:=p≥0) (by omega),qJ (p:=0<=p/\p<8) (by omega)];simp
@[simp] abbrev zeW (h:Host)(m:Int):Bool:=true
@[simp] abbrev zeV (h:Host)(m:Int):Bool:=zct h m
def zB2:Run:=rF2 dH dI fun b c=>(zeW b c,[aB (zeV b c)])
def zHX (N:Nat)(a0:Host)(a1:Int):OA:=
 (oN (zeN a0) (cond (zeM a0) (oN (zI a1 0 (wsub .i64 (ln a0.Mons) 1)) (some [(aB (zL a1 0 (wsub .i64 (ln a0.Mons) 1)))])) oF))
theorem zSa (a0:Host)(a1:Int)(hc:zeW a0 a1=true):∃N,zHX N a0 a1=some [aB (zeV a0 a1)]:=by
 refine ⟨0,?_⟩;unfold zHX zeV zct oN;cases hh:zbI a0
 .simp only [zeN,zeM,hh,cT,cF]
 .simp only [zeN,zeM,hh,cT,zI,zQi,zNe hh]
theorem zLM:vF 257 zB2:=kF2 zxk zq zn zu (zo []) zSa
@[simp] abbrev zmz (h:Host)(m p:Int):Bool:=true
@[simp] abbrev zgY (h:Host)(m p:Int):Bool:=zcf h m p
def zE7:Run:=rF3 dH dI dI fun b c d=>(zmz b c d,[aB (zgY b c d)])
def zNA (N:Nat)(a0:Host)(a1 a2:Int):OA:=
 (oN (zeN a0) (cond (zeM a0) (oN (zI a1 0 (wsub .i64 (ln a0.Mons) 1)) (cond (zL a1 0 (wsub .i64 (ln a0.Mons) 1)) (oN (zI a2 0 7) (some [(aB (zL a2 0 7))])) oF)) oF))
theorem zUp (a0:Host)(a1 a2:Int)(hc:zmz a0 a1 a2=true):∃N,zNA N a0 a1 a2=some [aB (zgY a0 a1 a2)]:=by
 refine ⟨0,?_⟩;unfold zNA zgY zcf oN;cases hh:zbI a0
 .simp only [zeN,zeM,hh,cT,cF]
 .simp only [zeN,zeM,hh,cT,zI,zQi,zNe hh,z7T];cases hasB a1 (ln a0.Mons)<;>rfl
theorem zOZ:vF 267 zE7:=kF3 zxk zq zn zu (zo []) zUp
def z3q:zO:=[(257,zB2),(267,zE7)]++zWu
theorem zQO:zF z3q:=zh zLM (zh zOZ zxk)
def zcY (k:Kept)(p:Int):Bool:=bif hasB p (ln k.Known) then hasB p (ln k.Slots) else false
def zbG (k:Kept)(p:Int):Kept:=bif zcY k p then ⟨up k.Known p false,up k.Slots p noSlot⟩ else k
@[simp] theorem zn0 {k:Kept}{p:Int}(h:SmK k):SmK (zbG k p):=by
 unfold zbG;cases zcY k p
 .exact h
 .exact ⟨by simpa using h.1,by simpa using h.2⟩
theorem has_lt {p:Int}{n m:Int}(h:hasB p n=true):ilt p m=hasB p m:=by
 have h:=qE h;unfold ilt hasB
 by_cases h1:p<m
 .rw [qI h1,qI ⟨h.1,h1⟩]
 .rw [qJ h1,qJ (by omega)]
@[simp] abbrev znV (k:Kept)(p:Int):Bool:=pc (SmK k)
@[simp] abbrev zhz (k:Kept)(p:Int):Bool:=zcY k p
def zB0:Run:=rF2 (dT .kept) dI fun b c=>(znV b c,[aB (zhz b c)])
def zHV (N:Nat)(a0:Kept)(a1:Int):OA:=
 (oN (zI a1 0 (wsub .i64 (ln a0.Known) 1)) (cond (zL a1 0 (wsub .i64 (ln a0.Known) 1)) (some [(aB (ilt a1 (ln a0.Slots)))]) oF))
theorem zR4 (a0:Kept)(a1:Int)(hc:znV a0 a1=true):∃N,zHV N a0 a1=some [aB (zhz a0 a1)]:=by
 have hs:=zD.1 hc;refine ⟨0,?_⟩;unfold zHV zhz zcY oN;simp only[zI,zQi,zo0 hs.1,cT];cases hh:hasB a1 (ln a0.Known)
 .rfl
 .simp only [cT,has_lt hh]
theorem zLG:vF 158 zB0:=kF2 zQO zq zn zu (zo []) zR4
def z3r:zO:=[(158,zB0)]++z3q
theorem zFF:zF z3r:=zh zLG zQO
@[simp] abbrev zkF (k:Kept)(p:Int):Bool:=pc (SmK k)
@[simp] abbrev zjU (k:Kept)(p:Int):Kept:=zbG k p
def zBG:Run:=rF2 (dT .kept) dI fun b c=>(zkF b c,[aT .kept (zjU b c)])
def zHC (N:Nat)(a0:Kept)(a1:Int):OA:=
 let y0:=(zdg a0); (oN (zft a0) (oN (znV y0 a1) (cond (zhz y0 a1) (oN (inb a1 (ln y0.Known)) (share (up y0.Known a1 false) (fun x3=>(oN zck (oN (inb a1 (ln y0.Slots)) (share (up y0.Slots a1 zbq) (fun x4=>(some [(aT .kept (⟨x3,x4⟩:Kept))])))))))) (some [(aT .kept y0)]))))
theorem zRJ (a0:Kept)(a1:Int)(hc:zkF a0 a1=true):∃N,zHC N a0 a1=some [aT .kept (zjU a0 a1)]:=by
 have hs:=zD.1 hc;refine ⟨0,?_⟩;unfold zHC zjU oN
 conv=>zeta
 refine must (zbr ((zvQ _).2 hs)) (must (zbr hs) ?_);unfold zbG;cases hh:zcY a0 a1
 .simp only [zhz,zdg,hh,cF]
 .simp only [zhz,zdg,hh,cT];unfold zcY at hh;obtain ⟨h1,h2⟩:=zcw.1 hh;simp only[zRi,h1,h2,cT,share,zck]
theorem zLn:vF 262 zBG:=kF2 zFF zq zn zu (zo []) zRJ
@[simp] abbrev zxD (k:Kept)(p:Int):Bool:=pc (SmK k)
@[simp] abbrev zsl (k:Kept)(p:Int):Kept:=zbG k p
def zBn:Run:=rF2 (dT .kept) dI fun b c=>(zxD b c,[aT .kept (zsl b c)])
def zHi (N:Nat)(a0:Kept)(a1:Int):OA:=
 let y0:=(zc2 a0); (oN (zfE a0) (oN (zdl a1 (ln a0.Known)) (cond (zdH a1 (ln a0.Known)) (oN (zdl a1 (ln a0.Slots)) (cond (zdH a1 (ln a0.Slots)) (oN (inb a1 (ln y0.Known)) (share (up y0.Known a1 false) (fun x3=>(oN zcy (oN (inb a1 (ln y0.Slots)) (share (up y0.Slots a1 zbV) (fun x4=>(some [(aT .kept (⟨x3,x4⟩:Kept))])))))))) (some [(aT .kept y0)]))) (some [(aT .kept y0)]))))
theorem zRo (a0:Kept)(a1:Int)(hc:zxD a0 a1=true):∃N,zHi N a0 a1=some [aT .kept (zsl a0 a1)]:=by
 have hs:=zD.1 hc;refine ⟨0,?_⟩;unfold zHi zsl oN
 conv=>zeta
 refine must (zbr hs) (must rfl ?_);unfold zbG zcY;simp only[zdH,zdl,zc2,zRi,share,zcy,cT];cases hasB a1 (ln a0.Known)
 .rfl
 .cases hasB a1 (ln a0.Slots)<;>rfl
theorem zK4:vF 228 zBn:=kF2 zFF zq zn zu (zo []) zRo
def z3s:zO:=[(262,zBG),(228,zBn)]++z3r
theorem zr5:zF z3s:=zh zLn (zh zK4 zFF)
def zea (k:Kept)(l:List Int):Kept:=l.foldl zbG k
theorem zVX:∀(l:List Int) {k:Kept},SmK k->SmK (zea k l)
 | [],_,h=>h
 | p :: l,k,h=>zVX l (zn0 (p:=p) h)
theorem zxu {ρ:Type}(K:List Bool×List Slot->Option ρ):∀(l:List Int) (i:Nat) (k:Kept),SmK k ->
 goL (fun _ x (t:List Bool×List Slot) κ=>bif pc (SmK ⟨t.1,t.2⟩) then κ ((zbG ⟨t.1,t.2⟩ x).Known,(zbG ⟨t.1,t.2⟩ x).Slots) else none) K l i (k.Known,k.Slots)=K ((zea k l).Known,(zea k l).Slots)
 | [],_,_,_=>rfl
 | x :: l,i,k,h=>by
  have e:pc (SmK ⟨k.Known,k.Slots⟩)=true:=zbr h;simp only[goL,e,cT];exact zxu K l (i+1) (zbG k x) (zn0 h)
def zCr (l:List Slot)(p:Int):List Int:=idxs (fun (s:Slot)=>ieq s.Page p) l 0
def zg4 (k:Kept)(l:List Slot)(p:Int):Kept:=zea k (zCr l p)
theorem z2p {k:Kept}(l:List Slot)(p:Int)(h:SmK k):SmK (zg4 k l p):=zVX _ h
@[simp] abbrev zkE (k:Kept)(l:List Slot)(p:Int):Bool:=pc (SmK k/\l.length<=1048576)
@[simp] abbrev zsW (k:Kept)(l:List Slot)(p:Int):Kept:=zg4 k l p
def zsM:Run:=rF3 (dT .kept) (dS .slot) dI fun b c d=>(zkE b c d,[aT .kept (zsW b c d)])
def zvM (N:Nat)(a0:Kept)(a1:lS)(a2:Int):OA:=
 (oN (zft a0) (oN (zyj a1 a2) (iter (σ:=(Int×((List Int)×(lB×(lS×(lB×(lS×Unit))))))) N (fun r4 s5=>let y1:=(ix s5.2.1 s5.1 0);let y0:=(⟨s5.2.2.1,s5.2.2.2.1⟩:Kept); (cond (ilt s5.1 (ln s5.2.1)) (oN (inb s5.1 (ln s5.2.1)) (oN (zkF y0 y1) (r4 ((zG .i64 s5.1 1),(s5.2.1,((zjU y0 y1).Known,((zjU y0 y1).Slots,(s5.2.2.2.2.1,(s5.2.2.2.2.2.1,()))))))))) (some [(aT .kept y0)]))) (0,((zoP a1 a2),((zdg a0).Known,((zdg a0).Slots,([],([],())))))))))
def zHc:FuncId->Nat->Option Tmpl:=zo [(220,0,{ n:=27,tm:=[(3,.lp 0 0),(6,.lp 1 0),(7,.sl 0 []),(8,ti)],lo:=[(0,[.sl 1 [],.sl 2 []]),(1,[.sl 3 [],.sl 4 []])],ro:=[(0,.int,true),(1,.bool,true),(2,.slot,true),(3,.bool,true),(4,.slot,true)] })]
theorem zGJ (a0:Kept)(a1:List Slot)(a2:Int)(hc:zkE a0 a1 a2=true):∃N,zvM N a0 a1 a2=some [aT .kept (zsW a0 a1 a2)]:=by
 obtain ⟨hs,hs2⟩:=zD.1 hc;have hl:(zoP a1 a2).length<=big:=jC (zxR _ a1 0) (zcP hs2).1;refine zcd fun N hNN=>?_;unfold zvM oN
 conv=>zeta
 refine must (zbr ((zvQ _).2 hs)) (must (zbr (by omega)) ?_)
 refine (zZ (zoP a1 a2) (fun i (t:lB×lS)=>((i:Int),(zoP a1 a2),t.1,t.2,[],[],())) _ (fun _ (x:Int) (t:List Bool×List Slot) κ=>bif pc (SmK ⟨t.1,t.2⟩) then κ ((zbG ⟨t.1,t.2⟩ x).Known,(zbG ⟨t.1,t.2⟩ x).Slots) else none) (fun (t:lB×lS)=>(some [(.agg (Ty.cells .kept (⟨t.1,t.2⟩:Kept)))])) (fun i hi t rec=>?_) (fun t rec=>?_) _ ((zdg a0).Known,(zdg a0).Slots) (hNN hl)).trans ?_
 .simp only [zbo hi,zS hi,zbc hi,zV hi hl,cT]
 .simp only [zbg,cF]
 exact zxu _ _ 0 a0 hs
theorem zAS:vF 220 zsM:=kF3 zr5 zq zn zu zHc zGJ
@[simp] abbrev zok (k:Kept)(l:List Slot)(p:Int):Bool:=pc (SmK k/\l.length<=1048576)
@[simp] abbrev zsm (k:Kept)(l:List Slot)(p:Int):Kept:=zg4 k l p
def zsE:Run:=rF3 (dT .kept) (dS .slot) dI fun b c d=>(zok b c d,[aT .kept (zsm b c d)])
def zvE (N:Nat)(a0:Kept)(a1:lS)(a2:Int):OA:=
 (oN (zfE a0) (oN (zxL a1 a2) (iter (σ:=(Int×(Int×((List Int)×(lB×(lS×(lB×(lS×Unit)))))))) N (fun r4 s5=>let y1:=(ix s5.2.2.1 s5.2.1 0);let y0:=(⟨s5.2.2.2.2.2.1,s5.2.2.2.2.2.2.1⟩:Kept); (cond (ilt s5.2.1 s5.1) (oN (inb s5.2.1 (ln s5.2.2.1)) (oN (zxD y0 y1) (r4 (s5.1,((zG .i64 s5.2.1 1),(s5.2.2.1,(s5.2.2.2.1,(s5.2.2.2.2.1,((zsl y0 y1).Known,((zsl y0 y1).Slots,())))))))))) (some [(aT .kept y0)]))) ((ln (zjB a1 a2)),(0,((zjB a1 a2),([],([],((zc2 a0).Known,((zc2 a0).Slots,()))))))))))
def zG6:FuncId->Nat->Option Tmpl:=zo [(178,0,{ n:=25,tm:=[(6,.lp 0 0),(7,.lp 1 0),(14,.sl 0 []),(15,ti),(16,ti)],lo:=[(0,[.sl 1 [],.sl 2 []]),(1,[.sl 3 [],.sl 4 []])],ro:=[(0,.int,true),(1,.bool,true),(2,.slot,true),(3,.bool,true),(4,.slot,true)] })]
theorem zGz (a0:Kept)(a1:List Slot)(a2:Int)(hc:zok a0 a1 a2=true):∃N,zvE N a0 a1 a2=some [aT .kept (zsm a0 a1 a2)]:=by
 obtain ⟨hs,hs2⟩:=zD.1 hc;have hl:(zjB a1 a2).length<=big:=jC (zxR _ a1 0) (zcP hs2).1;refine zcd fun N hNN=>?_;unfold zvE oN
 conv=>zeta
 refine must (zbr hs) (must (zbr (by omega)) ?_)
 refine (zZ (zjB a1 a2) (fun i (t:lB×lS)=>((ln (zjB a1 a2)),(i:Int),(zjB a1 a2),[],[],t.1,t.2,())) _ (fun _ (x:Int) (t:List Bool×List Slot) κ=>bif pc (SmK ⟨t.1,t.2⟩) then κ ((zbG ⟨t.1,t.2⟩ x).Known,(zbG ⟨t.1,t.2⟩ x).Slots) else none) (fun (t:lB×lS)=>(some [(.agg (Ty.cells .kept (⟨t.1,t.2⟩:Kept)))])) (fun i hi t rec=>?_) (fun t rec=>?_) _ ((zc2 a0).Known,(zc2 a0).Slots) (hNN hl)).trans ?_
 .simp only [zbo hi,zS hi,zbc hi,zV hi hl,cT]
 .simp only [zbg,cF]
 exact zxu _ _ 0 a0 hs
theorem zAK:vF 178 zsE:=kF3 zr5 zq zn zu zG6 zGz
def flushed (l:List Entry)(p:Int):List Entry:=l.filter fun e=>!ieq e.Host p
theorem zEx (l:List Entry)(p:Int):(flushed l p).length<=l.length:=k9 _ _
theorem zkm {α ρ:Type}(p:α->Bool)(K:List α->Option ρ):∀(l:List α) (i:Nat) (acc:List α),acc.length+l.length<=2147483648 ->
 goL (fun _ x acc κ=>bif p x then (cond (few (ln (ap acc [x]))) (κ (ap acc [x])) none) else κ acc) K l i acc=K (acc++l.filter p)
 | [],i,acc,_=>by simp[goL]
 | x :: l,i,acc,h=>by
  simp only[qV]at h;simp only[goL];cases hp:p x
  .rw [cF,zkm p K l (i+1) acc (by omega),List.filter_cons_of_neg (by simp[hp])]
  .rw [cT,zgD (by simp[ap];omega),cT,zkm p K l (i+1) _ (by simp[ap];omega),List.filter_cons_of_pos hp]
   simp[ap]
@[simp] abbrev zgX (l:List Entry)(p:Int):Bool:=pc (l.length<=1048576)
@[simp] abbrev zpr (l:List Entry)(p:Int):List Entry:=flushed l p
def zuk:Run:=rF2 (dS .entry) dI fun b c=>(zgX b c,[aS .entry (zpr b c)])
def zyN (N:Nat)(a0:lE)(a1:Int):OA:=
 (iter (σ:=(Int×(Int×(lE×(lE×Unit))))) N (fun r3 s4=>let y1:=s4.2.2.1;let y0:=(ix y1 s4.2.1 zdL); (cond (ilt s4.2.1 (ln y1)) (oN (inb s4.2.1 (ln y1)) (cond (ine y0.Host s4.1) (oN (inb s4.2.1 (ln y1)) (oN (few (ln (ap s4.2.2.2.1 [y0]))) (r3 (s4.1,((zG .i64 s4.2.1 1),(y1,((ap s4.2.2.2.1 [y0]),()))))))) (r3 (s4.1,((zG .i64 s4.2.1 1),(y1,(s4.2.2.2.1,()))))))) (some [(aS .entry s4.2.2.2.1)]))) (a1,(0,(a0,([],())))))
def zKG:FuncId->Nat->Option Tmpl:=zo [(221,0,{ n:=29,tm:=[(0,.sl 0 []),(1,ti),(5,.sl 1 []),(6,ti)],lo:=[],ro:=[(0,.entry,false),(1,.entry,true)] })]
theorem zJC (a0:List Entry)(a1:Int)(hc:zgX a0 a1=true):∃N,zyN N a0 a1=some [aS .entry (zpr a0 a1)]:=by
 have hs:=zD.1 hc;have hl:=zcP hs;refine zcd fun N hNN=>?_;unfold zyN oN
 conv=>zeta
 refine (zZ a0 (fun i (t:lE)=>(a1,(i:Int),a0,t,())) _ (fun _ (x:Entry) (t:List Entry) κ=>bif !ieq x.Host a1 then (cond (few (ln (ap t [x]))) (κ (ap t [x])) none) else κ t) (fun (t:lE)=>(some [(.one (.s .entry t))])) (fun i hi t rec=>?_) (fun t rec=>?_) _ ([]) (hNN hl.1)).trans ?_
 .simp only [zbo hi,zS hi,zbc hi,zV hi hl.1,cT];rfl
 .simp only [zbg,cF]
 exact zkm (fun e=>!ieq e.Host a1) _ a0 0 [] (by simpa using hl.2)
theorem zDf:vF 221 zuk:=kF2 zr5 zq zn zu zKG zJC
@[simp] abbrev zgS (l:List Entry)(p:Int):Bool:=pc (l.length<=1048576)
@[simp] abbrev ziY (l:List Entry)(p:Int):List Entry:=flushed l p
def zt3:Run:=rF2 (dS .entry) dI fun b c=>(zgS b c,[aS .entry (ziY b c)])
def zyz (N:Nat)(a0:lE)(a1:Int):OA:=
 (iter (σ:=(Int×(Int×(Int×(lE×(lE×Unit)))))) N (fun r3 s4=>let y1:=s4.2.2.2.2.1;let y0:=(ix y1 s4.2.1 zdL); (cond (ilt s4.2.1 s4.1) (oN (inb s4.2.1 (ln y1)) (cond (nB (ieq y0.Host s4.2.2.1)) (oN (few (ln (ap s4.2.2.2.1 [y0]))) (r3 (s4.1,((zG .i64 s4.2.1 1),(s4.2.2.1,((ap s4.2.2.2.1 [y0]),(y1,()))))))) (r3 (s4.1,((zG .i64 s4.2.1 1),(s4.2.2.1,(s4.2.2.2.1,(y1,())))))))) (some [(aS .entry s4.2.2.2.1)]))) ((ln a0),(0,(a1,([],(a0,()))))))
def zKz:FuncId->Nat->Option Tmpl:=zo [(209,0,{ n:=25,tm:=[(1,.fn 229 [0]),(5,.sl 0 []),(9,.sl 1 []),(10,ti),(11,ti)],lo:=[(0,[ti])],ro:=[(0,.entry,true),(1,.entry,false)] })]
theorem zJn (a0:List Entry)(a1:Int)(hc:zgS a0 a1=true):∃N,zyz N a0 a1=some [aS .entry (ziY a0 a1)]:=by
 have hs:=zD.1 hc;have hl:=zcP hs;refine zcd fun N hNN=>?_;unfold zyz oN nB
 conv=>zeta
 refine (zZ a0 (fun i (t:lE)=>((ln a0),(i:Int),a1,t,a0,())) _ (fun _ (x:Entry) (t:List Entry) κ=>bif !ieq x.Host a1 then (cond (few (ln (ap t [x]))) (κ (ap t [x])) none) else κ t) (fun (t:lE)=>(some [(.one (.s .entry t))])) (fun i hi t rec=>?_) (fun t rec=>?_) _ ([]) (hNN hl.1)).trans ?_
 .simp only [zbo hi,zS hi,zbc hi,zV hi hl.1,cT];cases ieq a0[i].Host a1<;>rfl
 .simp only [zbg,cF]
 exact zkm (fun e=>!ieq e.Host a1) _ a0 0 [] (by simpa using hl.2)
theorem zC1:vF 179 zt3:=kF2 zr5 zq zn zu zKz zJn
def zWv:zO:=[(220,zsM),(178,zsE),(221,zuk),(179,zt3)]++z3s
theorem zFG:zF zWv:=zh zAS (zh zAK (zh zDf (zh zC1 zr5)))
def zj9 (gs:List Guest)(p:Int):Nat->List Kept->List Kept
 | 0,ts=>ts
 | n+1,ts=>up (zj9 gs p n ts) (n:Int) (zg4 (ix (zj9 gs p n ts) (n:Int) zcK) (ix gs (n:Int) zx).Live p)
theorem zoX (gs:List Guest)(p:Int):∀(n:Nat) (ts:List Kept),(zj9 gs p n ts).length=ts.length
 | 0,_=>rfl
 | n+1,ts=>by simp only[zj9,zf2];exact zoX gs p n ts
theorem zuU (gs:List Guest)(p:Int):∀(n:Nat) (ts:List Kept),n<=ts.length->zAl ts->zAl (zj9 gs p n ts)
 | 0,_,_,h=>h
 | n+1,ts,hn,h=>by
  have ih:=zuU gs p n ts (by omega) h
  have hl:n<(zj9 gs p n ts).length:=by rw[zoX];omega
  exact zw4 ih (z2p _ _ (by rw[zbc hl];exact ih.2 _ (jG hl)))
def zjg (x:Mon)(p:Int)(n:Nat):Mon:={ x with Tables:=zj9 x.Guests p n x.Tables }
theorem z0m {x:Mon}{p:Int}{n:Nat}(hn:n<=x.Tables.length)(h:ze8 x):ze8 (zjg x p n):=⟨h.1,h.2.1,h.2.2.1,h.2.2.2.1,h.2.2.2.2.1,zuU _ _ _ _ hn h.2.2.2.2.2⟩
def zb6 (h:Host)(m p:Int)(s:Slot):Host :=
 bif ine (ix (ix h.Mons m zf).Outer p zK).Page (-1)
 then ⟨h.Memory,up h.Mons m { zjg (ix h.Mons m zf) p (ix h.Mons m zf).Tables.length with Outer:=up (ix h.Mons m zf).Outer p s },flushed h.Buffer (ix (ix h.Mons m zf).Outer p zK).Page,flushed h.IoBuffer (ix (ix h.Mons m zf).Outer p zK).Page⟩
 else ⟨h.Memory,up h.Mons m { zjg (ix h.Mons m zf) p (ix h.Mons m zf).Tables.length with Outer:=up (ix h.Mons m zf).Outer p s },h.Buffer,h.IoBuffer⟩
def z5W (h:Host)(m p:Int):Prop:=hasB m (ln h.Mons)=true/\hasB p (ln (ix h.Mons m zf).Outer)=true/\(ix h.Mons m zf).Tables.length<=(ix h.Mons m zf).Guests.length
@[simp] abbrev zeF (h:Host)(m p:Int)(s:Slot):Bool:=pc (zcb h/\z5W h m p)
@[simp] abbrev zgi (h:Host)(m p:Int)(s:Slot):Host:=zb6 h m p s
def zqN:List AV->Option (Bool×List AV)
 | [.agg [.s (.sl .int) b,.s .mon c,.s .entry d,.s .entry e],.one (.i .i64 f),.one (.i .i64 g),.agg [.i .i64 h,.i .i64 j]]=>some ((zeF (⟨b,c,d,e⟩:Host) f g (⟨h,j⟩:Slot)),[aH (zgi (⟨b,c,d,e⟩:Host) f g (⟨h,j⟩:Slot))])
 | _=>none
def zu0 (N:Nat)(a0:Host)(a1 a2:Int)(a3:Slot):OA:=
 let y7:=(ix a0.Mons a1 zf); (oN (inb a1 (ln a0.Mons)) (oN (inb a2 (ln y7.Outer)) (iter (σ:=(Int×(Int×(Int×(Int×(Int×(Int×(Int×(Int×(Int×(Int×(Int×(Int×(Int×(Int×(Int×(lM×(lN×(lE×(lE×(lM×(lN×(lE×(lE×Unit)))))))))))))))))))))))) N (fun r5 s6=>let y19:=s6.2.2.1;let y18:=s6.2.2.2.2.2.2.2.2.2.2.2.1;let y17:=s6.2.2.2.2.2.2.2.2.2.2.2.2.1;let y15:=s6.2.2.2.2.2.2.2.2.2.2.2.2.2.2.1;let y14:=s6.2.2.2.2.2.2.2.2.2.2.2.2.2.2.2.1;let y13:=s6.2.2.2.2.2.2.2.1;let y11:=s6.2.2.2.2.2.2.2.2.1;let y10:=s6.2.2.2.1;let y9:=s6.2.2.2.2.2.2.2.2.2.2.1;let y8:=s6.2.2.2.2.2.2.2.2.2.2.2.2.2.2.2.2.2.1;let y6:=s6.2.2.2.2.2.2.2.2.2.2.2.2.2.2.2.2.2.2.1;let y5:=s6.2.2.2.2.2.2.1;let y3:=s6.2.2.2.2.2.2.2.2.2.1;let y1:=s6.2.2.2.2.2.2.2.2.2.2.2.2.2.1;let y0:=s6.2.2.2.2.2.2.2.2.2.2.2.2.2.2.2.2.1;let y20:=(ix y0 y3 zf).Guests;let y16:=(ix y20 y10 zx).Live;let y12:=(ix y0 y5 zf);let y4:=(ix y0 y1 zf).Tables;let y2:=(up y0 y5 ({ y12 with Outer:=(up y12.Outer s6.2.1 (⟨s6.2.2.2.2.1,s6.2.2.2.2.2.1⟩:Slot)) }:Mon)); (cond (ilt y10 (ln y4)) (oN (inb y10 (ln y4)) (oN (inb y10 (ln y20)) (oN (zkE (ix y4 y10 zcK) y16 s6.2.1) (oN (inb y10 (ln y4)) (share (up y0 y1 ({ (ix y0 y1 zf) with Tables:=(up y4 y10 (zsW (ix y4 y10 zcK) y16 s6.2.1)) }:Mon)) (fun x7=>(r5 (s6.1,(s6.2.1,(y19,((zG .i64 y10 1),(s6.2.2.2.2.1,(s6.2.2.2.2.2.1,(y5,(y13,(y11,(y3,(y9,(y18,(y17,(y1,(y15,(y14,(x7,(y8,(y6,(s6.2.2.2.2.2.2.2.2.2.2.2.2.2.2.2.2.2.2.2.1,(s6.2.2.2.2.2.2.2.2.2.2.2.2.2.2.2.2.2.2.2.2.1,(s6.2.2.2.2.2.2.2.2.2.2.2.2.2.2.2.2.2.2.2.2.2.1,(s6.2.2.2.2.2.2.2.2.2.2.2.2.2.2.2.2.2.2.2.2.2.2.1,())))))))))))))))))))))))))))))) (cond (ine y19 (-1)) (oN (zgX y8 y19) (oN (zgX y6 y19) (oN (inb s6.2.1 (ln y12.Outer)) (share y2 (fun x7=>(oN (inb s6.1 (ln x7)) (oN (cond (cond (cond (cond (cond (cond (ieq y1 s6.1) true false) (cond (ieq y9 s6.1) true false) false) (cond (ieq y3 s6.1) true false) false) (cond (ieq y11 s6.1) true false) false) (cond (ieq y13 s6.1) true false) false) (cond (ieq y5 s6.1) true false) false) (share (up x7 s6.1 ({ (ix x7 y5 zf) with Out:=(ix x7 y13 zf).Out,Dirty:=(ix x7 y11 zf).Dirty,Guests:=(ix x7 y3 zf).Guests,Outs:=(ix x7 y9 zf).Outs,Pending:=y18,Traps:=y17,Tables:=(ix x7 y1 zf).Tables,Own:=y15 }:Mon)) (fun x8=>(some [(aH (⟨y14,x8,(zpr y8 y19),(zpr y6 y19)⟩:Host))])))))))))) (oN (inb s6.2.1 (ln y12.Outer)) (share y2 (fun x7=>(oN (inb s6.1 (ln x7)) (oN (cond (cond (cond (cond (cond (cond (ieq y1 s6.1) true false) (cond (ieq y9 s6.1) true false) false) (cond (ieq y3 s6.1) true false) false) (cond (ieq y11 s6.1) true false) false) (cond (ieq y13 s6.1) true false) false) (cond (ieq y5 s6.1) true false) false) (share (up x7 s6.1 ({ (ix x7 y5 zf) with Out:=(ix x7 y13 zf).Out,Dirty:=(ix x7 y11 zf).Dirty,Guests:=(ix x7 y3 zf).Guests,Outs:=(ix x7 y9 zf).Outs,Pending:=y18,Traps:=y17,Tables:=(ix x7 y1 zf).Tables,Own:=y15 }:Mon)) (fun x8=>(some [(aH (⟨y14,x8,y8,y6⟩:Host))]))))))))))) (a1,(a2,((ix y7.Outer a2 zK).Page,(0,(a3.Page,(a3.Rights,(a1,(a1,(a1,(a1,(a1,(y7.Pending,(y7.Traps,(a1,(y7.Own,(a0.Memory,(a0.Mons,(a0.Buffer,(a0.IoBuffer,([],([],([],([],()))))))))))))))))))))))))))
def zP0:FuncId->Nat->Option Tmpl:=zo [(160,0,{ n:=70,tm:=[(1,ti),(2,ti),(4,.lp 0 0),(7,.lp 1 0),(8,.lp 2 0),(9,.lp 3 0),(10,ti),(11,ti)],lo:=[(0,[.sl 0 [],.sl 1 [],.sl 2 [],.sl 3 []]),(1,[ti,ti]),(2,[.sl 4 [],.sl 5 [],.sl 6 [],.sl 7 []]),(3,[.sl 1 [0],.sl 1 [1],.sl 1 [2],.sl 1 [3],.sl 1 [4],ti,ti,.sl 1 [7],ti])],ro:=[(0,(.sl .int),true),(1,.mon,true),(2,.entry,true),(3,.entry,true),(4,(.sl .int),true),(5,.mon,true),(6,.entry,true),(7,.entry,true)] })]
theorem zSq (N:Nat)(a0:Host)(a1 a2:Int)(a3:Slot):zCC (cQ zWv zor zMK zka) zP0 N 12 160 [true,true,true,true,false,false,false,false] 1 1 [[0],[1],[2],[4],[7]] .mon [aH a0,aI a1,aI a2,aT .slot a3]=zu0 N a0 a1 a2 a3:=by kernel_rfl
theorem zPG (a0:Host)(a1 a2:Int)(a3:Slot)(hb:zbE big [aH a0,aI a1,aI a2,aT .slot a3])(hc:zeF a0 a1 a2 a3=true):∃N,zu0 N a0 a1 a2 a3=some [aH (zgi a0 a1 a2 a3)]:=by
 obtain ⟨hs,h1,h2,h3⟩:=zD.1 hc;have hH:=(zM a0).1 hs;have hm:ze8 (ix a0.Mons a1 zf):=hH.2.1.2 _ (zbv h1 _);obtain ⟨k,rfl,hk⟩:=zdu (n:=a0.Mons.length) h1;have hT:=(zcP hm.2.2.2.2.2.1).1;refine zcd fun N hNN=>?_;unfold zu0 oN
 conv=>zeta
 refine must h1 (must h2 ?_);refine zCJ (ix a0.Mons (k:Int) zf).Tables.length (fun i (t:List Mon)=>((k:Int),a2,(ix (ix a0.Mons (k:Int) zf).Outer a2 zK).Page,(i:Int),a3.Page,a3.Rights,(k:Int),(k:Int),(k:Int),(k:Int),(k:Int),(ix a0.Mons (k:Int) zf).Pending,(ix a0.Mons (k:Int) zf).Traps,(k:Int),(ix a0.Mons (k:Int) zf).Own,a0.Memory,t,a0.Buffer,a0.IoBuffer,[],[],[],[],())) _
  (fun i t=>t=up a0.Mons (k:Int) (zjg (ix a0.Mons (k:Int) zf) a2 i)) (fun _ _=>some [AV.agg (zbd (zb6 a0 (k:Int) a2 a3))]) (fun i t rec hi hI hr=>?_) (fun t rec hI=>?_) _ 0 a0.Mons ?_ (jU _) ?_
 .subst hI;have hi2:i<(zj9 (ix a0.Mons (k:Int) zf).Guests a2 i (ix a0.Mons (k:Int) zf).Tables).length:=by rw[zoX];exact hi
  have hi3:i<(ix a0.Mons (k:Int) zf).Guests.length:=by omega
  have hf:zkE (ix (zj9 (ix a0.Mons (k:Int) zf).Guests a2 i (ix a0.Mons (k:Int) zf).Tables) (i:Int) zcK) (ix (ix a0.Mons (k:Int) zf).Guests (i:Int) zx).Live a2=true :=
   zbr ⟨by rw[zbc hi2];exact (zuU _ _ _ _ (by omega) hm.2.2.2.2.2).2 _ (jG hi2),by rw[zbc hi3];exact (hm.2.2.2.1.2 _ (jG hi3)).2.2.1⟩
  simp only[zdD hk,zuX,zjg,zbo hi2,zS hi2,zS hi3,hf,cT,share,zV hi hT];exact hr _ rfl
 .subst hI;simp only[zdD hk,zuX,zf2,zjg,ln,zoX,zd7,show ilt (((ix a0.Mons (k:Int) zf).Tables.length:Nat):Int) (((ix a0.Mons (k:Int) zf).Tables.length:Nat):Int)=false from qJ (by omega),cT,cF,share]
  have h1':inb (k:Int) ((a0.Mons.length:Nat):Int)=true:=h1;have h2':inb a2 (((ix a0.Mons (k:Int) zf).Outer.length:Nat):Int)=true:=h2;have f1:zgX a0.Buffer (ix (ix a0.Mons (k:Int) zf).Outer a2 zK).Page=true:=zbr hH.2.2.1;have f2:zgX a0.IoBuffer (ix (ix a0.Mons (k:Int) zf).Outer a2 zK).Page=true:=zbr hH.2.2.2;simp only[h1',h2',f1,f2,cT];unfold zb6;cases ine (ix (ix a0.Mons (k:Int) zf).Outer a2 zK).Page (-1)<;>rfl
 .exact (zNa hk _).symm
 .exact hNN (by omega)
theorem zI9:zdN Tryz.prog 160 [true,true,true,true,false,false,false,false] (some (1,1,[[0],[1],[2],[4],[7]])) zqN:=by
 refine zkn (kt:=.mon) (zcW zFG zq zn zu) (zd9 (by kernel_rfl)) (by kernel_rfl) ?_
 intro avs rs hl hr h;have hb:=zhG hr;unfold zqN at h;split at h
 .obtain ⟨hc,rfl⟩:=zdS h;obtain ⟨N,hN⟩:=zPG _ _ _ _ (by exact hb) hc
  exact ⟨⟨_,rfl⟩,rfl,_,N,12,(zSq N _ _ _ _ ).trans hN⟩
 .cases h
def zTc:zeA:=[(160,([true,true,true,true,false,false,false,false],(some (1,1,[[0],[1],[2],[4],[7]])),zqN))]++zka
theorem zdb:zdG zTc:=zmk zu (by
 intro x hx;simp only[qG,qW,or_false]at hx;rcases hx with rfl
 .exact zI9)
def zTB (x:Mon)(p:Int):Mon:={ x with Dirty:=up x.Dirty p false }
def zoZ (h:Host)(m p:Int):Host:={ h with Mons:=up h.Mons m (zTB (ix h.Mons m zf) p) }
def zsf (h:Host)(m p:Int):Host:=bif zcf h m p then (cond (zcg (ix (ix h.Mons m zf).Outer p zK) noSlot) (zoZ h m p) (zb6 (zoZ h m p) m p ⟨(ix (ix h.Mons m zf).Outer p zK).Page,1⟩)) else h
theorem zxz:∀(l:List Mon) (u:List Bool),zgE l u=true->∀x∈l,zdp x=true
 | [],_,_,x,hx=>by cases hx
 | m :: l,u,h,x,hx=>by
  simp only[zgE]at h;cases h1:zdp m
  .rw [h1]at h;cases h
  .rw [h1]at h;simp only[cT]at h;cases h2:zfL m.Outer u with
   | none=>rw[h2]at h;cases h
   | some u' =>
    rw[h2]at h;rcases qG.1 hx with rfl|hx
    .exact h1
    .exact zxz l u' h x hx
structure PageAt (h:Host) (m p:Int):Prop where
 hm:hasB m (ln h.Mons)=true
 hp:hasB p 8=true
 ok:zdp (ix h.Mons m zf)=true
 ho:(ix h.Mons m zf).Outer.length=8
 hd:(ix h.Mons m zf).Dirty.length=8
 ht:(ix h.Mons m zf).Tables.length=(ix h.Mons m zf).Guests.length
 hs:zcg (ix (ix h.Mons m zf).Outer p zK) noSlot=ieq (ix (ix h.Mons m zf).Outer p zK).Page (-1)
theorem zOu {s:Slot}{n:Int}(h:zdd s n=true):zcg s noSlot=ieq s.Page (-1):=by
 unfold zdd at h;cases h1:zcg s noSlot
 .rw [h1]at h;cases h2:ieq s.Page (-1)
  .rfl
  .have e:s.Page = -1:=qE h2;cases h3:igt n 0
   .rw [h3]at h;cases h
   .cases h4:win s.Page 0 (wsub .i64 n 1)
    .rw [h3,h4]at h;cases h
    .have:=(zfm.1 h4).1;omega
 .unfold zcg at h1;rw[qD]at h1;exact h1.1.symm
theorem zJX {h:Host}{m p:Int}(hp:zcf h m p=true):PageAt h m p:=by
 unfold zcf at hp;simp only[zcw]at hp;obtain ⟨h0,h1,h2⟩:=hp;unfold zbI at h0;simp only[zcw]at h0;have hok:=zxz _ _ h0.2.2.2.2 _ (zbv h1 zf);have hk:=hok;unfold zdp at hk;simp only[zcw]at hk;have ho:(ix h.Mons m zf).Outer.length=8:=by have:=zmE hk.2.2.1;simp only[ln] at this;omega
 refine ⟨h1,h2,hok,ho,?_,?_,?_⟩
 .have:ln (ix h.Mons m zf).Dirty=8:=qE hk.2.2.2.2.1;simp only[ln] at this;omega
 .have:ln (ix h.Mons m zf).Tables=ln (ix h.Mons m zf).Guests:=qE hk.2.1;simp only[ln] at this;omega
 .have ht:=hk.2.2.1;unfold zcn at ht;simp only[zcw]at ht;have hi:hasB p (ln (ix h.Mons m zf).Outer)=true:=by rw[ln,ho];exact h2
  exact zOu (qL.1 ht.1 _ (zbv hi _))
theorem zS0 {x:Mon}{p:Int}(h:ze8 x):ze8 (zTB x p):=⟨h.1,h.2.1,by simpa [zTB] using h.2.2.1,h.2.2.2⟩
theorem zyq {h:Host}{m p:Int}(hm:hasB m (ln h.Mons)=true)(hs:SmH h):SmH (zoZ h m p):=⟨hs.1,zia hs.2.1 (zS0 (hs.2.1.2 _ (zbv hm _))),hs.2.2⟩
theorem zFf {h:Host}{m p:Int}{s:Slot}(hm:hasB m (ln h.Mons)=true)(hs:SmH h):SmH (zb6 h m p s):=by
 have hx:=hs.2.1.2 _ (zbv hm zf);have ht:=z0m (p:=p) (qX _) hx;have hM:zpP (up h.Mons m { zjg (ix h.Mons m zf) p (ix h.Mons m zf).Tables.length with Outer:=up (ix h.Mons m zf).Outer p s }):=zia hs.2.1 ⟨by simpa using hx.1,ht.2⟩
 unfold zb6;cases ine (ix (ix h.Mons m zf).Outer p zK).Page (-1)
 .exact ⟨hs.1,hM,hs.2.2⟩
 .exact ⟨hs.1,hM,jC (zEx _ _) hs.2.2.1,jC (zEx _ _) hs.2.2.2⟩
theorem zyt {h:Host}{m p:Int}(hm:hasB m (ln h.Mons)=true):hasB m (ln (zoZ h m p).Mons)=true:=by
 unfold zoZ;simpa [ln] using hm
theorem z0i {h:Host}{m p:Int}(hs:SmH h):SmH (zsf h m p):=by
 unfold zsf;cases hp:zcf h m p
 .exact hs
 .have P:=zJX hp;cases zcg (ix (ix h.Mons m zf).Outer p zK) noSlot
  .exact zFf (zyt P.hm) (zyq P.hm hs)
  .exact zyq P.hm hs
@[simp] abbrev zB7 (h:Host)(m p:Int):Bool:=pc (zcb h)
@[simp] abbrev zup (h:Host)(m p:Int):Host:=zsf h m p
@[simp] abbrev zuq (h:Host)(m p:Int):Bool:=zcf h m p
def zEX:Run:=rF3 dH dI dI fun b c d=>(zB7 b c d,[aH (zup b c d),aB (zuq b c d)])
def zNq (N:Nat)(a0:Host)(a1 a2:Int):OA:=
 let y3:=(zk a0);let y2:=(ix y3.Mons a1 zf); (oN (zbC a0) (oN (zmz y3 a1 a2) (cond (nB (zgY y3 a1 a2)) (some [(aH y3),(aB false)]) (oN (inb a1 (ln y3.Mons)) (oN (inb a2 (ln y2.Dirty)) (share (up y3.Mons a1 ({ y2 with Dirty:=(up y2.Dirty a2 false) }:Mon)) (fun x4=>let y4:=(ix x4 a1 zf).Outer;let y1:=({ y3 with Mons:=x4 }:Host);let y0:=(ix y4 a2 zK);let y5:=({ y0 with Rights:=1 }:Slot); (oN (inb a1 (ln x4)) (oN (inb a2 (ln y4)) (oN zck (cond (cond (ieq y0.Page zbq.Page) (ieq y0.Rights zbq.Rights) false) (some [(aH y1),(aB true)]) (oN (zeF y1 a1 a2 y5) (some [(aH (zgi y1 a1 a2 y5)),(aB true)])))))))))))))
theorem zUe (a0:Host)(a1 a2:Int)(hc:zB7 a0 a1 a2=true):∃N,zNq N a0 a1 a2=some [aH (zup a0 a1 a2),aB (zuq a0 a1 a2)]:=by
 have hs:=zD.1 hc;have hH:=(zM a0).1 hs;refine ⟨0,?_⟩;unfold zNq zup zuq zsf oN nB
 conv=>zeta
 refine must (zbr hs) (must rfl ?_);cases hp:zcf a0 a1 a2
 .simp only [zgY,zk,hp,cF,cT]
 .have P:=zJX hp;obtain ⟨k,rfl,hk⟩:=zdu (n:=a0.Mons.length) P.hm;simp only[zgY,zk,hp,cT,cF];have i1:inb a2 (ln (ix a0.Mons (k:Int) zf).Dirty)=true:=by rw[ln,P.hd];exact P.hp
  have i2:inb a2 (ln (ix a0.Mons (k:Int) zf).Outer)=true:=by rw[ln,P.ho];exact P.hp
  refine must P.hm (must i1 ?_);simp only[share,zdD hk,i2,cT,zck,zbq];refine must (zyt (p:=a2) P.hm) ?_;have e:∀s:Slot,zcg s noSlot=bif ieq s.Page noSlot.Page then ieq s.Rights noSlot.Rights else false:=fun s=>by
   unfold zcg;cases ieq s.Page noSlot.Page<;>rfl
  rw[<- e];cases zcg (ix (ix a0.Mons (k:Int) zf).Outer a2 zK) noSlot
  .refine zdI rfl (must (zbr ⟨(zM _).2 (zyq P.hm hH),zyt (p:=a2) P.hm,?_,?_⟩) rfl)
   .simp only [zdD hk];exact i2
   .simp only [zdD hk];exact vC P.ht
  .rfl
theorem zOO:vF 248 zEX:=kF3 zFG zq zn zdb (zo []) zUe
def zYK:zO:=[(248,zEX)]++zWv
theorem zYL:zF zYK:=zh zOO zFG
def zYM:zO:=zYK
theorem ze1:zF zYM:=zYL
def zx0 (o i t:Int):Int:=bif zgo i t then 1 else (cond (zgo o t) 2 0)
@[simp] abbrev zpC (o i t:Int):Bool:=true
@[simp] abbrev zmx (o i t:Int):Int:=zx0 o i t
def zzd:Run:=rF3 dI dI dI fun b c d=>(zpC b c d,[aI (zmx b c d)])
def zEb (N:Nat)(a0 a1 a2:Int):OA:=
 (oN (zhx a1 a2) (cond (zhd a1 a2) (some [(aI 1)]) (oN (zhx a0 a2) (cond (zhd a0 a2) (some [(aI 2)]) (some [(aI 0)])))))
theorem zPo (a0 a1 a2:Int)(hc:zpC a0 a1 a2=true):∃N,zEb N a0 a1 a2=some [aI (zmx a0 a1 a2)]:=by
 refine ⟨0,?_⟩;unfold zEb oN;refine must rfl (br (fun _=>?_) (fun _=>must rfl (br (fun _=>?_) (fun _=>?_))))
 all_goals first|rfl|(simp only [*,zmx,zx0,cT,cF]<;>rfl)|simp_all[Ty.cells,zmx,zx0]
theorem zIS:vF 304 zzd:=kF3 ze1 zq zn zdb (zo []) zPo
theorem z6C (p:Int):hasB p 3=win p 0 2:=by
 unfold hasB win ige ile
 by_cases h1:0<=p<;>by_cases h2:p<3
 .rw [qI (p:=0<=p/\p<3) ⟨h1,h2⟩,qI (p:=p≥0) h1,qI (p:=p<=2) (by omega)];rfl
 .rw [qJ (p:=0<=p/\p<3) (by omega),qJ (p:=p<=2) (by omega)];simp
 .rw [qJ (p:=0<=p/\p<3) (by omega),qJ (p:=p≥0) (by omega)];simp
 .rw [qJ (p:=0<=p/\p<3) (by omega),qJ (p:=p≥0) (by omega)];simp
theorem z6B (p:Int):hasB p 2=win p 0 1:=by
 unfold hasB win ige ile
 by_cases h1:0<=p<;>by_cases h2:p<2
 .rw [qI (p:=0<=p/\p<2) ⟨h1,h2⟩,qI (p:=p≥0) h1,qI (p:=p<=1) (by omega)];rfl
 .rw [qJ (p:=0<=p/\p<2) (by omega),qJ (p:=p<=1) (by omega)];simp
 .rw [qJ (p:=0<=p/\p<2) (by omega),qJ (p:=p≥0) (by omega)];simp
 .rw [qJ (p:=0<=p/\p<2) (by omega),qJ (p:=p≥0) (by omega)];simp
def zdq (m g:Int):Int:=bif win m 0 2 then (cond (win g 0 1) (zG .i64 (zG .i64 1 g) (zk4 .i64 m 2)) 0) else 0
@[simp] abbrev zjW (m g:Int):Bool:=true
@[simp] abbrev zrW (m g:Int):Int:=zdq m g
def zE4:Run:=rF2 dI dI fun b c=>(zjW b c,[aI (zrW b c)])
def zNx (N:Nat)(a0 a1:Int):OA:=
 (oN (zI a0 0 2) (cond (nB (zL a0 0 2)) (some [(aI 0)]) (oN (zI a1 0 1) (cond (nB (zL a1 0 1)) (some [(aI 0)]) (some [(aI (zG .i64 (zG .i64 1 a1) (zk4 .i64 a0 2)))])))))
theorem zUl (a0 a1:Int)(hc:zjW a0 a1=true):∃N,zNx N a0 a1=some [aI (zrW a0 a1)]:=by
 refine ⟨0,?_⟩;unfold zNx oN nB;refine must rfl (brN (fun _=>?_) (fun _=>must rfl (brN (fun _=>?_) (fun _=>?_))))
 all_goals first|rfl|(simp only [*,zrW,zdq,cT,cF]<;>rfl)|simp_all[Ty.cells,zrW,zdq]
theorem zOV:vF 99 zE4:=kF2 ze1 zq zn zdb (zo []) zUl
@[simp] abbrev ztU (m g:Int):Bool:=true
@[simp] abbrev zwb (m g:Int):Int:=zdq m g
def zET:Run:=rF2 dI dI fun b c=>(ztU b c,[aI (zwb b c)])
def zNm (N:Nat)(a0 a1:Int):OA:=
 (oN (zdl a0 3) (cond (nB (zdH a0 3)) (some [(aI 0)]) (oN (zdl a1 2) (cond (nB (zdH a1 2)) (some [(aI 0)]) (some [(aI (zG .i64 (zG .i64 1 a1) (zk4 .i64 a0 2)))])))))
theorem zT9 (a0 a1:Int)(hc:ztU a0 a1=true):∃N,zNm N a0 a1=some [aI (zwb a0 a1)]:=by
 refine ⟨0,?_⟩;unfold zNm oN nB;refine must rfl (brN (fun _=>?_) (fun _=>must rfl (brN (fun _=>?_) (fun _=>?_))))
 all_goals first|rfl|(simp only [*,zwb,zdq,z6C,z6B,cT,cF]<;>rfl)|simp_all[Ty.cells,zwb,zdq,z6C,z6B]
theorem zOJ:vF 90 zET:=kF2 ze1 zq zn zdb (zo []) zT9
def zhN (k:Kept)(p:Int):Bool:=bif zcY k p then ix k.Known p false else false
def zdk (k:Kept)(p:Int):Slot:=bif zhN k p then ix k.Slots p zK else noSlot
@[simp] abbrev zCR (k:Kept)(p:Int):Bool:=pc (SmK k)
@[simp] abbrev zrU (k:Kept)(p:Int):Slot:=zdk k p
@[simp] abbrev zCQ (k:Kept)(p:Int):Bool:=zhN k p
def zOp:Run:=rF2 (dT .kept) dI fun b c=>(zCR b c,[aT .slot (zrU b c),aB (zCQ b c)])
def zU9 (N:Nat)(a0:Kept)(a1:Int):OA:=
 let y0:=(ix a0.Slots a1 zK); (oN (znV a0 a1) (cond (nB (zhz a0 a1)) (oN zck (some [(.agg [(.i .i64 zbq.Page),(.i .i64 zbq.Rights)]),(aB false)])) (oN (inb a1 (ln a0.Known)) (cond (nB (ix a0.Known a1 false)) (oN zck (some [(.agg [(.i .i64 zbq.Page),(.i .i64 zbq.Rights)]),(aB false)])) (oN (inb a1 (ln a0.Slots)) (some [(.agg [(.i .i64 y0.Page),(.i .i64 y0.Rights)]),(aB true)]))))))
theorem zZq (a0:Kept)(a1:Int)(hc:zCR a0 a1=true):∃N,zU9 N a0 a1=some [aT .slot (zrU a0 a1),aB (zCQ a0 a1)]:=by
 have hs:=zD.1 hc;refine ⟨0,?_⟩;unfold zU9 zrU zCQ zdk zhN oN nB
 conv=>zeta
 refine must (zbr hs) ?_;rw[show zhz a0 a1=zcY a0 a1 from rfl]
 cases hh:zcY a0 a1
 .rfl
 .unfold zcY at hh;obtain ⟨h1,h2⟩:=zcw.1 hh;simp only[zl h1,zl h2,cT];cases ix a0.Known a1 false<;>rfl
theorem zT1:vF 101 zOp:=kF2 ze1 zq zn zdb (zo []) zZq
@[simp] abbrev zv6 (k:Kept)(p:Int):Bool:=true
@[simp] abbrev zrM (k:Kept)(p:Int):Slot:=zdk k p
@[simp] abbrev zCI (k:Kept)(p:Int):Bool:=zhN k p
def zOm:Run:=rF2 (dT .kept) dI fun b c=>(zv6 b c,[aT .slot (zrM b c),aB (zCI b c)])
def zU6 (N:Nat)(a0:Kept)(a1:Int):OA:=
 let y0:=(ix a0.Slots a1 zK); (oN (zdl a1 (ln a0.Known)) (cond (nB (zdH a1 (ln a0.Known))) (oN zcy (some [(.agg [(.i .i64 zbV.Page),(.i .i64 zbV.Rights)]),(aB false)])) (oN (zdl a1 (ln a0.Slots)) (cond (nB (zdH a1 (ln a0.Slots))) (oN zcy (some [(.agg [(.i .i64 zbV.Page),(.i .i64 zbV.Rights)]),(aB false)])) (oN (inb a1 (ln a0.Known)) (cond (nB (ix a0.Known a1 false)) (oN zcy (some [(.agg [(.i .i64 zbV.Page),(.i .i64 zbV.Rights)]),(aB false)])) (oN (inb a1 (ln a0.Slots)) (some [(.agg [(.i .i64 y0.Page),(.i .i64 y0.Rights)]),(aB true)]))))))))
theorem zZn (a0:Kept)(a1:Int)(hc:zv6 a0 a1=true):∃N,zU6 N a0 a1=some [aT .slot (zrM a0 a1),aB (zCI a0 a1)]:=by
 refine ⟨0,?_⟩;unfold zU6 zrM zCI zdk zhN zcY oN nB
 conv=>zeta
 rw[show zdH a1 (ln a0.Known)=hasB a1 (ln a0.Known) from rfl,show zdH a1 (ln a0.Slots)=hasB a1 (ln a0.Slots) from rfl]
 cases h1:hasB a1 (ln a0.Known)
 .rfl
 .cases h2:hasB a1 (ln a0.Slots)
  .rfl
  .simp only [zdl,zl h1,zl h2,cT];cases ix a0.Known a1 false<;>rfl
theorem zTY:vF 82 zOm:=kF2 ze1 zq zn zdb (zo []) zZn
def filled (k:Kept)(inner outer:List Slot)(p:Int):Kept:=bif zcY k p then (cond (hasB p (ln inner)) ⟨up k.Known p true,up k.Slots p (zba (ix inner p zK) outer)⟩ k) else k
@[simp] theorem zXY {k:Kept}{inner outer:List Slot}{p:Int}(h:SmK k):SmK (filled k inner outer p):=by
 unfold filled;cases zcY k p
 .exact h
 .cases hasB p (ln inner)
  .exact h
  .exact ⟨by simpa using h.1,by simpa using h.2⟩
@[simp] abbrev zG0 (k:Kept)(i o:List Slot)(p:Int):Bool:=pc (SmK k)
@[simp] abbrev zKb (k:Kept)(i o:List Slot)(p:Int):Kept:=filled k i o p
def zJ9:Run:=rF4 (dT .kept) (dS .slot) (dS .slot) dI fun b c d e=>(zG0 b c d e,[aT .kept (zKb b c d e)])
def zQo (N:Nat)(a0:Kept)(a1 a2:lS)(a3:Int):OA:=
 let y0:=(zdg a0); (oN (zft a0) (oN (znV y0 a3) (cond (zhz y0 a3) (cond (ilt a3 (ln a1)) (oN (inb a3 (ln y0.Known)) (share (up y0.Known a3 true) (fun x5=>(oN (inb a3 (ln a1)) (oN (zhb (ix a1 a3 zK) a2) (oN (inb a3 (ln y0.Slots)) (share (up y0.Slots a3 (ziL (ix a1 a3 zK) a2)) (fun x6=>(some [(aT .kept (⟨x5,x6⟩:Kept))]))))))))) (some [(aT .kept y0)])) (some [(aT .kept y0)]))))
theorem zXc (a0:Kept)(a1 a2:List Slot)(a3:Int)(hc:zG0 a0 a1 a2 a3=true):∃N,zQo N a0 a1 a2 a3=some [aT .kept (zKb a0 a1 a2 a3)]:=by
 have hs:=zD.1 hc;refine ⟨0,?_⟩;unfold zQo zKb filled oN
 conv=>zeta
 refine must (zbr ((zvQ _).2 hs)) (must (zbr hs) ?_);rw[show zhz (zdg a0) a3=zcY a0 a3 from rfl]
 cases hh:zcY a0 a3
 .rfl
 .unfold zcY at hh;obtain ⟨h1,h2⟩:=zcw.1 hh;rw[has_lt h1 (m:=ln a1)];cases h3:hasB a3 (ln a1)
  .rfl
  .simp only [cT,zdg,zl h1,zl h2,zl h3,share,zhb];rfl
theorem zRd:vF 103 zJ9:=kF4 ze1 zq zn zdb (zo []) zXc
@[simp] abbrev zGq (k:Kept)(i o:List Slot)(p:Int):Bool:=pc (SmK k)
@[simp] abbrev zJe (k:Kept)(i o:List Slot)(p:Int):Kept:=filled k i o p
def zJ7:Run:=rF4 (dT .kept) (dS .slot) (dS .slot) dI fun b c d e=>(zGq b c d e,[aT .kept (zJe b c d e)])
def zQl (N:Nat)(a0:Kept)(a1 a2:lS)(a3:Int):OA:=
 let y0:=(zc2 a0); (oN (zfE a0) (oN (zdl a3 (ln a0.Known)) (cond (zdH a3 (ln a0.Known)) (oN (zdl a3 (ln a0.Slots)) (cond (zdH a3 (ln a0.Slots)) (oN (zdl a3 (ln a1)) (cond (zdH a3 (ln a1)) (oN (inb a3 (ln y0.Known)) (share (up y0.Known a3 true) (fun x5=>(oN (inb a3 (ln a1)) (oN (zec (ix a1 a3 zK) a2) (oN (inb a3 (ln y0.Slots)) (share (up y0.Slots a3 (zdV (ix a1 a3 zK) a2)) (fun x6=>(some [(aT .kept (⟨x5,x6⟩:Kept))]))))))))) (some [(aT .kept y0)]))) (some [(aT .kept y0)]))) (some [(aT .kept y0)]))))
theorem zW8 (a0:Kept)(a1 a2:List Slot)(a3:Int)(hc:zGq a0 a1 a2 a3=true):∃N,zQl N a0 a1 a2 a3=some [aT .kept (zJe a0 a1 a2 a3)]:=by
 have hs:=zD.1 hc;refine ⟨0,?_⟩;unfold zQl zJe filled zcY oN
 conv=>zeta
 refine must (zbr hs) ?_;simp only[zdH,zdl,zc2,cT];cases h1:hasB a3 (ln a0.Known)
 .rfl
 .cases h2:hasB a3 (ln a0.Slots)
  .rfl
  .cases h3:hasB a3 (ln a1)
   .rfl
   .simp only [cT,zl h1,zl h2,zl h3,share,zec];rfl
theorem zQ9:vF 93 zJ7:=kF4 ze1 zq zn zdb (zo []) zW8
theorem zFN {α ρ:Type}(p:α->Bool)(r:α->Option ρ)(K:Unit->Option ρ):∀(l:List α) (i:Nat),goL (fun _ x (_:Unit) k=>bif p x then r x else k ()) K l i ()=match l.find? p with|some x=>r x|none=>K ()
 | [],_=>rfl
 | x :: l,i=>by
  simp only[goL];cases h:p x
  .rw [List.find?_cons_of_neg (by simp[h])]
   exact zFN p r K l (i+1)
  .rw [List.find?_cons_of_pos h];rfl
def zra (b:List Entry)(t p:Int):Option Entry:=b.find? fun e=>bif ieq e.Tag t then ieq e.Page p else false
@[simp] abbrev zlN (b:List Entry)(t p:Int):Bool:=true
@[simp] abbrev zlM (b:List Entry)(t p:Int):Entry:=(zra b t p).getD ⟨0,0,0,0⟩
@[simp] abbrev ziN (b:List Entry)(t p:Int):Bool:=(zra b t p).isSome
def zuj:Run:=rF3 (dS .entry) dI dI fun b c d=>(zlN b c d,[aT .entry (zlM b c d),aB (ziN b c d)])
def zyM (N:Nat)(a0:lE)(a1 a2:Int):OA:=
 (iter (σ:=(Int×(Int×(Int×(Int×(Int×(Int×(Int×(lE×Unit))))))))) N (fun r4 s5=>let y2:=s5.2.2.2.2.2.2.2.1;let y3:=(inb s5.2.2.1 (ln y2));let y1:=(r4 (s5.1,(s5.2.1,((zG .i64 s5.2.2.1 1),(s5.2.2.2.1,(s5.2.2.2.2.1,(s5.2.2.2.2.2.1,(s5.2.2.2.2.2.2.1,(y2,())))))))));let y0:=(ix y2 s5.2.2.1 zdL); (cond (ilt s5.2.2.1 (ln y2)) (oN y3 (cond (ieq y0.Tag s5.1) (oN y3 (cond (ieq y0.Page s5.2.1) (oN y3 (some [(.agg [(.i .i64 y0.Tag),(.i .i64 y0.Page),(.i .i64 y0.Host),(.i .i64 y0.Rights)]),(aB true)])) y1)) y1)) (some [(.agg [(.i .i64 0),(.i .i64 0),(.i .i64 0),(.i .i64 0)]),(aB false)]))) (a1,(a2,(0,(0,(0,(0,(0,(a0,())))))))))
def zKF:FuncId->Nat->Option Tmpl:=zo [(100,0,{ n:=36,tm:=[(0,.sl 0 []),(1,ti),(2,ti),(6,.lp 0 0),(8,ti)],lo:=[(0,[ti,ti,ti,ti])],ro:=[(0,.entry,false)] })]
theorem zJB (a0:List Entry)(a1 a2:Int)(hb:zbE big [aS .entry a0,aI a1,aI a2])(hc:zlN a0 a1 a2=true):∃N,zyM N a0 a1 a2=some [aT .entry (zlM a0 a1 a2),aB (ziN a0 a1 a2)]:=by
 have hl:=(len0 hb);refine zcd fun N hNN=>?_;unfold zyM oN
 conv=>zeta
 refine (zZ a0 (fun i (t:Unit)=>(a1,a2,(i:Int),0,0,0,0,a0,())) _ (fun _ (x:Entry) (_:Unit) κ=>bif (cond (ieq x.Tag a1) (ieq x.Page a2) false) then (some [AV.agg (Ty.cells .entry x),AV.one (.b true)]) else κ ()) (fun (t:Unit)=>(some [(.agg [(.i .i64 0),(.i .i64 0),(.i .i64 0),(.i .i64 0)]),(.one (.b false))])) (fun i hi t rec=>?_) (fun t rec=>?_) _ () (hNN hl)).trans ?_
 .simp only [zbo hi,zS hi,zbc hi,zV hi hl,cT];cases ieq a0[i].Tag a1<;>cases ieq a0[i].Page a2<;>rfl
 .simp only [zbg,cF]
 rw[zFN (fun e:Entry=>bif ieq e.Tag a1 then ieq e.Page a2 else false)]
 unfold zlM ziN zra;cases a0.find? (fun e:Entry=>bif ieq e.Tag a1 then ieq e.Page a2 else false)<;>rfl
theorem zDe:vF 100 zuj:=hF3 ze1 zq zn zdb zKF zJB
@[simp] abbrev zlE (b:List Entry)(t p:Int):Bool:=true
@[simp] abbrev ziF (b:List Entry)(t p:Int):Entry:=(zra b t p).getD ⟨0,0,0,0⟩
@[simp] abbrev ziG (b:List Entry)(t p:Int):Bool:=(zra b t p).isSome
def zt2:Run:=rF3 (dS .entry) dI dI fun b c d=>(zlE b c d,[aT .entry (ziF b c d),aB (ziG b c d)])
def zyy (N:Nat)(a0:lE)(a1 a2:Int):OA:=
 (iter (σ:=(Int×(Int×(Int×(Int×(Int×(Int×(Int×(Int×(lE×Unit)))))))))) N (fun r4 s5=>let y2:=s5.2.2.2.2.2.2.2.2.1;let y1:=(r4 (s5.1,(s5.2.1,(s5.2.2.1,((zG .i64 s5.2.2.2.1 1),(s5.2.2.2.2.1,(s5.2.2.2.2.2.1,(s5.2.2.2.2.2.2.1,(s5.2.2.2.2.2.2.2.1,(y2,()))))))))));let y0:=(ix y2 s5.2.2.2.1 zdL); (cond (ilt s5.2.2.2.1 s5.2.2.1) (oN (inb s5.2.2.2.1 (ln y2)) (cond (ieq y0.Tag s5.1) (cond (ieq y0.Page s5.2.1) (some [(.agg [(.i .i64 y0.Tag),(.i .i64 y0.Page),(.i .i64 y0.Host),(.i .i64 y0.Rights)]),(aB true)]) y1) y1)) (some [(.agg [(.i .i64 0),(.i .i64 0),(.i .i64 0),(.i .i64 0)]),(aB false)]))) (a1,(a2,((ln a0),(0,(0,(0,(0,(0,(a0,()))))))))))
def zKx:FuncId->Nat->Option Tmpl:=zo [(91,0,{ n:=29,tm:=[(1,ti),(2,ti),(6,.lp 0 0),(10,.sl 0 []),(11,ti),(12,ti)],lo:=[(0,[ti,ti,ti,ti])],ro:=[(0,.entry,false)] })]
theorem zJm (a0:List Entry)(a1 a2:Int)(hb:zbE big [aS .entry a0,aI a1,aI a2])(hc:zlE a0 a1 a2=true):∃N,zyy N a0 a1 a2=some [aT .entry (ziF a0 a1 a2),aB (ziG a0 a1 a2)]:=by
 have hl:=(len0 hb);refine zcd fun N hNN=>?_;unfold zyy oN
 conv=>zeta
 refine (zZ a0 (fun i (t:Unit)=>(a1,a2,(ln a0),(i:Int),0,0,0,0,a0,())) _ (fun _ (x:Entry) (_:Unit) κ=>bif (cond (ieq x.Tag a1) (ieq x.Page a2) false) then (some [AV.agg (Ty.cells .entry x),AV.one (.b true)]) else κ ()) (fun (t:Unit)=>(some [(.agg [(.i .i64 0),(.i .i64 0),(.i .i64 0),(.i .i64 0)]),(.one (.b false))])) (fun i hi t rec=>?_) (fun t rec=>?_) _ () (hNN hl)).trans ?_
 .simp only [zbo hi,zS hi,zbc hi,zV hi hl,cT];cases ieq a0[i].Tag a1<;>cases ieq a0[i].Page a2<;>rfl
 .simp only [zbg,cF]
 rw[zFN (fun e:Entry=>bif ieq e.Tag a1 then ieq e.Page a2 else false)]
 unfold ziF ziG zra;cases a0.find? (fun e:Entry=>bif ieq e.Tag a1 then ieq e.Page a2 else false)<;>rfl
theorem zC0:vF 91 zt2:=hF3 ze1 zq zn zdb zKx zJm
def zp7 (t p:Int)(e:Entry):Bool:=bif ine e.Tag t then true else ine e.Page p
def zcl (b:List Entry)(t p:Int):List Entry:=b.filter (zp7 t p)
theorem zxp (b:List Entry)(t p:Int):(zcl b t p).length<=b.length:=k9 _ _
@[simp] abbrev zfZ (b:List Entry)(t p:Int):Bool:=pc (b.length<=1048576)
@[simp] abbrev zlp (b:List Entry)(t p:Int):List Entry:=zcl b t p
def zul:Run:=rF3 (dS .entry) dI dI fun b c d=>(zfZ b c d,[aS .entry (zlp b c d)])
def zyO (N:Nat)(a0:lE)(a1 a2:Int):OA:=
 (iter (σ:=(Int×(Int×(Int×(lE×(lE×Unit)))))) N (fun r4 s5=>let y4:=s5.2.2.2.1;let y2:=(inb s5.2.2.1 (ln y4));let y0:=(ix y4 s5.2.2.1 zdL);let y3:=(ap s5.2.2.2.2.1 [y0]);let y1:=(r4 (s5.1,(s5.2.1,((zG .i64 s5.2.2.1 1),(y4,(y3,())))))); (cond (ilt s5.2.2.1 (ln y4)) (oN y2 (cond (ine y0.Tag s5.1) (oN y2 (oN (few (ln y3)) y1)) (oN y2 (cond (ine y0.Page s5.2.1) (oN y2 (oN (few (ln y3)) y1)) (r4 (s5.1,(s5.2.1,((zG .i64 s5.2.2.1 1),(y4,(s5.2.2.2.2.1,())))))))))) (some [(aS .entry s5.2.2.2.2.1)]))) (a1,(a2,(0,(a0,([],()))))))
def zKH:FuncId->Nat->Option Tmpl:=zo [(161,0,{ n:=40,tm:=[(0,.sl 0 []),(1,ti),(2,ti),(7,.sl 1 []),(8,ti)],lo:=[],ro:=[(0,.entry,false),(1,.entry,true)] })]
theorem zJD (a0:List Entry)(a1 a2:Int)(hc:zfZ a0 a1 a2=true):∃N,zyO N a0 a1 a2=some [aS .entry (zlp a0 a1 a2)]:=by
 have hs:=zD.1 hc;have hl:=zcP hs;refine zcd fun N hNN=>?_;unfold zyO oN
 conv=>zeta
 refine (zZ a0 (fun i (t:lE)=>(a1,a2,(i:Int),a0,t,())) _ (fun _ (x:Entry) (t:List Entry) κ=>bif zp7 a1 a2 x then (cond (few (ln (ap t [x]))) (κ (ap t [x])) none) else κ t) (fun (t:lE)=>(some [(.one (.s .entry t))])) (fun i hi t rec=>?_) (fun t rec=>?_) _ ([]) (hNN hl.1)).trans ?_
 .simp only [zbo hi,zS hi,zbc hi,zV hi hl.1,cT];unfold zp7;cases ine a0[i].Tag a1<;>cases ine a0[i].Page a2<;>rfl
 .simp only [zbg,cF]
 exact zkm (zp7 a1 a2) _ a0 0 [] (by simpa using hl.2)
theorem zDg:vF 161 zul:=kF3 ze1 zq zn zdb zKH zJD
@[simp] abbrev zqw (b:List Entry)(t p:Int):Bool:=pc (b.length<=1048576)
@[simp] abbrev zpa (b:List Entry)(t p:Int):List Entry:=zcl b t p
def zt4:Run:=rF3 (dS .entry) dI dI fun b c d=>(zqw b c d,[aS .entry (zpa b c d)])
def zyA (N:Nat)(a0:lE)(a1 a2:Int):OA:=
 (iter (σ:=(Int×(Int×(Int×(Int×(lE×(lE×Unit))))))) N (fun r4 s5=>let y3:=s5.2.2.2.2.2.1;let y0:=(ix y3 s5.2.1 zdL);let y2:=(ap s5.2.2.2.2.1 [y0]);let y1:=(r4 (s5.1,((zG .i64 s5.2.1 1),(s5.2.2.1,(s5.2.2.2.1,(y2,(y3,()))))))); (cond (ilt s5.2.1 s5.1) (oN (inb s5.2.1 (ln y3)) (cond (ieq y0.Tag s5.2.2.1) (cond (nB (ieq y0.Page s5.2.2.2.1)) (oN (few (ln y2)) y1) (r4 (s5.1,((zG .i64 s5.2.1 1),(s5.2.2.1,(s5.2.2.2.1,(s5.2.2.2.2.1,(y3,())))))))) (oN (few (ln y2)) y1))) (some [(aS .entry s5.2.2.2.2.1)]))) ((ln a0),(0,(a1,(a2,([],(a0,())))))))
def zKA:FuncId->Nat->Option Tmpl:=zo [(209,0,{ n:=25,tm:=[(1,.fn 210 [0,1]),(5,.sl 0 []),(9,.sl 1 []),(10,ti),(11,ti)],lo:=[(0,[ti]),(1,[ti])],ro:=[(0,.entry,true),(1,.entry,false)] })]
theorem zJo (a0:List Entry)(a1 a2:Int)(hc:zqw a0 a1 a2=true):∃N,zyA N a0 a1 a2=some [aS .entry (zpa a0 a1 a2)]:=by
 have hs:=zD.1 hc;have hl:=zcP hs;refine zcd fun N hNN=>?_;unfold zyA oN nB
 conv=>zeta
 refine (zZ a0 (fun i (t:lE)=>((ln a0),(i:Int),a1,a2,t,a0,())) _ (fun _ (x:Entry) (t:List Entry) κ=>bif zp7 a1 a2 x then (cond (few (ln (ap t [x]))) (κ (ap t [x])) none) else κ t) (fun (t:lE)=>(some [(.one (.s .entry t))])) (fun i hi t rec=>?_) (fun t rec=>?_) _ ([]) (hNN hl.1)).trans ?_
 .simp only [zbo hi,zS hi,zbc hi,zV hi hl.1,cT];unfold zp7;simp only[zon];cases ieq a0[i].Tag a1<;>cases ieq a0[i].Page a2<;>rfl
 .simp only [zbg,cF]
 exact zkm (zp7 a1 a2) _ a0 0 [] (by simpa using hl.2)
theorem zC2:vF 152 zt4:=kF3 ze1 zq zn zdb zKA zJo
def z3A:zO:=[(304,zzd),(99,zE4),(90,zET),(101,zOp),(82,zOm),(103,zJ9),(93,zJ7),(100,zuj),(91,zt2),(161,zul),(152,zt4)]++zYM
theorem zr7:zF z3A:=zh zIS (zh zOV (zh zOJ (zh zT1 (zh zTY (zh zRd (zh zQ9 (zh zDe (zh zC0 (zh zDg (zh zC2 ze1))))))))))
def zoA (b:List Entry)(e:Entry):List Entry:=bif igt (ln (ap (zcl b e.Tag e.Page) [e])) 6 then dp (ap (zcl b e.Tag e.Page) [e]) (wsub .i64 (ln (ap (zcl b e.Tag e.Page) [e])) 6) else ap (zcl b e.Tag e.Page) [e]
theorem zx5 {b:List Entry}(e:Entry)(h:b.length<=1048576):(zoA b e).length<=1048576/\(ap (zcl b e.Tag e.Page) [e]).length<=1048577:=by
 have h1:=zxp b e.Tag e.Page;have h2:(ap (zcl b e.Tag e.Page) [e]).length<=1048577:=by simp[ap];omega
 refine ⟨?_,h2⟩;unfold zoA;cases h3:igt (ln (ap (zcl b e.Tag e.Page) [e])) 6
 .have h3:=jT h3;simp only[ln]at h3;simp only[cF];omega
 .simp only [cT,dp,List.length_drop];have h3:=qE h3;have:wsub .i64 (ln (ap (zcl b e.Tag e.Page) [e])) 6=ln (ap (zcl b e.Tag e.Page) [e])-6:=zxa (by simp only[ln] at *;omega) (by simp only[ln] at *;omega)
  rw[this];simp only[ln] at *;omega
@[simp] abbrev znN (b:List Entry)(e:Entry):Bool:=pc (b.length<=1048576)
@[simp] abbrev znM (b:List Entry)(e:Entry):List Entry:=zoA b e
def zwN:Run:=rF2 (dS .entry) (dT .entry) fun b c=>(znN b c,[aS .entry (znM b c)])
def zAd (N:Nat)(a0:lE)(a1:Entry):OA:=
 let y0:=(ap (zlp a0 a1.Tag a1.Page) [a1]);let y1:=(wsub .i64 (ln y0) 6); (oN (zfZ a0 a1.Tag a1.Page) (oN (few (ln y0)) (cond (igt (ln y0) 6) (oN (inr y1 (ln y0) (ln y0)) (oN (few (ln (ap [] (dp y0 y1)))) (some [(aS .entry (ap [] (dp y0 y1)))]))) (some [(aS .entry y0)]))))
theorem zMk (a0:List Entry)(a1:Entry)(hc:znN a0 a1=true):∃N,zAd N a0 a1=some [aS .entry (znM a0 a1)]:=by
 have hs:=zD.1 hc;obtain ⟨h1,h2⟩:=zx5 a1 hs;refine ⟨0,?_⟩;unfold zAd oN
 conv=>zeta
 refine must (zbr hs) (must (zgD (jC h2 (by decide:1048577<=2147483648))) ?_)
 unfold znM zoA at *
 show _=some [AV.one (.s .entry (cond (igt (ln (ap (zcl a0 a1.Tag a1.Page) [a1])) 6) (dp (ap (zcl a0 a1.Tag a1.Page) [a1]) (wsub .i64 (ln (ap (zcl a0 a1.Tag a1.Page) [a1])) 6)) (ap (zcl a0 a1.Tag a1.Page) [a1])))]
 cases h3:igt (ln (ap (zcl a0 a1.Tag a1.Page) [a1])) 6
 .rfl
 .rw [h3]at h1;simp only[cT]at h1;have h3:=qE h3;have e:wsub .i64 (ln (ap (zcl a0 a1.Tag a1.Page) [a1])) 6=ln (ap (zcl a0 a1.Tag a1.Page) [a1])-6:=zxa (by simp only[ln] at *;omega) (by simp only[ln] at *;omega)
  refine must rfl (must (qI ?_) (must ?_ ?_))
  .show 0<=wsub .i64 (ln (ap (zcl a0 a1.Tag a1.Page) [a1])) 6/\wsub .i64 (ln (ap (zcl a0 a1.Tag a1.Page) [a1])) 6<=ln (ap (zcl a0 a1.Tag a1.Page) [a1])/\ln (ap (zcl a0 a1.Tag a1.Page) [a1])<=ln (ap (zcl a0 a1.Tag a1.Page) [a1])
   rw[e];simp only[ln] at *;omega
  .exact zmn h1
  .rw [zlb];rfl
theorem zGf:vF 104 zwN:=kF2 zr7 zq zn zdb (zo []) zMk
@[simp] abbrev zm1 (b:List Entry)(e:Entry):Bool:=pc (b.length<=1048576)
@[simp] abbrev zm0 (b:List Entry)(e:Entry):List Entry:=zoA b e
def zwo:Run:=rF2 (dS .entry) (dT .entry) fun b c=>(zm1 b c,[aS .entry (zm0 b c)])
def zzO (N:Nat)(a0:lE)(a1:Entry):OA:=
 let y0:=(ap (zpa a0 a1.Tag a1.Page) [a1]);let y1:=(imax 0 (wsub .i64 (ln y0) 6)); (oN (zqw a0 a1.Tag a1.Page) (oN (few (ln y0)) (oN (inr y1 (ln y0) (ln y0)) (some [(aS .entry (dp y0 y1))]))))
theorem zLU (a0:List Entry)(a1:Entry)(hc:zm1 a0 a1=true):∃N,zzO N a0 a1=some [aS .entry (zm0 a0 a1)]:=by
 have hs:=zD.1 hc;obtain ⟨_,h2⟩:=zx5 a1 hs;refine ⟨0,?_⟩;unfold zzO zm0 zoA oN
 conv=>zeta
 simp only[zpa];generalize ap (zcl a0 a1.Tag a1.Page) [a1]=l at h2 ⊢;refine must (zbr hs) (must (zgD (jC h2 (by decide:1048577<=2147483648))) ?_)
 have e:wsub .i64 (ln l) 6=ln l-6:=zxa (by simp only[ln] at *;omega) (by simp only[ln] at *;omega)
 rw[e];cases h3:igt (ln l) 6
 .have h3:=jT h3;have e2:imax 0 (ln l-6)=0:=by
   unfold imax;rw[if_neg (by omega)]
  rw[e2];exact must (qI (by simp only[ln];omega)) (by simp[dp])
 .have h3:=qE h3;have e2:imax 0 (ln l-6)=ln l-6:=by
   unfold imax;rw[if_pos (by omega)]
  rw[e2];exact must (qI (by simp only[ln] at *;omega)) rfl
theorem zFQ:vF 94 zwo:=kF2 zr7 zq zn zdb (zo []) zLU
def zmU (l:List Slot)(p:Int):Option Nat:=l.findIdx? fun s=>ieq s.Page p
def zha (p:Int):List Mon->Nat->Int×Int
 | [],_=>(-1,-1)
 | m :: l,i=>match zmU m.Outer p with|some k=>((i:Int),(k:Int))|none=>zha p l (i+1)
def zbu (h:Host)(p:Int):Int×Int:=bif ilt p 0 then (-1,-1) else zha p h.Mons 0
theorem zN1 {ρ:Type}(p:Slot->Bool)(r:Nat->Option ρ)(K:Unit->Option ρ):∀(l:List Slot) (i:Nat),goL (fun j x (_:Unit) k=>bif p x then r j else k ()) K l i ()=match l.findIdx? p with|some k=>r (i+k)|none=>K ()
 | [],_=>rfl
 | x :: l,i=>by
  simp only[goL];rw[List.findIdx?_cons];cases h:p x
  .simp only [cF,kD,if_false];rw[zN1 p r K l (i+1)];cases l.findIdx? p with
   | none=>rfl
   | some k=>simp only[Option.map_some];congr 1;omega
  .rfl
theorem zKY {ρ:Type}(p:Int)(r:Int->Int->Option ρ):∀(l:List Mon) (i:Nat),goL (fun i (x:Mon) (_:Unit) κ=>goL (fun j (y:Slot) (_:Unit) κ₁=>bif ieq y.Page p then r (i:Int) (j:Int) else κ₁ ()) (fun _=>κ ()) x.Outer 0 ()) (fun _=>r (-1) (-1)) l i ()=r (zha p l i).1 (zha p l i).2
 | [],_=>rfl
 | m :: l,i=>by
  simp only[goL,zha];rw[zN1 (fun s=>ieq s.Page p) (fun j=>r (i:Int) (j:Int))];unfold zmU;cases m.Outer.findIdx? (fun s=>ieq s.Page p) with
  | none=>exact zKY p r l (i+1)
  | some k=>simp only[j4]
@[simp] abbrev zjh (h:Host)(p:Int):Bool:=true
@[simp] abbrev zfO (h:Host)(p:Int):Int:=(zbu h p).1
@[simp] abbrev zg5 (h:Host)(p:Int):Int:=(zbu h p).2
def zq2:Run:=rF2 dH dI fun b c=>(zjh b c,[aI (zfO b c),aI (zg5 b c)])
def ztj (N:Nat)(a0:Host)(a1:Int):OA:=
 (cond (ilt a1 0) (some [(aI (-1)),(aI (-1))]) (iter (σ:=(Int×(Int×(Int×(lN×Unit))))) N (fun r3 s4=>let y3:=s4.2.2.1; (cond (ilt y3 s4.2.1) (oN (inb y3 (ln s4.2.2.2.1)) (iter (σ:=(Int×(Int×(Int×(Int×(Int×(Int×(Int×(lN×Unit))))))))) N (fun r5 s6=>let y2:=s6.2.2.2.2.2.2.2.1;let y1:=(ix y2 s6.2.2.2.2.1 zf).Outer;let y0:=s6.2.2.2.2.2.2.1; (cond (ilt y0 s6.2.2.2.2.2.1) (oN (inb y0 (ln y1)) (cond (ieq (ix y1 y0 zK).Page s6.1) (some [(aI s6.2.1),(aI y0)]) (r5 (s6.1,(s6.2.1,(s6.2.2.1,(s6.2.2.2.1,(s6.2.2.2.2.1,(s6.2.2.2.2.2.1,((zG .i64 y0 1),(y2,()))))))))))) (r3 (s6.1,(s6.2.2.1,((zG .i64 s6.2.2.2.1 1),(y2,()))))))) (s4.1,(y3,(s4.2.1,(y3,(y3,((ln (ix s4.2.2.2.1 y3 zf).Outer),(0,(s4.2.2.2.1,())))))))))) (some [(aI (-1)),(aI (-1))]))) (a1,((ln a0.Mons),(0,(a0.Mons,()))))))
def zDO:FuncId->Nat->Option Tmpl:=zo [(275,0,{ n:=36,tm:=[(1,ti),(13,.sl 0 []),(14,ti),(15,ti)],lo:=[],ro:=[(0,.mon,false)] }),(275,2,{ n:=36,tm:=[(1,ti),(6,ti),(13,.sl 0 []),(14,ti),(15,ti),(21,.sl 0 [0]),(22,ti),(23,ti)],lo:=[],ro:=[(0,.mon,false)] })]
theorem zDt (a0:Host)(a1:Int)(hb:zbE big [aH a0,aI a1])(hc:zjh a0 a1=true):∃N,ztj N a0 a1=some [aI (zfO a0 a1),aI (zg5 a0 a1)]:=by
 have hm:CVB big (.s .mon a0.Mons):=(zcm hb).1 _ (by simp[AV.cvs,zbd])
 have hl:=hm.len;refine zcd fun N hNN=>?_;unfold ztj zfO zg5 zbu oN
 conv=>zeta
 cases h0:ilt a1 0
 .simp only [cF];refine (zZ a0.Mons (fun i (t:Unit)=>(a1,(ln a0.Mons),(i:Int),a0.Mons,())) _ (fun i (x:Mon) (_:Unit) κ=>goL (fun j (y:Slot) (_:Unit) κ₁=>bif ieq y.Page a1 then some [AV.one (.i .i64 (i:Int)),AV.one (.i .i64 (j:Int))] else κ₁ ()) (fun _=>κ ()) x.Outer 0 ()) (fun (t:Unit)=>(some [(.one (.i .i64 (-1))),(.one (.i .i64 (-1)))])) (fun i hi t rec=>?_) (fun t rec=>?_) _ () (hNN hl)).trans ?_
  .simp only [zbo hi,zS hi,zbc hi,zV hi hl,cT];have ho:a0.Mons[i].Outer.length<=big:=(hm.inv.2 _ (jG hi) (.s .slot _) (by simp[Ty.cells])).len
   refine (zZ a0.Mons[i].Outer (fun j (u:Unit)=>(a1,(i:Int),(ln a0.Mons),(i:Int),(i:Int),(ln a0.Mons[i].Outer),(j:Int),a0.Mons,())) _ (fun j (y:Slot) (_:Unit) κ₁=>bif ieq y.Page a1 then some [AV.one (.i .i64 (i:Int)),AV.one (.i .i64 (j:Int))] else κ₁ ()) (fun (u:Unit)=>(rec (a1,((ln a0.Mons),((((i+1:Nat)):Int),(a0.Mons,())))))) (fun j hj u rec1=>?_) (fun u rec1=>?_) _ () (hNN ho)).trans ?_
   .simp only [zbo hj,zS hj,zbc hj,zV hj ho,cT,zS hi,zbc hi,zV hi hl]
   .simp only [zbg,cF,zS hi,zbc hi,zV hi hl]
   rfl
  .simp only [zbg,cF]
  exact zKY a1 (fun i j=>some [AV.one (.i .i64 i),AV.one (.i .i64 j)]) a0.Mons 0
 .rfl
theorem zzD:vF 275 zq2:=hF2 zr7 zq zn zdb zDO zDt
theorem zZa {α τ ρ:Type}(r:Option ρ):∀(l:List α) (i:Nat) (t:τ),goL (fun _ _ _ _=>r) (fun _=>r) l i t=r
 | [],_,_=>rfl
 | _ :: _,_,_=>rfl
@[simp] abbrev zjk (h:Host)(p:Int):Bool:=true
@[simp] abbrev zfQ (h:Host)(p:Int):Int:=(zbu h p).1
@[simp] abbrev zhe (h:Host)(p:Int):Int:=(zbu h p).2
def zq4:Run:=rF2 dH dI fun b c=>(zjk b c,[aI (zfQ b c),aI (zhe b c)])
def ztw (N:Nat)(a0:Host)(a1:Int):OA:=
 (iter (σ:=(Int×(Int×(lM×(lN×(lE×(lE×Unit))))))) N (fun r3 s4=>(cond (ilt s4.2.1 (ln s4.2.2.2.1)) (cond (ige s4.1 0) (iter (σ:=(Int×(Int×(Int×(lM×(lN×(lE×(lE×Unit)))))))) N (fun r5 s6=>let y1:=s6.2.2.2.2.1;let y0:=(ix y1 s6.2.1 zf).Outer; (oN (inb s6.2.1 (ln y1)) (cond (ilt s6.2.2.1 (ln y0)) (oN (inb s6.2.1 (ln y1)) (oN (inb s6.2.2.1 (ln y0)) (cond (ieq (ix y0 s6.2.2.1 zK).Page s6.1) (some [(aI s6.2.1),(aI s6.2.2.1)]) (r5 (s6.1,(s6.2.1,((zG .i64 s6.2.2.1 1),(s6.2.2.2.1,(y1,(s6.2.2.2.2.2.1,(s6.2.2.2.2.2.2.1,()))))))))))) (r3 (s6.1,((zG .i64 s6.2.1 1),(s6.2.2.2.1,(y1,(s6.2.2.2.2.2.1,(s6.2.2.2.2.2.2.1,())))))))))) (s4.1,(s4.2.1,(0,(s4.2.2.1,(s4.2.2.2.1,(s4.2.2.2.2.1,(s4.2.2.2.2.2.1,())))))))) (some [(aI (-1)),(aI (-1))])) (some [(aI (-1)),(aI (-1))]))) (a1,(0,(a0.Memory,(a0.Mons,(a0.Buffer,(a0.IoBuffer,())))))))
def zDQ:FuncId->Nat->Option Tmpl:=zo [(217,0,{ n:=44,tm:=[(1,ti),(2,.lp 0 0),(6,ti)],lo:=[(0,[.sl 0 [],.sl 1 [],.sl 2 [],.sl 3 []])],ro:=[(0,(.sl .int),false),(1,.mon,false),(2,.entry,false),(3,.entry,false)] }),(217,2,{ n:=44,tm:=[(1,ti),(2,.lp 0 0),(6,ti),(7,ti)],lo:=[(0,[.sl 0 [],.sl 1 [],.sl 2 [],.sl 3 []])],ro:=[(0,(.sl .int),false),(1,.mon,false),(2,.entry,false),(3,.entry,false)] })]
theorem zDF (a0:Host)(a1:Int)(hb:zbE big [aH a0,aI a1])(hc:zjk a0 a1=true):∃N,ztw N a0 a1=some [aI (zfQ a0 a1),aI (zhe a0 a1)]:=by
 have hm:CVB big (.s .mon a0.Mons):=(zcm hb).1 _ (by simp[AV.cvs,zbd])
 have hl:=hm.len;refine zcd fun N hNN=>?_;unfold ztw zfQ zhe zbu oN
 conv=>zeta
 refine (zZ a0.Mons (fun i (t:Unit)=>(a1,(i:Int),a0.Memory,a0.Mons,a0.Buffer,a0.IoBuffer,())) _ (fun i (x:Mon) (_:Unit) κ=>bif ige a1 0 then goL (fun j (y:Slot) (_:Unit) κ₁=>bif ieq y.Page a1 then some [AV.one (.i .i64 (i:Int)),AV.one (.i .i64 (j:Int))] else κ₁ ()) (fun _=>κ ()) x.Outer 0 () else some [AV.one (.i .i64 (-1)),AV.one (.i .i64 (-1))]) (fun (t:Unit)=>(some [(.one (.i .i64 (-1))),(.one (.i .i64 (-1)))])) (fun i hi t rec=>?_) (fun t rec=>?_) _ () (hNN hl)).trans ?_
 .simp only [zbo hi,zS hi,zbc hi,zV hi hl,cT];cases h0:ige a1 0
  .rfl
  have ho:a0.Mons[i].Outer.length<=big:=(hm.inv.2 _ (jG hi) (.s .slot _) (by simp[Ty.cells])).len
  simp only[cT];refine (zZ a0.Mons[i].Outer (fun j (_:Unit)=>(a1,((i:Int),((j:Int),(a0.Memory,(a0.Mons,(a0.Buffer,(a0.IoBuffer,())))))))) _ (fun j (y:Slot) (_:Unit) κ₁=>bif ieq y.Page a1 then some [AV.one (.i .i64 (i:Int)),AV.one (.i .i64 (j:Int))] else κ₁ ()) (fun _=>rec (a1,(((i+1:Nat):Int),(a0.Memory,(a0.Mons,(a0.Buffer,(a0.IoBuffer,()))))))) (fun j hj u rec1=>?_) (fun u rec1=>?_) _ () (hNN ho)).trans ?_
  .simp only [zbo hj,zS hj,zbc hj,zV hj ho,cT,zS hi,zbc hi]
  .simp only [zbg,cF,cT,zS hi,zbc hi,zV hi hl]
  rfl
 .simp only [zbg,cF]
 cases h0:ige a1 0
 .have h1:ilt a1 0=true:=by
   have:=jT h0;exact qI (by omega)
  rw[h1];exact zZa _ _ _ _
 .have h1:ilt a1 0=false:=by
   have:=qE h0;exact qJ (by omega)
  rw[h1];exact zKY a1 (fun i j=>some [AV.one (.i .i64 i),AV.one (.i .i64 j)]) a0.Mons 0
theorem zzM:vF 217 zq4:=hF2 zr7 zq zn zdb zDQ zDF
def z3B:zO:=[(104,zwN),(94,zwo),(217,zq4),(275,zq2)]++z3A
theorem zr8:zF z3B:=zh zGf (zh zFQ (zh zzM (zh zzD zr7)))
def zbZ (h:Host):List Int:=zu9 (fun i=>ilt (zbu h (i:Int)).1 0) h.Memory.length 0
@[simp] abbrev zkG (h:Host):Bool:=pc (h.Memory.length<=1048576)
@[simp] abbrev zeL (h:Host):List Int:=zbZ h
def zBH:Run:=rF1 dH fun b=>(zkG b,[aS .int (zeL b)])
def zHD (N:Nat)(a0:Host):OA:=
 (iter (σ:=(Int×((List Int)×(lM×(lN×(lE×(lE×Unit))))))) N (fun r2 s3=>let y0:=(⟨s3.2.2.1,s3.2.2.2.1,s3.2.2.2.2.1,s3.2.2.2.2.2.1⟩:Host); (cond (ilt s3.1 (ln s3.2.2.1)) (oN (zjk y0 s3.1) (cond (ilt (zfQ y0 s3.1) 0) (oN (few (ln (ap s3.2.1 [s3.1]))) (r2 ((zG .i64 s3.1 1),((ap s3.2.1 [s3.1]),(s3.2.2.1,(s3.2.2.2.1,(s3.2.2.2.2.1,(s3.2.2.2.2.2.1,())))))))) (r2 ((zG .i64 s3.1 1),(s3.2.1,(s3.2.2.1,(s3.2.2.2.1,(s3.2.2.2.2.1,(s3.2.2.2.2.2.1,()))))))))) (some [(aS .int s3.2.1)]))) (0,([],(a0.Memory,(a0.Mons,(a0.Buffer,(a0.IoBuffer,())))))))
def zTn:FuncId->Nat->Option Tmpl:=zo [(216,0,{ n:=28,tm:=[(1,.lp 0 0),(3,.sl 0 []),(4,ti)],lo:=[(0,[.sl 1 [],.sl 2 [],.sl 3 [],.sl 4 []])],ro:=[(0,.int,true),(1,(.sl .int),false),(2,.mon,false),(3,.entry,false),(4,.entry,false)] })]
theorem zRK (a0:Host)(hc:zkG a0=true):∃N,zHD N a0=some [aS .int (zeL a0)]:=by
 have hs:=zD.1 hc;have hl:=zcP hs;refine zcd fun N hNN=>?_;unfold zHD oN
 conv=>zeta
 refine (zZ a0.Memory (fun i (t:(List Int))=>((i:Int),t,a0.Memory,a0.Mons,a0.Buffer,a0.IoBuffer,())) _ (fun i (_:List Int) (t:List Int) κ=>bif ilt (zbu a0 (i:Int)).1 0 then (cond (few (ln (ap t [(i:Int)]))) (κ (ap t [(i:Int)])) none) else κ t) (fun (t:(List Int))=>(some [(.one (.s .int t))])) (fun i hi t rec=>?_) (fun t rec=>?_) _ ([]) (hNN hl.1)).trans ?_
 .simp only [zbo hi,zS hi,zbc hi,zV hi hl.1,cT]
 .simp only [zbg,cF]
 rw[zrL (fun i (t:List Int) κ=>bif ilt (zbu a0 (i:Int)).1 0 then (cond (few (ln (ap t [(i:Int)]))) (κ (ap t [(i:Int)])) none) else κ t)]
 exact zxw (fun i=>ilt (zbu a0 (i:Int)).1 0) _ _ 0 [] (by simpa using hl.2)
theorem zLo:vF 216 zBH:=kF1 zr8 zq zn zdb zTn zRK
@[simp] abbrev zko (h:Host):Bool:=pc (h.Memory.length<=1048576)
@[simp] abbrev zff (h:Host):List Int:=zbZ h
def zBo:Run:=rF1 dH fun b=>(zko b,[aS .int (zff b)])
def zHj (N:Nat)(a0:Host):OA:=
 (iter (σ:=(Int×(Int×((List Int)×(lM×(lN×(lE×(lE×Unit)))))))) N (fun r2 s3=>let y1:=s3.2.2.2.2.2.2.1;let y0:=(⟨s3.2.2.2.1,s3.2.2.2.2.1,s3.2.2.2.2.2.1,y1⟩:Host); (cond (ilt s3.2.1 s3.1) (oN (zjh y0 s3.2.1) (cond (ilt (zfO y0 s3.2.1) 0) (oN (few (ln (ap s3.2.2.1 [s3.2.1]))) (r2 (s3.1,((zG .i64 s3.2.1 1),((ap s3.2.2.1 [s3.2.1]),(s3.2.2.2.1,(s3.2.2.2.2.1,(s3.2.2.2.2.2.1,(y1,()))))))))) (r2 (s3.1,((zG .i64 s3.2.1 1),(s3.2.2.1,(s3.2.2.2.1,(s3.2.2.2.2.1,(s3.2.2.2.2.2.1,(y1,())))))))))) (some [(aS .int s3.2.2.1)]))) ((ln a0.Memory),(0,([],(a0.Memory,(a0.Mons,(a0.Buffer,(a0.IoBuffer,()))))))))
def zTf:FuncId->Nat->Option Tmpl:=zo [(206,0,{ n:=28,tm:=[(1,.lp 0 0),(3,.sl 0 []),(10,ti),(11,ti)],lo:=[(0,[.sl 1 [],.sl 2 [],.sl 3 [],.sl 4 []])],ro:=[(0,.int,true),(1,(.sl .int),false),(2,.mon,false),(3,.entry,false),(4,.entry,false)] })]
theorem zRp (a0:Host)(hc:zko a0=true):∃N,zHj N a0=some [aS .int (zff a0)]:=by
 have hs:=zD.1 hc;have hl:=zcP hs;refine zcd fun N hNN=>?_;unfold zHj oN
 conv=>zeta
 refine (zZ a0.Memory (fun i (t:(List Int))=>((ln a0.Memory),(i:Int),t,a0.Memory,a0.Mons,a0.Buffer,a0.IoBuffer,())) _ (fun i (_:List Int) (t:List Int) κ=>bif ilt (zbu a0 (i:Int)).1 0 then (cond (few (ln (ap t [(i:Int)]))) (κ (ap t [(i:Int)])) none) else κ t) (fun (t:(List Int))=>(some [(.one (.s .int t))])) (fun i hi t rec=>?_) (fun t rec=>?_) _ ([]) (hNN hl.1)).trans ?_
 .simp only [zbo hi,zS hi,zbc hi,zV hi hl.1,cT]
 .simp only [zbg,cF]
 rw[zrL (fun i (t:List Int) κ=>bif ilt (zbu a0 (i:Int)).1 0 then (cond (few (ln (ap t [(i:Int)]))) (κ (ap t [(i:Int)])) none) else κ t)]
 exact zxw (fun i=>ilt (zbu a0 (i:Int)).1 0) _ _ 0 [] (by simpa using hl.2)
theorem zK5:vF 206 zBo:=kF1 zr8 zq zn zdb zTf zRp
def zgK (m:List (List Int))(p:Int)(c:List Int):List (List Int):=bif hasB p (ln m) then (cond (zb5 c) (up m p c) m) else m
@[simp] abbrev zjX (m:List (List Int))(p:Int)(c:List Int):Bool:=pc (SmM m/\c.length<=1048576)
@[simp] abbrev zix (m:List (List Int))(p:Int)(c:List Int):List (List Int):=zgK m p c
def zwS:Run:=rF3 (dS (.sl .int)) dI (dS .int) fun b c d=>(zjX b c d,[aS (.sl .int) (zix b c d)])
def zAh (N:Nat)(a0:lM)(a1:Int)(a2:List Int):OA:=
 (oN (zfs a0) (oN (zI a1 0 (wsub .i64 (ln a0) 1)) (cond (zL a1 0 (wsub .i64 (ln a0) 1)) (oN (zfr a2) (cond (zeP a2) (oN (few (ln (ap [] a2))) (oN (inb a1 (ln (zed a0))) (share (up (zed a0) a1 (ap [] a2)) (fun x4=>(some [(aS (.sl .int) x4)]))))) (some [(aS (.sl .int) (zed a0))]))) (some [(aS (.sl .int) (zed a0))]))))
theorem zMq (a0:List (List Int))(a1:Int)(a2:List Int)(hc:zjX a0 a1 a2=true):∃N,zAh N a0 a1 a2=some [aS (.sl .int) (zix a0 a1 a2)]:=by
 obtain ⟨hs,hs2⟩:=zD.1 hc;refine ⟨0,?_⟩;unfold zAh zix zgK oN;refine must (zbr ((zof _).2 hs)) (must rfl ?_);rw[show zL a1 0 (wsub .i64 (ln a0) 1)=hasB a1 (ln a0) from zo0 hs.1 a1]
 cases h1:hasB a1 (ln a0)
 .rfl
 .simp only [cT,zfr,zeP];cases h2:zb5 a2
  .rfl
  .refine must rfl (must (zmn hs2) (must (zl h1) ?_));rw[zlb];rfl
theorem zGk:vF 219 zwS:=kF3 zr8 zq zn zdb (zo []) zMq
@[simp] abbrev zjC (m:List (List Int))(p:Int)(c:List Int):Bool:=pc (SmM m/\c.length<=1048576)
@[simp] abbrev zin (m:List (List Int))(p:Int)(c:List Int):List (List Int):=zgK m p c
def zwt:Run:=rF3 (dS (.sl .int)) dI (dS .int) fun b c d=>(zjC b c d,[aS (.sl .int) (zin b c d)])
def zzR (N:Nat)(a0:lM)(a1:Int)(a2:List Int):OA:=
 (oN (zhp a0) (oN (zdl a1 (ln a0)) (cond (zdH a1 (ln a0)) (oN (zg6 a2) (cond (zfV a2) (oN (zdA a2) (oN (inb a1 (ln (ze3 a0))) (share (up (ze3 a0) a1 (zdx a2)) (fun x4=>(some [(aS (.sl .int) x4)]))))) (some [(aS (.sl .int) (ze3 a0))]))) (some [(aS (.sl .int) (ze3 a0))]))))
theorem zLY (a0:List (List Int))(a1:Int)(a2:List Int)(hc:zjC a0 a1 a2=true):∃N,zzR N a0 a1 a2=some [aS (.sl .int) (zin a0 a1 a2)]:=by
 obtain ⟨hs,hs2⟩:=zD.1 hc;refine ⟨0,?_⟩;unfold zzR zin zgK oN;refine must (zbr hs) (must rfl ?_);rw[show zdH a1 (ln a0)=hasB a1 (ln a0) from rfl]
 cases h1:hasB a1 (ln a0)
 .rfl
 .simp only [cT,zg6,zfV];cases h2:zb5 a2
  .rfl
  .refine must rfl (must (zbr (jC hs2 (by decide))) (must (zl h1) rfl))
theorem zFU:vF 208 zwt:=kF3 zr8 zq zn zdb (zo []) zLY
def zo6:zO:=[(216,zBH),(206,zBo),(219,zwS),(208,zwt)]++z3B
theorem zgz:zF zo6:=zh zLo (zh zK5 (zh zGk (zh zFU zr8)))
abbrev mZ:Mon:=Ty.dflt .mon
abbrev sZ:Slot:=Ty.dflt .slot
def ShM (x:Mon):Prop:=x.Outer.length=8/\x.Out.length=8/\x.Dirty.length=8/\x.Tables.length=x.Guests.length
def Shape (h:Host):Prop:=SmH h/\∀x∈h.Mons,ShM x
theorem zhC {h:Host}{m:Int}{x:Mon}(hs:Shape h)(h1:ze8 x)(h2:ShM x):Shape { h with Mons:=up h.Mons m x }:=by
 refine ⟨⟨hs.1.1,zia hs.1.2.1 h1,hs.1.2.2⟩,fun y hy=>?_⟩;rcases qZ hy with hy|rfl
 .exact hs.2 y hy
 .exact h2
theorem zca {h:Host}(hs:Shape h){m:Int}(hm:hasB m (ln h.Mons)=true):ze8 (ix h.Mons m mZ)/\ShM (ix h.Mons m mZ):=⟨hs.1.2.1.2 _ (zbv hm _),hs.2 _ (zbv hm _)⟩
theorem zOs {h:Host}{mm:List (List Int)}(hs:Shape h)(h1:SmM mm):Shape { h with Memory:=mm }:=⟨⟨h1,hs.1.2⟩,hs.2⟩
theorem zqW {h:Host}{m p:Int}{s:Slot}(hm:hasB m (ln h.Mons)=true)(hs:Shape h):Shape (zb6 h m p s):=by
 refine ⟨zFf hm hs.1,?_⟩;obtain ⟨_,h2⟩:=zca hs hm;have key:∀y∈up h.Mons m { zjg (ix h.Mons m mZ) p (ix h.Mons m mZ).Tables.length with Outer:=up (ix h.Mons m mZ).Outer p s },ShM y:=by
  intro y hy;rcases qZ hy with hy|rfl
  .exact hs.2 y hy
  .exact ⟨by simpa using h2.1,h2.2.1,h2.2.2.1,by simpa [zjg,zoX] using h2.2.2.2⟩
 unfold zb6;cases ine (ix (ix h.Mons m mZ).Outer p sZ).Page (-1)<;>exact key
theorem zfG (h:Host)(m p:Int)(s:Slot):(zb6 h m p s).Mons=up h.Mons m { zjg (ix h.Mons m mZ) p (ix h.Mons m mZ).Tables.length with Outer:=up (ix h.Mons m mZ).Outer p s }/\(zb6 h m p s).Memory=h.Memory:=by
 unfold zb6;cases ine (ix (ix h.Mons m mZ).Outer p sZ).Page (-1)<;>exact ⟨rfl,rfl⟩
theorem zeg {h:Host}{m k:Int}{x:Mon}(hm:hasB m (ln h.Mons)=true):hasB m (ln (up h.Mons k x))=true:=by simpa [ln] using hm
theorem zEB {h:Host}{m k p:Int}{s:Slot}(hm:hasB m (ln h.Mons)=true):hasB m (ln (zb6 h k p s).Mons)=true:=by
 rw[(zfG h k p s).1];exact zeg hm
theorem zc9 {α:Type}{l:List α}{p:Int}(h:l.length=8)(hp:hasB p 8=true):hasB p (ln l)=true:=by rw[ln,h];exact hp
def zxS (h:Host)(m p:Int)(s:Slot):Host :=
 bif ine s.Page (-1) then ⟨h.Memory,up h.Mons m (zjg (ix h.Mons m mZ) p (ix h.Mons m mZ).Guests.length),flushed h.Buffer s.Page,flushed h.IoBuffer s.Page⟩
 else ⟨h.Memory,up h.Mons m (zjg (ix h.Mons m mZ) p (ix h.Mons m mZ).Guests.length),h.Buffer,h.IoBuffer⟩
theorem zyp {h:Host}{k:Nat}{p:Int}{s:Slot}(hk:k<h.Mons.length)(ht:(ix h.Mons (k:Int) mZ).Tables.length=(ix h.Mons (k:Int) mZ).Guests.length) :
 zxS { h with Mons:=up h.Mons (k:Int) { ix h.Mons (k:Int) mZ with Outer:=up (ix h.Mons (k:Int) mZ).Outer p s } } (k:Int) p (ix (ix h.Mons (k:Int) mZ).Outer p sZ)=zb6 h (k:Int) p s:=by
 unfold zb6 zxS;simp only[zdD hk,zuX,zjg,ht]
def zW3 {ρ:Type}(m p:Int)(i:Nat)(t:List Mon)(κ:List Mon->Option ρ):Option ρ :=
 (cond (inb (i:Int) (ln (ix t m mZ).Tables)) (cond (inb (i:Int) (ln (ix t m mZ).Guests)) (cond (pc (SmK (ix (ix t m mZ).Tables (i:Int) zcK)/\(ix (ix t m mZ).Guests (i:Int) zx).Live.length<=1048576)) (cond (inb (i:Int) (ln (ix t m mZ).Tables)) (κ (up t m ({ (ix t m mZ) with Tables:=(up (ix t m mZ).Tables (i:Int) (zg4 (ix (ix t m mZ).Tables (i:Int) zcK) (ix (ix t m mZ).Guests (i:Int) zx).Live p)) }:Mon))) none) none) none) none)
theorem zVt {ρ:Type}{mons:List Mon}{k:Nat}(hk:k<mons.length)(p:Int)(hm:ze8 (ix mons (k:Int) mZ))(ht:(ix mons (k:Int) mZ).Tables.length=(ix mons (k:Int) mZ).Guests.length)(K:List Mon->Option ρ) :
 ∀(n i:Nat),i+n=(ix mons (k:Int) mZ).Guests.length->goN (fun i t κ=>zW3 (k:Int) p i t κ) K n i (up mons (k:Int) (zjg (ix mons (k:Int) mZ) p i))=K (up mons (k:Int) (zjg (ix mons (k:Int) mZ) p (ix mons (k:Int) mZ).Guests.length))
 | 0,i,h=>by
  have:i=(ix mons (k:Int) mZ).Guests.length:=by omega
  subst this;rfl
 | n+1,i,h=>by
  have hi3:i<(ix mons (k:Int) mZ).Guests.length:=by omega
  have hi2:i<(zj9 (ix mons (k:Int) mZ).Guests p i (ix mons (k:Int) mZ).Tables).length:=by rw[zoX];omega
  have hf:pc (SmK (ix (zj9 (ix mons (k:Int) mZ).Guests p i (ix mons (k:Int) mZ).Tables) (i:Int) zcK)/\(ix (ix mons (k:Int) mZ).Guests (i:Int) zx).Live.length<=1048576)=true :=
   zbr ⟨by rw[zbc hi2];exact (zuU _ _ _ _ (by omega) hm.2.2.2.2.2).2 _ (jG hi2),by rw[zbc hi3];exact (hm.2.2.2.1.2 _ (jG hi3)).2.2.1⟩
  simp only[goN,zW3,zdD hk,zuX,zjg,zS hi2,zS hi3,hf,cT];exact zVt hk p hm ht K n (i+1) (by omega)
@[simp] abbrev zdY (h:Host)(m p:Int)(s:Slot):Bool:=pc (Shape h/\hasB m (ln h.Mons)=true)
@[simp] abbrev zdZ (h:Host)(m p:Int)(s:Slot):Host:=zxS h m p s
def zk0:List CV->List AV->Option (Bool×List CV×List AV)
 | [.s (.sl .int) b,.s .mon c,.s .entry d,.s .entry e],[.one (.i .i64 f),.one (.i .i64 g),.agg [.i .i64 h,.i .i64 j]]=>some ((zdY (⟨b,c,d,e⟩:Host) f g (⟨h,j⟩:Slot)),zbd (zdZ (⟨b,c,d,e⟩:Host) f g (⟨h,j⟩:Slot)),[])
 | _,_=>none
def zn7 (N:Nat)(c:Host)(a0 a1:Int)(a2:Slot):OA:=
 (oN (inb a0 (ln c.Mons)) (iter (σ:=(Int×(Int×(Int×(Int×(Int×(Int×(lN×(lM×(lE×(lE×Unit))))))))))) N (fun r5 s6=>let y7:=s6.2.2.2.2.2.2.2.1;let y5:=s6.2.2.2.2.2.2.1;let y4:=s6.2.2.2.2.1;let y3:=s6.2.2.2.2.2.2.2.2.1;let y2:=s6.2.2.2.2.2.2.2.2.2.1;let y1:=s6.2.2.2.1;let y0:=(ix y5 s6.2.1 zf);let y8:=(ix y0.Tables y1 zcK);let y6:=(ix y0.Guests y1 zx).Live; (cond (ilt y1 s6.2.2.1) (oN (inb y1 (ln y0.Tables)) (oN (inb y1 (ln y0.Guests)) (oN (zok y8 y6 s6.1) (oN (inb y1 (ln y0.Tables)) (share (up y5 s6.2.1 ({ y0 with Tables:=(up y0.Tables y1 (zsm y8 y6 s6.1)) }:Mon)) (fun x7=>(r5 (s6.1,(s6.2.1,(s6.2.2.1,((zG .i64 y1 1),(y4,(s6.2.2.2.2.2.1,(x7,(y7,(y3,(y2,()))))))))))))))))) (cond (ine y4 (-1)) (oN (zgS y3 y4) (oN (zgS y2 y4) (some [(aH (⟨y7,y5,(ziY y3 y4),(ziY y2 y4)⟩:Host))]))) (some [(aH (⟨y7,y5,y3,y2⟩:Host))])))) (a1,(a0,((ln (ix c.Mons a0 zf).Guests),(0,(a2.Page,(a2.Rights,(c.Mons,(c.Memory,(c.Buffer,(c.IoBuffer,()))))))))))))
def zG8:FuncId->Nat->Option Tmpl:=zo [(137,0,{ n:=71,tm:=[(0,.lp 0 0),(2,ti),(7,.lp 1 0),(8,.ep 0 [] 0),(20,ti),(21,ti)],lo:=[(0,[.sl 1 [],.sl 0 [],.sl 2 [],.sl 3 []]),(1,[ti,ti])],ro:=[(0,.mon,true),(1,(.sl .int),true),(2,.entry,true),(3,.entry,true)] })]
theorem zJO (N:Nat)(c:Host)(a0 a1:Int)(a2:Slot):zf5 (cQ zo6 zor zMK zTc) zG8 N 12 137 [true,true,true,true] (zbd c) [aI a0,aI a1,aT .slot a2]=zn7 N c a0 a1 a2:=by kernel_rfl
theorem zGB (c:Host)(a0 a1:Int)(a2:Slot)(hb:zbE big (.agg (zbd c) :: [aI a0,aI a1,aT .slot a2]))(hc:zdY c a0 a1 a2=true):∃N,zn7 N c a0 a1 a2=some (.agg (zbd (zdZ c a0 a1 a2)) :: []):=by
 obtain ⟨hs,hm⟩:=zD.1 hc;obtain ⟨g1,g2⟩:=zca hs hm;have hg:(ix c.Mons a0 mZ).Guests.length<=big:=(zcP g1.2.2.2.1.1).1;refine zcd fun N hNN=>?_;unfold zn7 oN
 conv=>zeta
 refine must (zl hm) ?_;refine (zZ ((ix c.Mons a0 zf).Guests) (fun i (t:lN)=>(a1,a0,(ln (ix c.Mons a0 zf).Guests),(i:Int),a2.Page,a2.Rights,t,c.Memory,c.Buffer,c.IoBuffer,())) _ (fun i (x:Guest) (t:List Mon) κ=>zW3 a0 a1 i t κ) (fun (t:lN)=>(cond (ine a2.Page (-1)) (cond (zgS c.Buffer a2.Page) (cond (zgS c.IoBuffer a2.Page) (some [(.agg (zbd (⟨c.Memory,t,(ziY c.Buffer a2.Page),(ziY c.IoBuffer a2.Page)⟩:Host)))]) none) none) (some [(.agg (zbd (⟨c.Memory,t,c.Buffer,c.IoBuffer⟩:Host)))]))) (fun i hi t rec=>?_) (fun t rec=>?_) _ (c.Mons) (hNN hg)).trans ?_
 .simp only [zbo hi,zS hi,zbc hi,zV hi hg,cT];rfl
 .simp only [zbg,cF]
 obtain ⟨k,rfl,hk⟩:=zdu (n:=c.Mons.length) hm;rw[zrL (fun i t κ=>zW3 (k:Int) a1 i t κ)];have e0:c.Mons=up c.Mons (k:Int) (zjg (ix c.Mons (k:Int) mZ) a1 0):=(zNa hk _).symm;refine (congrArg _ e0).trans ((zVt hk a1 g1 g2.2.2.2 _ _ 0 (j4 _)).trans ?_)
 show (cond (ine a2.Page (-1)) _ _)=some [AV.agg (zbd (zxS c (k:Int) a1 a2))]
 unfold zxS;cases ine a2.Page (-1)
 .rfl
 .exact must rfl (must (zbr hs.1.2.2.1) (must (zbr hs.1.2.2.2) rfl))
theorem zAN:zdy Tryz.prog 137 [true,true,true,true] zk0:=by
 refine zb2 (zcW zgz zq zn zdb) (zd9 (by kernel_rfl)) ?_
 intro cs avs cs' rs hl hr h;have hb:=zcs hr;unfold zk0 at h;split at h
 .obtain ⟨hc,rfl,rfl⟩:=zcJ h;obtain ⟨N,hN⟩:=zGB _ _ _ _ (by exact hb) hc
  exact ⟨rfl,_,N,12,(zJO N _ _ _ _ ).trans hN⟩
 .cases h
def zXo:zdi:=[(137,([true,true,true,true],zk0))]++zMK
theorem zML:zcr zXo:=zd8 zn (by
 intro x hx;simp only[qG,qW,or_false]at hx;rcases hx with rfl
 .exact zAN)
def zep (h:Host)(m p:Int):Host:={ h with Mons:=up h.Mons m { ix h.Mons m mZ with Out:=up (ix h.Mons m mZ).Out p (zb8 h.Memory (ix (ix h.Mons m mZ).Outer p sZ).Page) } }
def zda (h:Host)(m p:Int):Host:=zb6 (zep h m p) m p noSlot
theorem zSY {m:List (List Int)}{p:Int}(h:SmM m):(zb8 m p).length<=1048576:=by
 unfold zb8;cases hh:hasB p (ln m)
 .exact (by decide:zyv.length<=1048576)
 .exact h.2 _ (zbv hh _)
theorem zvv {h:Host}{m p:Int}(hs:Shape h)(hm:hasB m (ln h.Mons)=true):Shape (zep h m p):=by
 obtain ⟨g1,g2⟩:=zca hs hm;exact zhC hs ⟨g1.1,zKo g1.2.1 (zSY hs.1.1),g1.2.2⟩ ⟨g2.1,by simpa using g2.2.1,g2.2.2⟩
theorem zKh {h:Host}{m p:Int}(hs:Shape h)(hm:hasB m (ln h.Mons)=true):Shape (zda h m p):=zqW (zeg hm) (zvv hs hm)
@[simp] abbrev zrD (h:Host)(m p:Int):Bool:=pc (Shape h/\hasB m (ln h.Mons)=true/\hasB p 8=true)
@[simp] abbrev zym (h:Host)(m p:Int):Host:=zda h m p
def zsR:List AV->Option (Bool×List AV)
 | [.agg [.s (.sl .int) b,.s .mon c,.s .entry d,.s .entry e],.one (.i .i64 f),.one (.i .i64 g)]=>some ((zrD (⟨b,c,d,e⟩:Host) f g),[aH (zym (⟨b,c,d,e⟩:Host) f g)])
 | _=>none
def zxb (N:Nat)(a0:Host)(a1 a2:Int):OA:=
 let y0:=(ix a0.Mons a1 zf);let y1:=(ix y0.Outer a2 zK).Page; (oN (inb a1 (ln a0.Mons)) (oN (inb a1 (ln a0.Mons)) (oN (inb a2 (ln y0.Outer)) (oN (zye a0.Memory y1) (oN (inb a2 (ln y0.Out)) (share (up a0.Mons a1 ({ y0 with Out:=(up y0.Out a2 (zyd a0.Memory y1)) }:Mon)) (fun x4=>let y2:=({ a0 with Mons:=x4 }:Host); (oN zck (oN (zeF y2 a1 a2 zbq) (some [(aH (zgi y2 a1 a2 zbq))]))))))))))
theorem zUC (N:Nat)(a0:Host)(a1 a2:Int):zCC (cQ zo6 zor zXo zTc) (zo []) N 12 218 [true,true,true,true,false,false] 1 1 [[0],[1],[2],[4],[7]] .mon [aH a0,aI a1,aI a2]=zxb N a0 a1 a2:=by kernel_rfl
theorem zR9 (a0:Host)(a1 a2:Int)(hb:zbE big [aH a0,aI a1,aI a2])(hc:zrD a0 a1 a2=true):∃N,zxb N a0 a1 a2=some [aH (zym a0 a1 a2)]:=by
 obtain ⟨hs,hm,hp⟩:=zD.1 hc;obtain ⟨g1,g2⟩:=zca hs hm;obtain ⟨k,rfl,hk⟩:=zdu (n:=a0.Mons.length) hm;have hS:=zvv (p:=a2) hs hm;refine ⟨0,?_⟩;unfold zxb oN
 conv=>zeta
 refine must (zl hm) (must (zl hm) (must (zl (zc9 g2.1 hp)) (must (zbr ((zof _).2 hs.1.1)) (must (zl (zc9 g2.2.1 hp)) (shr (must rfl (must (zbr ⟨(zM _).2 hS.1,zeg hm,?_,?_⟩) rfl)))))))
 .simp only [zdD hk];exact zc9 g2.1 hp
 .simp only [zdD hk];exact vC g2.2.2.2
theorem zLL:zdN Tryz.prog 218 [true,true,true,true,false,false] (some (1,1,[[0],[1],[2],[4],[7]])) zsR:=by
 refine zkn (kt:=.mon) (zcW zgz zq zML zdb) (zd9 (by kernel_rfl)) (by kernel_rfl) ?_
 intro avs rs hl hr h;have hb:=zhG hr;unfold zsR at h;split at h
 .obtain ⟨hc,rfl⟩:=zdS h;obtain ⟨N,hN⟩:=zR9 _ _ _ (by exact hb) hc
  exact ⟨⟨_,rfl⟩,rfl,_,N,12,(zUC N _ _ _ ).trans hN⟩
 .cases h
@[simp] abbrev zGs (h:Host)(m p:Int):Bool:=pc (Shape h/\hasB m (ln h.Mons)=true/\hasB p 8=true)
@[simp] abbrev zGt (h:Host)(m p:Int):Host:=zda h m p
def zve:List CV->List AV->Option (Bool×List CV×List AV)
 | [.s (.sl .int) b,.s .mon c,.s .entry d,.s .entry e],[.one (.i .i64 f),.one (.i .i64 g)]=>some ((zGs (⟨b,c,d,e⟩:Host) f g),zbd (zGt (⟨b,c,d,e⟩:Host) f g),[])
 | _,_=>none
def zFq (N:Nat)(c:Host)(a0 a1:Int):OA:=
 let y0:=(ix c.Mons a0 zf);let y1:=(ix y0.Outer a1 zK); (oN (inb a0 (ln c.Mons)) (oN (inb a1 (ln y0.Outer)) (oN (zxI c.Memory y1.Page) (oN (inb a1 (ln y0.Out)) (share (up c.Mons a0 ({ y0 with Out:=(up y0.Out a1 (zxH c.Memory y1.Page)) }:Mon)) (fun x4=>let y2:=(ix x4 a0 zf); (oN zcy (oN (inb a1 (ln y2.Outer)) (share (up x4 a0 ({ y2 with Outer:=(up y2.Outer a1 zbV) }:Mon)) (fun x5=>let y3:=({ c with Mons:=x5 }:Host); (oN (zdY y3 a0 a1 y1) (some [(aH (zdZ y3 a0 a1 y1))]))))))))))))
theorem zZF (N:Nat)(c:Host)(a0 a1:Int):zf5 (cQ zo6 zor zXo zTc) (zo []) N 12 81 [true,true,true,true] (zbd c) [aI a0,aI a1]=zFq N c a0 a1:=by kernel_rfl
theorem zXa (c:Host)(a0 a1:Int)(hb:zbE big (.agg (zbd c) :: [aI a0,aI a1]))(hc:zGs c a0 a1=true):∃N,zFq N c a0 a1=some (.agg (zbd (zGt c a0 a1)) :: []):=by
 obtain ⟨hs,hm,hp⟩:=zD.1 hc;obtain ⟨g1,g2⟩:=zca hs hm;obtain ⟨k,rfl,hk⟩:=zdu (n:=c.Mons.length) hm;have hS:=zvv (p:=a1) hs hm;have hm':hasB (k:Int) (ln (zep c (k:Int) a1).Mons)=true:=zeg hm;have hk':k<(zep c (k:Int) a1).Mons.length:=by simpa [zep] using hk
 have ex:ix (zep c (k:Int) a1).Mons (k:Int) mZ={ ix c.Mons (k:Int) mZ with Out:=up (ix c.Mons (k:Int) mZ).Out a1 (zb8 c.Memory (ix (ix c.Mons (k:Int) mZ).Outer a1 sZ).Page) }:=zdD hk _ _;have hX:Shape { zep c (k:Int) a1 with Mons:=up (zep c (k:Int) a1).Mons (k:Int) { ix (zep c (k:Int) a1).Mons (k:Int) mZ with Outer:=up (ix (zep c (k:Int) a1).Mons (k:Int) mZ).Outer a1 noSlot } }:=by
  obtain ⟨q1,q2⟩:=zca hS hm';exact zhC hS ⟨by simpa using q1.1,q1.2⟩ ⟨by simpa using q2.1,q2.2⟩
 refine ⟨0,?_⟩;unfold zFq oN
 conv=>zeta
 refine must (zl hm) (must (zl (zc9 g2.1 hp)) (must (zbr ((zof _).2 hs.1.1)) (must (zl (zc9 g2.2.1 hp)) (shr (must rfl (must ?_ (shr (must (zbr ⟨hX,zeg hm'⟩) ?_))))))))
 .rw [zdD hk];exact zl (zc9 g2.1 hp)
 .have:=zyp (p:=a1) (s:=noSlot) hk' (by rw[ex];exact g2.2.2.2)
  rw[ex] at this
  show some [AV.agg (zbd (zxS { zep c (k:Int) a1 with Mons:=up (zep c (k:Int) a1).Mons (k:Int) { ix (zep c (k:Int) a1).Mons (k:Int) mZ with Outer:=up (ix (zep c (k:Int) a1).Mons (k:Int) mZ).Outer a1 noSlot } } (k:Int) a1 (ix (ix c.Mons (k:Int) mZ).Outer a1 sZ)))]=_
  rw[ex];exact congrArg (fun x=>some [AV.agg (zbd x)]) this
theorem zRb:zdy Tryz.prog 81 [true,true,true,true] zve:=by
 refine zb2 (zcW zgz zq zML zdb) (zd9 (by kernel_rfl)) ?_
 intro cs avs cs' rs hl hr h;have hb:=zcs hr;unfold zve at h;split at h
 .obtain ⟨hc,rfl,rfl⟩:=zcJ h;obtain ⟨N,hN⟩:=zXa _ _ _ (by exact hb) hc
  exact ⟨rfl,_,N,12,(zZF N _ _ _ ).trans hN⟩
 .cases h
def zXp:zdi:=[(81,([true,true,true,true],zve))]++zXo
theorem zMM:zcr zXp:=zd8 zML (by
 intro x hx;simp only[qG,qW,or_false]at hx;rcases hx with rfl
 .exact zRb)
def zX3:zeA:=[(218,([true,true,true,true,false,false],(some (1,1,[[0],[1],[2],[4],[7]])),zsR))]++zTc
theorem zMV:zdG zX3:=zmk zdb (by
 intro x hx;simp only[qG,qW,or_false]at hx;rcases hx with rfl
 .exact zLL)
def cz (l:List Slot):Nat:=l.countP fun s=>ieq s.Page 0
def zH:List Mon->Nat
 | []=>0
 | m :: l=>cz m.Outer+zH l
def bit (u:List Bool):Nat:=bif ix u 0 false then 1 else 0
theorem zvU (s:Slot)(l:List Slot):cz (s :: l)=cz l+bif ieq s.Page 0 then 1 else 0:=by
 unfold cz;rw[uR];cases ieq s.Page 0<;>rfl
theorem z6E {u:List Bool}{p:Int}(hp:0<=p)(hlt:p.toNat<u.length)(x:Bool):ix (up u p x) 0 false=bif ieq p 0 then x else ix u 0 false:=by
 unfold ix up;cases h:ieq p 0
 .have:p≠0:=by simpa [ieq] using h
  have hne:p.toNat≠0:=by omega
  simp[List.getD,jD,hne]
 .have:p=0:=by simpa [ieq] using h
  subst this;have hlt:0<u.length:=hlt;simp[List.getD,jD,hlt]
theorem zCq:∀(l:List Slot) (u u':List Bool),(∀s∈l,s.Page<12)->u.length=12->zfL l u=some u'->cz l+bit u=bit u'
 | [],u,u',_,_,h=>by cases h;simp[cz]
 | s :: l,u,u',hs,hu,h=>by
  simp only[zfL]at h;rw[zvU];cases h1:ilt s.Page 0
  .have h1:=jT h1;rw[show ilt s.Page 0=false from qJ (by omega)]at h
   simp only[cF]at h;cases h2:ix u s.Page false
   .rw [h2]at h;simp only[cF]at h;have hlt:s.Page.toNat<u.length:=by have:=hs s (by simp);omega
    have ih:=zCq l _ u' (fun t ht=>hs t (by simp[ht])) (by simpa using hu) h
    have e:bit (up u s.Page true)=bif ieq s.Page 0 then 1 else bit u:=by
     unfold bit;rw[z6E (by omega) hlt]
     cases ieq s.Page 0<;>rfl
    rw[e] at ih;cases h3:ieq s.Page 0
    .rw [h3] at ih;simp only[cF] at ih ⊢;omega
    .have h4:s.Page=0:=by simpa [ieq] using h3
     rw[h4]at h2;have:bit u=0:=by unfold bit;rw[h2];rfl
     rw[h3] at ih;simp only[cT] at ih ⊢;omega
   .rw [h2]at h;cases h
  .have h1':=qE h1;rw[h1]at h;simp only[cT]at h;have ih:=zCq l u u' (fun t ht=>hs t (by simp[ht])) hu h
   have:ieq s.Page 0=false:=by simp[ieq];omega
   rw[this];simpa using ih
theorem zRf:∀(l:List Mon) (u:List Bool),u.length=12->zgE l u=true->zH l+bit u<=1
 | [],u,_,_=>by unfold zH bit;cases ix u 0 false<;>simp
 | m :: l,u,hu,h=>by
  simp only[zgE]at h;cases h1:zdp m
  .rw [h1]at h;cases h
  .rw [h1]at h;simp only[cT]at h;cases h2:zfL m.Outer u with
   | none=>rw[h2]at h;cases h
   | some u' =>
    rw[h2]at h;have e:=zCq _ _ _ (zCU (zht h1)) hu h2;have ih:=zRf l u' ((zn1 _ _ _ h2).trans hu) h;simp only[zH];omega
theorem zYW:∀(l:List Slot) (b:Nat) (s:Slot),l[b]?=some s->s.Page=0->cz (l.set b noSlot)+1=cz l
 | [],b,s,h,_=>by simp at h
 | t :: l,0,s,h,hs=>by
  simp only[qH,qC]at h;subst h;rw[List.set_cons_zero,zvU,zvU];have:ieq t.Page 0=true:=by simp[ieq,hs]
  rw[this];rfl
 | t :: l,b+1,s,h,hs=>by
  rw[List.set_cons_succ,zvU,zvU];have:=zYW l b s (by simpa using h) hs
  omega
theorem zTF:∀(l:List Mon) (a:Nat) (x y:Mon),l[a]?=some x->zH (l.set a y)+cz x.Outer=zH l+cz y.Outer
 | [],a,x,y,h=>by simp at h
 | m :: l,0,x,y,h=>by
  simp only[qH,qC]at h;subst h;rw[List.set_cons_zero];simp only[zH];omega
 | m :: l,a+1,x,y,h=>by
  rw[List.set_cons_succ];have:=zTF l a x y (by simpa using h)
  simp only[zH];omega
theorem zWN {l:List Slot}(h:cz l=0):zmU l 0=none:=by
 unfold zmU;rw[List.findIdx?_eq_none_iff];intro s hs;have:=(uW.1 h) s hs;simpa using this
theorem zJV:∀(l:List Mon) (i:Nat),zH l=0->zha 0 l i=(-1,-1)
 | [],_,_=>rfl
 | m :: l,i,h=>by
  simp only[zH]at h;simp only[zha];rw[zWN (by omega)]
  exact zJV l (i+1) (by omega)
theorem zWO {l:List Slot}{k:Nat}(h:zmU l 0=some k):∃s,l[k]?=some s/\s.Page=0:=by
 unfold zmU at h;rw[uQ]at h;obtain ⟨hlt,h1,_⟩:=h;exact ⟨l[k],qB hlt,by simpa [ieq] using h1⟩
theorem zEI:∀(l:List Mon) (i:Nat),zha 0 l i=(-1,-1)\/∃a b x s,zha 0 l i=(((i+a:Nat):Int),((b:Nat):Int))/\l[a]?=some x/\x.Outer[b]?=some s/\s.Page=0
 | [],_=>.inl rfl
 | m :: l,i=>by
  simp only[zha];cases h:zmU m.Outer 0 with
  | none =>
   rcases zEI l (i+1) with h1|⟨a,b,x,s,h1,h2,h3,h4⟩
   .exact .inl h1
   .refine .inr ⟨a+1,b,x,s,?_,by simpa using h2,h3,h4⟩
    have e:i+1+a=i+(a+1):=by omega
    rw[h1,e]
  | some k =>
   obtain ⟨s,h1,h2⟩:=zWO h;exact .inr ⟨0,k,m,s,rfl,rfl,h1,h2⟩
def Fit (h:Host):Prop:=Shape h/\0<h.Memory.length/\zH h.Mons<=1
theorem zEA {h:Host}(hm:0<h.Memory.length)(ho:ilt (zbu h 0).1 0=true):inb 0 (ln (zbZ h))=true:=by
 unfold zbZ;obtain ⟨n,hn⟩:∃n,h.Memory.length=n+1:=⟨h.Memory.length-1,by omega⟩
 rw[hn];simp only[zu9];rw[show ilt (zbu h ((0:Nat):Int)).1 0=true from ho]
 exact qI (by simp only[cT,ln,qV];omega)
theorem zWT {h:Host}(hm:0<h.Memory.length)(h0:ieq (ln (zbZ h)) 0=true):ilt (zbu h 0).1 0=false:=by
 cases ho:ilt (zbu h 0).1 0
 .rfl
 .have h1:=qE (zEA hm ho);have h2:ln (zbZ h)=0:=by simpa [ieq] using h0
  omega
def zcO (h:Host):Host:=bif ieq (ln (zbZ h)) 0 then zda h (zbu h 0).1 (zbu h 0).2 else h
structure Room (h r:Host):Prop where
 shape:Shape r
 free:inb 0 (ln (zbZ r))=true
 len:r.Mons.length=h.Mons.length
 outer:∀m,(ix r.Mons m mZ).Outer.length=8\/True
theorem zZM {h:Host}(hf:Fit h)(h0:ieq (ln (zbZ h)) 0=true):∃(a b:Nat) (x:Mon) (s:Slot),zbu h 0=((a:Int),(b:Int))/\h.Mons[a]?=some x/\x.Outer[b]?=some s/\s.Page=0:=by
 have h1:=zWT hf.2.1 h0;have e:zbu h 0=zha 0 h.Mons 0:=rfl;rcases zEI h.Mons 0 with h2|⟨a,b,x,s,h2,h3⟩
 .rw [e,h2]at h1;cases h1
 .exact ⟨a,b,x,s,by rw[e,h2,j4],h3⟩
theorem zCN {h:Host}(hf:Fit h)(h0:ieq (ln (zbZ h)) 0=true):hasB (zbu h 0).1 (ln h.Mons)=true/\hasB (zbu h 0).2 8=true:=by
 obtain ⟨a,b,x,s,h1,h2,h3,h4⟩:=zZM hf h0;rw[h1];have ha:=(qA.1 h2).1;have hb:=(qA.1 h3).1;have hx:=hf.1.2 x (qM h2);refine ⟨qI (by simp only[ln];omega),qI ?_⟩
 have:=hx.1
 show 0<=(b:Int)/\(b:Int)<8
 omega
theorem room {h:Host}(hf:Fit h):Room h (zcO h):=by
 unfold zcO;cases h0:ieq (ln (zbZ h)) 0
 .refine ⟨hf.1,qI ?_,rfl,fun _=>.inr trivial⟩;have:ln (zbZ h)≠0:=by simpa [ieq] using h0
  show 0<=(0:Int)/\(0:Int)<ln (zbZ h)
  simp only[ln] at *;omega
 .obtain ⟨hm,hp⟩:=zCN hf h0;obtain ⟨a,b,x,s,h1,h2,h3,h4⟩:=zZM hf h0;simp only[cT];rw[h1]at hm hp ⊢;have ha:=(qA.1 h2).1;have hb:=(qA.1 h3).1;have hxa:ix h.Mons (a:Int) mZ=x:=by rw[zbc ha];exact (qA.1 h2).2
  have hmons:=(zfG (zep h (a:Int) (b:Int)) (a:Int) (b:Int) noSlot).1;have ex:ix (zep h (a:Int) (b:Int)).Mons (a:Int) mZ={ x with Out:=up x.Out (b:Int) (zb8 h.Memory (ix x.Outer (b:Int) sZ).Page) }:=by
   unfold zep;rw[zdD ha,hxa]
  obtain ⟨y,hM,hy⟩:∃y,(zda h (a:Int) (b:Int)).Mons=h.Mons.set a y/\y.Outer=x.Outer.set b noSlot:=by
   unfold zda;rw[hmons,ex];unfold zep;rw[zuX];exact ⟨_,by simp[up];rfl,by simp[up]⟩
  have hz:zH (zda h (a:Int) (b:Int)).Mons=0:=by
   have e1:=zTF h.Mons a x y h2;have e2:=zYW x.Outer b s h3 h4;have e3:=hf.2.2;rw[hM];rw[hy] at e1;omega
  have hmem:(zda h (a:Int) (b:Int)).Memory=h.Memory:=(zfG (zep h (a:Int) (b:Int)) (a:Int) (b:Int) noSlot).2;refine ⟨zKh hf.1 hm,zEA (by rw[hmem];exact hf.2.1) ?_,by rw[hM];simp,fun _=>.inr trivial⟩
  have e:zbu (zda h (a:Int) (b:Int)) 0=zha 0 (zda h (a:Int) (b:Int)).Mons 0:=rfl;rw[e,zJV _ _ hz];rfl
theorem zSZ {m:List (List Int)}{p:Int}{c:List Int}(h:SmM m)(hc:c.length<=1048576):SmM (zgK m p c):=by
 unfold zgK;cases hasB p (ln m)
 .exact h
 .cases zb5 c
  .exact h
  .exact zKo h hc
def landing (r:Host)(m p to:Int):Host:={ r with Memory:=zgK r.Memory to (ix (ix r.Mons m mZ).Out p []),Mons:=up r.Mons m { ix r.Mons m mZ with Out:=up (ix r.Mons m mZ).Out p [] } }
def zew (r:Host)(m p to:Int):Host:=zb6 (landing r m p to) m p ⟨to,3⟩
def fetched (h:Host)(m p:Int):Host:=zew (zcO h) m p (ix (zbZ (zcO h)) 0 0)
theorem zS1 {r:Host}{m p:Int}(hr:Shape r)(hm:hasB m (ln r.Mons)=true)(hp:hasB p 8=true):(ix (ix r.Mons m mZ).Out p []).length<=1048576:=by
 obtain ⟨g1,g2⟩:=zca hr hm;exact g1.2.1.2 _ (zbv (zc9 g2.2.1 hp) _)
theorem zqV {r:Host}{m p to:Int}(hr:Shape r)(hm:hasB m (ln r.Mons)=true)(hp:hasB p 8=true):Shape (landing r m p to):=by
 obtain ⟨g1,g2⟩:=zca hr hm;exact zOs (h:={ r with Mons:=up r.Mons m { ix r.Mons m mZ with Out:=up (ix r.Mons m mZ).Out p [] } }) (zhC (x:={ ix r.Mons m mZ with Out:=up (ix r.Mons m mZ).Out p [] }) hr ⟨g1.1,zKo g1.2.1 (by simp),g1.2.2⟩ ⟨g2.1,by simpa using g2.2.1,g2.2.2⟩) (zSZ hr.1.1 (zS1 hr hm hp))
theorem zPP {r:Host}{m p to:Int}(hr:Shape r)(hm:hasB m (ln r.Mons)=true)(hp:hasB p 8=true):Shape (zew r m p to):=zqW (zeg hm) (zqV hr hm hp)
theorem zoC {h:Host}(hf:Fit h){m:Int}(hm:hasB m (ln h.Mons)=true):hasB m (ln (zcO h).Mons)=true:=by
 rw[ln,(room hf).len];exact hm
theorem ziT {h:Host}{m p:Int}(hf:Fit h)(hm:hasB m (ln h.Mons)=true)(hp:hasB p 8=true):Shape (fetched h m p)/\hasB m (ln (fetched h m p).Mons)=true :=
 ⟨zPP (room hf).shape (zoC hf hm) hp,zEB (zeg (zoC hf hm))⟩
@[simp] abbrev zuQ (h:Host)(m p:Int):Bool:=pc (Fit h/\hasB m (ln h.Mons)=true/\hasB p 8=true)
@[simp] abbrev zw2 (h:Host)(m p:Int):Host:=fetched h m p
def zvh:List AV->Option (Bool×List AV)
 | [.agg [.s (.sl .int) b,.s .mon c,.s .entry d,.s .entry e],.one (.i .i64 f),.one (.i .i64 g)]=>some ((zuQ (⟨b,c,d,e⟩:Host) f g),[aH (zw2 (⟨b,c,d,e⟩:Host) f g)])
 | _=>none
def zAj (N:Nat)(a0:Host)(a1 a2:Int):OA:=
 let y6:=(ix (zeL a0) 0 0);let y2:=(ix a0.Mons a1 zf);let y0:=(zym a0 (zfQ a0 0) (zhe a0 0));let y5:=(ix (zeL y0) 0 0);let y1:=(ix y0.Mons a1 zf); (oN (zkG a0) (cond (ieq (ln (zeL a0)) 0) (oN (zjk a0 0) (oN (zrD a0 (zfQ a0 0) (zhe a0 0)) (oN (zkG y0) (oN (inb 0 (ln (zeL y0))) (oN (inb a1 (ln y0.Mons)) (oN (inb a2 (ln y1.Out)) (oN (zjX y0.Memory y5 (ix y1.Out a2 [])) (oN (inb a1 (ln y0.Mons)) (oN (inb a2 (ln y1.Out)) (share (up y0.Mons a1 ({ y1 with Out:=(up y1.Out a2 []) }:Mon)) (fun x4=>let y3:=({ y0 with Memory:=(zix y0.Memory y5 (ix y1.Out a2 [])),Mons:=x4 }:Host); (oN (zeF y3 a1 a2 (⟨y5,3⟩:Slot)) (some [(aH (zgi y3 a1 a2 (⟨y5,3⟩:Slot)))]))))))))))))) (oN (zkG a0) (oN (inb 0 (ln (zeL a0))) (oN (inb a1 (ln a0.Mons)) (oN (inb a2 (ln y2.Out)) (oN (zjX a0.Memory y6 (ix y2.Out a2 [])) (oN (inb a1 (ln a0.Mons)) (oN (inb a2 (ln y2.Out)) (share (up a0.Mons a1 ({ y2 with Out:=(up y2.Out a2 []) }:Mon)) (fun x4=>let y4:=({ a0 with Memory:=(zix a0.Memory y6 (ix y2.Out a2 [])),Mons:=x4 }:Host); (oN (zeF y4 a1 a2 (⟨y6,3⟩:Slot)) (some [(aH (zgi y4 a1 a2 (⟨y6,3⟩:Slot)))])))))))))))))
theorem zXi (N:Nat)(a0:Host)(a1 a2:Int):zCC (cQ zo6 zor zXp zX3) (zo []) N 12 159 [true,true,true,true,false,false] 1 1 [[0],[1],[2],[4],[7]] .mon [aH a0,aI a1,aI a2]=zAj N a0 a1 a2:=by kernel_rfl
theorem zUo (a0:Host)(a1 a2:Int)(hb:zbE big [aH a0,aI a1,aI a2])(hc:zuQ a0 a1 a2=true):∃N,zAj N a0 a1 a2=some [aH (zw2 a0 a1 a2)]:=by
 obtain ⟨hf,hm,hp⟩:=zD.1 hc;have tail:∀r,Shape r->inb 0 (ln (zbZ r))=true->hasB a1 (ln r.Mons)=true->(cond (zkG r) (cond (inb 0 (ln (zeL r))) (cond (inb a1 (ln r.Mons)) (cond (inb a2 (ln (ix r.Mons a1 zf).Out)) (cond (zjX r.Memory (ix (zeL r) 0 0) (ix (ix r.Mons a1 zf).Out a2 [])) (cond (inb a1 (ln r.Mons)) (cond (inb a2 (ln (ix r.Mons a1 zf).Out)) (share (up r.Mons a1 ({ (ix r.Mons a1 zf) with Out:=(up (ix r.Mons a1 zf).Out a2 []) }:Mon)) (fun x4=>(cond (zeF ({ r with Memory:=(zix r.Memory (ix (zeL r) 0 0) (ix (ix r.Mons a1 zf).Out a2 [])),Mons:=x4 }:Host) a1 a2 (⟨(ix (zeL r) 0 0),3⟩:Slot)) (some [(AV.agg (zbd (zgi ({ r with Memory:=(zix r.Memory (ix (zeL r) 0 0) (ix (ix r.Mons a1 zf).Out a2 [])),Mons:=x4 }:Host) a1 a2 (⟨(ix (zeL r) 0 0),3⟩:Slot))))]) none))) none) none) none) none) none) none) none)=some [AV.agg (zbd (zew r a1 a2 (ix (zbZ r) 0 0)))]:=by
  intro r hr hfree hrm;obtain ⟨g1,g2⟩:=zca hr hrm;have hL:=zqV (to:=ix (zbZ r) 0 0) hr hrm hp;obtain ⟨k,rfl,hk⟩:=zdu (n:=r.Mons.length) hrm;refine must (zbr hr.1.1.1) (must hfree (must (zl hrm) (must (zl (zc9 g2.2.1 hp)) (must (zbr ⟨hr.1.1,zS1 hr hrm hp⟩) (must (zl hrm) (must (zl (zc9 g2.2.1 hp)) (shr (must (zbr ⟨(zM _).2 hL.1,zeg hrm,?_,?_⟩) rfl))))))))
  .simp only [zdD hk];exact zc9 g2.1 hp
  .simp only [zdD hk];exact vC g2.2.2.2
 have hR:=room hf;have hrm:=zoC hf hm;refine ⟨0,?_⟩;unfold zAj zw2 fetched oN
 conv=>zeta
 refine must (zbr hf.1.1.1.1) ?_;cases h0:ieq (ln (zeL a0)) 0
 .have er:zcO a0=a0:=by unfold zcO;rw[show ieq (ln (zbZ a0)) 0=false from h0];rfl
  rw[er]at hR hrm ⊢;exact tail a0 hR.shape hR.free hrm
 .obtain ⟨o1,o2⟩:=zCN hf h0;have er:zcO a0=zda a0 (zbu a0 0).1 (zbu a0 0).2:=by unfold zcO;rw[show ieq (ln (zbZ a0)) 0=true from h0];rfl
  rw[er]at hR hrm ⊢;exact must rfl (must rfl (must (zbr ⟨hf.1,o1,o2⟩) (tail _ hR.shape hR.free hrm)))
theorem zOY:zdN Tryz.prog 159 [true,true,true,true,false,false] (some (1,1,[[0],[1],[2],[4],[7]])) zvh:=by
 refine zkn (kt:=.mon) (zcW zgz zq zMM zMV) (zd9 (by kernel_rfl)) (by kernel_rfl) ?_
 intro avs rs hl hr h;have hb:=zhG hr;unfold zvh at h;split at h
 .obtain ⟨hc,rfl⟩:=zdS h;obtain ⟨N,hN⟩:=zUo _ _ _ (by exact hb) hc
  exact ⟨⟨_,rfl⟩,rfl,_,N,12,(zXi N _ _ _ ).trans hN⟩
 .cases h
@[simp] abbrev zqy (h:Host):Bool:=pc (Shape h/\hasB (zbu h 0).1 (ln h.Mons)=true/\hasB (zbu h 0).2 8=true)
@[simp] abbrev zqz (h:Host):Host:=zda h (zbu h 0).1 (zbu h 0).2
def zl5:List CV->List AV->Option (Bool×List CV×List AV)
 | [.s (.sl .int) b,.s .mon c,.s .entry d,.s .entry e],[]=>some ((zqy (⟨b,c,d,e⟩:Host)),zbd (zqz (⟨b,c,d,e⟩:Host)),[])
 | _,_=>none
def zqn (N:Nat)(c:Host)  : OA :=
 (oN (zjh c 0) (oN (zGs c (zfO c 0) (zg5 c 0)) (some [(aH (zGt c (zfO c 0) (zg5 c 0)))])))
theorem zMG (N:Nat)(c:Host)  : zf5 (cQ zo6 zor zXp zX3) (zo []) N 12 207 [true,true,true,true] (zbd c) []=zqn N c:=by kernel_rfl
theorem zJs (c:Host)(hb:zbE big (.agg (zbd c) :: []))(hc:zqy c=true):∃N,zqn N c=some (.agg (zbd (zqz c)) :: []):=by
 have hs:=zD.1 hc;refine ⟨0,?_⟩;unfold zqn oN;exact must rfl (must (zbr hs) rfl)
theorem zC6:zdy Tryz.prog 207 [true,true,true,true] zl5:=by
 refine zb2 (zcW zgz zq zMM zMV) (zd9 (by kernel_rfl)) ?_
 intro cs avs cs' rs hl hr h;have hb:=zcs hr;unfold zl5 at h;split at h
 .obtain ⟨hc,rfl,rfl⟩:=zcJ h;obtain ⟨N,hN⟩:=zJs _ (by exact hb) hc
  exact ⟨rfl,_,N,12,(zMG N _ ).trans hN⟩
 .cases h
def z1T:zdi:=[(207,([true,true,true,true],zl5))]++zXp
theorem zVJ:zcr z1T:=zd8 zMM (by
 intro x hx;simp only[qG,qW,or_false]at hx;rcases hx with rfl
 .exact zC6)
def zTd:zeA:=[(159,([true,true,true,true,false,false],(some (1,1,[[0],[1],[2],[4],[7]])),zvh))]++zX3
theorem zCX:zdG zTd:=zmk zMV (by
 intro x hx;simp only[qG,qW,or_false]at hx;rcases hx with rfl
 .exact zOY)
@[simp] abbrev zA2 (h:Host)(m p:Int):Bool:=pc (Fit h/\hasB m (ln h.Mons)=true/\hasB p 8=true)
@[simp] abbrev ztV (h:Host)(m p:Int):Host:=fetched h m p
theorem zWn {r:Host}{m p to:Int}(hr:Shape r)(hm:hasB m (ln r.Mons)=true):zxS { landing r m p to with Mons:=up (landing r m p to).Mons m { ix (landing r m p to).Mons m mZ with Outer:=up (ix (landing r m p to).Mons m mZ).Outer p ⟨to,3⟩ } } m p (ix (ix (landing r m p to).Mons m mZ).Outer p sZ)=zew r m p to:=by
 obtain ⟨g1,g2⟩:=zca hr hm;obtain ⟨k,rfl,hk⟩:=zdu (n:=r.Mons.length) hm;refine zyp (h:=landing r (k:Int) p to) (by simpa [landing] using hk) ?_
 unfold landing;simp only[zdD hk];exact g2.2.2.2
theorem zUW {r:Host}{m p to:Int}(hr:Shape r)(hm:hasB m (ln r.Mons)=true)(hp:hasB p 8=true):Shape { landing r m p to with Mons:=up (landing r m p to).Mons m { ix (landing r m p to).Mons m mZ with Outer:=up (ix (landing r m p to).Mons m mZ).Outer p ⟨to,3⟩ } }:=by
 have hL:=zqV (to:=to) hr hm hp;obtain ⟨q1,q2⟩:=zca hL (zeg hm);exact zhC hL ⟨by simpa using q1.1,q1.2⟩ ⟨by simpa using q2.1,q2.2⟩
def zsC:List CV->List AV->Option (Bool×List CV×List AV)
 | [.s (.sl .int) b,.s .mon c,.s .entry d,.s .entry e],[.one (.i .i64 f),.one (.i .i64 g)]=>some ((zA2 (⟨b,c,d,e⟩:Host) f g),zbd (ztV (⟨b,c,d,e⟩:Host) f g),[])
 | _,_=>none
def zzW (N:Nat)(c:Host)(a0 a1:Int):OA:=
 let y8:=(ix (zff c) 0 0);let y6:=(zqz c);let y7:=(ix (zff y6) 0 0);let y1:=(ix c.Mons a0 zf);let y0:=(ix y6.Mons a0 zf); (oN (zko c) (cond (ieq (ln (zff c)) 0) (oN (zqy c) (oN (inb a0 (ln y6.Mons)) (oN (zko y6) (oN (inb 0 (ln (zff y6))) (oN (inb a1 (ln y0.Out)) (oN (zjC y6.Memory y7 (ix y0.Out a1 [])) (oN (inb a1 (ln y0.Out)) (share (up y6.Mons a0 ({ y0 with Out:=(up y0.Out a1 []) }:Mon)) (fun x4=>let y2:=(ix x4 a0 zf);let y9:=(ix y2.Outer a1 zK); (oN (inb a1 (ln y2.Outer)) (oN (inb a1 (ln y2.Outer)) (share (up x4 a0 ({ y2 with Outer:=(up y2.Outer a1 (⟨y7,3⟩:Slot)) }:Mon)) (fun x5=>let y4:=({ y6 with Memory:=(zin y6.Memory y7 (ix y0.Out a1 [])),Mons:=x5 }:Host); (oN (zdY y4 a0 a1 y9) (some [(aH (zdZ y4 a0 a1 y9))]))))))))))))))) (oN (inb a0 (ln c.Mons)) (oN (zko c) (oN (inb 0 (ln (zff c))) (oN (inb a1 (ln y1.Out)) (oN (zjC c.Memory y8 (ix y1.Out a1 [])) (oN (inb a1 (ln y1.Out)) (share (up c.Mons a0 ({ y1 with Out:=(up y1.Out a1 []) }:Mon)) (fun x4=>let y3:=(ix x4 a0 zf);let y10:=(ix y3.Outer a1 zK); (oN (inb a1 (ln y3.Outer)) (oN (inb a1 (ln y3.Outer)) (share (up x4 a0 ({ y3 with Outer:=(up y3.Outer a1 (⟨y8,3⟩:Slot)) }:Mon)) (fun x5=>let y5:=({ c with Memory:=(zin c.Memory y8 (ix y1.Out a1 [])),Mons:=x5 }:Host); (oN (zdY y5 a0 a1 y10) (some [(aH (zdZ y5 a0 a1 y10))]))))))))))))))))
theorem zXg (N:Nat)(c:Host)(a0 a1:Int):zf5 (cQ zo6 zor z1T zTd) (zo []) N 12 150 [true,true,true,true] (zbd c) [aI a0,aI a1]=zzW N c a0 a1:=by kernel_rfl
theorem zUa (c:Host)(a0 a1:Int)(hb:zbE big (.agg (zbd c) :: [aI a0,aI a1]))(hc:zA2 c a0 a1=true):∃N,zzW N c a0 a1=some (.agg (zbd (ztV c a0 a1)) :: []):=by
 obtain ⟨hf,hm,hp⟩:=zD.1 hc;have tail:∀r,Shape r->inb 0 (ln (zbZ r))=true->hasB a0 (ln r.Mons)=true->(cond (inb a0 (ln r.Mons)) (cond (zko r) (cond (inb 0 (ln (zff r))) (cond (inb a1 (ln (ix r.Mons a0 zf).Out)) (cond (zjC r.Memory (ix (zff r) 0 0) (ix (ix r.Mons a0 zf).Out a1 [])) (cond (inb a1 (ln (ix r.Mons a0 zf).Out)) (share (up r.Mons a0 ({ (ix r.Mons a0 zf) with Out:=(up (ix r.Mons a0 zf).Out a1 []) }:Mon)) (fun x4=>(cond (inb a1 (ln (ix x4 a0 zf).Outer)) (cond (inb a1 (ln (ix x4 a0 zf).Outer)) (share (up x4 a0 ({ (ix x4 a0 zf) with Outer:=(up (ix x4 a0 zf).Outer a1 (⟨(ix (zff r) 0 0),3⟩:Slot)) }:Mon)) (fun x5=>(cond (zdY ({ r with Memory:=(zin r.Memory (ix (zff r) 0 0) (ix (ix r.Mons a0 zf).Out a1 [])),Mons:=x5 }:Host) a0 a1 (ix (ix x4 a0 zf).Outer a1 zK)) (some [(AV.agg (zbd (zdZ ({ r with Memory:=(zin r.Memory (ix (zff r) 0 0) (ix (ix r.Mons a0 zf).Out a1 [])),Mons:=x5 }:Host) a0 a1 (ix (ix x4 a0 zf).Outer a1 zK))))]) none))) none) none))) none) none) none) none) none) none)=some [AV.agg (zbd (zew r a0 a1 (ix (zbZ r) 0 0)))]:=by
  intro r hr hfree hrm;obtain ⟨g1,g2⟩:=zca hr hrm;have hL:=zUW (to:=ix (zbZ r) 0 0) hr hrm hp;have hE:=zWn (p:=a1) (to:=ix (zbZ r) 0 0) hr hrm;obtain ⟨k,rfl,hk⟩:=zdu (n:=r.Mons.length) hrm;have hh:∀(x y:Mon),hasB (k:Int) (ln (up (up r.Mons (k:Int) x) (k:Int) y))=true:=fun x y=>by simpa [ln] using hrm
  have hi:inb a1 (ln (ix (up r.Mons (k:Int) { ix r.Mons (k:Int) mZ with Out:=up (ix r.Mons (k:Int) mZ).Out a1 [] }) (k:Int) mZ).Outer)=true:=by
   rw[zdD hk];exact zl (zc9 g2.1 hp)
  refine must (zl hrm) (must (zbr hr.1.1.1) (must hfree (must (zl (zc9 g2.2.1 hp)) (must (zbr ⟨hr.1.1,zS1 hr hrm hp⟩) (must (zl (zc9 g2.2.1 hp)) (shr (must hi (must hi (shr (must (zbr ⟨hL,hh _ _⟩) ?_))))))))));exact congrArg (fun x=>some [AV.agg (zbd x)]) hE
 have hR:=room hf;have hrm:=zoC hf hm;refine ⟨0,?_⟩;unfold zzW ztV fetched oN
 conv=>zeta
 refine must (zbr hf.1.1.1.1) ?_;cases h0:ieq (ln (zff c)) 0
 .have er:zcO c=c:=by unfold zcO;rw[show ieq (ln (zbZ c)) 0=false from h0];rfl
  rw[er]at hR hrm ⊢;exact tail c hR.shape hR.free hrm
 .obtain ⟨o1,o2⟩:=zCN hf h0;have er:zcO c=zda c (zbu c 0).1 (zbu c 0).2:=by unfold zcO;rw[show ieq (ln (zbZ c)) 0=true from h0];rfl
  rw[er]at hR hrm ⊢;exact must rfl (must (zbr ⟨hf.1,o1,o2⟩) (tail _ hR.shape hR.free hrm))
theorem zOK:zdy Tryz.prog 150 [true,true,true,true] zsC:=by
 refine zb2 (zcW zgz zq zVJ zCX) (zd9 (by kernel_rfl)) ?_
 intro cs avs cs' rs hl hr h;have hb:=zcs hr;unfold zsC at h;split at h
 .obtain ⟨hc,rfl,rfl⟩:=zcJ h;obtain ⟨N,hN⟩:=zUa _ _ _ (by exact hb) hc
  exact ⟨rfl,_,N,12,(zXg N _ _ _ ).trans hN⟩
 .cases h
def zXq:zdi:=[(150,([true,true,true,true],zsC))]++z1T
theorem zMN:zcr zXq:=zd8 zVJ (by
 intro x hx;simp only[qG,qW,or_false]at hx;rcases hx with rfl
 .exact zOK)
def zbs (h:Host)(m p:Int):Host:={ h with Mons:=up h.Mons m { ix h.Mons m mZ with Dirty:=up (ix h.Mons m mZ).Dirty p true } }
def opened (h:Host)(m p:Int):Host:=bif ieq (wand .i64 (ix (ix h.Mons m mZ).Outer p sZ).Rights 2) 0 then zb6 h m p ⟨(ix (ix h.Mons m mZ).Outer p sZ).Page,3⟩ else h
def ziq (h:Host)(m p n:Int):Host:=bif ieq (wand .i64 n 2) 0 then h else opened (zbs h m p) m p
def mended (h:Host)(m p n:Int):Host:=bif ieq (ix (ix h.Mons m mZ).Outer p sZ).Page (-1) then ziq (fetched h m p) m p n else ziq h m p n
theorem z4Z {r:Int}(h0:0<=r)(h3:r<=3):enough r 2 = !ieq (wand .i64 r 2) 0:=by
 have:r=0\/r=1\/r=2\/r=3:=by omega
 rcases this with rfl|rfl|rfl|rfl<;>rfl
structure SlotFit (s:Slot):Prop where
 no:zcg s noSlot=ieq s.Page (-1)
 lo:0<=s.Rights
 hi:s.Rights<=3
theorem zXU {s:Slot}{n:Int}(h:zdd s n=true):SlotFit s:=by
 refine ⟨zOu h,?_,?_⟩<;>unfold zdd at h<;>cases h1:zcg s noSlot
 .rw [h1]at h;simp only[cF,zcw]at h;have:=(zfm.1 h.2.2).1;omega
 .unfold zcg at h1;rw[qD]at h1;have:s.Rights=0:=qE h1.2;omega
 .rw [h1]at h;simp only[cF,zcw]at h;have:=(zfm.1 h.2.2).2;omega
 .unfold zcg at h1;rw[qD]at h1;have:s.Rights=0:=qE h1.2;omega
theorem zlR {h:Host}{m p:Int}(hs:Shape h)(hm:hasB m (ln h.Mons)=true):Shape (zbs h m p):=by
 obtain ⟨g1,g2⟩:=zca hs hm;exact zhC hs ⟨g1.1,g1.2.1,by simpa using g1.2.2.1,g1.2.2.2⟩ ⟨g2.1,g2.2.1,by simpa using g2.2.2.1,g2.2.2.2⟩
theorem zSS {h:Host}{m p:Int}(hs:Shape h)(hm:hasB m (ln h.Mons)=true):Shape (opened h m p)/\hasB m (ln (opened h m p).Mons)=true:=by
 unfold opened;cases ieq (wand .i64 (ix (ix h.Mons m mZ).Outer p sZ).Rights 2) 0
 .exact ⟨hs,hm⟩
 .exact ⟨zqW hm hs,zEB hm⟩
theorem zFd {h:Host}{m p n:Int}(hs:Shape h)(hm:hasB m (ln h.Mons)=true):Shape (ziq h m p n)/\hasB m (ln (ziq h m p n).Mons)=true:=by
 unfold ziq;cases ieq (wand .i64 n 2) 0
 .exact zSS (zlR hs hm) (zeg hm)
 .exact ⟨hs,hm⟩
theorem ztd {h:Host}{m p n:Int}(hf:Fit h)(hm:hasB m (ln h.Mons)=true)(hp:hasB p 8=true):Shape (mended h m p n)/\hasB m (ln (mended h m p n).Mons)=true:=by
 unfold mended;cases ieq (ix (ix h.Mons m mZ).Outer p sZ).Page (-1)
 .exact zFd hf.1 hm
 .obtain ⟨h1,h2⟩:=ziT hf hm hp;exact zFd h1 h2
theorem zQY {h:Host}{m p:Int}(hf:Fit h)(hm:hasB m (ln h.Mons)=true)(hp:hasB p 8=true):(ix (ix (fetched h m p).Mons m mZ).Outer p sZ).Rights=3:=by
 have hR:=room hf;have hrm:=zoC hf hm;obtain ⟨g1,g2⟩:=zca hR.shape hrm;obtain ⟨k,rfl,hk⟩:=zdu (n:=(zcO h).Mons.length) hrm;obtain ⟨q,rfl,hq⟩:=zdu (n:=8) hp;unfold fetched zew;rw[(zfG _ _ _ _).1];have hk':k<(landing (zcO h) (k:Int) (q:Int) (ix (zbZ (zcO h)) 0 0)).Mons.length:=by simpa [landing] using hk
 rw[zdD hk'];have ho:q<(ix (landing (zcO h) (k:Int) (q:Int) (ix (zbZ (zcO h)) 0 0)).Mons (k:Int) mZ).Outer.length:=by
  unfold landing;rw[zdD hk]
  show q<(ix (zcO h).Mons (k:Int) mZ).Outer.length
  rw[g2.1];exact hq
 show (ix (up (ix (landing (zcO h) (k:Int) (q:Int) (ix (zbZ (zcO h)) 0 0)).Mons (k:Int) mZ).Outer (q:Int) ⟨_,3⟩) (q:Int) sZ).Rights=3
 rw[zdD ho]
def zQt (h:Host)(m p n:Int):Prop:=Fit h/\hasB m (ln h.Mons)=true/\hasB p 8=true/\(n=1\/n=2)/\SlotFit (ix (ix h.Mons m mZ).Outer p sZ)
@[simp] abbrev zlA (h:Host)(m p n:Int):Bool:=pc (zQt h m p n)
@[simp] abbrev zmA (h:Host)(m p n:Int):Host:=mended h m p n
def zqM:List AV->Option (Bool×List AV)
 | [.agg [.s (.sl .int) b,.s .mon c,.s .entry d,.s .entry e],.one (.i .i64 f),.one (.i .i64 g),.one (.i .i64 h)]=>some ((zlA (⟨b,c,d,e⟩:Host) f g h),[aH (zmA (⟨b,c,d,e⟩:Host) f g h)])
 | _=>none
def zuZ (N:Nat)(a0:Host)(a1 a2 a3:Int):OA:=
 let y3:=(zw2 a0 a1 a2);let y6:=(ix y3.Mons a1 zf);let y0:=(ix a0.Mons a1 zf);let y7:=(ix y0.Outer a2 zK); (oN (inb a1 (ln a0.Mons)) (oN (inb a2 (ln y0.Outer)) (oN zck (cond (cond (ieq y7.Page zbq.Page) (ieq y7.Rights zbq.Rights) false) (oN (zuQ a0 a1 a2) (cond (ieq (wand .i64 a3 2) 0) (some [(aH y3)]) (oN (inb a1 (ln y3.Mons)) (oN (inb a2 (ln y6.Dirty)) (share (up y3.Mons a1 ({ y6 with Dirty:=(up y6.Dirty a2 true) }:Mon)) (fun x5=>let y8:=(ix x5 a1 zf).Outer;let y4:=({ y3 with Mons:=x5 }:Host);let y1:=(ix y8 a2 zK);let y9:=({ y1 with Rights:=3 }:Slot); (oN (inb a1 (ln x5)) (oN (inb a2 (ln y8)) (cond (ieq (wand .i64 y1.Rights 2) 0) (oN (zeF y4 a1 a2 y9) (some [(aH (zgi y4 a1 a2 y9))])) (some [(aH y4)])))))))))) (cond (ieq (wand .i64 a3 2) 0) (some [(aH a0)]) (oN (inb a1 (ln a0.Mons)) (oN (inb a2 (ln y0.Dirty)) (share (up a0.Mons a1 ({ y0 with Dirty:=(up y0.Dirty a2 true) }:Mon)) (fun x5=>let y10:=(ix x5 a1 zf).Outer;let y5:=({ a0 with Mons:=x5 }:Host);let y2:=(ix y10 a2 zK);let y11:=({ y2 with Rights:=3 }:Slot); (oN (inb a1 (ln x5)) (oN (inb a2 (ln y10)) (cond (ieq (wand .i64 y2.Rights 2) 0) (oN (zeF y5 a1 a2 y11) (some [(aH (zgi y5 a1 a2 y11))])) (some [(aH y5)])))))))))))))
theorem zSp (N:Nat)(a0:Host)(a1 a2 a3:Int):zCC (cQ zo6 zor zXq zTd) (zo []) N 12 102 [true,true,true,true,false,false,false] 1 1 [[0],[1],[2],[4],[7]] .mon [aH a0,aI a1,aI a2,aI a3]=zuZ N a0 a1 a2 a3:=by kernel_rfl
theorem zPF (a0:Host)(a1 a2 a3:Int)(hb:zbE big [aH a0,aI a1,aI a2,aI a3])(hc:zlA a0 a1 a2 a3=true):∃N,zuZ N a0 a1 a2 a3=some [aH (zmA a0 a1 a2 a3)]:=by
 obtain ⟨hf,hm,hp,hn,hs⟩:=zD.1 hc;obtain ⟨g1,g2⟩:=zca hf.1 hm;have tail:∀r,Shape r->hasB a1 (ln r.Mons)=true->(cond (ieq (wand .i64 a3 2) 0) (some [(AV.agg (zbd r))]) (cond (inb a1 (ln r.Mons)) (cond (inb a2 (ln (ix r.Mons a1 zf).Dirty)) (share (up r.Mons a1 ({ (ix r.Mons a1 zf) with Dirty:=(up (ix r.Mons a1 zf).Dirty a2 true) }:Mon)) (fun x5=>(cond (inb a1 (ln x5)) (cond (inb a2 (ln (ix x5 a1 zf).Outer)) (cond (ieq (wand .i64 (ix (ix x5 a1 zf).Outer a2 zK).Rights 2) 0) (cond (zeF ({ r with Mons:=x5 }:Host) a1 a2 ({ (ix (ix x5 a1 zf).Outer a2 zK) with Rights:=3 }:Slot)) (some [(AV.agg (zbd (zgi ({ r with Mons:=x5 }:Host) a1 a2 ({ (ix (ix x5 a1 zf).Outer a2 zK) with Rights:=3 }:Slot))))]) none) (some [(AV.agg (zbd ({ r with Mons:=x5 }:Host)))])) none) none))) none) none))=some [AV.agg (zbd (ziq r a1 a2 a3))]:=by
  intro r hr hrm;obtain ⟨q1,q2⟩:=zca hr hrm;have hD:=zlR (p:=a2) hr hrm;unfold ziq;cases h0:ieq (wand .i64 a3 2) 0
  .obtain ⟨k,rfl,hk⟩:=zdu (n:=r.Mons.length) hrm;have ex:ix (zbs r (k:Int) a2).Mons (k:Int) mZ={ ix r.Mons (k:Int) mZ with Dirty:=up (ix r.Mons (k:Int) mZ).Dirty a2 true }:=zdD hk _ _;refine zdI rfl (must (zl hrm) (must (zl (zc9 q2.2.2.1 hp)) (shr (must (zl (zeg hrm)) (must ?_ ?_)))))
   .rw [zdD hk];exact zl (zc9 q2.1 hp)
   .unfold opened
    show (cond (ieq (wand .i64 (ix (ix (zbs r (k:Int) a2).Mons (k:Int) mZ).Outer a2 sZ).Rights 2) 0) _ _)=_
    cases h1:ieq (wand .i64 (ix (ix (zbs r (k:Int) a2).Mons (k:Int) mZ).Outer a2 sZ).Rights 2) 0
    .rfl
    .refine must rfl (must (zbr ⟨(zM _).2 hD.1,zeg hrm,?_,?_⟩) rfl)
     .show hasB a2 (ln (ix (zbs r (k:Int) a2).Mons (k:Int) mZ).Outer)=true
      rw[ex];exact zc9 q2.1 hp
     .show (ix (zbs r (k:Int) a2).Mons (k:Int) mZ).Tables.length<=(ix (zbs r (k:Int) a2).Mons (k:Int) mZ).Guests.length
      rw[ex];exact vC q2.2.2.2
  .rfl
 refine ⟨0,?_⟩;unfold zuZ zmA mended oN
 conv=>zeta
 refine must (zl hm) (must (zl (zc9 g2.1 hp)) (must rfl ?_));have e:(cond (ieq (ix (ix a0.Mons a1 mZ).Outer a2 sZ).Page zbq.Page) (ieq (ix (ix a0.Mons a1 mZ).Outer a2 sZ).Rights zbq.Rights) false)=ieq (ix (ix a0.Mons a1 mZ).Outer a2 sZ).Page (-1):=by
  rw[<- hs.no];unfold zcg zbq;cases ieq (ix (ix a0.Mons a1 mZ).Outer a2 sZ).Page noSlot.Page<;>rfl
 rw[e];cases h0:ieq (ix (ix a0.Mons a1 mZ).Outer a2 sZ).Page (-1)
 .exact tail a0 hf.1 hm
 .obtain ⟨h1,h2⟩:=ziT (p:=a2) hf hm hp;exact must rfl (must (zbr ⟨hf,hm,hp⟩) (tail _ h1 h2))
theorem zI8:zdN Tryz.prog 102 [true,true,true,true,false,false,false] (some (1,1,[[0],[1],[2],[4],[7]])) zqM:=by
 refine zkn (kt:=.mon) (zcW zgz zq zMN zCX) (zd9 (by kernel_rfl)) (by kernel_rfl) ?_
 intro avs rs hl hr h;have hb:=zhG hr;unfold zqM at h;split at h
 .obtain ⟨hc,rfl⟩:=zdS h;obtain ⟨N,hN⟩:=zPF _ _ _ _ (by exact hb) hc
  exact ⟨⟨_,rfl⟩,rfl,_,N,12,(zSp N _ _ _ _ ).trans hN⟩
 .cases h
@[simp] abbrev zGr (h:Host)(m p n:Int):Bool:=pc (zQt h m p n)
@[simp] abbrev zsu (h:Host)(m p n:Int):Host:=mended h m p n
def zvd:List CV->List AV->Option (Bool×List CV×List AV)
 | [.s (.sl .int) b,.s .mon c,.s .entry d,.s .entry e],[.one (.i .i64 f),.one (.i .i64 g),.one (.i .i64 h)]=>some ((zGr (⟨b,c,d,e⟩:Host) f g h),zbd (zsu (⟨b,c,d,e⟩:Host) f g h),[])
 | _,_=>none
def zFp (N:Nat)(c:Host)(a0 a1 a2:Int):OA:=
 let y3:=(ztV c a0 a1);let y6:=(ix y3.Mons a0 zf);let y2:=(ix c.Mons a0 zf); (oN (inb a0 (ln c.Mons)) (oN (inb a1 (ln y2.Outer)) (cond (ieq (ix y2.Outer a1 zK).Page (-1)) (oN (zA2 c a0 a1) (oN (zc1 a2 2) (cond (nB (zdw a2 2)) (some [(aH y3)]) (oN (inb a0 (ln y3.Mons)) (oN (inb a1 (ln y6.Dirty)) (share (up y3.Mons a0 ({ y6 with Dirty:=(up y6.Dirty a1 true) }:Mon)) (fun x5=>let y4:=(ix x5 a0 zf);let y0:=(ix y4.Outer a1 zK); (oN (inb a1 (ln y4.Outer)) (oN (zc1 y0.Rights 2) (cond (nB (zdw y0.Rights 2)) (oN (inb a1 (ln y4.Outer)) (share (up x5 a0 ({ y4 with Outer:=(up y4.Outer a1 ({ y0 with Rights:=3 }:Slot)) }:Mon)) (fun x6=>let y7:=({ y3 with Mons:=x6 }:Host); (oN (zdY y7 a0 a1 y0) (some [(aH (zdZ y7 a0 a1 y0))]))))) (some [(aH ({ y3 with Mons:=x5 }:Host))]))))))))))) (oN (zc1 a2 2) (cond (nB (zdw a2 2)) (some [(aH c)]) (oN (inb a0 (ln c.Mons)) (oN (inb a1 (ln y2.Dirty)) (share (up c.Mons a0 ({ y2 with Dirty:=(up y2.Dirty a1 true) }:Mon)) (fun x5=>let y5:=(ix x5 a0 zf);let y1:=(ix y5.Outer a1 zK); (oN (inb a1 (ln y5.Outer)) (oN (zc1 y1.Rights 2) (cond (nB (zdw y1.Rights 2)) (oN (inb a1 (ln y5.Outer)) (share (up x5 a0 ({ y5 with Outer:=(up y5.Outer a1 ({ y1 with Rights:=3 }:Slot)) }:Mon)) (fun x6=>let y8:=({ c with Mons:=x6 }:Host); (oN (zdY y8 a0 a1 y1) (some [(aH (zdZ y8 a0 a1 y1))]))))) (some [(aH ({ c with Mons:=x5 }:Host))])))))))))))))
theorem zZE (N:Nat)(c:Host)(a0 a1 a2:Int):zf5 (cQ zo6 zor zXq zTd) (zo []) N 12 92 [true,true,true,true] (zbd c) [aI a0,aI a1,aI a2]=zFp N c a0 a1 a2:=by kernel_rfl
theorem zW9 (c:Host)(a0 a1 a2:Int)(hb:zbE big (.agg (zbd c) :: [aI a0,aI a1,aI a2]))(hc:zGr c a0 a1 a2=true):∃N,zFp N c a0 a1 a2=some (.agg (zbd (zsu c a0 a1 a2)) :: []):=by
 obtain ⟨hf,hm,hp,hn,hs⟩:=zD.1 hc;obtain ⟨g1,g2⟩:=zca hf.1 hm;have en:enough a2 2 = !ieq (wand .i64 a2 2) 0:=by rcases hn with rfl|rfl<;>rfl
 have tail:∀r,Shape r->hasB a0 (ln r.Mons)=true->enough (ix (ix r.Mons a0 mZ).Outer a1 sZ).Rights 2=(!ieq (wand .i64 (ix (ix r.Mons a0 mZ).Outer a1 sZ).Rights 2) 0)->(cond (zc1 a2 2) (cond (cond (zdw a2 2) false true) (some [(AV.agg (zbd r))]) (cond (inb a0 (ln r.Mons)) (cond (inb a1 (ln (ix r.Mons a0 zf).Dirty)) (share (up r.Mons a0 ({ (ix r.Mons a0 zf) with Dirty:=(up (ix r.Mons a0 zf).Dirty a1 true) }:Mon)) (fun x5=>(cond (inb a1 (ln (ix x5 a0 zf).Outer)) (cond (zc1 (ix (ix x5 a0 zf).Outer a1 zK).Rights 2) (cond (cond (zdw (ix (ix x5 a0 zf).Outer a1 zK).Rights 2) false true) (cond (inb a1 (ln (ix x5 a0 zf).Outer)) (share (up x5 a0 ({ (ix x5 a0 zf) with Outer:=(up (ix x5 a0 zf).Outer a1 ({ (ix (ix x5 a0 zf).Outer a1 zK) with Rights:=3 }:Slot)) }:Mon)) (fun x6=>(cond (zdY ({ r with Mons:=x6 }:Host) a0 a1 (ix (ix x5 a0 zf).Outer a1 zK)) (some [(AV.agg (zbd (zdZ ({ r with Mons:=x6 }:Host) a0 a1 (ix (ix x5 a0 zf).Outer a1 zK))))]) none))) none) (some [(AV.agg (zbd ({ r with Mons:=x5 }:Host)))])) none) none))) none) none)) none)=some [AV.agg (zbd (ziq r a0 a1 a2))]:=by
  intro r hr hrm her;obtain ⟨q1,q2⟩:=zca hr hrm;have hD:=zlR (p:=a1) hr hrm;unfold ziq;simp only[zc1,zdw,en,cT];cases h0:ieq (wand .i64 a2 2) 0
  .obtain ⟨k,rfl,hk⟩:=zdu (n:=r.Mons.length) hrm;have ex:ix (zbs r (k:Int) a1).Mons (k:Int) mZ={ ix r.Mons (k:Int) mZ with Dirty:=up (ix r.Mons (k:Int) mZ).Dirty a1 true }:=zdD hk _ _;have hk':k<(zbs r (k:Int) a1).Mons.length:=by simpa [zbs] using hk
   have hi:inb a1 (ln (ix (zbs r (k:Int) a1).Mons (k:Int) mZ).Outer)=true:=by
    rw[ex];exact zl (zc9 q2.1 hp)
   refine zdI rfl (must (zl hrm) (must (zl (zc9 q2.2.2.1 hp)) (shr (must hi ?_))));unfold opened
   show (cond (cond (enough (ix (ix (zbs r (k:Int) a1).Mons (k:Int) mZ).Outer a1 sZ).Rights 2) false true) _ _)=_
   have e2:(cond (enough (ix (ix (zbs r (k:Int) a1).Mons (k:Int) mZ).Outer a1 sZ).Rights 2) false true)=ieq (wand .i64 (ix (ix (zbs r (k:Int) a1).Mons (k:Int) mZ).Outer a1 sZ).Rights 2) 0:=by
    rw[ex]
    show (cond (enough (ix (ix r.Mons (k:Int) mZ).Outer a1 sZ).Rights 2) false true)=ieq (wand .i64 (ix (ix r.Mons (k:Int) mZ).Outer a1 sZ).Rights 2) 0
    rw[her];cases ieq (wand .i64 (ix (ix r.Mons (k:Int) mZ).Outer a1 sZ).Rights 2) 0<;>rfl
   rw[e2];cases h1:ieq (wand .i64 (ix (ix (zbs r (k:Int) a1).Mons (k:Int) mZ).Outer a1 sZ).Rights 2) 0
   .rfl
   .have hX:Shape { zbs r (k:Int) a1 with Mons:=up (zbs r (k:Int) a1).Mons (k:Int) { ix (zbs r (k:Int) a1).Mons (k:Int) mZ with Outer:=up (ix (zbs r (k:Int) a1).Mons (k:Int) mZ).Outer a1 ⟨(ix (ix (zbs r (k:Int) a1).Mons (k:Int) mZ).Outer a1 sZ).Page,3⟩ } }:=by
     obtain ⟨w1,w2⟩:=zca hD (zeg hrm);exact zhC hD ⟨by simpa using w1.1,w1.2⟩ ⟨by simpa using w2.1,w2.2⟩
    have hh:∀(x y:Mon),hasB (k:Int) (ln (up (up r.Mons (k:Int) x) (k:Int) y))=true:=fun x y=>by simpa [ln] using hrm
    refine must rfl (must hi (shr (must (zbr ⟨hX,hh _ _⟩) ?_)));exact congrArg (fun x=>some [AV.agg (zbd x)]) (zyp (h:=zbs r (k:Int) a1) (p:=a1) (s:=⟨(ix (ix (zbs r (k:Int) a1).Mons (k:Int) mZ).Outer a1 sZ).Page,3⟩) hk' (by rw[ex];exact q2.2.2.2))
  .rfl
 refine ⟨0,?_⟩;unfold zFp zsu mended oN nB
 conv=>zeta
 refine must (zl hm) (must (zl (zc9 g2.1 hp)) ?_);cases h0:ieq (ix (ix c.Mons a0 mZ).Outer a1 sZ).Page (-1)
 .exact tail c hf.1 hm (z4Z hs.lo hs.hi)
 .obtain ⟨h1,h2⟩:=ziT (p:=a1) hf hm hp;exact must rfl (must (zbr ⟨hf,hm,hp⟩) (tail _ h1 h2 (by rw[zQY hf hm hp];rfl)))
theorem zRa:zdy Tryz.prog 92 [true,true,true,true] zvd:=by
 refine zb2 (zcW zgz zq zMN zCX) (zd9 (by kernel_rfl)) ?_
 intro cs avs cs' rs hl hr h;have hb:=zcs hr;unfold zvd at h;split at h
 .obtain ⟨hc,rfl,rfl⟩:=zcJ h;obtain ⟨N,hN⟩:=zW9 _ _ _ _ (by exact hb) hc
  exact ⟨rfl,_,N,12,(zZE N _ _ _ _ ).trans hN⟩
 .cases h
def zXB:zdi:=[(92,([true,true,true,true],zvd))]++zXq
theorem zbR:zcr zXB:=zd8 zMN (by
 intro x hx;simp only[qG,qW,or_false]at hx;rcases hx with rfl
 .exact zRa)
def zX4:zeA:=[(102,([true,true,true,true,false,false,false],(some (1,1,[[0],[1],[2],[4],[7]])),zqM))]++zTd
theorem zCY:zdG zX4:=zmk zCX (by
 intro x hx;simp only[qG,qW,or_false]at hx;rcases hx with rfl
 .exact zI8)
theorem zW1 {h:Host}(hh:zbI h=true):h.Memory.length=12:=by
 unfold zbI at hh;simp only[zcw]at hh;have h1:=hh.1;unfold zgM at h1;simp only[zcw]at h1;have:ln h.Memory=12:=qE h1.2;simp only[ln] at this;omega
theorem zgc {h:Host}(hh:zbI h=true):∀x∈h.Mons,zdp x=true:=by
 unfold zbI at hh;simp only[zcw]at hh;exact zxz _ _ hh.2.2.2.2
theorem zGS {x:Mon}(hk:zdp x=true):ShM x:=by
 have ho:=zmE (zht hk);unfold zdp at hk;simp only[zcw]at hk;have e1:ln x.Tables=ln x.Guests:=qE hk.2.1;have e2:ln x.Out=8:=qE hk.2.2.2.1;have e3:ln x.Dirty=8:=qE hk.2.2.2.2.1;simp only[ln] at *;exact ⟨by omega,by omega,by omega,by omega⟩
theorem zeI {h:Host}(hs:SmH h)(hh:zbI h=true):Fit h:=by
 refine ⟨⟨hs,fun x hx=>zGS (zgc hh x hx)⟩,by rw[zW1 hh];decide,?_⟩
 unfold zbI at hh;simp only[zcw]at hh;have:=zRf _ _ rfl hh.2.2.2.2;omega
theorem zrj {x:Mon}(hk:zdp x=true){p:Int}(hp:hasB p 8=true):SlotFit (ix x.Outer p sZ):=by
 have ht:=zht hk;unfold zcn at ht;simp only[zcw]at ht;exact zXU (qL.1 ht.1 _ (zbv (zc9 (zGS hk).1 hp) _))
theorem zTV {h:Host}{m p:Int}(hf:Fit h)(hm:hasB m (ln h.Mons)=true):Fit (zbs h m p):=by
 refine ⟨zlR hf.1 hm,hf.2.1,?_⟩;obtain ⟨k,rfl,hk⟩:=zdu (n:=h.Mons.length) hm;have:=zTF h.Mons k (ix h.Mons (k:Int) mZ) { ix h.Mons (k:Int) mZ with Dirty:=up (ix h.Mons (k:Int) mZ).Dirty p true } (by rw[zbc hk];exact qB hk)
 have h3:=hf.2.2;unfold zbs;simp only[up,kW]
 dsimp only at this
 simp only[up] at this;omega
end
end Go.Proofs.YtdaahiceaagpdaaGreat.E
