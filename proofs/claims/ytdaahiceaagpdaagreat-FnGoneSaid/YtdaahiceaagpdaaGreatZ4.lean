/- What is proved here: a part of the proof that the statement of this claim holds (several texts of wip/, laid together). -/
import Derived.Test.YtdaahiceaagpdaaGreatZ3
namespace Go.Proofs.YtdaahiceaagpdaaGreat.E
open Go
set_option linter.unusedVariables false
set_option maxRecDepth 100000
set_option linter.unusedSimpArgs false
set_option linter.unusedSectionVars false
noncomputable section
theorem must {ρ:Type}{c:Bool}{a b r:Option ρ}(h:c=true)(k:a=r):(cond c a b)=r:=by rw[h];exact k
theorem mu {ρ:Type}{c:Bool}{a b r:Option ρ}(k:a=r)(h:c=true:=by first|assumption|(simp_all<;>omega)):(cond c a b)=r:=must h k
theorem zdB {ρ:Type}{c:Bool}{a b r:Option ρ}(h:c=false)(k:b=r):(cond c a b)=r:=by rw[h];exact k
theorem br {ρ:Type}{c:Bool}{a b r:Option ρ}(h1:c=true->a=r)(h2:c=false->b=r):(cond c a b)=r:=by
 cases c
 .exact h2 rfl
 .exact h1 rfl
theorem brN {ρ:Type}{c:Bool}{a b r:Option ρ}(h1:c=false->a=r)(h2:c=true->b=r):(cond (cond c false true) a b)=r:=by
 cases c
 .exact h1 rfl
 .exact h2 rfl
theorem shr {α ρ:Type}{x:α}{f:α->Option ρ}{r:Option ρ}(h:f x=r):share x f=r:=h
theorem zh8 {ρ:Type}{c p:Bool}{a b:Option ρ}(hc:c=true):(cond c (cond (cond p false true) a b) none)=bif p then b else a:=by
 rw[hc];cases p<;>rfl
attribute [simp] zF
@[simp] theorem z3I {α:Type}(l:List α):(few (ln l)=true)↔l.length<=2147483648:=by
 unfold few ln;rw[decide_eq_true_iff];omega
@[simp] theorem z6O {α:Type}(l m:List α):(ap l m).length=l.length+m.length:=by simp[ap]
attribute [simp] zgT zfS
@[simp] theorem z2r (n:Nat)(k:IntKind)(x:Int):CVB n (.i k x)↔True:=⟨fun _=>trivial,fun _=>.i k x⟩
@[simp] theorem z6T (n:Nat)(x:Bool):CVB n (.b x)↔True:=⟨fun _=>trivial,fun _=>.b x⟩
theorem zkg {n:Nat}{t:Ty}(l:List t.den):CVB n (.s t l)↔l.length<=n/\∀x∈l,∀c∈t.cells x,CVB n c:=⟨fun h=>h.inv,fun h=>.s t l h.1 h.2⟩
@[simp] theorem zTT (n:Nat)(l:List Int):CVB n (.s .int l)↔l.length<=n:=by rw[zkg];simp[Ty.cells]
@[simp] theorem z5r (n:Nat)(l:List Int):CVB n (.s .u8 l)↔l.length<=n:=by rw[zkg];simp[Ty.cells]
@[simp] theorem zZ6 (n:Nat)(l:List Bool):CVB n (.s .bool l)↔l.length<=n:=by rw[zkg];simp[Ty.cells]
@[simp] theorem zZ8 (n:Nat)(l:List Slot):CVB n (.s .slot l)↔l.length<=n:=by rw[zkg];simp[Ty.cells]
@[simp] theorem z3y (n:Nat)(l:List Ins):CVB n (.s .ins l)↔l.length<=n:=by rw[zkg];simp[Ty.cells]
@[simp] theorem zXw (n:Nat)(l:List Entry):CVB n (.s .entry l)↔l.length<=n:=by rw[zkg];simp[Ty.cells]
@[simp] theorem z3x (n:Nat)(l:List GAct):CVB n (.s .act l)↔l.length<=n:=by rw[zkg];simp[Ty.cells]
@[simp] theorem zZ9 (n:Nat)(l:List Told):CVB n (.s .told l)↔l.length<=n:=by rw[zkg];simp[Ty.cells]
def SmM (m:List (List Int)):Prop:=m.length<=1048576/\∀x∈m,x.length<=1048576
def SmG (g:Guest):Prop:=g.Prog.length<=1048576/\g.Written.length<=1048576/\g.Live.length<=1048576/\g.Seen.length<=1048576
def zlG (l:List Guest):Prop:=l.length<=1048576/\∀x∈l,SmG x
def SmB (b:Bare):Prop:=SmM b.Memory/\zlG b.Guests/\b.Outs.length<=1048576
def zUO (l:List Bare):Prop:=l.length<=1048576/\∀x∈l,SmB x
theorem z08:sm=1048576:=rfl
@[simp] theorem zVf (l:List Int):CVB sm (.s .int l)↔l.length<=1048576:=zTT sm l
@[simp] theorem z6u (l:List Int):CVB sm (.s .u8 l)↔l.length<=1048576:=z5r sm l
@[simp] theorem zSp (l:List Bool):CVB sm (.s .bool l)↔l.length<=1048576:=zZ6 sm l
@[simp] theorem zSq (l:List Slot):CVB sm (.s .slot l)↔l.length<=1048576:=zZ8 sm l
@[simp] theorem z5X (l:List Ins):CVB sm (.s .ins l)↔l.length<=1048576:=z3y sm l
@[simp] theorem zPx (l:List Entry):CVB sm (.s .entry l)↔l.length<=1048576:=zXw sm l
@[simp] theorem z5W (l:List GAct):CVB sm (.s .act l)↔l.length<=1048576:=z3x sm l
@[simp] theorem z5O (l:List Told):CVB sm (.s .told l)↔l.length<=1048576:=zZ9 sm l
@[simp] theorem znW (l:List (List Int)):CVB sm (.s (.sl .int) l)↔SmM l:=by rw[zkg];simp[Ty.cells,SmM,z08]
@[simp] theorem z3c (g:Guest):(∀c∈Ty.cells .guest g,CVB sm c)↔SmG g:=by simp[Ty.cells,SmG,z08]
@[simp] theorem zsS (l:List Guest):CVB sm (.s .guest l)↔zlG l:=by rw[zkg];simp only[z3c];rfl
@[simp] theorem z3b (b:Bare):(∀c∈Ty.cells .bare b,CVB sm c)↔SmB b:=by
 simp only[Ty.cells,qG,qY,or_false,vD,forall_eq,znW,zsS,zTT,z2r,and_true];rfl
@[simp] theorem z6y (l:List Bare):CVB sm (.s .bare l)↔zUO l:=by rw[zkg];simp only[z3b];rfl
@[simp] theorem z6R (a:List Ins)(b c:Int)(d e:List Slot)(f:Ctl)(g:Int)(h:GExit)(i:Bool)(j:List Int):SmG ⟨a,b,c,d,e,f,g,h,i,j⟩↔a.length<=1048576/\d.length<=1048576/\e.length<=1048576/\j.length<=1048576:=Iff.rfl
@[simp] theorem z6Q (m:List (List Int))(g:List Guest)(o:List Int)(p:Int):SmB ⟨m,g,o,p⟩↔SmM m/\zlG g/\o.length<=1048576:=Iff.rfl
theorem zI2 {m:List (List Int)}{i:Int}{x:List Int}(h:SmM m)(hx:x.length<=1048576):SmM (up m i x):=by
 refine ⟨by simpa using h.1,fun y hy=>?_⟩
 rcases qZ hy with hy|rfl
 .exact h.2 y hy
 .exact hx
theorem zBM {m:List Guest}{i:Int}{x:Guest}(h:zlG m)(hx:SmG x):zlG (up m i x):=by
 refine ⟨by simpa using h.1,fun y hy=>?_⟩
 rcases qZ hy with hy|rfl
 .exact h.2 y hy
 .exact hx
theorem z4E {m:List Bare}{i:Int}{x:Bare}(h:zUO m)(hx:SmB x):zUO (up m i x):=by
 refine ⟨by simpa using h.1,fun y hy=>?_⟩
 rcases qZ hy with hy|rfl
 .exact h.2 y hy
 .exact hx
theorem zYT {l:List Guest}{i:Int}(h:zlG l)(hh:hasB i (ln l)=true)(d:Guest):SmG (ix l i d):=h.2 _ (zbq hh d)
theorem z5I {l:List (List Int)}{i:Int}(h:SmM l)(hh:hasB i (ln l)=true)(d:List Int):(ix l i d).length<=1048576:=h.2 _ (zbq hh d)
@[simp] theorem z6n:SmG zA:=⟨by decide,by decide,by decide,by decide⟩
def win (x a b:Int):Bool:=ige x a&&ile x b
@[simp] theorem zOT (x a b:Int):zL x a b=win x a b:=rfl
@[simp] theorem z6U (x a b:Int):zb7 x a b=win x a b:=rfl
@[simp] theorem zPY (i n:Int):inb i n=hasB i n:=rfl
attribute [simp] zdP
@[simp] theorem zoD {α:Type}{l:List α}(h:l.length<=1048576)(i:Int):win i 0 (wsub .i64 (ln l) 1)=hasB i (ln l):=zMD (zcF h).1 i
theorem zFW {α:Type}{l:List α}(h:l.length<=big)(i:Int):win i 0 (wsub .i64 (ln l) 1)=hasB i (ln l):=zMD h i
theorem zfg {x a b:Int}:(win x a b=true)↔a<=x/\x<=b:=by
 unfold win ige ile;simp only[qD,decide_eq_true_iff]
theorem z3T (a b:Int):ilt a b = !ige a b:=by
 unfold ilt ige
 by_cases h:a<b
 .rw [qL h,qQ (by omega)];rfl
 .rw [qQ h,qL (by omega)];rfl
attribute [simp] zbo zbX zfZ zfW zgA zgv zgB zen zis zjx zom zck zcy
attribute [simp] zd4 zcL zfm zdm
attribute [simp] zfj zc2 ze2 zdr
def zbb (a:Int):Int:=bif ilt a 0 then -1 else zLP .i64 a 4
def zcV (a:Int):Int:=bif ilt a 0 then -1 else ziA a 4
@[simp] abbrev zfA (a:Int):Bool:=true
@[simp] abbrev zcB (a:Int):Int:=zbb a
def zvG:Run:=rF1 dI fun b=>(zfA b,[aI (zcB b)])
def zyN (N:Nat)(a0:Int):OA:=
 (cond (ilt a0 0) (some [(aI (-1))]) (oN (ine 4 0) (some [(aI (zLP .i64 a0 4))])))
theorem zKF (a0:Int)(hc:zfA a0=true):∃N,zyN N a0=some [aI (zcB a0)]:=by
 refine ⟨0,?_⟩;unfold zyN oN;refine br (fun _=>?_) (fun _=>must rfl ?_)
 all_goals first|rfl|(simp only [*,zcB,zbb,cT,cF]<;>rfl)|simp_all[Ty.cells,zcB,zbb]
theorem zER:vH 271 zvG:=kF1 zeU zl zq zy (zx []) zKF
@[simp] abbrev zhQ (a:Int):Bool:=true
@[simp] abbrev zdT (a:Int):Int:=zcV a
def zvF:Run:=rF1 dI fun b=>(zhQ b,[aI (zdT b)])
def zyM (N:Nat)(a0:Int):OA:=
 (cond (ilt a0 0) (some [(aI (-1))]) (oN (ine 4 0) (some [(aI (ziA a0 4))])))
theorem zKE (a0:Int)(hc:zhQ a0=true):∃N,zyM N a0=some [aI (zdT a0)]:=by
 refine ⟨0,?_⟩;unfold zyM oN;refine br (fun _=>?_) (fun _=>must rfl ?_)
 all_goals first|rfl|(simp only [*,zdT,zcV,cT,cF]<;>rfl)|simp_all[Ty.cells,zdT,zcV]
theorem zEQ:vH 272 zvF:=kF1 zeU zl zq zy (zx []) zKE
def zbZ (w:Bool):Int:=bif w then 2 else 1
@[simp] abbrev zqW (w:Bool):Bool:=true
@[simp] abbrev zeK (w:Bool):Int:=zbZ w
def zAx:Run:=rF1 dB fun b=>(zqW b,[aI (zeK b)])
def zGm (N:Nat)(a0:Bool):OA:=
 (cond a0 (some [(aI 2)]) (some [(aI 1)]))
theorem zQt (a0:Bool)(hc:zqW a0=true):∃N,zGm N a0=some [aI (zeK a0)]:=by
 refine ⟨0,?_⟩;unfold zGm;refine br (fun _=>?_) (fun _=>?_)
 all_goals first|rfl|(simp only [*,zeK,zbZ,cT,cF]<;>rfl)|simp_all[Ty.cells,zeK,zbZ]
theorem zJ3:vH 299 zAx:=kF1 zeU zl zq zy (zx []) zQt
def zpz (p:Int)(w:Bool):GExit:=⟨1,p,w,0⟩
def zwh (n:Int):GExit:=⟨2,0,false,n⟩
def zvs (n:Int):GExit:=⟨3,0,false,n⟩
@[simp] abbrev zlA (p:Int)(w:Bool):Bool:=true
@[simp] abbrev zf5 (p:Int)(w:Bool):GExit:=zpz p w
def ztn:Run:=rF2 dI dB fun b c=>(zlA b c,[.agg (zwr (zf5 b c))])
def zxy (N:Nat)(a0:Int)(a1:Bool):OA:=
 (some [(.agg [(.i .i64 1),(.i .i64 a0),(.b a1),(.i .i64 0)])])
theorem zIb (a0:Int)(a1:Bool)(hc:zlA a0 a1=true):∃N,zxy N a0 a1=some [.agg (zwr (zf5 a0 a1))]:=by
 refine ⟨0,?_⟩;unfold zxy
 first|rfl|(simp only [*,zf5,cT,cF]<;>rfl)|simp_all[Ty.cells,zf5]
theorem zBY:vH 301 ztn:=kF2 zeU zl zq zy (zx []) zIb
@[simp] abbrev zsb (n:Int):Bool:=true
@[simp] abbrev zkA (n:Int):GExit:=zwh n
def zvI:Run:=rF1 dI fun b=>(zsb b,[.agg (zwr (zkA b))])
def zyQ (N:Nat)(a0:Int):OA:=
 (some [(.agg [(.i .i64 2),(.i .i64 0),(.b false),(.i .i64 a0)])])
theorem zKI (a0:Int)(hc:zsb a0=true):∃N,zyQ N a0=some [.agg (zwr (zkA a0))]:=by
 refine ⟨0,?_⟩;unfold zyQ
 first|rfl|(simp only [*,zkA,cT,cF]<;>rfl)|simp_all[Ty.cells,zkA]
theorem zET:vH 319 zvI:=kF1 zeU zl zq zy (zx []) zKI
@[simp] abbrev zuA (n:Int):Bool:=true
@[simp] abbrev zmi (n:Int):GExit:=zvs n
def zx0:Run:=rF1 dI fun b=>(zuA b,[.agg (zwr (zmi b))])
def zCX (N:Nat)(a0:Int):OA:=
 (some [(.agg [(.i .i64 3),(.i .i64 0),(.b false),(.i .i64 a0)])])
theorem zNY (a0:Int)(hc:zuA a0=true):∃N,zCX N a0=some [.agg (zwr (zmi a0))]:=by
 refine ⟨0,?_⟩;unfold zCX
 first|rfl|(simp only [*,zmi,cT,cF]<;>rfl)|simp_all[Ty.cells,zmi]
theorem zHy:vH 320 zx0:=kF1 zeU zl zq zy (zx []) zNY
def zgg (t x:Int):Bool:=bif win t 0 3 then (cond (win x 1 2) (ine (wand .i64 t x) 0) false) else false
@[simp] abbrev zhw (t x:Int):Bool:=true
@[simp] abbrev zg8 (t x:Int):Bool:=zgg t x
def zxR:Run:=rF2 dI dI fun b c=>(zhw b c,[aB (zg8 b c)])
def zCP (N:Nat)(a0 a1:Int):OA:=
 (oN (zJ a0 0 3) (cond (zL a0 0 3) (oN (zJ a1 1 2) (cond (zL a1 1 2) (some [(aB (ine (wand .i64 a0 a1) 0))]) oF)) oF))
theorem zNP (a0 a1:Int)(hc:zhw a0 a1=true):∃N,zCP N a0 a1=some [aB (zg8 a0 a1)]:=by
 refine ⟨0,?_⟩;unfold zCP oN;refine must rfl (br (fun _=>must rfl (br (fun _=>?_) (fun _=>?_))) (fun _=>?_))
 all_goals first|rfl|(simp only [*,zg8,zgg,cT,cF]<;>rfl)|simp_all[Ty.cells,zg8,zgg]
theorem zHp:vH 318 zxR:=kF2 zeU zl zq zy (zx []) zNP
def zcO (p:Int):Bool:=win p 0 255
@[simp] abbrev zeN (p:Int):Bool:=true
@[simp] abbrev zeM (p:Int):Bool:=zcO p
def zAC:Run:=rF1 dI fun b=>(zeN b,[aB (zeM b)])
def zGq (N:Nat)(a0:Int):OA:=
 (oN (zJ a0 0 255) (some [(aB (zL a0 0 255))]))
theorem zQy (a0:Int)(hc:zeN a0=true):∃N,zGq N a0=some [aB (zeM a0)]:=by
 refine ⟨0,?_⟩;unfold zGq oN;refine must rfl ?_
 first|rfl|(simp only [*,zeM,zcO,cT,cF]<;>rfl)|simp_all[Ty.cells,zeM,zcO]
theorem zJ8:vH 215 zAC:=kF1 zeU zl zq zy (zx []) zQy
@[simp] abbrev zqL (p:Int):Bool:=true
@[simp] abbrev zn2 (p:Int):Bool:=zcO p
def zAf:Run:=rF1 dI fun b=>(zqL b,[aB (zn2 b)])
def zF5 (N:Nat)(a0:Int):OA:=
 (oN (zbS a0 0 255) (some [(aB (zb7 a0 0 255))]))
theorem zQb (a0:Int)(hc:zqL a0=true):∃N,zF5 N a0=some [aB (zn2 a0)]:=by
 refine ⟨0,?_⟩;unfold zF5 oN;refine must rfl ?_
 first|rfl|(simp only [*,zn2,zcO,cT,cF]<;>rfl)|simp_all[Ty.cells,zn2,zcO]
theorem zJN:vH 167 zAf:=kF1 zeU zl zq zy (zx []) zQb
def zcb (l:List Ins)(p:Int):Ins:=bif hasB p (ln l) then ix l p zJm else ⟨7,0⟩
@[simp] abbrev ze0 (l:List Ins)(p:Int):Bool:=true
@[simp] abbrev zfe (l:List Ins)(p:Int):Ins:=zcb l p
def zDP:Run:=rF2 (dS .ins) dI fun b c=>(ze0 b c,[aT .ins (zfe b c)])
def zL0 (N:Nat)(a0:lI)(a1:Int):OA:=
 (oN (zJ a1 0 (wsub .i64 (ln a0) 1)) (cond (nB (zL a1 0 (wsub .i64 (ln a0) 1))) (some [(.agg [(.i .i64 7),(.i .i64 0)])]) (oN (inb a1 (ln a0)) (some [(.agg [(.i .i64 (ix a0 a1 zJm).Op),(.i .i64 (ix a0 a1 zJm).X)])]))))
theorem zSL (a0:List Ins)(a1:Int)(hb:zbQ big [aS .ins a0,aI a1])(hc:ze0 a0 a1=true):∃N,zL0 N a0 a1=some [aT .ins (zfe a0 a1)]:=by
 have hl:=((zcn hb).1 _ (qF.2 rfl)).len;have hw:=zFW hl
 refine ⟨0,?_⟩;unfold zL0 oN nB;refine must rfl (brN (fun _=>?_) (fun _=>mu ?_))
 all_goals first|rfl|(simp only [*,zfe,zcb,cT,cF]<;>rfl)|simp_all[Ty.cells,zfe,zcb]
theorem zNq:vH 294 zDP:=hF2 zeU zl zq zy (zx []) zSL
def zsx (w:Int):Int:=bif ieq w 5 then 1 else 2
def zc6 (s:Slot)(n:Int):Bool:=bif zcd s noSlot then true else (cond (igt n 0) (cond (win s.Page 0 (wsub .i64 n 1)) (win s.Rights 1 3) false) false)
@[simp] abbrev zqZ (s:Slot)(n:Int):Bool:=true
@[simp] abbrev zos (s:Slot)(n:Int):Bool:=zc6 s n
def zAF:Run:=rF2 (dT .slot) dI fun b c=>(zqZ b c,[aB (zos b c)])
def zGt (N:Nat)(a0:Slot)(a1:Int):OA:=
 (oN zck (cond (cond (ieq a0.Page zbo.Page) (ieq a0.Rights zbo.Rights) false) oT (oN (zJ a0.Page 0 (wsub .i64 a1 1)) (cond (zL a0.Page 0 (wsub .i64 a1 1)) (cond (igt a1 0) (oN (zJ a0.Rights 1 3) (some [(aB (zL a0.Rights 1 3))])) oF) oF))))
theorem zQB (a0:Slot)(a1:Int)(hc:zqZ a0 a1=true):∃N,zGt N a0 a1=some [aB (zos a0 a1)]:=by
 refine ⟨0,?_⟩;unfold zGt oN;refine must rfl (br (fun _=>?_) (fun _=>must rfl (br (fun _=>br (fun _=>must rfl ?_) (fun _=>?_)) (fun _=>?_))))
 all_goals first|rfl|(simp only [*,zos,zc6,zcd,cT,cF]<;>rfl)|simp_all[Ty.cells,zos,zc6,zcd]
theorem zKb:vH 276 zAF:=kF2 zeU zl zq zy (zx []) zQB
@[simp] abbrev zwK (s:Slot)(n:Int):Bool:=true
@[simp] abbrev zrQ (s:Slot)(n:Int):Bool:=zc6 s n
def zAi:Run:=rF2 (dT .slot) dI fun b c=>(zwK b c,[aB (zrQ b c)])
def zF8 (N:Nat)(a0:Slot)(a1:Int):OA:=
 (oN zcy (cond (cond (ieq a0.Page zbX.Page) (ieq a0.Rights zbX.Rights) false) oT (cond (igt a1 0) (oN (zbS a0.Page 0 (wsub .i64 a1 1)) (cond (zb7 a0.Page 0 (wsub .i64 a1 1)) (oN (zbS a0.Rights 1 3) (some [(aB (zb7 a0.Rights 1 3))])) oF)) oF)))
theorem zQe (a0:Slot)(a1:Int)(hc:zwK a0 a1=true):∃N,zF8 N a0 a1=some [aB (zrQ a0 a1)]:=by
 refine ⟨0,?_⟩;unfold zF8 oN;refine must rfl (br (fun _=>?_) (fun _=>br (fun _=>must rfl (br (fun _=>must rfl ?_) (fun _=>?_))) (fun _=>?_)))
 all_goals first|rfl|(simp only [*,zrQ,zc6,zcd,cT,cF]<;>rfl)|simp_all[Ty.cells,zrQ,zc6,zcd]
theorem zJQ:vH 223 zAi:=kF2 zeU zl zq zy (zx []) zQe
@[simp] abbrev zfN (l:List Slot):Bool:=pc (l.length<=2147483648)
@[simp] abbrev zex (l:List Slot):List Slot:=l
def ztk:Run:=rF1 (dS .slot) fun b=>(zfN b,[aS .slot (zex b)])
def zxv (N:Nat)(a0:lS):OA:=
 (oN (few (ln (ap [] a0))) (some [(aS .slot (ap [] a0))]))
theorem zH7 (a0:List Slot)(hc:zfN a0=true):∃N,zxv N a0=some [aS .slot (zex a0)]:=by
 have hs:=zF.1 hc;refine ⟨0,?_⟩;unfold zxv oN;refine mu ?_
 first|rfl|(simp only [*,zex,cT,cF]<;>rfl)|simp_all[Ty.cells,zex]
theorem zBV:vH 171 ztk:=kF1 zeU zl zq zy (zx []) zH7
@[simp] abbrev zrS (l:List Ins):Bool:=pc (l.length<=2147483648)
@[simp] abbrev zmS (l:List Ins):List Ins:=l
def zvE:Run:=rF1 (dS .ins) fun b=>(zrS b,[aS .ins (zmS b)])
def zyK (N:Nat)(a0:lI):OA:=
 (oN (few (ln (ap [] a0))) (some [(aS .ins (ap [] a0))]))
theorem zKD (a0:List Ins)(hc:zrS a0=true):∃N,zyK N a0=some [aS .ins (zmS a0)]:=by
 have hs:=zF.1 hc;refine ⟨0,?_⟩;unfold zyK oN;refine mu ?_
 first|rfl|(simp only [*,zmS,cT,cF]<;>rfl)|simp_all[Ty.cells,zmS]
theorem zEP:vH 174 zvE:=kF1 zeU zl zq zy (zx []) zKD
def zg3 (m:List (List Int))(p c:Int):Bool:=bif hasB p (ln m) then hasB c (ln (ix m p [])) else false
def cellAt (m:List (List Int))(p c:Int):Int:=bif zg3 m p c then ix (ix m p []) c 0 else 0
def zbw (m:List (List Int))(p c v:Int):List (List Int):=bif zg3 m p c then (cond (win v 0 99) (up m p (up (ix m p []) c v)) m) else m
theorem zwT (m:List (List Int))(p c:Int):(zg3 m p c=true)↔hasB p (ln m)=true/\hasB c (ln (ix m p []))=true:=by
 unfold zg3;cases hasB p (ln m)<;>simp
theorem z5q {n:Nat}{m:List (List Int)}(h:CVB n (.s (.sl .int) m)):m.length<=n/\∀p:Int,hasB p (ln m)=true->(ix m p []).length<=n :=
 ⟨h.len,fun p hp=>(h.inv.2 _ (zbq hp []) _ (qF.2 rfl)).len⟩
@[simp] abbrev zq1 (m:List (List Int))(p c:Int):Bool:=true
@[simp] abbrev zov (m:List (List Int))(p c:Int):Bool:=zg3 m p c
def zAK:Run:=rF3 (dS (.sl .int)) dI dI fun b c d=>(zq1 b c d,[aB (zov b c d)])
def zGy (N:Nat)(a0:lM)(a1 a2:Int):OA:=
 let y0:=(wsub .i64 (ln (ix a0 a1 [])) 1); (oN (zJ a1 0 (wsub .i64 (ln a0) 1)) (cond (zL a1 0 (wsub .i64 (ln a0) 1)) (oN (inb a1 (ln a0)) (oN (zJ a2 0 y0) (some [(aB (zL a2 0 y0))]))) oF))
theorem zQG (a0:List (List Int))(a1 a2:Int)(hb:zbQ big [aS (.sl .int) a0,aI a1,aI a2])(hc:zq1 a0 a1 a2=true):∃N,zGy N a0 a1 a2=some [aB (zov a0 a1 a2)]:=by
 have hl:=z5q ((zcn hb).1 _ (qF.2 rfl));have hw:=zFW hl.1;have hw2:∀p i:Int,hasB p (ln a0)=true->win i 0 (wsub .i64 (ln (ix a0 p [])) 1)=hasB i (ln (ix a0 p [])):=fun p i h=>zFW (hl.2 p h) i
 refine ⟨0,?_⟩;unfold zGy oN
 conv=>zeta
 refine must rfl (br (fun _=>mu (must rfl ?_)) (fun _=>?_))
 all_goals first|rfl|(simp only [*,zov,zg3,cT,cF]<;>rfl)|simp_all[Ty.cells,zov,zg3]
theorem zKf:vH 311 zAK:=hF3 zeU zl zq zy (zx []) zQG
def z18:zU:=[(292,zAo),(271,zvG),(272,zvF),(299,zAx),(301,ztn),(319,zvI),(320,zx0),(318,zxR),(215,zAC),(167,zAf),(294,zDP),(276,zAF),(223,zAi),(171,ztk),(174,zvE),(311,zAK)]++z5l
theorem zfL:zD z18:=zh zJU (zh zER (zh zEQ (zh zJ3 (zh zBY (zh zET (zh zHy (zh zHp (zh zJ8 (zh zJN (zh zNq (zh zKb (zh zJQ (zh zBV (zh zEP (zh zKf zeU)))))))))))))))
@[simp] abbrev zqU (m:List (List Int))(p c:Int):Bool:=true
@[simp] abbrev zlW (m:List (List Int))(p c:Int):Int:=cellAt m p c
def zAp:Run:=rF3 (dS (.sl .int)) dI dI fun b c d=>(zqU b c d,[aI (zlW b c d)])
def zGe (N:Nat)(a0:lM)(a1 a2:Int):OA:=
 (oN (zq1 a0 a1 a2) (cond (nB (zov a0 a1 a2)) (some [(aI 0)]) (oN (inb a1 (ln a0)) (oN (inb a2 (ln (ix a0 a1 []))) (some [(aI (ix (ix a0 a1 []) a2 0))])))))
theorem zQk (a0:List (List Int))(a1 a2:Int)(hc:zqU a0 a1 a2=true):∃N,zGe N a0 a1 a2=some [aI (zlW a0 a1 a2)]:=by
 have hm:=(zwT a0 a1 a2).1;refine ⟨0,?_⟩;unfold zGe oN nB;refine must rfl (brN (fun _=>?_) (fun _=>mu (mu ?_)))
 all_goals first|rfl|(simp only [*,zlW,cellAt,cT,cF]<;>rfl)|simp_all[Ty.cells,zlW,cellAt]
theorem zJV:vH 273 zAp:=kF3 zfL zl zq zy (zx []) zQk
def zco (t:List Slot)(n p:Int):Bool:=bif t.all (fun s=>zc6 s p) then ieq (ln t) n else false
@[simp] abbrev zlm (t:List Slot)(n p:Int):Bool:=true
@[simp] abbrev zha (t:List Slot)(n p:Int):Bool:=zco t n p
def zx6:Run:=rF3 (dS .slot) dI dI fun b c d=>(zlm b c d,[aB (zha b c d)])
def zC3 (N:Nat)(a0:lS)(a1 a2:Int):OA:=
 (iter (σ:=(Int×(Int×(Int×(lS×Unit))))) N (fun r4 s5=>let y0:=s5.2.2.2.1;let y1:=(ix y0 s5.2.2.1 zI); (cond (ilt s5.2.2.1 (ln y0)) (oN (inb s5.2.2.1 (ln y0)) (oN (zqZ y1 s5.2.1) (cond (nB (zos y1 s5.2.1)) oF (r4 (s5.1,(s5.2.1,((zG .i64 s5.2.2.1 1),(y0,())))))))) (some [(aB (ieq (ln y0) s5.1))]))) (a1,(a2,(0,(a0,())))))
def zOx:FuncId->Nat->Option Tmpl:=zx [(213,0,{ n:=25,tm:=[(0,.sl 0 []),(1,ti),(2,ti),(7,ti)],lo:=[],ro:=[(0,.slot,false)] })]
theorem zN4 (a0:List Slot)(a1 a2:Int)(hb:zbQ big [aS .slot a0,aI a1,aI a2])(hc:zlm a0 a1 a2=true):∃N,zC3 N a0 a1 a2=some [aB (zha a0 a1 a2)]:=by
 have hl:(_:List _).length<=big:=((zcn hb).1 _ (qF.2 rfl)).len;refine zb9 fun N hNN=>?_;unfold zC3 oN nB
 conv=>zeta
 refine (zX a0 (fun i (t:Unit)=>(a1,a2,(i:Int),a0,())) _ (fun _ x (_:Unit) κ=>bif (fun s=>zc6 s a2) x then κ () else oF) (fun (t:Unit)=>(some [(.one (.b (ieq (ln a0) a1)))])) (fun i hi t rec=>?_) (fun t rec=>?_) _ () (hNN hl)).trans ?_
 .simp only [zbs hi,zV hi,zbe hi,zQ hi hl,cT];exact zh8 rfl
 .simp only [zbl,cF]
 rw[ze7 (fun s=>zc6 s a2)];refine br (fun h0=>?_) (fun h0=>?_)
 .first|rfl|(simp only [h0,zha,zco,cT,cF]<;>rfl)|(simp_all [Ty.cells,zha,zco];done)
 .first|rfl|(simp only [h0,zha,zco,cT,cF]<;>rfl)|(simp_all [Ty.cells,zha,zco];done)
theorem zHE:vH 213 zx6:=hF3 zfL zl zq zy zOx zN4
@[simp] abbrev zk8 (t:List Slot)(n p:Int):Bool:=true
@[simp] abbrev zg0 (t:List Slot)(n p:Int):Bool:=zco t n p
def zxL:Run:=rF3 (dS .slot) dI dI fun b c d=>(zk8 b c d,[aB (zg0 b c d)])
def zCF (N:Nat)(a0:lS)(a1 a2:Int):OA:=
 (iter (σ:=(Int×(Int×(Int×(Int×(lS×Unit)))))) N (fun r4 s5=>let y1:=s5.2.2.2.2.1;let y0:=(ix y1 s5.2.2.2.1 zI); (cond (ilt s5.2.2.2.1 s5.2.2.1) (oN (inb s5.2.2.2.1 (ln y1)) (oN (zwK y0 s5.2.1) (cond (nB (zrQ y0 s5.2.1)) oF (r4 (s5.1,(s5.2.1,(s5.2.2.1,((zG .i64 s5.2.2.2.1 1),(y1,()))))))))) (some [(aB (ieq (ln y1) s5.1))]))) (a1,(a2,((ln a0),(0,(a0,()))))))
def zOt:FuncId->Nat->Option Tmpl:=zx [(166,0,{ n:=24,tm:=[(0,.sl 0 []),(1,ti),(2,ti),(9,.sl 0 []),(10,ti),(11,ti)],lo:=[],ro:=[(0,.slot,false)] })]
theorem zNF (a0:List Slot)(a1 a2:Int)(hb:zbQ big [aS .slot a0,aI a1,aI a2])(hc:zk8 a0 a1 a2=true):∃N,zCF N a0 a1 a2=some [aB (zg0 a0 a1 a2)]:=by
 have hl:(_:List _).length<=big:=((zcn hb).1 _ (qF.2 rfl)).len;refine zb9 fun N hNN=>?_;unfold zCF oN nB
 conv=>zeta
 refine (zX a0 (fun i (t:Unit)=>(a1,a2,(ln a0),(i:Int),a0,())) _ (fun _ x (_:Unit) κ=>bif (fun s=>zc6 s a2) x then κ () else oF) (fun (t:Unit)=>(some [(.one (.b (ieq (ln a0) a1)))])) (fun i hi t rec=>?_) (fun t rec=>?_) _ () (hNN hl)).trans ?_
 .simp only [zbs hi,zV hi,zbe hi,zQ hi hl,cT];exact zh8 rfl
 .simp only [zbl,cF]
 rw[ze7 (fun s=>zc6 s a2)];refine br (fun h0=>?_) (fun h0=>?_)
 .first|rfl|(simp only [h0,zg0,zco,cT,cF]<;>rfl)|(simp_all [Ty.cells,zg0,zco];done)
 .first|rfl|(simp only [h0,zg0,zco,cT,cF]<;>rfl)|(simp_all [Ty.cells,zg0,zco];done)
theorem zHj:vH 166 zxL:=hF3 zfL zl zq zy zOt zNF
def zb5 (c:List Int):Bool:=bif c.all (fun x=>win x 0 99) then ieq (ln c) 4 else false
@[simp] abbrev zfi (c:List Int):Bool:=true
@[simp] abbrev zeL (c:List Int):Bool:=zb5 c
def zAB:Run:=rF1 (dS .int) fun b=>(zfi b,[aB (zeL b)])
def zGp (N:Nat)(a0:List Int):OA:=
 (iter (σ:=(Int×((List Int)×Unit))) N (fun r2 s3=>(cond (ilt s3.1 (ln s3.2.1)) (oN (inb s3.1 (ln s3.2.1)) (oN (zJ (ix s3.2.1 s3.1 0) 0 99) (cond (nB (zL (ix s3.2.1 s3.1 0) 0 99)) oF (r2 ((zG .i64 s3.1 1),(s3.2.1,())))))) (some [(aB (ieq (ln s3.2.1) 4))]))) (0,(a0,())))
def zR2:FuncId->Nat->Option Tmpl:=zx [(212,0,{ n:=19,tm:=[(0,.sl 0 []),(3,ti)],lo:=[],ro:=[(0,.int,false)] })]
theorem zQx (a0:List Int)(hb:zbQ big [aS .int a0])(hc:zfi a0=true):∃N,zGp N a0=some [aB (zeL a0)]:=by
 have hl:(_:List _).length<=big:=((zcn hb).1 _ (qF.2 rfl)).len;refine zb9 fun N hNN=>?_;unfold zGp oN nB;refine (zX a0 (fun i (t:Unit)=>((i:Int),a0,())) _ (fun _ x (_:Unit) κ=>bif (fun x=>win x 0 99) x then κ () else oF) (fun (t:Unit)=>(some [(.one (.b (ieq (ln a0) 4)))])) (fun i hi t rec=>?_) (fun t rec=>?_) _ () (hNN hl)).trans ?_
 .simp only [zbs hi,zV hi,zbe hi,zQ hi hl,cT];exact zh8 rfl
 .simp only [zbl,cF]
 rw[ze7 (fun x=>win x 0 99)];refine br (fun h0=>?_) (fun h0=>?_)
 .first|rfl|(simp only [h0,zeL,zb5,cT,cF]<;>rfl)|(simp_all [Ty.cells,zeL,zb5];done)
 .first|rfl|(simp only [h0,zeL,zb5,cT,cF]<;>rfl)|(simp_all [Ty.cells,zeL,zb5];done)
theorem zJ7:vH 212 zAB:=hF1 zfL zl zq zy zR2 zQx
@[simp] abbrev zgZ (c:List Int):Bool:=true
@[simp] abbrev zfM (c:List Int):Bool:=zb5 c
def zAe:Run:=rF1 (dS .int) fun b=>(zgZ b,[aB (zfM b)])
def zF4 (N:Nat)(a0:List Int):OA:=
 (iter (σ:=(Int×(Int×((List Int)×Unit)))) N (fun r2 s3=>(cond (ilt s3.2.1 s3.1) (oN (inb s3.2.1 (ln s3.2.2.1)) (oN (zbS (ix s3.2.2.1 s3.2.1 0) 0 99) (cond (nB (zb7 (ix s3.2.2.1 s3.2.1 0) 0 99)) oF (r2 (s3.1,((zG .i64 s3.2.1 1),(s3.2.2.1,()))))))) (some [(aB (ieq (ln s3.2.2.1) 4))]))) ((ln a0),(0,(a0,()))))
def zRU:FuncId->Nat->Option Tmpl:=zx [(165,0,{ n:=18,tm:=[(0,.sl 0 []),(5,.sl 0 []),(6,ti),(7,ti)],lo:=[],ro:=[(0,.int,false)] })]
theorem zQa (a0:List Int)(hb:zbQ big [aS .int a0])(hc:zgZ a0=true):∃N,zF4 N a0=some [aB (zfM a0)]:=by
 have hl:(_:List _).length<=big:=((zcn hb).1 _ (qF.2 rfl)).len;refine zb9 fun N hNN=>?_;unfold zF4 oN nB;refine (zX a0 (fun i (t:Unit)=>((ln a0),(i:Int),a0,())) _ (fun _ x (_:Unit) κ=>bif (fun x=>win x 0 99) x then κ () else oF) (fun (t:Unit)=>(some [(.one (.b (ieq (ln a0) 4)))])) (fun i hi t rec=>?_) (fun t rec=>?_) _ () (hNN hl)).trans ?_
 .simp only [zbs hi,zV hi,zbe hi,zQ hi hl,cT];exact zh8 rfl
 .simp only [zbl,cF]
 rw[ze7 (fun x=>win x 0 99)];refine br (fun h0=>?_) (fun h0=>?_)
 .first|rfl|(simp only [h0,zfM,zb5,cT,cF]<;>rfl)|(simp_all [Ty.cells,zfM,zb5];done)
 .first|rfl|(simp only [h0,zfM,zb5,cT,cF]<;>rfl)|(simp_all [Ty.cells,zfM,zb5];done)
theorem zJM:vH 165 zAe:=hF1 zfL zl zq zy zRU zQa
def zdu (i:Ins):Bool:=bif (ieq i.Op 1||ieq i.Op 2||ieq i.Op 5||ieq i.Op 6) then win i.X 0 99 else (cond (ieq i.Op 3||ieq i.Op 4) (win i.X 0 15) (cond (ieq i.Op 7) (ieq i.X 0) (cond (ieq i.Op 8) (win i.X 0 11) false)))
@[simp] abbrev zAV (i:Ins):Bool:=true
@[simp] abbrev zv2 (i:Ins):Bool:=zdu i
def zDQ:Run:=rF1 (dT .ins) fun b=>(zAV b,[aB (zv2 b)])
def zL1 (N:Nat)(a0:Ins):OA:=
 let y10:=(ieq a0.Op 4);let y9:=(zJ a0.X 0 99);let y8:=(aB (zL a0.X 0 99));let y7:=(ieq a0.Op 8);let y6:=(ieq a0.Op 7);let y5:=(ieq a0.Op 3);let y4:=(zJ a0.X 0 11);let y3:=(zJ a0.X 0 15);let y2:=(aB (ieq a0.X 0));let y1:=(aB (zL a0.X 0 11));let y0:=(aB (zL a0.X 0 15)); (cond (ieq a0.Op 1) (cond (ieq a0.Op 1) (oN y9 (some [y8])) (cond y5 (cond y5 (oN y3 (some [y0])) (cond y6 (some [y2]) (cond y7 (oN y4 (some [y1])) oF))) (cond y10 (oN y3 (some [y0])) (cond y6 (some [y2]) (cond y7 (oN y4 (some [y1])) oF))))) (cond (ieq a0.Op 2) (cond (ieq a0.Op 2) (oN y9 (some [y8])) (cond y5 (cond y5 (oN y3 (some [y0])) (cond y6 (some [y2]) (cond y7 (oN y4 (some [y1])) oF))) (cond y10 (oN y3 (some [y0])) (cond y6 (some [y2]) (cond y7 (oN y4 (some [y1])) oF))))) (cond (ieq a0.Op 5) (cond (ieq a0.Op 5) (oN y9 (some [y8])) (cond y5 (cond y5 (oN y3 (some [y0])) (cond y6 (some [y2]) (cond y7 (oN y4 (some [y1])) oF))) (cond y10 (oN y3 (some [y0])) (cond y6 (some [y2]) (cond y7 (oN y4 (some [y1])) oF))))) (cond (ieq a0.Op 6) (oN y9 (some [y8])) (cond y5 (cond y5 (oN y3 (some [y0])) (cond y6 (some [y2]) (cond y7 (oN y4 (some [y1])) oF))) (cond y10 (oN y3 (some [y0])) (cond y6 (some [y2]) (cond y7 (oN y4 (some [y1])) oF))))))))
theorem zSM (a0:Ins)(hc:zAV a0=true):∃N,zL1 N a0=some [aB (zv2 a0)]:=by
 refine ⟨0,?_⟩;unfold zL1 oN
 conv=>zeta
 refine br (fun _=>br (fun _=>must rfl ?_) (fun _=>br (fun _=>br (fun _=>must rfl ?_) (fun _=>br (fun _=>?_) (fun _=>br (fun _=>must rfl ?_) (fun _=>?_)))) (fun _=>br (fun _=>must rfl ?_) (fun _=>br (fun _=>?_) (fun _=>br (fun _=>must rfl ?_) (fun _=>?_)))))) (fun _=>br (fun _=>br (fun _=>must rfl ?_) (fun _=>br (fun _=>br (fun _=>must rfl ?_) (fun _=>br (fun _=>?_) (fun _=>br (fun _=>must rfl ?_) (fun _=>?_)))) (fun _=>br (fun _=>must rfl ?_) (fun _=>br (fun _=>?_) (fun _=>br (fun _=>must rfl ?_) (fun _=>?_)))))) (fun _=>br (fun _=>br (fun _=>must rfl ?_) (fun _=>br (fun _=>br (fun _=>must rfl ?_) (fun _=>br (fun _=>?_) (fun _=>br (fun _=>must rfl ?_) (fun _=>?_)))) (fun _=>br (fun _=>must rfl ?_) (fun _=>br (fun _=>?_) (fun _=>br (fun _=>must rfl ?_) (fun _=>?_)))))) (fun _=>br (fun _=>must rfl ?_) (fun _=>br (fun _=>br (fun _=>must rfl ?_) (fun _=>br (fun _=>?_) (fun _=>br (fun _=>must rfl ?_) (fun _=>?_)))) (fun _=>br (fun _=>must rfl ?_) (fun _=>br (fun _=>?_) (fun _=>br (fun _=>must rfl ?_) (fun _=>?_))))))))
 all_goals first|rfl|(simp only [*,zv2,zdu,cT,cF]<;>rfl)|simp_all[Ty.cells,zv2,zdu]
theorem zNr:vH 314 zDQ:=kF1 zfL zl zq zy (zx []) zSM
@[simp] abbrev zzG (i:Ins):Bool:=true
@[simp] abbrev zvh (i:Ins):Bool:=zdu i
def zDH:Run:=rF1 (dT .ins) fun b=>(zzG b,[aB (zvh b)])
def zLS (N:Nat)(a0:Ins):OA:=
 let y10:=(ieq a0.Op 4);let y9:=(zbS a0.X 0 99);let y8:=(aB (zb7 a0.X 0 99));let y7:=(ieq a0.Op 8);let y6:=(ieq a0.Op 7);let y5:=(ieq a0.Op 3);let y4:=(zbS a0.X 0 11);let y3:=(zbS a0.X 0 15);let y2:=(aB (ieq a0.X 0));let y1:=(aB (zb7 a0.X 0 11));let y0:=(aB (zb7 a0.X 0 15)); (cond (ieq a0.Op 1) (cond (ieq a0.Op 1) (oN y9 (some [y8])) (cond y5 (cond y5 (oN y3 (some [y0])) (cond y6 (some [y2]) (cond y7 (oN y4 (some [y1])) oF))) (cond y10 (oN y3 (some [y0])) (cond y6 (some [y2]) (cond y7 (oN y4 (some [y1])) oF))))) (cond (ieq a0.Op 2) (cond (ieq a0.Op 2) (oN y9 (some [y8])) (cond y5 (cond y5 (oN y3 (some [y0])) (cond y6 (some [y2]) (cond y7 (oN y4 (some [y1])) oF))) (cond y10 (oN y3 (some [y0])) (cond y6 (some [y2]) (cond y7 (oN y4 (some [y1])) oF))))) (cond (ieq a0.Op 5) (cond (ieq a0.Op 5) (oN y9 (some [y8])) (cond y5 (cond y5 (oN y3 (some [y0])) (cond y6 (some [y2]) (cond y7 (oN y4 (some [y1])) oF))) (cond y10 (oN y3 (some [y0])) (cond y6 (some [y2]) (cond y7 (oN y4 (some [y1])) oF))))) (cond (ieq a0.Op 6) (oN y9 (some [y8])) (cond y5 (cond y5 (oN y3 (some [y0])) (cond y6 (some [y2]) (cond y7 (oN y4 (some [y1])) oF))) (cond y10 (oN y3 (some [y0])) (cond y6 (some [y2]) (cond y7 (oN y4 (some [y1])) oF))))))))
theorem zSC (a0:Ins)(hc:zzG a0=true):∃N,zLS N a0=some [aB (zvh a0)]:=by
 refine ⟨0,?_⟩;unfold zLS oN
 conv=>zeta
 refine br (fun _=>br (fun _=>must rfl ?_) (fun _=>br (fun _=>br (fun _=>must rfl ?_) (fun _=>br (fun _=>?_) (fun _=>br (fun _=>must rfl ?_) (fun _=>?_)))) (fun _=>br (fun _=>must rfl ?_) (fun _=>br (fun _=>?_) (fun _=>br (fun _=>must rfl ?_) (fun _=>?_)))))) (fun _=>br (fun _=>br (fun _=>must rfl ?_) (fun _=>br (fun _=>br (fun _=>must rfl ?_) (fun _=>br (fun _=>?_) (fun _=>br (fun _=>must rfl ?_) (fun _=>?_)))) (fun _=>br (fun _=>must rfl ?_) (fun _=>br (fun _=>?_) (fun _=>br (fun _=>must rfl ?_) (fun _=>?_)))))) (fun _=>br (fun _=>br (fun _=>must rfl ?_) (fun _=>br (fun _=>br (fun _=>must rfl ?_) (fun _=>br (fun _=>?_) (fun _=>br (fun _=>must rfl ?_) (fun _=>?_)))) (fun _=>br (fun _=>must rfl ?_) (fun _=>br (fun _=>?_) (fun _=>br (fun _=>must rfl ?_) (fun _=>?_)))))) (fun _=>br (fun _=>must rfl ?_) (fun _=>br (fun _=>br (fun _=>must rfl ?_) (fun _=>br (fun _=>?_) (fun _=>br (fun _=>must rfl ?_) (fun _=>?_)))) (fun _=>br (fun _=>must rfl ?_) (fun _=>br (fun _=>?_) (fun _=>br (fun _=>must rfl ?_) (fun _=>?_))))))))
 all_goals first|rfl|(simp only [*,zvh,zdu,cT,cF]<;>rfl)|simp_all[Ty.cells,zvh,zdu]
theorem zNh:vH 281 zDH:=kF1 zfL zl zq zy (zx []) zSC
def zgr (e:GExit):Bool:=bif (ieq e.Kind 0||ieq e.Kind 4) then (ieq e.Page 0&&(!e.Write&&ieq e.N 0)) else (cond (ieq e.Kind 1) (win e.Page 0 3&&ieq e.N 0) (cond (ieq e.Kind 2||ieq e.Kind 3) (win e.N 0 99&&(ieq e.Page 0 && !e.Write)) false))
@[simp] theorem z6P (x:Bool):znP x false = !x:=by cases x<;>rfl
attribute [simp] zFf
@[simp] abbrev zw6 (e:GExit):Bool:=true
@[simp] abbrev zsd (e:GExit):Bool:=zgr e
def zAr:Run:=rF1 dE fun b=>(zw6 b,[aB (zsd b)])
def zGg (N:Nat)(a0:GExit):OA:=
 let y5:=(zL a0.N 0 99);let y4:=(zJ a0.N 0 99);let y3:=(ieq a0.Kind 2);let y2:=(ieq a0.Page 0);let y1:=(aB (nB a0.Write));let y0:=(aB (cond (ieq a0.Kind a0.Kind) (cond y2 (cond (znP a0.Write false) (ieq a0.N 0) false) false) false)); (cond (ieq a0.Kind 0) (cond (ieq a0.Kind 0) (some [y0]) (cond (ieq a0.Kind 1) (oN (zJ a0.Page 0 3) (cond (zL a0.Page 0 3) (some [(aB (ieq a0.N 0))]) oF)) (cond y3 (cond y3 (oN y4 (cond y5 (cond y2 (some [y1]) oF) oF)) oF) (cond (ieq a0.Kind 3) (oN y4 (cond y5 (cond y2 (some [y1]) oF) oF)) oF)))) (cond (ieq a0.Kind 4) (some [y0]) (cond (ieq a0.Kind 1) (oN (zJ a0.Page 0 3) (cond (zL a0.Page 0 3) (some [(aB (ieq a0.N 0))]) oF)) (cond y3 (cond y3 (oN y4 (cond y5 (cond y2 (some [y1]) oF) oF)) oF) (cond (ieq a0.Kind 3) (oN y4 (cond y5 (cond y2 (some [y1]) oF) oF)) oF)))))
theorem zQm (a0:GExit)(hc:zw6 a0=true):∃N,zGg N a0=some [aB (zsd a0)]:=by
 refine ⟨0,?_⟩;unfold zGg oN nB
 conv=>zeta
 refine br (fun _=>br (fun _=>?_) (fun _=>br (fun _=>must rfl (br (fun _=>?_) (fun _=>?_))) (fun _=>br (fun _=>br (fun _=>must rfl (br (fun _=>br (fun _=>?_) (fun _=>?_)) (fun _=>?_))) (fun _=>?_)) (fun _=>br (fun _=>must rfl (br (fun _=>br (fun _=>?_) (fun _=>?_)) (fun _=>?_))) (fun _=>?_))))) (fun _=>br (fun _=>?_) (fun _=>br (fun _=>must rfl (br (fun _=>?_) (fun _=>?_))) (fun _=>br (fun _=>br (fun _=>must rfl (br (fun _=>br (fun _=>?_) (fun _=>?_)) (fun _=>?_))) (fun _=>?_)) (fun _=>br (fun _=>must rfl (br (fun _=>br (fun _=>?_) (fun _=>?_)) (fun _=>?_))) (fun _=>?_)))))
 all_goals first|rfl|(simp only [*,zsd,zgr,cT,cF]<;>rfl)|simp_all[Ty.cells,zsd,zgr]
theorem zJX:vH 279 zAr:=kF1 zfL zl zq zy (zx []) zQm
@[simp] abbrev zwF (e:GExit):Bool:=true
@[simp] abbrev zrK (e:GExit):Bool:=zgr e
def zz7:Run:=rF1 dE fun b=>(zwF b,[aB (zrK b)])
def zFY (N:Nat)(a0:GExit):OA:=
 let y5:=(zb7 a0.N 0 99);let y4:=(zbS a0.N 0 99);let y3:=(ieq a0.Kind 2);let y2:=(aB (ieq a0.N 0));let y1:=(ieq a0.Page 0);let y0:=(aB (nB a0.Write)); (cond (ieq a0.Kind 0) (cond (ieq a0.Kind 0) (cond y1 (cond (nB a0.Write) (some [y2]) oF) oF) (cond (ieq a0.Kind 1) (oN (zbS a0.Page 0 3) (cond (zb7 a0.Page 0 3) (some [y2]) oF)) (cond y3 (cond y3 (oN y4 (cond y5 (cond y1 (some [y0]) oF) oF)) oF) (cond (ieq a0.Kind 3) (oN y4 (cond y5 (cond y1 (some [y0]) oF) oF)) oF)))) (cond (ieq a0.Kind 4) (cond y1 (cond (nB a0.Write) (some [y2]) oF) oF) (cond (ieq a0.Kind 1) (oN (zbS a0.Page 0 3) (cond (zb7 a0.Page 0 3) (some [y2]) oF)) (cond y3 (cond y3 (oN y4 (cond y5 (cond y1 (some [y0]) oF) oF)) oF) (cond (ieq a0.Kind 3) (oN y4 (cond y5 (cond y1 (some [y0]) oF) oF)) oF)))))
theorem zP3 (a0:GExit)(hc:zwF a0=true):∃N,zFY N a0=some [aB (zrK a0)]:=by
 refine ⟨0,?_⟩;unfold zFY oN nB
 conv=>zeta
 refine br (fun _=>br (fun _=>br (fun _=>brN (fun _=>?_) (fun _=>?_)) (fun _=>?_)) (fun _=>br (fun _=>must rfl (br (fun _=>?_) (fun _=>?_))) (fun _=>br (fun _=>br (fun _=>must rfl (br (fun _=>br (fun _=>?_) (fun _=>?_)) (fun _=>?_))) (fun _=>?_)) (fun _=>br (fun _=>must rfl (br (fun _=>br (fun _=>?_) (fun _=>?_)) (fun _=>?_))) (fun _=>?_))))) (fun _=>br (fun _=>br (fun _=>brN (fun _=>?_) (fun _=>?_)) (fun _=>?_)) (fun _=>br (fun _=>must rfl (br (fun _=>?_) (fun _=>?_))) (fun _=>br (fun _=>br (fun _=>must rfl (br (fun _=>br (fun _=>?_) (fun _=>?_)) (fun _=>?_))) (fun _=>?_)) (fun _=>br (fun _=>must rfl (br (fun _=>br (fun _=>?_) (fun _=>?_)) (fun _=>?_))) (fun _=>?_)))))
 all_goals first|rfl|(simp only [*,zrK,zgr,cT,cF]<;>rfl)|simp_all[Ty.cells,zrK,zgr]
theorem zJF:vH 226 zz7:=kF1 zfL zl zq zy (zx []) zP3
def zjq (c:Ctl):List Int:=(cond (win c.Traps 0 3) [] [1])++((cond (win c.Post 0 255) [] [2])++((cond (ine c.Post 0) (cond c.Open [] [3]) [])++(cond (ieq c.Traps 2) (cond (ine c.Post 0) [4] []) [])))
@[simp] theorem z6M {α:Type}(x:α)(l m:List α):ap (x :: l) m=x :: ap l m:=rfl
@[simp] abbrev zqm (c:Ctl):Bool:=true
@[simp] abbrev zlg (c:Ctl):List Int:=zjq c
def ztm:Run:=rF1 dC fun b=>(zqm b,[aS .int (zlg b)])
def zxx (N:Nat)(a0:Ctl):OA:=
 let y10:=(aS .int []);let y8:=(ap (ap [] [2]) [4]);let y7:=(ap (ap [] [1]) [4]);let y6:=(aS .int (ap [] [2]));let y5:=(aS .int (ap [] [1]));let y4:=(ap (ap [] [2]) [3]);let y3:=(ap (ap [] [1]) [3]);let y2:=(ieq a0.Traps 2);let y1:=(ine a0.Post 0);let y0:=(ap (ap [] [1]) [2]);let y9:=(aS .int y0); (oN (zJ a0.Traps 0 3) (cond (nB (zL a0.Traps 0 3)) (oN (few (ln (ap [] [1]))) (oN (zJ a0.Post 0 255) (cond (nB (zL a0.Post 0 255)) (oN (few (ln y0)) (cond y1 (cond (nB a0.Open) (oN (few (ln (ap y0 [3]))) (cond y2 (cond y1 (oN (few (ln (ap (ap y0 [3]) [4]))) (some [(aS .int (ap (ap y0 [3]) [4]))])) (some [(aS .int (ap y0 [3]))])) (some [(aS .int (ap y0 [3]))]))) (cond y2 (cond y1 (oN (few (ln (ap y0 [4]))) (some [(aS .int (ap y0 [4]))])) (some [y9])) (some [y9]))) (cond y2 (cond y1 (oN (few (ln (ap y0 [4]))) (some [(aS .int (ap y0 [4]))])) (some [y9])) (some [y9])))) (cond y1 (cond (nB a0.Open) (oN (few (ln y3)) (cond y2 (cond y1 (oN (few (ln (ap y3 [4]))) (some [(aS .int (ap y3 [4]))])) (some [(aS .int y3)])) (some [(aS .int y3)]))) (cond y2 (cond y1 (oN (few (ln y7)) (some [(aS .int y7)])) (some [y5])) (some [y5]))) (cond y2 (cond y1 (oN (few (ln y7)) (some [(aS .int y7)])) (some [y5])) (some [y5])))))) (oN (zJ a0.Post 0 255) (cond (nB (zL a0.Post 0 255)) (oN (few (ln (ap [] [2]))) (cond y1 (cond (nB a0.Open) (oN (few (ln y4)) (cond y2 (cond y1 (oN (few (ln (ap y4 [4]))) (some [(aS .int (ap y4 [4]))])) (some [(aS .int y4)])) (some [(aS .int y4)]))) (cond y2 (cond y1 (oN (few (ln y8)) (some [(aS .int y8)])) (some [y6])) (some [y6]))) (cond y2 (cond y1 (oN (few (ln y8)) (some [(aS .int y8)])) (some [y6])) (some [y6])))) (cond y1 (cond (nB a0.Open) (oN (few (ln (ap [] [3]))) (cond y2 (cond y1 (oN (few (ln (ap (ap [] [3]) [4]))) (some [(aS .int (ap (ap [] [3]) [4]))])) (some [(aS .int (ap [] [3]))])) (some [(aS .int (ap [] [3]))]))) (cond y2 (cond y1 (oN (few (ln (ap [] [4]))) (some [(aS .int (ap [] [4]))])) (some [y10])) (some [y10]))) (cond y2 (cond y1 (oN (few (ln (ap [] [4]))) (some [(aS .int (ap [] [4]))])) (some [y10])) (some [y10])))))))
theorem zIa (a0:Ctl)(hc:zqm a0=true):∃N,zxx N a0=some [aS .int (zlg a0)]:=by
 refine ⟨0,?_⟩;unfold zxx oN nB
 conv=>zeta
 refine must rfl (brN (fun _=>mu (must rfl (brN (fun _=>mu (br (fun _=>brN (fun _=>mu (br (fun _=>br (fun _=>mu ?_) (fun _=>?_)) (fun _=>?_))) (fun _=>br (fun _=>br (fun _=>mu ?_) (fun _=>?_)) (fun _=>?_))) (fun _=>br (fun _=>br (fun _=>mu ?_) (fun _=>?_)) (fun _=>?_)))) (fun _=>br (fun _=>brN (fun _=>mu (br (fun _=>br (fun _=>mu ?_) (fun _=>?_)) (fun _=>?_))) (fun _=>br (fun _=>br (fun _=>mu ?_) (fun _=>?_)) (fun _=>?_))) (fun _=>br (fun _=>br (fun _=>mu ?_) (fun _=>?_)) (fun _=>?_)))))) (fun _=>must rfl (brN (fun _=>mu (br (fun _=>brN (fun _=>mu (br (fun _=>br (fun _=>mu ?_) (fun _=>?_)) (fun _=>?_))) (fun _=>br (fun _=>br (fun _=>mu ?_) (fun _=>?_)) (fun _=>?_))) (fun _=>br (fun _=>br (fun _=>mu ?_) (fun _=>?_)) (fun _=>?_)))) (fun _=>br (fun _=>brN (fun _=>mu (br (fun _=>br (fun _=>mu ?_) (fun _=>?_)) (fun _=>?_))) (fun _=>br (fun _=>br (fun _=>mu ?_) (fun _=>?_)) (fun _=>?_))) (fun _=>br (fun _=>br (fun _=>mu ?_) (fun _=>?_)) (fun _=>?_))))))
 all_goals first|rfl|(simp only [*,zlg,zjq,cT,cF]<;>rfl)|simp_all[Ty.cells,zlg,zjq]
theorem zBX:vH 315 ztm:=kF1 zfL zl zq zy (zx []) zIa
@[simp] abbrev zp2 (c:Ctl):Bool:=true
@[simp] abbrev zk7 (c:Ctl):List Int:=zjq c
def zth:Run:=rF1 dC fun b=>(zp2 b,[aS .int (zk7 b)])
def zxs (N:Nat)(a0:Ctl):OA:=
 let y10:=(aS .int []);let y8:=(ap (ap [] [2]) [4]);let y7:=(ap (ap [] [1]) [4]);let y6:=(aS .int (ap [] [2]));let y5:=(aS .int (ap [] [1]));let y4:=(ap (ap [] [2]) [3]);let y3:=(ap (ap [] [1]) [3]);let y2:=(ieq a0.Traps 2);let y1:=(ine a0.Post 0);let y0:=(ap (ap [] [1]) [2]);let y9:=(aS .int y0); (oN (zbS a0.Traps 0 3) (cond (nB (zb7 a0.Traps 0 3)) (oN (few (ln (ap [] [1]))) (oN (zbS a0.Post 0 255) (cond (nB (zb7 a0.Post 0 255)) (oN (few (ln y0)) (cond y1 (cond (nB a0.Open) (oN (few (ln (ap y0 [3]))) (cond y2 (cond y1 (oN (few (ln (ap (ap y0 [3]) [4]))) (some [(aS .int (ap (ap y0 [3]) [4]))])) (some [(aS .int (ap y0 [3]))])) (some [(aS .int (ap y0 [3]))]))) (cond y2 (cond y1 (oN (few (ln (ap y0 [4]))) (some [(aS .int (ap y0 [4]))])) (some [y9])) (some [y9]))) (cond y2 (cond y1 (oN (few (ln (ap y0 [4]))) (some [(aS .int (ap y0 [4]))])) (some [y9])) (some [y9])))) (cond y1 (cond (nB a0.Open) (oN (few (ln y3)) (cond y2 (cond y1 (oN (few (ln (ap y3 [4]))) (some [(aS .int (ap y3 [4]))])) (some [(aS .int y3)])) (some [(aS .int y3)]))) (cond y2 (cond y1 (oN (few (ln y7)) (some [(aS .int y7)])) (some [y5])) (some [y5]))) (cond y2 (cond y1 (oN (few (ln y7)) (some [(aS .int y7)])) (some [y5])) (some [y5])))))) (oN (zbS a0.Post 0 255) (cond (nB (zb7 a0.Post 0 255)) (oN (few (ln (ap [] [2]))) (cond y1 (cond (nB a0.Open) (oN (few (ln y4)) (cond y2 (cond y1 (oN (few (ln (ap y4 [4]))) (some [(aS .int (ap y4 [4]))])) (some [(aS .int y4)])) (some [(aS .int y4)]))) (cond y2 (cond y1 (oN (few (ln y8)) (some [(aS .int y8)])) (some [y6])) (some [y6]))) (cond y2 (cond y1 (oN (few (ln y8)) (some [(aS .int y8)])) (some [y6])) (some [y6])))) (cond y1 (cond (nB a0.Open) (oN (few (ln (ap [] [3]))) (cond y2 (cond y1 (oN (few (ln (ap (ap [] [3]) [4]))) (some [(aS .int (ap (ap [] [3]) [4]))])) (some [(aS .int (ap [] [3]))])) (some [(aS .int (ap [] [3]))]))) (cond y2 (cond y1 (oN (few (ln (ap [] [4]))) (some [(aS .int (ap [] [4]))])) (some [y10])) (some [y10]))) (cond y2 (cond y1 (oN (few (ln (ap [] [4]))) (some [(aS .int (ap [] [4]))])) (some [y10])) (some [y10])))))))
theorem zH4 (a0:Ctl)(hc:zp2 a0=true):∃N,zxs N a0=some [aS .int (zk7 a0)]:=by
 refine ⟨0,?_⟩;unfold zxs oN nB
 conv=>zeta
 refine must rfl (brN (fun _=>mu (must rfl (brN (fun _=>mu (br (fun _=>brN (fun _=>mu (br (fun _=>br (fun _=>mu ?_) (fun _=>?_)) (fun _=>?_))) (fun _=>br (fun _=>br (fun _=>mu ?_) (fun _=>?_)) (fun _=>?_))) (fun _=>br (fun _=>br (fun _=>mu ?_) (fun _=>?_)) (fun _=>?_)))) (fun _=>br (fun _=>brN (fun _=>mu (br (fun _=>br (fun _=>mu ?_) (fun _=>?_)) (fun _=>?_))) (fun _=>br (fun _=>br (fun _=>mu ?_) (fun _=>?_)) (fun _=>?_))) (fun _=>br (fun _=>br (fun _=>mu ?_) (fun _=>?_)) (fun _=>?_)))))) (fun _=>must rfl (brN (fun _=>mu (br (fun _=>brN (fun _=>mu (br (fun _=>br (fun _=>mu ?_) (fun _=>?_)) (fun _=>?_))) (fun _=>br (fun _=>br (fun _=>mu ?_) (fun _=>?_)) (fun _=>?_))) (fun _=>br (fun _=>br (fun _=>mu ?_) (fun _=>?_)) (fun _=>?_)))) (fun _=>br (fun _=>brN (fun _=>mu (br (fun _=>br (fun _=>mu ?_) (fun _=>?_)) (fun _=>?_))) (fun _=>br (fun _=>br (fun _=>mu ?_) (fun _=>?_)) (fun _=>?_))) (fun _=>br (fun _=>br (fun _=>mu ?_) (fun _=>?_)) (fun _=>?_))))))
 all_goals first|rfl|(simp only [*,zk7,zjq,cT,cF]<;>rfl)|simp_all[Ty.cells,zk7,zjq]
theorem zBR:vH 282 zth:=kF1 zfL zl zq zy (zx []) zH4
def zfT (p n:Int):Bool:=ieq (wand .i64 (zBe .i64 p n) 1) 1
def scan (p:Int):Int:=bif zfT p 7 then 7 else (cond (zfT p 6) 6 (cond (zfT p 5) 5 (cond (zfT p 4) 4 (cond (zfT p 3) 3 (cond (zfT p 2) 2 (cond (zfT p 1) 1 (cond (zfT p 0) 0 (-1))))))))
theorem z0W:∀n:Fin 256,-1<=scan (n.val:Int)/\scan (n.val:Int)<=7/\(0<=scan (n.val:Int)->wsub .i64 (n.val:Int) (znH .i64 1 (scan (n.val:Int)))=zJl .i64 (n.val:Int) (znH .i64 1 (scan (n.val:Int)))):=by decide +kernel
theorem zYj {P:Int->Prop}(h:∀n:Fin 256,P (n.val:Int)){x:Int}(h0:0<=x)(h1:x<=255):P x:=by
 have:=h ⟨x.toNat,by omega⟩
 have e:((x.toNat:Nat):Int)=x:=by omega
 simpa [e] using this
def z19:zU:=[(273,zAp),(213,zx6),(166,zxL),(212,zAB),(165,zAe),(314,zDQ),(281,zDH),(279,zAr),(226,zz7),(315,ztm),(282,zth)]++z18
theorem zgp:zD z19:=zh zJV (zh zHE (zh zHj (zh zJ7 (zh zJM (zh zNr (zh zNh (zh zJX (zh zJF (zh zBX (zh zBR zfL))))))))))
def zgG (m:List (List Int))(n:Int):Bool:=bif m.all zb5 then ieq (ln m) n else false
@[simp] abbrev zpR (m:List (List Int))(n:Int):Bool:=true
@[simp] abbrev zkK (m:List (List Int))(n:Int):Bool:=zgG m n
def zDR:Run:=rF2 (dS (.sl .int)) dI fun b c=>(zpR b c,[aB (zkK b c)])
def zL2 (N:Nat)(a0:lM)(a1:Int):OA:=
 (iter (σ:=(Int×(Int×(lM×Unit)))) N (fun r3 s4=>let y0:=s4.2.2.1; (cond (ilt s4.2.1 (ln y0)) (oN (inb s4.2.1 (ln y0)) (oN (zfi (ix y0 s4.2.1 [])) (cond (nB (zeL (ix y0 s4.2.1 []))) oF (r3 (s4.1,((zG .i64 s4.2.1 1),(y0,()))))))) (some [(aB (ieq (ln y0) s4.1))]))) (a1,(0,(a0,()))))
def zTB:FuncId->Nat->Option Tmpl:=zx [(155,0,{ n:=22,tm:=[(0,.sl 0 []),(1,ti),(5,ti)],lo:=[],ro:=[(0,(.sl .int),false)] })]
theorem zSN (a0:List (List Int))(a1:Int)(hb:zbQ big [aS (.sl .int) a0,aI a1])(hc:zpR a0 a1=true):∃N,zL2 N a0 a1=some [aB (zkK a0 a1)]:=by
 have hl:(_:List _).length<=big:=((zcn hb).1 _ (qF.2 rfl)).len;refine zb9 fun N hNN=>?_;unfold zL2 oN nB
 conv=>zeta
 refine (zX a0 (fun i (t:Unit)=>(a1,(i:Int),a0,())) _ (fun _ x (_:Unit) κ=>bif (zb5) x then κ () else oF) (fun (t:Unit)=>(some [(.one (.b (ieq (ln a0) a1)))])) (fun i hi t rec=>?_) (fun t rec=>?_) _ () (hNN hl)).trans ?_
 .simp only [zbs hi,zV hi,zbe hi,zQ hi hl,cT];exact zh8 rfl
 .simp only [zbl,cF]
 rw[ze7 (zb5)];refine br (fun h0=>?_) (fun h0=>?_)
 .first|rfl|(simp only [h0,zkK,zgG,cT,cF]<;>rfl)|(simp_all [Ty.cells,zkK,zgG];done)
 .first|rfl|(simp only [h0,zkK,zgG,cT,cF]<;>rfl)|(simp_all [Ty.cells,zkK,zgG];done)
theorem zNs:vH 155 zDR:=hF2 zgp zl zq zy zTB zSN
@[simp] abbrev zzH (m:List (List Int))(n:Int):Bool:=true
@[simp] abbrev zn1 (m:List (List Int))(n:Int):Bool:=zgG m n
def zDI:Run:=rF2 (dS (.sl .int)) dI fun b c=>(zzH b c,[aB (zn1 b c)])
def zLT (N:Nat)(a0:lM)(a1:Int):OA:=
 (iter (σ:=(Int×(Int×(Int×(lM×Unit))))) N (fun r3 s4=>let y0:=s4.2.2.2.1; (cond (ilt s4.2.2.1 s4.2.1) (oN (inb s4.2.2.1 (ln y0)) (oN (zgZ (ix y0 s4.2.2.1 [])) (cond (nB (zfM (ix y0 s4.2.2.1 []))) oF (r3 (s4.1,(s4.2.1,((zG .i64 s4.2.2.1 1),(y0,())))))))) (some [(aB (ieq (ln y0) s4.1))]))) (a1,((ln a0),(0,(a0,())))))
def zTy:FuncId->Nat->Option Tmpl:=zx [(106,0,{ n:=21,tm:=[(0,.sl 0 []),(1,ti),(7,.sl 0 []),(8,ti),(9,ti)],lo:=[],ro:=[(0,(.sl .int),false)] })]
theorem zSD (a0:List (List Int))(a1:Int)(hb:zbQ big [aS (.sl .int) a0,aI a1])(hc:zzH a0 a1=true):∃N,zLT N a0 a1=some [aB (zn1 a0 a1)]:=by
 have hl:(_:List _).length<=big:=((zcn hb).1 _ (qF.2 rfl)).len;refine zb9 fun N hNN=>?_;unfold zLT oN nB
 conv=>zeta
 refine (zX a0 (fun i (t:Unit)=>(a1,(ln a0),(i:Int),a0,())) _ (fun _ x (_:Unit) κ=>bif (zb5) x then κ () else oF) (fun (t:Unit)=>(some [(.one (.b (ieq (ln a0) a1)))])) (fun i hi t rec=>?_) (fun t rec=>?_) _ () (hNN hl)).trans ?_
 .simp only [zbs hi,zV hi,zbe hi,zQ hi hl,cT];exact zh8 rfl
 .simp only [zbl,cF]
 rw[ze7 (zb5)];refine br (fun h0=>?_) (fun h0=>?_)
 .first|rfl|(simp only [h0,zn1,zgG,cT,cF]<;>rfl)|(simp_all [Ty.cells,zn1,zgG];done)
 .first|rfl|(simp only [h0,zn1,zgG,cT,cF]<;>rfl)|(simp_all [Ty.cells,zn1,zgG];done)
theorem zNi:vH 106 zDI:=hF2 zgp zl zq zy zTy zSD
def zcU (p:List Ins):Bool:=bif p.all zdu then win (ln p) 1 12 else false
@[simp] abbrev zxb (p:List Ins):Bool:=true
@[simp] abbrev zlY (p:List Ins):Bool:=zcU p
def zAD:Run:=rF1 (dS .ins) fun b=>(zxb b,[aB (zlY b)])
def zGr (N:Nat)(a0:lI):OA:=
 (iter (σ:=(Int×(lI×Unit))) N (fun r2 s3=>let y0:=(ix s3.2.1 s3.1 zJm); (cond (ilt s3.1 (ln s3.2.1)) (oN (inb s3.1 (ln s3.2.1)) (oN (zAV y0) (cond (nB (zv2 y0)) oF (r2 ((zG .i64 s3.1 1),(s3.2.1,())))))) (oN (zJ (ln s3.2.1) 1 12) (some [(aB (zL (ln s3.2.1) 1 12))])))) (0,(a0,())))
def zR3:FuncId->Nat->Option Tmpl:=zx [(277,0,{ n:=19,tm:=[(0,.sl 0 []),(3,ti)],lo:=[],ro:=[(0,.ins,false)] })]
theorem zQz (a0:List Ins)(hb:zbQ big [aS .ins a0])(hc:zxb a0=true):∃N,zGr N a0=some [aB (zlY a0)]:=by
 have hl:(_:List _).length<=big:=((zcn hb).1 _ (qF.2 rfl)).len;refine zb9 fun N hNN=>?_;unfold zGr oN nB
 conv=>zeta
 refine (zX a0 (fun i (t:Unit)=>((i:Int),a0,())) _ (fun _ x (_:Unit) κ=>bif (zdu) x then κ () else oF) (fun (t:Unit)=>(cond (zJ (ln a0) 1 12) (some [(.one (.b (zL (ln a0) 1 12)))]) none)) (fun i hi t rec=>?_) (fun t rec=>?_) _ () (hNN hl)).trans ?_
 .simp only [zbs hi,zV hi,zbe hi,zQ hi hl,cT];exact zh8 rfl
 .simp only [zbl,cF]
 rw[ze7 (zdu)];refine br (fun h0=>?_) (fun h0=>?_)
 .refine must rfl ?_
  first|rfl|(simp only [h0,zlY,zcU,cT,cF]<;>rfl)|(simp_all [Ty.cells,zlY,zcU];done)
 .first|rfl|(simp only [h0,zlY,zcU,cT,cF]<;>rfl)|(simp_all [Ty.cells,zlY,zcU];done)
theorem zJ9:vH 277 zAD:=hF1 zgp zl zq zy zR3 zQz
@[simp] abbrev zwJ (p:List Ins):Bool:=true
@[simp] abbrev zlN (p:List Ins):Bool:=zcU p
def zAg:Run:=rF1 (dS .ins) fun b=>(zwJ b,[aB (zlN b)])
def zF6 (N:Nat)(a0:lI):OA:=
 (iter (σ:=(Int×(Int×(lI×Unit)))) N (fun r2 s3=>let y0:=(ix s3.2.2.1 s3.2.1 zJm); (cond (ilt s3.2.1 s3.1) (oN (inb s3.2.1 (ln s3.2.2.1)) (oN (zzG y0) (cond (nB (zvh y0)) oF (r2 (s3.1,((zG .i64 s3.2.1 1),(s3.2.2.1,()))))))) (oN (zbS (ln s3.2.2.1) 1 12) (some [(aB (zb7 (ln s3.2.2.1) 1 12))])))) ((ln a0),(0,(a0,()))))
def zRV:FuncId->Nat->Option Tmpl:=zx [(224,0,{ n:=18,tm:=[(0,.sl 0 []),(5,.sl 0 []),(6,ti),(7,ti)],lo:=[],ro:=[(0,.ins,false)] })]
theorem zQc (a0:List Ins)(hb:zbQ big [aS .ins a0])(hc:zwJ a0=true):∃N,zF6 N a0=some [aB (zlN a0)]:=by
 have hl:(_:List _).length<=big:=((zcn hb).1 _ (qF.2 rfl)).len;refine zb9 fun N hNN=>?_;unfold zF6 oN nB
 conv=>zeta
 refine (zX a0 (fun i (t:Unit)=>((ln a0),(i:Int),a0,())) _ (fun _ x (_:Unit) κ=>bif (zdu) x then κ () else oF) (fun (t:Unit)=>(cond (zbS (ln a0) 1 12) (some [(.one (.b (zb7 (ln a0) 1 12)))]) none)) (fun i hi t rec=>?_) (fun t rec=>?_) _ () (hNN hl)).trans ?_
 .simp only [zbs hi,zV hi,zbe hi,zQ hi hl,cT];exact zh8 rfl
 .simp only [zbl,cF]
 rw[ze7 (zdu)];refine br (fun h0=>?_) (fun h0=>?_)
 .refine must rfl ?_
  first|rfl|(simp only [h0,zlN,zcU,cT,cF]<;>rfl)|(simp_all [Ty.cells,zlN,zcU];done)
 .first|rfl|(simp only [h0,zlN,zcU,cT,cF]<;>rfl)|(simp_all [Ty.cells,zlN,zcU];done)
theorem zJO:vH 224 zAg:=hF1 zgp zl zq zy zRV zQc
def zgF (c:Ctl):Bool:=ieq (ln (zjq c)) 0
@[simp] abbrev zpP (c:Ctl):Bool:=true
@[simp] abbrev zoo (c:Ctl):Bool:=zgF c
def zDN:Run:=rF1 dC fun b=>(zpP b,[aB (zoo b)])
def zLY (N:Nat)(a0:Ctl):OA:=
 (oN (zqm a0) (some [(aB (ieq (ln (zlg a0)) 0))]))
theorem zSJ (a0:Ctl)(hc:zpP a0=true):∃N,zLY N a0=some [aB (zoo a0)]:=by
 refine ⟨0,?_⟩;unfold zLY oN;refine must rfl ?_
 first|rfl|(simp only [*,zoo,zgF,cT,cF]<;>rfl)|simp_all[Ty.cells,zoo,zgF]
theorem zNo:vH 278 zDN:=kF1 zgp zl zq zy (zx []) zSJ
@[simp] abbrev zzF (c:Ctl):Bool:=true
@[simp] abbrev zvg (c:Ctl):Bool:=zgF c
def zDG:Run:=rF1 dC fun b=>(zzF b,[aB (zvg b)])
def zLR (N:Nat)(a0:Ctl):OA:=
 (oN (zp2 a0) (some [(aB (ieq (ln (zk7 a0)) 0))]))
theorem zSB (a0:Ctl)(hc:zzF a0=true):∃N,zLR N a0=some [aB (zvg a0)]:=by
 refine ⟨0,?_⟩;unfold zLR oN;refine must rfl ?_
 first|rfl|(simp only [*,zvg,zgF,cT,cF]<;>rfl)|simp_all[Ty.cells,zvg,zgF]
theorem zNg:vH 225 zDG:=kF1 zgp zl zq zy (zx []) zSB
def zds (p:Int):Int:=bif zcO p then scan p else -1
theorem zUK {x:Int}(h0:0<=x)(h1:x<=255):wcv .u64 x=x:=zYj (P:=fun x=>wcv .u64 x=x) (by decide +kernel) h0 h1
@[simp] abbrev zq0 (p:Int):Bool:=true
@[simp] abbrev zlZ (p:Int):Int:=zds p
def zAH:Run:=rF1 dI fun b=>(zq0 b,[aI (zlZ b)])
def zGv (N:Nat)(a0:Int):OA:=
 (iter (σ:=(Int×(Int×Unit))) N (fun r2 s3=>(cond (ige s3.2.1 0) (oN (zeN s3.1) (cond (zeM s3.1) (oN (ile 0 (wcv .u64 s3.2.1)) (cond (ieq (wand .i64 (zBe .i64 s3.1 (wcv .u64 s3.2.1)) 1) 1) (some [(aI s3.2.1)]) (r2 (s3.1,((wsub .i64 s3.2.1 1),()))))) (some [(aI (-1))]))) (some [(aI (-1))]))) (a0,(7,())))
def zR4:FuncId->Nat->Option Tmpl:=zx [(317,0,{ n:=19,tm:=[(0,ti),(3,ti)],lo:=[],ro:=[] })]
theorem zQD (a0:Int)(hc:zq0 a0=true):∃N,zGv N a0=some [aI (zlZ a0)]:=by
 refine ⟨10,?_⟩;unfold zGv oN;cases h:zcO a0
 .rw [zdz];refine must rfl ?_;refine must rfl ?_;refine zdB h ?_;simp[zds,h]
 .have hs:zeM a0=true:=h;rw[zdz];refine must rfl (must rfl (must hs (must rfl (br (fun h7=>?_) (fun h7=>?_)))))
  .have e7:zfT a0 7=true:=h7;simp[zds,h,scan,e7]
  have f7:zfT a0 7=false:=h7
  show iter 9 _ (a0,6,())=_
  rw[zdz];refine must rfl (must rfl (must hs (must rfl (br (fun h6=>?_) (fun h6=>?_)))))
  .have e6:zfT a0 6=true:=h6;simp[zds,h,scan,e6,f7]
  have f6:zfT a0 6=false:=h6
  show iter 8 _ (a0,5,())=_
  rw[zdz];refine must rfl (must rfl (must hs (must rfl (br (fun h5=>?_) (fun h5=>?_)))))
  .have e5:zfT a0 5=true:=h5;simp[zds,h,scan,e5,f7,f6]
  have f5:zfT a0 5=false:=h5
  show iter 7 _ (a0,4,())=_
  rw[zdz];refine must rfl (must rfl (must hs (must rfl (br (fun h4=>?_) (fun h4=>?_)))))
  .have e4:zfT a0 4=true:=h4;simp[zds,h,scan,e4,f7,f6,f5]
  have f4:zfT a0 4=false:=h4
  show iter 6 _ (a0,3,())=_
  rw[zdz];refine must rfl (must rfl (must hs (must rfl (br (fun h3=>?_) (fun h3=>?_)))))
  .have e3:zfT a0 3=true:=h3;simp[zds,h,scan,e3,f7,f6,f5,f4]
  have f3:zfT a0 3=false:=h3
  show iter 5 _ (a0,2,())=_
  rw[zdz];refine must rfl (must rfl (must hs (must rfl (br (fun h2=>?_) (fun h2=>?_)))))
  .have e2:zfT a0 2=true:=h2;simp[zds,h,scan,e2,f7,f6,f5,f4,f3]
  have f2:zfT a0 2=false:=h2
  show iter 4 _ (a0,1,())=_
  rw[zdz];refine must rfl (must rfl (must hs (must rfl (br (fun h1=>?_) (fun h1=>?_)))))
  .have e1:zfT a0 1=true:=h1;simp[zds,h,scan,e1,f7,f6,f5,f4,f3,f2]
  have f1:zfT a0 1=false:=h1
  show iter 3 _ (a0,0,())=_
  rw[zdz];refine must rfl (must rfl (must hs (must rfl (br (fun h0=>?_) (fun h0=>?_)))))
  .have e0:zfT a0 0=true:=h0;simp[zds,h,scan,e0,f7,f6,f5,f4,f3,f2,f1]
  have f0:zfT a0 0=false:=h0
  show iter 2 _ (a0,-1,())=_
  rw[zdz];refine zdB rfl ?_;simp[zds,h,scan,f7,f6,f5,f4,f3,f2,f1,f0]
theorem zKd:vH 317 zAH:=kF1 zgp zl zq zy zR4 zQD
@[simp] abbrev zho (l:List (List Int)):Bool:=pc (SmM l)
@[simp] abbrev zeY (l:List (List Int)):List (List Int):=l
def zxM:Run:=rF1 (dS (.sl .int)) fun b=>(zho b,[aS (.sl .int) (zeY b)])
def zCG (N:Nat)(a0:lM):OA:=
 (iter (σ:=(Int×(Int×(lM×(lM×Unit))))) N (fun r2 s3=>let y0:=(ix s3.2.2.2.1 s3.2.1 []); (cond (ilt s3.2.1 s3.1) (oN (inb s3.2.1 (ln s3.2.2.2.1)) (oN (zdr y0) (oN (few (ln (ap s3.2.2.1 [(zdm y0)]))) (r2 (s3.1,((zG .i64 s3.2.1 1),((ap s3.2.2.1 [(zdm y0)]),(s3.2.2.2.1,())))))))) (some [(aS (.sl .int) s3.2.2.1)]))) ((ln a0),(0,([],(a0,())))))
def zOu:FuncId->Nat->Option Tmpl:=zx [(114,0,{ n:=20,tm:=[(3,.sl 0 []),(7,.sl 1 []),(8,ti),(9,ti)],lo:=[],ro:=[(0,(.sl .int),true),(1,(.sl .int),false)] })]
theorem zNG (a0:List (List Int))(hc:zho a0=true):∃N,zCG N a0=some [aS (.sl .int) (zeY a0)]:=by
 have hs:=zF.1 hc;have hl:=zcF hs.1;refine zb9 fun N hNN=>?_;unfold zCG oN
 conv=>zeta
 refine (zX a0 (fun i (t:lM)=>((ln a0),(i:Int),t,a0,())) _ (fun _ x acc κ=>bif zdr x then (cond (few (ln (ap acc [zdm x]))) (κ (ap acc [zdm x])) none) else none) (fun (t:lM)=>(some [(.one (.s (.sl .int) t))])) (fun i hi t rec=>?_) (fun t rec=>?_) _ ([]) (hNN hl.1)).trans ?_
 .simp only [zbs hi,zV hi,zbe hi,zQ hi hl.1,cT]
 .simp only [zbl,cF]
 exact zh9 zdr zdm _ a0 0 [] (fun x hx=>⟨by exact zbh (jE (hs.2 x hx) (by decide)),rfl⟩) (by simpa using hl.2)
theorem zHk:vH 114 zxM:=kF1 zgp zl zq zy zOu zNG
@[simp] abbrev ziD (g:Guest):Bool:=pc (SmG g)
@[simp] abbrev zfh (g:Guest):Guest:=g
def ztj:Run:=rF1 (dT .guest) fun b=>(ziD b,[aT .guest (zfh b)])
def zxu (N:Nat)(a0:Guest):OA:=
 (oN (zrS a0.Prog) (oN (zfN a0.Written) (oN (zfN a0.Live) (oN (zdr a0.Seen) (some [(aT .guest ({ a0 with Prog:=(zmS a0.Prog),Written:=(zex a0.Written),Live:=(zex a0.Live),Seen:=(zdm a0.Seen) }:Guest))])))))
theorem zH6 (a0:Guest)(hc:ziD a0=true):∃N,zxu N a0=some [aT .guest (zfh a0)]:=by
 have hs:=zF.1 hc;obtain ⟨h1,h2,h3,h4⟩:=hs;have hs1:a0.Prog.length<=2147483648:=(by omega);have hs2:a0.Written.length<=2147483648:=(by omega);have hs3:a0.Live.length<=2147483648:=(by omega);have hs4:a0.Seen.length<=2147483648:=(by omega)
 refine ⟨0,?_⟩;unfold zxu oN;refine mu (mu (mu (mu ?_)))
 first|rfl|(simp only [*,zfh,cT,cF]<;>rfl)|simp_all[Ty.cells,zfh]
theorem zBU:vH 119 ztj:=kF1 zgp zl zq zy (zx []) zH6
def zeT (t:List Slot)(p n:Int):Bool:=bif ieq (zbf t p).Page (-1) then false else (cond (enough (zbf t p).Rights n) (win n 1 3) false)
def zcm (t:List Slot)(p n:Int):Int:=bif zeT t p n then (zbf t p).Page else -1
theorem z0P {r:Int}(h:zct r=true):0<=r/\r<=3:=zfg.1 h
theorem zVk {a n:Int}(h:enough a n=true):win n 1 3 = !ieq n 0:=by
 unfold enough at h;cases h1:zct a
 .rw [h1]at h;cases h
 .cases h2:zct n
  .rw [h1,h2]at h;cases h
  .have:=z0P h2;have e:(win n 1 3=true)↔(!ieq n 0)=true:=by
    rw[zfg];simp[ieq];omega
   cases h3:win n 1 3<;>cases h4:(!ieq n 0)<;>simp_all
@[simp] abbrev zqp (t:List Slot)(p n:Int):Bool:=true
@[simp] abbrev ziK (t:List Slot)(p n:Int):Int:=zcm t p n
@[simp] abbrev ziL (t:List Slot)(p n:Int):Bool:=zeT t p n
def ztt:Run:=rF3 (dS .slot) dI dI fun b c d=>(zqp b c d,[aI (ziK b c d),aB (ziL b c d)])
def zxE (N:Nat)(a0:lS)(a1 a2:Int):OA:=
 let y0:=(zis a0 a1); (oN (znu a0 a1) (cond (ieq y0.Page (-1)) (some [(aI (-1)),(aB false)]) (oN (zfY y0.Rights a2) (cond (nB (zgB y0.Rights a2)) (some [(aI (-1)),(aB false)]) (cond (ieq a2 0) (some [(aI (-1)),(aB false)]) (some [(aI y0.Page),(aB true)]))))))
theorem zIh (a0:List Slot)(a1 a2:Int)(hc:zqp a0 a1 a2=true):∃N,zxE N a0 a1 a2=some [aI (ziK a0 a1 a2),aB (ziL a0 a1 a2)]:=by
 have he:=@zVk (zbf a0 a1).Rights a2;refine ⟨0,?_⟩;unfold zxE oN nB
 conv=>zeta
 refine must rfl (br (fun _=>?_) (fun _=>must rfl (brN (fun _=>?_) (fun _=>br (fun _=>?_) (fun _=>?_)))))
 all_goals first|rfl|(simp only [*,ziK,ziL,zcm,zeT,cT,cF]<;>rfl)|simp_all[Ty.cells,ziK,ziL,zcm,zeT]
theorem zB4:vH 13 ztt:=kF3 zgp zl zq zy (zx []) zIh
def z2a:zU:=[(114,zxM),(119,ztj),(13,ztt),(155,zDR),(106,zDI),(277,zAD),(224,zAg),(278,zDN),(225,zDG),(317,zAH)]++z19
theorem zlJ:zD z2a:=zh zHk (zh zBU (zh zB4 (zh zNs (zh zNi (zh zJ9 (zh zJO (zh zNo (zh zNg (zh zKd zgp)))))))))
@[simp] abbrev zhV (m:List (List Int))(p c v:Int):Bool:=pc (SmM m)
@[simp] abbrev zit (m:List (List Int))(p c v:Int):List (List Int):=zbw m p c v
def zvT:Run:=rF4 (dS (.sl .int)) dI dI dI fun b c d e=>(zhV b c d e,[aS (.sl .int) (zit b c d e)])
def zy0 (N:Nat)(a0:lM)(a1 a2 a3:Int):OA:=
 let y0:=(zd4 a0); (oN (zfj a0) (oN (zq1 a0 a1 a2) (cond (zov a0 a1 a2) (oN (zJ a3 0 99) (cond (zL a3 0 99) (oN (inb a1 (ln y0)) (oN (inb a2 (ln (ix y0 a1 []))) (share (up y0 a1 (up (ix y0 a1 []) a2 a3)) (fun x5=>(some [(aS (.sl .int) x5)]))))) (some [(aS (.sl .int) y0)]))) (some [(aS (.sl .int) y0)]))))
theorem zKV (a0:List (List Int))(a1 a2 a3:Int)(hc:zhV a0 a1 a2 a3=true):∃N,zy0 N a0 a1 a2 a3=some [aS (.sl .int) (zit a0 a1 a2 a3)]:=by
 have hs:=zF.1 hc;have hm:=(zwT a0 a1 a2).1
 refine ⟨0,?_⟩;unfold zy0 oN
 conv=>zeta
 refine mu (must rfl (br (fun _=>must rfl (br (fun _=>mu (mu (shr ?_))) (fun _=>?_))) (fun _=>?_)))
 all_goals first|rfl|(simp only [*,zit,zbw,cT,cF]<;>rfl)|simp_all[Ty.cells,zit,zbw]
theorem zE5:vH 268 zvT:=kF4 zlJ zl zq zy (zx []) zKV
def zhA (g:Guest):Bool:=bif canRun g then (cond g.Ctl.Open (ige (zds g.Pending) 0) false) else false
@[simp] abbrev znv (g:Guest):Bool:=true
@[simp] abbrev zkM (g:Guest):Bool:=zhA g
def zvS:Run:=rF1 (dT .guest) fun b=>(znv b,[aB (zkM b)])
def zyZ (N:Nat)(a0:Guest):OA:=
 (oN (zqT a0) (cond (zom a0) (cond a0.Ctl.Open (oN (zq0 a0.Pending) (some [(aB (ige (zlZ a0.Pending) 0))])) oF) oF))
theorem zKU (a0:Guest)(hc:znv a0=true):∃N,zyZ N a0=some [aB (zkM a0)]:=by
 refine ⟨0,?_⟩;unfold zyZ oN;refine must rfl (br (fun _=>br (fun _=>must rfl ?_) (fun _=>?_)) (fun _=>?_))
 all_goals first|rfl|(simp only [*,zkM,zhA,cT,cF]<;>rfl)|simp_all[Ty.cells,zkM,zhA]
theorem zE4:vH 293 zvS:=kF1 zlJ zl zq zy (zx []) zKU
def ziW (p:Int):Int:=bif ilt (zds p) 0 then p else wsub .i64 p (znH .i64 1 (zds p))
def zrT (p:Int):Int:=bif ilt (zds p) 0 then -1 else zds p
theorem zZa {p:Int}(h:ilt (zds p) 0=false):wcv .u64 (zds p)=zds p/\ile 0 (zds p)=true/\zJl .i64 p (znH .i64 1 (zds p))=wsub .i64 p (znH .i64 1 (zds p)):=by
 unfold zds at *;cases h1:zcO p
 .rw [h1]at h;cases h
 .simp only [h1,cT]at h ⊢;obtain ⟨h0,h2⟩:=zfg.1 h1;have r:=zYj (P:=fun x=>-1<=scan x/\scan x<=7/\(0<=scan x->wsub .i64 x (znH .i64 1 (scan x))=zJl .i64 x (znH .i64 1 (scan x)))) z0W h0 h2;have h3:0<=scan p:=by
   unfold ilt at h;have:=jV h;omega
  exact ⟨zUK h3 (by omega),qL h3,(r.2.2 h3).symm⟩
@[simp] abbrev zpj (p:Int):Bool:=true
@[simp] abbrev zi6 (p:Int):Int:=ziW p
@[simp] abbrev zi7 (p:Int):Int:=zrT p
@[simp] abbrev zln (p:Int):Bool:=!ilt (zds p) 0
def zx7:Run:=rF1 dI fun b=>(zpj b,[aI (zi6 b),aI (zi7 b),aB (zln b)])
def zC4 (N:Nat)(a0:Int):OA:=
 (oN (zq0 a0) (cond (ilt (zlZ a0) 0) (some [(aI a0),(aI (-1)),(aB false)]) (oN (ile 0 (wcv .u64 (zlZ a0))) (some [(aI (wsub .i64 a0 (znH .i64 1 (wcv .u64 (zlZ a0))))),(aI (zlZ a0)),(aB true)]))))
theorem zN5 (a0:Int)(hc:zpj a0=true):∃N,zC4 N a0=some [aI (zi6 a0),aI (zi7 a0),aB (zln a0)]:=by
 have ht:=@zZa a0;refine ⟨0,?_⟩;unfold zC4 oN;refine must rfl (br (fun _=>?_) (fun _=>mu ?_))
 all_goals first|rfl|(simp only [*,zi6,zi7,zln,ziW,zrT,cT,cF]<;>rfl)|simp_all[Ty.cells,zi6,zi7,zln,ziW,zrT]
theorem zHF:vH 295 zx7:=kF1 zlJ zl zq zy (zx []) zN5
def saw (g:Guest)(n:Int):Guest:=bif ilt (ln g.Seen) 40 then { g with Seen:=ap g.Seen [n] } else g
@[simp] theorem zLr {g:Guest}(n:Int)(h:SmG g):SmG (saw g n):=by
 unfold saw;cases h1:ilt (ln g.Seen) 40
 .exact h
 .have:=qE h1;refine ⟨h.1,h.2.1,h.2.2.1,?_⟩;simp[ln] at *;omega
@[simp] abbrev zBJ (g:Guest)(n:Int):Bool:=pc (SmG g)
@[simp] abbrev zxc (g:Guest)(n:Int):Guest:=saw g n
def zMZ:Run:=rF2 (dT .guest) dI fun b c=>(zBJ b c,[aT .guest (zxc b c)])
def zTK (N:Nat)(a0:Guest)(a1:Int):OA:=
 (oN (zc2 a0) (cond (ilt (ln (zcL a0).Seen) 40) (oN (few (ln (ap (zcL a0).Seen [a1]))) (some [(aT .guest ({ (zcL a0) with Seen:=(ap (zcL a0).Seen [a1]) }:Guest))])) (some [(aT .guest (zcL a0))])))
theorem zX4 (a0:Guest)(a1:Int)(hc:zBJ a0 a1=true):∃N,zTK N a0 a1=some [aT .guest (zxc a0 a1)]:=by
 have hs:=zF.1 hc;have hz:a0.Seen.length<=1048576:=hs.2.2.2
 refine ⟨0,?_⟩;unfold zTK oN;refine mu (br (fun _=>mu ?_) (fun _=>?_))
 all_goals first|rfl|(simp only [*,zxc,saw,cT,cF]<;>rfl)|simp_all[Ty.cells,zxc,saw]
theorem zSz:vH 296 zMZ:=kF2 zlJ zl zq zy (zx []) zX4
def stopped (g:Guest)(e:GExit):Guest:={ g with Exit:=e }
@[simp] theorem z5P {g:Guest}(e:GExit)(h:SmG g):SmG (stopped g e):=h
@[simp] abbrev zdL (g:Guest)(e:GExit):Bool:=pc (SmG g)
@[simp] abbrev zdi (g:Guest)(e:GExit):Guest:=stopped g e
def zx5:Run:=rF2 (dT .guest) dE fun b c=>(zdL b c,[aT .guest (zdi b c)])
def zC2 (N:Nat)(a0:Guest)(a1:GExit):OA:=
 (oN (zc2 a0) (some [(aT .guest ({ (zcL a0) with Exit:=a1 }:Guest))]))
theorem zN3 (a0:Guest)(a1:GExit)(hc:zdL a0 a1=true):∃N,zC2 N a0 a1=some [aT .guest (zdi a0 a1)]:=by
 have hs:=zF.1 hc;refine ⟨0,?_⟩;unfold zC2 oN;refine mu ?_
 first|rfl|(simp only [*,zdi,stopped,cT,cF]<;>rfl)|simp_all[Ty.cells,zdi,stopped]
theorem zHD:vH 300 zx5:=kF2 zlJ zl zq zy (zx []) zN3
def zbY (g:Guest):Guest:=bif ige g.Pc 12 then { g with Pc:=12 } else { g with Pc:=zG .i64 g.Pc 1 }
@[simp] theorem zj5 {g:Guest}(h:SmG g):SmG (zbY g):=by
 unfold zbY;cases ige g.Pc 12<;>exact h
@[simp] abbrev zdI (g:Guest):Bool:=pc (SmG g)
@[simp] abbrev zfJ (g:Guest):Guest:=zbY g
def zDT:Run:=rF1 (dT .guest) fun b=>(zdI b,[aT .guest (zfJ b)])
def zL4 (N:Nat)(a0:Guest):OA:=
 (oN (zc2 a0) (cond (ige (zcL a0).Pc 12) (some [(aT .guest ({ (zcL a0) with Pc:=12 }:Guest))]) (some [(aT .guest ({ (zcL a0) with Pc:=(zG .i64 (zcL a0).Pc 1) }:Guest))])))
theorem zSP (a0:Guest)(hc:zdI a0=true):∃N,zL4 N a0=some [aT .guest (zfJ a0)]:=by
 have hs:=zF.1 hc;refine ⟨0,?_⟩;unfold zL4 oN;refine mu (br (fun _=>?_) (fun _=>?_))
 all_goals first|rfl|(simp only [*,zfJ,zbY,cT,cF]<;>rfl)|simp_all[Ty.cells,zfJ,zbY]
theorem zNu:vH 297 zDT:=kF1 zlJ zl zq zy (zx []) zSP
def z2c:zU:=[(268,zvT),(293,zvS),(295,zx7),(296,zMZ),(300,zx5),(297,zDT)]++z2a
theorem zic:zD z2c:=zh zE5 (zh zE4 (zh zHF (zh zSz (zh zHD (zh zNu zlJ)))))
def interrupted (g:Guest):Guest:=bif zhA g then saw { g with Pending:=ziW g.Pending } (zG .i64 100 (zrT g.Pending)) else g
@[simp] theorem zUs {g:Guest}(h:SmG g):SmG (interrupted g):=by
 unfold interrupted;cases zhA g
 .exact h
 .exact zLr (g:={ g with Pending:=ziW g.Pending }) _ h
@[simp] abbrev zno (g:Guest):Bool:=pc (SmG g)
@[simp] abbrev ziJ (g:Guest):Guest:=interrupted g
def zqB:Run:=rF1 (dT .guest) fun b=>(zno b,[aT .guest (ziJ b)])
def zsL (N:Nat)(a0:Guest):OA:=
 let y1:=(zG .i64 100 (zi7 a0.Pending));let y0:=({ a0 with Pending:=(zi6 a0.Pending) }:Guest); (oN (znv a0) (cond (nB (zkM a0)) (oN (zc2 a0) (some [(aT .guest (zcL a0))])) (oN (zpj a0.Pending) (oN (zBJ y0 y1) (some [(aT .guest (zxc y0 y1))])))))
theorem zCq (a0:Guest)(hc:zno a0=true):∃N,zsL N a0=some [aT .guest (ziJ a0)]:=by
 have hs:=zF.1 hc;have hz:_/\_/\_/\_:=hs
 refine ⟨0,?_⟩;unfold zsL oN nB
 conv=>zeta
 refine must rfl (brN (fun _=>mu ?_) (fun _=>must rfl (mu ?_)))
 all_goals first|rfl|(simp only [*,ziJ,interrupted,cT,cF]<;>rfl)|simp_all[Ty.cells,ziJ,interrupted]
theorem zyA:vH 253 zqB:=kF1 zic zl zq zy (zx []) zCq
def zvr (o:Int):Int:=bif ieq o 3 then 3 else (cond (ieq o 4) 4 (cond (ieq o 5) 5 (cond (ieq o 6) 6 (cond (ieq o 7) 7 2))))
def zM (g:Guest):Int:=bif canRun g then (cond (zhA g) 1 (zvr (zcb g.Prog g.Pc).Op)) else 0
@[simp] abbrev zek (g:Guest):Bool:=true
@[simp] abbrev zl0 (g:Guest):Int:=zM g
def zAJ:Run:=rF1 (dT .guest) fun b=>(zek b,[aI (zl0 b)])
def zGx (N:Nat)(a0:Guest):OA:=
 let y0:=(zfe a0.Prog a0.Pc).Op; (oN (zqT a0) (cond (nB (zom a0)) (some [(aI 0)]) (oN (znv a0) (cond (zkM a0) (some [(aI 1)]) (oN (ze0 a0.Prog a0.Pc) (cond (ieq y0 3) (some [(aI 3)]) (cond (ieq y0 4) (some [(aI 4)]) (cond (ieq y0 5) (some [(aI 5)]) (cond (ieq y0 6) (some [(aI 6)]) (cond (ieq y0 7) (some [(aI 7)]) (some [(aI 2)])))))))))))
theorem zQF (a0:Guest)(hc:zek a0=true):∃N,zGx N a0=some [aI (zl0 a0)]:=by
 refine ⟨0,?_⟩;unfold zGx oN nB
 conv=>zeta
 refine must rfl (brN (fun _=>?_) (fun _=>must rfl (br (fun _=>?_) (fun _=>must rfl (br (fun _=>?_) (fun _=>br (fun _=>?_) (fun _=>br (fun _=>?_) (fun _=>br (fun _=>?_) (fun _=>br (fun _=>?_) (fun _=>?_))))))))))
 all_goals first|rfl|(simp only [*,zl0,zM,zvr,cT,cF]<;>rfl)|simp_all[Ty.cells,zl0,zM,zvr]
theorem zb4:vH 252 zAJ:=kF1 zic zl zq zy (zx []) zQF
def held (g:Guest):Guest:=zbY { g with Halted:=true }
@[simp] theorem zRB {g:Guest}(h:SmG g):SmG (held g):=zj5 (g:={ g with Halted:=true }) h
@[simp] abbrev zlX (g:Guest):Bool:=pc (SmG g)
@[simp] abbrev zv1 (g:Guest):Guest:=held g
def zIN:Run:=rF1 (dT .guest) fun b=>(zlX b,[aT .guest (zv1 b)])
def zOY (N:Nat)(a0:Guest):OA:=
 let y0:=({ a0 with Halted:=true }:Guest); (oN (zdI y0) (some [(aT .guest (zfJ y0))]))
theorem zVM (a0:Guest)(hc:zlX a0=true):∃N,zOY N a0=some [aT .guest (zv1 a0)]:=by
 have hs:=zF.1 hc;have hz:_/\_/\_/\_:=hs
 refine ⟨0,?_⟩;unfold zOY oN
 conv=>zeta
 refine mu ?_
 first|rfl|(simp only [*,zv1,held,cT,cF]<;>rfl)|simp_all[Ty.cells,zv1,held]
theorem zPT:vH 309 zIN:=kF1 zic zl zq zy (zx []) zVM
@[simp] abbrev zxd (g:Guest):Bool:=pc (SmG g)
@[simp] abbrev zsn (g:Guest):Guest:=zbY g
def zAG:Run:=rF1 (dT .guest) fun b=>(zxd b,[aT .guest (zsn b)])
def zGu (N:Nat)(a0:Guest):OA:=
 (oN (zdI a0) (some [(aT .guest (zfJ a0))]))
theorem zQC (a0:Guest)(hc:zxd a0=true):∃N,zGu N a0=some [aT .guest (zsn a0)]:=by
 have hs:=zF.1 hc;refine ⟨0,?_⟩;unfold zGu oN;refine mu ?_
 first|rfl|(simp only [*,zsn,cT,cF]<;>rfl)|simp_all[Ty.cells,zsn]
theorem zKc:vH 302 zAG:=kF1 zic zl zq zy (zx []) zQC
def loaded (g:Guest)(v:Int):Guest:=zbY (saw { g with A:=v } v)
@[simp] theorem zI0 {g:Guest}(v:Int)(h:SmG g):SmG (loaded g v):=zj5 (zLr (g:={ g with A:=v }) v h)
@[simp] abbrev zw7 (g:Guest)(v:Int):Bool:=pc (SmG g)
@[simp] abbrev zsk (g:Guest)(v:Int):Guest:=loaded g v
def zAv:Run:=rF2 (dT .guest) dI fun b c=>(zw7 b c,[aT .guest (zsk b c)])
def zGk (N:Nat)(a0:Guest)(a1:Int):OA:=
 let y0:=({ a0 with A:=a1 }:Guest); (oN (zBJ y0 a1) (oN (zdI (zxc y0 a1)) (some [(aT .guest (zfJ (zxc y0 a1)))])))
theorem zQq (a0:Guest)(a1:Int)(hc:zw7 a0 a1=true):∃N,zGk N a0 a1=some [aT .guest (zsk a0 a1)]:=by
 have hs:=zF.1 hc;have hz:_/\_/\_/\_:=hs;have hk:SmG (saw { a0 with A:=a1 } a1):=zLr (g:={ a0 with A:=a1 }) a1 hs
 refine ⟨0,?_⟩;unfold zGk oN
 conv=>zeta
 refine mu (mu ?_)
 first|rfl|(simp only [*,zsk,loaded,cT,cF]<;>rfl)|simp_all[Ty.cells,zsk,loaded]
theorem zJ1:vH 303 zAv:=kF2 zic zl zq zy (zx []) zQq
def zUG (g:Guest)(w:Int):Guest:=bif ieq w 5 then stopped g (zvs (zcb g.Prog g.Pc).X) else stopped g ⟨4,0,false,0⟩
@[simp] theorem z5Q {g:Guest}(w:Int)(h:SmG g):SmG (zUG g w):=by
 unfold zUG;cases ieq w 5<;>exact h
def zcX (g:Guest):Bool:=zcU g.Prog&&(win g.A 0 99&&(win g.Pc 0 12&&(zco g.Written 4 8&&(zco g.Live 4 8&&(zgF g.Ctl&&(zcO g.Pending&&(zgr g.Exit&&ile (ln g.Seen) 40)))))))
@[simp] abbrev zli (g:Guest):Bool:=true
@[simp] abbrev zjR (g:Guest):Bool:=zcX g
def zxQ:Run:=rF1 (dT .guest) fun b=>(zli b,[aB (zjR b)])
def zCO (N:Nat)(a0:Guest):OA:=
 (oN (zxb a0.Prog) (cond (zlY a0.Prog) (oN (zJ a0.A 0 99) (cond (zL a0.A 0 99) (oN (zJ a0.Pc 0 12) (cond (zL a0.Pc 0 12) (oN (zlm a0.Written 4 8) (cond (zha a0.Written 4 8) (oN (zlm a0.Live 4 8) (cond (zha a0.Live 4 8) (oN (zpP a0.Ctl) (cond (zoo a0.Ctl) (oN (zeN a0.Pending) (cond (zeM a0.Pending) (oN (zw6 a0.Exit) (cond (zsd a0.Exit) (some [(aB (ile (ln a0.Seen) 40))]) oF)) oF)) oF)) oF)) oF)) oF)) oF)) oF))
theorem zNO (a0:Guest)(hc:zli a0=true):∃N,zCO N a0=some [aB (zjR a0)]:=by
 refine ⟨0,?_⟩;unfold zCO oN;refine must rfl (br (fun _=>must rfl (br (fun _=>must rfl (br (fun _=>must rfl (br (fun _=>must rfl (br (fun _=>must rfl (br (fun _=>must rfl (br (fun _=>must rfl (br (fun _=>?_) (fun _=>?_))) (fun _=>?_))) (fun _=>?_))) (fun _=>?_))) (fun _=>?_))) (fun _=>?_))) (fun _=>?_))) (fun _=>?_))
 all_goals first|rfl|(simp only [*,zjR,zcX,cT,cF]<;>rfl)|simp_all[Ty.cells,zjR,zcX]
theorem zHo:vH 214 zxQ:=kF1 zic zl zq zy (zx []) zNO
@[simp] abbrev zoN (g:Guest):Bool:=true
@[simp] abbrev zmc (g:Guest):Bool:=zcX g
def zxK:Run:=rF1 (dT .guest) fun b=>(zoN b,[aB (zmc b)])
def zCD (N:Nat)(a0:Guest):OA:=
 (oN (zwJ a0.Prog) (cond (zlN a0.Prog) (oN (zbS a0.A 0 99) (cond (zb7 a0.A 0 99) (oN (zbS a0.Pc 0 12) (cond (zb7 a0.Pc 0 12) (oN (zk8 a0.Written 4 8) (cond (zg0 a0.Written 4 8) (oN (zk8 a0.Live 4 8) (cond (zg0 a0.Live 4 8) (oN (zzF a0.Ctl) (cond (zvg a0.Ctl) (oN (zqL a0.Pending) (cond (zn2 a0.Pending) (oN (zwF a0.Exit) (cond (zrK a0.Exit) (some [(aB (ile (ln a0.Seen) 40))]) oF)) oF)) oF)) oF)) oF)) oF)) oF)) oF))
theorem zND (a0:Guest)(hc:zoN a0=true):∃N,zCD N a0=some [aB (zmc a0)]:=by
 refine ⟨0,?_⟩;unfold zCD oN;refine must rfl (br (fun _=>must rfl (br (fun _=>must rfl (br (fun _=>must rfl (br (fun _=>must rfl (br (fun _=>must rfl (br (fun _=>must rfl (br (fun _=>must rfl (br (fun _=>?_) (fun _=>?_))) (fun _=>?_))) (fun _=>?_))) (fun _=>?_))) (fun _=>?_))) (fun _=>?_))) (fun _=>?_))) (fun _=>?_))
 all_goals first|rfl|(simp only [*,zmc,zcX,cT,cF]<;>rfl)|simp_all[Ty.cells,zmc,zcX]
theorem zHi:vH 168 zxK:=kF1 zic zl zq zy (zx []) zND
@[simp] abbrev zkm (l:List Guest):Bool:=pc (zlG l)
@[simp] abbrev zjB (l:List Guest):List Guest:=l
def zr1:Run:=rF1 (dS .guest) fun b=>(zkm b,[aS .guest (zjB b)])
def zuP (N:Nat)(a0:lG):OA:=
 (iter (σ:=(Int×(Int×(lG×(lG×Unit))))) N (fun r2 s3=>let y0:=(ix s3.2.2.2.1 s3.2.1 zA); (cond (ilt s3.2.1 s3.1) (oN (inb s3.2.1 (ln s3.2.2.2.1)) (oN (ziD y0) (oN (few (ln (ap s3.2.2.1 [(zfh y0)]))) (r2 (s3.1,((zG .i64 s3.2.1 1),((ap s3.2.2.1 [(zfh y0)]),(s3.2.2.2.1,())))))))) (some [(aS .guest s3.2.2.1)]))) ((ln a0),(0,([],(a0,())))))
def zFQ:FuncId->Nat->Option Tmpl:=zx [(172,0,{ n:=20,tm:=[(3,.sl 0 []),(7,.sl 1 []),(8,ti),(9,ti)],lo:=[],ro:=[(0,.guest,true),(1,.guest,false)] })]
theorem zFk (a0:List Guest)(hc:zkm a0=true):∃N,zuP N a0=some [aS .guest (zjB a0)]:=by
 have hs:=zF.1 hc;have hl:=zcF hs.1;refine zb9 fun N hNN=>?_;unfold zuP oN
 conv=>zeta
 refine (zX a0 (fun i (t:lG)=>((ln a0),(i:Int),t,a0,())) _ (fun _ x acc κ=>bif ziD x then (cond (few (ln (ap acc [zfh x]))) (κ (ap acc [zfh x])) none) else none) (fun (t:lG)=>(some [(.one (.s .guest t))])) (fun i hi t rec=>?_) (fun t rec=>?_) _ ([]) (hNN hl.1)).trans ?_
 .simp only [zbs hi,zV hi,zbe hi,zQ hi hl.1,cT]
 .simp only [zbl,cF]
 exact zh9 ziD zfh _ a0 0 [] (fun x hx=>⟨by exact zbh (hs.2 x hx),rfl⟩) (by simpa using hl.2)
theorem zzv:vH 172 zr1:=kF1 zic zl zq zy zFQ zFk
def gAt (b:Bare)(i:Int):Guest:=bif hasB i (ln b.Guests) then ix b.Guests i zA else Ty.dflt .guest
@[simp] theorem ziQ {b:Bare}(i:Int)(h:SmB b):SmG (gAt b i):=by
 unfold gAt;cases hh:hasB i (ln b.Guests)
 .exact z6n
 .exact zYT h.2.1 hh _
def z2d:zU:=[(253,zqB),(252,zAJ),(309,zIN),(302,zAG),(303,zAv),(214,zxQ),(168,zxK),(172,zr1)]++z2c
theorem znV:zD z2d:=zh zyA (zh zb4 (zh zPT (zh zKc (zh zJ1 (zh zHo (zh zHi (zh zzv zic)))))))
def plainly (g:Guest):Guest:=bif ine (zM g) 2 then g else (cond (win g.A 0 99) (cond (win (zcb g.Prog g.Pc).X 0 99) (cond (ieq (zcb g.Prog g.Pc).Op 1) { zbY g with A:=(zcb g.Prog g.Pc).X } (cond (ieq (zcb g.Prog g.Pc).Op 2) { zbY g with A:=ziA (zG .i64 g.A (zcb g.Prog g.Pc).X) 100 } (cond (ieq (zcb g.Prog g.Pc).Op 8) (cond (ieq g.A 0) { zbY g with Pc:=(zcb g.Prog g.Pc).X } (zbY g)) (zbY g)))) (zbY g)) (zbY g))
@[simp] theorem z6g (g:Guest):(zbY g).Prog=g.Prog:=by
 unfold zbY;cases ige g.Pc 12<;>rfl
@[simp] theorem z6N (g:Guest):(zbY g).A=g.A:=by
 unfold zbY;cases ige g.Pc 12<;>rfl
@[simp] theorem z4N (g:Guest):(zbY g).Written=g.Written:=by
 unfold zbY;cases ige g.Pc 12<;>rfl
@[simp] theorem z6f (g:Guest):(zbY g).Live=g.Live:=by
 unfold zbY;cases ige g.Pc 12<;>rfl
@[simp] theorem z6v (g:Guest):(zbY g).Ctl=g.Ctl:=by
 unfold zbY;cases ige g.Pc 12<;>rfl
@[simp] theorem z4M (g:Guest):(zbY g).Pending=g.Pending:=by
 unfold zbY;cases ige g.Pc 12<;>rfl
@[simp] theorem z6e (g:Guest):(zbY g).Exit=g.Exit:=by
 unfold zbY;cases ige g.Pc 12<;>rfl
@[simp] theorem z5A (g:Guest):(zbY g).Halted=g.Halted:=by
 unfold zbY;cases ige g.Pc 12<;>rfl
@[simp] theorem z6h (g:Guest):(zbY g).Seen=g.Seen:=by
 unfold zbY;cases ige g.Pc 12<;>rfl
@[simp] theorem z6w (g:Guest)(x:Int):(zbY { g with A:=x }).Pc=(zbY g).Pc:=by
 unfold zbY;cases ige g.Pc 12<;>rfl
@[simp] theorem zD4 {g:Guest}(h:SmG g):SmG (plainly g):=by
 have hm:=zj5 h;unfold plainly;cases ine (zM g) 2
 .cases win g.A 0 99
  .exact hm
  .cases win (zcb g.Prog g.Pc).X 0 99
   .exact hm
   .cases ieq (zcb g.Prog g.Pc).Op 1
    .cases ieq (zcb g.Prog g.Pc).Op 2
     .cases ieq (zcb g.Prog g.Pc).Op 8
      .exact hm
      .cases ieq g.A 0<;>exact hm
     .exact hm
    .exact hm
 .exact h
@[simp] abbrev zuC (g:Guest):Bool:=pc (SmG g)
@[simp] abbrev zpT (g:Guest):Guest:=plainly g
def zx3:Run:=rF1 (dT .guest) fun b=>(zuC b,[aT .guest (zpT b)])
def zC0 (N:Nat)(a0:Guest):OA:=
 let y7:=(ieq a0.A 0);let y5:=(zdI a0);let y1:=(aT .guest (zfJ a0));let y0:=(zfe a0.Prog a0.Pc);let y8:=({ a0 with A:=y0.X }:Guest);let y6:=(ieq y0.Op 8);let y4:=(zL y0.X 0 99);let y3:=(aT .guest ({ (zcL a0) with Pc:=y0.X }:Guest));let y2:=({ a0 with A:=(ziA (zG .i64 a0.A y0.X) 100) }:Guest); (oN (zek a0) (cond (ine (zl0 a0) 2) (oN (zc2 a0) (some [(aT .guest (zcL a0))])) (oN (ze0 a0.Prog a0.Pc) (oN (zJ a0.A 0 99) (cond (zL a0.A 0 99) (oN (zJ y0.X 0 99) (cond y4 (cond (ieq y0.Op 1) (oN (zdI y8) (some [(aT .guest (zfJ y8))])) (cond y4 (cond (ieq y0.Op 2) (oN (ine 100 0) (oN (zdI y2) (some [(aT .guest (zfJ y2))]))) (cond y4 (cond y6 (cond y7 (oN (zc2 a0) (some [y3])) (oN y5 (some [y1]))) (oN y5 (some [y1]))) (oN y5 (some [y1])))) (cond y4 (cond y6 (cond y7 (oN (zc2 a0) (some [y3])) (oN y5 (some [y1]))) (oN y5 (some [y1]))) (oN y5 (some [y1]))))) (cond y4 (cond (ieq y0.Op 2) (oN (ine 100 0) (oN (zdI y2) (some [(aT .guest (zfJ y2))]))) (cond y4 (cond y6 (cond y7 (oN (zc2 a0) (some [y3])) (oN y5 (some [y1]))) (oN y5 (some [y1]))) (oN y5 (some [y1])))) (cond y4 (cond y6 (cond y7 (oN (zc2 a0) (some [y3])) (oN y5 (some [y1]))) (oN y5 (some [y1]))) (oN y5 (some [y1])))))) (oN y5 (some [y1])))))))
theorem zN1 (a0:Guest)(hc:zuC a0=true):∃N,zC0 N a0=some [aT .guest (zpT a0)]:=by
 have hs:=zF.1 hc;have hz:_/\_/\_/\_:=hs
 refine ⟨0,?_⟩;unfold zC0 oN
 conv=>zeta
 refine must rfl (br (fun _=>mu ?_) (fun _=>must rfl (must rfl (br (fun _=>must rfl (br (fun _=>br (fun _=>mu ?_) (fun _=>br (fun _=>br (fun _=>must rfl (mu ?_)) (fun _=>br (fun _=>br (fun _=>br (fun _=>mu ?_) (fun _=>mu ?_)) (fun _=>mu ?_)) (fun _=>mu ?_))) (fun _=>br (fun _=>br (fun _=>br (fun _=>mu ?_) (fun _=>mu ?_)) (fun _=>mu ?_)) (fun _=>mu ?_)))) (fun _=>br (fun _=>br (fun _=>must rfl (mu ?_)) (fun _=>br (fun _=>br (fun _=>br (fun _=>mu ?_) (fun _=>mu ?_)) (fun _=>mu ?_)) (fun _=>mu ?_))) (fun _=>br (fun _=>br (fun _=>br (fun _=>mu ?_) (fun _=>mu ?_)) (fun _=>mu ?_)) (fun _=>mu ?_))))) (fun _=>mu ?_)))))
 all_goals first|rfl|(simp only [*,zpT,plainly,cT,cF]<;>rfl)|simp_all[Ty.cells,zpT,plainly]
theorem zHB:vH 254 zx3:=kF1 znV zl zq zy (zx []) zN1
def address (g:Guest):Int:=bif ine (zM g) 3 then (cond (ine (zM g) 4) (-1) ((zcb g.Prog g.Pc).X)) else (zcb g.Prog g.Pc).X
@[simp] abbrev zo0 (g:Guest):Bool:=true
@[simp] abbrev zh3 (g:Guest):Int:=address g
def zxP:Run:=rF1 (dT .guest) fun b=>(zo0 b,[aI (zh3 b)])
def zCJ (N:Nat)(a0:Guest):OA:=
 (oN (zek a0) (cond (ine (zl0 a0) 3) (cond (ine (zl0 a0) 4) (some [(aI (-1))]) (oN (ze0 a0.Prog a0.Pc) (some [(aI (zfe a0.Prog a0.Pc).X)]))) (oN (ze0 a0.Prog a0.Pc) (some [(aI (zfe a0.Prog a0.Pc).X)]))))
theorem zNJ (a0:Guest)(hc:zo0 a0=true):∃N,zCJ N a0=some [aI (zh3 a0)]:=by
 refine ⟨0,?_⟩;unfold zCJ oN;refine must rfl (br (fun _=>br (fun _=>?_) (fun _=>must rfl ?_)) (fun _=>must rfl ?_))
 all_goals first|rfl|(simp only [*,zh3,address,cT,cF]<;>rfl)|simp_all[Ty.cells,zh3,address]
theorem zHn:vH 298 zxP:=kF1 znV zl zq zy (zx []) zNJ
def ziy (g:Guest)(t w:Int):Guest:=bif ieq w 6 then stopped g (zwh (zcb g.Prog g.Pc).X) else (cond (ieq w 5&&zgg t 1) (stopped g (zvs (zcb g.Prog g.Pc).X)) (cond (ieq w 7&&zgg t 2) (stopped g ⟨4,0,false,0⟩) (cond (ieq w 7) (held g) (zbY g))))
def ziz (t w:Int):Bool:=bif ieq w 6 then false else (cond (ieq w 5&&zgg t 1) false (cond (ieq w 7&&zgg t 2) false true))
@[simp] theorem zA1 {g:Guest}(t w:Int)(h:SmG g):SmG (ziy g t w):=by
 unfold ziy;cases ieq w 6
 .cases (ieq w 5&&zgg t 1)
  .cases (ieq w 7&&zgg t 2)
   .cases ieq w 7
    .exact zj5 h
    .exact zRB h
   .exact h
  .exact h
 .exact h
@[simp] abbrev zdy (g:Guest)(t w:Int):Bool:=pc (SmG g)
@[simp] abbrev zb2 (g:Guest)(t w:Int):Guest:=ziy g t w
@[simp] abbrev zc3 (g:Guest)(t w:Int):Bool:=ziz t w
def zyc:Run:=rF3 (dT .guest) dI dI fun b c d=>(zdy b c d,[aT .guest (zb2 b c d),aB (zc3 b c d)])
def zC9 (N:Nat)(a0:Guest)(a1 a2:Int):OA:=
 let y3:=(aT .guest (zfJ a0));let y2:=(aT .guest (zv1 a0));let y1:=(⟨4,0,false,0⟩:GExit);let y0:=(zfe a0.Prog a0.Pc).X; (oN (ze0 a0.Prog a0.Pc) (cond (ieq a2 6) (oN (zsb y0) (oN (zdL a0 (zkA y0)) (some [(aT .guest (zdi a0 (zkA y0))),(aB false)]))) (cond (ieq a2 5) (oN (zhw a1 1) (cond (zg8 a1 1) (oN (zuA y0) (oN (zdL a0 (zmi y0)) (some [(aT .guest (zdi a0 (zmi y0))),(aB false)]))) (cond (ieq a2 7) (oN (zhw a1 2) (cond (zg8 a1 2) (oN (zdL a0 y1) (some [(aT .guest (zdi a0 y1)),(aB false)])) (cond (ieq a2 7) (oN (zlX a0) (some [y2,(aB true)])) (oN (zdI a0) (some [y3,(aB true)]))))) (cond (ieq a2 7) (oN (zlX a0) (some [y2,(aB true)])) (oN (zdI a0) (some [y3,(aB true)])))))) (cond (ieq a2 7) (oN (zhw a1 2) (cond (zg8 a1 2) (oN (zdL a0 y1) (some [(aT .guest (zdi a0 y1)),(aB false)])) (cond (ieq a2 7) (oN (zlX a0) (some [y2,(aB true)])) (oN (zdI a0) (some [y3,(aB true)]))))) (cond (ieq a2 7) (oN (zlX a0) (some [y2,(aB true)])) (oN (zdI a0) (some [y3,(aB true)])))))))
theorem zOd (a0:Guest)(a1 a2:Int)(hc:zdy a0 a1 a2=true):∃N,zC9 N a0 a1 a2=some [aT .guest (zb2 a0 a1 a2),aB (zc3 a0 a1 a2)]:=by
 have hs:=zF.1 hc;refine ⟨0,?_⟩;unfold zC9 oN
 conv=>zeta
 refine must rfl (br (fun _=>must rfl (mu ?_)) (fun _=>br (fun _=>must rfl (br (fun _=>must rfl (mu ?_)) (fun _=>br (fun _=>must rfl (br (fun _=>mu ?_) (fun _=>br (fun _=>mu ?_) (fun _=>mu ?_)))) (fun _=>br (fun _=>mu ?_) (fun _=>mu ?_))))) (fun _=>br (fun _=>must rfl (br (fun _=>mu ?_) (fun _=>br (fun _=>mu ?_) (fun _=>mu ?_)))) (fun _=>br (fun _=>mu ?_) (fun _=>mu ?_)))))
 all_goals first|rfl|(simp only [*,zb2,zc3,ziy,ziz,cT,cF]<;>rfl)|simp_all[Ty.cells,zb2,zc3,ziy,ziz]
theorem zHN:vH 305 zyc:=kF3 znV zl zq zy (zx []) zOd
def zbW (b:Bare):Bool:=bif b.Guests.all zcX then (zgG b.Memory 8&&(win (ln b.Guests) 1 2&&(ile (ln b.Outs) 40&&zcO b.Pending))) else false
@[simp] abbrev znb (b:Bare):Bool:=true
@[simp] abbrev zep (b:Bare):Bool:=zbW b
def zAn:Run:=rF1 (dT .bare) fun b=>(znb b,[aB (zep b)])
def zGc (N:Nat)(a0:Bare):OA:=
 (iter (σ:=(Int×(Int×(lM×(lG×((List Int)×Unit)))))) N (fun r2 s3=>let y0:=s3.2.2.2.1; (cond (ilt s3.1 (ln y0)) (oN (inb s3.1 (ln y0)) (oN (zli (ix y0 s3.1 zA)) (cond (nB (zjR (ix y0 s3.1 zA))) oF (r2 ((zG .i64 s3.1 1),(s3.2.1,(s3.2.2.1,(y0,(s3.2.2.2.2.1,()))))))))) (oN (zpR s3.2.2.1 8) (cond (zkK s3.2.2.1 8) (oN (zJ (ln y0) 1 2) (cond (zL (ln y0) 1 2) (cond (ile (ln s3.2.2.2.2.1) 40) (oN (zeN s3.2.1) (some [(aB (zeM s3.2.1))])) oF) oF)) oF)))) (0,(a0.Pending,(a0.Memory,(a0.Guests,(a0.Outs,()))))))
def zRX:FuncId->Nat->Option Tmpl:=zx [(312,0,{ n:=38,tm:=[(1,.lp 0 0),(3,ti)],lo:=[(0,[.sl 0 [],.sl 1 [],.sl 2 [],ti])],ro:=[(0,(.sl .int),false),(1,.guest,false),(2,.int,false)] })]
theorem zQi (a0:Bare)(hb:zbQ big [aT .bare a0])(hc:znb a0=true):∃N,zGc N a0=some [aB (zep a0)]:=by
 have hl:(_:List _).length<=big:=((zcn hb).1 (.s .guest a0.Guests) (by simp[AV.cvs,Ty.cells])).len
 refine zb9 fun N hNN=>?_;unfold zGc oN nB
 conv=>zeta
 refine (zX a0.Guests (fun i (t:Unit)=>((i:Int),a0.Pending,a0.Memory,a0.Guests,a0.Outs,())) _ (fun _ x (_:Unit) κ=>bif (zcX) x then κ () else oF) (fun (t:Unit)=>(cond (zpR a0.Memory 8) (cond (zkK a0.Memory 8) (cond (zJ (ln a0.Guests) 1 2) (cond (zL (ln a0.Guests) 1 2) (cond (ile (ln a0.Outs) 40) (cond (zeN a0.Pending) (some [(.one (.b (zeM a0.Pending)))]) none) oF) oF) none) oF) none)) (fun i hi t rec=>?_) (fun t rec=>?_) _ () (hNN hl)).trans ?_
 .simp only [zbs hi,zV hi,zbe hi,zQ hi hl,cT];exact zh8 rfl
 .simp only [zbl,cF]
 rw[ze7 (zcX)];refine br (fun h0=>?_) (fun h0=>?_)
 .refine must rfl ?_;refine br (fun h1=>?_) (fun h1=>?_)
  .refine must rfl ?_;refine br (fun h2=>?_) (fun h2=>?_)
   .refine br (fun h3=>?_) (fun h3=>?_)
    .refine must rfl ?_
     first|rfl|(simp only [h0,h1,h2,h3,zep,zbW,cT,cF]<;>rfl)|(simp_all [Ty.cells,zep,zbW];done)
    .first|rfl|(simp only [h0,h1,h2,h3,zep,zbW,cT,cF]<;>rfl)|(simp_all [Ty.cells,zep,zbW];done)
   .first|rfl|(simp only [h0,h1,h2,zep,zbW,cT,cF]<;>rfl)|(simp_all [Ty.cells,zep,zbW];done)
  .first|rfl|(simp only [h0,h1,zep,zbW,cT,cF]<;>rfl)|(simp_all [Ty.cells,zep,zbW];done)
 .first|rfl|(simp only [h0,zep,zbW,cT,cF]<;>rfl)|(simp_all [Ty.cells,zep,zbW];done)
theorem zJT:vH 312 zAn:=hF1 znV zl zq zy zRX zQi
@[simp] abbrev zez (b:Bare):Bool:=pc (SmB b)
@[simp] abbrev zca (b:Bare):Bare:=b
def zyb:Run:=rF1 (dT .bare) fun b=>(zez b,[aT .bare (zca b)])
def zC8 (N:Nat)(a0:Bare):OA:=
 (oN (zfj a0.Memory) (oN (ze2 a0.Guests) (oN (few (ln (ap [] a0.Outs))) (some [(aT .bare (⟨(zd4 a0.Memory),(zfm a0.Guests),(ap [] a0.Outs),a0.Pending⟩:Bare))]))))
theorem zOc (a0:Bare)(hc:zez a0=true):∃N,zC8 N a0=some [aT .bare (zca a0)]:=by
 have hs:=zF.1 hc;have hz:_/\_/\_:=hs
 refine ⟨0,?_⟩;unfold zC8 oN;refine mu (mu (mu ?_))
 first|rfl|(simp only [*,zca,cT,cF]<;>rfl)|simp_all[Ty.cells,zca]
theorem zHM:vH 306 zyb:=kF1 znV zl zq zy (zx []) zOc
def z2e:zU:=[(254,zx3),(298,zxP),(305,zyc),(312,zAn),(306,zyb)]++z2d
theorem zZZ:zD z2e:=zh zHB (zh zHn (zh zHN (zh zJT (zh zHM znV))))
def zdV (b:Bare)(i:Int)(x:Guest):Bare:={ b with Guests:=up b.Guests i x }
def zmY (b:Bare)(n:Int):Bare:=bif ilt (ln b.Outs) 40 then { b with Outs:=ap b.Outs [n] } else b
@[simp] theorem zl3 {b:Bare}{i:Int}{x:Guest}(h:SmB b)(hx:SmG x):SmB (zdV b i x):=⟨h.1,zBM h.2.1 hx,h.2.2⟩
@[simp] theorem zWv {b:Bare}{n:Int}(h:SmB b):SmB (zmY b n):=by
 unfold zmY;cases h1:ilt (ln b.Outs) 40
 .exact h
 .have:=qE h1;refine ⟨h.1,h.2.1,?_⟩;simp[ln] at *;omega
@[simp] theorem z6G (b:Bare)(n:Int):(zmY b n).Guests=b.Guests:=by
 unfold zmY;cases ilt (ln b.Outs) 40<;>rfl
@[simp] theorem zxm {m:List (List Int)}{p c v:Int}(h:SmM m):SmM (zbw m p c v):=by
 unfold zbw;cases h1:zg3 m p c
 .exact h
 .cases h2:win v 0 99
  .exact h
  .exact zI2 h (by simpa using z5I h ((zwT m p c).1 h1).1 [])
def zU6:zU:=z2e
theorem zrv:zD zU6:=zZZ
def zmp (b:Bare)(g:Int)(x:Guest)(w:Bool):Bare :=
 bif zeT x.Live (zbb (address x)) (zbZ w) then
  (bif w then zdV { b with Memory:=zbw b.Memory (zcm x.Live (zbb (address x)) (zbZ w)) (zcV (address x)) x.A } g (zbY x)
  else zdV b g (loaded x (cellAt b.Memory (zcm x.Live (zbb (address x)) (zbZ w)) (zcV (address x)))))
 else zdV b g (stopped x (zpz (zbb (address x)) w))
def zBN (b:Bare)(g:Int)(x:Guest)(w:Int):Bare :=
 zdV (cond (cond (ziz x.Ctl.Traps w) (ieq w 5) false) (zmY b (zcb x.Prog x.Pc).X) b) g (ziy x x.Ctl.Traps w)
def stepped (b:Bare)(g:Int)(x:Guest)(w:Int):Bare :=
 bif ieq w 1 then zdV b g (interrupted x) else (cond (ieq w 2) (zdV b g (plainly x)) (cond (ieq w 3) (zmp b g x false) (cond (ieq w 4) (zmp b g x true) (zBN b g x w))))
def zkd (b:Bare)(g:Int):Bool:=bif hasB g (ln b.Guests) then (cond (zbW b) (!ieq (zM (gAt b g)) 0) false) else false
def zhi (b:Bare)(g:Int):Bare:=bif zkd b g then stepped b g (gAt b g) (zM (gAt b g)) else b
@[simp] theorem zUr {b:Bare}{g:Int}{x:Guest}{w:Bool}(h:SmB b)(hx:SmG x):SmB (zmp b g x w):=by
 unfold zmp;cases zeT x.Live (zbb (address x)) (zbZ w)
 .exact zl3 h hx
 .cases w
  .exact zl3 h (zI0 _ hx)
  .exact ⟨zxm h.1,zBM h.2.1 (zj5 hx),h.2.2⟩
@[simp] theorem z4D {b:Bare}{g:Int}{x:Guest}{w:Int}(h:SmB b)(hx:SmG x):SmB (zBN b g x w):=by
 unfold zBN;cases (cond (ziz x.Ctl.Traps w) (ieq w 5) false)
 .exact zl3 h (zA1 _ _ hx)
 .exact zl3 (zWv h) (zA1 _ _ hx)
@[simp] theorem zTw {b:Bare}{g:Int}{x:Guest}{w:Int}(h:SmB b)(hx:SmG x):SmB (stepped b g x w):=by
 unfold stepped;cases ieq w 1
 .cases ieq w 2
  .cases ieq w 3
   .cases ieq w 4
    .exact z4D h hx
    .exact zUr h hx
   .exact zUr h hx
  .exact zl3 h (zD4 hx)
 .exact zl3 h (zUs hx)
@[simp] theorem z6I {b:Bare}{g:Int}(h:SmB b):SmB (zhi b g):=by
 unfold zhi;cases zkd b g
 .exact h
 .exact zTw h (ziQ g h)
theorem z6r (x:Guest):ieq (zM x) 0=false->ieq (zM x) 1=false->ieq (zM x) 2=false->ieq (zM x) 3=false->ieq (zM x) 4=false->ieq (zM x) 5=false->ieq (zM x) 6=false->ieq (zM x) 7=true:=by
 unfold zM zvr;cases canRun x
 .intro h;cases h
 .cases zhA x
  .simp only [cT,cF];generalize (zcb x.Prog x.Pc).Op=o;cases ieq o 3<;>cases ieq o 4<;>cases ieq o 5<;>cases ieq o 6<;>cases ieq o 7<;>simp [ieq]
  .intro _ h;cases h
def SmK (k:Kept):Prop:=k.Known.length<=1048576/\k.Slots.length<=1048576
def zy5 (l:List Kept):Prop:=l.length<=1048576/\∀x∈l,SmK x
def ze4 (m:Mon):Prop:=m.Outer.length<=1048576/\SmM m.Out/\m.Dirty.length<=1048576/\zlG m.Guests/\m.Outs.length<=1048576/\zy5 m.Tables
def zpt (l:List Mon):Prop:=l.length<=1048576/\∀x∈l,ze4 x
def SmH (h:Host):Prop:=SmM h.Memory/\zpt h.Mons/\h.Buffer.length<=1048576/\h.IoBuffer.length<=1048576
@[simp] theorem zuY (k:Kept):(∀c∈Ty.cells .kept k,CVB sm c)↔SmK k:=by simp[Ty.cells,SmK,z08]
@[simp] theorem zZ7 (l:List Kept):CVB sm (.s .kept l)↔zy5 l:=by rw[zkg];simp only[zuY];rfl
@[simp] theorem zTR (m:Mon):(∀c∈Ty.cells .mon m,CVB sm c)↔ze4 m:=by
 simp only[Ty.cells,qG,qY,or_false,vD,forall_eq,znW,zsS,zZ7,zVf,zSq,zSp,z2r,and_true,true_and];rfl
@[simp] theorem z3z (l:List Mon):CVB sm (.s .mon l)↔zpt l:=by rw[zkg];simp only[zTR];rfl
@[simp] theorem zN (h:Host):zbI h↔SmH h:=by
 unfold zbI;simp only[zbc,qG,qY,or_false,vD,forall_eq,znW,z3z,zPx];rfl
theorem zby {p:Prop}(h:p):pc p=true:=zbh h
theorem zv6 {l:List Kept}{i:Int}{x:Kept}(h:zy5 l)(hx:SmK x):zy5 (up l i x):=by
 refine ⟨by simpa using h.1,fun y hy=>?_⟩
 rcases qZ hy with hy|rfl
 .exact h.2 y hy
 .exact hx
theorem zh7 {l:List Mon}{i:Int}{x:Mon}(h:zpt l)(hx:ze4 x):zpt (up l i x):=by
 refine ⟨by simpa using h.1,fun y hy=>?_⟩
 rcases qZ hy with hy|rfl
 .exact h.2 y hy
 .exact hx
theorem zma {α:Type}{l:List α}(h:l.length<=1048576):few (ln (ap [] l))=true:=by
 rw[zgT,z3I];omega
@[simp] abbrev zbD (h:Host):Bool:=pc (zbI h)
@[simp] abbrev zk (h:Host):Host:=h
def zyd:Run:=rF1 dH fun b=>(zbD b,[aH (zk b)])
def zDa (N:Nat)(a0:Host):OA:=
 (oN (zfj a0.Memory) (oN (few (ln (ap [] a0.Buffer))) (oN (few (ln (ap [] a0.IoBuffer))) (iter (σ:=(Int×(lM×(lN×(lE×(lE×(lM×(lN×(lE×(lE×(lM×(lN×(lE×(lE×Unit)))))))))))))) N (fun r2 s3=>let y2:=s3.2.2.2.2.2.2.2.2.2.2.2.2.1;let y1:=(ix s3.2.2.1 s3.1 zf);let y0:=(ap s3.2.2.2.2.2.2.2.2.2.2.1 [(zox y1)]); (cond (ilt s3.1 (ln s3.2.2.1)) (oN (inb s3.1 (ln s3.2.2.1)) (oN (znB y1) (oN (few (ln y0)) (r2 ((zG .i64 s3.1 1),(s3.2.1,(s3.2.2.1,(s3.2.2.2.1,(s3.2.2.2.2.1,(s3.2.2.2.2.2.1,(s3.2.2.2.2.2.2.1,(s3.2.2.2.2.2.2.2.1,(s3.2.2.2.2.2.2.2.2.1,(s3.2.2.2.2.2.2.2.2.2.1,(y0,(s3.2.2.2.2.2.2.2.2.2.2.2.1,(y2,()))))))))))))))))) (some [(aH (⟨s3.2.2.2.2.2.2.2.2.2.1,s3.2.2.2.2.2.2.2.2.2.2.1,s3.2.2.2.2.2.2.2.2.2.2.2.1,y2⟩:Host))]))) (0,(a0.Memory,(a0.Mons,(a0.Buffer,(a0.IoBuffer,([],([],([],([],((zd4 a0.Memory),([],((ap [] a0.Buffer),((ap [] a0.IoBuffer),())))))))))))))))))
def zOA:FuncId->Nat->Option Tmpl:=zx [(35,0,{ n:=36,tm:=[(1,.lp 0 0),(2,.lp 1 0),(3,.lp 2 0),(4,ti)],lo:=[(0,[.sl 0 [],.sl 1 [],.sl 2 [],.sl 3 []]),(1,[.sl 4 [],.sl 5 [],.sl 6 [],.sl 7 []]),(2,[.sl 8 [],.sl 9 [],.sl 10 [],.sl 11 []])],ro:=[(0,(.sl .int),false),(1,.mon,false),(2,.entry,false),(3,.entry,false),(4,(.sl .int),true),(5,.mon,true),(6,.entry,true),(7,.entry,true),(8,(.sl .int),true),(9,.mon,true),(10,.entry,true),(11,.entry,true)] })]
theorem zOe (a0:Host)(hc:zbD a0=true):∃N,zDa N a0=some [aH (zk a0)]:=by
 obtain ⟨h1,h2,h3,h4⟩:=(zN a0).1 (zF.1 hc);have hl:=zcF h2.1;refine zb9 fun N hNN=>?_;unfold zDa oN
 conv=>zeta
 refine must (zby ((znW _).2 h1)) (must (zma h3) (must (zma h4) ?_));refine (zX a0.Mons (fun i (t:lN)=>((i:Int),a0.Memory,a0.Mons,a0.Buffer,a0.IoBuffer,[],[],[],[],(zd4 a0.Memory),t,(ap [] a0.Buffer),(ap [] a0.IoBuffer),())) _ (fun _ x acc κ=>bif znB x then (cond (few (ln (ap acc [zox x]))) (κ (ap acc [zox x])) none) else none) (fun (t:lN)=>(some [(.agg (zbc (⟨(zd4 a0.Memory),t,(ap [] a0.Buffer),(ap [] a0.IoBuffer)⟩:Host)))])) (fun i hi t rec=>?_) (fun t rec=>?_) _ ([]) (hNN hl.1)).trans ?_
 .simp only [zbs hi,zV hi,zbe hi,zQ hi hl.1,cT]
 .simp only [zbl,cF]
 exact zh9 znB zox _ a0.Mons 0 [] (fun x hx=>⟨zby ((zTR x).2 (h2.2 x hx)),rfl⟩) (by simpa using hl.2)
theorem zHO:vH 35 zyd:=kF1 zrv zl zq zy zOA zOe
@[simp] abbrev zgw (k:Kept):Bool:=pc (SmK k)
@[simp] abbrev zdn (k:Kept):Kept:=k
def zvD:Run:=rF1 (dT .kept) fun b=>(zgw b,[aT .kept (zdn b)])
def zyJ (N:Nat)(a0:Kept):OA:=
 (oN (few (ln (ap [] a0.Known))) (oN (zfN a0.Slots) (some [(aT .kept (⟨(ap [] a0.Known),(zex a0.Slots)⟩:Kept))])))
theorem zKC (a0:Kept)(hc:zgw a0=true):∃N,zyJ N a0=some [aT .kept (zdn a0)]:=by
 have hs:=zF.1 hc;obtain ⟨h1,h2⟩:=hs;have hs1:a0.Known.length<=2147483648:=(by omega);have hs2:a0.Slots.length<=2147483648:=(by omega)
 refine ⟨0,?_⟩;unfold zyJ oN;refine mu (mu ?_)
 first|rfl|(simp only [*,zdn,cT,cF]<;>rfl)|simp_all[Ty.cells,zdn]
theorem zEO:vH 151 zvD:=kF1 zrv zl zq zy (zx []) zKC
def z1W:zU:=[(35,zyd),(151,zvD)]++zU6
theorem zPs:zD z1W:=zh zHO (zh zEO zrv)
@[simp] abbrev zk9 (m:Mon):Bool:=pc (ze4 m)
@[simp] abbrev zmd (m:Mon):Mon:=m
def zxN:Run:=rF1 (dT .mon) fun b=>(zk9 b,[aT .mon (zmd b)])
def zCH (N:Nat)(a0:Mon):OA:=
 (oN (zfN a0.Outer) (oN (zho a0.Out) (oN (few (ln (ap [] a0.Dirty))) (oN (zkm a0.Guests) (oN (zdr a0.Outs) (iter (σ:=(Int×(Int×(Int×(Int×(Int×(Int×(Int×(Int×(lK×(lK×(lS×(lM×(lB×(lG×((List Int)×(lS×(lM×(lB×(lG×((List Int)×(lK×Unit)))))))))))))))))))))) N (fun r2 s3=>let y5:=s3.2.2.2.2.2.2.2.2.2.2.2.2.1;let y4:=s3.2.2.2.2.2.2.2.2.2.2.2.2.2.1;let y3:=s3.2.2.2.2.2.2.2.2.2.2.2.2.2.2.1;let y2:=s3.2.2.2.2.2.2.2.2.1;let y1:=s3.2.2.2.2.2.2.2.2.2.1;let y0:=(ix y1 s3.2.1 zdd); (cond (ilt s3.2.1 s3.1) (oN (inb s3.2.1 (ln y1)) (oN (zgw y0) (oN (few (ln (ap y2 [(zdn y0)]))) (r2 (s3.1,((zG .i64 s3.2.1 1),(s3.2.2.1,(s3.2.2.2.1,(s3.2.2.2.2.1,(s3.2.2.2.2.2.1,(s3.2.2.2.2.2.2.1,(s3.2.2.2.2.2.2.2.1,((ap y2 [(zdn y0)]),(y1,(s3.2.2.2.2.2.2.2.2.2.2.1,(s3.2.2.2.2.2.2.2.2.2.2.2.1,(y5,(y4,(y3,(s3.2.2.2.2.2.2.2.2.2.2.2.2.2.2.2.1,(s3.2.2.2.2.2.2.2.2.2.2.2.2.2.2.2.2.1,(s3.2.2.2.2.2.2.2.2.2.2.2.2.2.2.2.2.2.1,(s3.2.2.2.2.2.2.2.2.2.2.2.2.2.2.2.2.2.2.1,(s3.2.2.2.2.2.2.2.2.2.2.2.2.2.2.2.2.2.2.2.1,(s3.2.2.2.2.2.2.2.2.2.2.2.2.2.2.2.2.2.2.2.2.1,()))))))))))))))))))))))))) (some [(aT .mon (⟨s3.2.2.2.2.2.2.2.2.2.2.1,s3.2.2.2.2.2.2.2.2.2.2.2.1,y5,y4,y3,s3.2.2.1,s3.2.2.2.1,y2,s3.2.2.2.2.1⟩:Mon))]))) ((ln a0.Tables),(0,(a0.Pending,(a0.Traps,(a0.Own,(0,(0,(0,([],(a0.Tables,((zex a0.Outer),((zeY a0.Out),((ap [] a0.Dirty),((zjB a0.Guests),((zdm a0.Outs),([],([],([],([],([],([],())))))))))))))))))))))))))))
def zOv:FuncId->Nat->Option Tmpl:=zx [(115,0,{ n:=44,tm:=[(1,.lp 0 0),(2,.lp 1 0),(3,.sl 0 []),(29,.sl 1 []),(30,ti),(31,ti)],lo:=[(0,[.sl 2 [],.sl 3 [],.sl 4 [],.sl 5 [],.sl 6 [],ti,ti,.sl 1 [],ti]),(1,[.sl 7 [],.sl 8 [],.sl 9 [],.sl 10 [],.sl 11 [],ti,ti,.sl 12 [],ti])],ro:=[(0,.kept,true),(1,.kept,false),(2,.slot,true),(3,(.sl .int),true),(4,.bool,true),(5,.guest,true),(6,.int,true),(7,.slot,true),(8,(.sl .int),true),(9,.bool,true),(10,.guest,true),(11,.int,true),(12,.kept,true)] })]
theorem zNH (a0:Mon)(hc:zk9 a0=true):∃N,zCH N a0=some [aT .mon (zmd a0)]:=by
 obtain ⟨h1,h2,h3,h4,h5,h6⟩:=zF.1 hc;have hl:=zcF h6.1;refine zb9 fun N hNN=>?_;unfold zCH oN
 conv=>zeta
 have c1:zfN a0.Outer=true:=by simp;omega
 have c2:zho a0.Out=true:=by simp;exact h2
 have c4:zkm a0.Guests=true:=by simp;exact h4
 have c5:zdr a0.Outs=true:=by simp;omega
 refine must c1 (must c2 (must (zma h3) (must c4 (must c5 ?_))));refine (zX a0.Tables (fun i (t:lK)=>((ln a0.Tables),(i:Int),a0.Pending,a0.Traps,a0.Own,0,0,0,t,a0.Tables,(zex a0.Outer),(zeY a0.Out),(ap [] a0.Dirty),(zjB a0.Guests),(zdm a0.Outs),[],[],[],[],[],[],())) _ (fun _ x acc κ=>bif zgw x then (cond (few (ln (ap acc [zdn x]))) (κ (ap acc [zdn x])) none) else none) (fun (t:lK)=>(some [(.agg (Ty.cells .mon (⟨(zex a0.Outer),(zeY a0.Out),(ap [] a0.Dirty),(zjB a0.Guests),(zdm a0.Outs),a0.Pending,a0.Traps,t,a0.Own⟩:Mon)))])) (fun i hi t rec=>?_) (fun t rec=>?_) _ ([]) (hNN hl.1)).trans ?_
 .simp only [zbs hi,zV hi,zbe hi,zQ hi hl.1,cT]
 .simp only [zbl,cF]
 exact zh9 zgw zdn _ a0.Tables 0 [] (fun x hx=>⟨zby (h6.2 x hx),rfl⟩) (by simpa using hl.2)
theorem zHl:vH 115 zxN:=kF1 zPs zl zq zy zOv zNH
def z1X:zU:=[(115,zxN)]++z1W
theorem zwl:zD z1X:=zh zHl zPs
@[simp] abbrev zrR (h:Host):Bool:=pc (zbI h)
@[simp] abbrev zkn (h:Host):Host:=h
def zvB:Run:=rF1 dH fun b=>(zrR b,[aH (zkn b)])
def zyH (N:Nat)(a0:Host):OA:=
 (oN (zho a0.Memory) (oN (few (ln (ap [] a0.Buffer))) (oN (few (ln (ap [] a0.IoBuffer))) (iter (σ:=(Int×(Int×(lN×(lM×(lN×(lE×(lE×(lM×(lN×(lE×(lE×Unit)))))))))))) N (fun r2 s3=>let y1:=(ix s3.2.2.1 s3.2.1 zf);let y0:=(ap s3.2.2.2.2.2.2.2.2.1 [(zmd y1)]); (cond (ilt s3.2.1 s3.1) (oN (inb s3.2.1 (ln s3.2.2.1)) (oN (zk9 y1) (oN (few (ln y0)) (r2 (s3.1,((zG .i64 s3.2.1 1),(s3.2.2.1,(s3.2.2.2.1,(s3.2.2.2.2.1,(s3.2.2.2.2.2.1,(s3.2.2.2.2.2.2.1,(s3.2.2.2.2.2.2.2.1,(y0,(s3.2.2.2.2.2.2.2.2.2.1,(s3.2.2.2.2.2.2.2.2.2.2.1,()))))))))))))))) (some [(aH (⟨s3.2.2.2.2.2.2.2.1,s3.2.2.2.2.2.2.2.2.1,s3.2.2.2.2.2.2.2.2.2.1,s3.2.2.2.2.2.2.2.2.2.2.1⟩:Host))]))) ((ln a0.Mons),(0,(a0.Mons,([],([],([],([],((zeY a0.Memory),([],((ap [] a0.Buffer),((ap [] a0.IoBuffer),())))))))))))))))
def zLA:FuncId->Nat->Option Tmpl:=zx [(48,0,{ n:=34,tm:=[(2,.lp 0 0),(3,.lp 1 0),(19,.sl 0 []),(20,ti),(21,ti)],lo:=[(0,[.sl 1 [],.sl 2 [],.sl 3 [],.sl 4 []]),(1,[.sl 5 [],.sl 6 [],.sl 7 [],.sl 8 []])],ro:=[(0,.mon,false),(1,(.sl .int),true),(2,.mon,true),(3,.entry,true),(4,.entry,true),(5,(.sl .int),true),(6,.mon,true),(7,.entry,true),(8,.entry,true)] })]
theorem zKA (a0:Host)(hc:zrR a0=true):∃N,zyH N a0=some [aH (zkn a0)]:=by
 obtain ⟨h1,h2,h3,h4⟩:=(zN a0).1 (zF.1 hc);have hl:=zcF h2.1;refine zb9 fun N hNN=>?_;unfold zyH oN
 conv=>zeta
 have c1:zho a0.Memory=true:=by simp;exact h1
 refine must c1 (must (zma h3) (must (zma h4) ?_));refine (zX a0.Mons (fun i (t:lN)=>((ln a0.Mons),(i:Int),a0.Mons,[],[],[],[],(zeY a0.Memory),t,(ap [] a0.Buffer),(ap [] a0.IoBuffer),())) _ (fun _ x acc κ=>bif zk9 x then (cond (few (ln (ap acc [zmd x]))) (κ (ap acc [zmd x])) none) else none) (fun (t:lN)=>(some [(.agg (zbc (⟨(zeY a0.Memory),t,(ap [] a0.Buffer),(ap [] a0.IoBuffer)⟩:Host)))])) (fun i hi t rec=>?_) (fun t rec=>?_) _ ([]) (hNN hl.1)).trans ?_
 .simp only [zbs hi,zV hi,zbe hi,zQ hi hl.1,cT]
 .simp only [zbl,cF]
 exact zh9 zk9 zmd _ a0.Mons 0 [] (fun x hx=>⟨zby (h2.2 x hx),rfl⟩) (by simpa using hl.2)
theorem zEM:vH 48 zvB:=kF1 zwl zl zq zy zLA zKA
def allI {α:Type}(p:Nat->α->Bool):List α->Nat->Bool
 | [],_=>true
 | x :: l,i=>p i x&&allI p l (i+1)
theorem zEE {α ρ:Type}(p:Nat->α->Bool)(r:Option ρ)(K:Unit->Option ρ):∀(l:List α) (i:Nat),goL (fun i x (_:Unit) k=>bif p i x then k () else r) K l i ()=bif allI p l i then K () else r
 | [],_=>rfl
 | x :: l,i=>by
  simp only[goL,allI];cases p i x
  .rfl
  .simp only [cT,Bool.true_and];exact zEE p r K l (i+1)
theorem zMb {α:Type}(q:α->Bool)(l:List α)(d:α):∀(n i:Nat),i+n<=l.length->zkU (fun j=>q (ix l (j:Int) d)) n i=((l.drop i).take n).all q
 | 0,i,_=>by simp[zkU]
 | n+1,i,h=>by
  have hi:i<l.length:=by omega
  rw[kD hi,List.take_succ_cons,uD,<- zMb q l d n (i+1) (by omega)]
  simp only[zkU,zbe hi]
def sameKey (a b:Entry):Bool:=bif ieq a.Tag b.Tag then ieq a.Page b.Page else false
def alone (l:List Entry)(i:Nat)(x:Entry):Bool:=(l.take i).all fun y=>!sameKey x y
def zev (l:List Entry):Bool:=bif allI (alone l) l 0 then ile (ln l) 6 else false
theorem z0m {α:Type}{l:List α}{i:Nat}(h:i<=l.length):inr 0 (i:Int) (ln l)=true:=qL (by simp only[ln];omega)
@[simp] abbrev zmM (l:List Entry):Bool:=true
@[simp] abbrev zmL (l:List Entry):Bool:=zev l
def zvv:Run:=rF1 (dS .entry) fun b=>(zmM b,[aB (zmL b)])
def zyC (N:Nat)(a0:lE):OA:=
 (iter (σ:=(Int×(Int×(lE×Unit)))) N (fun r2 s3=>let y3:=s3.2.2.1;let y1:=(ix y3 s3.2.1 zdD); (cond (ilt s3.2.1 s3.1) (oN (inb s3.2.1 (ln y3)) (oN (inr 0 s3.2.1 (ln y3)) (iter (σ:=(Int×(Int×(Int×(Int×(Int×(Int×(Int×(Int×(lE×(lE×Unit))))))))))) N (fun r4 s5=>let y4:=s5.2.2.2.1;let y2:=s5.2.2.2.2.2.2.2.2.2.1;let y0:=(r4 (s5.1,(s5.2.1,(s5.2.2.1,((zG .i64 y4 1),(s5.2.2.2.2.1,(s5.2.2.2.2.2.1,(s5.2.2.2.2.2.2.1,(s5.2.2.2.2.2.2.2.1,(s5.2.2.2.2.2.2.2.2.1,(y2,()))))))))))); (cond (ilt y4 s5.2.2.1) (oN (inb y4 (ln y2)) (cond (ieq s5.2.2.2.2.1 (ix y2 y4 zdD).Tag) (cond (ieq s5.2.2.2.2.2.1 (ix y2 y4 zdD).Page) oF y0) y0)) (r2 (s5.1,((zG .i64 s5.2.1 1),(s5.2.2.2.2.2.2.2.2.1,())))))) (s3.1,(s3.2.1,((ln (tk y3 s3.2.1)),(0,(y1.Tag,(y1.Page,(y1.Host,(y1.Rights,(y3,((tk y3 s3.2.1),()))))))))))))) (some [(aB (ile (ln y3) 6))]))) ((ln a0),(0,(a0,()))))
def zLy:FuncId->Nat->Option Tmpl:=zx [(107,0,{ n:=39,tm:=[(0,.sl 0 []),(7,.sl 0 []),(8,ti),(9,ti)],lo:=[],ro:=[(0,.entry,false)] }),(107,2,{ n:=39,tm:=[(0,.sl 0 []),(4,.lp 0 0),(7,.sl 0 []),(8,ti),(9,ti),(16,.sl 1 []),(17,ti),(18,ti)],lo:=[(0,[ti,ti,ti,ti])],ro:=[(0,.entry,false),(1,.entry,false)] })]
theorem zKt (a0:List Entry)(hb:zbQ big [aS .entry a0])(hc:zmM a0=true):∃N,zyC N a0=some [aB (zmL a0)]:=by
 have hl:=(len0 hb);refine zb9 fun N hNN=>?_;unfold zyC oN
 conv=>zeta
 refine (zX a0 (fun i (t:Unit)=>((ln a0),(i:Int),a0,())) _ (fun i (x:Entry) (_:Unit) κ=>bif alone a0 i x then κ () else oF) (fun (t:Unit)=>(some [(.one (.b (ile (ln a0) 6)))])) (fun i hi t rec=>?_) (fun t rec=>?_) _ () (hNN hl)).trans ?_
 .simp only [zbs hi,zV hi,zbe hi,zQ hi hl,cT];rw[z0m (Nat.le_of_lt hi),cT];have hk:(tk a0 (i:Int)).length<=big:=jE (by simp[tk];omega) hl
  refine (zX (tk a0 (i:Int)) (fun j (u:Unit)=>((ln a0),(i:Int),(ln (tk a0 (i:Int))),(j:Int),a0[i].Tag,a0[i].Page,a0[i].Host,a0[i].Rights,a0,(tk a0 (i:Int)),())) _ (fun _ (y:Entry) (_:Unit) κ=>bif !sameKey a0[i] y then κ () else oF) (fun (u:Unit)=>(rec ((ln a0),((((i+1:Nat)):Int),(a0,()))))) (fun j hj u rec1=>?_) (fun u rec1=>?_) _ () (hNN hk)).trans ?_
  .simp only [zbs hj,zV hj,zbe hj,zQ hj hk,cT,zQ hi hl];unfold sameKey;cases ieq a0[i].Tag (tk a0 (i:Int))[j].Tag<;>cases ieq a0[i].Page (tk a0 (i:Int))[j].Page<;>rfl
  .simp only [zbl,cF,zQ hi hl]
  rw[ze7 (fun y=>!sameKey a0[i] y)];rfl
 .simp only [zbl,cF]
 rw[zEE (alone a0)];unfold zmL zev;cases allI (alone a0) a0 0<;>rfl
theorem zEG:vH 107 zvv:=hF1 zwl zl zq zy zLy zKt
@[simp] abbrev zne (l:List Entry):Bool:=true
@[simp] abbrev znd (l:List Entry):Bool:=zev l
def zvH:Run:=rF1 (dS .entry) fun b=>(zne b,[aB (znd b)])
def zyP (N:Nat)(a0:lE):OA:=
 (iter (σ:=(Int×(lE×Unit))) N (fun r2 s3=>(cond (ilt s3.1 (ln s3.2.1)) (iter (σ:=(Int×(Int×(lE×Unit)))) N (fun r4 s5=>let y0:=s5.2.2.1;let y2:=(ix y0 s5.2.1 zdD);let y1:=(r4 (s5.1,((zG .i64 s5.2.1 1),(y0,())))); (cond (ilt s5.2.1 s5.1) (oN (inb s5.1 (ln y0)) (oN (inb s5.2.1 (ln y0)) (cond (ieq (ix y0 s5.1 zdD).Tag y2.Tag) (oN (inb s5.1 (ln y0)) (oN (inb s5.2.1 (ln y0)) (cond (ieq (ix y0 s5.1 zdD).Page y2.Page) oF y1))) y1))) (r2 ((zG .i64 s5.1 1),(y0,()))))) (s3.1,(0,(s3.2.1,())))) (some [(aB (ile (ln s3.2.1) 6))]))) (0,(a0,())))
def zLC:FuncId->Nat->Option Tmpl:=zx [(156,0,{ n:=43,tm:=[(0,.sl 0 []),(3,ti)],lo:=[],ro:=[(0,.entry,false)] }),(156,2,{ n:=43,tm:=[(0,.sl 0 []),(3,ti),(4,ti)],lo:=[],ro:=[(0,.entry,false)] })]
theorem zKH (a0:List Entry)(hb:zbQ big [aS .entry a0])(hc:zne a0=true):∃N,zyP N a0=some [aB (znd a0)]:=by
 have hl:=(len0 hb);refine zb9 fun N hNN=>?_;unfold zyP oN
 conv=>zeta
 refine (zX a0 (fun i (t:Unit)=>((i:Int),a0,())) _ (fun i (x:Entry) (_:Unit) κ=>bif alone a0 i x then κ () else oF) (fun (t:Unit)=>(some [(.one (.b (ile (ln a0) 6)))])) (fun i hi t rec=>?_) (fun t rec=>?_) _ () (hNN hl)).trans ?_
 .simp only [zbs hi,zV hi,zbe hi,zQ hi hl,cT];refine (zFg i (fun (j:Nat) (_:Unit)=>((i:Int),((j:Int),(a0,())))) _ (fun j (_:Unit) κ=>bif !sameKey a0[i] (ix a0 (j:Int) zdD) then κ () else oF) (fun _=>rec (((i+1:Nat):Int),(a0,()))) (fun j hj u rec1=>?_) (fun u rec1=>?_) _ () (hNN (by omega))).trans ?_
  .have hj2:j<a0.length:=by omega
   simp only[show ilt (j:Int) (i:Int)=true from qL (by omega),zV hi,zV hj2,zbe hi,zQ hj2 hl,cT]
   unfold sameKey;cases ieq a0[i].Tag (ix a0 (j:Int) zdD).Tag<;>cases ieq a0[i].Page (ix a0 (j:Int) zdD).Page<;>rfl
  .simp only [show ilt (i:Int) (i:Int)=false from qQ (by omega),zQ hi hl,cF]
  rw[zu8 (fun j=>!sameKey a0[i] (ix a0 (j:Int) zdD)),zMb (fun y=>!sameKey a0[i] y) a0 _ i 0 (by omega)]
  rfl
 .simp only [zbl,cF]
 rw[zEE (alone a0)];unfold znd zev;cases allI (alone a0) a0 0<;>rfl
theorem zES:vH 156 zvH:=hF1 zwl zl zq zy zLC zKH
def z1Y:zU:=[(48,zvB),(156,zvH),(107,zvv)]++z1X
theorem zEv:zD z1Y:=zh zEM (zh zES (zh zEG zwl))
theorem zKo (a b:Int):igt a b = !ile a b:=by
 unfold igt ile
 by_cases h:a<=b
 .rw [qL h,qQ (by omega)];rfl
 .rw [qQ h,qL (by omega)];rfl
theorem stB {c M:Bool}{E:OA}(h:c=true->E=some [AV.one (.b M)]):(cond (cond c false true) (some [AV.one (.b false)]) E)=some [AV.one (.b (cond c M false))]:=by
 cases c
 .rfl
 .exact h rfl
theorem stI {a b:Int}{M:Bool}{E:OA}(h:ieq a b=true->E=some [AV.one (.b M)]):(cond (ine a b) (some [AV.one (.b false)]) E)=some [AV.one (.b (cond (ieq a b) M false))]:=by
 rw[zBx];cases hh:ieq a b
 .rfl
 .exact h hh
theorem stG {a b:Int}{M:Bool}{E:OA}(h:ile a b=true->E=some [AV.one (.b M)]):(cond (igt a b) (some [AV.one (.b false)]) E)=some [AV.one (.b (cond (ile a b) M false))]:=by
 rw[zKo];cases hh:ile a b
 .rfl
 .exact h hh
def zku (s:Slot)(p:List Int):Bool:=bif zcd s noSlot then zb5 p else (cond (enough s.Rights 1) (ile (ln p) 0) false)
def fits (m:Mon)(j:Nat):Bool:=zku (ix m.Outer (j:Int) zI) (ix m.Out (j:Int) [])
def zdg (m:Mon):Bool:=bif win (ln m.Guests) 1 2 then (cond (ieq (ln m.Tables) (ln m.Guests)) (cond (zco m.Outer 8 12) (cond (ieq (ln m.Out) 8) (cond (ieq (ln m.Dirty) 8) (cond (ile (ln m.Outs) 40) (cond (zcO m.Pending) (cond (win m.Traps 0 3) (cond (win m.Own 0 1000000000) (cond (m.Guests.all zcX) (zkU (fits m) 8 0) false) false) false) false) false) false) false) false) false) else false
theorem zmq {t:List Slot}{n p:Int}(h:zco t n p=true):ln t=n:=by
 unfold zco at h;cases h1:t.all (fun s=>zc6 s p)
 .rw [h1]at h;cases h
 .rw [h1]at h;exact qE h
@[simp] abbrev zpH (m:Mon):Bool:=true
@[simp] abbrev zre (m:Mon):Bool:=zdg m
def zDJ:Run:=rF1 (dT .mon) fun b=>(zpH b,[aB (zre b)])
def zLU (N:Nat)(a0:Mon):OA:=
 let y5:=(ln a0.Guests); (oN (zbS y5 1 2) (cond (nB (zb7 y5 1 2)) oF (cond (ine (ln a0.Tables) y5) oF (oN (zk8 a0.Outer 8 12) (cond (nB (zg0 a0.Outer 8 12)) oF (cond (ine (ln a0.Out) 8) oF (cond (ine (ln a0.Dirty) 8) oF (cond (igt (ln a0.Outs) 40) oF (oN (zqL a0.Pending) (cond (nB (zn2 a0.Pending)) oF (oN (zbS a0.Traps 0 3) (cond (nB (zb7 a0.Traps 0 3)) oF (oN (zbS a0.Own 0 1000000000) (cond (nB (zb7 a0.Own 0 1000000000)) oF (iter (σ:=(Int×(Int×(Int×(Int×(Int×(lG×(lS×(lM×(lB×((List Int)×(lK×Unit)))))))))))) N (fun r2 s3=>let y6:=s3.2.2.2.2.2.2.1;let y3:=s3.2.2.2.2.2.1;let y7:=(ix y3 s3.2.1 zA); (cond (ilt s3.2.1 s3.1) (oN (inb s3.2.1 (ln y3)) (oN (zoN y7) (cond (nB (zmc y7)) oF (r2 (s3.1,((zG .i64 s3.2.1 1),(s3.2.2.1,(s3.2.2.2.1,(s3.2.2.2.2.1,(y3,(y6,(s3.2.2.2.2.2.2.2.1,(s3.2.2.2.2.2.2.2.2.1,(s3.2.2.2.2.2.2.2.2.2.1,(s3.2.2.2.2.2.2.2.2.2.2.1,()))))))))))))))) (iter (σ:=(Int×(Int×(Int×(Int×(Int×(lS×(lM×(lB×(lG×((List Int)×(lK×Unit)))))))))))) N (fun r4 s5=>let y4:=s5.2.1;let y2:=s5.2.2.2.2.2.2.1;let y1:=(ix s5.2.2.2.2.2.1 y4 zI);let y0:=(r4 (s5.1,((zG .i64 y4 1),(s5.2.2.1,(s5.2.2.2.1,(s5.2.2.2.2.1,(s5.2.2.2.2.2.1,(y2,(s5.2.2.2.2.2.2.2.1,(s5.2.2.2.2.2.2.2.2.1,(s5.2.2.2.2.2.2.2.2.2.1,(s5.2.2.2.2.2.2.2.2.2.2.1,())))))))))))); (cond (ilt y4 s5.1) (oN (inb y4 (ln s5.2.2.2.2.2.1)) (oN zcy (cond (cond (ieq y1.Page zbX.Page) (ieq y1.Rights zbX.Rights) false) (oN (inb y4 (ln y2)) (oN (zgZ (ix y2 y4 [])) (cond (nB (zfM (ix y2 y4 []))) oF y0))) (oN (zdO y1.Rights 1) (cond (nB (zen y1.Rights 1)) oF (oN (inb y4 (ln y2)) (cond (igt (ln (ix y2 y4 [])) 0) oF y0))))))) oT)) ((ln y6),(0,(s3.2.2.1,(s3.2.2.2.1,(s3.2.2.2.2.1,(y6,(s3.2.2.2.2.2.2.2.1,(s3.2.2.2.2.2.2.2.2.1,(y3,(s3.2.2.2.2.2.2.2.2.2.1,(s3.2.2.2.2.2.2.2.2.2.2.1,())))))))))))))) (y5,(0,(a0.Pending,(a0.Traps,(a0.Own,(a0.Guests,(a0.Outer,(a0.Out,(a0.Dirty,(a0.Outs,(a0.Tables,()))))))))))))))))))))))))))
def zTz:FuncId->Nat->Option Tmpl:=zx [(108,0,{ n:=106,tm:=[(1,.lp 0 0),(64,.sl 0 []),(65,ti),(66,ti)],lo:=[(0,[.sl 1 [],.sl 2 [],.sl 3 [],.sl 0 [],.sl 4 [],ti,ti,.sl 5 [],ti])],ro:=[(0,.guest,false),(1,.slot,false),(2,(.sl .int),false),(3,.bool,false),(4,.int,false),(5,.kept,false)] }),(108,2,{ n:=106,tm:=[(1,.lp 0 0),(75,.sl 0 []),(76,ti),(77,ti)],lo:=[(0,[.sl 0 [],.sl 1 [],.sl 2 [],.sl 3 [],.sl 4 [],ti,ti,.sl 5 [],ti])],ro:=[(0,.slot,false),(1,(.sl .int),false),(2,.bool,false),(3,.guest,false),(4,.int,false),(5,.kept,false)] })]
theorem zSE (a0:Mon)(hb:zbQ big [aT .mon a0])(hc:zpH a0=true):∃N,zLU N a0=some [aB (zre a0)]:=by
 have hg:a0.Guests.length<=big:=((zcn hb).1 (.s .guest a0.Guests) (by simp[AV.cvs,Ty.cells])).len
 have ho:a0.Outer.length<=big:=((zcn hb).1 (.s .slot a0.Outer) (by simp[AV.cvs,Ty.cells])).len
 refine zb9 fun N hNN=>?_;unfold zLU zre zdg oN nB
 conv=>zeta
 refine must rfl (stB fun h0=>stI fun h1=>must rfl (stB fun h2=>stI fun h3=>stI fun h4=>stG fun h5=>must rfl (stB fun h6=>must rfl (stB fun h7=>must rfl (stB fun h8=>?_)))));have e1:=zmq h2;have e3:ln a0.Out=8:=qE h3;simp only[ln] at e1 e3;refine (zX a0.Guests (fun i (t:Unit)=>((ln a0.Guests),(i:Int),a0.Pending,a0.Traps,a0.Own,a0.Guests,a0.Outer,a0.Out,a0.Dirty,a0.Outs,a0.Tables,())) _ (fun _ (x:Guest) (_:Unit) κ=>bif zcX x then κ () else oF) (fun (t:Unit)=>(iter (σ:=(Int×(Int×(Int×(Int×(Int×(lS×(lM×(lB×(lG×((List Int)×(lK×Unit)))))))))))) N (fun r4 s5=>(cond (ilt s5.2.1 s5.1) (cond (inb s5.2.1 (ln s5.2.2.2.2.2.1)) (cond zcy (cond (cond (ieq (ix s5.2.2.2.2.2.1 s5.2.1 zI).Page zbX.Page) (ieq (ix s5.2.2.2.2.2.1 s5.2.1 zI).Rights zbX.Rights) false) (cond (inb s5.2.1 (ln s5.2.2.2.2.2.2.1)) (cond (zgZ (ix s5.2.2.2.2.2.2.1 s5.2.1 [])) (cond (cond (zfM (ix s5.2.2.2.2.2.2.1 s5.2.1 [])) false true) oF (r4 (s5.1,((zG .i64 s5.2.1 1),(s5.2.2.1,(s5.2.2.2.1,(s5.2.2.2.2.1,(s5.2.2.2.2.2.1,(s5.2.2.2.2.2.2.1,(s5.2.2.2.2.2.2.2.1,(s5.2.2.2.2.2.2.2.2.1,(s5.2.2.2.2.2.2.2.2.2.1,(s5.2.2.2.2.2.2.2.2.2.2.1,()))))))))))))) none) none) (cond (zdO (ix s5.2.2.2.2.2.1 s5.2.1 zI).Rights 1) (cond (cond (zen (ix s5.2.2.2.2.2.1 s5.2.1 zI).Rights 1) false true) oF (cond (inb s5.2.1 (ln s5.2.2.2.2.2.2.1)) (cond (igt (ln (ix s5.2.2.2.2.2.2.1 s5.2.1 [])) 0) oF (r4 (s5.1,((zG .i64 s5.2.1 1),(s5.2.2.1,(s5.2.2.2.1,(s5.2.2.2.2.1,(s5.2.2.2.2.2.1,(s5.2.2.2.2.2.2.1,(s5.2.2.2.2.2.2.2.1,(s5.2.2.2.2.2.2.2.2.1,(s5.2.2.2.2.2.2.2.2.2.1,(s5.2.2.2.2.2.2.2.2.2.2.1,()))))))))))))) none)) none)) none) none) (some [(.one (.b true))]))) ((ln a0.Outer),(0,(a0.Pending,(a0.Traps,(a0.Own,(a0.Outer,(a0.Out,(a0.Dirty,(a0.Guests,(a0.Outs,(a0.Tables,()))))))))))))) (fun i hi t rec=>?_) (fun t rec=>?_) _ () (hNN hg)).trans ?_
 .simp only [zbs hi,zV hi,zbe hi,zQ hi hg,cT];simp only[zoN,zmc,cT];cases zcX a0.Guests[i]<;>rfl
 .simp only [zbl,cF]
 rw[ze7 zcX];cases a0.Guests.all zcX
 .rfl
 simp only[cT];refine (zX a0.Outer (fun j (u:Unit)=>((ln a0.Outer),(j:Int),a0.Pending,a0.Traps,a0.Own,a0.Outer,a0.Out,a0.Dirty,a0.Guests,a0.Outs,a0.Tables,())) _ (fun j (_:Slot) (_:Unit) κ=>bif fits a0 j then κ () else oF) (fun (u:Unit)=>(some [(.one (.b true))])) (fun j hj u rec1=>?_) (fun u rec1=>?_) _ () (hNN ho)).trans ?_
 .simp only [zbs hj,zV hj,zbe hj,zQ hj ho,cT];have hj2:j<a0.Out.length:=by omega
  simp only[zcy,zbX,zgZ,zfM,zdO,zen,zV hj2,zKo,cT];unfold fits zku;simp only[zbe hj,zcd];cases ieq a0.Outer[j].Page noSlot.Page<;>cases ieq a0.Outer[j].Rights noSlot.Rights<;>cases enough a0.Outer[j].Rights 1<;>cases ile (ln (ix a0.Out (j:Int) [])) 0<;>cases zb5 (ix a0.Out (j:Int) [])<;>rfl
 .simp only [zbl,cF]
 rw[zrd (fun j (_:Unit) κ=>bif fits a0 j then κ () else oF),zu8 (fits a0),show a0.Outer.length=8 by omega]
 cases zkU (fits a0) 8 0<;>rfl
theorem zNj:vH 108 zDJ:=hF1 zEv zl zq zy zTz zSE
@[simp] abbrev zpS (m:Mon):Bool:=true
@[simp] abbrev zrk (m:Mon):Bool:=zdg m
def zDS:Run:=rF1 (dT .mon) fun b=>(zpS b,[aB (zrk b)])
def zL3 (N:Nat)(a0:Mon):OA:=
 (oN (zJ (ln a0.Guests) 1 2) (cond (nB (zL (ln a0.Guests) 1 2)) oF (cond (ine (ln a0.Tables) (ln a0.Guests)) oF (oN (zlm a0.Outer 8 12) (cond (nB (zha a0.Outer 8 12)) oF (cond (ine (ln a0.Out) 8) oF (cond (ine (ln a0.Dirty) 8) oF (iter (σ:=(Int×(Int×(Int×(Int×(lS×(lM×(lB×(lG×((List Int)×(lK×Unit))))))))))) N (fun r2 s3=>let y3:=s3.2.2.2.2.2.2.2.1; (cond (ilt s3.1 (ln y3)) (oN (inb s3.1 (ln y3)) (oN (zli (ix y3 s3.1 zA)) (cond (nB (zjR (ix y3 s3.1 zA))) oF (r2 ((zG .i64 s3.1 1),(s3.2.1,(s3.2.2.1,(s3.2.2.2.1,(s3.2.2.2.2.1,(s3.2.2.2.2.2.1,(s3.2.2.2.2.2.2.1,(y3,(s3.2.2.2.2.2.2.2.2.1,(s3.2.2.2.2.2.2.2.2.2.1,())))))))))))))) (iter (σ:=(Int×(Int×(Int×(Int×(lS×(lM×(lB×(lG×((List Int)×(lK×Unit))))))))))) N (fun r4 s5=>let y7:=s5.2.2.2.2.1;let y4:=(inb s5.1 (ln s5.2.2.2.2.2.1));let y2:=(ix s5.2.2.2.2.2.1 s5.1 []);let y1:=(ix y7 s5.1 zI);let y6:=(ieq y1.Rights zbo.Rights);let y5:=(ieq y1.Page zbo.Page);let y0:=(r4 ((zG .i64 s5.1 1),(s5.2.1,(s5.2.2.1,(s5.2.2.2.1,(y7,(s5.2.2.2.2.2.1,(s5.2.2.2.2.2.2.1,(s5.2.2.2.2.2.2.2.1,(s5.2.2.2.2.2.2.2.2.1,(s5.2.2.2.2.2.2.2.2.2.1,()))))))))))); (cond (ilt s5.1 8) (oN (inb s5.1 (ln y7)) (oN zck (cond (nB (cond y5 y6 false)) (oN y4 (cond (igt (ln y2) 0) oF (oN (inb s5.1 (ln y7)) (oN (zfY y1.Rights 1) (cond (nB (zgB y1.Rights 1)) oF (cond (nB (nB (cond y5 y6 false))) (oN y4 (oN (zfi y2) (cond (nB (zeL y2)) oF y0))) y0)))))) (cond (nB (nB (cond y5 y6 false))) (oN y4 (oN (zfi y2) (cond (nB (zeL y2)) oF y0))) y0)))) (cond (ile (ln s5.2.2.2.2.2.2.2.2.1) 40) (oN (zeN s5.2.1) (cond (zeM s5.2.1) (oN (zJ s5.2.2.1 0 3) (cond (zL s5.2.2.1 0 3) (oN (zJ s5.2.2.2.1 0 1000000000) (some [(aB (zL s5.2.2.2.1 0 1000000000))])) oF)) oF)) oF))) (0,(s3.2.1,(s3.2.2.1,(s3.2.2.2.1,(s3.2.2.2.2.1,(s3.2.2.2.2.2.1,(s3.2.2.2.2.2.2.1,(y3,(s3.2.2.2.2.2.2.2.2.1,(s3.2.2.2.2.2.2.2.2.2.1,()))))))))))))) (0,(a0.Pending,(a0.Traps,(a0.Own,(a0.Outer,(a0.Out,(a0.Dirty,(a0.Guests,(a0.Outs,(a0.Tables,()))))))))))))))))))
def zTC:FuncId->Nat->Option Tmpl:=zx [(157,0,{ n:=115,tm:=[(1,.lp 0 0),(3,ti)],lo:=[(0,[.sl 0 [],.sl 1 [],.sl 2 [],.sl 3 [],.sl 4 [],ti,ti,.sl 5 [],ti])],ro:=[(0,.slot,false),(1,(.sl .int),false),(2,.bool,false),(3,.guest,false),(4,.int,false),(5,.kept,false)] }),(157,2,{ n:=115,tm:=[(1,.lp 0 0),(4,ti)],lo:=[(0,[.sl 0 [],.sl 1 [],.sl 2 [],.sl 3 [],.sl 4 [],ti,ti,.sl 5 [],ti])],ro:=[(0,.slot,false),(1,(.sl .int),false),(2,.bool,false),(3,.guest,false),(4,.int,false),(5,.kept,false)] })]
theorem zSO (a0:Mon)(hb:zbQ big [aT .mon a0])(hc:zpS a0=true):∃N,zL3 N a0=some [aB (zrk a0)]:=by
 have hg:a0.Guests.length<=big:=((zcn hb).1 (.s .guest a0.Guests) (by simp[AV.cvs,Ty.cells])).len
 refine zb9 fun N hNN=>?_;unfold zL3 zrk zdg oN nB
 conv=>zeta
 refine must rfl (stB fun h0=>stI fun h1=>must rfl (stB fun h2=>stI fun h3=>stI fun h4=>?_));have e1:=zmq h2;have e3:ln a0.Out=8:=qE h3;simp only[ln] at e1 e3;refine (zX a0.Guests (fun i (t:Unit)=>((i:Int),a0.Pending,a0.Traps,a0.Own,a0.Outer,a0.Out,a0.Dirty,a0.Guests,a0.Outs,a0.Tables,())) _ (fun _ (x:Guest) (_:Unit) κ=>bif zcX x then κ () else oF) (fun (t:Unit)=>(iter (σ:=(Int×(Int×(Int×(Int×(lS×(lM×(lB×(lG×((List Int)×(lK×Unit))))))))))) N (fun r4 s5=>(cond (ilt s5.1 8) (cond (inb s5.1 (ln s5.2.2.2.2.1)) (cond zck (cond (cond (cond (ieq (ix s5.2.2.2.2.1 s5.1 zI).Page zbo.Page) (ieq (ix s5.2.2.2.2.1 s5.1 zI).Rights zbo.Rights) false) false true) (cond (inb s5.1 (ln s5.2.2.2.2.2.1)) (cond (igt (ln (ix s5.2.2.2.2.2.1 s5.1 [])) 0) oF (cond (inb s5.1 (ln s5.2.2.2.2.1)) (cond (zfY (ix s5.2.2.2.2.1 s5.1 zI).Rights 1) (cond (cond (zgB (ix s5.2.2.2.2.1 s5.1 zI).Rights 1) false true) oF (cond (cond (cond (cond (ieq (ix s5.2.2.2.2.1 s5.1 zI).Page zbo.Page) (ieq (ix s5.2.2.2.2.1 s5.1 zI).Rights zbo.Rights) false) false true) false true) (cond (inb s5.1 (ln s5.2.2.2.2.2.1)) (cond (zfi (ix s5.2.2.2.2.2.1 s5.1 [])) (cond (cond (zeL (ix s5.2.2.2.2.2.1 s5.1 [])) false true) oF (r4 ((zG .i64 s5.1 1),(s5.2.1,(s5.2.2.1,(s5.2.2.2.1,(s5.2.2.2.2.1,(s5.2.2.2.2.2.1,(s5.2.2.2.2.2.2.1,(s5.2.2.2.2.2.2.2.1,(s5.2.2.2.2.2.2.2.2.1,(s5.2.2.2.2.2.2.2.2.2.1,())))))))))))) none) none) (r4 ((zG .i64 s5.1 1),(s5.2.1,(s5.2.2.1,(s5.2.2.2.1,(s5.2.2.2.2.1,(s5.2.2.2.2.2.1,(s5.2.2.2.2.2.2.1,(s5.2.2.2.2.2.2.2.1,(s5.2.2.2.2.2.2.2.2.1,(s5.2.2.2.2.2.2.2.2.2.1,()))))))))))))) none) none)) none) (cond (cond (cond (cond (ieq (ix s5.2.2.2.2.1 s5.1 zI).Page zbo.Page) (ieq (ix s5.2.2.2.2.1 s5.1 zI).Rights zbo.Rights) false) false true) false true) (cond (inb s5.1 (ln s5.2.2.2.2.2.1)) (cond (zfi (ix s5.2.2.2.2.2.1 s5.1 [])) (cond (cond (zeL (ix s5.2.2.2.2.2.1 s5.1 [])) false true) oF (r4 ((zG .i64 s5.1 1),(s5.2.1,(s5.2.2.1,(s5.2.2.2.1,(s5.2.2.2.2.1,(s5.2.2.2.2.2.1,(s5.2.2.2.2.2.2.1,(s5.2.2.2.2.2.2.2.1,(s5.2.2.2.2.2.2.2.2.1,(s5.2.2.2.2.2.2.2.2.2.1,())))))))))))) none) none) (r4 ((zG .i64 s5.1 1),(s5.2.1,(s5.2.2.1,(s5.2.2.2.1,(s5.2.2.2.2.1,(s5.2.2.2.2.2.1,(s5.2.2.2.2.2.2.1,(s5.2.2.2.2.2.2.2.1,(s5.2.2.2.2.2.2.2.2.1,(s5.2.2.2.2.2.2.2.2.2.1,()))))))))))))) none) none) (cond (ile (ln s5.2.2.2.2.2.2.2.2.1) 40) (cond (zeN s5.2.1) (cond (zeM s5.2.1) (cond (zJ s5.2.2.1 0 3) (cond (zL s5.2.2.1 0 3) (cond (zJ s5.2.2.2.1 0 1000000000) (some [(.one (.b (zL s5.2.2.2.1 0 1000000000)))]) none) oF) none) oF) none) oF))) (0,(a0.Pending,(a0.Traps,(a0.Own,(a0.Outer,(a0.Out,(a0.Dirty,(a0.Guests,(a0.Outs,(a0.Tables,())))))))))))) (fun i hi t rec=>?_) (fun t rec=>?_) _ () (hNN hg)).trans ?_
 .simp only [zbs hi,zV hi,zbe hi,zQ hi hg,cT];simp only[zli,zjR,cT];cases zcX a0.Guests[i]<;>rfl
 .simp only [zbl,cF]
 rw[ze7 zcX];cases hq:a0.Guests.all zcX
 .simp only [cF];cases ile (ln a0.Outs) 40<;>cases zcO a0.Pending<;>cases win a0.Traps 0 3<;>cases win a0.Own 0 1000000000<;>rfl
 simp only[cT];refine (zFg 8 (fun j (u:Unit)=>((j:Int),a0.Pending,a0.Traps,a0.Own,a0.Outer,a0.Out,a0.Dirty,a0.Guests,a0.Outs,a0.Tables,())) _ (fun j (_:Unit) κ=>bif fits a0 j then κ () else oF) (fun (u:Unit)=>(cond (ile (ln a0.Outs) 40) (cond (zeN a0.Pending) (cond (zeM a0.Pending) (cond (zJ a0.Traps 0 3) (cond (zL a0.Traps 0 3) (cond (zJ a0.Own 0 1000000000) (some [(.one (.b (zL a0.Own 0 1000000000)))]) none) oF) none) oF) none) oF)) (fun j hj u rec1=>?_) (fun u rec1=>?_) _ () (hNN (by decide))).trans ?_
 .simp only [show ilt (j:Int) 8=true from qL (by omega),zQ hj (show 8<=big by decide),cT]
  have hj1:j<a0.Outer.length:=by omega
  have hj2:j<a0.Out.length:=by omega
  simp only[zck,zbo,zfi,zeL,zfY,zgB,zV hj1,zV hj2,zKo,cT];unfold fits zku;simp only[zbe hj1,zcd];cases ieq a0.Outer[j].Page noSlot.Page<;>cases ieq a0.Outer[j].Rights noSlot.Rights<;>cases enough a0.Outer[j].Rights 1<;>cases ile (ln (ix a0.Out (j:Int) [])) 0<;>cases zb5 (ix a0.Out (j:Int) [])<;>rfl
 .simp only [show ilt (((8:Nat)):Int) 8=false from qQ (by omega),cF]
  rfl
 rw[zu8 (fits a0)];simp only[zeN,zeM,zJ,zOT,cT];cases zkU (fits a0) 8 0<;>cases ile (ln a0.Outs) 40<;>cases zcO a0.Pending<;>cases win a0.Traps 0 3<;>cases win a0.Own 0 1000000000<;>rfl
theorem zNt:vH 157 zDS:=hF1 zEv zl zq zy zTC zSO
def z1Z:zU:=[(157,zDS),(108,zDJ)]++z1Y
theorem zEw:zD z1Z:=zh zNt (zh zNj zEv)
def zfC:List Slot->List Bool->Option (List Bool)
 | [],u=>some u
 | s :: l,u=>bif ilt s.Page 0 then zfC l u else (cond (ix u s.Page false) none (zfC l (up u s.Page true)))
def zgu:List Mon->List Bool->Bool
 | [],_=>true
 | m :: l,u=>bif zdg m then (match zfC m.Outer u with|some u'=>zgu l u'|none=>false) else false
def zbB (h:Host):Bool:=bif zgG h.Memory 12 then (cond (win (ln h.Mons) 1 3) (cond (zev h.Buffer) (cond (zev h.IoBuffer) (zgu h.Mons (rp 12 false)) false) false) false) else false
theorem znG:∀(l:List Slot) (u u':List Bool),zfC l u=some u'->u'.length=u.length
 | [],u,u',h=>by cases h;rfl
 | s :: l,u,u',h=>by
  simp only[zfC]at h;cases h1:ilt s.Page 0
  .rw [h1]at h;cases h2:ix u s.Page false
   .rw [h2]at h;simpa using znG l _ u' h
   .rw [h2]at h;cases h
  .rw [h1]at h;exact znG l u u' h
theorem zBL {t:List Slot}{n:Int}(h:zco t n 12=true):∀s∈t,s.Page<12:=by
 intro s hs;unfold zco at h;cases h1:t.all (fun s=>zc6 s 12)
 .rw [h1]at h;cases h
 .have:=qJ.1 h1 s hs;unfold zc6 at this;cases h2:zcd s noSlot
  .rw [h2] at this;simp only[cF,show igt 12 0=true from rfl,cT] at this
   cases h3:win s.Page 0 (wsub .i64 12 1)
   .rw [h3] at this;cases this
   .have:=(zfg.1 h3).2;rw[show wsub .i64 12 1=11 from rfl] at this
    omega
  .unfold zcd at h2;rw[qD]at h2;have h2:s.Page = -1:=qE h2.1;omega
theorem zSd {s:Slot}{u:List Bool}(h:s.Page<12)(hu:u.length=12)(h0:ilt s.Page 0=false):inb s.Page (ln u)=true:=by
 have:=jV h0;exact qL (by simp only[ln];omega)
def zrq {ρ:Type}(r:Option ρ)(y:Slot)(u:List Bool)(κ:List Bool->Option ρ):Option ρ:=bif ilt y.Page 0 then κ u else (cond (inb y.Page (ln u)) (cond (ix u y.Page false) r (cond (inb y.Page (ln u)) (share (up u y.Page true) (fun x6=>κ x6)) none)) none)
theorem zwz {ρ:Type}(r:Option ρ)(K:List Bool->Option ρ):∀(l:List Slot) (i:Nat) (u:List Bool),(∀s∈l,s.Page<12)->u.length=12 ->
 goL (fun _ y u κ=>zrq r y u κ) K l i u=match zfC l u with|some u'=>K u'|none=>r
 | [],_,_,_,_=>rfl
 | s :: l,i,u,h,hu=>by
  simp only[goL,zfC,zrq];cases h1:ilt s.Page 0
  .have hh:=zSd (h s (by simp)) hu h1
   rw[hh];cases ix u s.Page false
   .simp only [cF,cT,share];exact zwz r K l (i+1) _ (fun s hs=>h s (by simp[hs])) (by simpa using hu)
   .rfl
  .simp only [cT];exact zwz r K l (i+1) u (fun s hs=>h s (by simp[hs])) hu
def zUV {ρ:Type}(r:Option ρ)(m:Mon)(u:List Bool)(κ:List Bool->Option ρ):Option ρ:=bif zdg m then goL (fun _ y u κ=>zrq r y u κ) κ m.Outer 0 u else r
theorem zcw {c x:Bool}:((cond c x false)=true)↔c=true/\x=true:=by
 cases c<;>simp
theorem zhq {m:Mon}(h:zdg m=true):zco m.Outer 8 12=true:=by
 unfold zdg at h;simp only[zcw]at h;exact h.2.2.1
theorem zPJ {K:Bool->OA}(k:List Bool->OA)(hk:∀u,k u=K true):∀(l:List Mon) (i:Nat) (u:List Bool),u.length=12 ->
 goL (fun _ m u κ=>zUV (K false) m u κ) k l i u=K (zgu l u)
 | [],_,u,_=>hk u
 | m :: l,i,u,hu=>by
  simp only[goL,zgu,zUV];cases h1:zdg m
  .rfl
  .simp only [cT];have ht:=zhq h1;rw[zwz _ _ _ _ _ (zBL ht) hu];cases h2:zfC m.Outer u with
   | none=>rfl
   | some u'=>exact zPJ k hk l (i+1) u' ((znG _ _ _ h2).trans hu)
@[simp] abbrev zkl (h:Host):Bool:=true
@[simp] abbrev zlM (h:Host):Bool:=zbB h
def zAa:Run:=rF1 dH fun b=>(zkl b,[aB (zlM b)])
def zF1 (N:Nat)(a0:Host):OA:=
 (oN (zzH a0.Memory 12) (cond (nB (zn1 a0.Memory 12)) oF (oN (zbS (ln a0.Mons) 1 3) (cond (nB (zb7 (ln a0.Mons) 1 3)) oF (oN (zmM a0.Buffer) (cond (nB (zmL a0.Buffer)) oF (oN (zmM a0.IoBuffer) (cond (nB (zmL a0.IoBuffer)) oF (oN (cond (few 12) (ieq 12 12) false) (iter (σ:=(Int×(Int×(lB×(lN×Unit))))) N (fun r2 s3=>let y1:=(ix s3.2.2.2.1 s3.2.1 zf); (cond (ilt s3.2.1 s3.1) (oN (inb s3.2.1 (ln s3.2.2.2.1)) (oN (zpH y1) (cond (nB (zre y1)) oF (iter (σ:=(Int×(Int×(Int×(Int×(Int×(lB×(lN×Unit)))))))) N (fun r4 s5=>let y4:=s5.2.2.2.2.1;let y3:=s5.2.2.2.2.2.2.1;let y5:=(ix y3 s5.2.2.1 zf).Outer;let y2:=s5.2.2.2.2.2.1;let y0:=(ix y5 y4 zI).Page; (cond (ilt y4 s5.2.2.2.1) (oN (inb y4 (ln y5)) (cond (ilt y0 0) (r4 (s5.1,(s5.2.1,(s5.2.2.1,(s5.2.2.2.1,((zG .i64 y4 1),(y2,(y3,())))))))) (oN (inb y0 (ln y2)) (cond (ix y2 y0 false) oF (oN (inb y0 (ln y2)) (share (up y2 y0 true) (fun x6=>(r4 (s5.1,(s5.2.1,(s5.2.2.1,(s5.2.2.2.1,((zG .i64 y4 1),(x6,(y3,()))))))))))))))) (r2 (s5.1,((zG .i64 s5.2.1 1),(y2,(y3,()))))))) (s3.1,(s3.2.1,(s3.2.1,((ln y1.Outer),(0,(s3.2.2.1,(s3.2.2.2.1,()))))))))))) oT)) ((ln a0.Mons),(0,((rp 12 false),(a0.Mons,()))))))))))))))
def zRS:FuncId->Nat->Option Tmpl:=zx [(44,0,{ n:=63,tm:=[(3,.sl 0 []),(33,.sl 1 []),(34,ti),(35,ti)],lo:=[],ro:=[(0,.bool,true),(1,.mon,false)] }),(44,2,{ n:=63,tm:=[(3,.sl 0 []),(33,.sl 1 []),(34,ti),(35,ti),(43,.sl 1 [0]),(44,ti),(45,ti)],lo:=[],ro:=[(0,.bool,true),(1,.mon,false)] })]
theorem zP6 (a0:Host)(hb:zbQ big [aH a0])(hc:zkl a0=true):∃N,zF1 N a0=some [aB (zlM a0)]:=by
 have hm:CVB big (.s .mon a0.Mons):=(zcn hb).1 _ (by simp[AV.cvs,zbc])
 have hl:=hm.len;refine zb9 fun N hNN=>?_;unfold zF1 zlM zbB oN nB
 conv=>zeta
 refine must rfl (stB fun h0=>must rfl (stB fun h1=>must rfl (stB fun h2=>must rfl (stB fun h3=>must rfl ?_))));refine (zX a0.Mons (fun i (t:lB)=>((ln a0.Mons),(i:Int),t,a0.Mons,())) _ (fun _ (x:Mon) (u:List Bool) κ=>zUV (oF) x u κ) (fun (t:lB)=>(some [(.one (.b true))])) (fun i hi t rec=>?_) (fun t rec=>?_) _ ((rp 12 false)) (hNN hl)).trans ?_
 .simp only [zbs hi,zV hi,zbe hi,zQ hi hl,cT];unfold zUV;cases h4:zdg a0.Mons[i]
  .simp only [zpH,zre,h4,cT,cF]
  simp only[zpH,zre,h4,cT,cF];have ho:a0.Mons[i].Outer.length<=big:=(hm.inv.2 _ (jB hi) (.s .slot _) (by simp[Ty.cells])).len
  refine (zX a0.Mons[i].Outer (fun j (u:lB)=>((ln a0.Mons),(i:Int),(i:Int),(ln a0.Mons[i].Outer),(j:Int),u,a0.Mons,())) _ (fun _ (y:Slot) (u:List Bool) κ=>zrq (oF) y u κ) (fun (u:lB)=>(rec ((ln a0.Mons),((((i+1:Nat)):Int),(u,(a0.Mons,())))))) (fun j hj u rec1=>?_) (fun u rec1=>?_) _ (t) (hNN ho)).trans ?_
  .simp only [zbs hj,zV hj,zbe hj,zQ hj ho,cT,zV hi,zbe hi,zQ hi hl];rfl
  .simp only [zbl,cF,zV hi,zbe hi,zQ hi hl]
  rfl
 .simp only [zbl,cF]
 exact zPJ (K:=fun b=>some [AV.one (.b b)]) _ (fun _=>rfl) _ _ _ rfl
theorem zJI:vH 44 zAa:=hF1 zEw zl zq zy zRS zP6
@[simp] abbrev zeJ (h:Host):Bool:=true
@[simp] abbrev zeI (h:Host):Bool:=zbB h
theorem zEF {ρ:Type}(r:Option ρ)(k:List Bool->Option ρ)(m:Mon):∀(n i:Nat) (u:List Bool),(∀s∈m.Outer,s.Page<12)->u.length=12->i+n=m.Outer.length ->
 goN (fun j u κ=>bif inb (j:Int) (ln m.Outer) then zrq r (ix m.Outer (j:Int) zI) u κ else none) k n i u=goL (fun _ y u κ=>zrq r y u κ) k (m.Outer.drop i) i u
 | 0,i,u,_,_,h=>by
  have:i=m.Outer.length:=by omega
  subst this;simp[goN,goL]
 | n+1,i,u,hs,hu,h=>by
  have hi:i<m.Outer.length:=by omega
  rw[kD hi];simp only[goN,goL,zV hi,zbe hi,cT,zrq];cases h1:ilt m.Outer[i].Page 0
  .rw [zSd (hs _ (jB hi)) hu h1];cases ix u m.Outer[i].Page false
   .simp only [cF,cT,share];exact zEF r k m n (i+1) _ hs (by simpa using hu) (by omega)
   .rfl
  .simp only [cT];exact zEF r k m n (i+1) u hs hu (by omega)
def zAu:Run:=rF1 dH fun b=>(zeJ b,[aB (zeI b)])
def zGj (N:Nat)(a0:Host):OA:=
 (oN (zpR a0.Memory 12) (cond (nB (zkK a0.Memory 12)) oF (oN (zJ (ln a0.Mons) 1 3) (cond (nB (zL (ln a0.Mons) 1 3)) oF (oN (zne a0.Buffer) (cond (nB (znd a0.Buffer)) oF (oN (zne a0.IoBuffer) (cond (nB (znd a0.IoBuffer)) oF (oN (cond (few 12) (ieq 12 12) false) (iter (σ:=(Int×(lB×(lM×(lN×(lE×(lE×Unit))))))) N (fun r2 s3=>let y7:=(ix s3.2.2.2.1 s3.1 zf); (cond (ilt s3.1 (ln s3.2.2.2.1)) (oN (inb s3.1 (ln s3.2.2.2.1)) (oN (zpS y7) (cond (nB (zrk y7)) oF (iter (σ:=(Int×(Int×(lB×(lM×(lN×(lE×(lE×Unit)))))))) N (fun r4 s5=>let y6:=(zG .i64 s5.2.1 1);let y5:=s5.2.2.2.2.2.1;let y4:=s5.2.2.2.2.2.2.1;let y3:=s5.2.2.1;let y2:=s5.2.2.2.2.1;let y8:=(ix y2 s5.1 zf).Outer;let y1:=(r4 (s5.1,(y6,(y3,(s5.2.2.2.1,(y2,(y5,(y4,()))))))));let y0:=(ix y8 s5.2.1 zI).Page;let y9:=(inb y0 (ln y3)); (cond (ilt s5.2.1 8) (oN (inb s5.1 (ln y2)) (oN (inb s5.2.1 (ln y8)) (cond (ige y0 0) (oN y9 (cond (ix y3 y0 false) oF (cond (ige y0 0) (oN y9 (share (up y3 y0 true) (fun x6=>(r4 (s5.1,(y6,(x6,(s5.2.2.2.1,(y2,(y5,(y4,()))))))))))) y1))) (cond (ige y0 0) (oN y9 (share (up y3 y0 true) (fun x6=>(r4 (s5.1,(y6,(x6,(s5.2.2.2.1,(y2,(y5,(y4,()))))))))))) y1)))) (r2 ((zG .i64 s5.1 1),(y3,(s5.2.2.2.1,(y2,(y5,(y4,()))))))))) (s3.1,(0,(s3.2.1,(s3.2.2.1,(s3.2.2.2.1,(s3.2.2.2.2.1,(s3.2.2.2.2.2.1,()))))))))))) oT)) (0,((rp 12 false),(a0.Memory,(a0.Mons,(a0.Buffer,(a0.IoBuffer,()))))))))))))))))
def zRZ:FuncId->Nat->Option Tmpl:=zx [(97,0,{ n:=72,tm:=[(1,.lp 0 0),(3,.sl 0 []),(4,ti)],lo:=[(0,[.sl 1 [],.sl 2 [],.sl 3 [],.sl 4 []])],ro:=[(0,.bool,true),(1,(.sl .int),false),(2,.mon,false),(3,.entry,false),(4,.entry,false)] }),(97,2,{ n:=72,tm:=[(1,.lp 0 0),(3,.sl 0 []),(4,ti),(5,ti)],lo:=[(0,[.sl 1 [],.sl 2 [],.sl 3 [],.sl 4 []])],ro:=[(0,.bool,true),(1,(.sl .int),false),(2,.mon,false),(3,.entry,false),(4,.entry,false)] })]
theorem zQp (a0:Host)(hb:zbQ big [aH a0])(hc:zeJ a0=true):∃N,zGj N a0=some [aB (zeI a0)]:=by
 have hm:CVB big (.s .mon a0.Mons):=(zcn hb).1 _ (by simp[AV.cvs,zbc])
 have hl:=hm.len;refine zb9 fun N hNN=>?_;unfold zGj zeI zbB oN nB
 conv=>zeta
 refine must rfl (stB fun h0=>must rfl (stB fun h1=>must rfl (stB fun h2=>must rfl (stB fun h3=>must rfl ?_))));refine (zX a0.Mons (fun i (t:lB)=>((i:Int),t,a0.Memory,a0.Mons,a0.Buffer,a0.IoBuffer,())) _ (fun _ (x:Mon) (u:List Bool) κ=>bif zdg x then goN (fun j u κ=>bif inb (j:Int) (ln x.Outer) then zrq (oF) (ix x.Outer (j:Int) zI) u κ else none) κ 8 0 u else oF) (fun (t:lB)=>(some [(.one (.b true))])) (fun i hi t rec=>?_) (fun t rec=>?_) _ ((rp 12 false)) (hNN hl)).trans ?_
 .simp only [zbs hi,zV hi,zbe hi,zQ hi hl,cT];cases h4:zdg a0.Mons[i]
  .simp only [zpS,zrk,h4,cT,cF]
  simp only[zpS,zrk,h4,cT,cF];refine (zFg 8 (fun j (u:lB)=>((i:Int),(j:Int),u,a0.Memory,a0.Mons,a0.Buffer,a0.IoBuffer,())) _ (fun j (u:List Bool) κ=>bif inb (j:Int) (ln a0.Mons[i].Outer) then zrq (oF) (ix a0.Mons[i].Outer (j:Int) zI) u κ else none) (fun (u:lB)=>(rec ((((i+1:Nat)):Int),(u,(a0.Memory,(a0.Mons,(a0.Buffer,(a0.IoBuffer,())))))))) (fun j hj u rec1=>?_) (fun u rec1=>?_) _ (t) (hNN (by decide))).trans ?_
  .simp only [show ilt (j:Int) 8=true from qL (by omega),zQ hj (show 8<=big by decide),cT,zV hi,zbe hi,zQ hi hl]
   unfold zrq;have e:ige (ix a0.Mons[i].Outer (j:Int) zI).Page 0 = !ilt (ix a0.Mons[i].Outer (j:Int) zI).Page 0:=by rw[z3T,Bool.not_not]
   simp only[e];cases ilt (ix a0.Mons[i].Outer (j:Int) zI).Page 0<;>cases inb (j:Int) (ln a0.Mons[i].Outer)<;>cases inb (ix a0.Mons[i].Outer (j:Int) zI).Page (ln u)<;>cases ix u (ix a0.Mons[i].Outer (j:Int) zI).Page false<;>rfl
  .simp only [show ilt (((8:Nat)):Int) 8=false from qQ (by omega),cF,zV hi,zbe hi,zQ hi hl]
  rfl
 .simp only [zbl,cF]
 have key:∀(l:List Mon) (i:Nat) (u:List Bool),u.length=12->goL (fun _ (x:Mon) (u:List Bool) κ=>bif zdg x then goN (fun j u κ=>bif inb (j:Int) (ln x.Outer) then zrq (oF) (ix x.Outer (j:Int) zI) u κ else none) κ 8 0 u else oF) (fun _=>oT) l i u=some [AV.one (.b (zgu l u))]:=by
  intro l
  induction l with
  | nil=>intro i u _;rfl
  | cons m l ih =>
   intro i u hu;simp only[goL,zgu];cases h1:zdg m
   .rfl
   .have ht:=zhq h1;have e8:0+8=m.Outer.length:=by have:=zmq ht;simp only[ln] at this;omega
    simp only[cT];rw[zEF _ _ m 8 0 u (zBL ht) hu e8,uZ,zwz _ _ _ _ _ (zBL ht) hu];cases h2:zfC m.Outer u with
    | none=>rfl
    | some u'=>exact ih (i+1) u' ((znG _ _ _ h2).trans hu)
 exact key _ _ _ rfl
theorem zJ0:vH 97 zAu:=hF1 zEw zl zq zy zRZ zQp
def zU4:zU:=[(97,zAu),(44,zAa)]++z1Z
theorem zrt:zD zU4:=zh zJ0 (zh zJI zEw)
theorem zHX {h:Host}(hh:zbB h=true):(h.Mons.length:Int)<=3:=by
 unfold zbB at hh;simp only[zcw]at hh;exact (zfg.1 hh.2.1).2
def zcl (h:Host)(m:Int):Bool:=bif zbB h then hasB m (ln h.Mons) else false
def zbJ (h:Host)(m p:Int):Bool:=bif zbB h then (cond (hasB m (ln h.Mons)) (hasB p 8) false) else false
theorem zLO {h:Host}(hh:zbB h=true)(m:Int):win m 0 (wsub .i64 (ln h.Mons) 1)=hasB m (ln h.Mons):=zoD (by have:=zHX hh;omega) m
theorem z6L (p:Int):win p 0 7=hasB p 8:=by
 unfold win ige ile hasB
 by_cases h1:0<=p<;>by_cases h2:p<8
 .rw [qL (p:=p≥0) (by omega),qL (p:=p<=7) (by omega),qL (p:=0<=p/\p<8) ⟨h1,h2⟩];rfl
 .rw [qQ (p:=p<=7) (by omega),qQ (p:=0<=p/\p<8) (by omega)];simp
 .rw [qQ (p:=p≥0) (by omega),qQ (p:=0<=p/\p<8) (by omega)];simp
 .rw [qQ (p:=p≥0) (by omega),qQ (p:=0<=p/\p<8) (by omega)];simp
@[simp] abbrev zeS (h:Host)(m:Int):Bool:=true
@[simp] abbrev zeR (h:Host)(m:Int):Bool:=zcl h m
def zAN:Run:=rF2 dH dI fun b c=>(zeS b c,[aB (zeR b c)])
def zGB (N:Nat)(a0:Host)(a1:Int):OA:=
 (oN (zeJ a0) (cond (zeI a0) (oN (zJ a1 0 (wsub .i64 (ln a0.Mons) 1)) (some [(aB (zL a1 0 (wsub .i64 (ln a0.Mons) 1)))])) oF))
theorem zQN (a0:Host)(a1:Int)(hc:zeS a0 a1=true):∃N,zGB N a0 a1=some [aB (zeR a0 a1)]:=by
 refine ⟨0,?_⟩;unfold zGB zeR zcl oN;cases hh:zbB a0
 .simp only [zeJ,zeI,hh,cT,cF]
 .simp only [zeJ,zeI,hh,cT,zJ,zOT,zLO hh]
theorem zKm:vH 257 zAN:=kF2 zrt zl zq zy (zx []) zQN
@[simp] abbrev zml (h:Host)(m p:Int):Bool:=true
@[simp] abbrev zgP (h:Host)(m p:Int):Bool:=zbJ h m p
def zDX:Run:=rF3 dH dI dI fun b c d=>(zml b c d,[aB (zgP b c d)])
def zL9 (N:Nat)(a0:Host)(a1 a2:Int):OA:=
 (oN (zeJ a0) (cond (zeI a0) (oN (zJ a1 0 (wsub .i64 (ln a0.Mons) 1)) (cond (zL a1 0 (wsub .i64 (ln a0.Mons) 1)) (oN (zJ a2 0 7) (some [(aB (zL a2 0 7))])) oF)) oF))
theorem zSV (a0:Host)(a1 a2:Int)(hc:zml a0 a1 a2=true):∃N,zL9 N a0 a1 a2=some [aB (zgP a0 a1 a2)]:=by
 refine ⟨0,?_⟩;unfold zL9 zgP zbJ oN;cases hh:zbB a0
 .simp only [zeJ,zeI,hh,cT,cF]
 .simp only [zeJ,zeI,hh,cT,zJ,zOT,zLO hh,z6L];cases hasB a1 (ln a0.Mons)<;>rfl
theorem zNz:vH 267 zDX:=kF3 zrt zl zq zy (zx []) zSV
@[simp] abbrev zug (h:Host)(m p:Int):Bool:=true
@[simp] abbrev zpI (h:Host)(m p:Int):Bool:=zbJ h m p
def zxO:Run:=rF3 dH dI dI fun b c d=>(zug b c d,[aB (zpI b c d)])
def zCI (N:Nat)(a0:Host)(a1 a2:Int):OA:=
 (oN (zkl a0) (cond (zlM a0) (oN (zdx a1 (ln a0.Mons)) (cond (zdP a1 (ln a0.Mons)) (oN (zdx a2 8) (some [(aB (zdP a2 8))])) oF)) oF))
theorem zNI (a0:Host)(a1 a2:Int)(hc:zug a0 a1 a2=true):∃N,zCI N a0 a1 a2=some [aB (zpI a0 a1 a2)]:=by
 refine ⟨0,?_⟩;unfold zCI zpI zbJ oN;cases hh:zbB a0
 .simp only [zkl,zlM,hh,cT,cF]
 .simp only [zkl,zlM,hh,cT,zdx,zdP];cases hasB a1 (ln a0.Mons)<;>rfl
theorem zHm:vH 80 zxO:=kF3 zrt zl zq zy (zx []) zNI
def z14:zU:=[(257,zAN),(267,zDX),(80,zxO)]++zU4
theorem zPt:zD z14:=zh zKm (zh zNz (zh zHm zrt))
def z5V:zU:=[(45,zlS),(46,zkZ),(47,zjO)]++zU4
theorem zZ5:zD z5V:=zh zzu (zh znI (zh zmK zrt))
theorem zDu:∀(l:List Mon) (u:List Bool),zgu l u=true->∀x∈l,zdg x=true
 | [],_,_,x,hx=>by cases hx
 | m :: l,u,h,x,hx=>by
  unfold zgu at h;cases hm:zdg m
  .rw [hm]at h;cases h
  .rw [hm]at h;simp only[cT]at h;cases hu:zfC m.Outer u with
   | none=>rw[hu]at h;cases h
   | some u' =>
    rw[hu]at h;rcases qG.1 hx with rfl|hx
    .exact hm
    .exact zDu l u' h x hx
theorem zDv {h:Host}(hh:zbB h=true):∀x∈h.Mons,zdg x=true:=by
 unfold zbB at hh;simp only[zcw]at hh;exact zDu _ _ hh.2.2.2.2
theorem z0Z {t:List Slot}{n:Int}(h:zco t n 12=true):∀s∈t,-1<=s.Page/\s.Page<12:=by
 intro s hs;unfold zco at h;simp only[zcw]at h;have h2:=qJ.1 h.1 s hs;unfold zc6 at h2;cases h3:zcd s noSlot
 .rw [h3]at h2;simp only[cF,zcw]at h2;have:=zfg.1 h2.2.1;rw[show wsub .i64 12 1=11 from rfl] at this
  omega
 .unfold zcd at h3;rw[qD]at h3;have:s.Page = -1:=qE h3.1;omega
theorem zMP:∀l:List Mon,(∀x∈l,zdg x=true)->zBC l=8*l.length
 | [],_=>rfl
 | m :: l,h=>by
  have h1:=zmq (zhq (h m (by simp)))
  have h2:=zMP l (fun x hx=>h x (by simp[hx]))
  simp only[zBC,qV,h2,ln] at *;omega
theorem zWM {h:Host}(hs:zbI h)(hh:zbB h=true):z4O h:=by
 refine ⟨hs,?_⟩;rw[zMP _ (zDv hh)];have:=zHX hh;omega
theorem zYv {h:Host}(hh:zbB h=true):zZh h:=by
 intro m hm s hs;have:=z0Z (zhq (zDv hh m hm)) s hs;unfold wf64 Lit.wf;simp only[qD,decide_eq_true_iff];have h1:IntKind.i64.min = -9223372036854775808:=rfl;have h2:IntKind.i64.max=9223372036854775807:=rfl;rw[h1,h2];omega
def zsr (h:Host):Bool:=bif zbB h then (cond (zqQ h) (cond (zlv h) (cond (zjt h h.Buffer) (zjt h h.IoBuffer) false) false) false) else false
@[simp] abbrev zrP (h:Host):Bool:=pc (zbI h)
@[simp] abbrev zmN (h:Host):Bool:=zsr h
def zvy:Run:=rF1 dH fun b=>(zrP b,[aB (zmN b)])
def zyE (N:Nat)(a0:Host):OA:=
 (oN (zkl a0) (cond (zlM a0) (oN (zvi a0) (cond (zzI a0) (oN (zmP a0) (cond (zgL a0) (oN (zik a0 a0.Buffer) (cond (ze8 a0 a0.Buffer) (oN (zik a0 a0.IoBuffer) (some [(aB (ze8 a0 a0.IoBuffer))])) oF)) oF)) oF)) oF))
theorem zKw (a0:Host)(hc:zrP a0=true):∃N,zyE N a0=some [aB (zmN a0)]:=by
 have hs:=zF.1 hc;have hA:zbB a0=true->z4O a0:=zWM hs;have hP:zbB a0=true->zZh a0:=zYv
 refine ⟨0,?_⟩;unfold zyE oN;refine must rfl (br (fun _=>mu (br (fun _=>must rfl (br (fun _=>must rfl (br (fun _=>must rfl ?_) (fun _=>?_))) (fun _=>?_))) (fun _=>?_))) (fun _=>?_))
 all_goals first|rfl|(simp only [*,zmN,zsr,zgL,ze8,cT,cF]<;>rfl)|simp_all[Ty.cells,zmN,zsr,zgL,ze8]
theorem zEJ:vH 16 zvy:=kF1 zZ5 zl zq zy (zx []) zKw
def zcY (k:Kept)(p:Int):Bool:=bif hasB p (ln k.Known) then hasB p (ln k.Slots) else false
def zbG (k:Kept)(p:Int):Kept:=bif zcY k p then ⟨up k.Known p false,up k.Slots p noSlot⟩ else k
@[simp] theorem znF {k:Kept}{p:Int}(h:SmK k):SmK (zbG k p):=by
 unfold zbG;cases zcY k p
 .exact h
 .exact ⟨by simpa using h.1,by simpa using h.2⟩
theorem has_lt {p:Int}{n m:Int}(h:hasB p n=true):ilt p m=hasB p m:=by
 have h:=qE h;unfold ilt hasB
 by_cases h1:p<m
 .rw [qL h1,qL ⟨h.1,h1⟩]
 .rw [qQ h1,qQ (by omega)]
@[simp] abbrev znz (k:Kept)(p:Int):Bool:=pc (SmK k)
@[simp] abbrev zhy (k:Kept)(p:Int):Bool:=zcY k p
def zAL:Run:=rF2 (dT .kept) dI fun b c=>(znz b c,[aB (zhy b c)])
def zGz (N:Nat)(a0:Kept)(a1:Int):OA:=
 (oN (zJ a1 0 (wsub .i64 (ln a0.Known) 1)) (cond (zL a1 0 (wsub .i64 (ln a0.Known) 1)) (some [(aB (ilt a1 (ln a0.Slots)))]) oF))
theorem zQH (a0:Kept)(a1:Int)(hc:znz a0 a1=true):∃N,zGz N a0 a1=some [aB (zhy a0 a1)]:=by
 have hs:=zF.1 hc;refine ⟨0,?_⟩;unfold zGz zhy zcY oN;simp only[zJ,zOT,zoD hs.1,cT];cases hh:hasB a1 (ln a0.Known)
 .rfl
 .simp only [cT,has_lt hh]
theorem zKg:vH 158 zAL:=kF2 zPt zl zq zy (zx []) zQH
def z15:zU:=[(158,zAL)]++z14
theorem zEx:zD z15:=zh zKg zPt
@[simp] abbrev zkC (k:Kept)(p:Int):Bool:=pc (SmK k)
@[simp] abbrev zjQ (k:Kept)(p:Int):Kept:=zbG k p
def zAs:Run:=rF2 (dT .kept) dI fun b c=>(zkC b c,[aT .kept (zjQ b c)])
def zGh (N:Nat)(a0:Kept)(a1:Int):OA:=
 let y0:=(zc7 a0); (oN (zfk a0) (oN (znz y0 a1) (cond (zhy y0 a1) (oN (inb a1 (ln y0.Known)) (share (up y0.Known a1 false) (fun x3=>(oN zck (oN (inb a1 (ln y0.Slots)) (share (up y0.Slots a1 zbo) (fun x4=>(some [(aT .kept (⟨x3,x4⟩:Kept))])))))))) (some [(aT .kept y0)]))))
theorem zQn (a0:Kept)(a1:Int)(hc:zkC a0 a1=true):∃N,zGh N a0 a1=some [aT .kept (zjQ a0 a1)]:=by
 have hs:=zF.1 hc;refine ⟨0,?_⟩;unfold zGh zjQ oN
 conv=>zeta
 refine must (zby ((zuY _).2 hs)) (must (zby hs) ?_);unfold zbG;cases hh:zcY a0 a1
 .simp only [zhy,zc7,hh,cF]
 .simp only [zhy,zc7,hh,cT];unfold zcY at hh;obtain ⟨h1,h2⟩:=zcw.1 hh;simp only[zPY,h1,h2,cT,share,zck]
theorem zJY:vH 262 zAs:=kF2 zEx zl zq zy (zx []) zQn
@[simp] abbrev zwG (k:Kept)(p:Int):Bool:=pc (SmK k)
@[simp] abbrev zrL (k:Kept)(p:Int):Kept:=zbG k p
def zz8:Run:=rF2 (dT .kept) dI fun b c=>(zwG b c,[aT .kept (zrL b c)])
def zFZ (N:Nat)(a0:Kept)(a1:Int):OA:=
 let y0:=(zdn a0); (oN (zgw a0) (oN (zdx a1 (ln a0.Known)) (cond (zdP a1 (ln a0.Known)) (oN (zdx a1 (ln a0.Slots)) (cond (zdP a1 (ln a0.Slots)) (oN (inb a1 (ln y0.Known)) (share (up y0.Known a1 false) (fun x3=>(oN zcy (oN (inb a1 (ln y0.Slots)) (share (up y0.Slots a1 zbX) (fun x4=>(some [(aT .kept (⟨x3,x4⟩:Kept))])))))))) (some [(aT .kept y0)]))) (some [(aT .kept y0)]))))
theorem zP4 (a0:Kept)(a1:Int)(hc:zwG a0 a1=true):∃N,zFZ N a0 a1=some [aT .kept (zrL a0 a1)]:=by
 have hs:=zF.1 hc;refine ⟨0,?_⟩;unfold zFZ zrL oN
 conv=>zeta
 refine must (zby hs) (must rfl ?_);unfold zbG zcY;simp only[zdP,zdx,zdn,zPY,share,zcy,cT];cases hasB a1 (ln a0.Known)
 .rfl
 .cases hasB a1 (ln a0.Slots)<;>rfl
theorem zJG:vH 228 zz8:=kF2 zEx zl zq zy (zx []) zP4
def z16:zU:=[(262,zAs),(228,zz8)]++z15
theorem zru:zD z16:=zh zJY (zh zJG zEx)
def zd2 (k:Kept)(l:List Int):Kept:=l.foldl zbG k
theorem zUx:∀(l:List Int) {k:Kept},SmK k->SmK (zd2 k l)
 | [],_,h=>h
 | p :: l,k,h=>zUx l (znF (p:=p) h)
theorem zwy {ρ:Type}(K:List Bool×List Slot->Option ρ):∀(l:List Int) (i:Nat) (k:Kept),SmK k ->
 goL (fun _ x (t:List Bool×List Slot) κ=>bif pc (SmK ⟨t.1,t.2⟩) then κ ((zbG ⟨t.1,t.2⟩ x).Known,(zbG ⟨t.1,t.2⟩ x).Slots) else none) K l i (k.Known,k.Slots)=K ((zd2 k l).Known,(zd2 k l).Slots)
 | [],_,_,_=>rfl
 | x :: l,i,k,h=>by
  have e:pc (SmK ⟨k.Known,k.Slots⟩)=true:=zby h;simp only[goL,e,cT];exact zwy K l (i+1) (zbG k x) (znF h)
def zBd (l:List Slot)(p:Int):List Int:=idxs (fun (s:Slot)=>ieq s.Page p) l 0
def zgW (k:Kept)(l:List Slot)(p:Int):Kept:=zd2 k (zBd l p)
theorem z07 {k:Kept}(l:List Slot)(p:Int)(h:SmK k):SmK (zgW k l p):=zUx _ h
@[simp] abbrev zkB (k:Kept)(l:List Slot)(p:Int):Bool:=pc (SmK k/\l.length<=1048576)
@[simp] abbrev zse (k:Kept)(l:List Slot)(p:Int):Kept:=zgW k l p
def zr4:Run:=rF3 (dT .kept) (dS .slot) dI fun b c d=>(zkB b c d,[aT .kept (zse b c d)])
def zuU (N:Nat)(a0:Kept)(a1:lS)(a2:Int):OA:=
 (oN (zfk a0) (oN (zxe a1 a2) (iter (σ:=(Int×((List Int)×(lB×(lS×(lB×(lS×Unit))))))) N (fun r4 s5=>let y1:=(ix s5.2.1 s5.1 0);let y0:=(⟨s5.2.2.1,s5.2.2.2.1⟩:Kept); (cond (ilt s5.1 (ln s5.2.1)) (oN (inb s5.1 (ln s5.2.1)) (oN (zkC y0 y1) (r4 ((zG .i64 s5.1 1),(s5.2.1,((zjQ y0 y1).Known,((zjQ y0 y1).Slots,(s5.2.2.2.2.1,(s5.2.2.2.2.2.1,()))))))))) (some [(aT .kept y0)]))) (0,((zot a1 a2),((zc7 a0).Known,((zc7 a0).Slots,([],([],())))))))))
def zFT:FuncId->Nat->Option Tmpl:=zx [(220,0,{ n:=27,tm:=[(3,.lp 0 0),(6,.lp 1 0),(7,.sl 0 []),(8,ti)],lo:=[(0,[.sl 1 [],.sl 2 []]),(1,[.sl 3 [],.sl 4 []])],ro:=[(0,.int,true),(1,.bool,true),(2,.slot,true),(3,.bool,true),(4,.slot,true)] })]
theorem zFr (a0:Kept)(a1:List Slot)(a2:Int)(hc:zkB a0 a1 a2=true):∃N,zuU N a0 a1 a2=some [aT .kept (zse a0 a1 a2)]:=by
 obtain ⟨hs,hs2⟩:=zF.1 hc;have hl:(zot a1 a2).length<=big:=jE (zwO _ a1 0) (zcF hs2).1;refine zb9 fun N hNN=>?_;unfold zuU oN
 conv=>zeta
 refine must (zby ((zuY _).2 hs)) (must (zby (by omega)) ?_)
 refine (zX (zot a1 a2) (fun i (t:lB×lS)=>((i:Int),(zot a1 a2),t.1,t.2,[],[],())) _ (fun _ (x:Int) (t:List Bool×List Slot) κ=>bif pc (SmK ⟨t.1,t.2⟩) then κ ((zbG ⟨t.1,t.2⟩ x).Known,(zbG ⟨t.1,t.2⟩ x).Slots) else none) (fun (t:lB×lS)=>(some [(.agg (Ty.cells .kept (⟨t.1,t.2⟩:Kept)))])) (fun i hi t rec=>?_) (fun t rec=>?_) _ ((zc7 a0).Known,(zc7 a0).Slots) (hNN hl)).trans ?_
 .simp only [zbs hi,zV hi,zbe hi,zQ hi hl,cT]
 .simp only [zbl,cF]
 exact zwy _ _ 0 a0 hs
theorem zzA:vH 220 zr4:=kF3 zru zl zq zy zFT zFr
@[simp] abbrev zn0 (k:Kept)(l:List Slot)(p:Int):Bool:=pc (SmK k/\l.length<=1048576)
@[simp] abbrev zrM (k:Kept)(l:List Slot)(p:Int):Kept:=zgW k l p
def zrZ:Run:=rF3 (dT .kept) (dS .slot) dI fun b c d=>(zn0 b c d,[aT .kept (zrM b c d)])
def zuO (N:Nat)(a0:Kept)(a1:lS)(a2:Int):OA:=
 (oN (zgw a0) (oN (zwL a1 a2) (iter (σ:=(Int×(Int×((List Int)×(lB×(lS×(lB×(lS×Unit)))))))) N (fun r4 s5=>let y1:=(ix s5.2.2.1 s5.2.1 0);let y0:=(⟨s5.2.2.2.2.2.1,s5.2.2.2.2.2.2.1⟩:Kept); (cond (ilt s5.2.1 s5.1) (oN (inb s5.2.1 (ln s5.2.2.1)) (oN (zwG y0 y1) (r4 (s5.1,((zG .i64 s5.2.1 1),(s5.2.2.1,(s5.2.2.2.1,(s5.2.2.2.2.1,((zrL y0 y1).Known,((zrL y0 y1).Slots,())))))))))) (some [(aT .kept y0)]))) ((ln (zjz a1 a2)),(0,((zjz a1 a2),([],([],((zdn a0).Known,((zdn a0).Slots,()))))))))))
def zFP:FuncId->Nat->Option Tmpl:=zx [(178,0,{ n:=25,tm:=[(6,.lp 0 0),(7,.lp 1 0),(14,.sl 0 []),(15,ti),(16,ti)],lo:=[(0,[.sl 1 [],.sl 2 []]),(1,[.sl 3 [],.sl 4 []])],ro:=[(0,.int,true),(1,.bool,true),(2,.slot,true),(3,.bool,true),(4,.slot,true)] })]
theorem zFj (a0:Kept)(a1:List Slot)(a2:Int)(hc:zn0 a0 a1 a2=true):∃N,zuO N a0 a1 a2=some [aT .kept (zrM a0 a1 a2)]:=by
 obtain ⟨hs,hs2⟩:=zF.1 hc;have hl:(zjz a1 a2).length<=big:=jE (zwO _ a1 0) (zcF hs2).1;refine zb9 fun N hNN=>?_;unfold zuO oN
 conv=>zeta
 refine must (zby hs) (must (zby (by omega)) ?_)
 refine (zX (zjz a1 a2) (fun i (t:lB×lS)=>((ln (zjz a1 a2)),(i:Int),(zjz a1 a2),[],[],t.1,t.2,())) _ (fun _ (x:Int) (t:List Bool×List Slot) κ=>bif pc (SmK ⟨t.1,t.2⟩) then κ ((zbG ⟨t.1,t.2⟩ x).Known,(zbG ⟨t.1,t.2⟩ x).Slots) else none) (fun (t:lB×lS)=>(some [(.agg (Ty.cells .kept (⟨t.1,t.2⟩:Kept)))])) (fun i hi t rec=>?_) (fun t rec=>?_) _ ((zdn a0).Known,(zdn a0).Slots) (hNN hl)).trans ?_
 .simp only [zbs hi,zV hi,zbe hi,zQ hi hl,cT]
 .simp only [zbl,cF]
 exact zwy _ _ 0 a0 hs
theorem zzt:vH 178 zrZ:=kF3 zru zl zq zy zFP zFj
def flushed (l:List Entry)(p:Int):List Entry:=l.filter fun e=>!ieq e.Host p
theorem zDl (l:List Entry)(p:Int):(flushed l p).length<=l.length:=k9 _ _
theorem zmH {α ρ:Type}(p:α->Bool)(K:List α->Option ρ):∀(l:List α) (i:Nat) (acc:List α),acc.length+l.length<=2147483648 ->
 goL (fun _ x acc κ=>bif p x then (cond (few (ln (ap acc [x]))) (κ (ap acc [x])) none) else κ acc) K l i acc=K (acc++l.filter p)
 | [],i,acc,_=>by simp[goL]
 | x :: l,i,acc,h=>by
  simp only[qV]at h;simp only[goL];cases hp:p x
  .rw [cF,zmH p K l (i+1) acc (by omega),List.filter_cons_of_neg (by simp[hp])]
  .rw [cT,zgs (by simp[ap];omega),cT,zmH p K l (i+1) _ (by simp[ap];omega),List.filter_cons_of_pos hp]
   simp[ap]
@[simp] abbrev zgO (l:List Entry)(p:Int):Bool:=pc (l.length<=1048576)
@[simp] abbrev zo5 (l:List Entry)(p:Int):List Entry:=flushed l p
def ztp:Run:=rF2 (dS .entry) dI fun b c=>(zgO b c,[aS .entry (zo5 b c)])
def zxA (N:Nat)(a0:lE)(a1:Int):OA:=
 (iter (σ:=(Int×(Int×(lE×(lE×Unit))))) N (fun r3 s4=>let y1:=s4.2.2.1;let y0:=(ix y1 s4.2.1 zdD); (cond (ilt s4.2.1 (ln y1)) (oN (inb s4.2.1 (ln y1)) (cond (ine y0.Host s4.1) (oN (inb s4.2.1 (ln y1)) (oN (few (ln (ap s4.2.2.2.1 [y0]))) (r3 (s4.1,((zG .i64 s4.2.1 1),(y1,((ap s4.2.2.2.1 [y0]),()))))))) (r3 (s4.1,((zG .i64 s4.2.1 1),(y1,(s4.2.2.2.1,()))))))) (some [(aS .entry s4.2.2.2.1)]))) (a1,(0,(a0,([],())))))
def zJf:FuncId->Nat->Option Tmpl:=zx [(221,0,{ n:=29,tm:=[(0,.sl 0 []),(1,ti),(5,.sl 1 []),(6,ti)],lo:=[],ro:=[(0,.entry,false),(1,.entry,true)] })]
theorem zId (a0:List Entry)(a1:Int)(hc:zgO a0 a1=true):∃N,zxA N a0 a1=some [aS .entry (zo5 a0 a1)]:=by
 have hs:=zF.1 hc;have hl:=zcF hs;refine zb9 fun N hNN=>?_;unfold zxA oN
 conv=>zeta
 refine (zX a0 (fun i (t:lE)=>(a1,(i:Int),a0,t,())) _ (fun _ (x:Entry) (t:List Entry) κ=>bif !ieq x.Host a1 then (cond (few (ln (ap t [x]))) (κ (ap t [x])) none) else κ t) (fun (t:lE)=>(some [(.one (.s .entry t))])) (fun i hi t rec=>?_) (fun t rec=>?_) _ ([]) (hNN hl.1)).trans ?_
 .simp only [zbs hi,zV hi,zbe hi,zQ hi hl.1,cT];rfl
 .simp only [zbl,cF]
 exact zmH (fun e=>!ieq e.Host a1) _ a0 0 [] (by simpa using hl.2)
theorem zB0:vH 221 ztp:=kF2 zru zl zq zy zJf zId
@[simp] abbrev zgK (l:List Entry)(p:Int):Bool:=pc (l.length<=1048576)
@[simp] abbrev ziU (l:List Entry)(p:Int):List Entry:=flushed l p
def zti:Run:=rF2 (dS .entry) dI fun b c=>(zgK b c,[aS .entry (ziU b c)])
def zxt (N:Nat)(a0:lE)(a1:Int):OA:=
 (iter (σ:=(Int×(Int×(Int×(lE×(lE×Unit)))))) N (fun r3 s4=>let y1:=s4.2.2.2.2.1;let y0:=(ix y1 s4.2.1 zdD); (cond (ilt s4.2.1 s4.1) (oN (inb s4.2.1 (ln y1)) (cond (nB (ieq y0.Host s4.2.2.1)) (oN (few (ln (ap s4.2.2.2.1 [y0]))) (r3 (s4.1,((zG .i64 s4.2.1 1),(s4.2.2.1,((ap s4.2.2.2.1 [y0]),(y1,()))))))) (r3 (s4.1,((zG .i64 s4.2.1 1),(s4.2.2.1,(s4.2.2.2.1,(y1,())))))))) (some [(aS .entry s4.2.2.2.1)]))) ((ln a0),(0,(a1,([],(a0,()))))))
def zJd:FuncId->Nat->Option Tmpl:=zx [(209,0,{ n:=25,tm:=[(1,.fn 229 [0]),(5,.sl 0 []),(9,.sl 1 []),(10,ti),(11,ti)],lo:=[(0,[ti])],ro:=[(0,.entry,true),(1,.entry,false)] })]
theorem zH5 (a0:List Entry)(a1:Int)(hc:zgK a0 a1=true):∃N,zxt N a0 a1=some [aS .entry (ziU a0 a1)]:=by
 have hs:=zF.1 hc;have hl:=zcF hs;refine zb9 fun N hNN=>?_;unfold zxt oN nB
 conv=>zeta
 refine (zX a0 (fun i (t:lE)=>((ln a0),(i:Int),a1,t,a0,())) _ (fun _ (x:Entry) (t:List Entry) κ=>bif !ieq x.Host a1 then (cond (few (ln (ap t [x]))) (κ (ap t [x])) none) else κ t) (fun (t:lE)=>(some [(.one (.s .entry t))])) (fun i hi t rec=>?_) (fun t rec=>?_) _ ([]) (hNN hl.1)).trans ?_
 .simp only [zbs hi,zV hi,zbe hi,zQ hi hl.1,cT];cases ieq a0[i].Host a1<;>rfl
 .simp only [zbl,cF]
 exact zmH (fun e=>!ieq e.Host a1) _ a0 0 [] (by simpa using hl.2)
theorem zBS:vH 179 zti:=kF2 zru zl zq zy zJd zH5
def zU5:zU:=[(220,zr4),(178,zrZ),(221,ztp),(179,zti)]++z16
theorem zEy:zD zU5:=zh zzA (zh zzt (zh zB0 (zh zBS zru)))
def zj6 (gs:List Guest)(p:Int):Nat->List Kept->List Kept
 | 0,ts=>ts
 | n+1,ts=>up (zj6 gs p n ts) (n:Int) (zgW (ix (zj6 gs p n ts) (n:Int) zdd) (ix gs (n:Int) zA).Live p)
theorem zoA (gs:List Guest)(p:Int):∀(n:Nat) (ts:List Kept),(zj6 gs p n ts).length=ts.length
 | 0,_=>rfl
 | n+1,ts=>by simp only[zj6,zfS];exact zoA gs p n ts
theorem zt0 (gs:List Guest)(p:Int):∀(n:Nat) (ts:List Kept),n<=ts.length->zy5 ts->zy5 (zj6 gs p n ts)
 | 0,_,_,h=>h
 | n+1,ts,hn,h=>by
  have ih:=zt0 gs p n ts (by omega) h
  have hl:n<(zj6 gs p n ts).length:=by rw[zoA];omega
  exact zv6 ih (z07 _ _ (by rw[zbe hl];exact ih.2 _ (jB hl)))
def zje (x:Mon)(p:Int)(n:Nat):Mon:={ x with Tables:=zj6 x.Guests p n x.Tables }
theorem zYZ {x:Mon}{p:Int}{n:Nat}(hn:n<=x.Tables.length)(h:ze4 x):ze4 (zje x p n):=⟨h.1,h.2.1,h.2.2.1,h.2.2.2.1,h.2.2.2.2.1,zt0 _ _ _ _ hn h.2.2.2.2.2⟩
def zbU (h:Host)(m p:Int)(s:Slot):Host :=
 bif ine (ix (ix h.Mons m zf).Outer p zI).Page (-1)
 then ⟨h.Memory,up h.Mons m { zje (ix h.Mons m zf) p (ix h.Mons m zf).Tables.length with Outer:=up (ix h.Mons m zf).Outer p s },flushed h.Buffer (ix (ix h.Mons m zf).Outer p zI).Page,flushed h.IoBuffer (ix (ix h.Mons m zf).Outer p zI).Page⟩
 else ⟨h.Memory,up h.Mons m { zje (ix h.Mons m zf) p (ix h.Mons m zf).Tables.length with Outer:=up (ix h.Mons m zf).Outer p s },h.Buffer,h.IoBuffer⟩
def z4Q (h:Host)(m p:Int):Prop:=hasB m (ln h.Mons)=true/\hasB p (ln (ix h.Mons m zf).Outer)=true/\(ix h.Mons m zf).Tables.length<=(ix h.Mons m zf).Guests.length
@[simp] abbrev zeA (h:Host)(m p:Int)(s:Slot):Bool:=pc (zbI h/\z4Q h m p)
@[simp] abbrev zf8 (h:Host)(m p:Int)(s:Slot):Host:=zbU h m p s
def zqi:List AV->Option (Bool×List AV)
 | [.agg [.s (.sl .int) b,.s .mon c,.s .entry d,.s .entry e],.one (.i .i64 f),.one (.i .i64 g),.agg [.i .i64 h,.i .i64 j]]=>some ((zeA (⟨b,c,d,e⟩:Host) f g (⟨h,j⟩:Slot)),[aH (zf8 (⟨b,c,d,e⟩:Host) f g (⟨h,j⟩:Slot))])
 | _=>none
def zt4 (N:Nat)(a0:Host)(a1 a2:Int)(a3:Slot):OA:=
 let y7:=(ix a0.Mons a1 zf); (oN (inb a1 (ln a0.Mons)) (oN (inb a2 (ln y7.Outer)) (iter (σ:=(Int×(Int×(Int×(Int×(Int×(Int×(Int×(Int×(Int×(Int×(Int×(Int×(Int×(Int×(Int×(lM×(lN×(lE×(lE×(lM×(lN×(lE×(lE×Unit)))))))))))))))))))))))) N (fun r5 s6=>let y19:=s6.2.2.1;let y18:=s6.2.2.2.2.2.2.2.2.2.2.2.1;let y17:=s6.2.2.2.2.2.2.2.2.2.2.2.2.1;let y15:=s6.2.2.2.2.2.2.2.2.2.2.2.2.2.2.1;let y14:=s6.2.2.2.2.2.2.2.2.2.2.2.2.2.2.2.1;let y13:=s6.2.2.2.2.2.2.2.1;let y11:=s6.2.2.2.2.2.2.2.2.1;let y10:=s6.2.2.2.1;let y9:=s6.2.2.2.2.2.2.2.2.2.2.1;let y8:=s6.2.2.2.2.2.2.2.2.2.2.2.2.2.2.2.2.2.1;let y6:=s6.2.2.2.2.2.2.2.2.2.2.2.2.2.2.2.2.2.2.1;let y5:=s6.2.2.2.2.2.2.1;let y3:=s6.2.2.2.2.2.2.2.2.2.1;let y1:=s6.2.2.2.2.2.2.2.2.2.2.2.2.2.1;let y0:=s6.2.2.2.2.2.2.2.2.2.2.2.2.2.2.2.2.1;let y20:=(ix y0 y3 zf).Guests;let y16:=(ix y20 y10 zA).Live;let y12:=(ix y0 y5 zf);let y4:=(ix y0 y1 zf).Tables;let y2:=(up y0 y5 ({ y12 with Outer:=(up y12.Outer s6.2.1 (⟨s6.2.2.2.2.1,s6.2.2.2.2.2.1⟩:Slot)) }:Mon)); (cond (ilt y10 (ln y4)) (oN (inb y10 (ln y4)) (oN (inb y10 (ln y20)) (oN (zkB (ix y4 y10 zdd) y16 s6.2.1) (oN (inb y10 (ln y4)) (share (up y0 y1 ({ (ix y0 y1 zf) with Tables:=(up y4 y10 (zse (ix y4 y10 zdd) y16 s6.2.1)) }:Mon)) (fun x7=>(r5 (s6.1,(s6.2.1,(y19,((zG .i64 y10 1),(s6.2.2.2.2.1,(s6.2.2.2.2.2.1,(y5,(y13,(y11,(y3,(y9,(y18,(y17,(y1,(y15,(y14,(x7,(y8,(y6,(s6.2.2.2.2.2.2.2.2.2.2.2.2.2.2.2.2.2.2.2.1,(s6.2.2.2.2.2.2.2.2.2.2.2.2.2.2.2.2.2.2.2.2.1,(s6.2.2.2.2.2.2.2.2.2.2.2.2.2.2.2.2.2.2.2.2.2.1,(s6.2.2.2.2.2.2.2.2.2.2.2.2.2.2.2.2.2.2.2.2.2.2.1,())))))))))))))))))))))))))))))) (cond (ine y19 (-1)) (oN (zgO y8 y19) (oN (zgO y6 y19) (oN (inb s6.2.1 (ln y12.Outer)) (share y2 (fun x7=>(oN (inb s6.1 (ln x7)) (oN (cond (cond (cond (cond (cond (cond (ieq y1 s6.1) true false) (cond (ieq y9 s6.1) true false) false) (cond (ieq y3 s6.1) true false) false) (cond (ieq y11 s6.1) true false) false) (cond (ieq y13 s6.1) true false) false) (cond (ieq y5 s6.1) true false) false) (share (up x7 s6.1 ({ (ix x7 y5 zf) with Out:=(ix x7 y13 zf).Out,Dirty:=(ix x7 y11 zf).Dirty,Guests:=(ix x7 y3 zf).Guests,Outs:=(ix x7 y9 zf).Outs,Pending:=y18,Traps:=y17,Tables:=(ix x7 y1 zf).Tables,Own:=y15 }:Mon)) (fun x8=>(some [(aH (⟨y14,x8,(zo5 y8 y19),(zo5 y6 y19)⟩:Host))])))))))))) (oN (inb s6.2.1 (ln y12.Outer)) (share y2 (fun x7=>(oN (inb s6.1 (ln x7)) (oN (cond (cond (cond (cond (cond (cond (ieq y1 s6.1) true false) (cond (ieq y9 s6.1) true false) false) (cond (ieq y3 s6.1) true false) false) (cond (ieq y11 s6.1) true false) false) (cond (ieq y13 s6.1) true false) false) (cond (ieq y5 s6.1) true false) false) (share (up x7 s6.1 ({ (ix x7 y5 zf) with Out:=(ix x7 y13 zf).Out,Dirty:=(ix x7 y11 zf).Dirty,Guests:=(ix x7 y3 zf).Guests,Outs:=(ix x7 y9 zf).Outs,Pending:=y18,Traps:=y17,Tables:=(ix x7 y1 zf).Tables,Own:=y15 }:Mon)) (fun x8=>(some [(aH (⟨y14,x8,y8,y6⟩:Host))]))))))))))) (a1,(a2,((ix y7.Outer a2 zI).Page,(0,(a3.Page,(a3.Rights,(a1,(a1,(a1,(a1,(a1,(y7.Pending,(y7.Traps,(a1,(y7.Own,(a0.Memory,(a0.Mons,(a0.Buffer,(a0.IoBuffer,([],([],([],([],()))))))))))))))))))))))))))
def zOB:FuncId->Nat->Option Tmpl:=zx [(160,0,{ n:=70,tm:=[(1,ti),(2,ti),(4,.lp 0 0),(7,.lp 1 0),(8,.lp 2 0),(9,.lp 3 0),(10,ti),(11,ti)],lo:=[(0,[.sl 0 [],.sl 1 [],.sl 2 [],.sl 3 []]),(1,[ti,ti]),(2,[.sl 4 [],.sl 5 [],.sl 6 [],.sl 7 []]),(3,[.sl 1 [0],.sl 1 [1],.sl 1 [2],.sl 1 [3],.sl 1 [4],ti,ti,.sl 1 [7],ti])],ro:=[(0,(.sl .int),true),(1,.mon,true),(2,.entry,true),(3,.entry,true),(4,(.sl .int),true),(5,.mon,true),(6,.entry,true),(7,.entry,true)] })]
theorem zQ4 (N:Nat)(a0:Host)(a1 a2:Int)(a3:Slot):zBp (cQ zU5 zn6 zLi zj7) zOB N 12 160 [true,true,true,true,false,false,false,false] 1 1 [[0],[1],[2],[4],[7]] .mon [aH a0,aI a1,aI a2,aT .slot a3]=zt4 N a0 a1 a2 a3:=by kernel_rfl
theorem zOh (a0:Host)(a1 a2:Int)(a3:Slot)(hb:zbQ big [aH a0,aI a1,aI a2,aT .slot a3])(hc:zeA a0 a1 a2 a3=true):∃N,zt4 N a0 a1 a2 a3=some [aH (zf8 a0 a1 a2 a3)]:=by
 obtain ⟨hs,h1,h2,h3⟩:=zF.1 hc;have hH:=(zN a0).1 hs;have hm:ze4 (ix a0.Mons a1 zf):=hH.2.1.2 _ (zbq h1 _);obtain ⟨k,rfl,hk⟩:=zdj (n:=a0.Mons.length) h1;have hT:=(zcF hm.2.2.2.2.2.1).1;refine zb9 fun N hNN=>?_;unfold zt4 oN
 conv=>zeta
 refine must h1 (must h2 ?_);refine zBy (ix a0.Mons (k:Int) zf).Tables.length (fun i (t:List Mon)=>((k:Int),a2,(ix (ix a0.Mons (k:Int) zf).Outer a2 zI).Page,(i:Int),a3.Page,a3.Rights,(k:Int),(k:Int),(k:Int),(k:Int),(k:Int),(ix a0.Mons (k:Int) zf).Pending,(ix a0.Mons (k:Int) zf).Traps,(k:Int),(ix a0.Mons (k:Int) zf).Own,a0.Memory,t,a0.Buffer,a0.IoBuffer,[],[],[],[],())) _
  (fun i t=>t=up a0.Mons (k:Int) (zje (ix a0.Mons (k:Int) zf) a2 i)) (fun _ _=>some [AV.agg (zbc (zbU a0 (k:Int) a2 a3))]) (fun i t rec hi hI hr=>?_) (fun t rec hI=>?_) _ 0 a0.Mons ?_ (jS _) ?_
 .subst hI;have hi2:i<(zj6 (ix a0.Mons (k:Int) zf).Guests a2 i (ix a0.Mons (k:Int) zf).Tables).length:=by rw[zoA];exact hi
  have hi3:i<(ix a0.Mons (k:Int) zf).Guests.length:=by omega
  have hf:zkB (ix (zj6 (ix a0.Mons (k:Int) zf).Guests a2 i (ix a0.Mons (k:Int) zf).Tables) (i:Int) zdd) (ix (ix a0.Mons (k:Int) zf).Guests (i:Int) zA).Live a2=true :=
   zby ⟨by rw[zbe hi2];exact (zt0 _ _ _ _ (by omega) hm.2.2.2.2.2).2 _ (jB hi2),by rw[zbe hi3];exact (hm.2.2.2.1.2 _ (jB hi3)).2.2.1⟩
  simp only[zdv hk,zt2,zje,zbs hi2,zV hi2,zV hi3,hf,cT,share,zQ hi hT];exact hr _ rfl
 .subst hI;simp only[zdv hk,zt2,zfS,zje,ln,zoA,zFf,show ilt (((ix a0.Mons (k:Int) zf).Tables.length:Nat):Int) (((ix a0.Mons (k:Int) zf).Tables.length:Nat):Int)=false from qQ (by omega),cT,cF,share]
  have h1':inb (k:Int) ((a0.Mons.length:Nat):Int)=true:=h1;have h2':inb a2 (((ix a0.Mons (k:Int) zf).Outer.length:Nat):Int)=true:=h2;have f1:zgO a0.Buffer (ix (ix a0.Mons (k:Int) zf).Outer a2 zI).Page=true:=zby hH.2.2.1;have f2:zgO a0.IoBuffer (ix (ix a0.Mons (k:Int) zf).Outer a2 zI).Page=true:=zby hH.2.2.2;simp only[h1',h2',f1,f2,cT];unfold zbU;cases ine (ix (ix a0.Mons (k:Int) zf).Outer a2 zI).Page (-1)<;>rfl
 .exact (zLK hk _).symm
 .exact hNN (by omega)
theorem zHR:zdp Tryz.prog 160 [true,true,true,true,false,false,false,false] (some (1,1,[[0],[1],[2],[4],[7]])) zqi:=by
 refine zki (kt:=.mon) (zcW zEy zl zq zy) (zdN (by kernel_rfl)) (by kernel_rfl) ?_
 intro avs rs hl hr h;have hb:=zhE hr;unfold zqi at h;split at h
 .obtain ⟨hc,rfl⟩:=zdJ h;obtain ⟨N,hN⟩:=zOh _ _ _ _ (by exact hb) hc
  exact ⟨⟨_,rfl⟩,rfl,_,N,12,(zQ4 N _ _ _ _ ).trans hN⟩
 .cases h
def zRO:ze3:=[(160,([true,true,true,true,false,false,false,false],(some (1,1,[[0],[1],[2],[4],[7]])),zqi))]++zj7
theorem zdX:zdY zRO:=zl5 zy (by
 intro x hx;simp only[qG,qY,or_false]at hx;rcases hx with rfl
 .exact zHR)
def zSc (x:Mon)(p:Int):Mon:={ x with Dirty:=up x.Dirty p false }
def zms (h:Host)(m p:Int):Host:={ h with Mons:=up h.Mons m (zSc (ix h.Mons m zf) p) }
def zmJ (h:Host)(m p:Int):Host:=bif zbJ h m p then (cond (zcd (ix (ix h.Mons m zf).Outer p zI) noSlot) (zms h m p) (zbU (zms h m p) m p ⟨(ix (ix h.Mons m zf).Outer p zI).Page,1⟩)) else h
theorem zwD:∀(l:List Mon) (u:List Bool),zgu l u=true->∀x∈l,zdg x=true
 | [],_,_,x,hx=>by cases hx
 | m :: l,u,h,x,hx=>by
  simp only[zgu]at h;cases h1:zdg m
  .rw [h1]at h;cases h
  .rw [h1]at h;simp only[cT]at h;cases h2:zfC m.Outer u with
   | none=>rw[h2]at h;cases h
   | some u' =>
    rw[h2]at h;rcases qG.1 hx with rfl|hx
    .exact h1
    .exact zwD l u' h x hx
structure PageAt (h:Host) (m p:Int):Prop where
 hm:hasB m (ln h.Mons)=true
 hp:hasB p 8=true
 ok:zdg (ix h.Mons m zf)=true
 ho:(ix h.Mons m zf).Outer.length=8
 hd:(ix h.Mons m zf).Dirty.length=8
 ht:(ix h.Mons m zf).Tables.length=(ix h.Mons m zf).Guests.length
 hs:zcd (ix (ix h.Mons m zf).Outer p zI) noSlot=ieq (ix (ix h.Mons m zf).Outer p zI).Page (-1)
theorem zM4 {s:Slot}{n:Int}(h:zc6 s n=true):zcd s noSlot=ieq s.Page (-1):=by
 unfold zc6 at h;cases h1:zcd s noSlot
 .rw [h1]at h;cases h2:ieq s.Page (-1)
  .rfl
  .have e:s.Page = -1:=qE h2;cases h3:igt n 0
   .rw [h3]at h;cases h
   .cases h4:win s.Page 0 (wsub .i64 n 1)
    .rw [h3,h4]at h;cases h
    .have:=(zfg.1 h4).1;omega
 .unfold zcd at h1;rw[qD]at h1;exact h1.1.symm
theorem zIy {h:Host}{m p:Int}(hp:zbJ h m p=true):PageAt h m p:=by
 unfold zbJ at hp;simp only[zcw]at hp;obtain ⟨h0,h1,h2⟩:=hp;unfold zbB at h0;simp only[zcw]at h0;have hok:=zwD _ _ h0.2.2.2.2 _ (zbq h1 zf);have hk:=hok;unfold zdg at hk;simp only[zcw]at hk;have ho:(ix h.Mons m zf).Outer.length=8:=by have:=zmq hk.2.2.1;simp only[ln] at this;omega
 refine ⟨h1,h2,hok,ho,?_,?_,?_⟩
 .have:ln (ix h.Mons m zf).Dirty=8:=qE hk.2.2.2.2.1;simp only[ln] at this;omega
 .have:ln (ix h.Mons m zf).Tables=ln (ix h.Mons m zf).Guests:=qE hk.2.1;simp only[ln] at this;omega
 .have ht:=hk.2.2.1;unfold zco at ht;simp only[zcw]at ht;have hi:hasB p (ln (ix h.Mons m zf).Outer)=true:=by rw[ln,ho];exact h2
  exact zM4 (qJ.1 ht.1 _ (zbq hi _))
theorem zRE {x:Mon}{p:Int}(h:ze4 x):ze4 (zSc x p):=⟨h.1,h.2.1,by simpa [zSc] using h.2.2.1,h.2.2.2⟩
theorem zxl {h:Host}{m p:Int}(hm:hasB m (ln h.Mons)=true)(hs:SmH h):SmH (zms h m p):=⟨hs.1,zh7 hs.2.1 (zRE (hs.2.1.2 _ (zbq hm _))),hs.2.2⟩
theorem zD5 {h:Host}{m p:Int}{s:Slot}(hm:hasB m (ln h.Mons)=true)(hs:SmH h):SmH (zbU h m p s):=by
 have hx:=hs.2.1.2 _ (zbq hm zf);have ht:=zYZ (p:=p) (qX _) hx;have hM:zpt (up h.Mons m { zje (ix h.Mons m zf) p (ix h.Mons m zf).Tables.length with Outer:=up (ix h.Mons m zf).Outer p s }):=zh7 hs.2.1 ⟨by simpa using hx.1,ht.2⟩
 unfold zbU;cases ine (ix (ix h.Mons m zf).Outer p zI).Page (-1)
 .exact ⟨hs.1,hM,hs.2.2⟩
 .exact ⟨hs.1,hM,jE (zDl _ _) hs.2.2.1,jE (zDl _ _) hs.2.2.2⟩
theorem zxo {h:Host}{m p:Int}(hm:hasB m (ln h.Mons)=true):hasB m (ln (zms h m p).Mons)=true:=by
 unfold zms;simpa [ln] using hm
theorem zYV {h:Host}{m p:Int}(hs:SmH h):SmH (zmJ h m p):=by
 unfold zmJ;cases hp:zbJ h m p
 .exact hs
 .have P:=zIy hp;cases zcd (ix (ix h.Mons m zf).Outer p zI) noSlot
  .exact zD5 (zxo P.hm) (zxl P.hm hs)
  .exact zxl P.hm hs
@[simp] abbrev zAR (h:Host)(m p:Int):Bool:=pc (zbI h)
@[simp] abbrev ztv (h:Host)(m p:Int):Host:=zmJ h m p
@[simp] abbrev ztw (h:Host)(m p:Int):Bool:=zbJ h m p
def zDO:Run:=rF3 dH dI dI fun b c d=>(zAR b c d,[aH (ztv b c d),aB (ztw b c d)])
def zLZ (N:Nat)(a0:Host)(a1 a2:Int):OA:=
 let y3:=(zk a0);let y2:=(ix y3.Mons a1 zf); (oN (zbD a0) (oN (zml y3 a1 a2) (cond (nB (zgP y3 a1 a2)) (some [(aH y3),(aB false)]) (oN (inb a1 (ln y3.Mons)) (oN (inb a2 (ln y2.Dirty)) (share (up y3.Mons a1 ({ y2 with Dirty:=(up y2.Dirty a2 false) }:Mon)) (fun x4=>let y4:=(ix x4 a1 zf).Outer;let y1:=({ y3 with Mons:=x4 }:Host);let y0:=(ix y4 a2 zI);let y5:=({ y0 with Rights:=1 }:Slot); (oN (inb a1 (ln x4)) (oN (inb a2 (ln y4)) (oN zck (cond (cond (ieq y0.Page zbo.Page) (ieq y0.Rights zbo.Rights) false) (some [(aH y1),(aB true)]) (oN (zeA y1 a1 a2 y5) (some [(aH (zf8 y1 a1 a2 y5)),(aB true)])))))))))))))
theorem zSK (a0:Host)(a1 a2:Int)(hc:zAR a0 a1 a2=true):∃N,zLZ N a0 a1 a2=some [aH (ztv a0 a1 a2),aB (ztw a0 a1 a2)]:=by
 have hs:=zF.1 hc;have hH:=(zN a0).1 hs;refine ⟨0,?_⟩;unfold zLZ ztv ztw zmJ oN nB
 conv=>zeta
 refine must (zby hs) (must rfl ?_);cases hp:zbJ a0 a1 a2
 .simp only [zgP,zk,hp,cF,cT]
 .have P:=zIy hp;obtain ⟨k,rfl,hk⟩:=zdj (n:=a0.Mons.length) P.hm;simp only[zgP,zk,hp,cT,cF];have i1:inb a2 (ln (ix a0.Mons (k:Int) zf).Dirty)=true:=by rw[ln,P.hd];exact P.hp
  have i2:inb a2 (ln (ix a0.Mons (k:Int) zf).Outer)=true:=by rw[ln,P.ho];exact P.hp
  refine must P.hm (must i1 ?_);simp only[share,zdv hk,i2,cT,zck,zbo];refine must (zxo (p:=a2) P.hm) ?_;have e:∀s:Slot,zcd s noSlot=bif ieq s.Page noSlot.Page then ieq s.Rights noSlot.Rights else false:=fun s=>by
   unfold zcd;cases ieq s.Page noSlot.Page<;>rfl
  rw[<- e];cases zcd (ix (ix a0.Mons (k:Int) zf).Outer a2 zI) noSlot
  .refine zdB rfl (must (zby ⟨(zN _).2 (zxl P.hm hH),zxo (p:=a2) P.hm,?_,?_⟩) rfl)
   .simp only [zdv hk];exact i2
   .simp only [zdv hk];exact vE P.ht
  .rfl
theorem zNp:vH 248 zDO:=kF3 zEy zl zq zdX (zx []) zSK
def zXr:zU:=[(248,zDO)]++zU5
theorem zXs:zD zXr:=zh zNp zEy
def zXt:zU:=zXr
theorem zh1:zD zXt:=zXs
def zuj (o i t:Int):Int:=bif zgg i t then 1 else (cond (zgg o t) 2 0)
@[simp] abbrev zpg (o i t:Int):Bool:=true
@[simp] abbrev zmj (o i t:Int):Int:=zuj o i t
def zx1:Run:=rF3 dI dI dI fun b c d=>(zpg b c d,[aI (zmj b c d)])
def zCY (N:Nat)(a0 a1 a2:Int):OA:=
 (oN (zhw a1 a2) (cond (zg8 a1 a2) (some [(aI 1)]) (oN (zhw a0 a2) (cond (zg8 a0 a2) (some [(aI 2)]) (some [(aI 0)])))))
theorem zNZ (a0 a1 a2:Int)(hc:zpg a0 a1 a2=true):∃N,zCY N a0 a1 a2=some [aI (zmj a0 a1 a2)]:=by
 refine ⟨0,?_⟩;unfold zCY oN;refine must rfl (br (fun _=>?_) (fun _=>must rfl (br (fun _=>?_) (fun _=>?_))))
 all_goals first|rfl|(simp only [*,zmj,zuj,cT,cF]<;>rfl)|simp_all[Ty.cells,zmj,zuj]
theorem zHz:vH 304 zx1:=kF3 zh1 zl zq zdX (zx []) zNZ
def zel (m g:Int):Int:=bif win m 0 2 then (cond (win g 0 1) (zG .i64 (zG .i64 1 g) (zl8 .i64 m 2)) 0) else 0
@[simp] abbrev zjT (m g:Int):Bool:=true
@[simp] abbrev zrl (m g:Int):Int:=zel m g
def zDV:Run:=rF2 dI dI fun b c=>(zjT b c,[aI (zrl b c)])
def zL6 (N:Nat)(a0 a1:Int):OA:=
 (oN (zJ a0 0 2) (cond (nB (zL a0 0 2)) (some [(aI 0)]) (oN (zJ a1 0 1) (cond (nB (zL a1 0 1)) (some [(aI 0)]) (some [(aI (zG .i64 (zG .i64 1 a1) (zl8 .i64 a0 2)))])))))
theorem zSR (a0 a1:Int)(hc:zjT a0 a1=true):∃N,zL6 N a0 a1=some [aI (zrl a0 a1)]:=by
 refine ⟨0,?_⟩;unfold zL6 oN nB;refine must rfl (brN (fun _=>?_) (fun _=>must rfl (brN (fun _=>?_) (fun _=>?_))))
 all_goals first|rfl|(simp only [*,zrl,zel,cT,cF]<;>rfl)|simp_all[Ty.cells,zrl,zel]
theorem zNw:vH 99 zDV:=kF2 zh1 zl zq zdX (zx []) zSR
def zfv (k:Kept)(p:Int):Bool:=bif zcY k p then ix k.Known p false else false
def zdF (k:Kept)(p:Int):Slot:=bif zfv k p then ix k.Slots p zI else noSlot
@[simp] abbrev zBI (k:Kept)(p:Int):Bool:=pc (SmK k)
@[simp] abbrev zrj (k:Kept)(p:Int):Slot:=zdF k p
@[simp] abbrev zBH (k:Kept)(p:Int):Bool:=zfv k p
def zAm:Run:=rF2 (dT .kept) dI fun b c=>(zBI b c,[aT .slot (zrj b c),aB (zBH b c)])
def zTJ (N:Nat)(a0:Kept)(a1:Int):OA:=
 let y0:=(ix a0.Slots a1 zI); (oN (znz a0 a1) (cond (nB (zhy a0 a1)) (oN zck (some [(.agg [(.i .i64 zbo.Page),(.i .i64 zbo.Rights)]),(aB false)])) (oN (inb a1 (ln a0.Known)) (cond (nB (ix a0.Known a1 false)) (oN zck (some [(.agg [(.i .i64 zbo.Page),(.i .i64 zbo.Rights)]),(aB false)])) (oN (inb a1 (ln a0.Slots)) (some [(.agg [(.i .i64 y0.Page),(.i .i64 y0.Rights)]),(aB true)]))))))
theorem zX3 (a0:Kept)(a1:Int)(hc:zBI a0 a1=true):∃N,zTJ N a0 a1=some [aT .slot (zrj a0 a1),aB (zBH a0 a1)]:=by
 have hs:=zF.1 hc;refine ⟨0,?_⟩;unfold zTJ zrj zBH zdF zfv oN nB
 conv=>zeta
 refine must (zby hs) ?_;rw[show zhy a0 a1=zcY a0 a1 from rfl]
 cases hh:zcY a0 a1
 .rfl
 .unfold zcY at hh;obtain ⟨h1,h2⟩:=zcw.1 hh;simp only[zu h1,zu h2,cT];cases ix a0.Known a1 false<;>rfl
theorem zDt:vH 101 zAm:=kF2 zh1 zl zq zdX (zx []) zX3
@[simp] abbrev zBw (k:Kept)(p:Int):Bool:=true
@[simp] abbrev zvd (k:Kept)(p:Int):Slot:=zdF k p
@[simp] abbrev zve (k:Kept)(p:Int):Bool:=zfv k p
def zz5:Run:=rF2 (dT .kept) dI fun b c=>(zBw b c,[aT .slot (zvd b c),aB (zve b c)])
def zTG (N:Nat)(a0:Kept)(a1:Int):OA:=
 let y0:=(ix a0.Slots a1 zI); (oN (zdx a1 (ln a0.Known)) (cond (nB (zdP a1 (ln a0.Known))) (oN zcy (some [(.agg [(.i .i64 zbX.Page),(.i .i64 zbX.Rights)]),(aB false)])) (oN (zdx a1 (ln a0.Slots)) (cond (nB (zdP a1 (ln a0.Slots))) (oN zcy (some [(.agg [(.i .i64 zbX.Page),(.i .i64 zbX.Rights)]),(aB false)])) (oN (inb a1 (ln a0.Known)) (cond (nB (ix a0.Known a1 false)) (oN zcy (some [(.agg [(.i .i64 zbX.Page),(.i .i64 zbX.Rights)]),(aB false)])) (oN (inb a1 (ln a0.Slots)) (some [(.agg [(.i .i64 y0.Page),(.i .i64 y0.Rights)]),(aB true)]))))))))
theorem zX0 (a0:Kept)(a1:Int)(hc:zBw a0 a1=true):∃N,zTG N a0 a1=some [aT .slot (zvd a0 a1),aB (zve a0 a1)]:=by
 refine ⟨0,?_⟩;unfold zTG zvd zve zdF zfv zcY oN nB
 conv=>zeta
 rw[show zdP a1 (ln a0.Known)=hasB a1 (ln a0.Known) from rfl,show zdP a1 (ln a0.Slots)=hasB a1 (ln a0.Slots) from rfl]
 cases h1:hasB a1 (ln a0.Known)
 .rfl
 .cases h2:hasB a1 (ln a0.Slots)
  .rfl
  .simp only [zdx,zu h1,zu h2,cT];cases ix a0.Known a1 false<;>rfl
theorem zDr:vH 82 zz5:=kF2 zh1 zl zq zdX (zx []) zX0
def filled (k:Kept)(inner outer:List Slot)(p:Int):Kept:=bif zcY k p then (cond (hasB p (ln inner)) ⟨up k.Known p true,up k.Slots p (zW (ix inner p zI) outer)⟩ k) else k
@[simp] theorem zWx {k:Kept}{inner outer:List Slot}{p:Int}(h:SmK k):SmK (filled k inner outer p):=by
 unfold filled;cases zcY k p
 .exact h
 .cases hasB p (ln inner)
  .exact h
  .exact ⟨by simpa using h.1,by simpa using h.2⟩
@[simp] abbrev zFJ (k:Kept)(i o:List Slot)(p:Int):Bool:=pc (SmK k)
@[simp] abbrev zIO (k:Kept)(i o:List Slot)(p:Int):Kept:=filled k i o p
def zIM:Run:=rF4 (dT .kept) (dS .slot) (dS .slot) dI fun b c d e=>(zFJ b c d e,[aT .kept (zIO b c d e)])
def zOX (N:Nat)(a0:Kept)(a1 a2:lS)(a3:Int):OA:=
 let y0:=(zc7 a0); (oN (zfk a0) (oN (znz y0 a3) (cond (zhy y0 a3) (cond (ilt a3 (ln a1)) (oN (inb a3 (ln y0.Known)) (share (up y0.Known a3 true) (fun x5=>(oN (inb a3 (ln a1)) (oN (zjh (ix a1 a3 zI) a2) (oN (inb a3 (ln y0.Slots)) (share (up y0.Slots a3 (zlz (ix a1 a3 zI) a2)) (fun x6=>(some [(aT .kept (⟨x5,x6⟩:Kept))]))))))))) (some [(aT .kept y0)])) (some [(aT .kept y0)]))))
theorem zVL (a0:Kept)(a1 a2:List Slot)(a3:Int)(hc:zFJ a0 a1 a2 a3=true):∃N,zOX N a0 a1 a2 a3=some [aT .kept (zIO a0 a1 a2 a3)]:=by
 have hs:=zF.1 hc;refine ⟨0,?_⟩;unfold zOX zIO filled oN
 conv=>zeta
 refine must (zby ((zuY _).2 hs)) (must (zby hs) ?_);rw[show zhy (zc7 a0) a3=zcY a0 a3 from rfl]
 cases hh:zcY a0 a3
 .rfl
 .unfold zcY at hh;obtain ⟨h1,h2⟩:=zcw.1 hh;rw[has_lt h1 (m:=ln a1)];cases h3:hasB a3 (ln a1)
  .rfl
  .simp only [cT,zc7,zu h1,zu h2,zu h3,share,zjh];rfl
theorem zPS:vH 103 zIM:=kF4 zh1 zl zq zdX (zx []) zVL
theorem zPI {α ρ:Type}(p:α->Bool)(r:α->Option ρ)(K:Unit->Option ρ):∀(l:List α) (i:Nat),goL (fun _ x (_:Unit) k=>bif p x then r x else k ()) K l i ()=match l.find? p with|some x=>r x|none=>K ()
 | [],_=>rfl
 | x :: l,i=>by
  simp only[goL];cases h:p x
  .rw [List.find?_cons_of_neg (by simp[h])]
   exact zPI p r K l (i+1)
  .rw [List.find?_cons_of_pos h];rfl
def zBq (b:List Entry)(t p:Int):Option Entry:=b.find? fun e=>bif ieq e.Tag t then ieq e.Page p else false
@[simp] abbrev zlC (b:List Entry)(t p:Int):Bool:=true
@[simp] abbrev zlB (b:List Entry)(t p:Int):Entry:=(zBq b t p).getD ⟨0,0,0,0⟩
@[simp] abbrev ziI (b:List Entry)(t p:Int):Bool:=(zBq b t p).isSome
def zto:Run:=rF3 (dS .entry) dI dI fun b c d=>(zlC b c d,[aT .entry (zlB b c d),aB (ziI b c d)])
def zxz (N:Nat)(a0:lE)(a1 a2:Int):OA:=
 (iter (σ:=(Int×(Int×(Int×(Int×(Int×(Int×(Int×(lE×Unit))))))))) N (fun r4 s5=>let y2:=s5.2.2.2.2.2.2.2.1;let y3:=(inb s5.2.2.1 (ln y2));let y1:=(r4 (s5.1,(s5.2.1,((zG .i64 s5.2.2.1 1),(s5.2.2.2.1,(s5.2.2.2.2.1,(s5.2.2.2.2.2.1,(s5.2.2.2.2.2.2.1,(y2,())))))))));let y0:=(ix y2 s5.2.2.1 zdD); (cond (ilt s5.2.2.1 (ln y2)) (oN y3 (cond (ieq y0.Tag s5.1) (oN y3 (cond (ieq y0.Page s5.2.1) (oN y3 (some [(.agg [(.i .i64 y0.Tag),(.i .i64 y0.Page),(.i .i64 y0.Host),(.i .i64 y0.Rights)]),(aB true)])) y1)) y1)) (some [(.agg [(.i .i64 0),(.i .i64 0),(.i .i64 0),(.i .i64 0)]),(aB false)]))) (a1,(a2,(0,(0,(0,(0,(0,(a0,())))))))))
def zJe:FuncId->Nat->Option Tmpl:=zx [(100,0,{ n:=36,tm:=[(0,.sl 0 []),(1,ti),(2,ti),(6,.lp 0 0),(8,ti)],lo:=[(0,[ti,ti,ti,ti])],ro:=[(0,.entry,false)] })]
theorem zIc (a0:List Entry)(a1 a2:Int)(hb:zbQ big [aS .entry a0,aI a1,aI a2])(hc:zlC a0 a1 a2=true):∃N,zxz N a0 a1 a2=some [aT .entry (zlB a0 a1 a2),aB (ziI a0 a1 a2)]:=by
 have hl:=(len0 hb);refine zb9 fun N hNN=>?_;unfold zxz oN
 conv=>zeta
 refine (zX a0 (fun i (t:Unit)=>(a1,a2,(i:Int),0,0,0,0,a0,())) _ (fun _ (x:Entry) (_:Unit) κ=>bif (cond (ieq x.Tag a1) (ieq x.Page a2) false) then (some [AV.agg (Ty.cells .entry x),AV.one (.b true)]) else κ ()) (fun (t:Unit)=>(some [(.agg [(.i .i64 0),(.i .i64 0),(.i .i64 0),(.i .i64 0)]),(.one (.b false))])) (fun i hi t rec=>?_) (fun t rec=>?_) _ () (hNN hl)).trans ?_
 .simp only [zbs hi,zV hi,zbe hi,zQ hi hl,cT];cases ieq a0[i].Tag a1<;>cases ieq a0[i].Page a2<;>rfl
 .simp only [zbl,cF]
 rw[zPI (fun e:Entry=>bif ieq e.Tag a1 then ieq e.Page a2 else false)]
 unfold zlB ziI zBq;cases a0.find? (fun e:Entry=>bif ieq e.Tag a1 then ieq e.Page a2 else false)<;>rfl
theorem zBZ:vH 100 zto:=hF3 zh1 zl zq zdX zJe zIc
def zzX (t p:Int)(e:Entry):Bool:=bif ine e.Tag t then true else ine e.Page p
def zce (b:List Entry)(t p:Int):List Entry:=b.filter (zzX t p)
theorem zwt (b:List Entry)(t p:Int):(zce b t p).length<=b.length:=k9 _ _
@[simp] abbrev zfP (b:List Entry)(t p:Int):Bool:=pc (b.length<=1048576)
@[simp] abbrev zlh (b:List Entry)(t p:Int):List Entry:=zce b t p
def ztq:Run:=rF3 (dS .entry) dI dI fun b c d=>(zfP b c d,[aS .entry (zlh b c d)])
def zxB (N:Nat)(a0:lE)(a1 a2:Int):OA:=
 (iter (σ:=(Int×(Int×(Int×(lE×(lE×Unit)))))) N (fun r4 s5=>let y4:=s5.2.2.2.1;let y2:=(inb s5.2.2.1 (ln y4));let y0:=(ix y4 s5.2.2.1 zdD);let y3:=(ap s5.2.2.2.2.1 [y0]);let y1:=(r4 (s5.1,(s5.2.1,((zG .i64 s5.2.2.1 1),(y4,(y3,())))))); (cond (ilt s5.2.2.1 (ln y4)) (oN y2 (cond (ine y0.Tag s5.1) (oN y2 (oN (few (ln y3)) y1)) (oN y2 (cond (ine y0.Page s5.2.1) (oN y2 (oN (few (ln y3)) y1)) (r4 (s5.1,(s5.2.1,((zG .i64 s5.2.2.1 1),(y4,(s5.2.2.2.2.1,())))))))))) (some [(aS .entry s5.2.2.2.2.1)]))) (a1,(a2,(0,(a0,([],()))))))
def zJg:FuncId->Nat->Option Tmpl:=zx [(161,0,{ n:=40,tm:=[(0,.sl 0 []),(1,ti),(2,ti),(7,.sl 1 []),(8,ti)],lo:=[],ro:=[(0,.entry,false),(1,.entry,true)] })]
theorem zIe (a0:List Entry)(a1 a2:Int)(hc:zfP a0 a1 a2=true):∃N,zxB N a0 a1 a2=some [aS .entry (zlh a0 a1 a2)]:=by
 have hs:=zF.1 hc;have hl:=zcF hs;refine zb9 fun N hNN=>?_;unfold zxB oN
 conv=>zeta
 refine (zX a0 (fun i (t:lE)=>(a1,a2,(i:Int),a0,t,())) _ (fun _ (x:Entry) (t:List Entry) κ=>bif zzX a1 a2 x then (cond (few (ln (ap t [x]))) (κ (ap t [x])) none) else κ t) (fun (t:lE)=>(some [(.one (.s .entry t))])) (fun i hi t rec=>?_) (fun t rec=>?_) _ ([]) (hNN hl.1)).trans ?_
 .simp only [zbs hi,zV hi,zbe hi,zQ hi hl.1,cT];unfold zzX;cases ine a0[i].Tag a1<;>cases ine a0[i].Page a2<;>rfl
 .simp only [zbl,cF]
 exact zmH (zzX a1 a2) _ a0 0 [] (by simpa using hl.2)
theorem zB1:vH 161 ztq:=kF3 zh1 zl zq zdX zJg zIe
def z2f:zU:=[(304,zx1),(99,zDV),(101,zAm),(82,zz5),(103,zIM),(100,zto),(161,ztq)]++zXt
theorem zwm:zD z2f:=zh zHz (zh zNw (zh zDt (zh zDr (zh zPS (zh zBZ (zh zB1 zh1))))))
def zod (b:List Entry)(e:Entry):List Entry:=bif igt (ln (ap (zce b e.Tag e.Page) [e])) 6 then dp (ap (zce b e.Tag e.Page) [e]) (wsub .i64 (ln (ap (zce b e.Tag e.Page) [e])) 6) else ap (zce b e.Tag e.Page) [e]
theorem zFG {b:List Entry}(e:Entry)(h:b.length<=1048576):(zod b e).length<=1048576/\(ap (zce b e.Tag e.Page) [e]).length<=1048577:=by
 have h1:=zwt b e.Tag e.Page;have h2:(ap (zce b e.Tag e.Page) [e]).length<=1048577:=by simp[ap];omega
 refine ⟨?_,h2⟩;unfold zod;cases h3:igt (ln (ap (zce b e.Tag e.Page) [e])) 6
 .have h3:=jV h3;simp only[ln]at h3;simp only[cF];omega
 .simp only [cT,dp,List.length_drop];have h3:=qE h3;have:wsub .i64 (ln (ap (zce b e.Tag e.Page) [e])) 6=ln (ap (zce b e.Tag e.Page) [e])-6:=zBQ (by simp only[ln] at *;omega) (by simp only[ln] at *;omega)
  rw[this];simp only[ln] at *;omega
@[simp] abbrev znr (b:List Entry)(e:Entry):Bool:=pc (b.length<=1048576)
@[simp] abbrev znq (b:List Entry)(e:Entry):List Entry:=zod b e
def zvP:Run:=rF2 (dS .entry) (dT .entry) fun b c=>(znr b c,[aS .entry (znq b c)])
def zyX (N:Nat)(a0:lE)(a1:Entry):OA:=
 let y0:=(ap (zlh a0 a1.Tag a1.Page) [a1]);let y1:=(wsub .i64 (ln y0) 6); (oN (zfP a0 a1.Tag a1.Page) (oN (few (ln y0)) (cond (igt (ln y0) 6) (oN (inr y1 (ln y0) (ln y0)) (oN (few (ln (ap [] (dp y0 y1)))) (some [(aS .entry (ap [] (dp y0 y1)))]))) (some [(aS .entry y0)]))))
theorem zKQ (a0:List Entry)(a1:Entry)(hc:znr a0 a1=true):∃N,zyX N a0 a1=some [aS .entry (znq a0 a1)]:=by
 have hs:=zF.1 hc;obtain ⟨h1,h2⟩:=zFG a1 hs;refine ⟨0,?_⟩;unfold zyX oN
 conv=>zeta
 refine must (zby hs) (must (zgs (jE h2 (by decide:1048577<=2147483648))) ?_)
 unfold znq zod at *
 show _=some [AV.one (.s .entry (cond (igt (ln (ap (zce a0 a1.Tag a1.Page) [a1])) 6) (dp (ap (zce a0 a1.Tag a1.Page) [a1]) (wsub .i64 (ln (ap (zce a0 a1.Tag a1.Page) [a1])) 6)) (ap (zce a0 a1.Tag a1.Page) [a1])))]
 cases h3:igt (ln (ap (zce a0 a1.Tag a1.Page) [a1])) 6
 .rfl
 .rw [h3]at h1;simp only[cT]at h1;have h3:=qE h3;have e:wsub .i64 (ln (ap (zce a0 a1.Tag a1.Page) [a1])) 6=ln (ap (zce a0 a1.Tag a1.Page) [a1])-6:=zBQ (by simp only[ln] at *;omega) (by simp only[ln] at *;omega)
  refine must rfl (must (qL ?_) (must ?_ ?_))
  .show 0<=wsub .i64 (ln (ap (zce a0 a1.Tag a1.Page) [a1])) 6/\wsub .i64 (ln (ap (zce a0 a1.Tag a1.Page) [a1])) 6<=ln (ap (zce a0 a1.Tag a1.Page) [a1])/\ln (ap (zce a0 a1.Tag a1.Page) [a1])<=ln (ap (zce a0 a1.Tag a1.Page) [a1])
   rw[e];simp only[ln] at *;omega
  .exact zma h1
  .rw [zgT];rfl
theorem zE1:vH 104 zvP:=kF2 zwm zl zq zdX (zx []) zKQ
def zmG (l:List Slot)(p:Int):Option Nat:=l.findIdx? fun s=>ieq s.Page p
def zg5 (p:Int):List Mon->Nat->Int×Int
 | [],_=>(-1,-1)
 | m :: l,i=>match zmG m.Outer p with|some k=>((i:Int),(k:Int))|none=>zg5 p l (i+1)
def zbr (h:Host)(p:Int):Int×Int:=bif ilt p 0 then (-1,-1) else zg5 p h.Mons 0
theorem zMC {ρ:Type}(p:Slot->Bool)(r:Nat->Option ρ)(K:Unit->Option ρ):∀(l:List Slot) (i:Nat),goL (fun j x (_:Unit) k=>bif p x then r j else k ()) K l i ()=match l.findIdx? p with|some k=>r (i+k)|none=>K ()
 | [],_=>rfl
 | x :: l,i=>by
  simp only[goL];rw[List.findIdx?_cons];cases h:p x
  .simp only [cF,kE,if_false];rw[zMC p r K l (i+1)];cases l.findIdx? p with
   | none=>rfl
   | some k=>simp only[Option.map_some];congr 1;omega
  .rfl
theorem zJB {ρ:Type}(p:Int)(r:Int->Int->Option ρ):∀(l:List Mon) (i:Nat),goL (fun i (x:Mon) (_:Unit) κ=>goL (fun j (y:Slot) (_:Unit) κ₁=>bif ieq y.Page p then r (i:Int) (j:Int) else κ₁ ()) (fun _=>κ ()) x.Outer 0 ()) (fun _=>r (-1) (-1)) l i ()=r (zg5 p l i).1 (zg5 p l i).2
 | [],_=>rfl
 | m :: l,i=>by
  simp only[goL,zg5];rw[zMC (fun s=>ieq s.Page p) (fun j=>r (i:Int) (j:Int))];unfold zmG;cases m.Outer.findIdx? (fun s=>ieq s.Page p) with
  | none=>exact zJB p r l (i+1)
  | some k=>simp only[jX]
@[simp] abbrev zjf (h:Host)(p:Int):Bool:=true
@[simp] abbrev zfG (h:Host)(p:Int):Int:=(zbr h p).1
@[simp] abbrev zgY (h:Host)(p:Int):Int:=(zbr h p).2
def zqz:Run:=rF2 dH dI fun b c=>(zjf b c,[aI (zfG b c),aI (zgY b c)])
def zsA (N:Nat)(a0:Host)(a1:Int):OA:=
 (cond (ilt a1 0) (some [(aI (-1)),(aI (-1))]) (iter (σ:=(Int×(Int×(Int×(lN×Unit))))) N (fun r3 s4=>let y3:=s4.2.2.1; (cond (ilt y3 s4.2.1) (oN (inb y3 (ln s4.2.2.2.1)) (iter (σ:=(Int×(Int×(Int×(Int×(Int×(Int×(Int×(lN×Unit))))))))) N (fun r5 s6=>let y2:=s6.2.2.2.2.2.2.2.1;let y1:=(ix y2 s6.2.2.2.2.1 zf).Outer;let y0:=s6.2.2.2.2.2.2.1; (cond (ilt y0 s6.2.2.2.2.2.1) (oN (inb y0 (ln y1)) (cond (ieq (ix y1 y0 zI).Page s6.1) (some [(aI s6.2.1),(aI y0)]) (r5 (s6.1,(s6.2.1,(s6.2.2.1,(s6.2.2.2.1,(s6.2.2.2.2.1,(s6.2.2.2.2.2.1,((zG .i64 y0 1),(y2,()))))))))))) (r3 (s6.1,(s6.2.2.1,((zG .i64 s6.2.2.2.1 1),(y2,()))))))) (s4.1,(y3,(s4.2.1,(y3,(y3,((ln (ix s4.2.2.2.1 y3 zf).Outer),(0,(s4.2.2.2.1,())))))))))) (some [(aI (-1)),(aI (-1))]))) (a1,((ln a0.Mons),(0,(a0.Mons,()))))))
def zCA:FuncId->Nat->Option Tmpl:=zx [(275,0,{ n:=36,tm:=[(1,ti),(13,.sl 0 []),(14,ti),(15,ti)],lo:=[],ro:=[(0,.mon,false)] }),(275,2,{ n:=36,tm:=[(1,ti),(6,ti),(13,.sl 0 []),(14,ti),(15,ti),(21,.sl 0 [0]),(22,ti),(23,ti)],lo:=[],ro:=[(0,.mon,false)] })]
theorem zCf (a0:Host)(a1:Int)(hb:zbQ big [aH a0,aI a1])(hc:zjf a0 a1=true):∃N,zsA N a0 a1=some [aI (zfG a0 a1),aI (zgY a0 a1)]:=by
 have hm:CVB big (.s .mon a0.Mons):=(zcn hb).1 _ (by simp[AV.cvs,zbc])
 have hl:=hm.len;refine zb9 fun N hNN=>?_;unfold zsA zfG zgY zbr oN
 conv=>zeta
 cases h0:ilt a1 0
 .simp only [cF];refine (zX a0.Mons (fun i (t:Unit)=>(a1,(ln a0.Mons),(i:Int),a0.Mons,())) _ (fun i (x:Mon) (_:Unit) κ=>goL (fun j (y:Slot) (_:Unit) κ₁=>bif ieq y.Page a1 then some [AV.one (.i .i64 (i:Int)),AV.one (.i .i64 (j:Int))] else κ₁ ()) (fun _=>κ ()) x.Outer 0 ()) (fun (t:Unit)=>(some [(.one (.i .i64 (-1))),(.one (.i .i64 (-1)))])) (fun i hi t rec=>?_) (fun t rec=>?_) _ () (hNN hl)).trans ?_
  .simp only [zbs hi,zV hi,zbe hi,zQ hi hl,cT];have ho:a0.Mons[i].Outer.length<=big:=(hm.inv.2 _ (jB hi) (.s .slot _) (by simp[Ty.cells])).len
   refine (zX a0.Mons[i].Outer (fun j (u:Unit)=>(a1,(i:Int),(ln a0.Mons),(i:Int),(i:Int),(ln a0.Mons[i].Outer),(j:Int),a0.Mons,())) _ (fun j (y:Slot) (_:Unit) κ₁=>bif ieq y.Page a1 then some [AV.one (.i .i64 (i:Int)),AV.one (.i .i64 (j:Int))] else κ₁ ()) (fun (u:Unit)=>(rec (a1,((ln a0.Mons),((((i+1:Nat)):Int),(a0.Mons,())))))) (fun j hj u rec1=>?_) (fun u rec1=>?_) _ () (hNN ho)).trans ?_
   .simp only [zbs hj,zV hj,zbe hj,zQ hj ho,cT,zV hi,zbe hi,zQ hi hl]
   .simp only [zbl,cF,zV hi,zbe hi,zQ hi hl]
   rfl
  .simp only [zbl,cF]
  exact zJB a1 (fun i j=>some [AV.one (.i .i64 i),AV.one (.i .i64 j)]) a0.Mons 0
 .rfl
theorem zyr:vH 275 zqz:=hF2 zwm zl zq zdX zCA zCf
theorem zXL {α τ ρ:Type}(r:Option ρ):∀(l:List α) (i:Nat) (t:τ),goL (fun _ _ _ _=>r) (fun _=>r) l i t=r
 | [],_,_=>rfl
 | _ :: _,_,_=>rfl
@[simp] abbrev zji (h:Host)(p:Int):Bool:=true
@[simp] abbrev zfK (h:Host)(p:Int):Int:=(zbr h p).1
@[simp] abbrev zg9 (h:Host)(p:Int):Int:=(zbr h p).2
def zqC:Run:=rF2 dH dI fun b c=>(zji b c,[aI (zfK b c),aI (zg9 b c)])
def zsM (N:Nat)(a0:Host)(a1:Int):OA:=
 (iter (σ:=(Int×(Int×(lM×(lN×(lE×(lE×Unit))))))) N (fun r3 s4=>(cond (ilt s4.2.1 (ln s4.2.2.2.1)) (cond (ige s4.1 0) (iter (σ:=(Int×(Int×(Int×(lM×(lN×(lE×(lE×Unit)))))))) N (fun r5 s6=>let y1:=s6.2.2.2.2.1;let y0:=(ix y1 s6.2.1 zf).Outer; (oN (inb s6.2.1 (ln y1)) (cond (ilt s6.2.2.1 (ln y0)) (oN (inb s6.2.1 (ln y1)) (oN (inb s6.2.2.1 (ln y0)) (cond (ieq (ix y0 s6.2.2.1 zI).Page s6.1) (some [(aI s6.2.1),(aI s6.2.2.1)]) (r5 (s6.1,(s6.2.1,((zG .i64 s6.2.2.1 1),(s6.2.2.2.1,(y1,(s6.2.2.2.2.2.1,(s6.2.2.2.2.2.2.1,()))))))))))) (r3 (s6.1,((zG .i64 s6.2.1 1),(s6.2.2.2.1,(y1,(s6.2.2.2.2.2.1,(s6.2.2.2.2.2.2.1,())))))))))) (s4.1,(s4.2.1,(0,(s4.2.2.1,(s4.2.2.2.1,(s4.2.2.2.2.1,(s4.2.2.2.2.2.1,())))))))) (some [(aI (-1)),(aI (-1))])) (some [(aI (-1)),(aI (-1))]))) (a1,(0,(a0.Memory,(a0.Mons,(a0.Buffer,(a0.IoBuffer,())))))))
def zCC:FuncId->Nat->Option Tmpl:=zx [(217,0,{ n:=44,tm:=[(1,ti),(2,.lp 0 0),(6,ti)],lo:=[(0,[.sl 0 [],.sl 1 [],.sl 2 [],.sl 3 []])],ro:=[(0,(.sl .int),false),(1,.mon,false),(2,.entry,false),(3,.entry,false)] }),(217,2,{ n:=44,tm:=[(1,ti),(2,.lp 0 0),(6,ti),(7,ti)],lo:=[(0,[.sl 0 [],.sl 1 [],.sl 2 [],.sl 3 []])],ro:=[(0,(.sl .int),false),(1,.mon,false),(2,.entry,false),(3,.entry,false)] })]
theorem zCr (a0:Host)(a1:Int)(hb:zbQ big [aH a0,aI a1])(hc:zji a0 a1=true):∃N,zsM N a0 a1=some [aI (zfK a0 a1),aI (zg9 a0 a1)]:=by
 have hm:CVB big (.s .mon a0.Mons):=(zcn hb).1 _ (by simp[AV.cvs,zbc])
 have hl:=hm.len;refine zb9 fun N hNN=>?_;unfold zsM zfK zg9 zbr oN
 conv=>zeta
 refine (zX a0.Mons (fun i (t:Unit)=>(a1,(i:Int),a0.Memory,a0.Mons,a0.Buffer,a0.IoBuffer,())) _ (fun i (x:Mon) (_:Unit) κ=>bif ige a1 0 then goL (fun j (y:Slot) (_:Unit) κ₁=>bif ieq y.Page a1 then some [AV.one (.i .i64 (i:Int)),AV.one (.i .i64 (j:Int))] else κ₁ ()) (fun _=>κ ()) x.Outer 0 () else some [AV.one (.i .i64 (-1)),AV.one (.i .i64 (-1))]) (fun (t:Unit)=>(some [(.one (.i .i64 (-1))),(.one (.i .i64 (-1)))])) (fun i hi t rec=>?_) (fun t rec=>?_) _ () (hNN hl)).trans ?_
 .simp only [zbs hi,zV hi,zbe hi,zQ hi hl,cT];cases h0:ige a1 0
  .rfl
  have ho:a0.Mons[i].Outer.length<=big:=(hm.inv.2 _ (jB hi) (.s .slot _) (by simp[Ty.cells])).len
  simp only[cT];refine (zX a0.Mons[i].Outer (fun j (_:Unit)=>(a1,((i:Int),((j:Int),(a0.Memory,(a0.Mons,(a0.Buffer,(a0.IoBuffer,())))))))) _ (fun j (y:Slot) (_:Unit) κ₁=>bif ieq y.Page a1 then some [AV.one (.i .i64 (i:Int)),AV.one (.i .i64 (j:Int))] else κ₁ ()) (fun _=>rec (a1,(((i+1:Nat):Int),(a0.Memory,(a0.Mons,(a0.Buffer,(a0.IoBuffer,()))))))) (fun j hj u rec1=>?_) (fun u rec1=>?_) _ () (hNN ho)).trans ?_
  .simp only [zbs hj,zV hj,zbe hj,zQ hj ho,cT,zV hi,zbe hi]
  .simp only [zbl,cF,cT,zV hi,zbe hi,zQ hi hl]
  rfl
 .simp only [zbl,cF]
 cases h0:ige a1 0
 .have h1:ilt a1 0=true:=by
   have:=jV h0;exact qL (by omega)
  rw[h1];exact zXL _ _ _ _
 .have h1:ilt a1 0=false:=by
   have:=qE h0;exact qQ (by omega)
  rw[h1];exact zJB a1 (fun i j=>some [AV.one (.i .i64 i),AV.one (.i .i64 j)]) a0.Mons 0
theorem zyB:vH 217 zqC:=hF2 zwm zl zq zdX zCC zCr
def z2g:zU:=[(104,zvP),(217,zqC),(275,zqz)]++z2f
theorem zrx:zD z2g:=zh zE1 (zh zyB (zh zyr zwm))
def zbR (h:Host):List Int:=zuh (fun i=>ilt (zbr h (i:Int)).1 0) h.Memory.length 0
@[simp] abbrev zkD (h:Host):Bool:=pc (h.Memory.length<=1048576)
@[simp] abbrev zeH (h:Host):List Int:=zbR h
def zAt:Run:=rF1 dH fun b=>(zkD b,[aS .int (zeH b)])
def zGi (N:Nat)(a0:Host):OA:=
 (iter (σ:=(Int×((List Int)×(lM×(lN×(lE×(lE×Unit))))))) N (fun r2 s3=>let y0:=(⟨s3.2.2.1,s3.2.2.2.1,s3.2.2.2.2.1,s3.2.2.2.2.2.1⟩:Host); (cond (ilt s3.1 (ln s3.2.2.1)) (oN (zji y0 s3.1) (cond (ilt (zfK y0 s3.1) 0) (oN (few (ln (ap s3.2.1 [s3.1]))) (r2 ((zG .i64 s3.1 1),((ap s3.2.1 [s3.1]),(s3.2.2.1,(s3.2.2.2.1,(s3.2.2.2.2.1,(s3.2.2.2.2.2.1,())))))))) (r2 ((zG .i64 s3.1 1),(s3.2.1,(s3.2.2.1,(s3.2.2.2.1,(s3.2.2.2.2.1,(s3.2.2.2.2.2.1,()))))))))) (some [(aS .int s3.2.1)]))) (0,([],(a0.Memory,(a0.Mons,(a0.Buffer,(a0.IoBuffer,())))))))
def zRY:FuncId->Nat->Option Tmpl:=zx [(216,0,{ n:=28,tm:=[(1,.lp 0 0),(3,.sl 0 []),(4,ti)],lo:=[(0,[.sl 1 [],.sl 2 [],.sl 3 [],.sl 4 []])],ro:=[(0,.int,true),(1,(.sl .int),false),(2,.mon,false),(3,.entry,false),(4,.entry,false)] })]
theorem zQo (a0:Host)(hc:zkD a0=true):∃N,zGi N a0=some [aS .int (zeH a0)]:=by
 have hs:=zF.1 hc;have hl:=zcF hs;refine zb9 fun N hNN=>?_;unfold zGi oN
 conv=>zeta
 refine (zX a0.Memory (fun i (t:(List Int))=>((i:Int),t,a0.Memory,a0.Mons,a0.Buffer,a0.IoBuffer,())) _ (fun i (_:List Int) (t:List Int) κ=>bif ilt (zbr a0 (i:Int)).1 0 then (cond (few (ln (ap t [(i:Int)]))) (κ (ap t [(i:Int)])) none) else κ t) (fun (t:(List Int))=>(some [(.one (.s .int t))])) (fun i hi t rec=>?_) (fun t rec=>?_) _ ([]) (hNN hl.1)).trans ?_
 .simp only [zbs hi,zV hi,zbe hi,zQ hi hl.1,cT]
 .simp only [zbl,cF]
 rw[zrd (fun i (t:List Int) κ=>bif ilt (zbr a0 (i:Int)).1 0 then (cond (few (ln (ap t [(i:Int)]))) (κ (ap t [(i:Int)])) none) else κ t)]
 exact zwA (fun i=>ilt (zbr a0 (i:Int)).1 0) _ _ 0 [] (by simpa using hl.2)
theorem zJZ:vH 216 zAt:=kF1 zrx zl zq zdX zRY zQo
@[simp] abbrev zkk (h:Host):Bool:=pc (h.Memory.length<=1048576)
@[simp] abbrev ze9 (h:Host):List Int:=zbR h
def zz9:Run:=rF1 dH fun b=>(zkk b,[aS .int (ze9 b)])
def zF0 (N:Nat)(a0:Host):OA:=
 (iter (σ:=(Int×(Int×((List Int)×(lM×(lN×(lE×(lE×Unit)))))))) N (fun r2 s3=>let y1:=s3.2.2.2.2.2.2.1;let y0:=(⟨s3.2.2.2.1,s3.2.2.2.2.1,s3.2.2.2.2.2.1,y1⟩:Host); (cond (ilt s3.2.1 s3.1) (oN (zjf y0 s3.2.1) (cond (ilt (zfG y0 s3.2.1) 0) (oN (few (ln (ap s3.2.2.1 [s3.2.1]))) (r2 (s3.1,((zG .i64 s3.2.1 1),((ap s3.2.2.1 [s3.2.1]),(s3.2.2.2.1,(s3.2.2.2.2.1,(s3.2.2.2.2.2.1,(y1,()))))))))) (r2 (s3.1,((zG .i64 s3.2.1 1),(s3.2.2.1,(s3.2.2.2.1,(s3.2.2.2.2.1,(s3.2.2.2.2.2.1,(y1,())))))))))) (some [(aS .int s3.2.2.1)]))) ((ln a0.Memory),(0,([],(a0.Memory,(a0.Mons,(a0.Buffer,(a0.IoBuffer,()))))))))
def zRR:FuncId->Nat->Option Tmpl:=zx [(206,0,{ n:=28,tm:=[(1,.lp 0 0),(3,.sl 0 []),(10,ti),(11,ti)],lo:=[(0,[.sl 1 [],.sl 2 [],.sl 3 [],.sl 4 []])],ro:=[(0,.int,true),(1,(.sl .int),false),(2,.mon,false),(3,.entry,false),(4,.entry,false)] })]
theorem zP5 (a0:Host)(hc:zkk a0=true):∃N,zF0 N a0=some [aS .int (ze9 a0)]:=by
 have hs:=zF.1 hc;have hl:=zcF hs;refine zb9 fun N hNN=>?_;unfold zF0 oN
 conv=>zeta
 refine (zX a0.Memory (fun i (t:(List Int))=>((ln a0.Memory),(i:Int),t,a0.Memory,a0.Mons,a0.Buffer,a0.IoBuffer,())) _ (fun i (_:List Int) (t:List Int) κ=>bif ilt (zbr a0 (i:Int)).1 0 then (cond (few (ln (ap t [(i:Int)]))) (κ (ap t [(i:Int)])) none) else κ t) (fun (t:(List Int))=>(some [(.one (.s .int t))])) (fun i hi t rec=>?_) (fun t rec=>?_) _ ([]) (hNN hl.1)).trans ?_
 .simp only [zbs hi,zV hi,zbe hi,zQ hi hl.1,cT]
 .simp only [zbl,cF]
 rw[zrd (fun i (t:List Int) κ=>bif ilt (zbr a0 (i:Int)).1 0 then (cond (few (ln (ap t [(i:Int)]))) (κ (ap t [(i:Int)])) none) else κ t)]
 exact zwA (fun i=>ilt (zbr a0 (i:Int)).1 0) _ _ 0 [] (by simpa using hl.2)
theorem zJH:vH 206 zz9:=kF1 zrx zl zq zdX zRR zP5
def zgE (m:List (List Int))(p:Int)(c:List Int):List (List Int):=bif hasB p (ln m) then (cond (zb5 c) (up m p c) m) else m
@[simp] abbrev zjU (m:List (List Int))(p:Int)(c:List Int):Bool:=pc (SmM m/\c.length<=1048576)
@[simp] abbrev ziu (m:List (List Int))(p:Int)(c:List Int):List (List Int):=zgE m p c
def zvU:Run:=rF3 (dS (.sl .int)) dI (dS .int) fun b c d=>(zjU b c d,[aS (.sl .int) (ziu b c d)])
def zy1 (N:Nat)(a0:lM)(a1:Int)(a2:List Int):OA:=
 (oN (zfj a0) (oN (zJ a1 0 (wsub .i64 (ln a0) 1)) (cond (zL a1 0 (wsub .i64 (ln a0) 1)) (oN (zfi a2) (cond (zeL a2) (oN (few (ln (ap [] a2))) (oN (inb a1 (ln (zd4 a0))) (share (up (zd4 a0) a1 (ap [] a2)) (fun x4=>(some [(aS (.sl .int) x4)]))))) (some [(aS (.sl .int) (zd4 a0))]))) (some [(aS (.sl .int) (zd4 a0))]))))
theorem zKW (a0:List (List Int))(a1:Int)(a2:List Int)(hc:zjU a0 a1 a2=true):∃N,zy1 N a0 a1 a2=some [aS (.sl .int) (ziu a0 a1 a2)]:=by
 obtain ⟨hs,hs2⟩:=zF.1 hc;refine ⟨0,?_⟩;unfold zy1 ziu zgE oN;refine must (zby ((znW _).2 hs)) (must rfl ?_);rw[show zL a1 0 (wsub .i64 (ln a0) 1)=hasB a1 (ln a0) from zoD hs.1 a1]
 cases h1:hasB a1 (ln a0)
 .rfl
 .simp only [cT,zfi,zeL];cases h2:zb5 a2
  .rfl
  .refine must rfl (must (zma hs2) (must (zu h1) ?_));rw[zgT];rfl
theorem zE6:vH 219 zvU:=kF3 zrx zl zq zdX (zx []) zKW
@[simp] abbrev zjA (m:List (List Int))(p:Int)(c:List Int):Bool:=pc (SmM m/\c.length<=1048576)
@[simp] abbrev zim (m:List (List Int))(p:Int)(c:List Int):List (List Int):=zgE m p c
def zvA:Run:=rF3 (dS (.sl .int)) dI (dS .int) fun b c d=>(zjA b c d,[aS (.sl .int) (zim b c d)])
def zyG (N:Nat)(a0:lM)(a1:Int)(a2:List Int):OA:=
 (oN (zho a0) (oN (zdx a1 (ln a0)) (cond (zdP a1 (ln a0)) (oN (zgZ a2) (cond (zfM a2) (oN (zdr a2) (oN (inb a1 (ln (zeY a0))) (share (up (zeY a0) a1 (zdm a2)) (fun x4=>(some [(aS (.sl .int) x4)]))))) (some [(aS (.sl .int) (zeY a0))]))) (some [(aS (.sl .int) (zeY a0))]))))
theorem zKz (a0:List (List Int))(a1:Int)(a2:List Int)(hc:zjA a0 a1 a2=true):∃N,zyG N a0 a1 a2=some [aS (.sl .int) (zim a0 a1 a2)]:=by
 obtain ⟨hs,hs2⟩:=zF.1 hc;refine ⟨0,?_⟩;unfold zyG zim zgE oN;refine must (zby hs) (must rfl ?_);rw[show zdP a1 (ln a0)=hasB a1 (ln a0) from rfl]
 cases h1:hasB a1 (ln a0)
 .rfl
 .simp only [cT,zgZ,zfM];cases h2:zb5 a2
  .rfl
  .refine must rfl (must (zby (jE hs2 (by decide))) (must (zu h1) rfl))
theorem zEL:vH 208 zvA:=kF3 zrx zl zq zdX (zx []) zKz
def zoJ:zU:=[(216,zAt),(206,zz9),(219,zvU),(208,zvA)]++z2g
theorem zhj:zD zoJ:=zh zJZ (zh zJH (zh zE6 (zh zEL zrx)))
abbrev mZ:Mon:=Ty.dflt .mon
abbrev sZ:Slot:=Ty.dflt .slot
def ShM (x:Mon):Prop:=x.Outer.length=8/\x.Out.length=8/\x.Dirty.length=8/\x.Tables.length=x.Guests.length
def Shape (h:Host):Prop:=SmH h/\∀x∈h.Mons,ShM x
theorem zhz {h:Host}{m:Int}{x:Mon}(hs:Shape h)(h1:ze4 x)(h2:ShM x):Shape { h with Mons:=up h.Mons m x }:=by
 refine ⟨⟨hs.1.1,zh7 hs.1.2.1 h1,hs.1.2.2⟩,fun y hy=>?_⟩;rcases qZ hy with hy|rfl
 .exact hs.2 y hy
 .exact h2
theorem zcf {h:Host}(hs:Shape h){m:Int}(hm:hasB m (ln h.Mons)=true):ze4 (ix h.Mons m mZ)/\ShM (ix h.Mons m mZ):=⟨hs.1.2.1.2 _ (zbq hm _),hs.2 _ (zbq hm _)⟩
theorem zM2 {h:Host}{mm:List (List Int)}(hs:Shape h)(h1:SmM mm):Shape { h with Memory:=mm }:=⟨⟨h1,hs.1.2⟩,hs.2⟩
theorem zqu {h:Host}{m p:Int}{s:Slot}(hm:hasB m (ln h.Mons)=true)(hs:Shape h):Shape (zbU h m p s):=by
 refine ⟨zD5 hm hs.1,?_⟩;obtain ⟨_,h2⟩:=zcf hs hm;have key:∀y∈up h.Mons m { zje (ix h.Mons m mZ) p (ix h.Mons m mZ).Tables.length with Outer:=up (ix h.Mons m mZ).Outer p s },ShM y:=by
  intro y hy;rcases qZ hy with hy|rfl
  .exact hs.2 y hy
  .exact ⟨by simpa using h2.1,h2.2.1,h2.2.2.1,by simpa [zje,zoA] using h2.2.2.2⟩
 unfold zbU;cases ine (ix (ix h.Mons m mZ).Outer p sZ).Page (-1)<;>exact key
theorem zfw (h:Host)(m p:Int)(s:Slot):(zbU h m p s).Mons=up h.Mons m { zje (ix h.Mons m mZ) p (ix h.Mons m mZ).Tables.length with Outer:=up (ix h.Mons m mZ).Outer p s }/\(zbU h m p s).Memory=h.Memory:=by
 unfold zbU;cases ine (ix (ix h.Mons m mZ).Outer p sZ).Page (-1)<;>exact ⟨rfl,rfl⟩
theorem zd8 {h:Host}{m k:Int}{x:Mon}(hm:hasB m (ln h.Mons)=true):hasB m (ln (up h.Mons k x))=true:=by simpa [ln] using hm
theorem zDp {h:Host}{m k p:Int}{s:Slot}(hm:hasB m (ln h.Mons)=true):hasB m (ln (zbU h k p s).Mons)=true:=by
 rw[(zfw h k p s).1];exact zd8 hm
theorem zdb {α:Type}{l:List α}{p:Int}(h:l.length=8)(hp:hasB p 8=true):hasB p (ln l)=true:=by rw[ln,h];exact hp
def zwP (h:Host)(m p:Int)(s:Slot):Host :=
 bif ine s.Page (-1) then ⟨h.Memory,up h.Mons m (zje (ix h.Mons m mZ) p (ix h.Mons m mZ).Guests.length),flushed h.Buffer s.Page,flushed h.IoBuffer s.Page⟩
 else ⟨h.Memory,up h.Mons m (zje (ix h.Mons m mZ) p (ix h.Mons m mZ).Guests.length),h.Buffer,h.IoBuffer⟩
theorem zxk {h:Host}{k:Nat}{p:Int}{s:Slot}(hk:k<h.Mons.length)(ht:(ix h.Mons (k:Int) mZ).Tables.length=(ix h.Mons (k:Int) mZ).Guests.length) :
 zwP { h with Mons:=up h.Mons (k:Int) { ix h.Mons (k:Int) mZ with Outer:=up (ix h.Mons (k:Int) mZ).Outer p s } } (k:Int) p (ix (ix h.Mons (k:Int) mZ).Outer p sZ)=zbU h (k:Int) p s:=by
 unfold zbU zwP;simp only[zdv hk,zt2,zje,ht]
def zVD {ρ:Type}(m p:Int)(i:Nat)(t:List Mon)(κ:List Mon->Option ρ):Option ρ :=
 (cond (inb (i:Int) (ln (ix t m mZ).Tables)) (cond (inb (i:Int) (ln (ix t m mZ).Guests)) (cond (pc (SmK (ix (ix t m mZ).Tables (i:Int) zdd)/\(ix (ix t m mZ).Guests (i:Int) zA).Live.length<=1048576)) (cond (inb (i:Int) (ln (ix t m mZ).Tables)) (κ (up t m ({ (ix t m mZ) with Tables:=(up (ix t m mZ).Tables (i:Int) (zgW (ix (ix t m mZ).Tables (i:Int) zdd) (ix (ix t m mZ).Guests (i:Int) zA).Live p)) }:Mon))) none) none) none) none)
theorem zT5 {ρ:Type}{mons:List Mon}{k:Nat}(hk:k<mons.length)(p:Int)(hm:ze4 (ix mons (k:Int) mZ))(ht:(ix mons (k:Int) mZ).Tables.length=(ix mons (k:Int) mZ).Guests.length)(K:List Mon->Option ρ) :
 ∀(n i:Nat),i+n=(ix mons (k:Int) mZ).Guests.length->goN (fun i t κ=>zVD (k:Int) p i t κ) K n i (up mons (k:Int) (zje (ix mons (k:Int) mZ) p i))=K (up mons (k:Int) (zje (ix mons (k:Int) mZ) p (ix mons (k:Int) mZ).Guests.length))
 | 0,i,h=>by
  have:i=(ix mons (k:Int) mZ).Guests.length:=by omega
  subst this;rfl
 | n+1,i,h=>by
  have hi3:i<(ix mons (k:Int) mZ).Guests.length:=by omega
  have hi2:i<(zj6 (ix mons (k:Int) mZ).Guests p i (ix mons (k:Int) mZ).Tables).length:=by rw[zoA];omega
  have hf:pc (SmK (ix (zj6 (ix mons (k:Int) mZ).Guests p i (ix mons (k:Int) mZ).Tables) (i:Int) zdd)/\(ix (ix mons (k:Int) mZ).Guests (i:Int) zA).Live.length<=1048576)=true :=
   zby ⟨by rw[zbe hi2];exact (zt0 _ _ _ _ (by omega) hm.2.2.2.2.2).2 _ (jB hi2),by rw[zbe hi3];exact (hm.2.2.2.1.2 _ (jB hi3)).2.2.1⟩
  simp only[goN,zVD,zdv hk,zt2,zje,zV hi2,zV hi3,hf,cT];exact zT5 hk p hm ht K n (i+1) (by omega)
@[simp] abbrev zdQ (h:Host)(m p:Int)(s:Slot):Bool:=pc (Shape h/\hasB m (ln h.Mons)=true)
@[simp] abbrev zdR (h:Host)(m p:Int)(s:Slot):Host:=zwP h m p s
def zkX:List CV->List AV->Option (Bool×List CV×List AV)
 | [.s (.sl .int) b,.s .mon c,.s .entry d,.s .entry e],[.one (.i .i64 f),.one (.i .i64 g),.agg [.i .i64 h,.i .i64 j]]=>some ((zdQ (⟨b,c,d,e⟩:Host) f g (⟨h,j⟩:Slot)),zbc (zdR (⟨b,c,d,e⟩:Host) f g (⟨h,j⟩:Slot)),[])
 | _,_=>none
def znL (N:Nat)(c:Host)(a0 a1:Int)(a2:Slot):OA:=
 (oN (inb a0 (ln c.Mons)) (iter (σ:=(Int×(Int×(Int×(Int×(Int×(Int×(lN×(lM×(lE×(lE×Unit))))))))))) N (fun r5 s6=>let y7:=s6.2.2.2.2.2.2.2.1;let y5:=s6.2.2.2.2.2.2.1;let y4:=s6.2.2.2.2.1;let y3:=s6.2.2.2.2.2.2.2.2.1;let y2:=s6.2.2.2.2.2.2.2.2.2.1;let y1:=s6.2.2.2.1;let y0:=(ix y5 s6.2.1 zf);let y8:=(ix y0.Tables y1 zdd);let y6:=(ix y0.Guests y1 zA).Live; (cond (ilt y1 s6.2.2.1) (oN (inb y1 (ln y0.Tables)) (oN (inb y1 (ln y0.Guests)) (oN (zn0 y8 y6 s6.1) (oN (inb y1 (ln y0.Tables)) (share (up y5 s6.2.1 ({ y0 with Tables:=(up y0.Tables y1 (zrM y8 y6 s6.1)) }:Mon)) (fun x7=>(r5 (s6.1,(s6.2.1,(s6.2.2.1,((zG .i64 y1 1),(y4,(s6.2.2.2.2.2.1,(x7,(y7,(y3,(y2,()))))))))))))))))) (cond (ine y4 (-1)) (oN (zgK y3 y4) (oN (zgK y2 y4) (some [(aH (⟨y7,y5,(ziU y3 y4),(ziU y2 y4)⟩:Host))]))) (some [(aH (⟨y7,y5,y3,y2⟩:Host))])))) (a1,(a0,((ln (ix c.Mons a0 zf).Guests),(0,(a2.Page,(a2.Rights,(c.Mons,(c.Memory,(c.Buffer,(c.IoBuffer,()))))))))))))
def zFR:FuncId->Nat->Option Tmpl:=zx [(137,0,{ n:=71,tm:=[(0,.lp 0 0),(2,ti),(7,.lp 1 0),(8,.ep 0 [] 0),(20,ti),(21,ti)],lo:=[(0,[.sl 1 [],.sl 0 [],.sl 2 [],.sl 3 []]),(1,[ti,ti])],ro:=[(0,.mon,true),(1,(.sl .int),true),(2,.entry,true),(3,.entry,true)] })]
theorem zIp (N:Nat)(c:Host)(a0 a1:Int)(a2:Slot):zfV (cQ zoJ zn6 zLi zRO) zFR N 12 137 [true,true,true,true] (zbc c) [aI a0,aI a1,aT .slot a2]=znL N c a0 a1 a2:=by kernel_rfl
theorem zFl (c:Host)(a0 a1:Int)(a2:Slot)(hb:zbQ big (.agg (zbc c) :: [aI a0,aI a1,aT .slot a2]))(hc:zdQ c a0 a1 a2=true):∃N,znL N c a0 a1 a2=some (.agg (zbc (zdR c a0 a1 a2)) :: []):=by
 obtain ⟨hs,hm⟩:=zF.1 hc;obtain ⟨g1,g2⟩:=zcf hs hm;have hg:(ix c.Mons a0 mZ).Guests.length<=big:=(zcF g1.2.2.2.1.1).1;refine zb9 fun N hNN=>?_;unfold znL oN
 conv=>zeta
 refine must (zu hm) ?_;refine (zX ((ix c.Mons a0 zf).Guests) (fun i (t:lN)=>(a1,a0,(ln (ix c.Mons a0 zf).Guests),(i:Int),a2.Page,a2.Rights,t,c.Memory,c.Buffer,c.IoBuffer,())) _ (fun i (x:Guest) (t:List Mon) κ=>zVD a0 a1 i t κ) (fun (t:lN)=>(cond (ine a2.Page (-1)) (cond (zgK c.Buffer a2.Page) (cond (zgK c.IoBuffer a2.Page) (some [(.agg (zbc (⟨c.Memory,t,(ziU c.Buffer a2.Page),(ziU c.IoBuffer a2.Page)⟩:Host)))]) none) none) (some [(.agg (zbc (⟨c.Memory,t,c.Buffer,c.IoBuffer⟩:Host)))]))) (fun i hi t rec=>?_) (fun t rec=>?_) _ (c.Mons) (hNN hg)).trans ?_
 .simp only [zbs hi,zV hi,zbe hi,zQ hi hg,cT];rfl
 .simp only [zbl,cF]
 obtain ⟨k,rfl,hk⟩:=zdj (n:=c.Mons.length) hm;rw[zrd (fun i t κ=>zVD (k:Int) a1 i t κ)];have e0:c.Mons=up c.Mons (k:Int) (zje (ix c.Mons (k:Int) mZ) a1 0):=(zLK hk _).symm;refine (congrArg _ e0).trans ((zT5 hk a1 g1 g2.2.2.2 _ _ 0 (jX _)).trans ?_)
 show (cond (ine a2.Page (-1)) _ _)=some [AV.agg (zbc (zwP c (k:Int) a1 a2))]
 unfold zwP;cases ine a2.Page (-1)
 .rfl
 .exact must rfl (must (zby hs.1.2.2.1) (must (zby hs.1.2.2.2) rfl))
theorem zzw:zdo Tryz.prog 137 [true,true,true,true] zkX:=by
 refine zb3 (zcW zhj zl zq zdX) (zdN (by kernel_rfl)) ?_
 intro cs avs cs' rs hl hr h;have hb:=zcs hr;unfold zkX at h;split at h
 .obtain ⟨hc,rfl,rfl⟩:=zcM h;obtain ⟨N,hN⟩:=zFl _ _ _ _ (by exact hb) hc
  exact ⟨rfl,_,N,12,(zIp N _ _ _ _ ).trans hN⟩
 .cases h
def zVW:zdl:=[(137,([true,true,true,true],zkX))]++zLi
theorem zLj:zcE zVW:=zd1 zq (by
 intro x hx;simp only[qG,qY,or_false]at hx;rcases hx with rfl
 .exact zzw)
def zd3 (h:Host)(m p:Int):Host:={ h with Mons:=up h.Mons m { ix h.Mons m mZ with Out:=up (ix h.Mons m mZ).Out p (zb8 h.Memory (ix (ix h.Mons m mZ).Outer p sZ).Page) } }
def zcC (h:Host)(m p:Int):Host:=zbU (zd3 h m p) m p noSlot
theorem zRC {m:List (List Int)}{p:Int}(h:SmM m):(zb8 m p).length<=1048576:=by
 unfold zb8;cases hh:hasB p (ln m)
 .exact (by decide:zxq.length<=1048576)
 .exact h.2 _ (zbq hh _)
theorem zuF {h:Host}{m p:Int}(hs:Shape h)(hm:hasB m (ln h.Mons)=true):Shape (zd3 h m p):=by
 obtain ⟨g1,g2⟩:=zcf hs hm;exact zhz hs ⟨g1.1,zI2 g1.2.1 (zRC hs.1.1),g1.2.2⟩ ⟨g2.1,by simpa using g2.2.1,g2.2.2⟩
theorem zIU {h:Host}{m p:Int}(hs:Shape h)(hm:hasB m (ln h.Mons)=true):Shape (zcC h m p):=zqu (zd8 hm) (zuF hs hm)
@[simp] abbrev zq5 (h:Host)(m p:Int):Bool:=pc (Shape h/\hasB m (ln h.Mons)=true/\hasB p 8=true)
@[simp] abbrev zxh (h:Host)(m p:Int):Host:=zcC h m p
def zr9:List AV->Option (Bool×List AV)
 | [.agg [.s (.sl .int) b,.s .mon c,.s .entry d,.s .entry e],.one (.i .i64 f),.one (.i .i64 g)]=>some ((zq5 (⟨b,c,d,e⟩:Host) f g),[aH (zxh (⟨b,c,d,e⟩:Host) f g)])
 | _=>none
def zwb (N:Nat)(a0:Host)(a1 a2:Int):OA:=
 let y0:=(ix a0.Mons a1 zf);let y1:=(ix y0.Outer a2 zI).Page; (oN (inb a1 (ln a0.Mons)) (oN (inb a1 (ln a0.Mons)) (oN (inb a2 (ln y0.Outer)) (oN (zw9 a0.Memory y1) (oN (inb a2 (ln y0.Out)) (share (up a0.Mons a1 ({ y0 with Out:=(up y0.Out a2 (zw8 a0.Memory y1)) }:Mon)) (fun x4=>let y2:=({ a0 with Mons:=x4 }:Host); (oN zck (oN (zeA y2 a1 a2 zbo) (some [(aH (zf8 y2 a1 a2 zbo))]))))))))))
theorem zS9 (N:Nat)(a0:Host)(a1 a2:Int):zBp (cQ zoJ zn6 zVW zRO) (zx []) N 12 218 [true,true,true,true,false,false] 1 1 [[0],[1],[2],[4],[7]] .mon [aH a0,aI a1,aI a2]=zwb N a0 a1 a2:=by kernel_rfl
theorem zQM (a0:Host)(a1 a2:Int)(hb:zbQ big [aH a0,aI a1,aI a2])(hc:zq5 a0 a1 a2=true):∃N,zwb N a0 a1 a2=some [aH (zxh a0 a1 a2)]:=by
 obtain ⟨hs,hm,hp⟩:=zF.1 hc;obtain ⟨g1,g2⟩:=zcf hs hm;obtain ⟨k,rfl,hk⟩:=zdj (n:=a0.Mons.length) hm;have hS:=zuF (p:=a2) hs hm;refine ⟨0,?_⟩;unfold zwb oN
 conv=>zeta
 refine must (zu hm) (must (zu hm) (must (zu (zdb g2.1 hp)) (must (zby ((znW _).2 hs.1.1)) (must (zu (zdb g2.2.1 hp)) (shr (must rfl (must (zby ⟨(zN _).2 hS.1,zd8 hm,?_,?_⟩) rfl)))))))
 .simp only [zdv hk];exact zdb g2.1 hp
 .simp only [zdv hk];exact vE g2.2.2.2
theorem zKl:zdp Tryz.prog 218 [true,true,true,true,false,false] (some (1,1,[[0],[1],[2],[4],[7]])) zr9:=by
 refine zki (kt:=.mon) (zcW zhj zl zLj zdX) (zdN (by kernel_rfl)) (by kernel_rfl) ?_
 intro avs rs hl hr h;have hb:=zhE hr;unfold zr9 at h;split at h
 .obtain ⟨hc,rfl⟩:=zdJ h;obtain ⟨N,hN⟩:=zQM _ _ _ (by exact hb) hc
  exact ⟨⟨_,rfl⟩,rfl,_,N,12,(zS9 N _ _ _ ).trans hN⟩
 .cases h
@[simp] abbrev zwM (h:Host)(m p:Int):Bool:=pc (Shape h/\hasB m (ln h.Mons)=true/\hasB p 8=true)
@[simp] abbrev zwN (h:Host)(m p:Int):Host:=zcC h m p
def zum:List CV->List AV->Option (Bool×List CV×List AV)
 | [.s (.sl .int) b,.s .mon c,.s .entry d,.s .entry e],[.one (.i .i64 f),.one (.i .i64 g)]=>some ((zwM (⟨b,c,d,e⟩:Host) f g),zbc (zwN (⟨b,c,d,e⟩:Host) f g),[])
 | _,_=>none
def zEg (N:Nat)(c:Host)(a0 a1:Int):OA:=
 let y0:=(ix c.Mons a0 zf);let y1:=(ix y0.Outer a1 zI); (oN (inb a0 (ln c.Mons)) (oN (inb a1 (ln y0.Outer)) (oN (zwI c.Memory y1.Page) (oN (inb a1 (ln y0.Out)) (share (up c.Mons a0 ({ y0 with Out:=(up y0.Out a1 (zwH c.Memory y1.Page)) }:Mon)) (fun x4=>let y2:=(ix x4 a0 zf); (oN zcy (oN (inb a1 (ln y2.Outer)) (share (up x4 a0 ({ y2 with Outer:=(up y2.Outer a1 zbX) }:Mon)) (fun x5=>let y3:=({ c with Mons:=x5 }:Host); (oN (zdQ y3 a0 a1 y1) (some [(aH (zdR y3 a0 a1 y1))]))))))))))))
theorem zYi (N:Nat)(c:Host)(a0 a1:Int):zfV (cQ zoJ zn6 zVW zRO) (zx []) N 12 81 [true,true,true,true] (zbc c) [aI a0,aI a1]=zEg N c a0 a1:=by kernel_rfl
theorem zVJ (c:Host)(a0 a1:Int)(hb:zbQ big (.agg (zbc c) :: [aI a0,aI a1]))(hc:zwM c a0 a1=true):∃N,zEg N c a0 a1=some (.agg (zbc (zwN c a0 a1)) :: []):=by
 obtain ⟨hs,hm,hp⟩:=zF.1 hc;obtain ⟨g1,g2⟩:=zcf hs hm;obtain ⟨k,rfl,hk⟩:=zdj (n:=c.Mons.length) hm;have hS:=zuF (p:=a1) hs hm;have hm':hasB (k:Int) (ln (zd3 c (k:Int) a1).Mons)=true:=zd8 hm;have hk':k<(zd3 c (k:Int) a1).Mons.length:=by simpa [zd3] using hk
 have ex:ix (zd3 c (k:Int) a1).Mons (k:Int) mZ={ ix c.Mons (k:Int) mZ with Out:=up (ix c.Mons (k:Int) mZ).Out a1 (zb8 c.Memory (ix (ix c.Mons (k:Int) mZ).Outer a1 sZ).Page) }:=zdv hk _ _;have hX:Shape { zd3 c (k:Int) a1 with Mons:=up (zd3 c (k:Int) a1).Mons (k:Int) { ix (zd3 c (k:Int) a1).Mons (k:Int) mZ with Outer:=up (ix (zd3 c (k:Int) a1).Mons (k:Int) mZ).Outer a1 noSlot } }:=by
  obtain ⟨q1,q2⟩:=zcf hS hm';exact zhz hS ⟨by simpa using q1.1,q1.2⟩ ⟨by simpa using q2.1,q2.2⟩
 refine ⟨0,?_⟩;unfold zEg oN
 conv=>zeta
 refine must (zu hm) (must (zu (zdb g2.1 hp)) (must (zby ((znW _).2 hs.1.1)) (must (zu (zdb g2.2.1 hp)) (shr (must rfl (must ?_ (shr (must (zby ⟨hX,zd8 hm'⟩) ?_))))))))
 .rw [zdv hk];exact zu (zdb g2.1 hp)
 .have:=zxk (p:=a1) (s:=noSlot) hk' (by rw[ex];exact g2.2.2.2)
  rw[ex] at this
  show some [AV.agg (zbc (zwP { zd3 c (k:Int) a1 with Mons:=up (zd3 c (k:Int) a1).Mons (k:Int) { ix (zd3 c (k:Int) a1).Mons (k:Int) mZ with Outer:=up (ix (zd3 c (k:Int) a1).Mons (k:Int) mZ).Outer a1 noSlot } } (k:Int) a1 (ix (ix c.Mons (k:Int) mZ).Outer a1 sZ)))]=_
  rw[ex];exact congrArg (fun x=>some [AV.agg (zbc x)]) this
theorem zPQ:zdo Tryz.prog 81 [true,true,true,true] zum:=by
 refine zb3 (zcW zhj zl zLj zdX) (zdN (by kernel_rfl)) ?_
 intro cs avs cs' rs hl hr h;have hb:=zcs hr;unfold zum at h;split at h
 .obtain ⟨hc,rfl,rfl⟩:=zcM h;obtain ⟨N,hN⟩:=zVJ _ _ _ (by exact hb) hc
  exact ⟨rfl,_,N,12,(zYi N _ _ _ ).trans hN⟩
 .cases h
def zVX:zdl:=[(81,([true,true,true,true],zum))]++zVW
theorem zLk:zcE zVX:=zd1 zLj (by
 intro x hx;simp only[qG,qY,or_false]at hx;rcases hx with rfl
 .exact zPQ)
def zWD:ze3:=[(218,([true,true,true,true,false,false],(some (1,1,[[0],[1],[2],[4],[7]])),zr9))]++zRO
theorem zLw:zdY zWD:=zl5 zdX (by
 intro x hx;simp only[qG,qY,or_false]at hx;rcases hx with rfl
 .exact zKl)
def cz (l:List Slot):Nat:=l.countP fun s=>ieq s.Page 0
def zH:List Mon->Nat
 | []=>0
 | m :: l=>cz m.Outer+zH l
def bit (u:List Bool):Nat:=bif ix u 0 false then 1 else 0
theorem zu3 (s:Slot)(l:List Slot):cz (s :: l)=cz l+bif ieq s.Page 0 then 1 else 0:=by
 unfold cz;rw[uR];cases ieq s.Page 0<;>rfl
theorem z5x {u:List Bool}{p:Int}(hp:0<=p)(hlt:p.toNat<u.length)(x:Bool):ix (up u p x) 0 false=bif ieq p 0 then x else ix u 0 false:=by
 unfold ix up;cases h:ieq p 0
 .have:p≠0:=by simpa [ieq] using h
  have hne:p.toNat≠0:=by omega
  simp[List.getD,jG,hne]
 .have:p=0:=by simpa [ieq] using h
  subst this;have hlt:0<u.length:=hlt;simp[List.getD,jG,hlt]
theorem zBc:∀(l:List Slot) (u u':List Bool),(∀s∈l,s.Page<12)->u.length=12->zfC l u=some u'->cz l+bit u=bit u'
 | [],u,u',_,_,h=>by cases h;simp[cz]
 | s :: l,u,u',hs,hu,h=>by
  simp only[zfC]at h;rw[zu3];cases h1:ilt s.Page 0
  .have h1:=jV h1;rw[show ilt s.Page 0=false from qQ (by omega)]at h
   simp only[cF]at h;cases h2:ix u s.Page false
   .rw [h2]at h;simp only[cF]at h;have hlt:s.Page.toNat<u.length:=by have:=hs s (by simp);omega
    have ih:=zBc l _ u' (fun t ht=>hs t (by simp[ht])) (by simpa using hu) h
    have e:bit (up u s.Page true)=bif ieq s.Page 0 then 1 else bit u:=by
     unfold bit;rw[z5x (by omega) hlt]
     cases ieq s.Page 0<;>rfl
    rw[e] at ih;cases h3:ieq s.Page 0
    .rw [h3] at ih;simp only[cF] at ih ⊢;omega
    .have h4:s.Page=0:=by simpa [ieq] using h3
     rw[h4]at h2;have:bit u=0:=by unfold bit;rw[h2];rfl
     rw[h3] at ih;simp only[cT] at ih ⊢;omega
   .rw [h2]at h;cases h
  .have h1':=qE h1;rw[h1]at h;simp only[cT]at h;have ih:=zBc l u u' (fun t ht=>hs t (by simp[ht])) hu h
   have:ieq s.Page 0=false:=by simp[ieq];omega
   rw[this];simpa using ih
theorem zPU:∀(l:List Mon) (u:List Bool),u.length=12->zgu l u=true->zH l+bit u<=1
 | [],u,_,_=>by unfold zH bit;cases ix u 0 false<;>simp
 | m :: l,u,hu,h=>by
  simp only[zgu]at h;cases h1:zdg m
  .rw [h1]at h;cases h
  .rw [h1]at h;simp only[cT]at h;cases h2:zfC m.Outer u with
   | none=>rw[h2]at h;cases h
   | some u' =>
    rw[h2]at h;have e:=zBc _ _ _ (zBL (zhq h1)) hu h2;have ih:=zPU l u' ((znG _ _ _ h2).trans hu) h;simp only[zH];omega
theorem zXx:∀(l:List Slot) (b:Nat) (s:Slot),l[b]?=some s->s.Page=0->cz (l.set b noSlot)+1=cz l
 | [],b,s,h,_=>by simp at h
 | t :: l,0,s,h,hs=>by
  simp only[qH,qC]at h;subst h;rw[List.set_cons_zero,zu3,zu3];have:ieq t.Page 0=true:=by simp[ieq,hs]
  rw[this];rfl
 | t :: l,b+1,s,h,hs=>by
  rw[List.set_cons_succ,zu3,zu3];have:=zXx l b s (by simpa using h) hs
  omega
theorem zSg:∀(l:List Mon) (a:Nat) (x y:Mon),l[a]?=some x->zH (l.set a y)+cz x.Outer=zH l+cz y.Outer
 | [],a,x,y,h=>by simp at h
 | m :: l,0,x,y,h=>by
  simp only[qH,qC]at h;subst h;rw[List.set_cons_zero];simp only[zH];omega
 | m :: l,a+1,x,y,h=>by
  rw[List.set_cons_succ];have:=zSg l a x y (by simpa using h)
  simp only[zH];omega
theorem zVo {l:List Slot}(h:cz l=0):zmG l 0=none:=by
 unfold zmG;rw[List.findIdx?_eq_none_iff];intro s hs;have:=(uX.1 h) s hs;simpa using this
theorem zIw:∀(l:List Mon) (i:Nat),zH l=0->zg5 0 l i=(-1,-1)
 | [],_,_=>rfl
 | m :: l,i,h=>by
  simp only[zH]at h;simp only[zg5];rw[zVo (by omega)]
  exact zIw l (i+1) (by omega)
theorem zVp {l:List Slot}{k:Nat}(h:zmG l 0=some k):∃s,l[k]?=some s/\s.Page=0:=by
 unfold zmG at h;rw[uQ]at h;obtain ⟨hlt,h1,_⟩:=h;exact ⟨l[k],qB hlt,by simpa [ieq] using h1⟩
theorem zDA:∀(l:List Mon) (i:Nat),zg5 0 l i=(-1,-1)\/∃a b x s,zg5 0 l i=(((i+a:Nat):Int),((b:Nat):Int))/\l[a]?=some x/\x.Outer[b]?=some s/\s.Page=0
 | [],_=>.inl rfl
 | m :: l,i=>by
  simp only[zg5];cases h:zmG m.Outer 0 with
  | none =>
   rcases zDA l (i+1) with h1|⟨a,b,x,s,h1,h2,h3,h4⟩
   .exact .inl h1
   .refine .inr ⟨a+1,b,x,s,?_,by simpa using h2,h3,h4⟩
    have e:i+1+a=i+(a+1):=by omega
    rw[h1,e]
  | some k =>
   obtain ⟨s,h1,h2⟩:=zVp h;exact .inr ⟨0,k,m,s,rfl,rfl,h1,h2⟩
def Fit (h:Host):Prop:=Shape h/\0<h.Memory.length/\zH h.Mons<=1
theorem zDo {h:Host}(hm:0<h.Memory.length)(ho:ilt (zbr h 0).1 0=true):inb 0 (ln (zbR h))=true:=by
 unfold zbR;obtain ⟨n,hn⟩:∃n,h.Memory.length=n+1:=⟨h.Memory.length-1,by omega⟩
 rw[hn];simp only[zuh];rw[show ilt (zbr h ((0:Nat):Int)).1 0=true from ho]
 exact qL (by simp only[cT,ln,qV];omega)
theorem zVu {h:Host}(hm:0<h.Memory.length)(h0:ieq (ln (zbR h)) 0=true):ilt (zbr h 0).1 0=false:=by
 cases ho:ilt (zbr h 0).1 0
 .rfl
 .have h1:=qE (zDo hm ho);have h2:ln (zbR h)=0:=by simpa [ieq] using h0
  omega
def zcu (h:Host):Host:=bif ieq (ln (zbR h)) 0 then zcC h (zbr h 0).1 (zbr h 0).2 else h
structure Room (h r:Host):Prop where
 shape:Shape r
 free:inb 0 (ln (zbR r))=true
 len:r.Mons.length=h.Mons.length
 outer:∀m,(ix r.Mons m mZ).Outer.length=8\/True
theorem zYp {h:Host}(hf:Fit h)(h0:ieq (ln (zbR h)) 0=true):∃(a b:Nat) (x:Mon) (s:Slot),zbr h 0=((a:Int),(b:Int))/\h.Mons[a]?=some x/\x.Outer[b]?=some s/\s.Page=0:=by
 have h1:=zVu hf.2.1 h0;have e:zbr h 0=zg5 0 h.Mons 0:=rfl;rcases zDA h.Mons 0 with h2|⟨a,b,x,s,h2,h3⟩
 .rw [e,h2]at h1;cases h1
 .exact ⟨a,b,x,s,by rw[e,h2,jX],h3⟩
theorem zBD {h:Host}(hf:Fit h)(h0:ieq (ln (zbR h)) 0=true):hasB (zbr h 0).1 (ln h.Mons)=true/\hasB (zbr h 0).2 8=true:=by
 obtain ⟨a,b,x,s,h1,h2,h3,h4⟩:=zYp hf h0;rw[h1];have ha:=(qA.1 h2).1;have hb:=(qA.1 h3).1;have hx:=hf.1.2 x (qK h2);refine ⟨qL (by simp only[ln];omega),qL ?_⟩
 have:=hx.1
 show 0<=(b:Int)/\(b:Int)<8
 omega
theorem room {h:Host}(hf:Fit h):Room h (zcu h):=by
 unfold zcu;cases h0:ieq (ln (zbR h)) 0
 .refine ⟨hf.1,qL ?_,rfl,fun _=>.inr trivial⟩;have:ln (zbR h)≠0:=by simpa [ieq] using h0
  show 0<=(0:Int)/\(0:Int)<ln (zbR h)
  simp only[ln] at *;omega
 .obtain ⟨hm,hp⟩:=zBD hf h0;obtain ⟨a,b,x,s,h1,h2,h3,h4⟩:=zYp hf h0;simp only[cT];rw[h1]at hm hp ⊢;have ha:=(qA.1 h2).1;have hb:=(qA.1 h3).1;have hxa:ix h.Mons (a:Int) mZ=x:=by rw[zbe ha];exact (qA.1 h2).2
  have hmons:=(zfw (zd3 h (a:Int) (b:Int)) (a:Int) (b:Int) noSlot).1;have ex:ix (zd3 h (a:Int) (b:Int)).Mons (a:Int) mZ={ x with Out:=up x.Out (b:Int) (zb8 h.Memory (ix x.Outer (b:Int) sZ).Page) }:=by
   unfold zd3;rw[zdv ha,hxa]
  obtain ⟨y,hM,hy⟩:∃y,(zcC h (a:Int) (b:Int)).Mons=h.Mons.set a y/\y.Outer=x.Outer.set b noSlot:=by
   unfold zcC;rw[hmons,ex];unfold zd3;rw[zt2];exact ⟨_,by simp[up];rfl,by simp[up]⟩
  have hz:zH (zcC h (a:Int) (b:Int)).Mons=0:=by
   have e1:=zSg h.Mons a x y h2;have e2:=zXx x.Outer b s h3 h4;have e3:=hf.2.2;rw[hM];rw[hy] at e1;omega
  have hmem:(zcC h (a:Int) (b:Int)).Memory=h.Memory:=(zfw (zd3 h (a:Int) (b:Int)) (a:Int) (b:Int) noSlot).2;refine ⟨zIU hf.1 hm,zDo (by rw[hmem];exact hf.2.1) ?_,by rw[hM];simp,fun _=>.inr trivial⟩
  have e:zbr (zcC h (a:Int) (b:Int)) 0=zg5 0 (zcC h (a:Int) (b:Int)).Mons 0:=rfl;rw[e,zIw _ _ hz];rfl
theorem zRD {m:List (List Int)}{p:Int}{c:List Int}(h:SmM m)(hc:c.length<=1048576):SmM (zgE m p c):=by
 unfold zgE;cases hasB p (ln m)
 .exact h
 .cases zb5 c
  .exact h
  .exact zI2 h hc
def landing (r:Host)(m p to:Int):Host:={ r with Memory:=zgE r.Memory to (ix (ix r.Mons m mZ).Out p []),Mons:=up r.Mons m { ix r.Mons m mZ with Out:=up (ix r.Mons m mZ).Out p [] } }
def zer (r:Host)(m p to:Int):Host:=zbU (landing r m p to) m p ⟨to,3⟩
def fetched (h:Host)(m p:Int):Host:=zer (zcu h) m p (ix (zbR (zcu h)) 0 0)
theorem zRF {r:Host}{m p:Int}(hr:Shape r)(hm:hasB m (ln r.Mons)=true)(hp:hasB p 8=true):(ix (ix r.Mons m mZ).Out p []).length<=1048576:=by
 obtain ⟨g1,g2⟩:=zcf hr hm;exact g1.2.1.2 _ (zbq (zdb g2.2.1 hp) _)
theorem zqs {r:Host}{m p to:Int}(hr:Shape r)(hm:hasB m (ln r.Mons)=true)(hp:hasB p 8=true):Shape (landing r m p to):=by
 obtain ⟨g1,g2⟩:=zcf hr hm;exact zM2 (h:={ r with Mons:=up r.Mons m { ix r.Mons m mZ with Out:=up (ix r.Mons m mZ).Out p [] } }) (zhz (x:={ ix r.Mons m mZ with Out:=up (ix r.Mons m mZ).Out p [] }) hr ⟨g1.1,zI2 g1.2.1 (by simp),g1.2.2⟩ ⟨g2.1,by simpa using g2.2.1,g2.2.2⟩) (zRD hr.1.1 (zRF hr hm hp))
theorem zOq {r:Host}{m p to:Int}(hr:Shape r)(hm:hasB m (ln r.Mons)=true)(hp:hasB p 8=true):Shape (zer r m p to):=zqu (zd8 hm) (zqs hr hm hp)
theorem zog {h:Host}(hf:Fit h){m:Int}(hm:hasB m (ln h.Mons)=true):hasB m (ln (zcu h).Mons)=true:=by
 rw[ln,(room hf).len];exact hm
theorem ziP {h:Host}{m p:Int}(hf:Fit h)(hm:hasB m (ln h.Mons)=true)(hp:hasB p 8=true):Shape (fetched h m p)/\hasB m (ln (fetched h m p).Mons)=true :=
 ⟨zOq (room hf).shape (zog hf hm) hp,zDp (zd8 (zog hf hm))⟩
@[simp] abbrev ztW (h:Host)(m p:Int):Bool:=pc (Fit h/\hasB m (ln h.Mons)=true/\hasB p 8=true)
@[simp] abbrev zv4 (h:Host)(m p:Int):Host:=fetched h m p
def zur:List AV->Option (Bool×List AV)
 | [.agg [.s (.sl .int) b,.s .mon c,.s .entry d,.s .entry e],.one (.i .i64 f),.one (.i .i64 g)]=>some ((ztW (⟨b,c,d,e⟩:Host) f g),[aH (zv4 (⟨b,c,d,e⟩:Host) f g)])
 | _=>none
def zy3 (N:Nat)(a0:Host)(a1 a2:Int):OA:=
 let y6:=(ix (zeH a0) 0 0);let y2:=(ix a0.Mons a1 zf);let y0:=(zxh a0 (zfK a0 0) (zg9 a0 0));let y5:=(ix (zeH y0) 0 0);let y1:=(ix y0.Mons a1 zf); (oN (zkD a0) (cond (ieq (ln (zeH a0)) 0) (oN (zji a0 0) (oN (zq5 a0 (zfK a0 0) (zg9 a0 0)) (oN (zkD y0) (oN (inb 0 (ln (zeH y0))) (oN (inb a1 (ln y0.Mons)) (oN (inb a2 (ln y1.Out)) (oN (zjU y0.Memory y5 (ix y1.Out a2 [])) (oN (inb a1 (ln y0.Mons)) (oN (inb a2 (ln y1.Out)) (share (up y0.Mons a1 ({ y1 with Out:=(up y1.Out a2 []) }:Mon)) (fun x4=>let y3:=({ y0 with Memory:=(ziu y0.Memory y5 (ix y1.Out a2 [])),Mons:=x4 }:Host); (oN (zeA y3 a1 a2 (⟨y5,3⟩:Slot)) (some [(aH (zf8 y3 a1 a2 (⟨y5,3⟩:Slot)))]))))))))))))) (oN (zkD a0) (oN (inb 0 (ln (zeH a0))) (oN (inb a1 (ln a0.Mons)) (oN (inb a2 (ln y2.Out)) (oN (zjU a0.Memory y6 (ix y2.Out a2 [])) (oN (inb a1 (ln a0.Mons)) (oN (inb a2 (ln y2.Out)) (share (up a0.Mons a1 ({ y2 with Out:=(up y2.Out a2 []) }:Mon)) (fun x4=>let y4:=({ a0 with Memory:=(ziu a0.Memory y6 (ix y2.Out a2 [])),Mons:=x4 }:Host); (oN (zeA y4 a1 a2 (⟨y6,3⟩:Slot)) (some [(aH (zf8 y4 a1 a2 (⟨y6,3⟩:Slot)))])))))))))))))
theorem zVQ (N:Nat)(a0:Host)(a1 a2:Int):zBp (cQ zoJ zn6 zVX zWD) (zx []) N 12 159 [true,true,true,true,false,false] 1 1 [[0],[1],[2],[4],[7]] .mon [aH a0,aI a1,aI a2]=zy3 N a0 a1 a2:=by kernel_rfl
theorem zSU (a0:Host)(a1 a2:Int)(hb:zbQ big [aH a0,aI a1,aI a2])(hc:ztW a0 a1 a2=true):∃N,zy3 N a0 a1 a2=some [aH (zv4 a0 a1 a2)]:=by
 obtain ⟨hf,hm,hp⟩:=zF.1 hc;have tail:∀r,Shape r->inb 0 (ln (zbR r))=true->hasB a1 (ln r.Mons)=true->(cond (zkD r) (cond (inb 0 (ln (zeH r))) (cond (inb a1 (ln r.Mons)) (cond (inb a2 (ln (ix r.Mons a1 zf).Out)) (cond (zjU r.Memory (ix (zeH r) 0 0) (ix (ix r.Mons a1 zf).Out a2 [])) (cond (inb a1 (ln r.Mons)) (cond (inb a2 (ln (ix r.Mons a1 zf).Out)) (share (up r.Mons a1 ({ (ix r.Mons a1 zf) with Out:=(up (ix r.Mons a1 zf).Out a2 []) }:Mon)) (fun x4=>(cond (zeA ({ r with Memory:=(ziu r.Memory (ix (zeH r) 0 0) (ix (ix r.Mons a1 zf).Out a2 [])),Mons:=x4 }:Host) a1 a2 (⟨(ix (zeH r) 0 0),3⟩:Slot)) (some [(AV.agg (zbc (zf8 ({ r with Memory:=(ziu r.Memory (ix (zeH r) 0 0) (ix (ix r.Mons a1 zf).Out a2 [])),Mons:=x4 }:Host) a1 a2 (⟨(ix (zeH r) 0 0),3⟩:Slot))))]) none))) none) none) none) none) none) none) none)=some [AV.agg (zbc (zer r a1 a2 (ix (zbR r) 0 0)))]:=by
  intro r hr hfree hrm;obtain ⟨g1,g2⟩:=zcf hr hrm;have hL:=zqs (to:=ix (zbR r) 0 0) hr hrm hp;obtain ⟨k,rfl,hk⟩:=zdj (n:=r.Mons.length) hrm;refine must (zby hr.1.1.1) (must hfree (must (zu hrm) (must (zu (zdb g2.2.1 hp)) (must (zby ⟨hr.1.1,zRF hr hrm hp⟩) (must (zu hrm) (must (zu (zdb g2.2.1 hp)) (shr (must (zby ⟨(zN _).2 hL.1,zd8 hrm,?_,?_⟩) rfl))))))))
  .simp only [zdv hk];exact zdb g2.1 hp
  .simp only [zdv hk];exact vE g2.2.2.2
 have hR:=room hf;have hrm:=zog hf hm;refine ⟨0,?_⟩;unfold zy3 zv4 fetched oN
 conv=>zeta
 refine must (zby hf.1.1.1.1) ?_;cases h0:ieq (ln (zeH a0)) 0
 .have er:zcu a0=a0:=by unfold zcu;rw[show ieq (ln (zbR a0)) 0=false from h0];rfl
  rw[er]at hR hrm ⊢;exact tail a0 hR.shape hR.free hrm
 .obtain ⟨o1,o2⟩:=zBD hf h0;have er:zcu a0=zcC a0 (zbr a0 0).1 (zbr a0 0).2:=by unfold zcu;rw[show ieq (ln (zbR a0)) 0=true from h0];rfl
  rw[er]at hR hrm ⊢;exact must rfl (must rfl (must (zby ⟨hf.1,o1,o2⟩) (tail _ hR.shape hR.free hrm)))
theorem zNy:zdp Tryz.prog 159 [true,true,true,true,false,false] (some (1,1,[[0],[1],[2],[4],[7]])) zur:=by
 refine zki (kt:=.mon) (zcW zhj zl zLk zLw) (zdN (by kernel_rfl)) (by kernel_rfl) ?_
 intro avs rs hl hr h;have hb:=zhE hr;unfold zur at h;split at h
 .obtain ⟨hc,rfl⟩:=zdJ h;obtain ⟨N,hN⟩:=zSU _ _ _ (by exact hb) hc
  exact ⟨⟨_,rfl⟩,rfl,_,N,12,(zVQ N _ _ _ ).trans hN⟩
 .cases h
@[simp] abbrev zp3 (h:Host):Bool:=pc (Shape h/\hasB (zbr h 0).1 (ln h.Mons)=true/\hasB (zbr h 0).2 8=true)
@[simp] abbrev zp4 (h:Host):Host:=zcC h (zbr h 0).1 (zbr h 0).2
def zlR:List CV->List AV->Option (Bool×List CV×List AV)
 | [.s (.sl .int) b,.s .mon c,.s .entry d,.s .entry e],[]=>some ((zp3 (⟨b,c,d,e⟩:Host)),zbc (zp4 (⟨b,c,d,e⟩:Host)),[])
 | _,_=>none
def zpV (N:Nat)(c:Host)  : OA :=
 (oN (zjf c 0) (oN (zwM c (zfG c 0) (zgY c 0)) (some [(aH (zwN c (zfG c 0) (zgY c 0)))])))
theorem zLd (N:Nat)(c:Host)  : zfV (cQ zoJ zn6 zVX zWD) (zx []) N 12 207 [true,true,true,true] (zbc c) []=zpV N c:=by kernel_rfl
theorem zH8 (c:Host)(hb:zbQ big (.agg (zbc c) :: []))(hc:zp3 c=true):∃N,zpV N c=some (.agg (zbc (zp4 c)) :: []):=by
 have hs:=zF.1 hc;refine ⟨0,?_⟩;unfold zpV oN;exact must rfl (must (zby hs) rfl)
theorem zBW:zdo Tryz.prog 207 [true,true,true,true] zlR:=by
 refine zb3 (zcW zhj zl zLk zLw) (zdN (by kernel_rfl)) ?_
 intro cs avs cs' rs hl hr h;have hb:=zcs hr;unfold zlR at h;split at h
 .obtain ⟨hc,rfl,rfl⟩:=zcM h;obtain ⟨N,hN⟩:=zH8 _ (by exact hb) hc
  exact ⟨rfl,_,N,12,(zLd N _ ).trans hN⟩
 .cases h
def z0G:zdl:=[(207,([true,true,true,true],zlR))]++zVX
theorem zUi:zcE z0G:=zd1 zLk (by
 intro x hx;simp only[qG,qY,or_false]at hx;rcases hx with rfl
 .exact zBW)
def zRP:ze3:=[(159,([true,true,true,true,false,false],(some (1,1,[[0],[1],[2],[4],[7]])),zur))]++zWD
theorem zBO:zdY zRP:=zl5 zLw (by
 intro x hx;simp only[qG,qY,or_false]at hx;rcases hx with rfl
 .exact zNy)
@[simp] abbrev zzJ (h:Host)(m p:Int):Bool:=pc (Fit h/\hasB m (ln h.Mons)=true/\hasB p 8=true)
@[simp] abbrev ztb (h:Host)(m p:Int):Host:=fetched h m p
theorem zUW {r:Host}{m p to:Int}(hr:Shape r)(hm:hasB m (ln r.Mons)=true):zwP { landing r m p to with Mons:=up (landing r m p to).Mons m { ix (landing r m p to).Mons m mZ with Outer:=up (ix (landing r m p to).Mons m mZ).Outer p ⟨to,3⟩ } } m p (ix (ix (landing r m p to).Mons m mZ).Outer p sZ)=zer r m p to:=by
 obtain ⟨g1,g2⟩:=zcf hr hm;obtain ⟨k,rfl,hk⟩:=zdj (n:=r.Mons.length) hm;refine zxk (h:=landing r (k:Int) p to) (by simpa [landing] using hk) ?_
 unfold landing;simp only[zdv hk];exact g2.2.2.2
theorem zTt {r:Host}{m p to:Int}(hr:Shape r)(hm:hasB m (ln r.Mons)=true)(hp:hasB p 8=true):Shape { landing r m p to with Mons:=up (landing r m p to).Mons m { ix (landing r m p to).Mons m mZ with Outer:=up (ix (landing r m p to).Mons m mZ).Outer p ⟨to,3⟩ } }:=by
 have hL:=zqs (to:=to) hr hm hp;obtain ⟨q1,q2⟩:=zcf hL (zd8 hm);exact zhz hL ⟨by simpa using q1.1,q1.2⟩ ⟨by simpa using q2.1,q2.2⟩
def zrX:List CV->List AV->Option (Bool×List CV×List AV)
 | [.s (.sl .int) b,.s .mon c,.s .entry d,.s .entry e],[.one (.i .i64 f),.one (.i .i64 g)]=>some ((zzJ (⟨b,c,d,e⟩:Host) f g),zbc (ztb (⟨b,c,d,e⟩:Host) f g),[])
 | _,_=>none
def zyL (N:Nat)(c:Host)(a0 a1:Int):OA:=
 let y8:=(ix (ze9 c) 0 0);let y6:=(zp4 c);let y7:=(ix (ze9 y6) 0 0);let y1:=(ix c.Mons a0 zf);let y0:=(ix y6.Mons a0 zf); (oN (zkk c) (cond (ieq (ln (ze9 c)) 0) (oN (zp3 c) (oN (inb a0 (ln y6.Mons)) (oN (zkk y6) (oN (inb 0 (ln (ze9 y6))) (oN (inb a1 (ln y0.Out)) (oN (zjA y6.Memory y7 (ix y0.Out a1 [])) (oN (inb a1 (ln y0.Out)) (share (up y6.Mons a0 ({ y0 with Out:=(up y0.Out a1 []) }:Mon)) (fun x4=>let y2:=(ix x4 a0 zf);let y9:=(ix y2.Outer a1 zI); (oN (inb a1 (ln y2.Outer)) (oN (inb a1 (ln y2.Outer)) (share (up x4 a0 ({ y2 with Outer:=(up y2.Outer a1 (⟨y7,3⟩:Slot)) }:Mon)) (fun x5=>let y4:=({ y6 with Memory:=(zim y6.Memory y7 (ix y0.Out a1 [])),Mons:=x5 }:Host); (oN (zdQ y4 a0 a1 y9) (some [(aH (zdR y4 a0 a1 y9))]))))))))))))))) (oN (inb a0 (ln c.Mons)) (oN (zkk c) (oN (inb 0 (ln (ze9 c))) (oN (inb a1 (ln y1.Out)) (oN (zjA c.Memory y8 (ix y1.Out a1 [])) (oN (inb a1 (ln y1.Out)) (share (up c.Mons a0 ({ y1 with Out:=(up y1.Out a1 []) }:Mon)) (fun x4=>let y3:=(ix x4 a0 zf);let y10:=(ix y3.Outer a1 zI); (oN (inb a1 (ln y3.Outer)) (oN (inb a1 (ln y3.Outer)) (share (up x4 a0 ({ y3 with Outer:=(up y3.Outer a1 (⟨y8,3⟩:Slot)) }:Mon)) (fun x5=>let y5:=({ c with Memory:=(zim c.Memory y8 (ix y1.Out a1 [])),Mons:=x5 }:Host); (oN (zdQ y5 a0 a1 y10) (some [(aH (zdR y5 a0 a1 y10))]))))))))))))))))
theorem zVP (N:Nat)(c:Host)(a0 a1:Int):zfV (cQ zoJ zn6 z0G zRP) (zx []) N 12 150 [true,true,true,true] (zbc c) [aI a0,aI a1]=zyL N c a0 a1:=by kernel_rfl
theorem zSG (c:Host)(a0 a1:Int)(hb:zbQ big (.agg (zbc c) :: [aI a0,aI a1]))(hc:zzJ c a0 a1=true):∃N,zyL N c a0 a1=some (.agg (zbc (ztb c a0 a1)) :: []):=by
 obtain ⟨hf,hm,hp⟩:=zF.1 hc;have tail:∀r,Shape r->inb 0 (ln (zbR r))=true->hasB a0 (ln r.Mons)=true->(cond (inb a0 (ln r.Mons)) (cond (zkk r) (cond (inb 0 (ln (ze9 r))) (cond (inb a1 (ln (ix r.Mons a0 zf).Out)) (cond (zjA r.Memory (ix (ze9 r) 0 0) (ix (ix r.Mons a0 zf).Out a1 [])) (cond (inb a1 (ln (ix r.Mons a0 zf).Out)) (share (up r.Mons a0 ({ (ix r.Mons a0 zf) with Out:=(up (ix r.Mons a0 zf).Out a1 []) }:Mon)) (fun x4=>(cond (inb a1 (ln (ix x4 a0 zf).Outer)) (cond (inb a1 (ln (ix x4 a0 zf).Outer)) (share (up x4 a0 ({ (ix x4 a0 zf) with Outer:=(up (ix x4 a0 zf).Outer a1 (⟨(ix (ze9 r) 0 0),3⟩:Slot)) }:Mon)) (fun x5=>(cond (zdQ ({ r with Memory:=(zim r.Memory (ix (ze9 r) 0 0) (ix (ix r.Mons a0 zf).Out a1 [])),Mons:=x5 }:Host) a0 a1 (ix (ix x4 a0 zf).Outer a1 zI)) (some [(AV.agg (zbc (zdR ({ r with Memory:=(zim r.Memory (ix (ze9 r) 0 0) (ix (ix r.Mons a0 zf).Out a1 [])),Mons:=x5 }:Host) a0 a1 (ix (ix x4 a0 zf).Outer a1 zI))))]) none))) none) none))) none) none) none) none) none) none)=some [AV.agg (zbc (zer r a0 a1 (ix (zbR r) 0 0)))]:=by
  intro r hr hfree hrm;obtain ⟨g1,g2⟩:=zcf hr hrm;have hL:=zTt (to:=ix (zbR r) 0 0) hr hrm hp;have hE:=zUW (p:=a1) (to:=ix (zbR r) 0 0) hr hrm;obtain ⟨k,rfl,hk⟩:=zdj (n:=r.Mons.length) hrm;have hh:∀(x y:Mon),hasB (k:Int) (ln (up (up r.Mons (k:Int) x) (k:Int) y))=true:=fun x y=>by simpa [ln] using hrm
  have hi:inb a1 (ln (ix (up r.Mons (k:Int) { ix r.Mons (k:Int) mZ with Out:=up (ix r.Mons (k:Int) mZ).Out a1 [] }) (k:Int) mZ).Outer)=true:=by
   rw[zdv hk];exact zu (zdb g2.1 hp)
  refine must (zu hrm) (must (zby hr.1.1.1) (must hfree (must (zu (zdb g2.2.1 hp)) (must (zby ⟨hr.1.1,zRF hr hrm hp⟩) (must (zu (zdb g2.2.1 hp)) (shr (must hi (must hi (shr (must (zby ⟨hL,hh _ _⟩) ?_))))))))));exact congrArg (fun x=>some [AV.agg (zbc x)]) hE
 have hR:=room hf;have hrm:=zog hf hm;refine ⟨0,?_⟩;unfold zyL ztb fetched oN
 conv=>zeta
 refine must (zby hf.1.1.1.1) ?_;cases h0:ieq (ln (ze9 c)) 0
 .have er:zcu c=c:=by unfold zcu;rw[show ieq (ln (zbR c)) 0=false from h0];rfl
  rw[er]at hR hrm ⊢;exact tail c hR.shape hR.free hrm
 .obtain ⟨o1,o2⟩:=zBD hf h0;have er:zcu c=zcC c (zbr c 0).1 (zbr c 0).2:=by unfold zcu;rw[show ieq (ln (zbR c)) 0=true from h0];rfl
  rw[er]at hR hrm ⊢;exact must rfl (must (zby ⟨hf.1,o1,o2⟩) (tail _ hR.shape hR.free hrm))
theorem zNl:zdo Tryz.prog 150 [true,true,true,true] zrX:=by
 refine zb3 (zcW zhj zl zUi zBO) (zdN (by kernel_rfl)) ?_
 intro cs avs cs' rs hl hr h;have hb:=zcs hr;unfold zrX at h;split at h
 .obtain ⟨hc,rfl,rfl⟩:=zcM h;obtain ⟨N,hN⟩:=zSG _ _ _ (by exact hb) hc
  exact ⟨rfl,_,N,12,(zVP N _ _ _ ).trans hN⟩
 .cases h
def zVY:zdl:=[(150,([true,true,true,true],zrX))]++z0G
theorem zLl:zcE zVY:=zd1 zUi (by
 intro x hx;simp only[qG,qY,or_false]at hx;rcases hx with rfl
 .exact zNl)
def zbp (h:Host)(m p:Int):Host:={ h with Mons:=up h.Mons m { ix h.Mons m mZ with Dirty:=up (ix h.Mons m mZ).Dirty p true } }
def opened (h:Host)(m p:Int):Host:=bif ieq (wand .i64 (ix (ix h.Mons m mZ).Outer p sZ).Rights 2) 0 then zbU h m p ⟨(ix (ix h.Mons m mZ).Outer p sZ).Page,3⟩ else h
def zg4 (h:Host)(m p n:Int):Host:=bif ieq (wand .i64 n 2) 0 then h else opened (zbp h m p) m p
def mended (h:Host)(m p n:Int):Host:=bif ieq (ix (ix h.Mons m mZ).Outer p sZ).Page (-1) then zg4 (fetched h m p) m p n else zg4 h m p n
theorem z3H {r:Int}(h0:0<=r)(h3:r<=3):enough r 2 = !ieq (wand .i64 r 2) 0:=by
 have:r=0\/r=1\/r=2\/r=3:=by omega
 rcases this with rfl|rfl|rfl|rfl<;>rfl
structure SlotFit (s:Slot):Prop where
 no:zcd s noSlot=ieq s.Page (-1)
 lo:0<=s.Rights
 hi:s.Rights<=3
theorem zWt {s:Slot}{n:Int}(h:zc6 s n=true):SlotFit s:=by
 refine ⟨zM4 h,?_,?_⟩<;>unfold zc6 at h<;>cases h1:zcd s noSlot
 .rw [h1]at h;simp only[cF,zcw]at h;have:=(zfg.1 h.2.2).1;omega
 .unfold zcd at h1;rw[qD]at h1;have:s.Rights=0:=qE h1.2;omega
 .rw [h1]at h;simp only[cF,zcw]at h;have:=(zfg.1 h.2.2).2;omega
 .unfold zcd at h1;rw[qD]at h1;have:s.Rights=0:=qE h1.2;omega
theorem zlF {h:Host}{m p:Int}(hs:Shape h)(hm:hasB m (ln h.Mons)=true):Shape (zbp h m p):=by
 obtain ⟨g1,g2⟩:=zcf hs hm;exact zhz hs ⟨g1.1,g1.2.1,by simpa using g1.2.2.1,g1.2.2.2⟩ ⟨g2.1,g2.2.1,by simpa using g2.2.2.1,g2.2.2.2⟩
theorem zRw {h:Host}{m p:Int}(hs:Shape h)(hm:hasB m (ln h.Mons)=true):Shape (opened h m p)/\hasB m (ln (opened h m p).Mons)=true:=by
 unfold opened;cases ieq (wand .i64 (ix (ix h.Mons m mZ).Outer p sZ).Rights 2) 0
 .exact ⟨hs,hm⟩
 .exact ⟨zqu hm hs,zDp hm⟩
theorem zD3 {h:Host}{m p n:Int}(hs:Shape h)(hm:hasB m (ln h.Mons)=true):Shape (zg4 h m p n)/\hasB m (ln (zg4 h m p n).Mons)=true:=by
 unfold zg4;cases ieq (wand .i64 n 2) 0
 .exact zRw (zlF hs hm) (zd8 hm)
 .exact ⟨hs,hm⟩
theorem zst {h:Host}{m p n:Int}(hf:Fit h)(hm:hasB m (ln h.Mons)=true)(hp:hasB p 8=true):Shape (mended h m p n)/\hasB m (ln (mended h m p n).Mons)=true:=by
 unfold mended;cases ieq (ix (ix h.Mons m mZ).Outer p sZ).Page (-1)
 .exact zD3 hf.1 hm
 .obtain ⟨h1,h2⟩:=ziP hf hm hp;exact zD3 h1 h2
theorem zPB {h:Host}{m p:Int}(hf:Fit h)(hm:hasB m (ln h.Mons)=true)(hp:hasB p 8=true):(ix (ix (fetched h m p).Mons m mZ).Outer p sZ).Rights=3:=by
 have hR:=room hf;have hrm:=zog hf hm;obtain ⟨g1,g2⟩:=zcf hR.shape hrm;obtain ⟨k,rfl,hk⟩:=zdj (n:=(zcu h).Mons.length) hrm;obtain ⟨q,rfl,hq⟩:=zdj (n:=8) hp;unfold fetched zer;rw[(zfw _ _ _ _).1];have hk':k<(landing (zcu h) (k:Int) (q:Int) (ix (zbR (zcu h)) 0 0)).Mons.length:=by simpa [landing] using hk
 rw[zdv hk'];have ho:q<(ix (landing (zcu h) (k:Int) (q:Int) (ix (zbR (zcu h)) 0 0)).Mons (k:Int) mZ).Outer.length:=by
  unfold landing;rw[zdv hk]
  show q<(ix (zcu h).Mons (k:Int) mZ).Outer.length
  rw[g2.1];exact hq
 show (ix (up (ix (landing (zcu h) (k:Int) (q:Int) (ix (zbR (zcu h)) 0 0)).Mons (k:Int) mZ).Outer (q:Int) ⟨_,3⟩) (q:Int) sZ).Rights=3
 rw[zdv ho]
def zO2 (h:Host)(m p n:Int):Prop:=Fit h/\hasB m (ln h.Mons)=true/\hasB p 8=true/\(n=1\/n=2)/\SlotFit (ix (ix h.Mons m mZ).Outer p sZ)
@[simp] abbrev zls (h:Host)(m p n:Int):Bool:=pc (zO2 h m p n)
@[simp] abbrev zmm (h:Host)(m p n:Int):Host:=mended h m p n
def zqh:List AV->Option (Bool×List AV)
 | [.agg [.s (.sl .int) b,.s .mon c,.s .entry d,.s .entry e],.one (.i .i64 f),.one (.i .i64 g),.one (.i .i64 h)]=>some ((zls (⟨b,c,d,e⟩:Host) f g h),[aH (zmm (⟨b,c,d,e⟩:Host) f g h)])
 | _=>none
def zt3 (N:Nat)(a0:Host)(a1 a2 a3:Int):OA:=
 let y3:=(zv4 a0 a1 a2);let y6:=(ix y3.Mons a1 zf);let y0:=(ix a0.Mons a1 zf);let y7:=(ix y0.Outer a2 zI); (oN (inb a1 (ln a0.Mons)) (oN (inb a2 (ln y0.Outer)) (oN zck (cond (cond (ieq y7.Page zbo.Page) (ieq y7.Rights zbo.Rights) false) (oN (ztW a0 a1 a2) (cond (ieq (wand .i64 a3 2) 0) (some [(aH y3)]) (oN (inb a1 (ln y3.Mons)) (oN (inb a2 (ln y6.Dirty)) (share (up y3.Mons a1 ({ y6 with Dirty:=(up y6.Dirty a2 true) }:Mon)) (fun x5=>let y8:=(ix x5 a1 zf).Outer;let y4:=({ y3 with Mons:=x5 }:Host);let y1:=(ix y8 a2 zI);let y9:=({ y1 with Rights:=3 }:Slot); (oN (inb a1 (ln x5)) (oN (inb a2 (ln y8)) (cond (ieq (wand .i64 y1.Rights 2) 0) (oN (zeA y4 a1 a2 y9) (some [(aH (zf8 y4 a1 a2 y9))])) (some [(aH y4)])))))))))) (cond (ieq (wand .i64 a3 2) 0) (some [(aH a0)]) (oN (inb a1 (ln a0.Mons)) (oN (inb a2 (ln y0.Dirty)) (share (up a0.Mons a1 ({ y0 with Dirty:=(up y0.Dirty a2 true) }:Mon)) (fun x5=>let y10:=(ix x5 a1 zf).Outer;let y5:=({ a0 with Mons:=x5 }:Host);let y2:=(ix y10 a2 zI);let y11:=({ y2 with Rights:=3 }:Slot); (oN (inb a1 (ln x5)) (oN (inb a2 (ln y10)) (cond (ieq (wand .i64 y2.Rights 2) 0) (oN (zeA y5 a1 a2 y11) (some [(aH (zf8 y5 a1 a2 y11))])) (some [(aH y5)])))))))))))))
theorem zQ3 (N:Nat)(a0:Host)(a1 a2 a3:Int):zBp (cQ zoJ zn6 zVY zRP) (zx []) N 12 102 [true,true,true,true,false,false,false] 1 1 [[0],[1],[2],[4],[7]] .mon [aH a0,aI a1,aI a2,aI a3]=zt3 N a0 a1 a2 a3:=by kernel_rfl
theorem zOg (a0:Host)(a1 a2 a3:Int)(hb:zbQ big [aH a0,aI a1,aI a2,aI a3])(hc:zls a0 a1 a2 a3=true):∃N,zt3 N a0 a1 a2 a3=some [aH (zmm a0 a1 a2 a3)]:=by
 obtain ⟨hf,hm,hp,hn,hs⟩:=zF.1 hc;obtain ⟨g1,g2⟩:=zcf hf.1 hm;have tail:∀r,Shape r->hasB a1 (ln r.Mons)=true->(cond (ieq (wand .i64 a3 2) 0) (some [(AV.agg (zbc r))]) (cond (inb a1 (ln r.Mons)) (cond (inb a2 (ln (ix r.Mons a1 zf).Dirty)) (share (up r.Mons a1 ({ (ix r.Mons a1 zf) with Dirty:=(up (ix r.Mons a1 zf).Dirty a2 true) }:Mon)) (fun x5=>(cond (inb a1 (ln x5)) (cond (inb a2 (ln (ix x5 a1 zf).Outer)) (cond (ieq (wand .i64 (ix (ix x5 a1 zf).Outer a2 zI).Rights 2) 0) (cond (zeA ({ r with Mons:=x5 }:Host) a1 a2 ({ (ix (ix x5 a1 zf).Outer a2 zI) with Rights:=3 }:Slot)) (some [(AV.agg (zbc (zf8 ({ r with Mons:=x5 }:Host) a1 a2 ({ (ix (ix x5 a1 zf).Outer a2 zI) with Rights:=3 }:Slot))))]) none) (some [(AV.agg (zbc ({ r with Mons:=x5 }:Host)))])) none) none))) none) none))=some [AV.agg (zbc (zg4 r a1 a2 a3))]:=by
  intro r hr hrm;obtain ⟨q1,q2⟩:=zcf hr hrm;have hD:=zlF (p:=a2) hr hrm;unfold zg4;cases h0:ieq (wand .i64 a3 2) 0
  .obtain ⟨k,rfl,hk⟩:=zdj (n:=r.Mons.length) hrm;have ex:ix (zbp r (k:Int) a2).Mons (k:Int) mZ={ ix r.Mons (k:Int) mZ with Dirty:=up (ix r.Mons (k:Int) mZ).Dirty a2 true }:=zdv hk _ _;refine zdB rfl (must (zu hrm) (must (zu (zdb q2.2.2.1 hp)) (shr (must (zu (zd8 hrm)) (must ?_ ?_)))))
   .rw [zdv hk];exact zu (zdb q2.1 hp)
   .unfold opened
    show (cond (ieq (wand .i64 (ix (ix (zbp r (k:Int) a2).Mons (k:Int) mZ).Outer a2 sZ).Rights 2) 0) _ _)=_
    cases h1:ieq (wand .i64 (ix (ix (zbp r (k:Int) a2).Mons (k:Int) mZ).Outer a2 sZ).Rights 2) 0
    .rfl
    .refine must rfl (must (zby ⟨(zN _).2 hD.1,zd8 hrm,?_,?_⟩) rfl)
     .show hasB a2 (ln (ix (zbp r (k:Int) a2).Mons (k:Int) mZ).Outer)=true
      rw[ex];exact zdb q2.1 hp
     .show (ix (zbp r (k:Int) a2).Mons (k:Int) mZ).Tables.length<=(ix (zbp r (k:Int) a2).Mons (k:Int) mZ).Guests.length
      rw[ex];exact vE q2.2.2.2
  .rfl
 refine ⟨0,?_⟩;unfold zt3 zmm mended oN
 conv=>zeta
 refine must (zu hm) (must (zu (zdb g2.1 hp)) (must rfl ?_));have e:(cond (ieq (ix (ix a0.Mons a1 mZ).Outer a2 sZ).Page zbo.Page) (ieq (ix (ix a0.Mons a1 mZ).Outer a2 sZ).Rights zbo.Rights) false)=ieq (ix (ix a0.Mons a1 mZ).Outer a2 sZ).Page (-1):=by
  rw[<- hs.no];unfold zcd zbo;cases ieq (ix (ix a0.Mons a1 mZ).Outer a2 sZ).Page noSlot.Page<;>rfl
 rw[e];cases h0:ieq (ix (ix a0.Mons a1 mZ).Outer a2 sZ).Page (-1)
 .exact tail a0 hf.1 hm
 .obtain ⟨h1,h2⟩:=ziP (p:=a2) hf hm hp;exact must rfl (must (zby ⟨hf,hm,hp⟩) (tail _ h1 h2))
theorem zHQ:zdp Tryz.prog 102 [true,true,true,true,false,false,false] (some (1,1,[[0],[1],[2],[4],[7]])) zqh:=by
 refine zki (kt:=.mon) (zcW zhj zl zLl zBO) (zdN (by kernel_rfl)) (by kernel_rfl) ?_
 intro avs rs hl hr h;have hb:=zhE hr;unfold zqh at h;split at h
 .obtain ⟨hc,rfl⟩:=zdJ h;obtain ⟨N,hN⟩:=zOg _ _ _ _ (by exact hb) hc
  exact ⟨⟨_,rfl⟩,rfl,_,N,12,(zQ3 N _ _ _ _ ).trans hN⟩
 .cases h
@[simp] abbrev zPV (h:Host)(m p n:Int):Bool:=pc (zO2 h m p n)
@[simp] abbrev zFc (h:Host)(m p n:Int):Host:=mended h m p n
def zul:List CV->List AV->Option (Bool×List CV×List AV)
 | [.s (.sl .int) b,.s .mon c,.s .entry d,.s .entry e],[.one (.i .i64 f),.one (.i .i64 g),.one (.i .i64 h)]=>some ((zPV (⟨b,c,d,e⟩:Host) f g h),zbc (zFc (⟨b,c,d,e⟩:Host) f g h),[])
 | _,_=>none
def zEf (N:Nat)(c:Host)(a0 a1 a2:Int):OA:=
 let y3:=(ztb c a0 a1);let y6:=(ix y3.Mons a0 zf);let y2:=(ix c.Mons a0 zf); (oN (inb a0 (ln c.Mons)) (oN (inb a1 (ln y2.Outer)) (cond (ieq (ix y2.Outer a1 zI).Page (-1)) (oN (zzJ c a0 a1) (oN (zdO a2 2) (cond (nB (zen a2 2)) (some [(aH y3)]) (oN (inb a0 (ln y3.Mons)) (oN (inb a1 (ln y6.Dirty)) (share (up y3.Mons a0 ({ y6 with Dirty:=(up y6.Dirty a1 true) }:Mon)) (fun x5=>let y4:=(ix x5 a0 zf);let y0:=(ix y4.Outer a1 zI); (oN (inb a1 (ln y4.Outer)) (oN (zdO y0.Rights 2) (cond (nB (zen y0.Rights 2)) (oN (inb a1 (ln y4.Outer)) (share (up x5 a0 ({ y4 with Outer:=(up y4.Outer a1 ({ y0 with Rights:=3 }:Slot)) }:Mon)) (fun x6=>let y7:=({ y3 with Mons:=x6 }:Host); (oN (zdQ y7 a0 a1 y0) (some [(aH (zdR y7 a0 a1 y0))]))))) (some [(aH ({ y3 with Mons:=x5 }:Host))]))))))))))) (oN (zdO a2 2) (cond (nB (zen a2 2)) (some [(aH c)]) (oN (inb a0 (ln c.Mons)) (oN (inb a1 (ln y2.Dirty)) (share (up c.Mons a0 ({ y2 with Dirty:=(up y2.Dirty a1 true) }:Mon)) (fun x5=>let y5:=(ix x5 a0 zf);let y1:=(ix y5.Outer a1 zI); (oN (inb a1 (ln y5.Outer)) (oN (zdO y1.Rights 2) (cond (nB (zen y1.Rights 2)) (oN (inb a1 (ln y5.Outer)) (share (up x5 a0 ({ y5 with Outer:=(up y5.Outer a1 ({ y1 with Rights:=3 }:Slot)) }:Mon)) (fun x6=>let y8:=({ c with Mons:=x6 }:Host); (oN (zdQ y8 a0 a1 y1) (some [(aH (zdR y8 a0 a1 y1))]))))) (some [(aH ({ c with Mons:=x5 }:Host))])))))))))))))
theorem zYh (N:Nat)(c:Host)(a0 a1 a2:Int):zfV (cQ zoJ zn6 zVY zRP) (zx []) N 12 92 [true,true,true,true] (zbc c) [aI a0,aI a1,aI a2]=zEf N c a0 a1 a2:=by kernel_rfl
theorem zVI (c:Host)(a0 a1 a2:Int)(hb:zbQ big (.agg (zbc c) :: [aI a0,aI a1,aI a2]))(hc:zPV c a0 a1 a2=true):∃N,zEf N c a0 a1 a2=some (.agg (zbc (zFc c a0 a1 a2)) :: []):=by
 obtain ⟨hf,hm,hp,hn,hs⟩:=zF.1 hc;obtain ⟨g1,g2⟩:=zcf hf.1 hm;have en:enough a2 2 = !ieq (wand .i64 a2 2) 0:=by rcases hn with rfl|rfl<;>rfl
 have tail:∀r,Shape r->hasB a0 (ln r.Mons)=true->enough (ix (ix r.Mons a0 mZ).Outer a1 sZ).Rights 2=(!ieq (wand .i64 (ix (ix r.Mons a0 mZ).Outer a1 sZ).Rights 2) 0)->(cond (zdO a2 2) (cond (cond (zen a2 2) false true) (some [(AV.agg (zbc r))]) (cond (inb a0 (ln r.Mons)) (cond (inb a1 (ln (ix r.Mons a0 zf).Dirty)) (share (up r.Mons a0 ({ (ix r.Mons a0 zf) with Dirty:=(up (ix r.Mons a0 zf).Dirty a1 true) }:Mon)) (fun x5=>(cond (inb a1 (ln (ix x5 a0 zf).Outer)) (cond (zdO (ix (ix x5 a0 zf).Outer a1 zI).Rights 2) (cond (cond (zen (ix (ix x5 a0 zf).Outer a1 zI).Rights 2) false true) (cond (inb a1 (ln (ix x5 a0 zf).Outer)) (share (up x5 a0 ({ (ix x5 a0 zf) with Outer:=(up (ix x5 a0 zf).Outer a1 ({ (ix (ix x5 a0 zf).Outer a1 zI) with Rights:=3 }:Slot)) }:Mon)) (fun x6=>(cond (zdQ ({ r with Mons:=x6 }:Host) a0 a1 (ix (ix x5 a0 zf).Outer a1 zI)) (some [(AV.agg (zbc (zdR ({ r with Mons:=x6 }:Host) a0 a1 (ix (ix x5 a0 zf).Outer a1 zI))))]) none))) none) (some [(AV.agg (zbc ({ r with Mons:=x5 }:Host)))])) none) none))) none) none)) none)=some [AV.agg (zbc (zg4 r a0 a1 a2))]:=by
  intro r hr hrm her;obtain ⟨q1,q2⟩:=zcf hr hrm;have hD:=zlF (p:=a1) hr hrm;unfold zg4;simp only[zdO,zen,en,cT];cases h0:ieq (wand .i64 a2 2) 0
  .obtain ⟨k,rfl,hk⟩:=zdj (n:=r.Mons.length) hrm;have ex:ix (zbp r (k:Int) a1).Mons (k:Int) mZ={ ix r.Mons (k:Int) mZ with Dirty:=up (ix r.Mons (k:Int) mZ).Dirty a1 true }:=zdv hk _ _;have hk':k<(zbp r (k:Int) a1).Mons.length:=by simpa [zbp] using hk
   have hi:inb a1 (ln (ix (zbp r (k:Int) a1).Mons (k:Int) mZ).Outer)=true:=by
    rw[ex];exact zu (zdb q2.1 hp)
   refine zdB rfl (must (zu hrm) (must (zu (zdb q2.2.2.1 hp)) (shr (must hi ?_))));unfold opened
   show (cond (cond (enough (ix (ix (zbp r (k:Int) a1).Mons (k:Int) mZ).Outer a1 sZ).Rights 2) false true) _ _)=_
   have e2:(cond (enough (ix (ix (zbp r (k:Int) a1).Mons (k:Int) mZ).Outer a1 sZ).Rights 2) false true)=ieq (wand .i64 (ix (ix (zbp r (k:Int) a1).Mons (k:Int) mZ).Outer a1 sZ).Rights 2) 0:=by
    rw[ex]
    show (cond (enough (ix (ix r.Mons (k:Int) mZ).Outer a1 sZ).Rights 2) false true)=ieq (wand .i64 (ix (ix r.Mons (k:Int) mZ).Outer a1 sZ).Rights 2) 0
    rw[her];cases ieq (wand .i64 (ix (ix r.Mons (k:Int) mZ).Outer a1 sZ).Rights 2) 0<;>rfl
   rw[e2];cases h1:ieq (wand .i64 (ix (ix (zbp r (k:Int) a1).Mons (k:Int) mZ).Outer a1 sZ).Rights 2) 0
   .rfl
   .have hX:Shape { zbp r (k:Int) a1 with Mons:=up (zbp r (k:Int) a1).Mons (k:Int) { ix (zbp r (k:Int) a1).Mons (k:Int) mZ with Outer:=up (ix (zbp r (k:Int) a1).Mons (k:Int) mZ).Outer a1 ⟨(ix (ix (zbp r (k:Int) a1).Mons (k:Int) mZ).Outer a1 sZ).Page,3⟩ } }:=by
     obtain ⟨w1,w2⟩:=zcf hD (zd8 hrm);exact zhz hD ⟨by simpa using w1.1,w1.2⟩ ⟨by simpa using w2.1,w2.2⟩
    have hh:∀(x y:Mon),hasB (k:Int) (ln (up (up r.Mons (k:Int) x) (k:Int) y))=true:=fun x y=>by simpa [ln] using hrm
    refine must rfl (must hi (shr (must (zby ⟨hX,hh _ _⟩) ?_)));exact congrArg (fun x=>some [AV.agg (zbc x)]) (zxk (h:=zbp r (k:Int) a1) (p:=a1) (s:=⟨(ix (ix (zbp r (k:Int) a1).Mons (k:Int) mZ).Outer a1 sZ).Page,3⟩) hk' (by rw[ex];exact q2.2.2.2))
  .rfl
 refine ⟨0,?_⟩;unfold zEf zFc mended oN nB
 conv=>zeta
 refine must (zu hm) (must (zu (zdb g2.1 hp)) ?_);cases h0:ieq (ix (ix c.Mons a0 mZ).Outer a1 sZ).Page (-1)
 .exact tail c hf.1 hm (z3H hs.lo hs.hi)
 .obtain ⟨h1,h2⟩:=ziP (p:=a1) hf hm hp;exact must rfl (must (zby ⟨hf,hm,hp⟩) (tail _ h1 h2 (by rw[zPB hf hm hp];rfl)))
theorem zPP:zdo Tryz.prog 92 [true,true,true,true] zul:=by
 refine zb3 (zcW zhj zl zLl zBO) (zdN (by kernel_rfl)) ?_
 intro cs avs cs' rs hl hr h;have hb:=zcs hr;unfold zul at h;split at h
 .obtain ⟨hc,rfl,rfl⟩:=zcM h;obtain ⟨N,hN⟩:=zVI _ _ _ _ (by exact hb) hc
  exact ⟨rfl,_,N,12,(zYh N _ _ _ _ ).trans hN⟩
 .cases h
def zWa:zdl:=[(92,([true,true,true,true],zul))]++zVY
theorem zb6:zcE zWa:=zd1 zLl (by
 intro x hx;simp only[qG,qY,or_false]at hx;rcases hx with rfl
 .exact zPP)
def zWE:ze3:=[(102,([true,true,true,true,false,false,false],(some (1,1,[[0],[1],[2],[4],[7]])),zqh))]++zRP
theorem zLx:zdY zWE:=zl5 zBO (by
 intro x hx;simp only[qG,qY,or_false]at hx;rcases hx with rfl
 .exact zHQ)
theorem zVB {h:Host}(hh:zbB h=true):h.Memory.length=12:=by
 unfold zbB at hh;simp only[zcw]at hh;have h1:=hh.1;unfold zgG at h1;simp only[zcw]at h1;have:ln h.Memory=12:=qE h1.2;simp only[ln] at this;omega
theorem zf2 {h:Host}(hh:zbB h=true):∀x∈h.Mons,zdg x=true:=by
 unfold zbB at hh;simp only[zcw]at hh;exact zwD _ _ hh.2.2.2.2
theorem zFA {x:Mon}(hk:zdg x=true):ShM x:=by
 have ho:=zmq (zhq hk);unfold zdg at hk;simp only[zcw]at hk;have e1:ln x.Tables=ln x.Guests:=qE hk.2.1;have e2:ln x.Out=8:=qE hk.2.2.2.1;have e3:ln x.Dirty=8:=qE hk.2.2.2.2.1;simp only[ln] at *;exact ⟨by omega,by omega,by omega,by omega⟩
theorem zeg {h:Host}(hs:SmH h)(hh:zbB h=true):Fit h:=by
 refine ⟨⟨hs,fun x hx=>zFA (zf2 hh x hx)⟩,by rw[zVB hh];decide,?_⟩
 unfold zbB at hh;simp only[zcw]at hh;have:=zPU _ _ rfl hh.2.2.2.2;omega
theorem zqO {x:Mon}(hk:zdg x=true){p:Int}(hp:hasB p 8=true):SlotFit (ix x.Outer p sZ):=by
 have ht:=zhq hk;unfold zco at ht;simp only[zcw]at ht;exact zWt (qJ.1 ht.1 _ (zbq (zdb (zFA hk).1 hp) _))
theorem zSv {h:Host}{m p:Int}(hf:Fit h)(hm:hasB m (ln h.Mons)=true):Fit (zbp h m p):=by
 refine ⟨zlF hf.1 hm,hf.2.1,?_⟩;obtain ⟨k,rfl,hk⟩:=zdj (n:=h.Mons.length) hm;have:=zSg h.Mons k (ix h.Mons (k:Int) mZ) { ix h.Mons (k:Int) mZ with Dirty:=up (ix h.Mons (k:Int) mZ).Dirty p true } (by rw[zbe hk];exact qB hk)
 have h3:=hf.2.2;unfold zbp;simp only[up,kV]
 dsimp only at this
 simp only[up] at this;omega
abbrev gZ:Guest:=Ty.dflt .guest
def zbH (h:Host)(m g:Int):Bool:=bif zbB h then (cond (hasB m (ln h.Mons)) (hasB g (ln (ix h.Mons m mZ).Guests)) false) else false
@[simp] abbrev zga (h:Host)(m g:Int):Bool:=pc (zbI h)
@[simp] abbrev zhW (h:Host)(m g:Int):Bool:=zbH h m g
def zDY:Run:=rF3 dH dI dI fun b c d=>(zga b c d,[aB (zhW b c d)])
def zMa (N:Nat)(a0:Host)(a1 a2:Int):OA:=
 let y0:=(wsub .i64 (ln (ix a0.Mons a1 zf).Guests) 1); (oN (zeJ a0) (cond (zeI a0) (oN (zJ a1 0 (wsub .i64 (ln a0.Mons) 1)) (cond (zL a1 0 (wsub .i64 (ln a0.Mons) 1)) (oN (inb a1 (ln a0.Mons)) (oN (zJ a2 0 y0) (some [(aB (zL a2 0 y0))]))) oF)) oF))
theorem zSW (a0:Host)(a1 a2:Int)(hc:zga a0 a1 a2=true):∃N,zMa N a0 a1 a2=some [aB (zhW a0 a1 a2)]:=by
 have hs:=(zN a0).1 (zF.1 hc);refine ⟨0,?_⟩;unfold zMa zhW zbH oN
 conv=>zeta
 refine must rfl ?_;rw[show zeI a0=zbB a0 from rfl]
 cases hh:zbB a0
 .rfl
 .rw [show zL a1 0 (wsub .i64 (ln a0.Mons) 1)=hasB a1 (ln a0.Mons) from zoD hs.2.1.1 a1]
  refine must rfl (must rfl ?_);cases h1:hasB a1 (ln a0.Mons)
  .rfl
  .have hg:(ix a0.Mons a1 mZ).Guests.length<=1048576:=(hs.2.1.2 _ (zbq h1 _)).2.2.2.1.1;rw[show zL a2 0 (wsub .i64 (ln (ix a0.Mons a1 zf).Guests) 1)=hasB a2 (ln (ix a0.Mons a1 mZ).Guests) from zoD hg a2]
   exact must rfl (must (zu h1) (must rfl rfl))
theorem zNA:vH 251 zDY:=kF3 zhj zl zb6 zLx (zx []) zSW
def zcp (h:Host)(m:Int):Nat->Nat->List (List Int)
 | 0,_=>[]
 | n+1,i=>zcN h m (i:Int) :: zcp h m n (i+1)
theorem zwZ (h:Host)(m:Int):∀(n i:Nat),(zcp h m n i).length=n
 | 0,_=>rfl
 | n+1,i=>by simp[zcp,zwZ h m n]
def zB (h:Host)(m:Int):Bare:=bif hasB m (ln h.Mons) then ⟨zcp h m 8 0,(ix h.Mons m mZ).Guests,(ix h.Mons m mZ).Outs,(ix h.Mons m mZ).Pending⟩ else ⟨[],[],[],0⟩
def z2h:zU:=[(251,zDY)]++zoJ
theorem zZ0:zD z2h:=zh zNA zhj
theorem zTb:zb5 zxq=true:=by decide
theorem zTL {p:Nat->Bool}:∀{n i q:Nat},zkU p n i=true->i<=q->q<i+n->p q=true
 | 0,i,q,_,h1,h2=>by omega
 | n+1,i,q,h,h1,h2=>by
  simp only[zkU,qD]at h
  by_cases he:i=q
  .subst he;exact h.1
  .exact zTL h.2 (by omega) (by omega)
theorem zYs {h:Host}{m:Int}(hh:zbB h=true)(hm:hasB m (ln h.Mons)=true){p:Int}(hp:hasB p 8=true):zb5 (zcN h m p)=true:=by
 have hk:=zf2 hh _ (zbq hm mZ);have hsh:=zFA hk;have hmem:h.Memory.all zb5=true:=by
  unfold zbB at hh;simp only[zcw]at hh;have h1:=hh.1;unfold zgG at h1;simp only[zcw]at h1;exact h1.1
 unfold zcN;rw[hm,hp];simp only[cT];have hsl:zbf (ix h.Mons m mZ).Outer p=ix (ix h.Mons m mZ).Outer p sZ:=by
  unfold zbf;rw[zdb hsh.1 hp];rfl
 rw[hsl];have hAt:∀(mm:List (List Int)) (q:Int),(hasB q (ln mm)=true->zb5 (ix mm q [])=true)->zb5 (zb8 mm q)=true:=by
  intro mm q hq;unfold zb8;cases h1:hasB q (ln mm)
  .exact zTb
  .exact hq h1
 cases hpg:ine (ix (ix h.Mons m mZ).Outer p sZ).Page (-1)
 .refine hAt _ _ (fun hq=>?_);obtain ⟨q,rfl,hq8⟩:=zdj (n:=8) hp;have hfit:fits (ix h.Mons m mZ) q=true:=by
   unfold zdg at hk;simp only[zcw]at hk;exact zTL hk.2.2.2.2.2.2.2.2.2.2 (by omega) (by omega)
  unfold fits zku at hfit;have hno:zcd (ix (ix h.Mons m mZ).Outer (q:Int) sZ) noSlot=true:=by
   rw[(zqO (zf2 hh _ (zbq hm mZ)) hp).no];rw[zBx]at hpg;cases h1:ieq (ix (ix h.Mons m mZ).Outer (q:Int) sZ).Page (-1)
   .rw [h1]at hpg;cases hpg
   .rfl
  rw[hno]at hfit;exact hfit
 .exact hAt _ _ (fun hq=>qJ.1 hmem _ (zbq hq _))
theorem zMR {h:Host}{m:Int}(hh:zbB h=true)(hm:hasB m (ln h.Mons)=true):∀(n i:Nat),i+n<=8->(zcp h m n i).all zb5=true
 | 0,_,_=>rfl
 | n+1,i,hi=>by
  simp only[zcp,uD,qD];exact ⟨zYs hh hm (qL (by omega)),zMR hh hm n (i+1) (by omega)⟩
theorem zDd {h:Host}{m:Int}(hh:zbB h=true)(hm:hasB m (ln h.Mons)=true):zbW (zB h m)=true:=by
 have hk:=zf2 hh _ (zbq hm mZ);unfold zdg at hk;simp only[zcw]at hk;unfold zB zbW zgG;rw[hm];simp only[cT,hk.2.2.2.2.2.2.2.2.2.1,zMR hh hm 8 0 (by decide),ln,zwZ]
 simp only[ln]at hk;rw[hk.1,hk.2.2.2.2.2.1,hk.2.2.2.2.2.2.1];rfl
def zlw:zU:=z2h
theorem zhk:zD zlw:=zZ0
end
end Go.Proofs.YtdaahiceaagpdaaGreat.E
