/- What is proved here: a part of the proof that the statement of this claim holds (several texts of wip/, laid together). -/
import Derived.Test.YtgjpbkhaaiffkaaGreatV3
namespace Go.Proofs.YtgjpbkhaaiffkaaGreat.E
open Go
set_option linter.constructorNameAsVariable false
set_option linter.unusedVariables false
set_option maxRecDepth 100000
set_option linter.unusedSimpArgs false
set_option linter.unusedSectionVars false
noncomputable section
theorem must {ρ:Type}{c:Bool}{a b r:Option ρ}(h:c=true)(k:a=r):(cond c a b)=r:=by rw[h];exact k
theorem mu {ρ:Type}{c:Bool}{a b r:Option ρ}(k:a=r)(h:c=true:=by first|assumption|(simp_all<;>omega)):(cond c a b)=r:=must h k
theorem zcy {ρ:Type}{c:Bool}{a b r:Option ρ}(h:c=false)(k:b=r):(cond c a b)=r:=by rw[h];exact k
theorem br {ρ:Type}{c:Bool}{a b r:Option ρ}(h1:c=true->a=r)(h2:c=false->b=r):(cond c a b)=r:=by cases c;{exact h2 rfl};{exact h1 rfl}
theorem brN {ρ:Type}{c:Bool}{a b r:Option ρ}(h1:c=false->a=r)(h2:c=true->b=r):(cond (cond c false true) a b)=r:=by cases c;{exact h1 rfl};{exact h2 rfl}
theorem shr {α ρ:Type}{x:α}{f:α->Option ρ}{r:Option ρ}(h:f x=r):share x f=r:=h
theorem zif {ρ:Type}{c p:Bool}{a b:Option ρ}(hc:c=true):(cond c (cond (cond p false true) a b) none)=bif p then b else a:=by rw[hc];cases p<;>rfl
attribute [simp] zK
@[simp] theorem z3j {α:Type}(l:List α):(few (ln l)=true)↔l.length<=2147483648:=by unfold few ln;rw[decide_eq_true_iff];omega
@[simp] theorem z6o {α:Type}(l m:List α):(ap l m).length=l.length+m.length:=by simp[ap]
attribute [simp] zlM zgZ
@[simp] theorem z1O (n:Nat)(k:IntKind)(x:Int):CVB n (.i k x)↔True:=⟨λ_=>trivial,λ_=>.i k x⟩
@[simp] theorem z6u (n:Nat)(x:Bool):CVB n (.b x)↔True:=⟨λ_=>trivial,λ_=>.b x⟩
theorem zk6 {n:Nat}{t:Ty}(l:List t.den):CVB n (.s t l)↔l.length<=n/\∀x∈l,∀c∈t.cells x,CVB n c:=⟨λh=>h.inv,λh=>.s t l h.1 h.2⟩
@[simp] theorem zTQ (n:Nat)(l:List Int):CVB n (.s .int l)↔l.length<=n:=by rw[zk6];simp[Ty.cells]
@[simp] theorem z4E (n:Nat)(l:List Int):CVB n (.s .u8 l)↔l.length<=n:=by rw[zk6];simp[Ty.cells]
@[simp] theorem zZA (n:Nat)(l:List Bool):CVB n (.s .bool l)↔l.length<=n:=by rw[zk6];simp[Ty.cells]
@[simp] theorem zZC (n:Nat)(l:List Slot):CVB n (.s .slot l)↔l.length<=n:=by rw[zk6];simp[Ty.cells]
@[simp] theorem z3a (n:Nat)(l:List Ins):CVB n (.s .ins l)↔l.length<=n:=by rw[zk6];simp[Ty.cells]
@[simp] theorem zXo (n:Nat)(l:List Entry):CVB n (.s .entry l)↔l.length<=n:=by rw[zk6];simp[Ty.cells]
@[simp] theorem z2Z (n:Nat)(l:List GAct):CVB n (.s .act l)↔l.length<=n:=by rw[zk6];simp[Ty.cells]
@[simp] theorem zZD (n:Nat)(l:List Told):CVB n (.s .told l)↔l.length<=n:=by rw[zk6];simp[Ty.cells]
def SmM (m:List (List Int)):Prop:=m.length<=1048576/\∀x∈m,x.length<=1048576
def SmG (g:Guest):Prop:=g.Prog.length<=1048576/\g.Written.length<=1048576/\g.Live.length<=1048576/\g.Seen.length<=1048576
def zmx (l:List Guest):Prop:=l.length<=1048576/\∀x∈l,SmG x
def SmB (b:Bare):Prop:=SmM b.Memory/\zmx b.Guests/\b.Outs.length<=1048576
def zUP (l:List Bare):Prop:=l.length<=1048576/\∀x∈l,SmB x
theorem z0y:sm=1048576:=rfl
@[simp] theorem zVi (l:List Int):CVB sm (.s .int l)↔l.length<=1048576:=zTQ sm l
@[simp] theorem z5S (l:List Int):CVB sm (.s .u8 l)↔l.length<=1048576:=z4E sm l
@[simp] theorem zSy (l:List Bool):CVB sm (.s .bool l)↔l.length<=1048576:=zZA sm l
@[simp] theorem zSz (l:List Slot):CVB sm (.s .slot l)↔l.length<=1048576:=zZC sm l
@[simp] theorem z5w (l:List Ins):CVB sm (.s .ins l)↔l.length<=1048576:=z3a sm l
@[simp] theorem zPx (l:List Entry):CVB sm (.s .entry l)↔l.length<=1048576:=zXo sm l
@[simp] theorem z5v (l:List GAct):CVB sm (.s .act l)↔l.length<=1048576:=z2Z sm l
@[simp] theorem z5n (l:List Told):CVB sm (.s .told l)↔l.length<=1048576:=zZD sm l
@[simp] theorem zoO (l:List (List Int)):CVB sm (.s (.sl .int) l)↔SmM l:=by rw[zk6];simp[Ty.cells,SmM,z0y]
@[simp] theorem z2E (g:Guest):(∀c∈Ty.cells .guest g,CVB sm c)↔SmG g:=by simp[Ty.cells,SmG,z0y]
@[simp] theorem zta (l:List Guest):CVB sm (.s .guest l)↔zmx l:=by rw[zk6];simp only[z2E];rfl
@[simp] theorem z2D (b:Bare):(∀c∈Ty.cells .bare b,CVB sm c)↔SmB b:=by simp only[Ty.cells,qI,qW,or_false,vG,forall_eq,zoO,zta,zTQ,z1O,and_true];rfl
@[simp] theorem z5V (l:List Bare):CVB sm (.s .bare l)↔zUP l:=by rw[zk6];simp only[z2D];rfl
@[simp] theorem z6r (a:List Ins)(b c:Int)(d e:List Slot)(f:Ctl)(g:Int)(h:GExit)(i:Bool)(j:List Int):SmG ⟨a,b,c,d,e,f,g,h,i,j⟩↔a.length<=1048576/\d.length<=1048576/\e.length<=1048576/\j.length<=1048576:=Iff.rfl
@[simp] theorem z6q (m:List (List Int))(g:List Guest)(o:List Int)(p:Int):SmB ⟨m,g,o,p⟩↔SmM m/\zmx g/\o.length<=1048576:=Iff.rfl
theorem zIz {m:List (List Int)}{i:Int}{x:List Int}(h:SmM m)(hx:x.length<=1048576):SmM (up m i x):=by refine⟨by simpa using h.1,λy hy=>?_⟩;rcases qZ hy with hy|rfl;{exact h.2 y hy};{exact hx}
theorem zA6 {m:List Guest}{i:Int}{x:Guest}(h:zmx m)(hx:SmG x):zmx (up m i x):=by refine⟨by simpa using h.1,λy hy=>?_⟩;rcases qZ hy with hy|rfl;{exact h.2 y hy};{exact hx}
theorem z3V {m:List Bare}{i:Int}{x:Bare}(h:zUP m)(hx:SmB x):zUP (up m i x):=by refine⟨by simpa using h.1,λy hy=>?_⟩;rcases qZ hy with hy|rfl;{exact h.2 y hy};{exact hx}
theorem zRF {l:List Guest}{i:Int}(h:zmx l)(hh:hasB i (ln l)=true)(d:Guest):SmG (ix l i d):=h.2 _ (zby hh d)
theorem z5h {l:List (List Int)}{i:Int}(h:SmM l)(hh:hasB i (ln l)=true)(d:List Int):(ix l i d).length<=1048576:=h.2 _ (zby hh d)
@[simp] theorem z5M:SmG zn:=⟨by decide,by decide,by decide,by decide⟩
@[simp] theorem zOM (x a b:Int):zi x a b=zi x a b:=rfl
@[simp] theorem zP2 (i n:Int):inb i n=hasB i n:=rfl
attribute [simp] zcR
@[simp] theorem zpn {α:Type}{l:List α}(h:l.length<=1048576)(i:Int):zi i 0 (wsub .i64 (ln l) 1)=hasB i (ln l):=zzK (zct h).1 i
theorem zFg {α:Type}{l:List α}(h:l.length<=big)(i:Int):zi i 0 (wsub .i64 (ln l) 1)=hasB i (ln l):=zzK h i
theorem zfM {x a b:Int}:(zi x a b=true)↔a<=x/\x<=b:=by unfold zi ige ile;simp only[qE,decide_eq_true_iff]
theorem z3q (a b:Int):ilt a b = !ige a b:=by unfold ilt ige;by_cases h:a<b;{rw [qJ h,qG (by omega)];rfl};{rw [qG h,qJ (by omega)];rfl}
attribute [simp] zW zW zgj zgj zgz zgz zcE zcE zeo zeo zmM zmM zbE zbE
attribute [simp] zeT zcZ zgm zdM
attribute [simp] zgk zdA zfW zdN
def zbc (a:Int):Int:=bif ilt a 0 then -1 else zSn .i64 a 4
def zdd (a:Int):Int:=bif ilt a 0 then -1 else zkT a 4
@[simp] abbrev zbJ (a:Int):Bool:=true
@[simp] abbrev zbN (a:Int):Int:=zbc a
def zll:Run:=rF1 dI λb=>(zbJ b,[aI<|zbN b])
def zyI (N:Nat)(a0:Int):OA:=
 (cond (ilt a0 0) (some [aI<|-1])<|oN (ine 4 0)<|some [aI<|zSn .i64 a0 4])
theorem zve (a0:Int)(hb:zbC big [aI a0])(hc:zbJ a0=true):∃N,zyI N a0=some [aI<|zbN a0]:=by refine⟨0,?_⟩;unfold zyI oN;refine br (λ_=>?_) (λ_=>must rfl ?_);all_goals first|rfl|(simp only [*,zbN,zbc,cT,cF]<;>rfl)|simp_all[Ty.cells,zbN,zbc]
theorem zEh:vJ 207 zll:=hF1 zc9 zo zq zu (zx []) zve
theorem zD2:vJ 73 zll:=hF1 zc9 zo zq zu (zx []) zve
@[simp] abbrev zcX (a:Int):Int:=zdd a
def zlk:Run:=rF1 dI λb=>(zbJ b,[aI<|zcX b])
def zyH (N:Nat)(a0:Int):OA:=
 (cond (ilt a0 0) (some [aI<|-1])<|oN (ine 4 0)<|some [aI<|zkT a0 4])
theorem zvd (a0:Int)(hb:zbC big [aI a0])(hc:zbJ a0=true):∃N,zyH N a0=some [aI<|zcX a0]:=by refine⟨0,?_⟩;unfold zyH oN;refine br (λ_=>?_) (λ_=>must rfl ?_);all_goals first|rfl|(simp only [*,zcX,zdd,cT,cF]<;>rfl)|simp_all[Ty.cells,zcX,zdd]
theorem zEg:vJ 212 zlk:=hF1 zc9 zo zq zu (zx []) zvd
theorem zD1:vJ 78 zlk:=hF1 zc9 zo zq zu (zx []) zvd
def zbW (w:Bool):Int:=bif w then 2 else 1
@[simp] abbrev zju (w:Bool):Bool:=true
@[simp] abbrev zcP (w:Bool):Int:=zbW w
def znQ:Run:=rF1 dB λb=>(zju b,[aI<|zcP b])
def zFK (N:Nat)(a0:Bool):OA:=
 (cond a0 (some [aI 2])<|some [aI 1])
theorem zzQ (a0:Bool)(hb:zbC big [aB a0])(hc:zju a0=true):∃N,zFK N a0=some [aI<|zcP a0]:=by refine⟨0,?_⟩;unfold zFK;refine br (λ_=>?_) (λ_=>?_);all_goals first|rfl|(simp only [*,zcP,zbW,cT,cF]<;>rfl)|simp_all[Ty.cells,zcP,zbW]
theorem zJW:vJ 208 znQ:=hF1 zc9 zo zq zu (zx []) zzQ
theorem zJu:vJ 74 znQ:=hF1 zc9 zo zq zu (zx []) zzQ
def zqb (p:Int)(w:Bool):GExit:=⟨1,p,w,0⟩
def zrX (n:Int):GExit:=⟨2,0,false,n⟩
def zvn (n:Int):GExit:=⟨3,0,false,n⟩
@[simp] abbrev zgR (p:Int)(w:Bool):Bool:=true
@[simp] abbrev zeY (p:Int)(w:Bool):GExit:=zqb p w
def zkc:Run:=rF2 dI dB λb c=>(zgR b c,[.agg<|zwj<|zeY b c])
def zxm (N:Nat)(a0:Int)(a1:Bool):OA:=
 (some [.agg [.i .i64 1,.i .i64 a0,.b a1,.i .i64 0]])
theorem ztq (a0:Int)(a1:Bool)(hb:zbC big [aI a0,aB a1])(hc:zgR a0 a1=true):∃N,zxm N a0 a1=some [.agg<|zwj<|zeY a0 a1]:=by refine⟨0,?_⟩;unfold zxm;first|rfl|(simp only [*,zeY,cT,cF]<;>rfl)|simp_all[Ty.cells,zeY]
theorem zBm:vJ 210 zkc:=hF2 zc9 zo zq zu (zx []) ztq
theorem zBb:vJ 76 zkc:=hF2 zc9 zo zq zu (zx []) ztq
@[simp] abbrev zfG (n:Int):Bool:=true
@[simp] abbrev zg6 (n:Int):GExit:=zrX n
def zlm:Run:=rF1 dI λb=>(zfG b,[.agg<|zwj<|zg6 b])
def zyL (N:Nat)(a0:Int):OA:=
 (some [.agg [.i .i64 2,.i .i64 0,.b false,.i .i64 a0]])
theorem zvf (a0:Int)(hb:zbC big [aI a0])(hc:zfG a0=true):∃N,zyL N a0=some [.agg<|zwj<|zg6 a0]:=by refine⟨0,?_⟩;unfold zyL;first|rfl|(simp only [*,zg6,cT,cF]<;>rfl)|simp_all[Ty.cells,zg6]
theorem zEj:vJ 298 zlm:=hF1 zc9 zo zq zu (zx []) zvf
theorem zD4:vJ 182 zlm:=hF1 zc9 zo zq zu (zx []) zvf
@[simp] abbrev zi6 (n:Int):GExit:=zvn n
def zmm:Run:=rF1 dI λb=>(zfG b,[.agg<|zwj<|zi6 b])
def zCr (N:Nat)(a0:Int):OA:=
 (some [.agg [.i .i64 3,.i .i64 0,.b false,.i .i64 a0]])
theorem zxC (a0:Int)(hb:zbC big [aI a0])(hc:zfG a0=true):∃N,zCr N a0=some [.agg<|zwj<|zi6 a0]:=by refine⟨0,?_⟩;unfold zCr;first|rfl|(simp only [*,zi6,cT,cF]<;>rfl)|simp_all[Ty.cells,zi6]
theorem zG7:vJ 300 zmm:=hF1 zc9 zo zq zu (zx []) zxC
theorem zGM:vJ 275 zmm:=hF1 zc9 zo zq zu (zx []) zxC
def zdD (t x:Int):Bool:=bif zi t 0 3 then (cond (zi x 1 2) (ine (wand .i64 t x) 0) false) else false
theorem z2r (x:Int):zi x 1 2=(ieq x 1||ieq x 2):=by have h:(zi x 1 2=true)↔(ieq x 1||ieq x 2)=true:=(by rw[zfM];simp only[ieq,j6,qL];omega);cases h1:zi x 1 2<;>cases h2:(ieq x 1||ieq x 2)<;>simp_all
@[simp] abbrev zft (t x:Int):Bool:=true
@[simp] abbrev zeS (t x:Int):Bool:=zdD t x
def zml:Run:=rF2 dI dI λb c=>(zft b c,[aB<|zeS b c])
def zCj (N:Nat)(a0 a1:Int):OA:=
 (oN (zI a0 0 3)<|cond (zi a0 0 3) (oN (zI a1 1 2)<|cond (zi a1 1 2) (some [aB<|ine (wand .i64 a0 a1) 0]) oF) oF)
theorem zNN (a0 a1:Int)(hc:zft a0 a1=true):∃N,zCj N a0 a1=some [aB<|zeS a0 a1]:=by refine⟨0,?_⟩;unfold zCj oN;refine must rfl (br (λ_=>must rfl (br (λ_=>?_) λ_=>?_)) λ_=>?_);all_goals first|rfl|(simp only [*,zeS,zdD,cT,cF]<;>rfl)|simp_all[Ty.cells,zeS,zdD]
theorem zGY:vJ 299 zml:=kF2 zc9 zo zq zu (zx []) zNN
def zB3 (N:Nat)(a0 a1:Int):OA:=
 let y0:=aB<|ine (wand .i64 a0 a1) 0; (oN (zI a0 0 3)<|cond (zi a0 0 3) (cond (ieq a1 1) (some [y0])<|cond (ieq a1 2) (some [y0]) oF) oF)
theorem zNz (a0 a1:Int)(hc:zft a0 a1=true):∃N,zB3 N a0 a1=some [aB<|zeS a0 a1]:=by
 refine⟨0,?_⟩;unfold zB3 oN;conv=>zeta
 refine must rfl (br (λ_=>br (λ_=>?_) λ_=>br (λ_=>?_) λ_=>?_) λ_=>?_);all_goals first|rfl|(simp only [*,zeS,zdD,z2r,cT,cF]<;>rfl)|simp_all[Ty.cells,zeS,zdD,z2r]
theorem zGL:vJ 183 zml:=kF2 zc9 zo zq zu (zx []) zNz
def zdq (p:Int):Bool:=zi p 0 255
@[simp] abbrev zbY (p:Int):Bool:=true
@[simp] abbrev zee (p:Int):Bool:=zdq p
def znU:Run:=rF1 dI λb=>(zbY b,[aB<|zee b])
def zFP (N:Nat)(a0:Int):OA:=
 (oN (zI a0 0 255)<|some [aB<|zi a0 0 255])
theorem zzS (a0:Int)(hb:zbC big [aI a0])(hc:zbY a0=true):∃N,zFP N a0=some [aB<|zee a0]:=by refine⟨0,?_⟩;unfold zFP oN;refine must rfl ?_;first|rfl|(simp only [*,zee,zdq,cT,cF]<;>rfl)|simp_all[Ty.cells,zee,zdq]
theorem zJ1:vJ 294 znU:=hF1 zc9 zo zq zu (zx []) zzS
theorem zJz:vJ 258 znU:=hF1 zc9 zo zq zu (zx []) zzS
def zb7 (l:List Ins)(p:Int):Ins:=bif hasB p (ln l) then ix l p zp2 else ⟨7,0⟩
@[simp] abbrev zds (l:List Ins)(p:Int):Bool:=true
@[simp] abbrev zdj (l:List Ins)(p:Int):Ins:=zb7 l p
def zpJ:Run:=rF2 (dS .ins) dI λb c=>(zds b c,[aT .ins<|zdj b c])
def zLM (N:Nat)(a0:lI)(a1:Int):OA:=
 (oN (zI a1 0<|wsub .i64 (ln a0) 1)<|cond (nB<|zi a1 0<|wsub .i64 (ln a0) 1) (some [.agg [.i .i64 7,.i .i64 0]])<|oN (inb a1<|ln a0)<|some [.agg [.i .i64 (ix a0 a1 zp2).Op,.i .i64 (ix a0 a1 zp2).X]])
theorem zS0 (a0:List Ins)(a1:Int)(hb:zbC big [aS .ins a0,aI a1])(hc:zds a0 a1=true):∃N,zLM N a0 a1=some [aT .ins<|zdj a0 a1]:=by have hl:=((zc6 hb).1 _ (qF.2 rfl)).len;have hw:=zFg hl;refine⟨0,?_⟩;unfold zLM oN nB;refine must rfl (brN (λ_=>?_) λ_=>mu ?_);all_goals first|rfl|(simp only [*,zdj,zb7,cT,cF]<;>rfl)|simp_all[Ty.cells,zdj,zb7]
theorem zNh:vJ 218 zpJ:=hF2 zc9 zo zq zu (zx []) zS0
def zLC (N:Nat)(a0:lI)(a1:Int):OA:=
 (oN (zbl a1<|ln a0)<|cond (nB<|zcR a1<|ln a0) (some [.agg [.i .i64 7,.i .i64 0]])<|oN (inb a1<|ln a0)<|some [.agg [.i .i64 (ix a0 a1 zp2).Op,.i .i64 (ix a0 a1 zp2).X]])
theorem zSQ (a0:List Ins)(a1:Int)(hc:zds a0 a1=true):∃N,zLC N a0 a1=some [aT .ins<|zdj a0 a1]:=by refine⟨0,?_⟩;unfold zLC oN nB;refine must rfl (brN (λ_=>?_) λ_=>mu ?_);all_goals first|rfl|(simp only [*,zdj,zb7,cT,cF]<;>rfl)|simp_all[Ty.cells,zdj,zb7]
theorem zM5:vJ 166 zpJ:=kF2 zc9 zo zq zu (zx []) zSQ
def zfl (w:Int):Int:=bif ieq w 5 then 1 else 2
@[simp] abbrev znv (w:Int):Bool:=true
@[simp] abbrev zhF (w:Int):Int:=zfl w
def zAc:Run:=rF1 dI λb=>(znv b,[aI<|zhF b])
def zFz (N:Nat)(a0:Int):OA:=
 (cond (ieq a0 5) (some [aI 1])<|some [aI 2])
theorem zQq (a0:Int)(hc:znv a0=true):∃N,zFz N a0=some [aI<|zhF a0]:=by refine⟨0,?_⟩;unfold zFz;refine br (λ_=>?_) (λ_=>?_);all_goals first|rfl|(simp only [*,zhF,zfl,cT,cF]<;>rfl)|simp_all[Ty.cells,zhF,zfl]
theorem zJK:vJ 172 zAc:=kF1 zc9 zo zq zu (zx []) zQq
def zdV (s:Slot)(n:Int):Bool:=bif zcT s noSlot then true else (cond (igt n 0) (cond (zi s.Page 0<|wsub .i64 n 1) (zi s.Rights 1 3) false) false)
@[simp] abbrev zlw (s:Slot)(n:Int):Bool:=true
@[simp] abbrev zim (s:Slot)(n:Int):Bool:=zdV s n
def znX:Run:=rF2 (dT .slot) dI λb c=>(zlw b c,[aB<|zim b c])
def zFT (N:Nat)(a0:Slot)(a1:Int):OA:=
 (oN zbE<|cond (cond (ieq a0.Page zW.Page) (ieq a0.Rights zW.Rights) false) oT<|oN (zI a0.Page 0<|wsub .i64 a1 1)<|cond (zi a0.Page 0<|wsub .i64 a1 1) (cond (igt a1 0) (oN (zI a0.Rights 1 3)<|some [aB<|zi a0.Rights 1 3]) oF) oF)
theorem zQG (a0:Slot)(a1:Int)(hc:zlw a0 a1=true):∃N,zFT N a0 a1=some [aB<|zim a0 a1]:=by refine⟨0,?_⟩;unfold zFT oN;refine must rfl (br (λ_=>?_) λ_=>must rfl (br (λ_=>br (λ_=>must rfl ?_) λ_=>?_) λ_=>?_));all_goals first|rfl|(simp only [*,zim,zdV,zcT,cT,cF]<;>rfl)|simp_all[Ty.cells,zim,zdV,zcT]
theorem zJ5:vJ 220 znX:=kF2 zc9 zo zq zu (zx []) zQG
def zFv (N:Nat)(a0:Slot)(a1:Int):OA:=
 (oN zbE<|cond (cond (ieq a0.Page zW.Page) (ieq a0.Rights zW.Rights) false) oT<|cond (igt a1 0) (oN (zI a0.Page 0<|wsub .i64 a1 1)<|cond (zi a0.Page 0<|wsub .i64 a1 1) (oN (zI a0.Rights 1 3)<|some [aB<|zi a0.Rights 1 3]) oF) oF)
theorem zQm (a0:Slot)(a1:Int)(hc:zlw a0 a1=true):∃N,zFv N a0 a1=some [aB<|zim a0 a1]:=by refine⟨0,?_⟩;unfold zFv oN;refine must rfl (br (λ_=>?_) λ_=>br (λ_=>must rfl (br (λ_=>must rfl ?_) λ_=>?_)) λ_=>?_);all_goals first|rfl|(simp only [*,zim,zdV,zcT,cT,cF]<;>rfl)|simp_all[Ty.cells,zim,zdV,zcT]
theorem zJE:vJ 232 znX:=kF2 zc9 zo zq zu (zx []) zQm
@[simp] abbrev zgN (l:List Slot):Bool:=pc (l.length<=2147483648)
@[simp] abbrev zfq (l:List Slot):List Slot:=l
def ztA:Run:=rF1 (dS .slot) λb=>(zgN b,[aS .slot<|zfq b])
def zxi (N:Nat)(a0:lS):OA:=
 (oN (few<|ln<|ap [] a0)<|some [aS .slot<|ap [] a0])
theorem zHJ (a0:List Slot)(hc:zgN a0=true):∃N,zxi N a0=some [aS .slot<|zfq a0]:=by have hs:=zK.1 hc;refine⟨0,?_⟩;unfold zxi oN;refine mu ?_;first|rfl|(simp only [*,zfq,cT,cF]<;>rfl)|simp_all[Ty.cells,zfq]
theorem zBi:vJ 255 ztA:=kF1 zc9 zo zq zu (zx []) zHJ
@[simp] abbrev zsd (l:List Ins):Bool:=pc (l.length<=2147483648)
@[simp] abbrev znu (l:List Ins):List Ins:=l
def zvy:Run:=rF1 (dS .ins) λb=>(zsd b,[aS .ins<|znu b])
def zyF (N:Nat)(a0:lI):OA:=
 (oN (few<|ln<|ap [] a0)<|some [aS .ins<|ap [] a0])
theorem zKx (a0:List Ins)(hc:zsd a0=true):∃N,zyF N a0=some [aS .ins<|znu a0]:=by have hs:=zK.1 hc;refine⟨0,?_⟩;unfold zyF oN;refine mu ?_;first|rfl|(simp only [*,znu,cT,cF]<;>rfl)|simp_all[Ty.cells,znu]
theorem zEf:vJ 196 zvy:=kF1 zc9 zo zq zu (zx []) zKx
def zf0 (m:List (List Int))(p c:Int):Bool:=bif hasB p (ln m) then hasB c (ln<|ix m p []) else false
def cellAt (m:List (List Int))(p c:Int):Int:=bif zf0 m p c then ix (ix m p []) c 0 else 0
def zbB (m:List (List Int))(p c v:Int):List (List Int):=bif zf0 m p c then (cond (zi v 0 99) (up m p<|up (ix m p []) c v) m) else m
theorem zwO (m:List (List Int))(p c:Int):(zf0 m p c=true)↔hasB p (ln m)=true/\hasB c (ln<|ix m p [])=true:=by unfold zf0;cases hasB p (ln m)<;>simp
theorem z4D {n:Nat}{m:List (List Int)}(h:CVB n (.s (.sl .int) m)):m.length<=n/\∀p:Int,hasB p (ln m)=true->(ix m p []).length<=n :=
 ⟨h.len,λp hp=>(h.inv.2 _ (zby hp []) _ (qF.2 rfl)).len⟩
@[simp] abbrev ze8 (m:List (List Int))(p c:Int):Bool:=true
@[simp] abbrev zpf (m:List (List Int))(p c:Int):Bool:=zf0 m p c
def zAf:Run:=rF3 (dS<|.sl .int) dI dI λb c d=>(ze8 b c d,[aB<|zpf b c d])
def zFY (N:Nat)(a0:lM)(a1 a2:Int):OA:=
 let y0:=wsub .i64 (ln<|ix a0 a1 []) 1; (oN (zI a1 0<|wsub .i64 (ln a0) 1)<|cond (zi a1 0<|wsub .i64 (ln a0) 1) (oN (inb a1<|ln a0)<|oN (zI a2 0 y0)<|some [aB<|zi a2 0 y0]) oF)
theorem zQJ (a0:List (List Int))(a1 a2:Int)(hb:zbC big [aS (.sl .int) a0,aI a1,aI a2])(hc:ze8 a0 a1 a2=true):∃N,zFY N a0 a1 a2=some [aB<|zpf a0 a1 a2]:=by
 have hl:=z4D ((zc6 hb).1 _ (qF.2 rfl));have hw:=zFg hl.1;have hw2:∀p i:Int,hasB p (ln a0)=true->zi i 0 (wsub .i64 (ln<|ix a0 p []) 1)=hasB i (ln<|ix a0 p []):=λp i h=>zFg (hl.2 p h) i;refine⟨0,?_⟩;unfold zFY oN;conv=>zeta
 refine must rfl (br (λ_=>mu (must rfl ?_)) λ_=>?_);all_goals first|rfl|(simp only [*,zpf,zf0,cT,cF]<;>rfl)|simp_all[Ty.cells,zpf,zf0]
theorem zJ9:vJ 297 zAf:=hF3 zc9 zo zq zu (zx []) zQJ
@[simp] abbrev zf7 (m:List (List Int))(p c:Int):Int:=cellAt m p c
def znB:Run:=rF3 (dS<|.sl .int) dI dI λb c d=>(ze8 b c d,[aI<|zf7 b c d])
def zFi (N:Nat)(a0:lM)(a1 a2:Int):OA:=
 let y0:=ix a0 a1 []; (oN (zbl a1<|ln a0)<|cond (nB<|zcR a1<|ln a0) (some [aI 0])<|oN (inb a1<|ln a0)<|oN (zbl a2<|ln y0)<|cond (nB<|zcR a2<|ln y0) (some [aI 0])<|oN (inb a1<|ln a0)<|oN (inb a2<|ln y0)<|some [aI<|ix y0 a2 0])
theorem zP9 (a0:List (List Int))(a1 a2:Int)(hc:ze8 a0 a1 a2=true):∃N,zFi N a0 a1 a2=some [aI<|zf7 a0 a1 a2]:=by
 refine⟨0,?_⟩;unfold zFi oN nB;conv=>zeta
 refine must rfl (brN (λ_=>?_) λ_=>mu (must rfl (brN (λ_=>?_) λ_=>mu (mu ?_))));all_goals first|rfl|(simp only [*,zf7,cellAt,zf0,cT,cF]<;>rfl)|simp_all[Ty.cells,zf7,cellAt,zf0]
theorem zJm:vJ 81 znB:=kF3 zc9 zo zq zu (zx []) zP9
def zU7:zS:=[(290,znK),(164,znK),(207,zll),(73,zll),(212,zlk),(78,zlk),(208,znQ),(74,znQ),(210,zkc),(76,zkc),(298,zlm),(182,zlm),(300,zmm),(275,zmm),(299,zml),(183,zml),(294,znU),(258,znU),(218,zpJ),(166,zpJ),(172,zAc),(220,znX),(232,znX),(255,ztA),(196,zvy),(297,zAf),(81,znB)]++z4y
theorem zf4:zL zU7:=zh zJN (zh zJl<|zh zEh<|zh zD2<|zh zEg<|zh zD1<|zh zJW<|zh zJu<|zh zBm<|zh zBb<|zh zEj<|zh zD4<|zh zG7<|zh zGM<|zh zGY<|zh zGL<|zh zJ1<|zh zJz<|zh zNh<|zh zM5<|zh zJK<|zh zJ5<|zh zJE<|zh zBi<|zh zEf<|zh zJ9<|zh zJm zc9)
def zFC (N:Nat)(a0:lM)(a1 a2:Int):OA:=
 (oN (ze8 a0 a1 a2)<|cond (nB<|zpf a0 a1 a2) (some [aI 0])<|oN (inb a1<|ln a0)<|oN (inb a2<|ln<|ix a0 a1 [])<|some [aI<|ix (ix a0 a1 []) a2 0])
theorem zQs (a0:List (List Int))(a1 a2:Int)(hc:ze8 a0 a1 a2=true):∃N,zFC N a0 a1 a2=some [aI<|zf7 a0 a1 a2]:=by have hm:=(zwO a0 a1 a2).1;refine⟨0,?_⟩;unfold zFC oN nB;refine must rfl (brN (λ_=>?_) λ_=>mu (mu ?_));all_goals first|rfl|(simp only [*,zf7,cellAt,cT,cF]<;>rfl)|simp_all[Ty.cells,zf7,cellAt]
theorem zJO:vJ 215 znB:=kF3 zf4 zo zq zu (zx []) zQs
def zcV (t:List Slot)(n p:Int):Bool:=bif t.all (λs=>zdV s p) then ieq (ln t) n else false
@[simp] abbrev zin (t:List Slot)(n p:Int):Bool:=true
@[simp] abbrev zep (t:List Slot)(n p:Int):Bool:=zcV t n p
def zmp:Run:=rF3 (dS .slot) dI dI λb c d=>(zin b c d,[aB<|zep b c d])
def zCy (N:Nat)(a0:lS)(a1 a2:Int):OA:=
 (iter (σ:=(Int×Int×Int×lS×Unit)) N (λr4 s5=>let y0:=s5.2.2.2.1;let y1:=ix y0 s5.2.2.1 zO; (cond (ilt s5.2.2.1<|ln y0) (oN (inb s5.2.2.1<|ln y0)<|oN (zlw y1 s5.2.1)<|cond (nB<|zim y1 s5.2.1) oF<|r4 (s5.1,s5.2.1,zD .i64 s5.2.2.1 1,y0,()))<|some [aB<|ieq (ln y0) s5.1])) (a1,a2,0,a0,()))
def zOo:=zx [(349,0,{n:=25,tm:=[(0,.sl 0 []),(1,ti),(2,ti),(7,ti)],lo:=[],ro:=[(0,.slot,false)]})]
theorem zN1 (a0:List Slot)(a1 a2:Int)(hb:zbC big [aS .slot a0,aI a1,aI a2])(hc:zin a0 a1 a2=true):∃N,zCy N a0 a1 a2=some [aB<|zep a0 a1 a2]:=by
 have hl:(_:List _).length<=big:=((zc6 hb).1 _ (qF.2 rfl)).len;refine zb0 λN hNN=>?_;unfold zCy oN nB;conv=>zeta
 refine(zbd a0 (λi (t:Unit)=>(a1,a2,(i:Int),a0,())) _ (λ_ x (_:Unit) κ=>bif (λs=>zdV s a2) x then κ () else oF) (λ(t:Unit)=>some [.one<|.b<|ieq (ln a0) a1]) (λi hi t rec=>?_) (λt rec=>?_) _ ()<|hNN hl).trans ?_;{simp only [zbv hi,zY hi,zbg hi,zU hi hl,cT];exact zif rfl};{simp only [zbm,cF]};rw[zgG λs=>zdV s a2];refine br (λh0=>?_) (λh0=>?_);{first|rfl|(simp only [h0,zep,zcV,cT,cF]<;>rfl)|(simp_all [Ty.cells,zep,zcV];done)};{first|rfl|(simp only [h0,zep,zcV,cT,cF]<;>rfl)|(simp_all [Ty.cells,zep,zcV];done)}
theorem zHe:vJ 349 zmp:=hF3 zf4 zo zq zu zOo zN1
def zB7 (N:Nat)(a0:lS)(a1 a2:Int):OA:=
 (iter (σ:=(Int×Int×Int×Int×lS×Unit)) N (λr4 s5=>let y1:=s5.2.2.2.2.1;let y0:=ix y1 s5.2.2.2.1 zO; (cond (ilt s5.2.2.2.1 s5.2.2.1) (oN (inb s5.2.2.2.1<|ln y1)<|oN (zlw y0 s5.2.1)<|cond (nB<|zim y0 s5.2.1) oF<|r4 (s5.1,s5.2.1,s5.2.2.1,zD .i64 s5.2.2.2.1 1,y1,()))<|some [aB<|ieq (ln y1) s5.1])) (a1,a2,ln a0,0,a0,()))
def zOj:=zx [(257,0,{n:=24,tm:=[(0,.sl 0 []),(1,ti),(2,ti),(9,.sl 0 []),(10,ti),(11,ti)],lo:=[],ro:=[(0,.slot,false)]})]
theorem zND (a0:List Slot)(a1 a2:Int)(hb:zbC big [aS .slot a0,aI a1,aI a2])(hc:zin a0 a1 a2=true):∃N,zB7 N a0 a1 a2=some [aB<|zep a0 a1 a2]:=by
 have hl:(_:List _).length<=big:=((zc6 hb).1 _ (qF.2 rfl)).len;refine zb0 λN hNN=>?_;unfold zB7 oN nB;conv=>zeta
 refine(zbd a0 (λi (t:Unit)=>(a1,a2,ln a0,(i:Int),a0,())) _ (λ_ x (_:Unit) κ=>bif (λs=>zdV s a2) x then κ () else oF) (λ(t:Unit)=>some [.one<|.b<|ieq (ln a0) a1]) (λi hi t rec=>?_) (λt rec=>?_) _ ()<|hNN hl).trans ?_;{simp only [zbv hi,zY hi,zbg hi,zU hi hl,cT];exact zif rfl};{simp only [zbm,cF]};rw[zgG λs=>zdV s a2];refine br (λh0=>?_) (λh0=>?_);{first|rfl|(simp only [h0,zep,zcV,cT,cF]<;>rfl)|(simp_all [Ty.cells,zep,zcV];done)};{first|rfl|(simp only [h0,zep,zcV,cT,cF]<;>rfl)|(simp_all [Ty.cells,zep,zcV];done)}
theorem zGQ:vJ 257 zmp:=hF3 zf4 zo zq zu zOj zND
def zcn (c:List Int):Bool:=bif c.all (λx=>zi x 0 99) then ieq (ln c) 4 else false
@[simp] abbrev zdu (c:List Int):Bool:=true
@[simp] abbrev zcQ (c:List Int):Bool:=zcn c
def znT:Run:=rF1 (dS .int) λb=>(zdu b,[aB<|zcQ b])
def zFO (N:Nat)(a0:List Int):OA:=
 (iter (σ:=(Int×(List Int)×Unit)) N (λr2 s3=>cond (ilt s3.1<|ln s3.2.1) (oN (inb s3.1<|ln s3.2.1)<|oN (zI (ix s3.2.1 s3.1 0) 0 99)<|cond (nB<|zi (ix s3.2.1 s3.1 0) 0 99) oF<|r2 (zD .i64 s3.1 1,s3.2.1,()))<|some [aB<|ieq (ln s3.2.1) 4]) (0,a0,()))
def zR8:=zx [(351,0,{n:=19,tm:=[(0,.sl 0 []),(3,ti)],lo:=[],ro:=[(0,.int,false)]})]
theorem zQC (a0:List Int)(hb:zbC big [aS .int a0])(hc:zdu a0=true):∃N,zFO N a0=some [aB<|zcQ a0]:=by have hl:(_:List _).length<=big:=((zc6 hb).1 _ (qF.2 rfl)).len;refine zb0 λN hNN=>?_;unfold zFO oN nB;refine(zbd a0 (λi (t:Unit)=>((i:Int),a0,())) _ (λ_ x (_:Unit) κ=>bif (λx=>zi x 0 99) x then κ () else oF) (λ(t:Unit)=>some [.one<|.b<|ieq (ln a0) 4]) (λi hi t rec=>?_) (λt rec=>?_) _ ()<|hNN hl).trans ?_;{simp only [zbv hi,zY hi,zbg hi,zU hi hl,cT];exact zif rfl};{simp only [zbm,cF]};rw[zgG λx=>zi x 0 99];refine br (λh0=>?_) (λh0=>?_);{first|rfl|(simp only [h0,zcQ,zcn,cT,cF]<;>rfl)|(simp_all [Ty.cells,zcQ,zcn];done)};{first|rfl|(simp only [h0,zcQ,zcn,cT,cF]<;>rfl)|(simp_all [Ty.cells,zcQ,zcn];done)}
theorem zJ0:vJ 351 znT:=hF1 zf4 zo zq zu zR8 zQC
def zFq (N:Nat)(a0:List Int):OA:=
 (iter (σ:=(Int×Int×(List Int)×Unit)) N (λr2 s3=>cond (ilt s3.2.1 s3.1) (oN (inb s3.2.1<|ln s3.2.2.1)<|oN (zI (ix s3.2.2.1 s3.2.1 0) 0 99)<|cond (nB<|zi (ix s3.2.2.1 s3.2.1 0) 0 99) oF<|r2 (s3.1,zD .i64 s3.2.1 1,s3.2.2.1,()))<|some [aB<|ieq (ln s3.2.2.1) 4]) (ln a0,0,a0,()))
def zRY:=zx [(256,0,{n:=18,tm:=[(0,.sl 0 []),(5,.sl 0 []),(6,ti),(7,ti)],lo:=[],ro:=[(0,.int,false)]})]
theorem zQh (a0:List Int)(hb:zbC big [aS .int a0])(hc:zdu a0=true):∃N,zFq N a0=some [aB<|zcQ a0]:=by have hl:(_:List _).length<=big:=((zc6 hb).1 _ (qF.2 rfl)).len;refine zb0 λN hNN=>?_;unfold zFq oN nB;refine(zbd a0 (λi (t:Unit)=>(ln a0,(i:Int),a0,())) _ (λ_ x (_:Unit) κ=>bif (λx=>zi x 0 99) x then κ () else oF) (λ(t:Unit)=>some [.one<|.b<|ieq (ln a0) 4]) (λi hi t rec=>?_) (λt rec=>?_) _ ()<|hNN hl).trans ?_;{simp only [zbv hi,zY hi,zbg hi,zU hi hl,cT];exact zif rfl};{simp only [zbm,cF]};rw[zgG λx=>zi x 0 99];refine br (λh0=>?_) (λh0=>?_);{first|rfl|(simp only [h0,zcQ,zcn,cT,cF]<;>rfl)|(simp_all [Ty.cells,zcQ,zcn];done)};{first|rfl|(simp only [h0,zcQ,zcn,cT,cF]<;>rfl)|(simp_all [Ty.cells,zcQ,zcn];done)}
theorem zJy:vJ 256 znT:=hF1 zf4 zo zq zu zRY zQh
def zeE (i:Ins):Bool:=bif (ieq i.Op 1||ieq i.Op 2||ieq i.Op 5||ieq i.Op 6) then zi i.X 0 99 else (cond (ieq i.Op 3||ieq i.Op 4) (zi i.X 0 15)<|cond (ieq i.Op 7) (ieq i.X 0)<|cond (ieq i.Op 8) (zi i.X 0 11) false)
@[simp] abbrev ztS (i:Ins):Bool:=true
@[simp] abbrev zrL (i:Ins):Bool:=zeE i
def zpK:Run:=rF1 (dT .ins) λb=>(ztS b,[aB<|zrL b])
def zLN (N:Nat)(a0:Ins):OA:=
 let y10:=ieq a0.Op 4;let y9:=zI a0.X 0 99;let y8:=aB<|zi a0.X 0 99;let y7:=ieq a0.Op 8;let y6:=ieq a0.Op 7;let y5:=ieq a0.Op 3;let y4:=zI a0.X 0 11;let y3:=zI a0.X 0 15;let y2:=aB<|ieq a0.X 0;let y1:=aB<|zi a0.X 0 11;let y0:=aB<|zi a0.X 0 15; (cond (ieq a0.Op 1) (cond (ieq a0.Op 1) (oN y9<|some [y8])<|cond y5 (cond y5 (oN y3<|some [y0])<|cond y6 (some [y2])<|cond y7 (oN y4<|some [y1]) oF)<|cond y10 (oN y3<|some [y0])<|cond y6 (some [y2])<|cond y7 (oN y4<|some [y1]) oF)<|cond (ieq a0.Op 2) (cond (ieq a0.Op 2) (oN y9<|some [y8])<|cond y5 (cond y5 (oN y3<|some [y0])<|cond y6 (some [y2])<|cond y7 (oN y4<|some [y1]) oF)<|cond y10 (oN y3<|some [y0])<|cond y6 (some [y2])<|cond y7 (oN y4<|some [y1]) oF)<|cond (ieq a0.Op 5) (cond (ieq a0.Op 5) (oN y9<|some [y8])<|cond y5 (cond y5 (oN y3<|some [y0])<|cond y6 (some [y2])<|cond y7 (oN y4<|some [y1]) oF)<|cond y10 (oN y3<|some [y0])<|cond y6 (some [y2])<|cond y7 (oN y4<|some [y1]) oF)<|cond (ieq a0.Op 6) (oN y9<|some [y8])<|cond y5 (cond y5 (oN y3<|some [y0])<|cond y6 (some [y2])<|cond y7 (oN y4<|some [y1]) oF)<|cond y10 (oN y3<|some [y0])<|cond y6 (some [y2])<|cond y7 (oN y4<|some [y1]) oF)
theorem zCY (a0:Ins)(hb:zbC big [aT .ins a0])(hc:ztS a0=true):∃N,zLN N a0=some [aB<|zrL a0]:=by
 refine⟨0,?_⟩;unfold zLN oN;conv=>zeta
 refine br (λ_=>br (λ_=>must rfl ?_) λ_=>br (λ_=>br (λ_=>must rfl ?_) λ_=>br (λ_=>?_) λ_=>br (λ_=>must rfl ?_) λ_=>?_) λ_=>br (λ_=>must rfl ?_) λ_=>br (λ_=>?_) λ_=>br (λ_=>must rfl ?_) λ_=>?_) (λ_=>br (λ_=>br (λ_=>must rfl ?_) λ_=>br (λ_=>br (λ_=>must rfl ?_) λ_=>br (λ_=>?_) λ_=>br (λ_=>must rfl ?_) λ_=>?_) λ_=>br (λ_=>must rfl ?_) λ_=>br (λ_=>?_) λ_=>br (λ_=>must rfl ?_) λ_=>?_) λ_=>br (λ_=>br (λ_=>must rfl ?_) λ_=>br (λ_=>br (λ_=>must rfl ?_) λ_=>br (λ_=>?_) λ_=>br (λ_=>must rfl ?_) λ_=>?_) λ_=>br (λ_=>must rfl ?_) λ_=>br (λ_=>?_) λ_=>br (λ_=>must rfl ?_) λ_=>?_) λ_=>br (λ_=>must rfl ?_) λ_=>br (λ_=>br (λ_=>must rfl ?_) λ_=>br (λ_=>?_) λ_=>br (λ_=>must rfl ?_) λ_=>?_) λ_=>br (λ_=>must rfl ?_) λ_=>br (λ_=>?_) λ_=>br (λ_=>must rfl ?_) λ_=>?_);all_goals first|rfl|(simp only [*,zrL,zeE,cT,cF]<;>rfl)|simp_all[Ty.cells,zrL,zeE]
theorem zNi:vJ 382 zpK:=hF1 zf4 zo zq zu (zx []) zCY
theorem zM6:vJ 353 zpK:=hF1 zf4 zo zq zu (zx []) zCY
def zh3 (e:GExit):Bool:=bif (ieq e.Kind 0||ieq e.Kind 4) then (ieq e.Page 0&&(!e.Write&&ieq e.N 0)) else (cond (ieq e.Kind 1) (zi e.Page 0 3&&ieq e.N 0)<|cond (ieq e.Kind 2||ieq e.Kind 3) (zi e.N 0 99&&(ieq e.Page 0 && !e.Write)) false)
@[simp] theorem z6p (x:Bool):znj x false = !x:=by cases x<;>rfl
attribute [simp] zgO
@[simp] abbrev zrq (e:GExit):Bool:=true
@[simp] abbrev zkJ (e:GExit):Bool:=zh3 e
def znM:Run:=rF1 dE λb=>(zrq b,[aB<|zkJ b])
def zFE (N:Nat)(a0:GExit):OA:=
 let y5:=zi a0.N 0 99;let y4:=zI a0.N 0 99;let y3:=ieq a0.Kind 2;let y2:=ieq a0.Page 0;let y1:=aB<|nB a0.Write;let y0:=aB<|cond (ieq a0.Kind a0.Kind) (cond y2 (cond (znj a0.Write false) (ieq a0.N 0) false) false) false; (cond (ieq a0.Kind 0) (cond (ieq a0.Kind 0) (some [y0])<|cond (ieq a0.Kind 1) (oN (zI a0.Page 0 3)<|cond (zi a0.Page 0 3) (some [aB<|ieq a0.N 0]) oF)<|cond y3 (cond y3 (oN y4<|cond y5 (cond y2 (some [y1]) oF) oF) oF)<|cond (ieq a0.Kind 3) (oN y4<|cond y5 (cond y2 (some [y1]) oF) oF) oF)<|cond (ieq a0.Kind 4) (some [y0])<|cond (ieq a0.Kind 1) (oN (zI a0.Page 0 3)<|cond (zi a0.Page 0 3) (some [aB<|ieq a0.N 0]) oF)<|cond y3 (cond y3 (oN y4<|cond y5 (cond y2 (some [y1]) oF) oF) oF)<|cond (ieq a0.Kind 3) (oN y4<|cond y5 (cond y2 (some [y1]) oF) oF) oF)
theorem zQt (a0:GExit)(hc:zrq a0=true):∃N,zFE N a0=some [aB<|zkJ a0]:=by
 refine⟨0,?_⟩;unfold zFE oN nB;conv=>zeta
 refine br (λ_=>br (λ_=>?_) λ_=>br (λ_=>must rfl (br (λ_=>?_) λ_=>?_)) λ_=>br (λ_=>br (λ_=>must rfl (br (λ_=>br (λ_=>?_) λ_=>?_) λ_=>?_)) λ_=>?_) λ_=>br (λ_=>must rfl (br (λ_=>br (λ_=>?_) λ_=>?_) λ_=>?_)) λ_=>?_) (λ_=>br (λ_=>?_) λ_=>br (λ_=>must rfl (br (λ_=>?_) λ_=>?_)) λ_=>br (λ_=>br (λ_=>must rfl (br (λ_=>br (λ_=>?_) λ_=>?_) λ_=>?_)) λ_=>?_) λ_=>br (λ_=>must rfl (br (λ_=>br (λ_=>?_) λ_=>?_) λ_=>?_)) λ_=>?_);all_goals first|rfl|(simp only [*,zkJ,zh3,cT,cF]<;>rfl)|simp_all[Ty.cells,zkJ,zh3]
theorem zJQ:vJ 350 znM:=kF1 zf4 zo zq zu (zx []) zQt
def zFj (N:Nat)(a0:GExit):OA:=
 let y5:=zi a0.N 0 99;let y4:=zI a0.N 0 99;let y3:=ieq a0.Kind 2;let y2:=aB<|ieq a0.N 0;let y1:=ieq a0.Page 0;let y0:=aB<|nB a0.Write; (cond (ieq a0.Kind 0) (cond (ieq a0.Kind 0) (cond y1 (cond (nB a0.Write) (some [y2]) oF) oF)<|cond (ieq a0.Kind 1) (oN (zI a0.Page 0 3)<|cond (zi a0.Page 0 3) (some [y2]) oF)<|cond y3 (cond y3 (oN y4<|cond y5 (cond y1 (some [y0]) oF) oF) oF)<|cond (ieq a0.Kind 3) (oN y4<|cond y5 (cond y1 (some [y0]) oF) oF) oF)<|cond (ieq a0.Kind 4) (cond y1 (cond (nB a0.Write) (some [y2]) oF) oF)<|cond (ieq a0.Kind 1) (oN (zI a0.Page 0 3)<|cond (zi a0.Page 0 3) (some [y2]) oF)<|cond y3 (cond y3 (oN y4<|cond y5 (cond y1 (some [y0]) oF) oF) oF)<|cond (ieq a0.Kind 3) (oN y4<|cond y5 (cond y1 (some [y0]) oF) oF) oF)
theorem zQa (a0:GExit)(hc:zrq a0=true):∃N,zFj N a0=some [aB<|zkJ a0]:=by
 refine⟨0,?_⟩;unfold zFj oN nB;conv=>zeta
 refine br (λ_=>br (λ_=>br (λ_=>brN (λ_=>?_) λ_=>?_) λ_=>?_) λ_=>br (λ_=>must rfl (br (λ_=>?_) λ_=>?_)) λ_=>br (λ_=>br (λ_=>must rfl (br (λ_=>br (λ_=>?_) λ_=>?_) λ_=>?_)) λ_=>?_) λ_=>br (λ_=>must rfl (br (λ_=>br (λ_=>?_) λ_=>?_) λ_=>?_)) λ_=>?_) (λ_=>br (λ_=>br (λ_=>brN (λ_=>?_) λ_=>?_) λ_=>?_) λ_=>br (λ_=>must rfl (br (λ_=>?_) λ_=>?_)) λ_=>br (λ_=>br (λ_=>must rfl (br (λ_=>br (λ_=>?_) λ_=>?_) λ_=>?_)) λ_=>?_) λ_=>br (λ_=>must rfl (br (λ_=>br (λ_=>?_) λ_=>?_) λ_=>?_)) λ_=>?_);all_goals first|rfl|(simp only [*,zkJ,zh3,cT,cF]<;>rfl)|simp_all[Ty.cells,zkJ,zh3]
theorem zJo:vJ 311 znM:=kF1 zf4 zo zq zu (zx []) zQa
def zs9 (c:Ctl):List Int:=(cond (zi c.Traps 0 3) [] [1])++((cond (zi c.Post 0 255) [] [2])++((cond (ine c.Post 0) (cond c.Open [] [3]) [])++(cond (ieq c.Traps 2) (cond (ine c.Post 0) [4] []) [])))
@[simp] theorem z6m {α:Type}(x:α)(l m:List α):ap (x::l) m=x::ap l m:=rfl
@[simp] abbrev zfU (c:Ctl):Bool:=true
@[simp] abbrev zl3 (c:Ctl):List Int:=zs9 c
def zkb:Run:=rF1 dC λb=>(zfU b,[aS .int<|zl3 b])
def zxl (N:Nat)(a0:Ctl):OA:=
 let y10:=aS .int [];let y8:=ap (ap [] [2]) [4];let y7:=ap (ap [] [1]) [4];let y6:=aS .int<|ap [] [2];let y5:=aS .int<|ap [] [1];let y4:=ap (ap [] [2]) [3];let y3:=ap (ap [] [1]) [3];let y2:=ieq a0.Traps 2;let y1:=ine a0.Post 0;let y0:=ap (ap [] [1]) [2];let y9:=aS .int y0; (oN (zI a0.Traps 0 3)<|cond (nB<|zi a0.Traps 0 3) (oN (few<|ln<|ap [] [1])<|oN (zI a0.Post 0 255)<|cond (nB<|zi a0.Post 0 255) (oN (few<|ln y0)<|cond y1 (cond (nB a0.Open) (oN (few<|ln<|ap y0 [3])<|cond y2 (cond y1 (oN (few<|ln<|ap (ap y0 [3]) [4])<|some [aS .int<|ap (ap y0 [3]) [4]])<|some [aS .int<|ap y0 [3]])<|some [aS .int<|ap y0 [3]])<|cond y2 (cond y1 (oN (few<|ln<|ap y0 [4])<|some [aS .int<|ap y0 [4]])<|some [y9])<|some [y9])<|cond y2 (cond y1 (oN (few<|ln<|ap y0 [4])<|some [aS .int<|ap y0 [4]])<|some [y9])<|some [y9])<|cond y1 (cond (nB a0.Open) (oN (few<|ln y3)<|cond y2 (cond y1 (oN (few<|ln<|ap y3 [4])<|some [aS .int<|ap y3 [4]])<|some [aS .int y3])<|some [aS .int y3])<|cond y2 (cond y1 (oN (few<|ln y7)<|some [aS .int y7])<|some [y5])<|some [y5])<|cond y2 (cond y1 (oN (few<|ln y7)<|some [aS .int y7])<|some [y5])<|some [y5])<|oN (zI a0.Post 0 255)<|cond (nB<|zi a0.Post 0 255) (oN (few<|ln<|ap [] [2])<|cond y1 (cond (nB a0.Open) (oN (few<|ln y4)<|cond y2 (cond y1 (oN (few<|ln<|ap y4 [4])<|some [aS .int<|ap y4 [4]])<|some [aS .int y4])<|some [aS .int y4])<|cond y2 (cond y1 (oN (few<|ln y8)<|some [aS .int y8])<|some [y6])<|some [y6])<|cond y2 (cond y1 (oN (few<|ln y8)<|some [aS .int y8])<|some [y6])<|some [y6])<|cond y1 (cond (nB a0.Open) (oN (few<|ln<|ap [] [3])<|cond y2 (cond y1 (oN (few<|ln<|ap (ap [] [3]) [4])<|some [aS .int<|ap (ap [] [3]) [4]])<|some [aS .int<|ap [] [3]])<|some [aS .int<|ap [] [3]])<|cond y2 (cond y1 (oN (few<|ln<|ap [] [4])<|some [aS .int<|ap [] [4]])<|some [y10])<|some [y10])<|cond y2 (cond y1 (oN (few<|ln<|ap [] [4])<|some [aS .int<|ap [] [4]])<|some [y10])<|some [y10])
theorem ztp (a0:Ctl)(hb:zbC big [.agg<|zwc a0])(hc:zfU a0=true):∃N,zxl N a0=some [aS .int<|zl3 a0]:=by
 refine⟨0,?_⟩;unfold zxl oN nB;conv=>zeta
 refine must rfl (brN (λ_=>mu (must rfl (brN (λ_=>mu (br (λ_=>brN (λ_=>mu (br (λ_=>br (λ_=>mu ?_) λ_=>?_) λ_=>?_)) λ_=>br (λ_=>br (λ_=>mu ?_) λ_=>?_) λ_=>?_) λ_=>br (λ_=>br (λ_=>mu ?_) λ_=>?_) λ_=>?_)) λ_=>br (λ_=>brN (λ_=>mu (br (λ_=>br (λ_=>mu ?_) λ_=>?_) λ_=>?_)) λ_=>br (λ_=>br (λ_=>mu ?_) λ_=>?_) λ_=>?_) λ_=>br (λ_=>br (λ_=>mu ?_) λ_=>?_) λ_=>?_))) λ_=>must rfl (brN (λ_=>mu (br (λ_=>brN (λ_=>mu (br (λ_=>br (λ_=>mu ?_) λ_=>?_) λ_=>?_)) λ_=>br (λ_=>br (λ_=>mu ?_) λ_=>?_) λ_=>?_) λ_=>br (λ_=>br (λ_=>mu ?_) λ_=>?_) λ_=>?_)) λ_=>br (λ_=>brN (λ_=>mu (br (λ_=>br (λ_=>mu ?_) λ_=>?_) λ_=>?_)) λ_=>br (λ_=>br (λ_=>mu ?_) λ_=>?_) λ_=>?_) λ_=>br (λ_=>br (λ_=>mu ?_) λ_=>?_) λ_=>?_));all_goals first|rfl|(simp only [*,zl3,zs9,cT,cF]<;>rfl)|simp_all[Ty.cells,zl3,zs9]
theorem zBl:vJ 301 zkb:=hF1 zf4 zo zq zu (zx []) ztp
theorem zBa:vJ 304 zkb:=hF1 zf4 zo zq zu (zx []) ztp
def len8tab:ByteArray:=⟨⟨[0,1,2,2,3,3,3,3,4,4,4,4,4,4,4,4,5,5,5,5,5,5,5,5,5,5,5,5,5,5,5,5,6,6,6,6,6,6,6,6,6,6,6,6,6,6,6,6,6,6,6,6,6,6,6,6,6,6,6,6,6,6,6,6,7,7,7,7,7,7,7,7,7,7,7,7,7,7,7,7,7,7,7,7,7,7,7,7,7,7,7,7,7,7,7,7,7,7,7,7,7,7,7,7,7,7,7,7,7,7,7,7,7,7,7,7,7,7,7,7,7,7,7,7,7,7,7,7,8,8,8,8,8,8,8,8,8,8,8,8,8,8,8,8,8,8,8,8,8,8,8,8,8,8,8,8,8,8,8,8,8,8,8,8,8,8,8,8,8,8,8,8,8,8,8,8,8,8,8,8,8,8,8,8,8,8,8,8,8,8,8,8,8,8,8,8,8,8,8,8,8,8,8,8,8,8,8,8,8,8,8,8,8,8,8,8,8,8,8,8,8,8,8,8,8,8,8,8,8,8,8,8,8,8,8,8,8,8,8,8,8,8,8,8,8,8,8,8,8,8,8,8,8,8,8,8]⟩⟩
def zg2 (p n:Int):Bool:=ieq (wand .i64 (zjB .i64 p n) 1) 1
def scan (p:Int):Int:=bif zg2 p 7 then 7 else (cond (zg2 p 6) 6<|cond (zg2 p 5) 5<|cond (zg2 p 4) 4<|cond (zg2 p 3) 3<|cond (zg2 p 2) 2<|cond (zg2 p 1) 1<|cond (zg2 p 0) 0<|-1)
theorem z0n:∀n:Fin 256,zD .i64 0 (wcv .i64<|byteAt len8tab<|wcv .u8 (n.val:Int))=scan (n.val:Int)+1:=by decide +kernel
theorem zRz:∀n:Fin 256,-1<=scan (n.val:Int)/\scan (n.val:Int)<=7/\(0<=scan (n.val:Int)->wsub .i64 (n.val:Int) (zkU .i64 1<|scan (n.val:Int))=zw8 .i64 (n.val:Int) (zkU .i64 1<|scan (n.val:Int))):=by decide +kernel
theorem zz0 {P:Int->Prop}(h:∀n:Fin 256,P (n.val:Int)){x:Int}(h0:0<=x)(h1:x<=255):P x:=by have:=h ⟨x.toNat,by omega⟩;have e:((x.toNat:Nat):Int)=x:=(by omega);simpa [e] using this
def zlJ (x:Int):Bool:=pc (0<=x/\x<=255)
def zie (x:Int):Int:=scan x+1
def zhO:List AV->Option (Bool×List AV)
 |[.one<|.i .u64 b]=>some (zlJ b,[aI<|zie b])
 |_=>none
def zlD (N:Nat)(a0:Int):OA:=
 let y2:=zjB .u64 a0 16;let y0:=zjB .u64 a0 32;let y1:=zjB .u64 y0 16; (cond (ige a0 4294967296) (oN (ile 0 32)<|cond (ige y0 65536) (oN (ile 0 16)<|cond (ige y1 256) (oN (ile 0 8)<|oN (inb (wcv .u8<|zjB .u64 y1 8) 256)<|some [aI<|zD .i64 (zD .i64 (zD .i64 32 16) 8)<|wcv .i64<|byteAt len8tab<|wcv .u8<|zjB .u64 y1 8])<|oN (inb (wcv .u8 y1) 256)<|some [aI<|zD .i64 (zD .i64 32 16)<|wcv .i64<|byteAt len8tab<|wcv .u8 y1])<|cond (ige y0 256) (oN (ile 0 8)<|oN (inb (wcv .u8<|zjB .u64 y0 8) 256)<|some [aI<|zD .i64 (zD .i64 32 8)<|wcv .i64<|byteAt len8tab<|wcv .u8<|zjB .u64 y0 8])<|oN (inb (wcv .u8 y0) 256)<|some [aI<|zD .i64 32<|wcv .i64<|byteAt len8tab<|wcv .u8 y0])<|cond (ige a0 65536) (oN (ile 0 16)<|cond (ige y2 256) (oN (ile 0 8)<|oN (inb (wcv .u8<|zjB .u64 y2 8) 256)<|some [aI<|zD .i64 (zD .i64 (zD .i64 0 16) 8)<|wcv .i64<|byteAt len8tab<|wcv .u8<|zjB .u64 y2 8])<|oN (inb (wcv .u8 y2) 256)<|some [aI<|zD .i64 (zD .i64 0 16)<|wcv .i64<|byteAt len8tab<|wcv .u8 y2])<|cond (ige a0 256) (oN (ile 0 8)<|oN (inb (wcv .u8<|zjB .u64 a0 8) 256)<|some [aI<|zD .i64 (zD .i64 0 8)<|wcv .i64<|byteAt len8tab<|wcv .u8<|zjB .u64 a0 8])<|oN (inb (wcv .u8 a0) 256)<|some [aI<|zD .i64 0<|wcv .i64<|byteAt len8tab<|wcv .u8 a0])
theorem zzY (N:Nat)(a0:Int):evalFn (cQ zU7 zny zK4 zRR) (zx []) N 12 277 [.one<|.i .u64 a0]=zlD N a0:=by kernel_rfl
theorem zyt (a0:Int)(hb:zbC big [.one<|.i .u64 a0])(hc:zlJ a0=true):∃N,zlD N a0=some [aI<|zie a0]:=by
 obtain⟨h0,h1⟩:=zK.1 hc;refine⟨0,?_⟩;unfold zlD oN;conv=>zeta
 refine zcy (qG (by omega)) ?_;refine zcy (qG (by omega)) ?_;refine zcy (qG (by omega)) ?_;have e:inb (wcv .u8 a0) 256=true:=zz0 (P:=λx=>inb (wcv .u8 x) 256=true) (by decide +kernel) h0 h1;refine must e ?_;have e2:=zz0 (P:=λx=>zD .i64 0 (wcv .i64<|byteAt len8tab<|wcv .u8 x)=scan x+1) z0n h0 h1;rw[e2];rfl
theorem zm2:vJ 277 zhO:=zPR zf4 zo zq zu (zje (by kernel_rfl)) λavs rs hb h=>by unfold zhO at h;split at h;{obtain⟨hc,rfl⟩:=zeb h;exact(zyt _ hb hc).elim λN e=>⟨zx [],N,(zzY N _).trans e⟩};{cases h}
def z1r:zS:=[(215,znB),(349,zmp),(257,zmp),(351,znT),(256,znT),(382,zpK),(353,zpK),(350,znM),(311,znM),(301,zkb),(304,zkb),(277,zhO)]++zU7
theorem zf5:zL z1r:=zh zJO (zh zHe<|zh zGQ<|zh zJ0<|zh zJy<|zh zNi<|zh zM6<|zh zJQ<|zh zJo<|zh zBl<|zh zBa<|zh zm2 zf4)
def zh6 (m:List (List Int))(n:Int):Bool:=bif m.all zcn then ieq (ln m) n else false
@[simp] abbrev zh8 (m:List (List Int))(n:Int):Bool:=true
@[simp] abbrev zfi (m:List (List Int))(n:Int):Bool:=zh6 m n
def zpL:Run:=rF2 (dS<|.sl .int) dI λb c=>(zh8 b c,[aB<|zfi b c])
def zLO (N:Nat)(a0:lM)(a1:Int):OA:=
 (iter (σ:=(Int×Int×lM×Unit)) N (λr3 s4=>let y0:=s4.2.2.1; (cond (ilt s4.2.1<|ln y0) (oN (inb s4.2.1<|ln y0)<|oN (zdu<|ix y0 s4.2.1 [])<|cond (nB<|zcQ<|ix y0 s4.2.1 []) oF<|r3 (s4.1,zD .i64 s4.2.1 1,y0,()))<|some [aB<|ieq (ln y0) s4.1])) (a1,0,a0,()))
def zTA:=zx [(293,0,{n:=22,tm:=[(0,.sl 0 []),(1,ti),(5,ti)],lo:=[],ro:=[(0,.sl .int,false)]})]
theorem zS1 (a0:List (List Int))(a1:Int)(hb:zbC big [aS (.sl .int) a0,aI a1])(hc:zh8 a0 a1=true):∃N,zLO N a0 a1=some [aB<|zfi a0 a1]:=by
 have hl:(_:List _).length<=big:=((zc6 hb).1 _ (qF.2 rfl)).len;refine zb0 λN hNN=>?_;unfold zLO oN nB;conv=>zeta
 refine(zbd a0 (λi (t:Unit)=>(a1,(i:Int),a0,())) _ (λ_ x (_:Unit) κ=>bif (zcn) x then κ () else oF) (λ(t:Unit)=>some [.one<|.b<|ieq (ln a0) a1]) (λi hi t rec=>?_) (λt rec=>?_) _ ()<|hNN hl).trans ?_;{simp only [zbv hi,zY hi,zbg hi,zU hi hl,cT];exact zif rfl};{simp only [zbm,cF]};rw[zgG<|zcn];refine br (λh0=>?_) (λh0=>?_);{first|rfl|(simp only [h0,zfi,zh6,cT,cF]<;>rfl)|(simp_all [Ty.cells,zfi,zh6];done)};{first|rfl|(simp only [h0,zfi,zh6,cT,cF]<;>rfl)|(simp_all [Ty.cells,zfi,zh6];done)}
theorem zNj:vJ 293 zpL:=hF2 zf5 zo zq zu zTA zS1
def zLD (N:Nat)(a0:lM)(a1:Int):OA:=
 (iter (σ:=(Int×Int×Int×lM×Unit)) N (λr3 s4=>let y0:=s4.2.2.2.1; (cond (ilt s4.2.2.1 s4.2.1) (oN (inb s4.2.2.1<|ln y0)<|oN (zdu<|ix y0 s4.2.2.1 [])<|cond (nB<|zcQ<|ix y0 s4.2.2.1 []) oF<|r3 (s4.1,s4.2.1,zD .i64 s4.2.2.1 1,y0,()))<|some [aB<|ieq (ln y0) s4.1])) (a1,ln a0,0,a0,()))
def zTy:=zx [(146,0,{n:=21,tm:=[(0,.sl 0 []),(1,ti),(7,.sl 0 []),(8,ti),(9,ti)],lo:=[],ro:=[(0,.sl .int,false)]})]
theorem zSR (a0:List (List Int))(a1:Int)(hb:zbC big [aS (.sl .int) a0,aI a1])(hc:zh8 a0 a1=true):∃N,zLD N a0 a1=some [aB<|zfi a0 a1]:=by
 have hl:(_:List _).length<=big:=((zc6 hb).1 _ (qF.2 rfl)).len;refine zb0 λN hNN=>?_;unfold zLD oN nB;conv=>zeta
 refine(zbd a0 (λi (t:Unit)=>(a1,ln a0,(i:Int),a0,())) _ (λ_ x (_:Unit) κ=>bif (zcn) x then κ () else oF) (λ(t:Unit)=>some [.one<|.b<|ieq (ln a0) a1]) (λi hi t rec=>?_) (λt rec=>?_) _ ()<|hNN hl).trans ?_;{simp only [zbv hi,zY hi,zbg hi,zU hi hl,cT];exact zif rfl};{simp only [zbm,cF]};rw[zgG<|zcn];refine br (λh0=>?_) (λh0=>?_);{first|rfl|(simp only [h0,zfi,zh6,cT,cF]<;>rfl)|(simp_all [Ty.cells,zfi,zh6];done)};{first|rfl|(simp only [h0,zfi,zh6,cT,cF]<;>rfl)|(simp_all [Ty.cells,zfi,zh6];done)}
theorem zM7:vJ 146 zpL:=hF2 zf5 zo zq zu zTy zSR
def zdr (p:List Ins):Bool:=bif p.all zeE then zi (ln p) 1 12 else false
@[simp] abbrev zrv (p:List Ins):Bool:=true
@[simp] abbrev zgU (p:List Ins):Bool:=zdr p
def znV:Run:=rF1 (dS .ins) λb=>(zrv b,[aB<|zgU b])
def zFQ (N:Nat)(a0:lI):OA:=
 (iter (σ:=(Int×lI×Unit)) N (λr2 s3=>let y0:=ix s3.2.1 s3.1 zp2; (cond (ilt s3.1<|ln s3.2.1) (oN (inb s3.1<|ln s3.2.1)<|oN (ztS y0)<|cond (nB<|zrL y0) oF<|r2 (zD .i64 s3.1 1,s3.2.1,()))<|oN (zI (ln s3.2.1) 1 12)<|some [aB<|zi (ln s3.2.1) 1 12])) (0,a0,()))
def zR9:=zx [(348,0,{n:=19,tm:=[(0,.sl 0 []),(3,ti)],lo:=[],ro:=[(0,.ins,false)]})]
theorem zQD (a0:List Ins)(hb:zbC big [aS .ins a0])(hc:zrv a0=true):∃N,zFQ N a0=some [aB<|zgU a0]:=by
 have hl:(_:List _).length<=big:=((zc6 hb).1 _ (qF.2 rfl)).len;refine zb0 λN hNN=>?_;unfold zFQ oN nB;conv=>zeta
 refine(zbd a0 (λi (t:Unit)=>((i:Int),a0,())) _ (λ_ x (_:Unit) κ=>bif (zeE) x then κ () else oF) (λ(t:Unit)=>cond (zI (ln a0) 1 12) (some [.one<|.b<|zi (ln a0) 1 12]) none) (λi hi t rec=>?_) (λt rec=>?_) _ ()<|hNN hl).trans ?_;{simp only [zbv hi,zY hi,zbg hi,zU hi hl,cT];exact zif rfl};{simp only [zbm,cF]};rw[zgG<|zeE];refine br (λh0=>?_) (λh0=>?_);{refine must rfl ?_;first|rfl|(simp only [h0,zgU,zdr,cT,cF]<;>rfl)|(simp_all [Ty.cells,zgU,zdr];done)};{first|rfl|(simp only [h0,zgU,zdr,cT,cF]<;>rfl)|(simp_all [Ty.cells,zgU,zdr];done)}
theorem zJ2:vJ 348 znV:=hF1 zf5 zo zq zu zR9 zQD
def zFr (N:Nat)(a0:lI):OA:=
 (iter (σ:=(Int×Int×lI×Unit)) N (λr2 s3=>let y0:=ix s3.2.2.1 s3.2.1 zp2; (cond (ilt s3.2.1 s3.1) (oN (inb s3.2.1<|ln s3.2.2.1)<|oN (ztS y0)<|cond (nB<|zrL y0) oF<|r2 (s3.1,zD .i64 s3.2.1 1,s3.2.2.1,()))<|oN (zI (ln s3.2.2.1) 1 12)<|some [aB<|zi (ln s3.2.2.1) 1 12])) (ln a0,0,a0,()))
def zRZ:=zx [(310,0,{n:=18,tm:=[(0,.sl 0 []),(5,.sl 0 []),(6,ti),(7,ti)],lo:=[],ro:=[(0,.ins,false)]})]
theorem zQi (a0:List Ins)(hb:zbC big [aS .ins a0])(hc:zrv a0=true):∃N,zFr N a0=some [aB<|zgU a0]:=by
 have hl:(_:List _).length<=big:=((zc6 hb).1 _ (qF.2 rfl)).len;refine zb0 λN hNN=>?_;unfold zFr oN nB;conv=>zeta
 refine(zbd a0 (λi (t:Unit)=>(ln a0,(i:Int),a0,())) _ (λ_ x (_:Unit) κ=>bif (zeE) x then κ () else oF) (λ(t:Unit)=>cond (zI (ln a0) 1 12) (some [.one<|.b<|zi (ln a0) 1 12]) none) (λi hi t rec=>?_) (λt rec=>?_) _ ()<|hNN hl).trans ?_;{simp only [zbv hi,zY hi,zbg hi,zU hi hl,cT];exact zif rfl};{simp only [zbm,cF]};rw[zgG<|zeE];refine br (λh0=>?_) (λh0=>?_);{refine must rfl ?_;first|rfl|(simp only [h0,zgU,zdr,cT,cF]<;>rfl)|(simp_all [Ty.cells,zgU,zdr];done)};{first|rfl|(simp only [h0,zgU,zdr,cT,cF]<;>rfl)|(simp_all [Ty.cells,zgU,zdr];done)}
theorem zJA:vJ 310 znV:=hF1 zf5 zo zq zu zRZ zQi
def zk4 (c:Ctl):Bool:=ieq (ln<|zs9 c) 0
@[simp] abbrev zpb (c:Ctl):Bool:=zk4 c
def zpI:Run:=rF1 dC λb=>(zfU b,[aB<|zpb b])
def zLK (N:Nat)(a0:Ctl):OA:=
 (oN (zfU a0)<|some [aB<|ieq (ln<|zl3 a0) 0])
theorem zCX (a0:Ctl)(hb:zbC big [.agg<|zwc a0])(hc:zfU a0=true):∃N,zLK N a0=some [aB<|zpb a0]:=by refine⟨0,?_⟩;unfold zLK oN;refine must rfl ?_;first|rfl|(simp only [*,zpb,zk4,cT,cF]<;>rfl)|simp_all[Ty.cells,zpb,zk4]
theorem zNf:vJ 226 zpI:=hF1 zf5 zo zq zu (zx []) zCX
theorem zM4:vJ 244 zpI:=hF1 zf5 zo zq zu (zx []) zCX
def zdQ (p:Int):Int:=bif zdq p then scan p else -1
theorem zLA {x:Int}(h0:0<=x)(h1:x<=255):wcv .u64 x=x:=zz0 (P:=λx=>wcv .u64 x=x) (by decide +kernel) h0 h1
@[simp] abbrev zgL (p:Int):Int:=zdQ p
def znF:Run:=rF1 dI λb=>(zbY b,[aI<|zgL b])
def zFw (N:Nat)(a0:Int):OA:=
 (oN (zbY a0)<|cond (nB<|zee a0) (some [aI<|-1])<|oN (zlJ<|wcv .u64 a0)<|some [aI<|wsub .i64 (zie<|wcv .u64 a0) 1])
theorem zQn (a0:Int)(hc:zbY a0=true):∃N,zFw N a0=some [aI<|zgL a0]:=by refine⟨0,?_⟩;unfold zFw oN nB;refine must rfl ?_;cases h:zdq a0;{refine must (by simp[h]) ?_;simp[zdQ,h]};{obtain⟨h0,h1⟩:=zfM.1 h;have r:=zz0 (P:=λx=>-1<=scan x/\scan x<=7/\(0<=scan x->wsub .i64 x (zkU .i64 1<|scan x)=zw8 .i64 x (zkU .i64 1<|scan x))) zRz h0 h1;refine zcy (by simp[h]) ?_;rw[zLA h0 h1];refine must (zbp ⟨h0,h1⟩) ?_;have e:wsub .i64 (zie a0) 1=scan a0:=(by unfold zie;rw[zrO (by omega) (by omega)];omega);rw[e];simp[zdQ,h]}
theorem zJG:vJ 271 znF:=kF1 zf5 zo zq zu (zx []) zQn
def zFV (N:Nat)(a0:Int):OA:=
 (iter (σ:=(Int×Int×Unit)) N (λr2 s3=>cond (ige s3.2.1 0) (oN (zbY s3.1)<|cond (zee s3.1) (oN (ile 0<|wcv .u64 s3.2.1)<|cond (ieq (wand .i64 (zjB .i64 s3.1<|wcv .u64 s3.2.1) 1) 1) (some [aI s3.2.1])<|r2 (s3.1,wsub .i64 s3.2.1 1,()))<|some [aI<|-1])<|some [aI<|-1]) (a0,7,()))
def zSb:=zx [(303,0,{n:=19,tm:=[(0,ti),(3,ti)],lo:=[],ro:=[]})]
theorem zQH (a0:Int)(hc:zbY a0=true):∃N,zFV N a0=some [aI<|zgL a0]:=by refine⟨10,?_⟩;unfold zFV oN;cases h:zdq a0;{rw [zdK];refine must rfl ?_;refine must rfl ?_;refine zcy h ?_;simp[zdQ,h]};{have hs:zee a0=true:=h;rw[zdK];refine must rfl (must rfl (must hs (must rfl (br (λh7=>?_) λh7=>?_))));{have e7:zg2 a0 7=true:=h7;simp[zdQ,h,scan,e7]};have f7:zg2 a0 7=false:=h7;show iter 9 _ (a0,6,())=_;rw[zdK];refine must rfl (must rfl (must hs (must rfl (br (λh6=>?_) λh6=>?_))));{have e6:zg2 a0 6=true:=h6;simp[zdQ,h,scan,e6,f7]};have f6:zg2 a0 6=false:=h6;show iter 8 _ (a0,5,())=_;rw[zdK];refine must rfl (must rfl (must hs (must rfl (br (λh5=>?_) λh5=>?_))));{have e5:zg2 a0 5=true:=h5;simp[zdQ,h,scan,e5,f7,f6]};have f5:zg2 a0 5=false:=h5;show iter 7 _ (a0,4,())=_;rw[zdK];refine must rfl (must rfl (must hs (must rfl (br (λh4=>?_) λh4=>?_))));{have e4:zg2 a0 4=true:=h4;simp[zdQ,h,scan,e4,f7,f6,f5]};have f4:zg2 a0 4=false:=h4;show iter 6 _ (a0,3,())=_;rw[zdK];refine must rfl (must rfl (must hs (must rfl (br (λh3=>?_) λh3=>?_))));{have e3:zg2 a0 3=true:=h3;simp[zdQ,h,scan,e3,f7,f6,f5,f4]};have f3:zg2 a0 3=false:=h3;show iter 5 _ (a0,2,())=_;rw[zdK];refine must rfl (must rfl (must hs (must rfl (br (λh2=>?_) λh2=>?_))));{have e2:zg2 a0 2=true:=h2;simp[zdQ,h,scan,e2,f7,f6,f5,f4,f3]};have f2:zg2 a0 2=false:=h2;show iter 4 _ (a0,1,())=_;rw[zdK];refine must rfl (must rfl (must hs (must rfl (br (λh1=>?_) λh1=>?_))));{have e1:zg2 a0 1=true:=h1;simp[zdQ,h,scan,e1,f7,f6,f5,f4,f3,f2]};have f1:zg2 a0 1=false:=h1;show iter 3 _ (a0,0,())=_;rw[zdK];refine must rfl (must rfl (must hs (must rfl (br (λh0=>?_) λh0=>?_))));{have e0:zg2 a0 0=true:=h0;simp[zdQ,h,scan,e0,f7,f6,f5,f4,f3,f2,f1]};have f0:zg2 a0 0=false:=h0;show iter 2 _ (a0,-1,())=_;rw[zdK];refine zcy rfl ?_;simp[zdQ,h,scan,f7,f6,f5,f4,f3,f2,f1,f0]}
theorem zJ7:vJ 303 znF:=kF1 zf5 zo zq zu zSb zQH
@[simp] abbrev zge (l:List (List Int)):Bool:=pc (SmM l)
@[simp] abbrev zdJ (l:List (List Int)):List (List Int):=l
def zxL:Run:=rF1 (dS<|.sl .int) λb=>(zge b,[aS (.sl .int)<|zdJ b])
def zB9 (N:Nat)(a0:lM):OA:=
 (iter (σ:=(Int×Int×lM×lM×Unit)) N (λr2 s3=>let y0:=ix s3.2.2.2.1 s3.2.1 []; (cond (ilt s3.2.1 s3.1) (oN (inb s3.2.1<|ln s3.2.2.2.1)<|oN (zdN y0)<|oN (few<|ln<|ap s3.2.2.1 [zdM y0])<|r2 (s3.1,zD .i64 s3.2.1 1,ap s3.2.2.1 [zdM y0],s3.2.2.2.1,()))<|some [aS (.sl .int) s3.2.2.1])) (ln a0,0,[],a0,()))
def zOk:=zx [(144,0,{n:=20,tm:=[(3,.sl 0 []),(7,.sl 1 []),(8,ti),(9,ti)],lo:=[],ro:=[(0,.sl .int,true),(1,.sl .int,false)]})]
theorem zNF (a0:List (List Int))(hc:zge a0=true):∃N,zB9 N a0=some [aS (.sl .int)<|zdJ a0]:=by
 have hs:=zK.1 hc;have hl:=zct hs.1;refine zb0 λN hNN=>?_;unfold zB9 oN;conv=>zeta
 refine(zbd a0 (λi (t:lM)=>(ln a0,(i:Int),t,a0,())) _ (λ_ x acc κ=>bif zdN x then (cond (few<|ln<|ap acc [zdM x]) (κ<|ap acc [zdM x]) none) else none) (λ(t:lM)=>some [.one<|.s (.sl .int) t]) (λi hi t rec=>?_) (λt rec=>?_) _ ([])<|hNN hl.1).trans ?_;{simp only [zbv hi,zY hi,zbg hi,zU hi hl.1,cT]};{simp only [zbm,cF]};exact zjc zdN zdM _ a0 0 [] (λx hx=>⟨by exact zbp (jB (hs.2 x hx) (by decide)),rfl⟩) (by simpa using hl.2)
theorem zGS:vJ 144 zxL:=kF1 zf5 zo zq zu zOk zNF
@[simp] abbrev zJ (g:Guest):Bool:=pc (SmG g)
@[simp] abbrev zcv (g:Guest):Guest:=g
def ztz:Run:=rF1 (dT .guest) λb=>(zJ b,[aT .guest<|zcv b])
def zxh (N:Nat)(a0:Guest):OA:=
 (oN (zsd a0.Prog)<|oN (zgN a0.Written)<|oN (zgN a0.Live)<|oN (zdN a0.Seen)<|some [aT .guest ({a0 with Prog:=(znu a0.Prog),Written:=(zfq a0.Written),Live:=(zfq a0.Live),Seen:=(zdM a0.Seen)}:Guest)])
theorem zHI (a0:Guest)(hc:zJ a0=true):∃N,zxh N a0=some [aT .guest<|zcv a0]:=by have hs:=zK.1 hc;obtain⟨h1,h2,h3,h4⟩:=hs;have hs1:a0.Prog.length<=2147483648:=(by omega);have hs2:a0.Written.length<=2147483648:=(by omega);have hs3:a0.Live.length<=2147483648:=(by omega);have hs4:a0.Seen.length<=2147483648:=(by omega);refine⟨0,?_⟩;unfold zxh oN;refine mu (mu<|mu<|mu ?_);first|rfl|(simp only [*,zcv,cT,cF]<;>rfl)|simp_all[Ty.cells,zcv]
theorem zBh:vJ 168 ztz:=kF1 zf5 zo zq zu (zx []) zHI
def zet (t:List Slot)(p n:Int):Bool:=bif ieq (zbs t p).Page (-1) then false else (cond (enough (zbs t p).Rights n) (zi n 1 3) false)
def zb2 (t:List Slot)(p n:Int):Int:=bif zet t p n then (zbs t p).Page else -1
theorem z0g {r:Int}(h:zdy r=true):0<=r/\r<=3:=zfM.1 h
theorem zVo {a n:Int}(h:enough a n=true):zi n 1 3 = !ieq n 0:=by unfold enough at h;cases h1:zdy a;{rw [h1]at h;cases h};{cases h2:zdy n;{rw [h1,h2]at h;cases h};{have:=z0g h2;have e:(zi n 1 3=true)↔(!ieq n 0)=true:=(by rw[zfM];simp[ieq];omega);cases h3:zi n 1 3<;>cases h4:(!ieq n 0)<;>simp_all}}
@[simp] abbrev zgM (t:List Slot)(p n:Int):Bool:=true
@[simp] abbrev zew (t:List Slot)(p n:Int):Int:=zb2 t p n
@[simp] abbrev zd3 (t:List Slot)(p n:Int):Bool:=zet t p n
def zka:Run:=rF3 (dS .slot) dI dI λb c d=>(zgM b c d,[aI<|zew b c d,aB<|zd3 b c d])
def zxf (N:Nat)(a0:lS)(a1 a2:Int):OA:=
 let y0:=zeo a0 a1; (oN (zfI a0 a1)<|cond (ieq y0.Page<|-1) (some [aI<|-1,aB false])<|oN (zbl y0.Rights a2)<|cond (nB<|zcE y0.Rights a2) (some [aI<|-1,aB false])<|oN (zI a2 1 3)<|cond (nB<|zi a2 1 3) (some [aI<|-1,aB false])<|some [aI y0.Page,aB true])
theorem zHG (a0:List Slot)(a1 a2:Int)(hc:zgM a0 a1 a2=true):∃N,zxf N a0 a1 a2=some [aI<|zew a0 a1 a2,aB<|zd3 a0 a1 a2]:=by
 refine⟨0,?_⟩;unfold zxf oN nB;conv=>zeta
 refine must rfl (br (λ_=>?_) λ_=>must rfl (brN (λ_=>?_) λ_=>must rfl (brN (λ_=>?_) λ_=>?_)));all_goals first|rfl|(simp only [*,zew,zd3,zb2,zet,cT,cF]<;>rfl)|simp_all[Ty.cells,zew,zd3,zb2,zet]
theorem zBf:vJ 181 zka:=kF3 zf5 zo zq zu (zx []) zHG
def zxu (N:Nat)(a0:lS)(a1 a2:Int):OA:=
 let y0:=zeo a0 a1; (oN (zfI a0 a1)<|cond (ieq y0.Page<|-1) (some [aI<|-1,aB false])<|oN (zbl y0.Rights a2)<|cond (nB<|zcE y0.Rights a2) (some [aI<|-1,aB false])<|cond (ieq a2 0) (some [aI<|-1,aB false])<|some [aI y0.Page,aB true])
theorem zHV (a0:List Slot)(a1 a2:Int)(hc:zgM a0 a1 a2=true):∃N,zxu N a0 a1 a2=some [aI<|zew a0 a1 a2,aB<|zd3 a0 a1 a2]:=by
 have he:=@zVo (zbs a0 a1).Rights a2;refine⟨0,?_⟩;unfold zxu oN nB;conv=>zeta
 refine must rfl (br (λ_=>?_) λ_=>must rfl (brN (λ_=>?_) λ_=>br (λ_=>?_) λ_=>?_));all_goals first|rfl|(simp only [*,zew,zd3,zb2,zet,cT,cF]<;>rfl)|simp_all[Ty.cells,zew,zd3,zb2,zet]
theorem zBu:vJ 206 zka:=kF3 zf5 zo zq zu (zx []) zHV
def z1s:zS:=[(277,zhO),(144,zxL),(168,ztz),(206,zka),(181,zka),(293,zpL),(146,zpL),(348,znV),(310,znV),(226,zpI),(244,zpI),(303,znF),(271,znF)]++z1r
theorem zf6:zL z1s:=zh zm2 (zh zGS<|zh zBh<|zh zBu<|zh zBf<|zh zNj<|zh zM7<|zh zJ2<|zh zJA<|zh zNf<|zh zM4<|zh zJ7<|zh zJG zf5)
@[simp] abbrev zeZ (m:List (List Int))(p c v:Int):Bool:=pc (SmM m)
@[simp] abbrev ze7 (m:List (List Int))(p c v:Int):List (List Int):=zbB m p c v
def zlq:Run:=rF4 (dS<|.sl .int) dI dI dI λb c d e=>(zeZ b c d e,[aS (.sl .int)<|ze7 b c d e])
def zyZ (N:Nat)(a0:lM)(a1 a2 a3:Int):OA:=
 let y0:=zeT a0; (oN (zgk a0)<|oN (ze8 a0 a1 a2)<|cond (zpf a0 a1 a2) (oN (zI a3 0 99)<|cond (zi a3 0 99) (oN (inb a1<|ln y0)<|oN (inb a2<|ln<|ix y0 a1 [])<|share (up y0 a1<|up (ix y0 a1 []) a2 a3) λx5=>some [aS (.sl .int) x5])<|some [aS (.sl .int) y0])<|some [aS (.sl .int) y0])
theorem zKP (a0:List (List Int))(a1 a2 a3:Int)(hc:zeZ a0 a1 a2 a3=true):∃N,zyZ N a0 a1 a2 a3=some [aS (.sl .int)<|ze7 a0 a1 a2 a3]:=by
 have hs:=zK.1 hc;have hm:=(zwO a0 a1 a2).1;refine⟨0,?_⟩;unfold zyZ oN;conv=>zeta
 refine mu (must rfl (br (λ_=>must rfl (br (λ_=>mu (mu<|shr ?_)) λ_=>?_)) λ_=>?_));all_goals first|rfl|(simp only [*,ze7,zbB,cT,cF]<;>rfl)|simp_all[Ty.cells,ze7,zbB]
theorem zEz:vJ 211 zlq:=kF4 zf6 zo zq zu (zx []) zKP
def zyz (N:Nat)(a0:lM)(a1 a2 a3:Int):OA:=
 let y0:=aS (.sl .int)<|zdJ a0; (oN (zge a0)<|oN (zbl a1<|ln a0)<|cond (zcR a1<|ln a0) (oN (inb a1<|ln a0)<|oN (zbl a2<|ln<|ix a0 a1 [])<|cond (zcR a2<|ln<|ix a0 a1 []) (oN (zI a3 0 99)<|cond (zi a3 0 99) (oN (inb a1<|ln<|zdJ a0)<|oN (inb a2<|ln<|ix (zdJ a0) a1 [])<|share (up (zdJ a0) a1<|up (ix (zdJ a0) a1 []) a2 a3) λx5=>some [aS (.sl .int) x5])<|some [y0])<|some [y0])<|some [y0])
theorem zKr (a0:List (List Int))(a1 a2 a3:Int)(hc:zeZ a0 a1 a2 a3=true):∃N,zyz N a0 a1 a2 a3=some [aS (.sl .int)<|ze7 a0 a1 a2 a3]:=by
 have hs:=zK.1 hc;refine⟨0,?_⟩;unfold zyz oN;conv=>zeta
 refine mu (must rfl (br (λ_=>mu (must rfl (br (λ_=>must rfl (br (λ_=>mu (mu<|shr ?_)) λ_=>?_)) λ_=>?_))) λ_=>?_));all_goals first|rfl|(simp only [*,ze7,zbB,zf0,cT,cF]<;>rfl)|simp_all[Ty.cells,ze7,zbB,zf0]
theorem zD9:vJ 77 zlq:=kF4 zf6 zo zq zu (zx []) zKr
def zit (g:Guest):Bool:=bif canRun g then (cond g.Ctl.Open (ige (zdQ g.Pending) 0) false) else false
@[simp] abbrev zbk (g:Guest):Bool:=true
@[simp] abbrev zjv (g:Guest):Bool:=zit g
def zlp:Run:=rF1 (dT .guest) λb=>(zbk b,[aB<|zjv b])
def zyY (N:Nat)(a0:Guest):OA:=
 (oN (zrp a0)<|cond (zmM a0) (cond a0.Ctl.Open (oN (zbY a0.Pending)<|some [aB<|ige (zgL a0.Pending) 0]) oF) oF)
theorem zvh (a0:Guest)(hb:zbC big [aT .guest a0])(hc:zbk a0=true):∃N,zyY N a0=some [aB<|zjv a0]:=by refine⟨0,?_⟩;unfold zyY oN;refine must rfl (br (λ_=>br (λ_=>must rfl ?_) λ_=>?_) λ_=>?_);all_goals first|rfl|(simp only [*,zjv,zit,cT,cF]<;>rfl)|simp_all[Ty.cells,zjv,zit]
theorem zEy:vJ 291 zlp:=hF1 zf6 zo zq zu (zx []) zvh
theorem zD8:vJ 165 zlp:=hF1 zf6 zo zq zu (zx []) zvh
def zhT (p:Int):Int:=bif ilt (zdQ p) 0 then p else wsub .i64 p (zkU .i64 1<|zdQ p)
def znx (p:Int):Int:=bif ilt (zdQ p) 0 then -1 else zdQ p
theorem zMV {p:Int}(h:ilt (zdQ p) 0=false):wcv .u64 (zdQ p)=zdQ p/\ile 0 (zdQ p)=true/\zw8 .i64 p (zkU .i64 1<|zdQ p)=wsub .i64 p (zkU .i64 1<|zdQ p):=by unfold zdQ at *;cases h1:zdq p;{rw [h1]at h;cases h};{simp only [h1,cT]at h ⊢;obtain⟨h0,h2⟩:=zfM.1 h1;have r:=zz0 (P:=λx=>-1<=scan x/\scan x<=7/\(0<=scan x->wsub .i64 x (zkU .i64 1<|scan x)=zw8 .i64 x (zkU .i64 1<|scan x))) zRz h0 h2;have h3:0<=scan p:=(by unfold ilt at h;have:=jQ h;omega);exact⟨zLA h3 (by omega),qJ h3,(r.2.2 h3).symm⟩}
@[simp] abbrev zfu (p:Int):Int:=zhT p
@[simp] abbrev zfv (p:Int):Int:=znx p
@[simp] abbrev zhk (p:Int):Bool:=!ilt (zdQ p) 0
def zmq:Run:=rF1 dI λb=>(zbY b,[aI<|zfu b,aI<|zfv b,aB<|zhk b])
def zCz (N:Nat)(a0:Int):OA:=
 (oN (zbY a0)<|cond (ilt (zgL a0) 0) (some [aI a0,aI<|-1,aB false])<|oN (ile 0<|wcv .u64<|zgL a0)<|some [aI<|wsub .i64 a0<|zkU .i64 1<|wcv .u64<|zgL a0,aI<|zgL a0,aB true])
theorem zN2 (a0:Int)(hc:zbY a0=true):∃N,zCz N a0=some [aI<|zfu a0,aI<|zfv a0,aB<|zhk a0]:=by have ht:=@zMV a0;refine⟨0,?_⟩;unfold zCz oN;refine must rfl (br (λ_=>?_) λ_=>mu ?_);all_goals first|rfl|(simp only [*,zfu,zfv,zhk,zhT,znx,cT,cF]<;>rfl)|simp_all[Ty.cells,zfu,zfv,zhk,zhT,znx]
theorem zHf:vJ 228 zmq:=kF1 zf6 zo zq zu (zx []) zN2
def zB8 (N:Nat)(a0:Int):OA:=
 (oN (zbY a0)<|cond (ilt (zgL a0) 0) (some [aI a0,aI<|-1,aB false])<|oN (ile 0<|zgL a0)<|some [aI<|zw8 .i64 a0<|zkU .i64 1<|zgL a0,aI<|zgL a0,aB true])
theorem zNE (a0:Int)(hc:zbY a0=true):∃N,zB8 N a0=some [aI<|zfu a0,aI<|zfv a0,aB<|zhk a0]:=by have ht:=@zMV a0;refine⟨0,?_⟩;unfold zB8 oN;refine must rfl (br (λ_=>?_) λ_=>mu ?_);all_goals first|rfl|(simp only [*,zfu,zfv,zhk,zhT,znx,cT,cF]<;>rfl)|simp_all[Ty.cells,zfu,zfv,zhk,zhT,znx]
theorem zGR:vJ 248 zmq:=kF1 zf6 zo zq zu (zx []) zNE
def saw (g:Guest)(n:Int):Guest:=bif ilt (ln g.Seen) 40 then {g with Seen:=ap g.Seen [n]} else g
@[simp] theorem zLd {g:Guest}(n:Int)(h:SmG g):SmG (saw g n):=by unfold saw;cases h1:ilt (ln g.Seen) 40;{exact h};{have:=qD h1;refine⟨h.1,h.2.1,h.2.2.1,?_⟩;simp[ln] at *;omega}
@[simp] abbrev zrM (g:Guest)(n:Int):Bool:=pc (SmG g)
@[simp] abbrev zom (g:Guest)(n:Int):Guest:=saw g n
def ztH:Run:=rF2 (dT .guest) dI λb c=>(zrM b c,[aT .guest<|zom b c])
def zTK (N:Nat)(a0:Guest)(a1:Int):OA:=
 (oN (zdA a0)<|cond (ilt (ln (zcZ a0).Seen) 40) (oN (few<|ln<|ap (zcZ a0).Seen [a1])<|some [aT .guest ({ (zcZ a0) with Seen:=(ap (zcZ a0).Seen [a1])}:Guest)])<|some [aT .guest<|zcZ a0])
theorem zXW (a0:Guest)(a1:Int)(hc:zrM a0 a1=true):∃N,zTK N a0 a1=some [aT .guest<|zom a0 a1]:=by have hs:=zK.1 hc;have hz:a0.Seen.length<=1048576:=hs.2.2.2;refine⟨0,?_⟩;unfold zTK oN;refine mu (br (λ_=>mu ?_) λ_=>?_);all_goals first|rfl|(simp only [*,zom,saw,cT,cF]<;>rfl)|simp_all[Ty.cells,zom,saw]
theorem zSP:vJ 295 ztH:=kF2 zf6 zo zq zu (zx []) zXW
def zTG (N:Nat)(a0:Guest)(a1:Int):OA:=
 (oN (zJ a0)<|cond (ilt (ln a0.Seen) 40) (oN (few<|ln<|ap (zcv a0).Seen [a1])<|some [aT .guest ({ (zcv a0) with Seen:=(ap (zcv a0).Seen [a1])}:Guest)])<|some [aT .guest<|zcv a0])
theorem zXS (a0:Guest)(a1:Int)(hc:zrM a0 a1=true):∃N,zTG N a0 a1=some [aT .guest<|zom a0 a1]:=by have hs:=zK.1 hc;have hz:a0.Seen.length<=1048576:=hs.2.2.2;refine⟨0,?_⟩;unfold zTG oN;refine mu (br (λ_=>mu ?_) λ_=>?_);all_goals first|rfl|(simp only [*,zom,saw,cT,cF]<;>rfl)|simp_all[Ty.cells,zom,saw]
theorem zSL:vJ 170 ztH:=kF2 zf6 zo zq zu (zx []) zXS
def stopped (g:Guest)(e:GExit):Guest:={g with Exit:=e}
@[simp] theorem z5o {g:Guest}(e:GExit)(h:SmG g):SmG (stopped g e):=h
@[simp] abbrev zcw (g:Guest)(e:GExit):Bool:=pc (SmG g)
@[simp] abbrev zcj (g:Guest)(e:GExit):Guest:=stopped g e
def zmo:Run:=rF2 (dT .guest) dE λb c=>(zcw b c,[aT .guest<|zcj b c])
def zCx (N:Nat)(a0:Guest)(a1:GExit):OA:=
 (oN (zdA a0)<|some [aT .guest ({ (zcZ a0) with Exit:=a1}:Guest)])
theorem zN0 (a0:Guest)(a1:GExit)(hc:zcw a0 a1=true):∃N,zCx N a0 a1=some [aT .guest<|zcj a0 a1]:=by have hs:=zK.1 hc;refine⟨0,?_⟩;unfold zCx oN;refine mu ?_;first|rfl|(simp only [*,zcj,stopped,cT,cF]<;>rfl)|simp_all[Ty.cells,zcj,stopped]
theorem zHd:vJ 209 zmo:=kF2 zf6 zo zq zu (zx []) zN0
def zB6 (N:Nat)(a0:Guest)(a1:GExit):OA:=
 (oN (zJ a0)<|some [aT .guest ({ (zcv a0) with Exit:=a1}:Guest)])
theorem zNC (a0:Guest)(a1:GExit)(hc:zcw a0 a1=true):∃N,zB6 N a0 a1=some [aT .guest<|zcj a0 a1]:=by have hs:=zK.1 hc;refine⟨0,?_⟩;unfold zB6 oN;refine mu ?_;first|rfl|(simp only [*,zcj,stopped,cT,cF]<;>rfl)|simp_all[Ty.cells,zcj,stopped]
theorem zGP:vJ 75 zmo:=kF2 zf6 zo zq zu (zx []) zNC
def zbU (g:Guest):Guest:=bif ige g.Pc 12 then {g with Pc:=12} else {g with Pc:=zD .i64 g.Pc 1}
@[simp] theorem zkR {g:Guest}(h:SmG g):SmG (zbU g):=by unfold zbU;cases ige g.Pc 12<;>exact h
@[simp] abbrev zb4 (g:Guest):Guest:=zbU g
def zhe:Run:=rF1 (dT .guest) λb=>(zJ b,[aT .guest<|zb4 b])
def zLR (N:Nat)(a0:Guest):OA:=
 (oN (zdA a0)<|cond (ige (zcZ a0).Pc 12) (some [aT .guest ({ (zcZ a0) with Pc:=12}:Guest)])<|some [aT .guest ({ (zcZ a0) with Pc:=(zD .i64 (zcZ a0).Pc 1)}:Guest)])
theorem zS4 (a0:Guest)(hc:zJ a0=true):∃N,zLR N a0=some [aT .guest<|zb4 a0]:=by have hs:=zK.1 hc;refine⟨0,?_⟩;unfold zLR oN;refine mu (br (λ_=>?_) λ_=>?_);all_goals first|rfl|(simp only [*,zb4,zbU,cT,cF]<;>rfl)|simp_all[Ty.cells,zb4,zbU]
theorem zNl:vJ 223 zhe:=kF1 zf6 zo zq zu (zx []) zS4
def zLG (N:Nat)(a0:Guest):OA:=
 (oN (zJ a0)<|cond (ige a0.Pc 12) (some [aT .guest ({ (zcv a0) with Pc:=12}:Guest)])<|some [aT .guest ({ (zcv a0) with Pc:=(zD .i64 a0.Pc 1)}:Guest)])
theorem zSU (a0:Guest)(hc:zJ a0=true):∃N,zLG N a0=some [aT .guest<|zb4 a0]:=by have hs:=zK.1 hc;refine⟨0,?_⟩;unfold zLG oN;refine mu (br (λ_=>?_) λ_=>?_);all_goals first|rfl|(simp only [*,zb4,zbU,cT,cF]<;>rfl)|simp_all[Ty.cells,zb4,zbU]
theorem zNa:vJ 169 zhe:=kF1 zf6 zo zq zu (zx []) zSU
def z1t:zS:=[(211,zlq),(77,zlq),(291,zlp),(165,zlp),(228,zmq),(248,zmq),(295,ztH),(170,ztH),(209,zmo),(75,zmo),(223,zhe),(169,zhe)]++z1s
theorem zeN:zL z1t:=zh zEz (zh zD9<|zh zEy<|zh zD8<|zh zHf<|zh zGR<|zh zSP<|zh zSL<|zh zHd<|zh zGP<|zh zNl<|zh zNa zf6)
def interrupted (g:Guest):Guest:=bif zit g then saw {g with Pending:=zhT g.Pending} (zD .i64 100<|znx g.Pending) else g
@[simp] theorem zUt {g:Guest}(h:SmG g):SmG (interrupted g):=by unfold interrupted;cases zit g;{exact h};{exact zLd (g:={g with Pending:=zhT g.Pending}) _ h}
@[simp] abbrev zez (g:Guest):Guest:=interrupted g
def ziy:Run:=rF1 (dT .guest) λb=>(zJ b,[aT .guest<|zez b])
def zsZ (N:Nat)(a0:Guest):OA:=
 let y1:=zD .i64 100<|zfv a0.Pending;let y0:=({a0 with Pending:=(zfu a0.Pending)}:Guest); (oN (zbk a0)<|cond (nB<|zjv a0) (oN (zdA a0)<|some [aT .guest<|zcZ a0])<|oN (zbY a0.Pending)<|oN (zrM y0 y1)<|some [aT .guest<|zom y0 y1])
theorem zBO (a0:Guest)(hc:zJ a0=true):∃N,zsZ N a0=some [aT .guest<|zez a0]:=by
 have hs:=zK.1 hc;have hz:_/\_/\_/\_:=hs;refine⟨0,?_⟩;unfold zsZ oN nB;conv=>zeta
 refine must rfl (brN (λ_=>mu ?_) λ_=>must rfl (mu ?_));all_goals first|rfl|(simp only [*,zez,interrupted,cT,cF]<;>rfl)|simp_all[Ty.cells,zez,interrupted]
theorem zyq:vJ 203 ziy:=kF1 zeN zo zq zu (zx []) zBO
def zsN (N:Nat)(a0:Guest):OA:=
 let y1:=zD .i64 100<|zfv a0.Pending;let y0:=({a0 with Pending:=(zfu a0.Pending)}:Guest); (oN (zbk a0)<|cond (nB<|zjv a0) (oN (zJ a0)<|some [aT .guest<|zcv a0])<|oN (zbY a0.Pending)<|oN (zrM y0 y1)<|some [aT .guest<|zom y0 y1])
theorem zBE (a0:Guest)(hc:zJ a0=true):∃N,zsN N a0=some [aT .guest<|zez a0]:=by
 have hs:=zK.1 hc;have hz:_/\_/\_/\_:=hs;refine⟨0,?_⟩;unfold zsN oN nB;conv=>zeta
 refine must rfl (brN (λ_=>mu ?_) λ_=>must rfl (mu ?_));all_goals first|rfl|(simp only [*,zez,interrupted,cT,cF]<;>rfl)|simp_all[Ty.cells,zez,interrupted]
theorem zyg:vJ 179 ziy:=kF1 zeN zo zq zu (zx []) zBE
def zvm (o:Int):Int:=bif ieq o 3 then 3 else (cond (ieq o 4) 4<|cond (ieq o 5) 5<|cond (ieq o 6) 6<|cond (ieq o 7) 7 2)
def zG (g:Guest):Int:=bif canRun g then (cond (zit g) 1<|zvm (zb7 g.Prog g.Pc).Op) else 0
@[simp] abbrev zgV (g:Guest):Int:=zG g
def znZ:Run:=rF1 (dT .guest) λb=>(zbk b,[aI<|zgV b])
def zFX (N:Nat)(a0:Guest):OA:=
 let y0:=(zdj a0.Prog a0.Pc).Op; (oN (zrp a0)<|cond (nB<|zmM a0) (some [aI 0])<|oN (zbk a0)<|cond (zjv a0) (some [aI 1])<|oN (zds a0.Prog a0.Pc)<|cond (ieq y0 3) (some [aI 3])<|cond (ieq y0 4) (some [aI 4])<|cond (ieq y0 5) (some [aI 5])<|cond (ieq y0 6) (some [aI 6])<|cond (ieq y0 7) (some [aI 7])<|some [aI 2])
theorem zzU (a0:Guest)(hb:zbC big [aT .guest a0])(hc:zbk a0=true):∃N,zFX N a0=some [aI<|zgV a0]:=by
 refine⟨0,?_⟩;unfold zFX oN nB;conv=>zeta
 refine must rfl (brN (λ_=>?_) λ_=>must rfl (br (λ_=>?_) λ_=>must rfl (br (λ_=>?_) λ_=>br (λ_=>?_) λ_=>br (λ_=>?_) λ_=>br (λ_=>?_) λ_=>br (λ_=>?_) λ_=>?_)));all_goals first|rfl|(simp only [*,zgV,zG,zvm,cT,cF]<;>rfl)|simp_all[Ty.cells,zgV,zG,zvm]
theorem zcg:vJ 201 znZ:=hF1 zeN zo zq zu (zx []) zzU
theorem zJI:vJ 70 znZ:=hF1 zeN zo zq zu (zx []) zzU
def held (g:Guest):Guest:=zbU {g with Halted:=true}
@[simp] theorem zRE {g:Guest}(h:SmG g):SmG (held g):=zkR (g:={g with Halted:=true}) h
@[simp] abbrev zjJ (g:Guest):Guest:=held g
def zro:Run:=rF1 (dT .guest) λb=>(zJ b,[aT .guest<|zjJ b])
def zOS (N:Nat)(a0:Guest):OA:=
 let y0:=({a0 with Halted:=true}:Guest); (oN (zJ y0)<|some [aT .guest<|zb4 y0])
theorem zHR (a0:Guest)(hb:zbC big [aT .guest a0])(hc:zJ a0=true):∃N,zOS N a0=some [aT .guest<|zjJ a0]:=by
 have hs:=zK.1 hc;have hz:_/\_/\_/\_:=hs;refine⟨0,?_⟩;unfold zOS oN;conv=>zeta
 refine mu ?_;first|rfl|(simp only [*,zjJ,held,cT,cF]<;>rfl)|simp_all[Ty.cells,zjJ,held]
theorem zPY:vJ 224 zro:=hF1 zeN zo zq zu (zx []) zHR
theorem zPT:vJ 174 zro:=hF1 zeN zo zq zu (zx []) zHR
def zFU (N:Nat)(a0:Guest):OA:=
 (oN (zJ a0)<|some [aT .guest<|zb4 a0])
theorem zzT (a0:Guest)(hb:zbC big [aT .guest a0])(hc:zJ a0=true):∃N,zFU N a0=some [aT .guest<|zb4 a0]:=by have hs:=zK.1 hc;refine⟨0,?_⟩;unfold zFU oN;refine mu ?_;first|rfl|(simp only [*,zb4,cT,cF]<;>rfl)|simp_all[Ty.cells,zb4]
theorem zJ6:vJ 213 zhe:=hF1 zeN zo zq zu (zx []) zzT
theorem zJF:vJ 79 zhe:=hF1 zeN zo zq zu (zx []) zzT
def loaded (g:Guest)(v:Int):Guest:=zbU (saw {g with A:=v} v)
@[simp] theorem zIx {g:Guest}(v:Int)(h:SmG g):SmG (loaded g v):=zkR (zLd (g:={g with A:=v}) v h)
@[simp] abbrev zlu (g:Guest)(v:Int):Bool:=pc (SmG g)
@[simp] abbrev zjs (g:Guest)(v:Int):Guest:=loaded g v
def znP:Run:=rF2 (dT .guest) dI λb c=>(zlu b c,[aT .guest<|zjs b c])
def zFI (N:Nat)(a0:Guest)(a1:Int):OA:=
 let y0:=({a0 with A:=a1}:Guest); (oN (zrM y0 a1)<|oN (zJ<|zom y0 a1)<|some [aT .guest<|zb4<|zom y0 a1])
theorem zzP (a0:Guest)(a1:Int)(hb:zbC big [aT .guest a0,aI a1])(hc:zlu a0 a1=true):∃N,zFI N a0 a1=some [aT .guest<|zjs a0 a1]:=by
 have hs:=zK.1 hc;have hz:_/\_/\_/\_:=hs;have hk:SmG (saw {a0 with A:=a1} a1):=zLd (g:={a0 with A:=a1}) a1 hs;refine⟨0,?_⟩;unfold zFI oN;conv=>zeta
 refine mu (mu ?_);first|rfl|(simp only [*,zjs,loaded,cT,cF]<;>rfl)|simp_all[Ty.cells,zjs,loaded]
theorem zJU:vJ 214 znP:=hF2 zeN zo zq zu (zx []) zzP
theorem zJs:vJ 80 znP:=hF2 zeN zo zq zu (zx []) zzP
def zpl (g:Guest)(w:Int):Guest:=bif ieq w 5 then stopped g (zvn (zb7 g.Prog g.Pc).X) else stopped g ⟨4,0,false,0⟩
@[simp] theorem z5p {g:Guest}(w:Int)(h:SmG g):SmG (zpl g w):=by unfold zpl;cases ieq w 5<;>exact h
@[simp] abbrev zlP (g:Guest)(w:Int):Bool:=pc (SmG g)
@[simp] abbrev zi4 (g:Guest)(w:Int):Guest:=zpl g w
def zxN:Run:=rF2 (dT .guest) dI λb c=>(zlP b c,[aT .guest<|zi4 b c])
def zCc (N:Nat)(a0:Guest)(a1:Int):OA:=
 let y0:=(zdj a0.Prog a0.Pc).X; (cond (ieq a1 5) (oN (zds a0.Prog a0.Pc)<|oN (zfG y0)<|oN (zcw a0<|zi6 y0)<|some [aT .guest<|zcj a0<|zi6 y0])<|oN (zcw a0 (⟨4,0,false,0⟩:GExit))<|some [aT .guest<|zcj a0 (⟨4,0,false,0⟩:GExit)])
theorem zNI (a0:Guest)(a1:Int)(hc:zlP a0 a1=true):∃N,zCc N a0 a1=some [aT .guest<|zi4 a0 a1]:=by
 have hs:=zK.1 hc;refine⟨0,?_⟩;unfold zCc oN;conv=>zeta
 refine br (λ_=>must rfl (must rfl (mu ?_))) (λ_=>mu ?_);all_goals first|rfl|(simp only [*,zi4,zpl,cT,cF]<;>rfl)|simp_all[Ty.cells,zi4,zpl]
theorem zGV:vJ 173 zxN:=kF2 zeN zo zq zu (zx []) zNI
def zdC (g:Guest):Bool:=zdr g.Prog&&(zi g.A 0 99&&(zi g.Pc 0 12&&(zcV g.Written 4 8&&(zcV g.Live 4 8&&(zk4 g.Ctl&&(zdq g.Pending&&(zh3 g.Exit&&ile (ln g.Seen) 40)))))))
@[simp] abbrev zhg (g:Guest):Bool:=zdC g
def zmk:Run:=rF1 (dT .guest) λb=>(zbk b,[aB<|zhg b])
def zCi (N:Nat)(a0:Guest):OA:=
 (oN (zrv a0.Prog)<|cond (zgU a0.Prog) (oN (zI a0.A 0 99)<|cond (zi a0.A 0 99) (oN (zI a0.Pc 0 12)<|cond (zi a0.Pc 0 12) (oN (zin a0.Written 4 8)<|cond (zep a0.Written 4 8) (oN (zin a0.Live 4 8)<|cond (zep a0.Live 4 8) (oN (zfU a0.Ctl)<|cond (zpb a0.Ctl) (oN (zbY a0.Pending)<|cond (zee a0.Pending) (oN (zrq a0.Exit)<|cond (zkJ a0.Exit) (some [aB<|ile (ln a0.Seen) 40]) oF) oF) oF) oF) oF) oF) oF) oF)
theorem zxB (a0:Guest)(hb:zbC big [aT .guest a0])(hc:zbk a0=true):∃N,zCi N a0=some [aB<|zhg a0]:=by refine⟨0,?_⟩;unfold zCi oN;refine must rfl (br (λ_=>must rfl (br (λ_=>must rfl (br (λ_=>must rfl (br (λ_=>must rfl (br (λ_=>must rfl (br (λ_=>must rfl (br (λ_=>must rfl (br (λ_=>?_) λ_=>?_)) λ_=>?_)) λ_=>?_)) λ_=>?_)) λ_=>?_)) λ_=>?_)) λ_=>?_)) λ_=>?_);all_goals first|rfl|(simp only [*,zhg,zdC,cT,cF]<;>rfl)|simp_all[Ty.cells,zhg,zdC]
theorem zGX:vJ 292 zmk:=hF1 zeN zo zq zu (zx []) zxB
theorem zGK:vJ 259 zmk:=hF1 zeN zo zq zu (zx []) zxB
@[simp] abbrev ziL (l:List Guest):Bool:=pc (zmx l)
@[simp] abbrev ziK (l:List Guest):List Guest:=l
def zsn:Run:=rF1 (dS .guest) λb=>(ziL b,[aS .guest<|ziK b])
def zuN (N:Nat)(a0:lG):OA:=
 (iter (σ:=(Int×Int×lG×lG×Unit)) N (λr2 s3=>let y0:=ix s3.2.2.2.1 s3.2.1 zn; (cond (ilt s3.2.1 s3.1) (oN (inb s3.2.1<|ln s3.2.2.2.1)<|oN (zJ y0)<|oN (few<|ln<|ap s3.2.2.1 [zcv y0])<|r2 (s3.1,zD .i64 s3.2.1 1,ap s3.2.2.1 [zcv y0],s3.2.2.2.1,()))<|some [aS .guest s3.2.2.1])) (ln a0,0,[],a0,()))
def zFa:=zx [(230,0,{n:=20,tm:=[(3,.sl 0 []),(7,.sl 1 []),(8,ti),(9,ti)],lo:=[],ro:=[(0,.guest,true),(1,.guest,false)]})]
theorem zEJ (a0:List Guest)(hc:ziL a0=true):∃N,zuN N a0=some [aS .guest<|ziK a0]:=by
 have hs:=zK.1 hc;have hl:=zct hs.1;refine zb0 λN hNN=>?_;unfold zuN oN;conv=>zeta
 refine(zbd a0 (λi (t:lG)=>(ln a0,(i:Int),t,a0,())) _ (λ_ x acc κ=>bif zJ x then (cond (few<|ln<|ap acc [zcv x]) (κ<|ap acc [zcv x]) none) else none) (λ(t:lG)=>some [.one<|.s .guest t]) (λi hi t rec=>?_) (λt rec=>?_) _ ([])<|hNN hl.1).trans ?_;{simp only [zbv hi,zY hi,zbg hi,zU hi hl.1,cT]};{simp only [zbm,cF]};exact zjc zJ zcv _ a0 0 [] (λx hx=>⟨by exact zbp (hs.2 x hx),rfl⟩) (by simpa using hl.2)
theorem zzt:vJ 230 zsn:=kF1 zeN zo zq zu zFa zEJ
def gAt (b:Bare)(i:Int):Guest:=bif hasB i (ln b.Guests) then ix b.Guests i zn else Ty.dflt .guest
@[simp] theorem zi2 {b:Bare}(i:Int)(h:SmB b):SmG (gAt b i):=by unfold gAt;cases hh:hasB i (ln b.Guests);{exact z5M};{exact zRF h.2.1 hh _}
@[simp] abbrev zul (b:Bare)(i:Int):Bool:=pc (SmB b)
@[simp] abbrev zlN (b:Bare)(i:Int):Guest:=gAt b i
@[simp] abbrev zlO (b:Bare)(i:Int):Bool:=hasB i (ln b.Guests)
def zxK:Run:=rF2 (dT .bare) dI λb c=>(zul b c,[aT .guest<|zlN b c,aB<|zlO b c])
def zB2 (N:Nat)(a0:Bare)(a1:Int):OA:=
 let y0:=ix a0.Guests a1 zn; (oN (zbl a1<|ln a0.Guests)<|cond (nB<|zcR a1<|ln a0.Guests) (some [aT .guest (⟨[],0,0,[],[],⟨0,0,false⟩,0,⟨0,0,false,0⟩,false,[]⟩:Guest),aB false])<|oN (inb a1<|ln a0.Guests)<|oN (zJ y0)<|some [aT .guest<|zcv y0,aB true])
theorem zNy (a0:Bare)(a1:Int)(hc:zul a0 a1=true):∃N,zB2 N a0 a1=some [aT .guest<|zlN a0 a1,aB<|zlO a0 a1]:=by
 have hs:=zK.1 hc;have hl:a0.Guests.length<=1048576:=hs.2.1.1;have hx:hasB a1 (ln a0.Guests)=true->SmG (ix a0.Guests a1 zn):=λh=>zRF hs.2.1 h _;refine⟨0,?_⟩;unfold zB2 oN nB;conv=>zeta
 refine must rfl (brN (λ_=>?_) λ_=>mu (mu ?_));all_goals first|rfl|(simp only [*,zlN,zlO,gAt,Ty.dflt,cT,cF]<;>rfl)|simp_all[Ty.cells,zlN,zlO,gAt,Ty.dflt]
theorem zGJ:vJ 175 zxK:=kF2 zeN zo zq zu (zx []) zNy
def z1u:zS:=[(203,ziy),(179,ziy),(201,znZ),(70,znZ),(224,zro),(174,zro),(213,zhe),(79,zhe),(214,znP),(80,znP),(173,zxN),(292,zmk),(259,zmk),(230,zsn),(175,zxK)]++z1t
theorem zii:zL z1u:=zh zyq (zh zyg<|zh zcg<|zh zJI<|zh zPY<|zh zPT<|zh zJ6<|zh zJF<|zh zJU<|zh zJs<|zh zGV<|zh zGX<|zh zGK<|zh zzt<|zh zGJ zeN)
def plainly (g:Guest):Guest:=bif ine (zG g) 2 then g else (cond (zi g.A 0 99) (cond (zi (zb7 g.Prog g.Pc).X 0 99) (cond (ieq (zb7 g.Prog g.Pc).Op 1) {zbU g with A:=(zb7 g.Prog g.Pc).X}<|cond (ieq (zb7 g.Prog g.Pc).Op 2) {zbU g with A:=zkT (zD .i64 g.A (zb7 g.Prog g.Pc).X) 100}<|cond (ieq (zb7 g.Prog g.Pc).Op 8) (cond (ieq g.A 0) {zbU g with Pc:=(zb7 g.Prog g.Pc).X}<|zbU g)<|zbU g)<|zbU g)<|zbU g)
@[simp] theorem z5F (g:Guest):(zbU g).Prog=g.Prog:=by unfold zbU;cases ige g.Pc 12<;>rfl
@[simp] theorem z6n (g:Guest):(zbU g).A=g.A:=by unfold zbU;cases ige g.Pc 12<;>rfl
@[simp] theorem z4b (g:Guest):(zbU g).Written=g.Written:=by unfold zbU;cases ige g.Pc 12<;>rfl
@[simp] theorem z5E (g:Guest):(zbU g).Live=g.Live:=by unfold zbU;cases ige g.Pc 12<;>rfl
@[simp] theorem z5T (g:Guest):(zbU g).Ctl=g.Ctl:=by unfold zbU;cases ige g.Pc 12<;>rfl
@[simp] theorem z4a (g:Guest):(zbU g).Pending=g.Pending:=by unfold zbU;cases ige g.Pc 12<;>rfl
@[simp] theorem z5D (g:Guest):(zbU g).Exit=g.Exit:=by unfold zbU;cases ige g.Pc 12<;>rfl
@[simp] theorem z4U (g:Guest):(zbU g).Halted=g.Halted:=by unfold zbU;cases ige g.Pc 12<;>rfl
@[simp] theorem z5G (g:Guest):(zbU g).Seen=g.Seen:=by unfold zbU;cases ige g.Pc 12<;>rfl
@[simp] theorem z5U (g:Guest)(x:Int):(zbU {g with A:=x}).Pc=(zbU g).Pc:=by unfold zbU;cases ige g.Pc 12<;>rfl
@[simp] theorem zDn {g:Guest}(h:SmG g):SmG (plainly g):=by have hm:=zkR h;unfold plainly;cases ine (zG g) 2;{cases zi g.A 0 99;{exact hm};{cases zi (zb7 g.Prog g.Pc).X 0 99;{exact hm};{cases ieq (zb7 g.Prog g.Pc).Op 1;{cases ieq (zb7 g.Prog g.Pc).Op 2;{cases ieq (zb7 g.Prog g.Pc).Op 8;{exact hm};{cases ieq g.A 0<;>exact hm}};{exact hm}};{exact hm}}}};{exact h}
@[simp] abbrev zhc (g:Guest):Guest:=plainly g
def zmi:Run:=rF1 (dT .guest) λb=>(zJ b,[aT .guest<|zhc b])
def zB5 (N:Nat)(a0:Guest):OA:=
 let y1:=aT .guest<|zb4 a0;let y0:=zdj a0.Prog a0.Pc; (oN (zbk a0)<|cond (ine (zgV a0) 2) (oN (zJ a0)<|some [aT .guest<|zcv a0])<|oN (zds a0.Prog a0.Pc)<|oN (zJ a0)<|oN (zI a0.A 0 99)<|cond (nB<|zi a0.A 0 99) (some [y1])<|oN (zI y0.X 0 99)<|cond (nB<|zi y0.X 0 99) (some [y1])<|cond (ieq y0.Op 1) (some [aT .guest ({ (zb4 a0) with A:=y0.X}:Guest)])<|cond (ieq y0.Op 2) (oN (ine 100 0)<|some [aT .guest ({ (zb4 a0) with A:=(zkT (zD .i64 a0.A y0.X) 100)}:Guest)])<|cond (ieq y0.Op 8) (cond (ieq a0.A 0) (some [aT .guest ({ (zb4 a0) with Pc:=y0.X}:Guest)])<|some [y1])<|some [y1])
theorem zNB (a0:Guest)(hc:zJ a0=true):∃N,zB5 N a0=some [aT .guest<|zhc a0]:=by
 have hs:=zK.1 hc;refine⟨0,?_⟩;unfold zB5 oN nB;conv=>zeta
 refine must rfl (br (λ_=>mu ?_) λ_=>must rfl (mu (must rfl (brN (λ_=>?_) λ_=>must rfl (brN (λ_=>?_) λ_=>br (λ_=>?_) λ_=>br (λ_=>must rfl ?_) λ_=>br (λ_=>br (λ_=>?_) λ_=>?_) λ_=>?_)))));all_goals first|rfl|(simp only [*,zhc,plainly,cT,cF]<;>rfl)|simp_all[Ty.cells,zhc,plainly]
theorem zGO:vJ 180 zmi:=kF1 zii zo zq zu (zx []) zNB
def zCu (N:Nat)(a0:Guest):OA:=
 let y7:=ieq a0.A 0;let y5:=zJ a0;let y1:=aT .guest<|zb4 a0;let y0:=zdj a0.Prog a0.Pc;let y8:=({a0 with A:=y0.X}:Guest);let y6:=ieq y0.Op 8;let y4:=zi y0.X 0 99;let y3:=aT .guest ({ (zcZ a0) with Pc:=y0.X}:Guest);let y2:=({a0 with A:=(zkT (zD .i64 a0.A y0.X) 100)}:Guest); (oN (zbk a0)<|cond (ine (zgV a0) 2) (oN (zdA a0)<|some [aT .guest<|zcZ a0])<|oN (zds a0.Prog a0.Pc)<|oN (zI a0.A 0 99)<|cond (zi a0.A 0 99) (oN (zI y0.X 0 99)<|cond y4 (cond (ieq y0.Op 1) (oN (zJ y8)<|some [aT .guest<|zb4 y8])<|cond y4 (cond (ieq y0.Op 2) (oN (ine 100 0)<|oN (zJ y2)<|some [aT .guest<|zb4 y2])<|cond y4 (cond y6 (cond y7 (oN (zdA a0)<|some [y3])<|oN y5<|some [y1])<|oN y5<|some [y1])<|oN y5<|some [y1])<|cond y4 (cond y6 (cond y7 (oN (zdA a0)<|some [y3])<|oN y5<|some [y1])<|oN y5<|some [y1])<|oN y5<|some [y1])<|cond y4 (cond (ieq y0.Op 2) (oN (ine 100 0)<|oN (zJ y2)<|some [aT .guest<|zb4 y2])<|cond y4 (cond y6 (cond y7 (oN (zdA a0)<|some [y3])<|oN y5<|some [y1])<|oN y5<|some [y1])<|oN y5<|some [y1])<|cond y4 (cond y6 (cond y7 (oN (zdA a0)<|some [y3])<|oN y5<|some [y1])<|oN y5<|some [y1])<|oN y5<|some [y1])<|oN y5<|some [y1])
theorem zNX (a0:Guest)(hc:zJ a0=true):∃N,zCu N a0=some [aT .guest<|zhc a0]:=by
 have hs:=zK.1 hc;have hz:_/\_/\_/\_:=hs;refine⟨0,?_⟩;unfold zCu oN;conv=>zeta
 refine must rfl (br (λ_=>mu ?_) λ_=>must rfl (must rfl (br (λ_=>must rfl (br (λ_=>br (λ_=>mu ?_) λ_=>br (λ_=>br (λ_=>must rfl (mu ?_)) λ_=>br (λ_=>br (λ_=>br (λ_=>mu ?_) λ_=>mu ?_) λ_=>mu ?_) λ_=>mu ?_) λ_=>br (λ_=>br (λ_=>br (λ_=>mu ?_) λ_=>mu ?_) λ_=>mu ?_) λ_=>mu ?_) λ_=>br (λ_=>br (λ_=>must rfl (mu ?_)) λ_=>br (λ_=>br (λ_=>br (λ_=>mu ?_) λ_=>mu ?_) λ_=>mu ?_) λ_=>mu ?_) λ_=>br (λ_=>br (λ_=>br (λ_=>mu ?_) λ_=>mu ?_) λ_=>mu ?_) λ_=>mu ?_)) λ_=>mu ?_)));all_goals first|rfl|(simp only [*,zhc,plainly,cT,cF]<;>rfl)|simp_all[Ty.cells,zhc,plainly]
theorem zHa:vJ 204 zmi:=kF1 zii zo zq zu (zx []) zNX
def address (g:Guest):Int:=bif ine (zG g) 3 then (cond (ine (zG g) 4) (-1)<|(zb7 g.Prog g.Pc).X) else (zb7 g.Prog g.Pc).X
@[simp] abbrev zgx (g:Guest):Int:=address g
def zmj:Run:=rF1 (dT .guest) λb=>(zbk b,[aI<|zgx b])
def zCd (N:Nat)(a0:Guest):OA:=
 (oN (zbk a0)<|cond (ine (zgV a0) 3) (cond (ine (zgV a0) 4) (some [aI<|-1])<|oN (zds a0.Prog a0.Pc)<|some [aI (zdj a0.Prog a0.Pc).X])<|oN (zds a0.Prog a0.Pc)<|some [aI (zdj a0.Prog a0.Pc).X])
theorem zxA (a0:Guest)(hb:zbC big [aT .guest a0])(hc:zbk a0=true):∃N,zCd N a0=some [aI<|zgx a0]:=by refine⟨0,?_⟩;unfold zCd oN;refine must rfl (br (λ_=>br (λ_=>?_) λ_=>must rfl ?_) λ_=>must rfl ?_);all_goals first|rfl|(simp only [*,zgx,address,cT,cF]<;>rfl)|simp_all[Ty.cells,zgx,address]
theorem zGW:vJ 205 zmj:=hF1 zii zo zq zu (zx []) zxA
theorem zGH:vJ 71 zmj:=hF1 zii zo zq zu (zx []) zxA
def zfm (g:Guest)(t w:Int):Guest:=bif ieq w 6 then stopped g (zrX (zb7 g.Prog g.Pc).X) else (cond (ieq w 5&&zdD t 1) (stopped g<|zvn (zb7 g.Prog g.Pc).X)<|cond (ieq w 7&&zdD t 2) (stopped g ⟨4,0,false,0⟩)<|cond (ieq w 7) (held g)<|zbU g)
def zgJ (t w:Int):Bool:=bif ieq w 6 then false else (cond (ieq w 5&&zdD t 1) false<|cond (ieq w 7&&zdD t 2) false true)
@[simp] theorem zAu {g:Guest}(t w:Int)(h:SmG g):SmG (zfm g t w):=by unfold zfm;cases ieq w 6;{cases (ieq w 5&&zdD t 1);{cases (ieq w 7&&zdD t 2);{cases ieq w 7;{exact zkR h};{exact zRE h}};{exact h}};{exact h}};{exact h}
@[simp] abbrev zea (g:Guest)(t w:Int):Bool:=pc (SmG g)
@[simp] abbrev zcd (g:Guest)(t w:Int):Guest:=zfm g t w
@[simp] abbrev zdB (g:Guest)(t w:Int):Bool:=zgJ t w
def zx1:Run:=rF3 (dT .guest) dI dI λb c d=>(zea b c d,[aT .guest<|zcd b c d,aB<|zdB b c d])
def zCF (N:Nat)(a0:Guest)(a1 a2:Int):OA:=
 let y3:=aT .guest<|zb4 a0;let y2:=aT .guest<|zjJ a0;let y1:=(⟨4,0,false,0⟩:GExit);let y0:=(zdj a0.Prog a0.Pc).X; (oN (zds a0.Prog a0.Pc)<|cond (ieq a2 6) (oN (zfG y0)<|oN (zcw a0<|zg6 y0)<|some [aT .guest<|zcj a0<|zg6 y0,aB false])<|cond (ieq a2 5) (oN (zft a1 1)<|cond (zeS a1 1) (oN (zfG y0)<|oN (zcw a0<|zi6 y0)<|some [aT .guest<|zcj a0<|zi6 y0,aB false])<|cond (ieq a2 7) (oN (zft a1 2)<|cond (zeS a1 2) (oN (zcw a0 y1)<|some [aT .guest<|zcj a0 y1,aB false])<|cond (ieq a2 7) (oN (zJ a0)<|some [y2,aB true])<|oN (zJ a0)<|some [y3,aB true])<|cond (ieq a2 7) (oN (zJ a0)<|some [y2,aB true])<|oN (zJ a0)<|some [y3,aB true])<|cond (ieq a2 7) (oN (zft a1 2)<|cond (zeS a1 2) (oN (zcw a0 y1)<|some [aT .guest<|zcj a0 y1,aB false])<|cond (ieq a2 7) (oN (zJ a0)<|some [y2,aB true])<|oN (zJ a0)<|some [y3,aB true])<|cond (ieq a2 7) (oN (zJ a0)<|some [y2,aB true])<|oN (zJ a0)<|some [y3,aB true])
theorem zN8 (a0:Guest)(a1 a2:Int)(hc:zea a0 a1 a2=true):∃N,zCF N a0 a1 a2=some [aT .guest<|zcd a0 a1 a2,aB<|zdB a0 a1 a2]:=by
 have hs:=zK.1 hc;refine⟨0,?_⟩;unfold zCF oN;conv=>zeta
 refine must rfl (br (λ_=>must rfl (mu ?_)) λ_=>br (λ_=>must rfl (br (λ_=>must rfl (mu ?_)) λ_=>br (λ_=>must rfl (br (λ_=>mu ?_) λ_=>br (λ_=>mu ?_) λ_=>mu ?_)) λ_=>br (λ_=>mu ?_) λ_=>mu ?_)) λ_=>br (λ_=>must rfl (br (λ_=>mu ?_) λ_=>br (λ_=>mu ?_) λ_=>mu ?_)) λ_=>br (λ_=>mu ?_) λ_=>mu ?_);all_goals first|rfl|(simp only [*,zcd,zdB,zfm,zgJ,cT,cF]<;>rfl)|simp_all[Ty.cells,zcd,zdB,zfm,zgJ]
theorem zHn:vJ 216 zx1:=kF3 zii zo zq zu (zx []) zN8
def zbI (b:Bare):Bool:=bif b.Guests.all zdC then (zh6 b.Memory 8&&(zi (ln b.Guests) 1 2&&(ile (ln b.Outs) 40&&zdq b.Pending))) else false
@[simp] abbrev zjr (b:Bare):Bool:=true
@[simp] abbrev zcz (b:Bare):Bool:=zbI b
def znJ:Run:=rF1 (dT .bare) λb=>(zjr b,[aB<|zcz b])
def zFA (N:Nat)(a0:Bare):OA:=
 (iter (σ:=(Int×Int×lM×lG×(List Int)×Unit)) N (λr2 s3=>let y0:=s3.2.2.2.1; (cond (ilt s3.1<|ln y0) (oN (inb s3.1<|ln y0)<|oN (zbk<|ix y0 s3.1 zn)<|cond (nB<|zhg<|ix y0 s3.1 zn) oF<|r2 (zD .i64 s3.1 1,s3.2.1,s3.2.2.1,y0,s3.2.2.2.2.1,()))<|oN (zh8 s3.2.2.1 8)<|cond (zfi s3.2.2.1 8) (oN (zI (ln y0) 1 2)<|cond (zi (ln y0) 1 2) (cond (ile (ln s3.2.2.2.2.1) 40) (oN (zbY s3.2.1)<|some [aB<|zee s3.2.1]) oF) oF) oF)) (0,a0.Pending,a0.Memory,a0.Guests,a0.Outs,()))
def zR3:=zx [(202,0,{n:=38,tm:=[(1,.lp 0 0),(3,ti)],lo:=[(0,[.sl 0 [],.sl 1 [],.sl 2 [],ti])],ro:=[(0,.sl .int,false),(1,.guest,false),(2,.int,false)]})]
theorem zQr (a0:Bare)(hb:zbC big [aT .bare a0])(hc:zjr a0=true):∃N,zFA N a0=some [aB<|zcz a0]:=by
 have hl:(_:List _).length<=big:=((zc6 hb).1 (.s .guest a0.Guests) (by simp[AV.cvs,Ty.cells])).len;refine zb0 λN hNN=>?_;unfold zFA oN nB;conv=>zeta
 refine(zbd a0.Guests (λi (t:Unit)=>((i:Int),a0.Pending,a0.Memory,a0.Guests,a0.Outs,())) _ (λ_ x (_:Unit) κ=>bif (zdC) x then κ () else oF) (λ(t:Unit)=>cond (zh8 a0.Memory 8) (cond (zfi a0.Memory 8) (cond (zI (ln a0.Guests) 1 2) (cond (zi (ln a0.Guests) 1 2) (cond (ile (ln a0.Outs) 40) (cond (zbY a0.Pending) (some [.one<|.b<|zee a0.Pending]) none) oF) oF) none) oF) none) (λi hi t rec=>?_) (λt rec=>?_) _ ()<|hNN hl).trans ?_;{simp only [zbv hi,zY hi,zbg hi,zU hi hl,cT];exact zif rfl};{simp only [zbm,cF]};rw[zgG<|zdC];refine br (λh0=>?_) (λh0=>?_);{refine must rfl ?_;refine br (λh1=>?_) (λh1=>?_);{refine must rfl ?_;refine br (λh2=>?_) (λh2=>?_);{refine br (λh3=>?_) (λh3=>?_);{refine must rfl ?_;first|rfl|(simp only [h0,h1,h2,h3,zcz,zbI,cT,cF]<;>rfl)|(simp_all [Ty.cells,zcz,zbI];done)};{first|rfl|(simp only [h0,h1,h2,h3,zcz,zbI,cT,cF]<;>rfl)|(simp_all [Ty.cells,zcz,zbI];done)}};{first|rfl|(simp only [h0,h1,h2,zcz,zbI,cT,cF]<;>rfl)|(simp_all [Ty.cells,zcz,zbI];done)}};{first|rfl|(simp only [h0,h1,zcz,zbI,cT,cF]<;>rfl)|(simp_all [Ty.cells,zcz,zbI];done)}};{first|rfl|(simp only [h0,zcz,zbI,cT,cF]<;>rfl)|(simp_all [Ty.cells,zcz,zbI];done)}
theorem zJM:vJ 202 znJ:=hF1 zii zo zq zu zR3 zQr
def zFh (N:Nat)(a0:Bare):OA:=
 (iter (σ:=(Int×Int×Int×lG×lM×(List Int)×Unit)) N (λr2 s3=>let y0:=s3.2.2.2.1;let y1:=ix y0 s3.2.1 zn; (cond (ilt s3.2.1 s3.1) (oN (inb s3.2.1<|ln y0)<|oN (zbk y1)<|cond (nB<|zhg y1) oF<|r2 (s3.1,zD .i64 s3.2.1 1,s3.2.2.1,y0,s3.2.2.2.2.1,s3.2.2.2.2.2.1,()))<|oN (zh8 s3.2.2.2.2.1 8)<|cond (zfi s3.2.2.2.2.1 8) (oN (zI (ln y0) 1 2)<|cond (zi (ln y0) 1 2) (cond (ile (ln s3.2.2.2.2.2.1) 40) (oN (zbY s3.2.2.1)<|some [aB<|zee s3.2.2.1]) oF) oF) oF)) (ln a0.Guests,0,a0.Pending,a0.Guests,a0.Memory,a0.Outs,()))
def zRV:=zx [(176,0,{n:=36,tm:=[(1,.lp 0 0),(6,.sl 0 []),(7,ti),(8,ti)],lo:=[(0,[.sl 1 [],.sl 0 [],.sl 2 [],ti])],ro:=[(0,.guest,false),(1,.sl .int,false),(2,.int,false)]})]
theorem zP8 (a0:Bare)(hb:zbC big [aT .bare a0])(hc:zjr a0=true):∃N,zFh N a0=some [aB<|zcz a0]:=by
 have hl:(_:List _).length<=big:=((zc6 hb).1 (.s .guest a0.Guests) (by simp[AV.cvs,Ty.cells])).len;refine zb0 λN hNN=>?_;unfold zFh oN nB;conv=>zeta
 refine(zbd a0.Guests (λi (t:Unit)=>(ln a0.Guests,(i:Int),a0.Pending,a0.Guests,a0.Memory,a0.Outs,())) _ (λ_ x (_:Unit) κ=>bif (zdC) x then κ () else oF) (λ(t:Unit)=>cond (zh8 a0.Memory 8) (cond (zfi a0.Memory 8) (cond (zI (ln a0.Guests) 1 2) (cond (zi (ln a0.Guests) 1 2) (cond (ile (ln a0.Outs) 40) (cond (zbY a0.Pending) (some [.one<|.b<|zee a0.Pending]) none) oF) oF) none) oF) none) (λi hi t rec=>?_) (λt rec=>?_) _ ()<|hNN hl).trans ?_;{simp only [zbv hi,zY hi,zbg hi,zU hi hl,cT];exact zif rfl};{simp only [zbm,cF]};rw[zgG<|zdC];refine br (λh0=>?_) (λh0=>?_);{refine must rfl ?_;refine br (λh1=>?_) (λh1=>?_);{refine must rfl ?_;refine br (λh2=>?_) (λh2=>?_);{refine br (λh3=>?_) (λh3=>?_);{refine must rfl ?_;first|rfl|(simp only [h0,h1,h2,h3,zcz,zbI,cT,cF]<;>rfl)|(simp_all [Ty.cells,zcz,zbI];done)};{first|rfl|(simp only [h0,h1,h2,h3,zcz,zbI,cT,cF]<;>rfl)|(simp_all [Ty.cells,zcz,zbI];done)}};{first|rfl|(simp only [h0,h1,h2,zcz,zbI,cT,cF]<;>rfl)|(simp_all [Ty.cells,zcz,zbI];done)}};{first|rfl|(simp only [h0,h1,zcz,zbI,cT,cF]<;>rfl)|(simp_all [Ty.cells,zcz,zbI];done)}};{first|rfl|(simp only [h0,zcz,zbI,cT,cF]<;>rfl)|(simp_all [Ty.cells,zcz,zbI];done)}
theorem zJk:vJ 176 znJ:=hF1 zii zo zq zu zRV zP8
@[simp] abbrev zch (b:Bare):Bool:=pc (SmB b)
@[simp] abbrev zbu (b:Bare):Bare:=b
def zlj:Run:=rF1 (dT .bare) λb=>(zch b,[aT .bare<|zbu b])
def zyB (N:Nat)(a0:Bare):OA:=
 (oN (zge a0.Memory)<|oN (ziL a0.Guests)<|oN (zdN a0.Outs)<|some [aT .bare (⟨zdJ a0.Memory,ziK a0.Guests,zdM a0.Outs,a0.Pending⟩:Bare)])
theorem zKt (a0:Bare)(hc:zch a0=true):∃N,zyB N a0=some [aT .bare<|zbu a0]:=by have hs:=zK.1 hc;have hz:_/\_/\_:=hs;refine⟨0,?_⟩;unfold zyB oN;refine mu (mu<|mu ?_);first|rfl|(simp only [*,zbu,cT,cF]<;>rfl)|simp_all[Ty.cells,zbu]
theorem zEb:vJ 177 zlj:=kF1 zii zo zq zu (zx []) zKt
def zCE (N:Nat)(a0:Bare):OA:=
 (oN (zgk a0.Memory)<|oN (zfW a0.Guests)<|oN (few<|ln<|ap [] a0.Outs)<|some [aT .bare (⟨zeT a0.Memory,zgm a0.Guests,ap [] a0.Outs,a0.Pending⟩:Bare)])
theorem zN7 (a0:Bare)(hc:zch a0=true):∃N,zCE N a0=some [aT .bare<|zbu a0]:=by have hs:=zK.1 hc;have hz:_/\_/\_:=hs;refine⟨0,?_⟩;unfold zCE oN;refine mu (mu<|mu ?_);first|rfl|(simp only [*,zbu,cT,cF]<;>rfl)|simp_all[Ty.cells,zbu]
theorem zHm:vJ 199 zlj:=kF1 zii zo zq zu (zx []) zN7
def z1v:zS:=[(204,zmi),(180,zmi),(205,zmj),(71,zmj),(216,zx1),(202,znJ),(176,znJ),(177,zlj),(199,zlj)]++z1u
theorem zDQ:zL z1v:=zh zHa (zh zGO<|zh zGW<|zh zGH<|zh zHn<|zh zJM<|zh zJk<|zh zEb<|zh zHm zii)
def zdP (b:Bare)(i:Int)(x:Guest):Bare:={b with Guests:=up b.Guests i x}
def zqw (b:Bare)(i:Int)(x:Guest):Bare:=bif hasB i (ln b.Guests) then zdP b i x else b
def ziT (b:Bare)(n:Int):Bare:=bif ilt (ln b.Outs) 40 then {b with Outs:=ap b.Outs [n]} else b
@[simp] theorem zmS {b:Bare}{i:Int}{x:Guest}(h:SmB b)(hx:SmG x):SmB (zdP b i x):=⟨h.1,zA6 h.2.1 hx,h.2.2⟩
@[simp] theorem zIv {b:Bare}{n:Int}(h:SmB b):SmB (ziT b n):=by unfold ziT;cases h1:ilt (ln b.Outs) 40;{exact h};{have:=qD h1;refine⟨h.1,h.2.1,?_⟩;simp[ln] at *;omega}
@[simp] theorem z6i (b:Bare)(n:Int):(ziT b n).Guests=b.Guests:=by unfold ziT;cases ilt (ln b.Outs) 40<;>rfl
@[simp] theorem zw4 {m:List (List Int)}{p c v:Int}(h:SmM m):SmM (zbB m p c v):=by unfold zbB;cases h1:zf0 m p c;{exact h};{cases h2:zi v 0 99;{exact h};{exact zIz h (by simpa using z5h h ((zwO m p c).1 h1).1 [])}}
@[simp] abbrev zcs (b:Bare)(i:Int)(x:Guest):Bool:=pc (SmB b/\SmG x)
@[simp] abbrev zdS (b:Bare)(i:Int)(x:Guest):Bare:=zqw b i x
def zty:Run:=rF3 (dT .bare) dI (dT .guest) λb c d=>(zcs b c d,[aT .bare<|zdS b c d])
def zxg (N:Nat)(a0:Bare)(a1:Int)(a2:Guest):OA:=
 (oN (zch a0)<|oN (zbl a1<|ln a0.Guests)<|cond (zcR a1<|ln a0.Guests) (oN (zJ a2)<|oN (inb a1<|ln (zbu a0).Guests)<|share (up (zbu a0).Guests a1<|zcv a2) λx4=>some [aT .bare ({ (zbu a0) with Guests:=x4}:Bare)])<|some [aT .bare<|zbu a0])
theorem zHH (a0:Bare)(a1:Int)(a2:Guest)(hc:zcs a0 a1 a2=true):∃N,zxg N a0 a1 a2=some [aT .bare<|zdS a0 a1 a2]:=by have hs:=zK.1 hc;refine⟨0,?_⟩;unfold zxg oN;refine mu (must rfl (br (λ_=>mu (mu<|shr ?_)) λ_=>?_));all_goals first|rfl|(simp only [*,zdS,zqw,zdP,cT,cF]<;>rfl)|simp_all[Ty.cells,zdS,zqw,zdP]
theorem zBg:vJ 178 zty:=kF3 zDQ zo zq zu (zx []) zHH
@[simp] abbrev zfE (b:Bare)(n:Int):Bool:=pc (SmB b)
@[simp] abbrev zoU (b:Bare)(n:Int):Bare:=ziT b n
def zAa:Run:=rF2 (dT .bare) dI λb c=>(zfE b c,[aT .bare<|zoU b c])
def zFs (N:Nat)(a0:Bare)(a1:Int):OA:=
 (oN (zch a0)<|cond (ilt (ln a0.Outs) 40) (oN (few<|ln<|ap (zbu a0).Outs [a1])<|some [aT .bare ({ (zbu a0) with Outs:=(ap (zbu a0).Outs [a1])}:Bare)])<|some [aT .bare<|zbu a0])
theorem zQj (a0:Bare)(a1:Int)(hc:zfE a0 a1=true):∃N,zFs N a0 a1=some [aT .bare<|zoU a0 a1]:=by have hs:=zK.1 hc;have hz:a0.Outs.length<=1048576:=hs.2.2;refine⟨0,?_⟩;unfold zFs oN;refine mu (br (λ_=>mu ?_) λ_=>?_);all_goals first|rfl|(simp only [*,zoU,ziT,cT,cF]<;>rfl)|simp_all[Ty.cells,zoU,ziT]
theorem zJB:vJ 184 zAa:=kF2 zDQ zo zq zu (zx []) zQj
def zU8:zS:=[(178,zty),(184,zAa)]++z1v
theorem zmC:zL zU8:=zh zBg (zh zJB zDQ)
def zj5 (b:Bare)(g:Int)(x:Guest)(w:Bool):Bare :=
 bif zet x.Live (zbc<|address x) (zbW w) then
  (bif w then zdP {b with Memory:=zbB b.Memory (zb2 x.Live (zbc<|address x)<|zbW w) (zdd<|address x) x.A} g (zbU x)
  else zdP b g (loaded x<|cellAt b.Memory (zb2 x.Live (zbc<|address x)<|zbW w)<|zdd<|address x))
 else zdP b g (stopped x<|zqb (zbc<|address x) w)
def zpi (b:Bare)(g:Int)(x:Guest)(w:Int):Bare :=
 zdP (cond (cond (zgJ x.Ctl.Traps w) (ieq w 5) false) (ziT b (zb7 x.Prog x.Pc).X) b) g (zfm x x.Ctl.Traps w)
def stepped (b:Bare)(g:Int)(x:Guest)(w:Int):Bare :=
 bif ieq w 1 then zdP b g (interrupted x) else (cond (ieq w 2) (zdP b g<|plainly x)<|cond (ieq w 3) (zj5 b g x false)<|cond (ieq w 4) (zj5 b g x true)<|zpi b g x w)
theorem tr1 (x:Guest)(t w:Int):ieq w 6=true->zfm x t w=stopped x (zrX (zb7 x.Prog x.Pc).X)/\zgJ t w=false:=by intro h;simp[zfm,zgJ,h]
theorem tr2 (x:Guest)(t w:Int):ieq w 6=false->(ieq w 5=false->ieq w 6=false->ieq w 7=true)->zdD t (zfl w)=true->zfm x t w=zpl x w/\zgJ t w=false:=by intro h6 h7 h;unfold zfm zgJ zpl zfl at *;cases h5:ieq w 5<;>simp_all
theorem tr3 (x:Guest)(t w:Int):ieq w 6=false->ieq w 7=false->zdD t (zfl w)=false->ieq w 5=true->zfm x t w=zbU x/\zgJ t w=true:=by intro h6 h7 h h5;unfold zfm zgJ zfl at *;simp_all
theorem tr4 (x:Guest)(t w:Int):ieq w 6=false->(ieq w 5=false->ieq w 6=false->ieq w 7=true)->zdD t (zfl w)=false->ieq w 5=false->zfm x t w=held x:=by intro h6 h7 h h5;unfold zfm zfl at *;simp_all
def zf3 (b:Bare)(g:Int):Bool:=bif hasB g (ln b.Guests) then (cond (zbI b) (!ieq (zG<|gAt b g) 0) false) else false
def zd0 (b:Bare)(g:Int):Bare:=bif zf3 b g then stepped b g (gAt b g) (zG<|gAt b g) else b
@[simp] theorem zUs {b:Bare}{g:Int}{x:Guest}{w:Bool}(h:SmB b)(hx:SmG x):SmB (zj5 b g x w):=by unfold zj5;cases zet x.Live (zbc<|address x) (zbW w);{exact zmS h hx};{cases w;{exact zmS h (zIx _ hx)};{exact⟨zw4 h.1,zA6 h.2.1<|zkR hx,h.2.2⟩}}
@[simp] theorem z3U {b:Bare}{g:Int}{x:Guest}{w:Int}(h:SmB b)(hx:SmG x):SmB (zpi b g x w):=by unfold zpi;cases (cond (zgJ x.Ctl.Traps w) (ieq w 5) false);{exact zmS h (zAu _ _ hx)};{exact zmS (zIv h) (zAu _ _ hx)}
@[simp] theorem zTx {b:Bare}{g:Int}{x:Guest}{w:Int}(h:SmB b)(hx:SmG x):SmB (stepped b g x w):=by unfold stepped;cases ieq w 1;{cases ieq w 2;{cases ieq w 3;{cases ieq w 4;{exact z3U h hx};{exact zUs h hx}};{exact zUs h hx}};{exact zmS h (zDn hx)}};{exact zmS h (zUt hx)}
@[simp] theorem z6k {b:Bare}{g:Int}(h:SmB b):SmB (zd0 b g):=by unfold zd0;cases zf3 b g;{exact h};{exact zTx h (zi2 g h)}
theorem zWE (x:Guest):ieq (zG x) 0=false->ieq (zG x) 1=false->ieq (zG x) 2=false->ieq (zG x) 3=false->ieq (zG x) 4=false->ieq (zG x) 5=false->ieq (zG x) 6=false->ieq (zG x) 7=true:=by unfold zG zvm;cases canRun x;{intro h;cases h};{cases zit x;{simp only [cT,cF];generalize (zb7 x.Prog x.Pc).Op=o;cases ieq o 3<;>cases ieq o 4<;>cases ieq o 5<;>cases ieq o 6<;>cases ieq o 7<;>simp [ieq]};{intro _ h;cases h}}
theorem zT4 {x:Int}{a b:Int}(h:ieq x a=true)(hab:ieq a b=false):ieq x b=false:=by have:x=a:=(by simpa [ieq] using h);rw[this];exact hab
@[simp] abbrev zc1 (b:Bare)(g:Int):Bool:=pc (SmB b)
@[simp] abbrev ziI (b:Bare)(g:Int):Bare:=zd0 b g
@[simp] abbrev znt (b:Bare)(g:Int):Bool:=zf3 b g
def zo5:Run:=rF2 (dT .bare) dI λb c=>(zc1 b c,[aT .bare<|ziI b c,aB<|znt b c])
def zyv (N:Nat)(a0:Bare)(a1:Int):OA:=
 let y21:=a0.Memory;let y12:=aT .bare<|zbu a0;let y0:=zlN a0 a1;let y20:=y0.Ctl.Traps;let y18:=aT .bare<|zdS a0 a1<|zjJ y0;let y6:=zgV y0;let y15:=aT .bare<|zdS a0 a1<|zi4 y0 y6;let y4:=zgx y0;let y16:=zcX y4;let y10:=zbN y4;let y3:=ieq y6 4;let y8:=zeY y10 y3;let y13:=aT .bare<|zdS a0 a1<|zcj y0 y8;let y2:=(zdj y0.Prog y0.Pc).X;let y19:=zcs (zoU a0 y2) a1<|zb4 y0;let y11:=aT .bare<|zdS (zoU a0 y2) a1<|zb4 y0;let y9:=zcj y0<|zg6 y2;let y1:=zew y0.Live y10<|zcP y3;let y7:=zf7 y21 y1 y16;let y14:=aT .bare<|zdS a0 a1<|zjs y0 y7;let y5:=({a0 with Memory:=(ze7 y21 y1 y16 y0.A)}:Bare);let y17:=aT .bare<|zdS y5 a1<|zb4 y0; (oN (zul a0 a1)<|oN (zbk y0)<|oN (zjr a0)<|cond (nB<|zcz a0) (oN (zch a0)<|some [y12,aB false])<|cond (nB<|zlO a0 a1) (oN (zch a0)<|some [y12,aB false])<|cond (ieq y6 0) (oN (zch a0)<|some [y12,aB false])<|oN (zbk y0)<|oN (zds y0.Prog y0.Pc)<|cond (ieq y6 1) (oN (zJ y0)<|oN (zcs a0 a1<|zez y0)<|some [aT .bare<|zdS a0 a1<|zez y0,aB true])<|cond (ieq y6 2) (oN (zJ y0)<|oN (zcs a0 a1<|zhc y0)<|some [aT .bare<|zdS a0 a1<|zhc y0,aB true])<|cond (ieq y6 3) (cond (ieq y6 3) (oN (zbJ y4)<|oN (zju y3)<|oN (zgM y0.Live y10<|zcP y3)<|cond (nB<|zd3 y0.Live y10<|zcP y3) (oN (zbJ y4)<|oN (zgR y10 y3)<|oN (zcw y0 y8)<|oN (zcs a0 a1<|zcj y0 y8)<|some [y13,aB true])<|cond y3 (oN (zbJ y4)<|oN (zeZ y21 y1 y16 y0.A)<|oN (zJ y0)<|oN (zcs y5 a1<|zb4 y0)<|some [y17,aB true])<|oN (zbJ y4)<|oN (ze8 y21 y1 y16)<|oN (zlu y0 y7)<|oN (zcs a0 a1<|zjs y0 y7)<|some [y14,aB true])<|cond (ieq y6 6) (oN (zfG y2)<|oN (zcw y0<|zg6 y2)<|oN (zcs a0 a1 y9)<|some [aT .bare<|zdS a0 a1 y9,aB true])<|oN (znv y6)<|oN (zft y20<|zhF y6)<|cond (zeS y20<|zhF y6) (oN (zlP y0 y6)<|oN (zcs a0 a1<|zi4 y0 y6)<|some [y15,aB true])<|cond (ieq y6 5) (oN (zfE a0 y2)<|oN (zJ y0)<|oN y19<|some [y11,aB true])<|oN (zJ y0)<|oN (zcs a0 a1<|zjJ y0)<|some [y18,aB true])<|cond y3 (oN (zbJ y4)<|oN (zju y3)<|oN (zgM y0.Live y10<|zcP y3)<|cond (nB<|zd3 y0.Live y10<|zcP y3) (oN (zbJ y4)<|oN (zgR y10 y3)<|oN (zcw y0 y8)<|oN (zcs a0 a1<|zcj y0 y8)<|some [y13,aB true])<|cond y3 (oN (zbJ y4)<|oN (zeZ y21 y1 y16 y0.A)<|oN (zJ y0)<|oN (zcs y5 a1<|zb4 y0)<|some [y17,aB true])<|oN (zbJ y4)<|oN (ze8 y21 y1 y16)<|oN (zlu y0 y7)<|oN (zcs a0 a1<|zjs y0 y7)<|some [y14,aB true])<|cond (ieq y6 6) (oN (zfG y2)<|oN (zcw y0<|zg6 y2)<|oN (zcs a0 a1 y9)<|some [aT .bare<|zdS a0 a1 y9,aB true])<|oN (znv y6)<|oN (zft y20<|zhF y6)<|cond (zeS y20<|zhF y6) (oN (zlP y0 y6)<|oN (zcs a0 a1<|zi4 y0 y6)<|some [y15,aB true])<|cond (ieq y6 5) (oN (zfE a0 y2)<|oN (zJ y0)<|oN y19<|some [y11,aB true])<|oN (zJ y0)<|oN (zcs a0 a1<|zjJ y0)<|some [y18,aB true])
theorem zKn (a0:Bare)(a1:Int)(hc:zc1 a0 a1=true):∃N,zyv N a0 a1=some [aT .bare<|ziI a0 a1,aB<|znt a0 a1]:=by
 have hs:=zK.1 hc;have hx:=zi2 a1 hs;have hz:_/\_/\_:=hs;have hg:a0.Guests.length<=1048576:=hs.2.1.1;have hw7:=zWE (gAt a0 a1);have h34:ieq (zG<|gAt a0 a1) 3=true->ieq (zG<|gAt a0 a1) 4=false:=λh=>zT4 h rfl;have h57:ieq (zG<|gAt a0 a1) 5=true->ieq (zG<|gAt a0 a1) 7=false:=λh=>zT4 h rfl;have t1:=tr1 (gAt a0 a1) (gAt a0 a1).Ctl.Traps (zG<|gAt a0 a1);have t2:=tr2 (gAt a0 a1) (gAt a0 a1).Ctl.Traps (zG<|gAt a0 a1);have t3:=tr3 (gAt a0 a1) (gAt a0 a1).Ctl.Traps (zG<|gAt a0 a1);have t4:=tr4 (gAt a0 a1) (gAt a0 a1).Ctl.Traps (zG<|gAt a0 a1);have hp:∀n,SmB (ziT a0 n):=λn=>zIv hs;refine⟨0,?_⟩;unfold zyv oN nB;conv=>zeta
 refine mu (must rfl (must rfl (brN (λ_=>mu ?_) λ_=>brN (λ_=>mu ?_) λ_=>br (λ_=>mu ?_) λ_=>must rfl (must rfl (br (λ_=>mu (mu ?_)) λ_=>br (λ_=>mu (mu ?_)) λ_=>br (λ_=>br (λ_=>must rfl (must rfl (must rfl (brN (λ_=>must rfl (must rfl (mu<|mu ?_))) λ_=>br (λ_=>must rfl (mu<|mu<|mu ?_)) λ_=>must rfl (must rfl (mu<|mu ?_)))))) λ_=>br (λ_=>must rfl (mu<|mu ?_)) λ_=>must rfl (must rfl (br (λ_=>mu (mu ?_)) λ_=>br (λ_=>mu (mu<|mu ?_)) λ_=>mu (mu ?_)))) λ_=>br (λ_=>must rfl (must rfl (must rfl (brN (λ_=>must rfl (must rfl (mu<|mu ?_))) λ_=>br (λ_=>must rfl (mu<|mu<|mu ?_)) λ_=>must rfl (must rfl (mu<|mu ?_)))))) λ_=>br (λ_=>must rfl (mu<|mu ?_)) λ_=>must rfl (must rfl (br (λ_=>mu (mu ?_)) λ_=>br (λ_=>mu (mu<|mu ?_)) λ_=>mu (mu ?_))))))));all_goals first|rfl|(simp only [*,ziI,znt,zd0,zf3,stepped,zj5,zpi,zqw,zbW,cT,cF]<;>rfl)|simp_all[Ty.cells,ziI,znt,zd0,zf3,stepped,zj5,zpi,zqw,zbW]
theorem zr9:vJ 83 zo5:=kF2 zmC zo zq zu (zx []) zKn
def SmK (k:Kept):Prop:=k.Known.length<=1048576/\k.Slots.length<=1048576
def zy4 (l:List Kept):Prop:=l.length<=1048576/\∀x∈l,SmK x
def zfY (m:Mon):Prop:=m.Outer.length<=1048576/\SmM m.Out/\m.Dirty.length<=1048576/\zmx m.Guests/\m.Outs.length<=1048576/\zy4 m.Tables
def zp3 (l:List Mon):Prop:=l.length<=1048576/\∀x∈l,zfY x
def SmH (h:Host):Prop:=SmM h.Memory/\zp3 h.Mons/\h.Buffer.length<=1048576/\h.IoBuffer.length<=1048576
@[simp] theorem zuW (k:Kept):(∀c∈Ty.cells .kept k,CVB sm c)↔SmK k:=by simp[Ty.cells,SmK,z0y]
@[simp] theorem zZB (l:List Kept):CVB sm (.s .kept l)↔zy4 l:=by rw[zk6];simp only[zuW];rfl
@[simp] theorem zTO (m:Mon):(∀c∈Ty.cells .mon m,CVB sm c)↔zfY m:=by simp only[Ty.cells,qI,qW,or_false,vG,forall_eq,zoO,zta,zZB,zVi,zSz,zSy,z1O,and_true,true_and];rfl
@[simp] theorem z3b (l:List Mon):CVB sm (.s .mon l)↔zp3 l:=by rw[zk6];simp only[zTO];rfl
@[simp] theorem zM (h:Host):zcJ h↔SmH h:=by unfold zcJ;simp only[zbf,qI,qW,or_false,vG,forall_eq,zoO,z3b,zPx];rfl
theorem zbe {p:Prop}(h:p):pc p=true:=zbp h
theorem zvS {l:List Kept}{i:Int}{x:Kept}(h:zy4 l)(hx:SmK x):zy4 (up l i x):=by refine⟨by simpa using h.1,λy hy=>?_⟩;rcases qZ hy with hy|rfl;{exact h.2 y hy};{exact hx}
theorem zja {l:List Mon}{i:Int}{x:Mon}(h:zp3 l)(hx:zfY x):zp3 (up l i x):=by refine⟨by simpa using h.1,λy hy=>?_⟩;rcases qZ hy with hy|rfl;{exact h.2 y hy};{exact hx}
theorem zmZ {α:Type}{l:List α}(h:l.length<=1048576):few (ln<|ap [] l)=true:=by rw[zlM,z3j];omega
@[simp] abbrev zba (h:Host):Bool:=pc (zcJ h)
@[simp] abbrev zk (h:Host):Host:=h
def zmr:Run:=rF1 dH λb=>(zba b,[aH<|zk b])
def zCG (N:Nat)(a0:Host):OA:=
 (oN (zgk a0.Memory)<|oN (few<|ln<|ap [] a0.Buffer)<|oN (few<|ln<|ap [] a0.IoBuffer)<|iter (σ:=(Int×lM×lN×lE×lE×lM×lN×lE×lE×lM×lN×lE×lE×Unit)) N (λr2 s3=>let y2:=s3.2.2.2.2.2.2.2.2.2.2.2.2.1;let y1:=ix s3.2.2.1 s3.1 zf;let y0:=ap s3.2.2.2.2.2.2.2.2.2.2.1 [zmP y1]; (cond (ilt s3.1<|ln s3.2.2.1) (oN (inb s3.1<|ln s3.2.2.1)<|oN (zjx y1)<|oN (few<|ln y0)<|r2 (zD .i64 s3.1 1,s3.2.1,s3.2.2.1,s3.2.2.2.1,s3.2.2.2.2.1,s3.2.2.2.2.2.1,s3.2.2.2.2.2.2.1,s3.2.2.2.2.2.2.2.1,s3.2.2.2.2.2.2.2.2.1,s3.2.2.2.2.2.2.2.2.2.1,y0,s3.2.2.2.2.2.2.2.2.2.2.2.1,y2,()))<|some [aH (⟨s3.2.2.2.2.2.2.2.2.2.1,s3.2.2.2.2.2.2.2.2.2.2.1,s3.2.2.2.2.2.2.2.2.2.2.2.1,y2⟩:Host)])) (0,a0.Memory,a0.Mons,a0.Buffer,a0.IoBuffer,[],[],[],[],zeT a0.Memory,[],ap [] a0.Buffer,ap [] a0.IoBuffer,()))
def zOs:=zx [(317,0,{n:=36,tm:=[(1,.lp 0 0),(2,.lp 1 0),(3,.lp 2 0),(4,ti)],lo:=[(0,[.sl 0 [],.sl 1 [],.sl 2 [],.sl 3 []]),(1,[.sl 4 [],.sl 5 [],.sl 6 [],.sl 7 []]),(2,[.sl 8 [],.sl 9 [],.sl 10 [],.sl 11 []])],ro:=[(0,.sl .int,false),(1,.mon,false),(2,.entry,false),(3,.entry,false),(4,.sl .int,true),(5,.mon,true),(6,.entry,true),(7,.entry,true),(8,.sl .int,true),(9,.mon,true),(10,.entry,true),(11,.entry,true)]})]
theorem zN9 (a0:Host)(hc:zba a0=true):∃N,zCG N a0=some [aH<|zk a0]:=by
 obtain⟨h1,h2,h3,h4⟩:=(zM a0).1 (zK.1 hc);have hl:=zct h2.1;refine zb0 λN hNN=>?_;unfold zCG oN;conv=>zeta
 refine must (zbe<|(zoO _).2 h1) (must (zmZ h3)<|must (zmZ h4) ?_);refine(zbd a0.Mons (λi (t:lN)=>((i:Int),a0.Memory,a0.Mons,a0.Buffer,a0.IoBuffer,[],[],[],[],zeT a0.Memory,t,ap [] a0.Buffer,ap [] a0.IoBuffer,())) _ (λ_ x acc κ=>bif zjx x then (cond (few<|ln<|ap acc [zmP x]) (κ<|ap acc [zmP x]) none) else none) (λ(t:lN)=>some [.agg<|zbf (⟨zeT a0.Memory,t,ap [] a0.Buffer,ap [] a0.IoBuffer⟩:Host)]) (λi hi t rec=>?_) (λt rec=>?_) _ ([])<|hNN hl.1).trans ?_;{simp only [zbv hi,zY hi,zbg hi,zU hi hl.1,cT]};{simp only [zbm,cF]};exact zjc zjx zmP _ a0.Mons 0 [] (λx hx=>⟨zbe<|(zTO x).2 (h2.2 x hx),rfl⟩) (by simpa using hl.2)
theorem zHo:vJ 317 zmr:=kF1 zmC zo zq zu zOs zN9
@[simp] abbrev zem (k:Kept):Bool:=pc (SmK k)
@[simp] abbrev zdp (k:Kept):Kept:=k
def zvx:Run:=rF1 (dT .kept) λb=>(zem b,[aT .kept<|zdp b])
def zyE (N:Nat)(a0:Kept):OA:=
 (oN (few<|ln<|ap [] a0.Known)<|oN (zgN a0.Slots)<|some [aT .kept (⟨ap [] a0.Known,zfq a0.Slots⟩:Kept)])
theorem zKw (a0:Kept)(hc:zem a0=true):∃N,zyE N a0=some [aT .kept<|zdp a0]:=by have hs:=zK.1 hc;obtain⟨h1,h2⟩:=hs;have hs1:a0.Known.length<=2147483648:=(by omega);have hs2:a0.Slots.length<=2147483648:=(by omega);refine⟨0,?_⟩;unfold zyE oN;refine mu (mu ?_);first|rfl|(simp only [*,zdp,cT,cF]<;>rfl)|simp_all[Ty.cells,zdp]
theorem zEe:vJ 236 zvx:=kF1 zmC zo zq zu (zx []) zKw
def z1i:zS:=[(317,zmr),(236,zvx)]++zU8
theorem zPk:zL z1i:=zh zHo (zh zEe zmC)
@[simp] abbrev zjT (m:Mon):Bool:=pc (zfY m)
@[simp] abbrev zks (m:Mon):Mon:=m
def zxM:Run:=rF1 (dT .mon) λb=>(zjT b,[aT .mon<|zks b])
def zCa (N:Nat)(a0:Mon):OA:=
 (oN (zgN a0.Outer)<|oN (zge a0.Out)<|oN (few<|ln<|ap [] a0.Dirty)<|oN (ziL a0.Guests)<|oN (zdN a0.Outs)<|iter (σ:=(Int×Int×Int×Int×Int×Int×Int×Int×lK×lK×lS×lM×lB×lG×(List Int)×lS×lM×lB×lG×(List Int)×lK×Unit)) N (λr2 s3=>let y5:=s3.2.2.2.2.2.2.2.2.2.2.2.2.1;let y4:=s3.2.2.2.2.2.2.2.2.2.2.2.2.2.1;let y3:=s3.2.2.2.2.2.2.2.2.2.2.2.2.2.2.1;let y2:=s3.2.2.2.2.2.2.2.2.1;let y1:=s3.2.2.2.2.2.2.2.2.2.1;let y0:=ix y1 s3.2.1 ze2; (cond (ilt s3.2.1 s3.1) (oN (inb s3.2.1<|ln y1)<|oN (zem y0)<|oN (few<|ln<|ap y2 [zdp y0])<|r2 (s3.1,zD .i64 s3.2.1 1,s3.2.2.1,s3.2.2.2.1,s3.2.2.2.2.1,s3.2.2.2.2.2.1,s3.2.2.2.2.2.2.1,s3.2.2.2.2.2.2.2.1,ap y2 [zdp y0],y1,s3.2.2.2.2.2.2.2.2.2.2.1,s3.2.2.2.2.2.2.2.2.2.2.2.1,y5,y4,y3,s3.2.2.2.2.2.2.2.2.2.2.2.2.2.2.2.1,s3.2.2.2.2.2.2.2.2.2.2.2.2.2.2.2.2.1,s3.2.2.2.2.2.2.2.2.2.2.2.2.2.2.2.2.2.1,s3.2.2.2.2.2.2.2.2.2.2.2.2.2.2.2.2.2.2.1,s3.2.2.2.2.2.2.2.2.2.2.2.2.2.2.2.2.2.2.2.1,s3.2.2.2.2.2.2.2.2.2.2.2.2.2.2.2.2.2.2.2.2.1,()))<|some [aT .mon (⟨s3.2.2.2.2.2.2.2.2.2.2.1,s3.2.2.2.2.2.2.2.2.2.2.2.1,y5,y4,y3,s3.2.2.1,s3.2.2.2.1,y2,s3.2.2.2.2.1⟩:Mon)])) (ln a0.Tables,0,a0.Pending,a0.Traps,a0.Own,0,0,0,[],a0.Tables,zfq a0.Outer,zdJ a0.Out,ap [] a0.Dirty,ziK a0.Guests,zdM a0.Outs,[],[],[],[],[],[],()))
def zOl:=zx [(145,0,{n:=44,tm:=[(1,.lp 0 0),(2,.lp 1 0),(3,.sl 0 []),(29,.sl 1 []),(30,ti),(31,ti)],lo:=[(0,[.sl 2 [],.sl 3 [],.sl 4 [],.sl 5 [],.sl 6 [],ti,ti,.sl 1 [],ti]),(1,[.sl 7 [],.sl 8 [],.sl 9 [],.sl 10 [],.sl 11 [],ti,ti,.sl 12 [],ti])],ro:=[(0,.kept,true),(1,.kept,false),(2,.slot,true),(3,.sl .int,true),(4,.bool,true),(5,.guest,true),(6,.int,true),(7,.slot,true),(8,.sl .int,true),(9,.bool,true),(10,.guest,true),(11,.int,true),(12,.kept,true)]})]
theorem zNG (a0:Mon)(hc:zjT a0=true):∃N,zCa N a0=some [aT .mon<|zks a0]:=by
 obtain⟨h1,h2,h3,h4,h5,h6⟩:=zK.1 hc;have hl:=zct h6.1;refine zb0 λN hNN=>?_;unfold zCa oN;conv=>zeta
 have c1:zgN a0.Outer=true:=(by simp;omega);have c2:zge a0.Out=true:=(by simp;exact h2);have c4:ziL a0.Guests=true:=(by simp;exact h4);have c5:zdN a0.Outs=true:=(by simp;omega);refine must c1 (must c2<|must (zmZ h3)<|must c4<|must c5 ?_);refine(zbd a0.Tables (λi (t:lK)=>(ln a0.Tables,(i:Int),a0.Pending,a0.Traps,a0.Own,0,0,0,t,a0.Tables,zfq a0.Outer,zdJ a0.Out,ap [] a0.Dirty,ziK a0.Guests,zdM a0.Outs,[],[],[],[],[],[],())) _ (λ_ x acc κ=>bif zem x then (cond (few<|ln<|ap acc [zdp x]) (κ<|ap acc [zdp x]) none) else none) (λ(t:lK)=>some [.agg<|Ty.cells .mon (⟨zfq a0.Outer,zdJ a0.Out,ap [] a0.Dirty,ziK a0.Guests,zdM a0.Outs,a0.Pending,a0.Traps,t,a0.Own⟩:Mon)]) (λi hi t rec=>?_) (λt rec=>?_) _ ([])<|hNN hl.1).trans ?_;{simp only [zbv hi,zY hi,zbg hi,zU hi hl.1,cT]};{simp only [zbm,cF]};exact zjc zem zdp _ a0.Tables 0 [] (λx hx=>⟨zbe<|h6.2 x hx,rfl⟩) (by simpa using hl.2)
theorem zGT:vJ 145 zxM:=kF1 zPk zo zq zu zOl zNG
def z1j:zS:=[(145,zxM)]++z1i
theorem zwd:zL z1j:=zh zGT zPk
def zyC (N:Nat)(a0:Host):OA:=
 (oN (zge a0.Memory)<|oN (few<|ln<|ap [] a0.Buffer)<|oN (few<|ln<|ap [] a0.IoBuffer)<|iter (σ:=(Int×Int×lN×lM×lN×lE×lE×lM×lN×lE×lE×Unit)) N (λr2 s3=>let y1:=ix s3.2.2.1 s3.2.1 zf;let y0:=ap s3.2.2.2.2.2.2.2.2.1 [zks y1]; (cond (ilt s3.2.1 s3.1) (oN (inb s3.2.1<|ln s3.2.2.1)<|oN (zjT y1)<|oN (few<|ln y0)<|r2 (s3.1,zD .i64 s3.2.1 1,s3.2.2.1,s3.2.2.2.1,s3.2.2.2.2.1,s3.2.2.2.2.2.1,s3.2.2.2.2.2.2.1,s3.2.2.2.2.2.2.2.1,y0,s3.2.2.2.2.2.2.2.2.2.1,s3.2.2.2.2.2.2.2.2.2.2.1,()))<|some [aH (⟨s3.2.2.2.2.2.2.2.1,s3.2.2.2.2.2.2.2.2.1,s3.2.2.2.2.2.2.2.2.2.1,s3.2.2.2.2.2.2.2.2.2.2.1⟩:Host)])) (ln a0.Mons,0,a0.Mons,[],[],[],[],zdJ a0.Memory,[],ap [] a0.Buffer,ap [] a0.IoBuffer,()))
def zLk:=zx [(49,0,{n:=34,tm:=[(2,.lp 0 0),(3,.lp 1 0),(19,.sl 0 []),(20,ti),(21,ti)],lo:=[(0,[.sl 1 [],.sl 2 [],.sl 3 [],.sl 4 []]),(1,[.sl 5 [],.sl 6 [],.sl 7 [],.sl 8 []])],ro:=[(0,.mon,false),(1,.sl .int,true),(2,.mon,true),(3,.entry,true),(4,.entry,true),(5,.sl .int,true),(6,.mon,true),(7,.entry,true),(8,.entry,true)]})]
theorem zKu (a0:Host)(hc:zba a0=true):∃N,zyC N a0=some [aH<|zk a0]:=by
 obtain⟨h1,h2,h3,h4⟩:=(zM a0).1 (zK.1 hc);have hl:=zct h2.1;refine zb0 λN hNN=>?_;unfold zyC oN;conv=>zeta
 have c1:zge a0.Memory=true:=(by simp;exact h1);refine must c1 (must (zmZ h3)<|must (zmZ h4) ?_);refine(zbd a0.Mons (λi (t:lN)=>(ln a0.Mons,(i:Int),a0.Mons,[],[],[],[],zdJ a0.Memory,t,ap [] a0.Buffer,ap [] a0.IoBuffer,())) _ (λ_ x acc κ=>bif zjT x then (cond (few<|ln<|ap acc [zks x]) (κ<|ap acc [zks x]) none) else none) (λ(t:lN)=>some [.agg<|zbf (⟨zdJ a0.Memory,t,ap [] a0.Buffer,ap [] a0.IoBuffer⟩:Host)]) (λi hi t rec=>?_) (λt rec=>?_) _ ([])<|hNN hl.1).trans ?_;{simp only [zbv hi,zY hi,zbg hi,zU hi hl.1,cT]};{simp only [zbm,cF]};exact zjc zjT zks _ a0.Mons 0 [] (λx hx=>⟨zbe<|h2.2 x hx,rfl⟩) (by simpa using hl.2)
theorem zEc:vJ 49 zmr:=kF1 zwd zo zq zu zLk zKu
def allI {α:Type}(p:Nat->α->Bool):List α->Nat->Bool
 |[],_=>true
 |x::l,i=>p i x&&allI p l (i+1)
theorem zDX {α ρ:Type}(p:Nat->α->Bool)(r:Option ρ)(K:Unit->Option ρ):∀(l:List α) (i:Nat),goL (λi x (_:Unit) k=>bif p i x then k () else r) K l i ()=bif allI p l i then K () else r
 |[],_=>rfl
 |x::l,i=>by simp only[goL,allI];cases p i x;{rfl};{simp only [cT,uI];exact zDX p r K l (i+1)}
theorem zLY {α:Type}(q:α->Bool)(l:List α)(d:α):∀(n i:Nat),i+n<=l.length->zng (λj=>q (ix l (j:Int) d)) n i=((l.drop i).take n).all q
 | 0,i,_=>by simp[zng]
 |n+1,i,h=>by have hi:i<l.length:=(by omega);rw[j7 hi,List.take_succ_cons,kU,<- zLY q l d n (i+1) (by omega)];simp only[zng,zbg hi]
def sameKey (a b:Entry):Bool:=bif ieq a.Tag b.Tag then ieq a.Page b.Page else false
def alone (l:List Entry)(i:Nat)(x:Entry):Bool:=(l.take i).all λy=>!sameKey x y
def zfA (l:List Entry):Bool:=bif allI (alone l) l 0 then ile (ln l) 6 else false
theorem zZO {α:Type}{l:List α}{i:Nat}(h:i<=l.length):inr 0 (i:Int) (ln l)=true:=qJ (by simp only[ln];omega)
@[simp] abbrev zhE (l:List Entry):Bool:=true
@[simp] abbrev zg4 (l:List Entry):Bool:=zfA l
def zli:Run:=rF1 (dS .entry) λb=>(zhE b,[aB<|zg4 b])
def zyw (N:Nat)(a0:lE):OA:=
 (iter (σ:=(Int×Int×lE×Unit)) N (λr2 s3=>let y3:=s3.2.2.1;let y1:=ix y3 s3.2.1 zfR; (cond (ilt s3.2.1 s3.1) (oN (inb s3.2.1<|ln y3)<|oN (inr 0 s3.2.1<|ln y3)<|iter (σ:=(Int×Int×Int×Int×Int×Int×Int×Int×lE×lE×Unit)) N (λr4 s5=>let y4:=s5.2.2.2.1;let y2:=s5.2.2.2.2.2.2.2.2.2.1;let y0:=r4 (s5.1,s5.2.1,s5.2.2.1,zD .i64 y4 1,s5.2.2.2.2.1,s5.2.2.2.2.2.1,s5.2.2.2.2.2.2.1,s5.2.2.2.2.2.2.2.1,s5.2.2.2.2.2.2.2.2.1,y2,()); (cond (ilt y4 s5.2.2.1) (oN (inb y4<|ln y2)<|cond (ieq s5.2.2.2.2.1 (ix y2 y4 zfR).Tag) (cond (ieq s5.2.2.2.2.2.1 (ix y2 y4 zfR).Page) oF y0) y0)<|r2 (s5.1,zD .i64 s5.2.1 1,s5.2.2.2.2.2.2.2.2.1,()))) (s3.1,s3.2.1,ln<|tk y3 s3.2.1,0,y1.Tag,y1.Page,y1.Host,y1.Rights,y3,tk y3 s3.2.1,()))<|some [aB<|ile (ln y3) 6])) (ln a0,0,a0,()))
def zLj:=zx [(147,0,{n:=39,tm:=[(0,.sl 0 []),(7,.sl 0 []),(8,ti),(9,ti)],lo:=[],ro:=[(0,.entry,false)]}),(147,2,{n:=39,tm:=[(0,.sl 0 []),(4,.lp 0 0),(7,.sl 0 []),(8,ti),(9,ti),(16,.sl 1 []),(17,ti),(18,ti)],lo:=[(0,[ti,ti,ti,ti])],ro:=[(0,.entry,false),(1,.entry,false)]})]
theorem zKo (a0:List Entry)(hb:zbC big [aS .entry a0])(hc:zhE a0=true):∃N,zyw N a0=some [aB<|zg4 a0]:=by
 have hl:=len0 hb;refine zb0 λN hNN=>?_;unfold zyw oN;conv=>zeta
 refine(zbd a0 (λi (t:Unit)=>(ln a0,(i:Int),a0,())) _ (λi (x:Entry) (_:Unit) κ=>bif alone a0 i x then κ () else oF) (λ(t:Unit)=>some [.one<|.b<|ile (ln a0) 6]) (λi hi t rec=>?_) (λt rec=>?_) _ ()<|hNN hl).trans ?_;{simp only [zbv hi,zY hi,zbg hi,zU hi hl,cT];rw[zZO<|Nat.le_of_lt hi,cT];have hk:(tk a0 (i:Int)).length<=big:=jB (by simp[tk];omega) hl;refine(zbd (tk a0 (i:Int)) (λj (u:Unit)=>(ln a0,(i:Int),ln<|tk a0 (i:Int),(j:Int),a0[i].Tag,a0[i].Page,a0[i].Host,a0[i].Rights,a0,tk a0 (i:Int),())) _ (λ_ (y:Entry) (_:Unit) κ=>bif !sameKey a0[i] y then κ () else oF) (λ(u:Unit)=>rec (ln a0,((i+1:Nat):Int),a0,())) (λj hj u rec1=>?_) (λu rec1=>?_) _ ()<|hNN hk).trans ?_;{simp only [zbv hj,zY hj,zbg hj,zU hj hk,cT,zU hi hl];unfold sameKey;cases ieq a0[i].Tag (tk a0 (i:Int))[j].Tag<;>cases ieq a0[i].Page (tk a0 (i:Int))[j].Page<;>rfl};{simp only [zbm,cF,zU hi hl]};rw[zgG λy=>!sameKey a0[i] y];rfl};{simp only [zbm,cF]};rw[zDX<|alone a0];unfold zg4 zfA;cases allI (alone a0) a0 0<;>rfl
theorem zD3:vJ 147 zli:=hF1 zwd zo zq zu zLj zKo
def zyK (N:Nat)(a0:lE):OA:=
 (iter (σ:=(Int×lE×Unit)) N (λr2 s3=>cond (ilt s3.1<|ln s3.2.1) (iter (σ:=(Int×Int×lE×Unit)) N (λr4 s5=>let y0:=s5.2.2.1;let y2:=ix y0 s5.2.1 zfR;let y1:=r4 (s5.1,zD .i64 s5.2.1 1,y0,()); (cond (ilt s5.2.1 s5.1) (oN (inb s5.1<|ln y0)<|oN (inb s5.2.1<|ln y0)<|cond (ieq (ix y0 s5.1 zfR).Tag y2.Tag) (oN (inb s5.1<|ln y0)<|oN (inb s5.2.1<|ln y0)<|cond (ieq (ix y0 s5.1 zfR).Page y2.Page) oF y1) y1)<|r2 (zD .i64 s5.1 1,y0,()))) (s3.1,0,s3.2.1,()))<|some [aB<|ile (ln s3.2.1) 6]) (0,a0,()))
def zLm:=zx [(400,0,{n:=43,tm:=[(0,.sl 0 []),(3,ti)],lo:=[],ro:=[(0,.entry,false)]}),(400,2,{n:=43,tm:=[(0,.sl 0 []),(3,ti),(4,ti)],lo:=[],ro:=[(0,.entry,false)]})]
theorem zKA (a0:List Entry)(hb:zbC big [aS .entry a0])(hc:zhE a0=true):∃N,zyK N a0=some [aB<|zg4 a0]:=by
 have hl:=len0 hb;refine zb0 λN hNN=>?_;unfold zyK oN;conv=>zeta
 refine(zbd a0 (λi (t:Unit)=>((i:Int),a0,())) _ (λi (x:Entry) (_:Unit) κ=>bif alone a0 i x then κ () else oF) (λ(t:Unit)=>some [.one<|.b<|ile (ln a0) 6]) (λi hi t rec=>?_) (λt rec=>?_) _ ()<|hNN hl).trans ?_;{simp only [zbv hi,zY hi,zbg hi,zU hi hl,cT];refine(zsf i (λ(j:Nat) (_:Unit)=>((i:Int),(j:Int),a0,())) _ (λj (_:Unit) κ=>bif !sameKey a0[i] (ix a0 (j:Int) zfR) then κ () else oF) (λ_=>rec (((i+1:Nat):Int),a0,())) (λj hj u rec1=>?_) (λu rec1=>?_) _ ()<|hNN (by omega)).trans ?_;{have hj2:j<a0.length:=(by omega);simp only[show ilt (j:Int) (i:Int)=true from qJ (by omega),zY hi,zY hj2,zbg hi,zU hj2 hl,cT];unfold sameKey;cases ieq a0[i].Tag (ix a0 (j:Int) zfR).Tag<;>cases ieq a0[i].Page (ix a0 (j:Int) zfR).Page<;>rfl};{simp only [show ilt (i:Int) (i:Int)=false from qG (by omega),zU hi hl,cF]};rw[zAV λj=>!sameKey a0[i] (ix a0 (j:Int) zfR),zLY (λy=>!sameKey a0[i] y) a0 _ i 0 (by omega)];rfl};{simp only [zbm,cF]};rw[zDX<|alone a0];unfold zg4 zfA;cases allI (alone a0) a0 0<;>rfl
theorem zEi:vJ 400 zli:=hF1 zwd zo zq zu zLm zKA
def z1k:zS:=[(49,zmr),(400,zli),(147,zli)]++z1j
theorem zDM:zL z1k:=zh zEc (zh zEi<|zh zD3 zwd)
theorem zKj (a b:Int):igt a b = !ile a b:=by unfold igt ile;by_cases h:a<=b;{rw [qJ h,qG (by omega)];rfl};{rw [qG h,qJ (by omega)];rfl}
theorem stB {c M:Bool}{E:OA}(h:c=true->E=some [AV.one<|.b M]):(cond (cond c false true) (some [AV.one<|.b false]) E)=some [AV.one<|.b<|cond c M false]:=by cases c;{rfl};{exact h rfl}
theorem stI {a b:Int}{M:Bool}{E:OA}(h:ieq a b=true->E=some [AV.one<|.b M]):(cond (ine a b) (some [AV.one<|.b false]) E)=some [AV.one<|.b<|cond (ieq a b) M false]:=by rw[zjU];cases hh:ieq a b;{rfl};{exact h hh}
theorem stG {a b:Int}{M:Bool}{E:OA}(h:ile a b=true->E=some [AV.one<|.b M]):(cond (igt a b) (some [AV.one<|.b false]) E)=some [AV.one<|.b<|cond (ile a b) M false]:=by rw[zKj];cases hh:ile a b;{rfl};{exact h hh}
def zlf (s:Slot)(p:List Int):Bool:=bif zcT s noSlot then zcn p else (cond (enough s.Rights 1) (ile (ln p) 0) false)
def fits (m:Mon)(j:Nat):Bool:=zlf (ix m.Outer (j:Int) zO) (ix m.Out (j:Int) [])
def zeG (m:Mon):Bool:=bif zi (ln m.Guests) 1 2 then (cond (ieq (ln m.Tables)<|ln m.Guests) (cond (zcV m.Outer 8 12) (cond (ieq (ln m.Out) 8) (cond (ieq (ln m.Dirty) 8) (cond (ile (ln m.Outs) 40) (cond (zdq m.Pending) (cond (zi m.Traps 0 3) (cond (zi m.Own 0 1000000000) (cond (m.Guests.all zdC) (zng (fits m) 8 0) false) false) false) false) false) false) false) false) false) else false
theorem zqv {t:List Slot}{n p:Int}(h:zcV t n p=true):ln t=n:=by unfold zcV at h;cases h1:t.all (λs=>zdV s p);{rw [h1]at h;cases h};{rw [h1]at h;exact qD h}
@[simp] abbrev zh5 (m:Mon):Bool:=true
@[simp] abbrev ziJ (m:Mon):Bool:=zeG m
def zpH:Run:=rF1 (dT .mon) λb=>(zh5 b,[aB<|ziJ b])
def zLF (N:Nat)(a0:Mon):OA:=
 let y5:=ln a0.Guests; (oN (zI y5 1 2)<|cond (nB<|zi y5 1 2) oF<|cond (ine (ln a0.Tables) y5) oF<|oN (zin a0.Outer 8 12)<|cond (nB<|zep a0.Outer 8 12) oF<|cond (ine (ln a0.Out) 8) oF<|cond (ine (ln a0.Dirty) 8) oF<|cond (igt (ln a0.Outs) 40) oF<|oN (zbY a0.Pending)<|cond (nB<|zee a0.Pending) oF<|oN (zI a0.Traps 0 3)<|cond (nB<|zi a0.Traps 0 3) oF<|oN (zI a0.Own 0 1000000000)<|cond (nB<|zi a0.Own 0 1000000000) oF<|iter (σ:=(Int×Int×Int×Int×Int×lG×lS×lM×lB×(List Int)×lK×Unit)) N (λr2 s3=>let y6:=s3.2.2.2.2.2.2.1;let y3:=s3.2.2.2.2.2.1;let y7:=ix y3 s3.2.1 zn; (cond (ilt s3.2.1 s3.1) (oN (inb s3.2.1<|ln y3)<|oN (zbk y7)<|cond (nB<|zhg y7) oF<|r2 (s3.1,zD .i64 s3.2.1 1,s3.2.2.1,s3.2.2.2.1,s3.2.2.2.2.1,y3,y6,s3.2.2.2.2.2.2.2.1,s3.2.2.2.2.2.2.2.2.1,s3.2.2.2.2.2.2.2.2.2.1,s3.2.2.2.2.2.2.2.2.2.2.1,()))<|iter (σ:=(Int×Int×Int×Int×Int×lS×lM×lB×lG×(List Int)×lK×Unit)) N (λr4 s5=>let y4:=s5.2.1;let y2:=s5.2.2.2.2.2.2.1;let y1:=ix s5.2.2.2.2.2.1 y4 zO;let y0:=r4 (s5.1,zD .i64 y4 1,s5.2.2.1,s5.2.2.2.1,s5.2.2.2.2.1,s5.2.2.2.2.2.1,y2,s5.2.2.2.2.2.2.2.1,s5.2.2.2.2.2.2.2.2.1,s5.2.2.2.2.2.2.2.2.2.1,s5.2.2.2.2.2.2.2.2.2.2.1,()); (cond (ilt y4 s5.1) (oN (inb y4<|ln s5.2.2.2.2.2.1)<|oN zbE<|cond (cond (ieq y1.Page zW.Page) (ieq y1.Rights zW.Rights) false) (oN (inb y4<|ln y2)<|oN (zdu<|ix y2 y4 [])<|cond (nB<|zcQ<|ix y2 y4 []) oF y0)<|oN (zbl y1.Rights 1)<|cond (nB<|zcE y1.Rights 1) oF<|oN (inb y4<|ln y2)<|cond (igt (ln<|ix y2 y4 []) 0) oF y0) oT)) (ln y6,0,s3.2.2.1,s3.2.2.2.1,s3.2.2.2.2.1,y6,s3.2.2.2.2.2.2.2.1,s3.2.2.2.2.2.2.2.2.1,y3,s3.2.2.2.2.2.2.2.2.2.1,s3.2.2.2.2.2.2.2.2.2.2.1,()))) (y5,0,a0.Pending,a0.Traps,a0.Own,a0.Guests,a0.Outer,a0.Out,a0.Dirty,a0.Outs,a0.Tables,()))
def zTz:=zx [(148,0,{n:=106,tm:=[(1,.lp 0 0),(64,.sl 0 []),(65,ti),(66,ti)],lo:=[(0,[.sl 1 [],.sl 2 [],.sl 3 [],.sl 0 [],.sl 4 [],ti,ti,.sl 5 [],ti])],ro:=[(0,.guest,false),(1,.slot,false),(2,.sl .int,false),(3,.bool,false),(4,.int,false),(5,.kept,false)]}),(148,2,{n:=106,tm:=[(1,.lp 0 0),(75,.sl 0 []),(76,ti),(77,ti)],lo:=[(0,[.sl 0 [],.sl 1 [],.sl 2 [],.sl 3 [],.sl 4 [],ti,ti,.sl 5 [],ti])],ro:=[(0,.slot,false),(1,.sl .int,false),(2,.bool,false),(3,.guest,false),(4,.int,false),(5,.kept,false)]})]
theorem zST (a0:Mon)(hb:zbC big [aT .mon a0])(hc:zh5 a0=true):∃N,zLF N a0=some [aB<|ziJ a0]:=by
 have hg:a0.Guests.length<=big:=((zc6 hb).1 (.s .guest a0.Guests) (by simp[AV.cvs,Ty.cells])).len;have ho:a0.Outer.length<=big:=((zc6 hb).1 (.s .slot a0.Outer) (by simp[AV.cvs,Ty.cells])).len;refine zb0 λN hNN=>?_;unfold zLF ziJ zeG oN nB;conv=>zeta
 refine must rfl (stB λh0=>stI λh1=>must rfl (stB λh2=>stI λh3=>stI λh4=>stG λh5=>must rfl (stB λh6=>must rfl (stB λh7=>must rfl (stB λh8=>?_)))));have e1:=zqv h2;have e3:ln a0.Out=8:=qD h3;simp only[ln] at e1 e3;refine(zbd a0.Guests (λi (t:Unit)=>(ln a0.Guests,(i:Int),a0.Pending,a0.Traps,a0.Own,a0.Guests,a0.Outer,a0.Out,a0.Dirty,a0.Outs,a0.Tables,())) _ (λ_ (x:Guest) (_:Unit) κ=>bif zdC x then κ () else oF) (λ(t:Unit)=>iter (σ:=(Int×Int×Int×Int×Int×lS×lM×lB×lG×(List Int)×lK×Unit)) N (λr4 s5=>cond (ilt s5.2.1 s5.1) (cond (inb s5.2.1<|ln s5.2.2.2.2.2.1) (cond zbE (cond (cond (ieq (ix s5.2.2.2.2.2.1 s5.2.1 zO).Page zW.Page) (ieq (ix s5.2.2.2.2.2.1 s5.2.1 zO).Rights zW.Rights) false) (cond (inb s5.2.1<|ln s5.2.2.2.2.2.2.1) (cond (zdu<|ix s5.2.2.2.2.2.2.1 s5.2.1 []) (cond (cond (zcQ<|ix s5.2.2.2.2.2.2.1 s5.2.1 []) false true) oF<|r4 (s5.1,zD .i64 s5.2.1 1,s5.2.2.1,s5.2.2.2.1,s5.2.2.2.2.1,s5.2.2.2.2.2.1,s5.2.2.2.2.2.2.1,s5.2.2.2.2.2.2.2.1,s5.2.2.2.2.2.2.2.2.1,s5.2.2.2.2.2.2.2.2.2.1,s5.2.2.2.2.2.2.2.2.2.2.1,())) none) none)<|cond (zbl (ix s5.2.2.2.2.2.1 s5.2.1 zO).Rights 1) (cond (cond (zcE (ix s5.2.2.2.2.2.1 s5.2.1 zO).Rights 1) false true) oF<|cond (inb s5.2.1<|ln s5.2.2.2.2.2.2.1) (cond (igt (ln<|ix s5.2.2.2.2.2.2.1 s5.2.1 []) 0) oF<|r4 (s5.1,zD .i64 s5.2.1 1,s5.2.2.1,s5.2.2.2.1,s5.2.2.2.2.1,s5.2.2.2.2.2.1,s5.2.2.2.2.2.2.1,s5.2.2.2.2.2.2.2.1,s5.2.2.2.2.2.2.2.2.1,s5.2.2.2.2.2.2.2.2.2.1,s5.2.2.2.2.2.2.2.2.2.2.1,())) none) none) none) none)<|some [.one<|.b true]) (ln a0.Outer,0,a0.Pending,a0.Traps,a0.Own,a0.Outer,a0.Out,a0.Dirty,a0.Guests,a0.Outs,a0.Tables,())) (λi hi t rec=>?_) (λt rec=>?_) _ ()<|hNN hg).trans ?_;{simp only [zbv hi,zY hi,zbg hi,zU hi hg,cT];simp only[zbk,zhg,cT];cases zdC a0.Guests[i]<;>rfl};{simp only [zbm,cF]};rw[zgG zdC];cases a0.Guests.all zdC;{rfl};simp only[cT];refine(zbd a0.Outer (λj (u:Unit)=>(ln a0.Outer,(j:Int),a0.Pending,a0.Traps,a0.Own,a0.Outer,a0.Out,a0.Dirty,a0.Guests,a0.Outs,a0.Tables,())) _ (λj (_:Slot) (_:Unit) κ=>bif fits a0 j then κ () else oF) (λ(u:Unit)=>some [.one<|.b true]) (λj hj u rec1=>?_) (λu rec1=>?_) _ ()<|hNN ho).trans ?_;{simp only [zbv hj,zY hj,zbg hj,zU hj ho,cT];have hj2:j<a0.Out.length:=(by omega);simp only[zbE,zW,zdu,zcQ,zbl,zcE,zY hj2,zKj,cT];unfold fits zlf;simp only[zbg hj,zcT];cases ieq a0.Outer[j].Page noSlot.Page<;>cases ieq a0.Outer[j].Rights noSlot.Rights<;>cases enough a0.Outer[j].Rights 1<;>cases ile (ln<|ix a0.Out (j:Int) []) 0<;>cases zcn (ix a0.Out (j:Int) [])<;>rfl};{simp only [zbm,cF]};rw[zu4 λj (_:Unit) κ=>bif fits a0 j then κ () else oF,zAV<|fits a0,show a0.Outer.length=8 by omega];cases zng (fits a0) 8 0<;>rfl
theorem zM9:vJ 148 zpH:=hF1 zDM zo zq zu zTz zST
def zLQ (N:Nat)(a0:Mon):OA:=
 (oN (zI (ln a0.Guests) 1 2)<|cond (nB<|zi (ln a0.Guests) 1 2) oF<|cond (ine (ln a0.Tables)<|ln a0.Guests) oF<|oN (zin a0.Outer 8 12)<|cond (nB<|zep a0.Outer 8 12) oF<|cond (ine (ln a0.Out) 8) oF<|cond (ine (ln a0.Dirty) 8) oF<|iter (σ:=(Int×Int×Int×Int×lS×lM×lB×lG×(List Int)×lK×Unit)) N (λr2 s3=>let y3:=s3.2.2.2.2.2.2.2.1; (cond (ilt s3.1<|ln y3) (oN (inb s3.1<|ln y3)<|oN (zbk<|ix y3 s3.1 zn)<|cond (nB<|zhg<|ix y3 s3.1 zn) oF<|r2 (zD .i64 s3.1 1,s3.2.1,s3.2.2.1,s3.2.2.2.1,s3.2.2.2.2.1,s3.2.2.2.2.2.1,s3.2.2.2.2.2.2.1,y3,s3.2.2.2.2.2.2.2.2.1,s3.2.2.2.2.2.2.2.2.2.1,()))<|iter (σ:=(Int×Int×Int×Int×lS×lM×lB×lG×(List Int)×lK×Unit)) N (λr4 s5=>let y7:=s5.2.2.2.2.1;let y4:=inb s5.1<|ln s5.2.2.2.2.2.1;let y2:=ix s5.2.2.2.2.2.1 s5.1 [];let y1:=ix y7 s5.1 zO;let y6:=ieq y1.Rights zW.Rights;let y5:=ieq y1.Page zW.Page;let y0:=r4 (zD .i64 s5.1 1,s5.2.1,s5.2.2.1,s5.2.2.2.1,y7,s5.2.2.2.2.2.1,s5.2.2.2.2.2.2.1,s5.2.2.2.2.2.2.2.1,s5.2.2.2.2.2.2.2.2.1,s5.2.2.2.2.2.2.2.2.2.1,()); (cond (ilt s5.1 8) (oN (inb s5.1<|ln y7)<|oN zbE<|cond (nB<|cond y5 y6 false) (oN y4<|cond (igt (ln y2) 0) oF<|oN (inb s5.1<|ln y7)<|oN (zbl y1.Rights 1)<|cond (nB<|zcE y1.Rights 1) oF<|cond (nB<|nB<|cond y5 y6 false) (oN y4<|oN (zdu y2)<|cond (nB<|zcQ y2) oF y0) y0)<|cond (nB<|nB<|cond y5 y6 false) (oN y4<|oN (zdu y2)<|cond (nB<|zcQ y2) oF y0) y0)<|cond (ile (ln s5.2.2.2.2.2.2.2.2.1) 40) (oN (zbY s5.2.1)<|cond (zee s5.2.1) (oN (zI s5.2.2.1 0 3)<|cond (zi s5.2.2.1 0 3) (oN (zI s5.2.2.2.1 0 1000000000)<|some [aB<|zi s5.2.2.2.1 0 1000000000]) oF) oF) oF)) (0,s3.2.1,s3.2.2.1,s3.2.2.2.1,s3.2.2.2.2.1,s3.2.2.2.2.2.1,s3.2.2.2.2.2.2.1,y3,s3.2.2.2.2.2.2.2.2.1,s3.2.2.2.2.2.2.2.2.2.1,()))) (0,a0.Pending,a0.Traps,a0.Own,a0.Outer,a0.Out,a0.Dirty,a0.Guests,a0.Outs,a0.Tables,()))
def zTB:=zx [(401,0,{n:=115,tm:=[(1,.lp 0 0),(3,ti)],lo:=[(0,[.sl 0 [],.sl 1 [],.sl 2 [],.sl 3 [],.sl 4 [],ti,ti,.sl 5 [],ti])],ro:=[(0,.slot,false),(1,.sl .int,false),(2,.bool,false),(3,.guest,false),(4,.int,false),(5,.kept,false)]}),(401,2,{n:=115,tm:=[(1,.lp 0 0),(4,ti)],lo:=[(0,[.sl 0 [],.sl 1 [],.sl 2 [],.sl 3 [],.sl 4 [],ti,ti,.sl 5 [],ti])],ro:=[(0,.slot,false),(1,.sl .int,false),(2,.bool,false),(3,.guest,false),(4,.int,false),(5,.kept,false)]})]
theorem zS3 (a0:Mon)(hb:zbC big [aT .mon a0])(hc:zh5 a0=true):∃N,zLQ N a0=some [aB<|ziJ a0]:=by
 have hg:a0.Guests.length<=big:=((zc6 hb).1 (.s .guest a0.Guests) (by simp[AV.cvs,Ty.cells])).len;refine zb0 λN hNN=>?_;unfold zLQ ziJ zeG oN nB;conv=>zeta
 refine must rfl (stB λh0=>stI λh1=>must rfl (stB λh2=>stI λh3=>stI λh4=>?_));have e1:=zqv h2;have e3:ln a0.Out=8:=qD h3;simp only[ln] at e1 e3;refine(zbd a0.Guests (λi (t:Unit)=>((i:Int),a0.Pending,a0.Traps,a0.Own,a0.Outer,a0.Out,a0.Dirty,a0.Guests,a0.Outs,a0.Tables,())) _ (λ_ (x:Guest) (_:Unit) κ=>bif zdC x then κ () else oF) (λ(t:Unit)=>iter (σ:=(Int×Int×Int×Int×lS×lM×lB×lG×(List Int)×lK×Unit)) N (λr4 s5=>cond (ilt s5.1 8) (cond (inb s5.1<|ln s5.2.2.2.2.1) (cond zbE (cond (cond (cond (ieq (ix s5.2.2.2.2.1 s5.1 zO).Page zW.Page) (ieq (ix s5.2.2.2.2.1 s5.1 zO).Rights zW.Rights) false) false true) (cond (inb s5.1<|ln s5.2.2.2.2.2.1) (cond (igt (ln<|ix s5.2.2.2.2.2.1 s5.1 []) 0) oF<|cond (inb s5.1<|ln s5.2.2.2.2.1) (cond (zbl (ix s5.2.2.2.2.1 s5.1 zO).Rights 1) (cond (cond (zcE (ix s5.2.2.2.2.1 s5.1 zO).Rights 1) false true) oF<|cond (cond (cond (cond (ieq (ix s5.2.2.2.2.1 s5.1 zO).Page zW.Page) (ieq (ix s5.2.2.2.2.1 s5.1 zO).Rights zW.Rights) false) false true) false true) (cond (inb s5.1<|ln s5.2.2.2.2.2.1) (cond (zdu<|ix s5.2.2.2.2.2.1 s5.1 []) (cond (cond (zcQ<|ix s5.2.2.2.2.2.1 s5.1 []) false true) oF<|r4 (zD .i64 s5.1 1,s5.2.1,s5.2.2.1,s5.2.2.2.1,s5.2.2.2.2.1,s5.2.2.2.2.2.1,s5.2.2.2.2.2.2.1,s5.2.2.2.2.2.2.2.1,s5.2.2.2.2.2.2.2.2.1,s5.2.2.2.2.2.2.2.2.2.1,())) none) none)<|r4 (zD .i64 s5.1 1,s5.2.1,s5.2.2.1,s5.2.2.2.1,s5.2.2.2.2.1,s5.2.2.2.2.2.1,s5.2.2.2.2.2.2.1,s5.2.2.2.2.2.2.2.1,s5.2.2.2.2.2.2.2.2.1,s5.2.2.2.2.2.2.2.2.2.1,())) none) none) none)<|cond (cond (cond (cond (ieq (ix s5.2.2.2.2.1 s5.1 zO).Page zW.Page) (ieq (ix s5.2.2.2.2.1 s5.1 zO).Rights zW.Rights) false) false true) false true) (cond (inb s5.1<|ln s5.2.2.2.2.2.1) (cond (zdu<|ix s5.2.2.2.2.2.1 s5.1 []) (cond (cond (zcQ<|ix s5.2.2.2.2.2.1 s5.1 []) false true) oF<|r4 (zD .i64 s5.1 1,s5.2.1,s5.2.2.1,s5.2.2.2.1,s5.2.2.2.2.1,s5.2.2.2.2.2.1,s5.2.2.2.2.2.2.1,s5.2.2.2.2.2.2.2.1,s5.2.2.2.2.2.2.2.2.1,s5.2.2.2.2.2.2.2.2.2.1,())) none) none)<|r4 (zD .i64 s5.1 1,s5.2.1,s5.2.2.1,s5.2.2.2.1,s5.2.2.2.2.1,s5.2.2.2.2.2.1,s5.2.2.2.2.2.2.1,s5.2.2.2.2.2.2.2.1,s5.2.2.2.2.2.2.2.2.1,s5.2.2.2.2.2.2.2.2.2.1,())) none) none)<|cond (ile (ln s5.2.2.2.2.2.2.2.2.1) 40) (cond (zbY s5.2.1) (cond (zee s5.2.1) (cond (zI s5.2.2.1 0 3) (cond (zi s5.2.2.1 0 3) (cond (zI s5.2.2.2.1 0 1000000000) (some [.one<|.b<|zi s5.2.2.2.1 0 1000000000]) none) oF) none) oF) none) oF) (0,a0.Pending,a0.Traps,a0.Own,a0.Outer,a0.Out,a0.Dirty,a0.Guests,a0.Outs,a0.Tables,())) (λi hi t rec=>?_) (λt rec=>?_) _ ()<|hNN hg).trans ?_;{simp only [zbv hi,zY hi,zbg hi,zU hi hg,cT];simp only[zbk,zhg,cT];cases zdC a0.Guests[i]<;>rfl};{simp only [zbm,cF]};rw[zgG zdC];cases hq:a0.Guests.all zdC;{simp only [cF];cases ile (ln a0.Outs) 40<;>cases zdq a0.Pending<;>cases zi a0.Traps 0 3<;>cases zi a0.Own 0 1000000000<;>rfl};simp only[cT];refine(zsf 8 (λj (u:Unit)=>((j:Int),a0.Pending,a0.Traps,a0.Own,a0.Outer,a0.Out,a0.Dirty,a0.Guests,a0.Outs,a0.Tables,())) _ (λj (_:Unit) κ=>bif fits a0 j then κ () else oF) (λ(u:Unit)=>cond (ile (ln a0.Outs) 40) (cond (zbY a0.Pending) (cond (zee a0.Pending) (cond (zI a0.Traps 0 3) (cond (zi a0.Traps 0 3) (cond (zI a0.Own 0 1000000000) (some [.one<|.b<|zi a0.Own 0 1000000000]) none) oF) none) oF) none) oF) (λj hj u rec1=>?_) (λu rec1=>?_) _ ()<|hNN (by decide)).trans ?_;{simp only [show ilt (j:Int) 8=true from qJ (by omega),zU hj (show 8<=big by decide),cT];have hj1:j<a0.Outer.length:=(by omega);have hj2:j<a0.Out.length:=(by omega);simp only[zbE,zW,zdu,zcQ,zbl,zcE,zY hj1,zY hj2,zKj,cT];unfold fits zlf;simp only[zbg hj1,zcT];cases ieq a0.Outer[j].Page noSlot.Page<;>cases ieq a0.Outer[j].Rights noSlot.Rights<;>cases enough a0.Outer[j].Rights 1<;>cases ile (ln<|ix a0.Out (j:Int) []) 0<;>cases zcn (ix a0.Out (j:Int) [])<;>rfl};{simp only [show ilt ((8:Nat):Int) 8=false from qG (by omega),cF];rfl};rw[zAV<|fits a0];simp only[zbY,zee,zI,zOM,cT];cases zng (fits a0) 8 0<;>cases ile (ln a0.Outs) 40<;>cases zdq a0.Pending<;>cases zi a0.Traps 0 3<;>cases zi a0.Own 0 1000000000<;>rfl
theorem zNk:vJ 401 zpH:=hF1 zDM zo zq zu zTB zS3
def z1l:zS:=[(401,zpH),(148,zpH)]++z1k
theorem zDN:zL z1l:=zh zNk (zh zM9 zDM)
def zg0:List Slot->List Bool->Option (List Bool)
 |[],u=>some u
 |s::l,u=>bif ilt s.Page 0 then zg0 l u else (cond (ix u s.Page false) none<|zg0 l<|up u s.Page true)
def ziH:List Mon->List Bool->Bool
 |[],_=>true
 |m::l,u=>bif zeG m then (match zg0 m.Outer u with|some u'=>ziH l u'|none=>false) else false
def zb1 (h:Host):Bool:=bif zh6 h.Memory 12 then (cond (zi (ln h.Mons) 1 3) (cond (zfA h.Buffer) (cond (zfA h.IoBuffer) (ziH h.Mons<|rp 12 false) false) false) false) else false
theorem zoE:∀(l:List Slot) (u u':List Bool),zg0 l u=some u'->u'.length=u.length
 |[],u,u',h=>by cases h;rfl
 |s::l,u,u',h=>by simp only[zg0]at h;cases h1:ilt s.Page 0;{rw [h1]at h;cases h2:ix u s.Page false;{rw [h2]at h;simpa using zoE l _ u' h};{rw [h2]at h;cases h}};{rw [h1]at h;exact zoE l u u' h}
theorem zA5 {t:List Slot}{n:Int}(h:zcV t n 12=true):∀s∈t,s.Page<12:=by intro s hs;unfold zcV at h;cases h1:t.all (λs=>zdV s 12);{rw [h1]at h;cases h};{have:=qM.1 h1 s hs;unfold zdV at this;cases h2:zcT s noSlot;{rw [h2] at this;simp only[cF,show igt 12 0=true from rfl,cT] at this;cases h3:zi s.Page 0 (wsub .i64 12 1);{rw [h3] at this;cases this};{have:=(zfM.1 h3).2;rw[show wsub .i64 12 1=11 from rfl] at this;omega}};{unfold zcT at h2;rw[qE]at h2;have h2:s.Page = -1:=qD h2.1;omega}}
theorem zSk {s:Slot}{u:List Bool}(h:s.Page<12)(hu:u.length=12)(h0:ilt s.Page 0=false):inb s.Page (ln u)=true:=by have:=jQ h0;exact qJ (by simp only[ln];omega)
def zrW {ρ:Type}(r:Option ρ)(y:Slot)(u:List Bool)(κ:List Bool->Option ρ):Option ρ:=bif ilt y.Page 0 then κ u else (cond (inb y.Page<|ln u) (cond (ix u y.Page false) r<|cond (inb y.Page<|ln u) (share (up u y.Page true) λx6=>κ x6) none) none)
theorem zwr {ρ:Type}(r:Option ρ)(K:List Bool->Option ρ):∀(l:List Slot) (i:Nat) (u:List Bool),(∀s∈l,s.Page<12)->u.length=12->
 goL (λ_ y u κ=>zrW r y u κ) K l i u=match zg0 l u with|some u'=>K u'|none=>r
 |[],_,_,_,_=>rfl
 |s::l,i,u,h,hu=>by simp only[goL,zg0,zrW];cases h1:ilt s.Page 0;{have hh:=zSk (h s (by simp)) hu h1;rw[hh];cases ix u s.Page false;{simp only [cF,cT,share];exact zwr r K l (i+1) _ (λs hs=>h s (by simp[hs])) (by simpa using hu)};{rfl}};{simp only [cT];exact zwr r K l (i+1) u (λs hs=>h s (by simp[hs])) hu}
def zUW {ρ:Type}(r:Option ρ)(m:Mon)(u:List Bool)(κ:List Bool->Option ρ):Option ρ:=bif zeG m then goL (λ_ y u κ=>zrW r y u κ) κ m.Outer 0 u else r
theorem zc7 {c x:Bool}:((cond c x false)=true)↔c=true/\x=true:=by cases c<;>simp
theorem zlY {m:Mon}(h:zeG m=true):zcV m.Outer 8 12=true:=by unfold zeG at h;simp only[zc7]at h;exact h.2.2.1
theorem zPK {K:Bool->OA}(k:List Bool->OA)(hk:∀u,k u=K true):∀(l:List Mon) (i:Nat) (u:List Bool),u.length=12->
 goL (λ_ m u κ=>zUW (K false) m u κ) k l i u=K (ziH l u)
 |[],_,u,_=>hk u
 |m::l,i,u,hu=>by simp only[goL,ziH,zUW];cases h1:zeG m;{rfl};{simp only [cT];have ht:=zlY h1;rw[zwr _ _ _ _ _ (zA5 ht) hu];cases h2:zg0 m.Outer u with|none=>rfl|some u'=>exact zPK k hk l (i+1) u' ((zoE _ _ _ h2).trans hu)}
@[simp] abbrev zdn (h:Host):Bool:=true
@[simp] abbrev zdw (h:Host):Bool:=zb1 h
def znD:Run:=rF1 dH λb=>(zdn b,[aB<|zdw b])
def zFm (N:Nat)(a0:Host):OA:=
 (oN (zh8 a0.Memory 12)<|cond (nB<|zfi a0.Memory 12) oF<|oN (zI (ln a0.Mons) 1 3)<|cond (nB<|zi (ln a0.Mons) 1 3) oF<|oN (zhE a0.Buffer)<|cond (nB<|zg4 a0.Buffer) oF<|oN (zhE a0.IoBuffer)<|cond (nB<|zg4 a0.IoBuffer) oF<|oN (cond (few 12) (ieq 12 12) false)<|iter (σ:=(Int×Int×lB×lN×Unit)) N (λr2 s3=>let y1:=ix s3.2.2.2.1 s3.2.1 zf; (cond (ilt s3.2.1 s3.1) (oN (inb s3.2.1<|ln s3.2.2.2.1)<|oN (zh5 y1)<|cond (nB<|ziJ y1) oF<|iter (σ:=(Int×Int×Int×Int×Int×lB×lN×Unit)) N (λr4 s5=>let y4:=s5.2.2.2.2.1;let y3:=s5.2.2.2.2.2.2.1;let y5:=(ix y3 s5.2.2.1 zf).Outer;let y2:=s5.2.2.2.2.2.1;let y0:=(ix y5 y4 zO).Page; (cond (ilt y4 s5.2.2.2.1) (oN (inb y4<|ln y5)<|cond (ilt y0 0) (r4 (s5.1,s5.2.1,s5.2.2.1,s5.2.2.2.1,zD .i64 y4 1,y2,y3,()))<|oN (inb y0<|ln y2)<|cond (ix y2 y0 false) oF<|oN (inb y0<|ln y2)<|share (up y2 y0 true) λx6=>r4 (s5.1,s5.2.1,s5.2.2.1,s5.2.2.2.1,zD .i64 y4 1,x6,y3,()))<|r2 (s5.1,zD .i64 s5.2.1 1,y2,y3,()))) (s3.1,s3.2.1,s3.2.1,ln y1.Outer,0,s3.2.2.1,s3.2.2.2.1,())) oT)) (ln a0.Mons,0,rp 12 false,a0.Mons,()))
def zRX:=zx [(50,0,{n:=63,tm:=[(3,.sl 0 []),(33,.sl 1 []),(34,ti),(35,ti)],lo:=[],ro:=[(0,.bool,true),(1,.mon,false)]}),(50,2,{n:=63,tm:=[(3,.sl 0 []),(33,.sl 1 []),(34,ti),(35,ti),(43,.sl 1 [0]),(44,ti),(45,ti)],lo:=[],ro:=[(0,.bool,true),(1,.mon,false)]})]
theorem zQd (a0:Host)(hb:zbC big [aH a0])(hc:zdn a0=true):∃N,zFm N a0=some [aB<|zdw a0]:=by
 have hm:CVB big (.s .mon a0.Mons):=(zc6 hb).1 _ (by simp[AV.cvs,zbf]);have hl:=hm.len;refine zb0 λN hNN=>?_;unfold zFm zdw zb1 oN nB;conv=>zeta
 refine must rfl (stB λh0=>must rfl (stB λh1=>must rfl (stB λh2=>must rfl (stB λh3=>must rfl ?_))));refine(zbd a0.Mons (λi (t:lB)=>(ln a0.Mons,(i:Int),t,a0.Mons,())) _ (λ_ (x:Mon) (u:List Bool) κ=>zUW (oF) x u κ) (λ(t:lB)=>some [.one<|.b true]) (λi hi t rec=>?_) (λt rec=>?_) _ (rp 12 false)<|hNN hl).trans ?_;{simp only [zbv hi,zY hi,zbg hi,zU hi hl,cT];unfold zUW;cases h4:zeG a0.Mons[i];{simp only [zh5,ziJ,h4,cT,cF]};simp only[zh5,ziJ,h4,cT,cF];have ho:a0.Mons[i].Outer.length<=big:=(hm.inv.2 _ (jG hi) (.s .slot _) (by simp[Ty.cells])).len;refine(zbd a0.Mons[i].Outer (λj (u:lB)=>(ln a0.Mons,(i:Int),(i:Int),ln a0.Mons[i].Outer,(j:Int),u,a0.Mons,())) _ (λ_ (y:Slot) (u:List Bool) κ=>zrW (oF) y u κ) (λ(u:lB)=>rec (ln a0.Mons,((i+1:Nat):Int),u,a0.Mons,())) (λj hj u rec1=>?_) (λu rec1=>?_) _ (t)<|hNN ho).trans ?_;{simp only [zbv hj,zY hj,zbg hj,zU hj ho,cT,zY hi,zbg hi,zU hi hl];rfl};{simp only [zbm,cF,zY hi,zbg hi,zU hi hl]};rfl};{simp only [zbm,cF]};exact zPK (K:=λb=>some [AV.one<|.b b]) _ (λ_=>rfl) _ _ _ rfl
theorem zJr:vJ 50 znD:=hF1 zDN zo zq zu zRX zQd
theorem zDZ {ρ:Type}(r:Option ρ)(k:List Bool->Option ρ)(m:Mon):∀(n i:Nat) (u:List Bool),(∀s∈m.Outer,s.Page<12)->u.length=12->i+n=m.Outer.length->
 goN (λj u κ=>bif inb (j:Int) (ln m.Outer) then zrW r (ix m.Outer (j:Int) zO) u κ else none) k n i u=goL (λ_ y u κ=>zrW r y u κ) k (m.Outer.drop i) i u
 | 0,i,u,_,_,h=>by have:i=m.Outer.length:=(by omega);subst this;simp[goN,goL]
 |n+1,i,u,hs,hu,h=>by have hi:i<m.Outer.length:=(by omega);rw[j7 hi];simp only[goN,goL,zY hi,zbg hi,cT,zrW];cases h1:ilt m.Outer[i].Page 0;{rw [zSk (hs _<|jG hi) hu h1];cases ix u m.Outer[i].Page false;{simp only [cF,cT,share];exact zDZ r k m n (i+1) _ hs (by simpa using hu) (by omega)};{rfl}};{simp only [cT];exact zDZ r k m n (i+1) u hs hu (by omega)}
def zFH (N:Nat)(a0:Host):OA:=
 (oN (zh8 a0.Memory 12)<|cond (nB<|zfi a0.Memory 12) oF<|oN (zI (ln a0.Mons) 1 3)<|cond (nB<|zi (ln a0.Mons) 1 3) oF<|oN (zhE a0.Buffer)<|cond (nB<|zg4 a0.Buffer) oF<|oN (zhE a0.IoBuffer)<|cond (nB<|zg4 a0.IoBuffer) oF<|oN (cond (few 12) (ieq 12 12) false)<|iter (σ:=(Int×lB×lM×lN×lE×lE×Unit)) N (λr2 s3=>let y7:=ix s3.2.2.2.1 s3.1 zf; (cond (ilt s3.1<|ln s3.2.2.2.1) (oN (inb s3.1<|ln s3.2.2.2.1)<|oN (zh5 y7)<|cond (nB<|ziJ y7) oF<|iter (σ:=(Int×Int×lB×lM×lN×lE×lE×Unit)) N (λr4 s5=>let y6:=zD .i64 s5.2.1 1;let y5:=s5.2.2.2.2.2.1;let y4:=s5.2.2.2.2.2.2.1;let y3:=s5.2.2.1;let y2:=s5.2.2.2.2.1;let y8:=(ix y2 s5.1 zf).Outer;let y1:=r4 (s5.1,y6,y3,s5.2.2.2.1,y2,y5,y4,());let y0:=(ix y8 s5.2.1 zO).Page;let y9:=inb y0<|ln y3; (cond (ilt s5.2.1 8) (oN (inb s5.1<|ln y2)<|oN (inb s5.2.1<|ln y8)<|cond (ige y0 0) (oN y9<|cond (ix y3 y0 false) oF<|cond (ige y0 0) (oN y9<|share (up y3 y0 true) λx6=>r4 (s5.1,y6,x6,s5.2.2.2.1,y2,y5,y4,())) y1)<|cond (ige y0 0) (oN y9<|share (up y3 y0 true) λx6=>r4 (s5.1,y6,x6,s5.2.2.2.1,y2,y5,y4,())) y1)<|r2 (zD .i64 s5.1 1,y3,s5.2.2.2.1,y2,y5,y4,()))) (s3.1,0,s3.2.1,s3.2.2.1,s3.2.2.2.1,s3.2.2.2.2.1,s3.2.2.2.2.2.1,())) oT)) (0,rp 12 false,a0.Memory,a0.Mons,a0.Buffer,a0.IoBuffer,()))
def zR5:=zx [(386,0,{n:=72,tm:=[(1,.lp 0 0),(3,.sl 0 []),(4,ti)],lo:=[(0,[.sl 1 [],.sl 2 [],.sl 3 [],.sl 4 []])],ro:=[(0,.bool,true),(1,.sl .int,false),(2,.mon,false),(3,.entry,false),(4,.entry,false)]}),(386,2,{n:=72,tm:=[(1,.lp 0 0),(3,.sl 0 []),(4,ti),(5,ti)],lo:=[(0,[.sl 1 [],.sl 2 [],.sl 3 [],.sl 4 []])],ro:=[(0,.bool,true),(1,.sl .int,false),(2,.mon,false),(3,.entry,false),(4,.entry,false)]})]
theorem zQw (a0:Host)(hb:zbC big [aH a0])(hc:zdn a0=true):∃N,zFH N a0=some [aB<|zdw a0]:=by
 have hm:CVB big (.s .mon a0.Mons):=(zc6 hb).1 _ (by simp[AV.cvs,zbf]);have hl:=hm.len;refine zb0 λN hNN=>?_;unfold zFH zdw zb1 oN nB;conv=>zeta
 refine must rfl (stB λh0=>must rfl (stB λh1=>must rfl (stB λh2=>must rfl (stB λh3=>must rfl ?_))));refine(zbd a0.Mons (λi (t:lB)=>((i:Int),t,a0.Memory,a0.Mons,a0.Buffer,a0.IoBuffer,())) _ (λ_ (x:Mon) (u:List Bool) κ=>bif zeG x then goN (λj u κ=>bif inb (j:Int) (ln x.Outer) then zrW (oF) (ix x.Outer (j:Int) zO) u κ else none) κ 8 0 u else oF) (λ(t:lB)=>some [.one<|.b true]) (λi hi t rec=>?_) (λt rec=>?_) _ (rp 12 false)<|hNN hl).trans ?_;{simp only [zbv hi,zY hi,zbg hi,zU hi hl,cT];cases h4:zeG a0.Mons[i];{simp only [zh5,ziJ,h4,cT,cF]};simp only[zh5,ziJ,h4,cT,cF];refine(zsf 8 (λj (u:lB)=>((i:Int),(j:Int),u,a0.Memory,a0.Mons,a0.Buffer,a0.IoBuffer,())) _ (λj (u:List Bool) κ=>bif inb (j:Int) (ln a0.Mons[i].Outer) then zrW (oF) (ix a0.Mons[i].Outer (j:Int) zO) u κ else none) (λ(u:lB)=>rec (((i+1:Nat):Int),u,a0.Memory,a0.Mons,a0.Buffer,a0.IoBuffer,())) (λj hj u rec1=>?_) (λu rec1=>?_) _ (t)<|hNN (by decide)).trans ?_;{simp only [show ilt (j:Int) 8=true from qJ (by omega),zU hj (show 8<=big by decide),cT,zY hi,zbg hi,zU hi hl];unfold zrW;have e:ige (ix a0.Mons[i].Outer (j:Int) zO).Page 0 = !ilt (ix a0.Mons[i].Outer (j:Int) zO).Page 0:=(by rw[z3q,Bool.not_not]);simp only[e];cases ilt (ix a0.Mons[i].Outer (j:Int) zO).Page 0<;>cases inb (j:Int) (ln a0.Mons[i].Outer)<;>cases inb (ix a0.Mons[i].Outer (j:Int) zO).Page (ln u)<;>cases ix u (ix a0.Mons[i].Outer (j:Int) zO).Page false<;>rfl};{simp only [show ilt ((8:Nat):Int) 8=false from qG (by omega),cF,zY hi,zbg hi,zU hi hl]};rfl};{simp only [zbm,cF]};have key:∀(l:List Mon) (i:Nat) (u:List Bool),u.length=12->goL (λ_ (x:Mon) (u:List Bool) κ=>bif zeG x then goN (λj u κ=>bif inb (j:Int) (ln x.Outer) then zrW (oF) (ix x.Outer (j:Int) zO) u κ else none) κ 8 0 u else oF) (λ_=>oT) l i u=some [AV.one<|.b<|ziH l u]:=(by intro l;induction l with|nil=>intro i u _;rfl|cons m l ih=>intro i u hu;simp only[goL,ziH];cases h1:zeG m;{rfl};{have ht:=zlY h1;have e8:0+8=m.Outer.length:=(by have:=zqv ht;simp only[ln] at this;omega);simp only[cT];rw[zDZ _ _ m 8 0 u (zA5 ht) hu e8,u4,zwr _ _ _ _ _ (zA5 ht) hu];cases h2:zg0 m.Outer u with|none=>rfl|some u'=>exact ih (i+1) u' ((zoE _ _ _ h2).trans hu)});exact key _ _ _ rfl
theorem zJT:vJ 386 znD:=hF1 zDN zo zq zu zR5 zQw
def z1m:zS:=[(386,znD),(50,znD)]++z1l
theorem zwe:zL z1m:=zh zJT (zh zJr zDN)
theorem zVG {h:Host}(hh:zb1 h=true):(h.Mons.length:Int)<=3:=by unfold zb1 at hh;simp only[zc7]at hh;exact(zfM.1 hh.2.1).2
def zcM (h:Host)(m:Int):Bool:=bif zb1 h then hasB m (ln h.Mons) else false
def zb3 (h:Host)(m p:Int):Bool:=bif zb1 h then (cond (hasB m<|ln h.Mons) (hasB p 8) false) else false
theorem zLB {h:Host}(hh:zb1 h=true)(m:Int):zi m 0 (wsub .i64 (ln h.Mons) 1)=hasB m (ln h.Mons):=zpn (by have:=zVG hh;omega) m
@[simp] abbrev zfL (h:Host)(m:Int):Bool:=true
@[simp] abbrev zfK (h:Host)(m:Int):Bool:=zcM h m
def zAi:Run:=rF2 dH dI λb c=>(zfL b c,[aB<|zfK b c])
def zF1 (N:Nat)(a0:Host)(a1:Int):OA:=
 (oN (zdn a0)<|cond (zdw a0) (oN (zI a1 0<|wsub .i64 (ln a0.Mons) 1)<|some [aB<|zi a1 0<|wsub .i64 (ln a0.Mons) 1]) oF)
theorem zQN (a0:Host)(a1:Int)(hc:zfL a0 a1=true):∃N,zF1 N a0 a1=some [aB<|zfK a0 a1]:=by refine⟨0,?_⟩;unfold zF1 zfK zcM oN;cases hh:zb1 a0;{simp only [zdn,zdw,hh,cT,cF]};{simp only [zdn,zdw,hh,cT,zI,zOM,zLB hh]}
theorem zKg:vJ 364 zAi:=kF2 zwe zo zq zu (zx []) zQN
@[simp] abbrev zi8 (h:Host)(m p:Int):Bool:=true
@[simp] abbrev zei (h:Host)(m p:Int):Bool:=zb3 h m p
def zpO:Run:=rF3 dH dI dI λb c d=>(zi8 b c d,[aB<|zei b c d])
def zLW (N:Nat)(a0:Host)(a1 a2:Int):OA:=
 (oN (zdn a0)<|cond (zdw a0) (oN (zI a1 0<|wsub .i64 (ln a0.Mons) 1)<|cond (zi a1 0<|wsub .i64 (ln a0.Mons) 1) (oN (zI a2 0 7)<|some [aB<|zi a2 0 7]) oF) oF)
theorem zS9 (a0:Host)(a1 a2:Int)(hc:zi8 a0 a1 a2=true):∃N,zLW N a0 a1 a2=some [aB<|zei a0 a1 a2]:=by refine⟨0,?_⟩;unfold zLW zei zb3 oN;cases hh:zb1 a0;{simp only [zdn,zdw,hh,cT,cF]};{simp only [zdn,zdw,hh,cT,zI,zOM,zLB hh,z4L];cases hasB a1 (ln a0.Mons)<;>rfl}
theorem zNs:vJ 370 zpO:=kF3 zwe zo zq zu (zx []) zS9
def zCb (N:Nat)(a0:Host)(a1 a2:Int):OA:=
 (oN (zdn a0)<|cond (zdw a0) (oN (zbl a1<|ln a0.Mons)<|cond (zcR a1<|ln a0.Mons) (oN (zbl a2 8)<|some [aB<|zcR a2 8]) oF) oF)
theorem zNH (a0:Host)(a1 a2:Int)(hc:zi8 a0 a1 a2=true):∃N,zCb N a0 a1 a2=some [aB<|zei a0 a1 a2]:=by refine⟨0,?_⟩;unfold zCb zei zb3 oN;cases hh:zb1 a0;{simp only [zdn,zdw,hh,cT,cF]};{simp only [zdn,zdw,hh,cT,zbl,zcR];cases hasB a1 (ln a0.Mons)<;>rfl}
theorem zGU:vJ 66 zpO:=kF3 zwe zo zq zu (zx []) zNH
def z1o:zS:=[(364,zAi),(370,zpO),(66,zpO)]++z1m
theorem zPl:zL z1o:=zh zKg (zh zNs<|zh zGU zwe)
def zdf (k:Kept)(p:Int):Bool:=bif hasB p (ln k.Known) then hasB p (ln k.Slots) else false
def zbR (k:Kept)(p:Int):Kept:=bif zdf k p then ⟨up k.Known p false,up k.Slots p noSlot⟩ else k
@[simp] theorem zoD {k:Kept}{p:Int}(h:SmK k):SmK (zbR k p):=by unfold zbR;cases zdf k p;{exact h};{exact⟨by simpa using h.1,by simpa using h.2⟩}
theorem has_lt {p:Int}{n m:Int}(h:hasB p n=true):ilt p m=hasB p m:=by have h:=qD h;unfold ilt hasB;by_cases h1:p<m;{rw [qJ h1,qJ ⟨h.1,h1⟩]};{rw [qG h1,qG (by omega)]}
@[simp] abbrev zdv (k:Kept)(p:Int):Bool:=pc (SmK k)
@[simp] abbrev ziq (k:Kept)(p:Int):Bool:=zdf k p
def zAg:Run:=rF2 (dT .kept) dI λb c=>(zdv b c,[aB<|ziq b c])
def zFZ (N:Nat)(a0:Kept)(a1:Int):OA:=
 (oN (zI a1 0<|wsub .i64 (ln a0.Known) 1)<|cond (zi a1 0<|wsub .i64 (ln a0.Known) 1) (some [aB<|ilt a1<|ln a0.Slots]) oF)
theorem zQK (a0:Kept)(a1:Int)(hc:zdv a0 a1=true):∃N,zFZ N a0 a1=some [aB<|ziq a0 a1]:=by have hs:=zK.1 hc;refine⟨0,?_⟩;unfold zFZ ziq zdf oN;simp only[zI,zOM,zpn hs.1,cT];cases hh:hasB a1 (ln a0.Known);{rfl};{simp only [cT,has_lt hh]}
theorem zKa:vJ 389 zAg:=kF2 zPl zo zq zu (zx []) zQK
def z1p:zS:=[(389,zAg)]++z1o
theorem zDO:zL z1p:=zh zKa zPl
@[simp] abbrev zgT (k:Kept)(p:Int):Kept:=zbR k p
def znN:Run:=rF2 (dT .kept) dI λb c=>(zdv b c,[aT .kept<|zgT b c])
def zFF (N:Nat)(a0:Kept)(a1:Int):OA:=
 let y0:=zdL a0; (oN (zgl a0)<|oN (zdv y0 a1)<|cond (ziq y0 a1) (oN (inb a1<|ln y0.Known)<|share (up y0.Known a1 false) λx3=>oN zbE<|oN (inb a1<|ln y0.Slots)<|share (up y0.Slots a1 zW) λx4=>some [aT .kept (⟨x3,x4⟩:Kept)])<|some [aT .kept y0])
theorem zQu (a0:Kept)(a1:Int)(hc:zdv a0 a1=true):∃N,zFF N a0 a1=some [aT .kept<|zgT a0 a1]:=by
 have hs:=zK.1 hc;refine⟨0,?_⟩;unfold zFF zgT oN;conv=>zeta
 refine must (zbe<|(zuW _).2 hs) (must (zbe hs) ?_);unfold zbR;cases hh:zdf a0 a1;{simp only [ziq,zdL,hh,cF]};{simp only [ziq,zdL,hh,cT];unfold zdf at hh;obtain⟨h1,h2⟩:=zc7.1 hh;simp only[zP2,h1,h2,cT,share,zbE]}
theorem zJR:vJ 367 znN:=kF2 zDO zo zq zu (zx []) zQu
def zFk (N:Nat)(a0:Kept)(a1:Int):OA:=
 let y0:=zdp a0; (oN (zem a0)<|oN (zbl a1<|ln a0.Known)<|cond (zcR a1<|ln a0.Known) (oN (zbl a1<|ln a0.Slots)<|cond (zcR a1<|ln a0.Slots) (oN (inb a1<|ln y0.Known)<|share (up y0.Known a1 false) λx3=>oN zbE<|oN (inb a1<|ln y0.Slots)<|share (up y0.Slots a1 zW) λx4=>some [aT .kept (⟨x3,x4⟩:Kept)])<|some [aT .kept y0])<|some [aT .kept y0])
theorem zQb (a0:Kept)(a1:Int)(hc:zdv a0 a1=true):∃N,zFk N a0 a1=some [aT .kept<|zgT a0 a1]:=by
 have hs:=zK.1 hc;refine⟨0,?_⟩;unfold zFk zgT oN;conv=>zeta
 refine must (zbe hs) (must rfl ?_);unfold zbR zdf;simp only[zcR,zbl,zdp,zP2,share,zbE,cT];cases hasB a1 (ln a0.Known);{rfl};{cases hasB a1 (ln a0.Slots)<;>rfl}
theorem zJp:vJ 121 znN:=kF2 zDO zo zq zu (zx []) zQb
def z1q:zS:=[(367,znN),(121,znN)]++z1p
theorem zrY:zL z1q:=zh zJR (zh zJp zDO)
def zeO (k:Kept)(l:List Int):Kept:=l.foldl zbR k
theorem zUy:∀(l:List Int) {k:Kept},SmK k->SmK (zeO k l)
 |[],_,h=>h
 |p::l,k,h=>zUy l (zoD (p:=p) h)
theorem zwq {ρ:Type}(K:List Bool×List Slot->Option ρ):∀(l:List Int) (i:Nat) (k:Kept),SmK k->
 goL (λ_ x (t:List Bool×List Slot) κ=>bif pc (SmK ⟨t.1,t.2⟩) then κ ((zbR ⟨t.1,t.2⟩ x).Known,(zbR ⟨t.1,t.2⟩ x).Slots) else none) K l i (k.Known,k.Slots)=K ((zeO k l).Known,(zeO k l).Slots)
 |[],_,_,_=>rfl
 |x::l,i,k,h=>by have e:pc (SmK ⟨k.Known,k.Slots⟩)=true:=zbe h;simp only[goL,e,cT];exact zwq K l (i+1) (zbR k x) (zoD h)
def zAD (l:List Slot)(p:Int):List Int:=idxs (λ(s:Slot)=>ieq s.Page p) l 0
def zjg (k:Kept)(l:List Slot)(p:Int):Kept:=zeO k (zAD l p)
theorem z0x {k:Kept}(l:List Slot)(p:Int)(h:SmK k):SmK (zjg k l p):=zUy _ h
@[simp] abbrev zhz (k:Kept)(l:List Slot)(p:Int):Bool:=pc (SmK k/\l.length<=1048576)
@[simp] abbrev zkK (k:Kept)(l:List Slot)(p:Int):Kept:=zjg k l p
def zjq:Run:=rF3 (dT .kept) (dS .slot) dI λb c d=>(zhz b c d,[aT .kept<|zkK b c d])
def zuS (N:Nat)(a0:Kept)(a1:lS)(a2:Int):OA:=
 (oN (zgl a0)<|oN (zop a1 a2)<|iter (σ:=(Int×(List Int)×lB×lS×lB×lS×Unit)) N (λr4 s5=>let y1:=ix s5.2.1 s5.1 0;let y0:=(⟨s5.2.2.1,s5.2.2.2.1⟩:Kept); (cond (ilt s5.1<|ln s5.2.1) (oN (inb s5.1<|ln s5.2.1)<|oN (zdv y0 y1)<|r4 (zD .i64 s5.1 1,s5.2.1,(zgT y0 y1).Known,(zgT y0 y1).Slots,s5.2.2.2.2.1,s5.2.2.2.2.2.1,()))<|some [aT .kept y0])) (0,zf9 a1 a2,(zdL a0).Known,(zdL a0).Slots,[],[],()))
def zFd:=zx [(398,0,{n:=27,tm:=[(3,.lp 0 0),(6,.lp 1 0),(7,.sl 0 []),(8,ti)],lo:=[(0,[.sl 1 [],.sl 2 []]),(1,[.sl 3 [],.sl 4 []])],ro:=[(0,.int,true),(1,.bool,true),(2,.slot,true),(3,.bool,true),(4,.slot,true)]})]
theorem zEP (a0:Kept)(a1:List Slot)(a2:Int)(hc:zhz a0 a1 a2=true):∃N,zuS N a0 a1 a2=some [aT .kept<|zkK a0 a1 a2]:=by
 obtain⟨hs,hs2⟩:=zK.1 hc;have hl:(zf9 a1 a2).length<=big:=jB (zwF _ a1 0) (zct hs2).1;refine zb0 λN hNN=>?_;unfold zuS oN;conv=>zeta
 refine must (zbe<|(zuW _).2 hs) (must (zbe (by omega)) ?_);refine(zbd (zf9 a1 a2) (λi (t:lB×lS)=>((i:Int),zf9 a1 a2,t.1,t.2,[],[],())) _ (λ_ (x:Int) (t:List Bool×List Slot) κ=>bif pc (SmK ⟨t.1,t.2⟩) then κ ((zbR ⟨t.1,t.2⟩ x).Known,(zbR ⟨t.1,t.2⟩ x).Slots) else none) (λ(t:lB×lS)=>some [.agg<|Ty.cells .kept (⟨t.1,t.2⟩:Kept)]) (λi hi t rec=>?_) (λt rec=>?_) _ ((zdL a0).Known,(zdL a0).Slots)<|hNN hl).trans ?_;{simp only [zbv hi,zY hi,zbg hi,zU hi hl,cT]};{simp only [zbm,cF]};exact zwq _ _ 0 a0 hs
theorem zzx:vJ 398 zjq:=kF3 zrY zo zq zu zFd zEP
def zuM (N:Nat)(a0:Kept)(a1:lS)(a2:Int):OA:=
 (oN (zem a0)<|oN (zop a1 a2)<|iter (σ:=(Int×Int×(List Int)×lB×lS×lB×lS×Unit)) N (λr4 s5=>let y1:=ix s5.2.2.1 s5.2.1 0;let y0:=(⟨s5.2.2.2.2.2.1,s5.2.2.2.2.2.2.1⟩:Kept); (cond (ilt s5.2.1 s5.1) (oN (inb s5.2.1<|ln s5.2.2.1)<|oN (zdv y0 y1)<|r4 (s5.1,zD .i64 s5.2.1 1,s5.2.2.1,s5.2.2.2.1,s5.2.2.2.2.1,(zgT y0 y1).Known,(zgT y0 y1).Slots,()))<|some [aT .kept y0])) (ln<|zf9 a1 a2,0,zf9 a1 a2,[],[],(zdp a0).Known,(zdp a0).Slots,()))
def zE9:=zx [(252,0,{n:=25,tm:=[(6,.lp 0 0),(7,.lp 1 0),(14,.sl 0 []),(15,ti),(16,ti)],lo:=[(0,[.sl 1 [],.sl 2 []]),(1,[.sl 3 [],.sl 4 []])],ro:=[(0,.int,true),(1,.bool,true),(2,.slot,true),(3,.bool,true),(4,.slot,true)]})]
theorem zEI (a0:Kept)(a1:List Slot)(a2:Int)(hc:zhz a0 a1 a2=true):∃N,zuM N a0 a1 a2=some [aT .kept<|zkK a0 a1 a2]:=by
 obtain⟨hs,hs2⟩:=zK.1 hc;have hl:(zf9 a1 a2).length<=big:=jB (zwF _ a1 0) (zct hs2).1;refine zb0 λN hNN=>?_;unfold zuM oN;conv=>zeta
 refine must (zbe hs) (must (zbe (by omega)) ?_);refine(zbd (zf9 a1 a2) (λi (t:lB×lS)=>(ln<|zf9 a1 a2,(i:Int),zf9 a1 a2,[],[],t.1,t.2,())) _ (λ_ (x:Int) (t:List Bool×List Slot) κ=>bif pc (SmK ⟨t.1,t.2⟩) then κ ((zbR ⟨t.1,t.2⟩ x).Known,(zbR ⟨t.1,t.2⟩ x).Slots) else none) (λ(t:lB×lS)=>some [.agg<|Ty.cells .kept (⟨t.1,t.2⟩:Kept)]) (λi hi t rec=>?_) (λt rec=>?_) _ ((zdp a0).Known,(zdp a0).Slots)<|hNN hl).trans ?_;{simp only [zbv hi,zY hi,zbg hi,zU hi hl,cT]};{simp only [zbm,cF]};exact zwq _ _ 0 a0 hs
theorem zzs:vJ 252 zjq:=kF3 zrY zo zq zu zE9 zEI
def flushed (l:List Entry)(p:Int):List Entry:=l.filter λe=>!ieq e.Host p
theorem zCQ (l:List Entry)(p:Int):(flushed l p).length<=l.length:=k8 _ _
theorem zk8 {α ρ:Type}(p:α->Bool)(K:List α->Option ρ):∀(l:List α) (i:Nat) (acc:List α),acc.length+l.length<=2147483648->
 goL (λ_ x acc κ=>bif p x then (cond (few<|ln<|ap acc [x]) (κ<|ap acc [x]) none) else κ acc) K l i acc=K (acc++l.filter p)
 |[],i,acc,_=>by simp[goL]
 |x::l,i,acc,h=>by simp only[qV]at h;simp only[goL];cases hp:p x;{rw [cF,zk8 p K l (i+1) acc (by omega),List.filter_cons_of_neg (by simp[hp])]};{rw [cT,zgt (by simp[ap];omega),cT,zk8 p K l (i+1) _ (by simp[ap];omega),List.filter_cons_of_pos hp];simp[ap]}
@[simp] abbrev zd4 (l:List Entry)(p:Int):Bool:=pc (l.length<=1048576)
@[simp] abbrev zgi (l:List Entry)(p:Int):List Entry:=flushed l p
def zke:Run:=rF2 (dS .entry) dI λb c=>(zd4 b c,[aS .entry<|zgi b c])
def zxo (N:Nat)(a0:lE)(a1:Int):OA:=
 (iter (σ:=(Int×Int×lE×lE×Unit)) N (λr3 s4=>let y1:=s4.2.2.1;let y0:=ix y1 s4.2.1 zfR; (cond (ilt s4.2.1<|ln y1) (oN (inb s4.2.1<|ln y1)<|cond (ine y0.Host s4.1) (oN (inb s4.2.1<|ln y1)<|oN (few<|ln<|ap s4.2.2.2.1 [y0])<|r3 (s4.1,zD .i64 s4.2.1 1,y1,ap s4.2.2.2.1 [y0],()))<|r3 (s4.1,zD .i64 s4.2.1 1,y1,s4.2.2.2.1,()))<|some [aS .entry s4.2.2.2.1])) (a1,0,a0,[],()))
def zIQ:=zx [(399,0,{n:=29,tm:=[(0,.sl 0 []),(1,ti),(5,.sl 1 []),(6,ti)],lo:=[],ro:=[(0,.entry,false),(1,.entry,true)]})]
theorem zHO (a0:List Entry)(a1:Int)(hc:zd4 a0 a1=true):∃N,zxo N a0 a1=some [aS .entry<|zgi a0 a1]:=by
 have hs:=zK.1 hc;have hl:=zct hs;refine zb0 λN hNN=>?_;unfold zxo oN;conv=>zeta
 refine(zbd a0 (λi (t:lE)=>(a1,(i:Int),a0,t,())) _ (λ_ (x:Entry) (t:List Entry) κ=>bif !ieq x.Host a1 then (cond (few<|ln<|ap t [x]) (κ<|ap t [x]) none) else κ t) (λ(t:lE)=>some [.one<|.s .entry t]) (λi hi t rec=>?_) (λt rec=>?_) _ ([])<|hNN hl.1).trans ?_;{simp only [zbv hi,zY hi,zbg hi,zU hi hl.1,cT];rfl};{simp only [zbm,cF]};exact zk8 (λe=>!ieq e.Host a1) _ a0 0 [] (by simpa using hl.2)
theorem zBo:vJ 399 zke:=kF2 zrY zo zq zu zIQ zHO
def zxd (N:Nat)(a0:lE)(a1:Int):OA:=
 (iter (σ:=(Int×Int×Int×lE×lE×Unit)) N (λr3 s4=>let y1:=s4.2.2.2.2.1;let y0:=ix y1 s4.2.1 zfR; (cond (ilt s4.2.1 s4.1) (oN (inb s4.2.1<|ln y1)<|cond (nB<|ieq y0.Host s4.2.2.1) (oN (few<|ln<|ap s4.2.2.2.1 [y0])<|r3 (s4.1,zD .i64 s4.2.1 1,s4.2.2.1,ap s4.2.2.2.1 [y0],y1,()))<|r3 (s4.1,zD .i64 s4.2.1 1,s4.2.2.1,s4.2.2.2.1,y1,()))<|some [aS .entry s4.2.2.2.1])) (ln a0,0,a1,[],a0,()))
def zIM:=zx [(237,0,{n:=25,tm:=[(1,.fn 309 [0]),(5,.sl 0 []),(9,.sl 1 []),(10,ti),(11,ti)],lo:=[(0,[ti])],ro:=[(0,.entry,true),(1,.entry,false)]})]
theorem zHE (a0:List Entry)(a1:Int)(hc:zd4 a0 a1=true):∃N,zxd N a0 a1=some [aS .entry<|zgi a0 a1]:=by
 have hs:=zK.1 hc;have hl:=zct hs;refine zb0 λN hNN=>?_;unfold zxd oN nB;conv=>zeta
 refine(zbd a0 (λi (t:lE)=>(ln a0,(i:Int),a1,t,a0,())) _ (λ_ (x:Entry) (t:List Entry) κ=>bif !ieq x.Host a1 then (cond (few<|ln<|ap t [x]) (κ<|ap t [x]) none) else κ t) (λ(t:lE)=>some [.one<|.s .entry t]) (λi hi t rec=>?_) (λt rec=>?_) _ ([])<|hNN hl.1).trans ?_;{simp only [zbv hi,zY hi,zbg hi,zU hi hl.1,cT];cases ieq a0[i].Host a1<;>rfl};{simp only [zbm,cF]};exact zk8 (λe=>!ieq e.Host a1) _ a0 0 [] (by simpa using hl.2)
theorem zBd:vJ 253 zke:=kF2 zrY zo zq zu zIM zHE
def zU6:zS:=[(398,zjq),(252,zjq),(399,zke),(253,zke)]++z1q
theorem zDP:zL zU6:=zh zzx (zh zzs<|zh zBo<|zh zBd zrY)
def zkS (gs:List Guest)(p:Int):Nat->List Kept->List Kept
 | 0,ts=>ts
 |n+1,ts=>up (zkS gs p n ts) (n:Int) (zjg (ix (zkS gs p n ts) (n:Int) ze2) (ix gs (n:Int) zn).Live p)
theorem zpj (gs:List Guest)(p:Int):∀(n:Nat) (ts:List Kept),(zkS gs p n ts).length=ts.length
 | 0,_=>rfl
 |n+1,ts=>by simp only[zkS,zgZ];exact zpj gs p n ts
theorem ztY (gs:List Guest)(p:Int):∀(n:Nat) (ts:List Kept),n<=ts.length->zy4 ts->zy4 (zkS gs p n ts)
 | 0,_,_,h=>h
 |n+1,ts,hn,h=>by have ih:=ztY gs p n ts (by omega) h;have hl:n<(zkS gs p n ts).length:=(by rw[zpj];omega);exact zvS ih (z0x _ _ (by rw[zbg hl];exact ih.2 _ (jG hl)))
def zj7 (x:Mon)(p:Int)(n:Nat):Mon:={x with Tables:=zkS x.Guests p n x.Tables}
theorem zYL {x:Mon}{p:Int}{n:Nat}(hn:n<=x.Tables.length)(h:zfY x):zfY (zj7 x p n):=⟨h.1,h.2.1,h.2.2.1,h.2.2.2.1,h.2.2.2.2.1,ztY _ _ _ _ hn h.2.2.2.2.2⟩
def zb6 (h:Host)(m p:Int)(s:Slot):Host :=
 bif ine (ix (ix h.Mons m zf).Outer p zO).Page (-1)
 then ⟨h.Memory,up h.Mons m {zj7 (ix h.Mons m zf) p (ix h.Mons m zf).Tables.length with Outer:=up (ix h.Mons m zf).Outer p s},flushed h.Buffer (ix (ix h.Mons m zf).Outer p zO).Page,flushed h.IoBuffer (ix (ix h.Mons m zf).Outer p zO).Page⟩
 else ⟨h.Memory,up h.Mons m {zj7 (ix h.Mons m zf) p (ix h.Mons m zf).Tables.length with Outer:=up (ix h.Mons m zf).Outer p s},h.Buffer,h.IoBuffer⟩
def z4d (h:Host)(m p:Int):Prop:=hasB m (ln h.Mons)=true/\hasB p (ln (ix h.Mons m zf).Outer)=true/\(ix h.Mons m zf).Tables.length<=(ix h.Mons m zf).Guests.length
@[simp] abbrev zfw (h:Host)(m p:Int)(s:Slot):Bool:=pc (zcJ h/\z4d h m p)
@[simp] abbrev zho (h:Host)(m p:Int)(s:Slot):Host:=zb6 h m p s
def zqS:List AV->Option (Bool×List AV)
 |[.agg [.s (.sl .int) b,.s .mon c,.s .entry d,.s .entry e],.one<|.i .i64 f,.one<|.i .i64 g,.agg [.i .i64 h,.i .i64 j]]=>some (zfw (⟨b,c,d,e⟩:Host) f g (⟨h,j⟩:Slot),[aH<|zho (⟨b,c,d,e⟩:Host) f g (⟨h,j⟩:Slot)])
 |_=>none
def zt6 (N:Nat)(a0:Host)(a1 a2:Int)(a3:Slot):OA:=
 let y7:=ix a0.Mons a1 zf; (oN (inb a1<|ln a0.Mons)<|oN (inb a2<|ln y7.Outer)<|iter (σ:=(Int×Int×Int×Int×Int×Int×Int×Int×Int×Int×Int×Int×Int×Int×Int×lM×lN×lE×lE×lM×lN×lE×lE×Unit)) N (λr5 s6=>let y19:=s6.2.2.1;let y18:=s6.2.2.2.2.2.2.2.2.2.2.2.1;let y17:=s6.2.2.2.2.2.2.2.2.2.2.2.2.1;let y15:=s6.2.2.2.2.2.2.2.2.2.2.2.2.2.2.1;let y14:=s6.2.2.2.2.2.2.2.2.2.2.2.2.2.2.2.1;let y13:=s6.2.2.2.2.2.2.2.1;let y11:=s6.2.2.2.2.2.2.2.2.1;let y10:=s6.2.2.2.1;let y9:=s6.2.2.2.2.2.2.2.2.2.2.1;let y8:=s6.2.2.2.2.2.2.2.2.2.2.2.2.2.2.2.2.2.1;let y6:=s6.2.2.2.2.2.2.2.2.2.2.2.2.2.2.2.2.2.2.1;let y5:=s6.2.2.2.2.2.2.1;let y3:=s6.2.2.2.2.2.2.2.2.2.1;let y1:=s6.2.2.2.2.2.2.2.2.2.2.2.2.2.1;let y0:=s6.2.2.2.2.2.2.2.2.2.2.2.2.2.2.2.2.1;let y20:=(ix y0 y3 zf).Guests;let y16:=(ix y20 y10 zn).Live;let y12:=ix y0 y5 zf;let y4:=(ix y0 y1 zf).Tables;let y2:=up y0 y5 ({y12 with Outer:=(up y12.Outer s6.2.1 (⟨s6.2.2.2.2.1,s6.2.2.2.2.2.1⟩:Slot))}:Mon); (cond (ilt y10<|ln y4) (oN (inb y10<|ln y4)<|oN (inb y10<|ln y20)<|oN (zhz (ix y4 y10 ze2) y16 s6.2.1)<|oN (inb y10<|ln y4)<|share (up y0 y1 ({ (ix y0 y1 zf) with Tables:=(up y4 y10<|zkK (ix y4 y10 ze2) y16 s6.2.1)}:Mon)) λx7=>r5 (s6.1,s6.2.1,y19,zD .i64 y10 1,s6.2.2.2.2.1,s6.2.2.2.2.2.1,y5,y13,y11,y3,y9,y18,y17,y1,y15,y14,x7,y8,y6,s6.2.2.2.2.2.2.2.2.2.2.2.2.2.2.2.2.2.2.2.1,s6.2.2.2.2.2.2.2.2.2.2.2.2.2.2.2.2.2.2.2.2.1,s6.2.2.2.2.2.2.2.2.2.2.2.2.2.2.2.2.2.2.2.2.2.1,s6.2.2.2.2.2.2.2.2.2.2.2.2.2.2.2.2.2.2.2.2.2.2.1,()))<|cond (ine y19<|-1) (oN (zd4 y8 y19)<|oN (zd4 y6 y19)<|oN (inb s6.2.1<|ln y12.Outer)<|share y2 λx7=>oN (inb s6.1<|ln x7)<|oN (cond (cond (cond (cond (cond (cond (ieq y1 s6.1) true false) (cond (ieq y9 s6.1) true false) false) (cond (ieq y3 s6.1) true false) false) (cond (ieq y11 s6.1) true false) false) (cond (ieq y13 s6.1) true false) false) (cond (ieq y5 s6.1) true false) false)<|share (up x7 s6.1 ({ (ix x7 y5 zf) with Out:=(ix x7 y13 zf).Out,Dirty:=(ix x7 y11 zf).Dirty,Guests:=(ix x7 y3 zf).Guests,Outs:=(ix x7 y9 zf).Outs,Pending:=y18,Traps:=y17,Tables:=(ix x7 y1 zf).Tables,Own:=y15}:Mon)) λx8=>some [aH (⟨y14,x8,zgi y8 y19,zgi y6 y19⟩:Host)])<|oN (inb s6.2.1<|ln y12.Outer)<|share y2 λx7=>oN (inb s6.1<|ln x7)<|oN (cond (cond (cond (cond (cond (cond (ieq y1 s6.1) true false) (cond (ieq y9 s6.1) true false) false) (cond (ieq y3 s6.1) true false) false) (cond (ieq y11 s6.1) true false) false) (cond (ieq y13 s6.1) true false) false) (cond (ieq y5 s6.1) true false) false)<|share (up x7 s6.1 ({ (ix x7 y5 zf) with Out:=(ix x7 y13 zf).Out,Dirty:=(ix x7 y11 zf).Dirty,Guests:=(ix x7 y3 zf).Guests,Outs:=(ix x7 y9 zf).Outs,Pending:=y18,Traps:=y17,Tables:=(ix x7 y1 zf).Tables,Own:=y15}:Mon)) λx8=>some [aH (⟨y14,x8,y8,y6⟩:Host)])) (a1,a2,(ix y7.Outer a2 zO).Page,0,a3.Page,a3.Rights,a1,a1,a1,a1,a1,y7.Pending,y7.Traps,a1,y7.Own,a0.Memory,a0.Mons,a0.Buffer,a0.IoBuffer,[],[],[],[],()))
def zOt:=zx [(385,0,{n:=70,tm:=[(1,ti),(2,ti),(4,.lp 0 0),(7,.lp 1 0),(8,.lp 2 0),(9,.lp 3 0),(10,ti),(11,ti)],lo:=[(0,[.sl 0 [],.sl 1 [],.sl 2 [],.sl 3 []]),(1,[ti,ti]),(2,[.sl 4 [],.sl 5 [],.sl 6 [],.sl 7 []]),(3,[.sl 1 [0],.sl 1 [1],.sl 1 [2],.sl 1 [3],.sl 1 [4],ti,ti,.sl 1 [7],ti])],ro:=[(0,.sl .int,true),(1,.mon,true),(2,.entry,true),(3,.entry,true),(4,.sl .int,true),(5,.mon,true),(6,.entry,true),(7,.entry,true)]})]
theorem zQY (N:Nat)(a0:Host)(a1 a2:Int)(a3:Slot):zAP (cQ zU6 zny zK4 zRR) zOt N 12 385 [true,true,true,true,false,false,false,false] 1 1 [[0],[1],[2],[4],[7]] .mon [aH a0,aI a1,aI a2,aT .slot a3]=zt6 N a0 a1 a2 a3:=by kernel_rfl
theorem zOb (a0:Host)(a1 a2:Int)(a3:Slot)(hb:zbC big [aH a0,aI a1,aI a2,aT .slot a3])(hc:zfw a0 a1 a2 a3=true):∃N,zt6 N a0 a1 a2 a3=some [aH<|zho a0 a1 a2 a3]:=by
 obtain⟨hs,h1,h2,h3⟩:=zK.1 hc;have hH:=(zM a0).1 hs;have hm:zfY (ix a0.Mons a1 zf):=hH.2.1.2 _ (zby h1 _);obtain⟨k,rfl,hk⟩:=zdX (n:=a0.Mons.length) h1;have hT:=(zct hm.2.2.2.2.2.1).1;refine zb0 λN hNN=>?_;unfold zt6 oN;conv=>zeta
 refine must h1 (must h2 ?_);refine zoV (ix a0.Mons (k:Int) zf).Tables.length (λi (t:List Mon)=>((k:Int),a2,(ix (ix a0.Mons (k:Int) zf).Outer a2 zO).Page,(i:Int),a3.Page,a3.Rights,(k:Int),(k:Int),(k:Int),(k:Int),(k:Int),(ix a0.Mons (k:Int) zf).Pending,(ix a0.Mons (k:Int) zf).Traps,(k:Int),(ix a0.Mons (k:Int) zf).Own,a0.Memory,t,a0.Buffer,a0.IoBuffer,[],[],[],[],())) _
  (λi t=>t=up a0.Mons (k:Int) (zj7 (ix a0.Mons (k:Int) zf) a2 i)) (λ_ _=>some [AV.agg<|zbf<|zb6 a0 (k:Int) a2 a3]) (λi t rec hi hI hr=>?_) (λt rec hI=>?_) _ 0 a0.Mons ?_ (jS _) ?_
 .subst hI;have hi2:i<(zkS (ix a0.Mons (k:Int) zf).Guests a2 i (ix a0.Mons (k:Int) zf).Tables).length:=(by rw[zpj];exact hi);have hi3:i<(ix a0.Mons (k:Int) zf).Guests.length:=by omega
  have hf:zhz (ix (zkS (ix a0.Mons (k:Int) zf).Guests a2 i (ix a0.Mons (k:Int) zf).Tables) (i:Int) ze2) (ix (ix a0.Mons (k:Int) zf).Guests (i:Int) zn).Live a2=true :=
   zbe ⟨by rw[zbg hi2];exact(ztY _ _ _ _ (by omega) hm.2.2.2.2.2).2 _ (jG hi2),by rw[zbg hi3];exact(hm.2.2.2.1.2 _<|jG hi3).2.2.1⟩
  simp only[zd5 hk,zt0,zj7,zbv hi2,zY hi2,zY hi3,hf,cT,share,zU hi hT];exact hr _ rfl
 {subst hI;simp only[zd5 hk,zt0,zgZ,zj7,ln,zpj,zgO,show ilt (((ix a0.Mons (k:Int) zf).Tables.length:Nat):Int) (((ix a0.Mons (k:Int) zf).Tables.length:Nat):Int)=false from qG (by omega),cT,cF,share];have h1':inb (k:Int) ((a0.Mons.length:Nat):Int)=true:=h1;have h2':inb a2 (((ix a0.Mons (k:Int) zf).Outer.length:Nat):Int)=true:=h2;have f1:zd4 a0.Buffer (ix (ix a0.Mons (k:Int) zf).Outer a2 zO).Page=true:=zbe hH.2.2.1;have f2:zd4 a0.IoBuffer (ix (ix a0.Mons (k:Int) zf).Outer a2 zO).Page=true:=zbe hH.2.2.2;simp only[h1',h2',f1,f2,cT];unfold zb6;cases ine (ix (ix a0.Mons (k:Int) zf).Outer a2 zO).Page (-1)<;>rfl};{exact(zLw hk _).symm};{exact hNN (by omega)}
theorem zHr:zek Tryz.prog 385 [true,true,true,true,false,false,false,false] (some (1,1,[[0],[1],[2],[4],[7]])) zqS:=by refine zla (kt:=.mon) (zgF zDP zo zq zu) (zje (by kernel_rfl)) (by kernel_rfl) ?_;intro avs rs hl hr h;have hb:=ziC hr;unfold zqS at h;split at h;{obtain⟨hc,rfl⟩:=zeb h;obtain⟨N,hN⟩:=zOb _ _ _ _ (by exact hb) hc;exact⟨⟨_,rfl⟩,rfl,_,N,12,(zQY N _ _ _ _ ).trans hN⟩};{cases h}
def zRS:zfn:=[(385,[true,true,true,true,false,false,false,false],some (1,1,[[0],[1],[2],[4],[7]]),zqS)]++zRR
theorem zdl:zef zRS:=zpk zu (by
 intro x hx;simp only[qI,qW,or_false]at hx;rcases hx with rfl
 .exact zHr)
def zSj (x:Mon)(p:Int):Mon:={x with Dirty:=up x.Dirty p false}
def zpm (h:Host)(m p:Int):Host:={h with Mons:=up h.Mons m (zSj (ix h.Mons m zf) p)}
def zr8 (h:Host)(m p:Int):Host:=bif zb3 h m p then (cond (zcT (ix (ix h.Mons m zf).Outer p zO) noSlot) (zpm h m p)<|zb6 (zpm h m p) m p ⟨(ix (ix h.Mons m zf).Outer p zO).Page,1⟩) else h
theorem zww:∀(l:List Mon) (u:List Bool),ziH l u=true->∀x∈l,zeG x=true
 |[],_,_,x,hx=>by cases hx
 |m::l,u,h,x,hx=>by
  simp only[ziH]at h;cases h1:zeG m;{rw [h1]at h;cases h}
  .rw [h1]at h;simp only[cT]at h;cases h2:zg0 m.Outer u with
   |none=>rw[h2]at h;cases h
   |some u' =>rw[h2]at h;rcases qI.1 hx with rfl|hx;{exact h1};{exact zww l u' h x hx}
structure PageAt (h:Host) (m p:Int):Prop where
 hm:hasB m (ln h.Mons)=true
 hp:hasB p 8=true
 ok:zeG (ix h.Mons m zf)=true
 ho:(ix h.Mons m zf).Outer.length=8
 hd:(ix h.Mons m zf).Dirty.length=8
 ht:(ix h.Mons m zf).Tables.length=(ix h.Mons m zf).Guests.length
 hs:zcT (ix (ix h.Mons m zf).Outer p zO) noSlot=ieq (ix (ix h.Mons m zf).Outer p zO).Page (-1)
theorem zMS {s:Slot}{n:Int}(h:zdV s n=true):zcT s noSlot=ieq s.Page (-1):=by unfold zdV at h;cases h1:zcT s noSlot;{rw [h1]at h;cases h2:ieq s.Page (-1);{rfl};{have e:s.Page = -1:=qD h2;cases h3:igt n 0;{rw [h3]at h;cases h};{cases h4:zi s.Page 0 (wsub .i64 n 1);{rw [h3,h4]at h;cases h};{have:=(zfM.1 h4).1;omega}}}};{unfold zcT at h1;rw[qE]at h1;exact h1.1.symm}
theorem zH9 {h:Host}{m p:Int}(hp:zb3 h m p=true):PageAt h m p:=by unfold zb3 at hp;simp only[zc7]at hp;obtain⟨h0,h1,h2⟩:=hp;unfold zb1 at h0;simp only[zc7]at h0;have hok:=zww _ _ h0.2.2.2.2 _ (zby h1 zf);have hk:=hok;unfold zeG at hk;simp only[zc7]at hk;have ho:(ix h.Mons m zf).Outer.length=8:=(by have:=zqv hk.2.2.1;simp only[ln] at this;omega);refine⟨h1,h2,hok,ho,?_,?_,?_⟩;{have:ln (ix h.Mons m zf).Dirty=8:=qD hk.2.2.2.2.1;simp only[ln] at this;omega};{have:ln (ix h.Mons m zf).Tables=ln (ix h.Mons m zf).Guests:=qD hk.2.1;simp only[ln] at this;omega};{have ht:=hk.2.2.1;unfold zcV at ht;simp only[zc7]at ht;have hi:hasB p (ln (ix h.Mons m zf).Outer)=true:=(by rw[ln,ho];exact h2);exact zMS (qM.1 ht.1 _<|zby hi _)}
theorem zRI {x:Mon}{p:Int}(h:zfY x):zfY (zSj x p):=⟨h.1,h.2.1,by simpa [zSj] using h.2.2.1,h.2.2.2⟩
theorem zw3 {h:Host}{m p:Int}(hm:hasB m (ln h.Mons)=true)(hs:SmH h):SmH (zpm h m p):=⟨hs.1,zja hs.2.1<|zRI<|hs.2.1.2 _<|zby hm _,hs.2.2⟩
theorem zDo {h:Host}{m p:Int}{s:Slot}(hm:hasB m (ln h.Mons)=true)(hs:SmH h):SmH (zb6 h m p s):=by have hx:=hs.2.1.2 _ (zby hm zf);have ht:=zYL (p:=p) (qX _) hx;have hM:zp3 (up h.Mons m {zj7 (ix h.Mons m zf) p (ix h.Mons m zf).Tables.length with Outer:=up (ix h.Mons m zf).Outer p s}):=zja hs.2.1 ⟨by simpa using hx.1,ht.2⟩;unfold zb6;cases ine (ix (ix h.Mons m zf).Outer p zO).Page (-1);{exact⟨hs.1,hM,hs.2.2⟩};{exact⟨hs.1,hM,jB (zCQ _ _) hs.2.2.1,jB (zCQ _ _) hs.2.2.2⟩}
theorem zw6 {h:Host}{m p:Int}(hm:hasB m (ln h.Mons)=true):hasB m (ln (zpm h m p).Mons)=true:=by unfold zpm;simpa [ln] using hm
theorem zYH {h:Host}{m p:Int}(hs:SmH h):SmH (zr8 h m p):=by unfold zr8;cases hp:zb3 h m p;{exact hs};{have P:=zH9 hp;cases zcT (ix (ix h.Mons m zf).Outer p zO) noSlot;{exact zDo (zw6 P.hm) (zw3 P.hm hs)};{exact zw3 P.hm hs}}
@[simp] abbrev zgA (h:Host)(m p:Int):Bool:=pc (zcJ h)
@[simp] abbrev ztJ (h:Host)(m p:Int):Host:=zr8 h m p
def zDb:Run:=rF3 dH dI dI λb c d=>(zgA b c d,[aH<|ztJ b c d,aB<|zei b c d])
def zLL (N:Nat)(a0:Host)(a1 a2:Int):OA:=
 let y3:=zk a0;let y2:=ix y3.Mons a1 zf; (oN (zba a0)<|oN (zi8 y3 a1 a2)<|cond (nB<|zei y3 a1 a2) (some [aH y3,aB false])<|oN (inb a1<|ln y3.Mons)<|oN (inb a2<|ln y2.Dirty)<|share (up y3.Mons a1 ({y2 with Dirty:=(up y2.Dirty a2 false)}:Mon)) (λx4=>let y4:=(ix x4 a1 zf).Outer;let y1:=({y3 with Mons:=x4}:Host);let y0:=ix y4 a2 zO;let y5:=({y0 with Rights:=1}:Slot); (oN (inb a1<|ln x4)<|oN (inb a2<|ln y4)<|oN zbE<|cond (cond (ieq y0.Page zW.Page) (ieq y0.Rights zW.Rights) false) (some [aH y1,aB true])<|oN (zfw y1 a1 a2 y5)<|some [aH<|zho y1 a1 a2 y5,aB true])))
theorem zSZ (a0:Host)(a1 a2:Int)(hc:zgA a0 a1 a2=true):∃N,zLL N a0 a1 a2=some [aH<|ztJ a0 a1 a2,aB<|zei a0 a1 a2]:=by
 have hs:=zK.1 hc;have hH:=(zM a0).1 hs;refine⟨0,?_⟩;unfold zLL ztJ zei zr8 oN nB;conv=>zeta
 refine must (zbe hs) (must rfl ?_);cases hp:zb3 a0 a1 a2;{simp only [zei,zk,hp,cF,cT]};{have P:=zH9 hp;obtain⟨k,rfl,hk⟩:=zdX (n:=a0.Mons.length) P.hm;simp only[zei,zk,hp,cT,cF];have i1:inb a2 (ln (ix a0.Mons (k:Int) zf).Dirty)=true:=(by rw[ln,P.hd];exact P.hp);have i2:inb a2 (ln (ix a0.Mons (k:Int) zf).Outer)=true:=(by rw[ln,P.ho];exact P.hp);refine must P.hm (must i1 ?_);simp only[share,zd5 hk,i2,cT,zbE,zW];refine must (zw6 (p:=a2) P.hm) ?_;have e:∀s:Slot,zcT s noSlot=bif ieq s.Page noSlot.Page then ieq s.Rights noSlot.Rights else false:=λs=>(by unfold zcT;cases ieq s.Page noSlot.Page<;>rfl);rw[<- e];cases zcT (ix (ix a0.Mons (k:Int) zf).Outer a2 zO) noSlot;{refine zcy rfl (must (zbe ⟨(zM _).2 (zw3 P.hm hH),zw6 (p:=a2) P.hm,?_,?_⟩) rfl);{simp only [zd5 hk];exact i2};{simp only [zd5 hk];exact k7 P.ht}};{rfl}}
theorem zNg:vJ 358 zDb:=kF3 zDP zo zq zdl (zx []) zSZ
def zXj:zS:=[(358,zDb)]++zU6
theorem zXk:zL zXj:=zh zNg zDP
def zXl:zS:=zXj
theorem zfc:zL zXl:=zXk
def zlG (o i t:Int):Int:=bif zdD i t then 1 else (cond (zdD o t) 2 0)
@[simp] abbrev zl6 (o i t:Int):Bool:=true
@[simp] abbrev zi7 (o i t:Int):Int:=zlG o i t
def zmn:Run:=rF3 dI dI dI λb c d=>(zl6 b c d,[aI<|zi7 b c d])
def zCs (N:Nat)(a0 a1 a2:Int):OA:=
 (oN (zft a1 a2)<|cond (zeS a1 a2) (some [aI 1])<|oN (zft a0 a2)<|cond (zeS a0 a2) (some [aI 2])<|some [aI 0])
theorem zxD (a0 a1 a2:Int)(hb:zbC big [aI a0,aI a1,aI a2])(hc:zl6 a0 a1 a2=true):∃N,zCs N a0 a1 a2=some [aI<|zi7 a0 a1 a2]:=by refine⟨0,?_⟩;unfold zCs oN;refine must rfl (br (λ_=>?_) λ_=>must rfl (br (λ_=>?_) λ_=>?_));all_goals first|rfl|(simp only [*,zi7,zlG,cT,cF]<;>rfl)|simp_all[Ty.cells,zi7,zlG]
theorem zG8:vJ 388 zmn:=hF3 zfc zo zq zdl (zx []) zxD
theorem zGN:vJ 171 zmn:=hF3 zfc zo zq zdl (zx []) zxD
theorem z4K (p:Int):hasB p 3=zi p 0 2:=by unfold hasB zi ige ile;by_cases h1:0<=p<;>by_cases h2:p<3;{rw [qJ (p:=0<=p/\p<3) ⟨h1,h2⟩,qJ (p:=p≥0) h1,qJ (p:=p<=2) (by omega)];rfl};{rw [qG (p:=0<=p/\p<3) (by omega),qG (p:=p<=2) (by omega)];simp};{rw [qG (p:=0<=p/\p<3) (by omega),qG (p:=p≥0) (by omega)];simp};{rw [qG (p:=0<=p/\p<3) (by omega),qG (p:=p≥0) (by omega)];simp}
theorem z4J (p:Int):hasB p 2=zi p 0 1:=by unfold hasB zi ige ile;by_cases h1:0<=p<;>by_cases h2:p<2;{rw [qJ (p:=0<=p/\p<2) ⟨h1,h2⟩,qJ (p:=p≥0) h1,qJ (p:=p<=1) (by omega)];rfl};{rw [qG (p:=0<=p/\p<2) (by omega),qG (p:=p<=1) (by omega)];simp};{rw [qG (p:=0<=p/\p<2) (by omega),qG (p:=p≥0) (by omega)];simp};{rw [qG (p:=0<=p/\p<2) (by omega),qG (p:=p≥0) (by omega)];simp}
def zd1 (m g:Int):Int:=bif zi m 0 2 then (cond (zi g 0 1) (zD .i64 (zD .i64 1 g)<|zlI .i64 m 2) 0) else 0
@[simp] abbrev zhj (m g:Int):Bool:=true
@[simp] abbrev zjZ (m g:Int):Int:=zd1 m g
def zpM:Run:=rF2 dI dI λb c=>(zhj b c,[aI<|zjZ b c])
def zLT (N:Nat)(a0 a1:Int):OA:=
 (oN (zI a0 0 2)<|cond (nB<|zi a0 0 2) (some [aI 0])<|oN (zI a1 0 1)<|cond (nB<|zi a1 0 1) (some [aI 0])<|some [aI<|zD .i64 (zD .i64 1 a1)<|zlI .i64 a0 2])
theorem zS6 (a0 a1:Int)(hc:zhj a0 a1=true):∃N,zLT N a0 a1=some [aI<|zjZ a0 a1]:=by refine⟨0,?_⟩;unfold zLT oN nB;refine must rfl (brN (λ_=>?_) λ_=>must rfl (brN (λ_=>?_) λ_=>?_));all_goals first|rfl|(simp only [*,zjZ,zd1,cT,cF]<;>rfl)|simp_all[Ty.cells,zjZ,zd1]
theorem zNn:vJ 369 zpM:=kF2 zfc zo zq zdl (zx []) zS6
def zLH (N:Nat)(a0 a1:Int):OA:=
 (oN (zbl a0 3)<|cond (nB<|zcR a0 3) (some [aI 0])<|oN (zbl a1 2)<|cond (nB<|zcR a1 2) (some [aI 0])<|some [aI<|zD .i64 (zD .i64 1 a1)<|zlI .i64 a0 2])
theorem zSV (a0 a1:Int)(hc:zhj a0 a1=true):∃N,zLH N a0 a1=some [aI<|zjZ a0 a1]:=by refine⟨0,?_⟩;unfold zLH oN nB;refine must rfl (brN (λ_=>?_) λ_=>must rfl (brN (λ_=>?_) λ_=>?_));all_goals first|rfl|(simp only [*,zjZ,zd1,z4K,z4J,cT,cF]<;>rfl)|simp_all[Ty.cells,zjZ,zd1,z4K,z4J]
theorem zNb:vJ 123 zpM:=kF2 zfc zo zq zdl (zx []) zSV
def zjE (k:Kept)(p:Int):Bool:=bif zdf k p then ix k.Known p false else false
def zdT (k:Kept)(p:Int):Slot:=bif zjE k p then ix k.Slots p zO else noSlot
@[simp] abbrev zhV (k:Kept)(p:Int):Slot:=zdT k p
@[simp] abbrev zm8 (k:Kept)(p:Int):Bool:=zjE k p
def zMM:Run:=rF2 (dT .kept) dI λb c=>(zdv b c,[aT .slot<|zhV b c,aB<|zm8 b c])
def zTJ (N:Nat)(a0:Kept)(a1:Int):OA:=
 let y0:=ix a0.Slots a1 zO; (oN (zdv a0 a1)<|cond (nB<|ziq a0 a1) (oN zbE<|some [.agg [.i .i64 zW.Page,.i .i64 zW.Rights],aB false])<|oN (inb a1<|ln a0.Known)<|cond (nB<|ix a0.Known a1 false) (oN zbE<|some [.agg [.i .i64 zW.Page,.i .i64 zW.Rights],aB false])<|oN (inb a1<|ln a0.Slots)<|some [.agg [.i .i64 y0.Page,.i .i64 y0.Rights],aB true])
theorem zXV (a0:Kept)(a1:Int)(hc:zdv a0 a1=true):∃N,zTJ N a0 a1=some [aT .slot<|zhV a0 a1,aB<|zm8 a0 a1]:=by
 have hs:=zK.1 hc;refine⟨0,?_⟩;unfold zTJ zhV zm8 zdT zjE oN nB;conv=>zeta
 refine must (zbe hs) ?_;rw[show ziq a0 a1=zdf a0 a1 from rfl];cases hh:zdf a0 a1;{rfl};{unfold zdf at hh;obtain⟨h1,h2⟩:=zc7.1 hh;simp only[zA h1,zA h2,cT];cases ix a0.Known a1 false<;>rfl}
theorem zSO:vJ 391 zMM:=kF2 zfc zo zq zdl (zx []) zXV
@[simp] abbrev zva (k:Kept)(p:Int):Bool:=true
def zMJ:Run:=rF2 (dT .kept) dI λb c=>(zva b c,[aT .slot<|zhV b c,aB<|zm8 b c])
def zTF (N:Nat)(a0:Kept)(a1:Int):OA:=
 let y0:=ix a0.Slots a1 zO; (oN (zbl a1<|ln a0.Known)<|cond (nB<|zcR a1<|ln a0.Known) (oN zbE<|some [.agg [.i .i64 zW.Page,.i .i64 zW.Rights],aB false])<|oN (zbl a1<|ln a0.Slots)<|cond (nB<|zcR a1<|ln a0.Slots) (oN zbE<|some [.agg [.i .i64 zW.Page,.i .i64 zW.Rights],aB false])<|oN (inb a1<|ln a0.Known)<|cond (nB<|ix a0.Known a1 false) (oN zbE<|some [.agg [.i .i64 zW.Page,.i .i64 zW.Rights],aB false])<|oN (inb a1<|ln a0.Slots)<|some [.agg [.i .i64 y0.Page,.i .i64 y0.Rights],aB true])
theorem zXR (a0:Kept)(a1:Int)(hc:zva a0 a1=true):∃N,zTF N a0 a1=some [aT .slot<|zhV a0 a1,aB<|zm8 a0 a1]:=by
 refine⟨0,?_⟩;unfold zTF zhV zm8 zdT zjE zdf oN nB;conv=>zeta
 rw[show zcR a1 (ln a0.Known)=hasB a1 (ln a0.Known) from rfl,show zcR a1 (ln a0.Slots)=hasB a1 (ln a0.Slots) from rfl];cases h1:hasB a1 (ln a0.Known);{rfl};{cases h2:hasB a1 (ln a0.Slots);{rfl};{simp only [zbl,zA h1,zA h2,cT];cases ix a0.Known a1 false<;>rfl}}
theorem zSK:vJ 85 zMJ:=kF2 zfc zo zq zdl (zx []) zXR
def filled (k:Kept)(inner outer:List Slot)(p:Int):Kept:=bif zdf k p then (cond (hasB p<|ln inner) ⟨up k.Known p true,up k.Slots p<|zbq (ix inner p zO) outer⟩ k) else k
@[simp] theorem zWw {k:Kept}{inner outer:List Slot}{p:Int}(h:SmK k):SmK (filled k inner outer p):=by unfold filled;cases zdf k p;{exact h};{cases hasB p (ln inner);{exact h};{exact⟨by simpa using h.1,by simpa using h.2⟩}}
@[simp] abbrev zsv (k:Kept)(i o:List Slot)(p:Int):Bool:=pc (SmK k)
@[simp] abbrev zsu (k:Kept)(i o:List Slot)(p:Int):Kept:=filled k i o p
def zrn:Run:=rF4 (dT .kept) (dS .slot) (dS .slot) dI λb c d e=>(zsv b c d e,[aT .kept<|zsu b c d e])
def zOR (N:Nat)(a0:Kept)(a1 a2:lS)(a3:Int):OA:=
 let y0:=zdL a0; (oN (zgl a0)<|oN (zdv y0 a3)<|cond (ziq y0 a3) (cond (ilt a3<|ln a1) (oN (inb a3<|ln y0.Known)<|share (up y0.Known a3 true) λx5=>oN (inb a3<|ln a1)<|oN (zgI (ix a1 a3 zO) a2)<|oN (inb a3<|ln y0.Slots)<|share (up y0.Slots a3<|zjI (ix a1 a3 zO) a2) λx6=>some [aT .kept (⟨x5,x6⟩:Kept)])<|some [aT .kept y0])<|some [aT .kept y0])
theorem zVS (a0:Kept)(a1 a2:List Slot)(a3:Int)(hc:zsv a0 a1 a2 a3=true):∃N,zOR N a0 a1 a2 a3=some [aT .kept<|zsu a0 a1 a2 a3]:=by
 have hs:=zK.1 hc;refine⟨0,?_⟩;unfold zOR zsu filled oN;conv=>zeta
 refine must (zbe<|(zuW _).2 hs) (must (zbe hs) ?_);rw[show ziq (zdL a0) a3=zdf a0 a3 from rfl];cases hh:zdf a0 a3;{rfl};{unfold zdf at hh;obtain⟨h1,h2⟩:=zc7.1 hh;rw[has_lt h1 (m:=ln a1)];cases h3:hasB a3 (ln a1);{rfl};{simp only [cT,zdL,zA h1,zA h2,zA h3,share,zgI];rfl}}
theorem zPX:vJ 392 zrn:=kF4 zfc zo zq zdl (zx []) zVS
def zOP (N:Nat)(a0:Kept)(a1 a2:lS)(a3:Int):OA:=
 let y0:=zdp a0; (oN (zem a0)<|oN (zbl a3<|ln a0.Known)<|cond (zcR a3<|ln a0.Known) (oN (zbl a3<|ln a0.Slots)<|cond (zcR a3<|ln a0.Slots) (oN (zbl a3<|ln a1)<|cond (zcR a3<|ln a1) (oN (inb a3<|ln y0.Known)<|share (up y0.Known a3 true) λx5=>oN (inb a3<|ln a1)<|oN (zgI (ix a1 a3 zO) a2)<|oN (inb a3<|ln y0.Slots)<|share (up y0.Slots a3<|zjI (ix a1 a3 zO) a2) λx6=>some [aT .kept (⟨x5,x6⟩:Kept)])<|some [aT .kept y0])<|some [aT .kept y0])<|some [aT .kept y0])
theorem zVO (a0:Kept)(a1 a2:List Slot)(a3:Int)(hc:zsv a0 a1 a2 a3=true):∃N,zOP N a0 a1 a2 a3=some [aT .kept<|zsu a0 a1 a2 a3]:=by
 have hs:=zK.1 hc;refine⟨0,?_⟩;unfold zOP zsu filled zdf oN;conv=>zeta
 refine must (zbe hs) ?_;simp only[zcR,zbl,zdp,cT];cases h1:hasB a3 (ln a0.Known);{rfl};{cases h2:hasB a3 (ln a0.Slots);{rfl};{cases h3:hasB a3 (ln a1);{rfl};{simp only [cT,zA h1,zA h2,zA h3,share,zgI];rfl}}}
theorem zPS:vJ 273 zrn:=kF4 zfc zo zq zdl (zx []) zVO
theorem zDY {α ρ:Type}(p:α->Bool)(r:α->Option ρ)(K:Unit->Option ρ):∀(l:List α) (i:Nat),goL (λ_ x (_:Unit) k=>bif p x then r x else k ()) K l i ()=match l.find? p with|some x=>r x|none=>K ()
 |[],_=>rfl
 |x::l,i=>by simp only[goL];cases h:p x;{rw [List.find?_cons_of_neg (by simp[h])];exact zDY p r K l (i+1)};{rw [List.find?_cons_of_pos h];rfl}
def zwk (b:List Entry)(t p:Int):Option Entry:=b.find? λe=>bif ieq e.Tag t then ieq e.Page p else false
@[simp] abbrev zgS (b:List Entry)(t p:Int):Bool:=true
@[simp] abbrev zfV (b:List Entry)(t p:Int):Entry:=(zwk b t p).getD ⟨0,0,0,0⟩
@[simp] abbrev ze5 (b:List Entry)(t p:Int):Bool:=(zwk b t p).isSome
def zkd:Run:=rF3 (dS .entry) dI dI λb c d=>(zgS b c d,[aT .entry<|zfV b c d,aB<|ze5 b c d])
def zxn (N:Nat)(a0:lE)(a1 a2:Int):OA:=
 (iter (σ:=(Int×Int×Int×Int×Int×Int×Int×lE×Unit)) N (λr4 s5=>let y2:=s5.2.2.2.2.2.2.2.1;let y3:=inb s5.2.2.1<|ln y2;let y1:=r4 (s5.1,s5.2.1,zD .i64 s5.2.2.1 1,s5.2.2.2.1,s5.2.2.2.2.1,s5.2.2.2.2.2.1,s5.2.2.2.2.2.2.1,y2,());let y0:=ix y2 s5.2.2.1 zfR; (cond (ilt s5.2.2.1<|ln y2) (oN y3<|cond (ieq y0.Tag s5.1) (oN y3<|cond (ieq y0.Page s5.2.1) (oN y3<|some [.agg [.i .i64 y0.Tag,.i .i64 y0.Page,.i .i64 y0.Host,.i .i64 y0.Rights],aB true]) y1) y1)<|some [.agg [.i .i64 0,.i .i64 0,.i .i64 0,.i .i64 0],aB false])) (a1,a2,0,0,0,0,0,a0,()))
def zIP:=zx [(390,0,{n:=36,tm:=[(0,.sl 0 []),(1,ti),(2,ti),(6,.lp 0 0),(8,ti)],lo:=[(0,[ti,ti,ti,ti])],ro:=[(0,.entry,false)]})]
theorem zHN (a0:List Entry)(a1 a2:Int)(hb:zbC big [aS .entry a0,aI a1,aI a2])(hc:zgS a0 a1 a2=true):∃N,zxn N a0 a1 a2=some [aT .entry<|zfV a0 a1 a2,aB<|ze5 a0 a1 a2]:=by
 have hl:=len0 hb;refine zb0 λN hNN=>?_;unfold zxn oN;conv=>zeta
 refine(zbd a0 (λi (t:Unit)=>(a1,a2,(i:Int),0,0,0,0,a0,())) _ (λ_ (x:Entry) (_:Unit) κ=>bif (cond (ieq x.Tag a1) (ieq x.Page a2) false) then (some [AV.agg<|Ty.cells .entry x,AV.one<|.b true]) else κ ()) (λ(t:Unit)=>some [.agg [.i .i64 0,.i .i64 0,.i .i64 0,.i .i64 0],.one<|.b false]) (λi hi t rec=>?_) (λt rec=>?_) _ ()<|hNN hl).trans ?_;{simp only [zbv hi,zY hi,zbg hi,zU hi hl,cT];cases ieq a0[i].Tag a1<;>cases ieq a0[i].Page a2<;>rfl};{simp only [zbm,cF]};rw[zDY λe:Entry=>bif ieq e.Tag a1 then ieq e.Page a2 else false];unfold zfV ze5 zwk;cases a0.find? (λe:Entry=>bif ieq e.Tag a1 then ieq e.Page a2 else false)<;>rfl
theorem zBn:vJ 390 zkd:=hF3 zfc zo zq zdl zIP zHN
def zxc (N:Nat)(a0:lE)(a1 a2:Int):OA:=
 (iter (σ:=(Int×Int×Int×Int×Int×Int×Int×Int×lE×Unit)) N (λr4 s5=>let y2:=s5.2.2.2.2.2.2.2.2.1;let y1:=r4 (s5.1,s5.2.1,s5.2.2.1,zD .i64 s5.2.2.2.1 1,s5.2.2.2.2.1,s5.2.2.2.2.2.1,s5.2.2.2.2.2.2.1,s5.2.2.2.2.2.2.2.1,y2,());let y0:=ix y2 s5.2.2.2.1 zfR; (cond (ilt s5.2.2.2.1 s5.2.2.1) (oN (inb s5.2.2.2.1<|ln y2)<|cond (ieq y0.Tag s5.1) (cond (ieq y0.Page s5.2.1) (some [.agg [.i .i64 y0.Tag,.i .i64 y0.Page,.i .i64 y0.Host,.i .i64 y0.Rights],aB true]) y1) y1)<|some [.agg [.i .i64 0,.i .i64 0,.i .i64 0,.i .i64 0],aB false])) (a1,a2,ln a0,0,0,0,0,0,a0,()))
def zIL:=zx [(272,0,{n:=29,tm:=[(1,ti),(2,ti),(6,.lp 0 0),(10,.sl 0 []),(11,ti),(12,ti)],lo:=[(0,[ti,ti,ti,ti])],ro:=[(0,.entry,false)]})]
theorem zHD (a0:List Entry)(a1 a2:Int)(hb:zbC big [aS .entry a0,aI a1,aI a2])(hc:zgS a0 a1 a2=true):∃N,zxc N a0 a1 a2=some [aT .entry<|zfV a0 a1 a2,aB<|ze5 a0 a1 a2]:=by
 have hl:=len0 hb;refine zb0 λN hNN=>?_;unfold zxc oN;conv=>zeta
 refine(zbd a0 (λi (t:Unit)=>(a1,a2,ln a0,(i:Int),0,0,0,0,a0,())) _ (λ_ (x:Entry) (_:Unit) κ=>bif (cond (ieq x.Tag a1) (ieq x.Page a2) false) then (some [AV.agg<|Ty.cells .entry x,AV.one<|.b true]) else κ ()) (λ(t:Unit)=>some [.agg [.i .i64 0,.i .i64 0,.i .i64 0,.i .i64 0],.one<|.b false]) (λi hi t rec=>?_) (λt rec=>?_) _ ()<|hNN hl).trans ?_;{simp only [zbv hi,zY hi,zbg hi,zU hi hl,cT];cases ieq a0[i].Tag a1<;>cases ieq a0[i].Page a2<;>rfl};{simp only [zbm,cF]};rw[zDY λe:Entry=>bif ieq e.Tag a1 then ieq e.Page a2 else false];unfold zfV ze5 zwk;cases a0.find? (λe:Entry=>bif ieq e.Tag a1 then ieq e.Page a2 else false)<;>rfl
theorem zBc:vJ 272 zkd:=hF3 zfc zo zq zdl zIL zHD
def zql (t p:Int)(e:Entry):Bool:=bif ine e.Tag t then true else ine e.Page p
def zcB (b:List Entry)(t p:Int):List Entry:=b.filter (zql t p)
theorem zwl (b:List Entry)(t p:Int):(zcB b t p).length<=b.length:=k8 _ _
@[simp] abbrev ze6 (b:List Entry)(t p:Int):Bool:=pc (b.length<=1048576)
@[simp] abbrev zhf (b:List Entry)(t p:Int):List Entry:=zcB b t p
def zkf:Run:=rF3 (dS .entry) dI dI λb c d=>(ze6 b c d,[aS .entry<|zhf b c d])
def zxp (N:Nat)(a0:lE)(a1 a2:Int):OA:=
 (iter (σ:=(Int×Int×Int×lE×lE×Unit)) N (λr4 s5=>let y4:=s5.2.2.2.1;let y2:=inb s5.2.2.1<|ln y4;let y0:=ix y4 s5.2.2.1 zfR;let y3:=ap s5.2.2.2.2.1 [y0];let y1:=r4 (s5.1,s5.2.1,zD .i64 s5.2.2.1 1,y4,y3,()); (cond (ilt s5.2.2.1<|ln y4) (oN y2<|cond (ine y0.Tag s5.1) (oN y2<|oN (few<|ln y3) y1)<|oN y2<|cond (ine y0.Page s5.2.1) (oN y2<|oN (few<|ln y3) y1)<|r4 (s5.1,s5.2.1,zD .i64 s5.2.2.1 1,y4,s5.2.2.2.2.1,()))<|some [aS .entry s5.2.2.2.2.1])) (a1,a2,0,a0,[],()))
def zIR:=zx [(368,0,{n:=40,tm:=[(0,.sl 0 []),(1,ti),(2,ti),(7,.sl 1 []),(8,ti)],lo:=[],ro:=[(0,.entry,false),(1,.entry,true)]})]
theorem zHP (a0:List Entry)(a1 a2:Int)(hc:ze6 a0 a1 a2=true):∃N,zxp N a0 a1 a2=some [aS .entry<|zhf a0 a1 a2]:=by
 have hs:=zK.1 hc;have hl:=zct hs;refine zb0 λN hNN=>?_;unfold zxp oN;conv=>zeta
 refine(zbd a0 (λi (t:lE)=>(a1,a2,(i:Int),a0,t,())) _ (λ_ (x:Entry) (t:List Entry) κ=>bif zql a1 a2 x then (cond (few<|ln<|ap t [x]) (κ<|ap t [x]) none) else κ t) (λ(t:lE)=>some [.one<|.s .entry t]) (λi hi t rec=>?_) (λt rec=>?_) _ ([])<|hNN hl.1).trans ?_;{simp only [zbv hi,zY hi,zbg hi,zU hi hl.1,cT];unfold zql;cases ine a0[i].Tag a1<;>cases ine a0[i].Page a2<;>rfl};{simp only [zbm,cF]};exact zk8 (zql a1 a2) _ a0 0 [] (by simpa using hl.2)
theorem zBp:vJ 368 zkf:=kF3 zfc zo zq zdl zIR zHP
def zxe (N:Nat)(a0:lE)(a1 a2:Int):OA:=
 (iter (σ:=(Int×Int×Int×Int×lE×lE×Unit)) N (λr4 s5=>let y3:=s5.2.2.2.2.2.1;let y0:=ix y3 s5.2.1 zfR;let y2:=ap s5.2.2.2.2.1 [y0];let y1:=r4 (s5.1,zD .i64 s5.2.1 1,s5.2.2.1,s5.2.2.2.1,y2,y3,()); (cond (ilt s5.2.1 s5.1) (oN (inb s5.2.1<|ln y3)<|cond (ieq y0.Tag s5.2.2.1) (cond (nB<|ieq y0.Page s5.2.2.2.1) (oN (few<|ln y2) y1)<|r4 (s5.1,zD .i64 s5.2.1 1,s5.2.2.1,s5.2.2.2.1,s5.2.2.2.2.1,y3,()))<|oN (few<|ln y2) y1)<|some [aS .entry s5.2.2.2.2.1])) (ln a0,0,a1,a2,[],a0,()))
def zIN:=zx [(237,0,{n:=25,tm:=[(1,.fn 238 [0,1]),(5,.sl 0 []),(9,.sl 1 []),(10,ti),(11,ti)],lo:=[(0,[ti]),(1,[ti])],ro:=[(0,.entry,true),(1,.entry,false)]})]
theorem zHF (a0:List Entry)(a1 a2:Int)(hc:ze6 a0 a1 a2=true):∃N,zxe N a0 a1 a2=some [aS .entry<|zhf a0 a1 a2]:=by
 have hs:=zK.1 hc;have hl:=zct hs;refine zb0 λN hNN=>?_;unfold zxe oN nB;conv=>zeta
 refine(zbd a0 (λi (t:lE)=>(ln a0,(i:Int),a1,a2,t,a0,())) _ (λ_ (x:Entry) (t:List Entry) κ=>bif zql a1 a2 x then (cond (few<|ln<|ap t [x]) (κ<|ap t [x]) none) else κ t) (λ(t:lE)=>some [.one<|.s .entry t]) (λi hi t rec=>?_) (λt rec=>?_) _ ([])<|hNN hl.1).trans ?_;{simp only [zbv hi,zY hi,zbg hi,zU hi hl.1,cT];unfold zql;simp only[zjU];cases ieq a0[i].Tag a1<;>cases ieq a0[i].Page a2<;>rfl};{simp only [zbm,cF]};exact zk8 (zql a1 a2) _ a0 0 [] (by simpa using hl.2)
theorem zBe:vJ 122 zkf:=kF3 zfc zo zq zdl zIN zHF
def z1w:zS:=[(388,zmn),(171,zmn),(369,zpM),(123,zpM),(391,zMM),(85,zMJ),(392,zrn),(273,zrn),(390,zkd),(272,zkd),(368,zkf),(122,zkf)]++zXl
theorem zrZ:zL z1w:=zh zG8 (zh zGN<|zh zNn<|zh zNb<|zh zSO<|zh zSK<|zh zPX<|zh zPS<|zh zBn<|zh zBc<|zh zBp<|zh zBe zfc)
def zqL (b:List Entry)(e:Entry):List Entry:=bif igt (ln<|ap (zcB b e.Tag e.Page) [e]) 6 then dp (ap (zcB b e.Tag e.Page) [e]) (wsub .i64 (ln<|ap (zcB b e.Tag e.Page) [e]) 6) else ap (zcB b e.Tag e.Page) [e]
theorem zwT {b:List Entry}(e:Entry)(h:b.length<=1048576):(zqL b e).length<=1048576/\(ap (zcB b e.Tag e.Page) [e]).length<=1048577:=by have h1:=zwl b e.Tag e.Page;have h2:(ap (zcB b e.Tag e.Page) [e]).length<=1048577:=(by simp[ap];omega);refine⟨?_,h2⟩;unfold zqL;cases h3:igt (ln<|ap (zcB b e.Tag e.Page) [e]) 6;{have h3:=jQ h3;simp only[ln]at h3;simp only[cF];omega};{simp only [cT,dp,List.length_drop];have h3:=qD h3;have:wsub .i64 (ln<|ap (zcB b e.Tag e.Page) [e]) 6=ln (ap (zcB b e.Tag e.Page) [e])-6:=zrO (by simp only[ln] at *;omega) (by simp only[ln] at *;omega);rw[this];simp only[ln] at *;omega}
@[simp] abbrev zhK (b:List Entry)(e:Entry):Bool:=pc (b.length<=1048576)
@[simp] abbrev zg7 (b:List Entry)(e:Entry):List Entry:=zqL b e
def zln:Run:=rF2 (dS .entry) (dT .entry) λb c=>(zhK b c,[aS .entry<|zg7 b c])
def zyT (N:Nat)(a0:lE)(a1:Entry):OA:=
 let y0:=ap (zhf a0 a1.Tag a1.Page) [a1];let y1:=wsub .i64 (ln y0) 6; (oN (ze6 a0 a1.Tag a1.Page)<|oN (few<|ln y0)<|cond (igt (ln y0) 6) (oN (inr y1 (ln y0)<|ln y0)<|oN (few<|ln<|ap []<|dp y0 y1)<|some [aS .entry<|ap []<|dp y0 y1])<|some [aS .entry y0])
theorem zKJ (a0:List Entry)(a1:Entry)(hc:zhK a0 a1=true):∃N,zyT N a0 a1=some [aS .entry<|zg7 a0 a1]:=by
 have hs:=zK.1 hc;obtain⟨h1,h2⟩:=zwT a1 hs;refine⟨0,?_⟩;unfold zyT oN;conv=>zeta
 refine must (zbe hs) (must (zgt<|jB h2 (by decide:1048577<=2147483648)) ?_);unfold zg7 zqL at *;show _=some [AV.one<|.s .entry<|cond (igt (ln<|ap (zcB a0 a1.Tag a1.Page) [a1]) 6) (dp (ap (zcB a0 a1.Tag a1.Page) [a1])<|wsub .i64 (ln<|ap (zcB a0 a1.Tag a1.Page) [a1]) 6)<|ap (zcB a0 a1.Tag a1.Page) [a1]];cases h3:igt (ln<|ap (zcB a0 a1.Tag a1.Page) [a1]) 6;{rfl};{rw [h3]at h1;simp only[cT]at h1;have h3:=qD h3;have e:wsub .i64 (ln<|ap (zcB a0 a1.Tag a1.Page) [a1]) 6=ln (ap (zcB a0 a1.Tag a1.Page) [a1])-6:=zrO (by simp only[ln] at *;omega) (by simp only[ln] at *;omega);refine must rfl (must (qJ ?_)<|must ?_ ?_);{show 0<=wsub .i64 (ln<|ap (zcB a0 a1.Tag a1.Page) [a1]) 6/\wsub .i64 (ln<|ap (zcB a0 a1.Tag a1.Page) [a1]) 6<=ln (ap (zcB a0 a1.Tag a1.Page) [a1])/\ln (ap (zcB a0 a1.Tag a1.Page) [a1])<=ln (ap (zcB a0 a1.Tag a1.Page) [a1]);rw[e];simp only[ln] at *;omega};{exact zmZ h1};{rw [zlM];rfl}}
theorem zEs:vJ 393 zln:=kF2 zrZ zo zq zdl (zx []) zKJ
def zyy (N:Nat)(a0:lE)(a1:Entry):OA:=
 let y0:=ap (zhf a0 a1.Tag a1.Page) [a1];let y1:=imax 0<|wsub .i64 (ln y0) 6; (oN (ze6 a0 a1.Tag a1.Page)<|oN (few<|ln y0)<|oN (inr y1 (ln y0)<|ln y0)<|some [aS .entry<|dp y0 y1])
theorem zKq (a0:List Entry)(a1:Entry)(hc:zhK a0 a1=true):∃N,zyy N a0 a1=some [aS .entry<|zg7 a0 a1]:=by
 have hs:=zK.1 hc;obtain⟨_,h2⟩:=zwT a1 hs;refine⟨0,?_⟩;unfold zyy zg7 zqL oN;conv=>zeta
 simp only[zhf];generalize ap (zcB a0 a1.Tag a1.Page) [a1]=l at h2 ⊢;refine must (zbe hs) (must (zgt<|jB h2 (by decide:1048577<=2147483648)) ?_);have e:wsub .i64 (ln l) 6=ln l-6:=zrO (by simp only[ln] at *;omega) (by simp only[ln] at *;omega);rw[e];cases h3:igt (ln l) 6;{have h3:=jQ h3;have e2:imax 0 (ln l-6)=0:=(by unfold imax;rw[if_neg (by omega)]);rw[e2];exact must (qJ (by simp only[ln];omega)) (by simp[dp])};{have h3:=qD h3;have e2:imax 0 (ln l-6)=ln l-6:=(by unfold imax;rw[if_pos (by omega)]);rw[e2];exact must (qJ (by simp only[ln] at *;omega)) rfl}
theorem zD6:vJ 274 zln:=kF2 zrZ zo zq zdl (zx []) zKq
def znr (l:List Slot)(p:Int):Option Nat:=l.findIdx? λs=>ieq s.Page p
def zh7 (p:Int):List Mon->Nat->Int×Int
 |[],_=>(-1,-1)
 |m::l,i=>match znr m.Outer p with|some k=>((i:Int),(k:Int))|none=>zh7 p l (i+1)
def zbD (h:Host)(p:Int):Int×Int:=bif ilt p 0 then (-1,-1) else zh7 p h.Mons 0
theorem zMo {ρ:Type}(p:Slot->Bool)(r:Nat->Option ρ)(K:Unit->Option ρ):∀(l:List Slot) (i:Nat),goL (λj x (_:Unit) k=>bif p x then r j else k ()) K l i ()=match l.findIdx? p with|some k=>r (i+k)|none=>K ()
 |[],_=>rfl
 |x::l,i=>by simp only[goL];rw[List.findIdx?_cons];cases h:p x;{simp only [cF,j8,if_false];rw[zMo p r K l<|i+1];cases l.findIdx? p with|none=>rfl|some k=>simp only[Option.map_some];congr 1;omega};{rfl}
theorem zJd {ρ:Type}(p:Int)(r:Int->Int->Option ρ):∀(l:List Mon) (i:Nat),goL (λi (x:Mon) (_:Unit) κ=>goL (λj (y:Slot) (_:Unit) κ₁=>bif ieq y.Page p then r (i:Int) (j:Int) else κ₁ ()) (λ_=>κ ()) x.Outer 0 ()) (λ_=>r (-1) (-1)) l i ()=r (zh7 p l i).1 (zh7 p l i).2
 |[],_=>rfl
 |m::l,i=>by simp only[goL,zh7];rw[zMo (λs=>ieq s.Page p) λj=>r (i:Int) (j:Int)];unfold znr;cases m.Outer.findIdx? (λs=>ieq s.Page p) with|none=>exact zJd p r l (i+1)|some k=>simp only[jT]
@[simp] abbrev zfD (h:Host)(p:Int):Bool:=true
@[simp] abbrev zdo (h:Host)(p:Int):Int:=(zbD h p).1
@[simp] abbrev zeh (h:Host)(p:Int):Int:=(zbD h p).2
def ziw:Run:=rF2 dH dI λb c=>(zfD b c,[aI<|zdo b c,aI<|zeh b c])
def zsO (N:Nat)(a0:Host)(a1:Int):OA:=
 (cond (ilt a1 0) (some [aI<|-1,aI<|-1])<|iter (σ:=(Int×Int×Int×lN×Unit)) N (λr3 s4=>let y3:=s4.2.2.1; (cond (ilt y3 s4.2.1) (oN (inb y3<|ln s4.2.2.2.1)<|iter (σ:=(Int×Int×Int×Int×Int×Int×Int×lN×Unit)) N (λr5 s6=>let y2:=s6.2.2.2.2.2.2.2.1;let y1:=(ix y2 s6.2.2.2.2.1 zf).Outer;let y0:=s6.2.2.2.2.2.2.1; (cond (ilt y0 s6.2.2.2.2.2.1) (oN (inb y0<|ln y1)<|cond (ieq (ix y1 y0 zO).Page s6.1) (some [aI s6.2.1,aI y0])<|r5 (s6.1,s6.2.1,s6.2.2.1,s6.2.2.2.1,s6.2.2.2.2.1,s6.2.2.2.2.2.1,zD .i64 y0 1,y2,()))<|r3 (s6.1,s6.2.2.1,zD .i64 s6.2.2.2.1 1,y2,()))) (s4.1,y3,s4.2.1,y3,y3,ln (ix s4.2.2.2.1 y3 zf).Outer,0,s4.2.2.2.1,()))<|some [aI<|-1,aI<|-1])) (a1,ln a0.Mons,0,a0.Mons,()))
def zBY:=zx [(307,0,{n:=36,tm:=[(1,ti),(13,.sl 0 []),(14,ti),(15,ti)],lo:=[],ro:=[(0,.mon,false)]}),(307,2,{n:=36,tm:=[(1,ti),(6,ti),(13,.sl 0 []),(14,ti),(15,ti),(21,.sl 0 [0]),(22,ti),(23,ti)],lo:=[],ro:=[(0,.mon,false)]})]
theorem zBF (a0:Host)(a1:Int)(hb:zbC big [aH a0,aI a1])(hc:zfD a0 a1=true):∃N,zsO N a0 a1=some [aI<|zdo a0 a1,aI<|zeh a0 a1]:=by
 have hm:CVB big (.s .mon a0.Mons):=(zc6 hb).1 _ (by simp[AV.cvs,zbf]);have hl:=hm.len;refine zb0 λN hNN=>?_;unfold zsO zdo zeh zbD oN;conv=>zeta
 cases h0:ilt a1 0;{simp only [cF];refine(zbd a0.Mons (λi (t:Unit)=>(a1,ln a0.Mons,(i:Int),a0.Mons,())) _ (λi (x:Mon) (_:Unit) κ=>goL (λj (y:Slot) (_:Unit) κ₁=>bif ieq y.Page a1 then some [AV.one<|.i .i64 (i:Int),AV.one<|.i .i64 (j:Int)] else κ₁ ()) (λ_=>κ ()) x.Outer 0 ()) (λ(t:Unit)=>some [.one<|.i .i64<|-1,.one<|.i .i64<|-1]) (λi hi t rec=>?_) (λt rec=>?_) _ ()<|hNN hl).trans ?_;{simp only [zbv hi,zY hi,zbg hi,zU hi hl,cT];have ho:a0.Mons[i].Outer.length<=big:=(hm.inv.2 _ (jG hi) (.s .slot _) (by simp[Ty.cells])).len;refine(zbd a0.Mons[i].Outer (λj (u:Unit)=>(a1,(i:Int),ln a0.Mons,(i:Int),(i:Int),ln a0.Mons[i].Outer,(j:Int),a0.Mons,())) _ (λj (y:Slot) (_:Unit) κ₁=>bif ieq y.Page a1 then some [AV.one<|.i .i64 (i:Int),AV.one<|.i .i64 (j:Int)] else κ₁ ()) (λ(u:Unit)=>rec (a1,ln a0.Mons,((i+1:Nat):Int),a0.Mons,())) (λj hj u rec1=>?_) (λu rec1=>?_) _ ()<|hNN ho).trans ?_;{simp only [zbv hj,zY hj,zbg hj,zU hj ho,cT,zY hi,zbg hi,zU hi hl]};{simp only [zbm,cF,zY hi,zbg hi,zU hi hl]};rfl};{simp only [zbm,cF]};exact zJd a1 (λi j=>some [AV.one<|.i .i64 i,AV.one<|.i .i64 j]) a0.Mons 0};{rfl}
theorem zyh:vJ 307 ziw:=hF2 zrZ zo zq zdl zBY zBF
theorem zXF {α τ ρ:Type}(r:Option ρ):∀(l:List α) (i:Nat) (t:τ),goL (λ_ _ _ _=>r) (λ_=>r) l i t=r
 |[],_,_=>rfl
 |_::_,_,_=>rfl
def zs3 (N:Nat)(a0:Host)(a1:Int):OA:=
 (iter (σ:=(Int×Int×lM×lN×lE×lE×Unit)) N (λr3 s4=>cond (ilt s4.2.1<|ln s4.2.2.2.1) (cond (ige s4.1 0) (iter (σ:=(Int×Int×Int×lM×lN×lE×lE×Unit)) N (λr5 s6=>let y1:=s6.2.2.2.2.1;let y0:=(ix y1 s6.2.1 zf).Outer; (oN (inb s6.2.1<|ln y1)<|cond (ilt s6.2.2.1<|ln y0) (oN (inb s6.2.1<|ln y1)<|oN (inb s6.2.2.1<|ln y0)<|cond (ieq (ix y0 s6.2.2.1 zO).Page s6.1) (some [aI s6.2.1,aI s6.2.2.1])<|r5 (s6.1,s6.2.1,zD .i64 s6.2.2.1 1,s6.2.2.2.1,y1,s6.2.2.2.2.2.1,s6.2.2.2.2.2.2.1,()))<|r3 (s6.1,zD .i64 s6.2.1 1,s6.2.2.2.1,y1,s6.2.2.2.2.2.1,s6.2.2.2.2.2.2.1,()))) (s4.1,s4.2.1,0,s4.2.2.1,s4.2.2.2.1,s4.2.2.2.2.1,s4.2.2.2.2.2.1,()))<|some [aI<|-1,aI<|-1])<|some [aI<|-1,aI<|-1]) (a1,0,a0.Memory,a0.Mons,a0.Buffer,a0.IoBuffer,()))
def zBZ:=zx [(396,0,{n:=44,tm:=[(1,ti),(2,.lp 0 0),(6,ti)],lo:=[(0,[.sl 0 [],.sl 1 [],.sl 2 [],.sl 3 []])],ro:=[(0,.sl .int,false),(1,.mon,false),(2,.entry,false),(3,.entry,false)]}),(396,2,{n:=44,tm:=[(1,ti),(2,.lp 0 0),(6,ti),(7,ti)],lo:=[(0,[.sl 0 [],.sl 1 [],.sl 2 [],.sl 3 []])],ro:=[(0,.sl .int,false),(1,.mon,false),(2,.entry,false),(3,.entry,false)]})]
theorem zBP (a0:Host)(a1:Int)(hb:zbC big [aH a0,aI a1])(hc:zfD a0 a1=true):∃N,zs3 N a0 a1=some [aI<|zdo a0 a1,aI<|zeh a0 a1]:=by
 have hm:CVB big (.s .mon a0.Mons):=(zc6 hb).1 _ (by simp[AV.cvs,zbf]);have hl:=hm.len;refine zb0 λN hNN=>?_;unfold zs3 zdo zeh zbD oN;conv=>zeta
 refine(zbd a0.Mons (λi (t:Unit)=>(a1,(i:Int),a0.Memory,a0.Mons,a0.Buffer,a0.IoBuffer,())) _ (λi (x:Mon) (_:Unit) κ=>bif ige a1 0 then goL (λj (y:Slot) (_:Unit) κ₁=>bif ieq y.Page a1 then some [AV.one<|.i .i64 (i:Int),AV.one<|.i .i64 (j:Int)] else κ₁ ()) (λ_=>κ ()) x.Outer 0 () else some [AV.one<|.i .i64<|-1,AV.one<|.i .i64<|-1]) (λ(t:Unit)=>some [.one<|.i .i64<|-1,.one<|.i .i64<|-1]) (λi hi t rec=>?_) (λt rec=>?_) _ ()<|hNN hl).trans ?_;{simp only [zbv hi,zY hi,zbg hi,zU hi hl,cT];cases h0:ige a1 0;{rfl};have ho:a0.Mons[i].Outer.length<=big:=(hm.inv.2 _ (jG hi) (.s .slot _) (by simp[Ty.cells])).len;simp only[cT];refine(zbd a0.Mons[i].Outer (λj (_:Unit)=>(a1,(i:Int),(j:Int),a0.Memory,a0.Mons,a0.Buffer,a0.IoBuffer,())) _ (λj (y:Slot) (_:Unit) κ₁=>bif ieq y.Page a1 then some [AV.one<|.i .i64 (i:Int),AV.one<|.i .i64 (j:Int)] else κ₁ ()) (λ_=>rec (a1,((i+1:Nat):Int),a0.Memory,a0.Mons,a0.Buffer,a0.IoBuffer,())) (λj hj u rec1=>?_) (λu rec1=>?_) _ ()<|hNN ho).trans ?_;{simp only [zbv hj,zY hj,zbg hj,zU hj ho,cT,zY hi,zbg hi]};{simp only [zbm,cF,cT,zY hi,zbg hi,zU hi hl]};rfl};{simp only [zbm,cF]};cases h0:ige a1 0;{have h1:ilt a1 0=true:=(by have:=jQ h0;exact qJ (by omega));rw[h1];exact zXF _ _ _ _};{have h1:ilt a1 0=false:=(by have:=qD h0;exact qG (by omega));rw[h1];exact zJd a1 (λi j=>some [AV.one<|.i .i64 i,AV.one<|.i .i64 j]) a0.Mons 0}
theorem zyr:vJ 396 ziw:=hF2 zrZ zo zq zdl zBZ zBP
def z1x:zS:=[(393,zln),(274,zln),(396,ziw),(307,ziw)]++z1w
theorem zr0:zL z1x:=zh zEs (zh zD6<|zh zyr<|zh zyh zrZ)
def zce (h:Host):List Int:=zum (λi=>ilt (zbD h (i:Int)).1 0) h.Memory.length 0
@[simp] abbrev zfH (h:Host):Bool:=pc (h.Memory.length<=1048576)
@[simp] abbrev zcF (h:Host):List Int:=zce h
def znO:Run:=rF1 dH λb=>(zfH b,[aS .int<|zcF b])
def zFG (N:Nat)(a0:Host):OA:=
 (iter (σ:=(Int×(List Int)×lM×lN×lE×lE×Unit)) N (λr2 s3=>let y0:=(⟨s3.2.2.1,s3.2.2.2.1,s3.2.2.2.2.1,s3.2.2.2.2.2.1⟩:Host); (cond (ilt s3.1<|ln s3.2.2.1) (oN (zfD y0 s3.1)<|cond (ilt (zdo y0 s3.1) 0) (oN (few<|ln<|ap s3.2.1 [s3.1])<|r2 (zD .i64 s3.1 1,ap s3.2.1 [s3.1],s3.2.2.1,s3.2.2.2.1,s3.2.2.2.2.1,s3.2.2.2.2.2.1,()))<|r2 (zD .i64 s3.1 1,s3.2.1,s3.2.2.1,s3.2.2.2.1,s3.2.2.2.2.1,s3.2.2.2.2.2.1,()))<|some [aS .int s3.2.1])) (0,[],a0.Memory,a0.Mons,a0.Buffer,a0.IoBuffer,()))
def zR4:=zx [(395,0,{n:=28,tm:=[(1,.lp 0 0),(3,.sl 0 []),(4,ti)],lo:=[(0,[.sl 1 [],.sl 2 [],.sl 3 [],.sl 4 []])],ro:=[(0,.int,true),(1,.sl .int,false),(2,.mon,false),(3,.entry,false),(4,.entry,false)]})]
theorem zQv (a0:Host)(hc:zfH a0=true):∃N,zFG N a0=some [aS .int<|zcF a0]:=by
 have hs:=zK.1 hc;have hl:=zct hs;refine zb0 λN hNN=>?_;unfold zFG oN;conv=>zeta
 refine(zbd a0.Memory (λi (t:(List Int))=>((i:Int),t,a0.Memory,a0.Mons,a0.Buffer,a0.IoBuffer,())) _ (λi (_:List Int) (t:List Int) κ=>bif ilt (zbD a0 (i:Int)).1 0 then (cond (few<|ln<|ap t [(i:Int)]) (κ<|ap t [(i:Int)]) none) else κ t) (λ(t:(List Int))=>some [.one<|.s .int t]) (λi hi t rec=>?_) (λt rec=>?_) _ ([])<|hNN hl.1).trans ?_;{simp only [zbv hi,zY hi,zbg hi,zU hi hl.1,cT]};{simp only [zbm,cF]};rw[zu4 λi (t:List Int) κ=>bif ilt (zbD a0 (i:Int)).1 0 then (cond (few<|ln<|ap t [(i:Int)]) (κ<|ap t [(i:Int)]) none) else κ t];exact zwt (λi=>ilt (zbD a0 (i:Int)).1 0) _ _ 0 [] (by simpa using hl.2)
theorem zJS:vJ 395 znO:=kF1 zr0 zo zq zdl zR4 zQv
def zFl (N:Nat)(a0:Host):OA:=
 (iter (σ:=(Int×Int×(List Int)×lM×lN×lE×lE×Unit)) N (λr2 s3=>let y1:=s3.2.2.2.2.2.2.1;let y0:=(⟨s3.2.2.2.1,s3.2.2.2.2.1,s3.2.2.2.2.2.1,y1⟩:Host); (cond (ilt s3.2.1 s3.1) (oN (zfD y0 s3.2.1)<|cond (ilt (zdo y0 s3.2.1) 0) (oN (few<|ln<|ap s3.2.2.1 [s3.2.1])<|r2 (s3.1,zD .i64 s3.2.1 1,ap s3.2.2.1 [s3.2.1],s3.2.2.2.1,s3.2.2.2.2.1,s3.2.2.2.2.2.1,y1,()))<|r2 (s3.1,zD .i64 s3.2.1 1,s3.2.2.1,s3.2.2.2.1,s3.2.2.2.2.1,s3.2.2.2.2.2.1,y1,()))<|some [aS .int s3.2.2.1])) (ln a0.Memory,0,[],a0.Memory,a0.Mons,a0.Buffer,a0.IoBuffer,()))
def zRW:=zx [(249,0,{n:=28,tm:=[(1,.lp 0 0),(3,.sl 0 []),(10,ti),(11,ti)],lo:=[(0,[.sl 1 [],.sl 2 [],.sl 3 [],.sl 4 []])],ro:=[(0,.int,true),(1,.sl .int,false),(2,.mon,false),(3,.entry,false),(4,.entry,false)]})]
theorem zQc (a0:Host)(hc:zfH a0=true):∃N,zFl N a0=some [aS .int<|zcF a0]:=by
 have hs:=zK.1 hc;have hl:=zct hs;refine zb0 λN hNN=>?_;unfold zFl oN;conv=>zeta
 refine(zbd a0.Memory (λi (t:(List Int))=>(ln a0.Memory,(i:Int),t,a0.Memory,a0.Mons,a0.Buffer,a0.IoBuffer,())) _ (λi (_:List Int) (t:List Int) κ=>bif ilt (zbD a0 (i:Int)).1 0 then (cond (few<|ln<|ap t [(i:Int)]) (κ<|ap t [(i:Int)]) none) else κ t) (λ(t:(List Int))=>some [.one<|.s .int t]) (λi hi t rec=>?_) (λt rec=>?_) _ ([])<|hNN hl.1).trans ?_;{simp only [zbv hi,zY hi,zbg hi,zU hi hl.1,cT]};{simp only [zbm,cF]};rw[zu4 λi (t:List Int) κ=>bif ilt (zbD a0 (i:Int)).1 0 then (cond (few<|ln<|ap t [(i:Int)]) (κ<|ap t [(i:Int)]) none) else κ t];exact zwt (λi=>ilt (zbD a0 (i:Int)).1 0) _ _ 0 [] (by simpa using hl.2)
theorem zJq:vJ 249 znO:=kF1 zr0 zo zq zdl zRW zQc
def ziu (m:List (List Int))(p:Int)(c:List Int):List (List Int):=bif hasB p (ln m) then (cond (zcn c) (up m p c) m) else m
@[simp] abbrev zfJ (m:List (List Int))(p:Int)(c:List Int):Bool:=pc (SmM m/\c.length<=1048576)
@[simp] abbrev zeJ (m:List (List Int))(p:Int)(c:List Int):List (List Int):=ziu m p c
def zlr:Run:=rF3 (dS<|.sl .int) dI (dS .int) λb c d=>(zfJ b c d,[aS (.sl .int)<|zeJ b c d])
def zy0 (N:Nat)(a0:lM)(a1:Int)(a2:List Int):OA:=
 (oN (zgk a0)<|oN (zI a1 0<|wsub .i64 (ln a0) 1)<|cond (zi a1 0<|wsub .i64 (ln a0) 1) (oN (zdu a2)<|cond (zcQ a2) (oN (few<|ln<|ap [] a2)<|oN (inb a1<|ln<|zeT a0)<|share (up (zeT a0) a1<|ap [] a2) λx4=>some [aS (.sl .int) x4])<|some [aS (.sl .int)<|zeT a0])<|some [aS (.sl .int)<|zeT a0])
theorem zKQ (a0:List (List Int))(a1:Int)(a2:List Int)(hc:zfJ a0 a1 a2=true):∃N,zy0 N a0 a1 a2=some [aS (.sl .int)<|zeJ a0 a1 a2]:=by obtain⟨hs,hs2⟩:=zK.1 hc;refine⟨0,?_⟩;unfold zy0 zeJ ziu oN;refine must (zbe<|(zoO _).2 hs) (must rfl ?_);rw[show zi a1 0 (wsub .i64 (ln a0) 1)=hasB a1 (ln a0) from zpn hs.1 a1];cases h1:hasB a1 (ln a0);{rfl};{simp only [cT,zdu,zcQ];cases h2:zcn a2;{rfl};{refine must rfl (must (zmZ hs2)<|must (zA h1) ?_);rw[zlM];rfl}}
theorem zEA:vJ 397 zlr:=kF3 zr0 zo zq zdl (zx []) zKQ
def zyA (N:Nat)(a0:lM)(a1:Int)(a2:List Int):OA:=
 (oN (zge a0)<|oN (zbl a1<|ln a0)<|cond (zcR a1<|ln a0) (oN (zdu a2)<|cond (zcQ a2) (oN (zdN a2)<|oN (inb a1<|ln<|zdJ a0)<|share (up (zdJ a0) a1<|zdM a2) λx4=>some [aS (.sl .int) x4])<|some [aS (.sl .int)<|zdJ a0])<|some [aS (.sl .int)<|zdJ a0])
theorem zKs (a0:List (List Int))(a1:Int)(a2:List Int)(hc:zfJ a0 a1 a2=true):∃N,zyA N a0 a1 a2=some [aS (.sl .int)<|zeJ a0 a1 a2]:=by obtain⟨hs,hs2⟩:=zK.1 hc;refine⟨0,?_⟩;unfold zyA zeJ ziu oN;refine must (zbe hs) (must rfl ?_);rw[show zcR a1 (ln a0)=hasB a1 (ln a0) from rfl];cases h1:hasB a1 (ln a0);{rfl};{simp only [cT,zdu,zcQ];cases h2:zcn a2;{rfl};{refine must rfl (must (zbe<|jB hs2 (by decide)) (must (zA h1) rfl))}}
theorem zEa:vJ 251 zlr:=kF3 zr0 zo zq zdl (zx []) zKs
def zpv:zS:=[(395,znO),(249,znO),(397,zlr),(251,zlr)]++z1x
theorem zhA:zL zpv:=zh zJS (zh zJq<|zh zEA<|zh zEa zr0)
abbrev mZ:Mon:=Ty.dflt .mon
abbrev sZ:Slot:=Ty.dflt .slot
def ShM (x:Mon):Prop:=x.Outer.length=8/\x.Out.length=8/\x.Dirty.length=8/\x.Tables.length=x.Guests.length
def Shape (h:Host):Prop:=SmH h/\∀x∈h.Mons,ShM x
theorem zir {h:Host}{m:Int}{x:Mon}(hs:Shape h)(h1:zfY x)(h2:ShM x):Shape {h with Mons:=up h.Mons m x}:=by refine⟨⟨hs.1.1,zja hs.1.2.1 h1,hs.1.2.2⟩,λy hy=>?_⟩;rcases qZ hy with hy|rfl;{exact hs.2 y hy};{exact h2}
theorem zco {h:Host}(hs:Shape h){m:Int}(hm:hasB m (ln h.Mons)=true):zfY (ix h.Mons m mZ)/\ShM (ix h.Mons m mZ):=⟨hs.1.2.1.2 _<|zby hm _,hs.2 _<|zby hm _⟩
theorem zMQ {h:Host}{mm:List (List Int)}(hs:Shape h)(h1:SmM mm):Shape {h with Memory:=mm}:=⟨⟨h1,hs.1.2⟩,hs.2⟩
theorem zq1 {h:Host}{m p:Int}{s:Slot}(hm:hasB m (ln h.Mons)=true)(hs:Shape h):Shape (zb6 h m p s):=by refine⟨zDo hm hs.1,?_⟩;obtain⟨_,h2⟩:=zco hs hm;have key:∀y∈up h.Mons m {zj7 (ix h.Mons m mZ) p (ix h.Mons m mZ).Tables.length with Outer:=up (ix h.Mons m mZ).Outer p s},ShM y:=(by intro y hy;rcases qZ hy with hy|rfl;{exact hs.2 y hy};{exact⟨by simpa using h2.1,h2.2.1,h2.2.2.1,by simpa [zj7,zpj] using h2.2.2.2⟩});unfold zb6;cases ine (ix (ix h.Mons m mZ).Outer p sZ).Page (-1)<;>exact key
theorem zgu (h:Host)(m p:Int)(s:Slot):(zb6 h m p s).Mons=up h.Mons m {zj7 (ix h.Mons m mZ) p (ix h.Mons m mZ).Tables.length with Outer:=up (ix h.Mons m mZ).Outer p s}/\(zb6 h m p s).Memory=h.Memory:=by unfold zb6;cases ine (ix (ix h.Mons m mZ).Outer p sZ).Page (-1)<;>exact⟨rfl,rfl⟩
theorem zeL {h:Host}{m k:Int}{x:Mon}(hm:hasB m (ln h.Mons)=true):hasB m (ln<|up h.Mons k x)=true:=by simpa [ln] using hm
theorem zCU {h:Host}{m k p:Int}{s:Slot}(hm:hasB m (ln h.Mons)=true):hasB m (ln (zb6 h k p s).Mons)=true:=by rw[(zgu h k p s).1];exact zeL hm
theorem zdE {α:Type}{l:List α}{p:Int}(h:l.length=8)(hp:hasB p 8=true):hasB p (ln l)=true:=by rw[ln,h];exact hp
def zwH (h:Host)(m p:Int)(s:Slot):Host :=
 bif ine s.Page (-1) then ⟨h.Memory,up h.Mons m<|zj7 (ix h.Mons m mZ) p (ix h.Mons m mZ).Guests.length,flushed h.Buffer s.Page,flushed h.IoBuffer s.Page⟩
 else ⟨h.Memory,up h.Mons m<|zj7 (ix h.Mons m mZ) p (ix h.Mons m mZ).Guests.length,h.Buffer,h.IoBuffer⟩
theorem zw2 {h:Host}{k:Nat}{p:Int}{s:Slot}(hk:k<h.Mons.length)(ht:(ix h.Mons (k:Int) mZ).Tables.length=(ix h.Mons (k:Int) mZ).Guests.length) :
 zwH {h with Mons:=up h.Mons (k:Int) {ix h.Mons (k:Int) mZ with Outer:=up (ix h.Mons (k:Int) mZ).Outer p s}} (k:Int) p (ix (ix h.Mons (k:Int) mZ).Outer p sZ)=zb6 h (k:Int) p s:=by
 unfold zb6 zwH;simp only[zd5 hk,zt0,zj7,ht]
def zVI {ρ:Type}(m p:Int)(i:Nat)(t:List Mon)(κ:List Mon->Option ρ):Option ρ :=
 (cond (inb (i:Int)<|ln (ix t m mZ).Tables) (cond (inb (i:Int)<|ln (ix t m mZ).Guests) (cond (pc<|SmK (ix (ix t m mZ).Tables (i:Int) ze2)/\(ix (ix t m mZ).Guests (i:Int) zn).Live.length<=1048576) (cond (inb (i:Int)<|ln (ix t m mZ).Tables) (κ<|up t m ({ (ix t m mZ) with Tables:=(up (ix t m mZ).Tables (i:Int)<|zjg (ix (ix t m mZ).Tables (i:Int) ze2) (ix (ix t m mZ).Guests (i:Int) zn).Live p)}:Mon)) none) none) none) none)
theorem zT1 {ρ:Type}{mons:List Mon}{k:Nat}(hk:k<mons.length)(p:Int)(hm:zfY (ix mons (k:Int) mZ))(ht:(ix mons (k:Int) mZ).Tables.length=(ix mons (k:Int) mZ).Guests.length)(K:List Mon->Option ρ) :
 ∀(n i:Nat),i+n=(ix mons (k:Int) mZ).Guests.length->goN (λi t κ=>zVI (k:Int) p i t κ) K n i (up mons (k:Int)<|zj7 (ix mons (k:Int) mZ) p i)=K (up mons (k:Int)<|zj7 (ix mons (k:Int) mZ) p (ix mons (k:Int) mZ).Guests.length)
 | 0,i,h=>by have:i=(ix mons (k:Int) mZ).Guests.length:=(by omega);subst this;rfl
 |n+1,i,h=>by
  have hi3:i<(ix mons (k:Int) mZ).Guests.length:=(by omega);have hi2:i<(zkS (ix mons (k:Int) mZ).Guests p i (ix mons (k:Int) mZ).Tables).length:=by rw[zpj];omega
  have hf:pc (SmK (ix (zkS (ix mons (k:Int) mZ).Guests p i (ix mons (k:Int) mZ).Tables) (i:Int) ze2)/\(ix (ix mons (k:Int) mZ).Guests (i:Int) zn).Live.length<=1048576)=true :=
   zbe ⟨by rw[zbg hi2];exact(ztY _ _ _ _ (by omega) hm.2.2.2.2.2).2 _ (jG hi2),by rw[zbg hi3];exact(hm.2.2.2.1.2 _<|jG hi3).2.2.1⟩
  simp only[goN,zVI,zd5 hk,zt0,zj7,zY hi2,zY hi3,hf,cT];exact zT1 hk p hm ht K n (i+1) (by omega)
@[simp] abbrev zeC (h:Host)(m p:Int)(s:Slot):Bool:=pc (Shape h/\hasB m (ln h.Mons)=true)
@[simp] abbrev zeD (h:Host)(m p:Int)(s:Slot):Host:=zwH h m p s
def zlH:List CV->List AV->Option (Bool×List CV×List AV)
 |[.s (.sl .int) b,.s .mon c,.s .entry d,.s .entry e],[.one<|.i .i64 f,.one<|.i .i64 g,.agg [.i .i64 h,.i .i64 j]]=>some (zeC (⟨b,c,d,e⟩:Host) f g (⟨h,j⟩:Slot),zbf<|zeD (⟨b,c,d,e⟩:Host) f g (⟨h,j⟩:Slot),[])
 |_,_=>none
def zoI (N:Nat)(c:Host)(a0 a1:Int)(a2:Slot):OA:=
 (oN (inb a0<|ln c.Mons)<|iter (σ:=(Int×Int×Int×Int×Int×Int×lN×lM×lE×lE×Unit)) N (λr5 s6=>let y7:=s6.2.2.2.2.2.2.2.1;let y5:=s6.2.2.2.2.2.2.1;let y4:=s6.2.2.2.2.1;let y3:=s6.2.2.2.2.2.2.2.2.1;let y2:=s6.2.2.2.2.2.2.2.2.2.1;let y1:=s6.2.2.2.1;let y0:=ix y5 s6.2.1 zf;let y8:=ix y0.Tables y1 ze2;let y6:=(ix y0.Guests y1 zn).Live; (cond (ilt y1 s6.2.2.1) (oN (inb y1<|ln y0.Tables)<|oN (inb y1<|ln y0.Guests)<|oN (zhz y8 y6 s6.1)<|oN (inb y1<|ln y0.Tables)<|share (up y5 s6.2.1 ({y0 with Tables:=(up y0.Tables y1<|zkK y8 y6 s6.1)}:Mon)) λx7=>r5 (s6.1,s6.2.1,s6.2.2.1,zD .i64 y1 1,y4,s6.2.2.2.2.2.1,x7,y7,y3,y2,()))<|cond (ine y4<|-1) (oN (zd4 y3 y4)<|oN (zd4 y2 y4)<|some [aH (⟨y7,y5,zgi y3 y4,zgi y2 y4⟩:Host)])<|some [aH (⟨y7,y5,y3,y2⟩:Host)])) (a1,a0,ln (ix c.Mons a0 zf).Guests,0,a2.Page,a2.Rights,c.Mons,c.Memory,c.Buffer,c.IoBuffer,()))
def zFb:=zx [(142,0,{n:=71,tm:=[(0,.lp 0 0),(2,ti),(7,.lp 1 0),(8,.ep 0 [] 0),(20,ti),(21,ti)],lo:=[(0,[.sl 1 [],.sl 0 [],.sl 2 [],.sl 3 []]),(1,[ti,ti])],ro:=[(0,.mon,true),(1,.sl .int,true),(2,.entry,true),(3,.entry,true)]})]
theorem zH0 (N:Nat)(c:Host)(a0 a1:Int)(a2:Slot):zpx (cQ zpv zny zK4 zRS) zFb N 12 142 [true,true,true,true] (zbf c) [aI a0,aI a1,aT .slot a2]=zoI N c a0 a1 a2:=by kernel_rfl
theorem zEK (c:Host)(a0 a1:Int)(a2:Slot)(hb:zbC big (.agg (zbf c)::[aI a0,aI a1,aT .slot a2]))(hc:zeC c a0 a1 a2=true):∃N,zoI N c a0 a1 a2=some (.agg (zbf<|zeD c a0 a1 a2)::[]):=by
 obtain⟨hs,hm⟩:=zK.1 hc;obtain⟨g1,g2⟩:=zco hs hm;have hg:(ix c.Mons a0 mZ).Guests.length<=big:=(zct g1.2.2.2.1.1).1;refine zb0 λN hNN=>?_;unfold zoI oN;conv=>zeta
 refine must (zA hm) ?_;refine(zbd ((ix c.Mons a0 zf).Guests) (λi (t:lN)=>(a1,a0,ln (ix c.Mons a0 zf).Guests,(i:Int),a2.Page,a2.Rights,t,c.Memory,c.Buffer,c.IoBuffer,())) _ (λi (x:Guest) (t:List Mon) κ=>zVI a0 a1 i t κ) (λ(t:lN)=>cond (ine a2.Page<|-1) (cond (zd4 c.Buffer a2.Page) (cond (zd4 c.IoBuffer a2.Page) (some [.agg<|zbf (⟨c.Memory,t,zgi c.Buffer a2.Page,zgi c.IoBuffer a2.Page⟩:Host)]) none) none)<|some [.agg<|zbf (⟨c.Memory,t,c.Buffer,c.IoBuffer⟩:Host)]) (λi hi t rec=>?_) (λt rec=>?_) _ (c.Mons)<|hNN hg).trans ?_;{simp only [zbv hi,zY hi,zbg hi,zU hi hg,cT];rfl};{simp only [zbm,cF]};obtain⟨k,rfl,hk⟩:=zdX (n:=c.Mons.length) hm;rw[zu4 λi t κ=>zVI (k:Int) a1 i t κ];have e0:c.Mons=up c.Mons (k:Int) (zj7 (ix c.Mons (k:Int) mZ) a1 0):=(zLw hk _).symm;refine(congrArg _ e0).trans ((zT1 hk a1 g1 g2.2.2.2 _ _ 0<|jT _).trans ?_);show (cond (ine a2.Page<|-1) _ _)=some [AV.agg<|zbf<|zwH c (k:Int) a1 a2];unfold zwH;cases ine a2.Page (-1);{rfl};{exact must rfl (must (zbe hs.1.2.2.1) (must (zbe hs.1.2.2.2) rfl))}
theorem zzu:zdc Tryz.prog 142 [true,true,true,true] zlH:=by refine zhv (zgF zhA zo zq zdl) (zje (by kernel_rfl)) ?_;intro cs avs cs' rs hl hr h;have hb:=zkk hr;unfold zlH at h;split at h;{obtain⟨hc,rfl,rfl⟩:=zmd h;obtain⟨N,hN⟩:=zEK _ _ _ _ (by exact hb) hc;exact⟨rfl,_,N,12,(zH0 N _ _ _ _ ).trans hN⟩};{cases h}
def zV3:zdI:=[(142,[true,true,true,true],zlH)]++zK4
theorem zK5:zcA zV3:=zec zq (by
 intro x hx;simp only[qI,qW,or_false]at hx;rcases hx with rfl
 .exact zzu)
def zeR (h:Host)(m p:Int):Host:={h with Mons:=up h.Mons m {ix h.Mons m mZ with Out:=up (ix h.Mons m mZ).Out p (zcp h.Memory (ix (ix h.Mons m mZ).Outer p sZ).Page)}}
def zdk (h:Host)(m p:Int):Host:=zb6 (zeR h m p) m p noSlot
theorem zRG {m:List (List Int)}{p:Int}(h:SmM m):(zcp m p).length<=1048576:=by unfold zcp;cases hh:hasB p (ln m);{exact(by decide:zw9.length<=1048576)};{exact h.2 _ (zby hh _)}
theorem zuB {h:Host}{m p:Int}(hs:Shape h)(hm:hasB m (ln h.Mons)=true):Shape (zeR h m p):=by obtain⟨g1,g2⟩:=zco hs hm;exact zir hs ⟨g1.1,zIz g1.2.1<|zRG hs.1.1,g1.2.2⟩ ⟨g2.1,by simpa using g2.2.1,g2.2.2⟩
theorem zIr {h:Host}{m p:Int}(hs:Shape h)(hm:hasB m (ln h.Mons)=true):Shape (zdk h m p):=zq1 (zeL hm) (zuB hs hm)
@[simp] abbrev zib (h:Host)(m p:Int):Bool:=pc (Shape h/\hasB m (ln h.Mons)=true/\hasB p 8=true)
@[simp] abbrev zkN (h:Host)(m p:Int):Host:=zdk h m p
def zst:List AV->Option (Bool×List AV)
 |[.agg [.s (.sl .int) b,.s .mon c,.s .entry d,.s .entry e],.one<|.i .i64 f,.one<|.i .i64 g]=>some (zib (⟨b,c,d,e⟩:Host) f g,[aH<|zkN (⟨b,c,d,e⟩:Host) f g])
 |_=>none
def zv1 (N:Nat)(a0:Host)(a1 a2:Int):OA:=
 let y0:=ix a0.Mons a1 zf;let y1:=(ix y0.Outer a2 zO).Page; (oN (inb a1<|ln a0.Mons)<|oN (inb a1<|ln a0.Mons)<|oN (inb a2<|ln y0.Outer)<|oN (zeI a0.Memory y1)<|oN (inb a2<|ln y0.Out)<|share (up a0.Mons a1 ({y0 with Out:=(up y0.Out a2<|zf8 a0.Memory y1)}:Mon)) (λx4=>let y2:=({a0 with Mons:=x4}:Host); (oN zbE<|oN (zfw y2 a1 a2 zW)<|some [aH<|zho y2 a1 a2 zW])))
theorem zTb (N:Nat)(a0:Host)(a1 a2:Int):zAP (cQ zpv zny zV3 zRS) (zx []) N 12 383 [true,true,true,true,false,false] 1 1 [[0],[1],[2],[4],[7]] .mon [aH a0,aI a1,aI a2]=zv1 N a0 a1 a2:=by kernel_rfl
theorem zQM (a0:Host)(a1 a2:Int)(hb:zbC big [aH a0,aI a1,aI a2])(hc:zib a0 a1 a2=true):∃N,zv1 N a0 a1 a2=some [aH<|zkN a0 a1 a2]:=by
 obtain⟨hs,hm,hp⟩:=zK.1 hc;obtain⟨g1,g2⟩:=zco hs hm;obtain⟨k,rfl,hk⟩:=zdX (n:=a0.Mons.length) hm;have hS:=zuB (p:=a2) hs hm;refine⟨0,?_⟩;unfold zv1 oN;conv=>zeta
 refine must (zA hm) (must (zA hm)<|must (zA<|zdE g2.1 hp)<|must (zbe<|(zoO _).2 hs.1.1)<|must (zA<|zdE g2.2.1 hp)<|shr (must rfl (must (zbe ⟨(zM _).2 hS.1,zeL hm,?_,?_⟩) rfl)));{simp only [zd5 hk];exact zdE g2.1 hp};{simp only [zd5 hk];exact k7 g2.2.2.2}
theorem zKf:zek Tryz.prog 383 [true,true,true,true,false,false] (some (1,1,[[0],[1],[2],[4],[7]])) zst:=by refine zla (kt:=.mon) (zgF zhA zo zK5 zdl) (zje (by kernel_rfl)) (by kernel_rfl) ?_;intro avs rs hl hr h;have hb:=ziC hr;unfold zst at h;split at h;{obtain⟨hc,rfl⟩:=zeb h;obtain⟨N,hN⟩:=zQM _ _ _ (by exact hb) hc;exact⟨⟨_,rfl⟩,rfl,_,N,12,(zTb N _ _ _ ).trans hN⟩};{cases h}
def zuq:List CV->List AV->Option (Bool×List CV×List AV)
 |[.s (.sl .int) b,.s .mon c,.s .entry d,.s .entry e],[.one<|.i .i64 f,.one<|.i .i64 g]=>some (zib (⟨b,c,d,e⟩:Host) f g,zbf<|zkN (⟨b,c,d,e⟩:Host) f g,[])
 |_,_=>none
def zDy (N:Nat)(c:Host)(a0 a1:Int):OA:=
 let y0:=ix c.Mons a0 zf;let y1:=ix y0.Outer a1 zO; (oN (inb a0<|ln c.Mons)<|oN (inb a1<|ln y0.Outer)<|oN (zeI c.Memory y1.Page)<|oN (inb a1<|ln y0.Out)<|share (up c.Mons a0 ({y0 with Out:=(up y0.Out a1<|zf8 c.Memory y1.Page)}:Mon)) (λx4=>let y2:=ix x4 a0 zf; (oN zbE<|oN (inb a1<|ln y2.Outer)<|share (up x4 a0 ({y2 with Outer:=(up y2.Outer a1 zW)}:Mon)) (λx5=>let y3:=({c with Mons:=x5}:Host); (oN (zeC y3 a0 a1 y1)<|some [aH<|zeD y3 a0 a1 y1])))))
theorem zX9 (N:Nat)(c:Host)(a0 a1:Int):zpx (cQ zpv zny zV3 zRS) (zx []) N 12 67 [true,true,true,true] (zbf c) [aI a0,aI a1]=zDy N c a0 a1:=by kernel_rfl
theorem zVQ (c:Host)(a0 a1:Int)(hb:zbC big (.agg (zbf c)::[aI a0,aI a1]))(hc:zib c a0 a1=true):∃N,zDy N c a0 a1=some (.agg (zbf<|zkN c a0 a1)::[]):=by
 obtain⟨hs,hm,hp⟩:=zK.1 hc;obtain⟨g1,g2⟩:=zco hs hm;obtain⟨k,rfl,hk⟩:=zdX (n:=c.Mons.length) hm;have hS:=zuB (p:=a1) hs hm;have hm':hasB (k:Int) (ln (zeR c (k:Int) a1).Mons)=true:=zeL hm;have hk':k<(zeR c (k:Int) a1).Mons.length:=(by simpa [zeR] using hk);have ex:ix (zeR c (k:Int) a1).Mons (k:Int) mZ={ix c.Mons (k:Int) mZ with Out:=up (ix c.Mons (k:Int) mZ).Out a1 (zcp c.Memory (ix (ix c.Mons (k:Int) mZ).Outer a1 sZ).Page)}:=zd5 hk _ _;have hX:Shape {zeR c (k:Int) a1 with Mons:=up (zeR c (k:Int) a1).Mons (k:Int) {ix (zeR c (k:Int) a1).Mons (k:Int) mZ with Outer:=up (ix (zeR c (k:Int) a1).Mons (k:Int) mZ).Outer a1 noSlot}}:=(by obtain⟨q1,q2⟩:=zco hS hm';exact zir hS ⟨by simpa using q1.1,q1.2⟩ ⟨by simpa using q2.1,q2.2⟩);refine⟨0,?_⟩;unfold zDy oN;conv=>zeta
 refine must (zA hm) (must (zA<|zdE g2.1 hp)<|must (zbe<|(zoO _).2 hs.1.1)<|must (zA<|zdE g2.2.1 hp)<|shr (must rfl (must ?_<|shr<|must (zbe ⟨hX,zeL hm'⟩) ?_)));{rw [zd5 hk];exact zA (zdE g2.1 hp)};{have:=zw2 (p:=a1) (s:=noSlot) hk' (by rw[ex];exact g2.2.2.2);rw[ex] at this;show some [AV.agg<|zbf<|zwH {zeR c (k:Int) a1 with Mons:=up (zeR c (k:Int) a1).Mons (k:Int) {ix (zeR c (k:Int) a1).Mons (k:Int) mZ with Outer:=up (ix (zeR c (k:Int) a1).Mons (k:Int) mZ).Outer a1 noSlot}} (k:Int) a1<|ix (ix c.Mons (k:Int) mZ).Outer a1 sZ]=_;rw[ex];exact congrArg (λx=>some [AV.agg<|zbf x]) this}
theorem zPV:zdc Tryz.prog 67 [true,true,true,true] zuq:=by refine zhv (zgF zhA zo zK5 zdl) (zje (by kernel_rfl)) ?_;intro cs avs cs' rs hl hr h;have hb:=zkk hr;unfold zuq at h;split at h;{obtain⟨hc,rfl,rfl⟩:=zmd h;obtain⟨N,hN⟩:=zVQ _ _ _ (by exact hb) hc;exact⟨rfl,_,N,12,(zX9 N _ _ _ ).trans hN⟩};{cases h}
def zV4:zdI:=[(67,[true,true,true,true],zuq)]++zV3
theorem zK6:zcA zV4:=zec zK5 (by
 intro x hx;simp only[qI,qW,or_false]at hx;rcases hx with rfl
 .exact zPV)
def zWB:zfn:=[(383,[true,true,true,true,false,false],some (1,1,[[0],[1],[2],[4],[7]]),zst)]++zRS
theorem zLi:zef zWB:=zpk zdl (by
 intro x hx;simp only[qI,qW,or_false]at hx;rcases hx with rfl
 .exact zKf)
def cz (l:List Slot):Nat:=l.countP λs=>ieq s.Page 0
def zH:List Mon->Nat
 |[]=>0
 |m::l=>cz m.Outer+zH l
def bit (u:List Bool):Nat:=bif ix u 0 false then 1 else 0
theorem zuZ (s:Slot)(l:List Slot):cz (s::l)=cz l+bif ieq s.Page 0 then 1 else 0:=by unfold cz;rw[vE];cases ieq s.Page 0<;>rfl
theorem z4Q {u:List Bool}{p:Int}(hp:0<=p)(hlt:p.toNat<u.length)(x:Bool):ix (up u p x) 0 false=bif ieq p 0 then x else ix u 0 false:=by unfold ix up;cases h:ieq p 0;{have:p≠0:=(by simpa [ieq] using h);have hne:p.toNat≠0:=(by omega);simp[List.getD,jD,hne]};{have:p=0:=(by simpa [ieq] using h);subst this;have hlt:0<u.length:=hlt;simp[List.getD,jD,hlt]}
theorem zAC:∀(l:List Slot) (u u':List Bool),(∀s∈l,s.Page<12)->u.length=12->zg0 l u=some u'->cz l+bit u=bit u'
 |[],u,u',_,_,h=>by cases h;simp[cz]
 |s::l,u,u',hs,hu,h=>by
  simp only[zg0]at h;rw[zuZ];cases h1:ilt s.Page 0;{have h1:=jQ h1;rw[show ilt s.Page 0=false from qG (by omega)]at h;simp only[cF]at h;cases h2:ix u s.Page false;{rw [h2]at h;simp only[cF]at h;have hlt:s.Page.toNat<u.length:=(by have:=hs s (by simp);omega);have ih:=zAC l _ u' (λt ht=>hs t (by simp[ht])) (by simpa using hu) h;have e:bit (up u s.Page true)=bif ieq s.Page 0 then 1 else bit u:=(by unfold bit;rw[z4Q (by omega) hlt];cases ieq s.Page 0<;>rfl);rw[e] at ih;cases h3:ieq s.Page 0;{rw [h3] at ih;simp only[cF] at ih ⊢;omega};{have h4:s.Page=0:=(by simpa [ieq] using h3);rw[h4]at h2;have:bit u=0:=(by unfold bit;rw[h2];rfl);rw[h3] at ih;simp only[cT] at ih ⊢;omega}};{rw [h2]at h;cases h}};{have h1':=qD h1;rw[h1]at h;simp only[cT]at h;have ih:=zAC l u u' (λt ht=>hs t (by simp[ht])) hu h;have:ieq s.Page 0=false:=(by simp[ieq];omega);rw[this];simpa using ih}
theorem zPZ:∀(l:List Mon) (u:List Bool),u.length=12->ziH l u=true->zH l+bit u<=1
 |[],u,_,_=>by unfold zH bit;cases ix u 0 false<;>simp
 |m::l,u,hu,h=>by simp only[ziH]at h;cases h1:zeG m;{rw [h1]at h;cases h};{rw [h1]at h;simp only[cT]at h;cases h2:zg0 m.Outer u with|none=>rw[h2]at h;cases h|some u' =>rw[h2]at h;have e:=zAC _ _ _ (zA5<|zlY h1) hu h2;have ih:=zPZ l u' ((zoE _ _ _ h2).trans hu) h;simp only[zH];omega}
theorem zXp:∀(l:List Slot) (b:Nat) (s:Slot),l[b]?=some s->s.Page=0->cz (l.set b noSlot)+1=cz l
 |[],b,s,h,_=>by simp at h
 |t::l,0,s,h,hs=>by simp only[qH,qC]at h;subst h;rw[List.set_cons_zero,zuZ,zuZ];have:ieq t.Page 0=true:=(by simp[ieq,hs]);rw[this];rfl
 |t::l,b+1,s,h,hs=>by rw[List.set_cons_succ,zuZ,zuZ];have:=zXp l b s (by simpa using h) hs;omega
theorem zSo:∀(l:List Mon) (a:Nat) (x y:Mon),l[a]?=some x->zH (l.set a y)+cz x.Outer=zH l+cz y.Outer
 |[],a,x,y,h=>by simp at h
 |m::l,0,x,y,h=>by simp only[qH,qC]at h;subst h;rw[List.set_cons_zero];simp only[zH];omega
 |m::l,a+1,x,y,h=>by rw[List.set_cons_succ];have:=zSo l a x y (by simpa using h);simp only[zH];omega
theorem zVr {l:List Slot}(h:cz l=0):znr l 0=none:=by unfold znr;rw[List.findIdx?_eq_none_iff];intro s hs;have:=(u3.1 h) s hs;simpa using this
theorem zH7:∀(l:List Mon) (i:Nat),zH l=0->zh7 0 l i=(-1,-1)
 |[],_,_=>rfl
 |m::l,i,h=>by simp only[zH]at h;simp only[zh7];rw[zVr (by omega)];exact zH7 l (i+1) (by omega)
theorem zVs {l:List Slot}{k:Nat}(h:znr l 0=some k):∃s,l[k]?=some s/\s.Page=0:=by unfold znr at h;rw[uY]at h;obtain⟨hlt,h1,_⟩:=h;exact⟨l[k],qB hlt,by simpa [ieq] using h1⟩
theorem zC3:∀(l:List Mon) (i:Nat),zh7 0 l i=(-1,-1)\/∃a b x s,zh7 0 l i=(((i+a:Nat):Int),((b:Nat):Int))/\l[a]?=some x/\x.Outer[b]?=some s/\s.Page=0
 |[],_=>.inl rfl
 |m::l,i=>by
  simp only[zh7];cases h:znr m.Outer 0 with
  |none=>rcases zC3 l (i+1) with h1|⟨a,b,x,s,h1,h2,h3,h4⟩;{exact .inl h1};{refine .inr ⟨a+1,b,x,s,?_,by simpa using h2,h3,h4⟩;have e:i+1+a=i+(a+1):=(by omega);rw[h1,e]}
  |some k=>obtain⟨s,h1,h2⟩:=zVs h;exact .inr ⟨0,k,m,s,rfl,rfl,h1,h2⟩
def Fit (h:Host):Prop:=Shape h/\0<h.Memory.length/\zH h.Mons<=1
theorem zCT {h:Host}(hm:0<h.Memory.length)(ho:ilt (zbD h 0).1 0=true):inb 0 (ln<|zce h)=true:=by unfold zce;obtain⟨n,hn⟩:∃n,h.Memory.length=n+1:=⟨h.Memory.length-1,by omega⟩;rw[hn];simp only[zum];rw[show ilt (zbD h ((0:Nat):Int)).1 0=true from ho];exact qJ (by simp only[cT,ln,qV];omega)
theorem zVx {h:Host}(hm:0<h.Memory.length)(h0:ieq (ln<|zce h) 0=true):ilt (zbD h 0).1 0=false:=by cases ho:ilt (zbD h 0).1 0;{rfl};{have h1:=qD (zCT hm ho);have h2:ln (zce h)=0:=(by simpa [ieq] using h0);omega}
def zc2 (h:Host):Host:=bif ieq (ln<|zce h) 0 then zdk h (zbD h 0).1 (zbD h 0).2 else h
structure Room (h r:Host):Prop where
 shape:Shape r
 free:inb 0 (ln (zce r))=true
 len:r.Mons.length=h.Mons.length
 outer:∀m,(ix r.Mons m mZ).Outer.length=8\/True
theorem zYg {h:Host}(hf:Fit h)(h0:ieq (ln<|zce h) 0=true):∃(a b:Nat) (x:Mon) (s:Slot),zbD h 0=((a:Int),(b:Int))/\h.Mons[a]?=some x/\x.Outer[b]?=some s/\s.Page=0:=by have h1:=zVx hf.2.1 h0;have e:zbD h 0=zh7 0 h.Mons 0:=rfl;rcases zC3 h.Mons 0 with h2|⟨a,b,x,s,h2,h3⟩;{rw [e,h2]at h1;cases h1};{exact⟨a,b,x,s,by rw[e,h2,jT],h3⟩}
theorem zA1 {h:Host}(hf:Fit h)(h0:ieq (ln<|zce h) 0=true):hasB (zbD h 0).1 (ln h.Mons)=true/\hasB (zbD h 0).2 8=true:=by obtain⟨a,b,x,s,h1,h2,h3,h4⟩:=zYg hf h0;rw[h1];have ha:=(qA.1 h2).1;have hb:=(qA.1 h3).1;have hx:=hf.1.2 x (qK h2);refine⟨qJ (by simp only[ln];omega),qJ ?_⟩;have:=hx.1;show 0<=(b:Int)/\(b:Int)<8;omega
theorem room {h:Host}(hf:Fit h):Room h (zc2 h):=by unfold zc2;cases h0:ieq (ln<|zce h) 0;{refine⟨hf.1,qJ ?_,rfl,λ_=>.inr trivial⟩;have:ln (zce h)≠0:=(by simpa [ieq] using h0);show 0<=(0:Int)/\(0:Int)<ln (zce h);simp only[ln] at *;omega};{obtain⟨hm,hp⟩:=zA1 hf h0;obtain⟨a,b,x,s,h1,h2,h3,h4⟩:=zYg hf h0;simp only[cT];rw[h1]at hm hp ⊢;have ha:=(qA.1 h2).1;have hb:=(qA.1 h3).1;have hxa:ix h.Mons (a:Int) mZ=x:=(by rw[zbg ha];exact(qA.1 h2).2);have hmons:=(zgu (zeR h (a:Int) (b:Int)) (a:Int) (b:Int) noSlot).1;have ex:ix (zeR h (a:Int) (b:Int)).Mons (a:Int) mZ={x with Out:=up x.Out (b:Int) (zcp h.Memory (ix x.Outer (b:Int) sZ).Page)}:=(by unfold zeR;rw[zd5 ha,hxa]);obtain⟨y,hM,hy⟩:∃y,(zdk h (a:Int) (b:Int)).Mons=h.Mons.set a y/\y.Outer=x.Outer.set b noSlot:=(by unfold zdk;rw[hmons,ex];unfold zeR;rw[zt0];exact⟨_,by simp[up];rfl,by simp[up]⟩);have hz:zH (zdk h (a:Int) (b:Int)).Mons=0:=(by have e1:=zSo h.Mons a x y h2;have e2:=zXp x.Outer b s h3 h4;have e3:=hf.2.2;rw[hM];rw[hy] at e1;omega);have hmem:(zdk h (a:Int) (b:Int)).Memory=h.Memory:=(zgu (zeR h (a:Int) (b:Int)) (a:Int) (b:Int) noSlot).2;refine⟨zIr hf.1 hm,zCT (by rw[hmem];exact hf.2.1) ?_,by rw[hM];simp,λ_=>.inr trivial⟩;have e:zbD (zdk h (a:Int) (b:Int)) 0=zh7 0 (zdk h (a:Int) (b:Int)).Mons 0:=rfl;rw[e,zH7 _ _ hz];rfl}
theorem zRH {m:List (List Int)}{p:Int}{c:List Int}(h:SmM m)(hc:c.length<=1048576):SmM (ziu m p c):=by unfold ziu;cases hasB p (ln m);{exact h};{cases zcn c;{exact h};{exact zIz h hc}}
def landing (r:Host)(m p to:Int):Host:={r with Memory:=ziu r.Memory to (ix (ix r.Mons m mZ).Out p []),Mons:=up r.Mons m {ix r.Mons m mZ with Out:=up (ix r.Mons m mZ).Out p []}}
def zfb (r:Host)(m p to:Int):Host:=zb6 (landing r m p to) m p ⟨to,3⟩
def fetched (h:Host)(m p:Int):Host:=zfb (zc2 h) m p (ix (zce<|zc2 h) 0 0)
theorem zRJ {r:Host}{m p:Int}(hr:Shape r)(hm:hasB m (ln r.Mons)=true)(hp:hasB p 8=true):(ix (ix r.Mons m mZ).Out p []).length<=1048576:=by obtain⟨g1,g2⟩:=zco hr hm;exact g1.2.1.2 _ (zby (zdE g2.2.1 hp) _)
theorem zq0 {r:Host}{m p to:Int}(hr:Shape r)(hm:hasB m (ln r.Mons)=true)(hp:hasB p 8=true):Shape (landing r m p to):=by obtain⟨g1,g2⟩:=zco hr hm;exact zMQ (h:={r with Mons:=up r.Mons m {ix r.Mons m mZ with Out:=up (ix r.Mons m mZ).Out p []}}) (zir (x:={ix r.Mons m mZ with Out:=up (ix r.Mons m mZ).Out p []}) hr ⟨g1.1,zIz g1.2.1 (by simp),g1.2.2⟩ ⟨g2.1,by simpa using g2.2.1,g2.2.2⟩) (zRH hr.1.1<|zRJ hr hm hp)
theorem zOg {r:Host}{m p to:Int}(hr:Shape r)(hm:hasB m (ln r.Mons)=true)(hp:hasB p 8=true):Shape (zfb r m p to):=zq1 (zeL hm) (zq0 hr hm hp)
theorem zo4 {h:Host}(hf:Fit h){m:Int}(hm:hasB m (ln h.Mons)=true):hasB m (ln (zc2 h).Mons)=true:=by rw[ln,(room hf).len];exact hm
theorem zjL {h:Host}{m p:Int}(hf:Fit h)(hm:hasB m (ln h.Mons)=true)(hp:hasB p 8=true):Shape (fetched h m p)/\hasB m (ln (fetched h m p).Mons)=true :=
 ⟨zOg (room hf).shape (zo4 hf hm) hp,zCU<|zeL<|zo4 hf hm⟩
@[simp] abbrev zkM (h:Host)(m p:Int):Bool:=pc (Fit h/\hasB m (ln h.Mons)=true/\hasB p 8=true)
@[simp] abbrev zlA (h:Host)(m p:Int):Host:=fetched h m p
def zus:List AV->Option (Bool×List AV)
 |[.agg [.s (.sl .int) b,.s .mon c,.s .entry d,.s .entry e],.one<|.i .i64 f,.one<|.i .i64 g]=>some (zkM (⟨b,c,d,e⟩:Host) f g,[aH<|zlA (⟨b,c,d,e⟩:Host) f g])
 |_=>none
def zy2 (N:Nat)(a0:Host)(a1 a2:Int):OA:=
 let y6:=ix (zcF a0) 0 0;let y2:=ix a0.Mons a1 zf;let y0:=zkN a0 (zdo a0 0)<|zeh a0 0;let y5:=ix (zcF y0) 0 0;let y1:=ix y0.Mons a1 zf; (oN (zfH a0)<|cond (ieq (ln<|zcF a0) 0) (oN (zfD a0 0)<|oN (zib a0 (zdo a0 0)<|zeh a0 0)<|oN (zfH y0)<|oN (inb 0<|ln<|zcF y0)<|oN (inb a1<|ln y0.Mons)<|oN (inb a2<|ln y1.Out)<|oN (zfJ y0.Memory y5<|ix y1.Out a2 [])<|oN (inb a1<|ln y0.Mons)<|oN (inb a2<|ln y1.Out)<|share (up y0.Mons a1 ({y1 with Out:=(up y1.Out a2 [])}:Mon)) (λx4=>let y3:=({y0 with Memory:=(zeJ y0.Memory y5<|ix y1.Out a2 []),Mons:=x4}:Host); (oN (zfw y3 a1 a2 (⟨y5,3⟩:Slot))<|some [aH<|zho y3 a1 a2 (⟨y5,3⟩:Slot)])))<|oN (zfH a0)<|oN (inb 0<|ln<|zcF a0)<|oN (inb a1<|ln a0.Mons)<|oN (inb a2<|ln y2.Out)<|oN (zfJ a0.Memory y6<|ix y2.Out a2 [])<|oN (inb a1<|ln a0.Mons)<|oN (inb a2<|ln y2.Out)<|share (up a0.Mons a1 ({y2 with Out:=(up y2.Out a2 [])}:Mon)) (λx4=>let y4:=({a0 with Memory:=(zeJ a0.Memory y6<|ix y2.Out a2 []),Mons:=x4}:Host); (oN (zfw y4 a1 a2 (⟨y6,3⟩:Slot))<|some [aH<|zho y4 a1 a2 (⟨y6,3⟩:Slot)])))
theorem zVX (N:Nat)(a0:Host)(a1 a2:Int):zAP (cQ zpv zny zV4 zWB) (zx []) N 12 384 [true,true,true,true,false,false] 1 1 [[0],[1],[2],[4],[7]] .mon [aH a0,aI a1,aI a2]=zy2 N a0 a1 a2:=by kernel_rfl
theorem zS8 (a0:Host)(a1 a2:Int)(hb:zbC big [aH a0,aI a1,aI a2])(hc:zkM a0 a1 a2=true):∃N,zy2 N a0 a1 a2=some [aH<|zlA a0 a1 a2]:=by
 obtain⟨hf,hm,hp⟩:=zK.1 hc;have tail:∀r,Shape r->inb 0 (ln<|zce r)=true->hasB a1 (ln r.Mons)=true->(cond (zfH r) (cond (inb 0<|ln<|zcF r) (cond (inb a1<|ln r.Mons) (cond (inb a2<|ln (ix r.Mons a1 zf).Out) (cond (zfJ r.Memory (ix (zcF r) 0 0)<|ix (ix r.Mons a1 zf).Out a2 []) (cond (inb a1<|ln r.Mons) (cond (inb a2<|ln (ix r.Mons a1 zf).Out) (share (up r.Mons a1 ({ (ix r.Mons a1 zf) with Out:=(up (ix r.Mons a1 zf).Out a2 [])}:Mon)) λx4=>cond (zfw ({r with Memory:=(zeJ r.Memory (ix (zcF r) 0 0)<|ix (ix r.Mons a1 zf).Out a2 []),Mons:=x4}:Host) a1 a2 (⟨ix (zcF r) 0 0,3⟩:Slot)) (some [AV.agg<|zbf<|zho ({r with Memory:=(zeJ r.Memory (ix (zcF r) 0 0)<|ix (ix r.Mons a1 zf).Out a2 []),Mons:=x4}:Host) a1 a2 (⟨ix (zcF r) 0 0,3⟩:Slot)]) none) none) none) none) none) none) none) none)=some [AV.agg<|zbf<|zfb r a1 a2<|ix (zce r) 0 0]:=(by intro r hr hfree hrm;obtain⟨g1,g2⟩:=zco hr hrm;have hL:=zq0 (to:=ix (zce r) 0 0) hr hrm hp;obtain⟨k,rfl,hk⟩:=zdX (n:=r.Mons.length) hrm;refine must (zbe hr.1.1.1) (must hfree<|must (zA hrm)<|must (zA<|zdE g2.2.1 hp)<|must (zbe ⟨hr.1.1,zRJ hr hrm hp⟩)<|must (zA hrm)<|must (zA<|zdE g2.2.1 hp)<|shr (must (zbe ⟨(zM _).2 hL.1,zeL hrm,?_,?_⟩) rfl));{simp only [zd5 hk];exact zdE g2.1 hp};{simp only [zd5 hk];exact k7 g2.2.2.2});have hR:=room hf;have hrm:=zo4 hf hm;refine⟨0,?_⟩;unfold zy2 zlA fetched oN;conv=>zeta
 refine must (zbe hf.1.1.1.1) ?_;cases h0:ieq (ln<|zcF a0) 0;{have er:zc2 a0=a0:=(by unfold zc2;rw[show ieq (ln<|zce a0) 0=false from h0];rfl);rw[er]at hR hrm ⊢;exact tail a0 hR.shape hR.free hrm};{obtain⟨o1,o2⟩:=zA1 hf h0;have er:zc2 a0=zdk a0 (zbD a0 0).1 (zbD a0 0).2:=(by unfold zc2;rw[show ieq (ln<|zce a0) 0=true from h0];rfl);rw[er]at hR hrm ⊢;exact must rfl (must rfl (must (zbe ⟨hf.1,o1,o2⟩)<|tail _ hR.shape hR.free hrm))}
theorem zNr:zek Tryz.prog 384 [true,true,true,true,false,false] (some (1,1,[[0],[1],[2],[4],[7]])) zus:=by refine zla (kt:=.mon) (zgF zhA zo zK6 zLi) (zje (by kernel_rfl)) (by kernel_rfl) ?_;intro avs rs hl hr h;have hb:=ziC hr;unfold zus at h;split at h;{obtain⟨hc,rfl⟩:=zeb h;obtain⟨N,hN⟩:=zS8 _ _ _ (by exact hb) hc;exact⟨⟨_,rfl⟩,rfl,_,N,12,(zVX N _ _ _ ).trans hN⟩};{cases h}
@[simp] abbrev zqI (h:Host):Bool:=pc (Shape h/\hasB (zbD h 0).1 (ln h.Mons)=true/\hasB (zbD h 0).2 8=true)
@[simp] abbrev zqJ (h:Host):Host:=zdk h (zbD h 0).1 (zbD h 0).2
def zmH:List CV->List AV->Option (Bool×List CV×List AV)
 |[.s (.sl .int) b,.s .mon c,.s .entry d,.s .entry e],[]=>some (zqI (⟨b,c,d,e⟩:Host),zbf<|zqJ (⟨b,c,d,e⟩:Host),[])
 |_,_=>none
def zqD (N:Nat)(c:Host)  : OA :=
 (oN (zfD c 0)<|oN (zib c (zdo c 0)<|zeh c 0)<|some [aH<|zkN c (zdo c 0)<|zeh c 0])
theorem zKY (N:Nat)(c:Host)  : zpx (cQ zpv zny zV4 zWB) (zx []) N 12 250 [true,true,true,true] (zbf c) []=zqD N c:=by kernel_rfl
theorem zHK (c:Host)(hb:zbC big (.agg (zbf c)::[]))(hc:zqI c=true):∃N,zqD N c=some (.agg (zbf<|zqJ c)::[]):=by have hs:=zK.1 hc;refine⟨0,?_⟩;unfold zqD oN;exact must rfl (must (zbe hs) rfl)
theorem zBj:zdc Tryz.prog 250 [true,true,true,true] zmH:=by refine zhv (zgF zhA zo zK6 zLi) (zje (by kernel_rfl)) ?_;intro cs avs cs' rs hl hr h;have hb:=zkk hr;unfold zmH at h;split at h;{obtain⟨hc,rfl,rfl⟩:=zmd h;obtain⟨N,hN⟩:=zHK _ (by exact hb) hc;exact⟨rfl,_,N,12,(zKY N _ ).trans hN⟩};{cases h}
def z0a:zdI:=[(250,[true,true,true,true],zmH)]++zV4
theorem zUh:zcA z0a:=zec zK6 (by
 intro x hx;simp only[qI,qW,or_false]at hx;rcases hx with rfl
 .exact zBj)
def zRT:zfn:=[(384,[true,true,true,true,false,false],some (1,1,[[0],[1],[2],[4],[7]]),zus)]++zWB
theorem zA7:zef zRT:=zpk zLi (by
 intro x hx;simp only[qI,qW,or_false]at hx;rcases hx with rfl
 .exact zNr)
theorem zUX {r:Host}{m p to:Int}(hr:Shape r)(hm:hasB m (ln r.Mons)=true):zwH {landing r m p to with Mons:=up (landing r m p to).Mons m {ix (landing r m p to).Mons m mZ with Outer:=up (ix (landing r m p to).Mons m mZ).Outer p ⟨to,3⟩}} m p (ix (ix (landing r m p to).Mons m mZ).Outer p sZ)=zfb r m p to:=by obtain⟨g1,g2⟩:=zco hr hm;obtain⟨k,rfl,hk⟩:=zdX (n:=r.Mons.length) hm;refine zw2 (h:=landing r (k:Int) p to) (by simpa [landing] using hk) ?_;unfold landing;simp only[zd5 hk];exact g2.2.2.2
theorem zTv {r:Host}{m p to:Int}(hr:Shape r)(hm:hasB m (ln r.Mons)=true)(hp:hasB p 8=true):Shape {landing r m p to with Mons:=up (landing r m p to).Mons m {ix (landing r m p to).Mons m mZ with Outer:=up (ix (landing r m p to).Mons m mZ).Outer p ⟨to,3⟩}}:=by have hL:=zq0 (to:=to) hr hm hp;obtain⟨q1,q2⟩:=zco hL (zeL hm);exact zir hL ⟨by simpa using q1.1,q1.2⟩ ⟨by simpa using q2.1,q2.2⟩
def zsm:List CV->List AV->Option (Bool×List CV×List AV)
 |[.s (.sl .int) b,.s .mon c,.s .entry d,.s .entry e],[.one<|.i .i64 f,.one<|.i .i64 g]=>some (zkM (⟨b,c,d,e⟩:Host) f g,zbf<|zlA (⟨b,c,d,e⟩:Host) f g,[])
 |_,_=>none
def zyG (N:Nat)(c:Host)(a0 a1:Int):OA:=
 let y8:=ix (zcF c) 0 0;let y6:=zqJ c;let y7:=ix (zcF y6) 0 0;let y1:=ix c.Mons a0 zf;let y0:=ix y6.Mons a0 zf; (oN (zfH c)<|cond (ieq (ln<|zcF c) 0) (oN (zqI c)<|oN (inb a0<|ln y6.Mons)<|oN (zfH y6)<|oN (inb 0<|ln<|zcF y6)<|oN (inb a1<|ln y0.Out)<|oN (zfJ y6.Memory y7<|ix y0.Out a1 [])<|oN (inb a1<|ln y0.Out)<|share (up y6.Mons a0 ({y0 with Out:=(up y0.Out a1 [])}:Mon)) (λx4=>let y2:=ix x4 a0 zf;let y9:=ix y2.Outer a1 zO; (oN (inb a1<|ln y2.Outer)<|oN (inb a1<|ln y2.Outer)<|share (up x4 a0 ({y2 with Outer:=(up y2.Outer a1 (⟨y7,3⟩:Slot))}:Mon)) (λx5=>let y4:=({y6 with Memory:=(zeJ y6.Memory y7<|ix y0.Out a1 []),Mons:=x5}:Host); (oN (zeC y4 a0 a1 y9)<|some [aH<|zeD y4 a0 a1 y9])))))<|oN (inb a0<|ln c.Mons)<|oN (zfH c)<|oN (inb 0<|ln<|zcF c)<|oN (inb a1<|ln y1.Out)<|oN (zfJ c.Memory y8<|ix y1.Out a1 [])<|oN (inb a1<|ln y1.Out)<|share (up c.Mons a0 ({y1 with Out:=(up y1.Out a1 [])}:Mon)) (λx4=>let y3:=ix x4 a0 zf;let y10:=ix y3.Outer a1 zO; (oN (inb a1<|ln y3.Outer)<|oN (inb a1<|ln y3.Outer)<|share (up x4 a0 ({y3 with Outer:=(up y3.Outer a1 (⟨y8,3⟩:Slot))}:Mon)) (λx5=>let y5:=({c with Memory:=(zeJ c.Memory y8<|ix y1.Out a1 []),Mons:=x5}:Host); (oN (zeC y5 a0 a1 y10)<|some [aH<|zeD y5 a0 a1 y10])))))
theorem zVW (N:Nat)(c:Host)(a0 a1:Int):zpx (cQ zpv zny z0a zRT) (zx []) N 12 141 [true,true,true,true] (zbf c) [aI a0,aI a1]=zyG N c a0 a1:=by kernel_rfl
theorem zSW (c:Host)(a0 a1:Int)(hb:zbC big (.agg (zbf c)::[aI a0,aI a1]))(hc:zkM c a0 a1=true):∃N,zyG N c a0 a1=some (.agg (zbf<|zlA c a0 a1)::[]):=by
 obtain⟨hf,hm,hp⟩:=zK.1 hc;have tail:∀r,Shape r->inb 0 (ln<|zce r)=true->hasB a0 (ln r.Mons)=true->(cond (inb a0<|ln r.Mons) (cond (zfH r) (cond (inb 0<|ln<|zcF r) (cond (inb a1<|ln (ix r.Mons a0 zf).Out) (cond (zfJ r.Memory (ix (zcF r) 0 0)<|ix (ix r.Mons a0 zf).Out a1 []) (cond (inb a1<|ln (ix r.Mons a0 zf).Out) (share (up r.Mons a0 ({ (ix r.Mons a0 zf) with Out:=(up (ix r.Mons a0 zf).Out a1 [])}:Mon)) λx4=>cond (inb a1<|ln (ix x4 a0 zf).Outer) (cond (inb a1<|ln (ix x4 a0 zf).Outer) (share (up x4 a0 ({ (ix x4 a0 zf) with Outer:=(up (ix x4 a0 zf).Outer a1 (⟨ix (zcF r) 0 0,3⟩:Slot))}:Mon)) λx5=>cond (zeC ({r with Memory:=(zeJ r.Memory (ix (zcF r) 0 0)<|ix (ix r.Mons a0 zf).Out a1 []),Mons:=x5}:Host) a0 a1<|ix (ix x4 a0 zf).Outer a1 zO) (some [AV.agg<|zbf<|zeD ({r with Memory:=(zeJ r.Memory (ix (zcF r) 0 0)<|ix (ix r.Mons a0 zf).Out a1 []),Mons:=x5}:Host) a0 a1<|ix (ix x4 a0 zf).Outer a1 zO]) none) none) none) none) none) none) none) none) none)=some [AV.agg<|zbf<|zfb r a0 a1<|ix (zce r) 0 0]:=(by intro r hr hfree hrm;obtain⟨g1,g2⟩:=zco hr hrm;have hL:=zTv (to:=ix (zce r) 0 0) hr hrm hp;have hE:=zUX (p:=a1) (to:=ix (zce r) 0 0) hr hrm;obtain⟨k,rfl,hk⟩:=zdX (n:=r.Mons.length) hrm;have hh:∀(x y:Mon),hasB (k:Int) (ln<|up (up r.Mons (k:Int) x) (k:Int) y)=true:=λx y=>(by simpa [ln] using hrm);have hi:inb a1 (ln (ix (up r.Mons (k:Int) {ix r.Mons (k:Int) mZ with Out:=up (ix r.Mons (k:Int) mZ).Out a1 []}) (k:Int) mZ).Outer)=true:=(by rw[zd5 hk];exact zA (zdE g2.1 hp));refine must (zA hrm) (must (zbe hr.1.1.1)<|must hfree<|must (zA<|zdE g2.2.1 hp)<|must (zbe ⟨hr.1.1,zRJ hr hrm hp⟩)<|must (zA<|zdE g2.2.1 hp)<|shr<|must hi<|must hi<|shr<|must (zbe ⟨hL,hh _ _⟩) ?_);exact congrArg (λx=>some [AV.agg<|zbf x]) hE);have hR:=room hf;have hrm:=zo4 hf hm;refine⟨0,?_⟩;unfold zyG zlA fetched oN;conv=>zeta
 refine must (zbe hf.1.1.1.1) ?_;cases h0:ieq (ln<|zcF c) 0;{have er:zc2 c=c:=(by unfold zc2;rw[show ieq (ln<|zce c) 0=false from h0];rfl);rw[er]at hR hrm ⊢;exact tail c hR.shape hR.free hrm};{obtain⟨o1,o2⟩:=zA1 hf h0;have er:zc2 c=zdk c (zbD c 0).1 (zbD c 0).2:=(by unfold zc2;rw[show ieq (ln<|zce c) 0=true from h0];rfl);rw[er]at hR hrm ⊢;exact must rfl (must (zbe ⟨hf.1,o1,o2⟩)<|tail _ hR.shape hR.free hrm)}
theorem zNc:zdc Tryz.prog 141 [true,true,true,true] zsm:=by refine zhv (zgF zhA zo zUh zA7) (zje (by kernel_rfl)) ?_;intro cs avs cs' rs hl hr h;have hb:=zkk hr;unfold zsm at h;split at h;{obtain⟨hc,rfl,rfl⟩:=zmd h;obtain⟨N,hN⟩:=zSW _ _ _ (by exact hb) hc;exact⟨rfl,_,N,12,(zVW N _ _ _ ).trans hN⟩};{cases h}
def zV5:zdI:=[(141,[true,true,true,true],zsm)]++z0a
theorem zK7:zcA zV5:=zec zUh (by
 intro x hx;simp only[qI,qW,or_false]at hx;rcases hx with rfl
 .exact zNc)
end
end Go.Proofs.YtgjpbkhaaiffkaaGreat.E
