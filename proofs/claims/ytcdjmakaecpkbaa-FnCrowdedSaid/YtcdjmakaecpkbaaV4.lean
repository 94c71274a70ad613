/- What is proved here: a part of the proof that the statement of this claim holds (several texts of wip/, laid together). -/
import Derived.Test.YtcdjmakaecpkbaaV3
namespace Go.Proofs.Ytcdjmakaecpkbaa.E
open Go
set_option linter.constructorNameAsVariable false
set_option linter.unusedVariables false
set_option maxRecDepth 100000
set_option linter.unusedSimpArgs false
set_option linter.unusedSectionVars false
noncomputable section
theorem must {d:Type}{c:Bool}{a b r:Option d}(h:c=true)(k:a=r):(cond c a b)=r:=by rw[h];exact k
theorem mu {d:Type}{c:Bool}{a b r:Option d}(k:a=r)(h:c=true:=by first|assumption|(simp_all<;>omega)):(cond c a b)=r:=must h k
theorem zrf {d:Type}{c:Bool}{a b r:Option d}(h:c=false)(k:b=r):(cond c a b)=r:=by rw[h];exact k
theorem br {f:Type}{c:Bool}{a b r:Option f}(d:c=true->a=r)(e:c=false->b=r):(cond c a b)=r:=by cases c;{exact e rfl};{exact d rfl}
theorem brN {f:Type}{c:Bool}{a b r:Option f}(d:c=false->a=r)(e:c=true->b=r):(cond (cond c false true) a b)=r:=by cases c;{exact d rfl};{exact e rfl}
theorem shr {a b:Type}{x:a}{f:a->Option b}{r:Option b}(h:f x=r):share x f=r:=h
theorem zin {e:Type}{c p:Bool}{a b:Option e}(d:c=true):(cond c (cond (cond p false true) a b) none)=bif p then b else a:=by rw[d];cases p<;>rfl
attribute [simp] zbm
@[simp] theorem zFu {a:Type}(l:List a):(few (ln l)=true)↔l.length<=2147483648:=by unfold few ln;rw[decide_eq_true_iff];omega
@[simp] theorem zHK {a:Type}(l m:List a):(ap l m).length=l.length+m.length:=by simp[ap]
attribute [simp] zqn zi6
@[simp] theorem zEA (n:Nat)(k:IntKind)(x:Int):CVB n (.i k x)↔True:=⟨λ_=>trivial,λ_=>.i k x⟩
@[simp] theorem zHQ (n:Nat)(x:Bool):CVB n (.b x)↔True:=⟨λ_=>trivial,λ_=>.b x⟩
theorem zff {n:Nat}{t:Ty}(l:List t.den):CVB n (.s t l)↔l.length<=n/\∀x∈l,∀c∈t.cells x,CVB n c:=⟨λh=>h.inv,λh=>.s t l h.1 h.2⟩
@[simp] theorem zxL (n:Nat)(l:List Int):CVB n (.s .int l)↔l.length<=n:=by rw[zff];simp[Ty.cells]
@[simp] theorem zGu (n:Nat)(l:List Int):CVB n (.s .u8 l)↔l.length<=n:=by rw[zff];simp[Ty.cells]
@[simp] theorem zCx (n:Nat)(l:List Bool):CVB n (.s .bool l)↔l.length<=n:=by rw[zff];simp[Ty.cells]
@[simp] theorem zCz (n:Nat)(l:List Slot):CVB n (.s .slot l)↔l.length<=n:=by rw[zff];simp[Ty.cells]
@[simp] theorem zFl (n:Nat)(l:List Ins):CVB n (.s .ins l)↔l.length<=n:=by rw[zff];simp[Ty.cells]
@[simp] theorem zAt (n:Nat)(l:List Entry):CVB n (.s .entry l)↔l.length<=n:=by rw[zff];simp[Ty.cells]
@[simp] theorem zFk (n:Nat)(l:List GAct):CVB n (.s .act l)↔l.length<=n:=by rw[zff];simp[Ty.cells]
@[simp] theorem zCA (n:Nat)(l:List Told):CVB n (.s .told l)↔l.length<=n:=by rw[zff];simp[Ty.cells]
def SmM (m:List (List Int)):Prop:=m.length<=1048576/\∀x∈m,x.length<=1048576
def SmG (g:Guest):Prop:=g.Prog.length<=1048576/\g.Written.length<=1048576/\g.Live.length<=1048576/\g.Seen.length<=1048576
def zl9 (l:List Guest):Prop:=l.length<=1048576/\∀x∈l,SmG x
def SmB (b:Bare):Prop:=SmM b.Memory/\zl9 b.Guests/\b.Outs.length<=1048576
def zyA (l:List Bare):Prop:=l.length<=1048576/\∀x∈l,SmB x
theorem zDl:sm=1048576:=rfl
@[simp] theorem zyP (l:List Int):CVB sm (.s .int l)↔l.length<=1048576:=zxL sm l
@[simp] theorem zHo (l:List Int):CVB sm (.s .u8 l)↔l.length<=1048576:=zGu sm l
@[simp] theorem zwY (l:List Bool):CVB sm (.s .bool l)↔l.length<=1048576:=zCx sm l
@[simp] theorem zwZ (l:List Slot):CVB sm (.s .slot l)↔l.length<=1048576:=zCz sm l
@[simp] theorem zG6 (l:List Ins):CVB sm (.s .ins l)↔l.length<=1048576:=zFl sm l
@[simp] theorem zvb (l:List Entry):CVB sm (.s .entry l)↔l.length<=1048576:=zAt sm l
@[simp] theorem zG5 (l:List GAct):CVB sm (.s .act l)↔l.length<=1048576:=zFk sm l
@[simp] theorem zGZ (l:List Told):CVB sm (.s .told l)↔l.length<=1048576:=zCA sm l
@[simp] theorem znE (l:List (List Int)):CVB sm (.s (.sl .int) l)↔SmM l:=by rw[zff];simp[Ty.cells,SmM,zDl]
@[simp] theorem zE7 (g:Guest):(∀c∈Ty.cells .guest g,CVB sm c)↔SmG g:=by simp[Ty.cells,SmG,zDl]
@[simp] theorem ztu (l:List Guest):CVB sm (.s .guest l)↔zl9 l:=by rw[zff];simp only[zE7];rfl
@[simp] theorem zE6 (b:Bare):(∀c∈Ty.cells .bare b,CVB sm c)↔SmB b:=by simp only[Ty.cells,qL,jT,or_false,uY,forall_eq,znE,ztu,zxL,zEA,and_true];rfl
@[simp] theorem zHs (l:List Bare):CVB sm (.s .bare l)↔zyA l:=by rw[zff];simp only[zE6];rfl
@[simp] theorem zHN (a:List Ins)(b c:Int)(d e:List Slot)(f:Ctl)(g:Int)(h:GExit)(i:Bool)(j:List Int):SmG ⟨a,b,c,d,e,f,g,h,i,j⟩↔a.length<=1048576/\d.length<=1048576/\e.length<=1048576/\j.length<=1048576:=Iff.rfl
@[simp] theorem zHM (m:List (List Int))(g:List Guest)(o:List Int)(p:Int):SmB ⟨m,g,o,p⟩↔SmM m/\zl9 g/\o.length<=1048576:=Iff.rfl
theorem zrz {m:List (List Int)}{i:Int}{x:List Int}(h:SmM m)(b:x.length<=1048576):SmM (up m i x):=by refine⟨by simpa using h.1,λy a=>?_⟩;rcases jD a with a|rfl;{exact h.2 y a};{exact b}
theorem zyl {m:List Guest}{i:Int}{x:Guest}(h:zl9 m)(b:SmG x):zl9 (up m i x):=by refine⟨by simpa using h.1,λy a=>?_⟩;rcases jD a with a|rfl;{exact h.2 y a};{exact b}
theorem zFU {m:List Bare}{i:Int}{x:Bare}(h:zyA m)(b:SmB x):zyA (up m i x):=by refine⟨by simpa using h.1,λy a=>?_⟩;rcases jD a with a|rfl;{exact h.2 y a};{exact b}
theorem zGQ {l:List Guest}{i:Int}(h:zl9 l)(a:hasB i (ln l)=true)(d:Guest):SmG (ix l i d):=h.2 _ (zb8 a d)
theorem zGR {l:List (List Int)}{i:Int}(h:SmM l)(a:hasB i (ln l)=true)(d:List Int):(ix l i d).length<=1048576:=h.2 _ (zb8 a d)
@[simp] theorem zHl:SmG zde:=⟨by decide,by decide,by decide,by decide⟩
@[simp] theorem zHR (x a b:Int):zi x a b=zi x a b:=rfl
@[simp] theorem zCF (i n:Int):inb i n=hasB i n:=rfl
attribute [simp] zcf
@[simp] theorem zHJ {a:Type}{l:List a}(h:l.length<=1048576)(i:Int):zi i 0 (wsub .i64 (ln l) 1)=hasB i (ln l):=ztC (zd3 h).1 i
theorem zwM {a:Type}{l:List a}(h:l.length<=big)(i:Int):zi i 0 (wsub .i64 (ln l) 1)=hasB i (ln l):=ztC h i
theorem zeu {x a b:Int}:(zi x a b=true)↔a<=x/\x<=b:=by unfold zi ige ile;simp only[qD,decide_eq_true_iff]
attribute [simp] zbf zbf zdr zdD zcu zcw zcw zbG zbG
attribute [simp] zbY
attribute [simp] zbZ
def zim (a:Int):Int:=bif ilt a 0 then -1 else zi7 .i64 a 4
def zuI (a:Int):Int:=bif ilt a 0 then -1 else zcN a 4
def zrg (w:Bool):Int:=bif w then 2 else 1
def zAy (p:Int)(w:Bool):GExit:=⟨1,p,w,0⟩
def zBT (n:Int):GExit:=⟨2,0,false,n⟩
def zx6 (n:Int):GExit:=⟨3,0,false,n⟩
def zic (t x:Int):Bool:=bif zi t 0 3 then (cond (zi x 1 2) (ine (wand .i64 t x) 0) false) else false
def ze4 (p:Int):Bool:=zi p 0 255
@[simp] abbrev zfi (p:Int):Bool:=true
@[simp] abbrev zeR (p:Int):Bool:=ze4 p
def zm7:Run:=rF1 dI λb=>(zfi b,[aB<|zeR b])
def zp6 (N:Nat)(a:Int):OA:=
 (oN (zN a 0 255)<|some [aB<|zi a 0 255])
theorem zvL (a:Int)(b:zfi a=true):∃N,zp6 N a=some [aB<|zeR a]:=by refine⟨0,?_⟩;unfold zp6 oN;refine must rfl ?_;first|rfl|(simp only [*,zeR,ze4,cT,cF]<;>rfl)|simp_all[Ty.cells,zeR,ze4]
theorem zsg:u3 65 zm7:=kF1 zia zL zA zC (zF []) zvL
def zdJ (l:List Ins)(p:Int):Ins:=bif hasB p (ln l) then ix l p zEZ else ⟨7,0⟩
def zc6 (s:Slot)(n:Int):Bool:=bif zb9 s noSlot then true else (cond (igt n 0) (cond (zi s.Page 0<|wsub .i64 n 1) (zi s.Rights 1 3) false) false)
@[simp] abbrev zlc (s:Slot)(n:Int):Bool:=true
@[simp] abbrev ziG (s:Slot)(n:Int):Bool:=zc6 s n
def zna:Run:=rF2 (dT .slot) dI λb c=>(zlc b c,[aB<|ziG b c])
def zqa (N:Nat)(a:Slot)(b:Int):OA:=
 (oN zbG<|cond (cond (ieq a.Page zbf.Page) (ieq a.Rights zbf.Rights) false) oT<|cond (igt b 0) (oN (zN a.Page 0<|wsub .i64 b 1)<|cond (zi a.Page 0<|wsub .i64 b 1) (oN (zN a.Rights 1 3)<|some [aB<|zi a.Rights 1 3]) oF) oF)
theorem zvP (a:Slot)(b:Int)(c:zlc a b=true):∃N,zqa N a b=some [aB<|ziG a b]:=by refine⟨0,?_⟩;unfold zqa oN;refine must rfl (br (λ_=>?_) λ_=>br (λ_=>must rfl (br (λ_=>must rfl ?_) λ_=>?_)) λ_=>?_);all_goals first|rfl|(simp only [*,ziG,zc6,zb9,cT,cF]<;>rfl)|simp_all[Ty.cells,ziG,zc6,zb9]
theorem zsk:u3 87 zna:=kF2 zia zL zA zC (zF []) zvP
@[simp] abbrev zdh (l:List Slot):Bool:=pc (l.length<=2147483648)
@[simp] abbrev zcI (l:List Slot):List Slot:=l
def zjE:Run:=rF1 (dS .slot) λb=>(zdh b,[aS .slot<|zcI b])
def zlD (N:Nat)(a:lS):OA:=
 (oN (few<|ln<|ap [] a)<|some [aS .slot<|ap [] a])
theorem zq9 (a:List Slot)(b:zdh a=true):∃N,zlD N a=some [aS .slot<|zcI a]:=by have c:=zbm.1 b;refine⟨0,?_⟩;unfold zlD oN;refine mu ?_;first|rfl|(simp only [*,zcI,cT,cF]<;>rfl)|simp_all[Ty.cells,zcI]
theorem znU:u3 75 zjE:=kF1 zia zL zA zC (zF []) zq9
@[simp] abbrev ziJ (l:List Ins):Bool:=pc (l.length<=2147483648)
@[simp] abbrev zgt (l:List Ins):List Ins:=l
def zkG:Run:=rF1 (dS .ins) λb=>(ziJ b,[aS .ins<|zgt b])
def zl6 (N:Nat)(a:lI):OA:=
 (oN (few<|ln<|ap [] a)<|some [aS .ins<|ap [] a])
theorem zsK (a:List Ins)(b:ziJ a=true):∃N,zl6 N a=some [aS .ins<|zgt a]:=by have c:=zbm.1 b;refine⟨0,?_⟩;unfold zl6 oN;refine mu ?_;first|rfl|(simp only [*,zgt,cT,cF]<;>rfl)|simp_all[Ty.cells,zgt]
theorem zpo:u3 78 zkG:=kF1 zia zL zA zC (zF []) zsK
def zdG (m:List (List Int))(p c:Int):Bool:=bif hasB p (ln m) then hasB c (ln<|ix m p []) else false
def cellAt (m:List (List Int))(p c:Int):Int:=bif zdG m p c then ix (ix m p []) c 0 else 0
def zW (m:List (List Int))(p c v:Int):List (List Int):=bif zdG m p c then (cond (zi v 0 99) (up m p<|up (ix m p []) c v) m) else m
theorem zgv (m:List (List Int))(p c:Int):(zdG m p c=true)↔hasB p (ln m)=true/\hasB c (ln<|ix m p [])=true:=by unfold zdG;cases hasB p (ln m)<;>simp
theorem zGt {n:Nat}{m:List (List Int)}(h:CVB n (.s (.sl .int) m)):m.length<=n/\∀p:Int,hasB p (ln m)=true->(ix m p []).length<=n :=
 ⟨h.len,λp a=>(h.inv.2 _ (zb8 a []) _ (qE.2 rfl)).len⟩
@[simp] abbrev zfp (m:List (List Int))(p c:Int):Bool:=true
@[simp] abbrev zi1 (m:List (List Int))(p c:Int):Bool:=zdG m p c
def znf:Run:=rF3 (dS<|.sl .int) dI dI λb c d=>(zfp b c d,[aB<|zi1 b c d])
def zqj (N:Nat)(a:lM)(b c:Int):OA:=
 let d:=wsub .i64 (ln<|ix a b []) 1; (oN (zN b 0<|wsub .i64 (ln a) 1)<|cond (zi b 0<|wsub .i64 (ln a) 1) (oN (inb b<|ln a)<|oN (zN c 0 d)<|some [aB<|zi c 0 d]) oF)
theorem zvZ (a:List (List Int))(b c:Int)(e:zb1 big [aS (.sl .int) a,aI b,aI c])(g:zfp a b c=true):∃N,zqj N a b c=some [aB<|zi1 a b c]:=by
 have d:=zGt ((zcb e).1 _ (qE.2 rfl));have j:=zwM d.1;have f:∀p i:Int,hasB p (ln a)=true->zi i 0 (wsub .i64 (ln<|ix a p []) 1)=hasB i (ln<|ix a p []):=λp i h=>zwM (d.2 p h) i;refine⟨0,?_⟩;unfold zqj oN;conv=>zeta
 refine must rfl (br (λ_=>mu (must rfl ?_)) λ_=>?_);all_goals first|rfl|(simp only [*,zi1,zdG,cT,cF]<;>rfl)|simp_all[Ty.cells,zi1,zdG]
theorem zst:u3 45 znf:=hF3 zia zL zA zC (zF []) zvZ
def zEi:zB:=[(65,zm7),(87,zna),(75,zjE),(78,zkG),(45,znf)]++zGo
theorem zfP:zo zEi:=zk zsg (zk zsk<|zk znU<|zk zpo<|zk zst zia)
@[simp] abbrev zi0 (m:List (List Int))(p c:Int):Int:=cellAt m p c
def ziX:Run:=rF3 (dS<|.sl .int) dI dI λb c d=>(zfp b c d,[aI<|zi0 b c d])
def zqe (N:Nat)(a:lM)(b c:Int):OA:=
 (oN (zfp a b c)<|cond (nB<|zi1 a b c) (some [aI 0])<|oN (inb b<|ln a)<|oN (inb c<|ln<|ix a b [])<|some [aI<|ix (ix a b []) c 0])
theorem zvT (a:List (List Int))(b c:Int)(d:zfp a b c=true):∃N,zqe N a b c=some [aI<|zi0 a b c]:=by have e:=(zgv a b c).1;refine⟨0,?_⟩;unfold zqe oN nB;refine must rfl (brN (λ_=>?_) λ_=>mu (mu ?_));all_goals first|rfl|(simp only [*,zi0,cellAt,cT,cF]<;>rfl)|simp_all[Ty.cells,zi0,cellAt]
theorem zki:u3 21 ziX:=kF3 zfP zL zA zC (zF []) zvT
def zcg (t:List Slot)(n p:Int):Bool:=bif t.all (λs=>zc6 s p) then ieq (ln t) n else false
@[simp] abbrev zfA (t:List Slot)(n p:Int):Bool:=true
@[simp] abbrev zd0 (t:List Slot)(n p:Int):Bool:=zcg t n p
def zlK:Run:=rF3 (dS .slot) dI dI λb c d=>(zfA b c d,[aB<|zd0 b c d])
def zn3 (N:Nat)(c:lS)(e f:Int):OA:=
 (iter (σ:=(Int×Int×Int×Int×lS×Unit)) N (λg a=>let b:=a.2.2.2.2.1;let d:=ix b a.2.2.2.1 zU; (cond (ilt a.2.2.2.1 a.2.2.1) (oN (inb a.2.2.2.1<|ln b)<|oN (zlc d a.2.1)<|cond (nB<|ziG d a.2.1) oF<|g (a.1,a.2.1,a.2.2.1,zQ .i64 a.2.2.2.1 1,b,()))<|some [aB<|ieq (ln b) a.1])) (e,f,ln c,0,c,()))
def zum:=zF [(72,0,{n:=24,tm:=[(0,.sl 0 []),(1,ti),(2,ti),(9,.sl 0 []),(10,ti),(11,ti)],lo:=[],ro:=[(0,.slot,false)]})]
theorem zue (a:List Slot)(d c:Int)(j:zb1 big [aS .slot a,aI d,aI c])(l:zfA a d c=true):∃N,zn3 N a d c=some [aB<|zd0 a d c]:=by
 have h:(_:List _).length<=big:=((zcb j).1 _ (qE.2 rfl)).len;refine zcG λN g=>?_;unfold zn3 oN nB;conv=>zeta
 refine(zbb a (λi (t:Unit)=>(d,c,ln a,(i:Int),a,())) _ (λ_ x (_:Unit) k=>bif (λs=>zc6 s c) x then k () else oF) (λ(t:Unit)=>some [.one<|.b<|ieq (ln a) d]) (λi e t rec=>?_) (λt rec=>?_) _ ()<|g h).trans ?_;{simp only [zbT e,zbk e,zbt e,zX e h,cT];exact zin rfl};{simp only [zbC,cF]};rw[zeC λs=>zc6 s c];refine br (λf=>?_) (λf=>?_);{first|rfl|(simp only [f,zd0,zcg,cT,cF]<;>rfl)|(simp_all [Ty.cells,zd0,zcg];done)};{first|rfl|(simp only [f,zd0,zcg,cT,cF]<;>rfl)|(simp_all [Ty.cells,zd0,zcg];done)}
theorem zqX:u3 72 zlK:=hF3 zfP zL zA zC zum zue
def zbL (c:List Int):Bool:=bif c.all (λx=>zi x 0 99) then ieq (ln c) 4 else false
@[simp] abbrev zdZ (c:List Int):Bool:=true
@[simp] abbrev zdg (c:List Int):Bool:=zbL c
def zm6:Run:=rF1 (dS .int) λb=>(zdZ b,[aB<|zdg b])
def zp5 (N:Nat)(b:List Int):OA:=
 (iter (σ:=(Int×Int×(List Int)×Unit)) N (λc a=>cond (ilt a.2.1 a.1) (oN (inb a.2.1<|ln a.2.2.1)<|oN (zN (ix a.2.2.1 a.2.1 0) 0 99)<|cond (nB<|zi (ix a.2.2.1 a.2.1 0) 0 99) oF<|c (a.1,zQ .i64 a.2.1 1,a.2.2.1,()))<|some [aB<|ieq (ln a.2.2.1) 4]) (ln b,0,b,()))
def zwA:=zF [(71,0,{n:=18,tm:=[(0,.sl 0 []),(5,.sl 0 []),(6,ti),(7,ti)],lo:=[],ro:=[(0,.int,false)]})]
theorem zvK (a:List Int)(g:zb1 big [aS .int a])(j:zdZ a=true):∃N,zp5 N a=some [aB<|zdg a]:=by have f:(_:List _).length<=big:=((zcb g).1 _ (qE.2 rfl)).len;refine zcG λN e=>?_;unfold zp5 oN nB;refine(zbb a (λi (t:Unit)=>(ln a,(i:Int),a,())) _ (λ_ x (_:Unit) h=>bif (λx=>zi x 0 99) x then h () else oF) (λ(t:Unit)=>some [.one<|.b<|ieq (ln a) 4]) (λi c t rec=>?_) (λt rec=>?_) _ ()<|e f).trans ?_;{simp only [zbT c,zbk c,zbt c,zX c f,cT];exact zin rfl};{simp only [zbC,cF]};rw[zeC λx=>zi x 0 99];refine br (λd=>?_) (λd=>?_);{first|rfl|(simp only [d,zdg,zbL,cT,cF]<;>rfl)|(simp_all [Ty.cells,zdg,zbL];done)};{first|rfl|(simp only [d,zdg,zbL,cT,cF]<;>rfl)|(simp_all [Ty.cells,zdg,zbL];done)}
theorem zsf:u3 71 zm6:=hF1 zfP zL zA zC zwA zvK
def znJ (i:Ins):Bool:=bif (ieq i.Op 1||ieq i.Op 2||ieq i.Op 5||ieq i.Op 6) then zi i.X 0 99 else (cond (ieq i.Op 3||ieq i.Op 4) (zi i.X 0 15)<|cond (ieq i.Op 7) (ieq i.X 0)<|cond (ieq i.Op 8) (zi i.X 0 11) false)
@[simp] abbrev zmG (i:Ins):Bool:=true
@[simp] abbrev zko (i:Ins):Bool:=znJ i
def zox:Run:=rF1 (dT .ins) λb=>(zmG b,[aB<|zko b])
def ztg (N:Nat)(a:Ins):OA:=
 let b:=ieq a.Op 4;let l:=zN a.X 0 99;let k:=aB<|zi a.X 0 99;let j:=ieq a.Op 8;let i:=ieq a.Op 7;let h:=ieq a.Op 3;let g:=zN a.X 0 11;let f:=zN a.X 0 15;let e:=aB<|ieq a.X 0;let d:=aB<|zi a.X 0 11;let c:=aB<|zi a.X 0 15; (cond (ieq a.Op 1) (cond (ieq a.Op 1) (oN l<|some [k])<|cond h (cond h (oN f<|some [c])<|cond i (some [e])<|cond j (oN g<|some [d]) oF)<|cond b (oN f<|some [c])<|cond i (some [e])<|cond j (oN g<|some [d]) oF)<|cond (ieq a.Op 2) (cond (ieq a.Op 2) (oN l<|some [k])<|cond h (cond h (oN f<|some [c])<|cond i (some [e])<|cond j (oN g<|some [d]) oF)<|cond b (oN f<|some [c])<|cond i (some [e])<|cond j (oN g<|some [d]) oF)<|cond (ieq a.Op 5) (cond (ieq a.Op 5) (oN l<|some [k])<|cond h (cond h (oN f<|some [c])<|cond i (some [e])<|cond j (oN g<|some [d]) oF)<|cond b (oN f<|some [c])<|cond i (some [e])<|cond j (oN g<|some [d]) oF)<|cond (ieq a.Op 6) (oN l<|some [k])<|cond h (cond h (oN f<|some [c])<|cond i (some [e])<|cond j (oN g<|some [d]) oF)<|cond b (oN f<|some [c])<|cond i (some [e])<|cond j (oN g<|some [d]) oF)
theorem zxf (a:Ins)(b:zmG a=true):∃N,ztg N a=some [aB<|zko a]:=by
 refine⟨0,?_⟩;unfold ztg oN;conv=>zeta
 refine br (λ_=>br (λ_=>must rfl ?_) λ_=>br (λ_=>br (λ_=>must rfl ?_) λ_=>br (λ_=>?_) λ_=>br (λ_=>must rfl ?_) λ_=>?_) λ_=>br (λ_=>must rfl ?_) λ_=>br (λ_=>?_) λ_=>br (λ_=>must rfl ?_) λ_=>?_) (λ_=>br (λ_=>br (λ_=>must rfl ?_) λ_=>br (λ_=>br (λ_=>must rfl ?_) λ_=>br (λ_=>?_) λ_=>br (λ_=>must rfl ?_) λ_=>?_) λ_=>br (λ_=>must rfl ?_) λ_=>br (λ_=>?_) λ_=>br (λ_=>must rfl ?_) λ_=>?_) λ_=>br (λ_=>br (λ_=>must rfl ?_) λ_=>br (λ_=>br (λ_=>must rfl ?_) λ_=>br (λ_=>?_) λ_=>br (λ_=>must rfl ?_) λ_=>?_) λ_=>br (λ_=>must rfl ?_) λ_=>br (λ_=>?_) λ_=>br (λ_=>must rfl ?_) λ_=>?_) λ_=>br (λ_=>must rfl ?_) λ_=>br (λ_=>br (λ_=>must rfl ?_) λ_=>br (λ_=>?_) λ_=>br (λ_=>must rfl ?_) λ_=>?_) λ_=>br (λ_=>must rfl ?_) λ_=>br (λ_=>?_) λ_=>br (λ_=>must rfl ?_) λ_=>?_);all_goals first|rfl|(simp only [*,zko,znJ,cT,cF]<;>rfl)|simp_all[Ty.cells,zko,znJ]
theorem zt3:u3 88 zox:=kF1 zfP zL zA zC (zF []) zxf
def zmu (e:GExit):Bool:=bif (ieq e.Kind 0||ieq e.Kind 4) then (ieq e.Page 0&&(!e.Write&&ieq e.N 0)) else (cond (ieq e.Kind 1) (zi e.Page 0 3&&ieq e.N 0)<|cond (ieq e.Kind 2||ieq e.Kind 3) (zi e.N 0 99&&(ieq e.Page 0 && !e.Write)) false)
@[simp] theorem zHL (x:Bool):zrT x false = !x:=by cases x<;>rfl
@[simp] abbrev zk8 (e:GExit):Bool:=true
@[simp] abbrev ziA (e:GExit):Bool:=zmu e
def zm1:Run:=rF1 dE λb=>(zk8 b,[aB<|ziA b])
def zpX (N:Nat)(a:GExit):OA:=
 let g:=zi a.N 0 99;let f:=zN a.N 0 99;let e:=ieq a.Kind 2;let d:=aB<|ieq a.N 0;let b:=ieq a.Page 0;let c:=aB<|nB a.Write; (cond (ieq a.Kind 0) (cond (ieq a.Kind 0) (cond b (cond (nB a.Write) (some [d]) oF) oF)<|cond (ieq a.Kind 1) (oN (zN a.Page 0 3)<|cond (zi a.Page 0 3) (some [d]) oF)<|cond e (cond e (oN f<|cond g (cond b (some [c]) oF) oF) oF)<|cond (ieq a.Kind 3) (oN f<|cond g (cond b (some [c]) oF) oF) oF)<|cond (ieq a.Kind 4) (cond b (cond (nB a.Write) (some [d]) oF) oF)<|cond (ieq a.Kind 1) (oN (zN a.Page 0 3)<|cond (zi a.Page 0 3) (some [d]) oF)<|cond e (cond e (oN f<|cond g (cond b (some [c]) oF) oF) oF)<|cond (ieq a.Kind 3) (oN f<|cond g (cond b (some [c]) oF) oF) oF)
theorem zvC (a:GExit)(b:zk8 a=true):∃N,zpX N a=some [aB<|ziA a]:=by
 refine⟨0,?_⟩;unfold zpX oN nB;conv=>zeta
 refine br (λ_=>br (λ_=>br (λ_=>brN (λ_=>?_) λ_=>?_) λ_=>?_) λ_=>br (λ_=>must rfl (br (λ_=>?_) λ_=>?_)) λ_=>br (λ_=>br (λ_=>must rfl (br (λ_=>br (λ_=>?_) λ_=>?_) λ_=>?_)) λ_=>?_) λ_=>br (λ_=>must rfl (br (λ_=>br (λ_=>?_) λ_=>?_) λ_=>?_)) λ_=>?_) (λ_=>br (λ_=>br (λ_=>brN (λ_=>?_) λ_=>?_) λ_=>?_) λ_=>br (λ_=>must rfl (br (λ_=>?_) λ_=>?_)) λ_=>br (λ_=>br (λ_=>must rfl (br (λ_=>br (λ_=>?_) λ_=>?_) λ_=>?_)) λ_=>?_) λ_=>br (λ_=>must rfl (br (λ_=>br (λ_=>?_) λ_=>?_) λ_=>?_)) λ_=>?_);all_goals first|rfl|(simp only [*,ziA,zmu,cT,cF]<;>rfl)|simp_all[Ty.cells,ziA,zmu]
theorem zr7:u3 81 zm1:=kF1 zfP zL zA zC (zF []) zvC
def zjg (c:Ctl):List Int:=(cond (zi c.Traps 0 3) [] [1])++((cond (zi c.Post 0 255) [] [2])++((cond (ine c.Post 0) (cond c.Open [] [3]) [])++(cond (ieq c.Traps 2) (cond (ine c.Post 0) [4] []) [])))
@[simp] theorem zHH {a:Type}(x:a)(l m:List a):ap (x::l) m=x::ap l m:=rfl
@[simp] abbrev zdR (c:Ctl):Bool:=true
@[simp] abbrev zfy (c:Ctl):List Int:=zjg c
def zjB:Run:=rF1 dC λb=>(zdR b,[aS .int<|zfy b])
def zlA (N:Nat)(b:Ctl):OA:=
 let e:=aS .int [];let k:=ap (ap [] [2]) [4];let j:=ap (ap [] [1]) [4];let i:=aS .int<|ap [] [2];let h:=aS .int<|ap [] [1];let g:=ap (ap [] [2]) [3];let f:=ap (ap [] [1]) [3];let c:=ieq b.Traps 2;let a:=ine b.Post 0;let d:=ap (ap [] [1]) [2];let l:=aS .int d; (oN (zN b.Traps 0 3)<|cond (nB<|zi b.Traps 0 3) (oN (few<|ln<|ap [] [1])<|oN (zN b.Post 0 255)<|cond (nB<|zi b.Post 0 255) (oN (few<|ln d)<|cond a (cond (nB b.Open) (oN (few<|ln<|ap d [3])<|cond c (cond a (oN (few<|ln<|ap (ap d [3]) [4])<|some [aS .int<|ap (ap d [3]) [4]])<|some [aS .int<|ap d [3]])<|some [aS .int<|ap d [3]])<|cond c (cond a (oN (few<|ln<|ap d [4])<|some [aS .int<|ap d [4]])<|some [l])<|some [l])<|cond c (cond a (oN (few<|ln<|ap d [4])<|some [aS .int<|ap d [4]])<|some [l])<|some [l])<|cond a (cond (nB b.Open) (oN (few<|ln f)<|cond c (cond a (oN (few<|ln<|ap f [4])<|some [aS .int<|ap f [4]])<|some [aS .int f])<|some [aS .int f])<|cond c (cond a (oN (few<|ln j)<|some [aS .int j])<|some [h])<|some [h])<|cond c (cond a (oN (few<|ln j)<|some [aS .int j])<|some [h])<|some [h])<|oN (zN b.Post 0 255)<|cond (nB<|zi b.Post 0 255) (oN (few<|ln<|ap [] [2])<|cond a (cond (nB b.Open) (oN (few<|ln g)<|cond c (cond a (oN (few<|ln<|ap g [4])<|some [aS .int<|ap g [4]])<|some [aS .int g])<|some [aS .int g])<|cond c (cond a (oN (few<|ln k)<|some [aS .int k])<|some [i])<|some [i])<|cond c (cond a (oN (few<|ln k)<|some [aS .int k])<|some [i])<|some [i])<|cond a (cond (nB b.Open) (oN (few<|ln<|ap [] [3])<|cond c (cond a (oN (few<|ln<|ap (ap [] [3]) [4])<|some [aS .int<|ap (ap [] [3]) [4]])<|some [aS .int<|ap [] [3]])<|some [aS .int<|ap [] [3]])<|cond c (cond a (oN (few<|ln<|ap [] [4])<|some [aS .int<|ap [] [4]])<|some [e])<|some [e])<|cond c (cond a (oN (few<|ln<|ap [] [4])<|some [aS .int<|ap [] [4]])<|some [e])<|some [e])
theorem zq6 (a:Ctl)(b:zdR a=true):∃N,zlA N a=some [aS .int<|zfy a]:=by
 refine⟨0,?_⟩;unfold zlA oN nB;conv=>zeta
 refine must rfl (brN (λ_=>mu (must rfl (brN (λ_=>mu (br (λ_=>brN (λ_=>mu (br (λ_=>br (λ_=>mu ?_) λ_=>?_) λ_=>?_)) λ_=>br (λ_=>br (λ_=>mu ?_) λ_=>?_) λ_=>?_) λ_=>br (λ_=>br (λ_=>mu ?_) λ_=>?_) λ_=>?_)) λ_=>br (λ_=>brN (λ_=>mu (br (λ_=>br (λ_=>mu ?_) λ_=>?_) λ_=>?_)) λ_=>br (λ_=>br (λ_=>mu ?_) λ_=>?_) λ_=>?_) λ_=>br (λ_=>br (λ_=>mu ?_) λ_=>?_) λ_=>?_))) λ_=>must rfl (brN (λ_=>mu (br (λ_=>brN (λ_=>mu (br (λ_=>br (λ_=>mu ?_) λ_=>?_) λ_=>?_)) λ_=>br (λ_=>br (λ_=>mu ?_) λ_=>?_) λ_=>?_) λ_=>br (λ_=>br (λ_=>mu ?_) λ_=>?_) λ_=>?_)) λ_=>br (λ_=>brN (λ_=>mu (br (λ_=>br (λ_=>mu ?_) λ_=>?_) λ_=>?_)) λ_=>br (λ_=>br (λ_=>mu ?_) λ_=>?_) λ_=>?_) λ_=>br (λ_=>br (λ_=>mu ?_) λ_=>?_) λ_=>?_));all_goals first|rfl|(simp only [*,zfy,zjg,cT,cF]<;>rfl)|simp_all[Ty.cells,zfy,zjg]
theorem znR:u3 89 zjB:=kF1 zfP zL zA zC (zF []) zq6
def zmg (p n:Int):Bool:=ieq (wand .i64 (zwO .i64 p n) 1) 1
def scan (p:Int):Int:=bif zmg p 7 then 7 else (cond (zmg p 6) 6<|cond (zmg p 5) 5<|cond (zmg p 4) 4<|cond (zmg p 3) 3<|cond (zmg p 2) 2<|cond (zmg p 1) 1<|cond (zmg p 0) 0<|-1)
def zEj:zB:=[(21,ziX),(72,zlK),(71,zm6),(88,zox),(81,zm1),(89,zjB)]++zEi
theorem zgN:zo zEj:=zk zki (zk zqX<|zk zsf<|zk zt3<|zk zr7<|zk znR zfP)
def zfK (m:List (List Int))(n:Int):Bool:=bif m.all zbL then ieq (ln m) n else false
@[simp] abbrev zhp (m:List (List Int))(n:Int):Bool:=true
@[simp] abbrev zfh (m:List (List Int))(n:Int):Bool:=zfK m n
def zoy:Run:=rF2 (dS<|.sl .int) dI λb c=>(zhp b c,[aB<|zfh b c])
def zth (N:Nat)(c:lM)(d:Int):OA:=
 (iter (σ:=(Int×Int×Int×lM×Unit)) N (λe a=>let b:=a.2.2.2.1; (cond (ilt a.2.2.1 a.2.1) (oN (inb a.2.2.1<|ln b)<|oN (zdZ<|ix b a.2.2.1 [])<|cond (nB<|zdg<|ix b a.2.2.1 []) oF<|e (a.1,a.2.1,zQ .i64 a.2.2.1 1,b,()))<|some [aB<|ieq (ln b) a.1])) (d,ln c,0,c,()))
def zxy:=zF [(49,0,{n:=21,tm:=[(0,.sl 0 []),(1,ti),(7,.sl 0 []),(8,ti),(9,ti)],lo:=[],ro:=[(0,.sl .int,false)]})]
theorem zxg (a:List (List Int))(c:Int)(h:zb1 big [aS (.sl .int) a,aI c])(k:zhp a c=true):∃N,zth N a c=some [aB<|zfh a c]:=by
 have g:(_:List _).length<=big:=((zcb h).1 _ (qE.2 rfl)).len;refine zcG λN f=>?_;unfold zth oN nB;conv=>zeta
 refine(zbb a (λi (t:Unit)=>(c,ln a,(i:Int),a,())) _ (λ_ x (_:Unit) j=>bif (zbL) x then j () else oF) (λ(t:Unit)=>some [.one<|.b<|ieq (ln a) c]) (λi d t rec=>?_) (λt rec=>?_) _ ()<|f g).trans ?_;{simp only [zbT d,zbk d,zbt d,zX d g,cT];exact zin rfl};{simp only [zbC,cF]};rw[zeC<|zbL];refine br (λe=>?_) (λe=>?_);{first|rfl|(simp only [e,zfh,zfK,cT,cF]<;>rfl)|(simp_all [Ty.cells,zfh,zfK];done)};{first|rfl|(simp only [e,zfh,zfK,cT,cF]<;>rfl)|(simp_all [Ty.cells,zfh,zfK];done)}
theorem zt4:u3 49 zoy:=hF2 zgN zL zA zC zxy zxg
def zfD (p:List Ins):Bool:=bif p.all znJ then zi (ln p) 1 12 else false
@[simp] abbrev zlb (p:List Ins):Bool:=true
@[simp] abbrev zfS (p:List Ins):Bool:=zfD p
def zm8:Run:=rF1 (dS .ins) λb=>(zlb b,[aB<|zfS b])
def zp7 (N:Nat)(b:lI):OA:=
 (iter (σ:=(Int×Int×lI×Unit)) N (λd a=>let c:=ix a.2.2.1 a.2.1 zEZ; (cond (ilt a.2.1 a.1) (oN (inb a.2.1<|ln a.2.2.1)<|oN (zmG c)<|cond (nB<|zko c) oF<|d (a.1,zQ .i64 a.2.1 1,a.2.2.1,()))<|oN (zN (ln a.2.2.1) 1 12)<|some [aB<|zi (ln a.2.2.1) 1 12])) (ln b,0,b,()))
def zwB:=zF [(79,0,{n:=18,tm:=[(0,.sl 0 []),(5,.sl 0 []),(6,ti),(7,ti)],lo:=[],ro:=[(0,.ins,false)]})]
theorem zvM (a:List Ins)(g:zb1 big [aS .ins a])(j:zlb a=true):∃N,zp7 N a=some [aB<|zfS a]:=by
 have f:(_:List _).length<=big:=((zcb g).1 _ (qE.2 rfl)).len;refine zcG λN e=>?_;unfold zp7 oN nB;conv=>zeta
 refine(zbb a (λi (t:Unit)=>(ln a,(i:Int),a,())) _ (λ_ x (_:Unit) h=>bif (znJ) x then h () else oF) (λ(t:Unit)=>cond (zN (ln a) 1 12) (some [.one<|.b<|zi (ln a) 1 12]) none) (λi c t rec=>?_) (λt rec=>?_) _ ()<|e f).trans ?_;{simp only [zbT c,zbk c,zbt c,zX c f,cT];exact zin rfl};{simp only [zbC,cF]};rw[zeC<|znJ];refine br (λd=>?_) (λd=>?_);{refine must rfl ?_;first|rfl|(simp only [d,zfS,zfD,cT,cF]<;>rfl)|(simp_all [Ty.cells,zfS,zfD];done)};{first|rfl|(simp only [d,zfS,zfD,cT,cF]<;>rfl)|(simp_all [Ty.cells,zfS,zfD];done)}
theorem zsh:u3 79 zm8:=hF1 zgN zL zA zC zwB zvM
def zqA (c:Ctl):Bool:=ieq (ln<|zjg c) 0
@[simp] abbrev zkm (c:Ctl):Bool:=zqA c
def zow:Run:=rF1 dC λb=>(zdR b,[aB<|zkm b])
def zte (N:Nat)(a:Ctl):OA:=
 (oN (zdR a)<|some [aB<|ieq (ln<|zfy a) 0])
theorem zxd (a:Ctl)(b:zdR a=true):∃N,zte N a=some [aB<|zkm a]:=by refine⟨0,?_⟩;unfold zte oN;refine must rfl ?_;first|rfl|(simp only [*,zkm,zqA,cT,cF]<;>rfl)|simp_all[Ty.cells,zkm,zqA]
theorem zt2:u3 80 zow:=kF1 zgN zL zA zC (zF []) zxd
def zns (p:Int):Int:=bif ze4 p then scan p else -1
theorem zBQ {c:Cur}(h:zpU c){n:Int}(a:0<n):0<=zes c n/\zes c n<n:=(znh<|zxH h n).2.2 a
def zEG:zb7:=zEF
theorem zC4:zbI zEG:=zC3
theorem zGw {a:Type}{l:List a}(h:ln l<=1000000):few (ln l)=true:=qT ⟨by unfold ln;omega,by omega⟩
theorem zHb {a:Type}(l:List a)(x:a):ln (ap l [x])=ln l+1:=by simp[ln,ap]
def zEH:zb7:=zEG
theorem zC5:zbI zEH:=zC4
def zEI:zb7:=zEH
theorem zC6:zbI zEI:=zC5
def zEJ:zb7:=zEI
theorem zC7:zbI zEJ:=zC6
def zEK:zb7:=zEJ
theorem zC8:zbI zEK:=zC7
def zEL:zb7:=zEK
theorem zC9:zbI zEL:=zC8
def zEM:zb7:=zEL
theorem zDa:zbI zEM:=zC9
@[simp] abbrev zcY (l:List (List Int)):Bool:=pc (SmM l)
@[simp] abbrev zbX (l:List (List Int)):List (List Int):=l
def zlL:Run:=rF1 (dS<|.sl .int) λb=>(zcY b,[aS (.sl .int)<|zbX b])
def zn4 (N:Nat)(c:lM):OA:=
 (iter (σ:=(Int×Int×lM×lM×Unit)) N (λd a=>let b:=ix a.2.2.2.1 a.2.1 []; (cond (ilt a.2.1 a.1) (oN (inb a.2.1<|ln a.2.2.2.1)<|oN (zbZ b)<|oN (few<|ln<|ap a.2.2.1 [zbY b])<|d (a.1,zQ .i64 a.2.1 1,ap a.2.2.1 [zbY b],a.2.2.2.1,()))<|some [aS (.sl .int) a.2.2.1])) (ln c,0,[],c,()))
def zun:=zF [(44,0,{n:=20,tm:=[(3,.sl 0 []),(7,.sl 1 []),(8,ti),(9,ti)],lo:=[],ro:=[(0,.sl .int,true),(1,.sl .int,false)]})]
theorem zuf (a:List (List Int))(g:zcY a=true):∃N,zn4 N a=some [aS (.sl .int)<|zbX a]:=by
 have f:=zbm.1 g;have e:=zd3 f.1;refine zcG λN d=>?_;unfold zn4 oN;conv=>zeta
 refine(zbb a (λi (t:lM)=>(ln a,(i:Int),t,a,())) _ (λ_ x b j=>bif zbZ x then (cond (few<|ln<|ap b [zbY x]) (j<|ap b [zbY x]) none) else none) (λ(t:lM)=>some [.one<|.s (.sl .int) t]) (λi c t rec=>?_) (λt rec=>?_) _ ([])<|d e.1).trans ?_;{simp only [zbT c,zbk c,zbt c,zX c e.1,cT]};{simp only [zbC,cF]};exact zio zbZ zbY _ a 0 [] (λx h=>⟨by exact zb3 (jG (f.2 x h) (by decide)),rfl⟩) (by simpa using e.2)
theorem zqY:u3 44 zlL:=kF1 zgN zL zA zC zun zuf
@[simp] abbrev zex (g:Guest):Bool:=pc (SmG g)
@[simp] abbrev zcX (g:Guest):Guest:=g
def zjD:Run:=rF1 (dT .guest) λb=>(zex b,[aT .guest<|zcX b])
def zlC (N:Nat)(a:Guest):OA:=
 (oN (ziJ a.Prog)<|oN (zdh a.Written)<|oN (zdh a.Live)<|oN (zbZ a.Seen)<|some [aT .guest ({a with Prog:=(zgt a.Prog),Written:=(zcI a.Written),Live:=(zcI a.Live),Seen:=(zbY a.Seen)}:Guest)])
theorem zq8 (a:Guest)(b:zex a=true):∃N,zlC N a=some [aT .guest<|zcX a]:=by have c:=zbm.1 b;obtain⟨h,i,j,k⟩:=c;have d:a.Prog.length<=2147483648:=(by omega);have e:a.Written.length<=2147483648:=(by omega);have f:a.Live.length<=2147483648:=(by omega);have g:a.Seen.length<=2147483648:=(by omega);refine⟨0,?_⟩;unfold zlC oN;refine mu (mu<|mu<|mu ?_);first|rfl|(simp only [*,zcX,cT,cF]<;>rfl)|simp_all[Ty.cells,zcX]
theorem znT:u3 62 zjD:=kF1 zgN zL zA zC (zF []) zq8
def zwL (t:List Slot)(p n:Int):Bool:=bif ieq (zbo t p).Page (-1) then false else (cond (enough (zbo t p).Rights n) (zi n 1 3) false)
def zBE (t:List Slot)(p n:Int):Int:=bif zwL t p n then (zbo t p).Page else -1
def zEk:zB:=[(44,zlL),(62,zjD),(49,zoy),(79,zm8),(80,zow)]++zEj
theorem zu6:zo zEk:=zk zqY (zk znT<|zk zt4<|zk zsh<|zk zt2 zgN)
@[simp] abbrev zeT (m:List (List Int))(p c v:Int):Bool:=pc (SmM m)
@[simp] abbrev zen (m:List (List Int))(p c v:Int):List (List Int):=zW m p c v
def zkB:Run:=rF4 (dS<|.sl .int) dI dI dI λb c d e=>(zeT b c d e,[aS (.sl .int)<|zen b c d e])
def zl0 (N:Nat)(a:lM)(b c d:Int):OA:=
 let e:=aS (.sl .int)<|zbX a; (oN (zcY a)<|oN (zZ b<|ln a)<|cond (zcf b<|ln a) (oN (inb b<|ln a)<|oN (zZ c<|ln<|ix a b [])<|cond (zcf c<|ln<|ix a b []) (oN (zN d 0 99)<|cond (zi d 0 99) (oN (inb b<|ln<|zbX a)<|oN (inb c<|ln<|ix (zbX a) b [])<|share (up (zbX a) b<|up (ix (zbX a) b []) c d) λf=>some [aS (.sl .int) f])<|some [e])<|some [e])<|some [e])
theorem zsE (a:List (List Int))(b c d:Int)(e:zeT a b c d=true):∃N,zl0 N a b c d=some [aS (.sl .int)<|zen a b c d]:=by
 have f:=zbm.1 e;refine⟨0,?_⟩;unfold zl0 oN;conv=>zeta
 refine mu (must rfl (br (λ_=>mu (must rfl (br (λ_=>must rfl (br (λ_=>mu (mu<|shr ?_)) λ_=>?_)) λ_=>?_))) λ_=>?_));all_goals first|rfl|(simp only [*,zen,zW,zdG,cT,cF]<;>rfl)|simp_all[Ty.cells,zen,zW,zdG]
theorem zpj:u3 20 zkB:=kF4 zu6 zL zA zC (zF []) zsE
def zpN (g:Guest):Bool:=bif canRun g then (cond g.Ctl.Open (ige (zns g.Pending) 0) false) else false
def zx0 (p:Int):Int:=bif ilt (zns p) 0 then p else wsub .i64 p (zDz .i64 1<|zns p)
def zGA (p:Int):Int:=bif ilt (zns p) 0 then -1 else zns p
def saw (g:Guest)(n:Int):Guest:=bif ilt (ln g.Seen) 40 then {g with Seen:=ap g.Seen [n]} else g
@[simp] theorem zyk {g:Guest}(n:Int)(h:SmG g):SmG (saw g n):=by unfold saw;cases a:ilt (ln g.Seen) 40;{exact h};{have:=qP a;refine⟨h.1,h.2.1,h.2.2.1,?_⟩;simp[ln] at *;omega}
def stopped (g:Guest)(e:GExit):Guest:={g with Exit:=e}
@[simp] theorem zG0 {g:Guest}(e:GExit)(h:SmG g):SmG (stopped g e):=h
def zbE (g:Guest):Guest:=bif ige g.Pc 12 then {g with Pc:=12} else {g with Pc:=zQ .i64 g.Pc 1}
@[simp] theorem zhy {g:Guest}(h:SmG g):SmG (zbE g):=by unfold zbE;cases ige g.Pc 12<;>exact h
def zEl:zB:=[(20,zkB)]++zEk
theorem zo4:zo zEl:=zk zpj zu6
def interrupted (g:Guest):Guest:=bif zpN g then saw {g with Pending:=zx0 g.Pending} (zQ .i64 100<|zGA g.Pending) else g
@[simp] theorem zFV {g:Guest}(h:SmG g):SmG (interrupted g):=by unfold interrupted;cases zpN g;{exact h};{exact zyk (g:={g with Pending:=zx0 g.Pending}) _ h}
def zGH (o:Int):Int:=bif ieq o 3 then 3 else (cond (ieq o 4) 4<|cond (ieq o 5) 5<|cond (ieq o 6) 6<|cond (ieq o 7) 7 2)
def zkM (g:Guest):Int:=bif canRun g then (cond (zpN g) 1<|zGH (zdJ g.Prog g.Pc).Op) else 0
def held (g:Guest):Guest:=zbE {g with Halted:=true}
@[simp] theorem zDi {g:Guest}(h:SmG g):SmG (held g):=zhy (g:={g with Halted:=true}) h
def loaded (g:Guest)(v:Int):Guest:=zbE (saw {g with A:=v} v)
@[simp] theorem zzw {g:Guest}(v:Int)(h:SmG g):SmG (loaded g v):=zhy (zyk (g:={g with A:=v}) v h)
def zys (g:Guest)(w:Int):Guest:=bif ieq w 5 then stopped g (zx6 (zdJ g.Prog g.Pc).X) else stopped g ⟨4,0,false,0⟩
@[simp] theorem zG1 {g:Guest}(w:Int)(h:SmG g):SmG (zys g w):=by unfold zys;cases ieq w 5<;>exact h
def zc9 (g:Guest):Bool:=zfD g.Prog&&(zi g.A 0 99&&(zi g.Pc 0 12&&(zcg g.Written 4 8&&(zcg g.Live 4 8&&(zqA g.Ctl&&(ze4 g.Pending&&(zmu g.Exit&&ile (ln g.Seen) 40)))))))
@[simp] abbrev zfz (g:Guest):Bool:=true
@[simp] abbrev zeQ (g:Guest):Bool:=zc9 g
def zlJ:Run:=rF1 (dT .guest) λb=>(zfz b,[aB<|zeQ b])
def zn2 (N:Nat)(a:Guest):OA:=
 (oN (zlb a.Prog)<|cond (zfS a.Prog) (oN (zN a.A 0 99)<|cond (zi a.A 0 99) (oN (zN a.Pc 0 12)<|cond (zi a.Pc 0 12) (oN (zfA a.Written 4 8)<|cond (zd0 a.Written 4 8) (oN (zfA a.Live 4 8)<|cond (zd0 a.Live 4 8) (oN (zdR a.Ctl)<|cond (zkm a.Ctl) (oN (zfi a.Pending)<|cond (zeR a.Pending) (oN (zk8 a.Exit)<|cond (ziA a.Exit) (some [aB<|ile (ln a.Seen) 40]) oF) oF) oF) oF) oF) oF) oF) oF)
theorem zua (a:Guest)(b:zfz a=true):∃N,zn2 N a=some [aB<|zeQ a]:=by refine⟨0,?_⟩;unfold zn2 oN;refine must rfl (br (λ_=>must rfl (br (λ_=>must rfl (br (λ_=>must rfl (br (λ_=>must rfl (br (λ_=>must rfl (br (λ_=>must rfl (br (λ_=>must rfl (br (λ_=>?_) λ_=>?_)) λ_=>?_)) λ_=>?_)) λ_=>?_)) λ_=>?_)) λ_=>?_)) λ_=>?_)) λ_=>?_);all_goals first|rfl|(simp only [*,zeQ,zc9,cT,cF]<;>rfl)|simp_all[Ty.cells,zeQ,zc9]
theorem zqW:u3 64 zlJ:=kF1 zo4 zL zA zC (zF []) zua
@[simp] abbrev zdy (l:List Guest):Bool:=pc (zl9 l)
@[simp] abbrev zdE (l:List Guest):List Guest:=l
def ziW:Run:=rF1 (dS .guest) λb=>(zdy b,[aS .guest<|zdE b])
def zj8 (N:Nat)(c:lG):OA:=
 (iter (σ:=(Int×Int×lG×lG×Unit)) N (λd a=>let b:=ix a.2.2.2.1 a.2.1 zde; (cond (ilt a.2.1 a.1) (oN (inb a.2.1<|ln a.2.2.2.1)<|oN (zex b)<|oN (few<|ln<|ap a.2.2.1 [zcX b])<|d (a.1,zQ .i64 a.2.1 1,ap a.2.2.1 [zcX b],a.2.2.2.1,()))<|some [aS .guest a.2.2.1])) (ln c,0,[],c,()))
def zpP:=zF [(37,0,{n:=20,tm:=[(3,.sl 0 []),(7,.sl 1 []),(8,ti),(9,ti)],lo:=[],ro:=[(0,.guest,true),(1,.guest,false)]})]
theorem zpy (a:List Guest)(g:zdy a=true):∃N,zj8 N a=some [aS .guest<|zdE a]:=by
 have f:=zbm.1 g;have e:=zd3 f.1;refine zcG λN d=>?_;unfold zj8 oN;conv=>zeta
 refine(zbb a (λi (t:lG)=>(ln a,(i:Int),t,a,())) _ (λ_ x b j=>bif zex x then (cond (few<|ln<|ap b [zcX x]) (j<|ap b [zcX x]) none) else none) (λ(t:lG)=>some [.one<|.s .guest t]) (λi c t rec=>?_) (λt rec=>?_) _ ([])<|d e.1).trans ?_;{simp only [zbT c,zbk c,zbt c,zX c e.1,cT]};{simp only [zbC,cF]};exact zio zex zcX _ a 0 [] (λx h=>⟨by exact zb3 (f.2 x h),rfl⟩) (by simpa using e.2)
theorem zmD:u3 37 ziW:=kF1 zo4 zL zA zC zpP zpy
def gAt (b:Bare)(i:Int):Guest:=bif hasB i (ln b.Guests) then ix b.Guests i zde else Ty.dflt .guest
@[simp] theorem zGP {b:Bare}(i:Int)(h:SmB b):SmG (gAt b i):=by unfold gAt;cases a:hasB i (ln b.Guests);{exact zHl};{exact zGQ h.2.1 a _}
def zEm:zB:=[(64,zlJ),(37,ziW)]++zEl
theorem zo5:zo zEm:=zk zqW (zk zmD zo4)
def plainly (g:Guest):Guest:=bif ine (zkM g) 2 then g else (cond (zi g.A 0 99) (cond (zi (zdJ g.Prog g.Pc).X 0 99) (cond (ieq (zdJ g.Prog g.Pc).Op 1) {zbE g with A:=(zdJ g.Prog g.Pc).X}<|cond (ieq (zdJ g.Prog g.Pc).Op 2) {zbE g with A:=zcN (zQ .i64 g.A (zdJ g.Prog g.Pc).X) 100}<|cond (ieq (zdJ g.Prog g.Pc).Op 8) (cond (ieq g.A 0) {zbE g with Pc:=(zdJ g.Prog g.Pc).X}<|zbE g)<|zbE g)<|zbE g)<|zbE g)
@[simp] theorem zHe (g:Guest):(zbE g).Prog=g.Prog:=by unfold zbE;cases ige g.Pc 12<;>rfl
@[simp] theorem zHI (g:Guest):(zbE g).A=g.A:=by unfold zbE;cases ige g.Pc 12<;>rfl
@[simp] theorem zF4 (g:Guest):(zbE g).Written=g.Written:=by unfold zbE;cases ige g.Pc 12<;>rfl
@[simp] theorem zHd (g:Guest):(zbE g).Live=g.Live:=by unfold zbE;cases ige g.Pc 12<;>rfl
@[simp] theorem zHp (g:Guest):(zbE g).Ctl=g.Ctl:=by unfold zbE;cases ige g.Pc 12<;>rfl
@[simp] theorem zF3 (g:Guest):(zbE g).Pending=g.Pending:=by unfold zbE;cases ige g.Pc 12<;>rfl
@[simp] theorem zHc (g:Guest):(zbE g).Exit=g.Exit:=by unfold zbE;cases ige g.Pc 12<;>rfl
@[simp] theorem zGF (g:Guest):(zbE g).Halted=g.Halted:=by unfold zbE;cases ige g.Pc 12<;>rfl
@[simp] theorem zHf (g:Guest):(zbE g).Seen=g.Seen:=by unfold zbE;cases ige g.Pc 12<;>rfl
@[simp] theorem zHq (g:Guest)(x:Int):(zbE {g with A:=x}).Pc=(zbE g).Pc:=by unfold zbE;cases ige g.Pc 12<;>rfl
@[simp] theorem zxv {g:Guest}(h:SmG g):SmG (plainly g):=by have a:=zhy h;unfold plainly;cases ine (zkM g) 2;{cases zi g.A 0 99;{exact a};{cases zi (zdJ g.Prog g.Pc).X 0 99;{exact a};{cases ieq (zdJ g.Prog g.Pc).Op 1;{cases ieq (zdJ g.Prog g.Pc).Op 2;{cases ieq (zdJ g.Prog g.Pc).Op 8;{exact a};{cases ieq g.A 0<;>exact a}};{exact a}};{exact a}}}};{exact h}
def address (g:Guest):Int:=bif ine (zkM g) 3 then (cond (ine (zkM g) 4) (-1)<|(zdJ g.Prog g.Pc).X) else (zdJ g.Prog g.Pc).X
def zzE (g:Guest)(t w:Int):Guest:=bif ieq w 6 then stopped g (zBT (zdJ g.Prog g.Pc).X) else (cond (ieq w 5&&zic t 1) (stopped g<|zx6 (zdJ g.Prog g.Pc).X)<|cond (ieq w 7&&zic t 2) (stopped g ⟨4,0,false,0⟩)<|cond (ieq w 7) (held g)<|zbE g)
def zES (t w:Int):Bool:=bif ieq w 6 then false else (cond (ieq w 5&&zic t 1) false<|cond (ieq w 7&&zic t 2) false true)
@[simp] theorem ztV {g:Guest}(t w:Int)(h:SmG g):SmG (zzE g t w):=by unfold zzE;cases ieq w 6;{cases (ieq w 5&&zic t 1);{cases (ieq w 7&&zic t 2);{cases ieq w 7;{exact zhy h};{exact zDi h}};{exact h}};{exact h}};{exact h}
def zcp (b:Bare):Bool:=bif b.Guests.all zc9 then (zfK b.Memory 8&&(zi (ln b.Guests) 1 2&&(ile (ln b.Outs) 40&&ze4 b.Pending))) else false
@[simp] abbrev zk7 (b:Bare):Bool:=true
@[simp] abbrev zcT (b:Bare):Bool:=zcp b
def zmZ:Run:=rF1 (dT .bare) λb=>(zk7 b,[aB<|zcT b])
def zpV (N:Nat)(b:Bare):OA:=
 (iter (σ:=(Int×Int×Int×lG×lM×(List Int)×Unit)) N (λe a=>let c:=a.2.2.2.1;let d:=ix c a.2.1 zde; (cond (ilt a.2.1 a.1) (oN (inb a.2.1<|ln c)<|oN (zfz d)<|cond (nB<|zeQ d) oF<|e (a.1,zQ .i64 a.2.1 1,a.2.2.1,c,a.2.2.2.2.1,a.2.2.2.2.2.1,()))<|oN (zhp a.2.2.2.2.1 8)<|cond (zfh a.2.2.2.2.1 8) (oN (zN (ln c) 1 2)<|cond (zi (ln c) 1 2) (cond (ile (ln a.2.2.2.2.2.1) 40) (oN (zfi a.2.2.1)<|some [aB<|zeR a.2.2.1]) oF) oF) oF)) (ln b.Guests,0,b.Pending,b.Guests,b.Memory,b.Outs,()))
def zwv:=zF [(39,0,{n:=36,tm:=[(1,.lp 0 0),(6,.sl 0 []),(7,ti),(8,ti)],lo:=[(0,[.sl 1 [],.sl 0 [],.sl 2 [],ti])],ro:=[(0,.guest,false),(1,.sl .int,false),(2,.int,false)]})]
theorem zvA (a:Bare)(k:zb1 big [aT .bare a])(m:zk7 a=true):∃N,zpV N a=some [aB<|zcT a]:=by
 have j:(_:List _).length<=big:=((zcb k).1 (.s .guest a.Guests) (by simp[AV.cvs,Ty.cells])).len;refine zcG λN h=>?_;unfold zpV oN nB;conv=>zeta
 refine(zbb a.Guests (λi (t:Unit)=>(ln a.Guests,(i:Int),a.Pending,a.Guests,a.Memory,a.Outs,())) _ (λ_ x (_:Unit) l=>bif (zc9) x then l () else oF) (λ(t:Unit)=>cond (zhp a.Memory 8) (cond (zfh a.Memory 8) (cond (zN (ln a.Guests) 1 2) (cond (zi (ln a.Guests) 1 2) (cond (ile (ln a.Outs) 40) (cond (zfi a.Pending) (some [.one<|.b<|zeR a.Pending]) none) oF) oF) none) oF) none) (λi f t rec=>?_) (λt rec=>?_) _ ()<|h j).trans ?_;{simp only [zbT f,zbk f,zbt f,zX f j,cT];exact zin rfl};{simp only [zbC,cF]};rw[zeC<|zc9];refine br (λc=>?_) (λc=>?_);{refine must rfl ?_;refine br (λd=>?_) (λd=>?_);{refine must rfl ?_;refine br (λe=>?_) (λe=>?_);{refine br (λg=>?_) (λg=>?_);{refine must rfl ?_;first|rfl|(simp only [c,d,e,g,zcT,zcp,cT,cF]<;>rfl)|(simp_all [Ty.cells,zcT,zcp];done)};{first|rfl|(simp only [c,d,e,g,zcT,zcp,cT,cF]<;>rfl)|(simp_all [Ty.cells,zcT,zcp];done)}};{first|rfl|(simp only [c,d,e,zcT,zcp,cT,cF]<;>rfl)|(simp_all [Ty.cells,zcT,zcp];done)}};{first|rfl|(simp only [c,d,zcT,zcp,cT,cF]<;>rfl)|(simp_all [Ty.cells,zcT,zcp];done)}};{first|rfl|(simp only [c,zcT,zcp,cT,cF]<;>rfl)|(simp_all [Ty.cells,zcT,zcp];done)}
theorem zr5:u3 39 zmZ:=hF1 zo5 zL zA zC zwv zvA
@[simp] abbrev ziI (b:Bare):Bool:=pc (SmB b)
@[simp] abbrev zfj (b:Bare):Bare:=b
def zkD:Run:=rF1 (dT .bare) λb=>(ziI b,[aT .bare<|zfj b])
def zl2 (N:Nat)(a:Bare):OA:=
 (oN (zcY a.Memory)<|oN (zdy a.Guests)<|oN (zbZ a.Outs)<|some [aT .bare (⟨zbX a.Memory,zdE a.Guests,zbY a.Outs,a.Pending⟩:Bare)])
theorem zsG (a:Bare)(b:ziI a=true):∃N,zl2 N a=some [aT .bare<|zfj a]:=by have c:=zbm.1 b;have d:_/\_/\_:=c;refine⟨0,?_⟩;unfold zl2 oN;refine mu (mu<|mu ?_);first|rfl|(simp only [*,zfj,cT,cF]<;>rfl)|simp_all[Ty.cells,zfj]
theorem zpl:u3 38 zkD:=kF1 zo5 zL zA zC (zF []) zsG
def zEn:zB:=[(39,zmZ),(38,zkD)]++zEm
theorem zCm:zo zEn:=zk zr5 (zk zpl zo5)
def zni (b:Bare)(i:Int)(x:Guest):Bare:={b with Guests:=up b.Guests i x}
def zmW (b:Bare)(n:Int):Bare:=bif ilt (ln b.Outs) 40 then {b with Outs:=ap b.Outs [n]} else b
@[simp] theorem zg8 {b:Bare}{i:Int}{x:Guest}(h:SmB b)(a:SmG x):SmB (zni b i x):=⟨h.1,zyl h.2.1 a,h.2.2⟩
@[simp] theorem zzv {b:Bare}{n:Int}(h:SmB b):SmB (zmW b n):=by unfold zmW;cases a:ilt (ln b.Outs) 40;{exact h};{have:=qP a;refine⟨h.1,h.2.1,?_⟩;simp[ln] at *;omega}
@[simp] theorem zHC (b:Bare)(n:Int):(zmW b n).Guests=b.Guests:=by unfold zmW;cases ilt (ln b.Outs) 40<;>rfl
@[simp] theorem zpJ {m:List (List Int)}{p c v:Int}(h:SmM m):SmM (zW m p c v):=by unfold zW;cases a:zdG m p c;{exact h};{cases b:zi v 0 99;{exact h};{exact zrz h (by simpa using zGR h ((zgv m p c).1 a).1 [])}}
def zyO:zB:=zEn
theorem zkV:zo zyO:=zCm
def znO (b:Bare)(g:Int)(x:Guest)(w:Bool):Bare :=
 bif zwL x.Live (zim<|address x) (zrg w) then
  (bif w then zni {b with Memory:=zW b.Memory (zBE x.Live (zim<|address x)<|zrg w) (zuI<|address x) x.A} g (zbE x)
  else zni b g (loaded x<|cellAt b.Memory (zBE x.Live (zim<|address x)<|zrg w)<|zuI<|address x))
 else zni b g (stopped x<|zAy (zim<|address x) w)
def zsY (b:Bare)(g:Int)(x:Guest)(w:Int):Bare :=
 zni (cond (cond (zES x.Ctl.Traps w) (ieq w 5) false) (zmW b (zdJ x.Prog x.Pc).X) b) g (zzE x x.Ctl.Traps w)
def stepped (b:Bare)(g:Int)(x:Guest)(w:Int):Bare :=
 bif ieq w 1 then zni b g (interrupted x) else (cond (ieq w 2) (zni b g<|plainly x)<|cond (ieq w 3) (znO b g x false)<|cond (ieq w 4) (znO b g x true)<|zsY b g x w)
def zxI (b:Bare)(g:Int):Bool:=bif hasB g (ln b.Guests) then (cond (zcp b) (!ieq (zkM<|gAt b g) 0) false) else false
def zuN (b:Bare)(g:Int):Bare:=bif zxI b g then stepped b g (gAt b g) (zkM<|gAt b g) else b
@[simp] theorem zyj {b:Bare}{g:Int}{x:Guest}{w:Bool}(h:SmB b)(a:SmG x):SmB (znO b g x w):=by unfold znO;cases zwL x.Live (zim<|address x) (zrg w);{exact zg8 h a};{cases w;{exact zg8 h (zzw _ a)};{exact⟨zpJ h.1,zyl h.2.1<|zhy a,h.2.2⟩}}
@[simp] theorem zFT {b:Bare}{g:Int}{x:Guest}{w:Int}(h:SmB b)(a:SmG x):SmB (zsY b g x w):=by unfold zsY;cases (cond (zES x.Ctl.Traps w) (ieq w 5) false);{exact zg8 h (ztV _ _ a)};{exact zg8 (zzv h) (ztV _ _ a)}
@[simp] theorem zxu {b:Bare}{g:Int}{x:Guest}{w:Int}(h:SmB b)(a:SmG x):SmB (stepped b g x w):=by unfold stepped;cases ieq w 1;{cases ieq w 2;{cases ieq w 3;{cases ieq w 4;{exact zFT h a};{exact zyj h a}};{exact zyj h a}};{exact zg8 h (zxv a)}};{exact zg8 h (zFV a)}
@[simp] theorem zHF {b:Bare}{g:Int}(h:SmB b):SmB (zuN b g):=by unfold zuN;cases zxI b g;{exact h};{exact zxu h (zGP g h)}
def SmK (k:Kept):Prop:=k.Known.length<=1048576/\k.Slots.length<=1048576
def zrP (l:List Kept):Prop:=l.length<=1048576/\∀x∈l,SmK x
def zhR (m:Mon):Prop:=m.Outer.length<=1048576/\SmM m.Out/\m.Dirty.length<=1048576/\zl9 m.Guests/\m.Outs.length<=1048576/\zrP m.Tables
def zma (l:List Mon):Prop:=l.length<=1048576/\∀x∈l,zhR x
def SmH (h:Host):Prop:=SmM h.Memory/\zma h.Mons/\h.Buffer.length<=1048576/\h.IoBuffer.length<=1048576
@[simp] theorem zE8 (k:Kept):(∀c∈Ty.cells .kept k,CVB sm c)↔SmK k:=by simp[Ty.cells,SmK,zDl]
@[simp] theorem zCy (l:List Kept):CVB sm (.s .kept l)↔zrP l:=by rw[zff];simp only[zE8];rfl
@[simp] theorem zE9 (m:Mon):(∀c∈Ty.cells .mon m,CVB sm c)↔zhR m:=by simp only[Ty.cells,qL,jT,or_false,uY,forall_eq,znE,ztu,zCy,zyP,zwZ,zwY,zEA,and_true,true_and];rfl
@[simp] theorem zFm (l:List Mon):CVB sm (.s .mon l)↔zma l:=by rw[zff];simp only[zE9];rfl
@[simp] theorem zh7 (h:Host):zdW h↔SmH h:=by unfold zdW;simp only[zbs,qL,jT,or_false,uY,forall_eq,znE,zFm,zvb];rfl
theorem zds {p:Prop}(h:p):pc p=true:=zb3 h
theorem zyn {l:List Kept}{i:Int}{x:Kept}(h:zrP l)(b:SmK x):zrP (up l i x):=by refine⟨by simpa using h.1,λy a=>?_⟩;rcases jD a with a|rfl;{exact h.2 y a};{exact b}
theorem ztW {l:List Mon}{i:Int}{x:Mon}(h:zma l)(b:zhR x):zma (up l i x):=by refine⟨by simpa using h.1,λy a=>?_⟩;rcases jD a with a|rfl;{exact h.2 y a};{exact b}
theorem zr0 {a:Type}{l:List a}(h:l.length<=1048576):few (ln<|ap [] l)=true:=by rw[zqn,zFu];omega
@[simp] abbrev zdF (k:Kept):Bool:=pc (SmK k)
@[simp] abbrev zb4 (k:Kept):Kept:=k
def zkF:Run:=rF1 (dT .kept) λb=>(zdF b,[aT .kept<|zb4 b])
def zl5 (N:Nat)(a:Kept):OA:=
 (oN (few<|ln<|ap [] a.Known)<|oN (zdh a.Slots)<|some [aT .kept (⟨ap [] a.Known,zcI a.Slots⟩:Kept)])
theorem zsJ (a:Kept)(b:zdF a=true):∃N,zl5 N a=some [aT .kept<|zb4 a]:=by have c:=zbm.1 b;obtain⟨f,g⟩:=c;have d:a.Known.length<=2147483648:=(by omega);have e:a.Slots.length<=2147483648:=(by omega);refine⟨0,?_⟩;unfold zl5 oN;refine mu (mu ?_);first|rfl|(simp only [*,zb4,cT,cF]<;>rfl)|simp_all[Ty.cells,zb4]
theorem zpn:u3 76 zkF:=kF1 zkV zL zA zC (zF []) zsJ
def zEa:zB:=[(76,zkF)]++zyO
theorem zu0:zo zEa:=zk zpn zkV
@[simp] abbrev zeE (m:Mon):Bool:=pc (zhR m)
@[simp] abbrev zeV (m:Mon):Mon:=m
def zlM:Run:=rF1 (dT .mon) λb=>(zeE b,[aT .mon<|zeV b])
def zn5 (N:Nat)(b:Mon):OA:=
 (oN (zdh b.Outer)<|oN (zcY b.Out)<|oN (few<|ln<|ap [] b.Dirty)<|oN (zdy b.Guests)<|oN (zbZ b.Outs)<|iter (σ:=(Int×Int×Int×Int×Int×Int×Int×Int×lK×lK×lS×lM×lB×lG×(List Int)×lS×lM×lB×lG×(List Int)×lK×Unit)) N (λi a=>let h:=a.2.2.2.2.2.2.2.2.2.2.2.2.1;let g:=a.2.2.2.2.2.2.2.2.2.2.2.2.2.1;let f:=a.2.2.2.2.2.2.2.2.2.2.2.2.2.2.1;let e:=a.2.2.2.2.2.2.2.2.1;let d:=a.2.2.2.2.2.2.2.2.2.1;let c:=ix d a.2.1 zd4; (cond (ilt a.2.1 a.1) (oN (inb a.2.1<|ln d)<|oN (zdF c)<|oN (few<|ln<|ap e [zb4 c])<|i (a.1,zQ .i64 a.2.1 1,a.2.2.1,a.2.2.2.1,a.2.2.2.2.1,a.2.2.2.2.2.1,a.2.2.2.2.2.2.1,a.2.2.2.2.2.2.2.1,ap e [zb4 c],d,a.2.2.2.2.2.2.2.2.2.2.1,a.2.2.2.2.2.2.2.2.2.2.2.1,h,g,f,a.2.2.2.2.2.2.2.2.2.2.2.2.2.2.2.1,a.2.2.2.2.2.2.2.2.2.2.2.2.2.2.2.2.1,a.2.2.2.2.2.2.2.2.2.2.2.2.2.2.2.2.2.1,a.2.2.2.2.2.2.2.2.2.2.2.2.2.2.2.2.2.2.1,a.2.2.2.2.2.2.2.2.2.2.2.2.2.2.2.2.2.2.2.1,a.2.2.2.2.2.2.2.2.2.2.2.2.2.2.2.2.2.2.2.2.1,()))<|some [aT .mon (⟨a.2.2.2.2.2.2.2.2.2.2.1,a.2.2.2.2.2.2.2.2.2.2.2.1,h,g,f,a.2.2.1,a.2.2.2.1,e,a.2.2.2.2.1⟩:Mon)])) (ln b.Tables,0,b.Pending,b.Traps,b.Own,0,0,0,[],b.Tables,zcI b.Outer,zbX b.Out,ap [] b.Dirty,zdE b.Guests,zbY b.Outs,[],[],[],[],[],[],()))
def zuo:=zF [(59,0,{n:=44,tm:=[(1,.lp 0 0),(2,.lp 1 0),(3,.sl 0 []),(29,.sl 1 []),(30,ti),(31,ti)],lo:=[(0,[.sl 2 [],.sl 3 [],.sl 4 [],.sl 5 [],.sl 6 [],ti,ti,.sl 1 [],ti]),(1,[.sl 7 [],.sl 8 [],.sl 9 [],.sl 10 [],.sl 11 [],ti,ti,.sl 12 [],ti])],ro:=[(0,.kept,true),(1,.kept,false),(2,.slot,true),(3,.sl .int,true),(4,.bool,true),(5,.guest,true),(6,.int,true),(7,.slot,true),(8,.sl .int,true),(9,.bool,true),(10,.guest,true),(11,.int,true),(12,.kept,true)]})]
theorem zug (a:Mon)(p:zeE a=true):∃N,zn5 N a=some [aT .mon<|zeV a]:=by
 obtain⟨s,l,m,n,u,f⟩:=zbm.1 p;have e:=zd3 f.1;refine zcG λN d=>?_;unfold zn5 oN;conv=>zeta
 have g:zdh a.Outer=true:=(by simp;omega);have h:zcY a.Out=true:=(by simp;exact l);have j:zdy a.Guests=true:=(by simp;exact n);have k:zbZ a.Outs=true:=(by simp;omega);refine must g (must h<|must (zr0 m)<|must j<|must k ?_);refine(zbb a.Tables (λi (t:lK)=>(ln a.Tables,(i:Int),a.Pending,a.Traps,a.Own,0,0,0,t,a.Tables,zcI a.Outer,zbX a.Out,ap [] a.Dirty,zdE a.Guests,zbY a.Outs,[],[],[],[],[],[],())) _ (λ_ x b r=>bif zdF x then (cond (few<|ln<|ap b [zb4 x]) (r<|ap b [zb4 x]) none) else none) (λ(t:lK)=>some [.agg<|Ty.cells .mon (⟨zcI a.Outer,zbX a.Out,ap [] a.Dirty,zdE a.Guests,zbY a.Outs,a.Pending,a.Traps,t,a.Own⟩:Mon)]) (λi c t rec=>?_) (λt rec=>?_) _ ([])<|d e.1).trans ?_;{simp only [zbT c,zbk c,zbt c,zX c e.1,cT]};{simp only [zbC,cF]};exact zio zdF zb4 _ a.Tables 0 [] (λx q=>⟨zds<|f.2 x q,rfl⟩) (by simpa using e.2)
theorem zqZ:u3 59 zlM:=kF1 zu0 zL zA zC zuo zug
def zEb:zB:=[(59,zlM)]++zEa
theorem zo2:zo zEb:=zk zqZ zu0
@[simp] abbrev zed (h:Host):Bool:=pc (zdW h)
@[simp] abbrev zfk (h:Host):Host:=h
def zg5:Run:=rF1 dH λb=>(zed b,[aH<|zfk b])
def zl3 (N:Nat)(b:Host):OA:=
 (oN (zcY b.Memory)<|oN (few<|ln<|ap [] b.Buffer)<|oN (few<|ln<|ap [] b.IoBuffer)<|iter (σ:=(Int×Int×lN×lM×lN×lE×lE×lM×lN×lE×lE×Unit)) N (λe a=>let d:=ix a.2.2.1 a.2.1 zx;let c:=ap a.2.2.2.2.2.2.2.2.1 [zeV d]; (cond (ilt a.2.1 a.1) (oN (inb a.2.1<|ln a.2.2.1)<|oN (zeE d)<|oN (few<|ln c)<|e (a.1,zQ .i64 a.2.1 1,a.2.2.1,a.2.2.2.1,a.2.2.2.2.1,a.2.2.2.2.2.1,a.2.2.2.2.2.2.1,a.2.2.2.2.2.2.2.1,c,a.2.2.2.2.2.2.2.2.2.1,a.2.2.2.2.2.2.2.2.2.2.1,()))<|some [aH (⟨a.2.2.2.2.2.2.2.1,a.2.2.2.2.2.2.2.2.1,a.2.2.2.2.2.2.2.2.2.1,a.2.2.2.2.2.2.2.2.2.2.1⟩:Host)])) (ln b.Mons,0,b.Mons,[],[],[],[],zbX b.Memory,[],ap [] b.Buffer,ap [] b.IoBuffer,()))
def zs8:=zF [(35,0,{n:=34,tm:=[(2,.lp 0 0),(3,.lp 1 0),(19,.sl 0 []),(20,ti),(21,ti)],lo:=[(0,[.sl 1 [],.sl 2 [],.sl 3 [],.sl 4 []]),(1,[.sl 5 [],.sl 6 [],.sl 7 [],.sl 8 []])],ro:=[(0,.mon,false),(1,.sl .int,true),(2,.mon,true),(3,.entry,true),(4,.entry,true),(5,.sl .int,true),(6,.mon,true),(7,.entry,true),(8,.entry,true)]})]
theorem zsH (a:Host)(l:zed a=true):∃N,zl3 N a=some [aH<|zfk a]:=by
 obtain⟨h,f,j,k⟩:=(zh7 a).1 (zbm.1 l);have e:=zd3 f.1;refine zcG λN d=>?_;unfold zl3 oN;conv=>zeta
 have g:zcY a.Memory=true:=(by simp;exact h);refine must g (must (zr0 j)<|must (zr0 k) ?_);refine(zbb a.Mons (λi (t:lN)=>(ln a.Mons,(i:Int),a.Mons,[],[],[],[],zbX a.Memory,t,ap [] a.Buffer,ap [] a.IoBuffer,())) _ (λ_ x b n=>bif zeE x then (cond (few<|ln<|ap b [zeV x]) (n<|ap b [zeV x]) none) else none) (λ(t:lN)=>some [.agg<|zbs (⟨zbX a.Memory,t,ap [] a.Buffer,ap [] a.IoBuffer⟩:Host)]) (λi c t rec=>?_) (λt rec=>?_) _ ([])<|d e.1).trans ?_;{simp only [zbT c,zbk c,zbt c,zX c e.1,cT]};{simp only [zbC,cF]};exact zio zeE zeV _ a.Mons 0 [] (λx m=>⟨zds<|f.2 x m,rfl⟩) (by simpa using e.2)
theorem zix:u3 35 zg5:=kF1 zo2 zL zA zC zs8 zsH
def allI {a:Type}(p:Nat->a->Bool):List a->Nat->Bool
 |[],_=>true
 |x::l,i=>p i x&&allI p l (i+1)
theorem zvk {a b:Type}(p:Nat->a->Bool)(r:Option b)(K:Unit->Option b):∀(l:List a) (i:Nat),goL (λi x (_:Unit) k=>bif p i x then k () else r) K l i ()=bif allI p l i then K () else r
 |[],_=>rfl
 |x::l,i=>by simp only[goL,allI];cases p i x;{rfl};{simp only [cT,uK];exact zvk p r K l (i+1)}
def sameKey (a b:Entry):Bool:=bif ieq a.Tag b.Tag then ieq a.Page b.Page else false
def alone (l:List Entry)(i:Nat)(x:Entry):Bool:=(l.take i).all λy=>!sameKey x y
def zc7 (l:List Entry):Bool:=bif allI (alone l) l 0 then ile (ln l) 6 else false
theorem zCH {a:Type}{l:List a}{i:Nat}(h:i<=l.length):inr 0 (i:Int) (ln l)=true:=qT (by simp only[ln];omega)
@[simp] abbrev zgo (l:List Entry):Bool:=true
@[simp] abbrev zgn (l:List Entry):Bool:=zc7 l
def zkx:Run:=rF1 (dS .entry) λb=>(zgo b,[aB<|zgn b])
def zlW (N:Nat)(g:lE):OA:=
 (iter (σ:=(Int×Int×lE×Unit)) N (λi b=>let c:=b.2.2.1;let e:=ix c b.2.1 zkN; (cond (ilt b.2.1 b.1) (oN (inb b.2.1<|ln c)<|oN (inr 0 b.2.1<|ln c)<|iter (σ:=(Int×Int×Int×Int×Int×Int×Int×Int×lE×lE×Unit)) N (λj a=>let d:=a.2.2.2.1;let f:=a.2.2.2.2.2.2.2.2.2.1;let h:=j (a.1,a.2.1,a.2.2.1,zQ .i64 d 1,a.2.2.2.2.1,a.2.2.2.2.2.1,a.2.2.2.2.2.2.1,a.2.2.2.2.2.2.2.1,a.2.2.2.2.2.2.2.2.1,f,()); (cond (ilt d a.2.2.1) (oN (inb d<|ln f)<|cond (ieq a.2.2.2.2.1 (ix f d zkN).Tag) (cond (ieq a.2.2.2.2.2.1 (ix f d zkN).Page) oF h) h)<|i (a.1,zQ .i64 a.2.1 1,a.2.2.2.2.2.2.2.2.1,()))) (b.1,b.2.1,ln<|tk c b.2.1,0,e.Tag,e.Page,e.Host,e.Rights,c,tk c b.2.1,()))<|some [aB<|ile (ln c) 6])) (ln g,0,g,()))
def zs7:=zF [(50,0,{n:=39,tm:=[(0,.sl 0 []),(7,.sl 0 []),(8,ti),(9,ti)],lo:=[],ro:=[(0,.entry,false)]}),(50,2,{n:=39,tm:=[(0,.sl 0 []),(4,.lp 0 0),(7,.sl 0 []),(8,ti),(9,ti),(16,.sl 1 []),(17,ti),(18,ti)],lo:=[(0,[ti,ti,ti,ti])],ro:=[(0,.entry,false),(1,.entry,false)]})]
theorem zsz (a:List Entry)(l:zb1 big [aS .entry a])(m:zgo a=true):∃N,zlW N a=some [aB<|zgn a]:=by
 have e:=len0 l;refine zcG λN d=>?_;unfold zlW oN;conv=>zeta
 refine(zbb a (λi (t:Unit)=>(ln a,(i:Int),a,())) _ (λi (x:Entry) (_:Unit) h=>bif alone a i x then h () else oF) (λ(t:Unit)=>some [.one<|.b<|ile (ln a) 6]) (λi c t rec=>?_) (λt rec=>?_) _ ()<|d e).trans ?_;{simp only [zbT c,zbk c,zbt c,zX c e,cT];rw[zCH<|Nat.le_of_lt c,cT];have k:(tk a (i:Int)).length<=big:=jG (by simp[tk];omega) e;refine(zbb (tk a (i:Int)) (λj (u:Unit)=>(ln a,(i:Int),ln<|tk a (i:Int),(j:Int),a[i].Tag,a[i].Page,a[i].Host,a[i].Rights,a,tk a (i:Int),())) _ (λ_ (y:Entry) (_:Unit) h=>bif !sameKey a[i] y then h () else oF) (λ(u:Unit)=>rec (ln a,((i+1:Nat):Int),a,())) (λj g u f=>?_) (λu f=>?_) _ ()<|d k).trans ?_;{simp only [zbT g,zbk g,zbt g,zX g k,cT,zX c e];unfold sameKey;cases ieq a[i].Tag (tk a (i:Int))[j].Tag<;>cases ieq a[i].Page (tk a (i:Int))[j].Page<;>rfl};{simp only [zbC,cF,zX c e]};rw[zeC λy=>!sameKey a[i] y];rfl};{simp only [zbC,cF]};rw[zvk<|alone a];unfold zgn zc7;cases allI (alone a) a 0<;>rfl
theorem zpf:u3 50 zkx:=hF1 zo2 zL zA zC zs7 zsz
def zEc:zB:=[(35,zg5),(50,zkx)]++zEb
theorem zu1:zo zEc:=zk zix (zk zpf zo2)
theorem zxX (a b:Int):igt a b = !ile a b:=by unfold igt ile;by_cases h:a<=b;{rw [qT h,qW (by omega)];rfl};{rw [qW h,qT (by omega)];rfl}
theorem stB {c M:Bool}{E:OA}(h:c=true->E=some [AV.one<|.b M]):(cond (cond c false true) (some [AV.one<|.b false]) E)=some [AV.one<|.b<|cond c M false]:=by cases c;{rfl};{exact h rfl}
theorem stI {a b:Int}{M:Bool}{E:OA}(h:ieq a b=true->E=some [AV.one<|.b M]):(cond (ine a b) (some [AV.one<|.b false]) E)=some [AV.one<|.b<|cond (ieq a b) M false]:=by rw[zxZ];cases c:ieq a b;{rfl};{exact h c}
theorem stG {a b:Int}{M:Bool}{E:OA}(h:ile a b=true->E=some [AV.one<|.b M]):(cond (igt a b) (some [AV.one<|.b false]) E)=some [AV.one<|.b<|cond (ile a b) M false]:=by rw[zxX];cases c:ile a b;{rfl};{exact h c}
def zga (s:Slot)(p:List Int):Bool:=bif zb9 s noSlot then zbL p else (cond (enough s.Rights 1) (ile (ln p) 0) false)
def fits (m:Mon)(j:Nat):Bool:=zga (ix m.Outer (j:Int) zU) (ix m.Out (j:Int) [])
def zcH (m:Mon):Bool:=bif zi (ln m.Guests) 1 2 then (cond (ieq (ln m.Tables)<|ln m.Guests) (cond (zcg m.Outer 8 12) (cond (ieq (ln m.Out) 8) (cond (ieq (ln m.Dirty) 8) (cond (ile (ln m.Outs) 40) (cond (ze4 m.Pending) (cond (zi m.Traps 0 3) (cond (zi m.Own 0 1000000000) (cond (m.Guests.all zc9) (zhA (fits m) 8 0) false) false) false) false) false) false) false) false) false) else false
theorem znp {t:List Slot}{n p:Int}(h:zcg t n p=true):ln t=n:=by unfold zcg at h;cases a:t.all (λs=>zc6 s p);{rw [a]at h;cases h};{rw [a]at h;exact qP h}
@[simp] abbrev zhr (m:Mon):Bool:=true
@[simp] abbrev zid (m:Mon):Bool:=zcH m
def zoA:Run:=rF1 (dT .mon) λb=>(zhr b,[aB<|zid b])
def ztj (N:Nat)(a:Mon):OA:=
 let h:=ln a.Guests; (oN (zN h 1 2)<|cond (nB<|zi h 1 2) oF<|cond (ine (ln a.Tables) h) oF<|oN (zfA a.Outer 8 12)<|cond (nB<|zd0 a.Outer 8 12) oF<|cond (ine (ln a.Out) 8) oF<|cond (ine (ln a.Dirty) 8) oF<|cond (igt (ln a.Outs) 40) oF<|oN (zfi a.Pending)<|cond (nB<|zeR a.Pending) oF<|oN (zN a.Traps 0 3)<|cond (nB<|zi a.Traps 0 3) oF<|oN (zN a.Own 0 1000000000)<|cond (nB<|zi a.Own 0 1000000000) oF<|iter (σ:=(Int×Int×Int×Int×Int×lG×lS×lM×lB×(List Int)×lK×Unit)) N (λl b=>let i:=b.2.2.2.2.2.2.1;let g:=b.2.2.2.2.2.1;let k:=ix g b.2.1 zde; (cond (ilt b.2.1 b.1) (oN (inb b.2.1<|ln g)<|oN (zfz k)<|cond (nB<|zeQ k) oF<|l (b.1,zQ .i64 b.2.1 1,b.2.2.1,b.2.2.2.1,b.2.2.2.2.1,g,i,b.2.2.2.2.2.2.2.1,b.2.2.2.2.2.2.2.2.1,b.2.2.2.2.2.2.2.2.2.1,b.2.2.2.2.2.2.2.2.2.2.1,()))<|iter (σ:=(Int×Int×Int×Int×Int×lS×lM×lB×lG×(List Int)×lK×Unit)) N (λm c=>let d:=c.2.1;let e:=c.2.2.2.2.2.2.1;let f:=ix c.2.2.2.2.2.1 d zU;let j:=m (c.1,zQ .i64 d 1,c.2.2.1,c.2.2.2.1,c.2.2.2.2.1,c.2.2.2.2.2.1,e,c.2.2.2.2.2.2.2.1,c.2.2.2.2.2.2.2.2.1,c.2.2.2.2.2.2.2.2.2.1,c.2.2.2.2.2.2.2.2.2.2.1,()); (cond (ilt d c.1) (oN (inb d<|ln c.2.2.2.2.2.1)<|oN zbG<|cond (cond (ieq f.Page zbf.Page) (ieq f.Rights zbf.Rights) false) (oN (inb d<|ln e)<|oN (zdZ<|ix e d [])<|cond (nB<|zdg<|ix e d []) oF j)<|oN (zZ f.Rights 1)<|cond (nB<|zcu f.Rights 1) oF<|oN (inb d<|ln e)<|cond (igt (ln<|ix e d []) 0) oF j) oT)) (ln i,0,b.2.2.1,b.2.2.2.1,b.2.2.2.2.1,i,b.2.2.2.2.2.2.2.1,b.2.2.2.2.2.2.2.2.1,g,b.2.2.2.2.2.2.2.2.2.1,b.2.2.2.2.2.2.2.2.2.2.1,()))) (h,0,a.Pending,a.Traps,a.Own,a.Guests,a.Outer,a.Out,a.Dirty,a.Outs,a.Tables,()))
def zxz:=zF [(51,0,{n:=106,tm:=[(1,.lp 0 0),(64,.sl 0 []),(65,ti),(66,ti)],lo:=[(0,[.sl 1 [],.sl 2 [],.sl 3 [],.sl 0 [],.sl 4 [],ti,ti,.sl 5 [],ti])],ro:=[(0,.guest,false),(1,.slot,false),(2,.sl .int,false),(3,.bool,false),(4,.int,false),(5,.kept,false)]}),(51,2,{n:=106,tm:=[(1,.lp 0 0),(75,.sl 0 []),(76,ti),(77,ti)],lo:=[(0,[.sl 0 [],.sl 1 [],.sl 2 [],.sl 3 [],.sl 4 [],ti,ti,.sl 5 [],ti])],ro:=[(0,.slot,false),(1,.sl .int,false),(2,.bool,false),(3,.guest,false),(4,.int,false),(5,.kept,false)]})]
theorem zxi (a:Mon)(l:zb1 big [aT .mon a])(E:zhr a=true):∃N,ztj N a=some [aB<|zid a]:=by
 have hg:a.Guests.length<=big:=((zcb l).1 (.s .guest a.Guests) (by simp[AV.cvs,Ty.cells])).len;have m:a.Outer.length<=big:=((zcb l).1 (.s .slot a.Outer) (by simp[AV.cvs,Ty.cells])).len;refine zcG λN d=>?_;unfold ztj zid zcH oN nB;conv=>zeta
 refine must rfl (stB λw=>stI λy=>must rfl (stB λr=>stI λv=>stI λz=>stG λA=>must rfl (stB λB=>must rfl (stB λC=>must rfl (stB λD=>?_)))));have p:=znp r;have q:ln a.Out=8:=qP v;simp only[ln] at p q;refine(zbb a.Guests (λi (t:Unit)=>(ln a.Guests,(i:Int),a.Pending,a.Traps,a.Own,a.Guests,a.Outer,a.Out,a.Dirty,a.Outs,a.Tables,())) _ (λ_ (x:Guest) (_:Unit) g=>bif zc9 x then g () else oF) (λ(t:Unit)=>iter (σ:=(Int×Int×Int×Int×Int×lS×lM×lB×lG×(List Int)×lK×Unit)) N (λn c=>cond (ilt c.2.1 c.1) (cond (inb c.2.1<|ln c.2.2.2.2.2.1) (cond zbG (cond (cond (ieq (ix c.2.2.2.2.2.1 c.2.1 zU).Page zbf.Page) (ieq (ix c.2.2.2.2.2.1 c.2.1 zU).Rights zbf.Rights) false) (cond (inb c.2.1<|ln c.2.2.2.2.2.2.1) (cond (zdZ<|ix c.2.2.2.2.2.2.1 c.2.1 []) (cond (cond (zdg<|ix c.2.2.2.2.2.2.1 c.2.1 []) false true) oF<|n (c.1,zQ .i64 c.2.1 1,c.2.2.1,c.2.2.2.1,c.2.2.2.2.1,c.2.2.2.2.2.1,c.2.2.2.2.2.2.1,c.2.2.2.2.2.2.2.1,c.2.2.2.2.2.2.2.2.1,c.2.2.2.2.2.2.2.2.2.1,c.2.2.2.2.2.2.2.2.2.2.1,())) none) none)<|cond (zZ (ix c.2.2.2.2.2.1 c.2.1 zU).Rights 1) (cond (cond (zcu (ix c.2.2.2.2.2.1 c.2.1 zU).Rights 1) false true) oF<|cond (inb c.2.1<|ln c.2.2.2.2.2.2.1) (cond (igt (ln<|ix c.2.2.2.2.2.2.1 c.2.1 []) 0) oF<|n (c.1,zQ .i64 c.2.1 1,c.2.2.1,c.2.2.2.1,c.2.2.2.2.1,c.2.2.2.2.2.1,c.2.2.2.2.2.2.1,c.2.2.2.2.2.2.2.1,c.2.2.2.2.2.2.2.2.1,c.2.2.2.2.2.2.2.2.2.1,c.2.2.2.2.2.2.2.2.2.2.1,())) none) none) none) none)<|some [.one<|.b true]) (ln a.Outer,0,a.Pending,a.Traps,a.Own,a.Outer,a.Out,a.Dirty,a.Guests,a.Outs,a.Tables,())) (λi h t rec=>?_) (λt rec=>?_) _ ()<|d hg).trans ?_;{simp only [zbT h,zbk h,zbt h,zX h hg,cT];simp only[zfz,zeQ,cT];cases zc9 a.Guests[i]<;>rfl};{simp only [zbC,cF]};rw[zeC zc9];cases a.Guests.all zc9;{rfl};simp only[cT];refine(zbb a.Outer (λj (u:Unit)=>(ln a.Outer,(j:Int),a.Pending,a.Traps,a.Own,a.Outer,a.Out,a.Dirty,a.Guests,a.Outs,a.Tables,())) _ (λj (_:Slot) (_:Unit) g=>bif fits a j then g () else oF) (λ(u:Unit)=>some [.one<|.b true]) (λj e u f=>?_) (λu f=>?_) _ ()<|d m).trans ?_;{simp only [zbT e,zbk e,zbt e,zX e m,cT];have k:j<a.Out.length:=(by omega);simp only[zbG,zbf,zdZ,zdg,zZ,zcu,zbk k,zxX,cT];unfold fits zga;simp only[zbt e,zb9];cases ieq a.Outer[j].Page noSlot.Page<;>cases ieq a.Outer[j].Rights noSlot.Rights<;>cases enough a.Outer[j].Rights 1<;>cases ile (ln<|ix a.Out (j:Int) []) 0<;>cases zbL (ix a.Out (j:Int) [])<;>rfl};{simp only [zbC,cF]};rw[zke λj (_:Unit) g=>bif fits a j then g () else oF,zr3<|fits a,show a.Outer.length=8 by omega];cases zhA (fits a) 8 0<;>rfl
theorem zt6:u3 51 zoA:=hF1 zu1 zL zA zC zxz zxi
def zEd:zB:=[(51,zoA)]++zEc
theorem zu3:zo zEd:=zk zt6 zu1
def zdp:List Slot->List Bool->Option (List Bool)
 |[],u=>some u
 |s::l,u=>bif ilt s.Page 0 then zdp l u else (cond (ix u s.Page false) none<|zdp l<|up u s.Page true)
def zeb:List Mon->List Bool->Bool
 |[],_=>true
 |m::l,u=>bif zcH m then (match zdp m.Outer u with|some a=>zeb l a|none=>false) else false
def zbR (h:Host):Bool:=bif zfK h.Memory 12 then (cond (zi (ln h.Mons) 1 3) (cond (zc7 h.Buffer) (cond (zc7 h.IoBuffer) (zeb h.Mons<|rp 12 false) false) false) false) else false
theorem zh8:∀(l:List Slot) (u a:List Bool),zdp l u=some a->a.length=u.length
 |[],u,a,h=>by cases h;rfl
 |s::l,u,a,h=>by simp only[zdp]at h;cases b:ilt s.Page 0;{rw [b]at h;cases c:ix u s.Page false;{rw [c]at h;simpa using zh8 l _ a h};{rw [c]at h;cases h}};{rw [b]at h;exact zh8 l u a h}
theorem zyi {t:List Slot}{n:Int}(h:zcg t n 12=true):∀s∈t,s.Page<12:=by intro s d;unfold zcg at h;cases b:t.all (λs=>zc6 s 12);{rw [b]at h;cases h};{have:=qJ.1 b s d;unfold zc6 at this;cases a:zb9 s noSlot;{rw [a] at this;simp only[cF,show igt 12 0=true from rfl,cT] at this;cases c:zi s.Page 0 (wsub .i64 12 1);{rw [c] at this;cases this};{have:=(zeu.1 c).2;rw[show wsub .i64 12 1=11 from rfl] at this;omega}};{unfold zb9 at a;rw[qD]at a;have a:s.Page = -1:=qP a.1;omega}}
theorem zDv {s:Slot}{u:List Bool}(h:s.Page<12)(b:u.length=12)(a:ilt s.Page 0=false):inb s.Page (ln u)=true:=by have:=kW a;exact qT (by simp only[ln];omega)
def zyE {a:Type}(r:Option a)(y:Slot)(u:List Bool)(b:List Bool->Option a):Option a:=bif ilt y.Page 0 then b u else (cond (inb y.Page<|ln u) (cond (ix u y.Page false) r<|cond (inb y.Page<|ln u) (share (up u y.Page true) λc=>b c) none) none)
theorem zpc {c:Type}(r:Option c)(K:List Bool->Option c):∀(l:List Slot) (i:Nat) (u:List Bool),(∀s∈l,s.Page<12)->u.length=12->
 goL (λ_ y u g=>zyE r y u g) K l i u=match zdp l u with|some f=>K f|none=>r
 |[],_,_,_,_=>rfl
 |s::l,i,u,h,b=>by simp only[goL,zdp,zyE];cases d:ilt s.Page 0;{have e:=zDv (h s (by simp)) b d;rw[e];cases ix u s.Page false;{simp only [cF,cT,share];exact zpc r K l (i+1) _ (λs a=>h s (by simp[a])) (by simpa using b)};{rfl}};{simp only [cT];exact zpc r K l (i+1) u (λs a=>h s (by simp[a])) b}
def zyD {b:Type}(r:Option b)(m:Mon)(u:List Bool)(a:List Bool->Option b):Option b:=bif zcH m then goL (λ_ y u a=>zyE r y u a) a m.Outer 0 u else r
theorem zcy {c x:Bool}:((cond c x false)=true)↔c=true/\x=true:=by cases c<;>simp
theorem zeG {m:Mon}(h:zcH m=true):zcg m.Outer 8 12=true:=by unfold zcH at h;simp only[zcy]at h;exact h.2.2.1
theorem zvl {K:Bool->OA}(k:List Bool->OA)(a:∀u,k u=K true):∀(l:List Mon) (i:Nat) (u:List Bool),u.length=12->
 goL (λ_ m u g=>zyD (K false) m u g) k l i u=K (zeb l u)
 |[],_,u,_=>a u
 |m::l,i,u,b=>by simp only[goL,zeb,zyD];cases c:zcH m;{rfl};{simp only [cT];have e:=zeG c;rw[zpc _ _ _ _ _ (zyi e) b];cases d:zdp m.Outer u with|none=>rfl|some f=>exact zvl k a l (i+1) f ((zh8 _ _ _ d).trans b)}
@[simp] abbrev zhW (h:Host):Bool:=true
@[simp] abbrev zgT (h:Host):Bool:=zbR h
def zm3:Run:=rF1 dH λb=>(zhW b,[aB<|zgT b])
def zp0 (N:Nat)(c:Host):OA:=
 (oN (zhp c.Memory 12)<|cond (nB<|zfh c.Memory 12) oF<|oN (zN (ln c.Mons) 1 3)<|cond (nB<|zi (ln c.Mons) 1 3) oF<|oN (zgo c.Buffer)<|cond (nB<|zgn c.Buffer) oF<|oN (zgo c.IoBuffer)<|cond (nB<|zgn c.IoBuffer) oF<|oN (cond (few 12) (ieq 12 12) false)<|iter (σ:=(Int×Int×lB×lN×Unit)) N (λk b=>let h:=ix b.2.2.2.1 b.2.1 zx; (cond (ilt b.2.1 b.1) (oN (inb b.2.1<|ln b.2.2.2.1)<|oN (zhr h)<|cond (nB<|zid h) oF<|iter (σ:=(Int×Int×Int×Int×Int×lB×lN×Unit)) N (λi a=>let f:=a.2.2.2.2.1;let g:=a.2.2.2.2.2.2.1;let j:=(ix g a.2.2.1 zx).Outer;let d:=a.2.2.2.2.2.1;let e:=(ix j f zU).Page; (cond (ilt f a.2.2.2.1) (oN (inb f<|ln j)<|cond (ilt e 0) (i (a.1,a.2.1,a.2.2.1,a.2.2.2.1,zQ .i64 f 1,d,g,()))<|oN (inb e<|ln d)<|cond (ix d e false) oF<|oN (inb e<|ln d)<|share (up d e true) λl=>i (a.1,a.2.1,a.2.2.1,a.2.2.2.1,zQ .i64 f 1,l,g,()))<|k (a.1,zQ .i64 a.2.1 1,d,g,()))) (b.1,b.2.1,b.2.1,ln h.Outer,0,b.2.2.1,b.2.2.2.1,())) oT)) (ln c.Mons,0,rp 12 false,c.Mons,()))
def zwx:=zF [(26,0,{n:=63,tm:=[(3,.sl 0 []),(33,.sl 1 []),(34,ti),(35,ti)],lo:=[],ro:=[(0,.bool,true),(1,.mon,false)]}),(26,2,{n:=63,tm:=[(3,.sl 0 []),(33,.sl 1 []),(34,ti),(35,ti),(43,.sl 1 [0]),(44,ti),(45,ti)],lo:=[],ro:=[(0,.bool,true),(1,.mon,false)]})]
theorem zvF (a:Host)(n:zb1 big [aH a])(w:zhW a=true):∃N,zp0 N a=some [aB<|zgT a]:=by
 have l:CVB big (.s .mon a.Mons):=(zcb n).1 _ (by simp[AV.cvs,zbs]);have g:=l.len;refine zcG λN d=>?_;unfold zp0 zgT zbR oN nB;conv=>zeta
 refine must rfl (stB λp=>must rfl (stB λq=>must rfl (stB λr=>must rfl (stB λv=>must rfl ?_))));refine(zbb a.Mons (λi (t:lB)=>(ln a.Mons,(i:Int),t,a.Mons,())) _ (λ_ (x:Mon) (u:List Bool) h=>zyD (oF) x u h) (λ(t:lB)=>some [.one<|.b true]) (λi c t rec=>?_) (λt rec=>?_) _ (rp 12 false)<|d g).trans ?_;{simp only [zbT c,zbk c,zbt c,zX c g,cT];unfold zyD;cases k:zcH a.Mons[i];{simp only [zhr,zid,k,cT,cF]};simp only[zhr,zid,k,cT,cF];have m:a.Mons[i].Outer.length<=big:=(l.inv.2 _ (jU c) (.s .slot _) (by simp[Ty.cells])).len;refine(zbb a.Mons[i].Outer (λj (u:lB)=>(ln a.Mons,(i:Int),(i:Int),ln a.Mons[i].Outer,(j:Int),u,a.Mons,())) _ (λ_ (y:Slot) (u:List Bool) h=>zyE (oF) y u h) (λ(u:lB)=>rec (ln a.Mons,((i+1:Nat):Int),u,a.Mons,())) (λj f u e=>?_) (λu e=>?_) _ (t)<|d m).trans ?_;{simp only [zbT f,zbk f,zbt f,zX f m,cT,zbk c,zbt c,zX c g];rfl};{simp only [zbC,cF,zbk c,zbt c,zX c g]};rfl};{simp only [zbC,cF]};exact zvl (K:=λb=>some [AV.one<|.b b]) _ (λ_=>rfl) _ _ _ rfl
theorem zr9:u3 26 zm3:=hF1 zu3 zL zA zC zwx zvF
def zyN:zB:=[(26,zm3)]++zEd
theorem zu4:zo zyN:=zk zr9 zu3
theorem zy5 {h:Host}(a:zbR h=true):(h.Mons.length:Int)<=3:=by unfold zbR at a;simp only[zcy]at a;exact(zeu.1 a.2.1).2
def zdc (h:Host)(m p:Int):Bool:=bif zbR h then (cond (hasB m<|ln h.Mons) (hasB p 8) false) else false
def zEe:zB:=zyN
theorem zCk:zo zEe:=zu4
def zgW (k:Kept)(p:Int):Bool:=bif hasB p (ln k.Known) then hasB p (ln k.Slots) else false
def zbP (k:Kept)(p:Int):Kept:=bif zgW k p then ⟨up k.Known p false,up k.Slots p noSlot⟩ else k
@[simp] theorem zry {k:Kept}{p:Int}(h:SmK k):SmK (zbP k p):=by unfold zbP;cases zgW k p;{exact h};{exact⟨by simpa using h.1,by simpa using h.2⟩}
def zEf:zB:=zEe
theorem zu5:zo zEf:=zCk
@[simp] abbrev zk9 (k:Kept)(p:Int):Bool:=pc (SmK k)
@[simp] abbrev ziB (k:Kept)(p:Int):Kept:=zbP k p
def zm2:Run:=rF2 (dT .kept) dI λb c=>(zk9 b c,[aT .kept<|ziB b c])
def zpY (N:Nat)(b:Kept)(a:Int):OA:=
 let c:=zb4 b; (oN (zdF b)<|oN (zZ a<|ln b.Known)<|cond (zcf a<|ln b.Known) (oN (zZ a<|ln b.Slots)<|cond (zcf a<|ln b.Slots) (oN (inb a<|ln c.Known)<|share (up c.Known a false) λd=>oN zbG<|oN (inb a<|ln c.Slots)<|share (up c.Slots a zbf) λe=>some [aT .kept (⟨d,e⟩:Kept)])<|some [aT .kept c])<|some [aT .kept c])
theorem zvD (a:Kept)(b:Int)(c:zk9 a b=true):∃N,zpY N a b=some [aT .kept<|ziB a b]:=by
 have d:=zbm.1 c;refine⟨0,?_⟩;unfold zpY ziB oN;conv=>zeta
 refine must (zds d) (must rfl ?_);unfold zbP zgW;simp only[zcf,zZ,zb4,zCF,share,zbG,cT];cases hasB b (ln a.Known);{rfl};{cases hasB b (ln a.Slots)<;>rfl}
theorem zr8:u3 84 zm2:=kF2 zu5 zL zA zC (zF []) zvD
def zEg:zB:=[(84,zm2)]++zEf
theorem zo3:zo zEg:=zk zr8 zu5
def zcm (k:Kept)(l:List Int):Kept:=l.foldl zbP k
theorem zym:∀(l:List Int) {k:Kept},SmK k->SmK (zcm k l)
 |[],_,h=>h
 |p::l,k,h=>zym l (zry (p:=p) h)
theorem zqO {b:Type}(K:List Bool×List Slot->Option b):∀(l:List Int) (i:Nat) (k:Kept),SmK k->
 goL (λ_ x (t:List Bool×List Slot) a=>bif pc (SmK ⟨t.1,t.2⟩) then a ((zbP ⟨t.1,t.2⟩ x).Known,(zbP ⟨t.1,t.2⟩ x).Slots) else none) K l i (k.Known,k.Slots)=K ((zcm k l).Known,(zcm k l).Slots)
 |[],_,_,_=>rfl
 |x::l,i,k,h=>by have e:pc (SmK ⟨k.Known,k.Slots⟩)=true:=zds h;simp only[goL,e,cT];exact zqO K l (i+1) (zbP k x) (zry h)
def znv (l:List Slot)(p:Int):List Int:=idxs (λ(s:Slot)=>ieq s.Page p) l 0
def zek (k:Kept)(l:List Slot)(p:Int):Kept:=zcm k (znv l p)
theorem zDk {k:Kept}(l:List Slot)(p:Int)(h:SmK k):SmK (zek k l p):=zym _ h
@[simp] abbrev zgS (k:Kept)(l:List Slot)(p:Int):Bool:=pc (SmK k/\l.length<=1048576)
@[simp] abbrev ziC (k:Kept)(l:List Slot)(p:Int):Kept:=zek k l p
def ziU:Run:=rF3 (dT .kept) (dS .slot) dI λb c d=>(zgS b c d,[aT .kept<|ziC b c d])
def zj7 (N:Nat)(c:Kept)(d:lS)(e:Int):OA:=
 (oN (zdF c)<|oN (zld d e)<|iter (σ:=(Int×Int×(List Int)×lB×lS×lB×lS×Unit)) N (λg a=>let f:=ix a.2.2.1 a.2.1 0;let b:=(⟨a.2.2.2.2.2.1,a.2.2.2.2.2.2.1⟩:Kept); (cond (ilt a.2.1 a.1) (oN (inb a.2.1<|ln a.2.2.1)<|oN (zk9 b f)<|g (a.1,zQ .i64 a.2.1 1,a.2.2.1,a.2.2.2.1,a.2.2.2.2.1,(ziB b f).Known,(ziB b f).Slots,()))<|some [aT .kept b])) (ln<|zeS d e,0,zeS d e,[],[],(zb4 c).Known,(zb4 c).Slots,()))
def zpO:=zF [(69,0,{n:=25,tm:=[(6,.lp 0 0),(7,.lp 1 0),(14,.sl 0 []),(15,ti),(16,ti)],lo:=[(0,[.sl 1 [],.sl 2 []]),(1,[.sl 3 [],.sl 4 []])],ro:=[(0,.int,true),(1,.bool,true),(2,.slot,true),(3,.bool,true),(4,.slot,true)]})]
theorem zpx (c:Kept)(a:List Slot)(b:Int)(j:zgS c a b=true):∃N,zj7 N c a b=some [aT .kept<|ziC c a b]:=by
 obtain⟨h,f⟩:=zbm.1 j;have g:(zeS a b).length<=big:=jG (zvt _ a 0) (zd3 f).1;refine zcG λN e=>?_;unfold zj7 oN;conv=>zeta
 refine must (zds h) (must (zds (by omega)) ?_);refine(zbb (zeS a b) (λi (t:lB×lS)=>(ln<|zeS a b,(i:Int),zeS a b,[],[],t.1,t.2,())) _ (λ_ (x:Int) (t:List Bool×List Slot) k=>bif pc (SmK ⟨t.1,t.2⟩) then k ((zbP ⟨t.1,t.2⟩ x).Known,(zbP ⟨t.1,t.2⟩ x).Slots) else none) (λ(t:lB×lS)=>some [.agg<|Ty.cells .kept (⟨t.1,t.2⟩:Kept)]) (λi d t rec=>?_) (λt rec=>?_) _ ((zb4 c).Known,(zb4 c).Slots)<|e g).trans ?_;{simp only [zbT d,zbk d,zbt d,zX d g,cT]};{simp only [zbC,cF]};exact zqO _ _ 0 c h
theorem zmB:u3 69 ziU:=kF3 zo3 zL zA zC zpO zpx
def flushed (l:List Entry)(p:Int):List Entry:=l.filter λe=>!ieq e.Host p
theorem zof (l:List Entry)(p:Int):(flushed l p).length<=l.length:=List.length_filter_le _ _
theorem zk4 {b e:Type}(p:b->Bool)(K:List b->Option e):∀(l:List b) (i:Nat) (a:List b),a.length+l.length<=2147483648->
 goL (λ_ x a d=>bif p x then (cond (few<|ln<|ap a [x]) (d<|ap a [x]) none) else d a) K l i a=K (a++l.filter p)
 |[],i,a,_=>by simp[goL]
 |x::l,i,a,h=>by simp only[qU]at h;simp only[goL];cases c:p x;{rw [cF,zk4 p K l (i+1) a (by omega),List.filter_cons_of_neg (by simp[c])]};{rw [cT,zfw (by simp[ap];omega),cT,zk4 p K l (i+1) _ (by simp[ap];omega),List.filter_cons_of_pos c];simp[ap]}
@[simp] abbrev zdS (l:List Entry)(p:Int):Bool:=pc (l.length<=1048576)
@[simp] abbrev zeD (l:List Entry)(p:Int):List Entry:=flushed l p
def zjC:Run:=rF2 (dS .entry) dI λb c=>(zdS b c,[aS .entry<|zeD b c])
def zlB (N:Nat)(d:lE)(f:Int):OA:=
 (iter (σ:=(Int×Int×Int×lE×lE×Unit)) N (λe a=>let b:=a.2.2.2.2.1;let c:=ix b a.2.1 zkN; (cond (ilt a.2.1 a.1) (oN (inb a.2.1<|ln b)<|cond (nB<|ieq c.Host a.2.2.1) (oN (few<|ln<|ap a.2.2.2.1 [c])<|e (a.1,zQ .i64 a.2.1 1,a.2.2.1,ap a.2.2.2.1 [c],b,()))<|e (a.1,zQ .i64 a.2.1 1,a.2.2.1,a.2.2.2.1,b,()))<|some [aS .entry a.2.2.2.1])) (ln d,0,f,[],d,()))
def zrJ:=zF [(85,0,{n:=25,tm:=[(1,.fn 86 [0]),(5,.sl 0 []),(9,.sl 1 []),(10,ti),(11,ti)],lo:=[(0,[ti])],ro:=[(0,.entry,true),(1,.entry,false)]})]
theorem zq7 (a:List Entry)(b:Int)(h:zdS a b=true):∃N,zlB N a b=some [aS .entry<|zeD a b]:=by
 have j:=zbm.1 h;have f:=zd3 j;refine zcG λN d=>?_;unfold zlB oN nB;conv=>zeta
 refine(zbb a (λi (t:lE)=>(ln a,(i:Int),b,t,a,())) _ (λ_ (x:Entry) (t:List Entry) g=>bif !ieq x.Host b then (cond (few<|ln<|ap t [x]) (g<|ap t [x]) none) else g t) (λ(t:lE)=>some [.one<|.s .entry t]) (λi c t rec=>?_) (λt rec=>?_) _ ([])<|d f.1).trans ?_;{simp only [zbT c,zbk c,zbt c,zX c f.1,cT];cases ieq a[i].Host b<;>rfl};{simp only [zbC,cF]};exact zk4 (λe=>!ieq e.Host b) _ a 0 [] (by simpa using f.2)
theorem znS:u3 70 zjC:=kF2 zo3 zL zA zC zrJ zq7
def zEh:zB:=[(69,ziU),(70,zjC)]++zEg
theorem zCl:zo zEh:=zk zmB (zk znS zo3)
def zf2 (b:List Guest)(p:Int):Nat->List Kept->List Kept
 | 0,a=>a
 |n+1,a=>up (zf2 b p n a) (n:Int) (zek (ix (zf2 b p n a) (n:Int) zd4) (ix b (n:Int) zde).Live p)
theorem zlu (b:List Guest)(p:Int):∀(n:Nat) (a:List Kept),(zf2 b p n a).length=a.length
 | 0,_=>rfl
 |n+1,a=>by simp only[zf2,zi6];exact zlu b p n a
theorem znl (b:List Guest)(p:Int):∀(n:Nat) (a:List Kept),n<=a.length->zrP a->zrP (zf2 b p n a)
 | 0,_,_,h=>h
 |n+1,a,e,h=>by have d:=znl b p n a (by omega) h;have c:n<(zf2 b p n a).length:=(by rw[zlu];omega);exact zyn d (zDk _ _ (by rw[zbt c];exact d.2 _ (jU c)))
def zf1 (x:Mon)(p:Int)(n:Nat):Mon:={x with Tables:=zf2 x.Guests p n x.Tables}
theorem zBu {x:Mon}{p:Int}{n:Nat}(a:n<=x.Tables.length)(h:zhR x):zhR (zf1 x p n):=⟨h.1,h.2.1,h.2.2.1,h.2.2.2.1,h.2.2.2.2.1,znl _ _ _ _ a h.2.2.2.2.2⟩
def zbw (h:Host)(m p:Int)(s:Slot):Host :=
 bif ine (ix (ix h.Mons m zx).Outer p zU).Page (-1)
 then ⟨h.Memory,up h.Mons m {zf1 (ix h.Mons m zx) p (ix h.Mons m zx).Tables.length with Outer:=up (ix h.Mons m zx).Outer p s},flushed h.Buffer (ix (ix h.Mons m zx).Outer p zU).Page,flushed h.IoBuffer (ix (ix h.Mons m zx).Outer p zU).Page⟩
 else ⟨h.Memory,up h.Mons m {zf1 (ix h.Mons m zx) p (ix h.Mons m zx).Tables.length with Outer:=up (ix h.Mons m zx).Outer p s},h.Buffer,h.IoBuffer⟩
def zzC:zdf:=zDr
theorem zih:zcx zzC:=zC
theorem zq2:∀(l:List Mon) (u:List Bool),zeb l u=true->∀x∈l,zcH x=true
 |[],_,_,x,a=>by cases a
 |m::l,u,h,x,a=>by
  simp only[zeb]at h;cases b:zcH m;{rw [b]at h;cases h}
  .rw [b]at h;simp only[cT]at h;cases c:zdp m.Outer u with
   |none=>rw[c]at h;cases h
   |some d =>rw[c]at h;rcases qL.1 a with rfl|a;{exact b};{exact zq2 l d h x a}
structure PageAt (h:Host) (m p:Int):Prop where
 hm:hasB m (ln h.Mons)=true
 hp:hasB p 8=true
 ok:zcH (ix h.Mons m zx)=true
 ho:(ix h.Mons m zx).Outer.length=8
 hd:(ix h.Mons m zx).Dirty.length=8
 ht:(ix h.Mons m zx).Tables.length=(ix h.Mons m zx).Guests.length
 hs:zb9 (ix (ix h.Mons m zx).Outer p zU) noSlot=ieq (ix (ix h.Mons m zx).Outer p zU).Page (-1)
theorem zBs {s:Slot}{n:Int}(h:zc6 s n=true):zb9 s noSlot=ieq s.Page (-1):=by unfold zc6 at h;cases a:zb9 s noSlot;{rw [a]at h;cases d:ieq s.Page (-1);{rfl};{have e:s.Page = -1:=qP d;cases b:igt n 0;{rw [b]at h;cases h};{cases c:zi s.Page 0 (wsub .i64 n 1);{rw [b,c]at h;cases h};{have:=(zeu.1 c).1;omega}}}};{unfold zb9 at a;rw[qD]at a;exact a.1.symm}
theorem zxw {h:Host}{m p:Int}{s:Slot}(d:hasB m (ln h.Mons)=true)(a:SmH h):SmH (zbw h m p s):=by have c:=a.2.1.2 _ (zb8 d zx);have e:=zBu (p:=p) (qV _) c;have b:zma (up h.Mons m {zf1 (ix h.Mons m zx) p (ix h.Mons m zx).Tables.length with Outer:=up (ix h.Mons m zx).Outer p s}):=ztW a.2.1 ⟨by simpa using c.1,e.2⟩;unfold zbw;cases ine (ix (ix h.Mons m zx).Outer p zU).Page (-1);{exact⟨a.1,b,a.2.2⟩};{exact⟨a.1,b,jG (zof _ _) a.2.2.1,jG (zof _ _) a.2.2.2⟩}
def zAn:zB:=zEh
theorem zAo:zo zAn:=zCl
def zAp:zB:=zAn
theorem zAq:zo zAp:=zAo
def filled (k:Kept)(a b:List Slot)(p:Int):Kept:=bif zgW k p then (cond (hasB p<|ln a) ⟨up k.Known p true,up k.Slots p<|zbq (ix a p zU) b⟩ k) else k
@[simp] theorem zzx {k:Kept}{a b:List Slot}{p:Int}(h:SmK k):SmK (filled k a b p):=by unfold filled;cases zgW k p;{exact h};{cases hasB p (ln a);{exact h};{exact⟨by simpa using h.1,by simpa using h.2⟩}}
def zEo:zB:=zAp
theorem zu7:zo zEo:=zAq
def zgk (l:List Slot)(p:Int):Option Nat:=l.findIdx? λs=>ieq s.Page p
def zd2 (p:Int):List Mon->Nat->Int×Int
 |[],_=>(-1,-1)
 |m::l,i=>match zgk m.Outer p with|some k=>((i:Int),(k:Int))|none=>zd2 p l (i+1)
def zO (h:Host)(p:Int):Int×Int:=bif ilt p 0 then (-1,-1) else zd2 p h.Mons 0
theorem zty {a:Type}(p:Slot->Bool)(r:Nat->Option a)(K:Unit->Option a):∀(l:List Slot) (i:Nat),goL (λj x (_:Unit) k=>bif p x then r j else k ()) K l i ()=match l.findIdx? p with|some k=>r (i+k)|none=>K ()
 |[],_=>rfl
 |x::l,i=>by simp only[goL];rw[List.findIdx?_cons];cases h:p x;{simp only [cF,kC,if_false];rw[zty p r K l<|i+1];cases l.findIdx? p with|none=>rfl|some k=>simp only[Option.map_some];congr 1;omega};{rfl}
theorem zxU {c:Type}(p:Int)(r:Int->Int->Option c):∀(l:List Mon) (i:Nat),goL (λi (x:Mon) (_:Unit) b=>goL (λj (y:Slot) (_:Unit) a=>bif ieq y.Page p then r (i:Int) (j:Int) else a ()) (λ_=>b ()) x.Outer 0 ()) (λ_=>r (-1) (-1)) l i ()=r (zd2 p l i).1 (zd2 p l i).2
 |[],_=>rfl
 |m::l,i=>by simp only[goL,zd2];rw[zty (λs=>ieq s.Page p) λj=>r (i:Int) (j:Int)];unfold zgk;cases m.Outer.findIdx? (λs=>ieq s.Page p) with|none=>exact zxU p r l (i+1)|some k=>simp only[jQ]
@[simp] abbrev zeJ (h:Host)(p:Int):Bool:=true
@[simp] abbrev zdb (h:Host)(p:Int):Int:=(zO h p).1
@[simp] abbrev zdY (h:Host)(p:Int):Int:=(zO h p).2
def zhP:Run:=rF2 dH dI λb c=>(zeJ b c,[aI<|zdb b c,aI<|zdY b c])
def zja (N:Nat)(f:Host)(g:Int):OA:=
 (cond (ilt g 0) (some [aI<|-1,aI<|-1])<|iter (σ:=(Int×Int×Int×lN×Unit)) N (λi b=>let c:=b.2.2.1; (cond (ilt c b.2.1) (oN (inb c<|ln b.2.2.2.1)<|iter (σ:=(Int×Int×Int×Int×Int×Int×Int×lN×Unit)) N (λj a=>let e:=a.2.2.2.2.2.2.2.1;let h:=(ix e a.2.2.2.2.1 zx).Outer;let d:=a.2.2.2.2.2.2.1; (cond (ilt d a.2.2.2.2.2.1) (oN (inb d<|ln h)<|cond (ieq (ix h d zU).Page a.1) (some [aI a.2.1,aI d])<|j (a.1,a.2.1,a.2.2.1,a.2.2.2.1,a.2.2.2.2.1,a.2.2.2.2.2.1,zQ .i64 d 1,e,()))<|i (a.1,a.2.2.1,zQ .i64 a.2.2.2.1 1,e,()))) (b.1,c,b.2.1,c,c,ln (ix b.2.2.2.1 c zx).Outer,0,b.2.2.2.1,()))<|some [aI<|-1,aI<|-1])) (g,ln f.Mons,0,f.Mons,()))
def zn0:=zF [(25,0,{n:=36,tm:=[(1,ti),(13,.sl 0 []),(14,ti),(15,ti)],lo:=[],ro:=[(0,.mon,false)]}),(25,2,{n:=36,tm:=[(1,ti),(6,ti),(13,.sl 0 []),(14,ti),(15,ti),(21,.sl 0 [0]),(22,ti),(23,ti)],lo:=[],ro:=[(0,.mon,false)]})]
theorem znX (a:Host)(c:Int)(m:zb1 big [aH a,aI c])(q:zeJ a c=true):∃N,zja N a c=some [aI<|zdb a c,aI<|zdY a c]:=by
 have k:CVB big (.s .mon a.Mons):=(zcb m).1 _ (by simp[AV.cvs,zbs]);have h:=k.len;refine zcG λN e=>?_;unfold zja zdb zdY zO oN;conv=>zeta
 cases p:ilt c 0;{simp only [cF];refine(zbb a.Mons (λi (t:Unit)=>(c,ln a.Mons,(i:Int),a.Mons,())) _ (λi (x:Mon) (_:Unit) n=>goL (λj (y:Slot) (_:Unit) b=>bif ieq y.Page c then some [AV.one<|.i .i64 (i:Int),AV.one<|.i .i64 (j:Int)] else b ()) (λ_=>n ()) x.Outer 0 ()) (λ(t:Unit)=>some [.one<|.i .i64<|-1,.one<|.i .i64<|-1]) (λi d t rec=>?_) (λt rec=>?_) _ ()<|e h).trans ?_;{simp only [zbT d,zbk d,zbt d,zX d h,cT];have l:a.Mons[i].Outer.length<=big:=(k.inv.2 _ (jU d) (.s .slot _) (by simp[Ty.cells])).len;refine(zbb a.Mons[i].Outer (λj (u:Unit)=>(c,(i:Int),ln a.Mons,(i:Int),(i:Int),ln a.Mons[i].Outer,(j:Int),a.Mons,())) _ (λj (y:Slot) (_:Unit) b=>bif ieq y.Page c then some [AV.one<|.i .i64 (i:Int),AV.one<|.i .i64 (j:Int)] else b ()) (λ(u:Unit)=>rec (c,ln a.Mons,((i+1:Nat):Int),a.Mons,())) (λj g u f=>?_) (λu f=>?_) _ ()<|e l).trans ?_;{simp only [zbT g,zbk g,zbt g,zX g l,cT,zbk d,zbt d,zX d h]};{simp only [zbC,cF,zbk d,zbt d,zX d h]};rfl};{simp only [zbC,cF]};exact zxU c (λi j=>some [AV.one<|.i .i64 i,AV.one<|.i .i64 j]) a.Mons 0};{rfl}
theorem zlU:u3 25 zhP:=hF2 zu7 zL zA zih zn0 znX
def zEp:zB:=[(25,zhP)]++zEo
theorem zo6:zo zEp:=zk zlU zu7
def zbg (h:Host):List Int:=zhF (λi=>ilt (zO h (i:Int)).1 0) h.Memory.length 0
@[simp] abbrev zem (h:Host):Bool:=pc (h.Memory.length<=1048576)
@[simp] abbrev zcK (h:Host):List Int:=zbg h
def ziV:Run:=rF1 dH λb=>(zem b,[aS .int<|zcK b])
def zpZ (N:Nat)(b:Host):OA:=
 (iter (σ:=(Int×Int×(List Int)×lM×lN×lE×lE×Unit)) N (λd a=>let c:=a.2.2.2.2.2.2.1;let e:=(⟨a.2.2.2.1,a.2.2.2.2.1,a.2.2.2.2.2.1,c⟩:Host); (cond (ilt a.2.1 a.1) (oN (zeJ e a.2.1)<|cond (ilt (zdb e a.2.1) 0) (oN (few<|ln<|ap a.2.2.1 [a.2.1])<|d (a.1,zQ .i64 a.2.1 1,ap a.2.2.1 [a.2.1],a.2.2.2.1,a.2.2.2.2.1,a.2.2.2.2.2.1,c,()))<|d (a.1,zQ .i64 a.2.1 1,a.2.2.1,a.2.2.2.1,a.2.2.2.2.1,a.2.2.2.2.2.1,c,()))<|some [aS .int a.2.2.1])) (ln b.Memory,0,[],b.Memory,b.Mons,b.Buffer,b.IoBuffer,()))
def zww:=zF [(10,0,{n:=28,tm:=[(1,.lp 0 0),(3,.sl 0 []),(10,ti),(11,ti)],lo:=[(0,[.sl 1 [],.sl 2 [],.sl 3 [],.sl 4 []])],ro:=[(0,.int,true),(1,.sl .int,false),(2,.mon,false),(3,.entry,false),(4,.entry,false)]})]
theorem zvE (a:Host)(f:zem a=true):∃N,zpZ N a=some [aS .int<|zcK a]:=by
 have g:=zbm.1 f;have e:=zd3 g;refine zcG λN d=>?_;unfold zpZ oN;conv=>zeta
 refine(zbb a.Memory (λi (t:(List Int))=>(ln a.Memory,(i:Int),t,a.Memory,a.Mons,a.Buffer,a.IoBuffer,())) _ (λi (_:List Int) (t:List Int) b=>bif ilt (zO a (i:Int)).1 0 then (cond (few<|ln<|ap t [(i:Int)]) (b<|ap t [(i:Int)]) none) else b t) (λ(t:(List Int))=>some [.one<|.s .int t]) (λi c t rec=>?_) (λt rec=>?_) _ ([])<|d e.1).trans ?_;{simp only [zbT c,zbk c,zbt c,zX c e.1,cT]};{simp only [zbC,cF]};rw[zke λi (t:List Int) b=>bif ilt (zO a (i:Int)).1 0 then (cond (few<|ln<|ap t [(i:Int)]) (b<|ap t [(i:Int)]) none) else b t];exact zpd (λi=>ilt (zO a (i:Int)).1 0) _ _ 0 [] (by simpa using e.2)
theorem zkh:u3 10 ziV:=kF1 zo6 zL zA zih zww zvE
def zf3 (m:List (List Int))(p:Int)(c:List Int):List (List Int):=bif hasB p (ln m) then (cond (zbL c) (up m p c) m) else m
@[simp] abbrev zeU (m:List (List Int))(p:Int)(c:List Int):Bool:=pc (SmM m/\c.length<=1048576)
@[simp] abbrev zeo (m:List (List Int))(p:Int)(c:List Int):List (List Int):=zf3 m p c
def zkC:Run:=rF3 (dS<|.sl .int) dI (dS .int) λb c d=>(zeU b c d,[aS (.sl .int)<|zeo b c d])
def zl1 (N:Nat)(a:lM)(b:Int)(c:List Int):OA:=
 (oN (zcY a)<|oN (zZ b<|ln a)<|cond (zcf b<|ln a) (oN (zdZ c)<|cond (zdg c) (oN (zbZ c)<|oN (inb b<|ln<|zbX a)<|share (up (zbX a) b<|zbY c) λd=>some [aS (.sl .int) d])<|some [aS (.sl .int)<|zbX a])<|some [aS (.sl .int)<|zbX a])
theorem zsF (a:List (List Int))(b:Int)(c:List Int)(f:zeU a b c=true):∃N,zl1 N a b c=some [aS (.sl .int)<|zeo a b c]:=by obtain⟨g,d⟩:=zbm.1 f;refine⟨0,?_⟩;unfold zl1 zeo zf3 oN;refine must (zds g) (must rfl ?_);rw[show zcf b (ln a)=hasB b (ln a) from rfl];cases e:hasB b (ln a);{rfl};{simp only [cT,zdZ,zdg];cases h:zbL c;{rfl};{refine must rfl (must (zds<|jG d (by decide)) (must (zbi e) rfl))}}
theorem zpk:u3 67 zkC:=kF3 zo6 zL zA zih (zF []) zsF
def zkW:zB:=[(10,ziV),(67,zkC)]++zEp
theorem zfQ:zo zkW:=zk zkh (zk zpk zo6)
abbrev mZ:Mon:=Ty.dflt .mon
abbrev sZ:Slot:=Ty.dflt .slot
def ShM (x:Mon):Prop:=x.Outer.length=8/\x.Out.length=8/\x.Dirty.length=8/\x.Tables.length=x.Guests.length
def Shape (h:Host):Prop:=SmH h/\∀x∈h.Mons,ShM x
theorem zf0 {h:Host}{m:Int}{x:Mon}(a:Shape h)(c:zhR x)(d:ShM x):Shape {h with Mons:=up h.Mons m x}:=by refine⟨⟨a.1.1,ztW a.1.2.1 c,a.1.2.2⟩,λy b=>?_⟩;rcases jD b with b|rfl;{exact a.2 y b};{exact d}
theorem zcc {h:Host}(b:Shape h){m:Int}(a:hasB m (ln h.Mons)=true):zhR (ix h.Mons m mZ)/\ShM (ix h.Mons m mZ):=⟨b.1.2.1.2 _<|zb8 a _,b.2 _<|zb8 a _⟩
theorem zBo {h:Host}{b:List (List Int)}(a:Shape h)(c:SmM b):Shape {h with Memory:=b}:=⟨⟨c,a.1.2⟩,a.2⟩
theorem zhM {h:Host}{m p:Int}{s:Slot}(e:hasB m (ln h.Mons)=true)(b:Shape h):Shape (zbw h m p s):=by refine⟨zxw e b.1,?_⟩;obtain⟨_,a⟩:=zcc b e;have d:∀y∈up h.Mons m {zf1 (ix h.Mons m mZ) p (ix h.Mons m mZ).Tables.length with Outer:=up (ix h.Mons m mZ).Outer p s},ShM y:=(by intro y c;rcases jD c with c|rfl;{exact b.2 y c};{exact⟨by simpa using a.1,a.2.1,a.2.2.1,by simpa [zf1,zlu] using a.2.2.2⟩});unfold zbw;cases ine (ix (ix h.Mons m mZ).Outer p sZ).Page (-1)<;>exact d
theorem zeY (h:Host)(m p:Int)(s:Slot):(zbw h m p s).Mons=up h.Mons m {zf1 (ix h.Mons m mZ) p (ix h.Mons m mZ).Tables.length with Outer:=up (ix h.Mons m mZ).Outer p s}/\(zbw h m p s).Memory=h.Memory:=by unfold zbw;cases ine (ix (ix h.Mons m mZ).Outer p sZ).Page (-1)<;>exact⟨rfl,rfl⟩
theorem zew {h:Host}{m k:Int}{x:Mon}(a:hasB m (ln h.Mons)=true):hasB m (ln<|up h.Mons k x)=true:=by simpa [ln] using a
theorem zoi {h:Host}{m k p:Int}{s:Slot}(a:hasB m (ln h.Mons)=true):hasB m (ln (zbw h k p s).Mons)=true:=by rw[(zeY h k p s).1];exact zew a
theorem zdQ {b:Type}{l:List b}{p:Int}(h:l.length=8)(a:hasB p 8=true):hasB p (ln l)=true:=by rw[ln,h];exact a
def zlf (h:Host)(m p:Int)(s:Slot):Host :=
 bif ine s.Page (-1) then ⟨h.Memory,up h.Mons m<|zf1 (ix h.Mons m mZ) p (ix h.Mons m mZ).Guests.length,flushed h.Buffer s.Page,flushed h.IoBuffer s.Page⟩
 else ⟨h.Memory,up h.Mons m<|zf1 (ix h.Mons m mZ) p (ix h.Mons m mZ).Guests.length,h.Buffer,h.IoBuffer⟩
theorem zlt {h:Host}{k:Nat}{p:Int}{s:Slot}(a:k<h.Mons.length)(b:(ix h.Mons (k:Int) mZ).Tables.length=(ix h.Mons (k:Int) mZ).Guests.length) :
 zlf {h with Mons:=up h.Mons (k:Int) {ix h.Mons (k:Int) mZ with Outer:=up (ix h.Mons (k:Int) mZ).Outer p s}} (k:Int) p (ix (ix h.Mons (k:Int) mZ).Outer p sZ)=zbw h (k:Int) p s:=by
 unfold zbw zlf;simp only[zfm a,zrK,zf1,b]
def zy7 {a:Type}(m p:Int)(i:Nat)(t:List Mon)(b:List Mon->Option a):Option a :=
 (cond (inb (i:Int)<|ln (ix t m mZ).Tables) (cond (inb (i:Int)<|ln (ix t m mZ).Guests) (cond (pc<|SmK (ix (ix t m mZ).Tables (i:Int) zd4)/\(ix (ix t m mZ).Guests (i:Int) zde).Live.length<=1048576) (cond (inb (i:Int)<|ln (ix t m mZ).Tables) (b<|up t m ({ (ix t m mZ) with Tables:=(up (ix t m mZ).Tables (i:Int)<|zek (ix (ix t m mZ).Tables (i:Int) zd4) (ix (ix t m mZ).Guests (i:Int) zde).Live p)}:Mon)) none) none) none) none)
theorem zxT {j:Type}{mons:List Mon}{k:Nat}(d:k<mons.length)(p:Int)(c:zhR (ix mons (k:Int) mZ))(f:(ix mons (k:Int) mZ).Tables.length=(ix mons (k:Int) mZ).Guests.length)(K:List Mon->Option j) :
 ∀(n i:Nat),i+n=(ix mons (k:Int) mZ).Guests.length->goN (λi t g=>zy7 (k:Int) p i t g) K n i (up mons (k:Int)<|zf1 (ix mons (k:Int) mZ) p i)=K (up mons (k:Int)<|zf1 (ix mons (k:Int) mZ) p (ix mons (k:Int) mZ).Guests.length)
 | 0,i,h=>by have:i=(ix mons (k:Int) mZ).Guests.length:=(by omega);subst this;rfl
 |n+1,i,h=>by
  have b:i<(ix mons (k:Int) mZ).Guests.length:=(by omega);have a:i<(zf2 (ix mons (k:Int) mZ).Guests p i (ix mons (k:Int) mZ).Tables).length:=by rw[zlu];omega
  have e:pc (SmK (ix (zf2 (ix mons (k:Int) mZ).Guests p i (ix mons (k:Int) mZ).Tables) (i:Int) zd4)/\(ix (ix mons (k:Int) mZ).Guests (i:Int) zde).Live.length<=1048576)=true :=
   zds ⟨by rw[zbt a];exact(znl _ _ _ _ (by omega) c.2.2.2.2.2).2 _ (jU a),by rw[zbt b];exact(c.2.2.2.1.2 _<|jU b).2.2.1⟩
  simp only[goN,zy7,zfm d,zrK,zf1,zbk a,zbk b,e,cT];exact zxT d p c f K n (i+1) (by omega)
@[simp] abbrev zck (h:Host)(m p:Int)(s:Slot):Bool:=pc (Shape h/\hasB m (ln h.Mons)=true)
@[simp] abbrev zcl (h:Host)(m p:Int)(s:Slot):Host:=zlf h m p s
def zft:List CV->List AV->Option (Bool×List CV×List AV)
 |[.s (.sl .int) b,.s .mon c,.s .entry d,.s .entry e],[.one<|.i .i64 f,.one<|.i .i64 g,.agg [.i .i64 h,.i .i64 j]]=>some (zck (⟨b,c,d,e⟩:Host) f g (⟨h,j⟩:Slot),zbs<|zcl (⟨b,c,d,e⟩:Host) f g (⟨h,j⟩:Slot),[])
 |_,_=>none
def zgL (N:Nat)(c:Host)(i n:Int)(k:Slot):OA:=
 (oN (inb i<|ln c.Mons)<|iter (σ:=(Int×Int×Int×Int×Int×Int×lN×lM×lE×lE×Unit)) N (λp a=>let j:=a.2.2.2.2.2.2.2.1;let h:=a.2.2.2.2.2.2.1;let e:=a.2.2.2.2.1;let g:=a.2.2.2.2.2.2.2.2.1;let f:=a.2.2.2.2.2.2.2.2.2.1;let b:=a.2.2.2.1;let d:=ix h a.2.1 zx;let m:=ix d.Tables b zd4;let l:=(ix d.Guests b zde).Live; (cond (ilt b a.2.2.1) (oN (inb b<|ln d.Tables)<|oN (inb b<|ln d.Guests)<|oN (zgS m l a.1)<|oN (inb b<|ln d.Tables)<|share (up h a.2.1 ({d with Tables:=(up d.Tables b<|ziC m l a.1)}:Mon)) λq=>p (a.1,a.2.1,a.2.2.1,zQ .i64 b 1,e,a.2.2.2.2.2.1,q,j,g,f,()))<|cond (ine e<|-1) (oN (zdS g e)<|oN (zdS f e)<|some [aH (⟨j,h,zeD g e,zeD f e⟩:Host)])<|some [aH (⟨j,h,g,f⟩:Host)])) (n,i,ln (ix c.Mons i zx).Guests,0,k.Page,k.Rights,c.Mons,c.Memory,c.Buffer,c.IoBuffer,()))
def zpQ:=zF [(43,0,{n:=71,tm:=[(0,.lp 0 0),(2,ti),(7,.lp 1 0),(8,.ep 0 [] 0),(20,ti),(21,ti)],lo:=[(0,[.sl 1 [],.sl 0 [],.sl 2 [],.sl 3 []]),(1,[ti,ti])],ro:=[(0,.mon,true),(1,.sl .int,true),(2,.entry,true),(3,.entry,true)]})]
theorem zrh (N:Nat)(c:Host)(a b:Int)(d:Slot):zhe (cQ zkW zsP zzj zzC) zpQ N 12 43 [true,true,true,true] (zbs c) [aI a,aI b,aT .slot d]=zgL N c a b d:=by kernel_rfl
theorem zpz (c:Host)(d b:Int)(a:Slot)(s:zb1 big (.agg (zbs c)::[aI d,aI b,aT .slot a]))(r:zck c d b a=true):∃N,zgL N c d b a=some (.agg (zbs<|zcl c d b a)::[]):=by
 obtain⟨h,g⟩:=zbm.1 r;obtain⟨l,q⟩:=zcc h g;have hg:(ix c.Mons d mZ).Guests.length<=big:=(zd3 l.2.2.2.1.1).1;refine zcG λN f=>?_;unfold zgL oN;conv=>zeta
 refine must (zbi g) ?_;refine(zbb ((ix c.Mons d zx).Guests) (λi (t:lN)=>(b,d,ln (ix c.Mons d zx).Guests,(i:Int),a.Page,a.Rights,t,c.Memory,c.Buffer,c.IoBuffer,())) _ (λi (x:Guest) (t:List Mon) j=>zy7 d b i t j) (λ(t:lN)=>cond (ine a.Page<|-1) (cond (zdS c.Buffer a.Page) (cond (zdS c.IoBuffer a.Page) (some [.agg<|zbs (⟨c.Memory,t,zeD c.Buffer a.Page,zeD c.IoBuffer a.Page⟩:Host)]) none) none)<|some [.agg<|zbs (⟨c.Memory,t,c.Buffer,c.IoBuffer⟩:Host)]) (λi e t rec=>?_) (λt rec=>?_) _ (c.Mons)<|f hg).trans ?_;{simp only [zbT e,zbk e,zbt e,zX e hg,cT];rfl};{simp only [zbC,cF]};obtain⟨k,rfl,m⟩:=zdP (n:=c.Mons.length) g;rw[zke λi t j=>zy7 (k:Int) b i t j];have p:c.Mons=up c.Mons (k:Int) (zf1 (ix c.Mons (k:Int) mZ) b 0):=(zF0 m _).symm;refine(congrArg _ p).trans ((zxT m b l q.2.2.2 _ _ 0<|jQ _).trans ?_);show (cond (ine a.Page<|-1) _ _)=some [AV.agg<|zbs<|zlf c (k:Int) b a];unfold zlf;cases ine a.Page (-1);{rfl};{exact must rfl (must (zds h.1.2.2.1) (must (zds h.1.2.2.2) rfl))}
theorem zmE:zcO Try.prog 43 [true,true,true,true] zft:=by refine zdx (zf5 zfQ zL zA zih) (zhV (by kernel_rfl)) ?_;intro g a b j i f h;have d:=zeN f;unfold zft at h;split at h;{obtain⟨e,rfl,rfl⟩:=zfG h;obtain⟨N,c⟩:=zpz _ _ _ _ (by exact d) e;exact⟨rfl,_,N,12,(zrh N _ _ _ _ ).trans c⟩};{cases h}
def zCY:zb7:=[(43,[true,true,true,true],zft)]++zzj
theorem zx9:zbI zCY:=zfV zA (by
 intro x a;simp only[qL,jT,or_false]at a;rcases a with rfl
 .exact zmE)
def zcr (h:Host)(m p:Int):Host:={h with Mons:=up h.Mons m {ix h.Mons m mZ with Out:=up (ix h.Mons m mZ).Out p (zbl h.Memory (ix (ix h.Mons m mZ).Outer p sZ).Page)}}
def zca (h:Host)(m p:Int):Host:=zbw (zcr h m p) m p noSlot
theorem zwl {m:List (List Int)}{p:Int}(h:SmM m):(zbl m p).length<=1048576:=by unfold zbl;cases a:hasB p (ln m);{exact(by decide:zly.length<=1048576)};{exact h.2 _ (zb8 a _)}
theorem zoE {h:Host}{m p:Int}(c:Shape h)(d:hasB m (ln h.Mons)=true):Shape (zcr h m p):=by obtain⟨a,b⟩:=zcc c d;exact zf0 c ⟨a.1,zrz a.2.1<|zwl c.1.1,a.2.2⟩ ⟨b.1,by simpa using b.2.1,b.2.2⟩
theorem zzs {h:Host}{m p:Int}(b:Shape h)(a:hasB m (ln h.Mons)=true):Shape (zca h m p):=zhM (zew a) (zoE b a)
@[simp] abbrev zps (h:Host)(m p:Int):Bool:=pc (Shape h/\hasB m (ln h.Mons)=true/\hasB p 8=true)
@[simp] abbrev zpt (h:Host)(m p:Int):Host:=zca h m p
def zjT:List CV->List AV->Option (Bool×List CV×List AV)
 |[.s (.sl .int) b,.s .mon c,.s .entry d,.s .entry e],[.one<|.i .i64 f,.one<|.i .i64 g]=>some (zps (⟨b,c,d,e⟩:Host) f g,zbs<|zpt (⟨b,c,d,e⟩:Host) f g,[])
 |_,_=>none
def zoP (N:Nat)(c:Host)(b a:Int):OA:=
 let d:=ix c.Mons b zx;let e:=ix d.Outer a zU; (oN (inb b<|ln c.Mons)<|oN (inb a<|ln d.Outer)<|oN (zcs c.Memory e.Page)<|oN (inb a<|ln d.Out)<|share (up c.Mons b ({d with Out:=(up d.Out a<|zdj c.Memory e.Page)}:Mon)) (λg=>let f:=ix g b zx; (oN zbG<|oN (inb a<|ln f.Outer)<|share (up g b ({f with Outer:=(up f.Outer a zbf)}:Mon)) (λi=>let h:=({c with Mons:=i}:Host); (oN (zck h b a e)<|some [aH<|zcl h b a e])))))
theorem zAY (N:Nat)(c:Host)(a b:Int):zhe (cQ zkW zsP zCY zzC) (zF []) N 12 82 [true,true,true,true] (zbs c) [aI a,aI b]=zoP N c a b:=by kernel_rfl
theorem zzc (c:Host)(e a:Int)(w:zb1 big (.agg (zbs c)::[aI e,aI a]))(u:zps c e a=true):∃N,zoP N c e a=some (.agg (zbs<|zpt c e a)::[]):=by
 obtain⟨l,b,j⟩:=zbm.1 u;obtain⟨v,f⟩:=zcc l b;obtain⟨k,rfl,h⟩:=zdP (n:=c.Mons.length) b;have m:=zoE (p:=a) l b;have d:hasB (k:Int) (ln (zcr c (k:Int) a).Mons)=true:=zew b;have i:k<(zcr c (k:Int) a).Mons.length:=(by simpa [zcr] using h);have g:ix (zcr c (k:Int) a).Mons (k:Int) mZ={ix c.Mons (k:Int) mZ with Out:=up (ix c.Mons (k:Int) mZ).Out a (zbl c.Memory (ix (ix c.Mons (k:Int) mZ).Outer a sZ).Page)}:=zfm h _ _;have t:Shape {zcr c (k:Int) a with Mons:=up (zcr c (k:Int) a).Mons (k:Int) {ix (zcr c (k:Int) a).Mons (k:Int) mZ with Outer:=up (ix (zcr c (k:Int) a).Mons (k:Int) mZ).Outer a noSlot}}:=(by obtain⟨q,r⟩:=zcc m d;exact zf0 m ⟨by simpa using q.1,q.2⟩ ⟨by simpa using r.1,r.2⟩);refine⟨0,?_⟩;unfold zoP oN;conv=>zeta
 refine must (zbi b) (must (zbi<|zdQ f.1 j)<|must (zds<|(znE _).2 l.1.1)<|must (zbi<|zdQ f.2.1 j)<|shr (must rfl (must ?_<|shr<|must (zds ⟨t,zew d⟩) ?_)));{rw [zfm h];exact zbi (zdQ f.1 j)};{have:=zlt (p:=a) (s:=noSlot) i (by rw[g];exact f.2.2.2);rw[g] at this;show some [AV.agg<|zbs<|zlf {zcr c (k:Int) a with Mons:=up (zcr c (k:Int) a).Mons (k:Int) {ix (zcr c (k:Int) a).Mons (k:Int) mZ with Outer:=up (ix (zcr c (k:Int) a).Mons (k:Int) mZ).Outer a noSlot}} (k:Int) a<|ix (ix c.Mons (k:Int) mZ).Outer a sZ]=_;rw[g];exact congrArg (λx=>some [AV.agg<|zbs x]) this}
theorem zvq:zcO Try.prog 82 [true,true,true,true] zjT:=by refine zdx (zf5 zfQ zL zx9 zih) (zhV (by kernel_rfl)) ?_;intro g a b j i f h;have d:=zeN f;unfold zjT at h;split at h;{obtain⟨e,rfl,rfl⟩:=zfG h;obtain⟨N,c⟩:=zzc _ _ _ (by exact d) e;exact⟨rfl,_,N,12,(zAY N _ _ _ ).trans c⟩};{cases h}
def zCZ:zb7:=[(82,[true,true,true,true],zjT)]++zCY
theorem zya:zbI zCZ:=zfV zx9 (by
 intro x a;simp only[qL,jT,or_false]at a;rcases a with rfl
 .exact zvq)
def zDs:zdf:=zzC
theorem zyr:zcx zDs:=zih
def cz (l:List Slot):Nat:=l.countP λs=>ieq s.Page 0
def zH:List Mon->Nat
 |[]=>0
 |m::l=>cz m.Outer+zH l
def bit (u:List Bool):Nat:=bif ix u 0 false then 1 else 0
theorem zkb (s:Slot)(l:List Slot):cz (s::l)=cz l+bif ieq s.Page 0 then 1 else 0:=by unfold cz;rw[kS];cases ieq s.Page 0<;>rfl
theorem zGB {u:List Bool}{p:Int}(c:0<=p)(a:p.toNat<u.length)(x:Bool):ix (up u p x) 0 false=bif ieq p 0 then x else ix u 0 false:=by unfold ix up;cases h:ieq p 0;{have:p≠0:=(by simpa [ieq] using h);have b:p.toNat≠0:=(by omega);simp[List.getD,qY,b]};{have:p=0:=(by simpa [ieq] using h);subst this;have a:0<u.length:=a;simp[List.getD,qY,a]}
theorem znu:∀(l:List Slot) (u b:List Bool),(∀s∈l,s.Page<12)->u.length=12->zdp l u=some b->cz l+bit u=bit b
 |[],u,b,_,_,h=>by cases h;simp[cz]
 |s::l,u,b,i,k,h=>by
  simp only[zdp]at h;rw[zkb];cases c:ilt s.Page 0;{have c:=kW c;rw[show ilt s.Page 0=false from qW (by omega)]at h;simp only[cF]at h;cases d:ix u s.Page false;{rw [d]at h;simp only[cF]at h;have g:s.Page.toNat<u.length:=(by have:=i s (by simp);omega);have a:=znu l _ b (λt j=>i t (by simp[j])) (by simpa using k) h;have e:bit (up u s.Page true)=bif ieq s.Page 0 then 1 else bit u:=(by unfold bit;rw[zGB (by omega) g];cases ieq s.Page 0<;>rfl);rw[e] at a;cases f:ieq s.Page 0;{rw [f] at a;simp only[cF] at a ⊢;omega};{have n:s.Page=0:=(by simpa [ieq] using f);rw[n]at d;have:bit u=0:=(by unfold bit;rw[d];rfl);rw[f] at a;simp only[cT] at a ⊢;omega}};{rw [d]at h;cases h}};{have m:=qP c;rw[c]at h;simp only[cT]at h;have a:=znu l u b (λt j=>i t (by simp[j])) k h;have:ieq s.Page 0=false:=(by simp[ieq];omega);rw[this];simpa using a}
theorem zvr:∀(l:List Mon) (u:List Bool),u.length=12->zeb l u=true->zH l+bit u<=1
 |[],u,_,_=>by unfold zH bit;cases ix u 0 false<;>simp
 |m::l,u,c,h=>by simp only[zeb]at h;cases b:zcH m;{rw [b]at h;cases h};{rw [b]at h;simp only[cT]at h;cases a:zdp m.Outer u with|none=>rw[a]at h;cases h|some d =>rw[a]at h;have e:=znu _ _ _ (zyi<|zeG b) c a;have f:=zvr l d ((zh8 _ _ _ a).trans c) h;simp only[zH];omega}
theorem zAu:∀(l:List Slot) (b:Nat) (s:Slot),l[b]?=some s->s.Page=0->cz (l.set b noSlot)+1=cz l
 |[],b,s,h,_=>by simp at h
 |t::l,0,s,h,a=>by simp only[qF,qB]at h;subst h;rw[List.set_cons_zero,zkb,zkb];have:ieq t.Page 0=true:=(by simp[ieq,a]);rw[this];rfl
 |t::l,b+1,s,h,a=>by rw[uS,zkb,zkb];have:=zAu l b s (by simpa using h) a;omega
theorem zBG:∀(l:List Mon) (a:Nat) (x y:Mon),l[a]?=some x->zH (l.set a y)+cz x.Outer=zH l+cz y.Outer
 |[],a,x,y,h=>by simp at h
 |m::l,0,x,y,h=>by simp only[qF,qB]at h;subst h;rw[List.set_cons_zero];simp only[zH];omega
 |m::l,a+1,x,y,h=>by rw[uS];have:=zBG l a x y (by simpa using h);simp only[zH];omega
theorem zyV {l:List Slot}(h:cz l=0):zgk l 0=none:=by unfold zgk;rw[List.findIdx?_eq_none_iff];intro s a;have:=(uO.1 h) s a;simpa using this
theorem zrm:∀(l:List Mon) (i:Nat),zH l=0->zd2 0 l i=(-1,-1)
 |[],_,_=>rfl
 |m::l,i,h=>by simp only[zH]at h;simp only[zd2];rw[zyV (by omega)];exact zrm l (i+1) (by omega)
theorem zyW {l:List Slot}{k:Nat}(h:zgk l 0=some k):∃s,l[k]?=some s/\s.Page=0:=by unfold zgk at h;rw[uJ]at h;obtain⟨a,b,_⟩:=h;exact⟨l[k],qC a,by simpa [ieq] using b⟩
theorem zop:∀(l:List Mon) (i:Nat),zd2 0 l i=(-1,-1)\/∃a b x s,zd2 0 l i=(((i+a:Nat):Int),((b:Nat):Int))/\l[a]?=some x/\x.Outer[b]?=some s/\s.Page=0
 |[],_=>.inl rfl
 |m::l,i=>by
  simp only[zd2];cases h:zgk m.Outer 0 with
  |none=>rcases zop l (i+1) with c|⟨a,b,x,s,c,d,f,g⟩;{exact .inl c};{refine .inr ⟨a+1,b,x,s,?_,by simpa using d,f,g⟩;have e:i+1+a=i+(a+1):=(by omega);rw[c,e]}
  |some k=>obtain⟨s,c,d⟩:=zyW h;exact .inr ⟨0,k,m,s,rfl,rfl,c,d⟩
def Fit (h:Host):Prop:=Shape h/\0<h.Memory.length/\zH h.Mons<=1
theorem zoh {h:Host}(c:0<h.Memory.length)(b:ilt (zO h 0).1 0=true):inb 0 (ln<|zbg h)=true:=by unfold zbg;obtain⟨n,a⟩:∃n,h.Memory.length=n+1:=⟨h.Memory.length-1,by omega⟩;rw[a];simp only[zhF];rw[show ilt (zO h ((0:Nat):Int)).1 0=true from b];exact qT (by simp only[cT,ln,qU];omega)
theorem zy0 {h:Host}(b:0<h.Memory.length)(a:ieq (ln<|zbg h) 0=true):ilt (zO h 0).1 0=false:=by cases c:ilt (zO h 0).1 0;{rfl};{have d:=qP (zoh b c);have e:ln (zbg h)=0:=(by simpa [ieq] using a);omega}
def zbO (h:Host):Host:=bif ieq (ln<|zbg h) 0 then zca h (zO h 0).1 (zO h 0).2 else h
structure Room (h r:Host):Prop where
 shape:Shape r
 free:inb 0 (ln (zbg r))=true
 len:r.Mons.length=h.Mons.length
 outer:∀m,(ix r.Mons m mZ).Outer.length=8\/True
theorem zA2 {h:Host}(i:Fit h)(f:ieq (ln<|zbg h) 0=true):∃(a b:Nat) (x:Mon) (s:Slot),zO h 0=((a:Int),(b:Int))/\h.Mons[a]?=some x/\x.Outer[b]?=some s/\s.Page=0:=by have d:=zy0 i.2.1 f;have e:zO h 0=zd2 0 h.Mons 0:=rfl;rcases zop h.Mons 0 with c|⟨a,b,x,s,c,g⟩;{rw [e,c]at d;cases d};{exact⟨a,b,x,s,by rw[e,c,jQ],g⟩}
theorem zsU {h:Host}(d:Fit h)(e:ieq (ln<|zbg h) 0=true):hasB (zO h 0).1 (ln h.Mons)=true/\hasB (zO h 0).2 8=true:=by obtain⟨a,b,x,s,f,c,g,j⟩:=zA2 d e;rw[f];have k:=(qA.1 c).1;have l:=(qA.1 g).1;have i:=d.1.2 x (qG c);refine⟨qT (by simp only[ln];omega),qT ?_⟩;have:=i.1;show 0<=(b:Int)/\(b:Int)<8;omega
theorem room {h:Host}(d:Fit h):Room h (zbO h):=by unfold zbO;cases g:ieq (ln<|zbg h) 0;{refine⟨d.1,qT ?_,rfl,λ_=>.inr trivial⟩;have:ln (zbg h)≠0:=(by simpa [ieq] using g);show 0<=(0:Int)/\(0:Int)<ln (zbg h);simp only[ln] at *;omega};{obtain⟨n,u⟩:=zsU d g;obtain⟨a,b,x,s,r,i,k,t⟩:=zA2 d g;simp only[cT];rw[r]at n u ⊢;have m:=(qA.1 i).1;have B:=(qA.1 k).1;have j:ix h.Mons (a:Int) mZ=x:=(by rw[zbt m];exact(qA.1 i).2);have c:=(zeY (zcr h (a:Int) (b:Int)) (a:Int) (b:Int) noSlot).1;have q:ix (zcr h (a:Int) (b:Int)).Mons (a:Int) mZ={x with Out:=up x.Out (b:Int) (zbl h.Memory (ix x.Outer (b:Int) sZ).Page)}:=(by unfold zcr;rw[zfm m,j]);obtain⟨y,l,v⟩:∃y,(zca h (a:Int) (b:Int)).Mons=h.Mons.set a y/\y.Outer=x.Outer.set b noSlot:=(by unfold zca;rw[c,q];unfold zcr;rw[zrK];exact⟨_,by simp[up];rfl,by simp[up]⟩);have w:zH (zca h (a:Int) (b:Int)).Mons=0:=(by have p:=zBG h.Mons a x y i;have z:=zAu x.Outer b s k t;have A:=d.2.2;rw[l];rw[v] at p;omega);have f:(zca h (a:Int) (b:Int)).Memory=h.Memory:=(zeY (zcr h (a:Int) (b:Int)) (a:Int) (b:Int) noSlot).2;refine⟨zzs d.1 n,zoh (by rw[f];exact d.2.1) ?_,by rw[l];simp,λ_=>.inr trivial⟩;have e:zO (zca h (a:Int) (b:Int)) 0=zd2 0 (zca h (a:Int) (b:Int)).Mons 0:=rfl;rw[e,zrm _ _ w];rfl}
theorem zwm {m:List (List Int)}{p:Int}{c:List Int}(h:SmM m)(a:c.length<=1048576):SmM (zf3 m p c):=by unfold zf3;cases hasB p (ln m);{exact h};{cases zbL c;{exact h};{exact zrz h a}}
def landing (r:Host)(m p to:Int):Host:={r with Memory:=zf3 r.Memory to (ix (ix r.Mons m mZ).Out p []),Mons:=up r.Mons m {ix r.Mons m mZ with Out:=up (ix r.Mons m mZ).Out p []}}
def zcz (r:Host)(m p to:Int):Host:=zbw (landing r m p to) m p ⟨to,3⟩
def fetched (h:Host)(m p:Int):Host:=zcz (zbO h) m p (ix (zbg<|zbO h) 0 0)
theorem zBv {r:Host}{m p:Int}(e:Shape r)(c:hasB m (ln r.Mons)=true)(d:hasB p 8=true):(ix (ix r.Mons m mZ).Out p []).length<=1048576:=by obtain⟨a,b⟩:=zcc e c;exact a.2.1.2 _ (zb8 (zdQ b.2.1 d) _)
theorem zlP {r:Host}{m p to:Int}(a:Shape r)(d:hasB m (ln r.Mons)=true)(e:hasB p 8=true):Shape (landing r m p to):=by obtain⟨b,c⟩:=zcc a d;exact zBo (h:={r with Mons:=up r.Mons m {ix r.Mons m mZ with Out:=up (ix r.Mons m mZ).Out p []}}) (zf0 (x:={ix r.Mons m mZ with Out:=up (ix r.Mons m mZ).Out p []}) a ⟨b.1,zrz b.2.1 (by simp),b.2.2⟩ ⟨c.1,by simpa using c.2.1,c.2.2⟩) (zwm a.1.1<|zBv a d e)
theorem zuk {r:Host}{m p d:Int}(c:Shape r)(a:hasB m (ln r.Mons)=true)(b:hasB p 8=true):Shape (zcz r m p d):=zhM (zew a) (zlP c a b)
theorem ziS {h:Host}(a:Fit h){m:Int}(b:hasB m (ln h.Mons)=true):hasB m (ln (zbO h).Mons)=true:=by rw[ln,(room a).len];exact b
theorem zhL {h:Host}{m p:Int}(a:Fit h)(b:hasB m (ln h.Mons)=true)(c:hasB p 8=true):Shape (fetched h m p)/\hasB m (ln (fetched h m p).Mons)=true :=
 ⟨zuk (room a).shape (ziS a b) c,zoi<|zew<|ziS a b⟩
@[simp] abbrev zhD (h:Host):Bool:=pc (Shape h/\hasB (zO h 0).1 (ln h.Mons)=true/\hasB (zO h 0).2 8=true)
@[simp] abbrev zhE (h:Host):Host:=zca h (zO h 0).1 (zO h 0).2
def zfW:List CV->List AV->Option (Bool×List CV×List AV)
 |[.s (.sl .int) b,.s .mon c,.s .entry d,.s .entry e],[]=>some (zhD (⟨b,c,d,e⟩:Host),zbs<|zhE (⟨b,c,d,e⟩:Host),[])
 |_,_=>none
def zhz (N:Nat)(c:Host)  : OA :=
 (oN (zeJ c 0)<|oN (zps c (zdb c 0)<|zdY c 0)<|some [aH<|zpt c (zdb c 0)<|zdY c 0])
theorem zsQ (N:Nat)(c:Host)  : zhe (cQ zkW zsP zCZ zDs) (zF []) N 12 66 [true,true,true,true] (zbs c) []=zhz N c:=by kernel_rfl
theorem zra (c:Host)(d:zb1 big (.agg (zbs c)::[]))(a:zhD c=true):∃N,zhz N c=some (.agg (zbs<|zhE c)::[]):=by have b:=zbm.1 a;refine⟨0,?_⟩;unfold zhz oN;exact must rfl (must (zds b) rfl)
theorem znV:zcO Try.prog 66 [true,true,true,true] zfW:=by refine zdx (zf5 zfQ zL zya zyr) (zhV (by kernel_rfl)) ?_;intro g a b j i f h;have d:=zeN f;unfold zfW at h;split at h;{obtain⟨e,rfl,rfl⟩:=zfG h;obtain⟨N,c⟩:=zra _ (by exact d) e;exact⟨rfl,_,N,12,(zsQ N _ ).trans c⟩};{cases h}
def zC0:zb7:=[(66,[true,true,true,true],zfW)]++zCZ
theorem zyb:zbI zC0:=zfV zya (by
 intro x a;simp only[qL,jT,or_false]at a;rcases a with rfl
 .exact znV)
def zzD:zdf:=zDs
theorem zs5:zcx zzD:=zyr
@[simp] abbrev zmI (h:Host)(m p:Int):Bool:=pc (Fit h/\hasB m (ln h.Mons)=true/\hasB p 8=true)
@[simp] abbrev zjt (h:Host)(m p:Int):Host:=fetched h m p
theorem zyF {r:Host}{m p to:Int}(d:Shape r)(b:hasB m (ln r.Mons)=true):zlf {landing r m p to with Mons:=up (landing r m p to).Mons m {ix (landing r m p to).Mons m mZ with Outer:=up (ix (landing r m p to).Mons m mZ).Outer p ⟨to,3⟩}} m p (ix (ix (landing r m p to).Mons m mZ).Outer p sZ)=zcz r m p to:=by obtain⟨e,c⟩:=zcc d b;obtain⟨k,rfl,a⟩:=zdP (n:=r.Mons.length) b;refine zlt (h:=landing r (k:Int) p to) (by simpa [landing] using a) ?_;unfold landing;simp only[zfm a];exact c.2.2.2
theorem zxt {r:Host}{m p to:Int}(f:Shape r)(b:hasB m (ln r.Mons)=true)(e:hasB p 8=true):Shape {landing r m p to with Mons:=up (landing r m p to).Mons m {ix (landing r m p to).Mons m mZ with Outer:=up (ix (landing r m p to).Mons m mZ).Outer p ⟨to,3⟩}}:=by have a:=zlP (to:=to) f b e;obtain⟨c,d⟩:=zcc a (zew b);exact zf0 a ⟨by simpa using c.1,c.2⟩ ⟨by simpa using d.1,d.2⟩
def ziR:List CV->List AV->Option (Bool×List CV×List AV)
 |[.s (.sl .int) b,.s .mon c,.s .entry d,.s .entry e],[.one<|.i .i64 f,.one<|.i .i64 g]=>some (zmI (⟨b,c,d,e⟩:Host) f g,zbs<|zjt (⟨b,c,d,e⟩:Host) f g,[])
 |_,_=>none
def zl7 (N:Nat)(c:Host)(b a:Int):OA:=
 let m:=ix (zcK c) 0 0;let d:=zhE c;let l:=ix (zcK d) 0 0;let f:=ix c.Mons b zx;let e:=ix d.Mons b zx; (oN (zem c)<|cond (ieq (ln<|zcK c) 0) (oN (zhD c)<|oN (inb b<|ln d.Mons)<|oN (zem d)<|oN (inb 0<|ln<|zcK d)<|oN (inb a<|ln e.Out)<|oN (zeU d.Memory l<|ix e.Out a [])<|oN (inb a<|ln e.Out)<|share (up d.Mons b ({e with Out:=(up e.Out a [])}:Mon)) (λg=>let i:=ix g b zx;let q:=ix i.Outer a zU; (oN (inb a<|ln i.Outer)<|oN (inb a<|ln i.Outer)<|share (up g b ({i with Outer:=(up i.Outer a (⟨l,3⟩:Slot))}:Mon)) (λk=>let n:=({d with Memory:=(zeo d.Memory l<|ix e.Out a []),Mons:=k}:Host); (oN (zck n b a q)<|some [aH<|zcl n b a q])))))<|oN (inb b<|ln c.Mons)<|oN (zem c)<|oN (inb 0<|ln<|zcK c)<|oN (inb a<|ln f.Out)<|oN (zeU c.Memory m<|ix f.Out a [])<|oN (inb a<|ln f.Out)<|share (up c.Mons b ({f with Out:=(up f.Out a [])}:Mon)) (λg=>let j:=ix g b zx;let h:=ix j.Outer a zU; (oN (inb a<|ln j.Outer)<|oN (inb a<|ln j.Outer)<|share (up g b ({j with Outer:=(up j.Outer a (⟨m,3⟩:Slot))}:Mon)) (λk=>let p:=({c with Memory:=(zeo c.Memory m<|ix f.Out a []),Mons:=k}:Host); (oN (zck p b a h)<|some [aH<|zcl p b a h])))))
theorem zzf (N:Nat)(c:Host)(a b:Int):zhe (cQ zkW zsP zC0 zzD) (zF []) N 12 41 [true,true,true,true] (zbs c) [aI a,aI b]=zl7 N c a b:=by kernel_rfl
theorem zxj (c:Host)(b d:Int)(F:zb1 big (.agg (zbs c)::[aI b,aI d]))(w:zmI c b d=true):∃N,zl7 N c b d=some (.agg (zbs<|zjt c b d)::[]):=by
 obtain⟨j,B,l⟩:=zbm.1 w;have e:∀r,Shape r->inb 0 (ln<|zbg r)=true->hasB b (ln r.Mons)=true->(cond (inb b<|ln r.Mons) (cond (zem r) (cond (inb 0<|ln<|zcK r) (cond (inb d<|ln (ix r.Mons b zx).Out) (cond (zeU r.Memory (ix (zcK r) 0 0)<|ix (ix r.Mons b zx).Out d []) (cond (inb d<|ln (ix r.Mons b zx).Out) (share (up r.Mons b ({ (ix r.Mons b zx) with Out:=(up (ix r.Mons b zx).Out d [])}:Mon)) λg=>cond (inb d<|ln (ix g b zx).Outer) (cond (inb d<|ln (ix g b zx).Outer) (share (up g b ({ (ix g b zx) with Outer:=(up (ix g b zx).Outer d (⟨ix (zcK r) 0 0,3⟩:Slot))}:Mon)) λu=>cond (zck ({r with Memory:=(zeo r.Memory (ix (zcK r) 0 0)<|ix (ix r.Mons b zx).Out d []),Mons:=u}:Host) b d<|ix (ix g b zx).Outer d zU) (some [AV.agg<|zbs<|zcl ({r with Memory:=(zeo r.Memory (ix (zcK r) 0 0)<|ix (ix r.Mons b zx).Out d []),Mons:=u}:Host) b d<|ix (ix g b zx).Outer d zU]) none) none) none) none) none) none) none) none) none)=some [AV.agg<|zbs<|zcz r b d<|ix (zbg r) 0 0]:=(by intro r i f a;obtain⟨E,q⟩:=zcc i a;have v:=zxt (to:=ix (zbg r) 0 0) i a l;have hE:=zyF (p:=d) (to:=ix (zbg r) 0 0) i a;obtain⟨k,rfl,A⟩:=zdP (n:=r.Mons.length) a;have z:∀(x y:Mon),hasB (k:Int) (ln<|up (up r.Mons (k:Int) x) (k:Int) y)=true:=λx y=>(by simpa [ln] using a);have t:inb d (ln (ix (up r.Mons (k:Int) {ix r.Mons (k:Int) mZ with Out:=up (ix r.Mons (k:Int) mZ).Out d []}) (k:Int) mZ).Outer)=true:=(by rw[zfm A];exact zbi (zdQ q.1 l));refine must (zbi a) (must (zds i.1.1.1)<|must f<|must (zbi<|zdQ q.2.1 l)<|must (zds ⟨i.1.1,zBv i a l⟩)<|must (zbi<|zdQ q.2.1 l)<|shr<|must t<|must t<|shr<|must (zds ⟨v,z _ _⟩) ?_);exact congrArg (λx=>some [AV.agg<|zbs x]) hE);have h:=room j;have a:=ziS j B;refine⟨0,?_⟩;unfold zl7 zjt fetched oN;conv=>zeta
 refine must (zds j.1.1.1.1) ?_;cases s:ieq (ln<|zcK c) 0;{have m:zbO c=c:=(by unfold zbO;rw[show ieq (ln<|zbg c) 0=false from s];rfl);rw[m]at h a ⊢;exact e c h.shape h.free a};{obtain⟨C,D⟩:=zsU j s;have m:zbO c=zca c (zO c 0).1 (zO c 0).2:=(by unfold zbO;rw[show ieq (ln<|zbg c) 0=true from s];rfl);rw[m]at h a ⊢;exact must rfl (must (zds ⟨j.1,C,D⟩)<|e _ h.shape h.free a)}
theorem zt7:zcO Try.prog 41 [true,true,true,true] ziR:=by refine zdx (zf5 zfQ zL zyb zs5) (zhV (by kernel_rfl)) ?_;intro g a b j i f h;have d:=zeN f;unfold ziR at h;split at h;{obtain⟨e,rfl,rfl⟩:=zfG h;obtain⟨N,c⟩:=zxj _ _ _ (by exact d) e;exact⟨rfl,_,N,12,(zzf N _ _ _ ).trans c⟩};{cases h}
def zC1:zb7:=[(41,[true,true,true,true],ziR)]++zC0
theorem zyc:zbI zC1:=zfV zyb (by
 intro x a;simp only[qL,jT,or_false]at a;rcases a with rfl
 .exact zt7)
def zbd (h:Host)(m p:Int):Host:={h with Mons:=up h.Mons m {ix h.Mons m mZ with Dirty:=up (ix h.Mons m mZ).Dirty p true}}
def opened (h:Host)(m p:Int):Host:=bif ieq (wand .i64 (ix (ix h.Mons m mZ).Outer p sZ).Rights 2) 0 then zbw h m p ⟨(ix (ix h.Mons m mZ).Outer p sZ).Page,3⟩ else h
def zeL (h:Host)(m p n:Int):Host:=bif ieq (wand .i64 n 2) 0 then h else opened (zbd h m p) m p
def mended (h:Host)(m p n:Int):Host:=bif ieq (ix (ix h.Mons m mZ).Outer p sZ).Page (-1) then zeL (fetched h m p) m p n else zeL h m p n
theorem zFt {r:Int}(a:0<=r)(b:r<=3):enough r 2 = !ieq (wand .i64 r 2) 0:=by have:r=0\/r=1\/r=2\/r=3:=(by omega);rcases this with rfl|rfl|rfl|rfl<;>rfl
structure SlotFit (s:Slot):Prop where
 no:zb9 s noSlot=ieq s.Page (-1)
 lo:0<=s.Rights
 hi:s.Rights<=3
theorem zzt {s:Slot}{n:Int}(h:zc6 s n=true):SlotFit s:=by refine⟨zBs h,?_,?_⟩<;>unfold zc6 at h<;>cases a:zb9 s noSlot;{rw [a]at h;simp only[cF,zcy]at h;have:=(zeu.1 h.2.2).1;omega};{unfold zb9 at a;rw[qD]at a;have:s.Rights=0:=qP a.2;omega};{rw [a]at h;simp only[cF,zcy]at h;have:=(zeu.1 h.2.2).2;omega};{unfold zb9 at a;rw[qD]at a;have:s.Rights=0:=qP a.2;omega}
theorem zlO {h:Host}{m p:Int}(c:Shape h)(d:hasB m (ln h.Mons)=true):Shape (zbd h m p):=by obtain⟨a,b⟩:=zcc c d;exact zf0 c ⟨a.1,a.2.1,by simpa using a.2.2.1,a.2.2.2⟩ ⟨b.1,b.2.1,by simpa using b.2.2.1,b.2.2.2⟩
theorem zwj {h:Host}{m p:Int}(b:Shape h)(a:hasB m (ln h.Mons)=true):Shape (opened h m p)/\hasB m (ln (opened h m p).Mons)=true:=by unfold opened;cases ieq (wand .i64 (ix (ix h.Mons m mZ).Outer p sZ).Rights 2) 0;{exact⟨b,a⟩};{exact⟨zhM a b,zoi a⟩}
theorem zoD {h:Host}{m p n:Int}(b:Shape h)(a:hasB m (ln h.Mons)=true):Shape (zeL h m p n)/\hasB m (ln (zeL h m p n).Mons)=true:=by unfold zeL;cases ieq (wand .i64 n 2) 0;{exact zwj (zlO b a) (zew a)};{exact⟨b,a⟩}
theorem zi2 {h:Host}{m p n:Int}(a:Fit h)(b:hasB m (ln h.Mons)=true)(e:hasB p 8=true):Shape (mended h m p n)/\hasB m (ln (mended h m p n).Mons)=true:=by unfold mended;cases ieq (ix (ix h.Mons m mZ).Outer p sZ).Page (-1);{exact zoD a.1 b};{obtain⟨c,d⟩:=zhL a b e;exact zoD c d}
theorem zve {h:Host}{m p:Int}(c:Fit h)(g:hasB m (ln h.Mons)=true)(j:hasB p 8=true):(ix (ix (fetched h m p).Mons m mZ).Outer p sZ).Rights=3:=by have f:=room c;have a:=ziS c g;obtain⟨r,e⟩:=zcc f.shape a;obtain⟨k,rfl,d⟩:=zdP (n:=(zbO h).Mons.length) a;obtain⟨q,rfl,l⟩:=zdP (n:=8) j;unfold fetched zcz;rw[(zeY _ _ _ _).1];have b:k<(landing (zbO h) (k:Int) (q:Int)<|ix (zbg<|zbO h) 0 0).Mons.length:=(by simpa [landing] using d);rw[zfm b];have i:q<(ix (landing (zbO h) (k:Int) (q:Int)<|ix (zbg<|zbO h) 0 0).Mons (k:Int) mZ).Outer.length:=(by unfold landing;rw[zfm d];show q<(ix (zbO h).Mons (k:Int) mZ).Outer.length;rw[e.1];exact l);show (ix (up (ix (landing (zbO h) (k:Int) (q:Int)<|ix (zbg<|zbO h) 0 0).Mons (k:Int) mZ).Outer (q:Int) ⟨_,3⟩) (q:Int) sZ).Rights=3;rw[zfm i]
def zzH (h:Host)(m p n:Int):Prop:=Fit h/\hasB m (ln h.Mons)=true/\hasB p 8=true/\(n=1\/n=2)/\SlotFit (ix (ix h.Mons m mZ).Outer p sZ)
@[simp] abbrev zle (h:Host)(m p n:Int):Bool:=pc (zzH h m p n)
@[simp] abbrev ziK (h:Host)(m p n:Int):Host:=mended h m p n
def zjS:List CV->List AV->Option (Bool×List CV×List AV)
 |[.s (.sl .int) b,.s .mon c,.s .entry d,.s .entry e],[.one<|.i .i64 f,.one<|.i .i64 g,.one<|.i .i64 h]=>some (zle (⟨b,c,d,e⟩:Host) f g h,zbs<|ziK (⟨b,c,d,e⟩:Host) f g h,[])
 |_,_=>none
def zoO (N:Nat)(c:Host)(b a k:Int):OA:=
 let e:=zjt c b a;let m:=ix e.Mons b zx;let h:=ix c.Mons b zx; (oN (inb b<|ln c.Mons)<|oN (inb a<|ln h.Outer)<|cond (ieq (ix h.Outer a zU).Page<|-1) (oN (zmI c b a)<|oN (zZ k 2)<|cond (nB<|zcu k 2) (some [aH e])<|oN (inb b<|ln e.Mons)<|oN (inb a<|ln m.Dirty)<|share (up e.Mons b ({m with Dirty:=(up m.Dirty a true)}:Mon)) (λd=>let i:=ix d b zx;let f:=ix i.Outer a zU; (oN (inb a<|ln i.Outer)<|oN (zZ f.Rights 2)<|cond (nB<|zcu f.Rights 2) (oN (inb a<|ln i.Outer)<|share (up d b ({i with Outer:=(up i.Outer a ({f with Rights:=3}:Slot))}:Mon)) (λl=>let n:=({e with Mons:=l}:Host); (oN (zck n b a f)<|some [aH<|zcl n b a f])))<|some [aH ({e with Mons:=d}:Host)])))<|oN (zZ k 2)<|cond (nB<|zcu k 2) (some [aH c])<|oN (inb b<|ln c.Mons)<|oN (inb a<|ln h.Dirty)<|share (up c.Mons b ({h with Dirty:=(up h.Dirty a true)}:Mon)) (λd=>let j:=ix d b zx;let g:=ix j.Outer a zU; (oN (inb a<|ln j.Outer)<|oN (zZ g.Rights 2)<|cond (nB<|zcu g.Rights 2) (oN (inb a<|ln j.Outer)<|share (up d b ({j with Outer:=(up j.Outer a ({g with Rights:=3}:Slot))}:Mon)) (λl=>let p:=({c with Mons:=l}:Host); (oN (zck p b a g)<|some [aH<|zcl p b a g])))<|some [aH ({c with Mons:=d}:Host)])))
theorem zAX (N:Nat)(c:Host)(a b d:Int):zhe (cQ zkW zsP zC1 zzD) (zF []) N 12 19 [true,true,true,true] (zbs c) [aI a,aI b,aI d]=zoO N c a b d:=by kernel_rfl
theorem zzb (c:Host)(b a f:Int)(R:zb1 big (.agg (zbs c)::[aI b,aI a,aI f]))(M:zle c b a f=true):∃N,zoO N c b a f=some (.agg (zbs<|ziK c b a f)::[]):=by
 obtain⟨l,i,j,P,C⟩:=zbm.1 M;obtain⟨Q,I⟩:=zcc l.1 i;have H:enough f 2 = !ieq (wand .i64 f 2) 0:=(by rcases P with rfl|rfl<;>rfl);have g:∀r,Shape r->hasB b (ln r.Mons)=true->enough (ix (ix r.Mons b mZ).Outer a sZ).Rights 2=(!ieq (wand .i64 (ix (ix r.Mons b mZ).Outer a sZ).Rights 2) 0)->(cond (zZ f 2) (cond (cond (zcu f 2) false true) (some [AV.agg<|zbs r])<|cond (inb b<|ln r.Mons) (cond (inb a<|ln (ix r.Mons b zx).Dirty) (share (up r.Mons b ({ (ix r.Mons b zx) with Dirty:=(up (ix r.Mons b zx).Dirty a true)}:Mon)) λe=>cond (inb a<|ln (ix e b zx).Outer) (cond (zZ (ix (ix e b zx).Outer a zU).Rights 2) (cond (cond (zcu (ix (ix e b zx).Outer a zU).Rights 2) false true) (cond (inb a<|ln (ix e b zx).Outer) (share (up e b ({ (ix e b zx) with Outer:=(up (ix e b zx).Outer a ({ (ix (ix e b zx).Outer a zU) with Rights:=3}:Slot))}:Mon)) λF=>cond (zck ({r with Mons:=F}:Host) b a<|ix (ix e b zx).Outer a zU) (some [AV.agg<|zbs<|zcl ({r with Mons:=F}:Host) b a<|ix (ix e b zx).Outer a zU]) none) none)<|some [AV.agg<|zbs ({r with Mons:=e}:Host)]) none) none) none) none) none)=some [AV.agg<|zbs<|zeL r b a f]:=(by intro r B d q;obtain⟨S,u⟩:=zcc B d;have w:=zlO (p:=a) B d;unfold zeL;simp only[zZ,zcu,H,cT];cases J:ieq (wand .i64 f 2) 0;{obtain⟨k,rfl,A⟩:=zdP (n:=r.Mons.length) d;have m:ix (zbd r (k:Int) a).Mons (k:Int) mZ={ix r.Mons (k:Int) mZ with Dirty:=up (ix r.Mons (k:Int) mZ).Dirty a true}:=zfm A _ _;have t:k<(zbd r (k:Int) a).Mons.length:=(by simpa [zbd] using A);have z:inb a (ln (ix (zbd r (k:Int) a).Mons (k:Int) mZ).Outer)=true:=(by rw[m];exact zbi (zdQ u.1 j));refine zrf rfl (must (zbi d)<|must (zbi<|zdQ u.2.2.1 j)<|shr<|must z ?_);unfold opened;show (cond (cond (enough (ix (ix (zbd r (k:Int) a).Mons (k:Int) mZ).Outer a sZ).Rights 2) false true) _ _)=_;have G:(cond (enough (ix (ix (zbd r (k:Int) a).Mons (k:Int) mZ).Outer a sZ).Rights 2) false true)=ieq (wand .i64 (ix (ix (zbd r (k:Int) a).Mons (k:Int) mZ).Outer a sZ).Rights 2) 0:=(by rw[m];show (cond (enough (ix (ix r.Mons (k:Int) mZ).Outer a sZ).Rights 2) false true)=ieq (wand .i64 (ix (ix r.Mons (k:Int) mZ).Outer a sZ).Rights 2) 0;rw[q];cases ieq (wand .i64 (ix (ix r.Mons (k:Int) mZ).Outer a sZ).Rights 2) 0<;>rfl);rw[G];cases v:ieq (wand .i64 (ix (ix (zbd r (k:Int) a).Mons (k:Int) mZ).Outer a sZ).Rights 2) 0;{rfl};{have L:Shape {zbd r (k:Int) a with Mons:=up (zbd r (k:Int) a).Mons (k:Int) {ix (zbd r (k:Int) a).Mons (k:Int) mZ with Outer:=up (ix (zbd r (k:Int) a).Mons (k:Int) mZ).Outer a ⟨(ix (ix (zbd r (k:Int) a).Mons (k:Int) mZ).Outer a sZ).Page,3⟩}}:=(by obtain⟨D,E⟩:=zcc w (zew d);exact zf0 w ⟨by simpa using D.1,D.2⟩ ⟨by simpa using E.1,E.2⟩);have O:∀(x y:Mon),hasB (k:Int) (ln<|up (up r.Mons (k:Int) x) (k:Int) y)=true:=λx y=>(by simpa [ln] using d);refine must rfl (must z<|shr<|must (zds ⟨L,O _ _⟩) ?_);exact congrArg (λx=>some [AV.agg<|zbs x]) (zlt (h:=zbd r (k:Int) a) (p:=a) (s:=⟨(ix (ix (zbd r (k:Int) a).Mons (k:Int) mZ).Outer a sZ).Page,3⟩) t (by rw[m];exact u.2.2.2))}};{rfl});refine⟨0,?_⟩;unfold zoO ziK mended oN nB;conv=>zeta
 refine must (zbi i) (must (zbi<|zdQ I.1 j) ?_);cases J:ieq (ix (ix c.Mons b mZ).Outer a sZ).Page (-1);{exact g c l.1 i (zFt C.lo C.hi)};{obtain⟨v,K⟩:=zhL (p:=a) l i j;exact must rfl (must (zds ⟨l,i,j⟩)<|g _ v K (by rw[zve l i j];rfl))}
theorem zvp:zcO Try.prog 19 [true,true,true,true] zjS:=by refine zdx (zf5 zfQ zL zyc zs5) (zhV (by kernel_rfl)) ?_;intro g a b j i f h;have d:=zeN f;unfold zjS at h;split at h;{obtain⟨e,rfl,rfl⟩:=zfG h;obtain⟨N,c⟩:=zzb _ _ _ _ (by exact d) e;exact⟨rfl,_,N,12,(zAX N _ _ _ _ ).trans c⟩};{cases h}
def zHB:zb7:=[(19,[true,true,true,true],zjS)]++zC1
theorem zif:zbI zHB:=zfV zyc (by
 intro x a;simp only[qL,jT,or_false]at a;rcases a with rfl
 .exact zvp)
def zGS:zdf:=zzD
theorem zs6:zcx zGS:=zs5
theorem zy4 {h:Host}(b:zbR h=true):h.Memory.length=12:=by unfold zbR at b;simp only[zcy]at b;have a:=b.1;unfold zfK at a;simp only[zcy]at a;have:ln h.Memory=12:=qP a.2;simp only[ln] at this;omega
theorem zfx {h:Host}(a:zbR h=true):∀x∈h.Mons,zcH x=true:=by unfold zbR at a;simp only[zcy]at a;exact zq2 _ _ a.2.2.2.2
theorem zpE {x:Mon}(a:zcH x=true):ShM x:=by have e:=znp (zeG a);unfold zcH at a;simp only[zcy]at a;have b:ln x.Tables=ln x.Guests:=qP a.2.1;have c:ln x.Out=8:=qP a.2.2.2.1;have d:ln x.Dirty=8:=qP a.2.2.2.2.1;simp only[ln] at *;exact⟨by omega,by omega,by omega,by omega⟩
theorem zq3 {h:Host}(b:SmH h)(a:zbR h=true):Fit h:=by refine⟨⟨b,λx c=>zpE (zfx a x c)⟩,by rw[zy4 a];decide,?_⟩;unfold zbR at a;simp only[zcy]at a;have:=zvr _ _ rfl a.2.2.2.2;omega
theorem zrd {x:Mon}(b:zcH x=true){p:Int}(c:hasB p 8=true):SlotFit (ix x.Outer p sZ):=by have a:=zeG b;unfold zcg at a;simp only[zcy]at a;exact zzt (qJ.1 a.1 _<|zb8 (zdQ (zpE b).1 c) _)
abbrev gZ:Guest:=Ty.dflt .guest
@[simp] abbrev zf8 (h:Host)(m:Int):Bool:=pc (zdW h)
@[simp] abbrev zcA (h:Host)(m:Int):Mon:=bif hasB m (ln h.Mons) then ix h.Mons m mZ else mZ
@[simp] abbrev zhq (h:Host)(m:Int):Bool:=hasB m (ln h.Mons)
def zoz:Run:=rF2 dH dI λb c=>(zf8 b c,[aT .mon<|zcA b c,aB<|zhq b c])
def zti (N:Nat)(a:Host)(b:Int):OA:=
 let c:=ix a.Mons b zx; (oN (zZ b<|ln a.Mons)<|cond (nB<|zcf b<|ln a.Mons) (some [aT .mon (⟨[],[],[],[],[],0,0,[],0⟩:Mon),aB false])<|oN (inb b<|ln a.Mons)<|oN (zeE c)<|some [aT .mon<|zeV c,aB true])
theorem zxh (a:Host)(b:Int)(d:zf8 a b=true):∃N,zti N a b=some [aT .mon<|zcA a b,aB<|zhq a b]:=by
 have e:=(zh7 a).1 (zbm.1 d);refine⟨0,?_⟩;unfold zti zcA zhq oN nB;conv=>zeta
 refine must rfl ?_;rw[show zcf b (ln a.Mons)=hasB b (ln a.Mons) from rfl];cases c:hasB b (ln a.Mons);{rfl};{exact zrf rfl (must (zbi c) (must (zds<|e.2.1.2 _<|zb8 c _) rfl))}
theorem zt5:u3 60 zoz:=kF2 zfQ zL zif zs6 (zF []) zxh
def zbx (h:Host)(m:Int):Nat->Nat->List (List Int)
 | 0,_=>[]
 |n+1,i=>zbj h m (i:Int)::zbx h m n (i+1)
theorem zlp (h:Host)(m:Int):∀(n i:Nat),(zbx h m n i).length=n
 | 0,_=>rfl
 |n+1,i=>by simp[zbx,zlp h m n]
def zT (h:Host)(m:Int):Bare:=bif hasB m (ln h.Mons) then ⟨zbx h m 8 0,(ix h.Mons m mZ).Guests,(ix h.Mons m mZ).Outs,(ix h.Mons m mZ).Pending⟩ else ⟨[],[],[],0⟩
theorem ztz {c:Type}(h:Host)(m:Int)(K:List (List Int)->Option c):∀(n i:Nat) (a:List (List Int)),a.length+n<=2147483648->
 goN (λi a b=>bif few (ln<|ap a [zbj h m (i:Int)]) then b (ap a [zbj h m (i:Int)]) else none) K n i a=K (a++zbx h m n i)
 | 0,_,a,_=>by simp[goN,zbx]
 |n+1,i,a,d=>by simp only[goN,zbx];rw[zfw (by simp[ap];omega),cT,ztz h m K n (i+1) _ (by simp[ap];omega)];simp[ap]
@[simp] abbrev zfT (h:Host)(m:Int):Bare:=zT h m
def zEq:zB:=[(60,zoz)]++zkW
theorem zu8:zo zEq:=zk zt5 zfQ
def zm9:Run:=rF2 dH dI λb c=>(zf8 b c,[aT .bare<|zfT b c])
def zp8 (N:Nat)(b:Host)(c:Int):OA:=
 (oN (zf8 b c)<|cond (nB<|zhq b c) (some [aT .bare (⟨[],[],[],0⟩:Bare)])<|iter (σ:=(Int×Int×Int×Int×lM×lN×lE×lE×lM×lG×(List Int)×lM×lG×(List Int)×Unit)) N (λh a=>let g:=a.2.2.2.2.2.2.2.2.2.2.2.2.1;let f:=a.2.2.2.2.2.2.2.2.2.2.2.2.2.1;let d:=(⟨a.2.2.2.2.1,a.2.2.2.2.2.1,a.2.2.2.2.2.2.1,a.2.2.2.2.2.2.2.1⟩:Host);let e:=ap a.2.2.2.2.2.2.2.2.2.2.2.1 [ze9 d a.1 a.2.1]; (cond (ilt a.2.1 8) (oN (zgH d a.1 a.2.1)<|oN (few<|ln e)<|h (a.1,zQ .i64 a.2.1 1,a.2.2.1,a.2.2.2.1,a.2.2.2.2.1,a.2.2.2.2.2.1,a.2.2.2.2.2.2.1,a.2.2.2.2.2.2.2.1,a.2.2.2.2.2.2.2.2.1,a.2.2.2.2.2.2.2.2.2.1,a.2.2.2.2.2.2.2.2.2.2.1,e,g,f,()))<|some [aT .bare (⟨a.2.2.2.2.2.2.2.2.2.2.2.1,g,f,a.2.2.2.1⟩:Bare)])) (c,0,0,(zcA b c).Pending,b.Memory,b.Mons,b.Buffer,b.IoBuffer,[],[],[],[],(zcA b c).Guests,(zcA b c).Outs,()))
def zwC:=zF [(36,0,{n:=39,tm:=[(1,ti),(2,.lp 0 0),(4,.lp 1 0),(7,.lp 2 0),(8,ti)],lo:=[(0,[.sl 0 [],.sl 1 [],.sl 2 [],.sl 3 []]),(1,[.sl 4 [],.sl 5 [],.sl 6 [],ti]),(2,[.sl 7 [],.sl 8 [],.sl 9 [],ti])],ro:=[(0,.sl .int,false),(1,.mon,false),(2,.entry,false),(3,.entry,false),(4,.sl .int,true),(5,.guest,true),(6,.int,true),(7,.sl .int,true),(8,.guest,true),(9,.int,true)]})]
theorem zvN (a:Host)(b:Int)(f:zf8 a b=true):∃N,zp8 N a b=some [aT .bare<|zfT a b]:=by
 have e:=zbm.1 f;refine zcG λN d=>?_;unfold zp8 zfT zT oN nB;conv=>zeta
 refine must (zds e) ?_;rw[show zhq a b=hasB b (ln a.Mons) from rfl];cases g:hasB b (ln a.Mons);{rfl};{refine zrf rfl ?_;refine(zCJ 8 (λi (t:lM)=>(b,(i:Int),0,(zcA a b).Pending,a.Memory,a.Mons,a.Buffer,a.IoBuffer,[],[],[],t,(zcA a b).Guests,(zcA a b).Outs,())) _ (λi (c:List (List Int)) j=>bif few (ln<|ap c [zbj a b (i:Int)]) then j (ap c [zbj a b (i:Int)]) else none) (λ(t:lM)=>some [.agg<|Ty.cells .bare (⟨t,(zcA a b).Guests,(zcA a b).Outs,(zcA a b).Pending⟩:Bare)]) (λi h t rec=>?_) (λt rec=>?_) _ ([])<|d (by decide)).trans ?_;{simp only [show ilt (i:Int) 8=true from qT (by omega),zX h (show 8<=big by decide),cT];exact must (zds e) rfl};{simp only [show ilt ((8:Nat):Int) 8=false from qW (by omega),cF]};rw[ztz a b _ 8 0 [] (by decide)];simp only[zcA,g,cT,jO]}
theorem zsi:u3 36 zm9:=kF2 zu8 zL zif zs6 zwC zvN
theorem zxl:zbL zly=true:=by decide
theorem zxG {p:Nat->Bool}:∀{n i q:Nat},zhA p n i=true->i<=q->q<i+n->p q=true
 | 0,i,q,_,a,b=>by omega
 |n+1,i,q,h,a,b=>by simp only[zhA,qD]at h;by_cases c:i=q;{subst c;exact h.1};{exact zxG h.2 (by omega) (by omega)}
theorem zA5 {h:Host}{m:Int}(e:zbR h=true)(l:hasB m (ln h.Mons)=true){p:Int}(j:hasB p 8=true):zbL (zbj h m p)=true:=by have i:=zfx e _ (zb8 l mZ);have s:=zpE i;have f:h.Memory.all zbL=true:=(by unfold zbR at e;simp only[zcy]at e;have b:=e.1;unfold zfK at b;simp only[zcy]at b;exact b.1);unfold zbj;rw[l,j];simp only[cT];have t:zbo (ix h.Mons m mZ).Outer p=ix (ix h.Mons m mZ).Outer p sZ:=(by unfold zbo;rw[zdQ s.1 j];rfl);rw[t];have d:∀(g:List (List Int)) (q:Int),(hasB q (ln g)=true->zbL (ix g q [])=true)->zbL (zbl g q)=true:=(by intro g q k;unfold zbl;cases b:hasB q (ln g);{exact zxl};{exact k b});cases c:ine (ix (ix h.Mons m mZ).Outer p sZ).Page (-1);{refine d _ _ (λk=>?_);obtain⟨q,rfl,u⟩:=zdP (n:=8) j;have a:fits (ix h.Mons m mZ) q=true:=(by unfold zcH at i;simp only[zcy]at i;exact zxG i.2.2.2.2.2.2.2.2.2.2 (by omega) (by omega));unfold fits zga at a;have r:zb9 (ix (ix h.Mons m mZ).Outer (q:Int) sZ) noSlot=true:=(by rw[(zrd (zfx e _<|zb8 l mZ) j).no];rw[zxZ]at c;cases b:ieq (ix (ix h.Mons m mZ).Outer (q:Int) sZ).Page (-1);{rw [b]at c;cases c};{rfl});rw[r]at a;exact a};{exact d _ _ (λk=>qJ.1 f _ (zb8 k _))}
theorem ztO {h:Host}{m:Int}(a:zbR h=true)(b:hasB m (ln h.Mons)=true):∀(n i:Nat),i+n<=8->(zbx h m n i).all zbL=true
 | 0,_,_=>rfl
 |n+1,i,c=>by simp only[zbx,k5,qD];exact⟨zA5 a b<|qT (by omega),ztO a b n (i+1) (by omega)⟩
theorem zwU {h:Host}{m:Int}(c:zbR h=true)(b:hasB m (ln h.Mons)=true):zcp (zT h m)=true:=by have a:=zfx c _ (zb8 b mZ);unfold zcH at a;simp only[zcy]at a;unfold zT zcp zfK;rw[b];simp only[cT,a.2.2.2.2.2.2.2.2.2.1,ztO c b 8 0 (by decide),ln,zlp];simp only[ln]at a;rw[a.1,a.2.2.2.2.2.1,a.2.2.2.2.2.2.1];rfl
def zEr:zB:=[(36,zm9)]++zEq
theorem zCn:zo zEr:=zk zsi zu8
def zcR (l:List Mon):List (List Guest):=l.map λx=>x.Guests
theorem zqT {l:List Mon}{m:Int}{x:Mon}(b:hasB m (ln l)=true)(c:x.Guests=(ix l m mZ).Guests):zcR (up l m x)=zcR l:=by obtain⟨k,rfl,a⟩:=zdP (n:=l.length) b;unfold zcR up;rw[List.map_set,uH,c,zbt a];have:=@List.set_getElem_self _ (l.map λx=>x.Guests) k (by simpa using a);simpa using this
theorem zG8 {l b:List Mon}(h:zcR b=zcR l)(m:Int):(ix b m mZ).Guests=(ix l m mZ).Guests:=by unfold zcR at h;have a:(b.map λx=>x.Guests)[m.toNat]?=(l.map λx=>x.Guests)[m.toNat]?:=(by rw[h]);rw[qM,qM]at a;unfold ix;simp only[jZ];cases c:b[m.toNat]? <;> cases d:l[m.toNat]? <;> rw [c,d]at a<;>simp at a ⊢;exact a
theorem zk5 {h:Host}{m p:Int}{s:Slot}(a:hasB m (ln h.Mons)=true):zcR (zbw h m p s).Mons=zcR h.Mons:=by rw[(zeY h m p s).1];exact zqT a rfl
theorem zFw {h:Host}{m p:Int}(a:hasB m (ln h.Mons)=true):zcR (zca h m p).Mons=zcR h.Mons:=(zk5 (h:=zcr h m p)<|zew a).trans (zqT a rfl)
theorem zFv {h:Host}(b:Fit h):zcR (zbO h).Mons=zcR h.Mons:=by unfold zbO;cases a:ieq (ln<|zbg h) 0;{rfl};{exact zFw (zsU b a).1}
theorem zy2 {h:Host}{m p:Int}(a:Fit h)(c:hasB m (ln h.Mons)=true):zcR (fetched h m p).Mons=zcR h.Mons:=by have b:=ziS a c;exact((zk5 (h:=landing (zbO h) m p (ix (zbg<|zbO h) 0 0))<|zew b).trans (zqT b rfl)).trans (zFv a)
theorem zvn {h:Host}{m p n:Int}(b:hasB m (ln h.Mons)=true):zcR (zeL h m p n).Mons=zcR h.Mons:=by have a:zcR (zbd h m p).Mons=zcR h.Mons:=zqT b rfl;unfold zeL;cases ieq (wand .i64 n 2) 0;{unfold opened;cases ieq (wand .i64 (ix (ix (zbd h m p).Mons m mZ).Outer p sZ).Rights 2) 0;{exact a};{exact(zk5 (h:=zbd h m p)<|zew b).trans a}};{rfl}
theorem zAI {h:Host}{m p n:Int}(b:Fit h)(a:hasB m (ln h.Mons)=true)(c:hasB p 8=true):zcR (mended h m p n).Mons=zcR h.Mons:=by unfold mended;cases ieq (ix (ix h.Mons m mZ).Outer p sZ).Page (-1);{exact zvn a};{exact(zvn (zhL b a c).2).trans (zy2 b a)}
theorem zGy {l a:List Mon}(h:zcR a=zcR l):a.length=l.length:=by have:=congrArg List.length h;simpa [zcR] using this
abbrev kZ:Kept:=Ty.dflt .kept
def zGD (h:Host)(m g:Int):List Slot:=(ix (ix h.Mons m mZ).Guests g gZ).Live
def zAK (h:Host)(m g:Int):Kept:=ix (ix h.Mons m mZ).Tables g kZ
def zyU (h:Host)(m g a:Int):Host:={h with Mons:=up h.Mons m {ix h.Mons m mZ with Tables:=up (ix h.Mons m mZ).Tables g (filled (zAK h m g) (zGD h m g) (ix h.Mons m mZ).Outer a)}}
structure Kp (h r:Host):Prop where
 shape:Shape r
 gs:zcR r.Mons=zcR h.Mons
theorem Kp.has {h r:Host}(k:Kp h r){m:Int}(a:hasB m (ln h.Mons)=true):hasB m (ln r.Mons)=true:=by rw[ln,zGy k.gs];exact a
theorem zzr {h:Host}{m g c:Int}(d:Shape h)(e:hasB m (ln h.Mons)=true)(hg:hasB g (ln (ix h.Mons m mZ).Guests)=true):Shape (zyU h m g c):=by obtain⟨a,b⟩:=zcc d e;have f:hasB g (ln (ix h.Mons m mZ).Tables)=true:=(by rw[ln,b.2.2.2];exact hg);exact zf0 d ⟨a.1,a.2.1,a.2.2.1,a.2.2.2.1,a.2.2.2.2.1,zyn a.2.2.2.2.2<|zzx<|a.2.2.2.2.2.2 _<|zb8 f _⟩ ⟨b.1,b.2.1,b.2.2.1,by simpa using b.2.2.2⟩
structure LookAt (h:Host) (m g q need:Int):Prop where
 fit:Fit h
 hm:hasB m (ln h.Mons)=true
 hg:hasB g (ln (ix h.Mons m mZ).Guests)=true
 hq:hasB q 8=true
 hn:need=1\/need=2
 hs:SlotFit (ix (ix h.Mons m mZ).Outer q sZ)
theorem LookAt.kp {h:Host}{m g q a:Int}(A:LookAt h m g q a):Kp h (mended h m q a):=⟨(zi2 A.fit A.hm A.hq).1,zAI A.fit A.hm A.hq⟩
theorem LookAt.fill {h:Host}{m g q a:Int}(A:LookAt h m g q a)(b:Int):Kp h (zyU (mended h m q a) m g b):=by have k:=A.kp;have hg:hasB g (ln (ix (mended h m q a).Mons m mZ).Guests)=true:=(by rw[zG8 k.gs];exact A.hg);have e:zcR (zyU (mended h m q a) m g b).Mons=zcR (mended h m q a).Mons:=zqT (k.has A.hm) rfl;exact⟨zzr k.shape (k.has A.hm) hg,e.trans k.gs⟩
structure LookF (r:Host) (m g:Int):Prop where
 hm:hasB m (ln r.Mons)=true
 hg:hasB g (ln (ix r.Mons m mZ).Guests)=true
 ht:hasB g (ln (ix r.Mons m mZ).Tables)=true
 hk:SmK (zAK r m g)
 hb:r.Buffer.length<=1048576
 hi:r.IoBuffer.length<=1048576
def zGT:zdf:=zGS
theorem zFX:zcx zGT:=zs6
def zEs:zB:=zEr
theorem zCo:zo zEs:=zCn
def zEt:zB:=zEs
theorem zCp:zo zEt:=zCo
def brought (n a b:Int):Int:=bif ilt n a then a else (cond (ilt b a) a<|zsu n b)
@[simp] abbrev zhl (_ _ _:Int):Bool:=true
@[simp] abbrev zhx (n a b:Int):Int:=brought n a b
def zhI:Run:=rF3 dI dI dI λb c d=>(zhl b c d,[aI<|zhx b c d])
def zn6 (N:Nat)(b a c:Int):OA:=
 (cond (ilt c a) (some [aI a])<|cond (ilt b a) (some [aI a])<|cond (igt b c) (some [aI c])<|some [aI b])
theorem zuh (a b c:Int)(g:zhl a b c=true):∃N,zn6 N a b c=some [aI<|zhx a b c]:=by refine⟨0,?_⟩;unfold zn6;unfold zhx brought zsu;cases d:ilt c b<;>cases e:ilt a b<;>cases f:igt a c<;>simp [igt] at * <;> omega
theorem zjo:u3 31 zhI:=kF3 zkV zL zA zC (zF []) zuh
structure RI (a:List Bare) (i:Nat) (l:List Bare):Prop where
 len:l.length=a.length
 sm:zyA l
 eq:∀k,i<=k->l[k]?=a[k]?
theorem RI.up {a l:List Bare}{i:Nat}(h:RI a i l)(x:Bare)(b:SmB x):RI a (i+1) (up l (i:Int) x):=
 ⟨by rw[zi6];exact h.len,zFU h.sm b,λk c=>by rw[zGx (by omega)];exact h.eq k (by omega)⟩
structure RJ (l:List Bare) (i:Nat) (l':List Bare):Prop where
 len:l'.length=l.length
 sm:SmB (ix l' (i:Int) zGY)
 up:∀x,E.up l' (i:Int) x=E.up l (i:Int) x
theorem RJ.next {l a:List Bare}{i:Nat}(h:RJ l i a)(b:i<l.length)(x:Bare)(c:SmB x):RJ l i (E.up a (i:Int) x):=
 ⟨by rw[zi6];exact h.len,by rw[zfm (by rw[h.len];exact b)];exact c,λy=>by rw[zrK];exact h.up y⟩
def zAr:zB:=zEt
theorem zAs:zo zAr:=zCp
theorem zDh {h:Host}{m:Int}(g:SmH h)(f:hasB m (ln h.Mons)=true):SmB (zT h m):=by
 have b:=g.2.1.2 _ (zb8 f mZ);have e:∀(d:List (List Int)) (q:Int),SmM d->(zbl d q).length<=1048576:=λd q h=>zwl h;have c:∀p:Int,(zbj h m p).length<=1048576:=by intro p;unfold zbj;cases hasB m (ln h.Mons);{exact(by decide:zly.length<=1048576)};{cases hasB p 8;{exact(by decide:zly.length<=1048576)};{simp only [cT];cases ine (zbo (ix h.Mons m zx).Outer p).Page (-1);{exact e _ _ b.2.1};{exact e _ _ g.1}}}
 have j:∀(n i:Nat),∀x∈zbx h m n i,x.length<=1048576:=by
  intro n
  induction n with
  |zero=>intro i x a;cases a
  |succ n k=>intro i x a;rcases qL.1 a with rfl|a;{exact c _};{exact k (i+1) x a}
 unfold zT;rw[f];exact⟨⟨by show (zbx h m 8 0).length<=1048576;rw[zlp];decide,j 8 0⟩,b.2.2.2.1,b.2.2.2.2.1⟩
def zEu:zB:=zAr
theorem zCq:zo zEu:=zAs
def zEv:zB:=[(31,zhI)]++zEu
theorem zCr:zo zEv:=zk zjo zCq
def cnt (l:List Mon):List Nat:=l.map λx=>x.Guests.length
theorem zFb {l a:List Mon}(h:cnt a=cnt l):a.length=l.length:=by have:=congrArg List.length h;simpa [cnt] using this
theorem zGd {l b:List Mon}(h:cnt b=cnt l)(m:Int):(ix b m mZ).Guests.length=(ix l m mZ).Guests.length:=by have a:(cnt b)[m.toNat]?=(cnt l)[m.toNat]?:=(by rw[h]);unfold cnt at a;rw[qM,qM]at a;unfold ix;simp only[jZ];cases c:b[m.toNat]? <;> cases d:l[m.toNat]? <;> rw [c,d]at a<;>simp at a ⊢;exact a
structure Keep (h r:Host):Prop where
 shape:Shape r
 cnt:cnt r.Mons=cnt h.Mons
 mem:r.Memory.length=h.Memory.length
theorem Keep.has {h r:Host}(k:Keep h r){m:Int}(a:hasB m (ln h.Mons)=true):hasB m (ln r.Mons)=true:=by rw[ln,zFb k.cnt];exact a
theorem Keep.hg {h r:Host}(k:Keep h r){m g:Int}(hg:hasB g (ln (ix h.Mons m mZ).Guests)=true):hasB g (ln (ix r.Mons m mZ).Guests)=true:=by rw[ln,zGd k.cnt];exact hg
theorem Keep.trans {a b c:Host}(h:Keep a b)(k:Keep b c):Keep a c:=⟨k.shape,k.cnt.trans h.cnt,k.mem.trans h.mem⟩
structure Same (h r:Host):Prop where
 sm:SmH r
 cnt:cnt r.Mons=cnt h.Mons
 mem:r.Memory.length=h.Memory.length
 st:r=h\/Shape r
theorem Same.trans {a b c:Host}(h:Same a b)(k:Same b c):Same a c:=⟨k.sm,k.cnt.trans h.cnt,k.mem.trans h.mem,by
 rcases k.st with e|e
 .rw [e];exact h.st
 .exact .inr e⟩
def zEw:zB:=[(31,zhI)]++zyO
theorem zCs:zo zEw:=zk zjo zkV
theorem zuP {a b:Bool}(h:(a=true)↔(b=true)):a=b:=by cases a<;>cases b<;>simp_all
@[simp] theorem zHO (x:Int):zi x 0 3=hasB x 4:=zuP (by rw[zeu];unfold hasB;rw[decide_eq_true_iff];omega)
@[simp] theorem zHP (x:Int):zi x 0 7=hasB x 8:=zuP (by rw[zeu];unfold hasB;rw[decide_eq_true_iff];omega)
def zwN (t:List Slot)(p:Int)(s:Slot):List Slot:=bif hasB p (ln t) then up t p s else t
@[simp] theorem zGX (t:List Slot)(p:Int)(s:Slot):(zwN t p s).length=t.length:=by unfold zwN;cases hasB p (ln t)<;>simp
def znz (b:Bare)(g:Int):Bool:=bif zcp b then hasB g (ln b.Guests) else false
def zEx:zB:=zEw
theorem zu9:zo zEx:=zCs
theorem zDu {b:Type}{l:List b}{i:Int}{d:b}(h:hasB i (ln l)=true):up l i (ix l i d)=l:=by obtain⟨k,rfl,a⟩:=zdP (n:=l.length) h;unfold up;rw[zbt a,uH];exact List.set_getElem_self a
def chg (b:Bare)(g:Int)(c:Bool)(x:Guest):Bare:=bif (cond (znz b g) c false) then zni b g x else b
def zrp (p c v:Int):Bool:=bif hasB p 8 then (cond (hasB c 4) (zi v 0 99) false) else false
def zey (b:Bare)(p c v:Int):Bool:=bif zcp b then zrp p c v else false
def zfL (b:Bare)(p c v:Int):Bare:=bif zey b p c v then {b with Memory:=zW b.Memory p c v} else b
@[simp] abbrev ziz (b:Bare)(p c v:Int):Bool:=pc (SmB b)
@[simp] abbrev zc3 (b:Bare)(p c v:Int):Bare:=zfL b p c v
@[simp] abbrev zec (b:Bare)(p c v:Int):Bool:=zey b p c v
def zg3:Run:=rF4 (dT .bare) dI dI dI λb c d e=>(ziz b c d e,[aT .bare<|zc3 b c d e,aB<|zec b c d e])
def zlV (N:Nat)(a:Bare)(b c d:Int):OA:=
 let e:=aT .bare<|zfj a; (oN (ziI a)<|oN (zk7 a)<|cond (nB<|zcT a) (some [e,aB false])<|oN (zZ b 8)<|cond (nB<|zcf b 8) (some [e,aB false])<|oN (zZ c 4)<|cond (nB<|zcf c 4) (some [e,aB false])<|oN (zN d 0 99)<|cond (nB<|zi d 0 99) (some [e,aB false])<|oN (zeT a.Memory b c d)<|some [aT .bare ({ (zfj a) with Memory:=(zen a.Memory b c d)}:Bare),aB true])
theorem zsy (a:Bare)(b c d:Int)(e:ziz a b c d=true):∃N,zlV N a b c d=some [aT .bare<|zc3 a b c d,aB<|zec a b c d]:=by
 have f:=zbm.1 e;have g:_/\_/\_:=f;refine⟨0,?_⟩;unfold zlV oN nB;conv=>zeta
 refine mu (must rfl (brN (λ_=>?_) λ_=>must rfl (brN (λ_=>?_) λ_=>must rfl (brN (λ_=>?_) λ_=>must rfl (brN (λ_=>?_) λ_=>mu ?_)))));all_goals first|rfl|(simp only [*,zc3,zec,zfL,zey,zrp,cT,cF]<;>rfl)|simp_all[Ty.cells,zc3,zec,zfL,zey,zrp]
theorem ziv:u3 18 zg3:=kF4 zu9 zL zA zC (zF []) zsy
def zEy:zB:=zEx
theorem zCt:zo zEy:=zu9
def zEz:zB:=zEy
theorem zCu:zo zEz:=zCt
def zzN:zB:=[(18,zg3)]++zEz
theorem zmn:zo zzN:=zk ziv zCu
theorem zBA {n:Int}(h:(ieq n 4||ieq n 8)=true):n=4\/n=8:=by rcases j9 _ _ ▸ h with h|h;{exact .inl (qP h)};{exact .inr (qP h)}
theorem zAQ {n:Int}(h:(ieq n 8||ieq n 12)=true):n=8\/n=12:=by rcases j9 _ _ ▸ h with h|h;{exact .inl (qP h)};{exact .inr (qP h)}
@[simp] abbrev zeg (n:Int):Bool:=ieq n 4||ieq n 8
@[simp] abbrev zdu (n:Int):List Slot:=List.replicate n.toNat ⟨-1,0⟩
def zg6:Run:=rF1 dI λb=>(zeg b,[aS .slot<|zdu b])
def zuE (N:Nat)(b:Int):OA:=
 (oN (zhl b 0 24)<|iter (σ:=(Int×lS×Unit)) N (λc a=>cond (igt a.1 0) (oN zbG<|oN (few<|ln<|ap a.2.1 [zbf])<|c (wsub .i64 a.1 1,ap a.2.1 [zbf],()))<|some [aS .slot a.2.1]) (zhx b 0 24,[],()))
def zs9:=zF [(32,0,{n:=17,tm:=[(3,.sl 0 []),(4,ti)],lo:=[],ro:=[(0,.slot,true)]})]
theorem zsM (a:Int)(b:zeg a=true):∃N,zuE N a=some [aS .slot<|zdu a]:=by refine⟨30,?_⟩;have h:a=4\/a=8:=zBA b;rcases h with rfl|rfl<;>(change _=_;kernel_rfl)
theorem ziy:u3 32 zg6:=kF1 zmn zL zA zC zs9 zsM
@[simp] abbrev zh5 (n:Int):Bool:=ieq n 8||ieq n 12
@[simp] abbrev ze8 (n:Int):List (List Int):=List.replicate n.toNat [0,0,0,0]
def ziZ:Run:=rF1 dI λb=>(zh5 b,[aS (.sl .int)<|ze8 b])
def zyy (N:Nat)(b:Int):OA:=
 (oN (zhl b 0 24)<|iter (σ:=(Int×lM×Unit)) N (λc a=>cond (igt a.1 0) (oN (cond (few 4) (ieq 4 4) false)<|oN (few<|ln<|ap a.2.1 [rp 4 0])<|c (wsub .i64 a.1 1,ap a.2.1 [rp 4 0],()))<|some [aS (.sl .int) a.2.1]) (zhx b 0 24,[],()))
def zwE:=zF [(14,0,{n:=17,tm:=[(3,.sl 0 []),(4,ti)],lo:=[],ro:=[(0,.sl .int,true)]})]
theorem zvU (a:Int)(b:zh5 a=true):∃N,zyy N a=some [aS (.sl .int)<|ze8 a]:=by refine⟨30,?_⟩;have h:a=8\/a=12:=zAQ b;rcases h with rfl|rfl<;>(change _=_;kernel_rfl)
theorem zkj:u3 14 ziZ:=kF1 zmn zL zA zC zwE zvU
def zGm:zB:=[(32,zg6),(14,ziZ)]++zzN
theorem zzO:zo zGm:=zk ziy (zk zkj zmn)
def zfb:List Slot:=List.replicate 4 ⟨-1,0⟩
def zct (p:List Ins):Guest:=⟨p,0,0,zfb,zfb,⟨0,0,false⟩,0,⟨0,0,false,0⟩,false,[]⟩
@[simp] abbrev zgG (p:List Ins):Bool:=pc (p.length<=1048576)
@[simp] abbrev zgF (p:List Ins):Guest:=zct p
def zkH:Run:=rF1 (dS .ins) λb=>(zgG b,[aT .guest<|zgF b])
def zl8 (N:Nat)(a:lI):OA:=
 (oN (few<|ln<|ap [] a)<|oN (zeg 4)<|oN (zeg 4)<|some [aT .guest (⟨ap [] a,0,0,zdu 4,zdu 4,⟨0,0,false⟩,0,⟨0,0,false,0⟩,false,[]⟩:Guest)])
theorem zsL (a:List Ins)(b:zgG a=true):∃N,zl8 N a=some [aT .guest<|zgF a]:=by have c:=zbm.1 b;refine⟨0,?_⟩;unfold zl8 oN;refine mu (must rfl (must rfl ?_));first|rfl|(simp only [*,zgF,zct,zfb,cT,cF]<;>rfl)|simp_all[Ty.cells,zgF,zct,zfb]
theorem zpp:u3 33 zkH:=kF1 zzO zL zA zC (zF []) zsL
def zCS:List (List Int):=List.replicate 8 [0,0,0,0]
def zF7 (a:List (List Ins)):Prop:=a.length<=1048576/\∀p∈a,p.length<=1048576
theorem ztE {d c j:Type}(m:Nat)(f:d->c)(K:List c->Option j):∀(l:List d) (i:Nat) (a:List c),a.length+l.length<=2147483648->
 goL (λ(i:Nat) x a k=>bif ilt (i:Int) (m:Int) then (cond (few<|ln<|ap a [f x]) (k<|ap a [f x]) none) else K a) K l i a=K (a++(l.take<|m-i).map f)
 |[],i,a,_=>by simp[goL]
 |x::l,i,a,g=>by simp only[qU]at g;have e:few (ln<|ap a [f x])=true:=zfw (by simp[ap];omega);by_cases h:i<m;{have b:ilt (i:Int) (m:Int)=true:=qT (by omega);simp only[goL,b,e,cT];rw[ztE m f K l (i+1) (ap a [f x]) (by simp[ap];omega)];rw[show m-i=m-(i+1)+1 by omega];simp[ap]};{have b:ilt (i:Int) (m:Int)=false:=qW (by omega);simp only[goL,b,cF];rw[show m-i=0 by omega];simp}
def zzT:zB:=[(18,zg3),(14,ziZ)]++zEv
theorem zzU:zo zzT:=zk ziv (zk zkj zCr)
def zqo (x:Mon)(b:Bare):Mon:={x with Guests:=b.Guests,Pending:=b.Pending}
def zjf (h:Host)(m:Int)(b:Bare):Host:={h with Mons:=up h.Mons m (zqo (ix h.Mons m mZ) b)}
theorem zGV {l:List Mon}{m:Int}(a:hasB m (ln l)=true)(b:Bare):inb m (ln<|up l m {ix l m mZ with Guests:=b.Guests})=true/\
 up (up l m {ix l m mZ with Guests:=b.Guests}) m {ix (up l m {ix l m mZ with Guests:=b.Guests}) m mZ with Pending:=b.Pending}=up l m (zqo (ix l m mZ) b):=by
 obtain⟨k,rfl,c⟩:=zdP (n:=l.length) a;refine⟨zbi (by rw[ln,zi6];exact a),?_⟩
 rw[zrK,zfm c];rfl
def zzV:zB:=zzT
theorem zzW:zo zzV:=zzU
def zHm:zdf:=zGT
theorem zlv:zcx zHm:=zFX
structure SameB (b c:Bare):Prop where
 g:b.Guests=c.Guests
 p:b.Pending=c.Pending
 o:zcp b=zcp c
theorem SameB.at {b c:Bare}(h:SameB b c)(g:Int):gAt b g=gAt c g:=by unfold gAt;rw[h.g]
theorem SameB.has {b c:Bare}(h:SameB b c)(g:Int):znz b g=znz c g:=by unfold znz;rw[h.g,h.o]
theorem back_eq {h:Host}{m:Int}{b c:Bare}(hg:b.Guests=c.Guests)(a:b.Pending=c.Pending):zjf h m b=zjf h m c:=by unfold zjf zqo;rw[hg,a]
theorem zzM {h:Host}{m:Int}(a:hasB m (ln h.Mons)=true):zjf h m (zT h m)=h:=by unfold zjf zqo zT;rw[a,cT];simp only;rw[zDu a]
def zzX:zB:=zzV
theorem zzY:zo zzX:=zzW
theorem zos {h:Host}{m p:Int}:(zdc h m p=true)↔zbR h=true/\hasB m (ln h.Mons)=true/\hasB p 8=true:=by unfold zdc;cases zbR h<;>cases hasB m (ln h.Mons)<;>simp
def zzZ:zB:=zzX
theorem zz0:zo zzZ:=zzY
def zz1:zB:=zzZ
theorem ztp:zo zz1:=zz0
def zrq (h:Host)(m p c v:Int):Host:={mended h m p 2 with Memory:=zW (mended h m p 2).Memory (ix (ix (mended h m p 2).Mons m mZ).Outer p sZ).Page c v}
def zbB (h:Host)(m p c v:Int):Bool:=bif zdc h m p then (cond (hasB c 4) (zi v 0 99) false) else false
def zcS (h:Host)(m p c v:Int):Host:=bif zbB h m p c v then zrq h m p c v else h
@[simp] abbrev ziE (h:Host)(m p c v:Int):Bool:=pc (zdW h)
@[simp] abbrev zgp (h:Host)(m p c v:Int):Host:=zcS h m p c v
@[simp] abbrev ziD (h:Host)(m p c v:Int):Bool:=zbB h m p c v
def zEO (H:Host)(m p c v:Int)(o:Host->Ans):OA:=
 bif pc (zzH H m p 2) then (cond (inb m<|ln (mended H m p 2).Mons) (cond (inb p<|ln (ix (mended H m p 2).Mons m mZ).Outer) (cond (pc<|SmM (mended H m p 2).Memory) (some<|o<|zrq H m p c v) none) none) none) else none
theorem zDd {h:Host}{m p c v:Int}{o:Host->Ans}(j:SmH h)(i:zdc h m p=true):zEO h m p c v o=some (o<|zrq h m p c v):=by obtain⟨g,b,a⟩:=zos.1 i;have f:=zq3 j g;obtain⟨d,e⟩:=zi2 (n:=2) f b a;unfold zEO;refine must (zb3 ⟨f,b,a,.inr rfl,zrd (zfx g _<|zb8 b mZ) a⟩) (must (zbi e)<|must (zbi ?_) (must (zb3 d.1.1) rfl));rw[ln,(d.2 _<|zb8 e mZ).1];exact a
theorem zA8 {h:Host}{m p c v:Int}(a:hasB m (ln h.Mons)=true):zjf h m (zfL (zT h m) p c v)=h:=by have e:zjf h m (zfL (zT h m) p c v)=zjf h m (zT h m):=(by refine back_eq ?_ ?_<;>unfold zfL<;>cases zey (zT h m) p c v<;>rfl);rw[e];exact zzM a
theorem zFI {h:Host}{m p c v:Int}(a:zbR h=true)(b:hasB m (ln h.Mons)=true):zey (zT h m) p c v=zbB h m p c v:=by unfold zey zbB zrp zdc;rw[zwU a b,a,b];cases hasB p 8<;>rfl
def zg4:Run:=rF5 dH dI dI dI dI λb c d e f=>(ziE b c d e f,[aH<|zgp b c d e f,aB<|ziD b c d e f])
def zlX (N:Nat)(c:Host)(a b:Int)(e f:Int):OA:=
 let l:=zc3 (zfT c a) b e f;let d:=zfk c;let i:=ziK d a b 2;let n:=(ix i.Mons a zx).Outer;let q:=(ix n b zU).Page;let g:=zec (zfT c a) b e f; (oN (zed c)<|oN (zhW c)<|cond (nB<|zgT c) (some [aH d,aB false])<|oN (zZ a<|ln c.Mons)<|cond (nB<|zcf a<|ln c.Mons) (some [aH d,aB false])<|oN (zf8 c a)<|oN (ziz (zfT c a) b e f)<|cond g (oN (zdy l.Guests)<|oN (inb a<|ln d.Mons)<|share (up d.Mons a ({ (ix d.Mons a zx) with Guests:=(zdE l.Guests)}:Mon)) λj=>oN (inb a<|ln j)<|share (up j a ({ (ix j a zx) with Pending:=l.Pending}:Mon)) (λr=>let k:=({d with Mons:=r}:Host);let h:=ziK k a b 2;let m:=(ix h.Mons a zx).Outer;let p:=(ix m b zU).Page; (cond g (oN (zle k a b 2)<|oN (inb a<|ln h.Mons)<|oN (inb b<|ln m)<|oN (zeT h.Memory p e f)<|some [aH ({h with Memory:=(zen h.Memory p e f)}:Host),aB g])<|some [aH k,aB g])))<|cond g (oN (zle d a b 2)<|oN (inb a<|ln i.Mons)<|oN (inb b<|ln n)<|oN (zeT i.Memory q e f)<|some [aH ({i with Memory:=(zen i.Memory q e f)}:Host),aB g])<|some [aH d,aB g])
theorem zsA (a:Host)(d e:Int)(f g:Int)(p:zb1 big [aH a,aI d,aI e,aI f,aI g])(k:ziE a d e f g=true):∃N,zlX N a d e f g=some [aH<|zgp a d e f g,aB<|ziD a d e f g]:=by
 have q:=(zh7 a).1 (zbm.1 k);refine⟨0,?_⟩;unfold zlX zgp ziD zcS oN nB;conv=>zeta
 refine must k (must rfl ?_);rw[show zgT a=zbR a from rfl];cases m:zbR a;{unfold zbB zdc;rw[m];rfl};{refine zrf rfl (must rfl ?_);rw[show zcf d (ln a.Mons)=hasB d (ln a.Mons) from rfl];cases h:hasB d (ln a.Mons);{unfold zbB zdc;rw[m,h];rfl};{have i:=zDh q h;have p:SmB (zc3 (zT a d) e f g):=(by show SmB (zfL _ _ _ _);unfold zfL;cases zey (zT a d) e f g;{exact i};{exact⟨zpJ i.1,i.2⟩});refine zrf rfl (must k<|must (zb3 i) ?_);rw[show zec (zfT a d) e f g=zbB a d e f g from zFI m h];cases l:zbB a d e f g;{rfl};{have t:zdc a d e=true:=(by unfold zbB at l;cases u:zdc a d e;{rw [u]at l;cases l};{rfl});obtain⟨r,s⟩:=zGV h (zc3 (zT a d) e f g);refine must rfl (must (zb3 p.2.1)<|must (zbi h)<|shr<|must r<|shr ?_);rw[show zx=mZ from rfl,s];have j:({zfk a with Mons:=up (zfk a).Mons d (zqo (ix (zfk a).Mons d mZ)<|zc3 (zT a d) e f g)}:Host)=a:=zA8 h;have n:=zDd (c:=f) (v:=g) (o:=λH=>[.agg<|zbs H,.one<|.b true]) q t;refine must rfl ?_;rw[j];exact(show _=_ from n)}}}
theorem ziw:u3 7 zg4:=hF5 ztp zL zif zlv (zF []) zsA
def zz2:zB:=[(7,zg4)]++zz1
theorem zz3:zo zz2:=zk ziw ztp
def zz4:zB:=zz2
theorem zz5:zo zz4:=zz3
def zz6:zB:=zz4
theorem zz7:zo zz6:=zz5
def zz8:zB:=[(32,zg6),(33,zkH)]++zz6
theorem ztq:zo zz8:=zk ziy (zk zpp zz7)
def zeF:Kept:=⟨rp 4 false,zfb⟩
@[simp] abbrev zjW (n:Int):Bool:=ieq n 4
@[simp] abbrev zjG (n:Int):Kept:=zeF
def zlN:Run:=rF1 dI λb=>(zjW b,[aT .kept<|zjG b])
def zwQ (N:Nat)(b:Int):OA:=
 let a:=ln<|zdu b; (oN (zeg b)<|oN (cond (few a) (ieq a a) false)<|some [aT .kept (⟨rp a false,zdu b⟩:Kept)])
theorem zuj (a:Int)(b:zjW a=true):∃N,zwQ N a=some [aT .kept<|zjG a]:=by refine⟨0,?_⟩;have h:a=4:=qP b;subst h;change _=_;kernel_rfl
theorem zq0:u3 34 zlN:=kF1 ztq zL zif zlv (zF []) zuj
def zz9:zB:=[(34,zlN)]++zz8
theorem ztr:zo zz9:=zk zq0 ztq
def zi4:List Slot:=List.replicate 8 ⟨-1,0⟩
def zdn (a:List (List Ins)):Mon:=⟨zi4,zCS,rp 8 false,(a.take 2).map zct,[],0,0,(a.take 2).map λ_=>zeF,0⟩
theorem zrb {d a b q:Type}(m:Nat)(f:d->a)(g:d->b)(K:List a×List b->Option q):∀(l:List d) (i:Nat) (u:List a×List b),u.1.length+l.length<=2147483648->u.2.length+l.length<=2147483648->
 goL (λ(i:Nat) x (u:List a×List b) k=>bif ilt (i:Int) (m:Int) then (cond (few<|ln<|ap u.1 [f x]) (cond (few<|ln<|ap u.2 [g x]) (k (ap u.1 [f x],ap u.2 [g x])) none) none) else K u) K l i u=K (u.1++(l.take<|m-i).map f,u.2++(l.take<|m-i).map g)
 |[],i,u,_,_=>by simp[goL]
 |x::l,i,u,n,p=>by simp only[qU]at n p;have e:few (ln<|ap u.1 [f x])=true:=zfw (by simp[ap];omega);have j:few (ln<|ap u.2 [g x])=true:=zfw (by simp[ap];omega);by_cases h:i<m;{have c:ilt (i:Int) (m:Int)=true:=qT (by omega);simp only[goL,c,e,j,cT];rw[zrb m f g K l (i+1) _ (by simp[ap];omega) (by simp[ap];omega)];rw[show m-i=m-(i+1)+1 by omega];simp[ap]};{have c:ilt (i:Int) (m:Int)=false:=qW (by omega);simp only[goL,c,cF];rw[show m-i=0 by omega];simp}
def zAU (u:List Guest×List Kept):OA:=some [AV.agg<|Ty.cells .mon (⟨zi4,zCS,rp 8 false,u.1,[],0,0,u.2,0⟩:Mon)]
@[simp] abbrev zh6 (a:List (List Ins)):Bool:=pc (zF7 a)
@[simp] abbrev zpG (a:List (List Ins)):Mon:=zdn a
def zne:Run:=rF1 (dS<|.sl .ins) λb=>(zh6 b,[aT .mon<|zpG b])
def zqf (N:Nat)(k:lP):OA:=
 (oN (zeg 8)<|oN (zh5 8)<|oN (cond (few 8) (ieq 8 8) false)<|iter (σ:=(Int×Int×Int×Int×Int×Int×Int×lP×lS×lM×lB×lG×(List Int)×lK×lS×lM×lB×lG×(List Int)×lK×Unit)) N (λl a=>let j:=a.2.2.2.2.2.2.2.2.2.2.2.2.2.2.1;let i:=a.2.2.2.2.2.2.2.2.2.2.2.2.2.2.2.1;let h:=a.2.2.2.2.2.2.2.2.2.2.2.2.2.2.2.2.1;let g:=a.2.2.2.2.2.2.2.2.2.2.2.2.2.2.2.2.2.1;let f:=a.2.2.2.2.2.2.2.2.2.2.2.2.2.2.2.2.2.2.1;let b:=a.2.2.2.2.2.2.2.1;let c:=a.2.2.2.2.2.2.2.2.2.2.2.2.2.2.2.2.2.2.2.1;let e:=ap g [zgF<|ix b a.1 []];let d:=aT .mon (⟨j,i,h,g,f,a.2.2.2.2.1,a.2.2.2.2.2.1,c,a.2.2.2.2.2.2.1⟩:Mon); (cond (ilt a.1<|ln b) (cond (ilt a.1 2) (oN (inb a.1<|ln b)<|oN (zgG<|ix b a.1 [])<|oN (few<|ln e)<|oN (zjW 4)<|oN (few<|ln<|ap c [zjG 4])<|l (zQ .i64 a.1 1,a.2.1,a.2.2.1,a.2.2.2.1,a.2.2.2.2.1,a.2.2.2.2.2.1,a.2.2.2.2.2.2.1,b,a.2.2.2.2.2.2.2.2.1,a.2.2.2.2.2.2.2.2.2.1,a.2.2.2.2.2.2.2.2.2.2.1,a.2.2.2.2.2.2.2.2.2.2.2.1,a.2.2.2.2.2.2.2.2.2.2.2.2.1,a.2.2.2.2.2.2.2.2.2.2.2.2.2.1,j,i,h,e,f,ap c [zjG 4],()))<|some [d])<|some [d])) (0,0,0,0,0,0,0,k,[],[],[],[],[],[],zdu 8,ze8 8,rp 8 false,[],[],[],()))
def zwF:=zF [(15,0,{n:=36,tm:=[(0,.sl 0 []),(2,.lp 0 0),(3,.lp 1 0),(4,ti)],lo:=[(0,[.sl 1 [],.sl 2 [],.sl 3 [],.sl 4 [],.sl 5 [],ti,ti,.sl 6 [],ti]),(1,[.sl 7 [],.sl 8 [],.sl 9 [],.sl 10 [],.sl 11 [],ti,ti,.sl 12 [],ti])],ro:=[(0,.sl .ins,false),(1,.slot,true),(2,.sl .int,true),(3,.bool,true),(4,.guest,true),(5,.int,true),(6,.kept,true),(7,.slot,true),(8,.sl .int,true),(9,.bool,true),(10,.guest,true),(11,.int,true),(12,.kept,true)]})]
theorem zvV (a:List lI)(f:zh6 a=true):∃N,zqf N a=some [aT .mon<|zpG a]:=by
 have e:=zbm.1 f;have c:=zd3 e.1;refine zcG λN d=>?_;unfold zqf oN;conv=>zeta
 refine must rfl (must rfl (must rfl ?_));refine(zbb a (λi (t:lG×lK)=>((i:Int),0,0,0,0,0,0,a,[],[],[],[],[],[],zdu 8,ze8 8,rp 8 false,t.1,[],t.2,())) _ (λi (x:List Ins) (u:List Guest×List Kept) h=>bif ilt (i:Int) ((2:Nat):Int) then (cond (few<|ln<|ap u.1 [zct x]) (cond (few<|ln<|ap u.2 [zeF]) (h (ap u.1 [zct x],ap u.2 [zeF])) none) none) else zAU u) (λ(t:lG×lK)=>some [.agg<|Ty.cells .mon (⟨zdu 8,ze8 8,rp 8 false,t.1,[],0,0,t.2,0⟩:Mon)]) (λi b t rec=>?_) (λt rec=>?_) _ ([],[])<|d c.1).trans ?_;{simp only [zbT b,zbk b,zbt b,zX b c.1,cT];have g:zgG a[i]=true:=zb3 (e.2 _<|jU b);simp only[g,cT];rfl};{simp only [zbC,cF]};exact zrb 2 zct (λ_=>zeF) zAU a 0 ([],[]) (by simpa using c.2) (by simpa using c.2)
theorem zsp:u3 15 zne:=kF1 ztr zL zif zlv zwF zvV
def zAa:zB:=[(15,zne)]++zz9
theorem zts:zo zAa:=zk zsp ztr
def zzd:List (List Int):=List.replicate 12 [0,0,0,0]
def zbW (a:List (List<|List Ins)):Host:=⟨zzd,(a.take 3).map zdn,[],[]⟩
def zyB (a:List (List<|List Ins)):Prop:=a.length<=1048576/\∀p∈a,zF7 p
@[simp] abbrev zjV (a:List (List<|List Ins)):Bool:=pc (zyB a)
@[simp] abbrev zng (a:List (List<|List Ins)):Host:=zbW a
def zxV (t:List Mon):OA:=some [AV.agg<|zbs ⟨zzd,t,[],[]⟩]
def zhJ:Run:=rF1 (dS<|.sl<|.sl .ins) λb=>(zjV b,[aH<|zng b])
def zn7 (N:Nat)(d:lQ):OA:=
 (oN (zh5 12)<|iter (σ:=(Int×lQ×lM×lN×lE×lE×lM×lN×lE×lE×Unit)) N (λe a=>let c:=ap a.2.2.2.2.2.2.2.1 [zpG<|ix a.2.1 a.1 []];let b:=aH (⟨a.2.2.2.2.2.2.1,a.2.2.2.2.2.2.2.1,a.2.2.2.2.2.2.2.2.1,a.2.2.2.2.2.2.2.2.2.1⟩:Host); (cond (ilt a.1<|ln a.2.1) (cond (ilt a.1 3) (oN (inb a.1<|ln a.2.1)<|oN (zh6<|ix a.2.1 a.1 [])<|oN (few<|ln c)<|e (zQ .i64 a.1 1,a.2.1,a.2.2.1,a.2.2.2.1,a.2.2.2.2.1,a.2.2.2.2.2.1,a.2.2.2.2.2.2.1,c,a.2.2.2.2.2.2.2.2.1,a.2.2.2.2.2.2.2.2.2.1,()))<|some [b])<|some [b])) (0,d,[],[],[],[],ze8 12,[],[],[],()))
def zup:=zF [(6,0,{n:=28,tm:=[(0,.sl 0 []),(2,.lp 0 0),(3,.lp 1 0),(4,ti)],lo:=[(0,[.sl 1 [],.sl 2 [],.sl 3 [],.sl 4 []]),(1,[.sl 5 [],.sl 6 [],.sl 7 [],.sl 8 []])],ro:=[(0,.sl<|.sl .ins,false),(1,.sl .int,true),(2,.mon,true),(3,.entry,true),(4,.entry,true),(5,.sl .int,true),(6,.mon,true),(7,.entry,true),(8,.entry,true)]})]
theorem zui (a:List lP)(f:zjV a=true):∃N,zn7 N a=some [aH<|zng a]:=by
 have e:=zbm.1 f;have d:=zd3 e.1;refine zcG λN c=>?_;unfold zn7 oN;conv=>zeta
 refine must rfl ?_;refine(zbb a (λi (t:lN)=>((i:Int),a,[],[],[],[],ze8 12,t,[],[],())) _ (λi (x:List lI) (t:List Mon) h=>bif ilt (i:Int) ((3:Nat):Int) then (cond (few<|ln<|ap t [zdn x]) (h<|ap t [zdn x]) none) else zxV t) (λ(t:lN)=>some [.agg<|zbs (⟨ze8 12,t,[],[]⟩:Host)]) (λi b t rec=>?_) (λt rec=>?_) _ ([])<|c d.1).trans ?_;{simp only [zbT b,zbk b,zbt b,zX b d.1,cT];have g:zh6 a[i]=true:=zb3 (e.2 _<|jU b);simp only[g,cT];rfl};{simp only [zbC,cF]};exact ztE 3 zdn zxV a 0 [] (by simpa using d.2)
theorem zjq:u3 6 zhJ:=kF1 zts zL zif zlv zup zui
def zAb:zB:=[(6,zhJ)]++zAa
theorem zAc:zo zAb:=zk zjq zts
def zAd:zB:=zAb
theorem zAe:zo zAd:=zAc
def zAf:zB:=zAd
theorem zAg:zo zAf:=zAe
def zAh:zB:=zAf
theorem zAi:zo zAh:=zAg
theorem zDj {h:Host}{m p c v:Int}(e:SmH h):SmH (zcS h m p c v):=by unfold zcS;cases a:zbB h m p c v;{exact e};{have f:zdc h m p=true:=(by unfold zbB at a;cases b:zdc h m p;{rw [b]at a;cases a};{rfl});obtain⟨g,i,b⟩:=zos.1 f;have d:=(zi2 (n:=2) (zq3 e g) i b).1.1;exact⟨zpJ d.1,d.2⟩}
def zAj:zB:=zAh
theorem zAk:zo zAj:=zAi
def zAl:zB:=zAj
theorem zAm:zo zAl:=zAk
theorem zFW {e:List (List<|List Ins)}(h:zyB e):SmH (zbW e):=by refine⟨show SmM zzd from ⟨by decide,by decide⟩,⟨?_,?_⟩,by simp[zbW],by simp[zbW]⟩;{simp only [zbW,uN,uZ];omega};{intro x d;simp only[zbW,jE]at d;obtain⟨p,f,rfl⟩:=d;have b:=h.2 p (jX f);refine⟨show zi4.length<=1048576 by decide,show SmM zCS from ⟨by decide,by decide⟩,show (rp 8 false).length<=1048576 by decide,⟨?_,?_⟩,by simp[zdn],⟨?_,?_⟩⟩;{simp only [zdn,uN,uZ];omega};{intro y a;simp only[zdn,jE]at a;obtain⟨q,c,rfl⟩:=a;exact⟨b.2 q<|jX c,show zfb.length<=1048576 by decide,show zfb.length<=1048576 by decide,by simp[zct]⟩};{simp only [zdn,uN,uZ];omega};{intro y a;simp only[zdn,jE]at a;obtain⟨q,c,rfl⟩:=a;exact⟨show (rp 4 false).length<=1048576 by decide,show zfb.length<=1048576 by decide⟩}}
def zuZ:zB:=zAl
theorem zwW:zo zuZ:=zAm
def zzk:zb7:=zEM
theorem zpF:zbI zzk:=zDa
def zzP:zB:=zuZ
theorem zzQ:zo zzP:=zwW
theorem zl {i n:Int}:hasB i n=true↔0<=i/\i<n:=by unfold hasB;exact decide_eq_true_iff
theorem zge {x a b:Int}:zi x a b=true↔a<=x/\x<=b:=by simp[zi,ige,ile]
theorem zba {x y:Int}:ieq x y=true↔x=y:=by simp[ieq]
theorem zgU {x y:Int}:ine x y=true↔x≠y:=by simp[ine]
theorem zcB {x y:Int}:ieq x y=false↔x≠y:=by simp[ieq]
theorem zbV {a b:Bool}:(cond a b false)=true↔a=true/\b=true:=by cases a<;>simp
theorem zco {a:Type}(l:List a)(i:Int)(x:a):(up l i x).length=l.length:=by simp[up]
theorem zcP {a:Type}(l:List a)(i:Int)(x:a):ln (up l i x)=ln l:=by simp[up,ln]
theorem zlh {a:Type}{l:List a}{i:Int}(h:hasB i (ln l)=true)(d:a):∃k:Nat,∃b:k<l.length,i=(k:Int)/\ix l i d=l[k]:=by rw[zl]at h;unfold ln at h;refine⟨i.toNat,by omega,by omega,?_⟩;simp[ix,List.getD,qC (show i.toNat<l.length by omega)]
theorem zhs {a:Type}{l:List a}{k:Nat}(h:k<l.length)(d:a):ix l (k:Int) d=l[k]:=by simp[ix,List.getD,qC h]
theorem zlg {a:Type}{l:List a}{i:Int}(h:hasB i (ln l)=true)(d:a):ix l i d∈l:=by obtain⟨k,b,_,e⟩:=zlh h d;rw[e];exact jU b
theorem zAS {a:Type}{l:List a}{x:a}(h:x∈l)(d:a):∃i,hasB i (ln l)=true/\ix l i d=x:=by obtain⟨k,b,e⟩:=List.mem_iff_getElem.1 h;exact⟨(k:Int),zl.2 (by unfold ln;omega),(zhs b d).trans e⟩
theorem zV {a:Type}{l:List a}{i:Int}(h:hasB i (ln l)=true)(x d:a):ix (up l i x) i d=x:=by rw[zl]at h;unfold ln at h;simp[ix,up,List.getD,show i.toNat<l.length by omega]
theorem zbv {a:Type}{l:List a}{i j:Int}(b:0<=i)(c:0<=j)(h:i≠j)(x d:a):ix (up l i x) j d=ix l j d:=by have:i.toNat≠j.toNat:=(by omega);simp[ix,up,List.getD,qY,this]
theorem zGW {a:Type}(l:List a)(i:Int)(x y:a):up (up l i x) i y=up l i y:=by simp[up]
theorem zFz {a:Type}{l m:List a}(d:a)(h:l.length=m.length)(e:∀i,hasB i (ln l)=true->ix l i d=ix m i d):l=m:=by refine List.ext_getElem h λk b c=>?_;have:=e (k:Int) (zl.2 (by unfold ln;omega));rwa [zhs b,zhs c] at this
theorem zpS {a:Type}{l:List a}{i:Int}(h:hasB i (ln l)=true)(d:a):up l i (ix l i d)=l:=by obtain⟨k,b,rfl,e⟩:=zlh h d;rw[e];simp[up]
def cPg (x:Mon)(q:Int):Nat:=x.Outer.countP λs=>ieq s.Page q
def zch (l:List Mon)(q:Int):Nat:=(l.map λx=>cPg x q).sum
theorem zmm {a:Type}(P:a->Bool){l:List a}{i:Int}(h:hasB i (ln l)=true)(x d:a):(up l i x).countP P+(if P (ix l i d) then 1 else 0)=l.countP P+(if P x then 1 else 0):=by
 obtain⟨k,b,rfl,e⟩:=zlh h d;rw[e];simp only[up,uH,List.countP_set b];have:(if P l[k]=true then 1 else 0)<=l.countP P:=by
  split
  .rename_i hp;exact uP.2 ⟨l[k],jU b,hp⟩
  .omega
 omega
theorem zkJ {l:List Mon}{m:Int}(h:hasB m (ln l)=true)(x:Mon)(q:Int):zch (up l m x) q+cPg (ix l m mZ) q=zch l q+cPg x q:=by obtain⟨k,a,rfl,e⟩:=zlh h mZ;rw[e];clear h e;unfold up;simp only[uH];induction l generalizing k with|nil=>simp at a|cons y l b=>(cases k with|zero=>simp[zch];omega|succ k=>have:=b k (by simpa using a);simp[zch] at this ⊢;omega)
theorem zoW {l:List Mon}{m p:Int}(a:hasB m (ln l)=true)(b:hasB p (ln (ix l m mZ).Outer)=true):1<=zch l (ix (ix l m mZ).Outer p sZ).Page:=by have d:1<=cPg (ix l m mZ) (ix (ix l m mZ).Outer p sZ).Page:=uP.2 ⟨_,zlg b sZ,by simp[ieq]⟩;have:=zkJ a (⟨[],[],[],[],[],0,0,[],0⟩:Mon) (ix (ix l m mZ).Outer p sZ).Page;have c:cPg (⟨[],[],[],[],[],0,0,[],0⟩:Mon) (ix (ix l m mZ).Outer p sZ).Page=0:=rfl;omega
theorem zBS {l:List Mon}{m p n k:Int}{q:Int}(b:hasB m (ln l)=true)(v:hasB p (ln (ix l m mZ).Outer)=true)(u:hasB n (ln l)=true)(f:hasB k (ln (ix l n mZ).Outer)=true)(z:(ix (ix l m mZ).Outer p sZ).Page=q)(t:(ix (ix l n mZ).Outer k sZ).Page=q)(h:zch l q<=1):m=n/\p=k:=by have c:=zl.1 b;have d:=zl.1 u;have i:=zl.1 v;have g:=zl.1 f;have B:¬ ieq q (q+1)=true:=(by simp[ieq];omega);obtain⟨y,r⟩:∃y:Mon,y.Outer=up (ix l m mZ).Outer p ⟨q+1,0⟩:=⟨{ix l m mZ with Outer:=up (ix l m mZ).Outer p ⟨q+1,0⟩},rfl⟩;have x:=zmm (λs=>ieq s.Page q) v (⟨q+1,0⟩:Slot) sZ;simp only[z,show ieq q q=true by simp[ieq],show ieq (q+1) q=false by simp[ieq];omega,if_true,kC,if_false] at x;have C:=zkJ b y q;simp only[cPg,r] at C;have D:zch (up l m y) q=0:=(by omega);apply Classical.byContradiction;intro A;have w:1<=zch (up l m y) q:=(by by_cases a:m=n;{subst a;have j:p≠k:=λe=>A ⟨rfl,e⟩;have:=zoW (l:=up l m y) (m:=m) (p:=k) (by rw[zcP];exact b) (by rw[zV b,r,zcP];exact f);rw[zV b,r,zbv i.1 g.1 j,t] at this;exact this};{have:=zoW (l:=up l m y) (m:=n) (p:=k) (by rw[zcP];exact u) (by rw[zbv c.1 d.1 a];exact f);rw[zbv c.1 d.1 a,t] at this;exact this});omega
theorem zoU {a b c:Bool}:(cond a b c)=true↔(a=true/\b=true)\/(a=false/\c=true):=by cases a<;>simp
def SOk (s:Slot):Prop:=s=noSlot\/(0<=s.Page/\s.Page<=11/\1<=s.Rights/\s.Rights<=3)
theorem zwk {a b:Slot}(c:a.Page=b.Page)(d:a.Rights=b.Rights):a=b:=by cases a;cases b;simp_all
theorem zfq {a b:Slot}:zb9 a b=true↔a=b:=by simp only[zb9,qD,zba];exact⟨λh=>zwk h.1 h.2,λh=>by rw[h];exact⟨rfl,rfl⟩⟩
theorem znk {a b:Slot}:zb9 a b=false↔a≠b:=by rw[<- u0,zfq]
theorem zyg {s:Slot}:zc6 s 12=true↔SOk s:=by unfold zc6 SOk;rw[zoU,zfq,znk];have:wsub .i64 12 1=11:=(by decide);simp only[this,zoU,zge];simp[igt];constructor;{rintro (h|⟨h,⟨a,b⟩,c⟩);{exact .inl h};{exact .inr ⟨a,b,c⟩}};{intro h;by_cases d:s=noSlot;{exact .inl d};{rcases h with h|⟨a,b,c⟩;{exact .inl h};{exact .inr ⟨d,⟨a,b⟩,c⟩}}}
theorem SOk.none {s:Slot}(h:SOk s)(a:s.Page = -1):s=noSlot:=by rcases h with h|h;{exact h};{omega}
theorem SOk.pos {s:Slot}(h:SOk s)(a:s.Page≠-1):0<=s.Page/\s.Page<=11/\1<=s.Rights/\s.Rights<=3:=by rcases h with h|h;{rw [h]at a;exact absurd rfl a};{exact h}
structure MOk (x:Mon):Prop where
 g1:1<=x.Guests.length
 g2:x.Guests.length<=2
 gt:x.Tables.length=x.Guests.length
 o8:x.Outer.length=8
 sl:∀s∈x.Outer,SOk s
 u8:x.Out.length=8
 d8:x.Dirty.length=8
 outs:x.Outs.length<=40
 pend:ze4 x.Pending=true
 tr:zi x.Traps 0 3=true
 own:zi x.Own 0 1000000000=true
 gs:∀g∈x.Guests,zc9 g=true
 fit:∀p,hasB p 8=true->zga (ix x.Outer p sZ) (ix x.Out p [])=true
theorem zoR {P:Nat->Bool}:∀{n i:Nat},zhA P n i=true↔∀j,i<=j->j<i+n->P j=true
 | 0,i=>by simp[zhA];intro j a b;omega
 |n+1,i=>by rw[zhA,qD,zoR];constructor;{rintro⟨a,b⟩ j c d;by_cases e:j=i;{rw [e];exact a};{exact b j (by omega) (by omega)}};{intro h;exact⟨h i (by omega) (by omega),λj a b=>h j (by omega) (by omega)⟩}
theorem zxx {t:List Slot}{n p:Int}:zcg t n p=true↔(∀s∈t,zc6 s p=true)/\ln t=n:=by unfold zcg;rw[zbV,qJ,zba]
theorem zFA {x:Mon}:zcH x=true↔MOk x:=by unfold zcH;simp only[zbV,zge,zba,zxx,zoR,qJ,ile,jC];constructor;{rintro⟨⟨g,i⟩,m,⟨k,l⟩,n,q,r,e,a,b,c,d⟩;unfold ln at *;refine⟨by omega,by omega,by omega,by omega,λs f=>zyg.1 (k s f),by omega,by omega,by omega,e,zge.2 a,zge.2 b,c,λp t=>?_⟩;have u:=zl.1 t;have:=d p.toNat (by omega) (by omega);unfold fits at this;rwa [show ((p.toNat:Nat):Int)=p by omega] at this};{intro h;obtain⟨g,i,m,k,l,n,q,r,e,a,b,c,d⟩:=h;unfold ln;exact⟨⟨by omega,by omega⟩,by omega,⟨λs f=>zyg.2 (l s f),by omega⟩,by omega,by omega,by omega,e,zge.1 a,zge.1 b,c,λj g i=>d (j:Int) (zl.2 (by omega))⟩}
theorem zd5 (o:List Slot)(s:Slot)(q:Int):(s::o).countP (λs=>ieq s.Page q)=o.countP (λs=>ieq s.Page q)+if s.Page=q then 1 else 0:=by rw[kS];simp[ieq]
theorem zlx:∀{o:List Slot} {u:List Bool},(∀s∈o,s.Page<u.length)->
 (∀c,zdp o u=some c↔(∀q,0<=q->o.countP (λs=>ieq s.Page q)+(if ix u q false then 1 else 0)<=1)/\
  c=(o.foldl (λu s=>bif ilt s.Page 0 then u else up u s.Page true) u))
 |[],u,h,c=>by simp[zdp];exact⟨λh=>⟨λq _=>by split<;>omega,h.symm⟩,λh=>h.2.symm⟩
 |s::o,u,h,c=>by
  unfold zdp;by_cases g:s.Page<0;{have b:ilt s.Page 0=true:=qT g;rw[b,cond_true,zlx λy d=>h y (qR _ d)];simp only[k7,b,cond_true];refine and_congr (forall_congr' λq=>forall_congr' λf=>?_) Iff.rfl;have e:(if s.Page=q then 1 else 0)=0:=if_neg (by omega);rw[zd5,e,kB]};{have b:ilt s.Page 0=false:=qW g;have k:=h s qX;have j:hasB s.Page (ln u)=true:=zl.2 ⟨by omega,by unfold ln;omega⟩;rw[b,cond_false];cases i:ix u s.Page false with|true=>rw[cond_true];constructor;{intro h;cases h};{rintro⟨h,_⟩;have:=h s.Page (by omega);rw[zd5,if_pos rfl,i] at this;simp at this}|false=>rw[cond_false,zlx (λy d=>by rw[zco];exact h y (qR _ d))];simp only[k7,b,cond_false];refine and_congr (forall_congr' λq=>forall_congr' λf=>?_) Iff.rfl;rw[zd5];by_cases a:s.Page=q;{subst a;rw[zV j,i];simp};{rw [zbv (by omega) f a,if_neg a,kB]}}
theorem zpT:∀(o:List Slot) (u:List Bool),(o.foldl (λu s=>bif ilt s.Page 0 then u else up u s.Page true) u).length=u.length
 |[],u=>rfl
 |s::o,u=>by rw[k7,zpT];cases ilt s.Page 0<;>simp [zco]
theorem ztb:∀(o:List Slot) (u:List Bool) (q:Int),0<=q->(∀s∈o,s.Page<u.length)->(ix (o.foldl (λu s=>bif ilt s.Page 0 then u else up u s.Page true) u) q false=true↔ix u q false=true\/1<=o.countP λs=>ieq s.Page q)
 |[],u,q,b,h=>by simp
 |s::o,u,q,b,h=>by
  rw[k7,ztb _ _ q b (λy f=>by have:=h y (qR _ f);cases ilt s.Page 0<;>simpa [zco] using this),zd5];by_cases c:s.Page<0;{rw [show ilt s.Page 0=true from qT c,cond_true,if_neg (by omega),kB]};{rw [show ilt s.Page 0=false from qW c,cond_false];have e:=h s qX;have d:hasB s.Page (ln u)=true:=zl.2 ⟨by omega,by unfold ln;omega⟩;by_cases a:s.Page=q;{subst a;rw[zV d];simp};{rw [zbv (by omega) b a,if_neg a,kB]}}
theorem zk6:∀{l:List Mon} {u:List Bool},u.length=12->(zeb l u=true↔(∀x∈l,MOk x)/\∀q,0<=q->zch l q+(if l≠[]/\ix u q false then 1 else 0)<=1)
 |[],u,c=>by simp[zeb,zch]
 |x::l,u,c=>by
  unfold zeb;rw[zbV,zFA];constructor;{rintro⟨f,b⟩;have k:∀s∈x.Outer,s.Page<u.length:=λs n=>(by rcases f.sl s n with h|h;{rw [h,c];decide};{rw [c];omega});split at b;{rename_i B d;obtain⟨g,rfl⟩:=(zlx k B).1 d;rw[zk6 (by rw[zpT,c])]at b;obtain⟨v,w⟩:=b;refine⟨by simpa using ⟨f,v⟩,λq a=>?_⟩;have z:=g q a;have i:=w q a;have m:=ztb x.Outer u q a k;simp only[zch,qZ,kU]at i ⊢;unfold cPg at i ⊢;simp only[ne_eq,reduceCtorEq,not_false_eq_true,true_and];by_cases r:l=[];{subst r;simpa using z};{simp only [r,ne_eq,not_false_eq_true,true_and]at i;by_cases j:ix (x.Outer.foldl (λu s=>bif ilt s.Page 0 then u else up u s.Page true) u) q false=true;{rw [if_pos j]at i;omega};{rw [if_neg j]at i;have p:¬ (ix u q false=true\/1<=x.Outer.countP λs=>ieq s.Page q):=λe=>j (m.2 e);rw[not_or]at p;rw[if_neg p.1];omega}}};{cases b}}
  .rintro⟨f,b⟩;have t:MOk x:=f x qX;refine⟨t,?_⟩;have k:∀s∈x.Outer,s.Page<u.length:=λs n=>by rcases t.sl s n with h|h;{rw [h,c];decide};{rw [c];omega}
   have d:=(zlx k _).2 ⟨λq a=>by
    have:=b q a;simp only[zch,qZ,kU,ne_eq,reduceCtorEq,not_false_eq_true,true_and] at this;unfold cPg at this;omega,rfl⟩
   rw[d];simp only;rw[zk6 (by rw[zpT,c])];refine⟨λy A=>f y (qR _ A),λq a=>?_⟩;have g:=b q a;have m:=ztb x.Outer u q a k;simp only[zch,qZ,kU,ne_eq,reduceCtorEq,not_false_eq_true,true_and]at g ⊢;unfold cPg at g ⊢;split;{rename_i j;rcases m.1 j.2 with h|h;{rw [if_pos h]at g;omega};{omega}};{omega}
structure HOk (h:Host):Prop where
 m12:h.Memory.length=12
 pgs:∀c∈h.Memory,zbL c=true
 n1:1<=h.Mons.length
 n3:h.Mons.length<=3
 b1:zc7 h.Buffer=true
 b2:zc7 h.IoBuffer=true
 mons:∀x∈h.Mons,MOk x
 uq:∀q,0<=q->zch h.Mons q<=1
theorem zr4 {h:Host}:zbR h=true↔HOk h:=by unfold zbR zfK;simp only[zbV,zge,zba,qJ];rw[zk6 (by simp[rp])];have g:∀q,ix (rp 12 false) q false=false:=λq=>(by unfold ix rp;rw[jZ,jV];split<;>rfl);simp only[g,kC,and_false,if_false,kB];unfold ln;constructor;{rintro⟨⟨e,f⟩,⟨i,j⟩,a,b,c,d⟩;exact⟨by omega,e,by omega,by omega,a,b,c,d⟩};{rintro⟨e,f,i,j,a,b,c,d⟩;exact⟨⟨f,by omega⟩,⟨by omega,by omega⟩,a,b,c,d⟩}
theorem HOk.mon {h:Host}(H:HOk h){m:Int}(a:hasB m (ln h.Mons)=true):MOk (ix h.Mons m mZ):=H.mons _ (zlg a _)
theorem MOk.hasO {x:Mon}(H:MOk x){p:Int}(a:hasB p 8=true):hasB p (ln x.Outer)=true:=by rw[ln,H.o8];exact a
theorem MOk.hasU {x:Mon}(H:MOk x){p:Int}(a:hasB p 8=true):hasB p (ln x.Out)=true:=by rw[ln,H.u8];exact a
theorem MOk.hasD {x:Mon}(H:MOk x){p:Int}(a:hasB p 8=true):hasB p (ln x.Dirty)=true:=by rw[ln,H.d8];exact a
theorem MOk.slot {x:Mon}(H:MOk x){p:Int}(a:hasB p 8=true):SOk (ix x.Outer p sZ):=H.sl _ (zlg (H.hasO a) _)
theorem HOk.uniq {h:Host}(H:HOk h){m p n k q:Int}(a:hasB m (ln h.Mons)=true)(f:hasB p 8=true)(b:hasB n (ln h.Mons)=true)(e:hasB k 8=true)(c:(ix (ix h.Mons m mZ).Outer p sZ).Page=q)(d:(ix (ix h.Mons n mZ).Outer k sZ).Page=q)(g:0<=q):m=n/\p=k :=
 zBS a ((H.mon a).hasO f) b ((H.mon b).hasO e) c d (H.uq q g)
theorem HOk.up {h:Host}(H:HOk h){m:Int}(k:hasB m (ln h.Mons)=true){x:Mon}(l:MOk x){a:Host}(e:a.Mons=up h.Mons m x)(d:a.Memory.length=12)(f:∀c∈a.Memory,zbL c=true)(i:zc7 a.Buffer=true)(j:zc7 a.IoBuffer=true)(n:∀q,0<=q->cPg x q<=cPg (ix h.Mons m mZ) q\/zch h.Mons q=0/\cPg x q<=1):HOk a:=by refine⟨d,f,by rw[e,zco];exact H.n1,by rw[e,zco];exact H.n3,i,j,λy b=>?_,λq g=>?_⟩;{rw [e]at b;unfold E.up at b;rcases jD b with h|h;{exact H.mons y h};{rw [h];exact l}};{rw [e];have p:=zkJ k x q;have r:=H.uq q g;have s:=n q g;omega}
structure KOk (k:Kept) (inner outer:List Slot):Prop where
 l1:k.Known.length=inner.length
 l2:k.Slots.length=inner.length
 at':∀i,hasB i (ln inner)=true->ix k.Slots i sZ=bif ix k.Known i false then zbq (ix inner i sZ) outer else noSlot
theorem zFy {k:Kept}{d e:List Slot}:zeW k d e=true↔KOk k d e:=by unfold zeW;have f:∀{a b:Int} {c:Bool},(cond (ine a b) false c)=true↔a=b/\c=true:=(by intro a b c;by_cases h:a=b;{simp [ine,h]};{simp [ine,h]});rw[f,f,zoR];unfold ln zgV;constructor;{rintro⟨m,n,g⟩;refine⟨by omega,by omega,λi p=>?_⟩;have l:=zl.1 p;unfold ln at l;have:=zfq.1 (g i.toNat (by omega) (by omega));rwa [show ((i.toNat:Nat):Int)=i by omega] at this};{rintro⟨m,n,g⟩;exact⟨by omega,by omega,λj q r=>zfq.2 (g _<|zl.2 (by unfold ln;omega))⟩}
def TOk (x:Mon):Prop:=∀g,hasB g (ln x.Guests)=true->KOk (ix x.Tables g kZ) (ix x.Guests g gZ).Live x.Outer
structure Rt (h:Host):Prop where
 t:∀m,hasB m (ln h.Mons)=true->TOk (ix h.Mons m mZ)
 e1:∀e∈h.Buffer,zce h e=true
 e2:∀e∈h.IoBuffer,zce h e=true
structure Safe (h:Host):Prop where
 ok:HOk h
 rt:Rt h
theorem zmf {a b:Slot}:below' a b=true↔a=noSlot\/(a.Page=b.Page/\enough b.Rights a.Rights=true):=by unfold below';rw[zoU,zfq,znk,zbV,zba];by_cases h:a=noSlot<;>simp [h]
theorem zBF (x:Int):wand .i64 0 x=0:=by unfold wand;have:(BitVec.ofInt 64 0 &&& BitVec.ofInt 64 x)=0#64:=(by rw[show BitVec.ofInt 64 0=0#64 from rfl,BitVec.zero_and]);show IntKind.wrap .i64 ((BitVec.ofInt 64 0 &&& BitVec.ofInt 64 x).toNat:Int)=0;rw[this];rfl
theorem zBR {a:Slot}(h:below' a noSlot=true):a=noSlot:=by rcases zmf.1 h with h|⟨c,b⟩;{exact h};{refine zwk c ?_;unfold enough at b;rw[show noSlot.Rights=0 from rfl,zBF]at b;simp only[zbV,zba]at b;exact b.2.2.symm}
theorem zjh {h:Host}{e:Entry}:zce h e=true↔hasB (zdo e.Tag) (ln h.Mons)=true/\hasB (zdk e.Tag) (ln (ix h.Mons (zdo e.Tag) mZ).Guests)=true/\
 below' ⟨e.Host,e.Rights⟩ (zbq (zbo (ix (ix h.Mons (zdo e.Tag) mZ).Guests (zdk e.Tag) gZ).Live e.Page) (ix h.Mons (zdo e.Tag) mZ).Outer)=true:=by
 unfold zce;rw[zbV,zbV]
theorem zBr {o:List Slot}{p q:Int}{s:Slot}(a:0<=p)(h:q≠p):zbo (up o p s) q=zbo o q:=by unfold zbo;rw[zcP];cases b:hasB q (ln o) with|false=>rfl|true=>rw[cond_true,cond_true,zbv a (zl.1 b).1<|Ne.symm h]
theorem zqx {s:Slot}{o:List Slot}{p:Int}{t:Slot}(a:0<=p)(h:s.Page≠p):zbq s (up o p t)=zbq s o:=by unfold zbq;rw[zBr a h]
theorem zyK {s:Slot}{o:List Slot}:zbq s o=noSlot\/(zbq s o).Page=(zbo o s.Page).Page:=by unfold zbq;cases ieq s.Page (-1)<;>cases ieq (zbo o s.Page).Page (-1)<;>cases ieq (zfd s.Rights (zbo o s.Page).Rights) 0<;>simp
theorem zmx (k:Kept)(q:Int):(zbP k q).Known.length=k.Known.length/\(zbP k q).Slots.length=k.Slots.length:=by unfold zbP;cases zgW k q<;>simp [zco]
theorem zlF:∀(l:List Int) (k:Kept),(zcm k l).Known.length=k.Known.length/\(zcm k l).Slots.length=k.Slots.length
 |[],k=>⟨rfl,rfl⟩
 |q::l,k=>by have a:=zlF l (zbP k q);have b:=zmx k q;exact⟨a.1.trans b.1,a.2.trans b.2⟩
theorem zw5 {k:Kept}{q i:Int}(d:k.Known.length=k.Slots.length)(b:hasB i (ln k.Known)=true) :
 ix (zbP k q).Known i false=(cond (ieq q i) false<|ix k.Known i false)/\ix (zbP k q).Slots i sZ=(cond (ieq q i) noSlot<|ix k.Slots i sZ):=by
 have c:hasB i (ln k.Slots)=true:=by unfold ln at b ⊢;rwa [<- d]
 unfold zbP zgW
 by_cases e:q=i
 .subst e;simp only[b,c,cond_true,ieq,beq_self_eq_true];exact⟨zV b _ _,zV c _ _⟩
 .rw [show ieq q i=false from zcB.2 e]
  by_cases a:hasB q (ln k.Known)=true
  .have hq':hasB q (ln k.Slots)=true:=by unfold ln at a ⊢;rwa [<- d]
   simp only[a,hq',cond_true,cond_false];exact⟨zbv (zl.1 a).1 (zl.1 b).1 e _ _,zbv (zl.1 a).1 (zl.1 b).1 e _ _⟩
  .rw [u0]at a;simp[a]
theorem zmw:∀(l:List Int) {k:Kept} {i:Int},k.Known.length=k.Slots.length->hasB i (ln k.Known)=true->
 (i∈l->ix (zcm k l).Known i false=false/\ix (zcm k l).Slots i sZ=noSlot)/\
 (i∉l->ix (zcm k l).Known i false=ix k.Known i false/\ix (zcm k l).Slots i sZ=ix k.Slots i sZ)
 |[],k,i,d,c=>⟨λh=>by simp at h,λ_=>⟨rfl,rfl⟩⟩
 |q::l,k,i,d,c=>by have b:=zmx k q;have g:=zw5 (q:=q) d c;have f:=zmw l (k:=zbP k q) (i:=i) (by rw[b.1,b.2,d]) (by unfold ln at c ⊢;rwa [b.1]);show (_->ix (zcm (zbP k q) l).Known i false=_/\ix (zcm (zbP k q) l).Slots i sZ=_)/\(_->ix (zcm (zbP k q) l).Known i false=_/\ix (zcm (zbP k q) l).Slots i sZ=_);by_cases a:i∈l;{refine⟨λ_=>f.1 a,λh=>absurd (qR _ a) h⟩};{rw [(f.2 a).1,(f.2 a).2,g.1,g.2];by_cases e:q=i;{subst e;simp[ieq]};{rw [zcB.2 e];simp[a,Ne.symm e]}}
theorem zvu {e:Type}{P:e->Bool}{d:e}:∀{l:List e} {n:Nat} {i:Int},i∈idxs P l n↔∃k:Nat,∃h:k<l.length,i=((n+k:Nat):Int)/\P l[k]=true
 |[],n,i=>by simp[idxs]
 |x::l,n,i=>by
  have g:=@zvu e P d l (n+1) i;unfold idxs;constructor
  .intro h;cases f:P x with
   |true=>rw[f,cond_true,qL]at h;rcases h with h|h;{exact⟨0,by simp,by simpa using h,f⟩};{obtain⟨k,c,b,a⟩:=g.1 h;exact⟨k+1,by simpa using c,by rw[b];congr 1;omega,by simpa using a⟩}
   |false=>rw[f,cond_false]at h;obtain⟨k,c,b,a⟩:=g.1 h;exact⟨k+1,by simpa using c,by rw[b];congr 1;omega,by simpa using a⟩
  {rintro⟨k,c,b,a⟩;cases k with|zero=>simp only[List.getElem_cons_zero]at a;rw[a,cond_true,b];exact qX|succ k=>have:=g.2 ⟨k,by simpa using c,by rw[b];congr 1;omega,by simpa using a⟩;cases P x;{exact this};{exact qR _ this}}
theorem zwK {l:List Slot}{p i:Int}:i∈znv l p↔hasB i (ln l)=true/\(ix l i sZ).Page=p:=by unfold znv;rw[zvu (d:=sZ)];constructor;{rintro⟨k,a,rfl,c⟩;rw[jQ,zhs a];exact⟨zl.2 (by unfold ln;omega),zba.1 c⟩};{rintro⟨a,b⟩;obtain⟨k,f,rfl,e⟩:=zlh a sZ;exact⟨k,f,by simp,by rw[e]at b;exact zba.2 b⟩}
theorem zy8 {k:Kept}{a b:List Slot}(h:KOk k a b){p:Int}(j:0<=p)(s:Slot):KOk (zek k a p) a (up b p s):=by have g:=zlF (znv a p) k;refine⟨g.1.trans h.l1,g.2.trans h.l2,λi d=>?_⟩;have e:hasB i (ln k.Known)=true:=(by unfold ln at d ⊢;rwa [h.l1]);have f:=zmw (znv a p) (by rw[h.l1,h.l2]) e;unfold zek;by_cases c:(ix a i sZ).Page=p;{have:=f.1 (zwK.2 ⟨d,c⟩);rw[this.1,this.2];rfl};{have:=f.2 (λh=>c (zwK.1 h).2);rw[this.1,this.2,h.at' i d,zqx j c]}
theorem zno (b:List Guest)(p:Int):∀(n:Nat) (a:List Kept),(zf2 b p n a).length=a.length
 | 0,a=>rfl
 |n+1,a=>by rw[zf2,zco,zno b p n]
theorem zs4 (b:List Guest)(p:Int):∀(n:Nat) (a:List Kept),n<=a.length->∀i,0<=i->ix (zf2 b p n a) i kZ=if i<n then zek (ix a i kZ) (ix b i gZ).Live p else ix a i kZ
 | 0,a,_,i,c=>by rw[if_neg (by omega)];rfl
 |n+1,a,d,i,c=>by rw[zf2];by_cases e:i=n;{subst e;rw[zV (by rw[ln,zno];exact zl.2 (by omega)),if_pos (by omega),zs4 b p n a (by omega) _ c,if_neg (by omega)]};{rw [zbv (by omega) c<|Ne.symm e,zs4 b p n a (by omega) i c];by_cases h:i<n;{rw [if_pos h,if_pos (by omega)]};{rw [if_neg h,if_neg (by omega)]}}
def zdK (x:Mon)(p:Int)(s:Slot):Mon:={zf1 x p x.Tables.length with Outer:=up x.Outer p s}
theorem zBt {x:Mon}(h:TOk x)(c:x.Tables.length=x.Guests.length){p:Int}(b:0<=p)(s:Slot):TOk (zdK x p s):=by intro g hg;have a:hasB g (ln x.Guests)=true:=hg;show KOk (ix (zf2 x.Guests p x.Tables.length x.Tables) g kZ) (ix x.Guests g gZ).Live (up x.Outer p s);rw[zs4 _ _ _ _ (qV _) _ (zl.1 a).1,if_pos (by have:=zl.1 a;unfold ln at this;omega)];exact zy8 (h g a) b s
theorem zfN (h:Host)(m p:Int)(s:Slot):(zbw h m p s).Mons=up h.Mons m (zdK (ix h.Mons m mZ) p s):=by unfold zbw;cases ine (ix (ix h.Mons m zx).Outer p zU).Page (-1)<;>rfl
theorem zjX (h:Host)(m p:Int)(s:Slot):(zbw h m p s).Memory=h.Memory:=by unfold zbw;cases ine (ix (ix h.Mons m zx).Outer p zU).Page (-1)<;>rfl
theorem ztU (h:Host)(m p:Int)(s:Slot):(zbw h m p s).Buffer=(cond (ieq (ix (ix h.Mons m mZ).Outer p sZ).Page<|-1) h.Buffer<|flushed h.Buffer (ix (ix h.Mons m mZ).Outer p sZ).Page)/\
 (zbw h m p s).IoBuffer=(cond (ieq (ix (ix h.Mons m mZ).Outer p sZ).Page<|-1) h.IoBuffer<|flushed h.IoBuffer (ix (ix h.Mons m mZ).Outer p sZ).Page):=by
 unfold zbw
 by_cases e:(ix (ix h.Mons m zx).Outer p zU).Page = -1
 .rw [show ine (ix (ix h.Mons m zx).Outer p zU).Page (-1)=false by simp[ine,e],show ieq (ix (ix h.Mons m mZ).Outer p sZ).Page (-1)=true from zba.2 e]
  exact⟨rfl,rfl⟩
 .rw [show ine (ix (ix h.Mons m zx).Outer p zU).Page (-1)=true from zgU.2 e,show ieq (ix (ix h.Mons m mZ).Outer p sZ).Page (-1)=false from zcB.2 e]
  exact⟨rfl,rfl⟩
theorem zqE {h k:Host}{m p:Int}{s:Slot}(n:hasB m (ln h.Mons)=true)(q:hasB p (ln (ix h.Mons m mZ).Outer)=true){x:Mon}(u:k.Mons=up h.Mons m x)(t:x.Guests=(ix h.Mons m mZ).Guests)(v:x.Outer=up (ix h.Mons m mZ).Outer p s){e:Entry}(w:zce h e=true)(c:(ix (ix h.Mons m mZ).Outer p sZ).Page = -1\/e.Host≠(ix (ix h.Mons m mZ).Outer p sZ).Page):zce k e=true:=by obtain⟨f,g,b⟩:=zjh.1 w;rw[zjh,u,zcP];refine⟨f,?_⟩;by_cases l:m=zdo e.Tag;{rw [<- l]at f g b ⊢;rw[zV n,t,v];refine⟨g,?_⟩;by_cases j:(zbo (ix (ix h.Mons m mZ).Guests (zdk e.Tag) gZ).Live e.Page).Page=p;{have a:zbq (zbo (ix (ix h.Mons m mZ).Guests (zdk e.Tag) gZ).Live e.Page) (ix h.Mons m mZ).Outer=noSlot\/e.Host≠(zbq (zbo (ix (ix h.Mons m mZ).Guests (zdk e.Tag) gZ).Live e.Page) (ix h.Mons m mZ).Outer).Page:=(by rcases zyK (s:=zbo (ix (ix h.Mons m mZ).Guests (zdk e.Tag) gZ).Live e.Page) (o:=(ix h.Mons m mZ).Outer) with d|d;{exact .inl d};{rw [j]at d;have r:zbo (ix h.Mons m mZ).Outer p=ix (ix h.Mons m mZ).Outer p sZ:=(by unfold zbo;rw[q];rfl);rw[r]at d;rcases c with c|c;{left;unfold zbq;rw[j,r,c,show ieq (-1) (-1)=true from rfl];cases ieq p (-1)<;>rfl};{exact .inr (by rw[d];exact c)}});have i:(⟨e.Host,e.Rights⟩:Slot)=noSlot:=(by rcases a with a|a;{rw [a]at b;exact zBR b};{rcases zmf.1 b with h|h;{exact h};{exact absurd h.1 a}});rw[i];exact zmf.2 (.inl rfl)};{rw [zqx (zl.1 q).1 j];exact b}};{rw [zbv (zl.1 n).1 (zl.1 f).1 l];exact⟨g,b⟩}
theorem zlr {h:Host}(H:Rt h){m p:Int}(d:hasB m (ln h.Mons)=true)(q:hasB p (ln (ix h.Mons m mZ).Outer)=true)(u:(ix h.Mons m mZ).Tables.length=(ix h.Mons m mZ).Guests.length)(s:Slot):Rt (zbw h m p s):=by have c:=ztU h m p s;have i:=zfN h m p s;have f:∀(b:List Entry),(∀e∈b,zce h e=true)->∀e∈(cond (ieq (ix (ix h.Mons m mZ).Outer p sZ).Page<|-1) b<|flushed b (ix (ix h.Mons m mZ).Outer p sZ).Page),zce (zbw h m p s) e=true:=(by intro b c e a;by_cases n:(ix (ix h.Mons m mZ).Outer p sZ).Page = -1;{rw [zba.2 n,cond_true]at a;exact zqE d q i rfl rfl (c e a) (.inl n)};{rw [zcB.2 n,cond_false]at a;obtain⟨j,l⟩:=List.mem_filter.1 a;exact zqE d q i rfl rfl (c e j) (.inr (by simpa [ieq] using l))});refine⟨λk g=>?_,λe a=>f _ H.e1 e (by rwa [c.1]at a),λe a=>f _ H.e2 e (by rwa [c.2]at a)⟩;rw[i]at g ⊢;rw[zcP]at g;by_cases r:m=k;{subst r;rw[zV d];exact zBt (H.t m d) u (zl.1 q).1 s};{rw [zbv (zl.1 d).1 (zl.1 g).1 r];exact H.t k g}
theorem ztl:∀(l a:List Entry),allI (alone<|a++l) l a.length=true↔(∀x∈l,∀y∈a,sameKey x y=false)/\l.Pairwise (λy x=>sameKey x y=false)
 |[],a=>by simp[allI]
 |x::l,a=>by have g:=ztl l (a++[x]);rw[j4,List.singleton_append,k8,List.length_singleton] at g;rw[allI,qD,g,List.pairwise_cons];have h:alone (a++x::l) a.length x=true↔∀y∈a,sameKey x y=false:=(by unfold alone;rw[kE rfl,qJ];simp);rw[h];constructor;{rintro⟨d,e,f⟩;refine⟨λz c y b=>?_,λz c=>e z c x (by simp),f⟩;rcases qL.1 c with rfl|c;{exact d y b};{exact e z c y (by simp[b])}};{rintro⟨d,e,f⟩;refine⟨λy b=>d x (by simp) y b,λz c y b=>?_,f⟩;rcases jJ.1 b with b|b;{exact d z (by simp[c]) y b};{rw [qE.1 b];exact e z c}}
theorem zE3 {l:List Entry}:zc7 l=true↔l.Pairwise (λy x=>sameKey x y=false)/\l.length<=6:=by unfold zc7;have:=ztl l [];simp only[jO,List.length_nil] at this;have a:ile (ln l) 6=true↔l.length<=6:=(by rw[ile,jC,ln];omega);rw[zbV,this,a];simp
theorem zyH {l:List Entry}(h:zc7 l=true)(P:Entry->Bool):zc7 (l.filter P)=true:=by rw[zE3]at h ⊢;exact⟨h.1.sublist List.filter_sublist,jG (List.length_filter_le _ _) h.2⟩
theorem zn9 {l:List Entry}(h:zc7 l=true)(p:Int):zc7 (flushed l p)=true:=zyH h _
theorem zuQ {x x':Mon}{p:Int}(a:hasB p (ln x.Outer)=true){s:Slot}(h:x'.Outer=up x.Outer p s)(q:Int):cPg x' q+(if (ix x.Outer p sZ).Page=q then 1 else 0)=cPg x q+(if s.Page=q then 1 else 0):=by have:=zmm (λs=>ieq s.Page q) a s sZ;simp only[zba] at this;unfold cPg;rw[h];exact this
theorem zgP {s:Slot}(d:SOk s){c:List Int}:zga s c=true↔(s.Page = -1->zbL c=true)/\(s.Page≠-1->enough s.Rights 1=true/\c=[]):=by unfold zga;by_cases e:s=noSlot;{rw [zfq.2 e,cond_true,e];simp[noSlot]};{rw [znk.2 e,cond_false,zbV];have:s.Page≠-1:=λh=>e (d.none h);have b:ile (ln c) 0=true↔c=[]:=(by rw[ile,jC,ln,<- List.length_eq_zero_iff];omega);rw[b];exact⟨λh=>⟨λa=>absurd a this,λ_=>h⟩,λh=>h.2 this⟩}
structure Chg (x x':Mon) (p:Int) (s:Slot) (c:List Int):Prop where
 o:x'.Outer=up x.Outer p s
 u:x'.Out=up x.Out p c
 g:x'.Guests=x.Guests
 t:x'.Tables.length=x.Tables.length
 d:x'.Dirty.length=x.Dirty.length
 a1:x'.Outs=x.Outs
 a2:x'.Pending=x.Pending
 a3:x'.Traps=x.Traps
 a4:x'.Own=x.Own
theorem MOk.chg {x i:Mon}(H:MOk x){p:Int}(a:hasB p 8=true){s:Slot}{c:List Int}(k:Chg x i p s c)(l:SOk s)(j:zga s c=true):MOk i:=by refine⟨by rw[k.g];exact H.g1,by rw[k.g];exact H.g2,by rw[k.t,k.g];exact H.gt,by rw[k.o,zco];exact H.o8,λy f=>?_,by rw[k.u,zco];exact H.u8,by rw[k.d];exact H.d8,by rw[k.a1];exact H.outs,by rw[k.a2];exact H.pend,by rw[k.a3];exact H.tr,by rw[k.a4];exact H.own,by rw[k.g];exact H.gs,λq b=>?_⟩;{rw [k.o]at f;rcases jD f with h|h;{exact H.sl y h};{rw [h];exact l}};{rw [k.o,k.u];by_cases e:p=q;{subst e;rw[zV<|H.hasO a,zV<|H.hasU a];exact j};{rw [zbv (zl.1 a).1 (zl.1 b).1 e,zbv (zl.1 a).1 (zl.1 b).1 e];exact H.fit q b}}
structure Like (h r:Host):Prop where
 len:r.Mons.length=h.Mons.length
 g:∀i,hasB i (ln h.Mons)=true->(ix r.Mons i mZ).Guests=(ix h.Mons i mZ).Guests
 o:∀i,hasB i (ln h.Mons)=true->(ix r.Mons i mZ).Outs=(ix h.Mons i mZ).Outs
 p:∀i,hasB i (ln h.Mons)=true->(ix r.Mons i mZ).Pending=(ix h.Mons i mZ).Pending
 tr:∀i,hasB i (ln h.Mons)=true->(ix r.Mons i mZ).Traps=(ix h.Mons i mZ).Traps
 ow:∀i,hasB i (ln h.Mons)=true->(ix r.Mons i mZ).Own=(ix h.Mons i mZ).Own
 pg:∀i k,hasB i (ln h.Mons)=true->hasB k 8=true->zbj r i k=zbj h i k
theorem Like.refl (h:Host):Like h h:=⟨rfl,λ_ _=>rfl,λ_ _=>rfl,λ_ _=>rfl,λ_ _=>rfl,λ_ _=>rfl,λ_ _ _ _=>rfl⟩
theorem Like.trans {a b c:Host}(x:Like a b)(y:Like b c):Like a c:=by have k:∀i,hasB i (ln a.Mons)=true->hasB i (ln b.Mons)=true:=λi e=>(by unfold ln at e ⊢;rwa [x.len]);exact⟨y.len.trans x.len,λi h=>(y.g i<|k i h).trans (x.g i h),λi h=>(y.o i<|k i h).trans (x.o i h),λi h=>(y.p i<|k i h).trans (x.p i h),λi h=>(y.tr i<|k i h).trans (x.tr i h),λi h=>(y.ow i<|k i h).trans (x.ow i h),λi q h d=>(y.pg i q (k i h) d).trans (x.pg i q h d)⟩
theorem Like.has {h r:Host}(k:Like h r){i:Int}:hasB i (ln r.Mons)=hasB i (ln h.Mons):=by unfold ln;rw[k.len]
theorem zjQ {h r:Host}{m:Int}:∀(n i:Nat),(∀k:Nat,i<=k->k<i+n->zbj r m (k:Int)=zbj h m (k:Int))->zbx r m n i=zbx h m n i
 | 0,i,_=>rfl
 |n+1,i,h=>by rw[zbx,zbx,h i (by omega) (by omega),zjQ n (i+1) λk a b=>h k (by omega) (by omega)]
theorem Like.seen {h r:Host}(k:Like h r)(m:Int):zT r m=zT h m:=by unfold zT;rw[k.has];cases a:hasB m (ln h.Mons) with|false=>rfl|true=>simp only[cond_true];rw[k.g m a,k.o m a,k.p m a,zjQ 8 0 λj b c=>k.pg m j a (zl.2 (by omega))]
theorem zgb {h:Host}{m p:Int}(a:hasB m (ln h.Mons)=true)(c:hasB p 8=true)(b:hasB p (ln (ix h.Mons m mZ).Outer)=true) :
 zbj h m p=bif ieq (ix (ix h.Mons m mZ).Outer p sZ).Page (-1) then zbl (ix h.Mons m mZ).Out p else zbl h.Memory (ix (ix h.Mons m mZ).Outer p sZ).Page:=by
 unfold zbj;have:zbo (ix h.Mons m mZ).Outer p=ix (ix h.Mons m mZ).Outer p sZ:=by unfold zbo;rw[b];rfl
 rw[a,c,cond_true,cond_true,this]
 by_cases e:(ix (ix h.Mons m mZ).Outer p sZ).Page = -1
 .rw [zba.2 e,show ine (ix (ix h.Mons m mZ).Outer p sZ).Page (-1)=false by simp[ine,e]];rfl
 .rw [zcB.2 e,show ine (ix (ix h.Mons m mZ).Outer p sZ).Page (-1)=true from zgU.2 e];rfl
theorem ze1 {m:List (List Int)}{p:Int}(h:hasB p (ln m)=true):zbl m p=ix m p []:=by unfold zbl;rw[h];rfl
theorem ztM {m:List (List Int)}(h:∀c∈m,zbL c=true)(p:Int):zbL (zbl m p)=true:=by unfold zbl;cases a:hasB p (ln m) with|false=>rfl|true=>exact h _ (zlg a _)
theorem zjI {h r:Host}(H:HOk h){m p:Int}(b:hasB m (ln h.Mons)=true)(i:hasB p 8=true){x:Mon}{s:Slot}{c:List Int}(n:r.Mons=up h.Mons m x)(k:Chg (ix h.Mons m mZ) x p s c)(u:SOk s)(t:zga s c=true)(f:r.Memory.length=12)(g:∀c∈r.Memory,zbL c=true)(j:zc7 r.Buffer=true)(l:zc7 r.IoBuffer=true)(v:0<=s.Page->s.Page=(ix (ix h.Mons m mZ).Outer p sZ).Page\/zch h.Mons s.Page=0):HOk r:=by refine H.up b ((H.mon b).chg i k u t) n f g j l λq z=>?_;have d:=zuQ ((H.mon b).hasO i) k.o q;by_cases e:s.Page=q;{have a:=v (by omega);rw[if_pos e]at d;rcases a with a|a;{rw [if_pos (by omega)]at d;left;omega};{right;rw[e] at a;refine⟨a,?_⟩;have:=zkJ b x q;have y:cPg (ix h.Mons m mZ) q<=zch h.Mons q:=(by have:=zkJ b (⟨[],[],[],[],[],0,0,[],0⟩:Mon) q;have w:cPg (⟨[],[],[],[],[],0,0,[],0⟩:Mon) q=0:=rfl;omega);omega}};{rw [if_neg e]at d;left;split at d<;>omega}
theorem zjv {h r:Host}(H:HOk h){m p:Int}(a:hasB m (ln h.Mons)=true)(y:hasB p 8=true){x:Mon}{s:Slot}{c:List Int}(n:r.Mons=up h.Mons m x)(k:Chg (ix h.Mons m mZ) x p s c)(B:(cond (ieq s.Page<|-1) c<|zbl r.Memory s.Page)=zbj h m p)(f:∀i q,hasB i (ln h.Mons)=true->hasB q 8=true->¬ (i=m/\q=p)->(ix (ix h.Mons i mZ).Outer q sZ).Page≠-1->zbl r.Memory (ix (ix h.Mons i mZ).Outer q sZ).Page=zbl h.Memory (ix (ix h.Mons i mZ).Outer q sZ).Page):Like h r:=by have l:=(zl.1 a).1;have t:=(zl.1 y).1;have e:∀{C:Type} (F:Mon->C),F x=F (ix h.Mons m mZ)->∀i,hasB i (ln h.Mons)=true->F (ix r.Mons i mZ)=F (ix h.Mons i mZ):=(by intro C F D i d;rw[n];by_cases e:m=i;{subst e;rw[zV a];exact D};{rw [zbv l (zl.1 d).1 e]});refine⟨by rw[n,zco],e Mon.Guests k.g,e Mon.Outs k.a1,e Mon.Pending k.a2,e Mon.Traps k.a3,e Mon.Own k.a4,λi q d b=>?_⟩;have A:hasB i (ln r.Mons)=true:=(by rw[n,zcP];exact d);have w:=(H.mon d).hasO b;have z:hasB q (ln (ix r.Mons i mZ).Outer)=true:=(by rw[n];by_cases e:m=i;{subst e;rw[zV a,k.o,zcP];exact w};{rw [zbv l (zl.1 d).1 e];exact w});rw[zgb A b z];by_cases e:m=i;{subst e;rw[n,zV a,k.o,k.u];by_cases v:p=q;{subst v;rw[zV<|(H.mon a).hasO y,<- B];cases ieq s.Page (-1);{rfl};{rw [cond_true,cond_true,ze1 (by rw[zcP];exact(H.mon a).hasU y),zV<|(H.mon a).hasU y]}};{rw [zbv t (zl.1 b).1 v,zgb a b w];by_cases j:(ix (ix h.Mons m mZ).Outer q sZ).Page = -1;{rw [zba.2 j,cond_true,cond_true,ze1 (by rw[zcP];exact(H.mon a).hasU b),ze1<|(H.mon a).hasU b,zbv t (zl.1 b).1 v]};{rw [zcB.2 j,cond_false,cond_false,f m q a b (λh=>v h.2.symm) j]}}};{rw [n,zbv l (zl.1 d).1 e,zgb d b w];by_cases j:(ix (ix h.Mons i mZ).Outer q sZ).Page = -1;{rw [zba.2 j,cond_true,cond_true]};{rw [zcB.2 j,cond_false,cond_false,f i q d b (λh=>e h.1.symm) j]}}
structure Op (h r:Host):Prop where
 ok:HOk r
 like:Like h r
 rt:Rt h->Rt r
theorem Op.refl {h:Host}(H:HOk h):Op h h:=⟨H,Like.refl h,id⟩
theorem Op.trans {a b c:Host}(x:Op a b)(y:Op b c):Op a c:=⟨y.ok,x.like.trans y.like,λh=>y.rt (x.rt h)⟩
theorem Op.safe {h r:Host}(k:Op h r)(s:Safe h):Safe r:=⟨k.ok,k.rt s.rt⟩
theorem zwf {h r:Host}(H:Rt h){m:Int}(l:hasB m (ln h.Mons)=true){x:Mon}(u:r.Mons=up h.Mons m x)(q:r.Buffer=h.Buffer)(s:r.IoBuffer=h.IoBuffer)(y:x.Guests.length=(ix h.Mons m mZ).Guests.length)(w:∀g,hasB g (ln (ix h.Mons m mZ).Guests)=true->(ix x.Guests g gZ).Live=(ix (ix h.Mons m mZ).Guests g gZ).Live)(z:x.Tables=(ix h.Mons m mZ).Tables)(v:x.Outer=(ix h.Mons m mZ).Outer):Rt r:=by have d:=(zl.1 l).1;have hg:∀g,hasB g (ln x.Guests)=hasB g (ln (ix h.Mons m mZ).Guests):=λg=>(by unfold ln;rw[y]);have f:∀e,zce h e=true->zce r e=true:=(by intro e c;obtain⟨n,i,p⟩:=zjh.1 c;rw[zjh,u,zcP];refine⟨n,?_⟩;by_cases b:m=zdo e.Tag;{rw [<- b]at n i p ⊢;rw[zV l,hg,w _ i,v];exact⟨i,p⟩};{rw [zbv d (zl.1 n).1 b];exact⟨i,p⟩});refine⟨λk j=>?_,λe c=>f e (H.e1 e (by rwa [q]at c)),λe c=>f e (H.e2 e (by rwa [s]at c))⟩;rw[u]at j ⊢;rw[zcP]at j;by_cases b:m=k;{subst b;rw[zV l];intro g a;rw[hg]at a;rw[z,w g a,v];exact H.t m l g a};{rw [zbv d (zl.1 j).1 b];exact H.t k j}
theorem zet {h h1:Host}{m p:Int}{s:Slot}{x:Mon}(a:hasB m (ln h.Mons)=true)(e:h1.Mons=up h.Mons m x):(zbw h1 m p s).Mons=up h.Mons m (zdK x p s):=by rw[zfN,e,zV a,zGW]
theorem zmj {x a:Mon}{p:Int}{s:Slot}{c:List Int}(h:a.Outer=x.Outer)(j:a.Out=up x.Out p c)(hg:a.Guests=x.Guests)(i:a.Tables=x.Tables)(g:a.Dirty.length=x.Dirty.length)(b:a.Outs=x.Outs)(d:a.Pending=x.Pending)(e:a.Traps=x.Traps)(f:a.Own=x.Own):Chg x (zdK a p s) p s c :=
 ⟨by show up a.Outer p s=_;rw[h],j,hg,by show (zf2 a.Guests p a.Tables.length a.Tables).length=_;rw[zno,i],g,b,d,e,f⟩
theorem zi5 {h:Host}{m p:Int}{s:Slot}(a:zc7 h.Buffer=true)(b:zc7 h.IoBuffer=true):zc7 (zbw h m p s).Buffer=true/\zc7 (zbw h m p s).IoBuffer=true:=by have:=ztU h m p s;rw[this.1,this.2];cases ieq (ix (ix h.Mons m mZ).Outer p sZ).Page (-1);{exact⟨zn9 a _,zn9 b _⟩};{exact⟨a,b⟩}
theorem zHv {h:Host}(H:HOk h){s:Slot}(b:SOk s)(a:s.Page≠-1):hasB s.Page (ln h.Memory)=true:=by have:=b.pos a;exact zl.2 ⟨this.1,by unfold ln;rw[H.m12];omega⟩
theorem zFG {h:Host}(H:HOk h){m p:Int}(b:hasB m (ln h.Mons)=true)(c:hasB p 8=true)(l:(ix (ix h.Mons m mZ).Outer p sZ).Page≠-1):Op h (zca h m p):=by
 have X:=H.mon b;have f:(zca h m p).Mons=up h.Mons m (zdK {ix h.Mons m mZ with Out:=up (ix h.Mons m mZ).Out p (zbl h.Memory (ix (ix h.Mons m mZ).Outer p sZ).Page)} p noSlot):=zet b rfl;have k:Chg (ix h.Mons m mZ) (zdK {ix h.Mons m mZ with Out:=up (ix h.Mons m mZ).Out p (zbl h.Memory (ix (ix h.Mons m mZ).Outer p sZ).Page)} p noSlot) p noSlot (zbl h.Memory (ix (ix h.Mons m mZ).Outer p sZ).Page):=zmj rfl rfl rfl rfl rfl rfl rfl rfl rfl;have a:(zca h m p).Memory=h.Memory:=zjX _ _ _ _;have g:=zi5 (h:=zcr h m p) (m:=m) (p:=p) (s:=noSlot) H.b1 H.b2;refine⟨zjI H b c f k (.inl rfl) ((zgP (.inl rfl)).2 ⟨λ_=>ztM H.pgs _,λh=>absurd rfl h⟩) (by rw[a];exact H.m12) (by rw[a];exact H.pgs) g.1 g.2 λh=>absurd h (by decide),
  zjv H b c f k ?_ (λi q _ _ _ _=>by rw[a]),λR=>?_⟩
 {rw [zgb b c<|X.hasO c,zcB.2 l];rfl};{have j:Rt (zcr h m p):=zwf (x:={ix h.Mons m mZ with Out:=up (ix h.Mons m mZ).Out p (zbl h.Memory (ix (ix h.Mons m mZ).Outer p sZ).Page)}) R b rfl rfl rfl rfl (λ_ _=>rfl) rfl rfl;have d:hasB m (ln (zcr h m p).Mons)=true:=(by show hasB m (ln<|up h.Mons m _)=true;rw[zcP];exact b);have e:ix (zcr h m p).Mons m mZ={ix h.Mons m mZ with Out:=up (ix h.Mons m mZ).Out p (zbl h.Memory (ix (ix h.Mons m mZ).Outer p sZ).Page)}:=zV b _ _;exact zlr j d (by rw[e];exact X.hasO c) (by rw[e];exact X.gt) noSlot}
theorem zoe {o:List Slot}{q:Int}:zgk o q=none↔o.countP (λs=>ieq s.Page q)=0:=by unfold zgk;rw[List.findIdx?_eq_none_iff,uO];simp
theorem zw4 {o:List Slot}{q:Int}{k:Nat}(h:zgk o q=some k):∃a:k<o.length,o[k].Page=q:=by unfold zgk at h;rw[uJ]at h;obtain⟨a,b,_⟩:=h;exact⟨a,zba.1 b⟩
theorem zln {q:Int}:∀(l:List Mon) (i:Nat),((zd2 q l i).1<0↔zch l q=0)/\(¬ (zd2 q l i).1<0->∃a b:Nat,∃f:a<l.length,∃g:b<l[a].Outer.length,zd2 q l i=(((i+a:Nat):Int),(b:Int))/\l[a].Outer[b].Page=q)
 |[],i=>⟨by simp[zd2,zch],λh=>absurd (show (-1:Int)<0 by decide) h⟩
 |x::l,i=>by have j:=zln (q:=q) l (i+1);unfold zd2;split;{rename_i k c;obtain⟨m,n⟩:=zw4 c;refine⟨⟨λh=>by simp at h;omega,λh=>?_⟩,λ_=>⟨0,k,by simp,m,by simp,n⟩⟩;exfalso;simp only[zch,qZ,kU]at h;have d:x.Outer.countP (λs=>ieq s.Page q)=0:=(by unfold cPg at h;omega);rw[zoe.2 d]at c;cases c};{rename_i c;have d:=zoe.1 c;refine⟨?_,λh=>?_⟩;{rw [j.1];simp only[zch,qZ,kU];unfold cPg;omega};{obtain⟨a,b,f,g,e,p⟩:=j.2 h;exact⟨a+1,b,by simpa using f,by simpa using g,by rw[e];simp;omega,by simpa using p⟩}}
theorem ziN {h:Host}{q:Int}(a:0<=q):(zO h q).1<0↔zch h.Mons q=0:=by unfold zO;rw[show ilt q 0=false from qW (by omega),cond_false];exact(zln h.Mons 0).1
theorem zv6 {h:Host}(H:HOk h){q:Int}(j:0<=q)(c:¬ (zO h q).1<0):hasB (zO h q).1 (ln h.Mons)=true/\hasB (zO h q).2 8=true/\(ix (ix h.Mons (zO h q).1 mZ).Outer (zO h q).2 sZ).Page=q:=by unfold zO at c ⊢;rw[show ilt q 0=false from qW (by omega),cond_false]at c ⊢;obtain⟨a,b,d,f,e,g⟩:=(zln h.Mons 0).2 c;rw[e,jQ];have i:=(H.mons _<|jU d).o8;exact⟨zl.2 (by unfold ln;simp;omega),zl.2 (by simp;omega),by rw[zhs d,zhs f];exact g⟩
theorem zvs {P:Nat->Bool}:∀{n i:Nat} {q:Int},q∈zhF P n i↔∃k:Nat,q=(k:Int)/\i<=k/\k<i+n/\P k=true
 | 0,i,q=>by simp[zhF];intro k _ _ _;omega
 |n+1,i,q=>by
  have d:=@zvs P n (i+1) q;unfold zhF;constructor
  .intro h;cases c:P i with
   |true=>rw[c,cond_true,qL]at h;rcases h with h|h;{exact⟨i,h,by omega,by omega,c⟩};{obtain⟨k,a,f,g,b⟩:=d.1 h;exact⟨k,a,by omega,by omega,b⟩}
   |false=>rw[c,cond_false]at h;obtain⟨k,a,f,g,b⟩:=d.1 h;exact⟨k,a,by omega,by omega,b⟩
  {rintro⟨k,a,f,g,b⟩;by_cases e:k=i;{subst e;rw[b,cond_true,a];exact qX};{have:=d.2 ⟨k,a,by omega,by omega,b⟩;cases P i;{exact this};{exact qR _ this}}}
theorem zk3 {h:Host}{q:Int}:q∈zbg h↔hasB q (ln h.Memory)=true/\zch h.Mons q=0:=by unfold zbg;rw[zvs];constructor;{rintro⟨k,rfl,b,c,d⟩;exact⟨zl.2 (by unfold ln;omega),(ziN (by omega)).1 (qP d)⟩};{rintro⟨b,c⟩;have a:=zl.1 b;unfold ln at a;refine⟨q.toNat,by omega,by omega,by omega,?_⟩;rw[show ((q.toNat:Nat):Int)=q by omega];exact qT ((ziN a.1).2 c)}
theorem zqJ {h:Host}(a:zbg h≠[]):hasB (ix (zbg h) 0 0) (ln h.Memory)=true/\zch h.Mons (ix (zbg h) 0 0)=0:=by refine zk3.1 (zlg (zl.2 ⟨by omega,?_⟩) 0);unfold ln;have:=k6.2 a;omega
structure But (h r:Host) (m p:Int):Prop where
 ne:∀i k,hasB i (ln h.Mons)=true->hasB k 8=true->¬ (i=m/\k=p)->ix (ix r.Mons i mZ).Outer k sZ=ix (ix h.Mons i mZ).Outer k sZ
theorem zoV {h r:Host}{m p:Int}(a:hasB m (ln h.Mons)=true)(j:hasB p 8=true){x:Mon}{s:Slot}(b:r.Mons=up h.Mons m x)(g:x.Outer=up (ix h.Mons m mZ).Outer p s):But h r m p:=by refine⟨λi k d f c=>?_⟩;rw[b];by_cases e:m=i;{subst e;rw[zV a,g,zbv (zl.1 j).1 (zl.1 f).1 λe=>c ⟨rfl,e.symm⟩]};{rw [zbv (zl.1 a).1 (zl.1 d).1 e]}
theorem zBm {h:Host}(H:HOk h){m p:Int}(a:hasB m (ln h.Mons)=true)(c:hasB p 8=true):But h (zca h m p) m p/\ix (ix (zca h m p).Mons m mZ).Outer p sZ=noSlot:=by have b:(zca h m p).Mons=up h.Mons m (zdK {ix h.Mons m mZ with Out:=up (ix h.Mons m mZ).Out p (zbl h.Memory (ix (ix h.Mons m mZ).Outer p sZ).Page)} p noSlot):=zet a rfl;refine⟨zoV a c b rfl,?_⟩;rw[b,zV a];exact zV ((H.mon a).hasO c) _ _
structure Roomy (h r:Host):Prop where
 op:Op h r
 free:zbg r≠[]
 sl:∀i k,hasB i (ln h.Mons)=true->hasB k 8=true->ix (ix r.Mons i mZ).Outer k sZ=ix (ix h.Mons i mZ).Outer k sZ\/ix (ix r.Mons i mZ).Outer k sZ=noSlot
 dirt:∀i,(ix r.Mons i mZ).Dirty=(ix h.Mons i mZ).Dirty
theorem zrY {h r:Host}{m:Int}(c:hasB m (ln h.Mons)=true){x:Mon}(a:r.Mons=up h.Mons m x)(b:x.Dirty=(ix h.Mons m mZ).Dirty)(i:Int):(ix r.Mons i mZ).Dirty=(ix h.Mons i mZ).Dirty:=by
 rw[a];by_cases e:i.toNat=m.toNat
 {have:∀l:List Mon,ix l i mZ=ix l m mZ:=λl=>(by unfold ix;rw[e]);rw[this,this,zV c,b]};{unfold ix up;simp[List.getD,qY,Ne.symm e]}
theorem roomy {h:Host}(H:HOk h):Roomy h (zbO h):=by unfold zbO;by_cases b:zbg h=[];{rw [show ieq (ln<|zbg h) 0=true by rw[b];rfl,cond_true];have p:¬ (zO h 0).1<0:=λd=>(by have:(0:Int)∈zbg h:=zk3.2 ⟨zl.2 (by unfold ln;rw[H.m12];omega),(ziN (by omega)).1 d⟩;rw[b] at this;cases this);obtain⟨a,c,f⟩:=zv6 H (by omega) p;have k:=zFG H a c (by rw[f];decide);have j:=zBm H a c;refine⟨k,λd=>?_,λi q g r=>?_,λi=>zrY (x:=zdK {ix h.Mons (zO h 0).1 mZ with Out:=up (ix h.Mons (zO h 0).1 mZ).Out (zO h 0).2 (zbl h.Memory (ix (ix h.Mons (zO h 0).1 mZ).Outer (zO h 0).2 sZ).Page)} (zO h 0).2 noSlot) a (zet a rfl) rfl i⟩;{have:(0:Int)∈zbg (zca h (zO h 0).1 (zO h 0).2):=(by refine zk3.2 ⟨zl.2 (by unfold ln;rw[k.ok.m12];omega),?_⟩;have n:(zca h (zO h 0).1 (zO h 0).2).Mons=up h.Mons (zO h 0).1 (zdK {ix h.Mons (zO h 0).1 mZ with Out:=up (ix h.Mons (zO h 0).1 mZ).Out (zO h 0).2 (zbl h.Memory (ix (ix h.Mons (zO h 0).1 mZ).Outer (zO h 0).2 sZ).Page)} (zO h 0).2 noSlot):=zet a rfl;have l:=zkJ a (zdK {ix h.Mons (zO h 0).1 mZ with Out:=up (ix h.Mons (zO h 0).1 mZ).Out (zO h 0).2 (zbl h.Memory (ix (ix h.Mons (zO h 0).1 mZ).Outer (zO h 0).2 sZ).Page)} (zO h 0).2 noSlot) 0;rw[<- n] at l;have m:=zuQ (x':=zdK {ix h.Mons (zO h 0).1 mZ with Out:=up (ix h.Mons (zO h 0).1 mZ).Out (zO h 0).2 (zbl h.Memory (ix (ix h.Mons (zO h 0).1 mZ).Outer (zO h 0).2 sZ).Page)} (zO h 0).2 noSlot) ((H.mon a).hasO c) (s:=noSlot) rfl 0;rw[if_pos f,if_neg (by decide)] at m;have t:=H.uq 0 (by omega);omega);rw[d] at this;cases this};{by_cases e:i=(zO h 0).1/\q=(zO h 0).2;{rw [e.1,e.2];exact .inr j.2};{exact .inl (j.1.ne i q g r e)}}};{have:ieq (ln<|zbg h) 0=false:=zcB.2 (by unfold ln;have:=k6.2 b;omega);rw[this,cond_false];exact⟨Op.refl H,b,λi k g u=>.inl rfl,λ_=>rfl⟩}
theorem zxA {m:List (List Int)}{p:Int}{c:List Int}(b:hasB p (ln m)=true)(a:zbL c=true):zf3 m p c=up m p c:=by unfold zf3;rw[b,a];rfl
theorem zmU {m:List (List Int)}{p q:Int}{c:List Int}(a:0<=p)(h:q≠p):zbl (up m p c) q=zbl m q:=by unfold zbl;rw[zcP];cases b:hasB q (ln m) with|false=>rfl|true=>rw[cond_true,cond_true,zbv a (zl.1 b).1<|Ne.symm h]
theorem ziO {m:List (List Int)}{p:Int}{c:List Int}(a:hasB p (ln m)=true):zbl (up m p c) p=c:=by rw[ze1 (by rw[zcP];exact a),zV a]
theorem zrj {h:Host}(H:HOk h){m p a:Int}(d:hasB m (ln h.Mons)=true)(f:hasB p 8=true)(z:(ix (ix h.Mons m mZ).Outer p sZ).Page = -1)(u:hasB a (ln h.Memory)=true)(B:zch h.Mons a=0) :
 Op h (zcz h m p a)/\But h (zcz h m p a) m p/\ix (ix (zcz h m p a).Mons m mZ).Outer p sZ=⟨a,3⟩/\∀i,(ix (zcz h m p a).Mons i mZ).Dirty=(ix h.Mons i mZ).Dirty:=by
 have X:=H.mon d;have g:=zl.1 u;unfold ln at g;rw[H.m12]at g;have l:(zcz h m p a).Mons=up h.Mons m (zdK {ix h.Mons m mZ with Out:=up (ix h.Mons m mZ).Out p []} p ⟨a,3⟩):=zet d rfl;have k:Chg (ix h.Mons m mZ) (zdK {ix h.Mons m mZ with Out:=up (ix h.Mons m mZ).Out p []} p ⟨a,3⟩) p ⟨a,3⟩ []:=zmj rfl rfl rfl rfl rfl rfl rfl rfl rfl;have j:=((zgP<|X.slot f).1 (X.fit p f)).1 z;have b:(zcz h m p a).Memory=up h.Memory a (ix (ix h.Mons m mZ).Out p []):=by show (zbw (landing h m p a) m p ⟨a,3⟩).Memory=_;rw[zjX];exact zxA u j
 have A:SOk ⟨a,3⟩:=.inr ⟨g.1,by show a<=11;omega,by show (1:Int)<=3;omega,by show (3:Int)<=3;omega⟩
 have w:=zi5 (h:=landing h m p a) (m:=m) (p:=p) (s:=⟨a,3⟩) H.b1 H.b2;refine⟨⟨zjI H d f l k A ((zgP A).2 ⟨λh=>absurd h (by show a≠-1;omega),λ_=>⟨show enough 3 1=true by decide,rfl⟩⟩) (by rw[b,zco];exact H.m12) (λc r=>?_) w.1 w.2 λ_=>.inr B,
  zjv H d f l k ?_ λi q y D r C=>?_,λR=>?_⟩,zoV d f l rfl,?_,λi=>zrY (x:=zdK {ix h.Mons m mZ with Out:=up (ix h.Mons m mZ).Out p []} p ⟨a,3⟩) d l rfl i⟩
 .rw [b]at r;rcases jD r with n|n
  .exact H.pgs c n
  .rw [n];exact j
 .rw [zgb d f<|X.hasO f,zba.2 z,cond_true,ze1<|X.hasU f];rw[show ieq (⟨a,3⟩:Slot).Page (-1)=false from zcB.2 (by show a≠-1;omega),cond_false,b]
  exact ziO u
 .rw [b];refine zmU g.1 (λe=>?_);have:=zoW y ((H.mon y).hasO D);rw[e] at this;omega
 .have R1:Rt (landing h m p a):=zwf (x:={ix h.Mons m mZ with Out:=up (ix h.Mons m mZ).Out p []}) R d rfl rfl rfl rfl (λ_ _=>rfl) rfl rfl;have t:hasB m (ln (landing h m p a).Mons)=true:=by show hasB m (ln<|up h.Mons m _)=true;rw[zcP];exact d
  have v:ix (landing h m p a).Mons m mZ={ix h.Mons m mZ with Out:=up (ix h.Mons m mZ).Out p []}:=zV d _ _;exact zlr R1 t (by rw[v];exact X.hasO f) (by rw[v];exact X.gt) _
 .rw [l,zV d];exact zV (X.hasO f) _ _
theorem zrl {h:Host}(H:HOk h){m p:Int}(f:hasB m (ln h.Mons)=true)(g:hasB p 8=true)(k:(ix (ix h.Mons m mZ).Outer p sZ).Page = -1) :
 Op h (fetched h m p)/\(∃e,0<=e/\e<=11/\ix (ix (fetched h m p).Mons m mZ).Outer p sZ=⟨e,3⟩)/\∀i,(ix (fetched h m p).Mons i mZ).Dirty=(ix h.Mons i mZ).Dirty:=by
 have R:=roomy H;have c:hasB m (ln (zbO h).Mons)=true:=by rw[R.op.like.has];exact f
 have d:(ix (ix (zbO h).Mons m mZ).Outer p sZ).Page = -1:=by rcases R.sl m p f g with b|b<;>rw [b];{exact k};{rfl}
 obtain⟨b,j⟩:=zqJ R.free;obtain⟨l,r,n,q⟩:=zrj R.op.ok c g d b j;have a:=zl.1 b;unfold ln at a;rw[R.op.ok.m12]at a;exact⟨R.op.trans l,⟨_,a.1,by omega,n⟩,λi=>(q i).trans (R.dirt i)⟩
theorem zBq {o:List Slot}{p:Int}(h:hasB p (ln o)=true):zbo o p=ix o p sZ:=by unfold zbo;rw[h];rfl
theorem ze2 {h:Host}(H:HOk h){m p:Int}(a:hasB m (ln h.Mons)=true)(b:hasB p 8=true) :
 (cond (ieq (ix (ix h.Mons m mZ).Outer p sZ).Page<|-1) (ix (ix h.Mons m mZ).Out p [])<|zbl h.Memory (ix (ix h.Mons m mZ).Outer p sZ).Page)=zbj h m p:=by
 rw[zgb a b<|(H.mon a).hasO b,ze1<|(H.mon a).hasU b]
structure Mark (x y:Mon):Prop where
 o:y.Outer=x.Outer
 u:y.Out=x.Out
 g:y.Guests=x.Guests
 t:y.Tables=x.Tables
 d:y.Dirty.length=x.Dirty.length
 a1:y.Outs=x.Outs
 a2:y.Pending=x.Pending
 a3:y.Traps=x.Traps
 a4:y.Own=x.Own
theorem zFF {h:Host}(H:HOk h){m:Int}(b:hasB m (ln h.Mons)=true){y:Mon}(k:Mark (ix h.Mons m mZ) y):Op h {h with Mons:=up h.Mons m y}/\∀i q,ix (ix (up h.Mons m y) i mZ).Outer q sZ=ix (ix h.Mons i mZ).Outer q sZ:=by
 have X:=H.mon b;have a:hasB 0 8=true:=(by decide);have c:Chg (ix h.Mons m mZ) y 0 (ix (ix h.Mons m mZ).Outer 0 sZ) (ix (ix h.Mons m mZ).Out 0 []):=⟨by rw[zpS<|X.hasO a,k.o],by rw[zpS<|X.hasU a,k.u],k.g,by rw[k.t],k.d,k.a1,k.a2,k.a3,k.a4⟩
 refine⟨⟨zjI H b a rfl c (X.slot a) (X.fit 0 a) H.m12 H.pgs H.b1 H.b2 λ_=>.inl rfl,zjv H b a rfl c (ze2 H b a) λ_ _ _ _ _ _=>rfl,
  λR=>zwf R b rfl rfl rfl (by rw[k.g]) (λg _=>by rw[k.g]) k.t k.o⟩,λi q=>?_⟩
 by_cases e:i.toNat=m.toNat
 {have:∀l:List Mon,ix l i mZ=ix l m mZ:=λl=>(by unfold ix;rw[e]);rw[this,this,zV b,k.o]};{have:ix (up h.Mons m y) i mZ=ix h.Mons i mZ:=(by unfold ix up;simp[List.getD,qY,Ne.symm e]);rw[this]}
theorem zrk {h:Host}(H:HOk h){m:Int}(a:hasB m (ln h.Mons)=true)(p:Int):Op h (zbd h m p)/\∀i q,ix (ix (zbd h m p).Mons i mZ).Outer q sZ=ix (ix h.Mons i mZ).Outer q sZ :=
 zFF H a ⟨rfl,rfl,rfl,rfl,zco _ _ _,rfl,rfl,rfl,rfl⟩
theorem rights {r:Int}(a:1<=r)(b:r<=3):r=1\/r=2\/r=3:=by omega
theorem MOk.enough1 {x:Mon}(X:MOk x){p:Int}(a:hasB p 8=true)(d:(ix x.Outer p sZ).Page≠-1):(ix x.Outer p sZ).Rights=1\/(ix x.Outer p sZ).Rights=3:=by have b:=(((zgP<|X.slot a).1 (X.fit p a)).2 d).1;have c:=(X.slot a).pos d;rcases rights c.2.2.1 c.2.2.2 with e|e|e;{exact .inl e};{rw [e]at b;exact absurd b (by decide)};{exact .inr e}
theorem ztI {h:Host}(H:HOk h){m p:Int}(c:hasB m (ln h.Mons)=true)(b:hasB p 8=true)(g:(ix (ix h.Mons m mZ).Outer p sZ).Page≠-1){r:Int}(n:r=1\/r=3) :
 Op h (zbw h m p ⟨(ix (ix h.Mons m mZ).Outer p sZ).Page,r⟩)/\But h (zbw h m p ⟨(ix (ix h.Mons m mZ).Outer p sZ).Page,r⟩) m p/\
  ix (ix (zbw h m p ⟨(ix (ix h.Mons m mZ).Outer p sZ).Page,r⟩).Mons m mZ).Outer p sZ=⟨(ix (ix h.Mons m mZ).Outer p sZ).Page,r⟩/\∀i,(ix (zbw h m p ⟨(ix (ix h.Mons m mZ).Outer p sZ).Page,r⟩).Mons i mZ).Dirty=(ix h.Mons i mZ).Dirty:=by
 have X:=H.mon c;have d:=(X.slot b).pos g;have e:=zfN h m p ⟨(ix (ix h.Mons m mZ).Outer p sZ).Page,r⟩;have k:Chg (ix h.Mons m mZ) (zdK (ix h.Mons m mZ) p ⟨(ix (ix h.Mons m mZ).Outer p sZ).Page,r⟩) p ⟨(ix (ix h.Mons m mZ).Outer p sZ).Page,r⟩ (ix (ix h.Mons m mZ).Out p []):=
  zmj rfl (zpS (X.hasU b) _).symm rfl rfl rfl rfl rfl rfl rfl
 have l:SOk ⟨(ix (ix h.Mons m mZ).Outer p sZ).Page,r⟩:=.inr ⟨d.1,d.2.1,by show 1<=r;omega,by show r<=3;omega⟩
 have f:=((zgP<|X.slot b).1 (X.fit p b)).2 g;have j:=zi5 (h:=h) (m:=m) (p:=p) (s:=⟨(ix (ix h.Mons m mZ).Outer p sZ).Page,r⟩) H.b1 H.b2;have a:=zjX h m p ⟨(ix (ix h.Mons m mZ).Outer p sZ).Page,r⟩;refine⟨⟨zjI H c b e k l ((zgP l).2 ⟨λh=>absurd h g,λ_=>⟨?_,f.2⟩⟩) (by rw[a];exact H.m12) (by rw[a];exact H.pgs) j.1 j.2 λ_=>.inl rfl,
  zjv H c b e k (by rw[a];exact ze2 H c b) (λi q _ _ _ _=>by rw[a]),λR=>zlr R c (X.hasO b) X.gt _⟩,zoV c b e rfl,?_,λi=>zrY c e rfl i⟩
 .show enough r 1=true
  rcases n with rfl|rfl<;>decide
 .rw [e,zV c];exact zV (X.hasO b) _ _
structure Mended (h r:Host) (m p n:Int):Prop where
 op:Op h r
 inn:(ix (ix r.Mons m mZ).Outer p sZ).Page≠-1
 ri:ieq (wand .i64 n 2) 0=false->(ix (ix r.Mons m mZ).Outer p sZ).Rights=3
 dt:ieq (wand .i64 n 2) 0=false->ix (ix r.Mons m mZ).Dirty p false=true
 d0:ieq (wand .i64 n 2) 0=true->(ix r.Mons m mZ).Dirty=(ix h.Mons m mZ).Dirty
 dk:∀k,hasB k 8=true->k≠p->ix (ix r.Mons m mZ).Dirty k false=ix (ix h.Mons m mZ).Dirty k false
 dm:∀i,hasB i (ln h.Mons)=true->i≠m->(ix r.Mons i mZ).Dirty=(ix h.Mons i mZ).Dirty
theorem zv4 {h:Host}(H:HOk h){m p:Int}(n:Int)(c:hasB m (ln h.Mons)=true)(g:hasB p 8=true)(v:(ix (ix h.Mons m mZ).Outer p sZ).Page≠-1):Mended h (zeL h m p n) m p n:=by
 unfold zeL;cases s:ieq (wand .i64 n 2) 0 with
 |true=>exact⟨Op.refl H,v,λe=>Bool.noConfusion<|s.symm.trans e,λe=>Bool.noConfusion<|s.symm.trans e,λ_=>rfl,λ_ _ _=>rfl,λ_ _ _=>rfl⟩
 |false=>rw[cond_false];obtain⟨f,C⟩:=zrk H c p;have d:hasB m (ln (zbd h m p).Mons)=true:=(by rw[f.like.has];exact c);have a:(ix (ix (zbd h m p).Mons m mZ).Outer p sZ).Page≠-1:=(by rw[C];exact v);have u:(ix (zbd h m p).Mons m mZ).Dirty=up (ix h.Mons m mZ).Dirty p true:=(by show (ix (up h.Mons m _) m mZ).Dirty=_;rw[zV c]);have l:∀i,hasB i (ln h.Mons)=true->i≠m->(ix (zbd h m p).Mons i mZ).Dirty=(ix h.Mons i mZ).Dirty:=λi q b=>(by show (ix (up h.Mons m _) i mZ).Dirty=_;rw[zbv (zl.1 c).1 (zl.1 q).1<|Ne.symm b]);have A:=(f.ok.mon d).enough1 g a;have t:∀r:Host,(∀i,(ix r.Mons i mZ).Dirty=(ix (zbd h m p).Mons i mZ).Dirty)->Op (zbd h m p) r->(ix (ix r.Mons m mZ).Outer p sZ).Page≠-1->(ix (ix r.Mons m mZ).Outer p sZ).Rights=3->Mended h r m p n:=(by intro r j x y z;refine⟨f.trans x,y,λ_=>z,λ_=>?_,λe=>Bool.noConfusion<|s.symm.trans e,λk B b=>?_,λi q b=>by rw[j,l i q b]⟩;{rw [j,u,zV<|(H.mon c).hasD g]};{rw [j,u,zbv (zl.1 g).1 (zl.1 B).1<|Ne.symm b]});unfold opened;rcases A with e|e;{rw [e,show ieq (wand .i64 1 2) 0=true by decide,cond_true];obtain⟨D,F,w,E⟩:=ztI f.ok d g a (r:=3) (.inr rfl);exact t _ E D (by rw[w];exact a) (by rw[w])};{rw [e,show ieq (wand .i64 3 2) 0=false by decide,cond_false];exact t _ (λ_=>rfl) (Op.refl f.ok) a e}
theorem ztH {h:Host}(H:HOk h){m p:Int}(n:Int)(c:hasB m (ln h.Mons)=true)(d:hasB p 8=true):Mended h (mended h m p n) m p n:=by unfold mended;by_cases e:(ix (ix h.Mons m mZ).Outer p sZ).Page = -1;{rw [zba.2 e,cond_true];obtain⟨a,⟨q,r,s,l⟩,f⟩:=zrl H c d e;have K:=zv4 a.ok n (by rw[a.like.has];exact c) d (by rw[l];show q≠-1;omega);exact⟨a.trans K.op,K.inn,K.ri,K.dt,λe=>by rw[K.d0 e,f],λk j b=>by rw[K.dk k j b,f],λi g b=>by rw[K.dm i (by rw[a.like.has];exact g) b,f]⟩};{rw [zcB.2 e,cond_false];exact zv4 H n c d e}
theorem ziP {h:Host}{m p:Int}:zdc h m p=true↔HOk h/\hasB m (ln h.Mons)=true/\hasB p 8=true:=by unfold zdc;rw[zbV,zbV,zr4]
structure KeepP (x y:Mon):Prop where
 o:y.Outer=x.Outer
 u:y.Out=x.Out
structure GOk (x:Guest):Prop where
 prog:zfD x.Prog=true
 a:zi x.A 0 99=true
 pc:zi x.Pc 0 12=true
 w:zcg x.Written 4 8=true
 l:zcg x.Live 4 8=true
 ctl:zqA x.Ctl=true
 pend:ze4 x.Pending=true
 ex:zmu x.Exit=true
 seen:ile (ln x.Seen) 40=true
theorem zxS {x:Guest}:zc9 x=true↔GOk x:=by unfold zc9;simp only[qD];exact⟨λ⟨a,b,c,d,e,f,g,h,i⟩=>⟨a,b,c,d,e,f,g,h,i⟩,λ⟨a,b,c,d,e,f,g,h,i⟩=>⟨a,b,c,d,e,f,g,h,i⟩⟩
theorem HOk.guest {h:Host}(H:HOk h){m g:Int}(a:hasB m (ln h.Mons)=true)(hg:hasB g (ln (ix h.Mons m mZ).Guests)=true):GOk (ix (ix h.Mons m mZ).Guests g gZ):=zxS.1 ((H.mon a).gs _ (zlg hg _))
structure Walked (l:List Slot) (p n q:Int):Prop where
 hp:hasB p (ln l)=true
 pg:(ix l p sZ).Page=q
 q8:hasB q 8=true
 en:enough (ix l p sZ).Rights n=true
structure Looked (h r:Host) (m g page need q host:Int):Prop where
 op:Op h r
 inn:(ix (ix r.Mons m mZ).Outer q sZ).Page=host
 ne:host≠-1
 en:enough (zbq (ix (ix (ix h.Mons m mZ).Guests g gZ).Live page sZ) (ix r.Mons m mZ).Outer).Rights need=true
 cp:(zbq (ix (ix (ix h.Mons m mZ).Guests g gZ).Live page sZ) (ix r.Mons m mZ).Outer).Page=host
 dk:∀k,hasB k 8=true->k≠q->ix (ix r.Mons m mZ).Dirty k false=ix (ix h.Mons m mZ).Dirty k false
 dq:need=2->ix (ix r.Mons m mZ).Dirty q false=true
 d1:need=1->(ix r.Mons m mZ).Dirty=(ix h.Mons m mZ).Dirty
 dm:∀i,hasB i (ln h.Mons)=true->i≠m->(ix r.Mons i mZ).Dirty=(ix h.Mons i mZ).Dirty
theorem zF2 {x y:Int}(a : -9223372036854775808<=x+y)(b:x+y<=9223372036854775807):zQ .i64 x y=x+y:=by unfold zQ;simp only[IntKind.wrap,IntKind.signed,IntKind.bits];simp;omega
structure GKeep (x y:Guest):Prop where
 ok:GOk y
 live:y.Live=x.Live
theorem zh2 {c:List Int}:zbL c=true↔(∀x∈c,zi x 0 99=true)/\ln c=4:=by unfold zbL;rw[zbV,qJ,zba]
theorem zfC (h:Host)(m:Int):∀(n i:Nat),(zbx h m n i).length=n
 | 0,_=>rfl
 |n+1,i=>by rw[zbx,qU,zfC h m n]
theorem zro (h:Host)(m:Int):∀(n i k:Nat) (a:k<(zbx h m n i).length),(zbx h m n i)[k]=zbj h m ((i+k:Nat):Int)
 | 0,i,k,a=>by simp[zbx]at a
 |n+1,i,k,a=>by cases k with|zero=>rfl|succ k=>have:=zro h m n (i+1) k (by simpa [zbx] using a);simp only[zbx,List.getElem_cons_succ];rw[this];congr 1;omega
theorem zfU {h:Host}{m q:Int}(b:hasB q 8=true)(d:List Int):ix (zbx h m 8 0) q d=zbj h m q:=by have c:=zl.1 b;have a:q.toNat<(zbx h m 8 0).length:=(by rw[zfC];omega);have:=zhs a d;rw[show ((q.toNat:Nat):Int)=q by omega] at this;rw[this,zro];congr 1;omega
theorem ziQ (h:Host)(m:Int):ln (zbx h m 8 0)=8:=by unfold ln;rw[zfC];rfl
theorem zlo {h:Host}(H:HOk h){m p:Int}(b:hasB m (ln h.Mons)=true)(a:hasB p 8=true):zbL (zbj h m p)=true:=by have X:=H.mon b;rw[<- ze2 H b a];by_cases e:(ix (ix h.Mons m mZ).Outer p sZ).Page = -1;{rw [zba.2 e];exact((zgP<|X.slot a).1 (X.fit p a)).1 e};{rw [zcB.2 e];exact ztM H.pgs _}
theorem zFS {h:Host}(H:HOk h){m:Int}(b:hasB m (ln h.Mons)=true):zcp (zT h m)=true:=by have X:=H.mon b;unfold zT;rw[b,cond_true];unfold zcp zfK;rw[zbV,qJ];refine⟨X.gs,?_⟩;simp only[qD,zbV,qJ,zba,zge];refine⟨⟨λc d=>?_,ziQ h m⟩,⟨?_,?_⟩,?_,X.pend⟩;{obtain⟨i,a,rfl⟩:=zAS d [];rw[ziQ]at a;rw[zfU a];exact zlo H b a};{unfold ln;have:=X.g1;omega};{unfold ln;have:=X.g2;omega};{unfold ile ln;have:=X.outs;exact qT (by omega)}
structure SimT (h r:Host) (m:Int) (f:Bare->Bare):Prop where
 safe:Safe r
 seen:∀i,zT r i=bif ieq i m then f (zT h i) else zT h i
 len:r.Mons.length=h.Mons.length
theorem SimT.trans {a b c:Host}{m:Int}{f g:Bare->Bare}(x:SimT a b m f)(y:SimT b c m g):SimT a c m (λt=>g (f t)):=by refine⟨y.safe,λi=>?_,y.len.trans x.len⟩;rw[y.seen i,x.seen i];cases ieq i m<;>rfl
theorem Op.sim {h r:Host}(k:Op h r)(S:Safe h)(m:Int):SimT h r m id:=⟨k.safe S,λi=>by rw[k.like.seen i];cases ieq i m<;>rfl,k.like.len⟩
theorem SimT.congr {h r:Host}{m:Int}{f g:Bare->Bare}(x:SimT h r m f)(e:f (zT h m)=g (zT h m)):SimT h r m g:=by refine⟨x.safe,λi=>?_,x.len⟩;rw[x.seen i];by_cases a:i=m;{subst a;rw[zba.2 rfl,cond_true,cond_true,e]};{rw [zcB.2 a];rfl}
theorem SimT.has {h r:Host}{m:Int}{f:Bare->Bare}(x:SimT h r m f)(i:Int):hasB i (ln r.Mons)=hasB i (ln h.Mons):=by unfold ln;rw[x.len]
theorem SimT.refl {h:Host}(S:Safe h)(m:Int):SimT h h m id:=⟨S,λi=>by cases ieq i m<;>rfl,rfl⟩
theorem zBp {h:Host}(S:Safe h){m q a:Int}(l:hasB m (ln h.Mons)=true)(f:hasB q 8=true)(J:(ix (ix h.Mons m mZ).Outer q sZ).Page=a)(y:a≠-1)(c v:Int) :
 SimT h {h with Memory:=zW h.Memory a c v} m (λb=>{b with Memory:=zW b.Memory q c v})/\cellAt h.Memory a c=cellAt (zT h m).Memory q c:=by
 have H:=S.ok;have X:=H.mon l;have N:=X.slot f;have E:=zHv H N (by rw[J];exact y)
 rw[J]at E;have z:ix h.Memory a []=zbj h m q:=by have:=ze2 H l f;rw[J,zcB.2 y,cond_false,ze1 E] at this;exact this
 have n:ln (zbj h m q)=4:=(zh2.1<|zlo H l f).2;have d:(zT h m).Memory=zbx h m 8 0:=by unfold zT;rw[l];rfl
 have C:zdG h.Memory a c=hasB c 4:=by unfold zdG;rw[E,cond_true,z,n]
 have D:zdG (zbx h m 8 0) q c=hasB c 4:=by unfold zdG;rw[ziQ,f,cond_true,zfU f,n]
 have u:cellAt h.Memory a c=cellAt (zT h m).Memory q c:=by rw[d];unfold cellAt;rw[C,D,z,zfU f]
 refine⟨?_,u⟩;cases A:hasB c 4 with
 |false=>have s:zW h.Memory a c v=h.Memory:=(by unfold zW;rw[C,A];rfl);rw[s];refine(SimT.refl S m).congr ?_;show zT h m={zT h m with Memory:=zW (zT h m).Memory q c v};rw[d];have B:zW (zbx h m 8 0) q c v=zbx h m 8 0:=(by unfold zW;rw[D,A];rfl);rw[B,<- d]
 |true=>
  cases K:zi v 0 99 with
  |false=>have s:zW h.Memory a c v=h.Memory:=(by unfold zW;rw[C,A,K];rfl);rw[s];refine(SimT.refl S m).congr ?_;show zT h m={zT h m with Memory:=zW (zT h m).Memory q c v};rw[d];have B:zW (zbx h m 8 0) q c v=zbx h m 8 0:=(by unfold zW;rw[D,A,K];rfl);rw[B,<- d]
  |true=>have s:zW h.Memory a c v=up h.Memory a (up (zbj h m q) c v):=(by unfold zW;rw[C,A,K,z];rfl);have B:zW (zbx h m 8 0) q c v=up (zbx h m 8 0) q (up (zbj h m q) c v):=(by unfold zW;rw[D,A,K,zfU f];rfl);have G:zbL (up (zbj h m q) c v)=true:=(by have:=zh2.1 (zlo H l f);rw[zh2,zcP];refine⟨λx O=>?_,this.2⟩;rcases jD O with h|h;{exact this.1 x h};{rw [h];exact K});have P:=(zl.1 E).1;have L:HOk {h with Memory:=zW h.Memory a c v}:=(by rw[s];refine⟨by show (up _ _ _).length=12;rw[zco];exact H.m12,λx O=>?_,H.n1,H.n3,H.b1,H.b2,H.mons,H.uq⟩;rcases jD O with h|h;{exact H.pgs x h};{rw [h];exact G});refine⟨⟨L,⟨S.rt.t,S.rt.e1,S.rt.e2⟩⟩,λi=>?_,rfl⟩;have r:∀i k,hasB i (ln h.Mons)=true->hasB k 8=true->¬ (i=m/\k=q)->zbj {h with Memory:=zW h.Memory a c v} i k=zbj h i k:=(by intro i k w g I;rw[<- ze2 L (m:=i) (p:=k) w g,<- ze2 H w g];show (cond (ieq (ix (ix h.Mons i mZ).Outer k sZ).Page<|-1) _<|zbl (zW h.Memory a c v) _)=_;by_cases e:(ix (ix h.Mons i mZ).Outer k sZ).Page = -1;{rw [zba.2 e];rfl};{rw [zcB.2 e,cond_false,cond_false,s];exact zmU P (λe=>I (H.uniq w g l f e J P))});have F:zbj {h with Memory:=zW h.Memory a c v} m q=up (zbj h m q) c v:=(by rw[<- ze2 L (m:=m) (p:=q) l f];show (cond (ieq (ix (ix h.Mons m mZ).Outer q sZ).Page<|-1) _<|zbl (zW h.Memory a c v) (ix (ix h.Mons m mZ).Outer q sZ).Page)=_;rw[J,zcB.2 y,cond_false,s];exact ziO E);by_cases w:i=m;{subst w;rw[zba.2 rfl,cond_true];unfold zT;show (cond (hasB i<|ln h.Mons) _ _)=_;rw[l,cond_true,cond_true];show Bare.mk (zbx {h with Memory:=zW h.Memory a c v} i 8 0) _ _ _=Bare.mk (zW (zbx h i 8 0) q c v) _ _ _;congr 1;rw[B];refine zFz [] (by rw[zco,zfC,zfC]) λk g=>?_;rw[ziQ]at g;rw[zfU g];by_cases e:q=k;{subst e;rw[zV (by rw[ziQ];exact f),F]};{rw [zbv (zl.1 f).1 (zl.1 g).1 e,zfU g];exact r i k l g (λh=>e h.2.symm)}};{rw [zcB.2 w,cond_false];unfold zT;show (cond (hasB i<|ln h.Mons) _ _)=_;cases M:hasB i (ln h.Mons) with|false=>rfl|true=>rw[cond_true,cond_true];show Bare.mk (zbx {h with Memory:=zW h.Memory a c v} i 8 0) _ _ _=_;rw[zjQ 8 0 λj C D=>r i (j:Int) M (zl.2 (by omega)) λh=>w h.1]}
structure BackOk (b c:Bare):Prop where
 m:c.Memory=b.Memory
 o:c.Outs=b.Outs
 n:c.Guests.length=b.Guests.length
 g:∀j,hasB j (ln b.Guests)=true->GKeep (ix b.Guests j gZ) (ix c.Guests j gZ)
 p:ze4 b.Pending=true->ze4 c.Pending=true
theorem seen_none {h:Host}{m:Int}(a:hasB m (ln h.Mons)=false):zT h m=⟨[],[],[],0⟩:=by unfold zT;rw[a];rfl
theorem zFC:zcp ⟨[],[],[],0⟩=false:=by decide
theorem zwc {h:Host}(S:Safe h)(m p c v:Int):SimT h (zcS h m p c v) m (λb=>zfL b p c v)/\zbB h m p c v=zey (zT h m) p c v:=by have e:zbB h m p c v=zey (zT h m) p c v:=(by unfold zbB zey zdc zrp;rw[zr4.2 S.ok,cond_true];cases d:hasB m (ln h.Mons) with|false=>rw[seen_none d,zFC];rfl|true=>rw[zFS S.ok d,cond_true];rfl);refine⟨?_,e⟩;unfold zcS;cases f:zbB h m p c v with|false=>refine(SimT.refl S m).congr ?_;unfold zfL;rw[<- e,f];rfl|true=>rw[cond_true];have a:=f;unfold zbB at a;rw[zbV,zbV]at a;obtain⟨k,_,_⟩:=a;obtain⟨_,d,j⟩:=ziP.1 k;have M:=ztH S.ok (m:=m) (p:=p) 2 d j;have i:=M.op.sim S m;have g:hasB m (ln (mended h m p 2).Mons)=true:=(by rw[i.has];exact d);obtain⟨l,_⟩:=zBp i.safe g j rfl M.inn c v;refine(i.trans l).congr ?_;unfold zfL;rw[<- e,f];rfl
def zE0 (h:Host):List Bare:=(List.range h.Mons.length).map λ(i:Nat)=>zT h (i:Int)
structure Live (u:Host×List Told) (v:List Bare×List Told):Prop where
 safe:Safe u.1
 seen:zE0 u.1=v.1
theorem cz8 (q:Int)(b:0<=q):zi4.countP (λs=>ieq s.Page q)=0:=by rw[uO];intro s a;have:=(uA.1 a).2;rw[this];show ¬ ieq (-1) q=true;rw[zba];omega
theorem zw9 {p:List Ins}(h:zfD p=true):GOk (zct p):=⟨h,rfl,rfl,rfl,rfl,rfl,rfl,rfl,rfl⟩
theorem zAV {a:List (List Ins)}(i:1<=a.length)(h:∀p∈a,zfD p=true):MOk (zdn a):=by have d:∀s∈zi4,s=noSlot:=λs c=>(uA.1 c).2;refine⟨?_,?_,?_,rfl,λs c=>.inl (d s c),rfl,rfl,kA _,rfl,rfl,rfl,λg hg=>?_,λp b=>?_⟩;{show 1<=((a.take 2).map zct).length;simp;omega};{show ((a.take 2).map zct).length<=2;simp;omega};{show ((a.take 2).map λ_=>zeF).length=((a.take 2).map zct).length;simp};{obtain⟨p,b,rfl⟩:=jE.1 hg;exact zxS.2 (zw9<|h p<|jX b)};{have f:=zl.1 b;have e:p=0\/p=1\/p=2\/p=3\/p=4\/p=5\/p=6\/p=7:=(by omega);rcases e with rfl|rfl|rfl|rfl|rfl|rfl|rfl|rfl<;>rfl}
def zxF (a:List (List<|List Ins)):Prop:=1<=a.length/\∀p∈a,1<=p.length/\∀x∈p,zfD x=true
theorem zy3 {a:List (List<|List Ins)}(h:zxF a):Safe (zbW a):=by have b:∀x∈(zbW a).Mons,∃p∈a,x=zdn p:=λx f=>(by obtain⟨p,j,rfl⟩:=jE.1 f;exact⟨p,jX j,rfl⟩);have u:∀x∈(zbW a).Mons,x.Outer=zi4:=λx f=>(by obtain⟨p,_,rfl⟩:=b x f;rfl);have H:HOk (zbW a):=(by refine⟨rfl,λc v=>?_,?_,?_,rfl,rfl,λx f=>?_,λq B=>?_⟩;{have:c=[0,0,0,0]:=(uA.1 v).2;rw[this];rfl};{show 1<=((a.take 3).map zdn).length;have:=h.1;simp;omega};{show ((a.take 3).map zdn).length<=3;simp;omega};{obtain⟨p,j,rfl⟩:=b x f;exact zAV (h.2 p j).1 (h.2 p j).2};{have:zch (zbW a).Mons q=0:=(by unfold zch;have:(zbW a).Mons.map (λx=>cPg x q)=(zbW a).Mons.map (λ_=>0):=List.map_congr_left λx f=>(by unfold cPg;rw[u x f];exact cz8 q B);rw[this];generalize (zbW a).Mons=l;induction l with|nil=>rfl|cons x l D=>rw[qZ,kU,D]);omega});refine⟨H,λm A g hg=>?_,λe r=>(by cases r),λe r=>(by cases r)⟩;obtain⟨p,j,e⟩:=b _ (zlg A mZ);rw[e]at hg ⊢;have d:hasB g (ln<|(p.take 2).map zct)=true:=hg;have C:ix (zdn p).Tables g kZ=zeF:=(by have:hasB g (ln<|(p.take 2).map λ_=>zeF)=true:=(by unfold ln at d ⊢;simpa using d);obtain⟨k,y,_,n⟩:=zlh this kZ;show ix ((p.take 2).map λ_=>zeF) g kZ=_;rw[n];simp);have z:(ix (zdn p).Guests g gZ).Live=zfb:=(by obtain⟨k,y,_,n⟩:=zlh d gZ;show (ix ((p.take 2).map zct) g gZ).Live=_;rw[n];simp[zct]);rw[C,z];show KOk zeF zfb zi4;refine⟨rfl,rfl,λi w=>?_⟩;have s:=zl.1 w;have:ln zfb=4:=rfl;rw[this]at s;have t:i=0\/i=1\/i=2\/i=3:=(by omega);rcases t with rfl|rfl|rfl|rfl<;>rfl
theorem zmT:∀(l:List Slot) (n:Int),0<=n->n+l.length<=1000000->mapped l n=n+(l.countP λs=>ine s.Page (-1))
 |[],n,_,_=>by simp[mapped]
 |s::l,n,a,b=>by rw[mapped];simp only[qU]at b;have c:zQ .i64 n 1=n+1:=zF2 (by omega) (by omega);rw[kS];cases d:ine s.Page (-1) with|true=>rw[cond_true,c,zmT l (n+1) (by omega) (by omega)];simp;omega|false=>rw[cond_false,zmT l n a (by omega)];simp
def zdO (f:Nat->Nat):Nat->Nat
 | 0=>0
 |n+1=>zdO f n+f n
theorem zpM (f g:Nat->Nat):∀n,zdO (λq=>f q+g q) n=zdO f n+zdO g n
 | 0=>rfl
 |n+1=>by simp only[zdO,zpM f g n];omega
theorem zrB {f g:Nat->Nat}:∀n,(∀q,q<n->f q=g q)->zdO f n=zdO g n
 | 0,_=>rfl
 |n+1,h=>by simp only[zdO,zrB n λq a=>h q (by omega),h n (by omega)]
theorem znn:∀n,zdO (λ_=>0) n=0
 | 0=>rfl
 |n+1=>by simp only[zdO,znn n]
theorem zwt (p:Int):∀n:Nat,zdO (λq=>if p=(q:Int) then 1 else 0) n=if 0<=p/\p<n then 1 else 0
 | 0=>by rw[if_neg (by omega)];rfl
 |n+1=>by simp only[zdO,zwt p n];by_cases a:p=n;{rw [if_neg (by omega),if_pos a,if_pos (by omega)]};{rw [if_neg a];by_cases b:0<=p/\p<n;{rw [if_pos b,if_pos (by omega)]};{rw [if_neg b,if_neg (by omega)]}}
theorem zrC:∀(o:List Slot),(∀s∈o,SOk s)->zdO (λq=>o.countP λs=>ieq s.Page (q:Int)) 12=o.countP λs=>ine s.Page (-1)
 |[],_=>znn 12
 |s::o,h=>by
  have d:=zrC o λx c=>h x (qR _ c);have e:(λq:Nat=>(s::o).countP λs=>ieq s.Page (q:Int))=λq:Nat=>(o.countP λs=>ieq s.Page (q:Int))+if s.Page=(q:Int) then 1 else 0:=funext λq=>zd5 o s _
  rw[e,zpM,d,zwt,kS];congr 1;have b:=h s qX;by_cases a:s.Page = -1;{rw [if_neg (by omega),a];rfl};{have:=b.pos a;rw[if_pos (by omega),if_pos<|zgU.2 a]}
def zbK (l:List Mon):Nat:=(l.map λx=>x.Outer.countP λs=>ine s.Page (-1)).sum
theorem zwr:∀(l:List Mon),(∀x∈l,∀s∈x.Outer,SOk s)->zdO (λq=>zch l (q:Int)) 12=zbK l
 |[],_=>znn 12
 |x::l,h=>by have b:=zwr l λy a=>h y (qR _ a);have e:(λq:Nat=>zch (x::l) (q:Int))=λq:Nat=>(x.Outer.countP λs=>ieq s.Page (q:Int))+zch l (q:Int):=rfl;rw[e,zpM,b,zrC _<|h x qX];rfl
theorem ztB (P:Nat->Bool):∀n i,(zhF P n i).length+zdO (λq=>if P (i+q) then 0 else 1) n=n
 | 0,i=>rfl
 |n+1,i=>by
  have a:=ztB P n (i+1);have e:zdO (λq=>if P (i+q) then 0 else 1) (n+1)=(if P i then 0 else 1)+zdO (λq=>if P (i+1+q) then 0 else 1) n:=by
   clear a
   induction n with
   |zero=>simp[zdO]
   |succ n a=>
    rw[zdO,a];conv=>rhs;rw[zdO]
    rw[show i+(n+1)=i+1+n by omega];omega
  rw[e,zhF];cases b:P i with|true=>rw[cond_true,qU];simp;omega|false=>rw[cond_false];simp;omega
theorem zvh {h:Host}(H:HOk h):(zbg h).length+zbK h.Mons=12:=by
 have b:=ztB (λi=>ilt (zO h (i:Int)).1 0) h.Memory.length 0;rw[H.m12]at b;have d:zdO (λq=>if ilt (zO h ((0+q:Nat):Int)).1 0=true then 0 else 1) 12=zdO (λq=>zch h.Mons (q:Int)) 12:=by
  refine zrB 12 λq _=>?_;have c:=ziN (h:=h) (q:=(q:Int)) (by omega)
  have g:=H.uq (q:Int) (by omega)
  rw[jQ]
  by_cases a:(zO h (q:Int)).1<0
  .rw [if_pos (show ilt (zO h (q:Int)).1 0=true from qT a),c.1 a]
  .rw [if_neg (by rw[ilt,jC];exact a)]
   have:zch h.Mons (q:Int)≠0:=λe=>a (c.2 e);omega
 rw[d,zwr _ λx f=>(H.mons x f).sl]at b;unfold zbg;rw[H.m12];exact b
theorem zvv {h:Host}(H:HOk h){m:Int}(a:hasB m (ln h.Mons)=true):zhY h m=((ix h.Mons m mZ).Outer.countP λs=>ine s.Page (-1)):=by have e:zhY h m=mapped (ix h.Mons m mZ).Outer 0:=(by unfold zhY;rw[a];rfl);rw[e,zmT _ _ (by omega) (by have:=(H.mon a).o8;omega)];omega
def zzR:zB:=zzP
theorem zmo:zo zzR:=zzQ
def zuH (l:List Int):Prop:=l.length=12/\∀i:Int,0<=i->i<12->0<=ix l i 0/\ix l i 0<10000
def zEN:zb7:=zzk
theorem zDb:zbI zEN:=zpF
def zHg:zb7:=zEN
theorem zDc:zbI zHg:=zDb
def zfc (N:Nat)(g:List Int):OA:=
 (iter (σ:=(Int×Int×(List Int)×(List Int)×Unit)) N (λl b=>let c:=b.2.2.1; (cond (ilt b.2.1<|ln c) (cond (ilt b.2.1 4000) (oN (inb b.2.1<|ln c)<|l (wand .i64 (zQ .i64 (zQ .i64 (zj4 .i64 b.1 131)<|wcv .i64<|ix c b.2.1 0) 7) 1073741823,zQ .i64 b.2.1 1,c,b.2.2.2.1,()))<|iter (σ:=(Int×Int×Int×(List Int)×(List Int)×Unit)) N (λf a=>let d:=(⟨a.2.2.2.2.1,a.2.1,a.2.2.1⟩:Cur);let j:=ap a.2.2.2.1 [zes d 10000]; (cond (ilt a.1 12) (oN (zeh d 10000)<|oN (few<|ln j)<|f (zQ .i64 a.1 1,(zdI d 10000).i,(zdI d 10000).h,j,a.2.2.2.2.1,()))<|some [aS .int a.2.2.2.1])) (0,0,b.1,[],c,()))<|iter (σ:=(Int×Int×Int×(List Int)×(List Int)×Unit)) N (λf a=>let e:=(⟨a.2.2.2.2.1,a.2.1,a.2.2.1⟩:Cur);let k:=ap a.2.2.2.1 [zes e 10000]; (cond (ilt a.1 12) (oN (zeh e 10000)<|oN (few<|ln k)<|f (zQ .i64 a.1 1,(zdI e 10000).i,(zdI e 10000).h,k,a.2.2.2.2.1,()))<|some [aS .int a.2.2.2.1])) (0,0,b.1,[],c,()))) (zQ .i64 94701<|ln g,0,g,[],()))
def zpR:=zF [(12,0,{n:=32,tm:=[(0,.sl 0 []),(3,ti),(4,ti)],lo:=[],ro:=[(0,.u8,false),(1,.int,true)],sk:=[(0,2,0,.sl 1 [])]}),(5,0,{n:=19,tm:=[(3,.lp 0 0),(4,.sl 0 []),(5,ti)],lo:=[(0,[.sl 1 [],ti,ti])],ro:=[(0,.int,true),(1,.u8,false)]})]
def zgE (b:List Int)(a:List Int):Prop:=(∃N,zfc N b=some [aS .int a])/\(zuH a)
def zdz (a:List Int):Bool:=uC (T:=List Int) (λr=>zgE a r)
def zsX (a:List Int):List Int:=uV (λr=>zgE a r)
def ze7 (a:List Int):List Int:=(zsX a)
theorem zkI {a:List Int}(h:zdz a=true):zgE a (ze7 a):=uG h
theorem zsW (c:List Int)(h:∃N,Ends (λa=>∃b,a=[aS .int b]/\(zuH b))<|zfc N c):zdz c=true:=by obtain⟨N,a,e,b,rfl,h⟩:=h;exact zb3 ⟨b,⟨N,e⟩,h⟩
def ziY:Run:=rF1 (dS .u8) λb=>(zdz b,[aS .int<|ze7 b])
theorem zpA (a:List Int)(b:zdz a=true):∃N,zfc N a=some [aS .int<|ze7 a]:=by exact(zkI b).1
theorem zmF:u3 5 ziY:=kF1 zmo zbr zDc zC zpR zpA
theorem zwb {a:List Int}(h:a.length<=big):zdz a=true:=by
 refine zsW a (zcG λN d=>?_);unfold zfc oN;conv=>zeta
 have m:12<N:=d (by rw[zh9];omega);refine zmr (λn s=>∃(t:Int) (i:Nat),s=(t,(i:Int),a,[],())/\i+n=a.length) ?_ N a.length _ ⟨_,0,rfl,by omega⟩ (d h);rintro n s rec ⟨t,i,rfl,F⟩ f;dsimp only;refine zkZ (λv=>zkZ (λE=>?_) λ_=>?_) (λ_=>?_);{have u:(i:Int)<ln a:=qP v;unfold ln at u;refine zbn (qT ⟨by omega,by unfold ln;omega⟩) (f (n-1) _ (by omega) (by rw[zX (show i<a.length by omega) h];exact⟨_,i+1,rfl,by omega⟩))}
 all_goals
  refine zmr (λn s=>∃(k:Nat) (i x:Int) (l:List Int),s=((k:Int),i,x,l,a,())/\k+n=12/\0<=i/\l.length=k/\∀y∈l,0<=y/\y<10000) ?_ N 12 _ ⟨0,0,t,[],rfl,rfl,Int.le_refl 0,rfl,by simp⟩ m
  rintro D s A ⟨k,z,x,l,rfl,G,q,r,w⟩ c
  dsimp only
  have b:zpU ⟨a,z,x⟩:=⟨q,h⟩;have C:=zBQ b (n:=10000) (by omega)
  refine zkZ (λp=>?_) (λp=>⟨_,rfl,l,rfl,?_⟩)
  .have h3':(k:Int)<12:=qP p;have e:∀y∈ap l [zes ⟨a,z,x⟩ 10000],0<=y/\y<10000:=by intro y g;rcases jJ.1 g with g|g;{exact w y g};{rw [qE.1 g];exact C}
   exact zbn (zxH b _) (zbn (zGw (by rw[zHb];unfold ln;omega))<|c (D-1) _ (by omega) (by rw[zeI (show -9223372036854775808<=(k:Int)+1 by omega) (by omega)];exact⟨k+1,_,_,_,rfl,by omega,zwi _ _,by simp[ap,r],e⟩))
  .have h3':¬ (k:Int)<12:=kW p;exact⟨by omega,λj B v=>w _ (zb8 (qT ⟨B,by unfold ln;omega⟩) 0)⟩
end
end Go.Proofs.Ytcdjmakaecpkbaa.E
