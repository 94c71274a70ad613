/- What is proved here: a part of the proof of the claim. -/
import Derived.Test.YtapgkefgcbapcaaGreatQ5
import Derived.Shelf.Bits.Mul64
import Derived.Ground.NamesProg
import Derived.Laws.CopyOwn
import Derived.Deep.RegionLaw
namespace Go.Proofs.YtapgkefgcbapcaaGreat.E
open Go
set_option linter.defProp false
set_option linter.constructorNameAsVariable false
set_option linter.unusedVariables false
set_option maxRecDepth 100000
set_option linter.unusedSimpArgs false
set_option linter.unusedSectionVars false
noncomputable section
def zbbQ:zbb:=[(111,zlz),(113,zlz),(110,zuT)]++z4j
def zl8:zN zbbQ:=zh zwB (zh zK5<|zh zx1 zl7)
def zXN {a b:Bool}(h:(a=true)↔(b=true)):a=b:=by cases a<;>cases b<;>simp_all
@[simp] def zbfc (x:Int):zl x 0 3=j0 x 4:=zXN (by rw[zff];unfold j0;rw[decide_eq_true_iff];omega)
@[simp] def zQE (x:Int):zl x 0 7=j0 x 8:=zXN (by rw[zff];unfold j0;rw[decide_eq_true_iff];omega)
def zmD (t:List k0)(p:Int)(s:k0):List k0:=bif j0 p (ln t) then up t p s else t
@[simp] def zbfd (t:List k0)(p:Int)(s:k0):(zmD t p s).length=t.length:=by unfold zmD;cases j0 p (ln t)<;>simp
@[simp] abbrev zjZ (t:List k0)(p:Int)(s:k0):Bool:=pc (t.length<=1048576)
@[simp] abbrev zgZ (t:List k0)(p:Int)(s:k0):List k0:=zmD t p s
def zoL:Run:=rF3 (dS .slot) dI (dT .slot) λb c d=>(zjZ b c d,[aS .slot<|zgZ b c d])
def zED (N:Nat)(a:lS)(b:Int)(c:k0):OA:=
 (oN (few<|ln<|ap [] a)<|oN (zJ b 0<|wsub .i64 (ln a) 1)<|cond (zl b 0<|wsub .i64 (ln a) 1) (oN (inb b<|ln<|ap [] a)<|p0 (up (ap [] a) b c) λd=>some [aS .slot d])<|some [aS .slot<|ap [] a])
def zS3 (a:List k0)(b:Int)(c:k0)(d:zjZ a b c=true):∃N,zED N a b c=some [aS .slot<|zgZ a b c]:=by have e:=zF.1 d;refine⟨0,?_⟩;unfold zED oN;refine mu (i0 rfl (br (λ_=>mu (shr ?_)) λ_=>?_));all_goals first|rfl|(simp only [*,zgZ,zmD,cT,cF]<;>rfl)|simp_all[Ty.cells,zgZ,zmD]
def zLm:vP 347 zoL:=kF3 zl8 zq zu zn (zo []) zS3
def zD6 (N:Nat)(a:lS)(b:Int)(c:k0):OA:=
 (oN (zg6 a)<|oN (zbi b<|ln a)<|cond (zbX b<|ln a) (oN (inb b<|ln<|ze5 a)<|p0 (up (ze5 a) b c) λd=>some [aS .slot d])<|some [aS .slot<|ze5 a])
def zSx (a:List k0)(b:Int)(c:k0)(d:zjZ a b c=true):∃N,zD6 N a b c=some [aS .slot<|zgZ a b c]:=by have e:=zF.1 d;refine⟨0,?_⟩;unfold zD6 oN;refine mu (i0 rfl (br (λ_=>mu (shr ?_)) λ_=>?_));all_goals first|rfl|(simp only [*,zgZ,zmD,cT,cF]<;>rfl)|simp_all[Ty.cells,zgZ,zmD]
def zKQ:vP 416 zoL:=kF3 zl8 zq zu zn (zo []) zSx
def zkA (p n:Int):Bool:=bif zhj p then zl n 0 7 else false
def zvB (p n:Int):Int:=bif zkA p n then wor .i64 p (zo8 .i64 1 n) else p
def cv7 {n:Int}(h:j0 n 8=true):wcv .u64 n=n/\ile 0 n=true:=by have:=qD h;exact⟨zTP (by omega) (by omega),qL (by omega)⟩
@[simp] abbrev zge (p n:Int):Bool:=true
@[simp] abbrev zev (p n:Int):Int:=zvB p n
@[simp] abbrev zhR (p n:Int):Bool:=zkA p n
def zpS:Run:=rF2 dI dI λb c=>(zge b c,[aI<|zev b c,aB<|zhR b c])
def zIO (N:Nat)(a b:Int):OA:=
 (oN (zch a)<|cond (nB<|zeY a) (some [aI a,aB false])<|oN (zJ b 0 7)<|cond (nB<|zl b 0 7) (some [aI a,aB false])<|oN (ile 0<|wcv .u64 b)<|some [aI<|wor .i64 a<|zo8 .i64 1<|wcv .u64 b,aB true])
def zWt (b a:Int)(c:zge b a=true):∃N,zIO N b a=some [aI<|zev b a,aB<|zhR b a]:=by have d:=@cv7 a;refine⟨0,?_⟩;unfold zIO oN nB;refine i0 rfl (brN (λ_=>?_) λ_=>i0 rfl (brN (λ_=>?_) λ_=>mu ?_));all_goals first|rfl|(simp only [*,zev,zhR,zvB,zkA,cT,cF]<;>rfl)|simp_all[Ty.cells,zev,zhR,zvB,zkA]
def zOl:vP 350 zpS:=kF2 zl8 zq zu zn (zo []) zWt
def zIj (N:Nat)(a b:Int):OA:=
 (oN (zch a)<|cond (nB<|zeY a) (some [aI a,aB false])<|oN (zJ b 0 7)<|cond (nB<|zl b 0 7) (some [aI a,aB false])<|oN (ile 0 b)<|some [aI<|wor .i64 a<|zo8 .i64 1 b,aB true])
def zV2 (b a:Int)(c:zge b a=true):∃N,zIj N b a=some [aI<|zev b a,aB<|zhR b a]:=by have d:=@cv7 a;refine⟨0,?_⟩;unfold zIj oN nB;refine i0 rfl (brN (λ_=>?_) λ_=>i0 rfl (brN (λ_=>?_) λ_=>mu ?_));all_goals first|rfl|(simp only [*,zev,zhR,zvB,zkA,cT,cF]<;>rfl)|simp_all[Ty.cells,zev,zhR,zvB,zkA]
def zNY:vP 423 zpS:=kF2 zl8 zq zu zn (zo []) zV2
def posts (c:Ctl)(n:Int):Bool:=bif ztg c then (cond (zl n 0 7) (ieq (wand .i64 (zlU .i64 c.Post n) 1) 1) false) else false
@[simp] abbrev zum (c:Ctl)(n:Int):Bool:=true
@[simp] abbrev zoN (c:Ctl)(n:Int):Bool:=posts c n
def ztv:Run:=rF2 dC dI λb c=>(zum b c,[aB<|zoN b c])
def zUa (N:Nat)(b:Ctl)(a:Int):OA:=
 (oN (zfD b)<|cond (zoM b) (oN (zJ a 0 7)<|cond (zl a 0 7) (oN (ile 0<|wcv .u64 a)<|some [aB<|ieq (wand .i64 (zlU .i64 b.Post<|wcv .u64 a) 1) 1]) oF) oF)
def z1Q (b:Ctl)(a:Int)(c:zum b a=true):∃N,zUa N b a=some [aB<|zoN b a]:=by have d:=@cv7 a;refine⟨0,?_⟩;unfold zUa oN;refine i0 rfl (br (λ_=>i0 rfl (br (λ_=>mu ?_) λ_=>?_)) λ_=>?_);all_goals first|rfl|(simp only [*,zoN,posts,cT,cF]<;>rfl)|simp_all[Ty.cells,zoN,posts]
def zVE:vP 438 ztv:=kF2 zl8 zq zu zn (zo []) z1Q
def zTX (N:Nat)(b:Ctl)(a:Int):OA:=
 (oN (zfD b)<|cond (zoM b) (oN (zJ a 0 7)<|cond (zl a 0 7) (oN (ile 0 a)<|some [aB<|ieq (wand .i64 (zlU .i64 b.Post a) 1) 1]) oF) oF)
def z1G (b:Ctl)(a:Int)(c:zum b a=true):∃N,zTX N b a=some [aB<|zoN b a]:=by have d:=@cv7 a;refine⟨0,?_⟩;unfold zTX oN;refine i0 rfl (br (λ_=>i0 rfl (br (λ_=>mu ?_) λ_=>?_)) λ_=>?_);all_goals first|rfl|(simp only [*,zoN,posts,cT,cF]<;>rfl)|simp_all[Ty.cells,zoN,posts]
def zVt:vP 464 ztv:=kF2 zl8 zq zu zn (zo []) z1G
def zbV (b:ai)(g:Int):Bool:=bif zcp b then j0 g (ln b.ac) else false
def zd6 {b:ai}{g:Int}:(zbV b g=true)↔zcp b=true/\j0 g (ln b.ac)=true:=by unfold zbV;cases zcp b<;>simp
@[simp] abbrev zlQ (b:ai)(g:Int):Bool:=zbV b g
def zJB:Run:=rF2 (dT .bare) dI λb c=>(zbT b c,[aB<|zlQ b c])
def zUd (N:Nat)(a:ai)(b:Int):OA:=
 (oN (zcY a)<|cond (zbR a) (oN (zJ b 0<|wsub .i64 (ln a.ac) 1)<|some [aB<|zl b 0<|wsub .i64 (ln a.ac) 1]) oF)
def z1S (a:ai)(b:Int)(c:zbT a b=true):∃N,zUd N a b=some [aB<|zlQ a b]:=by have d:=zF.1 c;have e:a.ac.length<=1048576:=d.2.1.1;refine⟨0,?_⟩;unfold zUd oN;refine i0 rfl (br (λ_=>i0 rfl ?_) λ_=>?_);all_goals first|rfl|(simp only [*,zlQ,zbV,cT,cF]<;>rfl)|simp_all[Ty.cells,zlQ,zbV]
def zVH:vP 345 zJB:=kF2 zl8 zq zu zn (zo []) z1S
@[simp] abbrev znD (b:ai)(g:Int):aD:=(gAt b g).Exit
def zFV:Run:=rF2 (dT .bare) dI λb c=>(zbT b c,[.agg<|zgF<|znD b c])
def zMr (N:Nat)(c:ai)(d:Int):OA:=
 let a:=zc9 c d; (oN (zdC c d)<|some [.agg [.i .i64 a.Exit.Kind,.i .i64 a.Exit.af,.b a.Exit.Write,.i .i64 a.Exit.N]])
def zYJ (a:ai)(b:Int)(c:zbT a b=true):∃N,zMr N a b=some [.agg<|zgF<|znD a b]:=by
 have d:=zF.1 c;refine⟨0,?_⟩;unfold zMr oN;conv=>zeta
 refine mu ?_;first|rfl|(simp only [*,znD,cT,cF]<;>rfl)|simp_all[Ty.cells,znD]
def zQ7:vP 420 zFV:=kF2 zl8 zq zu zn (zo []) zYJ
def zbbR:zbb:=[(347,zoL),(416,zoL),(350,zpS),(423,zpS),(438,ztv),(464,ztv),(345,zJB),(420,zFV)]++zbbQ
def zeW:zN zbbR:=zh zLm (zh zKQ<|zh zOl<|zh zNY<|zh zVE<|zh zVt<|zh zVH<|zh zQ7 zl8)
def z05 {b:Type}{l:List b}{i:Int}{d:b}(h:j0 i (ln l)=true):up l i (ix l i d)=l:=by obtain⟨k,rfl,a⟩:=zeK (n:=l.length) h;unfold up;rw[zbn a,kN];exact vA a
def ztY {b:ai}{g:Int}(h:j0 g (ln b.ac)=true):gAt b g=ix b.ac g zA:=by unfold gAt;rw[h];rfl
def z8C {b:ai}{g:Int}(h:j0 g (ln b.ac)=true):zf2 b g (gAt b g)=b:=by unfold zf2;rw[ztY h,z05 h]
def chg (b:ai)(g:Int)(c:Bool)(x:ah):ai:=bif (cond (zbV b g) c false) then zf2 b g x else b
def zcA (b:ai)(g:Int)(c:Bool):Bool:=bif zbV b g then c else false
def zF9 (p:Int)(s:k0):Bool:=bif j0 p 4 then zfZ s 8 else false
def zB6 (x:ah)(p:Int)(s:k0):ah:={x with ar:=zmD x.ar p s}
def ziQ (x:ah)(p:Int):ah:={x with ax:=zmD x.ax p (zc2 x.ar p)}
def zmI:aD:=⟨0,0,false,0⟩
def zEL (x:ah)(v:Int):Bool:=bif zl v 0 99 then (cond (ieq x.Exit.Kind 2) true<|ieq x.Exit.Kind 3) else false
def zEM (x:ah)(v:Int):ah:=zcq (stopped (cond (ieq x.Exit.Kind 2) {x with A:=v} x) zmI)
def zFR (x:ah):Bool:=bif ieq x.Exit.Kind 1 then true else ieq x.Exit.Kind 4
def zFT (x:ah):ah:=bif ieq x.Exit.Kind 1 then stopped x zmI else held (stopped x zmI)
def zqe (x:ah)(n:Int):ah:={x with aj:=zvB x.aj n}
def zQL (x:ah)(c:Ctl):ah:={x with Ctl:=c}
def zbdv {x:ah}{n:Int}(h:zkA x.aj n=false):zqe x n=x:=by unfold zqe zvB;rw[h];rfl
def zMc {x:ah}(p:Int)(s:k0)(h:SmG x):SmG (zB6 x p s):=⟨h.1,by simpa [zB6] using h.2.1,h.2.2.1,h.2.2.2⟩
def zoX {x:ah}(p:Int)(h:SmG x):SmG (ziQ x p):=⟨h.1,h.2.1,by simpa [ziQ] using h.2.2.1,h.2.2.2⟩
def z0q {x:ah}(v:Int)(h:SmG x):SmG (zEM x v):=by unfold zEM;cases ieq x.Exit.Kind 2<;>exact zl5 h
def z0s {x:ah}(h:SmG x):SmG (zFT x):=by unfold zFT;cases ieq x.Exit.Kind 1;{exact z0r (g:=stopped x zmI) h};{exact h}
def zhC {b:ai}{g:Int}{c:Bool}{x:ah}(h:SmB b)(a:SmG x):SmB (chg b g c x):=by unfold chg;cases (cond (zbV b g) c false);{exact h};{exact zqr h a}
@[simp] abbrev zhQ (b:ai)(g p:Int)(s:k0):Bool:=pc (SmB b)
@[simp] abbrev zc8 (b:ai)(g p:Int)(s:k0):ai:=chg b g (zF9 p s) (zB6 (gAt b g) p s)
@[simp] abbrev zdl (b:ai)(g p:Int)(s:k0):Bool:=zcA b g (zF9 p s)
def zkl:Run:=rF4 (dT .bare) dI dI (dT .slot) λb c d e=>(zhQ b c d e,[aT .bare<|zc8 b c d e,aB<|zdl b c d e])
def zIy (N:Nat)(f:ai)(b c:Int)(d:k0):OA:=
 let a:=zO f;let e:=ix a.ac b zA; (oN (zW f)<|oN (zbT a b)<|cond (nB<|zlQ a b) (some [aT .bare a,aB false])<|oN (zJ c 0 3)<|cond (nB<|zl c 0 3) (some [aT .bare a,aB false])<|oN (zmt d 8)<|cond (nB<|zjY d 8) (some [aT .bare a,aB false])<|oN (inb b<|ln a.ac)<|oN (zjZ e.ar c d)<|oN (inb b<|ln a.ac)<|p0 (up a.ac b ({e with ar:=(zgZ e.ar c d)}:ah)) λg=>some [aT .bare ({a with ac:=g}:ai),aB true])
def zWg (b:ai)(a c:Int)(d:k0)(e:zhQ b a c d=true):∃N,zIy N b a c d=some [aT .bare<|zc8 b a c d,aB<|zdl b a c d]:=by
 have f:=zF.1 e;have g:=zfz a f;have k:zbV b a=true->j0 a (ln b.ac)=true:=λh=>(zd6.1 h).2;have i:zbV b a=true->gAt b a=ix b.ac a zA:=λh=>ztY (zd6.1 h).2;have j:=g.2.1;refine⟨0,?_⟩;unfold zIy oN nB;conv=>zeta
 refine mu (mu<|brN (λ_=>?_) λ_=>i0 rfl (brN (λ_=>?_) λ_=>i0 rfl (brN (λ_=>?_) λ_=>mu (mu<|mu<|shr ?_))));all_goals first|rfl|(simp only [*,zc8,zdl,chg,zcA,zF9,zB6,zf2,cT,cF]<;>rfl)|simp_all[Ty.cells,zc8,zdl,chg,zcA,zF9,zB6,zf2]
def zx0:vP 157 zkl:=kF4 zeW zq zu zn (zo []) zWg
def zH9 (N:Nat)(a:ai)(b e:Int)(f:k0):OA:=
 let d:=zW a;let g:=({ (zc9 a b) with ar:=(zgZ (zc9 a b).ar e f)}:ah);let c:=aT .bare<|zO a; (oN (zbi e 4)<|cond (zbX e 4) (oN (zmt f 8)<|oN (zdC a b)<|oN (zcY a)<|cond (nB<|zbR a) (oN d<|some [c,aB false])<|cond (nB<|zda a b) (oN d<|some [c,aB false])<|cond (nB<|zjY f 8) (oN d<|some [c,aB false])<|oN (zjZ (zc9 a b).ar e f)<|oN (cond (ieq a.aj a.aj) true false)<|oN (ieq b b)<|oN (zbK a b g)<|some [aT .bare<|zcE a b g,aB true])<|oN (zdC a b)<|oN (zcY a)<|cond (nB<|zbR a) (oN d<|some [c,aB false])<|cond (nB<|zda a b) (oN d<|some [c,aB false])<|oN d<|some [c,aB false])
def zVR (b:ai)(a c:Int)(d:k0)(f:zhQ b a c d=true):∃N,zH9 N b a c d=some [aT .bare<|zc8 b a c d,aB<|zdl b a c d]:=by
 have g:=zF.1 f;have e:=zfz a g;have i:_/\_/\_/\_:=e;have h:=λp s=>zMc (x:=gAt b a) p s e;unfold zB6 at h;refine⟨0,?_⟩;unfold zH9 oN nB;conv=>zeta
 refine i0 rfl (br (λ_=>i0 rfl (mu (i0 rfl (brN (λ_=>mu ?_) λ_=>brN (λ_=>mu ?_) λ_=>brN (λ_=>mu ?_) λ_=>mu (mu<|mu<|mu ?_))))) λ_=>mu (i0 rfl (brN (λ_=>mu ?_) λ_=>brN (λ_=>mu ?_) λ_=>mu ?_)));all_goals first|rfl|(simp only [*,zc8,zdl,chg,zcA,zF9,zB6,zbV,zes,cT,cF]<;>rfl)|simp_all[Ty.cells,zc8,zdl,chg,zcA,zF9,zB6,zbV,zes]
def zxU:vP 302 zkl:=kF4 zeW zq zu zn (zo []) zVR
@[simp] abbrev ziL (b:ai)(g p:Int):Bool:=pc (SmB b)
@[simp] abbrev zcQ (b:ai)(g p:Int):ai:=chg b g (j0 p 4) (ziQ (gAt b g) p)
@[simp] abbrev zei (b:ai)(g p:Int):Bool:=zcA b g (j0 p 4)
def zix:Run:=rF3 (dT .bare) dI dI λb c d=>(ziL b c d,[aT .bare<|zcQ b c d,aB<|zei b c d])
def zCA (N:Nat)(f:ai)(d b:Int):OA:=
 let a:=zO f;let e:=inb d<|ln a.ac;let c:=ix a.ac d zA; (oN (zW f)<|oN (zbT a d)<|cond (nB<|zlQ a d) (some [aT .bare a,aB false])<|oN (zJ b 0 3)<|cond (nB<|zl b 0 3) (some [aT .bare a,aB false])<|oN e<|oN e<|oN (zgp c.ar b)<|oN (zjZ c.ax b<|zeZ c.ar b)<|oN e<|p0 (up a.ac d ({c with ax:=(zgZ c.ax b<|zeZ c.ar b)}:ah)) λg=>some [aT .bare ({a with ac:=g}:ai),aB true])
def zPa (b:ai)(a c:Int)(d:ziL b a c=true):∃N,zCA N b a c=some [aT .bare<|zcQ b a c,aB<|zei b a c]:=by
 have e:=zF.1 d;have f:=zfz a e;have j:zbV b a=true->j0 a (ln b.ac)=true:=λh=>(zd6.1 h).2;have g:zbV b a=true->gAt b a=ix b.ac a zA:=λh=>ztY (zd6.1 h).2;have i:=f.2.2.1;refine⟨0,?_⟩;unfold zCA oN nB;conv=>zeta
 refine mu (mu<|brN (λ_=>?_) λ_=>i0 rfl (brN (λ_=>?_) λ_=>mu (mu (i0 rfl (mu<|mu<|shr ?_)))));all_goals first|rfl|(simp only [*,zcQ,zei,chg,zcA,ziQ,zf2,cT,cF]<;>rfl)|simp_all[Ty.cells,zcQ,zei,chg,zcA,ziQ,zf2]
def zu7:vP 158 zix:=kF3 zeW zq zu zn (zo []) zPa
def zCj (N:Nat)(a:ai)(b c:Int):OA:=
 let e:=aT .bare<|zO a;let d:=zc9 a b;let f:=({d with ax:=(zgZ d.ax c<|zeZ d.ar c)}:ah); (oN (zbi c 4)<|oN (zdC a b)<|oN (zcY a)<|cond (nB<|zbR a) (oN (zW a)<|some [e,aB false])<|cond (nB<|zda a b) (oN (zW a)<|some [e,aB false])<|cond (nB<|zbX c 4) (oN (zW a)<|some [e,aB false])<|oN (zgp d.ar c)<|oN (zjZ d.ax c<|zeZ d.ar c)<|oN (cond (ieq a.aj a.aj) true false)<|oN (ieq b b)<|oN (zbK a b f)<|some [aT .bare<|zcE a b f,aB true])
def zOR (b:ai)(a c:Int)(e:ziL b a c=true):∃N,zCj N b a c=some [aT .bare<|zcQ b a c,aB<|zei b a c]:=by
 have f:=zF.1 e;have d:=zfz a f;have h:_/\_/\_/\_:=d;have g:=λp=>zoX (x:=gAt b a) p d;unfold ziQ at g;refine⟨0,?_⟩;unfold zCj oN nB;conv=>zeta
 refine i0 rfl (mu (i0 rfl (brN (λ_=>mu ?_) λ_=>brN (λ_=>mu ?_) λ_=>brN (λ_=>mu ?_) λ_=>i0 rfl (mu<|mu<|mu<|mu ?_))));all_goals first|rfl|(simp only [*,zcQ,zei,chg,zcA,ziQ,zbV,zes,cT,cF]<;>rfl)|simp_all[Ty.cells,zcQ,zei,chg,zcA,ziQ,zbV,zes]
def zu5:vP 304 zix:=kF3 zeW zq zu zn (zo []) zOR
@[simp] abbrev zfR (b:ai)(g v:Int):Bool:=pc (SmB b)
@[simp] abbrev zb0 (b:ai)(g v:Int):ai:=chg b g (zEL (gAt b g) v) (zEM (gAt b g) v)
@[simp] abbrev zcb (b:ai)(g v:Int):Bool:=zcA b g (zEL (gAt b g) v)
def zht:Run:=rF3 (dT .bare) dI dI λb c d=>(zfR b c d,[aT .bare<|zb0 b c d,aB<|zcb b c d])
def zzE (N:Nat)(i:ai)(b e:Int):OA:=
 let a:=zO i;let h:=inb b<|ln a.ac;let d:=(⟨0,0,false,0⟩:aD);let c:=ix a.ac b zA;let g:=({c with A:=e}:ah); (oN (zW i)<|oN (zbT a b)<|cond (nB<|zlQ a b) (some [aT .bare a,aB false])<|oN (zJ e 0 99)<|cond (nB<|zl e 0 99) (some [aT .bare a,aB false])<|oN h<|cond (ieq c.Exit.Kind 2) (oN (zci g d)<|oN (zL<|zcu g d)<|oN h<|p0 (up a.ac b<|zb3<|zcu g d) λf=>some [aT .bare ({a with ac:=f}:ai),aB true])<|cond (ieq c.Exit.Kind 3) (oN (zci c d)<|oN (zL<|zcu c d)<|oN h<|p0 (up a.ac b<|zb3<|zcu c d) λf=>some [aT .bare ({a with ac:=f}:ai),aB true])<|some [aT .bare a,aB false])
def zLJ (b:ai)(a c:Int)(d:zfR b a c=true):∃N,zzE N b a c=some [aT .bare<|zb0 b a c,aB<|zcb b a c]:=by
 have e:=zF.1 d;have f:=zfz a e;have j:zbV b a=true->j0 a (ln b.ac)=true:=λh=>(zd6.1 h).2;have g:zbV b a=true->gAt b a=ix b.ac a zA:=λh=>ztY (zd6.1 h).2;have i:_/\_/\_/\_:=f;refine⟨0,?_⟩;unfold zzE oN nB;conv=>zeta
 refine mu (mu<|brN (λ_=>?_) λ_=>i0 rfl (brN (λ_=>?_) λ_=>mu (br (λ_=>mu (mu<|mu<|shr ?_)) λ_=>br (λ_=>mu (mu<|mu<|shr ?_)) λ_=>?_)));all_goals first|rfl|(simp only [*,zb0,zcb,chg,zcA,zEL,zEM,zmI,zf2,SmG,stopped,cT,cF]<;>rfl)|simp_all[Ty.cells,zb0,zcb,chg,zcA,zEL,zEM,zmI,zf2,SmG,stopped]
def zt4:vP 159 zht:=kF3 zeW zq zu zn (zo []) zLJ
def zzu (N:Nat)(a:ai)(b g:Int):OA:=
 let c:=zc9 a b;let l:=ieq (znD a b).Kind 2;let e:=zW a;let j:=ieq a.aj a.aj;let d:=aT .bare<|zO a;let k:=({c with A:=g}:ah);let f:=(⟨0,0,false,0⟩:aD);let i:=zcu k f;let m:=aT .bare<|zcE a b<|zb3 i;let h:=zcu c f;let n:=aT .bare<|zcE a b<|zb3 h; (oN (zbT a b)<|cond l (oN (zJ g 0 99)<|oN (zdC a b)<|oN (zcY a)<|cond (nB<|zbR a) (oN e<|some [d,aB false])<|cond (nB<|zda a b) (oN e<|some [d,aB false])<|cond (nB<|zl g 0 99) (oN e<|some [d,aB false])<|cond l (oN (zci k f)<|oN (zL i)<|oN (cond j true false)<|oN (ieq b b)<|oN (zbK a b<|zb3 i)<|some [m,aB true])<|oN (zci c f)<|oN (zL h)<|oN (cond j true false)<|oN (ieq b b)<|oN (zbK a b<|zb3 h)<|some [n,aB true])<|cond (ieq (znD a b).Kind 3) (oN (zJ g 0 99)<|oN (zdC a b)<|oN (zcY a)<|cond (nB<|zbR a) (oN e<|some [d,aB false])<|cond (nB<|zda a b) (oN e<|some [d,aB false])<|cond (nB<|zl g 0 99) (oN e<|some [d,aB false])<|cond l (oN (zci k f)<|oN (zL i)<|oN (cond j true false)<|oN (ieq b b)<|oN (zbK a b<|zb3 i)<|some [m,aB true])<|oN (zci c f)<|oN (zL h)<|oN (cond j true false)<|oN (ieq b b)<|oN (zbK a b<|zb3 h)<|some [n,aB true])<|oN (zdC a b)<|oN (zcY a)<|cond (nB<|zbR a) (oN e<|some [d,aB false])<|cond (nB<|zda a b) (oN e<|some [d,aB false])<|oN e<|some [d,aB false])
def zLy (b:ai)(a c:Int)(f:zfR b a c=true):∃N,zzu N b a c=some [aT .bare<|zb0 b a c,aB<|zcb b a c]:=by
 have g:=zF.1 f;have d:=zfz a g;have j:_/\_/\_/\_:=d;have h:SmG ({gAt b a with A:=c}:ah):=d;have i:∀e,SmG (zcq<|stopped (gAt b a) e):=λe=>zl5 (z2B e d);refine⟨0,?_⟩;unfold zzu oN nB;conv=>zeta
 refine mu (br (λ_=>i0 rfl (mu (i0 rfl (brN (λ_=>mu ?_) λ_=>brN (λ_=>mu ?_) λ_=>brN (λ_=>mu ?_) λ_=>br (λ_=>mu (mu<|mu<|mu<|mu ?_)) λ_=>mu (mu<|mu<|mu<|mu ?_))))) λ_=>br (λ_=>i0 rfl (mu (i0 rfl (brN (λ_=>mu ?_) λ_=>brN (λ_=>mu ?_) λ_=>brN (λ_=>mu ?_) λ_=>br (λ_=>mu (mu<|mu<|mu<|mu ?_)) λ_=>mu (mu<|mu<|mu<|mu ?_))))) λ_=>mu (i0 rfl (brN (λ_=>mu ?_) λ_=>brN (λ_=>mu ?_) λ_=>mu ?_)));all_goals first|rfl|(simp only [*,zb0,zcb,chg,zcA,zEL,zEM,zmI,zbV,zes,cT,cF]<;>rfl)|simp_all[Ty.cells,zb0,zcb,chg,zcA,zEL,zEM,zmI,zbV,zes]
def zt1:vP 309 zht:=kF3 zeW zq zu zn (zo []) zLy
@[simp] abbrev zb2 (b:ai)(g:Int):ai:=chg b g (zFR<|gAt b g) (zFT<|gAt b g)
@[simp] abbrev zcd (b:ai)(g:Int):Bool:=zcA b g (zFR<|gAt b g)
def zhw:Run:=rF2 (dT .bare) dI λb c=>(zbT b c,[aT .bare<|zb2 b c,aB<|zcd b c])
def zzG (N:Nat)(g:ai)(c:Int):OA:=
 let a:=zO g;let f:=inb c<|ln a.ac;let d:=(⟨0,0,false,0⟩:aD);let b:=ix a.ac c zA; (oN (zW g)<|oN (zbT a c)<|cond (nB<|zlQ a c) (some [aT .bare a,aB false])<|oN f<|cond (ieq b.Exit.Kind 1) (oN (zci b d)<|oN f<|p0 (up a.ac c<|zcu b d) λe=>some [aT .bare ({a with ac:=e}:ai),aB true])<|cond (ieq b.Exit.Kind 4) (oN (zci b d)<|oN (zL<|zcu b d)<|oN f<|p0 (up a.ac c<|zjR<|zcu b d) λe=>some [aT .bare ({a with ac:=e}:ai),aB true])<|some [aT .bare a,aB false])
def zLL (b:ai)(a:Int)(c:zbT b a=true):∃N,zzG N b a=some [aT .bare<|zb2 b a,aB<|zcd b a]:=by
 have d:=zF.1 c;have e:=zfz a d;have i:zbV b a=true->j0 a (ln b.ac)=true:=λh=>(zd6.1 h).2;have f:zbV b a=true->gAt b a=ix b.ac a zA:=λh=>ztY (zd6.1 h).2;have g:_/\_/\_/\_:=e;refine⟨0,?_⟩;unfold zzG oN nB;conv=>zeta
 refine mu (mu<|brN (λ_=>?_) λ_=>mu (br (λ_=>mu (mu<|shr ?_)) λ_=>br (λ_=>mu (mu<|mu<|shr ?_)) λ_=>?_));all_goals first|rfl|(simp only [*,zb2,zcd,chg,zcA,zFR,zFT,zmI,zf2,SmG,stopped,cT,cF]<;>rfl)|simp_all[Ty.cells,zb2,zcd,chg,zcA,zFR,zFT,zmI,zf2,SmG,stopped]
def zt6:vP 160 zhw:=kF2 zeW zq zu zn (zo []) zLL
def zzw (N:Nat)(a:ai)(b:Int):OA:=
 let f:=ieq (znD a b).Kind 4;let e:=ieq a.aj a.aj;let d:=aT .bare<|zO a;let c:=({ (zc9 a b) with Exit:=(⟨0,0,false,0⟩:aD)}:ah);let g:=aT .bare<|zcE a b<|zjR c; (oN (zbT a b)<|cond (ieq (znD a b).Kind 1) (oN (zdC a b)<|oN (zcY a)<|cond (nB<|zbR a) (oN (zW a)<|some [d,aB false])<|cond (nB<|zda a b) (oN (zW a)<|some [d,aB false])<|cond f (oN (zL c)<|oN (cond e true false)<|oN (ieq b b)<|oN (zbK a b<|zjR c)<|some [g,aB true])<|oN (cond e true false)<|oN (ieq b b)<|oN (zbK a b c)<|some [aT .bare<|zcE a b c,aB true])<|oN (zdC a b)<|oN (zcY a)<|cond (nB<|zbR a) (oN (zW a)<|some [d,aB false])<|cond (nB<|zda a b) (oN (zW a)<|some [d,aB false])<|cond (nB f) (oN (zW a)<|some [d,aB false])<|cond f (oN (zL c)<|oN (cond e true false)<|oN (ieq b b)<|oN (zbK a b<|zjR c)<|some [g,aB true])<|oN (cond e true false)<|oN (ieq b b)<|oN (zbK a b c)<|some [aT .bare<|zcE a b c,aB true])
def zLA (b:ai)(a:Int)(d:zbT b a=true):∃N,zzw N b a=some [aT .bare<|zb2 b a,aB<|zcd b a]:=by
 have e:=zF.1 d;have f:=zfz a e;have g:_/\_/\_/\_:=f;have c:ieq (gAt b a).Exit.Kind 1=true->ieq (gAt b a).Exit.Kind 4=false:=λh=>zGF h (by decide);refine⟨0,?_⟩;unfold zzw oN nB;conv=>zeta
 refine mu (br (λ_=>mu (i0 rfl (brN (λ_=>mu ?_) λ_=>brN (λ_=>mu ?_) λ_=>br (λ_=>mu (mu<|mu<|mu ?_)) λ_=>mu (mu<|mu ?_)))) λ_=>mu (i0 rfl (brN (λ_=>mu ?_) λ_=>brN (λ_=>mu ?_) λ_=>brN (λ_=>mu ?_) λ_=>br (λ_=>mu (mu<|mu<|mu ?_)) λ_=>mu (mu<|mu ?_))));all_goals first|rfl|(simp only [*,zb2,zcd,chg,zcA,zFR,zFT,zmI,zbV,zes,SmG,stopped,cT,cF]<;>rfl)|simp_all[Ty.cells,zb2,zcd,chg,zcA,zFR,zFT,zmI,zbV,zes,SmG,stopped]
def zt3:vP 311 zhw:=kF2 zeW zq zu zn (zo []) zLA
def zben {b:ai}{g:Int}{c:Bool}{x:ah}(h:zbV b g=false):chg b g c x=b:=by unfold chg;rw[h];rfl
def zbcX {b:ai}{g n:Int}(h:zbV b g=true):chg b g (zkA (gAt b g).aj n) (zqe (gAt b g) n)=zf2 b g (zqe (gAt b g) n):=by unfold chg;rw[h];cases a:zkA (gAt b g).aj n;{rw [zbdv a,z8C (zd6.1 h).2];rfl};{rfl}
@[simp] abbrev zfS (b:ai)(g n:Int):Bool:=pc (SmB b)
@[simp] abbrev zb1 (b:ai)(g n:Int):ai:=chg b g (zkA (gAt b g).aj n) (zqe (gAt b g) n)
@[simp] abbrev zcc (b:ai)(g n:Int):Bool:=zcA b g (zkA (gAt b g).aj n)
def zhu:Run:=rF3 (dT .bare) dI dI λb c d=>(zfS b c d,[aT .bare<|zb1 b c d,aB<|zcc b c d])
def zzF (N:Nat)(e:ai)(b d:Int):OA:=
 let a:=zO e;let c:=ix a.ac b zA; (oN (zW e)<|oN (zbT a b)<|cond (nB<|zlQ a b) (some [aT .bare a,aB false])<|oN (inb b<|ln a.ac)<|oN (zge c.aj d)<|oN (inb b<|ln a.ac)<|p0 (up a.ac b ({c with aj:=(zev c.aj d)}:ah)) λf=>some [aT .bare ({a with ac:=f}:ai),aB<|zhR c.aj d])
def zLK (a:ai)(b c:Int)(d:zfS a b c=true):∃N,zzF N a b c=some [aT .bare<|zb1 a b c,aB<|zcc a b c]:=by
 have i:=zF.1 d;have j:zbV a b=true->j0 b (ln a.ac)=true:=λh=>(zd6.1 h).2;have f:zbV a b=true->gAt a b=ix a.ac b zA:=λh=>ztY (zd6.1 h).2;have g:=@zbcX a b c;have e:=@zben a b (zkA (gAt a b).aj c) (zqe (gAt a b) c);refine⟨0,?_⟩;unfold zzF oN nB;conv=>zeta
 refine mu (mu<|brN (λ_=>?_) λ_=>mu (i0 rfl (mu<|shr ?_)));all_goals first|rfl|(simp only [*,zb1,zcc,zcA,zf2,zqe,cT,cF]<;>rfl)|simp_all[Ty.cells,zb1,zcc,zcA,zf2,zqe]
def zt5:vP 161 zhu:=kF3 zeW zq zu zn (zo []) zLK
def zzv (N:Nat)(a:ai)(b c:Int):OA:=
 let e:=(zc9 a b).aj;let d:=aT .bare<|zO a;let f:=({ (zc9 a b) with aj:=(zev e c)}:ah); (oN (zdC a b)<|oN (zge e c)<|oN (zdC a b)<|oN (zcY a)<|cond (nB<|zbR a) (oN (zW a)<|some [d,aB false])<|cond (nB<|zda a b) (oN (zW a)<|some [d,aB false])<|cond (nB<|zhR e c) (oN (zW a)<|some [d,aB false])<|oN (cond (ieq a.aj a.aj) true false)<|oN (ieq b b)<|oN (zbK a b f)<|some [aT .bare<|zcE a b f,aB true])
def zLz (b:ai)(a c:Int)(d:zfS b a c=true):∃N,zzv N b a c=some [aT .bare<|zb1 b a c,aB<|zcc b a c]:=by
 have e:=zF.1 d;have f:=zfz a e;have g:_/\_/\_/\_:=f;refine⟨0,?_⟩;unfold zzv oN nB;conv=>zeta
 refine mu (i0 rfl (mu (i0 rfl (brN (λ_=>mu ?_) λ_=>brN (λ_=>mu ?_) λ_=>brN (λ_=>mu ?_) λ_=>mu (mu<|mu ?_)))));all_goals first|rfl|(simp only [*,zb1,zcc,chg,zcA,zqe,zbV,zes,cT,cF]<;>rfl)|simp_all[Ty.cells,zb1,zcc,chg,zcA,zqe,zbV,zes]
def zt2:vP 313 zhu:=kF3 zeW zq zu zn (zo []) zLz
@[simp] abbrev zhN (b:ai)(g:Int)(c:Ctl):Bool:=pc (SmB b)
@[simp] abbrev zcK (b:ai)(g:Int)(c:Ctl):ai:=chg b g (ztg c) (zQL (gAt b g) c)
@[simp] abbrev zcV (b:ai)(g:Int)(c:Ctl):Bool:=zcA b g (ztg c)
def zkj:Run:=rF3 (dT .bare) dI dC λb c d=>(zhN b c d,[aT .bare<|zcK b c d,aB<|zcV b c d])
def zIw (N:Nat)(d:ai)(b:Int)(c:Ctl):OA:=
 let a:=zO d; (oN (zW d)<|oN (zbT a b)<|cond (nB<|zlQ a b) (some [aT .bare a,aB false])<|oN (zfD c)<|cond (nB<|zoM c) (some [aT .bare a,aB false])<|oN (inb b<|ln a.ac)<|p0 (up a.ac b ({ (ix a.ac b zA) with Ctl:=c}:ah)) λe=>some [aT .bare ({a with ac:=e}:ai),aB true])
def zWe (a:ai)(b:Int)(c:Ctl)(d:zhN a b c=true):∃N,zIw N a b c=some [aT .bare<|zcK a b c,aB<|zcV a b c]:=by
 have f:=zF.1 d;have g:zbV a b=true->j0 b (ln a.ac)=true:=λh=>(zd6.1 h).2;have e:zbV a b=true->gAt a b=ix a.ac b zA:=λh=>ztY (zd6.1 h).2;refine⟨0,?_⟩;unfold zIw oN nB;conv=>zeta
 refine mu (mu<|brN (λ_=>?_) λ_=>i0 rfl (brN (λ_=>?_) λ_=>mu (shr ?_)));all_goals first|rfl|(simp only [*,zcK,zcV,chg,zcA,zQL,zf2,cT,cF]<;>rfl)|simp_all[Ty.cells,zcK,zcV,chg,zcA,zQL,zf2]
def zxY:vP 162 zkj:=kF3 zeW zq zu zn (zo []) zWe
def zH7 (N:Nat)(a:ai)(b:Int)(c:Ctl):OA:=
 let d:=aT .bare<|zO a;let e:=({ (zc9 a b) with Ctl:=c}:ah); (oN (zfD c)<|oN (zdC a b)<|oN (zcY a)<|cond (nB<|zbR a) (oN (zW a)<|some [d,aB false])<|cond (nB<|zda a b) (oN (zW a)<|some [d,aB false])<|cond (nB<|zoM c) (oN (zW a)<|some [d,aB false])<|oN (cond (ieq a.aj a.aj) true false)<|oN (ieq b b)<|oN (zbK a b e)<|some [aT .bare<|zcE a b e,aB true])
def zVP (b:ai)(a:Int)(c:Ctl)(d:zhN b a c=true):∃N,zH7 N b a c=some [aT .bare<|zcK b a c,aB<|zcV b a c]:=by
 have e:=zF.1 d;have f:=zfz a e;have g:_/\_/\_/\_:=f;refine⟨0,?_⟩;unfold zH7 oN nB;conv=>zeta
 refine i0 rfl (mu (i0 rfl (brN (λ_=>mu ?_) λ_=>brN (λ_=>mu ?_) λ_=>brN (λ_=>mu ?_) λ_=>mu (mu<|mu ?_))));all_goals first|rfl|(simp only [*,zcK,zcV,chg,zcA,zQL,zbV,zes,cT,cF]<;>rfl)|simp_all[Ty.cells,zcK,zcV,chg,zcA,zQL,zbV,zes]
def zxS:vP 315 zkj:=kF3 zeW zq zu zn (zo []) zVP
def zGM (p c v:Int):Bool:=bif j0 p 8 then (cond (j0 c 4) (zl v 0 99) false) else false
def zmJ (b:ai)(p c v:Int):Bool:=bif zcp b then zGM p c v else false
def zot (b:ai)(p c v:Int):ai:=bif zmJ b p c v then {b with ag:=zf3 b.ag p c v} else b
def zns (b:ai):ai:=bif zcp b then {b with aj:=zjx b.aj} else b
def zA5 (b:ai):Int:=bif zcp b then znG b.aj else -1
def zqX (b:ai):Bool:=bif zcp b then !ilt (zeC b.aj) 0 else false
def zir (b:ai)(g a n:Int):Bool:=bif zbV b g then (cond (zl a 0 15) (ziU (gAt b g).ax (zco a) n) false) else false
def zxH (b:ai)(g a n:Int):Int:=zdM (gAt b g).ax (zco a) n
def zxI (b:ai)(g a v:Int):Bool:=bif zir b g a 2 then zl v 0 99 else false
def zE6 (b:ai)(g a v:Int):ai:=bif zxI b g a v then {b with ag:=zf3 b.ag (zxH b g a 2) (zhl a) v} else b
def znc (b:ai)(g a:Int):Int:=bif zir b g a 1 then cellAt b.ag (zxH b g a 1) (zhl a) else 0
@[simp] abbrev zlD (b:ai)(p c v:Int):Bool:=pc (SmB b)
@[simp] abbrev zeN (b:ai)(p c v:Int):ai:=zot b p c v
@[simp] abbrev zfu (b:ai)(p c v:Int):Bool:=zmJ b p c v
def zjz:Run:=rF4 (dT .bare) dI dI dI λb c d e=>(zlD b c d e,[aT .bare<|zeN b c d e,aB<|zfu b c d e])
def zEj (N:Nat)(f:ai)(b c d:Int):OA:=
 let a:=zO f;let e:=aT .bare a; (oN (zW f)<|oN (zcY a)<|cond (nB<|zbR a) (some [e,aB false])<|oN (zJ b 0 7)<|cond (nB<|zl b 0 7) (some [e,aB false])<|oN (zJ c 0 3)<|cond (nB<|zl c 0 3) (some [e,aB false])<|oN (zJ d 0 99)<|cond (nB<|zl d 0 99) (some [e,aB false])<|oN (zde a.ag b c d)<|some [aT .bare ({a with ag:=(zdn a.ag b c d)}:ai),aB true])
def zSJ (a:ai)(b c d:Int)(e:zlD a b c d=true):∃N,zEj N a b c d=some [aT .bare<|zeN a b c d,aB<|zfu a b c d]:=by
 have f:=zF.1 e;have g:_/\_/\_:=f;refine⟨0,?_⟩;unfold zEj oN nB;conv=>zeta
 refine mu (i0 rfl (brN (λ_=>?_) λ_=>i0 rfl (brN (λ_=>?_) λ_=>i0 rfl (brN (λ_=>?_) λ_=>i0 rfl (brN (λ_=>?_) λ_=>mu ?_)))));all_goals first|rfl|(simp only [*,zeN,zfu,zot,zmJ,zGM,cT,cF]<;>rfl)|simp_all[Ty.cells,zeN,zfu,zot,zmJ,zGM]
def zwC:vP 163 zjz:=kF4 zeW zq zu zn (zo []) zSJ
@[simp] abbrev zcU (b:ai):ai:=zns b
@[simp] abbrev zdS (b:ai):Int:=zA5 b
@[simp] abbrev zc7 (b:ai):Bool:=zqX b
def zki:Run:=rF1 (dT .bare) λb=>(zW b,[aT .bare<|zcU b,aI<|zdS b,aB<|zc7 b])
def zIu (N:Nat)(b:ai):OA:=
 let a:=zO b; (oN (zW b)<|oN (zcY a)<|cond (nB<|zbR a) (some [aT .bare a,aI<|-1,aB false])<|oN (zch a.aj)<|some [aT .bare ({a with aj:=(zgf a.aj)}:ai),aI<|zgg a.aj,aB<|zhU a.aj])
def zWc (a:ai)(b:zW a=true):∃N,zIu N a=some [aT .bare<|zcU a,aI<|zdS a,aB<|zc7 a]:=by
 have c:=zF.1 b;refine⟨0,?_⟩;unfold zIu oN nB;conv=>zeta
 refine mu (i0 rfl (brN (λ_=>?_) λ_=>i0 rfl ?_));all_goals first|rfl|(simp only [*,zcU,zdS,zc7,zns,zA5,zqX,zjx,znG,cT,cF]<;>rfl)|simp_all[Ty.cells,zcU,zdS,zc7,zns,zA5,zqX,zjx,znG]
def zxW:vP 165 zki:=kF1 zeW zq zu zn (zo []) zWc
def zDR (N:Nat)(a:ai)(b c d:Int):OA:=
 let e:=aT .bare<|zO a; (oN (zW a)<|oN (zcY a)<|cond (nB<|zbR a) (some [e,aB false])<|oN (zbi b 8)<|cond (nB<|zbX b 8) (some [e,aB false])<|oN (zbi c 4)<|cond (nB<|zbX c 4) (some [e,aB false])<|oN (zJ d 0 99)<|cond (nB<|zl d 0 99) (some [e,aB false])<|oN (zde a.ag b c d)<|some [aT .bare ({ (zO a) with ag:=(zdn a.ag b c d)}:ai),aB true])
def zSi (a:ai)(b c d:Int)(e:zlD a b c d=true):∃N,zDR N a b c d=some [aT .bare<|zeN a b c d,aB<|zfu a b c d]:=by
 have f:=zF.1 e;have g:_/\_/\_:=f;refine⟨0,?_⟩;unfold zDR oN nB;conv=>zeta
 refine mu (i0 rfl (brN (λ_=>?_) λ_=>i0 rfl (brN (λ_=>?_) λ_=>i0 rfl (brN (λ_=>?_) λ_=>i0 rfl (brN (λ_=>?_) λ_=>mu ?_)))));all_goals first|rfl|(simp only [*,zeN,zfu,zot,zmJ,zGM,cT,cF]<;>rfl)|simp_all[Ty.cells,zeN,zfu,zot,zmJ,zGM]
def zwz:vP 317 zjz:=kF4 zeW zq zu zn (zo []) zSi
def zH6 (N:Nat)(a:ai):OA:=
 (oN (zW a)<|oN (zch a.aj)<|oN (zcY a)<|cond (nB<|zbR a) (some [aT .bare<|zO a,aI<|-1,aB false])<|cond (nB<|zhU a.aj) (some [aT .bare<|zO a,aI<|-1,aB false])<|some [aT .bare ({ (zO a) with aj:=(zgf a.aj)}:ai),aI<|zgg a.aj,aB true])
def zVO (a:ai)(b:zW a=true):∃N,zH6 N a=some [aT .bare<|zcU a,aI<|zdS a,aB<|zc7 a]:=by have c:=zF.1 b;refine⟨0,?_⟩;unfold zH6 oN nB;refine mu (i0 rfl (i0 rfl (brN (λ_=>?_) λ_=>brN (λ_=>?_) λ_=>?_)));all_goals first|rfl|(simp only [*,zcU,zdS,zc7,zns,zA5,zqX,zjx,znG,cT,cF]<;>rfl)|simp_all[Ty.cells,zcU,zdS,zc7,zns,zA5,zqX,zjx,znG]
def zxR:vP 321 zki:=kF1 zeW zq zu zn (zo []) zVO
def zbaV {a:Type}(c:Bool)(x y:a):(cond c (cond c x y) y)=(cond c x y):=by cases c<;>rfl
@[simp] abbrev zl2 (b:ai)(g a n:Int):Bool:=pc (SmB b)
@[simp] abbrev zl1 (b:ai)(g a n:Int):Int:=bif zir b g a n then zxH b g a n else -1
@[simp] abbrev zhf (b:ai)(g a n:Int):Bool:=zir b g a n
def zJC:Run:=rF4 (dT .bare) dI dI dI λb c d e=>(zl2 b c d e,[aI<|zl1 b c d e,aB<|zhf b c d e])
def zUe (N:Nat)(b:ai)(c a d:Int):OA:=
 let e:=(ix b.ac c zA).ax; (oN (zbT b c)<|cond (nB<|zlQ b c) (some [aI<|-1,aB false])<|oN (zJ a 0 15)<|cond (nB<|zl a 0 15) (some [aI<|-1,aB false])<|oN (inb c<|ln b.ac)<|oN (zbo a)<|oN (ze0 e (zbs a) d)<|some [aI<|zeg e (zbs a) d,aB<|zdD e (zbs a) d])
def z1T (a:ai)(b c d:Int)(e:zl2 a b c d=true):∃N,zUe N a b c d=some [aI<|zl1 a b c d,aB<|zhf a b c d]:=by
 have g:=zF.1 e;have i:zbV a b=true->j0 b (ln a.ac)=true:=λh=>(zd6.1 h).2;have f:zbV a b=true->gAt a b=ix a.ac b zA:=λh=>ztY (zd6.1 h).2;refine⟨0,?_⟩;unfold zUe oN nB;conv=>zeta
 refine mu (brN (λ_=>?_) λ_=>i0 rfl (brN (λ_=>?_) λ_=>mu (i0 rfl (i0 rfl ?_))));all_goals first|rfl|(simp only [*,zl1,zhf,zir,zxH,zdM,zbaV,cT,cF]<;>rfl)|simp_all[Ty.cells,zl1,zhf,zir,zxH,zdM,zbaV]
def zVI:vP 354 zJC:=kF4 zeW zq zu zn (zo []) z1T
def zv6 (b:ai)(g a:Int):Bool:=bif zbV b g then zl a 0 15 else false
@[simp] abbrev zlW (b:ai)(g a n:Int):Int:=bif zv6 b g a then zxH b g a n else 0
@[simp] abbrev zlX (b:ai)(g a n:Int):Int:=bif zv6 b g a then zhl a else 0
def zJz:Run:=rF4 (dT .bare) dI dI dI λb c d e=>(zl2 b c d e,[aI<|zlW b c d e,aI<|zlX b c d e,aB<|zhf b c d e])
def zTZ (N:Nat)(b:ai)(c a d:Int):OA:=
 let e:=(zc9 b c).ax; (oN (zdC b c)<|oN (zcY b)<|cond (nB<|zbR b) (some [aI 0,aI 0,aB false])<|cond (nB<|zda b c) (some [aI 0,aI 0,aB false])<|oN (zJ a 0 15)<|cond (nB<|zl a 0 15) (some [aI 0,aI 0,aB false])<|oN (zbo a)<|oN (ze0 e (zbs a) d)<|oN (zbo a)<|some [aI<|zeg e (zbs a) d,aI<|zcg a,aB<|zdD e (zbs a) d])
def z1J (a:ai)(b c d:Int)(e:zl2 a b c d=true):∃N,zTZ N a b c d=some [aI<|zlW a b c d,aI<|zlX a b c d,aB<|zhf a b c d]:=by
 have f:=zF.1 e;refine⟨0,?_⟩;unfold zTZ oN nB;conv=>zeta
 refine mu (i0 rfl (brN (λ_=>?_) λ_=>brN (λ_=>?_) λ_=>i0 rfl (brN (λ_=>?_) λ_=>i0 rfl (i0 rfl (i0 rfl ?_)))));all_goals first|rfl|(simp only [*,zlW,zlX,zhf,zir,zxH,zv6,zbV,cT,cF]<;>rfl)|simp_all[Ty.cells,zlW,zlX,zhf,zir,zxH,zv6,zbV]
def zVw:vP 436 zJz:=kF4 zeW zq zu zn (zo []) z1J
def zbbS:zbb:=[(354,zJC),(436,zJz)]++zbbR
def zp8:zN zbbS:=zh zVI (zh zVw zeW)
def zvE {b:ai}{g a n:Int}(h:zir b g a n=true):zv6 b g a=true:=by unfold zir at h;unfold zv6;cases c:zbV b g;{rw [c]at h;exact h};{cases d:zl a 0 15;{rw [c,d]at h;exact h};{rfl}}
@[simp] abbrev zpk (b:ai)(g a v:Int):Bool:=pc (SmB b)
@[simp] abbrev zhO (b:ai)(g a v:Int):ai:=zE6 b g a v
@[simp] abbrev zhP (b:ai)(g a v:Int):Bool:=zxI b g a v
def zkk:Run:=rF4 (dT .bare) dI dI dI λb c d e=>(zpk b c d e,[aT .bare<|zhO b c d e,aB<|zhP b c d e])
def zIx (N:Nat)(e:ai)(c b d:Int):OA:=
 let a:=zO e; (oN (zW e)<|oN (zl2 a c b 2)<|cond (nB<|zhf a c b 2) (some [aT .bare a,aB false])<|oN (zJ d 0 99)<|cond (nB<|zl d 0 99) (some [aT .bare a,aB false])<|oN (zbo b)<|oN (zde a.ag (zl1 a c b 2) (zcg b) d)<|some [aT .bare ({a with ag:=(zdn a.ag (zl1 a c b 2) (zcg b) d)}:ai),aB true])
def zWf (a:ai)(b c d:Int)(e:zpk a b c d=true):∃N,zIx N a b c d=some [aT .bare<|zhO a b c d,aB<|zhP a b c d]:=by
 have f:=zF.1 e;have h:_/\_/\_:=f;have g:=@zvE a b c 2;refine⟨0,?_⟩;unfold zIx oN nB;conv=>zeta
 refine mu (mu<|brN (λ_=>?_) λ_=>i0 rfl (brN (λ_=>?_) λ_=>i0 rfl (mu ?_)));all_goals first|rfl|(simp only [*,zhO,zhP,zE6,zxI,cT,cF]<;>rfl)|simp_all[Ty.cells,zhO,zhP,zE6,zxI]
def zxZ:vP 166 zkk:=kF4 zp8 zq zu zn (zo []) zWf
@[simp] abbrev zjQ (b:ai)(g a:Int):Bool:=pc (SmB b)
@[simp] abbrev zid (b:ai)(g a:Int):Int:=znc b g a
@[simp] abbrev zie (b:ai)(g a:Int):Bool:=zir b g a 1
def zhv:Run:=rF3 (dT .bare) dI dI λb c d=>(zjQ b c d,[aI<|zid b c d,aB<|zie b c d])
def zEl (N:Nat)(b:ai)(c a:Int):OA:=
 (oN (zl2 b c a 1)<|cond (nB<|zhf b c a 1) (some [aI 0,aB false])<|oN (zbo a)<|oN (zer b.ag (zl1 b c a 1)<|zcg a)<|some [aI<|zfr b.ag (zl1 b c a 1)<|zcg a,aB true])
def zSL (a:ai)(b c:Int)(d:zjQ a b c=true):∃N,zEl N a b c=some [aI<|zid a b c,aB<|zie a b c]:=by have e:=zF.1 d;have g:_/\_/\_:=e;have f:=@zvE a b c 1;refine⟨0,?_⟩;unfold zEl oN nB;refine mu (brN (λ_=>?_) λ_=>i0 rfl (i0 rfl ?_));all_goals first|rfl|(simp only [*,zid,zie,znc,cT,cF]<;>rfl)|simp_all[Ty.cells,zid,zie,znc]
def zwE:vP 167 zhv:=kF3 zp8 zq zu zn (zo []) zSL
def zH8 (N:Nat)(a:ai)(b c d:Int):OA:=
 (oN (zW a)<|oN (zl2 a b c 2)<|cond (nB<|zhf a b c 2) (some [aT .bare<|zO a,aB false])<|oN (zJ d 0 99)<|cond (nB<|zl d 0 99) (some [aT .bare<|zO a,aB false])<|oN (zde a.ag (zlW a b c 2) (zlX a b c 2) d)<|some [aT .bare ({ (zO a) with ag:=(zdn a.ag (zlW a b c 2) (zlX a b c 2) d)}:ai),aB true])
def zVQ (a:ai)(b c d:Int)(e:zpk a b c d=true):∃N,zH8 N a b c d=some [aT .bare<|zhO a b c d,aB<|zhP a b c d]:=by have f:=zF.1 e;have h:_/\_/\_:=f;have g:=@zvE a b c 2;refine⟨0,?_⟩;unfold zH8 oN nB;refine mu (mu<|brN (λ_=>?_) λ_=>i0 rfl (brN (λ_=>?_) λ_=>mu ?_));all_goals first|rfl|(simp only [*,zhO,zhP,zE6,zxI,cT,cF]<;>rfl)|simp_all[Ty.cells,zhO,zhP,zE6,zxI]
def zxT:vP 341 zkk:=kF4 zp8 zq zu zn (zo []) zVQ
def zDT (N:Nat)(a:ai)(b c:Int):OA:=
 (oN (zl2 a b c 1)<|cond (nB<|zhf a b c 1) (some [aI 0,aB false])<|oN (zer a.ag (zlW a b c 1)<|zlX a b c 1)<|some [aI<|zfr a.ag (zlW a b c 1)<|zlX a b c 1,aB true])
def zSk (a:ai)(b c:Int)(d:zjQ a b c=true):∃N,zDT N a b c=some [aI<|zid a b c,aB<|zie a b c]:=by have e:=zF.1 d;have g:_/\_/\_:=e;have f:=@zvE a b c 1;refine⟨0,?_⟩;unfold zDT oN nB;refine mu (brN (λ_=>?_) λ_=>i0 rfl ?_);all_goals first|rfl|(simp only [*,zid,zie,znc,cT,cF]<;>rfl)|simp_all[Ty.cells,zid,zie,znc]
def zqc:vP 342 zhv:=kF3 zp8 zq zu zn (zo []) zSk
def zft (l:List ah)(n:Int):LI:=idxs (λ(x:ah)=>posts x.Ctl n) l 0
def zYB {d:Type}(p:d->Bool):∀(l:List d) (i:Nat),∀k∈idxs p l i,(i:Int)<=k/\k<(i:Int)+l.length
 |[],_,k,a=>by cases a
 |x::l,i,k,a=>by have c:=zYB p l (i+1);simp only[qY];unfold idxs at a;cases b:p x;{rw [b]at a;have:=c k a;omega};{rw [b]at a;rcases qG.1 a with rfl|a;{omega};{have:=c k a;omega}}
@[simp] abbrev zfU (b:ai)(n:Int):LI:=zft b.ac n
def zoF:Run:=rF2 (dT .bare) dI λb c=>(zdm b c,[aS .int<|zfU b c])
def zEv (N:Nat)(c:ai)(f:Int):OA:=
 (q0 (σ:=(Int×Int×Int×LI×lM×lG×LI×Unit)) N (λd a=>let c:=a.2.2.2.2;let b:=c.2.1;let e:=(ix b a.2.1 zA).Ctl; (cond (ilt a.2.1<|ln b) (oN (inb a.2.1<|ln b)<|oN (zum e a.1)<|cond (zoN e a.1) (oN (few<|ln<|ap a.2.2.2.1 [a.2.1])<|d (a.1,zM .i64 a.2.1 1,a.2.2.1,ap a.2.2.2.1 [a.2.1],c.1,b,c.2.2.1,()))<|d (a.1,zM .i64 a.2.1 1,a.2.2.1,a.2.2.2.1,c.1,b,c.2.2.1,()))<|some [aS .int a.2.2.2.1])) (f,0,c.aj,[],c.ag,c.ac,c.Outs,()))
def zTF:=zo [(352,0,{n:=28,tm:=[(1,ti),(2,.lp 0 0),(5,.sl 0 []),(6,ti)],lo:=[(0,[.sl 1 [],.sl 2 [],.sl 3 [],ti])],ro:=[(0,.int,true),(1,.sl .int,false),(2,.guest,false),(3,.int,false)]})]
def zSU (a:ai)(b:Int)(g:zdm a b=true):∃N,zEv N a b=some [aS .int<|zfU a b]:=by
 have h:=zF.1 g;have e:=zcC h.2.1.1;refine zcf λN d=>?_;unfold zEv oN;conv=>zeta
 refine(zbp a.ac (λi (t:LI)=>(b,(i:Int),a.aj,t,a.ag,a.ac,a.Outs,())) _ (λi (x:ah) (t:LI) f=>bif posts x.Ctl b then (cond (few<|ln<|ap t [(i:Int)]) (f<|ap t [(i:Int)]) none) else f t) (λ(t:LI)=>some [.one<|.s .int t]) (λi c t rec=>?_) (λt rec=>?_) _ ([])<|d e.1).trans ?_;{simp only [zbw c,zbc c,zbn c,zbj c e.1,cT]};{simp only [zbq,cF]};exact zsL (λ(x:ah)=>posts x.Ctl b) _ a.ac 0 [] (by simpa using e.2)
def zLd:vP 352 zoF:=kF2 zp8 zq zu zn zTF zSU
def zD1 (N:Nat)(d:ai)(g:Int):OA:=
 (q0 (σ:=(Int×Int×Int×LI×lG×Unit)) N (λe a=>let c:=a.2.2.2.2.1;let b:=a.2.2.1;let f:=(ix c b zA).Ctl; (cond (ilt b a.2.1) (oN (inb b<|ln c)<|oN (zum f a.1)<|cond (zoN f a.1) (oN (few<|ln<|ap a.2.2.2.1 [b])<|e (a.1,a.2.1,zM .i64 b 1,ap a.2.2.2.1 [b],c,()))<|e (a.1,a.2.1,zM .i64 b 1,a.2.2.2.1,c,()))<|some [aS .int a.2.2.2.1])) (g,ln d.ac,0,[],d.ac,()))
def zTw:=zo [(426,0,{n:=27,tm:=[(1,ti),(5,.sl 0 []),(10,.sl 1 []),(11,ti),(12,ti)],lo:=[],ro:=[(0,.int,true),(1,.guest,false)]})]
def zSs (a:ai)(b:Int)(g:zdm a b=true):∃N,zD1 N a b=some [aS .int<|zfU a b]:=by
 have h:=zF.1 g;have e:=zcC h.2.1.1;refine zcf λN d=>?_;unfold zD1 oN;conv=>zeta
 refine(zbp a.ac (λi (t:LI)=>(b,ln a.ac,(i:Int),t,a.ac,())) _ (λi (x:ah) (t:LI) f=>bif posts x.Ctl b then (cond (few<|ln<|ap t [(i:Int)]) (f<|ap t [(i:Int)]) none) else f t) (λ(t:LI)=>some [.one<|.s .int t]) (λi c t rec=>?_) (λt rec=>?_) _ ([])<|d e.1).trans ?_;{simp only [zbw c,zbc c,zbn c,zbj c e.1,cT]};{simp only [zbq,cF]};exact zsL (λ(x:ah)=>posts x.Ctl b) _ a.ac 0 [] (by simpa using e.2)
def zKJ:vP 426 zoF:=kF2 zp8 zq zu zn zTw zSs
def zbbT:zbb:=[(352,zoF),(426,zoF)]++zbbS
def zKm:zN zbbT:=zh zLd (zh zKJ zp8)
def zGN (n:Int)(l:List ah)(k:Int):List ah:=up l k (zqe (ix l k zA) n)
def zqK (n:Int)(a:LI)(l:List ah):List ah:=a.foldl (zGN n) l
def zyb (n:Int)(l:List ah)(k:Int):(zGN n l k).length=l.length:=zfB _ _ _
def z6c {n:Int}{l:List ah}{k:Int}(a:j0 k (ln l)=true)(h:zm7 l):zm7 (zGN n l k):=zGV h (zP3 h a _)
def zGc {n:Int}:∀(a:LI) {l:List ah},(∀k∈a,j0 k (ln l)=true)->zm7 l->zm7 (zqK n a l)/\(zqK n a l).length=l.length
 |[],_,_,h=>⟨h,rfl⟩
 |k::a,l,b,h=>by have e:=z6c (n:=n) (b k (by simp)) h;obtain⟨c,d⟩:=zGc (n:=n) a (l:=zGN n l k) (λj f=>by rw[ln,zyb];exact b j (by simp[f])) e;exact⟨c,d.trans<|zyb _ _ _⟩
def zKv {e:Type}(n:Int)(K:List ah->Option e):∀(a:LI) (i:Nat) (l:List ah),(∀k∈a,j0 k (ln l)=true)->
 goL (λ_ k (t:List ah) d=>bif inb k (ln t) then (cond (inb k<|ln t) (d<|up t k<|zqe (ix t k zA) n) none) else none) K a i l=K (zqK n a l)
 |[],_,_,_=>rfl
 |k::a,i,l,h=>by have c:inb k (ln l)=true:=h k (by simp);simp only[goL,c,cT];exact zKv n K a (i+1) (zGN n l k) (λj b=>by rw[ln,zyb];exact h j (by simp[b]))
def zGO (b:ai)(n:Int):ai:=bif ieq (ln<|zft b.ac n) 0 then {b with aj:=zvB b.aj n} else {b with ac:=zqK n (zft b.ac n) b.ac}
def ziw (b:ai)(n:Int):Bool:=bif zcp b then j0 n 8 else false
def zmi (b:ai)(n:Int):ai:=bif ziw b n then zGO b n else b
def zBT {b:ai}{n:Int}:∀k∈zft b.ac n,j0 k (ln b.ac)=true:=λk a=>by have:=zYB _ _ _ k a;exact qL (by simp only[ln];omega)
def z5u {b:ai}{n:Int}(h:ieq (ln<|zft b.ac n) 0=true):zqK n (zft b.ac n) b.ac=b.ac:=by have a:((zft b.ac n).length:Int)=0:=qD h;have:zft b.ac n=[]:=uU.1 (by omega);rw[this];rfl
def zPC {b:ai}{n:Int}:(cond (ieq (ln<|zft b.ac n) 0) (some [AV.agg<|Ty.cells .bare ⟨b.ag,zqK n (zft b.ac n) b.ac,b.Outs,zvB b.aj n⟩,AV.one<|.b true])<|some [AV.agg<|Ty.cells .bare ⟨b.ag,zqK n (zft b.ac n) b.ac,b.Outs,b.aj⟩,AV.one<|.b true])=some [AV.agg<|Ty.cells .bare<|zGO b n,AV.one<|.b true]:=by unfold zGO;cases h:ieq (ln<|zft b.ac n) 0;{rfl};{simp only [cT,z5u h]}
@[simp] abbrev zcZ (b:ai)(n:Int):ai:=zmi b n
@[simp] abbrev zdd (b:ai)(n:Int):Bool:=ziw b n
def zjA:Run:=rF2 (dT .bare) dI λb c=>(zdm b c,[aT .bare<|zcZ b c,aB<|zdd b c])
def zEk (N:Nat)(i:ai)(e:Int):OA:=
 let b:=zO i; (oN (zW i)<|oN (zcY b)<|cond (nB<|zbR b) (some [aT .bare b,aB false])<|oN (zJ e 0 7)<|cond (nB<|zl e 0 7) (some [aT .bare b,aB false])<|oN (zdm b e)<|q0 (σ:=(Int×Int×Int×Int×LI×lM×lG×LI×lM×lG×LI×Unit)) N (λj a=>let b:=a.2.2.2.2.2;let h:=b.2.2.1;let d:=a.2.2.2.2.1;let c:=b.2.1;let f:=ix d a.2.1 0;let g:=ix c f zA; (cond (ilt a.2.1<|ln d) (oN (inb a.2.1<|ln d)<|oN (inb a.2.1<|ln d)<|oN (inb f<|ln c)<|oN (zge g.aj a.1)<|oN (inb f<|ln c)<|j (a.1,zM .i64 a.2.1 1,a.2.2.1,a.2.2.2.1,d,b.1,up c f ({g with aj:=(zev g.aj a.1)}:ah),h,b.2.2.2.1,b.2.2.2.2.1,b.2.2.2.2.2.1,()))<|cond (ieq (ln d) 0) (oN (zge a.2.2.1 a.1)<|some [aT .bare (⟨b.1,c,h,zev a.2.2.1 a.1⟩:ai),aB true])<|some [aT .bare (⟨b.1,c,h,a.2.2.1⟩:ai),aB true])) (e,0,b.aj,0,zfU b e,b.ag,b.ac,b.Outs,[],[],[],()))
def zTB:=zo [(164,0,{n:=62,tm:=[(1,ti),(2,.lp 0 0),(4,.lp 1 0),(6,.sl 0 []),(7,ti)],lo:=[(0,[.sl 1 [],.sl 2 [],.sl 3 [],ti]),(1,[.sl 4 [],.sl 5 [],.sl 6 [],ti])],ro:=[(0,.int,true),(1,.sl .int,true),(2,.guest,true),(3,.int,true),(4,.sl .int,true),(5,.guest,true),(6,.int,true)]})]
def zSK (a:ai)(c:Int)(l:zdm a c=true):∃N,zEk N a c=some [aT .bare<|zcZ a c,aB<|zdd a c]:=by
 have h:=zF.1 l;have j:(zft a.ac c).length<=big:=qT (zwK _ _ _) (zcC h.2.1.1).1;refine zcf λN g=>?_;unfold zEk zcZ zdd zmi ziw oN nB;conv=>zeta
 refine i0 (zba h) (i0 rfl (brN (λe=>?_) λe=>i0 rfl (brN (λd=>?_) λd=>i0 (zba h) ?_)));{simp only [show zcp a=false from e,cF]};{simp only [show zcp a=true from e,show j0 c 8=false from by first|exact d|exact(zQE c).symm.trans d,cT,cF]};simp only[show zcp a=true from e,show j0 c 8=true from by first|exact d|exact(zQE c).symm.trans d,cT];refine(zbp (zfU (zO a) c) (λi (t:lG)=>(c,(i:Int),(zO a).aj,0,zfU (zO a) c,(zO a).ag,t,(zO a).Outs,[],[],[],())) _ (λ_ k (t:List ah) m=>bif inb k (ln t) then (cond (inb k<|ln t) (m<|up t k<|zqe (ix t k zA) c) none) else none) (λ(t:lG)=>cond (ieq (ln<|zfU (zO a) c) 0) (cond (zge (zO a).aj c) (some [.agg<|Ty.cells .bare (⟨(zO a).ag,t,(zO a).Outs,zev (zO a).aj c⟩:ai),.one<|.b true]) none)<|some [.agg<|Ty.cells .bare (⟨(zO a).ag,t,(zO a).Outs,(zO a).aj⟩:ai),.one<|.b true]) (λi f t rec=>?_) (λt rec=>?_) _ ((zO a).ac)<|g j).trans ?_;{simp only [zbw f,zbc f,zbn f,zbj f j,cT];rfl};{simp only [zbq,cF];rfl};exact(zKv c _ _ 0 _ zBT).trans zPC
def zwD:vP 164 zjA:=kF2 zKm zq zu zn zTB zSK
def zDS (N:Nat)(b:ai)(c:Int):OA:=
 let e:=zO b; (oN (zW b)<|oN (zcY b)<|cond (nB<|zbR b) (some [aT .bare e,aB false])<|oN (zJ c 0 7)<|cond (nB<|zl c 0 7) (some [aT .bare e,aB false])<|oN (zdm b c)<|q0 (σ:=(Int×Int×Int×Int×Int×LI×lM×lG×LI×lM×lG×LI×Unit)) N (λl a=>let b:=a.2.2.2.2.2;let h:=a.2.2.2.2.1;let g:=b.1;let k:=b.2.2.2.2.1;let i:=b.2.2.2.2.2.2.1;let f:=ix g a.2.2.1 0;let d:=b.2.2.2.2.2.1;let j:=ix d f zA; (cond (ilt a.2.2.1 a.2.1) (oN (inb a.2.2.1<|ln g)<|oN (inb f<|ln d)<|oN (zge j.aj a.1)<|oN (inb f<|ln d)<|l (a.1,a.2.1,zM .i64 a.2.2.1 1,a.2.2.2.1,h,g,b.2.1,b.2.2.1,b.2.2.2.1,k,up d f ({j with aj:=(zev j.aj a.1)}:ah),i,()))<|cond (ieq (ln g) 0) (oN (zge h a.1)<|some [aT .bare (⟨k,d,i,zev h a.1⟩:ai),aB true])<|some [aT .bare (⟨k,d,i,h⟩:ai),aB true])) (c,ln<|zfU b c,0,0,e.aj,zfU b c,[],[],[],e.ag,e.ac,e.Outs,()))
def zTu:=zo [(319,0,{n:=59,tm:=[(1,ti),(4,.lp 0 0),(6,.lp 1 0),(7,.sl 0 []),(24,.sl 0 []),(25,ti),(26,ti)],lo:=[(0,[.sl 1 [],.sl 2 [],.sl 3 [],ti]),(1,[.sl 4 [],.sl 5 [],.sl 6 [],ti])],ro:=[(0,.int,true),(1,.sl .int,true),(2,.guest,true),(3,.int,true),(4,.sl .int,true),(5,.guest,true),(6,.int,true)]})]
def zSj (a:ai)(c:Int)(l:zdm a c=true):∃N,zDS N a c=some [aT .bare<|zcZ a c,aB<|zdd a c]:=by
 have h:=zF.1 l;have j:(zft a.ac c).length<=big:=qT (zwK _ _ _) (zcC h.2.1.1).1;refine zcf λN g=>?_;unfold zDS zcZ zdd zmi ziw oN nB;conv=>zeta
 refine i0 (zba h) (i0 rfl (brN (λe=>?_) λe=>i0 rfl (brN (λd=>?_) λd=>i0 (zba h) ?_)));{simp only [show zcp a=false from e,cF]};{simp only [show zcp a=true from e,show j0 c 8=false from by first|exact d|exact(zQE c).symm.trans d,cT,cF]};simp only[show zcp a=true from e,show j0 c 8=true from by first|exact d|exact(zQE c).symm.trans d,cT];refine(zbp (zfU a c) (λi (t:lG)=>(c,ln<|zfU a c,(i:Int),0,(zO a).aj,zfU a c,[],[],[],(zO a).ag,t,(zO a).Outs,())) _ (λ_ k (t:List ah) m=>bif inb k (ln t) then (cond (inb k<|ln t) (m<|up t k<|zqe (ix t k zA) c) none) else none) (λ(t:lG)=>cond (ieq (ln<|zfU a c) 0) (cond (zge (zO a).aj c) (some [.agg<|Ty.cells .bare (⟨(zO a).ag,t,(zO a).Outs,zev (zO a).aj c⟩:ai),.one<|.b true]) none)<|some [.agg<|Ty.cells .bare (⟨(zO a).ag,t,(zO a).Outs,(zO a).aj⟩:ai),.one<|.b true]) (λi f t rec=>?_) (λt rec=>?_) _ ((zO a).ac)<|g j).trans ?_;{simp only [zbw f,zbc f,zbn f,zbj f j,cT];rfl};{simp only [zbq,cF];rfl};exact(zKv c _ _ 0 _ zBT).trans zPC
def zwA:vP 319 zjA:=kF2 zKm zq zu zn zTu zSj
end
end Go.Proofs.YtapgkefgcbapcaaGreat.E
namespace Go.Proofs
open Go Go.Shelf
end Go.Proofs
namespace Go.Proofs.YtapgkefgcbapcaaGreat.E
open Go
set_option linter.defProp false
set_option linter.constructorNameAsVariable false
set_option linter.unusedVariables false
set_option maxRecDepth 100000
set_option linter.unusedSimpArgs false
set_option linter.unusedSectionVars false
noncomputable section
section
open Go Go.RowKit Go.Proofs
section
variable {P:Program}
end
end
def z6w:zbb:=[(157,zkl),(302,zkl),(158,zix),(304,zix),(159,zht),(309,zht),(160,zhw),(311,zhw),(161,zhu),(313,zhu),(162,zkj),(315,zkj),(163,zjz),(317,zjz),(165,zki),(321,zki),(166,zkk),(341,zkk),(167,zhv),(342,zhv),(164,zjA),(319,zjA)]++zbbT
def zEV:zN z6w:=zh zx0 (zh zxU<|zh zu7<|zh zu5<|zh zt4<|zh zt1<|zh zt6<|zh zt3<|zh zt5<|zh zt2<|zh zxY<|zh zxS<|zh zwC<|zh zwz<|zh zxW<|zh zxR<|zh zxZ<|zh zxT<|zh zwE<|zh zqc<|zh zwD<|zh zwA zKm)
def z8N {n:Int}(h:(ieq n 4||ieq n 8)=true):n=4\/n=8:=by rcases j6 _ _ ▸ h with h|h;{exact .inl (qD h)};{exact .inr (qD h)}
def z7L {n:Int}(h:(ieq n 8||ieq n 12)=true):n=8\/n=12:=by rcases j6 _ _ ▸ h with h|h;{exact .inl (qD h)};{exact .inr (qD h)}
@[simp] abbrev zlK (n:Int):Bool:=ieq n 4||ieq n 8
@[simp] abbrev zi3 (n:Int):List k0:=List.replicate n.toNat ⟨-1,0⟩
def zsX:Run:=rF1 dI λb=>(zlK b,[aS .slot<|zi3 b])
def zXD (N:Nat)(b:Int):OA:=
 (oN (ztA b 0 24)<|q0 (σ:=(Int×lS×Unit)) N (λc a=>cond (igt a.1 0) (oN zbO<|oN (few<|ln<|ap a.2.1 [zbm])<|c (wsub .i64 a.1 1,ap a.2.1 [zbm],()))<|some [aS .slot a.2.1]) (zuk b 0 24,[],()))
def zTH:=zo [(196,0,{n:=17,tm:=[(3,.sl 0 []),(4,ti)],lo:=[],ro:=[(0,.slot,true)]})]
def zS0 (a:Int)(b:zlK a=true):∃N,zXD N a=some [aS .slot<|zi3 a]:=by refine⟨30,?_⟩;have h:a=4\/a=8:=z8N b;rcases h with rfl|rfl<;>(change _=_;kernel_rfl)
def zwH:vP 196 zsX:=kF1 zEV zq zu zn zTH zS0
@[simp] abbrev zrZ (n:Int):Bool:=ieq n 8||ieq n 12
@[simp] abbrev zmr (n:Int):List LI:=List.replicate n.toNat [0,0,0,0]
def zw5:Run:=rF1 dI λb=>(zrZ b,[aS (.sl .int)<|zmr b])
def z3R (N:Nat)(b:Int):OA:=
 (oN (ztA b 0 24)<|q0 (σ:=(Int×lM×Unit)) N (λc a=>cond (igt a.1 0) (oN (cond (few 4) (ieq 4 4) false)<|oN (few<|ln<|ap a.2.1 [rp 4 0])<|c (wsub .i64 a.1 1,ap a.2.1 [rp 4 0],()))<|some [aS (.sl .int) a.2.1]) (zuk b 0 24,[],()))
def z0P:=zo [(184,0,{n:=17,tm:=[(3,.sl 0 []),(4,ti)],lo:=[],ro:=[(0,.sl .int,true)]})]
def zY8 (a:Int)(b:zrZ a=true):∃N,z3R N a=some [aS (.sl .int)<|zmr a]:=by refine⟨30,?_⟩;have h:a=8\/a=12:=z7L b;rcases h with rfl|rfl<;>(change _=_;kernel_rfl)
def zzY:vP 184 zw5:=kF1 zEV zq zu zn z0P zY8
def z6x:zbb:=[(196,zsX),(184,zw5)]++z6w
def zUr:zN z6x:=zh zwH (zh zzY zEV)
def zur:List k0:=List.replicate 4 ⟨-1,0⟩
def znC (p:List Ins):ah:=⟨p,0,0,zur,zur,⟨0,0,false⟩,0,⟨0,0,false,0⟩,false,[]⟩
@[simp] abbrev zlF (p:List Ins):Bool:=pc (p.length<=1048576)
@[simp] abbrev zcN (p:List Ins):ah:=znC p
def zoB:Run:=rF1 (dS .ins) λb=>(zlF b,[aT .guest<|zcN b])
def zEp (N:Nat)(a:lI):OA:=
 (oN (few<|ln<|ap [] a)<|oN (zlK 4)<|oN (zlK 4)<|some [aT .guest (⟨ap [] a,0,0,zi3 4,zi3 4,⟨0,0,false⟩,0,⟨0,0,false,0⟩,false,[]⟩:ah)])
def zSO (a:List Ins)(b:zlF a=true):∃N,zEp N a=some [aT .guest<|zcN a]:=by have c:=zF.1 b;refine⟨0,?_⟩;unfold zEp oN;refine mu (i0 rfl (i0 rfl ?_));first|rfl|(simp only [*,zcN,znC,zur,cT,cF]<;>rfl)|simp_all[Ty.cells,zcN,znC,zur]
def zqd:vP 197 zoB:=kF1 zUr zq zu zn (zo []) zSO
def z6y:zbb:=[(197,zoB)]++z6x
def znx:zN z6y:=zh zqd zUr
def zS9:List LI:=List.replicate 8 [0,0,0,0]
def SmPs (a:List (List Ins)):Prop:=a.length<=1048576/\∀p∈a,p.length<=1048576
def zUO {d c j:Type}(m:Nat)(f:d->c)(K:List c->Option j):∀(l:List d) (i:Nat) (a:List c),a.length+l.length<=2147483648->
 goL (λ(i:Nat) x a k=>bif ilt (i:Int) (m:Int) then (cond (few<|ln<|ap a [f x]) (k<|ap a [f x]) none) else K a) K l i a=K (a++(l.take<|m-i).map f)
 |[],i,a,_=>by simp[goL]
 |x::l,i,a,g=>by simp only[qY]at g;have e:few (ln<|ap a [f x])=true:=zh8 (by simp[ap];omega);by_cases h:i<m;{have b:ilt (i:Int) (m:Int)=true:=qL (by omega);simp only[goL,b,e,cT];rw[zUO m f K l (i+1) (ap a [f x]) (by simp[ap];omega)];rw[show m-i=m-(i+1)+1 by omega];simp[ap]};{have b:ilt (i:Int) (m:Int)=false:=qH (by omega);simp only[goL,b,cF];rw[show m-i=0 by omega];simp}
@[simp] abbrev zeQ (a:r0):Bool:=true
@[simp] abbrev zlC (a:r0):Bool:=zl a.Kind 1 17
def zje:Run:=rF1 (dT .act) λb=>(zeQ b,[aB<|zlC b])
def zT0 (N:Nat)(a:r0):OA:=
 (oN (zJ a.Kind 1 17)<|some [aB<|zl a.Kind 1 17])
def zJk (a:r0)(b:zbE big [aT .act a])(c:zeQ a=true):∃N,zT0 N a=some [aB<|zlC a]:=by refine⟨0,?_⟩;unfold zT0 oN;refine i0 rfl ?_;first|rfl|(simp only [*,zlC,cT,cF]<;>rfl)|simp_all[Ty.cells,zlC]
def zuK:vP 42 zje:=hF1 znx zq zu zn (zo []) zJk
@[simp] abbrev zfb (k:Int):Bool:=true
@[simp] abbrev zfw (k:Int):Bool:=zl k 13 17
def zg8:Run:=rF1 dI λb=>(zfb b,[aB<|zfw b])
def zIJ (N:Nat)(a:Int):OA:=
 (oN (zJ a 13 17)<|some [aB<|zl a 13 17])
def zCU (a:Int)(b:zbE big [aI a])(c:zfb a=true):∃N,zIJ N a=some [aB<|zfw a]:=by refine⟨0,?_⟩;unfold zIJ oN;refine i0 rfl ?_;first|rfl|(simp only [*,zfw,cT,cF]<;>rfl)|simp_all[Ty.cells,zfw]
def zrb:vP 40 zg8:=hF1 znx zq zu zn (zo []) zCU
@[simp] abbrev zeV (a:r0):Ctl:=⟨a.X,a.Y,ieq a.Z 1⟩
def zjf:Run:=rF1 (dT .act) λb=>(zeQ b,[.agg<|zo5<|zeV b])
def zT1 (N:Nat)(a:r0):OA:=
 (some [.agg [.i .i64 a.X,.i .i64 a.Y,.b<|ieq a.Z 1]])
def zJl (a:r0)(b:zbE big [aT .act a])(c:zeQ a=true):∃N,zT1 N a=some [.agg<|zo5<|zeV a]:=by refine⟨0,?_⟩;unfold zT1;first|rfl|(simp only [*,zeV,cT,cF]<;>rfl)|simp_all[Ty.cells,zeV]
def zuL:vP 38 zjf:=hF1 znx zq zu zn (zo []) zJl
def zuI:vP 41 zje:=hF1 znx zq zu zn (zo []) zJk
def zq9:vP 39 zg8:=hF1 znx zq zu zn (zo []) zCU
def zuJ:vP 37 zjf:=hF1 znx zq zu zn (zo []) zJl
def z6z:zbb:=[(42,zje),(41,zje),(40,zg8),(39,zg8),(38,zjf),(37,zjf)]++z6y
def z6A:zN z6z:=zh zuK (zh zuI<|zh zrb<|zh zq9<|zh zuL<|zh zuJ znx)
def zXZ:zbb:=[(157,zkl),(302,zkl),(158,zix),(304,zix),(159,zht),(309,zht),(160,zhw),(311,zhw),(161,zhu),(313,zhu),(162,zkj),(315,zkj),(163,zjz),(317,zjz),(165,zki),(321,zki),(166,zkk),(341,zkk),(167,zhv),(342,zhv),(164,zjA),(319,zjA),(184,zw5)]++zbbP
def zEW:zN zXZ:=zh zx0 (zh zxU<|zh zu7<|zh zu5<|zh zt4<|zh zt1<|zh zt6<|zh zt3<|zh zt5<|zh zt2<|zh zxY<|zh zxS<|zh zwC<|zh zwz<|zh zxW<|zh zxR<|zh zxZ<|zh zxT<|zh zwE<|zh zqc<|zh zwD<|zh zwA<|zh zzY z9I)
def zdL (x:Mon):ai:=⟨zS9,x.ac,x.Outs,x.aj⟩
def zA9 (x:Mon)(b:ai):Mon:={x with ac:=b.ac,aj:=b.aj}
def zcS (h:ad)(m:Int)(b:ai):ad:={h with aa:=up h.aa m (zA9 (ix h.aa m mZ) b)}
@[simp] abbrev zgi (x:Mon):Bool:=pc (zfJ x)
@[simp] abbrev zbY (x:Mon):ai:=zdL x
def zDk:Run:=rF1 (dT .mon) λb=>(zgi b,[aT .bare<|zbY b])
def zIZ (N:Nat)(a:Mon):OA:=
 (oN (zrZ 8)<|oN (zhe a.ac)<|oN (few<|ln<|ap [] a.Outs)<|some [aT .bare (⟨zmr 8,zh0 a.ac,ap [] a.Outs,a.aj⟩:ai)])
def zWJ (a:Mon)(c:zgi a=true):∃N,zIZ N a=some [aT .bare<|zbY a]:=by have b:=zF.1 c;refine⟨0,?_⟩;unfold zIZ oN;exact i0 rfl (i0 (zba<|(zxF _).2 b.2.2.2.1) (i0 (zqA b.2.2.2.2.1) rfl))
def zOK:vP 332 zDk:=kF1 zEW zq zbH ziD (zo []) zWJ
@[simp] abbrev zgh (h:ad)(m:Int)(b:ai):Bool:=pc (j0 m (ln h.aa)=true/\zm7 b.ac)
@[simp] abbrev zjo (h:ad)(m:Int)(b:ai):ad:=zcS h m b
def zQA {l:List Mon}{m:Int}(a:j0 m (ln l)=true)(b:ai):inb m (ln<|up l m {ix l m mZ with ac:=b.ac})=true/\
 up (up l m {ix l m mZ with ac:=b.ac}) m {ix (up l m {ix l m mZ with ac:=b.ac}) m mZ with aj:=b.aj}=up l m (zA9 (ix l m mZ) b):=by
 obtain⟨k,rfl,c⟩:=zeK (n:=l.length) a;refine⟨zD (by rw[ln,zfB];exact a),?_⟩
 rw[zsv,zee c];rfl
def zuY:LW
 |[.agg [.s (.sl .int) b,.s .mon c,.s .entry d,.s .entry e],.one<|.i .i64 f,.agg [.s (.sl .int) g,.s .guest h,.s .int j,.i .i64 k]]=>some (zgh (⟨b,c,d,e⟩:ad) f (⟨g,h,j,k⟩:ai),[aH<|zjo (⟨b,c,d,e⟩:ad) f (⟨g,h,j,k⟩:ai)])
 |_=>none
def zyX (N:Nat)(b:ad)(a:Int)(c:ai):OA:=
 (oN (zhe c.ac)<|oN (inb a<|ln b.aa)<|p0 (up b.aa a ({ (ix b.aa a zi) with ac:=(zh0 c.ac)}:Mon)) λd=>oN (inb a<|ln d)<|p0 (up d a ({ (ix d a zi) with aj:=c.aj}:Mon)) λe=>some [aH ({b with aa:=e}:ad)])
def zZz (N:Nat)(a:ad)(b:Int)(c:ai):z4x (cQ zXZ zo6 z5t tctN) (zo []) N 12 333 [true,true,true,true,false,false,false,false,false] [aH a,aI b,aT .bare c]=zyX N a b c:=by kernel_rfl
def zWI (b:ad)(c:Int)(a:ai)(i:zbE big [aH b,aI c,aT .bare a])(h:zgh b c a=true):∃N,zyX N b c a=some [aH<|zjo b c a]:=by obtain⟨d,hg⟩:=zF.1 h;obtain⟨f,g⟩:=zQA d a;refine⟨0,?_⟩;unfold zyX oN;refine i0 (zba<|(zxF _).2 hg) (i0 (zD d)<|shr<|i0 f<|shr ?_);have e:zh0 a.ac=a.ac:=rfl;rw[e];show some [AV.agg<|zbl {b with aa:=_}]=some [AV.agg<|zbl {b with aa:=_}];rw[show zi=mZ from rfl,g]
def zOJ:zfg Tryz.prog 333 [true,true,true,true,false,false,false,false,false] none zuY:=by refine zQ1 (zis zEW zq zbH ziD) (ziX (by kernel_rfl)) (by kernel_rfl) ?_;intro a g f e h;have c:=zlk e;unfold zuY at h;split at h;{obtain⟨d,rfl⟩:=zd4 h;obtain⟨N,b⟩:=zWI _ _ _ (by exact c) d;exact⟨_,N,12,(zZz N _ _ _ ).trans b⟩};{cases h}
def z6F:zbb:=[(332,zDk)]++zXZ
def zfn:zN z6F:=zh zOK zEW
def zbfO:zgr:=[(333,[true,true,true,true,false,false,false,false,false],none,zuY)]++tctN
def zbZ:zfh zbfO:=zqx ziD (by
 intro x a;simp only[qG,qN,or_false]at a;rcases a with rfl
 .exact zOJ)
def zbcE (h:ad)(m:Int)(c:Bool)(B:ai)(ok:Bool)(a b:ad->Ans):OA:=
 bif zS h then (cond (zb8 h) (cond (cond (zb7 h) false true) (some<|a h)<|cond (zbi m<|ln h.aa) (cond (cond (zbX m<|ln h.aa) false true) (some<|a h)<|cond (zcT h m) (cond c (cond ok (cond (zdi B.ac) (cond (inb m<|ln h.aa) (p0 (up h.aa m {ix h.aa m mZ with ac:=B.ac}) λx=>cond (inb m<|ln x) (p0 (up x m {ix x m mZ with aj:=B.aj}) λy=>some (b {h with aa:=y})) none) none) none)<|some<|b h) none) none) none) none) else none
def zbcJ (h:ad)(m:Int)(a:Bool)(B:ai)(b c:ad->Ans):OA:=
 bif zS h then (cond (zg2 h m) (cond (cond (zg1 h m) false true) (some<|b h)<|cond (inb m<|ln h.aa) (cond (zgi<|ix h.aa m mZ) (cond a (cond (zgh h m B) (some<|c<|zcS h m B) none) none) none) none) none) else none
def zbr {h:ad}{m:Int}:(zcm h m=true)↔zbW h=true/\j0 m (ln h.aa)=true:=by unfold zcm;cases zbW h<;>simp
def zqj {h:ad}{m:Int}{cB:Bool}{B:ai}{ok:Bool}{o0 o1:ad->Ans}(l:SmH h)(k:zcm h m=true->cB=true)(j:zcm h m=true->SmB B)(c:zcm h m=true->ok=false->zcS h m B=h) :
 zbcE h m cB B ok o0 o1=some (cond (zcm h m) (o1<|zcS h m B)<|o0 h):=by
 have i:zdJ h:=(zQ h).2 l;unfold zbcE;refine i0 (zba i) (i0 rfl ?_);rw[show zb7 h=zbW h from rfl]
 have g:zbW h=true->j0 m (ln h.aa)=true->cB=true:=λa b=>k (zbr.2 ⟨a,b⟩);have f:zbW h=true->j0 m (ln h.aa)=true->SmB B:=λa b=>j (zbr.2 ⟨a,b⟩);unfold zcm at c ⊢;cases e:zbW h
 .rfl
 .refine zb9 rfl (i0 rfl ?_);rw[show zbX m (ln h.aa)=j0 m (ln h.aa) from rfl]
  rw[e]at c;cases d:j0 m (ln h.aa)
  .rfl
  .rw [d]at c;refine zb9 rfl (i0 (zbv i)<|i0 (g e d) ?_);cases ok
   .simp only [cT,cF,c rfl rfl]
   .obtain⟨e1,e2⟩:=zQA d B;refine i0 rfl (i0 (zba (f e d).2.1)<|i0 (zD d)<|shr<|i0 e1<|shr ?_)
    show some (o1 {h with aa:=_})=_
    rw[e2];rfl
def zqz {h:ad}{m:Int}{cB:Bool}{B:ai}{o0 o1:ad->Ans}(c:SmH h)(e:zcm h m=true->cB=true)(d:zcm h m=true->SmB B):zbcJ h m cB B o0 o1=some (cond (zcm h m) (o1<|zcS h m B)<|o0 h):=by unfold zbcJ;refine i0 (zba<|(zQ h).2 c) (i0 rfl ?_);rw[show zg1 h m=zcm h m from rfl];cases a:zcm h m;{rfl};{have b:=(zbr.1 a).2;exact zb9 rfl (i0 (zD b)<|i0 (zba<|c.2.1.2 _<|zbJ b _)<|i0 (e a) (i0 (zba ⟨b,(d a).2.1⟩) rfl))}
structure SameB (b c:ai):Prop where
 g:b.ac=c.ac
 p:b.aj=c.aj
 o:zcp b=zcp c
def SameB.at {b c:ai}(h:SameB b c)(g:Int):gAt b g=gAt c g:=by unfold gAt;rw[h.g]
def SameB.has {b c:ai}(h:SameB b c)(g:Int):zbV b g=zbV c g:=by unfold zbV;rw[h.g,h.o]
def back_eq {h:ad}{m:Int}{b c:ai}(hg:b.ac=c.ac)(a:b.aj=c.aj):zcS h m b=zcS h m c:=by unfold zcS zA9;rw[hg,a]
def zsE {b c:ai}(a:SameB b c)(h:ad)(m g:Int)(k:Bool)(x:ah):zcS h m (chg b g k x)=zcS h m (chg c g k x):=by unfold chg;rw[a.has];cases (cond (zbV c g) k false);{exact back_eq a.g a.p};{exact back_eq (by simp only[cT,zf2,a.g]) a.p}
def zog {b c:ai}(a:SameB b c)(g:Int)(k:Bool):zcA b g k=zcA c g k:=by unfold zcA;rw[a.has]
def zlV {h:ad}{m:Int}(a:j0 m (ln h.aa)=true):zcS h m (zT h m)=h:=by unfold zcS zA9 zT;rw[a,cT];simp only;rw[z05 a]
def zl4 {h:ad}{m:Int}(b:zcm h m=true)(d:zcp (zdL<|ix h.aa m mZ)=true):SameB (zdL<|ix h.aa m mZ) (zT h m):=by obtain⟨c,a⟩:=zbr.1 b;refine⟨?_,?_,d.trans (zte c a).symm⟩<;>unfold zT zdL<;>rw [a]<;>rfl
def zbdA:zlf zS9 8=true:=by decide
def zqR {h:ad}{m:Int}(b:zcm h m=true):zcp (zdL<|ix h.aa m mZ)=true:=by obtain⟨c,a⟩:=zbr.1 b;have:=zte c a;unfold zT at this;rw[a,cT] at this;unfold zcp at this ⊢;simp only[zdL,zbdA] at *;simp_all
def zgt {x:Mon}(h:zfJ x):SmB (zdL x):=⟨show SmM zS9 from ⟨by decide,by decide⟩,h.2.2.2.1,h.2.2.2.2.1⟩
def zwn {b:ai}{g:Int}{k:Bool}{x:ah}(h:zcA b g k=false):chg b g k x=b:=by unfold chg;unfold zcA at h;rw[h];rfl
def zgn (h:ad)(m:Int)(b:ai):ad:=bif zcm h m then zcS h m b else h
def zgH (h:ad)(m:Int)(ok:Bool):Bool:=bif zcm h m then ok else false
@[simp] abbrev zgJ (h:ad)(m:Int)(g p:Int)(s:k0):ad:=zgn h m (zc8 (zT h m) g p s)
@[simp] abbrev zhM (h:ad)(m:Int)(g p:Int)(s:k0):Bool:=zgH h m (zdl (zT h m) g p s)
@[simp] abbrev ze8 (h:ad)(m:Int)(g v:Int):ad:=zgn h m (zb0 (zT h m) g v)
@[simp] abbrev zfN (h:ad)(m:Int)(g v:Int):Bool:=zgH h m (zcb (zT h m) g v)
@[simp] abbrev zfa (h:ad)(m:Int)(g:Int):ad:=zgn h m (zb2 (zT h m) g)
@[simp] abbrev zfP (h:ad)(m:Int)(g:Int):Bool:=zgH h m (zcd (zT h m) g)
@[simp] abbrev ze9 (h:ad)(m:Int)(g n:Int):ad:=zgn h m (zb1 (zT h m) g n)
@[simp] abbrev zfO (h:ad)(m:Int)(g n:Int):Bool:=zgH h m (zcc (zT h m) g n)
@[simp] abbrev zhK (h:ad)(m:Int)(g:Int)(x:Ctl):ad:=zgn h m (zcK (zT h m) g x)
@[simp] abbrev zhL (h:ad)(m:Int)(g:Int)(x:Ctl):Bool:=zgH h m (zcV (zT h m) g x)
@[simp] abbrev zgb (h:ad)(m:Int)(n:Int):ad:=zgn h m (zcZ (zT h m) n)
@[simp] abbrev zgV (h:ad)(m:Int)(n:Int):Bool:=zgH h m (zdd (zT h m) n)
@[simp] abbrev zgI (h:ad)(m:Int):ad:=zgn h m (zcU<|zT h m)
@[simp] abbrev zhI (h:ad)(m:Int):Int:=bif zcm h m then zdS (zT h m) else -1
@[simp] abbrev zhJ (h:ad)(m:Int):Bool:=zgH h m (zc7<|zT h m)
@[simp] abbrev zgl (h:ad)(m g p:Int):Bool:=zgH h m (zcA (zT h m) g<|j0 p 4)
def z8k {b c:ai}(a:SameB b c)(n:Int):(zmi b n).ac=(zmi c n).ac/\(zmi b n).aj=(zmi c n).aj/\ziw b n=ziw c n:=by have e:ziw b n=ziw c n:=(by unfold ziw;rw[a.o]);unfold zmi;rw[e];cases ziw c n;{exact⟨a.g,a.p,rfl⟩};{unfold zGO;rw[a.g];cases ieq (ln<|zft c.ac n) 0;{exact⟨by simp only[cT,cF],by simp only[cT,cF,a.p],rfl⟩};{exact⟨by simp only[cT,a.g],by simp only[cT,a.p],rfl⟩}}
def z8j {b:ai}{n:Int}(h:ziw b n=false):zmi b n=b:=by unfold zmi;rw[h];rfl
def z8U {b c:ai}(a:SameB b c):(zns b).ac=(zns c).ac/\(zns b).aj=(zns c).aj/\zA5 b=zA5 c/\zqX b=zqX c:=by unfold zns zA5 zqX;rw[a.o,a.p];cases zcp c;{exact⟨a.g,a.p,rfl,rfl⟩};{exact⟨a.g,rfl,rfl,rfl⟩}
def z8T {b:ai}(h:zqX b=false):zns b=b:=by unfold zns;unfold zqX at h;cases c:zcp b;{rfl};{rw [c]at h;have a:ilt (zeC b.aj) 0=true:=(by simpa using h);unfold zjx;simp only[a,cT]}
def zU8 {b:ai}{n:Int}(h:SmB b):SmB (zmi b n):=by unfold zmi;cases ziw b n;{exact h};{unfold zGO;cases ieq (ln<|zft b.ac n) 0;{exact⟨h.1,(zGc _ zBT h.2.1).1,h.2.2⟩};{exact h}}
def z0n {b:ai}(h:SmB b):SmB (zns b):=by unfold zns;cases zcp b;{exact h};{exact h}
def zvY {H a:ad}{x y:Bool}(c:H=a)(d:x=y):some [AV.agg<|zbl H,AV.one<|.b x]=some [AV.agg<|zbl a,AV.one<|.b y]:=by rw[c,d]
def zbcZ {H a:ad}{n k:Int}{x y:Bool}(c:H=a)(d:n=k)(e:x=y):some [AV.agg<|zbl H,AV.one<|.i .i64 n,AV.one<|.b x]=some [AV.agg<|zbl a,AV.one<|.i .i64 k,AV.one<|.b y]:=by rw[c,d,e]
def zGU {b:ai}(g p:Int)(s:k0)(a:SmB b):SmB (zc8 b g p s):=zhC a (zMc _ _<|zfz _ a)
def zbak {b:ai}(g p:Int)(s:k0)(a:zdl b g p s=false):zc8 b g p s=b:=zwn a
def zbay {b c:ai}(a:SameB b c)(h:ad)(m:Int)(g p:Int)(s:k0):zcS h m (zc8 b g p s)=zcS h m (zc8 c g p s)/\zdl b g p s=zdl c g p s:=by have e:=a.at g;simp only[zc8,zdl,e];exact⟨zsE a _ _ _ _ _,zog a _ _⟩
@[simp] abbrev zpq (h:ad)(m:Int)(g p:Int)(s:k0):Bool:=pc (zdJ h)
def zpP:Run:=rF5 dH dI dI dI (dT .slot) λb c d e f=>(zpq b c d e f,[aH<|zgJ b c d e f,aB<|zhM b c d e f])
def zII (N:Nat)(g:ad)(b d e:Int)(f:k0):OA:=
 let a:=zk g;let c:=ix a.aa b zi; (oN (zS g)<|oN (zg2 a b)<|cond (nB<|zg1 a b) (some [aH a,aB false])<|oN (inb b<|ln a.aa)<|oN (zgi c)<|oN (zhQ (zbY c) d e f)<|oN (zgh a b<|zc8 (zbY c) d e f)<|some [aH<|zjo a b<|zc8 (zbY c) d e f,aB<|zdl (zbY c) d e f])
def zWp (a:ad)(c d e:Int)(f:k0)(n:zpq a c d e f=true):∃N,zII N a c d e f=some [aH<|zgJ a c d e f,aB<|zhM a c d e f]:=by
 have i:=(zQ a).1 (zF.1 n);refine⟨0,?_⟩;have j:=zqz (h:=a) (m:=c) (cB:=zhQ (zdL<|ix a.aa c mZ) d e f) (B:=zc8 (zdL<|ix a.aa c mZ) d e f) (o0:=λH=>[.agg<|zbl H,.one<|.b false]) (o1:=λH=>[.agg<|zbl H,.one<|.b<|zdl (zdL<|ix a.aa c mZ) d e f]) i
  (λg=>zba (zgt<|i.2.1.2 _<|zbJ (zbr.1 g).2 _)) (λg=>zGU _ _ _ (zgt<|i.2.1.2 _<|zbJ (zbr.1 g).2 _))
 refine(show zII 0 a c d e f=_ from j).trans ?_;unfold zgJ zhM zgn zgH;cases g:zcm a c;{rfl};{obtain⟨k,l⟩:=zbay (zl4 g<|zqR g) a c d e f;simp only[cT];exact zvY k l}
def zOg:vP 141 zpP:=kF5 zfn zq zbH zbZ (zo []) zWp
def zIg (N:Nat)(b:ad)(a d e:Int)(f:k0):OA:=
 let c:=zk b;let h:=zdh b a;let j:=zc8 h d e f;let i:=zdl h d e f; (oN (zS b)<|oN (zb8 b)<|cond (nB<|zb7 b) (some [aH c,aB false])<|oN (zbi a<|ln b.aa)<|cond (nB<|zbX a<|ln b.aa) (some [aH c,aB false])<|oN (zcT b a)<|oN (zhQ h d e f)<|cond i (oN (zdi j.ac)<|oN (inb a<|ln c.aa)<|p0 (up c.aa a ({ (ix c.aa a zi) with ac:=(zdX j.ac)}:Mon)) λg=>oN (inb a<|ln g)<|p0 (up g a ({ (ix g a zi) with aj:=j.aj}:Mon)) λk=>some [aH ({c with aa:=k}:ad),aB i])<|some [aH c,aB i])
def zVY (a:ad)(c d e:Int)(f:k0)(k:zpq a c d e f=true):∃N,zIg N a c d e f=some [aH<|zgJ a c d e f,aB<|zhM a c d e f]:=by
 have i:=(zQ a).1 (zF.1 k);refine⟨0,?_⟩;have j:=zqj (h:=a) (m:=c) (cB:=zhQ (zT a c) d e f) (B:=zc8 (zT a c) d e f) (ok:=zdl (zT a c) d e f) (o0:=λH=>[.agg<|zbl H,.one<|.b false]) (o1:=λH=>[.agg<|zbl H,.one<|.b<|zdl (zT a c) d e f]) i
  (λg=>zba (zex i (zbr.1 g).2)) (λg=>zGU _ _ _ (zex i (zbr.1 g).2)) (λg l=>(congrArg (zcS a c)<|zbak _ _ _ l).trans (zlV (zbr.1 g).2))
 refine(show zIg 0 a c d e f=_ from j).trans ?_;unfold zgJ zhM zgn zgH;cases zcm a c<;>rfl
def zNT:vP 124 zpP:=kF5 zfn zq zbH zbZ (zo []) zVY
def zvU {b:ai}(g v:Int)(a:SmB b):SmB (zb0 b g v):=zhC a (z0q _<|zfz _ a)
def z1Z {b:ai}(g v:Int)(a:zcb b g v=false):zb0 b g v=b:=zwn a
def z2w {b c:ai}(a:SameB b c)(h:ad)(m:Int)(g v:Int):zcS h m (zb0 b g v)=zcS h m (zb0 c g v)/\zcb b g v=zcb c g v:=by have e:=a.at g;simp only[zb0,zcb,e];exact⟨zsE a _ _ _ _ _,zog a _ _⟩
@[simp] abbrev zlG (h:ad)(m:Int)(g v:Int):Bool:=pc (zdJ h)
def zmo:Run:=rF4 dH dI dI dI λb c d e=>(zlG b c d e,[aH<|ze8 b c d e,aB<|zfN b c d e])
def zzJ (N:Nat)(f:ad)(b d e:Int):OA:=
 let a:=zk f;let c:=ix a.aa b zi; (oN (zS f)<|oN (zg2 a b)<|cond (nB<|zg1 a b) (some [aH a,aB false])<|oN (inb b<|ln a.aa)<|oN (zgi c)<|oN (zfR (zbY c) d e)<|oN (zgh a b<|zb0 (zbY c) d e)<|some [aH<|zjo a b<|zb0 (zbY c) d e,aB<|zcb (zbY c) d e])
def zLN (a:ad)(c d e:Int)(l:zlG a c d e=true):∃N,zzJ N a c d e=some [aH<|ze8 a c d e,aB<|zfN a c d e]:=by
 have g:=(zQ a).1 (zF.1 l);refine⟨0,?_⟩;have i:=zqz (h:=a) (m:=c) (cB:=zfR (zdL<|ix a.aa c mZ) d e) (B:=zb0 (zdL<|ix a.aa c mZ) d e) (o0:=λH=>[.agg<|zbl H,.one<|.b false]) (o1:=λH=>[.agg<|zbl H,.one<|.b<|zcb (zdL<|ix a.aa c mZ) d e]) g
  (λf=>zba (zgt<|g.2.1.2 _<|zbJ (zbr.1 f).2 _)) (λf=>zvU _ _ (zgt<|g.2.1.2 _<|zbJ (zbr.1 f).2 _))
 refine(show zzJ 0 a c d e=_ from i).trans ?_;unfold ze8 zfN zgn zgH;cases f:zcm a c;{rfl};{obtain⟨j,k⟩:=z2w (zl4 f<|zqR f) a c d e;simp only[cT];exact zvY j k}
def zFr:vP 143 zmo:=kF4 zfn zq zbH zbZ (zo []) zLN
def zzy (N:Nat)(b:ad)(a c d:Int):OA:=
 let f:=zk b;let e:=zdh b a; (oN (zS b)<|oN (zb8 b)<|cond (nB<|zb7 b) (some [aH f,aB false])<|oN (zbi a<|ln b.aa)<|cond (nB<|zbX a<|ln b.aa) (some [aH f,aB false])<|oN (zcT b a)<|oN (zfR e c d)<|cond (zcb e c d) (oN (zdi (zb0 e c d).ac)<|oN (inb a<|ln f.aa)<|p0 (up f.aa a ({ (ix f.aa a zi) with ac:=(zdX (zb0 e c d).ac)}:Mon)) λg=>oN (inb a<|ln g)<|p0 (up g a ({ (ix g a zi) with aj:=(zb0 e c d).aj}:Mon)) λh=>some [aH ({f with aa:=h}:ad),aB<|zcb e c d])<|some [aH f,aB<|zcb e c d])
def zLC (a:ad)(c d e:Int)(j:zlG a c d e=true):∃N,zzy N a c d e=some [aH<|ze8 a c d e,aB<|zfN a c d e]:=by
 have g:=(zQ a).1 (zF.1 j);refine⟨0,?_⟩;have i:=zqj (h:=a) (m:=c) (cB:=zfR (zT a c) d e) (B:=zb0 (zT a c) d e) (ok:=zcb (zT a c) d e) (o0:=λH=>[.agg<|zbl H,.one<|.b false]) (o1:=λH=>[.agg<|zbl H,.one<|.b<|zcb (zT a c) d e]) g
  (λf=>zba (zex g (zbr.1 f).2)) (λf=>zvU _ _ (zex g (zbr.1 f).2)) (λf k=>(congrArg (zcS a c)<|z1Z _ _ k).trans (zlV (zbr.1 f).2))
 refine(show zzy 0 a c d e=_ from i).trans ?_;unfold ze8 zfN zgn zgH;cases zcm a c<;>rfl
def zFi:vP 126 zmo:=kF4 zfn zq zbH zbZ (zo []) zLC
def zvW {b:ai}(g:Int)(a:SmB b):SmB (zb2 b g):=zhC a (z0s<|zfz _ a)
def z15 {b:ai}(g:Int)(a:zcd b g=false):zb2 b g=b:=zwn a
def z2y {b c:ai}(a:SameB b c)(h:ad)(m:Int)(g:Int):zcS h m (zb2 b g)=zcS h m (zb2 c g)/\zcd b g=zcd c g:=by have e:=a.at g;simp only[zb2,zcd,e];exact⟨zsE a _ _ _ _ _,zog a _ _⟩
@[simp] abbrev zlI (h:ad)(m:Int)(g:Int):Bool:=pc (zdJ h)
def zmq:Run:=rF3 dH dI dI λb c d=>(zlI b c d,[aH<|zfa b c d,aB<|zfP b c d])
def zzL (N:Nat)(e:ad)(b d:Int):OA:=
 let a:=zk e;let c:=ix a.aa b zi; (oN (zS e)<|oN (zg2 a b)<|cond (nB<|zg1 a b) (some [aH a,aB false])<|oN (inb b<|ln a.aa)<|oN (zgi c)<|oN (zbT (zbY c) d)<|oN (zgh a b<|zb2 (zbY c) d)<|some [aH<|zjo a b<|zb2 (zbY c) d,aB<|zcd (zbY c) d])
def zLP (a:ad)(c d:Int)(k:zlI a c d=true):∃N,zzL N a c d=some [aH<|zfa a c d,aB<|zfP a c d]:=by
 have f:=(zQ a).1 (zF.1 k);refine⟨0,?_⟩;have g:=zqz (h:=a) (m:=c) (cB:=zbT (zdL<|ix a.aa c mZ) d) (B:=zb2 (zdL<|ix a.aa c mZ) d) (o0:=λH=>[.agg<|zbl H,.one<|.b false]) (o1:=λH=>[.agg<|zbl H,.one<|.b<|zcd (zdL<|ix a.aa c mZ) d]) f
  (λe=>zba (zgt<|f.2.1.2 _<|zbJ (zbr.1 e).2 _)) (λe=>zvW _ (zgt<|f.2.1.2 _<|zbJ (zbr.1 e).2 _))
 refine(show zzL 0 a c d=_ from g).trans ?_;unfold zfa zfP zgn zgH;cases e:zcm a c;{rfl};{obtain⟨i,j⟩:=z2y (zl4 e<|zqR e) a c d;simp only[cT];exact zvY i j}
def zFt:vP 144 zmq:=kF3 zfn zq zbH zbZ (zo []) zLP
def zzB (N:Nat)(b:ad)(a c:Int):OA:=
 let e:=zk b;let d:=zdh b a; (oN (zS b)<|oN (zb8 b)<|cond (nB<|zb7 b) (some [aH e,aB false])<|oN (zbi a<|ln b.aa)<|cond (nB<|zbX a<|ln b.aa) (some [aH e,aB false])<|oN (zcT b a)<|oN (zbT d c)<|cond (zcd d c) (oN (zdi (zb2 d c).ac)<|oN (inb a<|ln e.aa)<|p0 (up e.aa a ({ (ix e.aa a zi) with ac:=(zdX (zb2 d c).ac)}:Mon)) λf=>oN (inb a<|ln f)<|p0 (up f a ({ (ix f a zi) with aj:=(zb2 d c).aj}:Mon)) λg=>some [aH ({e with aa:=g}:ad),aB<|zcd d c])<|some [aH e,aB<|zcd d c])
def zLE (a:ad)(c d:Int)(i:zlI a c d=true):∃N,zzB N a c d=some [aH<|zfa a c d,aB<|zfP a c d]:=by
 have f:=(zQ a).1 (zF.1 i);refine⟨0,?_⟩;have g:=zqj (h:=a) (m:=c) (cB:=zbT (zT a c) d) (B:=zb2 (zT a c) d) (ok:=zcd (zT a c) d) (o0:=λH=>[.agg<|zbl H,.one<|.b false]) (o1:=λH=>[.agg<|zbl H,.one<|.b<|zcd (zT a c) d]) f
  (λe=>zba (zex f (zbr.1 e).2)) (λe=>zvW _ (zex f (zbr.1 e).2)) (λe j=>(congrArg (zcS a c)<|z15 _ j).trans (zlV (zbr.1 e).2))
 refine(show zzB 0 a c d=_ from g).trans ?_;unfold zfa zfP zgn zgH;cases zcm a c<;>rfl
def zFk:vP 127 zmq:=kF3 zfn zq zbH zbZ (zo []) zLE
def zvV {b:ai}(g n:Int)(a:SmB b):SmB (zb1 b g n):=zhC a (zfz (b:=b) _ a)
def z14 {b:ai}(g n:Int)(a:zcc b g n=false):zb1 b g n=b:=zwn a
def z2x {b c:ai}(a:SameB b c)(h:ad)(m:Int)(g n:Int):zcS h m (zb1 b g n)=zcS h m (zb1 c g n)/\zcc b g n=zcc c g n:=by have e:=a.at g;simp only[zb1,zcc,e];exact⟨zsE a _ _ _ _ _,zog a _ _⟩
@[simp] abbrev zlH (h:ad)(m:Int)(g n:Int):Bool:=pc (zdJ h)
def zmp:Run:=rF4 dH dI dI dI λb c d e=>(zlH b c d e,[aH<|ze9 b c d e,aB<|zfO b c d e])
def zzK (N:Nat)(f:ad)(b d e:Int):OA:=
 let a:=zk f;let c:=ix a.aa b zi; (oN (zS f)<|oN (zg2 a b)<|cond (nB<|zg1 a b) (some [aH a,aB false])<|oN (inb b<|ln a.aa)<|oN (zgi c)<|oN (zfS (zbY c) d e)<|oN (zgh a b<|zb1 (zbY c) d e)<|some [aH<|zjo a b<|zb1 (zbY c) d e,aB<|zcc (zbY c) d e])
def zLO (a:ad)(c d e:Int)(l:zlH a c d e=true):∃N,zzK N a c d e=some [aH<|ze9 a c d e,aB<|zfO a c d e]:=by
 have g:=(zQ a).1 (zF.1 l);refine⟨0,?_⟩;have i:=zqz (h:=a) (m:=c) (cB:=zfS (zdL<|ix a.aa c mZ) d e) (B:=zb1 (zdL<|ix a.aa c mZ) d e) (o0:=λH=>[.agg<|zbl H,.one<|.b false]) (o1:=λH=>[.agg<|zbl H,.one<|.b<|zcc (zdL<|ix a.aa c mZ) d e]) g
  (λf=>zba (zgt<|g.2.1.2 _<|zbJ (zbr.1 f).2 _)) (λf=>zvV _ _ (zgt<|g.2.1.2 _<|zbJ (zbr.1 f).2 _))
 refine(show zzK 0 a c d e=_ from i).trans ?_;unfold ze9 zfO zgn zgH;cases f:zcm a c;{rfl};{obtain⟨j,k⟩:=z2x (zl4 f<|zqR f) a c d e;simp only[cT];exact zvY j k}
def zFs:vP 145 zmp:=kF4 zfn zq zbH zbZ (zo []) zLO
def zzA (N:Nat)(b:ad)(a c d:Int):OA:=
 let f:=zk b;let e:=zdh b a; (oN (zS b)<|oN (zb8 b)<|cond (nB<|zb7 b) (some [aH f,aB false])<|oN (zbi a<|ln b.aa)<|cond (nB<|zbX a<|ln b.aa) (some [aH f,aB false])<|oN (zcT b a)<|oN (zfS e c d)<|cond (zcc e c d) (oN (zdi (zb1 e c d).ac)<|oN (inb a<|ln f.aa)<|p0 (up f.aa a ({ (ix f.aa a zi) with ac:=(zdX (zb1 e c d).ac)}:Mon)) λg=>oN (inb a<|ln g)<|p0 (up g a ({ (ix g a zi) with aj:=(zb1 e c d).aj}:Mon)) λh=>some [aH ({f with aa:=h}:ad),aB<|zcc e c d])<|some [aH f,aB<|zcc e c d])
def zLD (a:ad)(c d e:Int)(j:zlH a c d e=true):∃N,zzA N a c d e=some [aH<|ze9 a c d e,aB<|zfO a c d e]:=by
 have g:=(zQ a).1 (zF.1 j);refine⟨0,?_⟩;have i:=zqj (h:=a) (m:=c) (cB:=zfS (zT a c) d e) (B:=zb1 (zT a c) d e) (ok:=zcc (zT a c) d e) (o0:=λH=>[.agg<|zbl H,.one<|.b false]) (o1:=λH=>[.agg<|zbl H,.one<|.b<|zcc (zT a c) d e]) g
  (λf=>zba (zex g (zbr.1 f).2)) (λf=>zvV _ _ (zex g (zbr.1 f).2)) (λf k=>(congrArg (zcS a c)<|z14 _ _ k).trans (zlV (zbr.1 f).2))
 refine(show zzA 0 a c d e=_ from i).trans ?_;unfold ze9 zfO zgn zgH;cases zcm a c<;>rfl
def zFj:vP 128 zmp:=kF4 zfn zq zbH zbZ (zo []) zLD
def zGT {b:ai}(g:Int)(x:Ctl)(a:SmB b):SmB (zcK b g x):=zhC a (zfz (b:=b) _ a)
def zbaj {b:ai}(g:Int)(x:Ctl)(a:zcV b g x=false):zcK b g x=b:=zwn a
def zbax {b c:ai}(a:SameB b c)(h:ad)(m:Int)(g:Int)(x:Ctl):zcS h m (zcK b g x)=zcS h m (zcK c g x)/\zcV b g x=zcV c g x:=by have e:=a.at g;simp only[zcK,zcV,e];exact⟨zsE a _ _ _ _ _,zog a _ _⟩
@[simp] abbrev zpo (h:ad)(m:Int)(g:Int)(x:Ctl):Bool:=pc (zdJ h)
def zpN:Run:=rF4 dH dI dI dC λb c d e=>(zpo b c d e,[aH<|zhK b c d e,aB<|zhL b c d e])
def zIF (N:Nat)(f:ad)(b d:Int)(e:Ctl):OA:=
 let a:=zk f;let c:=ix a.aa b zi; (oN (zS f)<|oN (zg2 a b)<|cond (nB<|zg1 a b) (some [aH a,aB false])<|oN (inb b<|ln a.aa)<|oN (zgi c)<|oN (zhN (zbY c) d e)<|oN (zgh a b<|zcK (zbY c) d e)<|some [aH<|zjo a b<|zcK (zbY c) d e,aB<|zcV (zbY c) d e])
def zWm (a:ad)(c d:Int)(e:Ctl)(l:zpo a c d e=true):∃N,zIF N a c d e=some [aH<|zhK a c d e,aB<|zhL a c d e]:=by
 have g:=(zQ a).1 (zF.1 l);refine⟨0,?_⟩;have i:=zqz (h:=a) (m:=c) (cB:=zhN (zdL<|ix a.aa c mZ) d e) (B:=zcK (zdL<|ix a.aa c mZ) d e) (o0:=λH=>[.agg<|zbl H,.one<|.b false]) (o1:=λH=>[.agg<|zbl H,.one<|.b<|zcV (zdL<|ix a.aa c mZ) d e]) g
  (λf=>zba (zgt<|g.2.1.2 _<|zbJ (zbr.1 f).2 _)) (λf=>zGT _ _ (zgt<|g.2.1.2 _<|zbJ (zbr.1 f).2 _))
 refine(show zIF 0 a c d e=_ from i).trans ?_;unfold zhK zhL zgn zgH;cases f:zcm a c;{rfl};{obtain⟨j,k⟩:=zbax (zl4 f<|zqR f) a c d e;simp only[cT];exact zvY j k}
def zOd:vP 146 zpN:=kF4 zfn zq zbH zbZ (zo []) zWm
def zIe (N:Nat)(b:ad)(a c:Int)(d:Ctl):OA:=
 let f:=zk b;let e:=zdh b a; (oN (zS b)<|oN (zb8 b)<|cond (nB<|zb7 b) (some [aH f,aB false])<|oN (zbi a<|ln b.aa)<|cond (nB<|zbX a<|ln b.aa) (some [aH f,aB false])<|oN (zcT b a)<|oN (zhN e c d)<|cond (zcV e c d) (oN (zdi (zcK e c d).ac)<|oN (inb a<|ln f.aa)<|p0 (up f.aa a ({ (ix f.aa a zi) with ac:=(zdX (zcK e c d).ac)}:Mon)) λg=>oN (inb a<|ln g)<|p0 (up g a ({ (ix g a zi) with aj:=(zcK e c d).aj}:Mon)) λh=>some [aH ({f with aa:=h}:ad),aB<|zcV e c d])<|some [aH f,aB<|zcV e c d])
def zVW (a:ad)(c d:Int)(e:Ctl)(j:zpo a c d e=true):∃N,zIe N a c d e=some [aH<|zhK a c d e,aB<|zhL a c d e]:=by
 have g:=(zQ a).1 (zF.1 j);refine⟨0,?_⟩;have i:=zqj (h:=a) (m:=c) (cB:=zhN (zT a c) d e) (B:=zcK (zT a c) d e) (ok:=zcV (zT a c) d e) (o0:=λH=>[.agg<|zbl H,.one<|.b false]) (o1:=λH=>[.agg<|zbl H,.one<|.b<|zcV (zT a c) d e]) g
  (λf=>zba (zex g (zbr.1 f).2)) (λf=>zGT _ _ (zex g (zbr.1 f).2)) (λf k=>(congrArg (zcS a c)<|zbaj _ _ k).trans (zlV (zbr.1 f).2))
 refine(show zIe 0 a c d e=_ from i).trans ?_;unfold zhK zhL zgn zgH;cases zcm a c<;>rfl
def zNR:vP 129 zpN:=kF4 zfn zq zbH zbZ (zo []) zVW
def zB9 {b:ai}(n:Int)(a:SmB b):SmB (zcZ b n):=zU8 a
def z7R {b:ai}(n:Int)(a:zdd b n=false):zcZ b n=b:=z8j a
def z8z {b c:ai}(f:SameB b c)(h:ad)(m n:Int):zcS h m (zcZ b n)=zcS h m (zcZ c n)/\zdd b n=zdd c n:=by obtain⟨a,d,e⟩:=z8k f n;exact⟨back_eq a d,e⟩
@[simp] abbrev znT (h:ad)(m:Int)(n:Int):Bool:=pc (zdJ h)
def zoD:Run:=rF3 dH dI dI λb c d=>(znT b c d,[aH<|zgb b c d,aB<|zgV b c d])
def zEs (N:Nat)(e:ad)(b d:Int):OA:=
 let a:=zk e;let c:=ix a.aa b zi; (oN (zS e)<|oN (zg2 a b)<|cond (nB<|zg1 a b) (some [aH a,aB false])<|oN (inb b<|ln a.aa)<|oN (zgi c)<|oN (zdm (zbY c) d)<|oN (zgh a b<|zcZ (zbY c) d)<|some [aH<|zjo a b<|zcZ (zbY c) d,aB<|zdd (zbY c) d])
def zSR (a:ad)(c d:Int)(k:znT a c d=true):∃N,zEs N a c d=some [aH<|zgb a c d,aB<|zgV a c d]:=by
 have f:=(zQ a).1 (zF.1 k);refine⟨0,?_⟩;have g:=zqz (h:=a) (m:=c) (cB:=zdm (zdL<|ix a.aa c mZ) d) (B:=zcZ (zdL<|ix a.aa c mZ) d) (o0:=λH=>[.agg<|zbl H,.one<|.b false]) (o1:=λH=>[.agg<|zbl H,.one<|.b<|zdd (zdL<|ix a.aa c mZ) d]) f
  (λe=>zba (zgt<|f.2.1.2 _<|zbJ (zbr.1 e).2 _)) (λe=>zB9 _ (zgt<|f.2.1.2 _<|zbJ (zbr.1 e).2 _))
 refine(show zEs 0 a c d=_ from g).trans ?_;unfold zgb zgV zgn zgH;cases e:zcm a c;{rfl};{obtain⟨i,j⟩:=z8z (zl4 e<|zqR e) a c d;simp only[cT];exact zvY i j}
def zK9:vP 148 zoD:=kF3 zfn zq zbH zbZ (zo []) zSR
def zDX (N:Nat)(b:ad)(a c:Int):OA:=
 let e:=zk b;let d:=zdh b a; (oN (zS b)<|oN (zb8 b)<|cond (nB<|zb7 b) (some [aH e,aB false])<|oN (zbi a<|ln b.aa)<|cond (nB<|zbX a<|ln b.aa) (some [aH e,aB false])<|oN (zcT b a)<|oN (zdm d c)<|cond (zdd d c) (oN (zdi (zcZ d c).ac)<|oN (inb a<|ln e.aa)<|p0 (up e.aa a ({ (ix e.aa a zi) with ac:=(zdX (zcZ d c).ac)}:Mon)) λf=>oN (inb a<|ln f)<|p0 (up f a ({ (ix f a zi) with aj:=(zcZ d c).aj}:Mon)) λg=>some [aH ({e with aa:=g}:ad),aB<|zdd d c])<|some [aH e,aB<|zdd d c])
def zSo (a:ad)(c d:Int)(i:znT a c d=true):∃N,zDX N a c d=some [aH<|zgb a c d,aB<|zgV a c d]:=by
 have f:=(zQ a).1 (zF.1 i);refine⟨0,?_⟩;have g:=zqj (h:=a) (m:=c) (cB:=zdm (zT a c) d) (B:=zcZ (zT a c) d) (ok:=zdd (zT a c) d) (o0:=λH=>[.agg<|zbl H,.one<|.b false]) (o1:=λH=>[.agg<|zbl H,.one<|.b<|zdd (zT a c) d]) f
  (λe=>zba (zex f (zbr.1 e).2)) (λe=>zB9 _ (zex f (zbr.1 e).2)) (λe j=>(congrArg (zcS a c)<|z7R _ j).trans (zlV (zbr.1 e).2))
 refine(show zDX 0 a c d=_ from g).trans ?_;unfold zgb zgV zgn zgH;cases zcm a c<;>rfl
def zKF:vP 131 zoD:=kF3 zfn zq zbH zbZ (zo []) zSo
def zGS {b:ai}(a:SmB b):SmB (zcU b):=z0n a
def zbai {b:ai}(a:zc7 b=false):zcU b=b:=z8T a
def zbaw {b c:ai}(g:SameB b c)(h:ad)(m:Int):zcS h m (zcU b)=zcS h m (zcU c)/\zdS b=zdS c/\zc7 b=zc7 c:=by obtain⟨a,d,e,f⟩:=z8U g;exact⟨back_eq a d,e,f⟩
def zpM:Run:=rF2 dH dI λb c=>(zcT b c,[aH<|zgI b c,aI<|zhI b c,aB<|zhJ b c])
def zID (N:Nat)(d:ad)(b:Int):OA:=
 let a:=zk d;let c:=ix a.aa b zi; (oN (zS d)<|oN (zg2 a b)<|cond (nB<|zg1 a b) (some [aH a,aI<|-1,aB false])<|oN (inb b<|ln a.aa)<|oN (zgi c)<|oN (zW<|zbY c)<|oN (zgh a b<|zcU<|zbY c)<|some [aH<|zjo a b<|zcU<|zbY c,aI<|zdS<|zbY c,aB<|zc7<|zbY c])
def zWk (a:ad)(c:Int)(l:zcT a c=true):∃N,zID N a c=some [aH<|zgI a c,aI<|zhI a c,aB<|zhJ a c]:=by
 have e:=(zQ a).1 (zF.1 l);refine⟨0,?_⟩;have f:=zqz (h:=a) (m:=c) (cB:=zW (zdL<|ix a.aa c mZ)) (B:=zcU (zdL<|ix a.aa c mZ)) (o0:=λH=>[.agg<|zbl H,.one<|.i .i64<|-1,.one<|.b false]) (o1:=λH=>[.agg<|zbl H,.one<|.i .i64<|zdS<|zdL<|ix a.aa c mZ,.one<|.b<|zc7<|zdL<|ix a.aa c mZ]) e
  (λd=>zba (zgt<|e.2.1.2 _<|zbJ (zbr.1 d).2 _)) (λd=>zGS (zgt<|e.2.1.2 _<|zbJ (zbr.1 d).2 _))
 refine(show zID 0 a c=_ from f).trans ?_;unfold zgI zhI zhJ zgn zgH;cases d:zcm a c;{rfl};{obtain⟨g,j,k⟩:=zbaw (zl4 d<|zqR d) a c;simp only[cT];exact zbcZ g j k}
def zOc:vP 149 zpM:=kF2 zfn zq zbH zbZ (zo []) zWk
def zIc (N:Nat)(c:ad)(a:Int):OA:=
 let d:=zk c;let b:=zdh c a; (oN (zS c)<|oN (zb8 c)<|cond (nB<|zb7 c) (some [aH d,aI<|-1,aB false])<|oN (zbi a<|ln c.aa)<|cond (nB<|zbX a<|ln c.aa) (some [aH d,aI<|-1,aB false])<|oN (zcT c a)<|oN (zW b)<|cond (zc7 b) (oN (zdi (zcU b).ac)<|oN (inb a<|ln d.aa)<|p0 (up d.aa a ({ (ix d.aa a zi) with ac:=(zdX (zcU b).ac)}:Mon)) λe=>oN (inb a<|ln e)<|p0 (up e a ({ (ix e a zi) with aj:=(zcU b).aj}:Mon)) λf=>some [aH ({d with aa:=f}:ad),aI<|zdS b,aB<|zc7 b])<|some [aH d,aI<|zdS b,aB<|zc7 b])
def zVU (a:ad)(c:Int)(g:zcT a c=true):∃N,zIc N a c=some [aH<|zgI a c,aI<|zhI a c,aB<|zhJ a c]:=by
 have e:=(zQ a).1 (zF.1 g);refine⟨0,?_⟩;have f:=zqj (h:=a) (m:=c) (cB:=zW (zT a c)) (B:=zcU (zT a c)) (ok:=zc7 (zT a c)) (o0:=λH=>[.agg<|zbl H,.one<|.i .i64<|-1,.one<|.b false]) (o1:=λH=>[.agg<|zbl H,.one<|.i .i64<|zdS<|zT a c,.one<|.b<|zc7<|zT a c]) e
  (λd=>zba (zex e (zbr.1 d).2)) (λd=>zGS (zex e (zbr.1 d).2)) (λd j=>(congrArg (zcS a c)<|zbai j).trans (zlV (zbr.1 d).2))
 refine(show zIc 0 a c=_ from f).trans ?_;unfold zgI zhI zhJ zgn zgH;cases zcm a c<;>rfl
def zNQ:vP 132 zpM:=kF2 zfn zq zbH zbZ (zo []) zVU
def z6G:zbb:=[(141,zpP),(124,zpP),(143,zmo),(126,zmo),(144,zmq),(127,zmq),(145,zmp),(128,zmp),(146,zpN),(129,zpN),(148,zoD),(131,zoD),(149,zpM),(132,zpM)]++z6F
def zny:zN z6G:=zh zOg (zh zNT<|zh zFr<|zh zFi<|zh zFt<|zh zFk<|zh zFs<|zh zFj<|zh zOd<|zh zNR<|zh zK9<|zh zKF<|zh zOc<|zh zNQ zfn)
def ziP (h:ad)(m t:Int):ad:=bif zbW h then (cond (j0 m<|ln h.aa) (cond (zl t 0 3) {h with aa:=up h.aa m {ix h.aa m mZ with aq:=t}} h) h) else h
def zss (h:ad)(m t:Int):Bool:=bif zbW h then (cond (j0 m<|ln h.aa) (zl t 0 3) false) else false
@[simp] abbrev znV (h:ad)(m t:Int):Bool:=pc (zdJ h)
@[simp] abbrev zij (h:ad)(m t:Int):ad:=ziP h m t
@[simp] abbrev zjX (h:ad)(m t:Int):Bool:=zss h m t
def zoH:Run:=rF3 dH dI dI λb c d=>(znV b c d,[aH<|zij b c d,aB<|zjX b c d])
def zEz (N:Nat)(d:ad)(b c:Int):OA:=
 let a:=zk d; (oN (zS d)<|oN (zb8 a)<|cond (nB<|zb7 a) (some [aH a,aB false])<|oN (zJ b 0<|wsub .i64 (ln a.aa) 1)<|cond (nB<|zl b 0<|wsub .i64 (ln a.aa) 1) (some [aH a,aB false])<|oN (zJ c 0 3)<|cond (nB<|zl c 0 3) (some [aH a,aB false])<|oN (inb b<|ln a.aa)<|p0 (up a.aa b ({ (ix a.aa b zi) with aq:=c}:Mon)) λe=>some [aH ({a with aa:=e}:ad),aB true])
def zSZ (a:ad)(b c:Int)(d:znV a b c=true):∃N,zEz N a b c=some [aH<|zij a b c,aB<|zjX a b c]:=by
 have g:=(zQ a).1 (zF.1 d);refine⟨0,?_⟩;unfold zEz zij zjX ziP zss oN nB;conv=>zeta
 refine i0 d (i0 rfl ?_);rw[show zb7 (zk a)=zbW a from rfl];cases e:zbW a;{rfl};{refine zb9 rfl (i0 rfl ?_);rw[show zl b 0 (wsub .i64 (ln (zk a).aa) 1)=j0 b (ln a.aa) from zTQ e b];cases f:j0 b (ln a.aa);{rfl};{refine zb9 rfl (i0 rfl ?_);rw[show zl c 0 3=zl c 0 3 from rfl];cases h:zl c 0 3;{rfl};{exact zb9 rfl (i0 (zD f) rfl)}}}
def zLi:vP 330 zoH:=kF3 zny zq zbH zbZ (zo []) zSZ
def zD3 (N:Nat)(b:ad)(c d:Int):OA:=
 let a:=zk b; (oN (zS b)<|oN (zb8 b)<|cond (nB<|zb7 b) (some [aH a,aB false])<|oN (zbi c<|ln b.aa)<|cond (nB<|zbX c<|ln b.aa) (some [aH a,aB false])<|oN (zJ d 0 3)<|cond (nB<|zl d 0 3) (some [aH a,aB false])<|oN (inb c<|ln a.aa)<|p0 (up a.aa c ({ (ix a.aa c zi) with aq:=d}:Mon)) λe=>some [aH ({a with aa:=e}:ad),aB true])
def zSu (a:ad)(b c:Int)(d:znV a b c=true):∃N,zD3 N a b c=some [aH<|zij a b c,aB<|zjX a b c]:=by
 have g:=(zQ a).1 (zF.1 d);refine⟨0,?_⟩;unfold zD3 zij zjX ziP zss oN nB;conv=>zeta
 refine i0 d (i0 rfl ?_);rw[show zb7 a=zbW a from rfl];cases f:zbW a;{rfl};{refine zb9 rfl (i0 rfl ?_);rw[show zbX b (ln a.aa)=j0 b (ln a.aa) from rfl];cases e:j0 b (ln a.aa);{rfl};{refine zb9 rfl (i0 rfl ?_);rw[show zl c 0 3=zl c 0 3 from rfl];cases h:zl c 0 3;{rfl};{exact zb9 rfl (i0 (zD e) rfl)}}}
def zKM:vP 138 zoH:=kF3 zny zq zbH zbZ (zo []) zSu
def zfC {h:ad}{m p:Int}:(zbP h m p=true)↔zbW h=true/\j0 m (ln h.aa)=true/\j0 p 8=true:=by unfold zbP;cases zbW h<;>cases j0 m (ln h.aa)<;>simp
def ziv (h:ad)(m p:Int):Bool:=ieq (ix (ix h.aa m mZ).ae p sZ).af (-1)
def zly (h:ad)(m p:Int):ad:=bif zbP h m p then (cond (ziv h m p) h<|zeP h m p) else h
def zuh (h:ad)(m p:Int):Bool:=bif zbP h m p then !ziv h m p else false
def znK (h:ad)(m p:Int):ad:=bif zbP h m p then (cond (ziv h m p) (fetched h m p) h) else h
def zwV (h:ad)(m p:Int):Bool:=bif zbP h m p then ziv h m p else false
@[simp] abbrev zjj (h:ad)(m p:Int):ad:=zly h m p
@[simp] abbrev zkZ (h:ad)(m p:Int):Bool:=zuh h m p
@[simp] abbrev zkJ (h:ad)(m p:Int):ad:=znK h m p
@[simp] abbrev zms (h:ad)(m p:Int):Bool:=zwV h m p
def zPv {h:ad}(f:SmH h)(c:zbW h=true){m p:Int}(d:j0 m (ln h.aa)=true)(e:j0 p 8=true) :
 (cond (ieq (ix (ix h.aa m mZ).ae p sZ).af<|-1) (ieq (ix (ix h.aa m mZ).ae p sZ).an 0) false)=ziv h m p:=by
 have a:=(zvz (zi9 c _<|zbJ d mZ) e).no;unfold zdz at a;unfold ziv;rw[<- a];cases b:ieq (ix (ix h.aa m mZ).ae p sZ).af (-1)<;>simp [A0,b]
def zx8 {h:ad}(d:SmH h)(a:zbW h=true){m p:Int}(b:j0 m (ln h.aa)=true)(c:j0 p 8=true):inb p (ln (ix h.aa m mZ).ae)=true :=
 zD (by rw[ln,((zeX d a).1.2 _ (zbJ b mZ)).1];exact c)
def zpR:Run:=rF3 dH dI dI λb c d=>(zfd b c d,[aH<|zjj b c d,aB<|zkZ b c d])
def zIM (N:Nat)(e:ad)(c b:Int):OA:=
 let a:=zk e;let d:=(ix a.aa c zi).ae; (oN (zS e)<|oN (zjl a c b)<|cond (nB<|zeA a c b) (some [aH a,aB false])<|oN (inb c<|ln a.aa)<|oN (inb b<|ln d)<|oN zbO<|cond (cond (ieq (ix d b zX).af zbm.af) (ieq (ix d b zX).an zbm.an) false) (some [aH a,aB false])<|oN (zkM a c b)<|some [aH<|zn2 a c b,aB true])
def zWr (a:ad)(b c:Int)(h:zfd a b c=true):∃N,zIM N a b c=some [aH<|zjj a b c,aB<|zkZ a b c]:=by
 have g:=(zQ a).1 (zF.1 h);refine⟨0,?_⟩;unfold zIM zjj zkZ zly zuh oN nB;conv=>zeta
 refine i0 h (i0 rfl ?_);rw[show zeA (zk a) b c=zbP a b c from rfl];cases i:zbP a b c;{rfl};{obtain⟨e,d,f⟩:=zfC.1 i;refine zb9 rfl (i0 (zD d)<|i0 (zx8 g e d f) (i0 rfl ?_));rw[show (cond (ieq (ix (ix (zk a).aa b zi).ae c zX).af zbm.af) (ieq (ix (ix (zk a).aa b zi).ae c zX).an zbm.an) false)=ziv a b c from zPv g e d f];cases j:ziv a b c;{exact zb9 rfl (i0 (zba ⟨(zeX g e).1,d,f⟩) rfl)};{rfl}}
def zOj:vP 327 zpR:=kF3 zny zq zbH zbZ (zo []) zWr
def zIh (N:Nat)(a:ad)(b c:Int):OA:=
 let d:=(ix a.aa b zi).ae; (oN (zS a)<|oN (zjl a b c)<|cond (nB<|zeA a b c) (some [aH<|zk a,aB false])<|oN (inb b<|ln a.aa)<|oN (inb c<|ln d)<|cond (ieq (ix d c zX).af<|-1) (some [aH<|zk a,aB false])<|oN (zkM (zk a) b c)<|some [aH<|zn2 (zk a) b c,aB true])
def zVZ (a:ad)(b c:Int)(e:zfd a b c=true):∃N,zIh N a b c=some [aH<|zjj a b c,aB<|zkZ a b c]:=by
 have h:=(zQ a).1 (zF.1 e);refine⟨0,?_⟩;unfold zIh zjj zkZ zly zuh oN nB;conv=>zeta
 refine i0 e (i0 rfl ?_);rw[show zeA a b c=zbP a b c from rfl];cases i:zbP a b c;{rfl};{obtain⟨f,d,g⟩:=zfC.1 i;refine zb9 rfl (i0 (zD d)<|i0 (zx8 h f d g) ?_);rw[show ieq (ix (ix a.aa b zi).ae c zX).af (-1)=ziv a b c from rfl];cases j:ziv a b c;{exact zb9 rfl (i0 (zba ⟨(zeX h f).1,d,g⟩) rfl)};{rfl}}
def zNW:vP 135 zpR:=kF3 zny zq zbH zbZ (zo []) zVZ
def zrH:Run:=rF3 dH dI dI λb c d=>(zfd b c d,[aH<|zkJ b c d,aB<|zms b c d])
def zMW (N:Nat)(e:ad)(c b:Int):OA:=
 let a:=zk e;let d:=(ix a.aa c zi).ae; (oN (zS e)<|oN (zjl a c b)<|cond (nB<|zeA a c b) (some [aH a,aB false])<|oN (inb c<|ln a.aa)<|oN (inb b<|ln d)<|oN zbO<|cond (nB<|cond (ieq (ix d b zX).af zbm.af) (ieq (ix d b zX).an zbm.an) false) (some [aH a,aB false])<|oN (zl3 a c b)<|some [aH<|zm3 a c b,aB true])
def zZb (a:ad)(b c:Int)(h:zfd a b c=true):∃N,zMW N a b c=some [aH<|zkJ a b c,aB<|zms a b c]:=by
 have g:=(zQ a).1 (zF.1 h);refine⟨0,?_⟩;unfold zMW zkJ zms znK zwV oN nB;conv=>zeta
 refine i0 h (i0 rfl ?_);rw[show zeA (zk a) b c=zbP a b c from rfl];cases i:zbP a b c;{rfl};{obtain⟨e,d,f⟩:=zfC.1 i;refine zb9 rfl (i0 (zD d)<|i0 (zx8 g e d f) (i0 rfl ?_));rw[show (cond (ieq (ix (ix (zk a).aa b zi).ae c zX).af zbm.af) (ieq (ix (ix (zk a).aa b zi).ae c zX).an zbm.an) false)=ziv a b c from zPv g e d f];cases j:ziv a b c;{rfl};{exact zb9 rfl (i0 (zba ⟨zeX g e,d,f⟩) rfl)}}
def zRI:vP 328 zrH:=kF3 zny zq zbH zbZ (zo []) zZb
def zMy (N:Nat)(a:ad)(b c:Int):OA:=
 let d:=(ix a.aa b zi).ae; (oN (zS a)<|oN (zjl a b c)<|cond (nB<|zeA a b c) (some [aH<|zk a,aB false])<|oN (inb b<|ln a.aa)<|oN (inb c<|ln d)<|cond (ine (ix d c zX).af<|-1) (some [aH<|zk a,aB false])<|oN (zl3 (zk a) b c)<|some [aH<|zm3 (zk a) b c,aB true])
def zYQ (a:ad)(b c:Int)(e:zfd a b c=true):∃N,zMy N a b c=some [aH<|zkJ a b c,aB<|zms a b c]:=by
 have h:=(zQ a).1 (zF.1 e);refine⟨0,?_⟩;unfold zMy zkJ zms znK zwV oN nB;conv=>zeta
 refine i0 e (i0 rfl ?_);rw[show zeA a b c=zbP a b c from rfl];cases i:zbP a b c;{rfl};{obtain⟨f,d,g⟩:=zfC.1 i;refine zb9 rfl (i0 (zD d)<|i0 (zx8 h f d g) ?_);rw[show ine (ix (ix a.aa b zi).ae c zX).af (-1) = !ziv a b c from zjw _ _];cases j:ziv a b c;{rfl};{exact zb9 rfl (i0 (zba ⟨zeX h f,d,g⟩) rfl)}}
def zRh:vP 136 zrH:=kF3 zny zq zbH zbZ (zo []) zYQ
def z6H:zbb:=[(330,zoH),(138,zoH),(327,zpR),(135,zpR),(328,zrH),(136,zrH)]++z6G
def zEX:zN z6H:=zh zLi (zh zKM<|zh zOj<|zh zNW<|zh zRI<|zh zRh zny)
def zP7 {x:Mon}{b:ai}(h:zfJ x)(a:zm7 b.ac):zfJ (zA9 x b):=⟨h.1,h.2.1,h.2.2.1,a,h.2.2.2.2⟩
def zCa {h:ad}{m:Int}{b:ai}(a:SmH h)(d:j0 m (ln h.aa)=true)(c:zm7 b.ac):SmH (zcS h m b):=
 ⟨a.1,zkO a.2.1<|zP7 (a.2.1.2 _<|zbJ d _) c,a.2.2⟩
def zJ6 {h:ad}{m:Int}(b:ai)(a:j0 m (ln h.aa)=true):j0 m (ln (zcS h m b).aa)=true:=by show j0 m (ln<|up h.aa m _)=true;rw[ln,zfB];exact a
def zbcQ {h:ad}{m:Int}(b:ai)(c:j0 m (ln h.aa)=true):ix (zcS h m b).aa m mZ=zA9 (ix h.aa m mZ) b:=by obtain⟨k,rfl,a⟩:=zeK (n:=h.aa.length) c;exact zee a _ _
def z7m (h:ad)(m g p:Int):ad:=⟨h.ag,up h.aa m {ix h.aa m mZ with ak:=up (ix h.aa m mZ).ak g (zct (ix (ix h.aa m mZ).ak g kZ) p)},zel h.ao (zi6 m g) p,zel h.am (zi6 m g) p⟩
def z7l (H:ad)(m g p:Int)(o:ad->Ans):OA:=
 bif inb m (ln H.aa) then (bif inb m (ln H.aa) then (bif inb g (ln (ix H.aa m mZ).ak) then (bif zc0 (ix (ix H.aa m mZ).ak g kZ) p then (bif inb g (ln (ix H.aa m mZ).ak) then (p0 (up H.aa m {ix H.aa m mZ with ak:=up (ix H.aa m mZ).ak g (zct (ix (ix H.aa m mZ).ak g kZ) p)}) λx=>
  (cond (zik m g) (cond (zej H.ao (zi6 m g) p) (cond (zik m g) (cond (zej H.am (zi6 m g) p) (some<|o ⟨H.ag,x,zel H.ao (zi6 m g) p,zel H.am (zi6 m g) p⟩) none) none) none) none)) else none) else none) else none) else none) else none
def zUC {H:ad}{m g p:Int}{o:ad->Ans}(b:SmH H)(a:j0 m (ln H.aa)=true)(hg:j0 g (ln (ix H.aa m mZ).ak)=true):z7l H m g p o=some (o<|z7m H m g p):=by have c:=b.2.1.2 _ (zbJ a mZ);unfold z7l;exact i0 (zD a) (i0 (zD a)<|i0 (zD hg)<|i0 (zba<|c.2.2.2.2.2.2 _<|zbJ hg _)<|i0 (zD hg)<|shr (i0 rfl (i0 (zba b.2.2.1) (i0 rfl (i0 (zba b.2.2.2) rfl)))))
def zi8 (h:ad)(m g p:Int):ad:=bif zcm h m then (cond (zcA (zT h m) g<|j0 p 4) (z7m (zcS h m<|chg (zT h m) g (j0 p 4)<|ziQ (gAt (zT h m) g) p) m g p) h) else h
@[simp] abbrev zmN (h:ad)(m g p:Int):Bool:=pc (zdJ h)
@[simp] abbrev zhc (h:ad)(m g p:Int):ad:=zi8 h m g p
def zzj {h:ad}{m:Int}(a:j0 m (ln h.aa)=true):(zT h m).ac=(ix h.aa m mZ).ac:=by unfold zT;rw[a];rfl
def zFa {h:ad}{m g:Int}{k:Bool}(i:SmH h)(e:zcm h m=true)(b:ai)(a:zcA (zT h m) g k=true):j0 g (ln (ix (zcS h m b).aa m mZ).ak)=true:=by obtain⟨f,c⟩:=zbr.1 e;rw[zbcQ b c];show j0 g (ln (ix h.aa m mZ).ak)=true;rw[ln,((zeX i f).1.2 _ (zbJ c mZ)).2.2.2,<- zzj c];unfold zcA at a;cases d:zbV (zT h m) g;{rw [d]at a;cases a};{exact(zd6.1 d).2}
def znn:Run:=rF4 dH dI dI dI λb c d e=>(zmN b c d e,[aH<|zhc b c d e,aB<|zgl b c d e])
def zCH (N:Nat)(i:ad)(a b c:Int):OA:=
 let h:=zlL a b;let e:=zk i;let g:=ix e.aa a zi;let d:=zjo e a<|zcQ (zbY g) b c;let f:=ix d.aa a zi;let j:=ix f.ak b zec; (oN (zS i)<|oN (zg2 e a)<|cond (nB<|zg1 e a) (some [aH e,aB false])<|oN (inb a<|ln e.aa)<|oN (zgi g)<|oN (ziL (zbY g) b c)<|cond (nB<|zei (zbY g) b c) (some [aH e,aB false])<|oN (zgh e a<|zcQ (zbY g) b c)<|oN (inb a<|ln d.aa)<|oN (inb a<|ln d.aa)<|oN (inb b<|ln f.ak)<|oN (zc0 j c)<|oN (inb b<|ln f.ak)<|p0 (up d.aa a ({f with ak:=(up f.ak b<|zeO j c)}:Mon)) λk=>oN (zik a b)<|oN (zej d.ao h c)<|oN (zik a b)<|oN (zej d.am h c)<|some [aH (⟨d.ag,k,zfF d.ao h c,zfF d.am h c⟩:ad),aB true])
def zPh (a:ad)(c d e:Int)(j:zbE big [aH a,aI c,aI d,aI e])(q:zmN a c d e=true):∃N,zCH N a c d e=some [aH<|zhc a c d e,aB<|zgl a c d e]:=by
 have k:=(zQ a).1 (zF.1 q);refine⟨0,?_⟩;unfold zCH zhc zgl zi8 zgH oN nB;conv=>zeta
 refine i0 q (i0 rfl ?_);rw[show zg1 (zk a) c=zcm a c from rfl];cases h:zcm a c;{rfl};{obtain⟨v,f⟩:=zbr.1 h;have r:=k.2.1.2 _ (zbJ f mZ);have l:=zgt r;have i:=zl4 h (zqR h);have u:zcA (zdL<|ix a.aa c mZ) d (j0 e 4)=zcA (zT a c) d (j0 e 4):=zog i _ _;have s:zcS a c (zcQ (zdL<|ix a.aa c mZ) d e)=zcS a c (chg (zT a c) d (j0 e 4)<|ziQ (gAt (zT a c) d) e):=(by rw[<- i.at];exact zsE i _ _ _ _ _);refine zb9 rfl (i0 (zD f)<|i0 (zba r)<|i0 (zba l) ?_);rw[show zei (zbY<|ix (zk a).aa c zi) d e=zcA (zT a c) d (j0 e 4) from u];cases t:zcA (zT a c) d (j0 e 4);{rfl};{have j:SmB (zcQ (zdL<|ix a.aa c mZ) d e):=zhC l (zoX _<|zfz _ l);refine zb9 rfl (i0 (zba ⟨f,j.2.1⟩) ?_);have n:=zUC (H:=zcS a c (zcQ (zdL<|ix a.aa c mZ) d e)) (m:=c) (g:=d) (p:=e) (o:=λH=>[.agg<|zbl H,.one<|.b true]) (zCa k f j.2.1) (zJ6 _ f) (zFa k h _ t);refine(show _=_ from n).trans ?_;rw[s];rfl}}
def zHo:vP 142 znn:=hF4 zEX zq zbH zbZ (zo []) zPh
def zCo (N:Nat)(e:ad)(a d c:Int):OA:=
 let l:=zik a d;let m:=zcQ (zdh e a) d c;let f:=zlL a d;let b:=zk e;let n:=inb a<|ln b.aa;let g:=zei (zdh e a) d c;let h:=ix b.aa a zi;let q:=ix h.ak d zec; (oN (zS e)<|oN (zb8 e)<|cond (nB<|zb7 e) (some [aH b,aB false])<|oN (zbi a<|ln e.aa)<|cond (nB<|zbX a<|ln e.aa) (some [aH b,aB false])<|oN (zcT e a)<|oN (ziL (zdh e a) d c)<|cond g (oN (zdi m.ac)<|oN n<|p0 (up b.aa a ({h with ac:=(zdX m.ac)}:Mon)) λi=>oN (inb a<|ln i)<|p0 (up i a ({ (ix i a zi) with aj:=m.aj}:Mon)) (λj=>let k:=ix j a zi;let p:=ix k.ak d zec; (cond g (oN (inb a<|ln j)<|oN (inb a<|ln j)<|oN (inb d<|ln k.ak)<|oN (zc0 p c)<|oN (inb d<|ln k.ak)<|p0 (up j a ({k with ak:=(up k.ak d<|zeO p c)}:Mon)) λr=>oN l<|oN (zej b.ao f c)<|oN l<|oN (zej b.am f c)<|some [aH (⟨b.ag,r,zfF b.ao f c,zfF b.am f c⟩:ad),aB g])<|some [aH ({b with aa:=j}:ad),aB g])))<|cond g (oN n<|oN n<|oN (inb d<|ln h.ak)<|oN (zc0 q c)<|oN (inb d<|ln h.ak)<|p0 (up b.aa a ({h with ak:=(up h.ak d<|zeO q c)}:Mon)) λi=>oN l<|oN (zej b.ao f c)<|oN l<|oN (zej b.am f c)<|some [aH (⟨b.ag,i,zfF b.ao f c,zfF b.am f c⟩:ad),aB g])<|some [aH b,aB g])
def zOW (a:ad)(c d e:Int)(h:zbE big [aH a,aI c,aI d,aI e])(i:zmN a c d e=true):∃N,zCo N a c d e=some [aH<|zhc a c d e,aB<|zgl a c d e]:=by
 have k:=(zQ a).1 (zF.1 i);refine⟨0,?_⟩;unfold zCo zhc zgl zi8 zgH oN nB;conv=>zeta
 refine i0 i (i0 rfl ?_);rw[show zb7 a=zbW a from rfl];cases j:zbW a;{unfold zcm;rw[j];rfl};{refine zb9 rfl (i0 rfl ?_);rw[show zbX c (ln a.aa)=j0 c (ln a.aa) from rfl];cases f:j0 c (ln a.aa);{unfold zcm;rw[j,f];rfl};{have q:zcm a c=true:=zbr.2 ⟨j,f⟩;have l:=zex k f;have h:SmB (zcQ (zT a c) d e):=zhC l (zoX _<|zfz _ l);rw[q];refine zb9 rfl (i0 i<|i0 (zba l) ?_);rw[show zei (zdh a c) d e=zcA (zT a c) d (j0 e 4) from rfl];cases t:zcA (zT a c) d (j0 e 4);{rfl};{obtain⟨r,s⟩:=zQA f (zcQ (zT a c) d e);refine i0 rfl (i0 (zba h.2.1)<|i0 (zD f)<|shr<|i0 r<|shr ?_);rw[show zi=mZ from rfl,s];have n:=zUC (H:=zcS a c (zcQ (zT a c) d e)) (m:=c) (g:=d) (p:=e) (o:=λH=>[.agg<|zbl H,.one<|.b true]) (zCa k f h.2.1) (zJ6 _ f) (zFa k q _ t);exact i0 rfl (show _=_ from n)}}}
def zG5:vP 125 znn:=hF4 zEX zq zbH zbZ (zo []) zOW
def z6I:zbb:=[(142,znn),(125,znn)]++z6H
def zEY:zN z6I:=zh zHo (zh zG5 zEX)
def zZW (h:ad)(m p c v:Int):ad:={mended h m p 2 with ag:=zf3 (mended h m p 2).ag (ix (ix (mended h m p 2).aa m mZ).ae p sZ).af c v}
def zeI (h:ad)(m p c v:Int):Bool:=bif zbP h m p then (cond (j0 c 4) (zl v 0 99) false) else false
def zmb (h:ad)(m p c v:Int):ad:=bif zeI h m p c v then zZW h m p c v else h
@[simp] abbrev znS (h:ad)(m p c v:Int):Bool:=pc (zdJ h)
@[simp] abbrev zjS (h:ad)(m p c v:Int):ad:=zmb h m p c v
@[simp] abbrev zjT (h:ad)(m p c v:Int):Bool:=zeI h m p c v
def zbcC (H:ad)(m p c v:Int)(o:ad->Ans):OA:=
 bif pc (zXE H m p 2) then (cond (inb m<|ln (mended H m p 2).aa) (cond (inb p<|ln (ix (mended H m p 2).aa m mZ).ae) (cond (pc<|SmM (mended H m p 2).ag) (some<|o<|zZW H m p c v) none) none) none) else none
def zZV {h:ad}{m p c v:Int}{o:ad->Ans}(j:SmH h)(i:zbP h m p=true):zbcC h m p c v o=some (o<|zZW h m p c v):=by obtain⟨g,b,a⟩:=zfC.1 i;have f:=zeX j g;obtain⟨d,e⟩:=zst (n:=2) f b a;unfold zbcC;refine i0 (zba ⟨f,b,a,.inr (.inl rfl),zvz (zi9 g _<|zbJ b mZ) a⟩) (i0 (zD e)<|i0 (zD ?_) (i0 (zba d.1.1) rfl));rw[ln,(d.2 _<|zbJ e mZ).1];exact a
def zoC:Run:=rF5 dH dI dI dI dI λb c d e f=>(znS b c d e f,[aH<|zjS b c d e f,aB<|zjT b c d e f])
def zEr (N:Nat)(g:ad)(b c:Int)(e f:Int):OA:=
 let a:=zk g;let d:=zgE a b c 2;let h:=(ix d.aa b zi).ae;let i:=(ix h c zX).af; (oN (zS g)<|oN (zjl a b c)<|cond (nB<|zeA a b c) (some [aH a,aB false])<|oN (zJ e 0 3)<|cond (nB<|zl e 0 3) (some [aH a,aB false])<|oN (zJ f 0 99)<|cond (nB<|zl f 0 99) (some [aH a,aB false])<|oN (zh1 a b c 2)<|oN (inb b<|ln d.aa)<|oN (inb c<|ln h)<|oN (zde d.ag i e f)<|some [aH ({d with ag:=(zdn d.ag i e f)}:ad),aB true])
def zSQ (d:ad)(f g:Int)(a e:Int)(i:znS d f g a e=true):∃N,zEr N d f g a e=some [aH<|zjS d f g a e,aB<|zjT d f g a e]:=by
 have k:=(zQ d).1 (zF.1 i);refine⟨0,?_⟩;unfold zEr zjS zjT zmb zeI oN nB;conv=>zeta
 refine i0 i (i0 rfl ?_);rw[show zeA (zk d) f g=zbP d f g from rfl];cases j:zbP d f g;{rfl};{refine zb9 rfl (i0 rfl ?_);rw[show zl a 0 3=j0 a 4 from zbfc a];cases l:j0 a 4;{rfl};{refine zb9 rfl (i0 rfl ?_);rw[show zl e 0 99=zl e 0 99 from rfl];cases m:zl e 0 99;{rfl};{have h:=zZV (c:=a) (v:=e) (o:=λH=>[.agg<|zbl H,.one<|.b true]) k j;exact zb9 rfl (show _=_ from h)}}}
def zK8:vP 147 zoC:=kF5 zEY zq zbH zbZ (zo []) zSQ
def z8i {h:ad}{m p c v:Int}(a:j0 m (ln h.aa)=true):zcS h m (zot (zT h m) p c v)=h:=by have e:zcS h m (zot (zT h m) p c v)=zcS h m (zT h m):=(by refine back_eq ?_ ?_<;>unfold zot<;>cases zmJ (zT h m) p c v<;>rfl);rw[e];exact zlV a
def zbdK {h:ad}{m p c v:Int}(a:zbW h=true)(b:j0 m (ln h.aa)=true):zmJ (zT h m) p c v=zeI h m p c v:=by unfold zmJ zeI zGM zbP;rw[zte a b,a,b];cases j0 p 8<;>rfl
def zDW (N:Nat)(c:ad)(a b:Int)(e f:Int):OA:=
 let l:=zeN (zdh c a) b e f;let d:=zk c;let i:=zgE d a b 2;let n:=(ix i.aa a zi).ae;let q:=(ix n b zX).af;let g:=zfu (zdh c a) b e f; (oN (zS c)<|oN (zb8 c)<|cond (nB<|zb7 c) (some [aH d,aB false])<|oN (zbi a<|ln c.aa)<|cond (nB<|zbX a<|ln c.aa) (some [aH d,aB false])<|oN (zcT c a)<|oN (zlD (zdh c a) b e f)<|cond g (oN (zdi l.ac)<|oN (inb a<|ln d.aa)<|p0 (up d.aa a ({ (ix d.aa a zi) with ac:=(zdX l.ac)}:Mon)) λj=>oN (inb a<|ln j)<|p0 (up j a ({ (ix j a zi) with aj:=l.aj}:Mon)) (λr=>let k:=({d with aa:=r}:ad);let h:=zgE k a b 2;let m:=(ix h.aa a zi).ae;let p:=(ix m b zX).af; (cond g (oN (zh1 k a b 2)<|oN (inb a<|ln h.aa)<|oN (inb b<|ln m)<|oN (zde h.ag p e f)<|some [aH ({h with ag:=(zdn h.ag p e f)}:ad),aB g])<|some [aH k,aB g])))<|cond g (oN (zh1 d a b 2)<|oN (inb a<|ln i.aa)<|oN (inb b<|ln n)<|oN (zde i.ag q e f)<|some [aH ({i with ag:=(zdn i.ag q e f)}:ad),aB g])<|some [aH d,aB g])
def zSn (a:ad)(d e:Int)(f g:Int)(p:zbE big [aH a,aI d,aI e,aI f,aI g])(k:znS a d e f g=true):∃N,zDW N a d e f g=some [aH<|zjS a d e f g,aB<|zjT a d e f g]:=by
 have q:=(zQ a).1 (zF.1 k);refine⟨0,?_⟩;unfold zDW zjS zjT zmb oN nB;conv=>zeta
 refine i0 k (i0 rfl ?_);rw[show zb7 a=zbW a from rfl];cases m:zbW a;{unfold zeI zbP;rw[m];rfl};{refine zb9 rfl (i0 rfl ?_);rw[show zbX d (ln a.aa)=j0 d (ln a.aa) from rfl];cases h:j0 d (ln a.aa);{unfold zeI zbP;rw[m,h];rfl};{have i:=zex q h;have p:SmB (zeN (zT a d) e f g):=(by show SmB (zot _ _ _ _);unfold zot;cases zmJ (zT a d) e f g;{exact i};{exact⟨zqu i.1,i.2⟩});refine zb9 rfl (i0 k<|i0 (zba i) ?_);rw[show zfu (zdh a d) e f g=zeI a d e f g from zbdK m h];cases l:zeI a d e f g;{rfl};{have t:zbP a d e=true:=(by unfold zeI at l;cases u:zbP a d e;{rw [u]at l;cases l};{rfl});obtain⟨r,s⟩:=zQA h (zeN (zT a d) e f g);refine i0 rfl (i0 (zba p.2.1)<|i0 (zD h)<|shr<|i0 r<|shr ?_);rw[show zi=mZ from rfl,s];have j:({zk a with aa:=up (zk a).aa d (zA9 (ix (zk a).aa d mZ)<|zeN (zT a d) e f g)}:ad)=a:=z8i h;have n:=zZV (c:=f) (v:=g) (o:=λH=>[.agg<|zbl H,.one<|.b true]) q t;refine i0 rfl ?_;rw[j];exact(show _=_ from n)}}}
def zKE:vP 130 zoC:=hF5 zEY zq zbH zbZ (zo []) zSn
def z6J:zbb:=[(147,zoC),(130,zoC)]++z6I
def zUs:zN z6J:=zh zK8 (zh zKE zEY)
@[simp] abbrev zrf (h:ad)(m g b a:Int):ad:=(lookOf h h.am m g b a true).1
@[simp] abbrev zlp (h:ad)(m g b a:Int):Int:=(lookOf h h.am m g b a true).2.1
@[simp] abbrev zlq (h:ad)(m g b a:Int):Bool:=(lookOf h h.am m g b a true).2.2
def zAx:Run:=rF5 dH dI dI dI dI λb c d e f=>(zmd b c d e f,[aH<|zrf b c d e f,aI<|zlp b c d e f,aB<|zlq b c d e f])
def zD0 (N:Nat)(a:ad)(b c:Int)(d e:Int):OA:=
 (oN (zvu a b c d e true)<|some [aH<|zvr a b c d e true,aI<|zvs a b c d e true,aB<|zvt a b c d e true])
def zSr (a:ad)(b c:Int)(d e:Int)(f:zmd a b c d e=true):∃N,zD0 N a b c d e=some [aH<|zrf a b c d e,aI<|zlp a b c d e,aB<|zlq a b c d e]:=by refine⟨0,?_⟩;unfold zD0 oN;exact i0 f rfl
def zKI:vP 322 zAx:=kF5 zUs zq zbH zbZ (zo []) zSr
def z6K:zbb:=[(322,zAx)]++z6J
def ztW:zN z6K:=zh zKI zUs
def zPn (h:ad)(b:List au)(m g c a:Int)(e:Bool):(lookOf h b m g c a e).2.2=zca h m g c a:=by cases d:zca h m g c a;{rw [zjy d]};{rw [zLS d];unfold zkx zgG;generalize zmY b m g c a=x;cases x;{generalize zgk _ m g c a=y;cases y<;>rfl};{rfl}}
def z3l {h:ad}{m g c a:Int}(b:List au)(i:Bool)(f:SmH h)(d:zca h m g c a=true):SmM (lookOf h b m g c a i).1.ag:=by have hg:zcy h m g=true:=(by unfold zca at d;cases e:zcy h m g;{rw [e]at d;cases d};{rfl});exact(zv3 f hg).shape.1.1
def zSd (h:ad)(m g a n:Int):ad×Int×Bool:=lookOf h h.am m g (zco a) n true
def zi7 (h:ad)(m g a v:Int):Bool:=bif zl a 0 15 then (cond (zl v 0 99) (zca h m g (zco a) 2) false) else false
def zom (h:ad)(m g a v:Int):ad:=bif zi7 h m g a v then { (zSd h m g a 2).1 with ag:=zf3 (zSd h m g a 2).1.ag (zSd h m g a 2).2.1 (zhl a) v} else h
def zgR (h:ad)(m g a:Int):Bool:=bif zl a 0 15 then zca h m g (zco a) 1 else false
def zmc (h:ad)(m g a:Int):ad:=bif zgR h m g a then (zSd h m g a 1).1 else h
def zt8 (h:ad)(m g a:Int):Int:=bif zgR h m g a then cellAt (zSd h m g a 1).1.ag (zSd h m g a 1).2.1 (zhl a) else 0
@[simp] abbrev zpp (h:ad)(m g a v:Int):Bool:=pc (zdJ h)
@[simp] abbrev zkX (h:ad)(m g a v:Int):ad:=zom h m g a v
@[simp] abbrev zkY (h:ad)(m g a v:Int):Bool:=zi7 h m g a v
@[simp] abbrev znU (h:ad)(m g a:Int):Bool:=pc (zdJ h)
@[simp] abbrev zih (h:ad)(m g a:Int):ad:=zmc h m g a
@[simp] abbrev zjU (h:ad)(m g a:Int):Int:=zt8 h m g a
@[simp] abbrev zjV (h:ad)(m g a:Int):Bool:=zgR h m g a
def zpO:Run:=rF5 dH dI dI dI dI λb c d e f=>(zpp b c d e f,[aH<|zkX b c d e f,aB<|zkY b c d e f])
def zIG (N:Nat)(g:ad)(c d:Int)(a e:Int):OA:=
 let b:=zk g;let h:=zm4 b b.am c d (zbs a) 2 true;let f:=zgO b b.am c d (zbs a) 2 true; (oN (zS g)<|oN (zJ a 0 15)<|cond (nB<|zl a 0 15) (some [aH b,aB false])<|oN (zJ e 0 99)<|cond (nB<|zl e 0 99) (some [aH b,aB false])<|oN (zbo a)<|oN (zm5 b b.am c d (zbs a) 2 true)<|cond (nB<|zjn b b.am c d (zbs a) 2 true) (some [aH f,aB false])<|oN (zbo a)<|oN (zde f.ag h (zcg a) e)<|some [aH ({f with ag:=(zdn f.ag h (zcg a) e)}:ad),aB true])
def zWn (a:ad)(c d:Int)(b e:Int)(f:zpp a c d b e=true):∃N,zIG N a c d b e=some [aH<|zkX a c d b e,aB<|zkY a c d b e]:=by
 have h:=(zQ a).1 (zF.1 f);refine⟨0,?_⟩;unfold zIG zkX zkY zom zi7 oN nB;conv=>zeta
 refine i0 f (i0 rfl ?_);rw[show zl b 0 15=zl b 0 15 from rfl];cases i:zl b 0 15;{rfl};{refine zb9 rfl (i0 rfl ?_);rw[show zl e 0 99=zl e 0 99 from rfl];cases j:zl e 0 99;{rfl};{refine zb9 rfl (i0 rfl (i0 f ?_));rw[show zjn (zk a) (zk a).am c d (zbs b) 2 true=zca a c d (zco b) 2 from zPn _ _ _ _ _ _ _];cases g:zca a c d (zco b) 2;{rw [show zgO (zk a) (zk a).am c d (zbs b) 2 true=a from congrArg Prod.fst (zjy g)];rfl};{exact zb9 rfl (i0 rfl (i0 (zba<|z3l a.am true h g) rfl))}}}
def zOe:vP 150 zpO:=kF5 ztW zq zbH zbZ (zo []) zWn
def zIf (N:Nat)(a:ad)(c d:Int)(b e:Int):OA:=
 let f:=zrf a c d (zbs b) 2; (oN (zbo b)<|oN (zmd a c d (zbs b) 2)<|oN (zJ b 0 15)<|cond (nB<|zl b 0 15) (oN (zS a)<|some [aH<|zk a,aB false])<|oN (zJ e 0 99)<|cond (nB<|zl e 0 99) (oN (zS a)<|some [aH<|zk a,aB false])<|cond (nB<|zlq a c d (zbs b) 2) (oN (zS a)<|some [aH<|zk a,aB false])<|oN (zbo b)<|oN (zde f.ag (zlp a c d (zbs b) 2) (zcg b) e)<|some [aH ({f with ag:=(zdn f.ag (zlp a c d (zbs b) 2) (zcg b) e)}:ad),aB true])
def zVX (b:ad)(c d:Int)(a e:Int)(f:zpp b c d a e=true):∃N,zIf N b c d a e=some [aH<|zkX b c d a e,aB<|zkY b c d a e]:=by
 have h:=(zQ b).1 (zF.1 f);refine⟨0,?_⟩;unfold zIf zkX zkY zom zi7 oN nB;conv=>zeta
 refine i0 rfl (i0 f (i0 rfl ?_));rw[show zl a 0 15=zl a 0 15 from rfl];cases i:zl a 0 15;{exact i0 rfl (i0 f rfl)};{refine zb9 rfl (i0 rfl ?_);rw[show zl e 0 99=zl e 0 99 from rfl];cases j:zl e 0 99;{exact i0 rfl (i0 f rfl)};{refine zb9 rfl ?_;rw[show zlq b c d (zbs a) 2=zca b c d (zco a) 2 from zPn _ _ _ _ _ _ _];cases g:zca b c d (zco a) 2;{exact i0 rfl (i0 f rfl)};{exact zb9 rfl (i0 rfl (i0 (zba<|z3l b.am true h g) rfl))}}}
def zNS:vP 133 zpO:=kF5 ztW zq zbH zbZ (zo []) zVX
def zoE:Run:=rF4 dH dI dI dI λb c d e=>(znU b c d e,[aH<|zih b c d e,aI<|zjU b c d e,aB<|zjV b c d e])
def zEt (N:Nat)(f:ad)(c d a:Int):OA:=
 let b:=zk f;let g:=zm4 b b.am c d (zbs a) 1 true;let e:=zgO b b.am c d (zbs a) 1 true; (oN (zS f)<|oN (zJ a 0 15)<|cond (nB<|zl a 0 15) (some [aH b,aI 0,aB false])<|oN (zbo a)<|oN (zm5 b b.am c d (zbs a) 1 true)<|cond (nB<|zjn b b.am c d (zbs a) 1 true) (some [aH e,aI 0,aB false])<|oN (zbo a)<|oN (zer e.ag g<|zcg a)<|some [aH e,aI<|zfr e.ag g<|zcg a,aB true])
def zSS (a:ad)(c d b:Int)(e:znU a c d b=true):∃N,zEt N a c d b=some [aH<|zih a c d b,aI<|zjU a c d b,aB<|zjV a c d b]:=by
 have h:=(zQ a).1 (zF.1 e);refine⟨0,?_⟩;unfold zEt zih zjU zjV zmc zt8 zgR oN nB;conv=>zeta
 refine i0 e (i0 rfl ?_);rw[show zl b 0 15=zl b 0 15 from rfl];cases g:zl b 0 15;{rfl};{refine zb9 rfl (i0 rfl (i0 e ?_));rw[show zjn (zk a) (zk a).am c d (zbs b) 1 true=zca a c d (zco b) 1 from zPn _ _ _ _ _ _ _];cases f:zca a c d (zco b) 1;{rw [show zgO (zk a) (zk a).am c d (zbs b) 1 true=a from congrArg Prod.fst (zjy f)];rfl};{exact zb9 rfl (i0 rfl (i0 rfl rfl))}}
def zLa:vP 151 zoE:=kF4 ztW zq zbH zbZ (zo []) zSS
def zDY (N:Nat)(b:ad)(c d a:Int):OA:=
 let e:=zrf b c d (zbs a) 1; (oN (zbo a)<|oN (zmd b c d (zbs a) 1)<|oN (zJ a 0 15)<|cond (nB<|zl a 0 15) (oN (zS b)<|some [aH<|zk b,aI 0,aB false])<|cond (nB<|zlq b c d (zbs a) 1) (oN (zS b)<|some [aH<|zk b,aI 0,aB false])<|oN (zbo a)<|oN (zer e.ag (zlp b c d (zbs a) 1)<|zcg a)<|some [aH e,aI<|zfr e.ag (zlp b c d (zbs a) 1)<|zcg a,aB true])
def zSp (b:ad)(c d a:Int)(e:znU b c d a=true):∃N,zDY N b c d a=some [aH<|zih b c d a,aI<|zjU b c d a,aB<|zjV b c d a]:=by
 have h:=(zQ b).1 (zF.1 e);refine⟨0,?_⟩;unfold zDY zih zjU zjV zmc zt8 zgR oN nB;conv=>zeta
 refine i0 rfl (i0 e (i0 rfl ?_));rw[show zl a 0 15=zl a 0 15 from rfl];cases f:zl a 0 15;{exact i0 rfl (i0 e rfl)};{refine zb9 rfl ?_;rw[show zlq b c d (zbs a) 1=zca b c d (zco a) 1 from zPn _ _ _ _ _ _ _];cases g:zca b c d (zco a) 1;{exact i0 rfl (i0 e rfl)};{exact zb9 rfl (i0 rfl (i0 rfl rfl))}}
def zKG:vP 134 zoE:=kF4 ztW zq zbH zbZ (zo []) zSp
def z6L:zbb:=[(150,zpO),(133,zpO),(151,zoE),(134,zoE)]++z6K
def z6M:zN z6L:=zh zOe (zh zNS<|zh zLa<|zh zKG ztW)
def z6N:zbb:=[(196,zsX),(197,zoB)]++z6L
def zUt:zN z6N:=zh zwH (zh zqd z6M)
def zz6:aA:=⟨rp 4 false,zur⟩
@[simp] abbrev zzd (n:Int):Bool:=ieq n 4
@[simp] abbrev zyI (n:Int):aA:=zz6
def zDf:Run:=rF1 dI λb=>(zzd b,[aT .kept<|zyI b])
def z1b (N:Nat)(b:Int):OA:=
 let a:=ln<|zi3 b; (oN (zlK b)<|oN (cond (few a) (ieq a a) false)<|some [aT .kept (⟨rp a false,zi3 b⟩:aA)])
def zWq (a:Int)(b:zzd a=true):∃N,z1b N a=some [aT .kept<|zyI a]:=by refine⟨0,?_⟩;have h:a=4:=qD b;subst h;change _=_;kernel_rfl
def zOh:vP 198 zDf:=kF1 zUt zq zbH zbZ (zo []) zWq
def z6O:zbb:=[(198,zDf)]++z6N
def zUu:zN z6O:=zh zOh zUt
def z0m:List k0:=List.replicate 8 ⟨-1,0⟩
def zlw (a:List (List Ins)):Mon:=⟨z0m,zS9,rp 8 false,(a.take 2).map znC,[],0,0,(a.take 2).map λ_=>zz6,0⟩
def zPp {d a b q:Type}(m:Nat)(f:d->a)(g:d->b)(K:List a×List b->Option q):∀(l:List d) (i:Nat) (u:List a×List b),u.1.length+l.length<=2147483648->u.2.length+l.length<=2147483648->
 goL (λ(i:Nat) x (u:List a×List b) k=>bif ilt (i:Int) (m:Int) then (cond (few<|ln<|ap u.1 [f x]) (cond (few<|ln<|ap u.2 [g x]) (k (ap u.1 [f x],ap u.2 [g x])) none) none) else K u) K l i u=K (u.1++(l.take<|m-i).map f,u.2++(l.take<|m-i).map g)
 |[],i,u,_,_=>by simp[goL]
 |x::l,i,u,n,p=>by simp only[qY]at n p;have e:few (ln<|ap u.1 [f x])=true:=zh8 (by simp[ap];omega);have j:few (ln<|ap u.2 [g x])=true:=zh8 (by simp[ap];omega);by_cases h:i<m;{have c:ilt (i:Int) (m:Int)=true:=qL (by omega);simp only[goL,c,e,j,cT];rw[zPp m f g K l (i+1) _ (by simp[ap];omega) (by simp[ap];omega)];rw[show m-i=m-(i+1)+1 by omega];simp[ap]};{have c:ilt (i:Int) (m:Int)=false:=qH (by omega);simp only[goL,c,cF];rw[show m-i=0 by omega];simp}
def z7O (u:List ah×List aA):OA:=some [AV.agg<|Ty.cells .mon (⟨z0m,zS9,rp 8 false,u.1,[],0,0,u.2,0⟩:Mon)]
@[simp] abbrev zvK (a:List (List Ins)):Bool:=pc (SmPs a)
@[simp] abbrev zL8 (a:List (List Ins)):Mon:=zlw a
def zFZ:Run:=rF1 (dS<|.sl .ins) λb=>(zvK b,[aT .mon<|zL8 b])
def zMT (N:Nat)(k:lP):OA:=
 (oN (zlK 8)<|oN (zrZ 8)<|oN (cond (few 8) (ieq 8 8) false)<|q0 (σ:=(Int×Int×Int×Int×Int×Int×Int×lP×lS×lM×lB×lG×LI×lK×lS×lM×lB×lG×LI×lK×Unit)) N (λl a=>let k:=a.2.2.2.2.2.2.2.2.2;let m:=k.2.2.2.2.2;let j:=m.1;let i:=m.2.1;let h:=m.2.2.1;let g:=m.2.2.2.1;let f:=m.2.2.2.2.1;let b:=a.2.2.2.2.2.2.2.1;let c:=m.2.2.2.2.2.1;let e:=ap g [zcN<|ix b a.1 []];let d:=aT .mon (⟨j,i,h,g,f,a.2.2.2.2.1,a.2.2.2.2.2.1,c,a.2.2.2.2.2.2.1⟩:Mon); (cond (ilt a.1<|ln b) (cond (ilt a.1 2) (oN (inb a.1<|ln b)<|oN (zlF<|ix b a.1 [])<|oN (few<|ln e)<|oN (zzd 4)<|oN (few<|ln<|ap c [zyI 4])<|l (zM .i64 a.1 1,a.2.1,a.2.2.1,a.2.2.2.1,a.2.2.2.2.1,a.2.2.2.2.2.1,a.2.2.2.2.2.2.1,b,a.2.2.2.2.2.2.2.2.1,k.1,k.2.1,k.2.2.1,k.2.2.2.1,k.2.2.2.2.1,j,i,h,e,f,ap c [zyI 4],()))<|some [d])<|some [d])) (0,0,0,0,0,0,0,k,[],[],[],[],[],[],zi3 8,zmr 8,rp 8 false,[],[],[],()))
def z0Q:=zo [(70,0,{n:=36,tm:=[(0,.sl 0 []),(2,.lp 0 0),(3,.lp 1 0),(4,ti)],lo:=[(0,[.sl 1 [],.sl 2 [],.sl 3 [],.sl 4 [],.sl 5 [],ti,ti,.sl 6 [],ti]),(1,[.sl 7 [],.sl 8 [],.sl 9 [],.sl 10 [],.sl 11 [],ti,ti,.sl 12 [],ti])],ro:=[(0,.sl .ins,false),(1,.slot,true),(2,.sl .int,true),(3,.bool,true),(4,.guest,true),(5,.int,true),(6,.kept,true),(7,.slot,true),(8,.sl .int,true),(9,.bool,true),(10,.guest,true),(11,.int,true),(12,.kept,true)]})]
def zY9 (a:List lI)(f:zvK a=true):∃N,zMT N a=some [aT .mon<|zL8 a]:=by
 have e:=zF.1 f;have c:=zcC e.1;refine zcf λN d=>?_;unfold zMT oN;conv=>zeta
 refine i0 rfl (i0 rfl (i0 rfl ?_));refine(zbp a (λi (t:lG×lK)=>((i:Int),0,0,0,0,0,0,a,[],[],[],[],[],[],zi3 8,zmr 8,rp 8 false,t.1,[],t.2,())) _ (λi (x:List Ins) (u:List ah×List aA) h=>bif ilt (i:Int) ((2:Nat):Int) then (cond (few<|ln<|ap u.1 [znC x]) (cond (few<|ln<|ap u.2 [zz6]) (h (ap u.1 [znC x],ap u.2 [zz6])) none) none) else z7O u) (λ(t:lG×lK)=>some [.agg<|Ty.cells .mon (⟨zi3 8,zmr 8,rp 8 false,t.1,[],0,0,t.2,0⟩:Mon)]) (λi b t rec=>?_) (λt rec=>?_) _ ([],[])<|d c.1).trans ?_;{simp only [zbw b,zbc b,zbn b,zbj b c.1,cT];have g:zlF a[i]=true:=zba (e.2 _<|jI b);simp only[g,cT];rfl};{simp only [zbq,cF]};exact zPp 2 znC (λ_=>zz6) z7O a 0 ([],[]) (by simpa using c.2) (by simpa using c.2)
def zRF:vP 70 zFZ:=kF1 zUu zq zbH zbZ z0Q zY9
def z6P:zbb:=[(70,zFZ)]++z6O
def zUv:zN z6P:=zh zRF zUu
def z5c:List LI:=List.replicate 12 [0,0,0,0]
def zhs (a:List (List<|List Ins)):ad:=⟨z5c,(a.take 3).map zlw,[],[]⟩
def zGq (a:List (List<|List Ins)):Prop:=a.length<=1048576/\∀p∈a,SmPs p
@[simp] abbrev zzc (a:List (List<|List Ins)):Bool:=pc (zGq a)
@[simp] abbrev zji (a:List (List<|List Ins)):ad:=zhs a
def z3g (t:List Mon):OA:=some [AV.agg<|zbl ⟨z5c,t,[],[]⟩]
def zDe:Run:=rF1 (dS<|.sl<|.sl .ins) λb=>(zzc b,[aH<|zji b])
def zIH (N:Nat)(d:lQ):OA:=
 (oN (zrZ 12)<|q0 (σ:=(Int×lQ×lM×lN×lE×lE×lM×lN×lE×lE×Unit)) N (λe a=>let d:=a.2.2.2.2.2.2;let c:=ap d.2.1 [zL8<|ix a.2.1 a.1 []];let b:=aH (⟨d.1,d.2.1,d.2.2.1,d.2.2.2.1⟩:ad); (cond (ilt a.1<|ln a.2.1) (cond (ilt a.1 3) (oN (inb a.1<|ln a.2.1)<|oN (zvK<|ix a.2.1 a.1 [])<|oN (few<|ln c)<|e (zM .i64 a.1 1,a.2.1,a.2.2.1,a.2.2.2.1,a.2.2.2.2.1,a.2.2.2.2.2.1,d.1,c,d.2.2.1,d.2.2.2.1,()))<|some [b])<|some [b])) (0,d,[],[],[],[],zmr 12,[],[],[],()))
def zW3:=zo [(62,0,{n:=28,tm:=[(0,.sl 0 []),(2,.lp 0 0),(3,.lp 1 0),(4,ti)],lo:=[(0,[.sl 1 [],.sl 2 [],.sl 3 [],.sl 4 []]),(1,[.sl 5 [],.sl 6 [],.sl 7 [],.sl 8 []])],ro:=[(0,.sl<|.sl .ins,false),(1,.sl .int,true),(2,.mon,true),(3,.entry,true),(4,.entry,true),(5,.sl .int,true),(6,.mon,true),(7,.entry,true),(8,.entry,true)]})]
def zWo (a:List lP)(f:zzc a=true):∃N,zIH N a=some [aH<|zji a]:=by
 have e:=zF.1 f;have d:=zcC e.1;refine zcf λN c=>?_;unfold zIH oN;conv=>zeta
 refine i0 rfl ?_;refine(zbp a (λi (t:lN)=>((i:Int),a,[],[],[],[],zmr 12,t,[],[],())) _ (λi (x:List lI) (t:List Mon) h=>bif ilt (i:Int) ((3:Nat):Int) then (cond (few<|ln<|ap t [zlw x]) (h<|ap t [zlw x]) none) else z3g t) (λ(t:lN)=>some [.agg<|zbl (⟨zmr 12,t,[],[]⟩:ad)]) (λi b t rec=>?_) (λt rec=>?_) _ ([])<|c d.1).trans ?_;{simp only [zbw b,zbc b,zbn b,zbj b d.1,cT];have g:zvK a[i]=true:=zba (e.2 _<|jI b);simp only[g,cT];rfl};{simp only [zbq,cF]};exact zUO 3 zlw z3g a 0 [] (by simpa using d.2)
def zOf:vP 62 zDe:=kF1 zUv zq zbH zbZ zW3 zWo
def z6Q:zbb:=[(62,zDe)]++z6P
def zEZ:zN z6Q:=zh zOf zUv
def zjt:Nat->Nat->aA->aA
 | 0,_,k=>k
 |n+1,i,k=>zjt n (i+1) (zct k (i:Int))
def ziY (k:aA):aA:=zjt k.ay.length 0 k
def z4D (k:aA)(p:Int):(zct k p).ay.length=k.ay.length:=by unfold zct;cases ze6 k p;{rfl};{exact zfB _ _ _}
def ztR:∀(n i:Nat) (k:aA),SmK k->SmK (zjt n i k)
 | 0,_,_,h=>h
 |n+1,i,k,h=>ztR n (i+1) _ (zoY h)
@[simp] abbrev zpn (k:aA):aA:=ziY k
def zJg {b d:Type}(K:List Bool×List k0->Option d):∀(l:List b) (i:Nat) (k:aA),SmK k->
 goL (λ(i:Nat) _ (t:List Bool×List k0) c=>bif zc0 ⟨t.1,t.2⟩ (i:Int) then c ((zeO ⟨t.1,t.2⟩ (i:Int)).ay,(zeO ⟨t.1,t.2⟩ (i:Int)).az) else none) K l i (k.ay,k.az)=K ((zjt l.length i k).ay,(zjt l.length i k).az)
 |[],_,_,_=>rfl
 |x::l,i,k,h=>by have a:zc0 ⟨k.ay,k.az⟩ (i:Int)=true:=zba h;simp only[goL,a,cT];exact zJg K l (i+1) (zct k (i:Int)) (zoY h)
def znd:Run:=rF1 (dT .kept) λb=>(zen b,[aT .kept<|zpn b])
def zCn (N:Nat)(b:aA):OA:=
 (oN (zen b)<|q0 (σ:=(Int×Int×lB×lS×lB×lS×Unit)) N (λd a=>let c:=(⟨a.2.2.2.2.1,a.2.2.2.2.2.1⟩:aA); (cond (ilt a.2.1 a.1) (oN (zc0 c a.2.1)<|d (a.1,zM .i64 a.2.1 1,a.2.2.1,a.2.2.2.1,(zeO c a.2.1).ay,(zeO c a.2.1).az,()))<|some [aT .kept c])) (ln b.ay,0,[],[],(zdk b).ay,(zdk b).az,()))
def zQk:=zo [(326,0,{n:=18,tm:=[(2,.lp 0 0),(3,.lp 1 0),(9,ti),(10,ti)],lo:=[(0,[.sl 0 [],.sl 1 []]),(1,[.sl 2 [],.sl 3 []])],ro:=[(0,.bool,true),(1,.slot,true),(2,.bool,true),(3,.slot,true)]})]
def zOV (a:aA)(f:zen a=true):∃N,zCn N a=some [aT .kept<|zpn a]:=by
 have d:=zF.1 f;have e:=zcC d.1;refine zcf λN c=>?_;unfold zCn oN;conv=>zeta
 refine i0 (zba d) ?_;refine(zbp a.ay (λi (t:lB×lS)=>(ln a.ay,(i:Int),[],[],t.1,t.2,())) _ (λi (x:Bool) (t:List Bool×List k0) g=>bif zc0 ⟨t.1,t.2⟩ (i:Int) then g ((zeO ⟨t.1,t.2⟩ (i:Int)).ay,(zeO ⟨t.1,t.2⟩ (i:Int)).az) else none) (λ(t:lB×lS)=>some [.agg<|Ty.cells .kept (⟨t.1,t.2⟩:aA)]) (λi b t rec=>?_) (λt rec=>?_) _ ((zdk a).ay,(zdk a).az)<|c e.1).trans ?_;{simp only [zbw b,zbc b,zbn b,zbj b e.1,cT]};{simp only [zbq,cF]};exact zJg _ a.ay 0 a d
def zG4:vP 326 znd:=kF1 zEZ zq zbH zbZ zQk zOV
def zCG (N:Nat)(c:aA):OA:=
 (oN (zhY c)<|q0 (σ:=(Int×lB×lS×lB×lS×Unit)) N (λd a=>let b:=(⟨a.2.1,a.2.2.1⟩:aA); (cond (ilt a.1<|ln a.2.1) (oN (zc0 b a.1)<|d (zM .i64 a.1 1,(zeO b a.1).ay,(zeO b a.1).az,a.2.2.2.1,a.2.2.2.2.1,()))<|some [aT .kept b])) (0,(zeG c).ay,(zeG c).az,[],[],()))
def zQw:=zo [(178,0,{n:=17,tm:=[(1,.lp 0 0),(2,.lp 1 0),(3,ti)],lo:=[(0,[.sl 0 [],.sl 1 []]),(1,[.sl 2 [],.sl 3 []])],ro:=[(0,.bool,true),(1,.slot,true),(2,.bool,true),(3,.slot,true)]})]
def zPf (a:aA)(g:zen a=true):∃N,zCG N a=some [aT .kept<|zpn a]:=by
 have d:=zF.1 g;have f:=zcC d.1;refine zcf λN c=>?_;unfold zCG oN;conv=>zeta
 refine i0 (zbv<|(zzN _).2 d) ?_;refine(zsN a.ay.length (λi (k:aA)=>((i:Int),k.ay,k.az,[],[],())) _ (λi k=>SmK k/\k.ay.length=a.ay.length) (λi k=>some [AV.agg<|Ty.cells .kept<|zjt (a.ay.length-i) i k]) (λi k rec e b h=>?_) (λk rec b=>?_) N 0 a ⟨d,rfl⟩ (j7 _)<|c f.1).trans rfl;{refine i0 (zbw (by rw[b.2];exact e)) (i0 (zba b.1) ?_);have q:=h (zct k (i:Int)) ⟨zoY b.1,by rw[z4D];exact b.2⟩;rw[show a.ay.length-i=a.ay.length-(i+1)+1 by omega];rw[zbj e f.1];exact q};{refine zb9 (by show ilt (a.ay.length:Int) (ln k.ay)=false;rw[ln,b.2];exact qH (by omega)) ?_;rw[k5];rfl}
def zHn:vP 178 znd:=kF1 zEZ zq zbH zbZ zQw zPf
def z6R:zbb:=[(178,znd),(326,znd)]++z6Q
def zUw:zN z6R:=zh zHn (zh zG4 zEZ)
def zvm:Nat->Nat->List aA->List aA
 | 0,_,l=>l
 |n+1,j,l=>zvm n (j+1) (up l (j:Int)<|ziY<|ix l (j:Int) kZ)
def zq3 (x:Mon)(n j:Nat):Mon:={x with ak:=zvm n j x.ak}
def zmE:Nat->Nat->List Mon->List Mon
 | 0,_,t=>t
 |n+1,i,t=>zmE n (i+1) (up t (i:Int)<|zq3 (ix t (i:Int) mZ) (ix t (i:Int) mZ).ak.length 0)
def cold (h:ad):ad:=⟨h.ag,zmE h.aa.length 0 h.aa,[],[]⟩
def zP5:∀(n j:Nat) (l:List aA),j+n<=l.length->zEI l->zEI (zvm n j l)
 | 0,_,_,_,h=>h
 |n+1,j,l,b,h=>by have a:j<l.length:=(by omega);refine zP5 n (j+1) _ (by rw[zfB];omega) (zv9 h<|ztR _ _ _ ?_);rw[zbn a];exact h.2 _ (jI a)
def zCc {x:Mon}(h:zfJ x){n j:Nat}(a:j+n<=x.ak.length):zfJ (zq3 x n j):=⟨h.1,h.2.1,h.2.2.1,h.2.2.2.1,h.2.2.2.2.1,zP5 n j _ a h.2.2.2.2.2⟩
@[simp] abbrev zAK (h:ad):ad:=cold h
def zvF:Run:=rF1 dH λb=>(zS b,[aH<|zAK b])
def zXz (N:Nat)(d:ad):OA:=
 (oN (zS d)<|q0 (σ:=(Int×lM×lN×lE×lE×lM×lN×lE×lE×Unit)) N (λg b=>cond (ilt b.1<|ln b.2.2.1) (q0 (σ:=(Int×Int×lM×lN×lE×lE×lM×lN×lE×lE×Unit)) N (λh a=>let b:=a.2.2.2.2.2;let e:=inb a.1<|ln a.2.2.2.1;let c:=ix a.2.2.2.1 a.1 zi;let f:=ix c.ak a.2.1 zec; (oN e<|cond (ilt a.2.1<|ln c.ak) (oN e<|oN e<|oN (inb a.2.1<|ln c.ak)<|oN (zen f)<|oN (inb a.2.1<|ln c.ak)<|p0 (up a.2.2.2.1 a.1 ({c with ak:=(up c.ak a.2.1<|zpn f)}:Mon)) λi=>h (a.1,zM .i64 a.2.1 1,a.2.2.1,i,a.2.2.2.2.1,b.1,b.2.1,b.2.2.1,b.2.2.2.1,b.2.2.2.2.1,()))<|g (zM .i64 a.1 1,a.2.2.1,a.2.2.2.1,a.2.2.2.2.1,b.1,b.2.1,b.2.2.1,b.2.2.2.1,b.2.2.2.2.1,()))) (b.1,0,b.2.1,b.2.2.1,b.2.2.2.1,b.2.2.2.2.1,b.2.2.2.2.2.1,b.2.2.2.2.2.2.1,b.2.2.2.2.2.2.2.1,b.2.2.2.2.2.2.2.2.1,()))<|some [aH (⟨b.2.1,b.2.2.1,[],[]⟩:ad)]) (0,(zk d).ag,(zk d).aa,(zk d).ao,(zk d).am,[],[],[],[],()))
def z6k:=zo [(58,0,{n:=48,tm:=[(1,.lp 0 0),(2,.lp 1 0),(3,ti)],lo:=[(0,[.sl 0 [],.sl 1 [],.sl 2 [],.sl 3 []]),(1,[.sl 4 [],.sl 5 [],.sl 6 [],.sl 7 []])],ro:=[(0,.sl .int,true),(1,.mon,true),(2,.entry,true),(3,.entry,true),(4,.sl .int,true),(5,.mon,true),(6,.entry,true),(7,.entry,true)]}),(58,2,{n:=48,tm:=[(1,.lp 0 0),(2,.lp 1 0),(3,ti),(4,ti)],lo:=[(0,[.sl 0 [],.sl 1 [],.sl 2 [],.sl 3 []]),(1,[.sl 4 [],.sl 5 [],.sl 6 [],.sl 7 []])],ro:=[(0,.sl .int,true),(1,.mon,true),(2,.entry,true),(3,.entry,true),(4,.sl .int,true),(5,.mon,true),(6,.entry,true),(7,.entry,true)]})]
def z5a (a:ad)(m:zS a=true):∃N,zXz N a=some [aH<|zAK a]:=by
 have v:=(zQ a).1 (zF.1 m);have s:=zcC v.2.1.1;refine zcf λN f=>?_;unfold zXz oN;conv=>zeta
 refine i0 m ?_;refine(zsN a.aa.length (λi (t:List Mon)=>((i:Int),a.ag,t,a.ao,a.am,[],[],[],[],())) _ (λi t=>zqW t/\t.length=a.aa.length) (λi t=>some [AV.agg<|zbl ⟨a.ag,zmE (a.aa.length-i) i t,[],[]⟩]) (λi t rec n e x=>?_) (λt rec e=>?_) N 0 a.aa ⟨v.2.1,rfl⟩ (j7 _)<|f s.1).trans rfl
 .have hit:i<t.length:=(by rw[e.2];exact n);have l:zfJ (ix t (i:Int) mZ):=by rw[zbn hit];exact e.1.2 _ (jI hit)
  have r:=zcC l.2.2.2.2.2.1;refine i0 (zbw hit) ?_;refine(zsN (ix t (i:Int) mZ).ak.length (λj (u:List Mon)=>((i:Int),(j:Int),a.ag,u,a.ao,a.am,[],[],[],[],()))
   _ (λj u=>u.length=t.length/\zfJ (ix u (i:Int) mZ)/\(ix u (i:Int) mZ).ak.length=(ix t (i:Int) mZ).ak.length)
   (λj u=>rec (((i+1:Nat):Int),a.ag,up u (i:Int)<|zq3 (ix u (i:Int) mZ) ((ix t (i:Int) mZ).ak.length-j) j,a.ao,a.am,[],[],[],[],()))
   (λj u h p c k=>?_) (λu h c=>?_) N 0 t ⟨rfl,l,rfl⟩ (j7 _) (f r.1)).trans ?_
  .have b:i<u.length:=(by rw[c.1];exact hit);have d:j<(ix u (i:Int) mZ).ak.length:=(by rw[c.2.2];exact p);have g:SmK (ix (ix u (i:Int) mZ).ak (j:Int) kZ):=by rw[zbn d];exact c.2.1.2.2.2.2.2.2 _ (jI d)
   refine i0 (zbc b) (i0 (zbw d)<|i0 (zbc b)<|i0 (zbc b)<|i0 (zbc d)<|i0 (zba g)<|i0 (zbc d)<|shr ?_);have w:zfJ {ix u (i:Int) mZ with ak:=up (ix u (i:Int) mZ).ak (j:Int) (ziY<|ix (ix u (i:Int) mZ).ak (j:Int) kZ)} :=
    ⟨c.2.1.1,c.2.1.2.1,c.2.1.2.2.1,c.2.1.2.2.2.1,c.2.1.2.2.2.2.1,zv9 c.2.1.2.2.2.2.2<|ztR _ _ _ g⟩
   have q:=k (up u (i:Int) {ix u (i:Int) mZ with ak:=up (ix u (i:Int) mZ).ak (j:Int) (ziY<|ix (ix u (i:Int) mZ).ak (j:Int) kZ)}) ⟨by rw[zfB];exact c.1,by rw[zee b];exact w,by rw[zee b];simp only[zfB];exact c.2.2⟩;rw[zbj p r.1];refine q.trans ?_;rw[zee b,zsv,show (ix t (i:Int) mZ).ak.length-j=(ix t (i:Int) mZ).ak.length-(j+1)+1 by omega];rfl
  {have b:i<u.length:=(by rw[c.1];exact hit);refine i0 (zbc b) (zb9 (by show ilt ((ix t (i:Int) mZ).ak.length:Int) (ln (ix u (i:Int) mZ).ak)=false;rw[ln,c.2.2];exact qH (by omega)) ?_);rw[zbj n s.1,k5];show rec (_,a.ag,u,_)=rec (_,a.ag,up u (i:Int)<|ix u (i:Int) mZ,_);rw[zGY b]};{have q:=x (up t (i:Int)<|zq3 (ix t (i:Int) mZ) (ix t (i:Int) mZ).ak.length 0) ⟨zkO e.1<|zCc l (by omega),by rw[zfB];exact e.2⟩;refine q.trans ?_;rw[show a.aa.length-i=a.aa.length-(i+1)+1 by omega];rfl}
 {refine zb9 (by show ilt (a.aa.length:Int) (ln t)=false;rw[ln,e.2];exact qH (by omega)) ?_;rw[k5];rfl}
def zYw:vP 58 zvF:=kF1 zUw zq zbH zbZ z6k z5a
def z6S:zbb:=[(58,zvF)]++z6R
def zUx:zN z6S:=zh zYw zUw
def zXx (N:Nat)(d:ad):OA:=
 (oN (zS d)<|q0 (σ:=(Int×Int×lM×lN×lE×lE×lM×lN×lE×lE×Unit)) N (λk b=>let d:=b.2.2.2.2.2;let f:=d.2.2.1; (cond (ilt b.2.1 b.1) (oN (inb b.2.1<|ln f)<|q0 (σ:=(Int×Int×Int×Int×Int×Int×lN×lM×lN×lE×lE×lM×lE×lE×Unit)) N (λl a=>let b:=a.2.2.2.2.2.2.2;let d:=b.2.2.2.2;let j:=d.2.1;let i:=d.2.2.1;let c:=a.2.2.2.2.2.1;let e:=a.2.2.2.2.2.2.1;let h:=ix e a.1 zi;let g:=(ix e a.2.2.2.1 zi).ak; (cond (ilt c a.2.2.2.2.1) (oN (inb c<|ln g)<|oN (inb a.1<|ln e)<|oN (zen<|ix g c zec)<|oN (inb c<|ln h.ak)<|p0 (up e a.1 ({h with ak:=(up h.ak c<|zpn<|ix g c zec)}:Mon)) λp=>l (a.1,a.2.1,a.2.2.1,a.2.2.2.1,a.2.2.2.2.1,zM .i64 c 1,p,b.1,b.2.1,b.2.2.1,b.2.2.2.1,d.1,j,i,()))<|k (a.2.1,zM .i64 a.2.2.1 1,b.1,b.2.1,b.2.2.1,b.2.2.2.1,d.1,e,j,i,()))) (b.2.1,b.1,b.2.1,b.2.1,ln (ix f b.2.1 zi).ak,0,f,b.2.2.1,b.2.2.2.1,b.2.2.2.2.1,d.1,d.2.1,d.2.2.2.1,d.2.2.2.2.1,()))<|p0 [] λm=>p0 [] λn=>some [aH (⟨d.2.1,f,m,n⟩:ad)])) (ln (zk d).aa,0,[],[],[],[],(zk d).ag,(zk d).aa,(zk d).ao,(zk d).am,()))
def z6j:=zo [(139,0,{n:=42,tm:=[(2,.lp 0 0),(3,.lp 1 0),(11,ti),(12,ti)],lo:=[(0,[.sl 0 [],.sl 1 [],.sl 2 [],.sl 3 []]),(1,[.sl 4 [],.sl 5 [],.sl 6 [],.sl 7 []])],ro:=[(0,.sl .int,true),(1,.mon,true),(2,.entry,true),(3,.entry,true),(4,.sl .int,true),(5,.mon,true),(6,.entry,true),(7,.entry,true)]}),(139,2,{n:=42,tm:=[(2,.lp 0 0),(3,.lp 1 0),(4,ti),(11,ti),(12,ti),(20,.sl 0 [7]),(21,ti),(22,ti)],lo:=[(0,[.sl 1 [],.sl 2 [],.sl 3 [],.sl 4 []]),(1,[.sl 5 [],.sl 0 [],.sl 6 [],.sl 7 []])],ro:=[(0,.mon,true),(1,.sl .int,true),(2,.mon,true),(3,.entry,true),(4,.entry,true),(5,.sl .int,true),(6,.entry,true),(7,.entry,true)]})]
def z4W (a:ad)(p:zS a=true):∃N,zXx N a=some [aH<|zAK a]:=by
 have v:=(zQ a).1 (zF.1 p);have s:=zcC v.2.1.1;refine zcf λN f=>?_;unfold zXx oN;conv=>zeta
 refine i0 p ?_;refine(zsN a.aa.length (λi (t:List Mon)=>(ln a.aa,(i:Int),[],[],[],[],a.ag,t,a.ao,a.am,())) _ (λi t=>zqW t/\t.length=a.aa.length) (λi t=>some [AV.agg<|zbl ⟨a.ag,zmE (a.aa.length-i) i t,[],[]⟩]) (λi t rec k e x=>?_) (λt rec e=>?_) N 0 a.aa ⟨v.2.1,rfl⟩ (j7 _)<|f s.1).trans rfl
 .have hit:i<t.length:=(by rw[e.2];exact k);have n:zfJ (ix t (i:Int) mZ):=by rw[zbn hit];exact e.1.2 _ (jI hit)
  have r:=zcC n.2.2.2.2.2.1;refine i0 (zbw k) (i0 (zbc hit) ?_);refine(zsN (ix t (i:Int) mZ).ak.length (λj (u:List Mon)=>((i:Int),ln a.aa,(i:Int),(i:Int),ln (ix t (i:Int) mZ).ak,(j:Int),u,[],[],[],[],a.ag,a.ao,a.am,()))
   _ (λj u=>u.length=t.length/\zfJ (ix u (i:Int) mZ)/\(ix u (i:Int) mZ).ak.length=(ix t (i:Int) mZ).ak.length)
   (λj u=>rec (ln a.aa,((i+1:Nat):Int),[],[],[],[],a.ag,up u (i:Int)<|zq3 (ix u (i:Int) mZ) ((ix t (i:Int) mZ).ak.length-j) j,a.ao,a.am,()))
   (λj u h l b m=>?_) (λu h b=>?_) N 0 t ⟨rfl,n,rfl⟩ (j7 _) (f r.1)).trans ?_
  .have c:i<u.length:=(by rw[b.1];exact hit);have d:j<(ix u (i:Int) mZ).ak.length:=(by rw[b.2.2];exact l);have g:SmK (ix (ix u (i:Int) mZ).ak (j:Int) kZ):=by rw[zbn d];exact b.2.1.2.2.2.2.2.2 _ (jI d)
   refine i0 (zbw l) (i0 (zbc d)<|i0 (zbc c)<|i0 (zba g)<|i0 (zbc d)<|shr ?_);have w:zfJ {ix u (i:Int) mZ with ak:=up (ix u (i:Int) mZ).ak (j:Int) (ziY<|ix (ix u (i:Int) mZ).ak (j:Int) kZ)} :=
    ⟨b.2.1.1,b.2.1.2.1,b.2.1.2.2.1,b.2.1.2.2.2.1,b.2.1.2.2.2.2.1,zv9 b.2.1.2.2.2.2.2<|ztR _ _ _ g⟩
   have q:=m (up u (i:Int) {ix u (i:Int) mZ with ak:=up (ix u (i:Int) mZ).ak (j:Int) (ziY<|ix (ix u (i:Int) mZ).ak (j:Int) kZ)}) ⟨by rw[zfB];exact b.1,by rw[zee c];exact w,by rw[zee c];simp only[zfB];exact b.2.2⟩;rw[zbj l r.1];refine q.trans ?_;rw[zee c,zsv,show (ix t (i:Int) mZ).ak.length-j=(ix t (i:Int) mZ).ak.length-(j+1)+1 by omega];rfl
  {have c:i<u.length:=(by rw[b.1];exact hit);refine zb9 (by show ilt ((ix t (i:Int) mZ).ak.length:Int) (ln (ix t (i:Int) mZ).ak)=false;exact qH (by simp only[ln];omega)) ?_;rw[zbj k s.1,k5];show rec _=rec (ln a.aa,_,[],[],[],[],a.ag,up u (i:Int)<|ix u (i:Int) mZ,_);rw[zGY c]};{have q:=x (up t (i:Int)<|zq3 (ix t (i:Int) mZ) (ix t (i:Int) mZ).ak.length 0) ⟨zkO e.1<|zCc n (by omega),by rw[zfB];exact e.2⟩;refine q.trans ?_;rw[show a.aa.length-i=a.aa.length-(i+1)+1 by omega];rfl}
 {refine zb9 (by show ilt (a.aa.length:Int) (ln a.aa)=false;exact qH (by simp only[ln];omega)) ?_;rw[k5];rfl}
def zYr:vP 139 zvF:=kF1 zUx zq zbH zbZ z6j z4W
def z6T:zbb:=[(139,zvF)]++z6S
def zUy:zN z6T:=zh zYr zUx
def zDu:∀(n i:Nat) (t:List Mon),i+n<=t.length->zqW t->zqW (zmE n i t)
 | 0,_,_,_,h=>h
 |n+1,i,t,b,h=>by have a:i<t.length:=(by omega);refine zDu n (i+1) _ (by rw[zfB];omega) (zkO h<|zCc ?_ (by omega));rw[zbn a];exact h.2 _ (jI a)
def z0u {h:ad}(a:SmH h):SmH (cold h):=⟨a.1,zDu _ _ _ (by omega) a.2.1,by simp[cold],by simp[cold]⟩
def zqs {h:ad}{m:Int}{b:ai}(c:SmH h)(d:zcm h m=true->SmB b):SmH (zgn h m b):=by unfold zgn;cases a:zcm h m;{exact c};{exact zCa c (zbr.1 a).2 (d a).2.1}
def zU9 {h:ad}{m g p:Int}(c:SmH h):SmH (zi8 h m g p):=by unfold zi8;cases e:zcm h m;{exact c};{cases l:zcA (zT h m) g (j0 p 4);{exact c};{have d:=(zbr.1 e).2;have f:=zex c d;have k:SmB (chg (zT h m) g (j0 p 4)<|ziQ (gAt (zT h m) g) p):=zhC f (zoX _<|zfz _ f);have b:=zCa c d k.2.1;have i:=zJ6 (chg (zT h m) g (j0 p 4)<|ziQ (gAt (zT h m) g) p) d;have j:=zFa c e (chg (zT h m) g (j0 p 4)<|ziQ (gAt (zT h m) g) p) l;have a:=b.2.1.2 _ (zbJ i mZ);simp only[cT];exact⟨b.1,zkO b.2.1 ⟨a.1,a.2.1,a.2.2.1,a.2.2.2.1,a.2.2.2.2.1,zv9 a.2.2.2.2.2<|zoY<|a.2.2.2.2.2.2 _<|zbJ j _⟩,qT (zBq _ _ _) b.2.2.1,qT (zBq _ _ _) b.2.2.2⟩}}
def zbaD {h:ad}{m p c v:Int}(e:SmH h):SmH (zmb h m p c v):=by unfold zmb;cases a:zeI h m p c v;{exact e};{have f:zbP h m p=true:=(by unfold zeI at a;cases b:zbP h m p;{rw [b]at a;cases a};{rfl});obtain⟨g,i,b⟩:=zfC.1 f;have d:=(zst (n:=2) (zeX e g) i b).1.1;exact⟨zqu d.1,d.2⟩}
def zZr {h:ad}{m g c a:Int}(b:List au)(i:Bool)(f:SmH h)(d:zca h m g c a=true):SmH (lookOf h b m g c a i).1:=by have hg:zcy h m g=true:=(by unfold zca at d;cases e:zcy h m g;{rw [e]at d;cases d};{rfl});exact(zv3 f hg).shape.1
def zbdY {h:ad}{m g a v:Int}(e:SmH h):SmH (zom h m g a v):=by unfold zom;cases b:zi7 h m g a v;{exact e};{have f:zca h m g (zco a) 2=true:=(by unfold zi7 at b;cases c:zl a 0 15;{rw [c]at b;cases b};{cases d:zl v 0 99;{rw [c,d]at b;cases b};{rw [c,d]at b;exact b}});have c:=zZr h.am true e f;exact⟨zqu c.1,c.2⟩}
def zbaE {h:ad}{m g a:Int}(d:SmH h):SmH (zmc h m g a):=by unfold zmc;cases b:zgR h m g a;{exact d};{have e:zca h m g (zco a) 1=true:=(by unfold zgR at b;cases c:zl a 0 15;{rw [c]at b;cases b};{rw [c]at b;exact b});exact zZr h.am true d e}
def zbdZ {h:ad}{m p:Int}(a:SmH h):SmH (zly h m p):=by unfold zly;cases b:zbP h m p;{exact a};{obtain⟨c,d,e⟩:=zfC.1 b;cases ziv h m p;{exact(zB7 (zeX a c).1 d).1};{exact a}}
def zbe7 {h:ad}{m p:Int}(a:SmH h):SmH (znK h m p):=by unfold znK;cases b:zbP h m p;{exact a};{obtain⟨c,d,e⟩:=zfC.1 b;cases ziv h m p;{exact a};{exact(zko (zeX a c) d e).1.1}}
def z8K {h:ad}{m t:Int}(a:SmH h):SmH (ziP h m t):=by unfold ziP;cases zbW h;{exact a};{cases c:j0 m (ln h.aa);{exact a};{cases zl t 0 3;{exact a};{have b:zfJ (ix h.aa m mZ):=a.2.1.2 _ (zbJ c mZ);exact⟨a.1,zkO a.2.1 ⟨b.1,b.2.1,b.2.2.1,b.2.2.2.1,b.2.2.2.2.1,b.2.2.2.2.2⟩,a.2.2⟩}}}
def zhh (h:ad)(a:r0):ad:=bif ieq a.Kind 1 then (zcO h a.M a.G).1 else (cond (ieq a.Kind 2) (zgJ h a.M a.G a.X ⟨a.Y,a.Z⟩)<|cond (ieq a.Kind 3) (zi8 h a.M a.G a.X)<|cond (ieq a.Kind 4) (ze8 h a.M a.G a.X)<|cond (ieq a.Kind 5) (zfa h a.M a.G)<|cond (ieq a.Kind 6) (ze9 h a.M a.G a.X)<|cond (ieq a.Kind 7) (zhK h a.M a.G ⟨a.X,a.Y,ieq a.Z 1⟩)<|cond (ieq a.Kind 8) (zmb h a.M a.X a.Y a.Z)<|cond (ieq a.Kind 9) (zgb h a.M a.X)<|cond (ieq a.Kind 10) (zgI h a.M)<|cond (ieq a.Kind 11) (zom h a.M a.G a.X a.Y)<|zmc h a.M a.G a.X)
def zjK (h:ad)(a:r0):aE:=bif ieq a.Kind 1 then ⟨(zcO h a.M a.G).2,0⟩ else (cond (ieq a.Kind 2) ⟨zhM h a.M a.G a.X ⟨a.Y,a.Z⟩,0⟩<|cond (ieq a.Kind 3) ⟨zgl h a.M a.G a.X,0⟩<|cond (ieq a.Kind 4) ⟨zfN h a.M a.G a.X,0⟩<|cond (ieq a.Kind 5) ⟨zfP h a.M a.G,0⟩<|cond (ieq a.Kind 6) ⟨zfO h a.M a.G a.X,0⟩<|cond (ieq a.Kind 7) ⟨zhL h a.M a.G ⟨a.X,a.Y,ieq a.Z 1⟩,0⟩<|cond (ieq a.Kind 8) ⟨zeI h a.M a.X a.Y a.Z,0⟩<|cond (ieq a.Kind 9) ⟨zgV h a.M a.X,0⟩<|cond (ieq a.Kind 10) ⟨zhJ h a.M,zhI h a.M⟩<|cond (ieq a.Kind 11) ⟨zi7 h a.M a.G a.X a.Y,0⟩<|⟨zgR h a.M a.G a.X,zt8 h a.M a.G a.X⟩)
def ziS (h:ad)(a:r0):ad:=bif ieq a.Kind 13 then zly h a.M a.X else (cond (ieq a.Kind 14) (znK h a.M a.X)<|cond (ieq a.Kind 15) (znB h a.M a.X)<|cond (ieq a.Kind 16) (ziP h a.M a.X)<|cold h)
def zro (h:ad)(a:r0):aE:=bif ieq a.Kind 13 then ⟨zuh h a.M a.X,0⟩ else (cond (ieq a.Kind 14) ⟨zwV h a.M a.X,0⟩<|cond (ieq a.Kind 15) ⟨zbP h a.M a.X,0⟩<|cond (ieq a.Kind 16) ⟨zss h a.M a.X,0⟩<|⟨true,0⟩)
def zck (h:ad)(a:r0):ad:=bif zl a.Kind 1 17 then (cond (zl a.Kind 13 17) (ziS h a)<|zhh h a) else h
def zcW (h:ad)(a:r0):aE:=bif zl a.Kind 1 17 then (cond (zl a.Kind 13 17) (zro h a)<|zjK h a) else ⟨false,0⟩
def z8J {h:ad}{a:r0}(b:SmH h):SmH (ziS h a):=by unfold ziS;cases ieq a.Kind 13;{cases ieq a.Kind 14;{cases ieq a.Kind 15;{cases ieq a.Kind 16;{exact z0u b};{exact z8K b}};{exact z8H b}};{exact zbe7 b}};{exact zbdZ b}
def z8I {h:ad}{a:r0}(c:SmH h):SmH (zhh h a):=by have d:zcm h a.M=true->SmB (zT h a.M):=λb=>zex c (zbr.1 b).2;unfold zhh;cases ieq a.Kind 1;{cases ieq a.Kind 2;{cases ieq a.Kind 3;{cases ieq a.Kind 4;{cases ieq a.Kind 5;{cases ieq a.Kind 6;{cases ieq a.Kind 7;{cases ieq a.Kind 8;{cases ieq a.Kind 9;{cases ieq a.Kind 10;{cases ieq a.Kind 11;{exact zbaE c};{exact zbdY c}};{exact zqs c (λb=>zGS (d b))}};{exact zqs c (λb=>zB9 _ (d b))}};{exact zbaD c}};{exact zqs c (λb=>zGT _ _ (d b))}};{exact zqs c (λb=>zvV _ _ (d b))}};{exact zqs c (λb=>zvW _ (d b))}};{exact zqs c (λb=>zvU _ _ (d b))}};{exact zU9 c}};{exact zqs c (λb=>zGU _ _ _ (d b))}};{exact(z8A a.M a.G c).sm}
def zTp {h:ad}{a:r0}(b:SmH h):SmH (zck h a):=by unfold zck;cases zl a.Kind 1 17;{exact b};{cases zl a.Kind 13 17;{exact z8I b};{exact z8J b}}
@[simp] abbrev zgj (h:ad)(a:r0):Bool:=pc (zdJ h)
@[simp] abbrev zn4 (h:ad)(a:r0):ad:=ziS h a
@[simp] abbrev zlT (h:ad)(a:r0):aE:=zro h a
def zAJ:Run:=rF2 dH (dT .act) λb c=>(zgj b c,[aH<|zn4 b c,aT .told<|zlT b c])
def zEH (N:Nat)(c:ad)(a:r0):OA:=
 (cond (ieq a.Kind 13) (oN (zfd c a.M a.X)<|some [aH<|zjj c a.M a.X,.agg [.b<|zkZ c a.M a.X,.i .i64 0]])<|cond (ieq a.Kind 14) (oN (zfd c a.M a.X)<|some [aH<|zkJ c a.M a.X,.agg [.b<|zms c a.M a.X,.i .i64 0]])<|cond (ieq a.Kind 15) (oN (zfd c a.M a.X)<|some [aH<|zkG c a.M a.X,.agg [.b<|zeA c a.M a.X,.i .i64 0]])<|cond (ieq a.Kind 16) (oN (znV c a.M a.X)<|some [aH<|zij c a.M a.X,.agg [.b<|zjX c a.M a.X,.i .i64 0]])<|oN (zS c)<|some [aH<|zAK c,.agg [.b true,.i .i64 0]])
def zS6 (a:ad)(b:r0)(c:zgj a b=true):∃N,zEH N a b=some [aH<|zn4 a b,aT .told<|zlT a b]:=by have d:=zF.1 c;refine⟨0,?_⟩;unfold zEH oN;refine br (λ_=>mu ?_) (λ_=>br (λ_=>mu ?_) λ_=>br (λ_=>mu ?_) λ_=>br (λ_=>mu ?_) λ_=>mu ?_);all_goals first|rfl|(simp only [*,zn4,zlT,ziS,zro,cT,cF]<;>rfl)|simp_all[Ty.cells,zn4,zlT,ziS,zro]
def zLv:vP 140 zAJ:=kF2 zUy zq zbH zbZ (zo []) zS6
def z6U:zbb:=[(140,zAJ),(42,zje),(41,zje),(40,zg8),(39,zg8),(38,zjf),(37,zjf)]++z6T
def zE0:zN z6U:=zh zLv (zh zuK<|zh zuI<|zh zrb<|zh zq9<|zh zuL<|zh zuJ zUy)
@[simp] abbrev zgd (h:ad)(a:r0):ad:=zck h a
@[simp] abbrev zfG (h:ad)(a:r0):aE:=zcW h a
def ziK:Run:=rF2 dH (dT .act) λb c=>(zgj b c,[aH<|zgd b c,aT .told<|zfG b c])
def zIE (N:Nat)(c:ad)(a:r0):OA:=
 let d:=(⟨a.Y,a.Z⟩:k0); (oN (zeQ a)<|cond (nB<|zlC a) (oN (zS c)<|some [aH<|zk c,.agg [.b false,.i .i64 0]])<|oN (zfb a.Kind)<|cond (zfw a.Kind) (oN (zgj c a)<|some [aH<|zn4 c a,.agg [.b (zlT c a).Ok,.i .i64 (zlT c a).N]])<|cond (ieq a.Kind 1) (oN (zdv c a.M a.G)<|some [aH<|zcw c a.M a.G,.agg [.b<|zcG c a.M a.G,.i .i64 0]])<|cond (ieq a.Kind 2) (oN (zpq c a.M a.G a.X d)<|some [aH<|zgJ c a.M a.G a.X d,.agg [.b<|zhM c a.M a.G a.X d,.i .i64 0]])<|cond (ieq a.Kind 3) (oN (zmN c a.M a.G a.X)<|some [aH<|zhc c a.M a.G a.X,.agg [.b<|zgl c a.M a.G a.X,.i .i64 0]])<|cond (ieq a.Kind 4) (oN (zlG c a.M a.G a.X)<|some [aH<|ze8 c a.M a.G a.X,.agg [.b<|zfN c a.M a.G a.X,.i .i64 0]])<|cond (ieq a.Kind 5) (oN (zlI c a.M a.G)<|some [aH<|zfa c a.M a.G,.agg [.b<|zfP c a.M a.G,.i .i64 0]])<|cond (ieq a.Kind 6) (oN (zlH c a.M a.G a.X)<|some [aH<|ze9 c a.M a.G a.X,.agg [.b<|zfO c a.M a.G a.X,.i .i64 0]])<|cond (ieq a.Kind 7) (oN (zeQ a)<|oN (zpo c a.M a.G<|zeV a)<|some [aH<|zhK c a.M a.G<|zeV a,.agg [.b<|zhL c a.M a.G<|zeV a,.i .i64 0]])<|cond (ieq a.Kind 8) (oN (znS c a.M a.X a.Y a.Z)<|some [aH<|zjS c a.M a.X a.Y a.Z,.agg [.b<|zjT c a.M a.X a.Y a.Z,.i .i64 0]])<|cond (ieq a.Kind 9) (oN (znT c a.M a.X)<|some [aH<|zgb c a.M a.X,.agg [.b<|zgV c a.M a.X,.i .i64 0]])<|cond (ieq a.Kind 10) (oN (zcT c a.M)<|some [aH<|zgI c a.M,.agg [.b<|zhJ c a.M,.i .i64<|zhI c a.M]])<|cond (ieq a.Kind 11) (oN (zpp c a.M a.G a.X a.Y)<|some [aH<|zkX c a.M a.G a.X a.Y,.agg [.b<|zkY c a.M a.G a.X a.Y,.i .i64 0]])<|oN (znU c a.M a.G a.X)<|some [aH<|zih c a.M a.G a.X,.agg [.b<|zjV c a.M a.G a.X,.i .i64<|zjU c a.M a.G a.X]])
def zWl (a:ad)(b:r0)(c:zgj a b=true):∃N,zIE N a b=some [aH<|zgd a b,aT .told<|zfG a b]:=by
 have d:=zF.1 c;refine⟨0,?_⟩;unfold zIE oN nB;conv=>zeta
 refine i0 rfl (brN (λ_=>mu ?_) λ_=>i0 rfl (br (λ_=>mu ?_) λ_=>br (λ_=>mu ?_) λ_=>br (λ_=>mu ?_) λ_=>br (λ_=>mu ?_) λ_=>br (λ_=>mu ?_) λ_=>br (λ_=>mu ?_) λ_=>br (λ_=>mu ?_) λ_=>br (λ_=>i0 rfl (mu ?_)) λ_=>br (λ_=>mu ?_) λ_=>br (λ_=>mu ?_) λ_=>br (λ_=>mu ?_) λ_=>br (λ_=>mu ?_) λ_=>mu ?_));all_goals first|rfl|(simp only [*,zgd,zfG,zck,zcW,zhh,zjK,cT,cF]<;>rfl)|simp_all[Ty.cells,zgd,zfG,zck,zcW,zhh,zjK]
def zra:vP 31 ziK:=kF2 zE0 zq zbH zbZ (zo []) zWl
def zbfi {h:ad}{a:r0}(b:ieq a.Kind 1=true):zck h a=(zcO h a.M a.G).1/\zcW h a=⟨(zcO h a.M a.G).2,0⟩:=by have e:a.Kind=1:=qD b;constructor;{unfold zck zhh;rw[e];rfl};{unfold zcW zjK;rw[e];rfl}
def zbfj {h:ad}{a:r0}(b:ieq a.Kind 2=true):zck h a=zgJ h a.M a.G a.X ⟨a.Y,a.Z⟩/\zcW h a=⟨zhM h a.M a.G a.X ⟨a.Y,a.Z⟩,0⟩:=by have e:a.Kind=2:=qD b;constructor;{unfold zck zhh;rw[e];rfl};{unfold zcW zjK;rw[e];rfl}
def zbfk {h:ad}{a:r0}(b:ieq a.Kind 3=true):zck h a=zi8 h a.M a.G a.X/\zcW h a=⟨zgl h a.M a.G a.X,0⟩:=by have e:a.Kind=3:=qD b;constructor;{unfold zck zhh;rw[e];rfl};{unfold zcW zjK;rw[e];rfl}
def zbfl {h:ad}{a:r0}(b:ieq a.Kind 4=true):zck h a=ze8 h a.M a.G a.X/\zcW h a=⟨zfN h a.M a.G a.X,0⟩:=by have e:a.Kind=4:=qD b;constructor;{unfold zck zhh;rw[e];rfl};{unfold zcW zjK;rw[e];rfl}
def zbfm {h:ad}{a:r0}(b:ieq a.Kind 5=true):zck h a=zfa h a.M a.G/\zcW h a=⟨zfP h a.M a.G,0⟩:=by have e:a.Kind=5:=qD b;constructor;{unfold zck zhh;rw[e];rfl};{unfold zcW zjK;rw[e];rfl}
def zbfn {h:ad}{a:r0}(b:ieq a.Kind 6=true):zck h a=ze9 h a.M a.G a.X/\zcW h a=⟨zfO h a.M a.G a.X,0⟩:=by have e:a.Kind=6:=qD b;constructor;{unfold zck zhh;rw[e];rfl};{unfold zcW zjK;rw[e];rfl}
def zbfo {h:ad}{a:r0}(b:ieq a.Kind 7=true):zck h a=zhK h a.M a.G ⟨a.X,a.Y,ieq a.Z 1⟩/\zcW h a=⟨zhL h a.M a.G ⟨a.X,a.Y,ieq a.Z 1⟩,0⟩:=by have e:a.Kind=7:=qD b;constructor;{unfold zck zhh;rw[e];rfl};{unfold zcW zjK;rw[e];rfl}
def zbfp {h:ad}{a:r0}(b:ieq a.Kind 8=true):zck h a=zmb h a.M a.X a.Y a.Z/\zcW h a=⟨zeI h a.M a.X a.Y a.Z,0⟩:=by have e:a.Kind=8:=qD b;constructor;{unfold zck zhh;rw[e];rfl};{unfold zcW zjK;rw[e];rfl}
def zbfq {h:ad}{a:r0}(b:ieq a.Kind 9=true):zck h a=zgb h a.M a.X/\zcW h a=⟨zgV h a.M a.X,0⟩:=by have e:a.Kind=9:=qD b;constructor;{unfold zck zhh;rw[e];rfl};{unfold zcW zjK;rw[e];rfl}
def zbeb {h:ad}{a:r0}(b:ieq a.Kind 10=true):zck h a=zgI h a.M/\zcW h a=⟨zhJ h a.M,zhI h a.M⟩:=by have e:a.Kind=10:=qD b;constructor;{unfold zck zhh;rw[e];rfl};{unfold zcW zjK;rw[e];rfl}
def zbec {h:ad}{a:r0}(b:ieq a.Kind 11=true):zck h a=zom h a.M a.G a.X a.Y/\zcW h a=⟨zi7 h a.M a.G a.X a.Y,0⟩:=by have e:a.Kind=11:=qD b;constructor;{unfold zck zhh;rw[e];rfl};{unfold zcW zjK;rw[e];rfl}
def zbed {h:ad}{a:r0}(b:ieq a.Kind 12=true):zck h a=zmc h a.M a.G a.X/\zcW h a=⟨zgR h a.M a.G a.X,zt8 h a.M a.G a.X⟩:=by have e:a.Kind=12:=qD b;constructor;{unfold zck zhh;rw[e];rfl};{unfold zcW zjK;rw[e];rfl}
def zbee {h:ad}{a:r0}(b:ieq a.Kind 13=true):zck h a=zly h a.M a.X/\zcW h a=⟨zuh h a.M a.X,0⟩:=by have e:a.Kind=13:=qD b;constructor;{unfold zck ziS;rw[e];rfl};{unfold zcW zro;rw[e];rfl}
def zbef {h:ad}{a:r0}(b:ieq a.Kind 14=true):zck h a=znK h a.M a.X/\zcW h a=⟨zwV h a.M a.X,0⟩:=by have e:a.Kind=14:=qD b;constructor;{unfold zck ziS;rw[e];rfl};{unfold zcW zro;rw[e];rfl}
def zbeg {h:ad}{a:r0}(b:ieq a.Kind 15=true):zck h a=znB h a.M a.X/\zcW h a=⟨zbP h a.M a.X,0⟩:=by have e:a.Kind=15:=qD b;constructor;{unfold zck ziS;rw[e];rfl};{unfold zcW zro;rw[e];rfl}
def zbeh {h:ad}{a:r0}(b:ieq a.Kind 16=true):zck h a=ziP h a.M a.X/\zcW h a=⟨zss h a.M a.X,0⟩:=by have e:a.Kind=16:=qD b;constructor;{unfold zck ziS;rw[e];rfl};{unfold zcW zro;rw[e];rfl}
def zbei {h:ad}{a:r0}(b:ieq a.Kind 17=true):zck h a=cold h/\zcW h a=⟨true,0⟩:=by have e:a.Kind=17:=qD b;constructor;{unfold zck ziS;rw[e];rfl};{unfold zcW zro;rw[e];rfl}
def zbfh {h:ad}{a:r0}(l:ieq a.Kind 1=false)(m:ieq a.Kind 2=false)(n:ieq a.Kind 3=false)(p:ieq a.Kind 4=false)(q:ieq a.Kind 5=false)(r:ieq a.Kind 6=false)(s:ieq a.Kind 7=false)(t:ieq a.Kind 8=false)(u:ieq a.Kind 9=false)(b:ieq a.Kind 10=false)(c:ieq a.Kind 11=false)(d:ieq a.Kind 12=false)(e:ieq a.Kind 13=false)(f:ieq a.Kind 14=false)(g:ieq a.Kind 15=false)(i:ieq a.Kind 16=false)(j:ieq a.Kind 17=false):zck h a=h/\zcW h a=⟨false,0⟩:=by have k:zl a.Kind 1 17=false:=(by cases k:zl a.Kind 1 17;{rfl};{have:=zff.1 k;have:=qM l;have:=qM m;have:=qM n;have:=qM p;have:=qM q;have:=qM r;have:=qM s;have:=qM t;have:=qM u;have:=qM b;have:=qM c;have:=qM d;have:=qM e;have:=qM f;have:=qM g;have:=qM i;have:=qM j;omega});unfold zck zcW;rw[k];exact⟨rfl,rfl⟩
def zId (N:Nat)(c:ad)(a:r0):OA:=
 let g:=zhK c a.M a.G<|zeV a;let f:=zkX c a.M a.G a.X a.Y;let e:=zjS c a.M a.X a.Y a.Z;let d:=(⟨a.Y,a.Z⟩:k0); (cond (ieq a.Kind 1) (oN (zdv c a.M a.G)<|oN (zS<|zcw c a.M a.G)<|some [aH<|zk<|zcw c a.M a.G,.agg [.b<|zcG c a.M a.G,.i .i64 0]])<|cond (ieq a.Kind 2) (oN (zpq c a.M a.G a.X d)<|oN (zS<|zgJ c a.M a.G a.X d)<|some [aH<|zk<|zgJ c a.M a.G a.X d,.agg [.b<|zhM c a.M a.G a.X d,.i .i64 0]])<|cond (ieq a.Kind 3) (oN (zmN c a.M a.G a.X)<|oN (zS<|zhc c a.M a.G a.X)<|some [aH<|zk<|zhc c a.M a.G a.X,.agg [.b<|zgl c a.M a.G a.X,.i .i64 0]])<|cond (ieq a.Kind 4) (oN (zlG c a.M a.G a.X)<|oN (zS<|ze8 c a.M a.G a.X)<|some [aH<|zk<|ze8 c a.M a.G a.X,.agg [.b<|zfN c a.M a.G a.X,.i .i64 0]])<|cond (ieq a.Kind 5) (oN (zlI c a.M a.G)<|oN (zS<|zfa c a.M a.G)<|some [aH<|zk<|zfa c a.M a.G,.agg [.b<|zfP c a.M a.G,.i .i64 0]])<|cond (ieq a.Kind 6) (oN (zlH c a.M a.G a.X)<|oN (zS<|ze9 c a.M a.G a.X)<|some [aH<|zk<|ze9 c a.M a.G a.X,.agg [.b<|zfO c a.M a.G a.X,.i .i64 0]])<|cond (ieq a.Kind 7) (oN (zeQ a)<|oN (zpo c a.M a.G<|zeV a)<|oN (zS g)<|some [aH<|zk g,.agg [.b<|zhL c a.M a.G<|zeV a,.i .i64 0]])<|cond (ieq a.Kind 8) (oN (znS c a.M a.X a.Y a.Z)<|oN (zS e)<|some [aH<|zk e,.agg [.b<|zjT c a.M a.X a.Y a.Z,.i .i64 0]])<|cond (ieq a.Kind 9) (oN (znT c a.M a.X)<|oN (zS<|zgb c a.M a.X)<|some [aH<|zk<|zgb c a.M a.X,.agg [.b<|zgV c a.M a.X,.i .i64 0]])<|cond (ieq a.Kind 10) (oN (zcT c a.M)<|oN (zS<|zgI c a.M)<|some [aH<|zk<|zgI c a.M,.agg [.b<|zhJ c a.M,.i .i64<|zhI c a.M]])<|cond (ieq a.Kind 11) (oN (zpp c a.M a.G a.X a.Y)<|oN (zS f)<|some [aH<|zk f,.agg [.b<|zkY c a.M a.G a.X a.Y,.i .i64 0]])<|cond (ieq a.Kind 12) (oN (znU c a.M a.G a.X)<|oN (zS<|zih c a.M a.G a.X)<|some [aH<|zk<|zih c a.M a.G a.X,.agg [.b<|zjV c a.M a.G a.X,.i .i64<|zjU c a.M a.G a.X]])<|cond (ieq a.Kind 13) (oN (zfd c a.M a.X)<|oN (zS<|zjj c a.M a.X)<|some [aH<|zk<|zjj c a.M a.X,.agg [.b<|zkZ c a.M a.X,.i .i64 0]])<|cond (ieq a.Kind 14) (oN (zfd c a.M a.X)<|oN (zS<|zkJ c a.M a.X)<|some [aH<|zk<|zkJ c a.M a.X,.agg [.b<|zms c a.M a.X,.i .i64 0]])<|cond (ieq a.Kind 15) (oN (zfd c a.M a.X)<|oN (zS<|zkG c a.M a.X)<|some [aH<|zk<|zkG c a.M a.X,.agg [.b<|zx4 c a.M a.X,.i .i64 0]])<|cond (ieq a.Kind 16) (oN (znV c a.M a.X)<|oN (zS<|zij c a.M a.X)<|some [aH<|zk<|zij c a.M a.X,.agg [.b<|zjX c a.M a.X,.i .i64 0]])<|cond (ieq a.Kind 17) (oN (zS c)<|oN (zS<|zAK c)<|some [aH<|zk<|zAK c,.agg [.b true,.i .i64 0]])<|oN (zS c)<|some [aH<|zk c,.agg [.b false,.i .i64 0]])
def zVV (a:ad)(b:r0)(c:zgj a b=true):∃N,zId N a b=some [aH<|zgd a b,aT .told<|zfG a b]:=by
 have d:=zF.1 c;have e:zdJ (zck a b):=(zQ _).2 (zTp<|(zQ _).1 d);have p:=@zbfi a b;have q:=@zbfj a b;have r:=@zbfk a b;have s:=@zbfl a b;have t:=@zbfm a b;have u:=@zbfn a b;have v:=@zbfo a b;have w:=@zbfp a b;have x:=@zbfq a b;have f:=@zbeb a b;have g:=@zbec a b;have h:=@zbed a b;have i:=@zbee a b;have j:=@zbef a b;have k:=@zbeg a b;have l:=@zbeh a b;have m:=@zbei a b;have n:=@zbfh a b;refine⟨0,?_⟩;unfold zId oN;conv=>zeta
 refine br (λ_=>mu (mu ?_)) (λ_=>br (λ_=>mu (mu ?_)) λ_=>br (λ_=>mu (mu ?_)) λ_=>br (λ_=>mu (mu ?_)) λ_=>br (λ_=>mu (mu ?_)) λ_=>br (λ_=>mu (mu ?_)) λ_=>br (λ_=>i0 rfl (mu<|mu ?_)) λ_=>br (λ_=>mu (mu ?_)) λ_=>br (λ_=>mu (mu ?_)) λ_=>br (λ_=>mu (mu ?_)) λ_=>br (λ_=>mu (mu ?_)) λ_=>br (λ_=>mu (mu ?_)) λ_=>br (λ_=>mu (mu ?_)) λ_=>br (λ_=>mu (mu ?_)) λ_=>br (λ_=>mu (mu ?_)) λ_=>br (λ_=>mu (mu ?_)) λ_=>br (λ_=>mu (mu ?_)) λ_=>mu ?_);all_goals first|rfl|(simp only [*,zgd,zfG,cT,cF]<;>rfl)|simp_all[Ty.cells,zgd,zfG]
def zxV:vP 30 ziK:=kF2 zE0 zq zbH zbZ (zo []) zVV
def z6V:zbb:=[(31,ziK),(30,ziK)]++z6U
def zUz:zN z6V:=zh zra (zh zxV zE0)
def zL7:List r0->ad×List aE->ad×List aE
 |[],u=>u
 |a::l,u=>zL7 l (zck u.1 a,ap u.2 [zcW u.1 a])
def zBB (a:List (List<|List Ins))(l:List r0):ad×List aE:=zL7 (l.take 80) (zhs a,[])
abbrev HSt:Type:=(List aE)×(List<|LI)×(List Mon)×(List au)×(List au)
def hOf (t:HSt):ad:=⟨t.2.1,t.2.2.1,t.2.2.2.1,t.2.2.2.2⟩
def tOf (u:ad×List aE):HSt:=(u.2,u.1.ag,u.1.aa,u.1.ao,u.1.am)
def zBK (t:HSt):OA:=some [AV.agg<|zbl<|hOf t,AV.one<|.s .told t.1]
def z3C {e:List (List<|List Ins)}(h:zGq e):SmH (zhs e):=by refine⟨show SmM z5c from ⟨by decide,by decide⟩,⟨?_,?_⟩,by simp[zhs],by simp[zhs]⟩;{simp only [zhs,uQ,vN];omega};{intro x d;simp only[zhs,jH]at d;obtain⟨p,f,rfl⟩:=d;have b:=h.2 p (j8 f);refine⟨show z0m.length<=1048576 by decide,show SmM zS9 from ⟨by decide,by decide⟩,show (rp 8 false).length<=1048576 by decide,⟨?_,?_⟩,by simp[zlw],⟨?_,?_⟩⟩;{simp only [zlw,uQ,vN];omega};{intro y a;simp only[zlw,jH]at a;obtain⟨q,c,rfl⟩:=a;exact⟨b.2 q<|j8 c,show zur.length<=1048576 by decide,show zur.length<=1048576 by decide,by simp[znC]⟩};{simp only [zlw,uQ,vN];omega};{intro y a;simp only[zlw,jH]at a;obtain⟨q,c,rfl⟩:=a;exact⟨show (rp 4 false).length<=1048576 by decide,show zur.length<=1048576 by decide⟩}}
def zJi {c:ad->r0->Bool}(d:∀h a,SmH h->c h a=true)(m:Nat):∀(l:List r0) (i:Nat) (u:ad×List aE),SmH u.1->u.2.length+l.length<=2147483648->
 goL (λ(i:Nat) x (t:HSt) n=>bif ilt (i:Int) (m:Int) then (cond (c (hOf t) x) (cond (few<|ln<|ap t.1 [zcW (hOf t) x]) (n (ap t.1 [zcW (hOf t) x],(zck (hOf t) x).ag,(zck (hOf t) x).aa,(zck (hOf t) x).ao,(zck (hOf t) x).am)) none) none) else zBK t) zBK l i (tOf u)=zBK (tOf<|zL7 (l.take<|m-i) u)
 |[],i,u,_,_=>by simp[goL,zL7]
 |a::l,i,u,e,k=>by simp only[qY]at k;have g:few (ln<|ap u.2 [zcW u.1 a])=true:=zh8 (by simp[ap];omega);have j:hOf (tOf u)=u.1:=rfl;have f:(tOf u).1=u.2:=rfl;by_cases h:i<m;{have b:ilt (i:Int) (m:Int)=true:=qL (by omega);simp only[goL,b,j,f,g,d _ _ e,cT];refine(zJi d m l (i+1) (zck u.1 a,ap u.2 [zcW u.1 a]) (zTp e) (by simp[ap];omega)).trans ?_;rw[show m-i=m-(i+1)+1 by omega];rfl};{have b:ilt (i:Int) (m:Int)=false:=qH (by omega);simp only[goL,b,cF];rw[show m-i=0 by omega];rfl}
@[simp] abbrev zxa (a:List (List<|List Ins))(l:List r0):Bool:=pc (zGq a/\l.length<=1048576)
@[simp] abbrev zw9 (a:List (List<|List Ins))(l:List r0):ad:=(zBB a l).1
@[simp] abbrev zF4 (a:List (List<|List Ins))(l:List r0):List aE:=(zBB a l).2
def zAF:Run:=rF2 (dS<|.sl<|.sl .ins) (dS .act) λb c=>(zxa b c,[aH<|zw9 b c,aS .told<|zF4 b c])
def zEq (N:Nat)(b:lQ)(g:lA):OA:=
 (oN (zzc b)<|q0 (σ:=(Int×lA×lT×lM×lN×lE×lE×lM×lN×lE×lE×Unit)) N (λh a=>let b:=a.2.2.2.2.2;let e:=ix a.2.1 a.1 zbfR;let c:=(⟨b.2.2.1,b.2.2.2.1,b.2.2.2.2.1,b.2.2.2.2.2.1⟩:ad);let f:=ap a.2.2.1 [zfG c e];let d:=zgd c e; (cond (ilt a.1<|ln a.2.1) (cond (ilt a.1 80) (oN (inb a.1<|ln a.2.1)<|oN (zgj c e)<|oN (few<|ln f)<|h (zM .i64 a.1 1,a.2.1,f,a.2.2.2.1,a.2.2.2.2.1,b.1,b.2.1,d.ag,d.aa,d.ao,d.am,()))<|some [aH c,aS .told a.2.2.1])<|some [aH c,aS .told a.2.2.1])) (0,g,[],[],[],[],[],(zji b).ag,(zji b).aa,(zji b).ao,(zji b).am,()))
def zTD:=zo [(235,0,{n:=39,tm:=[(1,.sl 0 []),(4,.lp 0 0),(6,.lp 1 0),(7,.sl 1 []),(8,ti)],lo:=[(0,[.sl 2 [],.sl 3 [],.sl 4 [],.sl 5 []]),(1,[.sl 6 [],.sl 7 [],.sl 8 [],.sl 9 []])],ro:=[(0,.act,false),(1,.told,true),(2,.sl .int,true),(3,.mon,true),(4,.entry,true),(5,.entry,true),(6,.sl .int,true),(7,.mon,true),(8,.entry,true),(9,.entry,true)]})]
def zSP (b:List lP)(c:List r0)(k:zxa b c=true):∃N,zEq N b c=some [aH<|zw9 b c,aS .told<|zF4 b c]:=by
 obtain⟨j,g⟩:=zF.1 k;have f:=zcC g;refine zcf λN e=>?_;unfold zEq oN;conv=>zeta
 refine i0 (zba j) ?_;refine(zbp c (λi (t:lT×lM×lN×lE×lE)=>((i:Int),c,t.1,[],[],[],[],t.2.1,t.2.2.1,t.2.2.2.1,t.2.2.2.2,())) _ (λi (x:r0) (t:HSt) m=>bif ilt (i:Int) ((80:Nat):Int) then (cond (zgj (hOf t) x) (cond (few<|ln<|ap t.1 [zcW (hOf t) x]) (m (ap t.1 [zcW (hOf t) x],(zck (hOf t) x).ag,(zck (hOf t) x).aa,(zck (hOf t) x).ao,(zck (hOf t) x).am)) none) none) else zBK t) (λ(t:lT×lM×lN×lE×lE)=>some [.agg<|zbl (⟨t.2.1,t.2.2.1,t.2.2.2.1,t.2.2.2.2⟩:ad),.one<|.s .told t.1]) (λi d t rec=>?_) (λt rec=>?_) _ ([],(zji b).ag,(zji b).aa,(zji b).ao,(zji b).am)<|e f.1).trans ?_;{simp only [zbw d,zbc d,zbn d,zbj d f.1,cT];rfl};{simp only [zbq,cF]};exact zJi (λh a l=>zba ((zQ h).2 l)) 80 c 0 (zhs b,[]) (z3C j) (by simpa using f.2)
def zK7:vP 235 zAF:=kF2 zUz zq zbH zbZ zTD zSP
def zX0:zbb:=[(235,zAF)]++z6V
def zI6:zN zX0:=zh zK7 zUz
def z3T (h:ad):Prop:=∃a l,zGq a/\(1<=a.length/\∀p∈a,1<=p.length/\∀x∈p,ze2 x=true)/\h=(zBB a l).1
def zL2 {p:List Ins}(h:ze2 p=true):p.length<=12:=by unfold ze2 at h;cases a:p.all zj4 with|false=>rw[a]at h;cases h|true=>rw[a,cT]at h;have b:=(zff.1 h).2;unfold ln at b;omega
def zyU (N:Nat)(c:Cur)  : OA :=
 let a:=({ (zoV c) with b:=c.b}:Cur); (oN (zso c)<|oN (zpv a 20)<|oN (zxa (zxe c)<|zuq a 20)<|some [.agg [.s .u8 c.b,.i .i64 (zpw a 20).i,.i .i64 (zpw a 20).h],aH<|zw9 (zxe c)<|zuq a 20])
def zsq (c:Cur)(s:Cur)(a:ad):Prop:=(∃N,zyU N c=some (AV.agg (zb5 s)::[aH a]))/\(s.b=c.b/\0<=s.i)/\(z3T a)
def zpu (c:Cur)  : Bool:=wC (zsq c)
def zk9 (c:Cur)  : Cur:=wS (zsq c)
def zup (c:Cur)  : ad:=wV (zsq c)
def zJK {c:Cur}(h:zpu c=true):zsq c (zk9 c) (zup c):=wG h
def z2r (c:Cur)  : 0<=(zk9 c).i:=wP λh=>h.2.1.2
def z2q (c:Cur)(h:∃N,Ends (wE (λa=>aH a) c.b λa=>z3T a)<|zyU N c):zpu c=true:=wI (λ_ _ h=>h) h
def zAr:zeD:=rP0 λc=>(zpu c,zk9 c,[aH<|zup c])
def zOF:zbU Tryz.prog 99 [false,true,true] zAr:=hP0 zI6 zY zZM zn (zo []) (λ_ h=>(zJK h).1)
def z7w {c:Cur}(h:zbf c):zpu c=true:=by
 refine z2q c ⟨0,?_⟩;have e:zbf {zoV c with b:=c.b}:=zbI h (z5O _);have a:=(zPT<|zbaT h).2.2;have f:=(zJL<|z6p e (m:=20) (by omega) (by omega)).2.2;unfold zyU oN;conv=>zeta
 have i:(zuq {zoV c with b:=c.b} 20).length<=65:=by unfold ln at f;omega
 have S:zGq (zxe c):=⟨by omega,λp d=>by
  have g:=a.2.2 p d;exact⟨by omega,λx j=>by have:=zL2 (g.2.2 x j);omega⟩⟩
 exact zB (zbaT h) (zB (z6p e (by omega) (by omega))<|zB (zba ⟨S,qT i (by decide)⟩)<|zbF aH (z2t _ _) ⟨_,_,S,⟨a.1,λp d=>⟨(a.2.2 p d).1,(a.2.2 p d).2.2⟩⟩,rfl⟩)
def z5s:zdb:=[(99,[false,true,true],zAr)]++zbcn
def zBR:zce z5s:=zcF zZM (by
 intro x a;simp only[qG,qN,or_false]at a;rcases a with rfl
 .exact zOF)
def z6E:zbb:=zX0
def zxD:zN z6E:=zI6
instance:Inhabited k0:=⟨⟨0,0⟩⟩
instance:Inhabited au:=⟨⟨0,0,0,0⟩⟩
instance:Inhabited aD:=⟨⟨0,0,false,0⟩⟩
instance:Inhabited ah:=⟨⟨[],0,0,[],[],⟨0,0,false⟩,0,⟨0,0,false,0⟩,false,[]⟩⟩
def zxz {c:Cur}(h:zbf c){n m:Int}(a:0<n)(b:n<=m):inb (zx c n) m=true:=by have:=zgs h a;exact qL (by omega)
def zEQ {c:Cur}(h:zbf c){n m:Int}(a:0<n)(b:n<=m+1):inr 0 (zx c n) m=true:=by have:=zgs h a;exact qL (by omega)
def zFM {a:Type}(l:List a)(n:Int):(tk l n).length<=l.length:=by simp[tk];omega
def zkw {a:Type}(l:List a)(n:Int)(x:a):(up l n x).length=l.length:=by simp[up]
def z95 {a:Type}(l:List a)(n:Int):ln (tk l n)<=ln l:=by have:=zFM l n;unfold ln;omega
def z96 {a:Type}(l:List a)(n:Int)(x:a):ln (up l n x)=ln l:=by unfold ln;rw[zkw]
def I64 (x:Int):Prop:=-9223372036854775808<=x/\x<=9223372036854775807
def zZw {f:Type}{c:Cur}(h:zbf c){P:f->Prop}{m:Int}(r:0<=m)(I:m<=1000){fc:Cur->Bool}{fs:Cur->Cur}{fv:Cur->f}(z:∀{c:Cur},zbf c->fc c=true)(C:∀c,0<=(fs c).i)(hg:∀{c:Cur},zbf c->P (fv c)){G:Ans->Prop}{R:Cur->List f->Ans}(w:∀s l,s.b=c.b->0<=s.i->ln l=m->(∀x∈l,P x)->G (R s l)){j:Type}(S:Int->Int×Int×List f->j){F:(j->OA)->j->OA}(v:∀rec t i k l,F rec (S t (i,k,l))=bif ilt t m then (cond (fc ⟨c.b,i,k⟩) (cond (few<|ln<|ap l [fv ⟨c.b,i,k⟩]) (rec<|S (zM .i64 t 1) ((fs ⟨c.b,i,k⟩).i,(fs ⟨c.b,i,k⟩).h,ap l [fv ⟨c.b,i,k⟩])) none) none) else some (R ⟨c.b,i,k⟩ l)):Ends G (q0 1002 F<|S 0 (c.i,c.h,[])):=by refine zmH (λn s=>∃t i k l,s=S t (i,k,l)/\t+(n:Int)=1000/\0<=t/\t<=m/\0<=i/\(∀x∈l,P x)/\ln l=t) ?_ 1002 1000 _ ⟨0,c.i,c.h,[],rfl,rfl,kQ 0,r,h.1,by simp,rfl⟩ (by omega);rintro n s rec ⟨t,i,k,l,rfl,D,u,E,p,q,H⟩ d;rw[v];have a:zbf ⟨c.b,i,k⟩:=zbI h p;refine zbB (λg=>?_) (λg=>?_);{have B:t<m:=qD g;have J:=zjC (y:=1) u (by omega) (by omega) (by omega);refine zB (z a) (zB (zkt (by rw[zhg];omega))<|d (n-1) _ (by omega) ⟨_,_,_,_,rfl,by omega,by omega,by omega,C _,?_,by rw[zhg];omega⟩);intro x e;rcases jK.1 e with e|e;{exact q x e};{rw [qF.1 e];exact hg a}};{have A:¬ t<m:=qM g;exact zwt (w _ l rfl p (by omega) q)}
def zuB (N:Nat)(c:Cur)  : OA :=
 let a:=zbe c [3,3,1,2,0,3,1,-1,4,9223372036854775807]; (oN (zbC c [3,3,1,2,0,3,1,-1,4,9223372036854775807])<|some [.agg [.s .u8 c.b,.i .i64 a.i,.i .i64 a.h],aI<|zbu c [3,3,1,2,0,3,1,-1,4,9223372036854775807]])
def zoO (c:Cur)(s:Cur)(a:Int):Prop:=(∃N,zuB N c=some (AV.agg (zb5 s)::[aI a]))/\(s.b=c.b/\0<=s.i)/\(True)
def zmO (c:Cur)  : Bool:=wC (zoO c)
def zmP (c:Cur)  : Cur:=wS (zoO c)
def ztB (c:Cur)  : Int:=wV (zoO c)
def zWP {c:Cur}(h:zmO c=true):zoO c (zmP c) (ztB c):=wG h
def zWR (c:Cur)  : 0<=(zmP c).i:=wP λh=>h.2.1.2
def zWQ (c:Cur)(h:∃N,Ends (wE (λa=>aI a) c.b λa=>True)<|zuB N c):zmO c=true:=wI (λ_ _ h=>h) h
def zwY:zeD:=rP0 λc=>(zmO c,zmP c,[aI<|ztB c])
def zHA:zbU Tryz.prog 457 [false,true,true] zwY:=hP0 zeS zY zBR zn (zo []) (λ_ h=>(zWP h).1)
def zbau {c:Cur}(h:zbf c):zmO c=true:=by
 refine zWQ c ⟨0,?_⟩;unfold zuB oN;conv=>zeta
 exact zB (zfY h (by simp)) (zbF aI (zb4 _ _) trivial)
def zbco:zdb:=[(457,[false,true,true],zwY)]++z5s
def zZN:zce zbco:=zcF zBR (by
 intro x a;simp only[qG,qN,or_false]at a;rcases a with rfl
 .exact zHA)
def zbbs:zbb:=[(215,znP),(286,zkB),(409,zlA),(411,zmL)]++zQM
def zfm:zN zbbs:=zh zzZ (zh zu8<|zh zwF<|zh zx2 zeS)
def zyO (N:Nat)(c:Cur)(d:Int):OA:=
 let e:=({ (zV c 5) with b:=c.b}:Cur);let a:=({ (zf e d) with b:=c.b}:Cur); (oN (zdo c 5)<|cond (zdH c 5) (oN zbO<|some [.agg [.s .u8 c.b,.i .i64 (zV c 5).i,.i .i64 (zV c 5).h],.agg [.i .i64 zbm.af,.i .i64 zbm.an]])<|oN (zC e d)<|oN (zbC a [3,3,3,1,2])<|some [.agg [.s .u8 c.b,.i .i64 (zbe a [3,3,3,1,2]).i,.i .i64 (zbe a [3,3,3,1,2]).h],.agg [.i .i64<|zx e d,.i .i64<|zbu a [3,3,3,1,2]]])
def zsb (c:Cur)(a:Int)(s:Cur)(d:k0):Prop:=(∃N,zyO N c a=some (AV.agg (zb5 s)::[aT .slot d]))/\(s.b=c.b/\0<=s.i)/\(0<a->a<=1000->I64 d.af)
def zk2 (c:Cur)(a:Int):Bool:=wC (zsb c a)
def zhV (c:Cur)(a:Int):Cur:=wS (zsb c a)
def zhd (c:Cur)(a:Int):k0:=wV (zsb c a)
def zze {c:Cur}{a:Int}(h:zk2 c a=true):zsb c a (zhV c a) (zhd c a):=wG h
def zJG (c:Cur)(a:Int):0<=(zhV c a).i:=wP λh=>h.2.1.2
def z2h (c:Cur)(a:Int)(h:∃N,Ends (wE (λd=>aT .slot d) c.b λd=>0<a->a<=1000->I64 d.af)<|zyO N c a):zk2 c a=true:=wI (λ_ _ h=>h) h
def zAl:zeD:=rP1 dI λc b=>(zk2 c b,zhV c b,[aT .slot<|zhd c b])
def zOt:zbU Tryz.prog 456 [false,true,true] zAl:=hP1 zfm zY zZN zn (zo []) (λ_ _ h=>(zze h).1)
def zP0 {c:Cur}(h:zbf c)(a:Int):zk2 c a=true:=by
 refine z2h c a ⟨0,?_⟩;unfold zyO oN;conv=>zeta
 have d:zbf {zV c 5 with b:=c.b}:=zbI h (zcx _ _);have g:zbf {zf {zV c 5 with b:=c.b} a with b:=c.b}:=zbI h (zG _ _);refine zB (zky h 5) (zbB (λ_=>zB rfl (zbF (aT .slot) (v:=⟨_,_⟩) (zcx _ _) λ_ _=>?_)) λ_=>zB (zbA d a) (zB (zfY g (by simp))<|zbF (aT .slot) (v:=⟨_,_⟩) (zb4 _ _) λe f=>?_));{exact⟨by decide,by decide⟩};{have:=zgs d e;exact⟨Int.le_trans (by decide) this.1,Int.le_trans (vO this.2) (by omega)⟩}
def zbcp:zdb:=[(456,[false,true,true],zAl)]++zbco
def zLY:zce zbcp:=zcF zZN (by
 intro x a;simp only[qG,qN,or_false]at a;rcases a with rfl
 .exact zOt)
def zAS (N:Nat)(c:Cur)(a:Int):OA:=
 let e:=({ (zhV c a) with b:=c.b}:Cur);let d:=({ (zf e 12) with b:=c.b}:Cur);let f:=zbe d [-1,-2,a,9223372036854775807,-9223372036854775808]; (oN (zk2 c a)<|oN (zC e 12)<|cond (ieq (zx e 12) 0) (oN (zbC d [-1,-2,a,9223372036854775807,-9223372036854775808])<|some [.agg [.s .u8 c.b,.i .i64 f.i,.i .i64 f.h],.agg [.i .i64<|zbu d [-1,-2,a,9223372036854775807,-9223372036854775808],.i .i64 (zhd c a).an]])<|cond (ieq (zx e 12) 1) (oN (zmO d)<|some [.agg [.s .u8 c.b,.i .i64 (zmP d).i,.i .i64 (zmP d).h],.agg [.i .i64 (zhd c a).af,.i .i64<|ztB d]])<|some [.agg [.s .u8 c.b,.i .i64 (zf e 12).i,.i .i64 (zf e 12).h],.agg [.i .i64 (zhd c a).af,.i .i64 (zhd c a).an]])
def ztC (c:Cur)(a:Int)(s:Cur)(d:k0):Prop:=(∃N,zAS N c a=some (AV.agg (zb5 s)::[aT .slot d]))/\(s.b=c.b/\0<=s.i)/\(0<a->a<=1000->I64 d.af)
def zr8 (c:Cur)(a:Int):Bool:=wC (ztC c a)
def zr9 (c:Cur)(a:Int):Cur:=wS (ztC c a)
def zL9 (c:Cur)(a:Int):k0:=wV (ztC c a)
def zPN {c:Cur}{a:Int}(h:zr8 c a=true):ztC c a (zr9 c a) (zL9 c a):=wG h
def z5y (c:Cur)(a:Int):0<=(zr9 c a).i:=wP λh=>h.2.1.2
def z5x (c:Cur)(a:Int)(h:∃N,Ends (wE (λd=>aT .slot d) c.b λd=>0<a->a<=1000->I64 d.af)<|zAS N c a):zr8 c a=true:=wI (λ_ _ h=>h) h
def zCX:zeD:=rP1 dI λc b=>(zr8 c b,zr9 c b,[aT .slot<|zL9 c b])
def zRT:zbU Tryz.prog 392 [false,true,true] zCX:=hP1 zfm zY zLY zn (zo []) (λ_ _ h=>(zPN h).1)
def zUl {c:Cur}(h:zbf c)(a:Int):zr8 c a=true:=by
 refine z5x c a ⟨0,?_⟩;unfold zAS oN;conv=>zeta
 have d:zbf {zhV c a with b:=c.b}:=zbI h (zJG _ _);have f:zbf {zf {zhV c a with b:=c.b} 12 with b:=c.b}:=zbI h (zG _ _);have g:=(zze<|zP0 h a).2.2;refine zB (zP0 h a) (zB (zbA d 12)<|zbB (λ_=>zB (zfY f (by simp)) (zbF (aT .slot) (v:=⟨zbu _ _,(zhd c a).an⟩) (zb4 _ _) λe i=>?_)) λ_=>zbB (λ_=>zB (zbau f) (zbF (aT .slot) (v:=⟨(zhd c a).af,ztB _⟩) (zWR _) λe d=>g e d)) λ_=>zbF (aT .slot) (v:=⟨(zhd c a).af,(zhd c a).an⟩) (zG _ _) λe d=>g e d);have j:=z3v f (l:=[-1,-2,a,9223372036854775807,-9223372036854775808]) (by simp);simp only[qG,qN,or_false]at j;unfold I64;dsimp only;omega
def zwf (N:Nat)(c:Cur)(g j:Int):OA:=
 (q0 (σ:=(Int×Int×Int×Int×Int×lS×LI×Unit)) N (λk a=>let b:=a.2.2.2.2;let e:=b.2.2.1;let d:=(⟨e,a.2.2.2.1,b.1⟩:Cur);let f:=ap b.2.1 [zhd d a.2.1]; (cond (ilt a.2.2.1 a.1) (oN (zk2 d a.2.1)<|oN (few<|ln f)<|k (a.1,a.2.1,zM .i64 a.2.2.1 1,(zhV d a.2.1).i,(zhV d a.2.1).h,f,e,()))<|some [.agg [.s .u8 e,.i .i64 a.2.2.2.1,.i .i64 b.1],aS .slot b.2.1])) (g,j,0,c.i,c.h,[],c.b,()))
def zTI:=zo [(391,0,{n:=22,tm:=[(0,.lp 0 0),(1,ti),(2,ti),(7,.sl 0 []),(8,ti)],lo:=[(0,[.sl 1 [],ti,ti])],ro:=[(0,.slot,true),(1,.u8,false)]})]
def zpY (c:Cur)(a:Int)(d:Int)(s:Cur)(e:List k0):Prop:=(∃N,zwf N c a d=some (AV.agg (zb5 s)::[aS .slot e]))/\(s.b=c.b/\0<=s.i)/\(0<=a->a<=1000->ln e=a/\(0<d->d<=1000->∀s∈e,I64 s.af))
def zj1 (c:Cur)(a:Int)(b:Int):Bool:=wC (zpY c a b)
def zK (c:Cur)(a:Int)(b:Int):Cur:=wS (zpY c a b)
def zeq (c:Cur)(a:Int)(b:Int):List k0:=wV (zpY c a b)
def zxc {c:Cur}{a:Int}{b:Int}(h:zj1 c a b=true):zpY c a b (zK c a b) (zeq c a b):=wG h
def zj2 (c:Cur)(a:Int)(b:Int):0<=(zK c a b).i:=wP λh=>h.2.1.2
def zZ6 (c:Cur)(a:Int)(d:Int)(h:∃N,Ends (wE (λe=>aS .slot e) c.b λe=>0<=a->a<=1000->ln e=a/\(0<d->d<=1000->∀s∈e,I64 s.af))<|zwf N c a d):zj1 c a d=true:=wI (λ_ _ h=>h) h
def zyd:zeD:=rP2 dI dI λc b d=>(zj1 c b d,zK c b d,[aS .slot<|zeq c b d])
def zLn:zbU Tryz.prog 391 [false,true,true] zyd:=hP2 zfm zY zLY zn zTI (λ_ _ _ h=>(zxc h).1)
def zAN {c:Cur}(h:zbf c){d:Int}(g:0<=d)(j:d<=1000)(a:Int):zj1 c d a=true:=by
 refine zZ6 c d a ⟨1002,?_⟩;unfold zwf oN;conv=>zeta
 exact zZw h (P:=λs=>0<a->a<=1000->I64 s.af) g j (fc:=λc=>zk2 c a) (fs:=λc=>zhV c a) (fv:=λc=>zhd c a) (R:=λs l=>AV.agg (zb5 s)::[aS .slot l]) (λh=>zP0 h a) (λc=>zJG c a) (λh=>(zze<|zP0 h a).2.2) (λs l m n p q=>⟨s,l,rfl,⟨m,n⟩,λ_ _=>⟨p,λe f s r=>q s r e f⟩⟩) ((λi t=>(d,a,(i:Int),t.1,t.2.1,t.2.2,c.b,())):Int->Int×Int×List k0->_) (λrec t i k l=>rfl)
def zbd1 {c:Cur}(h:zbf c){n m:Int}(a:0<=n)(b:n<=1000)(d:0<m)(e:m<=1000):ln (zeq c n m)=n/\∀s∈zeq c n m,I64 s.af:=by have g:=(zxc<|zAN h a b m).2.2 a b;exact⟨g.1,g.2 d e⟩
def zbcq:zdb:=[(392,[false,true,true],zCX),(391,[false,true,true],zyd)]++zbcp
def zLZ:zce zbcq:=zcF zLY (by
 intro x a;simp only[qG,qN,or_false]at a;rcases a with rfl|rfl
 .exact zRT
 .exact zLn)
def zqU (N:Nat)(c:Cur)(a d:Int):OA:=
 let g:=zeq c a d;let f:=({ (zK c a d) with b:=c.b}:Cur);let e:=({ (zf f 8) with b:=c.b}:Cur);let k:=zx e a;let j:=({ (zf e a) with b:=c.b}:Cur); (oN (zj1 c a d)<|oN (zC f 8)<|cond (ieq (zx f 8) 0) (oN (zC e a)<|oN (zr8 j d)<|oN (inb k<|ln g)<|p0 (up g k<|zL9 j d) λl=>some [.agg [.s .u8 c.b,.i .i64 (zr9 j d).i,.i .i64 (zr9 j d).h],aS .slot l])<|cond (ieq (zx f 8) 1) (oN (zC e a)<|oN (inr 0 k<|ln g)<|some [.agg [.s .u8 c.b,.i .i64 (zf e a).i,.i .i64 (zf e a).h],aS .slot<|tk g k])<|some [.agg [.s .u8 c.b,.i .i64 (zf f 8).i,.i .i64 (zf f 8).h],aS .slot g])
def zmv (c:Cur)(a:Int)(d:Int)(s:Cur)(e:List k0):Prop:=(∃N,zqU N c a d=some (AV.agg (zb5 s)::[aS .slot e]))/\(s.b=c.b/\0<=s.i)/\(0<a->a<=1000->ln e<=a/\(0<d->d<=1000->∀s∈e,I64 s.af))
def zg0 (c:Cur)(a:Int)(b:Int):Bool:=wC (zmv c a b)
def ziC (c:Cur)(a:Int)(b:Int):Cur:=wS (zmv c a b)
def zgq (c:Cur)(a:Int)(b:Int):List k0:=wV (zmv c a b)
def zr6 {c:Cur}{a:Int}{b:Int}(h:zg0 c a b=true):zmv c a b (ziC c a b) (zgq c a b):=wG h
def zr7 (c:Cur)(a:Int)(b:Int):0<=(ziC c a b).i:=wP λh=>h.2.1.2
def zPM (c:Cur)(a:Int)(d:Int)(h:∃N,Ends (wE (λe=>aS .slot e) c.b λe=>0<a->a<=1000->ln e<=a/\(0<d->d<=1000->∀s∈e,I64 s.af))<|zqU N c a d):zg0 c a d=true:=wI (λ_ _ h=>h) h
def zuj:zeD:=rP2 dI dI λc b d=>(zg0 c b d,ziC c b d,[aS .slot<|zgq c b d])
def zDN:zbU Tryz.prog 239 [false,true,true] zuj:=hP2 zfm zY zLZ zn (zo []) (λ_ _ _ h=>(zr6 h).1)
def zqZ {c:Cur}(h:zbf c){n:Int}(a:0<n)(j:n<=1000)(m:Int):zg0 c n m=true:=by
 refine zPM c n m ⟨0,?_⟩;unfold zqU oN;conv=>zeta
 have l:zbf {zK c n m with b:=c.b}:=zbI h (zj2 _ _ _);have i:zbf {zf {zK c n m with b:=c.b} 8 with b:=c.b}:=zbI h (zG _ _);have k:zbf {zf {zf {zK c n m with b:=c.b} 8 with b:=c.b} n with b:=c.b}:=zbI h (zG _ _);have g:=(zxc<|zAN h (vO a) j m).2.2 (vO a) j;generalize zeq c n m=T at g;refine zB (zAN h (vO a) j m) (zB (zbA l 8)<|zbB (λ_=>zB (zbA i n) (zB (zUl k m)<|zB (zxz i a (by omega))<|zlm<|zbF (aS .slot) (z5y _ _) λ_ _=>⟨by rw[z96];omega,λe f s d=>?_⟩)) λ_=>zbB (λ_=>zB (zbA i n) (zB (zEQ i a (by omega))<|zbF (aS .slot) (zG _ _) λ_ _=>⟨?_,λe f s d=>g.2 e f s (j8 d)⟩)) λ_=>zbF (aS .slot) (zG _ _) λ_ _=>⟨by omega,g.2⟩);{rcases jD d with d|rfl;{exact g.2 e f s d};{exact(zPN<|zUl k m).2.2 e f}};{have:=z95 T;exact Int.le_trans (this _) (by omega)}
def zyP (N:Nat)(c:Cur)  : OA :=
 (q0 (σ:=(Int×Int×Int×LI×LI×Unit)) N (λf a=>let d:=(⟨a.2.2.2.2.1,a.2.1,a.2.2.1⟩:Cur);let e:=ap a.2.2.2.1 [zx d 100]; (cond (ilt a.1 4) (oN (zC d 100)<|oN (few<|ln e)<|f (zM .i64 a.1 1,(zf d 100).i,(zf d 100).h,e,a.2.2.2.2.1,()))<|some [.agg [.s .u8 a.2.2.2.2.1,.i .i64 a.2.1,.i .i64 a.2.2.1],aS .int a.2.2.2.1])) (0,c.i,c.h,[],c.b,()))
def zW8:=zo [(393,0,{n:=16,tm:=[(0,.lp 0 0),(3,.sl 0 []),(4,ti)],lo:=[(0,[.sl 1 [],ti,ti])],ro:=[(0,.int,true),(1,.u8,false)]})]
def zsc (c:Cur)(s:Cur)(a:LI):Prop:=(∃N,zyP N c=some (AV.agg (zb5 s)::[aS .int a]))/\(s.b=c.b/\0<=s.i)/\(a.length=4)
def zk3 (c:Cur)  : Bool:=wC (zsc c)
def zgL (c:Cur)  : Cur:=wS (zsc c)
def zqM (c:Cur)  : LI:=wV (zsc c)
def zzf {c:Cur}(h:zk3 c=true):zsc c (zgL c) (zqM c):=wG h
def zJH (c:Cur)  : 0<=(zgL c).i:=wP λh=>h.2.1.2
def z2i (c:Cur)(h:∃N,Ends (wE (λa=>aS .int a) c.b λa=>a.length=4)<|zyP N c):zk3 c=true:=wI (λ_ _ h=>h) h
def zAm:zeD:=rP0 λc=>(zk3 c,zgL c,[aS .int<|zqM c])
def zOv:zbU Tryz.prog 393 [false,true,true] zAm:=hP0 zfm zY zLZ zn zW8 (λ_ h=>(zzf h).1)
def zPB {c:Cur}(h:zbf c):zk3 c=true:=by
 refine z2i c ⟨1002,?_⟩;unfold zyP oN;conv=>zeta
 exact zZw h (P:=λ_=>True) (m:=4) (by omega) (by omega) (fc:=λc=>zC c 100) (fs:=λc=>zf c 100) (fv:=λc=>zx c 100) (R:=λs l=>AV.agg (zb5 s)::[aS .int l]) (λh=>zbA h _) (λc=>zG c _) (λ_=>trivial) (λs l a d e f=>⟨s,l,rfl,⟨a,d⟩,by unfold ln at e;omega⟩) ((λi t=>((i:Int),t.1,t.2.1,t.2.2,c.b,())):Int->Int×Int×LI->_) (λrec t i k l=>rfl)
def zbcr:zdb:=[(239,[false,true,true],zuj),(393,[false,true,true],zAm)]++zbcq
def zL0:zce zbcr:=zcF zLZ (by
 intro x a;simp only[qG,qN,or_false]at a;rcases a with rfl|rfl
 .exact zDN
 .exact zOv)
def zAT (N:Nat)(c:Cur)(f:Int):OA:=
 (q0 (σ:=(Int×Int×Int×Int×lM×LI×Unit)) N (λg a=>let b:=a.2.2.2.2;let d:=(⟨b.2.1,a.2.2.1,a.2.2.2.1⟩:Cur);let e:=ap b.1 [zqM d]; (cond (ilt a.2.1 a.1) (oN (zk3 d)<|oN (few<|ln e)<|g (a.1,zM .i64 a.2.1 1,(zgL d).i,(zgL d).h,e,b.2.1,()))<|some [.agg [.s .u8 b.2.1,.i .i64 a.2.2.1,.i .i64 a.2.2.2.1],aS (.sl .int) b.1])) (f,0,c.i,c.h,[],c.b,()))
def z0W:=zo [(340,0,{n:=19,tm:=[(0,.lp 0 0),(1,ti),(5,.sl 0 []),(6,ti)],lo:=[(0,[.sl 1 [],ti,ti])],ro:=[(0,.sl .int,true),(1,.u8,false)]})]
def ztE (c:Cur)(a:Int)(s:Cur)(d:List LI):Prop:=(∃N,zAT N c a=some (AV.agg (zb5 s)::[aS (.sl .int) d]))/\(s.b=c.b/\0<=s.i)/\(0<=a->a<=1000->ln d=a/\∀r∈d,r.length=4)
def zi4 (c:Cur)(a:Int):Bool:=wC (ztE c a)
def zkL (c:Cur)(a:Int):Cur:=wS (ztE c a)
def ziO (c:Cur)(a0:Int):List LI:=wV (ztE c a0)
def zvO {c:Cur}{a0:Int}(h:zi4 c a0=true):ztE c a0 (zkL c a0) (ziO c a0):=wG h
def zPP (c:Cur)(a0:Int):0<=(zkL c a0).i:=wP λh=>h.2.1.2
def z5A (c:Cur)(a:Int)(h:∃N,Ends (wE (λd=>aS (.sl .int) d) c.b λd=>(0<=a->a<=1000->ln d=a/\∀r∈d,r.length=4))<|zAT N c a):zi4 c a=true:=wI (λ_ _ h=>h) h
def zCY:zeD:=rP1 dI λc b=>(zi4 c b,zkL c b,[aS (.sl .int)<|ziO c b])
def zz1:zbU Tryz.prog 340 [false,true,true] zCY:=hP1 zfm zY zL0 zn z0W (λ_ _ h=>(zvO h).1)
def zbcd {c:Cur}(h:zbf c){a0:Int}(a:0<=a0)(d:a0<=1000):zi4 c a0=true:=by
 refine z5A c a0 ⟨1002,?_⟩;unfold zAT oN;conv=>zeta
 exact zZw h (P:=λr=>r.length=4) a d (fc:=zk3) (fs:=zgL) (fv:=zqM) (R:=λs l=>AV.agg (zb5 s)::[aS (.sl .int) l]) zPB zJH (λh=>(zzf<|zPB h).2.2) (λs l e f g j=>⟨s,l,rfl,⟨e,f⟩,λ_ _=>⟨g,j⟩⟩) ((λi t=>(a0,(i:Int),t.1,t.2.1,t.2.2,c.b,())):Int->Int×Int×List LI->_) (λrec t i k l=>rfl)
def zwg (N:Nat)(c:Cur)  : OA :=
 let d:=zqM c;let e:=({ (zgL c) with b:=c.b}:Cur);let f:=zf e 6;let a:=({f with b:=c.b}:Cur);let g:=({ (zf a 4) with b:=c.b}:Cur); (oN (zk3 c)<|oN (zC e 6)<|cond (ieq (zx e 6) 0) (oN (zC a 4)<|oN (inr 0 (zx a 4)<|ln d)<|some [.agg [.s .u8 c.b,.i .i64 (zf a 4).i,.i .i64 (zf a 4).h],aS .int<|tk d<|zx a 4])<|cond (ieq (zx e 6) 1) (oN (zC a 4)<|oN (zbC g [-1,99,100])<|oN (inb (zx a 4)<|ln d)<|p0 (up d (zx a 4)<|zbu g [-1,99,100]) λj=>some [.agg [.s .u8 c.b,.i .i64 (zbe g [-1,99,100]).i,.i .i64 (zbe g [-1,99,100]).h],aS .int j])<|cond (ieq (zx e 6) 2) (oN (few<|ln<|ap d [1])<|some [.agg [.s .u8 c.b,.i .i64 f.i,.i .i64 f.h],aS .int<|ap d [1]])<|some [.agg [.s .u8 c.b,.i .i64 f.i,.i .i64 f.h],aS .int d])
def zpZ (c:Cur)(s:Cur)(a:LI):Prop:=(∃N,zwg N c=some (AV.agg (zb5 s)::[aS .int a]))/\(s.b=c.b/\0<=s.i)/\(a.length<=5)
def znX (c:Cur)  : Bool:=wC (zpZ c)
def znY (c:Cur)  : Cur:=wS (zpZ c)
def zvN (c:Cur)  : LI:=wV (zpZ c)
def zF6 {c:Cur}(h:znX c=true):zpZ c (znY c) (zvN c):=wG h
def zZ8 (c:Cur)  : 0<=(znY c).i:=wP λh=>h.2.1.2
def zZ7 (c:Cur)(h:∃N,Ends (wE (λa=>aS .int a) c.b λa=>a.length<=5)<|zwg N c):znX c=true:=wI (λ_ _ h=>h) h
def zye:zeD:=rP0 λc=>(znX c,znY c,[aS .int<|zvN c])
def zLo:zbU Tryz.prog 240 [false,true,true] zye:=hP0 zfm zY zL0 zn (zo []) (λ_ h=>(zF6 h).1)
def z2U {c:Cur}(h:zbf c):znX c=true:=by
 refine zZ7 c ⟨0,?_⟩;unfold zwg oN;conv=>zeta
 have e:zbf {zgL c with b:=c.b}:=zbI h (zJH _);have a:zbf {zf {zgL c with b:=c.b} 6 with b:=c.b}:=zbI h (zG _ _);have f:zbf {zf {zf {zgL c with b:=c.b} 6 with b:=c.b} 4 with b:=c.b}:=zbI h (zG _ _);have g:=(zzf<|zPB h).2.2;generalize zqM c=T at g;have d:ln T=4:=(by unfold ln;omega);refine zB (zPB h) (zB (zbA e 6)<|zbB (λ_=>zB (zbA a 4) (zB (zEQ a (by omega) (by omega))<|zbF (aS .int) (zG _ _)<|qT (zFM T _) (by omega))) λ_=>zbB (λ_=>zB (zbA a 4) (zB (zfY f (by simp))<|zB (zxz a (by omega) (by omega))<|zlm<|zbF (aS .int) (zb4 _ _) (by rw[zkw];omega))) λ_=>zbB (λ_=>zB (zkt (by rw[zhg];omega)) (zbF (aS .int) (zG _ _) ?_)) λ_=>zbF (aS .int) (zG _ _) (by omega));simp[ap];omega
def zbcs:zdb:=[(340,[false,true,true],zCY),(240,[false,true,true],zye)]++zbcr
def zZO:zce zbcs:=zcF zL0 (by
 intro x a;simp only[qG,qN,or_false]at a;rcases a with rfl|rfl
 .exact zz1
 .exact zLo)
def zuD (N:Nat)(c:Cur)  : OA :=
 let d:=({ (zhZ c) with b:=c.b}:Cur);let a:=({ (zf d 10) with b:=c.b}:Cur);let e:=zbe a [-1,0,12,15,16,99,100,9223372036854775807]; (oN (zmw c)<|oN (zC d 10)<|cond (ieq (zx d 10) 0) (oN (zC a 11)<|some [.agg [.s .u8 c.b,.i .i64 (zf a 11).i,.i .i64 (zf a 11).h],.agg [.i .i64<|wsub .i64 (zx a 11) 1,.i .i64 (zhA c).X]])<|cond (ieq (zx d 10) 1) (oN (zbC a [-1,0,12,15,16,99,100,9223372036854775807])<|some [.agg [.s .u8 c.b,.i .i64 e.i,.i .i64 e.h],.agg [.i .i64 (zhA c).Op,.i .i64<|zbu a [-1,0,12,15,16,99,100,9223372036854775807]]])<|some [.agg [.s .u8 c.b,.i .i64 (zf d 10).i,.i .i64 (zf d 10).h],.agg [.i .i64 (zhA c).Op,.i .i64 (zhA c).X]])
def zoS (c:Cur)(s:Cur)(a:Ins):Prop:=(∃N,zuD N c=some (AV.agg (zb5 s)::[aT .ins a]))/\(s.b=c.b/\0<=s.i)/\(True)
def zmS (c:Cur)  : Bool:=wC (zoS c)
def zmT (c:Cur)  : Cur:=wS (zoS c)
def zzg (c:Cur)  : Ins:=wV (zoS c)
def zWU {c:Cur}(h:zmS c=true):zoS c (zmT c) (zzg c):=wG h
def zWW (c:Cur)  : 0<=(zmT c).i:=wP λh=>h.2.1.2
def zWV (c:Cur)(h:∃N,Ends (wE (λa=>aT .ins a) c.b λa=>True)<|zuD N c):zmS c=true:=wI (λ_ _ h=>h) h
def zw0:zeD:=rP0 λc=>(zmS c,zmT c,[aT .ins<|zzg c])
def zHC:zbU Tryz.prog 448 [false,true,true] zw0:=hP0 zfm zY zZO zn (zo []) (λ_ h=>(zWU h).1)
def z8Y {c:Cur}(h:zbf c):zmS c=true:=by
 refine zWV c ⟨0,?_⟩;unfold zuD oN;conv=>zeta
 have d:zbf {zhZ c with b:=c.b}:=zbI h (zBZ _);have a:zbf {zf {zhZ c with b:=c.b} 10 with b:=c.b}:=zbI h (zG _ _);exact zB (zXk h) (zB (zbA d 10)<|zbB (λ_=>zB (zbA a 11) (zbF (aT .ins) (v:=⟨wsub .i64 _ 1,(zhA c).X⟩) (zG _ _) trivial)) λ_=>zbB (λ_=>zB (zfY a (by simp)) (zbF (aT .ins) (v:=⟨(zhA c).Op,zbu _ _⟩) (zb4 _ _) trivial)) λ_=>zbF (aT .ins) (v:=zhA c) (zG _ _) trivial)
def zbct:zdb:=[(448,[false,true,true],zw0)]++zbcs
def zBS:zce zbct:=zcF zZO (by
 intro x a;simp only[qG,qN,or_false]at a;rcases a with rfl
 .exact zHC)
def zsC (N:Nat)(c:Cur)  : OA :=
 let e:=zcr c;let g:=({ (zbh c) with b:=c.b}:Cur);let k:=zf g 8;let d:=({k with b:=c.b}:Cur); (oN (zjk c)<|oN (zC g 8)<|cond (ieq (zx g 8) 0) (oN (zmS d)<|oN (inb 0<|ln e)<|p0 (up e 0<|zzg d) λm=>some [.agg [.s .u8 c.b,.i .i64 (zmT d).i,.i .i64 (zmT d).h],aS .ins m])<|cond (ieq (zx g 8) 1) (q0 (σ:=(Int×Int×lI×LI×Unit)) N (λl a=>let j:=(⟨a.2.2.2.1,a.1,a.2.1⟩:Cur);let f:=({ (zf j 2) with b:=a.2.2.2.1}:Cur); (oN (zC j 2)<|cond (ilt (ln a.2.2.1)<|zM .i64 12<|zx j 2) (oN (zmw f)<|oN (few<|ln<|ap a.2.2.1 [zhA f])<|l ((zhZ f).i,(zhZ f).h,ap a.2.2.1 [zhA f],a.2.2.2.1,()))<|some [.agg [.s .u8 a.2.2.2.1,.i .i64 (zf j 2).i,.i .i64 (zf j 2).h],aS .ins a.2.2.1])) (k.i,k.h,e,c.b,()))<|cond (ieq (zx g 8) 2) (oN (zC d 2)<|oN (inr 0 (zx d 2)<|ln e)<|some [.agg [.s .u8 c.b,.i .i64 (zf d 2).i,.i .i64 (zf d 2).h],aS .ins<|tk e<|zx d 2])<|some [.agg [.s .u8 c.b,.i .i64 k.i,.i .i64 k.h],aS .ins e])
def zMl:=zo [(364,1,{n:=34,tm:=[(0,.lp 0 0),(3,.sl 0 [])],lo:=[(0,[.sl 1 [],ti,ti])],ro:=[(0,.ins,true),(1,.u8,false)]})]
def znp (c:Cur)(s:Cur)(a:List Ins):Prop:=(∃N,zsC N c=some (AV.agg (zb5 s)::[aS .ins a]))/\(s.b=c.b/\0<=s.i)/\(a.length<=13)
def zlM (c:Cur)  : Bool:=wC (znp c)
def zlN (c:Cur)  : Cur:=wS (znp c)
def zsd (c:Cur)  : List Ins:=wV (znp c)
def zAM {c:Cur}(h:zlM c=true):znp c (zlN c) (zsd c):=wG h
def zTm (c:Cur)  : 0<=(zlN c).i:=wP λh=>h.2.1.2
def zTl (c:Cur)(h:∃N,Ends (wE (λa=>aS .ins a) c.b λa=>a.length<=13)<|zsC N c):zlM c=true:=wI (λ_ _ h=>h) h
def zvb:zeD:=rP0 λc=>(zlM c,zlN c,[aS .ins<|zsd c])
def zFu:zbU Tryz.prog 364 [false,true,true] zvb:=hP0 zfm zY zBS zn zMl (λ_ h=>(zAM h).1)
def zUk {c:Cur}(h:zbf c):zlM c=true:=by
 refine zTl c ⟨1002,?_⟩;unfold zsC oN;conv=>zeta
 have B:zbf {zbh c with b:=c.b}:=zbI h (zk5 _);have q:zbf {zf {zbh c with b:=c.b} 8 with b:=c.b}:=zbI h (zG _ _);have g:=(ztH<|zFQ h).2.2;have p:=zL2 g;have j:1<=(zcr c).length:=(by unfold ze2 at g;cases d:(zcr c).all zj4 with|false=>rw[d] at g;cases g|true=>rw[d,cT] at g;have:=(zff.1 g).1;unfold ln at this;omega);generalize zcr c=T at p j;have y:1<=ln T/\ln T<=12:=(by unfold ln;omega);have e:(2:Int)<=ln T+1:=(by omega);refine zB (zFQ h) (zB (zbA B 8)<|zbB (λ_=>zB (z8Y q) (zB (qL (by omega))<|zlm<|zbF (aS .ins) (zWW _) (by rw[zkw];omega))) λ_=>zbB (λ_=>?_) λ_=>zbB (λ_=>zB (zbA q 2) (zB (zEQ q (n:=2) (by omega) e)<|zbF (aS .ins) (zG _ _)<|qT (zFM T _) (by omega))) λ_=>zbF (aS .ins) (zG _ _) (by omega));{refine zmH (λn s=>s.2.2.1.length+n=13/\0<=s.1/\s.2.2.2.1=c.b) ?_ 1002 (13-T.length) _ ⟨by dsimp only;omega,zG _ _,rfl⟩ (by omega);rintro n ⟨i,k,l,b,u⟩ rec ⟨v,r,t⟩ m;dsimp only at v r t ⊢;subst t;have a:zbf ⟨c.b,i,k⟩:=zbI h r;have A:=zgs a (n:=2) (by omega);have z:=zjC (x:=12) (by omega) (by omega) A.1 (by omega);have w:zbf {zf ⟨c.b,i,k⟩ 2 with b:=c.b}:=zbI h (zG _ _);refine zB (zbA a 2) (zbB (λd=>?_) λd=>?_);{have f:ln l<zM .i64 12 (zx ⟨c.b,i,k⟩ 2):=qD d;rw[z]at f;unfold ln at f;exact zB (zXk w) (zB (zkt (by rw[zhg];unfold ln;omega))<|m (n-1) _ (by omega) ⟨by simp[ap];omega,zBZ _,rfl⟩)};{exact zbF (aS .ins) (zG _ _) (by omega)}}
def zAV (N:Nat)(c:Cur)  : OA :=
 let a:=zc1 c;let e:=({ (zcI c) with b:=c.b}:Cur);let f:=zf e 8;let d:=({f with b:=c.b}:Cur);let g:=zbe d [-1,255,256,9223372036854775807]; (oN (zmx c)<|oN (zC e 8)<|cond (ieq (zx e 8) 0) (oN (zbC d [-1,2,3,4])<|some [.agg [.s .u8 c.b,.i .i64 (zbe d [-1,2,3,4]).i,.i .i64 (zbe d [-1,2,3,4]).h],.agg [.i .i64<|zbu d [-1,2,3,4],.i .i64 a.Post,.b a.Open]])<|cond (ieq (zx e 8) 1) (oN (zbC d [-1,255,256,9223372036854775807])<|some [.agg [.s .u8 c.b,.i .i64 g.i,.i .i64 g.h],.agg [.i .i64 a.aq,.i .i64<|zbu d [-1,255,256,9223372036854775807],.b a.Open]])<|cond (ieq (zx e 8) 2) (some [.agg [.s .u8 c.b,.i .i64 f.i,.i .i64 f.h],.agg [.i .i64 a.aq,.i .i64 a.Post,.b<|nB a.Open]])<|some [.agg [.s .u8 c.b,.i .i64 f.i,.i .i64 f.h],.agg [.i .i64 a.aq,.i .i64 a.Post,.b a.Open]])
def ztI (c:Cur)(s:Cur)(a:Ctl):Prop:=(∃N,zAV N c=some (AV.agg (zb5 s)::[.agg<|zo5 a]))/\(s.b=c.b/\0<=s.i)/\(True)
def zsf (c:Cur)  : Bool:=wC (ztI c)
def zsg (c:Cur)  : Cur:=wS (ztI c)
def zB0 (c:Cur)  : Ctl:=wV (ztI c)
def z5C {c:Cur}(h:zsf c=true):ztI c (zsg c) (zB0 c):=wG h
def z5E (c:Cur)  : 0<=(zsg c).i:=wP λh=>h.2.1.2
def z5D (c:Cur)(h:∃N,Ends (wE (λa=>.agg (zo5 a)) c.b λa=>True)<|zAV N c):zsf c=true:=wI (λ_ _ h=>h) h
def zC0:zeD:=rP0 λc=>(zsf c,zsg c,[.agg<|zo5<|zB0 c])
def zRY:zbU Tryz.prog 394 [false,true,true] zC0:=hP0 zfm zY zBS zn (zo []) (λ_ h=>(z5C h).1)
def z8X {c:Cur}(h:zbf c):zsf c=true:=by
 refine z5D c ⟨0,?_⟩;unfold zAV oN nB;conv=>zeta
 have d:zbf {zcI c with b:=c.b}:=zbI h (zB1 _);have a:zbf {zf {zcI c with b:=c.b} 8 with b:=c.b}:=zbI h (zG _ _);exact zB (z4e h) (zB (zbA d 8)<|zbB (λ_=>zB (zfY a (by simp)) (zbF (λx=>AV.agg (zo5 x)) (v:=⟨zbu _ _,(zc1 c).Post,(zc1 c).Open⟩) (zb4 _ _) trivial)) λ_=>zbB (λ_=>zB (zfY a (by simp)) (zbF (λx=>AV.agg (zo5 x)) (v:=⟨(zc1 c).aq,zbu _ _,(zc1 c).Open⟩) (zb4 _ _) trivial)) λ_=>zbB (λ_=>zbF (λx=>AV.agg (zo5 x)) (v:=⟨(zc1 c).aq,(zc1 c).Post,bif (zc1 c).Open then false else true⟩) (zG _ _) trivial) λ_=>zbF (λx=>AV.agg (zo5 x)) (v:=(zc1 c)) (zG _ _) trivial)
def zyR (N:Nat)(c:Cur)  : OA :=
 let f:=zf c 5;let d:=({f with b:=c.b}:Cur);let j:=zf d 100;let a:=zx d 100;let e:=({ (zf d 4) with b:=c.b}:Cur);let g:=zd8 (zx d 4)<|zdH e 2; (oN (zC c 5)<|cond (ieq (zx c 5) 0) (oN (zC d 4)<|oN (zdo e 2)<|oN (zfE (zx d 4)<|zdH e 2)<|some [.agg [.s .u8 c.b,.i .i64 (zV e 2).i,.i .i64 (zV e 2).h],.agg [.i .i64 g.Kind,.i .i64 g.af,.b g.Write,.i .i64 g.N]])<|cond (ieq (zx c 5) 1) (oN (zC d 100)<|oN (zfv a)<|some [.agg [.s .u8 c.b,.i .i64 j.i,.i .i64 j.h],.agg [.i .i64 (zfk a).Kind,.i .i64 (zfk a).af,.b (zfk a).Write,.i .i64 (zfk a).N]])<|cond (ieq (zx c 5) 2) (oN (zC d 100)<|oN (zfv a)<|some [.agg [.s .u8 c.b,.i .i64 j.i,.i .i64 j.h],.agg [.i .i64 (zgD a).Kind,.i .i64 (zgD a).af,.b (zgD a).Write,.i .i64 (zgD a).N]])<|cond (ieq (zx c 5) 3) (some [.agg [.s .u8 c.b,.i .i64 f.i,.i .i64 f.h],.agg [.i .i64 4,.i .i64 0,.b false,.i .i64 0]])<|some [.agg [.s .u8 c.b,.i .i64 f.i,.i .i64 f.h],.agg [.i .i64 0,.i .i64 0,.b false,.i .i64 0]])
def zsj (c:Cur)(s:Cur)(a:aD):Prop:=(∃N,zyR N c=some (AV.agg (zb5 s)::[.agg<|zgF a]))/\(s.b=c.b/\0<=s.i)/\(True)
def zk6 (c:Cur)  : Bool:=wC (zsj c)
def zgM (c:Cur)  : Cur:=wS (zsj c)
def zcB (c:Cur)  : aD:=wV (zsj c)
def z2k {c:Cur}(h:zk6 c=true):zsj c (zgM c) (zcB c):=wG h
def zzh (c:Cur)  : 0<=(zgM c).i:=wP λh=>h.2.1.2
def z2l (c:Cur)(h:∃N,Ends (wE (λa=>.agg (zgF a)) c.b λa=>True)<|zyR N c):zk6 c=true:=wI (λ_ _ h=>h) h
def zAo:zeD:=rP0 λc=>(zk6 c,zgM c,[.agg<|zgF<|zcB c])
def zOy:zbU Tryz.prog 435 [false,true,true] zAo:=hP0 zfm zY zBS zn (zo []) (λ_ h=>(z2k h).1)
def zYf {c:Cur}(h:zbf c):zk6 c=true:=by
 refine z2l c ⟨0,?_⟩;unfold zyR oN;conv=>zeta
 have a:zbf {zf c 5 with b:=c.b}:=zbI h (zG _ _);have d:zbf {zf {zf c 5 with b:=c.b} 4 with b:=c.b}:=zbI h (zG _ _);exact zB (zbA h 5) (zbB (λ_=>zB (zbA a 4) (zB (zky d 2) (zB rfl (zbF (λx=>AV.agg (zgF x)) (v:=zd8 _ _) (zcx _ _) trivial)))) λ_=>zbB (λ_=>zB (zbA a 100) (zB rfl (zbF (λx=>AV.agg (zgF x)) (v:=zfk _) (zG _ _) trivial))) λ_=>zbB (λ_=>zB (zbA a 100) (zB rfl (zbF (λx=>AV.agg (zgF x)) (v:=zgD _) (zG _ _) trivial))) λ_=>zbB (λ_=>zbF (λx=>AV.agg (zgF x)) (v:=⟨4,0,false,0⟩) (zG _ _) trivial) λ_=>zbF (λx=>AV.agg (zgF x)) (v:=⟨0,0,false,0⟩) (zG _ _) trivial)
def zbcu:zdb:=[(364,[false,true,true],zvb),(394,[false,true,true],zC0),(435,[false,true,true],zAo)]++zbct
def zsS:zce zbcu:=zcF zBS (by
 intro x a;simp only[qG,qN,or_false]at a;rcases a with rfl|rfl|rfl
 .exact zFu
 .exact zRY
 .exact zOy)
def zAX (N:Nat)(c:Cur)  : OA :=
 let a:=zcB c;let e:=({ (zgM c) with b:=c.b}:Cur);let d:=({ (zf e 8) with b:=c.b}:Cur); (oN (zk6 c)<|oN (zC e 8)<|cond (ieq (zx e 8) 0) (oN (zC d 7)<|some [.agg [.s .u8 c.b,.i .i64 (zf d 7).i,.i .i64 (zf d 7).h],.agg [.i .i64<|wsub .i64 (zx d 7) 1,.i .i64 a.af,.b a.Write,.i .i64 a.N]])<|cond (ieq (zx e 8) 1) (oN (zbC d [-1,3,4])<|some [.agg [.s .u8 c.b,.i .i64 (zbe d [-1,3,4]).i,.i .i64 (zbe d [-1,3,4]).h],.agg [.i .i64 a.Kind,.i .i64<|zbu d [-1,3,4],.b a.Write,.i .i64 a.N]])<|cond (ieq (zx e 8) 2) (oN (zbC d [-1,99,100])<|some [.agg [.s .u8 c.b,.i .i64 (zbe d [-1,99,100]).i,.i .i64 (zbe d [-1,99,100]).h],.agg [.i .i64 a.Kind,.i .i64 a.af,.b a.Write,.i .i64<|zbu d [-1,99,100]]])<|some [.agg [.s .u8 c.b,.i .i64 (zf e 8).i,.i .i64 (zf e 8).h],.agg [.i .i64 a.Kind,.i .i64 a.af,.b a.Write,.i .i64 a.N]])
def ztK (c:Cur)(s:Cur)(a:aD):Prop:=(∃N,zAX N c=some (AV.agg (zb5 s)::[.agg<|zgF a]))/\(s.b=c.b/\0<=s.i)/\(True)
def zsh (c:Cur)  : Bool:=wC (ztK c)
def zsi (c:Cur)  : Cur:=wS (ztK c)
def zB2 (c:Cur)  : aD:=wV (ztK c)
def z5H {c:Cur}(h:zsh c=true):ztK c (zsi c) (zB2 c):=wG h
def z5J (c:Cur)  : 0<=(zsi c).i:=wP λh=>h.2.1.2
def z5I (c:Cur)(h:∃N,Ends (wE (λa=>.agg (zgF a)) c.b λa=>True)<|zAX N c):zsh c=true:=wI (λ_ _ h=>h) h
def zC2:zeD:=rP0 λc=>(zsh c,zsi c,[.agg<|zgF<|zB2 c])
def zR0:zbU Tryz.prog 395 [false,true,true] zC2:=hP0 zfm zY zsS zn (zo []) (λ_ h=>(z5H h).1)
def z6q {c:Cur}(h:zbf c):zsh c=true:=by
 refine z5I c ⟨0,?_⟩;unfold zAX oN;conv=>zeta
 have d:zbf {zgM c with b:=c.b}:=zbI h (zzh _);have a:zbf {zf {zgM c with b:=c.b} 8 with b:=c.b}:=zbI h (zG _ _);exact zB (zYf h) (zB (zbA d 8)<|zbB (λ_=>zB (zbA a 7) (zbF (λx=>AV.agg (zgF x)) (v:=⟨wsub .i64 _ 1,(zcB c).af,(zcB c).Write,(zcB c).N⟩) (zG _ _) trivial)) λ_=>zbB (λ_=>zB (zfY a (by simp)) (zbF (λx=>AV.agg (zgF x)) (v:=⟨(zcB c).Kind,zbu _ _,(zcB c).Write,(zcB c).N⟩) (zb4 _ _) trivial)) λ_=>zbB (λ_=>zB (zfY a (by simp)) (zbF (λx=>AV.agg (zgF x)) (v:=⟨(zcB c).Kind,(zcB c).af,(zcB c).Write,zbu _ _⟩) (zb4 _ _) trivial)) λ_=>zbF (λx=>AV.agg (zgF x)) (v:=(zcB c)) (zG _ _) trivial)
def zyS (N:Nat)(c:Cur)  : OA :=
 let a:=({ (zf c 256) with b:=c.b}:Cur);let d:=({ (zf a 256) with b:=c.b}:Cur);let e:=zbe d [0,1,128,255,zx c 256,zx a 256,-1,256,9223372036854775807]; (oN (zC c 256)<|oN (zC a 256)<|oN (zbC d [0,1,128,255,zx c 256,zx a 256,-1,256,9223372036854775807])<|some [.agg [.s .u8 c.b,.i .i64 e.i,.i .i64 e.h],aI<|zbu d [0,1,128,255,zx c 256,zx a 256,-1,256,9223372036854775807]])
def zsk (c:Cur)(s:Cur)(a:Int):Prop:=(∃N,zyS N c=some (AV.agg (zb5 s)::[aI a]))/\(s.b=c.b/\0<=s.i)/\(True)
def zm1 (c:Cur)  : Bool:=wC (zsk c)
def zk7 (c:Cur)  : Cur:=wS (zsk c)
def zqN (c:Cur)  : Int:=wV (zsk c)
def z2m {c:Cur}(h:zm1 c=true):zsk c (zk7 c) (zqN c):=wG h
def zJI (c:Cur)  : 0<=(zk7 c).i:=wP λh=>h.2.1.2
def z2o (c:Cur)(h:∃N,Ends (wE (λa=>aI a) c.b λa=>True)<|zyS N c):zm1 c=true:=wI (λ_ _ h=>h) h
def zAp:zeD:=rP0 λc=>(zm1 c,zk7 c,[aI<|zqN c])
def zOz:zbU Tryz.prog 339 [false,true,true] zAp:=hP0 zfm zY zsS zn (zo []) (λ_ h=>(z2m h).1)
def z8g {c:Cur}(h:zbf c):zm1 c=true:=by
 refine z2o c ⟨0,?_⟩;unfold zyS oN;conv=>zeta
 have a:zbf {zf c 256 with b:=c.b}:=zbI h (zG _ _);have d:zbf {zf {zf c 256 with b:=c.b} 256 with b:=c.b}:=zbI h (zG _ _);exact zB (zbA h 256) (zB (zbA a 256)<|zB (zfY d (by simp))<|zbF aI (zb4 _ _) trivial)
def zwi (N:Nat)(c:Cur)  : OA :=
 let a:=zbe c [0,1,2,3,0,1,-1,4,9223372036854775807]; (oN (zbC c [0,1,2,3,0,1,-1,4,9223372036854775807])<|some [.agg [.s .u8 c.b,.i .i64 a.i,.i .i64 a.h],aI<|zbu c [0,1,2,3,0,1,-1,4,9223372036854775807]])
def zp1 (c:Cur)(s:Cur)(a:Int):Prop:=(∃N,zwi N c=some (AV.agg (zb5 s)::[aI a]))/\(s.b=c.b/\0<=s.i)/\(True)
def znZ (c:Cur)  : Bool:=wC (zp1 c)
def zn0 (c:Cur)  : Cur:=wS (zp1 c)
def zvP (c:Cur)  : Int:=wV (zp1 c)
def z0b {c:Cur}(h:znZ c=true):zp1 c (zn0 c) (zvP c):=wG h
def z0d (c:Cur)  : 0<=(zn0 c).i:=wP λh=>h.2.1.2
def z0c (c:Cur)(h:∃N,Ends (wE (λa=>aI a) c.b λa=>True)<|zwi N c):znZ c=true:=wI (λ_ _ h=>h) h
def zyg:zeD:=rP0 λc=>(znZ c,zn0 c,[aI<|zvP c])
def zLq:zbU Tryz.prog 242 [false,true,true] zyg:=hP0 zfm zY zsS zn (zo []) (λ_ h=>(z0b h).1)
def zbd4 {c:Cur}(h:zbf c):znZ c=true:=by
 refine z0c c ⟨0,?_⟩;unfold zwi oN;conv=>zeta
 exact zB (zfY h (by simp)) (zbF aI (zb4 _ _) trivial)
def z1c (N:Nat)(c:Cur)  : OA :=
 let a:=zbe c [0,1,2,3,3,4,7,8,-1,9223372036854775807,-9223372036854775808]; (oN (zbC c [0,1,2,3,3,4,7,8,-1,9223372036854775807,-9223372036854775808])<|some [.agg [.s .u8 c.b,.i .i64 a.i,.i .i64 a.h],aI<|zbu c [0,1,2,3,3,4,7,8,-1,9223372036854775807,-9223372036854775808]])
def zsa (c:Cur)(s:Cur)(a:Int):Prop:=(∃N,z1c N c=some (AV.agg (zb5 s)::[aI a]))/\(s.b=c.b/\0<=s.i)/\(True)
def zJE (c:Cur)  : Bool:=wC (zsa c)
def zJF (c:Cur)  : Cur:=wS (zsa c)
def zU3 (c:Cur)  : Int:=wV (zsa c)
def z2g {c:Cur}(h:zJE c=true):zsa c (zJF c) (zU3 c):=wG h
def zAk:zeD:=rP0 λc=>(zJE c,zJF c,[aI<|zU3 c])
def zOs:zbU Tryz.prog 355 [false,true,true] zAk:=hP0 zfm zY zsS zn (zo []) (λ_ h=>(z2g h).1)
def zwh (N:Nat)(c:Cur)  : OA :=
 let e:=({ (zf c 3) with b:=c.b}:Cur);let d:=({ (zf e 4) with b:=c.b}:Cur);let a:=({ (zf d 6) with b:=c.b}:Cur); (oN (zC c 3)<|oN (zC e 4)<|oN (zC d 6)<|oN (zC a 3)<|some [.agg [.s .u8 c.b,.i .i64 (zf a 3).i,.i .i64 (zf a 3).h],.agg [.i .i64<|zM .i64 1<|zx c 3,.i .i64<|zx e 4,.i .i64<|zx d 6,.i .i64<|zM .i64 1<|zx a 3]])
def zp0 (c:Cur)(s:Cur)(a:au):Prop:=(∃N,zwh N c=some (AV.agg (zb5 s)::[aT .entry a]))/\(s.b=c.b/\0<=s.i)/\(True)
def zj3 (c:Cur)  : Bool:=wC (zp0 c)
def zim (c:Cur)  : Cur:=wS (zp0 c)
def zoR (c:Cur)  : au:=wV (zp0 c)
def zZ9 {c:Cur}(h:zj3 c=true):zp0 c (zim c) (zoR c):=wG h
def zxd (c:Cur)  : 0<=(zim c).i:=wP λh=>h.2.1.2
def z0a (c:Cur)(h:∃N,Ends (wE (λa=>aT .entry a) c.b λa=>True)<|zwh N c):zj3 c=true:=wI (λ_ _ h=>h) h
def zyf:zeD:=rP0 λc=>(zj3 c,zim c,[aT .entry<|zoR c])
def zLp:zbU Tryz.prog 202 [false,true,true] zyf:=hP0 zfm zY zsS zn (zo []) (λ_ h=>(zZ9 h).1)
def zQQ {c:Cur}(h:zbf c):zj3 c=true:=by
 refine z0a c ⟨0,?_⟩;unfold zwh oN;conv=>zeta
 have a:zbf {zf c 3 with b:=c.b}:=zbI h (zG _ _);have d:zbf {zf {zf c 3 with b:=c.b} 4 with b:=c.b}:=zbI h (zG _ _);have e:zbf {zf {zf {zf c 3 with b:=c.b} 4 with b:=c.b} 6 with b:=c.b}:=zbI h (zG _ _);exact zB (zbA h 3) (zB (zbA a 4)<|zB (zbA d 6)<|zB (zbA e 3)<|zbF (aT .entry) (v:=⟨_,_,_,_⟩) (zG _ _) trivial)
def zbcv:zdb:=[(395,[false,true,true],zC2),(339,[false,true,true],zAp),(242,[false,true,true],zyg),(355,[false,true,true],zAk),(202,[false,true,true],zyf)]++zbcu
def zbap:zce zbcv:=zcF zsS (by
 intro x a;simp only[qG,qN,or_false]at a;rcases a with rfl|rfl|rfl|rfl|rfl
 .exact zR0
 .exact zOz
 .exact zLq
 .exact zOs
 .exact zLp)
end
end Go.Proofs.YtapgkefgcbapcaaGreat.E
