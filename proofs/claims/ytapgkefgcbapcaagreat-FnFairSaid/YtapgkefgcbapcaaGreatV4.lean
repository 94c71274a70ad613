/- What is proved here: a part of the proof of the claim. -/
import Derived.Test.YtapgkefgcbapcaaGreatV3
namespace Go.Proofs.YtapgkefgcbapcaaGreat.E
open Go
set_option linter.defProp false
set_option linter.constructorNameAsVariable false
set_option linter.unusedVariables false
set_option maxRecDepth 100000
set_option linter.unusedSimpArgs false
set_option linter.unusedSectionVars false
noncomputable section
def C0:k0:=⟨-1,0⟩
def zbR:Bool:=true
abbrev zbm:k0:=C0
def zmV:Run:=rF0 (zbR,[aT .slot zbm])
def z3x (N:Nat)  : OA :=
 (some [.agg [.i .i64<|-1,.i .i64 0]])
def zFs  (a:zbE big []) (b:zbR=true):∃N,z3x N  = some [aT .slot zbm]:=by exact⟨0,rfl⟩
def zzw:vU 215 zmV:=hF0 zrP zU zu zl (zq []) zFs
def zQx:vU 210 zmV:=hF0 zrP zU zu zl (zq []) zFs
def zQN:vU 168 zsQ:=hF3 zrP zU zu zl (zq []) zIN
def zbbn:zZ:=[(215,zmV),(210,zmV),(168,zsQ)]++z9F
def zJE:zS zbbn:=zh zzw (zh zQx<|zh zQN zrP)
def zd9 (r:Int):Bool:=ige r 0&&ile r 3
def zkU (_:Int):Bool:=true
abbrev zht (r:Int):Bool:=zd9 r
def znI:Run:=rF1 dI λb=>(zkU b,[aB<|zht b])
def zWD (N:Nat)(a:Int):OA:=
 (oN (zO a 0 3)<|some [aB<|zk a 0 3])
def zzI (a:Int)(b:zbE big [aI a])(c:zkU a=true):∃N,zWD N a=some [aB<|zht a]:=by exact⟨0,rfl⟩
def zKx:vU 185 znI:=hF1 zJE zU zu zl (zq []) zzI
def zJ6:vU 381 znI:=hF1 zJE zU zu zl (zq []) zzI
def zbbo:zZ:=[(185,znI),(381,znI)]++zbbn
def zo4:zS zbbo:=zh zKx (zh zJ6 zJE)
def zeT (a b:Int):Int:=bif zd9 a then (cond (zd9 b) (wand .i64 a b) 0) else 0
abbrev zhI (a b:Int):Int:=zeT a b
def zlr:Run:=rF2 dI dI λb c=>(zbH b c,[aI<|zhI b c])
def zzb (N:Nat)(a b:Int):OA:=
 (oN (zkU a)<|cond (nB<|zht a) (some [aI 0])<|oN (zkU b)<|cond (nB<|zht b) (some [aI 0])<|some [aI<|wand .i64 a b])
def zv3 (a b:Int)(c:zbE big [aI a,aI b])(d:zbH a b=true):∃N,zzb N a b=some [aI<|zhI a b]:=by refine⟨0,?_⟩;unfold zzb zhI zeT zht oN nB;cases zd9 a<;>cases zd9 b<;>rfl
def zE6:vU 386 zlr:=hF2 zo4 zU zu zl (zq []) zv3
def zEZ:vU 385 zlr:=hF2 zo4 zU zu zl (zq []) zv3
def enough (a b:Int):Bool:=bif zd9 a then (cond (zd9 b) (ieq (wand .i64 a b) b) false) else false
abbrev zda (a b:Int):Bool:=enough a b
def zqw:Run:=rF2 dI dI λb c=>(zbH b c,[aB<|zda b c])
def zL4 (N:Nat)(b a:Int):OA:=
 (oN (zkU b)<|cond (zht b) (oN (zkU a)<|cond (zht a) (some [aB<|ieq (wand .i64 b a) a]) oF) oF)
def zFp (a b:Int)(c:zbE big [aI a,aI b])(d:zbH a b=true):∃N,zL4 N a b=some [aB<|zda a b]:=by refine⟨0,?_⟩;unfold zL4 zda enough zht oN;cases zd9 a<;>cases zd9 b<;>rfl
def zQQ:vU 64 zqw:=hF2 zo4 zU zu zl (zq []) zFp
def zQp:vU 212 zqw:=hF2 zo4 zU zu zl (zq []) zFp
def zbK (t:List k0)(p:Int):k0:=bif j0 p (ln t) then ix t p zba else C0
def zgE (_:List k0)(_:Int):Bool:=true
abbrev zfd (t:List k0)(p:Int):k0:=zbK t p
def zqH:Run:=rF2 (dS .slot) dI λb c=>(zgE b c,[aT .slot<|zfd b c])
def zMk (N:Nat)(a:lS)(b:Int):OA:=
 (oN (zO b 0<|wsub .i64 (ln a) 1)<|cond (nB<|zk b 0<|wsub .i64 (ln a) 1) (oN zbR<|some [.agg [.i .i64 zbm.af,.i .i64 zbm.aj]])<|oN (inb b<|ln a)<|some [.agg [.i .i64 (ix a b zba).af,.i .i64 (ix a b zba).aj]])
def zYy (b:List k0)(a:Int)(c:zbE big [aS .slot b,aI a])(g:zgE b a=true):∃N,zMk N b a=some [aT .slot<|zfd b a]:=by have f:=len0 c;refine⟨0,?_⟩;unfold zMk zfd zbK oN nB;have e:zk a 0 (wsub .i64 (ln b) 1)=j0 a (ln b):=zBx f a;rw[e];cases d:j0 a (ln b);{rfl};{rw [zF d];rfl}
def zQ4:vU 173 zqH:=hF2 zo4 zU zu zl (zq []) zYy
def zLV (N:Nat)(a:lS)(b:Int):OA:=
 (oN (zbH b<|ln a)<|cond (nB<|zdG b<|ln a) (oN zbR<|some [.agg [.i .i64 zbm.af,.i .i64 zbm.aj]])<|oN (inb b<|ln a)<|some [.agg [.i .i64 (ix a b zba).af,.i .i64 (ix a b zba).aj]])
def zYd (a:List k0)(b:Int)(d:zgE a b=true):∃N,zLV N a b=some [aT .slot<|zfd a b]:=by refine⟨0,?_⟩;unfold zLV zfd zbK zdG oN nB;cases c:j0 b (ln a);{rfl};{rw [zF c];rfl}
def zQF:vU 171 zqH:=kF2 zo4 zU zu zl (zq []) zYd
def zbbp:zZ:=[(386,zlr),(385,zlr),(64,zqw),(212,zqw),(173,zqH),(171,zqH)]++zbbo
def zJF:zS zbbp:=zh zE6 (zh zEZ<|zh zQQ<|zh zQp<|zh zQ4<|zh zQF zo4)
def zdr (a b:k0):Bool:=ieq a.af b.af&&ieq a.aj b.aj
def below' (a b:k0):Bool:=bif zdr a C0 then true else (cond (ieq a.af b.af) (enough b.aj a.aj) false)
def zbI (s:k0)(a:List k0):k0 :=
 bif ieq s.af (-1) then C0 else (cond (ieq (zbK a s.af).af<|-1) C0<|cond (ieq (zeT s.aj (zbK a s.af).aj) 0) C0 ⟨(zbK a s.af).af,zeT s.aj (zbK a s.af).aj⟩)
def zhV (_:k0)(_:List k0):Bool:=true
def zlK (s:k0)(a:List k0):k0:=zbI s a
def zkr:Run:=rF2 (dT .slot) (dS .slot) λb c=>(zhV b c,[aT .slot<|zlK b c])
def zwM (N:Nat)(a:k0)(c:lS):OA:=
 let b:=zfd c a.af; (oN (zgE c a.af)<|oN (zbH a.aj b.aj)<|cond (ieq a.af<|-1) (oN zbR<|some [.agg [.i .i64 zbm.af,.i .i64 zbm.aj]])<|cond (ieq b.af<|-1) (oN zbR<|some [.agg [.i .i64 zbm.af,.i .i64 zbm.aj]])<|cond (ieq (zhI a.aj b.aj) 0) (oN zbR<|some [.agg [.i .i64 zbm.af,.i .i64 zbm.aj]])<|some [.agg [.i .i64 b.af,.i .i64<|zhI a.aj b.aj]])
def zuD (a:k0)(b:List k0)(c:zbE big [aT .slot a,aS .slot b])(d:zhV a b=true):∃N,zwM N a b=some [aT .slot<|zlK a b]:=by
 refine⟨0,?_⟩;unfold zwM zlK zbI zfd zhI oN;conv=>zeta
 cases ieq a.af (-1)<;>cases ieq (zbK b a.af).af (-1)<;>cases ieq (zeT a.aj (zbK b a.af).aj) 0<;>rfl
def zDy:vU 229 zkr:=hF2 zJF zU zu zl (zq []) zuD
def zDv:vU 225 zkr:=hF2 zJF zU zu zl (zq []) zuD
def zef (x:Int):Int:=bif (ige x 1&&ile x 6) then z0x .i64 (wsub .i64 x 1) 2 else -1
def zfj (x:Int):Int:=bif (ige x 1&&ile x 6) then zn9 (wsub .i64 x 1) 2 else -1
def zbbq:zZ:=[(229,zkr),(225,zkr)]++zbbp
def z9r:zS zbbq:=zh zDy (zh zDv zJF)
def zbdJ {a b:Type}{l:List a}{m:List b}(h:ine (ln l) (ln m)=false):l.length=m.length:=by have:(ln l==ln m)=true:=(by simpa [ine,bne] using h);have:=eq_of_beq this;simp only[ln] at this;omega
def zbbr:zZ:=zbbq
def z9s:zS zbbr:=z9r
def zdw (h:ad)(e:ar):Bool :=
 bif j0 (zef e.Tag) (ln h.aa) then (bif j0 (zfj e.Tag) (ln (ix h.aa (zef e.Tag) zi).ac) then
  below' ⟨e.ad,e.aj⟩ (zbI (zbK (ix (ix h.aa (zef e.Tag) zi).ac (zfj e.Tag) zy).av e.af) (ix h.aa (zef e.Tag) zi).ae) else false) else false
def zbbs:zZ:=zbbr
def z9t:zS zbbs:=z9s
def ctrW:zZ:=zbbs
def zP7:∀f a,zx ctrW f=some a->Holds Tryz.prog f a:=z9t
def hE (h:ad):(⟨h.ag,h.aa,h.ao,h.ak⟩:ad)=h:=rfl
def idxs {a:Type}(p:a->Bool):List a->Nat->LI
 |[],_=>[]
 |x::l,i=>bif p x then (i:Int)::idxs p l (i+1) else idxs p l (i+1)
def zBu {a:Type}(p:a->Bool):∀(l:List a) (i:Nat),(idxs p l i).length<=l.length
 |[],_=>qW _
 |x::l,i=>by have:=zBu p l (i+1);simp only[idxs];cases p x<;>simp<;>omega
def zvR {b c:Type}(p:b->Bool)(K:LI->Option c):∀(l:List b) (i:Nat) (a:LI),a.length+l.length<=2147483648->
 goL (λi x a k=>bif p x then (cond (few<|ln<|ap a [(i:Int)]) (k<|ap a [(i:Int)]) none) else k a) K l i a=K (a++idxs p l i)
 |[],i,a,_=>by simp[goL,idxs]
 |x::l,i,a,h=>by simp only[qU]at h;simp only[goL,idxs];cases p x;{simp only [cF];exact zvR p K l (i+1) a (by omega)};{simp only [cT];rw[zgv (by simp[ap];omega),cT,zvR p K l (i+1) _ (by simp[ap];omega)];simp[ap]}
def zyx (p:Nat->Bool):Nat->Nat->LI
 | 0,_=>[]
 |n+1,i=>bif p i then (i:Int)::zyx p n (i+1) else zyx p n (i+1)
def zBi {b:Type}(p:Nat->Bool)(K:LI->Option b):∀(n i:Nat) (a:LI),a.length+n<=2147483648->
 goN (λi a k=>bif p i then (cond (few<|ln<|ap a [(i:Int)]) (k<|ap a [(i:Int)]) none) else k a) K n i a=K (a++zyx p n i)
 | 0,i,a,_=>by simp[goN,zyx]
 |n+1,i,a,h=>by simp only[goN,zyx];cases p i;{simp only [cF];exact zBi p K n (i+1) a (by omega)};{simp only [cT];rw[zgv (by simp[ap];omega),cT,zBi p K n (i+1) _ (by simp[ap];omega)];simp[ap]}
abbrev zq7 (l:List k0)(_:Int):Bool:=pc (l.length<=2147483648)
abbrev zhd (l:List k0)(p:Int):LI:=idxs (λ(s:k0)=>ieq s.af p) l 0
def zqJ:Run:=rF2 (dS .slot) dI λb c=>(zq7 b c,[aS .int<|zhd b c])
def zMo (N:Nat)(c:lS)(d:Int):OA:=
 (r0 (σ:=(Int×Int×lS×LI×Unit)) N (λb a=>cond (ilt a.2.1<|ln a.2.2.1) (oN (inb a.2.1<|ln a.2.2.1)<|cond (ieq (ix a.2.2.1 a.2.1 zba).af a.1) (oN (few<|ln<|ap a.2.2.2.1 [a.2.1])<|b (a.1,zI .i64 a.2.1 1,a.2.2.1,ap a.2.2.2.1 [a.2.1],()))<|b (a.1,zI .i64 a.2.1 1,a.2.2.1,a.2.2.2.1,()))<|some [aS .int a.2.2.2.1]) (d,0,c,[],()))
def z0k:=zq [(469,0,{n:=26,tm:=[(0,.sl 0 []),(1,ti),(5,.sl 1 []),(6,ti)],lo:=[],ro:=[(0,.slot,false),(1,.int,true)]})]
def zYB (b:List k0)(a:Int)(g:zbE big [aS .slot b,aI a])(h:zq7 b a=true):∃N,zMo N b a=some [aS .int<|zhd b a]:=by have e:=len0 g;have j:=zM.1 h;refine zb2 λN d=>?_;unfold zMo oN;refine(zbl b (λi (t:LI)=>(a,(i:Int),b,t,())) _ (λi (x:k0) (t:LI) f=>bif ieq x.af a then (cond (few<|ln<|ap t [(i:Int)]) (f<|ap t [(i:Int)]) none) else f t) (λ(t:LI)=>some [.one<|.s .int t]) (λi c t rec=>?_) (λt rec=>?_) _ ([])<|d e).trans ?_;{simp only [zbo c,zX c,zbh c,zY c e,cT]};{simp only [zbj,cF]};exact zvR (λ(s:k0)=>ieq s.af a) _ _ 0 [] (by simpa using j)
def zQ8:vU 469 zqJ:=hF2 zP7 zU zu zl z0k zYB
def zLY (N:Nat)(d:lS)(f:Int):OA:=
 (r0 (σ:=(Int×Int×Int×LI×lS×Unit)) N (λe a=>let c:=a.2.2.2.2.1;let b:=a.2.2.1; (cond (ilt b a.2.1) (oN (inb b<|ln c)<|cond (ieq (ix c b zba).af a.1) (oN (few<|ln<|ap a.2.2.2.1 [b])<|e (a.1,a.2.1,zI .i64 b 1,ap a.2.2.2.1 [b],c,()))<|e (a.1,a.2.1,zI .i64 b 1,a.2.2.2.1,c,()))<|some [aS .int a.2.2.2.1])) (f,ln d,0,[],d,()))
def zZ9:=zq [(466,0,{n:=26,tm:=[(1,ti),(5,.sl 0 []),(9,.sl 1 []),(10,ti),(11,ti)],lo:=[],ro:=[(0,.int,true),(1,.slot,false)]})]
def zYg (a:List k0)(b:Int)(g:zbE big [aS .slot a,aI b])(h:zq7 a b=true):∃N,zLY N a b=some [aS .int<|zhd a b]:=by
 have e:=len0 g;have j:=zM.1 h;refine zb2 λN d=>?_;unfold zLY oN;conv=>zeta
 refine(zbl a (λi (t:LI)=>(b,ln a,(i:Int),t,a,())) _ (λi (x:k0) (t:LI) f=>bif ieq x.af b then (cond (few<|ln<|ap t [(i:Int)]) (f<|ap t [(i:Int)]) none) else f t) (λ(t:LI)=>some [.one<|.s .int t]) (λi c t rec=>?_) (λt rec=>?_) _ ([])<|d e).trans ?_;{simp only [zbo c,zX c,zbh c,zY c e,cT]};{simp only [zbj,cF]};exact zvR (λ(s:k0)=>ieq s.af b) _ _ 0 [] (by simpa using j)
def zQJ:vU 466 zqJ:=hF2 zP7 zU zu zl zZ9 zYg
def zbbt:zZ:=[(469,zqJ),(466,zqJ)]++ctrW
def z9u:zS zbbt:=zh zQ8 (zh zQJ zP7)
def zbbu:zZ:=zbbt
def z9v:zS zbbu:=z9u
def zbbv:zZ:=zbbu
def zJG:zS zbbv:=z9v
def all2 {a:Type}(b:a->a->Bool):List a->List a->Bool
 |[],[]=>true
 |x::l,y::m=>b x y&&all2 b l m
 |_,_=>false
def zWJ {a:Type}(b:a->a->Bool):∀(l m:List a),l.length≠m.length->all2 b l m=false
 |[],[],h=>absurd rfl h
 |[],_::_,_=>rfl
 |_::_,[],_=>rfl
 |x::l,y::m,h=>by simp only[all2,zWJ b l m (by simpa using h),Bool.and_false]
def zXA {c g:Type}(e:c->c->Bool)(d:c)(b:List c)(r:Option g)(K:Unit->Option g):∀(a:List c) (i:Nat),a.length+i=b.length->
 goL (λi x (_:Unit) k=>bif e x (ix b (i:Int) d) then k () else r) K a i ()=bif all2 e a (b.drop i) then K () else r
 |[],i,h=>by have:b.drop i=[]:=u4 (by simp at h;omega);rw[this];rfl
 |x::a,i,h=>by simp only[qU]at h;have f:i<b.length:=(by omega);rw[kD f];simp only[goL,all2,zbh f];cases e x b[i];{rfl};{simp only [cT,uP];exact zXA e d b r K a (i+1) (by omega)}
def zbeW {a b:Type}{l:List a}{m:List b}(h:ine (ln l) (ln m)=true):l.length≠m.length:=by intro e;simp only[ine,ln,e,bne_self_eq_false]at h;cases h
def zl1 (x y:Int):ine x y = !ieq x y:=rfl
def eqI (a b:LI):Bool:=all2 ieq a b
def zc7 (_ _:LI):Bool:=true
def zjT (a b:LI):Bool:=eqI a b
def zuh:Run:=rF2 (dS .int) (dS .int) λb c=>(zc7 b c,[aB<|zjT b c])
def zsp (N:Nat)(b c:LI):OA:=
 (cond (ine (ln b)<|ln c) oF<|r0 (σ:=(Int×LI×LI×Unit)) N (λd a=>cond (ilt a.1<|ln a.2.1) (oN (inb a.1<|ln a.2.1)<|oN (inb a.1<|ln a.2.2.1)<|cond (ine (ix a.2.1 a.1 0)<|ix a.2.2.1 a.1 0) oF<|d (zI .i64 a.1 1,a.2.1,a.2.2.1,())) oT) (0,b,c,()))
def zV6:=zq [(297,0,{n:=26,tm:=[(0,.sl 0 []),(1,.sl 1 []),(5,ti)],lo:=[],ro:=[(0,.int,false),(1,.int,false)]})]
def zVy (c a:LI)(j:zbE big [aS .int c,aS .int a])(m:zc7 c a=true):∃N,zsp N c a=some [aB<|zjT c a]:=by have h:=len0 j;refine zb2 λN f=>?_;unfold zsp zjT eqI oN;cases g:ine (ln c) (ln a);{have e:=zbdJ g;rw[cF];refine(zbl c (λi (t:Unit)=>((i:Int),c,a,())) _ (λi (x:Int) (_:Unit) k=>bif ieq x (ix a (i:Int) 0) then k () else oF) (λ(t:Unit)=>some [.one<|.b true]) (λi d t rec=>?_) (λt rec=>?_) _ ()<|f h).trans ?_;{simp only [zbo d,zX d,zbh d,zY d h,cT];simp only[zX (l:=a) (i:=i)<|e ▸ d,cT,zl1];cases ieq c[i] (ix a (↑i) 0)<;>rfl};{simp only [zbj,cF]};rw[zXA ieq 0 a _ _ c 0 (by simpa using e),vI];cases all2 ieq c a<;>rfl};{rw [zWJ _ _ _<|zbeW g];rfl}
def zxm:vU 297 zuh:=hF2 zJG zU zu zl zV6 zVy
def zeq (l:LI):Bool:=pc (l.length<=2147483648)
abbrev zel (l:LI):LI:=l
def zz3:Run:=rF1 (dS .int) λb=>(zeq b,[aS .int<|zel b])
def zDY (N:Nat)(a:LI):OA:=
 (oN (few<|ln<|ap [] a)<|some [aS .int<|ap [] a])
def zRC (a:LI)(b:zeq a=true):∃N,zDY N a=some [aS .int<|zel a]:=by refine⟨0,?_⟩;unfold zDY oN;rw[zoc,zgv<|zM.1 b,cT]
def zKc:vU 344 zz3:=kF1 zJG zU zu zl (zq []) zRC
def zbbw:zZ:=[(297,zuh),(344,zz3)]++zbbv
def zJH:zS zbbw:=zh zxm (zh zKc zJG)
def zB9:LI:=rp 4 0
def zcQ (m:List LI)(p:Int):LI:=bif j0 p (ln m) then ix m p [] else zB9
def zfx (m:List LI)(_:Int):Bool:=pc (CVB sm<|.s (.sl .int) m)
def zhc (m:List LI)(p:Int):LI:=zcQ m p
def z8g {m:List LI}{p:Int}(b:CVB sm (.s (.sl .int) m))(a:j0 p (ln m)=true):(ix m p []).length<=2147483648 :=
 (zcc (b.inv.2 _ (zbN a ([]:LI)) (.s .int _) (qF.2 rfl)).len).2
def zqC:Run:=rF2 (dS<|.sl .int) dI λb c=>(zfx b c,[aS .int<|zhc b c])
def zMc (N:Nat)(a:lM)(b:Int):OA:=
 (oN (zO b 0<|wsub .i64 (ln a) 1)<|cond (nB<|zk b 0<|wsub .i64 (ln a) 1) (oN (cond (few 4) (ieq 4 4) false)<|some [aS .int<|rp 4 0])<|oN (inb b<|ln a)<|oN (few<|ln<|ap []<|ix a b [])<|some [aS .int<|ap []<|ix a b []])
def zYr (b:List LI)(a:Int)(f:zfx b a=true):∃N,zMc N b a=some [aS .int<|zhc b a]:=by have d:=zM.1 f;refine⟨0,?_⟩;unfold zMc zhc zcQ oN nB;have e:zk a 0 (wsub .i64 (ln b) 1)=j0 a (ln b):=zBx (zcc d.len).1 a;rw[e];cases c:j0 a (ln b);{rfl};{simp only [zO,cT,cF,zF c,zoc,zgv<|z8g d c]}
def zQX:vU 174 zqC:=kF2 zJH zU zu zl (zq []) zYr
def zLP (N:Nat)(a:lM)(b:Int):OA:=
 (oN (zbH b<|ln a)<|cond (nB<|zdG b<|ln a) (oN (cond (few 4) (ieq 4 4) false)<|some [aS .int<|rp 4 0])<|oN (inb b<|ln a)<|oN (zeq<|ix a b [])<|some [aS .int<|zel<|ix a b []])
def zX7 (a:List LI)(b:Int)(d:zfx a b=true):∃N,zLP N a b=some [aS .int<|zhc a b]:=by have e:=zM.1 d;refine⟨0,?_⟩;unfold zLP zhc zcQ zdG oN nB;cases c:j0 b (ln a);{rfl};{simp only [zbH,cT,cF,zF c,show zeq (ix a b [])=true from zbg (z8g e c),zel]}
def zQy:vU 172 zqC:=kF2 zJH zU zu zl (zq []) zX7
def zbbx:zZ:=[(174,zqC),(172,zqC)]++zbbw
def zJI:zS zbbx:=zh zQX (zh zQy zJH)
def zcM (h:ad)(m p:Int):LI :=
 bif j0 m (ln h.aa) then (cond (j0 p 8) (cond (ine (zbK (ix h.aa m zi).ae p).af<|-1) (zcQ h.ag (zbK (ix h.aa m zi).ae p).af)<|zcQ (ix h.aa m zi).Out p) zB9) else zB9
def has8 (p:Int):zk p 0 7=j0 p 8:=by unfold zk ige ile j0;by_cases a:0<=p<;>by_cases b:p<8;{rw [qH (p:=p≥0) (by omega),qH (p:=p<=7) (by omega),qH (p:=0<=p/\p<8) ⟨a,b⟩];rfl};{rw [qI (p:=p<=7) (by omega),qI (p:=0<=p/\p<8) (by omega)];simp};{rw [qI (p:=p≥0) (by omega),qI (p:=0<=p/\p<8) (by omega)];simp};{rw [qI (p:=p≥0) (by omega),qI (p:=0<=p/\p<8) (by omega)];simp}
def zq3 (h:ad)(_ _:Int):Bool:=pc (zdx h)
def zpj (h:ad)(m p:Int):LI:=zcM h m p
def zmW:Run:=rF3 dH dI dI λb c d=>(zq3 b c d,[aS .int<|zpj b c d])
def zMe (N:Nat)(a:ad)(c b:Int):OA:=
 let d:=ix a.aa c zi;let e:=(zfd d.ae b).af; (oN (zO c 0<|wsub .i64 (ln a.aa) 1)<|cond (nB<|zk c 0<|wsub .i64 (ln a.aa) 1) (oN (cond (few 4) (ieq 4 4) false)<|some [aS .int<|rp 4 0])<|oN (zO b 0 7)<|cond (nB<|zk b 0 7) (oN (cond (few 4) (ieq 4 4) false)<|some [aS .int<|rp 4 0])<|oN (inb c<|ln a.aa)<|oN (zgE d.ae b)<|cond (ine e<|-1) (oN (zfx a.ag e)<|some [aS .int<|zhc a.ag e])<|oN (zfx d.Out b)<|some [aS .int<|zhc d.Out b])
def zYt (a:ad)(b c:Int)(g:zq3 a b c=true):∃N,zMe N a b c=some [aS .int<|zpj a b c]:=by
 have d:=zM.1 g;refine⟨0,?_⟩;unfold zMe zpj zcM oN nB;conv=>zeta
 have e:zk b 0 (wsub .i64 (ln a.aa) 1)=j0 b (ln a.aa):=zBx (zcc d.mons.len).1 b;rw[e,has8];cases f:j0 b (ln a.aa);{rfl};{cases i:j0 c 8;{rfl};{have h:CVB sm (.s (.sl .int) (ix a.aa b zi).Out):=d.mons.inv.2 _ (zbN f zi) (.s (.sl .int) _) (by simp[Ty.cells]);simp only[zO,cT,cF,zF f,zgE,zfd,show ∀p,zfx a.ag p=true from λp=>zbg d.mem,show ∀p,zfx (ix a.aa b zi).Out p=true from λp=>zbg h,zhc];cases ine (zbK (ix a.aa b zi).ae c).af (-1)<;>rfl}}
def zzx:vU 52 zmW:=kF3 zJI zU zu zl (zq []) zYt
def zLQ (N:Nat)(a:ad)(c b:Int):OA:=
 let d:=ix a.aa c zi;let e:=(zfd d.ae b).af; (oN (zbH c<|ln a.aa)<|cond (nB<|zdG c<|ln a.aa) (oN (cond (few 4) (ieq 4 4) false)<|some [aS .int<|rp 4 0])<|oN (zbH b 8)<|cond (nB<|zdG b 8) (oN (cond (few 4) (ieq 4 4) false)<|some [aS .int<|rp 4 0])<|oN (inb c<|ln a.aa)<|oN (zgE d.ae b)<|cond (ine e<|-1) (oN (zfx a.ag e)<|some [aS .int<|zhc a.ag e])<|oN (zfx d.Out b)<|some [aS .int<|zhc d.Out b])
def zX8 (a:ad)(b c:Int)(f:zq3 a b c=true):∃N,zLQ N a b c=some [aS .int<|zpj a b c]:=by
 have e:=zM.1 f;refine⟨0,?_⟩;unfold zLQ zpj zcM zdG oN nB;conv=>zeta
 cases d:j0 b (ln a.aa);{rfl};{cases h:j0 c 8;{rfl};{have g:CVB sm (.s (.sl .int) (ix a.aa b zi).Out):=e.mons.inv.2 _ (zbN d zi) (.s (.sl .int) _) (by simp[Ty.cells]);simp only[zbH,cT,cF,zF d,zgE,zfd,show ∀p,zfx a.ag p=true from λp=>zbg e.mem,show ∀p,zfx (ix a.aa b zi).Out p=true from λp=>zbg g,zhc];cases ine (zbK (ix a.aa b zi).ae c).af (-1)<;>rfl}}
def zQz:vU 51 zmW:=kF3 zJI zU zu zl (zq []) zX8
def zbby:zZ:=[(52,zmW),(51,zmW)]++zbbx
def z9w:zS zbby:=zh zzx (zh zQz zJI)
def zbbz:zZ:=zbby
def z9x:zS zbbz:=z9w
def ctrV:zZ:=zbbz
def zbdp:∀f a,zx ctrV f=some a->Holds Tryz.prog f a:=z9x
def ctrU:zZ:=ctrV
def zdI:zS ctrU:=zbdp
def zqg:zif:=z99
def zA:zgr zqg:=zU
def canRun (g:ah):Bool:=bif (ieq g.Exit.Kind 0&&(ieq g.Exit.af 0&&(zj1 g.Exit.Write false&&ieq g.Exit.N 0))) then !g.aF else false
def zjL (_:ah):Bool:=true
abbrev zi5 (g:ah):Bool:=canRun g
def zkQ:Run:=rF1 (dT .guest) λb=>(zjL b,[aB<|zi5 b])
def zL2 (N:Nat)(a:ah):OA:=
 (cond (cond (ieq a.Exit.Kind 0) (cond (ieq a.Exit.af 0) (cond (zj1 a.Exit.Write false) (ieq a.Exit.N 0) false) false) false) (some [aB<|nB a.aF]) oF)
def zFo (a:ah)(b:zbE big [aT .guest a])(c:zjL a=true):∃N,zL2 N a=some [aB<|zi5 a]:=by refine⟨0,?_⟩;unfold zL2 zi5 canRun nB;cases ieq a.Exit.Kind 0<;>cases ieq a.Exit.af 0<;>cases zj1 a.Exit.Write false<;>cases ieq a.Exit.N 0<;>simp
def zzr:vU 119 zkQ:=hF1 zrP zU zu zl (zq []) zFo
def zzq:vU 396 zkQ:=hF1 zrP zU zu zl (zq []) zFo
def zbbl:zZ:=[(119,zkQ),(396,zkQ)]++z9F
def zW6:zS zbbl:=zh zzr (zh zzq zrP)
def zu1:List ah->Nat->LI
 |[],_=>[]
 |g::l,i=>bif canRun g then (i:Int)::zu1 l (i+1) else zu1 l (i+1)
def zQg {b:Type}(K:LI->Option b):∀(l:List ah) (i:Nat) (a:LI),a.length+l.length<=2147483648->
 goL (λi g a k=>bif canRun g then (cond (few<|ln<|ap a [(i:Int)]) (k<|ap a [(i:Int)]) none) else k a) K l i a=K (a++zu1 l i)
 |[],i,a,_=>by simp[goL,zu1]
 |g::l,i,a,h=>by simp only[qU]at h;simp only[goL,zu1];cases canRun g;{simp only [cF];exact zQg K l (i+1) a (by omega)};{simp only [cT];rw[zgv (by simp[ap];omega),cT,zQg K l (i+1) _ (by simp[ap];omega)];simp[ap]}
def zmH (l:List ah):Bool:=pc (l.length<=sm)
def zlj (l:List ah):LI:=zu1 l 0
def zz6:Run:=rF1 (dS .guest) λb=>(zmH b,[aS .int<|zlj b])
def zD2 (N:Nat)(b:lG):OA:=
 (r0 (σ:=(Int×Int×LI×lG×Unit)) N (λc a=>let d:=ix a.2.2.2.1 a.2.1 zy; (cond (ilt a.2.1 a.1) (oN (inb a.2.1<|ln a.2.2.2.1)<|oN (zjL d)<|cond (zi5 d) (oN (few<|ln<|ap a.2.2.1 [a.2.1])<|c (a.1,zI .i64 a.2.1 1,ap a.2.2.1 [a.2.1],a.2.2.2.1,()))<|c (a.1,zI .i64 a.2.1 1,a.2.2.1,a.2.2.2.1,()))<|some [aS .int a.2.2.1])) (ln b,0,[],b,()))
def zSx:=zq [(298,0,{n:=22,tm:=[(3,.sl 0 []),(7,.sl 1 []),(8,ti),(9,ti)],lo:=[],ro:=[(0,.int,true),(1,.guest,false)]})]
def zRF (b:List ah)(e:zmH b=true):∃N,zD2 N b=some [aS .int<|zlj b]:=by
 have d:=zcc (zM.1 e);refine⟨NN,?_⟩;unfold zD2 oN;conv=>zeta
 refine(zbl b (λi a=>(ln b,(i:Int),a,b,())) _ (λi g a k=>bif canRun g then (cond (few<|ln<|ap a [(i:Int)]) (k<|ap a [(i:Int)]) none) else k a) (λa=>some [AV.one<|.s .int a])
  (λi c t rec=>?_) (λt rec=>?_) _ [] (zMv d.1)).trans (zQg _ b 0 [] (by simpa using d.2))
 {simp only [zbo c,zX c,zbh c,zjL,zi5,cT,zY c d.1]};{simp only [zbj,cF]}
def zKf:vU 298 zz6:=kF1 zW6 zU zu zl zSx zRF
def zbbm:zZ:=[(298,zz6)]++zbbl
def zW7:zS zbbm:=zh zKf zW6
def zg9 (h:ad):Bool:=pc (zdx h)
def zfN (h:ad):List LI:=h.aa.map λm=>zu1 m.ac 0
def zwi:Run:=rF1 dH λb=>(zg9 b,[aS (.sl .int)<|zfN b])
def zy5 (N:Nat)(c:ad):OA:=
 (r0 (σ:=(Int×Int×lM×lN×Unit)) N (λd a=>let b:=(ix a.2.2.2.1 a.2.1 zi).ac; (cond (ilt a.2.1 a.1) (oN (inb a.2.1<|ln a.2.2.2.1)<|oN (zmH b)<|oN (few<|ln<|ap a.2.2.1 [zlj b])<|d (a.1,zI .i64 a.2.1 1,ap a.2.2.1 [zlj b],a.2.2.2.1,()))<|some [aS (.sl .int) a.2.2.1])) (ln c.aa,0,[],c.aa,()))
def zLx:=zq [(118,0,{n:=22,tm:=[(3,.sl 0 []),(8,.sl 1 []),(9,ti),(10,ti)],lo:=[],ro:=[(0,.sl .int,true),(1,.mon,false)]})]
def zKS (b:ad)(e:zg9 b=true):∃N,zy5 N b=some [aS (.sl .int)<|zfN b]:=by
 have h:=(zM.1 e).mons;have d:=zcc h.len;refine⟨NN,?_⟩;unfold zy5 oN;conv=>zeta
 refine(zbl b.aa (λi a=>(ln b.aa,(i:Int),a,b.aa,())) _ (λi x a k=>bif zmH x.ac then (cond (few<|ln<|ap a [zlj x.ac]) (k<|ap a [zlj x.ac]) none) else none) (λa=>some [AV.one<|.s (.sl .int) a])
  (λi c t rec=>?_) (λt rec=>?_) _ [] (zMv d.1)).trans (z2j (λx=>zmH x.ac) (λx=>zlj x.ac) _ b.aa 0 [] (λx f=>zbg (h.inv.2 x f (.s .guest x.ac) (by simp[Ty.cells])).len) (by simpa using d.2))
 {simp only [zbo c,zX c,zbh c,cT,zY c d.1]};{simp only [zbj,cF]}
def zE1:vU 118 zwi:=kF1 zW7 zU zu zl zLx zKS
def zbfv:zZ:=[(118,zwi)]++zbbm
def zW8:zS zbfv:=zh zE1 zW7
def quiet (h:ad):Bool:=!(h.aa.any λm=>m.ac.any canRun)
def zT7:∀(l:List ah) (i:Nat),igt (ln<|zu1 l i) 0=l.any canRun
 |[],_=>rfl
 |g::l,i=>by have a:=zT7 l (i+1);simp only[zu1,List.any_cons];cases canRun g;{simp only [cF,Bool.false_or];exact a};{simp only [cT,Bool.true_or,igt,ln];exact qH (by simp only[qU];omega)}
def znu (h:ad):Bool:=quiet h
def zIX:Run:=rF1 dH λb=>(zg9 b,[aB<|znu b])
def zSY (N:Nat)(b:ad):OA:=
 (oN (zg9 b)<|r0 (σ:=(Int×Int×lM×Unit)) N (λc a=>cond (ilt a.2.1 a.1) (oN (inb a.2.1<|ln a.2.2.1)<|cond (igt (ln<|ix a.2.2.1 a.2.1 []) 0) oF<|c (a.1,zI .i64 a.2.1 1,a.2.2.1,())) oT) (ln<|zfN b,0,zfN b,()))
def z1Z:=zq [(26,0,{n:=16,tm:=[(6,.sl 0 []),(7,ti),(8,ti)],lo:=[],ro:=[(0,.sl .int,true)]})]
def z07 (a:ad)(f:zg9 a=true):∃N,zSY N a=some [aB<|znu a]:=by
 have d:=zM.1 f;have g:=zcc d.mons.len;have b:(zfN a).length<=big:=by simpa [zfN] using g.1
 refine⟨NN,?_⟩;unfold zSY oN;have e:zg9 a=true:=zbg d;rw[e,cT];refine(zbl (zfN a) (λi _=>(ln<|zfN a,(i:Int),zfN a,())) _ (λ_ x (_:Unit) k=>bif igt (ln x) 0 then oF else k ()) (λ_=>oT)
  (λi c t rec=>?_) (λt rec=>?_) _ () (zMv b)).trans ?_
 {simp only [zbo c,zX c,zbh c,cT,zY c b]};{simp only [zbj,cF]};{rw [zBg];unfold znu quiet zfN;rw[List.any_map];simp only[Function.comp_def,zT7];cases a.aa.any λm=>m.ac.any canRun<;>rfl}
def zUB:vU 26 zIX:=kF1 zW8 zU zu zl z1Z z07
def zx1 (_:ad):Bool:=true
def zI2:Run:=rF1 dH λb=>(zx1 b,[aB<|znu b])
def zTb (N:Nat)(d:ad):OA:=
 (r0 (σ:=(Int×lM×lN×lE×lE×Unit)) N (λg b=>cond (ilt b.1<|ln b.2.2.1) (r0 (σ:=(Int×Int×lM×lN×lE×lE×Unit)) N (λh a=>let b:=a.2.2.2.2;let c:=a.2.2.2.1;let e:=(ix c a.1 zi).ac;let f:=ix e a.2.1 zy; (oN (inb a.1<|ln c)<|cond (ilt a.2.1<|ln e) (oN (inb a.1<|ln c)<|oN (inb a.2.1<|ln e)<|oN (zjL f)<|cond (zi5 f) oF<|h (a.1,zI .i64 a.2.1 1,a.2.2.1,c,b.1,b.2.1,()))<|g (zI .i64 a.1 1,a.2.2.1,c,b.1,b.2.1,()))) (b.1,0,b.2.1,b.2.2.1,b.2.2.2.1,b.2.2.2.2.1,())) oT) (0,d.ag,d.aa,d.ao,d.ak,()))
def z16:=zq [(27,0,{n:=33,tm:=[(1,.lp 0 0),(3,ti)],lo:=[(0,[.sl 0 [],.sl 1 [],.sl 2 [],.sl 3 []])],ro:=[(0,.sl .int,false),(1,.mon,false),(2,.entry,false),(3,.entry,false)]}),(27,2,{n:=33,tm:=[(1,.lp 0 0),(3,ti),(4,ti)],lo:=[(0,[.sl 0 [],.sl 1 [],.sl 2 [],.sl 3 []])],ro:=[(0,.sl .int,false),(1,.mon,false),(2,.entry,false),(3,.entry,false)]})]
def z1j (a:ad)(l:zbE big [aH a])(n:zx1 a=true):∃N,zTb N a=some [aB<|znu a]:=by
 have e:=(zdy l).1;have h:CVB big (.s .mon a.aa):=e _ (by simp[AV.cvs,zbt]);have f:=h.len;refine⟨NN,?_⟩;unfold zTb oN;conv=>zeta
 refine(zbl a.aa (λi (_:Unit)=>((i:Int),a.ag,a.aa,a.ao,a.ak,())) _ (λ_ (x:Mon) (_:Unit) k=>bif x.ac.any canRun then oF else k ()) (λ_=>oT)
  (λi b t rec=>?_) (λt rec=>?_) _ () (zMv f)).trans ?_
 .simp only [zbo b,cT];have hg:CVB big (.s .guest a.aa[i].ac):=h.inv.2 _ (jE b) _ (by simp[Ty.cells])
  refine(zbl a.aa[i].ac (λj (_:Unit)=>((i:Int),(j:Int),a.ag,a.aa,a.ao,a.ak,())) _ (λ_ (g:ah) (_:Unit) k=>bif canRun g then oF else k ()) (λ_=>rec (((i+1:Nat):Int),a.ag,a.aa,a.ao,a.ak,()))
   (λj d t c=>?_) (λt c=>?_) _ () (zMv hg.len)).trans ?_
  {simp only [zX b,zbh b,zbo d,zX d,zbh d,zjL,zi5,cT,zY d hg.len]};{simp only [zX b,zbh b,zbj,cT,cF,zY b f]};{rw [zBg]}
 {simp only [zbj,cF]};{rw [zBg];unfold znu quiet;cases a.aa.any λm=>m.ac.any canRun<;>rfl}
def zUO:vU 27 zI2:=hF1 zW8 zU zu zl z16 z1j
def i0 {d:Type}{c:Bool}{a b r:Option d}(h:c=true)(k:a=r):(cond c a b)=r:=by rw[h];exact k
def mu {d:Type}{c:Bool}{a b r:Option d}(k:a=r)(h:c=true:=by first|assumption|(simp_all<;>omega)):(cond c a b)=r:=i0 h k
def zcB {d:Type}{c:Bool}{a b r:Option d}(h:c=false)(k:b=r):(cond c a b)=r:=by rw[h];exact k
def br {f:Type}{c:Bool}{a b r:Option f}(d:c=true->a=r)(e:c=false->b=r):(cond c a b)=r:=by cases c;{exact e rfl};{exact d rfl}
def brN {f:Type}{c:Bool}{a b r:Option f}(d:c=false->a=r)(e:c=true->b=r):(cond (cond c false true) a b)=r:=by cases c;{exact d rfl};{exact e rfl}
def shr {a b:Type}{x:a}{f:a->Option b}{r:Option b}(h:f x=r):p0 x f=r:=h
def zjZ {e:Type}{c p:Bool}{a b:Option e}(d:c=true):(cond c (cond (cond p false true) a b) none)=bif p then b else a:=by rw[d];cases p<;>rfl
attribute [simp] zM
@[simp] def zbdB {a:Type}(l:List a):(few (ln l)=true)↔l.length<=2147483648:=by unfold few ln;rw[decide_eq_true_iff];omega
@[simp] def zbgm {a:Type}(l m:List a):(ap l m).length=l.length+m.length:=by simp[ap]
attribute [simp] zoc zid
@[simp] def zbca (n:Nat)(k:IntKind)(x:Int):CVB n (.i k x)↔True:=⟨λ_=>trivial,λ_=>.i k x⟩
@[simp] def zbgq (n:Nat)(x:Bool):CVB n (.b x)↔True:=⟨λ_=>trivial,λ_=>.b x⟩
def znq {n:Nat}{t:Ty}(l:List t.den):CVB n (.s t l)↔l.length<=n/\∀x∈l,∀c∈t.cells x,CVB n c:=⟨λh=>h.inv,λh=>.s t l h.1 h.2⟩
@[simp] def z2q (n:Nat)(l:LI):CVB n (.s .int l)↔l.length<=n:=by rw[znq];simp[Ty.cells]
@[simp] def zbeN (n:Nat)(l:LI):CVB n (.s .u8 l)↔l.length<=n:=by rw[znq];simp[Ty.cells]
@[simp] def z9G (n:Nat)(l:List Bool):CVB n (.s .bool l)↔l.length<=n:=by rw[znq];simp[Ty.cells]
@[simp] def z9I (n:Nat)(l:List k0):CVB n (.s .slot l)↔l.length<=n:=by rw[znq];simp[Ty.cells]
@[simp] def zbdr (n:Nat)(l:List Ins):CVB n (.s .ins l)↔l.length<=n:=by rw[znq];simp[Ty.cells]
@[simp] def z6P (n:Nat)(l:List ar):CVB n (.s .entry l)↔l.length<=n:=by rw[znq];simp[Ty.cells]
@[simp] def zbdq (n:Nat)(l:List GAct):CVB n (.s .act l)↔l.length<=n:=by rw[znq];simp[Ty.cells]
@[simp] def z9J (n:Nat)(l:List aE):CVB n (.s .told l)↔l.length<=n:=by rw[znq];simp[Ty.cells]
def SmM (m:List LI):Prop:=m.length<=1048576/\∀x∈m,x.length<=1048576
def SmG (g:ah):Prop:=g.au.length<=1048576/\g.ax.length<=1048576/\g.av.length<=1048576/\g.aC.length<=1048576
def zmx (l:List ah):Prop:=l.length<=1048576/\∀x∈l,SmG x
def SmB (b:ai):Prop:=SmM b.ag/\zmx b.ac/\b.Outs.length<=1048576
def zpP (l:List ai):Prop:=l.length<=1048576/\∀x∈l,SmB x
def sm_v:sm=1048576:=rfl
@[simp] def z3X (l:LI):CVB sm (.s .int l)↔l.length<=1048576:=z2q sm l
@[simp] def zbfZ (l:LI):CVB sm (.s .u8 l)↔l.length<=1048576:=zbeN sm l
@[simp] def z0J (l:List Bool):CVB sm (.s .bool l)↔l.length<=1048576:=z9G sm l
@[simp] def z0K (l:List k0):CVB sm (.s .slot l)↔l.length<=1048576:=z9I sm l
@[simp] def zbfB (l:List Ins):CVB sm (.s .ins l)↔l.length<=1048576:=zbdr sm l
@[simp] def zXn (l:List ar):CVB sm (.s .entry l)↔l.length<=1048576:=z6P sm l
@[simp] def zbfA (l:List GAct):CVB sm (.s .act l)↔l.length<=1048576:=zbdq sm l
@[simp] def zbfp (l:List aE):CVB sm (.s .told l)↔l.length<=1048576:=z9J sm l
@[simp] def zrQ (l:List LI):CVB sm (.s (.sl .int) l)↔SmM l:=by rw[znq];simp[Ty.cells,SmM,sm_v]
@[simp] def zbc5 (g:ah):(∀c∈Ty.cells .guest g,CVB sm c)↔SmG g:=by simp[Ty.cells,SmG,sm_v]
@[simp] def zw6 (l:List ah):CVB sm (.s .guest l)↔zmx l:=by rw[znq];simp only[zbc5];rfl
@[simp] def zbc4 (b:ai):(∀c∈Ty.cells .bare b,CVB sm c)↔SmB b:=by simp only[Ty.cells,qG,qM,or_false,vO,forall_eq,zrQ,zw6,z2q,zbca,and_true];rfl
@[simp] def zbf3 (l:List ai):CVB sm (.s .bare l)↔zpP l:=by rw[znq];simp only[zbc4];rfl
@[simp] def zbgp (a:List Ins)(b c:Int)(d e:List k0)(f:Ctl)(g:Int)(h:aD)(i:Bool)(j:LI):SmG ⟨a,b,c,d,e,f,g,h,i,j⟩↔a.length<=1048576/\d.length<=1048576/\e.length<=1048576/\j.length<=1048576:=Iff.rfl
@[simp] def zbgo (m:List LI)(g:List ah)(o:LI)(p:Int):SmB ⟨m,g,o,p⟩↔SmM m/\zmx g/\o.length<=1048576:=Iff.rfl
def zPr {m:List LI}{i:Int}{x:LI}(h:SmM m)(b:x.length<=1048576):SmM (up m i x):=by refine⟨by simpa using h.1,λy a=>?_⟩;rcases qZ a with a|rfl;{exact h.2 y a};{exact b}
def zGH {m:List ah}{i:Int}{x:ah}(h:zmx m)(b:SmG x):zmx (up m i x):=by refine⟨by simpa using h.1,λy a=>?_⟩;rcases qZ a with a|rfl;{exact h.2 y a};{exact b}
def zbec {m:List ai}{i:Int}{x:ai}(h:zpP m)(b:SmB x):zpP (up m i x):=by refine⟨by simpa using h.1,λy a=>?_⟩;rcases qZ a with a|rfl;{exact h.2 y a};{exact b}
def zPo {l:List ah}{i:Int}(h:zmx l)(a:j0 i (ln l)=true)(d:ah):SmG (ix l i d):=h.2 _ (zbN a d)
def zbfi {l:List LI}{i:Int}(h:SmM l)(a:j0 i (ln l)=true)(d:LI):(ix l i d).length<=1048576:=h.2 _ (zbN a d)
@[simp] def zbfS:SmG zy:=⟨by decide,by decide,by decide,by decide⟩
@[simp] def zWw (x a b:Int):zk x a b=zk x a b:=rfl
@[simp] def zXU (i n:Int):inb i n=j0 i n:=rfl
attribute [simp] zdG
@[simp] def zso {a:Type}{l:List a}(h:l.length<=1048576)(i:Int):zk i 0 (wsub .i64 (ln l) 1)=j0 i (ln l):=zFl (zcc h).1 i
def zLH {a:Type}{l:List a}(h:l.length<=big)(i:Int):zk i 0 (wsub .i64 (ln l) 1)=j0 i (ln l):=zFl h i
def zf1 {x a b:Int}:(zk x a b=true)↔a<=x/\x<=b:=by unfold zk ige ile;simp only[qE,decide_eq_true_iff]
def zbdI (a b:Int):ilt a b = !ige a b:=by unfold ilt ige;by_cases h:a<b;{rw [qH h,qI (by omega)];rfl};{rw [qI h,qH (by omega)];rfl}
attribute [simp] zbm zbm zht zht zhI zhI zda zda zfd zfd zi5 zi5 zbR zbR
attribute [simp] zfI zdp zhz zel
attribute [simp] zhw zdM zg0 zeq
def zbs (a:Int):Int:=bif ilt a 0 then -1 else z0x .i64 a 4
def zdO (a:Int):Int:=bif ilt a 0 then -1 else zn9 a 4
@[simp] abbrev zbD (a:Int):Bool:=true
@[simp] abbrev zb3 (a:Int):Int:=zbs a
def znG:Run:=rF1 dI λb=>(zbD b,[aI<|zb3 b])
def zD8 (N:Nat)(a:Int):OA:=
 (cond (ilt a 0) (some [aI<|-1])<|oN (ine 4 0)<|some [aI<|z0x .i64 a 4])
def zzG (a:Int)(b:zbE big [aI a])(c:zbD a=true):∃N,zD8 N a=some [aI<|zb3 a]:=by refine⟨0,?_⟩;unfold zD8 oN;refine br (λ_=>?_) (λ_=>i0 rfl ?_);all_goals first|rfl|(simp only [*,zb3,zbs,cT,cF]<;>rfl)|simp_all[Ty.cells,zb3,zbs]
def zKn:vU 283 znG:=hF1 zdI zA zu zl (zq []) zzG
def zJ1:vU 247 znG:=hF1 zdI zA zu zl (zq []) zzG
@[simp] abbrev zdg (a:Int):Int:=zdO a
def znF:Run:=rF1 dI λb=>(zbD b,[aI<|zdg b])
def zD7 (N:Nat)(a:Int):OA:=
 (cond (ilt a 0) (some [aI<|-1])<|oN (ine 4 0)<|some [aI<|zn9 a 4])
def zzF (a:Int)(b:zbE big [aI a])(c:zbD a=true):∃N,zD7 N a=some [aI<|zdg a]:=by refine⟨0,?_⟩;unfold zD7 oN;refine br (λ_=>?_) (λ_=>i0 rfl ?_);all_goals first|rfl|(simp only [*,zdg,zdO,cT,cF]<;>rfl)|simp_all[Ty.cells,zdg,zdO]
def zKm:vU 288 znF:=hF1 zdI zA zu zl (zq []) zzF
def zJ0:vU 252 znF:=hF1 zdI zA zu zl (zq []) zzF
def zcf (w:Bool):Int:=bif w then 2 else 1
@[simp] abbrev zil (w:Bool):Bool:=true
@[simp] abbrev zcK (w:Bool):Int:=zcf w
def zqB:Run:=rF1 dB λb=>(zil b,[aI<|zcK b])
def zMb (N:Nat)(a:Bool):OA:=
 (cond a (some [aI 2])<|some [aI 1])
def zFr (a:Bool)(b:zbE big [aB a])(c:zil a=true):∃N,zMb N a=some [aI<|zcK a]:=by refine⟨0,?_⟩;unfold zMb;refine br (λ_=>?_) (λ_=>?_);all_goals first|rfl|(simp only [*,zcK,zcf,cT,cF]<;>rfl)|simp_all[Ty.cells,zcK,zcf]
def zQW:vU 284 zqB:=hF1 zdI zA zu zl (zq []) zFr
def zQw:vU 248 zqB:=hF1 zdI zA zu zl (zq []) zFr
def ztq (p:Int)(w:Bool):aD:=⟨1,p,w,0⟩
def zvH (n:Int):aD:=⟨2,0,false,n⟩
def zzO (n:Int):aD:=⟨3,0,false,n⟩
@[simp] abbrev zfo (p:Int)(w:Bool):Bool:=true
@[simp] abbrev zdK (p:Int)(w:Bool):aD:=ztq p w
def zjJ:Run:=rF2 dI dB λb c=>(zfo b c,[.agg<|zg2<|zdK b c])
def zCv (N:Nat)(a:Int)(c:Bool):OA:=
 (some [.agg [.i .i64 1,.i .i64 a,.b c,.i .i64 0]])
def zxo (a:Int)(b:Bool)(c:zbE big [aI a,aB b])(d:zfo a b=true):∃N,zCv N a b=some [.agg<|zg2<|zdK a b]:=by refine⟨0,?_⟩;unfold zCv;first|rfl|(simp only [*,zdK,cT,cF]<;>rfl)|simp_all[Ty.cells,zdK]
def zuC:vU 286 zjJ:=hF2 zdI zA zu zl (zq []) zxo
def zGL:vU 250 zjJ:=hF2 zdI zA zu zl (zq []) zxo
@[simp] abbrev zfc (n:Int):Bool:=true
@[simp] abbrev zeV (n:Int):aD:=zvH n
def zkP:Run:=rF1 dI λb=>(zfc b,[.agg<|zg2<|zeV b])
def zEc (N:Nat)(a:Int):OA:=
 (some [.agg [.i .i64 2,.i .i64 0,.b false,.i .i64 a]])
def zzH (a:Int)(b:zbE big [aI a])(c:zfc a=true):∃N,zEc N a=some [.agg<|zg2<|zeV a]:=by refine⟨0,?_⟩;unfold zEc;first|rfl|(simp only [*,zeV,cT,cF]<;>rfl)|simp_all[Ty.cells,zeV]
def zvV:vU 409 zkP:=hF1 zdI zA zu zl (zq []) zzH
def zJ3:vU 271 zkP:=hF1 zdI zA zu zl (zq []) zzH
@[simp] abbrev zga (n:Int):aD:=zzO n
def zlJ:Run:=rF1 dI λb=>(zfc b,[.agg<|zg2<|zga b])
def zIh (N:Nat)(a:Int):OA:=
 (some [.agg [.i .i64 3,.i .i64 0,.b false,.i .i64 a]])
def zCN (a:Int)(b:zbE big [aI a])(c:zfc a=true):∃N,zIh N a=some [.agg<|zg2<|zga a]:=by refine⟨0,?_⟩;unfold zIh;first|rfl|(simp only [*,zga,cT,cF]<;>rfl)|simp_all[Ty.cells,zga]
def zxl:vU 411 zlJ:=hF1 zdI zA zu zl (zq []) zCN
def zNc:vU 407 zlJ:=hF1 zdI zA zu zl (zq []) zCN
def zed (t x:Int):Bool:=bif zk t 0 3 then (cond (zk x 1 2) (ine (wand .i64 t x) 0) false) else false
def zbcU (x:Int):zk x 1 2=(ieq x 1||ieq x 2):=by have h:(zk x 1 2=true)↔(ieq x 1||ieq x 2)=true:=(by rw[zf1];simp only[ieq,kL,qL];omega);cases a:zk x 1 2<;>cases b:(ieq x 1||ieq x 2)<;>simp_all
@[simp] abbrev zgi (t x:Int):Bool:=true
@[simp] abbrev zfH (t x:Int):Bool:=zed t x
def zoN:Run:=rF2 dI dI λb c=>(zgi b c,[aB<|zfH b c])
def zH9 (N:Nat)(a b:Int):OA:=
 (oN (zO a 0 3)<|cond (zk a 0 3) (oN (zO b 1 2)<|cond (zk b 1 2) (some [aB<|ine (wand .i64 a b) 0]) oF) oF)
def zVg (a b:Int)(c:zgi a b=true):∃N,zH9 N a b=some [aB<|zfH a b]:=by refine⟨0,?_⟩;unfold zH9 oN;refine i0 rfl (br (λ_=>i0 rfl (br (λ_=>?_) λ_=>?_)) λ_=>?_);all_goals first|rfl|(simp only [*,zfH,zed,cT,cF]<;>rfl)|simp_all[Ty.cells,zfH,zed]
def zNq:vU 410 zoN:=kF2 zdI zA zu zl (zq []) zVg
def zHS (N:Nat)(a b:Int):OA:=
 let c:=aB<|ine (wand .i64 a b) 0; (oN (zO a 0 3)<|cond (zk a 0 3) (cond (ieq b 1) (some [c])<|cond (ieq b 2) (some [c]) oF) oF)
def zU1 (a b:Int)(c:zgi a b=true):∃N,zHS N a b=some [aB<|zfH a b]:=by
 refine⟨0,?_⟩;unfold zHS oN;conv=>zeta
 refine i0 rfl (br (λ_=>br (λ_=>?_) λ_=>br (λ_=>?_) λ_=>?_) λ_=>?_);all_goals first|rfl|(simp only [*,zfH,zed,zbcU,cT,cF]<;>rfl)|simp_all[Ty.cells,zfH,zed,zbcU]
def zNb:vU 272 zoN:=kF2 zdI zA zu zl (zq []) zU1
def zd2 (p:Int):Bool:=zk p 0 255
@[simp] abbrev zcl (p:Int):Bool:=true
@[simp] abbrev zeR (p:Int):Bool:=zd2 p
def zqE:Run:=rF1 dI λb=>(zcl b,[aB<|zeR b])
def zMg (N:Nat)(a:Int):OA:=
 (oN (zO a 0 255)<|some [aB<|zk a 0 255])
def zFt (a:Int)(b:zbE big [aI a])(c:zcl a=true):∃N,zMg N a=some [aB<|zeR a]:=by refine⟨0,?_⟩;unfold zMg oN;refine i0 rfl ?_;first|rfl|(simp only [*,zeR,zd2,cT,cF]<;>rfl)|simp_all[Ty.cells,zeR,zd2]
def zQ0:vU 217 zqE:=hF1 zdI zA zu zl (zq []) zFt
def zQB:vU 208 zqE:=hF1 zdI zA zu zl (zq []) zFt
def zcg (l:List Ins)(p:Int):Ins:=bif j0 p (ln l) then ix l p zrD else ⟨7,0⟩
@[simp] abbrev zdA (l:List Ins)(p:Int):Bool:=true
@[simp] abbrev zdJ (l:List Ins)(p:Int):Ins:=zcg l p
def zsM:Run:=rF2 (dS .ins) dI λb c=>(zdA b c,[aT .ins<|zdJ b c])
def zS4 (N:Nat)(a:lI)(b:Int):OA:=
 (oN (zO b 0<|wsub .i64 (ln a) 1)<|cond (nB<|zk b 0<|wsub .i64 (ln a) 1) (some [.agg [.i .i64 7,.i .i64 0]])<|oN (inb b<|ln a)<|some [.agg [.i .i64 (ix a b zrD).Op,.i .i64 (ix a b zrD).X]])
def z1d (a:List Ins)(b:Int)(c:zbE big [aS .ins a,aI b])(e:zdA a b=true):∃N,zS4 N a b=some [aT .ins<|zdJ a b]:=by have d:=((zdy c).1 _ (qF.2 rfl)).len;have f:=zLH d;refine⟨0,?_⟩;unfold zS4 oN nB;refine i0 rfl (brN (λ_=>?_) λ_=>mu ?_);all_goals first|rfl|(simp only [*,zdJ,zcg,cT,cF]<;>rfl)|simp_all[Ty.cells,zdJ,zcg]
def zUI:vU 294 zsM:=hF2 zdI zA zu zl (zq []) z1d
def zST (N:Nat)(a:lI)(b:Int):OA:=
 (oN (zbH b<|ln a)<|cond (nB<|zdG b<|ln a) (some [.agg [.i .i64 7,.i .i64 0]])<|oN (inb b<|ln a)<|some [.agg [.i .i64 (ix a b zrD).Op,.i .i64 (ix a b zrD).X]])
def z02 (a:List Ins)(b:Int)(c:zdA a b=true):∃N,zST N a b=some [aT .ins<|zdJ a b]:=by refine⟨0,?_⟩;unfold zST oN nB;refine i0 rfl (brN (λ_=>?_) λ_=>mu ?_);all_goals first|rfl|(simp only [*,zdJ,zcg,cT,cF]<;>rfl)|simp_all[Ty.cells,zdJ,zcg]
def zUv:vU 266 zsM:=kF2 zdI zA zu zl (zq []) z02
def zgb (w:Int):Int:=bif ieq w 5 then 1 else 2
@[simp] abbrev zp7 (w:Int):Bool:=true
@[simp] abbrev ziZ (w:Int):Int:=zgb w
def zFN:Run:=rF1 dI λb=>(zp7 b,[aI<|ziZ b])
def zL0 (N:Nat)(a:Int):OA:=
 (cond (ieq a 5) (some [aI 1])<|some [aI 2])
def zYi (a:Int)(b:zp7 a=true):∃N,zL0 N a=some [aI<|ziZ a]:=by refine⟨0,?_⟩;unfold zL0;refine br (λ_=>?_) (λ_=>?_);all_goals first|rfl|(simp only [*,ziZ,zgb,cT,cF]<;>rfl)|simp_all[Ty.cells,ziZ,zgb]
def zQM:vU 273 zFN:=kF1 zdI zA zu zl (zq []) zYi
def zey (s:k0)(n:Int):Bool:=bif zdr s C0 then true else (cond (igt n 0) (cond (zk s.af 0<|wsub .i64 n 1) (zk s.aj 1 3) false) false)
@[simp] abbrev znP (s:k0)(n:Int):Bool:=true
@[simp] abbrev zj8 (s:k0)(n:Int):Bool:=zey s n
def zqI:Run:=rF2 (dT .slot) dI λb c=>(znP b c,[aB<|zj8 b c])
def zMl (N:Nat)(a:k0)(b:Int):OA:=
 (oN zbR<|cond (cond (ieq a.af zbm.af) (ieq a.aj zbm.aj) false) oT<|oN (zO a.af 0<|wsub .i64 b 1)<|cond (zk a.af 0<|wsub .i64 b 1) (cond (igt b 0) (oN (zO a.aj 1 3)<|some [aB<|zk a.aj 1 3]) oF) oF)
def zYz (a:k0)(b:Int)(c:znP a b=true):∃N,zMl N a b=some [aB<|zj8 a b]:=by refine⟨0,?_⟩;unfold zMl oN;refine i0 rfl (br (λ_=>?_) λ_=>i0 rfl (br (λ_=>br (λ_=>i0 rfl ?_) λ_=>?_) λ_=>?_));all_goals first|rfl|(simp only [*,zj8,zey,zdr,cT,cF]<;>rfl)|simp_all[Ty.cells,zj8,zey,zdr]
def zQ5:vU 346 zqI:=kF2 zdI zA zu zl (zq []) zYz
def zLW (N:Nat)(a:k0)(b:Int):OA:=
 (oN zbR<|cond (cond (ieq a.af zbm.af) (ieq a.aj zbm.aj) false) oT<|cond (igt b 0) (oN (zO a.af 0<|wsub .i64 b 1)<|cond (zk a.af 0<|wsub .i64 b 1) (oN (zO a.aj 1 3)<|some [aB<|zk a.aj 1 3]) oF) oF)
def zYe (a:k0)(b:Int)(c:znP a b=true):∃N,zLW N a b=some [aB<|zj8 a b]:=by refine⟨0,?_⟩;unfold zLW oN;refine i0 rfl (br (λ_=>?_) λ_=>br (λ_=>i0 rfl (br (λ_=>i0 rfl ?_) λ_=>?_)) λ_=>?_);all_goals first|rfl|(simp only [*,zj8,zey,zdr,cT,cF]<;>rfl)|simp_all[Ty.cells,zj8,zey,zdr]
def zQG:vU 377 zqI:=kF2 zdI zA zu zl (zq []) zYe
@[simp] abbrev zh3 (l:List k0):Bool:=pc (l.length<=2147483648)
@[simp] abbrev zgf (l:List k0):List k0:=l
def zxE:Run:=rF1 (dS .slot) λb=>(zh3 b,[aS .slot<|zgf b])
def zCk (N:Nat)(a:lS):OA:=
 (oN (few<|ln<|ap [] a)<|some [aS .slot<|ap [] a])
def zOi (a:List k0)(b:zh3 a=true):∃N,zCk N a=some [aS .slot<|zgf a]:=by have c:=zM.1 b;refine⟨0,?_⟩;unfold zCk oN;refine mu ?_;first|rfl|(simp only [*,zgf,cT,cF]<;>rfl)|simp_all[Ty.cells,zgf]
def zGT:vU 368 zxE:=kF1 zdI zA zu zl (zq []) zOi
@[simp] abbrev zvZ (l:List Ins):Bool:=pc (l.length<=2147483648)
@[simp] abbrev zp6 (l:List Ins):List Ins:=l
def zz5:Run:=rF1 (dS .ins) λb=>(zvZ b,[aS .ins<|zp6 b])
def zD0 (N:Nat)(a:lI):OA:=
 (oN (few<|ln<|ap [] a)<|some [aS .ins<|ap [] a])
def zRE (a:List Ins)(b:zvZ a=true):∃N,zD0 N a=some [aS .ins<|zp6 a]:=by have c:=zM.1 b;refine⟨0,?_⟩;unfold zD0 oN;refine mu ?_;first|rfl|(simp only [*,zp6,cT,cF]<;>rfl)|simp_all[Ty.cells,zp6]
def zKe:vU 366 zz5:=kF1 zdI zA zu zl (zq []) zRE
def zg3 (m:List LI)(p c:Int):Bool:=bif j0 p (ln m) then j0 c (ln<|ix m p []) else false
def cellAt (m:List LI)(p c:Int):Int:=bif zg3 m p c then ix (ix m p []) c 0 else 0
def zbS (m:List LI)(p c v:Int):List LI:=bif zg3 m p c then (cond (zk v 0 99) (up m p<|up (ix m p []) c v) m) else m
def zBE (m:List LI)(p c:Int):(zg3 m p c=true)↔j0 p (ln m)=true/\j0 c (ln<|ix m p [])=true:=by unfold zg3;cases j0 p (ln m)<;>simp
def zbeM {n:Nat}{m:List LI}(h:CVB n (.s (.sl .int) m)):m.length<=n/\∀p:Int,j0 p (ln m)=true->(ix m p []).length<=n :=
 ⟨h.len,λp a=>(h.inv.2 _ (zbN a []) _ (qF.2 rfl)).len⟩
@[simp] abbrev zeY (m:List LI)(p c:Int):Bool:=true
@[simp] abbrev zse (m:List LI)(p c:Int):Bool:=zg3 m p c
def zFQ:Run:=rF3 (dS<|.sl .int) dI dI λb c d=>(zeY b c d,[aB<|zse b c d])
def zMq (N:Nat)(a:lM)(b c:Int):OA:=
 let d:=wsub .i64 (ln<|ix a b []) 1; (oN (zO b 0<|wsub .i64 (ln a) 1)<|cond (zk b 0<|wsub .i64 (ln a) 1) (oN (inb b<|ln a)<|oN (zO c 0 d)<|some [aB<|zk c 0 d]) oF)
def zYC (a:List LI)(b c:Int)(e:zbE big [aS (.sl .int) a,aI b,aI c])(g:zeY a b c=true):∃N,zMq N a b c=some [aB<|zse a b c]:=by
 have d:=zbeM ((zdy e).1 _ (qF.2 rfl));have j:=zLH d.1;have f:∀p i:Int,j0 p (ln a)=true->zk i 0 (wsub .i64 (ln<|ix a p []) 1)=j0 i (ln<|ix a p []):=λp i h=>zLH (d.2 p h) i;refine⟨0,?_⟩;unfold zMq oN;conv=>zeta
 refine i0 rfl (br (λ_=>mu (i0 rfl ?_)) λ_=>?_);all_goals first|rfl|(simp only [*,zse,zg3,cT,cF]<;>rfl)|simp_all[Ty.cells,zse,zg3]
def zRb:vU 408 zFQ:=hF3 zdI zA zu zl (zq []) zYC
@[simp] abbrev zgz (m:List LI)(p c:Int):Int:=cellAt m p c
def zqm:Run:=rF3 (dS<|.sl .int) dI dI λb c d=>(zeY b c d,[aI<|zgz b c d])
def zLJ (N:Nat)(a:lM)(b c:Int):OA:=
 let d:=ix a b []; (oN (zbH b<|ln a)<|cond (nB<|zdG b<|ln a) (some [aI 0])<|oN (inb b<|ln a)<|oN (zbH c<|ln d)<|cond (nB<|zdG c<|ln d) (some [aI 0])<|oN (inb b<|ln a)<|oN (inb c<|ln d)<|some [aI<|ix d c 0])
def zX1 (a:List LI)(b c:Int)(d:zeY a b c=true):∃N,zLJ N a b c=some [aI<|zgz a b c]:=by
 refine⟨0,?_⟩;unfold zLJ oN nB;conv=>zeta
 refine i0 rfl (brN (λ_=>?_) λ_=>mu (i0 rfl (brN (λ_=>?_) λ_=>mu (mu ?_))));all_goals first|rfl|(simp only [*,zgz,cellAt,zg3,cT,cF]<;>rfl)|simp_all[Ty.cells,zgz,cellAt,zg3]
def zQo:vU 255 zqm:=kF3 zdI zA zu zl (zq []) zX1
def z3N:zZ:=[(119,zkQ),(396,zkQ),(283,znG),(247,znG),(288,znF),(252,znF),(284,zqB),(248,zqB),(286,zjJ),(250,zjJ),(409,zkP),(271,zkP),(411,zlJ),(407,zlJ),(410,zoN),(272,zoN),(217,zqE),(208,zqE),(294,zsM),(266,zsM),(273,zFN),(346,zqI),(377,zqI),(368,zxE),(366,zz5),(408,zFQ),(255,zqm)]++ctrU
def zg6:zS z3N:=zh zzr (zh zzq<|zh zKn<|zh zJ1<|zh zKm<|zh zJ0<|zh zQW<|zh zQw<|zh zuC<|zh zGL<|zh zvV<|zh zJ3<|zh zxl<|zh zNc<|zh zNq<|zh zNb<|zh zQ0<|zh zQB<|zh zUI<|zh zUv<|zh zQM<|zh zQ5<|zh zQG<|zh zGT<|zh zKe<|zh zRb<|zh zQo zdI)
def zL3 (N:Nat)(a:lM)(b c:Int):OA:=
 (oN (zeY a b c)<|cond (nB<|zse a b c) (some [aI 0])<|oN (inb b<|ln a)<|oN (inb c<|ln<|ix a b [])<|some [aI<|ix (ix a b []) c 0])
def zYk (a:List LI)(b c:Int)(d:zeY a b c=true):∃N,zL3 N a b c=some [aI<|zgz a b c]:=by have e:=(zBE a b c).1;refine⟨0,?_⟩;unfold zL3 oN nB;refine i0 rfl (brN (λ_=>?_) λ_=>mu (mu ?_));all_goals first|rfl|(simp only [*,zgz,cellAt,cT,cF]<;>rfl)|simp_all[Ty.cells,zgz,cellAt]
def zQP:vU 291 zqm:=kF3 zg6 zA zu zl (zq []) zYk
def zdv (t:List k0)(n p:Int):Bool:=bif t.all (λs=>zey s p) then ieq (ln t) n else false
@[simp] abbrev zj9 (t:List k0)(n p:Int):Bool:=true
@[simp] abbrev zfe (t:List k0)(n p:Int):Bool:=zdv t n p
def zoQ:Run:=rF3 (dS .slot) dI dI λb c d=>(zj9 b c d,[aB<|zfe b c d])
def zIo (N:Nat)(d:lS)(e f:Int):OA:=
 (r0 (σ:=(Int×Int×Int×lS×Unit)) N (λg a=>let b:=a.2.2.2.1;let c:=ix b a.2.2.1 zba; (cond (ilt a.2.2.1<|ln b) (oN (inb a.2.2.1<|ln b)<|oN (znP c a.2.1)<|cond (nB<|zj8 c a.2.1) oF<|g (a.1,a.2.1,zI .i64 a.2.2.1 1,b,()))<|some [aB<|ieq (ln b) a.1])) (e,f,0,d,()))
def zV4:=zq [(213,0,{n:=25,tm:=[(0,.sl 0 []),(1,ti),(2,ti),(7,ti)],lo:=[],ro:=[(0,.slot,false)]})]
def zVv (a:List k0)(d c:Int)(j:zbE big [aS .slot a,aI d,aI c])(l:zj9 a d c=true):∃N,zIo N a d c=some [aB<|zfe a d c]:=by
 have h:(_:List _).length<=big:=((zdy j).1 _ (qF.2 rfl)).len;refine zb2 λN g=>?_;unfold zIo oN nB;conv=>zeta
 refine(zbl a (λi (t:Unit)=>(d,c,(i:Int),a,())) _ (λ_ x (_:Unit) k=>bif (λs=>zey s c) x then k () else oF) (λ(t:Unit)=>some [.one<|.b<|ieq (ln a) d]) (λi e t rec=>?_) (λt rec=>?_) _ ()<|g h).trans ?_;{simp only [zbo e,zX e,zbh e,zY e h,cT];exact zjZ rfl};{simp only [zbj,cF]};rw[zhR λs=>zey s c];refine br (λf=>?_) (λf=>?_);{first|rfl|(simp only [f,zfe,zdv,cT,cF]<;>rfl)|(simp_all [Ty.cells,zfe,zdv];done)};{first|rfl|(simp only [f,zfe,zdv,cT,cF]<;>rfl)|(simp_all [Ty.cells,zfe,zdv];done)}
def zNE:vU 213 zoQ:=hF3 zg6 zA zu zl zV4 zVv
def zHV (N:Nat)(c:lS)(e f:Int):OA:=
 (r0 (σ:=(Int×Int×Int×Int×lS×Unit)) N (λg a=>let b:=a.2.2.2.2.1;let d:=ix b a.2.2.2.1 zba; (cond (ilt a.2.2.2.1 a.2.2.1) (oN (inb a.2.2.2.1<|ln b)<|oN (znP d a.2.1)<|cond (nB<|zj8 d a.2.1) oF<|g (a.1,a.2.1,a.2.2.1,zI .i64 a.2.2.2.1 1,b,()))<|some [aB<|ieq (ln b) a.1])) (e,f,ln c,0,c,()))
def zVX:=zq [(207,0,{n:=24,tm:=[(0,.sl 0 []),(1,ti),(2,ti),(9,.sl 0 []),(10,ti),(11,ti)],lo:=[],ro:=[(0,.slot,false)]})]
def zU4 (a:List k0)(d c:Int)(j:zbE big [aS .slot a,aI d,aI c])(l:zj9 a d c=true):∃N,zHV N a d c=some [aB<|zfe a d c]:=by
 have h:(_:List _).length<=big:=((zdy j).1 _ (qF.2 rfl)).len;refine zb2 λN g=>?_;unfold zHV oN nB;conv=>zeta
 refine(zbl a (λi (t:Unit)=>(d,c,ln a,(i:Int),a,())) _ (λ_ x (_:Unit) k=>bif (λs=>zey s c) x then k () else oF) (λ(t:Unit)=>some [.one<|.b<|ieq (ln a) d]) (λi e t rec=>?_) (λt rec=>?_) _ ()<|g h).trans ?_;{simp only [zbo e,zX e,zbh e,zY e h,cT];exact zjZ rfl};{simp only [zbj,cF]};rw[zhR λs=>zey s c];refine br (λf=>?_) (λf=>?_);{first|rfl|(simp only [f,zfe,zdv,cT,cF]<;>rfl)|(simp_all [Ty.cells,zfe,zdv];done)};{first|rfl|(simp only [f,zfe,zdv,cT,cF]<;>rfl)|(simp_all [Ty.cells,zfe,zdv];done)}
def zNg:vU 207 zoQ:=hF3 zg6 zA zu zl zVX zU4
def zcN (c:LI):Bool:=bif c.all (λx=>zk x 0 99) then ieq (ln c) 4 else false
@[simp] abbrev zd3 (c:LI):Bool:=true
@[simp] abbrev zdl (c:LI):Bool:=zcN c
def zqD:Run:=rF1 (dS .int) λb=>(zd3 b,[aB<|zdl b])
def zMf (N:Nat)(b:LI):OA:=
 (r0 (σ:=(Int×LI×Unit)) N (λc a=>cond (ilt a.1<|ln a.2.1) (oN (inb a.1<|ln a.2.1)<|oN (zO (ix a.2.1 a.1 0) 0 99)<|cond (nB<|zk (ix a.2.1 a.1 0) 0 99) oF<|c (zI .i64 a.1 1,a.2.1,()))<|some [aB<|ieq (ln a.2.1) 4]) (0,b,()))
def z0g:=zq [(216,0,{n:=19,tm:=[(0,.sl 0 []),(3,ti)],lo:=[],ro:=[(0,.int,false)]})]
def zYu (a:LI)(g:zbE big [aS .int a])(j:zd3 a=true):∃N,zMf N a=some [aB<|zdl a]:=by have f:(_:List _).length<=big:=((zdy g).1 _ (qF.2 rfl)).len;refine zb2 λN e=>?_;unfold zMf oN nB;refine(zbl a (λi (t:Unit)=>((i:Int),a,())) _ (λ_ x (_:Unit) h=>bif (λx=>zk x 0 99) x then h () else oF) (λ(t:Unit)=>some [.one<|.b<|ieq (ln a) 4]) (λi c t rec=>?_) (λt rec=>?_) _ ()<|e f).trans ?_;{simp only [zbo c,zX c,zbh c,zY c f,cT];exact zjZ rfl};{simp only [zbj,cF]};rw[zhR λx=>zk x 0 99];refine br (λd=>?_) (λd=>?_);{first|rfl|(simp only [d,zdl,zcN,cT,cF]<;>rfl)|(simp_all [Ty.cells,zdl,zcN];done)};{first|rfl|(simp only [d,zdl,zcN,cT,cF]<;>rfl)|(simp_all [Ty.cells,zdl,zcN];done)}
def zQZ:vU 216 zqD:=hF1 zg6 zA zu zl z0g zYu
def zLR (N:Nat)(b:LI):OA:=
 (r0 (σ:=(Int×Int×LI×Unit)) N (λc a=>cond (ilt a.2.1 a.1) (oN (inb a.2.1<|ln a.2.2.1)<|oN (zO (ix a.2.2.1 a.2.1 0) 0 99)<|cond (nB<|zk (ix a.2.2.1 a.2.1 0) 0 99) oF<|c (a.1,zI .i64 a.2.1 1,a.2.2.1,()))<|some [aB<|ieq (ln a.2.2.1) 4]) (ln b,0,b,()))
def zZ6:=zq [(211,0,{n:=18,tm:=[(0,.sl 0 []),(5,.sl 0 []),(6,ti),(7,ti)],lo:=[],ro:=[(0,.int,false)]})]
def zX9 (a:LI)(g:zbE big [aS .int a])(j:zd3 a=true):∃N,zLR N a=some [aB<|zdl a]:=by have f:(_:List _).length<=big:=((zdy g).1 _ (qF.2 rfl)).len;refine zb2 λN e=>?_;unfold zLR oN nB;refine(zbl a (λi (t:Unit)=>(ln a,(i:Int),a,())) _ (λ_ x (_:Unit) h=>bif (λx=>zk x 0 99) x then h () else oF) (λ(t:Unit)=>some [.one<|.b<|ieq (ln a) 4]) (λi c t rec=>?_) (λt rec=>?_) _ ()<|e f).trans ?_;{simp only [zbo c,zX c,zbh c,zY c f,cT];exact zjZ rfl};{simp only [zbj,cF]};rw[zhR λx=>zk x 0 99];refine br (λd=>?_) (λd=>?_);{first|rfl|(simp only [d,zdl,zcN,cT,cF]<;>rfl)|(simp_all [Ty.cells,zdl,zcN];done)};{first|rfl|(simp only [d,zdl,zcN,cT,cF]<;>rfl)|(simp_all [Ty.cells,zdl,zcN];done)}
def zQA:vU 211 zqD:=hF1 zg6 zA zu zl zZ6 zX9
def ze1 (i:Ins):Bool:=bif (ieq i.Op 1||ieq i.Op 2||ieq i.Op 5||ieq i.Op 6) then zk i.X 0 99 else (cond (ieq i.Op 3||ieq i.Op 4) (zk i.X 0 15)<|cond (ieq i.Op 7) (ieq i.X 0)<|cond (ieq i.Op 8) (zk i.X 0 11) false)
@[simp] abbrev zxZ (i:Ins):Bool:=true
@[simp] abbrev zvr (i:Ins):Bool:=ze1 i
def zsN:Run:=rF1 (dT .ins) λb=>(zxZ b,[aB<|zvr b])
def zS5 (N:Nat)(a:Ins):OA:=
 let b:=ieq a.Op 4;let l:=zO a.X 0 99;let k:=aB<|zk a.X 0 99;let j:=ieq a.Op 8;let i:=ieq a.Op 7;let h:=ieq a.Op 3;let g:=zO a.X 0 11;let f:=zO a.X 0 15;let e:=aB<|ieq a.X 0;let d:=aB<|zk a.X 0 11;let c:=aB<|zk a.X 0 15; (cond (ieq a.Op 1) (cond (ieq a.Op 1) (oN l<|some [k])<|cond h (cond h (oN f<|some [c])<|cond i (some [e])<|cond j (oN g<|some [d]) oF)<|cond b (oN f<|some [c])<|cond i (some [e])<|cond j (oN g<|some [d]) oF)<|cond (ieq a.Op 2) (cond (ieq a.Op 2) (oN l<|some [k])<|cond h (cond h (oN f<|some [c])<|cond i (some [e])<|cond j (oN g<|some [d]) oF)<|cond b (oN f<|some [c])<|cond i (some [e])<|cond j (oN g<|some [d]) oF)<|cond (ieq a.Op 5) (cond (ieq a.Op 5) (oN l<|some [k])<|cond h (cond h (oN f<|some [c])<|cond i (some [e])<|cond j (oN g<|some [d]) oF)<|cond b (oN f<|some [c])<|cond i (some [e])<|cond j (oN g<|some [d]) oF)<|cond (ieq a.Op 6) (oN l<|some [k])<|cond h (cond h (oN f<|some [c])<|cond i (some [e])<|cond j (oN g<|some [d]) oF)<|cond b (oN f<|some [c])<|cond i (some [e])<|cond j (oN g<|some [d]) oF)
def zIM (a:Ins)(b:zbE big [aT .ins a])(c:zxZ a=true):∃N,zS5 N a=some [aB<|zvr a]:=by
 refine⟨0,?_⟩;unfold zS5 oN;conv=>zeta
 refine br (λ_=>br (λ_=>i0 rfl ?_) λ_=>br (λ_=>br (λ_=>i0 rfl ?_) λ_=>br (λ_=>?_) λ_=>br (λ_=>i0 rfl ?_) λ_=>?_) λ_=>br (λ_=>i0 rfl ?_) λ_=>br (λ_=>?_) λ_=>br (λ_=>i0 rfl ?_) λ_=>?_) (λ_=>br (λ_=>br (λ_=>i0 rfl ?_) λ_=>br (λ_=>br (λ_=>i0 rfl ?_) λ_=>br (λ_=>?_) λ_=>br (λ_=>i0 rfl ?_) λ_=>?_) λ_=>br (λ_=>i0 rfl ?_) λ_=>br (λ_=>?_) λ_=>br (λ_=>i0 rfl ?_) λ_=>?_) λ_=>br (λ_=>br (λ_=>i0 rfl ?_) λ_=>br (λ_=>br (λ_=>i0 rfl ?_) λ_=>br (λ_=>?_) λ_=>br (λ_=>i0 rfl ?_) λ_=>?_) λ_=>br (λ_=>i0 rfl ?_) λ_=>br (λ_=>?_) λ_=>br (λ_=>i0 rfl ?_) λ_=>?_) λ_=>br (λ_=>i0 rfl ?_) λ_=>br (λ_=>br (λ_=>i0 rfl ?_) λ_=>br (λ_=>?_) λ_=>br (λ_=>i0 rfl ?_) λ_=>?_) λ_=>br (λ_=>i0 rfl ?_) λ_=>br (λ_=>?_) λ_=>br (λ_=>i0 rfl ?_) λ_=>?_);all_goals first|rfl|(simp only [*,zvr,ze1,cT,cF]<;>rfl)|simp_all[Ty.cells,zvr,ze1]
def zUJ:vU 453 zsN:=hF1 zg6 zA zu zl (zq []) zIM
def zUw:vU 451 zsN:=hF1 zg6 zA zu zl (zq []) zIM
def zjC (e:aD):Bool:=bif (ieq e.Kind 0||ieq e.Kind 4) then (ieq e.af 0&&(!e.Write&&ieq e.N 0)) else (cond (ieq e.Kind 1) (zk e.af 0 3&&ieq e.N 0)<|cond (ieq e.Kind 2||ieq e.Kind 3) (zk e.N 0 99&&(ieq e.af 0 && !e.Write)) false)
@[simp] def zbgn (x:Bool):zj1 x false = !x:=by cases x<;>rfl
attribute [simp] zcP
@[simp] abbrev zu5 (e:aD):Bool:=true
@[simp] abbrev zmZ (e:aD):Bool:=zjC e
def zqx:Run:=rF1 dE λb=>(zu5 b,[aB<|zmZ b])
def zL5 (N:Nat)(a:aD):OA:=
 let f:=zk a.N 0 99;let e:=zO a.N 0 99;let d:=ieq a.Kind 2;let b:=ieq a.af 0;let c:=aB<|nB a.Write;let g:=aB<|cond (ieq a.Kind a.Kind) (cond b (cond (zj1 a.Write false) (ieq a.N 0) false) false) false; (cond (ieq a.Kind 0) (cond (ieq a.Kind 0) (some [g])<|cond (ieq a.Kind 1) (oN (zO a.af 0 3)<|cond (zk a.af 0 3) (some [aB<|ieq a.N 0]) oF)<|cond d (cond d (oN e<|cond f (cond b (some [c]) oF) oF) oF)<|cond (ieq a.Kind 3) (oN e<|cond f (cond b (some [c]) oF) oF) oF)<|cond (ieq a.Kind 4) (some [g])<|cond (ieq a.Kind 1) (oN (zO a.af 0 3)<|cond (zk a.af 0 3) (some [aB<|ieq a.N 0]) oF)<|cond d (cond d (oN e<|cond f (cond b (some [c]) oF) oF) oF)<|cond (ieq a.Kind 3) (oN e<|cond f (cond b (some [c]) oF) oF) oF)
def zYl (a:aD)(b:zu5 a=true):∃N,zL5 N a=some [aB<|zmZ a]:=by
 refine⟨0,?_⟩;unfold zL5 oN nB;conv=>zeta
 refine br (λ_=>br (λ_=>?_) λ_=>br (λ_=>i0 rfl (br (λ_=>?_) λ_=>?_)) λ_=>br (λ_=>br (λ_=>i0 rfl (br (λ_=>br (λ_=>?_) λ_=>?_) λ_=>?_)) λ_=>?_) λ_=>br (λ_=>i0 rfl (br (λ_=>br (λ_=>?_) λ_=>?_) λ_=>?_)) λ_=>?_) (λ_=>br (λ_=>?_) λ_=>br (λ_=>i0 rfl (br (λ_=>?_) λ_=>?_)) λ_=>br (λ_=>br (λ_=>i0 rfl (br (λ_=>br (λ_=>?_) λ_=>?_) λ_=>?_)) λ_=>?_) λ_=>br (λ_=>i0 rfl (br (λ_=>br (λ_=>?_) λ_=>?_) λ_=>?_)) λ_=>?_);all_goals first|rfl|(simp only [*,zmZ,zjC,cT,cF]<;>rfl)|simp_all[Ty.cells,zmZ,zjC]
def zQR:vU 383 zqx:=kF1 zg6 zA zu zl (zq []) zYl
def zLK (N:Nat)(a:aD):OA:=
 let g:=zk a.N 0 99;let f:=zO a.N 0 99;let e:=ieq a.Kind 2;let d:=aB<|ieq a.N 0;let b:=ieq a.af 0;let c:=aB<|nB a.Write; (cond (ieq a.Kind 0) (cond (ieq a.Kind 0) (cond b (cond (nB a.Write) (some [d]) oF) oF)<|cond (ieq a.Kind 1) (oN (zO a.af 0 3)<|cond (zk a.af 0 3) (some [d]) oF)<|cond e (cond e (oN f<|cond g (cond b (some [c]) oF) oF) oF)<|cond (ieq a.Kind 3) (oN f<|cond g (cond b (some [c]) oF) oF) oF)<|cond (ieq a.Kind 4) (cond b (cond (nB a.Write) (some [d]) oF) oF)<|cond (ieq a.Kind 1) (oN (zO a.af 0 3)<|cond (zk a.af 0 3) (some [d]) oF)<|cond e (cond e (oN f<|cond g (cond b (some [c]) oF) oF) oF)<|cond (ieq a.Kind 3) (oN f<|cond g (cond b (some [c]) oF) oF) oF)
def zX2 (a:aD)(b:zu5 a=true):∃N,zLK N a=some [aB<|zmZ a]:=by
 refine⟨0,?_⟩;unfold zLK oN nB;conv=>zeta
 refine br (λ_=>br (λ_=>br (λ_=>brN (λ_=>?_) λ_=>?_) λ_=>?_) λ_=>br (λ_=>i0 rfl (br (λ_=>?_) λ_=>?_)) λ_=>br (λ_=>br (λ_=>i0 rfl (br (λ_=>br (λ_=>?_) λ_=>?_) λ_=>?_)) λ_=>?_) λ_=>br (λ_=>i0 rfl (br (λ_=>br (λ_=>?_) λ_=>?_) λ_=>?_)) λ_=>?_) (λ_=>br (λ_=>br (λ_=>brN (λ_=>?_) λ_=>?_) λ_=>?_) λ_=>br (λ_=>i0 rfl (br (λ_=>?_) λ_=>?_)) λ_=>br (λ_=>br (λ_=>i0 rfl (br (λ_=>br (λ_=>?_) λ_=>?_) λ_=>?_)) λ_=>?_) λ_=>br (λ_=>i0 rfl (br (λ_=>br (λ_=>?_) λ_=>?_) λ_=>?_)) λ_=>?_);all_goals first|rfl|(simp only [*,zmZ,zjC,cT,cF]<;>rfl)|simp_all[Ty.cells,zmZ,zjC]
def zQq:vU 380 zqx:=kF1 zg6 zA zu zl (zq []) zX2
def zw3 (c:Ctl):LI:=(cond (zk c.aq 0 3) [] [1])++((cond (zk c.Post 0 255) [] [2])++((cond (ine c.Post 0) (cond c.Open [] [3]) [])++(cond (ieq c.aq 2) (cond (ine c.Post 0) [4] []) [])))
@[simp] def zbgk {a:Type}(x:a)(l m:List a):ap (x::l) m=x::ap l m:=rfl
@[simp] abbrev zgX (c:Ctl):Bool:=true
@[simp] abbrev zor (c:Ctl):LI:=zw3 c
def zmp:Run:=rF1 dC λb=>(zgX b,[aS .int<|zor b])
def zCt (N:Nat)(b:Ctl):OA:=
 let e:=aS .int [];let k:=ap (ap [] [2]) [4];let j:=ap (ap [] [1]) [4];let i:=aS .int<|ap [] [2];let h:=aS .int<|ap [] [1];let g:=ap (ap [] [2]) [3];let f:=ap (ap [] [1]) [3];let c:=ieq b.aq 2;let a:=ine b.Post 0;let d:=ap (ap [] [1]) [2];let l:=aS .int d; (oN (zO b.aq 0 3)<|cond (nB<|zk b.aq 0 3) (oN (few<|ln<|ap [] [1])<|oN (zO b.Post 0 255)<|cond (nB<|zk b.Post 0 255) (oN (few<|ln d)<|cond a (cond (nB b.Open) (oN (few<|ln<|ap d [3])<|cond c (cond a (oN (few<|ln<|ap (ap d [3]) [4])<|some [aS .int<|ap (ap d [3]) [4]])<|some [aS .int<|ap d [3]])<|some [aS .int<|ap d [3]])<|cond c (cond a (oN (few<|ln<|ap d [4])<|some [aS .int<|ap d [4]])<|some [l])<|some [l])<|cond c (cond a (oN (few<|ln<|ap d [4])<|some [aS .int<|ap d [4]])<|some [l])<|some [l])<|cond a (cond (nB b.Open) (oN (few<|ln f)<|cond c (cond a (oN (few<|ln<|ap f [4])<|some [aS .int<|ap f [4]])<|some [aS .int f])<|some [aS .int f])<|cond c (cond a (oN (few<|ln j)<|some [aS .int j])<|some [h])<|some [h])<|cond c (cond a (oN (few<|ln j)<|some [aS .int j])<|some [h])<|some [h])<|oN (zO b.Post 0 255)<|cond (nB<|zk b.Post 0 255) (oN (few<|ln<|ap [] [2])<|cond a (cond (nB b.Open) (oN (few<|ln g)<|cond c (cond a (oN (few<|ln<|ap g [4])<|some [aS .int<|ap g [4]])<|some [aS .int g])<|some [aS .int g])<|cond c (cond a (oN (few<|ln k)<|some [aS .int k])<|some [i])<|some [i])<|cond c (cond a (oN (few<|ln k)<|some [aS .int k])<|some [i])<|some [i])<|cond a (cond (nB b.Open) (oN (few<|ln<|ap [] [3])<|cond c (cond a (oN (few<|ln<|ap (ap [] [3]) [4])<|some [aS .int<|ap (ap [] [3]) [4]])<|some [aS .int<|ap [] [3]])<|some [aS .int<|ap [] [3]])<|cond c (cond a (oN (few<|ln<|ap [] [4])<|some [aS .int<|ap [] [4]])<|some [e])<|some [e])<|cond c (cond a (oN (few<|ln<|ap [] [4])<|some [aS .int<|ap [] [4]])<|some [e])<|some [e])
def zxn (a:Ctl)(b:zbE big [.agg<|zn6 a])(c:zgX a=true):∃N,zCt N a=some [aS .int<|zor a]:=by
 refine⟨0,?_⟩;unfold zCt oN nB;conv=>zeta
 refine i0 rfl (brN (λ_=>mu (i0 rfl (brN (λ_=>mu (br (λ_=>brN (λ_=>mu (br (λ_=>br (λ_=>mu ?_) λ_=>?_) λ_=>?_)) λ_=>br (λ_=>br (λ_=>mu ?_) λ_=>?_) λ_=>?_) λ_=>br (λ_=>br (λ_=>mu ?_) λ_=>?_) λ_=>?_)) λ_=>br (λ_=>brN (λ_=>mu (br (λ_=>br (λ_=>mu ?_) λ_=>?_) λ_=>?_)) λ_=>br (λ_=>br (λ_=>mu ?_) λ_=>?_) λ_=>?_) λ_=>br (λ_=>br (λ_=>mu ?_) λ_=>?_) λ_=>?_))) λ_=>i0 rfl (brN (λ_=>mu (br (λ_=>brN (λ_=>mu (br (λ_=>br (λ_=>mu ?_) λ_=>?_) λ_=>?_)) λ_=>br (λ_=>br (λ_=>mu ?_) λ_=>?_) λ_=>?_) λ_=>br (λ_=>br (λ_=>mu ?_) λ_=>?_) λ_=>?_)) λ_=>br (λ_=>brN (λ_=>mu (br (λ_=>br (λ_=>mu ?_) λ_=>?_) λ_=>?_)) λ_=>br (λ_=>br (λ_=>mu ?_) λ_=>?_) λ_=>?_) λ_=>br (λ_=>br (λ_=>mu ?_) λ_=>?_) λ_=>?_));all_goals first|rfl|(simp only [*,zor,zw3,cT,cF]<;>rfl)|simp_all[Ty.cells,zor,zw3]
def zG0:vU 437 zmp:=hF1 zg6 zA zu zl (zq []) zxn
def zGK:vU 452 zmp:=hF1 zg6 zA zu zl (zq []) zxn
def len8tab:ByteArray:=⟨⟨[0,1,2,2,3,3,3,3,4,4,4,4,4,4,4,4,5,5,5,5,5,5,5,5,5,5,5,5,5,5,5,5,6,6,6,6,6,6,6,6,6,6,6,6,6,6,6,6,6,6,6,6,6,6,6,6,6,6,6,6,6,6,6,6,7,7,7,7,7,7,7,7,7,7,7,7,7,7,7,7,7,7,7,7,7,7,7,7,7,7,7,7,7,7,7,7,7,7,7,7,7,7,7,7,7,7,7,7,7,7,7,7,7,7,7,7,7,7,7,7,7,7,7,7,7,7,7,7,8,8,8,8,8,8,8,8,8,8,8,8,8,8,8,8,8,8,8,8,8,8,8,8,8,8,8,8,8,8,8,8,8,8,8,8,8,8,8,8,8,8,8,8,8,8,8,8,8,8,8,8,8,8,8,8,8,8,8,8,8,8,8,8,8,8,8,8,8,8,8,8,8,8,8,8,8,8,8,8,8,8,8,8,8,8,8,8,8,8,8,8,8,8,8,8,8,8,8,8,8,8,8,8,8,8,8,8,8,8,8,8,8,8,8,8,8,8,8,8,8,8,8,8,8,8,8,8]⟩⟩
def zih (p n:Int):Bool:=ieq (wand .i64 (zlE .i64 p n) 1) 1
def scan (p:Int):Int:=bif zih p 7 then 7 else (cond (zih p 6) 6<|cond (zih p 5) 5<|cond (zih p 4) 4<|cond (zih p 3) 3<|cond (zih p 2) 2<|cond (zih p 1) 1<|cond (zih p 0) 0<|-1)
def zbaB:∀n:Fin 256,zI .i64 0 (wcv .i64<|byteAt len8tab<|wcv .u8 (n.val:Int))=scan (n.val:Int)+1:=by decide +kernel
def zZF:∀n:Fin 256,-1<=scan (n.val:Int)/\scan (n.val:Int)<=7/\(0<=scan (n.val:Int)->wsub .i64 (n.val:Int) (zne .i64 1<|scan (n.val:Int))=zB8 .i64 (n.val:Int) (zne .i64 1<|scan (n.val:Int))):=by decide +kernel
def zFB {P:Int->Prop}(h:∀n:Fin 256,P (n.val:Int)){x:Int}(a:0<=x)(b:x<=255):P x:=by have:=h ⟨x.toNat,by omega⟩;have e:((x.toNat:Nat):Int)=x:=(by omega);simpa [e] using this
def zoa (x:Int):Bool:=pc (0<=x/\x<=255)
def zjY (x:Int):Int:=scan x+1
def zjh:LW
 |[.one<|.i .u64 b]=>some (zoa b,[aI<|zjY b])
 |_=>none
def zn3 (N:Nat)(a:Int):OA:=
 let d:=zlE .u64 a 16;let b:=zlE .u64 a 32;let c:=zlE .u64 b 16; (cond (ige a 4294967296) (oN (ile 0 32)<|cond (ige b 65536) (oN (ile 0 16)<|cond (ige c 256) (oN (ile 0 8)<|oN (inb (wcv .u8<|zlE .u64 c 8) 256)<|some [aI<|zI .i64 (zI .i64 (zI .i64 32 16) 8)<|wcv .i64<|byteAt len8tab<|wcv .u8<|zlE .u64 c 8])<|oN (inb (wcv .u8 c) 256)<|some [aI<|zI .i64 (zI .i64 32 16)<|wcv .i64<|byteAt len8tab<|wcv .u8 c])<|cond (ige b 256) (oN (ile 0 8)<|oN (inb (wcv .u8<|zlE .u64 b 8) 256)<|some [aI<|zI .i64 (zI .i64 32 8)<|wcv .i64<|byteAt len8tab<|wcv .u8<|zlE .u64 b 8])<|oN (inb (wcv .u8 b) 256)<|some [aI<|zI .i64 32<|wcv .i64<|byteAt len8tab<|wcv .u8 b])<|cond (ige a 65536) (oN (ile 0 16)<|cond (ige d 256) (oN (ile 0 8)<|oN (inb (wcv .u8<|zlE .u64 d 8) 256)<|some [aI<|zI .i64 (zI .i64 (zI .i64 0 16) 8)<|wcv .i64<|byteAt len8tab<|wcv .u8<|zlE .u64 d 8])<|oN (inb (wcv .u8 d) 256)<|some [aI<|zI .i64 (zI .i64 0 16)<|wcv .i64<|byteAt len8tab<|wcv .u8 d])<|cond (ige a 256) (oN (ile 0 8)<|oN (inb (wcv .u8<|zlE .u64 a 8) 256)<|some [aI<|zI .i64 (zI .i64 0 8)<|wcv .i64<|byteAt len8tab<|wcv .u8<|zlE .u64 a 8])<|oN (inb (wcv .u8 a) 256)<|some [aI<|zI .i64 0<|wcv .i64<|byteAt len8tab<|wcv .u8 a])
def zFz (N:Nat)(a:Int):evalFn (cQ z3N zqg zLd zZZ) (zq []) N 12 455 [.one<|.i .u64 a]=zn3 N a:=by kernel_rfl
def zDO (a:Int)(g:zbE big [.one<|.i .u64 a])(f:zoa a=true):∃N,zn3 N a=some [aI<|zjY a]:=by
 obtain⟨b,c⟩:=zM.1 f;refine⟨0,?_⟩;unfold zn3 oN;conv=>zeta
 refine zcB (qI (by omega)) ?_;refine zcB (qI (by omega)) ?_;refine zcB (qI (by omega)) ?_;have e:inb (wcv .u8 a) 256=true:=zFB (P:=λx=>inb (wcv .u8 x) 256=true) (by decide +kernel) b c;refine i0 e ?_;have d:=zFB (P:=λx=>zI .i64 0 (wcv .i64<|byteAt len8tab<|wcv .u8 x)=scan x+1) zbaB b c;rw[d];rfl
def zpw:vU 455 zjh:=zXJ zg6 zA zu zl (zkp (by kernel_rfl)) λa d b h=>by unfold zjh at h;split at h;{obtain⟨c,rfl⟩:=zeP h;exact(zDO _ b c).elim λN e=>⟨zq [],N,(zFz N _).trans e⟩};{cases h}
def zbbO:zZ:=[(291,zqm),(213,zoQ),(207,zoQ),(216,zqD),(211,zqD),(453,zsN),(451,zsN),(383,zqx),(380,zqx),(437,zmp),(452,zmp),(455,zjh)]++z3N
def zg7:zS zbbO:=zh zQP (zh zNE<|zh zNg<|zh zQZ<|zh zQA<|zh zUJ<|zh zUw<|zh zQR<|zh zQq<|zh zG0<|zh zGK<|zh zpw zg6)
def zjG (m:List LI)(n:Int):Bool:=bif m.all zcN then ieq (ln m) n else false
@[simp] abbrev zjS (m:List LI)(n:Int):Bool:=true
@[simp] abbrev zf8 (m:List LI)(n:Int):Bool:=zjG m n
def zsO:Run:=rF2 (dS<|.sl .int) dI λb c=>(zjS b c,[aB<|zf8 b c])
def zS6 (N:Nat)(c:lM)(d:Int):OA:=
 (r0 (σ:=(Int×Int×lM×Unit)) N (λe a=>let b:=a.2.2.1; (cond (ilt a.2.1<|ln b) (oN (inb a.2.1<|ln b)<|oN (zd3<|ix b a.2.1 [])<|cond (nB<|zdl<|ix b a.2.1 []) oF<|e (a.1,zI .i64 a.2.1 1,b,()))<|some [aB<|ieq (ln b) a.1])) (d,0,c,()))
def z14:=zq [(120,0,{n:=22,tm:=[(0,.sl 0 []),(1,ti),(5,ti)],lo:=[],ro:=[(0,.sl .int,false)]})]
def z1e (a:List LI)(c:Int)(h:zbE big [aS (.sl .int) a,aI c])(k:zjS a c=true):∃N,zS6 N a c=some [aB<|zf8 a c]:=by
 have g:(_:List _).length<=big:=((zdy h).1 _ (qF.2 rfl)).len;refine zb2 λN f=>?_;unfold zS6 oN nB;conv=>zeta
 refine(zbl a (λi (t:Unit)=>(c,(i:Int),a,())) _ (λ_ x (_:Unit) j=>bif (zcN) x then j () else oF) (λ(t:Unit)=>some [.one<|.b<|ieq (ln a) c]) (λi d t rec=>?_) (λt rec=>?_) _ ()<|f g).trans ?_;{simp only [zbo d,zX d,zbh d,zY d g,cT];exact zjZ rfl};{simp only [zbj,cF]};rw[zhR<|zcN];refine br (λe=>?_) (λe=>?_);{first|rfl|(simp only [e,zf8,zjG,cT,cF]<;>rfl)|(simp_all [Ty.cells,zf8,zjG];done)};{first|rfl|(simp only [e,zf8,zjG,cT,cF]<;>rfl)|(simp_all [Ty.cells,zf8,zjG];done)}
def zUK:vU 120 zsO:=hF2 zg7 zA zu zl z14 z1e
def zSU (N:Nat)(c:lM)(d:Int):OA:=
 (r0 (σ:=(Int×Int×Int×lM×Unit)) N (λe a=>let b:=a.2.2.2.1; (cond (ilt a.2.2.1 a.2.1) (oN (inb a.2.2.1<|ln b)<|oN (zd3<|ix b a.2.2.1 [])<|cond (nB<|zdl<|ix b a.2.2.1 []) oF<|e (a.1,a.2.1,zI .i64 a.2.2.1 1,b,()))<|some [aB<|ieq (ln b) a.1])) (d,ln c,0,c,()))
def z1X:=zq [(218,0,{n:=21,tm:=[(0,.sl 0 []),(1,ti),(7,.sl 0 []),(8,ti),(9,ti)],lo:=[],ro:=[(0,.sl .int,false)]})]
def z03 (a:List LI)(c:Int)(h:zbE big [aS (.sl .int) a,aI c])(k:zjS a c=true):∃N,zSU N a c=some [aB<|zf8 a c]:=by
 have g:(_:List _).length<=big:=((zdy h).1 _ (qF.2 rfl)).len;refine zb2 λN f=>?_;unfold zSU oN nB;conv=>zeta
 refine(zbl a (λi (t:Unit)=>(c,ln a,(i:Int),a,())) _ (λ_ x (_:Unit) j=>bif (zcN) x then j () else oF) (λ(t:Unit)=>some [.one<|.b<|ieq (ln a) c]) (λi d t rec=>?_) (λt rec=>?_) _ ()<|f g).trans ?_;{simp only [zbo d,zX d,zbh d,zY d g,cT];exact zjZ rfl};{simp only [zbj,cF]};rw[zhR<|zcN];refine br (λe=>?_) (λe=>?_);{first|rfl|(simp only [e,zf8,zjG,cT,cF]<;>rfl)|(simp_all [Ty.cells,zf8,zjG];done)};{first|rfl|(simp only [e,zf8,zjG,cT,cF]<;>rfl)|(simp_all [Ty.cells,zf8,zjG];done)}
def zUx:vU 218 zsO:=hF2 zg7 zA zu zl z1X z03
def zdN (p:List Ins):Bool:=bif p.all ze1 then zk (ln p) 1 12 else false
@[simp] abbrev zu9 (p:List Ins):Bool:=true
@[simp] abbrev zh8 (p:List Ins):Bool:=zdN p
def zqF:Run:=rF1 (dS .ins) λb=>(zu9 b,[aB<|zh8 b])
def zMh (N:Nat)(c:lI):OA:=
 (r0 (σ:=(Int×lI×Unit)) N (λd a=>let b:=ix a.2.1 a.1 zrD; (cond (ilt a.1<|ln a.2.1) (oN (inb a.1<|ln a.2.1)<|oN (zxZ b)<|cond (nB<|zvr b) oF<|d (zI .i64 a.1 1,a.2.1,()))<|oN (zO (ln a.2.1) 1 12)<|some [aB<|zk (ln a.2.1) 1 12])) (0,c,()))
def z0h:=zq [(382,0,{n:=19,tm:=[(0,.sl 0 []),(3,ti)],lo:=[],ro:=[(0,.ins,false)]})]
def zYv (a:List Ins)(g:zbE big [aS .ins a])(j:zu9 a=true):∃N,zMh N a=some [aB<|zh8 a]:=by
 have f:(_:List _).length<=big:=((zdy g).1 _ (qF.2 rfl)).len;refine zb2 λN e=>?_;unfold zMh oN nB;conv=>zeta
 refine(zbl a (λi (t:Unit)=>((i:Int),a,())) _ (λ_ x (_:Unit) h=>bif (ze1) x then h () else oF) (λ(t:Unit)=>cond (zO (ln a) 1 12) (some [.one<|.b<|zk (ln a) 1 12]) none) (λi c t rec=>?_) (λt rec=>?_) _ ()<|e f).trans ?_;{simp only [zbo c,zX c,zbh c,zY c f,cT];exact zjZ rfl};{simp only [zbj,cF]};rw[zhR<|ze1];refine br (λd=>?_) (λd=>?_);{refine i0 rfl ?_;first|rfl|(simp only [d,zh8,zdN,cT,cF]<;>rfl)|(simp_all [Ty.cells,zh8,zdN];done)};{first|rfl|(simp only [d,zh8,zdN,cT,cF]<;>rfl)|(simp_all [Ty.cells,zh8,zdN];done)}
def zQ1:vU 382 zqF:=hF1 zg7 zA zu zl z0h zYv
def zLS (N:Nat)(b:lI):OA:=
 (r0 (σ:=(Int×Int×lI×Unit)) N (λd a=>let c:=ix a.2.2.1 a.2.1 zrD; (cond (ilt a.2.1 a.1) (oN (inb a.2.1<|ln a.2.2.1)<|oN (zxZ c)<|cond (nB<|zvr c) oF<|d (a.1,zI .i64 a.2.1 1,a.2.2.1,()))<|oN (zO (ln a.2.2.1) 1 12)<|some [aB<|zk (ln a.2.2.1) 1 12])) (ln b,0,b,()))
def zZ7:=zq [(378,0,{n:=18,tm:=[(0,.sl 0 []),(5,.sl 0 []),(6,ti),(7,ti)],lo:=[],ro:=[(0,.ins,false)]})]
def zYa (a:List Ins)(g:zbE big [aS .ins a])(j:zu9 a=true):∃N,zLS N a=some [aB<|zh8 a]:=by
 have f:(_:List _).length<=big:=((zdy g).1 _ (qF.2 rfl)).len;refine zb2 λN e=>?_;unfold zLS oN nB;conv=>zeta
 refine(zbl a (λi (t:Unit)=>(ln a,(i:Int),a,())) _ (λ_ x (_:Unit) h=>bif (ze1) x then h () else oF) (λ(t:Unit)=>cond (zO (ln a) 1 12) (some [.one<|.b<|zk (ln a) 1 12]) none) (λi c t rec=>?_) (λt rec=>?_) _ ()<|e f).trans ?_;{simp only [zbo c,zX c,zbh c,zY c f,cT];exact zjZ rfl};{simp only [zbj,cF]};rw[zhR<|ze1];refine br (λd=>?_) (λd=>?_);{refine i0 rfl ?_;first|rfl|(simp only [d,zh8,zdN,cT,cF]<;>rfl)|(simp_all [Ty.cells,zh8,zdN];done)};{first|rfl|(simp only [d,zh8,zdN,cT,cF]<;>rfl)|(simp_all [Ty.cells,zh8,zdN];done)}
def zQC:vU 378 zqF:=hF1 zg7 zA zu zl zZ7 zYa
def zno (c:Ctl):Bool:=ieq (ln<|zw3 c) 0
@[simp] abbrev zsa (c:Ctl):Bool:=zno c
def zsL:Run:=rF1 dC λb=>(zgX b,[aB<|zsa b])
def zS2 (N:Nat)(a:Ctl):OA:=
 (oN (zgX a)<|some [aB<|ieq (ln<|zor a) 0])
def zIL (a:Ctl)(b:zbE big [.agg<|zn6 a])(c:zgX a=true):∃N,zS2 N a=some [aB<|zsa a]:=by refine⟨0,?_⟩;unfold zS2 oN;refine i0 rfl ?_;first|rfl|(simp only [*,zsa,zno,cT,cF]<;>rfl)|simp_all[Ty.cells,zsa,zno]
def zUG:vU 351 zsL:=hF1 zg7 zA zu zl (zq []) zIL
def zUu:vU 379 zsL:=hF1 zg7 zA zu zl (zq []) zIL
def zes (p:Int):Int:=bif zd2 p then scan p else -1
def zSR {x:Int}(a:0<=x)(b:x<=255):wcv .u64 x=x:=zFB (P:=λx=>wcv .u64 x=x) (by decide +kernel) a b
@[simp] abbrev zh2 (p:Int):Int:=zes p
def zqo:Run:=rF1 dI λb=>(zcl b,[aI<|zh2 b])
def zLX (N:Nat)(a:Int):OA:=
 (oN (zcl a)<|cond (nB<|zeR a) (some [aI<|-1])<|oN (zoa<|wcv .u64 a)<|some [aI<|wsub .i64 (zjY<|wcv .u64 a) 1])
def zYf (a:Int)(d:zcl a=true):∃N,zLX N a=some [aI<|zh2 a]:=by refine⟨0,?_⟩;unfold zLX oN nB;refine i0 rfl ?_;cases h:zd2 a;{refine i0 (by simp[h]) ?_;simp[zes,h]};{obtain⟨b,c⟩:=zf1.1 h;have r:=zFB (P:=λx=>-1<=scan x/\scan x<=7/\(0<=scan x->wsub .i64 x (zne .i64 1<|scan x)=zB8 .i64 x (zne .i64 1<|scan x))) zZF b c;refine zcB (by simp[h]) ?_;rw[zSR b c];refine i0 (zbg ⟨b,c⟩) ?_;have e:wsub .i64 (zjY a) 1=scan a:=(by unfold zjY;rw[zpJ (by omega) (by omega)];omega);rw[e];simp[zes,h]}
def zQI:vU 458 zqo:=kF1 zg7 zA zu zl (zq []) zYf
def zMn (N:Nat)(b:Int):OA:=
 (r0 (σ:=(Int×Int×Unit)) N (λc a=>cond (ige a.2.1 0) (oN (zcl a.1)<|cond (zeR a.1) (oN (ile 0<|wcv .u64 a.2.1)<|cond (ieq (wand .i64 (zlE .i64 a.1<|wcv .u64 a.2.1) 1) 1) (some [aI a.2.1])<|c (a.1,wsub .i64 a.2.1 1,()))<|some [aI<|-1])<|some [aI<|-1]) (b,7,()))
def z0j:=zq [(439,0,{n:=19,tm:=[(0,ti),(3,ti)],lo:=[],ro:=[]})]
def zYA (a:Int)(C:zcl a=true):∃N,zMn N a=some [aI<|zh2 a]:=by refine⟨10,?_⟩;unfold zMn oN;cases h:zd2 a;{rw [zei];refine i0 rfl ?_;refine i0 rfl ?_;refine zcB h ?_;simp[zes,h]};{have c:zeR a=true:=h;rw[zei];refine i0 rfl (i0 rfl (i0 c (i0 rfl (br (λr=>?_) λr=>?_))));{have A:zih a 7=true:=r;simp[zes,h,scan,A]};have b:zih a 7=false:=r;show r0 9 _ (a,6,())=_;rw[zei];refine i0 rfl (i0 rfl (i0 c (i0 rfl (br (λq=>?_) λq=>?_))));{have z:zih a 6=true:=q;simp[zes,h,scan,z,b]};have d:zih a 6=false:=q;show r0 8 _ (a,5,())=_;rw[zei];refine i0 rfl (i0 rfl (i0 c (i0 rfl (br (λp=>?_) λp=>?_))));{have y:zih a 5=true:=p;simp[zes,h,scan,y,b,d]};have e:zih a 5=false:=p;show r0 7 _ (a,4,())=_;rw[zei];refine i0 rfl (i0 rfl (i0 c (i0 rfl (br (λn=>?_) λn=>?_))));{have x:zih a 4=true:=n;simp[zes,h,scan,x,b,d,e]};have f:zih a 4=false:=n;show r0 6 _ (a,3,())=_;rw[zei];refine i0 rfl (i0 rfl (i0 c (i0 rfl (br (λm=>?_) λm=>?_))));{have w:zih a 3=true:=m;simp[zes,h,scan,w,b,d,e,f]};have g:zih a 3=false:=m;show r0 5 _ (a,2,())=_;rw[zei];refine i0 rfl (i0 rfl (i0 c (i0 rfl (br (λl=>?_) λl=>?_))));{have v:zih a 2=true:=l;simp[zes,h,scan,v,b,d,e,f,g]};have i:zih a 2=false:=l;show r0 4 _ (a,1,())=_;rw[zei];refine i0 rfl (i0 rfl (i0 c (i0 rfl (br (λk=>?_) λk=>?_))));{have u:zih a 1=true:=k;simp[zes,h,scan,u,b,d,e,f,g,i]};have s:zih a 1=false:=k;show r0 3 _ (a,0,())=_;rw[zei];refine i0 rfl (i0 rfl (i0 c (i0 rfl (br (λj=>?_) λj=>?_))));{have t:zih a 0=true:=j;simp[zes,h,scan,t,b,d,e,f,g,i,s]};have B:zih a 0=false:=j;show r0 2 _ (a,-1,())=_;rw[zei];refine zcB rfl ?_;simp[zes,h,scan,b,d,e,f,g,i,s,B]}
def zQ7:vU 439 zqo:=kF1 zg7 zA zu zl z0j zYA
def zbJ {c:Cur}{i k:Int}(h:zbb c)(a:0<=i):zbb ⟨c.b,i,k⟩:=⟨a,h.2⟩
def z2Q {c:Cur}(h:zbb c){l:LI}(a:l≠[]):zbq c l∈l:=(zAp<|zfa h a).2.2 (kX.2 a)
def zfB {c:Cur}(h:zbb c){n:Int}(a:0<n):0<=zo c n/\zo c n<n:=(zi8<|zbw h n).2.2 a
def zN5 {o x:Int}(h:(o=1\/o=2\/o=5\/o=6)/\0<=x/\x<=99\/(o=3\/o=4)/\0<=x/\x<=15\/o=8/\0<=x/\x<=11):ze1 ⟨o,x⟩=true:=by have w:∀{a b:Int},a<=x->x<=b->zk x a b=true:=λc d=>(by simp only[zk,ige,ile,qE,q9];exact⟨c,d⟩);rcases h with⟨h|h|h|h,c,d⟩|⟨h|h,c,d⟩|⟨h,c,d⟩<;>subst h<;>exact w c d
def zAD (N:Nat)(c:Cur)  : OA :=
 let d:=zbq c [1,2,3,3,3,4,4,4,5,6,8];let a:=({ (zbd c [1,2,3,3,3,4,4,4,5,6,8]) with b:=c.b}:Cur); (p0 (oN (zC a 16)<|some [.agg [.s .u8 c.b,.i .i64 (zf a 16).i,.i .i64 (zf a 16).h],.agg [.i .i64 d,.i .i64<|zo a 16]]) λf=>p0 (cond (ieq d 8) (oN (zC a 4)<|some [.agg [.s .u8 c.b,.i .i64 (zf a 4).i,.i .i64 (zf a 4).h],.agg [.i .i64 d,.i .i64<|zo a 4]])<|oN (zC a 100)<|some [.agg [.s .u8 c.b,.i .i64 (zf a 100).i,.i .i64 (zf a 100).h],.agg [.i .i64 d,.i .i64<|zo a 100]]) λe=>oN (zbx c [1,2,3,3,3,4,4,4,5,6,8])<|cond (ieq d 3) (cond (ieq d 3) f e)<|cond (ieq d 4) f e)
def zs6 (c:Cur)(s:Cur)(a:Ins):Prop:=(∃N,zAD N c=some (AV.agg (zb5 s)::[aT .ins a]))/\(s.b=c.b/\0<=s.i)/\(ze1 a=true)
def zlw (c:Cur)  : Bool:=wC (zs6 c)
def zhy (c:Cur)  : Cur:=wS (zs6 c)
def zhf (c:Cur)  : Ins:=wV (zs6 c)
def zO8 {c:Cur}(h:zlw c=true):zs6 c (zhy c) (zhf c):=wG h
def zBR (c:Cur)  : 0<=(zhy c).i:=wP λh=>h.2.1.2
def z5h (c:Cur)(h:∃N,Ends (wE (λa=>aT .ins a) c.b λa=>ze1 a=true)<|zAD N c):zlw c=true:=wI (λ_ _ h=>h) h
def zCR:zeg:=rP0 λc=>(zlw c,zhy c,[aT .ins<|zhf c])
def zRd:zbX Tryz.prog 447 [false,true,true] zCR:=hP0 zeo zU zYY zl (zq []) (λ_ h=>(zO8 h).1)
def zWl {c:Cur}(h:zbb c):zlw c=true:=by
 refine z5h c ⟨0,?_⟩;have p:([1,2,3,3,3,4,4,4,5,6,8]:LI)≠[]:=(by simp);have q:=z2Q h p;have f:zbb {zbd c [1,2,3,3,3,4,4,4,5,6,8] with b:=c.b}:=zbJ h (zb1 _ _);have t:=zfB f (n:=16) (by omega);have w:=zfB f (n:=4) (by omega);have m:=zfB f (n:=100) (by omega);unfold zAD oN;conv=>zeta
 generalize zbq c [1,2,3,3,3,4,4,4,5,6,8]=o at q;simp only[qG,qM,or_false]at q;have j:∀{n:Int},ieq o n=false->o≠n:=λh e=>(by subst e;simp[ieq]at h);have k:∀{n:Int},ieq o n=true->o=n:=λh=>by simpa [ieq] using h
 have L:∀(n:Int),0<n->(ze1 ⟨o,zo {zbd c [1,2,3,3,3,4,4,4,5,6,8] with b:=c.b} n⟩=true)->Ends (λa=>∃s r,a=(AV.agg (zb5 s)::[aT .ins r])/\(s.b=c.b/\0<=s.i)/\ze1 r=true)
  (cond (zC {zbd c [1,2,3,3,3,4,4,4,5,6,8] with b:=c.b} n) (some (AV.agg [.s .u8 c.b,.i .i64 (zf {zbd c [1,2,3,3,3,4,4,4,5,6,8] with b:=c.b} n).i,.i .i64 (zf {zbd c [1,2,3,3,3,4,4,4,5,6,8] with b:=c.b} n).h]::[.agg [.i .i64 o,.i .i64<|zo {zbd c [1,2,3,3,3,4,4,4,5,6,8] with b:=c.b} n]])) none):=
  λn x u=>zB (zbw f n) (zbC (aT .ins) (v:=⟨o,zo _ n⟩) (zG _ _) u)
 refine zB (zfa h p) (zby (λg=>zby (λ_=>L 16 (by omega) (zN5 ?_)) λd=>absurd (k g) (j d)) λg=>zby (λd=>L 16 (by omega) (zN5 ?_)) λd=>zby (λl=>L 4 (by omega) (zN5 ?_)) λl=>L 100 (by omega) (zN5 ?_));{have:=k g;omega};{have:=k d;omega};{have:=k l;omega};{have:=j g;have:=j d;have:=j l;omega}
def zbcp:zcW:=[(447,[false,true,true],zCR)]++zbco
def zYZ:zb7 zbcp:=zcq zYY (by
 intro x a;simp only[qG,qM,or_false]at a;rcases a with rfl
 .exact zRd)
def ziQ {x y:Int}(a:0<=x)(b:x<=1000000)(c:0<=y)(d:y<=1000000):zI .i64 x y=x+y:=zmd (by omega) (by omega)
def ziW {a:Type}{l:List a}(h:ln l<=1000000):few (ln l)=true:=qH ⟨by unfold ln;omega,by omega⟩
def zgB {a:Type}(l:List a)(x:a):ln (ap l [x])=ln l+1:=by simp[ln,ap]
def zyd (N:Nat)(c:Cur)  : OA :=
 (r0 (σ:=(Int×Int×Int×lI×LI×Unit)) N (λj d=>let e:=d.2.2.2.1;let f:=d.2.2.2.2.1;let g:=(⟨f,d.2.1,d.2.2.1⟩:Cur);let a:=({ (zf g 7) with b:=f}:Cur); (oN (zC g 7)<|cond (ilt d.1<|zI .i64 2<|zo g 7) (oN (zlw a)<|oN (few<|ln<|ap e [zhf a])<|j (zI .i64 d.1 1,(zhy a).i,(zhy a).h,ap e [zhf a],f,()))<|oN (zc6 a 3)<|cond (zdo a 3) (oN (few<|ln<|ap e [(⟨7,0⟩:Ins)])<|some [.agg [.s .u8 f,.i .i64 (zV a 3).i,.i .i64 (zV a 3).h],aS .ins<|ap e [(⟨7,0⟩:Ins)]])<|oN (few<|ln<|ap e [(⟨8,0⟩:Ins)])<|some [.agg [.s .u8 f,.i .i64 (zV a 3).i,.i .i64 (zV a 3).h],aS .ins<|ap e [(⟨8,0⟩:Ins)]])) (0,c.i,c.h,[],c.b,()))
def zV8:=zq [(363,0,{n:=29,tm:=[(0,.lp 0 0),(3,.sl 0 []),(4,ti)],lo:=[(0,[.sl 1 [],ti,ti])],ro:=[(0,.ins,true),(1,.u8,false)]})]
def zrk (c:Cur)(s:Cur)(a:List Ins):Prop:=(∃N,zyd N c=some (AV.agg (zb5 s)::[aS .ins a]))/\(s.b=c.b/\0<=s.i)/\(zdN a=true)
def ziC (c:Cur)  : Bool:=wC (zrk c)
def zbf (c:Cur)  : Cur:=wS (zrk c)
def zcj (c:Cur)  : List Ins:=wV (zrk c)
def zs7 {c:Cur}(h:ziC c=true):zrk c (zbf c) (zcj c):=wG h
def zkd (c:Cur)  : 0<=(zbf c).i:=wP λh=>h.2.1.2
def z1E (c:Cur)(h:∃N,Ends (wE (λa=>aS .ins a) c.b λa=>zdN a=true)<|zyd N c):ziC c=true:=wI (λ_ _ h=>h) h
def zzV:zeg:=rP0 λc=>(ziC c,zbf c,[aS .ins<|zcj c])
def zNN:zbX Tryz.prog 363 [false,true,true] zzV:=hP0 zeo zU zYZ zl zV8 (λ_ h=>(zs7 h).1)
def zFG {c:Cur}(h:zbb c):ziC c=true:=by
 refine z1E c ⟨9,?_⟩;unfold zyd oN;conv=>zeta
 refine zjB (λn s=>s.1+(n:Int)=8/\0<=s.1/\0<=s.2.1/\(∀x∈s.2.2.2.1,ze1 x=true)/\ln s.2.2.2.1=s.1/\s.2.2.2.2.1=c.b) ?_ 9 8 _ ⟨rfl,kF 0,h.1,by simp,rfl,rfl⟩ (by omega);rintro n ⟨t,i,k,l,b,u⟩ rec ⟨B,g,v,j,w,z⟩ f;dsimp only at B g v j w z ⊢;subst z;have a:zbb ⟨c.b,i,k⟩:=zbJ h v;have d:=zfB a (n:=7) (by omega);have A:=ziQ (x:=2) (by omega) (by omega) d.1 (by omega);have m:zbb {zf ⟨c.b,i,k⟩ 7 with b:=c.b}:=zbJ h (zG _ _);have e:∀(y:Ins),ze1 y=true->2<=t->zdN (ap l [y])=true:=(by intro y C D;unfold zdN;rw[zgB,w];have:(ap l [y]).all ze1=true:=(by simp only[ap,List.all_append,k9,List.all_nil,vL,qE];exact⟨qN.2 j,C⟩);rw[this,cT];simp only[zk,ige,ile,qE,q9];omega);refine zB (zbw a 7) (zby (λp=>?_) λp=>?_);{have r:t<zI .i64 2 (zo ⟨c.b,i,k⟩ 7):=qD p;rw[A]at r;refine zB (zWl m) (zB (ziW (by rw[zgB];omega))<|f (n-1) _ (by omega) ⟨?_,?_,zBR _,?_,?_,rfl⟩);{show zI .i64 t 1+_=8;rw[ziQ g (by omega) (by omega) (by omega)];omega};{show 0<=zI .i64 t 1;rw[ziQ g (by omega) (by omega) (by omega)];omega};{intro x d;rcases jC.1 d with d|d;{exact j x d};{rw [qF.1 d];exact(zO8<|zWl m).2.2}};{show ln (ap l [_])=zI .i64 t 1;rw[zgB,ziQ g (by omega) (by omega) (by omega)];omega}};{have q:¬ t<zI .i64 2 (zo ⟨c.b,i,k⟩ 7):=jQ p;rw[A]at q;refine zB (zjH m 3) (zby (λ_=>zB (ziW (by rw[zgB];omega)) (zbC (aS .ins) (zco _ _) (e _ rfl (by omega)))) λ_=>zB (ziW (by rw[zgB];omega)) (zbC (aS .ins) (zco _ _) (e _ rfl (by omega))))}
def zbcq:zcW:=[(363,[false,true,true],zzV)]++zbcp
def zY0:zb7 zbcq:=zcq zYZ (by
 intro x a;simp only[qG,qM,or_false]at a;rcases a with rfl
 .exact zNN)
def z0t {f:Type}{c:Cur}(h:zbb c){P:f->Prop}{fc:Cur->Bool}{fs:Cur->Cur}{fv:Cur->f}(C:∀{c:Cur},zbb c->fc c=true)(D:∀c,0<=(fs c).i)(hg:∀{c:Cur},zbb c->P (fv c)){G:Ans->Prop}{R:Cur->List f->Ans}(B:∀s l,s.b=c.b->0<=s.i->1<=l.length->l.length<=2->(∀x∈l,P x)->G (R s l)){F:(Int×Int×Int×List f×LI×Unit->OA)->Int×Int×Int×List f×LI×Unit->OA}(A:∀rec t i k l,F rec (t,i,k,l,c.b,())=bif zC ⟨c.b,i,k⟩ 2 then (bif ilt t (zI .i64 1 (zo ⟨c.b,i,k⟩ 2)) then (bif fc { zf ⟨c.b,i,k⟩ 2 with b:=c.b } then (bif few (ln (ap l [fv { zf ⟨c.b,i,k⟩ 2 with b:=c.b }])) then
        rec (zI .i64 t 1,(fs {zf ⟨c.b,i,k⟩ 2 with b:=c.b}).i,(fs {zf ⟨c.b,i,k⟩ 2 with b:=c.b}).h,ap l [fv {zf ⟨c.b,i,k⟩ 2 with b:=c.b}],c.b,()) else none) else none) else some (R ⟨c.b,(zf ⟨c.b,i,k⟩ 2).i,(zf ⟨c.b,i,k⟩ 2).h⟩ l)) else none) :
 Ends G (r0 3 F (0,c.i,c.h,[],c.b,())):=by
 refine zjB (fun n s=>s.1+(n:Int)=2/\0<=s.1/\0<=s.2.1/\(∀x∈s.2.2.2.1,P x)/\ln s.2.2.2.1=s.1/\s.2.2.2.2.1=c.b) ?_ 3 2 _ ⟨rfl,kF 0,h.1,by simp,rfl,rfl⟩ (by omega)
 rintro n ⟨t,i,k,l,b,u⟩ rec ⟨z,m,p,g,q,r⟩ e
 dsimp only at z m p g q r
 subst r;rw[A];have a:zbb ⟨c.b,i,k⟩:=zbJ h p;have d:=zfB a (n:=2) (by omega)
 have w:=ziQ (x:=1) (by omega) (by omega) d.1 (by omega)
 have v:zbb {zf ⟨c.b,i,k⟩ 2 with b:=c.b}:=zbJ h (zG _ _);refine zB (zbw a 2) (zby (fun j=>?_) (fun j=>?_))
 .have hlt:t<zI .i64 1 (zo ⟨c.b,i,k⟩ 2):=qD j;rw[w]at hlt;have E:=ziQ (y:=1) m (by omega) (by omega) (by omega)
  refine zB (C v) (zB (ziW (by rw[zgB];omega)) (e (n-1) _ (by omega) ⟨?_,?_,D _,?_,?_,rfl⟩))
  .show zI .i64 t 1+_=2
   omega
  .show 0<=zI .i64 t 1
   omega
  .intro x d;rcases jC.1 d with d|d
   .exact g x d
   .rw [qF.1 d];exact hg v
  .show ln (ap l [_])=zI .i64 t 1
   rw[zgB];omega
 .have hge:¬ t<zI .i64 1 (zo ⟨c.b,i,k⟩ 2):=jQ j;rw[w]at hge;unfold ln at q;exact zto (B _ l rfl (zG _ _) (by omega) (by omega) g)
def zvC (N:Nat)(c:Cur)  : OA :=
 (r0 (σ:=(Int×Int×Int×lP×LI×Unit)) N (λg a=>let f:=a.2.2.2.2.1;let e:=(⟨f,a.2.1,a.2.2.1⟩:Cur);let d:=({ (zf e 2) with b:=f}:Cur); (oN (zC e 2)<|cond (ilt a.1<|zI .i64 1<|zo e 2) (oN (ziC d)<|oN (few<|ln<|ap a.2.2.2.1 [zcj d])<|g (zI .i64 a.1 1,(zbf d).i,(zbf d).h,ap a.2.2.2.1 [zcj d],f,()))<|some [.agg [.s .u8 f,.i .i64 (zf e 2).i,.i .i64 (zf e 2).h],aS (.sl .ins) a.2.2.2.1])) (0,c.i,c.h,[],c.b,()))
def zSK:=zq [(187,0,{n:=19,tm:=[(0,.lp 0 0),(3,.sl 0 []),(4,ti)],lo:=[(0,[.sl 1 [],ti,ti])],ro:=[(0,.sl .ins,true),(1,.u8,false)]})]
def zo0 (c:Cur)(s:Cur)(a:List (List Ins)):Prop:=(∃N,zvC N c=some (AV.agg (zb5 s)::[aS (.sl .ins) a]))/\(s.b=c.b/\0<=s.i)/\(1<=a.length/\a.length<=2/\∀x∈a,zdN x=true)
def zkY (c:Cur)  : Bool:=wC (zo0 c)
def zkZ (c:Cur)  : Cur:=wS (zo0 c)
def zru (c:Cur)  : List (List Ins):=wV (zo0 c)
def zFZ {c:Cur}(h:zkY c=true):zo0 c (zkZ c) (zru c):=wG h
def zZB (c:Cur)  : 0<=(zkZ c).i:=wP λh=>h.2.1.2
def zZA (c:Cur)(h:∃N,Ends (wE (λa=>aS (.sl .ins) a) c.b λa=>1<=a.length/\a.length<=2/\∀x∈a,zdN x=true)<|zvC N c):zkY c=true:=wI (λ_ _ h=>h) h
def zxy:zeg:=rP0 λc=>(zkY c,zkZ c,[aS (.sl .ins)<|zru c])
def zKL:zbX Tryz.prog 187 [false,true,true] zxy:=hP0 zeo zU zY0 zl zSK (λ_ h=>(zFZ h).1)
def z2S {c:Cur}(h:zbb c):zkY c=true:=by
 refine zZA c ⟨3,?_⟩;unfold zvC oN;conv=>zeta
 exact z0t h (P:=λx=>zdN x=true) (fc:=ziC) (fs:=zbf) (fv:=zcj) (R:=λs l=>AV.agg (zb5 s)::[aS (.sl .ins) l]) zFG zkd (λh=>(zs7<|zFG h).2.2) (λs l d e a b f=>⟨s,l,rfl,⟨d,e⟩,a,b,f⟩) (λrec t i k l=>rfl)
def zbcr:zcW:=[(187,[false,true,true],zxy)]++zbcq
def zY1:zb7 zbcr:=zcq zY0 (by
 intro x a;simp only[qG,qM,or_false]at a;rcases a with rfl
 .exact zKL)
def zAJ (N:Nat)(c:Cur)  : OA :=
 (r0 (σ:=(Int×Int×Int×lQ×LI×Unit)) N (λg a=>let f:=a.2.2.2.2.1;let e:=(⟨f,a.2.1,a.2.2.1⟩:Cur);let d:=({ (zf e 2) with b:=f}:Cur); (oN (zC e 2)<|cond (ilt a.1<|zI .i64 1<|zo e 2) (oN (zkY d)<|oN (few<|ln<|ap a.2.2.2.1 [zru d])<|g (zI .i64 a.1 1,(zkZ d).i,(zkZ d).h,ap a.2.2.2.1 [zru d],f,()))<|some [.agg [.s .u8 f,.i .i64 (zf e 2).i,.i .i64 (zf e 2).h],aS (.sl<|.sl .ins) a.2.2.2.1])) (0,c.i,c.h,[],c.b,()))
def z0o:=zq [(186,0,{n:=19,tm:=[(0,.lp 0 0),(3,.sl 0 []),(4,ti)],lo:=[(0,[.sl 1 [],ti,ti])],ro:=[(0,.sl<|.sl .ins,true),(1,.u8,false)]})]
def ztd (c:Cur)(s:Cur)(a:List (List<|List Ins)):Prop:=(∃N,zAJ N c=some (AV.agg (zb5 s)::[aS (.sl<|.sl .ins) a]))/\(s.b=c.b/\0<=s.i)/\(1<=a.length/\a.length<=2/\∀p∈a,1<=p.length/\p.length<=2/\∀x∈p,zdN x=true)
def zrv (c:Cur)  : Bool:=wC (ztd c)
def znY (c:Cur)  : Cur:=wS (ztd c)
def zwD (c:Cur)  : List (List<|List Ins):=wV (ztd c)
def zPb {c:Cur}(h:zrv c=true):ztd c (znY c) (zwD c):=wG h
def z5u (c:Cur)  : 0<=(znY c).i:=wP λh=>h.2.1.2
def z5t (c:Cur)(h:∃N,Ends (wE (λa=>aS (.sl<|.sl .ins) a) c.b λa=>1<=a.length/\a.length<=2/\∀p∈a,1<=p.length/\p.length<=2/\∀x∈p,zdN x=true)<|zAJ N c):zrv c=true:=wI (λ_ _ h=>h) h
def zCX:zeg:=rP0 λc=>(zrv c,znY c,[aS (.sl<|.sl .ins)<|zwD c])
def zRj:zbX Tryz.prog 186 [false,true,true] zCX:=hP0 zeo zU zY1 zl z0o (λ_ h=>(zPb h).1)
def zba1 {c:Cur}(h:zbb c):zrv c=true:=by
 refine z5t c ⟨3,?_⟩;unfold zAJ oN;conv=>zeta
 exact z0t h (P:=λp=>1<=p.length/\p.length<=2/\∀x∈p,zdN x=true) (fc:=zkY) (fs:=zkZ) (fv:=zru) (R:=λs l=>AV.agg (zb5 s)::[aS (.sl<|.sl .ins) l]) z2S zZB (λh=>(zFZ<|z2S h).2.2) (λs l d e a b f=>⟨s,l,rfl,⟨d,e⟩,a,b,f⟩) (λrec t i k l=>rfl)
def zbcs:zcW:=[(186,[false,true,true],zCX)]++zbcr
def zY2:zb7 zbcs:=zcq zY1 (by
 intro x a;simp only[qG,qM,or_false]at a;rcases a with rfl
 .exact zRj)
def zGo {c:Type}{G:c->Prop}{x:Bool}{a b:Option c}(k:Ends G a)(h:x=true:=by first
 |exact zbw (by first|assumption|exact zbJ (by assumption) (zG _ _)|exact zbJ (by assumption) (zco _ _)|exact zbJ (by assumption) (zb1 _ _)) _
 |exact zjH (by first|assumption|exact zbJ (by assumption) (zG _ _)|exact zbJ (by assumption) (zco _ _)) _
 |exact zfa (by first|assumption|exact zbJ (by assumption) (zG _ _)) (by simp)):Ends G (cond x a b):=zB h k
def zAF (N:Nat)(c:Cur)  : OA :=
 let f:=zo c 4;let j:=({ (zf c 4) with b:=c.b}:Cur);let e:=zdo j 4;let d:=zV j 4;let a:=({d with b:=c.b}:Cur);let g:=({ (zV a 2) with b:=c.b}:Cur); (oN (zC c 4)<|oN (zc6 j 4)<|cond (nB e) (cond (ine f 2) (oN (zc6 a 2)<|cond (zdo a 2) (oN (zC g 256)<|some [.agg [.s .u8 c.b,.i .i64 (zf g 256).i,.i .i64 (zf g 256).h],.agg [.i .i64 f,.i .i64<|zo g 256,.b<|nB e]])<|some [.agg [.s .u8 c.b,.i .i64 (zV a 2).i,.i .i64 (zV a 2).h],.agg [.i .i64 f,.i .i64 0,.b<|nB e]])<|some [.agg [.s .u8 c.b,.i .i64 d.i,.i .i64 d.h],.agg [.i .i64 f,.i .i64 0,.b<|nB e]])<|some [.agg [.s .u8 c.b,.i .i64 d.i,.i .i64 d.h],.agg [.i .i64 f,.i .i64 0,.b<|nB e]])
def zs9 (c:Cur)(s:Cur)(a:Ctl):Prop:=(∃N,zAF N c=some (AV.agg (zb5 s)::[.agg<|zn6 a]))/\(s.b=c.b/\0<=s.i)/\(True)
def zlx (c:Cur)  : Bool:=wC (zs9 c)
def zcx (c:Cur)  : Cur:=wS (zs9 c)
def zcS (c:Cur)  : Ctl:=wV (zs9 c)
def z5l {c:Cur}(h:zlx c=true):zs9 c (zcx c) (zcS c):=wG h
def zBT (c:Cur)  : 0<=(zcx c).i:=wP λh=>h.2.1.2
def z5m (c:Cur)(h:∃N,Ends (wE (λa=>.agg (zn6 a)) c.b λa=>True)<|zAF N c):zlx c=true:=wI (λ_ _ h=>h) h
def zCT:zeg:=rP0 λc=>(zlx c,zcx c,[.agg<|zn6<|zcS c])
def zRf:zbX Tryz.prog 413 [false,true,true] zCT:=hP0 zeo zU zY2 zl (zq []) (λ_ h=>(z5l h).1)
def z3K {c:Cur}(h:zbb c):zlx c=true:=by
 refine z5m c ⟨0,?_⟩;unfold zAF oN nB;conv=>zeta
 refine zGo (zGo<|zby (λ_=>zby (λ_=>zGo (zby (λ_=>zGo (?_)) λ_=>?_)) λ_=>?_) λ_=>?_);all_goals exact zbC (λx=>AV.agg (zn6 x)) (v:=⟨_,_,_⟩) (by first|exact zG _ _|exact zco _ _) trivial
def zbct:zcW:=[(413,[false,true,true],zCT)]++zbcs
def zLf:zb7 zbct:=zcq zY2 (by
 intro x a;simp only[qG,qM,or_false]at a;rcases a with rfl
 .exact zRf)
def zeJ {c:Type}{G:c->Prop}{x:Bool}{a b:Option c}(k:Ends G a)(h:x=true:=by first
 |exact zbw (by first|assumption|exact zbJ (by assumption) (zG _ _)|exact zbJ (by assumption) (zb1 _ _)) _
 |exact zfa (by first|assumption|exact zbJ (by assumption) (zG _ _)) (by simp)
 |exact z3K (zbJ (by assumption)<|zG _ _)):Ends G (cond x a b):=zB h k
def zAM (N:Nat)(c:Cur)  : OA :=
 let m:=({ (zf c 2) with b:=c.b}:Cur);let g:=zo c 2;let f:=zo m 2;let u:=({ (zf m 2) with b:=c.b}:Cur);let e:=zf u 24;let d:=zo u 24;let a:=({e with b:=c.b}:Cur);let j:=zf a 8;let l:=({ (zf a 4) with b:=c.b}:Cur);let k:=({j with b:=c.b}:Cur);let t:=({ (zf a 16) with b:=c.b}:Cur);let r:=({ (zbd a [16,17]) with b:=c.b}:Cur);let q:=({ (zbd a [13,13,14,15]) with b:=c.b}:Cur);let p:=({ (zf k 4) with b:=c.b}:Cur);let n:=({ (zf l 8) with b:=c.b}:Cur); (p0 (oN (zbx a [13,13,14,15])<|oN (zC q 8)<|some [.agg [.s .u8 c.b,.i .i64 (zf q 8).i,.i .i64 (zf q 8).h],.agg [.i .i64<|zbq a [13,13,14,15],.i .i64 g,.i .i64 f,.i .i64<|zo q 8,.i .i64 0,.i .i64 0]]) λA=>p0 (cond (ieq d 16) (oN (zbx a [16,17])<|oN (zC r 4)<|some [.agg [.s .u8 c.b,.i .i64 (zf r 4).i,.i .i64 (zf r 4).h],.agg [.i .i64<|zbq a [16,17],.i .i64 g,.i .i64 f,.i .i64<|zo r 4,.i .i64 0,.i .i64 0]])<|some [.agg [.s .u8 c.b,.i .i64 e.i,.i .i64 e.h],.agg [.i .i64 1,.i .i64 g,.i .i64 f,.i .i64 0,.i .i64 0,.i .i64 0]]) λz=>p0 (oN (zC a 4)<|oN (zC l 8)<|oN (zbx n [3,3,1,2])<|some [.agg [.s .u8 c.b,.i .i64 (zbd n [3,3,1,2]).i,.i .i64 (zbd n [3,3,1,2]).h],.agg [.i .i64 2,.i .i64 g,.i .i64 f,.i .i64<|zo a 4,.i .i64<|zo l 8,.i .i64<|zbq n [3,3,1,2]]]) λy=>p0 (oN (zC a 4)<|some [.agg [.s .u8 c.b,.i .i64 (zf a 4).i,.i .i64 (zf a 4).h],.agg [.i .i64 3,.i .i64 g,.i .i64 f,.i .i64<|zo a 4,.i .i64 0,.i .i64 0]]) λx=>p0 (cond (ieq d 7) (oN (zC a 8)<|some [.agg [.s .u8 c.b,.i .i64 j.i,.i .i64 j.h],.agg [.i .i64 6,.i .i64 g,.i .i64 f,.i .i64<|zo a 8,.i .i64 0,.i .i64 0]])<|cond (ieq d 8) (oN (zlx a)<|cond ((zcS a).Open) (some [.agg [.s .u8 c.b,.i .i64 (zcx a).i,.i .i64 (zcx a).h],.agg [.i .i64 7,.i .i64 g,.i .i64 f,.i .i64 (zcS a).aq,.i .i64 (zcS a).Post,.i .i64 1]])<|some [.agg [.s .u8 c.b,.i .i64 (zcx a).i,.i .i64 (zcx a).h],.agg [.i .i64 7,.i .i64 g,.i .i64 f,.i .i64 (zcS a).aq,.i .i64 (zcS a).Post,.i .i64 0]])<|cond (ieq d 9) (oN (zC a 8)<|oN (zC k 4)<|oN (zC p 100)<|some [.agg [.s .u8 c.b,.i .i64 (zf p 100).i,.i .i64 (zf p 100).h],.agg [.i .i64 8,.i .i64 g,.i .i64 f,.i .i64<|zo a 8,.i .i64<|zo k 4,.i .i64<|zo p 100]])<|cond (ieq d 10) (oN (zC a 8)<|some [.agg [.s .u8 c.b,.i .i64 j.i,.i .i64 j.h],.agg [.i .i64 9,.i .i64 g,.i .i64 f,.i .i64<|zo a 8,.i .i64 0,.i .i64 0]])<|cond (ieq d 11) (some [.agg [.s .u8 c.b,.i .i64 e.i,.i .i64 e.h],.agg [.i .i64 10,.i .i64 g,.i .i64 f,.i .i64 0,.i .i64 0,.i .i64 0]])<|cond (ieq d 12) (oN (zC a 16)<|oN (zC t 100)<|some [.agg [.s .u8 c.b,.i .i64 (zf t 100).i,.i .i64 (zf t 100).h],.agg [.i .i64 11,.i .i64 g,.i .i64 f,.i .i64<|zo a 16,.i .i64<|zo t 100,.i .i64 0]])<|cond (ieq d 13) (oN (zC a 16)<|some [.agg [.s .u8 c.b,.i .i64 (zf a 16).i,.i .i64 (zf a 16).h],.agg [.i .i64 12,.i .i64 g,.i .i64 f,.i .i64<|zo a 16,.i .i64 0,.i .i64 0]])<|cond (ieq d 14) (cond (ieq d 14) A z)<|cond (ieq d 15) A z) λv=>p0 (cond (ieq d 4) (oN (zC a 100)<|some [.agg [.s .u8 c.b,.i .i64 (zf a 100).i,.i .i64 (zf a 100).h],.agg [.i .i64 4,.i .i64 g,.i .i64 f,.i .i64<|zo a 100,.i .i64 0,.i .i64 0]])<|cond (ieq d 5) (cond (ieq d 5) (some [.agg [.s .u8 c.b,.i .i64 e.i,.i .i64 e.h],.agg [.i .i64 5,.i .i64 g,.i .i64 f,.i .i64 0,.i .i64 0,.i .i64 0]]) v)<|cond (ieq d 6) (some [.agg [.s .u8 c.b,.i .i64 e.i,.i .i64 e.h],.agg [.i .i64 5,.i .i64 g,.i .i64 f,.i .i64 0,.i .i64 0,.i .i64 0]]) v) λw=>p0 (cond (ieq d 2) (cond (ieq d 2) x w)<|cond (ieq d 3) x w) λB=>oN (zC c 2)<|oN (zC m 2)<|oN (zC u 24)<|cond (ieq d 0) (cond (ieq d 0) y B)<|cond (ieq d 1) y B)
def ztf (c:Cur)(s:Cur)(a:GAct):Prop:=(∃N,zAM N c=some (AV.agg (zb5 s)::[aT .act a]))/\(s.b=c.b/\0<=s.i)/\(True)
def zjW (c:Cur)  : Bool:=wC (ztf c)
def zc8 (c:Cur)  : Cur:=wS (ztf c)
def zcY (c:Cur)  : GAct:=wV (ztf c)
def z5x {c:Cur}(h:zjW c=true):ztf c (zc8 c) (zcY c):=wG h
def zPc (c:Cur)  : 0<=(zc8 c).i:=wP λh=>h.2.1.2
def z5y (c:Cur)(h:∃N,Ends (wE (λa=>aT .act a) c.b λa=>True)<|zAM N c):zjW c=true:=wI (λ_ _ h=>h) h
def zCZ:zeg:=rP0 λc=>(zjW c,zc8 c,[aT .act<|zcY c])
def zRo:zbX Tryz.prog 299 [false,true,true] zCZ:=hP0 zeo zU zLf zl (zq []) (λ_ h=>(z5x h).1)
def zba0 {c:Cur}(h:zbb c):zjW c=true:=by
 refine z5y c ⟨0,?_⟩;unfold zAM oN;conv=>zeta
 refine zo6 (zeJ<|zeJ<|?_) (λ_ g=>zo6 (zby (λ_=>zeJ (zeJ<|?_)) λ_=>?_) λ_ f=>zo6 (zeJ<|zeJ<|zeJ<|?_) λ_ e=>zo6 (zeJ<|?_) λ_ d=>zo6 (zby (λ_=>zeJ (?_)) λ_=>zby (λ_=>zeJ (zby (λ_=>?_) λ_=>?_)) λ_=>zby (λ_=>zeJ (zeJ<|zeJ<|?_)) λ_=>zby (λ_=>zeJ (?_)) λ_=>zby (λ_=>?_) λ_=>zby (λ_=>zeJ (zeJ<|?_)) λ_=>zby (λ_=>zeJ (?_)) λ_=>zby (λ_=>zby (λ_=>g) λ_=>f) λ_=>zby (λ_=>g) λ_=>f) λ_ a=>zo6 (zby (λ_=>zeJ (?_)) λ_=>zby (λ_=>zby (λ_=>?_) λ_=>a) λ_=>zby (λ_=>?_) λ_=>a) λ_ b=>zo6 (zby (λ_=>zby (λ_=>d) λ_=>b) λ_=>zby (λ_=>d) λ_=>b) λ_ i=>zeJ (zeJ<|zeJ<|zby (λ_=>zby (λ_=>e) λ_=>i) λ_=>zby (λ_=>e) λ_=>i));all_goals exact zbC (aT .act) (v:=⟨_,_,_,_,_,_⟩) (by first|exact zG _ _|exact zb1 _ _|exact zBT _) trivial
def zmw (N:Nat)  : OA :=
 (r0 (σ:=(Int×lA×Unit)) N (λe c=>cond (ilt c.1 2) (r0 (σ:=(Int×Int×lA×Unit)) N (λf b=>cond (ilt b.2.1 2) (r0 (σ:=(Int×Int×Int×lA×Unit)) N (λg a=>let d:=ap a.2.2.2.1 [(⟨2,a.1,a.2.1,a.2.2.1,zI .i64 a.2.2.1<|zk3 .i64 3 a.2.1,3⟩:GAct),(⟨3,a.1,a.2.1,a.2.2.1,0,0⟩:GAct)]; (cond (ilt a.2.2.1 3) (oN (few<|ln d)<|g (a.1,a.2.1,zI .i64 a.2.2.1 1,d,()))<|f (a.1,zI .i64 a.2.1 1,a.2.2.2.1,()))) (b.1,b.2.1,0,b.2.2.1,()))<|e (zI .i64 b.1 1,b.2.2.1,())) (c.1,0,c.2.1,()))<|some [aS .act c.2.1]) (0,[],()))
def zSM:=zq [(390,0,{n:=34,tm:=[(1,.sl 0 []),(2,ti)],lo:=[],ro:=[(0,.act,true)]}),(390,2,{n:=34,tm:=[(1,.sl 0 []),(2,ti),(3,ti)],lo:=[],ro:=[(0,.act,true)]}),(390,4,{n:=34,tm:=[(1,.sl 0 []),(2,ti),(3,ti),(4,ti)],lo:=[],ro:=[(0,.act,true)]})]
def zup  (a:List GAct):Prop:=(∃N,zmw N=some [aS .act a])/\(a.length<=45)
def zk1  : Bool:=uC (T:=List GAct) (λr=>zup r)
def zZD  : List GAct:=uV (λr=>zup r)
def zvg  : List GAct:=(zZD)
def zF0  (h:zk1=true):zup zvg:=uG h
def zZC  (h:∃N,Ends (λa=>∃b,a=[aS .act b]/\(b.length<=45))<|zmw N):zk1=true:=by obtain⟨N,a,e,b,rfl,h⟩:=h;exact zbg ⟨b,⟨N,e⟩,h⟩
def zAk:Run:=rF0 (zk1,[aS .act zvg])
def zR6  (a:zk1=true):∃N,zmw N  = some [aS .act zvg]:=by exact(zF0 a).1
def zKN:vU 390 zAk:=kF0 zeo zU zLf zl zSM zR6
def z6f:List GAct:=match zmw 10 with
 |some [.one<|.s .act l]=>l
 |_=>[]
def z2k:zk1=true:=zZC ⟨10,_,(by kernel_rfl:zmw 10=some [aS .act z6f]),z6f,rfl,Nat.le_of_ble_eq_true (by kernel_rfl)⟩
def zbcu:zcW:=[(299,[false,true,true],zCZ)]++zbct
def zY3:zb7 zbcu:=zcq zLf (by
 intro x a;simp only[qG,qM,or_false]at a;rcases a with rfl
 .exact zRo)
def zbeF:zZ:=[(390,zAk)]++zJD
def z6j:zS zbeF:=zh zKN zeo
def zTO {c:Cur}(h:zbb c){m:Int}(e:0<=m)(J:m<=1000){G:Ans->Prop}{R:Cur->List GAct->Ans}(D:∀s l,s.b=c.b->0<=s.i->ln l<=45+m->G (R s l)){F:(Int×Int×Int×Int×List GAct×LI×Unit->OA)->Int×Int×Int×Int×List GAct×LI×Unit->OA}(C:∀rec t i k l,F rec (m,t,i,k,l,c.b,())=bif zC ⟨c.b,i,k⟩ (zI .i64 m 1) then (bif ilt t (zo ⟨c.b,i,k⟩ (zI .i64 m 1)) then (bif zjW { zf ⟨c.b,i,k⟩ (zI .i64 m 1) with b:=c.b } then (bif few (ln (ap l [zcY { zf ⟨c.b,i,k⟩ (zI .i64 m 1) with b:=c.b }])) then
        rec (m,zI .i64 t 1,(zc8 {zf ⟨c.b,i,k⟩ (zI .i64 m 1) with b:=c.b}).i,(zc8 {zf ⟨c.b,i,k⟩ (zI .i64 m 1) with b:=c.b}).h,ap l [zcY {zf ⟨c.b,i,k⟩ (zI .i64 m 1) with b:=c.b}],c.b,()) else none) else none) else some (R ⟨c.b,(zf ⟨c.b,i,k⟩ (zI .i64 m 1)).i,(zf ⟨c.b,i,k⟩ (zI .i64 m 1)).h⟩ l)) else none){w I:Int}(f:0<=w){g:List GAct}(E:g.length<=45):Ends G (r0 1002 F (m,0,w,I,g,c.b,())):=by
 refine zjB (fun n s=>s.1=m/\s.2.1+(n:Int)=1000/\0<=s.2.1/\0<=s.2.2.1/\(ln s.2.2.2.2.1<=45+s.2.1/\s.2.1<=m)/\s.2.2.2.2.2.1=c.b) ?_ 1002 1000 _ ⟨rfl,rfl,kF 0,f,⟨by unfold ln;show ((g.length:Nat):Int)<=45+0;omega,e⟩,rfl⟩ (by omega)
 rintro n ⟨q,t,i,k,l,b,u⟩ rec ⟨e,z,j,p,⟨A,H⟩,r⟩ d
 dsimp only at e z j p A r H
 subst r;subst e;rw[C];have a:zbb ⟨c.b,i,k⟩:=zbJ h p;have L:=ziQ (x:=q) (y:=1) (by omega) (by omega) (by omega) (by omega)
 have M:=zfB a (n:=zI .i64 q 1) (by omega)
 have B:zbb {zf ⟨c.b,i,k⟩ (zI .i64 q 1) with b:=c.b}:=zbJ h (zG _ _);refine zB (zbw a _) (zby (fun v=>?_) (fun v=>?_))
 .have hlt:t<zo ⟨c.b,i,k⟩ (zI .i64 q 1):=qD v;have K:=ziQ (y:=1) j (by omega) (by omega) (by omega)
  refine zB (zba0 B) (zB (ziW (by rw[zgB];omega)) (d (n-1) _ (by omega) ⟨rfl,?_,?_,zPc _,⟨?_,?_⟩,rfl⟩))
  .show zI .i64 t 1+_=1000
   omega
  .show 0<=zI .i64 t 1
   omega
  .show ln (ap l [_])<=45+zI .i64 t 1
   rw[zgB];omega
  .show zI .i64 t 1<=q
   omega
 .refine zto (D _ l rfl (zG _ _) ?_);omega
def zyl (N:Nat)(c:Cur)(p:Int):OA:=
 (oN (zc6 c 5)<|cond (nB<|zdo c 5) (oN zk1<|r0 (σ:=(Int×Int×Int×Int×lA×LI×Unit)) N (λn a=>let l:=a.2.2.2.2.2.1;let f:=zI .i64 a.1 1;let d:=(⟨l,a.2.2.1,a.2.2.2.1⟩:Cur);let j:=({ (zf d f) with b:=l}:Cur);let q:=ap a.2.2.2.2.1 [zcY j]; (oN (zC d f)<|cond (ilt a.2.1<|zo d f) (oN (zjW j)<|oN (few<|ln q)<|n (a.1,zI .i64 a.2.1 1,(zc8 j).i,(zc8 j).h,q,l,()))<|some [.agg [.s .u8 l,.i .i64 (zf d f).i,.i .i64 (zf d f).h],aS .act a.2.2.2.2.1])) (p,0,(zV c 5).i,(zV c 5).h,zvg,c.b,()))<|r0 (σ:=(Int×Int×Int×Int×lA×LI×Unit)) N (λn a=>let m:=a.2.2.2.2.2.1;let g:=zI .i64 a.1 1;let e:=(⟨m,a.2.2.1,a.2.2.2.1⟩:Cur);let k:=({ (zf e g) with b:=m}:Cur);let r:=ap a.2.2.2.2.1 [zcY k]; (oN (zC e g)<|cond (ilt a.2.1<|zo e g) (oN (zjW k)<|oN (few<|ln r)<|n (a.1,zI .i64 a.2.1 1,(zc8 k).i,(zc8 k).h,r,m,()))<|some [.agg [.s .u8 m,.i .i64 (zf e g).i,.i .i64 (zf e g).h],aS .act a.2.2.2.2.1])) (p,0,(zV c 5).i,(zV c 5).h,[],c.b,()))
def zWc:=zq [(236,0,{n:=26,tm:=[(0,.lp 0 0),(1,ti),(5,.sl 0 []),(6,ti)],lo:=[(0,[.sl 1 [],ti,ti])],ro:=[(0,.act,true),(1,.u8,false)]})]
def zry (c:Cur)(a:Int)(s:Cur)(d:List GAct):Prop:=(∃N,zyl N c a=some (AV.agg (zb5 s)::[aS .act d]))/\(s.b=c.b/\0<=s.i)/\(ln d<=45+a)
def zoz (c:Cur)(a:Int):Bool:=wC (zry c a)
def zoA (c:Cur)(a:Int):Cur:=wS (zry c a)
def ztM (c:Cur)(a:Int):List GAct:=wV (zry c a)
def zJc {c:Cur}{a:Int}(h:zoz c a=true):zry c a (zoA c a) (ztM c a):=wG h
def z1N (c:Cur)(a:Int):0<=(zoA c a).i:=wP λh=>h.2.1.2
def z1M (c:Cur)(a:Int)(h:∃N,Ends (wE (λd=>aS .act d) c.b λd=>ln d<=45+a)<|zyl N c a):zoz c a=true:=wI (λ_ _ h=>h) h
def zz0:zeg:=rP1 dI λc b=>(zoz c b,zoA c b,[aS .act<|ztM c b])
def zN1:zbX Tryz.prog 236 [false,true,true] zz0:=hP1 z6j zU zY3 zl zWc (λ_ _ h=>(zJc h).1)
def z5X {c:Cur}(h:zbb c){m:Int}(e:0<=m)(f:m<=1000):zoz c m=true:=by
 refine z1M c m ⟨1002,?_⟩;unfold zyl oN nB;conv=>zeta
 have g:=zF0 z2k;exact zB (zjH h 5) (zby (λ_=>zB z2k (zTO h e f (R:=λs l=>AV.agg (zb5 s)::[aS .act l]) (λs l a b d=>⟨s,l,rfl,⟨a,b⟩,d⟩) (λrec t i k l=>rfl) (zco _ _) g.2)) λ_=>zTO h e f (R:=λs l=>AV.agg (zb5 s)::[aS .act l]) (λs l a b d=>⟨s,l,rfl,⟨a,b⟩,d⟩) (λrec t i k l=>rfl) (zco _ _) (jN _))
def zbcv:zcW:=[(236,[false,true,true],zz0)]++zbcu
def zY4:zb7 zbcv:=zcq zY3 (by
 intro x a;simp only[qG,qM,or_false]at a;rcases a with rfl
 .exact zN1)
@[simp] abbrev zhl (l:List LI):Bool:=pc (SmM l)
@[simp] abbrev zeh (l:List LI):List LI:=l
def zC1:Run:=rF1 (dS<|.sl .int) λb=>(zhl b,[aS (.sl .int)<|zeh b])
def zHX (N:Nat)(c:lM):OA:=
 (r0 (σ:=(Int×Int×lM×lM×Unit)) N (λd a=>let b:=ix a.2.2.2.1 a.2.1 []; (cond (ilt a.2.1 a.1) (oN (inb a.2.1<|ln a.2.2.2.1)<|oN (zeq b)<|oN (few<|ln<|ap a.2.2.1 [zel b])<|d (a.1,zI .i64 a.2.1 1,ap a.2.2.1 [zel b],a.2.2.2.1,()))<|some [aS (.sl .int) a.2.2.1])) (ln c,0,[],c,()))
def zVY:=zq [(238,0,{n:=20,tm:=[(3,.sl 0 []),(7,.sl 1 []),(8,ti),(9,ti)],lo:=[],ro:=[(0,.sl .int,true),(1,.sl .int,false)]})]
def zU6 (a:List LI)(g:zhl a=true):∃N,zHX N a=some [aS (.sl .int)<|zeh a]:=by
 have f:=zM.1 g;have e:=zcc f.1;refine zb2 λN d=>?_;unfold zHX oN;conv=>zeta
 refine(zbl a (λi (t:lM)=>(ln a,(i:Int),t,a,())) _ (λ_ x b j=>bif zeq x then (cond (few<|ln<|ap b [zel x]) (j<|ap b [zel x]) none) else none) (λ(t:lM)=>some [.one<|.s (.sl .int) t]) (λi c t rec=>?_) (λt rec=>?_) _ ([])<|d e.1).trans ?_;{simp only [zbo c,zX c,zbh c,zY c e.1,cT]};{simp only [zbj,cF]};exact ziR zeq zel _ a 0 [] (λx h=>⟨by exact zbg (qT (f.2 x h) (by decide)),rfl⟩) (by simpa using e.2)
def zNi:vU 238 zC1:=kF1 zg7 zA zu zl zVY zU6
@[simp] abbrev zQ (g:ah):Bool:=pc (SmG g)
@[simp] abbrev zcZ (g:ah):ah:=g
def zxD:Run:=rF1 (dT .guest) λb=>(zQ b,[aT .guest<|zcZ b])
def zCj (N:Nat)(a:ah):OA:=
 (oN (zvZ a.au)<|oN (zh3 a.ax)<|oN (zh3 a.av)<|oN (zeq a.aC)<|some [aT .guest ({a with au:=(zp6 a.au),ax:=(zgf a.ax),av:=(zgf a.av),aC:=(zel a.aC)}:ah)])
def zOh (a:ah)(b:zQ a=true):∃N,zCj N a=some [aT .guest<|zcZ a]:=by have c:=zM.1 b;obtain⟨h,i,j,k⟩:=c;have d:a.au.length<=2147483648:=(by omega);have e:a.ax.length<=2147483648:=(by omega);have f:a.av.length<=2147483648:=(by omega);have g:a.aC.length<=2147483648:=(by omega);refine⟨0,?_⟩;unfold zCj oN;refine mu (mu<|mu<|mu ?_);first|rfl|(simp only [*,zcZ,cT,cF]<;>rfl)|simp_all[Ty.cells,zcZ]
def zGS:vU 399 zxD:=kF1 zg7 zA zu zl (zq []) zOh
def zfk (t:List k0)(p n:Int):Bool:=bif ieq (zbK t p).af (-1) then false else (cond (enough (zbK t p).aj n) (zk n 1 3) false)
def zct (t:List k0)(p n:Int):Int:=bif zfk t p n then (zbK t p).af else -1
def zbas {r:Int}(h:zd9 r=true):0<=r/\r<=3:=zf1.1 h
def z4c {a n:Int}(h:enough a n=true):zk n 1 3 = !ieq n 0:=by unfold enough at h;cases b:zd9 a;{rw [b]at h;cases h};{cases c:zd9 n;{rw [b,c]at h;cases h};{have:=zbas c;have e:(zk n 1 3=true)↔(!ieq n 0)=true:=(by rw[zf1];simp[ieq];omega);cases d:zk n 1 3<;>cases f:(!ieq n 0)<;>simp_all}}
@[simp] abbrev zfT (t:List k0)(p n:Int):Bool:=true
@[simp] abbrev zeF (t:List k0)(p n:Int):Int:=zct t p n
@[simp] abbrev zdR (t:List k0)(p n:Int):Bool:=zfk t p n
def zmk:Run:=rF3 (dS .slot) dI dI λb c d=>(zfT b c d,[aI<|zeF b c d,aB<|zdR b c d])
def zCg (N:Nat)(c:lS)(d a:Int):OA:=
 let b:=zfd c d; (oN (zgE c d)<|cond (ieq b.af<|-1) (some [aI<|-1,aB false])<|oN (zbH b.aj a)<|cond (nB<|zda b.aj a) (some [aI<|-1,aB false])<|oN (zO a 1 3)<|cond (nB<|zk a 1 3) (some [aI<|-1,aB false])<|some [aI b.af,aB true])
def zOe (a:List k0)(b c:Int)(d:zfT a b c=true):∃N,zCg N a b c=some [aI<|zeF a b c,aB<|zdR a b c]:=by
 refine⟨0,?_⟩;unfold zCg oN nB;conv=>zeta
 refine i0 rfl (br (λ_=>?_) λ_=>i0 rfl (brN (λ_=>?_) λ_=>i0 rfl (brN (λ_=>?_) λ_=>?_)));all_goals first|rfl|(simp only [*,zeF,zdR,zct,zfk,cT,cF]<;>rfl)|simp_all[Ty.cells,zeF,zdR,zct,zfk]
def zGP:vU 270 zmk:=kF3 zg7 zA zu zl (zq []) zOe
def zCC (N:Nat)(c:lS)(d b:Int):OA:=
 let a:=zfd c d; (oN (zgE c d)<|cond (ieq a.af<|-1) (some [aI<|-1,aB false])<|oN (zbH a.aj b)<|cond (nB<|zda a.aj b) (some [aI<|-1,aB false])<|cond (ieq b 0) (some [aI<|-1,aB false])<|some [aI a.af,aB true])
def zOC (a:List k0)(b c:Int)(d:zfT a b c=true):∃N,zCC N a b c=some [aI<|zeF a b c,aB<|zdR a b c]:=by
 have e:=@z4c (zbK a b).aj c;refine⟨0,?_⟩;unfold zCC oN nB;conv=>zeta
 refine i0 rfl (br (λ_=>?_) λ_=>i0 rfl (brN (λ_=>?_) λ_=>br (λ_=>?_) λ_=>?_));all_goals first|rfl|(simp only [*,zeF,zdR,zct,zfk,cT,cF]<;>rfl)|simp_all[Ty.cells,zeF,zdR,zct,zfk]
def zG8:vU 282 zmk:=kF3 zg7 zA zu zl (zq []) zOC
def zbbP:zZ:=[(455,zjh),(238,zC1),(399,zxD),(282,zmk),(270,zmk),(120,zsO),(218,zsO),(382,zqF),(378,zqF),(351,zsL),(379,zsL),(439,zqo),(458,zqo)]++zbbO
def zg8:zS zbbP:=zh zpw (zh zNi<|zh zGS<|zh zG8<|zh zGP<|zh zUK<|zh zUx<|zh zQ1<|zh zQC<|zh zUG<|zh zUu<|zh zQ7<|zh zQI zg7)
@[simp] abbrev zff (m:List LI)(p c v:Int):Bool:=pc (SmM m)
@[simp] abbrev zeX (m:List LI)(p c v:Int):List LI:=zbS m p c v
def znK:Run:=rF4 (dS<|.sl .int) dI dI dI λb c d e=>(zff b c d e,[aS (.sl .int)<|zeX b c d e])
def zEo (N:Nat)(c:lM)(a d e:Int):OA:=
 let b:=zfI c; (oN (zhw c)<|oN (zeY c a d)<|cond (zse c a d) (oN (zO e 0 99)<|cond (zk e 0 99) (oN (inb a<|ln b)<|oN (inb d<|ln<|ix b a [])<|p0 (up b a<|up (ix b a []) d e) λf=>some [aS (.sl .int) f])<|some [aS (.sl .int) b])<|some [aS (.sl .int) b])
def zR2 (a:List LI)(b c d:Int)(e:zff a b c d=true):∃N,zEo N a b c d=some [aS (.sl .int)<|zeX a b c d]:=by
 have g:=zM.1 e;have f:=(zBE a b c).1;refine⟨0,?_⟩;unfold zEo oN;conv=>zeta
 refine mu (i0 rfl (br (λ_=>i0 rfl (br (λ_=>mu (mu<|shr ?_)) λ_=>?_)) λ_=>?_));all_goals first|rfl|(simp only [*,zeX,zbS,cT,cF]<;>rfl)|simp_all[Ty.cells,zeX,zbS]
def zKD:vU 287 znK:=kF4 zg8 zA zu zl (zq []) zR2
def zDU (N:Nat)(a:lM)(b c d:Int):OA:=
 let e:=aS (.sl .int)<|zeh a; (oN (zhl a)<|oN (zbH b<|ln a)<|cond (zdG b<|ln a) (oN (inb b<|ln a)<|oN (zbH c<|ln<|ix a b [])<|cond (zdG c<|ln<|ix a b []) (oN (zO d 0 99)<|cond (zk d 0 99) (oN (inb b<|ln<|zeh a)<|oN (inb c<|ln<|ix (zeh a) b [])<|p0 (up (zeh a) b<|up (ix (zeh a) b []) c d) λf=>some [aS (.sl .int) f])<|some [e])<|some [e])<|some [e])
def zRy (a:List LI)(b c d:Int)(e:zff a b c d=true):∃N,zDU N a b c d=some [aS (.sl .int)<|zeX a b c d]:=by
 have f:=zM.1 e;refine⟨0,?_⟩;unfold zDU oN;conv=>zeta
 refine mu (i0 rfl (br (λ_=>mu (i0 rfl (br (λ_=>i0 rfl (br (λ_=>mu (mu<|shr ?_)) λ_=>?_)) λ_=>?_))) λ_=>?_));all_goals first|rfl|(simp only [*,zeX,zbS,zg3,cT,cF]<;>rfl)|simp_all[Ty.cells,zeX,zbS,zg3]
def zJ8:vU 251 znK:=kF4 zg8 zA zu zl (zq []) zRy
def zjd (g:ah):Bool:=bif canRun g then (cond g.Ctl.Open (ige (zes g.an) 0) false) else false
@[simp] abbrev zbu (g:ah):Bool:=true
@[simp] abbrev zlu (g:ah):Bool:=zjd g
def znJ:Run:=rF1 (dT .guest) λb=>(zbu b,[aB<|zlu b])
def zEn (N:Nat)(a:ah):OA:=
 (oN (zjL a)<|cond (zi5 a) (cond a.Ctl.Open (oN (zcl a.an)<|some [aB<|ige (zh2 a.an) 0]) oF) oF)
def zzJ (a:ah)(b:zbE big [aT .guest a])(c:zbu a=true):∃N,zEn N a=some [aB<|zlu a]:=by refine⟨0,?_⟩;unfold zEn oN;refine i0 rfl (br (λ_=>br (λ_=>i0 rfl ?_) λ_=>?_) λ_=>?_);all_goals first|rfl|(simp only [*,zlu,zjd,cT,cF]<;>rfl)|simp_all[Ty.cells,zlu,zjd]
def zKC:vU 402 znJ:=hF1 zg8 zA zu zl (zq []) zzJ
def zJ7:vU 397 znJ:=hF1 zg8 zA zu zl (zq []) zzJ
def zjn (p:Int):Int:=bif ilt (zes p) 0 then p else wsub .i64 p (zne .i64 1<|zes p)
def zp9 (p:Int):Int:=bif ilt (zes p) 0 then -1 else zes p
def zUk {p:Int}(h:ilt (zes p) 0=false):wcv .u64 (zes p)=zes p/\ile 0 (zes p)=true/\zB8 .i64 p (zne .i64 1<|zes p)=wsub .i64 p (zne .i64 1<|zes p):=by unfold zes at *;cases a:zd2 p;{rw [a]at h;cases h};{simp only [a,cT]at h ⊢;obtain⟨c,d⟩:=zf1.1 a;have r:=zFB (P:=λx=>-1<=scan x/\scan x<=7/\(0<=scan x->wsub .i64 x (zne .i64 1<|scan x)=zB8 .i64 x (zne .i64 1<|scan x))) zZF c d;have b:0<=scan p:=(by unfold ilt at h;have:=jQ h;omega);exact⟨zSR b (by omega),qH b,(r.2.2 b).symm⟩}
@[simp] abbrev zgj (p:Int):Int:=zjn p
@[simp] abbrev zgk (p:Int):Int:=zp9 p
@[simp] abbrev ziB (p:Int):Bool:=!ilt (zes p) 0
def zoR:Run:=rF1 dI λb=>(zcl b,[aI<|zgj b,aI<|zgk b,aB<|ziB b])
def zIp (N:Nat)(a:Int):OA:=
 (oN (zcl a)<|cond (ilt (zh2 a) 0) (some [aI a,aI<|-1,aB false])<|oN (ile 0<|wcv .u64<|zh2 a)<|some [aI<|wsub .i64 a<|zne .i64 1<|wcv .u64<|zh2 a,aI<|zh2 a,aB true])
def zVw (a:Int)(b:zcl a=true):∃N,zIp N a=some [aI<|zgj a,aI<|zgk a,aB<|ziB a]:=by have c:=@zUk a;refine⟨0,?_⟩;unfold zIp oN;refine i0 rfl (br (λ_=>?_) λ_=>mu ?_);all_goals first|rfl|(simp only [*,zgj,zgk,ziB,zjn,zp9,cT,cF]<;>rfl)|simp_all[Ty.cells,zgj,zgk,ziB,zjn,zp9]
def zNF:vU 353 zoR:=kF1 zg8 zA zu zl (zq []) zVw
def zHW (N:Nat)(a:Int):OA:=
 (oN (zcl a)<|cond (ilt (zh2 a) 0) (some [aI a,aI<|-1,aB false])<|oN (ile 0<|zh2 a)<|some [aI<|zB8 .i64 a<|zne .i64 1<|zh2 a,aI<|zh2 a,aB true])
def zU5 (a:Int)(b:zcl a=true):∃N,zHW N a=some [aI<|zgj a,aI<|zgk a,aB<|ziB a]:=by have c:=@zUk a;refine⟨0,?_⟩;unfold zHW oN;refine i0 rfl (br (λ_=>?_) λ_=>mu ?_);all_goals first|rfl|(simp only [*,zgj,zgk,ziB,zjn,zp9,cT,cF]<;>rfl)|simp_all[Ty.cells,zgj,zgk,ziB,zjn,zp9]
def zNh:vU 406 zoR:=kF1 zg8 zA zu zl (zq []) zU5
def saw (g:ah)(n:Int):ah:=bif ilt (ln g.aC) 40 then {g with aC:=ap g.aC [n]} else g
@[simp] def zSq {g:ah}(n:Int)(h:SmG g):SmG (saw g n):=by unfold saw;cases a:ilt (ln g.aC) 40;{exact h};{have:=qD a;refine⟨h.1,h.2.1,h.2.2.1,?_⟩;simp[ln] at *;omega}
@[simp] abbrev zvs (g:ah)(n:Int):Bool:=pc (SmG g)
@[simp] abbrev zq4 (g:ah)(n:Int):ah:=saw g n
def zxK:Run:=rF2 (dT .guest) dI λb c=>(zvs b c,[aT .guest<|zq4 b c])
def z2g (N:Nat)(a:ah)(b:Int):OA:=
 (oN (zdM a)<|cond (ilt (ln (zdp a).aC) 40) (oN (few<|ln<|ap (zdp a).aC [b])<|some [aT .guest ({ (zdp a) with aC:=(ap (zdp a).aC [b])}:ah)])<|some [aT .guest<|zdp a])
def z7x (a:ah)(b:Int)(c:zvs a b=true):∃N,z2g N a b=some [aT .guest<|zq4 a b]:=by have d:=zM.1 c;have e:a.aC.length<=1048576:=d.2.2.2;refine⟨0,?_⟩;unfold z2g oN;refine mu (br (λ_=>mu ?_) λ_=>?_);all_goals first|rfl|(simp only [*,zq4,saw,cT,cF]<;>rfl)|simp_all[Ty.cells,zq4,saw]
def z00:vU 404 zxK:=kF2 zg8 zA zu zl (zq []) z7x
def z2c (N:Nat)(a:ah)(b:Int):OA:=
 (oN (zQ a)<|cond (ilt (ln a.aC) 40) (oN (few<|ln<|ap (zcZ a).aC [b])<|some [aT .guest ({ (zcZ a) with aC:=(ap (zcZ a).aC [b])}:ah)])<|some [aT .guest<|zcZ a])
def z7t (a:ah)(b:Int)(c:zvs a b=true):∃N,z2c N a b=some [aT .guest<|zq4 a b]:=by have d:=zM.1 c;have e:a.aC.length<=1048576:=d.2.2.2;refine⟨0,?_⟩;unfold z2c oN;refine mu (br (λ_=>mu ?_) λ_=>?_);all_goals first|rfl|(simp only [*,zq4,saw,cT,cF]<;>rfl)|simp_all[Ty.cells,zq4,saw]
def z0W:vU 400 zxK:=kF2 zg8 zA zu zl (zq []) z7t
def stopped (g:ah)(e:aD):ah:={g with Exit:=e}
@[simp] def zbfq {g:ah}(e:aD)(h:SmG g):SmG (stopped g e):=h
@[simp] abbrev zcC (g:ah)(e:aD):Bool:=pc (SmG g)
@[simp] abbrev zcw (g:ah)(e:aD):ah:=stopped g e
def zoP:Run:=rF2 (dT .guest) dE λb c=>(zcC b c,[aT .guest<|zcw b c])
def zIn (N:Nat)(a:ah)(b:aD):OA:=
 (oN (zdM a)<|some [aT .guest ({ (zdp a) with Exit:=b}:ah)])
def zVu (a:ah)(b:aD)(c:zcC a b=true):∃N,zIn N a b=some [aT .guest<|zcw a b]:=by have d:=zM.1 c;refine⟨0,?_⟩;unfold zIn oN;refine mu ?_;first|rfl|(simp only [*,zcw,stopped,cT,cF]<;>rfl)|simp_all[Ty.cells,zcw,stopped]
def zND:vU 285 zoP:=kF2 zg8 zA zu zl (zq []) zVu
def zHU (N:Nat)(a:ah)(b:aD):OA:=
 (oN (zQ a)<|some [aT .guest ({ (zcZ a) with Exit:=b}:ah)])
def zU3 (a:ah)(b:aD)(c:zcC a b=true):∃N,zHU N a b=some [aT .guest<|zcw a b]:=by have d:=zM.1 c;refine⟨0,?_⟩;unfold zHU oN;refine mu ?_;first|rfl|(simp only [*,zcw,stopped,cT,cF]<;>rfl)|simp_all[Ty.cells,zcw,stopped]
def zNf:vU 249 zoP:=kF2 zg8 zA zu zl (zq []) zU3
def zcb (g:ah):ah:=bif ige g.Pc 12 then {g with Pc:=12} else {g with Pc:=zI .i64 g.Pc 1}
@[simp] def znb {g:ah}(h:SmG g):SmG (zcb g):=by unfold zcb;cases ige g.Pc 12<;>exact h
@[simp] abbrev zck (g:ah):ah:=zcb g
def ziv:Run:=rF1 (dT .guest) λb=>(zQ b,[aT .guest<|zck b])
def zS9 (N:Nat)(a:ah):OA:=
 (oN (zdM a)<|cond (ige (zdp a).Pc 12) (some [aT .guest ({ (zdp a) with Pc:=12}:ah)])<|some [aT .guest ({ (zdp a) with Pc:=(zI .i64 (zdp a).Pc 1)}:ah)])
def z1h (a:ah)(b:zQ a=true):∃N,zS9 N a=some [aT .guest<|zck a]:=by have c:=zM.1 b;refine⟨0,?_⟩;unfold zS9 oN;refine mu (br (λ_=>?_) λ_=>?_);all_goals first|rfl|(simp only [*,zck,zcb,cT,cF]<;>rfl)|simp_all[Ty.cells,zck,zcb]
def zUM:vU 348 ziv:=kF1 zg8 zA zu zl (zq []) z1h
def zSX (N:Nat)(a:ah):OA:=
 (oN (zQ a)<|cond (ige a.Pc 12) (some [aT .guest ({ (zcZ a) with Pc:=12}:ah)])<|some [aT .guest ({ (zcZ a) with Pc:=(zI .i64 a.Pc 1)}:ah)])
def z06 (a:ah)(b:zQ a=true):∃N,zSX N a=some [aT .guest<|zck a]:=by have c:=zM.1 b;refine⟨0,?_⟩;unfold zSX oN;refine mu (br (λ_=>?_) λ_=>?_);all_goals first|rfl|(simp only [*,zck,zcb,cT,cF]<;>rfl)|simp_all[Ty.cells,zck,zcb]
def zUA:vU 276 ziv:=kF1 zg8 zA zu zl (zq []) z06
def zbbQ:zZ:=[(287,znK),(251,znK),(402,znJ),(397,znJ),(353,zoR),(406,zoR),(404,zxK),(400,zxK),(285,zoP),(249,zoP),(348,ziv),(276,ziv)]++zbbP
def ze5:zS zbbQ:=zh zKD (zh zJ8<|zh zKC<|zh zJ7<|zh zNF<|zh zNh<|zh z00<|zh z0W<|zh zND<|zh zNf<|zh zUM<|zh zUA zg8)
def interrupted (g:ah):ah:=bif zjd g then saw {g with an:=zjn g.an} (zI .i64 100<|zp9 g.an) else g
@[simp] def z3e {g:ah}(h:SmG g):SmG (interrupted g):=by unfold interrupted;cases zjd g;{exact h};{exact zSq (g:={g with an:=zjn g.an}) _ h}
@[simp] abbrev zeI (g:ah):ah:=interrupted g
def zks:Run:=rF1 (dT .guest) λb=>(zQ b,[aT .guest<|zeI b])
def zwV (N:Nat)(a:ah):OA:=
 let c:=zI .i64 100<|zgk a.an;let b:=({a with an:=(zgj a.an)}:ah); (oN (zbu a)<|cond (nB<|zlu a) (oN (zdM a)<|some [aT .guest<|zdp a])<|oN (zcl a.an)<|oN (zvs b c)<|some [aT .guest<|zq4 b c])
def zHx (a:ah)(b:zQ a=true):∃N,zwV N a=some [aT .guest<|zeI a]:=by
 have c:=zM.1 b;have d:_/\_/\_/\_:=c;refine⟨0,?_⟩;unfold zwV oN nB;conv=>zeta
 refine i0 rfl (brN (λ_=>mu ?_) λ_=>i0 rfl (mu ?_));all_goals first|rfl|(simp only [*,zeI,interrupted,cT,cF]<;>rfl)|simp_all[Ty.cells,zeI,interrupted]
def zDI:vU 260 zks:=kF1 ze5 zA zu zl (zq []) zHx
def zwK (N:Nat)(a:ah):OA:=
 let c:=zI .i64 100<|zgk a.an;let b:=({a with an:=(zgj a.an)}:ah); (oN (zbu a)<|cond (nB<|zlu a) (oN (zQ a)<|some [aT .guest<|zcZ a])<|oN (zcl a.an)<|oN (zvs b c)<|some [aT .guest<|zq4 b c])
def zHl (a:ah)(b:zQ a=true):∃N,zwK N a=some [aT .guest<|zeI a]:=by
 have c:=zM.1 b;have d:_/\_/\_/\_:=c;refine⟨0,?_⟩;unfold zwK oN nB;conv=>zeta
 refine i0 rfl (brN (λ_=>mu ?_) λ_=>i0 rfl (mu ?_));all_goals first|rfl|(simp only [*,zeI,interrupted,cT,cF]<;>rfl)|simp_all[Ty.cells,zeI,interrupted]
def zDw:vU 268 zks:=kF1 ze5 zA zu zl (zq []) zHl
def zv8 (o:Int):Int:=bif ieq o 3 then 3 else (cond (ieq o 4) 4<|cond (ieq o 5) 5<|cond (ieq o 6) 6<|cond (ieq o 7) 7 2)
def zL (g:ah):Int:=bif canRun g then (cond (zjd g) 1<|zv8 (zcg g.au g.Pc).Op) else 0
@[simp] abbrev zhe (g:ah):Int:=zL g
def zqK:Run:=rF1 (dT .guest) λb=>(zbu b,[aI<|zhe b])
def zMp (N:Nat)(a:ah):OA:=
 let b:=(zdJ a.au a.Pc).Op; (oN (zjL a)<|cond (nB<|zi5 a) (some [aI 0])<|oN (zbu a)<|cond (zlu a) (some [aI 1])<|oN (zdA a.au a.Pc)<|cond (ieq b 3) (some [aI 3])<|cond (ieq b 4) (some [aI 4])<|cond (ieq b 5) (some [aI 5])<|cond (ieq b 6) (some [aI 6])<|cond (ieq b 7) (some [aI 7])<|some [aI 2])
def zFv (a:ah)(b:zbE big [aT .guest a])(c:zbu a=true):∃N,zMp N a=some [aI<|zhe a]:=by
 refine⟨0,?_⟩;unfold zMp oN nB;conv=>zeta
 refine i0 rfl (brN (λ_=>?_) λ_=>i0 rfl (br (λ_=>?_) λ_=>i0 rfl (br (λ_=>?_) λ_=>br (λ_=>?_) λ_=>br (λ_=>?_) λ_=>br (λ_=>?_) λ_=>br (λ_=>?_) λ_=>?_)));all_goals first|rfl|(simp only [*,zhe,zL,zv8,cT,cF]<;>rfl)|simp_all[Ty.cells,zhe,zL,zv8]
def zcF:vU 259 zqK:=hF1 ze5 zA zu zl (zq []) zFv
def zQK:vU 244 zqK:=hF1 ze5 zA zu zl (zq []) zFv
def held (g:ah):ah:=zcb {g with aF:=true}
@[simp] def zZK {g:ah}(h:SmG g):SmG (held g):=znb (g:={g with aF:=true}) h
@[simp] abbrev zlL (g:ah):ah:=held g
def zu4:Run:=rF1 (dT .guest) λb=>(zQ b,[aT .guest<|zlL b])
def zWC (N:Nat)(b:ah):OA:=
 let a:=({b with aF:=true}:ah); (oN (zQ a)<|some [aT .guest<|zck a])
def zOy (a:ah)(d:zbE big [aT .guest a])(b:zQ a=true):∃N,zWC N a=some [aT .guest<|zlL a]:=by
 have c:=zM.1 b;have e:_/\_/\_/\_:=c;refine⟨0,?_⟩;unfold zWC oN;conv=>zeta
 refine mu ?_;first|rfl|(simp only [*,zlL,held,cT,cF]<;>rfl)|simp_all[Ty.cells,zlL,held]
def zXQ:vU 349 zu4:=hF1 ze5 zA zu zl (zq []) zOy
def zXL:vU 277 zu4:=hF1 ze5 zA zu zl (zq []) zOy
def zMm (N:Nat)(a:ah):OA:=
 (oN (zQ a)<|some [aT .guest<|zck a])
def zFu (a:ah)(c:zbE big [aT .guest a])(b:zQ a=true):∃N,zMm N a=some [aT .guest<|zck a]:=by have d:=zM.1 b;refine⟨0,?_⟩;unfold zMm oN;refine mu ?_;first|rfl|(simp only [*,zck,cT,cF]<;>rfl)|simp_all[Ty.cells,zck]
def zQ6:vU 289 ziv:=hF1 ze5 zA zu zl (zq []) zFu
def zQH:vU 253 ziv:=hF1 ze5 zA zu zl (zq []) zFu
def loaded (g:ah)(v:Int):ah:=zcb (saw {g with A:=v} v)
@[simp] def zPp {g:ah}(v:Int)(h:SmG g):SmG (loaded g v):=znb (zSq (g:={g with A:=v}) v h)
@[simp] abbrev zjR (g:ah)(v:Int):Bool:=pc (SmG g)
@[simp] abbrev zi7 (g:ah)(v:Int):ah:=loaded g v
def zqA:Run:=rF2 (dT .guest) dI λb c=>(zjR b c,[aT .guest<|zi7 b c])
def zL9 (N:Nat)(c:ah)(a:Int):OA:=
 let b:=({c with A:=a}:ah); (oN (zvs b a)<|oN (zQ<|zq4 b a)<|some [aT .guest<|zck<|zq4 b a])
def zFq (b:ah)(a:Int)(e:zbE big [aT .guest b,aI a])(d:zjR b a=true):∃N,zL9 N b a=some [aT .guest<|zi7 b a]:=by
 have c:=zM.1 d;have h:_/\_/\_/\_:=c;have f:SmG (saw {b with A:=a} a):=zSq (g:={b with A:=a}) a c;refine⟨0,?_⟩;unfold zL9 oN;conv=>zeta
 refine mu (mu ?_);first|rfl|(simp only [*,zi7,loaded,cT,cF]<;>rfl)|simp_all[Ty.cells,zi7,loaded]
def zQU:vU 290 zqA:=hF2 ze5 zA zu zl (zq []) zFq
def zQu:vU 254 zqA:=hF2 ze5 zA zu zl (zq []) zFq
def zsm (g:ah)(w:Int):ah:=bif ieq w 5 then stopped g (zzO (zcg g.au g.Pc).X) else stopped g ⟨4,0,false,0⟩
@[simp] def zbfr {g:ah}(w:Int)(h:SmG g):SmG (zsm g w):=by unfold zsm;cases ieq w 5<;>exact h
@[simp] abbrev zod (g:ah)(w:Int):Bool:=pc (SmG g)
@[simp] abbrev zk5 (g:ah)(w:Int):ah:=zsm g w
def zC3:Run:=rF2 (dT .guest) dI λb c=>(zod b c,[aT .guest<|zk5 b c])
def zHZ (N:Nat)(a:ah)(c:Int):OA:=
 let b:=(zdJ a.au a.Pc).X; (cond (ieq c 5) (oN (zdA a.au a.Pc)<|oN (zfc b)<|oN (zcC a<|zga b)<|some [aT .guest<|zcw a<|zga b])<|oN (zcC a (⟨4,0,false,0⟩:aD))<|some [aT .guest<|zcw a (⟨4,0,false,0⟩:aD)])
def zU8 (a:ah)(b:Int)(c:zod a b=true):∃N,zHZ N a b=some [aT .guest<|zk5 a b]:=by
 have d:=zM.1 c;refine⟨0,?_⟩;unfold zHZ oN;conv=>zeta
 refine br (λ_=>i0 rfl (i0 rfl (mu ?_))) (λ_=>mu ?_);all_goals first|rfl|(simp only [*,zk5,zsm,cT,cF]<;>rfl)|simp_all[Ty.cells,zk5,zsm]
def zNk:vU 274 zC3:=kF2 ze5 zA zu zl (zq []) zU8
def zec (g:ah):Bool:=zdN g.au&&(zk g.A 0 99&&(zk g.Pc 0 12&&(zdv g.ax 4 8&&(zdv g.av 4 8&&(zno g.Ctl&&(zd2 g.an&&(zjC g.Exit&&ile (ln g.aC) 40)))))))
@[simp] abbrev zix (g:ah):Bool:=zec g
def zoM:Run:=rF1 (dT .guest) λb=>(zbu b,[aB<|zix b])
def zH8 (N:Nat)(a:ah):OA:=
 (oN (zu9 a.au)<|cond (zh8 a.au) (oN (zO a.A 0 99)<|cond (zk a.A 0 99) (oN (zO a.Pc 0 12)<|cond (zk a.Pc 0 12) (oN (zj9 a.ax 4 8)<|cond (zfe a.ax 4 8) (oN (zj9 a.av 4 8)<|cond (zfe a.av 4 8) (oN (zgX a.Ctl)<|cond (zsa a.Ctl) (oN (zcl a.an)<|cond (zeR a.an) (oN (zu5 a.Exit)<|cond (zmZ a.Exit) (some [aB<|ile (ln a.aC) 40]) oF) oF) oF) oF) oF) oF) oF) oF)
def zCM (a:ah)(b:zbE big [aT .guest a])(c:zbu a=true):∃N,zH8 N a=some [aB<|zix a]:=by refine⟨0,?_⟩;unfold zH8 oN;refine i0 rfl (br (λ_=>i0 rfl (br (λ_=>i0 rfl (br (λ_=>i0 rfl (br (λ_=>i0 rfl (br (λ_=>i0 rfl (br (λ_=>i0 rfl (br (λ_=>i0 rfl (br (λ_=>?_) λ_=>?_)) λ_=>?_)) λ_=>?_)) λ_=>?_)) λ_=>?_)) λ_=>?_)) λ_=>?_)) λ_=>?_);all_goals first|rfl|(simp only [*,zix,zec,cT,cF]<;>rfl)|simp_all[Ty.cells,zix,zec]
def zNp:vU 214 zoM:=hF1 ze5 zA zu zl (zq []) zCM
def zNa:vU 209 zoM:=hF1 ze5 zA zu zl (zq []) zCM
@[simp] abbrev zkE (l:List ah):Bool:=pc (zmx l)
@[simp] abbrev zkD (l:List ah):List ah:=l
def zwj:Run:=rF1 (dS .guest) λb=>(zkE b,[aS .guest<|zkD b])
def zy6 (N:Nat)(c:lG):OA:=
 (r0 (σ:=(Int×Int×lG×lG×Unit)) N (λd a=>let b:=ix a.2.2.2.1 a.2.1 zy; (cond (ilt a.2.1 a.1) (oN (inb a.2.1<|ln a.2.2.2.1)<|oN (zQ b)<|oN (few<|ln<|ap a.2.2.1 [zcZ b])<|d (a.1,zI .i64 a.2.1 1,ap a.2.2.1 [zcZ b],a.2.2.2.1,()))<|some [aS .guest a.2.2.1])) (ln c,0,[],c,()))
def zLy:=zq [(343,0,{n:=20,tm:=[(3,.sl 0 []),(7,.sl 1 []),(8,ti),(9,ti)],lo:=[],ro:=[(0,.guest,true),(1,.guest,false)]})]
def zKT (a:List ah)(g:zkE a=true):∃N,zy6 N a=some [aS .guest<|zkD a]:=by
 have f:=zM.1 g;have e:=zcc f.1;refine zb2 λN d=>?_;unfold zy6 oN;conv=>zeta
 refine(zbl a (λi (t:lG)=>(ln a,(i:Int),t,a,())) _ (λ_ x b j=>bif zQ x then (cond (few<|ln<|ap b [zcZ x]) (j<|ap b [zcZ x]) none) else none) (λ(t:lG)=>some [.one<|.s .guest t]) (λi c t rec=>?_) (λt rec=>?_) _ ([])<|d e.1).trans ?_;{simp only [zbo c,zX c,zbh c,zY c e.1,cT]};{simp only [zbj,cF]};exact ziR zQ zcZ _ a 0 [] (λx h=>⟨by exact zbg (f.2 x h),rfl⟩) (by simpa using e.2)
def zE2:vU 343 zwj:=kF1 ze5 zA zu zl zLy zKT
def gAt (b:ai)(i:Int):ah:=bif j0 i (ln b.ac) then ix b.ac i zy else Ty.dflt .guest
@[simp] def zjX {b:ai}(i:Int)(h:SmB b):SmG (gAt b i):=by unfold gAt;cases a:j0 i (ln b.ac);{exact zbfS};{exact zPo h.2.1 a _}
@[simp] abbrev zos (b:ai)(i:Int):Bool:=pc (SmB b)
@[simp] abbrev zhq (b:ai)(i:Int):ah:=gAt b i
@[simp] abbrev zhr (b:ai)(i:Int):Bool:=j0 i (ln b.ac)
def zoL:Run:=rF2 (dT .bare) dI λb c=>(zos b c,[aT .guest<|zhq b c,aB<|zhr b c])
def zH7 (N:Nat)(a:ai)(b:Int):OA:=
 let c:=ix a.ac b zy; (oN (zO b 0<|wsub .i64 (ln a.ac) 1)<|cond (nB<|zk b 0<|wsub .i64 (ln a.ac) 1) (some [aT .guest (⟨[],0,0,[],[],⟨0,0,false⟩,0,⟨0,0,false,0⟩,false,[]⟩:ah),aB false])<|oN (inb b<|ln a.ac)<|oN (zdM c)<|some [aT .guest<|zdp c,aB true])
def zVf (a:ai)(b:Int)(d:zos a b=true):∃N,zH7 N a b=some [aT .guest<|zhq a b,aB<|zhr a b]:=by
 have c:=zM.1 d;have e:a.ac.length<=1048576:=c.2.1.1;have f:j0 b (ln a.ac)=true->SmG (ix a.ac b zy):=λh=>zPo c.2.1 h _;refine⟨0,?_⟩;unfold zH7 oN nB;conv=>zeta
 refine i0 rfl (brN (λ_=>?_) λ_=>mu (mu ?_));all_goals first|rfl|(simp only [*,zhq,zhr,gAt,Ty.dflt,cT,cF]<;>rfl)|simp_all[Ty.cells,zhq,zhr,gAt,Ty.dflt]
def zNo:vU 279 zoL:=kF2 ze5 zA zu zl (zq []) zVf
def zHR (N:Nat)(a:ai)(b:Int):OA:=
 let c:=ix a.ac b zy; (oN (zbH b<|ln a.ac)<|cond (nB<|zdG b<|ln a.ac) (some [aT .guest (⟨[],0,0,[],[],⟨0,0,false⟩,0,⟨0,0,false,0⟩,false,[]⟩:ah),aB false])<|oN (inb b<|ln a.ac)<|oN (zQ c)<|some [aT .guest<|zcZ c,aB true])
def zU0 (a:ai)(b:Int)(d:zos a b=true):∃N,zHR N a b=some [aT .guest<|zhq a b,aB<|zhr a b]:=by
 have c:=zM.1 d;have e:a.ac.length<=1048576:=c.2.1.1;have f:j0 b (ln a.ac)=true->SmG (ix a.ac b zy):=λh=>zPo c.2.1 h _;refine⟨0,?_⟩;unfold zHR oN nB;conv=>zeta
 refine i0 rfl (brN (λ_=>?_) λ_=>mu (mu ?_));all_goals first|rfl|(simp only [*,zhq,zhr,gAt,Ty.dflt,cT,cF]<;>rfl)|simp_all[Ty.cells,zhq,zhr,gAt,Ty.dflt]
def zM9:vU 264 zoL:=kF2 ze5 zA zu zl (zq []) zU0
def zbbR:zZ:=[(260,zks),(268,zks),(259,zqK),(244,zqK),(349,zu4),(277,zu4),(289,ziv),(253,ziv),(290,zqA),(254,zqA),(274,zC3),(214,zoM),(209,zoM),(343,zwj),(279,zoL),(264,zoL)]++zbbQ
def zj2:zS zbbR:=zh zDI (zh zDw<|zh zcF<|zh zQK<|zh zXQ<|zh zXL<|zh zQ6<|zh zQH<|zh zQU<|zh zQu<|zh zNk<|zh zNp<|zh zNa<|zh zE2<|zh zNo<|zh zM9 ze5)
def plainly (g:ah):ah:=bif ine (zL g) 2 then g else (cond (zk g.A 0 99) (cond (zk (zcg g.au g.Pc).X 0 99) (cond (ieq (zcg g.au g.Pc).Op 1) {zcb g with A:=(zcg g.au g.Pc).X}<|cond (ieq (zcg g.au g.Pc).Op 2) {zcb g with A:=zn9 (zI .i64 g.A (zcg g.au g.Pc).X) 100}<|cond (ieq (zcg g.au g.Pc).Op 8) (cond (ieq g.A 0) {zcb g with Pc:=(zcg g.au g.Pc).X}<|zcb g)<|zcb g)<|zcb g)<|zcb g)
@[simp] def zbfK (g:ah):(zcb g).au=g.au:=by unfold zcb;cases ige g.Pc 12<;>rfl
@[simp] def zbgl (g:ah):(zcb g).A=g.A:=by unfold zcb;cases ige g.Pc 12<;>rfl
@[simp] def zbem (g:ah):(zcb g).ax=g.ax:=by unfold zcb;cases ige g.Pc 12<;>rfl
@[simp] def zbfJ (g:ah):(zcb g).av=g.av:=by unfold zcb;cases ige g.Pc 12<;>rfl
@[simp] def zbf0 (g:ah):(zcb g).Ctl=g.Ctl:=by unfold zcb;cases ige g.Pc 12<;>rfl
@[simp] def zbel (g:ah):(zcb g).an=g.an:=by unfold zcb;cases ige g.Pc 12<;>rfl
@[simp] def zbfI (g:ah):(zcb g).Exit=g.Exit:=by unfold zcb;cases ige g.Pc 12<;>rfl
@[simp] def zbe5 (g:ah):(zcb g).aF=g.aF:=by unfold zcb;cases ige g.Pc 12<;>rfl
@[simp] def zbfL (g:ah):(zcb g).aC=g.aC:=by unfold zcb;cases ige g.Pc 12<;>rfl
@[simp] def zbf1 (g:ah)(x:Int):(zcb {g with A:=x}).Pc=(zcb g).Pc:=by unfold zcb;cases ige g.Pc 12<;>rfl
@[simp] def zJh {g:ah}(h:SmG g):SmG (plainly g):=by have a:=znb h;unfold plainly;cases ine (zL g) 2;{cases zk g.A 0 99;{exact a};{cases zk (zcg g.au g.Pc).X 0 99;{exact a};{cases ieq (zcg g.au g.Pc).Op 1;{cases ieq (zcg g.au g.Pc).Op 2;{cases ieq (zcg g.au g.Pc).Op 8;{exact a};{cases ieq g.A 0<;>exact a}};{exact a}};{exact a}}}};{exact h}
@[simp] abbrev zhD (g:ah):ah:=plainly g
def zoJ:Run:=rF1 (dT .guest) λb=>(zQ b,[aT .guest<|zhD b])
def zHT (N:Nat)(a:ah):OA:=
 let c:=aT .guest<|zck a;let b:=zdJ a.au a.Pc; (oN (zbu a)<|cond (ine (zhe a) 2) (oN (zQ a)<|some [aT .guest<|zcZ a])<|oN (zdA a.au a.Pc)<|oN (zQ a)<|oN (zO a.A 0 99)<|cond (nB<|zk a.A 0 99) (some [c])<|oN (zO b.X 0 99)<|cond (nB<|zk b.X 0 99) (some [c])<|cond (ieq b.Op 1) (some [aT .guest ({ (zck a) with A:=b.X}:ah)])<|cond (ieq b.Op 2) (oN (ine 100 0)<|some [aT .guest ({ (zck a) with A:=(zn9 (zI .i64 a.A b.X) 100)}:ah)])<|cond (ieq b.Op 8) (cond (ieq a.A 0) (some [aT .guest ({ (zck a) with Pc:=b.X}:ah)])<|some [c])<|some [c])
def zU2 (a:ah)(b:zQ a=true):∃N,zHT N a=some [aT .guest<|zhD a]:=by
 have c:=zM.1 b;refine⟨0,?_⟩;unfold zHT oN nB;conv=>zeta
 refine i0 rfl (br (λ_=>mu ?_) λ_=>i0 rfl (mu (i0 rfl (brN (λ_=>?_) λ_=>i0 rfl (brN (λ_=>?_) λ_=>br (λ_=>?_) λ_=>br (λ_=>i0 rfl ?_) λ_=>br (λ_=>br (λ_=>?_) λ_=>?_) λ_=>?_)))));all_goals first|rfl|(simp only [*,zhD,plainly,cT,cF]<;>rfl)|simp_all[Ty.cells,zhD,plainly]
def zNe:vU 269 zoJ:=kF1 zj2 zA zu zl (zq []) zU2
def zIk (N:Nat)(a:ah):OA:=
 let i:=ieq a.A 0;let c:=zQ a;let b:=aT .guest<|zck a;let d:=zdJ a.au a.Pc;let j:=({a with A:=d.X}:ah);let h:=ieq d.Op 8;let e:=zk d.X 0 99;let g:=aT .guest ({ (zdp a) with Pc:=d.X}:ah);let f:=({a with A:=(zn9 (zI .i64 a.A d.X) 100)}:ah); (oN (zbu a)<|cond (ine (zhe a) 2) (oN (zdM a)<|some [aT .guest<|zdp a])<|oN (zdA a.au a.Pc)<|oN (zO a.A 0 99)<|cond (zk a.A 0 99) (oN (zO d.X 0 99)<|cond e (cond (ieq d.Op 1) (oN (zQ j)<|some [aT .guest<|zck j])<|cond e (cond (ieq d.Op 2) (oN (ine 100 0)<|oN (zQ f)<|some [aT .guest<|zck f])<|cond e (cond h (cond i (oN (zdM a)<|some [g])<|oN c<|some [b])<|oN c<|some [b])<|oN c<|some [b])<|cond e (cond h (cond i (oN (zdM a)<|some [g])<|oN c<|some [b])<|oN c<|some [b])<|oN c<|some [b])<|cond e (cond (ieq d.Op 2) (oN (ine 100 0)<|oN (zQ f)<|some [aT .guest<|zck f])<|cond e (cond h (cond i (oN (zdM a)<|some [g])<|oN c<|some [b])<|oN c<|some [b])<|oN c<|some [b])<|cond e (cond h (cond i (oN (zdM a)<|some [g])<|oN c<|some [b])<|oN c<|some [b])<|oN c<|some [b])<|oN c<|some [b])
def zVr (a:ah)(b:zQ a=true):∃N,zIk N a=some [aT .guest<|zhD a]:=by
 have c:=zM.1 b;have d:_/\_/\_/\_:=c;refine⟨0,?_⟩;unfold zIk oN;conv=>zeta
 refine i0 rfl (br (λ_=>mu ?_) λ_=>i0 rfl (i0 rfl (br (λ_=>i0 rfl (br (λ_=>br (λ_=>mu ?_) λ_=>br (λ_=>br (λ_=>i0 rfl (mu ?_)) λ_=>br (λ_=>br (λ_=>br (λ_=>mu ?_) λ_=>mu ?_) λ_=>mu ?_) λ_=>mu ?_) λ_=>br (λ_=>br (λ_=>br (λ_=>mu ?_) λ_=>mu ?_) λ_=>mu ?_) λ_=>mu ?_) λ_=>br (λ_=>br (λ_=>i0 rfl (mu ?_)) λ_=>br (λ_=>br (λ_=>br (λ_=>mu ?_) λ_=>mu ?_) λ_=>mu ?_) λ_=>mu ?_) λ_=>br (λ_=>br (λ_=>br (λ_=>mu ?_) λ_=>mu ?_) λ_=>mu ?_) λ_=>mu ?_)) λ_=>mu ?_)));all_goals first|rfl|(simp only [*,zhD,plainly,cT,cF]<;>rfl)|simp_all[Ty.cells,zhD,plainly]
def zNA:vU 261 zoJ:=kF1 zj2 zA zu zl (zq []) zVr
def E0 (g:ah):Int:=bif ine (zL g) 3 then (cond (ine (zL g) 4) (-1)<|(zcg g.au g.Pc).X) else (zcg g.au g.Pc).X
@[simp] abbrev zgW (g:ah):Int:=E0 g
def zoK:Run:=rF1 (dT .guest) λb=>(zbu b,[aI<|zgW b])
def zH1 (N:Nat)(a:ah):OA:=
 (oN (zbu a)<|cond (ine (zhe a) 3) (cond (ine (zhe a) 4) (some [aI<|-1])<|oN (zdA a.au a.Pc)<|some [aI (zdJ a.au a.Pc).X])<|oN (zdA a.au a.Pc)<|some [aI (zdJ a.au a.Pc).X])
def zCL (a:ah)(b:zbE big [aT .guest a])(c:zbu a=true):∃N,zH1 N a=some [aI<|zgW a]:=by refine⟨0,?_⟩;unfold zH1 oN;refine i0 rfl (br (λ_=>br (λ_=>?_) λ_=>i0 rfl ?_) λ_=>i0 rfl ?_);all_goals first|rfl|(simp only [*,zgW,E0,cT,cF]<;>rfl)|simp_all[Ty.cells,zgW,E0]
def zNm:vU 281 zoK:=hF1 zj2 zA zu zl (zq []) zCL
def zM6:vU 245 zoK:=hF1 zj2 zA zu zl (zq []) zCL
def zgc (g:ah)(t w:Int):ah:=bif ieq w 6 then stopped g (zvH (zcg g.au g.Pc).X) else (cond (ieq w 5&&zed t 1) (stopped g<|zzO (zcg g.au g.Pc).X)<|cond (ieq w 7&&zed t 2) (stopped g ⟨4,0,false,0⟩)<|cond (ieq w 7) (held g)<|zcb g)
def zhZ (t w:Int):Bool:=bif ieq w 6 then false else (cond (ieq w 5&&zed t 1) false<|cond (ieq w 7&&zed t 2) false true)
@[simp] def zF4 {g:ah}(t w:Int)(h:SmG g):SmG (zgc g t w):=by unfold zgc;cases ieq w 6;{cases (ieq w 5&&zed t 1);{cases (ieq w 7&&zed t 2);{cases ieq w 7;{exact znb h};{exact zZK h}};{exact h}};{exact h}};{exact h}
@[simp] abbrev zea (g:ah)(t w:Int):Bool:=pc (SmG g)
@[simp] abbrev zcv (g:ah)(t w:Int):ah:=zgc g t w
@[simp] abbrev zdB (g:ah)(t w:Int):Bool:=zhZ t w
def zDh:Run:=rF3 (dT .guest) dI dI λb c d=>(zea b c d,[aT .guest<|zcv b c d,aB<|zdB b c d])
def zIu (N:Nat)(a:ah)(c b:Int):OA:=
 let g:=aT .guest<|zck a;let f:=aT .guest<|zlL a;let e:=(⟨4,0,false,0⟩:aD);let d:=(zdJ a.au a.Pc).X; (oN (zdA a.au a.Pc)<|cond (ieq b 6) (oN (zfc d)<|oN (zcC a<|zeV d)<|some [aT .guest<|zcw a<|zeV d,aB false])<|cond (ieq b 5) (oN (zgi c 1)<|cond (zfH c 1) (oN (zfc d)<|oN (zcC a<|zga d)<|some [aT .guest<|zcw a<|zga d,aB false])<|cond (ieq b 7) (oN (zgi c 2)<|cond (zfH c 2) (oN (zcC a e)<|some [aT .guest<|zcw a e,aB false])<|cond (ieq b 7) (oN (zQ a)<|some [f,aB true])<|oN (zQ a)<|some [g,aB true])<|cond (ieq b 7) (oN (zQ a)<|some [f,aB true])<|oN (zQ a)<|some [g,aB true])<|cond (ieq b 7) (oN (zgi c 2)<|cond (zfH c 2) (oN (zcC a e)<|some [aT .guest<|zcw a e,aB false])<|cond (ieq b 7) (oN (zQ a)<|some [f,aB true])<|oN (zQ a)<|some [g,aB true])<|cond (ieq b 7) (oN (zQ a)<|some [f,aB true])<|oN (zQ a)<|some [g,aB true])
def zVC (a:ah)(b c:Int)(d:zea a b c=true):∃N,zIu N a b c=some [aT .guest<|zcv a b c,aB<|zdB a b c]:=by
 have e:=zM.1 d;refine⟨0,?_⟩;unfold zIu oN;conv=>zeta
 refine i0 rfl (br (λ_=>i0 rfl (mu ?_)) λ_=>br (λ_=>i0 rfl (br (λ_=>i0 rfl (mu ?_)) λ_=>br (λ_=>i0 rfl (br (λ_=>mu ?_) λ_=>br (λ_=>mu ?_) λ_=>mu ?_)) λ_=>br (λ_=>mu ?_) λ_=>mu ?_)) λ_=>br (λ_=>i0 rfl (br (λ_=>mu ?_) λ_=>br (λ_=>mu ?_) λ_=>mu ?_)) λ_=>br (λ_=>mu ?_) λ_=>mu ?_);all_goals first|rfl|(simp only [*,zcv,zdB,zgc,zhZ,cT,cF]<;>rfl)|simp_all[Ty.cells,zcv,zdB,zgc,zhZ]
def zNT:vU 292 zDh:=kF3 zj2 zA zu zl (zq []) zVC
def zb0 (b:ai):Bool:=bif b.ac.all zec then (zjG b.ag 8&&(zk (ln b.ac) 1 2&&(ile (ln b.Outs) 40&&zd2 b.an))) else false
@[simp] abbrev zjK (b:ai):Bool:=true
@[simp] abbrev zcX (b:ai):Bool:=zb0 b
def zqv:Run:=rF1 (dT .bare) λb=>(zjK b,[aB<|zcX b])
def zL1 (N:Nat)(c:ai):OA:=
 (r0 (σ:=(Int×Int×lM×lG×LI×Unit)) N (λd a=>let b:=a.2.2.2.1; (cond (ilt a.1<|ln b) (oN (inb a.1<|ln b)<|oN (zbu<|ix b a.1 zy)<|cond (nB<|zix<|ix b a.1 zy) oF<|d (zI .i64 a.1 1,a.2.1,a.2.2.1,b,a.2.2.2.2.1,()))<|oN (zjS a.2.2.1 8)<|cond (zf8 a.2.2.1 8) (oN (zO (ln b) 1 2)<|cond (zk (ln b) 1 2) (cond (ile (ln a.2.2.2.2.1) 40) (oN (zcl a.2.1)<|some [aB<|zeR a.2.1]) oF) oF) oF)) (0,c.an,c.ag,c.ac,c.Outs,()))
def z0b:=zq [(280,0,{n:=38,tm:=[(1,.lp 0 0),(3,ti)],lo:=[(0,[.sl 0 [],.sl 1 [],.sl 2 [],ti])],ro:=[(0,.sl .int,false),(1,.guest,false),(2,.int,false)]})]
def zYj (a:ai)(k:zbE big [aT .bare a])(m:zjK a=true):∃N,zL1 N a=some [aB<|zcX a]:=by
 have j:(_:List _).length<=big:=((zdy k).1 (.s .guest a.ac) (by simp[AV.cvs,Ty.cells])).len;refine zb2 λN h=>?_;unfold zL1 oN nB;conv=>zeta
 refine(zbl a.ac (λi (t:Unit)=>((i:Int),a.an,a.ag,a.ac,a.Outs,())) _ (λ_ x (_:Unit) l=>bif (zec) x then l () else oF) (λ(t:Unit)=>cond (zjS a.ag 8) (cond (zf8 a.ag 8) (cond (zO (ln a.ac) 1 2) (cond (zk (ln a.ac) 1 2) (cond (ile (ln a.Outs) 40) (cond (zcl a.an) (some [.one<|.b<|zeR a.an]) none) oF) oF) none) oF) none) (λi f t rec=>?_) (λt rec=>?_) _ ()<|h j).trans ?_;{simp only [zbo f,zX f,zbh f,zY f j,cT];exact zjZ rfl};{simp only [zbj,cF]};rw[zhR<|zec];refine br (λc=>?_) (λc=>?_);{refine i0 rfl ?_;refine br (λd=>?_) (λd=>?_);{refine i0 rfl ?_;refine br (λe=>?_) (λe=>?_);{refine br (λg=>?_) (λg=>?_);{refine i0 rfl ?_;first|rfl|(simp only [c,d,e,g,zcX,zb0,cT,cF]<;>rfl)|(simp_all [Ty.cells,zcX,zb0];done)};{first|rfl|(simp only [c,d,e,g,zcX,zb0,cT,cF]<;>rfl)|(simp_all [Ty.cells,zcX,zb0];done)}};{first|rfl|(simp only [c,d,e,zcX,zb0,cT,cF]<;>rfl)|(simp_all [Ty.cells,zcX,zb0];done)}};{first|rfl|(simp only [c,d,zcX,zb0,cT,cF]<;>rfl)|(simp_all [Ty.cells,zcX,zb0];done)}};{first|rfl|(simp only [c,zcX,zb0,cT,cF]<;>rfl)|(simp_all [Ty.cells,zcX,zb0];done)}
def zQO:vU 280 zqv:=hF1 zj2 zA zu zl z0b zYj
def zLI (N:Nat)(b:ai):OA:=
 (r0 (σ:=(Int×Int×Int×lG×lM×LI×Unit)) N (λe a=>let b:=a.2.2.2.2;let c:=a.2.2.2.1;let d:=ix c a.2.1 zy; (cond (ilt a.2.1 a.1) (oN (inb a.2.1<|ln c)<|oN (zbu d)<|cond (nB<|zix d) oF<|e (a.1,zI .i64 a.2.1 1,a.2.2.1,c,b.1,b.2.1,()))<|oN (zjS b.1 8)<|cond (zf8 b.1 8) (oN (zO (ln c) 1 2)<|cond (zk (ln c) 1 2) (cond (ile (ln b.2.1) 40) (oN (zcl a.2.2.1)<|some [aB<|zeR a.2.2.1]) oF) oF) oF)) (ln b.ac,0,b.an,b.ac,b.ag,b.Outs,()))
def zZ3:=zq [(265,0,{n:=36,tm:=[(1,.lp 0 0),(6,.sl 0 []),(7,ti),(8,ti)],lo:=[(0,[.sl 1 [],.sl 0 [],.sl 2 [],ti])],ro:=[(0,.guest,false),(1,.sl .int,false),(2,.int,false)]})]
def zX0 (a:ai)(k:zbE big [aT .bare a])(m:zjK a=true):∃N,zLI N a=some [aB<|zcX a]:=by
 have j:(_:List _).length<=big:=((zdy k).1 (.s .guest a.ac) (by simp[AV.cvs,Ty.cells])).len;refine zb2 λN h=>?_;unfold zLI oN nB;conv=>zeta
 refine(zbl a.ac (λi (t:Unit)=>(ln a.ac,(i:Int),a.an,a.ac,a.ag,a.Outs,())) _ (λ_ x (_:Unit) l=>bif (zec) x then l () else oF) (λ(t:Unit)=>cond (zjS a.ag 8) (cond (zf8 a.ag 8) (cond (zO (ln a.ac) 1 2) (cond (zk (ln a.ac) 1 2) (cond (ile (ln a.Outs) 40) (cond (zcl a.an) (some [.one<|.b<|zeR a.an]) none) oF) oF) none) oF) none) (λi f t rec=>?_) (λt rec=>?_) _ ()<|h j).trans ?_;{simp only [zbo f,zX f,zbh f,zY f j,cT];exact zjZ rfl};{simp only [zbj,cF]};rw[zhR<|zec];refine br (λc=>?_) (λc=>?_);{refine i0 rfl ?_;refine br (λd=>?_) (λd=>?_);{refine i0 rfl ?_;refine br (λe=>?_) (λe=>?_);{refine br (λg=>?_) (λg=>?_);{refine i0 rfl ?_;first|rfl|(simp only [c,d,e,g,zcX,zb0,cT,cF]<;>rfl)|(simp_all [Ty.cells,zcX,zb0];done)};{first|rfl|(simp only [c,d,e,g,zcX,zb0,cT,cF]<;>rfl)|(simp_all [Ty.cells,zcX,zb0];done)}};{first|rfl|(simp only [c,d,e,zcX,zb0,cT,cF]<;>rfl)|(simp_all [Ty.cells,zcX,zb0];done)}};{first|rfl|(simp only [c,d,zcX,zb0,cT,cF]<;>rfl)|(simp_all [Ty.cells,zcX,zb0];done)}};{first|rfl|(simp only [c,zcX,zb0,cT,cF]<;>rfl)|(simp_all [Ty.cells,zcX,zb0];done)}
def zQn:vU 265 zqv:=hF1 zj2 zA zu zl zZ3 zX0
@[simp] abbrev zbV (b:ai):Bool:=pc (SmB b)
@[simp] abbrev zbk (b:ai):ai:=b
def znC:Run:=rF1 (dT .bare) λb=>(zbV b,[aT .bare<|zbk b])
def zDW (N:Nat)(a:ai):OA:=
 (oN (zhl a.ag)<|oN (zkE a.ac)<|oN (zeq a.Outs)<|some [aT .bare (⟨zeh a.ag,zkD a.ac,zel a.Outs,a.an⟩:ai)])
def zRA (a:ai)(b:zbV a=true):∃N,zDW N a=some [aT .bare<|zbk a]:=by have c:=zM.1 b;have d:_/\_/\_:=c;refine⟨0,?_⟩;unfold zDW oN;refine mu (mu<|mu ?_);first|rfl|(simp only [*,zbk,cT,cF]<;>rfl)|simp_all[Ty.cells,zbk]
def zKa:vU 156 znC:=kF1 zj2 zA zu zl (zq []) zRA
def zIt (N:Nat)(a:ai):OA:=
 (oN (zhw a.ag)<|oN (zg0 a.ac)<|oN (few<|ln<|ap [] a.Outs)<|some [aT .bare (⟨zfI a.ag,zhz a.ac,ap [] a.Outs,a.an⟩:ai)])
def zVB (a:ai)(b:zbV a=true):∃N,zIt N a=some [aT .bare<|zbk a]:=by have c:=zM.1 b;have d:_/\_/\_:=c;refine⟨0,?_⟩;unfold zIt oN;refine mu (mu<|mu ?_);first|rfl|(simp only [*,zbk,cT,cF]<;>rfl)|simp_all[Ty.cells,zbk]
def zNS:vU 278 znC:=kF1 zj2 zA zu zl (zq []) zVB
def zbbS:zZ:=[(261,zoJ),(269,zoJ),(281,zoK),(245,zoK),(292,zDh),(280,zqv),(265,zqv),(156,znC),(278,znC)]++zbbR
def zA1:zS zbbS:=zh zNA (zh zNe<|zh zNm<|zh zM6<|zh zNT<|zh zQO<|zh zQn<|zh zKa<|zh zNS zj2)
def zeb (b:ai)(i:Int)(x:ah):ai:={b with ac:=up b.ac i x}
def znd (b:ai)(i:Int)(x:ah):ai:=bif j0 i (ln b.ac) then zeb b i x else b
def zi4 (b:ai)(n:Int):ai:=bif ilt (ln b.Outs) 40 then {b with Outs:=ap b.Outs [n]} else b
@[simp] def zpn {b:ai}{i:Int}{x:ah}(h:SmB b)(a:SmG x):SmB (zeb b i x):=⟨h.1,zGH h.2.1 a,h.2.2⟩
@[simp] def zPk {b:ai}{n:Int}(h:SmB b):SmB (zi4 b n):=by unfold zi4;cases a:ilt (ln b.Outs) 40;{exact h};{have:=qD a;refine⟨h.1,h.2.1,?_⟩;simp[ln] at *;omega}
@[simp] def zbgh (b:ai)(n:Int):(zi4 b n).ac=b.ac:=by unfold zi4;cases ilt (ln b.Outs) 40<;>rfl
@[simp] def zB4 {m:List LI}{p c v:Int}(h:SmM m):SmM (zbS m p c v):=by unfold zbS;cases a:zg3 m p c;{exact h};{cases b:zk v 0 99;{exact h};{exact zPr h (by simpa using zbfi h ((zBE m p c).1 a).1 [])}}
@[simp] abbrev zcU (b:ai)(i:Int)(x:ah):Bool:=pc (SmB b/\SmG x)
@[simp] abbrev zeu (b:ai)(i:Int)(x:ah):ai:=znd b i x
def zxC:Run:=rF3 (dT .bare) dI (dT .guest) λb c d=>(zcU b c d,[aT .bare<|zeu b c d])
def zCh (N:Nat)(a:ai)(b:Int)(c:ah):OA:=
 (oN (zbV a)<|oN (zbH b<|ln a.ac)<|cond (zdG b<|ln a.ac) (oN (zQ c)<|oN (inb b<|ln (zbk a).ac)<|p0 (up (zbk a).ac b<|zcZ c) λd=>some [aT .bare ({ (zbk a) with ac:=d}:ai)])<|some [aT .bare<|zbk a])
def zOf (a:ai)(b:Int)(c:ah)(d:zcU a b c=true):∃N,zCh N a b c=some [aT .bare<|zeu a b c]:=by have e:=zM.1 d;refine⟨0,?_⟩;unfold zCh oN;refine mu (i0 rfl (br (λ_=>mu (mu<|shr ?_)) λ_=>?_));all_goals first|rfl|(simp only [*,zeu,znd,zeb,cT,cF]<;>rfl)|simp_all[Ty.cells,zeu,znd,zeb]
def zGQ:vU 267 zxC:=kF3 zA1 zA zu zl (zq []) zOf
@[simp] abbrev zeW (b:ai)(n:Int):Bool:=pc (SmB b)
@[simp] abbrev zj7 (b:ai)(n:Int):ai:=zi4 b n
def zqG:Run:=rF2 (dT .bare) dI λb c=>(zeW b c,[aT .bare<|zj7 b c])
def zMi (N:Nat)(a:ai)(b:Int):OA:=
 (oN (zbV a)<|cond (ilt (ln (zbk a).Outs) 40) (oN (few<|ln<|ap (zbk a).Outs [b])<|some [aT .bare ({ (zbk a) with Outs:=(ap (zbk a).Outs [b])}:ai)])<|some [aT .bare<|zbk a])
def zYw (a:ai)(b:Int)(c:zeW a b=true):∃N,zMi N a b=some [aT .bare<|zj7 a b]:=by have d:=zM.1 c;have e:a.Outs.length<=1048576:=d.2.2;refine⟨0,?_⟩;unfold zMi oN;refine mu (br (λ_=>mu ?_) λ_=>?_);all_goals first|rfl|(simp only [*,zj7,zi4,cT,cF]<;>rfl)|simp_all[Ty.cells,zj7,zi4]
def zQ2:vU 293 zqG:=kF2 zA1 zA zu zl (zq []) zYw
def zLT (N:Nat)(a:ai)(b:Int):OA:=
 (oN (zbV a)<|cond (ilt (ln a.Outs) 40) (oN (few<|ln<|ap (zbk a).Outs [b])<|some [aT .bare ({ (zbk a) with Outs:=(ap (zbk a).Outs [b])}:ai)])<|some [aT .bare<|zbk a])
def zYb (a:ai)(b:Int)(c:zeW a b=true):∃N,zLT N a b=some [aT .bare<|zj7 a b]:=by have d:=zM.1 c;have e:a.Outs.length<=1048576:=d.2.2;refine⟨0,?_⟩;unfold zLT oN;refine mu (br (λ_=>mu ?_) λ_=>?_);all_goals first|rfl|(simp only [*,zj7,zi4,cT,cF]<;>rfl)|simp_all[Ty.cells,zj7,zi4]
def zQD:vU 275 zqG:=kF2 zA1 zA zu zl (zq []) zYb
def zWh:zZ:=[(267,zxC),(293,zqG),(275,zqG)]++zbbS
def ziS:zS zWh:=zh zGQ (zh zQ2<|zh zQD zA1)
def zju (b:ai)(g:Int)(x:ah)(w:Bool):ai :=
 bif zfk x.av (zbs<|E0 x) (zcf w) then
  (bif w then zeb {b with ag:=zbS b.ag (zct x.av (zbs<|E0 x)<|zcf w) (zdO<|E0 x) x.A} g (zcb x)
  else zeb b g (loaded x<|cellAt b.ag (zct x.av (zbs<|E0 x)<|zcf w)<|zdO<|E0 x))
 else zeb b g (stopped x<|ztq (zbs<|E0 x) w)
def zn2 (b:ai)(g:Int)(x:ah)(w:Int):ai :=
 zeb (cond (cond (zhZ x.Ctl.aq w) (ieq w 5) false) (zi4 b (zcg x.au x.Pc).X) b) g (zgc x x.Ctl.aq w)
def stepped (b:ai)(g:Int)(x:ah)(w:Int):ai :=
 bif ieq w 1 then zeb b g (interrupted x) else (cond (ieq w 2) (zeb b g<|plainly x)<|cond (ieq w 3) (zju b g x false)<|cond (ieq w 4) (zju b g x true)<|zn2 b g x w)
def tr1 (x:ah)(t w:Int):ieq w 6=true->zgc x t w=stopped x (zvH (zcg x.au x.Pc).X)/\zhZ t w=false:=by intro h;simp[zgc,zhZ,h]
def tr2 (x:ah)(t w:Int):ieq w 6=false->(ieq w 5=false->ieq w 6=false->ieq w 7=true)->zed t (zgb w)=true->zgc x t w=zsm x w/\zhZ t w=false:=by intro b c h;unfold zgc zhZ zsm zgb at *;cases a:ieq w 5<;>simp_all
def tr3 (x:ah)(t w:Int):ieq w 6=false->ieq w 7=false->zed t (zgb w)=false->ieq w 5=true->zgc x t w=zcb x/\zhZ t w=true:=by intro b c h a;unfold zgc zhZ zgb at *;simp_all
def tr4 (x:ah)(t w:Int):ieq w 6=false->(ieq w 5=false->ieq w 6=false->ieq w 7=true)->zed t (zgb w)=false->ieq w 5=false->zgc x t w=held x:=by intro b c h a;unfold zgc zgb at *;simp_all
def zen (b:ai)(g:Int):Bool:=bif j0 g (ln b.ac) then (cond (zb0 b) (!ieq (zL<|gAt b g) 0) false) else false
def zdj (b:ai)(g:Int):ai:=bif zen b g then stepped b g (gAt b g) (zL<|gAt b g) else b
@[simp] def z3c {b:ai}{g:Int}{x:ah}{w:Bool}(h:SmB b)(a:SmG x):SmB (zju b g x w):=by unfold zju;cases zfk x.av (zbs<|E0 x) (zcf w);{exact zpn h a};{cases w;{exact zpn h (zPp _ a)};{exact⟨zB4 h.1,zGH h.2.1<|znb a,h.2.2⟩}}
@[simp] def zbeb {b:ai}{g:Int}{x:ah}{w:Int}(h:SmB b)(a:SmG x):SmB (zn2 b g x w):=by unfold zn2;cases (cond (zhZ x.Ctl.aq w) (ieq w 5) false);{exact zpn h (zF4 _ _ a)};{exact zpn (zPk h) (zF4 _ _ a)}
@[simp] def z1W {b:ai}{g:Int}{x:ah}{w:Int}(h:SmB b)(a:SmG x):SmB (stepped b g x w):=by unfold stepped;cases ieq w 1;{cases ieq w 2;{cases ieq w 3;{cases ieq w 4;{exact zbeb h a};{exact z3c h a}};{exact z3c h a}};{exact zpn h (zJh a)}};{exact zpn h (z3e a)}
@[simp] def zLt {b:ai}{g:Int}(h:SmB b):SmB (zdj b g):=by unfold zdj;cases zen b g;{exact h};{exact z1W h (zjX g h)}
def zWv (x:ah):ieq (zL x) 0=false->ieq (zL x) 1=false->ieq (zL x) 2=false->ieq (zL x) 3=false->ieq (zL x) 4=false->ieq (zL x) 5=false->ieq (zL x) 6=false->ieq (zL x) 7=true:=by unfold zL zv8;cases canRun x;{intro h;cases h};{cases zjd x;{simp only [cT,cF];generalize (zcg x.au x.Pc).Op=o;cases ieq o 3<;>cases ieq o 4<;>cases ieq o 5<;>cases ieq o 6<;>cases ieq o 7<;>simp [ieq]};{intro _ h;cases h}}
def zRp {x:Int}{a b:Int}(h:ieq x a=true)(c:ieq a b=false):ieq x b=false:=by have:x=a:=(by simpa [ieq] using h);rw[this];exact c
@[simp] abbrev zc3 (b:ai)(g:Int):Bool:=pc (SmB b)
@[simp] abbrev ze7 (b:ai)(g:Int):ai:=zdj b g
@[simp] abbrev zgy (b:ai)(g:Int):Bool:=zen b g
def zhb:Run:=rF2 (dT .bare) dI λb c=>(zc3 b c,[aT .bare<|ze7 b c,aB<|zgy b c])
def zDQ (N:Nat)(b:ai)(c:Int):OA:=
 let g:=b.ag;let l:=aT .bare<|zbk b;let a:=zhq b c;let k:=a.Ctl.aq;let t:=aT .bare<|zeu b c<|zlL a;let d:=zhe a;let r:=aT .bare<|zeu b c<|zk5 a d;let i:=zgW a;let f:=zdg i;let e:=zb3 i;let h:=ieq d 4;let w:=zdK e h;let p:=aT .bare<|zeu b c<|zcw a w;let j:=(zdJ a.au a.Pc).X;let u:=zcU (zj7 b j) c<|zck a;let n:=aT .bare<|zeu (zj7 b j) c<|zck a;let x:=zcw a<|zeV j;let m:=zeF a.av e<|zcK h;let v:=zgz g m f;let q:=aT .bare<|zeu b c<|zi7 a v;let y:=({b with ag:=(zeX g m f a.A)}:ai);let s:=aT .bare<|zeu y c<|zck a; (oN (zos b c)<|oN (zbu a)<|oN (zjK b)<|cond (nB<|zcX b) (oN (zbV b)<|some [l,aB false])<|cond (nB<|zhr b c) (oN (zbV b)<|some [l,aB false])<|cond (ieq d 0) (oN (zbV b)<|some [l,aB false])<|oN (zbu a)<|oN (zdA a.au a.Pc)<|cond (ieq d 1) (oN (zQ a)<|oN (zcU b c<|zeI a)<|some [aT .bare<|zeu b c<|zeI a,aB true])<|cond (ieq d 2) (oN (zQ a)<|oN (zcU b c<|zhD a)<|some [aT .bare<|zeu b c<|zhD a,aB true])<|cond (ieq d 3) (cond (ieq d 3) (oN (zbD i)<|oN (zil h)<|oN (zfT a.av e<|zcK h)<|cond (nB<|zdR a.av e<|zcK h) (oN (zbD i)<|oN (zfo e h)<|oN (zcC a w)<|oN (zcU b c<|zcw a w)<|some [p,aB true])<|cond h (oN (zbD i)<|oN (zff g m f a.A)<|oN (zQ a)<|oN (zcU y c<|zck a)<|some [s,aB true])<|oN (zbD i)<|oN (zeY g m f)<|oN (zjR a v)<|oN (zcU b c<|zi7 a v)<|some [q,aB true])<|cond (ieq d 6) (oN (zfc j)<|oN (zcC a<|zeV j)<|oN (zcU b c x)<|some [aT .bare<|zeu b c x,aB true])<|oN (zp7 d)<|oN (zgi k<|ziZ d)<|cond (zfH k<|ziZ d) (oN (zod a d)<|oN (zcU b c<|zk5 a d)<|some [r,aB true])<|cond (ieq d 5) (oN (zeW b j)<|oN (zQ a)<|oN u<|some [n,aB true])<|oN (zQ a)<|oN (zcU b c<|zlL a)<|some [t,aB true])<|cond h (oN (zbD i)<|oN (zil h)<|oN (zfT a.av e<|zcK h)<|cond (nB<|zdR a.av e<|zcK h) (oN (zbD i)<|oN (zfo e h)<|oN (zcC a w)<|oN (zcU b c<|zcw a w)<|some [p,aB true])<|cond h (oN (zbD i)<|oN (zff g m f a.A)<|oN (zQ a)<|oN (zcU y c<|zck a)<|some [s,aB true])<|oN (zbD i)<|oN (zeY g m f)<|oN (zjR a v)<|oN (zcU b c<|zi7 a v)<|some [q,aB true])<|cond (ieq d 6) (oN (zfc j)<|oN (zcC a<|zeV j)<|oN (zcU b c x)<|some [aT .bare<|zeu b c x,aB true])<|oN (zp7 d)<|oN (zgi k<|ziZ d)<|cond (zfH k<|ziZ d) (oN (zod a d)<|oN (zcU b c<|zk5 a d)<|some [r,aB true])<|cond (ieq d 5) (oN (zeW b j)<|oN (zQ a)<|oN u<|some [n,aB true])<|oN (zQ a)<|oN (zcU b c<|zlL a)<|some [t,aB true])
def zRu (a:ai)(b:Int)(f:zc3 a b=true):∃N,zDQ N a b=some [aT .bare<|ze7 a b,aB<|zgy a b]:=by
 have c:=zM.1 f;have j:=zjX b c;have k:_/\_/\_:=c;have hg:a.ac.length<=1048576:=c.2.1.1;have g:=zWv (gAt a b);have d:ieq (zL<|gAt a b) 3=true->ieq (zL<|gAt a b) 4=false:=λh=>zRp h rfl;have e:ieq (zL<|gAt a b) 5=true->ieq (zL<|gAt a b) 7=false:=λh=>zRp h rfl;have l:=tr1 (gAt a b) (gAt a b).Ctl.aq (zL<|gAt a b);have m:=tr2 (gAt a b) (gAt a b).Ctl.aq (zL<|gAt a b);have p:=tr3 (gAt a b) (gAt a b).Ctl.aq (zL<|gAt a b);have q:=tr4 (gAt a b) (gAt a b).Ctl.aq (zL<|gAt a b);have i:∀n,SmB (zi4 a n):=λn=>zPk c;refine⟨0,?_⟩;unfold zDQ oN nB;conv=>zeta
 refine mu (i0 rfl (i0 rfl (brN (λ_=>mu ?_) λ_=>brN (λ_=>mu ?_) λ_=>br (λ_=>mu ?_) λ_=>i0 rfl (i0 rfl (br (λ_=>mu (mu ?_)) λ_=>br (λ_=>mu (mu ?_)) λ_=>br (λ_=>br (λ_=>i0 rfl (i0 rfl (i0 rfl (brN (λ_=>i0 rfl (i0 rfl (mu<|mu ?_))) λ_=>br (λ_=>i0 rfl (mu<|mu<|mu ?_)) λ_=>i0 rfl (i0 rfl (mu<|mu ?_)))))) λ_=>br (λ_=>i0 rfl (mu<|mu ?_)) λ_=>i0 rfl (i0 rfl (br (λ_=>mu (mu ?_)) λ_=>br (λ_=>mu (mu<|mu ?_)) λ_=>mu (mu ?_)))) λ_=>br (λ_=>i0 rfl (i0 rfl (i0 rfl (brN (λ_=>i0 rfl (i0 rfl (mu<|mu ?_))) λ_=>br (λ_=>i0 rfl (mu<|mu<|mu ?_)) λ_=>i0 rfl (i0 rfl (mu<|mu ?_)))))) λ_=>br (λ_=>i0 rfl (mu<|mu ?_)) λ_=>i0 rfl (i0 rfl (br (λ_=>mu (mu ?_)) λ_=>br (λ_=>mu (mu<|mu ?_)) λ_=>mu (mu ?_))))))));all_goals first|rfl|(simp only [*,ze7,zgy,zdj,zen,stepped,zju,zn2,znd,zcf,cT,cF]<;>rfl)|simp_all[Ty.cells,ze7,zgy,zdj,zen,stepped,zju,zn2,znd,zcf]
def zo8:vU 111 zhb:=kF2 ziS zA zu zl (zq []) zRu
def zEa (N:Nat)(v:ai)(f:Int):OA:=
 let c:=zbk v;let h:=c.ag;let e:=c.ac;let k:=inb f<|ln e;let a:=zhq c f;let l:=a.Ctl.aq;let q:=(zdJ a.au a.Pc).X;let j:=zhe a;let u:=zcv a l j;let n:=up e f u;let r:=zj7 c q;let m:=zgW a;let g:=zdg m;let d:=zb3 m;let i:=ieq j 4;let s:=up e f<|zcw a<|zdK d i;let p:=zeF a.av d<|zcK i;let t:=zgz h p g; (oN (zbV v)<|oN (zos c f)<|oN (zbu a)<|cond (nB<|zhr c f) (some [aT .bare c,aB false])<|oN (zjK c)<|cond (nB<|zcX c) (some [aT .bare c,aB false])<|cond (ieq j 0) (some [aT .bare c,aB false])<|cond (ieq j 1) (oN (zQ a)<|oN k<|p0 (up e f<|zeI a) λb=>some [aT .bare ({c with ac:=b}:ai),aB true])<|cond (ieq j 2) (oN (zQ a)<|oN k<|p0 (up e f<|zhD a) λb=>some [aT .bare ({c with ac:=b}:ai),aB true])<|cond (ieq j 3) (cond (ieq j 3) (oN (zbu a)<|oN (zbD m)<|oN (zil i)<|oN (zfT a.av d<|zcK i)<|cond (nB<|zdR a.av d<|zcK i) (oN (zbD m)<|oN (zfo d i)<|oN (zcC a<|zdK d i)<|oN k<|p0 s λb=>some [aT .bare ({c with ac:=b}:ai),aB true])<|cond i (oN (zbD m)<|oN (zff h p g a.A)<|oN (zQ a)<|oN k<|p0 (up e f<|zck a) λb=>some [aT .bare ({c with ag:=(zeX h p g a.A),ac:=b}:ai),aB true])<|oN (zbD m)<|oN (zeY h p g)<|oN (zjR a t)<|oN k<|p0 (up e f<|zi7 a t) λb=>some [aT .bare ({c with ac:=b}:ai),aB true])<|oN (zea a l j)<|cond (zdB a l j) (cond (ieq j 5) (oN (zdA a.au a.Pc)<|oN (zeW c q)<|oN (inb f<|ln r.ac)<|p0 (up r.ac f u) λb=>some [aT .bare ({r with ac:=b}:ai),aB true])<|oN k<|p0 n λb=>some [aT .bare ({c with ac:=b}:ai),aB true])<|oN k<|p0 n λb=>some [aT .bare ({c with ac:=b}:ai),aB true])<|cond i (oN (zbu a)<|oN (zbD m)<|oN (zil i)<|oN (zfT a.av d<|zcK i)<|cond (nB<|zdR a.av d<|zcK i) (oN (zbD m)<|oN (zfo d i)<|oN (zcC a<|zdK d i)<|oN k<|p0 s λb=>some [aT .bare ({c with ac:=b}:ai),aB true])<|cond i (oN (zbD m)<|oN (zff h p g a.A)<|oN (zQ a)<|oN k<|p0 (up e f<|zck a) λb=>some [aT .bare ({c with ag:=(zeX h p g a.A),ac:=b}:ai),aB true])<|oN (zbD m)<|oN (zeY h p g)<|oN (zjR a t)<|oN k<|p0 (up e f<|zi7 a t) λb=>some [aT .bare ({c with ac:=b}:ai),aB true])<|oN (zea a l j)<|cond (zdB a l j) (cond (ieq j 5) (oN (zdA a.au a.Pc)<|oN (zeW c q)<|oN (inb f<|ln r.ac)<|p0 (up r.ac f u) λb=>some [aT .bare ({r with ac:=b}:ai),aB true])<|oN k<|p0 n λb=>some [aT .bare ({c with ac:=b}:ai),aB true])<|oN k<|p0 n λb=>some [aT .bare ({c with ac:=b}:ai),aB true])
def zRN (a:ai)(b:Int)(e:zc3 a b=true):∃N,zEa N a b=some [aT .bare<|ze7 a b,aB<|zgy a b]:=by
 have c:=zM.1 e;have g:=zjX b c;have i:_/\_/\_:=c;have hg:a.ac.length<=1048576:=c.2.1.1;have f:=zWv (gAt a b);have d:ieq (zL<|gAt a b) 3=true->ieq (zL<|gAt a b) 4=false:=λh=>zRp h rfl;refine⟨0,?_⟩;unfold zEa oN nB;conv=>zeta
 refine mu (mu (i0 rfl (brN (λ_=>?_) λ_=>i0 rfl (brN (λ_=>?_) λ_=>br (λ_=>?_) λ_=>br (λ_=>mu (mu<|shr ?_)) λ_=>br (λ_=>mu (mu<|shr ?_)) λ_=>br (λ_=>br (λ_=>i0 rfl (i0 rfl (i0 rfl (i0 rfl (brN (λ_=>i0 rfl (i0 rfl (mu<|mu<|shr ?_))) λ_=>br (λ_=>i0 rfl (mu<|mu<|mu<|shr ?_)) λ_=>i0 rfl (i0 rfl (mu<|mu<|shr ?_))))))) λ_=>mu (br (λ_=>br (λ_=>i0 rfl (mu<|mu<|shr ?_)) λ_=>mu (shr ?_)) λ_=>mu (shr ?_))) λ_=>br (λ_=>i0 rfl (i0 rfl (i0 rfl (i0 rfl (brN (λ_=>i0 rfl (i0 rfl (mu<|mu<|shr ?_))) λ_=>br (λ_=>i0 rfl (mu<|mu<|mu<|shr ?_)) λ_=>i0 rfl (i0 rfl (mu<|mu<|shr ?_))))))) λ_=>mu (br (λ_=>br (λ_=>i0 rfl (mu<|mu<|shr ?_)) λ_=>mu (shr ?_)) λ_=>mu (shr ?_))))));all_goals first|rfl|(simp only [*,ze7,zgy,zdj,zen,stepped,zju,zn2,znd,zcf,zeb,cT,cF]<;>rfl)|simp_all[Ty.cells,ze7,zgy,zdj,zen,stepped,zju,zn2,znd,zcf,zeb]
def zvU:vU 113 zhb:=kF2 ziS zA zu zl (zq []) zRN
def SmK (k:az):Prop:=k.ay.length<=1048576/\k.aA.length<=1048576
def zEv (l:List az):Prop:=l.length<=1048576/\∀x∈l,SmK x
def zgs (m:Mon):Prop:=m.ae.length<=1048576/\SmM m.Out/\m.aw.length<=1048576/\zmx m.ac/\m.Outs.length<=1048576/\zEv m.am
def ztj (l:List Mon):Prop:=l.length<=1048576/\∀x∈l,zgs x
def SmH (h:ad):Prop:=SmM h.ag/\ztj h.aa/\h.ao.length<=1048576/\h.ak.length<=1048576
@[simp] def zzh (k:az):(∀c∈Ty.cells .kept k,CVB sm c)↔SmK k:=by simp[Ty.cells,SmK,sm_v]
@[simp] def z9H (l:List az):CVB sm (.s .kept l)↔zEv l:=by rw[znq];simp only[zzh];rfl
@[simp] def z2m (m:Mon):(∀c∈Ty.cells .mon m,CVB sm c)↔zgs m:=by simp only[Ty.cells,qG,qM,or_false,vO,forall_eq,zrQ,zw6,z9H,z3X,z0K,z0J,zbca,and_true,true_and];rfl
@[simp] def zbds (l:List Mon):CVB sm (.s .mon l)↔ztj l:=by rw[znq];simp only[z2m];rfl
@[simp] def zT (h:ad):zdx h↔SmH h:=by unfold zdx;simp only[zbt,qG,qM,or_false,vO,forall_eq,zrQ,zbds,zXn];rfl
def zbr {p:Prop}(h:p):pc p=true:=zbg h
def zAs {l:List az}{i:Int}{x:az}(h:zEv l)(b:SmK x):zEv (up l i x):=by refine⟨by simpa using h.1,λy a=>?_⟩;rcases qZ a with a|rfl;{exact h.2 y a};{exact b}
def zk9 {l:List Mon}{i:Int}{x:Mon}(h:ztj l)(b:zgs x):ztj (up l i x):=by refine⟨by simpa using h.1,λy a=>?_⟩;rcases qZ a with a|rfl;{exact h.2 y a};{exact b}
def zps {a:Type}{l:List a}(h:l.length<=1048576):few (ln<|ap [] l)=true:=by rw[zoc,zbdB];omega
@[simp] abbrev zbn (h:ad):Bool:=pc (zdx h)
@[simp] abbrev zn (h:ad):ad:=h
def zoS:Run:=rF1 dH λb=>(zbn b,[aH<|zn b])
def zIv (N:Nat)(b:ad):OA:=
 (oN (zhw b.ag)<|oN (few<|ln<|ap [] b.ao)<|oN (few<|ln<|ap [] b.ak)<|r0 (σ:=(Int×lM×lN×lE×lE×lM×lN×lE×lE×lM×lN×lE×lE×Unit)) N (λf a=>let b:=a.2.2.2.2.2.2.2;let e:=b.2.2.2.2.2.1;let d:=ix a.2.2.1 a.1 zi;let c:=ap b.2.2.2.1 [zpk d]; (cond (ilt a.1<|ln a.2.2.1) (oN (inb a.1<|ln a.2.2.1)<|oN (zlz d)<|oN (few<|ln c)<|f (zI .i64 a.1 1,a.2.1,a.2.2.1,a.2.2.2.1,a.2.2.2.2.1,a.2.2.2.2.2.1,a.2.2.2.2.2.2.1,b.1,b.2.1,b.2.2.1,c,b.2.2.2.2.1,e,()))<|some [aH (⟨b.2.2.1,b.2.2.2.1,b.2.2.2.2.1,e⟩:ad)])) (0,b.ag,b.aa,b.ao,b.ak,[],[],[],[],zfI b.ag,[],ap [] b.ao,ap [] b.ak,()))
def zWa:=zq [(107,0,{n:=36,tm:=[(1,.lp 0 0),(2,.lp 1 0),(3,.lp 2 0),(4,ti)],lo:=[(0,[.sl 0 [],.sl 1 [],.sl 2 [],.sl 3 []]),(1,[.sl 4 [],.sl 5 [],.sl 6 [],.sl 7 []]),(2,[.sl 8 [],.sl 9 [],.sl 10 [],.sl 11 []])],ro:=[(0,.sl .int,false),(1,.mon,false),(2,.entry,false),(3,.entry,false),(4,.sl .int,true),(5,.mon,true),(6,.entry,true),(7,.entry,true),(8,.sl .int,true),(9,.mon,true),(10,.entry,true),(11,.entry,true)]})]
def zVD (a:ad)(k:zbn a=true):∃N,zIv N a=some [aH<|zn a]:=by
 obtain⟨g,f,h,j⟩:=(zT a).1 (zM.1 k);have e:=zcc f.1;refine zb2 λN d=>?_;unfold zIv oN;conv=>zeta
 refine i0 (zbr<|(zrQ _).2 g) (i0 (zps h)<|i0 (zps j) ?_);refine(zbl a.aa (λi (t:lN)=>((i:Int),a.ag,a.aa,a.ao,a.ak,[],[],[],[],zfI a.ag,t,ap [] a.ao,ap [] a.ak,())) _ (λ_ x b m=>bif zlz x then (cond (few<|ln<|ap b [zpk x]) (m<|ap b [zpk x]) none) else none) (λ(t:lN)=>some [.agg<|zbt (⟨zfI a.ag,t,ap [] a.ao,ap [] a.ak⟩:ad)]) (λi c t rec=>?_) (λt rec=>?_) _ ([])<|d e.1).trans ?_;{simp only [zbo c,zX c,zbh c,zY c e.1,cT]};{simp only [zbj,cF]};exact ziR zlz zpk _ a.aa 0 [] (λx l=>⟨zbr<|(z2m x).2 (f.2 x l),rfl⟩) (by simpa using e.2)
def zNU:vU 107 zoS:=kF1 ziS zA zu zl zWa zVD
@[simp] abbrev ze8 (k:az):Bool:=pc (SmK k)
@[simp] abbrev zd0 (k:az):az:=k
def zz4:Run:=rF1 (dT .kept) λb=>(ze8 b,[aT .kept<|zd0 b])
def zDZ (N:Nat)(a:az):OA:=
 (oN (few<|ln<|ap [] a.ay)<|oN (zh3 a.aA)<|some [aT .kept (⟨ap [] a.ay,zgf a.aA⟩:az)])
def zRD (a:az)(b:ze8 a=true):∃N,zDZ N a=some [aT .kept<|zd0 a]:=by have c:=zM.1 b;obtain⟨f,g⟩:=c;have d:a.ay.length<=2147483648:=(by omega);have e:a.aA.length<=2147483648:=(by omega);refine⟨0,?_⟩;unfold zDZ oN;refine mu (mu ?_);first|rfl|(simp only [*,zd0,cT,cF]<;>rfl)|simp_all[Ty.cells,zd0]
def zKd:vU 369 zz4:=kF1 ziS zA zu zl (zq []) zRD
def zbbG:zZ:=[(107,zoS),(369,zz4)]++zWh
def zXb:zS zbbG:=zh zNU (zh zKd ziS)
@[simp] abbrev zl0 (m:Mon):Bool:=pc (zgs m)
@[simp] abbrev zmG (m:Mon):Mon:=m
def zC2:Run:=rF1 (dT .mon) λb=>(zl0 b,[aT .mon<|zmG b])
def zHY (N:Nat)(b:Mon):OA:=
 (oN (zh3 b.ae)<|oN (zhl b.Out)<|oN (few<|ln<|ap [] b.aw)<|oN (zkE b.ac)<|oN (zeq b.Outs)<|r0 (σ:=(Int×Int×Int×Int×Int×Int×Int×Int×lK×lK×lS×lM×lB×lG×LI×lS×lM×lB×lG×LI×lK×Unit)) N (λi a=>let b:=a.2.2.2.2.2.2.2.2.2.2;let j:=b.2.2.2.2.2;let h:=b.2.2.1;let g:=b.2.2.2.1;let f:=b.2.2.2.2.1;let e:=a.2.2.2.2.2.2.2.2.1;let d:=a.2.2.2.2.2.2.2.2.2.1;let c:=ix d a.2.1 ze0; (cond (ilt a.2.1 a.1) (oN (inb a.2.1<|ln d)<|oN (ze8 c)<|oN (few<|ln<|ap e [zd0 c])<|i (a.1,zI .i64 a.2.1 1,a.2.2.1,a.2.2.2.1,a.2.2.2.2.1,a.2.2.2.2.2.1,a.2.2.2.2.2.2.1,a.2.2.2.2.2.2.2.1,ap e [zd0 c],d,b.1,b.2.1,h,g,f,j.1,j.2.1,j.2.2.1,j.2.2.2.1,j.2.2.2.2.1,j.2.2.2.2.2.1,()))<|some [aT .mon (⟨b.1,b.2.1,h,g,f,a.2.2.1,a.2.2.2.1,e,a.2.2.2.2.1⟩:Mon)])) (ln b.am,0,b.an,b.aq,b.Own,0,0,0,[],b.am,zgf b.ae,zeh b.Out,ap [] b.aw,zkD b.ac,zel b.Outs,[],[],[],[],[],[],()))
def zVZ:=zq [(200,0,{n:=44,tm:=[(1,.lp 0 0),(2,.lp 1 0),(3,.sl 0 []),(29,.sl 1 []),(30,ti),(31,ti)],lo:=[(0,[.sl 2 [],.sl 3 [],.sl 4 [],.sl 5 [],.sl 6 [],ti,ti,.sl 1 [],ti]),(1,[.sl 7 [],.sl 8 [],.sl 9 [],.sl 10 [],.sl 11 [],ti,ti,.sl 12 [],ti])],ro:=[(0,.kept,true),(1,.kept,false),(2,.slot,true),(3,.sl .int,true),(4,.bool,true),(5,.guest,true),(6,.int,true),(7,.slot,true),(8,.sl .int,true),(9,.bool,true),(10,.guest,true),(11,.int,true),(12,.kept,true)]})]
def zU7 (a:Mon)(p:zl0 a=true):∃N,zHY N a=some [aT .mon<|zmG a]:=by
 obtain⟨s,l,m,n,u,f⟩:=zM.1 p;have e:=zcc f.1;refine zb2 λN d=>?_;unfold zHY oN;conv=>zeta
 have g:zh3 a.ae=true:=(by simp;omega);have h:zhl a.Out=true:=(by simp;exact l);have j:zkE a.ac=true:=(by simp;exact n);have k:zeq a.Outs=true:=(by simp;omega);refine i0 g (i0 h<|i0 (zps m)<|i0 j<|i0 k ?_);refine(zbl a.am (λi (t:lK)=>(ln a.am,(i:Int),a.an,a.aq,a.Own,0,0,0,t,a.am,zgf a.ae,zeh a.Out,ap [] a.aw,zkD a.ac,zel a.Outs,[],[],[],[],[],[],())) _ (λ_ x b r=>bif ze8 x then (cond (few<|ln<|ap b [zd0 x]) (r<|ap b [zd0 x]) none) else none) (λ(t:lK)=>some [.agg<|Ty.cells .mon (⟨zgf a.ae,zeh a.Out,ap [] a.aw,zkD a.ac,zel a.Outs,a.an,a.aq,t,a.Own⟩:Mon)]) (λi c t rec=>?_) (λt rec=>?_) _ ([])<|d e.1).trans ?_;{simp only [zbo c,zX c,zbh c,zY c e.1,cT]};{simp only [zbj,cF]};exact ziR ze8 zd0 _ a.am 0 [] (λx q=>⟨zbr<|f.2 x q,rfl⟩) (by simpa using e.2)
def zNj:vU 200 zC2:=kF1 zXb zA zu zl zVZ zU7
def zbbH:zZ:=[(200,zC2)]++zbbG
def zA0:zS zbbH:=zh zNj zXb
def zDX (N:Nat)(b:ad):OA:=
 (oN (zhl b.ag)<|oN (few<|ln<|ap [] b.ao)<|oN (few<|ln<|ap [] b.ak)<|r0 (σ:=(Int×Int×lN×lM×lN×lE×lE×lM×lN×lE×lE×Unit)) N (λe a=>let b:=a.2.2.2.2.2.2.2;let d:=ix a.2.2.1 a.2.1 zi;let c:=ap b.2.1 [zmG d]; (cond (ilt a.2.1 a.1) (oN (inb a.2.1<|ln a.2.2.1)<|oN (zl0 d)<|oN (few<|ln c)<|e (a.1,zI .i64 a.2.1 1,a.2.2.1,a.2.2.2.1,a.2.2.2.2.1,a.2.2.2.2.2.1,a.2.2.2.2.2.2.1,b.1,c,b.2.2.1,b.2.2.2.1,()))<|some [aH (⟨b.1,b.2.1,b.2.2.1,b.2.2.2.1⟩:ad)])) (ln b.aa,0,b.aa,[],[],[],[],zeh b.ag,[],ap [] b.ao,ap [] b.ak,()))
def zSw:=zq [(102,0,{n:=34,tm:=[(2,.lp 0 0),(3,.lp 1 0),(19,.sl 0 []),(20,ti),(21,ti)],lo:=[(0,[.sl 1 [],.sl 2 [],.sl 3 [],.sl 4 []]),(1,[.sl 5 [],.sl 6 [],.sl 7 [],.sl 8 []])],ro:=[(0,.mon,false),(1,.sl .int,true),(2,.mon,true),(3,.entry,true),(4,.entry,true),(5,.sl .int,true),(6,.mon,true),(7,.entry,true),(8,.entry,true)]})]
def zRB (a:ad)(l:zbn a=true):∃N,zDX N a=some [aH<|zn a]:=by
 obtain⟨h,f,j,k⟩:=(zT a).1 (zM.1 l);have e:=zcc f.1;refine zb2 λN d=>?_;unfold zDX oN;conv=>zeta
 have g:zhl a.ag=true:=(by simp;exact h);refine i0 g (i0 (zps j)<|i0 (zps k) ?_);refine(zbl a.aa (λi (t:lN)=>(ln a.aa,(i:Int),a.aa,[],[],[],[],zeh a.ag,t,ap [] a.ao,ap [] a.ak,())) _ (λ_ x b n=>bif zl0 x then (cond (few<|ln<|ap b [zmG x]) (n<|ap b [zmG x]) none) else none) (λ(t:lN)=>some [.agg<|zbt (⟨zeh a.ag,t,ap [] a.ao,ap [] a.ak⟩:ad)]) (λi c t rec=>?_) (λt rec=>?_) _ ([])<|d e.1).trans ?_;{simp only [zbo c,zX c,zbh c,zY c e.1,cT]};{simp only [zbj,cF]};exact ziR zl0 zmG _ a.aa 0 [] (λx m=>⟨zbr<|f.2 x m,rfl⟩) (by simpa using e.2)
def zKb:vU 102 zoS:=kF1 zA0 zA zu zl zSw zRB
def allI {a:Type}(p:Nat->a->Bool):List a->Nat->Bool
 |[],_=>true
 |x::l,i=>p i x&&allI p l (i+1)
def zJW {a b:Type}(p:Nat->a->Bool)(r:Option b)(K:Unit->Option b):∀(l:List a) (i:Nat),goL (λi x (_:Unit) k=>bif p i x then k () else r) K l i ()=bif allI p l i then K () else r
 |[],_=>rfl
 |x::l,i=>by simp only[goL,allI];cases p i x;{rfl};{simp only [cT,uP];exact zJW p r K l (i+1)}
def zTi {a:Type}(q:a->Bool)(l:List a)(d:a):∀(n i:Nat),i+n<=l.length->zpQ (λj=>q (ix l (j:Int) d)) n i=((l.drop i).take n).all q
 | 0,i,_=>by simp[zpQ]
 |n+1,i,h=>by have b:i<l.length:=(by omega);rw[kD b,List.take_succ_cons,k9,<- zTi q l d n (i+1) (by omega)];simp only[zpQ,zbh b]
def sameKey (a b:ar):Bool:=bif ieq a.Tag b.Tag then ieq a.af b.af else false
def alone (l:List ar)(i:Nat)(x:ar):Bool:=(l.take i).all λy=>!sameKey x y
def zgt (l:List ar):Bool:=bif allI (alone l) l 0 then ile (ln l) 6 else false
def z9U {a:Type}{l:List a}{i:Nat}(h:i<=l.length):inr 0 (i:Int) (ln l)=true:=qH (by simp only[ln];omega)
@[simp] abbrev ziY (l:List ar):Bool:=true
@[simp] abbrev zij (l:List ar):Bool:=zgt l
def znB:Run:=rF1 (dS .entry) λb=>(ziY b,[aB<|zij b])
def zDR (N:Nat)(g:lE):OA:=
 (r0 (σ:=(Int×Int×lE×Unit)) N (λi b=>let c:=b.2.2.1;let e:=ix c b.2.1 zfz; (cond (ilt b.2.1 b.1) (oN (inb b.2.1<|ln c)<|oN (inr 0 b.2.1<|ln c)<|r0 (σ:=(Int×Int×Int×Int×Int×Int×Int×Int×lE×lE×Unit)) N (λj a=>let b:=a.2.2.2.2;let d:=a.2.2.2.1;let f:=b.2.2.2.2.2.1;let h:=j (a.1,a.2.1,a.2.2.1,zI .i64 d 1,b.1,b.2.1,b.2.2.1,b.2.2.2.1,b.2.2.2.2.1,f,()); (cond (ilt d a.2.2.1) (oN (inb d<|ln f)<|cond (ieq b.1 (ix f d zfz).Tag) (cond (ieq b.2.1 (ix f d zfz).af) oF h) h)<|i (a.1,zI .i64 a.2.1 1,b.2.2.2.2.1,()))) (b.1,b.2.1,ln<|tk c b.2.1,0,e.Tag,e.af,e.ad,e.aj,c,tk c b.2.1,()))<|some [aB<|ile (ln c) 6])) (ln g,0,g,()))
def zSv:=zq [(219,0,{n:=39,tm:=[(0,.sl 0 []),(7,.sl 0 []),(8,ti),(9,ti)],lo:=[],ro:=[(0,.entry,false)]}),(219,2,{n:=39,tm:=[(0,.sl 0 []),(4,.lp 0 0),(7,.sl 0 []),(8,ti),(9,ti),(16,.sl 1 []),(17,ti),(18,ti)],lo:=[(0,[ti,ti,ti,ti])],ro:=[(0,.entry,false),(1,.entry,false)]})]
def zRv (a:List ar)(l:zbE big [aS .entry a])(m:ziY a=true):∃N,zDR N a=some [aB<|zij a]:=by
 have e:=len0 l;refine zb2 λN d=>?_;unfold zDR oN;conv=>zeta
 refine(zbl a (λi (t:Unit)=>(ln a,(i:Int),a,())) _ (λi (x:ar) (_:Unit) h=>bif alone a i x then h () else oF) (λ(t:Unit)=>some [.one<|.b<|ile (ln a) 6]) (λi c t rec=>?_) (λt rec=>?_) _ ()<|d e).trans ?_;{simp only [zbo c,zX c,zbh c,zY c e,cT];rw[z9U<|Nat.le_of_lt c,cT];have k:(tk a (i:Int)).length<=big:=qT (by simp[tk];omega) e;refine(zbl (tk a (i:Int)) (λj (u:Unit)=>(ln a,(i:Int),ln<|tk a (i:Int),(j:Int),a[i].Tag,a[i].af,a[i].ad,a[i].aj,a,tk a (i:Int),())) _ (λ_ (y:ar) (_:Unit) h=>bif !sameKey a[i] y then h () else oF) (λ(u:Unit)=>rec (ln a,((i+1:Nat):Int),a,())) (λj g u f=>?_) (λu f=>?_) _ ()<|d k).trans ?_;{simp only [zbo g,zX g,zbh g,zY g k,cT,zY c e];unfold sameKey;cases ieq a[i].Tag (tk a (i:Int))[j].Tag<;>cases ieq a[i].af (tk a (i:Int))[j].af<;>rfl};{simp only [zbj,cF,zY c e]};rw[zhR λy=>!sameKey a[i] y];rfl};{simp only [zbj,cF]};rw[zJW<|alone a];unfold zij zgt;cases allI (alone a) a 0<;>rfl
def zJ2:vU 219 znB:=hF1 zA0 zA zu zl zSv zRv
def zEb (N:Nat)(f:lE):OA:=
 (r0 (σ:=(Int×lE×Unit)) N (λg c=>cond (ilt c.1<|ln c.2.1) (r0 (σ:=(Int×Int×lE×Unit)) N (λh a=>let b:=a.2.2.1;let e:=ix b a.2.1 zfz;let d:=h (a.1,zI .i64 a.2.1 1,b,()); (cond (ilt a.2.1 a.1) (oN (inb a.1<|ln b)<|oN (inb a.2.1<|ln b)<|cond (ieq (ix b a.1 zfz).Tag e.Tag) (oN (inb a.1<|ln b)<|oN (inb a.2.1<|ln b)<|cond (ieq (ix b a.1 zfz).af e.af) oF d) d)<|g (zI .i64 a.1 1,b,()))) (c.1,0,c.2.1,()))<|some [aB<|ile (ln c.2.1) 6]) (0,f,()))
def zSC:=zq [(122,0,{n:=43,tm:=[(0,.sl 0 []),(3,ti)],lo:=[],ro:=[(0,.entry,false)]}),(122,2,{n:=43,tm:=[(0,.sl 0 []),(3,ti),(4,ti)],lo:=[],ro:=[(0,.entry,false)]})]
def zRO (a:List ar)(k:zbE big [aS .entry a])(l:ziY a=true):∃N,zEb N a=some [aB<|zij a]:=by
 have g:=len0 k;refine zb2 λN d=>?_;unfold zEb oN;conv=>zeta
 refine(zbl a (λi (t:Unit)=>((i:Int),a,())) _ (λi (x:ar) (_:Unit) h=>bif alone a i x then h () else oF) (λ(t:Unit)=>some [.one<|.b<|ile (ln a) 6]) (λi c t rec=>?_) (λt rec=>?_) _ ()<|d g).trans ?_;{simp only [zbo c,zX c,zbh c,zY c g,cT];refine(zv1 i (λ(j:Nat) (_:Unit)=>((i:Int),(j:Int),a,())) _ (λj (_:Unit) h=>bif !sameKey a[i] (ix a (j:Int) zfz) then h () else oF) (λ_=>rec (((i+1:Nat):Int),a,())) (λj m u f=>?_) (λu f=>?_) _ ()<|d (by omega)).trans ?_;{have e:j<a.length:=(by omega);simp only[show ilt (j:Int) (i:Int)=true from qH (by omega),zX c,zX e,zbh c,zY e g,cT];unfold sameKey;cases ieq a[i].Tag (ix a (j:Int) zfz).Tag<;>cases ieq a[i].af (ix a (j:Int) zfz).af<;>rfl};{simp only [show ilt (i:Int) (i:Int)=false from qI (by omega),zY c g,cF]};rw[zGw λj=>!sameKey a[i] (ix a (j:Int) zfz),zTi (λy=>!sameKey a[i] y) a _ i 0 (by omega)];rfl};{simp only [zbj,cF]};rw[zJW<|alone a];unfold zij zgt;cases allI (alone a) a 0<;>rfl
def zKo:vU 122 znB:=hF1 zA0 zA zu zl zSC zRO
def zbbI:zZ:=[(102,zoS),(122,znB),(219,znB)]++zbbH
def zJK:zS zbbI:=zh zKb (zh zKo<|zh zJ2 zA0)
def zRq (a b:Int):igt a b = !ile a b:=by unfold igt ile;by_cases h:a<=b;{rw [qH h,qI (by omega)];rfl};{rw [qI h,qH (by omega)];rfl}
def stB {c M:Bool}{E:OA}(h:c=true->E=some [AV.one<|.b M]):(cond (cond c false true) (some [AV.one<|.b false]) E)=some [AV.one<|.b<|cond c M false]:=by cases c;{rfl};{exact h rfl}
def stI {a b:Int}{M:Bool}{E:OA}(h:ieq a b=true->E=some [AV.one<|.b M]):(cond (ine a b) (some [AV.one<|.b false]) E)=some [AV.one<|.b<|cond (ieq a b) M false]:=by rw[zl1];cases c:ieq a b;{rfl};{exact h c}
def stG {a b:Int}{M:Bool}{E:OA}(h:ile a b=true->E=some [AV.one<|.b M]):(cond (igt a b) (some [AV.one<|.b false]) E)=some [AV.one<|.b<|cond (ile a b) M false]:=by rw[zRq];cases c:ile a b;{rfl};{exact h c}
def zny (s:k0)(p:LI):Bool:=bif zdr s C0 then zcN p else (cond (enough s.aj 1) (ile (ln p) 0) false)
def fits (m:Mon)(j:Nat):Bool:=zny (ix m.ae (j:Int) zba) (ix m.Out (j:Int) [])
def zfw (m:Mon):Bool:=bif zk (ln m.ac) 1 2 then (cond (ieq (ln m.am)<|ln m.ac) (cond (zdv m.ae 8 12) (cond (ieq (ln m.Out) 8) (cond (ieq (ln m.aw) 8) (cond (ile (ln m.Outs) 40) (cond (zd2 m.an) (cond (zk m.aq 0 3) (cond (zk m.Own 0 1000000000) (cond (m.ac.all zec) (zpQ (fits m) 8 0) false) false) false) false) false) false) false) false) false) else false
def ztO {t:List k0}{n p:Int}(h:zdv t n p=true):ln t=n:=by unfold zdv at h;cases a:t.all (λs=>zey s p);{rw [a]at h;cases h};{rw [a]at h;exact qD h}
@[simp] abbrev zjD (m:Mon):Bool:=true
@[simp] abbrev zkC (m:Mon):Bool:=zfw m
def zsK:Run:=rF1 (dT .mon) λb=>(zjD b,[aB<|zkC b])
def zSW (N:Nat)(a:Mon):OA:=
 let h:=ln a.ac; (oN (zO h 1 2)<|cond (nB<|zk h 1 2) oF<|cond (ine (ln a.am) h) oF<|oN (zj9 a.ae 8 12)<|cond (nB<|zfe a.ae 8 12) oF<|cond (ine (ln a.Out) 8) oF<|cond (ine (ln a.aw) 8) oF<|cond (igt (ln a.Outs) 40) oF<|oN (zcl a.an)<|cond (nB<|zeR a.an) oF<|oN (zO a.aq 0 3)<|cond (nB<|zk a.aq 0 3) oF<|oN (zO a.Own 0 1000000000)<|cond (nB<|zk a.Own 0 1000000000) oF<|r0 (σ:=(Int×Int×Int×Int×Int×lG×lS×lM×lB×LI×lK×Unit)) N (λl b=>let a:=b.2.2.2.2.2.2.2;let i:=b.2.2.2.2.2.2.1;let g:=b.2.2.2.2.2.1;let k:=ix g b.2.1 zy; (cond (ilt b.2.1 b.1) (oN (inb b.2.1<|ln g)<|oN (zbu k)<|cond (nB<|zix k) oF<|l (b.1,zI .i64 b.2.1 1,b.2.2.1,b.2.2.2.1,b.2.2.2.2.1,g,i,a.1,a.2.1,a.2.2.1,a.2.2.2.1,()))<|r0 (σ:=(Int×Int×Int×Int×Int×lS×lM×lB×lG×LI×lK×Unit)) N (λm c=>let a:=c.2.2.2.2.2;let d:=c.2.1;let e:=a.2.1;let f:=ix a.1 d zba;let j:=m (c.1,zI .i64 d 1,c.2.2.1,c.2.2.2.1,c.2.2.2.2.1,a.1,e,a.2.2.1,a.2.2.2.1,a.2.2.2.2.1,a.2.2.2.2.2.1,()); (cond (ilt d c.1) (oN (inb d<|ln a.1)<|oN zbR<|cond (cond (ieq f.af zbm.af) (ieq f.aj zbm.aj) false) (oN (inb d<|ln e)<|oN (zd3<|ix e d [])<|cond (nB<|zdl<|ix e d []) oF j)<|oN (zbH f.aj 1)<|cond (nB<|zda f.aj 1) oF<|oN (inb d<|ln e)<|cond (igt (ln<|ix e d []) 0) oF j) oT)) (ln i,0,b.2.2.1,b.2.2.2.1,b.2.2.2.2.1,i,a.1,a.2.1,g,a.2.2.1,a.2.2.2.1,()))) (h,0,a.an,a.aq,a.Own,a.ac,a.ae,a.Out,a.aw,a.Outs,a.am,()))
def z1Y:=zq [(80,0,{n:=106,tm:=[(1,.lp 0 0),(64,.sl 0 []),(65,ti),(66,ti)],lo:=[(0,[.sl 1 [],.sl 2 [],.sl 3 [],.sl 0 [],.sl 4 [],ti,ti,.sl 5 [],ti])],ro:=[(0,.guest,false),(1,.slot,false),(2,.sl .int,false),(3,.bool,false),(4,.int,false),(5,.kept,false)]}),(80,2,{n:=106,tm:=[(1,.lp 0 0),(75,.sl 0 []),(76,ti),(77,ti)],lo:=[(0,[.sl 0 [],.sl 1 [],.sl 2 [],.sl 3 [],.sl 4 [],ti,ti,.sl 5 [],ti])],ro:=[(0,.slot,false),(1,.sl .int,false),(2,.bool,false),(3,.guest,false),(4,.int,false),(5,.kept,false)]})]
def z05 (a:Mon)(l:zbE big [aT .mon a])(E:zjD a=true):∃N,zSW N a=some [aB<|zkC a]:=by
 have hg:a.ac.length<=big:=((zdy l).1 (.s .guest a.ac) (by simp[AV.cvs,Ty.cells])).len;have m:a.ae.length<=big:=((zdy l).1 (.s .slot a.ae) (by simp[AV.cvs,Ty.cells])).len;refine zb2 λN d=>?_;unfold zSW zkC zfw oN nB;conv=>zeta
 refine i0 rfl (stB λw=>stI λy=>i0 rfl (stB λr=>stI λv=>stI λz=>stG λA=>i0 rfl (stB λB=>i0 rfl (stB λC=>i0 rfl (stB λD=>?_)))));have p:=ztO r;have q:ln a.Out=8:=qD v;simp only[ln] at p q;refine(zbl a.ac (λi (t:Unit)=>(ln a.ac,(i:Int),a.an,a.aq,a.Own,a.ac,a.ae,a.Out,a.aw,a.Outs,a.am,())) _ (λ_ (x:ah) (_:Unit) g=>bif zec x then g () else oF) (λ(t:Unit)=>r0 (σ:=(Int×Int×Int×Int×Int×lS×lM×lB×lG×LI×lK×Unit)) N (λn c=>cond (ilt c.2.1 c.1) (cond (inb c.2.1<|ln c.2.2.2.2.2.1) (cond zbR (cond (cond (ieq (ix c.2.2.2.2.2.1 c.2.1 zba).af zbm.af) (ieq (ix c.2.2.2.2.2.1 c.2.1 zba).aj zbm.aj) false) (cond (inb c.2.1<|ln c.2.2.2.2.2.2.1) (cond (zd3<|ix c.2.2.2.2.2.2.1 c.2.1 []) (cond (cond (zdl<|ix c.2.2.2.2.2.2.1 c.2.1 []) false true) oF<|n (c.1,zI .i64 c.2.1 1,c.2.2.1,c.2.2.2.1,c.2.2.2.2.1,c.2.2.2.2.2.1,c.2.2.2.2.2.2.1,c.2.2.2.2.2.2.2.1,c.2.2.2.2.2.2.2.2.1,c.2.2.2.2.2.2.2.2.2.1,c.2.2.2.2.2.2.2.2.2.2.1,())) none) none)<|cond (zbH (ix c.2.2.2.2.2.1 c.2.1 zba).aj 1) (cond (cond (zda (ix c.2.2.2.2.2.1 c.2.1 zba).aj 1) false true) oF<|cond (inb c.2.1<|ln c.2.2.2.2.2.2.1) (cond (igt (ln<|ix c.2.2.2.2.2.2.1 c.2.1 []) 0) oF<|n (c.1,zI .i64 c.2.1 1,c.2.2.1,c.2.2.2.1,c.2.2.2.2.1,c.2.2.2.2.2.1,c.2.2.2.2.2.2.1,c.2.2.2.2.2.2.2.1,c.2.2.2.2.2.2.2.2.1,c.2.2.2.2.2.2.2.2.2.1,c.2.2.2.2.2.2.2.2.2.2.1,())) none) none) none) none)<|some [.one<|.b true]) (ln a.ae,0,a.an,a.aq,a.Own,a.ae,a.Out,a.aw,a.ac,a.Outs,a.am,())) (λi h t rec=>?_) (λt rec=>?_) _ ()<|d hg).trans ?_;{simp only [zbo h,zX h,zbh h,zY h hg,cT];simp only[zbu,zix,cT];cases zec a.ac[i]<;>rfl};{simp only [zbj,cF]};rw[zhR zec];cases a.ac.all zec;{rfl};simp only[cT];refine(zbl a.ae (λj (u:Unit)=>(ln a.ae,(j:Int),a.an,a.aq,a.Own,a.ae,a.Out,a.aw,a.ac,a.Outs,a.am,())) _ (λj (_:k0) (_:Unit) g=>bif fits a j then g () else oF) (λ(u:Unit)=>some [.one<|.b true]) (λj e u f=>?_) (λu f=>?_) _ ()<|d m).trans ?_;{simp only [zbo e,zX e,zbh e,zY e m,cT];have k:j<a.Out.length:=(by omega);simp only[zbR,zbm,zd3,zdl,zbH,zda,zX k,zRq,cT];unfold fits zny;simp only[zbh e,zdr];cases ieq a.ae[j].af C0.af<;>cases ieq a.ae[j].aj C0.aj<;>cases enough a.ae[j].aj 1<;>cases ile (ln<|ix a.Out (j:Int) []) 0<;>cases zcN (ix a.Out (j:Int) [])<;>rfl};{simp only [zbj,cF]};rw[zzn λj (_:Unit) g=>bif fits a j then g () else oF,zGw<|fits a,show a.ae.length=8 by omega];cases zpQ (fits a) 8 0<;>rfl
def zUz:vU 80 zsK:=hF1 zJK zA zu zl z1Y z05
def zS8 (N:Nat)(c:Mon):OA:=
 (oN (zO (ln c.ac) 1 2)<|cond (nB<|zk (ln c.ac) 1 2) oF<|cond (ine (ln c.am)<|ln c.ac) oF<|oN (zj9 c.ae 8 12)<|cond (nB<|zfe c.ae 8 12) oF<|cond (ine (ln c.Out) 8) oF<|cond (ine (ln c.aw) 8) oF<|r0 (σ:=(Int×Int×Int×Int×lS×lM×lB×lG×LI×lK×Unit)) N (λl b=>let c:=b.2.2.2.2;let n:=c.2.2.2.2;let d:=c.2.2.2.1; (cond (ilt b.1<|ln d) (oN (inb b.1<|ln d)<|oN (zbu<|ix d b.1 zy)<|cond (nB<|zix<|ix d b.1 zy) oF<|l (zI .i64 b.1 1,b.2.1,b.2.2.1,b.2.2.2.1,c.1,c.2.1,c.2.2.1,d,n.1,n.2.1,()))<|r0 (σ:=(Int×Int×Int×Int×lS×lM×lB×lG×LI×lK×Unit)) N (λm a=>let b:=a.2.2.2.2.2;let h:=a.2.2.2.2.1;let i:=inb a.1<|ln b.1;let e:=ix b.1 a.1 [];let g:=ix h a.1 zba;let k:=ieq g.aj zbm.aj;let j:=ieq g.af zbm.af;let f:=m (zI .i64 a.1 1,a.2.1,a.2.2.1,a.2.2.2.1,h,b.1,b.2.1,b.2.2.1,b.2.2.2.1,b.2.2.2.2.1,()); (cond (ilt a.1 8) (oN (inb a.1<|ln h)<|oN zbR<|cond (nB<|cond j k false) (oN i<|cond (igt (ln e) 0) oF<|oN (inb a.1<|ln h)<|oN (zbH g.aj 1)<|cond (nB<|zda g.aj 1) oF<|cond (nB<|nB<|cond j k false) (oN i<|oN (zd3 e)<|cond (nB<|zdl e) oF f) f)<|cond (nB<|nB<|cond j k false) (oN i<|oN (zd3 e)<|cond (nB<|zdl e) oF f) f)<|cond (ile (ln b.2.2.2.1) 40) (oN (zcl a.2.1)<|cond (zeR a.2.1) (oN (zO a.2.2.1 0 3)<|cond (zk a.2.2.1 0 3) (oN (zO a.2.2.2.1 0 1000000000)<|some [aB<|zk a.2.2.2.1 0 1000000000]) oF) oF) oF)) (0,b.2.1,b.2.2.1,b.2.2.2.1,c.1,c.2.1,c.2.2.1,d,n.1,n.2.1,()))) (0,c.an,c.aq,c.Own,c.ae,c.Out,c.aw,c.ac,c.Outs,c.am,()))
def z15:=zq [(81,0,{n:=115,tm:=[(1,.lp 0 0),(3,ti)],lo:=[(0,[.sl 0 [],.sl 1 [],.sl 2 [],.sl 3 [],.sl 4 [],ti,ti,.sl 5 [],ti])],ro:=[(0,.slot,false),(1,.sl .int,false),(2,.bool,false),(3,.guest,false),(4,.int,false),(5,.kept,false)]}),(81,2,{n:=115,tm:=[(1,.lp 0 0),(4,ti)],lo:=[(0,[.sl 0 [],.sl 1 [],.sl 2 [],.sl 3 [],.sl 4 [],ti,ti,.sl 5 [],ti])],ro:=[(0,.slot,false),(1,.sl .int,false),(2,.bool,false),(3,.guest,false),(4,.int,false),(5,.kept,false)]})]
def z1g (c:Mon)(r:zbE big [aT .mon c])(A:zjD c=true):∃N,zS8 N c=some [aB<|zkC c]:=by
 have hg:c.ac.length<=big:=((zdy r).1 (.s .guest c.ac) (by simp[AV.cvs,Ty.cells])).len;refine zb2 λN d=>?_;unfold zS8 zkC zfw oN nB;conv=>zeta
 refine i0 rfl (stB λw=>stI λy=>i0 rfl (stB λp=>stI λq=>stI λz=>?_));have m:=ztO p;have n:ln c.Out=8:=qD q;simp only[ln] at m n;refine(zbl c.ac (λi (t:Unit)=>((i:Int),c.an,c.aq,c.Own,c.ae,c.Out,c.aw,c.ac,c.Outs,c.am,())) _ (λ_ (x:ah) (_:Unit) l=>bif zec x then l () else oF) (λ(t:Unit)=>r0 (σ:=(Int×Int×Int×Int×lS×lM×lB×lG×LI×lK×Unit)) N (λh a=>cond (ilt a.1 8) (cond (inb a.1<|ln a.2.2.2.2.1) (cond zbR (cond (cond (cond (ieq (ix a.2.2.2.2.1 a.1 zba).af zbm.af) (ieq (ix a.2.2.2.2.1 a.1 zba).aj zbm.aj) false) false true) (cond (inb a.1<|ln a.2.2.2.2.2.1) (cond (igt (ln<|ix a.2.2.2.2.2.1 a.1 []) 0) oF<|cond (inb a.1<|ln a.2.2.2.2.1) (cond (zbH (ix a.2.2.2.2.1 a.1 zba).aj 1) (cond (cond (zda (ix a.2.2.2.2.1 a.1 zba).aj 1) false true) oF<|cond (cond (cond (cond (ieq (ix a.2.2.2.2.1 a.1 zba).af zbm.af) (ieq (ix a.2.2.2.2.1 a.1 zba).aj zbm.aj) false) false true) false true) (cond (inb a.1<|ln a.2.2.2.2.2.1) (cond (zd3<|ix a.2.2.2.2.2.1 a.1 []) (cond (cond (zdl<|ix a.2.2.2.2.2.1 a.1 []) false true) oF<|h (zI .i64 a.1 1,a.2.1,a.2.2.1,a.2.2.2.1,a.2.2.2.2.1,a.2.2.2.2.2.1,a.2.2.2.2.2.2.1,a.2.2.2.2.2.2.2.1,a.2.2.2.2.2.2.2.2.1,a.2.2.2.2.2.2.2.2.2.1,())) none) none)<|h (zI .i64 a.1 1,a.2.1,a.2.2.1,a.2.2.2.1,a.2.2.2.2.1,a.2.2.2.2.2.1,a.2.2.2.2.2.2.1,a.2.2.2.2.2.2.2.1,a.2.2.2.2.2.2.2.2.1,a.2.2.2.2.2.2.2.2.2.1,())) none) none) none)<|cond (cond (cond (cond (ieq (ix a.2.2.2.2.1 a.1 zba).af zbm.af) (ieq (ix a.2.2.2.2.1 a.1 zba).aj zbm.aj) false) false true) false true) (cond (inb a.1<|ln a.2.2.2.2.2.1) (cond (zd3<|ix a.2.2.2.2.2.1 a.1 []) (cond (cond (zdl<|ix a.2.2.2.2.2.1 a.1 []) false true) oF<|h (zI .i64 a.1 1,a.2.1,a.2.2.1,a.2.2.2.1,a.2.2.2.2.1,a.2.2.2.2.2.1,a.2.2.2.2.2.2.1,a.2.2.2.2.2.2.2.1,a.2.2.2.2.2.2.2.2.1,a.2.2.2.2.2.2.2.2.2.1,())) none) none)<|h (zI .i64 a.1 1,a.2.1,a.2.2.1,a.2.2.2.1,a.2.2.2.2.1,a.2.2.2.2.2.1,a.2.2.2.2.2.2.1,a.2.2.2.2.2.2.2.1,a.2.2.2.2.2.2.2.2.1,a.2.2.2.2.2.2.2.2.2.1,())) none) none)<|cond (ile (ln a.2.2.2.2.2.2.2.2.1) 40) (cond (zcl a.2.1) (cond (zeR a.2.1) (cond (zO a.2.2.1 0 3) (cond (zk a.2.2.1 0 3) (cond (zO a.2.2.2.1 0 1000000000) (some [.one<|.b<|zk a.2.2.2.1 0 1000000000]) none) oF) none) oF) none) oF) (0,c.an,c.aq,c.Own,c.ae,c.Out,c.aw,c.ac,c.Outs,c.am,())) (λi g t rec=>?_) (λt rec=>?_) _ ()<|d hg).trans ?_;{simp only [zbo g,zX g,zbh g,zY g hg,cT];simp only[zbu,zix,cT];cases zec c.ac[i]<;>rfl};{simp only [zbj,cF]};rw[zhR zec];cases B:c.ac.all zec;{simp only [cF];cases ile (ln c.Outs) 40<;>cases zd2 c.an<;>cases zk c.aq 0 3<;>cases zk c.Own 0 1000000000<;>rfl};simp only[cT];refine(zv1 8 (λj (u:Unit)=>((j:Int),c.an,c.aq,c.Own,c.ae,c.Out,c.aw,c.ac,c.Outs,c.am,())) _ (λj (_:Unit) l=>bif fits c j then l () else oF) (λ(u:Unit)=>cond (ile (ln c.Outs) 40) (cond (zcl c.an) (cond (zeR c.an) (cond (zO c.aq 0 3) (cond (zk c.aq 0 3) (cond (zO c.Own 0 1000000000) (some [.one<|.b<|zk c.Own 0 1000000000]) none) oF) none) oF) none) oF) (λj v u f=>?_) (λu f=>?_) _ ()<|d (by decide)).trans ?_;{simp only [show ilt (j:Int) 8=true from qH (by omega),zY v (show 8<=big by decide),cT];have e:j<c.ae.length:=(by omega);have k:j<c.Out.length:=(by omega);simp only[zbR,zbm,zd3,zdl,zbH,zda,zX e,zX k,zRq,cT];unfold fits zny;simp only[zbh e,zdr];cases ieq c.ae[j].af C0.af<;>cases ieq c.ae[j].aj C0.aj<;>cases enough c.ae[j].aj 1<;>cases ile (ln<|ix c.Out (j:Int) []) 0<;>cases zcN (ix c.Out (j:Int) [])<;>rfl};{simp only [show ilt ((8:Nat):Int) 8=false from qI (by omega),cF];rfl};rw[zGw<|fits c];simp only[zcl,zeR,zO,zWw,cT];cases zpQ (fits c) 8 0<;>cases ile (ln c.Outs) 40<;>cases zd2 c.an<;>cases zk c.aq 0 3<;>cases zk c.Own 0 1000000000<;>rfl
def zUL:vU 81 zsK:=hF1 zJK zA zu zl z15 z1g
def zbbJ:zZ:=[(81,zsK),(80,zsK)]++zbbI
def zJL:zS zbbJ:=zh zUL (zh zUz zJK)
def zie:List k0->List Bool->Option (List Bool)
 |[],u=>some u
 |s::l,u=>bif ilt s.af 0 then zie l u else (cond (ix u s.af false) none<|zie l<|up u s.af true)
def zkB:List Mon->List Bool->Bool
 |[],_=>true
 |m::l,u=>bif zfw m then (match zie m.ae u with|some a=>zkB l a|none=>false) else false
def zcr (h:ad):Bool:=bif zjG h.ag 12 then (cond (zk (ln h.aa) 1 3) (cond (zgt h.ao) (cond (zgt h.ak) (zkB h.aa<|rp 12 false) false) false) false) else false
def zrC:∀(l:List k0) (u a:List Bool),zie l u=some a->a.length=u.length
 |[],u,a,h=>by cases h;rfl
 |s::l,u,a,h=>by simp only[zie]at h;cases b:ilt s.af 0;{rw [b]at h;cases c:ix u s.af false;{rw [c]at h;simpa using zrC l _ a h};{rw [c]at h;cases h}};{rw [b]at h;exact zrC l u a h}
def zGG {t:List k0}{n:Int}(h:zdv t n 12=true):∀s∈t,s.af<12:=by intro s d;unfold zdv at h;cases b:t.all (λs=>zey s 12);{rw [b]at h;cases h};{have:=qN.1 b s d;unfold zey at this;cases a:zdr s C0;{rw [a] at this;simp only[cF,show igt 12 0=true from rfl,cT] at this;cases c:zk s.af 0 (wsub .i64 12 1);{rw [c] at this;cases this};{have:=(zf1.1 c).2;rw[show wsub .i64 12 1=11 from rfl] at this;omega}};{unfold zdr at a;rw[qE]at a;have a:s.af = -1:=qD a.1;omega}}
def z0v {s:k0}{u:List Bool}(h:s.af<12)(b:u.length=12)(a:ilt s.af 0=false):inb s.af (ln u)=true:=by have:=jQ a;exact qH (by simp only[ln];omega)
def zvG {a:Type}(r:Option a)(y:k0)(u:List Bool)(b:List Bool->Option a):Option a:=bif ilt y.af 0 then b u else (cond (inb y.af<|ln u) (cond (ix u y.af false) r<|cond (inb y.af<|ln u) (p0 (up u y.af true) λc=>b c) none) none)
def zBh {c:Type}(r:Option c)(K:List Bool->Option c):∀(l:List k0) (i:Nat) (u:List Bool),(∀s∈l,s.af<12)->u.length=12->
 goL (λ_ y u g=>zvG r y u g) K l i u=match zie l u with|some f=>K f|none=>r
 |[],_,_,_,_=>rfl
 |s::l,i,u,h,b=>by simp only[goL,zie,zvG];cases d:ilt s.af 0;{have e:=z0v (h s (by simp)) b d;rw[e];cases ix u s.af false;{simp only [cF,cT,p0];exact zBh r K l (i+1) _ (λs a=>h s (by simp[a])) (by simpa using b)};{rfl}};{simp only [cT];exact zBh r K l (i+1) u (λs a=>h s (by simp[a])) b}
def z3D {b:Type}(r:Option b)(m:Mon)(u:List Bool)(a:List Bool->Option b):Option b:=bif zfw m then goL (λ_ y u a=>zvG r y u a) a m.ae 0 u else r
def zdH {c x:Bool}:((cond c x false)=true)↔c=true/\x=true:=by cases c<;>simp
def zon {m:Mon}(h:zfw m=true):zdv m.ae 8 12=true:=by unfold zfw at h;simp only[zdH]at h;exact h.2.2.1
def zXC {K:Bool->OA}(k:List Bool->OA)(a:∀u,k u=K true):∀(l:List Mon) (i:Nat) (u:List Bool),u.length=12->
 goL (λ_ m u g=>z3D (K false) m u g) k l i u=K (zkB l u)
 |[],_,u,_=>a u
 |m::l,i,u,b=>by simp only[goL,zkB,z3D];cases c:zfw m;{rfl};{simp only [cT];have e:=zon c;rw[zBh _ _ _ _ _ (zGG e) b];cases d:zie m.ae u with|none=>rfl|some f=>exact zXC k a l (i+1) f ((zrC _ _ _ d).trans b)}
@[simp] abbrev zeC (h:ad):Bool:=true
@[simp] abbrev zeB (h:ad):Bool:=zcr h
def zmU:Run:=rF1 dH λb=>(zeC b,[aB<|zeB b])
def zLN (N:Nat)(c:ad):OA:=
 (oN (zjS c.ag 12)<|cond (nB<|zf8 c.ag 12) oF<|oN (zO (ln c.aa) 1 3)<|cond (nB<|zk (ln c.aa) 1 3) oF<|oN (ziY c.ao)<|cond (nB<|zij c.ao) oF<|oN (ziY c.ak)<|cond (nB<|zij c.ak) oF<|oN (cond (few 12) (ieq 12 12) false)<|r0 (σ:=(Int×Int×lB×lN×Unit)) N (λk b=>let h:=ix b.2.2.2.1 b.2.1 zi; (cond (ilt b.2.1 b.1) (oN (inb b.2.1<|ln b.2.2.2.1)<|oN (zjD h)<|cond (nB<|zkC h) oF<|r0 (σ:=(Int×Int×Int×Int×Int×lB×lN×Unit)) N (λi a=>let f:=a.2.2.2.2.1;let g:=a.2.2.2.2.2.2.1;let j:=(ix g a.2.2.1 zi).ae;let d:=a.2.2.2.2.2.1;let e:=(ix j f zba).af; (cond (ilt f a.2.2.2.1) (oN (inb f<|ln j)<|cond (ilt e 0) (i (a.1,a.2.1,a.2.2.1,a.2.2.2.1,zI .i64 f 1,d,g,()))<|oN (inb e<|ln d)<|cond (ix d e false) oF<|oN (inb e<|ln d)<|p0 (up d e true) λl=>i (a.1,a.2.1,a.2.2.1,a.2.2.2.1,zI .i64 f 1,l,g,()))<|k (a.1,zI .i64 a.2.1 1,d,g,()))) (b.1,b.2.1,b.2.1,ln h.ae,0,b.2.2.1,b.2.2.2.1,())) oT)) (ln c.aa,0,rp 12 false,c.aa,()))
def zZ5:=zq [(82,0,{n:=63,tm:=[(3,.sl 0 []),(33,.sl 1 []),(34,ti),(35,ti)],lo:=[],ro:=[(0,.bool,true),(1,.mon,false)]}),(82,2,{n:=63,tm:=[(3,.sl 0 []),(33,.sl 1 []),(34,ti),(35,ti),(43,.sl 1 [0]),(44,ti),(45,ti)],lo:=[],ro:=[(0,.bool,true),(1,.mon,false)]})]
def zX5 (a:ad)(n:zbE big [aH a])(w:zeC a=true):∃N,zLN N a=some [aB<|zeB a]:=by
 have l:CVB big (.s .mon a.aa):=(zdy n).1 _ (by simp[AV.cvs,zbt]);have g:=l.len;refine zb2 λN d=>?_;unfold zLN zeB zcr oN nB;conv=>zeta
 refine i0 rfl (stB λp=>i0 rfl (stB λq=>i0 rfl (stB λr=>i0 rfl (stB λv=>i0 rfl ?_))));refine(zbl a.aa (λi (t:lB)=>(ln a.aa,(i:Int),t,a.aa,())) _ (λ_ (x:Mon) (u:List Bool) h=>z3D (oF) x u h) (λ(t:lB)=>some [.one<|.b true]) (λi c t rec=>?_) (λt rec=>?_) _ (rp 12 false)<|d g).trans ?_;{simp only [zbo c,zX c,zbh c,zY c g,cT];unfold z3D;cases k:zfw a.aa[i];{simp only [zjD,zkC,k,cT,cF]};simp only[zjD,zkC,k,cT,cF];have m:a.aa[i].ae.length<=big:=(l.inv.2 _ (jE c) (.s .slot _) (by simp[Ty.cells])).len;refine(zbl a.aa[i].ae (λj (u:lB)=>(ln a.aa,(i:Int),(i:Int),ln a.aa[i].ae,(j:Int),u,a.aa,())) _ (λ_ (y:k0) (u:List Bool) h=>zvG (oF) y u h) (λ(u:lB)=>rec (ln a.aa,((i+1:Nat):Int),u,a.aa,())) (λj f u e=>?_) (λu e=>?_) _ (t)<|d m).trans ?_;{simp only [zbo f,zX f,zbh f,zY f m,cT,zX c,zbh c,zY c g];rfl};{simp only [zbj,cF,zX c,zbh c,zY c g]};rfl};{simp only [zbj,cF]};exact zXC (K:=λb=>some [AV.one<|.b b]) _ (λ_=>rfl) _ _ _ rfl
def zQt:vU 82 zmU:=hF1 zJL zA zu zl zZ5 zX5
def zJY {e:Type}(r:Option e)(k:List Bool->Option e)(m:Mon):∀(n i:Nat) (u:List Bool),(∀s∈m.ae,s.af<12)->u.length=12->i+n=m.ae.length->
 goN (λj u d=>bif inb (j:Int) (ln m.ae) then zvG r (ix m.ae (j:Int) zba) u d else none) k n i u=goL (λ_ y u d=>zvG r y u d) k (m.ae.drop i) i u
 | 0,i,u,_,_,h=>by have:i=m.ae.length:=(by omega);subst this;simp[goN,goL]
 |n+1,i,u,b,c,h=>by have a:i<m.ae.length:=(by omega);rw[kD a];simp only[goN,goL,zX a,zbh a,cT,zvG];cases f:ilt m.ae[i].af 0;{rw [z0v (b _<|jE a) c f];cases ix u m.ae[i].af false;{simp only [cF,cT,p0];exact zJY r k m n (i+1) _ b (by simpa using c) (by omega)};{rfl}};{simp only [cT];exact zJY r k m n (i+1) u b c (by omega)}
def zL8 (N:Nat)(b:ad):OA:=
 (oN (zjS b.ag 12)<|cond (nB<|zf8 b.ag 12) oF<|oN (zO (ln b.aa) 1 3)<|cond (nB<|zk (ln b.aa) 1 3) oF<|oN (ziY b.ao)<|cond (nB<|zij b.ao) oF<|oN (ziY b.ak)<|cond (nB<|zij b.ak) oF<|oN (cond (few 12) (ieq 12 12) false)<|r0 (σ:=(Int×lB×lM×lN×lE×lE×Unit)) N (λq c=>let n:=ix c.2.2.2.1 c.1 zi; (cond (ilt c.1<|ln c.2.2.2.1) (oN (inb c.1<|ln c.2.2.2.1)<|oN (zjD n)<|cond (nB<|zkC n) oF<|r0 (σ:=(Int×Int×lB×lM×lN×lE×lE×Unit)) N (λi a=>let k:=zI .i64 a.2.1 1;let h:=a.2.2.2.2.2.1;let g:=a.2.2.2.2.2.2.1;let f:=a.2.2.1;let e:=a.2.2.2.2.1;let p:=(ix e a.1 zi).ae;let m:=i (a.1,k,f,a.2.2.2.1,e,h,g,());let d:=(ix p a.2.1 zba).af;let l:=inb d<|ln f; (cond (ilt a.2.1 8) (oN (inb a.1<|ln e)<|oN (inb a.2.1<|ln p)<|cond (ige d 0) (oN l<|cond (ix f d false) oF<|cond (ige d 0) (oN l<|p0 (up f d true) λj=>i (a.1,k,j,a.2.2.2.1,e,h,g,())) m)<|cond (ige d 0) (oN l<|p0 (up f d true) λj=>i (a.1,k,j,a.2.2.2.1,e,h,g,())) m)<|q (zI .i64 a.1 1,f,a.2.2.2.1,e,h,g,()))) (c.1,0,c.2.1,c.2.2.1,c.2.2.2.1,c.2.2.2.2.1,c.2.2.2.2.2.1,())) oT)) (0,rp 12 false,b.ag,b.aa,b.ao,b.ak,()))
def z0d:=zq [(28,0,{n:=72,tm:=[(1,.lp 0 0),(3,.sl 0 []),(4,ti)],lo:=[(0,[.sl 1 [],.sl 2 [],.sl 3 [],.sl 4 []])],ro:=[(0,.bool,true),(1,.sl .int,false),(2,.mon,false),(3,.entry,false),(4,.entry,false)]}),(28,2,{n:=72,tm:=[(1,.lp 0 0),(3,.sl 0 []),(4,ti),(5,ti)],lo:=[(0,[.sl 1 [],.sl 2 [],.sl 3 [],.sl 4 []])],ro:=[(0,.bool,true),(1,.sl .int,false),(2,.mon,false),(3,.entry,false),(4,.entry,false)]})]
def zYo (a:ad)(y:zbE big [aH a])(F:zeC a=true):∃N,zL8 N a=some [aB<|zeB a]:=by
 have A:CVB big (.s .mon a.aa):=(zdy y).1 _ (by simp[AV.cvs,zbt]);have h:=A.len;refine zb2 λN f=>?_;unfold zL8 zeB zcr oN nB;conv=>zeta
 refine i0 rfl (stB λD=>i0 rfl (stB λq=>i0 rfl (stB λr=>i0 rfl (stB λE=>i0 rfl ?_))));refine(zbl a.aa (λi (t:lB)=>((i:Int),t,a.ag,a.aa,a.ao,a.ak,())) _ (λ_ (x:Mon) (u:List Bool) d=>bif zfw x then goN (λj u d=>bif inb (j:Int) (ln x.ae) then zvG (oF) (ix x.ae (j:Int) zba) u d else none) d 8 0 u else oF) (λ(t:lB)=>some [.one<|.b true]) (λi c t rec=>?_) (λt rec=>?_) _ (rp 12 false)<|f h).trans ?_;{simp only [zbo c,zX c,zbh c,zY c h,cT];cases v:zfw a.aa[i];{simp only [zjD,zkC,v,cT,cF]};simp only[zjD,zkC,v,cT,cF];refine(zv1 8 (λj (u:lB)=>((i:Int),(j:Int),u,a.ag,a.aa,a.ao,a.ak,())) _ (λj (u:List Bool) d=>bif inb (j:Int) (ln a.aa[i].ae) then zvG (oF) (ix a.aa[i].ae (j:Int) zba) u d else none) (λ(u:lB)=>rec (((i+1:Nat):Int),u,a.ag,a.aa,a.ao,a.ak,())) (λj z u g=>?_) (λu g=>?_) _ (t)<|f (by decide)).trans ?_;{simp only [show ilt (j:Int) 8=true from qH (by omega),zY z (show 8<=big by decide),cT,zX c,zbh c,zY c h];unfold zvG;have e:ige (ix a.aa[i].ae (j:Int) zba).af 0 = !ilt (ix a.aa[i].ae (j:Int) zba).af 0:=(by rw[zbdI,Bool.not_not]);simp only[e];cases ilt (ix a.aa[i].ae (j:Int) zba).af 0<;>cases inb (j:Int) (ln a.aa[i].ae)<;>cases inb (ix a.aa[i].ae (j:Int) zba).af (ln u)<;>cases ix u (ix a.aa[i].ae (j:Int) zba).af false<;>rfl};{simp only [show ilt ((8:Nat):Int) 8=false from qI (by omega),cF,zX c,zbh c,zY c h]};rfl};{simp only [zbj,cF]};have p:∀(l:List Mon) (i:Nat) (u:List Bool),u.length=12->goL (λ_ (x:Mon) (u:List Bool) d=>bif zfw x then goN (λj u d=>bif inb (j:Int) (ln x.ae) then zvG (oF) (ix x.ae (j:Int) zba) u d else none) d 8 0 u else oF) (λ_=>oT) l i u=some [AV.one<|.b<|zkB l u]:=(by intro l;induction l with|nil=>intro i u _;rfl|cons m l B=>intro i u n;simp only[goL,zkB];cases q:zfw m;{rfl};{have k:=zon q;have w:0+8=m.ae.length:=(by have:=ztO k;simp only[ln] at this;omega);simp only[cT];rw[zJY _ _ m 8 0 u (zGG k) n w,vI,zBh _ _ _ _ _ (zGG k) n];cases r:zie m.ae u with|none=>rfl|some C=>exact B (i+1) C ((zrC _ _ _ r).trans n)});exact p _ _ _ rfl
def zzu:vU 28 zmU:=hF1 zJL zA zu zl z0d zYo
def zbbK:zZ:=[(28,zmU),(82,zmU)]++zbbJ
def zJM:zS zbbK:=zh zzu (zh zQt zJL)
def z4u {h:ad}(a:zcr h=true):(h.aa.length:Int)<=3:=by unfold zcr at a;simp only[zdH]at a;exact(zf1.1 a.2.1).2
def zdf (h:ad)(m:Int):Bool:=bif zcr h then j0 m (ln h.aa) else false
def zc0 (h:ad)(m p:Int):Bool:=bif zcr h then (cond (j0 m<|ln h.aa) (j0 p 8) false) else false
def zSS {h:ad}(a:zcr h=true)(m:Int):zk m 0 (wsub .i64 (ln h.aa) 1)=j0 m (ln h.aa):=zso (by have:=z4u a;omega) m
@[simp] abbrev zgI (h:ad)(m:Int):Bool:=true
@[simp] abbrev zgH (h:ad)(m:Int):Bool:=zdf h m
def zFT:Run:=rF2 dH dI λb c=>(zgI b c,[aB<|zgH b c])
def zMt (N:Nat)(a:ad)(b:Int):OA:=
 (oN (zeC a)<|cond (zeB a) (oN (zO b 0<|wsub .i64 (ln a.aa) 1)<|some [aB<|zk b 0<|wsub .i64 (ln a.aa) 1]) oF)
def zYG (a:ad)(b:Int)(d:zgI a b=true):∃N,zMt N a b=some [aB<|zgH a b]:=by refine⟨0,?_⟩;unfold zMt zgH zdf oN;cases c:zcr a;{simp only [zeC,zeB,c,cT,cF]};{simp only [zeC,zeB,c,cT,zO,zWw,zSS c]}
def zRn:vU 331 zFT:=kF2 zJM zA zu zl (zq []) zYG
@[simp] abbrev zpF (h:ad)(m p:Int):Bool:=true
@[simp] abbrev zgP (h:ad)(m p:Int):Bool:=zc0 h m p
def zI4:Run:=rF3 dH dI dI λb c d=>(zpF b c d,[aB<|zgP b c d])
def zTf (N:Nat)(a:ad)(b c:Int):OA:=
 (oN (zeC a)<|cond (zeB a) (oN (zO b 0<|wsub .i64 (ln a.aa) 1)<|cond (zk b 0<|wsub .i64 (ln a.aa) 1) (oN (zO c 0 7)<|some [aB<|zk c 0 7]) oF) oF)
def z1o (a:ad)(b c:Int)(e:zpF a b c=true):∃N,zTf N a b c=some [aB<|zgP a b c]:=by refine⟨0,?_⟩;unfold zTf zgP zc0 oN;cases d:zcr a;{simp only [zeC,zeB,d,cT,cF]};{simp only [zeC,zeB,d,cT,zO,zWw,zSS d,has8];cases j0 b (ln a.aa)<;>rfl}
def zUT:vU 182 zI4:=kF3 zJM zA zu zl (zq []) z1o
def zbbL:zZ:=[(331,zFT),(182,zI4)]++zbbK
def zXc:zS zbbL:=zh zRn (zh zUT zJM)
def zdS (k:az)(p:Int):Bool:=bif j0 p (ln k.ay) then j0 p (ln k.aA) else false
def zca (k:az)(p:Int):az:=bif zdS k p then ⟨up k.ay p false,up k.aA p C0⟩ else k
@[simp] def zrB {k:az}{p:Int}(h:SmK k):SmK (zca k p):=by unfold zca;cases zdS k p;{exact h};{exact⟨by simpa using h.1,by simpa using h.2⟩}
def has_lt {p:Int}{n m:Int}(h:j0 p n=true):ilt p m=j0 p m:=by have h:=qD h;unfold ilt j0;by_cases a:p<m;{rw [qH a,qH ⟨h.1,a⟩]};{rw [qI a,qI (by omega)]}
@[simp] abbrev zd5 (k:az)(p:Int):Bool:=pc (SmK k)
@[simp] abbrev zkc (k:az)(p:Int):Bool:=zdS k p
def zFR:Run:=rF2 (dT .kept) dI λb c=>(zd5 b c,[aB<|zkc b c])
def zMr (N:Nat)(a:az)(b:Int):OA:=
 (oN (zO b 0<|wsub .i64 (ln a.ay) 1)<|cond (zk b 0<|wsub .i64 (ln a.ay) 1) (some [aB<|ilt b<|ln a.aA]) oF)
def zYD (a:az)(b:Int)(c:zd5 a b=true):∃N,zMr N a b=some [aB<|zkc a b]:=by have e:=zM.1 c;refine⟨0,?_⟩;unfold zMr zkc zdS oN;simp only[zO,zWw,zso e.1,cT];cases d:j0 b (ln a.ay);{rfl};{simp only [cT,has_lt d]}
def zRc:vU 389 zFR:=kF2 zXc zA zu zl (zq []) zYD
def zbbM:zZ:=[(389,zFR)]++zbbL
def zJN:zS zbbM:=zh zRc zXc
@[simp] abbrev zh7 (k:az)(p:Int):az:=zca k p
def zqy:Run:=rF2 (dT .kept) dI λb c=>(zd5 b c,[aT .kept<|zh7 b c])
def zL6 (N:Nat)(c:az)(b:Int):OA:=
 let a:=zej c; (oN (zhx c)<|oN (zd5 a b)<|cond (zkc a b) (oN (inb b<|ln a.ay)<|p0 (up a.ay b false) λd=>oN zbR<|oN (inb b<|ln a.aA)<|p0 (up a.aA b zbm) λe=>some [aT .kept (⟨d,e⟩:az)])<|some [aT .kept a])
def zYm (a:az)(b:Int)(g:zd5 a b=true):∃N,zL6 N a b=some [aT .kept<|zh7 a b]:=by
 have d:=zM.1 g;refine⟨0,?_⟩;unfold zL6 zh7 oN;conv=>zeta
 refine i0 (zbr<|(zzh _).2 d) (i0 (zbr d) ?_);unfold zca;cases c:zdS a b;{simp only [zkc,zej,c,cF]};{simp only [zkc,zej,c,cT];unfold zdS at c;obtain⟨e,f⟩:=zdH.1 c;simp only[zXU,e,f,cT,p0,zbR]}
def zQS:vU 334 zqy:=kF2 zJN zA zu zl (zq []) zYm
def zLL (N:Nat)(b:az)(a:Int):OA:=
 let c:=zd0 b; (oN (ze8 b)<|oN (zbH a<|ln b.ay)<|cond (zdG a<|ln b.ay) (oN (zbH a<|ln b.aA)<|cond (zdG a<|ln b.aA) (oN (inb a<|ln c.ay)<|p0 (up c.ay a false) λd=>oN zbR<|oN (inb a<|ln c.aA)<|p0 (up c.aA a zbm) λe=>some [aT .kept (⟨d,e⟩:az)])<|some [aT .kept c])<|some [aT .kept c])
def zX3 (a:az)(b:Int)(c:zd5 a b=true):∃N,zLL N a b=some [aT .kept<|zh7 a b]:=by
 have d:=zM.1 c;refine⟨0,?_⟩;unfold zLL zh7 oN;conv=>zeta
 refine i0 (zbr d) (i0 rfl ?_);unfold zca zdS;simp only[zdG,zbH,zd0,zXU,p0,zbR,cT];cases j0 b (ln a.ay);{rfl};{cases j0 b (ln a.aA)<;>rfl}
def zQr:vU 305 zqy:=kF2 zJN zA zu zl (zq []) zX3
def zbbN:zZ:=[(334,zqy),(305,zqy)]++zbbM
def zvI:zS zbbN:=zh zQS (zh zQr zJN)
def zfE (k:az)(l:LI):az:=l.foldl zca k
def z3i:∀(l:LI) {k:az},SmK k->SmK (zfE k l)
 |[],_,h=>h
 |p::l,k,h=>z3i l (zrB (p:=p) h)
def zBf {b:Type}(K:List Bool×List k0->Option b):∀(l:LI) (i:Nat) (k:az),SmK k->
 goL (λ_ x (t:List Bool×List k0) a=>bif pc (SmK ⟨t.1,t.2⟩) then a ((zca ⟨t.1,t.2⟩ x).ay,(zca ⟨t.1,t.2⟩ x).aA) else none) K l i (k.ay,k.aA)=K ((zfE k l).ay,(zfE k l).aA)
 |[],_,_,_=>rfl
 |x::l,i,k,h=>by have e:pc (SmK ⟨k.ay,k.aA⟩)=true:=zbr h;simp only[goL,e,cT];exact zBf K l (i+1) (zca k x) (zrB h)
def zGe (l:List k0)(p:Int):LI:=idxs (λ(s:k0)=>ieq s.af p) l 0
def zle (k:az)(l:List k0)(p:Int):az:=zfE k (zGe l p)
def zbaM {k:az}(l:List k0)(p:Int)(h:SmK k):SmK (zle k l p):=z3i _ h
@[simp] abbrev ziP (k:az)(l:List k0)(p:Int):Bool:=pc (SmK k/\l.length<=1048576)
@[simp] abbrev zm0 (k:az)(l:List k0)(p:Int):az:=zle k l p
def zls:Run:=rF3 (dT .kept) (dS .slot) dI λb c d=>(ziP b c d,[aT .kept<|zm0 b c d])
def zzc (N:Nat)(c:az)(e:lS)(f:Int):OA:=
 (oN (zhx c)<|oN (zq7 e f)<|r0 (σ:=(Int×LI×lB×lS×lB×lS×Unit)) N (λg a=>let d:=ix a.2.1 a.1 0;let b:=(⟨a.2.2.1,a.2.2.2.1⟩:az); (cond (ilt a.1<|ln a.2.1) (oN (inb a.1<|ln a.2.1)<|oN (zd5 b d)<|g (zI .i64 a.1 1,a.2.1,(zh7 b d).ay,(zh7 b d).aA,a.2.2.2.2.1,a.2.2.2.2.2.1,()))<|some [aT .kept b])) (0,zhd e f,(zej c).ay,(zej c).aA,[],[],()))
def zLD:=zq [(445,0,{n:=27,tm:=[(3,.lp 0 0),(6,.lp 1 0),(7,.sl 0 []),(8,ti)],lo:=[(0,[.sl 1 [],.sl 2 []]),(1,[.sl 3 [],.sl 4 []])],ro:=[(0,.int,true),(1,.bool,true),(2,.slot,true),(3,.bool,true),(4,.slot,true)]})]
def zK2 (b:az)(a:List k0)(c:Int)(j:ziP b a c=true):∃N,zzc N b a c=some [aT .kept<|zm0 b a c]:=by
 obtain⟨h,f⟩:=zM.1 j;have g:(zhd a c).length<=big:=qT (zBu _ a 0) (zcc f).1;refine zb2 λN e=>?_;unfold zzc oN;conv=>zeta
 refine i0 (zbr<|(zzh _).2 h) (i0 (zbr (by omega)) ?_);refine(zbl (zhd a c) (λi (t:lB×lS)=>((i:Int),zhd a c,t.1,t.2,[],[],())) _ (λ_ (x:Int) (t:List Bool×List k0) k=>bif pc (SmK ⟨t.1,t.2⟩) then k ((zca ⟨t.1,t.2⟩ x).ay,(zca ⟨t.1,t.2⟩ x).aA) else none) (λ(t:lB×lS)=>some [.agg<|Ty.cells .kept (⟨t.1,t.2⟩:az)]) (λi d t rec=>?_) (λt rec=>?_) _ ((zej b).ay,(zej b).aA)<|e g).trans ?_;{simp only [zbo d,zX d,zbh d,zY d g,cT]};{simp only [zbj,cF]};exact zBf _ _ 0 b h
def zE8:vU 445 zls:=kF3 zvI zA zu zl zLD zK2
def zy4 (N:Nat)(c:az)(d:lS)(e:Int):OA:=
 (oN (ze8 c)<|oN (zq7 d e)<|r0 (σ:=(Int×Int×LI×lB×lS×lB×lS×Unit)) N (λg a=>let f:=ix a.2.2.1 a.2.1 0;let b:=(⟨a.2.2.2.2.2.1,a.2.2.2.2.2.2.1⟩:az); (cond (ilt a.2.1 a.1) (oN (inb a.2.1<|ln a.2.2.1)<|oN (zd5 b f)<|g (a.1,zI .i64 a.2.1 1,a.2.2.1,a.2.2.2.1,a.2.2.2.2.1,(zh7 b f).ay,(zh7 b f).aA,()))<|some [aT .kept b])) (ln<|zhd d e,0,zhd d e,[],[],(zd0 c).ay,(zd0 c).aA,()))
def zLw:=zq [(430,0,{n:=25,tm:=[(6,.lp 0 0),(7,.lp 1 0),(14,.sl 0 []),(15,ti),(16,ti)],lo:=[(0,[.sl 1 [],.sl 2 []]),(1,[.sl 3 [],.sl 4 []])],ro:=[(0,.int,true),(1,.bool,true),(2,.slot,true),(3,.bool,true),(4,.slot,true)]})]
def zKR (c:az)(a:List k0)(b:Int)(j:ziP c a b=true):∃N,zy4 N c a b=some [aT .kept<|zm0 c a b]:=by
 obtain⟨h,f⟩:=zM.1 j;have g:(zhd a b).length<=big:=qT (zBu _ a 0) (zcc f).1;refine zb2 λN e=>?_;unfold zy4 oN;conv=>zeta
 refine i0 (zbr h) (i0 (zbr (by omega)) ?_);refine(zbl (zhd a b) (λi (t:lB×lS)=>(ln<|zhd a b,(i:Int),zhd a b,[],[],t.1,t.2,())) _ (λ_ (x:Int) (t:List Bool×List k0) k=>bif pc (SmK ⟨t.1,t.2⟩) then k ((zca ⟨t.1,t.2⟩ x).ay,(zca ⟨t.1,t.2⟩ x).aA) else none) (λ(t:lB×lS)=>some [.agg<|Ty.cells .kept (⟨t.1,t.2⟩:az)]) (λi d t rec=>?_) (λt rec=>?_) _ ((zd0 c).ay,(zd0 c).aA)<|e g).trans ?_;{simp only [zbo d,zX d,zbh d,zY d g,cT]};{simp only [zbj,cF]};exact zBf _ _ 0 c h
def zE0:vU 430 zls:=kF3 zvI zA zu zl zLw zKR
def flushed (l:List ar)(p:Int):List ar:=l.filter λe=>!ieq e.ad p
def zIE (l:List ar)(p:Int):(flushed l p).length<=l.length:=uJ _ _
def znr {b e:Type}(p:b->Bool)(K:List b->Option e):∀(l:List b) (i:Nat) (a:List b),a.length+l.length<=2147483648->
 goL (λ_ x a d=>bif p x then (cond (few<|ln<|ap a [x]) (d<|ap a [x]) none) else d a) K l i a=K (a++l.filter p)
 |[],i,a,_=>by simp[goL]
 |x::l,i,a,h=>by simp only[qU]at h;simp only[goL];cases c:p x;{rw [cF,znr p K l (i+1) a (by omega),List.filter_cons_of_neg (by simp[c])]};{rw [cT,zgv (by simp[ap];omega),cT,znr p K l (i+1) _ (by simp[ap];omega),List.filter_cons_of_pos c];simp[ap]}
@[simp] abbrev zeH (l:List ar)(p:Int):Bool:=pc (l.length<=1048576)
@[simp] abbrev zhp (l:List ar)(p:Int):List ar:=flushed l p
def zmr:Run:=rF2 (dS .entry) dI λb c=>(zeH b c,[aS .entry<|zhp b c])
def zCx (N:Nat)(e:lE)(f:Int):OA:=
 (r0 (σ:=(Int×Int×lE×lE×Unit)) N (λd a=>let b:=a.2.2.1;let c:=ix b a.2.1 zfz; (cond (ilt a.2.1<|ln b) (oN (inb a.2.1<|ln b)<|cond (ine c.ad a.1) (oN (inb a.2.1<|ln b)<|oN (few<|ln<|ap a.2.2.2.1 [c])<|d (a.1,zI .i64 a.2.1 1,b,ap a.2.2.2.1 [c],()))<|d (a.1,zI .i64 a.2.1 1,b,a.2.2.2.1,()))<|some [aS .entry a.2.2.2.1])) (f,0,e,[],()))
def zPQ:=zq [(446,0,{n:=29,tm:=[(0,.sl 0 []),(1,ti),(5,.sl 1 []),(6,ti)],lo:=[],ro:=[(0,.entry,false),(1,.entry,true)]})]
def zOv (a:List ar)(b:Int)(h:zeH a b=true):∃N,zCx N a b=some [aS .entry<|zhp a b]:=by
 have j:=zM.1 h;have f:=zcc j;refine zb2 λN d=>?_;unfold zCx oN;conv=>zeta
 refine(zbl a (λi (t:lE)=>(b,(i:Int),a,t,())) _ (λ_ (x:ar) (t:List ar) g=>bif !ieq x.ad b then (cond (few<|ln<|ap t [x]) (g<|ap t [x]) none) else g t) (λ(t:lE)=>some [.one<|.s .entry t]) (λi c t rec=>?_) (λt rec=>?_) _ ([])<|d f.1).trans ?_;{simp only [zbo c,zX c,zbh c,zY c f.1,cT];rfl};{simp only [zbj,cF]};exact znr (λe=>!ieq e.ad b) _ a 0 [] (by simpa using f.2)
def zG2:vU 446 zmr:=kF2 zvI zA zu zl zPQ zOv
def zCe (N:Nat)(d:lE)(f:Int):OA:=
 (r0 (σ:=(Int×Int×Int×lE×lE×Unit)) N (λe a=>let b:=a.2.2.2.2.1;let c:=ix b a.2.1 zfz; (cond (ilt a.2.1 a.1) (oN (inb a.2.1<|ln b)<|cond (nB<|ieq c.ad a.2.2.1) (oN (few<|ln<|ap a.2.2.2.1 [c])<|e (a.1,zI .i64 a.2.1 1,a.2.2.1,ap a.2.2.2.1 [c],b,()))<|e (a.1,zI .i64 a.2.1 1,a.2.2.1,a.2.2.2.1,b,()))<|some [aS .entry a.2.2.2.1])) (ln d,0,f,[],d,()))
def zPE:=zq [(418,0,{n:=25,tm:=[(1,.fn 467 [0]),(5,.sl 0 []),(9,.sl 1 []),(10,ti),(11,ti)],lo:=[(0,[ti])],ro:=[(0,.entry,true),(1,.entry,false)]})]
def zOc (a:List ar)(b:Int)(h:zeH a b=true):∃N,zCe N a b=some [aS .entry<|zhp a b]:=by
 have j:=zM.1 h;have f:=zcc j;refine zb2 λN d=>?_;unfold zCe oN nB;conv=>zeta
 refine(zbl a (λi (t:lE)=>(ln a,(i:Int),b,t,a,())) _ (λ_ (x:ar) (t:List ar) g=>bif !ieq x.ad b then (cond (few<|ln<|ap t [x]) (g<|ap t [x]) none) else g t) (λ(t:lE)=>some [.one<|.s .entry t]) (λi c t rec=>?_) (λt rec=>?_) _ ([])<|d f.1).trans ?_;{simp only [zbo c,zX c,zbh c,zY c f.1,cT];cases ieq a[i].ad b<;>rfl};{simp only [zbj,cF]};exact znr (λe=>!ieq e.ad b) _ a 0 [] (by simpa using f.2)
def zGN:vU 431 zmr:=kF2 zvI zA zu zl zPE zOc
def z3M:zZ:=[(445,zls),(430,zls),(446,zmr),(431,zmr)]++zbbN
def zJO:zS z3M:=zh zE8 (zh zE0<|zh zG2<|zh zGN zvI)
def znc (b:List ah)(p:Int):Nat->List az->List az
 | 0,a=>a
 |n+1,a=>up (znc b p n a) (n:Int) (zle (ix (znc b p n a) (n:Int) ze0) (ix b (n:Int) zy).av p)
def zsj (b:List ah)(p:Int):∀(n:Nat) (a:List az),(znc b p n a).length=a.length
 | 0,_=>rfl
 |n+1,a=>by simp only[znc,zid];exact zsj b p n a
def zx6 (b:List ah)(p:Int):∀(n:Nat) (a:List az),n<=a.length->zEv a->zEv (znc b p n a)
 | 0,_,_,h=>h
 |n+1,a,e,h=>by have d:=zx6 b p n a (by omega) h;have c:n<(znc b p n a).length:=(by rw[zsj];omega);exact zAs d (zbaM _ _ (by rw[zbh c];exact d.2 _ (jE c)))
def zme (x:Mon)(p:Int)(n:Nat):Mon:={x with am:=znc x.ac p n x.am}
def z8D {x:Mon}{p:Int}{n:Nat}(a:n<=x.am.length)(h:zgs x):zgs (zme x p n):=⟨h.1,h.2.1,h.2.2.1,h.2.2.2.1,h.2.2.2.2.1,zx6 _ _ _ _ a h.2.2.2.2.2⟩
def zcH (h:ad)(m p:Int)(s:k0):ad :=
 bif ine (ix (ix h.aa m zi).ae p zba).af (-1)
 then ⟨h.ag,up h.aa m {zme (ix h.aa m zi) p (ix h.aa m zi).am.length with ae:=up (ix h.aa m zi).ae p s},flushed h.ao (ix (ix h.aa m zi).ae p zba).af,flushed h.ak (ix (ix h.aa m zi).ae p zba).af⟩
 else ⟨h.ag,up h.aa m {zme (ix h.aa m zi) p (ix h.aa m zi).am.length with ae:=up (ix h.aa m zi).ae p s},h.ao,h.ak⟩
def zbeo (h:ad)(m p:Int):Prop:=j0 m (ln h.aa)=true/\j0 p (ln (ix h.aa m zi).ae)=true/\(ix h.aa m zi).am.length<=(ix h.aa m zi).ac.length
@[simp] abbrev zgo (h:ad)(m p:Int)(s:k0):Bool:=pc (zdx h/\zbeo h m p)
@[simp] abbrev ziE (h:ad)(m p:Int)(s:k0):ad:=zcH h m p s
def zuj:LW
 |[.agg [.s (.sl .int) b,.s .mon c,.s .entry d,.s .entry e],.one<|.i .i64 f,.one<|.i .i64 g,.agg [.i .i64 h,.i .i64 j]]=>some (zgo (⟨b,c,d,e⟩:ad) f g (⟨h,j⟩:k0),[aH<|ziE (⟨b,c,d,e⟩:ad) f g (⟨h,j⟩:k0)])
 |_=>none
def zyj (N:Nat)(p:ad)(g z:Int)(B:k0):OA:=
 let v:=ix p.aa g zi; (oN (inb g<|ln p.aa)<|oN (inb z<|ln v.ae)<|r0 (σ:=(Int×Int×Int×Int×Int×Int×Int×Int×Int×Int×Int×Int×Int×Int×Int×lM×lN×lE×lE×lM×lN×lE×lE×Unit)) N (λD a=>let d:=a.2.2.1;let m:=a.2.2.2.2.2.2.2.2.2.2.2.1;let l:=a.2.2.2.2.2.2.2.2.2.2.2.2.1;let k:=a.2.2.2.2.2.2.2.2.2.2.2.2.2.2.1;let j:=a.2.2.2.2.2.2.2.2.2.2.2.2.2.2.2.1;let f:=a.2.2.2.2.2.2.2.1;let e:=a.2.2.2.2.2.2.2.2.1;let c:=a.2.2.2.1;let w:=a.2.2.2.2.2.2.2.2.2.2.1;let y:=a.2.2.2.2.2.2.2.2.2.2.2.2.2.2.2.2.2.1;let x:=a.2.2.2.2.2.2.2.2.2.2.2.2.2.2.2.2.2.2.1;let n:=a.2.2.2.2.2.2.1;let r:=a.2.2.2.2.2.2.2.2.2.1;let i:=a.2.2.2.2.2.2.2.2.2.2.2.2.2.1;let q:=a.2.2.2.2.2.2.2.2.2.2.2.2.2.2.2.2.1;let u:=(ix q r zi).ac;let t:=(ix u c zy).av;let h:=ix q n zi;let s:=(ix q i zi).am;let C:=up q n ({h with ae:=(up h.ae a.2.1 (⟨a.2.2.2.2.1,a.2.2.2.2.2.1⟩:k0))}:Mon); (cond (ilt c<|ln s) (oN (inb c<|ln s)<|oN (inb c<|ln u)<|oN (ziP (ix s c ze0) t a.2.1)<|oN (inb c<|ln s)<|p0 (up q i ({ (ix q i zi) with am:=(up s c<|zm0 (ix s c ze0) t a.2.1)}:Mon)) λb=>D (a.1,a.2.1,d,zI .i64 c 1,a.2.2.2.2.1,a.2.2.2.2.2.1,n,f,e,r,w,m,l,i,k,j,b,y,x,a.2.2.2.2.2.2.2.2.2.2.2.2.2.2.2.2.2.2.2.1,a.2.2.2.2.2.2.2.2.2.2.2.2.2.2.2.2.2.2.2.2.1,a.2.2.2.2.2.2.2.2.2.2.2.2.2.2.2.2.2.2.2.2.2.1,a.2.2.2.2.2.2.2.2.2.2.2.2.2.2.2.2.2.2.2.2.2.2.1,()))<|cond (ine d<|-1) (oN (zeH y d)<|oN (zeH x d)<|oN (inb a.2.1<|ln h.ae)<|p0 C λb=>oN (inb a.1<|ln b)<|oN (cond (cond (cond (cond (cond (cond (ieq i a.1) true false) (cond (ieq w a.1) true false) false) (cond (ieq r a.1) true false) false) (cond (ieq e a.1) true false) false) (cond (ieq f a.1) true false) false) (cond (ieq n a.1) true false) false)<|p0 (up b a.1 ({ (ix b n zi) with Out:=(ix b f zi).Out,aw:=(ix b e zi).aw,ac:=(ix b r zi).ac,Outs:=(ix b w zi).Outs,an:=m,aq:=l,am:=(ix b i zi).am,Own:=k}:Mon)) λA=>some [aH (⟨j,A,zhp y d,zhp x d⟩:ad)])<|oN (inb a.2.1<|ln h.ae)<|p0 C λb=>oN (inb a.1<|ln b)<|oN (cond (cond (cond (cond (cond (cond (ieq i a.1) true false) (cond (ieq w a.1) true false) false) (cond (ieq r a.1) true false) false) (cond (ieq e a.1) true false) false) (cond (ieq f a.1) true false) false) (cond (ieq n a.1) true false) false)<|p0 (up b a.1 ({ (ix b n zi) with Out:=(ix b f zi).Out,aw:=(ix b e zi).aw,ac:=(ix b r zi).ac,Outs:=(ix b w zi).Outs,an:=m,aq:=l,am:=(ix b i zi).am,Own:=k}:Mon)) λA=>some [aH (⟨j,A,y,x⟩:ad)])) (g,z,(ix v.ae z zba).af,0,B.af,B.aj,g,g,g,g,g,v.an,v.aq,g,v.Own,p.ag,p.aa,p.ao,p.ak,[],[],[],[],()))
def zWb:=zq [(362,0,{n:=70,tm:=[(1,ti),(2,ti),(4,.lp 0 0),(7,.lp 1 0),(8,.lp 2 0),(9,.lp 3 0),(10,ti),(11,ti)],lo:=[(0,[.sl 0 [],.sl 1 [],.sl 2 [],.sl 3 []]),(1,[ti,ti]),(2,[.sl 4 [],.sl 5 [],.sl 6 [],.sl 7 []]),(3,[.sl 1 [0],.sl 1 [1],.sl 1 [2],.sl 1 [3],.sl 1 [4],ti,ti,.sl 1 [7],ti])],ro:=[(0,.sl .int,true),(1,.mon,true),(2,.entry,true),(3,.entry,true),(4,.sl .int,true),(5,.mon,true),(6,.entry,true),(7,.entry,true)]})]
def zYR (N:Nat)(a:ad)(b c:Int)(d:k0):zGq (cQ z3M zqg zLd zZZ) zWb N 12 362 [true,true,true,true,false,false,false,false] 1 1 [[0],[1],[2],[4],[7]] .mon [aH a,aI b,aI c,aT .slot d]=zyj N a b c d:=by kernel_rfl
def zVF (a:ad)(f b:Int)(d:k0)(D:zbE big [aH a,aI f,aI b,aT .slot d])(y:zgo a f b d=true):∃N,zyj N a f b d=some [aH<|ziE a f b d]:=by
 obtain⟨B,g,s,C⟩:=zM.1 y;have l:=(zT a).1 B;have r:zgs (ix a.aa f zi):=l.2.1.2 _ (zbN g _);obtain⟨k,rfl,q⟩:=zez (n:=a.aa.length) g;have x:=(zcc r.2.2.2.2.2.1).1;refine zb2 λN p=>?_;unfold zyj oN;conv=>zeta
 refine i0 g (i0 s ?_);refine zha (ix a.aa (k:Int) zi).am.length (λi (t:List Mon)=>((k:Int),b,(ix (ix a.aa (k:Int) zi).ae b zba).af,(i:Int),d.af,d.aj,(k:Int),(k:Int),(k:Int),(k:Int),(k:Int),(ix a.aa (k:Int) zi).an,(ix a.aa (k:Int) zi).aq,(k:Int),(ix a.aa (k:Int) zi).Own,a.ag,t,a.ao,a.ak,[],[],[],[],())) _
  (λi t=>t=up a.aa (k:Int) (zme (ix a.aa (k:Int) zi) b i)) (λ_ _=>some [AV.agg<|zbt<|zcH a (k:Int) b d]) (λi t rec u m A=>?_) (λt rec m=>?_) _ 0 a.aa ?_ (jN _) ?_
 .subst m;have c:i<(znc (ix a.aa (k:Int) zi).ac b i (ix a.aa (k:Int) zi).am).length:=(by rw[zsj];exact u);have e:i<(ix a.aa (k:Int) zi).ac.length:=by omega
  have z:ziP (ix (znc (ix a.aa (k:Int) zi).ac b i (ix a.aa (k:Int) zi).am) (i:Int) ze0) (ix (ix a.aa (k:Int) zi).ac (i:Int) zy).av b=true :=
   zbr ⟨by rw[zbh c];exact(zx6 _ _ _ _ (by omega) r.2.2.2.2.2).2 _ (jE c),by rw[zbh e];exact(r.2.2.2.1.2 _<|jE e).2.2.1⟩
  simp only[zev q,zx8,zme,zbo c,zX c,zX e,z,cT,p0,zY u x];exact A _ rfl
 {subst m;simp only[zev q,zx8,zid,zme,ln,zsj,zcP,show ilt (((ix a.aa (k:Int) zi).am.length:Nat):Int) (((ix a.aa (k:Int) zi).am.length:Nat):Int)=false from qI (by omega),cT,cF,p0];have h:inb (k:Int) ((a.aa.length:Nat):Int)=true:=g;have j:inb b (((ix a.aa (k:Int) zi).ae.length:Nat):Int)=true:=s;have v:zeH a.ao (ix (ix a.aa (k:Int) zi).ae b zba).af=true:=zbr l.2.2.1;have w:zeH a.ak (ix (ix a.aa (k:Int) zi).ae b zba).af=true:=zbr l.2.2.2;simp only[h,j,v,w,cT];unfold zcH;cases ine (ix (ix a.aa (k:Int) zi).ae b zba).af (-1)<;>rfl};{exact(zAz q _).symm};{exact p (by omega)}
def zNX:ze3 Tryz.prog 362 [true,true,true,true,false,false,false,false] (some (1,1,[[0],[1],[2],[4],[7]])) zuj:=by refine znt (kt:=.mon) (zhP zJO zA zu zl) (zkp (by kernel_rfl)) (by kernel_rfl) ?_;intro a g f e h;have c:=zkv e;unfold zuj at h;split at h;{obtain⟨d,rfl⟩:=zeP h;obtain⟨N,b⟩:=zVF _ _ _ _ (by exact c) d;exact⟨⟨_,rfl⟩,rfl,_,N,12,(zYR N _ _ _ _ ).trans b⟩};{cases h}
def zZ0:zgd:=[(362,[true,true,true,true,false,false,false,false],some (1,1,[[0],[1],[2],[4],[7]]),zuj)]++zZZ
def zdX:zeS zZ0:=zsk zl (by
 intro x a;simp only[qG,qM,or_false]at a;rcases a with rfl
 .exact zNX)
def z0u (x:Mon)(p:Int):Mon:={x with aw:=up x.aw p false}
def zsn (h:ad)(m p:Int):ad:={h with aa:=up h.aa m (z0u (ix h.aa m zi) p)}
def zvS (h:ad)(m p:Int):ad:=bif zc0 h m p then (cond (zdr (ix (ix h.aa m zi).ae p zba) C0) (zsn h m p)<|zcH (zsn h m p) m p ⟨(ix (ix h.aa m zi).ae p zba).af,1⟩) else h
def zBl:∀(l:List Mon) (u:List Bool),zkB l u=true->∀x∈l,zfw x=true
 |[],_,_,x,a=>by cases a
 |m::l,u,h,x,a=>by
  simp only[zkB]at h;cases b:zfw m;{rw [b]at h;cases h}
  .rw [b]at h;simp only[cT]at h;cases c:zie m.ae u with
   |none=>rw[c]at h;cases h
   |some d =>rw[c]at h;rcases qG.1 a with rfl|a;{exact b};{exact zBl l d h x a}
structure PageAt (h:ad) (m p:Int):Prop where
 hm:j0 m (ln h.aa)=true
 hp:j0 p 8=true
 ok:zfw (ix h.aa m zi)=true
 ho:(ix h.aa m zi).ae.length=8
 hd:(ix h.aa m zi).aw.length=8
 ht:(ix h.aa m zi).am.length=(ix h.aa m zi).ac.length
 hs:zdr (ix (ix h.aa m zi).ae p zba) C0=ieq (ix (ix h.aa m zi).ae p zba).af (-1)
def zUh {s:k0}{n:Int}(h:zey s n=true):zdr s C0=ieq s.af (-1):=by unfold zey at h;cases a:zdr s C0;{rw [a]at h;cases d:ieq s.af (-1);{rfl};{have e:s.af = -1:=qD d;cases b:igt n 0;{rw [b]at h;cases h};{cases c:zk s.af 0 (wsub .i64 n 1);{rw [b,c]at h;cases h};{have:=(zf1.1 c).1;omega}}}};{unfold zdr at a;rw[qE]at a;exact a.1.symm}
def zOR {h:ad}{m p:Int}(d:zc0 h m p=true):PageAt h m p:=by unfold zc0 at d;simp only[zdH]at d;obtain⟨c,f,g⟩:=d;unfold zcr at c;simp only[zdH]at c;have b:=zBl _ _ c.2.2.2.2 _ (zbN f zi);have a:=b;unfold zfw at a;simp only[zdH]at a;have i:(ix h.aa m zi).ae.length=8:=(by have:=ztO a.2.2.1;simp only[ln] at this;omega);refine⟨f,g,b,i,?_,?_,?_⟩;{have:ln (ix h.aa m zi).aw=8:=qD a.2.2.2.2.1;simp only[ln] at this;omega};{have:ln (ix h.aa m zi).am=ln (ix h.aa m zi).ac:=qD a.2.1;simp only[ln] at this;omega};{have e:=a.2.2.1;unfold zdv at e;simp only[zdH]at e;have j:j0 p (ln (ix h.aa m zi).ae)=true:=(by rw[ln,i];exact g);exact zUh (qN.1 e.1 _<|zbN j _)}
def zZO {x:Mon}{p:Int}(h:zgs x):zgs (z0u x p):=⟨h.1,h.2.1,by simpa [z0u] using h.2.2.1,h.2.2.2⟩
def zB3 {h:ad}{m p:Int}(b:j0 m (ln h.aa)=true)(a:SmH h):SmH (zsn h m p):=⟨a.1,zk9 a.2.1<|zZO<|a.2.1.2 _<|zbN b _,a.2.2⟩
def zJi {h:ad}{m p:Int}{s:k0}(d:j0 m (ln h.aa)=true)(a:SmH h):SmH (zcH h m p s):=by have c:=a.2.1.2 _ (zbN d zi);have e:=z8D (p:=p) (qW _) c;have b:ztj (up h.aa m {zme (ix h.aa m zi) p (ix h.aa m zi).am.length with ae:=up (ix h.aa m zi).ae p s}):=zk9 a.2.1 ⟨by simpa using c.1,e.2⟩;unfold zcH;cases ine (ix (ix h.aa m zi).ae p zba).af (-1);{exact⟨a.1,b,a.2.2⟩};{exact⟨a.1,b,qT (zIE _ _) a.2.2.1,qT (zIE _ _) a.2.2.2⟩}
def zB6 {h:ad}{m p:Int}(a:j0 m (ln h.aa)=true):j0 m (ln (zsn h m p).aa)=true:=by unfold zsn;simpa [ln] using a
def z8z {h:ad}{m p:Int}(a:SmH h):SmH (zvS h m p):=by unfold zvS;cases b:zc0 h m p;{exact a};{have P:=zOR b;cases zdr (ix (ix h.aa m zi).ae p zba) C0;{exact zJi (zB6 P.hm) (zB3 P.hm a)};{exact zB3 P.hm a}}
@[simp] abbrev zjQ (h:ad)(m p:Int):Bool:=pc (zdx h)
@[simp] abbrev zxQ (h:ad)(m p:Int):ad:=zvS h m p
def zI0:Run:=rF3 dH dI dI λb c d=>(zjQ b c d,[aH<|zxQ b c d,aB<|zgP b c d])
def zS3 (N:Nat)(h:ad)(a b:Int):OA:=
 let c:=zn h;let g:=ix c.aa a zi; (oN (zbn h)<|oN (zpF c a b)<|cond (nB<|zgP c a b) (some [aH c,aB false])<|oN (inb a<|ln c.aa)<|oN (inb b<|ln g.aw)<|p0 (up c.aa a ({g with aw:=(up g.aw b false)}:Mon)) (λd=>let i:=(ix d a zi).ae;let f:=({c with aa:=d}:ad);let e:=ix i b zba;let j:=({e with aj:=1}:k0); (oN (inb a<|ln d)<|oN (inb b<|ln i)<|oN zbR<|cond (cond (ieq e.af zbm.af) (ieq e.aj zbm.aj) false) (some [aH f,aB true])<|oN (zgo f a b j)<|some [aH<|ziE f a b j,aB true])))
def z1c (a:ad)(c b:Int)(j:zjQ a c b=true):∃N,zS3 N a c b=some [aH<|zxQ a c b,aB<|zgP a c b]:=by
 have g:=zM.1 j;have i:=(zT a).1 g;refine⟨0,?_⟩;unfold zS3 zxQ zgP zvS oN nB;conv=>zeta
 refine i0 (zbr g) (i0 rfl ?_);cases f:zc0 a c b;{simp only [zgP,zn,f,cF,cT]};{have P:=zOR f;obtain⟨k,rfl,d⟩:=zez (n:=a.aa.length) P.hm;simp only[zgP,zn,f,cT,cF];have l:inb b (ln (ix a.aa (k:Int) zi).aw)=true:=(by rw[ln,P.hd];exact P.hp);have h:inb b (ln (ix a.aa (k:Int) zi).ae)=true:=(by rw[ln,P.ho];exact P.hp);refine i0 P.hm (i0 l ?_);simp only[p0,zev d,h,cT,zbR,zbm];refine i0 (zB6 (p:=b) P.hm) ?_;have e:∀s:k0,zdr s C0=bif ieq s.af C0.af then ieq s.aj C0.aj else false:=λs=>(by unfold zdr;cases ieq s.af C0.af<;>rfl);rw[<- e];cases zdr (ix (ix a.aa (k:Int) zi).ae b zba) C0;{refine zcB rfl (i0 (zbr ⟨(zT _).2 (zB3 P.hm i),zB6 (p:=b) P.hm,?_,?_⟩) rfl);{simp only [zev d];exact h};{simp only [zev d];exact uD P.ht}};{rfl}}
def zUH:vU 329 zI0:=kF3 zJO zA zu zdX (zq []) z1c
def z6G:zZ:=[(329,zI0)]++z3M
def z6H:zS z6G:=zh zUH zJO
def z6I:zZ:=z6G
def zf3:zS z6I:=z6H
end
end Go.Proofs.YtapgkefgcbapcaaGreat.E
