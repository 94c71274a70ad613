/- What is proved here: a part of the proof of the claim. -/
import Derived.Test.YtapgkefgcbapcaaGreatQ4
namespace Go.Proofs.YtapgkefgcbapcaaGreat.E
open Go
set_option linter.defProp false
set_option linter.constructorNameAsVariable false
set_option linter.unusedVariables false
set_option maxRecDepth 100000
set_option linter.unusedSimpArgs false
set_option linter.unusedSectionVars false
noncomputable section
def ze6 (k:aA)(p:Int):Bool:=bif j0 p (ln k.ay) then j0 p (ln k.az) else false
def zct (k:aA)(p:Int):aA:=bif ze6 k p then ⟨up k.ay p false,up k.az p A0⟩ else k
@[simp] def zoY {k:aA}{p:Int}(h:SmK k):SmK (zct k p):=by unfold zct;cases ze6 k p;{exact h};{exact⟨by simpa using h.1,by simpa using h.2⟩}
def has_lt {p:Int}{n m:Int}(h:j0 p n=true):ilt p m=j0 p m:=by have h:=qD h;unfold ilt j0;by_cases a:p<m;{rw [qL a,qL ⟨h.1,a⟩]};{rw [qH a,qH (by omega)]}
@[simp] abbrev zc0 (k:aA)(p:Int):Bool:=pc (SmK k)
@[simp] abbrev zk4 (k:aA)(p:Int):Bool:=ze6 k p
def zF1:Run:=rF2 (dT .kept) dI λb c=>(zc0 b c,[aB<|zk4 b c])
def zNa (N:Nat)(a:aA)(b:Int):OA:=
 (oN (zJ b 0<|wsub .i64 (ln a.ay) 1)<|cond (zl b 0<|wsub .i64 (ln a.ay) 1) (some [aB<|ilt b<|ln a.az]) oF)
def zZm (a:aA)(b:Int)(c:zc0 a b=true):∃N,zNa N a b=some [aB<|zk4 a b]:=by have e:=zF.1 c;refine⟨0,?_⟩;unfold zNa zk4 ze6 oN;simp only[zJ,zXu,zs5 e.1,cT];cases d:j0 b (ln a.ay);{rfl};{simp only [cT,has_lt d]}
def zRW:vP 389 zF1:=kF2 zX2 zq zu zn (zo []) zZm
def zbbC:zbb:=[(389,zF1)]++zbbB
def zKl:zN zbbC:=zh zRW zX2
@[simp] abbrev zeO (k:aA)(p:Int):aA:=zct k p
def zrC:Run:=rF2 (dT .kept) dI λb c=>(zc0 b c,[aT .kept<|zeO b c])
def zMP (N:Nat)(c:aA)(b:Int):OA:=
 let a:=zeG c; (oN (zhY c)<|oN (zc0 a b)<|cond (zk4 a b) (oN (inb b<|ln a.ay)<|p0 (up a.ay b false) λd=>oN zbO<|oN (inb b<|ln a.az)<|p0 (up a.az b zbm) λe=>some [aT .kept (⟨d,e⟩:aA)])<|some [aT .kept a])
def zY5 (a:aA)(b:Int)(g:zc0 a b=true):∃N,zMP N a b=some [aT .kept<|zeO a b]:=by
 have d:=zF.1 g;refine⟨0,?_⟩;unfold zMP zeO oN;conv=>zeta
 refine i0 (zbv<|(zzN _).2 d) (i0 (zbv d) ?_);unfold zct;cases c:ze6 a b;{simp only [zk4,zeG,c,cF]};{simp only [zk4,zeG,c,cT];unfold ze6 at c;obtain⟨e,f⟩:=zd1.1 c;simp only[zYD,e,f,cT,p0,zbO]}
def zRC:vP 334 zrC:=kF2 zKl zq zu zn (zo []) zY5
def zMt (N:Nat)(b:aA)(a:Int):OA:=
 let c:=zdk b; (oN (zen b)<|oN (zbi a<|ln b.ay)<|cond (zbX a<|ln b.ay) (oN (zbi a<|ln b.az)<|cond (zbX a<|ln b.az) (oN (inb a<|ln c.ay)<|p0 (up c.ay a false) λd=>oN zbO<|oN (inb a<|ln c.az)<|p0 (up c.az a zbm) λe=>some [aT .kept (⟨d,e⟩:aA)])<|some [aT .kept c])<|some [aT .kept c])
def zYL (a:aA)(b:Int)(c:zc0 a b=true):∃N,zMt N a b=some [aT .kept<|zeO a b]:=by
 have d:=zF.1 c;refine⟨0,?_⟩;unfold zMt zeO oN;conv=>zeta
 refine i0 (zbv d) (i0 rfl ?_);unfold zct ze6;simp only[zbX,zbi,zdk,zYD,p0,zbO,cT];cases j0 b (ln a.ay);{rfl};{cases j0 b (ln a.az)<;>rfl}
def zQ9:vP 305 zrC:=kF2 zKl zq zu zn (zo []) zYL
def zbbD:zbb:=[(334,zrC),(305,zrC)]++zbbC
def zwo:zN zbbD:=zh zRC (zh zQ9 zKl)
def zf4 (k:aA)(l:LI):aA:=l.foldl zct k
def z3D:∀(l:LI) {k:aA},SmK k->SmK (zf4 k l)
 |[],_,h=>h
 |p::l,k,h=>z3D l (zoY (p:=p) h)
def zBu {b:Type}(K:List Bool×List k0->Option b):∀(l:LI) (i:Nat) (k:aA),SmK k->
 goL (λ_ x (t:List Bool×List k0) a=>bif pc (SmK ⟨t.1,t.2⟩) then a ((zct ⟨t.1,t.2⟩ x).ay,(zct ⟨t.1,t.2⟩ x).az) else none) K l i (k.ay,k.az)=K ((zf4 k l).ay,(zf4 k l).az)
 |[],_,_,_=>rfl
 |x::l,i,k,h=>by have e:pc (SmK ⟨k.ay,k.az⟩)=true:=zbv h;simp only[goL,e,cT];exact zBu K l (i+1) (zct k x) (zoY h)
def zGo (l:List k0)(p:Int):LI:=idxs (λ(s:k0)=>ieq s.af p) l 0
def zl9 (k:aA)(l:List k0)(p:Int):aA:=zf4 k (zGo l p)
def zbaF {k:aA}(l:List k0)(p:Int)(h:SmK k):SmK (zl9 k l p):=z3D _ h
@[simp] abbrev zgA (k:aA)(l:List k0)(p:Int):Bool:=pc (SmK k/\l.length<=1048576)
@[simp] abbrev zlE (k:aA)(l:List k0)(p:Int):aA:=zl9 k l p
def zmn:Run:=rF3 (dT .kept) (dS .slot) dI λb c d=>(zgA b c d,[aT .kept<|zlE b c d])
def zzI (N:Nat)(c:aA)(e:lS)(f:Int):OA:=
 (oN (zhY c)<|oN (zr3 e f)<|q0 (σ:=(Int×LI×lB×lS×lB×lS×Unit)) N (λg a=>let d:=ix a.2.1 a.1 0;let b:=(⟨a.2.2.1,a.2.2.2.1⟩:aA); (cond (ilt a.1<|ln a.2.1) (oN (inb a.1<|ln a.2.1)<|oN (zc0 b d)<|g (zM .i64 a.1 1,a.2.1,(zeO b d).ay,(zeO b d).az,a.2.2.2.2.1,a.2.2.2.2.2.1,()))<|some [aT .kept b])) (0,zhy e f,(zeG c).ay,(zeG c).az,[],[],()))
def zMk:=zo [(445,0,{n:=27,tm:=[(3,.lp 0 0),(6,.lp 1 0),(7,.sl 0 []),(8,ti)],lo:=[(0,[.sl 1 [],.sl 2 []]),(1,[.sl 3 [],.sl 4 []])],ro:=[(0,.int,true),(1,.bool,true),(2,.slot,true),(3,.bool,true),(4,.slot,true)]})]
def zLM (b:aA)(a:List k0)(c:Int)(j:zgA b a c=true):∃N,zzI N b a c=some [aT .kept<|zlE b a c]:=by
 obtain⟨h,f⟩:=zF.1 j;have g:(zhy a c).length<=big:=qT (zwK _ a 0) (zcC f).1;refine zcf λN e=>?_;unfold zzI oN;conv=>zeta
 refine i0 (zbv<|(zzN _).2 h) (i0 (zbv (by omega)) ?_);refine(zbp (zhy a c) (λi (t:lB×lS)=>((i:Int),zhy a c,t.1,t.2,[],[],())) _ (λ_ (x:Int) (t:List Bool×List k0) k=>bif pc (SmK ⟨t.1,t.2⟩) then k ((zct ⟨t.1,t.2⟩ x).ay,(zct ⟨t.1,t.2⟩ x).az) else none) (λ(t:lB×lS)=>some [.agg<|Ty.cells .kept (⟨t.1,t.2⟩:aA)]) (λi d t rec=>?_) (λt rec=>?_) _ ((zeG b).ay,(zeG b).az)<|e g).trans ?_;{simp only [zbw d,zbc d,zbn d,zbj d g,cT]};{simp only [zbq,cF]};exact zBu _ _ 0 b h
def zFq:vP 445 zmn:=kF3 zwo zq zu zn zMk zLM
def zzx (N:Nat)(c:aA)(d:lS)(e:Int):OA:=
 (oN (zen c)<|oN (zr3 d e)<|q0 (σ:=(Int×Int×LI×lB×lS×lB×lS×Unit)) N (λg a=>let f:=ix a.2.2.1 a.2.1 0;let b:=(⟨a.2.2.2.2.2.1,a.2.2.2.2.2.2.1⟩:aA); (cond (ilt a.2.1 a.1) (oN (inb a.2.1<|ln a.2.2.1)<|oN (zc0 b f)<|g (a.1,zM .i64 a.2.1 1,a.2.2.1,a.2.2.2.1,a.2.2.2.2.1,(zeO b f).ay,(zeO b f).az,()))<|some [aT .kept b])) (ln<|zhy d e,0,zhy d e,[],[],(zdk c).ay,(zdk c).az,()))
def zMf:=zo [(430,0,{n:=25,tm:=[(6,.lp 0 0),(7,.lp 1 0),(14,.sl 0 []),(15,ti),(16,ti)],lo:=[(0,[.sl 1 [],.sl 2 []]),(1,[.sl 3 [],.sl 4 []])],ro:=[(0,.int,true),(1,.bool,true),(2,.slot,true),(3,.bool,true),(4,.slot,true)]})]
def zLB (c:aA)(a:List k0)(b:Int)(j:zgA c a b=true):∃N,zzx N c a b=some [aT .kept<|zlE c a b]:=by
 obtain⟨h,f⟩:=zF.1 j;have g:(zhy a b).length<=big:=qT (zwK _ a 0) (zcC f).1;refine zcf λN e=>?_;unfold zzx oN;conv=>zeta
 refine i0 (zbv h) (i0 (zbv (by omega)) ?_);refine(zbp (zhy a b) (λi (t:lB×lS)=>(ln<|zhy a b,(i:Int),zhy a b,[],[],t.1,t.2,())) _ (λ_ (x:Int) (t:List Bool×List k0) k=>bif pc (SmK ⟨t.1,t.2⟩) then k ((zct ⟨t.1,t.2⟩ x).ay,(zct ⟨t.1,t.2⟩ x).az) else none) (λ(t:lB×lS)=>some [.agg<|Ty.cells .kept (⟨t.1,t.2⟩:aA)]) (λi d t rec=>?_) (λt rec=>?_) _ ((zdk c).ay,(zdk c).az)<|e g).trans ?_;{simp only [zbw d,zbc d,zbn d,zbj d g,cT]};{simp only [zbq,cF]};exact zBu _ _ 0 c h
def zFh:vP 430 zmn:=kF3 zwo zq zu zn zMf zLB
def flushed (l:List au)(p:Int):List au:=l.filter λe=>!ieq e.ad p
def zJb (l:List au)(p:Int):(flushed l p).length<=l.length:=u4 _ _
def zoj {b e:Type}(p:b->Bool)(K:List b->Option e):∀(l:List b) (i:Nat) (a:List b),a.length+l.length<=2147483648->
 goL (λ_ x a d=>bif p x then (cond (few<|ln<|ap a [x]) (d<|ap a [x]) none) else d a) K l i a=K (a++l.filter p)
 |[],i,a,_=>by simp[goL]
 |x::l,i,a,h=>by simp only[qY]at h;simp only[goL];cases c:p x;{rw [cF,zoj p K l (i+1) a (by omega),List.filter_cons_of_neg (by simp[c])]};{rw [cT,zh8 (by simp[ap];omega),cT,zoj p K l (i+1) _ (by simp[ap];omega),List.filter_cons_of_pos c];simp[ap]}
@[simp] abbrev zdE (l:List au)(p:Int):Bool:=pc (l.length<=1048576)
@[simp] abbrev zgc (l:List au)(p:Int):List au:=flushed l p
def znl:Run:=rF2 (dS .entry) dI λb c=>(zdE b c,[aS .entry<|zgc b c])
def zCE (N:Nat)(e:lE)(f:Int):OA:=
 (q0 (σ:=(Int×Int×lE×lE×Unit)) N (λd a=>let b:=a.2.2.1;let c:=ix b a.2.1 zfW; (cond (ilt a.2.1<|ln b) (oN (inb a.2.1<|ln b)<|cond (ine c.ad a.1) (oN (inb a.2.1<|ln b)<|oN (few<|ln<|ap a.2.2.2.1 [c])<|d (a.1,zM .i64 a.2.1 1,b,ap a.2.2.2.1 [c],()))<|d (a.1,zM .i64 a.2.1 1,b,a.2.2.2.1,()))<|some [aS .entry a.2.2.2.1])) (f,0,e,[],()))
def zQu:=zo [(446,0,{n:=29,tm:=[(0,.sl 0 []),(1,ti),(5,.sl 1 []),(6,ti)],lo:=[],ro:=[(0,.entry,false),(1,.entry,true)]})]
def zPd (a:List au)(b:Int)(h:zdE a b=true):∃N,zCE N a b=some [aS .entry<|zgc a b]:=by
 have j:=zF.1 h;have f:=zcC j;refine zcf λN d=>?_;unfold zCE oN;conv=>zeta
 refine(zbp a (λi (t:lE)=>(b,(i:Int),a,t,())) _ (λ_ (x:au) (t:List au) g=>bif !ieq x.ad b then (cond (few<|ln<|ap t [x]) (g<|ap t [x]) none) else g t) (λ(t:lE)=>some [.one<|.s .entry t]) (λi c t rec=>?_) (λt rec=>?_) _ ([])<|d f.1).trans ?_;{simp only [zbw c,zbc c,zbn c,zbj c f.1,cT];rfl};{simp only [zbq,cF]};exact zoj (λe=>!ieq e.ad b) _ a 0 [] (by simpa using f.2)
def zHl:vP 446 znl:=kF2 zwo zq zu zn zQu zPd
def zCl (N:Nat)(d:lE)(f:Int):OA:=
 (q0 (σ:=(Int×Int×Int×lE×lE×Unit)) N (λe a=>let b:=a.2.2.2.2.1;let c:=ix b a.2.1 zfW; (cond (ilt a.2.1 a.1) (oN (inb a.2.1<|ln b)<|cond (nB<|ieq c.ad a.2.2.1) (oN (few<|ln<|ap a.2.2.2.1 [c])<|e (a.1,zM .i64 a.2.1 1,a.2.2.1,ap a.2.2.2.1 [c],b,()))<|e (a.1,zM .i64 a.2.1 1,a.2.2.1,a.2.2.2.1,b,()))<|some [aS .entry a.2.2.2.1])) (ln d,0,f,[],d,()))
def zQi:=zo [(418,0,{n:=25,tm:=[(1,.fn 467 [0]),(5,.sl 0 []),(9,.sl 1 []),(10,ti),(11,ti)],lo:=[(0,[ti])],ro:=[(0,.entry,true),(1,.entry,false)]})]
def zOT (a:List au)(b:Int)(h:zdE a b=true):∃N,zCl N a b=some [aS .entry<|zgc a b]:=by
 have j:=zF.1 h;have f:=zcC j;refine zcf λN d=>?_;unfold zCl oN nB;conv=>zeta
 refine(zbp a (λi (t:lE)=>(ln a,(i:Int),b,t,a,())) _ (λ_ (x:au) (t:List au) g=>bif !ieq x.ad b then (cond (few<|ln<|ap t [x]) (g<|ap t [x]) none) else g t) (λ(t:lE)=>some [.one<|.s .entry t]) (λi c t rec=>?_) (λt rec=>?_) _ ([])<|d f.1).trans ?_;{simp only [zbw c,zbc c,zbn c,zbj c f.1,cT];cases ieq a[i].ad b<;>rfl};{simp only [zbq,cF]};exact zoj (λe=>!ieq e.ad b) _ a 0 [] (by simpa using f.2)
def zG2:vP 431 znl:=kF2 zwo zq zu zn zQi zOT
def z4h:zbb:=[(445,zmn),(430,zmn),(446,znl),(431,znl)]++zbbD
def zBk:zN z4h:=zh zFq (zh zFh<|zh zHl<|zh zG2 zwo)
def zmB (b:List ah)(p:Int):Nat->List aA->List aA
 | 0,a=>a
 |n+1,a=>up (zmB b p n a) (n:Int) (zl9 (ix (zmB b p n a) (n:Int) zec) (ix b (n:Int) zA).ax p)
def zqv (b:List ah)(p:Int):∀(n:Nat) (a:List aA),(zmB b p n a).length=a.length
 | 0,_=>rfl
 |n+1,a=>by simp only[zmB,zfB];exact zqv b p n a
def zus (b:List ah)(p:Int):∀(n:Nat) (a:List aA),n<=a.length->zEI a->zEI (zmB b p n a)
 | 0,_,_,h=>h
 |n+1,a,e,h=>by have d:=zus b p n a (by omega) h;have c:n<(zmB b p n a).length:=(by rw[zqv];omega);exact zv9 d (zbaF _ _ (by rw[zbn c];exact d.2 _ (jI c)))
def zkb (x:Mon)(p:Int)(n:Nat):Mon:={x with ak:=zmB x.ac p n x.ak}
def z8L {x:Mon}{p:Int}{n:Nat}(a:n<=x.ak.length)(h:zfJ x):zfJ (zkb x p n):=⟨h.1,h.2.1,h.2.2.1,h.2.2.2.1,h.2.2.2.2.1,zus _ _ _ _ a h.2.2.2.2.2⟩
def zcD (h:ad)(m p:Int)(s:k0):ad :=
 bif ine (ix (ix h.aa m zi).ae p zX).af (-1)
 then ⟨h.ag,up h.aa m {zkb (ix h.aa m zi) p (ix h.aa m zi).ak.length with ae:=up (ix h.aa m zi).ae p s},flushed h.ao (ix (ix h.aa m zi).ae p zX).af,flushed h.am (ix (ix h.aa m zi).ae p zX).af⟩
 else ⟨h.ag,up h.aa m {zkb (ix h.aa m zi) p (ix h.aa m zi).ak.length with ae:=up (ix h.aa m zi).ae p s},h.ao,h.am⟩
def zbd9 (h:ad)(m p:Int):Prop:=j0 m (ln h.aa)=true/\j0 p (ln (ix h.aa m zi).ae)=true/\(ix h.aa m zi).ak.length<=(ix h.aa m zi).ac.length
@[simp] abbrev zgN (h:ad)(m p:Int)(s:k0):Bool:=pc (zdJ h/\zbd9 h m p)
@[simp] abbrev zjm (h:ad)(m p:Int)(s:k0):ad:=zcD h m p s
def zuW:LW
 |[.agg [.s (.sl .int) b,.s .mon c,.s .entry d,.s .entry e],.one<|.i .i64 f,.one<|.i .i64 g,.agg [.i .i64 h,.i .i64 j]]=>some (zgN (⟨b,c,d,e⟩:ad) f g (⟨h,j⟩:k0),[aH<|zjm (⟨b,c,d,e⟩:ad) f g (⟨h,j⟩:k0)])
 |_=>none
def zyW (N:Nat)(p:ad)(g z:Int)(B:k0):OA:=
 let v:=ix p.aa g zi; (oN (inb g<|ln p.aa)<|oN (inb z<|ln v.ae)<|q0 (σ:=(Int×Int×Int×Int×Int×Int×Int×Int×Int×Int×Int×Int×Int×Int×Int×lM×lN×lE×lE×lM×lN×lE×lE×Unit)) N (λD a=>let d:=a.2.2.1;let m:=a.2.2.2.2.2.2.2.2.2.2.2.1;let l:=a.2.2.2.2.2.2.2.2.2.2.2.2.1;let k:=a.2.2.2.2.2.2.2.2.2.2.2.2.2.2.1;let j:=a.2.2.2.2.2.2.2.2.2.2.2.2.2.2.2.1;let f:=a.2.2.2.2.2.2.2.1;let e:=a.2.2.2.2.2.2.2.2.1;let c:=a.2.2.2.1;let w:=a.2.2.2.2.2.2.2.2.2.2.1;let y:=a.2.2.2.2.2.2.2.2.2.2.2.2.2.2.2.2.2.1;let x:=a.2.2.2.2.2.2.2.2.2.2.2.2.2.2.2.2.2.2.1;let n:=a.2.2.2.2.2.2.1;let r:=a.2.2.2.2.2.2.2.2.2.1;let i:=a.2.2.2.2.2.2.2.2.2.2.2.2.2.1;let q:=a.2.2.2.2.2.2.2.2.2.2.2.2.2.2.2.2.1;let u:=(ix q r zi).ac;let t:=(ix u c zA).ax;let h:=ix q n zi;let s:=(ix q i zi).ak;let C:=up q n ({h with ae:=(up h.ae a.2.1 (⟨a.2.2.2.2.1,a.2.2.2.2.2.1⟩:k0))}:Mon); (cond (ilt c<|ln s) (oN (inb c<|ln s)<|oN (inb c<|ln u)<|oN (zgA (ix s c zec) t a.2.1)<|oN (inb c<|ln s)<|p0 (up q i ({ (ix q i zi) with ak:=(up s c<|zlE (ix s c zec) t a.2.1)}:Mon)) λb=>D (a.1,a.2.1,d,zM .i64 c 1,a.2.2.2.2.1,a.2.2.2.2.2.1,n,f,e,r,w,m,l,i,k,j,b,y,x,a.2.2.2.2.2.2.2.2.2.2.2.2.2.2.2.2.2.2.2.1,a.2.2.2.2.2.2.2.2.2.2.2.2.2.2.2.2.2.2.2.2.1,a.2.2.2.2.2.2.2.2.2.2.2.2.2.2.2.2.2.2.2.2.2.1,a.2.2.2.2.2.2.2.2.2.2.2.2.2.2.2.2.2.2.2.2.2.2.1,()))<|cond (ine d<|-1) (oN (zdE y d)<|oN (zdE x d)<|oN (inb a.2.1<|ln h.ae)<|p0 C λb=>oN (inb a.1<|ln b)<|oN (cond (cond (cond (cond (cond (cond (ieq i a.1) true false) (cond (ieq w a.1) true false) false) (cond (ieq r a.1) true false) false) (cond (ieq e a.1) true false) false) (cond (ieq f a.1) true false) false) (cond (ieq n a.1) true false) false)<|p0 (up b a.1 ({ (ix b n zi) with Out:=(ix b f zi).Out,av:=(ix b e zi).av,ac:=(ix b r zi).ac,Outs:=(ix b w zi).Outs,aj:=m,aq:=l,ak:=(ix b i zi).ak,Own:=k}:Mon)) λA=>some [aH (⟨j,A,zgc y d,zgc x d⟩:ad)])<|oN (inb a.2.1<|ln h.ae)<|p0 C λb=>oN (inb a.1<|ln b)<|oN (cond (cond (cond (cond (cond (cond (ieq i a.1) true false) (cond (ieq w a.1) true false) false) (cond (ieq r a.1) true false) false) (cond (ieq e a.1) true false) false) (cond (ieq f a.1) true false) false) (cond (ieq n a.1) true false) false)<|p0 (up b a.1 ({ (ix b n zi) with Out:=(ix b f zi).Out,av:=(ix b e zi).av,ac:=(ix b r zi).ac,Outs:=(ix b w zi).Outs,aj:=m,aq:=l,ak:=(ix b i zi).ak,Own:=k}:Mon)) λA=>some [aH (⟨j,A,y,x⟩:ad)])) (g,z,(ix v.ae z zX).af,0,B.af,B.an,g,g,g,g,g,v.aj,v.aq,g,v.Own,p.ag,p.aa,p.ao,p.am,[],[],[],[],()))
def zXc:=zo [(362,0,{n:=70,tm:=[(1,ti),(2,ti),(4,.lp 0 0),(7,.lp 1 0),(8,.lp 2 0),(9,.lp 3 0),(10,ti),(11,ti)],lo:=[(0,[.sl 0 [],.sl 1 [],.sl 2 [],.sl 3 []]),(1,[ti,ti]),(2,[.sl 4 [],.sl 5 [],.sl 6 [],.sl 7 []]),(3,[.sl 1 [0],.sl 1 [1],.sl 1 [2],.sl 1 [3],.sl 1 [4],ti,ti,.sl 1 [7],ti])],ro:=[(0,.sl .int,true),(1,.mon,true),(2,.entry,true),(3,.entry,true),(4,.sl .int,true),(5,.mon,true),(6,.entry,true),(7,.entry,true)]})]
def zZy (N:Nat)(a:ad)(b c:Int)(d:k0):zGy (cQ z4h zo6 zBQ zMe) zXc N 12 362 [true,true,true,true,false,false,false,false] 1 1 [[0],[1],[2],[4],[7]] .mon [aH a,aI b,aI c,aT .slot d]=zyW N a b c d:=by kernel_rfl
def zWG (a:ad)(f b:Int)(d:k0)(D:zbE big [aH a,aI f,aI b,aT .slot d])(y:zgN a f b d=true):∃N,zyW N a f b d=some [aH<|zjm a f b d]:=by
 obtain⟨B,g,s,C⟩:=zF.1 y;have l:=(zQ a).1 B;have r:zfJ (ix a.aa f zi):=l.2.1.2 _ (zbJ g _);obtain⟨k,rfl,q⟩:=zeK (n:=a.aa.length) g;have x:=(zcC r.2.2.2.2.2.1).1;refine zcf λN p=>?_;unfold zyW oN;conv=>zeta
 refine i0 g (i0 s ?_);refine zsN (ix a.aa (k:Int) zi).ak.length (λi (t:List Mon)=>((k:Int),b,(ix (ix a.aa (k:Int) zi).ae b zX).af,(i:Int),d.af,d.an,(k:Int),(k:Int),(k:Int),(k:Int),(k:Int),(ix a.aa (k:Int) zi).aj,(ix a.aa (k:Int) zi).aq,(k:Int),(ix a.aa (k:Int) zi).Own,a.ag,t,a.ao,a.am,[],[],[],[],())) _
  (λi t=>t=up a.aa (k:Int) (zkb (ix a.aa (k:Int) zi) b i)) (λ_ _=>some [AV.agg<|zbl<|zcD a (k:Int) b d]) (λi t rec u m A=>?_) (λt rec m=>?_) _ 0 a.aa ?_ (j7 _) ?_
 .subst m;have c:i<(zmB (ix a.aa (k:Int) zi).ac b i (ix a.aa (k:Int) zi).ak).length:=(by rw[zqv];exact u);have e:i<(ix a.aa (k:Int) zi).ac.length:=by omega
  have z:zgA (ix (zmB (ix a.aa (k:Int) zi).ac b i (ix a.aa (k:Int) zi).ak) (i:Int) zec) (ix (ix a.aa (k:Int) zi).ac (i:Int) zA).ax b=true :=
   zbv ⟨by rw[zbn c];exact(zus _ _ _ _ (by omega) r.2.2.2.2.2).2 _ (jI c),by rw[zbn e];exact(r.2.2.2.1.2 _<|jI e).2.2.1⟩
  simp only[zee q,zsv,zkb,zbw c,zbc c,zbc e,z,cT,p0,zbj u x];exact A _ rfl
 {subst m;simp only[zee q,zsv,zfB,zkb,ln,zqv,zcX,show ilt (((ix a.aa (k:Int) zi).ak.length:Nat):Int) (((ix a.aa (k:Int) zi).ak.length:Nat):Int)=false from qH (by omega),cT,cF,p0];have h:inb (k:Int) ((a.aa.length:Nat):Int)=true:=g;have j:inb b (((ix a.aa (k:Int) zi).ae.length:Nat):Int)=true:=s;have v:zdE a.ao (ix (ix a.aa (k:Int) zi).ae b zX).af=true:=zbv l.2.2.1;have w:zdE a.am (ix (ix a.aa (k:Int) zi).ae b zX).af=true:=zbv l.2.2.2;simp only[h,j,v,w,cT];unfold zcD;cases ine (ix (ix a.aa (k:Int) zi).ae b zX).af (-1)<;>rfl};{exact(zGY q _).symm};{exact p (by omega)}
def zOH:zfg Tryz.prog 362 [true,true,true,true,false,false,false,false] (some (1,1,[[0],[1],[2],[4],[7]])) zuW:=by refine zol (kt:=.mon) (zis zBk zq zu zn) (ziX (by kernel_rfl)) (by kernel_rfl) ?_;intro a g f e h;have c:=zlk e;unfold zuW at h;split at h;{obtain⟨d,rfl⟩:=zd4 h;obtain⟨N,b⟩:=zWG _ _ _ _ (by exact c) d;exact⟨⟨_,rfl⟩,rfl,_,N,12,(zZy N _ _ _ _ ).trans b⟩};{cases h}
def z0B:zgr:=[(362,[true,true,true,true,false,false,false,false],some (1,1,[[0],[1],[2],[4],[7]]),zuW)]++zMe
def zd5:zfh z0B:=zqx zn (by
 intro x a;simp only[qG,qN,or_false]at a;rcases a with rfl
 .exact zOH)
def zGm (x:Mon)(p:Int):Mon:={x with av:=up x.av p false}
def grd (x:Mon)(p:Int):Mon:={x with ae:=up x.ae p ⟨(ix x.ae p zX).af,1⟩}
def zm6 (h:ad)(m p:Int):ad:={h with aa:=up h.aa m (zGm (ix h.aa m zi) p)}
def znB (h:ad)(m p:Int):ad:=bif zbP h m p then (cond (zdz (ix (ix h.aa m zi).ae p zX) A0) (zm6 h m p)<|zcD (zm6 h m p) m p ⟨(ix (ix h.aa m zi).ae p zX).af,1⟩) else h
def zBz:∀(l:List Mon) (u:List Bool),zlo l u=true->∀x∈l,zfQ x=true
 |[],_,_,x,a=>by cases a
 |m::l,u,h,x,a=>by
  simp only[zlo]at h;cases b:zfQ m;{rw [b]at h;cases h}
  .rw [b]at h;simp only[cT]at h;cases c:ziT m.ae u with
   |none=>rw[c]at h;cases h
   |some d =>rw[c]at h;rcases qG.1 a with rfl|a;{exact b};{exact zBz l d h x a}
structure PageAt (h:ad) (m p:Int):Prop where
 hm:j0 m (ln h.aa)=true
 hp:j0 p 8=true
 ok:zfQ (ix h.aa m zi)=true
 ho:(ix h.aa m zi).ae.length=8
 hd:(ix h.aa m zi).av.length=8
 ht:(ix h.aa m zi).ak.length=(ix h.aa m zi).ac.length
 hs:zdz (ix (ix h.aa m zi).ae p zX) A0=ieq (ix (ix h.aa m zi).ae p zX).af (-1)
def zU6 {s:k0}{n:Int}(h:zfZ s n=true):zdz s A0=ieq s.af (-1):=by unfold zfZ at h;cases a:zdz s A0;{rw [a]at h;cases d:ieq s.af (-1);{rfl};{have e:s.af = -1:=qD d;cases b:igt n 0;{rw [b]at h;cases h};{cases c:zl s.af 0 (wsub .i64 n 1);{rw [b,c]at h;cases h};{have:=(zff.1 c).1;omega}}}};{unfold zdz at a;rw[qE]at a;exact a.1.symm}
def zBO {h:ad}{m p:Int}(d:zbP h m p=true):PageAt h m p:=by unfold zbP at d;simp only[zd1]at d;obtain⟨c,f,g⟩:=d;unfold zbW at c;simp only[zd1]at c;have b:=zBz _ _ c.2.2.2.2 _ (zbJ f zi);have a:=b;unfold zfQ at a;simp only[zd1]at a;have i:(ix h.aa m zi).ae.length=8:=(by have:=zut a.2.2.1;simp only[ln] at this;omega);refine⟨f,g,b,i,?_,?_,?_⟩;{have:ln (ix h.aa m zi).av=8:=qD a.2.2.2.2.1;simp only[ln] at this;omega};{have:ln (ix h.aa m zi).ak=ln (ix h.aa m zi).ac:=qD a.2.1;simp only[ln] at this;omega};{have e:=a.2.2.1;unfold zek at e;simp only[zd1]at e;have j:j0 p (ln (ix h.aa m zi).ae)=true:=(by rw[ln,i];exact g);exact zU6 (qP.1 e.1 _<|zbJ j _)}
def zGd {x:Mon}{p:Int}(h:zfJ x):zfJ (zGm x p):=⟨h.1,h.2.1,by simpa [zGm] using h.2.2.1,h.2.2.2⟩
def zCb {h:ad}{m p:Int}(b:j0 m (ln h.aa)=true)(a:SmH h):SmH (zm6 h m p):=⟨a.1,zkO a.2.1<|zGd<|a.2.1.2 _<|zbJ b _,a.2.2⟩
def zJQ {h:ad}{m p:Int}{s:k0}(d:j0 m (ln h.aa)=true)(a:SmH h):SmH (zcD h m p s):=by have c:=a.2.1.2 _ (zbJ d zi);have e:=z8L (p:=p) (qX _) c;have b:zqW (up h.aa m {zkb (ix h.aa m zi) p (ix h.aa m zi).ak.length with ae:=up (ix h.aa m zi).ae p s}):=zkO a.2.1 ⟨by simpa using c.1,e.2⟩;unfold zcD;cases ine (ix (ix h.aa m zi).ae p zX).af (-1);{exact⟨a.1,b,a.2.2⟩};{exact⟨a.1,b,qT (zJb _ _) a.2.2.1,qT (zJb _ _) a.2.2.2⟩}
def zCe {h:ad}{m p:Int}(a:j0 m (ln h.aa)=true):j0 m (ln (zm6 h m p).aa)=true:=by unfold zm6;simpa [ln] using a
def z8H {h:ad}{m p:Int}(a:SmH h):SmH (znB h m p):=by unfold znB;cases b:zbP h m p;{exact a};{have P:=zBO b;cases zdz (ix (ix h.aa m zi).ae p zX) A0;{exact zJQ (zCe P.hm) (zCb P.hm a)};{exact zCb P.hm a}}
@[simp] abbrev zfd (h:ad)(m p:Int):Bool:=pc (zdJ h)
@[simp] abbrev zkG (h:ad)(m p:Int):ad:=znB h m p
def zJA:Run:=rF3 dH dI dI λb c d=>(zfd b c d,[aH<|zkG b c d,aB<|zeA b c d])
def zT3 (N:Nat)(h:ad)(a b:Int):OA:=
 let c:=zk h;let g:=ix c.aa a zi; (oN (zS h)<|oN (zjl c a b)<|cond (nB<|zeA c a b) (some [aH c,aB false])<|oN (inb a<|ln c.aa)<|oN (inb b<|ln g.av)<|p0 (up c.aa a ({g with av:=(up g.av b false)}:Mon)) (λd=>let i:=(ix d a zi).ae;let f:=({c with aa:=d}:ad);let e:=ix i b zX;let j:=({e with an:=1}:k0); (oN (inb a<|ln d)<|oN (inb b<|ln i)<|oN zbO<|cond (cond (ieq e.af zbm.af) (ieq e.an zbm.an) false) (some [aH f,aB true])<|oN (zgN f a b j)<|some [aH<|zjm f a b j,aB true])))
def z1K (a:ad)(c b:Int)(j:zfd a c b=true):∃N,zT3 N a c b=some [aH<|zkG a c b,aB<|zeA a c b]:=by
 have g:=zF.1 j;have i:=(zQ a).1 g;refine⟨0,?_⟩;unfold zT3 zkG zeA znB oN nB;conv=>zeta
 refine i0 (zbv g) (i0 rfl ?_);cases f:zbP a c b;{simp only [zeA,zk,f,cF,cT]};{have P:=zBO f;obtain⟨k,rfl,d⟩:=zeK (n:=a.aa.length) P.hm;simp only[zeA,zk,f,cT,cF];have l:inb b (ln (ix a.aa (k:Int) zi).av)=true:=(by rw[ln,P.hd];exact P.hp);have h:inb b (ln (ix a.aa (k:Int) zi).ae)=true:=(by rw[ln,P.ho];exact P.hp);refine i0 P.hm (i0 l ?_);simp only[p0,zee d,h,cT,zbO,zbm];refine i0 (zCe (p:=b) P.hm) ?_;have e:∀s:k0,zdz s A0=bif ieq s.af A0.af then ieq s.an A0.an else false:=λs=>(by unfold zdz;cases ieq s.af A0.af<;>rfl);rw[<- e];cases zdz (ix (ix a.aa (k:Int) zi).ae b zX) A0;{refine zb9 rfl (i0 (zbv ⟨(zQ _).2 (zCb P.hm i),zCe (p:=b) P.hm,?_,?_⟩) rfl);{simp only [zee d];exact h};{simp only [zee d];exact uD P.ht}};{rfl}}
def zVy:vP 329 zJA:=kF3 zBk zq zu zd5 (zo []) z1K
@[simp] abbrev zx4 (h:ad)(m p:Int):Bool:=zbP h m p
def zJx:Run:=rF3 dH dI dI λb c d=>(zfd b c d,[aH<|zkG b c d,aB<|zx4 b c d])
def zTR (N:Nat)(f:ad)(a c:Int):OA:=
 let d:=zk f;let g:=ix d.aa a zi;let j:=ix g.ae c zX; (oN (zS f)<|oN (zjl f a c)<|cond (nB<|zeA f a c) (some [aH d,aB false])<|oN (inb a<|ln d.aa)<|oN (inb c<|ln g.ae)<|cond (ine j.af<|-1) (oN (inb c<|ln g.ae)<|p0 (up d.aa a ({g with ae:=(up g.ae c ({j with an:=1}:k0))}:Mon)) λk=>oN (inb a<|ln k)<|oN (cond (cond (cond (ieq a a) true false) (cond (cond (ieq a a) true false) (cond (cond (ieq a a) true false) (cond (cond (ieq a a) true false) (cond (cond (ieq a a) true false) (cond (ieq a a) (cond (cond (ieq c c) (ieq a a) false) (cond (cond (ieq a a) true false) (cond (cond (ieq a a) true false) (cond (cond (ieq a a) true false) (cond (ieq a a) (cond (cond (ieq c c) (ieq a a) false) (cond (cond (ieq c c) (ieq a a) false) true false) false) false) false) false) false) false) false) false) false) false) false) false) true false)<|q0 (σ:=(Int×Int×Int×Int×Int×Int×Int×Int×lN×lM×lN×lE×lE×lM×lE×lE×lM×lN×lE×lE×Unit)) N (λv b=>let d:=b.2.2.2.2.2.2.2.2.2;let f:=d.2.2.2.2.2;let e:=b.2.2.2.2.1;let s:=b.2.2.2.2.2.2.2.2.1;let t:=d.2.2.2.2.1;let h:=b.2.2.2.1;let r:=f.1;let q:=f.2.1;let p:=ix s a zi;let u:=up s a ({p with av:=(up p.av c false)}:Mon);let i:=ix s b.2.1 zi;let n:=ix i.ak h zec;let m:=(ix i.ac h zA).ax; (cond (ilt h b.2.2.1) (oN (inb h<|ln i.ak)<|oN (inb h<|ln i.ac)<|oN (zgA n m b.1)<|oN (inb h<|ln i.ak)<|p0 (up s b.2.1 ({i with ak:=(up i.ak h<|zlE n m b.1)}:Mon)) λl=>oN (cond (cond (cond (ieq a a) true false) (cond (cond (ieq a a) true false) (cond (cond (ieq a a) true false) (cond (cond (ieq a a) true false) (cond (cond (ieq a a) true false) (cond (ieq a a) (cond (cond (ieq c c) (ieq a a) false) (cond (cond (ieq a a) true false) (cond (cond (ieq a a) true false) (cond (cond (ieq a a) true false) (cond (ieq a a) (cond (cond (ieq c c) (ieq a a) false) (cond (cond (ieq c c) (ieq a a) false) true false) false) false) false) false) false) false) false) false) false) false) false) false) true false)<|v (b.1,b.2.1,b.2.2.1,zM .i64 h 1,e,b.2.2.2.2.2.1,b.2.2.2.2.2.2.1,b.2.2.2.2.2.2.2.1,l,d.1,d.2.1,d.2.2.1,d.2.2.2.1,t,r,q,f.2.2.1,f.2.2.2.1,f.2.2.2.2.1,f.2.2.2.2.2.1,()))<|cond (ine e<|-1) (oN (zdE r e)<|oN (zdE q e)<|oN (inb c<|ln p.av)<|p0 u λl=>some [aH (⟨t,l,zgc r e,zgc q e⟩:ad),aB true])<|oN (inb c<|ln p.av)<|p0 u λl=>some [aH (⟨t,l,r,q⟩:ad),aB true])) (c,a,ln (ix k a zi).ac,0,j.af,j.an,j.af,j.an,k,f.ag,f.aa,f.ao,f.am,d.ag,d.ao,d.am,[],[],[],[],()))<|oN (inb c<|ln g.av)<|p0 (up d.aa a ({g with av:=(up g.av c false)}:Mon)) λk=>some [aH ({d with aa:=k}:ad),aB true])
def z2D:=zo [(325,0,{n:=71,tm:=[(0,.lp 0 0),(2,ti),(7,.lp 1 0),(8,.ep 0 [] 0),(20,ti),(21,ti)],lo:=[(0,[.sl 5 [],.sl 0 [],.sl 6 [],.sl 7 []]),(1,[ti,ti]),(2,[.sl 1 [],.sl 2 [],.sl 3 [],.sl 4 []]),(3,[.sl 8 [],.sl 9 [],.sl 10 [],.sl 11 []]),(4,[ti,ti])],ro:=[(0,.mon,true),(1,.sl .int,false),(2,.mon,false),(3,.entry,false),(4,.entry,false),(5,.sl .int,true),(6,.entry,true),(7,.entry,true),(8,.sl .int,true),(9,.mon,true),(10,.entry,true),(11,.entry,true)],sk:=[(0,0,0,.sl 1 []),(0,0,1,.sl 2 []),(0,0,2,.sl 3 []),(0,0,3,.sl 4 []),(0,3,0,.lp 2 0),(0,6,0,.lp 3 0),(0,10,0,.lp 4 0),(0,12,0,.sl 5 []),(0,12,2,.sl 6 []),(0,12,3,.sl 7 [])]})]
def z1A (a:ad)(d c:Int)(z:zfd a d c=true):∃N,zTR N a d c=some [aH<|zkG a d c,aB<|zx4 a d c]:=by
 have s:=zF.1 z;have l:=(zQ a).1 s;refine zcf λN p=>?_;unfold zTR zkG zx4 znB oN nB;conv=>zeta
 refine i0 (zbv s) (i0 rfl ?_);rw[show zeA a d c=zbP a d c from rfl];cases B:zbP a d c;{rfl}
 .have P:=zBO B;have r:zfJ (ix a.aa d zi):=l.2.1.2 _ (zbJ P.hm _);obtain⟨k,rfl,q⟩:=zeK (n:=a.aa.length) P.hm;have u:inb c (ln (ix a.aa (k:Int) zi).av)=true:=(by rw[ln,P.hd];exact P.hp);have v:inb c (ln (ix a.aa (k:Int) zi).ae)=true:=(by rw[ln,P.ho];exact P.hp);have y:=(zcC r.2.2.2.2.2.1).1;refine zb9 rfl ?_;rw[P.hs];refine i0 P.hm (i0 v ?_);cases h:ieq (ix (ix a.aa (k:Int) zi).ae c zX).af (-1)
  .have hpg2:ine (ix (ix a.aa (k:Int) zi).ae c zX).af (-1)=true:=(by rw[zjw];exact congrArg not h);refine i0 hpg2 (i0 v ?_);simp only[p0];refine i0 (by simp only[ln,zfB];exact P.hm) ?_
   simp only[zcX,cT,zk];refine zsN (ix a.aa (k:Int) zi).ac.length (λi (t:List Mon)=>(c,(k:Int),ln (ix (up a.aa (k:Int)<|grd (ix a.aa (k:Int) zi) c) (k:Int) zi).ac,(i:Int),(ix (ix a.aa (k:Int) zi).ae c zX).af,(ix (ix a.aa (k:Int) zi).ae c zX).an,(ix (ix a.aa (k:Int) zi).ae c zX).af,(ix (ix a.aa (k:Int) zi).ae c zX).an,t,a.ag,a.aa,a.ao,a.am,a.ag,a.ao,a.am,[],[],[],[],())) _
    (λi t=>t=up a.aa (k:Int) (zkb (grd (ix a.aa (k:Int) zi) c) c i)) (λ_ _=>some [AV.agg<|zbl<|zcD (zm6 a (k:Int) c) (k:Int) c ⟨(ix (ix a.aa (k:Int) zi).ae c zX).af,1⟩,AV.one<|.b true]) (λi t rec f m C=>?_) (λt rec m=>?_) _ 0 (up a.aa (k:Int)<|grd (ix a.aa (k:Int) zi) c) rfl (j7 _) ?_
   .subst m;have g:i<(ix a.aa (k:Int) zi).ak.length:=(by rw[P.ht];exact f);have e:i<(zmB (ix a.aa (k:Int) zi).ac c i (ix a.aa (k:Int) zi).ak).length:=by rw[zqv];exact g
    have A:zgA (ix (zmB (ix a.aa (k:Int) zi).ac c i (ix a.aa (k:Int) zi).ak) (i:Int) zec) (ix (ix a.aa (k:Int) zi).ac (i:Int) zA).ax c=true :=
     zbv ⟨by rw[zbn e];exact(zus _ _ _ _ (by omega) r.2.2.2.2.2).2 _ (jI e),by rw[zbn f];exact(r.2.2.2.1.2 _<|jI f).2.2.1⟩
    simp only[zee q,zsv,zkb,grd,zbw f,zbc e,zbc f,A,cT,p0,zbj g y];have j:=C _ rfl;simp only[zee q,zkb,grd]at j;exact j
   {subst m;have w:zdE a.ao (ix (ix a.aa (k:Int) zi).ae c zX).af=true:=zbv l.2.2.1;have x:zdE a.am (ix (ix a.aa (k:Int) zi).ae c zX).af=true:=zbv l.2.2.2;unfold zcD zm6 zGm;simp only[zee q,zsv,zkb,grd,zbq,hpg2,w,x,u,P.ht,p0,cT,cF]};{exact p (by rw[<- P.ht];omega)}
  {refine zb9 (by rw[zjw];exact congrArg not h) (i0 u ?_);rfl}
def zVm:vP 137 zJx:=kF3 zBk zq zu zd5 z2D z1A
def z6W:zbb:=[(329,zJA),(137,zJx)]++z4h
def z6X:zN z6W:=zh zVy (zh zVm zBk)
def z6Y:zbb:=z6W
def zgv:zN z6Y:=z6X
def zqg (o i t:Int):Int:=bif zeT i t then 1 else (cond (zeT o t) 2 0)
@[simp] abbrev zpr (o i t:Int):Bool:=true
@[simp] abbrev zl0 (o i t:Int):Int:=zqg o i t
def zpQ:Run:=rF3 dI dI dI λb c d=>(zpr b c d,[aI<|zl0 b c d])
def zIL (N:Nat)(b c a:Int):OA:=
 (oN (zgK c a)<|cond (zf5 c a) (some [aI 1])<|oN (zgK b a)<|cond (zf5 b a) (some [aI 2])<|some [aI 0])
def zCW (a b c:Int)(d:zbE big [aI a,aI b,aI c])(e:zpr a b c=true):∃N,zIL N a b c=some [aI<|zl0 a b c]:=by refine⟨0,?_⟩;unfold zIL oN;refine i0 rfl (br (λ_=>?_) λ_=>i0 rfl (br (λ_=>?_) λ_=>?_));all_goals first|rfl|(simp only [*,zl0,zqg,cT,cF]<;>rfl)|simp_all[Ty.cells,zl0,zqg]
def zOi:vP 405 zpQ:=hF3 zgv zq zu zd5 (zo []) zCW
def zNV:vP 401 zpQ:=hF3 zgv zq zu zd5 (zo []) zCW
def has3 (p:Int):j0 p 3=zl p 0 2:=by unfold j0 zl ige ile;by_cases a:0<=p<;>by_cases b:p<3;{rw [qL (p:=0<=p/\p<3) ⟨a,b⟩,qL (p:=p≥0) a,qL (p:=p<=2) (by omega)];rfl};{rw [qH (p:=0<=p/\p<3) (by omega),qH (p:=p<=2) (by omega)];simp};{rw [qH (p:=0<=p/\p<3) (by omega),qH (p:=p≥0) (by omega)];simp};{rw [qH (p:=0<=p/\p<3) (by omega),qH (p:=p≥0) (by omega)];simp}
def has2 (p:Int):j0 p 2=zl p 0 1:=by unfold j0 zl ige ile;by_cases a:0<=p<;>by_cases b:p<2;{rw [qL (p:=0<=p/\p<2) ⟨a,b⟩,qL (p:=p≥0) a,qL (p:=p<=1) (by omega)];rfl};{rw [qH (p:=0<=p/\p<2) (by omega),qH (p:=p<=1) (by omega)];simp};{rw [qH (p:=0<=p/\p<2) (by omega),qH (p:=p≥0) (by omega)];simp};{rw [qH (p:=0<=p/\p<2) (by omega),qH (p:=p≥0) (by omega)];simp}
def zi6 (m g:Int):Int:=bif zl m 0 2 then (cond (zl g 0 1) (zM .i64 (zM .i64 1 g)<|zm8 .i64 m 2) 0) else 0
@[simp] abbrev zik (m g:Int):Bool:=true
@[simp] abbrev zlL (m g:Int):Int:=zi6 m g
def ztw:Run:=rF2 dI dI λb c=>(zik b c,[aI<|zlL b c])
def zUb (N:Nat)(a b:Int):OA:=
 (oN (zJ a 0 2)<|cond (nB<|zl a 0 2) (some [aI 0])<|oN (zJ b 0 1)<|cond (nB<|zl b 0 1) (some [aI 0])<|some [aI<|zM .i64 (zM .i64 1 b)<|zm8 .i64 a 2])
def z1R (a b:Int)(c:zik a b=true):∃N,zUb N a b=some [aI<|zlL a b]:=by refine⟨0,?_⟩;unfold zUb oN nB;refine i0 rfl (brN (λ_=>?_) λ_=>i0 rfl (brN (λ_=>?_) λ_=>?_));all_goals first|rfl|(simp only [*,zlL,zi6,cT,cF]<;>rfl)|simp_all[Ty.cells,zlL,zi6]
def zVF:vP 336 ztw:=kF2 zgv zq zu zd5 (zo []) z1R
def zTY (N:Nat)(a b:Int):OA:=
 (oN (zbi a 3)<|cond (nB<|zbX a 3) (some [aI 0])<|oN (zbi b 2)<|cond (nB<|zbX b 2) (some [aI 0])<|some [aI<|zM .i64 (zM .i64 1 b)<|zm8 .i64 a 2])
def z1H (a b:Int)(c:zik a b=true):∃N,zTY N a b=some [aI<|zlL a b]:=by refine⟨0,?_⟩;unfold zTY oN nB;refine i0 rfl (brN (λ_=>?_) λ_=>i0 rfl (brN (λ_=>?_) λ_=>?_));all_goals first|rfl|(simp only [*,zlL,zi6,has3,has2,cT,cF]<;>rfl)|simp_all[Ty.cells,zlL,zi6,has3,has2]
def zVu:vP 307 ztw:=kF2 zgv zq zu zd5 (zo []) z1H
def zri (k:aA)(p:Int):Bool:=bif ze6 k p then ix k.ay p false else false
def zhm (k:aA)(p:Int):k0:=bif zri k p then ix k.az p zX else A0
@[simp] abbrev zkm (k:aA)(p:Int):k0:=zhm k p
@[simp] abbrev zqL (k:aA)(p:Int):Bool:=zri k p
def zU2:Run:=rF2 (dT .kept) dI λb c=>(zc0 b c,[aT .slot<|zkm b c,aB<|zqL b c])
def z2O (N:Nat)(a:aA)(b:Int):OA:=
 let c:=ix a.az b zX; (oN (zc0 a b)<|cond (nB<|zk4 a b) (oN zbO<|some [.agg [.i .i64 zbm.af,.i .i64 zbm.an],aB false])<|oN (inb b<|ln a.ay)<|cond (nB<|ix a.ay b false) (oN zbO<|some [.agg [.i .i64 zbm.af,.i .i64 zbm.an],aB false])<|oN (inb b<|ln a.az)<|some [.agg [.i .i64 c.af,.i .i64 c.an],aB true])
def z7H (a:aA)(b:Int)(f:zc0 a b=true):∃N,z2O N a b=some [aT .slot<|zkm a b,aB<|zqL a b]:=by
 have g:=zF.1 f;refine⟨0,?_⟩;unfold z2O zkm zqL zhm zri oN nB;conv=>zeta
 refine i0 (zbv g) ?_;rw[show zk4 a b=ze6 a b from rfl];cases c:ze6 a b;{rfl};{unfold ze6 at c;obtain⟨d,e⟩:=zd1.1 c;simp only[zD d,zD e,cT];cases ix a.ay b false<;>rfl}
def z1x:vP 233 zU2:=kF2 zgv zq zu zd5 (zo []) z7H
@[simp] abbrev zz3 (k:aA)(p:Int):Bool:=true
def zUZ:Run:=rF2 (dT .kept) dI λb c=>(zz3 b c,[aT .slot<|zkm b c,aB<|zqL b c])
def z2K (N:Nat)(a:aA)(b:Int):OA:=
 let c:=ix a.az b zX; (oN (zbi b<|ln a.ay)<|cond (nB<|zbX b<|ln a.ay) (oN zbO<|some [.agg [.i .i64 zbm.af,.i .i64 zbm.an],aB false])<|oN (zbi b<|ln a.az)<|cond (nB<|zbX b<|ln a.az) (oN zbO<|some [.agg [.i .i64 zbm.af,.i .i64 zbm.an],aB false])<|oN (inb b<|ln a.ay)<|cond (nB<|ix a.ay b false) (oN zbO<|some [.agg [.i .i64 zbm.af,.i .i64 zbm.an],aB false])<|oN (inb b<|ln a.az)<|some [.agg [.i .i64 c.af,.i .i64 c.an],aB true])
def z7D (a:aA)(b:Int)(e:zz3 a b=true):∃N,z2K N a b=some [aT .slot<|zkm a b,aB<|zqL a b]:=by
 refine⟨0,?_⟩;unfold z2K zkm zqL zhm zri ze6 oN nB;conv=>zeta
 rw[show zbX b (ln a.ay)=j0 b (ln a.ay) from rfl,show zbX b (ln a.az)=j0 b (ln a.az) from rfl];cases c:j0 b (ln a.ay);{rfl};{cases d:j0 b (ln a.az);{rfl};{simp only [zbi,zD c,zD d,cT];cases ix a.ay b false<;>rfl}}
def z1t:vP 231 zUZ:=kF2 zgv zq zu zd5 (zo []) z7D
def filled (k:aA)(a b:List k0)(p:Int):aA:=bif ze6 k p then (cond (j0 p<|ln a) ⟨up k.ay p true,up k.az p<|zdQ (ix a p zX) b⟩ k) else k
@[simp] def z6d {k:aA}{a b:List k0}{p:Int}(h:SmK k):SmK (filled k a b p):=by unfold filled;cases ze6 k p;{exact h};{cases j0 p (ln a);{exact h};{exact⟨by simpa using h.1,by simpa using h.2⟩}}
@[simp] abbrev zw8 (k:aA)(i o:List k0)(p:Int):Bool:=pc (SmK k)
@[simp] abbrev zw7 (k:aA)(i o:List k0)(p:Int):aA:=filled k i o p
def zvG:Run:=rF4 (dT .kept) (dS .slot) (dS .slot) dI λb c d e=>(zw8 b c d e,[aT .kept<|zw7 b c d e])
def zXA (N:Nat)(d:aA)(c e:lS)(a:Int):OA:=
 let b:=zeG d; (oN (zhY d)<|oN (zc0 b a)<|cond (zk4 b a) (cond (ilt a<|ln c) (oN (inb a<|ln b.ay)<|p0 (up b.ay a true) λf=>oN (inb a<|ln c)<|oN (ziy (ix c a zX) e)<|oN (inb a<|ln b.az)<|p0 (up b.az a<|zmM (ix c a zX) e) λg=>some [aT .kept (⟨f,g⟩:aA)])<|some [aT .kept b])<|some [aT .kept b])
def z5b (b:aA)(c d:List k0)(a:Int)(j:zw8 b c d a=true):∃N,zXA N b c d a=some [aT .kept<|zw7 b c d a]:=by
 have g:=zF.1 j;refine⟨0,?_⟩;unfold zXA zw7 filled oN;conv=>zeta
 refine i0 (zbv<|(zzN _).2 g) (i0 (zbv g) ?_);rw[show zk4 (zeG b) a=ze6 b a from rfl];cases f:ze6 b a;{rfl};{unfold ze6 at f;obtain⟨e,h⟩:=zd1.1 f;rw[has_lt e (m:=ln c)];cases i:j0 a (ln c);{rfl};{simp only [cT,zeG,zD e,zD h,zD i,p0,ziy];rfl}}
def zYx:vP 434 zvG:=kF4 zgv zq zu zd5 (zo []) z5b
def zXy (N:Nat)(c:aA)(d e:lS)(a:Int):OA:=
 let b:=zdk c; (oN (zen c)<|oN (zbi a<|ln c.ay)<|cond (zbX a<|ln c.ay) (oN (zbi a<|ln c.az)<|cond (zbX a<|ln c.az) (oN (zbi a<|ln d)<|cond (zbX a<|ln d) (oN (inb a<|ln b.ay)<|p0 (up b.ay a true) λf=>oN (inb a<|ln d)<|oN (ziy (ix d a zX) e)<|oN (inb a<|ln b.az)<|p0 (up b.az a<|zmM (ix d a zX) e) λg=>some [aT .kept (⟨f,g⟩:aA)])<|some [aT .kept b])<|some [aT .kept b])<|some [aT .kept b])
def z4X (b:aA)(c d:List k0)(a:Int)(h:zw8 b c d a=true):∃N,zXy N b c d a=some [aT .kept<|zw7 b c d a]:=by
 have i:=zF.1 h;refine⟨0,?_⟩;unfold zXy zw7 filled ze6 oN;conv=>zeta
 refine i0 (zbv i) ?_;simp only[zbX,zbi,zdk,cT];cases e:j0 a (ln b.ay);{rfl};{cases f:j0 a (ln b.az);{rfl};{cases g:j0 a (ln c);{rfl};{simp only [cT,zD e,zD f,zD g,p0,ziy];rfl}}}
def zYs:vP 460 zvG:=kF4 zgv zq zu zd5 (zo []) z4X
def zKu {a b:Type}(p:a->Bool)(r:a->Option b)(K:Unit->Option b):∀(l:List a) (i:Nat),goL (λ_ x (_:Unit) k=>bif p x then r x else k ()) K l i ()=match l.find? p with|some x=>r x|none=>K ()
 |[],_=>rfl
 |x::l,i=>by simp only[goL];cases h:p x;{rw [List.find?_cons_of_neg (by simp[h])];exact zKu p r K l (i+1)};{rw [List.find?_cons_of_pos h];rfl}
def zNv (b:List au)(t p:Int):Option au:=b.find? λe=>bif ieq e.Tag t then ieq e.af p else false
@[simp] abbrev ziM (b:List au)(t p:Int):Bool:=true
@[simp] abbrev zhb (b:List au)(t p:Int):au:=(zNv b t p).getD ⟨0,0,0,0⟩
@[simp] abbrev zgo (b:List au)(t p:Int):Bool:=(zNv b t p).isSome
def znk:Run:=rF3 (dS .entry) dI dI λb c d=>(ziM b c d,[aT .entry<|zhb b c d,aB<|zgo b c d])
def zCD (N:Nat)(f:lE)(g h:Int):OA:=
 (q0 (σ:=(Int×Int×Int×Int×Int×Int×Int×lE×Unit)) N (λj a=>let f:=a.2.2.2.2;let c:=f.2.2.2.1;let d:=inb a.2.2.1<|ln c;let e:=j (a.1,a.2.1,zM .i64 a.2.2.1 1,a.2.2.2.1,f.1,f.2.1,f.2.2.1,c,());let b:=ix c a.2.2.1 zfW; (cond (ilt a.2.2.1<|ln c) (oN d<|cond (ieq b.Tag a.1) (oN d<|cond (ieq b.af a.2.1) (oN d<|some [.agg [.i .i64 b.Tag,.i .i64 b.af,.i .i64 b.ad,.i .i64 b.an],aB true]) e) e)<|some [.agg [.i .i64 0,.i .i64 0,.i .i64 0,.i .i64 0],aB false])) (g,h,0,0,0,0,0,f,()))
def zQt:=zo [(433,0,{n:=36,tm:=[(0,.sl 0 []),(1,ti),(2,ti),(6,.lp 0 0),(8,ti)],lo:=[(0,[ti,ti,ti,ti])],ro:=[(0,.entry,false)]})]
def zPc (a:List au)(c d:Int)(j:zbE big [aS .entry a,aI c,aI d])(l:ziM a c d=true):∃N,zCD N a c d=some [aT .entry<|zhb a c d,aB<|zgo a c d]:=by
 have h:=len0 j;refine zcf λN g=>?_;unfold zCD oN;conv=>zeta
 refine(zbp a (λi (t:Unit)=>(c,d,(i:Int),0,0,0,0,a,())) _ (λ_ (x:au) (_:Unit) k=>bif (cond (ieq x.Tag c) (ieq x.af d) false) then (some [AV.agg<|Ty.cells .entry x,AV.one<|.b true]) else k ()) (λ(t:Unit)=>some [.agg [.i .i64 0,.i .i64 0,.i .i64 0,.i .i64 0],.one<|.b false]) (λi f t rec=>?_) (λt rec=>?_) _ ()<|g h).trans ?_;{simp only [zbw f,zbc f,zbn f,zbj f h,cT];cases ieq a[i].Tag c<;>cases ieq a[i].af d<;>rfl};{simp only [zbq,cF]};rw[zKu λe:au=>bif ieq e.Tag c then ieq e.af d else false];unfold zhb zgo zNv;cases a.find? (λe:au=>bif ieq e.Tag c then ieq e.af d else false)<;>rfl
def zHk:vP 433 znk:=hF3 zgv zq zu zd5 zQt zPc
def zCk (N:Nat)(d:lE)(f g:Int):OA:=
 (q0 (σ:=(Int×Int×Int×Int×Int×Int×Int×Int×lE×Unit)) N (λh a=>let d:=a.2.2.2.2;let c:=d.2.2.2.2.1;let e:=h (a.1,a.2.1,a.2.2.1,zM .i64 a.2.2.2.1 1,d.1,d.2.1,d.2.2.1,d.2.2.2.1,c,());let b:=ix c a.2.2.2.1 zfW; (cond (ilt a.2.2.2.1 a.2.2.1) (oN (inb a.2.2.2.1<|ln c)<|cond (ieq b.Tag a.1) (cond (ieq b.af a.2.1) (some [.agg [.i .i64 b.Tag,.i .i64 b.af,.i .i64 b.ad,.i .i64 b.an],aB true]) e) e)<|some [.agg [.i .i64 0,.i .i64 0,.i .i64 0,.i .i64 0],aB false])) (f,g,ln d,0,0,0,0,0,d,()))
def zQh:=zo [(459,0,{n:=29,tm:=[(1,ti),(2,ti),(6,.lp 0 0),(10,.sl 0 []),(11,ti),(12,ti)],lo:=[(0,[ti,ti,ti,ti])],ro:=[(0,.entry,false)]})]
def zOS (a:List au)(c d:Int)(j:zbE big [aS .entry a,aI c,aI d])(l:ziM a c d=true):∃N,zCk N a c d=some [aT .entry<|zhb a c d,aB<|zgo a c d]:=by
 have h:=len0 j;refine zcf λN g=>?_;unfold zCk oN;conv=>zeta
 refine(zbp a (λi (t:Unit)=>(c,d,ln a,(i:Int),0,0,0,0,a,())) _ (λ_ (x:au) (_:Unit) k=>bif (cond (ieq x.Tag c) (ieq x.af d) false) then (some [AV.agg<|Ty.cells .entry x,AV.one<|.b true]) else k ()) (λ(t:Unit)=>some [.agg [.i .i64 0,.i .i64 0,.i .i64 0,.i .i64 0],.one<|.b false]) (λi f t rec=>?_) (λt rec=>?_) _ ()<|g h).trans ?_;{simp only [zbw f,zbc f,zbn f,zbj f h,cT];cases ieq a[i].Tag c<;>cases ieq a[i].af d<;>rfl};{simp only [zbq,cF]};rw[zKu λe:au=>bif ieq e.Tag c then ieq e.af d else false];unfold zhb zgo zNv;cases a.find? (λe:au=>bif ieq e.Tag c then ieq e.af d else false)<;>rfl
def zG1:vP 459 znk:=hF3 zgv zq zu zd5 zQh zOS
def zwT (t p:Int)(e:au):Bool:=bif ine e.Tag t then true else ine e.af p
def zel (b:List au)(t p:Int):List au:=b.filter (zwT t p)
def zBq (b:List au)(t p:Int):(zel b t p).length<=b.length:=u4 _ _
@[simp] abbrev zej (b:List au)(t p:Int):Bool:=pc (b.length<=1048576)
@[simp] abbrev zfF (b:List au)(t p:Int):List au:=zel b t p
def znm:Run:=rF3 (dS .entry) dI dI λb c d=>(zej b c d,[aS .entry<|zfF b c d])
def zCF (N:Nat)(h:lE)(i j:Int):OA:=
 (q0 (σ:=(Int×Int×Int×lE×lE×Unit)) N (λf a=>let b:=a.2.2.2.1;let c:=inb a.2.2.1<|ln b;let d:=ix b a.2.2.1 zfW;let e:=ap a.2.2.2.2.1 [d];let g:=f (a.1,a.2.1,zM .i64 a.2.2.1 1,b,e,()); (cond (ilt a.2.2.1<|ln b) (oN c<|cond (ine d.Tag a.1) (oN c<|oN (few<|ln e) g)<|oN c<|cond (ine d.af a.2.1) (oN c<|oN (few<|ln e) g)<|f (a.1,a.2.1,zM .i64 a.2.2.1 1,b,a.2.2.2.2.1,()))<|some [aS .entry a.2.2.2.2.1])) (i,j,0,h,[],()))
def zQv:=zo [(335,0,{n:=40,tm:=[(0,.sl 0 []),(1,ti),(2,ti),(7,.sl 1 []),(8,ti)],lo:=[],ro:=[(0,.entry,false),(1,.entry,true)]})]
def zPe (a:List au)(b c:Int)(h:zej a b c=true):∃N,zCF N a b c=some [aS .entry<|zfF a b c]:=by
 have j:=zF.1 h;have f:=zcC j;refine zcf λN e=>?_;unfold zCF oN;conv=>zeta
 refine(zbp a (λi (t:lE)=>(b,c,(i:Int),a,t,())) _ (λ_ (x:au) (t:List au) g=>bif zwT b c x then (cond (few<|ln<|ap t [x]) (g<|ap t [x]) none) else g t) (λ(t:lE)=>some [.one<|.s .entry t]) (λi d t rec=>?_) (λt rec=>?_) _ ([])<|e f.1).trans ?_;{simp only [zbw d,zbc d,zbn d,zbj d f.1,cT];unfold zwT;cases ine a[i].Tag b<;>cases ine a[i].af c<;>rfl};{simp only [zbq,cF]};exact zoj (zwT b c) _ a 0 [] (by simpa using f.2)
def zHm:vP 335 znm:=kF3 zgv zq zu zd5 zQv zPe
def zCm (N:Nat)(e:lE)(h i:Int):OA:=
 (q0 (σ:=(Int×Int×Int×Int×lE×lE×Unit)) N (λf a=>let e:=a.2.2.2.2;let b:=e.2.1;let c:=ix b a.2.1 zfW;let d:=ap e.1 [c];let g:=f (a.1,zM .i64 a.2.1 1,a.2.2.1,a.2.2.2.1,d,b,()); (cond (ilt a.2.1 a.1) (oN (inb a.2.1<|ln b)<|cond (ieq c.Tag a.2.2.1) (cond (nB<|ieq c.af a.2.2.2.1) (oN (few<|ln d) g)<|f (a.1,zM .i64 a.2.1 1,a.2.2.1,a.2.2.2.1,e.1,b,()))<|oN (few<|ln d) g)<|some [aS .entry e.1])) (ln e,0,h,i,[],e,()))
def zQj:=zo [(418,0,{n:=25,tm:=[(1,.fn 419 [0,1]),(5,.sl 0 []),(9,.sl 1 []),(10,ti),(11,ti)],lo:=[(0,[ti]),(1,[ti])],ro:=[(0,.entry,true),(1,.entry,false)]})]
def zOU (a:List au)(b c:Int)(h:zej a b c=true):∃N,zCm N a b c=some [aS .entry<|zfF a b c]:=by
 have j:=zF.1 h;have f:=zcC j;refine zcf λN e=>?_;unfold zCm oN nB;conv=>zeta
 refine(zbp a (λi (t:lE)=>(ln a,(i:Int),b,c,t,a,())) _ (λ_ (x:au) (t:List au) g=>bif zwT b c x then (cond (few<|ln<|ap t [x]) (g<|ap t [x]) none) else g t) (λ(t:lE)=>some [.one<|.s .entry t]) (λi d t rec=>?_) (λt rec=>?_) _ ([])<|e f.1).trans ?_;{simp only [zbw d,zbc d,zbn d,zbj d f.1,cT];unfold zwT;simp only[zjw];cases ieq a[i].Tag b<;>cases ieq a[i].af c<;>rfl};{simp only [zbq,cF]};exact zoj (zwT b c) _ a 0 [] (by simpa using f.2)
def zG3:vP 306 znm:=kF3 zgv zq zu zd5 zQj zOU
def zbbJ:zbb:=[(405,zpQ),(401,zpQ),(336,ztw),(307,ztw),(233,zU2),(231,zUZ),(434,zvG),(460,zvG),(433,znk),(459,znk),(335,znm),(306,znm)]++z6Y
def zwp:zN zbbJ:=zh zOi (zh zNV<|zh zVF<|zh zVu<|zh z1x<|zh z1t<|zh zYx<|zh zYs<|zh zHk<|zh zG1<|zh zHm<|zh zG3 zgv)
def zBU (b:List au)(e:au):List au:=bif igt (ln<|ap (zel b e.Tag e.af) [e]) 6 then dp (ap (zel b e.Tag e.af) [e]) (wsub .i64 (ln<|ap (zel b e.Tag e.af) [e]) 6) else ap (zel b e.Tag e.af) [e]
def zw2 {b:List au}(e:au)(h:b.length<=1048576):(zBU b e).length<=1048576/\(ap (zel b e.Tag e.af) [e]).length<=1048577:=by have d:=zBq b e.Tag e.af;have c:(ap (zel b e.Tag e.af) [e]).length<=1048577:=(by simp[ap];omega);refine⟨?_,c⟩;unfold zBU;cases a:igt (ln<|ap (zel b e.Tag e.af) [e]) 6;{have a:=qM a;simp only[ln]at a;simp only[cF];omega};{simp only [cT,dp,List.length_drop];have a:=qD a;have:wsub .i64 (ln<|ap (zel b e.Tag e.af) [e]) 6=ln (ap (zel b e.Tag e.af) [e])-6:=zs7 (by simp only[ln] at *;omega) (by simp only[ln] at *;omega);rw[this];simp only[ln] at *;omega}
@[simp] abbrev zii (b:List au)(e:au):Bool:=pc (b.length<=1048576)
@[simp] abbrev zhS (b:List au)(e:au):List au:=zBU b e
def zlB:Run:=rF2 (dS .entry) (dT .entry) λb c=>(zii b c,[aS .entry<|zhS b c])
def zEw (N:Nat)(d:lE)(b:au):OA:=
 let a:=ap (zfF d b.Tag b.af) [b];let c:=wsub .i64 (ln a) 6; (oN (zej d b.Tag b.af)<|oN (few<|ln a)<|cond (igt (ln a) 6) (oN (inr c (ln a)<|ln a)<|oN (few<|ln<|ap []<|dp a c)<|some [aS .entry<|ap []<|dp a c])<|some [aS .entry a])
def zSV (b:List au)(a:au)(h:zii b a=true):∃N,zEw N b a=some [aS .entry<|zhS b a]:=by
 have f:=zF.1 h;obtain⟨c,g⟩:=zw2 a f;refine⟨0,?_⟩;unfold zEw oN;conv=>zeta
 refine i0 (zbv f) (i0 (zh8<|qT g (by decide:1048577<=2147483648)) ?_);unfold zhS zBU at *;show _=some [AV.one<|.s .entry<|cond (igt (ln<|ap (zel b a.Tag a.af) [a]) 6) (dp (ap (zel b a.Tag a.af) [a])<|wsub .i64 (ln<|ap (zel b a.Tag a.af) [a]) 6)<|ap (zel b a.Tag a.af) [a]];cases d:igt (ln<|ap (zel b a.Tag a.af) [a]) 6;{rfl};{rw [d]at c;simp only[cT]at c;have d:=qD d;have e:wsub .i64 (ln<|ap (zel b a.Tag a.af) [a]) 6=ln (ap (zel b a.Tag a.af) [a])-6:=zs7 (by simp only[ln] at *;omega) (by simp only[ln] at *;omega);refine i0 rfl (i0 (qL ?_)<|i0 ?_ ?_);{show 0<=wsub .i64 (ln<|ap (zel b a.Tag a.af) [a]) 6/\wsub .i64 (ln<|ap (zel b a.Tag a.af) [a]) 6<=ln (ap (zel b a.Tag a.af) [a])/\ln (ap (zel b a.Tag a.af) [a])<=ln (ap (zel b a.Tag a.af) [a]);rw[e];simp only[ln] at *;omega};{exact zqA c};{rw [zpb];rfl}}
def zwG:vP 384 zlB:=kF2 zwp zq zu zd5 (zo []) zSV
def zD2 (N:Nat)(c:lE)(a:au):OA:=
 let b:=ap (zfF c a.Tag a.af) [a];let d:=imax 0<|wsub .i64 (ln b) 6; (oN (zej c a.Tag a.af)<|oN (few<|ln b)<|oN (inr d (ln b)<|ln b)<|some [aS .entry<|dp b d])
def zSt (b:List au)(a:au)(h:zii b a=true):∃N,zD2 N b a=some [aS .entry<|zhS b a]:=by
 have g:=zF.1 h;obtain⟨_,f⟩:=zw2 a g;refine⟨0,?_⟩;unfold zD2 zhS zBU oN;conv=>zeta
 simp only[zfF];generalize ap (zel b a.Tag a.af) [a]=l at f ⊢;refine i0 (zbv g) (i0 (zh8<|qT f (by decide:1048577<=2147483648)) ?_);have e:wsub .i64 (ln l) 6=ln l-6:=zs7 (by simp only[ln] at *;omega) (by simp only[ln] at *;omega);rw[e];cases c:igt (ln l) 6;{have c:=qM c;have d:imax 0 (ln l-6)=0:=(by unfold imax;rw[if_neg (by omega)]);rw[d];exact i0 (qL (by simp only[ln];omega)) (by simp[dp])};{have c:=qD c;have d:imax 0 (ln l-6)=ln l-6:=(by unfold imax;rw[if_pos (by omega)]);rw[d];exact i0 (qL (by simp only[ln] at *;omega)) rfl}
def zKK:vP 461 zlB:=kF2 zwp zq zu zd5 (zo []) zSt
def zq6 (l:List k0)(p:Int):Option Nat:=l.findIdx? λs=>ieq s.af p
def zkz (p:Int):List Mon->Nat->Int×Int
 |[],_=>(-1,-1)
 |m::l,i=>match zq6 m.ae p with|some k=>((i:Int),(k:Int))|none=>zkz p l (i+1)
def zbQ (h:ad)(p:Int):Int×Int:=bif ilt p 0 then (-1,-1) else zkz p h.aa 0
def zUG {a:Type}(p:k0->Bool)(r:Nat->Option a)(K:Unit->Option a):∀(l:List k0) (i:Nat),goL (λj x (_:Unit) k=>bif p x then r j else k ()) K l i ()=match l.findIdx? p with|some k=>r (i+k)|none=>K ()
 |[],_=>rfl
 |x::l,i=>by simp only[goL];rw[List.findIdx?_cons];cases h:p x;{simp only [cF,kS,if_false];rw[zUG p r K l<|i+1];cases l.findIdx? p with|none=>rfl|some k=>simp only[Option.map_some];congr 1;omega};{rfl}
def zQU {c:Type}(p:Int)(r:Int->Int->Option c):∀(l:List Mon) (i:Nat),goL (λi (x:Mon) (_:Unit) b=>goL (λj (y:k0) (_:Unit) a=>bif ieq y.af p then r (i:Int) (j:Int) else a ()) (λ_=>b ()) x.ae 0 ()) (λ_=>r (-1) (-1)) l i ()=r (zkz p l i).1 (zkz p l i).2
 |[],_=>rfl
 |m::l,i=>by simp only[goL,zkz];rw[zUG (λs=>ieq s.af p) λj=>r (i:Int) (j:Int)];unfold zq6;cases m.ae.findIdx? (λs=>ieq s.af p) with|none=>exact zQU p r l (i+1)|some k=>simp only[kB]
@[simp] abbrev zgT (h:ad)(p:Int):Bool:=true
@[simp] abbrev zem (h:ad)(p:Int):Int:=(zbQ h p).1
@[simp] abbrev zfi (h:ad)(p:Int):Int:=(zbQ h p).2
def zlg:Run:=rF2 dH dI λb c=>(zgT b c,[aI<|zem b c,aI<|zfi b c])
def zxk (N:Nat)(f:ad)(g:Int):OA:=
 (cond (ilt g 0) (some [aI<|-1,aI<|-1])<|q0 (σ:=(Int×Int×Int×lN×Unit)) N (λi b=>let c:=b.2.2.1; (cond (ilt c b.2.1) (oN (inb c<|ln b.2.2.2.1)<|q0 (σ:=(Int×Int×Int×Int×Int×Int×Int×lN×Unit)) N (λj a=>let b:=a.2.2.2.2;let e:=b.2.2.2.1;let h:=(ix e b.1 zi).ae;let d:=b.2.2.1; (cond (ilt d b.2.1) (oN (inb d<|ln h)<|cond (ieq (ix h d zX).af a.1) (some [aI a.2.1,aI d])<|j (a.1,a.2.1,a.2.2.1,a.2.2.2.1,b.1,b.2.1,zM .i64 d 1,e,()))<|i (a.1,a.2.2.1,zM .i64 a.2.2.2.1 1,e,()))) (b.1,c,b.2.1,c,c,ln (ix b.2.2.2.1 c zi).ae,0,b.2.2.2.1,()))<|some [aI<|-1,aI<|-1])) (g,ln f.aa,0,f.aa,()))
def zH1:=zo [(465,0,{n:=36,tm:=[(1,ti),(13,.sl 0 []),(14,ti),(15,ti)],lo:=[],ro:=[(0,.mon,false)]}),(465,2,{n:=36,tm:=[(1,ti),(6,ti),(13,.sl 0 []),(14,ti),(15,ti),(21,.sl 0 [0]),(22,ti),(23,ti)],lo:=[],ro:=[(0,.mon,false)]})]
def zHF (a:ad)(c:Int)(m:zbE big [aH a,aI c])(q:zgT a c=true):∃N,zxk N a c=some [aI<|zem a c,aI<|zfi a c]:=by
 have k:CVB big (.s .mon a.aa):=(zd0 m).1 _ (by simp[AV.cvs,zbl]);have h:=k.len;refine zcf λN e=>?_;unfold zxk zem zfi zbQ oN;conv=>zeta
 cases p:ilt c 0;{simp only [cF];refine(zbp a.aa (λi (t:Unit)=>(c,ln a.aa,(i:Int),a.aa,())) _ (λi (x:Mon) (_:Unit) n=>goL (λj (y:k0) (_:Unit) b=>bif ieq y.af c then some [AV.one<|.i .i64 (i:Int),AV.one<|.i .i64 (j:Int)] else b ()) (λ_=>n ()) x.ae 0 ()) (λ(t:Unit)=>some [.one<|.i .i64<|-1,.one<|.i .i64<|-1]) (λi d t rec=>?_) (λt rec=>?_) _ ()<|e h).trans ?_;{simp only [zbw d,zbc d,zbn d,zbj d h,cT];have l:a.aa[i].ae.length<=big:=(k.inv.2 _ (jI d) (.s .slot _) (by simp[Ty.cells])).len;refine(zbp a.aa[i].ae (λj (u:Unit)=>(c,(i:Int),ln a.aa,(i:Int),(i:Int),ln a.aa[i].ae,(j:Int),a.aa,())) _ (λj (y:k0) (_:Unit) b=>bif ieq y.af c then some [AV.one<|.i .i64 (i:Int),AV.one<|.i .i64 (j:Int)] else b ()) (λ(u:Unit)=>rec (c,ln a.aa,((i+1:Nat):Int),a.aa,())) (λj g u f=>?_) (λu f=>?_) _ ()<|e l).trans ?_;{simp only [zbw g,zbc g,zbn g,zbj g l,cT,zbc d,zbn d,zbj d h]};{simp only [zbq,cF,zbc d,zbn d,zbj d h]};rfl};{simp only [zbq,cF]};exact zQU c (λi j=>some [AV.one<|.i .i64 i,AV.one<|.i .i64 j]) a.aa 0};{rfl}
def zDz:vP 465 zlg:=hF2 zwp zq zu zd5 zH1 zHF
def z7s {a c b:Type}(r:Option b):∀(l:List a) (i:Nat) (t:c),goL (λ_ _ _ _=>r) (λ_=>r) l i t=r
 |[],_,_=>rfl
 |_::_,_,_=>rfl
def zxv (N:Nat)(d:ad)(f:Int):OA:=
 (q0 (σ:=(Int×Int×lM×lN×lE×lE×Unit)) N (λg b=>cond (ilt b.2.1<|ln b.2.2.2.1) (cond (ige b.1 0) (q0 (σ:=(Int×Int×Int×lM×lN×lE×lE×Unit)) N (λh a=>let b:=a.2.2.2.2;let c:=b.1;let e:=(ix c a.2.1 zi).ae; (oN (inb a.2.1<|ln c)<|cond (ilt a.2.2.1<|ln e) (oN (inb a.2.1<|ln c)<|oN (inb a.2.2.1<|ln e)<|cond (ieq (ix e a.2.2.1 zX).af a.1) (some [aI a.2.1,aI a.2.2.1])<|h (a.1,a.2.1,zM .i64 a.2.2.1 1,a.2.2.2.1,c,b.2.1,b.2.2.1,()))<|g (a.1,zM .i64 a.2.1 1,a.2.2.2.1,c,b.2.1,b.2.2.1,()))) (b.1,b.2.1,0,b.2.2.1,b.2.2.2.1,b.2.2.2.2.1,b.2.2.2.2.2.1,()))<|some [aI<|-1,aI<|-1])<|some [aI<|-1,aI<|-1]) (f,0,d.ag,d.aa,d.ao,d.am,()))
def zH5:=zo [(443,0,{n:=44,tm:=[(1,ti),(2,.lp 0 0),(6,ti)],lo:=[(0,[.sl 0 [],.sl 1 [],.sl 2 [],.sl 3 []])],ro:=[(0,.sl .int,false),(1,.mon,false),(2,.entry,false),(3,.entry,false)]}),(443,2,{n:=44,tm:=[(1,ti),(2,.lp 0 0),(6,ti),(7,ti)],lo:=[(0,[.sl 0 [],.sl 1 [],.sl 2 [],.sl 3 []])],ro:=[(0,.sl .int,false),(1,.mon,false),(2,.entry,false),(3,.entry,false)]})]
def zHS (a:ad)(b:Int)(p:zbE big [aH a,aI b])(r:zgT a b=true):∃N,zxv N a b=some [aI<|zem a b,aI<|zfi a b]:=by
 have m:CVB big (.s .mon a.aa):=(zd0 p).1 _ (by simp[AV.cvs,zbl]);have l:=m.len;refine zcf λN e=>?_;unfold zxv zem zfi zbQ oN;conv=>zeta
 refine(zbp a.aa (λi (t:Unit)=>(b,(i:Int),a.ag,a.aa,a.ao,a.am,())) _ (λi (x:Mon) (_:Unit) q=>bif ige b 0 then goL (λj (y:k0) (_:Unit) c=>bif ieq y.af b then some [AV.one<|.i .i64 (i:Int),AV.one<|.i .i64 (j:Int)] else c ()) (λ_=>q ()) x.ae 0 () else some [AV.one<|.i .i64<|-1,AV.one<|.i .i64<|-1]) (λ(t:Unit)=>some [.one<|.i .i64<|-1,.one<|.i .i64<|-1]) (λi d t rec=>?_) (λt rec=>?_) _ ()<|e l).trans ?_;{simp only [zbw d,zbc d,zbn d,zbj d l,cT];cases h:ige b 0;{rfl};have n:a.aa[i].ae.length<=big:=(m.inv.2 _ (jI d) (.s .slot _) (by simp[Ty.cells])).len;simp only[cT];refine(zbp a.aa[i].ae (λj (_:Unit)=>(b,(i:Int),(j:Int),a.ag,a.aa,a.ao,a.am,())) _ (λj (y:k0) (_:Unit) c=>bif ieq y.af b then some [AV.one<|.i .i64 (i:Int),AV.one<|.i .i64 (j:Int)] else c ()) (λ_=>rec (b,((i+1:Nat):Int),a.ag,a.aa,a.ao,a.am,())) (λj g u f=>?_) (λu f=>?_) _ ()<|e n).trans ?_;{simp only [zbw g,zbc g,zbn g,zbj g n,cT,zbc d,zbn d]};{simp only [zbq,cF,cT,zbc d,zbn d,zbj d l]};rfl};{simp only [zbq,cF]};cases h:ige b 0;{have k:ilt b 0=true:=(by have:=qM h;exact qL (by omega));rw[k];exact z7s _ _ _ _};{have k:ilt b 0=false:=(by have:=qD h;exact qH (by omega));rw[k];exact zQU b (λi j=>some [AV.one<|.i .i64 i,AV.one<|.i .i64 j]) a.aa 0}
def zDM:vP 443 zlg:=hF2 zwp zq zu zd5 zH5 zHS
def zbbK:zbb:=[(384,zlB),(461,zlB),(443,zlg),(465,zlg)]++zbbJ
def zwq:zN zbbK:=zh zwG (zh zKK<|zh zDM<|zh zDz zwp)
def zcL (h:ad):LI:=zy4 (λi=>ilt (zbQ h (i:Int)).1 0) h.ag.length 0
@[simp] abbrev zgX (h:ad):Bool:=pc (h.ag.length<=1048576)
@[simp] abbrev zdu (h:ad):LI:=zcL h
def zrD:Run:=rF1 dH λb=>(zgX b,[aS .int<|zdu b])
def zMQ (N:Nat)(b:ad):OA:=
 (q0 (σ:=(Int×LI×lM×lN×lE×lE×Unit)) N (λc a=>let b:=a.2.2.2.2;let d:=(⟨a.2.2.1,a.2.2.2.1,b.1,b.2.1⟩:ad); (cond (ilt a.1<|ln a.2.2.1) (oN (zgT d a.1)<|cond (ilt (zem d a.1) 0) (oN (few<|ln<|ap a.2.1 [a.1])<|c (zM .i64 a.1 1,ap a.2.1 [a.1],a.2.2.1,a.2.2.2.1,b.1,b.2.1,()))<|c (zM .i64 a.1 1,a.2.1,a.2.2.1,a.2.2.2.1,b.1,b.2.1,()))<|some [aS .int a.2.1])) (0,[],b.ag,b.aa,b.ao,b.am,()))
def z0N:=zo [(442,0,{n:=28,tm:=[(1,.lp 0 0),(3,.sl 0 []),(4,ti)],lo:=[(0,[.sl 1 [],.sl 2 [],.sl 3 [],.sl 4 []])],ro:=[(0,.int,true),(1,.sl .int,false),(2,.mon,false),(3,.entry,false),(4,.entry,false)]})]
def zY6 (a:ad)(f:zgX a=true):∃N,zMQ N a=some [aS .int<|zdu a]:=by
 have g:=zF.1 f;have e:=zcC g;refine zcf λN d=>?_;unfold zMQ oN;conv=>zeta
 refine(zbp a.ag (λi (t:LI)=>((i:Int),t,a.ag,a.aa,a.ao,a.am,())) _ (λi (_:LI) (t:LI) b=>bif ilt (zbQ a (i:Int)).1 0 then (cond (few<|ln<|ap t [(i:Int)]) (b<|ap t [(i:Int)]) none) else b t) (λ(t:LI)=>some [.one<|.s .int t]) (λi c t rec=>?_) (λt rec=>?_) _ ([])<|d e.1).trans ?_;{simp only [zbw c,zbc c,zbn c,zbj c e.1,cT]};{simp only [zbq,cF]};rw[zzU λi (t:LI) b=>bif ilt (zbQ a (i:Int)).1 0 then (cond (few<|ln<|ap t [(i:Int)]) (b<|ap t [(i:Int)]) none) else b t];exact zBw (λi=>ilt (zbQ a (i:Int)).1 0) _ _ 0 [] (by simpa using e.2)
def zRD:vP 442 zrD:=kF1 zwq zq zu zd5 z0N zY6
def zMu (N:Nat)(b:ad):OA:=
 (q0 (σ:=(Int×Int×LI×lM×lN×lE×lE×Unit)) N (λd a=>let b:=a.2.2.2.2;let c:=b.2.2.1;let e:=(⟨a.2.2.2.1,b.1,b.2.1,c⟩:ad); (cond (ilt a.2.1 a.1) (oN (zgT e a.2.1)<|cond (ilt (zem e a.2.1) 0) (oN (few<|ln<|ap a.2.2.1 [a.2.1])<|d (a.1,zM .i64 a.2.1 1,ap a.2.2.1 [a.2.1],a.2.2.2.1,b.1,b.2.1,c,()))<|d (a.1,zM .i64 a.2.1 1,a.2.2.1,a.2.2.2.1,b.1,b.2.1,c,()))<|some [aS .int a.2.2.1])) (ln b.ag,0,[],b.ag,b.aa,b.ao,b.am,()))
def z0F:=zo [(427,0,{n:=28,tm:=[(1,.lp 0 0),(3,.sl 0 []),(10,ti),(11,ti)],lo:=[(0,[.sl 1 [],.sl 2 [],.sl 3 [],.sl 4 []])],ro:=[(0,.int,true),(1,.sl .int,false),(2,.mon,false),(3,.entry,false),(4,.entry,false)]})]
def zYM (a:ad)(f:zgX a=true):∃N,zMu N a=some [aS .int<|zdu a]:=by
 have g:=zF.1 f;have e:=zcC g;refine zcf λN d=>?_;unfold zMu oN;conv=>zeta
 refine(zbp a.ag (λi (t:LI)=>(ln a.ag,(i:Int),t,a.ag,a.aa,a.ao,a.am,())) _ (λi (_:LI) (t:LI) b=>bif ilt (zbQ a (i:Int)).1 0 then (cond (few<|ln<|ap t [(i:Int)]) (b<|ap t [(i:Int)]) none) else b t) (λ(t:LI)=>some [.one<|.s .int t]) (λi c t rec=>?_) (λt rec=>?_) _ ([])<|d e.1).trans ?_;{simp only [zbw c,zbc c,zbn c,zbj c e.1,cT]};{simp only [zbq,cF]};rw[zzU λi (t:LI) b=>bif ilt (zbQ a (i:Int)).1 0 then (cond (few<|ln<|ap t [(i:Int)]) (b<|ap t [(i:Int)]) none) else b t];exact zBw (λi=>ilt (zbQ a (i:Int)).1 0) _ _ 0 [] (by simpa using e.2)
def zRa:vP 427 zrD:=kF1 zwq zq zu zd5 z0F zYM
def zlc (m:List LI)(p:Int)(c:LI):List LI:=bif j0 p (ln m) then (cond (zdr c) (up m p c) m) else m
@[simp] abbrev zgY (m:List LI)(p:Int)(c:LI):Bool:=pc (SmM m/\c.length<=1048576)
@[simp] abbrev zfV (m:List LI)(p:Int)(c:LI):List LI:=zlc m p c
def zoK:Run:=rF3 (dS<|.sl .int) dI (dS .int) λb c d=>(zgY b c d,[aS (.sl .int)<|zfV b c d])
def zEC (N:Nat)(a:lM)(b:Int)(c:LI):OA:=
 (oN (zhX a)<|oN (zJ b 0<|wsub .i64 (ln a) 1)<|cond (zl b 0<|wsub .i64 (ln a) 1) (oN (zep c)<|cond (zdF c) (oN (few<|ln<|ap [] c)<|oN (inb b<|ln<|zf6 a)<|p0 (up (zf6 a) b<|ap [] c) λd=>some [aS (.sl .int) d])<|some [aS (.sl .int)<|zf6 a])<|some [aS (.sl .int)<|zf6 a])
def zS2 (b:List LI)(a:Int)(c:LI)(g:zgY b a c=true):∃N,zEC N b a c=some [aS (.sl .int)<|zfV b a c]:=by obtain⟨e,d⟩:=zF.1 g;refine⟨0,?_⟩;unfold zEC zfV zlc oN;refine i0 (zbv<|(zsG _).2 e) (i0 rfl ?_);rw[show zl a 0 (wsub .i64 (ln b) 1)=j0 a (ln b) from zs5 e.1 a];cases f:j0 a (ln b);{rfl};{simp only [cT,zep,zdF];cases h:zdr c;{rfl};{refine i0 rfl (i0 (zqA d)<|i0 (zD f) ?_);rw[zpb];rfl}}
def zLl:vP 444 zoK:=kF3 zwq zq zu zd5 (zo []) zS2
def zD5 (N:Nat)(a:lM)(b:Int)(c:LI):OA:=
 (oN (zhH a)<|oN (zbi b<|ln a)<|cond (zbX b<|ln a) (oN (zep c)<|cond (zdF c) (oN (zeL c)<|oN (inb b<|ln<|zeE a)<|p0 (up (zeE a) b<|zeJ c) λd=>some [aS (.sl .int) d])<|some [aS (.sl .int)<|zeE a])<|some [aS (.sl .int)<|zeE a])
def zSw (a:List LI)(b:Int)(c:LI)(f:zgY a b c=true):∃N,zD5 N a b c=some [aS (.sl .int)<|zfV a b c]:=by obtain⟨g,d⟩:=zF.1 f;refine⟨0,?_⟩;unfold zD5 zfV zlc oN;refine i0 (zbv g) (i0 rfl ?_);rw[show zbX b (ln a)=j0 b (ln a) from rfl];cases e:j0 b (ln a);{rfl};{simp only [cT,zep,zdF];cases h:zdr c;{rfl};{refine i0 rfl (i0 (zbv<|qT d (by decide)) (i0 (zD e) rfl))}}
def zKP:vP 429 zoK:=kF3 zwq zq zu zd5 (zo []) zSw
def zth:zbb:=[(442,zrD),(427,zrD),(444,zoK),(429,zoK)]++zbbK
def zjF:zN zth:=zh zRD (zh zRa<|zh zLl<|zh zKP zwq)
abbrev mZ:Mon:=Ty.dflt .mon
abbrev sZ:k0:=Ty.dflt .slot
def ShM (x:Mon):Prop:=x.ae.length=8/\x.Out.length=8/\x.av.length=8/\x.ak.length=x.ac.length
def Shape (h:ad):Prop:=SmH h/\∀x∈h.aa,ShM x
def zhB {h:ad}{m:Int}{x:Mon}(a:Shape h)(c:zfJ x)(d:ShM x):Shape {h with aa:=up h.aa m x}:=by refine⟨⟨a.1.1,zkO a.1.2.1 c,a.1.2.2⟩,λy b=>?_⟩;rcases jD b with b|rfl;{exact a.2 y b};{exact d}
def zcv {h:ad}(b:Shape h){m:Int}(a:j0 m (ln h.aa)=true):zfJ (ix h.aa m mZ)/\ShM (ix h.aa m mZ):=⟨b.1.2.1.2 _<|zbJ a _,b.2 _<|zbJ a _⟩
def zU5 {h:ad}{b:List LI}(a:Shape h)(c:SmM b):Shape {h with ag:=b}:=⟨⟨c,a.1.2⟩,a.2⟩
def zp5 {h:ad}{m p:Int}{s:k0}(e:j0 m (ln h.aa)=true)(b:Shape h):Shape (zcD h m p s):=by refine⟨zJQ e b.1,?_⟩;obtain⟨_,a⟩:=zcv b e;have d:∀y∈up h.aa m {zkb (ix h.aa m mZ) p (ix h.aa m mZ).ak.length with ae:=up (ix h.aa m mZ).ae p s},ShM y:=(by intro y c;rcases jD c with c|rfl;{exact b.2 y c};{exact⟨by simpa using a.1,a.2.1,a.2.2.1,by simpa [zkb,zqv] using a.2.2.2⟩});unfold zcD;cases ine (ix (ix h.aa m mZ).ae p sZ).af (-1)<;>exact d
def zgW (h:ad)(m p:Int)(s:k0):(zcD h m p s).aa=up h.aa m {zkb (ix h.aa m mZ) p (ix h.aa m mZ).ak.length with ae:=up (ix h.aa m mZ).ae p s}/\(zcD h m p s).ag=h.ag:=by unfold zcD;cases ine (ix (ix h.aa m mZ).ae p sZ).af (-1)<;>exact⟨rfl,rfl⟩
def zfX {h:ad}{m k:Int}{x:Mon}(a:j0 m (ln h.aa)=true):j0 m (ln<|up h.aa k x)=true:=by simpa [ln] using a
def zJh {h:ad}{m k p:Int}{s:k0}(a:j0 m (ln h.aa)=true):j0 m (ln (zcD h k p s).aa)=true:=by rw[(zgW h k p s).1];exact zfX a
def zez {b:Type}{l:List b}{p:Int}(h:l.length=8)(a:j0 p 8=true):j0 p (ln l)=true:=by rw[ln,h];exact a
def zBD (h:ad)(m p:Int)(s:k0):ad :=
 bif ine s.af (-1) then ⟨h.ag,up h.aa m<|zkb (ix h.aa m mZ) p (ix h.aa m mZ).ac.length,flushed h.ao s.af,flushed h.am s.af⟩
 else ⟨h.ag,up h.aa m<|zkb (ix h.aa m mZ) p (ix h.aa m mZ).ac.length,h.ao,h.am⟩
def zB8 {h:ad}{k:Nat}{p:Int}{s:k0}(a:k<h.aa.length)(b:(ix h.aa (k:Int) mZ).ak.length=(ix h.aa (k:Int) mZ).ac.length) :
 zBD {h with aa:=up h.aa (k:Int) {ix h.aa (k:Int) mZ with ae:=up (ix h.aa (k:Int) mZ).ae p s}} (k:Int) p (ix (ix h.aa (k:Int) mZ).ae p sZ)=zcD h (k:Int) p s:=by
 unfold zcD zBD;simp only[zee a,zsv,zkb,b]
def z4K {a:Type}(m p:Int)(i:Nat)(t:List Mon)(b:List Mon->Option a):Option a :=
 (cond (inb (i:Int)<|ln (ix t m mZ).ak) (cond (inb (i:Int)<|ln (ix t m mZ).ac) (cond (pc<|SmK (ix (ix t m mZ).ak (i:Int) zec)/\(ix (ix t m mZ).ac (i:Int) zA).ax.length<=1048576) (cond (inb (i:Int)<|ln (ix t m mZ).ak) (b<|up t m ({ (ix t m mZ) with ak:=(up (ix t m mZ).ak (i:Int)<|zl9 (ix (ix t m mZ).ak (i:Int) zec) (ix (ix t m mZ).ac (i:Int) zA).ax p)}:Mon)) none) none) none) none)
def z3d {j:Type}{mons:List Mon}{k:Nat}(d:k<mons.length)(p:Int)(c:zfJ (ix mons (k:Int) mZ))(f:(ix mons (k:Int) mZ).ak.length=(ix mons (k:Int) mZ).ac.length)(K:List Mon->Option j) :
 ∀(n i:Nat),i+n=(ix mons (k:Int) mZ).ac.length->goN (λi t g=>z4K (k:Int) p i t g) K n i (up mons (k:Int)<|zkb (ix mons (k:Int) mZ) p i)=K (up mons (k:Int)<|zkb (ix mons (k:Int) mZ) p (ix mons (k:Int) mZ).ac.length)
 | 0,i,h=>by have:i=(ix mons (k:Int) mZ).ac.length:=(by omega);subst this;rfl
 |n+1,i,h=>by
  have b:i<(ix mons (k:Int) mZ).ac.length:=(by omega);have a:i<(zmB (ix mons (k:Int) mZ).ac p i (ix mons (k:Int) mZ).ak).length:=by rw[zqv];omega
  have e:pc (SmK (ix (zmB (ix mons (k:Int) mZ).ac p i (ix mons (k:Int) mZ).ak) (i:Int) zec)/\(ix (ix mons (k:Int) mZ).ac (i:Int) zA).ax.length<=1048576)=true :=
   zbv ⟨by rw[zbn a];exact(zus _ _ _ _ (by omega) c.2.2.2.2.2).2 _ (jI a),by rw[zbn b];exact(c.2.2.2.1.2 _<|jI b).2.2.1⟩
  simp only[goN,z4K,zee d,zsv,zkb,zbc a,zbc b,e,cT];exact z3d d p c f K n (i+1) (by omega)
@[simp] abbrev zfK (h:ad)(m p:Int)(s:k0):Bool:=pc (Shape h/\j0 m (ln h.aa)=true)
@[simp] abbrev zfL (h:ad)(m p:Int)(s:k0):ad:=zBD h m p s
def zo7:LC->LA->Option (Bool×LC×LA)
 |[.s (.sl .int) b,.s .mon c,.s .entry d,.s .entry e],[.one<|.i .i64 f,.one<|.i .i64 g,.agg [.i .i64 h,.i .i64 j]]=>some (zfK (⟨b,c,d,e⟩:ad) f g (⟨h,j⟩:k0),zbl<|zfL (⟨b,c,d,e⟩:ad) f g (⟨h,j⟩:k0),[])
 |_,_=>none
def zsA (N:Nat)(c:ad)(i n:Int)(k:k0):OA:=
 (oN (inb i<|ln c.aa)<|q0 (σ:=(Int×Int×Int×Int×Int×Int×lN×lM×lE×lE×Unit)) N (λp a=>let c:=a.2.2.2.2;let j:=c.2.2.2.1;let h:=c.2.2.1;let e:=c.1;let g:=c.2.2.2.2.1;let f:=c.2.2.2.2.2.1;let b:=a.2.2.2.1;let d:=ix h a.2.1 zi;let m:=ix d.ak b zec;let l:=(ix d.ac b zA).ax; (cond (ilt b a.2.2.1) (oN (inb b<|ln d.ak)<|oN (inb b<|ln d.ac)<|oN (zgA m l a.1)<|oN (inb b<|ln d.ak)<|p0 (up h a.2.1 ({d with ak:=(up d.ak b<|zlE m l a.1)}:Mon)) λq=>p (a.1,a.2.1,a.2.2.1,zM .i64 b 1,e,c.2.1,q,j,g,f,()))<|cond (ine e<|-1) (oN (zdE g e)<|oN (zdE f e)<|some [aH (⟨j,h,zgc g e,zgc f e⟩:ad)])<|some [aH (⟨j,h,g,f⟩:ad)])) (n,i,ln (ix c.aa i zi).ac,0,k.af,k.an,c.aa,c.ag,c.ao,c.am,()))
def zMh:=zo [(325,0,{n:=71,tm:=[(0,.lp 0 0),(2,ti),(7,.lp 1 0),(8,.ep 0 [] 0),(20,ti),(21,ti)],lo:=[(0,[.sl 1 [],.sl 0 [],.sl 2 [],.sl 3 []]),(1,[ti,ti])],ro:=[(0,.mon,true),(1,.sl .int,true),(2,.entry,true),(3,.entry,true)]})]
def zPu (N:Nat)(c:ad)(a b:Int)(d:k0):zq4 (cQ zth zo6 zBQ z0B) zMh N 12 325 [true,true,true,true] (zbl c) [aI a,aI b,aT .slot d]=zsA N c a b d:=by kernel_rfl
def zLG (c:ad)(d b:Int)(a:k0)(s:zbE big (.agg (zbl c)::[aI d,aI b,aT .slot a]))(r:zfK c d b a=true):∃N,zsA N c d b a=some (.agg (zbl<|zfL c d b a)::[]):=by
 obtain⟨h,g⟩:=zF.1 r;obtain⟨l,q⟩:=zcv h g;have hg:(ix c.aa d mZ).ac.length<=big:=(zcC l.2.2.2.1.1).1;refine zcf λN f=>?_;unfold zsA oN;conv=>zeta
 refine i0 (zD g) ?_;refine(zbp ((ix c.aa d zi).ac) (λi (t:lN)=>(b,d,ln (ix c.aa d zi).ac,(i:Int),a.af,a.an,t,c.ag,c.ao,c.am,())) _ (λi (x:ah) (t:List Mon) j=>z4K d b i t j) (λ(t:lN)=>cond (ine a.af<|-1) (cond (zdE c.ao a.af) (cond (zdE c.am a.af) (some [.agg<|zbl (⟨c.ag,t,zgc c.ao a.af,zgc c.am a.af⟩:ad)]) none) none)<|some [.agg<|zbl (⟨c.ag,t,c.ao,c.am⟩:ad)]) (λi e t rec=>?_) (λt rec=>?_) _ (c.aa)<|f hg).trans ?_;{simp only [zbw e,zbc e,zbn e,zbj e hg,cT];rfl};{simp only [zbq,cF]};obtain⟨k,rfl,m⟩:=zeK (n:=c.aa.length) g;rw[zzU λi t j=>z4K (k:Int) b i t j];have p:c.aa=up c.aa (k:Int) (zkb (ix c.aa (k:Int) mZ) b 0):=(zGY m _).symm;refine(congrArg _ p).trans ((z3d m b l q.2.2.2 _ _ 0<|kB _).trans ?_);show (cond (ine a.af<|-1) _ _)=some [AV.agg<|zbl<|zBD c (k:Int) b a];unfold zBD;cases ine a.af (-1);{rfl};{exact i0 rfl (i0 (zbv h.1.2.2.1) (i0 (zbv h.1.2.2.2) rfl))}
def zFm:zbU Tryz.prog 325 [true,true,true,true] zo7:=by refine zjv (zis zjF zq zu zd5) (ziX (by kernel_rfl)) ?_;intro g a b j i f h;have d:=znu f;unfold zo7 at h;split at h;{obtain⟨e,rfl,rfl⟩:=zpx h;obtain⟨N,c⟩:=zLG _ _ _ _ (by exact d) e;exact⟨rfl,_,N,12,(zPu N _ _ _ _ ).trans c⟩};{cases h}
def z5p:zdb:=[(325,[true,true,true,true],zo7)]++zBQ
def zTf:zce z5p:=zcF zu (by
 intro x a;simp only[qG,qN,or_false]at a;rcases a with rfl
 .exact zFm)
def zgm (h:ad)(m p:Int):ad:={h with aa:=up h.aa m {ix h.aa m mZ with Out:=up (ix h.aa m mZ).Out p (zdc h.ag (ix (ix h.aa m mZ).ae p sZ).af)}}
def zeP (h:ad)(m p:Int):ad:=zcD (zgm h m p) m p A0
def z0v {m:List LI}{p:Int}(h:SmM m):(zdc m p).length<=1048576:=by unfold zdc;cases a:j0 p (ln m);{exact(by decide:zCh.length<=1048576)};{exact h.2 _ (zbJ a _)}
def zzk {h:ad}{m p:Int}(c:Shape h)(d:j0 m (ln h.aa)=true):Shape (zgm h m p):=by obtain⟨a,b⟩:=zcv c d;exact zhB c ⟨a.1,zP6 a.2.1<|z0v c.1.1,a.2.2⟩ ⟨b.1,by simpa using b.2.1,b.2.2⟩
def zB7 {h:ad}{m p:Int}(b:Shape h)(a:j0 m (ln h.aa)=true):Shape (zeP h m p):=zp5 (zfX a) (zzk b a)
@[simp] abbrev zkM (h:ad)(m p:Int):Bool:=pc (Shape h/\j0 m (ln h.aa)=true/\j0 p 8=true)
@[simp] abbrev zn2 (h:ad)(m p:Int):ad:=zeP h m p
def zw6:LW
 |[.agg [.s (.sl .int) b,.s .mon c,.s .entry d,.s .entry e],.one<|.i .i64 f,.one<|.i .i64 g]=>some (zkM (⟨b,c,d,e⟩:ad) f g,[aH<|zn2 (⟨b,c,d,e⟩:ad) f g])
 |_=>none
def zA2 (N:Nat)(a:ad)(b c:Int):OA:=
 let d:=ix a.aa b zi;let e:=(ix d.ae c zX).af; (oN (inb b<|ln a.aa)<|oN (inb b<|ln a.aa)<|oN (inb c<|ln d.ae)<|oN (zfT a.ag e)<|oN (inb c<|ln d.Out)<|p0 (up a.aa b ({d with Out:=(up d.Out c<|zhx a.ag e)}:Mon)) (λg=>let f:=({a with aa:=g}:ad); (oN zbO<|oN (zgN f b c zbm)<|some [aH<|zjm f b c zbm])))
def z1Y (N:Nat)(a:ad)(b c:Int):zGy (cQ zth zo6 z5p z0B) (zo []) N 12 432 [true,true,true,true,false,false] 1 1 [[0],[1],[2],[4],[7]] .mon [aH a,aI b,aI c]=zA2 N a b c:=by kernel_rfl
def zZo (b:ad)(d c:Int)(m:zbE big [aH b,aI d,aI c])(j:zkM b d c=true):∃N,zA2 N b d c=some [aH<|zn2 b d c]:=by
 obtain⟨g,a,f⟩:=zF.1 j;obtain⟨l,e⟩:=zcv g a;obtain⟨k,rfl,h⟩:=zeK (n:=b.aa.length) a;have i:=zzk (p:=c) g a;refine⟨0,?_⟩;unfold zA2 oN;conv=>zeta
 refine i0 (zD a) (i0 (zD a)<|i0 (zD<|zez e.1 f)<|i0 (zbv<|(zsG _).2 g.1.1)<|i0 (zD<|zez e.2.1 f)<|shr (i0 rfl (i0 (zbv ⟨(zQ _).2 i.1,zfX a,?_,?_⟩) rfl)));{simp only [zee h];exact zez e.1 f};{simp only [zee h];exact uD e.2.2.2}
def zR6:zfg Tryz.prog 432 [true,true,true,true,false,false] (some (1,1,[[0],[1],[2],[4],[7]])) zw6:=by refine zol (kt:=.mon) (zis zjF zq zTf zd5) (ziX (by kernel_rfl)) (by kernel_rfl) ?_;intro a g f e h;have c:=zlk e;unfold zw6 at h;split at h;{obtain⟨d,rfl⟩:=zd4 h;obtain⟨N,b⟩:=zZo _ _ _ (by exact c) d;exact⟨⟨_,rfl⟩,rfl,_,N,12,(z1Y N _ _ _ ).trans b⟩};{cases h}
def zy9:LC->LA->Option (Bool×LC×LA)
 |[.s (.sl .int) b,.s .mon c,.s .entry d,.s .entry e],[.one<|.i .i64 f,.one<|.i .i64 g]=>some (zkM (⟨b,c,d,e⟩:ad) f g,zbl<|zn2 (⟨b,c,d,e⟩:ad) f g,[])
 |_,_=>none
def zJ1 (N:Nat)(c:ad)(b a:Int):OA:=
 let d:=ix c.aa b zi;let e:=ix d.ae a zX; (oN (inb b<|ln c.aa)<|oN (inb a<|ln d.ae)<|oN (zfT c.ag e.af)<|oN (inb a<|ln d.Out)<|p0 (up c.aa b ({d with Out:=(up d.Out a<|zhx c.ag e.af)}:Mon)) (λg=>let f:=ix g b zi; (oN zbO<|oN (inb a<|ln f.ae)<|p0 (up g b ({f with ae:=(up f.ae a zbm)}:Mon)) (λi=>let h:=({c with aa:=i}:ad); (oN (zfK h b a e)<|some [aH<|zfL h b a e])))))
def z7Q (N:Nat)(c:ad)(a b:Int):zq4 (cQ zth zo6 z5p z0B) (zo []) N 12 323 [true,true,true,true] (zbl c) [aI a,aI b]=zJ1 N c a b:=by kernel_rfl
def z4Z (c:ad)(e a:Int)(w:zbE big (.agg (zbl c)::[aI e,aI a]))(u:zkM c e a=true):∃N,zJ1 N c e a=some (.agg (zbl<|zn2 c e a)::[]):=by
 obtain⟨l,b,j⟩:=zF.1 u;obtain⟨v,f⟩:=zcv l b;obtain⟨k,rfl,h⟩:=zeK (n:=c.aa.length) b;have m:=zzk (p:=a) l b;have d:j0 (k:Int) (ln (zgm c (k:Int) a).aa)=true:=zfX b;have i:k<(zgm c (k:Int) a).aa.length:=(by simpa [zgm] using h);have g:ix (zgm c (k:Int) a).aa (k:Int) mZ={ix c.aa (k:Int) mZ with Out:=up (ix c.aa (k:Int) mZ).Out a (zdc c.ag (ix (ix c.aa (k:Int) mZ).ae a sZ).af)}:=zee h _ _;have t:Shape {zgm c (k:Int) a with aa:=up (zgm c (k:Int) a).aa (k:Int) {ix (zgm c (k:Int) a).aa (k:Int) mZ with ae:=up (ix (zgm c (k:Int) a).aa (k:Int) mZ).ae a A0}}:=(by obtain⟨q,r⟩:=zcv m d;exact zhB m ⟨by simpa using q.1,q.2⟩ ⟨by simpa using r.1,r.2⟩);refine⟨0,?_⟩;unfold zJ1 oN;conv=>zeta
 refine i0 (zD b) (i0 (zD<|zez f.1 j)<|i0 (zbv<|(zsG _).2 l.1.1)<|i0 (zD<|zez f.2.1 j)<|shr (i0 rfl (i0 ?_<|shr<|i0 (zbv ⟨t,zfX d⟩) ?_)));{rw [zee h];exact zD (zez f.1 j)};{have:=zB8 (p:=a) (s:=A0) i (by rw[g];exact f.2.2.2);rw[g] at this;show some [AV.agg<|zbl<|zBD {zgm c (k:Int) a with aa:=up (zgm c (k:Int) a).aa (k:Int) {ix (zgm c (k:Int) a).aa (k:Int) mZ with ae:=up (ix (zgm c (k:Int) a).aa (k:Int) mZ).ae a A0}} (k:Int) a<|ix (ix c.aa (k:Int) mZ).ae a sZ]=_;rw[g];exact congrArg (λx=>some [AV.agg<|zbl x]) this}
def zYv:zbU Tryz.prog 323 [true,true,true,true] zy9:=by refine zjv (zis zjF zq zTf zd5) (ziX (by kernel_rfl)) ?_;intro g a b j i f h;have d:=znu f;unfold zy9 at h;split at h;{obtain⟨e,rfl,rfl⟩:=zpx h;obtain⟨N,c⟩:=z4Z _ _ _ (by exact d) e;exact⟨rfl,_,N,12,(z7Q N _ _ _ ).trans c⟩};{cases h}
def z5q:zdb:=[(323,[true,true,true,true],zy9)]++z5p
def zTg:zce z5q:=zcF zTf (by
 intro x a;simp only[qG,qN,or_false]at a;rcases a with rfl
 .exact zYv)
def z6h:zgr:=[(432,[true,true,true,true,false,false],some (1,1,[[0],[1],[2],[4],[7]]),zw6)]++z0B
def zTt:zfh z6h:=zqx zd5 (by
 intro x a;simp only[qG,qN,or_false]at a;rcases a with rfl
 .exact zR6)
def cz (l:List k0):Nat:=l.countP λs=>ieq s.af 0
def zH:List Mon->Nat
 |[]=>0
 |m::l=>cz m.ae+zH l
def bit (u:List Bool):Nat:=bif ix u 0 false then 1 else 0
def zzQ (s:k0)(l:List k0):cz (s::l)=cz l+bif ieq s.af 0 then 1 else 0:=by unfold cz;rw[vJ];cases ieq s.af 0<;>rfl
def zbeQ {u:List Bool}{p:Int}(c:0<=p)(a:p.toNat<u.length)(x:Bool):ix (up u p x) 0 false=bif ieq p 0 then x else ix u 0 false:=by unfold ix up;cases h:ieq p 0;{have:p≠0:=(by simpa [ieq] using h);have b:p.toNat≠0:=(by omega);simp[List.getD,jC,b]};{have:p=0:=(by simpa [ieq] using h);subst this;have a:0<u.length:=a;simp[List.getD,jC,a]}
def zGn:∀(l:List k0) (u b:List Bool),(∀s∈l,s.af<12)->u.length=12->ziT l u=some b->cz l+bit u=bit b
 |[],u,b,_,_,h=>by cases h;simp[cz]
 |s::l,u,b,i,k,h=>by
  simp only[ziT]at h;rw[zzQ];cases c:ilt s.af 0;{have c:=qM c;rw[show ilt s.af 0=false from qH (by omega)]at h;simp only[cF]at h;cases d:ix u s.af false;{rw [d]at h;simp only[cF]at h;have g:s.af.toNat<u.length:=(by have:=i s (by simp);omega);have a:=zGn l _ b (λt j=>i t (by simp[j])) (by simpa using k) h;have e:bit (up u s.af true)=bif ieq s.af 0 then 1 else bit u:=(by unfold bit;rw[zbeQ (by omega) g];cases ieq s.af 0<;>rfl);rw[e] at a;cases f:ieq s.af 0;{rw [f] at a;simp only[cF] at a ⊢;omega};{have n:s.af=0:=(by simpa [ieq] using f);rw[n]at d;have:bit u=0:=(by unfold bit;rw[d];rfl);rw[f] at a;simp only[cT] at a ⊢;omega}};{rw [d]at h;cases h}};{have m:=qD c;rw[c]at h;simp only[cT]at h;have a:=zGn l u b (λt j=>i t (by simp[j])) k h;have:ieq s.af 0=false:=(by simp[ieq];omega);rw[this];simpa using a}
def zYz:∀(l:List Mon) (u:List Bool),u.length=12->zlo l u=true->zH l+bit u<=1
 |[],u,_,_=>by unfold zH bit;cases ix u 0 false<;>simp
 |m::l,u,c,h=>by simp only[zlo]at h;cases b:zfQ m;{rw [b]at h;cases h};{rw [b]at h;simp only[cT]at h;cases a:ziT m.ae u with|none=>rw[a]at h;cases h|some d =>rw[a]at h;have e:=zGn _ _ _ (zGR<|zph b) c a;have f:=zYz l d ((zsw _ _ _ a).trans c) h;simp only[zH];omega}
def z7g:∀(l:List k0) (b:Nat) (s:k0),l[b]?=some s->s.af=0->cz (l.set b A0)+1=cz l
 |[],b,s,h,_=>by simp at h
 |t::l,0,s,h,a=>by simp only[qI,qC]at h;subst h;rw[List.set_cons_zero,zzQ,zzQ];have:ieq t.af 0=true:=(by simp[ieq,a]);rw[this];rfl
 |t::l,b+1,s,h,a=>by rw[List.set_cons_succ,zzQ,zzQ];have:=z7g l b s (by simpa using h) a;omega
def z09:∀(l:List Mon) (a:Nat) (x y:Mon),l[a]?=some x->zH (l.set a y)+cz x.ae=zH l+cz y.ae
 |[],a,x,y,h=>by simp at h
 |m::l,0,x,y,h=>by simp only[qI,qC]at h;subst h;rw[List.set_cons_zero];simp only[zH];omega
 |m::l,a+1,x,y,h=>by rw[List.set_cons_succ];have:=z09 l a x y (by simpa using h);simp only[zH];omega
def z4y {l:List k0}(h:cz l=0):zq6 l 0=none:=by unfold zq6;rw[List.findIdx?_eq_none_iff];intro s a;have:=(List.countP_eq_zero.1 h) s a;simpa using this
def zPy:∀(l:List Mon) (i:Nat),zH l=0->zkz 0 l i=(-1,-1)
 |[],_,_=>rfl
 |m::l,i,h=>by simp only[zH]at h;simp only[zkz];rw[z4y (by omega)];exact zPy l (i+1) (by omega)
def z4z {l:List k0}{k:Nat}(h:zq6 l 0=some k):∃s,l[k]?=some s/\s.af=0:=by unfold zq6 at h;rw[u0]at h;obtain⟨a,b,_⟩:=h;exact⟨l[k],qB a,by simpa [ieq] using b⟩
def zJs:∀(l:List Mon) (i:Nat),zkz 0 l i=(-1,-1)\/∃a b x s,zkz 0 l i=(((i+a:Nat):Int),((b:Nat):Int))/\l[a]?=some x/\x.ae[b]?=some s/\s.af=0
 |[],_=>.inl rfl
 |m::l,i=>by
  simp only[zkz];cases h:zq6 m.ae 0 with
  |none=>rcases zJs l (i+1) with c|⟨a,b,x,s,c,d,f,g⟩;{exact .inl c};{refine .inr ⟨a+1,b,x,s,?_,by simpa using d,f,g⟩;have e:i+1+a=i+(a+1):=(by omega);rw[c,e]}
  |some k=>obtain⟨s,c,d⟩:=z4z h;exact .inr ⟨0,k,m,s,rfl,rfl,c,d⟩
def Fit (h:ad):Prop:=Shape h/\0<h.ag.length/\zH h.aa<=1
def zJf {h:ad}(c:0<h.ag.length)(b:ilt (zbQ h 0).1 0=true):inb 0 (ln<|zcL h)=true:=by unfold zcL;obtain⟨n,a⟩:∃n,h.ag.length=n+1:=⟨h.ag.length-1,by omega⟩;rw[a];simp only[zy4];rw[show ilt (zbQ h ((0:Nat):Int)).1 0=true from b];exact qL (by simp only[cT,ln,qY];omega)
def z4E {h:ad}(b:0<h.ag.length)(a:ieq (ln<|zcL h) 0=true):ilt (zbQ h 0).1 0=false:=by cases c:ilt (zbQ h 0).1 0;{rfl};{have d:=qD (zJf b c);have e:ln (zcL h)=0:=(by simpa [ieq] using a);omega}
def zdZ (h:ad):ad:=bif ieq (ln<|zcL h) 0 then zeP h (zbQ h 0).1 (zbQ h 0).2 else h
structure Room (h r:ad):Prop where
 shape:Shape r
 free:inb 0 (ln (zcL r))=true
 len:r.aa.length=h.aa.length
 outer:∀m,(ix r.aa m mZ).ae.length=8\/True
def z7Z {h:ad}(i:Fit h)(f:ieq (ln<|zcL h) 0=true):∃(a b:Nat) (x:Mon) (s:k0),zbQ h 0=((a:Int),(b:Int))/\h.aa[a]?=some x/\x.ae[b]?=some s/\s.af=0:=by have d:=z4E i.2.1 f;have e:zbQ h 0=zkz 0 h.aa 0:=rfl;rcases zJs h.aa 0 with c|⟨a,b,x,s,c,g⟩;{rw [e,c]at d;cases d};{exact⟨a,b,x,s,by rw[e,c,kB],g⟩}
def zGK {h:ad}(d:Fit h)(e:ieq (ln<|zcL h) 0=true):j0 (zbQ h 0).1 (ln h.aa)=true/\j0 (zbQ h 0).2 8=true:=by obtain⟨a,b,x,s,f,c,g,j⟩:=z7Z d e;rw[f];have k:=(qA.1 c).1;have l:=(qA.1 g).1;have i:=d.1.2 x (qJ c);refine⟨qL (by simp only[ln];omega),qL ?_⟩;have:=i.1;show 0<=(b:Int)/\(b:Int)<8;omega
def room {h:ad}(d:Fit h):Room h (zdZ h):=by unfold zdZ;cases g:ieq (ln<|zcL h) 0;{refine⟨d.1,qL ?_,rfl,λ_=>.inr trivial⟩;have:ln (zcL h)≠0:=(by simpa [ieq] using g);show 0<=(0:Int)/\(0:Int)<ln (zcL h);simp only[ln] at *;omega};{obtain⟨n,u⟩:=zGK d g;obtain⟨a,b,x,s,r,i,k,t⟩:=z7Z d g;simp only[cT];rw[r]at n u ⊢;have m:=(qA.1 i).1;have B:=(qA.1 k).1;have j:ix h.aa (a:Int) mZ=x:=(by rw[zbn m];exact(qA.1 i).2);have c:=(zgW (zgm h (a:Int) (b:Int)) (a:Int) (b:Int) A0).1;have q:ix (zgm h (a:Int) (b:Int)).aa (a:Int) mZ={x with Out:=up x.Out (b:Int) (zdc h.ag (ix x.ae (b:Int) sZ).af)}:=(by unfold zgm;rw[zee m,j]);obtain⟨y,l,v⟩:∃y,(zeP h (a:Int) (b:Int)).aa=h.aa.set a y/\y.ae=x.ae.set b A0:=(by unfold zeP;rw[c,q];unfold zgm;rw[zsv];exact⟨_,by simp[up];rfl,by simp[up]⟩);have w:zH (zeP h (a:Int) (b:Int)).aa=0:=(by have p:=z09 h.aa a x y i;have z:=z7g x.ae b s k t;have A:=d.2.2;rw[l];rw[v] at p;omega);have f:(zeP h (a:Int) (b:Int)).ag=h.ag:=(zgW (zgm h (a:Int) (b:Int)) (a:Int) (b:Int) A0).2;refine⟨zB7 d.1 n,zJf (by rw[f];exact d.2.1) ?_,by rw[l];simp,λ_=>.inr trivial⟩;have e:zbQ (zeP h (a:Int) (b:Int)) 0=zkz 0 (zeP h (a:Int) (b:Int)).aa 0:=rfl;rw[e,zPy _ _ w];rfl}
def z0w {m:List LI}{p:Int}{c:LI}(h:SmM m)(a:c.length<=1048576):SmM (zlc m p c):=by unfold zlc;cases j0 p (ln m);{exact h};{cases zdr c;{exact h};{exact zP6 h a}}
def landing (r:ad)(m p to:Int):ad:={r with ag:=zlc r.ag to (ix (ix r.aa m mZ).Out p []),aa:=up r.aa m {ix r.aa m mZ with Out:=up (ix r.aa m mZ).Out p []}}
def zgu (r:ad)(m p to:Int):ad:=zcD (landing r m p to) m p ⟨to,3⟩
def fetched (h:ad)(m p:Int):ad:=zgu (zdZ h) m p (ix (zcL<|zdZ h) 0 0)
def z0x {r:ad}{m p:Int}(e:Shape r)(c:j0 m (ln r.aa)=true)(d:j0 p 8=true):(ix (ix r.aa m mZ).Out p []).length<=1048576:=by obtain⟨a,b⟩:=zcv e c;exact a.2.1.2 _ (zbJ (zez b.2.1 d) _)
def zu1 {r:ad}{m p to:Int}(a:Shape r)(d:j0 m (ln r.aa)=true)(e:j0 p 8=true):Shape (landing r m p to):=by obtain⟨b,c⟩:=zcv a d;exact zU5 (h:={r with aa:=up r.aa m {ix r.aa m mZ with Out:=up (ix r.aa m mZ).Out p []}}) (zhB (x:={ix r.aa m mZ with Out:=up (ix r.aa m mZ).Out p []}) a ⟨b.1,zP6 b.2.1 (by simp),b.2.2⟩ ⟨c.1,by simpa using c.2.1,c.2.2⟩) (z0w a.1.1<|z0x a d e)
def zWX {r:ad}{m p d:Int}(c:Shape r)(a:j0 m (ln r.aa)=true)(b:j0 p 8=true):Shape (zgu r m p d):=zp5 (zfX a) (zu1 c a b)
def zsV {h:ad}(a:Fit h){m:Int}(b:j0 m (ln h.aa)=true):j0 m (ln (zdZ h).aa)=true:=by rw[ln,(room a).len];exact b
def zko {h:ad}{m p:Int}(a:Fit h)(b:j0 m (ln h.aa)=true)(c:j0 p 8=true):Shape (fetched h m p)/\j0 m (ln (fetched h m p).aa)=true :=
 ⟨zWX (room a).shape (zsV a b) c,zJh<|zfX<|zsV a b⟩
@[simp] abbrev zl3 (h:ad)(m p:Int):Bool:=pc (Fit h/\j0 m (ln h.aa)=true/\j0 p 8=true)
@[simp] abbrev zm3 (h:ad)(m p:Int):ad:=fetched h m p
def zzb:LW
 |[.agg [.s (.sl .int) b,.s .mon c,.s .entry d,.s .entry e],.one<|.i .i64 f,.one<|.i .i64 g]=>some (zl3 (⟨b,c,d,e⟩:ad) f g,[aH<|zm3 (⟨b,c,d,e⟩:ad) f g])
 |_=>none
def zEF (N:Nat)(a:ad)(c b:Int):OA:=
 let h:=ix (zdu a) 0 0;let f:=ix a.aa c zi;let d:=zn2 a (zem a 0)<|zfi a 0;let g:=ix (zdu d) 0 0;let e:=ix d.aa c zi; (oN (zgX a)<|cond (ieq (ln<|zdu a) 0) (oN (zgT a 0)<|oN (zkM a (zem a 0)<|zfi a 0)<|oN (zgX d)<|oN (inb 0<|ln<|zdu d)<|oN (inb c<|ln d.aa)<|oN (inb b<|ln e.Out)<|oN (zgY d.ag g<|ix e.Out b [])<|oN (inb c<|ln d.aa)<|oN (inb b<|ln e.Out)<|p0 (up d.aa c ({e with Out:=(up e.Out b [])}:Mon)) (λi=>let j:=({d with ag:=(zfV d.ag g<|ix e.Out b []),aa:=i}:ad); (oN (zgN j c b (⟨g,3⟩:k0))<|some [aH<|zjm j c b (⟨g,3⟩:k0)])))<|oN (zgX a)<|oN (inb 0<|ln<|zdu a)<|oN (inb c<|ln a.aa)<|oN (inb b<|ln f.Out)<|oN (zgY a.ag h<|ix f.Out b [])<|oN (inb c<|ln a.aa)<|oN (inb b<|ln f.Out)<|p0 (up a.aa c ({f with Out:=(up f.Out b [])}:Mon)) (λi=>let k:=({a with ag:=(zfV a.ag h<|ix f.Out b []),aa:=i}:ad); (oN (zgN k c b (⟨h,3⟩:k0))<|some [aH<|zjm k c b (⟨h,3⟩:k0)])))
def z5f (N:Nat)(a:ad)(b c:Int):zGy (cQ zth zo6 z5q z6h) (zo []) N 12 361 [true,true,true,true,false,false] 1 1 [[0],[1],[2],[4],[7]] .mon [aH a,aI b,aI c]=zEF N a b c:=by kernel_rfl
def z1U (c:ad)(b d:Int)(z:zbE big [aH c,aI b,aI d])(u:zl3 c b d=true):∃N,zEF N c b d=some [aH<|zm3 c b d]:=by
 obtain⟨h,v,i⟩:=zF.1 u;have e:∀r,Shape r->inb 0 (ln<|zcL r)=true->j0 b (ln r.aa)=true->(cond (zgX r) (cond (inb 0<|ln<|zdu r) (cond (inb b<|ln r.aa) (cond (inb d<|ln (ix r.aa b zi).Out) (cond (zgY r.ag (ix (zdu r) 0 0)<|ix (ix r.aa b zi).Out d []) (cond (inb b<|ln r.aa) (cond (inb d<|ln (ix r.aa b zi).Out) (p0 (up r.aa b ({ (ix r.aa b zi) with Out:=(up (ix r.aa b zi).Out d [])}:Mon)) λs=>cond (zgN ({r with ag:=(zfV r.ag (ix (zdu r) 0 0)<|ix (ix r.aa b zi).Out d []),aa:=s}:ad) b d (⟨ix (zdu r) 0 0,3⟩:k0)) (some [AV.agg<|zbl<|zjm ({r with ag:=(zfV r.ag (ix (zdu r) 0 0)<|ix (ix r.aa b zi).Out d []),aa:=s}:ad) b d (⟨ix (zdu r) 0 0,3⟩:k0)]) none) none) none) none) none) none) none) none)=some [AV.agg<|zbl<|zgu r b d<|ix (zcL r) 0 0]:=(by intro r j f a;obtain⟨y,l⟩:=zcv j a;have t:=zu1 (to:=ix (zcL r) 0 0) j a i;obtain⟨k,rfl,q⟩:=zeK (n:=r.aa.length) a;refine i0 (zbv j.1.1.1) (i0 f<|i0 (zD a)<|i0 (zD<|zez l.2.1 i)<|i0 (zbv ⟨j.1.1,z0x j a i⟩)<|i0 (zD a)<|i0 (zD<|zez l.2.1 i)<|shr (i0 (zbv ⟨(zQ _).2 t.1,zfX a,?_,?_⟩) rfl));{simp only [zee q];exact zez l.1 i};{simp only [zee q];exact uD l.2.2.2});have g:=room h;have a:=zsV h v;refine⟨0,?_⟩;unfold zEF zm3 fetched oN;conv=>zeta
 refine i0 (zbv h.1.1.1.1) ?_;cases p:ieq (ln<|zdu c) 0;{have m:zdZ c=c:=(by unfold zdZ;rw[show ieq (ln<|zcL c) 0=false from p];rfl);rw[m]at g a ⊢;exact e c g.shape g.free a};{obtain⟨w,x⟩:=zGK h p;have m:zdZ c=zeP c (zbQ c 0).1 (zbQ c 0).2:=(by unfold zdZ;rw[show ieq (ln<|zcL c) 0=true from p];rfl);rw[m]at g a ⊢;exact i0 rfl (i0 rfl (i0 (zbv ⟨h.1,w,x⟩)<|e _ g.shape g.free a))}
def zVJ:zfg Tryz.prog 361 [true,true,true,true,false,false] (some (1,1,[[0],[1],[2],[4],[7]])) zzb:=by refine zol (kt:=.mon) (zis zjF zq zTg zTt) (ziX (by kernel_rfl)) (by kernel_rfl) ?_;intro a g f e h;have c:=zlk e;unfold zzb at h;split at h;{obtain⟨d,rfl⟩:=zd4 h;obtain⟨N,b⟩:=z1U _ _ _ (by exact c) d;exact⟨⟨_,rfl⟩,rfl,_,N,12,(z5f N _ _ _ ).trans b⟩};{cases h}
@[simp] abbrev zuM (h:ad):Bool:=pc (Shape h/\j0 (zbQ h 0).1 (ln h.aa)=true/\j0 (zbQ h 0).2 8=true)
@[simp] abbrev zuN (h:ad):ad:=zeP h (zbQ h 0).1 (zbQ h 0).2
def zqh:LC->LA->Option (Bool×LC×LA)
 |[.s (.sl .int) b,.s .mon c,.s .entry d,.s .entry e],[]=>some (zuM (⟨b,c,d,e⟩:ad),zbl<|zuN (⟨b,c,d,e⟩:ad),[])
 |_,_=>none
def zuA (N:Nat)(c:ad)  : OA :=
 (oN (zgT c 0)<|oN (zkM c (zem c 0)<|zfi c 0)<|some [aH<|zn2 c (zem c 0)<|zfi c 0])
def zTa (N:Nat)(c:ad)  : zq4 (cQ zth zo6 z5q z6h) (zo []) N 12 428 [true,true,true,true] (zbl c) []=zuA N c:=by kernel_rfl
def zO2 (c:ad)(d:zbE big (.agg (zbl c)::[]))(a:zuM c=true):∃N,zuA N c=some (.agg (zbl<|zuN c)::[]):=by have b:=zF.1 a;refine⟨0,?_⟩;unfold zuA oN;exact i0 rfl (i0 (zbv b) rfl)
def zHb:zbU Tryz.prog 428 [true,true,true,true] zqh:=by refine zjv (zis zjF zq zTg zTt) (ziX (by kernel_rfl)) ?_;intro g a b j i f h;have d:=znu f;unfold zqh at h;split at h;{obtain⟨e,rfl,rfl⟩:=zpx h;obtain⟨N,c⟩:=zO2 _ (by exact d) e;exact⟨rfl,_,N,12,(zTa N _ ).trans c⟩};{cases h}
def pctC:zdb:=[(428,[true,true,true,true],zqh)]++z5q
def z3u:zce pctC:=zcF zTg (by
 intro x a;simp only[qG,qN,or_false]at a;rcases a with rfl
 .exact zHb)
def z0C:zgr:=[(361,[true,true,true,true,false,false],some (1,1,[[0],[1],[2],[4],[7]]),zzb)]++z6h
def zGW:zfh z0C:=zqx zTt (by
 intro x a;simp only[qG,qN,or_false]at a;rcases a with rfl
 .exact zVJ)
def z3Y {r:ad}{m p to:Int}(d:Shape r)(b:j0 m (ln r.aa)=true):zBD {landing r m p to with aa:=up (landing r m p to).aa m {ix (landing r m p to).aa m mZ with ae:=up (ix (landing r m p to).aa m mZ).ae p ⟨to,3⟩}} m p (ix (ix (landing r m p to).aa m mZ).ae p sZ)=zgu r m p to:=by obtain⟨e,c⟩:=zcv d b;obtain⟨k,rfl,a⟩:=zeK (n:=r.aa.length) b;refine zB8 (h:=landing r (k:Int) p to) (by simpa [landing] using a) ?_;unfold landing;simp only[zee a];exact c.2.2.2
def z2z {r:ad}{m p to:Int}(f:Shape r)(b:j0 m (ln r.aa)=true)(e:j0 p 8=true):Shape {landing r m p to with aa:=up (landing r m p to).aa m {ix (landing r m p to).aa m mZ with ae:=up (ix (landing r m p to).aa m mZ).ae p ⟨to,3⟩}}:=by have a:=zu1 (to:=to) f b e;obtain⟨c,d⟩:=zcv a (zfX b);exact zhB a ⟨by simpa using c.1,c.2⟩ ⟨by simpa using d.1,d.2⟩
def zwX:LC->LA->Option (Bool×LC×LA)
 |[.s (.sl .int) b,.s .mon c,.s .entry d,.s .entry e],[.one<|.i .i64 f,.one<|.i .i64 g]=>some (zl3 (⟨b,c,d,e⟩:ad) f g,zbl<|zm3 (⟨b,c,d,e⟩:ad) f g,[])
 |_,_=>none
def zEc (N:Nat)(c:ad)(b a:Int):OA:=
 let m:=ix (zdu c) 0 0;let d:=zuN c;let l:=ix (zdu d) 0 0;let f:=ix c.aa b zi;let e:=ix d.aa b zi; (oN (zgX c)<|cond (ieq (ln<|zdu c) 0) (oN (zuM c)<|oN (inb b<|ln d.aa)<|oN (zgX d)<|oN (inb 0<|ln<|zdu d)<|oN (inb a<|ln e.Out)<|oN (zgY d.ag l<|ix e.Out a [])<|oN (inb a<|ln e.Out)<|p0 (up d.aa b ({e with Out:=(up e.Out a [])}:Mon)) (λg=>let i:=ix g b zi;let q:=ix i.ae a zX; (oN (inb a<|ln i.ae)<|oN (inb a<|ln i.ae)<|p0 (up g b ({i with ae:=(up i.ae a (⟨l,3⟩:k0))}:Mon)) (λk=>let n:=({d with ag:=(zfV d.ag l<|ix e.Out a []),aa:=k}:ad); (oN (zfK n b a q)<|some [aH<|zfL n b a q])))))<|oN (inb b<|ln c.aa)<|oN (zgX c)<|oN (inb 0<|ln<|zdu c)<|oN (inb a<|ln f.Out)<|oN (zgY c.ag m<|ix f.Out a [])<|oN (inb a<|ln f.Out)<|p0 (up c.aa b ({f with Out:=(up f.Out a [])}:Mon)) (λg=>let j:=ix g b zi;let h:=ix j.ae a zX; (oN (inb a<|ln j.ae)<|oN (inb a<|ln j.ae)<|p0 (up g b ({j with ae:=(up j.ae a (⟨m,3⟩:k0))}:Mon)) (λk=>let p:=({c with ag:=(zfV c.ag m<|ix f.Out a []),aa:=k}:ad); (oN (zfK p b a h)<|some [aH<|zfL p b a h])))))
def z5e (N:Nat)(c:ad)(a b:Int):zq4 (cQ zth zo6 pctC z0C) (zo []) N 12 324 [true,true,true,true] (zbl c) [aI a,aI b]=zEc N c a b:=by kernel_rfl
def z1I (c:ad)(b d:Int)(F:zbE big (.agg (zbl c)::[aI b,aI d]))(w:zl3 c b d=true):∃N,zEc N c b d=some (.agg (zbl<|zm3 c b d)::[]):=by
 obtain⟨j,B,l⟩:=zF.1 w;have e:∀r,Shape r->inb 0 (ln<|zcL r)=true->j0 b (ln r.aa)=true->(cond (inb b<|ln r.aa) (cond (zgX r) (cond (inb 0<|ln<|zdu r) (cond (inb d<|ln (ix r.aa b zi).Out) (cond (zgY r.ag (ix (zdu r) 0 0)<|ix (ix r.aa b zi).Out d []) (cond (inb d<|ln (ix r.aa b zi).Out) (p0 (up r.aa b ({ (ix r.aa b zi) with Out:=(up (ix r.aa b zi).Out d [])}:Mon)) λg=>cond (inb d<|ln (ix g b zi).ae) (cond (inb d<|ln (ix g b zi).ae) (p0 (up g b ({ (ix g b zi) with ae:=(up (ix g b zi).ae d (⟨ix (zdu r) 0 0,3⟩:k0))}:Mon)) λu=>cond (zfK ({r with ag:=(zfV r.ag (ix (zdu r) 0 0)<|ix (ix r.aa b zi).Out d []),aa:=u}:ad) b d<|ix (ix g b zi).ae d zX) (some [AV.agg<|zbl<|zfL ({r with ag:=(zfV r.ag (ix (zdu r) 0 0)<|ix (ix r.aa b zi).Out d []),aa:=u}:ad) b d<|ix (ix g b zi).ae d zX]) none) none) none) none) none) none) none) none) none)=some [AV.agg<|zbl<|zgu r b d<|ix (zcL r) 0 0]:=(by intro r i f a;obtain⟨E,q⟩:=zcv i a;have v:=z2z (to:=ix (zcL r) 0 0) i a l;have hE:=z3Y (p:=d) (to:=ix (zcL r) 0 0) i a;obtain⟨k,rfl,A⟩:=zeK (n:=r.aa.length) a;have z:∀(x y:Mon),j0 (k:Int) (ln<|up (up r.aa (k:Int) x) (k:Int) y)=true:=λx y=>(by simpa [ln] using a);have t:inb d (ln (ix (up r.aa (k:Int) {ix r.aa (k:Int) mZ with Out:=up (ix r.aa (k:Int) mZ).Out d []}) (k:Int) mZ).ae)=true:=(by rw[zee A];exact zD (zez q.1 l));refine i0 (zD a) (i0 (zbv i.1.1.1)<|i0 f<|i0 (zD<|zez q.2.1 l)<|i0 (zbv ⟨i.1.1,z0x i a l⟩)<|i0 (zD<|zez q.2.1 l)<|shr<|i0 t<|i0 t<|shr<|i0 (zbv ⟨v,z _ _⟩) ?_);exact congrArg (λx=>some [AV.agg<|zbl x]) hE);have h:=room j;have a:=zsV j B;refine⟨0,?_⟩;unfold zEc zm3 fetched oN;conv=>zeta
 refine i0 (zbv j.1.1.1.1) ?_;cases s:ieq (ln<|zdu c) 0;{have m:zdZ c=c:=(by unfold zdZ;rw[show ieq (ln<|zcL c) 0=false from s];rfl);rw[m]at h a ⊢;exact e c h.shape h.free a};{obtain⟨C,D⟩:=zGK j s;have m:zdZ c=zeP c (zbQ c 0).1 (zbQ c 0).2:=(by unfold zdZ;rw[show ieq (ln<|zcL c) 0=true from s];rfl);rw[m]at h a ⊢;exact i0 rfl (i0 (zbv ⟨j.1,C,D⟩)<|e _ h.shape h.free a)}
def zVv:zbU Tryz.prog 324 [true,true,true,true] zwX:=by refine zjv (zis zjF zq z3u zGW) (ziX (by kernel_rfl)) ?_;intro g a b j i f h;have d:=znu f;unfold zwX at h;split at h;{obtain⟨e,rfl,rfl⟩:=zpx h;obtain⟨N,c⟩:=z1I _ _ _ (by exact d) e;exact⟨rfl,_,N,12,(z5e N _ _ _ ).trans c⟩};{cases h}
def z5r:zdb:=[(324,[true,true,true,true],zwX)]++pctC
def zTh:zce z5r:=zcF z3u (by
 intro x a;simp only[qG,qN,or_false]at a;rcases a with rfl
 .exact zVv)
def zcl (h:ad)(m p:Int):ad:={h with aa:=up h.aa m {ix h.aa m mZ with av:=up (ix h.aa m mZ).av p true}}
def opened (h:ad)(m p:Int):ad:=bif ieq (wand .i64 (ix (ix h.aa m mZ).ae p sZ).an 2) 0 then zcD h m p ⟨(ix (ix h.aa m mZ).ae p sZ).af,3⟩ else h
def zoq (h:ad)(m p n:Int):ad:=bif ieq (wand .i64 n 2) 0 then h else opened (zcl h m p) m p
def mended (h:ad)(m p n:Int):ad:=bif ieq (ix (ix h.aa m mZ).ae p sZ).af (-1) then zoq (fetched h m p) m p n else zoq h m p n
def zbdp {r:Int}(a:0<=r)(b:r<=3):enough r 2 = !ieq (wand .i64 r 2) 0:=by have:r=0\/r=1\/r=2\/r=3:=(by omega);rcases this with rfl|rfl|rfl|rfl<;>rfl
structure SlotFit (s:k0):Prop where
 no:zdz s A0=ieq s.af (-1)
 lo:0<=s.an
 hi:s.an<=3
def z6b {s:k0}{n:Int}(h:zfZ s n=true):SlotFit s:=by refine⟨zU6 h,?_,?_⟩<;>unfold zfZ at h<;>cases a:zdz s A0;{rw [a]at h;simp only[cF,zd1]at h;have:=(zff.1 h.2.2).1;omega};{unfold zdz at a;rw[qE]at a;have:s.an=0:=qD a.2;omega};{rw [a]at h;simp only[cF,zd1]at h;have:=(zff.1 h.2.2).2;omega};{unfold zdz at a;rw[qE]at a;have:s.an=0:=qD a.2;omega}
def zp4 {h:ad}{m p:Int}(c:Shape h)(d:j0 m (ln h.aa)=true):Shape (zcl h m p):=by obtain⟨a,b⟩:=zcv c d;exact zhB c ⟨a.1,a.2.1,by simpa using a.2.2.1,a.2.2.2⟩ ⟨b.1,b.2.1,by simpa using b.2.2.1,b.2.2.2⟩
def z0k {h:ad}{m p:Int}(b:Shape h)(a:j0 m (ln h.aa)=true):Shape (opened h m p)/\j0 m (ln (opened h m p).aa)=true:=by unfold opened;cases ieq (wand .i64 (ix (ix h.aa m mZ).ae p sZ).an 2) 0;{exact⟨b,a⟩};{exact⟨zp5 a b,zJh a⟩}
def zJO {h:ad}{m p n:Int}(b:Shape h)(a:j0 m (ln h.aa)=true):Shape (zoq h m p n)/\j0 m (ln (zoq h m p n).aa)=true:=by unfold zoq;cases ieq (wand .i64 n 2) 0;{exact z0k (zp4 b a) (zfX a)};{exact⟨b,a⟩}
def zst {h:ad}{m p n:Int}(a:Fit h)(b:j0 m (ln h.aa)=true)(e:j0 p 8=true):Shape (mended h m p n)/\j0 m (ln (mended h m p n).aa)=true:=by unfold mended;cases ieq (ix (ix h.aa m mZ).ae p sZ).af (-1);{exact zJO a.1 b};{obtain⟨c,d⟩:=zko a b e;exact zJO c d}
def zYg {h:ad}{m p:Int}(c:Fit h)(g:j0 m (ln h.aa)=true)(j:j0 p 8=true):(ix (ix (fetched h m p).aa m mZ).ae p sZ).an=3:=by have f:=room c;have a:=zsV c g;obtain⟨r,e⟩:=zcv f.shape a;obtain⟨k,rfl,d⟩:=zeK (n:=(zdZ h).aa.length) a;obtain⟨q,rfl,l⟩:=zeK (n:=8) j;unfold fetched zgu;rw[(zgW _ _ _ _).1];have b:k<(landing (zdZ h) (k:Int) (q:Int)<|ix (zcL<|zdZ h) 0 0).aa.length:=(by simpa [landing] using d);rw[zee b];have i:q<(ix (landing (zdZ h) (k:Int) (q:Int)<|ix (zcL<|zdZ h) 0 0).aa (k:Int) mZ).ae.length:=(by unfold landing;rw[zee d];show q<(ix (zdZ h).aa (k:Int) mZ).ae.length;rw[e.1];exact l);show (ix (up (ix (landing (zdZ h) (k:Int) (q:Int)<|ix (zcL<|zdZ h) 0 0).aa (k:Int) mZ).ae (q:Int) ⟨_,3⟩) (q:Int) sZ).an=3;rw[zee i]
def zXE (h:ad)(m p n:Int):Prop:=Fit h/\j0 m (ln h.aa)=true/\j0 p 8=true/\(n=1\/n=2\/n=3)/\SlotFit (ix (ix h.aa m mZ).ae p sZ)
@[simp] abbrev zh1 (h:ad)(m p n:Int):Bool:=pc (zXE h m p n)
@[simp] abbrev zgE (h:ad)(m p n:Int):ad:=mended h m p n
def zuV:LW
 |[.agg [.s (.sl .int) b,.s .mon c,.s .entry d,.s .entry e],.one<|.i .i64 f,.one<|.i .i64 g,.one<|.i .i64 h]=>some (zh1 (⟨b,c,d,e⟩:ad) f g h,[aH<|zgE (⟨b,c,d,e⟩:ad) f g h])
 |_=>none
def zyV (N:Nat)(c:ad)(a b l:Int):OA:=
 let h:=zm3 c a b;let k:=ix h.aa a zi;let e:=ix c.aa a zi;let p:=ix e.ae b zX; (oN (inb a<|ln c.aa)<|oN (inb b<|ln e.ae)<|oN zbO<|cond (cond (ieq p.af zbm.af) (ieq p.an zbm.an) false) (oN (zl3 c a b)<|cond (ieq (wand .i64 l 2) 0) (some [aH h])<|oN (inb a<|ln h.aa)<|oN (inb b<|ln k.av)<|p0 (up h.aa a ({k with av:=(up k.av b true)}:Mon)) (λd=>let q:=(ix d a zi).ae;let i:=({h with aa:=d}:ad);let m:=ix q b zX;let r:=({m with an:=3}:k0); (oN (inb a<|ln d)<|oN (inb b<|ln q)<|cond (ieq (wand .i64 m.an 2) 0) (oN (zgN i a b r)<|some [aH<|zjm i a b r])<|some [aH i])))<|cond (ieq (wand .i64 l 2) 0) (some [aH c])<|oN (inb a<|ln c.aa)<|oN (inb b<|ln e.av)<|p0 (up c.aa a ({e with av:=(up e.av b true)}:Mon)) (λd=>let f:=(ix d a zi).ae;let j:=({c with aa:=d}:ad);let n:=ix f b zX;let g:=({n with an:=3}:k0); (oN (inb a<|ln d)<|oN (inb b<|ln f)<|cond (ieq (wand .i64 n.an 2) 0) (oN (zgN j a b g)<|some [aH<|zjm j a b g])<|some [aH j])))
def zZx (N:Nat)(a:ad)(b c d:Int):zGy (cQ zth zo6 z5r z0C) (zo []) N 12 183 [true,true,true,true,false,false,false] 1 1 [[0],[1],[2],[4],[7]] .mon [aH a,aI b,aI c,aI d]=zyV N a b c d:=by kernel_rfl
def zWF (d:ad)(b a h:Int)(C:zbE big [aH d,aI b,aI a,aI h])(z:zh1 d b a h=true):∃N,zyV N d b a h=some [aH<|zgE d b a h]:=by
 obtain⟨l,j,i,D,A⟩:=zF.1 z;obtain⟨B,v⟩:=zcv l.1 j;have f:∀r,Shape r->j0 b (ln r.aa)=true->(cond (ieq (wand .i64 h 2) 0) (some [AV.agg<|zbl r])<|cond (inb b<|ln r.aa) (cond (inb a<|ln (ix r.aa b zi).av) (p0 (up r.aa b ({ (ix r.aa b zi) with av:=(up (ix r.aa b zi).av a true)}:Mon)) λg=>cond (inb b<|ln g) (cond (inb a<|ln (ix g b zi).ae) (cond (ieq (wand .i64 (ix (ix g b zi).ae a zX).an 2) 0) (cond (zgN ({r with aa:=g}:ad) b a ({ (ix (ix g b zi).ae a zX) with an:=3}:k0)) (some [AV.agg<|zbl<|zjm ({r with aa:=g}:ad) b a ({ (ix (ix g b zi).ae a zX) with an:=3}:k0)]) none)<|some [AV.agg<|zbl ({r with aa:=g}:ad)]) none) none) none) none)=some [AV.agg<|zbl<|zoq r b a h]:=(by intro r u c;obtain⟨E,m⟩:=zcv u c;have y:=zp4 (p:=a) u c;unfold zoq;cases w:ieq (wand .i64 h 2) 0;{obtain⟨k,rfl,t⟩:=zeK (n:=r.aa.length) c;have q:ix (zcl r (k:Int) a).aa (k:Int) mZ={ix r.aa (k:Int) mZ with av:=up (ix r.aa (k:Int) mZ).av a true}:=zee t _ _;refine zb9 rfl (i0 (zD c)<|i0 (zD<|zez m.2.2.1 i)<|shr<|i0 (zD<|zfX c)<|i0 ?_ ?_);{rw [zee t];exact zD (zez m.1 i)};{unfold opened;show (cond (ieq (wand .i64 (ix (ix (zcl r (k:Int) a).aa (k:Int) mZ).ae a sZ).an 2) 0) _ _)=_;cases s:ieq (wand .i64 (ix (ix (zcl r (k:Int) a).aa (k:Int) mZ).ae a sZ).an 2) 0;{rfl};{refine i0 rfl (i0 (zbv ⟨(zQ _).2 y.1,zfX c,?_,?_⟩) rfl);{show j0 a (ln (ix (zcl r (k:Int) a).aa (k:Int) mZ).ae)=true;rw[q];exact zez m.1 i};{show (ix (zcl r (k:Int) a).aa (k:Int) mZ).ak.length<=(ix (zcl r (k:Int) a).aa (k:Int) mZ).ac.length;rw[q];exact uD m.2.2.2}}}};{rfl});refine⟨0,?_⟩;unfold zyV zgE mended oN;conv=>zeta
 refine i0 (zD j) (i0 (zD<|zez v.1 i) (i0 rfl ?_));have e:(cond (ieq (ix (ix d.aa b mZ).ae a sZ).af zbm.af) (ieq (ix (ix d.aa b mZ).ae a sZ).an zbm.an) false)=ieq (ix (ix d.aa b mZ).ae a sZ).af (-1):=(by rw[<- A.no];unfold zdz zbm;cases ieq (ix (ix d.aa b mZ).ae a sZ).af A0.af<;>rfl);rw[e];cases w:ieq (ix (ix d.aa b mZ).ae a sZ).af (-1);{exact f d l.1 j};{obtain⟨s,x⟩:=zko (p:=a) l j i;exact i0 rfl (i0 (zbv ⟨l,j,i⟩)<|f _ s x)}
def zOG:zfg Tryz.prog 183 [true,true,true,true,false,false,false] (some (1,1,[[0],[1],[2],[4],[7]])) zuV:=by refine zol (kt:=.mon) (zis zjF zq zTh zGW) (ziX (by kernel_rfl)) (by kernel_rfl) ?_;intro a g f e h;have c:=zlk e;unfold zuV at h;split at h;{obtain⟨d,rfl⟩:=zd4 h;obtain⟨N,b⟩:=zWF _ _ _ _ (by exact c) d;exact⟨⟨_,rfl⟩,rfl,_,N,12,(zZx N _ _ _ _ ).trans b⟩};{cases h}
def zy8:LC->LA->Option (Bool×LC×LA)
 |[.s (.sl .int) b,.s .mon c,.s .entry d,.s .entry e],[.one<|.i .i64 f,.one<|.i .i64 g,.one<|.i .i64 h]=>some (zh1 (⟨b,c,d,e⟩:ad) f g h,zbl<|zgE (⟨b,c,d,e⟩:ad) f g h,[])
 |_,_=>none
def zJ0 (N:Nat)(c:ad)(b a k:Int):OA:=
 let e:=zm3 c b a;let m:=ix e.aa b zi;let h:=ix c.aa b zi; (oN (inb b<|ln c.aa)<|oN (inb a<|ln h.ae)<|cond (ieq (ix h.ae a zX).af<|-1) (oN (zl3 c b a)<|oN (zbi k 2)<|cond (nB<|zds k 2) (some [aH e])<|oN (inb b<|ln e.aa)<|oN (inb a<|ln m.av)<|p0 (up e.aa b ({m with av:=(up m.av a true)}:Mon)) (λd=>let i:=ix d b zi;let f:=ix i.ae a zX; (oN (inb a<|ln i.ae)<|oN (zbi f.an 2)<|cond (nB<|zds f.an 2) (oN (inb a<|ln i.ae)<|p0 (up d b ({i with ae:=(up i.ae a ({f with an:=3}:k0))}:Mon)) (λl=>let n:=({e with aa:=l}:ad); (oN (zfK n b a f)<|some [aH<|zfL n b a f])))<|some [aH ({e with aa:=d}:ad)])))<|oN (zbi k 2)<|cond (nB<|zds k 2) (some [aH c])<|oN (inb b<|ln c.aa)<|oN (inb a<|ln h.av)<|p0 (up c.aa b ({h with av:=(up h.av a true)}:Mon)) (λd=>let j:=ix d b zi;let g:=ix j.ae a zX; (oN (inb a<|ln j.ae)<|oN (zbi g.an 2)<|cond (nB<|zds g.an 2) (oN (inb a<|ln j.ae)<|p0 (up d b ({j with ae:=(up j.ae a ({g with an:=3}:k0))}:Mon)) (λl=>let p:=({c with aa:=l}:ad); (oN (zfK p b a g)<|some [aH<|zfL p b a g])))<|some [aH ({c with aa:=d}:ad)])))
def z7P (N:Nat)(c:ad)(a b d:Int):zq4 (cQ zth zo6 z5r z0C) (zo []) N 12 181 [true,true,true,true] (zbl c) [aI a,aI b,aI d]=zJ0 N c a b d:=by kernel_rfl
def z4Y (c:ad)(b a f:Int)(R:zbE big (.agg (zbl c)::[aI b,aI a,aI f]))(M:zh1 c b a f=true):∃N,zJ0 N c b a f=some (.agg (zbl<|zgE c b a f)::[]):=by
 obtain⟨l,i,j,P,C⟩:=zF.1 M;obtain⟨Q,I⟩:=zcv l.1 i;have H:enough f 2 = !ieq (wand .i64 f 2) 0:=(by rcases P with rfl|rfl|rfl<;>rfl);have g:∀r,Shape r->j0 b (ln r.aa)=true->enough (ix (ix r.aa b mZ).ae a sZ).an 2=(!ieq (wand .i64 (ix (ix r.aa b mZ).ae a sZ).an 2) 0)->(cond (zbi f 2) (cond (cond (zds f 2) false true) (some [AV.agg<|zbl r])<|cond (inb b<|ln r.aa) (cond (inb a<|ln (ix r.aa b zi).av) (p0 (up r.aa b ({ (ix r.aa b zi) with av:=(up (ix r.aa b zi).av a true)}:Mon)) λe=>cond (inb a<|ln (ix e b zi).ae) (cond (zbi (ix (ix e b zi).ae a zX).an 2) (cond (cond (zds (ix (ix e b zi).ae a zX).an 2) false true) (cond (inb a<|ln (ix e b zi).ae) (p0 (up e b ({ (ix e b zi) with ae:=(up (ix e b zi).ae a ({ (ix (ix e b zi).ae a zX) with an:=3}:k0))}:Mon)) λF=>cond (zfK ({r with aa:=F}:ad) b a<|ix (ix e b zi).ae a zX) (some [AV.agg<|zbl<|zfL ({r with aa:=F}:ad) b a<|ix (ix e b zi).ae a zX]) none) none)<|some [AV.agg<|zbl ({r with aa:=e}:ad)]) none) none) none) none) none)=some [AV.agg<|zbl<|zoq r b a f]:=(by intro r B d q;obtain⟨S,u⟩:=zcv B d;have w:=zp4 (p:=a) B d;unfold zoq;simp only[zbi,zds,H,cT];cases J:ieq (wand .i64 f 2) 0;{obtain⟨k,rfl,A⟩:=zeK (n:=r.aa.length) d;have m:ix (zcl r (k:Int) a).aa (k:Int) mZ={ix r.aa (k:Int) mZ with av:=up (ix r.aa (k:Int) mZ).av a true}:=zee A _ _;have t:k<(zcl r (k:Int) a).aa.length:=(by simpa [zcl] using A);have z:inb a (ln (ix (zcl r (k:Int) a).aa (k:Int) mZ).ae)=true:=(by rw[m];exact zD (zez u.1 j));refine zb9 rfl (i0 (zD d)<|i0 (zD<|zez u.2.2.1 j)<|shr<|i0 z ?_);unfold opened;show (cond (cond (enough (ix (ix (zcl r (k:Int) a).aa (k:Int) mZ).ae a sZ).an 2) false true) _ _)=_;have G:(cond (enough (ix (ix (zcl r (k:Int) a).aa (k:Int) mZ).ae a sZ).an 2) false true)=ieq (wand .i64 (ix (ix (zcl r (k:Int) a).aa (k:Int) mZ).ae a sZ).an 2) 0:=(by rw[m];show (cond (enough (ix (ix r.aa (k:Int) mZ).ae a sZ).an 2) false true)=ieq (wand .i64 (ix (ix r.aa (k:Int) mZ).ae a sZ).an 2) 0;rw[q];cases ieq (wand .i64 (ix (ix r.aa (k:Int) mZ).ae a sZ).an 2) 0<;>rfl);rw[G];cases v:ieq (wand .i64 (ix (ix (zcl r (k:Int) a).aa (k:Int) mZ).ae a sZ).an 2) 0;{rfl};{have L:Shape {zcl r (k:Int) a with aa:=up (zcl r (k:Int) a).aa (k:Int) {ix (zcl r (k:Int) a).aa (k:Int) mZ with ae:=up (ix (zcl r (k:Int) a).aa (k:Int) mZ).ae a ⟨(ix (ix (zcl r (k:Int) a).aa (k:Int) mZ).ae a sZ).af,3⟩}}:=(by obtain⟨D,E⟩:=zcv w (zfX d);exact zhB w ⟨by simpa using D.1,D.2⟩ ⟨by simpa using E.1,E.2⟩);have O:∀(x y:Mon),j0 (k:Int) (ln<|up (up r.aa (k:Int) x) (k:Int) y)=true:=λx y=>(by simpa [ln] using d);refine i0 rfl (i0 z<|shr<|i0 (zbv ⟨L,O _ _⟩) ?_);exact congrArg (λx=>some [AV.agg<|zbl x]) (zB8 (h:=zcl r (k:Int) a) (p:=a) (s:=⟨(ix (ix (zcl r (k:Int) a).aa (k:Int) mZ).ae a sZ).af,3⟩) t (by rw[m];exact u.2.2.2))}};{rfl});refine⟨0,?_⟩;unfold zJ0 zgE mended oN nB;conv=>zeta
 refine i0 (zD i) (i0 (zD<|zez I.1 j) ?_);cases J:ieq (ix (ix c.aa b mZ).ae a sZ).af (-1);{exact g c l.1 i (zbdp C.lo C.hi)};{obtain⟨v,K⟩:=zko (p:=a) l i j;exact i0 rfl (i0 (zbv ⟨l,i,j⟩)<|g _ v K (by rw[zYg l i j];rfl))}
def zYu:zbU Tryz.prog 181 [true,true,true,true] zy8:=by refine zjv (zis zjF zq zTh zGW) (ziX (by kernel_rfl)) ?_;intro g a b j i f h;have d:=znu f;unfold zy8 at h;split at h;{obtain⟨e,rfl,rfl⟩:=zpx h;obtain⟨N,c⟩:=z4Y _ _ _ _ (by exact d) e;exact⟨rfl,_,N,12,(z7P N _ _ _ _ ).trans c⟩};{cases h}
def z5t:zdb:=[(181,[true,true,true,true],zy8)]++z5r
def zbH:zce z5t:=zcF zTh (by
 intro x a;simp only[qG,qN,or_false]at a;rcases a with rfl
 .exact zYu)
def z6i:zgr:=[(183,[true,true,true,true,false,false,false],some (1,1,[[0],[1],[2],[4],[7]]),zuV)]++z0C
def zAP:zfh z6i:=zqx zGW (by
 intro x a;simp only[qG,qN,or_false]at a;rcases a with rfl
 .exact zOG)
def z4H {h:ad}(b:zbW h=true):h.ag.length=12:=by unfold zbW at b;simp only[zd1]at b;have a:=b.1;unfold zlf at a;simp only[zd1]at a;have:ln h.ag=12:=qD a.2;simp only[ln] at this;omega
def zi9 {h:ad}(a:zbW h=true):∀x∈h.aa,zfQ x=true:=by unfold zbW at a;simp only[zd1]at a;exact zBz _ _ a.2.2.2.2
def zLT {x:Mon}(a:zfQ x=true):ShM x:=by have e:=zut (zph a);unfold zfQ at a;simp only[zd1]at a;have b:ln x.ak=ln x.ac:=qD a.2.1;have c:ln x.Out=8:=qD a.2.2.2.1;have d:ln x.av=8:=qD a.2.2.2.2.1;simp only[ln] at *;exact⟨by omega,by omega,by omega,by omega⟩
def zeX {h:ad}(b:SmH h)(a:zbW h=true):Fit h:=by refine⟨⟨b,λx c=>zLT (zi9 a x c)⟩,by rw[z4H a];decide,?_⟩;unfold zbW at a;simp only[zd1]at a;have:=zYz _ _ rfl a.2.2.2.2;omega
def zvz {x:Mon}(b:zfQ x=true){p:Int}(c:j0 p 8=true):SlotFit (ix x.ae p sZ):=by have a:=zph b;unfold zek at a;simp only[zd1]at a;exact z6b (qP.1 a.1 _<|zbJ (zez (zLT b).1 c) _)
def z1q {h:ad}{m p:Int}(a:Fit h)(c:j0 m (ln h.aa)=true):Fit (zcl h m p):=by refine⟨zp4 a.1 c,a.2.1,?_⟩;obtain⟨k,rfl,b⟩:=zeK (n:=h.aa.length) c;have:=z09 h.aa k (ix h.aa (k:Int) mZ) {ix h.aa (k:Int) mZ with av:=up (ix h.aa (k:Int) mZ).av p true} (by rw[zbn b];exact qB b);have d:=a.2.2;unfold zcl;simp only[up,kN];dsimp only at this;simp only[up] at this;omega
abbrev gZ:ah:=Ty.dflt .guest
@[simp] abbrev zcT (h:ad)(m:Int):Bool:=pc (zdJ h)
@[simp] abbrev zc3 (h:ad)(m:Int):Mon:=bif j0 m (ln h.aa) then ix h.aa m mZ else mZ
@[simp] abbrev znE (h:ad)(m:Int):Bool:=j0 m (ln h.aa)
def zJy:Run:=rF2 dH dI λb c=>(zcT b c,[aT .mon<|zc3 b c,aB<|znE b c])
def zTU (N:Nat)(a:ad)(b:Int):OA:=
 let c:=ix a.aa b zi; (oN (zbi b<|ln a.aa)<|cond (nB<|zbX b<|ln a.aa) (some [aT .mon (⟨[],[],[],[],[],0,0,[],0⟩:Mon),aB false])<|oN (inb b<|ln a.aa)<|oN (zmZ c)<|some [aT .mon<|znF c,aB true])
def z1D (a:ad)(b:Int)(d:zcT a b=true):∃N,zTU N a b=some [aT .mon<|zc3 a b,aB<|znE a b]:=by
 have e:=(zQ a).1 (zF.1 d);refine⟨0,?_⟩;unfold zTU zc3 znE oN nB;conv=>zeta
 refine i0 rfl ?_;rw[show zbX b (ln a.aa)=j0 b (ln a.aa) from rfl];cases c:j0 b (ln a.aa);{rfl};{exact zb9 rfl (i0 (zD c) (i0 (zbv<|e.2.1.2 _<|zbJ c _) rfl))}
def zVq:vP 72 zJy:=kF2 zjF zq zbH zAP (zo []) z1D
def zcy (h:ad)(m g:Int):Bool:=bif zbW h then (cond (j0 m<|ln h.aa) (j0 g<|ln (ix h.aa m mZ).ac) false) else false
@[simp] abbrev zdv (h:ad)(m g:Int):Bool:=pc (zdJ h)
@[simp] abbrev zlR (h:ad)(m g:Int):Bool:=zcy h m g
def zJD:Run:=rF3 dH dI dI λb c d=>(zdv b c d,[aB<|zlR b c d])
def zUg (N:Nat)(a:ad)(b c:Int):OA:=
 let d:=wsub .i64 (ln (ix a.aa b zi).ac) 1; (oN (zb8 a)<|cond (zb7 a) (oN (zJ b 0<|wsub .i64 (ln a.aa) 1)<|cond (zl b 0<|wsub .i64 (ln a.aa) 1) (oN (inb b<|ln a.aa)<|oN (zJ c 0 d)<|some [aB<|zl c 0 d]) oF) oF)
def z1W (a:ad)(b c:Int)(f:zdv a b c=true):∃N,zUg N a b c=some [aB<|zlR a b c]:=by
 have e:=(zQ a).1 (zF.1 f);refine⟨0,?_⟩;unfold zUg zlR zcy oN;conv=>zeta
 refine i0 rfl ?_;rw[show zb7 a=zbW a from rfl];cases g:zbW a;{rfl};{rw [show zl b 0 (wsub .i64 (ln a.aa) 1)=j0 b (ln a.aa) from zs5 e.2.1.1 b];refine i0 rfl (i0 rfl ?_);cases d:j0 b (ln a.aa);{rfl};{have hg:(ix a.aa b mZ).ac.length<=1048576:=(e.2.1.2 _<|zbJ d _).2.2.2.1.1;rw[show zl c 0 (wsub .i64 (ln (ix a.aa b zi).ac) 1)=j0 c (ln (ix a.aa b mZ).ac) from zs5 hg c];exact i0 rfl (i0 (zD d) (i0 rfl rfl))}}
def zVL:vP 258 zJD:=kF3 zjF zq zbH zAP (zo []) z1W
def zib (h:ad)(m:Int):Nat->Nat->List LI
 | 0,_=>[]
 |n+1,i=>zeB h m (i:Int)::zib h m n (i+1)
def zBP (h:ad)(m:Int):∀(n i:Nat),(zib h m n i).length=n
 | 0,_=>rfl
 |n+1,i=>by simp[zib,zBP h m n]
def zT (h:ad)(m:Int):ai:=bif j0 m (ln h.aa) then ⟨zib h m 8 0,(ix h.aa m mZ).ac,(ix h.aa m mZ).Outs,(ix h.aa m mZ).aj⟩ else ⟨[],[],[],0⟩
def zFe {c:Type}(h:ad)(m:Int)(K:List LI->Option c):∀(n i:Nat) (a:List LI),a.length+n<=2147483648->
 goN (λi a b=>bif few (ln<|ap a [zeB h m (i:Int)]) then b (ap a [zeB h m (i:Int)]) else none) K n i a=K (a++zib h m n i)
 | 0,_,a,_=>by simp[goN,zib]
 |n+1,i,a,d=>by simp only[goN,zib];rw[zh8 (by simp[ap];omega),cT,zFe h m K n (i+1) _ (by simp[ap];omega)];simp[ap]
@[simp] abbrev zdh (h:ad)(m:Int):ai:=zT h m
def zbbL:zbb:=[(72,zJy),(258,zJD)]++zth
def zX3:zN zbbL:=zh zVq (zh zVL zjF)
def zrr:Run:=rF2 dH dI λb c=>(zcT b c,[aT .bare<|zdh b c])
def zMD (N:Nat)(b:ad)(c:Int):OA:=
 (oN (zcT b c)<|cond (nB<|znE b c) (some [aT .bare (⟨[],[],[],0⟩:ai)])<|q0 (σ:=(Int×Int×Int×Int×lM×lN×lE×lE×lM×lG×LI×lM×lG×LI×Unit)) N (λh a=>let b:=a.2.2.2.2.2;let c:=b.2.2.2.2;let g:=c.2.2.2.1;let f:=c.2.2.2.2.1;let d:=(⟨a.2.2.2.2.1,b.1,b.2.1,b.2.2.1⟩:ad);let e:=ap c.2.2.1 [zqo d a.1 a.2.1]; (cond (ilt a.2.1 8) (oN (zr0 d a.1 a.2.1)<|oN (few<|ln e)<|h (a.1,zM .i64 a.2.1 1,a.2.2.1,a.2.2.2.1,a.2.2.2.2.1,b.1,b.2.1,b.2.2.1,b.2.2.2.1,c.1,c.2.1,e,g,f,()))<|some [aT .bare (⟨c.2.2.1,g,f,a.2.2.2.1⟩:ai)])) (c,0,0,(zc3 b c).aj,b.ag,b.aa,b.ao,b.am,[],[],[],[],(zc3 b c).ac,(zc3 b c).Outs,()))
def z0J:=zo [(54,0,{n:=39,tm:=[(1,ti),(2,.lp 0 0),(4,.lp 1 0),(7,.lp 2 0),(8,ti)],lo:=[(0,[.sl 0 [],.sl 1 [],.sl 2 [],.sl 3 []]),(1,[.sl 4 [],.sl 5 [],.sl 6 [],ti]),(2,[.sl 7 [],.sl 8 [],.sl 9 [],ti])],ro:=[(0,.sl .int,false),(1,.mon,false),(2,.entry,false),(3,.entry,false),(4,.sl .int,true),(5,.guest,true),(6,.int,true),(7,.sl .int,true),(8,.guest,true),(9,.int,true)]})]
def zYV (a:ad)(b:Int)(f:zcT a b=true):∃N,zMD N a b=some [aT .bare<|zdh a b]:=by
 have e:=zF.1 f;refine zcf λN d=>?_;unfold zMD zdh zT oN nB;conv=>zeta
 refine i0 (zbv e) ?_;rw[show znE a b=j0 b (ln a.aa) from rfl];cases g:j0 b (ln a.aa);{rfl};{refine zb9 rfl ?_;refine(zwL 8 (λi (t:lM)=>(b,(i:Int),0,(zc3 a b).aj,a.ag,a.aa,a.ao,a.am,[],[],[],t,(zc3 a b).ac,(zc3 a b).Outs,())) _ (λi (c:List LI) j=>bif few (ln<|ap c [zeB a b (i:Int)]) then j (ap c [zeB a b (i:Int)]) else none) (λ(t:lM)=>some [.agg<|Ty.cells .bare (⟨t,(zc3 a b).ac,(zc3 a b).Outs,(zc3 a b).aj⟩:ai)]) (λi h t rec=>?_) (λt rec=>?_) _ ([])<|d (by decide)).trans ?_;{simp only [show ilt (i:Int) 8=true from qL (by omega),zbj h (show 8<=big by decide),cT];exact i0 (zbv e) rfl};{simp only [show ilt ((8:Nat):Int) 8=false from qH (by omega),cF]};rw[zFe a b _ 8 0 [] (by decide)];simp only[zc3,g,cT,jW]}
def zRn:vP 54 zrr:=kF2 zX3 zq zbH zAP z0J zYV
def z16:zdr zCh=true:=by decide
def z2Q {p:Nat->Bool}:∀{n i q:Nat},zqY p n i=true->i<=q->q<i+n->p q=true
 | 0,i,q,_,a,b=>by omega
 |n+1,i,q,h,a,b=>by simp only[zqY,qE]at h;by_cases c:i=q;{subst c;exact h.1};{exact z2Q h.2 (by omega) (by omega)}
def z8e {h:ad}{m:Int}(e:zbW h=true)(l:j0 m (ln h.aa)=true){p:Int}(j:j0 p 8=true):zdr (zeB h m p)=true:=by have i:=zi9 e _ (zbJ l mZ);have s:=zLT i;have f:h.ag.all zdr=true:=(by unfold zbW at e;simp only[zd1]at e;have b:=e.1;unfold zlf at b;simp only[zd1]at b;exact b.1);unfold zeB;rw[l,j];simp only[cT];have t:zc2 (ix h.aa m mZ).ae p=ix (ix h.aa m mZ).ae p sZ:=(by unfold zc2;rw[zez s.1 j];rfl);rw[t];have d:∀(g:List LI) (q:Int),(j0 q (ln g)=true->zdr (ix g q [])=true)->zdr (zdc g q)=true:=(by intro g q k;unfold zdc;cases b:j0 q (ln g);{exact z16};{exact k b});cases c:ine (ix (ix h.aa m mZ).ae p sZ).af (-1);{refine d _ _ (λk=>?_);obtain⟨q,rfl,u⟩:=zeK (n:=8) j;have a:fits (ix h.aa m mZ) q=true:=(by unfold zfQ at i;simp only[zd1]at i;exact z2Q i.2.2.2.2.2.2.2.2.2.2 (by omega) (by omega));unfold fits zos at a;have r:zdz (ix (ix h.aa m mZ).ae (q:Int) sZ) A0=true:=(by rw[(zvz (zi9 e _<|zbJ l mZ) j).no];rw[zjw]at c;cases b:ieq (ix (ix h.aa m mZ).ae (q:Int) sZ).af (-1);{rw [b]at c;cases c};{rfl});rw[r]at a;exact a};{exact d _ _ (λk=>qP.1 f _ (zbJ k _))}
def zUV {h:ad}{m:Int}(a:zbW h=true)(b:j0 m (ln h.aa)=true):∀(n i:Nat),i+n<=8->(zib h m n i).all zdr=true
 | 0,_,_=>rfl
 |n+1,i,c=>by simp only[zib,k9,qE];exact⟨z8e a b<|qL (by omega),zUV a b n (i+1) (by omega)⟩
def zte {h:ad}{m:Int}(c:zbW h=true)(b:j0 m (ln h.aa)=true):zcp (zT h m)=true:=by have a:=zi9 c _ (zbJ b mZ);unfold zfQ at a;simp only[zd1]at a;unfold zT zcp zlf;rw[b];simp only[cT,a.2.2.2.2.2.2.2.2.2.1,zUV c b 8 0 (by decide),ln,zBP];simp only[ln]at a;rw[a.1,a.2.2.2.2.2.1,a.2.2.2.2.2.2.1];rfl
def zpC:zbb:=[(54,zrr)]++zbbL
def zjG:zN zpC:=zh zRn zX3
def zfp (l:List Mon):List (List ah):=l.map λx=>x.ac
def zBx {l:List Mon}{m:Int}{x:Mon}(b:j0 m (ln l)=true)(c:x.ac=(ix l m mZ).ac):zfp (up l m x)=zfp l:=by obtain⟨k,rfl,a⟩:=zeK (n:=l.length) b;unfold zfp up;rw[List.map_set,kN,c,zbn a];have:=@vA _ (l.map λx=>x.ac) k (by simpa using a);simpa using this
def zNI {l b:List Mon}(h:zfp b=zfp l)(m:Int):(ix b m mZ).ac=(ix l m mZ).ac:=by unfold zfp at h;have a:(b.map λx=>x.ac)[m.toNat]?=(l.map λx=>x.ac)[m.toNat]?:=(by rw[h]);rw[qQ,qQ]at a;unfold ix;simp only[kI];cases c:b[m.toNat]? <;> cases d:l[m.toNat]? <;> rw [c,d]at a<;>simp at a ⊢;exact a
def zvo {h:ad}{m p:Int}{s:k0}(a:j0 m (ln h.aa)=true):zfp (zcD h m p s).aa=zfp h.aa:=by rw[(zgW h m p s).1];exact zBx a rfl
def z3f {h:ad}{m p:Int}(a:j0 m (ln h.aa)=true):zfp (zeP h m p).aa=zfp h.aa:=(zvo (h:=zgm h m p)<|zfX a).trans (zBx a rfl)
def zbds {h:ad}(b:Fit h):zfp (zdZ h).aa=zfp h.aa:=by unfold zdZ;cases a:ieq (ln<|zcL h) 0;{rfl};{exact z3f (zGK b a).1}
def zNH {h:ad}{m p:Int}(a:Fit h)(c:j0 m (ln h.aa)=true):zfp (fetched h m p).aa=zfp h.aa:=by have b:=zsV a c;exact((zvo (h:=landing (zdZ h) m p (ix (zcL<|zdZ h) 0 0))<|zfX b).trans (zBx b rfl)).trans (zbds a)
def zYp {h:ad}{m p n:Int}(b:j0 m (ln h.aa)=true):zfp (zoq h m p n).aa=zfp h.aa:=by have a:zfp (zcl h m p).aa=zfp h.aa:=zBx b rfl;unfold zoq;cases ieq (wand .i64 n 2) 0;{unfold opened;cases ieq (wand .i64 (ix (ix (zcl h m p).aa m mZ).ae p sZ).an 2) 0;{exact a};{exact(zvo (h:=zcl h m p)<|zfX b).trans a}};{rfl}
def zUI {h:ad}{m p n:Int}(b:Fit h)(a:j0 m (ln h.aa)=true)(c:j0 p 8=true):zfp (mended h m p n).aa=zfp h.aa:=by unfold mended;cases ieq (ix (ix h.aa m mZ).ae p sZ).af (-1);{exact zYp a};{exact(zYp (zko b a c).2).trans (zNH b a)}
def zbeJ {l a:List Mon}(h:zfp a=zfp l):a.length=l.length:=by have:=congrArg List.length h;simpa [zfp] using this
abbrev kZ:aA:=Ty.dflt .kept
def zbfQ {x:ah}(f:zey x=true){p n:Int}(d:ziU x.ax p n=true):j0 (zdM x.ax p n) 8=true:=by have g:zek x.ax 4 8=true:=(by unfold zey at f;simp only[qE]at f;exact f.2.2.2.2.1);unfold zdM;rw[d];simp only[cT];unfold ziU at d;cases a:ieq (zc2 x.ax p).af (-1);{unfold zc2 at a ⊢;cases e:j0 p (ln x.ax);{rw [e]at a;cases a};{rw [e]at a;simp only[cT]at a ⊢;unfold zek at g;simp only[zd1]at g;have c:=qP.1 g.1 _ (zbJ e sZ);unfold zfZ at c;cases b:zdz (ix x.ax p sZ) A0;{rw [b]at c;simp only[cF,zd1]at c;have:=zff.1 c.2.1;rw[show wsub .i64 8 1=7 from rfl] at this;show j0 (ix x.ax p sZ).af 8=true;exact qL (by omega)};{unfold zdz at b;rw[qE]at b;have:(ix x.ax p sZ).af = -1:=qD b.1;rw[show ieq (ix x.ax p zX).af (-1)=true from qL this]at a;cases a}}};{rw [a]at d;cases d}
def zeM (h:ad)(m g:Int):List k0:=(ix (ix h.aa m mZ).ac g gZ).ax
def zdY (h:ad)(m g:Int):aA:=ix (ix h.aa m mZ).ak g kZ
def zvl (h:ad)(a:Bool):List au:=bif a then h.am else h.ao
def zww (b:List au)(m g a:Int):Option au:=zNv b (zi6 m g) a
def zmY (b:List au)(m g a c:Int):Bool:=bif (zww b m g a).isSome then enough ((zww b m g a).getD ⟨0,0,0,0⟩).an c else false
def zgk (h:ad)(m g a b:Int):Bool:=bif zri (zdY h m g) a then (cond (ieq (zhm (zdY h m g) a).af<|-1) true<|!enough (zhm (zdY h m g) a).an b) else true
def zed (h:ad)(m g a:Int):ad:={h with aa:=up h.aa m {ix h.aa m mZ with ak:=up (ix h.aa m mZ).ak g (filled (zdY h m g) (zeM h m g) (ix h.aa m mZ).ae a)}}
def zbb2 (h:ad)(m g a:Int):au:=⟨zi6 m g,a,(zhm (zdY h m g) a).af,(zhm (zdY h m g) a).an⟩
def zXm (h:ad)(m g a:Int)(b:Bool):ad:=bif b then {h with am:=zBU h.am (zbb2 h m g a)} else {h with ao:=zBU h.ao (zbb2 h m g a)}
def zgG (h:ad)(m g a:Int)(b:Bool):ad×Int×Bool:=(zXm h m g a b,(zhm (zdY h m g) a).af,true)
def zkx (h:ad)(b:List au)(m g a c q:Int)(d:Bool):ad×Int×Bool :=
 bif zmY b m g a c then (h,((zww b m g a).getD ⟨0,0,0,0⟩).ad,true)
 else (cond (zgk h m g a c) (zgG (zed (mended h m q c) m g a) m g a d)<|zgG h m g a d)
def zjN (a:Int):Bool:=bif ieq a 1 then true else ieq a 2
def zca (h:ad)(m g page need:Int):Bool:=bif zcy h m g then (cond (zjN need) (ziU (zeM h m g) page need) false) else false
def lookOf (h:ad)(b:List au)(m g page need:Int)(io:Bool):ad×Int×Bool :=
 bif zca h m g page need then zkx (cond (ieq need 2) (zcl h m<|zdM (zeM h m g) page need) h) b m g page need (zdM (zeM h m g) page need) io else (h,-1,false)
structure Kp (h r:ad):Prop where
 shape:Shape r
 gs:zfp r.aa=zfp h.aa
def Kp.has {h r:ad}(k:Kp h r){m:Int}(a:j0 m (ln h.aa)=true):j0 m (ln r.aa)=true:=by rw[ln,zbeJ k.gs];exact a
def z5Z {h:ad}{m g c:Int}(d:Shape h)(e:j0 m (ln h.aa)=true)(hg:j0 g (ln (ix h.aa m mZ).ac)=true):Shape (zed h m g c):=by obtain⟨a,b⟩:=zcv d e;have f:j0 g (ln (ix h.aa m mZ).ak)=true:=(by rw[ln,b.2.2.2];exact hg);exact zhB d ⟨a.1,a.2.1,a.2.2.1,a.2.2.2.1,a.2.2.2.2.1,zv9 a.2.2.2.2.2<|z6d<|a.2.2.2.2.2.2 _<|zbJ f _⟩ ⟨b.1,b.2.1,b.2.2.1,by simpa using b.2.2.2⟩
def z7C {h r:ad}{m g a:Int}{i:Bool}(k:Kp h r):Kp h (zXm r m g a i):=by obtain⟨⟨b,c,d,e⟩,f⟩:=k.shape;unfold zXm;cases i;{exact⟨⟨⟨b,c,(zw2 _ d).1,e⟩,f⟩,k.gs⟩};{exact⟨⟨⟨b,c,d,(zw2 _ e).1⟩,f⟩,k.gs⟩}
structure LookAt (h:ad) (m g q need:Int):Prop where
 fit:Fit h
 hm:j0 m (ln h.aa)=true
 hg:j0 g (ln (ix h.aa m mZ).ac)=true
 hq:j0 q 8=true
 hn:need=1\/need=2
 hs:SlotFit (ix (ix h.aa m mZ).ae q sZ)
def LookAt.mend {h:ad}{m g q a:Int}(A:LookAt h m g q a):zXE h m q a:=⟨A.fit,A.hm,A.hq,A.hn.elim .inl λh=>.inr (.inl h),A.hs⟩
def LookAt.kp {h:ad}{m g q a:Int}(A:LookAt h m g q a):Kp h (mended h m q a):=⟨(zst A.fit A.hm A.hq).1,zUI A.fit A.hm A.hq⟩
def LookAt.fill {h:ad}{m g q a:Int}(A:LookAt h m g q a)(b:Int):Kp h (zed (mended h m q a) m g b):=by have k:=A.kp;have hg:j0 g (ln (ix (mended h m q a).aa m mZ).ac)=true:=(by rw[zNI k.gs];exact A.hg);have e:zfp (zed (mended h m q a) m g b).aa=zfp (mended h m q a).aa:=zBx (k.has A.hm) rfl;exact⟨z5Z k.shape (k.has A.hm) hg,e.trans k.gs⟩
def zYG {h:ad}{b:List au}{m g page a q:Int}{io:Bool}(A:LookAt h m g q a):Kp h (zkx h b m g page a q io).1:=by unfold zkx;cases zmY b m g page a;{cases zgk h m g page a;{exact z7C ⟨A.fit.1,rfl⟩};{exact z7C (A.fill page)}};{exact⟨A.fit.1,rfl⟩}
def zdK {h:ad}{m g:Int}(a:zcy h m g=true):zbW h=true/\j0 m (ln h.aa)=true/\j0 g (ln (ix h.aa m mZ).ac)=true:=by unfold zcy at a;simp only[zd1]at a;exact a
def z4G {h:ad}{m g:Int}(e:zcy h m g=true):zey (ix (ix h.aa m mZ).ac g gZ)=true:=by obtain⟨b,c,d⟩:=zdK e;have a:=zi9 b _ (zbJ c mZ);unfold zfQ at a;simp only[zd1]at a;exact qP.1 a.2.2.2.2.2.2.2.2.2.1 _ (zbJ d _)
def zPt {n:Int}(h:zjN n=true):n=1\/n=2:=by unfold zjN at h;cases a:ieq n 1;{rw [a]at h;exact .inr (qD h)};{exact .inl (qD a)}
def zFN {h:ad}{m g page a:Int}(s:SmH h)(d:zca h m g page a=true) :
 LookAt h m g (zdM (zeM h m g) page a) a/\LookAt (zcl h m<|zdM (zeM h m g) page a) m g (zdM (zeM h m g) page a) a:=by
 unfold zca at d;simp only[zd1]at d;obtain⟨l,p,r⟩:=d;obtain⟨i,b,j⟩:=zdK l;have f:j0 (zdM (zeM h m g) page a) 8=true:=zbfQ (z4G l) r;have c:=zvz (zi9 i _<|zbJ b mZ) f;have q:=zeX s i;refine⟨⟨q,b,j,f,zPt p,c⟩,⟨z1q q b,zfX b,?_,f,zPt p,?_⟩⟩
 .have e:zfp (zcl h m<|zdM (zeM h m g) page a).aa=zfp h.aa:=zBx b rfl;rw[zNI e];exact j
 .obtain⟨k,rfl,hk⟩:=zeK (n:=h.aa.length) b;unfold zcl;rw[zee hk];exact c
def zv3 {h:ad}{b:List au}{m g page need:Int}{io:Bool}(a:SmH h)(f:zcy h m g=true):Kp h (lookOf h b m g page need io).1:=by have d:=zeX a (zdK f).1;unfold lookOf;cases c:zca h m g page need;{exact⟨d.1,rfl⟩};{obtain⟨A,B⟩:=zFN a c;simp only[cT];cases ieq need 2;{exact zYG A};{have k:=zYG (b:=b) (page:=page) (io:=io) B;have e:zfp (zcl h m<|zdM (zeM h m g) page need).aa=zfp h.aa:=zBx A.hm rfl;exact⟨k.shape,k.gs.trans e⟩}}
def zmj (x:ad×Int×Bool):LA:=[.agg<|zbl x.1,.one<|.i .i64 x.2.1,.one<|.b x.2.2]
def zjy {h:ad}{b:List au}{m g c a:Int}{e:Bool}(d:zca h m g c a=false):lookOf h b m g c a e=(h,-1,false):=by unfold lookOf;rw[d];rfl
def zqH {h:ad}{m g b a:Int}(c:zcy h m g=false):zca h m g b a=false:=by unfold zca;rw[c];rfl
def zQV {h:ad}{m g:Int}(a:zbW h=false):zcy h m g=false:=by unfold zcy;rw[a];rfl
def zQW {h:ad}{m g:Int}(a:j0 m (ln h.aa)=false):zcy h m g=false:=by unfold zcy;rw[a];cases zbW h<;>rfl
def zQX {h:ad}{m g:Int}(a:j0 g (ln (ix h.aa m mZ).ac)=false):zcy h m g=false:=by unfold zcy;rw[a];cases zbW h<;>cases j0 m (ln h.aa)<;>rfl
def zQY {h:ad}{m g:Int}(a:zbW h=true)(b:j0 m (ln h.aa)=true)(c:j0 g (ln (ix h.aa m mZ).ac)=true):zcy h m g=true:=by unfold zcy;rw[a,b,c];rfl
structure LookF (r:ad) (m g:Int):Prop where
 hm:j0 m (ln r.aa)=true
 hg:j0 g (ln (ix r.aa m mZ).ac)=true
 ht:j0 g (ln (ix r.aa m mZ).ak)=true
 hk:SmK (zdY r m g)
 hb:r.ao.length<=1048576
 hi:r.am.length<=1048576
def zop {h r:ad}{m g:Int}(k:Kp h r)(b:j0 m (ln h.aa)=true)(hg:j0 g (ln (ix h.aa m mZ).ac)=true):LookF r m g:=by obtain⟨d,e⟩:=zcv k.shape (k.has b);have a:j0 g (ln (ix r.aa m mZ).ac)=true:=(by rw[zNI k.gs];exact hg);have c:j0 g (ln (ix r.aa m mZ).ak)=true:=(by rw[ln,e.2.2.2];exact a);exact⟨k.has b,a,c,d.2.2.2.2.2.2 _<|zbJ c _,k.shape.1.2.2.1,k.shape.1.2.2.2⟩
@[simp] abbrev zm5 (h:ad)(b:List au)(m g c a:Int)(d:Bool):Bool:=pc (zdJ h)
@[simp] abbrev zgO (h:ad)(b:List au)(m g page need:Int)(io:Bool):ad:=(lookOf h b m g page need io).1
@[simp] abbrev zm4 (h:ad)(b:List au)(m g c a:Int)(d:Bool):Int:=(lookOf h b m g c a d).2.1
@[simp] abbrev zjn (h:ad)(b:List au)(m g c a:Int)(d:Bool):Bool:=(lookOf h b m g c a d).2.2
def zuX:LW
 |[.agg [.s (.sl .int) c,.s .mon d,.s .entry e,.s .entry f],.one<|.s .entry g,.one<|.i .i64 h,.one<|.i .i64 j,.one<|.i .i64 k,.one<|.i .i64 l,.one<|.b m]=>some (zm5 (⟨c,d,e,f⟩:ad) g h j k l m,[aH<|zgO (⟨c,d,e,f⟩:ad) g h j k l m,aI<|zm4 (⟨c,d,e,f⟩:ad) g h j k l m,aB<|zjn (⟨c,d,e,f⟩:ad) g h j k l m])
 |_=>none
abbrev zVf (b:lM)(c:lN)(d:lE)(e:lE)(a:Int)(g:Int)(f:Int):Mon :=
 (ix (zgE (⟨b,c,d,e⟩:ad) a g f).aa a zi)
abbrev zVg (a:ad)(b c:Int)(d e:Int):Int :=
 (zeg (ix (ix a.aa b zi).ac c zA).ax d e)
def zQF (N:Nat)(a:Int)(b:lM)(c:lN)(d:lE)(e:lE):OA:=
 (some [aH (⟨b,c,d,e⟩:ad),aI a,aB true])
def zsD (N:Nat)(l:Int)(m:Bool)(n:Int)(c:Int)(d:Int)(k:lM)(e:lN)(a:lE)(b:lE)(f:lM)(g:lN)(h:lE)(i:lE):OA:=
 let q:=(⟨n,l,c,d⟩:au); (p0 (λ(j:(Int×Int×lM×lN×lE×lE×lM×lN×lE×lE×Unit))=>zQF N j.1 j.2.2.1 j.2.2.2.1 j.2.2.2.2.1 j.2.2.2.2.2.1) λp=>cond m (oN (zii b q)<|p (c,d,k,e,a,zhS b q,f,g,h,i,()))<|oN (zii a q)<|p (c,d,k,e,zhS a q,b,f,g,h,i,()))
def zuE (N:Nat)(d:lM)(e:lN)(f:lE)(g:lE)(b:Int)(i:Int)(h:Int)(a:Int)(c:Int)(y:(Int×Bool×Int×Int×Int×Int×Int×Int×Int×lM×lN×lE×lE×lM×lN×lE×lE×Unit)->OA)(r:Bool)(s:Int)(t:Int)(u:Int)(v:Int)(k:Int)(l:lM)(m:lN)(n:lE)(p:lE):OA:=
 let D:=(⟨d,e,f,g⟩:ad);let w:=zgE D b i h;let x:=inb b<|ln w.aa;let j:=zVf d e f g b i h;let C:=ix j.ak a zec;let A:=(ix j.ac a zA).ax; (oN (zh1 D b i h)<|oN x<|oN x<|oN (inb a<|ln j.ak)<|oN x<|oN (inb a<|ln j.ac)<|oN x<|oN (zw8 C A j.ae c)<|oN (inb a<|ln j.ak)<|p0 (up w.aa b ({j with ak:=(up j.ak a<|zw7 C A j.ae c)}:Mon)) (λq=>let B:=(ix q b zi).ak;let z:=ix B a zec; (oN (inb b<|ln q)<|oN (inb a<|ln B)<|oN (zc0 z c)<|y (c,r,s,t,u,v,k,(zkm z c).af,(zkm z c).an,w.ag,q,w.ao,w.am,l,m,n,p,()))))
def zod (N:Nat)(d:Int)(e:Int)(c:Int)(n:Int)(p:Bool)(v:Int)(q:Int)(r:Int)(s:Int)(t:Int)(f:Int)(g:lM)(b:lN)(h:lE)(i:lE)(j:lM)(k:lN)(l:lE)(m:lE):OA:=
 let z:=(ix b d zi).ak;let x:=ix z e zec;let w:=zkm x c; (oN (inb d<|ln b)<|oN (inb e<|ln z)<|oN (zc0 x c)<|p0 (λ(a:(Int×Bool×Int×Int×Int×Int×Int×Int×Int×lM×lN×lE×lE×lM×lN×lE×lE×Unit))=>zsD N a.1 a.2.1 a.2.2.1 a.2.2.2.2.2.2.2.1 a.2.2.2.2.2.2.2.2.1 a.2.2.2.2.2.2.2.2.2.1 a.2.2.2.2.2.2.2.2.2.2.1 a.2.2.2.2.2.2.2.2.2.2.2.1 a.2.2.2.2.2.2.2.2.2.2.2.2.1 a.2.2.2.2.2.2.2.2.2.2.2.2.2.1 a.2.2.2.2.2.2.2.2.2.2.2.2.2.2.1 a.2.2.2.2.2.2.2.2.2.2.2.2.2.2.2.1 a.2.2.2.2.2.2.2.2.2.2.2.2.2.2.2.2.1) (λu=>let y:=zuE N g b h i d v n e c u p q r s t f j k l m; (cond (nB<|zqL x c) y<|cond (ieq w.af<|-1) y<|oN (zbi w.an n)<|cond (nB<|zds w.an n) y<|u (c,p,q,r,s,t,f,w.af,w.an,g,b,h,i,j,k,l,m,()))))
def zuF (N:Nat)(g:Int)(a:ad)(h e f:Int)(l:lE)(n:Bool):OA:=
 let i:=zlL g h;let k:=zVg a g h e f;let m:=ix a.aa g zi;let s:=(ix m.ac h zA).ax;let d:=zhb l i e;let j:=d.an; (oN (inb g<|ln a.aa)<|oN (inb h<|ln m.ac)<|oN (ze0 s e f)<|cond (nB<|zdD s e f) (some [aH a,aI<|-1,aB false])<|oN (zik g h)<|cond (ieq f 2) (oN (inb g<|ln a.aa)<|oN (inb k<|ln m.av)<|p0 (up a.aa g ({m with av:=(up m.av k true)}:Mon)) λp=>oN (ziM l i e)<|p0 (λ(c:(Int×Int×Int×Int×Bool×Int×Int×Int×Int×Int×Int×lM×lN×lE×lE×lM×lN×lE×lE×Unit))=>zod N c.1 c.2.1 c.2.2.1 c.2.2.2.1 c.2.2.2.2.1 c.2.2.2.2.2.1 c.2.2.2.2.2.2.1 c.2.2.2.2.2.2.2.1 c.2.2.2.2.2.2.2.2.1 c.2.2.2.2.2.2.2.2.2.1 c.2.2.2.2.2.2.2.2.2.2.1 c.2.2.2.2.2.2.2.2.2.2.2.1 c.2.2.2.2.2.2.2.2.2.2.2.2.1 c.2.2.2.2.2.2.2.2.2.2.2.2.2.1 c.2.2.2.2.2.2.2.2.2.2.2.2.2.2.1 c.2.2.2.2.2.2.2.2.2.2.2.2.2.2.2.1 c.2.2.2.2.2.2.2.2.2.2.2.2.2.2.2.2.1 c.2.2.2.2.2.2.2.2.2.2.2.2.2.2.2.2.2.1 c.2.2.2.2.2.2.2.2.2.2.2.2.2.2.2.2.2.2.1) λr=>cond (zgo l i e) (oN (zbi j f)<|cond (zds j f) (some [aH ({a with aa:=p}:ad),aI d.ad,aB true])<|r (g,h,e,f,n,k,i,d.Tag,d.af,d.ad,j,a.ag,p,a.ao,a.am,[],[],[],[],()))<|r (g,h,e,f,n,k,i,d.Tag,d.af,d.ad,j,a.ag,p,a.ao,a.am,[],[],[],[],()))<|oN (ziM l i e)<|p0 (λ(b:(Int×Int×Int×Int×Bool×Int×Int×Int×Int×Int×Int×lM×lN×lE×lE×lM×lN×lE×lE×Unit))=>zod N b.1 b.2.1 b.2.2.1 b.2.2.2.1 b.2.2.2.2.1 b.2.2.2.2.2.1 b.2.2.2.2.2.2.1 b.2.2.2.2.2.2.2.1 b.2.2.2.2.2.2.2.2.1 b.2.2.2.2.2.2.2.2.2.1 b.2.2.2.2.2.2.2.2.2.2.1 b.2.2.2.2.2.2.2.2.2.2.2.1 b.2.2.2.2.2.2.2.2.2.2.2.2.1 b.2.2.2.2.2.2.2.2.2.2.2.2.2.1 b.2.2.2.2.2.2.2.2.2.2.2.2.2.2.1 b.2.2.2.2.2.2.2.2.2.2.2.2.2.2.2.1 b.2.2.2.2.2.2.2.2.2.2.2.2.2.2.2.2.1 b.2.2.2.2.2.2.2.2.2.2.2.2.2.2.2.2.2.1 b.2.2.2.2.2.2.2.2.2.2.2.2.2.2.2.2.2.2.1) λq=>cond (zgo l i e) (oN (zbi j f)<|cond (zds j f) (some [aH a,aI d.ad,aB true])<|q (g,h,e,f,n,k,i,d.Tag,d.af,d.ad,j,a.ag,a.aa,a.ao,a.am,[],[],[],[],()))<|q (g,h,e,f,n,k,i,d.Tag,d.af,d.ad,j,a.ag,a.aa,a.ao,a.am,[],[],[],[],()))
def zs9 (N:Nat)(a:ad)(g:lE)(b c:Int)(h d:Int)(i:Bool):OA:=
 let f:=zuF N b a c h d g i;let e:=wsub .i64 (ln (ix a.aa b zi).ac) 1; (oN (zb8 a)<|cond (nB<|zb7 a) (some [aH a,aI<|-1,aB false])<|oN (zJ b 0<|wsub .i64 (ln a.aa) 1)<|cond (nB<|zl b 0<|wsub .i64 (ln a.aa) 1) (some [aH a,aI<|-1,aB false])<|oN (inb b<|ln a.aa)<|oN (zJ c 0 e)<|cond (nB<|zl c 0 e) (some [aH a,aI<|-1,aB false])<|cond (ine d 1) (cond (ine d 2) (some [aH a,aI<|-1,aB false]) f) f)
def zu4:=zo [(337,999999,{n:=0,tm:=[],lo:=[],ro:=[]}),(337,1007023,{n:=210,tm:=[(2,ti),(3,ti),(4,ti),(5,ti),(6,.b),(7,.lp 0 0),(14,.lp 1 0),(17,ti),(19,ti),(20,.lp 2 0)],lo:=[(0,[.sl 0 [],.sl 1 [],.sl 2 [],.sl 3 []]),(1,[.sl 4 [],.sl 5 [],.sl 6 [],.sl 7 []]),(2,[ti,ti,ti,ti])],ro:=[(0,.sl .int,true),(1,.mon,true),(2,.entry,true),(3,.entry,true),(4,.sl .int,true),(5,.mon,true),(6,.entry,true),(7,.entry,true)],kr:=1}),(337,1009011,{n:=210,tm:=[(4,ti),(6,.b),(7,.lp 0 0),(14,.lp 1 0),(19,ti),(20,.lp 2 0),(22,.lp 3 0)],lo:=[(0,[.sl 0 [],.sl 1 [],.sl 2 [],.sl 3 []]),(1,[.sl 4 [],.sl 5 [],.sl 6 [],.sl 7 []]),(2,[ti,ti,ti,ti]),(3,[ti,ti])],ro:=[(0,.sl .int,true),(1,.mon,true),(2,.entry,true),(3,.entry,true),(4,.sl .int,true),(5,.mon,true),(6,.entry,true),(7,.entry,true)],kr:=1}),(337,1005003,{n:=210,tm:=[(7,.lp 0 0),(14,.lp 1 0),(22,.lp 2 0)],lo:=[(0,[.sl 0 [],.sl 1 [],.sl 2 [],.sl 3 []]),(1,[.sl 4 [],.sl 5 [],.sl 6 [],.sl 7 []]),(2,[ti,ti])],ro:=[(0,.sl .int,true),(1,.mon,true),(2,.entry,true),(3,.entry,true),(4,.sl .int,true),(5,.mon,true),(6,.entry,true),(7,.entry,true)],kr:=1})]
def zTb (N:Nat)(a:ad)(b c:Int)(d e:Int)(f:Bool):zXi (cQ zpC zo6 z5t z6i) zu4 N 12 337 [true,true,true,true,false,false,false,false,false,false] [(4,2)] 1 1 [[0],[1],[2],[4],[7]] .mon [aH a,aS .entry a.ao,aI b,aI c,aI d,aI e,aB f]=zs9 N a a.ao b c d e f:=by kernel_rfl
def zTc (N:Nat)(a:ad)(b c:Int)(d e:Int)(f:Bool):zXi (cQ zpC zo6 z5t z6i) zu4 N 12 337 [true,true,true,true,false,false,false,false,false,false] [(4,3)] 1 1 [[0],[1],[2],[4],[7]] .mon [aH a,aS .entry a.am,aI b,aI c,aI d,aI e,aB f]=zs9 N a a.am b c d e f:=by kernel_rfl
def zGz {N:Nat}{r:ad}{m g a:Int}{b:Bool}{z1 z2 z3 z4}(c:r.ao.length<=1048576)(d:r.am.length<=1048576) :
 zsD N a b (zi6 m g) (zhm (zdY r m g) a).af (zhm (zdY r m g) a).an r.ag r.aa r.ao r.am z1 z2 z3 z4=some (zmj<|zgG r m g a b):=by
 unfold zsD oN
 conv=>zeta
 refine shr ?_;cases b
 .exact zb9 rfl (i0 (zbv c) rfl)
 .exact i0 rfl (i0 (zbv d) rfl)
def zYh {N:Nat}{r:ad}{m g a b q:Int}{c:Bool}{R:OA}{r11}{u6 u7 u8 u9 u10 z1 z2 z3 z4}(A:LookAt r m g q b)(d:r11 (a,c,u6,u7,u8,u9,u10,(zhm (zdY (zed (mended r m q b) m g a) m g) a).af,(zhm (zdY (zed (mended r m q b) m g a) m g) a).an,(zed (mended r m q b) m g a).ag,(zed (mended r m q b) m g a).aa,(zed (mended r m q b) m g a).ao,(zed (mended r m q b) m g a).am,z1,z2,z3,z4,())=R) :
 zuE N r.ag r.aa r.ao r.am m q b g a r11 c u6 u7 u8 u9 u10 z1 z2 z3 z4=R:=by
 have M:=zop A.kp A.hm A.hg;have F:=zop (A.fill a) A.hm A.hg;unfold zuE oN
 conv=>zeta
 exact i0 (zbv A.mend) (i0 (zD M.hm)<|i0 (zD M.hm)<|i0 (zD M.ht)<|i0 (zD M.hm)<|i0 (zD M.hg)<|i0 (zD M.hm)<|i0 (zbv M.hk)<|i0 (zD M.ht)<|shr<|i0 (zD F.hm)<|i0 (zD F.ht)<|i0 (zbv F.hk) d)
def z3E {r:ad}{m g a b:Int}(h:zri (zdY r m g) a=false):zgk r m g a b=true:=by unfold zgk;rw[h];rfl
def z3F {r:ad}{m g a b:Int}(h:ieq (zhm (zdY r m g) a).af (-1)=true):zgk r m g a b=true:=by unfold zgk;rw[h];cases zri (zdY r m g) a<;>rfl
def z3G {r:ad}{m g a b:Int}(h:enough (zhm (zdY r m g) a).an b=false):zgk r m g a b=true:=by unfold zgk;rw[h];cases zri (zdY r m g) a<;>cases ieq (zhm (zdY r m g) a).af (-1)<;>rfl
def z3H {r:ad}{m g a b:Int}(c:zri (zdY r m g) a=true)(d:ieq (zhm (zdY r m g) a).af (-1)=false)(e:enough (zhm (zdY r m g) a).an b=true):zgk r m g a b=false:=by unfold zgk;rw[c,d,e];rfl
def zv5 {r:ad}{m g a b q:Int}{c:Bool}(h:zgk r m g a b=true):(cond (zgk r m g a b) (zgG (zed (mended r m q b) m g a) m g a c)<|zgG r m g a c)=zgG (zed (mended r m q b) m g a) m g a c:=by rw[h];rfl
def z3k {r:ad}{m g a b q:Int}{c:Bool}(h:zgk r m g a b=false):(cond (zgk r m g a b) (zgG (zed (mended r m q b) m g a) m g a c)<|zgG r m g a c)=zgG r m g a c:=by rw[h];rfl
def zGA {N:Nat}{r:ad}{m g a b q:Int}{f:Bool}{u7 u8 u9 u10 z1 z2 z3 z4}(A:LookAt r m g q b) :
 zod N m g a b f q (zi6 m g) u7 u8 u9 u10 r.ag r.aa r.ao r.am z1 z2 z3 z4=some (zmj<|cond (zgk r m g a b) (zgG (zed (mended r m q b) m g a) m g a f)<|zgG r m g a f):=by
 have M:=zop ⟨A.fit.1,rfl⟩ A.hm A.hg;have F:=zop (A.fill a) A.hm A.hg;unfold zod oN nB
 conv=>zeta
 refine i0 (zD M.hm) (i0 (zD M.ht)<|i0 (zbv M.hk)<|shr<|brN (λc=>?_) λc=>br (λd=>?_) λd=>i0 rfl (brN (λe=>?_) λe=>?_))
 .rw [zv5<|z3E c];exact zYh A (zGz (r:=zed (mended r m q b) m g a) (m:=m) (g:=g) F.hb F.hi)
 .rw [zv5<|z3F d];exact zYh A (zGz (r:=zed (mended r m q b) m g a) (m:=m) (g:=g) F.hb F.hi)
 .rw [zv5<|z3G e];exact zYh A (zGz (r:=zed (mended r m q b) m g a) (m:=m) (g:=g) F.hb F.hi)
 .rw [z3k<|z3H c d e];exact zGz (r:=r) (m:=m) (g:=g) M.hb M.hi
def zGD {b:List au}{m g a c:Int}(h:(zww b m g a).isSome=false):zmY b m g a c=false:=by unfold zmY;rw[h];rfl
def zqC {b:List au}{m g a c:Int}{x:Bool}(d:(zww b m g a).isSome=true)(h:enough ((zww b m g a).getD ⟨0,0,0,0⟩).an c=x):zmY b m g a c=x:=by unfold zmY;rw[d,h];rfl
def zqG {r:ad}{b:List au}{m g a c q:Int}{d:Bool}(h:zmY b m g a c=false):zkx r b m g a c q d=bif zgk r m g a c then zgG (zed (mended r m q c) m g a) m g a d else zgG r m g a d:=by unfold zkx;rw[h];rfl
def zGH {r:ad}{b:List au}{m g a c q:Int}{d:Bool}(h:zmY b m g a c=true):zkx r b m g a c q d=(r,((zww b m g a).getD ⟨0,0,0,0⟩).ad,true):=by unfold zkx;rw[h];rfl
def zLS {h:ad}{b:List au}{m g c a:Int}{d:Bool}(e:zca h m g c a=true):lookOf h b m g c a d=zkx (cond (ieq a 2) (zcl h m<|zdM (zeM h m g) c a) h) b m g c a (zdM (zeM h m g) c a) d:=by unfold lookOf;rw[e];rfl
def z7k {N:Nat}{r:ad}{b:List au}{m g c a:Int}{f:Bool}(p:SmH r)(hg:zcy r m g=true)(k:zjN a=true) :
 zuF N m r g c a b f=some (zmj (lookOf r b m g c a f)):=by
 obtain⟨q,h,l⟩:=zdK hg;unfold zuF oN nB
 conv=>zeta
 refine i0 (zD h) (i0 (zD l) (i0 rfl (brN (fun j=>?_) (fun j=>i0 rfl ?_))))
 .have:zca r m g c a=false:=by
   unfold zca;rw[hg,k,show ziU (zeM r m g) c a=false from j];rfl
  rw[zjy this];rfl
 .have hl:zca r m g c a=true:=by
   unfold zca;rw[hg,k,show ziU (zeM r m g) c a=true from j];rfl
  obtain⟨A,B⟩:=zFN p hl;rw[zLS hl];have n:j0 (zdM (zeM r m g) c a) (ln (ix r.aa m mZ).av)=true:=zez (zcv A.fit.1 h).2.2.2.1 A.hq;refine br (fun i=>?_) (fun i=>?_)
  .rw [i]
   show _=some (zmj (zkx (zcl r m (zdM (zeM r m g) c a)) b m g c a (zdM (zeM r m g) c a) f))
   refine i0 (zD h) (i0 (zD n) (shr (i0 rfl (shr (br (fun d=>i0 rfl (br (fun e=>?_) (fun e=>?_))) (fun d=>?_))))))
   .rw [zGH (zqC d e)];rfl
   .rw [zqG (zqC d e)];exact zGA (r:=zcl r m (zdM (zeM r m g) c a)) B
   .rw [zqG (zGD d)];exact zGA (r:=zcl r m (zdM (zeM r m g) c a)) B
  .rw [i]
   show _=some (zmj (zkx r b m g c a (zdM (zeM r m g) c a) f))
   refine i0 rfl (shr (br (fun d=>i0 rfl (br (fun e=>?_) (fun e=>?_))) (fun d=>?_)))
   .rw [zGH (zqC d e)];rfl
   .rw [zqG (zqC d e)];exact zGA A
   .rw [zqG (zGD d)];exact zGA A
def zWH (a:ad)(f:List au)(b c:Int)(e d:Int)(g:Bool)(t:zbE big [aH a,aS .entry f,aI b,aI c,aI e,aI d,aB g])(r:zm5 a f b c e d g=true):∃N,zs9 N a f b c e d g=some [aH<|zgO a f b c e d g,aI<|zm4 a f b c e d g,aB<|zjn a f b c e d g]:=by
 have j:=(zQ a).1 (zF.1 r);refine⟨0,?_⟩;show _=some (zmj<|lookOf a f b c e d g);unfold zs9 oN nB;conv=>zeta
 refine i0 rfl (brN (λk=>?_) λk=>i0 rfl ?_);{rw [zjy<|zqH<|zQV k];rfl};rw[show zl b 0 (wsub .i64 (ln a.aa) 1)=j0 b (ln a.aa) from zs5 j.2.1.1 b];refine brN (λi=>?_) (λi=>i0 (zD i) (i0 rfl ?_));{rw [zjy<|zqH<|zQW i];rfl};have s:(ix a.aa b mZ).ac.length<=1048576:=(j.2.1.2 _<|zbJ i _).2.2.2.1.1;rw[show zl c 0 (wsub .i64 (ln (ix a.aa b zi).ac) 1)=j0 c (ln (ix a.aa b mZ).ac) from zs5 s c];refine brN (λl=>?_) (λl=>?_);{rw [zjy<|zqH<|zQX l];rfl};have hg:=zQY k i l;have p:∀{n:Int},zjN n=false->zca a b c e n=false:=λ{n} h=>(by unfold zca;rw[hg,h];rfl);rw[zjw,zjw];cases m:ieq d 1;{cases q:ieq d 2;{have:zjN d=false:=(by unfold zjN;rw[m,q];rfl);rw[zjy<|p this];rfl};{exact z7k j hg (by unfold zjN;rw[m,q];rfl)}};{exact z7k j hg (by unfold zjN;rw[m];rfl)}
def zOI:zfg Tryz.prog 337 [true,true,true,true,false,false,false,false,false,false] (some (1,1,[[0],[1],[2],[4],[7]])) zuX:=by refine zQ0 (kt:=.mon) (zis zjG zq zbH zAP) (ziX (by kernel_rfl)) ?_;intro p s x f i w v h;have t:=zlk v;have g:p=[(4,2)]\/p=[(4,3)]:=(by rw[show zkr 337=[[(4,2)],[(4,3)]] from by kernel_rfl]at f;simpa using f);unfold zuX at h;split at h;{rename_i a b c d r j k l m n;obtain⟨u,rfl⟩:=zd4 h;obtain⟨N,q⟩:=zWH (⟨a,b,c,d⟩:ad) r j k l m n t u;refine⟨⟨_,rfl⟩,rfl,zu4,N,12,?_⟩;rcases g with rfl|rfl;{have e:=i 4 2 (by simp);simp only[zI,kG,AV.cvs] at e;cases e;exact(zTb N (⟨a,b,c,d⟩:ad) j k l m n).trans q};{have e:=i 4 3 (by simp);simp only[zI,kG,AV.cvs] at e;cases e;exact(zTc N (⟨a,b,c,d⟩:ad) j k l m n).trans q}};{cases h}
def tctN:zgr:=[(337,[true,true,true,true,false,false,false,false,false,false],some (1,1,[[0],[1],[2],[4],[7]]),zuX)]++z6i
def ziD:zfh tctN:=zqx zAP (by
 intro x a;simp only[qG,qN,or_false]at a;rcases a with rfl
 .exact zOI)
def gOf (h:ad)(m g:Int):ah:=ix (ix h.aa m mZ).ac g gZ
def zic (h:ad)(m g:Int)(x:ah):ad:={h with aa:=up h.aa m {ix h.aa m mZ with ac:=up (ix h.aa m mZ).ac g x}}
def zle (h:ad)(m g:Int)(x:ah)(w:Bool):ad×Int×Bool:=lookOf h h.ao m g (zco<|address x) (zhi w) false
def zlb (L:ad×Int×Bool)(m g:Int)(x:ah)(w:Bool):ad :=
 bif L.2.2 then (cond w (zic {L.1 with ag:=zf3 L.1.ag L.2.1 (zhl<|address x) x.A} m g<|zcq x)<|zic L.1 m g<|loaded x<|cellAt L.1.ag L.2.1<|zhl<|address x)
 else zic L.1 m g (stopped x<|zE8 (zco<|address x) w)
def owned (h:ad)(m:Int):ad:=bif ilt (ix h.aa m mZ).Own 1000000000 then {h with aa:=up h.aa m {ix h.aa m mZ with Own:=zM .i64 (ix h.aa m mZ).Own 1}} else h
def znI (h:ad)(m n:Int):ad:=bif ilt (ln (ix h.aa m mZ).Outs) 40 then {h with aa:=up h.aa m {ix h.aa m mZ with Outs:=ap (ix h.aa m mZ).Outs [n]}} else h
def zh3 (h:ad)(m:Int)(x:ah)(w:Int):ad:=bif (cond (ine w 6) (ieq (zqg (ix h.aa m mZ).aq x.Ctl.aq<|zg3 w) 2) false) then owned h m else h
def zmC (h:ad)(m:Int)(x:ah)(w:Int):ad:=bif (cond (zj7 x.Ctl.aq w) (ieq w 5) false) then znI h m (zfj x.aw x.Pc).X else h
def znq (h:ad)(m g:Int)(x:ah)(w:Int):ad:=zic (zmC (zh3 h m x w) m x w) m g (zh4 x x.Ctl.aq w)
def zP9 (h:ad)(m g:Int)(x:ah)(w:Int):ad×Bool :=
 bif ieq w 0 then (h,false) else (bif ieq w 1 then (zic h m g<|interrupted x,true) else (bif ieq w 2 then (zic h m g<|plainly x,true) else
  (cond (cond (ieq w 3) true<|ieq w 4) (zlb (zle h m g x<|ieq w 4) m g x<|ieq w 4,true) (znq h m g x w,true))))
def zcO (h:ad)(m g:Int):ad×Bool:=bif zcy h m g then zP9 h m g (gOf h m g) (zU<|gOf h m g) else (h,false)
def zfe (x:ad×Bool):LA:=[.agg<|zbl x.1,.one<|.b x.2]
def zmU {h:ad}{m g:Int}(b:SmH h)(a:j0 m (ln h.aa)=true)(hg:j0 g (ln (ix h.aa m mZ).ac)=true):SmG (gOf h m g):=(b.2.1.2 _<|zbJ a _).2.2.2.1.2 _ (zbJ hg _)
def z6a {h:ad}{m g:Int}{x:ah}(c:Shape h)(d:j0 m (ln h.aa)=true)(e:SmG x):Shape (zic h m g x):=by obtain⟨a,b⟩:=zcv c d;exact zhB c ⟨a.1,a.2.1,a.2.2.1,zGV a.2.2.2.1 e,a.2.2.2.2⟩ ⟨b.1,b.2.1,b.2.2.1,by simpa using b.2.2.2⟩
def zbe0 (o i t:Int):ieq (zqg o i t) 1=zeT i t:=by unfold zqg;cases zeT i t;{cases zeT o t<;>rfl};{rfl}
def zbe1 {o i t:Int}(h:zeT i t=true):ieq (zqg o i t) 2=false:=by unfold zqg;rw[h];rfl
def zrn {h:ad}{m:Int}(b:j0 m (ln h.aa)=true)(x:Mon):ix (up h.aa m x) m mZ=x:=by obtain⟨k,rfl,a⟩:=zeK (n:=h.aa.length) b;exact zee a _ _
@[simp] abbrev zcw (h:ad)(m g:Int):ad:=(zcO h m g).1
@[simp] abbrev zcG (h:ad)(m g:Int):Bool:=(zcO h m g).2
def zXj {a:Type}{l:List a}{x:a}(h:ilt (ln l) 40=true):few (ln<|ap l [x])=true:=by have:=qD h;simp only[ln] at this;exact zh8 (by simp[ap];omega)
def z3K {h:ad}{m:Int}{x:ah}{w:Int}(a:(cond (zj7 x.Ctl.aq w) (ieq w 5) false)=false):zmC h m x w=h:=by unfold zmC;rw[a];rfl
def zVa {h:ad}{m:Int}{x:ah}{w:Int}(a:ilt (ln (ix h.aa m mZ).Outs) 40=false):zmC h m x w=h:=by unfold zmC znI;rw[a];cases (cond (zj7 x.Ctl.aq w) (ieq w 5) false)<;>rfl
def z0D {h:ad}{m:Int}{x:ah}{w:Int}(a:zj7 x.Ctl.aq w=true)(b:ieq w 5=true)(c:ilt (ln (ix h.aa m mZ).Outs) 40=true):zmC h m x w={h with aa:=up h.aa m {ix h.aa m mZ with Outs:=ap (ix h.aa m mZ).Outs [(zfj x.aw x.Pc).X]}}:=by unfold zmC znI;rw[a,b,c];rfl
def zQf {h:ad}{m:Int}{x:ah}{w:Int}(a:zj7 x.Ctl.aq w=false):zmC h m x w=h:=z3K (by rw[a];rfl)
def zGj {h:ad}{m:Int}{x:ah}{w:Int}(a:ieq w 5=false):zmC h m x w=h:=z3K (by rw[a];cases zj7 x.Ctl.aq w<;>rfl)
def zOM (a:Int):(cond (ieq a a) true false)=true:=by rw[zcX];rfl
def zjB {h:ad}{m g:Int}(a:zcy h m g=false):zcO h m g=(h,false):=by unfold zcO;rw[a];rfl
def zla {h:ad}{m g:Int}(a:zcy h m g=true):zcO h m g=zP9 h m g (gOf h m g) (zU<|gOf h m g):=by unfold zcO;rw[a];rfl
def zo3 {a b:Bool}(h:(cond a b false)=true):a=true/\b=true:=by cases a;{cases h};{exact⟨rfl,h⟩}
def zld {a b:Bool}(c:a=true)(d:b=true):(cond a b false)=true:=by rw[c];exact d
def z3N {h:ad}{m:Int}{x:ah}{w:Int}(b:ine w 6=true)(a:ieq (zqg (ix h.aa m mZ).aq x.Ctl.aq<|zg3 w) 2=true)(c:ilt (ix h.aa m mZ).Own 1000000000=true):zh3 h m x w={h with aa:=up h.aa m {ix h.aa m mZ with Own:=zM .i64 (ix h.aa m mZ).Own 1}}:=by unfold zh3 owned;rw[b,a,c];rfl
def z3L {h:ad}{m:Int}{x:ah}{w:Int}(a:ieq (zqg (ix h.aa m mZ).aq x.Ctl.aq<|zg3 w) 2=false):zh3 h m x w=h:=by unfold zh3;rw[a];cases ine w 6<;>rfl
def z3M {h:ad}{m:Int}{x:ah}{w:Int}(a:ilt (ix h.aa m mZ).Own 1000000000=false):zh3 h m x w=h:=by unfold zh3 owned;rw[a];cases (cond (ine w 6) (ieq (zqg (ix h.aa m mZ).aq x.Ctl.aq<|zg3 w) 2) false)<;>rfl
def zbd3 {h:ad}{m:Int}{x:ah}:zh3 h m x 6=h:=rfl
def zqy {h a:ad}{m g:Int}{x:ah}{w:Int}(e:zh3 h m x w=a):znq h m g x w=zic (zmC a m x w) m g (zh4 x x.Ctl.aq w):=by unfold znq;rw[e]
def zbaN (x:ah):ieq (zU x) 0=true\/ieq (zU x) 1=true\/ieq (zU x) 2=true\/ieq (zU x) 3=true\/ieq (zU x) 4=true\/ieq (zU x) 5=true\/ieq (zU x) 6=true\/ieq (zU x) 7=true:=by cases a:ieq (zU x) 0;{cases b:ieq (zU x) 1;{cases c:ieq (zU x) 2;{cases d:ieq (zU x) 3;{cases e:ieq (zU x) 4;{cases f:ieq (zU x) 5;{cases g:ieq (zU x) 6;{exact .inr (.inr<|.inr<|.inr<|.inr<|.inr<|.inr<|zXt x a b c d e f g)};{exact .inr (.inr<|.inr<|.inr<|.inr<|.inr (.inl rfl))}};{exact .inr (.inr<|.inr<|.inr<|.inr (.inl rfl))}};{exact .inr (.inr<|.inr<|.inr (.inl rfl))}};{exact .inr (.inr<|.inr (.inl rfl))}};{exact .inr (.inr (.inl rfl))}};{exact .inr (.inl rfl)}};{exact .inl rfl}
abbrev zDl (x:ah):Bool:=bif zbx x then ieq (zU x) 0 else false
def zrQ:LW
 |[.agg [.s .ins c,.i .i64 d,.i .i64 e,.s .slot f,.s .slot g,.i .i64 h,.i .i64 j,.b k,.i .i64 l,.i .i64 m,.i .i64 n,.b o,.i .i64 p,.b q,.s .int r]]=>some (zDl (⟨c,d,e,f,g,⟨h,j,k⟩,l,⟨m,n,o,p⟩,q,r⟩:ah),[.one<|.i .i64 0])
 |_=>none
def zHs:vP 259 zrQ:=by refine⟨zcM.1,λw b g j a h=>?_⟩;unfold zrQ at h;split at h;{obtain⟨f,rfl⟩:=zd4 h;obtain⟨d,e⟩:=zo3 f;exact zcM.2 w _ g _ a (congr (congrArg (λc v=>some (c,[AV.one<|CV.i .i64 v])) d) (qD e))};{cases h}
def zbc7:zbb:=[(259,zrQ)]++zpC
def z4k:zN zbc7:=zh zHs zjG
@[simp] abbrev zyz (h:ad)(m g:Int):Bool:=bif zdv h m g then ieq (zU<|gOf h m g) 0 else false
def zHT:Run:=rF3 dH dI dI λb c d=>(zyz b c d,[aH<|zcw b c d,aB<|zcG b c d])
def zxm (N:Nat)(d:ad)(b c:Int):OA:=
 let a:=zk d;let e:=(ix a.aa b zi).ac; (oN (zS d)<|oN (zdv a b c)<|cond (nB<|zlR a b c) (some [aH a,aB false])<|oN (inb b<|ln a.aa)<|oN (inb c<|ln e)<|oN (zDl<|ix e c zA)<|some [aH a,aB false])
abbrev zDm (x:ah):Bool:=bif zbx x then ieq (zU x) 1 else false
def zrR:LW
 |[.agg [.s .ins c,.i .i64 d,.i .i64 e,.s .slot f,.s .slot g,.i .i64 h,.i .i64 j,.b k,.i .i64 l,.i .i64 m,.i .i64 n,.b o,.i .i64 p,.b q,.s .int r]]=>some (zDm (⟨c,d,e,f,g,⟨h,j,k⟩,l,⟨m,n,o,p⟩,q,r⟩:ah),[.one<|.i .i64 1])
 |_=>none
def zHt:vP 259 zrR:=by refine⟨zcM.1,λw b g j a h=>?_⟩;unfold zrR at h;split at h;{obtain⟨f,rfl⟩:=zd4 h;obtain⟨d,e⟩:=zo3 f;exact zcM.2 w _ g _ a (congr (congrArg (λc v=>some (c,[AV.one<|CV.i .i64 v])) d) (qD e))};{cases h}
def zbc8:zbb:=[(259,zrR)]++zpC
def z4l:zN zbc8:=zh zHt zjG
@[simp] abbrev zyA (h:ad)(m g:Int):Bool:=bif zdv h m g then ieq (zU<|gOf h m g) 1 else false
def zHU:Run:=rF3 dH dI dI λb c d=>(zyA b c d,[aH<|zcw b c d,aB<|zcG b c d])
def zxn (N:Nat)(f:ad)(b c:Int):OA:=
 let a:=zk f;let d:=ix a.aa b zi;let e:=ix d.ac c zA; (oN (zS f)<|oN (zdv a b c)<|cond (nB<|zlR a b c) (some [aH a,aB false])<|oN (inb b<|ln a.aa)<|oN (inb c<|ln d.ac)<|oN (zDm e)<|oN (inb b<|ln a.aa)<|oN (zL e)<|oN (inb c<|ln d.ac)<|p0 (up a.aa b ({d with ac:=(up d.ac c<|ze3 e)}:Mon)) λg=>some [aH ({a with aa:=g}:ad),aB true])
abbrev zDn (x:ah):Bool:=bif zbx x then ieq (zU x) 2 else false
def zrS:LW
 |[.agg [.s .ins c,.i .i64 d,.i .i64 e,.s .slot f,.s .slot g,.i .i64 h,.i .i64 j,.b k,.i .i64 l,.i .i64 m,.i .i64 n,.b o,.i .i64 p,.b q,.s .int r]]=>some (zDn (⟨c,d,e,f,g,⟨h,j,k⟩,l,⟨m,n,o,p⟩,q,r⟩:ah),[.one<|.i .i64 2])
 |_=>none
def zHu:vP 259 zrS:=by refine⟨zcM.1,λw b g j a h=>?_⟩;unfold zrS at h;split at h;{obtain⟨f,rfl⟩:=zd4 h;obtain⟨d,e⟩:=zo3 f;exact zcM.2 w _ g _ a (congr (congrArg (λc v=>some (c,[AV.one<|CV.i .i64 v])) d) (qD e))};{cases h}
def zbc9:zbb:=[(259,zrS)]++zpC
def z4m:zN zbc9:=zh zHu zjG
@[simp] abbrev zyB (h:ad)(m g:Int):Bool:=bif zdv h m g then ieq (zU<|gOf h m g) 2 else false
def zHV:Run:=rF3 dH dI dI λb c d=>(zyB b c d,[aH<|zcw b c d,aB<|zcG b c d])
def zxo (N:Nat)(f:ad)(b c:Int):OA:=
 let a:=zk f;let d:=ix a.aa b zi;let e:=ix d.ac c zA; (oN (zS f)<|oN (zdv a b c)<|cond (nB<|zlR a b c) (some [aH a,aB false])<|oN (inb b<|ln a.aa)<|oN (inb c<|ln d.ac)<|oN (zDn e)<|oN (inb b<|ln a.aa)<|oN (zL e)<|oN (inb c<|ln d.ac)<|p0 (up a.aa b ({d with ac:=(up d.ac c<|zh9 e)}:Mon)) λg=>some [aH ({a with aa:=g}:ad),aB true])
abbrev zDo (x:ah):Bool:=bif zbx x then ieq (zU x) 3 else false
def zrT:LW
 |[.agg [.s .ins c,.i .i64 d,.i .i64 e,.s .slot f,.s .slot g,.i .i64 h,.i .i64 j,.b k,.i .i64 l,.i .i64 m,.i .i64 n,.b o,.i .i64 p,.b q,.s .int r]]=>some (zDo (⟨c,d,e,f,g,⟨h,j,k⟩,l,⟨m,n,o,p⟩,q,r⟩:ah),[.one<|.i .i64 3])
 |_=>none
def zHv:vP 259 zrT:=by refine⟨zcM.1,λw b g j a h=>?_⟩;unfold zrT at h;split at h;{obtain⟨f,rfl⟩:=zd4 h;obtain⟨d,e⟩:=zo3 f;exact zcM.2 w _ g _ a (congr (congrArg (λc v=>some (c,[AV.one<|CV.i .i64 v])) d) (qD e))};{cases h}
def zbda:zbb:=[(259,zrT)]++zpC
def z4n:zN zbda:=zh zHv zjG
@[simp] abbrev zyC (h:ad)(m g:Int):Bool:=bif zdv h m g then ieq (zU<|gOf h m g) 3 else false
def zHW:Run:=rF3 dH dI dI λb c d=>(zyC b c d,[aH<|zcw b c d,aB<|zcG b c d])
def zxp (N:Nat)(m:ad)(a b:Int):OA:=
 let c:=zk m;let n:=(ix c.aa a zi).ac;let h:=ix n b zA;let f:=zg9 h;let g:=zbs f;let l:=zm4 c c.ao a b g (zcP false) false;let d:=zgO c c.ao a b g (zcP false) false;let e:=ix d.aa a zi;let j:=ix e.ac b zA;let i:=({h with aw:=j.aw,ar:=j.ar,ax:=j.ax,aC:=j.aC}:ah); (oN (zS m)<|oN (zdv c a b)<|cond (nB<|zlR c a b) (some [aH c,aB false])<|oN (inb a<|ln c.aa)<|oN (inb b<|ln n)<|oN (zDo h)<|oN (zbx h)<|oN (zbo f)<|oN (zi2 false)<|oN (zm5 c c.ao a b g (zcP false) false)<|cond (nB<|zjn c c.ao a b g (zcP false) false) (oN (inb a<|ln d.aa)<|oN (zbo f)<|oN (zfE g false)<|oN (zci i<|zd8 g false)<|oN (inb b<|ln e.ac)<|p0 (up d.aa a ({e with ac:=(up e.ac b<|zcu i<|zd8 g false)}:Mon)) λk=>some [aH ({d with aa:=k}:ad),aB true])<|oN (inb a<|ln d.aa)<|oN (zbo f)<|oN (zer d.ag l<|zcg f)<|oN (zkH i<|zfr d.ag l<|zcg f)<|oN (inb b<|ln e.ac)<|p0 (up d.aa a ({e with ac:=(up e.ac b<|zjW i<|zfr d.ag l<|zcg f)}:Mon)) λk=>some [aH ({d with aa:=k}:ad),aB true])
abbrev zDp (x:ah):Bool:=bif zbx x then ieq (zU x) 4 else false
def zrU:LW
 |[.agg [.s .ins c,.i .i64 d,.i .i64 e,.s .slot f,.s .slot g,.i .i64 h,.i .i64 j,.b k,.i .i64 l,.i .i64 m,.i .i64 n,.b o,.i .i64 p,.b q,.s .int r]]=>some (zDp (⟨c,d,e,f,g,⟨h,j,k⟩,l,⟨m,n,o,p⟩,q,r⟩:ah),[.one<|.i .i64 4])
 |_=>none
def zHw:vP 259 zrU:=by refine⟨zcM.1,λw b g j a h=>?_⟩;unfold zrU at h;split at h;{obtain⟨f,rfl⟩:=zd4 h;obtain⟨d,e⟩:=zo3 f;exact zcM.2 w _ g _ a (congr (congrArg (λc v=>some (c,[AV.one<|CV.i .i64 v])) d) (qD e))};{cases h}
def zbdb:zbb:=[(259,zrU)]++zpC
def z4o:zN zbdb:=zh zHw zjG
@[simp] abbrev zyD (h:ad)(m g:Int):Bool:=bif zdv h m g then ieq (zU<|gOf h m g) 4 else false
def zHX:Run:=rF3 dH dI dI λb c d=>(zyD b c d,[aH<|zcw b c d,aB<|zcG b c d])
def zxq (N:Nat)(l:ad)(a b:Int):OA:=
 let c:=zk l;let n:=(ix c.aa a zi).ac;let g:=ix n b zA;let h:=zg9 g;let f:=zbs h;let m:=zm4 c c.ao a b f (zcP true) false;let d:=zgO c c.ao a b f (zcP true) false;let e:=ix d.aa a zi;let j:=ix e.ac b zA;let i:=({g with aw:=j.aw,ar:=j.ar,ax:=j.ax,aC:=j.aC}:ah); (oN (zS l)<|oN (zdv c a b)<|cond (nB<|zlR c a b) (some [aH c,aB false])<|oN (inb a<|ln c.aa)<|oN (inb b<|ln n)<|oN (zDp g)<|oN (zbx g)<|oN (zbo h)<|oN (zi2 true)<|oN (zm5 c c.ao a b f (zcP true) false)<|cond (nB<|zjn c c.ao a b f (zcP true) false) (oN (inb a<|ln d.aa)<|oN (zbo h)<|oN (zfE f true)<|oN (zci i<|zd8 f true)<|oN (inb b<|ln e.ac)<|p0 (up d.aa a ({e with ac:=(up e.ac b<|zcu i<|zd8 f true)}:Mon)) λk=>some [aH ({d with aa:=k}:ad),aB true])<|oN (zbo h)<|oN (zde d.ag m (zcg h) g.A)<|oN (inb a<|ln d.aa)<|oN (zL i)<|oN (inb b<|ln e.ac)<|p0 (up d.aa a ({e with ac:=(up e.ac b<|zb3 i)}:Mon)) λk=>some [aH ({d with ag:=(zdn d.ag m (zcg h) g.A),aa:=k}:ad),aB true])
abbrev zDq (x:ah):Bool:=bif zbx x then ieq (zU x) 5 else false
def zrV:LW
 |[.agg [.s .ins c,.i .i64 d,.i .i64 e,.s .slot f,.s .slot g,.i .i64 h,.i .i64 j,.b k,.i .i64 l,.i .i64 m,.i .i64 n,.b o,.i .i64 p,.b q,.s .int r]]=>some (zDq (⟨c,d,e,f,g,⟨h,j,k⟩,l,⟨m,n,o,p⟩,q,r⟩:ah),[.one<|.i .i64 5])
 |_=>none
def zHx:vP 259 zrV:=by refine⟨zcM.1,λw b g j a h=>?_⟩;unfold zrV at h;split at h;{obtain⟨f,rfl⟩:=zd4 h;obtain⟨d,e⟩:=zo3 f;exact zcM.2 w _ g _ a (congr (congrArg (λc v=>some (c,[AV.one<|CV.i .i64 v])) d) (qD e))};{cases h}
def zbdc:zbb:=[(259,zrV)]++zpC
def z4p:zN zbdc:=zh zHx zjG
@[simp] abbrev zyE (h:ad)(m g:Int):Bool:=bif zdv h m g then ieq (zU<|gOf h m g) 5 else false
def zHY:Run:=rF3 dH dI dI λb c d=>(zyE b c d,[aH<|zcw b c d,aB<|zcG b c d])
def zxr (N:Nat)(x:ad)(a e:Int):OA:=
 let d:=zk x;let f:=inb a<|ln d.aa;let g:=ix d.aa a zi;let j:=inb e<|ln g.ac;let c:=ix g.ac e zA;let w:=ap g.Outs [(zd3 c.aw c.Pc).X];let s:=up d.aa a ({g with Outs:=w}:Mon);let h:=c.Ctl.aq;let v:=up d.aa a ({g with ac:=(up g.ac e<|zcH c h 5)}:Mon); (oN (zS x)<|oN (zdv d a e)<|cond (nB<|zlR d a e) (some [aH d,aB false])<|oN f<|oN j<|oN (zDq c)<|oN f<|oN (zpr g.aq h 1)<|cond (ieq (zl0 g.aq h 1) 2) (oN f<|cond (ilt g.Own 1000000000) (oN f<|oN f<|p0 (up d.aa a ({g with Own:=(zM .i64 g.Own 1)}:Mon)) (λb=>let k:=inb a<|ln b;let l:=ix b a zi;let q:=ix l.ac e zA;let t:=ap l.Outs [(zd3 q.aw c.Pc).X];let u:=({c with aw:=q.aw,ar:=q.ar,ax:=q.ax,aC:=q.aC}:ah);let r:=up b a ({l with ac:=(up l.ac e<|zcH u h 5)}:Mon); (oN (zew u h 5)<|cond (zdV u h 5) (oN k<|cond (ilt (ln l.Outs) 40) (oN k<|oN (zdU q.aw c.Pc)<|oN (few<|ln t)<|oN k<|oN (cond (ieq a a) true false)<|p0 (up b a ({l with Outs:=t}:Mon)) (λi=>let m:=ix i a zi; (oN (inb a<|ln i)<|oN (inb e<|ln m.ac)<|p0 (up i a ({m with ac:=(up m.ac e<|zcH u h 5)}:Mon)) λy=>some [aH ({d with aa:=y}:ad),aB true])))<|oN k<|oN (inb e<|ln l.ac)<|p0 r λi=>some [aH ({d with aa:=i}:ad),aB true])<|oN k<|oN (inb e<|ln l.ac)<|p0 r λi=>some [aH ({d with aa:=i}:ad),aB true])))<|oN (zew c h 5)<|cond (zdV c h 5) (oN f<|cond (ilt (ln g.Outs) 40) (oN f<|oN (zdU c.aw c.Pc)<|oN (few<|ln w)<|oN f<|oN (cond (ieq a a) true false)<|p0 s (λb=>let n:=ix b a zi; (oN (inb a<|ln b)<|oN (inb e<|ln n.ac)<|p0 (up b a ({n with ac:=(up n.ac e<|zcH c h 5)}:Mon)) λi=>some [aH ({d with aa:=i}:ad),aB true])))<|oN f<|oN j<|p0 v λb=>some [aH ({d with aa:=b}:ad),aB true])<|oN f<|oN j<|p0 v λb=>some [aH ({d with aa:=b}:ad),aB true])<|oN (zew c h 5)<|cond (zdV c h 5) (oN f<|cond (ilt (ln g.Outs) 40) (oN f<|oN (zdU c.aw c.Pc)<|oN (few<|ln w)<|oN f<|oN (cond (ieq a a) true false)<|p0 s (λb=>let p:=ix b a zi; (oN (inb a<|ln b)<|oN (inb e<|ln p.ac)<|p0 (up b a ({p with ac:=(up p.ac e<|zcH c h 5)}:Mon)) λi=>some [aH ({d with aa:=i}:ad),aB true])))<|oN f<|oN j<|p0 v λb=>some [aH ({d with aa:=b}:ad),aB true])<|oN f<|oN j<|p0 v λb=>some [aH ({d with aa:=b}:ad),aB true])
abbrev zDr (x:ah):Bool:=bif zbx x then ieq (zU x) 6 else false
def zrW:LW
 |[.agg [.s .ins c,.i .i64 d,.i .i64 e,.s .slot f,.s .slot g,.i .i64 h,.i .i64 j,.b k,.i .i64 l,.i .i64 m,.i .i64 n,.b o,.i .i64 p,.b q,.s .int r]]=>some (zDr (⟨c,d,e,f,g,⟨h,j,k⟩,l,⟨m,n,o,p⟩,q,r⟩:ah),[.one<|.i .i64 6])
 |_=>none
def zHy:vP 259 zrW:=by refine⟨zcM.1,λw b g j a h=>?_⟩;unfold zrW at h;split at h;{obtain⟨f,rfl⟩:=zd4 h;obtain⟨d,e⟩:=zo3 f;exact zcM.2 w _ g _ a (congr (congrArg (λc v=>some (c,[AV.one<|CV.i .i64 v])) d) (qD e))};{cases h}
def zbdd:zbb:=[(259,zrW)]++zpC
def z4q:zN zbdd:=zh zHy zjG
@[simp] abbrev zyF (h:ad)(m g:Int):Bool:=bif zdv h m g then ieq (zU<|gOf h m g) 6 else false
def zHZ:Run:=rF3 dH dI dI λb c d=>(zyF b c d,[aH<|zcw b c d,aB<|zcG b c d])
def zxs (N:Nat)(i:ad)(c d:Int):OA:=
 let a:=zk i;let g:=inb c<|ln a.aa;let e:=ix a.aa c zi;let h:=inb d<|ln e.ac;let b:=ix e.ac d zA;let j:=up a.aa c ({e with ac:=(up e.ac d<|zcH b b.Ctl.aq 6)}:Mon); (oN (zS i)<|oN (zdv a c d)<|cond (nB<|zlR a c d) (some [aH a,aB false])<|oN g<|oN h<|oN (zDr b)<|oN (zew b b.Ctl.aq 6)<|cond (zdV b b.Ctl.aq 6) (oN g<|oN h<|p0 j λf=>some [aH ({a with aa:=f}:ad),aB true])<|oN g<|oN h<|p0 j λf=>some [aH ({a with aa:=f}:ad),aB true])
abbrev zDs (x:ah):Bool:=bif zbx x then ieq (zU x) 7 else false
def zrX:LW
 |[.agg [.s .ins c,.i .i64 d,.i .i64 e,.s .slot f,.s .slot g,.i .i64 h,.i .i64 j,.b k,.i .i64 l,.i .i64 m,.i .i64 n,.b o,.i .i64 p,.b q,.s .int r]]=>some (zDs (⟨c,d,e,f,g,⟨h,j,k⟩,l,⟨m,n,o,p⟩,q,r⟩:ah),[.one<|.i .i64 7])
 |_=>none
def zHz:vP 259 zrX:=by refine⟨zcM.1,λw b g j a h=>?_⟩;unfold zrX at h;split at h;{obtain⟨f,rfl⟩:=zd4 h;obtain⟨d,e⟩:=zo3 f;exact zcM.2 w _ g _ a (congr (congrArg (λc v=>some (c,[AV.one<|CV.i .i64 v])) d) (qD e))};{cases h}
def zbde:zbb:=[(259,zrX)]++zpC
def z4r:zN zbde:=zh zHz zjG
@[simp] abbrev zyG (h:ad)(m g:Int):Bool:=bif zdv h m g then ieq (zU<|gOf h m g) 7 else false
def zH0:Run:=rF3 dH dI dI λb c d=>(zyG b c d,[aH<|zcw b c d,aB<|zcG b c d])
def zxt (N:Nat)(q:ad)(c e:Int):OA:=
 let a:=zk q;let g:=inb c<|ln a.aa;let f:=ix a.aa c zi;let k:=inb e<|ln f.ac;let h:=ix f.ac e zA;let d:=h.Ctl.aq;let l:=up a.aa c ({f with ac:=(up f.ac e<|zcH h d 7)}:Mon); (oN (zS q)<|oN (zdv a c e)<|cond (nB<|zlR a c e) (some [aH a,aB false])<|oN g<|oN k<|oN (zDs h)<|oN g<|oN (zpr f.aq d 2)<|cond (ieq (zl0 f.aq d 2) 2) (oN g<|cond (ilt f.Own 1000000000) (oN g<|oN g<|p0 (up a.aa c ({f with Own:=(zM .i64 f.Own 1)}:Mon)) (λb=>let j:=ix b c zi;let m:=ix j.ac e zA;let p:=({h with aw:=m.aw,ar:=m.ar,ax:=m.ax,aC:=m.aC}:ah);let i:=up b c ({j with ac:=(up j.ac e<|zcH p d 7)}:Mon); (oN (zew p d 7)<|cond (zdV p d 7) (oN (inb c<|ln b)<|oN (inb e<|ln j.ac)<|p0 i λn=>some [aH ({a with aa:=n}:ad),aB true])<|oN (inb c<|ln b)<|oN (inb e<|ln j.ac)<|p0 i λn=>some [aH ({a with aa:=n}:ad),aB true])))<|oN (zew h d 7)<|cond (zdV h d 7) (oN g<|oN k<|p0 l λb=>some [aH ({a with aa:=b}:ad),aB true])<|oN g<|oN k<|p0 l λb=>some [aH ({a with aa:=b}:ad),aB true])<|oN (zew h d 7)<|cond (zdV h d 7) (oN g<|oN k<|p0 l λb=>some [aH ({a with aa:=b}:ad),aB true])<|oN g<|oN k<|p0 l λb=>some [aH ({a with aa:=b}:ad),aB true])
def zHJ (a:ad)(b c:Int)(e:zyz a b c=true):∃N,zxm N a b c=some [aH<|zcw a b c,aB<|zcG a b c]:=by
 obtain⟨e,i⟩:=zo3 e;have f:=(zQ a).1 (zF.1 e);refine⟨0,?_⟩;show _=some (zfe<|zcO a b c);unfold zxm oN nB;conv=>zeta
 refine i0 (zbv<|(zQ _).2 f) (i0 (zbv<|(zQ _).2 f)<|brN (λd=>?_) λd=>?_);{rw [zjB d];rfl};obtain⟨k,g,h⟩:=zdK d;have l:=zmU f g h;have j:zU (gOf a b c)=0:=qD i;rw[zla d,j];refine i0 (zD g) (i0 (zD h)<|i0 (zld rfl i) ?_);rfl
def zsy:vP 108 zHT:=kF3 z4k zq zbH ziD (zo []) zHJ
def zHK (a:ad)(b c:Int)(g:zyA a b c=true):∃N,zxn N a b c=some [aH<|zcw a b c,aB<|zcG a b c]:=by
 obtain⟨g,i⟩:=zo3 g;have h:=(zQ a).1 (zF.1 g);refine⟨0,?_⟩;show _=some (zfe<|zcO a b c);unfold zxn oN nB;conv=>zeta
 refine i0 (zbv<|(zQ _).2 h) (i0 (zbv<|(zQ _).2 h)<|brN (λd=>?_) λd=>?_);{rw [zjB d];rfl};obtain⟨l,e,f⟩:=zdK d;have k:=zmU h e f;have j:zU (gOf a b c)=1:=qD i;rw[zla d,j];refine i0 (zD e) (i0 (zD f)<|i0 (zld rfl i) ?_);show _=some (zfe (zic a b c<|interrupted<|gOf a b c,true));exact i0 (zD e) (i0 (zbv k) (i0 (zD f) rfl))
def zDE:vP 108 zHU:=kF3 z4l zq zbH ziD (zo []) zHK
def zHL (a:ad)(b c:Int)(g:zyB a b c=true):∃N,zxo N a b c=some [aH<|zcw a b c,aB<|zcG a b c]:=by
 obtain⟨g,i⟩:=zo3 g;have h:=(zQ a).1 (zF.1 g);refine⟨0,?_⟩;show _=some (zfe<|zcO a b c);unfold zxo oN nB;conv=>zeta
 refine i0 (zbv<|(zQ _).2 h) (i0 (zbv<|(zQ _).2 h)<|brN (λd=>?_) λd=>?_);{rw [zjB d];rfl};obtain⟨l,e,f⟩:=zdK d;have k:=zmU h e f;have j:zU (gOf a b c)=2:=qD i;rw[zla d,j];refine i0 (zD e) (i0 (zD f)<|i0 (zld rfl i) ?_);show _=some (zfe (zic a b c<|plainly<|gOf a b c,true));exact i0 (zD e) (i0 (zbv k) (i0 (zD f) rfl))
def zDF:vP 108 zHV:=kF3 z4m zq zbH ziD (zo []) zHL
def zHM (a:ad)(c d:Int)(j:zyC a c d=true):∃N,zxp N a c d=some [aH<|zcw a c d,aB<|zcG a c d]:=by
 obtain⟨j,m⟩:=zo3 j;have f:=(zQ a).1 (zF.1 j);refine⟨0,?_⟩;show _=some (zfe<|zcO a c d);unfold zxp oN nB;conv=>zeta
 refine i0 (zbv<|(zQ _).2 f) (i0 (zbv<|(zQ _).2 f)<|brN (λe=>?_) λe=>?_);{rw [zjB e];rfl};obtain⟨r,g,i⟩:=zdK e;have n:=zmU f g i;have q:zU (gOf a c d)=3:=qD m;rw[zla e,q];refine i0 (zD g) (i0 (zD i)<|i0 (zld rfl m) ?_);show _=some (zfe (zlb (zle a c d (gOf a c d) false) c d (gOf a c d) false,true));have k:=zv3 (b:=a.ao) (page:=zco (address<|gOf a c d)) (need:=zhi false) (io:=false) f e;have F:=zop k g i;have p:(ix (ix (zgO (zk a) (zk a).ao c d (zbs<|zg9<|ix (ix (zk a).aa c zi).ac d zA) (zcP false) false).aa c zi).ac d zA)=(ix (ix (zk a).aa c zi).ac d zA):=congrArg (λl=>ix l d gZ) (zNI k.gs c);rw[p];unfold zlb;refine i0 rfl (i0 rfl (i0 rfl (i0 (zbv<|(zQ _).2 f)<|brN (λh=>?_) λh=>?_)));{rw [show (zle a c d (gOf a c d) false).2.2=false from h];exact i0 (zD F.hm) (i0 rfl (i0 rfl (i0 (zbv n) (i0 (zD F.hg) rfl))))};{rw [show (zle a c d (gOf a c d) false).2.2=true from h];exact i0 (zD F.hm) (i0 rfl (i0 rfl (i0 (zbv n) (i0 (zD F.hg) rfl))))}
def zDG:vP 108 zHW:=kF3 z4n zq zbH ziD (zo []) zHM
def zHN (a:ad)(c d:Int)(j:zyD a c d=true):∃N,zxq N a c d=some [aH<|zcw a c d,aB<|zcG a c d]:=by
 obtain⟨j,m⟩:=zo3 j;have f:=(zQ a).1 (zF.1 j);refine⟨0,?_⟩;show _=some (zfe<|zcO a c d);unfold zxq oN nB;conv=>zeta
 refine i0 (zbv<|(zQ _).2 f) (i0 (zbv<|(zQ _).2 f)<|brN (λe=>?_) λe=>?_);{rw [zjB e];rfl};obtain⟨r,g,i⟩:=zdK e;have n:=zmU f g i;have q:zU (gOf a c d)=4:=qD m;rw[zla e,q];refine i0 (zD g) (i0 (zD i)<|i0 (zld rfl m) ?_);show _=some (zfe (zlb (zle a c d (gOf a c d) true) c d (gOf a c d) true,true));have k:=zv3 (b:=a.ao) (page:=zco (address<|gOf a c d)) (need:=zhi true) (io:=false) f e;have F:=zop k g i;have p:(ix (ix (zgO (zk a) (zk a).ao c d (zbs<|zg9<|ix (ix (zk a).aa c zi).ac d zA) (zcP true) false).aa c zi).ac d zA)=(ix (ix (zk a).aa c zi).ac d zA):=congrArg (λl=>ix l d gZ) (zNI k.gs c);rw[p];unfold zlb;refine i0 rfl (i0 rfl (i0 rfl (i0 (zbv<|(zQ _).2 f)<|brN (λh=>?_) λh=>?_)));{rw [show (zle a c d (gOf a c d) true).2.2=false from h];exact i0 (zD F.hm) (i0 rfl (i0 rfl (i0 (zbv n) (i0 (zD F.hg) rfl))))};{rw [show (zle a c d (gOf a c d) true).2.2=true from h];exact i0 rfl (i0 (zbv k.shape.1.1)<|i0 (zD F.hm)<|i0 (zbv n) (i0 (zD F.hg) rfl))}
def zDH:vP 108 zHX:=kF3 z4o zq zbH ziD (zo []) zHN
def zbb3 {c:ad}{a d:Int}(k:SmG (gOf c a d))(f:j0 a (ln c.aa)=true)(i:j0 d (ln (ix c.aa a mZ).ac)=true) :
 (cond (zew (ix (ix (zk c).aa a zi).ac d zA) (ix (ix (zk c).aa a zi).ac d zA).Ctl.aq 5) (cond (zdV (ix (ix (zk c).aa a zi).ac d zA) (ix (ix (zk c).aa a zi).ac d zA).Ctl.aq 5) (cond (inb a<|ln (zk c).aa) (cond (ilt (ln (ix (zk c).aa a zi).Outs) 40) (cond (inb a<|ln (zk c).aa) (cond (zdU (ix (ix (zk c).aa a zi).ac d zA).aw (ix (ix (zk c).aa a zi).ac d zA).Pc) (cond (few<|ln<|ap (ix (zk c).aa a zi).Outs [(zd3 (ix (ix (zk c).aa a zi).ac d zA).aw (ix (ix (zk c).aa a zi).ac d zA).Pc).X]) (cond (inb a<|ln (zk c).aa) (cond (cond (ieq a a) true false) (p0 (up (zk c).aa a ({ (ix (zk c).aa a zi) with Outs:=(ap (ix (zk c).aa a zi).Outs [(zd3 (ix (ix (zk c).aa a zi).ac d zA).aw (ix (ix (zk c).aa a zi).ac d zA).Pc).X])}:Mon)) λe=>cond (inb a<|ln e) (cond (inb d<|ln (ix e a zi).ac) (p0 (up e a ({ (ix e a zi) with ac:=(up (ix e a zi).ac d<|zcH (ix (ix (zk c).aa a zi).ac d zA) (ix (ix (zk c).aa a zi).ac d zA).Ctl.aq 5)}:Mon)) λl=>some [.agg<|zbl ({ (zk c) with aa:=l}:ad),.one<|.b true]) none) none) none) none) none) none) none)<|cond (inb a<|ln (zk c).aa) (cond (inb d<|ln (ix (zk c).aa a zi).ac) (p0 (up (zk c).aa a ({ (ix (zk c).aa a zi) with ac:=(up (ix (zk c).aa a zi).ac d<|zcH (ix (ix (zk c).aa a zi).ac d zA) (ix (ix (zk c).aa a zi).ac d zA).Ctl.aq 5)}:Mon)) λe=>some [.agg<|zbl ({ (zk c) with aa:=e}:ad),.one<|.b true]) none) none) none)<|cond (inb a<|ln (zk c).aa) (cond (inb d<|ln (ix (zk c).aa a zi).ac) (p0 (up (zk c).aa a ({ (ix (zk c).aa a zi) with ac:=(up (ix (zk c).aa a zi).ac d<|zcH (ix (ix (zk c).aa a zi).ac d zA) (ix (ix (zk c).aa a zi).ac d zA).Ctl.aq 5)}:Mon)) λe=>some [.agg<|zbl ({ (zk c) with aa:=e}:ad),.one<|.b true]) none) none) none)=some (zfe (zic (zmC c a (gOf c a d) 5) a d<|zh4 (gOf c a d) (gOf c a d).Ctl.aq 5,true)):=by
 refine i0 (zbv k) (br (λj=>i0 (zD f) (br (λg=>?_) λg=>?_)) λj=>?_)
 .rw [z0D (h:=c) (m:=a) (x:=gOf c a d) (w:=5) j rfl g];refine i0 (zD f) (i0 rfl (i0 (zXj g)<|i0 (zD f)<|i0 (zOM _)<|shr<|i0 (zD<|zfX f) (i0 ?_ rfl)));rw[zrn f];exact zD i
 .rw [zVa (h:=c) (m:=a) (x:=gOf c a d) (w:=5) g];exact i0 (zD f) (i0 (zD i) rfl)
 .rw [zQf (h:=c) (m:=a) (x:=gOf c a d) (w:=5) j];exact i0 (zD f) (i0 (zD i) rfl)
def zbfy {f:ad}{d:List Mon}{a c:Int}(n:SmG (gOf f a c))(i:j0 a (ln d)=true)(k:j0 c (ln (ix d a mZ).ac)=true)(e:(ix (ix d a zi).ac c zA)=gOf f a c) :
 (cond (zew ({ (ix (ix (zk f).aa a zi).ac c zA) with aw:=(ix (ix d a zi).ac c zA).aw,ar:=(ix (ix d a zi).ac c zA).ar,ax:=(ix (ix d a zi).ac c zA).ax,aC:=(ix (ix d a zi).ac c zA).aC}:ah) (ix (ix (zk f).aa a zi).ac c zA).Ctl.aq 5) (cond (zdV ({ (ix (ix (zk f).aa a zi).ac c zA) with aw:=(ix (ix d a zi).ac c zA).aw,ar:=(ix (ix d a zi).ac c zA).ar,ax:=(ix (ix d a zi).ac c zA).ax,aC:=(ix (ix d a zi).ac c zA).aC}:ah) (ix (ix (zk f).aa a zi).ac c zA).Ctl.aq 5) (cond (inb a<|ln d) (cond (ilt (ln (ix d a zi).Outs) 40) (cond (inb a<|ln d) (cond (zdU (ix (ix d a zi).ac c zA).aw (ix (ix (zk f).aa a zi).ac c zA).Pc) (cond (few<|ln<|ap (ix d a zi).Outs [(zd3 (ix (ix d a zi).ac c zA).aw (ix (ix (zk f).aa a zi).ac c zA).Pc).X]) (cond (inb a<|ln d) (cond (cond (ieq a a) true false) (p0 (up d a ({ (ix d a zi) with Outs:=(ap (ix d a zi).Outs [(zd3 (ix (ix d a zi).ac c zA).aw (ix (ix (zk f).aa a zi).ac c zA).Pc).X])}:Mon)) λg=>cond (inb a<|ln g) (cond (inb c<|ln (ix g a zi).ac) (p0 (up g a ({ (ix g a zi) with ac:=(up (ix g a zi).ac c<|zcH ({ (ix (ix (zk f).aa a zi).ac c zA) with aw:=(ix (ix d a zi).ac c zA).aw,ar:=(ix (ix d a zi).ac c zA).ar,ax:=(ix (ix d a zi).ac c zA).ax,aC:=(ix (ix d a zi).ac c zA).aC}:ah) (ix (ix (zk f).aa a zi).ac c zA).Ctl.aq 5)}:Mon)) λp=>some [.agg<|zbl ({ (zk f) with aa:=p}:ad),.one<|.b true]) none) none) none) none) none) none) none)<|cond (inb a<|ln d) (cond (inb c<|ln (ix d a zi).ac) (p0 (up d a ({ (ix d a zi) with ac:=(up (ix d a zi).ac c<|zcH ({ (ix (ix (zk f).aa a zi).ac c zA) with aw:=(ix (ix d a zi).ac c zA).aw,ar:=(ix (ix d a zi).ac c zA).ar,ax:=(ix (ix d a zi).ac c zA).ax,aC:=(ix (ix d a zi).ac c zA).aC}:ah) (ix (ix (zk f).aa a zi).ac c zA).Ctl.aq 5)}:Mon)) λg=>some [.agg<|zbl ({ (zk f) with aa:=g}:ad),.one<|.b true]) none) none) none)<|cond (inb a<|ln d) (cond (inb c<|ln (ix d a zi).ac) (p0 (up d a ({ (ix d a zi) with ac:=(up (ix d a zi).ac c<|zcH ({ (ix (ix (zk f).aa a zi).ac c zA) with aw:=(ix (ix d a zi).ac c zA).aw,ar:=(ix (ix d a zi).ac c zA).ar,ax:=(ix (ix d a zi).ac c zA).ax,aC:=(ix (ix d a zi).ac c zA).aC}:ah) (ix (ix (zk f).aa a zi).ac c zA).Ctl.aq 5)}:Mon)) λg=>some [.agg<|zbl ({ (zk f) with aa:=g}:ad),.one<|.b true]) none) none) none)=some (zfe (zic (zmC {f with aa:=d} a (gOf f a c) 5) a c<|zh4 (gOf f a c) (gOf f a c).Ctl.aq 5,true)):=by
 rw[e];refine i0 (zbv n) (br (λl=>i0 (zD i) (br (λj=>?_) λj=>?_)) λl=>?_)
 .rw [z0D (h:={f with aa:=d}) (m:=a) (x:=gOf f a c) (w:=5) l rfl j];refine i0 (zD i) (i0 rfl (i0 (zXj j)<|i0 (zD i)<|i0 (zOM _)<|shr<|i0 (zD<|zfX (h:={f with aa:=d}) i) (i0 ?_ rfl)));rw[zrn (h:={f with aa:=d}) i];exact zD k
 .rw [zVa (h:={f with aa:=d}) (m:=a) (x:=gOf f a c) (w:=5) j];exact i0 (zD i) (i0 (zD k) rfl)
 .rw [zQf (h:={f with aa:=d}) (m:=a) (x:=gOf f a c) (w:=5) l];exact i0 (zD i) (i0 (zD k) rfl)
def zHO (b:ad)(a c:Int)(j:zyE b a c=true):∃N,zxr N b a c=some [aH<|zcw b a c,aB<|zcG b a c]:=by
 obtain⟨j,p⟩:=zo3 j;have k:=(zQ b).1 (zF.1 j);refine⟨0,?_⟩;show _=some (zfe<|zcO b a c);unfold zxr oN nB;conv=>zeta
 refine i0 (zbv<|(zQ _).2 k) (i0 (zbv<|(zQ _).2 k)<|brN (λf=>?_) λf=>?_);{rw [zjB f];rfl};obtain⟨r,d,e⟩:=zdK f;have l:=zmU k d e;have q:zU (gOf b a c)=5:=qD p;rw[zla f,q];refine i0 (zD d) (i0 (zD e)<|i0 (zld rfl p) ?_);show _=some (zfe (znq b a c (gOf b a c) 5,true));refine i0 (zD d) (i0 rfl (br (λg=>i0 (zD d) (br (λi=>i0 (zD d) (i0 (zD d)<|shr ?_)) λi=>?_)) λg=>?_));{rw [zqy (z3N (h:=b) (m:=a) (x:=gOf b a c) (w:=5) rfl g i)];have n:=zrn d {ix b.aa a mZ with Own:=zM .i64 (ix b.aa a mZ).Own 1};refine zbfy l (zfX d) ?_ ?_;{show j0 c (ln (ix (up b.aa a _) a mZ).ac)=true;rw[n];exact e};{show ix (ix (up b.aa a _) a mZ).ac c gZ=_;rw[n];rfl}};{rw [zqy<|z3M (h:=b) (m:=a) (x:=gOf b a c) (w:=5) i];exact zbb3 l d e};{rw [zqy<|z3L (h:=b) (m:=a) (x:=gOf b a c) (w:=5) g];exact zbb3 l d e}
def zDI:vP 108 zHY:=kF3 z4p zq zbH ziD (zo []) zHO
def zHP (a:ad)(b c:Int)(g:zyF a b c=true):∃N,zxs N a b c=some [aH<|zcw a b c,aB<|zcG a b c]:=by
 obtain⟨g,j⟩:=zo3 g;have i:=(zQ a).1 (zF.1 g);refine⟨0,?_⟩;show _=some (zfe<|zcO a b c);unfold zxs oN nB;conv=>zeta
 refine i0 (zbv<|(zQ _).2 i) (i0 (zbv<|(zQ _).2 i)<|brN (λf=>?_) λf=>?_);{rw [zjB f];rfl};obtain⟨p,d,e⟩:=zdK f;have n:=zmU i d e;have l:zU (gOf a b c)=6:=qD j;rw[zla f,l];refine i0 (zD d) (i0 (zD e)<|i0 (zld rfl j) ?_);show _=some (zfe (znq a b c (gOf a b c) 6,true));rw[zqy<|zbd3 (h:=a) (m:=b) (x:=gOf a b c),zGj (w:=6) rfl];exact i0 (zbv n) (br (λk=>i0 (zD d) (i0 (zD e) rfl)) λk=>i0 (zD d) (i0 (zD e) rfl))
def zDJ:vP 108 zHZ:=kF3 z4q zq zbH ziD (zo []) zHP
def zbb4 {a:ad}{c d:Int}(i:SmG (gOf a c d))(f:j0 c (ln a.aa)=true)(g:j0 d (ln (ix a.aa c mZ).ac)=true) :
 (cond (zew (ix (ix (zk a).aa c zi).ac d zA) (ix (ix (zk a).aa c zi).ac d zA).Ctl.aq 7) (cond (zdV (ix (ix (zk a).aa c zi).ac d zA) (ix (ix (zk a).aa c zi).ac d zA).Ctl.aq 7) (cond (inb c<|ln (zk a).aa) (cond (inb d<|ln (ix (zk a).aa c zi).ac) (p0 (up (zk a).aa c ({ (ix (zk a).aa c zi) with ac:=(up (ix (zk a).aa c zi).ac d<|zcH (ix (ix (zk a).aa c zi).ac d zA) (ix (ix (zk a).aa c zi).ac d zA).Ctl.aq 7)}:Mon)) λe=>some [.agg<|zbl ({ (zk a) with aa:=e}:ad),.one<|.b true]) none) none)<|cond (inb c<|ln (zk a).aa) (cond (inb d<|ln (ix (zk a).aa c zi).ac) (p0 (up (zk a).aa c ({ (ix (zk a).aa c zi) with ac:=(up (ix (zk a).aa c zi).ac d<|zcH (ix (ix (zk a).aa c zi).ac d zA) (ix (ix (zk a).aa c zi).ac d zA).Ctl.aq 7)}:Mon)) λe=>some [.agg<|zbl ({ (zk a) with aa:=e}:ad),.one<|.b true]) none) none) none)=some (zfe (zic a c d<|zh4 (gOf a c d) (gOf a c d).Ctl.aq 7,true)):=
 i0 (zbv i) (br (λh=>i0 (zD f) (i0 (zD g) rfl)) λh=>i0 (zD f) (i0 (zD g) rfl))
def zbfz {f:ad}{d:List Mon}{a c:Int}(k:SmG (gOf f a c))(h:j0 a (ln d)=true)(i:j0 c (ln (ix d a mZ).ac)=true)(e:(ix (ix d a zi).ac c zA)=gOf f a c) :
 (cond (zew ({ (ix (ix (zk f).aa a zi).ac c zA) with aw:=(ix (ix d a zi).ac c zA).aw,ar:=(ix (ix d a zi).ac c zA).ar,ax:=(ix (ix d a zi).ac c zA).ax,aC:=(ix (ix d a zi).ac c zA).aC}:ah) (ix (ix (zk f).aa a zi).ac c zA).Ctl.aq 7) (cond (zdV ({ (ix (ix (zk f).aa a zi).ac c zA) with aw:=(ix (ix d a zi).ac c zA).aw,ar:=(ix (ix d a zi).ac c zA).ar,ax:=(ix (ix d a zi).ac c zA).ax,aC:=(ix (ix d a zi).ac c zA).aC}:ah) (ix (ix (zk f).aa a zi).ac c zA).Ctl.aq 7) (cond (inb a<|ln d) (cond (inb c<|ln (ix d a zi).ac) (p0 (up d a ({ (ix d a zi) with ac:=(up (ix d a zi).ac c<|zcH ({ (ix (ix (zk f).aa a zi).ac c zA) with aw:=(ix (ix d a zi).ac c zA).aw,ar:=(ix (ix d a zi).ac c zA).ar,ax:=(ix (ix d a zi).ac c zA).ax,aC:=(ix (ix d a zi).ac c zA).aC}:ah) (ix (ix (zk f).aa a zi).ac c zA).Ctl.aq 7)}:Mon)) λg=>some [.agg<|zbl ({ (zk f) with aa:=g}:ad),.one<|.b true]) none) none)<|cond (inb a<|ln d) (cond (inb c<|ln (ix d a zi).ac) (p0 (up d a ({ (ix d a zi) with ac:=(up (ix d a zi).ac c<|zcH ({ (ix (ix (zk f).aa a zi).ac c zA) with aw:=(ix (ix d a zi).ac c zA).aw,ar:=(ix (ix d a zi).ac c zA).ar,ax:=(ix (ix d a zi).ac c zA).ax,aC:=(ix (ix d a zi).ac c zA).aC}:ah) (ix (ix (zk f).aa a zi).ac c zA).Ctl.aq 7)}:Mon)) λg=>some [.agg<|zbl ({ (zk f) with aa:=g}:ad),.one<|.b true]) none) none) none)=some (zfe (zic {f with aa:=d} a c<|zh4 (gOf f a c) (gOf f a c).Ctl.aq 7,true)):=by
 rw[e];exact i0 (zbv k) (br (λj=>i0 (zD h) (i0 (zD i) rfl)) λj=>i0 (zD h) (i0 (zD i) rfl))
def zHQ (b:ad)(a c:Int)(j:zyG b a c=true):∃N,zxt N b a c=some [aH<|zcw b a c,aB<|zcG b a c]:=by
 obtain⟨j,p⟩:=zo3 j;have k:=(zQ b).1 (zF.1 j);refine⟨0,?_⟩;show _=some (zfe<|zcO b a c);unfold zxt oN nB;conv=>zeta
 refine i0 (zbv<|(zQ _).2 k) (i0 (zbv<|(zQ _).2 k)<|brN (λf=>?_) λf=>?_);{rw [zjB f];rfl};obtain⟨r,d,e⟩:=zdK f;have l:=zmU k d e;have q:zU (gOf b a c)=7:=qD p;rw[zla f,q];refine i0 (zD d) (i0 (zD e)<|i0 (zld rfl p) ?_);show _=some (zfe (znq b a c (gOf b a c) 7,true));refine i0 (zD d) (i0 rfl (br (λg=>i0 (zD d) (br (λi=>i0 (zD d) (i0 (zD d)<|shr ?_)) λi=>?_)) λg=>?_));{rw [zqy (z3N (h:=b) (m:=a) (x:=gOf b a c) (w:=7) rfl g i),zGj (w:=7) rfl];have n:=zrn d {ix b.aa a mZ with Own:=zM .i64 (ix b.aa a mZ).Own 1};refine zbfz l (zfX d) ?_ ?_;{show j0 c (ln (ix (up b.aa a _) a mZ).ac)=true;rw[n];exact e};{show ix (ix (up b.aa a _) a mZ).ac c gZ=_;rw[n];rfl}};{rw [zqy<|z3M (h:=b) (m:=a) (x:=gOf b a c) (w:=7) i,zGj (w:=7) rfl];exact zbb4 l d e};{rw [zqy<|z3L (h:=b) (m:=a) (x:=gOf b a c) (w:=7) g,zGj (w:=7) rfl];exact zbb4 l d e}
def zDK:vP 108 zH0:=kF3 z4r zq zbH ziD (zo []) zHQ
def zsW:LW
 |[.agg [.s (.sl .int) b,.s .mon c,.s .entry d,.s .entry e],.one<|.i .i64 f,.one<|.i .i64 g]=>some (zdv (⟨b,c,d,e⟩:ad) f g,[aH<|zcw (⟨b,c,d,e⟩:ad) f g,aB<|zcG (⟨b,c,d,e⟩:ad) f g])
 |_=>none
def zLb:vP 108 zsW:=by refine⟨zsy.1,λw m l n g h=>?_⟩;unfold zsW at h;split at h;{rename_i a b d f i j;obtain⟨k,rfl⟩:=zd4 h;rcases zbaN (gOf (⟨a,b,d,f⟩:ad) i j) with e|e|e|e|e|e|e|e;{exact zsy.2 w _ l _ g (congrArg (λc=>some (c,zfe<|zcO (⟨a,b,d,f⟩:ad) i j))<|zld k e)};{exact zDE.2 w _ l _ g (congrArg (λc=>some (c,zfe<|zcO (⟨a,b,d,f⟩:ad) i j))<|zld k e)};{exact zDF.2 w _ l _ g (congrArg (λc=>some (c,zfe<|zcO (⟨a,b,d,f⟩:ad) i j))<|zld k e)};{exact zDG.2 w _ l _ g (congrArg (λc=>some (c,zfe<|zcO (⟨a,b,d,f⟩:ad) i j))<|zld k e)};{exact zDH.2 w _ l _ g (congrArg (λc=>some (c,zfe<|zcO (⟨a,b,d,f⟩:ad) i j))<|zld k e)};{exact zDI.2 w _ l _ g (congrArg (λc=>some (c,zfe<|zcO (⟨a,b,d,f⟩:ad) i j))<|zld k e)};{exact zDJ.2 w _ l _ g (congrArg (λc=>some (c,zfe<|zcO (⟨a,b,d,f⟩:ad) i j))<|zld k e)};{exact zDK.2 w _ l _ g (congrArg (λc=>some (c,zfe<|zcO (⟨a,b,d,f⟩:ad) i j))<|zld k e)}};{cases h}
@[simp] abbrev zvu (h:ad)(m g b a:Int)(c:Bool):Bool:=pc (zdJ h)
@[simp] abbrev zvr (h:ad)(m g b a:Int)(c:Bool):ad:=(lookOf h (zvl h c) m g b a c).1
@[simp] abbrev zvs (h:ad)(m g b a:Int)(c:Bool):Int:=(lookOf h (zvl h c) m g b a c).2.1
@[simp] abbrev zvt (h:ad)(m g b a:Int)(c:Bool):Bool:=(lookOf h (zvl h c) m g b a c).2.2
def zFX:Run:=rF6 dH dI dI dI dI dB λb c d e f g=>(zvu b c d e f g,[aH<|zvr b c d e f g,aI<|zvs b c d e f g,aB<|zvt b c d e f g])
abbrev zXw (b:lM)(c:lN)(d:lE)(e:lE)(a:Int)(g:Int)(f:Int):Mon :=
 (ix (zgE (⟨b,c,d,e⟩:ad) a g f).aa a zi)
def zuu (N:Nat)(d:Int)(e:Int)(b:Int)(f:Int)(g:lM)(h:lN)(c:lE)(a:lE):OA:=
 let i:=(⟨e,d,b,f⟩:au); (oN (zii a i)<|some [aH (⟨g,h,c,zhS a i⟩:ad),aI b,aB true])
def zwd (N:Nat)(d:lM)(e:lN)(f:lE)(g:lE)(b:Int)(i:Int)(h:Int)(a:Int)(c:Int)(s:(Int×Int×Int×Int×lM×lN×lE×lE×lM×lN×lE×lE×Unit)->OA)(k:Int)(l:lM)(m:lN)(n:lE)(p:lE):OA:=
 let x:=(⟨d,e,f,g⟩:ad);let r:=zgE x b i h;let j:=zXw d e f g b i h;let w:=ix j.ak a zec;let u:=(ix j.ac a zA).ax; (oN (zh1 x b i h)<|oN (inb b<|ln r.aa)<|oN (inb a<|ln j.ak)<|oN (inb a<|ln j.ac)<|oN (zw8 w u j.ae c)<|oN (inb a<|ln j.ak)<|p0 (up r.aa b ({j with ak:=(up j.ak a<|zw7 w u j.ae c)}:Mon)) (λq=>let v:=(ix q b zi).ak;let t:=ix v a zec; (oN (inb a<|ln v)<|oN (zz3 t c)<|s (c,k,(zkm t c).af,(zkm t c).an,l,m,n,p,r.ag,q,r.ao,r.am,()))))
def zqS (N:Nat)(a:lN)(g:Int)(h:Int)(b:Int)(c:lM)(d:lE)(e:lE)(p:Int)(f:Int)(n:(Int×Int×Int×Int×lM×lN×lE×lE×lM×lN×lE×lE×Unit)->OA)(i:Int)(j:lM)(k:lN)(l:lE)(m:lE):OA:=
 let r:=zwd N c a d e g p f h b n i j k l m;let s:=ix (ix a g zi).ak h zec;let q:=zkm s b; (cond (nB<|zqL s b) r<|cond (ieq q.af<|-1) r<|oN (zbi q.an f)<|cond (nB<|zds q.an f) r<|n (b,i,q.af,q.an,j,k,l,m,c,a,d,e,()))
def zuv (N:Nat)(c:Int)(d:Int)(e:Int)(i:Int)(j:Int)(k:Int)(l:lM)(m:lN)(n:lE)(p:lE)(f:lM)(b:lN)(g:lE)(h:lE):OA:=
 let r:=(ix b c zi).ak; (oN (inb c<|ln b)<|oN (inb d<|ln r)<|oN (zz3 (ix r d zec) e)<|p0 (λ(a:(Int×Int×Int×Int×lM×lN×lE×lE×lM×lN×lE×lE×Unit))=>zuu N a.1 a.2.1 a.2.2.1 a.2.2.2.1 a.2.2.2.2.2.2.2.2.1 a.2.2.2.2.2.2.2.2.2.1 a.2.2.2.2.2.2.2.2.2.2.1 a.2.2.2.2.2.2.2.2.2.2.2.1) λq=>zqS N b c d e f g h j i q k l m n p)
def zuw (N:Nat)(d:Int)(e:Int)(b:Int)(f:Int)(g:lM)(h:lN)(a:lE)(c:lE):OA:=
 let i:=(⟨e,d,b,f⟩:au); (oN (zii a i)<|some [aH (⟨g,h,zhS a i,c⟩:ad),aI b,aB true])
def zux (N:Nat)(c:Int)(d:Int)(e:Int)(i:Int)(j:Int)(k:Int)(l:lM)(m:lN)(n:lE)(p:lE)(f:lM)(b:lN)(g:lE)(h:lE):OA:=
 let r:=(ix b c zi).ak; (oN (inb c<|ln b)<|oN (inb d<|ln r)<|oN (zz3 (ix r d zec) e)<|p0 (λ(a:(Int×Int×Int×Int×lM×lN×lE×lE×lM×lN×lE×lE×Unit))=>zuw N a.1 a.2.1 a.2.2.1 a.2.2.2.1 a.2.2.2.2.2.2.2.2.1 a.2.2.2.2.2.2.2.2.2.1 a.2.2.2.2.2.2.2.2.2.2.1 a.2.2.2.2.2.2.2.2.2.2.2.1) λq=>zqS N b c d e f g h j i q k l m n p)
def zuy (N:Nat)(f:Int)(g:Int)(c:Int)(e:Int)(r:Bool)(j:Int)(k:lM)(l:lN)(m:lE)(n:lE)(h:lM)(i:lN)(a:lE)(b:lE):OA:=
 let u:=aH (⟨h,i,a,b⟩:ad);let p:=zlL f g;let t:=zhb a p c;let s:=zhb b p c; (cond r (oN (zik f g)<|p0 (λ(d:(Int×Int×Int×Int×Int×Int×lM×lN×lE×lE×lM×lN×lE×lE×Unit))=>zuv N d.1 d.2.1 d.2.2.1 d.2.2.2.1 d.2.2.2.2.1 d.2.2.2.2.2.1 d.2.2.2.2.2.2.1 d.2.2.2.2.2.2.2.1 d.2.2.2.2.2.2.2.2.1 d.2.2.2.2.2.2.2.2.2.1 d.2.2.2.2.2.2.2.2.2.2.1 d.2.2.2.2.2.2.2.2.2.2.2.1 d.2.2.2.2.2.2.2.2.2.2.2.2.1 d.2.2.2.2.2.2.2.2.2.2.2.2.2.1) λq=>oN (ziM b p c)<|cond (zgo b p c) (oN (zbi s.an e)<|cond (zds s.an e) (some [u,aI s.ad,aB true])<|q (f,g,c,e,j,p,k,l,m,n,h,i,a,b,()))<|q (f,g,c,e,j,p,k,l,m,n,h,i,a,b,()))<|oN (zik f g)<|p0 (λ(d:(Int×Int×Int×Int×Int×Int×lM×lN×lE×lE×lM×lN×lE×lE×Unit))=>zux N d.1 d.2.1 d.2.2.1 d.2.2.2.1 d.2.2.2.2.1 d.2.2.2.2.2.1 d.2.2.2.2.2.2.1 d.2.2.2.2.2.2.2.1 d.2.2.2.2.2.2.2.2.1 d.2.2.2.2.2.2.2.2.2.1 d.2.2.2.2.2.2.2.2.2.2.1 d.2.2.2.2.2.2.2.2.2.2.2.1 d.2.2.2.2.2.2.2.2.2.2.2.2.1 d.2.2.2.2.2.2.2.2.2.2.2.2.2.1) λq=>oN (ziM a p c)<|cond (zgo a p c) (oN (zbi t.an e)<|cond (zds t.an e) (some [u,aI t.ad,aB true])<|q (f,g,c,e,j,p,k,l,m,n,h,i,a,b,()))<|q (f,g,c,e,j,p,k,l,m,n,h,i,a,b,()))
def zuz (N:Nat)(c:Int)(i:Int)(d:Int)(b:Int)(m:Bool)(n:lM)(p:lN)(j:lE)(k:lE)(e:lM)(a:lN)(f:lE)(g:lE)(l:lG):OA:=
 let s:=ix a c zi;let r:=(ix l i zA).ax;let q:=zeg r d b; (oN (inb i<|ln l)<|oN (ze0 r d b)<|cond (nB<|zdD r d b) (some [aH (⟨e,a,f,g⟩:ad),aI<|-1,aB false])<|p0 (λ(h:(Int×Int×Int×Int×Bool×Int×lM×lN×lE×lE×lM×lN×lE×lE×Unit))=>zuy N h.1 h.2.1 h.2.2.1 h.2.2.2.1 h.2.2.2.2.1 h.2.2.2.2.2.1 h.2.2.2.2.2.2.1 h.2.2.2.2.2.2.2.1 h.2.2.2.2.2.2.2.2.1 h.2.2.2.2.2.2.2.2.2.1 h.2.2.2.2.2.2.2.2.2.2.1 h.2.2.2.2.2.2.2.2.2.2.2.1 h.2.2.2.2.2.2.2.2.2.2.2.2.1 h.2.2.2.2.2.2.2.2.2.2.2.2.2.1) λt=>cond (ieq b 2) (oN (inb c<|ln a)<|oN (inb q<|ln s.av)<|p0 (up a c ({s with av:=(up s.av q true)}:Mon)) λu=>t (c,i,d,b,m,q,n,p,j,k,e,u,f,g,()))<|t (c,i,d,b,m,q,n,p,j,k,e,a,f,g,()))
def zMI (N:Nat)(d:ad)(e f:Int)(h g:Int)(i:Bool):OA:=
 let c:=zk d;let a:=zc3 d e; (oN (zS d)<|oN (zcT d e)<|p0 (λ(b:(Int×Int×Int×Int×Bool×Int×Int×Int×lM×lN×lE×lE×lM×lN×lE×lE×lS×lM×lB×lG×LI×lK×Unit))=>zuz N b.1 b.2.1 b.2.2.1 b.2.2.2.1 b.2.2.2.2.1 b.2.2.2.2.2.2.2.2.1 b.2.2.2.2.2.2.2.2.2.1 b.2.2.2.2.2.2.2.2.2.2.1 b.2.2.2.2.2.2.2.2.2.2.2.1 b.2.2.2.2.2.2.2.2.2.2.2.2.1 b.2.2.2.2.2.2.2.2.2.2.2.2.2.1 b.2.2.2.2.2.2.2.2.2.2.2.2.2.2.1 b.2.2.2.2.2.2.2.2.2.2.2.2.2.2.2.1 b.2.2.2.2.2.2.2.2.2.2.2.2.2.2.2.2.2.2.2.1) λj=>oN (zb8 d)<|cond (nB<|zb7 d) (some [aH c,aI<|-1,aB false])<|cond (nB<|znE d e) (some [aH c,aI<|-1,aB false])<|oN (zbi f<|ln a.ac)<|cond (nB<|zbX f<|ln a.ac) (some [aH c,aI<|-1,aB false])<|cond (ine g 1) (cond (ine g 2) (some [aH c,aI<|-1,aB false])<|j (e,f,h,g,i,a.aj,a.aq,a.Own,[],[],[],[],c.ag,c.aa,c.ao,c.am,a.ae,a.Out,a.av,a.ac,a.Outs,a.ak,()))<|j (e,f,h,g,i,a.aj,a.aq,a.Own,[],[],[],[],c.ag,c.aa,c.ao,c.am,a.ae,a.Out,a.av,a.ac,a.Outs,a.ak,()))
def z0L:=zo [(398,999999,{n:=0,tm:=[],lo:=[],ro:=[]}),(398,1007055,{n:=200,tm:=[(1,ti),(2,ti),(3,ti),(4,ti),(5,.b),(12,.lp 0 0),(15,.lp 1 0),(16,.lp 2 0)],lo:=[(0,[.sl 0 [],.sl 1 [],.sl 2 [],.sl 3 []]),(1,[.sl 4 [],.sl 5 [],.sl 6 [],.sl 7 []]),(2,[.sl 8 [],.sl 9 [],.sl 10 [],.sl 11 [],.sl 12 [],ti,ti,.sl 13 [],ti])],ro:=[(0,.sl .int,true),(1,.mon,true),(2,.entry,true),(3,.entry,true),(4,.sl .int,true),(5,.mon,true),(6,.entry,true),(7,.entry,true),(8,.slot,true),(9,.sl .int,true),(10,.bool,true),(11,.guest,true),(12,.int,true),(13,.kept,true)]}),(398,1005039,{n:=200,tm:=[(1,ti),(2,ti),(3,ti),(4,ti),(5,.b),(12,.lp 0 0),(15,.lp 1 0),(18,ti)],lo:=[(0,[.sl 0 [],.sl 1 [],.sl 2 [],.sl 3 []]),(1,[.sl 4 [],.sl 5 [],.sl 6 [],.sl 7 []])],ro:=[(0,.sl .int,true),(1,.mon,true),(2,.entry,true),(3,.entry,true),(4,.sl .int,true),(5,.mon,true),(6,.entry,true),(7,.entry,true)]}),(398,1009019,{n:=200,tm:=[(1,ti),(2,ti),(3,ti),(4,ti),(12,.lp 0 0),(15,.lp 1 0),(18,ti),(20,.lp 1 3),(21,ti)],lo:=[(0,[.sl 0 [],.sl 1 [],.sl 2 [],.sl 3 []]),(1,[.sl 4 [],.sl 5 [],.sl 6 [],.sl 7 []])],ro:=[(0,.sl .int,true),(1,.mon,true),(2,.entry,true),(3,.entry,true),(4,.sl .int,true),(5,.mon,true),(6,.entry,true),(7,.entry,true)]}),(398,1011005,{n:=200,tm:=[(3,ti),(12,.lp 0 0),(15,.lp 1 0),(20,.lp 1 3),(21,ti),(24,.lp 2 0)],lo:=[(0,[.sl 0 [],.sl 1 [],.sl 2 [],.sl 3 []]),(1,[.sl 4 [],.sl 5 [],.sl 6 [],.sl 7 []]),(2,[ti,ti])],ro:=[(0,.sl .int,true),(1,.mon,true),(2,.entry,true),(3,.entry,true),(4,.sl .int,true),(5,.mon,true),(6,.entry,true),(7,.entry,true)]}),(398,1001009019,{n:=200,tm:=[(1,ti),(2,ti),(3,ti),(4,ti),(12,.lp 0 0),(15,.lp 1 0),(18,ti),(20,.lp 1 2),(21,ti)],lo:=[(0,[.sl 0 [],.sl 1 [],.sl 2 [],.sl 3 []]),(1,[.sl 4 [],.sl 5 [],.sl 6 [],.sl 7 []])],ro:=[(0,.sl .int,true),(1,.mon,true),(2,.entry,true),(3,.entry,true),(4,.sl .int,true),(5,.mon,true),(6,.entry,true),(7,.entry,true)]}),(398,1001011005,{n:=200,tm:=[(3,ti),(12,.lp 0 0),(15,.lp 1 0),(20,.lp 1 2),(21,ti),(24,.lp 2 0)],lo:=[(0,[.sl 0 [],.sl 1 [],.sl 2 [],.sl 3 []]),(1,[.sl 4 [],.sl 5 [],.sl 6 [],.sl 7 []]),(2,[ti,ti])],ro:=[(0,.sl .int,true),(1,.mon,true),(2,.entry,true),(3,.entry,true),(4,.sl .int,true),(5,.mon,true),(6,.entry,true),(7,.entry,true)]})]
def zbb7 {N:Nat}{r:ad}{m g a:Int}(b:r.am.length<=1048576) :
 zuu N a (zi6 m g) (zhm (zdY r m g) a).af (zhm (zdY r m g) a).an r.ag r.aa r.ao r.am=some (zmj<|zgG r m g a true):=by
 unfold zuu oN
 conv=>zeta
 exact i0 (zbv b) rfl
def zbb9 {N:Nat}{r:ad}{m g a:Int}(b:r.ao.length<=1048576) :
 zuw N a (zi6 m g) (zhm (zdY r m g) a).af (zhm (zdY r m g) a).an r.ag r.aa r.ao r.am=some (zmj<|zgG r m g a false):=by
 unfold zuw oN
 conv=>zeta
 exact i0 (zbv b) rfl
def z94 {N:Nat}{r:ad}{m g a b q:Int}{R:OA}{r10}{u5 u6 u7 u8 u9}(A:LookAt r m g q b)(c:r10 (a,u5,(zhm (zdY (zed (mended r m q b) m g a) m g) a).af,(zhm (zdY (zed (mended r m q b) m g a) m g) a).an,u6,u7,u8,u9,(zed (mended r m q b) m g a).ag,(zed (mended r m q b) m g a).aa,(zed (mended r m q b) m g a).ao,(zed (mended r m q b) m g a).am,())=R) :
 zwd N r.ag r.aa r.ao r.am m q b g a r10 u5 u6 u7 u8 u9=R:=by
 have M:=zop A.kp A.hm A.hg;have F:=zop (A.fill a) A.hm A.hg;unfold zwd oN
 conv=>zeta
 exact i0 (zbv A.mend) (i0 (zD M.hm)<|i0 (zD M.ht)<|i0 (zD M.hg)<|i0 (zbv M.hk)<|i0 (zD M.ht)<|shr<|i0 (zD F.ht) (i0 rfl c))
def lk_3 {N:Nat}{r:ad}{m g a b q:Int}{c:Bool}{r10}{u5 u6 u7 u8 u9}(A:LookAt r m g q b)(h:r10 (a,u5,(zhm (zdY (zed (mended r m q b) m g a) m g) a).af,(zhm (zdY (zed (mended r m q b) m g a) m g) a).an,u6,u7,u8,u9,(zed (mended r m q b) m g a).ag,(zed (mended r m q b) m g a).aa,(zed (mended r m q b) m g a).ao,(zed (mended r m q b) m g a).am,())=some (zmj<|zgG (zed (mended r m q b) m g a) m g a c))(i:r10 (a,u5,(zhm (zdY r m g) a).af,(zhm (zdY r m g) a).an,u6,u7,u8,u9,r.ag,r.aa,r.ao,r.am,())=some (zmj<|zgG r m g a c)) :
 zqS N r.aa m g a r.ag r.ao r.am q b r10 u5 u6 u7 u8 u9=some (zmj<|cond (zgk r m g a b) (zgG (zed (mended r m q b) m g a) m g a c)<|zgG r m g a c):=by
 unfold zqS oN nB
 conv=>zeta
 refine brN (λd=>?_) (λd=>br (λe=>?_) λe=>i0 rfl (brN (λf=>?_) λf=>?_))
 .rw [zv5<|z3E d];exact z94 A h
 .rw [zv5<|z3F e];exact z94 A h
 .rw [zv5<|z3G f];exact z94 A h
 .rw [z3k<|z3H d e f];exact i
def zbb8 {N:Nat}{r:ad}{m g a b q:Int}{u6 u7 u8 u9}(A:LookAt r m g q b) :
 zuv N m g a b q (zi6 m g) u6 u7 u8 u9 r.ag r.aa r.ao r.am=some (zmj<|cond (zgk r m g a b) (zgG (zed (mended r m q b) m g a) m g a true)<|zgG r m g a true):=by
 have M:=zop ⟨A.fit.1,rfl⟩ A.hm A.hg;have F:=zop (A.fill a) A.hm A.hg;unfold zuv oN
 conv=>zeta
 exact i0 (zD M.hm) (i0 (zD M.ht) (i0 rfl (shr<|lk_3 A (zbb7 (r:=zed (mended r m q b) m g a) (m:=m) (g:=g) F.hi)<|zbb7 (r:=r) (m:=m) (g:=g) M.hi)))
def zbca {N:Nat}{r:ad}{m g a b q:Int}{u6 u7 u8 u9}(A:LookAt r m g q b) :
 zux N m g a b q (zi6 m g) u6 u7 u8 u9 r.ag r.aa r.ao r.am=some (zmj<|cond (zgk r m g a b) (zgG (zed (mended r m q b) m g a) m g a false)<|zgG r m g a false):=by
 have M:=zop ⟨A.fit.1,rfl⟩ A.hm A.hg;have F:=zop (A.fill a) A.hm A.hg;unfold zux oN
 conv=>zeta
 exact i0 (zD M.hm) (i0 (zD M.ht) (i0 rfl (shr<|lk_3 A (zbb9 (r:=zed (mended r m q b) m g a) (m:=m) (g:=g) F.hb)<|zbb9 (r:=r) (m:=m) (g:=g) M.hb)))
def zbcb {N:Nat}{r:ad}{m g b a q:Int}{e:Bool}{u6 u7 u8 u9}(A:LookAt r m g q a) :
 zuy N m g b a e q u6 u7 u8 u9 r.ag r.aa r.ao r.am=some (zmj<|zkx r (zvl r e) m g b a q e):=by
 unfold zuy oN
 conv=>zeta
 cases e
 .show _=some (zmj<|zkx r r.ao m g b a q false)
  refine zb9 rfl (i0 rfl (shr (i0 rfl (br (λc=>i0 rfl (br (λd=>?_) λd=>?_)) λc=>?_))))
  .rw [zGH<|zqC c d];rfl
  .rw [zqG<|zqC c d];exact zbca A
  .rw [zqG<|zGD c];exact zbca A
 .show _=some (zmj<|zkx r r.am m g b a q true)
  refine i0 rfl (i0 rfl (shr (i0 rfl (br (λc=>i0 rfl (br (λd=>?_) λd=>?_)) λc=>?_))))
  .rw [zGH<|zqC c d];rfl
  .rw [zqG<|zqC c d];exact zbb8 A
  .rw [zqG<|zGD c];exact zbb8 A
def zbfs (r:ad)(m q:Int)(a:Bool):zvl (zcl r m q) a=zvl r a:=by cases a<;>rfl
def zbcc {N:Nat}{r:ad}{m g b a:Int}{c:Bool}{z1 z2 z3 z4}(k:SmH r)(hg:zcy r m g=true)(h:zjN a=true) :
 zuz N m g b a c z1 z2 z3 z4 r.ag r.aa r.ao r.am (ix r.aa m mZ).ac=some (zmj (lookOf r (zvl r c) m g b a c)):=by
 obtain⟨l,f,i⟩:=zdK hg;unfold zuz oN nB
 conv=>zeta
 refine i0 (zD i) (i0 rfl (brN (fun e=>?_) (fun e=>?_)))
 .have:zca r m g b a=false:=by
   unfold zca;rw[hg,h,show ziU (zeM r m g) b a=false from e];rfl
  rw[zjy this];rfl
 .have hl:zca r m g b a=true:=by
   unfold zca;rw[hg,h,show ziU (zeM r m g) b a=true from e];rfl
  obtain⟨A,B⟩:=zFN k hl;rw[zLS hl];have j:j0 (zdM (zeM r m g) b a) (ln (ix r.aa m mZ).av)=true:=zez (zcv A.fit.1 f).2.2.2.1 A.hq;refine shr (br (fun d=>?_) (fun d=>?_))
  .rw [d]
   show _=some (zmj (zkx (zcl r m (zdM (zeM r m g) b a)) (zvl r c) m g b a (zdM (zeM r m g) b a) c))
   rw[<- zbfs r m (zdM (zeM r m g) b a) c];exact i0 (zD f) (i0 (zD j) (shr (zbcb (r:=zcl r m (zdM (zeM r m g) b a)) B)))
  .rw [d];exact zbcb A
def zY0 (a:ad)(b d:Int)(e c:Int)(f:Bool)(s:zvu a b d e c f=true):∃N,zMI N a b d e c f=some [aH<|zvr a b d e c f,aI<|zvs a b d e c f,aB<|zvt a b d e c f]:=by
 have i:=(zQ a).1 (zF.1 s);refine⟨0,?_⟩;show _=some (zmj<|lookOf a (zvl a f) b d e c f);unfold zMI oN nB;conv=>zeta
 refine i0 (zbv<|(zQ _).2 i) (i0 (zbv<|(zQ _).2 i)<|shr (i0 rfl (brN (λj=>?_) λj=>?_)));{rw [zjy<|zqH<|zQV j];rfl};refine brN (λg=>?_) (λg=>?_);{rw [zjy<|zqH<|zQW g];rfl};have q:zc3 a b=ix a.aa b mZ:=(by unfold zc3;rw[show j0 b (ln a.aa)=true from g];rfl);rw[q];refine i0 rfl (brN (λk=>?_) λk=>?_);{rw [zjy<|zqH<|zQX k];rfl};have hg:=zQY j g k;have m:∀{n:Int},zjN n=false->zca a b d e n=false:=λ{n} h=>(by unfold zca;rw[hg,h];rfl);rw[zjw,zjw];cases l:ieq c 1;{cases p:ieq c 2;{have:zjN c=false:=(by unfold zjN;rw[l,p];rfl);rw[zjy<|m this];rfl};{exact zbcc (r:=a) i hg (by unfold zjN;rw[l,p];rfl)}};{exact zbcc (r:=a) i hg (by unfold zjN;rw[l];rfl)}
def zRu:vP 398 zFX:=kF6 zjG zq zbH ziD z0L zY0
def zbbM:zbb:=[(398,zFX),(108,zsW)]++zpC
def zX4:zN zbbM:=zh zRu (zh zLb zjG)
@[simp] abbrev zmd (h:ad)(m g b a:Int):Bool:=pc (zdJ h)
@[simp] abbrev zvp (h:ad)(m g page need:Int):ad:=(lookOf h h.ao m g page need false).1
@[simp] abbrev zvq (h:ad)(m g page need:Int):Int:=(lookOf h h.ao m g page need false).2.1
@[simp] abbrev zBC (h:ad)(m g b a:Int):Bool:=(lookOf h h.ao m g b a false).2.2
def zFW:Run:=rF5 dH dI dI dI dI λb c d e f=>(zmd b c d e f,[aH<|zvp b c d e f,aI<|zvq b c d e f,aB<|zBC b c d e f])
def zMw (N:Nat)(a:ad)(b c:Int)(d e:Int):OA:=
 (oN (zvu a b c d e false)<|some [aH<|zvr a b c d e false,aI<|zvs a b c d e false,aB<|zvt a b c d e false])
def zYO (a:ad)(b c:Int)(d e:Int)(f:zmd a b c d e=true):∃N,zMw N a b c d e=some [aH<|zvp a b c d e,aI<|zvq a b c d e,aB<|zBC a b c d e]:=by refine⟨0,?_⟩;unfold zMw oN;exact i0 f rfl
def zRd:vP 246 zFW:=kF5 zX4 zq zbH ziD (zo []) zYO
def zbbN:zbb:=[(246,zFW)]++zbbM
def z9G:zN zbbN:=zh zRd zX4
def brought (n a b:Int):Int:=bif ilt n a then a else (cond (ilt b a) a<|zSb n b)
@[simp] abbrev ztA (_ _ _:Int):Bool:=true
@[simp] abbrev zuk (n a b:Int):Int:=brought n a b
def zuT:Run:=rF3 dI dI dI λb c d=>(ztA b c d,[aI<|zuk b c d])
def zIz (N:Nat)(b a c:Int):OA:=
 (cond (ilt c a) (some [aI a])<|cond (ilt b a) (some [aI a])<|cond (igt b c) (some [aI c])<|some [aI b])
def zWh (a b c:Int)(g:ztA a b c=true):∃N,zIz N a b c=some [aI<|zuk a b c]:=by refine⟨0,?_⟩;unfold zIz;unfold zuk brought zSb;cases d:ilt c b<;>cases e:ilt a b<;>cases f:igt a c<;>simp [igt] at * <;> omega
def zx1:vP 110 zuT:=kF3 zl7 zq zu zn (zo []) zWh
@[simp] abbrev zke (l:List ai):Bool:=pc (zwl l)
@[simp] abbrev zcJ (l:List ai):List ai:=l
def znf:Run:=rF1 (dS .bare) λb=>(zke b,[aS .bare<|zcJ b])
def zCr (N:Nat)(c:lR):OA:=
 (q0 (σ:=(Int×Int×lR×lR×Unit)) N (λd a=>let b:=ix a.2.2.2.1 a.2.1 zdf; (cond (ilt a.2.1 a.1) (oN (inb a.2.1<|ln a.2.2.2.1)<|oN (zW b)<|oN (few<|ln<|ap a.2.2.1 [zO b])<|d (a.1,zM .i64 a.2.1 1,ap a.2.2.1 [zO b],a.2.2.2.1,()))<|some [aS .bare a.2.2.1])) (ln c,0,[],c,()))
def zQl:=zo [(104,0,{n:=20,tm:=[(3,.sl 0 []),(7,.sl 1 []),(8,ti),(9,ti)],lo:=[],ro:=[(0,.bare,true),(1,.bare,false)]})]
def zOZ (a:List ai)(g:zke a=true):∃N,zCr N a=some [aS .bare<|zcJ a]:=by
 have f:=zF.1 g;have e:=zcC f.1;refine zcf λN d=>?_;unfold zCr oN;conv=>zeta
 refine(zbp a (λi (t:lR)=>(ln a,(i:Int),t,a,())) _ (λ_ x b j=>bif zW x then (cond (few<|ln<|ap b [zO x]) (j<|ap b [zO x]) none) else none) (λ(t:lR)=>some [.one<|.s .bare t]) (λi c t rec=>?_) (λt rec=>?_) _ ([])<|d e.1).trans ?_;{simp only [zbw c,zbc c,zbn c,zbj c e.1,cT]};{simp only [zbq,cF]};exact zjD zW zO _ a 0 [] (λx h=>⟨zba<|f.2 x h,rfl⟩) (by simpa using e.2)
def zG8:vP 104 znf:=kF1 zl7 zq zu zn zQl zOZ
def zEG (N:Nat)(c:lR):OA:=
 (q0 (σ:=(Int×lR×lR×Unit)) N (λd a=>let b:=ix a.2.1 a.1 zdf; (cond (ilt a.1<|ln a.2.1) (oN (inb a.1<|ln a.2.1)<|oN (zW b)<|oN (few<|ln<|ap a.2.2.1 [zO b])<|d (zM .i64 a.1 1,a.2.1,ap a.2.2.1 [zO b],()))<|some [aS .bare a.2.2.1])) (0,c,[],()))
def zTL:=zo [(112,0,{n:=21,tm:=[(0,.sl 0 []),(3,.sl 1 []),(4,ti)],lo:=[],ro:=[(0,.bare,false),(1,.bare,true)]})]
def zS4 (a:List ai)(g:zke a=true):∃N,zEG N a=some [aS .bare<|zcJ a]:=by
 have f:=zF.1 g;have e:=zcC f.1;refine zcf λN d=>?_;unfold zEG oN;conv=>zeta
 refine(zbp a (λi (t:lR)=>((i:Int),a,t,())) _ (λ_ x b j=>bif zW x then (cond (few<|ln<|ap b [zO x]) (j<|ap b [zO x]) none) else none) (λ(t:lR)=>some [.one<|.s .bare t]) (λi c t rec=>?_) (λt rec=>?_) _ ([])<|d e.1).trans ?_;{simp only [zbw c,zbc c,zbn c,zbj c e.1,cT]};{simp only [zbq,cF]};exact zjD zW zO _ a 0 [] (λx h=>⟨zba<|f.2 x h,rfl⟩) (by simpa using e.2)
def zLt:vP 112 znf:=kF1 zl7 zq zu zn zTL zS4
structure RI (a:List ai) (i:Nat) (l:List ai):Prop where
 len:l.length=a.length
 sm:zwl l
 eq:∀k,i<=k->l[k]?=a[k]?
def RI.up {a l:List ai}{i:Nat}(h:RI a i l)(x:ai)(b:SmB x):RI a (i+1) (up l (i:Int) x):=
 ⟨by rw[zfB];exact h.len,zbdX h.sm b,λk c=>by rw[zbeI (by omega)];exact h.eq k (by omega)⟩
structure RJ (l:List ai) (i:Nat) (l':List ai):Prop where
 len:l'.length=l.length
 sm:SmB (ix l' (i:Int) zdf)
 up:∀x,E.up l' (i:Int) x=E.up l (i:Int) x
def RJ.next {l a:List ai}{i:Nat}(h:RJ l i a)(b:i<l.length)(x:ai)(c:SmB x):RJ l i (E.up a (i:Int) x):=
 ⟨by rw[zfB];exact h.len,by rw[zee (by rw[h.len];exact b)];exact c,λy=>by rw[zsv];exact h.up y⟩
def z6Z:zbb:=[(111,zlz)]++zbbN
def zUA:zN z6Z:=zh zwB z9G
def zAw:Run:=rF3 dH dI dI λb c d=>(zdv b c d,[aH<|zcw b c d,aB<|zcG b c d])
abbrev zjr (a:ad)(b c:Int):Int :=
 (zg9<|ix (zc3 a b).ac c zA)
abbrev zdW (a:ad)(b c:Int):Int :=
 (zhz<|ix (zc3 a b).ac c zA)
abbrev zzs (a:ad)(b c:Int):ad :=
 (zvp a b c (zbs<|zjr a b c)<|zcP<|ieq (zdW a b c) 4)
abbrev zjq (a:ad)(b c:Int):ah :=
 (ix (ix (zk a).aa b zi).ac c zA)
abbrev zn7 (c:lN)(a b:Int):ah :=
 (ix (ix c a zi).ac b zA)
abbrev zzt (a:ad)(b c:Int):Int :=
 (zvq a b c (zbs<|zjr a b c)<|zcP<|ieq (zdW a b c) 4)
def zn8 (N:Nat)(f:ad)(c d:Int):OA:=
 let j:=zzt f c d;let h:=ieq (zdW f c d) 4;let a:=zjr f c d;let b:=zzs f c d;let k:=inb c<|ln b.aa;let e:=ix (zc3 f c).ac d zA;let g:=ix b.aa c zi;let l:=inb d<|ln g.ac; (oN (zbo a)<|oN (zi2 h)<|oN (zmd f c d (zbs a)<|zcP h)<|cond (nB<|zBC f c d (zbs a)<|zcP h) (oN (zbo a)<|oN (zfE (zbs a) h)<|oN (zci e<|zd8 (zbs a) h)<|oN k<|oN l<|p0 (up b.aa c ({g with ac:=(up g.ac d<|zcu e<|zd8 (zbs a) h)}:Mon)) λi=>some [aH ({b with aa:=i}:ad),aB true])<|cond h (oN (zbo a)<|oN (zde b.ag j (zcg a) e.A)<|oN (zL e)<|oN k<|oN l<|p0 (up b.aa c ({g with ac:=(up g.ac d<|zb3 e)}:Mon)) λi=>some [aH ({b with ag:=(zdn b.ag j (zcg a) e.A),aa:=i}:ad),aB true])<|oN (zbo a)<|oN (zer b.ag j<|zcg a)<|oN (zkH e<|zfr b.ag j<|zcg a)<|oN k<|oN l<|p0 (up b.aa c ({g with ac:=(up g.ac d<|zjW e<|zfr b.ag j<|zcg a)}:Mon)) λi=>some [aH ({b with aa:=i}:ad),aB true])
def zn9 (N:Nat)(f:ad)(a b:Int)(d:lN):OA:=
 let c:=zn7 d a b;let e:=ix d a zi;let g:=({ (zjq f a b) with aw:=c.aw,ar:=c.ar,ax:=c.ax,aC:=c.aC}:ah); (oN (zL g)<|oN (inb b<|ln e.ac)<|p0 (up d a ({e with ac:=(up e.ac b<|zb3 g)}:Mon)) λh=>some [aH ({ (zk f) with aa:=h}:ad),aB true])
def zoa (N:Nat)(e:ad)(a d:Int):OA:=
 let g:=(zk e).aa;let c:=zjq e a d;let b:=ix g a zi;let h:=ap b.Outs [(zd3 c.aw c.Pc).X]; (cond (ieq (zdW e a d) 7) (oN (zL c)<|oN (inb d<|ln b.ac)<|p0 (up g a ({b with ac:=(up b.ac d<|zjR c)}:Mon)) λf=>some [aH ({ (zk e) with aa:=f}:ad),aB true])<|cond (ilt (ln b.Outs) 40) (oN (zdU c.aw c.Pc)<|oN (few<|ln h)<|oN (cond (ieq a a) true false)<|p0 (up g a ({b with Outs:=h}:Mon)) λf=>zn9 N e a d f)<|oN (zL c)<|oN (inb d<|ln b.ac)<|p0 (up g a ({b with ac:=(up b.ac d<|zb3 c)}:Mon)) λf=>some [aH ({ (zk e) with aa:=f}:ad),aB true])
def zob (N:Nat)(a:Int)(g:ad)(b:Int):OA:=
 let f:=zk g;let j:=zdW g a b;let d:=zjq g a b;let c:=ix f.aa a zi;let l:=zl0 c.aq d.Ctl.aq<|zjJ j; (oN (inb a<|ln f.aa)<|oN (inb b<|ln c.ac)<|oN (zrh j)<|oN (zpr c.aq d.Ctl.aq<|zjJ j)<|cond (ieq l 1) (oN (zpd d j)<|oN (inb b<|ln c.ac)<|p0 (up f.aa a ({c with ac:=(up c.ac b<|zlY d j)}:Mon)) λe=>some [aH ({f with aa:=e}:ad),aB true])<|cond (ieq l 2) (cond (ilt c.Own 1000000000) (p0 (up f.aa a ({c with Own:=(zM .i64 c.Own 1)}:Mon)) (λe=>let i:=ix e a zi;let h:=zn7 e a b;let k:=ap i.Outs [(zd3 h.aw d.Pc).X];let q:=({d with aw:=h.aw,ar:=h.ar,ax:=h.ax,aC:=h.aC}:ah); (cond (ieq j 7) (oN (zL q)<|oN (inb b<|ln i.ac)<|p0 (up e a ({i with ac:=(up i.ac b<|zjR q)}:Mon)) λm=>some [aH ({f with aa:=m}:ad),aB true])<|cond (ilt (ln i.Outs) 40) (oN (zdU h.aw d.Pc)<|oN (few<|ln k)<|oN (cond (ieq a a) true false)<|p0 (up e a ({i with Outs:=k}:Mon)) (λm=>let p:=ix m a zi;let n:=ix p.ac b zA;let r:=({d with aw:=n.aw,ar:=n.ar,ax:=n.ax,aC:=n.aC}:ah); (oN (zL r)<|oN (inb b<|ln p.ac)<|p0 (up m a ({p with ac:=(up p.ac b<|zb3 r)}:Mon)) λs=>some [aH ({f with aa:=s}:ad),aB true])))<|zn9 N g a b e)))<|zoa N g a b)<|zoa N g a b)
def zlj (N:Nat)(a:ad)(b c:Int):OA:=
 (oN (zcT a b)<|oN (zbT (zdh a b) c)<|oN (inb b<|ln (zk a).aa)<|p0 (up (zk a).aa b ({ (ix (zk a).aa b zi) with ac:=(zfq (zdh a b) c).ac}:Mon)) λd=>some [aH ({ (zk a) with aa:=d}:ad),aB true])
def zhk (N:Nat)(a:ad)(b c:Int):OA:=
 let d:=zdW a b c; (cond (ieq d 5) (cond (ieq d 5) (zob N b a c)<|zlj N a b c)<|cond (ieq d 7) (zob N b a c)<|zlj N a b c)
def zDZ (N:Nat)(a:ad)(c b:Int):OA:=
 let f:=aH<|zk a;let e:=zdW a c b;let d:=(zc3 a c).ac;let g:=ix d b zA; (oN (zS a)<|oN (zcT a c)<|oN (zb8 a)<|cond (nB<|zb7 a) (some [f,aB false])<|cond (nB<|znE a c) (some [f,aB false])<|oN (zbi b<|ln d)<|cond (nB<|zbX b<|ln d) (some [f,aB false])<|oN (inb b<|ln d)<|oN (zbx g)<|cond (ieq e 0) (some [f,aB false])<|oN (inb b<|ln d)<|oN (zbx g)<|oN (zbx g)<|cond (ieq e 3) (cond (ieq e 3) (zn8 N a c b)<|zhk N a c b)<|cond (ieq e 4) (zn8 N a c b)<|zhk N a c b)
def zZv {h:ad}{m:Int}(a:j0 m (ln h.aa)=true):zc3 h m=ix h.aa m mZ:=by unfold zc3;rw[a];rfl
def is_1 {N:Nat}{a:ad}{c d:Int}(l:SmH a)(p:zcy a c d=true) :
 zn8 N a c d=some (zfe (zlb (zle a c d (gOf a c d)<|ieq (zU<|gOf a c d) 4) c d (gOf a c d)<|ieq (zU<|gOf a c d) 4,true)):=by
 obtain⟨s,i,n⟩:=zdK p;have m:=zmU l i n;have k:=zv3 (b:=a.ao) (page:=zco (address<|gOf a c d)) (need:=zhi (ieq (zU<|gOf a c d) 4)) (io:=false) l p;have F:=zop k i n;have g:=zZv i;have e:zdW a c d=zU (gOf a c d):=by show zhz (ix (zc3 a c).ac d gZ)=_;rw[g];rfl
 have f:zjr a c d=address (gOf a c d):=by show zg9 (ix (zc3 a c).ac d gZ)=_;rw[g];rfl
 have q:zzs a c d=(zle a c d (gOf a c d)<|ieq (zU<|gOf a c d) 4).1:=by show zvp a c d (zbs<|zjr a c d) (zcP<|ieq (zdW a c d) 4)=_;rw[e,f];rfl
 have r:zzt a c d=(zle a c d (gOf a c d)<|ieq (zU<|gOf a c d) 4).2.1:=by show zvq a c d (zbs<|zjr a c d) (zcP<|ieq (zdW a c d) 4)=_;rw[e,f];rfl
 unfold zn8 oN nB
 conv=>zeta
 rw[q,e,f,r,g];unfold zlb;refine i0 rfl (i0 rfl (i0 (zbv<|(zQ _).2 l)<|brN (λh=>?_) λh=>?_))
 .rw [show (zle a c d (gOf a c d)<|ieq (zU<|gOf a c d) 4).2.2=false from h]
  exact i0 rfl (i0 rfl (i0 (zbv m)<|i0 (zD F.hm) (i0 (zD F.hg) rfl)))
 .rw [show (zle a c d (gOf a c d)<|ieq (zU<|gOf a c d) 4).2.2=true from h]
  refine br (λj=>?_) (λj=>?_)
  .have kk:=k.shape.1.1;rw[j] at F kk ⊢;exact i0 rfl (i0 (zbv kk)<|i0 (zbv m)<|i0 (zD F.hm) (i0 (zD F.hg) rfl))
  .rw [j] at F ⊢;exact i0 rfl (i0 rfl (i0 (zbv m)<|i0 (zD F.hm) (i0 (zD F.hg) rfl)))
def is_2 {N:Nat}{c:ad}{d:List Mon}{a b:Int}(g:SmG (gOf c a b))(f:j0 b (ln (ix d a mZ).ac)=true)(e:zn7 d a b=zjq c a b) :
 zn9 N c a b d=some (zfe (zic {c with aa:=d} a b<|zcq<|gOf c a b,true)):=by
 unfold zn9 oN
 conv=>zeta
 rw[e];exact i0 (zbv g) (i0 (zD f) rfl)
def leftG (x:ah)(w:Int):ah:=bif ieq w 7 then held x else zcq x
def zBJ (h:ad)(m:Int)(x:ah)(w:Int):ad:=bif ieq w 7 then h else znI h m (zfj x.aw x.Pc).X
def zAg {h:ad}{m:Int}{x:ah}{w:Int}(a:ieq w 7=true):leftG x w=held x/\zBJ h m x w=h:=by unfold leftG zBJ;rw[a];exact⟨rfl,rfl⟩
def zpg {h:ad}{m:Int}{x:ah}{w:Int}(a:ieq w 7=false):leftG x w=zcq x/\zBJ h m x w=znI h m (zfj x.aw x.Pc).X:=by unfold leftG zBJ;rw[a];exact⟨rfl,rfl⟩
def z3t {h:ad}{m n:Int}(a:ilt (ln (ix h.aa m mZ).Outs) 40=true):znI h m n={h with aa:=up h.aa m {ix h.aa m mZ with Outs:=ap (ix h.aa m mZ).Outs [n]}}:=by unfold znI;rw[a];rfl
def z3s {h:ad}{m n:Int}(a:ilt (ln (ix h.aa m mZ).Outs) 40=false):znI h m n=h:=by unfold znI;rw[a];rfl
def is_3 {N:Nat}{b:ad}{a c:Int}(k:SmH b)(g:j0 a (ln b.aa)=true)(e:j0 c (ln (ix b.aa a mZ).ac)=true)(j:zdW b a c=zU (gOf b a c)) :
 zoa N b a c=some (zfe (zic (zBJ b a (gOf b a c)<|zU<|gOf b a c) a c<|leftG (gOf b a c)<|zU<|gOf b a c,true)):=by
 have i:=zmU k g e;unfold zoa oN
 conv=>zeta
 rw[j];refine br (λd=>?_) (λd=>br (λf=>?_) λf=>?_)
 .rw [(zAg (x:=gOf b a c) (h:=b) (m:=a) d).1,(zAg (x:=gOf b a c) d).2];exact i0 (zbv i) (i0 (zD e) rfl)
 .rw [(zpg (x:=gOf b a c) (h:=b) (m:=a) d).1,(zpg (x:=gOf b a c) d).2,z3t f];refine i0 rfl (i0 (zXj f)<|i0 (zOM _)<|shr<|is_2 i ?_ ?_)
  .rw [zrn g];exact e
  .show ix (ix (up b.aa a _) a mZ).ac c gZ=_
   rw[zrn g]
 .rw [(zpg (x:=gOf b a c) (h:=b) (m:=a) d).1,(zpg (x:=gOf b a c) d).2,z3s f];exact i0 (zbv i) (i0 (zD e) rfl)
def zbfa {h:ad}{m g:Int}{x:ah}{w:Int}(d:ieq w 6=false)(c:ieq w 5=false->ieq w 6=false->ieq w 7=true)(e:zeT x.Ctl.aq (zg3 w)=false):znq h m g x w=zic (zBJ (zh3 h m x w) m x w) m g (leftG x w):=by unfold znq;cases b:ieq w 7;{have a:ieq w 5=true:=(by cases a:ieq w 5;{have:=c a d;rw[b] at this;cases this};{rfl});obtain⟨f,i⟩:=tr3 x x.Ctl.aq w d b e a;rw[(zpg (x:=x) (h:=zh3 h m x w) (m:=m) b).1,(zpg (x:=x) b).2,f];unfold zmC;rw[i,a];rfl};{have a:ieq w 5=false:=(by have:w=7:=qD b;rw[this];rfl);rw[(zAg (x:=x) (h:=zh3 h m x w) (m:=m) b).1,(zAg (x:=x) b).2,tr4 x x.Ctl.aq w d c e a,zGj a]}
def is_p {f:ad}{d:List Mon}{a c:Int}(h:SmG (gOf f a c))(g:j0 c (ln (ix d a mZ).ac)=true)(e:(ix (ix d a zi).ac c zA)=gOf f a c) :
 (cond (zL ({ (ix (ix (zk f).aa a zi).ac c zA) with aw:=(ix (ix d a zi).ac c zA).aw,ar:=(ix (ix d a zi).ac c zA).ar,ax:=(ix (ix d a zi).ac c zA).ax,aC:=(ix (ix d a zi).ac c zA).aC}:ah)) (cond (inb c<|ln (ix d a zi).ac) (p0 (up d a ({ (ix d a zi) with ac:=(up (ix d a zi).ac c<|zb3 ({ (ix (ix (zk f).aa a zi).ac c zA) with aw:=(ix (ix d a zi).ac c zA).aw,ar:=(ix (ix d a zi).ac c zA).ar,ax:=(ix (ix d a zi).ac c zA).ax,aC:=(ix (ix d a zi).ac c zA).aC}:ah))}:Mon)) λi=>some [.agg<|zbl ({ (zk f) with aa:=i}:ad),.one<|.b true]) none) none)=some (zfe (zic {f with aa:=d} a c<|zcq<|gOf f a c,true)):=by
 rw[e];exact i0 (zbv h) (i0 (zD g) rfl)
def is_o {f:ad}{d:List Mon}{a c:Int}(l:SmG (gOf f a c))(n:j0 a (ln d)=true)(k:j0 c (ln (ix d a mZ).ac)=true)(e:(ix (ix d a zi).ac c zA)=gOf f a c) :
 (cond (ieq (zU<|gOf f a c) 7) (cond (zL ({ (ix (ix (zk f).aa a zi).ac c zA) with aw:=(ix (ix d a zi).ac c zA).aw,ar:=(ix (ix d a zi).ac c zA).ar,ax:=(ix (ix d a zi).ac c zA).ax,aC:=(ix (ix d a zi).ac c zA).aC}:ah)) (cond (inb c<|ln (ix d a zi).ac) (p0 (up d a ({ (ix d a zi) with ac:=(up (ix d a zi).ac c<|zjR ({ (ix (ix (zk f).aa a zi).ac c zA) with aw:=(ix (ix d a zi).ac c zA).aw,ar:=(ix (ix d a zi).ac c zA).ar,ax:=(ix (ix d a zi).ac c zA).ax,aC:=(ix (ix d a zi).ac c zA).aC}:ah))}:Mon)) λg=>some [.agg<|zbl ({ (zk f) with aa:=g}:ad),.one<|.b true]) none) none)<|cond (ilt (ln (ix d a zi).Outs) 40) (cond (zdU (ix (ix d a zi).ac c zA).aw (ix (ix (zk f).aa a zi).ac c zA).Pc) (cond (few<|ln<|ap (ix d a zi).Outs [(zd3 (ix (ix d a zi).ac c zA).aw (ix (ix (zk f).aa a zi).ac c zA).Pc).X]) (cond (cond (ieq a a) true false) (p0 (up d a ({ (ix d a zi) with Outs:=(ap (ix d a zi).Outs [(zd3 (ix (ix d a zi).ac c zA).aw (ix (ix (zk f).aa a zi).ac c zA).Pc).X])}:Mon)) λg=>cond (zL ({ (ix (ix (zk f).aa a zi).ac c zA) with aw:=(ix (ix g a zi).ac c zA).aw,ar:=(ix (ix g a zi).ac c zA).ar,ax:=(ix (ix g a zi).ac c zA).ax,aC:=(ix (ix g a zi).ac c zA).aC}:ah)) (cond (inb c<|ln (ix g a zi).ac) (p0 (up g a ({ (ix g a zi) with ac:=(up (ix g a zi).ac c<|zb3 ({ (ix (ix (zk f).aa a zi).ac c zA) with aw:=(ix (ix g a zi).ac c zA).aw,ar:=(ix (ix g a zi).ac c zA).ar,ax:=(ix (ix g a zi).ac c zA).ax,aC:=(ix (ix g a zi).ac c zA).aC}:ah))}:Mon)) λp=>some [.agg<|zbl ({ (zk f) with aa:=p}:ad),.one<|.b true]) none) none) none) none) none)<|cond (zL ({ (ix (ix (zk f).aa a zi).ac c zA) with aw:=(ix (ix d a zi).ac c zA).aw,ar:=(ix (ix d a zi).ac c zA).ar,ax:=(ix (ix d a zi).ac c zA).ax,aC:=(ix (ix d a zi).ac c zA).aC}:ah)) (cond (inb c<|ln (ix d a zi).ac) (p0 (up d a ({ (ix d a zi) with ac:=(up (ix d a zi).ac c<|zb3 ({ (ix (ix (zk f).aa a zi).ac c zA) with aw:=(ix (ix d a zi).ac c zA).aw,ar:=(ix (ix d a zi).ac c zA).ar,ax:=(ix (ix d a zi).ac c zA).ax,aC:=(ix (ix d a zi).ac c zA).aC}:ah))}:Mon)) λg=>some [.agg<|zbl ({ (zk f) with aa:=g}:ad),.one<|.b true]) none) none)=some (zfe (zic (zBJ {f with aa:=d} a (gOf f a c)<|zU<|gOf f a c) a c<|leftG (gOf f a c)<|zU<|gOf f a c,true)):=by
 rw[e];refine br (λi=>?_) (λi=>br (λj=>?_) λj=>?_)
 .rw [(zAg (x:=gOf f a c) (h:={f with aa:=d}) (m:=a) i).1,(zAg (x:=gOf f a c) i).2];exact i0 (zbv l) (i0 (zD k) rfl)
 .rw [(zpg (x:=gOf f a c) (h:={f with aa:=d}) (m:=a) i).1,(zpg (x:=gOf f a c) i).2,z3t (h:={f with aa:=d}) j];refine i0 rfl (i0 (zXj j)<|i0 (zOM _)<|shr<|is_p l ?_ ?_)
  .rw [zrn (h:={f with aa:=d}) n];exact k
  .show ix (ix (up d a _) a mZ).ac c gZ=_
   rw[zrn (h:={f with aa:=d}) n];exact e
 .rw [(zpg (x:=gOf f a c) (h:={f with aa:=d}) (m:=a) i).1,(zpg (x:=gOf f a c) i).2,z3s (h:={f with aa:=d}) j];exact i0 (zbv l) (i0 (zD k) rfl)
def tf (b:Bool):b=false\/b=true:=by cases b<;>simp
def is_4 {N:Nat}{a:ad}{b c:Int}(r:SmH a)(d:j0 b (ln a.aa)=true)(e:j0 c (ln (ix a.aa b mZ).ac)=true)(q:zdW a b c=zU (gOf a b c))(l:ieq (zU<|gOf a b c) 6=false)(f:ieq (zU<|gOf a b c) 5=false->ieq (zU<|gOf a b c) 6=false->ieq (zU<|gOf a b c) 7=true) :
 zob N b a c=some (zfe (znq a b c (gOf a b c)<|zU<|gOf a b c,true)):=by
 have s:=zmU r d e;have n:=is_3 (N:=N) r d e q;have g:ine (zU<|gOf a b c) 6=true:=by rw[zjw,l];rfl
 unfold zob oN
 conv=>zeta
 rw[q];refine i0 (zD d) (i0 (zD e) (i0 rfl (i0 rfl ?_)));rw[show ieq (zl0 (ix a.aa b zi).aq (zjq a b c).Ctl.aq<|zjJ<|zU<|gOf a b c) 1=zeT (gOf a b c).Ctl.aq (zg3<|zU<|gOf a b c) from zbe0 _ _ _]
 refine br (λh=>?_) (λh=>?_)
 .obtain⟨e1,e2⟩:=tr2 (gOf a b c) (gOf a b c).Ctl.aq _ l f h;have i:zh3 a b (gOf a b c) (zU<|gOf a b c)=a:=by unfold zh3;rw[g,zbe1 h];rfl
  unfold znq;rw[i,zQf e2,e1];exact i0 (zbv s) (i0 (zD e) rfl)
 .rw [zbfa l f h];have i:zh3 a b (gOf a b c) (zU<|gOf a b c)=bif ieq (zqg (ix a.aa b mZ).aq (gOf a b c).Ctl.aq<|zg3<|zU<|gOf a b c) 2 then owned a b else a:=by unfold zh3;rw[g];rfl
  rw[i];refine br (λm=>?_) (λm=>?_)
  .rw [show ieq (zqg (ix a.aa b mZ).aq (gOf a b c).Ctl.aq<|zg3<|zU<|gOf a b c) 2=true from m]
   simp only[cT];unfold owned;refine br (λk=>?_) (λk=>?_)
   rotate_left
   .rw [k];exact n
   rw[k];refine shr ?_;have p:=zrn d {ix a.aa b mZ with Own:=zM .i64 (ix a.aa b mZ).Own 1};have j:j0 b (ln<|up a.aa b {ix a.aa b mZ with Own:=zM .i64 (ix a.aa b mZ).Own 1})=true:=zfX d;have t:zn7 (up a.aa b {ix a.aa b mZ with Own:=zM .i64 (ix a.aa b mZ).Own 1}) b c=zjq a b c:=by show ix (ix (up a.aa b _) b mZ).ac c gZ=_;rw[p]
   refine is_o s j ?_ t;rw[p];exact e
  .rw [show ieq (zqg (ix a.aa b mZ).aq (gOf a b c).Ctl.aq<|zg3<|zU<|gOf a b c) 2=false from m]
   exact n
def z9S {N:Nat}{a:ad}{b c:Int}(r:SmH a)(q:zcy a b c=true)(m:ieq (zU<|gOf a b c) 0=false){y:ah}{o:LI}(s:(stepped (zT a b) c (gOf a b c)<|zU<|gOf a b c).ac=up (ix a.aa b mZ).ac c y)(p:SmB (zT a b)) :
 zlj N a b c=some (zfe (zic a b c y,true)):=by
 obtain⟨k,f,l⟩:=zdK q;have g:=zte k f;have i:(zT a b).ac=(ix a.aa b mZ).ac:=by unfold zT;rw[f];rfl
 have e:j0 c (ln (zT a b).ac)=true:=by rw[i];exact l
 have h:gAt (zT a b) c=gOf a b c:=by unfold gAt;rw[e,i];rfl
 have d:zmV (zT a b) c=true:=by unfold zmV;rw[e,g,h,m];rfl
 have j:zjE (zT a b) c=stepped (zT a b) c (gOf a b c) (zU<|gOf a b c):=by unfold zjE;rw[d,h];rfl
 have n:(zfq (zdh a b) c).ac=up (ix a.aa b mZ).ac c y:=by show (zjE (zT a b) c).ac=_;rw[j,s]
 unfold zlj oN;rw[n];exact i0 (zbv<|(zQ _).2 r) (i0 (zbv p) (i0 (zD f) rfl))
def zex {h:ad}{m:Int}(g:SmH h)(f:j0 m (ln h.aa)=true):SmB (zT h m):=by
 have b:=g.2.1.2 _ (zbJ f mZ);have e:∀(d:List LI) (q:Int),SmM d->(zdc d q).length<=1048576:=λd q h=>z0v h;have c:∀p:Int,(zeB h m p).length<=1048576:=by intro p;unfold zeB;cases j0 m (ln h.aa);{exact(by decide:zCh.length<=1048576)};{cases j0 p 8;{exact(by decide:zCh.length<=1048576)};{simp only [cT];cases ine (zc2 (ix h.aa m zi).ae p).af (-1);{exact e _ _ b.2.1};{exact e _ _ g.1}}}
 have j:∀(n i:Nat),∀x∈zib h m n i,x.length<=1048576:=by
  intro n
  induction n with
  |zero=>intro i x a;cases a
  |succ n k=>intro i x a;rcases qG.1 a with rfl|a;{exact c _};{exact k (i+1) x a}
 unfold zT;rw[f];exact⟨⟨by show (zib h m 8 0).length<=1048576;rw[zBP];decide,j 8 0⟩,b.2.2.2.1,b.2.2.2.2.1⟩
def zy3 (b:ai)(g:Int)(x:ah):(zf2 b g x).ac=up b.ac g x:=rfl
def zSq (a:ad)(b c:Int)(q:zbE big [aH a,aI b,aI c])(B:zdv a b c=true):∃N,zDZ N a b c=some [aH (zcw a b c),aB (zcG a b c)]:=by
 have g:=(zQ a).1 (zF.1 B);refine⟨0,?_⟩;show _=some (zfe (zcO a b c));unfold zDZ oN nB;conv=>zeta
 refine i0 (zbv ((zQ _).2 g)) (i0 (zbv ((zQ _).2 g)) (i0 rfl (brN (fun u=>?_) (fun u=>brN (fun l=>?_) (fun l=>?_)))));{rw [zjB (zQV u)];rfl};{rw [zjB (zQW l)];rfl};have y:=zZv (h:=a) (m:=b) l;have n:zdW a b c=zU (gOf a b c):=(by show zhz (ix (zc3 a b).ac c gZ)=_;rw[y];rfl);rw[y,n];refine i0 rfl (brN (fun p=>?_) (fun p=>?_));{rw [zjB (zQX p)];rfl};have j:=zQY u l p;have s:j0 b (ln a.aa)=true:=l;have t:j0 c (ln (ix a.aa b mZ).ac)=true:=p;have q:=zex g s;have r:(zT a b).ac=(ix a.aa b mZ).ac:=(by unfold zT;rw[s];rfl);rw[zla j];unfold zP9;refine i0 (zD t) (i0 rfl (br (fun d=>?_) (fun d=>i0 (zD t) (i0 rfl (i0 rfl (br (fun i=>i0 i ?_) (fun i=>br (fun k=>?_) (fun k=>?_))))))));{rw [d];rfl};{have e:zU (gOf a b c)=3:=qD i;have T:=is_1 (N:=0) g j;rw[T];rw[e];rfl};{have e:zU (gOf a b c)=4:=qD k;have T:=is_1 (N:=0) g j;rw[T];rw[e];rfl}
 .have fin:∀{R:ad×Bool},zhk 0 a b c=some (zfe R)->R=(bif ieq (zU (gOf a b c)) 0 then (a,false) else (bif ieq (zU (gOf a b c)) 1 then (zic a b c (interrupted (gOf a b c)),true) else (bif ieq (zU (gOf a b c)) 2 then (zic a b c (plainly (gOf a b c)),true) else
   (cond (cond (ieq (zU (gOf a b c)) 3) true (ieq (zU (gOf a b c)) 4)) (zlb (zle a b c (gOf a b c) (ieq (zU (gOf a b c)) 4)) b c (gOf a b c) (ieq (zU (gOf a b c)) 4),true) (znq a b c (gOf a b c) (zU (gOf a b c)),true)))))->zhk 0 a b c=_:=fun h e=>h.trans (congrArg (fun x=>some (zfe x)) e)
  have w:ieq (zU (gOf a b c)) 5=false->ieq (zU (gOf a b c)) 7=false->zhk 0 a b c=zlj 0 a b c:=by
   intro v A;unfold zhk;conv=>zeta
   rw[n];exact zb9 v (zb9 A rfl)
  rcases tf (ieq (zU (gOf a b c)) 1) with f|f
  .rcases tf (ieq (zU (gOf a b c)) 2) with w2|w2
   .rcases tf (ieq (zU (gOf a b c)) 6) with w6|w6
    .have h57:ieq (zU (gOf a b c)) 5=false->ieq (zU (gOf a b c)) 6=false->ieq (zU (gOf a b c)) 7=true:=fun v z=>zXt _ d f w2 i k v z;have T:=is_4 (N:=0) g s t n w6 h57;refine fin (R:=(znq a b c (gOf a b c) (zU (gOf a b c)),true)) ?_ (by rw[d,f,w2,i,k];rfl);unfold zhk;conv=>zeta
     rw[n];cases C:ieq (zU (gOf a b c)) 5;{exact zb9 rfl (i0 (h57 C w6) T)};{exact i0 rfl (i0 rfl T)}
    {have e:zU (gOf a b c)=6:=qD w6;refine fin (R:=(zic a b c (zh4 (gOf a b c) (gOf a b c).Ctl.aq (zU (gOf a b c))),true)) ?_ ?_;{rw [w (by rw[e];rfl) (by rw[e];rfl)];refine z9S (o:=[]) g j d ?_ q;unfold stepped zqP;rw[f,w2,i,k,(tr1 (gOf a b c) (gOf a b c).Ctl.aq _ w6).2];show (zf2 (zT a b) c _).ac=_;rw[zy3,r]};{rw [d,f,w2,i,k];unfold znq zh3;rw[zQf (tr1 (gOf a b c) (gOf a b c).Ctl.aq _ w6).2,zjw,w6];rfl}}
   {have e:zU (gOf a b c)=2:=qD w2;refine fin (R:=(zic a b c (plainly (gOf a b c)),true)) ?_ (by rw[d,f,w2];rfl);rw[w (by rw[e];rfl) (by rw[e];rfl)];refine z9S (o:=[]) g j d ?_ q;unfold stepped;rw[f,w2];show (zf2 (zT a b) c _).ac=_;rw[zy3,r]}
  {have e:zU (gOf a b c)=1:=qD f;refine fin (R:=(zic a b c (interrupted (gOf a b c)),true)) ?_ (by rw[d,f];rfl);rw[w (by rw[e];rfl) (by rw[e];rfl)];refine z9S (o:=[]) g j d ?_ q;unfold stepped;rw[f];show (zf2 (zT a b) c _).ac=_;rw[zy3,r]}
def zKH:vP 106 zAw:=hF3 zUA zq zbH ziD (zo []) zSq
def zbbO:zbb:=[(106,zAw)]++z6Z
def z9H:zN zbbO:=zh zKH zUA
def zbbP:zbb:=[(110,zuT)]++zbbO
def z9I:zN zbbP:=zh zx1 z9H
def cnt (l:List Mon):List Nat:=l.map λx=>x.ac.length
def zES {l a:List Mon}(h:zfp a=zfp l):cnt a=cnt l:=by have e:∀l:List Mon,cnt l=(zfp l).map List.length:=λl=>(by simp[cnt,zfp]);rw[e,e,h]
def ztV {l:List Mon}{m:Int}{x:Mon}(b:j0 m (ln l)=true)(c:x.ac.length=(ix l m mZ).ac.length):cnt (up l m x)=cnt l:=by obtain⟨k,rfl,a⟩:=zeK (n:=l.length) b;unfold cnt up;rw[List.map_set,kN,c,zbn a];have:=@vA _ (l.map λx=>x.ac.length) k (by simpa using a);simpa using this
def z2W {l a:List Mon}(h:cnt a=cnt l):a.length=l.length:=by have:=congrArg List.length h;simpa [cnt] using this
def zbeq {l b:List Mon}(h:cnt b=cnt l)(m:Int):(ix b m mZ).ac.length=(ix l m mZ).ac.length:=by have a:(cnt b)[m.toNat]?=(cnt l)[m.toNat]?:=(by rw[h]);unfold cnt at a;rw[qQ,qQ]at a;unfold ix;simp only[kI];cases c:b[m.toNat]? <;> cases d:l[m.toNat]? <;> rw [c,d]at a<;>simp at a ⊢;exact a
def z3n (h:ad)(m p:Int):(zeP h m p).ag=h.ag:=(zgW (zgm h m p) m p A0).2
def zbdE (h:ad):(zdZ h).ag=h.ag:=by unfold zdZ;cases ieq (ln<|zcL h) 0;{rfl};{exact z3n _ _ _}
def zbdD (m:List LI)(p:Int)(c:LI):(zlc m p c).length=m.length:=by unfold zlc;cases j0 p (ln m);{rfl};{cases zdr c;{rfl};{simp}}
def zbdB (m:List LI)(p c v:Int):(zf3 m p c v).length=m.length:=by unfold zf3;cases zlv m p c;{rfl};{cases zl v 0 99;{rfl};{simp}}
def zPr (h:ad)(m p:Int):(fetched h m p).ag.length=h.ag.length:=by unfold fetched zgu;rw[(zgW _ _ _ _).2];unfold landing;rw[zbdD,zbdE]
def zZu (h:ad)(m p n:Int):(zoq h m p n).ag=h.ag:=by unfold zoq;cases ieq (wand .i64 n 2) 0;{unfold opened;cases ieq (wand .i64 (ix (ix (zcl h m p).aa m mZ).ae p sZ).an 2) 0;{rfl};{exact(zgW _ _ _ _).2}};{rfl}
def zUR (h:ad)(m p n:Int):(mended h m p n).ag.length=h.ag.length:=by unfold mended;cases ieq (ix (ix h.aa m mZ).ae p sZ).af (-1);{exact congrArg List.length (zZu _ _ _ _)};{exact(congrArg List.length<|zZu _ _ _ _).trans (zPr _ _ _)}
def z7N (h:ad)(m g p:Int)(a:Bool):(zXm h m g p a).ag=h.ag:=by cases a<;>rfl
def zbaf (h:ad)(b:List au)(m g c a q:Int)(d:Bool):(zkx h b m g c a q d).1.ag.length=h.ag.length:=by unfold zkx;cases zmY b m g c a;{cases zgk h m g c a;{exact congrArg List.length (z7N _ _ _ _ _)};{exact(congrArg List.length<|z7N _ _ _ _ _).trans (zUR h m q a)}};{rfl}
def zbdC (h:ad)(b:List au)(m g page need:Int)(io:Bool):(lookOf h b m g page need io).1.ag.length=h.ag.length:=by unfold lookOf;cases zca h m g page need;{rfl};{simp only [cT];rw[zbaf];cases ieq need 2<;>rfl}
structure Keep (h r:ad):Prop where
 shape:Shape r
 cnt:cnt r.aa=cnt h.aa
 mem:r.ag.length=h.ag.length
def Keep.has {h r:ad}(k:Keep h r){m:Int}(a:j0 m (ln h.aa)=true):j0 m (ln r.aa)=true:=by rw[ln,z2W k.cnt];exact a
def Keep.hg {h r:ad}(k:Keep h r){m g:Int}(hg:j0 g (ln (ix h.aa m mZ).ac)=true):j0 g (ln (ix r.aa m mZ).ac)=true:=by rw[ln,zbeq k.cnt];exact hg
def Keep.trans {a b c:ad}(h:Keep a b)(k:Keep b c):Keep a c:=⟨k.shape,k.cnt.trans h.cnt,k.mem.trans h.mem⟩
def Keep.rfl' {h:ad}(a:Shape h):Keep h h:=⟨a,rfl,rfl⟩
def zqF {h:ad}{m g:Int}{x:ah}(b:Shape h)(a:j0 m (ln h.aa)=true)(c:SmG x):Keep h (zic h m g x):=⟨z6a b a c,ztV a (by simp),rfl⟩
def zua {h:ad}{b:List au}{m g page need:Int}{io:Bool}(c:SmH h)(a:zcy h m g=true):Keep h (lookOf h b m g page need io).1:=by have k:=zv3 (b:=b) (page:=page) (need:=need) (io:=io) c a;exact⟨k.shape,zES k.gs,zbdC _ _ _ _ _ _ _⟩
def zFz {h:ad}{p c v:Int}(a:Shape h):Keep h {h with ag:=zf3 h.ag p c v}:=⟨zU5 a<|zqu a.1.1,rfl,zbdB _ _ _ _⟩
def z4P {h:ad}{m:Int}(a:Shape h)(b:j0 m (ln h.aa)=true):Keep h (owned h m):=by obtain⟨c,d⟩:=zcv a b;unfold owned;cases ilt (ix h.aa m mZ).Own 1000000000;{exact Keep.rfl' a};{exact⟨zhB a c d,ztV b rfl,rfl⟩}
def z4O {h:ad}{m n:Int}(b:Shape h)(c:j0 m (ln h.aa)=true):Keep h (znI h m n):=by obtain⟨a,d⟩:=zcv b c;unfold znI;cases e:ilt (ln (ix h.aa m mZ).Outs) 40;{exact Keep.rfl' b};{have f:=qD e;simp only[ln]at f;refine⟨zhB b ⟨a.1,a.2.1,a.2.2.1,a.2.2.2.1,?_,a.2.2.2.2.2⟩ d,ztV c rfl,rfl⟩;simp[ap];omega}
def z7B {h:ad}{m g:Int}{x:ah}{w:Int}(d:Shape h)(b:j0 m (ln h.aa)=true)(e:SmG x):Keep h (znq h m g x w):=by have a:Keep h (zh3 h m x w):=(by unfold zh3;cases (cond (ine w 6) (ieq (zqg (ix h.aa m mZ).aq x.Ctl.aq<|zg3 w) 2) false);{exact Keep.rfl' d};{exact z4P d b});have f:Keep (zh3 h m x w) (zmC (zh3 h m x w) m x w):=(by unfold zmC;cases (cond (zj7 x.Ctl.aq w) (ieq w 5) false);{exact Keep.rfl' a.shape};{exact z4O a.shape (a.has b)});have c:=a.trans f;exact c.trans (zqF c.shape (c.has b)<|zGb _ _ e)
def zUK {h:ad}{m g:Int}(f:SmH h)(e:zcy h m g=true):Keep h (zcO h m g).1:=by obtain⟨l,a,n⟩:=zdK e;have d:=zmU f a n;have i:=(zeX f l).1;rw[zla e];unfold zP9;cases ieq (zU<|gOf h m g) 0;{cases ieq (zU<|gOf h m g) 1;{cases ieq (zU<|gOf h m g) 2;{cases (cond (ieq (zU<|gOf h m g) 3) true<|ieq (zU<|gOf h m g) 4);{exact z7B i a d};{have k:=zua (b:=h.ao) (page:=zco (address<|gOf h m g)) (need:=zhi (ieq (zU<|gOf h m g) 4)) (io:=false) f e;show Keep h (zlb (zle h m g (gOf h m g)<|ieq (zU<|gOf h m g) 4) m g (gOf h m g)<|ieq (zU<|gOf h m g) 4);unfold zlb;cases (zle h m g (gOf h m g)<|ieq (zU<|gOf h m g) 4).2.2;{exact k.trans (zqF k.shape (k.has a) d)};{cases ieq (zU<|gOf h m g) 4;{have k:=zua (b:=h.ao) (page:=zco (address<|gOf h m g)) (need:=zhi false) (io:=false) f e;exact k.trans (zqF k.shape (k.has a)<|zP4 _ d)};{have k:=zua (b:=h.ao) (page:=zco (address<|gOf h m g)) (need:=zhi true) (io:=false) f e;have q:=zFz (p:=(zle h m g (gOf h m g) true).2.1) (c:=zhl (address<|gOf h m g)) (v:=(gOf h m g).A) k.shape;have j:=k.trans q;exact j.trans (zqF j.shape (j.has a)<|zl5 d)}}}};{exact zqF i a (zJP d)}};{exact zqF i a (z3B d)}};{exact Keep.rfl' i}
structure Same (h r:ad):Prop where
 sm:SmH r
 cnt:cnt r.aa=cnt h.aa
 mem:r.ag.length=h.ag.length
 st:r=h\/Shape r
def Same.rfl' {h:ad}(a:SmH h):Same h h:=⟨a,rfl,rfl,.inl rfl⟩
def Same.trans {a b c:ad}(h:Same a b)(k:Same b c):Same a c:=⟨k.sm,k.cnt.trans h.cnt,k.mem.trans h.mem,by
 rcases k.st with e|e
 .rw [e];exact h.st
 .exact .inr e⟩
def z8A {h:ad}(m g:Int)(b:SmH h):Same h (zcO h m g).1:=by cases a:zcy h m g;{rw [zjB a];exact Same.rfl' b};{have k:=zUK b a;exact⟨k.shape.1,k.cnt,k.mem,.inr k.shape⟩}
end
end Go.Proofs.YtapgkefgcbapcaaGreat.E
