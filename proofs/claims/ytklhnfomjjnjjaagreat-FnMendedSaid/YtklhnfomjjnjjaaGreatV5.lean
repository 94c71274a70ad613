/- What is proved here: a part of the proof of the claim. -/
import Derived.Test.YtklhnfomjjnjjaaGreatV4
namespace Go.Proofs.YtklhnfomjjnjjaaGreat.E
open Go
set_option linter.defProp false
set_option linter.constructorNameAsVariable false
set_option linter.unusedVariables false
set_option maxRecDepth 100000
set_option linter.unusedSimpArgs false
set_option linter.unusedSectionVars false
noncomputable section
abbrev mZ:Mon:=Ty.dflt .mon
abbrev sZ:k0:=Ty.dflt .slot
def ShM (x:Mon):Prop:=x.ae.length=8/\x.Out.length=8/\x.ar.length=8/\x.aj.length=x.ad.length
def Shape (h:ac):Prop:=SmH h/\∀x∈h.aa,ShM x
def zil {h:ac}{m:Int}{x:Mon}(a:Shape h)(c:zfm x)(d:ShM x):Shape {h with aa:=up h.aa m x}:=by refine⟨⟨a.1.1,zi0 a.1.2.1 c,a.1.2.2⟩,λy b=>?_⟩;rcases qX b with b|rfl;{exact a.2 y b};{exact d}
def zcm {h:ac}(b:Shape h){m:Int}(a:i0 m (ln h.aa)=true):zfm (ix h.aa m mZ)/\ShM (ix h.aa m mZ):=⟨b.1.2.1.2 _<|zbF a _,b.2 _<|zbF a _⟩
def zOO {h:ac}{b:List LI}(a:Shape h)(c:SmM b):Shape {h with ag:=b}:=⟨⟨c,a.1.2⟩,a.2⟩
def zrO {h:ac}{m p:Int}{s:k0}(e:i0 m (ln h.aa)=true)(b:Shape h):Shape (zcn h m p s):=by refine⟨zFn e b.1,?_⟩;obtain⟨_,a⟩:=zcm b e;have d:∀y∈up h.aa m {zj6 (ix h.aa m mZ) p (ix h.aa m mZ).aj.length with ae:=up (ix h.aa m mZ).ae p s},ShM y:=(by intro y c;rcases qX c with c|rfl;{exact b.2 y c};{exact⟨by simpa using a.1,a.2.1,a.2.2.1,by simpa [zj6,zpL] using a.2.2.2⟩});unfold zcn;cases ine (ix (ix h.aa m mZ).ae p sZ).af (-1)<;>exact d
def zgk (h:ac)(m p:Int)(s:k0):(zcn h m p s).aa=up h.aa m {zj6 (ix h.aa m mZ) p (ix h.aa m mZ).aj.length with ae:=up (ix h.aa m mZ).ae p s}/\(zcn h m p s).ag=h.ag:=by unfold zcn;cases ine (ix (ix h.aa m mZ).ae p sZ).af (-1)<;>exact⟨rfl,rfl⟩
def zeP {h:ac}{m k:Int}{x:Mon}(a:i0 m (ln h.aa)=true):i0 m (ln<|up h.aa k x)=true:=by simpa [ln] using a
def zEQ {h:ac}{m k p:Int}{s:k0}(a:i0 m (ln h.aa)=true):i0 m (ln (zcn h k p s).aa)=true:=by rw[(zgk h k p s).1];exact zeP a
def zdp {b:Type}{l:List b}{p:Int}(h:l.length=8)(a:i0 p 8=true):i0 p (ln l)=true:=by rw[ln,h];exact a
def zyd (h:ac)(m p:Int)(s:k0):ac :=
 bif ine s.af (-1) then ⟨h.ag,up h.aa m<|zj6 (ix h.aa m mZ) p (ix h.aa m mZ).ad.length,flushed h.ao s.af,flushed h.an s.af⟩
 else ⟨h.ag,up h.aa m<|zj6 (ix h.aa m mZ) p (ix h.aa m mZ).ad.length,h.ao,h.an⟩
def zyK {h:ac}{k:Nat}{p:Int}{s:k0}(a:k<h.aa.length)(b:(ix h.aa (k:Int) mZ).aj.length=(ix h.aa (k:Int) mZ).ad.length) :
 zyd {h with aa:=up h.aa (k:Int) {ix h.aa (k:Int) mZ with ae:=up (ix h.aa (k:Int) mZ).ae p s}} (k:Int) p (ix (ix h.aa (k:Int) mZ).ae p sZ)=zcn h (k:Int) p s:=by
 unfold zcn zyd;simp only[zd9 a,zvg,zj6,b]
def zXG {a:Type}(m p:Int)(i:Nat)(t:List Mon)(b:List Mon->Option a):Option a :=
 (cond (inb (i:Int)<|ln (ix t m mZ).aj) (cond (inb (i:Int)<|ln (ix t m mZ).ad) (cond (pc<|SmK (ix (ix t m mZ).aj (i:Int) zfF)/\(ix (ix t m mZ).ad (i:Int) zF).av.length<=1048576) (cond (inb (i:Int)<|ln (ix t m mZ).aj) (b<|up t m ({ (ix t m mZ) with aj:=(up (ix t m mZ).aj (i:Int)<|zi7 (ix (ix t m mZ).aj (i:Int) zfF) (ix (ix t m mZ).ad (i:Int) zF).av p)}:Mon)) none) none) none) none)
def zWb {j:Type}{mons:List Mon}{k:Nat}(d:k<mons.length)(p:Int)(c:zfm (ix mons (k:Int) mZ))(f:(ix mons (k:Int) mZ).aj.length=(ix mons (k:Int) mZ).ad.length)(K:List Mon->Option j) :
 ∀(n i:Nat),i+n=(ix mons (k:Int) mZ).ad.length->goN (λi t g=>zXG (k:Int) p i t g) K n i (up mons (k:Int)<|zj6 (ix mons (k:Int) mZ) p i)=K (up mons (k:Int)<|zj6 (ix mons (k:Int) mZ) p (ix mons (k:Int) mZ).ad.length)
 | 0,i,h=>by have:i=(ix mons (k:Int) mZ).ad.length:=(by omega);subst this;rfl
 |n+1,i,h=>by
  have b:i<(ix mons (k:Int) mZ).ad.length:=(by omega);have a:i<(zk7 (ix mons (k:Int) mZ).ad p i (ix mons (k:Int) mZ).aj).length:=by rw[zpL];omega
  have e:pc (SmK (ix (zk7 (ix mons (k:Int) mZ).ad p i (ix mons (k:Int) mZ).aj) (i:Int) zfF)/\(ix (ix mons (k:Int) mZ).ad (i:Int) zF).av.length<=1048576)=true :=
   zbD ⟨by rw[zbl a];exact(zvd _ _ _ _ (by omega) c.2.2.2.2.2).2 _ (jK a),by rw[zbl b];exact(c.2.2.2.1.2 _<|jK b).2.2.1⟩
  simp only[goN,zXG,zd9 d,zvg,zj6,zbe a,zbe b,e,cT];exact zWb d p c f K n (i+1) (by omega)
@[simp] abbrev zex (h:ac)(m p:Int)(s:k0):Bool:=pc (Shape h/\i0 m (ln h.aa)=true)
@[simp] abbrev zey (h:ac)(m p:Int)(s:k0):ac:=zyd h m p s
def zlQ:LC->LA->Option (Bool×LC×LA)
 |[.s (.sl .int) b,.s .mon c,.s .entry d,.s .entry e],[.one<|.i .i64 f,.one<|.i .i64 g,.agg [.i .i64 h,.i .i64 j]]=>some (zex (⟨b,c,d,e⟩:ac) f g (⟨h,j⟩:k0),zbn<|zey (⟨b,c,d,e⟩:ac) f g (⟨h,j⟩:k0),[])
 |_,_=>none
def zo2 (N:Nat)(c:ac)(i n:Int)(k:k0):OA:=
 (oN (inb i<|ln c.aa)<|iter (σ:=(Int×Int×Int×Int×Int×Int×lN×lM×lE×lE×Unit)) N (λp a=>let c:=a.2.2.2.2;let j:=c.2.2.2.1;let h:=c.2.2.1;let e:=c.1;let g:=c.2.2.2.2.1;let f:=c.2.2.2.2.2.1;let b:=a.2.2.2.1;let d:=ix h a.2.1 zk;let m:=ix d.aj b zfF;let l:=(ix d.ad b zF).av; (cond (ilt b a.2.2.1) (oN (inb b<|ln d.aj)<|oN (inb b<|ln d.ad)<|oN (zg9 m l a.1)<|oN (inb b<|ln d.aj)<|p0 (up h a.2.1 ({d with aj:=(up d.aj b<|zkS m l a.1)}:Mon)) λq=>p (a.1,a.2.1,a.2.2.1,zO .i64 b 1,e,c.2.1,q,j,g,f,()))<|cond (ine e<|-1) (oN (zd7 g e)<|oN (zd7 f e)<|some [aH (⟨j,h,zf9 g e,zf9 f e⟩:ac)])<|some [aH (⟨j,h,g,f⟩:ac)])) (n,i,ln (ix c.aa i zk).ad,0,k.af,k.ai,c.aa,c.ag,c.ao,c.an,()))
def zHj:=zu [(47,0,{n:=71,tm:=[(0,.lp 0 0),(2,ti),(7,.lp 1 0),(8,.ep 0 [] 0),(20,ti),(21,ti)],lo:=[(0,[.sl 1 [],.sl 0 [],.sl 2 [],.sl 3 []]),(1,[ti,ti])],ro:=[(0,.mon,true),(1,.sl .int,true),(2,.entry,true),(3,.entry,true)]})]
def zJV (N:Nat)(c:ac)(a b:Int)(d:k0):znD (cQ zpX zpi zBN zTV) zHj N 12 47 [true,true,true,true] (zbn c) [aI a,aI b,aT .slot d]=zo2 N c a b d:=by kernel_rfl
def zGF (c:ac)(d b:Int)(a:k0)(s:zbV big (.agg (zbn c)::[aI d,aI b,aT .slot a]))(r:zex c d b a=true):∃N,zo2 N c d b a=some (.agg (zbn<|zey c d b a)::[]):=by
 obtain⟨h,g⟩:=zN.1 r;obtain⟨l,q⟩:=zcm h g;have hg:(ix c.aa d mZ).ad.length<=big:=(zcP l.2.2.2.1.1).1;refine zct λN f=>?_;unfold zo2 oN;conv=>zeta
 refine j0 (zI g) ?_;refine(zbo ((ix c.aa d zk).ad) (λi (t:lN)=>(b,d,ln (ix c.aa d zk).ad,(i:Int),a.af,a.ai,t,c.ag,c.ao,c.an,())) _ (λi (x:ah) (t:List Mon) j=>zXG d b i t j) (λ(t:lN)=>cond (ine a.af<|-1) (cond (zd7 c.ao a.af) (cond (zd7 c.an a.af) (some [.agg<|zbn (⟨c.ag,t,zf9 c.ao a.af,zf9 c.an a.af⟩:ac)]) none) none)<|some [.agg<|zbn (⟨c.ag,t,c.ao,c.an⟩:ac)]) (λi e t rec=>?_) (λt rec=>?_) _ (c.aa)<|f hg).trans ?_;{simp only [zbx e,zbe e,zbl e,zbg e hg,cT];rfl};{simp only [zbp,cF]};obtain⟨k,rfl,m⟩:=zdZ (n:=c.aa.length) g;rw[zwl λi t j=>zXG (k:Int) b i t j];have p:c.aa=up c.aa (k:Int) (zj6 (ix c.aa (k:Int) mZ) b 0):=(zNv m _).symm;refine(congrArg _ p).trans ((zWb m b l q.2.2.2 _ _ 0<|j5 _).trans ?_);show (cond (ine a.af<|-1) _ _)=some [AV.agg<|zbn<|zyd c (k:Int) b a];unfold zyd;cases ine a.af (-1);{rfl};{exact j0 rfl (j0 (zbD h.1.2.2.1) (j0 (zbD h.1.2.2.2) rfl))}
def zBg:zbR Tryz.prog 47 [true,true,true,true] zlQ:=by refine zg8 (zfU zh1 zC zA zeO) (ziq (by kernel_rfl)) ?_;intro g a b j i f h;have d:=zkn f;unfold zlQ at h;split at h;{obtain⟨e,rfl,rfl⟩:=zmo h;obtain⟨N,c⟩:=zGF _ _ _ _ (by exact d) e;exact⟨rfl,_,N,12,(zJV N _ _ _ _ ).trans c⟩};{cases h}
def zX7:zcQ:=[(47,[true,true,true,true],zlQ)]++zBN
def zM0:zb2 zX7:=zcp zA (by
 intro x a;simp only[qG,qO,or_false]at a;rcases a with rfl
 .exact zBg)
def zeX (h:ac)(m p:Int):ac:={h with aa:=up h.aa m {ix h.aa m mZ with Out:=up (ix h.aa m mZ).Out p (zcw h.ag (ix (ix h.aa m mZ).ae p sZ).af)}}
def zdR (h:ac)(m p:Int):ac:=zcn (zeX h m p) m p z0
def zTK {m:List LI}{p:Int}(h:SmM m):(zcw m p).length<=1048576:=by unfold zcw;cases a:i0 p (ln m);{exact(by decide:zyQ.length<=1048576)};{exact h.2 _ (zbF a _)}
def zvT {h:ac}{m p:Int}(c:Shape h)(d:i0 m (ln h.aa)=true):Shape (zeX h m p):=by obtain⟨a,b⟩:=zcm c d;exact zil c ⟨a.1,zKC a.2.1<|zTK c.1.1,a.2.2⟩ ⟨b.1,by simpa using b.2.1,b.2.2⟩
def zKt {h:ac}{m p:Int}(b:Shape h)(a:i0 m (ln h.aa)=true):Shape (zdR h m p):=zrO (zeP a) (zvT b a)
@[simp] abbrev zjr (h:ac)(m p:Int):Bool:=pc (Shape h/\i0 m (ln h.aa)=true/\i0 p 8=true)
@[simp] abbrev zm1 (h:ac)(m p:Int):ac:=zdR h m p
def ztu:LW
 |[.agg [.s (.sl .int) b,.s .mon c,.s .entry d,.s .entry e],.one<|.i .i64 f,.one<|.i .i64 g]=>some (zjr (⟨b,c,d,e⟩:ac) f g,[aH<|zm1 (⟨b,c,d,e⟩:ac) f g])
 |_=>none
def zxH (N:Nat)(a:ac)(b c:Int):OA:=
 let d:=ix a.aa b zk;let e:=(ix d.ae c zY).af; (oN (inb b<|ln a.aa)<|oN (inb b<|ln a.aa)<|oN (inb c<|ln d.ae)<|oN (zgQ a.ag e)<|oN (inb c<|ln d.Out)<|p0 (up a.aa b ({d with Out:=(up d.Out c<|zib a.ag e)}:Mon)) (λg=>let f:=({a with aa:=g}:ac); (oN zbT<|oN (zfj f b c zbi)<|some [aH<|zg0 f b c zbi])))
def zU6 (N:Nat)(a:ac)(b c:Int):zCH (cQ zpX zpi zX7 zTV) (zu []) N 12 90 [true,true,true,true,false,false] 1 1 [[0],[1],[2],[4],[7]] .mon [aH a,aI b,aI c]=zxH N a b c:=by kernel_rfl
def zSI (b:ac)(d c:Int)(m:zbV big [aH b,aI d,aI c])(j:zjr b d c=true):∃N,zxH N b d c=some [aH<|zm1 b d c]:=by
 obtain⟨g,a,f⟩:=zN.1 j;obtain⟨l,e⟩:=zcm g a;obtain⟨k,rfl,h⟩:=zdZ (n:=b.aa.length) a;have i:=zvT (p:=c) g a;refine⟨0,?_⟩;unfold zxH oN;conv=>zeta
 refine j0 (zI a) (j0 (zI a)<|j0 (zI<|zdp e.1 f)<|j0 (zbD<|(zpb _).2 g.1.1)<|j0 (zI<|zdp e.2.1 f)<|shr (j0 rfl (j0 (zbD ⟨(zU _).2 i.1,zeP a,?_,?_⟩) rfl)));{simp only [zd9 h];exact zdp e.1 f};{simp only [zd9 h];exact kX e.2.2.2}
def zL8:zef Tryz.prog 90 [true,true,true,true,false,false] (some (1,1,[[0],[1],[2],[4],[7]])) ztu:=by refine zli (kt:=.mon) (zfU zh1 zC zM0 zeO) (ziq (by kernel_rfl)) (by kernel_rfl) ?_;intro a g f e h;have c:=zit e;unfold ztu at h;split at h;{obtain⟨d,rfl⟩:=zeo h;obtain⟨N,b⟩:=zSI _ _ _ (by exact c) d;exact⟨⟨_,rfl⟩,rfl,_,N,12,(zU6 N _ _ _ ).trans b⟩};{cases h}
def zvF:LC->LA->Option (Bool×LC×LA)
 |[.s (.sl .int) b,.s .mon c,.s .entry d,.s .entry e],[.one<|.i .i64 f,.one<|.i .i64 g]=>some (zjr (⟨b,c,d,e⟩:ac) f g,zbn<|zm1 (⟨b,c,d,e⟩:ac) f g,[])
 |_,_=>none
def zFx (N:Nat)(c:ac)(b a:Int):OA:=
 let d:=ix c.aa b zk;let e:=ix d.ae a zY; (oN (inb b<|ln c.aa)<|oN (inb a<|ln d.ae)<|oN (zgQ c.ag e.af)<|oN (inb a<|ln d.Out)<|p0 (up c.aa b ({d with Out:=(up d.Out a<|zib c.ag e.af)}:Mon)) (λg=>let f:=ix g b zk; (oN zbT<|oN (inb a<|ln f.ae)<|p0 (up g b ({f with ae:=(up f.ae a zbi)}:Mon)) (λi=>let h:=({c with aa:=i}:ac); (oN (zex h b a e)<|some [aH<|zey h b a e])))))
def z0x (N:Nat)(c:ac)(a b:Int):znD (cQ zpX zpi zX7 zTV) (zu []) N 12 129 [true,true,true,true] (zbn c) [aI a,aI b]=zFx N c a b:=by kernel_rfl
def zXS (c:ac)(e a:Int)(w:zbV big (.agg (zbn c)::[aI e,aI a]))(u:zjr c e a=true):∃N,zFx N c e a=some (.agg (zbn<|zm1 c e a)::[]):=by
 obtain⟨l,b,j⟩:=zN.1 u;obtain⟨v,f⟩:=zcm l b;obtain⟨k,rfl,h⟩:=zdZ (n:=c.aa.length) b;have m:=zvT (p:=a) l b;have d:i0 (k:Int) (ln (zeX c (k:Int) a).aa)=true:=zeP b;have i:k<(zeX c (k:Int) a).aa.length:=(by simpa [zeX] using h);have g:ix (zeX c (k:Int) a).aa (k:Int) mZ={ix c.aa (k:Int) mZ with Out:=up (ix c.aa (k:Int) mZ).Out a (zcw c.ag (ix (ix c.aa (k:Int) mZ).ae a sZ).af)}:=zd9 h _ _;have t:Shape {zeX c (k:Int) a with aa:=up (zeX c (k:Int) a).aa (k:Int) {ix (zeX c (k:Int) a).aa (k:Int) mZ with ae:=up (ix (zeX c (k:Int) a).aa (k:Int) mZ).ae a z0}}:=(by obtain⟨q,r⟩:=zcm m d;exact zil m ⟨by simpa using q.1,q.2⟩ ⟨by simpa using r.1,r.2⟩);refine⟨0,?_⟩;unfold zFx oN;conv=>zeta
 refine j0 (zI b) (j0 (zI<|zdp f.1 j)<|j0 (zbD<|(zpb _).2 l.1.1)<|j0 (zI<|zdp f.2.1 j)<|shr (j0 rfl (j0 ?_<|shr<|j0 (zbD ⟨t,zeP d⟩) ?_)));{rw [zd9 h];exact zI (zdp f.1 j)};{have:=zyK (p:=a) (s:=z0) i (by rw[g];exact f.2.2.2);rw[g] at this;show some [AV.agg<|zbn<|zyd {zeX c (k:Int) a with aa:=up (zeX c (k:Int) a).aa (k:Int) {ix (zeX c (k:Int) a).aa (k:Int) mZ with ae:=up (ix (zeX c (k:Int) a).aa (k:Int) mZ).ae a z0}} (k:Int) a<|ix (ix c.aa (k:Int) mZ).ae a sZ]=_;rw[g];exact congrArg (λx=>some [AV.agg<|zbn x]) this}
def zRU:zbR Tryz.prog 129 [true,true,true,true] zvF:=by refine zg8 (zfU zh1 zC zM0 zeO) (ziq (by kernel_rfl)) ?_;intro g a b j i f h;have d:=zkn f;unfold zvF at h;split at h;{obtain⟨e,rfl,rfl⟩:=zmo h;obtain⟨N,c⟩:=zXS _ _ _ (by exact d) e;exact⟨rfl,_,N,12,(z0x N _ _ _ ).trans c⟩};{cases h}
def zX8:zcQ:=[(129,[true,true,true,true],zvF)]++zX7
def zM1:zb2 zX8:=zcp zM0 (by
 intro x a;simp only[qG,qO,or_false]at a;rcases a with rfl
 .exact zRU)
def zYR:zfn:=[(90,[true,true,true,true,false,false],some (1,1,[[0],[1],[2],[4],[7]]),ztu)]++zTV
def zNc:zej zYR:=zm5 zeO (by
 intro x a;simp only[qG,qO,or_false]at a;rcases a with rfl
 .exact zL8)
def cz (l:List k0):Nat:=l.countP λs=>ieq s.af 0
def zH:List Mon->Nat
 |[]=>0
 |m::l=>cz m.ae+zH l
def bit (u:List Bool):Nat:=bif ix u 0 false then 1 else 0
def zwh (s:k0)(l:List k0):cz (s::l)=cz l+bif ieq s.af 0 then 1 else 0:=by unfold cz;rw[vG];cases ieq s.af 0<;>rfl
def z8F {u:List Bool}{p:Int}(c:0<=p)(a:p.toNat<u.length)(x:Bool):ix (up u p x) 0 false=bif ieq p 0 then x else ix u 0 false:=by unfold ix up;cases h:ieq p 0;{have:p≠0:=(by simpa [ieq] using h);have b:p.toNat≠0:=(by omega);simp[List.getD,jB,b]};{have:p=0:=(by simpa [ieq] using h);subst this;have a:0<u.length:=a;simp[List.getD,jB,a]}
def zCs:∀(l:List k0) (u b:List Bool),(∀s∈l,s.af<12)->u.length=12->zgL l u=some b->cz l+bit u=bit b
 |[],u,b,_,_,h=>by cases h;simp[cz]
 |s::l,u,b,i,k,h=>by
  simp only[zgL]at h;rw[zwh];cases c:ilt s.af 0;{have c:=jX c;rw[show ilt s.af 0=false from qQ (by omega)]at h;simp only[cF]at h;cases d:ix u s.af false;{rw [d]at h;simp only[cF]at h;have g:s.af.toNat<u.length:=(by have:=i s (by simp);omega);have a:=zCs l _ b (λt j=>i t (by simp[j])) (by simpa using k) h;have e:bit (up u s.af true)=bif ieq s.af 0 then 1 else bit u:=(by unfold bit;rw[z8F (by omega) g];cases ieq s.af 0<;>rfl);rw[e] at a;cases f:ieq s.af 0;{rw [f] at a;simp only[cF] at a ⊢;omega};{have n:s.af=0:=(by simpa [ieq] using f);rw[n]at d;have:bit u=0:=(by unfold bit;rw[d];rfl);rw[f] at a;simp only[cT] at a ⊢;omega}};{rw [d]at h;cases h}};{have m:=qF c;rw[c]at h;simp only[cT]at h;have a:=zCs l u b (λt j=>i t (by simp[j])) k h;have:ieq s.af 0=false:=(by simp[ieq];omega);rw[this];simpa using a}
def zRZ:∀(l:List Mon) (u:List Bool),u.length=12->zix l u=true->zH l+bit u<=1
 |[],u,_,_=>by unfold zH bit;cases ix u 0 false<;>simp
 |m::l,u,c,h=>by simp only[zix]at h;cases b:zez m;{rw [b]at h;cases h};{rw [b]at h;simp only[cT]at h;cases a:zgL m.ae u with|none=>rw[a]at h;cases h|some d =>rw[a]at h;have e:=zCs _ _ _ (zC3<|zl6 b) c a;have f:=zRZ l d ((zoY _ _ _ a).trans c) h;simp only[zH];omega}
def zZL:∀(l:List k0) (b:Nat) (s:k0),l[b]?=some s->s.af=0->cz (l.set b z0)+1=cz l
 |[],b,s,h,_=>by simp at h
 |t::l,0,s,h,a=>by simp only[qH,qC]at h;subst h;rw[List.set_cons_zero,zwh,zwh];have:ieq t.af 0=true:=(by simp[ieq,a]);rw[this];rfl
 |t::l,b+1,s,h,a=>by rw[List.set_cons_succ,zwh,zwh];have:=zZL l b s (by simpa using h) a;omega
def zUp:∀(l:List Mon) (a:Nat) (x y:Mon),l[a]?=some x->zH (l.set a y)+cz x.ae=zH l+cz y.ae
 |[],a,x,y,h=>by simp at h
 |m::l,0,x,y,h=>by simp only[qH,qC]at h;subst h;rw[List.set_cons_zero];simp only[zH];omega
 |m::l,a+1,x,y,h=>by rw[List.set_cons_succ];have:=zUp l a x y (by simpa using h);simp only[zH];omega
def zXq {l:List k0}(h:cz l=0):znF l 0=none:=by unfold znF;rw[List.findIdx?_eq_none_iff];intro s a;have:=(vA.1 h) s a;simpa using this
def zJ3:∀(l:List Mon) (i:Nat),zH l=0->zhP 0 l i=(-1,-1)
 |[],_,_=>rfl
 |m::l,i,h=>by simp only[zH]at h;simp only[zhP];rw[zXq (by omega)];exact zJ3 l (i+1) (by omega)
def zXr {l:List k0}{k:Nat}(h:znF l 0=some k):∃s,l[k]?=some s/\s.af=0:=by unfold znF at h;rw[uY]at h;obtain⟨a,b,_⟩:=h;exact⟨l[k],qB a,by simpa [ieq] using b⟩
def zEZ:∀(l:List Mon) (i:Nat),zhP 0 l i=(-1,-1)\/∃a b x s,zhP 0 l i=(((i+a:Nat):Int),((b:Nat):Int))/\l[a]?=some x/\x.ae[b]?=some s/\s.af=0
 |[],_=>.inl rfl
 |m::l,i=>by
  simp only[zhP];cases h:znF m.ae 0 with
  |none=>rcases zEZ l (i+1) with c|⟨a,b,x,s,c,d,f,g⟩;{exact .inl c};{refine .inr ⟨a+1,b,x,s,?_,by simpa using d,f,g⟩;have e:i+1+a=i+(a+1):=(by omega);rw[c,e]}
  |some k=>obtain⟨s,c,d⟩:=zXr h;exact .inr ⟨0,k,m,s,rfl,rfl,c,d⟩
def Fit (h:ac):Prop:=Shape h/\0<h.ag.length/\zH h.aa<=1
def zEO {h:ac}(c:0<h.ag.length)(b:ilt (zbK h 0).1 0=true):inb 0 (ln<|zcj h)=true:=by unfold zcj;obtain⟨n,a⟩:∃n,h.ag.length=n+1:=⟨h.ag.length-1,by omega⟩;rw[a];simp only[zvB];rw[show ilt (zbK h ((0:Nat):Int)).1 0=true from b];exact qK (by simp only[cT,ln,qZ];omega)
def zXw {h:ac}(b:0<h.ag.length)(a:ieq (ln<|zcj h) 0=true):ilt (zbK h 0).1 0=false:=by cases c:ilt (zbK h 0).1 0;{rfl};{have d:=qF (zEO b c);have e:ln (zcj h)=0:=(by simpa [ieq] using a);omega}
def zdb (h:ac):ac:=bif ieq (ln<|zcj h) 0 then zdR h (zbK h 0).1 (zbK h 0).2 else h
structure Room (h r:ac):Prop where
 shape:Shape r
 free:inb 0 (ln (zcj r))=true
 len:r.aa.length=h.aa.length
 outer:∀m,(ix r.aa m mZ).ae.length=8\/True
def z0F {h:ac}(i:Fit h)(f:ieq (ln<|zcj h) 0=true):∃(a b:Nat) (x:Mon) (s:k0),zbK h 0=((a:Int),(b:Int))/\h.aa[a]?=some x/\x.ae[b]?=some s/\s.af=0:=by have d:=zXw i.2.1 f;have e:zbK h 0=zhP 0 h.aa 0:=rfl;rcases zEZ h.aa 0 with c|⟨a,b,x,s,c,g⟩;{rw [e,c]at d;cases d};{exact⟨a,b,x,s,by rw[e,c,j5],g⟩}
def zCV {h:ac}(d:Fit h)(e:ieq (ln<|zcj h) 0=true):i0 (zbK h 0).1 (ln h.aa)=true/\i0 (zbK h 0).2 8=true:=by obtain⟨a,b,x,s,f,c,g,j⟩:=z0F d e;rw[f];have k:=(qA.1 c).1;have l:=(qA.1 g).1;have i:=d.1.2 x (qI c);refine⟨qK (by simp only[ln];omega),qK ?_⟩;have:=i.1;show 0<=(b:Int)/\(b:Int)<8;omega
def room {h:ac}(d:Fit h):Room h (zdb h):=by unfold zdb;cases g:ieq (ln<|zcj h) 0;{refine⟨d.1,qK ?_,rfl,λ_=>.inr trivial⟩;have:ln (zcj h)≠0:=(by simpa [ieq] using g);show 0<=(0:Int)/\(0:Int)<ln (zcj h);simp only[ln] at *;omega};{obtain⟨n,u⟩:=zCV d g;obtain⟨a,b,x,s,r,i,k,t⟩:=z0F d g;simp only[cT];rw[r]at n u ⊢;have m:=(qA.1 i).1;have B:=(qA.1 k).1;have j:ix h.aa (a:Int) mZ=x:=(by rw[zbl m];exact(qA.1 i).2);have c:=(zgk (zeX h (a:Int) (b:Int)) (a:Int) (b:Int) z0).1;have q:ix (zeX h (a:Int) (b:Int)).aa (a:Int) mZ={x with Out:=up x.Out (b:Int) (zcw h.ag (ix x.ae (b:Int) sZ).af)}:=(by unfold zeX;rw[zd9 m,j]);obtain⟨y,l,v⟩:∃y,(zdR h (a:Int) (b:Int)).aa=h.aa.set a y/\y.ae=x.ae.set b z0:=(by unfold zdR;rw[c,q];unfold zeX;rw[zvg];exact⟨_,by simp[up];rfl,by simp[up]⟩);have w:zH (zdR h (a:Int) (b:Int)).aa=0:=(by have p:=zUp h.aa a x y i;have z:=zZL x.ae b s k t;have A:=d.2.2;rw[l];rw[v] at p;omega);have f:(zdR h (a:Int) (b:Int)).ag=h.ag:=(zgk (zeX h (a:Int) (b:Int)) (a:Int) (b:Int) z0).2;refine⟨zKt d.1 n,zEO (by rw[f];exact d.2.1) ?_,by rw[l];simp,λ_=>.inr trivial⟩;have e:zbK (zdR h (a:Int) (b:Int)) 0=zhP 0 (zdR h (a:Int) (b:Int)).aa 0:=rfl;rw[e,zJ3 _ _ w];rfl}
def zTL {m:List LI}{p:Int}{c:LI}(h:SmM m)(a:c.length<=1048576):SmM (zin m p c):=by unfold zin;cases i0 p (ln m);{exact h};{cases zcq c;{exact h};{exact zKC h a}}
def landing (r:ac)(m p to:Int):ac:={r with ag:=zin r.ag to (ix (ix r.aa m mZ).Out p []),aa:=up r.aa m {ix r.aa m mZ with Out:=up (ix r.aa m mZ).Out p []}}
def ze6 (r:ac)(m p to:Int):ac:=zcn (landing r m p to) m p ⟨to,3⟩
def fetched (h:ac)(m p:Int):ac:=ze6 (zdb h) m p (ix (zcj<|zdb h) 0 0)
def zTN {r:ac}{m p:Int}(e:Shape r)(c:i0 m (ln r.aa)=true)(d:i0 p 8=true):(ix (ix r.aa m mZ).Out p []).length<=1048576:=by obtain⟨a,b⟩:=zcm e c;exact a.2.1.2 _ (zbF (zdp b.2.1 d) _)
def zrN {r:ac}{m p to:Int}(a:Shape r)(d:i0 m (ln r.aa)=true)(e:i0 p 8=true):Shape (landing r m p to):=by obtain⟨b,c⟩:=zcm a d;exact zOO (h:={r with aa:=up r.aa m {ix r.aa m mZ with Out:=up (ix r.aa m mZ).Out p []}}) (zil (x:={ix r.aa m mZ with Out:=up (ix r.aa m mZ).Out p []}) a ⟨b.1,zKC b.2.1 (by simp),b.2.2⟩ ⟨c.1,by simpa using c.2.1,c.2.2⟩) (zTL a.1.1<|zTN a d e)
def zQd {r:ac}{m p d:Int}(c:Shape r)(a:i0 m (ln r.aa)=true)(b:i0 p 8=true):Shape (ze6 r m p d):=zrO (zeP a) (zrN c a b)
def zpt {h:ac}(a:Fit h){m:Int}(b:i0 m (ln h.aa)=true):i0 m (ln (zdb h).aa)=true:=by rw[ln,(room a).len];exact b
def zjO {h:ac}{m p:Int}(a:Fit h)(b:i0 m (ln h.aa)=true)(c:i0 p 8=true):Shape (fetched h m p)/\i0 m (ln (fetched h m p).aa)=true :=
 ⟨zQd (room a).shape (zpt a b) c,zEQ<|zeP<|zpt a b⟩
@[simp] abbrev zk2 (h:ac)(m p:Int):Bool:=pc (Fit h/\i0 m (ln h.aa)=true/\i0 p 8=true)
@[simp] abbrev zlK (h:ac)(m p:Int):ac:=fetched h m p
def zvG:LW
 |[.agg [.s (.sl .int) b,.s .mon c,.s .entry d,.s .entry e],.one<|.i .i64 f,.one<|.i .i64 g]=>some (zk2 (⟨b,c,d,e⟩:ac) f g,[aH<|zlK (⟨b,c,d,e⟩:ac) f g])
 |_=>none
def zAM (N:Nat)(a:ac)(c b:Int):OA:=
 let h:=ix (zcO a) 0 0;let f:=ix a.aa c zk;let d:=zm1 a (zdw a 0)<|zeh a 0;let g:=ix (zcO d) 0 0;let e:=ix d.aa c zk; (oN (zfx a)<|cond (ieq (ln<|zcO a) 0) (oN (zft a 0)<|oN (zjr a (zdw a 0)<|zeh a 0)<|oN (zfx d)<|oN (inb 0<|ln<|zcO d)<|oN (inb c<|ln d.aa)<|oN (inb b<|ln e.Out)<|oN (zfz d.ag g<|ix e.Out b [])<|oN (inb c<|ln d.aa)<|oN (inb b<|ln e.Out)<|p0 (up d.aa c ({e with Out:=(up e.Out b [])}:Mon)) (λi=>let j:=({d with ag:=(zeB d.ag g<|ix e.Out b []),aa:=i}:ac); (oN (zfj j c b (⟨g,3⟩:k0))<|some [aH<|zg0 j c b (⟨g,3⟩:k0)])))<|oN (zfx a)<|oN (inb 0<|ln<|zcO a)<|oN (inb c<|ln a.aa)<|oN (inb b<|ln f.Out)<|oN (zfz a.ag h<|ix f.Out b [])<|oN (inb c<|ln a.aa)<|oN (inb b<|ln f.Out)<|p0 (up a.aa c ({f with Out:=(up f.Out b [])}:Mon)) (λi=>let k:=({a with ag:=(zeB a.ag h<|ix f.Out b []),aa:=i}:ac); (oN (zfj k c b (⟨h,3⟩:k0))<|some [aH<|zg0 k c b (⟨h,3⟩:k0)])))
def zX1 (N:Nat)(a:ac)(b c:Int):zCH (cQ zpX zpi zX8 zYR) (zu []) N 12 51 [true,true,true,true,false,false] 1 1 [[0],[1],[2],[4],[7]] .mon [aH a,aI b,aI c]=zAM N a b c:=by kernel_rfl
def zU3 (c:ac)(b d:Int)(z:zbV big [aH c,aI b,aI d])(u:zk2 c b d=true):∃N,zAM N c b d=some [aH<|zlK c b d]:=by
 obtain⟨h,v,i⟩:=zN.1 u;have e:∀r,Shape r->inb 0 (ln<|zcj r)=true->i0 b (ln r.aa)=true->(cond (zfx r) (cond (inb 0<|ln<|zcO r) (cond (inb b<|ln r.aa) (cond (inb d<|ln (ix r.aa b zk).Out) (cond (zfz r.ag (ix (zcO r) 0 0)<|ix (ix r.aa b zk).Out d []) (cond (inb b<|ln r.aa) (cond (inb d<|ln (ix r.aa b zk).Out) (p0 (up r.aa b ({ (ix r.aa b zk) with Out:=(up (ix r.aa b zk).Out d [])}:Mon)) λs=>cond (zfj ({r with ag:=(zeB r.ag (ix (zcO r) 0 0)<|ix (ix r.aa b zk).Out d []),aa:=s}:ac) b d (⟨ix (zcO r) 0 0,3⟩:k0)) (some [AV.agg<|zbn<|zg0 ({r with ag:=(zeB r.ag (ix (zcO r) 0 0)<|ix (ix r.aa b zk).Out d []),aa:=s}:ac) b d (⟨ix (zcO r) 0 0,3⟩:k0)]) none) none) none) none) none) none) none) none)=some [AV.agg<|zbn<|ze6 r b d<|ix (zcj r) 0 0]:=(by intro r j f a;obtain⟨y,l⟩:=zcm j a;have t:=zrN (to:=ix (zcj r) 0 0) j a i;obtain⟨k,rfl,q⟩:=zdZ (n:=r.aa.length) a;refine j0 (zbD j.1.1.1) (j0 f<|j0 (zI a)<|j0 (zI<|zdp l.2.1 i)<|j0 (zbD ⟨j.1.1,zTN j a i⟩)<|j0 (zI a)<|j0 (zI<|zdp l.2.1 i)<|shr (j0 (zbD ⟨(zU _).2 t.1,zeP a,?_,?_⟩) rfl));{simp only [zd9 q];exact zdp l.1 i};{simp only [zd9 q];exact kX l.2.2.2});have g:=room h;have a:=zpt h v;refine⟨0,?_⟩;unfold zAM zlK fetched oN;conv=>zeta
 refine j0 (zbD h.1.1.1.1) ?_;cases p:ieq (ln<|zcO c) 0;{have m:zdb c=c:=(by unfold zdb;rw[show ieq (ln<|zcj c) 0=false from p];rfl);rw[m]at g a ⊢;exact e c g.shape g.free a};{obtain⟨w,x⟩:=zCV h p;have m:zdb c=zdR c (zbK c 0).1 (zbK c 0).2:=(by unfold zdb;rw[show ieq (ln<|zcj c) 0=true from p];rfl);rw[m]at g a ⊢;exact j0 rfl (j0 rfl (j0 (zbD ⟨h.1,w,x⟩)<|e _ g.shape g.free a))}
def zPi:zef Tryz.prog 51 [true,true,true,true,false,false] (some (1,1,[[0],[1],[2],[4],[7]])) zvG:=by refine zli (kt:=.mon) (zfU zh1 zC zM1 zNc) (ziq (by kernel_rfl)) (by kernel_rfl) ?_;intro a g f e h;have c:=zit e;unfold zvG at h;split at h;{obtain⟨d,rfl⟩:=zeo h;obtain⟨N,b⟩:=zU3 _ _ _ (by exact c) d;exact⟨⟨_,rfl⟩,rfl,_,N,12,(zX1 N _ _ _ ).trans b⟩};{cases h}
@[simp] abbrev zro (h:ac):Bool:=pc (Shape h/\i0 (zbK h 0).1 (ln h.aa)=true/\i0 (zbK h 0).2 8=true)
@[simp] abbrev zrp (h:ac):ac:=zdR h (zbK h 0).1 (zbK h 0).2
def zmS:LC->LA->Option (Bool×LC×LA)
 |[.s (.sl .int) b,.s .mon c,.s .entry d,.s .entry e],[]=>some (zro (⟨b,c,d,e⟩:ac),zbn<|zrp (⟨b,c,d,e⟩:ac),[])
 |_,_=>none
def zre (N:Nat)(c:ac)  : OA :=
 (oN (zft c 0)<|oN (zjr c (zdw c 0)<|zeh c 0)<|some [aH<|zm1 c (zdw c 0)<|zeh c 0])
def zMW (N:Nat)(c:ac)  : znD (cQ zpX zpi zX8 zYR) (zu []) N 12 81 [true,true,true,true] (zbn c) []=zre N c:=by kernel_rfl
def zJz (c:ac)(d:zbV big (.agg (zbn c)::[]))(a:zro c=true):∃N,zre N c=some (.agg (zbn<|zrp c)::[]):=by have b:=zN.1 a;refine⟨0,?_⟩;unfold zre oN;exact j0 rfl (j0 (zbD b) rfl)
def zDc:zbR Tryz.prog 81 [true,true,true,true] zmS:=by refine zg8 (zfU zh1 zC zM1 zNc) (ziq (by kernel_rfl)) ?_;intro g a b j i f h;have d:=zkn f;unfold zmS at h;split at h;{obtain⟨e,rfl,rfl⟩:=zmo h;obtain⟨N,c⟩:=zJz _ (by exact d) e;exact⟨rfl,_,N,12,(zMW N _ ).trans c⟩};{cases h}
def z2W:zcQ:=[(81,[true,true,true,true],zmS)]++zX8
def zWp:zb2 z2W:=zcp zM1 (by
 intro x a;simp only[qG,qO,or_false]at a;rcases a with rfl
 .exact zDc)
def zTW:zfn:=[(51,[true,true,true,true,false,false],some (1,1,[[0],[1],[2],[4],[7]]),zvG)]++zYR
def zC6:zej zTW:=zm5 zNc (by
 intro x a;simp only[qG,qO,or_false]at a;rcases a with rfl
 .exact zPi)
def zW0 {r:ac}{m p to:Int}(d:Shape r)(b:i0 m (ln r.aa)=true):zyd {landing r m p to with aa:=up (landing r m p to).aa m {ix (landing r m p to).aa m mZ with ae:=up (ix (landing r m p to).aa m mZ).ae p ⟨to,3⟩}} m p (ix (ix (landing r m p to).aa m mZ).ae p sZ)=ze6 r m p to:=by obtain⟨e,c⟩:=zcm d b;obtain⟨k,rfl,a⟩:=zdZ (n:=r.aa.length) b;refine zyK (h:=landing r (k:Int) p to) (by simpa [landing] using a) ?_;unfold landing;simp only[zd9 a];exact c.2.2.2
def zVD {r:ac}{m p to:Int}(f:Shape r)(b:i0 m (ln r.aa)=true)(e:i0 p 8=true):Shape {landing r m p to with aa:=up (landing r m p to).aa m {ix (landing r m p to).aa m mZ with ae:=up (ix (landing r m p to).aa m mZ).ae p ⟨to,3⟩}}:=by have a:=zrN (to:=to) f b e;obtain⟨c,d⟩:=zcm a (zeP b);exact zil a ⟨by simpa using c.1,c.2⟩ ⟨by simpa using d.1,d.2⟩
def zti:LC->LA->Option (Bool×LC×LA)
 |[.s (.sl .int) b,.s .mon c,.s .entry d,.s .entry e],[.one<|.i .i64 f,.one<|.i .i64 g]=>some (zk2 (⟨b,c,d,e⟩:ac) f g,zbn<|zlK (⟨b,c,d,e⟩:ac) f g,[])
 |_,_=>none
def zAn (N:Nat)(c:ac)(b a:Int):OA:=
 let m:=ix (zcO c) 0 0;let d:=zrp c;let l:=ix (zcO d) 0 0;let f:=ix c.aa b zk;let e:=ix d.aa b zk; (oN (zfx c)<|cond (ieq (ln<|zcO c) 0) (oN (zro c)<|oN (inb b<|ln d.aa)<|oN (zfx d)<|oN (inb 0<|ln<|zcO d)<|oN (inb a<|ln e.Out)<|oN (zfz d.ag l<|ix e.Out a [])<|oN (inb a<|ln e.Out)<|p0 (up d.aa b ({e with Out:=(up e.Out a [])}:Mon)) (λg=>let i:=ix g b zk;let q:=ix i.ae a zY; (oN (inb a<|ln i.ae)<|oN (inb a<|ln i.ae)<|p0 (up g b ({i with ae:=(up i.ae a (⟨l,3⟩:k0))}:Mon)) (λk=>let n:=({d with ag:=(zeB d.ag l<|ix e.Out a []),aa:=k}:ac); (oN (zex n b a q)<|some [aH<|zey n b a q])))))<|oN (inb b<|ln c.aa)<|oN (zfx c)<|oN (inb 0<|ln<|zcO c)<|oN (inb a<|ln f.Out)<|oN (zfz c.ag m<|ix f.Out a [])<|oN (inb a<|ln f.Out)<|p0 (up c.aa b ({f with Out:=(up f.Out a [])}:Mon)) (λg=>let j:=ix g b zk;let h:=ix j.ae a zY; (oN (inb a<|ln j.ae)<|oN (inb a<|ln j.ae)<|p0 (up g b ({j with ae:=(up j.ae a (⟨m,3⟩:k0))}:Mon)) (λk=>let p:=({c with ag:=(zeB c.ag m<|ix f.Out a []),aa:=k}:ac); (oN (zex p b a h)<|some [aH<|zey p b a h])))))
def zX0 (N:Nat)(c:ac)(a b:Int):znD (cQ zpX zpi z2W zTW) (zu []) N 12 45 [true,true,true,true] (zbn c) [aI a,aI b]=zAn N c a b:=by kernel_rfl
def zUR (c:ac)(b d:Int)(F:zbV big (.agg (zbn c)::[aI b,aI d]))(w:zk2 c b d=true):∃N,zAn N c b d=some (.agg (zbn<|zlK c b d)::[]):=by
 obtain⟨j,B,l⟩:=zN.1 w;have e:∀r,Shape r->inb 0 (ln<|zcj r)=true->i0 b (ln r.aa)=true->(cond (inb b<|ln r.aa) (cond (zfx r) (cond (inb 0<|ln<|zcO r) (cond (inb d<|ln (ix r.aa b zk).Out) (cond (zfz r.ag (ix (zcO r) 0 0)<|ix (ix r.aa b zk).Out d []) (cond (inb d<|ln (ix r.aa b zk).Out) (p0 (up r.aa b ({ (ix r.aa b zk) with Out:=(up (ix r.aa b zk).Out d [])}:Mon)) λg=>cond (inb d<|ln (ix g b zk).ae) (cond (inb d<|ln (ix g b zk).ae) (p0 (up g b ({ (ix g b zk) with ae:=(up (ix g b zk).ae d (⟨ix (zcO r) 0 0,3⟩:k0))}:Mon)) λu=>cond (zex ({r with ag:=(zeB r.ag (ix (zcO r) 0 0)<|ix (ix r.aa b zk).Out d []),aa:=u}:ac) b d<|ix (ix g b zk).ae d zY) (some [AV.agg<|zbn<|zey ({r with ag:=(zeB r.ag (ix (zcO r) 0 0)<|ix (ix r.aa b zk).Out d []),aa:=u}:ac) b d<|ix (ix g b zk).ae d zY]) none) none) none) none) none) none) none) none) none)=some [AV.agg<|zbn<|ze6 r b d<|ix (zcj r) 0 0]:=(by intro r i f a;obtain⟨E,q⟩:=zcm i a;have v:=zVD (to:=ix (zcj r) 0 0) i a l;have hE:=zW0 (p:=d) (to:=ix (zcj r) 0 0) i a;obtain⟨k,rfl,A⟩:=zdZ (n:=r.aa.length) a;have z:∀(x y:Mon),i0 (k:Int) (ln<|up (up r.aa (k:Int) x) (k:Int) y)=true:=λx y=>(by simpa [ln] using a);have t:inb d (ln (ix (up r.aa (k:Int) {ix r.aa (k:Int) mZ with Out:=up (ix r.aa (k:Int) mZ).Out d []}) (k:Int) mZ).ae)=true:=(by rw[zd9 A];exact zI (zdp q.1 l));refine j0 (zI a) (j0 (zbD i.1.1.1)<|j0 f<|j0 (zI<|zdp q.2.1 l)<|j0 (zbD ⟨i.1.1,zTN i a l⟩)<|j0 (zI<|zdp q.2.1 l)<|shr<|j0 t<|j0 t<|shr<|j0 (zbD ⟨v,z _ _⟩) ?_);exact congrArg (λx=>some [AV.agg<|zbn x]) hE);have h:=room j;have a:=zpt j B;refine⟨0,?_⟩;unfold zAn zlK fetched oN;conv=>zeta
 refine j0 (zbD j.1.1.1.1) ?_;cases s:ieq (ln<|zcO c) 0;{have m:zdb c=c:=(by unfold zdb;rw[show ieq (ln<|zcj c) 0=false from s];rfl);rw[m]at h a ⊢;exact e c h.shape h.free a};{obtain⟨C,D⟩:=zCV j s;have m:zdb c=zdR c (zbK c 0).1 (zbK c 0).2:=(by unfold zdb;rw[show ieq (ln<|zcj c) 0=true from s];rfl);rw[m]at h a ⊢;exact j0 rfl (j0 (zbD ⟨j.1,C,D⟩)<|e _ h.shape h.free a)}
def zO4:zbR Tryz.prog 45 [true,true,true,true] zti:=by refine zg8 (zfU zh1 zC zWp zC6) (ziq (by kernel_rfl)) ?_;intro g a b j i f h;have d:=zkn f;unfold zti at h;split at h;{obtain⟨e,rfl,rfl⟩:=zmo h;obtain⟨N,c⟩:=zUR _ _ _ (by exact d) e;exact⟨rfl,_,N,12,(zX0 N _ _ _ ).trans c⟩};{cases h}
def zX9:zcQ:=[(45,[true,true,true,true],zti)]++z2W
def zM2:zb2 zX9:=zcp zWp (by
 intro x a;simp only[qG,qO,or_false]at a;rcases a with rfl
 .exact zO4)
def zbJ (h:ac)(m p:Int):ac:={h with aa:=up h.aa m {ix h.aa m mZ with ar:=up (ix h.aa m mZ).ar p true}}
def opened (h:ac)(m p:Int):ac:=bif ieq (wand .i64 (ix (ix h.aa m mZ).ae p sZ).ai 2) 0 then zcn h m p ⟨(ix (ix h.aa m mZ).ae p sZ).af,3⟩ else h
def zjd (h:ac)(m p n:Int):ac:=bif ieq (wand .i64 n 2) 0 then h else opened (zbJ h m p) m p
def A0 (h:ac)(m p n:Int):ac:=bif ieq (ix (ix h.aa m mZ).ae p sZ).af (-1) then zjd (fetched h m p) m p n else zjd h m p n
def z6G {r:Int}(a:0<=r)(b:r<=3):enough r 2 = !ieq (wand .i64 r 2) 0:=by have:r=0\/r=1\/r=2\/r=3:=(by omega);rcases this with rfl|rfl|rfl|rfl<;>rfl
structure SlotFit (s:k0):Prop where
 no:zc1 s z0=ieq s.af (-1)
 lo:0<=s.ai
 hi:s.ai<=3
def zYJ {s:k0}{n:Int}(h:zdX s n=true):SlotFit s:=by refine⟨zOQ h,?_,?_⟩<;>unfold zdX at h<;>cases a:zc1 s z0;{rw [a]at h;simp only[cF,zdf]at h;have:=(zfE.1 h.2.2).1;omega};{unfold zc1 at a;rw[qE]at a;have:s.ai=0:=qF a.2;omega};{rw [a]at h;simp only[cF,zdf]at h;have:=(zfE.1 h.2.2).2;omega};{unfold zc1 at a;rw[qE]at a;have:s.ai=0:=qF a.2;omega}
def zmJ {h:ac}{m p:Int}(c:Shape h)(d:i0 m (ln h.aa)=true):Shape (zbJ h m p):=by obtain⟨a,b⟩:=zcm c d;exact zil c ⟨a.1,a.2.1,by simpa using a.2.2.1,a.2.2.2⟩ ⟨b.1,b.2.1,by simpa using b.2.2.1,b.2.2.2⟩
def zTE {h:ac}{m p:Int}(b:Shape h)(a:i0 m (ln h.aa)=true):Shape (opened h m p)/\i0 m (ln (opened h m p).aa)=true:=by unfold opened;cases ieq (wand .i64 (ix (ix h.aa m mZ).ae p sZ).ai 2) 0;{exact⟨b,a⟩};{exact⟨zrO a b,zEQ a⟩}
def zFl {h:ac}{m p n:Int}(b:Shape h)(a:i0 m (ln h.aa)=true):Shape (zjd h m p n)/\i0 m (ln (zjd h m p n).aa)=true:=by unfold zjd;cases ieq (wand .i64 n 2) 0;{exact zTE (zmJ b a) (zeP a)};{exact⟨b,a⟩}
def zoT {h:ac}{m p n:Int}(a:Fit h)(b:i0 m (ln h.aa)=true)(e:i0 p 8=true):Shape (A0 h m p n)/\i0 m (ln (A0 h m p n).aa)=true:=by unfold A0;cases ieq (ix (ix h.aa m mZ).ae p sZ).af (-1);{exact zFl a.1 b};{obtain⟨c,d⟩:=zjO a b e;exact zFl c d}
def zRC {h:ac}{m p:Int}(c:Fit h)(g:i0 m (ln h.aa)=true)(j:i0 p 8=true):(ix (ix (fetched h m p).aa m mZ).ae p sZ).ai=3:=by have f:=room c;have a:=zpt c g;obtain⟨r,e⟩:=zcm f.shape a;obtain⟨k,rfl,d⟩:=zdZ (n:=(zdb h).aa.length) a;obtain⟨q,rfl,l⟩:=zdZ (n:=8) j;unfold fetched ze6;rw[(zgk _ _ _ _).1];have b:k<(landing (zdb h) (k:Int) (q:Int)<|ix (zcj<|zdb h) 0 0).aa.length:=(by simpa [landing] using d);rw[zd9 b];have i:q<(ix (landing (zdb h) (k:Int) (q:Int)<|ix (zcj<|zdb h) 0 0).aa (k:Int) mZ).ae.length:=(by unfold landing;rw[zd9 d];show q<(ix (zdb h).aa (k:Int) mZ).ae.length;rw[e.1];exact l);show (ix (up (ix (landing (zdb h) (k:Int) (q:Int)<|ix (zcj<|zdb h) 0 0).aa (k:Int) mZ).ae (q:Int) ⟨_,3⟩) (q:Int) sZ).ai=3;rw[zd9 i]
def zH4 (h:ac)(m p n:Int):Prop:=Fit h/\i0 m (ln h.aa)=true/\i0 p 8=true/\(n=1\/n=2\/n=3)/\SlotFit (ix (ix h.aa m mZ).ae p sZ)
@[simp] abbrev zgZ (h:ac)(m p n:Int):Bool:=pc (zH4 h m p n)
@[simp] abbrev zgt (h:ac)(m p n:Int):ac:=A0 h m p n
def zrD:LW
 |[.agg [.s (.sl .int) b,.s .mon c,.s .entry d,.s .entry e],.one<|.i .i64 f,.one<|.i .i64 g,.one<|.i .i64 h]=>some (zgZ (⟨b,c,d,e⟩:ac) f g h,[aH<|zgt (⟨b,c,d,e⟩:ac) f g h])
 |_=>none
def zvr (N:Nat)(c:ac)(a b l:Int):OA:=
 let h:=zlK c a b;let k:=ix h.aa a zk;let e:=ix c.aa a zk;let p:=ix e.ae b zY; (oN (inb a<|ln c.aa)<|oN (inb b<|ln e.ae)<|oN zbT<|cond (cond (ieq p.af zbi.af) (ieq p.ai zbi.ai) false) (oN (zk2 c a b)<|cond (ieq (wand .i64 l 2) 0) (some [aH h])<|oN (inb a<|ln h.aa)<|oN (inb b<|ln k.ar)<|p0 (up h.aa a ({k with ar:=(up k.ar b true)}:Mon)) (λd=>let q:=(ix d a zk).ae;let i:=({h with aa:=d}:ac);let m:=ix q b zY;let r:=({m with ai:=3}:k0); (oN (inb a<|ln d)<|oN (inb b<|ln q)<|cond (ieq (wand .i64 m.ai 2) 0) (oN (zfj i a b r)<|some [aH<|zg0 i a b r])<|some [aH i])))<|cond (ieq (wand .i64 l 2) 0) (some [aH c])<|oN (inb a<|ln c.aa)<|oN (inb b<|ln e.ar)<|p0 (up c.aa a ({e with ar:=(up e.ar b true)}:Mon)) (λd=>let f:=(ix d a zk).ae;let j:=({c with aa:=d}:ac);let n:=ix f b zY;let g:=({n with ai:=3}:k0); (oN (inb a<|ln d)<|oN (inb b<|ln f)<|cond (ieq (wand .i64 n.ai 2) 0) (oN (zfj j a b g)<|some [aH<|zg0 j a b g])<|some [aH j])))
def zST (N:Nat)(a:ac)(b c d:Int):zCH (cQ zpX zpi zX9 zTW) (zu []) N 12 24 [true,true,true,true,false,false,false] 1 1 [[0],[1],[2],[4],[7]] .mon [aH a,aI b,aI c,aI d]=zvr N a b c d:=by kernel_rfl
def zPW (d:ac)(b a h:Int)(C:zbV big [aH d,aI b,aI a,aI h])(z:zgZ d b a h=true):∃N,zvr N d b a h=some [aH<|zgt d b a h]:=by
 obtain⟨l,j,i,D,A⟩:=zN.1 z;obtain⟨B,v⟩:=zcm l.1 j;have f:∀r,Shape r->i0 b (ln r.aa)=true->(cond (ieq (wand .i64 h 2) 0) (some [AV.agg<|zbn r])<|cond (inb b<|ln r.aa) (cond (inb a<|ln (ix r.aa b zk).ar) (p0 (up r.aa b ({ (ix r.aa b zk) with ar:=(up (ix r.aa b zk).ar a true)}:Mon)) λg=>cond (inb b<|ln g) (cond (inb a<|ln (ix g b zk).ae) (cond (ieq (wand .i64 (ix (ix g b zk).ae a zY).ai 2) 0) (cond (zfj ({r with aa:=g}:ac) b a ({ (ix (ix g b zk).ae a zY) with ai:=3}:k0)) (some [AV.agg<|zbn<|zg0 ({r with aa:=g}:ac) b a ({ (ix (ix g b zk).ae a zY) with ai:=3}:k0)]) none)<|some [AV.agg<|zbn ({r with aa:=g}:ac)]) none) none) none) none)=some [AV.agg<|zbn<|zjd r b a h]:=(by intro r u c;obtain⟨E,m⟩:=zcm u c;have y:=zmJ (p:=a) u c;unfold zjd;cases w:ieq (wand .i64 h 2) 0;{obtain⟨k,rfl,t⟩:=zdZ (n:=r.aa.length) c;have q:ix (zbJ r (k:Int) a).aa (k:Int) mZ={ix r.aa (k:Int) mZ with ar:=up (ix r.aa (k:Int) mZ).ar a true}:=zd9 t _ _;refine zdM rfl (j0 (zI c)<|j0 (zI<|zdp m.2.2.1 i)<|shr<|j0 (zI<|zeP c)<|j0 ?_ ?_);{rw [zd9 t];exact zI (zdp m.1 i)};{unfold opened;show (cond (ieq (wand .i64 (ix (ix (zbJ r (k:Int) a).aa (k:Int) mZ).ae a sZ).ai 2) 0) _ _)=_;cases s:ieq (wand .i64 (ix (ix (zbJ r (k:Int) a).aa (k:Int) mZ).ae a sZ).ai 2) 0;{rfl};{refine j0 rfl (j0 (zbD ⟨(zU _).2 y.1,zeP c,?_,?_⟩) rfl);{show i0 a (ln (ix (zbJ r (k:Int) a).aa (k:Int) mZ).ae)=true;rw[q];exact zdp m.1 i};{show (ix (zbJ r (k:Int) a).aa (k:Int) mZ).aj.length<=(ix (zbJ r (k:Int) a).aa (k:Int) mZ).ad.length;rw[q];exact kX m.2.2.2}}}};{rfl});refine⟨0,?_⟩;unfold zvr zgt A0 oN;conv=>zeta
 refine j0 (zI j) (j0 (zI<|zdp v.1 i) (j0 rfl ?_));have e:(cond (ieq (ix (ix d.aa b mZ).ae a sZ).af zbi.af) (ieq (ix (ix d.aa b mZ).ae a sZ).ai zbi.ai) false)=ieq (ix (ix d.aa b mZ).ae a sZ).af (-1):=(by rw[<- A.no];unfold zc1 zbi;cases ieq (ix (ix d.aa b mZ).ae a sZ).af z0.af<;>rfl);rw[e];cases w:ieq (ix (ix d.aa b mZ).ae a sZ).af (-1);{exact f d l.1 j};{obtain⟨s,x⟩:=zjO (p:=a) l j i;exact j0 rfl (j0 (zbD ⟨l,j,i⟩)<|f _ s x)}
def zJj:zef Tryz.prog 24 [true,true,true,true,false,false,false] (some (1,1,[[0],[1],[2],[4],[7]])) zrD:=by refine zli (kt:=.mon) (zfU zh1 zC zM2 zC6) (ziq (by kernel_rfl)) (by kernel_rfl) ?_;intro a g f e h;have c:=zit e;unfold zrD at h;split at h;{obtain⟨d,rfl⟩:=zeo h;obtain⟨N,b⟩:=zPW _ _ _ _ (by exact c) d;exact⟨⟨_,rfl⟩,rfl,_,N,12,(zST N _ _ _ _ ).trans b⟩};{cases h}
def zvE:LC->LA->Option (Bool×LC×LA)
 |[.s (.sl .int) b,.s .mon c,.s .entry d,.s .entry e],[.one<|.i .i64 f,.one<|.i .i64 g,.one<|.i .i64 h]=>some (zgZ (⟨b,c,d,e⟩:ac) f g h,zbn<|zgt (⟨b,c,d,e⟩:ac) f g h,[])
 |_,_=>none
def zFw (N:Nat)(c:ac)(b a k:Int):OA:=
 let e:=zlK c b a;let m:=ix e.aa b zk;let h:=ix c.aa b zk; (oN (inb b<|ln c.aa)<|oN (inb a<|ln h.ae)<|cond (ieq (ix h.ae a zY).af<|-1) (oN (zk2 c b a)<|oN (zcr k 2)<|cond (nB<|zdc k 2) (some [aH e])<|oN (inb b<|ln e.aa)<|oN (inb a<|ln m.ar)<|p0 (up e.aa b ({m with ar:=(up m.ar a true)}:Mon)) (λd=>let i:=ix d b zk;let f:=ix i.ae a zY; (oN (inb a<|ln i.ae)<|oN (zcr f.ai 2)<|cond (nB<|zdc f.ai 2) (oN (inb a<|ln i.ae)<|p0 (up d b ({i with ae:=(up i.ae a ({f with ai:=3}:k0))}:Mon)) (λl=>let n:=({e with aa:=l}:ac); (oN (zex n b a f)<|some [aH<|zey n b a f])))<|some [aH ({e with aa:=d}:ac)])))<|oN (zcr k 2)<|cond (nB<|zdc k 2) (some [aH c])<|oN (inb b<|ln c.aa)<|oN (inb a<|ln h.ar)<|p0 (up c.aa b ({h with ar:=(up h.ar a true)}:Mon)) (λd=>let j:=ix d b zk;let g:=ix j.ae a zY; (oN (inb a<|ln j.ae)<|oN (zcr g.ai 2)<|cond (nB<|zdc g.ai 2) (oN (inb a<|ln j.ae)<|p0 (up d b ({j with ae:=(up j.ae a ({g with ai:=3}:k0))}:Mon)) (λl=>let p:=({c with aa:=l}:ac); (oN (zex p b a g)<|some [aH<|zey p b a g])))<|some [aH ({c with aa:=d}:ac)])))
def z0w (N:Nat)(c:ac)(a b d:Int):znD (cQ zpX zpi zX9 zTW) (zu []) N 12 20 [true,true,true,true] (zbn c) [aI a,aI b,aI d]=zFw N c a b d:=by kernel_rfl
def zXR (c:ac)(b a f:Int)(R:zbV big (.agg (zbn c)::[aI b,aI a,aI f]))(M:zgZ c b a f=true):∃N,zFw N c b a f=some (.agg (zbn<|zgt c b a f)::[]):=by
 obtain⟨l,i,j,P,C⟩:=zN.1 M;obtain⟨Q,I⟩:=zcm l.1 i;have H:enough f 2 = !ieq (wand .i64 f 2) 0:=(by rcases P with rfl|rfl|rfl<;>rfl);have g:∀r,Shape r->i0 b (ln r.aa)=true->enough (ix (ix r.aa b mZ).ae a sZ).ai 2=(!ieq (wand .i64 (ix (ix r.aa b mZ).ae a sZ).ai 2) 0)->(cond (zcr f 2) (cond (cond (zdc f 2) false true) (some [AV.agg<|zbn r])<|cond (inb b<|ln r.aa) (cond (inb a<|ln (ix r.aa b zk).ar) (p0 (up r.aa b ({ (ix r.aa b zk) with ar:=(up (ix r.aa b zk).ar a true)}:Mon)) λe=>cond (inb a<|ln (ix e b zk).ae) (cond (zcr (ix (ix e b zk).ae a zY).ai 2) (cond (cond (zdc (ix (ix e b zk).ae a zY).ai 2) false true) (cond (inb a<|ln (ix e b zk).ae) (p0 (up e b ({ (ix e b zk) with ae:=(up (ix e b zk).ae a ({ (ix (ix e b zk).ae a zY) with ai:=3}:k0))}:Mon)) λF=>cond (zex ({r with aa:=F}:ac) b a<|ix (ix e b zk).ae a zY) (some [AV.agg<|zbn<|zey ({r with aa:=F}:ac) b a<|ix (ix e b zk).ae a zY]) none) none)<|some [AV.agg<|zbn ({r with aa:=e}:ac)]) none) none) none) none) none)=some [AV.agg<|zbn<|zjd r b a f]:=(by intro r B d q;obtain⟨S,u⟩:=zcm B d;have w:=zmJ (p:=a) B d;unfold zjd;simp only[zcr,zdc,H,cT];cases J:ieq (wand .i64 f 2) 0;{obtain⟨k,rfl,A⟩:=zdZ (n:=r.aa.length) d;have m:ix (zbJ r (k:Int) a).aa (k:Int) mZ={ix r.aa (k:Int) mZ with ar:=up (ix r.aa (k:Int) mZ).ar a true}:=zd9 A _ _;have t:k<(zbJ r (k:Int) a).aa.length:=(by simpa [zbJ] using A);have z:inb a (ln (ix (zbJ r (k:Int) a).aa (k:Int) mZ).ae)=true:=(by rw[m];exact zI (zdp u.1 j));refine zdM rfl (j0 (zI d)<|j0 (zI<|zdp u.2.2.1 j)<|shr<|j0 z ?_);unfold opened;show (cond (cond (enough (ix (ix (zbJ r (k:Int) a).aa (k:Int) mZ).ae a sZ).ai 2) false true) _ _)=_;have G:(cond (enough (ix (ix (zbJ r (k:Int) a).aa (k:Int) mZ).ae a sZ).ai 2) false true)=ieq (wand .i64 (ix (ix (zbJ r (k:Int) a).aa (k:Int) mZ).ae a sZ).ai 2) 0:=(by rw[m];show (cond (enough (ix (ix r.aa (k:Int) mZ).ae a sZ).ai 2) false true)=ieq (wand .i64 (ix (ix r.aa (k:Int) mZ).ae a sZ).ai 2) 0;rw[q];cases ieq (wand .i64 (ix (ix r.aa (k:Int) mZ).ae a sZ).ai 2) 0<;>rfl);rw[G];cases v:ieq (wand .i64 (ix (ix (zbJ r (k:Int) a).aa (k:Int) mZ).ae a sZ).ai 2) 0;{rfl};{have L:Shape {zbJ r (k:Int) a with aa:=up (zbJ r (k:Int) a).aa (k:Int) {ix (zbJ r (k:Int) a).aa (k:Int) mZ with ae:=up (ix (zbJ r (k:Int) a).aa (k:Int) mZ).ae a ⟨(ix (ix (zbJ r (k:Int) a).aa (k:Int) mZ).ae a sZ).af,3⟩}}:=(by obtain⟨D,E⟩:=zcm w (zeP d);exact zil w ⟨by simpa using D.1,D.2⟩ ⟨by simpa using E.1,E.2⟩);have O:∀(x y:Mon),i0 (k:Int) (ln<|up (up r.aa (k:Int) x) (k:Int) y)=true:=λx y=>(by simpa [ln] using d);refine j0 rfl (j0 z<|shr<|j0 (zbD ⟨L,O _ _⟩) ?_);exact congrArg (λx=>some [AV.agg<|zbn x]) (zyK (h:=zbJ r (k:Int) a) (p:=a) (s:=⟨(ix (ix (zbJ r (k:Int) a).aa (k:Int) mZ).ae a sZ).af,3⟩) t (by rw[m];exact u.2.2.2))}};{rfl});refine⟨0,?_⟩;unfold zFw zgt A0 oN nB;conv=>zeta
 refine j0 (zI i) (j0 (zI<|zdp I.1 j) ?_);cases J:ieq (ix (ix c.aa b mZ).ae a sZ).af (-1);{exact g c l.1 i (z6G C.lo C.hi)};{obtain⟨v,K⟩:=zjO (p:=a) l i j;exact j0 rfl (j0 (zbD ⟨l,i,j⟩)<|g _ v K (by rw[zRC l i j];rfl))}
def zRT:zbR Tryz.prog 20 [true,true,true,true] zvE:=by refine zg8 (zfU zh1 zC zM2 zC6) (ziq (by kernel_rfl)) ?_;intro g a b j i f h;have d:=zkn f;unfold zvE at h;split at h;{obtain⟨e,rfl,rfl⟩:=zmo h;obtain⟨N,c⟩:=zXR _ _ _ _ (by exact d) e;exact⟨rfl,_,N,12,(z0w N _ _ _ _ ).trans c⟩};{cases h}
def zYa:zcQ:=[(20,[true,true,true,true],zvE)]++zX9
def zce:zb2 zYa:=zcp zM2 (by
 intro x a;simp only[qG,qO,or_false]at a;rcases a with rfl
 .exact zRT)
def zYS:zfn:=[(24,[true,true,true,true,false,false,false],some (1,1,[[0],[1],[2],[4],[7]]),zrD)]++zTW
def zxt:zej zYS:=zm5 zC6 (by
 intro x a;simp only[qG,qO,or_false]at a;rcases a with rfl
 .exact zJj)
def zXD {h:ac}(b:zb5 h=true):h.ag.length=12:=by unfold zb5 at b;simp only[zdf]at b;have a:=b.1;unfold zhO at a;simp only[zdf]at a;have:ln h.ag=12:=qF a.2;simp only[ln] at this;omega
def zf3 {h:ac}(a:zb5 h=true):∀x∈h.aa,zez x=true:=by unfold zb5 at a;simp only[zdf]at a;exact zx9 _ _ a.2.2.2.2
def zGS {x:Mon}(a:zez x=true):ShM x:=by have e:=zrd (zl6 a);unfold zez at a;simp only[zdf]at a;have b:ln x.aj=ln x.ad:=qF a.2.1;have c:ln x.Out=8:=qF a.2.2.2.1;have d:ln x.ar=8:=qF a.2.2.2.2.1;simp only[ln] at *;exact⟨by omega,by omega,by omega,by omega⟩
def zew {h:ac}(b:SmH h)(a:zb5 h=true):Fit h:=by refine⟨⟨b,λx c=>zGS (zf3 a x c)⟩,by rw[zXD a];decide,?_⟩;unfold zb5 at a;simp only[zdf]at a;have:=zRZ _ _ rfl a.2.2.2.2;omega
def znQ {x:Mon}(b:zez x=true){p:Int}(c:i0 p 8=true):SlotFit (ix x.ae p sZ):=by have a:=zl6 b;unfold zc4 at a;simp only[zdf]at a;exact zYJ (qM.1 a.1 _<|zbF (zdp (zGS b).1 c) _)
def zUG {h:ac}{m p:Int}(a:Fit h)(c:i0 m (ln h.aa)=true):Fit (zbJ h m p):=by refine⟨zmJ a.1 c,a.2.1,?_⟩;obtain⟨k,rfl,b⟩:=zdZ (n:=h.aa.length) c;have:=zUp h.aa k (ix h.aa (k:Int) mZ) {ix h.aa (k:Int) mZ with ar:=up (ix h.aa (k:Int) mZ).ar p true} (by rw[zbl b];exact qB b);have d:=a.2.2;unfold zbJ;simp only[up,kH];dsimp only at this;simp only[up] at this;omega
abbrev gZ:ah:=Ty.dflt .guest
def zbZ (h:ac)(m g:Int):Bool:=bif zb5 h then (cond (i0 m<|ln h.aa) (i0 g<|ln (ix h.aa m mZ).ad) false) else false
@[simp] abbrev zdh (h:ac)(m g:Int):Bool:=pc (zcN h)
@[simp] abbrev ziS (h:ac)(m g:Int):Bool:=zbZ h m g
def zFb:Run:=rF3 dH dI dI λb c d=>(zdh b c d,[aB<|ziS b c d])
def zNR (N:Nat)(a:ac)(b c:Int):OA:=
 let d:=wsub .i64 (ln (ix a.aa b zk).ad) 1; (oN (zdL a)<|cond (zdO a) (oN (zM b 0<|wsub .i64 (ln a.aa) 1)<|cond (zi b 0<|wsub .i64 (ln a.aa) 1) (oN (inb b<|ln a.aa)<|oN (zM c 0 d)<|some [aB<|zi c 0 d]) oF) oF)
def zU5 (a:ac)(b c:Int)(f:zdh a b c=true):∃N,zNR N a b c=some [aB<|ziS a b c]:=by
 have e:=(zU a).1 (zN.1 f);refine⟨0,?_⟩;unfold zNR ziS zbZ oN;conv=>zeta
 refine j0 rfl ?_;rw[show zdO a=zb5 a from rfl];cases g:zb5 a;{rfl};{rw [show zi b 0 (wsub .i64 (ln a.aa) 1)=i0 b (ln a.aa) from zpN e.2.1.1 b];refine j0 rfl (j0 rfl ?_);cases d:i0 b (ln a.aa);{rfl};{have hg:(ix a.aa b mZ).ad.length<=1048576:=(e.2.1.2 _<|zbF d _).2.2.2.1.1;rw[show zi c 0 (wsub .i64 (ln (ix a.aa b zk).ad) 1)=i0 c (ln (ix a.aa b mZ).ad) from zpN hg c];exact j0 rfl (j0 (zI d) (j0 rfl rfl))}}
def zPj:vM 192 zFb:=kF3 zh1 zC zce zxt (zu []) zU5
def zcx (h:ac)(m:Int):Nat->Nat->List LI
 | 0,_=>[]
 |n+1,i=>zcC h m (i:Int)::zcx h m n (i+1)
def zyq (h:ac)(m:Int):∀(n i:Nat),(zcx h m n i).length=n
 | 0,_=>rfl
 |n+1,i=>by simp[zcx,zyq h m n]
def zK (h:ac)(m:Int):am:=bif i0 m (ln h.aa) then ⟨zcx h m 8 0,(ix h.aa m mZ).ad,(ix h.aa m mZ).Outs,(ix h.aa m mZ).ak⟩ else ⟨[],[],[],0⟩
def zOo {c:Type}(h:ac)(m:Int)(K:List LI->Option c):∀(n i:Nat) (a:List LI),a.length+n<=2147483648->
 goN (λi a b=>bif few (ln<|ap a [zcC h m (i:Int)]) then b (ap a [zcC h m (i:Int)]) else none) K n i a=K (a++zcx h m n i)
 | 0,_,a,_=>by simp[goN,zcx]
 |n+1,i,a,d=>by simp only[goN,zcx];rw[zgI (by simp[ap];omega),cT,zOo h m K n (i+1) _ (by simp[ap];omega)];simp[ap]
def z4N:zW:=[(192,zFb)]++zpX
def z2e:zL z4N:=zh zPj zh1
def zU7:zcq zyQ=true:=by decide
def zVR {p:Nat->Bool}:∀{n i q:Nat},znu p n i=true->i<=q->q<i+n->p q=true
 | 0,i,q,_,a,b=>by omega
 |n+1,i,q,h,a,b=>by simp only[znu,qE]at h;by_cases c:i=q;{subst c;exact h.1};{exact zVR h.2 (by omega) (by omega)}
def z0J {h:ac}{m:Int}(e:zb5 h=true)(l:i0 m (ln h.aa)=true){p:Int}(j:i0 p 8=true):zcq (zcC h m p)=true:=by have i:=zf3 e _ (zbF l mZ);have s:=zGS i;have f:h.ag.all zcq=true:=(by unfold zb5 at e;simp only[zdf]at e;have b:=e.1;unfold zhO at b;simp only[zdf]at b;exact b.1);unfold zcC;rw[l,j];simp only[cT];have t:zbC (ix h.aa m mZ).ae p=ix (ix h.aa m mZ).ae p sZ:=(by unfold zbC;rw[zdp s.1 j];rfl);rw[t];have d:∀(g:List LI) (q:Int),(i0 q (ln g)=true->zcq (ix g q [])=true)->zcq (zcw g q)=true:=(by intro g q k;unfold zcw;cases b:i0 q (ln g);{exact zU7};{exact k b});cases c:ine (ix (ix h.aa m mZ).ae p sZ).af (-1);{refine d _ _ (λk=>?_);obtain⟨q,rfl,u⟩:=zdZ (n:=8) j;have a:fits (ix h.aa m mZ) q=true:=(by unfold zez at i;simp only[zdf]at i;exact zVR i.2.2.2.2.2.2.2.2.2.2 (by omega) (by omega));unfold fits zlo at a;have r:zc1 (ix (ix h.aa m mZ).ae (q:Int) sZ) z0=true:=(by rw[(znQ (zf3 e _<|zbF l mZ) j).no];rw[zwy]at c;cases b:ieq (ix (ix h.aa m mZ).ae (q:Int) sZ).af (-1);{rw [b]at c;cases c};{rfl});rw[r]at a;exact a};{exact d _ _ (λk=>qM.1 f _ (zbF k _))}
def zOE {h:ac}{m:Int}(a:zb5 h=true)(b:i0 m (ln h.aa)=true):∀(n i:Nat),i+n<=8->(zcx h m n i).all zcq=true
 | 0,_,_=>rfl
 |n+1,i,c=>by simp only[zcx,j9,qE];exact⟨z0J a b<|qK (by omega),zOE a b n (i+1) (by omega)⟩
def zED {h:ac}{m:Int}(c:zb5 h=true)(b:i0 m (ln h.aa)=true):zca (zK h m)=true:=by have a:=zf3 c _ (zbF b mZ);unfold zez at a;simp only[zdf]at a;unfold zK zca zhO;rw[b];simp only[cT,a.2.2.2.2.2.2.2.2.2.1,zOE c b 8 0 (by decide),ln,zyq];simp only[ln]at a;rw[a.1,a.2.2.2.2.2.1,a.2.2.2.2.2.2.1];rfl
def zmr:zW:=z4N
def zh2:zL zmr:=z2e
def zel (l:List Mon):List (List ah):=l.map λx=>x.ad
def zx8 {l:List Mon}{m:Int}{x:Mon}(b:i0 m (ln l)=true)(c:x.ad=(ix l m mZ).ad):zel (up l m x)=zel l:=by obtain⟨k,rfl,a⟩:=zdZ (n:=l.length) b;unfold zel up;rw[List.map_set,kH,c,zbl a];have:=@u2 _ (l.map λx=>x.ad) k (by simpa using a);simpa using this
def zIE {l b:List Mon}(h:zel b=zel l)(m:Int):(ix b m mZ).ad=(ix l m mZ).ad:=by unfold zel at h;have a:(b.map λx=>x.ad)[m.toNat]?=(l.map λx=>x.ad)[m.toNat]?:=(by rw[h]);rw[qP,qP]at a;unfold ix;simp only[kA];cases c:b[m.toNat]? <;> cases d:l[m.toNat]? <;> rw [c,d]at a<;>simp at a ⊢;exact a
def zx7 {h:ac}{m p:Int}{s:k0}(a:i0 m (ln h.aa)=true):zel (zcn h m p s).aa=zel h.aa:=by rw[(zgk h m p s).1];exact zx8 a rfl
def z6N {h:ac}{m p:Int}(a:i0 m (ln h.aa)=true):zel (zdR h m p).aa=zel h.aa:=(zx7 (h:=zeX h m p)<|zeP a).trans (zx8 a rfl)
def z6M {h:ac}(b:Fit h):zel (zdb h).aa=zel h.aa:=by unfold zdb;cases a:ieq (ln<|zcj h) 0;{rfl};{exact z6N (zCV b a).1}
def zXB {h:ac}{m p:Int}(a:Fit h)(c:i0 m (ln h.aa)=true):zel (fetched h m p).aa=zel h.aa:=by have b:=zpt a c;exact((zx7 (h:=landing (zdb h) m p (ix (zcj<|zdb h) 0 0))<|zeP b).trans (zx8 b rfl)).trans (z6M a)
def zRP {h:ac}{m p n:Int}(b:i0 m (ln h.aa)=true):zel (zjd h m p n).aa=zel h.aa:=by have a:zel (zbJ h m p).aa=zel h.aa:=zx8 b rfl;unfold zjd;cases ieq (wand .i64 n 2) 0;{unfold opened;cases ieq (wand .i64 (ix (ix (zbJ h m p).aa m mZ).ae p sZ).ai 2) 0;{exact a};{exact(zx7 (h:=zbJ h m p)<|zeP b).trans a}};{rfl}
def zZ5 {h:ac}{m p n:Int}(b:Fit h)(a:i0 m (ln h.aa)=true)(c:i0 p 8=true):zel (A0 h m p n).aa=zel h.aa:=by unfold A0;cases ieq (ix (ix h.aa m mZ).ae p sZ).af (-1);{exact zRP a};{exact(zRP (zjO b a c).2).trans (zXB b a)}
def z8A {l a:List Mon}(h:zel a=zel l):a.length=l.length:=by have:=congrArg List.length h;simpa [zel] using this
abbrev kZ:ax:=Ty.dflt .kept
def z9F {x:ah}(f:zdY x=true){p n:Int}(d:zfD x.av p n=true):i0 (zcF x.av p n) 8=true:=by have g:zc4 x.av 4 8=true:=(by unfold zdY at f;simp only[qE]at f;exact f.2.2.2.2.1);unfold zcF;rw[d];simp only[cT];unfold zfD at d;cases a:ieq (zbC x.av p).af (-1);{unfold zbC at a ⊢;cases e:i0 p (ln x.av);{rw [e]at a;cases a};{rw [e]at a;simp only[cT]at a ⊢;unfold zc4 at g;simp only[zdf]at g;have c:=qM.1 g.1 _ (zbF e sZ);unfold zdX at c;cases b:zc1 (ix x.av p sZ) z0;{rw [b]at c;simp only[cF,zdf]at c;have:=zfE.1 c.2.1;rw[show wsub .i64 8 1=7 from rfl] at this;show i0 (ix x.av p sZ).af 8=true;exact qK (by omega)};{unfold zc1 at b;rw[qE]at b;have:(ix x.av p sZ).af = -1:=qF b.1;rw[show ieq (ix x.av p zY).af (-1)=true from qK this]at a;cases a}}};{rw [a]at d;cases d}
def zcU (h:ac)(m g:Int):List k0:=(ix (ix h.aa m mZ).ad g gZ).av
def zcz (h:ac)(m g:Int):ax:=ix (ix h.aa m mZ).aj g kZ
def zqP (b:List au)(m g a:Int):Option au:=zCI b (ze0 m g) a
def zhy (b:List au)(m g a c:Int):Bool:=bif (zqP b m g a).isSome then enough ((zqP b m g a).getD ⟨0,0,0,0⟩).ai c else false
def zfa (h:ac)(m g a b:Int):Bool:=bif zkw (zcz h m g) a then (cond (ieq (zfo (zcz h m g) a).af<|-1) true<|!enough (zfo (zcz h m g) a).ai b) else true
def zd2 (h:ac)(m g a:Int):ac:={h with aa:=up h.aa m {ix h.aa m mZ with aj:=up (ix h.aa m mZ).aj g (filled (zcz h m g) (zcU h m g) (ix h.aa m mZ).ae a)}}
def zQx (h:ac)(m g a:Int):au:=⟨ze0 m g,a,(zfo (zcz h m g) a).af,(zfo (zcz h m g) a).ai⟩
def zuH (h:ac)(m g a:Int)(b:Bool):ac:=bif b then {h with an:=zpp h.an (zQx h m g a)} else {h with ao:=zpp h.ao (zQx h m g a)}
def zhM (h:ac)(m g a:Int)(b:Bool):ac×Int×Bool:=(zuH h m g a b,(zfo (zcz h m g) a).af,true)
def zhL (h:ac)(b:List au)(m g a c q:Int)(d:Bool):ac×Int×Bool :=
 bif zhy b m g a c then (h,((zqP b m g a).getD ⟨0,0,0,0⟩).ac,true)
 else (cond (zfa h m g a c) (zhM (zd2 (A0 h m q c) m g a) m g a d)<|zhM h m g a d)
def zjB (a:Int):Bool:=bif ieq a 1 then true else ieq a 2
def zb8 (h:ac)(m g page need:Int):Bool:=bif zbZ h m g then (cond (zjB need) (zfD (zcU h m g) page need) false) else false
def lookOf (h:ac)(b:List au)(m g page need:Int)(io:Bool):ac×Int×Bool :=
 bif zb8 h m g page need then zhL (cond (ieq need 2) (zbJ h m<|zcF (zcU h m g) page need) h) b m g page need (zcF (zcU h m g) page need) io else (h,-1,false)
structure Kp (h r:ac):Prop where
 shape:Shape r
 gs:zel r.aa=zel h.aa
def Kp.has {h r:ac}(k:Kp h r){m:Int}(a:i0 m (ln h.aa)=true):i0 m (ln r.aa)=true:=by rw[ln,z8A k.gs];exact a
def zYG {h:ac}{m g c:Int}(d:Shape h)(e:i0 m (ln h.aa)=true)(hg:i0 g (ln (ix h.aa m mZ).ad)=true):Shape (zd2 h m g c):=by obtain⟨a,b⟩:=zcm d e;have f:i0 g (ln (ix h.aa m mZ).aj)=true:=(by rw[ln,b.2.2.2];exact hg);exact zil d ⟨a.1,a.2.1,a.2.2.1,a.2.2.2.1,a.2.2.2.2.1,zxp a.2.2.2.2.2<|zYM<|a.2.2.2.2.2.2 _<|zbF f _⟩ ⟨b.1,b.2.1,b.2.2.1,by simpa using b.2.2.2⟩
def z0g {h r:ac}{m g a:Int}{i:Bool}(k:Kp h r):Kp h (zuH r m g a i):=by obtain⟨⟨b,c,d,e⟩,f⟩:=k.shape;unfold zuH;cases i;{exact⟨⟨⟨b,c,(zys _ d).1,e⟩,f⟩,k.gs⟩};{exact⟨⟨⟨b,c,d,(zys _ e).1⟩,f⟩,k.gs⟩}
structure LookAt (h:ac) (m g q need:Int):Prop where
 fit:Fit h
 hm:i0 m (ln h.aa)=true
 hg:i0 g (ln (ix h.aa m mZ).ad)=true
 hq:i0 q 8=true
 hn:need=1\/need=2
 hs:SlotFit (ix (ix h.aa m mZ).ae q sZ)
def LookAt.mend {h:ac}{m g q a:Int}(A:LookAt h m g q a):zH4 h m q a:=⟨A.fit,A.hm,A.hq,A.hn.elim .inl λh=>.inr (.inl h),A.hs⟩
def LookAt.kp {h:ac}{m g q a:Int}(A:LookAt h m g q a):Kp h (A0 h m q a):=⟨(zoT A.fit A.hm A.hq).1,zZ5 A.fit A.hm A.hq⟩
def LookAt.fill {h:ac}{m g q a:Int}(A:LookAt h m g q a)(b:Int):Kp h (zd2 (A0 h m q a) m g b):=by have k:=A.kp;have hg:i0 g (ln (ix (A0 h m q a).aa m mZ).ad)=true:=(by rw[zIE k.gs];exact A.hg);have e:zel (zd2 (A0 h m q a) m g b).aa=zel (A0 h m q a).aa:=zx8 (k.has A.hm) rfl;exact⟨zYG k.shape (k.has A.hm) hg,e.trans k.gs⟩
def zR5 {h:ac}{b:List au}{m g page a q:Int}{io:Bool}(A:LookAt h m g q a):Kp h (zhL h b m g page a q io).1:=by unfold zhL;cases zhy b m g page a;{cases zfa h m g page a;{exact z0g ⟨A.fit.1,rfl⟩};{exact z0g (A.fill page)}};{exact⟨A.fit.1,rfl⟩}
def zdN {h:ac}{m g:Int}(a:zbZ h m g=true):zb5 h=true/\i0 m (ln h.aa)=true/\i0 g (ln (ix h.aa m mZ).ad)=true:=by unfold zbZ at a;simp only[zdf]at a;exact a
def zXC {h:ac}{m g:Int}(e:zbZ h m g=true):zdY (ix (ix h.aa m mZ).ad g gZ)=true:=by obtain⟨b,c,d⟩:=zdN e;have a:=zf3 b _ (zbF c mZ);unfold zez at a;simp only[zdf]at a;exact qM.1 a.2.2.2.2.2.2.2.2.2.1 _ (zbF d _)
def zJU {n:Int}(h:zjB n=true):n=1\/n=2:=by unfold zjB at h;cases a:ieq n 1;{rw [a]at h;exact .inr (qF h)};{exact .inl (qF a)}
def zOs {h:ac}{m g page a:Int}(s:SmH h)(d:zb8 h m g page a=true) :
 LookAt h m g (zcF (zcU h m g) page a) a/\LookAt (zbJ h m<|zcF (zcU h m g) page a) m g (zcF (zcU h m g) page a) a:=by
 unfold zb8 at d;simp only[zdf]at d;obtain⟨l,p,r⟩:=d;obtain⟨i,b,j⟩:=zdN l;have f:i0 (zcF (zcU h m g) page a) 8=true:=z9F (zXC l) r;have c:=znQ (zf3 i _<|zbF b mZ) f;have q:=zew s i;refine⟨⟨q,b,j,f,zJU p,c⟩,⟨zUG q b,zeP b,?_,f,zJU p,?_⟩⟩
 .have e:zel (zbJ h m<|zcF (zcU h m g) page a).aa=zel h.aa:=zx8 b rfl;rw[zIE e];exact j
 .obtain⟨k,rfl,hk⟩:=zdZ (n:=h.aa.length) b;unfold zbJ;rw[zd9 hk];exact c
def zwz {h:ac}{b:List au}{m g page need:Int}{io:Bool}(a:SmH h)(f:zbZ h m g=true):Kp h (lookOf h b m g page need io).1:=by have d:=zew a (zdN f).1;unfold lookOf;cases c:zb8 h m g page need;{exact⟨d.1,rfl⟩};{obtain⟨A,B⟩:=zOs a c;simp only[cT];cases ieq need 2;{exact zR5 A};{have k:=zR5 (b:=b) (page:=page) (io:=io) B;have e:zel (zbJ h m<|zcF (zcU h m g) page need).aa=zel h.aa:=zx8 A.hm rfl;exact⟨k.shape,k.gs.trans e⟩}}
def zM4 (x:ac×Int×Bool):LA:=[.agg<|zbn x.1,.one<|.i .i64 x.2.1,.one<|.b x.2.2]
def zne {h:ac}{b:List au}{m g c a:Int}{e:Bool}(d:zb8 h m g c a=false):lookOf h b m g c a e=(h,-1,false):=by unfold lookOf;rw[d];rfl
def zBG {h:ac}{m g b a:Int}(c:zbZ h m g=false):zb8 h m g b a=false:=by unfold zb8;rw[c];rfl
def z6O {h:ac}{m g:Int}(a:zb5 h=false):zbZ h m g=false:=by unfold zbZ;rw[a];rfl
def z6P {h:ac}{m g:Int}(a:i0 m (ln h.aa)=false):zbZ h m g=false:=by unfold zbZ;rw[a];cases zb5 h<;>rfl
def z6Q {h:ac}{m g:Int}(a:i0 g (ln (ix h.aa m mZ).ad)=false):zbZ h m g=false:=by unfold zbZ;rw[a];cases zb5 h<;>cases i0 m (ln h.aa)<;>rfl
def z6R {h:ac}{m g:Int}(a:zb5 h=true)(b:i0 m (ln h.aa)=true)(c:i0 g (ln (ix h.aa m mZ).ad)=true):zbZ h m g=true:=by unfold zbZ;rw[a,b,c];rfl
structure LookF (r:ac) (m g:Int):Prop where
 hm:i0 m (ln r.aa)=true
 hg:i0 g (ln (ix r.aa m mZ).ad)=true
 ht:i0 g (ln (ix r.aa m mZ).aj)=true
 hk:SmK (zcz r m g)
 hb:r.ao.length<=1048576
 hi:r.an.length<=1048576
def zCS {h r:ac}{m g:Int}(k:Kp h r)(b:i0 m (ln h.aa)=true)(hg:i0 g (ln (ix h.aa m mZ).ad)=true):LookF r m g:=by obtain⟨d,e⟩:=zcm k.shape (k.has b);have a:i0 g (ln (ix r.aa m mZ).ad)=true:=(by rw[zIE k.gs];exact hg);have c:i0 g (ln (ix r.aa m mZ).aj)=true:=(by rw[ln,e.2.2.2];exact a);exact⟨k.has b,a,c,d.2.2.2.2.2.2 _<|zbF c _,k.shape.1.2.2.1,k.shape.1.2.2.2⟩
@[simp] abbrev zj5 (h:ac)(b:List au)(m g c a:Int)(d:Bool):Bool:=pc (zcN h)
@[simp] abbrev zfk (h:ac)(b:List au)(m g page need:Int)(io:Bool):ac:=(lookOf h b m g page need io).1
@[simp] abbrev zj4 (h:ac)(b:List au)(m g c a:Int)(d:Bool):Int:=(lookOf h b m g c a d).2.1
@[simp] abbrev zg1 (h:ac)(b:List au)(m g c a:Int)(d:Bool):Bool:=(lookOf h b m g c a d).2.2
def zrF:LW
 |[.agg [.s (.sl .int) c,.s .mon d,.s .entry e,.s .entry f],.one<|.s .entry g,.one<|.i .i64 h,.one<|.i .i64 j,.one<|.i .i64 k,.one<|.i .i64 l,.one<|.b m]=>some (zj5 (⟨c,d,e,f⟩:ac) g h j k l m,[aH<|zfk (⟨c,d,e,f⟩:ac) g h j k l m,aI<|zj4 (⟨c,d,e,f⟩:ac) g h j k l m,aB<|zg1 (⟨c,d,e,f⟩:ac) g h j k l m])
 |_=>none
abbrev zOW (b:lM)(c:lN)(d:lE)(e:lE)(a:Int)(g:Int)(f:Int):Mon :=
 (ix (zgt (⟨b,c,d,e⟩:ac) a g f).aa a zk)
abbrev zOX (a:ac)(b c:Int)(d e:Int):Int :=
 (zjG (ix (ix a.aa b zk).ad c zF).av d e)
def zK6 (N:Nat)(a:Int)(b:lM)(c:lN)(d:lE)(e:lE):OA:=
 (some [aH (⟨b,c,d,e⟩:ac),aI a,aB true])
def zo5 (N:Nat)(l:Int)(m:Bool)(n:Int)(c:Int)(d:Int)(k:lM)(e:lN)(a:lE)(b:lE)(f:lM)(g:lN)(h:lE)(i:lE):OA:=
 let q:=(⟨n,l,c,d⟩:au); (p0 (λ(j:(Int×Int×lM×lN×lE×lE×lM×lN×lE×lE×Unit))=>zK6 N j.1 j.2.2.1 j.2.2.2.1 j.2.2.2.2.1 j.2.2.2.2.2.1) λp=>cond m (oN (zkU b q)<|p (c,d,k,e,a,zlz b q,f,g,h,i,()))<|oN (zkU a q)<|p (c,d,k,e,zlz a q,b,f,g,h,i,()))
def zri (N:Nat)(d:lM)(e:lN)(f:lE)(g:lE)(b:Int)(i:Int)(h:Int)(a:Int)(c:Int)(y:(Int×Bool×Int×Int×Int×Int×Int×Int×Int×lM×lN×lE×lE×lM×lN×lE×lE×Unit)->OA)(r:Bool)(s:Int)(t:Int)(u:Int)(v:Int)(k:Int)(l:lM)(m:lN)(n:lE)(p:lE):OA:=
 let D:=(⟨d,e,f,g⟩:ac);let w:=zgt D b i h;let x:=inb b<|ln w.aa;let j:=zOW d e f g b i h;let C:=ix j.aj a zfF;let A:=(ix j.ad a zF).av; (oN (zgZ D b i h)<|oN x<|oN x<|oN (inb a<|ln j.aj)<|oN x<|oN (inb a<|ln j.ad)<|oN x<|oN (zG8 C A j.ae c)<|oN (inb a<|ln j.aj)<|p0 (up w.aa b ({j with aj:=(up j.aj a<|zKk C A j.ae c)}:Mon)) (λq=>let B:=(ix q b zk).aj;let z:=ix B a zfF; (oN (inb b<|ln q)<|oN (inb a<|ln B)<|oN (zdC z c)<|y (c,r,s,t,u,v,k,(zsv z c).af,(zsv z c).ai,w.ag,q,w.ao,w.an,l,m,n,p,()))))
def zk9 (N:Nat)(d:Int)(e:Int)(c:Int)(n:Int)(p:Bool)(v:Int)(q:Int)(r:Int)(s:Int)(t:Int)(f:Int)(g:lM)(b:lN)(h:lE)(i:lE)(j:lM)(k:lN)(l:lE)(m:lE):OA:=
 let z:=(ix b d zk).aj;let x:=ix z e zfF;let w:=zsv x c; (oN (inb d<|ln b)<|oN (inb e<|ln z)<|oN (zdC x c)<|p0 (λ(a:(Int×Bool×Int×Int×Int×Int×Int×Int×Int×lM×lN×lE×lE×lM×lN×lE×lE×Unit))=>zo5 N a.1 a.2.1 a.2.2.1 a.2.2.2.2.2.2.2.1 a.2.2.2.2.2.2.2.2.1 a.2.2.2.2.2.2.2.2.2.1 a.2.2.2.2.2.2.2.2.2.2.1 a.2.2.2.2.2.2.2.2.2.2.2.1 a.2.2.2.2.2.2.2.2.2.2.2.2.1 a.2.2.2.2.2.2.2.2.2.2.2.2.2.1 a.2.2.2.2.2.2.2.2.2.2.2.2.2.2.1 a.2.2.2.2.2.2.2.2.2.2.2.2.2.2.2.1 a.2.2.2.2.2.2.2.2.2.2.2.2.2.2.2.2.1) (λu=>let y:=zri N g b h i d v n e c u p q r s t f j k l m; (cond (nB<|zC0 x c) y<|cond (ieq w.af<|-1) y<|oN (zcr w.ai n)<|cond (nB<|zdc w.ai n) y<|u (c,p,q,r,s,t,f,w.af,w.ai,g,b,h,i,j,k,l,m,()))))
def zrj (N:Nat)(g:Int)(a:ac)(h e f:Int)(l:lE)(n:Bool):OA:=
 let i:=zsx g h;let k:=zOX a g h e f;let m:=ix a.aa g zk;let s:=(ix m.ad h zF).av;let d:=zmz l i e;let j:=d.ai; (oN (inb g<|ln a.aa)<|oN (inb h<|ln m.ad)<|oN (zrK s e f)<|cond (nB<|zjH s e f) (some [aH a,aI<|-1,aB false])<|oN (zkV g h)<|cond (ieq f 2) (oN (inb g<|ln a.aa)<|oN (inb k<|ln m.ar)<|p0 (up a.aa g ({m with ar:=(up m.ar k true)}:Mon)) λp=>oN (zmA l i e)<|p0 (λ(c:(Int×Int×Int×Int×Bool×Int×Int×Int×Int×Int×Int×lM×lN×lE×lE×lM×lN×lE×lE×Unit))=>zk9 N c.1 c.2.1 c.2.2.1 c.2.2.2.1 c.2.2.2.2.1 c.2.2.2.2.2.1 c.2.2.2.2.2.2.1 c.2.2.2.2.2.2.2.1 c.2.2.2.2.2.2.2.2.1 c.2.2.2.2.2.2.2.2.2.1 c.2.2.2.2.2.2.2.2.2.2.1 c.2.2.2.2.2.2.2.2.2.2.2.1 c.2.2.2.2.2.2.2.2.2.2.2.2.1 c.2.2.2.2.2.2.2.2.2.2.2.2.2.1 c.2.2.2.2.2.2.2.2.2.2.2.2.2.2.1 c.2.2.2.2.2.2.2.2.2.2.2.2.2.2.2.1 c.2.2.2.2.2.2.2.2.2.2.2.2.2.2.2.2.1 c.2.2.2.2.2.2.2.2.2.2.2.2.2.2.2.2.2.1 c.2.2.2.2.2.2.2.2.2.2.2.2.2.2.2.2.2.2.1) λr=>cond (zjE l i e) (oN (zcr j f)<|cond (zdc j f) (some [aH ({a with aa:=p}:ac),aI d.ac,aB true])<|r (g,h,e,f,n,k,i,d.Tag,d.af,d.ac,j,a.ag,p,a.ao,a.an,[],[],[],[],()))<|r (g,h,e,f,n,k,i,d.Tag,d.af,d.ac,j,a.ag,p,a.ao,a.an,[],[],[],[],()))<|oN (zmA l i e)<|p0 (λ(b:(Int×Int×Int×Int×Bool×Int×Int×Int×Int×Int×Int×lM×lN×lE×lE×lM×lN×lE×lE×Unit))=>zk9 N b.1 b.2.1 b.2.2.1 b.2.2.2.1 b.2.2.2.2.1 b.2.2.2.2.2.1 b.2.2.2.2.2.2.1 b.2.2.2.2.2.2.2.1 b.2.2.2.2.2.2.2.2.1 b.2.2.2.2.2.2.2.2.2.1 b.2.2.2.2.2.2.2.2.2.2.1 b.2.2.2.2.2.2.2.2.2.2.2.1 b.2.2.2.2.2.2.2.2.2.2.2.2.1 b.2.2.2.2.2.2.2.2.2.2.2.2.2.1 b.2.2.2.2.2.2.2.2.2.2.2.2.2.2.1 b.2.2.2.2.2.2.2.2.2.2.2.2.2.2.2.1 b.2.2.2.2.2.2.2.2.2.2.2.2.2.2.2.2.1 b.2.2.2.2.2.2.2.2.2.2.2.2.2.2.2.2.2.1 b.2.2.2.2.2.2.2.2.2.2.2.2.2.2.2.2.2.2.1) λq=>cond (zjE l i e) (oN (zcr j f)<|cond (zdc j f) (some [aH a,aI d.ac,aB true])<|q (g,h,e,f,n,k,i,d.Tag,d.af,d.ac,j,a.ag,a.aa,a.ao,a.an,[],[],[],[],()))<|q (g,h,e,f,n,k,i,d.Tag,d.af,d.ac,j,a.ag,a.aa,a.ao,a.an,[],[],[],[],()))
def zpR (N:Nat)(a:ac)(g:lE)(b c:Int)(h d:Int)(i:Bool):OA:=
 let f:=zrj N b a c h d g i;let e:=wsub .i64 (ln (ix a.aa b zk).ad) 1; (oN (zdL a)<|cond (nB<|zdO a) (some [aH a,aI<|-1,aB false])<|oN (zM b 0<|wsub .i64 (ln a.aa) 1)<|cond (nB<|zi b 0<|wsub .i64 (ln a.aa) 1) (some [aH a,aI<|-1,aB false])<|oN (inb b<|ln a.aa)<|oN (zM c 0 e)<|cond (nB<|zi c 0 e) (some [aH a,aI<|-1,aB false])<|cond (ine d 1) (cond (ine d 2) (some [aH a,aI<|-1,aB false]) f) f)
def zrQ:=zu [(211,999999,{n:=0,tm:=[],lo:=[],ro:=[]}),(211,1007023,{n:=210,tm:=[(2,ti),(3,ti),(4,ti),(5,ti),(6,.b),(7,.lp 0 0),(14,.lp 1 0),(17,ti),(19,ti),(20,.lp 2 0)],lo:=[(0,[.sl 0 [],.sl 1 [],.sl 2 [],.sl 3 []]),(1,[.sl 4 [],.sl 5 [],.sl 6 [],.sl 7 []]),(2,[ti,ti,ti,ti])],ro:=[(0,.sl .int,true),(1,.mon,true),(2,.entry,true),(3,.entry,true),(4,.sl .int,true),(5,.mon,true),(6,.entry,true),(7,.entry,true)],kr:=1}),(211,1009011,{n:=210,tm:=[(4,ti),(6,.b),(7,.lp 0 0),(14,.lp 1 0),(19,ti),(20,.lp 2 0),(22,.lp 3 0)],lo:=[(0,[.sl 0 [],.sl 1 [],.sl 2 [],.sl 3 []]),(1,[.sl 4 [],.sl 5 [],.sl 6 [],.sl 7 []]),(2,[ti,ti,ti,ti]),(3,[ti,ti])],ro:=[(0,.sl .int,true),(1,.mon,true),(2,.entry,true),(3,.entry,true),(4,.sl .int,true),(5,.mon,true),(6,.entry,true),(7,.entry,true)],kr:=1}),(211,1005003,{n:=210,tm:=[(7,.lp 0 0),(14,.lp 1 0),(22,.lp 2 0)],lo:=[(0,[.sl 0 [],.sl 1 [],.sl 2 [],.sl 3 []]),(1,[.sl 4 [],.sl 5 [],.sl 6 [],.sl 7 []]),(2,[ti,ti])],ro:=[(0,.sl .int,true),(1,.mon,true),(2,.entry,true),(3,.entry,true),(4,.sl .int,true),(5,.mon,true),(6,.entry,true),(7,.entry,true)],kr:=1})]
def zMX (N:Nat)(a:ac)(b c:Int)(d e:Int)(f:Bool):zQy (cQ zmr zpi zYa zYS) zrQ N 12 211 [true,true,true,true,false,false,false,false,false,false] [(4,2)] 1 1 [[0],[1],[2],[4],[7]] .mon [aH a,aS .entry a.ao,aI b,aI c,aI d,aI e,aB f]=zpR N a a.ao b c d e f:=by kernel_rfl
def zMY (N:Nat)(a:ac)(b c:Int)(d e:Int)(f:Bool):zQy (cQ zmr zpi zYa zYS) zrQ N 12 211 [true,true,true,true,false,false,false,false,false,false] [(4,3)] 1 1 [[0],[1],[2],[4],[7]] .mon [aH a,aS .entry a.an,aI b,aI c,aI d,aI e,aB f]=zpR N a a.an b c d e f:=by kernel_rfl
def zCJ {N:Nat}{r:ac}{m g a:Int}{b:Bool}{z1 z2 z3 z4}(c:r.ao.length<=1048576)(d:r.an.length<=1048576) :
 zo5 N a b (ze0 m g) (zfo (zcz r m g) a).af (zfo (zcz r m g) a).ai r.ag r.aa r.ao r.an z1 z2 z3 z4=some (zM4<|zhM r m g a b):=by
 unfold zo5 oN
 conv=>zeta
 refine shr ?_;cases b
 .exact zdM rfl (j0 (zbD c) rfl)
 .exact j0 rfl (j0 (zbD d) rfl)
def zRD {N:Nat}{r:ac}{m g a b q:Int}{c:Bool}{R:OA}{r11}{u6 u7 u8 u9 u10 z1 z2 z3 z4}(A:LookAt r m g q b)(d:r11 (a,c,u6,u7,u8,u9,u10,(zfo (zcz (zd2 (A0 r m q b) m g a) m g) a).af,(zfo (zcz (zd2 (A0 r m q b) m g a) m g) a).ai,(zd2 (A0 r m q b) m g a).ag,(zd2 (A0 r m q b) m g a).aa,(zd2 (A0 r m q b) m g a).ao,(zd2 (A0 r m q b) m g a).an,z1,z2,z3,z4,())=R) :
 zri N r.ag r.aa r.ao r.an m q b g a r11 c u6 u7 u8 u9 u10 z1 z2 z3 z4=R:=by
 have M:=zCS A.kp A.hm A.hg;have F:=zCS (A.fill a) A.hm A.hg;unfold zri oN
 conv=>zeta
 exact j0 (zbD A.mend) (j0 (zI M.hm)<|j0 (zI M.hm)<|j0 (zI M.ht)<|j0 (zI M.hm)<|j0 (zI M.hg)<|j0 (zI M.hm)<|j0 (zbD M.hk)<|j0 (zI M.ht)<|shr<|j0 (zI F.hm)<|j0 (zI F.ht)<|j0 (zbD F.hk) d)
def z7H {r:ac}{m g a b:Int}(h:zkw (zcz r m g) a=false):zfa r m g a b=true:=by unfold zfa;rw[h];rfl
def z7I {r:ac}{m g a b:Int}(h:ieq (zfo (zcz r m g) a).af (-1)=true):zfa r m g a b=true:=by unfold zfa;rw[h];cases zkw (zcz r m g) a<;>rfl
def z7J {r:ac}{m g a b:Int}(h:enough (zfo (zcz r m g) a).ai b=false):zfa r m g a b=true:=by unfold zfa;rw[h];cases zkw (zcz r m g) a<;>cases ieq (zfo (zcz r m g) a).af (-1)<;>rfl
def z7K {r:ac}{m g a b:Int}(c:zkw (zcz r m g) a=true)(d:ieq (zfo (zcz r m g) a).af (-1)=false)(e:enough (zfo (zcz r m g) a).ai b=true):zfa r m g a b=false:=by unfold zfa;rw[c,d,e];rfl
def zMR {r:ac}{m g a b q:Int}{c:Bool}(h:zfa r m g a b=true):(cond (zfa r m g a b) (zhM (zd2 (A0 r m q b) m g a) m g a c)<|zhM r m g a c)=zhM (zd2 (A0 r m q b) m g a) m g a c:=by rw[h];rfl
def z6V {r:ac}{m g a b q:Int}{c:Bool}(h:zfa r m g a b=false):(cond (zfa r m g a b) (zhM (zd2 (A0 r m q b) m g a) m g a c)<|zhM r m g a c)=zhM r m g a c:=by rw[h];rfl
def zCK {N:Nat}{r:ac}{m g a b q:Int}{f:Bool}{u7 u8 u9 u10 z1 z2 z3 z4}(A:LookAt r m g q b) :
 zk9 N m g a b f q (ze0 m g) u7 u8 u9 u10 r.ag r.aa r.ao r.an z1 z2 z3 z4=some (zM4<|cond (zfa r m g a b) (zhM (zd2 (A0 r m q b) m g a) m g a f)<|zhM r m g a f):=by
 have M:=zCS ⟨A.fit.1,rfl⟩ A.hm A.hg;have F:=zCS (A.fill a) A.hm A.hg;unfold zk9 oN nB
 conv=>zeta
 refine j0 (zI M.hm) (j0 (zI M.ht)<|j0 (zbD M.hk)<|shr<|brN (λc=>?_) λc=>br (λd=>?_) λd=>j0 rfl (brN (λe=>?_) λe=>?_))
 .rw [zMR<|z7H c];exact zRD A (zCJ (r:=zd2 (A0 r m q b) m g a) (m:=m) (g:=g) F.hb F.hi)
 .rw [zMR<|z7I d];exact zRD A (zCJ (r:=zd2 (A0 r m q b) m g a) (m:=m) (g:=g) F.hb F.hi)
 .rw [zMR<|z7J e];exact zRD A (zCJ (r:=zd2 (A0 r m q b) m g a) (m:=m) (g:=g) F.hb F.hi)
 .rw [z6V<|z7K c d e];exact zCJ (r:=r) (m:=m) (g:=g) M.hb M.hi
def zV5 {b:List au}{m g a c:Int}(h:(zqP b m g a).isSome=false):zhy b m g a c=false:=by unfold zhy;rw[h];rfl
def zCN {b:List au}{m g a c:Int}{x:Bool}(d:(zqP b m g a).isSome=true)(h:enough ((zqP b m g a).getD ⟨0,0,0,0⟩).ai c=x):zhy b m g a c=x:=by unfold zhy;rw[d,h];rfl
def zCR {r:ac}{b:List au}{m g a c q:Int}{d:Bool}(h:zhy b m g a c=false):zhL r b m g a c q d=bif zfa r m g a c then zhM (zd2 (A0 r m q c) m g a) m g a d else zhM r m g a d:=by unfold zhL;rw[h];rfl
def zWi {r:ac}{b:List au}{m g a c q:Int}{d:Bool}(h:zhy b m g a c=true):zhL r b m g a c q d=(r,((zqP b m g a).getD ⟨0,0,0,0⟩).ac,true):=by unfold zhL;rw[h];rfl
def zSN {h:ac}{b:List au}{m g c a:Int}{d:Bool}(e:zb8 h m g c a=true):lookOf h b m g c a d=zhL (cond (ieq a 2) (zbJ h m<|zcF (zcU h m g) c a) h) b m g c a (zcF (zcU h m g) c a) d:=by unfold lookOf;rw[e];rfl
def zZQ {N:Nat}{r:ac}{b:List au}{m g c a:Int}{f:Bool}(p:SmH r)(hg:zbZ r m g=true)(k:zjB a=true) :
 zrj N m r g c a b f=some (zM4 (lookOf r b m g c a f)):=by
 obtain⟨q,h,l⟩:=zdN hg;unfold zrj oN nB
 conv=>zeta
 refine j0 (zI h) (j0 (zI l) (j0 rfl (brN (fun j=>?_) (fun j=>j0 rfl ?_))))
 .have:zb8 r m g c a=false:=by
   unfold zb8;rw[hg,k,show zfD (zcU r m g) c a=false from j];rfl
  rw[zne this];rfl
 .have hl:zb8 r m g c a=true:=by
   unfold zb8;rw[hg,k,show zfD (zcU r m g) c a=true from j];rfl
  obtain⟨A,B⟩:=zOs p hl;rw[zSN hl];have n:i0 (zcF (zcU r m g) c a) (ln (ix r.aa m mZ).ar)=true:=zdp (zcm A.fit.1 h).2.2.2.1 A.hq;refine br (fun i=>?_) (fun i=>?_)
  .rw [i]
   show _=some (zM4 (zhL (zbJ r m (zcF (zcU r m g) c a)) b m g c a (zcF (zcU r m g) c a) f))
   refine j0 (zI h) (j0 (zI n) (shr (j0 rfl (shr (br (fun d=>j0 rfl (br (fun e=>?_) (fun e=>?_))) (fun d=>?_))))))
   .rw [zWi (zCN d e)];rfl
   .rw [zCR (zCN d e)];exact zCK (r:=zbJ r m (zcF (zcU r m g) c a)) B
   .rw [zCR (zV5 d)];exact zCK (r:=zbJ r m (zcF (zcU r m g) c a)) B
  .rw [i]
   show _=some (zM4 (zhL r b m g c a (zcF (zcU r m g) c a) f))
   refine j0 rfl (shr (br (fun d=>j0 rfl (br (fun e=>?_) (fun e=>?_))) (fun d=>?_)))
   .rw [zWi (zCN d e)];rfl
   .rw [zCR (zCN d e)];exact zCK A
   .rw [zCR (zV5 d)];exact zCK A
def zPZ (a:ac)(f:List au)(b c:Int)(e d:Int)(g:Bool)(t:zbV big [aH a,aS .entry f,aI b,aI c,aI e,aI d,aB g])(r:zj5 a f b c e d g=true):∃N,zpR N a f b c e d g=some [aH<|zfk a f b c e d g,aI<|zj4 a f b c e d g,aB<|zg1 a f b c e d g]:=by
 have j:=(zU a).1 (zN.1 r);refine⟨0,?_⟩;show _=some (zM4<|lookOf a f b c e d g);unfold zpR oN nB;conv=>zeta
 refine j0 rfl (brN (λk=>?_) λk=>j0 rfl ?_);{rw [zne<|zBG<|z6O k];rfl};rw[show zi b 0 (wsub .i64 (ln a.aa) 1)=i0 b (ln a.aa) from zpN j.2.1.1 b];refine brN (λi=>?_) (λi=>j0 (zI i) (j0 rfl ?_));{rw [zne<|zBG<|z6P i];rfl};have s:(ix a.aa b mZ).ad.length<=1048576:=(j.2.1.2 _<|zbF i _).2.2.2.1.1;rw[show zi c 0 (wsub .i64 (ln (ix a.aa b zk).ad) 1)=i0 c (ln (ix a.aa b mZ).ad) from zpN s c];refine brN (λl=>?_) (λl=>?_);{rw [zne<|zBG<|z6Q l];rfl};have hg:=z6R k i l;have p:∀{n:Int},zjB n=false->zb8 a b c e n=false:=λ{n} h=>(by unfold zb8;rw[hg,h];rfl);rw[zwy,zwy];cases m:ieq d 1;{cases q:ieq d 2;{have:zjB d=false:=(by unfold zjB;rw[m,q];rfl);rw[zne<|p this];rfl};{exact zZQ j hg (by unfold zjB;rw[m,q];rfl)}};{exact zZQ j hg (by unfold zjB;rw[m];rfl)}
def zJm:zef Tryz.prog 211 [true,true,true,true,false,false,false,false,false,false] (some (1,1,[[0],[1],[2],[4],[7]])) zrF:=by refine zLn (kt:=.mon) (zfU zh2 zC zce zxt) (ziq (by kernel_rfl)) ?_;intro p s x f i w v h;have t:=zit v;have g:p=[(4,2)]\/p=[(4,3)]:=(by rw[show zhF 211=[[(4,2)],[(4,3)]] from by kernel_rfl]at f;simpa using f);unfold zrF at h;split at h;{rename_i a b c d r j k l m n;obtain⟨u,rfl⟩:=zeo h;obtain⟨N,q⟩:=zPZ (⟨a,b,c,d⟩:ac) r j k l m n t u;refine⟨⟨_,rfl⟩,rfl,zrQ,N,12,?_⟩;rcases g with rfl|rfl;{have e:=i 4 2 (by simp);simp only[zx,jV,AV.cvs] at e;cases e;exact(zMX N (⟨a,b,c,d⟩:ac) j k l m n).trans q};{have e:=i 4 3 (by simp);simp only[zx,jV,AV.cvs] at e;cases e;exact(zMY N (⟨a,b,c,d⟩:ac) j k l m n).trans q}};{cases h}
def z3D:zfn:=[(211,[true,true,true,true,false,false,false,false,false,false],some (1,1,[[0],[1],[2],[4],[7]]),zrF)]++zYS
def ziV:zej z3D:=zm5 zxt (by
 intro x a;simp only[qG,qO,or_false]at a;rcases a with rfl
 .exact zJm)
def gOf (h:ac)(m g:Int):ah:=ix (ix h.aa m mZ).ad g gZ
def zkI (h:ac)(m g:Int)(x:ah):ac:={h with aa:=up h.aa m {ix h.aa m mZ with ad:=up (ix h.aa m mZ).ad g x}}
def zmu (h:ac)(m g:Int)(x:ah)(w:Bool):ac×Int×Bool:=lookOf h h.ao m g (zbh<|C0 x) (zcb w) false
def zjw (L:ac×Int×Bool)(m g:Int)(x:ah)(w:Bool):ac :=
 bif L.2.2 then (cond w (zkI {L.1 with ag:=zbM L.1.ag L.2.1 (zdl<|C0 x) x.A} m g<|zcf x)<|zkI L.1 m g<|loaded x<|cellAt L.1.ag L.2.1<|zdl<|C0 x)
 else zkI L.1 m g (stopped x<|zqN (zbh<|C0 x) w)
def owned (h:ac)(m:Int):ac:=bif ilt (ix h.aa m mZ).Own 1000000000 then {h with aa:=up h.aa m {ix h.aa m mZ with Own:=zO .i64 (ix h.aa m mZ).Own 1}} else h
def znS (h:ac)(m n:Int):ac:=bif ilt (ln (ix h.aa m mZ).Outs) 40 then {h with aa:=up h.aa m {ix h.aa m mZ with Outs:=ap (ix h.aa m mZ).Outs [n]}} else h
def zgA (h:ac)(m:Int)(x:ah)(w:Int):ac:=bif (cond (ine w 6) (ieq (zyo (ix h.aa m mZ).aq x.Ctl.aq<|zxu w) 2) false) then owned h m else h
def zgz (h:ac)(m:Int)(x:ah)(w:Int):ac:=bif (cond (zkj x.Ctl.aq w) (ieq w 5) false) then znS h m (zcv x.aw x.Pc).X else h
def zvf (h:ac)(m g:Int)(x:ah)(w:Int):ac:=zkI (zgz (zgA h m x w) m x w) m g (zjx x x.Ctl.aq w)
def zTP (h:ac)(m g:Int)(x:ah)(w:Int):ac×Bool :=
 bif ieq w 0 then (h,false) else (bif ieq w 1 then (zkI h m g<|interrupted x,true) else (bif ieq w 2 then (zkI h m g<|plainly x,true) else
  (cond (cond (ieq w 3) true<|ieq w 4) (zjw (zmu h m g x<|ieq w 4) m g x<|ieq w 4,true) (zvf h m g x w,true))))
def zcu (h:ac)(m g:Int):ac×Bool:=bif zbZ h m g then zTP h m g (gOf h m g) (zbc<|gOf h m g) else (h,false)
def zfW (x:ac×Bool):LA:=[.agg<|zbn x.1,.one<|.b x.2]
def zoW {h:ac}{m g:Int}(b:SmH h)(a:i0 m (ln h.aa)=true)(hg:i0 g (ln (ix h.aa m mZ).ad)=true):SmG (gOf h m g):=(b.2.1.2 _<|zbF a _).2.2.2.1.2 _ (zbF hg _)
def zYH {h:ac}{m g:Int}{x:ah}(c:Shape h)(d:i0 m (ln h.aa)=true)(e:SmG x):Shape (zkI h m g x):=by obtain⟨a,b⟩:=zcm c d;exact zil c ⟨a.1,a.2.1,a.2.2.1,zC4 a.2.2.2.1 e,a.2.2.2.2⟩ ⟨b.1,b.2.1,b.2.2.1,by simpa using b.2.2.2⟩
def zJS {h:ac}{m:Int}(b:i0 m (ln h.aa)=true)(x:Mon):ix (up h.aa m x) m mZ=x:=by obtain⟨k,rfl,a⟩:=zdZ (n:=h.aa.length) b;exact zd9 a _ _
@[simp] abbrev zcD (h:ac)(m g:Int):ac:=(zcu h m g).1
@[simp] abbrev zcE (h:ac)(m g:Int):Bool:=(zcu h m g).2
def z5e {a:Type}{l:List a}{x:a}(h:ilt (ln l) 40=true):few (ln<|ap l [x])=true:=by have:=qF h;simp only[ln] at this;exact zgI (by simp[ap];omega)
def zWI {h:ac}{m:Int}{x:ah}{w:Int}(a:(cond (zkj x.Ctl.aq w) (ieq w 5) false)=false):zgz h m x w=h:=by unfold zgz;rw[a];rfl
def zOS {h:ac}{m:Int}{x:ah}{w:Int}(a:ilt (ln (ix h.aa m mZ).Outs) 40=false):zgz h m x w=h:=by unfold zgz znS;rw[a];cases (cond (zkj x.Ctl.aq w) (ieq w 5) false)<;>rfl
def zTX {h:ac}{m:Int}{x:ah}{w:Int}(a:zkj x.Ctl.aq w=true)(b:ieq w 5=true)(c:ilt (ln (ix h.aa m mZ).Outs) 40=true):zgz h m x w={h with aa:=up h.aa m {ix h.aa m mZ with Outs:=ap (ix h.aa m mZ).Outs [(zcv x.aw x.Pc).X]}}:=by unfold zgz znS;rw[a,b,c];rfl
def z1l {h:ac}{m:Int}{x:ah}{w:Int}(a:zkj x.Ctl.aq w=false):zgz h m x w=h:=zWI (by rw[a];rfl)
def zKL {h:ac}{m:Int}{x:ah}{w:Int}(a:ieq w 5=false):zgz h m x w=h:=zWI (by rw[a];cases zkj x.Ctl.aq w<;>rfl)
def zZ9 (a:Int):(cond (ieq a a) true false)=true:=by rw[zda];rfl
def zlM {h:ac}{m g:Int}(a:zbZ h m g=false):zcu h m g=(h,false):=by unfold zcu;rw[a];rfl
def zjv {h:ac}{m g:Int}(a:zbZ h m g=true):zcu h m g=zTP h m g (gOf h m g) (zbc<|gOf h m g):=by unfold zcu;rw[a];rfl
def zlN {a b:Bool}(h:(cond a b false)=true):a=true/\b=true:=by cases a;{cases h};{exact⟨rfl,h⟩}
def zio {a b:Bool}(c:a=true)(d:b=true):(cond a b false)=true:=by rw[c];exact d
def zWL {h:ac}{m:Int}{x:ah}{w:Int}(b:ine w 6=true)(a:ieq (zyo (ix h.aa m mZ).aq x.Ctl.aq<|zxu w) 2=true)(c:ilt (ix h.aa m mZ).Own 1000000000=true):zgA h m x w={h with aa:=up h.aa m {ix h.aa m mZ with Own:=zO .i64 (ix h.aa m mZ).Own 1}}:=by unfold zgA owned;rw[b,a,c];rfl
def zWJ {h:ac}{m:Int}{x:ah}{w:Int}(a:ieq (zyo (ix h.aa m mZ).aq x.Ctl.aq<|zxu w) 2=false):zgA h m x w=h:=by unfold zgA;rw[a];cases ine w 6<;>rfl
def zWK {h:ac}{m:Int}{x:ah}{w:Int}(a:ilt (ix h.aa m mZ).Own 1000000000=false):zgA h m x w=h:=by unfold zgA owned;rw[a];cases (cond (ine w 6) (ieq (zyo (ix h.aa m mZ).aq x.Ctl.aq<|zxu w) 2) false)<;>rfl
def z7N {h:ac}{m:Int}{x:ah}:zgA h m x 6=h:=rfl
def zm6 {h a:ac}{m g:Int}{x:ah}{w:Int}(e:zgA h m x w=a):zvf h m g x w=zkI (zgz a m x w) m g (zjx x x.Ctl.aq w):=by unfold zvf;rw[e]
def z3G (x:ah):ieq (zbc x) 0=true\/ieq (zbc x) 1=true\/ieq (zbc x) 2=true\/ieq (zbc x) 3=true\/ieq (zbc x) 4=true\/ieq (zbc x) 5=true\/ieq (zbc x) 6=true\/ieq (zbc x) 7=true:=by cases a:ieq (zbc x) 0;{cases b:ieq (zbc x) 1;{cases c:ieq (zbc x) 2;{cases d:ieq (zbc x) 3;{cases e:ieq (zbc x) 4;{cases f:ieq (zbc x) 5;{cases g:ieq (zbc x) 6;{exact .inr (.inr<|.inr<|.inr<|.inr<|.inr<|.inr<|z9G x a b c d e f g)};{exact .inr (.inr<|.inr<|.inr<|.inr<|.inr (.inl rfl))}};{exact .inr (.inr<|.inr<|.inr<|.inr (.inl rfl))}};{exact .inr (.inr<|.inr<|.inr (.inl rfl))}};{exact .inr (.inr<|.inr (.inl rfl))}};{exact .inr (.inr (.inl rfl))}};{exact .inr (.inl rfl)}};{exact .inl rfl}
abbrev zzR (x:ah):Bool:=bif zbO x then ieq (zbc x) 0 else false
def zn9:LW
 |[.agg [.s .ins c,.i .i64 d,.i .i64 e,.s .slot f,.s .slot g,.i .i64 h,.i .i64 j,.b k,.i .i64 l,.i .i64 m,.i .i64 n,.b o,.i .i64 p,.b q,.s .int r]]=>some (zzR (⟨c,d,e,f,g,⟨h,j,k⟩,l,⟨m,n,o,p⟩,q,r⟩:ah),[.one<|.i .i64 0])
 |_=>none
def zDs:vM 193 zn9:=by refine⟨zcl.1,λw b g j a h=>?_⟩;unfold zn9 at h;split at h;{obtain⟨f,rfl⟩:=zeo h;obtain⟨d,e⟩:=zlN f;exact zcl.2 w _ g _ a (congr (congrArg (λc v=>some (c,[AV.one<|CV.i .i64 v])) d) (qF e))};{cases h}
def z6o:zW:=[(193,zn9)]++zmr
def zXa:zL z6o:=zh zDs zh2
@[simp] abbrev zuV (h:ac)(m g:Int):Bool:=bif zdh h m g then ieq (zbc<|gOf h m g) 0 else false
def zDR:Run:=rF3 dH dI dI λb c d=>(zuV b c d,[aH<|zcD b c d,aB<|zcE b c d])
def ztR (N:Nat)(d:ac)(b c:Int):OA:=
 let a:=zo d;let e:=(ix a.aa b zk).ad; (oN (zbu d)<|oN (zdh a b c)<|cond (nB<|ziS a b c) (some [aH a,aB false])<|oN (inb b<|ln a.aa)<|oN (inb c<|ln e)<|oN (zzR<|ix e c zF)<|some [aH a,aB false])
abbrev zzS (x:ah):Bool:=bif zbO x then ieq (zbc x) 1 else false
def zoa:LW
 |[.agg [.s .ins c,.i .i64 d,.i .i64 e,.s .slot f,.s .slot g,.i .i64 h,.i .i64 j,.b k,.i .i64 l,.i .i64 m,.i .i64 n,.b o,.i .i64 p,.b q,.s .int r]]=>some (zzS (⟨c,d,e,f,g,⟨h,j,k⟩,l,⟨m,n,o,p⟩,q,r⟩:ah),[.one<|.i .i64 1])
 |_=>none
def zDt:vM 193 zoa:=by refine⟨zcl.1,λw b g j a h=>?_⟩;unfold zoa at h;split at h;{obtain⟨f,rfl⟩:=zeo h;obtain⟨d,e⟩:=zlN f;exact zcl.2 w _ g _ a (congr (congrArg (λc v=>some (c,[AV.one<|CV.i .i64 v])) d) (qF e))};{cases h}
def z6p:zW:=[(193,zoa)]++zmr
def zXb:zL z6p:=zh zDt zh2
@[simp] abbrev zuW (h:ac)(m g:Int):Bool:=bif zdh h m g then ieq (zbc<|gOf h m g) 1 else false
def zDS:Run:=rF3 dH dI dI λb c d=>(zuW b c d,[aH<|zcD b c d,aB<|zcE b c d])
def ztS (N:Nat)(f:ac)(b c:Int):OA:=
 let a:=zo f;let d:=ix a.aa b zk;let e:=ix d.ad c zF; (oN (zbu f)<|oN (zdh a b c)<|cond (nB<|ziS a b c) (some [aH a,aB false])<|oN (inb b<|ln a.aa)<|oN (inb c<|ln d.ad)<|oN (zzS e)<|oN (inb b<|ln a.aa)<|oN (zbj e)<|oN (inb c<|ln d.ad)<|p0 (up a.aa b ({d with ad:=(up d.ad c<|zjF e)}:Mon)) λg=>some [aH ({a with aa:=g}:ac),aB true])
abbrev zzT (x:ah):Bool:=bif zbO x then ieq (zbc x) 2 else false
def zob:LW
 |[.agg [.s .ins c,.i .i64 d,.i .i64 e,.s .slot f,.s .slot g,.i .i64 h,.i .i64 j,.b k,.i .i64 l,.i .i64 m,.i .i64 n,.b o,.i .i64 p,.b q,.s .int r]]=>some (zzT (⟨c,d,e,f,g,⟨h,j,k⟩,l,⟨m,n,o,p⟩,q,r⟩:ah),[.one<|.i .i64 2])
 |_=>none
def zDu:vM 193 zob:=by refine⟨zcl.1,λw b g j a h=>?_⟩;unfold zob at h;split at h;{obtain⟨f,rfl⟩:=zeo h;obtain⟨d,e⟩:=zlN f;exact zcl.2 w _ g _ a (congr (congrArg (λc v=>some (c,[AV.one<|CV.i .i64 v])) d) (qF e))};{cases h}
def z6q:zW:=[(193,zob)]++zmr
def zXc:zL z6q:=zh zDu zh2
@[simp] abbrev zuX (h:ac)(m g:Int):Bool:=bif zdh h m g then ieq (zbc<|gOf h m g) 2 else false
def zDT:Run:=rF3 dH dI dI λb c d=>(zuX b c d,[aH<|zcD b c d,aB<|zcE b c d])
def ztT (N:Nat)(f:ac)(b c:Int):OA:=
 let a:=zo f;let d:=ix a.aa b zk;let e:=ix d.ad c zF; (oN (zbu f)<|oN (zdh a b c)<|cond (nB<|ziS a b c) (some [aH a,aB false])<|oN (inb b<|ln a.aa)<|oN (inb c<|ln d.ad)<|oN (zzT e)<|oN (inb b<|ln a.aa)<|oN (zbj e)<|oN (inb c<|ln d.ad)<|p0 (up a.aa b ({d with ad:=(up d.ad c<|zq8 e)}:Mon)) λg=>some [aH ({a with aa:=g}:ac),aB true])
abbrev zzU (x:ah):Bool:=bif zbO x then ieq (zbc x) 3 else false
def zoc:LW
 |[.agg [.s .ins c,.i .i64 d,.i .i64 e,.s .slot f,.s .slot g,.i .i64 h,.i .i64 j,.b k,.i .i64 l,.i .i64 m,.i .i64 n,.b o,.i .i64 p,.b q,.s .int r]]=>some (zzU (⟨c,d,e,f,g,⟨h,j,k⟩,l,⟨m,n,o,p⟩,q,r⟩:ah),[.one<|.i .i64 3])
 |_=>none
def zDv:vM 193 zoc:=by refine⟨zcl.1,λw b g j a h=>?_⟩;unfold zoc at h;split at h;{obtain⟨f,rfl⟩:=zeo h;obtain⟨d,e⟩:=zlN f;exact zcl.2 w _ g _ a (congr (congrArg (λc v=>some (c,[AV.one<|CV.i .i64 v])) d) (qF e))};{cases h}
def z6r:zW:=[(193,zoc)]++zmr
def zXd:zL z6r:=zh zDv zh2
@[simp] abbrev zuY (h:ac)(m g:Int):Bool:=bif zdh h m g then ieq (zbc<|gOf h m g) 3 else false
def zDU:Run:=rF3 dH dI dI λb c d=>(zuY b c d,[aH<|zcD b c d,aB<|zcE b c d])
def ztU (N:Nat)(m:ac)(a b:Int):OA:=
 let c:=zo m;let n:=(ix c.aa a zk).ad;let h:=ix n b zF;let f:=ziY h;let g:=zcW f;let l:=zj4 c c.ao a b g (zfy false) false;let d:=zfk c c.ao a b g (zfy false) false;let e:=ix d.aa a zk;let j:=ix e.ad b zF;let i:=({h with aw:=j.aw,az:=j.az,av:=j.av,aC:=j.aC}:ah); (oN (zbu m)<|oN (zdh c a b)<|cond (nB<|ziS c a b) (some [aH c,aB false])<|oN (inb a<|ln c.aa)<|oN (inb b<|ln n)<|oN (zzU h)<|oN (zbO h)<|oN (zdy f)<|oN (zsd false)<|oN (zj5 c c.ao a b g (zfy false) false)<|cond (nB<|zg1 c c.ao a b g (zfy false) false) (oN (inb a<|ln d.aa)<|oN (zdy f)<|oN (zjD g false)<|oN (zet i<|zfg g false)<|oN (inb b<|ln e.ad)<|p0 (up d.aa a ({e with ad:=(up e.ad b<|zdW i<|zfg g false)}:Mon)) λk=>some [aH ({d with aa:=k}:ac),aB true])<|oN (inb a<|ln d.aa)<|oN (zdy f)<|oN (zhU d.ag l<|zeA f)<|oN (zyx i<|zmW d.ag l<|zeA f)<|oN (inb b<|ln e.ad)<|p0 (up d.aa a ({e with ad:=(up e.ad b<|ztB i<|zmW d.ag l<|zeA f)}:Mon)) λk=>some [aH ({d with aa:=k}:ac),aB true])
abbrev zzV (x:ah):Bool:=bif zbO x then ieq (zbc x) 4 else false
def zod:LW
 |[.agg [.s .ins c,.i .i64 d,.i .i64 e,.s .slot f,.s .slot g,.i .i64 h,.i .i64 j,.b k,.i .i64 l,.i .i64 m,.i .i64 n,.b o,.i .i64 p,.b q,.s .int r]]=>some (zzV (⟨c,d,e,f,g,⟨h,j,k⟩,l,⟨m,n,o,p⟩,q,r⟩:ah),[.one<|.i .i64 4])
 |_=>none
def zDw:vM 193 zod:=by refine⟨zcl.1,λw b g j a h=>?_⟩;unfold zod at h;split at h;{obtain⟨f,rfl⟩:=zeo h;obtain⟨d,e⟩:=zlN f;exact zcl.2 w _ g _ a (congr (congrArg (λc v=>some (c,[AV.one<|CV.i .i64 v])) d) (qF e))};{cases h}
def z6s:zW:=[(193,zod)]++zmr
def zXe:zL z6s:=zh zDw zh2
@[simp] abbrev zuZ (h:ac)(m g:Int):Bool:=bif zdh h m g then ieq (zbc<|gOf h m g) 4 else false
def zDV:Run:=rF3 dH dI dI λb c d=>(zuZ b c d,[aH<|zcD b c d,aB<|zcE b c d])
def ztV (N:Nat)(l:ac)(a b:Int):OA:=
 let c:=zo l;let n:=(ix c.aa a zk).ad;let g:=ix n b zF;let h:=ziY g;let f:=zcW h;let m:=zj4 c c.ao a b f (zfy true) false;let d:=zfk c c.ao a b f (zfy true) false;let e:=ix d.aa a zk;let j:=ix e.ad b zF;let i:=({g with aw:=j.aw,az:=j.az,av:=j.av,aC:=j.aC}:ah); (oN (zbu l)<|oN (zdh c a b)<|cond (nB<|ziS c a b) (some [aH c,aB false])<|oN (inb a<|ln c.aa)<|oN (inb b<|ln n)<|oN (zzV g)<|oN (zbO g)<|oN (zdy h)<|oN (zsd true)<|oN (zj5 c c.ao a b f (zfy true) false)<|cond (nB<|zg1 c c.ao a b f (zfy true) false) (oN (inb a<|ln d.aa)<|oN (zdy h)<|oN (zjD f true)<|oN (zet i<|zfg f true)<|oN (inb b<|ln e.ad)<|p0 (up d.aa a ({e with ad:=(up e.ad b<|zdW i<|zfg f true)}:Mon)) λk=>some [aH ({d with aa:=k}:ac),aB true])<|oN (zdy h)<|oN (zkW d.ag m (zeA h) g.A)<|oN (inb a<|ln d.aa)<|oN (zbj i)<|oN (inb b<|ln e.ad)<|p0 (up d.aa a ({e with ad:=(up e.ad b<|zeM i)}:Mon)) λk=>some [aH ({d with ag:=(zjl d.ag m (zeA h) g.A),aa:=k}:ac),aB true])
abbrev zzW (x:ah):Bool:=bif zbO x then ieq (zbc x) 5 else false
def zoe:LW
 |[.agg [.s .ins c,.i .i64 d,.i .i64 e,.s .slot f,.s .slot g,.i .i64 h,.i .i64 j,.b k,.i .i64 l,.i .i64 m,.i .i64 n,.b o,.i .i64 p,.b q,.s .int r]]=>some (zzW (⟨c,d,e,f,g,⟨h,j,k⟩,l,⟨m,n,o,p⟩,q,r⟩:ah),[.one<|.i .i64 5])
 |_=>none
def zDx:vM 193 zoe:=by refine⟨zcl.1,λw b g j a h=>?_⟩;unfold zoe at h;split at h;{obtain⟨f,rfl⟩:=zeo h;obtain⟨d,e⟩:=zlN f;exact zcl.2 w _ g _ a (congr (congrArg (λc v=>some (c,[AV.one<|CV.i .i64 v])) d) (qF e))};{cases h}
def z6t:zW:=[(193,zoe)]++zmr
def zXf:zL z6t:=zh zDx zh2
@[simp] abbrev zu0 (h:ac)(m g:Int):Bool:=bif zdh h m g then ieq (zbc<|gOf h m g) 5 else false
def zDW:Run:=rF3 dH dI dI λb c d=>(zu0 b c d,[aH<|zcD b c d,aB<|zcE b c d])
def ztW (N:Nat)(x:ac)(a e:Int):OA:=
 let d:=zo x;let f:=inb a<|ln d.aa;let g:=ix d.aa a zk;let j:=inb e<|ln g.ad;let c:=ix g.ad e zF;let w:=ap g.Outs [(zfX c.aw c.Pc).X];let s:=up d.aa a ({g with Outs:=w}:Mon);let h:=c.Ctl.aq;let v:=up d.aa a ({g with ad:=(up g.ad e<|zci c h 5)}:Mon); (oN (zbu x)<|oN (zdh d a e)<|cond (nB<|ziS d a e) (some [aH d,aB false])<|oN f<|oN j<|oN (zzW c)<|oN f<|oN (zqm g.aq h 1)<|cond (ieq (zni g.aq h 1) 2) (oN f<|cond (ilt g.Own 1000000000) (oN f<|oN f<|p0 (up d.aa a ({g with Own:=(zO .i64 g.Own 1)}:Mon)) (λb=>let k:=inb a<|ln b;let l:=ix b a zk;let q:=ix l.ad e zF;let t:=ap l.Outs [(zfX q.aw c.Pc).X];let u:=({c with aw:=q.aw,az:=q.az,av:=q.av,aC:=q.aC}:ah);let r:=up b a ({l with ad:=(up l.ad e<|zci u h 5)}:Mon); (oN (zee u h 5)<|cond (zdG u h 5) (oN k<|cond (ilt (ln l.Outs) 40) (oN k<|oN (zfO q.aw c.Pc)<|oN (few<|ln t)<|oN k<|oN (cond (ieq a a) true false)<|p0 (up b a ({l with Outs:=t}:Mon)) (λi=>let m:=ix i a zk; (oN (inb a<|ln i)<|oN (inb e<|ln m.ad)<|p0 (up i a ({m with ad:=(up m.ad e<|zci u h 5)}:Mon)) λy=>some [aH ({d with aa:=y}:ac),aB true])))<|oN k<|oN (inb e<|ln l.ad)<|p0 r λi=>some [aH ({d with aa:=i}:ac),aB true])<|oN k<|oN (inb e<|ln l.ad)<|p0 r λi=>some [aH ({d with aa:=i}:ac),aB true])))<|oN (zee c h 5)<|cond (zdG c h 5) (oN f<|cond (ilt (ln g.Outs) 40) (oN f<|oN (zfO c.aw c.Pc)<|oN (few<|ln w)<|oN f<|oN (cond (ieq a a) true false)<|p0 s (λb=>let n:=ix b a zk; (oN (inb a<|ln b)<|oN (inb e<|ln n.ad)<|p0 (up b a ({n with ad:=(up n.ad e<|zci c h 5)}:Mon)) λi=>some [aH ({d with aa:=i}:ac),aB true])))<|oN f<|oN j<|p0 v λb=>some [aH ({d with aa:=b}:ac),aB true])<|oN f<|oN j<|p0 v λb=>some [aH ({d with aa:=b}:ac),aB true])<|oN (zee c h 5)<|cond (zdG c h 5) (oN f<|cond (ilt (ln g.Outs) 40) (oN f<|oN (zfO c.aw c.Pc)<|oN (few<|ln w)<|oN f<|oN (cond (ieq a a) true false)<|p0 s (λb=>let p:=ix b a zk; (oN (inb a<|ln b)<|oN (inb e<|ln p.ad)<|p0 (up b a ({p with ad:=(up p.ad e<|zci c h 5)}:Mon)) λi=>some [aH ({d with aa:=i}:ac),aB true])))<|oN f<|oN j<|p0 v λb=>some [aH ({d with aa:=b}:ac),aB true])<|oN f<|oN j<|p0 v λb=>some [aH ({d with aa:=b}:ac),aB true])
abbrev zzX (x:ah):Bool:=bif zbO x then ieq (zbc x) 6 else false
def zof:LW
 |[.agg [.s .ins c,.i .i64 d,.i .i64 e,.s .slot f,.s .slot g,.i .i64 h,.i .i64 j,.b k,.i .i64 l,.i .i64 m,.i .i64 n,.b o,.i .i64 p,.b q,.s .int r]]=>some (zzX (⟨c,d,e,f,g,⟨h,j,k⟩,l,⟨m,n,o,p⟩,q,r⟩:ah),[.one<|.i .i64 6])
 |_=>none
def zDy:vM 193 zof:=by refine⟨zcl.1,λw b g j a h=>?_⟩;unfold zof at h;split at h;{obtain⟨f,rfl⟩:=zeo h;obtain⟨d,e⟩:=zlN f;exact zcl.2 w _ g _ a (congr (congrArg (λc v=>some (c,[AV.one<|CV.i .i64 v])) d) (qF e))};{cases h}
def z6u:zW:=[(193,zof)]++zmr
def zXg:zL z6u:=zh zDy zh2
@[simp] abbrev zu1 (h:ac)(m g:Int):Bool:=bif zdh h m g then ieq (zbc<|gOf h m g) 6 else false
def zDX:Run:=rF3 dH dI dI λb c d=>(zu1 b c d,[aH<|zcD b c d,aB<|zcE b c d])
def ztX (N:Nat)(i:ac)(c d:Int):OA:=
 let a:=zo i;let g:=inb c<|ln a.aa;let e:=ix a.aa c zk;let h:=inb d<|ln e.ad;let b:=ix e.ad d zF;let j:=up a.aa c ({e with ad:=(up e.ad d<|zci b b.Ctl.aq 6)}:Mon); (oN (zbu i)<|oN (zdh a c d)<|cond (nB<|ziS a c d) (some [aH a,aB false])<|oN g<|oN h<|oN (zzX b)<|oN (zee b b.Ctl.aq 6)<|cond (zdG b b.Ctl.aq 6) (oN g<|oN h<|p0 j λf=>some [aH ({a with aa:=f}:ac),aB true])<|oN g<|oN h<|p0 j λf=>some [aH ({a with aa:=f}:ac),aB true])
abbrev zzY (x:ah):Bool:=bif zbO x then ieq (zbc x) 7 else false
def zog:LW
 |[.agg [.s .ins c,.i .i64 d,.i .i64 e,.s .slot f,.s .slot g,.i .i64 h,.i .i64 j,.b k,.i .i64 l,.i .i64 m,.i .i64 n,.b o,.i .i64 p,.b q,.s .int r]]=>some (zzY (⟨c,d,e,f,g,⟨h,j,k⟩,l,⟨m,n,o,p⟩,q,r⟩:ah),[.one<|.i .i64 7])
 |_=>none
def zDz:vM 193 zog:=by refine⟨zcl.1,λw b g j a h=>?_⟩;unfold zog at h;split at h;{obtain⟨f,rfl⟩:=zeo h;obtain⟨d,e⟩:=zlN f;exact zcl.2 w _ g _ a (congr (congrArg (λc v=>some (c,[AV.one<|CV.i .i64 v])) d) (qF e))};{cases h}
def z6v:zW:=[(193,zog)]++zmr
def zXh:zL z6v:=zh zDz zh2
@[simp] abbrev zu3 (h:ac)(m g:Int):Bool:=bif zdh h m g then ieq (zbc<|gOf h m g) 7 else false
def zDY:Run:=rF3 dH dI dI λb c d=>(zu3 b c d,[aH<|zcD b c d,aB<|zcE b c d])
def ztY (N:Nat)(q:ac)(c e:Int):OA:=
 let a:=zo q;let g:=inb c<|ln a.aa;let f:=ix a.aa c zk;let k:=inb e<|ln f.ad;let h:=ix f.ad e zF;let d:=h.Ctl.aq;let l:=up a.aa c ({f with ad:=(up f.ad e<|zci h d 7)}:Mon); (oN (zbu q)<|oN (zdh a c e)<|cond (nB<|ziS a c e) (some [aH a,aB false])<|oN g<|oN k<|oN (zzY h)<|oN g<|oN (zqm f.aq d 2)<|cond (ieq (zni f.aq d 2) 2) (oN g<|cond (ilt f.Own 1000000000) (oN g<|oN g<|p0 (up a.aa c ({f with Own:=(zO .i64 f.Own 1)}:Mon)) (λb=>let j:=ix b c zk;let m:=ix j.ad e zF;let p:=({h with aw:=m.aw,az:=m.az,av:=m.av,aC:=m.aC}:ah);let i:=up b c ({j with ad:=(up j.ad e<|zci p d 7)}:Mon); (oN (zee p d 7)<|cond (zdG p d 7) (oN (inb c<|ln b)<|oN (inb e<|ln j.ad)<|p0 i λn=>some [aH ({a with aa:=n}:ac),aB true])<|oN (inb c<|ln b)<|oN (inb e<|ln j.ad)<|p0 i λn=>some [aH ({a with aa:=n}:ac),aB true])))<|oN (zee h d 7)<|cond (zdG h d 7) (oN g<|oN k<|p0 l λb=>some [aH ({a with aa:=b}:ac),aB true])<|oN g<|oN k<|p0 l λb=>some [aH ({a with aa:=b}:ac),aB true])<|oN (zee h d 7)<|cond (zdG h d 7) (oN g<|oN k<|p0 l λb=>some [aH ({a with aa:=b}:ac),aB true])<|oN g<|oN k<|p0 l λb=>some [aH ({a with aa:=b}:ac),aB true])
def zDG (a:ac)(b c:Int)(e:zuV a b c=true):∃N,ztR N a b c=some [aH<|zcD a b c,aB<|zcE a b c]:=by
 obtain⟨e,i⟩:=zlN e;have f:=(zU a).1 (zN.1 e);refine⟨0,?_⟩;show _=some (zfW<|zcu a b c);unfold ztR oN nB;conv=>zeta
 refine j0 (zbD<|(zU _).2 f) (j0 (zbD<|(zU _).2 f)<|brN (λd=>?_) λd=>?_);{rw [zlM d];rfl};obtain⟨k,g,h⟩:=zdN d;have l:=zoW f g h;have j:zbc (gOf a b c)=0:=qF i;rw[zjv d,j];refine j0 (zI g) (j0 (zI h)<|j0 (zio rfl i) ?_);rfl
def zo0:vM 169 zDR:=kF3 zXa zC zce ziV (zu []) zDG
def zDH (a:ac)(b c:Int)(g:zuW a b c=true):∃N,ztS N a b c=some [aH<|zcD a b c,aB<|zcE a b c]:=by
 obtain⟨g,i⟩:=zlN g;have h:=(zU a).1 (zN.1 g);refine⟨0,?_⟩;show _=some (zfW<|zcu a b c);unfold ztS oN nB;conv=>zeta
 refine j0 (zbD<|(zU _).2 h) (j0 (zbD<|(zU _).2 h)<|brN (λd=>?_) λd=>?_);{rw [zlM d];rfl};obtain⟨l,e,f⟩:=zdN d;have k:=zoW h e f;have j:zbc (gOf a b c)=1:=qF i;rw[zjv d,j];refine j0 (zI e) (j0 (zI f)<|j0 (zio rfl i) ?_);show _=some (zfW (zkI a b c<|interrupted<|gOf a b c,true));exact j0 (zI e) (j0 (zbD k) (j0 (zI f) rfl))
def zz5:vM 169 zDS:=kF3 zXb zC zce ziV (zu []) zDH
def zDI (a:ac)(b c:Int)(g:zuX a b c=true):∃N,ztT N a b c=some [aH<|zcD a b c,aB<|zcE a b c]:=by
 obtain⟨g,i⟩:=zlN g;have h:=(zU a).1 (zN.1 g);refine⟨0,?_⟩;show _=some (zfW<|zcu a b c);unfold ztT oN nB;conv=>zeta
 refine j0 (zbD<|(zU _).2 h) (j0 (zbD<|(zU _).2 h)<|brN (λd=>?_) λd=>?_);{rw [zlM d];rfl};obtain⟨l,e,f⟩:=zdN d;have k:=zoW h e f;have j:zbc (gOf a b c)=2:=qF i;rw[zjv d,j];refine j0 (zI e) (j0 (zI f)<|j0 (zio rfl i) ?_);show _=some (zfW (zkI a b c<|plainly<|gOf a b c,true));exact j0 (zI e) (j0 (zbD k) (j0 (zI f) rfl))
def zz6:vM 169 zDT:=kF3 zXc zC zce ziV (zu []) zDI
def zDJ (a:ac)(c d:Int)(j:zuY a c d=true):∃N,ztU N a c d=some [aH<|zcD a c d,aB<|zcE a c d]:=by
 obtain⟨j,m⟩:=zlN j;have f:=(zU a).1 (zN.1 j);refine⟨0,?_⟩;show _=some (zfW<|zcu a c d);unfold ztU oN nB;conv=>zeta
 refine j0 (zbD<|(zU _).2 f) (j0 (zbD<|(zU _).2 f)<|brN (λe=>?_) λe=>?_);{rw [zlM e];rfl};obtain⟨r,g,i⟩:=zdN e;have n:=zoW f g i;have q:zbc (gOf a c d)=3:=qF m;rw[zjv e,q];refine j0 (zI g) (j0 (zI i)<|j0 (zio rfl m) ?_);show _=some (zfW (zjw (zmu a c d (gOf a c d) false) c d (gOf a c d) false,true));have k:=zwz (b:=a.ao) (page:=zbh (C0<|gOf a c d)) (need:=zcb false) (io:=false) f e;have F:=zCS k g i;have p:(ix (ix (zfk (zo a) (zo a).ao c d (zcW<|ziY<|ix (ix (zo a).aa c zk).ad d zF) (zfy false) false).aa c zk).ad d zF)=(ix (ix (zo a).aa c zk).ad d zF):=congrArg (λl=>ix l d gZ) (zIE k.gs c);rw[p];unfold zjw;refine j0 rfl (j0 rfl (j0 rfl (j0 (zbD<|(zU _).2 f)<|brN (λh=>?_) λh=>?_)));{rw [show (zmu a c d (gOf a c d) false).2.2=false from h];exact j0 (zI F.hm) (j0 rfl (j0 rfl (j0 (zbD n) (j0 (zI F.hg) rfl))))};{rw [show (zmu a c d (gOf a c d) false).2.2=true from h];exact j0 (zI F.hm) (j0 rfl (j0 rfl (j0 (zbD n) (j0 (zI F.hg) rfl))))}
def zz7:vM 169 zDU:=kF3 zXd zC zce ziV (zu []) zDJ
def zDK (a:ac)(c d:Int)(j:zuZ a c d=true):∃N,ztV N a c d=some [aH<|zcD a c d,aB<|zcE a c d]:=by
 obtain⟨j,m⟩:=zlN j;have f:=(zU a).1 (zN.1 j);refine⟨0,?_⟩;show _=some (zfW<|zcu a c d);unfold ztV oN nB;conv=>zeta
 refine j0 (zbD<|(zU _).2 f) (j0 (zbD<|(zU _).2 f)<|brN (λe=>?_) λe=>?_);{rw [zlM e];rfl};obtain⟨r,g,i⟩:=zdN e;have n:=zoW f g i;have q:zbc (gOf a c d)=4:=qF m;rw[zjv e,q];refine j0 (zI g) (j0 (zI i)<|j0 (zio rfl m) ?_);show _=some (zfW (zjw (zmu a c d (gOf a c d) true) c d (gOf a c d) true,true));have k:=zwz (b:=a.ao) (page:=zbh (C0<|gOf a c d)) (need:=zcb true) (io:=false) f e;have F:=zCS k g i;have p:(ix (ix (zfk (zo a) (zo a).ao c d (zcW<|ziY<|ix (ix (zo a).aa c zk).ad d zF) (zfy true) false).aa c zk).ad d zF)=(ix (ix (zo a).aa c zk).ad d zF):=congrArg (λl=>ix l d gZ) (zIE k.gs c);rw[p];unfold zjw;refine j0 rfl (j0 rfl (j0 rfl (j0 (zbD<|(zU _).2 f)<|brN (λh=>?_) λh=>?_)));{rw [show (zmu a c d (gOf a c d) true).2.2=false from h];exact j0 (zI F.hm) (j0 rfl (j0 rfl (j0 (zbD n) (j0 (zI F.hg) rfl))))};{rw [show (zmu a c d (gOf a c d) true).2.2=true from h];exact j0 rfl (j0 (zbD k.shape.1.1)<|j0 (zI F.hm)<|j0 (zbD n) (j0 (zI F.hg) rfl))}
def zz8:vM 169 zDV:=kF3 zXe zC zce ziV (zu []) zDK
def z5f {c:ac}{a d:Int}(k:SmG (gOf c a d))(f:i0 a (ln c.aa)=true)(i:i0 d (ln (ix c.aa a mZ).ad)=true) :
 (cond (zee (ix (ix (zo c).aa a zk).ad d zF) (ix (ix (zo c).aa a zk).ad d zF).Ctl.aq 5) (cond (zdG (ix (ix (zo c).aa a zk).ad d zF) (ix (ix (zo c).aa a zk).ad d zF).Ctl.aq 5) (cond (inb a<|ln (zo c).aa) (cond (ilt (ln (ix (zo c).aa a zk).Outs) 40) (cond (inb a<|ln (zo c).aa) (cond (zfO (ix (ix (zo c).aa a zk).ad d zF).aw (ix (ix (zo c).aa a zk).ad d zF).Pc) (cond (few<|ln<|ap (ix (zo c).aa a zk).Outs [(zfX (ix (ix (zo c).aa a zk).ad d zF).aw (ix (ix (zo c).aa a zk).ad d zF).Pc).X]) (cond (inb a<|ln (zo c).aa) (cond (cond (ieq a a) true false) (p0 (up (zo c).aa a ({ (ix (zo c).aa a zk) with Outs:=(ap (ix (zo c).aa a zk).Outs [(zfX (ix (ix (zo c).aa a zk).ad d zF).aw (ix (ix (zo c).aa a zk).ad d zF).Pc).X])}:Mon)) λe=>cond (inb a<|ln e) (cond (inb d<|ln (ix e a zk).ad) (p0 (up e a ({ (ix e a zk) with ad:=(up (ix e a zk).ad d<|zci (ix (ix (zo c).aa a zk).ad d zF) (ix (ix (zo c).aa a zk).ad d zF).Ctl.aq 5)}:Mon)) λl=>some [.agg<|zbn ({ (zo c) with aa:=l}:ac),.one<|.b true]) none) none) none) none) none) none) none)<|cond (inb a<|ln (zo c).aa) (cond (inb d<|ln (ix (zo c).aa a zk).ad) (p0 (up (zo c).aa a ({ (ix (zo c).aa a zk) with ad:=(up (ix (zo c).aa a zk).ad d<|zci (ix (ix (zo c).aa a zk).ad d zF) (ix (ix (zo c).aa a zk).ad d zF).Ctl.aq 5)}:Mon)) λe=>some [.agg<|zbn ({ (zo c) with aa:=e}:ac),.one<|.b true]) none) none) none)<|cond (inb a<|ln (zo c).aa) (cond (inb d<|ln (ix (zo c).aa a zk).ad) (p0 (up (zo c).aa a ({ (ix (zo c).aa a zk) with ad:=(up (ix (zo c).aa a zk).ad d<|zci (ix (ix (zo c).aa a zk).ad d zF) (ix (ix (zo c).aa a zk).ad d zF).Ctl.aq 5)}:Mon)) λe=>some [.agg<|zbn ({ (zo c) with aa:=e}:ac),.one<|.b true]) none) none) none)=some (zfW (zkI (zgz c a (gOf c a d) 5) a d<|zjx (gOf c a d) (gOf c a d).Ctl.aq 5,true)):=by
 refine j0 (zbD k) (br (λj=>j0 (zI f) (br (λg=>?_) λg=>?_)) λj=>?_)
 .rw [zTX (h:=c) (m:=a) (x:=gOf c a d) (w:=5) j rfl g];refine j0 (zI f) (j0 rfl (j0 (z5e g)<|j0 (zI f)<|j0 (zZ9 _)<|shr<|j0 (zI<|zeP f) (j0 ?_ rfl)));rw[zJS f];exact zI i
 .rw [zOS (h:=c) (m:=a) (x:=gOf c a d) (w:=5) g];exact j0 (zI f) (j0 (zI i) rfl)
 .rw [z1l (h:=c) (m:=a) (x:=gOf c a d) (w:=5) j];exact j0 (zI f) (j0 (zI i) rfl)
def z9m {f:ac}{d:List Mon}{a c:Int}(n:SmG (gOf f a c))(i:i0 a (ln d)=true)(k:i0 c (ln (ix d a mZ).ad)=true)(e:(ix (ix d a zk).ad c zF)=gOf f a c) :
 (cond (zee ({ (ix (ix (zo f).aa a zk).ad c zF) with aw:=(ix (ix d a zk).ad c zF).aw,az:=(ix (ix d a zk).ad c zF).az,av:=(ix (ix d a zk).ad c zF).av,aC:=(ix (ix d a zk).ad c zF).aC}:ah) (ix (ix (zo f).aa a zk).ad c zF).Ctl.aq 5) (cond (zdG ({ (ix (ix (zo f).aa a zk).ad c zF) with aw:=(ix (ix d a zk).ad c zF).aw,az:=(ix (ix d a zk).ad c zF).az,av:=(ix (ix d a zk).ad c zF).av,aC:=(ix (ix d a zk).ad c zF).aC}:ah) (ix (ix (zo f).aa a zk).ad c zF).Ctl.aq 5) (cond (inb a<|ln d) (cond (ilt (ln (ix d a zk).Outs) 40) (cond (inb a<|ln d) (cond (zfO (ix (ix d a zk).ad c zF).aw (ix (ix (zo f).aa a zk).ad c zF).Pc) (cond (few<|ln<|ap (ix d a zk).Outs [(zfX (ix (ix d a zk).ad c zF).aw (ix (ix (zo f).aa a zk).ad c zF).Pc).X]) (cond (inb a<|ln d) (cond (cond (ieq a a) true false) (p0 (up d a ({ (ix d a zk) with Outs:=(ap (ix d a zk).Outs [(zfX (ix (ix d a zk).ad c zF).aw (ix (ix (zo f).aa a zk).ad c zF).Pc).X])}:Mon)) λg=>cond (inb a<|ln g) (cond (inb c<|ln (ix g a zk).ad) (p0 (up g a ({ (ix g a zk) with ad:=(up (ix g a zk).ad c<|zci ({ (ix (ix (zo f).aa a zk).ad c zF) with aw:=(ix (ix d a zk).ad c zF).aw,az:=(ix (ix d a zk).ad c zF).az,av:=(ix (ix d a zk).ad c zF).av,aC:=(ix (ix d a zk).ad c zF).aC}:ah) (ix (ix (zo f).aa a zk).ad c zF).Ctl.aq 5)}:Mon)) λp=>some [.agg<|zbn ({ (zo f) with aa:=p}:ac),.one<|.b true]) none) none) none) none) none) none) none)<|cond (inb a<|ln d) (cond (inb c<|ln (ix d a zk).ad) (p0 (up d a ({ (ix d a zk) with ad:=(up (ix d a zk).ad c<|zci ({ (ix (ix (zo f).aa a zk).ad c zF) with aw:=(ix (ix d a zk).ad c zF).aw,az:=(ix (ix d a zk).ad c zF).az,av:=(ix (ix d a zk).ad c zF).av,aC:=(ix (ix d a zk).ad c zF).aC}:ah) (ix (ix (zo f).aa a zk).ad c zF).Ctl.aq 5)}:Mon)) λg=>some [.agg<|zbn ({ (zo f) with aa:=g}:ac),.one<|.b true]) none) none) none)<|cond (inb a<|ln d) (cond (inb c<|ln (ix d a zk).ad) (p0 (up d a ({ (ix d a zk) with ad:=(up (ix d a zk).ad c<|zci ({ (ix (ix (zo f).aa a zk).ad c zF) with aw:=(ix (ix d a zk).ad c zF).aw,az:=(ix (ix d a zk).ad c zF).az,av:=(ix (ix d a zk).ad c zF).av,aC:=(ix (ix d a zk).ad c zF).aC}:ah) (ix (ix (zo f).aa a zk).ad c zF).Ctl.aq 5)}:Mon)) λg=>some [.agg<|zbn ({ (zo f) with aa:=g}:ac),.one<|.b true]) none) none) none)=some (zfW (zkI (zgz {f with aa:=d} a (gOf f a c) 5) a c<|zjx (gOf f a c) (gOf f a c).Ctl.aq 5,true)):=by
 rw[e];refine j0 (zbD n) (br (λl=>j0 (zI i) (br (λj=>?_) λj=>?_)) λl=>?_)
 .rw [zTX (h:={f with aa:=d}) (m:=a) (x:=gOf f a c) (w:=5) l rfl j];refine j0 (zI i) (j0 rfl (j0 (z5e j)<|j0 (zI i)<|j0 (zZ9 _)<|shr<|j0 (zI<|zeP (h:={f with aa:=d}) i) (j0 ?_ rfl)));rw[zJS (h:={f with aa:=d}) i];exact zI k
 .rw [zOS (h:={f with aa:=d}) (m:=a) (x:=gOf f a c) (w:=5) j];exact j0 (zI i) (j0 (zI k) rfl)
 .rw [z1l (h:={f with aa:=d}) (m:=a) (x:=gOf f a c) (w:=5) l];exact j0 (zI i) (j0 (zI k) rfl)
def zDL (b:ac)(a c:Int)(j:zu0 b a c=true):∃N,ztW N b a c=some [aH<|zcD b a c,aB<|zcE b a c]:=by
 obtain⟨j,p⟩:=zlN j;have k:=(zU b).1 (zN.1 j);refine⟨0,?_⟩;show _=some (zfW<|zcu b a c);unfold ztW oN nB;conv=>zeta
 refine j0 (zbD<|(zU _).2 k) (j0 (zbD<|(zU _).2 k)<|brN (λf=>?_) λf=>?_);{rw [zlM f];rfl};obtain⟨r,d,e⟩:=zdN f;have l:=zoW k d e;have q:zbc (gOf b a c)=5:=qF p;rw[zjv f,q];refine j0 (zI d) (j0 (zI e)<|j0 (zio rfl p) ?_);show _=some (zfW (zvf b a c (gOf b a c) 5,true));refine j0 (zI d) (j0 rfl (br (λg=>j0 (zI d) (br (λi=>j0 (zI d) (j0 (zI d)<|shr ?_)) λi=>?_)) λg=>?_));{rw [zm6 (zWL (h:=b) (m:=a) (x:=gOf b a c) (w:=5) rfl g i)];have n:=zJS d {ix b.aa a mZ with Own:=zO .i64 (ix b.aa a mZ).Own 1};refine z9m l (zeP d) ?_ ?_;{show i0 c (ln (ix (up b.aa a _) a mZ).ad)=true;rw[n];exact e};{show ix (ix (up b.aa a _) a mZ).ad c gZ=_;rw[n];rfl}};{rw [zm6<|zWK (h:=b) (m:=a) (x:=gOf b a c) (w:=5) i];exact z5f l d e};{rw [zm6<|zWJ (h:=b) (m:=a) (x:=gOf b a c) (w:=5) g];exact z5f l d e}
def zz9:vM 169 zDW:=kF3 zXf zC zce ziV (zu []) zDL
def zDM (a:ac)(b c:Int)(g:zu1 a b c=true):∃N,ztX N a b c=some [aH<|zcD a b c,aB<|zcE a b c]:=by
 obtain⟨g,j⟩:=zlN g;have i:=(zU a).1 (zN.1 g);refine⟨0,?_⟩;show _=some (zfW<|zcu a b c);unfold ztX oN nB;conv=>zeta
 refine j0 (zbD<|(zU _).2 i) (j0 (zbD<|(zU _).2 i)<|brN (λf=>?_) λf=>?_);{rw [zlM f];rfl};obtain⟨p,d,e⟩:=zdN f;have n:=zoW i d e;have l:zbc (gOf a b c)=6:=qF j;rw[zjv f,l];refine j0 (zI d) (j0 (zI e)<|j0 (zio rfl j) ?_);show _=some (zfW (zvf a b c (gOf a b c) 6,true));rw[zm6<|z7N (h:=a) (m:=b) (x:=gOf a b c),zKL (w:=6) rfl];exact j0 (zbD n) (br (λk=>j0 (zI d) (j0 (zI e) rfl)) λk=>j0 (zI d) (j0 (zI e) rfl))
def zAa:vM 169 zDX:=kF3 zXg zC zce ziV (zu []) zDM
def z5g {a:ac}{c d:Int}(i:SmG (gOf a c d))(f:i0 c (ln a.aa)=true)(g:i0 d (ln (ix a.aa c mZ).ad)=true) :
 (cond (zee (ix (ix (zo a).aa c zk).ad d zF) (ix (ix (zo a).aa c zk).ad d zF).Ctl.aq 7) (cond (zdG (ix (ix (zo a).aa c zk).ad d zF) (ix (ix (zo a).aa c zk).ad d zF).Ctl.aq 7) (cond (inb c<|ln (zo a).aa) (cond (inb d<|ln (ix (zo a).aa c zk).ad) (p0 (up (zo a).aa c ({ (ix (zo a).aa c zk) with ad:=(up (ix (zo a).aa c zk).ad d<|zci (ix (ix (zo a).aa c zk).ad d zF) (ix (ix (zo a).aa c zk).ad d zF).Ctl.aq 7)}:Mon)) λe=>some [.agg<|zbn ({ (zo a) with aa:=e}:ac),.one<|.b true]) none) none)<|cond (inb c<|ln (zo a).aa) (cond (inb d<|ln (ix (zo a).aa c zk).ad) (p0 (up (zo a).aa c ({ (ix (zo a).aa c zk) with ad:=(up (ix (zo a).aa c zk).ad d<|zci (ix (ix (zo a).aa c zk).ad d zF) (ix (ix (zo a).aa c zk).ad d zF).Ctl.aq 7)}:Mon)) λe=>some [.agg<|zbn ({ (zo a) with aa:=e}:ac),.one<|.b true]) none) none) none)=some (zfW (zkI a c d<|zjx (gOf a c d) (gOf a c d).Ctl.aq 7,true)):=
 j0 (zbD i) (br (λh=>j0 (zI f) (j0 (zI g) rfl)) λh=>j0 (zI f) (j0 (zI g) rfl))
def z9n {f:ac}{d:List Mon}{a c:Int}(k:SmG (gOf f a c))(h:i0 a (ln d)=true)(i:i0 c (ln (ix d a mZ).ad)=true)(e:(ix (ix d a zk).ad c zF)=gOf f a c) :
 (cond (zee ({ (ix (ix (zo f).aa a zk).ad c zF) with aw:=(ix (ix d a zk).ad c zF).aw,az:=(ix (ix d a zk).ad c zF).az,av:=(ix (ix d a zk).ad c zF).av,aC:=(ix (ix d a zk).ad c zF).aC}:ah) (ix (ix (zo f).aa a zk).ad c zF).Ctl.aq 7) (cond (zdG ({ (ix (ix (zo f).aa a zk).ad c zF) with aw:=(ix (ix d a zk).ad c zF).aw,az:=(ix (ix d a zk).ad c zF).az,av:=(ix (ix d a zk).ad c zF).av,aC:=(ix (ix d a zk).ad c zF).aC}:ah) (ix (ix (zo f).aa a zk).ad c zF).Ctl.aq 7) (cond (inb a<|ln d) (cond (inb c<|ln (ix d a zk).ad) (p0 (up d a ({ (ix d a zk) with ad:=(up (ix d a zk).ad c<|zci ({ (ix (ix (zo f).aa a zk).ad c zF) with aw:=(ix (ix d a zk).ad c zF).aw,az:=(ix (ix d a zk).ad c zF).az,av:=(ix (ix d a zk).ad c zF).av,aC:=(ix (ix d a zk).ad c zF).aC}:ah) (ix (ix (zo f).aa a zk).ad c zF).Ctl.aq 7)}:Mon)) λg=>some [.agg<|zbn ({ (zo f) with aa:=g}:ac),.one<|.b true]) none) none)<|cond (inb a<|ln d) (cond (inb c<|ln (ix d a zk).ad) (p0 (up d a ({ (ix d a zk) with ad:=(up (ix d a zk).ad c<|zci ({ (ix (ix (zo f).aa a zk).ad c zF) with aw:=(ix (ix d a zk).ad c zF).aw,az:=(ix (ix d a zk).ad c zF).az,av:=(ix (ix d a zk).ad c zF).av,aC:=(ix (ix d a zk).ad c zF).aC}:ah) (ix (ix (zo f).aa a zk).ad c zF).Ctl.aq 7)}:Mon)) λg=>some [.agg<|zbn ({ (zo f) with aa:=g}:ac),.one<|.b true]) none) none) none)=some (zfW (zkI {f with aa:=d} a c<|zjx (gOf f a c) (gOf f a c).Ctl.aq 7,true)):=by
 rw[e];exact j0 (zbD k) (br (λj=>j0 (zI h) (j0 (zI i) rfl)) λj=>j0 (zI h) (j0 (zI i) rfl))
def zDN (b:ac)(a c:Int)(j:zu3 b a c=true):∃N,ztY N b a c=some [aH<|zcD b a c,aB<|zcE b a c]:=by
 obtain⟨j,p⟩:=zlN j;have k:=(zU b).1 (zN.1 j);refine⟨0,?_⟩;show _=some (zfW<|zcu b a c);unfold ztY oN nB;conv=>zeta
 refine j0 (zbD<|(zU _).2 k) (j0 (zbD<|(zU _).2 k)<|brN (λf=>?_) λf=>?_);{rw [zlM f];rfl};obtain⟨r,d,e⟩:=zdN f;have l:=zoW k d e;have q:zbc (gOf b a c)=7:=qF p;rw[zjv f,q];refine j0 (zI d) (j0 (zI e)<|j0 (zio rfl p) ?_);show _=some (zfW (zvf b a c (gOf b a c) 7,true));refine j0 (zI d) (j0 rfl (br (λg=>j0 (zI d) (br (λi=>j0 (zI d) (j0 (zI d)<|shr ?_)) λi=>?_)) λg=>?_));{rw [zm6 (zWL (h:=b) (m:=a) (x:=gOf b a c) (w:=7) rfl g i),zKL (w:=7) rfl];have n:=zJS d {ix b.aa a mZ with Own:=zO .i64 (ix b.aa a mZ).Own 1};refine z9n l (zeP d) ?_ ?_;{show i0 c (ln (ix (up b.aa a _) a mZ).ad)=true;rw[n];exact e};{show ix (ix (up b.aa a _) a mZ).ad c gZ=_;rw[n];rfl}};{rw [zm6<|zWK (h:=b) (m:=a) (x:=gOf b a c) (w:=7) i,zKL (w:=7) rfl];exact z5g l d e};{rw [zm6<|zWJ (h:=b) (m:=a) (x:=gOf b a c) (w:=7) g,zKL (w:=7) rfl];exact z5g l d e}
def zAb:vM 169 zDY:=kF3 zXh zC zce ziV (zu []) zDN
def zpw:LW
 |[.agg [.s (.sl .int) b,.s .mon c,.s .entry d,.s .entry e],.one<|.i .i64 f,.one<|.i .i64 g]=>some (zdh (⟨b,c,d,e⟩:ac) f g,[aH<|zcD (⟨b,c,d,e⟩:ac) f g,aB<|zcE (⟨b,c,d,e⟩:ac) f g])
 |_=>none
def zGh:vM 169 zpw:=by refine⟨zo0.1,λw m l n g h=>?_⟩;unfold zpw at h;split at h;{rename_i a b d f i j;obtain⟨k,rfl⟩:=zeo h;rcases z3G (gOf (⟨a,b,d,f⟩:ac) i j) with e|e|e|e|e|e|e|e;{exact zo0.2 w _ l _ g (congrArg (λc=>some (c,zfW<|zcu (⟨a,b,d,f⟩:ac) i j))<|zio k e)};{exact zz5.2 w _ l _ g (congrArg (λc=>some (c,zfW<|zcu (⟨a,b,d,f⟩:ac) i j))<|zio k e)};{exact zz6.2 w _ l _ g (congrArg (λc=>some (c,zfW<|zcu (⟨a,b,d,f⟩:ac) i j))<|zio k e)};{exact zz7.2 w _ l _ g (congrArg (λc=>some (c,zfW<|zcu (⟨a,b,d,f⟩:ac) i j))<|zio k e)};{exact zz8.2 w _ l _ g (congrArg (λc=>some (c,zfW<|zcu (⟨a,b,d,f⟩:ac) i j))<|zio k e)};{exact zz9.2 w _ l _ g (congrArg (λc=>some (c,zfW<|zcu (⟨a,b,d,f⟩:ac) i j))<|zio k e)};{exact zAa.2 w _ l _ g (congrArg (λc=>some (c,zfW<|zcu (⟨a,b,d,f⟩:ac) i j))<|zio k e)};{exact zAb.2 w _ l _ g (congrArg (λc=>some (c,zfW<|zcu (⟨a,b,d,f⟩:ac) i j))<|zio k e)}};{cases h}
def z4O:zW:=[(169,zpw)]++zmr
def z2f:zL z4O:=zh zGh zh2
def z4P:zW:=z4O
def z2g:zL z4P:=z2f
def brought (n a b:Int):Int:=bif ilt n a then a else (cond (ilt b a) a<|zMc n b)
@[simp] abbrev zqi (_ _ _:Int):Bool:=true
@[simp] abbrev zq5 (n a b:Int):Int:=brought n a b
def zry:Run:=rF3 dI dI dI λb c d=>(zqi b c d,[aI<|zq5 b c d])
def zEb (N:Nat)(b a c:Int):OA:=
 (cond (ilt c a) (some [aI a])<|cond (ilt b a) (some [aI a])<|cond (igt b c) (some [aI c])<|some [aI b])
def zPw (a b c:Int)(g:zqi a b c=true):∃N,zEb N a b c=some [aI<|zq5 a b c]:=by refine⟨0,?_⟩;unfold zEb;unfold zq5 brought zMc;cases d:ilt c b<;>cases e:ilt a b<;>cases f:igt a c<;>simp [igt] at * <;> omega
def zup:vM 55 zry:=kF3 zsO zC zA zq (zu []) zPw
structure RI (a:List am) (i:Nat) (l:List am):Prop where
 len:l.length=a.length
 sm:zWU l
 eq:∀k,i<=k->l[k]?=a[k]?
def RI.up {a l:List am}{i:Nat}(h:RI a i l)(x:am)(b:SmB x):RI a (i+1) (up l (i:Int) x):=
 ⟨by rw[zgK];exact h.len,z7D h.sm b,λk c=>by rw[z8z (by omega)];exact h.eq k (by omega)⟩
structure RJ (l:List am) (i:Nat) (l':List am):Prop where
 len:l'.length=l.length
 sm:SmB (ix l' (i:Int) zK5)
 up:∀x,E.up l' (i:Int) x=E.up l (i:Int) x
def RJ.next {l a:List am}{i:Nat}(h:RJ l i a)(b:i<l.length)(x:am)(c:SmB x):RJ l i (E.up a (i:Int) x):=
 ⟨by rw[zgK];exact h.len,by rw[zd9 (by rw[h.len];exact b)];exact c,λy=>by rw[zvg];exact h.up y⟩
def zZD:zW:=z4P
def zZE:zL zZD:=z2g
def zTI {h:ac}{m:Int}(g:SmH h)(f:i0 m (ln h.aa)=true):SmB (zK h m):=by
 have b:=g.2.1.2 _ (zbF f mZ);have e:∀(d:List LI) (q:Int),SmM d->(zcw d q).length<=1048576:=λd q h=>zTK h;have c:∀p:Int,(zcC h m p).length<=1048576:=by intro p;unfold zcC;cases i0 m (ln h.aa);{exact(by decide:zyQ.length<=1048576)};{cases i0 p 8;{exact(by decide:zyQ.length<=1048576)};{simp only [cT];cases ine (zbC (ix h.aa m zk).ae p).af (-1);{exact e _ _ b.2.1};{exact e _ _ g.1}}}
 have j:∀(n i:Nat),∀x∈zcx h m n i,x.length<=1048576:=by
  intro n
  induction n with
  |zero=>intro i x a;cases a
  |succ n k=>intro i x a;rcases qG.1 a with rfl|a;{exact c _};{exact k (i+1) x a}
 unfold zK;rw[f];exact⟨⟨by show (zcx h m 8 0).length<=1048576;rw[zyq];decide,j 8 0⟩,b.2.2.2.1,b.2.2.2.2.1⟩
def z4Q:zW:=zZD
def z2h:zL z4Q:=zZE
def z4R:zW:=[(55,zry)]++z4Q
def z2i:zL z4R:=zh zup z2h
def cnt (l:List Mon):List Nat:=l.map λx=>x.ad.length
def z8b {l a:List Mon}(h:zel a=zel l):cnt a=cnt l:=by have e:∀l:List Mon,cnt l=(zel l).map List.length:=λl=>(by simp[cnt,zel]);rw[e,e,h]
def zQ7 {l:List Mon}{m:Int}{x:Mon}(b:i0 m (ln l)=true)(c:x.ad.length=(ix l m mZ).ad.length):cnt (up l m x)=cnt l:=by obtain⟨k,rfl,a⟩:=zdZ (n:=l.length) b;unfold cnt up;rw[List.map_set,kH,c,zbl a];have:=@u2 _ (l.map λx=>x.ad.length) k (by simpa using a);simpa using this
def z6f {l a:List Mon}(h:cnt a=cnt l):a.length=l.length:=by have:=congrArg List.length h;simpa [cnt] using this
def z8c {l b:List Mon}(h:cnt b=cnt l)(m:Int):(ix b m mZ).ad.length=(ix l m mZ).ad.length:=by have a:(cnt b)[m.toNat]?=(cnt l)[m.toNat]?:=(by rw[h]);unfold cnt at a;rw[qP,qP]at a;unfold ix;simp only[kA];cases c:b[m.toNat]? <;> cases d:l[m.toNat]? <;> rw [c,d]at a<;>simp at a ⊢;exact a
def z7f (h:ac)(m p:Int):(zdR h m p).ag=h.ag:=(zgk (zeX h m p) m p z0).2
def z7e (h:ac):(zdb h).ag=h.ag:=by unfold zdb;cases ieq (ln<|zcj h) 0;{rfl};{exact z7f _ _ _}
def z7d (m:List LI)(p:Int)(c:LI):(zin m p c).length=m.length:=by unfold zin;cases i0 p (ln m);{rfl};{cases zcq c;{rfl};{simp}}
def z7b (m:List LI)(p c v:Int):(zbM m p c v).length=m.length:=by unfold zbM;cases zhN m p c;{rfl};{cases zi v 0 99;{rfl};{simp}}
def zXZ (h:ac)(m p:Int):(fetched h m p).ag.length=h.ag.length:=by unfold fetched ze6;rw[(zgk _ _ _ _).2];unfold landing;rw[z7d,z7e]
def zSR (h:ac)(m p n:Int):(zjd h m p n).ag=h.ag:=by unfold zjd;cases ieq (wand .i64 n 2) 0;{unfold opened;cases ieq (wand .i64 (ix (ix (zbJ h m p).aa m mZ).ae p sZ).ai 2) 0;{rfl};{exact(zgk _ _ _ _).2}};{rfl}
def z0s (h:ac)(m p n:Int):(A0 h m p n).ag.length=h.ag.length:=by unfold A0;cases ieq (ix (ix h.aa m mZ).ae p sZ).af (-1);{exact congrArg List.length (zSR _ _ _ _)};{exact(congrArg List.length<|zSR _ _ _ _).trans (zXZ _ _ _)}
def z0t (h:ac)(m g p:Int)(a:Bool):(zuH h m g p a).ag=h.ag:=by cases a<;>rfl
def z2N (h:ac)(b:List au)(m g c a q:Int)(d:Bool):(zhL h b m g c a q d).1.ag.length=h.ag.length:=by unfold zhL;cases zhy b m g c a;{cases zfa h m g c a;{exact congrArg List.length (z0t _ _ _ _ _)};{exact(congrArg List.length<|z0t _ _ _ _ _).trans (z0s h m q a)}};{rfl}
def z7c (h:ac)(b:List au)(m g page need:Int)(io:Bool):(lookOf h b m g page need io).1.ag.length=h.ag.length:=by unfold lookOf;cases zb8 h m g page need;{rfl};{simp only [cT];rw[z2N];cases ieq need 2<;>rfl}
structure Keep (h r:ac):Prop where
 shape:Shape r
 cnt:cnt r.aa=cnt h.aa
 mem:r.ag.length=h.ag.length
def Keep.has {h r:ac}(k:Keep h r){m:Int}(a:i0 m (ln h.aa)=true):i0 m (ln r.aa)=true:=by rw[ln,z6f k.cnt];exact a
def Keep.hg {h r:ac}(k:Keep h r){m g:Int}(hg:i0 g (ln (ix h.aa m mZ).ad)=true):i0 g (ln (ix r.aa m mZ).ad)=true:=by rw[ln,z8c k.cnt];exact hg
def Keep.trans {a b c:ac}(h:Keep a b)(k:Keep b c):Keep a c:=⟨k.shape,k.cnt.trans h.cnt,k.mem.trans h.mem⟩
def Keep.rfl' {h:ac}(a:Shape h):Keep h h:=⟨a,rfl,rfl⟩
def znd {h:ac}{m g:Int}{x:ah}(b:Shape h)(a:i0 m (ln h.aa)=true)(c:SmG x):Keep h (zkI h m g x):=⟨zYH b a c,zQ7 a (by simp),rfl⟩
def zBu {h:ac}{b:List au}{m g page need:Int}{io:Bool}(c:SmH h)(a:zbZ h m g=true):Keep h (lookOf h b m g page need io).1:=by have k:=zwz (b:=b) (page:=page) (need:=need) (io:=io) c a;exact⟨k.shape,z8b k.gs,z7c _ _ _ _ _ _ _⟩
def z0d {h:ac}{p c v:Int}(a:Shape h):Keep h {h with ag:=zbM h.ag p c v}:=⟨zOO a<|zyM a.1.1,rfl,z7b _ _ _ _⟩
def zXJ {h:ac}{m:Int}(a:Shape h)(b:i0 m (ln h.aa)=true):Keep h (owned h m):=by obtain⟨c,d⟩:=zcm a b;unfold owned;cases ilt (ix h.aa m mZ).Own 1000000000;{exact Keep.rfl' a};{exact⟨zil a c d,zQ7 b rfl,rfl⟩}
def zXI {h:ac}{m n:Int}(b:Shape h)(c:i0 m (ln h.aa)=true):Keep h (znS h m n):=by obtain⟨a,d⟩:=zcm b c;unfold znS;cases e:ilt (ln (ix h.aa m mZ).Outs) 40;{exact Keep.rfl' b};{have f:=qF e;simp only[ln]at f;refine⟨zil b ⟨a.1,a.2.1,a.2.2.1,a.2.2.2.1,?_,a.2.2.2.2.2⟩ d,zQ7 c rfl,rfl⟩;simp[ap];omega}
def z0f {h:ac}{m g:Int}{x:ah}{w:Int}(d:Shape h)(b:i0 m (ln h.aa)=true)(e:SmG x):Keep h (zvf h m g x w):=by have a:Keep h (zgA h m x w):=(by unfold zgA;cases (cond (ine w 6) (ieq (zyo (ix h.aa m mZ).aq x.Ctl.aq<|zxu w) 2) false);{exact Keep.rfl' d};{exact zXJ d b});have f:Keep (zgA h m x w) (zgz (zgA h m x w) m x w):=(by unfold zgz;cases (cond (zkj x.Ctl.aq w) (ieq w 5) false);{exact Keep.rfl' a.shape};{exact zXI a.shape (a.has b)});have c:=a.trans f;exact c.trans (znd c.shape (c.has b)<|zCk _ _ e)
def z0e {h:ac}{m g:Int}(f:SmH h)(e:zbZ h m g=true):Keep h (zcu h m g).1:=by obtain⟨l,a,n⟩:=zdN e;have d:=zoW f a n;have i:=(zew f l).1;rw[zjv e];unfold zTP;cases ieq (zbc<|gOf h m g) 0;{cases ieq (zbc<|gOf h m g) 1;{cases ieq (zbc<|gOf h m g) 2;{cases (cond (ieq (zbc<|gOf h m g) 3) true<|ieq (zbc<|gOf h m g) 4);{exact z0f i a d};{have k:=zBu (b:=h.ao) (page:=zbh (C0<|gOf h m g)) (need:=zcb (ieq (zbc<|gOf h m g) 4)) (io:=false) f e;show Keep h (zjw (zmu h m g (gOf h m g)<|ieq (zbc<|gOf h m g) 4) m g (gOf h m g)<|ieq (zbc<|gOf h m g) 4);unfold zjw;cases (zmu h m g (gOf h m g)<|ieq (zbc<|gOf h m g) 4).2.2;{exact k.trans (znd k.shape (k.has a) d)};{cases ieq (zbc<|gOf h m g) 4;{have k:=zBu (b:=h.ao) (page:=zbh (C0<|gOf h m g)) (need:=zcb false) (io:=false) f e;exact k.trans (znd k.shape (k.has a)<|zKA _ d)};{have k:=zBu (b:=h.ao) (page:=zbh (C0<|gOf h m g)) (need:=zcb true) (io:=false) f e;have q:=z0d (p:=(zmu h m g (gOf h m g) true).2.1) (c:=zdl (C0<|gOf h m g)) (v:=(gOf h m g).A) k.shape;have j:=k.trans q;exact j.trans (znd j.shape (j.has a)<|zk6 d)}}}};{exact znd i a (zFm d)}};{exact znd i a (zWC d)}};{exact Keep.rfl' i}
structure Same (h r:ac):Prop where
 sm:SmH r
 cnt:cnt r.aa=cnt h.aa
 mem:r.ag.length=h.ag.length
 st:r=h\/Shape r
def Same.rfl' {h:ac}(a:SmH h):Same h h:=⟨a,rfl,rfl,.inl rfl⟩
def Same.trans {a b c:ac}(h:Same a b)(k:Same b c):Same a c:=⟨k.sm,k.cnt.trans h.cnt,k.mem.trans h.mem,by
 rcases k.st with e|e
 .rw [e];exact h.st
 .exact .inr e⟩
def z02 {h:ac}(m g:Int)(b:SmH h):Same h (zcu h m g).1:=by cases a:zbZ h m g;{rw [zlM a];exact Same.rfl' b};{have k:=z0e b a;exact⟨k.shape.1,k.cnt,k.mem,.inr k.shape⟩}
def z4S:zW:=[(55,zry)]++zW9
def zsQ:zL z4S:=zh zup zsO
def zQ2 {a b:Bool}(h:(a=true)↔(b=true)):a=b:=by cases a<;>cases b<;>simp_all
@[simp] def z9a (x:Int):zi x 0 3=i0 x 4:=zQ2 (by rw[zfE];unfold i0;rw[decide_eq_true_iff];omega)
@[simp] def z1s (x:Int):zi x 0 7=i0 x 8:=zQ2 (by rw[zfE];unfold i0;rw[decide_eq_true_iff];omega)
def zeq (t:List k0)(p:Int)(s:k0):List k0:=bif i0 p (ln t) then up t p s else t
@[simp] def z9b (t:List k0)(p:Int)(s:k0):(zeq t p s).length=t.length:=by unfold zeq;cases i0 p (ln t)<;>simp
@[simp] abbrev zot (t:List k0)(p:Int)(s:k0):Bool:=pc (t.length<=1048576)
@[simp] abbrev zlC (t:List k0)(p:Int)(s:k0):List k0:=zeq t p s
def zxf:Run:=rF3 (dS .slot) dI (dT .slot) λb c d=>(zot b c d,[aS .slot<|zlC b c d])
def zAK (N:Nat)(a:lS)(b:Int)(c:k0):OA:=
 (oN (few<|ln<|ap [] a)<|oN (zM b 0<|wsub .i64 (ln a) 1)<|cond (zi b 0<|wsub .i64 (ln a) 1) (oN (inb b<|ln<|ap [] a)<|p0 (up (ap [] a) b c) λd=>some [aS .slot d])<|some [aS .slot<|ap [] a])
def zMN (a:List k0)(b:Int)(c:k0)(d:zot a b c=true):∃N,zAK N a b c=some [aS .slot<|zlC a b c]:=by have e:=zN.1 d;refine⟨0,?_⟩;unfold zAK oN;refine mu (j0 rfl (br (λ_=>mu (shr ?_)) λ_=>?_));all_goals first|rfl|(simp only [*,zlC,zeq,cT,cF]<;>rfl)|simp_all[Ty.cells,zlC,zeq]
def zGs:vM 231 zxf:=kF3 zsQ zC zA zq (zu []) zMN
def zhi (p n:Int):Bool:=bif zdH p then zi n 0 7 else false
def zr7 (p n:Int):Int:=bif zhi p n then wor .i64 p (zoZ .i64 1 n) else p
def cv7 {n:Int}(h:i0 n 8=true):wcv .u64 n=n/\ile 0 n=true:=by have:=qF h;exact⟨zWP (by omega) (by omega),qK (by omega)⟩
@[simp] abbrev zjY (p n:Int):Bool:=true
@[simp] abbrev zgX (p n:Int):Int:=zr7 p n
@[simp] abbrev zme (p n:Int):Bool:=zhi p n
def zzH:Run:=rF2 dI dI λb c=>(zjY b c,[aI<|zgX b c,aB<|zme b c])
def zEp (N:Nat)(a b:Int):OA:=
 (oN (zcX a)<|cond (nB<|ze4 a) (some [aI a,aB false])<|oN (zM b 0 7)<|cond (nB<|zi b 0 7) (some [aI a,aB false])<|oN (ile 0<|wcv .u64 b)<|some [aI<|wor .i64 a<|zoZ .i64 1<|wcv .u64 b,aB true])
def zPK (b a:Int)(c:zjY b a=true):∃N,zEp N b a=some [aI<|zgX b a,aB<|zme b a]:=by have d:=@cv7 a;refine⟨0,?_⟩;unfold zEp oN nB;refine j0 rfl (brN (λ_=>?_) λ_=>j0 rfl (brN (λ_=>?_) λ_=>mu ?_));all_goals first|rfl|(simp only [*,zgX,zme,zr7,zhi,cT,cF]<;>rfl)|simp_all[Ty.cells,zgX,zme,zr7,zhi]
def zIZ:vM 233 zzH:=kF2 zsQ zC zA zq (zu []) zPK
def posts (c:Ctl)(n:Int):Bool:=bif zld c then (cond (zi n 0 7) (ieq (wand .i64 (zCu .i64 c.Post n) 1) 1) false) else false
@[simp] abbrev zCb (c:Ctl)(n:Int):Bool:=true
@[simp] abbrev zxk (c:Ctl)(n:Int):Bool:=posts c n
def zE8:Run:=rF2 dC dI λb c=>(zCb b c,[aB<|zxk b c])
def zNM (N:Nat)(b:Ctl)(a:Int):OA:=
 (oN (zfN b)<|cond (zpB b) (oN (zM a 0 7)<|cond (zi a 0 7) (oN (ile 0<|wcv .u64 a)<|some [aB<|ieq (wand .i64 (zCu .i64 b.Post<|wcv .u64 a) 1) 1]) oF) oF)
def zU0 (b:Ctl)(a:Int)(c:zCb b a=true):∃N,zNM N b a=some [aB<|zxk b a]:=by have d:=@cv7 a;refine⟨0,?_⟩;unfold zNM oN;refine j0 rfl (br (λ_=>j0 rfl (br (λ_=>mu ?_) λ_=>?_)) λ_=>?_);all_goals first|rfl|(simp only [*,zxk,posts,cT,cF]<;>rfl)|simp_all[Ty.cells,zxk,posts]
def zPe:vM 243 zE8:=kF2 zsQ zC zA zq (zu []) zU0
def zcd (b:am)(g:Int):Bool:=bif zca b then i0 g (ln b.ad) else false
def zdS {b:am}{g:Int}:(zcd b g=true)↔zca b=true/\i0 g (ln b.ad)=true:=by unfold zcd;cases zca b<;>simp
@[simp] abbrev zfR (b:am)(g:Int):Bool:=pc (SmB b)
@[simp] abbrev zj2 (b:am)(g:Int):Bool:=zcd b g
def zFa:Run:=rF2 (dT .bare) dI λb c=>(zfR b c,[aB<|zj2 b c])
def zNP (N:Nat)(a:am)(b:Int):OA:=
 (oN (zoi a)<|cond (ze3 a) (oN (zM b 0<|wsub .i64 (ln a.ad) 1)<|some [aB<|zi b 0<|wsub .i64 (ln a.ad) 1]) oF)
def zU2 (a:am)(b:Int)(c:zfR a b=true):∃N,zNP N a b=some [aB<|zj2 a b]:=by have d:=zN.1 c;have e:a.ad.length<=1048576:=d.2.1.1;refine⟨0,?_⟩;unfold zNP oN;refine j0 rfl (br (λ_=>j0 rfl ?_) λ_=>?_);all_goals first|rfl|(simp only [*,zj2,zcd,cT,cF]<;>rfl)|simp_all[Ty.cells,zj2,zcd]
def zPg:vM 230 zFa:=kF2 zsQ zC zA zq (zu []) zU2
def z4T:zW:=[(231,zxf),(233,zzH),(243,zE8),(230,zFa)]++z4S
def zkr:zL z4T:=zh zGs (zh zIZ<|zh zPe<|zh zPg zsQ)
def z3E {b:Type}{l:List b}{i:Int}{d:b}(h:i0 i (ln l)=true):up l i (ix l i d)=l:=by obtain⟨k,rfl,a⟩:=zdZ (n:=l.length) h;unfold up;rw[zbl a,kH];exact u2 a
def zsW {b:am}{g:Int}(h:i0 g (ln b.ad)=true):gAt b g=ix b.ad g zF:=by unfold gAt;rw[h];rfl
def z04 {b:am}{g:Int}(h:i0 g (ln b.ad)=true):zeC b g (gAt b g)=b:=by unfold zeC;rw[zsW h,z3E h]
def chg (b:am)(g:Int)(c:Bool)(x:ah):am:=bif (cond (zcd b g) c false) then zeC b g x else b
def zcg (b:am)(g:Int)(c:Bool):Bool:=bif zcd b g then c else false
def zvS (p:Int)(s:k0):Bool:=bif i0 p 4 then zdX s 8 else false
def zCh (x:ah)(p:Int)(s:k0):ah:={x with az:=zeq x.az p s}
def zd5 (x:ah)(p:Int):ah:={x with av:=zeq x.av p (zbC x.az p)}
def zkB:aD:=⟨0,0,false,0⟩
def zvv (x:ah)(v:Int):Bool:=bif zi v 0 99 then (cond (ieq x.Exit.Kind 2) true<|ieq x.Exit.Kind 3) else false
def zxJ (x:ah)(v:Int):ah:=zcf (stopped (cond (ieq x.Exit.Kind 2) {x with A:=v} x) zkB)
def zBR (x:ah):Bool:=bif ieq x.Exit.Kind 1 then true else ieq x.Exit.Kind 4
def zyt (x:ah):ah:=bif ieq x.Exit.Kind 1 then stopped x zkB else held (stopped x zkB)
def znJ (x:ah)(n:Int):ah:={x with ak:=zr7 x.ak n}
def zLd (x:ah)(c:Ctl):ah:={x with Ctl:=c}
def z6U {x:ah}{n:Int}(h:zhi x.ak n=false):znJ x n=x:=by unfold znJ zr7;rw[h];rfl
def z3r {x:ah}(p:Int)(s:k0)(h:SmG x):SmG (zCh x p s):=⟨h.1,by simpa [zCh] using h.2.1,h.2.2.1,h.2.2.2⟩
def zKz {x:ah}(p:Int)(h:SmG x):SmG (zd5 x p):=⟨h.1,h.2.1,by simpa [zd5] using h.2.2.1,h.2.2.2⟩
def z3p {x:ah}(v:Int)(h:SmG x):SmG (zxJ x v):=by unfold zxJ;cases ieq x.Exit.Kind 2<;>exact zk6 h
def z3q {x:ah}(h:SmG x):SmG (zyt x):=by unfold zyt;cases ieq x.Exit.Kind 1;{exact zTJ (g:=stopped x zkB) h};{exact h}
def zpK {b:am}{g:Int}{c:Bool}{x:ah}(h:SmB b)(a:SmG x):SmB (chg b g c x):=by unfold chg;cases (cond (zcd b g) c false);{exact h};{exact zm3 h a}
@[simp] abbrev zqh (b:am)(g p:Int)(s:k0):Bool:=pc (SmB b)
@[simp] abbrev zes (b:am)(g p:Int)(s:k0):am:=chg b g (zvS p s) (zCh (gAt b g) p s)
@[simp] abbrev zff (b:am)(g p:Int)(s:k0):Bool:=zcg b g (zvS p s)
def zrx:Run:=rF4 (dT .bare) dI dI (dT .slot) λb c d e=>(zqh b c d e,[aT .bare<|zes b c d e,aB<|zff b c d e])
def zEa (N:Nat)(f:am)(b c:Int)(d:k0):OA:=
 let a:=zcs f;let e:=ix a.ad b zF; (oN (zdT f)<|oN (zfR a b)<|cond (nB<|zj2 a b) (some [aT .bare a,aB false])<|oN (zM c 0 3)<|cond (nB<|zi c 0 3) (some [aT .bare a,aB false])<|oN (zlA d 8)<|cond (nB<|zic d 8) (some [aT .bare a,aB false])<|oN (inb b<|ln a.ad)<|oN (zot e.az c d)<|oN (inb b<|ln a.ad)<|p0 (up a.ad b ({e with az:=(zlC e.az c d)}:ah)) λg=>some [aT .bare ({a with ad:=g}:am),aB true])
def zPv (b:am)(a c:Int)(d:k0)(e:zqh b a c d=true):∃N,zEa N b a c d=some [aT .bare<|zes b a c d,aB<|zff b a c d]:=by
 have f:=zN.1 e;have g:=zjP a f;have k:zcd b a=true->i0 a (ln b.ad)=true:=λh=>(zdS.1 h).2;have i:zcd b a=true->gAt b a=ix b.ad a zF:=λh=>zsW (zdS.1 h).2;have j:=g.2.1;refine⟨0,?_⟩;unfold zEa oN nB;conv=>zeta
 refine mu (mu<|brN (λ_=>?_) λ_=>j0 rfl (brN (λ_=>?_) λ_=>j0 rfl (brN (λ_=>?_) λ_=>mu (mu<|mu<|shr ?_))));all_goals first|rfl|(simp only [*,zes,zff,chg,zcg,zvS,zCh,zeC,cT,cF]<;>rfl)|simp_all[Ty.cells,zes,zff,chg,zcg,zvS,zCh,zeC]
def zuo:vM 199 zrx:=kF4 zkr zC zA zq (zu []) zPv
@[simp] abbrev zrH (b:am)(g p:Int):Bool:=pc (SmB b)
@[simp] abbrev zeY (b:am)(g p:Int):am:=chg b g (i0 p 4) (zd5 (gAt b g) p)
@[simp] abbrev zhC (b:am)(g p:Int):Bool:=zcg b g (i0 p 4)
def znY:Run:=rF3 (dT .bare) dI dI λb c d=>(zrH b c d,[aT .bare<|zeY b c d,aB<|zhC b c d])
def zy0 (N:Nat)(f:am)(d b:Int):OA:=
 let a:=zcs f;let e:=inb d<|ln a.ad;let c:=ix a.ad d zF; (oN (zdT f)<|oN (zfR a d)<|cond (nB<|zj2 a d) (some [aT .bare a,aB false])<|oN (zM b 0 3)<|cond (nB<|zi b 0 3) (some [aT .bare a,aB false])<|oN e<|oN e<|oN (zjk c.az b)<|oN (zot c.av b<|zhm c.az b)<|oN e<|p0 (up a.ad d ({c with av:=(zlC c.av b<|zhm c.az b)}:ah)) λg=>some [aT .bare ({a with ad:=g}:am),aB true])
def zJG (b:am)(a c:Int)(d:zrH b a c=true):∃N,zy0 N b a c=some [aT .bare<|zeY b a c,aB<|zhC b a c]:=by
 have e:=zN.1 d;have f:=zjP a e;have j:zcd b a=true->i0 a (ln b.ad)=true:=λh=>(zdS.1 h).2;have g:zcd b a=true->gAt b a=ix b.ad a zF:=λh=>zsW (zdS.1 h).2;have i:=f.2.2.1;refine⟨0,?_⟩;unfold zy0 oN nB;conv=>zeta
 refine mu (mu<|brN (λ_=>?_) λ_=>j0 rfl (brN (λ_=>?_) λ_=>mu (mu (j0 rfl (mu<|mu<|shr ?_)))));all_goals first|rfl|(simp only [*,zeY,zhC,chg,zcg,zd5,zeC,cT,cF]<;>rfl)|simp_all[Ty.cells,zeY,zhC,chg,zcg,zd5,zeC]
def zrR:vM 202 znY:=kF3 zkr zC zA zq (zu []) zJG
@[simp] abbrev zlw (b:am)(g v:Int):Bool:=pc (SmB b)
@[simp] abbrev zdr (b:am)(g v:Int):am:=chg b g (zvv (gAt b g) v) (zxJ (gAt b g) v)
@[simp] abbrev zeb (b:am)(g v:Int):Bool:=zcg b g (zvv (gAt b g) v)
def zmT:Run:=rF3 (dT .bare) dI dI λb c d=>(zlw b c d,[aT .bare<|zdr b c d,aB<|zeb b c d])
def zv4 (N:Nat)(i:am)(b e:Int):OA:=
 let a:=zcs i;let h:=inb b<|ln a.ad;let d:=(⟨0,0,false,0⟩:aD);let c:=ix a.ad b zF;let g:=({c with A:=e}:ah); (oN (zdT i)<|oN (zfR a b)<|cond (nB<|zj2 a b) (some [aT .bare a,aB false])<|oN (zM e 0 99)<|cond (nB<|zi e 0 99) (some [aT .bare a,aB false])<|oN h<|cond (ieq c.Exit.Kind 2) (oN (zet g d)<|oN (zbj<|zdW g d)<|oN h<|p0 (up a.ad b<|zeM<|zdW g d) λf=>some [aT .bare ({a with ad:=f}:am),aB true])<|cond (ieq c.Exit.Kind 3) (oN (zet c d)<|oN (zbj<|zdW c d)<|oN h<|p0 (up a.ad b<|zeM<|zdW c d) λf=>some [aT .bare ({a with ad:=f}:am),aB true])<|some [aT .bare a,aB false])
def zGI (b:am)(a c:Int)(d:zlw b a c=true):∃N,zv4 N b a c=some [aT .bare<|zdr b a c,aB<|zeb b a c]:=by
 have e:=zN.1 d;have f:=zjP a e;have j:zcd b a=true->i0 a (ln b.ad)=true:=λh=>(zdS.1 h).2;have g:zcd b a=true->gAt b a=ix b.ad a zF:=λh=>zsW (zdS.1 h).2;have i:_/\_/\_/\_:=f;refine⟨0,?_⟩;unfold zv4 oN nB;conv=>zeta
 refine mu (mu<|brN (λ_=>?_) λ_=>j0 rfl (brN (λ_=>?_) λ_=>mu (br (λ_=>mu (mu<|mu<|shr ?_)) λ_=>br (λ_=>mu (mu<|mu<|shr ?_)) λ_=>?_)));all_goals first|rfl|(simp only [*,zdr,zeb,chg,zcg,zvv,zxJ,zkB,zeC,SmG,stopped,cT,cF]<;>rfl)|simp_all[Ty.cells,zdr,zeb,chg,zcg,zvv,zxJ,zkB,zeC,SmG,stopped]
def zqT:vM 204 zmT:=kF3 zkr zC zA zq (zu []) zGI
@[simp] abbrev zdu (b:am)(g:Int):am:=chg b g (zBR<|gAt b g) (zyt<|gAt b g)
@[simp] abbrev zed (b:am)(g:Int):Bool:=zcg b g (zBR<|gAt b g)
def zmV:Run:=rF2 (dT .bare) dI λb c=>(zfR b c,[aT .bare<|zdu b c,aB<|zed b c])
def zv6 (N:Nat)(g:am)(c:Int):OA:=
 let a:=zcs g;let f:=inb c<|ln a.ad;let d:=(⟨0,0,false,0⟩:aD);let b:=ix a.ad c zF; (oN (zdT g)<|oN (zfR a c)<|cond (nB<|zj2 a c) (some [aT .bare a,aB false])<|oN f<|cond (ieq b.Exit.Kind 1) (oN (zet b d)<|oN f<|p0 (up a.ad c<|zdW b d) λe=>some [aT .bare ({a with ad:=e}:am),aB true])<|cond (ieq b.Exit.Kind 4) (oN (zet b d)<|oN (zbj<|zdW b d)<|oN f<|p0 (up a.ad c<|zxj<|zdW b d) λe=>some [aT .bare ({a with ad:=e}:am),aB true])<|some [aT .bare a,aB false])
def zGK (b:am)(a:Int)(c:zfR b a=true):∃N,zv6 N b a=some [aT .bare<|zdu b a,aB<|zed b a]:=by
 have d:=zN.1 c;have e:=zjP a d;have i:zcd b a=true->i0 a (ln b.ad)=true:=λh=>(zdS.1 h).2;have f:zcd b a=true->gAt b a=ix b.ad a zF:=λh=>zsW (zdS.1 h).2;have g:_/\_/\_/\_:=e;refine⟨0,?_⟩;unfold zv6 oN nB;conv=>zeta
 refine mu (mu<|brN (λ_=>?_) λ_=>mu (br (λ_=>mu (mu<|shr ?_)) λ_=>br (λ_=>mu (mu<|mu<|shr ?_)) λ_=>?_));all_goals first|rfl|(simp only [*,zdu,zed,chg,zcg,zBR,zyt,zkB,zeC,SmG,stopped,cT,cF]<;>rfl)|simp_all[Ty.cells,zdu,zed,chg,zcg,zBR,zyt,zkB,zeC,SmG,stopped]
def zqV:vM 205 zmV:=kF2 zkr zC zA zq (zu []) zGK
def z7Y {b:am}{g:Int}{c:Bool}{x:ah}(h:zcd b g=false):chg b g c x=b:=by unfold chg;rw[h];rfl
def z6d {b:am}{g n:Int}(h:zcd b g=true):chg b g (zhi (gAt b g).ak n) (znJ (gAt b g) n)=zeC b g (znJ (gAt b g) n):=by unfold chg;rw[h];cases a:zhi (gAt b g).ak n;{rw [z6U a,z04 (zdS.1 h).2];rfl};{rfl}
@[simp] abbrev zlx (b:am)(g n:Int):Bool:=pc (SmB b)
@[simp] abbrev zds (b:am)(g n:Int):am:=chg b g (zhi (gAt b g).ak n) (znJ (gAt b g) n)
@[simp] abbrev zec (b:am)(g n:Int):Bool:=zcg b g (zhi (gAt b g).ak n)
def zmU:Run:=rF3 (dT .bare) dI dI λb c d=>(zlx b c d,[aT .bare<|zds b c d,aB<|zec b c d])
def zv5 (N:Nat)(e:am)(b d:Int):OA:=
 let a:=zcs e;let c:=ix a.ad b zF; (oN (zdT e)<|oN (zfR a b)<|cond (nB<|zj2 a b) (some [aT .bare a,aB false])<|oN (inb b<|ln a.ad)<|oN (zjY c.ak d)<|oN (inb b<|ln a.ad)<|p0 (up a.ad b ({c with ak:=(zgX c.ak d)}:ah)) λf=>some [aT .bare ({a with ad:=f}:am),aB<|zme c.ak d])
def zGJ (a:am)(b c:Int)(d:zlx a b c=true):∃N,zv5 N a b c=some [aT .bare<|zds a b c,aB<|zec a b c]:=by
 have i:=zN.1 d;have j:zcd a b=true->i0 b (ln a.ad)=true:=λh=>(zdS.1 h).2;have f:zcd a b=true->gAt a b=ix a.ad b zF:=λh=>zsW (zdS.1 h).2;have g:=@z6d a b c;have e:=@z7Y a b (zhi (gAt a b).ak c) (znJ (gAt a b) c);refine⟨0,?_⟩;unfold zv5 oN nB;conv=>zeta
 refine mu (mu<|brN (λ_=>?_) λ_=>mu (j0 rfl (mu<|shr ?_)));all_goals first|rfl|(simp only [*,zds,zec,zcg,zeC,znJ,cT,cF]<;>rfl)|simp_all[Ty.cells,zds,zec,zcg,zeC,znJ]
def zqU:vM 206 zmU:=kF3 zkr zC zA zq (zu []) zGJ
@[simp] abbrev zqg (b:am)(g:Int)(c:Ctl):Bool:=pc (SmB b)
@[simp] abbrev zer (b:am)(g:Int)(c:Ctl):am:=chg b g (zld c) (zLd (gAt b g) c)
@[simp] abbrev zfe (b:am)(g:Int)(c:Ctl):Bool:=zcg b g (zld c)
def zrv:Run:=rF3 (dT .bare) dI dC λb c d=>(zqg b c d,[aT .bare<|zer b c d,aB<|zfe b c d])
def zD9 (N:Nat)(d:am)(b:Int)(c:Ctl):OA:=
 let a:=zcs d; (oN (zdT d)<|oN (zfR a b)<|cond (nB<|zj2 a b) (some [aT .bare a,aB false])<|oN (zfN c)<|cond (nB<|zpB c) (some [aT .bare a,aB false])<|oN (inb b<|ln a.ad)<|p0 (up a.ad b ({ (ix a.ad b zF) with Ctl:=c}:ah)) λe=>some [aT .bare ({a with ad:=e}:am),aB true])
def zPu (a:am)(b:Int)(c:Ctl)(d:zqg a b c=true):∃N,zD9 N a b c=some [aT .bare<|zer a b c,aB<|zfe a b c]:=by
 have f:=zN.1 d;have g:zcd a b=true->i0 b (ln a.ad)=true:=λh=>(zdS.1 h).2;have e:zcd a b=true->gAt a b=ix a.ad b zF:=λh=>zsW (zdS.1 h).2;refine⟨0,?_⟩;unfold zD9 oN nB;conv=>zeta
 refine mu (mu<|brN (λ_=>?_) λ_=>j0 rfl (brN (λ_=>?_) λ_=>mu (shr ?_)));all_goals first|rfl|(simp only [*,zer,zfe,chg,zcg,zLd,zeC,cT,cF]<;>rfl)|simp_all[Ty.cells,zer,zfe,chg,zcg,zLd,zeC]
def zun:vM 207 zrv:=kF3 zkr zC zA zq (zu []) zPu
def z5J (p c v:Int):Bool:=bif i0 p 8 then (cond (i0 c 4) (zi v 0 99) false) else false
def zwH (b:am)(p c v:Int):Bool:=bif zca b then z5J p c v else false
def zQB (b:am)(p c v:Int):am:=bif zwH b p c v then {b with ag:=zbM b.ag p c v} else b
def zmK (b:am):am:=bif zca b then {b with ak:=zjS b.ak} else b
def zsI (b:am):Int:=bif zca b then ztb b.ak else -1
def zmq (b:am):Bool:=bif zca b then !ilt (zd8 b.ak) 0 else false
def znC (b:am)(g a n:Int):Bool:=bif zcd b g then (cond (zi a 0 15) (zfD (gAt b g).av (zbh a) n) false) else false
def zCE (b:am)(g a n:Int):Int:=zcF (gAt b g).av (zbh a) n
def zxY (b:am)(g a v:Int):Bool:=bif znC b g a 2 then zi v 0 99 else false
def zXm (b:am)(g a v:Int):am:=bif zxY b g a v then {b with ag:=zbM b.ag (zCE b g a 2) (zdl a) v} else b
def zQF (b:am)(g a:Int):Int:=bif znC b g a 1 then cellAt b.ag (zCE b g a 1) (zdl a) else 0
@[simp] abbrev zeS (b:am):am:=zmK b
@[simp] abbrev zf7 (b:am):Int:=zsI b
@[simp] abbrev zf8 (b:am):Bool:=zmq b
def zru:Run:=rF1 (dT .bare) λb=>(zdT b,[aT .bare<|zeS b,aI<|zf7 b,aB<|zf8 b])
def zD8 (N:Nat)(b:am):OA:=
 let a:=zcs b; (oN (zdT b)<|oN (zoi a)<|cond (nB<|ze3 a) (some [aT .bare a,aI<|-1,aB false])<|oN (zcX a.ak)<|some [aT .bare ({a with ak:=(zjZ a.ak)}:am),aI<|zj0 a.ak,aB<|zmf a.ak])
def zPt (a:am)(b:zdT a=true):∃N,zD8 N a=some [aT .bare<|zeS a,aI<|zf7 a,aB<|zf8 a]:=by
 have c:=zN.1 b;refine⟨0,?_⟩;unfold zD8 oN nB;conv=>zeta
 refine mu (j0 rfl (brN (λ_=>?_) λ_=>j0 rfl ?_));all_goals first|rfl|(simp only [*,zeS,zf7,zf8,zmK,zsI,zmq,zjS,ztb,cT,cF]<;>rfl)|simp_all[Ty.cells,zeS,zf7,zf8,zmK,zsI,zmq,zjS,ztb]
def zum:vM 210 zru:=kF1 zkr zC zA zq (zu []) zPt
def z4U:zW:=z4T
def zRm:zL z4U:=zkr
def zem (l:List ah)(n:Int):LI:=idxs (λ(x:ah)=>posts x.Ctl n) l 0
def zR1 {d:Type}(p:d->Bool):∀(l:List d) (i:Nat),∀k∈idxs p l i,(i:Int)<=k/\k<(i:Int)+l.length
 |[],_,k,a=>by cases a
 |x::l,i,k,a=>by have c:=zR1 p l (i+1);simp only[qZ];unfold idxs at a;cases b:p x;{rw [b]at a;have:=c k a;omega};{rw [b]at a;rcases qG.1 a with rfl|a;{omega};{have:=c k a;omega}}
@[simp] abbrev zhl (b:am)(n:Int):Bool:=pc (SmB b)
@[simp] abbrev zly (b:am)(n:Int):LI:=zem b.ad n
def zw9:Run:=rF2 (dT .bare) dI λb c=>(zhl b c,[aS .int<|zly b c])
def zAC (N:Nat)(c:am)(f:Int):OA:=
 (iter (σ:=(Int×Int×Int×LI×lM×lG×LI×Unit)) N (λd a=>let c:=a.2.2.2.2;let b:=c.2.1;let e:=(ix b a.2.1 zF).Ctl; (cond (ilt a.2.1<|ln b) (oN (inb a.2.1<|ln b)<|oN (zCb e a.1)<|cond (zxk e a.1) (oN (few<|ln<|ap a.2.2.2.1 [a.2.1])<|d (a.1,zO .i64 a.2.1 1,a.2.2.1,ap a.2.2.2.1 [a.2.1],c.1,b,c.2.2.1,()))<|d (a.1,zO .i64 a.2.1 1,a.2.2.1,a.2.2.2.1,c.1,b,c.2.2.1,()))<|some [aS .int a.2.2.2.1])) (f,0,c.ak,[],c.ag,c.ad,c.Outs,()))
def zNn:=zu [(236,0,{n:=28,tm:=[(1,ti),(2,.lp 0 0),(5,.sl 0 []),(6,ti)],lo:=[(0,[.sl 1 [],.sl 2 [],.sl 3 [],ti])],ro:=[(0,.int,true),(1,.sl .int,false),(2,.guest,false),(3,.int,false)]})]
def zMD (a:am)(b:Int)(g:zhl a b=true):∃N,zAC N a b=some [aS .int<|zly a b]:=by
 have h:=zN.1 g;have e:=zcP h.2.1.1;refine zct λN d=>?_;unfold zAC oN;conv=>zeta
 refine(zbo a.ad (λi (t:LI)=>(b,(i:Int),a.ak,t,a.ag,a.ad,a.Outs,())) _ (λi (x:ah) (t:LI) f=>bif posts x.Ctl b then (cond (few<|ln<|ap t [(i:Int)]) (f<|ap t [(i:Int)]) none) else f t) (λ(t:LI)=>some [.one<|.s .int t]) (λi c t rec=>?_) (λt rec=>?_) _ ([])<|d e.1).trans ?_;{simp only [zbx c,zbe c,zbl c,zbg c e.1,cT]};{simp only [zbp,cF]};exact zsY (λ(x:ah)=>posts x.Ctl b) _ a.ad 0 [] (by simpa using e.2)
def zGj:vM 236 zw9:=kF2 zRm zC zA zq zNn zMD
def z4V:zW:=[(236,zw9)]++z4U
def zRn:zL z4V:=zh zGj zRm
def zCX (n:Int)(l:List ah)(k:Int):List ah:=up l k (znJ (ix l k zF) n)
def zlp (n:Int)(a:LI)(l:List ah):List ah:=a.foldl (zCX n) l
def zBO (n:Int)(l:List ah)(k:Int):(zCX n l k).length=l.length:=zgK _ _ _
def zYL {n:Int}{l:List ah}{k:Int}(a:i0 k (ln l)=true)(h:zkl l):zkl (zCX n l k):=zC4 h (z1b h a _)
def zCl {n:Int}:∀(a:LI) {l:List ah},(∀k∈a,i0 k (ln l)=true)->zkl l->zkl (zlp n a l)/\(zlp n a l).length=l.length
 |[],_,_,h=>⟨h,rfl⟩
 |k::a,l,b,h=>by have e:=zYL (n:=n) (b k (by simp)) h;obtain⟨c,d⟩:=zCl (n:=n) a (l:=zCX n l k) (λj f=>by rw[ln,zBO];exact b j (by simp[f])) e;exact⟨c,d.trans<|zBO _ _ _⟩
def zRM {e:Type}(n:Int)(K:List ah->Option e):∀(a:LI) (i:Nat) (l:List ah),(∀k∈a,i0 k (ln l)=true)->
 goL (λ_ k (t:List ah) d=>bif inb k (ln t) then (cond (inb k<|ln t) (d<|up t k<|znJ (ix t k zF) n) none) else none) K a i l=K (zlp n a l)
 |[],_,_,_=>rfl
 |k::a,i,l,h=>by have c:inb k (ln l)=true:=h k (by simp);simp only[goL,c,cT];exact zRM n K a (i+1) (zCX n l k) (λj b=>by rw[ln,zBO];exact h j (by simp[b]))
def zCY (b:am)(n:Int):am:=bif ieq (ln<|zem b.ad n) 0 then {b with ak:=zr7 b.ak n} else {b with ad:=zlp n (zem b.ad n) b.ad}
def zfI (b:am)(n:Int):Bool:=bif zca b then i0 n 8 else false
def zka (b:am)(n:Int):am:=bif zfI b n then zCY b n else b
def zKa {b:am}{n:Int}:∀k∈zem b.ad n,i0 k (ln b.ad)=true:=λk a=>by have:=zR1 _ _ _ k a;exact qK (by simp only[ln];omega)
def zYc {b:am}{n:Int}(h:ieq (ln<|zem b.ad n) 0=true):zlp n (zem b.ad n) b.ad=b.ad:=by have a:((zem b.ad n).length:Int)=0:=qF h;have:zem b.ad n=[]:=uS.1 (by omega);rw[this];rfl
def zYb {b:am}{n:Int}:(cond (ieq (ln<|zem b.ad n) 0) (some [AV.agg<|Ty.cells .bare ⟨b.ag,zlp n (zem b.ad n) b.ad,b.Outs,zr7 b.ak n⟩,AV.one<|.b true])<|some [AV.agg<|Ty.cells .bare ⟨b.ag,zlp n (zem b.ad n) b.ad,b.Outs,b.ak⟩,AV.one<|.b true])=some [AV.agg<|Ty.cells .bare<|zCY b n,AV.one<|.b true]:=by unfold zCY;cases h:ieq (ln<|zem b.ad n) 0;{rfl};{simp only [cT,zYc h]}
@[simp] abbrev zeT (b:am)(n:Int):am:=zka b n
@[simp] abbrev zgn (b:am)(n:Int):Bool:=zfI b n
def zpu:Run:=rF2 (dT .bare) dI λb c=>(zhl b c,[aT .bare<|zeT b c,aB<|zgn b c])
def zAt (N:Nat)(i:am)(e:Int):OA:=
 let b:=zcs i; (oN (zdT i)<|oN (zoi b)<|cond (nB<|ze3 b) (some [aT .bare b,aB false])<|oN (zM e 0 7)<|cond (nB<|zi e 0 7) (some [aT .bare b,aB false])<|oN (zhl b e)<|iter (σ:=(Int×Int×Int×Int×LI×lM×lG×LI×lM×lG×LI×Unit)) N (λj a=>let b:=a.2.2.2.2.2;let h:=b.2.2.1;let d:=a.2.2.2.2.1;let c:=b.2.1;let f:=ix d a.2.1 0;let g:=ix c f zF; (cond (ilt a.2.1<|ln d) (oN (inb a.2.1<|ln d)<|oN (inb a.2.1<|ln d)<|oN (inb f<|ln c)<|oN (zjY g.ak a.1)<|oN (inb f<|ln c)<|j (a.1,zO .i64 a.2.1 1,a.2.2.1,a.2.2.2.1,d,b.1,up c f ({g with ak:=(zgX g.ak a.1)}:ah),h,b.2.2.2.1,b.2.2.2.2.1,b.2.2.2.2.2.1,()))<|cond (ieq (ln d) 0) (oN (zjY a.2.2.1 a.1)<|some [aT .bare (⟨b.1,c,h,zgX a.2.2.1 a.1⟩:am),aB true])<|some [aT .bare (⟨b.1,c,h,a.2.2.1⟩:am),aB true])) (e,0,b.ak,0,zly b e,b.ag,b.ad,b.Outs,[],[],[],()))
def zNj:=zu [(209,0,{n:=62,tm:=[(1,ti),(2,.lp 0 0),(4,.lp 1 0),(6,.sl 0 []),(7,ti)],lo:=[(0,[.sl 1 [],.sl 2 [],.sl 3 [],ti]),(1,[.sl 4 [],.sl 5 [],.sl 6 [],ti])],ro:=[(0,.int,true),(1,.sl .int,true),(2,.guest,true),(3,.int,true),(4,.sl .int,true),(5,.guest,true),(6,.int,true)]})]
def zMt (a:am)(c:Int)(l:zhl a c=true):∃N,zAt N a c=some [aT .bare<|zeT a c,aB<|zgn a c]:=by
 have h:=zN.1 l;have j:(zem a.ad c).length<=big:=qS (zyc _ _ _) (zcP h.2.1.1).1;refine zct λN g=>?_;unfold zAt zeT zgn zka zfI oN nB;conv=>zeta
 refine j0 (zbs h) (j0 rfl (brN (λe=>?_) λe=>j0 rfl (brN (λd=>?_) λd=>j0 (zbs h) ?_)));{simp only [show zca a=false from e,cF]};{simp only [show zca a=true from e,show i0 c 8=false from by first|exact d|exact(z1s c).symm.trans d,cT,cF]};simp only[show zca a=true from e,show i0 c 8=true from by first|exact d|exact(z1s c).symm.trans d,cT];refine(zbo (zly (zcs a) c) (λi (t:lG)=>(c,(i:Int),(zcs a).ak,0,zly (zcs a) c,(zcs a).ag,t,(zcs a).Outs,[],[],[],())) _ (λ_ k (t:List ah) m=>bif inb k (ln t) then (cond (inb k<|ln t) (m<|up t k<|znJ (ix t k zF) c) none) else none) (λ(t:lG)=>cond (ieq (ln<|zly (zcs a) c) 0) (cond (zjY (zcs a).ak c) (some [.agg<|Ty.cells .bare (⟨(zcs a).ag,t,(zcs a).Outs,zgX (zcs a).ak c⟩:am),.one<|.b true]) none)<|some [.agg<|Ty.cells .bare (⟨(zcs a).ag,t,(zcs a).Outs,(zcs a).ak⟩:am),.one<|.b true]) (λi f t rec=>?_) (λt rec=>?_) _ ((zcs a).ad)<|g j).trans ?_;{simp only [zbx f,zbe f,zbl f,zbg f j,cT];rfl};{simp only [zbp,cF];rfl};exact(zRM c _ _ 0 _ zKa).trans zYb
def zs4:vM 209 zpu:=kF2 zRn zC zA zq zNj zMt
def zY9:zW:=[(199,zrx),(202,znY),(204,zmT),(205,zmV),(206,zmU),(207,zrv),(210,zru),(209,zpu)]++z4V
def zAZ:zL zY9:=zh zuo (zh zrR<|zh zqT<|zh zqV<|zh zqU<|zh zun<|zh zum<|zh zs4 zRn)
def z1j {n:Int}(h:(ieq n 4||ieq n 8)=true):n=4\/n=8:=by rcases kJ _ _ ▸ h with h|h;{exact .inl (qF h)};{exact .inr (qF h)}
def z0q {n:Int}(h:(ieq n 8||ieq n 12)=true):n=8\/n=12:=by rcases kJ _ _ ▸ h with h|h;{exact .inl (qF h)};{exact .inr (qF h)}
@[simp] abbrev ziM (n:Int):Bool:=ieq n 4||ieq n 8
@[simp] abbrev zgR (n:Int):List k0:=List.replicate n.toNat ⟨-1,0⟩
def zpy:Run:=rF1 dI λb=>(ziM b,[aS .slot<|zgR b])
def zQS (N:Nat)(b:Int):OA:=
 (oN (zqi b 0 24)<|iter (σ:=(Int×lS×Unit)) N (λc a=>cond (igt a.1 0) (oN zbT<|oN (few<|ln<|ap a.2.1 [zbi])<|c (wsub .i64 a.1 1,ap a.2.1 [zbi],()))<|some [aS .slot a.2.1]) (zq5 b 0 24,[],()))
def zNp:=zu [(56,0,{n:=17,tm:=[(3,.sl 0 []),(4,ti)],lo:=[],ro:=[(0,.slot,true)]})]
def zMJ (a:Int)(b:ziM a=true):∃N,zQS N a=some [aS .slot<|zgR a]:=by refine⟨30,?_⟩;have h:a=4\/a=8:=z1j b;rcases h with rfl|rfl<;>(change _=_;kernel_rfl)
def zs7:vM 56 zpy:=kF1 zAZ zC zA zq zNp zMJ
@[simp] abbrev zop (n:Int):Bool:=ieq n 8||ieq n 12
@[simp] abbrev zjj (n:Int):List LI:=List.replicate n.toNat [0,0,0,0]
def zts:Run:=rF1 dI λb=>(zop b,[aS (.sl .int)<|zjj b])
def zWR (N:Nat)(b:Int):OA:=
 (oN (zqi b 0 24)<|iter (σ:=(Int×lM×Unit)) N (λc a=>cond (igt a.1 0) (oN (cond (few 4) (ieq 4 4) false)<|oN (few<|ln<|ap a.2.1 [rp 4 0])<|c (wsub .i64 a.1 1,ap a.2.1 [rp 4 0],()))<|some [aS (.sl .int) a.2.1]) (zq5 b 0 24,[],()))
def zT6:=zu [(28,0,{n:=17,tm:=[(3,.sl 0 []),(4,ti)],lo:=[],ro:=[(0,.sl .int,true)]})]
def zSq (a:Int)(b:zop a=true):∃N,zWR N a=some [aS (.sl .int)<|zjj a]:=by refine⟨30,?_⟩;have h:a=8\/a=12:=z0q b;rcases h with rfl|rfl<;>(change _=_;kernel_rfl)
def zwr:vM 28 zts:=kF1 zAZ zC zA zq zT6 zSq
def zZa:zW:=[(56,zpy),(28,zts)]++zY9
def zN2:zL zZa:=zh zs7 (zh zwr zAZ)
def zk5:List k0:=List.replicate 4 ⟨-1,0⟩
def ze1 (p:List Ins):ah:=⟨p,0,0,zk5,zk5,⟨0,0,false⟩,0,⟨0,0,false,0⟩,false,[]⟩
@[simp] abbrev ziK (p:List Ins):Bool:=pc (p.length<=1048576)
@[simp] abbrev zco (p:List Ins):ah:=ze1 p
def zlt:Run:=rF1 (dS .ins) λb=>(ziK b,[aT .guest<|zco b])
def zAw (N:Nat)(a:lI):OA:=
 (oN (few<|ln<|ap [] a)<|oN (ziM 4)<|oN (ziM 4)<|some [aT .guest (⟨ap [] a,0,0,zgR 4,zgR 4,⟨0,0,false⟩,0,⟨0,0,false,0⟩,false,[]⟩:ah)])
def zMx (a:List Ins)(b:ziK a=true):∃N,zAw N a=some [aT .guest<|zco a]:=by have c:=zN.1 b;refine⟨0,?_⟩;unfold zAw oN;refine mu (j0 rfl (j0 rfl ?_));first|rfl|(simp only [*,zco,ze1,zk5,cT,cF]<;>rfl)|simp_all[Ty.cells,zco,ze1,zk5]
def zmP:vM 57 zlt:=kF1 zN2 zC zA zq (zu []) zMx
def z8k:zW:=[(57,zlt)]++zZa
def zA0:zL z8k:=zh zmP zN2
def zMU:List LI:=List.replicate 8 [0,0,0,0]
def z7U (a:List (List Ins)):Prop:=a.length<=1048576/\∀p∈a,p.length<=1048576
def zOx {d c j:Type}(m:Nat)(f:d->c)(K:List c->Option j):∀(l:List d) (i:Nat) (a:List c),a.length+l.length<=2147483648->
 goL (λ(i:Nat) x a k=>bif ilt (i:Int) (m:Int) then (cond (few<|ln<|ap a [f x]) (k<|ap a [f x]) none) else K a) K l i a=K (a++(l.take<|m-i).map f)
 |[],i,a,_=>by simp[goL]
 |x::l,i,a,g=>by simp only[qZ]at g;have e:few (ln<|ap a [f x])=true:=zgI (by simp[ap];omega);by_cases h:i<m;{have b:ilt (i:Int) (m:Int)=true:=qK (by omega);simp only[goL,b,e,cT];rw[zOx m f K l (i+1) (ap a [f x]) (by simp[ap];omega)];rw[show m-i=m-(i+1)+1 by omega];simp[ap]};{have b:ilt (i:Int) (m:Int)=false:=qQ (by omega);simp only[goL,b,cF];rw[show m-i=0 by omega];simp}
@[simp] abbrev znh (a:GAct):Bool:=true
@[simp] abbrev zxi (a:GAct):Bool:=zi a.Kind 1 17
def zE4:Run:=rF1 (dT .act) λb=>(znh b,[aB<|zxi b])
def zNC (N:Nat)(a:GAct):OA:=
 (oN (zM a.Kind 1 17)<|some [aB<|zi a.Kind 1 17])
def zUS (a:GAct)(b:znh a=true):∃N,zNC N a=some [aB<|zxi a]:=by refine⟨0,?_⟩;unfold zNC oN;refine j0 rfl ?_;first|rfl|(simp only [*,zxi,cT,cF]<;>rfl)|simp_all[Ty.cells,zxi]
def zO5:vM 166 zE4:=kF1 zA0 zC zA zq (zu []) zUS
@[simp] abbrev zvL (k:Int):Bool:=true
@[simp] abbrev zq6 (k:Int):Bool:=zi k 13 17
def zzC:Run:=rF1 dI λb=>(zvL b,[aB<|zq6 b])
def zEk (N:Nat)(a:Int):OA:=
 (oN (zM a 13 17)<|some [aB<|zi a 13 17])
def zPE (a:Int)(b:zvL a=true):∃N,zEk N a=some [aB<|zq6 a]:=by refine⟨0,?_⟩;unfold zEk oN;refine j0 rfl ?_;first|rfl|(simp only [*,zq6,cT,cF]<;>rfl)|simp_all[Ty.cells,zq6]
def zIU:vM 167 zzC:=kF1 zA0 zC zA zq (zu []) zPE
@[simp] abbrev zpA (a:GAct):Ctl:=⟨a.X,a.Y,ieq a.Z 1⟩
def zE5:Run:=rF1 (dT .act) λb=>(znh b,[.agg<|zlP<|zpA b])
def zND (N:Nat)(a:GAct):OA:=
 (some [.agg [.i .i64 a.X,.i .i64 a.Y,.b<|ieq a.Z 1]])
def zUT (a:GAct)(b:znh a=true):∃N,zND N a=some [.agg<|zlP<|zpA a]:=by refine⟨0,?_⟩;unfold zND;first|rfl|(simp only [*,zpA,cT,cF]<;>rfl)|simp_all[Ty.cells,zpA]
def zO6:vM 176 zE5:=kF1 zA0 zC zA zq (zu []) zUT
def zRi:zW:=[(199,zrx),(202,znY),(204,zmT),(205,zmV),(206,zmU),(207,zrv),(210,zru),(209,zpu),(28,zts)]++z4R
def zA2:zL zRi:=zh zuo (zh zrR<|zh zqT<|zh zqV<|zh zqU<|zh zun<|zh zum<|zh zs4<|zh zwr z2i)
def zc2 (x:Mon):am:=⟨zMU,x.ad,x.Outs,x.ak⟩
def zt3 (x:Mon)(b:am):Mon:={x with ad:=b.ad,ak:=b.ak}
def zdd (h:ac)(m:Int)(b:am):ac:={h with aa:=up h.aa m (zt3 (ix h.aa m mZ) b)}
@[simp] abbrev zeV (x:Mon):Bool:=pc (zfm x)
@[simp] abbrev zbP (x:Mon):am:=zc2 x
def zzQ:Run:=rF1 (dT .mon) λb=>(zeV b,[aT .bare<|zbP b])
def zEA (N:Nat)(a:Mon):OA:=
 (oN (zop 8)<|oN (zfQ a.ad)<|oN (few<|ln<|ap [] a.Outs)<|some [aT .bare (⟨zjj 8,zgf a.ad,ap [] a.Outs,a.ak⟩:am)])
def zP1 (a:Mon)(c:zeV a=true):∃N,zEA N a=some [aT .bare<|zbP a]:=by have b:=zN.1 c;refine⟨0,?_⟩;unfold zEA oN;exact j0 rfl (j0 (zbs<|(zua _).2 b.2.2.2.1) (j0 (zna b.2.2.2.2.1) rfl))
def zJo:vM 200 zzQ:=kF1 zA2 zC zce ziV (zu []) zP1
@[simp] abbrev zeU (h:ac)(m:Int)(b:am):Bool:=pc (i0 m (ln h.aa)=true/\zkl b.ad)
@[simp] abbrev zg2 (h:ac)(m:Int)(b:am):ac:=zdd h m b
def z88 {l:List Mon}{m:Int}(a:i0 m (ln l)=true)(b:am):inb m (ln<|up l m {ix l m mZ with ad:=b.ad})=true/\
 up (up l m {ix l m mZ with ad:=b.ad}) m {ix (up l m {ix l m mZ with ad:=b.ad}) m mZ with ak:=b.ak}=up l m (zt3 (ix l m mZ) b):=by
 obtain⟨k,rfl,c⟩:=zdZ (n:=l.length) a;refine⟨zI (by rw[ln,zgK];exact a),?_⟩
 rw[zvg,zd9 c];rfl
def zrG:LW
 |[.agg [.s (.sl .int) b,.s .mon c,.s .entry d,.s .entry e],.one<|.i .i64 f,.agg [.s (.sl .int) g,.s .guest h,.s .int j,.i .i64 k]]=>some (zeU (⟨b,c,d,e⟩:ac) f (⟨g,h,j,k⟩:am),[aH<|zg2 (⟨b,c,d,e⟩:ac) f (⟨g,h,j,k⟩:am)])
 |_=>none
def zvt (N:Nat)(b:ac)(a:Int)(c:am):OA:=
 (oN (zfQ c.ad)<|oN (inb a<|ln b.aa)<|p0 (up b.aa a ({ (ix b.aa a zk) with ad:=(zgf c.ad)}:Mon)) λd=>oN (inb a<|ln d)<|p0 (up d a ({ (ix d a zk) with ak:=c.ak}:Mon)) λe=>some [aH ({b with aa:=e}:ac)])
def zSV (N:Nat)(a:ac)(b:Int)(c:am):zXo (cQ zRi zpi zYa z3D) (zu []) N 12 201 [true,true,true,true,false,false,false,false,false] [aH a,aI b,aT .bare c]=zvt N a b c:=by kernel_rfl
def zP0 (b:ac)(c:Int)(a:am)(i:zbV big [aH b,aI c,aT .bare a])(h:zeU b c a=true):∃N,zvt N b c a=some [aH<|zg2 b c a]:=by obtain⟨d,hg⟩:=zN.1 h;obtain⟨f,g⟩:=z88 d a;refine⟨0,?_⟩;unfold zvt oN;refine j0 (zbs<|(zua _).2 hg) (j0 (zI d)<|shr<|j0 f<|shr ?_);have e:zgf a.ad=a.ad:=rfl;rw[e];show some [AV.agg<|zbn {b with aa:=_}]=some [AV.agg<|zbn {b with aa:=_}];rw[show zk=mZ from rfl,g]
def zJn:zef Tryz.prog 201 [true,true,true,true,false,false,false,false,false] none zrG:=by refine zLp (zfU zA2 zC zce ziV) (ziq (by kernel_rfl)) (by kernel_rfl) ?_;intro a g f e h;have c:=zit e;unfold zrG at h;split at h;{obtain⟨d,rfl⟩:=zeo h;obtain⟨N,b⟩:=zP0 _ _ _ (by exact c) d;exact⟨_,N,12,(zSV N _ _ _ ).trans b⟩};{cases h}
def zZf:zW:=[(200,zzQ)]++zRi
def ziW:zL zZf:=zh zJo zA2
def z9D:zfn:=[(201,[true,true,true,true,false,false,false,false,false],none,zrG)]++z3D
def zdn:zej z9D:=zm5 ziV (by
 intro x a;simp only[qG,qO,or_false]at a;rcases a with rfl
 .exact zJn)
def z5Q (h:ac)(m:Int)(a:Bool)(B:am)(b c:ac->Ans):OA:=
 bif zbu h then (cond (zfC h m) (cond (cond (zfB h m) false true) (some<|b h)<|cond (inb m<|ln h.aa) (cond (zeV<|ix h.aa m mZ) (cond a (cond (zeU h m B) (some<|c<|zdd h m B) none) none) none) none) none) else none
def zcB {h:ac}{m:Int}:(zcV h m=true)↔zb5 h=true/\i0 m (ln h.aa)=true:=by unfold zcV;cases zb5 h<;>simp
def zm7 {h:ac}{m:Int}{cB:Bool}{B:am}{o0 o1:ac->Ans}(c:SmH h)(e:zcV h m=true->cB=true)(d:zcV h m=true->SmB B):z5Q h m cB B o0 o1=some (cond (zcV h m) (o1<|zdd h m B)<|o0 h):=by unfold z5Q;refine j0 (zbs<|(zU h).2 c) (j0 rfl ?_);rw[show zfB h m=zcV h m from rfl];cases a:zcV h m;{rfl};{have b:=(zcB.1 a).2;exact zdM rfl (j0 (zI b)<|j0 (zbs<|c.2.1.2 _<|zbF b _)<|j0 (e a) (j0 (zbs ⟨b,(d a).2.1⟩) rfl))}
structure SameB (b c:am):Prop where
 g:b.ad=c.ad
 p:b.ak=c.ak
 o:zca b=zca c
def SameB.at {b c:am}(h:SameB b c)(g:Int):gAt b g=gAt c g:=by unfold gAt;rw[h.g]
def SameB.has {b c:am}(h:SameB b c)(g:Int):zcd b g=zcd c g:=by unfold zcd;rw[h.g,h.o]
def back_eq {h:ac}{m:Int}{b c:am}(hg:b.ad=c.ad)(a:b.ak=c.ak):zdd h m b=zdd h m c:=by unfold zdd zt3;rw[hg,a]
def zo6 {b c:am}(a:SameB b c)(h:ac)(m g:Int)(k:Bool)(x:ah):zdd h m (chg b g k x)=zdd h m (chg c g k x):=by unfold chg;rw[a.has];cases (cond (zcd c g) k false);{exact back_eq a.g a.p};{exact back_eq (by simp only[cT,zeC,a.g]) a.p}
def zlc {b c:am}(a:SameB b c)(g:Int)(k:Bool):zcg b g k=zcg c g k:=by unfold zcg;rw[a.has]
def ziZ {h:ac}{m:Int}(b:zcV h m=true)(d:zca (zc2<|ix h.aa m mZ)=true):SameB (zc2<|ix h.aa m mZ) (zK h m):=by obtain⟨c,a⟩:=zcB.1 b;refine⟨?_,?_,d.trans (zED c a).symm⟩<;>unfold zK zc2<;>rw [a]<;>rfl
def z6Z:zhO zMU 8=true:=by decide
def zno {h:ac}{m:Int}(b:zcV h m=true):zca (zc2<|ix h.aa m mZ)=true:=by obtain⟨c,a⟩:=zcB.1 b;have:=zED c a;unfold zK at this;rw[a,cT] at this;unfold zca at this ⊢;simp only[zc2,z6Z] at *;simp_all
def ze5 {x:Mon}(h:zfm x):SmB (zc2 x):=⟨show SmM zMU from ⟨by decide,by decide⟩,h.2.2.2.1,h.2.2.2.2.1⟩
def zhu (h:ac)(m:Int)(b:am):ac:=bif zcV h m then zdd h m b else h
def zgw (h:ac)(m:Int)(ok:Bool):Bool:=bif zcV h m then ok else false
@[simp] abbrev zl4 (h:ac)(m:Int)(g p:Int)(s:k0):ac:=zhu h m (zes (zK h m) g p s)
@[simp] abbrev zl5 (h:ac)(m:Int)(g p:Int)(s:k0):Bool:=zgw h m (zff (zK h m) g p s)
@[simp] abbrev ziB (h:ac)(m:Int)(g v:Int):ac:=zhu h m (zdr (zK h m) g v)
@[simp] abbrev ziC (h:ac)(m:Int)(g v:Int):Bool:=zgw h m (zeb (zK h m) g v)
@[simp] abbrev ziF (h:ac)(m:Int)(g:Int):ac:=zhu h m (zdu (zK h m) g)
@[simp] abbrev ziG (h:ac)(m:Int)(g:Int):Bool:=zgw h m (zed (zK h m) g)
@[simp] abbrev ziD (h:ac)(m:Int)(g n:Int):ac:=zhu h m (zds (zK h m) g n)
@[simp] abbrev ziE (h:ac)(m:Int)(g n:Int):Bool:=zgw h m (zec (zK h m) g n)
@[simp] abbrev zl2 (h:ac)(m:Int)(g:Int)(x:Ctl):ac:=zhu h m (zer (zK h m) g x)
@[simp] abbrev zl3 (h:ac)(m:Int)(g:Int)(x:Ctl):Bool:=zgw h m (zfe (zK h m) g x)
@[simp] abbrev zky (h:ac)(m:Int)(n:Int):ac:=zhu h m (zeT (zK h m) n)
@[simp] abbrev zkz (h:ac)(m:Int)(n:Int):Bool:=zgw h m (zgn (zK h m) n)
@[simp] abbrev zlZ (h:ac)(m:Int):ac:=zhu h m (zeS<|zK h m)
@[simp] abbrev zl0 (h:ac)(m:Int):Int:=bif zcV h m then zf7 (zK h m) else -1
@[simp] abbrev zl1 (h:ac)(m:Int):Bool:=zgw h m (zf8<|zK h m)
@[simp] abbrev zjA (h:ac)(m g p:Int):Bool:=zgw h m (zcg (zK h m) g<|i0 p 4)
def z0M {b c:am}(a:SameB b c)(n:Int):(zka b n).ad=(zka c n).ad/\(zka b n).ak=(zka c n).ak/\zfI b n=zfI c n:=by have e:zfI b n=zfI c n:=(by unfold zfI;rw[a.o]);unfold zka;rw[e];cases zfI c n;{exact⟨a.g,a.p,rfl⟩};{unfold zCY;rw[a.g];cases ieq (ln<|zem c.ad n) 0;{exact⟨by simp only[cT,cF],by simp only[cT,cF,a.p],rfl⟩};{exact⟨by simp only[cT,a.g],by simp only[cT,a.p],rfl⟩}}
def z1v {b c:am}(a:SameB b c):(zmK b).ad=(zmK c).ad/\(zmK b).ak=(zmK c).ak/\zsI b=zsI c/\zmq b=zmq c:=by unfold zmK zsI zmq;rw[a.o,a.p];cases zca c;{exact⟨a.g,a.p,rfl,rfl⟩};{exact⟨a.g,rfl,rfl,rfl⟩}
def z1a {b:am}{n:Int}(h:SmB b):SmB (zka b n):=by unfold zka;cases zfI b n;{exact h};{unfold zCY;cases ieq (ln<|zem b.ad n) 0;{exact⟨h.1,(zCl _ zKa h.2.1).1,h.2.2⟩};{exact h}}
def z3o {b:am}(h:SmB b):SmB (zmK b):=by unfold zmK;cases zca b;{exact h};{exact h}
def zsp {H a:ac}{x y:Bool}(c:H=a)(d:x=y):some [AV.agg<|zbn H,AV.one<|.b x]=some [AV.agg<|zbn a,AV.one<|.b y]:=by rw[c,d]
def z6g {H a:ac}{n k:Int}{x y:Bool}(c:H=a)(d:n=k)(e:x=y):some [AV.agg<|zbn H,AV.one<|.i .i64 n,AV.one<|.b x]=some [AV.agg<|zbn a,AV.one<|.i .i64 k,AV.one<|.b y]:=by rw[c,d,e]
def zWA {b:am}(g p:Int)(s:k0)(a:SmB b):SmB (zes b g p s):=zpK a (z3r _ _<|zjP _ a)
def z3k {b c:am}(a:SameB b c)(h:ac)(m:Int)(g p:Int)(s:k0):zdd h m (zes b g p s)=zdd h m (zes c g p s)/\zff b g p s=zff c g p s:=by have e:=a.at g;simp only[zes,zff,e];exact⟨zo6 a _ _ _ _ _,zlc a _ _⟩
@[simp] abbrev zvK (h:ac)(m:Int)(g p:Int)(s:k0):Bool:=pc (zcN h)
def zzB:Run:=rF5 dH dI dI dI (dT .slot) λb c d e f=>(zvK b c d e f,[aH<|zl4 b c d e f,aB<|zl5 b c d e f])
def zEj (N:Nat)(g:ac)(b d e:Int)(f:k0):OA:=
 let a:=zo g;let c:=ix a.aa b zk; (oN (zbu g)<|oN (zfC a b)<|cond (nB<|zfB a b) (some [aH a,aB false])<|oN (inb b<|ln a.aa)<|oN (zeV c)<|oN (zqh (zbP c) d e f)<|oN (zeU a b<|zes (zbP c) d e f)<|some [aH<|zg2 a b<|zes (zbP c) d e f,aB<|zff (zbP c) d e f])
def zPD (a:ac)(c d e:Int)(f:k0)(n:zvK a c d e f=true):∃N,zEj N a c d e f=some [aH<|zl4 a c d e f,aB<|zl5 a c d e f]:=by
 have i:=(zU a).1 (zN.1 n);refine⟨0,?_⟩;have j:=zm7 (h:=a) (m:=c) (cB:=zqh (zc2<|ix a.aa c mZ) d e f) (B:=zes (zc2<|ix a.aa c mZ) d e f) (o0:=λH=>[.agg<|zbn H,.one<|.b false]) (o1:=λH=>[.agg<|zbn H,.one<|.b<|zff (zc2<|ix a.aa c mZ) d e f]) i
  (λg=>zbs (ze5<|i.2.1.2 _<|zbF (zcB.1 g).2 _)) (λg=>zWA _ _ _ (ze5<|i.2.1.2 _<|zbF (zcB.1 g).2 _))
 refine(show zEj 0 a c d e f=_ from j).trans ?_;unfold zl4 zl5 zhu zgw;cases g:zcV a c;{rfl};{obtain⟨k,l⟩:=z3k (ziZ g<|zno g) a c d e f;simp only[cT];exact zsp k l}
def zIT:vM 170 zzB:=kF5 ziW zC zce zdn (zu []) zPD
def zKv {b:am}(g v:Int)(a:SmB b):SmB (zdr b g v):=zpK a (z3p _<|zjP _ a)
def zVz {b c:am}(a:SameB b c)(h:ac)(m:Int)(g v:Int):zdd h m (zdr b g v)=zdd h m (zdr c g v)/\zeb b g v=zeb c g v:=by have e:=a.at g;simp only[zdr,zeb,e];exact⟨zo6 a _ _ _ _ _,zlc a _ _⟩
@[simp] abbrev zpC (h:ac)(m:Int)(g v:Int):Bool:=pc (zcN h)
def ztp:Run:=rF4 dH dI dI dI λb c d e=>(zpC b c d e,[aH<|ziB b c d e,aB<|ziC b c d e])
def zv9 (N:Nat)(f:ac)(b d e:Int):OA:=
 let a:=zo f;let c:=ix a.aa b zk; (oN (zbu f)<|oN (zfC a b)<|cond (nB<|zfB a b) (some [aH a,aB false])<|oN (inb b<|ln a.aa)<|oN (zeV c)<|oN (zlw (zbP c) d e)<|oN (zeU a b<|zdr (zbP c) d e)<|some [aH<|zg2 a b<|zdr (zbP c) d e,aB<|zeb (zbP c) d e])
def zGN (a:ac)(c d e:Int)(l:zpC a c d e=true):∃N,zv9 N a c d e=some [aH<|ziB a c d e,aB<|ziC a c d e]:=by
 have g:=(zU a).1 (zN.1 l);refine⟨0,?_⟩;have i:=zm7 (h:=a) (m:=c) (cB:=zlw (zc2<|ix a.aa c mZ) d e) (B:=zdr (zc2<|ix a.aa c mZ) d e) (o0:=λH=>[.agg<|zbn H,.one<|.b false]) (o1:=λH=>[.agg<|zbn H,.one<|.b<|zeb (zc2<|ix a.aa c mZ) d e]) g
  (λf=>zbs (ze5<|g.2.1.2 _<|zbF (zcB.1 f).2 _)) (λf=>zKv _ _ (ze5<|g.2.1.2 _<|zbF (zcB.1 f).2 _))
 refine(show zv9 0 a c d e=_ from i).trans ?_;unfold ziB ziC zhu zgw;cases f:zcV a c;{rfl};{obtain⟨j,k⟩:=zVz (ziZ f<|zno f) a c d e;simp only[cT];exact zsp j k}
def zBl:vM 172 ztp:=kF4 ziW zC zce zdn (zu []) zGN
def zKx {b:am}(g:Int)(a:SmB b):SmB (zdu b g):=zpK a (z3q<|zjP _ a)
def zVB {b c:am}(a:SameB b c)(h:ac)(m:Int)(g:Int):zdd h m (zdu b g)=zdd h m (zdu c g)/\zed b g=zed c g:=by have e:=a.at g;simp only[zdu,zed,e];exact⟨zo6 a _ _ _ _ _,zlc a _ _⟩
@[simp] abbrev zpE (h:ac)(m:Int)(g:Int):Bool:=pc (zcN h)
def ztr:Run:=rF3 dH dI dI λb c d=>(zpE b c d,[aH<|ziF b c d,aB<|ziG b c d])
def zwb (N:Nat)(e:ac)(b d:Int):OA:=
 let a:=zo e;let c:=ix a.aa b zk; (oN (zbu e)<|oN (zfC a b)<|cond (nB<|zfB a b) (some [aH a,aB false])<|oN (inb b<|ln a.aa)<|oN (zeV c)<|oN (zfR (zbP c) d)<|oN (zeU a b<|zdu (zbP c) d)<|some [aH<|zg2 a b<|zdu (zbP c) d,aB<|zed (zbP c) d])
def zGP (a:ac)(c d:Int)(k:zpE a c d=true):∃N,zwb N a c d=some [aH<|ziF a c d,aB<|ziG a c d]:=by
 have f:=(zU a).1 (zN.1 k);refine⟨0,?_⟩;have g:=zm7 (h:=a) (m:=c) (cB:=zfR (zc2<|ix a.aa c mZ) d) (B:=zdu (zc2<|ix a.aa c mZ) d) (o0:=λH=>[.agg<|zbn H,.one<|.b false]) (o1:=λH=>[.agg<|zbn H,.one<|.b<|zed (zc2<|ix a.aa c mZ) d]) f
  (λe=>zbs (ze5<|f.2.1.2 _<|zbF (zcB.1 e).2 _)) (λe=>zKx _ (ze5<|f.2.1.2 _<|zbF (zcB.1 e).2 _))
 refine(show zwb 0 a c d=_ from g).trans ?_;unfold ziF ziG zhu zgw;cases e:zcV a c;{rfl};{obtain⟨i,j⟩:=zVB (ziZ e<|zno e) a c d;simp only[cT];exact zsp i j}
def zBn:vM 173 ztr:=kF3 ziW zC zce zdn (zu []) zGP
def zKw {b:am}(g n:Int)(a:SmB b):SmB (zds b g n):=zpK a (zjP (b:=b) _ a)
def zVA {b c:am}(a:SameB b c)(h:ac)(m:Int)(g n:Int):zdd h m (zds b g n)=zdd h m (zds c g n)/\zec b g n=zec c g n:=by have e:=a.at g;simp only[zds,zec,e];exact⟨zo6 a _ _ _ _ _,zlc a _ _⟩
@[simp] abbrev zpD (h:ac)(m:Int)(g n:Int):Bool:=pc (zcN h)
def ztq:Run:=rF4 dH dI dI dI λb c d e=>(zpD b c d e,[aH<|ziD b c d e,aB<|ziE b c d e])
def zwa (N:Nat)(f:ac)(b d e:Int):OA:=
 let a:=zo f;let c:=ix a.aa b zk; (oN (zbu f)<|oN (zfC a b)<|cond (nB<|zfB a b) (some [aH a,aB false])<|oN (inb b<|ln a.aa)<|oN (zeV c)<|oN (zlx (zbP c) d e)<|oN (zeU a b<|zds (zbP c) d e)<|some [aH<|zg2 a b<|zds (zbP c) d e,aB<|zec (zbP c) d e])
def zGO (a:ac)(c d e:Int)(l:zpD a c d e=true):∃N,zwa N a c d e=some [aH<|ziD a c d e,aB<|ziE a c d e]:=by
 have g:=(zU a).1 (zN.1 l);refine⟨0,?_⟩;have i:=zm7 (h:=a) (m:=c) (cB:=zlx (zc2<|ix a.aa c mZ) d e) (B:=zds (zc2<|ix a.aa c mZ) d e) (o0:=λH=>[.agg<|zbn H,.one<|.b false]) (o1:=λH=>[.agg<|zbn H,.one<|.b<|zec (zc2<|ix a.aa c mZ) d e]) g
  (λf=>zbs (ze5<|g.2.1.2 _<|zbF (zcB.1 f).2 _)) (λf=>zKw _ _ (ze5<|g.2.1.2 _<|zbF (zcB.1 f).2 _))
 refine(show zwa 0 a c d e=_ from i).trans ?_;unfold ziD ziE zhu zgw;cases f:zcV a c;{rfl};{obtain⟨j,k⟩:=zVA (ziZ f<|zno f) a c d e;simp only[cT];exact zsp j k}
def zBm:vM 174 ztq:=kF4 ziW zC zce zdn (zu []) zGO
def zWz {b:am}(g:Int)(x:Ctl)(a:SmB b):SmB (zer b g x):=zpK a (zjP (b:=b) _ a)
def z3j {b c:am}(a:SameB b c)(h:ac)(m:Int)(g:Int)(x:Ctl):zdd h m (zer b g x)=zdd h m (zer c g x)/\zfe b g x=zfe c g x:=by have e:=a.at g;simp only[zer,zfe,e];exact⟨zo6 a _ _ _ _ _,zlc a _ _⟩
@[simp] abbrev zvI (h:ac)(m:Int)(g:Int)(x:Ctl):Bool:=pc (zcN h)
def zzy:Run:=rF4 dH dI dI dC λb c d e=>(zvI b c d e,[aH<|zl2 b c d e,aB<|zl3 b c d e])
def zEg (N:Nat)(f:ac)(b d:Int)(e:Ctl):OA:=
 let a:=zo f;let c:=ix a.aa b zk; (oN (zbu f)<|oN (zfC a b)<|cond (nB<|zfB a b) (some [aH a,aB false])<|oN (inb b<|ln a.aa)<|oN (zeV c)<|oN (zqg (zbP c) d e)<|oN (zeU a b<|zer (zbP c) d e)<|some [aH<|zg2 a b<|zer (zbP c) d e,aB<|zfe (zbP c) d e])
def zPA (a:ac)(c d:Int)(e:Ctl)(l:zvI a c d e=true):∃N,zEg N a c d e=some [aH<|zl2 a c d e,aB<|zl3 a c d e]:=by
 have g:=(zU a).1 (zN.1 l);refine⟨0,?_⟩;have i:=zm7 (h:=a) (m:=c) (cB:=zqg (zc2<|ix a.aa c mZ) d e) (B:=zer (zc2<|ix a.aa c mZ) d e) (o0:=λH=>[.agg<|zbn H,.one<|.b false]) (o1:=λH=>[.agg<|zbn H,.one<|.b<|zfe (zc2<|ix a.aa c mZ) d e]) g
  (λf=>zbs (ze5<|g.2.1.2 _<|zbF (zcB.1 f).2 _)) (λf=>zWz _ _ (ze5<|g.2.1.2 _<|zbF (zcB.1 f).2 _))
 refine(show zEg 0 a c d e=_ from i).trans ?_;unfold zl2 zl3 zhu zgw;cases f:zcV a c;{rfl};{obtain⟨j,k⟩:=z3j (ziZ f<|zno f) a c d e;simp only[cT];exact zsp j k}
def zIR:vM 175 zzy:=kF4 ziW zC zce zdn (zu []) zPA
def zTH {b:am}(n:Int)(a:SmB b):SmB (zeT b n):=z1a a
def z01 {b c:am}(f:SameB b c)(h:ac)(m n:Int):zdd h m (zeT b n)=zdd h m (zeT c n)/\zgn b n=zgn c n:=by obtain⟨a,d,e⟩:=z0M f n;exact⟨back_eq a d,e⟩
@[simp] abbrev zty (h:ac)(m:Int)(n:Int):Bool:=pc (zcN h)
def zw6:Run:=rF3 dH dI dI λb c d=>(zty b c d,[aH<|zky b c d,aB<|zkz b c d])
def zAz (N:Nat)(e:ac)(b d:Int):OA:=
 let a:=zo e;let c:=ix a.aa b zk; (oN (zbu e)<|oN (zfC a b)<|cond (nB<|zfB a b) (some [aH a,aB false])<|oN (inb b<|ln a.aa)<|oN (zeV c)<|oN (zhl (zbP c) d)<|oN (zeU a b<|zeT (zbP c) d)<|some [aH<|zg2 a b<|zeT (zbP c) d,aB<|zgn (zbP c) d])
def zMA (a:ac)(c d:Int)(k:zty a c d=true):∃N,zAz N a c d=some [aH<|zky a c d,aB<|zkz a c d]:=by
 have f:=(zU a).1 (zN.1 k);refine⟨0,?_⟩;have g:=zm7 (h:=a) (m:=c) (cB:=zhl (zc2<|ix a.aa c mZ) d) (B:=zeT (zc2<|ix a.aa c mZ) d) (o0:=λH=>[.agg<|zbn H,.one<|.b false]) (o1:=λH=>[.agg<|zbn H,.one<|.b<|zgn (zc2<|ix a.aa c mZ) d]) f
  (λe=>zbs (ze5<|f.2.1.2 _<|zbF (zcB.1 e).2 _)) (λe=>zTH _ (ze5<|f.2.1.2 _<|zbF (zcB.1 e).2 _))
 refine(show zAz 0 a c d=_ from g).trans ?_;unfold zky zkz zhu zgw;cases e:zcV a c;{rfl};{obtain⟨i,j⟩:=z01 (ziZ e<|zno e) a c d;simp only[cT];exact zsp i j}
def zGf:vM 178 zw6:=kF3 ziW zC zce zdn (zu []) zMA
def zWy {b:am}(a:SmB b):SmB (zeS b):=z3o a
def z3i {b c:am}(g:SameB b c)(h:ac)(m:Int):zdd h m (zeS b)=zdd h m (zeS c)/\zf7 b=zf7 c/\zf8 b=zf8 c:=by obtain⟨a,d,e,f⟩:=z1v g;exact⟨back_eq a d,e,f⟩
@[simp] abbrev zh9 (h:ac)(m:Int):Bool:=pc (zcN h)
def zzx:Run:=rF2 dH dI λb c=>(zh9 b c,[aH<|zlZ b c,aI<|zl0 b c,aB<|zl1 b c])
def zEe (N:Nat)(d:ac)(b:Int):OA:=
 let a:=zo d;let c:=ix a.aa b zk; (oN (zbu d)<|oN (zfC a b)<|cond (nB<|zfB a b) (some [aH a,aI<|-1,aB false])<|oN (inb b<|ln a.aa)<|oN (zeV c)<|oN (zdT<|zbP c)<|oN (zeU a b<|zeS<|zbP c)<|some [aH<|zg2 a b<|zeS<|zbP c,aI<|zf7<|zbP c,aB<|zf8<|zbP c])
def zPy (a:ac)(c:Int)(l:zh9 a c=true):∃N,zEe N a c=some [aH<|zlZ a c,aI<|zl0 a c,aB<|zl1 a c]:=by
 have e:=(zU a).1 (zN.1 l);refine⟨0,?_⟩;have f:=zm7 (h:=a) (m:=c) (cB:=zdT (zc2<|ix a.aa c mZ)) (B:=zeS (zc2<|ix a.aa c mZ)) (o0:=λH=>[.agg<|zbn H,.one<|.i .i64<|-1,.one<|.b false]) (o1:=λH=>[.agg<|zbn H,.one<|.i .i64<|zf7<|zc2<|ix a.aa c mZ,.one<|.b<|zf8<|zc2<|ix a.aa c mZ]) e
  (λd=>zbs (ze5<|e.2.1.2 _<|zbF (zcB.1 d).2 _)) (λd=>zWy (ze5<|e.2.1.2 _<|zbF (zcB.1 d).2 _))
 refine(show zEe 0 a c=_ from f).trans ?_;unfold zlZ zl0 zl1 zhu zgw;cases d:zcV a c;{rfl};{obtain⟨g,j,k⟩:=z3i (ziZ d<|zno d) a c;simp only[cT];exact z6g g j k}
def zIQ:vM 179 zzx:=kF2 ziW zC zce zdn (zu []) zPy
def zZg:zW:=[(170,zzB),(172,ztp),(173,ztr),(174,ztq),(175,zzy),(178,zw6),(179,zzx)]++zZf
def zt8:zL zZg:=zh zIT (zh zBl<|zh zBn<|zh zBm<|zh zIR<|zh zGf<|zh zIQ ziW)
def zjt (h:ac)(m t:Int):ac:=bif zb5 h then (cond (i0 m<|ln h.aa) (cond (zi t 0 3) {h with aa:=up h.aa m {ix h.aa m mZ with aq:=t}} h) h) else h
def zyJ (h:ac)(m t:Int):Bool:=bif zb5 h then (cond (i0 m<|ln h.aa) (zi t 0 3) false) else false
@[simp] abbrev ztE (h:ac)(m t:Int):Bool:=pc (zcN h)
@[simp] abbrev zoq (h:ac)(m t:Int):ac:=zjt h m t
@[simp] abbrev zor (h:ac)(m t:Int):Bool:=zyJ h m t
def zxc:Run:=rF3 dH dI dI λb c d=>(ztE b c d,[aH<|zoq b c d,aB<|zor b c d])
def zAG (N:Nat)(d:ac)(b c:Int):OA:=
 let a:=zo d; (oN (zbu d)<|oN (zdL a)<|cond (nB<|zdO a) (some [aH a,aB false])<|oN (zM b 0<|wsub .i64 (ln a.aa) 1)<|cond (nB<|zi b 0<|wsub .i64 (ln a.aa) 1) (some [aH a,aB false])<|oN (zM c 0 3)<|cond (nB<|zi c 0 3) (some [aH a,aB false])<|oN (inb b<|ln a.aa)<|p0 (up a.aa b ({ (ix a.aa b zk) with aq:=c}:Mon)) λe=>some [aH ({a with aa:=e}:ac),aB true])
def zMI (a:ac)(b c:Int)(d:ztE a b c=true):∃N,zAG N a b c=some [aH<|zoq a b c,aB<|zor a b c]:=by
 have g:=(zU a).1 (zN.1 d);refine⟨0,?_⟩;unfold zAG zoq zor zjt zyJ oN nB;conv=>zeta
 refine j0 d (j0 rfl ?_);rw[show zdO (zo a)=zb5 a from rfl];cases e:zb5 a;{rfl};{refine zdM rfl (j0 rfl ?_);rw[show zi b 0 (wsub .i64 (ln (zo a).aa) 1)=i0 b (ln a.aa) from zNz e b];cases f:i0 b (ln a.aa);{rfl};{refine zdM rfl (j0 rfl ?_);rw[show zi c 0 3=zi c 0 3 from rfl];cases h:zi c 0 3;{rfl};{exact zdM rfl (j0 (zI f) rfl)}}}
def zGo:vM 190 zxc:=kF3 zt8 zC zce zdn (zu []) zMI
def zf6 {h:ac}{m p:Int}:(zbX h m p=true)↔zb5 h=true/\i0 m (ln h.aa)=true/\i0 p 8=true:=by unfold zbX;cases zb5 h<;>cases i0 m (ln h.aa)<;>simp
def zj9 (h:ac)(m p:Int):Bool:=ieq (ix (ix h.aa m mZ).ae p sZ).af (-1)
def zpm (h:ac)(m p:Int):ac:=bif zbX h m p then (cond (zj9 h m p) h<|zdR h m p) else h
def zBM (h:ac)(m p:Int):Bool:=bif zbX h m p then !zj9 h m p else false
def ztg (h:ac)(m p:Int):ac:=bif zbX h m p then (cond (zj9 h m p) (fetched h m p) h) else h
def zGV (h:ac)(m p:Int):Bool:=bif zbX h m p then zj9 h m p else false
@[simp] abbrev zqn (h:ac)(m p:Int):ac:=zpm h m p
@[simp] abbrev zqo (h:ac)(m p:Int):Bool:=zBM h m p
@[simp] abbrev zse (h:ac)(m p:Int):ac:=ztg h m p
@[simp] abbrev zsf (h:ac)(m p:Int):Bool:=zGV h m p
def zJW {h:ac}(f:SmH h)(c:zb5 h=true){m p:Int}(d:i0 m (ln h.aa)=true)(e:i0 p 8=true) :
 (cond (ieq (ix (ix h.aa m mZ).ae p sZ).af<|-1) (ieq (ix (ix h.aa m mZ).ae p sZ).ai 0) false)=zj9 h m p:=by
 have a:=(znQ (zf3 c _<|zbF d mZ) e).no;unfold zc1 at a;unfold zj9;rw[<- a];cases b:ieq (ix (ix h.aa m mZ).ae p sZ).af (-1)<;>simp [z0,b]
def zOC {h:ac}(d:SmH h)(a:zb5 h=true){m p:Int}(b:i0 m (ln h.aa)=true)(c:i0 p 8=true):inb p (ln (ix h.aa m mZ).ae)=true :=
 zI (by rw[ln,((zew d a).1.2 _ (zbF b mZ)).1];exact c)
def zzF:Run:=rF3 dH dI dI λb c d=>(zhQ b c d,[aH<|zqn b c d,aB<|zqo b c d])
def zEn (N:Nat)(e:ac)(c b:Int):OA:=
 let a:=zo e;let d:=(ix a.aa c zk).ae; (oN (zbu e)<|oN (zhX a c b)<|cond (nB<|zd1 a c b) (some [aH a,aB false])<|oN (inb c<|ln a.aa)<|oN (inb b<|ln d)<|oN zbT<|cond (cond (ieq (ix d b zY).af zbi.af) (ieq (ix d b zY).ai zbi.ai) false) (some [aH a,aB false])<|oN (zjr a c b)<|some [aH<|zm1 a c b,aB true])
def zPI (a:ac)(b c:Int)(h:zhQ a b c=true):∃N,zEn N a b c=some [aH<|zqn a b c,aB<|zqo a b c]:=by
 have g:=(zU a).1 (zN.1 h);refine⟨0,?_⟩;unfold zEn zqn zqo zpm zBM oN nB;conv=>zeta
 refine j0 h (j0 rfl ?_);rw[show zd1 (zo a) b c=zbX a b c from rfl];cases i:zbX a b c;{rfl};{obtain⟨e,d,f⟩:=zf6.1 i;refine zdM rfl (j0 (zI d)<|j0 (zOC g e d f) (j0 rfl ?_));rw[show (cond (ieq (ix (ix (zo a).aa b zk).ae c zY).af zbi.af) (ieq (ix (ix (zo a).aa b zk).ae c zY).ai zbi.ai) false)=zj9 a b c from zJW g e d f];cases j:zj9 a b c;{exact zdM rfl (j0 (zbs ⟨(zew g e).1,d,f⟩) rfl)};{rfl}}
def zIX:vM 187 zzF:=kF3 zt8 zC zce zdn (zu []) zPI
def zB0:Run:=rF3 dH dI dI λb c d=>(zhQ b c d,[aH<|zse b c d,aB<|zsf b c d])
def zHM (N:Nat)(e:ac)(c b:Int):OA:=
 let a:=zo e;let d:=(ix a.aa c zk).ae; (oN (zbu e)<|oN (zhX a c b)<|cond (nB<|zd1 a c b) (some [aH a,aB false])<|oN (inb c<|ln a.aa)<|oN (inb b<|ln d)<|oN zbT<|cond (nB<|cond (ieq (ix d b zY).af zbi.af) (ieq (ix d b zY).ai zbi.ai) false) (some [aH a,aB false])<|oN (zk2 a c b)<|some [aH<|zlK a c b,aB true])
def zSu (a:ac)(b c:Int)(h:zhQ a b c=true):∃N,zHM N a b c=some [aH<|zse a b c,aB<|zsf a b c]:=by
 have g:=(zU a).1 (zN.1 h);refine⟨0,?_⟩;unfold zHM zse zsf ztg zGV oN nB;conv=>zeta
 refine j0 h (j0 rfl ?_);rw[show zd1 (zo a) b c=zbX a b c from rfl];cases i:zbX a b c;{rfl};{obtain⟨e,d,f⟩:=zf6.1 i;refine zdM rfl (j0 (zI d)<|j0 (zOC g e d f) (j0 rfl ?_));rw[show (cond (ieq (ix (ix (zo a).aa b zk).ae c zY).af zbi.af) (ieq (ix (ix (zo a).aa b zk).ae c zY).ai zbi.ai) false)=zj9 a b c from zJW g e d f];cases j:zj9 a b c;{rfl};{exact zdM rfl (j0 (zbs ⟨zew g e,d,f⟩) rfl)}}
def zLM:vM 188 zB0:=kF3 zt8 zC zce zdn (zu []) zSu
def zZh:zW:=[(190,zxc),(187,zzF),(188,zB0)]++zZg
def zN3:zL zZh:=zh zGo (zh zIX<|zh zLM zt8)
def zYN {x:Mon}{b:am}(h:zfm x)(a:zkl b.ad):zfm (zt3 x b):=⟨h.1,h.2.1,h.2.2.1,a,h.2.2.2.2⟩
def zHe {h:ac}{m:Int}{b:am}(a:SmH h)(d:i0 m (ln h.aa)=true)(c:zkl b.ad):SmH (zdd h m b):=
 ⟨a.1,zi0 a.2.1<|zYN (a.2.1.2 _<|zbF d _) c,a.2.2⟩
def zQ0 {h:ac}{m:Int}(b:am)(a:i0 m (ln h.aa)=true):i0 m (ln (zdd h m b).aa)=true:=by show i0 m (ln<|up h.aa m _)=true;rw[ln,zgK];exact a
def z5X {h:ac}{m:Int}(b:am)(c:i0 m (ln h.aa)=true):ix (zdd h m b).aa m mZ=zt3 (ix h.aa m mZ) b:=by obtain⟨k,rfl,a⟩:=zdZ (n:=h.aa.length) c;exact zd9 a _ _
def zA9 (h:ac)(m g p:Int):ac:=⟨h.ag,up h.aa m {ix h.aa m mZ with aj:=up (ix h.aa m mZ).aj g (zbW (ix (ix h.aa m mZ).aj g kZ) p)},zcI h.ao (ze0 m g) p,zcI h.an (ze0 m g) p⟩
def zZS (H:ac)(m g p:Int)(o:ac->Ans):OA:=
 bif inb m (ln H.aa) then (bif inb m (ln H.aa) then (bif inb g (ln (ix H.aa m mZ).aj) then (bif zdC (ix (ix H.aa m mZ).aj g kZ) p then (bif inb g (ln (ix H.aa m mZ).aj) then (p0 (up H.aa m {ix H.aa m mZ with aj:=up (ix H.aa m mZ).aj g (zbW (ix (ix H.aa m mZ).aj g kZ) p)}) λx=>
  (cond (zkV m g) (cond (zgE H.ao (ze0 m g) p) (cond (zkV m g) (cond (zgE H.an (ze0 m g) p) (some<|o ⟨H.ag,x,zcI H.ao (ze0 m g) p,zcI H.an (ze0 m g) p⟩) none) none) none) none)) else none) else none) else none) else none) else none
def zZT {H:ac}{m g p:Int}{o:ac->Ans}(b:SmH H)(a:i0 m (ln H.aa)=true)(hg:i0 g (ln (ix H.aa m mZ).aj)=true):zZS H m g p o=some (o<|zA9 H m g p):=by have c:=b.2.1.2 _ (zbF a mZ);unfold zZS;exact j0 (zI a) (j0 (zI a)<|j0 (zI hg)<|j0 (zbs<|c.2.2.2.2.2.2 _<|zbF hg _)<|j0 (zI hg)<|shr (j0 rfl (j0 (zbs b.2.2.1) (j0 rfl (j0 (zbs b.2.2.2) rfl)))))
def zku (h:ac)(m g p:Int):ac:=bif zcV h m then (cond (zcg (zK h m) g<|i0 p 4) (zA9 (zdd h m<|chg (zK h m) g (i0 p 4)<|zd5 (gAt (zK h m) g) p) m g p) h) else h
@[simp] abbrev zrJ (h:ac)(m g p:Int):Bool:=pc (zcN h)
@[simp] abbrev zmB (h:ac)(m g p:Int):ac:=zku h m g p
def zVC {h:ac}{m:Int}(a:i0 m (ln h.aa)=true):(zK h m).ad=(ix h.aa m mZ).ad:=by unfold zK;rw[a];rfl
def zOj {h:ac}{m g:Int}{k:Bool}(i:SmH h)(e:zcV h m=true)(b:am)(a:zcg (zK h m) g k=true):i0 g (ln (ix (zdd h m b).aa m mZ).aj)=true:=by obtain⟨f,c⟩:=zcB.1 e;rw[z5X b c];show i0 g (ln (ix h.aa m mZ).aj)=true;rw[ln,((zew i f).1.2 _ (zbF c mZ)).2.2.2,<- zVC c];unfold zcg at a;cases d:zcd (zK h m) g;{rw [d]at a;cases a};{exact(zdS.1 d).2}
def zuR:Run:=rF4 dH dI dI dI λb c d e=>(zrJ b c d e,[aH<|zmB b c d e,aB<|zjA b c d e])
def zy7 (N:Nat)(i:ac)(a b c:Int):OA:=
 let h:=zsx a b;let e:=zo i;let g:=ix e.aa a zk;let d:=zg2 e a<|zeY (zbP g) b c;let f:=ix d.aa a zk;let j:=ix f.aj b zfF; (oN (zbu i)<|oN (zfC e a)<|cond (nB<|zfB e a) (some [aH e,aB false])<|oN (inb a<|ln e.aa)<|oN (zeV g)<|oN (zrH (zbP g) b c)<|cond (nB<|zhC (zbP g) b c) (some [aH e,aB false])<|oN (zeU e a<|zeY (zbP g) b c)<|oN (inb a<|ln d.aa)<|oN (inb a<|ln d.aa)<|oN (inb b<|ln f.aj)<|oN (zdC j c)<|oN (inb b<|ln f.aj)<|p0 (up d.aa a ({f with aj:=(up f.aj b<|zgF j c)}:Mon)) λk=>oN (zkV a b)<|oN (zgE d.ao h c)<|oN (zkV a b)<|oN (zgE d.an h c)<|some [aH (⟨d.ag,k,zmb d.ao h c,zmb d.an h c⟩:ac),aB true])
def zJM (a:ac)(c d e:Int)(j:zbV big [aH a,aI c,aI d,aI e])(q:zrJ a c d e=true):∃N,zy7 N a c d e=some [aH<|zmB a c d e,aB<|zjA a c d e]:=by
 have k:=(zU a).1 (zN.1 q);refine⟨0,?_⟩;unfold zy7 zmB zjA zku zgw oN nB;conv=>zeta
 refine j0 q (j0 rfl ?_);rw[show zfB (zo a) c=zcV a c from rfl];cases h:zcV a c;{rfl};{obtain⟨v,f⟩:=zcB.1 h;have r:=k.2.1.2 _ (zbF f mZ);have l:=ze5 r;have i:=ziZ h (zno h);have u:zcg (zc2<|ix a.aa c mZ) d (i0 e 4)=zcg (zK a c) d (i0 e 4):=zlc i _ _;have s:zdd a c (zeY (zc2<|ix a.aa c mZ) d e)=zdd a c (chg (zK a c) d (i0 e 4)<|zd5 (gAt (zK a c) d) e):=(by rw[<- i.at];exact zo6 i _ _ _ _ _);refine zdM rfl (j0 (zI f)<|j0 (zbs r)<|j0 (zbs l) ?_);rw[show zhC (zbP<|ix (zo a).aa c zk) d e=zcg (zK a c) d (i0 e 4) from u];cases t:zcg (zK a c) d (i0 e 4);{rfl};{have j:SmB (zeY (zc2<|ix a.aa c mZ) d e):=zpK l (zKz _<|zjP _ l);refine zdM rfl (j0 (zbs ⟨f,j.2.1⟩) ?_);have n:=zZT (H:=zdd a c (zeY (zc2<|ix a.aa c mZ) d e)) (m:=c) (g:=d) (p:=e) (o:=λH=>[.agg<|zbn H,.one<|.b true]) (zHe k f j.2.1) (zQ0 _ f) (zOj k h _ t);refine(show _=_ from n).trans ?_;rw[s];rfl}}
def zDo:vM 171 zuR:=hF4 zN3 zC zce zdn (zu []) zJM
def zZi:zW:=[(171,zuR)]++zZh
def zN4:zL zZi:=zh zDo zN3
def zTg (h:ac)(m p c v:Int):ac:={A0 h m p 2 with ag:=zbM (A0 h m p 2).ag (ix (ix (A0 h m p 2).aa m mZ).ae p sZ).af c v}
def zfs (h:ac)(m p c v:Int):Bool:=bif zbX h m p then (cond (i0 c 4) (zi v 0 99) false) else false
def zmQ (h:ac)(m p c v:Int):ac:=bif zfs h m p c v then zTg h m p c v else h
@[simp] abbrev ztx (h:ac)(m p c v:Int):Bool:=pc (zcN h)
@[simp] abbrev zok (h:ac)(m p c v:Int):ac:=zmQ h m p c v
@[simp] abbrev zol (h:ac)(m p c v:Int):Bool:=zfs h m p c v
def z5K (H:ac)(m p c v:Int)(o:ac->Ans):OA:=
 bif pc (zH4 H m p 2) then (cond (inb m<|ln (A0 H m p 2).aa) (cond (inb p<|ln (ix (A0 H m p 2).aa m mZ).ae) (cond (pc<|SmM (A0 H m p 2).ag) (some<|o<|zTg H m p c v) none) none) none) else none
def z2Z {h:ac}{m p c v:Int}{o:ac->Ans}(j:SmH h)(i:zbX h m p=true):z5K h m p c v o=some (o<|zTg h m p c v):=by obtain⟨g,b,a⟩:=zf6.1 i;have f:=zew j g;obtain⟨d,e⟩:=zoT (n:=2) f b a;unfold z5K;refine j0 (zbs ⟨f,b,a,.inr (.inl rfl),znQ (zf3 g _<|zbF b mZ) a⟩) (j0 (zI e)<|j0 (zI ?_) (j0 (zbs d.1.1) rfl));rw[ln,(d.2 _<|zbF e mZ).1];exact a
def zw5:Run:=rF5 dH dI dI dI dI λb c d e f=>(ztx b c d e f,[aH<|zok b c d e f,aB<|zol b c d e f])
def zAy (N:Nat)(g:ac)(b c:Int)(e f:Int):OA:=
 let a:=zo g;let d:=zgt a b c 2;let h:=(ix d.aa b zk).ae;let i:=(ix h c zY).af; (oN (zbu g)<|oN (zhX a b c)<|cond (nB<|zd1 a b c) (some [aH a,aB false])<|oN (zM e 0 3)<|cond (nB<|zi e 0 3) (some [aH a,aB false])<|oN (zM f 0 99)<|cond (nB<|zi f 0 99) (some [aH a,aB false])<|oN (zgZ a b c 2)<|oN (inb b<|ln d.aa)<|oN (inb c<|ln h)<|oN (zkW d.ag i e f)<|some [aH ({d with ag:=(zjl d.ag i e f)}:ac),aB true])
def zMz (d:ac)(f g:Int)(a e:Int)(i:ztx d f g a e=true):∃N,zAy N d f g a e=some [aH<|zok d f g a e,aB<|zol d f g a e]:=by
 have k:=(zU d).1 (zN.1 i);refine⟨0,?_⟩;unfold zAy zok zol zmQ zfs oN nB;conv=>zeta
 refine j0 i (j0 rfl ?_);rw[show zd1 (zo d) f g=zbX d f g from rfl];cases j:zbX d f g;{rfl};{refine zdM rfl (j0 rfl ?_);rw[show zi a 0 3=i0 a 4 from z9a a];cases l:i0 a 4;{rfl};{refine zdM rfl (j0 rfl ?_);rw[show zi e 0 99=zi e 0 99 from rfl];cases m:zi e 0 99;{rfl};{have h:=z2Z (c:=a) (v:=e) (o:=λH=>[.agg<|zbn H,.one<|.b true]) k j;exact zdM rfl (show _=_ from h)}}}
def zGe:vM 177 zw5:=kF5 zN4 zC zce zdn (zu []) zMz
def zZj:zW:=[(177,zw5)]++zZi
def zZk:zL zZj:=zh zGe zN4
def zZl:zW:=zZj
def zA3:zL zZl:=zZk
def z0n (h:ac)(b:List au)(m g c a:Int)(e:Bool):(lookOf h b m g c a e).2.2=zb8 h m g c a:=by cases d:zb8 h m g c a;{rw [zne d]};{rw [zSN d];unfold zhL zhM;generalize zhy b m g c a=x;cases x;{generalize zfa _ m g c a=y;cases y<;>rfl};{rfl}}
def z6W {h:ac}{m g c a:Int}(b:List au)(i:Bool)(f:SmH h)(d:zb8 h m g c a=true):SmM (lookOf h b m g c a i).1.ag:=by have hg:zbZ h m g=true:=(by unfold zb8 at d;cases e:zbZ h m g;{rw [e]at d;cases d};{rfl});exact(zwz f hg).shape.1.1
def zBt (h:ac)(m g a n:Int):ac×Int×Bool:=lookOf h h.an m g (zbh a) n true
def zgU (h:ac)(m g a v:Int):Bool:=bif zi a 0 15 then (cond (zi v 0 99) (zb8 h m g (zbh a) 2) false) else false
def zpg (h:ac)(m g a v:Int):ac:=bif zgU h m g a v then { (zBt h m g a 2).1 with ag:=zbM (zBt h m g a 2).1.ag (zBt h m g a 2).2.1 (zdl a) v} else h
def zf4 (h:ac)(m g a:Int):Bool:=bif zi a 0 15 then zb8 h m g (zbh a) 1 else false
def zmR (h:ac)(m g a:Int):ac:=bif zf4 h m g a then (zBt h m g a 1).1 else h
def zqX (h:ac)(m g a:Int):Int:=bif zf4 h m g a then cellAt (zBt h m g a 1).1.ag (zBt h m g a 1).2.1 (zdl a) else 0
@[simp] abbrev zvJ (h:ac)(m g a v:Int):Bool:=pc (zcN h)
@[simp] abbrev zqj (h:ac)(m g a v:Int):ac:=zpg h m g a v
@[simp] abbrev zqk (h:ac)(m g a v:Int):Bool:=zgU h m g a v
@[simp] abbrev ztz (h:ac)(m g a:Int):Bool:=pc (zcN h)
@[simp] abbrev zom (h:ac)(m g a:Int):ac:=zmR h m g a
@[simp] abbrev zon (h:ac)(m g a:Int):Int:=zqX h m g a
@[simp] abbrev zoo (h:ac)(m g a:Int):Bool:=zf4 h m g a
def zzA:Run:=rF5 dH dI dI dI dI λb c d e f=>(zvJ b c d e f,[aH<|zqj b c d e f,aB<|zqk b c d e f])
def zEh (N:Nat)(g:ac)(c d:Int)(a e:Int):OA:=
 let b:=zo g;let h:=zj4 b b.an c d (zcW a) 2 true;let f:=zfk b b.an c d (zcW a) 2 true; (oN (zbu g)<|oN (zM a 0 15)<|cond (nB<|zi a 0 15) (some [aH b,aB false])<|oN (zM e 0 99)<|cond (nB<|zi e 0 99) (some [aH b,aB false])<|oN (zdy a)<|oN (zj5 b b.an c d (zcW a) 2 true)<|cond (nB<|zg1 b b.an c d (zcW a) 2 true) (some [aH f,aB false])<|oN (zdy a)<|oN (zkW f.ag h (zeA a) e)<|some [aH ({f with ag:=(zjl f.ag h (zeA a) e)}:ac),aB true])
def zPB (a:ac)(c d:Int)(b e:Int)(f:zvJ a c d b e=true):∃N,zEh N a c d b e=some [aH<|zqj a c d b e,aB<|zqk a c d b e]:=by
 have h:=(zU a).1 (zN.1 f);refine⟨0,?_⟩;unfold zEh zqj zqk zpg zgU oN nB;conv=>zeta
 refine j0 f (j0 rfl ?_);rw[show zi b 0 15=zi b 0 15 from rfl];cases i:zi b 0 15;{rfl};{refine zdM rfl (j0 rfl ?_);rw[show zi e 0 99=zi e 0 99 from rfl];cases j:zi e 0 99;{rfl};{refine zdM rfl (j0 rfl (j0 f ?_));rw[show zg1 (zo a) (zo a).an c d (zcW b) 2 true=zb8 a c d (zbh b) 2 from z0n _ _ _ _ _ _ _];cases g:zb8 a c d (zbh b) 2;{rw [show zfk (zo a) (zo a).an c d (zcW b) 2 true=a from congrArg Prod.fst (zne g)];rfl};{exact zdM rfl (j0 rfl (j0 (zbs<|z6W a.an true h g) rfl))}}}
def zIS:vM 180 zzA:=kF5 zA3 zC zce zdn (zu []) zPB
def zw7:Run:=rF4 dH dI dI dI λb c d e=>(ztz b c d e,[aH<|zom b c d e,aI<|zon b c d e,aB<|zoo b c d e])
def zAA (N:Nat)(f:ac)(c d a:Int):OA:=
 let b:=zo f;let g:=zj4 b b.an c d (zcW a) 1 true;let e:=zfk b b.an c d (zcW a) 1 true; (oN (zbu f)<|oN (zM a 0 15)<|cond (nB<|zi a 0 15) (some [aH b,aI 0,aB false])<|oN (zdy a)<|oN (zj5 b b.an c d (zcW a) 1 true)<|cond (nB<|zg1 b b.an c d (zcW a) 1 true) (some [aH e,aI 0,aB false])<|oN (zdy a)<|oN (zhU e.ag g<|zeA a)<|some [aH e,aI<|zmW e.ag g<|zeA a,aB true])
def zMB (a:ac)(c d b:Int)(e:ztz a c d b=true):∃N,zAA N a c d b=some [aH<|zom a c d b,aI<|zon a c d b,aB<|zoo a c d b]:=by
 have h:=(zU a).1 (zN.1 e);refine⟨0,?_⟩;unfold zAA zom zon zoo zmR zqX zf4 oN nB;conv=>zeta
 refine j0 e (j0 rfl ?_);rw[show zi b 0 15=zi b 0 15 from rfl];cases g:zi b 0 15;{rfl};{refine zdM rfl (j0 rfl (j0 e ?_));rw[show zg1 (zo a) (zo a).an c d (zcW b) 1 true=zb8 a c d (zbh b) 1 from z0n _ _ _ _ _ _ _];cases f:zb8 a c d (zbh b) 1;{rw [show zfk (zo a) (zo a).an c d (zcW b) 1 true=a from congrArg Prod.fst (zne f)];rfl};{exact zdM rfl (j0 rfl (j0 rfl rfl))}}
def zGg:vM 181 zw7:=kF4 zA3 zC zce zdn (zu []) zMB
def zZm:zW:=[(180,zzA),(181,zw7)]++zZl
def zZn:zL zZm:=zh zIS (zh zGg zA3)
def zZo:zW:=[(56,zpy),(57,zlt)]++zZm
def zN5:zL zZo:=zh zs7 (zh zmP zZn)
def zjT:ax:=⟨rp 4 false,zk5⟩
@[simp] abbrev zvM (n:Int):Bool:=ieq n 4
@[simp] abbrev zu5 (n:Int):ax:=zjT
def zzD:Run:=rF1 dI λb=>(zvM b,[aT .kept<|zu5 b])
def zUr (N:Nat)(b:Int):OA:=
 let a:=ln<|zgR b; (oN (ziM b)<|oN (cond (few a) (ieq a a) false)<|some [aT .kept (⟨rp a false,zgR b⟩:ax)])
def zPF (a:Int)(b:zvM a=true):∃N,zUr N a=some [aT .kept<|zu5 a]:=by refine⟨0,?_⟩;have h:a=4:=qF b;subst h;change _=_;kernel_rfl
def zIV:vM 58 zzD:=kF1 zN5 zC zce zdn (zu []) zPF
def zZp:zW:=[(58,zzD)]++zZo
def zN6:zL zZp:=zh zIV zN5
def ztM:List k0:=List.replicate 8 ⟨-1,0⟩
def zgJ (a:List (List Ins)):Mon:=⟨ztM,zMU,rp 8 false,(a.take 2).map ze1,[],0,0,(a.take 2).map λ_=>zjT,0⟩
def zJR {d a b q:Type}(m:Nat)(f:d->a)(g:d->b)(K:List a×List b->Option q):∀(l:List d) (i:Nat) (u:List a×List b),u.1.length+l.length<=2147483648->u.2.length+l.length<=2147483648->
 goL (λ(i:Nat) x (u:List a×List b) k=>bif ilt (i:Int) (m:Int) then (cond (few<|ln<|ap u.1 [f x]) (cond (few<|ln<|ap u.2 [g x]) (k (ap u.1 [f x],ap u.2 [g x])) none) none) else K u) K l i u=K (u.1++(l.take<|m-i).map f,u.2++(l.take<|m-i).map g)
 |[],i,u,_,_=>by simp[goL]
 |x::l,i,u,n,p=>by simp only[qZ]at n p;have e:few (ln<|ap u.1 [f x])=true:=zgI (by simp[ap];omega);have j:few (ln<|ap u.2 [g x])=true:=zgI (by simp[ap];omega);by_cases h:i<m;{have c:ilt (i:Int) (m:Int)=true:=qK (by omega);simp only[goL,c,e,j,cT];rw[zJR m f g K l (i+1) _ (by simp[ap];omega) (by simp[ap];omega)];rw[show m-i=m-(i+1)+1 by omega];simp[ap]};{have c:ilt (i:Int) (m:Int)=false:=qQ (by omega);simp only[goL,c,cF];rw[show m-i=0 by omega];simp}
def z0u (u:List ah×List ax):OA:=some [AV.agg<|Ty.cells .mon (⟨ztM,zMU,rp 8 false,u.1,[],0,0,u.2,0⟩:Mon)]
@[simp] abbrev zsc (a:List (List Ins)):Bool:=pc (z7U a)
@[simp] abbrev zG9 (a:List (List Ins)):Mon:=zgJ a
def zBY:Run:=rF1 (dS<|.sl .ins) λb=>(zsc b,[aT .mon<|zG9 b])
def zHJ (N:Nat)(k:lP):OA:=
 (oN (ziM 8)<|oN (zop 8)<|oN (cond (few 8) (ieq 8 8) false)<|iter (σ:=(Int×Int×Int×Int×Int×Int×Int×lP×lS×lM×lB×lG×LI×lK×lS×lM×lB×lG×LI×lK×Unit)) N (λl a=>let k:=a.2.2.2.2.2.2.2.2.2;let m:=k.2.2.2.2.2;let j:=m.1;let i:=m.2.1;let h:=m.2.2.1;let g:=m.2.2.2.1;let f:=m.2.2.2.2.1;let b:=a.2.2.2.2.2.2.2.1;let c:=m.2.2.2.2.2.1;let e:=ap g [zco<|ix b a.1 []];let d:=aT .mon (⟨j,i,h,g,f,a.2.2.2.2.1,a.2.2.2.2.2.1,c,a.2.2.2.2.2.2.1⟩:Mon); (cond (ilt a.1<|ln b) (cond (ilt a.1 2) (oN (inb a.1<|ln b)<|oN (ziK<|ix b a.1 [])<|oN (few<|ln e)<|oN (zvM 4)<|oN (few<|ln<|ap c [zu5 4])<|l (zO .i64 a.1 1,a.2.1,a.2.2.1,a.2.2.2.1,a.2.2.2.2.1,a.2.2.2.2.2.1,a.2.2.2.2.2.2.1,b,a.2.2.2.2.2.2.2.2.1,k.1,k.2.1,k.2.2.1,k.2.2.2.1,k.2.2.2.2.1,j,i,h,e,f,ap c [zu5 4],()))<|some [d])<|some [d])) (0,0,0,0,0,0,0,k,[],[],[],[],[],[],zgR 8,zjj 8,rp 8 false,[],[],[],()))
def zT7:=zu [(29,0,{n:=36,tm:=[(0,.sl 0 []),(2,.lp 0 0),(3,.lp 1 0),(4,ti)],lo:=[(0,[.sl 1 [],.sl 2 [],.sl 3 [],.sl 4 [],.sl 5 [],ti,ti,.sl 6 [],ti]),(1,[.sl 7 [],.sl 8 [],.sl 9 [],.sl 10 [],.sl 11 [],ti,ti,.sl 12 [],ti])],ro:=[(0,.sl .ins,false),(1,.slot,true),(2,.sl .int,true),(3,.bool,true),(4,.guest,true),(5,.int,true),(6,.kept,true),(7,.slot,true),(8,.sl .int,true),(9,.bool,true),(10,.guest,true),(11,.int,true),(12,.kept,true)]})]
def zSr (a:List lI)(f:zsc a=true):∃N,zHJ N a=some [aT .mon<|zG9 a]:=by
 have e:=zN.1 f;have c:=zcP e.1;refine zct λN d=>?_;unfold zHJ oN;conv=>zeta
 refine j0 rfl (j0 rfl (j0 rfl ?_));refine(zbo a (λi (t:lG×lK)=>((i:Int),0,0,0,0,0,0,a,[],[],[],[],[],[],zgR 8,zjj 8,rp 8 false,t.1,[],t.2,())) _ (λi (x:List Ins) (u:List ah×List ax) h=>bif ilt (i:Int) ((2:Nat):Int) then (cond (few<|ln<|ap u.1 [ze1 x]) (cond (few<|ln<|ap u.2 [zjT]) (h (ap u.1 [ze1 x],ap u.2 [zjT])) none) none) else z0u u) (λ(t:lG×lK)=>some [.agg<|Ty.cells .mon (⟨zgR 8,zjj 8,rp 8 false,t.1,[],0,0,t.2,0⟩:Mon)]) (λi b t rec=>?_) (λt rec=>?_) _ ([],[])<|d c.1).trans ?_;{simp only [zbx b,zbe b,zbl b,zbg b c.1,cT];have g:ziK a[i]=true:=zbs (e.2 _<|jK b);simp only[g,cT];rfl};{simp only [zbp,cF]};exact zJR 2 ze1 (λ_=>zjT) z0u a 0 ([],[]) (by simpa using c.2) (by simpa using c.2)
def zLJ:vM 29 zBY:=kF1 zN6 zC zce zdn zT7 zSr
def zZq:zW:=[(29,zBY)]++zZp
def zN7:zL zZq:=zh zLJ zN6
def zXX:List LI:=List.replicate 12 [0,0,0,0]
def zcH (ps:List (List<|List Ins)):ac:=⟨zXX,(ps.take 3).map zgJ,[],[]⟩
def zCx (a:List (List<|List Ins)):Prop:=a.length<=1048576/\∀p∈a,z7U p
@[simp] abbrev zql (a:List (List<|List Ins)):Bool:=pc (zCx a)
@[simp] abbrev zgp (a:List (List<|List Ins)):ac:=zcH a
def zWd (t:List Mon):OA:=some [AV.agg<|zbn ⟨zXX,t,[],[]⟩]
def zrA:Run:=rF1 (dS<|.sl<|.sl .ins) λb=>(zql b,[aH<|zgp b])
def zEi (N:Nat)(d:lQ):OA:=
 (oN (zop 12)<|iter (σ:=(Int×lQ×lM×lN×lE×lE×lM×lN×lE×lE×Unit)) N (λe a=>let d:=a.2.2.2.2.2.2;let c:=ap d.2.1 [zG9<|ix a.2.1 a.1 []];let b:=aH (⟨d.1,d.2.1,d.2.2.1,d.2.2.2.1⟩:ac); (cond (ilt a.1<|ln a.2.1) (cond (ilt a.1 3) (oN (inb a.1<|ln a.2.1)<|oN (zsc<|ix a.2.1 a.1 [])<|oN (few<|ln c)<|e (zO .i64 a.1 1,a.2.1,a.2.2.1,a.2.2.2.1,a.2.2.2.2.1,a.2.2.2.2.2.1,d.1,c,d.2.2.1,d.2.2.2.1,()))<|some [b])<|some [b])) (0,d,[],[],[],[],zjj 12,[],[],[],()))
def zQi:=zu [(9,0,{n:=28,tm:=[(0,.sl 0 []),(2,.lp 0 0),(3,.lp 1 0),(4,ti)],lo:=[(0,[.sl 1 [],.sl 2 [],.sl 3 [],.sl 4 []]),(1,[.sl 5 [],.sl 6 [],.sl 7 [],.sl 8 []])],ro:=[(0,.sl<|.sl .ins,false),(1,.sl .int,true),(2,.mon,true),(3,.entry,true),(4,.entry,true),(5,.sl .int,true),(6,.mon,true),(7,.entry,true),(8,.entry,true)]})]
def zPC (a:List lP)(f:zql a=true):∃N,zEi N a=some [aH<|zgp a]:=by
 have e:=zN.1 f;have d:=zcP e.1;refine zct λN c=>?_;unfold zEi oN;conv=>zeta
 refine j0 rfl ?_;refine(zbo a (λi (t:lN)=>((i:Int),a,[],[],[],[],zjj 12,t,[],[],())) _ (λi (x:List lI) (t:List Mon) h=>bif ilt (i:Int) ((3:Nat):Int) then (cond (few<|ln<|ap t [zgJ x]) (h<|ap t [zgJ x]) none) else zWd t) (λ(t:lN)=>some [.agg<|zbn (⟨zjj 12,t,[],[]⟩:ac)]) (λi b t rec=>?_) (λt rec=>?_) _ ([])<|c d.1).trans ?_;{simp only [zbx b,zbe b,zbl b,zbg b d.1,cT];have g:zsc a[i]=true:=zbs (e.2 _<|jK b);simp only[g,cT];rfl};{simp only [zbp,cF]};exact zOx 3 zgJ zWd a 0 [] (by simpa using d.2)
def zur:vM 9 zrA:=kF1 zN7 zC zce zdn zQi zPC
def zZr:zW:=[(9,zrA)]++zZq
def zN8:zL zZr:=zh zur zN7
def ziw:Nat->Nat->ax->ax
 | 0,_,k=>k
 |n+1,i,k=>ziw n (i+1) (zbW k (i:Int))
def zi6 (k:ax):ax:=ziw k.ay.length 0 k
def zXv (k:ax)(p:Int):(zbW k p).ay.length=k.ay.length:=by unfold zbW;cases zdP k p;{rfl};{exact zgK _ _ _}
def zvV:∀(n i:Nat) (k:ax),SmK k->SmK (ziw n i k)
 | 0,_,_,h=>h
 |n+1,i,k,h=>zvV n (i+1) _ (zoX h)
@[simp] abbrev zvH (k:ax):ax:=zi6 k
def zuQ:Run:=rF1 (dT .kept) λb=>(zeQ b,[aT .kept<|zvH b])
def zy6 (N:Nat)(c:ax):OA:=
 (oN (zgd c)<|iter (σ:=(Int×lB×lS×lB×lS×Unit)) N (λd a=>let b:=(⟨a.2.1,a.2.2.1⟩:ax); (cond (ilt a.1<|ln a.2.1) (oN (zdC b a.1)<|d (zO .i64 a.1 1,(zgF b a.1).ay,(zgF b a.1).aA,a.2.2.2.1,a.2.2.2.2.1,()))<|some [aT .kept b])) (0,(zdK c).ay,(zdK c).aA,[],[],()))
def zKW:=zu [(215,0,{n:=17,tm:=[(1,.lp 0 0),(2,.lp 1 0),(3,ti)],lo:=[(0,[.sl 0 [],.sl 1 []]),(1,[.sl 2 [],.sl 3 []])],ro:=[(0,.bool,true),(1,.slot,true),(2,.bool,true),(3,.slot,true)]})]
def zJL (a:ax)(g:zeQ a=true):∃N,zy6 N a=some [aT .kept<|zvH a]:=by
 have d:=zN.1 g;have f:=zcP d.1;refine zct λN c=>?_;unfold zy6 oN;conv=>zeta
 refine j0 (zbD<|(zwd _).2 d) ?_;refine(zCQ a.ay.length (λi (k:ax)=>((i:Int),k.ay,k.aA,[],[],())) _ (λi k=>SmK k/\k.ay.length=a.ay.length) (λi k=>some [AV.agg<|Ty.cells .kept<|ziw (a.ay.length-i) i k]) (λi k rec e b h=>?_) (λk rec b=>?_) N 0 a ⟨d,rfl⟩ (j3 _)<|c f.1).trans rfl;{refine j0 (zbx (by rw[b.2];exact e)) (j0 (zbs b.1) ?_);have q:=h (zbW k (i:Int)) ⟨zoX b.1,by rw[zXv];exact b.2⟩;rw[show a.ay.length-i=a.ay.length-(i+1)+1 by omega];rw[zbg e f.1];exact q};{refine zdM (by show ilt (a.ay.length:Int) (ln k.ay)=false;rw[ln,b.2];exact qQ (by omega)) ?_;rw[uA];rfl}
def zDn:vM 215 zuQ:=kF1 zN8 zC zce zdn zKW zJL
def zZs:zW:=[(215,zuQ)]++zZr
def zN9:zL zZs:=zh zDn zN8
def zt5:Nat->Nat->List ax->List ax
 | 0,_,l=>l
 |n+1,j,l=>zt5 n (j+1) (up l (j:Int)<|zi6<|ix l (j:Int) kZ)
def zt6 (x:Mon)(n j:Nat):Mon:={x with aj:=zt5 n j x.aj}
def znz:Nat->Nat->List Mon->List Mon
 | 0,_,t=>t
 |n+1,i,t=>znz n (i+1) (up t (i:Int)<|zt6 (ix t (i:Int) mZ) (ix t (i:Int) mZ).aj.length 0)
def cold (h:ac):ac:=⟨h.ag,znz h.aa.length 0 h.aa,[],[]⟩
def zKB:∀(n j:Nat) (l:List ax),j+n<=l.length->zAO l->zAO (zt5 n j l)
 | 0,_,_,_,h=>h
 |n+1,j,l,b,h=>by have a:j<l.length:=(by omega);refine zKB n (j+1) _ (by rw[zgK];omega) (zxp h<|zvV _ _ _ ?_);rw[zbl a];exact h.2 _ (jK a)
def zKD {x:Mon}(h:zfm x){n j:Nat}(a:j+n<=x.aj.length):zfm (zt6 x n j):=⟨h.1,h.2.1,h.2.2.1,h.2.2.2.1,h.2.2.2.2.1,zKB n j _ a h.2.2.2.2.2⟩
@[simp] abbrev zTl (h:ac):ac:=cold h
def zKh:Run:=rF1 dH λb=>(zbu b,[aH<|zTl b])
def zQN (N:Nat)(d:ac):OA:=
 (oN (zbu d)<|iter (σ:=(Int×lM×lN×lE×lE×lM×lN×lE×lE×Unit)) N (λg b=>cond (ilt b.1<|ln b.2.2.1) (iter (σ:=(Int×Int×lM×lN×lE×lE×lM×lN×lE×lE×Unit)) N (λh a=>let b:=a.2.2.2.2.2;let e:=inb a.1<|ln a.2.2.2.1;let c:=ix a.2.2.2.1 a.1 zk;let f:=ix c.aj a.2.1 zfF; (oN e<|cond (ilt a.2.1<|ln c.aj) (oN e<|oN e<|oN (inb a.2.1<|ln c.aj)<|oN (zeQ f)<|oN (inb a.2.1<|ln c.aj)<|p0 (up a.2.2.2.1 a.1 ({c with aj:=(up c.aj a.2.1<|zvH f)}:Mon)) λi=>h (a.1,zO .i64 a.2.1 1,a.2.2.1,i,a.2.2.2.2.1,b.1,b.2.1,b.2.2.1,b.2.2.2.1,b.2.2.2.2.1,()))<|g (zO .i64 a.1 1,a.2.2.1,a.2.2.2.1,a.2.2.2.2.1,b.1,b.2.1,b.2.2.1,b.2.2.2.1,b.2.2.2.2.1,()))) (b.1,0,b.2.1,b.2.2.1,b.2.2.2.1,b.2.2.2.2.1,b.2.2.2.2.2.1,b.2.2.2.2.2.2.1,b.2.2.2.2.2.2.2.1,b.2.2.2.2.2.2.2.2.1,()))<|some [aH (⟨b.2.1,b.2.2.1,[],[]⟩:ac)]) (0,(zo d).ag,(zo d).aa,(zo d).ao,(zo d).an,[],[],[],[],()))
def zYT:=zu [(191,0,{n:=48,tm:=[(1,.lp 0 0),(2,.lp 1 0),(3,ti)],lo:=[(0,[.sl 0 [],.sl 1 [],.sl 2 [],.sl 3 []]),(1,[.sl 4 [],.sl 5 [],.sl 6 [],.sl 7 []])],ro:=[(0,.sl .int,true),(1,.mon,true),(2,.entry,true),(3,.entry,true),(4,.sl .int,true),(5,.mon,true),(6,.entry,true),(7,.entry,true)]}),(191,2,{n:=48,tm:=[(1,.lp 0 0),(2,.lp 1 0),(3,ti),(4,ti)],lo:=[(0,[.sl 0 [],.sl 1 [],.sl 2 [],.sl 3 []]),(1,[.sl 4 [],.sl 5 [],.sl 6 [],.sl 7 []])],ro:=[(0,.sl .int,true),(1,.mon,true),(2,.entry,true),(3,.entry,true),(4,.sl .int,true),(5,.mon,true),(6,.entry,true),(7,.entry,true)]})]
def zXT (a:ac)(m:zbu a=true):∃N,zQN N a=some [aH<|zTl a]:=by
 have v:=(zU a).1 (zN.1 m);have s:=zcP v.2.1.1;refine zct λN f=>?_;unfold zQN oN;conv=>zeta
 refine j0 m ?_;refine(zCQ a.aa.length (λi (t:List Mon)=>((i:Int),a.ag,t,a.ao,a.an,[],[],[],[],())) _ (λi t=>zqJ t/\t.length=a.aa.length) (λi t=>some [AV.agg<|zbn ⟨a.ag,znz (a.aa.length-i) i t,[],[]⟩]) (λi t rec n e x=>?_) (λt rec e=>?_) N 0 a.aa ⟨v.2.1,rfl⟩ (j3 _)<|f s.1).trans rfl
 .have hit:i<t.length:=(by rw[e.2];exact n);have l:zfm (ix t (i:Int) mZ):=by rw[zbl hit];exact e.1.2 _ (jK hit)
  have r:=zcP l.2.2.2.2.2.1;refine j0 (zbx hit) ?_;refine(zCQ (ix t (i:Int) mZ).aj.length (λj (u:List Mon)=>((i:Int),(j:Int),a.ag,u,a.ao,a.an,[],[],[],[],()))
   _ (λj u=>u.length=t.length/\zfm (ix u (i:Int) mZ)/\(ix u (i:Int) mZ).aj.length=(ix t (i:Int) mZ).aj.length)
   (λj u=>rec (((i+1:Nat):Int),a.ag,up u (i:Int)<|zt6 (ix u (i:Int) mZ) ((ix t (i:Int) mZ).aj.length-j) j,a.ao,a.an,[],[],[],[],()))
   (λj u h p c k=>?_) (λu h c=>?_) N 0 t ⟨rfl,l,rfl⟩ (j3 _) (f r.1)).trans ?_
  .have b:i<u.length:=(by rw[c.1];exact hit);have d:j<(ix u (i:Int) mZ).aj.length:=(by rw[c.2.2];exact p);have g:SmK (ix (ix u (i:Int) mZ).aj (j:Int) kZ):=by rw[zbl d];exact c.2.1.2.2.2.2.2.2 _ (jK d)
   refine j0 (zbe b) (j0 (zbx d)<|j0 (zbe b)<|j0 (zbe b)<|j0 (zbe d)<|j0 (zbs g)<|j0 (zbe d)<|shr ?_);have w:zfm {ix u (i:Int) mZ with aj:=up (ix u (i:Int) mZ).aj (j:Int) (zi6<|ix (ix u (i:Int) mZ).aj (j:Int) kZ)} :=
    ⟨c.2.1.1,c.2.1.2.1,c.2.1.2.2.1,c.2.1.2.2.2.1,c.2.1.2.2.2.2.1,zxp c.2.1.2.2.2.2.2<|zvV _ _ _ g⟩
   have q:=k (up u (i:Int) {ix u (i:Int) mZ with aj:=up (ix u (i:Int) mZ).aj (j:Int) (zi6<|ix (ix u (i:Int) mZ).aj (j:Int) kZ)}) ⟨by rw[zgK];exact c.1,by rw[zd9 b];exact w,by rw[zd9 b];simp only[zgK];exact c.2.2⟩;rw[zbg p r.1];refine q.trans ?_;rw[zd9 b,zvg,show (ix t (i:Int) mZ).aj.length-j=(ix t (i:Int) mZ).aj.length-(j+1)+1 by omega];rfl
  {have b:i<u.length:=(by rw[c.1];exact hit);refine j0 (zbe b) (zdM (by show ilt ((ix t (i:Int) mZ).aj.length:Int) (ln (ix u (i:Int) mZ).aj)=false;rw[ln,c.2.2];exact qQ (by omega)) ?_);rw[zbg n s.1,uA];show rec (_,a.ag,u,_)=rec (_,a.ag,up u (i:Int)<|ix u (i:Int) mZ,_);rw[zNv b]};{have q:=x (up t (i:Int)<|zt6 (ix t (i:Int) mZ) (ix t (i:Int) mZ).aj.length 0) ⟨zi0 e.1<|zKD l (by omega),by rw[zgK];exact e.2⟩;refine q.trans ?_;rw[show a.aa.length-i=a.aa.length-(i+1)+1 by omega];rfl}
 {refine zdM (by show ilt (a.aa.length:Int) (ln t)=false;rw[ln,e.2];exact qQ (by omega)) ?_;rw[uA];rfl}
def zRV:vM 191 zKh:=kF1 zN9 zC zce zdn zYT zXT
def zZt:zW:=[(191,zKh)]++zZs
def zZu:zL zZt:=zh zRV zN9
def zZv:zW:=zZt
def zOa:zL zZv:=zZu
def zz0:∀(n i:Nat) (t:List Mon),i+n<=t.length->zqJ t->zqJ (znz n i t)
 | 0,_,_,_,h=>h
 |n+1,i,t,b,h=>by have a:i<t.length:=(by omega);refine zz0 n (i+1) _ (by rw[zgK];omega) (zi0 h<|zKD ?_ (by omega));rw[zbl a];exact h.2 _ (jK a)
def z3t {h:ac}(a:SmH h):SmH (cold h):=⟨a.1,zz0 _ _ _ (by omega) a.2.1,by simp[cold],by simp[cold]⟩
def zm4 {h:ac}{m:Int}{b:am}(c:SmH h)(d:zcV h m=true->SmB b):SmH (zhu h m b):=by unfold zhu;cases a:zcV h m;{exact c};{exact zHe c (zcB.1 a).2 (d a).2.1}
def z1c {h:ac}{m g p:Int}(c:SmH h):SmH (zku h m g p):=by unfold zku;cases e:zcV h m;{exact c};{cases l:zcg (zK h m) g (i0 p 4);{exact c};{have d:=(zcB.1 e).2;have f:=zTI c d;have k:SmB (chg (zK h m) g (i0 p 4)<|zd5 (gAt (zK h m) g) p):=zpK f (zKz _<|zjP _ f);have b:=zHe c d k.2.1;have i:=zQ0 (chg (zK h m) g (i0 p 4)<|zd5 (gAt (zK h m) g) p) d;have j:=zOj c e (chg (zK h m) g (i0 p 4)<|zd5 (gAt (zK h m) g) p) l;have a:=b.2.1.2 _ (zbF i mZ);simp only[cT];exact⟨b.1,zi0 b.2.1 ⟨a.1,a.2.1,a.2.2.1,a.2.2.2.1,a.2.2.2.2.1,zxp a.2.2.2.2.2<|zoX<|a.2.2.2.2.2.2 _<|zbF j _⟩,qS (zxZ _ _ _) b.2.2.1,qS (zxZ _ _ _) b.2.2.2⟩}}
def z3u {h:ac}{m p c v:Int}(e:SmH h):SmH (zmQ h m p c v):=by unfold zmQ;cases a:zfs h m p c v;{exact e};{have f:zbX h m p=true:=(by unfold zfs at a;cases b:zbX h m p;{rw [b]at a;cases a};{rfl});obtain⟨g,i,b⟩:=zf6.1 f;have d:=(zoT (n:=2) (zew e g) i b).1.1;exact⟨zyM d.1,d.2⟩}
def zSM {h:ac}{m g c a:Int}(b:List au)(i:Bool)(f:SmH h)(d:zb8 h m g c a=true):SmH (lookOf h b m g c a i).1:=by have hg:zbZ h m g=true:=(by unfold zb8 at d;cases e:zbZ h m g;{rw [e]at d;cases d};{rfl});exact(zwz f hg).shape.1
def z7E {h:ac}{m g a v:Int}(e:SmH h):SmH (zpg h m g a v):=by unfold zpg;cases b:zgU h m g a v;{exact e};{have f:zb8 h m g (zbh a) 2=true:=(by unfold zgU at b;cases c:zi a 0 15;{rw [c]at b;cases b};{cases d:zi v 0 99;{rw [c,d]at b;cases b};{rw [c,d]at b;exact b}});have c:=zSM h.an true e f;exact⟨zyM c.1,c.2⟩}
def z3v {h:ac}{m g a:Int}(d:SmH h):SmH (zmR h m g a):=by unfold zmR;cases b:zf4 h m g a;{exact d};{have e:zb8 h m g (zbh a) 1=true:=(by unfold zf4 at b;cases c:zi a 0 15;{rw [c]at b;cases b};{rw [c]at b;exact b});exact zSM h.an true d e}
def z7F {h:ac}{m p:Int}(a:SmH h):SmH (zpm h m p):=by unfold zpm;cases b:zbX h m p;{exact a};{obtain⟨c,d,e⟩:=zf6.1 b;cases zj9 h m p;{exact(zKt (zew a c).1 d).1};{exact a}}
def z8Y {h:ac}{m p:Int}(a:SmH h):SmH (ztg h m p):=by unfold ztg;cases b:zbX h m p;{exact a};{obtain⟨c,d,e⟩:=zf6.1 b;cases zj9 h m p;{exact a};{exact(zjO (zew a c) d e).1.1}}
def z1g {h:ac}{m t:Int}(a:SmH h):SmH (zjt h m t):=by unfold zjt;cases zb5 h;{exact a};{cases c:i0 m (ln h.aa);{exact a};{cases zi t 0 3;{exact a};{have b:zfm (ix h.aa m mZ):=a.2.1.2 _ (zbF c mZ);exact⟨a.1,zi0 a.2.1 ⟨b.1,b.2.1,b.2.2.1,b.2.2.2.1,b.2.2.2.2.1,b.2.2.2.2.2⟩,a.2.2⟩}}}
def zta (h:ac)(a:GAct):ac:=bif ieq a.Kind 1 then (zcu h a.M a.G).1 else (cond (ieq a.Kind 2) (zl4 h a.M a.G a.X ⟨a.Y,a.Z⟩)<|cond (ieq a.Kind 3) (zku h a.M a.G a.X)<|cond (ieq a.Kind 4) (ziB h a.M a.G a.X)<|cond (ieq a.Kind 5) (ziF h a.M a.G)<|cond (ieq a.Kind 6) (ziD h a.M a.G a.X)<|cond (ieq a.Kind 7) (zl2 h a.M a.G ⟨a.X,a.Y,ieq a.Z 1⟩)<|cond (ieq a.Kind 8) (zmQ h a.M a.X a.Y a.Z)<|cond (ieq a.Kind 9) (zky h a.M a.X)<|cond (ieq a.Kind 10) (zlZ h a.M)<|cond (ieq a.Kind 11) (zpg h a.M a.G a.X a.Y)<|zmR h a.M a.G a.X)
def zBr (h:ac)(a:GAct):aE:=bif ieq a.Kind 1 then ⟨(zcu h a.M a.G).2,0⟩ else (cond (ieq a.Kind 2) ⟨zl5 h a.M a.G a.X ⟨a.Y,a.Z⟩,0⟩<|cond (ieq a.Kind 3) ⟨zjA h a.M a.G a.X,0⟩<|cond (ieq a.Kind 4) ⟨ziC h a.M a.G a.X,0⟩<|cond (ieq a.Kind 5) ⟨ziG h a.M a.G,0⟩<|cond (ieq a.Kind 6) ⟨ziE h a.M a.G a.X,0⟩<|cond (ieq a.Kind 7) ⟨zl3 h a.M a.G ⟨a.X,a.Y,ieq a.Z 1⟩,0⟩<|cond (ieq a.Kind 8) ⟨zfs h a.M a.X a.Y a.Z,0⟩<|cond (ieq a.Kind 9) ⟨zkz h a.M a.X,0⟩<|cond (ieq a.Kind 10) ⟨zl1 h a.M,zl0 h a.M⟩<|cond (ieq a.Kind 11) ⟨zgU h a.M a.G a.X a.Y,0⟩<|⟨zf4 h a.M a.G a.X,zqX h a.M a.G a.X⟩)
def zl8 (h:ac)(a:GAct):ac:=bif ieq a.Kind 13 then zpm h a.M a.X else (cond (ieq a.Kind 14) (ztg h a.M a.X)<|cond (ieq a.Kind 15) (zsZ h a.M a.X)<|cond (ieq a.Kind 16) (zjt h a.M a.X)<|cold h)
def zJ2 (h:ac)(a:GAct):aE:=bif ieq a.Kind 13 then ⟨zBM h a.M a.X,0⟩ else (cond (ieq a.Kind 14) ⟨zGV h a.M a.X,0⟩<|cond (ieq a.Kind 15) ⟨zbX h a.M a.X,0⟩<|cond (ieq a.Kind 16) ⟨zyJ h a.M a.X,0⟩<|⟨true,0⟩)
def zeI (h:ac)(a:GAct):ac:=bif zi a.Kind 1 17 then (cond (zi a.Kind 13 17) (zl8 h a)<|zta h a) else h
def zjb (h:ac)(a:GAct):aE:=bif zi a.Kind 1 17 then (cond (zi a.Kind 13 17) (zJ2 h a)<|zBr h a) else ⟨false,0⟩
def z1f {h:ac}{a:GAct}(b:SmH h):SmH (zl8 h a):=by unfold zl8;cases ieq a.Kind 13;{cases ieq a.Kind 14;{cases ieq a.Kind 15;{cases ieq a.Kind 16;{exact z3t b};{exact z1g b}};{exact z1d b}};{exact z8Y b}};{exact z7F b}
def z1e {h:ac}{a:GAct}(c:SmH h):SmH (zta h a):=by have d:zcV h a.M=true->SmB (zK h a.M):=λb=>zTI c (zcB.1 b).2;unfold zta;cases ieq a.Kind 1;{cases ieq a.Kind 2;{cases ieq a.Kind 3;{cases ieq a.Kind 4;{cases ieq a.Kind 5;{cases ieq a.Kind 6;{cases ieq a.Kind 7;{cases ieq a.Kind 8;{cases ieq a.Kind 9;{cases ieq a.Kind 10;{cases ieq a.Kind 11;{exact z3v c};{exact z7E c}};{exact zm4 c (λb=>zWy (d b))}};{exact zm4 c (λb=>zTH _ (d b))}};{exact z3u c}};{exact zm4 c (λb=>zWz _ _ (d b))}};{exact zm4 c (λb=>zKw _ _ (d b))}};{exact zm4 c (λb=>zKx _ (d b))}};{exact zm4 c (λb=>zKv _ _ (d b))}};{exact z1c c}};{exact zm4 c (λb=>zWA _ _ _ (d b))}};{exact(z02 a.M a.G c).sm}
def zWD {h:ac}{a:GAct}(b:SmH h):SmH (zeI h a):=by unfold zeI;cases zi a.Kind 1 17;{exact b};{cases zi a.Kind 13 17;{exact z1e b};{exact z1f b}}
@[simp] abbrev zhr (h:ac)(a:GAct):Bool:=pc (zcN h)
@[simp] abbrev zk3 (h:ac)(a:GAct):ac:=zl8 h a
@[simp] abbrev ziU (h:ac)(a:GAct):aE:=zJ2 h a
def zxh:Run:=rF2 dH (dT .act) λb c=>(zhr b c,[aH<|zk3 b c,aT .told<|ziU b c])
def zAN (N:Nat)(c:ac)(a:GAct):OA:=
 (cond (ieq a.Kind 13) (oN (zhQ c a.M a.X)<|some [aH<|zqn c a.M a.X,.agg [.b<|zqo c a.M a.X,.i .i64 0]])<|cond (ieq a.Kind 14) (oN (zhQ c a.M a.X)<|some [aH<|zse c a.M a.X,.agg [.b<|zsf c a.M a.X,.i .i64 0]])<|cond (ieq a.Kind 15) (oN (zhQ c a.M a.X)<|some [aH<|zuU c a.M a.X,.agg [.b<|zd1 c a.M a.X,.i .i64 0]])<|cond (ieq a.Kind 16) (oN (ztE c a.M a.X)<|some [aH<|zoq c a.M a.X,.agg [.b<|zor c a.M a.X,.i .i64 0]])<|oN (zbu c)<|some [aH<|zTl c,.agg [.b true,.i .i64 0]])
def zMP (a:ac)(b:GAct)(c:zhr a b=true):∃N,zAN N a b=some [aH<|zk3 a b,aT .told<|ziU a b]:=by have d:=zN.1 c;refine⟨0,?_⟩;unfold zAN oN;refine br (λ_=>mu ?_) (λ_=>br (λ_=>mu ?_) λ_=>br (λ_=>mu ?_) λ_=>br (λ_=>mu ?_) λ_=>mu ?_);all_goals first|rfl|(simp only [*,zk3,ziU,zl8,zJ2,cT,cF]<;>rfl)|simp_all[Ty.cells,zk3,ziU,zl8,zJ2]
def zGA:vM 168 zxh:=kF2 zOa zC zce zdn (zu []) zMP
def zZw:zW:=[(168,zxh),(166,zE4),(167,zzC),(176,zE5)]++zZv
def zOb:zL zZw:=zh zGA (zh zO5<|zh zIU<|zh zO6 zOa)
@[simp] abbrev zmc (h:ac)(a:GAct):ac:=zeI h a
@[simp] abbrev zmd (h:ac)(a:GAct):aE:=zjb h a
def zrz:Run:=rF2 dH (dT .act) λb c=>(zhr b c,[aH<|zmc b c,aT .told<|zmd b c])
def zEf (N:Nat)(c:ac)(a:GAct):OA:=
 let d:=(⟨a.Y,a.Z⟩:k0); (oN (znh a)<|cond (nB<|zxi a) (oN (zbu c)<|some [aH<|zo c,.agg [.b false,.i .i64 0]])<|oN (zvL a.Kind)<|cond (zq6 a.Kind) (oN (zhr c a)<|some [aH<|zk3 c a,.agg [.b (ziU c a).Ok,.i .i64 (ziU c a).N]])<|cond (ieq a.Kind 1) (oN (zdh c a.M a.G)<|some [aH<|zcD c a.M a.G,.agg [.b<|zcE c a.M a.G,.i .i64 0]])<|cond (ieq a.Kind 2) (oN (zvK c a.M a.G a.X d)<|some [aH<|zl4 c a.M a.G a.X d,.agg [.b<|zl5 c a.M a.G a.X d,.i .i64 0]])<|cond (ieq a.Kind 3) (oN (zrJ c a.M a.G a.X)<|some [aH<|zmB c a.M a.G a.X,.agg [.b<|zjA c a.M a.G a.X,.i .i64 0]])<|cond (ieq a.Kind 4) (oN (zpC c a.M a.G a.X)<|some [aH<|ziB c a.M a.G a.X,.agg [.b<|ziC c a.M a.G a.X,.i .i64 0]])<|cond (ieq a.Kind 5) (oN (zpE c a.M a.G)<|some [aH<|ziF c a.M a.G,.agg [.b<|ziG c a.M a.G,.i .i64 0]])<|cond (ieq a.Kind 6) (oN (zpD c a.M a.G a.X)<|some [aH<|ziD c a.M a.G a.X,.agg [.b<|ziE c a.M a.G a.X,.i .i64 0]])<|cond (ieq a.Kind 7) (oN (znh a)<|oN (zvI c a.M a.G<|zpA a)<|some [aH<|zl2 c a.M a.G<|zpA a,.agg [.b<|zl3 c a.M a.G<|zpA a,.i .i64 0]])<|cond (ieq a.Kind 8) (oN (ztx c a.M a.X a.Y a.Z)<|some [aH<|zok c a.M a.X a.Y a.Z,.agg [.b<|zol c a.M a.X a.Y a.Z,.i .i64 0]])<|cond (ieq a.Kind 9) (oN (zty c a.M a.X)<|some [aH<|zky c a.M a.X,.agg [.b<|zkz c a.M a.X,.i .i64 0]])<|cond (ieq a.Kind 10) (oN (zh9 c a.M)<|some [aH<|zlZ c a.M,.agg [.b<|zl1 c a.M,.i .i64<|zl0 c a.M]])<|cond (ieq a.Kind 11) (oN (zvJ c a.M a.G a.X a.Y)<|some [aH<|zqj c a.M a.G a.X a.Y,.agg [.b<|zqk c a.M a.G a.X a.Y,.i .i64 0]])<|oN (ztz c a.M a.G a.X)<|some [aH<|zom c a.M a.G a.X,.agg [.b<|zoo c a.M a.G a.X,.i .i64<|zon c a.M a.G a.X]])
def zPz (a:ac)(b:GAct)(c:zhr a b=true):∃N,zEf N a b=some [aH<|zmc a b,aT .told<|zmd a b]:=by
 have d:=zN.1 c;refine⟨0,?_⟩;unfold zEf oN nB;conv=>zeta
 refine j0 rfl (brN (λ_=>mu ?_) λ_=>j0 rfl (br (λ_=>mu ?_) λ_=>br (λ_=>mu ?_) λ_=>br (λ_=>mu ?_) λ_=>br (λ_=>mu ?_) λ_=>br (λ_=>mu ?_) λ_=>br (λ_=>mu ?_) λ_=>br (λ_=>mu ?_) λ_=>br (λ_=>j0 rfl (mu ?_)) λ_=>br (λ_=>mu ?_) λ_=>br (λ_=>mu ?_) λ_=>br (λ_=>mu ?_) λ_=>br (λ_=>mu ?_) λ_=>mu ?_));all_goals first|rfl|(simp only [*,zmc,zmd,zeI,zjb,zta,zBr,cT,cF]<;>rfl)|simp_all[Ty.cells,zmc,zmd,zeI,zjb,zta,zBr]
def zuq:vM 144 zrz:=kF2 zOb zC zce zdn (zu []) zPz
def zZx:zW:=[(144,zrz)]++zZw
def zOc:zL zZx:=zh zuq zOb
def zBT:List GAct->ac×List aE->ac×List aE
 |[],u=>u
 |a::l,u=>zBT l (zeI u.1 a,ap u.2 [zjb u.1 a])
def zyb (a:List (List<|List Ins))(l:List GAct):ac×List aE:=zBT (l.take 80) (zcH a,[])
abbrev HSt:Type:=(List aE)×(List<|LI)×(List Mon)×(List au)×(List au)
def hOf (t:HSt):ac:=⟨t.2.1,t.2.2.1,t.2.2.2.1,t.2.2.2.2⟩
def tOf (u:ac×List aE):HSt:=(u.2,u.1.ag,u.1.aa,u.1.ao,u.1.an)
def zyk (t:HSt):OA:=some [AV.agg<|zbn<|hOf t,AV.one<|.s .told t.1]
def zxo {e:List (List<|List Ins)}(h:zCx e):SmH (zcH e):=by refine⟨show SmM zXX from ⟨by decide,by decide⟩,⟨?_,?_⟩,by simp[zcH],by simp[zcH]⟩;{simp only [zcH,uM,vK];omega};{intro x d;simp only[zcH,jF]at d;obtain⟨p,f,rfl⟩:=d;have b:=h.2 p (jW f);refine⟨show ztM.length<=1048576 by decide,show SmM zMU from ⟨by decide,by decide⟩,show (rp 8 false).length<=1048576 by decide,⟨?_,?_⟩,by simp[zgJ],⟨?_,?_⟩⟩;{simp only [zgJ,uM,vK];omega};{intro y a;simp only[zgJ,jF]at a;obtain⟨q,c,rfl⟩:=a;exact⟨b.2 q<|jW c,show zk5.length<=1048576 by decide,show zk5.length<=1048576 by decide,by simp[ze1]⟩};{simp only [zgJ,uM,vK];omega};{intro y a;simp only[zgJ,jF]at a;obtain⟨q,c,rfl⟩:=a;exact⟨show (rp 4 false).length<=1048576 by decide,show zk5.length<=1048576 by decide⟩}}
def zER {c:ac->GAct->Bool}(d:∀h a,SmH h->c h a=true)(m:Nat):∀(l:List GAct) (i:Nat) (u:ac×List aE),SmH u.1->u.2.length+l.length<=2147483648->
 goL (λ(i:Nat) x (t:HSt) n=>bif ilt (i:Int) (m:Int) then (cond (c (hOf t) x) (cond (few<|ln<|ap t.1 [zjb (hOf t) x]) (n (ap t.1 [zjb (hOf t) x],(zeI (hOf t) x).ag,(zeI (hOf t) x).aa,(zeI (hOf t) x).ao,(zeI (hOf t) x).an)) none) none) else zyk t) zyk l i (tOf u)=zyk (tOf<|zBT (l.take<|m-i) u)
 |[],i,u,_,_=>by simp[goL,zBT]
 |a::l,i,u,e,k=>by simp only[qZ]at k;have g:few (ln<|ap u.2 [zjb u.1 a])=true:=zgI (by simp[ap];omega);have j:hOf (tOf u)=u.1:=rfl;have f:(tOf u).1=u.2:=rfl;by_cases h:i<m;{have b:ilt (i:Int) (m:Int)=true:=qK (by omega);simp only[goL,b,j,f,g,d _ _ e,cT];refine(zER d m l (i+1) (zeI u.1 a,ap u.2 [zjb u.1 a]) (zWD e) (by simp[ap];omega)).trans ?_;rw[show m-i=m-(i+1)+1 by omega];rfl};{have b:ilt (i:Int) (m:Int)=false:=qQ (by omega);simp only[goL,b,cF];rw[show m-i=0 by omega];rfl}
@[simp] abbrev ztw (a:List (List<|List Ins))(l:List GAct):Bool:=pc (zCx a/\l.length<=1048576)
@[simp] abbrev ztv (a:List (List<|List Ins))(l:List GAct):ac:=(zyb a l).1
@[simp] abbrev zCa (a:List (List<|List Ins))(l:List GAct):List aE:=(zyb a l).2
def zw4:Run:=rF2 (dS<|.sl<|.sl .ins) (dS .act) λb c=>(ztw b c,[aH<|ztv b c,aS .told<|zCa b c])
def zAx (N:Nat)(b:lQ)(g:lA):OA:=
 (oN (zql b)<|iter (σ:=(Int×lA×lT×lM×lN×lE×lE×lM×lN×lE×lE×Unit)) N (λh a=>let b:=a.2.2.2.2.2;let e:=ix a.2.1 a.1 z9I;let c:=(⟨b.2.2.1,b.2.2.2.1,b.2.2.2.2.1,b.2.2.2.2.2.1⟩:ac);let f:=ap a.2.2.1 [zmd c e];let d:=zmc c e; (cond (ilt a.1<|ln a.2.1) (cond (ilt a.1 80) (oN (inb a.1<|ln a.2.1)<|oN (zhr c e)<|oN (few<|ln f)<|h (zO .i64 a.1 1,a.2.1,f,a.2.2.2.1,a.2.2.2.2.1,b.1,b.2.1,d.ag,d.aa,d.ao,d.an,()))<|some [aH c,aS .told a.2.2.1])<|some [aH c,aS .told a.2.2.1])) (0,g,[],[],[],[],[],(zgp b).ag,(zgp b).aa,(zgp b).ao,(zgp b).an,()))
def zNl:=zu [(106,0,{n:=39,tm:=[(1,.sl 0 []),(4,.lp 0 0),(6,.lp 1 0),(7,.sl 1 []),(8,ti)],lo:=[(0,[.sl 2 [],.sl 3 [],.sl 4 [],.sl 5 []]),(1,[.sl 6 [],.sl 7 [],.sl 8 [],.sl 9 []])],ro:=[(0,.act,false),(1,.told,true),(2,.sl .int,true),(3,.mon,true),(4,.entry,true),(5,.entry,true),(6,.sl .int,true),(7,.mon,true),(8,.entry,true),(9,.entry,true)]})]
def zMy (b:List lP)(c:List GAct)(k:ztw b c=true):∃N,zAx N b c=some [aH<|ztv b c,aS .told<|zCa b c]:=by
 obtain⟨j,g⟩:=zN.1 k;have f:=zcP g;refine zct λN e=>?_;unfold zAx oN;conv=>zeta
 refine j0 (zbs j) ?_;refine(zbo c (λi (t:lT×lM×lN×lE×lE)=>((i:Int),c,t.1,[],[],[],[],t.2.1,t.2.2.1,t.2.2.2.1,t.2.2.2.2,())) _ (λi (x:GAct) (t:HSt) m=>bif ilt (i:Int) ((80:Nat):Int) then (cond (zhr (hOf t) x) (cond (few<|ln<|ap t.1 [zjb (hOf t) x]) (m (ap t.1 [zjb (hOf t) x],(zeI (hOf t) x).ag,(zeI (hOf t) x).aa,(zeI (hOf t) x).ao,(zeI (hOf t) x).an)) none) none) else zyk t) (λ(t:lT×lM×lN×lE×lE)=>some [.agg<|zbn (⟨t.2.1,t.2.2.1,t.2.2.2.1,t.2.2.2.2⟩:ac),.one<|.s .told t.1]) (λi d t rec=>?_) (λt rec=>?_) _ ([],(zgp b).ag,(zgp b).aa,(zgp b).ao,(zgp b).an)<|e f.1).trans ?_;{simp only [zbx d,zbe d,zbl d,zbg d f.1,cT];rfl};{simp only [zbp,cF]};exact zER (λh a l=>zbs ((zU h).2 l)) 80 c 0 (zcH b,[]) (zxo j) (by simpa using f.2)
def zGd:vM 106 zw4:=kF2 zOc zC zce zdn zNl zMy
def zRj:zW:=[(106,zw4)]++zZx
def zEH:zL zRj:=zh zGd zOc
def zWT (h:ac):Prop:=∃a l,zCx a/\(1<=a.length/\∀p∈a,1<=p.length/\∀x∈p,zdk x=true)/\h=(zyb a l).1
def zG5 {p:List Ins}(h:zdk p=true):p.length<=12:=by unfold zdk at h;cases a:p.all zei with|false=>rw[a]at h;cases h|true=>rw[a,cT]at h;have b:=(zfE.1 h).2;unfold ln at b;omega
def zvq (N:Nat)(c:Cur)  : OA :=
 let a:=({ (zlI c) with b:=c.b}:Cur); (oN (zoQ c)<|oN (zmm a 20)<|oN (ztw (ztI c)<|zra a 20)<|some [.agg [.s .u8 c.b,.i .i64 (zmn a 20).i,.i .i64 (zmn a 20).h],aH<|ztv (ztI c)<|zra a 20])
def zoR (c:Cur)(s:Cur)(a:ac):Prop:=(∃N,zvq N c=some (AV.agg (zbU s)::[aH a]))/\(s.b=c.b/\0<=s.i)/\(zWT a)
def zml (c:Cur)  : Bool:=wC (zoR c)
def zik (c:Cur)  : Cur:=wS (zoR c)
def zq9 (c:Cur)  : ac:=wV (zoR c)
def zFg {c:Cur}(h:zml c=true):zoR c (zik c) (zq9 c):=wG h
def zVt (c:Cur)  : 0<=(zik c).i:=wP λh=>h.2.1.2
def zVs (c:Cur)(h:∃N,Ends (wE (λa=>aH a) c.b λa=>zWT a)<|zvq N c):zml c=true:=wI (λ_ _ h=>h) h
def zwR:zdU:=rP0 λc=>(zml c,zik c,[aH<|zq9 c])
def zJi:zbR Tryz.prog 65 [false,true,true] zwR:=hP0 zEH zT zS7 zq (zu []) (λ_ h=>(zFg h).1)
def zZ8 {c:Cur}(h:zbd c):zml c=true:=by
 refine zVs c ⟨0,?_⟩;have e:zbd {zlI c with b:=c.b}:=zbL h (zYw _);have a:=(zKq<|z3L h).2.2;have f:=(zFi<|zY0 e (m:=20) (by omega) (by omega)).2.2;unfold zvq oN;conv=>zeta
 have i:(zra {zlI c with b:=c.b} 20).length<=65:=by unfold ln at f;omega
 have S:zCx (ztI c):=⟨by omega,λp d=>by
  have g:=a.2.2 p d;exact⟨by omega,λx j=>by have:=zG5 (g.2.2 x j);omega⟩⟩
 exact zy (z3L h) (zy (zY0 e (by omega) (by omega))<|zy (zbs ⟨S,qS i (by decide)⟩)<|zbG aH (zVw _ _) ⟨_,_,S,⟨a.1,λp d=>⟨(a.2.2 p d).1,(a.2.2 p d).2.2⟩⟩,rfl⟩)
def z5v:zcQ:=[(65,[false,true,true],zwR)]++z5u
def zGY:zb2 z5v:=zcp zS7 (by
 intro x a;simp only[qG,qO,or_false]at a;rcases a with rfl
 .exact zJi)
def zZc:zW:=zRj
def zZd:zL zZc:=zEH
end
end Go.Proofs.YtklhnfomjjnjjaaGreat.E
