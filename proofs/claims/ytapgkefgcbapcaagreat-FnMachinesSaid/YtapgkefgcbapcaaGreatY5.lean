/- What is proved here: a part of the proof of the claim. -/
import Derived.Test.YtapgkefgcbapcaaGreatY4
import Derived.Shelf.Bits.Mul64
import Derived.Ground.NamesProg
import Derived.Laws.CopyOwn
import Derived.Deep.RegionLaw
namespace Go.Proofs.YtapgkefgcbapcaaGreat.E
open Go
set_option linter.defProp false
set_option linter.constructorNameAsVariable false
set_option linter.unusedVariables false
set_option maxRecDepth 100000
set_option linter.unusedSimpArgs false
set_option linter.unusedSectionVars false
noncomputable section
abbrev mZ:Mon:=Ty.dflt .mon
abbrev sZ:k0:=Ty.dflt .slot
def ShM (x:Mon):Prop:=x.ae.length=8/\x.Out.length=8/\x.ar.length=8/\x.ai.length=x.ac.length
def Shape (h:ad):Prop:=SmH h/\∀x∈h.aa,ShM x
def zjm {h:ad}{m:Int}{x:Mon}(a:Shape h)(c:ze4 x)(d:ShM x):Shape {h with aa:=up h.aa m x}:=by refine⟨⟨a.1.1,zj3 a.1.2.1 c,a.1.2.2⟩,λy b=>?_⟩;rcases qY b with b|rfl;{exact a.2 y b};{exact d}
def zcD {h:ad}(b:Shape h){m:Int}(a:i0 m (ln h.aa)=true):ze4 (ix h.aa m mZ)/\ShM (ix h.aa m mZ):=⟨b.1.2.1.2 _<|zbE a _,b.2 _<|zbE a _⟩
def zQn {h:ad}{b:List LI}(a:Shape h)(c:SmM b):Shape {h with ag:=b}:=⟨⟨c,a.1.2⟩,a.2⟩
def zsZ {h:ad}{m p:Int}{s:k0}(e:i0 m (ln h.aa)=true)(b:Shape h):Shape (zcp h m p s):=by refine⟨zGW e b.1,?_⟩;obtain⟨_,a⟩:=zcD b e;have d:∀y∈up h.aa m {zlg (ix h.aa m mZ) p (ix h.aa m mZ).ai.length with ae:=up (ix h.aa m mZ).ae p s},ShM y:=(by intro y c;rcases qY c with c|rfl;{exact b.2 y c};{exact⟨by simpa using a.1,a.2.1,a.2.2.1,by simpa [zlg,zq8] using a.2.2.2⟩});unfold zcp;cases ine (ix (ix h.aa m mZ).ae p sZ).af (-1)<;>exact d
def zgX (h:ad)(m p:Int)(s:k0):(zcp h m p s).aa=up h.aa m {zlg (ix h.aa m mZ) p (ix h.aa m mZ).ai.length with ae:=up (ix h.aa m mZ).ae p s}/\(zcp h m p s).ag=h.ag:=by unfold zcp;cases ine (ix (ix h.aa m mZ).ae p sZ).af (-1)<;>exact⟨rfl,rfl⟩
def zfb {h:ad}{m k:Int}{x:Mon}(a:i0 m (ln h.aa)=true):i0 m (ln<|up h.aa k x)=true:=by simpa [ln] using a
def zGp {h:ad}{m k p:Int}{s:k0}(a:i0 m (ln h.aa)=true):i0 m (ln (zcp h k p s).aa)=true:=by rw[(zgX h k p s).1];exact zfb a
def zdP {b:Type}{l:List b}{p:Int}(h:l.length=8)(a:i0 p 8=true):i0 p (ln l)=true:=by rw[ln,h];exact a
def zzt (h:ad)(m p:Int)(s:k0):ad :=
 bif ine s.af (-1) then ⟨h.ag,up h.aa m<|zlg (ix h.aa m mZ) p (ix h.aa m mZ).ac.length,flushed h.ao s.af,flushed h.an s.af⟩
 else ⟨h.ag,up h.aa m<|zlg (ix h.aa m mZ) p (ix h.aa m mZ).ac.length,h.ao,h.an⟩
def zz0 {h:ad}{k:Nat}{p:Int}{s:k0}(a:k<h.aa.length)(b:(ix h.aa (k:Int) mZ).ai.length=(ix h.aa (k:Int) mZ).ac.length) :
 zzt {h with aa:=up h.aa (k:Int) {ix h.aa (k:Int) mZ with ae:=up (ix h.aa (k:Int) mZ).ae p s}} (k:Int) p (ix (ix h.aa (k:Int) mZ).ae p sZ)=zcp h (k:Int) p s:=by
 unfold zcp zzt;simp only[zem a,zwB,zlg,b]
def zZm {a:Type}(m p:Int)(i:Nat)(t:List Mon)(b:List Mon->Option a):Option a :=
 (cond (inb (i:Int)<|ln (ix t m mZ).ai) (cond (inb (i:Int)<|ln (ix t m mZ).ac) (cond (pc<|SmK (ix (ix t m mZ).ai (i:Int) zex)/\(ix (ix t m mZ).ac (i:Int) zD).av.length<=1048576) (cond (inb (i:Int)<|ln (ix t m mZ).ai) (b<|up t m ({ (ix t m mZ) with ai:=(up (ix t m mZ).ai (i:Int)<|zkb (ix (ix t m mZ).ai (i:Int) zex) (ix (ix t m mZ).ac (i:Int) zD).av p)}:Mon)) none) none) none) none)
def zXN {j:Type}{mons:List Mon}{k:Nat}(d:k<mons.length)(p:Int)(c:ze4 (ix mons (k:Int) mZ))(f:(ix mons (k:Int) mZ).ai.length=(ix mons (k:Int) mZ).ac.length)(K:List Mon->Option j) :
 ∀(n i:Nat),i+n=(ix mons (k:Int) mZ).ac.length->goN (λi t g=>zZm (k:Int) p i t g) K n i (up mons (k:Int)<|zlg (ix mons (k:Int) mZ) p i)=K (up mons (k:Int)<|zlg (ix mons (k:Int) mZ) p (ix mons (k:Int) mZ).ac.length)
 | 0,i,h=>by have:i=(ix mons (k:Int) mZ).ac.length:=(by omega);subst this;rfl
 |n+1,i,h=>by
  have b:i<(ix mons (k:Int) mZ).ac.length:=(by omega);have a:i<(zmi (ix mons (k:Int) mZ).ac p i (ix mons (k:Int) mZ).ai).length:=by rw[zq8];omega
  have e:pc (SmK (ix (zmi (ix mons (k:Int) mZ).ac p i (ix mons (k:Int) mZ).ai) (i:Int) zex)/\(ix (ix mons (k:Int) mZ).ac (i:Int) zD).av.length<=1048576)=true :=
   zbL ⟨by rw[zbi a];exact(zwy _ _ _ _ (by omega) c.2.2.2.2.2).2 _ (jK a),by rw[zbi b];exact(c.2.2.2.1.2 _<|jK b).2.2.1⟩
  simp only[goN,zZm,zem d,zwB,zlg,zT a,zT b,e,cT];exact zXN d p c f K n (i+1) (by omega)
@[simp] abbrev zeT (h:ad)(m p:Int)(s:k0):Bool:=pc (Shape h/\i0 m (ln h.aa)=true)
@[simp] abbrev zeU (h:ad)(m p:Int)(s:k0):ad:=zzt h m p s
def zm1:LC->LA->Option (Bool×LC×LA)
 |[.s (.sl .int) b,.s .mon c,.s .entry d,.s .entry e],[.one<|.i .i64 f,.one<|.i .i64 g,.agg [.i .i64 h,.i .i64 j]]=>some (zeT (⟨b,c,d,e⟩:ad) f g (⟨h,j⟩:k0),zbo<|zeU (⟨b,c,d,e⟩:ad) f g (⟨h,j⟩:k0),[])
 |_,_=>none
def zqm (N:Nat)(c:ad)(i n:Int)(k:k0):OA:=
 (oN (inb i<|ln c.aa)<|r0 (σ:=(Int×Int×Int×Int×Int×Int×lN×lM×lE×lE×Unit)) N (λp a=>let c:=a.2.2.2.2;let j:=c.2.2.2.1;let h:=c.2.2.1;let e:=c.1;let g:=c.2.2.2.2.1;let f:=c.2.2.2.2.2.1;let b:=a.2.2.2.1;let d:=ix h a.2.1 zi;let m:=ix d.ai b zex;let l:=(ix d.ac b zD).av; (cond (ilt b a.2.2.1) (oN (inb b<|ln d.ai)<|oN (inb b<|ln d.ac)<|oN (zh0 m l a.1)<|oN (inb b<|ln d.ai)<|p0 (up h a.2.1 ({d with ai:=(up d.ai b<|zl0 m l a.1)}:Mon)) λq=>p (a.1,a.2.1,a.2.2.1,zK .i64 b 1,e,c.2.1,q,j,g,f,()))<|cond (ine e<|-1) (oN (zej g e)<|oN (zej f e)<|some [aH (⟨j,h,zgI g e,zgI f e⟩:ad)])<|some [aH (⟨j,h,g,f⟩:ad)])) (n,i,ln (ix c.aa i zi).ac,0,k.af,k.aj,c.aa,c.ag,c.ao,c.an,()))
def zIT:=zx [(325,0,{n:=71,tm:=[(0,.lp 0 0),(2,ti),(7,.lp 1 0),(8,.ep 0 [] 0),(20,ti),(21,ti)],lo:=[(0,[.sl 1 [],.sl 0 [],.sl 2 [],.sl 3 []]),(1,[ti,ti])],ro:=[(0,.mon,true),(1,.sl .int,true),(2,.entry,true),(3,.entry,true)]})]
def zLt (N:Nat)(c:ad)(a b:Int)(d:k0):zoW (cQ zrl zqD zOv zVs) zIT N 12 325 [true,true,true,true] (zbo c) [aI a,aI b,aT .slot d]=zqm N c a b d:=by kernel_rfl
def zIg (c:ad)(d b:Int)(a:k0)(s:zbT big (.agg (zbo c)::[aI d,aI b,aT .slot a]))(r:zeT c d b a=true):∃N,zqm N c d b a=some (.agg (zbo<|zeU c d b a)::[]):=by
 obtain⟨h,g⟩:=zS.1 r;obtain⟨l,q⟩:=zcD h g;have hg:(ix c.aa d mZ).ac.length<=big:=(zcV l.2.2.2.1.1).1;refine zcj λN f=>?_;unfold zqm oN;conv=>zeta
 refine j0 (zI g) ?_;refine(zbq ((ix c.aa d zi).ac) (λi (t:lN)=>(b,d,ln (ix c.aa d zi).ac,(i:Int),a.af,a.aj,t,c.ag,c.ao,c.an,())) _ (λi (x:ah) (t:List Mon) j=>zZm d b i t j) (λ(t:lN)=>cond (ine a.af<|-1) (cond (zej c.ao a.af) (cond (zej c.an a.af) (some [.agg<|zbo (⟨c.ag,t,zgI c.ao a.af,zgI c.an a.af⟩:ad)]) none) none)<|some [.agg<|zbo (⟨c.ag,t,c.ao,c.an⟩:ad)]) (λi e t rec=>?_) (λt rec=>?_) _ (c.aa)<|f hg).trans ?_;{simp only [zbu e,zT e,zbi e,zbj e hg,cT];rfl};{simp only [zbh,cF]};obtain⟨k,rfl,m⟩:=zd7 (n:=c.aa.length) g;rw[zxF λi t j=>zZm (k:Int) b i t j];have p:c.aa=up c.aa (k:Int) (zlg (ix c.aa (k:Int) mZ) b 0):=(zO1 m _).symm;refine(congrArg _ p).trans ((zXN m b l q.2.2.2 _ _ 0<|j3 _).trans ?_);show (cond (ine a.af<|-1) _ _)=some [AV.agg<|zbo<|zzt c (k:Int) b a];unfold zzt;cases ine a.af (-1);{rfl};{exact j0 rfl (j0 (zbL h.1.2.2.1) (j0 (zbL h.1.2.2.2) rfl))}
def zCL:zbR Tryz.prog 325 [true,true,true,true] zm1:=by refine zhV (zg7 zh3 zC zB zfa) (zjs (by kernel_rfl)) ?_;intro g a b j i f h;have d:=zlB f;unfold zm1 at h;split at h;{obtain⟨e,rfl,rfl⟩:=znz h;obtain⟨N,c⟩:=zIg _ _ _ _ (by exact d) e;exact⟨rfl,_,N,12,(zLt N _ _ _ _ ).trans c⟩};{cases h}
def zZM:zcY:=[(325,[true,true,true,true],zm1)]++zOv
def zOw:zb2 zZM:=zcq zB (by
 intro x a;simp only[qG,qP,or_false]at a;rcases a with rfl
 .exact zCL)
def zfi (h:ad)(m p:Int):ad:={h with aa:=up h.aa m {ix h.aa m mZ with Out:=up (ix h.aa m mZ).Out p (zcx h.ag (ix (ix h.aa m mZ).ae p sZ).af)}}
def zdR (h:ad)(m p:Int):ad:=zcp (zfi h m p) m p A0
def zVg {m:List LI}{p:Int}(h:SmM m):(zcx m p).length<=1048576:=by unfold zcx;cases a:i0 p (ln m);{exact(by decide:zz6.length<=1048576)};{exact h.2 _ (zbE a _)}
def zxd {h:ad}{m p:Int}(c:Shape h)(d:i0 m (ln h.aa)=true):Shape (zfi h m p):=by obtain⟨a,b⟩:=zcD c d;exact zjm c ⟨a.1,zMf a.2.1<|zVg c.1.1,a.2.2⟩ ⟨b.1,by simpa using b.2.1,b.2.2⟩
def zL7 {h:ad}{m p:Int}(b:Shape h)(a:i0 m (ln h.aa)=true):Shape (zdR h m p):=zsZ (zfb a) (zxd b a)
@[simp] abbrev zkw (h:ad)(m p:Int):Bool:=pc (Shape h/\i0 m (ln h.aa)=true/\i0 p 8=true)
@[simp] abbrev zoj (h:ad)(m p:Int):ad:=zdR h m p
def zuL:LW
 |[.agg [.s (.sl .int) b,.s .mon c,.s .entry d,.s .entry e],.one<|.i .i64 f,.one<|.i .i64 g]=>some (zkw (⟨b,c,d,e⟩:ad) f g,[aH<|zoj (⟨b,c,d,e⟩:ad) f g])
 |_=>none
def zyU (N:Nat)(a:ad)(b c:Int):OA:=
 let d:=ix a.aa b zi;let e:=(ix d.ae c zba).af; (oN (inb b<|ln a.aa)<|oN (inb b<|ln a.aa)<|oN (inb c<|ln d.ae)<|oN (zpG a.ag e)<|oN (inb c<|ln d.Out)<|p0 (up a.aa b ({d with Out:=(up d.Out c<|zog a.ag e)}:Mon)) (λg=>let f:=({a with aa:=g}:ad); (oN zbU<|oN (zfI f b c zbl)<|some [aH<|zhO f b c zbl])))
def zWM (N:Nat)(a:ad)(b c:Int):zD5 (cQ zrl zqD zZM zVs) (zx []) N 12 432 [true,true,true,true,false,false] 1 1 [[0],[1],[2],[4],[7]] .mon [aH a,aI b,aI c]=zyU N a b c:=by kernel_rfl
def zUb (b:ad)(d c:Int)(m:zbT big [aH b,aI d,aI c])(j:zkw b d c=true):∃N,zyU N b d c=some [aH<|zoj b d c]:=by
 obtain⟨g,a,f⟩:=zS.1 j;obtain⟨l,e⟩:=zcD g a;obtain⟨k,rfl,h⟩:=zd7 (n:=b.aa.length) a;have i:=zxd (p:=c) g a;refine⟨0,?_⟩;unfold zyU oN;conv=>zeta
 refine j0 (zI a) (j0 (zI a)<|j0 (zI<|zdP e.1 f)<|j0 (zbL<|(zqx _).2 g.1.1)<|j0 (zI<|zdP e.2.1 f)<|shr (j0 rfl (j0 (zbL ⟨(zbc _).2 i.1,zfb a,?_,?_⟩) rfl)));{simp only [zem h];exact zdP e.1 f};{simp only [zem h];exact k6 e.2.2.2}
def zNG:zeA Tryz.prog 432 [true,true,true,true,false,false] (some (1,1,[[0],[1],[2],[4],[7]])) zuL:=by refine zmu (kt:=.mon) (zg7 zh3 zC zOw zfa) (zjs (by kernel_rfl)) (by kernel_rfl) ?_;intro a g f e h;have c:=zjv e;unfold zuL at h;split at h;{obtain⟨d,rfl⟩:=zeK h;obtain⟨N,b⟩:=zUb _ _ _ (by exact c) d;exact⟨⟨_,rfl⟩,rfl,_,N,12,(zWM N _ _ _ ).trans b⟩};{cases h}
def zwY:LC->LA->Option (Bool×LC×LA)
 |[.s (.sl .int) b,.s .mon c,.s .entry d,.s .entry e],[.one<|.i .i64 f,.one<|.i .i64 g]=>some (zkw (⟨b,c,d,e⟩:ad) f g,zbo<|zoj (⟨b,c,d,e⟩:ad) f g,[])
 |_,_=>none
def zG6 (N:Nat)(c:ad)(b a:Int):OA:=
 let d:=ix c.aa b zi;let e:=ix d.ae a zba; (oN (inb b<|ln c.aa)<|oN (inb a<|ln d.ae)<|oN (zpG c.ag e.af)<|oN (inb a<|ln d.Out)<|p0 (up c.aa b ({d with Out:=(up d.Out a<|zog c.ag e.af)}:Mon)) (λg=>let f:=ix g b zi; (oN zbU<|oN (inb a<|ln f.ae)<|p0 (up g b ({f with ae:=(up f.ae a zbl)}:Mon)) (λi=>let h:=({c with aa:=i}:ad); (oN (zeT h b a e)<|some [aH<|zeU h b a e])))))
def z2q (N:Nat)(c:ad)(a b:Int):zoW (cQ zrl zqD zZM zVs) (zx []) N 12 323 [true,true,true,true] (zbo c) [aI a,aI b]=zG6 N c a b:=by kernel_rfl
def zZx (c:ad)(e a:Int)(w:zbT big (.agg (zbo c)::[aI e,aI a]))(u:zkw c e a=true):∃N,zG6 N c e a=some (.agg (zbo<|zoj c e a)::[]):=by
 obtain⟨l,b,j⟩:=zS.1 u;obtain⟨v,f⟩:=zcD l b;obtain⟨k,rfl,h⟩:=zd7 (n:=c.aa.length) b;have m:=zxd (p:=a) l b;have d:i0 (k:Int) (ln (zfi c (k:Int) a).aa)=true:=zfb b;have i:k<(zfi c (k:Int) a).aa.length:=(by simpa [zfi] using h);have g:ix (zfi c (k:Int) a).aa (k:Int) mZ={ix c.aa (k:Int) mZ with Out:=up (ix c.aa (k:Int) mZ).Out a (zcx c.ag (ix (ix c.aa (k:Int) mZ).ae a sZ).af)}:=zem h _ _;have t:Shape {zfi c (k:Int) a with aa:=up (zfi c (k:Int) a).aa (k:Int) {ix (zfi c (k:Int) a).aa (k:Int) mZ with ae:=up (ix (zfi c (k:Int) a).aa (k:Int) mZ).ae a A0}}:=(by obtain⟨q,r⟩:=zcD m d;exact zjm m ⟨by simpa using q.1,q.2⟩ ⟨by simpa using r.1,r.2⟩);refine⟨0,?_⟩;unfold zG6 oN;conv=>zeta
 refine j0 (zI b) (j0 (zI<|zdP f.1 j)<|j0 (zbL<|(zqx _).2 l.1.1)<|j0 (zI<|zdP f.2.1 j)<|shr (j0 rfl (j0 ?_<|shr<|j0 (zbL ⟨t,zfb d⟩) ?_)));{rw [zem h];exact zI (zdP f.1 j)};{have:=zz0 (p:=a) (s:=A0) i (by rw[g];exact f.2.2.2);rw[g] at this;show some [AV.agg<|zbo<|zzt {zfi c (k:Int) a with aa:=up (zfi c (k:Int) a).aa (k:Int) {ix (zfi c (k:Int) a).aa (k:Int) mZ with ae:=up (ix (zfi c (k:Int) a).aa (k:Int) mZ).ae a A0}} (k:Int) a<|ix (ix c.aa (k:Int) mZ).ae a sZ]=_;rw[g];exact congrArg (λx=>some [AV.agg<|zbo x]) this}
def zTn:zbR Tryz.prog 323 [true,true,true,true] zwY:=by refine zhV (zg7 zh3 zC zOw zfa) (zjs (by kernel_rfl)) ?_;intro g a b j i f h;have d:=zlB f;unfold zwY at h;split at h;{obtain⟨e,rfl,rfl⟩:=znz h;obtain⟨N,c⟩:=zZx _ _ _ (by exact d) e;exact⟨rfl,_,N,12,(z2q N _ _ _ ).trans c⟩};{cases h}
def zZN:zcY:=[(323,[true,true,true,true],zwY)]++zZM
def zOx:zb2 zZN:=zcq zOw (by
 intro x a;simp only[qG,qP,or_false]at a;rcases a with rfl
 .exact zTn)
def z0z:zgj:=[(432,[true,true,true,true,false,false],some (1,1,[[0],[1],[2],[4],[7]]),zuL)]++zVs
def zOK:ze0 z0z:=zq9 zfa (by
 intro x a;simp only[qG,qP,or_false]at a;rcases a with rfl
 .exact zNG)
def cz (l:List k0):Nat:=l.countP λs=>ieq s.af 0
def zH:List Mon->Nat
 |[]=>0
 |m::l=>cz m.ae+zH l
def bit (u:List Bool):Nat:=bif ix u 0 false then 1 else 0
def zxC (s:k0)(l:List k0):cz (s::l)=cz l+bif ieq s.af 0 then 1 else 0:=by unfold cz;rw[vK];cases ieq s.af 0<;>rfl
def zbar {u:List Bool}{p:Int}(c:0<=p)(a:p.toNat<u.length)(x:Bool):ix (up u p x) 0 false=bif ieq p 0 then x else ix u 0 false:=by unfold ix up;cases h:ieq p 0;{have:p≠0:=(by simpa [ieq] using h);have b:p.toNat≠0:=(by omega);simp[List.getD,jC,b]};{have:p=0:=(by simpa [ieq] using h);subst this;have a:0<u.length:=a;simp[List.getD,jC,a]}
def zDR:∀(l:List k0) (u b:List Bool),(∀s∈l,s.af<12)->u.length=12->zhu l u=some b->cz l+bit u=bit b
 |[],u,b,_,_,h=>by cases h;simp[cz]
 |s::l,u,b,i,k,h=>by
  simp only[zhu]at h;rw[zxC];cases c:ilt s.af 0;{have c:=jY c;rw[show ilt s.af 0=false from qV (by omega)]at h;simp only[cF]at h;cases d:ix u s.af false;{rw [d]at h;simp only[cF]at h;have g:s.af.toNat<u.length:=(by have:=i s (by simp);omega);have a:=zDR l _ b (λt j=>i t (by simp[j])) (by simpa using k) h;have e:bit (up u s.af true)=bif ieq s.af 0 then 1 else bit u:=(by unfold bit;rw[zbar (by omega) g];cases ieq s.af 0<;>rfl);rw[e] at a;cases f:ieq s.af 0;{rw [f] at a;simp only[cF] at a ⊢;omega};{have n:s.af=0:=(by simpa [ieq] using f);rw[n]at d;have:bit u=0:=(by unfold bit;rw[d];rfl);rw[f] at a;simp only[cT] at a ⊢;omega}};{rw [d]at h;cases h}};{have m:=qF c;rw[c]at h;simp only[cT]at h;have a:=zDR l u b (λt j=>i t (by simp[j])) k h;have:ieq s.af 0=false:=(by simp[ieq];omega);rw[this];simpa using a}
def zTr:∀(l:List Mon) (u:List Bool),u.length=12->zjB l u=true->zH l+bit u<=1
 |[],u,_,_=>by unfold zH bit;cases ix u 0 false<;>simp
 |m::l,u,c,h=>by simp only[zjB]at h;cases b:zeV m;{rw [b]at h;cases h};{rw [b]at h;simp only[cT]at h;cases a:zhu m.ae u with|none=>rw[a]at h;cases h|some d =>rw[a]at h;have e:=zDR _ _ _ (zEr<|znf b) c a;have f:=zTr l d ((zqe _ _ _ a).trans c) h;simp only[zH];omega}
def z1C:∀(l:List k0) (b:Nat) (s:k0),l[b]?=some s->s.af=0->cz (l.set b A0)+1=cz l
 |[],b,s,h,_=>by simp at h
 |t::l,0,s,h,a=>by simp only[qI,qC]at h;subst h;rw[List.set_cons_zero,zxC,zxC];have:ieq t.af 0=true:=(by simp[ieq,a]);rw[this];rfl
 |t::l,b+1,s,h,a=>by rw[List.set_cons_succ,zxC,zxC];have:=z1C l b s (by simpa using h) a;omega
def zV1:∀(l:List Mon) (a:Nat) (x y:Mon),l[a]?=some x->zH (l.set a y)+cz x.ae=zH l+cz y.ae
 |[],a,x,y,h=>by simp at h
 |m::l,0,x,y,h=>by simp only[qI,qC]at h;subst h;rw[List.set_cons_zero];simp only[zH];omega
 |m::l,a+1,x,y,h=>by rw[List.set_cons_succ];have:=zV1 l a x y (by simpa using h);simp only[zH];omega
def zY5 {l:List k0}(h:cz l=0):zoY l 0=none:=by unfold zoY;rw[List.findIdx?_eq_none_iff];intro s a;have:=(vA.1 h) s a;simpa using this
def zLA:∀(l:List Mon) (i:Nat),zH l=0->ziL 0 l i=(-1,-1)
 |[],_,_=>rfl
 |m::l,i,h=>by simp only[zH]at h;simp only[ziL];rw[zY5 (by omega)];exact zLA l (i+1) (by omega)
def zY6 {l:List k0}{k:Nat}(h:zoY l 0=some k):∃s,l[k]?=some s/\s.af=0:=by unfold zoY at h;rw[uX]at h;obtain⟨a,b,_⟩:=h;exact⟨l[k],qB a,by simpa [ieq] using b⟩
def zGz:∀(l:List Mon) (i:Nat),ziL 0 l i=(-1,-1)\/∃a b x s,ziL 0 l i=(((i+a:Nat):Int),((b:Nat):Int))/\l[a]?=some x/\x.ae[b]?=some s/\s.af=0
 |[],_=>.inl rfl
 |m::l,i=>by
  simp only[ziL];cases h:zoY m.ae 0 with
  |none=>rcases zGz l (i+1) with c|⟨a,b,x,s,c,d,f,g⟩;{exact .inl c};{refine .inr ⟨a+1,b,x,s,?_,by simpa using d,f,g⟩;have e:i+1+a=i+(a+1):=(by omega);rw[c,e]}
  |some k=>obtain⟨s,c,d⟩:=zY6 h;exact .inr ⟨0,k,m,s,rfl,rfl,c,d⟩
def Fit (h:ad):Prop:=Shape h/\0<h.ag.length/\zH h.aa<=1
def zGn {h:ad}(c:0<h.ag.length)(b:ilt (zbK h 0).1 0=true):inb 0 (ln<|zcm h)=true:=by unfold zcm;obtain⟨n,a⟩:∃n,h.ag.length=n+1:=⟨h.ag.length-1,by omega⟩;rw[a];simp only[zwU];rw[show ilt (zbK h ((0:Nat):Int)).1 0=true from b];exact qK (by simp only[cT,ln,qW];omega)
def zZb {h:ad}(b:0<h.ag.length)(a:ieq (ln<|zcm h) 0=true):ilt (zbK h 0).1 0=false:=by cases c:ilt (zbK h 0).1 0;{rfl};{have d:=qF (zGn b c);have e:ln (zcm h)=0:=(by simpa [ieq] using a);omega}
def zdh (h:ad):ad:=bif ieq (ln<|zcm h) 0 then zdR h (zbK h 0).1 (zbK h 0).2 else h
structure Room (h r:ad):Prop where
 shape:Shape r
 free:inb 0 (ln (zcm r))=true
 len:r.aa.length=h.aa.length
 outer:∀m,(ix r.aa m mZ).ae.length=8\/True
def z2y {h:ad}(i:Fit h)(f:ieq (ln<|zcm h) 0=true):∃(a b:Nat) (x:Mon) (s:k0),zbK h 0=((a:Int),(b:Int))/\h.aa[a]?=some x/\x.ae[b]?=some s/\s.af=0:=by have d:=zZb i.2.1 f;have e:zbK h 0=ziL 0 h.aa 0:=rfl;rcases zGz h.aa 0 with c|⟨a,b,x,s,c,g⟩;{rw [e,c]at d;cases d};{exact⟨a,b,x,s,by rw[e,c,j3],g⟩}
def zEl {h:ad}(d:Fit h)(e:ieq (ln<|zcm h) 0=true):i0 (zbK h 0).1 (ln h.aa)=true/\i0 (zbK h 0).2 8=true:=by obtain⟨a,b,x,s,f,c,g,j⟩:=z2y d e;rw[f];have k:=(qA.1 c).1;have l:=(qA.1 g).1;have i:=d.1.2 x (qH c);refine⟨qK (by simp only[ln];omega),qK ?_⟩;have:=i.1;show 0<=(b:Int)/\(b:Int)<8;omega
def room {h:ad}(d:Fit h):Room h (zdh h):=by unfold zdh;cases g:ieq (ln<|zcm h) 0;{refine⟨d.1,qK ?_,rfl,λ_=>.inr trivial⟩;have:ln (zcm h)≠0:=(by simpa [ieq] using g);show 0<=(0:Int)/\(0:Int)<ln (zcm h);simp only[ln] at *;omega};{obtain⟨n,u⟩:=zEl d g;obtain⟨a,b,x,s,r,i,k,t⟩:=z2y d g;simp only[cT];rw[r]at n u ⊢;have m:=(qA.1 i).1;have B:=(qA.1 k).1;have j:ix h.aa (a:Int) mZ=x:=(by rw[zbi m];exact(qA.1 i).2);have c:=(zgX (zfi h (a:Int) (b:Int)) (a:Int) (b:Int) A0).1;have q:ix (zfi h (a:Int) (b:Int)).aa (a:Int) mZ={x with Out:=up x.Out (b:Int) (zcx h.ag (ix x.ae (b:Int) sZ).af)}:=(by unfold zfi;rw[zem m,j]);obtain⟨y,l,v⟩:∃y,(zdR h (a:Int) (b:Int)).aa=h.aa.set a y/\y.ae=x.ae.set b A0:=(by unfold zdR;rw[c,q];unfold zfi;rw[zwB];exact⟨_,by simp[up];rfl,by simp[up]⟩);have w:zH (zdR h (a:Int) (b:Int)).aa=0:=(by have p:=zV1 h.aa a x y i;have z:=z1C x.ae b s k t;have A:=d.2.2;rw[l];rw[v] at p;omega);have f:(zdR h (a:Int) (b:Int)).ag=h.ag:=(zgX (zfi h (a:Int) (b:Int)) (a:Int) (b:Int) A0).2;refine⟨zL7 d.1 n,zGn (by rw[f];exact d.2.1) ?_,by rw[l];simp,λ_=>.inr trivial⟩;have e:zbK (zdR h (a:Int) (b:Int)) 0=ziL 0 (zdR h (a:Int) (b:Int)).aa 0:=rfl;rw[e,zLA _ _ w];rfl}
def zVh {m:List LI}{p:Int}{c:LI}(h:SmM m)(a:c.length<=1048576):SmM (zjo m p c):=by unfold zjo;cases i0 p (ln m);{exact h};{cases zcs c;{exact h};{exact zMf h a}}
def landing (r:ad)(m p to:Int):ad:={r with ag:=zjo r.ag to (ix (ix r.aa m mZ).Out p []),aa:=up r.aa m {ix r.aa m mZ with Out:=up (ix r.aa m mZ).Out p []}}
def zfr (r:ad)(m p to:Int):ad:=zcp (landing r m p to) m p ⟨to,3⟩
def fetched (h:ad)(m p:Int):ad:=zfr (zdh h) m p (ix (zcm<|zdh h) 0 0)
def zVj {r:ad}{m p:Int}(e:Shape r)(c:i0 m (ln r.aa)=true)(d:i0 p 8=true):(ix (ix r.aa m mZ).Out p []).length<=1048576:=by obtain⟨a,b⟩:=zcD e c;exact a.2.1.2 _ (zbE (zdP b.2.1 d) _)
def zsY {r:ad}{m p to:Int}(a:Shape r)(d:i0 m (ln r.aa)=true)(e:i0 p 8=true):Shape (landing r m p to):=by obtain⟨b,c⟩:=zcD a d;exact zQn (h:={r with aa:=up r.aa m {ix r.aa m mZ with Out:=up (ix r.aa m mZ).Out p []}}) (zjm (x:={ix r.aa m mZ with Out:=up (ix r.aa m mZ).Out p []}) a ⟨b.1,zMf b.2.1 (by simp),b.2.2⟩ ⟨c.1,by simpa using c.2.1,c.2.2⟩) (zVh a.1.1<|zVj a d e)
def zRP {r:ad}{m p d:Int}(c:Shape r)(a:i0 m (ln r.aa)=true)(b:i0 p 8=true):Shape (zfr r m p d):=zsZ (zfb a) (zsY c a b)
def zqN {h:ad}(a:Fit h){m:Int}(b:i0 m (ln h.aa)=true):i0 m (ln (zdh h).aa)=true:=by rw[ln,(room a).len];exact b
def zkX {h:ad}{m p:Int}(a:Fit h)(b:i0 m (ln h.aa)=true)(c:i0 p 8=true):Shape (fetched h m p)/\i0 m (ln (fetched h m p).aa)=true :=
 ⟨zRP (room a).shape (zqN a b) c,zGp<|zfb<|zqN a b⟩
@[simp] abbrev zme (h:ad)(m p:Int):Bool:=pc (Fit h/\i0 m (ln h.aa)=true/\i0 p 8=true)
@[simp] abbrev zmV (h:ad)(m p:Int):ad:=fetched h m p
def zw1:LW
 |[.agg [.s (.sl .int) b,.s .mon c,.s .entry d,.s .entry e],.one<|.i .i64 f,.one<|.i .i64 g]=>some (zme (⟨b,c,d,e⟩:ad) f g,[aH<|zmV (⟨b,c,d,e⟩:ad) f g])
 |_=>none
def zCd (N:Nat)(a:ad)(c b:Int):OA:=
 let h:=ix (zcU a) 0 0;let f:=ix a.aa c zi;let d:=zoj a (zdw a 0)<|zeu a 0;let g:=ix (zcU d) 0 0;let e:=ix d.aa c zi; (oN (zfX a)<|cond (ieq (ln<|zcU a) 0) (oN (zfS a 0)<|oN (zkw a (zdw a 0)<|zeu a 0)<|oN (zfX d)<|oN (inb 0<|ln<|zcU d)<|oN (inb c<|ln d.aa)<|oN (inb b<|ln e.Out)<|oN (zf0 d.ag g<|ix e.Out b [])<|oN (inb c<|ln d.aa)<|oN (inb b<|ln e.Out)<|p0 (up d.aa c ({e with Out:=(up e.Out b [])}:Mon)) (λi=>let j:=({d with ag:=(zeX d.ag g<|ix e.Out b []),aa:=i}:ad); (oN (zfI j c b (⟨g,3⟩:k0))<|some [aH<|zhO j c b (⟨g,3⟩:k0)])))<|oN (zfX a)<|oN (inb 0<|ln<|zcU a)<|oN (inb c<|ln a.aa)<|oN (inb b<|ln f.Out)<|oN (zf0 a.ag h<|ix f.Out b [])<|oN (inb c<|ln a.aa)<|oN (inb b<|ln f.Out)<|p0 (up a.aa c ({f with Out:=(up f.Out b [])}:Mon)) (λi=>let k:=({a with ag:=(zeX a.ag h<|ix f.Out b []),aa:=i}:ad); (oN (zfI k c b (⟨h,3⟩:k0))<|some [aH<|zhO k c b (⟨h,3⟩:k0)])))
def zZG (N:Nat)(a:ad)(b c:Int):zD5 (cQ zrl zqD zZN z0z) (zx []) N 12 361 [true,true,true,true,false,false] 1 1 [[0],[1],[2],[4],[7]] .mon [aH a,aI b,aI c]=zCd N a b c:=by kernel_rfl
def zWJ (c:ad)(b d:Int)(z:zbT big [aH c,aI b,aI d])(u:zme c b d=true):∃N,zCd N c b d=some [aH<|zmV c b d]:=by
 obtain⟨h,v,i⟩:=zS.1 u;have e:∀r,Shape r->inb 0 (ln<|zcm r)=true->i0 b (ln r.aa)=true->(cond (zfX r) (cond (inb 0<|ln<|zcU r) (cond (inb b<|ln r.aa) (cond (inb d<|ln (ix r.aa b zi).Out) (cond (zf0 r.ag (ix (zcU r) 0 0)<|ix (ix r.aa b zi).Out d []) (cond (inb b<|ln r.aa) (cond (inb d<|ln (ix r.aa b zi).Out) (p0 (up r.aa b ({ (ix r.aa b zi) with Out:=(up (ix r.aa b zi).Out d [])}:Mon)) λs=>cond (zfI ({r with ag:=(zeX r.ag (ix (zcU r) 0 0)<|ix (ix r.aa b zi).Out d []),aa:=s}:ad) b d (⟨ix (zcU r) 0 0,3⟩:k0)) (some [AV.agg<|zbo<|zhO ({r with ag:=(zeX r.ag (ix (zcU r) 0 0)<|ix (ix r.aa b zi).Out d []),aa:=s}:ad) b d (⟨ix (zcU r) 0 0,3⟩:k0)]) none) none) none) none) none) none) none) none)=some [AV.agg<|zbo<|zfr r b d<|ix (zcm r) 0 0]:=(by intro r j f a;obtain⟨y,l⟩:=zcD j a;have t:=zsY (to:=ix (zcm r) 0 0) j a i;obtain⟨k,rfl,q⟩:=zd7 (n:=r.aa.length) a;refine j0 (zbL j.1.1.1) (j0 f<|j0 (zI a)<|j0 (zI<|zdP l.2.1 i)<|j0 (zbL ⟨j.1.1,zVj j a i⟩)<|j0 (zI a)<|j0 (zI<|zdP l.2.1 i)<|shr (j0 (zbL ⟨(zbc _).2 t.1,zfb a,?_,?_⟩) rfl));{simp only [zem q];exact zdP l.1 i};{simp only [zem q];exact k6 l.2.2.2});have g:=room h;have a:=zqN h v;refine⟨0,?_⟩;unfold zCd zmV fetched oN;conv=>zeta
 refine j0 (zbL h.1.1.1.1) ?_;cases p:ieq (ln<|zcU c) 0;{have m:zdh c=c:=(by unfold zdh;rw[show ieq (ln<|zcm c) 0=false from p];rfl);rw[m]at g a ⊢;exact e c g.shape g.free a};{obtain⟨w,x⟩:=zEl h p;have m:zdh c=zdR c (zbK c 0).1 (zbK c 0).2:=(by unfold zdh;rw[show ieq (ln<|zcm c) 0=true from p];rfl);rw[m]at g a ⊢;exact j0 rfl (j0 rfl (j0 (zbL ⟨h.1,w,x⟩)<|e _ g.shape g.free a))}
def zQP:zeA Tryz.prog 361 [true,true,true,true,false,false] (some (1,1,[[0],[1],[2],[4],[7]])) zw1:=by refine zmu (kt:=.mon) (zg7 zh3 zC zOx zOK) (zjs (by kernel_rfl)) (by kernel_rfl) ?_;intro a g f e h;have c:=zjv e;unfold zw1 at h;split at h;{obtain⟨d,rfl⟩:=zeK h;obtain⟨N,b⟩:=zWJ _ _ _ (by exact c) d;exact⟨⟨_,rfl⟩,rfl,_,N,12,(zZG N _ _ _ ).trans b⟩};{cases h}
@[simp] abbrev zsC (h:ad):Bool:=pc (Shape h/\i0 (zbK h 0).1 (ln h.aa)=true/\i0 (zbK h 0).2 8=true)
@[simp] abbrev zsD (h:ad):ad:=zdR h (zbK h 0).1 (zbK h 0).2
def zn8:LC->LA->Option (Bool×LC×LA)
 |[.s (.sl .int) b,.s .mon c,.s .entry d,.s .entry e],[]=>some (zsC (⟨b,c,d,e⟩:ad),zbo<|zsD (⟨b,c,d,e⟩:ad),[])
 |_,_=>none
def zst (N:Nat)(c:ad)  : OA :=
 (oN (zfS c 0)<|oN (zkw c (zdw c 0)<|zeu c 0)<|some [aH<|zoj c (zdw c 0)<|zeu c 0])
def zOr (N:Nat)(c:ad)  : zoW (cQ zrl zqD zZN z0z) (zx []) N 12 428 [true,true,true,true] (zbo c) []=zst N c:=by kernel_rfl
def zK8 (c:ad)(d:zbT big (.agg (zbo c)::[]))(a:zsC c=true):∃N,zst N c=some (.agg (zbo<|zsD c)::[]):=by have b:=zS.1 a;refine⟨0,?_⟩;unfold zst oN;exact j0 rfl (j0 (zbL b) rfl)
def zEE:zbR Tryz.prog 428 [true,true,true,true] zn8:=by refine zhV (zg7 zh3 zC zOx zOK) (zjs (by kernel_rfl)) ?_;intro g a b j i f h;have d:=zlB f;unfold zn8 at h;split at h;{obtain⟨e,rfl,rfl⟩:=znz h;obtain⟨N,c⟩:=zK8 _ (by exact d) e;exact⟨rfl,_,N,12,(zOr N _ ).trans c⟩};{cases h}
def z5j:zcY:=[(428,[true,true,true,true],zn8)]++zZN
def zX0:zb2 z5j:=zcq zOx (by
 intro x a;simp only[qG,qP,or_false]at a;rcases a with rfl
 .exact zEE)
def zVt:zgj:=[(361,[true,true,true,true,false,false],some (1,1,[[0],[1],[2],[4],[7]]),zw1)]++z0z
def zEu:ze0 zVt:=zq9 zOK (by
 intro x a;simp only[qG,qP,or_false]at a;rcases a with rfl
 .exact zQP)
def zYF {r:ad}{m p to:Int}(d:Shape r)(b:i0 m (ln r.aa)=true):zzt {landing r m p to with aa:=up (landing r m p to).aa m {ix (landing r m p to).aa m mZ with ae:=up (ix (landing r m p to).aa m mZ).ae p ⟨to,3⟩}} m p (ix (ix (landing r m p to).aa m mZ).ae p sZ)=zfr r m p to:=by obtain⟨e,c⟩:=zcD d b;obtain⟨k,rfl,a⟩:=zd7 (n:=r.aa.length) b;refine zz0 (h:=landing r (k:Int) p to) (by simpa [landing] using a) ?_;unfold landing;simp only[zem a];exact c.2.2.2
def zXh {r:ad}{m p to:Int}(f:Shape r)(b:i0 m (ln r.aa)=true)(e:i0 p 8=true):Shape {landing r m p to with aa:=up (landing r m p to).aa m {ix (landing r m p to).aa m mZ with ae:=up (ix (landing r m p to).aa m mZ).ae p ⟨to,3⟩}}:=by have a:=zsY (to:=to) f b e;obtain⟨c,d⟩:=zcD a (zfb b);exact zjm a ⟨by simpa using c.1,c.2⟩ ⟨by simpa using d.1,d.2⟩
def zuw:LC->LA->Option (Bool×LC×LA)
 |[.s (.sl .int) b,.s .mon c,.s .entry d,.s .entry e],[.one<|.i .i64 f,.one<|.i .i64 g]=>some (zme (⟨b,c,d,e⟩:ad) f g,zbo<|zmV (⟨b,c,d,e⟩:ad) f g,[])
 |_,_=>none
def zBP (N:Nat)(c:ad)(b a:Int):OA:=
 let m:=ix (zcU c) 0 0;let d:=zsD c;let l:=ix (zcU d) 0 0;let f:=ix c.aa b zi;let e:=ix d.aa b zi; (oN (zfX c)<|cond (ieq (ln<|zcU c) 0) (oN (zsC c)<|oN (inb b<|ln d.aa)<|oN (zfX d)<|oN (inb 0<|ln<|zcU d)<|oN (inb a<|ln e.Out)<|oN (zf0 d.ag l<|ix e.Out a [])<|oN (inb a<|ln e.Out)<|p0 (up d.aa b ({e with Out:=(up e.Out a [])}:Mon)) (λg=>let i:=ix g b zi;let q:=ix i.ae a zba; (oN (inb a<|ln i.ae)<|oN (inb a<|ln i.ae)<|p0 (up g b ({i with ae:=(up i.ae a (⟨l,3⟩:k0))}:Mon)) (λk=>let n:=({d with ag:=(zeX d.ag l<|ix e.Out a []),aa:=k}:ad); (oN (zeT n b a q)<|some [aH<|zeU n b a q])))))<|oN (inb b<|ln c.aa)<|oN (zfX c)<|oN (inb 0<|ln<|zcU c)<|oN (inb a<|ln f.Out)<|oN (zf0 c.ag m<|ix f.Out a [])<|oN (inb a<|ln f.Out)<|p0 (up c.aa b ({f with Out:=(up f.Out a [])}:Mon)) (λg=>let j:=ix g b zi;let h:=ix j.ae a zba; (oN (inb a<|ln j.ae)<|oN (inb a<|ln j.ae)<|p0 (up g b ({j with ae:=(up j.ae a (⟨m,3⟩:k0))}:Mon)) (λk=>let p:=({c with ag:=(zeX c.ag m<|ix f.Out a []),aa:=k}:ad); (oN (zeT p b a h)<|some [aH<|zeU p b a h])))))
def zZF (N:Nat)(c:ad)(a b:Int):zoW (cQ zrl zqD z5j zVt) (zx []) N 12 324 [true,true,true,true] (zbo c) [aI a,aI b]=zBP N c a b:=by kernel_rfl
def zWx (c:ad)(b d:Int)(F:zbT big (.agg (zbo c)::[aI b,aI d]))(w:zme c b d=true):∃N,zBP N c b d=some (.agg (zbo<|zmV c b d)::[]):=by
 obtain⟨j,B,l⟩:=zS.1 w;have e:∀r,Shape r->inb 0 (ln<|zcm r)=true->i0 b (ln r.aa)=true->(cond (inb b<|ln r.aa) (cond (zfX r) (cond (inb 0<|ln<|zcU r) (cond (inb d<|ln (ix r.aa b zi).Out) (cond (zf0 r.ag (ix (zcU r) 0 0)<|ix (ix r.aa b zi).Out d []) (cond (inb d<|ln (ix r.aa b zi).Out) (p0 (up r.aa b ({ (ix r.aa b zi) with Out:=(up (ix r.aa b zi).Out d [])}:Mon)) λg=>cond (inb d<|ln (ix g b zi).ae) (cond (inb d<|ln (ix g b zi).ae) (p0 (up g b ({ (ix g b zi) with ae:=(up (ix g b zi).ae d (⟨ix (zcU r) 0 0,3⟩:k0))}:Mon)) λu=>cond (zeT ({r with ag:=(zeX r.ag (ix (zcU r) 0 0)<|ix (ix r.aa b zi).Out d []),aa:=u}:ad) b d<|ix (ix g b zi).ae d zba) (some [AV.agg<|zbo<|zeU ({r with ag:=(zeX r.ag (ix (zcU r) 0 0)<|ix (ix r.aa b zi).Out d []),aa:=u}:ad) b d<|ix (ix g b zi).ae d zba]) none) none) none) none) none) none) none) none) none)=some [AV.agg<|zbo<|zfr r b d<|ix (zcm r) 0 0]:=(by intro r i f a;obtain⟨E,q⟩:=zcD i a;have v:=zXh (to:=ix (zcm r) 0 0) i a l;have hE:=zYF (p:=d) (to:=ix (zcm r) 0 0) i a;obtain⟨k,rfl,A⟩:=zd7 (n:=r.aa.length) a;have z:∀(x y:Mon),i0 (k:Int) (ln<|up (up r.aa (k:Int) x) (k:Int) y)=true:=λx y=>(by simpa [ln] using a);have t:inb d (ln (ix (up r.aa (k:Int) {ix r.aa (k:Int) mZ with Out:=up (ix r.aa (k:Int) mZ).Out d []}) (k:Int) mZ).ae)=true:=(by rw[zem A];exact zI (zdP q.1 l));refine j0 (zI a) (j0 (zbL i.1.1.1)<|j0 f<|j0 (zI<|zdP q.2.1 l)<|j0 (zbL ⟨i.1.1,zVj i a l⟩)<|j0 (zI<|zdP q.2.1 l)<|shr<|j0 t<|j0 t<|shr<|j0 (zbL ⟨v,z _ _⟩) ?_);exact congrArg (λx=>some [AV.agg<|zbo x]) hE);have h:=room j;have a:=zqN j B;refine⟨0,?_⟩;unfold zBP zmV fetched oN;conv=>zeta
 refine j0 (zbL j.1.1.1.1) ?_;cases s:ieq (ln<|zcU c) 0;{have m:zdh c=c:=(by unfold zdh;rw[show ieq (ln<|zcm c) 0=false from s];rfl);rw[m]at h a ⊢;exact e c h.shape h.free a};{obtain⟨C,D⟩:=zEl j s;have m:zdh c=zdR c (zbK c 0).1 (zbK c 0).2:=(by unfold zdh;rw[show ieq (ln<|zcm c) 0=true from s];rfl);rw[m]at h a ⊢;exact j0 rfl (j0 (zbL ⟨j.1,C,D⟩)<|e _ h.shape h.free a)}
def zQD:zbR Tryz.prog 324 [true,true,true,true] zuw:=by refine zhV (zg7 zh3 zC zX0 zEu) (zjs (by kernel_rfl)) ?_;intro g a b j i f h;have d:=zlB f;unfold zuw at h;split at h;{obtain⟨e,rfl,rfl⟩:=znz h;obtain⟨N,c⟩:=zWx _ _ _ (by exact d) e;exact⟨rfl,_,N,12,(zZF N _ _ _ ).trans c⟩};{cases h}
def zZO:zcY:=[(324,[true,true,true,true],zuw)]++z5j
def zOy:zb2 zZO:=zcq zX0 (by
 intro x a;simp only[qG,qP,or_false]at a;rcases a with rfl
 .exact zQD)
def zbI (h:ad)(m p:Int):ad:={h with aa:=up h.aa m {ix h.aa m mZ with ar:=up (ix h.aa m mZ).ar p true}}
def opened (h:ad)(m p:Int):ad:=bif ieq (wand .i64 (ix (ix h.aa m mZ).ae p sZ).aj 2) 0 then zcp h m p ⟨(ix (ix h.aa m mZ).ae p sZ).af,3⟩ else h
def zki (h:ad)(m p n:Int):ad:=bif ieq (wand .i64 n 2) 0 then h else opened (zbI h m p) m p
def D0 (h:ad)(m p n:Int):ad:=bif ieq (ix (ix h.aa m mZ).ae p sZ).af (-1) then zki (fetched h m p) m p n else zki h m p n
def z8H {r:Int}(a:0<=r)(b:r<=3):enough r 2 = !ieq (wand .i64 r 2) 0:=by have:r=0\/r=1\/r=2\/r=3:=(by omega);rcases this with rfl|rfl|rfl|rfl<;>rfl
structure SlotFit (s:k0):Prop where
 no:zc8 s A0=ieq s.af (-1)
 lo:0<=s.aj
 hi:s.aj<=3
def z0o {s:k0}{n:Int}(h:zd3 s n=true):SlotFit s:=by refine⟨zQp h,?_,?_⟩<;>unfold zd3 at h<;>cases a:zc8 s A0;{rw [a]at h;simp only[cF,zdj]at h;have:=(zgA.1 h.2.2).1;omega};{unfold zc8 at a;rw[qE]at a;have:s.aj=0:=qF a.2;omega};{rw [a]at h;simp only[cF,zdj]at h;have:=(zgA.1 h.2.2).2;omega};{unfold zc8 at a;rw[qE]at a;have:s.aj=0:=qF a.2;omega}
def znX {h:ad}{m p:Int}(c:Shape h)(d:i0 m (ln h.aa)=true):Shape (zbI h m p):=by obtain⟨a,b⟩:=zcD c d;exact zjm c ⟨a.1,a.2.1,by simpa using a.2.2.1,a.2.2.2⟩ ⟨b.1,b.2.1,by simpa using b.2.2.1,b.2.2.2⟩
def zVa {h:ad}{m p:Int}(b:Shape h)(a:i0 m (ln h.aa)=true):Shape (opened h m p)/\i0 m (ln (opened h m p).aa)=true:=by unfold opened;cases ieq (wand .i64 (ix (ix h.aa m mZ).ae p sZ).aj 2) 0;{exact⟨b,a⟩};{exact⟨zsZ a b,zGp a⟩}
def zGU {h:ad}{m p n:Int}(b:Shape h)(a:i0 m (ln h.aa)=true):Shape (zki h m p n)/\i0 m (ln (zki h m p n).aa)=true:=by unfold zki;cases ieq (wand .i64 n 2) 0;{exact zVa (znX b a) (zfb a)};{exact⟨b,a⟩}
def zuY {h:ad}{m p n:Int}(a:Fit h)(b:i0 m (ln h.aa)=true)(e:i0 p 8=true):Shape (D0 h m p n)/\i0 m (ln (D0 h m p n).aa)=true:=by unfold D0;cases ieq (ix (ix h.aa m mZ).ae p sZ).af (-1);{exact zGU a.1 b};{obtain⟨c,d⟩:=zkX a b e;exact zGU c d}
def zS7 {h:ad}{m p:Int}(c:Fit h)(g:i0 m (ln h.aa)=true)(j:i0 p 8=true):(ix (ix (fetched h m p).aa m mZ).ae p sZ).aj=3:=by have f:=room c;have a:=zqN c g;obtain⟨r,e⟩:=zcD f.shape a;obtain⟨k,rfl,d⟩:=zd7 (n:=(zdh h).aa.length) a;obtain⟨q,rfl,l⟩:=zd7 (n:=8) j;unfold fetched zfr;rw[(zgX _ _ _ _).1];have b:k<(landing (zdh h) (k:Int) (q:Int)<|ix (zcm<|zdh h) 0 0).aa.length:=(by simpa [landing] using d);rw[zem b];have i:q<(ix (landing (zdh h) (k:Int) (q:Int)<|ix (zcm<|zdh h) 0 0).aa (k:Int) mZ).ae.length:=(by unfold landing;rw[zem d];show q<(ix (zdh h).aa (k:Int) mZ).ae.length;rw[e.1];exact l);show (ix (up (ix (landing (zdh h) (k:Int) (q:Int)<|ix (zcm<|zdh h) 0 0).aa (k:Int) mZ).ae (q:Int) ⟨_,3⟩) (q:Int) sZ).aj=3;rw[zem i]
def zSu (h:ad)(m p n:Int):Prop:=Fit h/\i0 m (ln h.aa)=true/\i0 p 8=true/\(n=1\/n=2\/n=3)/\SlotFit (ix (ix h.aa m mZ).ae p sZ)
@[simp] abbrev zlc (h:ad)(m p n:Int):Bool:=pc (zSu h m p n)
@[simp] abbrev zi1 (h:ad)(m p n:Int):ad:=D0 h m p n
def zsO:LW
 |[.agg [.s (.sl .int) b,.s .mon c,.s .entry d,.s .entry e],.one<|.i .i64 f,.one<|.i .i64 g,.one<|.i .i64 h]=>some (zlc (⟨b,c,d,e⟩:ad) f g h,[aH<|zi1 (⟨b,c,d,e⟩:ad) f g h])
 |_=>none
def zwK (N:Nat)(c:ad)(a b l:Int):OA:=
 let h:=zmV c a b;let k:=ix h.aa a zi;let e:=ix c.aa a zi;let p:=ix e.ae b zba; (oN (inb a<|ln c.aa)<|oN (inb b<|ln e.ae)<|oN zbU<|cond (cond (ieq p.af zbl.af) (ieq p.aj zbl.aj) false) (oN (zme c a b)<|cond (ieq (wand .i64 l 2) 0) (some [aH h])<|oN (inb a<|ln h.aa)<|oN (inb b<|ln k.ar)<|p0 (up h.aa a ({k with ar:=(up k.ar b true)}:Mon)) (λd=>let q:=(ix d a zi).ae;let i:=({h with aa:=d}:ad);let m:=ix q b zba;let r:=({m with aj:=3}:k0); (oN (inb a<|ln d)<|oN (inb b<|ln q)<|cond (ieq (wand .i64 m.aj 2) 0) (oN (zfI i a b r)<|some [aH<|zhO i a b r])<|some [aH i])))<|cond (ieq (wand .i64 l 2) 0) (some [aH c])<|oN (inb a<|ln c.aa)<|oN (inb b<|ln e.ar)<|p0 (up c.aa a ({e with ar:=(up e.ar b true)}:Mon)) (λd=>let f:=(ix d a zi).ae;let j:=({c with aa:=d}:ad);let n:=ix f b zba;let g:=({n with aj:=3}:k0); (oN (inb a<|ln d)<|oN (inb b<|ln f)<|cond (ieq (wand .i64 n.aj 2) 0) (oN (zfI j a b g)<|some [aH<|zhO j a b g])<|some [aH j])))
def zUo (N:Nat)(a:ad)(b c d:Int):zD5 (cQ zrl zqD zZO zVt) (zx []) N 12 183 [true,true,true,true,false,false,false] 1 1 [[0],[1],[2],[4],[7]] .mon [aH a,aI b,aI c,aI d]=zwK N a b c d:=by kernel_rfl
def zRx (d:ad)(b a h:Int)(C:zbT big [aH d,aI b,aI a,aI h])(z:zlc d b a h=true):∃N,zwK N d b a h=some [aH<|zi1 d b a h]:=by
 obtain⟨l,j,i,D,A⟩:=zS.1 z;obtain⟨B,v⟩:=zcD l.1 j;have f:∀r,Shape r->i0 b (ln r.aa)=true->(cond (ieq (wand .i64 h 2) 0) (some [AV.agg<|zbo r])<|cond (inb b<|ln r.aa) (cond (inb a<|ln (ix r.aa b zi).ar) (p0 (up r.aa b ({ (ix r.aa b zi) with ar:=(up (ix r.aa b zi).ar a true)}:Mon)) λg=>cond (inb b<|ln g) (cond (inb a<|ln (ix g b zi).ae) (cond (ieq (wand .i64 (ix (ix g b zi).ae a zba).aj 2) 0) (cond (zfI ({r with aa:=g}:ad) b a ({ (ix (ix g b zi).ae a zba) with aj:=3}:k0)) (some [AV.agg<|zbo<|zhO ({r with aa:=g}:ad) b a ({ (ix (ix g b zi).ae a zba) with aj:=3}:k0)]) none)<|some [AV.agg<|zbo ({r with aa:=g}:ad)]) none) none) none) none)=some [AV.agg<|zbo<|zki r b a h]:=(by intro r u c;obtain⟨E,m⟩:=zcD u c;have y:=znX (p:=a) u c;unfold zki;cases w:ieq (wand .i64 h 2) 0;{obtain⟨k,rfl,t⟩:=zd7 (n:=r.aa.length) c;have q:ix (zbI r (k:Int) a).aa (k:Int) mZ={ix r.aa (k:Int) mZ with ar:=up (ix r.aa (k:Int) mZ).ar a true}:=zem t _ _;refine zb7 rfl (j0 (zI c)<|j0 (zI<|zdP m.2.2.1 i)<|shr<|j0 (zI<|zfb c)<|j0 ?_ ?_);{rw [zem t];exact zI (zdP m.1 i)};{unfold opened;show (cond (ieq (wand .i64 (ix (ix (zbI r (k:Int) a).aa (k:Int) mZ).ae a sZ).aj 2) 0) _ _)=_;cases s:ieq (wand .i64 (ix (ix (zbI r (k:Int) a).aa (k:Int) mZ).ae a sZ).aj 2) 0;{rfl};{refine j0 rfl (j0 (zbL ⟨(zbc _).2 y.1,zfb c,?_,?_⟩) rfl);{show i0 a (ln (ix (zbI r (k:Int) a).aa (k:Int) mZ).ae)=true;rw[q];exact zdP m.1 i};{show (ix (zbI r (k:Int) a).aa (k:Int) mZ).ai.length<=(ix (zbI r (k:Int) a).aa (k:Int) mZ).ac.length;rw[q];exact k6 m.2.2.2}}}};{rfl});refine⟨0,?_⟩;unfold zwK zi1 D0 oN;conv=>zeta
 refine j0 (zI j) (j0 (zI<|zdP v.1 i) (j0 rfl ?_));have e:(cond (ieq (ix (ix d.aa b mZ).ae a sZ).af zbl.af) (ieq (ix (ix d.aa b mZ).ae a sZ).aj zbl.aj) false)=ieq (ix (ix d.aa b mZ).ae a sZ).af (-1):=(by rw[<- A.no];unfold zc8 zbl;cases ieq (ix (ix d.aa b mZ).ae a sZ).af A0.af<;>rfl);rw[e];cases w:ieq (ix (ix d.aa b mZ).ae a sZ).af (-1);{exact f d l.1 j};{obtain⟨s,x⟩:=zkX (p:=a) l j i;exact j0 rfl (j0 (zbL ⟨l,j,i⟩)<|f _ s x)}
def zKP:zeA Tryz.prog 183 [true,true,true,true,false,false,false] (some (1,1,[[0],[1],[2],[4],[7]])) zsO:=by refine zmu (kt:=.mon) (zg7 zh3 zC zOy zEu) (zjs (by kernel_rfl)) (by kernel_rfl) ?_;intro a g f e h;have c:=zjv e;unfold zsO at h;split at h;{obtain⟨d,rfl⟩:=zeK h;obtain⟨N,b⟩:=zRx _ _ _ _ (by exact c) d;exact⟨⟨_,rfl⟩,rfl,_,N,12,(zUo N _ _ _ _ ).trans b⟩};{cases h}
def zwX:LC->LA->Option (Bool×LC×LA)
 |[.s (.sl .int) b,.s .mon c,.s .entry d,.s .entry e],[.one<|.i .i64 f,.one<|.i .i64 g,.one<|.i .i64 h]=>some (zlc (⟨b,c,d,e⟩:ad) f g h,zbo<|zi1 (⟨b,c,d,e⟩:ad) f g h,[])
 |_,_=>none
def zG5 (N:Nat)(c:ad)(b a k:Int):OA:=
 let e:=zmV c b a;let m:=ix e.aa b zi;let h:=ix c.aa b zi; (oN (inb b<|ln c.aa)<|oN (inb a<|ln h.ae)<|cond (ieq (ix h.ae a zba).af<|-1) (oN (zme c b a)<|oN (zcH k 2)<|cond (nB<|zdr k 2) (some [aH e])<|oN (inb b<|ln e.aa)<|oN (inb a<|ln m.ar)<|p0 (up e.aa b ({m with ar:=(up m.ar a true)}:Mon)) (λd=>let i:=ix d b zi;let f:=ix i.ae a zba; (oN (inb a<|ln i.ae)<|oN (zcH f.aj 2)<|cond (nB<|zdr f.aj 2) (oN (inb a<|ln i.ae)<|p0 (up d b ({i with ae:=(up i.ae a ({f with aj:=3}:k0))}:Mon)) (λl=>let n:=({e with aa:=l}:ad); (oN (zeT n b a f)<|some [aH<|zeU n b a f])))<|some [aH ({e with aa:=d}:ad)])))<|oN (zcH k 2)<|cond (nB<|zdr k 2) (some [aH c])<|oN (inb b<|ln c.aa)<|oN (inb a<|ln h.ar)<|p0 (up c.aa b ({h with ar:=(up h.ar a true)}:Mon)) (λd=>let j:=ix d b zi;let g:=ix j.ae a zba; (oN (inb a<|ln j.ae)<|oN (zcH g.aj 2)<|cond (nB<|zdr g.aj 2) (oN (inb a<|ln j.ae)<|p0 (up d b ({j with ae:=(up j.ae a ({g with aj:=3}:k0))}:Mon)) (λl=>let p:=({c with aa:=l}:ad); (oN (zeT p b a g)<|some [aH<|zeU p b a g])))<|some [aH ({c with aa:=d}:ad)])))
def z2p (N:Nat)(c:ad)(a b d:Int):zoW (cQ zrl zqD zZO zVt) (zx []) N 12 181 [true,true,true,true] (zbo c) [aI a,aI b,aI d]=zG5 N c a b d:=by kernel_rfl
def zZw (c:ad)(b a f:Int)(R:zbT big (.agg (zbo c)::[aI b,aI a,aI f]))(M:zlc c b a f=true):∃N,zG5 N c b a f=some (.agg (zbo<|zi1 c b a f)::[]):=by
 obtain⟨l,i,j,P,C⟩:=zS.1 M;obtain⟨Q,I⟩:=zcD l.1 i;have H:enough f 2 = !ieq (wand .i64 f 2) 0:=(by rcases P with rfl|rfl|rfl<;>rfl);have g:∀r,Shape r->i0 b (ln r.aa)=true->enough (ix (ix r.aa b mZ).ae a sZ).aj 2=(!ieq (wand .i64 (ix (ix r.aa b mZ).ae a sZ).aj 2) 0)->(cond (zcH f 2) (cond (cond (zdr f 2) false true) (some [AV.agg<|zbo r])<|cond (inb b<|ln r.aa) (cond (inb a<|ln (ix r.aa b zi).ar) (p0 (up r.aa b ({ (ix r.aa b zi) with ar:=(up (ix r.aa b zi).ar a true)}:Mon)) λe=>cond (inb a<|ln (ix e b zi).ae) (cond (zcH (ix (ix e b zi).ae a zba).aj 2) (cond (cond (zdr (ix (ix e b zi).ae a zba).aj 2) false true) (cond (inb a<|ln (ix e b zi).ae) (p0 (up e b ({ (ix e b zi) with ae:=(up (ix e b zi).ae a ({ (ix (ix e b zi).ae a zba) with aj:=3}:k0))}:Mon)) λF=>cond (zeT ({r with aa:=F}:ad) b a<|ix (ix e b zi).ae a zba) (some [AV.agg<|zbo<|zeU ({r with aa:=F}:ad) b a<|ix (ix e b zi).ae a zba]) none) none)<|some [AV.agg<|zbo ({r with aa:=e}:ad)]) none) none) none) none) none)=some [AV.agg<|zbo<|zki r b a f]:=(by intro r B d q;obtain⟨S,u⟩:=zcD B d;have w:=znX (p:=a) B d;unfold zki;simp only[zcH,zdr,H,cT];cases J:ieq (wand .i64 f 2) 0;{obtain⟨k,rfl,A⟩:=zd7 (n:=r.aa.length) d;have m:ix (zbI r (k:Int) a).aa (k:Int) mZ={ix r.aa (k:Int) mZ with ar:=up (ix r.aa (k:Int) mZ).ar a true}:=zem A _ _;have t:k<(zbI r (k:Int) a).aa.length:=(by simpa [zbI] using A);have z:inb a (ln (ix (zbI r (k:Int) a).aa (k:Int) mZ).ae)=true:=(by rw[m];exact zI (zdP u.1 j));refine zb7 rfl (j0 (zI d)<|j0 (zI<|zdP u.2.2.1 j)<|shr<|j0 z ?_);unfold opened;show (cond (cond (enough (ix (ix (zbI r (k:Int) a).aa (k:Int) mZ).ae a sZ).aj 2) false true) _ _)=_;have G:(cond (enough (ix (ix (zbI r (k:Int) a).aa (k:Int) mZ).ae a sZ).aj 2) false true)=ieq (wand .i64 (ix (ix (zbI r (k:Int) a).aa (k:Int) mZ).ae a sZ).aj 2) 0:=(by rw[m];show (cond (enough (ix (ix r.aa (k:Int) mZ).ae a sZ).aj 2) false true)=ieq (wand .i64 (ix (ix r.aa (k:Int) mZ).ae a sZ).aj 2) 0;rw[q];cases ieq (wand .i64 (ix (ix r.aa (k:Int) mZ).ae a sZ).aj 2) 0<;>rfl);rw[G];cases v:ieq (wand .i64 (ix (ix (zbI r (k:Int) a).aa (k:Int) mZ).ae a sZ).aj 2) 0;{rfl};{have L:Shape {zbI r (k:Int) a with aa:=up (zbI r (k:Int) a).aa (k:Int) {ix (zbI r (k:Int) a).aa (k:Int) mZ with ae:=up (ix (zbI r (k:Int) a).aa (k:Int) mZ).ae a ⟨(ix (ix (zbI r (k:Int) a).aa (k:Int) mZ).ae a sZ).af,3⟩}}:=(by obtain⟨D,E⟩:=zcD w (zfb d);exact zjm w ⟨by simpa using D.1,D.2⟩ ⟨by simpa using E.1,E.2⟩);have O:∀(x y:Mon),i0 (k:Int) (ln<|up (up r.aa (k:Int) x) (k:Int) y)=true:=λx y=>(by simpa [ln] using d);refine j0 rfl (j0 z<|shr<|j0 (zbL ⟨L,O _ _⟩) ?_);exact congrArg (λx=>some [AV.agg<|zbo x]) (zz0 (h:=zbI r (k:Int) a) (p:=a) (s:=⟨(ix (ix (zbI r (k:Int) a).aa (k:Int) mZ).ae a sZ).af,3⟩) t (by rw[m];exact u.2.2.2))}};{rfl});refine⟨0,?_⟩;unfold zG5 zi1 D0 oN nB;conv=>zeta
 refine j0 (zI i) (j0 (zI<|zdP I.1 j) ?_);cases J:ieq (ix (ix c.aa b mZ).ae a sZ).af (-1);{exact g c l.1 i (z8H C.lo C.hi)};{obtain⟨v,K⟩:=zkX (p:=a) l i j;exact j0 rfl (j0 (zbL ⟨l,i,j⟩)<|g _ v K (by rw[zS7 l i j];rfl))}
def zTm:zbR Tryz.prog 181 [true,true,true,true] zwX:=by refine zhV (zg7 zh3 zC zOy zEu) (zjs (by kernel_rfl)) ?_;intro g a b j i f h;have d:=zlB f;unfold zwX at h;split at h;{obtain⟨e,rfl,rfl⟩:=znz h;obtain⟨N,c⟩:=zZw _ _ _ _ (by exact d) e;exact⟨rfl,_,N,12,(z2p N _ _ _ _ ).trans c⟩};{cases h}
def zZQ:zcY:=[(181,[true,true,true,true],zwX)]++zZO
def zb6:zb2 zZQ:=zcq zOy (by
 intro x a;simp only[qG,qP,or_false]at a;rcases a with rfl
 .exact zTm)
def z0A:zgj:=[(183,[true,true,true,true,false,false,false],some (1,1,[[0],[1],[2],[4],[7]]),zsO)]++zVt
def zEv:ze0 z0A:=zq9 zEu (by
 intro x a;simp only[qG,qP,or_false]at a;rcases a with rfl
 .exact zKP)
def zZj {h:ad}(b:zcc h=true):h.ag.length=12:=by unfold zcc at b;simp only[zdj]at b;have a:=b.1;unfold ziK at a;simp only[zdj]at a;have:ln h.ag=12:=qF a.2;simp only[ln] at this;omega
def zhH {h:ad}(a:zcc h=true):∀x∈h.aa,zeV x=true:=by unfold zcc at a;simp only[zdj]at a;exact zzp _ _ a.2.2.2.2
def zIu {x:Mon}(a:zeV x=true):ShM x:=by have e:=zss (znf a);unfold zeV at a;simp only[zdj]at a;have b:ln x.ai=ln x.ac:=qF a.2.1;have c:ln x.Out=8:=qF a.2.2.2.1;have d:ln x.ar=8:=qF a.2.2.2.2.1;simp only[ln] at *;exact⟨by omega,by omega,by omega,by omega⟩
def zfQ {h:ad}(b:SmH h)(a:zcc h=true):Fit h:=by refine⟨⟨b,λx c=>zIu (zhH a x c)⟩,by rw[zZj a];decide,?_⟩;unfold zcc at a;simp only[zdj]at a;have:=zTr _ _ rfl a.2.2.2.2;omega
def ztm {x:Mon}(b:zeV x=true){p:Int}(c:i0 p 8=true):SlotFit (ix x.ae p sZ):=by have a:=znf b;unfold zdb at a;simp only[zdj]at a;exact z0o (qN.1 a.1 _<|zbE (zdP (zIu b).1 c) _)
def zWm {h:ad}{m p:Int}(a:Fit h)(c:i0 m (ln h.aa)=true):Fit (zbI h m p):=by refine⟨znX a.1 c,a.2.1,?_⟩;obtain⟨k,rfl,b⟩:=zd7 (n:=h.aa.length) c;have:=zV1 h.aa k (ix h.aa (k:Int) mZ) {ix h.aa (k:Int) mZ with ar:=up (ix h.aa (k:Int) mZ).ar p true} (by rw[zbi b];exact qB b);have d:=a.2.2;unfold zbI;simp only[up,j4];dsimp only at this;simp only[up] at this;omega
abbrev gZ:ah:=Ty.dflt .guest
@[simp] abbrev zov (h:ad)(m:Int):Bool:=pc (zdY h)
@[simp] abbrev zsg (h:ad)(m:Int):Mon:=bif i0 m (ln h.aa) then ix h.aa m mZ else mZ
@[simp] abbrev zvO (h:ad)(m:Int):Bool:=i0 m (ln h.aa)
def zwZ:Run:=rF2 dH dI λb c=>(zov b c,[aT .mon<|zsg b c,aB<|zvO b c])
def zO9 (N:Nat)(a:ad)(b:Int):OA:=
 let c:=ix a.aa b zi; (oN (zcH b<|ln a.aa)<|cond (nB<|zkf b<|ln a.aa) (some [aT .mon (⟨[],[],[],[],[],0,0,[],0⟩:Mon),aB false])<|oN (inb b<|ln a.aa)<|oN (zja c)<|some [aT .mon<|zjZ c,aB true])
def zWv (a:ad)(b:Int)(d:zov a b=true):∃N,zO9 N a b=some [aT .mon<|zsg a b,aB<|zvO a b]:=by
 have e:=(zbc a).1 (zS.1 d);refine⟨0,?_⟩;unfold zO9 zsg zvO oN nB;conv=>zeta
 refine j0 rfl ?_;rw[show zkf b (ln a.aa)=i0 b (ln a.aa) from rfl];cases c:i0 b (ln a.aa);{rfl};{exact zb7 rfl (j0 (zI c) (j0 (zbL<|e.2.1.2 _<|zbE c _) rfl))}
def zAy:vR 72 zwZ:=kF2 zh3 zC zb6 zEv (zx []) zWv
def zbZ (h:ad)(m g:Int):Bool:=bif zcc h then (cond (i0 m<|ln h.aa) (i0 g<|ln (ix h.aa m mZ).ac) false) else false
@[simp] abbrev zdk (h:ad)(m g:Int):Bool:=pc (zdY h)
@[simp] abbrev zjS (h:ad)(m g:Int):Bool:=zbZ h m g
def zGM:Run:=rF3 dH dI dI λb c d=>(zdk b c d,[aB<|zjS b c d])
def zPq (N:Nat)(a:ad)(b c:Int):OA:=
 let d:=wsub .i64 (ln (ix a.aa b zi).ac) 1; (oN (zeb a)<|cond (zea a) (oN (zN b 0<|wsub .i64 (ln a.aa) 1)<|cond (zk b 0<|wsub .i64 (ln a.aa) 1) (oN (inb b<|ln a.aa)<|oN (zN c 0 d)<|some [aB<|zk c 0 d]) oF) oF)
def zWL (a:ad)(b c:Int)(f:zdk a b c=true):∃N,zPq N a b c=some [aB<|zjS a b c]:=by
 have e:=(zbc a).1 (zS.1 f);refine⟨0,?_⟩;unfold zPq zjS zbZ oN;conv=>zeta
 refine j0 rfl ?_;rw[show zea a=zcc a from rfl];cases g:zcc a;{rfl};{rw [show zk b 0 (wsub .i64 (ln a.aa) 1)=i0 b (ln a.aa) from zrd e.2.1.1 b];refine j0 rfl (j0 rfl ?_);cases d:i0 b (ln a.aa);{rfl};{have hg:(ix a.aa b mZ).ac.length<=1048576:=(e.2.1.2 _<|zbE d _).2.2.2.1.1;rw[show zk c 0 (wsub .i64 (ln (ix a.aa b zi).ac) 1)=i0 c (ln (ix a.aa b mZ).ac) from zrd hg c];exact j0 rfl (j0 (zI d) (j0 rfl rfl))}}
def zQR:vR 258 zGM:=kF3 zh3 zC zb6 zEv (zx []) zWL
def zcQ (h:ad)(m:Int):Nat->Nat->List LI
 | 0,_=>[]
 |n+1,i=>zdf h m (i:Int)::zcQ h m n (i+1)
def zzG (h:ad)(m:Int):∀(n i:Nat),(zcQ h m n i).length=n
 | 0,_=>rfl
 |n+1,i=>by simp[zcQ,zzG h m n]
def zM (h:ad)(m:Int):am:=bif i0 m (ln h.aa) then ⟨zcQ h m 8 0,(ix h.aa m mZ).ac,(ix h.aa m mZ).Outs,(ix h.aa m mZ).ak⟩ else ⟨[],[],[],0⟩
def z7a:zW:=[(72,zwZ),(258,zGM)]++zrl
def z4u:zL z7a:=zh zAy (zh zQR zh3)
def zWO:zcs zz6=true:=by decide
def zXv {p:Nat->Bool}:∀{n i q:Nat},zoN p n i=true->i<=q->q<i+n->p q=true
 | 0,i,q,_,a,b=>by omega
 |n+1,i,q,h,a,b=>by simp only[zoN,qE]at h;by_cases c:i=q;{subst c;exact h.1};{exact zXv h.2 (by omega) (by omega)}
def z2C {h:ad}{m:Int}(e:zcc h=true)(l:i0 m (ln h.aa)=true){p:Int}(j:i0 p 8=true):zcs (zdf h m p)=true:=by have i:=zhH e _ (zbE l mZ);have s:=zIu i;have f:h.ag.all zcs=true:=(by unfold zcc at e;simp only[zdj]at e;have b:=e.1;unfold ziK at b;simp only[zdj]at b;exact b.1);unfold zdf;rw[l,j];simp only[cT];have t:zbG (ix h.aa m mZ).ae p=ix (ix h.aa m mZ).ae p sZ:=(by unfold zbG;rw[zdP s.1 j];rfl);rw[t];have d:∀(g:List LI) (q:Int),(i0 q (ln g)=true->zcs (ix g q [])=true)->zcs (zcx g q)=true:=(by intro g q k;unfold zcx;cases b:i0 q (ln g);{exact zWO};{exact k b});cases c:ine (ix (ix h.aa m mZ).ae p sZ).af (-1);{refine d _ _ (λk=>?_);obtain⟨q,rfl,u⟩:=zd7 (n:=8) j;have a:fits (ix h.aa m mZ) q=true:=(by unfold zeV at i;simp only[zdj]at i;exact zXv i.2.2.2.2.2.2.2.2.2.2 (by omega) (by omega));unfold fits zmB at a;have r:zc8 (ix (ix h.aa m mZ).ae (q:Int) sZ) A0=true:=(by rw[(ztm (zhH e _<|zbE l mZ) j).no];rw[zxT]at c;cases b:ieq (ix (ix h.aa m mZ).ae (q:Int) sZ).af (-1);{rw [b]at c;cases c};{rfl});rw[r]at a;exact a};{exact d _ _ (λk=>qN.1 f _ (zbE k _))}
def zQd {h:ad}{m:Int}(a:zcc h=true)(b:i0 m (ln h.aa)=true):∀(n i:Nat),i+n<=8->(zcQ h m n i).all zcs=true
 | 0,_,_=>rfl
 |n+1,i,c=>by simp only[zcQ,kY,qE];exact⟨z2C a b<|qK (by omega),zQd a b n (i+1) (by omega)⟩
def zGc {h:ad}{m:Int}(c:zcc h=true)(b:i0 m (ln h.aa)=true):zcb (zM h m)=true:=by have a:=zhH c _ (zbE b mZ);unfold zeV at a;simp only[zdj]at a;unfold zM zcb ziK;rw[b];simp only[cT,a.2.2.2.2.2.2.2.2.2.1,zQd c b 8 0 (by decide),ln,zzG];simp only[ln]at a;rw[a.1,a.2.2.2.2.2.1,a.2.2.2.2.2.2.1];rfl
def znD:zW:=z7a
def zi5:zL znD:=z4u
def zeD (l:List Mon):List (List ah):=l.map λx=>x.ac
def zzn {l:List Mon}{m:Int}{x:Mon}(b:i0 m (ln l)=true)(c:x.ac=(ix l m mZ).ac):zeD (up l m x)=zeD l:=by obtain⟨k,rfl,a⟩:=zd7 (n:=l.length) b;unfold zeD up;rw[List.map_set,j4,c,zbi a];have:=@u3 _ (l.map λx=>x.ac) k (by simpa using a);simpa using this
def zJ9 {l b:List Mon}(h:zeD b=zeD l)(m:Int):(ix b m mZ).ac=(ix l m mZ).ac:=by unfold zeD at h;have a:(b.map λx=>x.ac)[m.toNat]?=(l.map λx=>x.ac)[m.toNat]?:=(by rw[h]);rw[qS,qS]at a;unfold ix;simp only[kE];cases c:b[m.toNat]? <;> cases d:l[m.toNat]? <;> rw [c,d]at a<;>simp at a ⊢;exact a
def zzm {h:ad}{m p:Int}{s:k0}(a:i0 m (ln h.aa)=true):zeD (zcp h m p s).aa=zeD h.aa:=by rw[(zgX h m p s).1];exact zzn a rfl
def z8O {h:ad}{m p:Int}(a:i0 m (ln h.aa)=true):zeD (zdR h m p).aa=zeD h.aa:=(zzm (h:=zfi h m p)<|zfb a).trans (zzn a rfl)
def z8N {h:ad}(b:Fit h):zeD (zdh h).aa=zeD h.aa:=by unfold zdh;cases a:ieq (ln<|zcm h) 0;{rfl};{exact z8O (zEl b a).1}
def zZg {h:ad}{m p:Int}(a:Fit h)(c:i0 m (ln h.aa)=true):zeD (fetched h m p).aa=zeD h.aa:=by have b:=zqN a c;exact((zzm (h:=landing (zdh h) m p (ix (zcm<|zdh h) 0 0))<|zfb b).trans (zzn b rfl)).trans (z8N a)
def zTj {h:ad}{m p n:Int}(b:i0 m (ln h.aa)=true):zeD (zki h m p n).aa=zeD h.aa:=by have a:zeD (zbI h m p).aa=zeD h.aa:=zzn b rfl;unfold zki;cases ieq (wand .i64 n 2) 0;{unfold opened;cases ieq (wand .i64 (ix (ix (zbI h m p).aa m mZ).ae p sZ).aj 2) 0;{exact a};{exact(zzm (h:=zbI h m p)<|zfb b).trans a}};{rfl}
def z1V {h:ad}{m p n:Int}(b:Fit h)(a:i0 m (ln h.aa)=true)(c:i0 p 8=true):zeD (D0 h m p n).aa=zeD h.aa:=by unfold D0;cases ieq (ix (ix h.aa m mZ).ae p sZ).af (-1);{exact zTj a};{exact(zTj (zkX b a c).2).trans (zZg b a)}
def zban {l a:List Mon}(h:zeD a=zeD l):a.length=l.length:=by have:=congrArg List.length h;simpa [zeD] using this
abbrev kZ:ax:=Ty.dflt .kept
def zbbh {x:ah}(f:zd6 x=true){p n:Int}(d:zf5 x.av p n=true):i0 (zcN x.av p n) 8=true:=by have g:zdb x.av 4 8=true:=(by unfold zd6 at f;simp only[qE]at f;exact f.2.2.2.2.1);unfold zcN;rw[d];simp only[cT];unfold zf5 at d;cases a:ieq (zbG x.av p).af (-1);{unfold zbG at a ⊢;cases e:i0 p (ln x.av);{rw [e]at a;cases a};{rw [e]at a;simp only[cT]at a ⊢;unfold zdb at g;simp only[zdj]at g;have c:=qN.1 g.1 _ (zbE e sZ);unfold zd3 at c;cases b:zc8 (ix x.av p sZ) A0;{rw [b]at c;simp only[cF,zdj]at c;have:=zgA.1 c.2.1;rw[show wsub .i64 8 1=7 from rfl] at this;show i0 (ix x.av p sZ).af 8=true;exact qK (by omega)};{unfold zc8 at b;rw[qE]at b;have:(ix x.av p sZ).af = -1:=qF b.1;rw[show ieq (ix x.av p zba).af (-1)=true from qK this]at a;cases a}}};{rw [a]at d;cases d}
def zc1 (h:ad)(m g:Int):List k0:=(ix (ix h.aa m mZ).ac g gZ).av
def zcB (h:ad)(m g:Int):ax:=ix (ix h.aa m mZ).ai g kZ
def zr7 (b:List au)(m g a:Int):Option au:=zD7 b (zfl m g) a
def zis (b:List au)(m g a c:Int):Bool:=bif (zr7 b m g a).isSome then enough ((zr7 b m g a).getD ⟨0,0,0,0⟩).aj c else false
def zfz (h:ad)(m g a b:Int):Bool:=bif zlK (zcB h m g) a then (cond (ieq (zfL (zcB h m g) a).af<|-1) true<|!enough (zfL (zcB h m g) a).aj b) else true
def zd9 (h:ad)(m g a:Int):ad:={h with aa:=up h.aa m {ix h.aa m mZ with ai:=up (ix h.aa m mZ).ai g (filled (zcB h m g) (zc1 h m g) (ix h.aa m mZ).ae a)}}
def zSa (h:ad)(m g a:Int):au:=⟨zfl m g,a,(zfL (zcB h m g) a).af,(zfL (zcB h m g) a).aj⟩
def zv1 (h:ad)(m g a:Int)(b:Bool):ad:=bif b then {h with an:=zqJ h.an (zSa h m g a)} else {h with ao:=zqJ h.ao (zSa h m g a)}
def ziI (h:ad)(m g a:Int)(b:Bool):ad×Int×Bool:=(zv1 h m g a b,(zfL (zcB h m g) a).af,true)
def ziH (h:ad)(b:List au)(m g a c q:Int)(d:Bool):ad×Int×Bool :=
 bif zis b m g a c then (h,((zr7 b m g a).getD ⟨0,0,0,0⟩).ad,true)
 else (cond (zfz h m g a c) (ziI (zd9 (D0 h m q c) m g a) m g a d)<|ziI h m g a d)
def zkG (a:Int):Bool:=bif ieq a 1 then true else ieq a 2
def zb9 (h:ad)(m g page need:Int):Bool:=bif zbZ h m g then (cond (zkG need) (zf5 (zc1 h m g) page need) false) else false
def lookOf (h:ad)(b:List au)(m g page need:Int)(io:Bool):ad×Int×Bool :=
 bif zb9 h m g page need then ziH (cond (ieq need 2) (zbI h m<|zcN (zc1 h m g) page need) h) b m g page need (zcN (zc1 h m g) page need) io else (h,-1,false)
structure Kp (h r:ad):Prop where
 shape:Shape r
 gs:zeD r.aa=zeD h.aa
def Kp.has {h r:ad}(k:Kp h r){m:Int}(a:i0 m (ln h.aa)=true):i0 m (ln r.aa)=true:=by rw[ln,zban k.gs];exact a
def z0l {h:ad}{m g c:Int}(d:Shape h)(e:i0 m (ln h.aa)=true)(hg:i0 g (ln (ix h.aa m mZ).ac)=true):Shape (zd9 h m g c):=by obtain⟨a,b⟩:=zcD d e;have f:i0 g (ln (ix h.aa m mZ).ai)=true:=(by rw[ln,b.2.2.2];exact hg);exact zjm d ⟨a.1,a.2.1,a.2.2.1,a.2.2.2.1,a.2.2.2.2.1,zyD a.2.2.2.2.2<|z0r<|a.2.2.2.2.2.2 _<|zbE f _⟩ ⟨b.1,b.2.1,b.2.2.1,by simpa using b.2.2.2⟩
def z18 {h r:ad}{m g a:Int}{i:Bool}(k:Kp h r):Kp h (zv1 r m g a i):=by obtain⟨⟨b,c,d,e⟩,f⟩:=k.shape;unfold zv1;cases i;{exact⟨⟨⟨b,c,(zzJ _ d).1,e⟩,f⟩,k.gs⟩};{exact⟨⟨⟨b,c,d,(zzJ _ e).1⟩,f⟩,k.gs⟩}
structure LookAt (h:ad) (m g q need:Int):Prop where
 fit:Fit h
 hm:i0 m (ln h.aa)=true
 hg:i0 g (ln (ix h.aa m mZ).ac)=true
 hq:i0 q 8=true
 hn:need=1\/need=2
 hs:SlotFit (ix (ix h.aa m mZ).ae q sZ)
def LookAt.mend {h:ad}{m g q a:Int}(A:LookAt h m g q a):zSu h m q a:=⟨A.fit,A.hm,A.hq,A.hn.elim .inl λh=>.inr (.inl h),A.hs⟩
def LookAt.kp {h:ad}{m g q a:Int}(A:LookAt h m g q a):Kp h (D0 h m q a):=⟨(zuY A.fit A.hm A.hq).1,z1V A.fit A.hm A.hq⟩
def LookAt.fill {h:ad}{m g q a:Int}(A:LookAt h m g q a)(b:Int):Kp h (zd9 (D0 h m q a) m g b):=by have k:=A.kp;have hg:i0 g (ln (ix (D0 h m q a).aa m mZ).ac)=true:=(by rw[zJ9 k.gs];exact A.hg);have e:zeD (zd9 (D0 h m q a) m g b).aa=zeD (D0 h m q a).aa:=zzn (k.has A.hm) rfl;exact⟨z0l k.shape (k.has A.hm) hg,e.trans k.gs⟩
def zTx {h:ad}{b:List au}{m g page a q:Int}{io:Bool}(A:LookAt h m g q a):Kp h (ziH h b m g page a q io).1:=by unfold ziH;cases zis b m g page a;{cases zfz h m g page a;{exact z18 ⟨A.fit.1,rfl⟩};{exact z18 (A.fill page)}};{exact⟨A.fit.1,rfl⟩}
def zdN {h:ad}{m g:Int}(a:zbZ h m g=true):zcc h=true/\i0 m (ln h.aa)=true/\i0 g (ln (ix h.aa m mZ).ac)=true:=by unfold zbZ at a;simp only[zdj]at a;exact a
def zZh {h:ad}{m g:Int}(e:zbZ h m g=true):zd6 (ix (ix h.aa m mZ).ac g gZ)=true:=by obtain⟨b,c,d⟩:=zdN e;have a:=zhH b _ (zbE c mZ);unfold zeV at a;simp only[zdj]at a;exact qN.1 a.2.2.2.2.2.2.2.2.2.1 _ (zbE d _)
def zLs {n:Int}(h:zkG n=true):n=1\/n=2:=by unfold zkG at h;cases a:ieq n 1;{rw [a]at h;exact .inr (qF h)};{exact .inl (qF a)}
def zPX {h:ad}{m g page a:Int}(s:SmH h)(d:zb9 h m g page a=true) :
 LookAt h m g (zcN (zc1 h m g) page a) a/\LookAt (zbI h m<|zcN (zc1 h m g) page a) m g (zcN (zc1 h m g) page a) a:=by
 unfold zb9 at d;simp only[zdj]at d;obtain⟨l,p,r⟩:=d;obtain⟨i,b,j⟩:=zdN l;have f:i0 (zcN (zc1 h m g) page a) 8=true:=zbbh (zZh l) r;have c:=ztm (zhH i _<|zbE b mZ) f;have q:=zfQ s i;refine⟨⟨q,b,j,f,zLs p,c⟩,⟨zWm q b,zfb b,?_,f,zLs p,?_⟩⟩
 .have e:zeD (zbI h m<|zcN (zc1 h m g) page a).aa=zeD h.aa:=zzn b rfl;rw[zJ9 e];exact j
 .obtain⟨k,rfl,hk⟩:=zd7 (n:=h.aa.length) b;unfold zbI;rw[zem hk];exact c
def zxU {h:ad}{b:List au}{m g page need:Int}{io:Bool}(a:SmH h)(f:zbZ h m g=true):Kp h (lookOf h b m g page need io).1:=by have d:=zfQ a (zdN f).1;unfold lookOf;cases c:zb9 h m g page need;{exact⟨d.1,rfl⟩};{obtain⟨A,B⟩:=zPX a c;simp only[cT];cases ieq need 2;{exact zTx A};{have k:=zTx (b:=b) (page:=page) (io:=io) B;have e:zeD (zbI h m<|zcN (zc1 h m g) page need).aa=zeD h.aa:=zzn A.hm rfl;exact⟨k.shape,k.gs.trans e⟩}}
def zOA (x:ad×Int×Bool):LA:=[.agg<|zbo x.1,.one<|.i .i64 x.2.1,.one<|.b x.2.2]
def zox {h:ad}{b:List au}{m g c a:Int}{e:Bool}(d:zb9 h m g c a=false):lookOf h b m g c a e=(h,-1,false):=by unfold lookOf;rw[d];rfl
def zDa {h:ad}{m g b a:Int}(c:zbZ h m g=false):zb9 h m g b a=false:=by unfold zb9;rw[c];rfl
def z8P {h:ad}{m g:Int}(a:zcc h=false):zbZ h m g=false:=by unfold zbZ;rw[a];rfl
def z8Q {h:ad}{m g:Int}(a:i0 m (ln h.aa)=false):zbZ h m g=false:=by unfold zbZ;rw[a];cases zcc h<;>rfl
def z8R {h:ad}{m g:Int}(a:i0 g (ln (ix h.aa m mZ).ac)=false):zbZ h m g=false:=by unfold zbZ;rw[a];cases zcc h<;>cases i0 m (ln h.aa)<;>rfl
def z8S {h:ad}{m g:Int}(a:zcc h=true)(b:i0 m (ln h.aa)=true)(c:i0 g (ln (ix h.aa m mZ).ac)=true):zbZ h m g=true:=by unfold zbZ;rw[a,b,c];rfl
structure LookF (r:ad) (m g:Int):Prop where
 hm:i0 m (ln r.aa)=true
 hg:i0 g (ln (ix r.aa m mZ).ac)=true
 ht:i0 g (ln (ix r.aa m mZ).ai)=true
 hk:SmK (zcB r m g)
 hb:r.ao.length<=1048576
 hi:r.an.length<=1048576
def zEh {h r:ad}{m g:Int}(k:Kp h r)(b:i0 m (ln h.aa)=true)(hg:i0 g (ln (ix h.aa m mZ).ac)=true):LookF r m g:=by obtain⟨d,e⟩:=zcD k.shape (k.has b);have a:i0 g (ln (ix r.aa m mZ).ac)=true:=(by rw[zJ9 k.gs];exact hg);have c:i0 g (ln (ix r.aa m mZ).ai)=true:=(by rw[ln,e.2.2.2];exact a);exact⟨k.has b,a,c,d.2.2.2.2.2.2 _<|zbE c _,k.shape.1.2.2.1,k.shape.1.2.2.2⟩
@[simp] abbrev zle (h:ad)(b:List au)(m g c a:Int)(d:Bool):Bool:=pc (zdY h)
@[simp] abbrev zfJ (h:ad)(b:List au)(m g page need:Int)(io:Bool):ad:=(lookOf h b m g page need io).1
@[simp] abbrev zld (h:ad)(b:List au)(m g c a:Int)(d:Bool):Int:=(lookOf h b m g c a d).2.1
@[simp] abbrev zhP (h:ad)(b:List au)(m g c a:Int)(d:Bool):Bool:=(lookOf h b m g c a d).2.2
def zsQ:LW
 |[.agg [.s (.sl .int) c,.s .mon d,.s .entry e,.s .entry f],.one<|.s .entry g,.one<|.i .i64 h,.one<|.i .i64 j,.one<|.i .i64 k,.one<|.i .i64 l,.one<|.b m]=>some (zle (⟨c,d,e,f⟩:ad) g h j k l m,[aH<|zfJ (⟨c,d,e,f⟩:ad) g h j k l m,aI<|zld (⟨c,d,e,f⟩:ad) g h j k l m,aB<|zhP (⟨c,d,e,f⟩:ad) g h j k l m])
 |_=>none
abbrev zQw (b:lM)(c:lN)(d:lE)(e:lE)(a:Int)(g:Int)(f:Int):Mon :=
 (ix (zi1 (⟨b,c,d,e⟩:ad) a g f).aa a zi)
abbrev zQx (a:ad)(b c:Int)(d e:Int):Int :=
 (zkP (ix (ix a.aa b zi).ac c zD).av d e)
def zMG (N:Nat)(a:Int)(b:lM)(c:lN)(d:lE)(e:lE):OA:=
 (some [aH (⟨b,c,d,e⟩:ad),aI a,aB true])
def zqp (N:Nat)(l:Int)(m:Bool)(n:Int)(c:Int)(d:Int)(k:lM)(e:lN)(a:lE)(b:lE)(f:lM)(g:lN)(h:lE)(i:lE):OA:=
 let q:=(⟨n,l,c,d⟩:au); (p0 (λ(j:(Int×Int×lM×lN×lE×lE×lM×lN×lE×lE×Unit))=>zMG N j.1 j.2.2.1 j.2.2.2.1 j.2.2.2.2.1 j.2.2.2.2.2.1) λp=>cond m (oN (zl3 b q)<|p (c,d,k,e,a,zmN b q,f,g,h,i,()))<|oN (zl3 a q)<|p (c,d,k,e,zmN a q,b,f,g,h,i,()))
def zsx (N:Nat)(d:lM)(e:lN)(f:lE)(g:lE)(b:Int)(i:Int)(h:Int)(a:Int)(c:Int)(y:(Int×Bool×Int×Int×Int×Int×Int×Int×Int×lM×lN×lE×lE×lM×lN×lE×lE×Unit)->OA)(r:Bool)(s:Int)(t:Int)(u:Int)(v:Int)(k:Int)(l:lM)(m:lN)(n:lE)(p:lE):OA:=
 let D:=(⟨d,e,f,g⟩:ad);let w:=zi1 D b i h;let x:=inb b<|ln w.aa;let j:=zQw d e f g b i h;let C:=ix j.ai a zex;let A:=(ix j.ac a zD).av; (oN (zlc D b i h)<|oN x<|oN x<|oN (inb a<|ln j.ai)<|oN x<|oN (inb a<|ln j.ac)<|oN x<|oN (zIL C A j.ae c)<|oN (inb a<|ln j.ai)<|p0 (up w.aa b ({j with ai:=(up j.ai a<|zLX C A j.ae c)}:Mon)) (λq=>let B:=(ix q b zi).ai;let z:=ix B a zex; (oN (inb b<|ln q)<|oN (inb a<|ln B)<|oN (zdB z c)<|y (c,r,s,t,u,v,k,(ztI z c).af,(ztI z c).aj,w.ag,q,w.ao,w.an,l,m,n,p,()))))
def zml (N:Nat)(d:Int)(e:Int)(c:Int)(n:Int)(p:Bool)(v:Int)(q:Int)(r:Int)(s:Int)(t:Int)(f:Int)(g:lM)(b:lN)(h:lE)(i:lE)(j:lM)(k:lN)(l:lE)(m:lE):OA:=
 let z:=(ix b d zi).ai;let x:=ix z e zex;let w:=ztI x c; (oN (inb d<|ln b)<|oN (inb e<|ln z)<|oN (zdB x c)<|p0 (λ(a:(Int×Bool×Int×Int×Int×Int×Int×Int×Int×lM×lN×lE×lE×lM×lN×lE×lE×Unit))=>zqp N a.1 a.2.1 a.2.2.1 a.2.2.2.2.2.2.2.1 a.2.2.2.2.2.2.2.2.1 a.2.2.2.2.2.2.2.2.2.1 a.2.2.2.2.2.2.2.2.2.2.1 a.2.2.2.2.2.2.2.2.2.2.2.1 a.2.2.2.2.2.2.2.2.2.2.2.2.1 a.2.2.2.2.2.2.2.2.2.2.2.2.2.1 a.2.2.2.2.2.2.2.2.2.2.2.2.2.2.1 a.2.2.2.2.2.2.2.2.2.2.2.2.2.2.2.1 a.2.2.2.2.2.2.2.2.2.2.2.2.2.2.2.2.1) (λu=>let y:=zsx N g b h i d v n e c u p q r s t f j k l m; (cond (nB<|zEp x c) y<|cond (ieq w.af<|-1) y<|oN (zcH w.aj n)<|cond (nB<|zdr w.aj n) y<|u (c,p,q,r,s,t,f,w.af,w.aj,g,b,h,i,j,k,l,m,()))))
def zsy (N:Nat)(g:Int)(a:ad)(h e f:Int)(l:lE)(n:Bool):OA:=
 let i:=ztK g h;let k:=zQx a g h e f;let m:=ix a.aa g zi;let s:=(ix m.ac h zD).av;let d:=znN l i e;let j:=d.aj; (oN (inb g<|ln a.aa)<|oN (inb h<|ln m.ac)<|oN (zsV s e f)<|cond (nB<|zkQ s e f) (some [aH a,aI<|-1,aB false])<|oN (zl4 g h)<|cond (ieq f 2) (oN (inb g<|ln a.aa)<|oN (inb k<|ln m.ar)<|p0 (up a.aa g ({m with ar:=(up m.ar k true)}:Mon)) λp=>oN (znO l i e)<|p0 (λ(c:(Int×Int×Int×Int×Bool×Int×Int×Int×Int×Int×Int×lM×lN×lE×lE×lM×lN×lE×lE×Unit))=>zml N c.1 c.2.1 c.2.2.1 c.2.2.2.1 c.2.2.2.2.1 c.2.2.2.2.2.1 c.2.2.2.2.2.2.1 c.2.2.2.2.2.2.2.1 c.2.2.2.2.2.2.2.2.1 c.2.2.2.2.2.2.2.2.2.1 c.2.2.2.2.2.2.2.2.2.2.1 c.2.2.2.2.2.2.2.2.2.2.2.1 c.2.2.2.2.2.2.2.2.2.2.2.2.1 c.2.2.2.2.2.2.2.2.2.2.2.2.2.1 c.2.2.2.2.2.2.2.2.2.2.2.2.2.2.1 c.2.2.2.2.2.2.2.2.2.2.2.2.2.2.2.1 c.2.2.2.2.2.2.2.2.2.2.2.2.2.2.2.2.1 c.2.2.2.2.2.2.2.2.2.2.2.2.2.2.2.2.2.1 c.2.2.2.2.2.2.2.2.2.2.2.2.2.2.2.2.2.2.1) λr=>cond (zkN l i e) (oN (zcH j f)<|cond (zdr j f) (some [aH ({a with aa:=p}:ad),aI d.ad,aB true])<|r (g,h,e,f,n,k,i,d.Tag,d.af,d.ad,j,a.ag,p,a.ao,a.an,[],[],[],[],()))<|r (g,h,e,f,n,k,i,d.Tag,d.af,d.ad,j,a.ag,p,a.ao,a.an,[],[],[],[],()))<|oN (znO l i e)<|p0 (λ(b:(Int×Int×Int×Int×Bool×Int×Int×Int×Int×Int×Int×lM×lN×lE×lE×lM×lN×lE×lE×Unit))=>zml N b.1 b.2.1 b.2.2.1 b.2.2.2.1 b.2.2.2.2.1 b.2.2.2.2.2.1 b.2.2.2.2.2.2.1 b.2.2.2.2.2.2.2.1 b.2.2.2.2.2.2.2.2.1 b.2.2.2.2.2.2.2.2.2.1 b.2.2.2.2.2.2.2.2.2.2.1 b.2.2.2.2.2.2.2.2.2.2.2.1 b.2.2.2.2.2.2.2.2.2.2.2.2.1 b.2.2.2.2.2.2.2.2.2.2.2.2.2.1 b.2.2.2.2.2.2.2.2.2.2.2.2.2.2.1 b.2.2.2.2.2.2.2.2.2.2.2.2.2.2.2.1 b.2.2.2.2.2.2.2.2.2.2.2.2.2.2.2.2.1 b.2.2.2.2.2.2.2.2.2.2.2.2.2.2.2.2.2.1 b.2.2.2.2.2.2.2.2.2.2.2.2.2.2.2.2.2.2.1) λq=>cond (zkN l i e) (oN (zcH j f)<|cond (zdr j f) (some [aH a,aI d.ad,aB true])<|q (g,h,e,f,n,k,i,d.Tag,d.af,d.ad,j,a.ag,a.aa,a.ao,a.an,[],[],[],[],()))<|q (g,h,e,f,n,k,i,d.Tag,d.af,d.ad,j,a.ag,a.aa,a.ao,a.an,[],[],[],[],()))
def zrf (N:Nat)(a:ad)(g:lE)(b c:Int)(h d:Int)(i:Bool):OA:=
 let f:=zsy N b a c h d g i;let e:=wsub .i64 (ln (ix a.aa b zi).ac) 1; (oN (zeb a)<|cond (nB<|zea a) (some [aH a,aI<|-1,aB false])<|oN (zN b 0<|wsub .i64 (ln a.aa) 1)<|cond (nB<|zk b 0<|wsub .i64 (ln a.aa) 1) (some [aH a,aI<|-1,aB false])<|oN (inb b<|ln a.aa)<|oN (zN c 0 e)<|cond (nB<|zk c 0 e) (some [aH a,aI<|-1,aB false])<|cond (ine d 1) (cond (ine d 2) (some [aH a,aI<|-1,aB false]) f) f)
def zs4:=zx [(337,999999,{n:=0,tm:=[],lo:=[],ro:=[]}),(337,1007023,{n:=210,tm:=[(2,ti),(3,ti),(4,ti),(5,ti),(6,.b),(7,.lp 0 0),(14,.lp 1 0),(17,ti),(19,ti),(20,.lp 2 0)],lo:=[(0,[.sl 0 [],.sl 1 [],.sl 2 [],.sl 3 []]),(1,[.sl 4 [],.sl 5 [],.sl 6 [],.sl 7 []]),(2,[ti,ti,ti,ti])],ro:=[(0,.sl .int,true),(1,.mon,true),(2,.entry,true),(3,.entry,true),(4,.sl .int,true),(5,.mon,true),(6,.entry,true),(7,.entry,true)],kr:=1}),(337,1009011,{n:=210,tm:=[(4,ti),(6,.b),(7,.lp 0 0),(14,.lp 1 0),(19,ti),(20,.lp 2 0),(22,.lp 3 0)],lo:=[(0,[.sl 0 [],.sl 1 [],.sl 2 [],.sl 3 []]),(1,[.sl 4 [],.sl 5 [],.sl 6 [],.sl 7 []]),(2,[ti,ti,ti,ti]),(3,[ti,ti])],ro:=[(0,.sl .int,true),(1,.mon,true),(2,.entry,true),(3,.entry,true),(4,.sl .int,true),(5,.mon,true),(6,.entry,true),(7,.entry,true)],kr:=1}),(337,1005003,{n:=210,tm:=[(7,.lp 0 0),(14,.lp 1 0),(22,.lp 2 0)],lo:=[(0,[.sl 0 [],.sl 1 [],.sl 2 [],.sl 3 []]),(1,[.sl 4 [],.sl 5 [],.sl 6 [],.sl 7 []]),(2,[ti,ti])],ro:=[(0,.sl .int,true),(1,.mon,true),(2,.entry,true),(3,.entry,true),(4,.sl .int,true),(5,.mon,true),(6,.entry,true),(7,.entry,true)],kr:=1})]
def zOs (N:Nat)(a:ad)(b c:Int)(d e:Int)(f:Bool):zSb (cQ znD zqD zZQ z0A) zs4 N 12 337 [true,true,true,true,false,false,false,false,false,false] [(4,2)] 1 1 [[0],[1],[2],[4],[7]] .mon [aH a,aS .entry a.ao,aI b,aI c,aI d,aI e,aB f]=zrf N a a.ao b c d e f:=by kernel_rfl
def zOt (N:Nat)(a:ad)(b c:Int)(d e:Int)(f:Bool):zSb (cQ znD zqD zZQ z0A) zs4 N 12 337 [true,true,true,true,false,false,false,false,false,false] [(4,3)] 1 1 [[0],[1],[2],[4],[7]] .mon [aH a,aS .entry a.an,aI b,aI c,aI d,aI e,aB f]=zrf N a a.an b c d e f:=by kernel_rfl
def zD8 {N:Nat}{r:ad}{m g a:Int}{b:Bool}{z1 z2 z3 z4}(c:r.ao.length<=1048576)(d:r.an.length<=1048576) :
 zqp N a b (zfl m g) (zfL (zcB r m g) a).af (zfL (zcB r m g) a).aj r.ag r.aa r.ao r.an z1 z2 z3 z4=some (zOA<|ziI r m g a b):=by
 unfold zqp oN
 conv=>zeta
 refine shr ?_;cases b
 .exact zb7 rfl (j0 (zbL c) rfl)
 .exact j0 rfl (j0 (zbL d) rfl)
def zS8 {N:Nat}{r:ad}{m g a b q:Int}{c:Bool}{R:OA}{r11}{u6 u7 u8 u9 u10 z1 z2 z3 z4}(A:LookAt r m g q b)(d:r11 (a,c,u6,u7,u8,u9,u10,(zfL (zcB (zd9 (D0 r m q b) m g a) m g) a).af,(zfL (zcB (zd9 (D0 r m q b) m g a) m g) a).aj,(zd9 (D0 r m q b) m g a).ag,(zd9 (D0 r m q b) m g a).aa,(zd9 (D0 r m q b) m g a).ao,(zd9 (D0 r m q b) m g a).an,z1,z2,z3,z4,())=R) :
 zsx N r.ag r.aa r.ao r.an m q b g a r11 c u6 u7 u8 u9 u10 z1 z2 z3 z4=R:=by
 have M:=zEh A.kp A.hm A.hg;have F:=zEh (A.fill a) A.hm A.hg;unfold zsx oN
 conv=>zeta
 exact j0 (zbL A.mend) (j0 (zI M.hm)<|j0 (zI M.hm)<|j0 (zI M.ht)<|j0 (zI M.hm)<|j0 (zI M.hg)<|j0 (zI M.hm)<|j0 (zbL M.hk)<|j0 (zI M.ht)<|shr<|j0 (zI F.hm)<|j0 (zI F.ht)<|j0 (zbL F.hk) d)
def z9D {r:ad}{m g a b:Int}(h:zlK (zcB r m g) a=false):zfz r m g a b=true:=by unfold zfz;rw[h];rfl
def z9E {r:ad}{m g a b:Int}(h:ieq (zfL (zcB r m g) a).af (-1)=true):zfz r m g a b=true:=by unfold zfz;rw[h];cases zlK (zcB r m g) a<;>rfl
def z9F {r:ad}{m g a b:Int}(h:enough (zfL (zcB r m g) a).aj b=false):zfz r m g a b=true:=by unfold zfz;rw[h];cases zlK (zcB r m g) a<;>cases ieq (zfL (zcB r m g) a).af (-1)<;>rfl
def z9G {r:ad}{m g a b:Int}(c:zlK (zcB r m g) a=true)(d:ieq (zfL (zcB r m g) a).af (-1)=false)(e:enough (zfL (zcB r m g) a).aj b=true):zfz r m g a b=false:=by unfold zfz;rw[c,d,e];rfl
def zOn {r:ad}{m g a b q:Int}{c:Bool}(h:zfz r m g a b=true):(cond (zfz r m g a b) (ziI (zd9 (D0 r m q b) m g a) m g a c)<|ziI r m g a c)=ziI (zd9 (D0 r m q b) m g a) m g a c:=by rw[h];rfl
def z8W {r:ad}{m g a b q:Int}{c:Bool}(h:zfz r m g a b=false):(cond (zfz r m g a b) (ziI (zd9 (D0 r m q b) m g a) m g a c)<|ziI r m g a c)=ziI r m g a c:=by rw[h];rfl
def zD9 {N:Nat}{r:ad}{m g a b q:Int}{f:Bool}{u7 u8 u9 u10 z1 z2 z3 z4}(A:LookAt r m g q b) :
 zml N m g a b f q (zfl m g) u7 u8 u9 u10 r.ag r.aa r.ao r.an z1 z2 z3 z4=some (zOA<|cond (zfz r m g a b) (ziI (zd9 (D0 r m q b) m g a) m g a f)<|ziI r m g a f):=by
 have M:=zEh ⟨A.fit.1,rfl⟩ A.hm A.hg;have F:=zEh (A.fill a) A.hm A.hg;unfold zml oN nB
 conv=>zeta
 refine j0 (zI M.hm) (j0 (zI M.ht)<|j0 (zbL M.hk)<|shr<|brN (λc=>?_) λc=>br (λd=>?_) λd=>j0 rfl (brN (λe=>?_) λe=>?_))
 .rw [zOn<|z9D c];exact zS8 A (zD8 (r:=zd9 (D0 r m q b) m g a) (m:=m) (g:=g) F.hb F.hi)
 .rw [zOn<|z9E d];exact zS8 A (zD8 (r:=zd9 (D0 r m q b) m g a) (m:=m) (g:=g) F.hb F.hi)
 .rw [zOn<|z9F e];exact zS8 A (zD8 (r:=zd9 (D0 r m q b) m g a) (m:=m) (g:=g) F.hb F.hi)
 .rw [z8W<|z9G c d e];exact zD8 (r:=r) (m:=m) (g:=g) M.hb M.hi
def zXH {b:List au}{m g a c:Int}(h:(zr7 b m g a).isSome=false):zis b m g a c=false:=by unfold zis;rw[h];rfl
def zEc {b:List au}{m g a c:Int}{x:Bool}(d:(zr7 b m g a).isSome=true)(h:enough ((zr7 b m g a).getD ⟨0,0,0,0⟩).aj c=x):zis b m g a c=x:=by unfold zis;rw[d,h];rfl
def zEg {r:ad}{b:List au}{m g a c q:Int}{d:Bool}(h:zis b m g a c=false):ziH r b m g a c q d=bif zfz r m g a c then ziI (zd9 (D0 r m q c) m g a) m g a d else ziI r m g a d:=by unfold ziH;rw[h];rfl
def zXS {r:ad}{b:List au}{m g a c q:Int}{d:Bool}(h:zis b m g a c=true):ziH r b m g a c q d=(r,((zr7 b m g a).getD ⟨0,0,0,0⟩).ad,true):=by unfold ziH;rw[h];rfl
def zUh {h:ad}{b:List au}{m g c a:Int}{d:Bool}(e:zb9 h m g c a=true):lookOf h b m g c a d=ziH (cond (ieq a 2) (zbI h m<|zcN (zc1 h m g) c a) h) b m g c a (zcN (zc1 h m g) c a) d:=by unfold lookOf;rw[e];rfl
def z1H {N:Nat}{r:ad}{b:List au}{m g c a:Int}{f:Bool}(p:SmH r)(hg:zbZ r m g=true)(k:zkG a=true) :
 zsy N m r g c a b f=some (zOA (lookOf r b m g c a f)):=by
 obtain⟨q,h,l⟩:=zdN hg;unfold zsy oN nB
 conv=>zeta
 refine j0 (zI h) (j0 (zI l) (j0 rfl (brN (fun j=>?_) (fun j=>j0 rfl ?_))))
 .have:zb9 r m g c a=false:=by
   unfold zb9;rw[hg,k,show zf5 (zc1 r m g) c a=false from j];rfl
  rw[zox this];rfl
 .have hl:zb9 r m g c a=true:=by
   unfold zb9;rw[hg,k,show zf5 (zc1 r m g) c a=true from j];rfl
  obtain⟨A,B⟩:=zPX p hl;rw[zUh hl];have n:i0 (zcN (zc1 r m g) c a) (ln (ix r.aa m mZ).ar)=true:=zdP (zcD A.fit.1 h).2.2.2.1 A.hq;refine br (fun i=>?_) (fun i=>?_)
  .rw [i]
   show _=some (zOA (ziH (zbI r m (zcN (zc1 r m g) c a)) b m g c a (zcN (zc1 r m g) c a) f))
   refine j0 (zI h) (j0 (zI n) (shr (j0 rfl (shr (br (fun d=>j0 rfl (br (fun e=>?_) (fun e=>?_))) (fun d=>?_))))))
   .rw [zXS (zEc d e)];rfl
   .rw [zEg (zEc d e)];exact zD9 (r:=zbI r m (zcN (zc1 r m g) c a)) B
   .rw [zEg (zXH d)];exact zD9 (r:=zbI r m (zcN (zc1 r m g) c a)) B
  .rw [i]
   show _=some (zOA (ziH r b m g c a (zcN (zc1 r m g) c a) f))
   refine j0 rfl (shr (br (fun d=>j0 rfl (br (fun e=>?_) (fun e=>?_))) (fun d=>?_)))
   .rw [zXS (zEc d e)];rfl
   .rw [zEg (zEc d e)];exact zD9 A
   .rw [zEg (zXH d)];exact zD9 A
def zRz (a:ad)(f:List au)(b c:Int)(e d:Int)(g:Bool)(t:zbT big [aH a,aS .entry f,aI b,aI c,aI e,aI d,aB g])(r:zle a f b c e d g=true):∃N,zrf N a f b c e d g=some [aH<|zfJ a f b c e d g,aI<|zld a f b c e d g,aB<|zhP a f b c e d g]:=by
 have j:=(zbc a).1 (zS.1 r);refine⟨0,?_⟩;show _=some (zOA<|lookOf a f b c e d g);unfold zrf oN nB;conv=>zeta
 refine j0 rfl (brN (λk=>?_) λk=>j0 rfl ?_);{rw [zox<|zDa<|z8P k];rfl};rw[show zk b 0 (wsub .i64 (ln a.aa) 1)=i0 b (ln a.aa) from zrd j.2.1.1 b];refine brN (λi=>?_) (λi=>j0 (zI i) (j0 rfl ?_));{rw [zox<|zDa<|z8Q i];rfl};have s:(ix a.aa b mZ).ac.length<=1048576:=(j.2.1.2 _<|zbE i _).2.2.2.1.1;rw[show zk c 0 (wsub .i64 (ln (ix a.aa b zi).ac) 1)=i0 c (ln (ix a.aa b mZ).ac) from zrd s c];refine brN (λl=>?_) (λl=>?_);{rw [zox<|zDa<|z8R l];rfl};have hg:=z8S k i l;have p:∀{n:Int},zkG n=false->zb9 a b c e n=false:=λ{n} h=>(by unfold zb9;rw[hg,h];rfl);rw[zxT,zxT];cases m:ieq d 1;{cases q:ieq d 2;{have:zkG d=false:=(by unfold zkG;rw[m,q];rfl);rw[zox<|p this];rfl};{exact z1H j hg (by unfold zkG;rw[m,q];rfl)}};{exact z1H j hg (by unfold zkG;rw[m];rfl)}
def zKR:zeA Tryz.prog 337 [true,true,true,true,false,false,false,false,false,false] (some (1,1,[[0],[1],[2],[4],[7]])) zsQ:=by refine zMY (kt:=.mon) (zg7 zi5 zC zb6 zEv) (zjs (by kernel_rfl)) ?_;intro p s x f i w v h;have t:=zjv v;have g:p=[(4,2)]\/p=[(4,3)]:=(by rw[show ziA 337=[[(4,2)],[(4,3)]] from by kernel_rfl]at f;simpa using f);unfold zsQ at h;split at h;{rename_i a b c d r j k l m n;obtain⟨u,rfl⟩:=zeK h;obtain⟨N,q⟩:=zRz (⟨a,b,c,d⟩:ad) r j k l m n t u;refine⟨⟨_,rfl⟩,rfl,zs4,N,12,?_⟩;rcases g with rfl|rfl;{have e:=i 4 2 (by simp);simp only[zy,kC,AV.cvs] at e;cases e;exact(zOs N (⟨a,b,c,d⟩:ad) j k l m n).trans q};{have e:=i 4 3 (by simp);simp only[zy,kC,AV.cvs] at e;cases e;exact(zOt N (⟨a,b,c,d⟩:ad) j k l m n).trans q}};{cases h}
def z5P:zgj:=[(337,[true,true,true,true,false,false,false,false,false,false],some (1,1,[[0],[1],[2],[4],[7]]),zsQ)]++z0A
def zjW:ze0 z5P:=zq9 zEv (by
 intro x a;simp only[qG,qP,or_false]at a;rcases a with rfl
 .exact zKR)
def gOf (h:ad)(m g:Int):ah:=ix (ix h.aa m mZ).ac g gZ
def zlV (h:ad)(m g:Int)(x:ah):ad:={h with aa:=up h.aa m {ix h.aa m mZ with ac:=up (ix h.aa m mZ).ac g x}}
def znG (h:ad)(m g:Int)(x:ah)(w:Bool):ad×Int×Bool:=lookOf h h.ao m g (zbk<|E0 x) (zcd w) false
def zkA (L:ad×Int×Bool)(m g:Int)(x:ah)(w:Bool):ad :=
 bif L.2.2 then (cond w (zlV {L.1 with ag:=zbN L.1.ag L.2.1 (zdp<|E0 x) x.A} m g<|zch x)<|zlV L.1 m g<|loaded x<|cellAt L.1.ag L.2.1<|zdp<|E0 x)
 else zlV L.1 m g (stopped x<|zr5 (zbk<|E0 x) w)
def owned (h:ad)(m:Int):ad:=bif ilt (ix h.aa m mZ).Own 1000000000 then {h with aa:=up h.aa m {ix h.aa m mZ with Own:=zK .i64 (ix h.aa m mZ).Own 1}} else h
def zo8 (h:ad)(m n:Int):ad:=bif ilt (ln (ix h.aa m mZ).Outs) 40 then {h with aa:=up h.aa m {ix h.aa m mZ with Outs:=ap (ix h.aa m mZ).Outs [n]}} else h
def zhg (h:ad)(m:Int)(x:ah)(w:Int):ad:=bif (cond (ine w 6) (ieq (zzE (ix h.aa m mZ).aq x.Ctl.aq<|zyH w) 2) false) then owned h m else h
def zhf (h:ad)(m:Int)(x:ah)(w:Int):ad:=bif (cond (zlx x.Ctl.aq w) (ieq w 5) false) then zo8 h m (zcw x.aw x.Pc).X else h
def zwA (h:ad)(m g:Int)(x:ah)(w:Int):ad:=zlV (zhf (zhg h m x w) m x w) m g (zkB x x.Ctl.aq w)
def zVm (h:ad)(m g:Int)(x:ah)(w:Int):ad×Bool :=
 bif ieq w 0 then (h,false) else (bif ieq w 1 then (zlV h m g<|interrupted x,true) else (bif ieq w 2 then (zlV h m g<|plainly x,true) else
  (cond (cond (ieq w 3) true<|ieq w 4) (zkA (znG h m g x<|ieq w 4) m g x<|ieq w 4,true) (zwA h m g x w,true))))
def zcv (h:ad)(m g:Int):ad×Bool:=bif zbZ h m g then zVm h m g (gOf h m g) (zbe<|gOf h m g) else (h,false)
def zgq (x:ad×Bool):LA:=[.agg<|zbo x.1,.one<|.b x.2]
def zqc {h:ad}{m g:Int}(b:SmH h)(a:i0 m (ln h.aa)=true)(hg:i0 g (ln (ix h.aa m mZ).ac)=true):SmG (gOf h m g):=(b.2.1.2 _<|zbE a _).2.2.2.1.2 _ (zbE hg _)
def z0m {h:ad}{m g:Int}{x:ah}(c:Shape h)(d:i0 m (ln h.aa)=true)(e:SmG x):Shape (zlV h m g x):=by obtain⟨a,b⟩:=zcD c d;exact zjm c ⟨a.1,a.2.1,a.2.2.1,zEs a.2.2.2.1 e,a.2.2.2.2⟩ ⟨b.1,b.2.1,b.2.2.1,by simpa using b.2.2.2⟩
def zLq {h:ad}{m:Int}(b:i0 m (ln h.aa)=true)(x:Mon):ix (up h.aa m x) m mZ=x:=by obtain⟨k,rfl,a⟩:=zd7 (n:=h.aa.length) b;exact zem a _ _
@[simp] abbrev zcL (h:ad)(m g:Int):ad:=(zcv h m g).1
@[simp] abbrev zcM (h:ad)(m g:Int):Bool:=(zcv h m g).2
def z7k {a:Type}{l:List a}{x:a}(h:ilt (ln l) 40=true):few (ln<|ap l [x])=true:=by have:=qF h;simp only[ln] at this;exact zfO (by simp[ap];omega)
def zYj {h:ad}{m:Int}{x:ah}{w:Int}(a:(cond (zlx x.Ctl.aq w) (ieq w 5) false)=false):zhf h m x w=h:=by unfold zhf;rw[a];rfl
def zQr {h:ad}{m:Int}{x:ah}{w:Int}(a:ilt (ln (ix h.aa m mZ).Outs) 40=false):zhf h m x w=h:=by unfold zhf zo8;rw[a];cases (cond (zlx x.Ctl.aq w) (ieq w 5) false)<;>rfl
def zVu {h:ad}{m:Int}{x:ah}{w:Int}(a:zlx x.Ctl.aq w=true)(b:ieq w 5=true)(c:ilt (ln (ix h.aa m mZ).Outs) 40=true):zhf h m x w={h with aa:=up h.aa m {ix h.aa m mZ with Outs:=ap (ix h.aa m mZ).Outs [(zcw x.aw x.Pc).X]}}:=by unfold zhf zo8;rw[a,b,c];rfl
def z3p {h:ad}{m:Int}{x:ah}{w:Int}(a:zlx x.Ctl.aq w=false):zhf h m x w=h:=zYj (by rw[a];rfl)
def zMn {h:ad}{m:Int}{x:ah}{w:Int}(a:ieq w 5=false):zhf h m x w=h:=zYj (by rw[a];cases zlx x.Ctl.aq w<;>rfl)
def z1W (a:Int):(cond (ieq a a) true false)=true:=by rw[zIc];rfl
def zmX {h:ad}{m g:Int}(a:zbZ h m g=false):zcv h m g=(h,false):=by unfold zcv;rw[a];rfl
def zkz {h:ad}{m g:Int}(a:zbZ h m g=true):zcv h m g=zVm h m g (gOf h m g) (zbe<|gOf h m g):=by unfold zcv;rw[a];rfl
def zmY {a b:Bool}(h:(cond a b false)=true):a=true/\b=true:=by cases a;{cases h};{exact⟨rfl,h⟩}
def zjr {a b:Bool}(c:a=true)(d:b=true):(cond a b false)=true:=by rw[c];exact d
def zYm {h:ad}{m:Int}{x:ah}{w:Int}(b:ine w 6=true)(a:ieq (zzE (ix h.aa m mZ).aq x.Ctl.aq<|zyH w) 2=true)(c:ilt (ix h.aa m mZ).Own 1000000000=true):zhg h m x w={h with aa:=up h.aa m {ix h.aa m mZ with Own:=zK .i64 (ix h.aa m mZ).Own 1}}:=by unfold zhg owned;rw[b,a,c];rfl
def zYk {h:ad}{m:Int}{x:ah}{w:Int}(a:ieq (zzE (ix h.aa m mZ).aq x.Ctl.aq<|zyH w) 2=false):zhg h m x w=h:=by unfold zhg;rw[a];cases ine w 6<;>rfl
def zYl {h:ad}{m:Int}{x:ah}{w:Int}(a:ilt (ix h.aa m mZ).Own 1000000000=false):zhg h m x w=h:=by unfold zhg owned;rw[a];cases (cond (ine w 6) (ieq (zzE (ix h.aa m mZ).aq x.Ctl.aq<|zyH w) 2) false)<;>rfl
def z9I {h:ad}{m:Int}{x:ah}:zhg h m x 6=h:=rfl
def zoo {h a:ad}{m g:Int}{x:ah}{w:Int}(e:zhg h m x w=a):zwA h m g x w=zlV (zhf a m x w) m g (zkB x x.Ctl.aq w):=by unfold zwA;rw[e]
def z5R (x:ah):ieq (zbe x) 0=true\/ieq (zbe x) 1=true\/ieq (zbe x) 2=true\/ieq (zbe x) 3=true\/ieq (zbe x) 4=true\/ieq (zbe x) 5=true\/ieq (zbe x) 6=true\/ieq (zbe x) 7=true:=by cases a:ieq (zbe x) 0;{cases b:ieq (zbe x) 1;{cases c:ieq (zbe x) 2;{cases d:ieq (zbe x) 3;{cases e:ieq (zbe x) 4;{cases f:ieq (zbe x) 5;{cases g:ieq (zbe x) 6;{exact .inr (.inr<|.inr<|.inr<|.inr<|.inr<|.inr<|zbbi x a b c d e f g)};{exact .inr (.inr<|.inr<|.inr<|.inr<|.inr (.inl rfl))}};{exact .inr (.inr<|.inr<|.inr<|.inr (.inl rfl))}};{exact .inr (.inr<|.inr<|.inr (.inl rfl))}};{exact .inr (.inr<|.inr (.inl rfl))}};{exact .inr (.inr (.inl rfl))}};{exact .inr (.inl rfl)}};{exact .inl rfl}
abbrev zBe (x:ah):Bool:=bif zbO x then ieq (zbe x) 0 else false
def zpp:LW
 |[.agg [.s .ins c,.i .i64 d,.i .i64 e,.s .slot f,.s .slot g,.i .i64 h,.i .i64 j,.b k,.i .i64 l,.i .i64 m,.i .i64 n,.b o,.i .i64 p,.b q,.s .int r]]=>some (zBe (⟨c,d,e,f,g,⟨h,j,k⟩,l,⟨m,n,o,p⟩,q,r⟩:ah),[.one<|.i .i64 0])
 |_=>none
def zET:vR 259 zpp:=by refine⟨zco.1,λw b g j a h=>?_⟩;unfold zpp at h;split at h;{obtain⟨f,rfl⟩:=zeK h;obtain⟨d,e⟩:=zmY f;exact zco.2 w _ g _ a (congr (congrArg (λc v=>some (c,[AV.one<|CV.i .i64 v])) d) (qF e))};{cases h}
def z8p:zW:=[(259,zpp)]++znD
def zYP:zL z8p:=zh zET zi5
@[simp] abbrev zwj (h:ad)(m g:Int):Bool:=bif zdk h m g then ieq (zbe<|gOf h m g) 0 else false
def zFk:Run:=rF3 dH dI dI λb c d=>(zwj b c d,[aH<|zcL b c d,aB<|zcM b c d])
def zu7 (N:Nat)(d:ad)(b c:Int):OA:=
 let a:=zo d;let e:=(ix a.aa b zi).ac; (oN (zby d)<|oN (zdk a b c)<|cond (nB<|zjS a b c) (some [aH a,aB false])<|oN (inb b<|ln a.aa)<|oN (inb c<|ln e)<|oN (zBe<|ix e c zD)<|some [aH a,aB false])
abbrev zBf (x:ah):Bool:=bif zbO x then ieq (zbe x) 1 else false
def zpq:LW
 |[.agg [.s .ins c,.i .i64 d,.i .i64 e,.s .slot f,.s .slot g,.i .i64 h,.i .i64 j,.b k,.i .i64 l,.i .i64 m,.i .i64 n,.b o,.i .i64 p,.b q,.s .int r]]=>some (zBf (⟨c,d,e,f,g,⟨h,j,k⟩,l,⟨m,n,o,p⟩,q,r⟩:ah),[.one<|.i .i64 1])
 |_=>none
def zEU:vR 259 zpq:=by refine⟨zco.1,λw b g j a h=>?_⟩;unfold zpq at h;split at h;{obtain⟨f,rfl⟩:=zeK h;obtain⟨d,e⟩:=zmY f;exact zco.2 w _ g _ a (congr (congrArg (λc v=>some (c,[AV.one<|CV.i .i64 v])) d) (qF e))};{cases h}
def z8q:zW:=[(259,zpq)]++znD
def zYQ:zL z8q:=zh zEU zi5
@[simp] abbrev zwk (h:ad)(m g:Int):Bool:=bif zdk h m g then ieq (zbe<|gOf h m g) 1 else false
def zFl:Run:=rF3 dH dI dI λb c d=>(zwk b c d,[aH<|zcL b c d,aB<|zcM b c d])
def zu8 (N:Nat)(f:ad)(b c:Int):OA:=
 let a:=zo f;let d:=ix a.aa b zi;let e:=ix d.ac c zD; (oN (zby f)<|oN (zdk a b c)<|cond (nB<|zjS a b c) (some [aH a,aB false])<|oN (inb b<|ln a.aa)<|oN (inb c<|ln d.ac)<|oN (zBf e)<|oN (inb b<|ln a.aa)<|oN (zbm e)<|oN (inb c<|ln d.ac)<|p0 (up a.aa b ({d with ac:=(up d.ac c<|zkO e)}:Mon)) λg=>some [aH ({a with aa:=g}:ad),aB true])
abbrev zBg (x:ah):Bool:=bif zbO x then ieq (zbe x) 2 else false
def zpr:LW
 |[.agg [.s .ins c,.i .i64 d,.i .i64 e,.s .slot f,.s .slot g,.i .i64 h,.i .i64 j,.b k,.i .i64 l,.i .i64 m,.i .i64 n,.b o,.i .i64 p,.b q,.s .int r]]=>some (zBg (⟨c,d,e,f,g,⟨h,j,k⟩,l,⟨m,n,o,p⟩,q,r⟩:ah),[.one<|.i .i64 2])
 |_=>none
def zEV:vR 259 zpr:=by refine⟨zco.1,λw b g j a h=>?_⟩;unfold zpr at h;split at h;{obtain⟨f,rfl⟩:=zeK h;obtain⟨d,e⟩:=zmY f;exact zco.2 w _ g _ a (congr (congrArg (λc v=>some (c,[AV.one<|CV.i .i64 v])) d) (qF e))};{cases h}
def z8r:zW:=[(259,zpr)]++znD
def zYR:zL z8r:=zh zEV zi5
@[simp] abbrev zwl (h:ad)(m g:Int):Bool:=bif zdk h m g then ieq (zbe<|gOf h m g) 2 else false
def zFm:Run:=rF3 dH dI dI λb c d=>(zwl b c d,[aH<|zcL b c d,aB<|zcM b c d])
def zu9 (N:Nat)(f:ad)(b c:Int):OA:=
 let a:=zo f;let d:=ix a.aa b zi;let e:=ix d.ac c zD; (oN (zby f)<|oN (zdk a b c)<|cond (nB<|zjS a b c) (some [aH a,aB false])<|oN (inb b<|ln a.aa)<|oN (inb c<|ln d.ac)<|oN (zBg e)<|oN (inb b<|ln a.aa)<|oN (zbm e)<|oN (inb c<|ln d.ac)<|p0 (up a.aa b ({d with ac:=(up d.ac c<|zsp e)}:Mon)) λg=>some [aH ({a with aa:=g}:ad),aB true])
abbrev zBh (x:ah):Bool:=bif zbO x then ieq (zbe x) 3 else false
def zps:LW
 |[.agg [.s .ins c,.i .i64 d,.i .i64 e,.s .slot f,.s .slot g,.i .i64 h,.i .i64 j,.b k,.i .i64 l,.i .i64 m,.i .i64 n,.b o,.i .i64 p,.b q,.s .int r]]=>some (zBh (⟨c,d,e,f,g,⟨h,j,k⟩,l,⟨m,n,o,p⟩,q,r⟩:ah),[.one<|.i .i64 3])
 |_=>none
def zEW:vR 259 zps:=by refine⟨zco.1,λw b g j a h=>?_⟩;unfold zps at h;split at h;{obtain⟨f,rfl⟩:=zeK h;obtain⟨d,e⟩:=zmY f;exact zco.2 w _ g _ a (congr (congrArg (λc v=>some (c,[AV.one<|CV.i .i64 v])) d) (qF e))};{cases h}
def z8s:zW:=[(259,zps)]++znD
def zYS:zL z8s:=zh zEW zi5
@[simp] abbrev zwm (h:ad)(m g:Int):Bool:=bif zdk h m g then ieq (zbe<|gOf h m g) 3 else false
def zFn:Run:=rF3 dH dI dI λb c d=>(zwm b c d,[aH<|zcL b c d,aB<|zcM b c d])
def zva (N:Nat)(m:ad)(a b:Int):OA:=
 let c:=zo m;let n:=(ix c.aa a zi).ac;let h:=ix n b zD;let f:=zj1 h;let g:=zc3 f;let l:=zld c c.ao a b g (zfZ false) false;let d:=zfJ c c.ao a b g (zfZ false) false;let e:=ix d.aa a zi;let j:=ix e.ac b zD;let i:=({h with aw:=j.aw,az:=j.az,av:=j.av,aC:=j.aC}:ah); (oN (zby m)<|oN (zdk c a b)<|cond (nB<|zjS c a b) (some [aH c,aB false])<|oN (inb a<|ln c.aa)<|oN (inb b<|ln n)<|oN (zBh h)<|oN (zbO h)<|oN (zdy f)<|oN (ztt false)<|oN (zle c c.ao a b g (zfZ false) false)<|cond (nB<|zhP c c.ao a b g (zfZ false) false) (oN (inb a<|ln d.aa)<|oN (zdy f)<|oN (zkM g false)<|oN (zeQ i<|zfE g false)<|oN (inb b<|ln e.ac)<|p0 (up d.aa a ({e with ac:=(up e.ac b<|zd2 i<|zfE g false)}:Mon)) λk=>some [aH ({d with aa:=k}:ad),aB true])<|oN (inb a<|ln d.aa)<|oN (zdy f)<|oN (ziX d.ag l<|zeW f)<|oN (zzN i<|zoc d.ag l<|zeW f)<|oN (inb b<|ln e.ac)<|p0 (up d.aa a ({e with ac:=(up e.ac b<|zuS i<|zoc d.ag l<|zeW f)}:Mon)) λk=>some [aH ({d with aa:=k}:ad),aB true])
abbrev zBi (x:ah):Bool:=bif zbO x then ieq (zbe x) 4 else false
def zpt:LW
 |[.agg [.s .ins c,.i .i64 d,.i .i64 e,.s .slot f,.s .slot g,.i .i64 h,.i .i64 j,.b k,.i .i64 l,.i .i64 m,.i .i64 n,.b o,.i .i64 p,.b q,.s .int r]]=>some (zBi (⟨c,d,e,f,g,⟨h,j,k⟩,l,⟨m,n,o,p⟩,q,r⟩:ah),[.one<|.i .i64 4])
 |_=>none
def zEX:vR 259 zpt:=by refine⟨zco.1,λw b g j a h=>?_⟩;unfold zpt at h;split at h;{obtain⟨f,rfl⟩:=zeK h;obtain⟨d,e⟩:=zmY f;exact zco.2 w _ g _ a (congr (congrArg (λc v=>some (c,[AV.one<|CV.i .i64 v])) d) (qF e))};{cases h}
def z8t:zW:=[(259,zpt)]++znD
def zYT:zL z8t:=zh zEX zi5
@[simp] abbrev zwn (h:ad)(m g:Int):Bool:=bif zdk h m g then ieq (zbe<|gOf h m g) 4 else false
def zFo:Run:=rF3 dH dI dI λb c d=>(zwn b c d,[aH<|zcL b c d,aB<|zcM b c d])
def zvb (N:Nat)(l:ad)(a b:Int):OA:=
 let c:=zo l;let n:=(ix c.aa a zi).ac;let g:=ix n b zD;let h:=zj1 g;let f:=zc3 h;let m:=zld c c.ao a b f (zfZ true) false;let d:=zfJ c c.ao a b f (zfZ true) false;let e:=ix d.aa a zi;let j:=ix e.ac b zD;let i:=({g with aw:=j.aw,az:=j.az,av:=j.av,aC:=j.aC}:ah); (oN (zby l)<|oN (zdk c a b)<|cond (nB<|zjS c a b) (some [aH c,aB false])<|oN (inb a<|ln c.aa)<|oN (inb b<|ln n)<|oN (zBi g)<|oN (zbO g)<|oN (zdy h)<|oN (ztt true)<|oN (zle c c.ao a b f (zfZ true) false)<|cond (nB<|zhP c c.ao a b f (zfZ true) false) (oN (inb a<|ln d.aa)<|oN (zdy h)<|oN (zkM f true)<|oN (zeQ i<|zfE f true)<|oN (inb b<|ln e.ac)<|p0 (up d.aa a ({e with ac:=(up e.ac b<|zd2 i<|zfE f true)}:Mon)) λk=>some [aH ({d with aa:=k}:ad),aB true])<|oN (zdy h)<|oN (zl5 d.ag m (zeW h) g.A)<|oN (inb a<|ln d.aa)<|oN (zbm i)<|oN (inb b<|ln e.ac)<|p0 (up d.aa a ({e with ac:=(up e.ac b<|ze8 i)}:Mon)) λk=>some [aH ({d with ag:=(zkp d.ag m (zeW h) g.A),aa:=k}:ad),aB true])
abbrev zBj (x:ah):Bool:=bif zbO x then ieq (zbe x) 5 else false
def zpu:LW
 |[.agg [.s .ins c,.i .i64 d,.i .i64 e,.s .slot f,.s .slot g,.i .i64 h,.i .i64 j,.b k,.i .i64 l,.i .i64 m,.i .i64 n,.b o,.i .i64 p,.b q,.s .int r]]=>some (zBj (⟨c,d,e,f,g,⟨h,j,k⟩,l,⟨m,n,o,p⟩,q,r⟩:ah),[.one<|.i .i64 5])
 |_=>none
def zEY:vR 259 zpu:=by refine⟨zco.1,λw b g j a h=>?_⟩;unfold zpu at h;split at h;{obtain⟨f,rfl⟩:=zeK h;obtain⟨d,e⟩:=zmY f;exact zco.2 w _ g _ a (congr (congrArg (λc v=>some (c,[AV.one<|CV.i .i64 v])) d) (qF e))};{cases h}
def z8u:zW:=[(259,zpu)]++znD
def zYU:zL z8u:=zh zEY zi5
@[simp] abbrev zwo (h:ad)(m g:Int):Bool:=bif zdk h m g then ieq (zbe<|gOf h m g) 5 else false
def zFp:Run:=rF3 dH dI dI λb c d=>(zwo b c d,[aH<|zcL b c d,aB<|zcM b c d])
def zvc (N:Nat)(x:ad)(a e:Int):OA:=
 let d:=zo x;let f:=inb a<|ln d.aa;let g:=ix d.aa a zi;let j:=inb e<|ln g.ac;let c:=ix g.ac e zD;let w:=ap g.Outs [(zgu c.aw c.Pc).X];let s:=up d.aa a ({g with Outs:=w}:Mon);let h:=c.Ctl.aq;let v:=up d.aa a ({g with ac:=(up g.ac e<|zcl c h 5)}:Mon); (oN (zby x)<|oN (zdk d a e)<|cond (nB<|zjS d a e) (some [aH d,aB false])<|oN f<|oN j<|oN (zBj c)<|oN f<|oN (zrG g.aq h 1)<|cond (ieq (zoC g.aq h 1) 2) (oN f<|cond (ilt g.Own 1000000000) (oN f<|oN f<|p0 (up d.aa a ({g with Own:=(zK .i64 g.Own 1)}:Mon)) (λb=>let k:=inb a<|ln b;let l:=ix b a zi;let q:=ix l.ac e zD;let t:=ap l.Outs [(zgu q.aw c.Pc).X];let u:=({c with aw:=q.aw,az:=q.az,av:=q.av,aC:=q.aC}:ah);let r:=up b a ({l with ac:=(up l.ac e<|zcl u h 5)}:Mon); (oN (zer u h 5)<|cond (zdF u h 5) (oN k<|cond (ilt (ln l.Outs) 40) (oN k<|oN (zgf q.aw c.Pc)<|oN (few<|ln t)<|oN k<|oN (cond (ieq a a) true false)<|p0 (up b a ({l with Outs:=t}:Mon)) (λi=>let m:=ix i a zi; (oN (inb a<|ln i)<|oN (inb e<|ln m.ac)<|p0 (up i a ({m with ac:=(up m.ac e<|zcl u h 5)}:Mon)) λy=>some [aH ({d with aa:=y}:ad),aB true])))<|oN k<|oN (inb e<|ln l.ac)<|p0 r λi=>some [aH ({d with aa:=i}:ad),aB true])<|oN k<|oN (inb e<|ln l.ac)<|p0 r λi=>some [aH ({d with aa:=i}:ad),aB true])))<|oN (zer c h 5)<|cond (zdF c h 5) (oN f<|cond (ilt (ln g.Outs) 40) (oN f<|oN (zgf c.aw c.Pc)<|oN (few<|ln w)<|oN f<|oN (cond (ieq a a) true false)<|p0 s (λb=>let n:=ix b a zi; (oN (inb a<|ln b)<|oN (inb e<|ln n.ac)<|p0 (up b a ({n with ac:=(up n.ac e<|zcl c h 5)}:Mon)) λi=>some [aH ({d with aa:=i}:ad),aB true])))<|oN f<|oN j<|p0 v λb=>some [aH ({d with aa:=b}:ad),aB true])<|oN f<|oN j<|p0 v λb=>some [aH ({d with aa:=b}:ad),aB true])<|oN (zer c h 5)<|cond (zdF c h 5) (oN f<|cond (ilt (ln g.Outs) 40) (oN f<|oN (zgf c.aw c.Pc)<|oN (few<|ln w)<|oN f<|oN (cond (ieq a a) true false)<|p0 s (λb=>let p:=ix b a zi; (oN (inb a<|ln b)<|oN (inb e<|ln p.ac)<|p0 (up b a ({p with ac:=(up p.ac e<|zcl c h 5)}:Mon)) λi=>some [aH ({d with aa:=i}:ad),aB true])))<|oN f<|oN j<|p0 v λb=>some [aH ({d with aa:=b}:ad),aB true])<|oN f<|oN j<|p0 v λb=>some [aH ({d with aa:=b}:ad),aB true])
abbrev zBk (x:ah):Bool:=bif zbO x then ieq (zbe x) 6 else false
def zpv:LW
 |[.agg [.s .ins c,.i .i64 d,.i .i64 e,.s .slot f,.s .slot g,.i .i64 h,.i .i64 j,.b k,.i .i64 l,.i .i64 m,.i .i64 n,.b o,.i .i64 p,.b q,.s .int r]]=>some (zBk (⟨c,d,e,f,g,⟨h,j,k⟩,l,⟨m,n,o,p⟩,q,r⟩:ah),[.one<|.i .i64 6])
 |_=>none
def zEZ:vR 259 zpv:=by refine⟨zco.1,λw b g j a h=>?_⟩;unfold zpv at h;split at h;{obtain⟨f,rfl⟩:=zeK h;obtain⟨d,e⟩:=zmY f;exact zco.2 w _ g _ a (congr (congrArg (λc v=>some (c,[AV.one<|CV.i .i64 v])) d) (qF e))};{cases h}
def z8v:zW:=[(259,zpv)]++znD
def zYV:zL z8v:=zh zEZ zi5
@[simp] abbrev zwp (h:ad)(m g:Int):Bool:=bif zdk h m g then ieq (zbe<|gOf h m g) 6 else false
def zFq:Run:=rF3 dH dI dI λb c d=>(zwp b c d,[aH<|zcL b c d,aB<|zcM b c d])
def zvd (N:Nat)(i:ad)(c d:Int):OA:=
 let a:=zo i;let g:=inb c<|ln a.aa;let e:=ix a.aa c zi;let h:=inb d<|ln e.ac;let b:=ix e.ac d zD;let j:=up a.aa c ({e with ac:=(up e.ac d<|zcl b b.Ctl.aq 6)}:Mon); (oN (zby i)<|oN (zdk a c d)<|cond (nB<|zjS a c d) (some [aH a,aB false])<|oN g<|oN h<|oN (zBk b)<|oN (zer b b.Ctl.aq 6)<|cond (zdF b b.Ctl.aq 6) (oN g<|oN h<|p0 j λf=>some [aH ({a with aa:=f}:ad),aB true])<|oN g<|oN h<|p0 j λf=>some [aH ({a with aa:=f}:ad),aB true])
abbrev zBl (x:ah):Bool:=bif zbO x then ieq (zbe x) 7 else false
def zpw:LW
 |[.agg [.s .ins c,.i .i64 d,.i .i64 e,.s .slot f,.s .slot g,.i .i64 h,.i .i64 j,.b k,.i .i64 l,.i .i64 m,.i .i64 n,.b o,.i .i64 p,.b q,.s .int r]]=>some (zBl (⟨c,d,e,f,g,⟨h,j,k⟩,l,⟨m,n,o,p⟩,q,r⟩:ah),[.one<|.i .i64 7])
 |_=>none
def zE0:vR 259 zpw:=by refine⟨zco.1,λw b g j a h=>?_⟩;unfold zpw at h;split at h;{obtain⟨f,rfl⟩:=zeK h;obtain⟨d,e⟩:=zmY f;exact zco.2 w _ g _ a (congr (congrArg (λc v=>some (c,[AV.one<|CV.i .i64 v])) d) (qF e))};{cases h}
def z8w:zW:=[(259,zpw)]++znD
def zYW:zL z8w:=zh zE0 zi5
@[simp] abbrev zwq (h:ad)(m g:Int):Bool:=bif zdk h m g then ieq (zbe<|gOf h m g) 7 else false
def zFr:Run:=rF3 dH dI dI λb c d=>(zwq b c d,[aH<|zcL b c d,aB<|zcM b c d])
def zve (N:Nat)(q:ad)(c e:Int):OA:=
 let a:=zo q;let g:=inb c<|ln a.aa;let f:=ix a.aa c zi;let k:=inb e<|ln f.ac;let h:=ix f.ac e zD;let d:=h.Ctl.aq;let l:=up a.aa c ({f with ac:=(up f.ac e<|zcl h d 7)}:Mon); (oN (zby q)<|oN (zdk a c e)<|cond (nB<|zjS a c e) (some [aH a,aB false])<|oN g<|oN k<|oN (zBl h)<|oN g<|oN (zrG f.aq d 2)<|cond (ieq (zoC f.aq d 2) 2) (oN g<|cond (ilt f.Own 1000000000) (oN g<|oN g<|p0 (up a.aa c ({f with Own:=(zK .i64 f.Own 1)}:Mon)) (λb=>let j:=ix b c zi;let m:=ix j.ac e zD;let p:=({h with aw:=m.aw,az:=m.az,av:=m.av,aC:=m.aC}:ah);let i:=up b c ({j with ac:=(up j.ac e<|zcl p d 7)}:Mon); (oN (zer p d 7)<|cond (zdF p d 7) (oN (inb c<|ln b)<|oN (inb e<|ln j.ac)<|p0 i λn=>some [aH ({a with aa:=n}:ad),aB true])<|oN (inb c<|ln b)<|oN (inb e<|ln j.ac)<|p0 i λn=>some [aH ({a with aa:=n}:ad),aB true])))<|oN (zer h d 7)<|cond (zdF h d 7) (oN g<|oN k<|p0 l λb=>some [aH ({a with aa:=b}:ad),aB true])<|oN g<|oN k<|p0 l λb=>some [aH ({a with aa:=b}:ad),aB true])<|oN (zer h d 7)<|cond (zdF h d 7) (oN g<|oN k<|p0 l λb=>some [aH ({a with aa:=b}:ad),aB true])<|oN g<|oN k<|p0 l λb=>some [aH ({a with aa:=b}:ad),aB true])
def zFa (a:ad)(b c:Int)(e:zwj a b c=true):∃N,zu7 N a b c=some [aH<|zcL a b c,aB<|zcM a b c]:=by
 obtain⟨e,i⟩:=zmY e;have f:=(zbc a).1 (zS.1 e);refine⟨0,?_⟩;show _=some (zgq<|zcv a b c);unfold zu7 oN nB;conv=>zeta
 refine j0 (zbL<|(zbc _).2 f) (j0 (zbL<|(zbc _).2 f)<|brN (λd=>?_) λd=>?_);{rw [zmX d];rfl};obtain⟨k,g,h⟩:=zdN d;have l:=zqc f g h;have j:zbe (gOf a b c)=0:=qF i;rw[zkz d,j];refine j0 (zI g) (j0 (zI h)<|j0 (zjr rfl i) ?_);rfl
def zqj:vR 108 zFk:=kF3 zYP zC zb6 zjW (zx []) zFa
def zFb (a:ad)(b c:Int)(g:zwk a b c=true):∃N,zu8 N a b c=some [aH<|zcL a b c,aB<|zcM a b c]:=by
 obtain⟨g,i⟩:=zmY g;have h:=(zbc a).1 (zS.1 g);refine⟨0,?_⟩;show _=some (zgq<|zcv a b c);unfold zu8 oN nB;conv=>zeta
 refine j0 (zbL<|(zbc _).2 h) (j0 (zbL<|(zbc _).2 h)<|brN (λd=>?_) λd=>?_);{rw [zmX d];rfl};obtain⟨l,e,f⟩:=zdN d;have k:=zqc h e f;have j:zbe (gOf a b c)=1:=qF i;rw[zkz d,j];refine j0 (zI e) (j0 (zI f)<|j0 (zjr rfl i) ?_);show _=some (zgq (zlV a b c<|interrupted<|gOf a b c,true));exact j0 (zI e) (j0 (zbL k) (j0 (zI f) rfl))
def zBv:vR 108 zFl:=kF3 zYQ zC zb6 zjW (zx []) zFb
def zFc (a:ad)(b c:Int)(g:zwl a b c=true):∃N,zu9 N a b c=some [aH<|zcL a b c,aB<|zcM a b c]:=by
 obtain⟨g,i⟩:=zmY g;have h:=(zbc a).1 (zS.1 g);refine⟨0,?_⟩;show _=some (zgq<|zcv a b c);unfold zu9 oN nB;conv=>zeta
 refine j0 (zbL<|(zbc _).2 h) (j0 (zbL<|(zbc _).2 h)<|brN (λd=>?_) λd=>?_);{rw [zmX d];rfl};obtain⟨l,e,f⟩:=zdN d;have k:=zqc h e f;have j:zbe (gOf a b c)=2:=qF i;rw[zkz d,j];refine j0 (zI e) (j0 (zI f)<|j0 (zjr rfl i) ?_);show _=some (zgq (zlV a b c<|plainly<|gOf a b c,true));exact j0 (zI e) (j0 (zbL k) (j0 (zI f) rfl))
def zBw:vR 108 zFm:=kF3 zYR zC zb6 zjW (zx []) zFc
def zFd (a:ad)(c d:Int)(j:zwm a c d=true):∃N,zva N a c d=some [aH<|zcL a c d,aB<|zcM a c d]:=by
 obtain⟨j,m⟩:=zmY j;have f:=(zbc a).1 (zS.1 j);refine⟨0,?_⟩;show _=some (zgq<|zcv a c d);unfold zva oN nB;conv=>zeta
 refine j0 (zbL<|(zbc _).2 f) (j0 (zbL<|(zbc _).2 f)<|brN (λe=>?_) λe=>?_);{rw [zmX e];rfl};obtain⟨r,g,i⟩:=zdN e;have n:=zqc f g i;have q:zbe (gOf a c d)=3:=qF m;rw[zkz e,q];refine j0 (zI g) (j0 (zI i)<|j0 (zjr rfl m) ?_);show _=some (zgq (zkA (znG a c d (gOf a c d) false) c d (gOf a c d) false,true));have k:=zxU (b:=a.ao) (page:=zbk (E0<|gOf a c d)) (need:=zcd false) (io:=false) f e;have F:=zEh k g i;have p:(ix (ix (zfJ (zo a) (zo a).ao c d (zc3<|zj1<|ix (ix (zo a).aa c zi).ac d zD) (zfZ false) false).aa c zi).ac d zD)=(ix (ix (zo a).aa c zi).ac d zD):=congrArg (λl=>ix l d gZ) (zJ9 k.gs c);rw[p];unfold zkA;refine j0 rfl (j0 rfl (j0 rfl (j0 (zbL<|(zbc _).2 f)<|brN (λh=>?_) λh=>?_)));{rw [show (znG a c d (gOf a c d) false).2.2=false from h];exact j0 (zI F.hm) (j0 rfl (j0 rfl (j0 (zbL n) (j0 (zI F.hg) rfl))))};{rw [show (znG a c d (gOf a c d) false).2.2=true from h];exact j0 (zI F.hm) (j0 rfl (j0 rfl (j0 (zbL n) (j0 (zI F.hg) rfl))))}
def zBx:vR 108 zFn:=kF3 zYS zC zb6 zjW (zx []) zFd
def zFe (a:ad)(c d:Int)(j:zwn a c d=true):∃N,zvb N a c d=some [aH<|zcL a c d,aB<|zcM a c d]:=by
 obtain⟨j,m⟩:=zmY j;have f:=(zbc a).1 (zS.1 j);refine⟨0,?_⟩;show _=some (zgq<|zcv a c d);unfold zvb oN nB;conv=>zeta
 refine j0 (zbL<|(zbc _).2 f) (j0 (zbL<|(zbc _).2 f)<|brN (λe=>?_) λe=>?_);{rw [zmX e];rfl};obtain⟨r,g,i⟩:=zdN e;have n:=zqc f g i;have q:zbe (gOf a c d)=4:=qF m;rw[zkz e,q];refine j0 (zI g) (j0 (zI i)<|j0 (zjr rfl m) ?_);show _=some (zgq (zkA (znG a c d (gOf a c d) true) c d (gOf a c d) true,true));have k:=zxU (b:=a.ao) (page:=zbk (E0<|gOf a c d)) (need:=zcd true) (io:=false) f e;have F:=zEh k g i;have p:(ix (ix (zfJ (zo a) (zo a).ao c d (zc3<|zj1<|ix (ix (zo a).aa c zi).ac d zD) (zfZ true) false).aa c zi).ac d zD)=(ix (ix (zo a).aa c zi).ac d zD):=congrArg (λl=>ix l d gZ) (zJ9 k.gs c);rw[p];unfold zkA;refine j0 rfl (j0 rfl (j0 rfl (j0 (zbL<|(zbc _).2 f)<|brN (λh=>?_) λh=>?_)));{rw [show (znG a c d (gOf a c d) true).2.2=false from h];exact j0 (zI F.hm) (j0 rfl (j0 rfl (j0 (zbL n) (j0 (zI F.hg) rfl))))};{rw [show (znG a c d (gOf a c d) true).2.2=true from h];exact j0 rfl (j0 (zbL k.shape.1.1)<|j0 (zI F.hm)<|j0 (zbL n) (j0 (zI F.hg) rfl))}
def zBy:vR 108 zFo:=kF3 zYT zC zb6 zjW (zx []) zFe
def z7l {c:ad}{a d:Int}(k:SmG (gOf c a d))(f:i0 a (ln c.aa)=true)(i:i0 d (ln (ix c.aa a mZ).ac)=true) :
 (cond (zer (ix (ix (zo c).aa a zi).ac d zD) (ix (ix (zo c).aa a zi).ac d zD).Ctl.aq 5) (cond (zdF (ix (ix (zo c).aa a zi).ac d zD) (ix (ix (zo c).aa a zi).ac d zD).Ctl.aq 5) (cond (inb a<|ln (zo c).aa) (cond (ilt (ln (ix (zo c).aa a zi).Outs) 40) (cond (inb a<|ln (zo c).aa) (cond (zgf (ix (ix (zo c).aa a zi).ac d zD).aw (ix (ix (zo c).aa a zi).ac d zD).Pc) (cond (few<|ln<|ap (ix (zo c).aa a zi).Outs [(zgu (ix (ix (zo c).aa a zi).ac d zD).aw (ix (ix (zo c).aa a zi).ac d zD).Pc).X]) (cond (inb a<|ln (zo c).aa) (cond (cond (ieq a a) true false) (p0 (up (zo c).aa a ({ (ix (zo c).aa a zi) with Outs:=(ap (ix (zo c).aa a zi).Outs [(zgu (ix (ix (zo c).aa a zi).ac d zD).aw (ix (ix (zo c).aa a zi).ac d zD).Pc).X])}:Mon)) λe=>cond (inb a<|ln e) (cond (inb d<|ln (ix e a zi).ac) (p0 (up e a ({ (ix e a zi) with ac:=(up (ix e a zi).ac d<|zcl (ix (ix (zo c).aa a zi).ac d zD) (ix (ix (zo c).aa a zi).ac d zD).Ctl.aq 5)}:Mon)) λl=>some [.agg<|zbo ({ (zo c) with aa:=l}:ad),.one<|.b true]) none) none) none) none) none) none) none)<|cond (inb a<|ln (zo c).aa) (cond (inb d<|ln (ix (zo c).aa a zi).ac) (p0 (up (zo c).aa a ({ (ix (zo c).aa a zi) with ac:=(up (ix (zo c).aa a zi).ac d<|zcl (ix (ix (zo c).aa a zi).ac d zD) (ix (ix (zo c).aa a zi).ac d zD).Ctl.aq 5)}:Mon)) λe=>some [.agg<|zbo ({ (zo c) with aa:=e}:ad),.one<|.b true]) none) none) none)<|cond (inb a<|ln (zo c).aa) (cond (inb d<|ln (ix (zo c).aa a zi).ac) (p0 (up (zo c).aa a ({ (ix (zo c).aa a zi) with ac:=(up (ix (zo c).aa a zi).ac d<|zcl (ix (ix (zo c).aa a zi).ac d zD) (ix (ix (zo c).aa a zi).ac d zD).Ctl.aq 5)}:Mon)) λe=>some [.agg<|zbo ({ (zo c) with aa:=e}:ad),.one<|.b true]) none) none) none)=some (zgq (zlV (zhf c a (gOf c a d) 5) a d<|zkB (gOf c a d) (gOf c a d).Ctl.aq 5,true)):=by
 refine j0 (zbL k) (br (λj=>j0 (zI f) (br (λg=>?_) λg=>?_)) λj=>?_)
 .rw [zVu (h:=c) (m:=a) (x:=gOf c a d) (w:=5) j rfl g];refine j0 (zI f) (j0 rfl (j0 (z7k g)<|j0 (zI f)<|j0 (z1W _)<|shr<|j0 (zI<|zfb f) (j0 ?_ rfl)));rw[zLq f];exact zI i
 .rw [zQr (h:=c) (m:=a) (x:=gOf c a d) (w:=5) g];exact j0 (zI f) (j0 (zI i) rfl)
 .rw [z3p (h:=c) (m:=a) (x:=gOf c a d) (w:=5) j];exact j0 (zI f) (j0 (zI i) rfl)
def zbaX {f:ad}{d:List Mon}{a c:Int}(n:SmG (gOf f a c))(i:i0 a (ln d)=true)(k:i0 c (ln (ix d a mZ).ac)=true)(e:(ix (ix d a zi).ac c zD)=gOf f a c) :
 (cond (zer ({ (ix (ix (zo f).aa a zi).ac c zD) with aw:=(ix (ix d a zi).ac c zD).aw,az:=(ix (ix d a zi).ac c zD).az,av:=(ix (ix d a zi).ac c zD).av,aC:=(ix (ix d a zi).ac c zD).aC}:ah) (ix (ix (zo f).aa a zi).ac c zD).Ctl.aq 5) (cond (zdF ({ (ix (ix (zo f).aa a zi).ac c zD) with aw:=(ix (ix d a zi).ac c zD).aw,az:=(ix (ix d a zi).ac c zD).az,av:=(ix (ix d a zi).ac c zD).av,aC:=(ix (ix d a zi).ac c zD).aC}:ah) (ix (ix (zo f).aa a zi).ac c zD).Ctl.aq 5) (cond (inb a<|ln d) (cond (ilt (ln (ix d a zi).Outs) 40) (cond (inb a<|ln d) (cond (zgf (ix (ix d a zi).ac c zD).aw (ix (ix (zo f).aa a zi).ac c zD).Pc) (cond (few<|ln<|ap (ix d a zi).Outs [(zgu (ix (ix d a zi).ac c zD).aw (ix (ix (zo f).aa a zi).ac c zD).Pc).X]) (cond (inb a<|ln d) (cond (cond (ieq a a) true false) (p0 (up d a ({ (ix d a zi) with Outs:=(ap (ix d a zi).Outs [(zgu (ix (ix d a zi).ac c zD).aw (ix (ix (zo f).aa a zi).ac c zD).Pc).X])}:Mon)) λg=>cond (inb a<|ln g) (cond (inb c<|ln (ix g a zi).ac) (p0 (up g a ({ (ix g a zi) with ac:=(up (ix g a zi).ac c<|zcl ({ (ix (ix (zo f).aa a zi).ac c zD) with aw:=(ix (ix d a zi).ac c zD).aw,az:=(ix (ix d a zi).ac c zD).az,av:=(ix (ix d a zi).ac c zD).av,aC:=(ix (ix d a zi).ac c zD).aC}:ah) (ix (ix (zo f).aa a zi).ac c zD).Ctl.aq 5)}:Mon)) λp=>some [.agg<|zbo ({ (zo f) with aa:=p}:ad),.one<|.b true]) none) none) none) none) none) none) none)<|cond (inb a<|ln d) (cond (inb c<|ln (ix d a zi).ac) (p0 (up d a ({ (ix d a zi) with ac:=(up (ix d a zi).ac c<|zcl ({ (ix (ix (zo f).aa a zi).ac c zD) with aw:=(ix (ix d a zi).ac c zD).aw,az:=(ix (ix d a zi).ac c zD).az,av:=(ix (ix d a zi).ac c zD).av,aC:=(ix (ix d a zi).ac c zD).aC}:ah) (ix (ix (zo f).aa a zi).ac c zD).Ctl.aq 5)}:Mon)) λg=>some [.agg<|zbo ({ (zo f) with aa:=g}:ad),.one<|.b true]) none) none) none)<|cond (inb a<|ln d) (cond (inb c<|ln (ix d a zi).ac) (p0 (up d a ({ (ix d a zi) with ac:=(up (ix d a zi).ac c<|zcl ({ (ix (ix (zo f).aa a zi).ac c zD) with aw:=(ix (ix d a zi).ac c zD).aw,az:=(ix (ix d a zi).ac c zD).az,av:=(ix (ix d a zi).ac c zD).av,aC:=(ix (ix d a zi).ac c zD).aC}:ah) (ix (ix (zo f).aa a zi).ac c zD).Ctl.aq 5)}:Mon)) λg=>some [.agg<|zbo ({ (zo f) with aa:=g}:ad),.one<|.b true]) none) none) none)=some (zgq (zlV (zhf {f with aa:=d} a (gOf f a c) 5) a c<|zkB (gOf f a c) (gOf f a c).Ctl.aq 5,true)):=by
 rw[e];refine j0 (zbL n) (br (λl=>j0 (zI i) (br (λj=>?_) λj=>?_)) λl=>?_)
 .rw [zVu (h:={f with aa:=d}) (m:=a) (x:=gOf f a c) (w:=5) l rfl j];refine j0 (zI i) (j0 rfl (j0 (z7k j)<|j0 (zI i)<|j0 (z1W _)<|shr<|j0 (zI<|zfb (h:={f with aa:=d}) i) (j0 ?_ rfl)));rw[zLq (h:={f with aa:=d}) i];exact zI k
 .rw [zQr (h:={f with aa:=d}) (m:=a) (x:=gOf f a c) (w:=5) j];exact j0 (zI i) (j0 (zI k) rfl)
 .rw [z3p (h:={f with aa:=d}) (m:=a) (x:=gOf f a c) (w:=5) l];exact j0 (zI i) (j0 (zI k) rfl)
def zFf (b:ad)(a c:Int)(j:zwo b a c=true):∃N,zvc N b a c=some [aH<|zcL b a c,aB<|zcM b a c]:=by
 obtain⟨j,p⟩:=zmY j;have k:=(zbc b).1 (zS.1 j);refine⟨0,?_⟩;show _=some (zgq<|zcv b a c);unfold zvc oN nB;conv=>zeta
 refine j0 (zbL<|(zbc _).2 k) (j0 (zbL<|(zbc _).2 k)<|brN (λf=>?_) λf=>?_);{rw [zmX f];rfl};obtain⟨r,d,e⟩:=zdN f;have l:=zqc k d e;have q:zbe (gOf b a c)=5:=qF p;rw[zkz f,q];refine j0 (zI d) (j0 (zI e)<|j0 (zjr rfl p) ?_);show _=some (zgq (zwA b a c (gOf b a c) 5,true));refine j0 (zI d) (j0 rfl (br (λg=>j0 (zI d) (br (λi=>j0 (zI d) (j0 (zI d)<|shr ?_)) λi=>?_)) λg=>?_));{rw [zoo (zYm (h:=b) (m:=a) (x:=gOf b a c) (w:=5) rfl g i)];have n:=zLq d {ix b.aa a mZ with Own:=zK .i64 (ix b.aa a mZ).Own 1};refine zbaX l (zfb d) ?_ ?_;{show i0 c (ln (ix (up b.aa a _) a mZ).ac)=true;rw[n];exact e};{show ix (ix (up b.aa a _) a mZ).ac c gZ=_;rw[n];rfl}};{rw [zoo<|zYl (h:=b) (m:=a) (x:=gOf b a c) (w:=5) i];exact z7l l d e};{rw [zoo<|zYk (h:=b) (m:=a) (x:=gOf b a c) (w:=5) g];exact z7l l d e}
def zBz:vR 108 zFp:=kF3 zYU zC zb6 zjW (zx []) zFf
def zFg (a:ad)(b c:Int)(g:zwp a b c=true):∃N,zvd N a b c=some [aH<|zcL a b c,aB<|zcM a b c]:=by
 obtain⟨g,j⟩:=zmY g;have i:=(zbc a).1 (zS.1 g);refine⟨0,?_⟩;show _=some (zgq<|zcv a b c);unfold zvd oN nB;conv=>zeta
 refine j0 (zbL<|(zbc _).2 i) (j0 (zbL<|(zbc _).2 i)<|brN (λf=>?_) λf=>?_);{rw [zmX f];rfl};obtain⟨p,d,e⟩:=zdN f;have n:=zqc i d e;have l:zbe (gOf a b c)=6:=qF j;rw[zkz f,l];refine j0 (zI d) (j0 (zI e)<|j0 (zjr rfl j) ?_);show _=some (zgq (zwA a b c (gOf a b c) 6,true));rw[zoo<|z9I (h:=a) (m:=b) (x:=gOf a b c),zMn (w:=6) rfl];exact j0 (zbL n) (br (λk=>j0 (zI d) (j0 (zI e) rfl)) λk=>j0 (zI d) (j0 (zI e) rfl))
def zBA:vR 108 zFq:=kF3 zYV zC zb6 zjW (zx []) zFg
def z7m {a:ad}{c d:Int}(i:SmG (gOf a c d))(f:i0 c (ln a.aa)=true)(g:i0 d (ln (ix a.aa c mZ).ac)=true) :
 (cond (zer (ix (ix (zo a).aa c zi).ac d zD) (ix (ix (zo a).aa c zi).ac d zD).Ctl.aq 7) (cond (zdF (ix (ix (zo a).aa c zi).ac d zD) (ix (ix (zo a).aa c zi).ac d zD).Ctl.aq 7) (cond (inb c<|ln (zo a).aa) (cond (inb d<|ln (ix (zo a).aa c zi).ac) (p0 (up (zo a).aa c ({ (ix (zo a).aa c zi) with ac:=(up (ix (zo a).aa c zi).ac d<|zcl (ix (ix (zo a).aa c zi).ac d zD) (ix (ix (zo a).aa c zi).ac d zD).Ctl.aq 7)}:Mon)) λe=>some [.agg<|zbo ({ (zo a) with aa:=e}:ad),.one<|.b true]) none) none)<|cond (inb c<|ln (zo a).aa) (cond (inb d<|ln (ix (zo a).aa c zi).ac) (p0 (up (zo a).aa c ({ (ix (zo a).aa c zi) with ac:=(up (ix (zo a).aa c zi).ac d<|zcl (ix (ix (zo a).aa c zi).ac d zD) (ix (ix (zo a).aa c zi).ac d zD).Ctl.aq 7)}:Mon)) λe=>some [.agg<|zbo ({ (zo a) with aa:=e}:ad),.one<|.b true]) none) none) none)=some (zgq (zlV a c d<|zkB (gOf a c d) (gOf a c d).Ctl.aq 7,true)):=
 j0 (zbL i) (br (λh=>j0 (zI f) (j0 (zI g) rfl)) λh=>j0 (zI f) (j0 (zI g) rfl))
def zbaY {f:ad}{d:List Mon}{a c:Int}(k:SmG (gOf f a c))(h:i0 a (ln d)=true)(i:i0 c (ln (ix d a mZ).ac)=true)(e:(ix (ix d a zi).ac c zD)=gOf f a c) :
 (cond (zer ({ (ix (ix (zo f).aa a zi).ac c zD) with aw:=(ix (ix d a zi).ac c zD).aw,az:=(ix (ix d a zi).ac c zD).az,av:=(ix (ix d a zi).ac c zD).av,aC:=(ix (ix d a zi).ac c zD).aC}:ah) (ix (ix (zo f).aa a zi).ac c zD).Ctl.aq 7) (cond (zdF ({ (ix (ix (zo f).aa a zi).ac c zD) with aw:=(ix (ix d a zi).ac c zD).aw,az:=(ix (ix d a zi).ac c zD).az,av:=(ix (ix d a zi).ac c zD).av,aC:=(ix (ix d a zi).ac c zD).aC}:ah) (ix (ix (zo f).aa a zi).ac c zD).Ctl.aq 7) (cond (inb a<|ln d) (cond (inb c<|ln (ix d a zi).ac) (p0 (up d a ({ (ix d a zi) with ac:=(up (ix d a zi).ac c<|zcl ({ (ix (ix (zo f).aa a zi).ac c zD) with aw:=(ix (ix d a zi).ac c zD).aw,az:=(ix (ix d a zi).ac c zD).az,av:=(ix (ix d a zi).ac c zD).av,aC:=(ix (ix d a zi).ac c zD).aC}:ah) (ix (ix (zo f).aa a zi).ac c zD).Ctl.aq 7)}:Mon)) λg=>some [.agg<|zbo ({ (zo f) with aa:=g}:ad),.one<|.b true]) none) none)<|cond (inb a<|ln d) (cond (inb c<|ln (ix d a zi).ac) (p0 (up d a ({ (ix d a zi) with ac:=(up (ix d a zi).ac c<|zcl ({ (ix (ix (zo f).aa a zi).ac c zD) with aw:=(ix (ix d a zi).ac c zD).aw,az:=(ix (ix d a zi).ac c zD).az,av:=(ix (ix d a zi).ac c zD).av,aC:=(ix (ix d a zi).ac c zD).aC}:ah) (ix (ix (zo f).aa a zi).ac c zD).Ctl.aq 7)}:Mon)) λg=>some [.agg<|zbo ({ (zo f) with aa:=g}:ad),.one<|.b true]) none) none) none)=some (zgq (zlV {f with aa:=d} a c<|zkB (gOf f a c) (gOf f a c).Ctl.aq 7,true)):=by
 rw[e];exact j0 (zbL k) (br (λj=>j0 (zI h) (j0 (zI i) rfl)) λj=>j0 (zI h) (j0 (zI i) rfl))
def zFh (b:ad)(a c:Int)(j:zwq b a c=true):∃N,zve N b a c=some [aH<|zcL b a c,aB<|zcM b a c]:=by
 obtain⟨j,p⟩:=zmY j;have k:=(zbc b).1 (zS.1 j);refine⟨0,?_⟩;show _=some (zgq<|zcv b a c);unfold zve oN nB;conv=>zeta
 refine j0 (zbL<|(zbc _).2 k) (j0 (zbL<|(zbc _).2 k)<|brN (λf=>?_) λf=>?_);{rw [zmX f];rfl};obtain⟨r,d,e⟩:=zdN f;have l:=zqc k d e;have q:zbe (gOf b a c)=7:=qF p;rw[zkz f,q];refine j0 (zI d) (j0 (zI e)<|j0 (zjr rfl p) ?_);show _=some (zgq (zwA b a c (gOf b a c) 7,true));refine j0 (zI d) (j0 rfl (br (λg=>j0 (zI d) (br (λi=>j0 (zI d) (j0 (zI d)<|shr ?_)) λi=>?_)) λg=>?_));{rw [zoo (zYm (h:=b) (m:=a) (x:=gOf b a c) (w:=7) rfl g i),zMn (w:=7) rfl];have n:=zLq d {ix b.aa a mZ with Own:=zK .i64 (ix b.aa a mZ).Own 1};refine zbaY l (zfb d) ?_ ?_;{show i0 c (ln (ix (up b.aa a _) a mZ).ac)=true;rw[n];exact e};{show ix (ix (up b.aa a _) a mZ).ac c gZ=_;rw[n];rfl}};{rw [zoo<|zYl (h:=b) (m:=a) (x:=gOf b a c) (w:=7) i,zMn (w:=7) rfl];exact z7m l d e};{rw [zoo<|zYk (h:=b) (m:=a) (x:=gOf b a c) (w:=7) g,zMn (w:=7) rfl];exact z7m l d e}
def zBB:vR 108 zFr:=kF3 zYW zC zb6 zjW (zx []) zFh
def zqQ:LW
 |[.agg [.s (.sl .int) b,.s .mon c,.s .entry d,.s .entry e],.one<|.i .i64 f,.one<|.i .i64 g]=>some (zdk (⟨b,c,d,e⟩:ad) f g,[aH<|zcL (⟨b,c,d,e⟩:ad) f g,aB<|zcM (⟨b,c,d,e⟩:ad) f g])
 |_=>none
def zHU:vR 108 zqQ:=by refine⟨zqj.1,λw m l n g h=>?_⟩;unfold zqQ at h;split at h;{rename_i a b d f i j;obtain⟨k,rfl⟩:=zeK h;rcases z5R (gOf (⟨a,b,d,f⟩:ad) i j) with e|e|e|e|e|e|e|e;{exact zqj.2 w _ l _ g (congrArg (λc=>some (c,zgq<|zcv (⟨a,b,d,f⟩:ad) i j))<|zjr k e)};{exact zBv.2 w _ l _ g (congrArg (λc=>some (c,zgq<|zcv (⟨a,b,d,f⟩:ad) i j))<|zjr k e)};{exact zBw.2 w _ l _ g (congrArg (λc=>some (c,zgq<|zcv (⟨a,b,d,f⟩:ad) i j))<|zjr k e)};{exact zBx.2 w _ l _ g (congrArg (λc=>some (c,zgq<|zcv (⟨a,b,d,f⟩:ad) i j))<|zjr k e)};{exact zBy.2 w _ l _ g (congrArg (λc=>some (c,zgq<|zcv (⟨a,b,d,f⟩:ad) i j))<|zjr k e)};{exact zBz.2 w _ l _ g (congrArg (λc=>some (c,zgq<|zcv (⟨a,b,d,f⟩:ad) i j))<|zjr k e)};{exact zBA.2 w _ l _ g (congrArg (λc=>some (c,zgq<|zcv (⟨a,b,d,f⟩:ad) i j))<|zjr k e)};{exact zBB.2 w _ l _ g (congrArg (λc=>some (c,zgq<|zcv (⟨a,b,d,f⟩:ad) i j))<|zjr k e)}};{cases h}
def z7b:zW:=[(108,zqQ)]++znD
def z4v:zL z7b:=zh zHU zi5
def z7c:zW:=z7b
def z4w:zL z7c:=z4v
def brought (n a b:Int):Int:=bif ilt n a then a else (cond (ilt b a) a<|zgp n b)
@[simp] abbrev zi8 (_ _ _:Int):Bool:=true
@[simp] abbrev zhI (n a b:Int):Int:=brought n a b
def zit:Run:=rF3 dI dI dI λb c d=>(zi8 b c d,[aI<|zhI b c d])
def zFy (N:Nat)(b a c:Int):OA:=
 (cond (ilt b a) (some [aI a])<|cond (ilt c a) (some [aI a])<|some [aI<|zgp b c])
def zQU (a b c:Int)(d:zi8 a b c=true):∃N,zFy N a b c=some [aI<|zhI a b c]:=by refine⟨0,?_⟩;unfold zFy;refine br (λ_=>?_) (λ_=>br (λ_=>?_) λ_=>?_);all_goals first|rfl|(simp only [*,zhI,brought,cT,cF]<;>rfl)|simp_all[Ty.cells,zhI,brought]
def zvD:vR 103 zit:=kF3 zqw zC zB zq (zx []) zQU
def zFL (N:Nat)(b a c:Int):OA:=
 (cond (ilt c a) (some [aI a])<|cond (ilt b a) (some [aI a])<|cond (igt b c) (some [aI c])<|some [aI b])
def zQ8 (a b c:Int)(g:zi8 a b c=true):∃N,zFL N a b c=some [aI<|zhI a b c]:=by refine⟨0,?_⟩;unfold zFL;unfold zhI brought zgp;cases d:ilt c b<;>cases e:ilt a b<;>cases f:igt a c<;>simp [igt] at * <;> omega
def zvK:vR 110 zit:=kF3 zqw zC zB zq (zx []) zQ8
structure RI (a:List am) (i:Nat) (l:List am):Prop where
 len:l.length=a.length
 sm:zYx l
 eq:∀k,i<=k->l[k]?=a[k]?
def RI.up {a l:List am}{i:Nat}(h:RI a i l)(x:am)(b:SmB x):RI a (i+1) (up l (i:Int) x):=
 ⟨by rw[zht];exact h.len,z9z h.sm b,λk c=>by rw[zbam (by omega)];exact h.eq k (by omega)⟩
structure RJ (l:List am) (i:Nat) (l':List am):Prop where
 len:l'.length=l.length
 sm:SmB (ix l' (i:Int) zVZ)
 up:∀x,E.up l' (i:Int) x=E.up l (i:Int) x
def RJ.next {l a:List am}{i:Nat}(h:RJ l i a)(b:i<l.length)(x:am)(c:SmB x):RJ l i (E.up a (i:Int) x):=
 ⟨by rw[zht];exact h.len,by rw[zem (by rw[h.len];exact b)];exact c,λy=>by rw[zwB];exact h.up y⟩
def z1r:zW:=z7c
def z1s:zL z1r:=z4w
def zVe {h:ad}{m:Int}(g:SmH h)(f:i0 m (ln h.aa)=true):SmB (zM h m):=by
 have b:=g.2.1.2 _ (zbE f mZ);have e:∀(d:List LI) (q:Int),SmM d->(zcx d q).length<=1048576:=λd q h=>zVg h;have c:∀p:Int,(zdf h m p).length<=1048576:=by intro p;unfold zdf;cases i0 m (ln h.aa);{exact(by decide:zz6.length<=1048576)};{cases i0 p 8;{exact(by decide:zz6.length<=1048576)};{simp only [cT];cases ine (zbG (ix h.aa m zi).ae p).af (-1);{exact e _ _ b.2.1};{exact e _ _ g.1}}}
 have j:∀(n i:Nat),∀x∈zcQ h m n i,x.length<=1048576:=by
  intro n
  induction n with
  |zero=>intro i x a;cases a
  |succ n k=>intro i x a;rcases qG.1 a with rfl|a;{exact c _};{exact k (i+1) x a}
 unfold zM;rw[f];exact⟨⟨by show (zcQ h m 8 0).length<=1048576;rw[zzG];decide,j 8 0⟩,b.2.2.2.1,b.2.2.2.2.1⟩
def z7d:zW:=z1r
def z4x:zL z7d:=z1s
def z7e:zW:=[(103,zit),(110,zit)]++z7d
def z4y:zL z7e:=zh zvD (zh zvK z4x)
def cnt (l:List Mon):List Nat:=l.map λx=>x.ac.length
def z9X {l a:List Mon}(h:zeD a=zeD l):cnt a=cnt l:=by have e:∀l:List Mon,cnt l=(zeD l).map List.length:=λl=>(by simp[cnt,zeD]);rw[e,e,h]
def zSK {l:List Mon}{m:Int}{x:Mon}(b:i0 m (ln l)=true)(c:x.ac.length=(ix l m mZ).ac.length):cnt (up l m x)=cnt l:=by obtain⟨k,rfl,a⟩:=zd7 (n:=l.length) b;unfold cnt up;rw[List.map_set,j4,c,zbi a];have:=@u3 _ (l.map λx=>x.ac.length) k (by simpa using a);simpa using this
def z8h {l a:List Mon}(h:cnt a=cnt l):a.length=l.length:=by have:=congrArg List.length h;simpa [cnt] using this
def z9Y {l b:List Mon}(h:cnt b=cnt l)(m:Int):(ix b m mZ).ac.length=(ix l m mZ).ac.length:=by have a:(cnt b)[m.toNat]?=(cnt l)[m.toNat]?:=(by rw[h]);unfold cnt at a;rw[qS,qS]at a;unfold ix;simp only[kE];cases c:b[m.toNat]? <;> cases d:l[m.toNat]? <;> rw [c,d]at a<;>simp at a ⊢;exact a
def z9d (h:ad)(m p:Int):(zdR h m p).ag=h.ag:=(zgX (zfi h m p) m p A0).2
def z9c (h:ad):(zdh h).ag=h.ag:=by unfold zdh;cases ieq (ln<|zcm h) 0;{rfl};{exact z9d _ _ _}
def z9b (m:List LI)(p:Int)(c:LI):(zjo m p c).length=m.length:=by unfold zjo;cases i0 p (ln m);{rfl};{cases zcs c;{rfl};{simp}}
def z88 (m:List LI)(p c v:Int):(zbN m p c v).length=m.length:=by unfold zbN;cases ziJ m p c;{rfl};{cases zk v 0 99;{rfl};{simp}}
def zZE (h:ad)(m p:Int):(fetched h m p).ag.length=h.ag.length:=by unfold fetched zfr;rw[(zgX _ _ _ _).2];unfold landing;rw[z9b,z9c]
def zUl (h:ad)(m p n:Int):(zki h m p n).ag=h.ag:=by unfold zki;cases ieq (wand .i64 n 2) 0;{unfold opened;cases ieq (wand .i64 (ix (ix (zbI h m p).aa m mZ).ae p sZ).aj 2) 0;{rfl};{exact(zgX _ _ _ _).2}};{rfl}
def z2k (h:ad)(m p n:Int):(D0 h m p n).ag.length=h.ag.length:=by unfold D0;cases ieq (ix (ix h.aa m mZ).ae p sZ).af (-1);{exact congrArg List.length (zUl _ _ _ _)};{exact(congrArg List.length<|zUl _ _ _ _).trans (zZE _ _ _)}
def z2l (h:ad)(m g p:Int)(a:Bool):(zv1 h m g p a).ag=h.ag:=by cases a<;>rfl
def z5c (h:ad)(b:List au)(m g c a q:Int)(d:Bool):(ziH h b m g c a q d).1.ag.length=h.ag.length:=by unfold ziH;cases zis b m g c a;{cases zfz h m g c a;{exact congrArg List.length (z2l _ _ _ _ _)};{exact(congrArg List.length<|z2l _ _ _ _ _).trans (z2k h m q a)}};{rfl}
def z9a (h:ad)(b:List au)(m g page need:Int)(io:Bool):(lookOf h b m g page need io).1.ag.length=h.ag.length:=by unfold lookOf;cases zb9 h m g page need;{rfl};{simp only [cT];rw[z5c];cases ieq need 2<;>rfl}
structure Keep (h r:ad):Prop where
 shape:Shape r
 cnt:cnt r.aa=cnt h.aa
 mem:r.ag.length=h.ag.length
def Keep.has {h r:ad}(k:Keep h r){m:Int}(a:i0 m (ln h.aa)=true):i0 m (ln r.aa)=true:=by rw[ln,z8h k.cnt];exact a
def Keep.hg {h r:ad}(k:Keep h r){m g:Int}(hg:i0 g (ln (ix h.aa m mZ).ac)=true):i0 g (ln (ix r.aa m mZ).ac)=true:=by rw[ln,z9Y k.cnt];exact hg
def Keep.trans {a b c:ad}(h:Keep a b)(k:Keep b c):Keep a c:=⟨k.shape,k.cnt.trans h.cnt,k.mem.trans h.mem⟩
def Keep.rfl' {h:ad}(a:Shape h):Keep h h:=⟨a,rfl,rfl⟩
def zow {h:ad}{m g:Int}{x:ah}(b:Shape h)(a:i0 m (ln h.aa)=true)(c:SmG x):Keep h (zlV h m g x):=⟨z0m b a c,zSK a (by simp),rfl⟩
def zC0 {h:ad}{b:List au}{m g page need:Int}{io:Bool}(c:SmH h)(a:zbZ h m g=true):Keep h (lookOf h b m g page need io).1:=by have k:=zxU (b:=b) (page:=page) (need:=need) (io:=io) c a;exact⟨k.shape,z9X k.gs,z9a _ _ _ _ _ _ _⟩
def z14 {h:ad}{p c v:Int}(a:Shape h):Keep h {h with ag:=zbN h.ag p c v}:=⟨zQn a<|zz2 a.1.1,rfl,z88 _ _ _ _⟩
def zZp {h:ad}{m:Int}(a:Shape h)(b:i0 m (ln h.aa)=true):Keep h (owned h m):=by obtain⟨c,d⟩:=zcD a b;unfold owned;cases ilt (ix h.aa m mZ).Own 1000000000;{exact Keep.rfl' a};{exact⟨zjm a c d,zSK b rfl,rfl⟩}
def zZo {h:ad}{m n:Int}(b:Shape h)(c:i0 m (ln h.aa)=true):Keep h (zo8 h m n):=by obtain⟨a,d⟩:=zcD b c;unfold zo8;cases e:ilt (ln (ix h.aa m mZ).Outs) 40;{exact Keep.rfl' b};{have f:=qF e;simp only[ln]at f;refine⟨zjm b ⟨a.1,a.2.1,a.2.2.1,a.2.2.2.1,?_,a.2.2.2.2.2⟩ d,zSK c rfl,rfl⟩;simp[ap];omega}
def z16 {h:ad}{m g:Int}{x:ah}{w:Int}(d:Shape h)(b:i0 m (ln h.aa)=true)(e:SmG x):Keep h (zwA h m g x w):=by have a:Keep h (zhg h m x w):=(by unfold zhg;cases (cond (ine w 6) (ieq (zzE (ix h.aa m mZ).aq x.Ctl.aq<|zyH w) 2) false);{exact Keep.rfl' d};{exact zZp d b});have f:Keep (zhg h m x w) (zhf (zhg h m x w) m x w):=(by unfold zhf;cases (cond (zlx x.Ctl.aq w) (ieq w 5) false);{exact Keep.rfl' a.shape};{exact zZo a.shape (a.has b)});have c:=a.trans f;exact c.trans (zow c.shape (c.has b)<|zDJ _ _ e)
def z15 {h:ad}{m g:Int}(f:SmH h)(e:zbZ h m g=true):Keep h (zcv h m g).1:=by obtain⟨l,a,n⟩:=zdN e;have d:=zqc f a n;have i:=(zfQ f l).1;rw[zkz e];unfold zVm;cases ieq (zbe<|gOf h m g) 0;{cases ieq (zbe<|gOf h m g) 1;{cases ieq (zbe<|gOf h m g) 2;{cases (cond (ieq (zbe<|gOf h m g) 3) true<|ieq (zbe<|gOf h m g) 4);{exact z16 i a d};{have k:=zC0 (b:=h.ao) (page:=zbk (E0<|gOf h m g)) (need:=zcd (ieq (zbe<|gOf h m g) 4)) (io:=false) f e;show Keep h (zkA (znG h m g (gOf h m g)<|ieq (zbe<|gOf h m g) 4) m g (gOf h m g)<|ieq (zbe<|gOf h m g) 4);unfold zkA;cases (znG h m g (gOf h m g)<|ieq (zbe<|gOf h m g) 4).2.2;{exact k.trans (zow k.shape (k.has a) d)};{cases ieq (zbe<|gOf h m g) 4;{have k:=zC0 (b:=h.ao) (page:=zbk (E0<|gOf h m g)) (need:=zcd false) (io:=false) f e;exact k.trans (zow k.shape (k.has a)<|zMd _ d)};{have k:=zC0 (b:=h.ao) (page:=zbk (E0<|gOf h m g)) (need:=zcd true) (io:=false) f e;have q:=z14 (p:=(znG h m g (gOf h m g) true).2.1) (c:=zdp (E0<|gOf h m g)) (v:=(gOf h m g).A) k.shape;have j:=k.trans q;exact j.trans (zow j.shape (j.has a)<|zmh d)}}}};{exact zow i a (zGV d)}};{exact zow i a (zYc d)}};{exact Keep.rfl' i}
structure Same (h r:ad):Prop where
 sm:SmH r
 cnt:cnt r.aa=cnt h.aa
 mem:r.ag.length=h.ag.length
 st:r=h\/Shape r
def Same.rfl' {h:ad}(a:SmH h):Same h h:=⟨a,rfl,rfl,.inl rfl⟩
def Same.trans {a b c:ad}(h:Same a b)(k:Same b c):Same a c:=⟨k.sm,k.cnt.trans h.cnt,k.mem.trans h.mem,by
 rcases k.st with e|e
 .rw [e];exact h.st
 .exact .inr e⟩
def z2W {h:ad}(m g:Int)(b:SmH h):Same h (zcv h m g).1:=by cases a:zbZ h m g;{rw [zmX a];exact Same.rfl' b};{have k:=z15 b a;exact⟨k.shape.1,k.cnt,k.mem,.inr k.shape⟩}
def z7f:zW:=[(103,zit),(110,zit)]++zYO
def zt2:zL z7f:=zh zvD (zh zvK zqw)
def zSE {a b:Bool}(h:(a=true)↔(b=true)):a=b:=by cases a<;>cases b<;>simp_all
@[simp] def zbaN (x:Int):zk x 0 3=i0 x 4:=zSE (by rw[zgA];unfold i0;rw[decide_eq_true_iff];omega)
@[simp] def z3y (x:Int):zk x 0 7=i0 x 8:=zSE (by rw[zgA];unfold i0;rw[decide_eq_true_iff];omega)
def zeN (t:List k0)(p:Int)(s:k0):List k0:=bif i0 p (ln t) then up t p s else t
@[simp] def zbaO (t:List k0)(p:Int)(s:k0):(zeN t p s).length=t.length:=by unfold zeN;cases i0 p (ln t)<;>simp
@[simp] abbrev zpL (t:List k0)(p:Int)(s:k0):Bool:=pc (t.length<=1048576)
@[simp] abbrev zmQ (t:List k0)(p:Int)(s:k0):List k0:=zeN t p s
def zyu:Run:=rF3 (dS .slot) dI (dT .slot) λb c d=>(zpL b c d,[aS .slot<|zmQ b c d])
def zCb (N:Nat)(a:lS)(b:Int)(c:k0):OA:=
 (oN (few<|ln<|ap [] a)<|oN (zN b 0<|wsub .i64 (ln a) 1)<|cond (zk b 0<|wsub .i64 (ln a) 1) (oN (inb b<|ln<|ap [] a)<|p0 (up (ap [] a) b c) λd=>some [aS .slot d])<|some [aS .slot<|ap [] a])
def zOj (a:List k0)(b:Int)(c:k0)(d:zpL a b c=true):∃N,zCb N a b c=some [aS .slot<|zmQ a b c]:=by have e:=zS.1 d;refine⟨0,?_⟩;unfold zCb oN;refine mu (j0 rfl (br (λ_=>mu (shr ?_)) λ_=>?_));all_goals first|rfl|(simp only [*,zmQ,zeN,cT,cF]<;>rfl)|simp_all[Ty.cells,zmQ,zeN]
def zH1:vR 347 zyu:=kF3 zt2 zC zB zq (zx []) zOj
def zib (p n:Int):Bool:=bif zdH p then zk n 0 7 else false
def ztp (p n:Int):Int:=bif zib p n then wor .i64 p (zqf .i64 1 n) else p
def cv7 {n:Int}(h:i0 n 8=true):wcv .u64 n=n/\ile 0 n=true:=by have:=qF h;exact⟨zYq (by omega) (by omega),qK (by omega)⟩
@[simp] abbrev zk8 (p n:Int):Bool:=true
@[simp] abbrev zhM (p n:Int):Int:=ztp p n
@[simp] abbrev znp (p n:Int):Bool:=zib p n
def zA3:Run:=rF2 dI dI λb c=>(zk8 b c,[aI<|zhM b c,aB<|znp b c])
def zFZ (N:Nat)(a b:Int):OA:=
 (oN (zc4 a)<|cond (nB<|zfp a) (some [aI a,aB false])<|oN (zN b 0 7)<|cond (nB<|zk b 0 7) (some [aI a,aB false])<|oN (ile 0<|wcv .u64 b)<|some [aI<|wor .i64 a<|zqf .i64 1<|wcv .u64 b,aB true])
def zRm (b a:Int)(c:zk8 b a=true):∃N,zFZ N b a=some [aI<|zhM b a,aB<|znp b a]:=by have d:=@cv7 a;refine⟨0,?_⟩;unfold zFZ oN nB;refine j0 rfl (brN (λ_=>?_) λ_=>j0 rfl (brN (λ_=>?_) λ_=>mu ?_));all_goals first|rfl|(simp only [*,zhM,znp,ztp,zib,cT,cF]<;>rfl)|simp_all[Ty.cells,zhM,znp,ztp,zib]
def zKv:vR 350 zA3:=kF2 zt2 zC zB zq (zx []) zRm
def posts (c:Ctl)(n:Int):Bool:=bif zmp c then (cond (zk n 0 7) (ieq (wand .i64 (zDT .i64 c.Post n) 1) 1) false) else false
@[simp] abbrev zDB (c:Ctl)(n:Int):Bool:=true
@[simp] abbrev zyA (c:Ctl)(n:Int):Bool:=posts c n
def zGI:Run:=rF2 dC dI λb c=>(zDB b c,[aB<|zyA b c])
def zPl (N:Nat)(b:Ctl)(a:Int):OA:=
 (oN (zge b)<|cond (zqV b) (oN (zN a 0 7)<|cond (zk a 0 7) (oN (ile 0<|wcv .u64 a)<|some [aB<|ieq (wand .i64 (zDT .i64 b.Post<|wcv .u64 a) 1) 1]) oF) oF)
def zWG (b:Ctl)(a:Int)(c:zDB b a=true):∃N,zPl N b a=some [aB<|zyA b a]:=by have d:=@cv7 a;refine⟨0,?_⟩;unfold zPl oN;refine j0 rfl (br (λ_=>j0 rfl (br (λ_=>mu ?_) λ_=>?_)) λ_=>?_);all_goals first|rfl|(simp only [*,zyA,posts,cT,cF]<;>rfl)|simp_all[Ty.cells,zyA,posts]
def zQM:vR 438 zGI:=kF2 zt2 zC zB zq (zx []) zWG
def zcg (b:am)(g:Int):Bool:=bif zcb b then i0 g (ln b.ac) else false
def zdV {b:am}{g:Int}:(zcg b g=true)↔zcb b=true/\i0 g (ln b.ac)=true:=by unfold zcg;cases zcb b<;>simp
@[simp] abbrev zgi (b:am)(g:Int):Bool:=pc (SmB b)
@[simp] abbrev zlb (b:am)(g:Int):Bool:=zcg b g
def zGK:Run:=rF2 (dT .bare) dI λb c=>(zgi b c,[aB<|zlb b c])
def zPo (N:Nat)(a:am)(b:Int):OA:=
 (oN (zpy a)<|cond (zfo a) (oN (zN b 0<|wsub .i64 (ln a.ac) 1)<|some [aB<|zk b 0<|wsub .i64 (ln a.ac) 1]) oF)
def zWI (a:am)(b:Int)(c:zgi a b=true):∃N,zPo N a b=some [aB<|zlb a b]:=by have d:=zS.1 c;have e:a.ac.length<=1048576:=d.2.1.1;refine⟨0,?_⟩;unfold zPo oN;refine j0 rfl (br (λ_=>j0 rfl ?_) λ_=>?_);all_goals first|rfl|(simp only [*,zlb,zcg,cT,cF]<;>rfl)|simp_all[Ty.cells,zlb,zcg]
def zQO:vR 345 zGK:=kF2 zt2 zC zB zq (zx []) zWI
def z7g:zW:=[(347,zyu),(350,zA3),(438,zGI),(345,zGK)]++z7f
def zlF:zL z7g:=zh zH1 (zh zKv<|zh zQM<|zh zQO zt2)
def z5Q {b:Type}{l:List b}{i:Int}{d:b}(h:i0 i (ln l)=true):up l i (ix l i d)=l:=by obtain⟨k,rfl,a⟩:=zd7 (n:=l.length) h;unfold up;rw[zbi a,j4];exact u3 a
def zt7 {b:am}{g:Int}(h:i0 g (ln b.ac)=true):gAt b g=ix b.ac g zD:=by unfold gAt;rw[h];rfl
def z2Y {b:am}{g:Int}(h:i0 g (ln b.ac)=true):zeZ b g (gAt b g)=b:=by unfold zeZ;rw[zt7 h,z5Q h]
def chg (b:am)(g:Int)(c:Bool)(x:ah):am:=bif (cond (zcg b g) c false) then zeZ b g x else b
def zci (b:am)(g:Int)(c:Bool):Bool:=bif zcg b g then c else false
def zxc (p:Int)(s:k0):Bool:=bif i0 p 4 then zd3 s 8 else false
def zDF (x:ah)(p:Int)(s:k0):ah:={x with az:=zeN x.az p s}
def zeh (x:ah)(p:Int):ah:={x with av:=zeN x.av p (zbG x.az p)}
def zlP:aD:=⟨0,0,false,0⟩
def zwO (x:ah)(v:Int):Bool:=bif zk v 0 99 then (cond (ieq x.Exit.Kind 2) true<|ieq x.Exit.Kind 3) else false
def zyY (x:ah)(v:Int):ah:=zch (stopped (cond (ieq x.Exit.Kind 2) {x with A:=v} x) zlP)
def zDj (x:ah):Bool:=bif ieq x.Exit.Kind 1 then true else ieq x.Exit.Kind 4
def zzK (x:ah):ah:=bif ieq x.Exit.Kind 1 then stopped x zlP else held (stopped x zlP)
def zo4 (x:ah)(n:Int):ah:={x with ak:=ztp x.ak n}
def zMP (x:ah)(c:Ctl):ah:={x with Ctl:=c}
def z8V {x:ah}{n:Int}(h:zib x.ak n=false):zo4 x n=x:=by unfold zo4 ztp;rw[h];rfl
def z5D {x:ah}(p:Int)(s:k0)(h:SmG x):SmG (zDF x p s):=⟨h.1,by simpa [zDF] using h.2.1,h.2.2.1,h.2.2.2⟩
def zMc {x:ah}(p:Int)(h:SmG x):SmG (zeh x p):=⟨h.1,h.2.1,by simpa [zeh] using h.2.2.1,h.2.2.2⟩
def z5B {x:ah}(v:Int)(h:SmG x):SmG (zyY x v):=by unfold zyY;cases ieq x.Exit.Kind 2<;>exact zmh h
def z5C {x:ah}(h:SmG x):SmG (zzK x):=by unfold zzK;cases ieq x.Exit.Kind 1;{exact zVf (g:=stopped x zlP) h};{exact h}
def zq7 {b:am}{g:Int}{c:Bool}{x:ah}(h:SmB b)(a:SmG x):SmB (chg b g c x):=by unfold chg;cases (cond (zcg b g) c false);{exact h};{exact zom h a}
@[simp] abbrev zrD (b:am)(g p:Int)(s:k0):Bool:=pc (SmB b)
@[simp] abbrev zeP (b:am)(g p:Int)(s:k0):am:=chg b g (zxc p s) (zDF (gAt b g) p s)
@[simp] abbrev zfD (b:am)(g p:Int)(s:k0):Bool:=zci b g (zxc p s)
def zsL:Run:=rF4 (dT .bare) dI dI (dT .slot) λb c d e=>(zrD b c d e,[aT .bare<|zeP b c d e,aB<|zfD b c d e])
def zFK (N:Nat)(f:am)(b c:Int)(d:k0):OA:=
 let a:=zcu f;let e:=ix a.ac b zD; (oN (zdW f)<|oN (zgi a b)<|cond (nB<|zlb a b) (some [aT .bare a,aB false])<|oN (zN c 0 3)<|cond (nB<|zk c 0 3) (some [aT .bare a,aB false])<|oN (zmO d 8)<|cond (nB<|zje d 8) (some [aT .bare a,aB false])<|oN (inb b<|ln a.ac)<|oN (zpL e.az c d)<|oN (inb b<|ln a.ac)<|p0 (up a.ac b ({e with az:=(zmQ e.az c d)}:ah)) λg=>some [aT .bare ({a with ac:=g}:am),aB true])
def zQ7 (b:am)(a c:Int)(d:k0)(e:zrD b a c d=true):∃N,zFK N b a c d=some [aT .bare<|zeP b a c d,aB<|zfD b a c d]:=by
 have f:=zS.1 e;have g:=zkY a f;have k:zcg b a=true->i0 a (ln b.ac)=true:=λh=>(zdV.1 h).2;have i:zcg b a=true->gAt b a=ix b.ac a zD:=λh=>zt7 (zdV.1 h).2;have j:=g.2.1;refine⟨0,?_⟩;unfold zFK oN nB;conv=>zeta
 refine mu (mu<|brN (λ_=>?_) λ_=>j0 rfl (brN (λ_=>?_) λ_=>j0 rfl (brN (λ_=>?_) λ_=>mu (mu<|mu<|shr ?_))));all_goals first|rfl|(simp only [*,zeP,zfD,chg,zci,zxc,zDF,zeZ,cT,cF]<;>rfl)|simp_all[Ty.cells,zeP,zfD,chg,zci,zxc,zDF,zeZ]
def zvJ:vR 157 zsL:=kF4 zlF zC zB zq (zx []) zQ7
@[simp] abbrev zsS (b:am)(g p:Int):Bool:=pc (SmB b)
@[simp] abbrev zfj (b:am)(g p:Int):am:=chg b g (i0 p 4) (zeh (gAt b g) p)
@[simp] abbrev ziv (b:am)(g p:Int):Bool:=zci b g (i0 p 4)
def zpd:Run:=rF3 (dT .bare) dI dI λb c d=>(zsS b c d,[aT .bare<|zfj b c d,aB<|ziv b c d])
def zAi (N:Nat)(f:am)(d b:Int):OA:=
 let a:=zcu f;let e:=inb d<|ln a.ac;let c:=ix a.ac d zD; (oN (zdW f)<|oN (zgi a d)<|cond (nB<|zlb a d) (some [aT .bare a,aB false])<|oN (zN b 0 3)<|cond (nB<|zk b 0 3) (some [aT .bare a,aB false])<|oN e<|oN e<|oN (zpJ c.az b)<|oN (zpL c.av b<|zko c.az b)<|oN e<|p0 (up a.ac d ({c with av:=(zmQ c.av b<|zko c.az b)}:ah)) λg=>some [aT .bare ({a with ac:=g}:am),aB true])
def zLe (b:am)(a c:Int)(d:zsS b a c=true):∃N,zAi N b a c=some [aT .bare<|zfj b a c,aB<|ziv b a c]:=by
 have e:=zS.1 d;have f:=zkY a e;have j:zcg b a=true->i0 a (ln b.ac)=true:=λh=>(zdV.1 h).2;have g:zcg b a=true->gAt b a=ix b.ac a zD:=λh=>zt7 (zdV.1 h).2;have i:=f.2.2.1;refine⟨0,?_⟩;unfold zAi oN nB;conv=>zeta
 refine mu (mu<|brN (λ_=>?_) λ_=>j0 rfl (brN (λ_=>?_) λ_=>mu (mu (j0 rfl (mu<|mu<|shr ?_)))));all_goals first|rfl|(simp only [*,zfj,ziv,chg,zci,zeh,zeZ,cT,cF]<;>rfl)|simp_all[Ty.cells,zfj,ziv,chg,zci,zeh,zeZ]
def zs5:vR 158 zpd:=kF3 zlF zC zB zq (zx []) zLe
@[simp] abbrev zmK (b:am)(g v:Int):Bool:=pc (SmB b)
@[simp] abbrev zds (b:am)(g v:Int):am:=chg b g (zwO (gAt b g) v) (zyY (gAt b g) v)
@[simp] abbrev zeo (b:am)(g v:Int):Bool:=zci b g (zwO (gAt b g) v)
def zn9:Run:=rF3 (dT .bare) dI dI λb c d=>(zmK b c d,[aT .bare<|zds b c d,aB<|zeo b c d])
def zxp (N:Nat)(i:am)(b e:Int):OA:=
 let a:=zcu i;let h:=inb b<|ln a.ac;let d:=(⟨0,0,false,0⟩:aD);let c:=ix a.ac b zD;let g:=({c with A:=e}:ah); (oN (zdW i)<|oN (zgi a b)<|cond (nB<|zlb a b) (some [aT .bare a,aB false])<|oN (zN e 0 99)<|cond (nB<|zk e 0 99) (some [aT .bare a,aB false])<|oN h<|cond (ieq c.Exit.Kind 2) (oN (zeQ g d)<|oN (zbm<|zd2 g d)<|oN h<|p0 (up a.ac b<|ze8<|zd2 g d) λf=>some [aT .bare ({a with ac:=f}:am),aB true])<|cond (ieq c.Exit.Kind 3) (oN (zeQ c d)<|oN (zbm<|zd2 c d)<|oN h<|p0 (up a.ac b<|ze8<|zd2 c d) λf=>some [aT .bare ({a with ac:=f}:am),aB true])<|some [aT .bare a,aB false])
def zIj (b:am)(a c:Int)(d:zmK b a c=true):∃N,zxp N b a c=some [aT .bare<|zds b a c,aB<|zeo b a c]:=by
 have e:=zS.1 d;have f:=zkY a e;have j:zcg b a=true->i0 a (ln b.ac)=true:=λh=>(zdV.1 h).2;have g:zcg b a=true->gAt b a=ix b.ac a zD:=λh=>zt7 (zdV.1 h).2;have i:_/\_/\_/\_:=f;refine⟨0,?_⟩;unfold zxp oN nB;conv=>zeta
 refine mu (mu<|brN (λ_=>?_) λ_=>j0 rfl (brN (λ_=>?_) λ_=>mu (br (λ_=>mu (mu<|mu<|shr ?_)) λ_=>br (λ_=>mu (mu<|mu<|shr ?_)) λ_=>?_)));all_goals first|rfl|(simp only [*,zds,zeo,chg,zci,zwO,zyY,zlP,zeZ,SmG,stopped,cT,cF]<;>rfl)|simp_all[Ty.cells,zds,zeo,chg,zci,zwO,zyY,zlP,zeZ,SmG,stopped]
def zsb:vR 159 zn9:=kF3 zlF zC zB zq (zx []) zIj
@[simp] abbrev zdv (b:am)(g:Int):am:=chg b g (zDj<|gAt b g) (zzK<|gAt b g)
@[simp] abbrev zeq (b:am)(g:Int):Bool:=zci b g (zDj<|gAt b g)
def zob:Run:=rF2 (dT .bare) dI λb c=>(zgi b c,[aT .bare<|zdv b c,aB<|zeq b c])
def zxr (N:Nat)(g:am)(c:Int):OA:=
 let a:=zcu g;let f:=inb c<|ln a.ac;let d:=(⟨0,0,false,0⟩:aD);let b:=ix a.ac c zD; (oN (zdW g)<|oN (zgi a c)<|cond (nB<|zlb a c) (some [aT .bare a,aB false])<|oN f<|cond (ieq b.Exit.Kind 1) (oN (zeQ b d)<|oN f<|p0 (up a.ac c<|zd2 b d) λe=>some [aT .bare ({a with ac:=e}:am),aB true])<|cond (ieq b.Exit.Kind 4) (oN (zeQ b d)<|oN (zbm<|zd2 b d)<|oN f<|p0 (up a.ac c<|zyz<|zd2 b d) λe=>some [aT .bare ({a with ac:=e}:am),aB true])<|some [aT .bare a,aB false])
def zIl (b:am)(a:Int)(c:zgi b a=true):∃N,zxr N b a=some [aT .bare<|zdv b a,aB<|zeq b a]:=by
 have d:=zS.1 c;have e:=zkY a d;have i:zcg b a=true->i0 a (ln b.ac)=true:=λh=>(zdV.1 h).2;have f:zcg b a=true->gAt b a=ix b.ac a zD:=λh=>zt7 (zdV.1 h).2;have g:_/\_/\_/\_:=e;refine⟨0,?_⟩;unfold zxr oN nB;conv=>zeta
 refine mu (mu<|brN (λ_=>?_) λ_=>mu (br (λ_=>mu (mu<|shr ?_)) λ_=>br (λ_=>mu (mu<|mu<|shr ?_)) λ_=>?_));all_goals first|rfl|(simp only [*,zdv,zeq,chg,zci,zDj,zzK,zlP,zeZ,SmG,stopped,cT,cF]<;>rfl)|simp_all[Ty.cells,zdv,zeq,chg,zci,zDj,zzK,zlP,zeZ,SmG,stopped]
def zsd:vR 160 zob:=kF2 zlF zC zB zq (zx []) zIl
def z9U {b:am}{g:Int}{c:Bool}{x:ah}(h:zcg b g=false):chg b g c x=b:=by unfold chg;rw[h];rfl
def z8f {b:am}{g n:Int}(h:zcg b g=true):chg b g (zib (gAt b g).ak n) (zo4 (gAt b g) n)=zeZ b g (zo4 (gAt b g) n):=by unfold chg;rw[h];cases a:zib (gAt b g).ak n;{rw [z8V a,z2Y (zdV.1 h).2];rfl};{rfl}
@[simp] abbrev zmL (b:am)(g n:Int):Bool:=pc (SmB b)
@[simp] abbrev zdu (b:am)(g n:Int):am:=chg b g (zib (gAt b g).ak n) (zo4 (gAt b g) n)
@[simp] abbrev zep (b:am)(g n:Int):Bool:=zci b g (zib (gAt b g).ak n)
def zoa:Run:=rF3 (dT .bare) dI dI λb c d=>(zmL b c d,[aT .bare<|zdu b c d,aB<|zep b c d])
def zxq (N:Nat)(e:am)(b d:Int):OA:=
 let a:=zcu e;let c:=ix a.ac b zD; (oN (zdW e)<|oN (zgi a b)<|cond (nB<|zlb a b) (some [aT .bare a,aB false])<|oN (inb b<|ln a.ac)<|oN (zk8 c.ak d)<|oN (inb b<|ln a.ac)<|p0 (up a.ac b ({c with ak:=(zhM c.ak d)}:ah)) λf=>some [aT .bare ({a with ac:=f}:am),aB<|znp c.ak d])
def zIk (a:am)(b c:Int)(d:zmL a b c=true):∃N,zxq N a b c=some [aT .bare<|zdu a b c,aB<|zep a b c]:=by
 have i:=zS.1 d;have j:zcg a b=true->i0 b (ln a.ac)=true:=λh=>(zdV.1 h).2;have f:zcg a b=true->gAt a b=ix a.ac b zD:=λh=>zt7 (zdV.1 h).2;have g:=@z8f a b c;have e:=@z9U a b (zib (gAt a b).ak c) (zo4 (gAt a b) c);refine⟨0,?_⟩;unfold zxq oN nB;conv=>zeta
 refine mu (mu<|brN (λ_=>?_) λ_=>mu (j0 rfl (mu<|shr ?_)));all_goals first|rfl|(simp only [*,zdu,zep,zci,zeZ,zo4,cT,cF]<;>rfl)|simp_all[Ty.cells,zdu,zep,zci,zeZ,zo4]
def zsc:vR 161 zoa:=kF3 zlF zC zB zq (zx []) zIk
@[simp] abbrev zrC (b:am)(g:Int)(c:Ctl):Bool:=pc (SmB b)
@[simp] abbrev zeO (b:am)(g:Int)(c:Ctl):am:=chg b g (zmp c) (zMP (gAt b g) c)
@[simp] abbrev zfC (b:am)(g:Int)(c:Ctl):Bool:=zci b g (zmp c)
def zsK:Run:=rF3 (dT .bare) dI dC λb c d=>(zrC b c d,[aT .bare<|zeO b c d,aB<|zfC b c d])
def zFJ (N:Nat)(d:am)(b:Int)(c:Ctl):OA:=
 let a:=zcu d; (oN (zdW d)<|oN (zgi a b)<|cond (nB<|zlb a b) (some [aT .bare a,aB false])<|oN (zge c)<|cond (nB<|zqV c) (some [aT .bare a,aB false])<|oN (inb b<|ln a.ac)<|p0 (up a.ac b ({ (ix a.ac b zD) with Ctl:=c}:ah)) λe=>some [aT .bare ({a with ac:=e}:am),aB true])
def zQ6 (a:am)(b:Int)(c:Ctl)(d:zrC a b c=true):∃N,zFJ N a b c=some [aT .bare<|zeO a b c,aB<|zfC a b c]:=by
 have f:=zS.1 d;have g:zcg a b=true->i0 b (ln a.ac)=true:=λh=>(zdV.1 h).2;have e:zcg a b=true->gAt a b=ix a.ac b zD:=λh=>zt7 (zdV.1 h).2;refine⟨0,?_⟩;unfold zFJ oN nB;conv=>zeta
 refine mu (mu<|brN (λ_=>?_) λ_=>j0 rfl (brN (λ_=>?_) λ_=>mu (shr ?_)));all_goals first|rfl|(simp only [*,zeO,zfC,chg,zci,zMP,zeZ,cT,cF]<;>rfl)|simp_all[Ty.cells,zeO,zfC,chg,zci,zMP,zeZ]
def zvI:vR 162 zsK:=kF3 zlF zC zB zq (zx []) zQ6
def z7L (p c v:Int):Bool:=bif i0 p 8 then (cond (i0 c 4) (zk v 0 99) false) else false
def zx3 (b:am)(p c v:Int):Bool:=bif zcb b then z7L p c v else false
def zSe (b:am)(p c v:Int):am:=bif zx3 b p c v then {b with ag:=zbN b.ag p c v} else b
def znY (b:am):am:=bif zcb b then {b with ak:=zk4 b.ak} else b
def ztU (b:am):Int:=bif zcb b then zun b.ak else -1
def znC (b:am):Bool:=bif zcb b then !ilt (zel b.ak) 0 else false
def zoV (b:am)(g a n:Int):Bool:=bif zcg b g then (cond (zk a 0 15) (zf5 (gAt b g).av (zbk a) n) false) else false
def zD1 (b:am)(g a n:Int):Int:=zcN (gAt b g).av (zbk a) n
def zzd (b:am)(g a v:Int):Bool:=bif zoV b g a 2 then zk v 0 99 else false
def zY1 (b:am)(g a v:Int):am:=bif zzd b g a v then {b with ag:=zbN b.ag (zD1 b g a 2) (zdp a) v} else b
def zSi (b:am)(g a:Int):Int:=bif zoV b g a 1 then cellAt b.ag (zD1 b g a 1) (zdp a) else 0
@[simp] abbrev zfd (b:am):am:=znY b
@[simp] abbrev zgG (b:am):Int:=ztU b
@[simp] abbrev zgH (b:am):Bool:=znC b
def zsJ:Run:=rF1 (dT .bare) λb=>(zdW b,[aT .bare<|zfd b,aI<|zgG b,aB<|zgH b])
def zFI (N:Nat)(b:am):OA:=
 let a:=zcu b; (oN (zdW b)<|oN (zpy a)<|cond (nB<|zfo a) (some [aT .bare a,aI<|-1,aB false])<|oN (zc4 a.ak)<|some [aT .bare ({a with ak:=(zk9 a.ak)}:am),aI<|zla a.ak,aB<|znq a.ak])
def zQ5 (a:am)(b:zdW a=true):∃N,zFI N a=some [aT .bare<|zfd a,aI<|zgG a,aB<|zgH a]:=by
 have c:=zS.1 b;refine⟨0,?_⟩;unfold zFI oN nB;conv=>zeta
 refine mu (j0 rfl (brN (λ_=>?_) λ_=>j0 rfl ?_));all_goals first|rfl|(simp only [*,zfd,zgG,zgH,znY,ztU,znC,zk4,zun,cT,cF]<;>rfl)|simp_all[Ty.cells,zfd,zgG,zgH,znY,ztU,znC,zk4,zun]
def zvH:vR 165 zsJ:=kF1 zlF zC zB zq (zx []) zQ5
def z7h:zW:=z7g
def zSX:zL z7h:=zlF
def zeE (l:List ah)(n:Int):LI:=idxs (λ(x:ah)=>posts x.Ctl n) l 0
def zTt {d:Type}(p:d->Bool):∀(l:List d) (i:Nat),∀k∈idxs p l i,(i:Int)<=k/\k<(i:Int)+l.length
 |[],_,k,a=>by cases a
 |x::l,i,k,a=>by have c:=zTt p l (i+1);simp only[qW];unfold idxs at a;cases b:p x;{rw [b]at a;have:=c k a;omega};{rw [b]at a;rcases qG.1 a with rfl|a;{omega};{have:=c k a;omega}}
@[simp] abbrev zie (b:am)(n:Int):Bool:=pc (SmB b)
@[simp] abbrev zmM (b:am)(n:Int):LI:=zeE b.ac n
def zyq:Run:=rF2 (dT .bare) dI λb c=>(zie b c,[aS .int<|zmM b c])
def zB5 (N:Nat)(c:am)(f:Int):OA:=
 (r0 (σ:=(Int×Int×Int×LI×lM×lG×LI×Unit)) N (λd a=>let c:=a.2.2.2.2;let b:=c.2.1;let e:=(ix b a.2.1 zD).Ctl; (cond (ilt a.2.1<|ln b) (oN (inb a.2.1<|ln b)<|oN (zDB e a.1)<|cond (zyA e a.1) (oN (few<|ln<|ap a.2.2.2.1 [a.2.1])<|d (a.1,zK .i64 a.2.1 1,a.2.2.1,ap a.2.2.2.1 [a.2.1],c.1,b,c.2.2.1,()))<|d (a.1,zK .i64 a.2.1 1,a.2.2.1,a.2.2.2.1,c.1,b,c.2.2.1,()))<|some [aS .int a.2.2.2.1])) (f,0,c.ak,[],c.ag,c.ac,c.Outs,()))
def zOU:=zx [(352,0,{n:=28,tm:=[(1,ti),(2,.lp 0 0),(5,.sl 0 []),(6,ti)],lo:=[(0,[.sl 1 [],.sl 2 [],.sl 3 [],ti])],ro:=[(0,.int,true),(1,.sl .int,false),(2,.guest,false),(3,.int,false)]})]
def zOc (a:am)(b:Int)(g:zie a b=true):∃N,zB5 N a b=some [aS .int<|zmM a b]:=by
 have h:=zS.1 g;have e:=zcV h.2.1.1;refine zcj λN d=>?_;unfold zB5 oN;conv=>zeta
 refine(zbq a.ac (λi (t:LI)=>(b,(i:Int),a.ak,t,a.ag,a.ac,a.Outs,())) _ (λi (x:ah) (t:LI) f=>bif posts x.Ctl b then (cond (few<|ln<|ap t [(i:Int)]) (f<|ap t [(i:Int)]) none) else f t) (λ(t:LI)=>some [.one<|.s .int t]) (λi c t rec=>?_) (λt rec=>?_) _ ([])<|d e.1).trans ?_;{simp only [zbu c,zT c,zbi c,zbj c e.1,cT]};{simp only [zbh,cF]};exact zt9 (λ(x:ah)=>posts x.Ctl b) _ a.ac 0 [] (by simpa using e.2)
def zHV:vR 352 zyq:=kF2 zSX zC zB zq zOU zOc
def z7i:zW:=[(352,zyq)]++z7h
def zSY:zL z7i:=zh zHV zSX
def zEn (n:Int)(l:List ah)(k:Int):List ah:=up l k (zo4 (ix l k zD) n)
def zmC (n:Int)(a:LI)(l:List ah):List ah:=a.foldl (zEn n) l
def zDi (n:Int)(l:List ah)(k:Int):(zEn n l k).length=l.length:=zht _ _ _
def z0q {n:Int}{l:List ah}{k:Int}(a:i0 k (ln l)=true)(h:zlz l):zlz (zEn n l k):=zEs h (z3f h a _)
def zDK {n:Int}:∀(a:LI) {l:List ah},(∀k∈a,i0 k (ln l)=true)->zlz l->zlz (zmC n a l)/\(zmC n a l).length=l.length
 |[],_,_,h=>⟨h,rfl⟩
 |k::a,l,b,h=>by have e:=z0q (n:=n) (b k (by simp)) h;obtain⟨c,d⟩:=zDK (n:=n) a (l:=zEn n l k) (λj f=>by rw[ln,zDi];exact b j (by simp[f])) e;exact⟨c,d.trans<|zDi _ _ _⟩
def zTh {e:Type}(n:Int)(K:List ah->Option e):∀(a:LI) (i:Nat) (l:List ah),(∀k∈a,i0 k (ln l)=true)->
 goL (λ_ k (t:List ah) d=>bif inb k (ln t) then (cond (inb k<|ln t) (d<|up t k<|zo4 (ix t k zD) n) none) else none) K a i l=K (zmC n a l)
 |[],_,_,_=>rfl
 |k::a,i,l,h=>by have c:inb k (ln l)=true:=h k (by simp);simp only[goL,c,cT];exact zTh n K a (i+1) (zEn n l k) (λj b=>by rw[ln,zDi];exact h j (by simp[b]))
def zEo (b:am)(n:Int):am:=bif ieq (ln<|zeE b.ac n) 0 then {b with ak:=ztp b.ak n} else {b with ac:=zmC n (zeE b.ac n) b.ac}
def zf8 (b:am)(n:Int):Bool:=bif zcb b then i0 n 8 else false
def zlo (b:am)(n:Int):am:=bif zf8 b n then zEo b n else b
def zLJ {b:am}{n:Int}:∀k∈zeE b.ac n,i0 k (ln b.ac)=true:=λk a=>by have:=zTt _ _ _ k a;exact qK (by simp only[ln];omega)
def zZS {b:am}{n:Int}(h:ieq (ln<|zeE b.ac n) 0=true):zmC n (zeE b.ac n) b.ac=b.ac:=by have a:((zeE b.ac n).length:Int)=0:=qF h;have:zeE b.ac n=[]:=uS.1 (by omega);rw[this];rfl
def zZR {b:am}{n:Int}:(cond (ieq (ln<|zeE b.ac n) 0) (some [AV.agg<|Ty.cells .bare ⟨b.ag,zmC n (zeE b.ac n) b.ac,b.Outs,ztp b.ak n⟩,AV.one<|.b true])<|some [AV.agg<|Ty.cells .bare ⟨b.ag,zmC n (zeE b.ac n) b.ac,b.Outs,b.ak⟩,AV.one<|.b true])=some [AV.agg<|Ty.cells .bare<|zEo b n,AV.one<|.b true]:=by unfold zEo;cases h:ieq (ln<|zeE b.ac n) 0;{rfl};{simp only [cT,zZS h]}
@[simp] abbrev zfe (b:am)(n:Int):am:=zlo b n
@[simp] abbrev zg0 (b:am)(n:Int):Bool:=zf8 b n
def zqO:Run:=rF2 (dT .bare) dI λb c=>(zie b c,[aT .bare<|zfe b c,aB<|zg0 b c])
def zBX (N:Nat)(i:am)(e:Int):OA:=
 let b:=zcu i; (oN (zdW i)<|oN (zpy b)<|cond (nB<|zfo b) (some [aT .bare b,aB false])<|oN (zN e 0 7)<|cond (nB<|zk e 0 7) (some [aT .bare b,aB false])<|oN (zie b e)<|r0 (σ:=(Int×Int×Int×Int×LI×lM×lG×LI×lM×lG×LI×Unit)) N (λj a=>let b:=a.2.2.2.2.2;let h:=b.2.2.1;let d:=a.2.2.2.2.1;let c:=b.2.1;let f:=ix d a.2.1 0;let g:=ix c f zD; (cond (ilt a.2.1<|ln d) (oN (inb a.2.1<|ln d)<|oN (inb a.2.1<|ln d)<|oN (inb f<|ln c)<|oN (zk8 g.ak a.1)<|oN (inb f<|ln c)<|j (a.1,zK .i64 a.2.1 1,a.2.2.1,a.2.2.2.1,d,b.1,up c f ({g with ak:=(zhM g.ak a.1)}:ah),h,b.2.2.2.1,b.2.2.2.2.1,b.2.2.2.2.2.1,()))<|cond (ieq (ln d) 0) (oN (zk8 a.2.2.1 a.1)<|some [aT .bare (⟨b.1,c,h,zhM a.2.2.1 a.1⟩:am),aB true])<|some [aT .bare (⟨b.1,c,h,a.2.2.1⟩:am),aB true])) (e,0,b.ak,0,zmM b e,b.ag,b.ac,b.Outs,[],[],[],()))
def zOR:=zx [(164,0,{n:=62,tm:=[(1,ti),(2,.lp 0 0),(4,.lp 1 0),(6,.sl 0 []),(7,ti)],lo:=[(0,[.sl 1 [],.sl 2 [],.sl 3 [],ti]),(1,[.sl 4 [],.sl 5 [],.sl 6 [],ti])],ro:=[(0,.int,true),(1,.sl .int,true),(2,.guest,true),(3,.int,true),(4,.sl .int,true),(5,.guest,true),(6,.int,true)]})]
def zN4 (a:am)(c:Int)(l:zie a c=true):∃N,zBX N a c=some [aT .bare<|zfe a c,aB<|zg0 a c]:=by
 have h:=zS.1 l;have j:(zeE a.ac c).length<=big:=qU (zzs _ _ _) (zcV h.2.1.1).1;refine zcj λN g=>?_;unfold zBX zfe zg0 zlo zf8 oN nB;conv=>zeta
 refine j0 (zY h) (j0 rfl (brN (λe=>?_) λe=>j0 rfl (brN (λd=>?_) λd=>j0 (zY h) ?_)));{simp only [show zcb a=false from e,cF]};{simp only [show zcb a=true from e,show i0 c 8=false from by first|exact d|exact(z3y c).symm.trans d,cT,cF]};simp only[show zcb a=true from e,show i0 c 8=true from by first|exact d|exact(z3y c).symm.trans d,cT];refine(zbq (zmM (zcu a) c) (λi (t:lG)=>(c,(i:Int),(zcu a).ak,0,zmM (zcu a) c,(zcu a).ag,t,(zcu a).Outs,[],[],[],())) _ (λ_ k (t:List ah) m=>bif inb k (ln t) then (cond (inb k<|ln t) (m<|up t k<|zo4 (ix t k zD) c) none) else none) (λ(t:lG)=>cond (ieq (ln<|zmM (zcu a) c) 0) (cond (zk8 (zcu a).ak c) (some [.agg<|Ty.cells .bare (⟨(zcu a).ag,t,(zcu a).Outs,zhM (zcu a).ak c⟩:am),.one<|.b true]) none)<|some [.agg<|Ty.cells .bare (⟨(zcu a).ag,t,(zcu a).Outs,(zcu a).ak⟩:am),.one<|.b true]) (λi f t rec=>?_) (λt rec=>?_) _ ((zcu a).ac)<|g j).trans ?_;{simp only [zbu f,zT f,zbi f,zbj f j,cT];rfl};{simp only [zbh,cF];rfl};exact(zTh c _ _ 0 _ zLJ).trans zZR
def zuh:vR 164 zqO:=kF2 zSY zC zB zq zOR zN4
end
end Go.Proofs.YtapgkefgcbapcaaGreat.E
namespace Go.Proofs
open Go Go.Shelf
def Tryz.laysMul_ren:Go.Shelf.Ren:=⟨fun|212=>449|263=>470|264=>471|n=>n,fun|46=>268|51=>300|146=>301|53=>303|148=>304|n=>n,fun|n=>n⟩
theorem Tryz.laysMul:Go.Proofs.Lays.n212 Tryz.prog Tryz.laysMul_ren:={
 mixed:=by kernel_rfl
 f212:=Tryz.func449.trans (congrArg some (by kernel_rfl))
 f263:=Tryz.func470.trans (congrArg some (by kernel_rfl))
 f264:=Tryz.func471.trans (congrArg some (by kernel_rfl))
 t46:=Tryz.underlying268
 a46:=Tryz.isAgg268
 z46:=Tryz.sizeOf268
 v46:=Tryz.zeroValue268
 t51:=Tryz.underlying300
 a51:=Tryz.isAgg300
 z51:=Tryz.sizeOf300
 v51:=Tryz.zeroValue300
 t53:=Tryz.underlying303
 a53:=Tryz.isAgg303
 z53:=Tryz.sizeOf303
 v53:=Tryz.zeroValue303
 t146:=Tryz.underlying301
 a146:=Tryz.isAgg301
 z146:=Tryz.sizeOf301
 v146:=Tryz.zeroValue301
 t148:=Tryz.underlying304
 a148:=Tryz.isAgg304
 z148:=Tryz.sizeOf304
 v148:=Tryz.zeroValue304}
end Go.Proofs
namespace Go.Proofs.YtapgkefgcbapcaaGreat.E
open Go
set_option linter.defProp false
set_option linter.constructorNameAsVariable false
set_option linter.unusedVariables false
set_option maxRecDepth 100000
set_option linter.unusedSimpArgs false
set_option linter.unusedSectionVars false
noncomputable section
section
open Go Go.RowKit Go.Proofs
def z2o (x y:Nat)(a:x<18446744073709551616)(b:y<18446744073709551616)(w:World) :
 Calls Tryz.prog 449 #[.int .u64 x,.int .u64 y] w λe c=>e = .returned (.tuple #[.int .u64 ((x*y / 18446744073709551616:Nat):Int),.int .u64 ((x*y % 18446744073709551616:Nat):Int)])/\c=w :=
 Any.bits_Mul Tryz.laysMul x y a b w
def zLr (y:Nat)(b:y<1000)(w:World):Calls Tryz.prog 449 #[.int .u64 1,.int .u64 y] w λe a=>e = .returned (.tuple #[.int .u64 0,.int .u64 y])/\a=w:=by have h:=z2o 1 y (by omega) (by omega) w;rw[show 1*y / 18446744073709551616=0 by omega,show 1*y % 18446744073709551616=y by omega]at h;exact h
def src_of {w:World}{g:Nat}{a b:List Value}{t:TypeId}(hg:w.heap[g]?=some (.cells a.toArray t (0,0)))(h:∀(j:Nat) v,b[j]?=some v->a[j]?=some v)(j:Nat)(v:Value)(d:b[j]?=some v):w.cell? ((⟨g,0,none⟩:Addr).add j)=some v:=by have c:(⟨g,0,none⟩:Addr).add j=⟨g,j,none⟩:=(by unfold Addr.add;split<;>simp_all);rw[c];simp[World.cell?,hg,h j v d]
def zYD {B:Nat}{a w:World}(h:Below B a w):Below B a w.drew:=h.trans ⟨rfl,rfl,rfl,qQ _,λ_ _=>rfl⟩
def alloc_at (w:World)(o:Obj):(w.alloc o).heap[w.heap.size]?=some o:=by unfold World.alloc;exact Array.getElem?_push_size
section
variable {P:Program}
def zAR (w:World)(dT x ty f:TypeId)(g o c h:Nat)(a:Addr)(d m:Nat)(b:LV)(t:TypeId)(e:List Value)(i:TypeInfo)(u:P.underlying dT=some (.slice f))(s:P.info? f=some i)(hg:w.heap[g]?=some (.cells b t (0,0)))(r:e.length=Nat.min d c*i.size)(l:∀j v,e[j]?=some v->w.cell? (a.add j)=some v)(k:o+e.length<=b.size)(p:∀v∈e,v.oneCell'=true) :
 (Builtin.copy_ #[dT,x] ty #[.slice (some ⟨g,o,none⟩) c h,.slice (some a) d m]).run P w =
  .ok (goInt<|Nat.min d c) (w.setRow g (b.toList.take o++e++b.toList.drop (o+e.length)).toArray):=by
 have q:=run_loadCells_list (P:=P) w a e l;have n:=run_storeCells_at P g o t e 0 b w hg (by simpa using k) p
 simp[Builtin.copy_,run_underlying u,Builtin.lenOf,Builtin.firstCells,sizeOf,typeInfo,s,<- r,q,n]
def zVX {w:World}{z:Array Oper}{m:List Oper}{o:Oper}{a:Act}{Q:Exit->Act->World->Prop}(E:o.guard=none)(d s:Operand)(dT G:TypeId)(O:o.op = .call {callee:=.builtin .copy,args:=#[d,s],argTypes:=#[dT,G]})(c:TypeId)(S:P.underlying dT=some (.slice c))(i:TypeInfo)(F:P.info? c=some i)(g k b l:Nat)(C:Addr)(e p:Nat)(M:a.eval d = .slice (some ⟨g,k,none⟩) b l)(R:a.eval s = .slice (some C) e p)(f:List Value)(t:TypeId)(hg:w.heap[g]?=some (.cells f.toArray t (0,0)))(q:List Value)(n:Nat)(u:Nat.min e b=n)(N:q.length=n*i.size)(y:∀j v,q[j]?=some v->w.cell? (C.add j)=some v)(r:k+q.length<=f.length)(I:∀v∈q,v.oneCell'=true)(B:Nat)(H:World)(L:Below B H w)(D:B<=g)(h:∀A,Hid (A.heap[g]?=some (.cells (C0 f k q).toArray t (0,0)))->Below B H A->A.heap.size=w.heap.size->wpList P z Q m (a.put o.dst<|goInt n) A) :
 wpList P z Q (o::m) a w:=by
 refine wpList_plain E λK J=>?_;subst u;have x:=zAR (P:=P) w dT G o.type c g k b l C e p f.toArray t q i S F hg N y (by simpa using r) I
 unfold Oper.wp;simp[execOp,O,resolve,invoke,builtin,M,R,x,Result.andThen];exact J _ _ (by simpa using h _ (show _=_ by simpa [C0] using setRow_heap w g _ _ t _ hg) (below_setRow L D _) (by simp[World.setRow]))
def z0w {y:Array Oper}{o:Oper}{a:Act}{w:World}{K:Act->World->Prop}{Q:Exit->Act->World->Prop}{E:Prop}(D:o.guard=none)(d s:Operand)(dT G:TypeId)(N:o.op = .call {callee:=.builtin .copy,args:=#[d,s],argTypes:=#[dT,G]})(c:TypeId)(R:P.underlying dT=some (.slice c))(i:TypeInfo)(F:P.info? c=some i)(g k b l:Nat)(A:Addr)(e m:Nat)(L:a.eval d = .slice (some ⟨g,k,none⟩) b l)(O:a.eval s = .slice (some A) e m)(f:List Value)(t:TypeId)(hg:w.heap[g]?=some (.cells f.toArray t (0,0)))(p:List Value)(n:Nat)(r:Nat.min e b=n)(M:p.length=n*i.size)(x:∀j v,p[j]?=some v->w.cell? (A.add j)=some v)(q:k+p.length<=f.length)(I:∀v∈p,v.oneCell'=true)(B:Nat)(H:World)(J:Below B H w)(C:B<=g)(h:∀z,Hid (z.heap[g]?=some (.cells (C0 f k p).toArray t (0,0)))->Below B H z->z.heap.size=w.heap.size->K (a.put o.dst<|goInt n) z) :
 if Region.wanted o (yielded y a.tmps)=true then Oper.wp P o a w K Q else E:=by
 have S:Region.wanted o (yielded y a.tmps)=true:=by simp[Region.wanted,D]
 rw[if_pos S];subst r;have u:=zAR (P:=P) w dT G o.type c g k b l A e m f.toArray t p i R F hg M x (by simpa using q) I
 unfold Oper.wp;simp[execOp,N,resolve,invoke,builtin,L,O,u,Result.andThen];exact h _ (show _=_ by simpa [C0] using setRow_heap w g _ _ t _ hg) (below_setRow J C _) (by simp[World.setRow])
end
def zee (a b:Value):Nat->List Value
 | 0=>[]
 |n+1=>a::b::zee a b n
def zic (a b:Value):∀n,(zee a b n).length=n*2
 | 0=>rfl
 |n+1=>by simp[zee,zic a b n];omega
def zuB (a b:Value)(m:Nat):∀n,zee a b (n+m)=zee a b n++zee a b m
 | 0=>by simp[zee]
 |n+1=>by rw[show n+1+m=n+m+1 by omega];simp[zee,zuB a b m n]
def zIG {a b v:Value}:∀{n},v∈zee a b n->v=a\/v=b
 |n+1,h=>by simp[zee]at h;rcases h with h|h|h;{exact .inl h};{exact .inr h};{exact zIG h}
def zUO (a b:Value):∀{n j:Nat},j<n->(zee a b n)[j*2]?=some a/\(zee a b n)[j*2+1]?=some b
 |n+1,0,_=>⟨rfl,rfl⟩
 |n+1,j+1,h=>by have:=zUO a b (n:=n) (j:=j) (by omega);rw[show (j+1)*2=j*2+1+1 by omega];simpa [zee] using this
def pat (a b c d:Value)(k m:Nat):List Value:=zee a b k++zee c d m
def zXZ (a b c d:Value)(k m:Nat):(pat a b c d k m).length=(k+m)*2:=by simp[pat,zic];omega
def zLH (a b c d:Value)(k m r:Nat)(h:r<=m):C0 (pat a b c d k m) (k*2) (zee a b r)=pat a b c d (k+r) (m-r):=by
 unfold C0 pat;have g:m=r+(m-r):=(by omega);have e:(zee a b k++zee c d m).take (k*2)=zee a b k:=by rw[List.take_append_of_le_length (by simp[zic]),uY (by simp[zic])]
 have f:(zee a b k++zee c d m).drop (k*2+(zee a b r).length)=zee c d (m-r):=by
  rw[<- zic a b k,List.drop_append,k8 (by simp[zic]),jT,Nat.add_sub_cancel_left];conv=>lhs;rw[g,zuB]
  rw[List.drop_append,k8 (by simp[zic])];simp[zic]
 rw[e,f,zuB,j8]
def zWP {a b c d:Value}{m:Nat}(h:1<=m):C0 (pat c d c d 0 m) 0 (zee a b 1)=pat a b c d 1 (m-1):=by have:=zLH a b c d 0 m 1 h;simpa [pat,zee] using this
def z9m (a b c d:Value)(k m r:Nat)(f:r<=k)(j:Nat)(v:Value)(h:(zee a b r)[j]?=some v):(pat a b c d k m)[j]?=some v:=by have e:j<(zee a b r).length:=(qA.1 h).1;unfold pat;rw[show k=r+(k-r) by omega,zuB,j8,qT e,h]
def z4V (c d:Value)(n:Nat):(madeCells #[c,d] (n*2)).toList=zee c d n:=by induction n with|zero=>simp[madeCells,zee,vH]|succ n a=>rw[zuB c d 1 n,<- a];unfold madeCells;rw[show (n+1)*2=n*2+1+1 by omega,Array.range_succ,Array.range_succ];simp[zee]
def zPV:∃i:TypeInfo,Tryz.prog.info? 91=some i/\i.size=2/\i.bytes=16/\i.zero=some (.agg #[.int .i64 0,.int .i64 0]):=by have h:(Tryz.prog.info? 91).map (λi=>(i.size,i.bytes))=some (2,16):=(by kernel_rfl);have a:(Tryz.prog.info? 91).bind (λi=>i.zero)=some (.agg #[.int .i64 0,.int .i64 0]):=(by kernel_rfl);cases b:Tryz.prog.info? 91 with|none=>rw[b]at h;cases h|some i=>rw[b]at h a;simp at h a;exact⟨i,rfl,h.1,h.2,a⟩
def zZB (w:World)(l:Nat)(e:l<=24):(Instr.makeSlice 92 (.int .i64 l)<|.int .i64 l).run Tryz.prog w = .ok (.slice (some ⟨w.heap.size,0,none⟩) l l) (w.alloc<|.cells (pat (.int .i64 0) (.int .i64 0) (.int .i64 0) (.int .i64 0) 0 l).toArray 91):=by obtain⟨i,b,c,a,d⟩:=zPV;have:=run_make (P:=Tryz.prog) w 92 91 i _ Tryz.underlying92 b d .i64 .i64 l l (by omega) (by omega) (by rw[a];omega) (by omega);rw[this,c];simp only[j4];rw[show (Value.agg #[.int .i64 0,.int .i64 0]).cells = #[.int .i64 0,.int .i64 0] from by kernel_rfl];simp only[pat,zee,jT,<- z4V,jN]
def zWQ (b a p n:Nat)(f h:Value)(w:World)(Q:1<=n)(B:n<=24)(G:w.cell? ⟨b,a,none⟩=some f)(H:w.cell? ⟨b,a+1,none⟩=some h)(J:b<w.heap.size)(S:f.oneCell'=true)(T:h.oneCell'=true) :
 Calls Tryz.prog 365 #[.slice (some ⟨b,a,none⟩) 1 p,.int .i64 n] w λe z=>∃g,e = .returned (.slice (some ⟨g,0,none⟩) n n)/\w.heap.size<=g/\z.heap[g]?=some (.cells (zee f h n).toArray 91 (0,0))/\Below w.heap.size w z:=by
 have P:=λw=>zZB w n B;obtain⟨y,d,t,-,-⟩:=zPV;have s:∀(x:Obj) (j:Nat) (v:Value),(zee f h 1)[j]?=some v->(w.alloc x).cell? ((⟨b,a,none⟩:Addr).add j)=some v:=by
  intro x j v m;have q:Below w.heap.size w (w.alloc x):=(Below.refl _ _).alloc (qQ _) _;have L:j<2:=(by simpa [zee] using (qA.1 m).1);have I:(⟨b,a,none⟩:Addr).add j=⟨b,a+j,none⟩:=(by unfold Addr.add;split<;>simp_all);rw[I,q.cell (by exact J)]
  match j,L with
  | 0,_=>cases m;exact G
  | 1,_=>cases m;exact H
 go_enter Tryz.func365,Tryz.ntmps365
 go_wp2_with (go_at_fn 449;refine(zLr n (by omega) _).mono ?_;rintro e z ⟨rfl,E⟩;rw[E])
 .refine(zLr n (by omega) _).mono ?_
  rintro e z ⟨rfl,E⟩
  rw[E]
  go_wp2_with (refine zVX rfl (.tmp 31) (.tmp 32) 92 92 rfl 91 Tryz.underlying92 y d w.heap.size 0 n n ⟨b,a,none⟩ 1 p rfl rfl (pat (.int .i64 0) (.int .i64 0) (.int .i64 0) (.int .i64 0) 0 n) 91 (alloc_at _ _) (zee f h 1) 1 (by show min 1 n=1;omega) (by rw[t];rfl) (s _) (by simp[zee,zXZ];omega) (by intro v m;rcases zIG m with rfl|rfl<;>assumption) w.heap.size w ((Below.refl _ _).alloc (qQ _) _) (qQ _) ?_;intro R c l D)
  rw[zWP (by omega)] at c
  go_loopw [8] (λi wr=>∃k:Nat,1<=k/\k<=n/\i = .int .i64 k/\wr.heap[w.heap.size]?=some (.cells (pat f h (.int .i64 0) (.int .i64 0) k<|n-k).toArray 91 (0,0))/\Below w.heap.size w wr) (λi _=>n-(intOf i).toNat)
  case atStart=>exact⟨1,qQ _,Q,rfl,c.out,l⟩
  case round=>
   obtain⟨k,M,N,rfl,A,F⟩:=hrel
   by_cases O:k<n
   .obtain⟨r,hr⟩:∃r,r=min k (n-k):=⟨_,rfl⟩;have K:(k:Int)<=(n:Int):=by omega
    have C:n≠k:=by omega
    have u:IntKind.i64.wrap ((k:Int)+(r:Int))=((k+r:Nat):Int):=by rw[IntKind.wrap_i64];omega
    go_wp2_with fail
    go_region_law (refine z0w rfl (.tmp 41) (.tmp 44) 92 92 rfl 91 Tryz.underlying92 y d w.heap.size (k*2) (n-k) (n-k) ⟨w.heap.size,0,none⟩ k n (by simp[Act.eval,Act.put,C]) (by simp[Act.eval,Act.put]) (pat f h (.int .i64 0) (.int .i64 0) k<|n-k) 91 A (zee f h r) r hr.symm (by rw[t,zic]) (src_of A<|z9m _ _ _ _ _ _ _ (by omega)) (by simp[zic,zXZ];omega) (by intro v m;rcases zIG m with rfl|rfl<;>assumption) w.heap.size w (zYD F) (qQ _) ?_;intro R c l D)
    go_simp
    go_roundw
    case rel=>
     refine⟨_,_,_,_,_,_,_,_,_,_,_,_,_,_,⟨k+r,by omega,by omega,?_,?_,l⟩,rfl⟩
     .rw [<- hr,u]
     .rw [show n-(k+r)=n-k-r by omega,<- zLH _ _ _ _ _ _ _ (by omega)]
      exact c.out
    case measure=>
     show n-(intOf<|.int .i64<|IntKind.i64.wrap<|(k:Int)+((min k (n-k):Nat):Int)).toNat<n-(intOf<|.int .i64 k).toNat
     rw[<- hr,u];simp only[intOf,j4];omega
   .obtain rfl:k=n:=by omega
    go_wp2
    go_ret
    refine⟨_,rfl,qQ _,?_,F⟩;rw[A];simp[pat,zee]
def zWN (w:World):Calls Tryz.prog 210 #[] w λe a=>e = .returned (.agg #[.int .i64<|-1,.int .i64 0])/\Below w.heap.size w a:=by go_enter Tryz.func210,Tryz.ntmps210;go_wp2;refine bodyPost_ret (results_cell_row (by rfl) _ _ w.heap.size 91 #[.int .i64<|-1,.int .i64 0] (0,0) _ rfl (alloc_at _ _) Tryz.underlying91 rfl (by kernel_rfl)) rfl ?_;exact⟨rfl,(Below.refl _ _).alloc (qQ _) _⟩
def zSF (n:Nat)(w:World)(a:n<=24):Calls Tryz.prog 103 #[.int .i64 n,.int .i64 0,.int .i64 24] w λe b=>e = .returned (.int .i64 n)/\Below w.heap.size w b:=by
 go_enter Tryz.func103,Tryz.ntmps103;go_wp2
 all_goals first
  |omega
  |(go_ret;exact⟨by first|rfl|(congr 3;omega),Below.refl _ _⟩)
def zAt (w:World)(c:LV)(t:TypeId){i:Nat}{v:Value}(h:c[i]?=some v):(w.alloc<|.cells c t).cell? ⟨w.heap.size,i,none⟩=some v:=by rw[World.cell?_alloc_at (w:=w) c t _ _ rfl,h]
def z0x (n:Nat)(w:World)(k:1<=n)(d:n<=24) :
 Calls Tryz.prog 190 #[.int .i64 n] w λe j=>∃g,e = .returned (.slice (some ⟨g,0,none⟩) n n)/\w.heap.size<=g/\j.heap[g]?=some (.cells (zee (.int .i64<|-1) (.int .i64 0) n).toArray 91 (0,0))/\Below w.heap.size w j:=by
 go_enter Tryz.func190,Tryz.ntmps190
 go_wp2_with fail
 refine(zWN _).mono ?_
 rintro e h ⟨rfl,c⟩
 go_wp2_with fail
 refine(zSF n _ d).mono ?_
 rintro e l ⟨rfl,a⟩
 go_wp2_with fail
 have b:(h.alloc<|.cells #[.int .i64<|-1,.int .i64 0] 91).heap.size=h.heap.size+1:=by simp
 have m:=c.size;have p:=a.size;rw[b] at p;refine(zWQ h.heap.size 0 1 n (.int .i64<|-1) (.int .i64 0) l k d (by rw[a.cell (by show h.heap.size<_;rw[b];omega)];exact zAt _ _ _ rfl) (by rw[a.cell (by show h.heap.size<_;rw[b];omega)];exact zAt _ _ _ rfl) (by omega) rfl rfl).mono ?_
 rintro e q ⟨g,rfl,hg,f,i⟩
 go_wp2
 go_ret
 exact⟨g,rfl,by omega,f,((c.alloc m _).trans (a.mono (by omega))).trans (i.mono (by omega))⟩
@[simp] abbrev zjC (n:Int):Bool:=ile 1 n&&ile n 24
@[simp] abbrev zhx (n:Int):List k0:=List.replicate n.toNat ⟨-1,0⟩
def zmF:LW
 |[.one<|.i .i64 n]=>some (zjC n,[.one<|.s .slot<|zhx n])
 |_=>none
def zuf:vR 190 zmF:=by
 refine⟨zjs (by kernel_rfl),?_⟩;intro w C B L f a;unfold zmF at a;split at a
 .rename_i n;simp only[qC,jS,zjC,qE,ile,q9]at a;obtain⟨⟨F,G⟩,rfl⟩:=a;have I:B.length=1:=f.1
  match B,I with
  |[A],_=>
   have D:Rep false w A (.i .i64 n) (λb=>b<w.heap.size):=f.2 0 _ A rfl rfl;obtain rfl:=D.int_inv;obtain⟨m,rfl⟩:∃m:Nat,n=(m:Int):=⟨n.toNat,by omega⟩;refine(z0x m w (by omega) (by omega)).mono ?_;rintro r z ⟨g,rfl,hg,k,l⟩;have H:g<z.heap.size:=(qL.1 k).1;have d:(zhx (m:Int)).length=m:=(by simp);refine⟨⟨l.os,l.tape,l.output,l.size,λb E=>l.block b E⟩,[_],λ_ x=>x=g,zdn.o ⟨rfl,λi c x y t=>?_⟩,rfl,Fresh.o ⟨λi x _ h=>⟨by omega,by omega⟩,λi j x p q _ _=>?_⟩⟩
   .cases i with
    |zero=>
     cases y;cases t;have:=Rep.sl (o:=true) (w:=z) .slot (zhx (m:Int)) g 0 m _ _ (0,0) (λ_ j=>if j=0 then .int .i64 (-1) else .int .i64 0) (λ_ _ _=>False) (λx=>x=g) k (λ_=>rfl)
      (by rw[d];unfold big;omega) (by rw[d];exact qQ _) (by simp[zic,Ty.wi]) rfl (λi j x _ _ h=>h.elim) (λ_ i j J K x _ _ _ _ h=>h.elim)
      (λi j p q=>by
       rw[d]at p;have s:j<2:=q;have v:=zUO (.int .i64<|-1) (.int .i64 0) p
       match j,s with
       | 0,_=>simpa [show Ty.wi .slot=2 from rfl] using v.1
       | 1,_=>simpa [show Ty.wi .slot=2 from rfl] using v.2)
      (λi x t j c e=>by
       have u:x=⟨-1,0⟩:=by have:=qH t;simpa using (k7.1 this).2
       subst u
       match j,e with
       | 0,e=>cases e;exact .i _ _ _
       | 1,e=>cases e;exact .i _ _ _)
     rw[d] at this;exact this
    |succ i=>simp[zy,AV.cvs]at y
   {simp [zy,AV.cvs]at p q;omega}
 {cases a}
end
def z0Q:zW:=[(157,zsL),(158,zpd),(159,zn9),(160,zob),(161,zoa),(162,zsK),(165,zsJ),(164,zqO),(190,zmF)]++z7i
def zvq:zL z0Q:=zh zvJ (zh zs5<|zh zsb<|zh zsd<|zh zsc<|zh zvI<|zh zvH<|zh zuh<|zh zuf zSY)
def z3n {n:Int}(h:(ieq n 4||ieq n 8)=true):n=4\/n=8:=by rcases kG _ _ ▸ h with h|h;{exact .inl (qF h)};{exact .inr (qF h)}
def zP6 {n:Int}(h:(ieq n 8||ieq n 12)=true):n=8\/n=12:=by rcases kG _ _ ▸ h with h|h;{exact .inl (qF h)};{exact .inr (qF h)}
@[simp] abbrev zjP (n:Int):Bool:=ieq n 4||ieq n 8
@[simp] abbrev zhC (n:Int):List k0:=List.replicate n.toNat ⟨-1,0⟩
def zqS:Run:=rF1 dI λb=>(zjP b,[aS .slot<|zhC b])
def zSs (N:Nat)(b:Int):OA:=
 (oN (zi8 b 0 24)<|r0 (σ:=(Int×lS×Unit)) N (λc a=>cond (igt a.1 0) (oN zbU<|oN (few<|ln<|ap a.2.1 [zbl])<|c (wsub .i64 a.1 1,ap a.2.1 [zbl],()))<|some [aS .slot a.2.1]) (zhI b 0 24,[],()))
def zOV:=zx [(196,0,{n:=17,tm:=[(3,.sl 0 []),(4,ti)],lo:=[],ro:=[(0,.slot,true)]})]
def zOf (a:Int)(b:zjP a=true):∃N,zSs N a=some [aS .slot<|zhC a]:=by refine⟨30,?_⟩;have h:a=4\/a=8:=z3n b;rcases h with rfl|rfl<;>(change _=_;kernel_rfl)
def zuk:vR 196 zqS:=kF1 zvq zC zB zq zOV zOf
@[simp] abbrev ziU (n:Int):Bool:=ieq n 8||ieq n 12
@[simp] abbrev ze3 (n:Int):List LI:=List.replicate n.toNat [0,0,0,0]
def zjM:Run:=rF1 dI λb=>(ziU b,[aS (.sl .int)<|ze3 b])
def zYt (N:Nat)(b:Int):OA:=
 (oN (zi8 b 0 24)<|r0 (σ:=(Int×lM×Unit)) N (λc a=>cond (igt a.1 0) (oN (cond (few 4) (ieq 4 4) false)<|oN (few<|ln<|ap a.2.1 [rp 4 0])<|c (wsub .i64 a.1 1,ap a.2.1 [rp 4 0],()))<|some [aS (.sl .int) a.2.1]) (zhI b 0 24,[],()))
def zVG:=zx [(184,0,{n:=17,tm:=[(3,.sl 0 []),(4,ti)],lo:=[],ro:=[(0,.sl .int,true)]})]
def zTV (a:Int)(b:ziU a=true):∃N,zYt N a=some [aS (.sl .int)<|ze3 a]:=by refine⟨30,?_⟩;have h:a=8\/a=12:=zP6 b;rcases h with rfl|rfl<;>(change _=_;kernel_rfl)
def zxN:vR 184 zjM:=kF1 zvq zC zB zq zVG zTV
def zYs (N:Nat)(b:Int):OA:=
 (r0 (σ:=(Int×Int×lM×Unit)) N (λc a=>oN (zi8 a.1 0 24)<|cond (ilt a.2.1<|zhI a.1 0 24) (oN (cond (few 4) (ieq 4 4) false)<|oN (few<|ln<|ap a.2.2.1 [rp 4 0])<|c (a.1,zK .i64 a.2.1 1,ap a.2.2.1 [rp 4 0],()))<|some [aS (.sl .int) a.2.2.1]) (b,0,[],()))
def zVx:=zx [(188,0,{n:=17,tm:=[(0,ti),(3,.sl 0 []),(4,ti)],lo:=[],ro:=[(0,.sl .int,true)]})]
def zTF (a:Int)(b:ziU a=true):∃N,zYs N a=some [aS (.sl .int)<|ze3 a]:=by refine⟨30,?_⟩;have h:a=8\/a=12:=zP6 b;rcases h with rfl|rfl<;>(change _=_;kernel_rfl)
def zxJ:vR 188 zjM:=kF1 zvq zC zB zq zVx zTF
def z0R:zW:=[(196,zqS),(184,zjM),(188,zjM)]++z0Q
def zCp:zL z0R:=zh zuk (zh zxN<|zh zxJ zvq)
def zjV:List k0:=List.replicate 4 ⟨-1,0⟩
def zdO (p:List Ins):ah:=⟨p,0,0,zjV,zjV,⟨0,0,false⟩,0,⟨0,0,false,0⟩,false,[]⟩
@[simp] abbrev zfY (p:List Ins):Bool:=pc (p.length<=1048576)
@[simp] abbrev zb1 (p:List Ins):ah:=zdO p
def zgs:Run:=rF1 (dS .ins) λb=>(zfY b,[aT .guest<|zb1 b])
def zB0 (N:Nat)(a:lI):OA:=
 (oN (few<|ln<|ap [] a)<|oN (zjP 4)<|oN (zjP 4)<|some [aT .guest (⟨ap [] a,0,0,zhC 4,zhC 4,⟨0,0,false⟩,0,⟨0,0,false,0⟩,false,[]⟩:ah)])
def zN7 (a:List Ins)(b:zfY a=true):∃N,zB0 N a=some [aT .guest<|zb1 a]:=by have c:=zS.1 b;refine⟨0,?_⟩;unfold zB0 oN;refine mu (j0 rfl (j0 rfl ?_));first|rfl|(simp only [*,zb1,zdO,zjV,cT,cF]<;>rfl)|simp_all[Ty.cells,zb1,zdO,zjV]
def zn4:vR 197 zgs:=kF1 zCp zC zB zq (zx []) zN7
def zBH (N:Nat)(a:lI):OA:=
 (oN (zo3 a)<|oN (zjC 4)<|oN (zjC 4)<|some [aT .guest (⟨zmw a,0,0,zhx 4,zhx 4,⟨0,0,false⟩,0,⟨0,0,false,0⟩,false,[]⟩:ah)])
def zNQ (a:List Ins)(b:zfY a=true):∃N,zBH N a=some [aT .guest<|zb1 a]:=by have c:=zS.1 b;refine⟨0,?_⟩;unfold zBH oN;refine mu (j0 rfl (j0 rfl ?_));first|rfl|(simp only [*,zb1,zdO,zjV,cT,cF]<;>rfl)|simp_all[Ty.cells,zb1,zdO,zjV]
def zue:vR 191 zgs:=kF1 zCp zC zB zq (zx []) zNQ
def z97:zW:=[(197,zgs),(191,zgs)]++z0R
def zCq:zL z97:=zh zn4 (zh zue zCp)
def zOq:List LI:=List.replicate 8 [0,0,0,0]
def zyW (a:List (List Ins)):Prop:=a.length<=1048576/\∀p∈a,p.length<=1048576
def zUj {c b g:Type}(f:c->b)(K:List b->Option g):∀(l:List c) (i:Nat) (a:List b),a.length+l.length<=2147483648->
 goL (λ_ x a k=>bif few (ln<|ap a [f x]) then k (ap a [f x]) else none) K l i a=K (a++l.map f)
 |[],i,a,_=>by simp[goL]
 |x::l,i,a,e=>by simp only[qW]at e;have d:few (ln<|ap a [f x])=true:=zfO (by simp[ap];omega);simp only[goL,d,cT];rw[zUj f K l (i+1) (ap a [f x]) (by simp[ap];omega)];simp[ap]
def zP3 {d c j:Type}(m:Nat)(f:d->c)(K:List c->Option j):∀(l:List d) (i:Nat) (a:List c),a.length+l.length<=2147483648->
 goL (λ(i:Nat) x a k=>bif ilt (i:Int) (m:Int) then (cond (few<|ln<|ap a [f x]) (k<|ap a [f x]) none) else K a) K l i a=K (a++(l.take<|m-i).map f)
 |[],i,a,_=>by simp[goL]
 |x::l,i,a,g=>by simp only[qW]at g;have e:few (ln<|ap a [f x])=true:=zfO (by simp[ap];omega);by_cases h:i<m;{have b:ilt (i:Int) (m:Int)=true:=qK (by omega);simp only[goL,b,e,cT];rw[zP3 m f K l (i+1) (ap a [f x]) (by simp[ap];omega)];rw[show m-i=m-(i+1)+1 by omega];simp[ap]};{have b:ilt (i:Int) (m:Int)=false:=qV (by omega);simp only[goL,b,cF];rw[show m-i=0 by omega];simp}
def z3q {a:Type}{l:List a}{n:Int}{x:a}(h:x∈tk l n):x∈l:=jU (by exact h)
def z3r {a:Type}(l:List a)(m:Nat):tk l (zgp (ln l) (m:Int))=l.take m/\inr 0 (zgp (ln l) (m:Int)) (ln l)=true:=by unfold tk zgp;by_cases h:(m:Int)<ln l;{rw [if_pos h];simp only[ln]at h;exact⟨by rw[j4],qK (by simp only[ln];omega)⟩};{rw [if_neg h];simp only[ln]at h ⊢;refine⟨by rw[j4,uY<|qQ _,uY (by omega)],qK (by omega)⟩}
@[simp] abbrev zoB (a:GAct):Bool:=true
@[simp] abbrev zyx (a:GAct):Bool:=zk a.Kind 1 17
def zGE:Run:=rF1 (dT .act) λb=>(zoB b,[aB<|zyx b])
def zPb (N:Nat)(a:GAct):OA:=
 (oN (zN a.Kind 1 17)<|some [aB<|zk a.Kind 1 17])
def zWy (a:GAct)(b:zoB a=true):∃N,zPb N a=some [aB<|zyx a]:=by refine⟨0,?_⟩;unfold zPb oN;refine j0 rfl ?_;first|rfl|(simp only [*,zyx,cT,cF]<;>rfl)|simp_all[Ty.cells,zyx]
def zQE:vR 42 zGE:=kF1 zCq zC zB zq (zx []) zWy
@[simp] abbrev zw6 (k:Int):Bool:=true
@[simp] abbrev zsn (k:Int):Bool:=zk k 13 17
def zAZ:Run:=rF1 dI λb=>(zw6 b,[aB<|zsn b])
def zFU (N:Nat)(a:Int):OA:=
 (oN (zN a 13 17)<|some [aB<|zk a 13 17])
def zRg (a:Int)(b:zw6 a=true):∃N,zFU N a=some [aB<|zsn a]:=by refine⟨0,?_⟩;unfold zFU oN;refine j0 rfl ?_;first|rfl|(simp only [*,zsn,cT,cF]<;>rfl)|simp_all[Ty.cells,zsn]
def zKq:vR 40 zAZ:=kF1 zCq zC zB zq (zx []) zRg
@[simp] abbrev zqU (a:GAct):Ctl:=⟨a.X,a.Y,ieq a.Z 1⟩
def zGF:Run:=rF1 (dT .act) λb=>(zoB b,[.agg<|zm0<|zqU b])
def zPc (N:Nat)(a:GAct):OA:=
 (some [.agg [.i .i64 a.X,.i .i64 a.Y,.b<|ieq a.Z 1]])
def zWz (a:GAct)(b:zoB a=true):∃N,zPc N a=some [.agg<|zm0<|zqU a]:=by refine⟨0,?_⟩;unfold zPc;first|rfl|(simp only [*,zqU,cT,cF]<;>rfl)|simp_all[Ty.cells,zqU]
def zQF:vR 38 zGF:=kF1 zCq zC zB zq (zx []) zWz
def zST:zW:=[(157,zsL),(158,zpd),(159,zn9),(160,zob),(161,zoa),(162,zsK),(165,zsJ),(164,zqO),(184,zjM),(188,zjM)]++z7e
def zCs:zL zST:=zh zvJ (zh zs5<|zh zsb<|zh zsd<|zh zsc<|zh zvI<|zh zvH<|zh zuh<|zh zxN<|zh zxJ z4y)
def zc9 (x:Mon):am:=⟨zOq,x.ac,x.Outs,x.ak⟩
def zvl (x:Mon)(b:am):Mon:={x with ac:=b.ac,ak:=b.ak}
def zdi (h:ad)(m:Int)(b:am):ad:={h with aa:=up h.aa m (zvl (ix h.aa m mZ) b)}
@[simp] abbrev zfg (x:Mon):Bool:=pc (ze4 x)
@[simp] abbrev zbP (x:Mon):am:=zc9 x
def zBb:Run:=rF1 (dT .mon) λb=>(zfg b,[aT .bare<|zbP b])
def zGa (N:Nat)(a:Mon):OA:=
 (oN (ziU 8)<|oN (zgh a.ac)<|oN (few<|ln<|ap [] a.Outs)<|some [aT .bare (⟨ze3 8,zgO a.ac,ap [] a.Outs,a.ak⟩:am)])
def zRB (a:Mon)(c:zfg a=true):∃N,zGa N a=some [aT .bare<|zbP a]:=by have b:=zS.1 c;refine⟨0,?_⟩;unfold zGa oN;exact j0 rfl (j0 (zY<|(zvu _).2 b.2.2.2.1) (j0 (zot b.2.2.2.2.1) rfl))
def zKT:vR 332 zBb:=kF1 zCs zC zb6 zjW (zx []) zRB
@[simp] abbrev zff (h:ad)(m:Int)(b:am):Bool:=pc (i0 m (ln h.aa)=true/\zlz b.ac)
@[simp] abbrev zhQ (h:ad)(m:Int)(b:am):ad:=zdi h m b
def zbaL {l:List Mon}{m:Int}(a:i0 m (ln l)=true)(b:am):inb m (ln<|up l m {ix l m mZ with ac:=b.ac})=true/\
 up (up l m {ix l m mZ with ac:=b.ac}) m {ix (up l m {ix l m mZ with ac:=b.ac}) m mZ with ak:=b.ak}=up l m (zvl (ix l m mZ) b):=by
 obtain⟨k,rfl,c⟩:=zd7 (n:=l.length) a;refine⟨zI (by rw[ln,zht];exact a),?_⟩
 rw[zwB,zem c];rfl
def zsR:LW
 |[.agg [.s (.sl .int) b,.s .mon c,.s .entry d,.s .entry e],.one<|.i .i64 f,.agg [.s (.sl .int) g,.s .guest h,.s .int j,.i .i64 k]]=>some (zff (⟨b,c,d,e⟩:ad) f (⟨g,h,j,k⟩:am),[aH<|zhQ (⟨b,c,d,e⟩:ad) f (⟨g,h,j,k⟩:am)])
 |_=>none
def zwM (N:Nat)(b:ad)(a:Int)(c:am):OA:=
 (oN (zgh c.ac)<|oN (inb a<|ln b.aa)<|p0 (up b.aa a ({ (ix b.aa a zi) with ac:=(zgO c.ac)}:Mon)) λd=>oN (inb a<|ln d)<|p0 (up d a ({ (ix d a zi) with ak:=c.ak}:Mon)) λe=>some [aH ({b with aa:=e}:ad)])
def zUq (N:Nat)(a:ad)(b:Int)(c:am):zY3 (cQ zST zqD zZQ z5P) (zx []) N 12 333 [true,true,true,true,false,false,false,false,false] [aH a,aI b,aT .bare c]=zwM N a b c:=by kernel_rfl
def zRA (b:ad)(c:Int)(a:am)(i:zbT big [aH b,aI c,aT .bare a])(h:zff b c a=true):∃N,zwM N b c a=some [aH<|zhQ b c a]:=by obtain⟨d,hg⟩:=zS.1 h;obtain⟨f,g⟩:=zbaL d a;refine⟨0,?_⟩;unfold zwM oN;refine j0 (zY<|(zvu _).2 hg) (j0 (zI d)<|shr<|j0 f<|shr ?_);have e:zgO a.ac=a.ac:=rfl;rw[e];show some [AV.agg<|zbo {b with aa:=_}]=some [AV.agg<|zbo {b with aa:=_}];rw[show zi=mZ from rfl,g]
def zKS:zeA Tryz.prog 333 [true,true,true,true,false,false,false,false,false] none zsR:=by refine zMZ (zg7 zCs zC zb6 zjW) (zjs (by kernel_rfl)) (by kernel_rfl) ?_;intro a g f e h;have c:=zjv e;unfold zsR at h;split at h;{obtain⟨d,rfl⟩:=zeK h;obtain⟨N,b⟩:=zRA _ _ _ (by exact c) d;exact⟨_,N,12,(zUq N _ _ _ ).trans b⟩};{cases h}
def z04:zW:=[(332,zBb)]++zST
def zjY:zL z04:=zh zKT zCs
def zbbf:zgj:=[(333,[true,true,true,true,false,false,false,false,false],none,zsR)]++z5P
def zc7:ze0 zbbf:=zq9 zjW (by
 intro x a;simp only[qG,qP,or_false]at a;rcases a with rfl
 .exact zKS)
def z7S (h:ad)(m:Int)(a:Bool)(B:am)(b c:ad->Ans):OA:=
 bif zby h then (cond (zf4 h m) (cond (cond (zf3 h m) false true) (some<|b h)<|cond (inb m<|ln h.aa) (cond (zfg<|ix h.aa m mZ) (cond a (cond (zff h m B) (some<|c<|zdi h m B) none) none) none) none) none) else none
def zcJ {h:ad}{m:Int}:(zc2 h m=true)↔zcc h=true/\i0 m (ln h.aa)=true:=by unfold zc2;cases zcc h<;>simp
def zop {h:ad}{m:Int}{cB:Bool}{B:am}{o0 o1:ad->Ans}(c:SmH h)(e:zc2 h m=true->cB=true)(d:zc2 h m=true->SmB B):z7S h m cB B o0 o1=some (cond (zc2 h m) (o1<|zdi h m B)<|o0 h):=by unfold z7S;refine j0 (zY<|(zbc h).2 c) (j0 rfl ?_);rw[show zf3 h m=zc2 h m from rfl];cases a:zc2 h m;{rfl};{have b:=(zcJ.1 a).2;exact zb7 rfl (j0 (zI b)<|j0 (zY<|c.2.1.2 _<|zbE b _)<|j0 (e a) (j0 (zY ⟨b,(d a).2.1⟩) rfl))}
structure SameB (b c:am):Prop where
 g:b.ac=c.ac
 p:b.ak=c.ak
 o:zcb b=zcb c
def SameB.at {b c:am}(h:SameB b c)(g:Int):gAt b g=gAt c g:=by unfold gAt;rw[h.g]
def SameB.has {b c:am}(h:SameB b c)(g:Int):zcg b g=zcg c g:=by unfold zcg;rw[h.g,h.o]
def back_eq {h:ad}{m:Int}{b c:am}(hg:b.ac=c.ac)(a:b.ak=c.ak):zdi h m b=zdi h m c:=by unfold zdi zvl;rw[hg,a]
def zqq {b c:am}(a:SameB b c)(h:ad)(m g:Int)(k:Bool)(x:ah):zdi h m (chg b g k x)=zdi h m (chg c g k x):=by unfold chg;rw[a.has];cases (cond (zcg c g) k false);{exact back_eq a.g a.p};{exact back_eq (by simp only[cT,zeZ,a.g]) a.p}
def zmo {b c:am}(a:SameB b c)(g:Int)(k:Bool):zci b g k=zci c g k:=by unfold zci;rw[a.has]
def zj2 {h:ad}{m:Int}(b:zc2 h m=true)(d:zcb (zc9<|ix h.aa m mZ)=true):SameB (zc9<|ix h.aa m mZ) (zM h m):=by obtain⟨c,a⟩:=zcJ.1 b;refine⟨?_,?_,d.trans (zGc c a).symm⟩<;>unfold zM zc9<;>rw [a]<;>rfl
def z81:ziK zOq 8=true:=by decide
def zoI {h:ad}{m:Int}(b:zc2 h m=true):zcb (zc9<|ix h.aa m mZ)=true:=by obtain⟨c,a⟩:=zcJ.1 b;have:=zGc c a;unfold zM at this;rw[a,cT] at this;unfold zcb at this ⊢;simp only[zc9,z81] at *;simp_all
def zfq {x:Mon}(h:ze4 x):SmB (zc9 x):=⟨show SmM zOq from ⟨by decide,by decide⟩,h.2.2.2.1,h.2.2.2.2.1⟩
def zim (h:ad)(m:Int)(b:am):ad:=bif zc2 h m then zdi h m b else h
def zg9 (h:ad)(m:Int)(ok:Bool):Bool:=bif zc2 h m then ok else false
@[simp] abbrev znd (h:ad)(m:Int)(g p:Int)(s:k0):ad:=zim h m (zeP (zM h m) g p s)
@[simp] abbrev zne (h:ad)(m:Int)(g p:Int)(s:k0):Bool:=zg9 h m (zfD (zM h m) g p s)
@[simp] abbrev zjE (h:ad)(m:Int)(g v:Int):ad:=zim h m (zds (zM h m) g v)
@[simp] abbrev zjF (h:ad)(m:Int)(g v:Int):Bool:=zg9 h m (zeo (zM h m) g v)
@[simp] abbrev zjI (h:ad)(m:Int)(g:Int):ad:=zim h m (zdv (zM h m) g)
@[simp] abbrev zjJ (h:ad)(m:Int)(g:Int):Bool:=zg9 h m (zeq (zM h m) g)
@[simp] abbrev zjG (h:ad)(m:Int)(g n:Int):ad:=zim h m (zdu (zM h m) g n)
@[simp] abbrev zjH (h:ad)(m:Int)(g n:Int):Bool:=zg9 h m (zep (zM h m) g n)
@[simp] abbrev znb (h:ad)(m:Int)(g:Int)(x:Ctl):ad:=zim h m (zeO (zM h m) g x)
@[simp] abbrev znc (h:ad)(m:Int)(g:Int)(x:Ctl):Bool:=zg9 h m (zfC (zM h m) g x)
@[simp] abbrev zlM (h:ad)(m:Int)(n:Int):ad:=zim h m (zfe (zM h m) n)
@[simp] abbrev zlN (h:ad)(m:Int)(n:Int):Bool:=zg9 h m (zg0 (zM h m) n)
@[simp] abbrev zm8 (h:ad)(m:Int):ad:=zim h m (zfd<|zM h m)
@[simp] abbrev zm9 (h:ad)(m:Int):Int:=bif zc2 h m then zgG (zM h m) else -1
@[simp] abbrev zna (h:ad)(m:Int):Bool:=zg9 h m (zgH<|zM h m)
@[simp] abbrev zkF (h:ad)(m g p:Int):Bool:=zg9 h m (zci (zM h m) g<|i0 p 4)
def z2F {b c:am}(a:SameB b c)(n:Int):(zlo b n).ac=(zlo c n).ac/\(zlo b n).ak=(zlo c n).ak/\zf8 b n=zf8 c n:=by have e:zf8 b n=zf8 c n:=(by unfold zf8;rw[a.o]);unfold zlo;rw[e];cases zf8 c n;{exact⟨a.g,a.p,rfl⟩};{unfold zEo;rw[a.g];cases ieq (ln<|zeE c.ac n) 0;{exact⟨by simp only[cT,cF],by simp only[cT,cF,a.p],rfl⟩};{exact⟨by simp only[cT,a.g],by simp only[cT,a.p],rfl⟩}}
def z3B {b c:am}(a:SameB b c):(znY b).ac=(znY c).ac/\(znY b).ak=(znY c).ak/\ztU b=ztU c/\znC b=znC c:=by unfold znY ztU znC;rw[a.o,a.p];cases zcb c;{exact⟨a.g,a.p,rfl,rfl⟩};{exact⟨a.g,rfl,rfl,rfl⟩}
def z3e {b:am}{n:Int}(h:SmB b):SmB (zlo b n):=by unfold zlo;cases zf8 b n;{exact h};{unfold zEo;cases ieq (ln<|zeE b.ac n) 0;{exact⟨h.1,(zDK _ zLJ h.2.1).1,h.2.2⟩};{exact h}}
def z5A {b:am}(h:SmB b):SmB (znY b):=by unfold znY;cases zcb b;{exact h};{exact h}
def ztB {H a:ad}{x y:Bool}(c:H=a)(d:x=y):some [AV.agg<|zbo H,AV.one<|.b x]=some [AV.agg<|zbo a,AV.one<|.b y]:=by rw[c,d]
def z8i {H a:ad}{n k:Int}{x y:Bool}(c:H=a)(d:n=k)(e:x=y):some [AV.agg<|zbo H,AV.one<|.i .i64 n,AV.one<|.b x]=some [AV.agg<|zbo a,AV.one<|.i .i64 k,AV.one<|.b y]:=by rw[c,d,e]
def zYa {b:am}(g p:Int)(s:k0)(a:SmB b):SmB (zeP b g p s):=zq7 a (z5D _ _<|zkY _ a)
def z5w {b c:am}(a:SameB b c)(h:ad)(m:Int)(g p:Int)(s:k0):zdi h m (zeP b g p s)=zdi h m (zeP c g p s)/\zfD b g p s=zfD c g p s:=by have e:=a.at g;simp only[zeP,zfD,e];exact⟨zqq a _ _ _ _ _,zmo a _ _⟩
@[simp] abbrev zw5 (h:ad)(m:Int)(g p:Int)(s:k0):Bool:=pc (zdY h)
def zAY:Run:=rF5 dH dI dI dI (dT .slot) λb c d e f=>(zw5 b c d e f,[aH<|znd b c d e f,aB<|zne b c d e f])
def zFT (N:Nat)(g:ad)(b d e:Int)(f:k0):OA:=
 let a:=zo g;let c:=ix a.aa b zi; (oN (zby g)<|oN (zf4 a b)<|cond (nB<|zf3 a b) (some [aH a,aB false])<|oN (inb b<|ln a.aa)<|oN (zfg c)<|oN (zrD (zbP c) d e f)<|oN (zff a b<|zeP (zbP c) d e f)<|some [aH<|zhQ a b<|zeP (zbP c) d e f,aB<|zfD (zbP c) d e f])
def zRf (a:ad)(c d e:Int)(f:k0)(n:zw5 a c d e f=true):∃N,zFT N a c d e f=some [aH<|znd a c d e f,aB<|zne a c d e f]:=by
 have i:=(zbc a).1 (zS.1 n);refine⟨0,?_⟩;have j:=zop (h:=a) (m:=c) (cB:=zrD (zc9<|ix a.aa c mZ) d e f) (B:=zeP (zc9<|ix a.aa c mZ) d e f) (o0:=λH=>[.agg<|zbo H,.one<|.b false]) (o1:=λH=>[.agg<|zbo H,.one<|.b<|zfD (zc9<|ix a.aa c mZ) d e f]) i
  (λg=>zY (zfq<|i.2.1.2 _<|zbE (zcJ.1 g).2 _)) (λg=>zYa _ _ _ (zfq<|i.2.1.2 _<|zbE (zcJ.1 g).2 _))
 refine(show zFT 0 a c d e f=_ from j).trans ?_;unfold znd zne zim zg9;cases g:zc2 a c;{rfl};{obtain⟨k,l⟩:=z5w (zj2 g<|zoI g) a c d e f;simp only[cT];exact ztB k l}
def zKp:vR 141 zAY:=kF5 zjY zC zb6 zc7 (zx []) zRf
def zL9 {b:am}(g v:Int)(a:SmB b):SmB (zds b g v):=zq7 a (z5B _<|zkY _ a)
def zXd {b c:am}(a:SameB b c)(h:ad)(m:Int)(g v:Int):zdi h m (zds b g v)=zdi h m (zds c g v)/\zeo b g v=zeo c g v:=by have e:=a.at g;simp only[zds,zeo,e];exact⟨zqq a _ _ _ _ _,zmo a _ _⟩
@[simp] abbrev zqY (h:ad)(m:Int)(g v:Int):Bool:=pc (zdY h)
def zuG:Run:=rF4 dH dI dI dI λb c d e=>(zqY b c d e,[aH<|zjE b c d e,aB<|zjF b c d e])
def zxu (N:Nat)(f:ad)(b d e:Int):OA:=
 let a:=zo f;let c:=ix a.aa b zi; (oN (zby f)<|oN (zf4 a b)<|cond (nB<|zf3 a b) (some [aH a,aB false])<|oN (inb b<|ln a.aa)<|oN (zfg c)<|oN (zmK (zbP c) d e)<|oN (zff a b<|zds (zbP c) d e)<|some [aH<|zhQ a b<|zds (zbP c) d e,aB<|zeo (zbP c) d e])
def zIp (a:ad)(c d e:Int)(l:zqY a c d e=true):∃N,zxu N a c d e=some [aH<|zjE a c d e,aB<|zjF a c d e]:=by
 have g:=(zbc a).1 (zS.1 l);refine⟨0,?_⟩;have i:=zop (h:=a) (m:=c) (cB:=zmK (zc9<|ix a.aa c mZ) d e) (B:=zds (zc9<|ix a.aa c mZ) d e) (o0:=λH=>[.agg<|zbo H,.one<|.b false]) (o1:=λH=>[.agg<|zbo H,.one<|.b<|zeo (zc9<|ix a.aa c mZ) d e]) g
  (λf=>zY (zfq<|g.2.1.2 _<|zbE (zcJ.1 f).2 _)) (λf=>zL9 _ _ (zfq<|g.2.1.2 _<|zbE (zcJ.1 f).2 _))
 refine(show zxu 0 a c d e=_ from i).trans ?_;unfold zjE zjF zim zg9;cases f:zc2 a c;{rfl};{obtain⟨j,k⟩:=zXd (zj2 f<|zoI f) a c d e;simp only[cT];exact ztB j k}
def zCR:vR 143 zuG:=kF4 zjY zC zb6 zc7 (zx []) zIp
def zMb {b:am}(g:Int)(a:SmB b):SmB (zdv b g):=zq7 a (z5C<|zkY _ a)
def zXf {b c:am}(a:SameB b c)(h:ad)(m:Int)(g:Int):zdi h m (zdv b g)=zdi h m (zdv c g)/\zeq b g=zeq c g:=by have e:=a.at g;simp only[zdv,zeq,e];exact⟨zqq a _ _ _ _ _,zmo a _ _⟩
@[simp] abbrev zq0 (h:ad)(m:Int)(g:Int):Bool:=pc (zdY h)
def zuI:Run:=rF3 dH dI dI λb c d=>(zq0 b c d,[aH<|zjI b c d,aB<|zjJ b c d])
def zxw (N:Nat)(e:ad)(b d:Int):OA:=
 let a:=zo e;let c:=ix a.aa b zi; (oN (zby e)<|oN (zf4 a b)<|cond (nB<|zf3 a b) (some [aH a,aB false])<|oN (inb b<|ln a.aa)<|oN (zfg c)<|oN (zgi (zbP c) d)<|oN (zff a b<|zdv (zbP c) d)<|some [aH<|zhQ a b<|zdv (zbP c) d,aB<|zeq (zbP c) d])
def zIr (a:ad)(c d:Int)(k:zq0 a c d=true):∃N,zxw N a c d=some [aH<|zjI a c d,aB<|zjJ a c d]:=by
 have f:=(zbc a).1 (zS.1 k);refine⟨0,?_⟩;have g:=zop (h:=a) (m:=c) (cB:=zgi (zc9<|ix a.aa c mZ) d) (B:=zdv (zc9<|ix a.aa c mZ) d) (o0:=λH=>[.agg<|zbo H,.one<|.b false]) (o1:=λH=>[.agg<|zbo H,.one<|.b<|zeq (zc9<|ix a.aa c mZ) d]) f
  (λe=>zY (zfq<|f.2.1.2 _<|zbE (zcJ.1 e).2 _)) (λe=>zMb _ (zfq<|f.2.1.2 _<|zbE (zcJ.1 e).2 _))
 refine(show zxw 0 a c d=_ from g).trans ?_;unfold zjI zjJ zim zg9;cases e:zc2 a c;{rfl};{obtain⟨i,j⟩:=zXf (zj2 e<|zoI e) a c d;simp only[cT];exact ztB i j}
def zCT:vR 144 zuI:=kF3 zjY zC zb6 zc7 (zx []) zIr
def zMa {b:am}(g n:Int)(a:SmB b):SmB (zdu b g n):=zq7 a (zkY (b:=b) _ a)
def zXe {b c:am}(a:SameB b c)(h:ad)(m:Int)(g n:Int):zdi h m (zdu b g n)=zdi h m (zdu c g n)/\zep b g n=zep c g n:=by have e:=a.at g;simp only[zdu,zep,e];exact⟨zqq a _ _ _ _ _,zmo a _ _⟩
@[simp] abbrev zqZ (h:ad)(m:Int)(g n:Int):Bool:=pc (zdY h)
def zuH:Run:=rF4 dH dI dI dI λb c d e=>(zqZ b c d e,[aH<|zjG b c d e,aB<|zjH b c d e])
def zxv (N:Nat)(f:ad)(b d e:Int):OA:=
 let a:=zo f;let c:=ix a.aa b zi; (oN (zby f)<|oN (zf4 a b)<|cond (nB<|zf3 a b) (some [aH a,aB false])<|oN (inb b<|ln a.aa)<|oN (zfg c)<|oN (zmL (zbP c) d e)<|oN (zff a b<|zdu (zbP c) d e)<|some [aH<|zhQ a b<|zdu (zbP c) d e,aB<|zep (zbP c) d e])
def zIq (a:ad)(c d e:Int)(l:zqZ a c d e=true):∃N,zxv N a c d e=some [aH<|zjG a c d e,aB<|zjH a c d e]:=by
 have g:=(zbc a).1 (zS.1 l);refine⟨0,?_⟩;have i:=zop (h:=a) (m:=c) (cB:=zmL (zc9<|ix a.aa c mZ) d e) (B:=zdu (zc9<|ix a.aa c mZ) d e) (o0:=λH=>[.agg<|zbo H,.one<|.b false]) (o1:=λH=>[.agg<|zbo H,.one<|.b<|zep (zc9<|ix a.aa c mZ) d e]) g
  (λf=>zY (zfq<|g.2.1.2 _<|zbE (zcJ.1 f).2 _)) (λf=>zMa _ _ (zfq<|g.2.1.2 _<|zbE (zcJ.1 f).2 _))
 refine(show zxv 0 a c d e=_ from i).trans ?_;unfold zjG zjH zim zg9;cases f:zc2 a c;{rfl};{obtain⟨j,k⟩:=zXe (zj2 f<|zoI f) a c d e;simp only[cT];exact ztB j k}
def zCS:vR 145 zuH:=kF4 zjY zC zb6 zc7 (zx []) zIq
def zX9 {b:am}(g:Int)(x:Ctl)(a:SmB b):SmB (zeO b g x):=zq7 a (zkY (b:=b) _ a)
def z5v {b c:am}(a:SameB b c)(h:ad)(m:Int)(g:Int)(x:Ctl):zdi h m (zeO b g x)=zdi h m (zeO c g x)/\zfC b g x=zfC c g x:=by have e:=a.at g;simp only[zeO,zfC,e];exact⟨zqq a _ _ _ _ _,zmo a _ _⟩
@[simp] abbrev zw3 (h:ad)(m:Int)(g:Int)(x:Ctl):Bool:=pc (zdY h)
def zAW:Run:=rF4 dH dI dI dC λb c d e=>(zw3 b c d e,[aH<|znb b c d e,aB<|znc b c d e])
def zFQ (N:Nat)(f:ad)(b d:Int)(e:Ctl):OA:=
 let a:=zo f;let c:=ix a.aa b zi; (oN (zby f)<|oN (zf4 a b)<|cond (nB<|zf3 a b) (some [aH a,aB false])<|oN (inb b<|ln a.aa)<|oN (zfg c)<|oN (zrC (zbP c) d e)<|oN (zff a b<|zeO (zbP c) d e)<|some [aH<|zhQ a b<|zeO (zbP c) d e,aB<|zfC (zbP c) d e])
def zRc (a:ad)(c d:Int)(e:Ctl)(l:zw3 a c d e=true):∃N,zFQ N a c d e=some [aH<|znb a c d e,aB<|znc a c d e]:=by
 have g:=(zbc a).1 (zS.1 l);refine⟨0,?_⟩;have i:=zop (h:=a) (m:=c) (cB:=zrC (zc9<|ix a.aa c mZ) d e) (B:=zeO (zc9<|ix a.aa c mZ) d e) (o0:=λH=>[.agg<|zbo H,.one<|.b false]) (o1:=λH=>[.agg<|zbo H,.one<|.b<|zfC (zc9<|ix a.aa c mZ) d e]) g
  (λf=>zY (zfq<|g.2.1.2 _<|zbE (zcJ.1 f).2 _)) (λf=>zX9 _ _ (zfq<|g.2.1.2 _<|zbE (zcJ.1 f).2 _))
 refine(show zFQ 0 a c d e=_ from i).trans ?_;unfold znb znc zim zg9;cases f:zc2 a c;{rfl};{obtain⟨j,k⟩:=z5v (zj2 f<|zoI f) a c d e;simp only[cT];exact ztB j k}
def zKn:vR 146 zAW:=kF4 zjY zC zb6 zc7 (zx []) zRc
def zVd {b:am}(n:Int)(a:SmB b):SmB (zfe b n):=z3e a
def z2V {b c:am}(f:SameB b c)(h:ad)(m n:Int):zdi h m (zfe b n)=zdi h m (zfe c n)/\zg0 b n=zg0 c n:=by obtain⟨a,d,e⟩:=z2F f n;exact⟨back_eq a d,e⟩
@[simp] abbrev zuQ (h:ad)(m:Int)(n:Int):Bool:=pc (zdY h)
def zyo:Run:=rF3 dH dI dI λb c d=>(zuQ b c d,[aH<|zlM b c d,aB<|zlN b c d])
def zB3 (N:Nat)(e:ad)(b d:Int):OA:=
 let a:=zo e;let c:=ix a.aa b zi; (oN (zby e)<|oN (zf4 a b)<|cond (nB<|zf3 a b) (some [aH a,aB false])<|oN (inb b<|ln a.aa)<|oN (zfg c)<|oN (zie (zbP c) d)<|oN (zff a b<|zfe (zbP c) d)<|some [aH<|zhQ a b<|zfe (zbP c) d,aB<|zg0 (zbP c) d])
def zOa (a:ad)(c d:Int)(k:zuQ a c d=true):∃N,zB3 N a c d=some [aH<|zlM a c d,aB<|zlN a c d]:=by
 have f:=(zbc a).1 (zS.1 k);refine⟨0,?_⟩;have g:=zop (h:=a) (m:=c) (cB:=zie (zc9<|ix a.aa c mZ) d) (B:=zfe (zc9<|ix a.aa c mZ) d) (o0:=λH=>[.agg<|zbo H,.one<|.b false]) (o1:=λH=>[.agg<|zbo H,.one<|.b<|zg0 (zc9<|ix a.aa c mZ) d]) f
  (λe=>zY (zfq<|f.2.1.2 _<|zbE (zcJ.1 e).2 _)) (λe=>zVd _ (zfq<|f.2.1.2 _<|zbE (zcJ.1 e).2 _))
 refine(show zB3 0 a c d=_ from g).trans ?_;unfold zlM zlN zim zg9;cases e:zc2 a c;{rfl};{obtain⟨i,j⟩:=z2V (zj2 e<|zoI e) a c d;simp only[cT];exact ztB i j}
def zHS:vR 148 zyo:=kF3 zjY zC zb6 zc7 (zx []) zOa
def zX8 {b:am}(a:SmB b):SmB (zfd b):=z5A a
def z5u {b c:am}(g:SameB b c)(h:ad)(m:Int):zdi h m (zfd b)=zdi h m (zfd c)/\zgG b=zgG c/\zgH b=zgH c:=by obtain⟨a,d,e,f⟩:=z3B g;exact⟨back_eq a d,e,f⟩
def zAV:Run:=rF2 dH dI λb c=>(zov b c,[aH<|zm8 b c,aI<|zm9 b c,aB<|zna b c])
def zFO (N:Nat)(d:ad)(b:Int):OA:=
 let a:=zo d;let c:=ix a.aa b zi; (oN (zby d)<|oN (zf4 a b)<|cond (nB<|zf3 a b) (some [aH a,aI<|-1,aB false])<|oN (inb b<|ln a.aa)<|oN (zfg c)<|oN (zdW<|zbP c)<|oN (zff a b<|zfd<|zbP c)<|some [aH<|zhQ a b<|zfd<|zbP c,aI<|zgG<|zbP c,aB<|zgH<|zbP c])
def zRa (a:ad)(c:Int)(l:zov a c=true):∃N,zFO N a c=some [aH<|zm8 a c,aI<|zm9 a c,aB<|zna a c]:=by
 have e:=(zbc a).1 (zS.1 l);refine⟨0,?_⟩;have f:=zop (h:=a) (m:=c) (cB:=zdW (zc9<|ix a.aa c mZ)) (B:=zfd (zc9<|ix a.aa c mZ)) (o0:=λH=>[.agg<|zbo H,.one<|.i .i64<|-1,.one<|.b false]) (o1:=λH=>[.agg<|zbo H,.one<|.i .i64<|zgG<|zc9<|ix a.aa c mZ,.one<|.b<|zgH<|zc9<|ix a.aa c mZ]) e
  (λd=>zY (zfq<|e.2.1.2 _<|zbE (zcJ.1 d).2 _)) (λd=>zX8 (zfq<|e.2.1.2 _<|zbE (zcJ.1 d).2 _))
 refine(show zFO 0 a c=_ from f).trans ?_;unfold zm8 zm9 zna zim zg9;cases d:zc2 a c;{rfl};{obtain⟨g,j,k⟩:=z5u (zj2 d<|zoI d) a c;simp only[cT];exact z8i g j k}
def zKm:vR 149 zAV:=kF2 zjY zC zb6 zc7 (zx []) zRa
def z05:zW:=[(141,zAY),(143,zuG),(144,zuI),(145,zuH),(146,zAW),(148,zyo),(149,zAV)]++z04
def zvs:zL z05:=zh zKp (zh zCR<|zh zCT<|zh zCS<|zh zKn<|zh zHS<|zh zKm zjY)
def zkx (h:ad)(m t:Int):ad:=bif zcc h then (cond (i0 m<|ln h.aa) (cond (zk t 0 3) {h with aa:=up h.aa m {ix h.aa m mZ with aq:=t}} h) h) else h
def zzZ (h:ad)(m t:Int):Bool:=bif zcc h then (cond (i0 m<|ln h.aa) (zk t 0 3) false) else false
@[simp] abbrev zuT (h:ad)(m t:Int):Bool:=pc (zdY h)
@[simp] abbrev zpH (h:ad)(m t:Int):ad:=zkx h m t
@[simp] abbrev zpI (h:ad)(m t:Int):Bool:=zzZ h m t
def zyr:Run:=rF3 dH dI dI λb c d=>(zuT b c d,[aH<|zpH b c d,aB<|zpI b c d])
def zB7 (N:Nat)(d:ad)(b c:Int):OA:=
 let a:=zo d; (oN (zby d)<|oN (zeb a)<|cond (nB<|zea a) (some [aH a,aB false])<|oN (zN b 0<|wsub .i64 (ln a.aa) 1)<|cond (nB<|zk b 0<|wsub .i64 (ln a.aa) 1) (some [aH a,aB false])<|oN (zN c 0 3)<|cond (nB<|zk c 0 3) (some [aH a,aB false])<|oN (inb b<|ln a.aa)<|p0 (up a.aa b ({ (ix a.aa b zi) with aq:=c}:Mon)) λe=>some [aH ({a with aa:=e}:ad),aB true])
def zOe (a:ad)(b c:Int)(d:zuT a b c=true):∃N,zB7 N a b c=some [aH<|zpH a b c,aB<|zpI a b c]:=by
 have g:=(zbc a).1 (zS.1 d);refine⟨0,?_⟩;unfold zB7 zpH zpI zkx zzZ oN nB;conv=>zeta
 refine j0 d (j0 rfl ?_);rw[show zea (zo a)=zcc a from rfl];cases e:zcc a;{rfl};{refine zb7 rfl (j0 rfl ?_);rw[show zk b 0 (wsub .i64 (ln (zo a).aa) 1)=i0 b (ln a.aa) from zO6 e b];cases f:i0 b (ln a.aa);{rfl};{refine zb7 rfl (j0 rfl ?_);rw[show zk c 0 3=zk c 0 3 from rfl];cases h:zk c 0 3;{rfl};{exact zb7 rfl (j0 (zI f) rfl)}}}
def zHX:vR 330 zyr:=kF3 zvs zC zb6 zc7 (zx []) zOe
def zk6 {h:ad}{m p:Int}:(zcI h m p=true)↔zcc h=true/\i0 m (ln h.aa)=true/\i0 p 8=true:=by unfold zcI;cases zcc h<;>cases i0 m (ln h.aa)<;>simp
def zln (h:ad)(m p:Int):Bool:=ieq (ix (ix h.aa m mZ).ae p sZ).af (-1)
def zqG (h:ad)(m p:Int):ad:=bif zcI h m p then (cond (zln h m p) h<|zdR h m p) else h
def zDg (h:ad)(m p:Int):Bool:=bif zcI h m p then !zln h m p else false
def zus (h:ad)(m p:Int):ad:=bif zcI h m p then (cond (zln h m p) (fetched h m p) h) else h
def zIx (h:ad)(m p:Int):Bool:=bif zcI h m p then zln h m p else false
@[simp] abbrev zrH (h:ad)(m p:Int):ad:=zqG h m p
@[simp] abbrev zrI (h:ad)(m p:Int):Bool:=zDg h m p
@[simp] abbrev ztu (h:ad)(m p:Int):ad:=zus h m p
@[simp] abbrev ztv (h:ad)(m p:Int):Bool:=zIx h m p
def zLv {h:ad}(f:SmH h)(c:zcc h=true){m p:Int}(d:i0 m (ln h.aa)=true)(e:i0 p 8=true) :
 (cond (ieq (ix (ix h.aa m mZ).ae p sZ).af<|-1) (ieq (ix (ix h.aa m mZ).ae p sZ).aj 0) false)=zln h m p:=by
 have a:=(ztm (zhH c _<|zbE d mZ) e).no;unfold zc8 at a;unfold zln;rw[<- a];cases b:ieq (ix (ix h.aa m mZ).ae p sZ).af (-1)<;>simp [A0,b]
def zQb {h:ad}(d:SmH h)(a:zcc h=true){m p:Int}(b:i0 m (ln h.aa)=true)(c:i0 p 8=true):inb p (ln (ix h.aa m mZ).ae)=true :=
 zI (by rw[ln,((zfQ d a).1.2 _ (zbE b mZ)).1];exact c)
def zA1:Run:=rF3 dH dI dI λb c d=>(ziR b c d,[aH<|zrH b c d,aB<|zrI b c d])
def zFX (N:Nat)(e:ad)(c b:Int):OA:=
 let a:=zo e;let d:=(ix a.aa c zi).ae; (oN (zby e)<|oN (zoE a c b)<|cond (nB<|zga a c b) (some [aH a,aB false])<|oN (inb c<|ln a.aa)<|oN (inb b<|ln d)<|oN zbU<|cond (cond (ieq (ix d b zba).af zbl.af) (ieq (ix d b zba).aj zbl.aj) false) (some [aH a,aB false])<|oN (zkw a c b)<|some [aH<|zoj a c b,aB true])
def zRk (a:ad)(b c:Int)(h:ziR a b c=true):∃N,zFX N a b c=some [aH<|zrH a b c,aB<|zrI a b c]:=by
 have g:=(zbc a).1 (zS.1 h);refine⟨0,?_⟩;unfold zFX zrH zrI zqG zDg oN nB;conv=>zeta
 refine j0 h (j0 rfl ?_);rw[show zga (zo a) b c=zcI a b c from rfl];cases i:zcI a b c;{rfl};{obtain⟨e,d,f⟩:=zk6.1 i;refine zb7 rfl (j0 (zI d)<|j0 (zQb g e d f) (j0 rfl ?_));rw[show (cond (ieq (ix (ix (zo a).aa b zi).ae c zba).af zbl.af) (ieq (ix (ix (zo a).aa b zi).ae c zba).aj zbl.aj) false)=zln a b c from zLv g e d f];cases j:zln a b c;{exact zb7 rfl (j0 (zY ⟨(zfQ g e).1,d,f⟩) rfl)};{rfl}}
def zKt:vR 327 zA1:=kF3 zvs zC zb6 zc7 (zx []) zRk
def zDs:Run:=rF3 dH dI dI λb c d=>(ziR b c d,[aH<|ztu b c d,aB<|ztv b c d])
def zJo (N:Nat)(e:ad)(c b:Int):OA:=
 let a:=zo e;let d:=(ix a.aa c zi).ae; (oN (zby e)<|oN (zoE a c b)<|cond (nB<|zga a c b) (some [aH a,aB false])<|oN (inb c<|ln a.aa)<|oN (inb b<|ln d)<|oN zbU<|cond (nB<|cond (ieq (ix d b zba).af zbl.af) (ieq (ix d b zba).aj zbl.aj) false) (some [aH a,aB false])<|oN (zme a c b)<|some [aH<|zmV a c b,aB true])
def zTZ (a:ad)(b c:Int)(h:ziR a b c=true):∃N,zJo N a b c=some [aH<|ztu a b c,aB<|ztv a b c]:=by
 have g:=(zbc a).1 (zS.1 h);refine⟨0,?_⟩;unfold zJo ztu ztv zus zIx oN nB;conv=>zeta
 refine j0 h (j0 rfl ?_);rw[show zga (zo a) b c=zcI a b c from rfl];cases i:zcI a b c;{rfl};{obtain⟨e,d,f⟩:=zk6.1 i;refine zb7 rfl (j0 (zI d)<|j0 (zQb g e d f) (j0 rfl ?_));rw[show (cond (ieq (ix (ix (zo a).aa b zi).ae c zba).af zbl.af) (ieq (ix (ix (zo a).aa b zi).ae c zba).aj zbl.aj) false)=zln a b c from zLv g e d f];cases j:zln a b c;{rfl};{exact zb7 rfl (j0 (zY ⟨zfQ g e,d,f⟩) rfl)}}
def zNm:vR 328 zDs:=kF3 zvs zC zb6 zc7 (zx []) zTZ
def z06:zW:=[(330,zyr),(327,zA1),(328,zDs)]++z05
def zPC:zL z06:=zh zHX (zh zKt<|zh zNm zvs)
def z0s {x:Mon}{b:am}(h:ze4 x)(a:zlz b.ac):ze4 (zvl x b):=⟨h.1,h.2.1,h.2.2.1,a,h.2.2.2.2⟩
def zIP {h:ad}{m:Int}{b:am}(a:SmH h)(d:i0 m (ln h.aa)=true)(c:zlz b.ac):SmH (zdi h m b):=
 ⟨a.1,zj3 a.2.1<|z0s (a.2.1.2 _<|zbE d _) c,a.2.2⟩
def zSC {h:ad}{m:Int}(b:am)(a:i0 m (ln h.aa)=true):i0 m (ln (zdi h m b).aa)=true:=by show i0 m (ln<|up h.aa m _)=true;rw[ln,zht];exact a
def z7Z {h:ad}{m:Int}(b:am)(c:i0 m (ln h.aa)=true):ix (zdi h m b).aa m mZ=zvl (ix h.aa m mZ) b:=by obtain⟨k,rfl,a⟩:=zd7 (n:=h.aa.length) c;exact zem a _ _
def zCE (h:ad)(m g p:Int):ad:=⟨h.ag,up h.aa m {ix h.aa m mZ with ai:=up (ix h.aa m mZ).ai g (zbW (ix (ix h.aa m mZ).ai g kZ) p)},zcP h.ao (zfl m g) p,zcP h.an (zfl m g) p⟩
def z1I (H:ad)(m g p:Int)(o:ad->Ans):OA:=
 bif inb m (ln H.aa) then (bif inb m (ln H.aa) then (bif inb g (ln (ix H.aa m mZ).ai) then (bif zdB (ix (ix H.aa m mZ).ai g kZ) p then (bif inb g (ln (ix H.aa m mZ).ai) then (p0 (up H.aa m {ix H.aa m mZ with ai:=up (ix H.aa m mZ).ai g (zbW (ix (ix H.aa m mZ).ai g kZ) p)}) λx=>
  (cond (zl4 m g) (cond (zhp H.ao (zfl m g) p) (cond (zl4 m g) (cond (zhp H.an (zfl m g) p) (some<|o ⟨H.ag,x,zcP H.ao (zfl m g) p,zcP H.an (zfl m g) p⟩) none) none) none) none)) else none) else none) else none) else none) else none
def z1J {H:ad}{m g p:Int}{o:ad->Ans}(b:SmH H)(a:i0 m (ln H.aa)=true)(hg:i0 g (ln (ix H.aa m mZ).ai)=true):z1I H m g p o=some (o<|zCE H m g p):=by have c:=b.2.1.2 _ (zbE a mZ);unfold z1I;exact j0 (zI a) (j0 (zI a)<|j0 (zI hg)<|j0 (zY<|c.2.2.2.2.2.2 _<|zbE hg _)<|j0 (zI hg)<|shr (j0 rfl (j0 (zY b.2.2.1) (j0 rfl (j0 (zY b.2.2.2) rfl)))))
def zlI (h:ad)(m g p:Int):ad:=bif zc2 h m then (cond (zci (zM h m) g<|i0 p 4) (zCE (zdi h m<|chg (zM h m) g (i0 p 4)<|zeh (gAt (zM h m) g) p) m g p) h) else h
@[simp] abbrev zsU (h:ad)(m g p:Int):Bool:=pc (zdY h)
@[simp] abbrev znP (h:ad)(m g p:Int):ad:=zlI h m g p
def zXg {h:ad}{m:Int}(a:i0 m (ln h.aa)=true):(zM h m).ac=(ix h.aa m mZ).ac:=by unfold zM;rw[a];rfl
def zPP {h:ad}{m g:Int}{k:Bool}(i:SmH h)(e:zc2 h m=true)(b:am)(a:zci (zM h m) g k=true):i0 g (ln (ix (zdi h m b).aa m mZ).ai)=true:=by obtain⟨f,c⟩:=zcJ.1 e;rw[z7Z b c];show i0 g (ln (ix h.aa m mZ).ai)=true;rw[ln,((zfQ i f).1.2 _ (zbE c mZ)).2.2.2,<- zXg c];unfold zci at a;cases d:zcg (zM h m) g;{rw [d]at a;cases a};{exact(zdV.1 d).2}
def zwc:Run:=rF4 dH dI dI dI λb c d e=>(zsU b c d e,[aH<|znP b c d e,aB<|zkF b c d e])
def zAp (N:Nat)(i:ad)(a b c:Int):OA:=
 let h:=ztK a b;let e:=zo i;let g:=ix e.aa a zi;let d:=zhQ e a<|zfj (zbP g) b c;let f:=ix d.aa a zi;let j:=ix f.ai b zex; (oN (zby i)<|oN (zf4 e a)<|cond (nB<|zf3 e a) (some [aH e,aB false])<|oN (inb a<|ln e.aa)<|oN (zfg g)<|oN (zsS (zbP g) b c)<|cond (nB<|ziv (zbP g) b c) (some [aH e,aB false])<|oN (zff e a<|zfj (zbP g) b c)<|oN (inb a<|ln d.aa)<|oN (inb a<|ln d.aa)<|oN (inb b<|ln f.ai)<|oN (zdB j c)<|oN (inb b<|ln f.ai)<|p0 (up d.aa a ({f with ai:=(up f.ai b<|zhq j c)}:Mon)) λk=>oN (zl4 a b)<|oN (zhp d.ao h c)<|oN (zl4 a b)<|oN (zhp d.an h c)<|some [aH (⟨d.ag,k,znl d.ao h c,znl d.an h c⟩:ad),aB true])
def zLm (a:ad)(c d e:Int)(j:zbT big [aH a,aI c,aI d,aI e])(q:zsU a c d e=true):∃N,zAp N a c d e=some [aH<|znP a c d e,aB<|zkF a c d e]:=by
 have k:=(zbc a).1 (zS.1 q);refine⟨0,?_⟩;unfold zAp znP zkF zlI zg9 oN nB;conv=>zeta
 refine j0 q (j0 rfl ?_);rw[show zf3 (zo a) c=zc2 a c from rfl];cases h:zc2 a c;{rfl};{obtain⟨v,f⟩:=zcJ.1 h;have r:=k.2.1.2 _ (zbE f mZ);have l:=zfq r;have i:=zj2 h (zoI h);have u:zci (zc9<|ix a.aa c mZ) d (i0 e 4)=zci (zM a c) d (i0 e 4):=zmo i _ _;have s:zdi a c (zfj (zc9<|ix a.aa c mZ) d e)=zdi a c (chg (zM a c) d (i0 e 4)<|zeh (gAt (zM a c) d) e):=(by rw[<- i.at];exact zqq i _ _ _ _ _);refine zb7 rfl (j0 (zI f)<|j0 (zY r)<|j0 (zY l) ?_);rw[show ziv (zbP<|ix (zo a).aa c zi) d e=zci (zM a c) d (i0 e 4) from u];cases t:zci (zM a c) d (i0 e 4);{rfl};{have j:SmB (zfj (zc9<|ix a.aa c mZ) d e):=zq7 l (zMc _<|zkY _ l);refine zb7 rfl (j0 (zY ⟨f,j.2.1⟩) ?_);have n:=z1J (H:=zdi a c (zfj (zc9<|ix a.aa c mZ) d e)) (m:=c) (g:=d) (p:=e) (o:=λH=>[.agg<|zbo H,.one<|.b true]) (zIP k f j.2.1) (zSC _ f) (zPP k h _ t);refine(show _=_ from n).trans ?_;rw[s];rfl}}
def zER:vR 142 zwc:=hF4 zPC zC zb6 zc7 (zx []) zLm
def z07:zW:=[(142,zwc)]++z06
def zPD:zL z07:=zh zER zPC
def zUL (h:ad)(m p c v:Int):ad:={D0 h m p 2 with ag:=zbN (D0 h m p 2).ag (ix (ix (D0 h m p 2).aa m mZ).ae p sZ).af c v}
def zfR (h:ad)(m p c v:Int):Bool:=bif zcI h m p then (cond (i0 c 4) (zk v 0 99) false) else false
def zn5 (h:ad)(m p c v:Int):ad:=bif zfR h m p c v then zUL h m p c v else h
@[simp] abbrev zuP (h:ad)(m p c v:Int):Bool:=pc (zdY h)
@[simp] abbrev zpB (h:ad)(m p c v:Int):ad:=zn5 h m p c v
@[simp] abbrev zpC (h:ad)(m p c v:Int):Bool:=zfR h m p c v
def z7M (H:ad)(m p c v:Int)(o:ad->Ans):OA:=
 bif pc (zSu H m p 2) then (cond (inb m<|ln (D0 H m p 2).aa) (cond (inb p<|ln (ix (D0 H m p 2).aa m mZ).ae) (cond (pc<|SmM (D0 H m p 2).ag) (some<|o<|zUL H m p c v) none) none) none) else none
def z5n {h:ad}{m p c v:Int}{o:ad->Ans}(j:SmH h)(i:zcI h m p=true):z7M h m p c v o=some (o<|zUL h m p c v):=by obtain⟨g,b,a⟩:=zk6.1 i;have f:=zfQ j g;obtain⟨d,e⟩:=zuY (n:=2) f b a;unfold z7M;refine j0 (zY ⟨f,b,a,.inr (.inl rfl),ztm (zhH g _<|zbE b mZ) a⟩) (j0 (zI e)<|j0 (zI ?_) (j0 (zY d.1.1) rfl));rw[ln,(d.2 _<|zbE e mZ).1];exact a
def zyn:Run:=rF5 dH dI dI dI dI λb c d e f=>(zuP b c d e f,[aH<|zpB b c d e f,aB<|zpC b c d e f])
def zB2 (N:Nat)(g:ad)(b c:Int)(e f:Int):OA:=
 let a:=zo g;let d:=zi1 a b c 2;let h:=(ix d.aa b zi).ae;let i:=(ix h c zba).af; (oN (zby g)<|oN (zoE a b c)<|cond (nB<|zga a b c) (some [aH a,aB false])<|oN (zN e 0 3)<|cond (nB<|zk e 0 3) (some [aH a,aB false])<|oN (zN f 0 99)<|cond (nB<|zk f 0 99) (some [aH a,aB false])<|oN (zlc a b c 2)<|oN (inb b<|ln d.aa)<|oN (inb c<|ln h)<|oN (zl5 d.ag i e f)<|some [aH ({d with ag:=(zkp d.ag i e f)}:ad),aB true])
def zN9 (d:ad)(f g:Int)(a e:Int)(i:zuP d f g a e=true):∃N,zB2 N d f g a e=some [aH<|zpB d f g a e,aB<|zpC d f g a e]:=by
 have k:=(zbc d).1 (zS.1 i);refine⟨0,?_⟩;unfold zB2 zpB zpC zn5 zfR oN nB;conv=>zeta
 refine j0 i (j0 rfl ?_);rw[show zga (zo d) f g=zcI d f g from rfl];cases j:zcI d f g;{rfl};{refine zb7 rfl (j0 rfl ?_);rw[show zk a 0 3=i0 a 4 from zbaN a];cases l:i0 a 4;{rfl};{refine zb7 rfl (j0 rfl ?_);rw[show zk e 0 99=zk e 0 99 from rfl];cases m:zk e 0 99;{rfl};{have h:=z5n (c:=a) (v:=e) (o:=λH=>[.agg<|zbo H,.one<|.b true]) k j;exact zb7 rfl (show _=_ from h)}}}
def zHR:vR 147 zyn:=kF5 zPD zC zb6 zc7 (zx []) zN9
def z08:zW:=[(147,zyn)]++z07
def z09:zL z08:=zh zHR zPD
def z1a:zW:=z08
def zCt:zL z1a:=z09
def z2g (h:ad)(b:List au)(m g c a:Int)(e:Bool):(lookOf h b m g c a e).2.2=zb9 h m g c a:=by cases d:zb9 h m g c a;{rw [zox d]};{rw [zUh d];unfold ziH ziI;generalize zis b m g c a=x;cases x;{generalize zfz _ m g c a=y;cases y<;>rfl};{rfl}}
def z8X {h:ad}{m g c a:Int}(b:List au)(i:Bool)(f:SmH h)(d:zb9 h m g c a=true):SmM (lookOf h b m g c a i).1.ag:=by have hg:zbZ h m g=true:=(by unfold zb9 at d;cases e:zbZ h m g;{rw [e]at d;cases d};{rfl});exact(zxU f hg).shape.1.1
def zCZ (h:ad)(m g a n:Int):ad×Int×Bool:=lookOf h h.an m g (zbk a) n true
def zhG (h:ad)(m g a v:Int):Bool:=bif zk a 0 15 then (cond (zk v 0 99) (zb9 h m g (zbk a) 2) false) else false
def zqB (h:ad)(m g a v:Int):ad:=bif zhG h m g a v then { (zCZ h m g a 2).1 with ag:=zbN (zCZ h m g a 2).1.ag (zCZ h m g a 2).2.1 (zdp a) v} else h
def zgC (h:ad)(m g a:Int):Bool:=bif zk a 0 15 then zb9 h m g (zbk a) 1 else false
def zn6 (h:ad)(m g a:Int):ad:=bif zgC h m g a then (zCZ h m g a 1).1 else h
def zsf (h:ad)(m g a:Int):Int:=bif zgC h m g a then cellAt (zCZ h m g a 1).1.ag (zCZ h m g a 1).2.1 (zdp a) else 0
@[simp] abbrev zw4 (h:ad)(m g a v:Int):Bool:=pc (zdY h)
@[simp] abbrev zrE (h:ad)(m g a v:Int):ad:=zqB h m g a v
@[simp] abbrev zrF (h:ad)(m g a v:Int):Bool:=zhG h m g a v
@[simp] abbrev zuR (h:ad)(m g a:Int):Bool:=pc (zdY h)
@[simp] abbrev zpD (h:ad)(m g a:Int):ad:=zn6 h m g a
@[simp] abbrev zpE (h:ad)(m g a:Int):Int:=zsf h m g a
@[simp] abbrev zpF (h:ad)(m g a:Int):Bool:=zgC h m g a
def zAX:Run:=rF5 dH dI dI dI dI λb c d e f=>(zw4 b c d e f,[aH<|zrE b c d e f,aB<|zrF b c d e f])
def zFR (N:Nat)(g:ad)(c d:Int)(a e:Int):OA:=
 let b:=zo g;let h:=zld b b.an c d (zc3 a) 2 true;let f:=zfJ b b.an c d (zc3 a) 2 true; (oN (zby g)<|oN (zN a 0 15)<|cond (nB<|zk a 0 15) (some [aH b,aB false])<|oN (zN e 0 99)<|cond (nB<|zk e 0 99) (some [aH b,aB false])<|oN (zdy a)<|oN (zle b b.an c d (zc3 a) 2 true)<|cond (nB<|zhP b b.an c d (zc3 a) 2 true) (some [aH f,aB false])<|oN (zdy a)<|oN (zl5 f.ag h (zeW a) e)<|some [aH ({f with ag:=(zkp f.ag h (zeW a) e)}:ad),aB true])
def zRd (a:ad)(c d:Int)(b e:Int)(f:zw4 a c d b e=true):∃N,zFR N a c d b e=some [aH<|zrE a c d b e,aB<|zrF a c d b e]:=by
 have h:=(zbc a).1 (zS.1 f);refine⟨0,?_⟩;unfold zFR zrE zrF zqB zhG oN nB;conv=>zeta
 refine j0 f (j0 rfl ?_);rw[show zk b 0 15=zk b 0 15 from rfl];cases i:zk b 0 15;{rfl};{refine zb7 rfl (j0 rfl ?_);rw[show zk e 0 99=zk e 0 99 from rfl];cases j:zk e 0 99;{rfl};{refine zb7 rfl (j0 rfl (j0 f ?_));rw[show zhP (zo a) (zo a).an c d (zc3 b) 2 true=zb9 a c d (zbk b) 2 from z2g _ _ _ _ _ _ _];cases g:zb9 a c d (zbk b) 2;{rw [show zfJ (zo a) (zo a).an c d (zc3 b) 2 true=a from congrArg Prod.fst (zox g)];rfl};{exact zb7 rfl (j0 rfl (j0 (zY<|z8X a.an true h g) rfl))}}}
def zKo:vR 150 zAX:=kF5 zCt zC zb6 zc7 (zx []) zRd
def zyp:Run:=rF4 dH dI dI dI λb c d e=>(zuR b c d e,[aH<|zpD b c d e,aI<|zpE b c d e,aB<|zpF b c d e])
def zB4 (N:Nat)(f:ad)(c d a:Int):OA:=
 let b:=zo f;let g:=zld b b.an c d (zc3 a) 1 true;let e:=zfJ b b.an c d (zc3 a) 1 true; (oN (zby f)<|oN (zN a 0 15)<|cond (nB<|zk a 0 15) (some [aH b,aI 0,aB false])<|oN (zdy a)<|oN (zle b b.an c d (zc3 a) 1 true)<|cond (nB<|zhP b b.an c d (zc3 a) 1 true) (some [aH e,aI 0,aB false])<|oN (zdy a)<|oN (ziX e.ag g<|zeW a)<|some [aH e,aI<|zoc e.ag g<|zeW a,aB true])
def zOb (a:ad)(c d b:Int)(e:zuR a c d b=true):∃N,zB4 N a c d b=some [aH<|zpD a c d b,aI<|zpE a c d b,aB<|zpF a c d b]:=by
 have h:=(zbc a).1 (zS.1 e);refine⟨0,?_⟩;unfold zB4 zpD zpE zpF zn6 zsf zgC oN nB;conv=>zeta
 refine j0 e (j0 rfl ?_);rw[show zk b 0 15=zk b 0 15 from rfl];cases g:zk b 0 15;{rfl};{refine zb7 rfl (j0 rfl (j0 e ?_));rw[show zhP (zo a) (zo a).an c d (zc3 b) 1 true=zb9 a c d (zbk b) 1 from z2g _ _ _ _ _ _ _];cases f:zb9 a c d (zbk b) 1;{rw [show zfJ (zo a) (zo a).an c d (zc3 b) 1 true=a from congrArg Prod.fst (zox f)];rfl};{exact zb7 rfl (j0 rfl (j0 rfl rfl))}}
def zHT:vR 151 zyp:=kF4 zCt zC zb6 zc7 (zx []) zOb
def z1b:zW:=[(150,zAX),(151,zyp)]++z1a
def z1c:zL z1b:=zh zKo (zh zHT zCt)
def z1d:zW:=[(196,zqS),(190,zmF),(197,zgs),(191,zgs)]++z1b
def zCu:zL z1d:=zh zuk (zh zuf<|zh zn4<|zh zue z1c)
def zhX:ax:=⟨rp 4 false,zjV⟩
@[simp] abbrev zno (n:Int):Bool:=ieq n 4
@[simp] abbrev zl1 (n:Int):ax:=zhX
def znI:Run:=rF1 dI λb=>(zno b,[aT .kept<|zl1 b])
def zV4 (N:Nat)(b:Int):OA:=
 let a:=ln<|zhC b; (oN (zjP b)<|oN (cond (few a) (ieq a a) false)<|some [aT .kept (⟨rp a false,zhC b⟩:ax)])
def zRh (a:Int)(b:zno a=true):∃N,zV4 N a=some [aT .kept<|zl1 a]:=by refine⟨0,?_⟩;have h:a=4:=qF b;subst h;change _=_;kernel_rfl
def zKr:vR 198 znI:=kF1 zCu zC zb6 zc7 (zx []) zRh
def zV3 (N:Nat)(a:Int):OA:=
 let b:=zhI a 0 24; (oN (zi8 a 0 24)<|oN (cond (few b) (ieq b b) false)<|oN (zjC a)<|some [aT .kept (⟨rp b false,zhx a⟩:ax)])
def zQW (a:Int)(b:zno a=true):∃N,zV3 N a=some [aT .kept<|zl1 a]:=by refine⟨0,?_⟩;have h:a=4:=qF b;subst h;change _=_;kernel_rfl
def zKd:vR 192 znI:=kF1 zCu zC zb6 zc7 (zx []) zQW
def z1e:zW:=[(198,znI),(192,znI)]++z1d
def zCv:zL z1e:=zh zKr (zh zKd zCu)
def zuZ:List k0:=List.replicate 8 ⟨-1,0⟩
def zfV (a:List (List Ins)):Mon:=⟨zuZ,zOq,rp 8 false,(a.take 2).map zdO,[],0,0,(a.take 2).map λ_=>zhX,0⟩
def zP0 {c a b m:Type}(f:c->a)(g:c->b)(K:List a×List b->Option m):∀(l:List c) (i:Nat) (u:List a×List b),u.1.length+l.length<=2147483648->u.2.length+l.length<=2147483648->
 goL (λ(_:Nat) x (u:List a×List b) k=>bif few (ln<|ap u.1 [f x]) then (cond (few<|ln<|ap u.2 [g x]) (k (ap u.1 [f x],ap u.2 [g x])) none) else none) K l i u=K (u.1++l.map f,u.2++l.map g)
 |[],i,u,_,_=>by simp[goL]
 |x::l,i,u,h,j=>by simp only[qW]at h j;have d:few (ln<|ap u.1 [f x])=true:=zfO (by simp[ap];omega);have e:few (ln<|ap u.2 [g x])=true:=zfO (by simp[ap];omega);simp only[goL,d,e,cT];rw[zP0 f g K l (i+1) _ (by simp[ap];omega) (by simp[ap];omega)];simp[ap]
def zLp {d a b q:Type}(m:Nat)(f:d->a)(g:d->b)(K:List a×List b->Option q):∀(l:List d) (i:Nat) (u:List a×List b),u.1.length+l.length<=2147483648->u.2.length+l.length<=2147483648->
 goL (λ(i:Nat) x (u:List a×List b) k=>bif ilt (i:Int) (m:Int) then (cond (few<|ln<|ap u.1 [f x]) (cond (few<|ln<|ap u.2 [g x]) (k (ap u.1 [f x],ap u.2 [g x])) none) none) else K u) K l i u=K (u.1++(l.take<|m-i).map f,u.2++(l.take<|m-i).map g)
 |[],i,u,_,_=>by simp[goL]
 |x::l,i,u,n,p=>by simp only[qW]at n p;have e:few (ln<|ap u.1 [f x])=true:=zfO (by simp[ap];omega);have j:few (ln<|ap u.2 [g x])=true:=zfO (by simp[ap];omega);by_cases h:i<m;{have c:ilt (i:Int) (m:Int)=true:=qK (by omega);simp only[goL,c,e,j,cT];rw[zLp m f g K l (i+1) _ (by simp[ap];omega) (by simp[ap];omega)];rw[show m-i=m-(i+1)+1 by omega];simp[ap]};{have c:ilt (i:Int) (m:Int)=false:=qV (by omega);simp only[goL,c,cF];rw[show m-i=0 by omega];simp}
def zUm (u:List ah×List ax):OA:=some [AV.agg<|Ty.cells .mon (⟨zuZ,zOq,rp 8 false,u.1,[],0,0,u.2,0⟩:Mon)]
@[simp] abbrev zhB (a:List (List Ins)):Bool:=pc (zyW a)
@[simp] abbrev zkn (a:List (List Ins)):Mon:=zfV a
def zjN:Run:=rF1 (dS<|.sl .ins) λb=>(zhB b,[aT .mon<|zkn b])
def zJl (N:Nat)(k:lP):OA:=
 (oN (zjP 8)<|oN (ziU 8)<|oN (cond (few 8) (ieq 8 8) false)<|r0 (σ:=(Int×Int×Int×Int×Int×Int×Int×lP×lS×lM×lB×lG×LI×lK×lS×lM×lB×lG×LI×lK×Unit)) N (λl a=>let k:=a.2.2.2.2.2.2.2.2.2;let m:=k.2.2.2.2.2;let j:=m.1;let i:=m.2.1;let h:=m.2.2.1;let g:=m.2.2.2.1;let f:=m.2.2.2.2.1;let b:=a.2.2.2.2.2.2.2.1;let c:=m.2.2.2.2.2.1;let e:=ap g [zb1<|ix b a.1 []];let d:=aT .mon (⟨j,i,h,g,f,a.2.2.2.2.1,a.2.2.2.2.2.1,c,a.2.2.2.2.2.2.1⟩:Mon); (cond (ilt a.1<|ln b) (cond (ilt a.1 2) (oN (inb a.1<|ln b)<|oN (zfY<|ix b a.1 [])<|oN (few<|ln e)<|oN (zno 4)<|oN (few<|ln<|ap c [zl1 4])<|l (zK .i64 a.1 1,a.2.1,a.2.2.1,a.2.2.2.1,a.2.2.2.2.1,a.2.2.2.2.2.1,a.2.2.2.2.2.2.1,b,a.2.2.2.2.2.2.2.2.1,k.1,k.2.1,k.2.2.1,k.2.2.2.1,k.2.2.2.2.1,j,i,h,e,f,ap c [zl1 4],()))<|some [d])<|some [d])) (0,0,0,0,0,0,0,k,[],[],[],[],[],[],zhC 8,ze3 8,rp 8 false,[],[],[],()))
def zVH:=zx [(70,0,{n:=36,tm:=[(0,.sl 0 []),(2,.lp 0 0),(3,.lp 1 0),(4,ti)],lo:=[(0,[.sl 1 [],.sl 2 [],.sl 3 [],.sl 4 [],.sl 5 [],ti,ti,.sl 6 [],ti]),(1,[.sl 7 [],.sl 8 [],.sl 9 [],.sl 10 [],.sl 11 [],ti,ti,.sl 12 [],ti])],ro:=[(0,.sl .ins,false),(1,.slot,true),(2,.sl .int,true),(3,.bool,true),(4,.guest,true),(5,.int,true),(6,.kept,true),(7,.slot,true),(8,.sl .int,true),(9,.bool,true),(10,.guest,true),(11,.int,true),(12,.kept,true)]})]
def zTW (a:List lI)(f:zhB a=true):∃N,zJl N a=some [aT .mon<|zkn a]:=by
 have e:=zS.1 f;have c:=zcV e.1;refine zcj λN d=>?_;unfold zJl oN;conv=>zeta
 refine j0 rfl (j0 rfl (j0 rfl ?_));refine(zbq a (λi (t:lG×lK)=>((i:Int),0,0,0,0,0,0,a,[],[],[],[],[],[],zhC 8,ze3 8,rp 8 false,t.1,[],t.2,())) _ (λi (x:List Ins) (u:List ah×List ax) h=>bif ilt (i:Int) ((2:Nat):Int) then (cond (few<|ln<|ap u.1 [zdO x]) (cond (few<|ln<|ap u.2 [zhX]) (h (ap u.1 [zdO x],ap u.2 [zhX])) none) none) else zUm u) (λ(t:lG×lK)=>some [.agg<|Ty.cells .mon (⟨zhC 8,ze3 8,rp 8 false,t.1,[],0,0,t.2,0⟩:Mon)]) (λi b t rec=>?_) (λt rec=>?_) _ ([],[])<|d c.1).trans ?_;{simp only [zbu b,zT b,zbi b,zbj b c.1,cT];have g:zfY a[i]=true:=zY (e.2 _<|jK b);simp only[g,cT];rfl};{simp only [zbh,cF]};exact zLp 2 zdO (λ_=>zhX) zUm a 0 ([],[]) (by simpa using c.2) (by simpa using c.2)
def zxO:vR 70 zjN:=kF1 zCv zC zb6 zc7 zVH zTW
def zI5 (N:Nat)(b:lP):OA:=
 let e:=zgp (ln b) 2; (oN (zjC 8)<|oN (ziU 8)<|oN (cond (few 8) (ieq 8 8) false)<|oN (inr 0 e<|ln b)<|r0 (σ:=(Int×Int×Int×Int×Int×Int×Int×Int×lP×lS×lM×lB×lG×LI×lK×lS×lM×lB×lG×LI×lK×Unit)) N (λl a=>let b:=a.2.2.2.2.2.2.2.2.2.2;let e:=b.2.2.2.2.2;let k:=e.1;let j:=e.2.1;let i:=e.2.2.1;let h:=e.2.2.2.1;let g:=e.2.2.2.2.1;let c:=a.2.2.2.2.2.2.2.2.1;let d:=e.2.2.2.2.2.1;let f:=ap h [zb1<|ix c a.2.1 []]; (cond (ilt a.2.1 a.1) (oN (inb a.2.1<|ln c)<|oN (zfY<|ix c a.2.1 [])<|oN (few<|ln f)<|oN (zno 4)<|oN (few<|ln<|ap d [zl1 4])<|l (a.1,zK .i64 a.2.1 1,a.2.2.1,a.2.2.2.1,a.2.2.2.2.1,a.2.2.2.2.2.1,a.2.2.2.2.2.2.1,a.2.2.2.2.2.2.2.1,c,a.2.2.2.2.2.2.2.2.2.1,b.1,b.2.1,b.2.2.1,b.2.2.2.1,b.2.2.2.2.1,k,j,i,f,g,ap d [zl1 4],()))<|some [aT .mon (⟨k,j,i,h,g,a.2.2.2.2.2.1,a.2.2.2.2.2.2.1,d,a.2.2.2.2.2.2.2.1⟩:Mon)])) (ln<|tk b e,0,0,0,0,0,0,0,tk b e,[],[],[],[],[],[],zhx 8,ze3 8,rp 8 false,[],[],[],()))
def zVy:=zx [(68,0,{n:=35,tm:=[(2,.lp 0 0),(3,.lp 1 0),(14,.sl 0 []),(15,ti),(16,ti)],lo:=[(0,[.sl 1 [],.sl 2 [],.sl 3 [],.sl 4 [],.sl 5 [],ti,ti,.sl 6 [],ti]),(1,[.sl 7 [],.sl 8 [],.sl 9 [],.sl 10 [],.sl 11 [],ti,ti,.sl 12 [],ti])],ro:=[(0,.sl .ins,false),(1,.slot,true),(2,.sl .int,true),(3,.bool,true),(4,.guest,true),(5,.int,true),(6,.kept,true),(7,.slot,true),(8,.sl .int,true),(9,.bool,true),(10,.guest,true),(11,.int,true),(12,.kept,true)]})]
def zTG (a:List lI)(j:zhB a=true):∃N,zI5 N a=some [aT .mon<|zkn a]:=by
 have f:=zS.1 j;have m:=zcV f.1;have h:=z3r a 2;have g:tk a (zgp (ln a) 2)=a.take 2:=h.1;have d:(tk a<|zgp (ln a) 2).length<=1048576:=(by rw[g];exact qU (by simp;omega) f.1);have b:=(zcV d).1;refine zcj λN e=>?_;unfold zI5 oN;conv=>zeta
 refine j0 rfl (j0 rfl (j0 rfl (j0 h.2 ?_)));refine(zbq (tk a<|zgp (ln a) 2) (λi (t:lG×lK)=>(ln<|tk a<|zgp (ln a) 2,(i:Int),0,0,0,0,0,0,tk a<|zgp (ln a) 2,[],[],[],[],[],[],zhx 8,ze3 8,rp 8 false,t.1,[],t.2,())) _ (λ_ (x:List Ins) (u:List ah×List ax) l=>bif few (ln<|ap u.1 [zdO x]) then (cond (few<|ln<|ap u.2 [zhX]) (l (ap u.1 [zdO x],ap u.2 [zhX])) none) else none) (λ(t:lG×lK)=>some [.agg<|Ty.cells .mon (⟨zhx 8,ze3 8,rp 8 false,t.1,[],0,0,t.2,0⟩:Mon)]) (λi c t rec=>?_) (λt rec=>?_) _ ([],[])<|e b).trans ?_;{simp only [zbu c,zT c,zbi c,zbj c b,cT];have k:zfY (tk a<|zgp (ln a) 2)[i]=true:=zY (f.2 _<|z3q<|jK c);simp only[k,cT];rfl};{simp only [zbh,cF]};refine(zP0 zdO (λ_=>zhX) zUm _ 0 ([],[]) (by simp only[jZ];omega) (by simp only[jZ];omega)).trans ?_;rw[g];rfl
def zxK:vR 68 zjN:=kF1 zCv zC zb6 zc7 zVy zTG
def z1f:zW:=[(70,zjN),(68,zjN)]++z1e
def zCw:zL z1f:=zh zxO (zh zxK zCv)
def zZC:List LI:=List.replicate 12 [0,0,0,0]
def zcS (a:List (List<|List Ins)):ad:=⟨zZC,(a.take 3).map zfV,[],[]⟩
def zvh (a:List (List<|List Ins)):Prop:=a.length<=1048576/\∀p∈a,zyW p
@[simp] abbrev zjd (a:List (List<|List Ins)):Bool:=pc (zvh a)
@[simp] abbrev zeH (a:List (List<|List Ins)):ad:=zcS a
def zNK (t:List Mon):OA:=some [AV.agg<|zbo ⟨zZC,t,[],[]⟩]
def ziu:Run:=rF1 (dS<|.sl<|.sl .ins) λb=>(zjd b,[aH<|zeH b])
def zFS (N:Nat)(d:lQ):OA:=
 (oN (ziU 12)<|r0 (σ:=(Int×lQ×lM×lN×lE×lE×lM×lN×lE×lE×Unit)) N (λe a=>let d:=a.2.2.2.2.2.2;let c:=ap d.2.1 [zkn<|ix a.2.1 a.1 []];let b:=aH (⟨d.1,d.2.1,d.2.2.1,d.2.2.2.1⟩:ad); (cond (ilt a.1<|ln a.2.1) (cond (ilt a.1 3) (oN (inb a.1<|ln a.2.1)<|oN (zhB<|ix a.2.1 a.1 [])<|oN (few<|ln c)<|e (zK .i64 a.1 1,a.2.1,a.2.2.1,a.2.2.2.1,a.2.2.2.2.1,a.2.2.2.2.2.1,d.1,c,d.2.2.1,d.2.2.2.1,()))<|some [b])<|some [b])) (0,d,[],[],[],[],ze3 12,[],[],[],()))
def zRX:=zx [(62,0,{n:=28,tm:=[(0,.sl 0 []),(2,.lp 0 0),(3,.lp 1 0),(4,ti)],lo:=[(0,[.sl 1 [],.sl 2 [],.sl 3 [],.sl 4 []]),(1,[.sl 5 [],.sl 6 [],.sl 7 [],.sl 8 []])],ro:=[(0,.sl<|.sl .ins,false),(1,.sl .int,true),(2,.mon,true),(3,.entry,true),(4,.entry,true),(5,.sl .int,true),(6,.mon,true),(7,.entry,true),(8,.entry,true)]})]
def zRe (a:List lP)(f:zjd a=true):∃N,zFS N a=some [aH<|zeH a]:=by
 have e:=zS.1 f;have d:=zcV e.1;refine zcj λN c=>?_;unfold zFS oN;conv=>zeta
 refine j0 rfl ?_;refine(zbq a (λi (t:lN)=>((i:Int),a,[],[],[],[],ze3 12,t,[],[],())) _ (λi (x:List lI) (t:List Mon) h=>bif ilt (i:Int) ((3:Nat):Int) then (cond (few<|ln<|ap t [zfV x]) (h<|ap t [zfV x]) none) else zNK t) (λ(t:lN)=>some [.agg<|zbo (⟨ze3 12,t,[],[]⟩:ad)]) (λi b t rec=>?_) (λt rec=>?_) _ ([])<|c d.1).trans ?_;{simp only [zbu b,zT b,zbi b,zbj b d.1,cT];have g:zhB a[i]=true:=zY (e.2 _<|jK b);simp only[g,cT];rfl};{simp only [zbh,cF]};exact zP3 3 zfV zNK a 0 [] (by simpa using d.2)
def zvM:vR 62 ziu:=kF1 zCw zC zb6 zc7 zRX zRe
def zFz (N:Nat)(b:lQ):OA:=
 let c:=zgp (ln b) 3; (oN (ziU 12)<|oN (inr 0 c<|ln b)<|r0 (σ:=(Int×Int×lQ×lM×lN×lE×lE×lM×lN×lE×lE×Unit)) N (λe a=>let b:=a.2.2.2.2.2.2.2;let d:=ap b.2.1 [zkn<|ix a.2.2.1 a.2.1 []]; (cond (ilt a.2.1 a.1) (oN (inb a.2.1<|ln a.2.2.1)<|oN (zhB<|ix a.2.2.1 a.2.1 [])<|oN (few<|ln d)<|e (a.1,zK .i64 a.2.1 1,a.2.2.1,a.2.2.2.1,a.2.2.2.2.1,a.2.2.2.2.2.1,a.2.2.2.2.2.2.1,b.1,d,b.2.2.1,b.2.2.2.1,()))<|some [aH (⟨b.1,b.2.1,b.2.2.1,b.2.2.2.1⟩:ad)])) (ln<|tk b c,0,tk b c,[],[],[],[],ze3 12,[],[],[],()))
def zRR:=zx [(66,0,{n:=27,tm:=[(2,.lp 0 0),(3,.lp 1 0),(12,.sl 0 []),(13,ti),(14,ti)],lo:=[(0,[.sl 1 [],.sl 2 [],.sl 3 [],.sl 4 []]),(1,[.sl 5 [],.sl 6 [],.sl 7 [],.sl 8 []])],ro:=[(0,.sl<|.sl .ins,false),(1,.sl .int,true),(2,.mon,true),(3,.entry,true),(4,.entry,true),(5,.sl .int,true),(6,.mon,true),(7,.entry,true),(8,.entry,true)]})]
def zQV (a:List lP)(j:zjd a=true):∃N,zFz N a=some [aH<|zeH a]:=by
 have g:=zS.1 j;have h:=z3r a 3;have f:tk a (zgp (ln a) 3)=a.take 3:=h.1;have d:(tk a<|zgp (ln a) 3).length<=1048576:=(by rw[f];exact qU (by simp;omega) g.1);have b:=(zcV d).1;refine zcj λN e=>?_;unfold zFz oN;conv=>zeta
 refine j0 rfl (j0 h.2 ?_);refine(zbq (tk a<|zgp (ln a) 3) (λi (t:lN)=>(ln<|tk a<|zgp (ln a) 3,(i:Int),tk a<|zgp (ln a) 3,[],[],[],[],ze3 12,t,[],[],())) _ (λ_ (x:List lI) (t:List Mon) l=>bif few (ln<|ap t [zfV x]) then l (ap t [zfV x]) else none) (λ(t:lN)=>some [.agg<|zbo (⟨ze3 12,t,[],[]⟩:ad)]) (λi c t rec=>?_) (λt rec=>?_) _ ([])<|e b).trans ?_;{simp only [zbu c,zT c,zbi c,zbj c b,cT];have k:zhB (tk a<|zgp (ln a) 3)[i]=true:=zY (g.2 _<|z3q<|jK c);simp only[k,cT]};{simp only [zbh,cF]};refine(zUj zfV zNK _ 0 [] (by simp only[jZ];omega)).trans ?_;rw[f];rfl
def zvE:vR 66 ziu:=kF1 zCw zC zb6 zc7 zRR zQV
def z1g:zW:=[(62,ziu),(66,ziu)]++z1f
def zPE:zL z1g:=zh zvM (zh zvE zCw)
def zjA:Nat->Nat->ax->ax
 | 0,_,k=>k
 |n+1,i,k=>zjA n (i+1) (zbW k (i:Int))
def zka (k:ax):ax:=zjA k.ay.length 0 k
def zZa (k:ax)(p:Int):(zbW k p).ay.length=k.ay.length:=by unfold zbW;cases zdQ k p;{rfl};{exact zht _ _ _}
def zxf:∀(n i:Nat) (k:ax),SmK k->SmK (zjA n i k)
 | 0,_,_,h=>h
 |n+1,i,k,h=>zxf n (i+1) _ (zqd h)
@[simp] abbrev zw2 (k:ax):ax:=zka k
def zwb:Run:=rF1 (dT .kept) λb=>(zfc b,[aT .kept<|zw2 b])
def zAo (N:Nat)(c:ax):OA:=
 (oN (zgM c)<|r0 (σ:=(Int×lB×lS×lB×lS×Unit)) N (λd a=>let b:=(⟨a.2.1,a.2.2.1⟩:ax); (cond (ilt a.1<|ln a.2.1) (oN (zdB b a.1)<|d (zK .i64 a.1 1,(zhq b a.1).ay,(zhq b a.1).aA,a.2.2.2.1,a.2.2.2.2.1,()))<|some [aT .kept b])) (0,(zdK c).ay,(zdK c).aA,[],[],()))
def zMz:=zx [(178,0,{n:=17,tm:=[(1,.lp 0 0),(2,.lp 1 0),(3,ti)],lo:=[(0,[.sl 0 [],.sl 1 []]),(1,[.sl 2 [],.sl 3 []])],ro:=[(0,.bool,true),(1,.slot,true),(2,.bool,true),(3,.slot,true)]})]
def zLl (a:ax)(g:zfc a=true):∃N,zAo N a=some [aT .kept<|zw2 a]:=by
 have d:=zS.1 g;have f:=zcV d.1;refine zcj λN c=>?_;unfold zAo oN;conv=>zeta
 refine j0 (zbL<|(zxy _).2 d) ?_;refine(zEf a.ay.length (λi (k:ax)=>((i:Int),k.ay,k.aA,[],[],())) _ (λi k=>SmK k/\k.ay.length=a.ay.length) (λi k=>some [AV.agg<|Ty.cells .kept<|zjA (a.ay.length-i) i k]) (λi k rec e b h=>?_) (λk rec b=>?_) N 0 a ⟨d,rfl⟩ (j7 _)<|c f.1).trans rfl;{refine j0 (zbu (by rw[b.2];exact e)) (j0 (zY b.1) ?_);have q:=h (zbW k (i:Int)) ⟨zqd b.1,by rw[zZa];exact b.2⟩;rw[show a.ay.length-i=a.ay.length-(i+1)+1 by omega];rw[zbj e f.1];exact q};{refine zb7 (by show ilt (a.ay.length:Int) (ln k.ay)=false;rw[ln,b.2];exact qV (by omega)) ?_;rw[uB];rfl}
def zEQ:vR 178 zwb:=kF1 zPE zC zb6 zc7 zMz zLl
def z1h:zW:=[(178,zwb)]++z1g
def zPF:zL z1h:=zh zEQ zPE
def zvn:Nat->Nat->List ax->List ax
 | 0,_,l=>l
 |n+1,j,l=>zvn n (j+1) (up l (j:Int)<|zka<|ix l (j:Int) kZ)
def zvo (x:Mon)(n j:Nat):Mon:={x with ai:=zvn n j x.ai}
def zoS:Nat->Nat->List Mon->List Mon
 | 0,_,t=>t
 |n+1,i,t=>zoS n (i+1) (up t (i:Int)<|zvo (ix t (i:Int) mZ) (ix t (i:Int) mZ).ai.length 0)
def cold (h:ad):ad:=⟨h.ag,zoS h.aa.length 0 h.aa,[],[]⟩
def zMe:∀(n j:Nat) (l:List ax),j+n<=l.length->zCf l->zCf (zvn n j l)
 | 0,_,_,_,h=>h
 |n+1,j,l,b,h=>by have a:j<l.length:=(by omega);refine zMe n (j+1) _ (by rw[zht];omega) (zyD h<|zxf _ _ _ ?_);rw[zbi a];exact h.2 _ (jK a)
def zMg {x:Mon}(h:ze4 x){n j:Nat}(a:j+n<=x.ai.length):ze4 (zvo x n j):=⟨h.1,h.2.1,h.2.2.1,h.2.2.2.1,h.2.2.2.2.1,zMe n j _ a h.2.2.2.2.2⟩
@[simp] abbrev zUR (h:ad):ad:=cold h
def zLP:Run:=rF1 dH λb=>(zby b,[aH<|zUR b])
def zSo (N:Nat)(d:ad):OA:=
 (oN (zby d)<|r0 (σ:=(Int×lM×lN×lE×lE×lM×lN×lE×lE×Unit)) N (λg b=>cond (ilt b.1<|ln b.2.2.1) (r0 (σ:=(Int×Int×lM×lN×lE×lE×lM×lN×lE×lE×Unit)) N (λh a=>let b:=a.2.2.2.2.2;let e:=inb a.1<|ln a.2.2.2.1;let c:=ix a.2.2.2.1 a.1 zi;let f:=ix c.ai a.2.1 zex; (oN e<|cond (ilt a.2.1<|ln c.ai) (oN e<|oN e<|oN (inb a.2.1<|ln c.ai)<|oN (zfc f)<|oN (inb a.2.1<|ln c.ai)<|p0 (up a.2.2.2.1 a.1 ({c with ai:=(up c.ai a.2.1<|zw2 f)}:Mon)) λi=>h (a.1,zK .i64 a.2.1 1,a.2.2.1,i,a.2.2.2.2.1,b.1,b.2.1,b.2.2.1,b.2.2.2.1,b.2.2.2.2.1,()))<|g (zK .i64 a.1 1,a.2.2.1,a.2.2.2.1,a.2.2.2.2.1,b.1,b.2.1,b.2.2.1,b.2.2.2.1,b.2.2.2.2.1,()))) (b.1,0,b.2.1,b.2.2.1,b.2.2.2.1,b.2.2.2.2.1,b.2.2.2.2.2.1,b.2.2.2.2.2.2.1,b.2.2.2.2.2.2.2.1,b.2.2.2.2.2.2.2.2.1,()))<|some [aH (⟨b.2.1,b.2.2.1,[],[]⟩:ad)]) (0,(zo d).ag,(zo d).aa,(zo d).ao,(zo d).an,[],[],[],[],()))
def z0B:=zx [(58,0,{n:=48,tm:=[(1,.lp 0 0),(2,.lp 1 0),(3,ti)],lo:=[(0,[.sl 0 [],.sl 1 [],.sl 2 [],.sl 3 []]),(1,[.sl 4 [],.sl 5 [],.sl 6 [],.sl 7 []])],ro:=[(0,.sl .int,true),(1,.mon,true),(2,.entry,true),(3,.entry,true),(4,.sl .int,true),(5,.mon,true),(6,.entry,true),(7,.entry,true)]}),(58,2,{n:=48,tm:=[(1,.lp 0 0),(2,.lp 1 0),(3,ti),(4,ti)],lo:=[(0,[.sl 0 [],.sl 1 [],.sl 2 [],.sl 3 []]),(1,[.sl 4 [],.sl 5 [],.sl 6 [],.sl 7 []])],ro:=[(0,.sl .int,true),(1,.mon,true),(2,.entry,true),(3,.entry,true),(4,.sl .int,true),(5,.mon,true),(6,.entry,true),(7,.entry,true)]})]
def zZy (a:ad)(m:zby a=true):∃N,zSo N a=some [aH<|zUR a]:=by
 have v:=(zbc a).1 (zS.1 m);have s:=zcV v.2.1.1;refine zcj λN f=>?_;unfold zSo oN;conv=>zeta
 refine j0 m ?_;refine(zEf a.aa.length (λi (t:List Mon)=>((i:Int),a.ag,t,a.ao,a.an,[],[],[],[],())) _ (λi t=>zrZ t/\t.length=a.aa.length) (λi t=>some [AV.agg<|zbo ⟨a.ag,zoS (a.aa.length-i) i t,[],[]⟩]) (λi t rec n e x=>?_) (λt rec e=>?_) N 0 a.aa ⟨v.2.1,rfl⟩ (j7 _)<|f s.1).trans rfl
 .have hit:i<t.length:=(by rw[e.2];exact n);have l:ze4 (ix t (i:Int) mZ):=by rw[zbi hit];exact e.1.2 _ (jK hit)
  have r:=zcV l.2.2.2.2.2.1;refine j0 (zbu hit) ?_;refine(zEf (ix t (i:Int) mZ).ai.length (λj (u:List Mon)=>((i:Int),(j:Int),a.ag,u,a.ao,a.an,[],[],[],[],()))
   _ (λj u=>u.length=t.length/\ze4 (ix u (i:Int) mZ)/\(ix u (i:Int) mZ).ai.length=(ix t (i:Int) mZ).ai.length)
   (λj u=>rec (((i+1:Nat):Int),a.ag,up u (i:Int)<|zvo (ix u (i:Int) mZ) ((ix t (i:Int) mZ).ai.length-j) j,a.ao,a.an,[],[],[],[],()))
   (λj u h p c k=>?_) (λu h c=>?_) N 0 t ⟨rfl,l,rfl⟩ (j7 _) (f r.1)).trans ?_
  .have b:i<u.length:=(by rw[c.1];exact hit);have d:j<(ix u (i:Int) mZ).ai.length:=(by rw[c.2.2];exact p);have g:SmK (ix (ix u (i:Int) mZ).ai (j:Int) kZ):=by rw[zbi d];exact c.2.1.2.2.2.2.2.2 _ (jK d)
   refine j0 (zT b) (j0 (zbu d)<|j0 (zT b)<|j0 (zT b)<|j0 (zT d)<|j0 (zY g)<|j0 (zT d)<|shr ?_);have w:ze4 {ix u (i:Int) mZ with ai:=up (ix u (i:Int) mZ).ai (j:Int) (zka<|ix (ix u (i:Int) mZ).ai (j:Int) kZ)} :=
    ⟨c.2.1.1,c.2.1.2.1,c.2.1.2.2.1,c.2.1.2.2.2.1,c.2.1.2.2.2.2.1,zyD c.2.1.2.2.2.2.2<|zxf _ _ _ g⟩
   have q:=k (up u (i:Int) {ix u (i:Int) mZ with ai:=up (ix u (i:Int) mZ).ai (j:Int) (zka<|ix (ix u (i:Int) mZ).ai (j:Int) kZ)}) ⟨by rw[zht];exact c.1,by rw[zem b];exact w,by rw[zem b];simp only[zht];exact c.2.2⟩;rw[zbj p r.1];refine q.trans ?_;rw[zem b,zwB,show (ix t (i:Int) mZ).ai.length-j=(ix t (i:Int) mZ).ai.length-(j+1)+1 by omega];rfl
  {have b:i<u.length:=(by rw[c.1];exact hit);refine j0 (zT b) (zb7 (by show ilt ((ix t (i:Int) mZ).ai.length:Int) (ln (ix u (i:Int) mZ).ai)=false;rw[ln,c.2.2];exact qV (by omega)) ?_);rw[zbj n s.1,uB];show rec (_,a.ag,u,_)=rec (_,a.ag,up u (i:Int)<|ix u (i:Int) mZ,_);rw[zO1 b]};{have q:=x (up t (i:Int)<|zvo (ix t (i:Int) mZ) (ix t (i:Int) mZ).ai.length 0) ⟨zj3 e.1<|zMg l (by omega),by rw[zht];exact e.2⟩;refine q.trans ?_;rw[show a.aa.length-i=a.aa.length-(i+1)+1 by omega];rfl}
 {refine zb7 (by show ilt (a.aa.length:Int) (ln t)=false;rw[ln,e.2];exact qV (by omega)) ?_;rw[uB];rfl}
def zTo:vR 58 zLP:=kF1 zPF zC zb6 zc7 z0B zZy
def z1i:zW:=[(58,zLP)]++z1h
def z1j:zL z1i:=zh zTo zPF
end
end Go.Proofs.YtapgkefgcbapcaaGreat.E
