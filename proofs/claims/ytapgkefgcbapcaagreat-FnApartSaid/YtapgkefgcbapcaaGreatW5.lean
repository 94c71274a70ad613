/- What is proved here: a part of the proof of the claim. -/
import Derived.Test.YtapgkefgcbapcaaGreatW4
import Derived.Shelf.Bits.Mul64
import Derived.Ground.NamesProg
import Derived.Laws.CopyOwn
import Derived.Deep.RegionLaw
namespace Go.Proofs.YtapgkefgcbapcaaGreat.E
open Go
set_option linter.defProp false
set_option linter.constructorNameAsVariable false
set_option linter.unusedVariables false
set_option maxRecDepth 100000
set_option linter.unusedSimpArgs false
set_option linter.unusedSectionVars false
noncomputable section
abbrev mZ:Mon:=Ty.dflt .mon
abbrev sZ:k0:=Ty.dflt .slot
def ShM (x:Mon):Prop:=x.ae.length=8/\x.Out.length=8/\x.av.length=8/\x.ai.length=x.ad.length
def Shape (h:ac):Prop:=SmH h/\∀x∈h.aa,ShM x
def ziE {h:ac}{m:Int}{x:Mon}(a:Shape h)(c:zfZ x)(d:ShM x):Shape {h with aa:=up h.aa m x}:=by refine⟨⟨a.1.1,zjn a.1.2.1 c,a.1.2.2⟩,λy b=>?_⟩;rcases qZ b with b|rfl;{exact a.2 y b};{exact d}
def zcG {h:ac}(b:Shape h){m:Int}(a:i0 m (ln h.aa)=true):zfZ (ix h.aa m mZ)/\ShM (ix h.aa m mZ):=⟨b.1.2.1.2 _<|zbD a _,b.2 _<|zbD a _⟩
def zO5 {h:ac}{b:List LI}(a:Shape h)(c:SmM b):Shape {h with ag:=b}:=⟨⟨c,a.1.2⟩,a.2⟩
def zsi {h:ac}{m p:Int}{s:k0}(e:i0 m (ln h.aa)=true)(b:Shape h):Shape (zcc h m p s):=by refine⟨zFG e b.1,?_⟩;obtain⟨_,a⟩:=zcG b e;have d:∀y∈up h.aa m {zkI (ix h.aa m mZ) p (ix h.aa m mZ).ai.length with ae:=up (ix h.aa m mZ).ae p s},ShM y:=(by intro y c;rcases qZ c with c|rfl;{exact b.2 y c};{exact⟨by simpa using a.1,a.2.1,a.2.2.1,by simpa [zkI,zqm] using a.2.2.2⟩});unfold zcc;cases ine (ix (ix h.aa m mZ).ae p sZ).af (-1)<;>exact d
def zgz (h:ac)(m p:Int)(s:k0):(zcc h m p s).aa=up h.aa m {zkI (ix h.aa m mZ) p (ix h.aa m mZ).ai.length with ae:=up (ix h.aa m mZ).ae p s}/\(zcc h m p s).ag=h.ag:=by unfold zcc;cases ine (ix (ix h.aa m mZ).ae p sZ).af (-1)<;>exact⟨rfl,rfl⟩
def zeT {h:ac}{m k:Int}{x:Mon}(a:i0 m (ln h.aa)=true):i0 m (ln<|up h.aa k x)=true:=by simpa [ln] using a
def zE4 {h:ac}{m k p:Int}{s:k0}(a:i0 m (ln h.aa)=true):i0 m (ln (zcc h k p s).aa)=true:=by rw[(zgz h k p s).1];exact zeT a
def zdN {b:Type}{l:List b}{p:Int}(h:l.length=8)(a:i0 p 8=true):i0 p (ln l)=true:=by rw[ln,h];exact a
def zyC (h:ac)(m p:Int)(s:k0):ac :=
 bif ine s.af (-1) then ⟨h.ag,up h.aa m<|zkI (ix h.aa m mZ) p (ix h.aa m mZ).ad.length,flushed h.am s.af,flushed h.ak s.af⟩
 else ⟨h.ag,up h.aa m<|zkI (ix h.aa m mZ) p (ix h.aa m mZ).ad.length,h.am,h.ak⟩
def zy8 {h:ac}{k:Nat}{p:Int}{s:k0}(a:k<h.aa.length)(b:(ix h.aa (k:Int) mZ).ai.length=(ix h.aa (k:Int) mZ).ad.length) :
 zyC {h with aa:=up h.aa (k:Int) {ix h.aa (k:Int) mZ with ae:=up (ix h.aa (k:Int) mZ).ae p s}} (k:Int) p (ix (ix h.aa (k:Int) mZ).ae p sZ)=zcc h (k:Int) p s:=by
 unfold zcc zyC;simp only[zd8 a,zvF,zkI,b]
def zYh {a:Type}(m p:Int)(i:Nat)(t:List Mon)(b:List Mon->Option a):Option a :=
 (cond (inb (i:Int)<|ln (ix t m mZ).ai) (cond (inb (i:Int)<|ln (ix t m mZ).ad) (cond (pc<|SmK (ix (ix t m mZ).ai (i:Int) zdi)/\(ix (ix t m mZ).ad (i:Int) zI).ay.length<=1048576) (cond (inb (i:Int)<|ln (ix t m mZ).ai) (b<|up t m ({ (ix t m mZ) with ai:=(up (ix t m mZ).ai (i:Int)<|zjx (ix (ix t m mZ).ai (i:Int) zdi) (ix (ix t m mZ).ad (i:Int) zI).ay p)}:Mon)) none) none) none) none)
def zWE {j:Type}{mons:List Mon}{k:Nat}(d:k<mons.length)(p:Int)(c:zfZ (ix mons (k:Int) mZ))(f:(ix mons (k:Int) mZ).ai.length=(ix mons (k:Int) mZ).ad.length)(K:List Mon->Option j) :
 ∀(n i:Nat),i+n=(ix mons (k:Int) mZ).ad.length->goN (λi t g=>zYh (k:Int) p i t g) K n i (up mons (k:Int)<|zkI (ix mons (k:Int) mZ) p i)=K (up mons (k:Int)<|zkI (ix mons (k:Int) mZ) p (ix mons (k:Int) mZ).ad.length)
 | 0,i,h=>by have:i=(ix mons (k:Int) mZ).ad.length:=(by omega);subst this;rfl
 |n+1,i,h=>by
  have b:i<(ix mons (k:Int) mZ).ad.length:=(by omega);have a:i<(zlw (ix mons (k:Int) mZ).ad p i (ix mons (k:Int) mZ).ai).length:=by rw[zqm];omega
  have e:pc (SmK (ix (zlw (ix mons (k:Int) mZ).ad p i (ix mons (k:Int) mZ).ai) (i:Int) zdi)/\(ix (ix mons (k:Int) mZ).ad (i:Int) zI).ay.length<=1048576)=true :=
   zbS ⟨by rw[zbi a];exact(zvD _ _ _ _ (by omega) c.2.2.2.2.2).2 _ (jB a),by rw[zbi b];exact(c.2.2.2.1.2 _<|jB b).2.2.1⟩
  simp only[goN,zYh,zd8 d,zvF,zkI,zY a,zY b,e,cT];exact zWE d p c f K n (i+1) (by omega)
@[simp] abbrev zeC (h:ac)(m p:Int)(s:k0):Bool:=pc (Shape h/\i0 m (ln h.aa)=true)
@[simp] abbrev zeD (h:ac)(m p:Int)(s:k0):ac:=zyC h m p s
def zmj:LC->LA->Option (Bool×LC×LA)
 |[.s (.sl .int) b,.s .mon c,.s .entry d,.s .entry e],[.one<|.i .i64 f,.one<|.i .i64 g,.agg [.i .i64 h,.i .i64 j]]=>some (zeC (⟨b,c,d,e⟩:ac) f g (⟨h,j⟩:k0),zbo<|zeD (⟨b,c,d,e⟩:ac) f g (⟨h,j⟩:k0),[])
 |_,_=>none
def zpz (N:Nat)(c:ac)(i n:Int)(k:k0):OA:=
 (oN (inb i<|ln c.aa)<|r0 (σ:=(Int×Int×Int×Int×Int×Int×lN×lM×lE×lE×Unit)) N (λp a=>let c:=a.2.2.2.2;let j:=c.2.2.2.1;let h:=c.2.2.1;let e:=c.1;let g:=c.2.2.2.2.1;let f:=c.2.2.2.2.2.1;let b:=a.2.2.2.1;let d:=ix h a.2.1 zh;let m:=ix d.ai b zdi;let l:=(ix d.ad b zI).ay; (cond (ilt b a.2.2.1) (oN (inb b<|ln d.ai)<|oN (inb b<|ln d.ad)<|oN (zho m l a.1)<|oN (inb b<|ln d.ai)<|p0 (up h a.2.1 ({d with ai:=(up d.ai b<|zlg m l a.1)}:Mon)) λq=>p (a.1,a.2.1,a.2.2.1,zK .i64 b 1,e,c.2.1,q,j,g,f,()))<|cond (ine e<|-1) (oN (zd6 g e)<|oN (zd6 f e)<|some [aH (⟨j,h,zgi g e,zgi f e⟩:ac)])<|some [aH (⟨j,h,g,f⟩:ac)])) (n,i,ln (ix c.aa i zh).ad,0,k.af,k.aj,c.aa,c.ag,c.am,c.ak,()))
def zHD:=zy [(325,0,{n:=71,tm:=[(0,.lp 0 0),(2,ti),(7,.lp 1 0),(8,.ep 0 [] 0),(20,ti),(21,ti)],lo:=[(0,[.sl 1 [],.sl 0 [],.sl 2 [],.sl 3 []]),(1,[ti,ti])],ro:=[(0,.mon,true),(1,.sl .int,true),(2,.entry,true),(3,.entry,true)]})]
def zJ6 (N:Nat)(c:ac)(a b:Int)(d:k0):zn8 (cQ zqy zoh zHg zUg) zHD N 12 325 [true,true,true,true] (zbo c) [aI a,aI b,aT .slot d]=zpz N c a b d:=by kernel_rfl
def zGY (c:ac)(d b:Int)(a:k0)(s:zbY big (.agg (zbo c)::[aI d,aI b,aT .slot a]))(r:zeC c d b a=true):∃N,zpz N c d b a=some (.agg (zbo<|zeD c d b a)::[]):=by
 obtain⟨h,g⟩:=zS.1 r;obtain⟨l,q⟩:=zcG h g;have hg:(ix c.aa d mZ).ad.length<=big:=(zcY l.2.2.2.1.1).1;refine zcd λN f=>?_;unfold zpz oN;conv=>zeta
 refine j0 (zF g) ?_;refine(zbg ((ix c.aa d zh).ad) (λi (t:lN)=>(b,d,ln (ix c.aa d zh).ad,(i:Int),a.af,a.aj,t,c.ag,c.am,c.ak,())) _ (λi (x:ah) (t:List Mon) j=>zYh d b i t j) (λ(t:lN)=>cond (ine a.af<|-1) (cond (zd6 c.am a.af) (cond (zd6 c.ak a.af) (some [.agg<|zbo (⟨c.ag,t,zgi c.am a.af,zgi c.ak a.af⟩:ac)]) none) none)<|some [.agg<|zbo (⟨c.ag,t,c.am,c.ak⟩:ac)]) (λi e t rec=>?_) (λt rec=>?_) _ (c.aa)<|f hg).trans ?_;{simp only [zbx e,zY e,zbi e,zV e hg,cT];rfl};{simp only [zbq,cF]};obtain⟨k,rfl,m⟩:=zdY (n:=c.aa.length) g;rw[zpO λi t j=>zYh (k:Int) b i t j];have p:c.aa=up c.aa (k:Int) (zkI (ix c.aa (k:Int) mZ) b 0):=(zNG m _).symm;refine(congrArg _ p).trans ((zWE m b l q.2.2.2 _ _ 0<|j4 _).trans ?_);show (cond (ine a.af<|-1) _ _)=some [AV.agg<|zbo<|zyC c (k:Int) b a];unfold zyC;cases ine a.af (-1);{rfl};{exact j0 rfl (j0 (zbS h.1.2.2.1) (j0 (zbS h.1.2.2.2) rfl))}
def zBB:zbQ Tryz.prog 325 [true,true,true,true] zmj:=by refine zhm (zf3 zio zD zB zeI) (zhJ (by kernel_rfl)) ?_;intro g a b j i f h;have d:=zkT f;unfold zmj at h;split at h;{obtain⟨e,rfl,rfl⟩:=zmM h;obtain⟨N,c⟩:=zGY _ _ _ _ (by exact d) e;exact⟨rfl,_,N,12,(zJ6 N _ _ _ _ ).trans c⟩};{cases h}
def zYH:zc0:=[(325,[true,true,true,true],zmj)]++zHg
def zNb:zb5 zYH:=zcu zB (by
 intro x a;simp only[qG,qO,or_false]at a;rcases a with rfl
 .exact zBB)
def zeO (h:ac)(m p:Int):ac:={h with aa:=up h.aa m {ix h.aa m mZ with Out:=up (ix h.aa m mZ).Out p (zcD h.ag (ix (ix h.aa m mZ).ae p sZ).af)}}
def zdH (h:ac)(m p:Int):ac:=zcc (zeO h m p) m p C0
def zT4 {m:List LI}{p:Int}(h:SmM m):(zcD m p).length<=1048576:=by unfold zcD;cases a:i0 p (ln m);{exact(by decide:zzf.length<=1048576)};{exact h.2 _ (zbD a _)}
def zwn {h:ac}{m p:Int}(c:Shape h)(d:i0 m (ln h.aa)=true):Shape (zeO h m p):=by obtain⟨a,b⟩:=zcG c d;exact ziE c ⟨a.1,zKP a.2.1<|zT4 c.1.1,a.2.2⟩ ⟨b.1,by simpa using b.2.1,b.2.2⟩
def zKG {h:ac}{m p:Int}(b:Shape h)(a:i0 m (ln h.aa)=true):Shape (zdH h m p):=zsi (zeT a) (zwn b a)
@[simp] abbrev zjU (h:ac)(m p:Int):Bool:=pc (Shape h/\i0 m (ln h.aa)=true/\i0 p 8=true)
@[simp] abbrev zns (h:ac)(m p:Int):ac:=zdH h m p
def ztX:LW
 |[.agg [.s (.sl .int) b,.s .mon c,.s .entry d,.s .entry e],.one<|.i .i64 f,.one<|.i .i64 g]=>some (zjU (⟨b,c,d,e⟩:ac) f g,[aH<|zns (⟨b,c,d,e⟩:ac) f g])
 |_=>none
def zx3 (N:Nat)(a:ac)(b c:Int):OA:=
 let d:=ix a.aa b zh;let e:=(ix d.ae c zQ).af; (oN (inb b<|ln a.aa)<|oN (inb b<|ln a.aa)<|oN (inb c<|ln d.ae)<|oN (zoV a.ag e)<|oN (inb c<|ln d.Out)<|p0 (up a.aa b ({d with Out:=(up d.Out c<|zno a.ag e)}:Mon)) (λg=>let f:=({a with aa:=g}:ac); (oN zbz<|oN (zfr f b c zW)<|some [aH<|zhf f b c zW])))
def zVx (N:Nat)(a:ac)(b c:Int):zC3 (cQ zqy zoh zYH zUg) (zy []) N 12 432 [true,true,true,true,false,false] 1 1 [[0],[1],[2],[4],[7]] .mon [aH a,aI b,aI c]=zx3 N a b c:=by kernel_rfl
def zSW (b:ac)(d c:Int)(m:zbY big [aH b,aI d,aI c])(j:zjU b d c=true):∃N,zx3 N b d c=some [aH<|zns b d c]:=by
 obtain⟨g,a,f⟩:=zS.1 j;obtain⟨l,e⟩:=zcG g a;obtain⟨k,rfl,h⟩:=zdY (n:=b.aa.length) a;have i:=zwn (p:=c) g a;refine⟨0,?_⟩;unfold zx3 oN;conv=>zeta
 refine j0 (zF a) (j0 (zF a)<|j0 (zF<|zdN e.1 f)<|j0 (zbS<|(zpJ _).2 g.1.1)<|j0 (zF<|zdN e.2.1 f)<|shr (j0 rfl (j0 (zbS ⟨(zbd _).2 i.1,zeT a,?_,?_⟩) rfl)));{simp only [zd8 h];exact zdN e.1 f};{simp only [zd8 h];exact k9 e.2.2.2}
def zMn:zdT Tryz.prog 432 [true,true,true,true,false,false] (some (1,1,[[0],[1],[2],[4],[7]])) ztX:=by refine zlG (kt:=.mon) (zf3 zio zD zNb zeI) (zhJ (by kernel_rfl)) (by kernel_rfl) ?_;intro a g f e h;have c:=zhq e;unfold ztX at h;split at h;{obtain⟨d,rfl⟩:=zef h;obtain⟨N,b⟩:=zSW _ _ _ (by exact c) d;exact⟨⟨_,rfl⟩,rfl,_,N,12,(zVx N _ _ _ ).trans b⟩};{cases h}
def zv6:LC->LA->Option (Bool×LC×LA)
 |[.s (.sl .int) b,.s .mon c,.s .entry d,.s .entry e],[.one<|.i .i64 f,.one<|.i .i64 g]=>some (zjU (⟨b,c,d,e⟩:ac) f g,zbo<|zns (⟨b,c,d,e⟩:ac) f g,[])
 |_,_=>none
def zFR (N:Nat)(c:ac)(b a:Int):OA:=
 let d:=ix c.aa b zh;let e:=ix d.ae a zQ; (oN (inb b<|ln c.aa)<|oN (inb a<|ln d.ae)<|oN (zoV c.ag e.af)<|oN (inb a<|ln d.Out)<|p0 (up c.aa b ({d with Out:=(up d.Out a<|zno c.ag e.af)}:Mon)) (λg=>let f:=ix g b zh; (oN zbz<|oN (inb a<|ln f.ae)<|p0 (up g b ({f with ae:=(up f.ae a zW)}:Mon)) (λi=>let h:=({c with aa:=i}:ac); (oN (zeC h b a e)<|some [aH<|zeD h b a e])))))
def z07 (N:Nat)(c:ac)(a b:Int):zn8 (cQ zqy zoh zYH zUg) (zy []) N 12 323 [true,true,true,true] (zbo c) [aI a,aI b]=zFR N c a b:=by kernel_rfl
def zYs (c:ac)(e a:Int)(w:zbY big (.agg (zbo c)::[aI e,aI a]))(u:zjU c e a=true):∃N,zFR N c e a=some (.agg (zbo<|zns c e a)::[]):=by
 obtain⟨l,b,j⟩:=zS.1 u;obtain⟨v,f⟩:=zcG l b;obtain⟨k,rfl,h⟩:=zdY (n:=c.aa.length) b;have m:=zwn (p:=a) l b;have d:i0 (k:Int) (ln (zeO c (k:Int) a).aa)=true:=zeT b;have i:k<(zeO c (k:Int) a).aa.length:=(by simpa [zeO] using h);have g:ix (zeO c (k:Int) a).aa (k:Int) mZ={ix c.aa (k:Int) mZ with Out:=up (ix c.aa (k:Int) mZ).Out a (zcD c.ag (ix (ix c.aa (k:Int) mZ).ae a sZ).af)}:=zd8 h _ _;have t:Shape {zeO c (k:Int) a with aa:=up (zeO c (k:Int) a).aa (k:Int) {ix (zeO c (k:Int) a).aa (k:Int) mZ with ae:=up (ix (zeO c (k:Int) a).aa (k:Int) mZ).ae a C0}}:=(by obtain⟨q,r⟩:=zcG m d;exact ziE m ⟨by simpa using q.1,q.2⟩ ⟨by simpa using r.1,r.2⟩);refine⟨0,?_⟩;unfold zFR oN;conv=>zeta
 refine j0 (zF b) (j0 (zF<|zdN f.1 j)<|j0 (zbS<|(zpJ _).2 l.1.1)<|j0 (zF<|zdN f.2.1 j)<|shr (j0 rfl (j0 ?_<|shr<|j0 (zbS ⟨t,zeT d⟩) ?_)));{rw [zd8 h];exact zF (zdN f.1 j)};{have:=zy8 (p:=a) (s:=C0) i (by rw[g];exact f.2.2.2);rw[g] at this;show some [AV.agg<|zbo<|zyC {zeO c (k:Int) a with aa:=up (zeO c (k:Int) a).aa (k:Int) {ix (zeO c (k:Int) a).aa (k:Int) mZ with ae:=up (ix (zeO c (k:Int) a).aa (k:Int) mZ).ae a C0}} (k:Int) a<|ix (ix c.aa (k:Int) mZ).ae a sZ]=_;rw[g];exact congrArg (λx=>some [AV.agg<|zbo x]) this}
def zR7:zbQ Tryz.prog 323 [true,true,true,true] zv6:=by refine zhm (zf3 zio zD zNb zeI) (zhJ (by kernel_rfl)) ?_;intro g a b j i f h;have d:=zkT f;unfold zv6 at h;split at h;{obtain⟨e,rfl,rfl⟩:=zmM h;obtain⟨N,c⟩:=zYs _ _ _ (by exact d) e;exact⟨rfl,_,N,12,(z07 N _ _ _ ).trans c⟩};{cases h}
def zYI:zc0:=[(323,[true,true,true,true],zv6)]++zYH
def zNc:zb5 zYI:=zcu zNb (by
 intro x a;simp only[qG,qO,or_false]at a;rcases a with rfl
 .exact zR7)
def zZu:zfu:=[(432,[true,true,true,true,false,false],some (1,1,[[0],[1],[2],[4],[7]]),ztX)]++zUg
def zNq:zen zZu:=zny zeI (by
 intro x a;simp only[qG,qO,or_false]at a;rcases a with rfl
 .exact zMn)
def cz (l:List k0):Nat:=l.countP λs=>ieq s.af 0
def zH:List Mon->Nat
 |[]=>0
 |m::l=>cz m.ae+zH l
def bit (u:List Bool):Nat:=bif ix u 0 false then 1 else 0
def zwM (s:k0)(l:List k0):cz (s::l)=cz l+bif ieq s.af 0 then 1 else 0:=by unfold cz;rw[u5];cases ieq s.af 0<;>rfl
def z9H {u:List Bool}{p:Int}(c:0<=p)(a:p.toNat<u.length)(x:Bool):ix (up u p x) 0 false=bif ieq p 0 then x else ix u 0 false:=by unfold ix up;cases h:ieq p 0;{have:p≠0:=(by simpa [ieq] using h);have b:p.toNat≠0:=(by omega);simp[List.getD,jE,b]};{have:p=0:=(by simpa [ieq] using h);subst this;have a:0<u.length:=a;simp[List.getD,jE,a]}
def zCO:∀(l:List k0) (u b:List Bool),(∀s∈l,s.af<12)->u.length=12->zgJ l u=some b->cz l+bit u=bit b
 |[],u,b,_,_,h=>by cases h;simp[cz]
 |s::l,u,b,i,k,h=>by
  simp only[zgJ]at h;rw[zwM];cases c:ilt s.af 0;{have c:=jT c;rw[show ilt s.af 0=false from qX (by omega)]at h;simp only[cF]at h;cases d:ix u s.af false;{rw [d]at h;simp only[cF]at h;have g:s.af.toNat<u.length:=(by have:=i s (by simp);omega);have a:=zCO l _ b (λt j=>i t (by simp[j])) (by simpa using k) h;have e:bit (up u s.af true)=bif ieq s.af 0 then 1 else bit u:=(by unfold bit;rw[z9H (by omega) g];cases ieq s.af 0<;>rfl);rw[e] at a;cases f:ieq s.af 0;{rw [f] at a;simp only[cF] at a ⊢;omega};{have n:s.af=0:=(by simpa [ieq] using f);rw[n]at d;have:bit u=0:=(by unfold bit;rw[d];rfl);rw[f] at a;simp only[cT] at a ⊢;omega}};{rw [d]at h;cases h}};{have m:=qD c;rw[c]at h;simp only[cT]at h;have a:=zCO l u b (λt j=>i t (by simp[j])) k h;have:ieq s.af 0=false:=(by simp[ieq];omega);rw[this];simpa using a}
def zSb:∀(l:List Mon) (u:List Bool),u.length=12->zht l u=true->zH l+bit u<=1
 |[],u,_,_=>by unfold zH bit;cases ix u 0 false<;>simp
 |m::l,u,c,h=>by simp only[zht]at h;cases b:zd1 m;{rw [b]at h;cases h};{rw [b]at h;simp only[cT]at h;cases a:zgJ m.ae u with|none=>rw[a]at h;cases h|some d =>rw[a]at h;have e:=zCO _ _ _ (zDo<|ziu b) c a;have f:=zSb l d ((zpt _ _ _ a).trans c) h;simp only[zH];omega}
def z0l:∀(l:List k0) (b:Nat) (s:k0),l[b]?=some s->s.af=0->cz (l.set b C0)+1=cz l
 |[],b,s,h,_=>by simp at h
 |t::l,0,s,h,a=>by simp only[qH,qC]at h;subst h;rw[List.set_cons_zero,zwM,zwM];have:ieq t.af 0=true:=(by simp[ieq,a]);rw[this];rfl
 |t::l,b+1,s,h,a=>by rw[List.set_cons_succ,zwM,zwM];have:=z0l l b s (by simpa using h) a;omega
def zUM:∀(l:List Mon) (a:Nat) (x y:Mon),l[a]?=some x->zH (l.set a y)+cz x.ae=zH l+cz y.ae
 |[],a,x,y,h=>by simp at h
 |m::l,0,x,y,h=>by simp only[qH,qC]at h;subst h;rw[List.set_cons_zero];simp only[zH];omega
 |m::l,a+1,x,y,h=>by rw[List.set_cons_succ];have:=zUM l a x y (by simpa using h);simp only[zH];omega
def zX2 {l:List k0}(h:cz l=0):zoa l 0=none:=by unfold zoa;rw[List.findIdx?_eq_none_iff];intro s a;have:=(vF.1 h) s a;simpa using this
def zKc:∀(l:List Mon) (i:Nat),zH l=0->zh9 0 l i=(-1,-1)
 |[],_,_=>rfl
 |m::l,i,h=>by simp only[zH]at h;simp only[zh9];rw[zX2 (by omega)];exact zKc l (i+1) (by omega)
def zX3 {l:List k0}{k:Nat}(h:zoa l 0=some k):∃s,l[k]?=some s/\s.af=0:=by unfold zoa at h;rw[u2]at h;obtain⟨a,b,_⟩:=h;exact⟨l[k],qB a,by simpa [ieq] using b⟩
def zFj:∀(l:List Mon) (i:Nat),zh9 0 l i=(-1,-1)\/∃a b x s,zh9 0 l i=(((i+a:Nat):Int),((b:Nat):Int))/\l[a]?=some x/\x.ae[b]?=some s/\s.af=0
 |[],_=>.inl rfl
 |m::l,i=>by
  simp only[zh9];cases h:zoa m.ae 0 with
  |none=>rcases zFj l (i+1) with c|⟨a,b,x,s,c,d,f,g⟩;{exact .inl c};{refine .inr ⟨a+1,b,x,s,?_,by simpa using d,f,g⟩;have e:i+1+a=i+(a+1):=(by omega);rw[c,e]}
  |some k=>obtain⟨s,c,d⟩:=zX3 h;exact .inr ⟨0,k,m,s,rfl,rfl,c,d⟩
def Fit (h:ac):Prop:=Shape h/\0<h.ag.length/\zH h.aa<=1
def zE2 {h:ac}(c:0<h.ag.length)(b:ilt (zbK h 0).1 0=true):inb 0 (ln<|zcg h)=true:=by unfold zcg;obtain⟨n,a⟩:∃n,h.ag.length=n+1:=⟨h.ag.length-1,by omega⟩;rw[a];simp only[zv0];rw[show ilt (zbK h ((0:Nat):Int)).1 0=true from b];exact qL (by simp only[cT,ln,qY];omega)
def zX8 {h:ac}(b:0<h.ag.length)(a:ieq (ln<|zcg h) 0=true):ilt (zbK h 0).1 0=false:=by cases c:ilt (zbK h 0).1 0;{rfl};{have d:=qD (zE2 b c);have e:ln (zcg h)=0:=(by simpa [ieq] using a);omega}
def zcV (h:ac):ac:=bif ieq (ln<|zcg h) 0 then zdH h (zbK h 0).1 (zbK h 0).2 else h
structure Room (h r:ac):Prop where
 shape:Shape r
 free:inb 0 (ln (zcg r))=true
 len:r.aa.length=h.aa.length
 outer:∀m,(ix r.aa m mZ).ae.length=8\/True
def z1f {h:ac}(i:Fit h)(f:ieq (ln<|zcg h) 0=true):∃(a b:Nat) (x:Mon) (s:k0),zbK h 0=((a:Int),(b:Int))/\h.aa[a]?=some x/\x.ae[b]?=some s/\s.af=0:=by have d:=zX8 i.2.1 f;have e:zbK h 0=zh9 0 h.aa 0:=rfl;rcases zFj h.aa 0 with c|⟨a,b,x,s,c,g⟩;{rw [e,c]at d;cases d};{exact⟨a,b,x,s,by rw[e,c,j4],g⟩}
def zDj {h:ac}(d:Fit h)(e:ieq (ln<|zcg h) 0=true):i0 (zbK h 0).1 (ln h.aa)=true/\i0 (zbK h 0).2 8=true:=by obtain⟨a,b,x,s,f,c,g,j⟩:=z1f d e;rw[f];have k:=(qA.1 c).1;have l:=(qA.1 g).1;have i:=d.1.2 x (qI c);refine⟨qL (by simp only[ln];omega),qL ?_⟩;have:=i.1;show 0<=(b:Int)/\(b:Int)<8;omega
def room {h:ac}(d:Fit h):Room h (zcV h):=by unfold zcV;cases g:ieq (ln<|zcg h) 0;{refine⟨d.1,qL ?_,rfl,λ_=>.inr trivial⟩;have:ln (zcg h)≠0:=(by simpa [ieq] using g);show 0<=(0:Int)/\(0:Int)<ln (zcg h);simp only[ln] at *;omega};{obtain⟨n,u⟩:=zDj d g;obtain⟨a,b,x,s,r,i,k,t⟩:=z1f d g;simp only[cT];rw[r]at n u ⊢;have m:=(qA.1 i).1;have B:=(qA.1 k).1;have j:ix h.aa (a:Int) mZ=x:=(by rw[zbi m];exact(qA.1 i).2);have c:=(zgz (zeO h (a:Int) (b:Int)) (a:Int) (b:Int) C0).1;have q:ix (zeO h (a:Int) (b:Int)).aa (a:Int) mZ={x with Out:=up x.Out (b:Int) (zcD h.ag (ix x.ae (b:Int) sZ).af)}:=(by unfold zeO;rw[zd8 m,j]);obtain⟨y,l,v⟩:∃y,(zdH h (a:Int) (b:Int)).aa=h.aa.set a y/\y.ae=x.ae.set b C0:=(by unfold zdH;rw[c,q];unfold zeO;rw[zvF];exact⟨_,by simp[up];rfl,by simp[up]⟩);have w:zH (zdH h (a:Int) (b:Int)).aa=0:=(by have p:=zUM h.aa a x y i;have z:=z0l x.ae b s k t;have A:=d.2.2;rw[l];rw[v] at p;omega);have f:(zdH h (a:Int) (b:Int)).ag=h.ag:=(zgz (zeO h (a:Int) (b:Int)) (a:Int) (b:Int) C0).2;refine⟨zKG d.1 n,zE2 (by rw[f];exact d.2.1) ?_,by rw[l];simp,λ_=>.inr trivial⟩;have e:zbK (zdH h (a:Int) (b:Int)) 0=zh9 0 (zdH h (a:Int) (b:Int)).aa 0:=rfl;rw[e,zKc _ _ w];rfl}
def zT5 {m:List LI}{p:Int}{c:LI}(h:SmM m)(a:c.length<=1048576):SmM (ziG m p c):=by unfold ziG;cases i0 p (ln m);{exact h};{cases zcw c;{exact h};{exact zKP h a}}
def landing (r:ac)(m p to:Int):ac:={r with ag:=ziG r.ag to (ix (ix r.aa m mZ).Out p []),aa:=up r.aa m {ix r.aa m mZ with Out:=up (ix r.aa m mZ).Out p []}}
def zfa (r:ac)(m p to:Int):ac:=zcc (landing r m p to) m p ⟨to,3⟩
def fetched (h:ac)(m p:Int):ac:=zfa (zcV h) m p (ix (zcg<|zcV h) 0 0)
def zT7 {r:ac}{m p:Int}(e:Shape r)(c:i0 m (ln r.aa)=true)(d:i0 p 8=true):(ix (ix r.aa m mZ).Out p []).length<=1048576:=by obtain⟨a,b⟩:=zcG e c;exact a.2.1.2 _ (zbD (zdN b.2.1 d) _)
def zsh {r:ac}{m p to:Int}(a:Shape r)(d:i0 m (ln r.aa)=true)(e:i0 p 8=true):Shape (landing r m p to):=by obtain⟨b,c⟩:=zcG a d;exact zO5 (h:={r with aa:=up r.aa m {ix r.aa m mZ with Out:=up (ix r.aa m mZ).Out p []}}) (ziE (x:={ix r.aa m mZ with Out:=up (ix r.aa m mZ).Out p []}) a ⟨b.1,zKP b.2.1 (by simp),b.2.2⟩ ⟨c.1,by simpa using c.2.1,c.2.2⟩) (zT5 a.1.1<|zT7 a d e)
def zQv {r:ac}{m p d:Int}(c:Shape r)(a:i0 m (ln r.aa)=true)(b:i0 p 8=true):Shape (zfa r m p d):=zsi (zeT a) (zsh c a b)
def zp0 {h:ac}(a:Fit h){m:Int}(b:i0 m (ln h.aa)=true):i0 m (ln (zcV h).aa)=true:=by rw[ln,(room a).len];exact b
def zki {h:ac}{m p:Int}(a:Fit h)(b:i0 m (ln h.aa)=true)(c:i0 p 8=true):Shape (fetched h m p)/\i0 m (ln (fetched h m p).aa)=true :=
 ⟨zQv (room a).shape (zp0 a b) c,zE4<|zeT<|zp0 a b⟩
@[simp] abbrev zlr (h:ac)(m p:Int):Bool:=pc (Fit h/\i0 m (ln h.aa)=true/\i0 p 8=true)
@[simp] abbrev zma (h:ac)(m p:Int):ac:=fetched h m p
def zv8:LW
 |[.agg [.s (.sl .int) b,.s .mon c,.s .entry d,.s .entry e],.one<|.i .i64 f,.one<|.i .i64 g]=>some (zlr (⟨b,c,d,e⟩:ac) f g,[aH<|zma (⟨b,c,d,e⟩:ac) f g])
 |_=>none
def zA6 (N:Nat)(a:ac)(c b:Int):OA:=
 let h:=ix (zcW a) 0 0;let f:=ix a.aa c zh;let d:=zns a (zdz a 0)<|zej a 0;let g:=ix (zcW d) 0 0;let e:=ix d.aa c zh; (oN (zfG a)<|cond (ieq (ln<|zcW a) 0) (oN (zfB a 0)<|oN (zjU a (zdz a 0)<|zej a 0)<|oN (zfG d)<|oN (inb 0<|ln<|zcW d)<|oN (inb c<|ln d.aa)<|oN (inb b<|ln e.Out)<|oN (zfJ d.ag g<|ix e.Out b [])<|oN (inb c<|ln d.aa)<|oN (inb b<|ln e.Out)<|p0 (up d.aa c ({e with Out:=(up e.Out b [])}:Mon)) (λi=>let j:=({d with ag:=(zeG d.ag g<|ix e.Out b []),aa:=i}:ac); (oN (zfr j c b (⟨g,3⟩:k0))<|some [aH<|zhf j c b (⟨g,3⟩:k0)])))<|oN (zfG a)<|oN (inb 0<|ln<|zcW a)<|oN (inb c<|ln a.aa)<|oN (inb b<|ln f.Out)<|oN (zfJ a.ag h<|ix f.Out b [])<|oN (inb c<|ln a.aa)<|oN (inb b<|ln f.Out)<|p0 (up a.aa c ({f with Out:=(up f.Out b [])}:Mon)) (λi=>let k:=({a with ag:=(zeG a.ag h<|ix f.Out b []),aa:=i}:ac); (oN (zfr k c b (⟨h,3⟩:k0))<|some [aH<|zhf k c b (⟨h,3⟩:k0)])))
def zYA (N:Nat)(a:ac)(b c:Int):zC3 (cQ zqy zoh zYI zZu) (zy []) N 12 361 [true,true,true,true,false,false] 1 1 [[0],[1],[2],[4],[7]] .mon [aH a,aI b,aI c]=zA6 N a b c:=by kernel_rfl
def zVt (c:ac)(b d:Int)(z:zbY big [aH c,aI b,aI d])(u:zlr c b d=true):∃N,zA6 N c b d=some [aH<|zma c b d]:=by
 obtain⟨h,v,i⟩:=zS.1 u;have e:∀r,Shape r->inb 0 (ln<|zcg r)=true->i0 b (ln r.aa)=true->(cond (zfG r) (cond (inb 0<|ln<|zcW r) (cond (inb b<|ln r.aa) (cond (inb d<|ln (ix r.aa b zh).Out) (cond (zfJ r.ag (ix (zcW r) 0 0)<|ix (ix r.aa b zh).Out d []) (cond (inb b<|ln r.aa) (cond (inb d<|ln (ix r.aa b zh).Out) (p0 (up r.aa b ({ (ix r.aa b zh) with Out:=(up (ix r.aa b zh).Out d [])}:Mon)) λs=>cond (zfr ({r with ag:=(zeG r.ag (ix (zcW r) 0 0)<|ix (ix r.aa b zh).Out d []),aa:=s}:ac) b d (⟨ix (zcW r) 0 0,3⟩:k0)) (some [AV.agg<|zbo<|zhf ({r with ag:=(zeG r.ag (ix (zcW r) 0 0)<|ix (ix r.aa b zh).Out d []),aa:=s}:ac) b d (⟨ix (zcW r) 0 0,3⟩:k0)]) none) none) none) none) none) none) none) none)=some [AV.agg<|zbo<|zfa r b d<|ix (zcg r) 0 0]:=(by intro r j f a;obtain⟨y,l⟩:=zcG j a;have t:=zsh (to:=ix (zcg r) 0 0) j a i;obtain⟨k,rfl,q⟩:=zdY (n:=r.aa.length) a;refine j0 (zbS j.1.1.1) (j0 f<|j0 (zF a)<|j0 (zF<|zdN l.2.1 i)<|j0 (zbS ⟨j.1.1,zT7 j a i⟩)<|j0 (zF a)<|j0 (zF<|zdN l.2.1 i)<|shr (j0 (zbS ⟨(zbd _).2 t.1,zeT a,?_,?_⟩) rfl));{simp only [zd8 q];exact zdN l.1 i};{simp only [zd8 q];exact k9 l.2.2.2});have g:=room h;have a:=zp0 h v;refine⟨0,?_⟩;unfold zA6 zma fetched oN;conv=>zeta
 refine j0 (zbS h.1.1.1.1) ?_;cases p:ieq (ln<|zcW c) 0;{have m:zcV c=c:=(by unfold zcV;rw[show ieq (ln<|zcg c) 0=false from p];rfl);rw[m]at g a ⊢;exact e c g.shape g.free a};{obtain⟨w,x⟩:=zDj h p;have m:zcV c=zdH c (zbK c 0).1 (zbK c 0).2:=(by unfold zcV;rw[show ieq (ln<|zcg c) 0=true from p];rfl);rw[m]at g a ⊢;exact j0 rfl (j0 rfl (j0 (zbS ⟨h.1,w,x⟩)<|e _ g.shape g.free a))}
def zPG:zdT Tryz.prog 361 [true,true,true,true,false,false] (some (1,1,[[0],[1],[2],[4],[7]])) zv8:=by refine zlG (kt:=.mon) (zf3 zio zD zNc zNq) (zhJ (by kernel_rfl)) (by kernel_rfl) ?_;intro a g f e h;have c:=zhq e;unfold zv8 at h;split at h;{obtain⟨d,rfl⟩:=zef h;obtain⟨N,b⟩:=zVt _ _ _ (by exact c) d;exact⟨⟨_,rfl⟩,rfl,_,N,12,(zYA N _ _ _ ).trans b⟩};{cases h}
@[simp] abbrev zrW (h:ac):Bool:=pc (Shape h/\i0 (zbK h 0).1 (ln h.aa)=true/\i0 (zbK h 0).2 8=true)
@[simp] abbrev zrX (h:ac):ac:=zdH h (zbK h 0).1 (zbK h 0).2
def znh:LC->LA->Option (Bool×LC×LA)
 |[.s (.sl .int) b,.s .mon c,.s .entry d,.s .entry e],[]=>some (zrW (⟨b,c,d,e⟩:ac),zbo<|zrX (⟨b,c,d,e⟩:ac),[])
 |_,_=>none
def zrM (N:Nat)(c:ac)  : OA :=
 (oN (zfB c 0)<|oN (zjU c (zdz c 0)<|zej c 0)<|some [aH<|zns c (zdz c 0)<|zej c 0])
def zM6 (N:Nat)(c:ac)  : zn8 (cQ zqy zoh zYI zZu) (zy []) N 12 428 [true,true,true,true] (zbo c) []=zrM N c:=by kernel_rfl
def zJR (c:ac)(d:zbY big (.agg (zbo c)::[]))(a:zrW c=true):∃N,zrM N c=some (.agg (zbo<|zrX c)::[]):=by have b:=zS.1 a;refine⟨0,?_⟩;unfold zrM oN;exact j0 rfl (j0 (zbS b) rfl)
def zDz:zbQ Tryz.prog 428 [true,true,true,true] znh:=by refine zhm (zf3 zio zD zNc zNq) (zhJ (by kernel_rfl)) ?_;intro g a b j i f h;have d:=zkT f;unfold znh at h;split at h;{obtain⟨e,rfl,rfl⟩:=zmM h;obtain⟨N,c⟩:=zJR _ (by exact d) e;exact⟨rfl,_,N,12,(zM6 N _ ).trans c⟩};{cases h}
def z3Z:zc0:=[(428,[true,true,true,true],znh)]++zYI
def zWW:zb5 z3Z:=zcu zNc (by
 intro x a;simp only[qG,qO,or_false]at a;rcases a with rfl
 .exact zDz)
def zUh:zfu:=[(361,[true,true,true,true,false,false],some (1,1,[[0],[1],[2],[4],[7]]),zv8)]++zZu
def zDs:zen zUh:=zny zNq (by
 intro x a;simp only[qG,qO,or_false]at a;rcases a with rfl
 .exact zPG)
def zXC {r:ac}{m p to:Int}(d:Shape r)(b:i0 m (ln r.aa)=true):zyC {landing r m p to with aa:=up (landing r m p to).aa m {ix (landing r m p to).aa m mZ with ae:=up (ix (landing r m p to).aa m mZ).ae p ⟨to,3⟩}} m p (ix (ix (landing r m p to).aa m mZ).ae p sZ)=zfa r m p to:=by obtain⟨e,c⟩:=zcG d b;obtain⟨k,rfl,a⟩:=zdY (n:=r.aa.length) b;refine zy8 (h:=landing r (k:Int) p to) (by simpa [landing] using a) ?_;unfold landing;simp only[zd8 a];exact c.2.2.2
def zV1 {r:ac}{m p to:Int}(f:Shape r)(b:i0 m (ln r.aa)=true)(e:i0 p 8=true):Shape {landing r m p to with aa:=up (landing r m p to).aa m {ix (landing r m p to).aa m mZ with ae:=up (ix (landing r m p to).aa m mZ).ae p ⟨to,3⟩}}:=by have a:=zsh (to:=to) f b e;obtain⟨c,d⟩:=zcG a (zeT b);exact ziE a ⟨by simpa using c.1,c.2⟩ ⟨by simpa using d.1,d.2⟩
def ztO:LC->LA->Option (Bool×LC×LA)
 |[.s (.sl .int) b,.s .mon c,.s .entry d,.s .entry e],[.one<|.i .i64 f,.one<|.i .i64 g]=>some (zlr (⟨b,c,d,e⟩:ac) f g,zbo<|zma (⟨b,c,d,e⟩:ac) f g,[])
 |_,_=>none
def zAJ (N:Nat)(c:ac)(b a:Int):OA:=
 let m:=ix (zcW c) 0 0;let d:=zrX c;let l:=ix (zcW d) 0 0;let f:=ix c.aa b zh;let e:=ix d.aa b zh; (oN (zfG c)<|cond (ieq (ln<|zcW c) 0) (oN (zrW c)<|oN (inb b<|ln d.aa)<|oN (zfG d)<|oN (inb 0<|ln<|zcW d)<|oN (inb a<|ln e.Out)<|oN (zfJ d.ag l<|ix e.Out a [])<|oN (inb a<|ln e.Out)<|p0 (up d.aa b ({e with Out:=(up e.Out a [])}:Mon)) (λg=>let i:=ix g b zh;let q:=ix i.ae a zQ; (oN (inb a<|ln i.ae)<|oN (inb a<|ln i.ae)<|p0 (up g b ({i with ae:=(up i.ae a (⟨l,3⟩:k0))}:Mon)) (λk=>let n:=({d with ag:=(zeG d.ag l<|ix e.Out a []),aa:=k}:ac); (oN (zeC n b a q)<|some [aH<|zeD n b a q])))))<|oN (inb b<|ln c.aa)<|oN (zfG c)<|oN (inb 0<|ln<|zcW c)<|oN (inb a<|ln f.Out)<|oN (zfJ c.ag m<|ix f.Out a [])<|oN (inb a<|ln f.Out)<|p0 (up c.aa b ({f with Out:=(up f.Out a [])}:Mon)) (λg=>let j:=ix g b zh;let h:=ix j.ae a zQ; (oN (inb a<|ln j.ae)<|oN (inb a<|ln j.ae)<|p0 (up g b ({j with ae:=(up j.ae a (⟨m,3⟩:k0))}:Mon)) (λk=>let p:=({c with ag:=(zeG c.ag m<|ix f.Out a []),aa:=k}:ac); (oN (zeC p b a h)<|some [aH<|zeD p b a h])))))
def zYz (N:Nat)(c:ac)(a b:Int):zn8 (cQ zqy zoh z3Z zUh) (zy []) N 12 324 [true,true,true,true] (zbo c) [aI a,aI b]=zAJ N c a b:=by kernel_rfl
def zVf (c:ac)(b d:Int)(F:zbY big (.agg (zbo c)::[aI b,aI d]))(w:zlr c b d=true):∃N,zAJ N c b d=some (.agg (zbo<|zma c b d)::[]):=by
 obtain⟨j,B,l⟩:=zS.1 w;have e:∀r,Shape r->inb 0 (ln<|zcg r)=true->i0 b (ln r.aa)=true->(cond (inb b<|ln r.aa) (cond (zfG r) (cond (inb 0<|ln<|zcW r) (cond (inb d<|ln (ix r.aa b zh).Out) (cond (zfJ r.ag (ix (zcW r) 0 0)<|ix (ix r.aa b zh).Out d []) (cond (inb d<|ln (ix r.aa b zh).Out) (p0 (up r.aa b ({ (ix r.aa b zh) with Out:=(up (ix r.aa b zh).Out d [])}:Mon)) λg=>cond (inb d<|ln (ix g b zh).ae) (cond (inb d<|ln (ix g b zh).ae) (p0 (up g b ({ (ix g b zh) with ae:=(up (ix g b zh).ae d (⟨ix (zcW r) 0 0,3⟩:k0))}:Mon)) λu=>cond (zeC ({r with ag:=(zeG r.ag (ix (zcW r) 0 0)<|ix (ix r.aa b zh).Out d []),aa:=u}:ac) b d<|ix (ix g b zh).ae d zQ) (some [AV.agg<|zbo<|zeD ({r with ag:=(zeG r.ag (ix (zcW r) 0 0)<|ix (ix r.aa b zh).Out d []),aa:=u}:ac) b d<|ix (ix g b zh).ae d zQ]) none) none) none) none) none) none) none) none) none)=some [AV.agg<|zbo<|zfa r b d<|ix (zcg r) 0 0]:=(by intro r i f a;obtain⟨E,q⟩:=zcG i a;have v:=zV1 (to:=ix (zcg r) 0 0) i a l;have hE:=zXC (p:=d) (to:=ix (zcg r) 0 0) i a;obtain⟨k,rfl,A⟩:=zdY (n:=r.aa.length) a;have z:∀(x y:Mon),i0 (k:Int) (ln<|up (up r.aa (k:Int) x) (k:Int) y)=true:=λx y=>(by simpa [ln] using a);have t:inb d (ln (ix (up r.aa (k:Int) {ix r.aa (k:Int) mZ with Out:=up (ix r.aa (k:Int) mZ).Out d []}) (k:Int) mZ).ae)=true:=(by rw[zd8 A];exact zF (zdN q.1 l));refine j0 (zF a) (j0 (zbS i.1.1.1)<|j0 f<|j0 (zF<|zdN q.2.1 l)<|j0 (zbS ⟨i.1.1,zT7 i a l⟩)<|j0 (zF<|zdN q.2.1 l)<|shr<|j0 t<|j0 t<|shr<|j0 (zbS ⟨v,z _ _⟩) ?_);exact congrArg (λx=>some [AV.agg<|zbo x]) hE);have h:=room j;have a:=zp0 j B;refine⟨0,?_⟩;unfold zAJ zma fetched oN;conv=>zeta
 refine j0 (zbS j.1.1.1.1) ?_;cases s:ieq (ln<|zcW c) 0;{have m:zcV c=c:=(by unfold zcV;rw[show ieq (ln<|zcg c) 0=false from s];rfl);rw[m]at h a ⊢;exact e c h.shape h.free a};{obtain⟨C,D⟩:=zDj j s;have m:zcV c=zdH c (zbK c 0).1 (zbK c 0).2:=(by unfold zcV;rw[show ieq (ln<|zcg c) 0=true from s];rfl);rw[m]at h a ⊢;exact j0 rfl (j0 (zbS ⟨j.1,C,D⟩)<|e _ h.shape h.free a)}
def zPr:zbQ Tryz.prog 324 [true,true,true,true] ztO:=by refine zhm (zf3 zio zD zWW zDs) (zhJ (by kernel_rfl)) ?_;intro g a b j i f h;have d:=zkT f;unfold ztO at h;split at h;{obtain⟨e,rfl,rfl⟩:=zmM h;obtain⟨N,c⟩:=zVf _ _ _ (by exact d) e;exact⟨rfl,_,N,12,(zYz N _ _ _ ).trans c⟩};{cases h}
def zYJ:zc0:=[(324,[true,true,true,true],ztO)]++z3Z
def zNd:zb5 zYJ:=zcu zWW (by
 intro x a;simp only[qG,qO,or_false]at a;rcases a with rfl
 .exact zPr)
def zbH (h:ac)(m p:Int):ac:={h with aa:=up h.aa m {ix h.aa m mZ with av:=up (ix h.aa m mZ).av p true}}
def opened (h:ac)(m p:Int):ac:=bif ieq (wand .i64 (ix (ix h.aa m mZ).ae p sZ).aj 2) 0 then zcc h m p ⟨(ix (ix h.aa m mZ).ae p sZ).af,3⟩ else h
def zh7 (h:ac)(m p n:Int):ac:=bif ieq (wand .i64 n 2) 0 then h else opened (zbH h m p) m p
def D0 (h:ac)(m p n:Int):ac:=bif ieq (ix (ix h.aa m mZ).ae p sZ).af (-1) then zh7 (fetched h m p) m p n else zh7 h m p n
def z7M {r:Int}(a:0<=r)(b:r<=3):enough r 2 = !ieq (wand .i64 r 2) 0:=by have:r=0\/r=1\/r=2\/r=3:=(by omega);rcases this with rfl|rfl|rfl|rfl<;>rfl
structure SlotFit (s:k0):Prop where
 no:zcx s C0=ieq s.af (-1)
 lo:0<=s.aj
 hi:s.aj<=3
def zZk {s:k0}{n:Int}(h:zdO s n=true):SlotFit s:=by refine⟨zO7 h,?_,?_⟩<;>unfold zdO at h<;>cases a:zcx s C0;{rw [a]at h;simp only[cF,zc1]at h;have:=(zfO.1 h.2.2).1;omega};{unfold zcx at a;rw[qE]at a;have:s.aj=0:=qD a.2;omega};{rw [a]at h;simp only[cF,zc1]at h;have:=(zfO.1 h.2.2).2;omega};{unfold zcx at a;rw[qE]at a;have:s.aj=0:=qD a.2;omega}
def zm8 {h:ac}{m p:Int}(c:Shape h)(d:i0 m (ln h.aa)=true):Shape (zbH h m p):=by obtain⟨a,b⟩:=zcG c d;exact ziE c ⟨a.1,a.2.1,by simpa using a.2.2.1,a.2.2.2⟩ ⟨b.1,b.2.1,by simpa using b.2.2.1,b.2.2.2⟩
def zTY {h:ac}{m p:Int}(b:Shape h)(a:i0 m (ln h.aa)=true):Shape (opened h m p)/\i0 m (ln (opened h m p).aa)=true:=by unfold opened;cases ieq (wand .i64 (ix (ix h.aa m mZ).ae p sZ).aj 2) 0;{exact⟨b,a⟩};{exact⟨zsi a b,zE4 a⟩}
def zFE {h:ac}{m p n:Int}(b:Shape h)(a:i0 m (ln h.aa)=true):Shape (zh7 h m p n)/\i0 m (ln (zh7 h m p n).aa)=true:=by unfold zh7;cases ieq (wand .i64 n 2) 0;{exact zTY (zm8 b a) (zeT a)};{exact⟨b,a⟩}
def zuf {h:ac}{m p n:Int}(a:Fit h)(b:i0 m (ln h.aa)=true)(e:i0 p 8=true):Shape (D0 h m p n)/\i0 m (ln (D0 h m p n).aa)=true:=by unfold D0;cases ieq (ix (ix h.aa m mZ).ae p sZ).af (-1);{exact zFE a.1 b};{obtain⟨c,d⟩:=zki a b e;exact zFE c d}
def zRP {h:ac}{m p:Int}(c:Fit h)(g:i0 m (ln h.aa)=true)(j:i0 p 8=true):(ix (ix (fetched h m p).aa m mZ).ae p sZ).aj=3:=by have f:=room c;have a:=zp0 c g;obtain⟨r,e⟩:=zcG f.shape a;obtain⟨k,rfl,d⟩:=zdY (n:=(zcV h).aa.length) a;obtain⟨q,rfl,l⟩:=zdY (n:=8) j;unfold fetched zfa;rw[(zgz _ _ _ _).1];have b:k<(landing (zcV h) (k:Int) (q:Int)<|ix (zcg<|zcV h) 0 0).aa.length:=(by simpa [landing] using d);rw[zd8 b];have i:q<(ix (landing (zcV h) (k:Int) (q:Int)<|ix (zcg<|zcV h) 0 0).aa (k:Int) mZ).ae.length:=(by unfold landing;rw[zd8 d];show q<(ix (zcV h).aa (k:Int) mZ).ae.length;rw[e.1];exact l);show (ix (up (ix (landing (zcV h) (k:Int) (q:Int)<|ix (zcg<|zcV h) 0 0).aa (k:Int) mZ).ae (q:Int) ⟨_,3⟩) (q:Int) sZ).aj=3;rw[zd8 i]
def zQ7 (h:ac)(m p n:Int):Prop:=Fit h/\i0 m (ln h.aa)=true/\i0 p 8=true/\(n=1\/n=2\/n=3)/\SlotFit (ix (ix h.aa m mZ).ae p sZ)
@[simp] abbrev zkA (h:ac)(m p n:Int):Bool:=pc (zQ7 h m p n)
@[simp] abbrev zii (h:ac)(m p n:Int):ac:=D0 h m p n
def zr7:LW
 |[.agg [.s (.sl .int) b,.s .mon c,.s .entry d,.s .entry e],.one<|.i .i64 f,.one<|.i .i64 g,.one<|.i .i64 h]=>some (zkA (⟨b,c,d,e⟩:ac) f g h,[aH<|zii (⟨b,c,d,e⟩:ac) f g h])
 |_=>none
def zvO (N:Nat)(c:ac)(a b l:Int):OA:=
 let h:=zma c a b;let k:=ix h.aa a zh;let e:=ix c.aa a zh;let p:=ix e.ae b zQ; (oN (inb a<|ln c.aa)<|oN (inb b<|ln e.ae)<|oN zbz<|cond (cond (ieq p.af zW.af) (ieq p.aj zW.aj) false) (oN (zlr c a b)<|cond (ieq (wand .i64 l 2) 0) (some [aH h])<|oN (inb a<|ln h.aa)<|oN (inb b<|ln k.av)<|p0 (up h.aa a ({k with av:=(up k.av b true)}:Mon)) (λd=>let q:=(ix d a zh).ae;let i:=({h with aa:=d}:ac);let m:=ix q b zQ;let r:=({m with aj:=3}:k0); (oN (inb a<|ln d)<|oN (inb b<|ln q)<|cond (ieq (wand .i64 m.aj 2) 0) (oN (zfr i a b r)<|some [aH<|zhf i a b r])<|some [aH i])))<|cond (ieq (wand .i64 l 2) 0) (some [aH c])<|oN (inb a<|ln c.aa)<|oN (inb b<|ln e.av)<|p0 (up c.aa a ({e with av:=(up e.av b true)}:Mon)) (λd=>let f:=(ix d a zh).ae;let j:=({c with aa:=d}:ac);let n:=ix f b zQ;let g:=({n with aj:=3}:k0); (oN (inb a<|ln d)<|oN (inb b<|ln f)<|cond (ieq (wand .i64 n.aj 2) 0) (oN (zfr j a b g)<|some [aH<|zhf j a b g])<|some [aH j])))
def zTa (N:Nat)(a:ac)(b c d:Int):zC3 (cQ zqy zoh zYJ zUh) (zy []) N 12 183 [true,true,true,true,false,false,false] 1 1 [[0],[1],[2],[4],[7]] .mon [aH a,aI b,aI c,aI d]=zvO N a b c d:=by kernel_rfl
def zQf (d:ac)(b a h:Int)(C:zbY big [aH d,aI b,aI a,aI h])(z:zkA d b a h=true):∃N,zvO N d b a h=some [aH<|zii d b a h]:=by
 obtain⟨l,j,i,D,A⟩:=zS.1 z;obtain⟨B,v⟩:=zcG l.1 j;have f:∀r,Shape r->i0 b (ln r.aa)=true->(cond (ieq (wand .i64 h 2) 0) (some [AV.agg<|zbo r])<|cond (inb b<|ln r.aa) (cond (inb a<|ln (ix r.aa b zh).av) (p0 (up r.aa b ({ (ix r.aa b zh) with av:=(up (ix r.aa b zh).av a true)}:Mon)) λg=>cond (inb b<|ln g) (cond (inb a<|ln (ix g b zh).ae) (cond (ieq (wand .i64 (ix (ix g b zh).ae a zQ).aj 2) 0) (cond (zfr ({r with aa:=g}:ac) b a ({ (ix (ix g b zh).ae a zQ) with aj:=3}:k0)) (some [AV.agg<|zbo<|zhf ({r with aa:=g}:ac) b a ({ (ix (ix g b zh).ae a zQ) with aj:=3}:k0)]) none)<|some [AV.agg<|zbo ({r with aa:=g}:ac)]) none) none) none) none)=some [AV.agg<|zbo<|zh7 r b a h]:=(by intro r u c;obtain⟨E,m⟩:=zcG u c;have y:=zm8 (p:=a) u c;unfold zh7;cases w:ieq (wand .i64 h 2) 0;{obtain⟨k,rfl,t⟩:=zdY (n:=r.aa.length) c;have q:ix (zbH r (k:Int) a).aa (k:Int) mZ={ix r.aa (k:Int) mZ with av:=up (ix r.aa (k:Int) mZ).av a true}:=zd8 t _ _;refine zek rfl (j0 (zF c)<|j0 (zF<|zdN m.2.2.1 i)<|shr<|j0 (zF<|zeT c)<|j0 ?_ ?_);{rw [zd8 t];exact zF (zdN m.1 i)};{unfold opened;show (cond (ieq (wand .i64 (ix (ix (zbH r (k:Int) a).aa (k:Int) mZ).ae a sZ).aj 2) 0) _ _)=_;cases s:ieq (wand .i64 (ix (ix (zbH r (k:Int) a).aa (k:Int) mZ).ae a sZ).aj 2) 0;{rfl};{refine j0 rfl (j0 (zbS ⟨(zbd _).2 y.1,zeT c,?_,?_⟩) rfl);{show i0 a (ln (ix (zbH r (k:Int) a).aa (k:Int) mZ).ae)=true;rw[q];exact zdN m.1 i};{show (ix (zbH r (k:Int) a).aa (k:Int) mZ).ai.length<=(ix (zbH r (k:Int) a).aa (k:Int) mZ).ad.length;rw[q];exact k9 m.2.2.2}}}};{rfl});refine⟨0,?_⟩;unfold zvO zii D0 oN;conv=>zeta
 refine j0 (zF j) (j0 (zF<|zdN v.1 i) (j0 rfl ?_));have e:(cond (ieq (ix (ix d.aa b mZ).ae a sZ).af zW.af) (ieq (ix (ix d.aa b mZ).ae a sZ).aj zW.aj) false)=ieq (ix (ix d.aa b mZ).ae a sZ).af (-1):=(by rw[<- A.no];unfold zcx zW;cases ieq (ix (ix d.aa b mZ).ae a sZ).af C0.af<;>rfl);rw[e];cases w:ieq (ix (ix d.aa b mZ).ae a sZ).af (-1);{exact f d l.1 j};{obtain⟨s,x⟩:=zki (p:=a) l j i;exact j0 rfl (j0 (zbS ⟨l,j,i⟩)<|f _ s x)}
def zJB:zdT Tryz.prog 183 [true,true,true,true,false,false,false] (some (1,1,[[0],[1],[2],[4],[7]])) zr7:=by refine zlG (kt:=.mon) (zf3 zio zD zNd zDs) (zhJ (by kernel_rfl)) (by kernel_rfl) ?_;intro a g f e h;have c:=zhq e;unfold zr7 at h;split at h;{obtain⟨d,rfl⟩:=zef h;obtain⟨N,b⟩:=zQf _ _ _ _ (by exact c) d;exact⟨⟨_,rfl⟩,rfl,_,N,12,(zTa N _ _ _ _ ).trans b⟩};{cases h}
def zv5:LC->LA->Option (Bool×LC×LA)
 |[.s (.sl .int) b,.s .mon c,.s .entry d,.s .entry e],[.one<|.i .i64 f,.one<|.i .i64 g,.one<|.i .i64 h]=>some (zkA (⟨b,c,d,e⟩:ac) f g h,zbo<|zii (⟨b,c,d,e⟩:ac) f g h,[])
 |_,_=>none
def zFQ (N:Nat)(c:ac)(b a k:Int):OA:=
 let e:=zma c b a;let m:=ix e.aa b zh;let h:=ix c.aa b zh; (oN (inb b<|ln c.aa)<|oN (inb a<|ln h.ae)<|cond (ieq (ix h.ae a zQ).af<|-1) (oN (zlr c b a)<|oN (zb0 k 2)<|cond (nB<|zdh k 2) (some [aH e])<|oN (inb b<|ln e.aa)<|oN (inb a<|ln m.av)<|p0 (up e.aa b ({m with av:=(up m.av a true)}:Mon)) (λd=>let i:=ix d b zh;let f:=ix i.ae a zQ; (oN (inb a<|ln i.ae)<|oN (zb0 f.aj 2)<|cond (nB<|zdh f.aj 2) (oN (inb a<|ln i.ae)<|p0 (up d b ({i with ae:=(up i.ae a ({f with aj:=3}:k0))}:Mon)) (λl=>let n:=({e with aa:=l}:ac); (oN (zeC n b a f)<|some [aH<|zeD n b a f])))<|some [aH ({e with aa:=d}:ac)])))<|oN (zb0 k 2)<|cond (nB<|zdh k 2) (some [aH c])<|oN (inb b<|ln c.aa)<|oN (inb a<|ln h.av)<|p0 (up c.aa b ({h with av:=(up h.av a true)}:Mon)) (λd=>let j:=ix d b zh;let g:=ix j.ae a zQ; (oN (inb a<|ln j.ae)<|oN (zb0 g.aj 2)<|cond (nB<|zdh g.aj 2) (oN (inb a<|ln j.ae)<|p0 (up d b ({j with ae:=(up j.ae a ({g with aj:=3}:k0))}:Mon)) (λl=>let p:=({c with aa:=l}:ac); (oN (zeC p b a g)<|some [aH<|zeD p b a g])))<|some [aH ({c with aa:=d}:ac)])))
def z06 (N:Nat)(c:ac)(a b d:Int):zn8 (cQ zqy zoh zYJ zUh) (zy []) N 12 181 [true,true,true,true] (zbo c) [aI a,aI b,aI d]=zFQ N c a b d:=by kernel_rfl
def zYr (c:ac)(b a f:Int)(R:zbY big (.agg (zbo c)::[aI b,aI a,aI f]))(M:zkA c b a f=true):∃N,zFQ N c b a f=some (.agg (zbo<|zii c b a f)::[]):=by
 obtain⟨l,i,j,P,C⟩:=zS.1 M;obtain⟨Q,I⟩:=zcG l.1 i;have H:enough f 2 = !ieq (wand .i64 f 2) 0:=(by rcases P with rfl|rfl|rfl<;>rfl);have g:∀r,Shape r->i0 b (ln r.aa)=true->enough (ix (ix r.aa b mZ).ae a sZ).aj 2=(!ieq (wand .i64 (ix (ix r.aa b mZ).ae a sZ).aj 2) 0)->(cond (zb0 f 2) (cond (cond (zdh f 2) false true) (some [AV.agg<|zbo r])<|cond (inb b<|ln r.aa) (cond (inb a<|ln (ix r.aa b zh).av) (p0 (up r.aa b ({ (ix r.aa b zh) with av:=(up (ix r.aa b zh).av a true)}:Mon)) λe=>cond (inb a<|ln (ix e b zh).ae) (cond (zb0 (ix (ix e b zh).ae a zQ).aj 2) (cond (cond (zdh (ix (ix e b zh).ae a zQ).aj 2) false true) (cond (inb a<|ln (ix e b zh).ae) (p0 (up e b ({ (ix e b zh) with ae:=(up (ix e b zh).ae a ({ (ix (ix e b zh).ae a zQ) with aj:=3}:k0))}:Mon)) λF=>cond (zeC ({r with aa:=F}:ac) b a<|ix (ix e b zh).ae a zQ) (some [AV.agg<|zbo<|zeD ({r with aa:=F}:ac) b a<|ix (ix e b zh).ae a zQ]) none) none)<|some [AV.agg<|zbo ({r with aa:=e}:ac)]) none) none) none) none) none)=some [AV.agg<|zbo<|zh7 r b a f]:=(by intro r B d q;obtain⟨S,u⟩:=zcG B d;have w:=zm8 (p:=a) B d;unfold zh7;simp only[zb0,zdh,H,cT];cases J:ieq (wand .i64 f 2) 0;{obtain⟨k,rfl,A⟩:=zdY (n:=r.aa.length) d;have m:ix (zbH r (k:Int) a).aa (k:Int) mZ={ix r.aa (k:Int) mZ with av:=up (ix r.aa (k:Int) mZ).av a true}:=zd8 A _ _;have t:k<(zbH r (k:Int) a).aa.length:=(by simpa [zbH] using A);have z:inb a (ln (ix (zbH r (k:Int) a).aa (k:Int) mZ).ae)=true:=(by rw[m];exact zF (zdN u.1 j));refine zek rfl (j0 (zF d)<|j0 (zF<|zdN u.2.2.1 j)<|shr<|j0 z ?_);unfold opened;show (cond (cond (enough (ix (ix (zbH r (k:Int) a).aa (k:Int) mZ).ae a sZ).aj 2) false true) _ _)=_;have G:(cond (enough (ix (ix (zbH r (k:Int) a).aa (k:Int) mZ).ae a sZ).aj 2) false true)=ieq (wand .i64 (ix (ix (zbH r (k:Int) a).aa (k:Int) mZ).ae a sZ).aj 2) 0:=(by rw[m];show (cond (enough (ix (ix r.aa (k:Int) mZ).ae a sZ).aj 2) false true)=ieq (wand .i64 (ix (ix r.aa (k:Int) mZ).ae a sZ).aj 2) 0;rw[q];cases ieq (wand .i64 (ix (ix r.aa (k:Int) mZ).ae a sZ).aj 2) 0<;>rfl);rw[G];cases v:ieq (wand .i64 (ix (ix (zbH r (k:Int) a).aa (k:Int) mZ).ae a sZ).aj 2) 0;{rfl};{have L:Shape {zbH r (k:Int) a with aa:=up (zbH r (k:Int) a).aa (k:Int) {ix (zbH r (k:Int) a).aa (k:Int) mZ with ae:=up (ix (zbH r (k:Int) a).aa (k:Int) mZ).ae a ⟨(ix (ix (zbH r (k:Int) a).aa (k:Int) mZ).ae a sZ).af,3⟩}}:=(by obtain⟨D,E⟩:=zcG w (zeT d);exact ziE w ⟨by simpa using D.1,D.2⟩ ⟨by simpa using E.1,E.2⟩);have O:∀(x y:Mon),i0 (k:Int) (ln<|up (up r.aa (k:Int) x) (k:Int) y)=true:=λx y=>(by simpa [ln] using d);refine j0 rfl (j0 z<|shr<|j0 (zbS ⟨L,O _ _⟩) ?_);exact congrArg (λx=>some [AV.agg<|zbo x]) (zy8 (h:=zbH r (k:Int) a) (p:=a) (s:=⟨(ix (ix (zbH r (k:Int) a).aa (k:Int) mZ).ae a sZ).af,3⟩) t (by rw[m];exact u.2.2.2))}};{rfl});refine⟨0,?_⟩;unfold zFQ zii D0 oN nB;conv=>zeta
 refine j0 (zF i) (j0 (zF<|zdN I.1 j) ?_);cases J:ieq (ix (ix c.aa b mZ).ae a sZ).af (-1);{exact g c l.1 i (z7M C.lo C.hi)};{obtain⟨v,K⟩:=zki (p:=a) l i j;exact j0 rfl (j0 (zbS ⟨l,i,j⟩)<|g _ v K (by rw[zRP l i j];rfl))}
def zR6:zbQ Tryz.prog 181 [true,true,true,true] zv5:=by refine zhm (zf3 zio zD zNd zDs) (zhJ (by kernel_rfl)) ?_;intro g a b j i f h;have d:=zkT f;unfold zv5 at h;split at h;{obtain⟨e,rfl,rfl⟩:=zmM h;obtain⟨N,c⟩:=zYr _ _ _ _ (by exact d) e;exact⟨rfl,_,N,12,(z06 N _ _ _ _ ).trans c⟩};{cases h}
def zYL:zc0:=[(181,[true,true,true,true],zv5)]++zYJ
def zcy:zb5 zYL:=zcu zNd (by
 intro x a;simp only[qG,qO,or_false]at a;rcases a with rfl
 .exact zR6)
def zZv:zfu:=[(183,[true,true,true,true,false,false,false],some (1,1,[[0],[1],[2],[4],[7]]),zr7)]++zUh
def zNr:zen zZv:=zny zDs (by
 intro x a;simp only[qG,qO,or_false]at a;rcases a with rfl
 .exact zJB)
def zYf {h:ac}(b:zbT h=true):h.ag.length=12:=by unfold zbT at b;simp only[zc1]at b;have a:=b.1;unfold zh6 at a;simp only[zc1]at a;have:ln h.ag=12:=qD a.2;simp only[ln] at this;omega
def zg9 {h:ac}(a:zbT h=true):∀x∈h.aa,zd1 x=true:=by unfold zbT at a;simp only[zc1]at a;exact zyz _ _ a.2.2.2.2
def zHc {x:Mon}(a:zd1 x=true):ShM x:=by have e:=znT (ziu a);unfold zd1 at a;simp only[zc1]at a;have b:ln x.ai=ln x.ad:=qD a.2.1;have c:ln x.Out=8:=qD a.2.2.2.1;have d:ln x.av=8:=qD a.2.2.2.2.1;simp only[ln] at *;exact⟨by omega,by omega,by omega,by omega⟩
def zfz {h:ac}(b:SmH h)(a:zbT h=true):Fit h:=by refine⟨⟨b,λx c=>zHc (zg9 a x c)⟩,by rw[zYf a];decide,?_⟩;unfold zbT at a;simp only[zc1]at a;have:=zSb _ _ rfl a.2.2.2.2;omega
def zsA {x:Mon}(b:zd1 x=true){p:Int}(c:i0 p 8=true):SlotFit (ix x.ae p sZ):=by have a:=ziu b;unfold zcT at a;simp only[zc1]at a;exact zZk (qM.1 a.1 _<|zbD (zdN (zHc b).1 c) _)
def zU5 {h:ac}{m p:Int}(a:Fit h)(c:i0 m (ln h.aa)=true):Fit (zbH h m p):=by refine⟨zm8 a.1 c,a.2.1,?_⟩;obtain⟨k,rfl,b⟩:=zdY (n:=h.aa.length) c;have:=zUM h.aa k (ix h.aa (k:Int) mZ) {ix h.aa (k:Int) mZ with av:=up (ix h.aa (k:Int) mZ).av p true} (by rw[zbi b];exact qB b);have d:=a.2.2;unfold zbH;simp only[up,kJ];dsimp only at this;simp only[up] at this;omega
abbrev gZ:ah:=Ty.dflt .guest
def zbX (h:ac)(m g:Int):Bool:=bif zbT h then (cond (i0 m<|ln h.aa) (i0 g<|ln (ix h.aa m mZ).ad) false) else false
@[simp] abbrev zdk (h:ac)(m g:Int):Bool:=pc (zcv h)
@[simp] abbrev zjd (h:ac)(m g:Int):Bool:=zbX h m g
def zFw:Run:=rF3 dH dI dI λb c d=>(zdk b c d,[aB<|zjd b c d])
def zN7 (N:Nat)(a:ac)(b c:Int):OA:=
 let d:=wsub .i64 (ln (ix a.aa b zh).ad) 1; (oN (zei a)<|cond (zeg a) (oN (zM b 0<|wsub .i64 (ln a.aa) 1)<|cond (zk b 0<|wsub .i64 (ln a.aa) 1) (oN (inb b<|ln a.aa)<|oN (zM c 0 d)<|some [aB<|zk c 0 d]) oF) oF)
def zVv (a:ac)(b c:Int)(f:zdk a b c=true):∃N,zN7 N a b c=some [aB<|zjd a b c]:=by
 have e:=(zbd a).1 (zS.1 f);refine⟨0,?_⟩;unfold zN7 zjd zbX oN;conv=>zeta
 refine j0 rfl ?_;rw[show zeg a=zbT a from rfl];cases g:zbT a;{rfl};{rw [show zk b 0 (wsub .i64 (ln a.aa) 1)=i0 b (ln a.aa) from zqp e.2.1.1 b];refine j0 rfl (j0 rfl ?_);cases d:i0 b (ln a.aa);{rfl};{have hg:(ix a.aa b mZ).ad.length<=1048576:=(e.2.1.2 _<|zbD d _).2.2.2.1.1;rw[show zk c 0 (wsub .i64 (ln (ix a.aa b zh).ad) 1)=i0 c (ln (ix a.aa b mZ).ad) from zqp hg c];exact j0 rfl (j0 (zF d) (j0 rfl rfl))}}
def zPI:vU 258 zFw:=kF3 zio zD zcy zNr (zy []) zVv
def zcR (h:ac)(m:Int):Nat->Nat->List LI
 | 0,_=>[]
 |n+1,i=>zdg h m (i:Int)::zcR h m n (i+1)
def zyN (h:ac)(m:Int):∀(n i:Nat),(zcR h m n i).length=n
 | 0,_=>rfl
 |n+1,i=>by simp[zcR,zyN h m n]
def zL (h:ac)(m:Int):ao:=bif i0 m (ln h.aa) then ⟨zcR h m 8 0,(ix h.aa m mZ).ad,(ix h.aa m mZ).Outs,(ix h.aa m mZ).an⟩ else ⟨[],[],[],0⟩
def z5V:zbf:=[(258,zFw)]++zqy
def z3h:zN z5V:=zi zPI zio
def zVz:zcw zzf=true:=by decide
def zWk {p:Nat->Bool}:∀{n i q:Nat},zkU p n i=true->i<=q->q<i+n->p q=true
 | 0,i,q,_,a,b=>by omega
 |n+1,i,q,h,a,b=>by simp only[zkU,qE]at h;by_cases c:i=q;{subst c;exact h.1};{exact zWk h.2 (by omega) (by omega)}
def z1j {h:ac}{m:Int}(e:zbT h=true)(l:i0 m (ln h.aa)=true){p:Int}(j:i0 p 8=true):zcw (zdg h m p)=true:=by have i:=zg9 e _ (zbD l mZ);have s:=zHc i;have f:h.ag.all zcw=true:=(by unfold zbT at e;simp only[zc1]at e;have b:=e.1;unfold zh6 at b;simp only[zc1]at b;exact b.1);unfold zdg;rw[l,j];simp only[cT];have t:zbv (ix h.aa m mZ).ae p=ix (ix h.aa m mZ).ae p sZ:=(by unfold zbv;rw[zdN s.1 j];rfl);rw[t];have d:∀(g:List LI) (q:Int),(i0 q (ln g)=true->zcw (ix g q [])=true)->zcw (zcD g q)=true:=(by intro g q k;unfold zcD;cases b:i0 q (ln g);{exact zVz};{exact k b});cases c:ine (ix (ix h.aa m mZ).ae p sZ).af (-1);{refine d _ _ (λk=>?_);obtain⟨q,rfl,u⟩:=zdY (n:=8) j;have a:fits (ix h.aa m mZ) q=true:=(by unfold zd1 at i;simp only[zc1]at i;exact zWk i.2.2.2.2.2.2.2.2.2.2 (by omega) (by omega));unfold fits zlK at a;have r:zcx (ix (ix h.aa m mZ).ae (q:Int) sZ) C0=true:=(by rw[(zsA (zg9 e _<|zbD l mZ) j).no];rw[zDd]at c;cases b:ieq (ix (ix h.aa m mZ).ae (q:Int) sZ).af (-1);{rw [b]at c;cases c};{rfl});rw[r]at a;exact a};{exact d _ _ (λk=>qM.1 f _ (zbD k _))}
def zOU {h:ac}{m:Int}(a:zbT h=true)(b:i0 m (ln h.aa)=true):∀(n i:Nat),i+n<=8->(zcR h m n i).all zcw=true
 | 0,_,_=>rfl
 |n+1,i,c=>by simp only[zcR,k6,qE];exact⟨z1j a b<|qL (by omega),zOU a b n (i+1) (by omega)⟩
def zEQ {h:ac}{m:Int}(c:zbT h=true)(b:i0 m (ln h.aa)=true):zcf (zL h m)=true:=by have a:=zg9 c _ (zbD b mZ);unfold zd1 at a;simp only[zc1]at a;unfold zL zcf zh6;rw[b];simp only[cT,a.2.2.2.2.2.2.2.2.2.1,zOU c b 8 0 (by decide),ln,zyN];simp only[ln]at a;rw[a.1,a.2.2.2.2.2.1,a.2.2.2.2.2.2.1];rfl
def zmR:zbf:=z5V
def ziq:zN zmR:=z3h
def zeq (l:List Mon):List (List ah):=l.map λx=>x.ad
def zyx {l:List Mon}{m:Int}{x:Mon}(b:i0 m (ln l)=true)(c:x.ad=(ix l m mZ).ad):zeq (up l m x)=zeq l:=by obtain⟨k,rfl,a⟩:=zdY (n:=l.length) b;unfold zeq up;rw[List.map_set,kJ,c,zbi a];have:=@vC _ (l.map λx=>x.ad) k (by simpa using a);simpa using this
def zIZ {l b:List Mon}(h:zeq b=zeq l)(m:Int):(ix b m mZ).ad=(ix l m mZ).ad:=by unfold zeq at h;have a:(b.map λx=>x.ad)[m.toNat]?=(l.map λx=>x.ad)[m.toNat]?:=(by rw[h]);rw[qQ,qQ]at a;unfold ix;simp only[kB];cases c:b[m.toNat]? <;> cases d:l[m.toNat]? <;> rw [c,d]at a<;>simp at a ⊢;exact a
def zyw {h:ac}{m p:Int}{s:k0}(a:i0 m (ln h.aa)=true):zeq (zcc h m p s).aa=zeq h.aa:=by rw[(zgz h m p s).1];exact zyx a rfl
def z7U {h:ac}{m p:Int}(a:i0 m (ln h.aa)=true):zeq (zdH h m p).aa=zeq h.aa:=(zyw (h:=zeO h m p)<|zeT a).trans (zyx a rfl)
def z7T {h:ac}(b:Fit h):zeq (zcV h).aa=zeq h.aa:=by unfold zcV;cases a:ieq (ln<|zcg h) 0;{rfl};{exact z7U (zDj b a).1}
def zYd {h:ac}{m p:Int}(a:Fit h)(c:i0 m (ln h.aa)=true):zeq (fetched h m p).aa=zeq h.aa:=by have b:=zp0 a c;exact((zyw (h:=landing (zcV h) m p (ix (zcg<|zcV h) 0 0))<|zeT b).trans (zyx b rfl)).trans (z7T a)
def zR2 {h:ac}{m p n:Int}(b:i0 m (ln h.aa)=true):zeq (zh7 h m p n).aa=zeq h.aa:=by have a:zeq (zbH h m p).aa=zeq h.aa:=zyx b rfl;unfold zh7;cases ieq (wand .i64 n 2) 0;{unfold opened;cases ieq (wand .i64 (ix (ix (zbH h m p).aa m mZ).ae p sZ).aj 2) 0;{exact a};{exact(zyw (h:=zbH h m p)<|zeT b).trans a}};{rfl}
def z0E {h:ac}{m p n:Int}(b:Fit h)(a:i0 m (ln h.aa)=true)(c:i0 p 8=true):zeq (D0 h m p n).aa=zeq h.aa:=by unfold D0;cases ieq (ix (ix h.aa m mZ).ae p sZ).af (-1);{exact zR2 a};{exact(zR2 (zki b a c).2).trans (zYd b a)}
def z9E {l a:List Mon}(h:zeq a=zeq l):a.length=l.length:=by have:=congrArg List.length h;simpa [zeq] using this
abbrev kZ:ax:=Ty.dflt .kept
def zbaB {x:ah}(f:zdX x=true){p n:Int}(d:zfN x.ay p n=true):i0 (zcO x.ay p n) 8=true:=by have g:zcT x.ay 4 8=true:=(by unfold zdX at f;simp only[qE]at f;exact f.2.2.2.2.1);unfold zcO;rw[d];simp only[cT];unfold zfN at d;cases a:ieq (zbv x.ay p).af (-1);{unfold zbv at a ⊢;cases e:i0 p (ln x.ay);{rw [e]at a;cases a};{rw [e]at a;simp only[cT]at a ⊢;unfold zcT at g;simp only[zc1]at g;have c:=qM.1 g.1 _ (zbD e sZ);unfold zdO at c;cases b:zcx (ix x.ay p sZ) C0;{rw [b]at c;simp only[cF,zc1]at c;have:=zfO.1 c.2.1;rw[show wsub .i64 8 1=7 from rfl] at this;show i0 (ix x.ay p sZ).af 8=true;exact qL (by omega)};{unfold zcx at b;rw[qE]at b;have:(ix x.ay p sZ).af = -1:=qD b.1;rw[show ieq (ix x.ay p zQ).af (-1)=true from qL this]at a;cases a}}};{rw [a]at d;cases d}
def zc4 (h:ac)(m g:Int):List k0:=(ix (ix h.aa m mZ).ad g gZ).ay
def zcC (h:ac)(m g:Int):ax:=ix (ix h.aa m mZ).ai g kZ
def zrl (b:List aq)(m g a:Int):Option aq:=zC5 b (ze2 m g) a
def zhj (b:List aq)(m g a c:Int):Bool:=bif (zrl b m g a).isSome then enough ((zrl b m g a).getD ⟨0,0,0,0⟩).aj c else false
def zeY (h:ac)(m g a b:Int):Bool:=bif zgy (zcC h m g) a then (cond (ieq (zeo (zcC h m g) a).af<|-1) true<|!enough (zeo (zcC h m g) a).aj b) else true
def zdQ (h:ac)(m g a:Int):ac:={h with aa:=up h.aa m {ix h.aa m mZ with ai:=up (ix h.aa m mZ).ai g (filled (zcC h m g) (zc4 h m g) (ix h.aa m mZ).ae a)}}
def zC1 (h:ac)(m g a:Int):aq:=⟨ze2 m g,a,(zeo (zcC h m g) a).af,(zeo (zcC h m g) a).aj⟩
def zqI (h:ac)(m g a:Int)(b:Bool):ac:=bif b then {h with ak:=zni h.ak (zC1 h m g a)} else {h with am:=zni h.am (zC1 h m g a)}
def zh4 (h:ac)(m g a:Int)(b:Bool):ac×Int×Bool:=(zqI h m g a b,(zeo (zcC h m g) a).af,true)
def zgL (h:ac)(b:List aq)(m g a c q:Int)(d:Bool):ac×Int×Bool :=
 bif zhj b m g a c then (h,((zrl b m g a).getD ⟨0,0,0,0⟩).ac,true)
 else (cond (zeY h m g a c) (zh4 (zdQ (D0 h m q c) m g a) m g a d)<|zh4 h m g a d)
def zj4 (a:Int):Bool:=bif ieq a 1 then true else ieq a 2
def zca (h:ac)(m g page need:Int):Bool:=bif zbX h m g then (cond (zj4 need) (zfN (zc4 h m g) page need) false) else false
def lookOf (h:ac)(b:List aq)(m g page need:Int)(io:Bool):ac×Int×Bool :=
 bif zca h m g page need then zgL (cond (ieq need 2) (zbH h m<|zcO (zc4 h m g) page need) h) b m g page need (zcO (zc4 h m g) page need) io else (h,-1,false)
structure Kp (h r:ac):Prop where
 shape:Shape r
 gs:zeq r.aa=zeq h.aa
def Kp.has {h r:ac}(k:Kp h r){m:Int}(a:i0 m (ln h.aa)=true):i0 m (ln r.aa)=true:=by rw[ln,z9E k.gs];exact a
def zZh {h:ac}{m g c:Int}(d:Shape h)(e:i0 m (ln h.aa)=true)(hg:i0 g (ln (ix h.aa m mZ).ad)=true):Shape (zdQ h m g c):=by obtain⟨a,b⟩:=zcG d e;have f:i0 g (ln (ix h.aa m mZ).ai)=true:=(by rw[ln,b.2.2.2];exact hg);exact ziE d ⟨a.1,a.2.1,a.2.2.1,a.2.2.2.1,a.2.2.2.2.1,zxN a.2.2.2.2.2<|zZo<|a.2.2.2.2.2.2 _<|zbD f _⟩ ⟨b.1,b.2.1,b.2.2.1,by simpa using b.2.2.2⟩
def z0O {h r:ac}{m g a:Int}{i:Bool}(k:Kp h r):Kp h (zqI r m g a i):=by obtain⟨⟨b,c,d,e⟩,f⟩:=k.shape;unfold zqI;cases i;{exact⟨⟨⟨b,c,(zyS _ d).1,e⟩,f⟩,k.gs⟩};{exact⟨⟨⟨b,c,d,(zyS _ e).1⟩,f⟩,k.gs⟩}
structure LookAt (h:ac) (m g q need:Int):Prop where
 fit:Fit h
 hm:i0 m (ln h.aa)=true
 hg:i0 g (ln (ix h.aa m mZ).ad)=true
 hq:i0 q 8=true
 hn:need=1\/need=2
 hs:SlotFit (ix (ix h.aa m mZ).ae q sZ)
def LookAt.mend {h:ac}{m g q a:Int}(A:LookAt h m g q a):zQ7 h m q a:=⟨A.fit,A.hm,A.hq,A.hn.elim .inl λh=>.inr (.inl h),A.hs⟩
def LookAt.kp {h:ac}{m g q a:Int}(A:LookAt h m g q a):Kp h (D0 h m q a):=⟨(zuf A.fit A.hm A.hq).1,z0E A.fit A.hm A.hq⟩
def LookAt.fill {h:ac}{m g q a:Int}(A:LookAt h m g q a)(b:Int):Kp h (zdQ (D0 h m q a) m g b):=by have k:=A.kp;have hg:i0 g (ln (ix (D0 h m q a).aa m mZ).ad)=true:=(by rw[zIZ k.gs];exact A.hg);have e:zeq (zdQ (D0 h m q a) m g b).aa=zeq (D0 h m q a).aa:=zyx (k.has A.hm) rfl;exact⟨zZh k.shape (k.has A.hm) hg,e.trans k.gs⟩
def zSi {h:ac}{b:List aq}{m g page a q:Int}{io:Bool}(A:LookAt h m g q a):Kp h (zgL h b m g page a q io).1:=by unfold zgL;cases zhj b m g page a;{cases zeY h m g page a;{exact z0O ⟨A.fit.1,rfl⟩};{exact z0O (A.fill page)}};{exact⟨A.fit.1,rfl⟩}
def zdM {h:ac}{m g:Int}(a:zbX h m g=true):zbT h=true/\i0 m (ln h.aa)=true/\i0 g (ln (ix h.aa m mZ).ad)=true:=by unfold zbX at a;simp only[zc1]at a;exact a
def zYe {h:ac}{m g:Int}(e:zbX h m g=true):zdX (ix (ix h.aa m mZ).ad g gZ)=true:=by obtain⟨b,c,d⟩:=zdM e;have a:=zg9 b _ (zbD c mZ);unfold zd1 at a;simp only[zc1]at a;exact qM.1 a.2.2.2.2.2.2.2.2.2.1 _ (zbD d _)
def zJ5 {n:Int}(h:zj4 n=true):n=1\/n=2:=by unfold zj4 at h;cases a:ieq n 1;{rw [a]at h;exact .inr (qD h)};{exact .inl (qD a)}
def zOG {h:ac}{m g page a:Int}(s:SmH h)(d:zca h m g page a=true) :
 LookAt h m g (zcO (zc4 h m g) page a) a/\LookAt (zbH h m<|zcO (zc4 h m g) page a) m g (zcO (zc4 h m g) page a) a:=by
 unfold zca at d;simp only[zc1]at d;obtain⟨l,p,r⟩:=d;obtain⟨i,b,j⟩:=zdM l;have f:i0 (zcO (zc4 h m g) page a) 8=true:=zbaB (zYe l) r;have c:=zsA (zg9 i _<|zbD b mZ) f;have q:=zfz s i;refine⟨⟨q,b,j,f,zJ5 p,c⟩,⟨zU5 q b,zeT b,?_,f,zJ5 p,?_⟩⟩
 .have e:zeq (zbH h m<|zcO (zc4 h m g) page a).aa=zeq h.aa:=zyx b rfl;rw[zIZ e];exact j
 .obtain⟨k,rfl,hk⟩:=zdY (n:=h.aa.length) b;unfold zbH;rw[zd8 hk];exact c
def zw4 {h:ac}{b:List aq}{m g page need:Int}{io:Bool}(a:SmH h)(f:zbX h m g=true):Kp h (lookOf h b m g page need io).1:=by have d:=zfz a (zdM f).1;unfold lookOf;cases c:zca h m g page need;{exact⟨d.1,rfl⟩};{obtain⟨A,B⟩:=zOG a c;simp only[cT];cases ieq need 2;{exact zSi A};{have k:=zSi (b:=b) (page:=page) (io:=io) B;have e:zeq (zbH h m<|zcO (zc4 h m g) page need).aa=zeq h.aa:=zyx A.hm rfl;exact⟨k.shape,k.gs.trans e⟩}}
def zNg (x:ac×Int×Bool):LA:=[.agg<|zbo x.1,.one<|.i .i64 x.2.1,.one<|.b x.2.2]
def znG {h:ac}{b:List aq}{m g c a:Int}{e:Bool}(d:zca h m g c a=false):lookOf h b m g c a e=(h,-1,false):=by unfold lookOf;rw[d];rfl
def zB1 {h:ac}{m g b a:Int}(c:zbX h m g=false):zca h m g b a=false:=by unfold zca;rw[c];rfl
def z7V {h:ac}{m g:Int}(a:zbT h=false):zbX h m g=false:=by unfold zbX;rw[a];rfl
def z7W {h:ac}{m g:Int}(a:i0 m (ln h.aa)=false):zbX h m g=false:=by unfold zbX;rw[a];cases zbT h<;>rfl
def z7X {h:ac}{m g:Int}(a:i0 g (ln (ix h.aa m mZ).ad)=false):zbX h m g=false:=by unfold zbX;rw[a];cases zbT h<;>cases i0 m (ln h.aa)<;>rfl
def z7Y {h:ac}{m g:Int}(a:zbT h=true)(b:i0 m (ln h.aa)=true)(c:i0 g (ln (ix h.aa m mZ).ad)=true):zbX h m g=true:=by unfold zbX;rw[a,b,c];rfl
structure LookF (r:ac) (m g:Int):Prop where
 hm:i0 m (ln r.aa)=true
 hg:i0 g (ln (ix r.aa m mZ).ad)=true
 ht:i0 g (ln (ix r.aa m mZ).ai)=true
 hk:SmK (zcC r m g)
 hb:r.am.length<=1048576
 hi:r.ak.length<=1048576
def zDf {h r:ac}{m g:Int}(k:Kp h r)(b:i0 m (ln h.aa)=true)(hg:i0 g (ln (ix h.aa m mZ).ad)=true):LookF r m g:=by obtain⟨d,e⟩:=zcG k.shape (k.has b);have a:i0 g (ln (ix r.aa m mZ).ad)=true:=(by rw[zIZ k.gs];exact hg);have c:i0 g (ln (ix r.aa m mZ).ai)=true:=(by rw[ln,e.2.2.2];exact a);exact⟨k.has b,a,c,d.2.2.2.2.2.2 _<|zbD c _,k.shape.1.2.2.1,k.shape.1.2.2.2⟩
@[simp] abbrev zkC (h:ac)(b:List aq)(m g c a:Int)(d:Bool):Bool:=pc (zcv h)
@[simp] abbrev zfs (h:ac)(b:List aq)(m g page need:Int)(io:Bool):ac:=(lookOf h b m g page need io).1
@[simp] abbrev zkB (h:ac)(b:List aq)(m g c a:Int)(d:Bool):Int:=(lookOf h b m g c a d).2.1
@[simp] abbrev zhg (h:ac)(b:List aq)(m g c a:Int)(d:Bool):Bool:=(lookOf h b m g c a d).2.2
def zr9:LW
 |[.agg [.s (.sl .int) c,.s .mon d,.s .entry e,.s .entry f],.one<|.s .entry g,.one<|.i .i64 h,.one<|.i .i64 j,.one<|.i .i64 k,.one<|.i .i64 l,.one<|.b m]=>some (zkC (⟨c,d,e,f⟩:ac) g h j k l m,[aH<|zfs (⟨c,d,e,f⟩:ac) g h j k l m,aI<|zkB (⟨c,d,e,f⟩:ac) g h j k l m,aB<|zhg (⟨c,d,e,f⟩:ac) g h j k l m])
 |_=>none
abbrev zPf (b:lM)(c:lN)(d:lE)(e:lE)(a:Int)(g:Int)(f:Int):Mon :=
 (ix (zii (⟨b,c,d,e⟩:ac) a g f).aa a zh)
abbrev zPg (a:ac)(b c:Int)(d e:Int):Int :=
 (zkb (ix (ix a.aa b zh).ad c zI).ay d e)
def zLe (N:Nat)(a:Int)(b:lM)(c:lN)(d:lE)(e:lE):OA:=
 (some [aH (⟨b,c,d,e⟩:ac),aI a,aB true])
def zpC (N:Nat)(l:Int)(m:Bool)(n:Int)(c:Int)(d:Int)(k:lM)(e:lN)(a:lE)(b:lE)(f:lM)(g:lN)(h:lE)(i:lE):OA:=
 let q:=(⟨n,l,c,d⟩:aq); (p0 (λ(j:(Int×Int×lM×lN×lE×lE×lM×lN×lE×lE×Unit))=>zLe N j.1 j.2.2.1 j.2.2.2.1 j.2.2.2.2.1 j.2.2.2.2.2.1) λp=>cond m (oN (zli b q)<|p (c,d,k,e,a,zl0 b q,f,g,h,i,()))<|oN (zli a q)<|p (c,d,k,e,zl0 a q,b,f,g,h,i,()))
def zrQ (N:Nat)(d:lM)(e:lN)(f:lE)(g:lE)(b:Int)(i:Int)(h:Int)(a:Int)(c:Int)(y:(Int×Bool×Int×Int×Int×Int×Int×Int×Int×lM×lN×lE×lE×lM×lN×lE×lE×Unit)->OA)(r:Bool)(s:Int)(t:Int)(u:Int)(v:Int)(k:Int)(l:lM)(m:lN)(n:lE)(p:lE):OA:=
 let D:=(⟨d,e,f,g⟩:ac);let w:=zii D b i h;let x:=inb b<|ln w.aa;let j:=zPf d e f g b i h;let C:=ix j.ai a zdi;let A:=(ix j.ad a zI).ay; (oN (zkA D b i h)<|oN x<|oN x<|oN (inb a<|ln j.ai)<|oN x<|oN (inb a<|ln j.ad)<|oN x<|oN (zHv C A j.ae c)<|oN (inb a<|ln j.ai)<|p0 (up w.aa b ({j with ai:=(up j.ai a<|zKt C A j.ae c)}:Mon)) (λq=>let B:=(ix q b zh).ai;let z:=ix B a zdi; (oN (inb b<|ln q)<|oN (inb a<|ln B)<|oN (zdc z c)<|y (c,r,s,t,u,v,k,(zhn z c).af,(zhn z c).aj,w.ag,q,w.am,w.ak,l,m,n,p,()))))
def zlx (N:Nat)(d:Int)(e:Int)(c:Int)(n:Int)(p:Bool)(v:Int)(q:Int)(r:Int)(s:Int)(t:Int)(f:Int)(g:lM)(b:lN)(h:lE)(i:lE)(j:lM)(k:lN)(l:lE)(m:lE):OA:=
 let z:=(ix b d zh).ai;let x:=ix z e zdi;let w:=zhn x c; (oN (inb d<|ln b)<|oN (inb e<|ln z)<|oN (zdc x c)<|p0 (λ(a:(Int×Bool×Int×Int×Int×Int×Int×Int×Int×lM×lN×lE×lE×lM×lN×lE×lE×Unit))=>zpC N a.1 a.2.1 a.2.2.1 a.2.2.2.2.2.2.2.1 a.2.2.2.2.2.2.2.2.1 a.2.2.2.2.2.2.2.2.2.1 a.2.2.2.2.2.2.2.2.2.2.1 a.2.2.2.2.2.2.2.2.2.2.2.1 a.2.2.2.2.2.2.2.2.2.2.2.2.1 a.2.2.2.2.2.2.2.2.2.2.2.2.2.1 a.2.2.2.2.2.2.2.2.2.2.2.2.2.2.1 a.2.2.2.2.2.2.2.2.2.2.2.2.2.2.2.1 a.2.2.2.2.2.2.2.2.2.2.2.2.2.2.2.2.1) (λu=>let y:=zrQ N g b h i d v n e c u p q r s t f j k l m; (cond (nB<|zi2 x c) y<|cond (ieq w.af<|-1) y<|oN (zb0 w.aj n)<|cond (nB<|zdh w.aj n) y<|u (c,p,q,r,s,t,f,w.af,w.aj,g,b,h,i,j,k,l,m,()))))
def zrR (N:Nat)(g:Int)(a:ac)(h e f:Int)(l:lE)(n:Bool):OA:=
 let i:=zs5 g h;let k:=zPg a g h e f;let m:=ix a.aa g zh;let s:=(ix m.ad h zI).ay;let d:=zmY l i e;let j:=d.aj; (oN (inb g<|ln a.aa)<|oN (inb h<|ln m.ad)<|oN (zse s e f)<|cond (nB<|zkc s e f) (some [aH a,aI<|-1,aB false])<|oN (zlj g h)<|cond (ieq f 2) (oN (inb g<|ln a.aa)<|oN (inb k<|ln m.av)<|p0 (up a.aa g ({m with av:=(up m.av k true)}:Mon)) λp=>oN (zmZ l i e)<|p0 (λ(c:(Int×Int×Int×Int×Bool×Int×Int×Int×Int×Int×Int×lM×lN×lE×lE×lM×lN×lE×lE×Unit))=>zlx N c.1 c.2.1 c.2.2.1 c.2.2.2.1 c.2.2.2.2.1 c.2.2.2.2.2.1 c.2.2.2.2.2.2.1 c.2.2.2.2.2.2.2.1 c.2.2.2.2.2.2.2.2.1 c.2.2.2.2.2.2.2.2.2.1 c.2.2.2.2.2.2.2.2.2.2.1 c.2.2.2.2.2.2.2.2.2.2.2.1 c.2.2.2.2.2.2.2.2.2.2.2.2.1 c.2.2.2.2.2.2.2.2.2.2.2.2.2.1 c.2.2.2.2.2.2.2.2.2.2.2.2.2.2.1 c.2.2.2.2.2.2.2.2.2.2.2.2.2.2.2.1 c.2.2.2.2.2.2.2.2.2.2.2.2.2.2.2.2.1 c.2.2.2.2.2.2.2.2.2.2.2.2.2.2.2.2.2.1 c.2.2.2.2.2.2.2.2.2.2.2.2.2.2.2.2.2.2.1) λr=>cond (zj9 l i e) (oN (zb0 j f)<|cond (zdh j f) (some [aH ({a with aa:=p}:ac),aI d.ac,aB true])<|r (g,h,e,f,n,k,i,d.Tag,d.af,d.ac,j,a.ag,p,a.am,a.ak,[],[],[],[],()))<|r (g,h,e,f,n,k,i,d.Tag,d.af,d.ac,j,a.ag,p,a.am,a.ak,[],[],[],[],()))<|oN (zmZ l i e)<|p0 (λ(b:(Int×Int×Int×Int×Bool×Int×Int×Int×Int×Int×Int×lM×lN×lE×lE×lM×lN×lE×lE×Unit))=>zlx N b.1 b.2.1 b.2.2.1 b.2.2.2.1 b.2.2.2.2.1 b.2.2.2.2.2.1 b.2.2.2.2.2.2.1 b.2.2.2.2.2.2.2.1 b.2.2.2.2.2.2.2.2.1 b.2.2.2.2.2.2.2.2.2.1 b.2.2.2.2.2.2.2.2.2.2.1 b.2.2.2.2.2.2.2.2.2.2.2.1 b.2.2.2.2.2.2.2.2.2.2.2.2.1 b.2.2.2.2.2.2.2.2.2.2.2.2.2.1 b.2.2.2.2.2.2.2.2.2.2.2.2.2.2.1 b.2.2.2.2.2.2.2.2.2.2.2.2.2.2.2.1 b.2.2.2.2.2.2.2.2.2.2.2.2.2.2.2.2.1 b.2.2.2.2.2.2.2.2.2.2.2.2.2.2.2.2.2.1 b.2.2.2.2.2.2.2.2.2.2.2.2.2.2.2.2.2.2.1) λq=>cond (zj9 l i e) (oN (zb0 j f)<|cond (zdh j f) (some [aH a,aI d.ac,aB true])<|q (g,h,e,f,n,k,i,d.Tag,d.af,d.ac,j,a.ag,a.aa,a.am,a.ak,[],[],[],[],()))<|q (g,h,e,f,n,k,i,d.Tag,d.af,d.ac,j,a.ag,a.aa,a.am,a.ak,[],[],[],[],()))
def zqr (N:Nat)(a:ac)(g:lE)(b c:Int)(h d:Int)(i:Bool):OA:=
 let f:=zrR N b a c h d g i;let e:=wsub .i64 (ln (ix a.aa b zh).ad) 1; (oN (zei a)<|cond (nB<|zeg a) (some [aH a,aI<|-1,aB false])<|oN (zM b 0<|wsub .i64 (ln a.aa) 1)<|cond (nB<|zk b 0<|wsub .i64 (ln a.aa) 1) (some [aH a,aI<|-1,aB false])<|oN (inb b<|ln a.aa)<|oN (zM c 0 e)<|cond (nB<|zk c 0 e) (some [aH a,aI<|-1,aB false])<|cond (ine d 1) (cond (ine d 2) (some [aH a,aI<|-1,aB false]) f) f)
def zsk:=zy [(337,999999,{n:=0,tm:=[],lo:=[],ro:=[]}),(337,1007023,{n:=210,tm:=[(2,ti),(3,ti),(4,ti),(5,ti),(6,.b),(7,.lp 0 0),(14,.lp 1 0),(17,ti),(19,ti),(20,.lp 2 0)],lo:=[(0,[.sl 0 [],.sl 1 [],.sl 2 [],.sl 3 []]),(1,[.sl 4 [],.sl 5 [],.sl 6 [],.sl 7 []]),(2,[ti,ti,ti,ti])],ro:=[(0,.sl .int,true),(1,.mon,true),(2,.entry,true),(3,.entry,true),(4,.sl .int,true),(5,.mon,true),(6,.entry,true),(7,.entry,true)],kr:=1}),(337,1009011,{n:=210,tm:=[(4,ti),(6,.b),(7,.lp 0 0),(14,.lp 1 0),(19,ti),(20,.lp 2 0),(22,.lp 3 0)],lo:=[(0,[.sl 0 [],.sl 1 [],.sl 2 [],.sl 3 []]),(1,[.sl 4 [],.sl 5 [],.sl 6 [],.sl 7 []]),(2,[ti,ti,ti,ti]),(3,[ti,ti])],ro:=[(0,.sl .int,true),(1,.mon,true),(2,.entry,true),(3,.entry,true),(4,.sl .int,true),(5,.mon,true),(6,.entry,true),(7,.entry,true)],kr:=1}),(337,1005003,{n:=210,tm:=[(7,.lp 0 0),(14,.lp 1 0),(22,.lp 2 0)],lo:=[(0,[.sl 0 [],.sl 1 [],.sl 2 [],.sl 3 []]),(1,[.sl 4 [],.sl 5 [],.sl 6 [],.sl 7 []]),(2,[ti,ti])],ro:=[(0,.sl .int,true),(1,.mon,true),(2,.entry,true),(3,.entry,true),(4,.sl .int,true),(5,.mon,true),(6,.entry,true),(7,.entry,true)],kr:=1})]
def zM7 (N:Nat)(a:ac)(b c:Int)(d e:Int)(f:Bool):zQL (cQ zmR zoh zYL zZv) zsk N 12 337 [true,true,true,true,false,false,false,false,false,false] [(4,2)] 1 1 [[0],[1],[2],[4],[7]] .mon [aH a,aS .entry a.am,aI b,aI c,aI d,aI e,aB f]=zqr N a a.am b c d e f:=by kernel_rfl
def zM8 (N:Nat)(a:ac)(b c:Int)(d e:Int)(f:Bool):zQL (cQ zmR zoh zYL zZv) zsk N 12 337 [true,true,true,true,false,false,false,false,false,false] [(4,3)] 1 1 [[0],[1],[2],[4],[7]] .mon [aH a,aS .entry a.ak,aI b,aI c,aI d,aI e,aB f]=zqr N a a.ak b c d e f:=by kernel_rfl
def zC6 {N:Nat}{r:ac}{m g a:Int}{b:Bool}{z1 z2 z3 z4}(c:r.am.length<=1048576)(d:r.ak.length<=1048576) :
 zpC N a b (ze2 m g) (zeo (zcC r m g) a).af (zeo (zcC r m g) a).aj r.ag r.aa r.am r.ak z1 z2 z3 z4=some (zNg<|zh4 r m g a b):=by
 unfold zpC oN
 conv=>zeta
 refine shr ?_;cases b
 .exact zek rfl (j0 (zbS c) rfl)
 .exact j0 rfl (j0 (zbS d) rfl)
def zRQ {N:Nat}{r:ac}{m g a b q:Int}{c:Bool}{R:OA}{r11}{u6 u7 u8 u9 u10 z1 z2 z3 z4}(A:LookAt r m g q b)(d:r11 (a,c,u6,u7,u8,u9,u10,(zeo (zcC (zdQ (D0 r m q b) m g a) m g) a).af,(zeo (zcC (zdQ (D0 r m q b) m g a) m g) a).aj,(zdQ (D0 r m q b) m g a).ag,(zdQ (D0 r m q b) m g a).aa,(zdQ (D0 r m q b) m g a).am,(zdQ (D0 r m q b) m g a).ak,z1,z2,z3,z4,())=R) :
 zrQ N r.ag r.aa r.am r.ak m q b g a r11 c u6 u7 u8 u9 u10 z1 z2 z3 z4=R:=by
 have M:=zDf A.kp A.hm A.hg;have F:=zDf (A.fill a) A.hm A.hg;unfold zrQ oN
 conv=>zeta
 exact j0 (zbS A.mend) (j0 (zF M.hm)<|j0 (zF M.hm)<|j0 (zF M.ht)<|j0 (zF M.hm)<|j0 (zF M.hg)<|j0 (zF M.hm)<|j0 (zbS M.hk)<|j0 (zF M.ht)<|shr<|j0 (zF F.hm)<|j0 (zF F.ht)<|j0 (zbS F.hk) d)
def z8L {r:ac}{m g a b:Int}(h:zgy (zcC r m g) a=false):zeY r m g a b=true:=by unfold zeY;rw[h];rfl
def z8M {r:ac}{m g a b:Int}(h:ieq (zeo (zcC r m g) a).af (-1)=true):zeY r m g a b=true:=by unfold zeY;rw[h];cases zgy (zcC r m g) a<;>rfl
def z8N {r:ac}{m g a b:Int}(h:enough (zeo (zcC r m g) a).aj b=false):zeY r m g a b=true:=by unfold zeY;rw[h];cases zgy (zcC r m g) a<;>cases ieq (zeo (zcC r m g) a).af (-1)<;>rfl
def z8O {r:ac}{m g a b:Int}(c:zgy (zcC r m g) a=true)(d:ieq (zeo (zcC r m g) a).af (-1)=false)(e:enough (zeo (zcC r m g) a).aj b=true):zeY r m g a b=false:=by unfold zeY;rw[c,d,e];rfl
def zM2 {r:ac}{m g a b q:Int}{c:Bool}(h:zeY r m g a b=true):(cond (zeY r m g a b) (zh4 (zdQ (D0 r m q b) m g a) m g a c)<|zh4 r m g a c)=zh4 (zdQ (D0 r m q b) m g a) m g a c:=by rw[h];rfl
def z8c {r:ac}{m g a b q:Int}{c:Bool}(h:zeY r m g a b=false):(cond (zeY r m g a b) (zh4 (zdQ (D0 r m q b) m g a) m g a c)<|zh4 r m g a c)=zh4 r m g a c:=by rw[h];rfl
def zC7 {N:Nat}{r:ac}{m g a b q:Int}{f:Bool}{u7 u8 u9 u10 z1 z2 z3 z4}(A:LookAt r m g q b) :
 zlx N m g a b f q (ze2 m g) u7 u8 u9 u10 r.ag r.aa r.am r.ak z1 z2 z3 z4=some (zNg<|cond (zeY r m g a b) (zh4 (zdQ (D0 r m q b) m g a) m g a f)<|zh4 r m g a f):=by
 have M:=zDf ⟨A.fit.1,rfl⟩ A.hm A.hg;have F:=zDf (A.fill a) A.hm A.hg;unfold zlx oN nB
 conv=>zeta
 refine j0 (zF M.hm) (j0 (zF M.ht)<|j0 (zbS M.hk)<|shr<|brN (λc=>?_) λc=>br (λd=>?_) λd=>j0 rfl (brN (λe=>?_) λe=>?_))
 .rw [zM2<|z8L c];exact zRQ A (zC6 (r:=zdQ (D0 r m q b) m g a) (m:=m) (g:=g) F.hb F.hi)
 .rw [zM2<|z8M d];exact zRQ A (zC6 (r:=zdQ (D0 r m q b) m g a) (m:=m) (g:=g) F.hb F.hi)
 .rw [zM2<|z8N e];exact zRQ A (zC6 (r:=zdQ (D0 r m q b) m g a) (m:=m) (g:=g) F.hb F.hi)
 .rw [z8c<|z8O c d e];exact zC6 (r:=r) (m:=m) (g:=g) M.hb M.hi
def zWy {b:List aq}{m g a c:Int}(h:(zrl b m g a).isSome=false):zhj b m g a c=false:=by unfold zhj;rw[h];rfl
def zDa {b:List aq}{m g a c:Int}{x:Bool}(d:(zrl b m g a).isSome=true)(h:enough ((zrl b m g a).getD ⟨0,0,0,0⟩).aj c=x):zhj b m g a c=x:=by unfold zhj;rw[d,h];rfl
def zDe {r:ac}{b:List aq}{m g a c q:Int}{d:Bool}(h:zhj b m g a c=false):zgL r b m g a c q d=bif zeY r m g a c then zh4 (zdQ (D0 r m q c) m g a) m g a d else zh4 r m g a d:=by unfold zgL;rw[h];rfl
def zWO {r:ac}{b:List aq}{m g a c q:Int}{d:Bool}(h:zhj b m g a c=true):zgL r b m g a c q d=(r,((zrl b m g a).getD ⟨0,0,0,0⟩).ac,true):=by unfold zgL;rw[h];rfl
def zS3 {h:ac}{b:List aq}{m g c a:Int}{d:Bool}(e:zca h m g c a=true):lookOf h b m g c a d=zgL (cond (ieq a 2) (zbH h m<|zcO (zc4 h m g) c a) h) b m g c a (zcO (zc4 h m g) c a) d:=by unfold lookOf;rw[e];rfl
def z0q {N:Nat}{r:ac}{b:List aq}{m g c a:Int}{f:Bool}(p:SmH r)(hg:zbX r m g=true)(k:zj4 a=true) :
 zrR N m r g c a b f=some (zNg (lookOf r b m g c a f)):=by
 obtain⟨q,h,l⟩:=zdM hg;unfold zrR oN nB
 conv=>zeta
 refine j0 (zF h) (j0 (zF l) (j0 rfl (brN (fun j=>?_) (fun j=>j0 rfl ?_))))
 .have:zca r m g c a=false:=by
   unfold zca;rw[hg,k,show zfN (zc4 r m g) c a=false from j];rfl
  rw[znG this];rfl
 .have hl:zca r m g c a=true:=by
   unfold zca;rw[hg,k,show zfN (zc4 r m g) c a=true from j];rfl
  obtain⟨A,B⟩:=zOG p hl;rw[zS3 hl];have n:i0 (zcO (zc4 r m g) c a) (ln (ix r.aa m mZ).av)=true:=zdN (zcG A.fit.1 h).2.2.2.1 A.hq;refine br (fun i=>?_) (fun i=>?_)
  .rw [i]
   show _=some (zNg (zgL (zbH r m (zcO (zc4 r m g) c a)) b m g c a (zcO (zc4 r m g) c a) f))
   refine j0 (zF h) (j0 (zF n) (shr (j0 rfl (shr (br (fun d=>j0 rfl (br (fun e=>?_) (fun e=>?_))) (fun d=>?_))))))
   .rw [zWO (zDa d e)];rfl
   .rw [zDe (zDa d e)];exact zC7 (r:=zbH r m (zcO (zc4 r m g) c a)) B
   .rw [zDe (zWy d)];exact zC7 (r:=zbH r m (zcO (zc4 r m g) c a)) B
  .rw [i]
   show _=some (zNg (zgL r b m g c a (zcO (zc4 r m g) c a) f))
   refine j0 rfl (shr (br (fun d=>j0 rfl (br (fun e=>?_) (fun e=>?_))) (fun d=>?_)))
   .rw [zWO (zDa d e)];rfl
   .rw [zDe (zDa d e)];exact zC7 A
   .rw [zDe (zWy d)];exact zC7 A
def zQh (a:ac)(f:List aq)(b c:Int)(e d:Int)(g:Bool)(t:zbY big [aH a,aS .entry f,aI b,aI c,aI e,aI d,aB g])(r:zkC a f b c e d g=true):∃N,zqr N a f b c e d g=some [aH<|zfs a f b c e d g,aI<|zkB a f b c e d g,aB<|zhg a f b c e d g]:=by
 have j:=(zbd a).1 (zS.1 r);refine⟨0,?_⟩;show _=some (zNg<|lookOf a f b c e d g);unfold zqr oN nB;conv=>zeta
 refine j0 rfl (brN (λk=>?_) λk=>j0 rfl ?_);{rw [znG<|zB1<|z7V k];rfl};rw[show zk b 0 (wsub .i64 (ln a.aa) 1)=i0 b (ln a.aa) from zqp j.2.1.1 b];refine brN (λi=>?_) (λi=>j0 (zF i) (j0 rfl ?_));{rw [znG<|zB1<|z7W i];rfl};have s:(ix a.aa b mZ).ad.length<=1048576:=(j.2.1.2 _<|zbD i _).2.2.2.1.1;rw[show zk c 0 (wsub .i64 (ln (ix a.aa b zh).ad) 1)=i0 c (ln (ix a.aa b mZ).ad) from zqp s c];refine brN (λl=>?_) (λl=>?_);{rw [znG<|zB1<|z7X l];rfl};have hg:=z7Y k i l;have p:∀{n:Int},zj4 n=false->zca a b c e n=false:=λ{n} h=>(by unfold zca;rw[hg,h];rfl);rw[zDd,zDd];cases m:ieq d 1;{cases q:ieq d 2;{have:zj4 d=false:=(by unfold zj4;rw[m,q];rfl);rw[znG<|p this];rfl};{exact z0q j hg (by unfold zj4;rw[m,q];rfl)}};{exact z0q j hg (by unfold zj4;rw[m];rfl)}
def zJD:zdT Tryz.prog 337 [true,true,true,true,false,false,false,false,false,false] (some (1,1,[[0],[1],[2],[4],[7]])) zr9:=by refine zLz (kt:=.mon) (zf3 ziq zD zcy zNr) (zhJ (by kernel_rfl)) ?_;intro p s x f i w v h;have t:=zhq v;have g:p=[(4,2)]\/p=[(4,3)]:=(by rw[show zhW 337=[[(4,2)],[(4,3)]] from by kernel_rfl]at f;simpa using f);unfold zr9 at h;split at h;{rename_i a b c d r j k l m n;obtain⟨u,rfl⟩:=zef h;obtain⟨N,q⟩:=zQh (⟨a,b,c,d⟩:ac) r j k l m n t u;refine⟨⟨_,rfl⟩,rfl,zsk,N,12,?_⟩;rcases g with rfl|rfl;{have e:=i 4 2 (by simp);simp only[zq,j9,AV.cvs] at e;cases e;exact(zM7 N (⟨a,b,c,d⟩:ac) j k l m n).trans q};{have e:=i 4 3 (by simp);simp only[zq,j9,AV.cvs] at e;cases e;exact(zM8 N (⟨a,b,c,d⟩:ac) j k l m n).trans q}};{cases h}
def z4I:zfu:=[(337,[true,true,true,true,false,false,false,false,false,false],some (1,1,[[0],[1],[2],[4],[7]]),zr9)]++zZv
def zjh:zen z4I:=zny zNr (by
 intro x a;simp only[qG,qO,or_false]at a;rcases a with rfl
 .exact zJD)
def gOf (h:ac)(m g:Int):ah:=ix (ix h.aa m mZ).ad g gZ
def zkH (h:ac)(m g:Int)(x:ah):ac:={h with aa:=up h.aa m {ix h.aa m mZ with ad:=up (ix h.aa m mZ).ad g x}}
def zmT (h:ac)(m g:Int)(x:ah)(w:Bool):ac×Int×Bool:=lookOf h h.am m g (zbm<|F0 x) (zch w) false
def zhI (L:ac×Int×Bool)(m g:Int)(x:ah)(w:Bool):ac :=
 bif L.2.2 then (cond w (zkH {L.1 with ag:=zbM L.1.ag L.2.1 (zdp<|F0 x) x.A} m g<|zcn x)<|zkH L.1 m g<|loaded x<|cellAt L.1.ag L.2.1<|zdp<|F0 x)
 else zkH L.1 m g (stopped x<|zrj (zbm<|F0 x) w)
def owned (h:ac)(m:Int):ac:=bif ilt (ix h.aa m mZ).Own 1000000000 then {h with aa:=up h.aa m {ix h.aa m mZ with Own:=zK .i64 (ix h.aa m mZ).Own 1}} else h
def zk7 (h:ac)(m n:Int):ac:=bif ilt (ln (ix h.aa m mZ).Outs) 40 then {h with aa:=up h.aa m {ix h.aa m mZ with Outs:=ap (ix h.aa m mZ).Outs [n]}} else h
def zfk (h:ac)(m:Int)(x:ah)(w:Int):ac:=bif (cond (ine w 6) (ieq (zv3 (ix h.aa m mZ).ar x.Ctl.ar<|zui w) 2) false) then owned h m else h
def zgt (h:ac)(m:Int)(x:ah)(w:Int):ac:=bif (cond (zjZ x.Ctl.ar w) (ieq w 5) false) then zk7 h m (zcB x.az x.Pc).X else h
def zre (h:ac)(m g:Int)(x:ah)(w:Int):ac:=zkH (zgt (zfk h m x w) m x w) m g (zjY x x.Ctl.ar w)
def zKT (h:ac)(m g:Int)(x:ah)(w:Int):ac×Bool :=
 bif ieq w 0 then (h,false) else (bif ieq w 1 then (zkH h m g<|interrupted x,true) else (bif ieq w 2 then (zkH h m g<|plainly x,true) else
  (cond (cond (ieq w 3) true<|ieq w 4) (zhI (zmT h m g x<|ieq w 4) m g x<|ieq w 4,true) (zre h m g x w,true))))
def zco (h:ac)(m g:Int):ac×Bool:=bif zbX h m g then zKT h m g (gOf h m g) (zbc<|gOf h m g) else (h,false)
def zf5 (x:ac×Bool):LA:=[.agg<|zbo x.1,.one<|.b x.2]
def zpr {h:ac}{m g:Int}(b:SmH h)(a:i0 m (ln h.aa)=true)(hg:i0 g (ln (ix h.aa m mZ).ad)=true):SmG (gOf h m g):=(b.2.1.2 _<|zbD a _).2.2.2.1.2 _ (zbD hg _)
def zZi {h:ac}{m g:Int}{x:ah}(c:Shape h)(d:i0 m (ln h.aa)=true)(e:SmG x):Shape (zkH h m g x):=by obtain⟨a,b⟩:=zcG c d;exact ziE c ⟨a.1,a.2.1,a.2.2.1,zDp a.2.2.2.1 e,a.2.2.2.2⟩ ⟨b.1,b.2.1,b.2.2.1,by simpa using b.2.2.2⟩
def zJ4 {h:ac}{m:Int}(b:i0 m (ln h.aa)=true)(x:Mon):ix (up h.aa m x) m mZ=x:=by obtain⟨k,rfl,a⟩:=zdY (n:=h.aa.length) b;exact zd8 a _ _
@[simp] abbrev zcM (h:ac)(m g:Int):ac:=(zco h m g).1
@[simp] abbrev zcN (h:ac)(m g:Int):Bool:=(zco h m g).2
def z6f {a:Type}{l:List a}{x:a}(h:ilt (ln l) 40=true):few (ln<|ap l [x])=true:=by have:=qD h;simp only[ln] at this;exact zgZ (by simp[ap];omega)
def zXg {h:ac}{m:Int}{x:ah}{w:Int}(a:(cond (zjZ x.Ctl.ar w) (ieq w 5) false)=false):zgt h m x w=h:=by unfold zgt;rw[a];rfl
def zO9 {h:ac}{m:Int}{x:ah}{w:Int}(a:ilt (ln (ix h.aa m mZ).Outs) 40=false):zgt h m x w=h:=by unfold zgt zk7;rw[a];cases (cond (zjZ x.Ctl.ar w) (ieq w 5) false)<;>rfl
def zUi {h:ac}{m:Int}{x:ah}{w:Int}(a:zjZ x.Ctl.ar w=true)(b:ieq w 5=true)(c:ilt (ln (ix h.aa m mZ).Outs) 40=true):zgt h m x w={h with aa:=up h.aa m {ix h.aa m mZ with Outs:=ap (ix h.aa m mZ).Outs [(zcB x.az x.Pc).X]}}:=by unfold zgt zk7;rw[a,b,c];rfl
def z19 {h:ac}{m:Int}{x:ah}{w:Int}(a:zjZ x.Ctl.ar w=false):zgt h m x w=h:=zXg (by rw[a];rfl)
def zKZ {h:ac}{m:Int}{x:ah}{w:Int}(a:ieq w 5=false):zgt h m x w=h:=zXg (by rw[a];cases zjZ x.Ctl.ar w<;>rfl)
def z0H (a:Int):(cond (ieq a a) true false)=true:=by rw[ztF];rfl
def zmc {h:ac}{m g:Int}(a:zbX h m g=false):zco h m g=(h,false):=by unfold zco;rw[a];rfl
def zjX {h:ac}{m g:Int}(a:zbX h m g=true):zco h m g=zKT h m g (gOf h m g) (zbc<|gOf h m g):=by unfold zco;rw[a];rfl
def zmf {a b:Bool}(h:(cond a b false)=true):a=true/\b=true:=by cases a;{cases h};{exact⟨rfl,h⟩}
def ziH {a b:Bool}(c:a=true)(d:b=true):(cond a b false)=true:=by rw[c];exact d
def zXj {h:ac}{m:Int}{x:ah}{w:Int}(b:ine w 6=true)(a:ieq (zv3 (ix h.aa m mZ).ar x.Ctl.ar<|zui w) 2=true)(c:ilt (ix h.aa m mZ).Own 1000000000=true):zfk h m x w={h with aa:=up h.aa m {ix h.aa m mZ with Own:=zK .i64 (ix h.aa m mZ).Own 1}}:=by unfold zfk owned;rw[b,a,c];rfl
def zXh {h:ac}{m:Int}{x:ah}{w:Int}(a:ieq (zv3 (ix h.aa m mZ).ar x.Ctl.ar<|zui w) 2=false):zfk h m x w=h:=by unfold zfk;rw[a];cases ine w 6<;>rfl
def zXi {h:ac}{m:Int}{x:ah}{w:Int}(a:ilt (ix h.aa m mZ).Own 1000000000=false):zfk h m x w=h:=by unfold zfk owned;rw[a];cases (cond (ine w 6) (ieq (zv3 (ix h.aa m mZ).ar x.Ctl.ar<|zui w) 2) false)<;>rfl
def z8Q {h:ac}{m:Int}{x:ah}:zfk h m x 6=h:=rfl
def znz {h a:ac}{m g:Int}{x:ah}{w:Int}(e:zfk h m x w=a):zre h m g x w=zkH (zgt a m x w) m g (zjY x x.Ctl.ar w):=by unfold zre;rw[e]
def z4K (x:ah):ieq (zbc x) 0=true\/ieq (zbc x) 1=true\/ieq (zbc x) 2=true\/ieq (zbc x) 3=true\/ieq (zbc x) 4=true\/ieq (zbc x) 5=true\/ieq (zbc x) 6=true\/ieq (zbc x) 7=true:=by cases a:ieq (zbc x) 0;{cases b:ieq (zbc x) 1;{cases c:ieq (zbc x) 2;{cases d:ieq (zbc x) 3;{cases e:ieq (zbc x) 4;{cases f:ieq (zbc x) 5;{cases g:ieq (zbc x) 6;{exact .inr (.inr<|.inr<|.inr<|.inr<|.inr<|.inr<|zbaC x a b c d e f g)};{exact .inr (.inr<|.inr<|.inr<|.inr<|.inr (.inl rfl))}};{exact .inr (.inr<|.inr<|.inr<|.inr (.inl rfl))}};{exact .inr (.inr<|.inr<|.inr (.inl rfl))}};{exact .inr (.inr<|.inr (.inl rfl))}};{exact .inr (.inr (.inl rfl))}};{exact .inr (.inl rfl)}};{exact .inl rfl}
abbrev zAd (x:ah):Bool:=bif zbN x then ieq (zbc x) 0 else false
def zoE:LW
 |[.agg [.s .ins c,.i .i64 d,.i .i64 e,.s .slot f,.s .slot g,.i .i64 h,.i .i64 j,.b k,.i .i64 l,.i .i64 m,.i .i64 n,.b o,.i .i64 p,.b q,.s .int r]]=>some (zAd (⟨c,d,e,f,g,⟨h,j,k⟩,l,⟨m,n,o,p⟩,q,r⟩:ah),[.one<|.i .i64 0])
 |_=>none
def zDJ:vU 259 zoE:=by refine⟨zcr.1,λw b g j a h=>?_⟩;unfold zoE at h;split at h;{obtain⟨f,rfl⟩:=zef h;obtain⟨d,e⟩:=zmf f;exact zcr.2 w _ g _ a (congr (congrArg (λc v=>some (c,[AV.one<|CV.i .i64 v])) d) (qD e))};{cases h}
def z7u:zbf:=[(259,zoE)]++zmR
def zXN:zN z7u:=zi zDJ ziq
@[simp] abbrev zvo (h:ac)(m g:Int):Bool:=bif zdk h m g then ieq (zbc<|gOf h m g) 0 else false
def zD8:Run:=rF3 dH dI dI λb c d=>(zvo b c d,[aH<|zcM b c d,aB<|zcN b c d])
def zuo (N:Nat)(d:ac)(b c:Int):OA:=
 let a:=zo d;let e:=(ix a.aa b zh).ad; (oN (zby d)<|oN (zdk a b c)<|cond (nB<|zjd a b c) (some [aH a,aB false])<|oN (inb b<|ln a.aa)<|oN (inb c<|ln e)<|oN (zAd<|ix e c zI)<|some [aH a,aB false])
abbrev zAe (x:ah):Bool:=bif zbN x then ieq (zbc x) 1 else false
def zoF:LW
 |[.agg [.s .ins c,.i .i64 d,.i .i64 e,.s .slot f,.s .slot g,.i .i64 h,.i .i64 j,.b k,.i .i64 l,.i .i64 m,.i .i64 n,.b o,.i .i64 p,.b q,.s .int r]]=>some (zAe (⟨c,d,e,f,g,⟨h,j,k⟩,l,⟨m,n,o,p⟩,q,r⟩:ah),[.one<|.i .i64 1])
 |_=>none
def zDK:vU 259 zoF:=by refine⟨zcr.1,λw b g j a h=>?_⟩;unfold zoF at h;split at h;{obtain⟨f,rfl⟩:=zef h;obtain⟨d,e⟩:=zmf f;exact zcr.2 w _ g _ a (congr (congrArg (λc v=>some (c,[AV.one<|CV.i .i64 v])) d) (qD e))};{cases h}
def z7v:zbf:=[(259,zoF)]++zmR
def zXO:zN z7v:=zi zDK ziq
@[simp] abbrev zvp (h:ac)(m g:Int):Bool:=bif zdk h m g then ieq (zbc<|gOf h m g) 1 else false
def zD9:Run:=rF3 dH dI dI λb c d=>(zvp b c d,[aH<|zcM b c d,aB<|zcN b c d])
def zup (N:Nat)(f:ac)(b c:Int):OA:=
 let a:=zo f;let d:=ix a.aa b zh;let e:=ix d.ad c zI; (oN (zby f)<|oN (zdk a b c)<|cond (nB<|zjd a b c) (some [aH a,aB false])<|oN (inb b<|ln a.aa)<|oN (inb c<|ln d.ad)<|oN (zAe e)<|oN (inb b<|ln a.aa)<|oN (zb9 e)<|oN (inb c<|ln d.ad)<|p0 (up a.aa b ({d with ad:=(up d.ad c<|zka e)}:Mon)) λg=>some [aH ({a with aa:=g}:ac),aB true])
abbrev zAf (x:ah):Bool:=bif zbN x then ieq (zbc x) 2 else false
def zoG:LW
 |[.agg [.s .ins c,.i .i64 d,.i .i64 e,.s .slot f,.s .slot g,.i .i64 h,.i .i64 j,.b k,.i .i64 l,.i .i64 m,.i .i64 n,.b o,.i .i64 p,.b q,.s .int r]]=>some (zAf (⟨c,d,e,f,g,⟨h,j,k⟩,l,⟨m,n,o,p⟩,q,r⟩:ah),[.one<|.i .i64 2])
 |_=>none
def zDL:vU 259 zoG:=by refine⟨zcr.1,λw b g j a h=>?_⟩;unfold zoG at h;split at h;{obtain⟨f,rfl⟩:=zef h;obtain⟨d,e⟩:=zmf f;exact zcr.2 w _ g _ a (congr (congrArg (λc v=>some (c,[AV.one<|CV.i .i64 v])) d) (qD e))};{cases h}
def z7w:zbf:=[(259,zoG)]++zmR
def zXP:zN z7w:=zi zDL ziq
@[simp] abbrev zvq (h:ac)(m g:Int):Bool:=bif zdk h m g then ieq (zbc<|gOf h m g) 2 else false
def zEa:Run:=rF3 dH dI dI λb c d=>(zvq b c d,[aH<|zcM b c d,aB<|zcN b c d])
def zuq (N:Nat)(f:ac)(b c:Int):OA:=
 let a:=zo f;let d:=ix a.aa b zh;let e:=ix d.ad c zI; (oN (zby f)<|oN (zdk a b c)<|cond (nB<|zjd a b c) (some [aH a,aB false])<|oN (inb b<|ln a.aa)<|oN (inb c<|ln d.ad)<|oN (zAf e)<|oN (inb b<|ln a.aa)<|oN (zb9 e)<|oN (inb c<|ln d.ad)<|p0 (up a.aa b ({d with ad:=(up d.ad c<|zrJ e)}:Mon)) λg=>some [aH ({a with aa:=g}:ac),aB true])
abbrev zAg (x:ah):Bool:=bif zbN x then ieq (zbc x) 3 else false
def zoH:LW
 |[.agg [.s .ins c,.i .i64 d,.i .i64 e,.s .slot f,.s .slot g,.i .i64 h,.i .i64 j,.b k,.i .i64 l,.i .i64 m,.i .i64 n,.b o,.i .i64 p,.b q,.s .int r]]=>some (zAg (⟨c,d,e,f,g,⟨h,j,k⟩,l,⟨m,n,o,p⟩,q,r⟩:ah),[.one<|.i .i64 3])
 |_=>none
def zDM:vU 259 zoH:=by refine⟨zcr.1,λw b g j a h=>?_⟩;unfold zoH at h;split at h;{obtain⟨f,rfl⟩:=zef h;obtain⟨d,e⟩:=zmf f;exact zcr.2 w _ g _ a (congr (congrArg (λc v=>some (c,[AV.one<|CV.i .i64 v])) d) (qD e))};{cases h}
def z7x:zbf:=[(259,zoH)]++zmR
def zXQ:zN z7x:=zi zDM ziq
@[simp] abbrev zvr (h:ac)(m g:Int):Bool:=bif zdk h m g then ieq (zbc<|gOf h m g) 3 else false
def zEb:Run:=rF3 dH dI dI λb c d=>(zvr b c d,[aH<|zcM b c d,aB<|zcN b c d])
def zur (N:Nat)(m:ac)(a b:Int):OA:=
 let c:=zo m;let n:=(ix c.aa a zh).ad;let h:=ix n b zI;let f:=zjl h;let g:=zc5 f;let l:=zkB c c.am a b g (zfH false) false;let d:=zfs c c.am a b g (zfH false) false;let e:=ix d.aa a zh;let j:=ix e.ad b zI;let i:=({h with az:=j.az,aA:=j.aA,ay:=j.ay,aC:=j.aC}:ah); (oN (zby m)<|oN (zdk c a b)<|cond (nB<|zjd c a b) (some [aH c,aB false])<|oN (inb a<|ln c.aa)<|oN (inb b<|ln n)<|oN (zAg h)<|oN (zbN h)<|oN (zdB f)<|oN (zsJ false)<|oN (zkC c c.am a b g (zfH false) false)<|cond (nB<|zhg c c.am a b g (zfH false) false) (oN (inb a<|ln d.aa)<|oN (zdB f)<|oN (zj8 g false)<|oN (zey i<|zfn g false)<|oN (inb b<|ln e.ad)<|p0 (up d.aa a ({e with ad:=(up e.ad b<|zdW i<|zfn g false)}:Mon)) λk=>some [aH ({d with aa:=k}:ac),aB true])<|oN (inb a<|ln d.aa)<|oN (zdB f)<|oN (zif d.ag l<|zeE f)<|oN (zyZ i<|znn d.ag l<|zeE f)<|oN (inb b<|ln e.ad)<|p0 (up d.aa a ({e with ad:=(up e.ad b<|zt5 i<|znn d.ag l<|zeE f)}:Mon)) λk=>some [aH ({d with aa:=k}:ac),aB true])
abbrev zAh (x:ah):Bool:=bif zbN x then ieq (zbc x) 4 else false
def zoI:LW
 |[.agg [.s .ins c,.i .i64 d,.i .i64 e,.s .slot f,.s .slot g,.i .i64 h,.i .i64 j,.b k,.i .i64 l,.i .i64 m,.i .i64 n,.b o,.i .i64 p,.b q,.s .int r]]=>some (zAh (⟨c,d,e,f,g,⟨h,j,k⟩,l,⟨m,n,o,p⟩,q,r⟩:ah),[.one<|.i .i64 4])
 |_=>none
def zDN:vU 259 zoI:=by refine⟨zcr.1,λw b g j a h=>?_⟩;unfold zoI at h;split at h;{obtain⟨f,rfl⟩:=zef h;obtain⟨d,e⟩:=zmf f;exact zcr.2 w _ g _ a (congr (congrArg (λc v=>some (c,[AV.one<|CV.i .i64 v])) d) (qD e))};{cases h}
def z7y:zbf:=[(259,zoI)]++zmR
def zXR:zN z7y:=zi zDN ziq
@[simp] abbrev zvs (h:ac)(m g:Int):Bool:=bif zdk h m g then ieq (zbc<|gOf h m g) 4 else false
def zEc:Run:=rF3 dH dI dI λb c d=>(zvs b c d,[aH<|zcM b c d,aB<|zcN b c d])
def zus (N:Nat)(l:ac)(a b:Int):OA:=
 let c:=zo l;let n:=(ix c.aa a zh).ad;let g:=ix n b zI;let h:=zjl g;let f:=zc5 h;let m:=zkB c c.am a b f (zfH true) false;let d:=zfs c c.am a b f (zfH true) false;let e:=ix d.aa a zh;let j:=ix e.ad b zI;let i:=({g with az:=j.az,aA:=j.aA,ay:=j.ay,aC:=j.aC}:ah); (oN (zby l)<|oN (zdk c a b)<|cond (nB<|zjd c a b) (some [aH c,aB false])<|oN (inb a<|ln c.aa)<|oN (inb b<|ln n)<|oN (zAh g)<|oN (zbN g)<|oN (zdB h)<|oN (zsJ true)<|oN (zkC c c.am a b f (zfH true) false)<|cond (nB<|zhg c c.am a b f (zfH true) false) (oN (inb a<|ln d.aa)<|oN (zdB h)<|oN (zj8 f true)<|oN (zey i<|zfn f true)<|oN (inb b<|ln e.ad)<|p0 (up d.aa a ({e with ad:=(up e.ad b<|zdW i<|zfn f true)}:Mon)) λk=>some [aH ({d with aa:=k}:ac),aB true])<|oN (zdB h)<|oN (zlk d.ag m (zeE h) g.A)<|oN (inb a<|ln d.aa)<|oN (zb9 i)<|oN (inb b<|ln e.ad)<|p0 (up d.aa a ({e with ad:=(up e.ad b<|zeR i)}:Mon)) λk=>some [aH ({d with ag:=(zjP d.ag m (zeE h) g.A),aa:=k}:ac),aB true])
abbrev zAi (x:ah):Bool:=bif zbN x then ieq (zbc x) 5 else false
def zoJ:LW
 |[.agg [.s .ins c,.i .i64 d,.i .i64 e,.s .slot f,.s .slot g,.i .i64 h,.i .i64 j,.b k,.i .i64 l,.i .i64 m,.i .i64 n,.b o,.i .i64 p,.b q,.s .int r]]=>some (zAi (⟨c,d,e,f,g,⟨h,j,k⟩,l,⟨m,n,o,p⟩,q,r⟩:ah),[.one<|.i .i64 5])
 |_=>none
def zDO:vU 259 zoJ:=by refine⟨zcr.1,λw b g j a h=>?_⟩;unfold zoJ at h;split at h;{obtain⟨f,rfl⟩:=zef h;obtain⟨d,e⟩:=zmf f;exact zcr.2 w _ g _ a (congr (congrArg (λc v=>some (c,[AV.one<|CV.i .i64 v])) d) (qD e))};{cases h}
def z7z:zbf:=[(259,zoJ)]++zmR
def zXS:zN z7z:=zi zDO ziq
@[simp] abbrev zvt (h:ac)(m g:Int):Bool:=bif zdk h m g then ieq (zbc<|gOf h m g) 5 else false
def zEd:Run:=rF3 dH dI dI λb c d=>(zvt b c d,[aH<|zcM b c d,aB<|zcN b c d])
def zut (N:Nat)(x:ac)(a e:Int):OA:=
 let d:=zo x;let f:=inb a<|ln d.aa;let g:=ix d.aa a zh;let j:=inb e<|ln g.ad;let c:=ix g.ad e zI;let w:=ap g.Outs [(zf8 c.az c.Pc).X];let s:=up d.aa a ({g with Outs:=w}:Mon);let h:=c.Ctl.ar;let v:=up d.aa a ({g with ad:=(up g.ad e<|zcp c h 5)}:Mon); (oN (zby x)<|oN (zdk d a e)<|cond (nB<|zjd d a e) (some [aH d,aB false])<|oN f<|oN j<|oN (zAi c)<|oN f<|oN (zqV g.ar h 1)<|cond (ieq (znN g.ar h 1) 2) (oN f<|cond (ilt g.Own 1000000000) (oN f<|oN f<|p0 (up d.aa a ({g with Own:=(zK .i64 g.Own 1)}:Mon)) (λb=>let k:=inb a<|ln b;let l:=ix b a zh;let q:=ix l.ad e zI;let t:=ap l.Outs [(zf8 q.az c.Pc).X];let u:=({c with az:=q.az,aA:=q.aA,ay:=q.ay,aC:=q.aC}:ah);let r:=up b a ({l with ad:=(up l.ad e<|zcp u h 5)}:Mon); (oN (zed u h 5)<|cond (zdG u h 5) (oN k<|cond (ilt (ln l.Outs) 40) (oN k<|oN (zfV q.az c.Pc)<|oN (few<|ln t)<|oN k<|oN (cond (ieq a a) true false)<|p0 (up b a ({l with Outs:=t}:Mon)) (λi=>let m:=ix i a zh; (oN (inb a<|ln i)<|oN (inb e<|ln m.ad)<|p0 (up i a ({m with ad:=(up m.ad e<|zcp u h 5)}:Mon)) λy=>some [aH ({d with aa:=y}:ac),aB true])))<|oN k<|oN (inb e<|ln l.ad)<|p0 r λi=>some [aH ({d with aa:=i}:ac),aB true])<|oN k<|oN (inb e<|ln l.ad)<|p0 r λi=>some [aH ({d with aa:=i}:ac),aB true])))<|oN (zed c h 5)<|cond (zdG c h 5) (oN f<|cond (ilt (ln g.Outs) 40) (oN f<|oN (zfV c.az c.Pc)<|oN (few<|ln w)<|oN f<|oN (cond (ieq a a) true false)<|p0 s (λb=>let n:=ix b a zh; (oN (inb a<|ln b)<|oN (inb e<|ln n.ad)<|p0 (up b a ({n with ad:=(up n.ad e<|zcp c h 5)}:Mon)) λi=>some [aH ({d with aa:=i}:ac),aB true])))<|oN f<|oN j<|p0 v λb=>some [aH ({d with aa:=b}:ac),aB true])<|oN f<|oN j<|p0 v λb=>some [aH ({d with aa:=b}:ac),aB true])<|oN (zed c h 5)<|cond (zdG c h 5) (oN f<|cond (ilt (ln g.Outs) 40) (oN f<|oN (zfV c.az c.Pc)<|oN (few<|ln w)<|oN f<|oN (cond (ieq a a) true false)<|p0 s (λb=>let p:=ix b a zh; (oN (inb a<|ln b)<|oN (inb e<|ln p.ad)<|p0 (up b a ({p with ad:=(up p.ad e<|zcp c h 5)}:Mon)) λi=>some [aH ({d with aa:=i}:ac),aB true])))<|oN f<|oN j<|p0 v λb=>some [aH ({d with aa:=b}:ac),aB true])<|oN f<|oN j<|p0 v λb=>some [aH ({d with aa:=b}:ac),aB true])
abbrev zAj (x:ah):Bool:=bif zbN x then ieq (zbc x) 6 else false
def zoK:LW
 |[.agg [.s .ins c,.i .i64 d,.i .i64 e,.s .slot f,.s .slot g,.i .i64 h,.i .i64 j,.b k,.i .i64 l,.i .i64 m,.i .i64 n,.b o,.i .i64 p,.b q,.s .int r]]=>some (zAj (⟨c,d,e,f,g,⟨h,j,k⟩,l,⟨m,n,o,p⟩,q,r⟩:ah),[.one<|.i .i64 6])
 |_=>none
def zDP:vU 259 zoK:=by refine⟨zcr.1,λw b g j a h=>?_⟩;unfold zoK at h;split at h;{obtain⟨f,rfl⟩:=zef h;obtain⟨d,e⟩:=zmf f;exact zcr.2 w _ g _ a (congr (congrArg (λc v=>some (c,[AV.one<|CV.i .i64 v])) d) (qD e))};{cases h}
def z7A:zbf:=[(259,zoK)]++zmR
def zXT:zN z7A:=zi zDP ziq
@[simp] abbrev zvu (h:ac)(m g:Int):Bool:=bif zdk h m g then ieq (zbc<|gOf h m g) 6 else false
def zEe:Run:=rF3 dH dI dI λb c d=>(zvu b c d,[aH<|zcM b c d,aB<|zcN b c d])
def zuu (N:Nat)(i:ac)(c d:Int):OA:=
 let a:=zo i;let g:=inb c<|ln a.aa;let e:=ix a.aa c zh;let h:=inb d<|ln e.ad;let b:=ix e.ad d zI;let j:=up a.aa c ({e with ad:=(up e.ad d<|zcp b b.Ctl.ar 6)}:Mon); (oN (zby i)<|oN (zdk a c d)<|cond (nB<|zjd a c d) (some [aH a,aB false])<|oN g<|oN h<|oN (zAj b)<|oN (zed b b.Ctl.ar 6)<|cond (zdG b b.Ctl.ar 6) (oN g<|oN h<|p0 j λf=>some [aH ({a with aa:=f}:ac),aB true])<|oN g<|oN h<|p0 j λf=>some [aH ({a with aa:=f}:ac),aB true])
abbrev zAk (x:ah):Bool:=bif zbN x then ieq (zbc x) 7 else false
def zoL:LW
 |[.agg [.s .ins c,.i .i64 d,.i .i64 e,.s .slot f,.s .slot g,.i .i64 h,.i .i64 j,.b k,.i .i64 l,.i .i64 m,.i .i64 n,.b o,.i .i64 p,.b q,.s .int r]]=>some (zAk (⟨c,d,e,f,g,⟨h,j,k⟩,l,⟨m,n,o,p⟩,q,r⟩:ah),[.one<|.i .i64 7])
 |_=>none
def zDQ:vU 259 zoL:=by refine⟨zcr.1,λw b g j a h=>?_⟩;unfold zoL at h;split at h;{obtain⟨f,rfl⟩:=zef h;obtain⟨d,e⟩:=zmf f;exact zcr.2 w _ g _ a (congr (congrArg (λc v=>some (c,[AV.one<|CV.i .i64 v])) d) (qD e))};{cases h}
def z7B:zbf:=[(259,zoL)]++zmR
def zXU:zN z7B:=zi zDQ ziq
@[simp] abbrev zvv (h:ac)(m g:Int):Bool:=bif zdk h m g then ieq (zbc<|gOf h m g) 7 else false
def zEf:Run:=rF3 dH dI dI λb c d=>(zvv b c d,[aH<|zcM b c d,aB<|zcN b c d])
def zuv (N:Nat)(q:ac)(c e:Int):OA:=
 let a:=zo q;let g:=inb c<|ln a.aa;let f:=ix a.aa c zh;let k:=inb e<|ln f.ad;let h:=ix f.ad e zI;let d:=h.Ctl.ar;let l:=up a.aa c ({f with ad:=(up f.ad e<|zcp h d 7)}:Mon); (oN (zby q)<|oN (zdk a c e)<|cond (nB<|zjd a c e) (some [aH a,aB false])<|oN g<|oN k<|oN (zAk h)<|oN g<|oN (zqV f.ar d 2)<|cond (ieq (znN f.ar d 2) 2) (oN g<|cond (ilt f.Own 1000000000) (oN g<|oN g<|p0 (up a.aa c ({f with Own:=(zK .i64 f.Own 1)}:Mon)) (λb=>let j:=ix b c zh;let m:=ix j.ad e zI;let p:=({h with az:=m.az,aA:=m.aA,ay:=m.ay,aC:=m.aC}:ah);let i:=up b c ({j with ad:=(up j.ad e<|zcp p d 7)}:Mon); (oN (zed p d 7)<|cond (zdG p d 7) (oN (inb c<|ln b)<|oN (inb e<|ln j.ad)<|p0 i λn=>some [aH ({a with aa:=n}:ac),aB true])<|oN (inb c<|ln b)<|oN (inb e<|ln j.ad)<|p0 i λn=>some [aH ({a with aa:=n}:ac),aB true])))<|oN (zed h d 7)<|cond (zdG h d 7) (oN g<|oN k<|p0 l λb=>some [aH ({a with aa:=b}:ac),aB true])<|oN g<|oN k<|p0 l λb=>some [aH ({a with aa:=b}:ac),aB true])<|oN (zed h d 7)<|cond (zdG h d 7) (oN g<|oN k<|p0 l λb=>some [aH ({a with aa:=b}:ac),aB true])<|oN g<|oN k<|p0 l λb=>some [aH ({a with aa:=b}:ac),aB true])
def zDX (a:ac)(b c:Int)(e:zvo a b c=true):∃N,zuo N a b c=some [aH<|zcM a b c,aB<|zcN a b c]:=by
 obtain⟨e,i⟩:=zmf e;have f:=(zbd a).1 (zS.1 e);refine⟨0,?_⟩;show _=some (zf5<|zco a b c);unfold zuo oN nB;conv=>zeta
 refine j0 (zbS<|(zbd _).2 f) (j0 (zbS<|(zbd _).2 f)<|brN (λd=>?_) λd=>?_);{rw [zmc d];rfl};obtain⟨k,g,h⟩:=zdM d;have l:=zpr f g h;have j:zbc (gOf a b c)=0:=qD i;rw[zjX d,j];refine j0 (zF g) (j0 (zF h)<|j0 (ziH rfl i) ?_);rfl
def zpw:vU 108 zD8:=kF3 zXN zD zcy zjh (zy []) zDX
def zDY (a:ac)(b c:Int)(g:zvp a b c=true):∃N,zup N a b c=some [aH<|zcM a b c,aB<|zcN a b c]:=by
 obtain⟨g,i⟩:=zmf g;have h:=(zbd a).1 (zS.1 g);refine⟨0,?_⟩;show _=some (zf5<|zco a b c);unfold zup oN nB;conv=>zeta
 refine j0 (zbS<|(zbd _).2 h) (j0 (zbS<|(zbd _).2 h)<|brN (λd=>?_) λd=>?_);{rw [zmc d];rfl};obtain⟨l,e,f⟩:=zdM d;have k:=zpr h e f;have j:zbc (gOf a b c)=1:=qD i;rw[zjX d,j];refine j0 (zF e) (j0 (zF f)<|j0 (ziH rfl i) ?_);show _=some (zf5 (zkH a b c<|interrupted<|gOf a b c,true));exact j0 (zF e) (j0 (zbS k) (j0 (zF f) rfl))
def zAt:vU 108 zD9:=kF3 zXO zD zcy zjh (zy []) zDY
def zDZ (a:ac)(b c:Int)(g:zvq a b c=true):∃N,zuq N a b c=some [aH<|zcM a b c,aB<|zcN a b c]:=by
 obtain⟨g,i⟩:=zmf g;have h:=(zbd a).1 (zS.1 g);refine⟨0,?_⟩;show _=some (zf5<|zco a b c);unfold zuq oN nB;conv=>zeta
 refine j0 (zbS<|(zbd _).2 h) (j0 (zbS<|(zbd _).2 h)<|brN (λd=>?_) λd=>?_);{rw [zmc d];rfl};obtain⟨l,e,f⟩:=zdM d;have k:=zpr h e f;have j:zbc (gOf a b c)=2:=qD i;rw[zjX d,j];refine j0 (zF e) (j0 (zF f)<|j0 (ziH rfl i) ?_);show _=some (zf5 (zkH a b c<|plainly<|gOf a b c,true));exact j0 (zF e) (j0 (zbS k) (j0 (zF f) rfl))
def zAu:vU 108 zEa:=kF3 zXP zD zcy zjh (zy []) zDZ
def zD0 (a:ac)(c d:Int)(j:zvr a c d=true):∃N,zur N a c d=some [aH<|zcM a c d,aB<|zcN a c d]:=by
 obtain⟨j,m⟩:=zmf j;have f:=(zbd a).1 (zS.1 j);refine⟨0,?_⟩;show _=some (zf5<|zco a c d);unfold zur oN nB;conv=>zeta
 refine j0 (zbS<|(zbd _).2 f) (j0 (zbS<|(zbd _).2 f)<|brN (λe=>?_) λe=>?_);{rw [zmc e];rfl};obtain⟨r,g,i⟩:=zdM e;have n:=zpr f g i;have q:zbc (gOf a c d)=3:=qD m;rw[zjX e,q];refine j0 (zF g) (j0 (zF i)<|j0 (ziH rfl m) ?_);show _=some (zf5 (zhI (zmT a c d (gOf a c d) false) c d (gOf a c d) false,true));have k:=zw4 (b:=a.am) (page:=zbm (F0<|gOf a c d)) (need:=zch false) (io:=false) f e;have F:=zDf k g i;have p:(ix (ix (zfs (zo a) (zo a).am c d (zc5<|zjl<|ix (ix (zo a).aa c zh).ad d zI) (zfH false) false).aa c zh).ad d zI)=(ix (ix (zo a).aa c zh).ad d zI):=congrArg (λl=>ix l d gZ) (zIZ k.gs c);rw[p];unfold zhI;refine j0 rfl (j0 rfl (j0 rfl (j0 (zbS<|(zbd _).2 f)<|brN (λh=>?_) λh=>?_)));{rw [show (zmT a c d (gOf a c d) false).2.2=false from h];exact j0 (zF F.hm) (j0 rfl (j0 rfl (j0 (zbS n) (j0 (zF F.hg) rfl))))};{rw [show (zmT a c d (gOf a c d) false).2.2=true from h];exact j0 (zF F.hm) (j0 rfl (j0 rfl (j0 (zbS n) (j0 (zF F.hg) rfl))))}
def zAv:vU 108 zEb:=kF3 zXQ zD zcy zjh (zy []) zD0
def zD1 (a:ac)(c d:Int)(j:zvs a c d=true):∃N,zus N a c d=some [aH<|zcM a c d,aB<|zcN a c d]:=by
 obtain⟨j,m⟩:=zmf j;have f:=(zbd a).1 (zS.1 j);refine⟨0,?_⟩;show _=some (zf5<|zco a c d);unfold zus oN nB;conv=>zeta
 refine j0 (zbS<|(zbd _).2 f) (j0 (zbS<|(zbd _).2 f)<|brN (λe=>?_) λe=>?_);{rw [zmc e];rfl};obtain⟨r,g,i⟩:=zdM e;have n:=zpr f g i;have q:zbc (gOf a c d)=4:=qD m;rw[zjX e,q];refine j0 (zF g) (j0 (zF i)<|j0 (ziH rfl m) ?_);show _=some (zf5 (zhI (zmT a c d (gOf a c d) true) c d (gOf a c d) true,true));have k:=zw4 (b:=a.am) (page:=zbm (F0<|gOf a c d)) (need:=zch true) (io:=false) f e;have F:=zDf k g i;have p:(ix (ix (zfs (zo a) (zo a).am c d (zc5<|zjl<|ix (ix (zo a).aa c zh).ad d zI) (zfH true) false).aa c zh).ad d zI)=(ix (ix (zo a).aa c zh).ad d zI):=congrArg (λl=>ix l d gZ) (zIZ k.gs c);rw[p];unfold zhI;refine j0 rfl (j0 rfl (j0 rfl (j0 (zbS<|(zbd _).2 f)<|brN (λh=>?_) λh=>?_)));{rw [show (zmT a c d (gOf a c d) true).2.2=false from h];exact j0 (zF F.hm) (j0 rfl (j0 rfl (j0 (zbS n) (j0 (zF F.hg) rfl))))};{rw [show (zmT a c d (gOf a c d) true).2.2=true from h];exact j0 rfl (j0 (zbS k.shape.1.1)<|j0 (zF F.hm)<|j0 (zbS n) (j0 (zF F.hg) rfl))}
def zAw:vU 108 zEc:=kF3 zXR zD zcy zjh (zy []) zD1
def z6g {c:ac}{a d:Int}(k:SmG (gOf c a d))(f:i0 a (ln c.aa)=true)(i:i0 d (ln (ix c.aa a mZ).ad)=true) :
 (cond (zed (ix (ix (zo c).aa a zh).ad d zI) (ix (ix (zo c).aa a zh).ad d zI).Ctl.ar 5) (cond (zdG (ix (ix (zo c).aa a zh).ad d zI) (ix (ix (zo c).aa a zh).ad d zI).Ctl.ar 5) (cond (inb a<|ln (zo c).aa) (cond (ilt (ln (ix (zo c).aa a zh).Outs) 40) (cond (inb a<|ln (zo c).aa) (cond (zfV (ix (ix (zo c).aa a zh).ad d zI).az (ix (ix (zo c).aa a zh).ad d zI).Pc) (cond (few<|ln<|ap (ix (zo c).aa a zh).Outs [(zf8 (ix (ix (zo c).aa a zh).ad d zI).az (ix (ix (zo c).aa a zh).ad d zI).Pc).X]) (cond (inb a<|ln (zo c).aa) (cond (cond (ieq a a) true false) (p0 (up (zo c).aa a ({ (ix (zo c).aa a zh) with Outs:=(ap (ix (zo c).aa a zh).Outs [(zf8 (ix (ix (zo c).aa a zh).ad d zI).az (ix (ix (zo c).aa a zh).ad d zI).Pc).X])}:Mon)) λe=>cond (inb a<|ln e) (cond (inb d<|ln (ix e a zh).ad) (p0 (up e a ({ (ix e a zh) with ad:=(up (ix e a zh).ad d<|zcp (ix (ix (zo c).aa a zh).ad d zI) (ix (ix (zo c).aa a zh).ad d zI).Ctl.ar 5)}:Mon)) λl=>some [.agg<|zbo ({ (zo c) with aa:=l}:ac),.one<|.b true]) none) none) none) none) none) none) none)<|cond (inb a<|ln (zo c).aa) (cond (inb d<|ln (ix (zo c).aa a zh).ad) (p0 (up (zo c).aa a ({ (ix (zo c).aa a zh) with ad:=(up (ix (zo c).aa a zh).ad d<|zcp (ix (ix (zo c).aa a zh).ad d zI) (ix (ix (zo c).aa a zh).ad d zI).Ctl.ar 5)}:Mon)) λe=>some [.agg<|zbo ({ (zo c) with aa:=e}:ac),.one<|.b true]) none) none) none)<|cond (inb a<|ln (zo c).aa) (cond (inb d<|ln (ix (zo c).aa a zh).ad) (p0 (up (zo c).aa a ({ (ix (zo c).aa a zh) with ad:=(up (ix (zo c).aa a zh).ad d<|zcp (ix (ix (zo c).aa a zh).ad d zI) (ix (ix (zo c).aa a zh).ad d zI).Ctl.ar 5)}:Mon)) λe=>some [.agg<|zbo ({ (zo c) with aa:=e}:ac),.one<|.b true]) none) none) none)=some (zf5 (zkH (zgt c a (gOf c a d) 5) a d<|zjY (gOf c a d) (gOf c a d).Ctl.ar 5,true)):=by
 refine j0 (zbS k) (br (λj=>j0 (zF f) (br (λg=>?_) λg=>?_)) λj=>?_)
 .rw [zUi (h:=c) (m:=a) (x:=gOf c a d) (w:=5) j rfl g];refine j0 (zF f) (j0 rfl (j0 (z6f g)<|j0 (zF f)<|j0 (z0H _)<|shr<|j0 (zF<|zeT f) (j0 ?_ rfl)));rw[zJ4 f];exact zF i
 .rw [zO9 (h:=c) (m:=a) (x:=gOf c a d) (w:=5) g];exact j0 (zF f) (j0 (zF i) rfl)
 .rw [z19 (h:=c) (m:=a) (x:=gOf c a d) (w:=5) j];exact j0 (zF f) (j0 (zF i) rfl)
def zbag {f:ac}{d:List Mon}{a c:Int}(n:SmG (gOf f a c))(i:i0 a (ln d)=true)(k:i0 c (ln (ix d a mZ).ad)=true)(e:(ix (ix d a zh).ad c zI)=gOf f a c) :
 (cond (zed ({ (ix (ix (zo f).aa a zh).ad c zI) with az:=(ix (ix d a zh).ad c zI).az,aA:=(ix (ix d a zh).ad c zI).aA,ay:=(ix (ix d a zh).ad c zI).ay,aC:=(ix (ix d a zh).ad c zI).aC}:ah) (ix (ix (zo f).aa a zh).ad c zI).Ctl.ar 5) (cond (zdG ({ (ix (ix (zo f).aa a zh).ad c zI) with az:=(ix (ix d a zh).ad c zI).az,aA:=(ix (ix d a zh).ad c zI).aA,ay:=(ix (ix d a zh).ad c zI).ay,aC:=(ix (ix d a zh).ad c zI).aC}:ah) (ix (ix (zo f).aa a zh).ad c zI).Ctl.ar 5) (cond (inb a<|ln d) (cond (ilt (ln (ix d a zh).Outs) 40) (cond (inb a<|ln d) (cond (zfV (ix (ix d a zh).ad c zI).az (ix (ix (zo f).aa a zh).ad c zI).Pc) (cond (few<|ln<|ap (ix d a zh).Outs [(zf8 (ix (ix d a zh).ad c zI).az (ix (ix (zo f).aa a zh).ad c zI).Pc).X]) (cond (inb a<|ln d) (cond (cond (ieq a a) true false) (p0 (up d a ({ (ix d a zh) with Outs:=(ap (ix d a zh).Outs [(zf8 (ix (ix d a zh).ad c zI).az (ix (ix (zo f).aa a zh).ad c zI).Pc).X])}:Mon)) λg=>cond (inb a<|ln g) (cond (inb c<|ln (ix g a zh).ad) (p0 (up g a ({ (ix g a zh) with ad:=(up (ix g a zh).ad c<|zcp ({ (ix (ix (zo f).aa a zh).ad c zI) with az:=(ix (ix d a zh).ad c zI).az,aA:=(ix (ix d a zh).ad c zI).aA,ay:=(ix (ix d a zh).ad c zI).ay,aC:=(ix (ix d a zh).ad c zI).aC}:ah) (ix (ix (zo f).aa a zh).ad c zI).Ctl.ar 5)}:Mon)) λp=>some [.agg<|zbo ({ (zo f) with aa:=p}:ac),.one<|.b true]) none) none) none) none) none) none) none)<|cond (inb a<|ln d) (cond (inb c<|ln (ix d a zh).ad) (p0 (up d a ({ (ix d a zh) with ad:=(up (ix d a zh).ad c<|zcp ({ (ix (ix (zo f).aa a zh).ad c zI) with az:=(ix (ix d a zh).ad c zI).az,aA:=(ix (ix d a zh).ad c zI).aA,ay:=(ix (ix d a zh).ad c zI).ay,aC:=(ix (ix d a zh).ad c zI).aC}:ah) (ix (ix (zo f).aa a zh).ad c zI).Ctl.ar 5)}:Mon)) λg=>some [.agg<|zbo ({ (zo f) with aa:=g}:ac),.one<|.b true]) none) none) none)<|cond (inb a<|ln d) (cond (inb c<|ln (ix d a zh).ad) (p0 (up d a ({ (ix d a zh) with ad:=(up (ix d a zh).ad c<|zcp ({ (ix (ix (zo f).aa a zh).ad c zI) with az:=(ix (ix d a zh).ad c zI).az,aA:=(ix (ix d a zh).ad c zI).aA,ay:=(ix (ix d a zh).ad c zI).ay,aC:=(ix (ix d a zh).ad c zI).aC}:ah) (ix (ix (zo f).aa a zh).ad c zI).Ctl.ar 5)}:Mon)) λg=>some [.agg<|zbo ({ (zo f) with aa:=g}:ac),.one<|.b true]) none) none) none)=some (zf5 (zkH (zgt {f with aa:=d} a (gOf f a c) 5) a c<|zjY (gOf f a c) (gOf f a c).Ctl.ar 5,true)):=by
 rw[e];refine j0 (zbS n) (br (λl=>j0 (zF i) (br (λj=>?_) λj=>?_)) λl=>?_)
 .rw [zUi (h:={f with aa:=d}) (m:=a) (x:=gOf f a c) (w:=5) l rfl j];refine j0 (zF i) (j0 rfl (j0 (z6f j)<|j0 (zF i)<|j0 (z0H _)<|shr<|j0 (zF<|zeT (h:={f with aa:=d}) i) (j0 ?_ rfl)));rw[zJ4 (h:={f with aa:=d}) i];exact zF k
 .rw [zO9 (h:={f with aa:=d}) (m:=a) (x:=gOf f a c) (w:=5) j];exact j0 (zF i) (j0 (zF k) rfl)
 .rw [z19 (h:={f with aa:=d}) (m:=a) (x:=gOf f a c) (w:=5) l];exact j0 (zF i) (j0 (zF k) rfl)
def zD2 (b:ac)(a c:Int)(j:zvt b a c=true):∃N,zut N b a c=some [aH<|zcM b a c,aB<|zcN b a c]:=by
 obtain⟨j,p⟩:=zmf j;have k:=(zbd b).1 (zS.1 j);refine⟨0,?_⟩;show _=some (zf5<|zco b a c);unfold zut oN nB;conv=>zeta
 refine j0 (zbS<|(zbd _).2 k) (j0 (zbS<|(zbd _).2 k)<|brN (λf=>?_) λf=>?_);{rw [zmc f];rfl};obtain⟨r,d,e⟩:=zdM f;have l:=zpr k d e;have q:zbc (gOf b a c)=5:=qD p;rw[zjX f,q];refine j0 (zF d) (j0 (zF e)<|j0 (ziH rfl p) ?_);show _=some (zf5 (zre b a c (gOf b a c) 5,true));refine j0 (zF d) (j0 rfl (br (λg=>j0 (zF d) (br (λi=>j0 (zF d) (j0 (zF d)<|shr ?_)) λi=>?_)) λg=>?_));{rw [znz (zXj (h:=b) (m:=a) (x:=gOf b a c) (w:=5) rfl g i)];have n:=zJ4 d {ix b.aa a mZ with Own:=zK .i64 (ix b.aa a mZ).Own 1};refine zbag l (zeT d) ?_ ?_;{show i0 c (ln (ix (up b.aa a _) a mZ).ad)=true;rw[n];exact e};{show ix (ix (up b.aa a _) a mZ).ad c gZ=_;rw[n];rfl}};{rw [znz<|zXi (h:=b) (m:=a) (x:=gOf b a c) (w:=5) i];exact z6g l d e};{rw [znz<|zXh (h:=b) (m:=a) (x:=gOf b a c) (w:=5) g];exact z6g l d e}
def zAx:vU 108 zEd:=kF3 zXS zD zcy zjh (zy []) zD2
def zD3 (a:ac)(b c:Int)(g:zvu a b c=true):∃N,zuu N a b c=some [aH<|zcM a b c,aB<|zcN a b c]:=by
 obtain⟨g,j⟩:=zmf g;have i:=(zbd a).1 (zS.1 g);refine⟨0,?_⟩;show _=some (zf5<|zco a b c);unfold zuu oN nB;conv=>zeta
 refine j0 (zbS<|(zbd _).2 i) (j0 (zbS<|(zbd _).2 i)<|brN (λf=>?_) λf=>?_);{rw [zmc f];rfl};obtain⟨p,d,e⟩:=zdM f;have n:=zpr i d e;have l:zbc (gOf a b c)=6:=qD j;rw[zjX f,l];refine j0 (zF d) (j0 (zF e)<|j0 (ziH rfl j) ?_);show _=some (zf5 (zre a b c (gOf a b c) 6,true));rw[znz<|z8Q (h:=a) (m:=b) (x:=gOf a b c),zKZ (w:=6) rfl];exact j0 (zbS n) (br (λk=>j0 (zF d) (j0 (zF e) rfl)) λk=>j0 (zF d) (j0 (zF e) rfl))
def zAy:vU 108 zEe:=kF3 zXT zD zcy zjh (zy []) zD3
def z6h {a:ac}{c d:Int}(i:SmG (gOf a c d))(f:i0 c (ln a.aa)=true)(g:i0 d (ln (ix a.aa c mZ).ad)=true) :
 (cond (zed (ix (ix (zo a).aa c zh).ad d zI) (ix (ix (zo a).aa c zh).ad d zI).Ctl.ar 7) (cond (zdG (ix (ix (zo a).aa c zh).ad d zI) (ix (ix (zo a).aa c zh).ad d zI).Ctl.ar 7) (cond (inb c<|ln (zo a).aa) (cond (inb d<|ln (ix (zo a).aa c zh).ad) (p0 (up (zo a).aa c ({ (ix (zo a).aa c zh) with ad:=(up (ix (zo a).aa c zh).ad d<|zcp (ix (ix (zo a).aa c zh).ad d zI) (ix (ix (zo a).aa c zh).ad d zI).Ctl.ar 7)}:Mon)) λe=>some [.agg<|zbo ({ (zo a) with aa:=e}:ac),.one<|.b true]) none) none)<|cond (inb c<|ln (zo a).aa) (cond (inb d<|ln (ix (zo a).aa c zh).ad) (p0 (up (zo a).aa c ({ (ix (zo a).aa c zh) with ad:=(up (ix (zo a).aa c zh).ad d<|zcp (ix (ix (zo a).aa c zh).ad d zI) (ix (ix (zo a).aa c zh).ad d zI).Ctl.ar 7)}:Mon)) λe=>some [.agg<|zbo ({ (zo a) with aa:=e}:ac),.one<|.b true]) none) none) none)=some (zf5 (zkH a c d<|zjY (gOf a c d) (gOf a c d).Ctl.ar 7,true)):=
 j0 (zbS i) (br (λh=>j0 (zF f) (j0 (zF g) rfl)) λh=>j0 (zF f) (j0 (zF g) rfl))
def zbah {f:ac}{d:List Mon}{a c:Int}(k:SmG (gOf f a c))(h:i0 a (ln d)=true)(i:i0 c (ln (ix d a mZ).ad)=true)(e:(ix (ix d a zh).ad c zI)=gOf f a c) :
 (cond (zed ({ (ix (ix (zo f).aa a zh).ad c zI) with az:=(ix (ix d a zh).ad c zI).az,aA:=(ix (ix d a zh).ad c zI).aA,ay:=(ix (ix d a zh).ad c zI).ay,aC:=(ix (ix d a zh).ad c zI).aC}:ah) (ix (ix (zo f).aa a zh).ad c zI).Ctl.ar 7) (cond (zdG ({ (ix (ix (zo f).aa a zh).ad c zI) with az:=(ix (ix d a zh).ad c zI).az,aA:=(ix (ix d a zh).ad c zI).aA,ay:=(ix (ix d a zh).ad c zI).ay,aC:=(ix (ix d a zh).ad c zI).aC}:ah) (ix (ix (zo f).aa a zh).ad c zI).Ctl.ar 7) (cond (inb a<|ln d) (cond (inb c<|ln (ix d a zh).ad) (p0 (up d a ({ (ix d a zh) with ad:=(up (ix d a zh).ad c<|zcp ({ (ix (ix (zo f).aa a zh).ad c zI) with az:=(ix (ix d a zh).ad c zI).az,aA:=(ix (ix d a zh).ad c zI).aA,ay:=(ix (ix d a zh).ad c zI).ay,aC:=(ix (ix d a zh).ad c zI).aC}:ah) (ix (ix (zo f).aa a zh).ad c zI).Ctl.ar 7)}:Mon)) λg=>some [.agg<|zbo ({ (zo f) with aa:=g}:ac),.one<|.b true]) none) none)<|cond (inb a<|ln d) (cond (inb c<|ln (ix d a zh).ad) (p0 (up d a ({ (ix d a zh) with ad:=(up (ix d a zh).ad c<|zcp ({ (ix (ix (zo f).aa a zh).ad c zI) with az:=(ix (ix d a zh).ad c zI).az,aA:=(ix (ix d a zh).ad c zI).aA,ay:=(ix (ix d a zh).ad c zI).ay,aC:=(ix (ix d a zh).ad c zI).aC}:ah) (ix (ix (zo f).aa a zh).ad c zI).Ctl.ar 7)}:Mon)) λg=>some [.agg<|zbo ({ (zo f) with aa:=g}:ac),.one<|.b true]) none) none) none)=some (zf5 (zkH {f with aa:=d} a c<|zjY (gOf f a c) (gOf f a c).Ctl.ar 7,true)):=by
 rw[e];exact j0 (zbS k) (br (λj=>j0 (zF h) (j0 (zF i) rfl)) λj=>j0 (zF h) (j0 (zF i) rfl))
def zD4 (b:ac)(a c:Int)(j:zvv b a c=true):∃N,zuv N b a c=some [aH<|zcM b a c,aB<|zcN b a c]:=by
 obtain⟨j,p⟩:=zmf j;have k:=(zbd b).1 (zS.1 j);refine⟨0,?_⟩;show _=some (zf5<|zco b a c);unfold zuv oN nB;conv=>zeta
 refine j0 (zbS<|(zbd _).2 k) (j0 (zbS<|(zbd _).2 k)<|brN (λf=>?_) λf=>?_);{rw [zmc f];rfl};obtain⟨r,d,e⟩:=zdM f;have l:=zpr k d e;have q:zbc (gOf b a c)=7:=qD p;rw[zjX f,q];refine j0 (zF d) (j0 (zF e)<|j0 (ziH rfl p) ?_);show _=some (zf5 (zre b a c (gOf b a c) 7,true));refine j0 (zF d) (j0 rfl (br (λg=>j0 (zF d) (br (λi=>j0 (zF d) (j0 (zF d)<|shr ?_)) λi=>?_)) λg=>?_));{rw [znz (zXj (h:=b) (m:=a) (x:=gOf b a c) (w:=7) rfl g i),zKZ (w:=7) rfl];have n:=zJ4 d {ix b.aa a mZ with Own:=zK .i64 (ix b.aa a mZ).Own 1};refine zbah l (zeT d) ?_ ?_;{show i0 c (ln (ix (up b.aa a _) a mZ).ad)=true;rw[n];exact e};{show ix (ix (up b.aa a _) a mZ).ad c gZ=_;rw[n];rfl}};{rw [znz<|zXi (h:=b) (m:=a) (x:=gOf b a c) (w:=7) i,zKZ (w:=7) rfl];exact z6h l d e};{rw [znz<|zXh (h:=b) (m:=a) (x:=gOf b a c) (w:=7) g,zKZ (w:=7) rfl];exact z6h l d e}
def zAz:vU 108 zEf:=kF3 zXU zD zcy zjh (zy []) zD4
def zp4:LW
 |[.agg [.s (.sl .int) b,.s .mon c,.s .entry d,.s .entry e],.one<|.i .i64 f,.one<|.i .i64 g]=>some (zdk (⟨b,c,d,e⟩:ac) f g,[aH<|zcM (⟨b,c,d,e⟩:ac) f g,aB<|zcN (⟨b,c,d,e⟩:ac) f g])
 |_=>none
def zGB:vU 108 zp4:=by refine⟨zpw.1,λw m l n g h=>?_⟩;unfold zp4 at h;split at h;{rename_i a b d f i j;obtain⟨k,rfl⟩:=zef h;rcases z4K (gOf (⟨a,b,d,f⟩:ac) i j) with e|e|e|e|e|e|e|e;{exact zpw.2 w _ l _ g (congrArg (λc=>some (c,zf5<|zco (⟨a,b,d,f⟩:ac) i j))<|ziH k e)};{exact zAt.2 w _ l _ g (congrArg (λc=>some (c,zf5<|zco (⟨a,b,d,f⟩:ac) i j))<|ziH k e)};{exact zAu.2 w _ l _ g (congrArg (λc=>some (c,zf5<|zco (⟨a,b,d,f⟩:ac) i j))<|ziH k e)};{exact zAv.2 w _ l _ g (congrArg (λc=>some (c,zf5<|zco (⟨a,b,d,f⟩:ac) i j))<|ziH k e)};{exact zAw.2 w _ l _ g (congrArg (λc=>some (c,zf5<|zco (⟨a,b,d,f⟩:ac) i j))<|ziH k e)};{exact zAx.2 w _ l _ g (congrArg (λc=>some (c,zf5<|zco (⟨a,b,d,f⟩:ac) i j))<|ziH k e)};{exact zAy.2 w _ l _ g (congrArg (λc=>some (c,zf5<|zco (⟨a,b,d,f⟩:ac) i j))<|ziH k e)};{exact zAz.2 w _ l _ g (congrArg (λc=>some (c,zf5<|zco (⟨a,b,d,f⟩:ac) i j))<|ziH k e)}};{cases h}
def z5W:zbf:=[(108,zp4)]++zmR
def z3i:zN z5W:=zi zGB ziq
def z5X:zbf:=z5W
def z3j:zN z5X:=z3i
def brought (n a b:Int):Int:=bif ilt n a then a else (cond (ilt b a) a<|zMt n b)
@[simp] abbrev zqS (_ _ _:Int):Bool:=true
@[simp] abbrev zrH (n a b:Int):Int:=brought n a b
def zr4:Run:=rF3 dI dI dI λb c d=>(zqS b c d,[aI<|zrH b c d])
def zEq (N:Nat)(b a c:Int):OA:=
 (cond (ilt c a) (some [aI a])<|cond (ilt b a) (some [aI a])<|cond (igt b c) (some [aI c])<|some [aI b])
def zPR (a b c:Int)(g:zqS a b c=true):∃N,zEq N a b c=some [aI<|zrH a b c]:=by refine⟨0,?_⟩;unfold zEq;unfold zrH brought zMt;cases d:ilt c b<;>cases e:ilt a b<;>cases f:igt a c<;>simp [igt] at * <;> omega
def zuV:vU 110 zr4:=kF3 ztn zD zB zu (zy []) zPR
structure RI (a:List ao) (i:Nat) (l:List ao):Prop where
 len:l.length=a.length
 sm:zXt l
 eq:∀k,i<=k->l[k]?=a[k]?
def RI.up {a l:List ao}{i:Nat}(h:RI a i l)(x:ao)(b:SmB x):RI a (i+1) (up l (i:Int) x):=
 ⟨by rw[zg1];exact h.len,z8H h.sm b,λk c=>by rw[z9D (by omega)];exact h.eq k (by omega)⟩
structure RJ (l:List ao) (i:Nat) (l':List ao):Prop where
 len:l'.length=l.length
 sm:SmB (ix l' (i:Int) zUL)
 up:∀x,E.up l' (i:Int) x=E.up l (i:Int) x
def RJ.next {l a:List ao}{i:Nat}(h:RJ l i a)(b:i<l.length)(x:ao)(c:SmB x):RJ l i (E.up a (i:Int) x):=
 ⟨by rw[zg1];exact h.len,by rw[zd8 (by rw[h.len];exact b)];exact c,λy=>by rw[zvF];exact h.up y⟩
def z0i:zbf:=z5X
def z0j:zN z0i:=z3j
def zT2 {h:ac}{m:Int}(g:SmH h)(f:i0 m (ln h.aa)=true):SmB (zL h m):=by
 have b:=g.2.1.2 _ (zbD f mZ);have e:∀(d:List LI) (q:Int),SmM d->(zcD d q).length<=1048576:=λd q h=>zT4 h;have c:∀p:Int,(zdg h m p).length<=1048576:=by intro p;unfold zdg;cases i0 m (ln h.aa);{exact(by decide:zzf.length<=1048576)};{cases i0 p 8;{exact(by decide:zzf.length<=1048576)};{simp only [cT];cases ine (zbv (ix h.aa m zh).ae p).af (-1);{exact e _ _ b.2.1};{exact e _ _ g.1}}}
 have j:∀(n i:Nat),∀x∈zcR h m n i,x.length<=1048576:=by
  intro n
  induction n with
  |zero=>intro i x a;cases a
  |succ n k=>intro i x a;rcases qG.1 a with rfl|a;{exact c _};{exact k (i+1) x a}
 unfold zL;rw[f];exact⟨⟨by show (zcR h m 8 0).length<=1048576;rw[zyN];decide,j 8 0⟩,b.2.2.2.1,b.2.2.2.2.1⟩
def z5Y:zbf:=z0i
def z3k:zN z5Y:=z0j
def z5Z:zbf:=[(110,zr4)]++z5Y
def z3l:zN z5Z:=zi zuV z3k
def cnt (l:List Mon):List Nat:=l.map λx=>x.ad.length
def z9h {l a:List Mon}(h:zeq a=zeq l):cnt a=cnt l:=by have e:∀l:List Mon,cnt l=(zeq l).map List.length:=λl=>(by simp[cnt,zeq]);rw[e,e,h]
def zRo {l:List Mon}{m:Int}{x:Mon}(b:i0 m (ln l)=true)(c:x.ad.length=(ix l m mZ).ad.length):cnt (up l m x)=cnt l:=by obtain⟨k,rfl,a⟩:=zdY (n:=l.length) b;unfold cnt up;rw[List.map_set,kJ,c,zbi a];have:=@vC _ (l.map λx=>x.ad.length) k (by simpa using a);simpa using this
def z7l {l a:List Mon}(h:cnt a=cnt l):a.length=l.length:=by have:=congrArg List.length h;simpa [cnt] using this
def z9i {l b:List Mon}(h:cnt b=cnt l)(m:Int):(ix b m mZ).ad.length=(ix l m mZ).ad.length:=by have a:(cnt b)[m.toNat]?=(cnt l)[m.toNat]?:=(by rw[h]);unfold cnt at a;rw[qQ,qQ]at a;unfold ix;simp only[kB];cases c:b[m.toNat]? <;> cases d:l[m.toNat]? <;> rw [c,d]at a<;>simp at a ⊢;exact a
def z8l (h:ac)(m p:Int):(zdH h m p).ag=h.ag:=(zgz (zeO h m p) m p C0).2
def z8k (h:ac):(zcV h).ag=h.ag:=by unfold zcV;cases ieq (ln<|zcg h) 0;{rfl};{exact z8l _ _ _}
def z8j (m:List LI)(p:Int)(c:LI):(ziG m p c).length=m.length:=by unfold ziG;cases i0 p (ln m);{rfl};{cases zcw c;{rfl};{simp}}
def z8h (m:List LI)(p c v:Int):(zbM m p c v).length=m.length:=by unfold zbM;cases zh5 m p c;{rfl};{cases zk v 0 99;{rfl};{simp}}
def zYy (h:ac)(m p:Int):(fetched h m p).ag.length=h.ag.length:=by unfold fetched zfa;rw[(zgz _ _ _ _).2];unfold landing;rw[z8j,z8k]
def zS7 (h:ac)(m p n:Int):(zh7 h m p n).ag=h.ag:=by unfold zh7;cases ieq (wand .i64 n 2) 0;{unfold opened;cases ieq (wand .i64 (ix (ix (zbH h m p).aa m mZ).ae p sZ).aj 2) 0;{rfl};{exact(zgz _ _ _ _).2}};{rfl}
def z01 (h:ac)(m p n:Int):(D0 h m p n).ag.length=h.ag.length:=by unfold D0;cases ieq (ix (ix h.aa m mZ).ae p sZ).af (-1);{exact congrArg List.length (zS7 _ _ _ _)};{exact(congrArg List.length<|zS7 _ _ _ _).trans (zYy _ _ _)}
def z02 (h:ac)(m g p:Int)(a:Bool):(zqI h m g p a).ag=h.ag:=by cases a<;>rfl
def z3Q (h:ac)(b:List aq)(m g c a q:Int)(d:Bool):(zgL h b m g c a q d).1.ag.length=h.ag.length:=by unfold zgL;cases zhj b m g c a;{cases zeY h m g c a;{exact congrArg List.length (z02 _ _ _ _ _)};{exact(congrArg List.length<|z02 _ _ _ _ _).trans (z01 h m q a)}};{rfl}
def z8i (h:ac)(b:List aq)(m g page need:Int)(io:Bool):(lookOf h b m g page need io).1.ag.length=h.ag.length:=by unfold lookOf;cases zca h m g page need;{rfl};{simp only [cT];rw[z3Q];cases ieq need 2<;>rfl}
structure Keep (h r:ac):Prop where
 shape:Shape r
 cnt:cnt r.aa=cnt h.aa
 mem:r.ag.length=h.ag.length
def Keep.has {h r:ac}(k:Keep h r){m:Int}(a:i0 m (ln h.aa)=true):i0 m (ln r.aa)=true:=by rw[ln,z7l k.cnt];exact a
def Keep.hg {h r:ac}(k:Keep h r){m g:Int}(hg:i0 g (ln (ix h.aa m mZ).ad)=true):i0 g (ln (ix r.aa m mZ).ad)=true:=by rw[ln,z9i k.cnt];exact hg
def Keep.trans {a b c:ac}(h:Keep a b)(k:Keep b c):Keep a c:=⟨k.shape,k.cnt.trans h.cnt,k.mem.trans h.mem⟩
def Keep.rfl' {h:ac}(a:Shape h):Keep h h:=⟨a,rfl,rfl⟩
def znF {h:ac}{m g:Int}{x:ah}(b:Shape h)(a:i0 m (ln h.aa)=true)(c:SmG x):Keep h (zkH h m g x):=⟨zZi b a c,zRo a (by simp),rfl⟩
def zBN {h:ac}{b:List aq}{m g page need:Int}{io:Bool}(c:SmH h)(a:zbX h m g=true):Keep h (lookOf h b m g page need io).1:=by have k:=zw4 (b:=b) (page:=page) (need:=need) (io:=io) c a;exact⟨k.shape,z9h k.gs,z8i _ _ _ _ _ _ _⟩
def z0L {h:ac}{p c v:Int}(a:Shape h):Keep h {h with ag:=zbM h.ag p c v}:=⟨zO5 a<|zza a.1.1,rfl,z8h _ _ _ _⟩
def zYk {h:ac}{m:Int}(a:Shape h)(b:i0 m (ln h.aa)=true):Keep h (owned h m):=by obtain⟨c,d⟩:=zcG a b;unfold owned;cases ilt (ix h.aa m mZ).Own 1000000000;{exact Keep.rfl' a};{exact⟨ziE a c d,zRo b rfl,rfl⟩}
def zYj {h:ac}{m n:Int}(b:Shape h)(c:i0 m (ln h.aa)=true):Keep h (zk7 h m n):=by obtain⟨a,d⟩:=zcG b c;unfold zk7;cases e:ilt (ln (ix h.aa m mZ).Outs) 40;{exact Keep.rfl' b};{have f:=qD e;simp only[ln]at f;refine⟨ziE b ⟨a.1,a.2.1,a.2.2.1,a.2.2.2.1,?_,a.2.2.2.2.2⟩ d,zRo c rfl,rfl⟩;simp[ap];omega}
def z0N {h:ac}{m g:Int}{x:ah}{w:Int}(d:Shape h)(b:i0 m (ln h.aa)=true)(e:SmG x):Keep h (zre h m g x w):=by have a:Keep h (zfk h m x w):=(by unfold zfk;cases (cond (ine w 6) (ieq (zv3 (ix h.aa m mZ).ar x.Ctl.ar<|zui w) 2) false);{exact Keep.rfl' d};{exact zYk d b});have f:Keep (zfk h m x w) (zgt (zfk h m x w) m x w):=(by unfold zgt;cases (cond (zjZ x.Ctl.ar w) (ieq w 5) false);{exact Keep.rfl' a.shape};{exact zYj a.shape (a.has b)});have c:=a.trans f;exact c.trans (znF c.shape (c.has b)<|zCF _ _ e)
def z0M {h:ac}{m g:Int}(f:SmH h)(e:zbX h m g=true):Keep h (zco h m g).1:=by obtain⟨l,a,n⟩:=zdM e;have d:=zpr f a n;have i:=(zfz f l).1;rw[zjX e];unfold zKT;cases ieq (zbc<|gOf h m g) 0;{cases ieq (zbc<|gOf h m g) 1;{cases ieq (zbc<|gOf h m g) 2;{cases (cond (ieq (zbc<|gOf h m g) 3) true<|ieq (zbc<|gOf h m g) 4);{exact z0N i a d};{have k:=zBN (b:=h.am) (page:=zbm (F0<|gOf h m g)) (need:=zch (ieq (zbc<|gOf h m g) 4)) (io:=false) f e;show Keep h (zhI (zmT h m g (gOf h m g)<|ieq (zbc<|gOf h m g) 4) m g (gOf h m g)<|ieq (zbc<|gOf h m g) 4);unfold zhI;cases (zmT h m g (gOf h m g)<|ieq (zbc<|gOf h m g) 4).2.2;{exact k.trans (znF k.shape (k.has a) d)};{cases ieq (zbc<|gOf h m g) 4;{have k:=zBN (b:=h.am) (page:=zbm (F0<|gOf h m g)) (need:=zch false) (io:=false) f e;exact k.trans (znF k.shape (k.has a)<|zKN _ d)};{have k:=zBN (b:=h.am) (page:=zbm (F0<|gOf h m g)) (need:=zch true) (io:=false) f e;have q:=z0L (p:=(zmT h m g (gOf h m g) true).2.1) (c:=zdp (F0<|gOf h m g)) (v:=(gOf h m g).A) k.shape;have j:=k.trans q;exact j.trans (znF j.shape (j.has a)<|zlv d)}}}};{exact znF i a (zFF d)}};{exact znF i a (zW9 d)}};{exact Keep.rfl' i}
structure Same (h r:ac):Prop where
 sm:SmH r
 cnt:cnt r.aa=cnt h.aa
 mem:r.ag.length=h.ag.length
 st:r=h\/Shape r
def Same.rfl' {h:ac}(a:SmH h):Same h h:=⟨a,rfl,rfl,.inl rfl⟩
def Same.trans {a b c:ac}(h:Same a b)(k:Same b c):Same a c:=⟨k.sm,k.cnt.trans h.cnt,k.mem.trans h.mem,by
 rcases k.st with e|e
 .rw [e];exact h.st
 .exact .inr e⟩
def z1H {h:ac}(m g:Int)(b:SmH h):Same h (zco h m g).1:=by cases a:zbX h m g;{rw [zmc a];exact Same.rfl' b};{have k:=z0M b a;exact⟨k.shape.1,k.cnt,k.mem,.inr k.shape⟩}
def z6a:zbf:=[(110,zr4)]++zXM
def ztp:zN z6a:=zi zuV ztn
def zRk {a b:Bool}(h:(a=true)↔(b=true)):a=b:=by cases a<;>cases b<;>simp_all
@[simp] def z95 (x:Int):zk x 0 3=i0 x 4:=zRk (by rw[zfO];unfold i0;rw[decide_eq_true_iff];omega)
@[simp] def z2i (x:Int):zk x 0 7=i0 x 8:=zRk (by rw[zfO];unfold i0;rw[decide_eq_true_iff];omega)
def zev (t:List k0)(p:Int)(s:k0):List k0:=bif i0 p (ln t) then up t p s else t
@[simp] def z96 (t:List k0)(p:Int)(s:k0):(zev t p s).length=t.length:=by unfold zev;cases i0 p (ln t)<;>simp
@[simp] abbrev zo0 (t:List k0)(p:Int)(s:k0):Bool:=pc (t.length<=1048576)
@[simp] abbrev zl3 (t:List k0)(p:Int)(s:k0):List k0:=zev t p s
def zxD:Run:=rF3 (dS .slot) dI (dT .slot) λb c d=>(zo0 b c d,[aS .slot<|zl3 b c d])
def zA4 (N:Nat)(a:lS)(b:Int)(c:k0):OA:=
 (oN (few<|ln<|ap [] a)<|oN (zM b 0<|wsub .i64 (ln a) 1)<|cond (zk b 0<|wsub .i64 (ln a) 1) (oN (inb b<|ln<|ap [] a)<|p0 (up (ap [] a) b c) λd=>some [aS .slot d])<|some [aS .slot<|ap [] a])
def zMY (a:List k0)(b:Int)(c:k0)(d:zo0 a b c=true):∃N,zA4 N a b c=some [aS .slot<|zl3 a b c]:=by have e:=zS.1 d;refine⟨0,?_⟩;unfold zA4 oN;refine mu (j0 rfl (br (λ_=>mu (shr ?_)) λ_=>?_));all_goals first|rfl|(simp only [*,zl3,zev,cT,cF]<;>rfl)|simp_all[Ty.cells,zl3,zev]
def zGL:vU 347 zxD:=kF3 ztp zD zB zu (zy []) zMY
def zhx (p n:Int):Bool:=bif zdI p then zk n 0 7 else false
def zsD (p n:Int):Int:=bif zhx p n then wor .i64 p (zpv .i64 1 n) else p
def cv7 {n:Int}(h:i0 n 8=true):wcv .u64 n=n/\ile 0 n=true:=by have:=qD h;exact⟨zXo (by omega) (by omega),qL (by omega)⟩
@[simp] abbrev zku (p n:Int):Bool:=true
@[simp] abbrev zhc (p n:Int):Int:=zsD p n
@[simp] abbrev zmE (p n:Int):Bool:=zhx p n
def zzZ:Run:=rF2 dI dI λb c=>(zku b c,[aI<|zhc b c,aB<|zmE b c])
def zEE (N:Nat)(a b:Int):OA:=
 (oN (zc6 a)<|cond (nB<|ze7 a) (some [aI a,aB false])<|oN (zM b 0 7)<|cond (nB<|zk b 0 7) (some [aI a,aB false])<|oN (ile 0<|wcv .u64 b)<|some [aI<|wor .i64 a<|zpv .i64 1<|wcv .u64 b,aB true])
def zP5 (b a:Int)(c:zku b a=true):∃N,zEE N b a=some [aI<|zhc b a,aB<|zmE b a]:=by have d:=@cv7 a;refine⟨0,?_⟩;unfold zEE oN nB;refine j0 rfl (brN (λ_=>?_) λ_=>j0 rfl (brN (λ_=>?_) λ_=>mu ?_));all_goals first|rfl|(simp only [*,zhc,zmE,zsD,zhx,cT,cF]<;>rfl)|simp_all[Ty.cells,zhc,zmE,zsD,zhx]
def zJi:vU 350 zzZ:=kF2 ztp zD zB zu (zy []) zP5
def posts (c:Ctl)(n:Int):Bool:=bif zlB c then (cond (zk n 0 7) (ieq (wand .i64 (zCQ .i64 c.Post n) 1) 1) false) else false
@[simp] abbrev zCx (c:Ctl)(n:Int):Bool:=true
@[simp] abbrev zxI (c:Ctl)(n:Int):Bool:=posts c n
def zFs:Run:=rF2 dC dI λb c=>(zCx b c,[aB<|zxI b c])
def zN1 (N:Nat)(b:Ctl)(a:Int):OA:=
 (oN (zfU b)<|cond (zqa b) (oN (zM a 0 7)<|cond (zk a 0 7) (oN (ile 0<|wcv .u64 a)<|some [aB<|ieq (wand .i64 (zCQ .i64 b.Post<|wcv .u64 a) 1) 1]) oF) oF)
def zVp (b:Ctl)(a:Int)(c:zCx b a=true):∃N,zN1 N b a=some [aB<|zxI b a]:=by have d:=@cv7 a;refine⟨0,?_⟩;unfold zN1 oN;refine j0 rfl (br (λ_=>j0 rfl (br (λ_=>mu ?_) λ_=>?_)) λ_=>?_);all_goals first|rfl|(simp only [*,zxI,posts,cT,cF]<;>rfl)|simp_all[Ty.cells,zxI,posts]
def zPC:vU 438 zFs:=kF2 ztp zD zB zu (zy []) zVp
def zcm (b:ao)(g:Int):Bool:=bif zcf b then i0 g (ln b.ad) else false
def zdP {b:ao}{g:Int}:(zcm b g=true)↔zcf b=true/\i0 g (ln b.ad)=true:=by unfold zcm;cases zcf b<;>simp
@[simp] abbrev zfY (b:ao)(g:Int):Bool:=pc (SmB b)
@[simp] abbrev zkz (b:ao)(g:Int):Bool:=zcm b g
def zFu:Run:=rF2 (dT .bare) dI λb c=>(zfY b c,[aB<|zkz b c])
def zN5 (N:Nat)(a:ao)(b:Int):OA:=
 (oN (zoN a)<|cond (ze6 a) (oN (zM b 0<|wsub .i64 (ln a.ad) 1)<|some [aB<|zk b 0<|wsub .i64 (ln a.ad) 1]) oF)
def zVs (a:ao)(b:Int)(c:zfY a b=true):∃N,zN5 N a b=some [aB<|zkz a b]:=by have d:=zS.1 c;have e:a.ad.length<=1048576:=d.2.1.1;refine⟨0,?_⟩;unfold zN5 oN;refine j0 rfl (br (λ_=>j0 rfl ?_) λ_=>?_);all_goals first|rfl|(simp only [*,zkz,zcm,cT,cF]<;>rfl)|simp_all[Ty.cells,zkz,zcm]
def zPF:vU 345 zFu:=kF2 ztp zD zB zu (zy []) zVs
def z6b:zbf:=[(347,zxD),(350,zzZ),(438,zFs),(345,zFu)]++z6a
def zkY:zN z6b:=zi zGL (zi zJi<|zi zPC<|zi zPF ztp)
def z4J {b:Type}{l:List b}{i:Int}{d:b}(h:i0 i (ln l)=true):up l i (ix l i d)=l:=by obtain⟨k,rfl,a⟩:=zdY (n:=l.length) h;unfold up;rw[zbi a,kJ];exact vC a
def ztt {b:ao}{g:Int}(h:i0 g (ln b.ad)=true):gAt b g=ix b.ad g zI:=by unfold gAt;rw[h];rfl
def z1J {b:ao}{g:Int}(h:i0 g (ln b.ad)=true):zeH b g (gAt b g)=b:=by unfold zeH;rw[ztt h,z4J h]
def chg (b:ao)(g:Int)(c:Bool)(x:ah):ao:=bif (cond (zcm b g) c false) then zeH b g x else b
def zck (b:ao)(g:Int)(c:Bool):Bool:=bif zcm b g then c else false
def zwm (p:Int)(s:k0):Bool:=bif i0 p 4 then zdO s 8 else false
def zCC (x:ah)(p:Int)(s:k0):ah:={x with aA:=zev x.aA p s}
def zd5 (x:ah)(p:Int):ah:={x with ay:=zev x.ay p (zbv x.aA p)}
def zk5:aD:=⟨0,0,false,0⟩
def zvS (x:ah)(v:Int):Bool:=bif zk v 0 99 then (cond (ieq x.Exit.Kind 2) true<|ieq x.Exit.Kind 3) else false
def zx8 (x:ah)(v:Int):ah:=zcn (stopped (cond (ieq x.Exit.Kind 2) {x with A:=v} x) zk5)
def zCd (x:ah):Bool:=bif ieq x.Exit.Kind 1 then true else ieq x.Exit.Kind 4
def zyT (x:ah):ah:=bif ieq x.Exit.Kind 1 then stopped x zk5 else held (stopped x zk5)
def zoe (x:ah)(n:Int):ah:={x with an:=zsD x.an n}
def zLp (x:ah)(c:Ctl):ah:={x with Ctl:=c}
def z8a {x:ah}{n:Int}(h:zhx x.an n=false):zoe x n=x:=by unfold zoe zsD;rw[h];rfl
def z4w {x:ah}(p:Int)(s:k0)(h:SmG x):SmG (zCC x p s):=⟨h.1,by simpa [zCC] using h.2.1,h.2.2.1,h.2.2.2⟩
def zKM {x:ah}(p:Int)(h:SmG x):SmG (zd5 x p):=⟨h.1,h.2.1,by simpa [zd5] using h.2.2.1,h.2.2.2⟩
def z4u {x:ah}(v:Int)(h:SmG x):SmG (zx8 x v):=by unfold zx8;cases ieq x.Exit.Kind 2<;>exact zlv h
def z4v {x:ah}(h:SmG x):SmG (zyT x):=by unfold zyT;cases ieq x.Exit.Kind 1;{exact zT3 (g:=stopped x zk5) h};{exact h}
def zql {b:ao}{g:Int}{c:Bool}{x:ah}(h:SmB b)(a:SmG x):SmB (chg b g c x):=by unfold chg;cases (cond (zcm b g) c false);{exact h};{exact znw h a}
@[simp] abbrev zqR (b:ao)(g p:Int)(s:k0):Bool:=pc (SmB b)
@[simp] abbrev zex (b:ao)(g p:Int)(s:k0):ao:=chg b g (zwm p s) (zCC (gAt b g) p s)
@[simp] abbrev zfm (b:ao)(g p:Int)(s:k0):Bool:=zck b g (zwm p s)
def zr3:Run:=rF4 (dT .bare) dI dI (dT .slot) λb c d e=>(zqR b c d e,[aT .bare<|zex b c d e,aB<|zfm b c d e])
def zEp (N:Nat)(f:ao)(b c:Int)(d:k0):OA:=
 let a:=zcz f;let e:=ix a.ad b zI; (oN (zdR f)<|oN (zfY a b)<|cond (nB<|zkz a b) (some [aT .bare a,aB false])<|oN (zM c 0 3)<|cond (nB<|zk c 0 3) (some [aT .bare a,aB false])<|oN (zl1 d 8)<|cond (nB<|ziw d 8) (some [aT .bare a,aB false])<|oN (inb b<|ln a.ad)<|oN (zo0 e.aA c d)<|oN (inb b<|ln a.ad)<|p0 (up a.ad b ({e with aA:=(zl3 e.aA c d)}:ah)) λg=>some [aT .bare ({a with ad:=g}:ao),aB true])
def zPQ (b:ao)(a c:Int)(d:k0)(e:zqR b a c d=true):∃N,zEp N b a c d=some [aT .bare<|zex b a c d,aB<|zfm b a c d]:=by
 have f:=zS.1 e;have g:=zkj a f;have k:zcm b a=true->i0 a (ln b.ad)=true:=λh=>(zdP.1 h).2;have i:zcm b a=true->gAt b a=ix b.ad a zI:=λh=>ztt (zdP.1 h).2;have j:=g.2.1;refine⟨0,?_⟩;unfold zEp oN nB;conv=>zeta
 refine mu (mu<|brN (λ_=>?_) λ_=>j0 rfl (brN (λ_=>?_) λ_=>j0 rfl (brN (λ_=>?_) λ_=>mu (mu<|mu<|shr ?_))));all_goals first|rfl|(simp only [*,zex,zfm,chg,zck,zwm,zCC,zeH,cT,cF]<;>rfl)|simp_all[Ty.cells,zex,zfm,chg,zck,zwm,zCC,zeH]
def zuU:vU 157 zr3:=kF4 zkY zD zB zu (zy []) zPQ
@[simp] abbrev zsb (b:ao)(g p:Int):Bool:=pc (SmB b)
@[simp] abbrev ze0 (b:ao)(g p:Int):ao:=chg b g (i0 p 4) (zd5 (gAt b g) p)
@[simp] abbrev zhR (b:ao)(g p:Int):Bool:=zck b g (i0 p 4)
def zoq:Run:=rF3 (dT .bare) dI dI λb c d=>(zsb b c d,[aT .bare<|ze0 b c d,aB<|zhR b c d])
def zzj (N:Nat)(f:ao)(d b:Int):OA:=
 let a:=zcz f;let e:=inb d<|ln a.ad;let c:=ix a.ad d zI; (oN (zdR f)<|oN (zfY a d)<|cond (nB<|zkz a d) (some [aT .bare a,aB false])<|oN (zM b 0 3)<|cond (nB<|zk b 0 3) (some [aT .bare a,aB false])<|oN e<|oN e<|oN (zgl c.aA b)<|oN (zo0 c.ay b<|zeM c.aA b)<|oN e<|p0 (up a.ad d ({c with ay:=(zl3 c.ay b<|zeM c.aA b)}:ah)) λg=>some [aT .bare ({a with ad:=g}:ao),aB true])
def zJS (b:ao)(a c:Int)(d:zsb b a c=true):∃N,zzj N b a c=some [aT .bare<|ze0 b a c,aB<|zhR b a c]:=by
 have e:=zS.1 d;have f:=zkj a e;have j:zcm b a=true->i0 a (ln b.ad)=true:=λh=>(zdP.1 h).2;have g:zcm b a=true->gAt b a=ix b.ad a zI:=λh=>ztt (zdP.1 h).2;have i:=f.2.2.1;refine⟨0,?_⟩;unfold zzj oN nB;conv=>zeta
 refine mu (mu<|brN (λ_=>?_) λ_=>j0 rfl (brN (λ_=>?_) λ_=>mu (mu (j0 rfl (mu<|mu<|shr ?_)))));all_goals first|rfl|(simp only [*,ze0,zhR,chg,zck,zd5,zeH,cT,cF]<;>rfl)|simp_all[Ty.cells,ze0,zhR,chg,zck,zd5,zeH]
def zsl:vU 158 zoq:=kF3 zkY zD zB zu (zy []) zJS
@[simp] abbrev zlW (b:ao)(g v:Int):Bool:=pc (SmB b)
@[simp] abbrev zdu (b:ao)(g v:Int):ao:=chg b g (zvS (gAt b g) v) (zx8 (gAt b g) v)
@[simp] abbrev zea (b:ao)(g v:Int):Bool:=zck b g (zvS (gAt b g) v)
def znj:Run:=rF3 (dT .bare) dI dI λb c d=>(zlW b c d,[aT .bare<|zdu b c d,aB<|zea b c d])
def zwy (N:Nat)(i:ao)(b e:Int):OA:=
 let a:=zcz i;let h:=inb b<|ln a.ad;let d:=(⟨0,0,false,0⟩:aD);let c:=ix a.ad b zI;let g:=({c with A:=e}:ah); (oN (zdR i)<|oN (zfY a b)<|cond (nB<|zkz a b) (some [aT .bare a,aB false])<|oN (zM e 0 99)<|cond (nB<|zk e 0 99) (some [aT .bare a,aB false])<|oN h<|cond (ieq c.Exit.Kind 2) (oN (zey g d)<|oN (zb9<|zdW g d)<|oN h<|p0 (up a.ad b<|zeR<|zdW g d) λf=>some [aT .bare ({a with ad:=f}:ao),aB true])<|cond (ieq c.Exit.Kind 3) (oN (zey c d)<|oN (zb9<|zdW c d)<|oN h<|p0 (up a.ad b<|zeR<|zdW c d) λf=>some [aT .bare ({a with ad:=f}:ao),aB true])<|some [aT .bare a,aB false])
def zGZ (b:ao)(a c:Int)(d:zlW b a c=true):∃N,zwy N b a c=some [aT .bare<|zdu b a c,aB<|zea b a c]:=by
 have e:=zS.1 d;have f:=zkj a e;have j:zcm b a=true->i0 a (ln b.ad)=true:=λh=>(zdP.1 h).2;have g:zcm b a=true->gAt b a=ix b.ad a zI:=λh=>ztt (zdP.1 h).2;have i:_/\_/\_/\_:=f;refine⟨0,?_⟩;unfold zwy oN nB;conv=>zeta
 refine mu (mu<|brN (λ_=>?_) λ_=>j0 rfl (brN (λ_=>?_) λ_=>mu (br (λ_=>mu (mu<|mu<|shr ?_)) λ_=>br (λ_=>mu (mu<|mu<|shr ?_)) λ_=>?_)));all_goals first|rfl|(simp only [*,zdu,zea,chg,zck,zvS,zx8,zk5,zeH,SmG,stopped,cT,cF]<;>rfl)|simp_all[Ty.cells,zdu,zea,chg,zck,zvS,zx8,zk5,zeH,SmG,stopped]
def zrq:vU 159 znj:=kF3 zkY zD zB zu (zy []) zGZ
@[simp] abbrev zdw (b:ao)(g:Int):ao:=chg b g (zCd<|gAt b g) (zyT<|gAt b g)
@[simp] abbrev zec (b:ao)(g:Int):Bool:=zck b g (zCd<|gAt b g)
def znl:Run:=rF2 (dT .bare) dI λb c=>(zfY b c,[aT .bare<|zdw b c,aB<|zec b c])
def zwA (N:Nat)(g:ao)(c:Int):OA:=
 let a:=zcz g;let f:=inb c<|ln a.ad;let d:=(⟨0,0,false,0⟩:aD);let b:=ix a.ad c zI; (oN (zdR g)<|oN (zfY a c)<|cond (nB<|zkz a c) (some [aT .bare a,aB false])<|oN f<|cond (ieq b.Exit.Kind 1) (oN (zey b d)<|oN f<|p0 (up a.ad c<|zdW b d) λe=>some [aT .bare ({a with ad:=e}:ao),aB true])<|cond (ieq b.Exit.Kind 4) (oN (zey b d)<|oN (zb9<|zdW b d)<|oN f<|p0 (up a.ad c<|zxH<|zdW b d) λe=>some [aT .bare ({a with ad:=e}:ao),aB true])<|some [aT .bare a,aB false])
def zG1 (b:ao)(a:Int)(c:zfY b a=true):∃N,zwA N b a=some [aT .bare<|zdw b a,aB<|zec b a]:=by
 have d:=zS.1 c;have e:=zkj a d;have i:zcm b a=true->i0 a (ln b.ad)=true:=λh=>(zdP.1 h).2;have f:zcm b a=true->gAt b a=ix b.ad a zI:=λh=>ztt (zdP.1 h).2;have g:_/\_/\_/\_:=e;refine⟨0,?_⟩;unfold zwA oN nB;conv=>zeta
 refine mu (mu<|brN (λ_=>?_) λ_=>mu (br (λ_=>mu (mu<|shr ?_)) λ_=>br (λ_=>mu (mu<|mu<|shr ?_)) λ_=>?_));all_goals first|rfl|(simp only [*,zdw,zec,chg,zck,zCd,zyT,zk5,zeH,SmG,stopped,cT,cF]<;>rfl)|simp_all[Ty.cells,zdw,zec,chg,zck,zCd,zyT,zk5,zeH,SmG,stopped]
def zrt:vU 160 znl:=kF2 zkY zD zB zu (zy []) zG1
def z9e {b:ao}{g:Int}{c:Bool}{x:ah}(h:zcm b g=false):chg b g c x=b:=by unfold chg;rw[h];rfl
def z7j {b:ao}{g n:Int}(h:zcm b g=true):chg b g (zhx (gAt b g).an n) (zoe (gAt b g) n)=zeH b g (zoe (gAt b g) n):=by unfold chg;rw[h];cases a:zhx (gAt b g).an n;{rw [z8a a,z1J (zdP.1 h).2];rfl};{rfl}
@[simp] abbrev zlX (b:ao)(g n:Int):Bool:=pc (SmB b)
@[simp] abbrev zdv (b:ao)(g n:Int):ao:=chg b g (zhx (gAt b g).an n) (zoe (gAt b g) n)
@[simp] abbrev zeb (b:ao)(g n:Int):Bool:=zck b g (zhx (gAt b g).an n)
def znk:Run:=rF3 (dT .bare) dI dI λb c d=>(zlX b c d,[aT .bare<|zdv b c d,aB<|zeb b c d])
def zwz (N:Nat)(e:ao)(b d:Int):OA:=
 let a:=zcz e;let c:=ix a.ad b zI; (oN (zdR e)<|oN (zfY a b)<|cond (nB<|zkz a b) (some [aT .bare a,aB false])<|oN (inb b<|ln a.ad)<|oN (zku c.an d)<|oN (inb b<|ln a.ad)<|p0 (up a.ad b ({c with an:=(zhc c.an d)}:ah)) λf=>some [aT .bare ({a with ad:=f}:ao),aB<|zmE c.an d])
def zG0 (a:ao)(b c:Int)(d:zlX a b c=true):∃N,zwz N a b c=some [aT .bare<|zdv a b c,aB<|zeb a b c]:=by
 have i:=zS.1 d;have j:zcm a b=true->i0 b (ln a.ad)=true:=λh=>(zdP.1 h).2;have f:zcm a b=true->gAt a b=ix a.ad b zI:=λh=>ztt (zdP.1 h).2;have g:=@z7j a b c;have e:=@z9e a b (zhx (gAt a b).an c) (zoe (gAt a b) c);refine⟨0,?_⟩;unfold zwz oN nB;conv=>zeta
 refine mu (mu<|brN (λ_=>?_) λ_=>mu (j0 rfl (mu<|shr ?_)));all_goals first|rfl|(simp only [*,zdv,zeb,zck,zeH,zoe,cT,cF]<;>rfl)|simp_all[Ty.cells,zdv,zeb,zck,zeH,zoe]
def zrr:vU 161 znk:=kF3 zkY zD zB zu (zy []) zG0
@[simp] abbrev zqQ (b:ao)(g:Int)(c:Ctl):Bool:=pc (SmB b)
@[simp] abbrev zew (b:ao)(g:Int)(c:Ctl):ao:=chg b g (zlB c) (zLp (gAt b g) c)
@[simp] abbrev zfl (b:ao)(g:Int)(c:Ctl):Bool:=zck b g (zlB c)
def zr2:Run:=rF3 (dT .bare) dI dC λb c d=>(zqQ b c d,[aT .bare<|zew b c d,aB<|zfl b c d])
def zEo (N:Nat)(d:ao)(b:Int)(c:Ctl):OA:=
 let a:=zcz d; (oN (zdR d)<|oN (zfY a b)<|cond (nB<|zkz a b) (some [aT .bare a,aB false])<|oN (zfU c)<|cond (nB<|zqa c) (some [aT .bare a,aB false])<|oN (inb b<|ln a.ad)<|p0 (up a.ad b ({ (ix a.ad b zI) with Ctl:=c}:ah)) λe=>some [aT .bare ({a with ad:=e}:ao),aB true])
def zPP (a:ao)(b:Int)(c:Ctl)(d:zqQ a b c=true):∃N,zEo N a b c=some [aT .bare<|zew a b c,aB<|zfl a b c]:=by
 have f:=zS.1 d;have g:zcm a b=true->i0 b (ln a.ad)=true:=λh=>(zdP.1 h).2;have e:zcm a b=true->gAt a b=ix a.ad b zI:=λh=>ztt (zdP.1 h).2;refine⟨0,?_⟩;unfold zEo oN nB;conv=>zeta
 refine mu (mu<|brN (λ_=>?_) λ_=>j0 rfl (brN (λ_=>?_) λ_=>mu (shr ?_)));all_goals first|rfl|(simp only [*,zew,zfl,chg,zck,zLp,zeH,cT,cF]<;>rfl)|simp_all[Ty.cells,zew,zfl,chg,zck,zLp,zeH]
def zuT:vU 162 zr2:=kF3 zkY zD zB zu (zy []) zPP
def z6G (p c v:Int):Bool:=bif i0 p 8 then (cond (i0 c 4) (zk v 0 99) false) else false
def zxd (b:ao)(p c v:Int):Bool:=bif zcf b then z6G p c v else false
def zQQ (b:ao)(p c v:Int):ao:=bif zxd b p c v then {b with ag:=zbM b.ag p c v} else b
def zm9 (b:ao):ao:=bif zcf b then {b with an:=zkp b.an} else b
def zth (b:ao):Int:=bif zcf b then ztG b.an else -1
def zmQ (b:ao):Bool:=bif zcf b then !ilt (zd7 b.an) 0 else false
def zn7 (b:ao)(g a n:Int):Bool:=bif zcm b g then (cond (zk a 0 15) (zfN (gAt b g).ay (zbm a) n) false) else false
def zCZ (b:ao)(g a n:Int):Int:=zcO (gAt b g).ay (zbm a) n
def zym (b:ao)(g a v:Int):Bool:=bif zn7 b g a 2 then zk v 0 99 else false
def zXZ (b:ao)(g a v:Int):ao:=bif zym b g a v then {b with ag:=zbM b.ag (zCZ b g a 2) (zdp a) v} else b
def zQU (b:ao)(g a:Int):Int:=bif zn7 b g a 1 then cellAt b.ag (zCZ b g a 1) (zdp a) else 0
@[simp] abbrev zeU (b:ao):ao:=zm9 b
@[simp] abbrev zgg (b:ao):Int:=zth b
@[simp] abbrev zgh (b:ao):Bool:=zmQ b
def zr1:Run:=rF1 (dT .bare) λb=>(zdR b,[aT .bare<|zeU b,aI<|zgg b,aB<|zgh b])
def zEn (N:Nat)(b:ao):OA:=
 let a:=zcz b; (oN (zdR b)<|oN (zoN a)<|cond (nB<|ze6 a) (some [aT .bare a,aI<|-1,aB false])<|oN (zc6 a.an)<|some [aT .bare ({a with an:=(zkw a.an)}:ao),aI<|zkx a.an,aB<|zmF a.an])
def zPO (a:ao)(b:zdR a=true):∃N,zEn N a=some [aT .bare<|zeU a,aI<|zgg a,aB<|zgh a]:=by
 have c:=zS.1 b;refine⟨0,?_⟩;unfold zEn oN nB;conv=>zeta
 refine mu (j0 rfl (brN (λ_=>?_) λ_=>j0 rfl ?_));all_goals first|rfl|(simp only [*,zeU,zgg,zgh,zm9,zth,zmQ,zkp,ztG,cT,cF]<;>rfl)|simp_all[Ty.cells,zeU,zgg,zgh,zm9,zth,zmQ,zkp,ztG]
def zuS:vU 165 zr1:=kF1 zkY zD zB zu (zy []) zPO
def z6c:zbf:=z6b
def zRE:zN z6c:=zkY
def zer (l:List ah)(n:Int):LI:=idxs (λ(x:ah)=>posts x.Ctl n) l 0
def zSd {d:Type}(p:d->Bool):∀(l:List d) (i:Nat),∀k∈idxs p l i,(i:Int)<=k/\k<(i:Int)+l.length
 |[],_,k,a=>by cases a
 |x::l,i,k,a=>by have c:=zSd p l (i+1);simp only[qY];unfold idxs at a;cases b:p x;{rw [b]at a;have:=c k a;omega};{rw [b]at a;rcases qG.1 a with rfl|a;{omega};{have:=c k a;omega}}
@[simp] abbrev zhB (b:ao)(n:Int):Bool:=pc (SmB b)
@[simp] abbrev zlZ (b:ao)(n:Int):LI:=zer b.ad n
def zxz:Run:=rF2 (dT .bare) dI λb c=>(zhB b c,[aS .int<|zlZ b c])
def zAW (N:Nat)(c:ao)(f:Int):OA:=
 (r0 (σ:=(Int×Int×Int×LI×lM×lG×LI×Unit)) N (λd a=>let c:=a.2.2.2.2;let b:=c.2.1;let e:=(ix b a.2.1 zI).Ctl; (cond (ilt a.2.1<|ln b) (oN (inb a.2.1<|ln b)<|oN (zCx e a.1)<|cond (zxI e a.1) (oN (few<|ln<|ap a.2.2.2.1 [a.2.1])<|d (a.1,zK .i64 a.2.1 1,a.2.2.1,ap a.2.2.2.1 [a.2.1],c.1,b,c.2.2.1,()))<|d (a.1,zK .i64 a.2.1 1,a.2.2.1,a.2.2.2.1,c.1,b,c.2.2.1,()))<|some [aS .int a.2.2.2.1])) (f,0,c.an,[],c.ag,c.ad,c.Outs,()))
def zNz:=zy [(352,0,{n:=28,tm:=[(1,ti),(2,.lp 0 0),(5,.sl 0 []),(6,ti)],lo:=[(0,[.sl 1 [],.sl 2 [],.sl 3 [],ti])],ro:=[(0,.int,true),(1,.sl .int,false),(2,.guest,false),(3,.int,false)]})]
def zMQ (a:ao)(b:Int)(g:zhB a b=true):∃N,zAW N a b=some [aS .int<|zlZ a b]:=by
 have h:=zS.1 g;have e:=zcY h.2.1.1;refine zcd λN d=>?_;unfold zAW oN;conv=>zeta
 refine(zbg a.ad (λi (t:LI)=>(b,(i:Int),a.an,t,a.ag,a.ad,a.Outs,())) _ (λi (x:ah) (t:LI) f=>bif posts x.Ctl b then (cond (few<|ln<|ap t [(i:Int)]) (f<|ap t [(i:Int)]) none) else f t) (λ(t:LI)=>some [.one<|.s .int t]) (λi c t rec=>?_) (λt rec=>?_) _ ([])<|d e.1).trans ?_;{simp only [zbx c,zY c,zbi c,zV c e.1,cT]};{simp only [zbq,cF]};exact ztv (λ(x:ah)=>posts x.Ctl b) _ a.ad 0 [] (by simpa using e.2)
def zGD:vU 352 zxz:=kF2 zRE zD zB zu zNz zMQ
def z6d:zbf:=[(352,zxz)]++z6c
def zRF:zN z6d:=zi zGD zRE
def zDl (n:Int)(l:List ah)(k:Int):List ah:=up l k (zoe (ix l k zI) n)
def zlN (n:Int)(a:LI)(l:List ah):List ah:=a.foldl (zDl n) l
def zCa (n:Int)(l:List ah)(k:Int):(zDl n l k).length=l.length:=zg1 _ _ _
def zZn {n:Int}{l:List ah}{k:Int}(a:i0 k (ln l)=true)(h:zme l):zme (zDl n l k):=zDp h (z1Q h a _)
def zCG {n:Int}:∀(a:LI) {l:List ah},(∀k∈a,i0 k (ln l)=true)->zme l->zme (zlN n a l)/\(zlN n a l).length=l.length
 |[],_,_,h=>⟨h,rfl⟩
 |k::a,l,b,h=>by have e:=zZn (n:=n) (b k (by simp)) h;obtain⟨c,d⟩:=zCG (n:=n) a (l:=zDl n l k) (λj f=>by rw[ln,zCa];exact b j (by simp[f])) e;exact⟨c,d.trans<|zCa _ _ _⟩
def zR0 {e:Type}(n:Int)(K:List ah->Option e):∀(a:LI) (i:Nat) (l:List ah),(∀k∈a,i0 k (ln l)=true)->
 goL (λ_ k (t:List ah) d=>bif inb k (ln t) then (cond (inb k<|ln t) (d<|up t k<|zoe (ix t k zI) n) none) else none) K a i l=K (zlN n a l)
 |[],_,_,_=>rfl
 |k::a,i,l,h=>by have c:inb k (ln l)=true:=h k (by simp);simp only[goL,c,cT];exact zR0 n K a (i+1) (zDl n l k) (λj b=>by rw[ln,zCa];exact h j (by simp[b]))
def zDm (b:ao)(n:Int):ao:=bif ieq (ln<|zer b.ad n) 0 then {b with an:=zsD b.an n} else {b with ad:=zlN n (zer b.ad n) b.ad}
def zfR (b:ao)(n:Int):Bool:=bif zcf b then i0 n 8 else false
def zkM (b:ao)(n:Int):ao:=bif zfR b n then zDm b n else b
def zKj {b:ao}{n:Int}:∀k∈zer b.ad n,i0 k (ln b.ad)=true:=λk a=>by have:=zSd _ _ _ k a;exact qL (by simp only[ln];omega)
def zYN {b:ao}{n:Int}(h:ieq (ln<|zer b.ad n) 0=true):zlN n (zer b.ad n) b.ad=b.ad:=by have a:((zer b.ad n).length:Int)=0:=qD h;have:zer b.ad n=[]:=uY.1 (by omega);rw[this];rfl
def zYM {b:ao}{n:Int}:(cond (ieq (ln<|zer b.ad n) 0) (some [AV.agg<|Ty.cells .bare ⟨b.ag,zlN n (zer b.ad n) b.ad,b.Outs,zsD b.an n⟩,AV.one<|.b true])<|some [AV.agg<|Ty.cells .bare ⟨b.ag,zlN n (zer b.ad n) b.ad,b.Outs,b.an⟩,AV.one<|.b true])=some [AV.agg<|Ty.cells .bare<|zDm b n,AV.one<|.b true]:=by unfold zDm;cases h:ieq (ln<|zer b.ad n) 0;{rfl};{simp only [cT,zYN h]}
@[simp] abbrev zeV (b:ao)(n:Int):ao:=zkM b n
@[simp] abbrev zgC (b:ao)(n:Int):Bool:=zfR b n
def zp1:Run:=rF2 (dT .bare) dI λb c=>(zhB b c,[aT .bare<|zeV b c,aB<|zgC b c])
def zAN (N:Nat)(i:ao)(e:Int):OA:=
 let b:=zcz i; (oN (zdR i)<|oN (zoN b)<|cond (nB<|ze6 b) (some [aT .bare b,aB false])<|oN (zM e 0 7)<|cond (nB<|zk e 0 7) (some [aT .bare b,aB false])<|oN (zhB b e)<|r0 (σ:=(Int×Int×Int×Int×LI×lM×lG×LI×lM×lG×LI×Unit)) N (λj a=>let b:=a.2.2.2.2.2;let h:=b.2.2.1;let d:=a.2.2.2.2.1;let c:=b.2.1;let f:=ix d a.2.1 0;let g:=ix c f zI; (cond (ilt a.2.1<|ln d) (oN (inb a.2.1<|ln d)<|oN (inb a.2.1<|ln d)<|oN (inb f<|ln c)<|oN (zku g.an a.1)<|oN (inb f<|ln c)<|j (a.1,zK .i64 a.2.1 1,a.2.2.1,a.2.2.2.1,d,b.1,up c f ({g with an:=(zhc g.an a.1)}:ah),h,b.2.2.2.1,b.2.2.2.2.1,b.2.2.2.2.2.1,()))<|cond (ieq (ln d) 0) (oN (zku a.2.2.1 a.1)<|some [aT .bare (⟨b.1,c,h,zhc a.2.2.1 a.1⟩:ao),aB true])<|some [aT .bare (⟨b.1,c,h,a.2.2.1⟩:ao),aB true])) (e,0,b.an,0,zlZ b e,b.ag,b.ad,b.Outs,[],[],[],()))
def zNv:=zy [(164,0,{n:=62,tm:=[(1,ti),(2,.lp 0 0),(4,.lp 1 0),(6,.sl 0 []),(7,ti)],lo:=[(0,[.sl 1 [],.sl 2 [],.sl 3 [],ti]),(1,[.sl 4 [],.sl 5 [],.sl 6 [],ti])],ro:=[(0,.int,true),(1,.sl .int,true),(2,.guest,true),(3,.int,true),(4,.sl .int,true),(5,.guest,true),(6,.int,true)]})]
def zMG (a:ao)(c:Int)(l:zhB a c=true):∃N,zAN N a c=some [aT .bare<|zeV a c,aB<|zgC a c]:=by
 have h:=zS.1 l;have j:(zer a.ad c).length<=big:=qU (zyB _ _ _) (zcY h.2.1.1).1;refine zcd λN g=>?_;unfold zAN zeV zgC zkM zfR oN nB;conv=>zeta
 refine j0 (zbn h) (j0 rfl (brN (λe=>?_) λe=>j0 rfl (brN (λd=>?_) λd=>j0 (zbn h) ?_)));{simp only [show zcf a=false from e,cF]};{simp only [show zcf a=true from e,show i0 c 8=false from by first|exact d|exact(z2i c).symm.trans d,cT,cF]};simp only[show zcf a=true from e,show i0 c 8=true from by first|exact d|exact(z2i c).symm.trans d,cT];refine(zbg (zlZ (zcz a) c) (λi (t:lG)=>(c,(i:Int),(zcz a).an,0,zlZ (zcz a) c,(zcz a).ag,t,(zcz a).Outs,[],[],[],())) _ (λ_ k (t:List ah) m=>bif inb k (ln t) then (cond (inb k<|ln t) (m<|up t k<|zoe (ix t k zI) c) none) else none) (λ(t:lG)=>cond (ieq (ln<|zlZ (zcz a) c) 0) (cond (zku (zcz a).an c) (some [.agg<|Ty.cells .bare (⟨(zcz a).ag,t,(zcz a).Outs,zhc (zcz a).an c⟩:ao),.one<|.b true]) none)<|some [.agg<|Ty.cells .bare (⟨(zcz a).ag,t,(zcz a).Outs,(zcz a).an⟩:ao),.one<|.b true]) (λi f t rec=>?_) (λt rec=>?_) _ ((zcz a).ad)<|g j).trans ?_;{simp only [zbx f,zY f,zbi f,zV f j,cT];rfl};{simp only [zbq,cF];rfl};exact(zR0 c _ _ 0 _ zKj).trans zYM
def ztw:vU 164 zp1:=kF2 zRF zD zB zu zNv zMG
end
end Go.Proofs.YtapgkefgcbapcaaGreat.E
namespace Go.Proofs
open Go Go.Shelf
end Go.Proofs
namespace Go.Proofs.YtapgkefgcbapcaaGreat.E
open Go
set_option linter.defProp false
set_option linter.constructorNameAsVariable false
set_option linter.unusedVariables false
set_option maxRecDepth 100000
set_option linter.unusedSimpArgs false
set_option linter.unusedSectionVars false
noncomputable section
section
open Go Go.RowKit Go.Proofs
section
variable {P:Program}
end
end
def zZQ:zbf:=[(157,zr3),(158,zoq),(159,znj),(160,znl),(161,znk),(162,zr2),(165,zr1),(164,zp1)]++z6d
def zBl:zN zZQ:=zi zuU (zi zsl<|zi zrq<|zi zrt<|zi zrr<|zi zuT<|zi zuS<|zi ztw zRF)
def z16 {n:Int}(h:(ieq n 4||ieq n 8)=true):n=4\/n=8:=by rcases kE _ _ ▸ h with h|h;{exact .inl (qD h)};{exact .inr (qD h)}
def z0Z {n:Int}(h:(ieq n 8||ieq n 12)=true):n=8\/n=12:=by rcases kE _ _ ▸ h with h|h;{exact .inl (qD h)};{exact .inr (qD h)}
@[simp] abbrev zi7 (n:Int):Bool:=ieq n 4||ieq n 8
@[simp] abbrev zg7 (n:Int):List k0:=List.replicate n.toNat ⟨-1,0⟩
def zp6:Run:=rF1 dI λb=>(zi7 b,[aS .slot<|zg7 b])
def zQ5 (N:Nat)(b:Int):OA:=
 (oN (zqS b 0 24)<|r0 (σ:=(Int×lS×Unit)) N (λc a=>cond (igt a.1 0) (oN zbz<|oN (few<|ln<|ap a.2.1 [zW])<|c (wsub .i64 a.1 1,ap a.2.1 [zW],()))<|some [aS .slot a.2.1]) (zrH b 0 24,[],()))
def zNA:=zy [(196,0,{n:=17,tm:=[(3,.sl 0 []),(4,ti)],lo:=[],ro:=[(0,.slot,true)]})]
def zMU (a:Int)(b:zi7 a=true):∃N,zQ5 N a=some [aS .slot<|zg7 a]:=by refine⟨30,?_⟩;have h:a=4\/a=8:=z16 b;rcases h with rfl|rfl<;>(change _=_;kernel_rfl)
def ztB:vU 196 zp6:=kF1 zBl zD zB zu zNA zMU
@[simp] abbrev zoU (n:Int):Bool:=ieq n 8||ieq n 12
@[simp] abbrev zjN (n:Int):List LI:=List.replicate n.toNat [0,0,0,0]
def ztW:Run:=rF1 dI λb=>(zoU b,[aS (.sl .int)<|zjN b])
def zXq (N:Nat)(b:Int):OA:=
 (oN (zqS b 0 24)<|r0 (σ:=(Int×lM×Unit)) N (λc a=>cond (igt a.1 0) (oN (cond (few 4) (ieq 4 4) false)<|oN (few<|ln<|ap a.2.1 [rp 4 0])<|c (wsub .i64 a.1 1,ap a.2.1 [rp 4 0],()))<|some [aS (.sl .int) a.2.1]) (zrH b 0 24,[],()))
def zUt:=zy [(184,0,{n:=17,tm:=[(3,.sl 0 []),(4,ti)],lo:=[],ro:=[(0,.sl .int,true)]})]
def zSG (a:Int)(b:zoU a=true):∃N,zXq N a=some [aS (.sl .int)<|zjN a]:=by refine⟨30,?_⟩;have h:a=8\/a=12:=z0Z b;rcases h with rfl|rfl<;>(change _=_;kernel_rfl)
def zwZ:vU 184 ztW:=kF1 zBl zD zB zu zUt zSG
def zZR:zbf:=[(196,zp6),(184,ztW)]++zZQ
def zOm:zN zZR:=zi ztB (zi zwZ zBl)
def zlu:List k0:=List.replicate 4 ⟨-1,0⟩
def ze3 (p:List Ins):ah:=⟨p,0,0,zlu,zlu,⟨0,0,false⟩,0,⟨0,0,false,0⟩,false,[]⟩
@[simp] abbrev zi6 (p:List Ins):Bool:=pc (p.length<=1048576)
@[simp] abbrev zct (p:List Ins):ah:=ze3 p
def zlQ:Run:=rF1 (dS .ins) λb=>(zi6 b,[aT .guest<|zct b])
def zAQ (N:Nat)(a:lI):OA:=
 (oN (few<|ln<|ap [] a)<|oN (zi7 4)<|oN (zi7 4)<|some [aT .guest (⟨ap [] a,0,0,zg7 4,zg7 4,⟨0,0,false⟩,0,⟨0,0,false,0⟩,false,[]⟩:ah)])
def zMK (a:List Ins)(b:zi6 a=true):∃N,zAQ N a=some [aT .guest<|zct a]:=by have c:=zS.1 b;refine⟨0,?_⟩;unfold zAQ oN;refine mu (j0 rfl (j0 rfl ?_));first|rfl|(simp only [*,zct,ze3,zlu,cT,cF]<;>rfl)|simp_all[Ty.cells,zct,ze3,zlu]
def zng:vU 197 zlQ:=kF1 zOm zD zB zu (zy []) zMK
def z9q:zbf:=[(197,zlQ)]++zZR
def zBm:zN z9q:=zi zng zOm
def zM5:List LI:=List.replicate 8 [0,0,0,0]
def z8Y (a:List (List Ins)):Prop:=a.length<=1048576/\∀p∈a,p.length<=1048576
def zOK {d c j:Type}(m:Nat)(f:d->c)(K:List c->Option j):∀(l:List d) (i:Nat) (a:List c),a.length+l.length<=2147483648->
 goL (λ(i:Nat) x a k=>bif ilt (i:Int) (m:Int) then (cond (few<|ln<|ap a [f x]) (k<|ap a [f x]) none) else K a) K l i a=K (a++(l.take<|m-i).map f)
 |[],i,a,_=>by simp[goL]
 |x::l,i,a,g=>by simp only[qY]at g;have e:few (ln<|ap a [f x])=true:=zgZ (by simp[ap];omega);by_cases h:i<m;{have b:ilt (i:Int) (m:Int)=true:=qL (by omega);simp only[goL,b,e,cT];rw[zOK m f K l (i+1) (ap a [f x]) (by simp[ap];omega)];rw[show m-i=m-(i+1)+1 by omega];simp[ap]};{have b:ilt (i:Int) (m:Int)=false:=qX (by omega);simp only[goL,b,cF];rw[show m-i=0 by omega];simp}
@[simp] abbrev znK (a:GAct):Bool:=true
@[simp] abbrev zxG (a:GAct):Bool:=zk a.Kind 1 17
def zFo:Run:=rF1 (dT .act) λb=>(znK b,[aB<|zxG b])
def zNQ (N:Nat)(a:GAct):OA:=
 (oN (zM a.Kind 1 17)<|some [aB<|zk a.Kind 1 17])
def zVg (a:GAct)(b:znK a=true):∃N,zNQ N a=some [aB<|zxG a]:=by refine⟨0,?_⟩;unfold zNQ oN;refine j0 rfl ?_;first|rfl|(simp only [*,zxG,cT,cF]<;>rfl)|simp_all[Ty.cells,zxG]
def zPs:vU 42 zFo:=kF1 zBm zD zB zu (zy []) zVg
@[simp] abbrev zwf (k:Int):Bool:=true
@[simp] abbrev zrI (k:Int):Bool:=zk k 13 17
def zzU:Run:=rF1 dI λb=>(zwf b,[aB<|zrI b])
def zEz (N:Nat)(a:Int):OA:=
 (oN (zM a 13 17)<|some [aB<|zk a 13 17])
def zPZ (a:Int)(b:zwf a=true):∃N,zEz N a=some [aB<|zrI a]:=by refine⟨0,?_⟩;unfold zEz oN;refine j0 rfl ?_;first|rfl|(simp only [*,zrI,cT,cF]<;>rfl)|simp_all[Ty.cells,zrI]
def zJd:vU 40 zzU:=kF1 zBm zD zB zu (zy []) zPZ
@[simp] abbrev zp9 (a:GAct):Ctl:=⟨a.X,a.Y,ieq a.Z 1⟩
def zFp:Run:=rF1 (dT .act) λb=>(znK b,[.agg<|zmi<|zp9 b])
def zNS (N:Nat)(a:GAct):OA:=
 (some [.agg [.i .i64 a.X,.i .i64 a.Y,.b<|ieq a.Z 1]])
def zVh (a:GAct)(b:znK a=true):∃N,zNS N a=some [.agg<|zmi<|zp9 a]:=by refine⟨0,?_⟩;unfold zNS;first|rfl|(simp only [*,zp9,cT,cF]<;>rfl)|simp_all[Ty.cells,zp9]
def zPu:vU 38 zFp:=kF1 zBm zD zB zu (zy []) zVh
def zRB:zbf:=[(157,zr3),(158,zoq),(159,znj),(160,znl),(161,znk),(162,zr2),(165,zr1),(164,zp1),(184,ztW)]++z5Z
def zBn:zN zRB:=zi zuU (zi zsl<|zi zrq<|zi zrt<|zi zrr<|zi zuT<|zi zuS<|zi ztw<|zi zwZ z3l)
def zda (x:Mon):ao:=⟨zM5,x.ad,x.Outs,x.an⟩
def zuB (x:Mon)(b:ao):Mon:={x with ad:=b.ad,an:=b.an}
def zdj (h:ac)(m:Int)(b:ao):ac:={h with aa:=up h.aa m (zuB (ix h.aa m mZ) b)}
@[simp] abbrev zeX (x:Mon):Bool:=pc (zfZ x)
@[simp] abbrev zbO (x:Mon):ao:=zda x
def zz8:Run:=rF1 (dT .mon) λb=>(zeX b,[aT .bare<|zbO b])
def zEO (N:Nat)(a:Mon):OA:=
 (oN (zoU 8)<|oN (zfX a.ad)<|oN (few<|ln<|ap [] a.Outs)<|some [aT .bare (⟨zjN 8,zgq a.ad,ap [] a.Outs,a.an⟩:ao)])
def zQj (a:Mon)(c:zeX a=true):∃N,zEO N a=some [aT .bare<|zbO a]:=by have b:=zS.1 c;refine⟨0,?_⟩;unfold zEO oN;exact j0 rfl (j0 (zbn<|(zuJ _).2 b.2.2.2.1) (j0 (zwP b.2.2.2.2.1) rfl))
def zJF:vU 332 zz8:=kF1 zBn zD zcy zjh (zy []) zQj
@[simp] abbrev zeW (h:ac)(m:Int)(b:ao):Bool:=pc (i0 m (ln h.aa)=true/\zme b.ad)
@[simp] abbrev zhh (h:ac)(m:Int)(b:ao):ac:=zdj h m b
def z92 {l:List Mon}{m:Int}(a:i0 m (ln l)=true)(b:ao):inb m (ln<|up l m {ix l m mZ with ad:=b.ad})=true/\
 up (up l m {ix l m mZ with ad:=b.ad}) m {ix (up l m {ix l m mZ with ad:=b.ad}) m mZ with an:=b.an}=up l m (zuB (ix l m mZ) b):=by
 obtain⟨k,rfl,c⟩:=zdY (n:=l.length) a;refine⟨zF (by rw[ln,zg1];exact a),?_⟩
 rw[zvF,zd8 c];rfl
def zsa:LW
 |[.agg [.s (.sl .int) b,.s .mon c,.s .entry d,.s .entry e],.one<|.i .i64 f,.agg [.s (.sl .int) g,.s .guest h,.s .int j,.i .i64 k]]=>some (zeW (⟨b,c,d,e⟩:ac) f (⟨g,h,j,k⟩:ao),[aH<|zhh (⟨b,c,d,e⟩:ac) f (⟨g,h,j,k⟩:ao)])
 |_=>none
def zvQ (N:Nat)(b:ac)(a:Int)(c:ao):OA:=
 (oN (zfX c.ad)<|oN (inb a<|ln b.aa)<|p0 (up b.aa a ({ (ix b.aa a zh) with ad:=(zgq c.ad)}:Mon)) λd=>oN (inb a<|ln d)<|p0 (up d a ({ (ix d a zh) with an:=c.an}:Mon)) λe=>some [aH ({b with aa:=e}:ac)])
def zTc (N:Nat)(a:ac)(b:Int)(c:ao):zQM (cQ zRB zoh zYL z4I) (zy []) N 12 333 [true,true,true,true,false,false,false,false,false] [aH a,aI b,aT .bare c]=zvQ N a b c:=by kernel_rfl
def zQi (b:ac)(c:Int)(a:ao)(i:zbY big [aH b,aI c,aT .bare a])(h:zeW b c a=true):∃N,zvQ N b c a=some [aH<|zhh b c a]:=by obtain⟨d,hg⟩:=zS.1 h;obtain⟨f,g⟩:=z92 d a;refine⟨0,?_⟩;unfold zvQ oN;refine j0 (zbn<|(zuJ _).2 hg) (j0 (zF d)<|shr<|j0 f<|shr ?_);have e:zgq a.ad=a.ad:=rfl;rw[e];show some [AV.agg<|zbo {b with aa:=_}]=some [AV.agg<|zbo {b with aa:=_}];rw[show zh=mZ from rfl,g]
def zJE:zdT Tryz.prog 333 [true,true,true,true,false,false,false,false,false] none zsa:=by refine zwX (zf3 zBn zD zcy zjh) (zhJ (by kernel_rfl)) (by kernel_rfl) ?_;intro a g f e h;have c:=zhq e;unfold zsa at h;split at h;{obtain⟨d,rfl⟩:=zef h;obtain⟨N,b⟩:=zQi _ _ _ (by exact c) d;exact⟨_,N,12,(zTc N _ _ _ ).trans b⟩};{cases h}
def zZW:zbf:=[(332,zz8)]++zRB
def zji:zN zZW:=zi zJF zBn
def zbaz:zfu:=[(333,[true,true,true,true,false,false,false,false,false],none,zsa)]++z4I
def zdr:zen zbaz:=zny zjh (by
 intro x a;simp only[qG,qO,or_false]at a;rcases a with rfl
 .exact zJE)
def z6N (h:ac)(m:Int)(a:Bool)(B:ao)(b c:ac->Ans):OA:=
 bif zby h then (cond (zfM h m) (cond (cond (zfL h m) false true) (some<|b h)<|cond (inb m<|ln h.aa) (cond (zeX<|ix h.aa m mZ) (cond a (cond (zeW h m B) (some<|c<|zdj h m B) none) none) none) none) none) else none
def zcK {h:ac}{m:Int}:(zcQ h m=true)↔zbT h=true/\i0 m (ln h.aa)=true:=by unfold zcQ;cases zbT h<;>simp
def znA {h:ac}{m:Int}{cB:Bool}{B:ao}{o0 o1:ac->Ans}(c:SmH h)(e:zcQ h m=true->cB=true)(d:zcQ h m=true->SmB B):z6N h m cB B o0 o1=some (cond (zcQ h m) (o1<|zdj h m B)<|o0 h):=by unfold z6N;refine j0 (zbn<|(zbd h).2 c) (j0 rfl ?_);rw[show zfL h m=zcQ h m from rfl];cases a:zcQ h m;{rfl};{have b:=(zcK.1 a).2;exact zek rfl (j0 (zF b)<|j0 (zbn<|c.2.1.2 _<|zbD b _)<|j0 (e a) (j0 (zbn ⟨b,(d a).2.1⟩) rfl))}
structure SameB (b c:ao):Prop where
 g:b.ad=c.ad
 p:b.an=c.an
 o:zcf b=zcf c
def SameB.at {b c:ao}(h:SameB b c)(g:Int):gAt b g=gAt c g:=by unfold gAt;rw[h.g]
def SameB.has {b c:ao}(h:SameB b c)(g:Int):zcm b g=zcm c g:=by unfold zcm;rw[h.g,h.o]
def back_eq {h:ac}{m:Int}{b c:ao}(hg:b.ad=c.ad)(a:b.an=c.an):zdj h m b=zdj h m c:=by unfold zdj zuB;rw[hg,a]
def zpE {b c:ao}(a:SameB b c)(h:ac)(m g:Int)(k:Bool)(x:ah):zdj h m (chg b g k x)=zdj h m (chg c g k x):=by unfold chg;rw[a.has];cases (cond (zcm c g) k false);{exact back_eq a.g a.p};{exact back_eq (by simp only[cT,zeH,a.g]) a.p}
def zlA {b c:ao}(a:SameB b c)(g:Int)(k:Bool):zck b g k=zck c g k:=by unfold zck;rw[a.has]
def zjm {h:ac}{m:Int}(b:zcQ h m=true)(d:zcf (zda<|ix h.aa m mZ)=true):SameB (zda<|ix h.aa m mZ) (zL h m):=by obtain⟨c,a⟩:=zcK.1 b;refine⟨?_,?_,d.trans (zEQ c a).symm⟩<;>unfold zL zda<;>rw [a]<;>rfl
def z8g:zh6 zM5 8=true:=by decide
def znW {h:ac}{m:Int}(b:zcQ h m=true):zcf (zda<|ix h.aa m mZ)=true:=by obtain⟨c,a⟩:=zcK.1 b;have:=zEQ c a;unfold zL at this;rw[a,cT] at this;unfold zcf at this ⊢;simp only[zda,z8g] at *;simp_all
def ze8 {x:Mon}(h:zfZ x):SmB (zda x):=⟨show SmM zM5 from ⟨by decide,by decide⟩,h.2.2.2.1,h.2.2.2.2.1⟩
def zgM (h:ac)(m:Int)(b:ao):ac:=bif zcQ h m then zdj h m b else h
def zgN (h:ac)(m:Int)(ok:Bool):Bool:=bif zcQ h m then ok else false
@[simp] abbrev zmu (h:ac)(m:Int)(g p:Int)(s:k0):ac:=zgM h m (zex (zL h m) g p s)
@[simp] abbrev zmv (h:ac)(m:Int)(g p:Int)(s:k0):Bool:=zgN h m (zfm (zL h m) g p s)
@[simp] abbrev ziU (h:ac)(m:Int)(g v:Int):ac:=zgM h m (zdu (zL h m) g v)
@[simp] abbrev ziV (h:ac)(m:Int)(g v:Int):Bool:=zgN h m (zea (zL h m) g v)
@[simp] abbrev ziY (h:ac)(m:Int)(g:Int):ac:=zgM h m (zdw (zL h m) g)
@[simp] abbrev ziZ (h:ac)(m:Int)(g:Int):Bool:=zgN h m (zec (zL h m) g)
@[simp] abbrev ziW (h:ac)(m:Int)(g n:Int):ac:=zgM h m (zdv (zL h m) g n)
@[simp] abbrev ziX (h:ac)(m:Int)(g n:Int):Bool:=zgN h m (zeb (zL h m) g n)
@[simp] abbrev zms (h:ac)(m:Int)(g:Int)(x:Ctl):ac:=zgM h m (zew (zL h m) g x)
@[simp] abbrev zmt (h:ac)(m:Int)(g:Int)(x:Ctl):Bool:=zgN h m (zfl (zL h m) g x)
@[simp] abbrev zk2 (h:ac)(m:Int)(n:Int):ac:=zgM h m (zeV (zL h m) n)
@[simp] abbrev zk3 (h:ac)(m:Int)(n:Int):Bool:=zgN h m (zgC (zL h m) n)
@[simp] abbrev zmp (h:ac)(m:Int):ac:=zgM h m (zeU<|zL h m)
@[simp] abbrev zmq (h:ac)(m:Int):Int:=bif zcQ h m then zgg (zL h m) else -1
@[simp] abbrev zmr (h:ac)(m:Int):Bool:=zgN h m (zgh<|zL h m)
@[simp] abbrev zj3 (h:ac)(m g p:Int):Bool:=zgN h m (zck (zL h m) g<|i0 p 4)
def z1m {b c:ao}(a:SameB b c)(n:Int):(zkM b n).ad=(zkM c n).ad/\(zkM b n).an=(zkM c n).an/\zfR b n=zfR c n:=by have e:zfR b n=zfR c n:=(by unfold zfR;rw[a.o]);unfold zkM;rw[e];cases zfR c n;{exact⟨a.g,a.p,rfl⟩};{unfold zDm;rw[a.g];cases ieq (ln<|zer c.ad n) 0;{exact⟨by simp only[cT,cF],by simp only[cT,cF,a.p],rfl⟩};{exact⟨by simp only[cT,a.g],by simp only[cT,a.p],rfl⟩}}
def z2l {b c:ao}(a:SameB b c):(zm9 b).ad=(zm9 c).ad/\(zm9 b).an=(zm9 c).an/\zth b=zth c/\zmQ b=zmQ c:=by unfold zm9 zth zmQ;rw[a.o,a.p];cases zcf c;{exact⟨a.g,a.p,rfl,rfl⟩};{exact⟨a.g,rfl,rfl,rfl⟩}
def z1P {b:ao}{n:Int}(h:SmB b):SmB (zkM b n):=by unfold zkM;cases zfR b n;{exact h};{unfold zDm;cases ieq (ln<|zer b.ad n) 0;{exact⟨h.1,(zCG _ zKj h.2.1).1,h.2.2⟩};{exact h}}
def z4t {b:ao}(h:SmB b):SmB (zm9 b):=by unfold zm9;cases zcf b;{exact h};{exact h}
def zsS {H a:ac}{x y:Bool}(c:H=a)(d:x=y):some [AV.agg<|zbo H,AV.one<|.b x]=some [AV.agg<|zbo a,AV.one<|.b y]:=by rw[c,d]
def z7m {H a:ac}{n k:Int}{x y:Bool}(c:H=a)(d:n=k)(e:x=y):some [AV.agg<|zbo H,AV.one<|.i .i64 n,AV.one<|.b x]=some [AV.agg<|zbo a,AV.one<|.i .i64 k,AV.one<|.b y]:=by rw[c,d,e]
def zW7 {b:ao}(g p:Int)(s:k0)(a:SmB b):SmB (zex b g p s):=zql a (z4w _ _<|zkj _ a)
def z4o {b c:ao}(a:SameB b c)(h:ac)(m:Int)(g p:Int)(s:k0):zdj h m (zex b g p s)=zdj h m (zex c g p s)/\zfm b g p s=zfm c g p s:=by have e:=a.at g;simp only[zex,zfm,e];exact⟨zpE a _ _ _ _ _,zlA a _ _⟩
@[simp] abbrev zwe (h:ac)(m:Int)(g p:Int)(s:k0):Bool:=pc (zcv h)
def zzT:Run:=rF5 dH dI dI dI (dT .slot) λb c d e f=>(zwe b c d e f,[aH<|zmu b c d e f,aB<|zmv b c d e f])
def zEy (N:Nat)(g:ac)(b d e:Int)(f:k0):OA:=
 let a:=zo g;let c:=ix a.aa b zh; (oN (zby g)<|oN (zfM a b)<|cond (nB<|zfL a b) (some [aH a,aB false])<|oN (inb b<|ln a.aa)<|oN (zeX c)<|oN (zqR (zbO c) d e f)<|oN (zeW a b<|zex (zbO c) d e f)<|some [aH<|zhh a b<|zex (zbO c) d e f,aB<|zfm (zbO c) d e f])
def zPY (a:ac)(c d e:Int)(f:k0)(n:zwe a c d e f=true):∃N,zEy N a c d e f=some [aH<|zmu a c d e f,aB<|zmv a c d e f]:=by
 have i:=(zbd a).1 (zS.1 n);refine⟨0,?_⟩;have j:=znA (h:=a) (m:=c) (cB:=zqR (zda<|ix a.aa c mZ) d e f) (B:=zex (zda<|ix a.aa c mZ) d e f) (o0:=λH=>[.agg<|zbo H,.one<|.b false]) (o1:=λH=>[.agg<|zbo H,.one<|.b<|zfm (zda<|ix a.aa c mZ) d e f]) i
  (λg=>zbn (ze8<|i.2.1.2 _<|zbD (zcK.1 g).2 _)) (λg=>zW7 _ _ _ (ze8<|i.2.1.2 _<|zbD (zcK.1 g).2 _))
 refine(show zEy 0 a c d e f=_ from j).trans ?_;unfold zmu zmv zgM zgN;cases g:zcQ a c;{rfl};{obtain⟨k,l⟩:=z4o (zjm g<|znW g) a c d e f;simp only[cT];exact zsS k l}
def zJc:vU 141 zzT:=kF5 zji zD zcy zdr (zy []) zPY
def zKJ {b:ao}(g v:Int)(a:SmB b):SmB (zdu b g v):=zql a (z4u _<|zkj _ a)
def zVW {b c:ao}(a:SameB b c)(h:ac)(m:Int)(g v:Int):zdj h m (zdu b g v)=zdj h m (zdu c g v)/\zea b g v=zea c g v:=by have e:=a.at g;simp only[zdu,zea,e];exact⟨zpE a _ _ _ _ _,zlA a _ _⟩
@[simp] abbrev zqd (h:ac)(m:Int)(g v:Int):Bool:=pc (zcv h)
def ztT:Run:=rF4 dH dI dI dI λb c d e=>(zqd b c d e,[aH<|ziU b c d e,aB<|ziV b c d e])
def zwD (N:Nat)(f:ac)(b d e:Int):OA:=
 let a:=zo f;let c:=ix a.aa b zh; (oN (zby f)<|oN (zfM a b)<|cond (nB<|zfL a b) (some [aH a,aB false])<|oN (inb b<|ln a.aa)<|oN (zeX c)<|oN (zlW (zbO c) d e)<|oN (zeW a b<|zdu (zbO c) d e)<|some [aH<|zhh a b<|zdu (zbO c) d e,aB<|zea (zbO c) d e])
def zG3 (a:ac)(c d e:Int)(l:zqd a c d e=true):∃N,zwD N a c d e=some [aH<|ziU a c d e,aB<|ziV a c d e]:=by
 have g:=(zbd a).1 (zS.1 l);refine⟨0,?_⟩;have i:=znA (h:=a) (m:=c) (cB:=zlW (zda<|ix a.aa c mZ) d e) (B:=zdu (zda<|ix a.aa c mZ) d e) (o0:=λH=>[.agg<|zbo H,.one<|.b false]) (o1:=λH=>[.agg<|zbo H,.one<|.b<|zea (zda<|ix a.aa c mZ) d e]) g
  (λf=>zbn (ze8<|g.2.1.2 _<|zbD (zcK.1 f).2 _)) (λf=>zKJ _ _ (ze8<|g.2.1.2 _<|zbD (zcK.1 f).2 _))
 refine(show zwD 0 a c d e=_ from i).trans ?_;unfold ziU ziV zgM zgN;cases f:zcQ a c;{rfl};{obtain⟨j,k⟩:=zVW (zjm f<|znW f) a c d e;simp only[cT];exact zsS j k}
def zBE:vU 143 ztT:=kF4 zji zD zcy zdr (zy []) zG3
def zKL {b:ao}(g:Int)(a:SmB b):SmB (zdw b g):=zql a (z4v<|zkj _ a)
def zVY {b c:ao}(a:SameB b c)(h:ac)(m:Int)(g:Int):zdj h m (zdw b g)=zdj h m (zdw c g)/\zec b g=zec c g:=by have e:=a.at g;simp only[zdw,zec,e];exact⟨zpE a _ _ _ _ _,zlA a _ _⟩
@[simp] abbrev zqf (h:ac)(m:Int)(g:Int):Bool:=pc (zcv h)
def ztV:Run:=rF3 dH dI dI λb c d=>(zqf b c d,[aH<|ziY b c d,aB<|ziZ b c d])
def zwF (N:Nat)(e:ac)(b d:Int):OA:=
 let a:=zo e;let c:=ix a.aa b zh; (oN (zby e)<|oN (zfM a b)<|cond (nB<|zfL a b) (some [aH a,aB false])<|oN (inb b<|ln a.aa)<|oN (zeX c)<|oN (zfY (zbO c) d)<|oN (zeW a b<|zdw (zbO c) d)<|some [aH<|zhh a b<|zdw (zbO c) d,aB<|zec (zbO c) d])
def zG5 (a:ac)(c d:Int)(k:zqf a c d=true):∃N,zwF N a c d=some [aH<|ziY a c d,aB<|ziZ a c d]:=by
 have f:=(zbd a).1 (zS.1 k);refine⟨0,?_⟩;have g:=znA (h:=a) (m:=c) (cB:=zfY (zda<|ix a.aa c mZ) d) (B:=zdw (zda<|ix a.aa c mZ) d) (o0:=λH=>[.agg<|zbo H,.one<|.b false]) (o1:=λH=>[.agg<|zbo H,.one<|.b<|zec (zda<|ix a.aa c mZ) d]) f
  (λe=>zbn (ze8<|f.2.1.2 _<|zbD (zcK.1 e).2 _)) (λe=>zKL _ (ze8<|f.2.1.2 _<|zbD (zcK.1 e).2 _))
 refine(show zwF 0 a c d=_ from g).trans ?_;unfold ziY ziZ zgM zgN;cases e:zcQ a c;{rfl};{obtain⟨i,j⟩:=zVY (zjm e<|znW e) a c d;simp only[cT];exact zsS i j}
def zBG:vU 144 ztV:=kF3 zji zD zcy zdr (zy []) zG5
def zKK {b:ao}(g n:Int)(a:SmB b):SmB (zdv b g n):=zql a (zkj (b:=b) _ a)
def zVX {b c:ao}(a:SameB b c)(h:ac)(m:Int)(g n:Int):zdj h m (zdv b g n)=zdj h m (zdv c g n)/\zeb b g n=zeb c g n:=by have e:=a.at g;simp only[zdv,zeb,e];exact⟨zpE a _ _ _ _ _,zlA a _ _⟩
@[simp] abbrev zqe (h:ac)(m:Int)(g n:Int):Bool:=pc (zcv h)
def ztU:Run:=rF4 dH dI dI dI λb c d e=>(zqe b c d e,[aH<|ziW b c d e,aB<|ziX b c d e])
def zwE (N:Nat)(f:ac)(b d e:Int):OA:=
 let a:=zo f;let c:=ix a.aa b zh; (oN (zby f)<|oN (zfM a b)<|cond (nB<|zfL a b) (some [aH a,aB false])<|oN (inb b<|ln a.aa)<|oN (zeX c)<|oN (zlX (zbO c) d e)<|oN (zeW a b<|zdv (zbO c) d e)<|some [aH<|zhh a b<|zdv (zbO c) d e,aB<|zeb (zbO c) d e])
def zG4 (a:ac)(c d e:Int)(l:zqe a c d e=true):∃N,zwE N a c d e=some [aH<|ziW a c d e,aB<|ziX a c d e]:=by
 have g:=(zbd a).1 (zS.1 l);refine⟨0,?_⟩;have i:=znA (h:=a) (m:=c) (cB:=zlX (zda<|ix a.aa c mZ) d e) (B:=zdv (zda<|ix a.aa c mZ) d e) (o0:=λH=>[.agg<|zbo H,.one<|.b false]) (o1:=λH=>[.agg<|zbo H,.one<|.b<|zeb (zda<|ix a.aa c mZ) d e]) g
  (λf=>zbn (ze8<|g.2.1.2 _<|zbD (zcK.1 f).2 _)) (λf=>zKK _ _ (ze8<|g.2.1.2 _<|zbD (zcK.1 f).2 _))
 refine(show zwE 0 a c d e=_ from i).trans ?_;unfold ziW ziX zgM zgN;cases f:zcQ a c;{rfl};{obtain⟨j,k⟩:=zVX (zjm f<|znW f) a c d e;simp only[cT];exact zsS j k}
def zBF:vU 145 ztU:=kF4 zji zD zcy zdr (zy []) zG4
def zW6 {b:ao}(g:Int)(x:Ctl)(a:SmB b):SmB (zew b g x):=zql a (zkj (b:=b) _ a)
def z4n {b c:ao}(a:SameB b c)(h:ac)(m:Int)(g:Int)(x:Ctl):zdj h m (zew b g x)=zdj h m (zew c g x)/\zfl b g x=zfl c g x:=by have e:=a.at g;simp only[zew,zfl,e];exact⟨zpE a _ _ _ _ _,zlA a _ _⟩
@[simp] abbrev zwb (h:ac)(m:Int)(g:Int)(x:Ctl):Bool:=pc (zcv h)
def zzQ:Run:=rF4 dH dI dI dC λb c d e=>(zwb b c d e,[aH<|zms b c d e,aB<|zmt b c d e])
def zEv (N:Nat)(f:ac)(b d:Int)(e:Ctl):OA:=
 let a:=zo f;let c:=ix a.aa b zh; (oN (zby f)<|oN (zfM a b)<|cond (nB<|zfL a b) (some [aH a,aB false])<|oN (inb b<|ln a.aa)<|oN (zeX c)<|oN (zqQ (zbO c) d e)<|oN (zeW a b<|zew (zbO c) d e)<|some [aH<|zhh a b<|zew (zbO c) d e,aB<|zfl (zbO c) d e])
def zPV (a:ac)(c d:Int)(e:Ctl)(l:zwb a c d e=true):∃N,zEv N a c d e=some [aH<|zms a c d e,aB<|zmt a c d e]:=by
 have g:=(zbd a).1 (zS.1 l);refine⟨0,?_⟩;have i:=znA (h:=a) (m:=c) (cB:=zqQ (zda<|ix a.aa c mZ) d e) (B:=zew (zda<|ix a.aa c mZ) d e) (o0:=λH=>[.agg<|zbo H,.one<|.b false]) (o1:=λH=>[.agg<|zbo H,.one<|.b<|zfl (zda<|ix a.aa c mZ) d e]) g
  (λf=>zbn (ze8<|g.2.1.2 _<|zbD (zcK.1 f).2 _)) (λf=>zW6 _ _ (ze8<|g.2.1.2 _<|zbD (zcK.1 f).2 _))
 refine(show zEv 0 a c d e=_ from i).trans ?_;unfold zms zmt zgM zgN;cases f:zcQ a c;{rfl};{obtain⟨j,k⟩:=z4n (zjm f<|znW f) a c d e;simp only[cT];exact zsS j k}
def zI9:vU 146 zzQ:=kF4 zji zD zcy zdr (zy []) zPV
def zT1 {b:ao}(n:Int)(a:SmB b):SmB (zeV b n):=z1P a
def z1G {b c:ao}(f:SameB b c)(h:ac)(m n:Int):zdj h m (zeV b n)=zdj h m (zeV c n)/\zgC b n=zgC c n:=by obtain⟨a,d,e⟩:=z1m f n;exact⟨back_eq a d,e⟩
@[simp] abbrev zt3 (h:ac)(m:Int)(n:Int):Bool:=pc (zcv h)
def zxx:Run:=rF3 dH dI dI λb c d=>(zt3 b c d,[aH<|zk2 b c d,aB<|zk3 b c d])
def zAT (N:Nat)(e:ac)(b d:Int):OA:=
 let a:=zo e;let c:=ix a.aa b zh; (oN (zby e)<|oN (zfM a b)<|cond (nB<|zfL a b) (some [aH a,aB false])<|oN (inb b<|ln a.aa)<|oN (zeX c)<|oN (zhB (zbO c) d)<|oN (zeW a b<|zeV (zbO c) d)<|some [aH<|zhh a b<|zeV (zbO c) d,aB<|zgC (zbO c) d])
def zMN (a:ac)(c d:Int)(k:zt3 a c d=true):∃N,zAT N a c d=some [aH<|zk2 a c d,aB<|zk3 a c d]:=by
 have f:=(zbd a).1 (zS.1 k);refine⟨0,?_⟩;have g:=znA (h:=a) (m:=c) (cB:=zhB (zda<|ix a.aa c mZ) d) (B:=zeV (zda<|ix a.aa c mZ) d) (o0:=λH=>[.agg<|zbo H,.one<|.b false]) (o1:=λH=>[.agg<|zbo H,.one<|.b<|zgC (zda<|ix a.aa c mZ) d]) f
  (λe=>zbn (ze8<|f.2.1.2 _<|zbD (zcK.1 e).2 _)) (λe=>zT1 _ (ze8<|f.2.1.2 _<|zbD (zcK.1 e).2 _))
 refine(show zAT 0 a c d=_ from g).trans ?_;unfold zk2 zk3 zgM zgN;cases e:zcQ a c;{rfl};{obtain⟨i,j⟩:=z1G (zjm e<|znW e) a c d;simp only[cT];exact zsS i j}
def zGz:vU 148 zxx:=kF3 zji zD zcy zdr (zy []) zMN
def zW5 {b:ao}(a:SmB b):SmB (zeU b):=z4t a
def z4m {b c:ao}(g:SameB b c)(h:ac)(m:Int):zdj h m (zeU b)=zdj h m (zeU c)/\zgg b=zgg c/\zgh b=zgh c:=by obtain⟨a,d,e,f⟩:=z2l g;exact⟨back_eq a d,e,f⟩
@[simp] abbrev zwa (h:ac)(m:Int):Bool:=pc (zcv h)
def zzP:Run:=rF2 dH dI λb c=>(zwa b c,[aH<|zmp b c,aI<|zmq b c,aB<|zmr b c])
def zEt (N:Nat)(d:ac)(b:Int):OA:=
 let a:=zo d;let c:=ix a.aa b zh; (oN (zby d)<|oN (zfM a b)<|cond (nB<|zfL a b) (some [aH a,aI<|-1,aB false])<|oN (inb b<|ln a.aa)<|oN (zeX c)<|oN (zdR<|zbO c)<|oN (zeW a b<|zeU<|zbO c)<|some [aH<|zhh a b<|zeU<|zbO c,aI<|zgg<|zbO c,aB<|zgh<|zbO c])
def zPT (a:ac)(c:Int)(l:zwa a c=true):∃N,zEt N a c=some [aH<|zmp a c,aI<|zmq a c,aB<|zmr a c]:=by
 have e:=(zbd a).1 (zS.1 l);refine⟨0,?_⟩;have f:=znA (h:=a) (m:=c) (cB:=zdR (zda<|ix a.aa c mZ)) (B:=zeU (zda<|ix a.aa c mZ)) (o0:=λH=>[.agg<|zbo H,.one<|.i .i64<|-1,.one<|.b false]) (o1:=λH=>[.agg<|zbo H,.one<|.i .i64<|zgg<|zda<|ix a.aa c mZ,.one<|.b<|zgh<|zda<|ix a.aa c mZ]) e
  (λd=>zbn (ze8<|e.2.1.2 _<|zbD (zcK.1 d).2 _)) (λd=>zW5 (ze8<|e.2.1.2 _<|zbD (zcK.1 d).2 _))
 refine(show zEt 0 a c=_ from f).trans ?_;unfold zmp zmq zmr zgM zgN;cases d:zcQ a c;{rfl};{obtain⟨g,j,k⟩:=z4m (zjm d<|znW d) a c;simp only[cT];exact z7m g j k}
def zI8:vU 149 zzP:=kF2 zji zD zcy zdr (zy []) zPT
def zZX:zbf:=[(141,zzT),(143,ztT),(144,ztV),(145,ztU),(146,zzQ),(148,zxx),(149,zzP)]++zZW
def zuH:zN zZX:=zi zJc (zi zBE<|zi zBG<|zi zBF<|zi zI9<|zi zGz<|zi zI8 zji)
def zhH (h:ac)(m t:Int):ac:=bif zbT h then (cond (i0 m<|ln h.aa) (cond (zk t 0 3) {h with aa:=up h.aa m {ix h.aa m mZ with ar:=t}} h) h) else h
def zy7 (h:ac)(m t:Int):Bool:=bif zbT h then (cond (i0 m<|ln h.aa) (zk t 0 3) false) else false
@[simp] abbrev zt6 (h:ac)(m t:Int):Bool:=pc (zcv h)
@[simp] abbrev zoX (h:ac)(m t:Int):ac:=zhH h m t
@[simp] abbrev zoY (h:ac)(m t:Int):Bool:=zy7 h m t
def zxA:Run:=rF3 dH dI dI λb c d=>(zt6 b c d,[aH<|zoX b c d,aB<|zoY b c d])
def zAZ (N:Nat)(d:ac)(b c:Int):OA:=
 let a:=zo d; (oN (zby d)<|oN (zei a)<|cond (nB<|zeg a) (some [aH a,aB false])<|oN (zM b 0<|wsub .i64 (ln a.aa) 1)<|cond (nB<|zk b 0<|wsub .i64 (ln a.aa) 1) (some [aH a,aB false])<|oN (zM c 0 3)<|cond (nB<|zk c 0 3) (some [aH a,aB false])<|oN (inb b<|ln a.aa)<|p0 (up a.aa b ({ (ix a.aa b zh) with ar:=c}:Mon)) λe=>some [aH ({a with aa:=e}:ac),aB true])
def zMT (a:ac)(b c:Int)(d:zt6 a b c=true):∃N,zAZ N a b c=some [aH<|zoX a b c,aB<|zoY a b c]:=by
 have g:=(zbd a).1 (zS.1 d);refine⟨0,?_⟩;unfold zAZ zoX zoY zhH zy7 oN nB;conv=>zeta
 refine j0 d (j0 rfl ?_);rw[show zeg (zo a)=zbT a from rfl];cases e:zbT a;{rfl};{refine zek rfl (j0 rfl ?_);rw[show zk b 0 (wsub .i64 (ln (zo a).aa) 1)=i0 b (ln a.aa) from zNL e b];cases f:i0 b (ln a.aa);{rfl};{refine zek rfl (j0 rfl ?_);rw[show zk c 0 3=zk c 0 3 from rfl];cases h:zk c 0 3;{rfl};{exact zek rfl (j0 (zF f) rfl)}}}
def zGG:vU 330 zxA:=kF3 zuH zD zcy zdr (zy []) zMT
def zkt {h:ac}{m p:Int}:(zcs h m p=true)↔zbT h=true/\i0 m (ln h.aa)=true/\i0 p 8=true:=by unfold zcs;cases zbT h<;>cases i0 m (ln h.aa)<;>simp
def ziJ (h:ac)(m p:Int):Bool:=ieq (ix (ix h.aa m mZ).ae p sZ).af (-1)
def zlL (h:ac)(m p:Int):ac:=bif zcs h m p then (cond (ziJ h m p) h<|zdH h m p) else h
def zB8 (h:ac)(m p:Int):Bool:=bif zcs h m p then !ziJ h m p else false
def zok (h:ac)(m p:Int):ac:=bif zcs h m p then (cond (ziJ h m p) (fetched h m p) h) else h
def zHf (h:ac)(m p:Int):Bool:=bif zcs h m p then ziJ h m p else false
@[simp] abbrev zqW (h:ac)(m p:Int):ac:=zlL h m p
@[simp] abbrev zqX (h:ac)(m p:Int):Bool:=zB8 h m p
@[simp] abbrev zsK (h:ac)(m p:Int):ac:=zok h m p
@[simp] abbrev zsL (h:ac)(m p:Int):Bool:=zHf h m p
def zJ7 {h:ac}(f:SmH h)(c:zbT h=true){m p:Int}(d:i0 m (ln h.aa)=true)(e:i0 p 8=true) :
 (cond (ieq (ix (ix h.aa m mZ).ae p sZ).af<|-1) (ieq (ix (ix h.aa m mZ).ae p sZ).aj 0) false)=ziJ h m p:=by
 have a:=(zsA (zg9 c _<|zbD d mZ) e).no;unfold zcx at a;unfold ziJ;rw[<- a];cases b:ieq (ix (ix h.aa m mZ).ae p sZ).af (-1)<;>simp [C0,b]
def zOR {h:ac}(d:SmH h)(a:zbT h=true){m p:Int}(b:i0 m (ln h.aa)=true)(c:i0 p 8=true):inb p (ln (ix h.aa m mZ).ae)=true :=
 zF (by rw[ln,((zfz d a).1.2 _ (zbD b mZ)).1];exact c)
def zzX:Run:=rF3 dH dI dI λb c d=>(zib b c d,[aH<|zqW b c d,aB<|zqX b c d])
def zEC (N:Nat)(e:ac)(c b:Int):OA:=
 let a:=zo e;let d:=(ix a.aa c zh).ae; (oN (zby e)<|oN (znQ a c b)<|cond (nB<|zfT a c b) (some [aH a,aB false])<|oN (inb c<|ln a.aa)<|oN (inb b<|ln d)<|oN zbz<|cond (cond (ieq (ix d b zQ).af zW.af) (ieq (ix d b zQ).aj zW.aj) false) (some [aH a,aB false])<|oN (zjU a c b)<|some [aH<|zns a c b,aB true])
def zP3 (a:ac)(b c:Int)(h:zib a b c=true):∃N,zEC N a b c=some [aH<|zqW a b c,aB<|zqX a b c]:=by
 have g:=(zbd a).1 (zS.1 h);refine⟨0,?_⟩;unfold zEC zqW zqX zlL zB8 oN nB;conv=>zeta
 refine j0 h (j0 rfl ?_);rw[show zfT (zo a) b c=zcs a b c from rfl];cases i:zcs a b c;{rfl};{obtain⟨e,d,f⟩:=zkt.1 i;refine zek rfl (j0 (zF d)<|j0 (zOR g e d f) (j0 rfl ?_));rw[show (cond (ieq (ix (ix (zo a).aa b zh).ae c zQ).af zW.af) (ieq (ix (ix (zo a).aa b zh).ae c zQ).aj zW.aj) false)=ziJ a b c from zJ7 g e d f];cases j:ziJ a b c;{exact zek rfl (j0 (zbn ⟨(zfz g e).1,d,f⟩) rfl)};{rfl}}
def zJg:vU 327 zzX:=kF3 zuH zD zcy zdr (zy []) zP3
def zCo:Run:=rF3 dH dI dI λb c d=>(zib b c d,[aH<|zsK b c d,aB<|zsL b c d])
def zH8 (N:Nat)(e:ac)(c b:Int):OA:=
 let a:=zo e;let d:=(ix a.aa c zh).ae; (oN (zby e)<|oN (znQ a c b)<|cond (nB<|zfT a c b) (some [aH a,aB false])<|oN (inb c<|ln a.aa)<|oN (inb b<|ln d)<|oN zbz<|cond (nB<|cond (ieq (ix d b zQ).af zW.af) (ieq (ix d b zQ).aj zW.aj) false) (some [aH a,aB false])<|oN (zlr a c b)<|some [aH<|zma a c b,aB true])
def zSK (a:ac)(b c:Int)(h:zib a b c=true):∃N,zH8 N a b c=some [aH<|zsK a b c,aB<|zsL a b c]:=by
 have g:=(zbd a).1 (zS.1 h);refine⟨0,?_⟩;unfold zH8 zsK zsL zok zHf oN nB;conv=>zeta
 refine j0 h (j0 rfl ?_);rw[show zfT (zo a) b c=zcs a b c from rfl];cases i:zcs a b c;{rfl};{obtain⟨e,d,f⟩:=zkt.1 i;refine zek rfl (j0 (zF d)<|j0 (zOR g e d f) (j0 rfl ?_));rw[show (cond (ieq (ix (ix (zo a).aa b zh).ae c zQ).af zW.af) (ieq (ix (ix (zo a).aa b zh).ae c zQ).aj zW.aj) false)=ziJ a b c from zJ7 g e d f];cases j:ziJ a b c;{rfl};{exact zek rfl (j0 (zbn ⟨zfz g e,d,f⟩) rfl)}}
def zL2:vU 328 zCo:=kF3 zuH zD zcy zdr (zy []) zSK
def zZY:zbf:=[(330,zxA),(327,zzX),(328,zCo)]++zZX
def zOn:zN zZY:=zi zGG (zi zJg<|zi zL2 zuH)
def zZp {x:Mon}{b:ao}(h:zfZ x)(a:zme b.ad):zfZ (zuB x b):=⟨h.1,h.2.1,h.2.2.1,a,h.2.2.2.2⟩
def zHA {h:ac}{m:Int}{b:ao}(a:SmH h)(d:i0 m (ln h.aa)=true)(c:zme b.ad):SmH (zdj h m b):=
 ⟨a.1,zjn a.2.1<|zZp (a.2.1.2 _<|zbD d _) c,a.2.2⟩
def zRg {h:ac}{m:Int}(b:ao)(a:i0 m (ln h.aa)=true):i0 m (ln (zdj h m b).aa)=true:=by show i0 m (ln<|up h.aa m _)=true;rw[ln,zg1];exact a
def z6X {h:ac}{m:Int}(b:ao)(c:i0 m (ln h.aa)=true):ix (zdj h m b).aa m mZ=zuB (ix h.aa m mZ) b:=by obtain⟨k,rfl,a⟩:=zdY (n:=h.aa.length) c;exact zd8 a _ _
def zBu (h:ac)(m g p:Int):ac:=⟨h.ag,up h.aa m {ix h.aa m mZ with ai:=up (ix h.aa m mZ).ai g (zbW (ix (ix h.aa m mZ).ai g kZ) p)},zcA h.am (ze2 m g) p,zcA h.ak (ze2 m g) p⟩
def z0r (H:ac)(m g p:Int)(o:ac->Ans):OA:=
 bif inb m (ln H.aa) then (bif inb m (ln H.aa) then (bif inb g (ln (ix H.aa m mZ).ai) then (bif zdc (ix (ix H.aa m mZ).ai g kZ) p then (bif inb g (ln (ix H.aa m mZ).ai) then (p0 (up H.aa m {ix H.aa m mZ with ai:=up (ix H.aa m mZ).ai g (zbW (ix (ix H.aa m mZ).ai g kZ) p)}) λx=>
  (cond (zlj m g) (cond (zgT H.am (ze2 m g) p) (cond (zlj m g) (cond (zgT H.ak (ze2 m g) p) (some<|o ⟨H.ag,x,zcA H.am (ze2 m g) p,zcA H.ak (ze2 m g) p⟩) none) none) none) none)) else none) else none) else none) else none) else none
def z0s {H:ac}{m g p:Int}{o:ac->Ans}(b:SmH H)(a:i0 m (ln H.aa)=true)(hg:i0 g (ln (ix H.aa m mZ).ai)=true):z0r H m g p o=some (o<|zBu H m g p):=by have c:=b.2.1.2 _ (zbD a mZ);unfold z0r;exact j0 (zF a) (j0 (zF a)<|j0 (zF hg)<|j0 (zbn<|c.2.2.2.2.2.2 _<|zbD hg _)<|j0 (zF hg)<|shr (j0 rfl (j0 (zbn b.2.2.1) (j0 rfl (j0 (zbn b.2.2.2) rfl)))))
def zh0 (h:ac)(m g p:Int):ac:=bif zcQ h m then (cond (zck (zL h m) g<|i0 p 4) (zBu (zdj h m<|chg (zL h m) g (i0 p 4)<|zd5 (gAt (zL h m) g) p) m g p) h) else h
@[simp] abbrev zsd (h:ac)(m g p:Int):Bool:=pc (zcv h)
@[simp] abbrev zm0 (h:ac)(m g p:Int):ac:=zh0 h m g p
def zVZ {h:ac}{m:Int}(a:i0 m (ln h.aa)=true):(zL h m).ad=(ix h.aa m mZ).ad:=by unfold zL;rw[a];rfl
def zOz {h:ac}{m g:Int}{k:Bool}(i:SmH h)(e:zcQ h m=true)(b:ao)(a:zck (zL h m) g k=true):i0 g (ln (ix (zdj h m b).aa m mZ).ai)=true:=by obtain⟨f,c⟩:=zcK.1 e;rw[z6X b c];show i0 g (ln (ix h.aa m mZ).ai)=true;rw[ln,((zfz i f).1.2 _ (zbD c mZ)).2.2.2,<- zVZ c];unfold zck at a;cases d:zcm (zL h m) g;{rw [d]at a;cases a};{exact(zdP.1 d).2}
def zvk:Run:=rF4 dH dI dI dI λb c d e=>(zsd b c d e,[aH<|zm0 b c d e,aB<|zj3 b c d e])
def zzq (N:Nat)(i:ac)(a b c:Int):OA:=
 let h:=zs5 a b;let e:=zo i;let g:=ix e.aa a zh;let d:=zhh e a<|ze0 (zbO g) b c;let f:=ix d.aa a zh;let j:=ix f.ai b zdi; (oN (zby i)<|oN (zfM e a)<|cond (nB<|zfL e a) (some [aH e,aB false])<|oN (inb a<|ln e.aa)<|oN (zeX g)<|oN (zsb (zbO g) b c)<|cond (nB<|zhR (zbO g) b c) (some [aH e,aB false])<|oN (zeW e a<|ze0 (zbO g) b c)<|oN (inb a<|ln d.aa)<|oN (inb a<|ln d.aa)<|oN (inb b<|ln f.ai)<|oN (zdc j c)<|oN (inb b<|ln f.ai)<|p0 (up d.aa a ({f with ai:=(up f.ai b<|zgU j c)}:Mon)) λk=>oN (zlj a b)<|oN (zgT d.am h c)<|oN (zlj a b)<|oN (zgT d.ak h c)<|some [aH (⟨d.ag,k,zmB d.am h c,zmB d.ak h c⟩:ac),aB true])
def zJ0 (a:ac)(c d e:Int)(j:zbY big [aH a,aI c,aI d,aI e])(q:zsd a c d e=true):∃N,zzq N a c d e=some [aH<|zm0 a c d e,aB<|zj3 a c d e]:=by
 have k:=(zbd a).1 (zS.1 q);refine⟨0,?_⟩;unfold zzq zm0 zj3 zh0 zgN oN nB;conv=>zeta
 refine j0 q (j0 rfl ?_);rw[show zfL (zo a) c=zcQ a c from rfl];cases h:zcQ a c;{rfl};{obtain⟨v,f⟩:=zcK.1 h;have r:=k.2.1.2 _ (zbD f mZ);have l:=ze8 r;have i:=zjm h (znW h);have u:zck (zda<|ix a.aa c mZ) d (i0 e 4)=zck (zL a c) d (i0 e 4):=zlA i _ _;have s:zdj a c (ze0 (zda<|ix a.aa c mZ) d e)=zdj a c (chg (zL a c) d (i0 e 4)<|zd5 (gAt (zL a c) d) e):=(by rw[<- i.at];exact zpE i _ _ _ _ _);refine zek rfl (j0 (zF f)<|j0 (zbn r)<|j0 (zbn l) ?_);rw[show zhR (zbO<|ix (zo a).aa c zh) d e=zck (zL a c) d (i0 e 4) from u];cases t:zck (zL a c) d (i0 e 4);{rfl};{have j:SmB (ze0 (zda<|ix a.aa c mZ) d e):=zql l (zKM _<|zkj _ l);refine zek rfl (j0 (zbn ⟨f,j.2.1⟩) ?_);have n:=z0s (H:=zdj a c (ze0 (zda<|ix a.aa c mZ) d e)) (m:=c) (g:=d) (p:=e) (o:=λH=>[.agg<|zbo H,.one<|.b true]) (zHA k f j.2.1) (zRg _ f) (zOz k h _ t);refine(show _=_ from n).trans ?_;rw[s];rfl}}
def zDH:vU 142 zvk:=hF4 zOn zD zcy zdr (zy []) zJ0
def zZZ:zbf:=[(142,zvk)]++zZY
def zOo:zN zZZ:=zi zDH zOn
def zTx (h:ac)(m p c v:Int):ac:={D0 h m p 2 with ag:=zbM (D0 h m p 2).ag (ix (ix (D0 h m p 2).aa m mZ).ae p sZ).af c v}
def zeZ (h:ac)(m p c v:Int):Bool:=bif zcs h m p then (cond (i0 c 4) (zk v 0 99) false) else false
def zjD (h:ac)(m p c v:Int):ac:=bif zeZ h m p c v then zTx h m p c v else h
@[simp] abbrev zt2 (h:ac)(m p c v:Int):Bool:=pc (zcv h)
@[simp] abbrev zoP (h:ac)(m p c v:Int):ac:=zjD h m p c v
@[simp] abbrev zoQ (h:ac)(m p c v:Int):Bool:=zeZ h m p c v
def z6H (H:ac)(m p c v:Int)(o:ac->Ans):OA:=
 bif pc (zQ7 H m p 2) then (cond (inb m<|ln (D0 H m p 2).aa) (cond (inb p<|ln (ix (D0 H m p 2).aa m mZ).ae) (cond (pc<|SmM (D0 H m p 2).ag) (some<|o<|zTx H m p c v) none) none) none) else none
def z4d {h:ac}{m p c v:Int}{o:ac->Ans}(j:SmH h)(i:zcs h m p=true):z6H h m p c v o=some (o<|zTx h m p c v):=by obtain⟨g,b,a⟩:=zkt.1 i;have f:=zfz j g;obtain⟨d,e⟩:=zuf (n:=2) f b a;unfold z6H;refine j0 (zbn ⟨f,b,a,.inr (.inl rfl),zsA (zg9 g _<|zbD b mZ) a⟩) (j0 (zF e)<|j0 (zF ?_) (j0 (zbn d.1.1) rfl));rw[ln,(d.2 _<|zbD e mZ).1];exact a
def zxw:Run:=rF5 dH dI dI dI dI λb c d e f=>(zt2 b c d e f,[aH<|zoP b c d e f,aB<|zoQ b c d e f])
def zAS (N:Nat)(g:ac)(b c:Int)(e f:Int):OA:=
 let a:=zo g;let d:=zii a b c 2;let h:=(ix d.aa b zh).ae;let i:=(ix h c zQ).af; (oN (zby g)<|oN (znQ a b c)<|cond (nB<|zfT a b c) (some [aH a,aB false])<|oN (zM e 0 3)<|cond (nB<|zk e 0 3) (some [aH a,aB false])<|oN (zM f 0 99)<|cond (nB<|zk f 0 99) (some [aH a,aB false])<|oN (zkA a b c 2)<|oN (inb b<|ln d.aa)<|oN (inb c<|ln h)<|oN (zlk d.ag i e f)<|some [aH ({d with ag:=(zjP d.ag i e f)}:ac),aB true])
def zMM (d:ac)(f g:Int)(a e:Int)(i:zt2 d f g a e=true):∃N,zAS N d f g a e=some [aH<|zoP d f g a e,aB<|zoQ d f g a e]:=by
 have k:=(zbd d).1 (zS.1 i);refine⟨0,?_⟩;unfold zAS zoP zoQ zjD zeZ oN nB;conv=>zeta
 refine j0 i (j0 rfl ?_);rw[show zfT (zo d) f g=zcs d f g from rfl];cases j:zcs d f g;{rfl};{refine zek rfl (j0 rfl ?_);rw[show zk a 0 3=i0 a 4 from z95 a];cases l:i0 a 4;{rfl};{refine zek rfl (j0 rfl ?_);rw[show zk e 0 99=zk e 0 99 from rfl];cases m:zk e 0 99;{rfl};{have h:=z4d (c:=a) (v:=e) (o:=λH=>[.agg<|zbo H,.one<|.b true]) k j;exact zek rfl (show _=_ from h)}}}
def zGy:vU 147 zxw:=kF5 zOo zD zcy zdr (zy []) zMM
def zZ0:zbf:=[(147,zxw)]++zZZ
def zZ1:zN zZ0:=zi zGy zOo
def zZ2:zbf:=zZ0
def zBo:zN zZ2:=zZ1
def z0W (h:ac)(b:List aq)(m g c a:Int)(e:Bool):(lookOf h b m g c a e).2.2=zca h m g c a:=by cases d:zca h m g c a;{rw [znG d]};{rw [zS3 d];unfold zgL zh4;generalize zhj b m g c a=x;cases x;{generalize zeY _ m g c a=y;cases y<;>rfl};{rfl}}
def z8d {h:ac}{m g c a:Int}(b:List aq)(i:Bool)(f:SmH h)(d:zca h m g c a=true):SmM (lookOf h b m g c a i).1.ag:=by have hg:zbX h m g=true:=(by unfold zca at d;cases e:zbX h m g;{rw [e]at d;cases d};{rfl});exact(zw4 f hg).shape.1.1
def zBM (h:ac)(m g a n:Int):ac×Int×Bool:=lookOf h h.ak m g (zbm a) n true
def zgx (h:ac)(m g a v:Int):Bool:=bif zk a 0 15 then (cond (zk v 0 99) (zca h m g (zbm a) 2) false) else false
def zlH (h:ac)(m g a v:Int):ac:=bif zgx h m g a v then { (zBM h m g a 2).1 with ag:=zbM (zBM h m g a 2).1.ag (zBM h m g a 2).2.1 (zdp a) v} else h
def zfA (h:ac)(m g a:Int):Bool:=bif zk a 0 15 then zca h m g (zbm a) 1 else false
def zjE (h:ac)(m g a:Int):ac:=bif zfA h m g a then (zBM h m g a 1).1 else h
def zrx (h:ac)(m g a:Int):Int:=bif zfA h m g a then cellAt (zBM h m g a 1).1.ag (zBM h m g a 1).2.1 (zdp a) else 0
@[simp] abbrev zwc (h:ac)(m g a v:Int):Bool:=pc (zcv h)
@[simp] abbrev zqT (h:ac)(m g a v:Int):ac:=zlH h m g a v
@[simp] abbrev zqU (h:ac)(m g a v:Int):Bool:=zgx h m g a v
@[simp] abbrev zt4 (h:ac)(m g a:Int):Bool:=pc (zcv h)
@[simp] abbrev zoR (h:ac)(m g a:Int):ac:=zjE h m g a
@[simp] abbrev zoS (h:ac)(m g a:Int):Int:=zrx h m g a
@[simp] abbrev zoT (h:ac)(m g a:Int):Bool:=zfA h m g a
def zzR:Run:=rF5 dH dI dI dI dI λb c d e f=>(zwc b c d e f,[aH<|zqT b c d e f,aB<|zqU b c d e f])
def zEw (N:Nat)(g:ac)(c d:Int)(a e:Int):OA:=
 let b:=zo g;let h:=zkB b b.ak c d (zc5 a) 2 true;let f:=zfs b b.ak c d (zc5 a) 2 true; (oN (zby g)<|oN (zM a 0 15)<|cond (nB<|zk a 0 15) (some [aH b,aB false])<|oN (zM e 0 99)<|cond (nB<|zk e 0 99) (some [aH b,aB false])<|oN (zdB a)<|oN (zkC b b.ak c d (zc5 a) 2 true)<|cond (nB<|zhg b b.ak c d (zc5 a) 2 true) (some [aH f,aB false])<|oN (zdB a)<|oN (zlk f.ag h (zeE a) e)<|some [aH ({f with ag:=(zjP f.ag h (zeE a) e)}:ac),aB true])
def zPW (a:ac)(c d:Int)(b e:Int)(f:zwc a c d b e=true):∃N,zEw N a c d b e=some [aH<|zqT a c d b e,aB<|zqU a c d b e]:=by
 have h:=(zbd a).1 (zS.1 f);refine⟨0,?_⟩;unfold zEw zqT zqU zlH zgx oN nB;conv=>zeta
 refine j0 f (j0 rfl ?_);rw[show zk b 0 15=zk b 0 15 from rfl];cases i:zk b 0 15;{rfl};{refine zek rfl (j0 rfl ?_);rw[show zk e 0 99=zk e 0 99 from rfl];cases j:zk e 0 99;{rfl};{refine zek rfl (j0 rfl (j0 f ?_));rw[show zhg (zo a) (zo a).ak c d (zc5 b) 2 true=zca a c d (zbm b) 2 from z0W _ _ _ _ _ _ _];cases g:zca a c d (zbm b) 2;{rw [show zfs (zo a) (zo a).ak c d (zc5 b) 2 true=a from congrArg Prod.fst (znG g)];rfl};{exact zek rfl (j0 rfl (j0 (zbn<|z8d a.ak true h g) rfl))}}}
def zJa:vU 150 zzR:=kF5 zBo zD zcy zdr (zy []) zPW
def zxy:Run:=rF4 dH dI dI dI λb c d e=>(zt4 b c d e,[aH<|zoR b c d e,aI<|zoS b c d e,aB<|zoT b c d e])
def zAU (N:Nat)(f:ac)(c d a:Int):OA:=
 let b:=zo f;let g:=zkB b b.ak c d (zc5 a) 1 true;let e:=zfs b b.ak c d (zc5 a) 1 true; (oN (zby f)<|oN (zM a 0 15)<|cond (nB<|zk a 0 15) (some [aH b,aI 0,aB false])<|oN (zdB a)<|oN (zkC b b.ak c d (zc5 a) 1 true)<|cond (nB<|zhg b b.ak c d (zc5 a) 1 true) (some [aH e,aI 0,aB false])<|oN (zdB a)<|oN (zif e.ag g<|zeE a)<|some [aH e,aI<|znn e.ag g<|zeE a,aB true])
def zMO (a:ac)(c d b:Int)(e:zt4 a c d b=true):∃N,zAU N a c d b=some [aH<|zoR a c d b,aI<|zoS a c d b,aB<|zoT a c d b]:=by
 have h:=(zbd a).1 (zS.1 e);refine⟨0,?_⟩;unfold zAU zoR zoS zoT zjE zrx zfA oN nB;conv=>zeta
 refine j0 e (j0 rfl ?_);rw[show zk b 0 15=zk b 0 15 from rfl];cases g:zk b 0 15;{rfl};{refine zek rfl (j0 rfl (j0 e ?_));rw[show zhg (zo a) (zo a).ak c d (zc5 b) 1 true=zca a c d (zbm b) 1 from z0W _ _ _ _ _ _ _];cases f:zca a c d (zbm b) 1;{rw [show zfs (zo a) (zo a).ak c d (zc5 b) 1 true=a from congrArg Prod.fst (znG f)];rfl};{exact zek rfl (j0 rfl (j0 rfl rfl))}}
def zGA:vU 151 zxy:=kF4 zBo zD zcy zdr (zy []) zMO
def zZ3:zbf:=[(150,zzR),(151,zxy)]++zZ2
def zZ4:zN zZ3:=zi zJa (zi zGA zBo)
def zZ5:zbf:=[(196,zp6),(197,zlQ)]++zZ3
def zOp:zN zZ5:=zi ztB (zi zng zZ4)
def zkq:ax:=⟨rp 4 false,zlu⟩
@[simp] abbrev zwg (n:Int):Bool:=ieq n 4
@[simp] abbrev zvx (n:Int):ax:=zkq
def zzV:Run:=rF1 dI λb=>(zwg b,[aT .kept<|zvx b])
def zUO (N:Nat)(b:Int):OA:=
 let a:=ln<|zg7 b; (oN (zi7 b)<|oN (cond (few a) (ieq a a) false)<|some [aT .kept (⟨rp a false,zg7 b⟩:ax)])
def zP0 (a:Int)(b:zwg a=true):∃N,zUO N a=some [aT .kept<|zvx a]:=by refine⟨0,?_⟩;have h:a=4:=qD b;subst h;change _=_;kernel_rfl
def zJe:vU 198 zzV:=kF1 zOp zD zcy zdr (zy []) zP0
def zZ6:zbf:=[(198,zzV)]++zZ5
def zOq:zN zZ6:=zi zJe zOp
def zug:List k0:=List.replicate 8 ⟨-1,0⟩
def zg0 (a:List (List Ins)):Mon:=⟨zug,zM5,rp 8 false,(a.take 2).map ze3,[],0,0,(a.take 2).map λ_=>zkq,0⟩
def zJ3 {d a b q:Type}(m:Nat)(f:d->a)(g:d->b)(K:List a×List b->Option q):∀(l:List d) (i:Nat) (u:List a×List b),u.1.length+l.length<=2147483648->u.2.length+l.length<=2147483648->
 goL (λ(i:Nat) x (u:List a×List b) k=>bif ilt (i:Int) (m:Int) then (cond (few<|ln<|ap u.1 [f x]) (cond (few<|ln<|ap u.2 [g x]) (k (ap u.1 [f x],ap u.2 [g x])) none) none) else K u) K l i u=K (u.1++(l.take<|m-i).map f,u.2++(l.take<|m-i).map g)
 |[],i,u,_,_=>by simp[goL]
 |x::l,i,u,n,p=>by simp only[qY]at n p;have e:few (ln<|ap u.1 [f x])=true:=zgZ (by simp[ap];omega);have j:few (ln<|ap u.2 [g x])=true:=zgZ (by simp[ap];omega);by_cases h:i<m;{have c:ilt (i:Int) (m:Int)=true:=qL (by omega);simp only[goL,c,e,j,cT];rw[zJ3 m f g K l (i+1) _ (by simp[ap];omega) (by simp[ap];omega)];rw[show m-i=m-(i+1)+1 by omega];simp[ap]};{have c:ilt (i:Int) (m:Int)=false:=qX (by omega);simp only[goL,c,cF];rw[show m-i=0 by omega];simp}
def z03 (u:List ah×List ax):OA:=some [AV.agg<|Ty.cells .mon (⟨zug,zM5,rp 8 false,u.1,[],0,0,u.2,0⟩:Mon)]
@[simp] abbrev zsI (a:List (List Ins)):Bool:=pc (z8Y a)
@[simp] abbrev zHw (a:List (List Ins)):Mon:=zg0 a
def zCm:Run:=rF1 (dS<|.sl .ins) λb=>(zsI b,[aT .mon<|zHw b])
def zH5 (N:Nat)(k:lP):OA:=
 (oN (zi7 8)<|oN (zoU 8)<|oN (cond (few 8) (ieq 8 8) false)<|r0 (σ:=(Int×Int×Int×Int×Int×Int×Int×lP×lS×lM×lB×lG×LI×lK×lS×lM×lB×lG×LI×lK×Unit)) N (λl a=>let k:=a.2.2.2.2.2.2.2.2.2;let m:=k.2.2.2.2.2;let j:=m.1;let i:=m.2.1;let h:=m.2.2.1;let g:=m.2.2.2.1;let f:=m.2.2.2.2.1;let b:=a.2.2.2.2.2.2.2.1;let c:=m.2.2.2.2.2.1;let e:=ap g [zct<|ix b a.1 []];let d:=aT .mon (⟨j,i,h,g,f,a.2.2.2.2.1,a.2.2.2.2.2.1,c,a.2.2.2.2.2.2.1⟩:Mon); (cond (ilt a.1<|ln b) (cond (ilt a.1 2) (oN (inb a.1<|ln b)<|oN (zi6<|ix b a.1 [])<|oN (few<|ln e)<|oN (zwg 4)<|oN (few<|ln<|ap c [zvx 4])<|l (zK .i64 a.1 1,a.2.1,a.2.2.1,a.2.2.2.1,a.2.2.2.2.1,a.2.2.2.2.2.1,a.2.2.2.2.2.2.1,b,a.2.2.2.2.2.2.2.2.1,k.1,k.2.1,k.2.2.1,k.2.2.2.1,k.2.2.2.2.1,j,i,h,e,f,ap c [zvx 4],()))<|some [d])<|some [d])) (0,0,0,0,0,0,0,k,[],[],[],[],[],[],zg7 8,zjN 8,rp 8 false,[],[],[],()))
def zUu:=zy [(70,0,{n:=36,tm:=[(0,.sl 0 []),(2,.lp 0 0),(3,.lp 1 0),(4,ti)],lo:=[(0,[.sl 1 [],.sl 2 [],.sl 3 [],.sl 4 [],.sl 5 [],ti,ti,.sl 6 [],ti]),(1,[.sl 7 [],.sl 8 [],.sl 9 [],.sl 10 [],.sl 11 [],ti,ti,.sl 12 [],ti])],ro:=[(0,.sl .ins,false),(1,.slot,true),(2,.sl .int,true),(3,.bool,true),(4,.guest,true),(5,.int,true),(6,.kept,true),(7,.slot,true),(8,.sl .int,true),(9,.bool,true),(10,.guest,true),(11,.int,true),(12,.kept,true)]})]
def zSH (a:List lI)(f:zsI a=true):∃N,zH5 N a=some [aT .mon<|zHw a]:=by
 have e:=zS.1 f;have c:=zcY e.1;refine zcd λN d=>?_;unfold zH5 oN;conv=>zeta
 refine j0 rfl (j0 rfl (j0 rfl ?_));refine(zbg a (λi (t:lG×lK)=>((i:Int),0,0,0,0,0,0,a,[],[],[],[],[],[],zg7 8,zjN 8,rp 8 false,t.1,[],t.2,())) _ (λi (x:List Ins) (u:List ah×List ax) h=>bif ilt (i:Int) ((2:Nat):Int) then (cond (few<|ln<|ap u.1 [ze3 x]) (cond (few<|ln<|ap u.2 [zkq]) (h (ap u.1 [ze3 x],ap u.2 [zkq])) none) none) else z03 u) (λ(t:lG×lK)=>some [.agg<|Ty.cells .mon (⟨zg7 8,zjN 8,rp 8 false,t.1,[],0,0,t.2,0⟩:Mon)]) (λi b t rec=>?_) (λt rec=>?_) _ ([],[])<|d c.1).trans ?_;{simp only [zbx b,zY b,zbi b,zV b c.1,cT];have g:zi6 a[i]=true:=zbn (e.2 _<|jB b);simp only[g,cT];rfl};{simp only [zbq,cF]};exact zJ3 2 ze3 (λ_=>zkq) z03 a 0 ([],[]) (by simpa using c.2) (by simpa using c.2)
def zLZ:vU 70 zCm:=kF1 zOq zD zcy zdr zUu zSH
def zZ7:zbf:=[(70,zCm)]++zZ6
def zOr:zN zZ7:=zi zLZ zOq
def zYw:List LI:=List.replicate 12 [0,0,0,0]
def zfQ (a:List (List<|List Ins)):ac:=⟨zYw,(a.take 3).map zg0,[],[]⟩
def zIo (a:List (List<|List Ins)):Prop:=a.length<=1048576/\∀p∈a,z8Y p
@[simp] abbrev zwd (a:List (List<|List Ins)):Bool:=pc (zIo a)
@[simp] abbrev zhb (a:List (List<|List Ins)):ac:=zfQ a
def zWF (t:List Mon):OA:=some [AV.agg<|zbo ⟨zYw,t,[],[]⟩]
def zzS:Run:=rF1 (dS<|.sl<|.sl .ins) λb=>(zwd b,[aH<|zhb b])
def zEx (N:Nat)(d:lQ):OA:=
 (oN (zoU 12)<|r0 (σ:=(Int×lQ×lM×lN×lE×lE×lM×lN×lE×lE×Unit)) N (λe a=>let d:=a.2.2.2.2.2.2;let c:=ap d.2.1 [zHw<|ix a.2.1 a.1 []];let b:=aH (⟨d.1,d.2.1,d.2.2.1,d.2.2.2.1⟩:ac); (cond (ilt a.1<|ln a.2.1) (cond (ilt a.1 3) (oN (inb a.1<|ln a.2.1)<|oN (zsI<|ix a.2.1 a.1 [])<|oN (few<|ln c)<|e (zK .i64 a.1 1,a.2.1,a.2.2.1,a.2.2.2.1,a.2.2.2.2.1,a.2.2.2.2.2.1,d.1,c,d.2.2.1,d.2.2.2.1,()))<|some [b])<|some [b])) (0,d,[],[],[],[],zjN 12,[],[],[],()))
def zQz:=zy [(62,0,{n:=28,tm:=[(0,.sl 0 []),(2,.lp 0 0),(3,.lp 1 0),(4,ti)],lo:=[(0,[.sl 1 [],.sl 2 [],.sl 3 [],.sl 4 []]),(1,[.sl 5 [],.sl 6 [],.sl 7 [],.sl 8 []])],ro:=[(0,.sl<|.sl .ins,false),(1,.sl .int,true),(2,.mon,true),(3,.entry,true),(4,.entry,true),(5,.sl .int,true),(6,.mon,true),(7,.entry,true),(8,.entry,true)]})]
def zPX (a:List lP)(f:zwd a=true):∃N,zEx N a=some [aH<|zhb a]:=by
 have e:=zS.1 f;have d:=zcY e.1;refine zcd λN c=>?_;unfold zEx oN;conv=>zeta
 refine j0 rfl ?_;refine(zbg a (λi (t:lN)=>((i:Int),a,[],[],[],[],zjN 12,t,[],[],())) _ (λi (x:List lI) (t:List Mon) h=>bif ilt (i:Int) ((3:Nat):Int) then (cond (few<|ln<|ap t [zg0 x]) (h<|ap t [zg0 x]) none) else zWF t) (λ(t:lN)=>some [.agg<|zbo (⟨zjN 12,t,[],[]⟩:ac)]) (λi b t rec=>?_) (λt rec=>?_) _ ([])<|c d.1).trans ?_;{simp only [zbx b,zY b,zbi b,zV b d.1,cT];have g:zsI a[i]=true:=zbn (e.2 _<|jB b);simp only[g,cT];rfl};{simp only [zbq,cF]};exact zOK 3 zg0 zWF a 0 [] (by simpa using d.2)
def zJb:vU 62 zzS:=kF1 zOr zD zcy zdr zQz zPX
def zZ8:zbf:=[(62,zzS)]++zZ7
def zOs:zN zZ8:=zi zJb zOr
def ziR:Nat->Nat->ax->ax
 | 0,_,k=>k
 |n+1,i,k=>ziR n (i+1) (zbW k (i:Int))
def zjw (k:ax):ax:=ziR k.aw.length 0 k
def zX7 (k:ax)(p:Int):(zbW k p).aw.length=k.aw.length:=by unfold zbW;cases zds k p;{rfl};{exact zg1 _ _ _}
def zwp:∀(n i:Nat) (k:ax),SmK k->SmK (ziR n i k)
 | 0,_,_,h=>h
 |n+1,i,k,h=>zwp n (i+1) _ (zps h)
@[simp] abbrev zv9 (k:ax):ax:=zjw k
def zvj:Run:=rF1 (dT .kept) λb=>(zhv b,[aT .kept<|zv9 b])
def zzp (N:Nat)(c:ax):OA:=
 (oN (zgo c)<|r0 (σ:=(Int×lB×lS×lB×lS×Unit)) N (λd a=>let b:=(⟨a.2.1,a.2.2.1⟩:ax); (cond (ilt a.1<|ln a.2.1) (oN (zdc b a.1)<|d (zK .i64 a.1 1,(zgU b a.1).aw,(zgU b a.1).au,a.2.2.2.1,a.2.2.2.2.1,()))<|some [aT .kept b])) (0,(zdK c).aw,(zdK c).au,[],[],()))
def zK6:=zy [(178,0,{n:=17,tm:=[(1,.lp 0 0),(2,.lp 1 0),(3,ti)],lo:=[(0,[.sl 0 [],.sl 1 []]),(1,[.sl 2 [],.sl 3 []])],ro:=[(0,.bool,true),(1,.slot,true),(2,.bool,true),(3,.slot,true)]})]
def zJZ (a:ax)(g:zhv a=true):∃N,zzp N a=some [aT .kept<|zv9 a]:=by
 have d:=zS.1 g;have f:=zcY d.1;refine zcd λN c=>?_;unfold zzp oN;conv=>zeta
 refine j0 (zbS<|(zwI _).2 d) ?_;refine(zpR a.aw.length (λi (k:ax)=>((i:Int),k.aw,k.au,[],[],())) _ (λi k=>SmK k/\k.aw.length=a.aw.length) (λi k=>some [AV.agg<|Ty.cells .kept<|ziR (a.aw.length-i) i k]) (λi k rec e b h=>?_) (λk rec b=>?_) N 0 a ⟨d,rfl⟩ (jU _)<|c f.1).trans rfl;{refine j0 (zbx (by rw[b.2];exact e)) (j0 (zbn b.1) ?_);have q:=h (zbW k (i:Int)) ⟨zps b.1,by rw[zX7];exact b.2⟩;rw[show a.aw.length-i=a.aw.length-(i+1)+1 by omega];rw[zV e f.1];exact q};{refine zek (by show ilt (a.aw.length:Int) (ln k.aw)=false;rw[ln,b.2];exact qX (by omega)) ?_;rw[uH];rfl}
def zDG:vU 178 zvj:=kF1 zOs zD zcy zdr zK6 zJZ
def zZ9:zbf:=[(178,zvj)]++zZ8
def zOt:zN zZ9:=zi zDG zOs
def zuD:Nat->Nat->List ax->List ax
 | 0,_,l=>l
 |n+1,j,l=>zuD n (j+1) (up l (j:Int)<|zjw<|ix l (j:Int) kZ)
def zuE (x:Mon)(n j:Nat):Mon:={x with ai:=zuD n j x.ai}
def zn4:Nat->Nat->List Mon->List Mon
 | 0,_,t=>t
 |n+1,i,t=>zn4 n (i+1) (up t (i:Int)<|zuE (ix t (i:Int) mZ) (ix t (i:Int) mZ).ai.length 0)
def cold (h:ac):ac:=⟨h.ag,zn4 h.aa.length 0 h.aa,[],[]⟩
def zKO:∀(n j:Nat) (l:List ax),j+n<=l.length->zA8 l->zA8 (zuD n j l)
 | 0,_,_,_,h=>h
 |n+1,j,l,b,h=>by have a:j<l.length:=(by omega);refine zKO n (j+1) _ (by rw[zg1];omega) (zxN h<|zwp _ _ _ ?_);rw[zbi a];exact h.2 _ (jB a)
def zKQ {x:Mon}(h:zfZ x){n j:Nat}(a:j+n<=x.ai.length):zfZ (zuE x n j):=⟨h.1,h.2.1,h.2.2.1,h.2.2.2.1,h.2.2.2.2.1,zKO n j _ a h.2.2.2.2.2⟩
@[simp] abbrev zTD (h:ac):ac:=cold h
def zKq:Run:=rF1 dH λb=>(zby b,[aH<|zTD b])
def zQ1 (N:Nat)(d:ac):OA:=
 (oN (zby d)<|r0 (σ:=(Int×lM×lN×lE×lE×lM×lN×lE×lE×Unit)) N (λg b=>cond (ilt b.1<|ln b.2.2.1) (r0 (σ:=(Int×Int×lM×lN×lE×lE×lM×lN×lE×lE×Unit)) N (λh a=>let b:=a.2.2.2.2.2;let e:=inb a.1<|ln a.2.2.2.1;let c:=ix a.2.2.2.1 a.1 zh;let f:=ix c.ai a.2.1 zdi; (oN e<|cond (ilt a.2.1<|ln c.ai) (oN e<|oN e<|oN (inb a.2.1<|ln c.ai)<|oN (zhv f)<|oN (inb a.2.1<|ln c.ai)<|p0 (up a.2.2.2.1 a.1 ({c with ai:=(up c.ai a.2.1<|zv9 f)}:Mon)) λi=>h (a.1,zK .i64 a.2.1 1,a.2.2.1,i,a.2.2.2.2.1,b.1,b.2.1,b.2.2.1,b.2.2.2.1,b.2.2.2.2.1,()))<|g (zK .i64 a.1 1,a.2.2.1,a.2.2.2.1,a.2.2.2.2.1,b.1,b.2.1,b.2.2.1,b.2.2.2.1,b.2.2.2.2.1,()))) (b.1,0,b.2.1,b.2.2.1,b.2.2.2.1,b.2.2.2.2.1,b.2.2.2.2.2.1,b.2.2.2.2.2.2.1,b.2.2.2.2.2.2.2.1,b.2.2.2.2.2.2.2.2.1,()))<|some [aH (⟨b.2.1,b.2.2.1,[],[]⟩:ac)]) (0,(zo d).ag,(zo d).aa,(zo d).am,(zo d).ak,[],[],[],[],()))
def zZw:=zy [(58,0,{n:=48,tm:=[(1,.lp 0 0),(2,.lp 1 0),(3,ti)],lo:=[(0,[.sl 0 [],.sl 1 [],.sl 2 [],.sl 3 []]),(1,[.sl 4 [],.sl 5 [],.sl 6 [],.sl 7 []])],ro:=[(0,.sl .int,true),(1,.mon,true),(2,.entry,true),(3,.entry,true),(4,.sl .int,true),(5,.mon,true),(6,.entry,true),(7,.entry,true)]}),(58,2,{n:=48,tm:=[(1,.lp 0 0),(2,.lp 1 0),(3,ti),(4,ti)],lo:=[(0,[.sl 0 [],.sl 1 [],.sl 2 [],.sl 3 []]),(1,[.sl 4 [],.sl 5 [],.sl 6 [],.sl 7 []])],ro:=[(0,.sl .int,true),(1,.mon,true),(2,.entry,true),(3,.entry,true),(4,.sl .int,true),(5,.mon,true),(6,.entry,true),(7,.entry,true)]})]
def zYt (a:ac)(m:zby a=true):∃N,zQ1 N a=some [aH<|zTD a]:=by
 have v:=(zbd a).1 (zS.1 m);have s:=zcY v.2.1.1;refine zcd λN f=>?_;unfold zQ1 oN;conv=>zeta
 refine j0 m ?_;refine(zpR a.aa.length (λi (t:List Mon)=>((i:Int),a.ag,t,a.am,a.ak,[],[],[],[],())) _ (λi t=>zrf t/\t.length=a.aa.length) (λi t=>some [AV.agg<|zbo ⟨a.ag,zn4 (a.aa.length-i) i t,[],[]⟩]) (λi t rec n e x=>?_) (λt rec e=>?_) N 0 a.aa ⟨v.2.1,rfl⟩ (jU _)<|f s.1).trans rfl
 .have hit:i<t.length:=(by rw[e.2];exact n);have l:zfZ (ix t (i:Int) mZ):=by rw[zbi hit];exact e.1.2 _ (jB hit)
  have r:=zcY l.2.2.2.2.2.1;refine j0 (zbx hit) ?_;refine(zpR (ix t (i:Int) mZ).ai.length (λj (u:List Mon)=>((i:Int),(j:Int),a.ag,u,a.am,a.ak,[],[],[],[],()))
   _ (λj u=>u.length=t.length/\zfZ (ix u (i:Int) mZ)/\(ix u (i:Int) mZ).ai.length=(ix t (i:Int) mZ).ai.length)
   (λj u=>rec (((i+1:Nat):Int),a.ag,up u (i:Int)<|zuE (ix u (i:Int) mZ) ((ix t (i:Int) mZ).ai.length-j) j,a.am,a.ak,[],[],[],[],()))
   (λj u h p c k=>?_) (λu h c=>?_) N 0 t ⟨rfl,l,rfl⟩ (jU _) (f r.1)).trans ?_
  .have b:i<u.length:=(by rw[c.1];exact hit);have d:j<(ix u (i:Int) mZ).ai.length:=(by rw[c.2.2];exact p);have g:SmK (ix (ix u (i:Int) mZ).ai (j:Int) kZ):=by rw[zbi d];exact c.2.1.2.2.2.2.2.2 _ (jB d)
   refine j0 (zY b) (j0 (zbx d)<|j0 (zY b)<|j0 (zY b)<|j0 (zY d)<|j0 (zbn g)<|j0 (zY d)<|shr ?_);have w:zfZ {ix u (i:Int) mZ with ai:=up (ix u (i:Int) mZ).ai (j:Int) (zjw<|ix (ix u (i:Int) mZ).ai (j:Int) kZ)} :=
    ⟨c.2.1.1,c.2.1.2.1,c.2.1.2.2.1,c.2.1.2.2.2.1,c.2.1.2.2.2.2.1,zxN c.2.1.2.2.2.2.2<|zwp _ _ _ g⟩
   have q:=k (up u (i:Int) {ix u (i:Int) mZ with ai:=up (ix u (i:Int) mZ).ai (j:Int) (zjw<|ix (ix u (i:Int) mZ).ai (j:Int) kZ)}) ⟨by rw[zg1];exact c.1,by rw[zd8 b];exact w,by rw[zd8 b];simp only[zg1];exact c.2.2⟩;rw[zV p r.1];refine q.trans ?_;rw[zd8 b,zvF,show (ix t (i:Int) mZ).ai.length-j=(ix t (i:Int) mZ).ai.length-(j+1)+1 by omega];rfl
  {have b:i<u.length:=(by rw[c.1];exact hit);refine j0 (zY b) (zek (by show ilt ((ix t (i:Int) mZ).ai.length:Int) (ln (ix u (i:Int) mZ).ai)=false;rw[ln,c.2.2];exact qX (by omega)) ?_);rw[zV n s.1,uH];show rec (_,a.ag,u,_)=rec (_,a.ag,up u (i:Int)<|ix u (i:Int) mZ,_);rw[zNG b]};{have q:=x (up t (i:Int)<|zuE (ix t (i:Int) mZ) (ix t (i:Int) mZ).ai.length 0) ⟨zjn e.1<|zKQ l (by omega),by rw[zg1];exact e.2⟩;refine q.trans ?_;rw[show a.aa.length-i=a.aa.length-(i+1)+1 by omega];rfl}
 {refine zek (by show ilt (a.aa.length:Int) (ln t)=false;rw[ln,e.2];exact qX (by omega)) ?_;rw[uH];rfl}
def zR8:vU 58 zKq:=kF1 zOt zD zcy zdr zZw zYt
def z0a:zbf:=[(58,zKq)]++zZ9
def z0b:zN z0a:=zi zR8 zOt
def z0c:zbf:=z0a
def zOu:zN z0c:=z0b
def zAm:∀(n i:Nat) (t:List Mon),i+n<=t.length->zrf t->zrf (zn4 n i t)
 | 0,_,_,_,h=>h
 |n+1,i,t,b,h=>by have a:i<t.length:=(by omega);refine zAm n (i+1) _ (by rw[zg1];omega) (zjn h<|zKQ ?_ (by omega));rw[zbi a];exact h.2 _ (jB a)
def z4y {h:ac}(a:SmH h):SmH (cold h):=⟨a.1,zAm _ _ _ (by omega) a.2.1,by simp[cold],by simp[cold]⟩
def znx {h:ac}{m:Int}{b:ao}(c:SmH h)(d:zcQ h m=true->SmB b):SmH (zgM h m b):=by unfold zgM;cases a:zcQ h m;{exact c};{exact zHA c (zcK.1 a).2 (d a).2.1}
def z1R {h:ac}{m g p:Int}(c:SmH h):SmH (zh0 h m g p):=by unfold zh0;cases e:zcQ h m;{exact c};{cases l:zck (zL h m) g (i0 p 4);{exact c};{have d:=(zcK.1 e).2;have f:=zT2 c d;have k:SmB (chg (zL h m) g (i0 p 4)<|zd5 (gAt (zL h m) g) p):=zql f (zKM _<|zkj _ f);have b:=zHA c d k.2.1;have i:=zRg (chg (zL h m) g (i0 p 4)<|zd5 (gAt (zL h m) g) p) d;have j:=zOz c e (chg (zL h m) g (i0 p 4)<|zd5 (gAt (zL h m) g) p) l;have a:=b.2.1.2 _ (zbD i mZ);simp only[cT];exact⟨b.1,zjn b.2.1 ⟨a.1,a.2.1,a.2.2.1,a.2.2.2.1,a.2.2.2.2.1,zxN a.2.2.2.2.2<|zps<|a.2.2.2.2.2.2 _<|zbD j _⟩,qU (zyn _ _ _) b.2.2.1,qU (zyn _ _ _) b.2.2.2⟩}}
def z4z {h:ac}{m p c v:Int}(e:SmH h):SmH (zjD h m p c v):=by unfold zjD;cases a:zeZ h m p c v;{exact e};{have f:zcs h m p=true:=(by unfold zeZ at a;cases b:zcs h m p;{rw [b]at a;cases a};{rfl});obtain⟨g,i,b⟩:=zkt.1 f;have d:=(zuf (n:=2) (zfz e g) i b).1.1;exact⟨zza d.1,d.2⟩}
def zS2 {h:ac}{m g c a:Int}(b:List aq)(i:Bool)(f:SmH h)(d:zca h m g c a=true):SmH (lookOf h b m g c a i).1:=by have hg:zbX h m g=true:=(by unfold zca at d;cases e:zbX h m g;{rw [e]at d;cases d};{rfl});exact(zw4 f hg).shape.1
def z8I {h:ac}{m g a v:Int}(e:SmH h):SmH (zlH h m g a v):=by unfold zlH;cases b:zgx h m g a v;{exact e};{have f:zca h m g (zbm a) 2=true:=(by unfold zgx at b;cases c:zk a 0 15;{rw [c]at b;cases b};{cases d:zk v 0 99;{rw [c,d]at b;cases b};{rw [c,d]at b;exact b}});have c:=zS2 h.ak true e f;exact⟨zza c.1,c.2⟩}
def z4A {h:ac}{m g a:Int}(d:SmH h):SmH (zjE h m g a):=by unfold zjE;cases b:zfA h m g a;{exact d};{have e:zca h m g (zbm a) 1=true:=(by unfold zfA at b;cases c:zk a 0 15;{rw [c]at b;cases b};{rw [c]at b;exact b});exact zS2 h.ak true d e}
def z8J {h:ac}{m p:Int}(a:SmH h):SmH (zlL h m p):=by unfold zlL;cases b:zcs h m p;{exact a};{obtain⟨c,d,e⟩:=zkt.1 b;cases ziJ h m p;{exact(zKG (zfz a c).1 d).1};{exact a}}
def z9X {h:ac}{m p:Int}(a:SmH h):SmH (zok h m p):=by unfold zok;cases b:zcs h m p;{exact a};{obtain⟨c,d,e⟩:=zkt.1 b;cases ziJ h m p;{exact a};{exact(zki (zfz a c) d e).1.1}}
def z1V {h:ac}{m t:Int}(a:SmH h):SmH (zhH h m t):=by unfold zhH;cases zbT h;{exact a};{cases c:i0 m (ln h.aa);{exact a};{cases zk t 0 3;{exact a};{have b:zfZ (ix h.aa m mZ):=a.2.1.2 _ (zbD c mZ);exact⟨a.1,zjn a.2.1 ⟨b.1,b.2.1,b.2.2.1,b.2.2.2.1,b.2.2.2.2.1,b.2.2.2.2.2⟩,a.2.2⟩}}}
def zry (h:ac)(a:GAct):ac:=bif ieq a.Kind 1 then (zco h a.M a.G).1 else (cond (ieq a.Kind 2) (zmu h a.M a.G a.X ⟨a.Y,a.Z⟩)<|cond (ieq a.Kind 3) (zh0 h a.M a.G a.X)<|cond (ieq a.Kind 4) (ziU h a.M a.G a.X)<|cond (ieq a.Kind 5) (ziY h a.M a.G)<|cond (ieq a.Kind 6) (ziW h a.M a.G a.X)<|cond (ieq a.Kind 7) (zms h a.M a.G ⟨a.X,a.Y,ieq a.Z 1⟩)<|cond (ieq a.Kind 8) (zjD h a.M a.X a.Y a.Z)<|cond (ieq a.Kind 9) (zk2 h a.M a.X)<|cond (ieq a.Kind 10) (zmp h a.M)<|cond (ieq a.Kind 11) (zlH h a.M a.G a.X a.Y)<|zjE h a.M a.G a.X)
def zBK (h:ac)(a:GAct):aE:=bif ieq a.Kind 1 then ⟨(zco h a.M a.G).2,0⟩ else (cond (ieq a.Kind 2) ⟨zmv h a.M a.G a.X ⟨a.Y,a.Z⟩,0⟩<|cond (ieq a.Kind 3) ⟨zj3 h a.M a.G a.X,0⟩<|cond (ieq a.Kind 4) ⟨ziV h a.M a.G a.X,0⟩<|cond (ieq a.Kind 5) ⟨ziZ h a.M a.G,0⟩<|cond (ieq a.Kind 6) ⟨ziX h a.M a.G a.X,0⟩<|cond (ieq a.Kind 7) ⟨zmt h a.M a.G ⟨a.X,a.Y,ieq a.Z 1⟩,0⟩<|cond (ieq a.Kind 8) ⟨zeZ h a.M a.X a.Y a.Z,0⟩<|cond (ieq a.Kind 9) ⟨zk3 h a.M a.X,0⟩<|cond (ieq a.Kind 10) ⟨zmr h a.M,zmq h a.M⟩<|cond (ieq a.Kind 11) ⟨zgx h a.M a.G a.X a.Y,0⟩<|⟨zfA h a.M a.G a.X,zrx h a.M a.G a.X⟩)
def zk8 (h:ac)(a:GAct):ac:=bif ieq a.Kind 13 then zlL h a.M a.X else (cond (ieq a.Kind 14) (zok h a.M a.X)<|cond (ieq a.Kind 15) (zoc h a.M a.X)<|cond (ieq a.Kind 16) (zhH h a.M a.X)<|cold h)
def zKb (h:ac)(a:GAct):aE:=bif ieq a.Kind 13 then ⟨zB8 h a.M a.X,0⟩ else (cond (ieq a.Kind 14) ⟨zHf h a.M a.X,0⟩<|cond (ieq a.Kind 15) ⟨zcs h a.M a.X,0⟩<|cond (ieq a.Kind 16) ⟨zy7 h a.M a.X,0⟩<|⟨true,0⟩)
def zeh (h:ac)(a:GAct):ac:=bif zk a.Kind 1 17 then (cond (zk a.Kind 13 17) (zk8 h a)<|zry h a) else h
def ziI (h:ac)(a:GAct):aE:=bif zk a.Kind 1 17 then (cond (zk a.Kind 13 17) (zKb h a)<|zBK h a) else ⟨false,0⟩
def z1U {h:ac}{a:GAct}(b:SmH h):SmH (zk8 h a):=by unfold zk8;cases ieq a.Kind 13;{cases ieq a.Kind 14;{cases ieq a.Kind 15;{cases ieq a.Kind 16;{exact z4y b};{exact z1V b}};{exact z1S b}};{exact z9X b}};{exact z8J b}
def z1T {h:ac}{a:GAct}(c:SmH h):SmH (zry h a):=by have d:zcQ h a.M=true->SmB (zL h a.M):=λb=>zT2 c (zcK.1 b).2;unfold zry;cases ieq a.Kind 1;{cases ieq a.Kind 2;{cases ieq a.Kind 3;{cases ieq a.Kind 4;{cases ieq a.Kind 5;{cases ieq a.Kind 6;{cases ieq a.Kind 7;{cases ieq a.Kind 8;{cases ieq a.Kind 9;{cases ieq a.Kind 10;{cases ieq a.Kind 11;{exact z4A c};{exact z8I c}};{exact znx c (λb=>zW5 (d b))}};{exact znx c (λb=>zT1 _ (d b))}};{exact z4z c}};{exact znx c (λb=>zW6 _ _ (d b))}};{exact znx c (λb=>zKK _ _ (d b))}};{exact znx c (λb=>zKL _ (d b))}};{exact znx c (λb=>zKJ _ _ (d b))}};{exact z1R c}};{exact znx c (λb=>zW7 _ _ _ (d b))}};{exact(z1H a.M a.G c).sm}
def zXa {h:ac}{a:GAct}(b:SmH h):SmH (zeh h a):=by unfold zeh;cases zk a.Kind 1 17;{exact b};{cases zk a.Kind 13 17;{exact z1T b};{exact z1U b}}
@[simp] abbrev zhG (h:ac)(a:GAct):Bool:=pc (zcv h)
@[simp] abbrev zls (h:ac)(a:GAct):ac:=zk8 h a
@[simp] abbrev zjf (h:ac)(a:GAct):aE:=zKb h a
def zxF:Run:=rF2 dH (dT .act) λb c=>(zhG b c,[aH<|zls b c,aT .told<|zjf b c])
def zA7 (N:Nat)(c:ac)(a:GAct):OA:=
 (cond (ieq a.Kind 13) (oN (zib c a.M a.X)<|some [aH<|zqW c a.M a.X,.agg [.b<|zqX c a.M a.X,.i .i64 0]])<|cond (ieq a.Kind 14) (oN (zib c a.M a.X)<|some [aH<|zsK c a.M a.X,.agg [.b<|zsL c a.M a.X,.i .i64 0]])<|cond (ieq a.Kind 15) (oN (zib c a.M a.X)<|some [aH<|zvn c a.M a.X,.agg [.b<|zfT c a.M a.X,.i .i64 0]])<|cond (ieq a.Kind 16) (oN (zt6 c a.M a.X)<|some [aH<|zoX c a.M a.X,.agg [.b<|zoY c a.M a.X,.i .i64 0]])<|oN (zby c)<|some [aH<|zTD c,.agg [.b true,.i .i64 0]])
def zM0 (a:ac)(b:GAct)(c:zhG a b=true):∃N,zA7 N a b=some [aH<|zls a b,aT .told<|zjf a b]:=by have d:=zS.1 c;refine⟨0,?_⟩;unfold zA7 oN;refine br (λ_=>mu ?_) (λ_=>br (λ_=>mu ?_) λ_=>br (λ_=>mu ?_) λ_=>br (λ_=>mu ?_) λ_=>mu ?_);all_goals first|rfl|(simp only [*,zls,zjf,zk8,zKb,cT,cF]<;>rfl)|simp_all[Ty.cells,zls,zjf,zk8,zKb]
def zGT:vU 140 zxF:=kF2 zOu zD zcy zdr (zy []) zM0
def z0d:zbf:=[(140,zxF),(42,zFo),(40,zzU),(38,zFp)]++z0c
def zOv:zN z0d:=zi zGT (zi zPs<|zi zJd<|zi zPu zOu)
@[simp] abbrev zmC (h:ac)(a:GAct):ac:=zeh h a
@[simp] abbrev zmD (h:ac)(a:GAct):aE:=ziI h a
def zr5:Run:=rF2 dH (dT .act) λb c=>(zhG b c,[aH<|zmC b c,aT .told<|zmD b c])
def zEu (N:Nat)(c:ac)(a:GAct):OA:=
 let d:=(⟨a.Y,a.Z⟩:k0); (oN (znK a)<|cond (nB<|zxG a) (oN (zby c)<|some [aH<|zo c,.agg [.b false,.i .i64 0]])<|oN (zwf a.Kind)<|cond (zrI a.Kind) (oN (zhG c a)<|some [aH<|zls c a,.agg [.b (zjf c a).Ok,.i .i64 (zjf c a).N]])<|cond (ieq a.Kind 1) (oN (zdk c a.M a.G)<|some [aH<|zcM c a.M a.G,.agg [.b<|zcN c a.M a.G,.i .i64 0]])<|cond (ieq a.Kind 2) (oN (zwe c a.M a.G a.X d)<|some [aH<|zmu c a.M a.G a.X d,.agg [.b<|zmv c a.M a.G a.X d,.i .i64 0]])<|cond (ieq a.Kind 3) (oN (zsd c a.M a.G a.X)<|some [aH<|zm0 c a.M a.G a.X,.agg [.b<|zj3 c a.M a.G a.X,.i .i64 0]])<|cond (ieq a.Kind 4) (oN (zqd c a.M a.G a.X)<|some [aH<|ziU c a.M a.G a.X,.agg [.b<|ziV c a.M a.G a.X,.i .i64 0]])<|cond (ieq a.Kind 5) (oN (zqf c a.M a.G)<|some [aH<|ziY c a.M a.G,.agg [.b<|ziZ c a.M a.G,.i .i64 0]])<|cond (ieq a.Kind 6) (oN (zqe c a.M a.G a.X)<|some [aH<|ziW c a.M a.G a.X,.agg [.b<|ziX c a.M a.G a.X,.i .i64 0]])<|cond (ieq a.Kind 7) (oN (znK a)<|oN (zwb c a.M a.G<|zp9 a)<|some [aH<|zms c a.M a.G<|zp9 a,.agg [.b<|zmt c a.M a.G<|zp9 a,.i .i64 0]])<|cond (ieq a.Kind 8) (oN (zt2 c a.M a.X a.Y a.Z)<|some [aH<|zoP c a.M a.X a.Y a.Z,.agg [.b<|zoQ c a.M a.X a.Y a.Z,.i .i64 0]])<|cond (ieq a.Kind 9) (oN (zt3 c a.M a.X)<|some [aH<|zk2 c a.M a.X,.agg [.b<|zk3 c a.M a.X,.i .i64 0]])<|cond (ieq a.Kind 10) (oN (zwa c a.M)<|some [aH<|zmp c a.M,.agg [.b<|zmr c a.M,.i .i64<|zmq c a.M]])<|cond (ieq a.Kind 11) (oN (zwc c a.M a.G a.X a.Y)<|some [aH<|zqT c a.M a.G a.X a.Y,.agg [.b<|zqU c a.M a.G a.X a.Y,.i .i64 0]])<|oN (zt4 c a.M a.G a.X)<|some [aH<|zoR c a.M a.G a.X,.agg [.b<|zoT c a.M a.G a.X,.i .i64<|zoS c a.M a.G a.X]])
def zPU (a:ac)(b:GAct)(c:zhG a b=true):∃N,zEu N a b=some [aH<|zmC a b,aT .told<|zmD a b]:=by
 have d:=zS.1 c;refine⟨0,?_⟩;unfold zEu oN nB;conv=>zeta
 refine j0 rfl (brN (λ_=>mu ?_) λ_=>j0 rfl (br (λ_=>mu ?_) λ_=>br (λ_=>mu ?_) λ_=>br (λ_=>mu ?_) λ_=>br (λ_=>mu ?_) λ_=>br (λ_=>mu ?_) λ_=>br (λ_=>mu ?_) λ_=>br (λ_=>mu ?_) λ_=>br (λ_=>j0 rfl (mu ?_)) λ_=>br (λ_=>mu ?_) λ_=>br (λ_=>mu ?_) λ_=>br (λ_=>mu ?_) λ_=>br (λ_=>mu ?_) λ_=>mu ?_));all_goals first|rfl|(simp only [*,zmC,zmD,zeh,ziI,zry,zBK,cT,cF]<;>rfl)|simp_all[Ty.cells,zmC,zmD,zeh,ziI,zry,zBK]
def zuW:vU 31 zr5:=kF2 zOv zD zcy zdr (zy []) zPU
def z0e:zbf:=[(31,zr5)]++z0d
def zOw:zN z0e:=zi zuW zOv
def zyV:List GAct->ac×List aE->ac×List aE
 |[],u=>u
 |a::l,u=>zyV l (zeh u.1 a,ap u.2 [ziI u.1 a])
def ztD (a:List (List<|List Ins))(l:List GAct):ac×List aE:=zyV (l.take 80) (zfQ a,[])
abbrev HSt:Type:=(List aE)×(List<|LI)×(List Mon)×(List aq)×(List aq)
def hOf (t:HSt):ac:=⟨t.2.1,t.2.2.1,t.2.2.2.1,t.2.2.2.2⟩
def tOf (u:ac×List aE):HSt:=(u.2,u.1.ag,u.1.aa,u.1.am,u.1.ak)
def zyG (t:HSt):OA:=some [AV.agg<|zbo<|hOf t,AV.one<|.s .told t.1]
def zXb {e:List (List<|List Ins)}(h:zIo e):SmH (zfQ e):=by refine⟨show SmM zYw from ⟨by decide,by decide⟩,⟨?_,?_⟩,by simp[zfQ],by simp[zfQ]⟩;{simp only [zfQ,uR,vR];omega};{intro x d;simp only[zfQ,jF]at d;obtain⟨p,f,rfl⟩:=d;have b:=h.2 p (jZ f);refine⟨show zug.length<=1048576 by decide,show SmM zM5 from ⟨by decide,by decide⟩,show (rp 8 false).length<=1048576 by decide,⟨?_,?_⟩,by simp[zg0],⟨?_,?_⟩⟩;{simp only [zg0,uR,vR];omega};{intro y a;simp only[zg0,jF]at a;obtain⟨q,c,rfl⟩:=a;exact⟨b.2 q<|jZ c,show zlu.length<=1048576 by decide,show zlu.length<=1048576 by decide,by simp[ze3]⟩};{simp only [zg0,uR,vR];omega};{intro y a;simp only[zg0,jF]at a;obtain⟨q,c,rfl⟩:=a;exact⟨show (rp 4 false).length<=1048576 by decide,show zlu.length<=1048576 by decide⟩}}
def zE5 {c:ac->GAct->Bool}(d:∀h a,SmH h->c h a=true)(m:Nat):∀(l:List GAct) (i:Nat) (u:ac×List aE),SmH u.1->u.2.length+l.length<=2147483648->
 goL (λ(i:Nat) x (t:HSt) n=>bif ilt (i:Int) (m:Int) then (cond (c (hOf t) x) (cond (few<|ln<|ap t.1 [ziI (hOf t) x]) (n (ap t.1 [ziI (hOf t) x],(zeh (hOf t) x).ag,(zeh (hOf t) x).aa,(zeh (hOf t) x).am,(zeh (hOf t) x).ak)) none) none) else zyG t) zyG l i (tOf u)=zyG (tOf<|zyV (l.take<|m-i) u)
 |[],i,u,_,_=>by simp[goL,zyV]
 |a::l,i,u,e,k=>by simp only[qY]at k;have g:few (ln<|ap u.2 [ziI u.1 a])=true:=zgZ (by simp[ap];omega);have j:hOf (tOf u)=u.1:=rfl;have f:(tOf u).1=u.2:=rfl;by_cases h:i<m;{have b:ilt (i:Int) (m:Int)=true:=qL (by omega);simp only[goL,b,j,f,g,d _ _ e,cT];refine(zE5 d m l (i+1) (zeh u.1 a,ap u.2 [ziI u.1 a]) (zXa e) (by simp[ap];omega)).trans ?_;rw[show m-i=m-(i+1)+1 by omega];rfl};{have b:ilt (i:Int) (m:Int)=false:=qX (by omega);simp only[goL,b,cF];rw[show m-i=0 by omega];rfl}
@[simp] abbrev zt1 (a:List (List<|List Ins))(l:List GAct):Bool:=pc (zIo a/\l.length<=1048576)
@[simp] abbrev zt0 (a:List (List<|List Ins))(l:List GAct):ac:=(ztD a l).1
@[simp] abbrev zCw (a:List (List<|List Ins))(l:List GAct):List aE:=(ztD a l).2
def zxv:Run:=rF2 (dS<|.sl<|.sl .ins) (dS .act) λb c=>(zt1 b c,[aH<|zt0 b c,aS .told<|zCw b c])
def zAR (N:Nat)(b:lQ)(g:lA):OA:=
 (oN (zwd b)<|r0 (σ:=(Int×lA×lT×lM×lN×lE×lE×lM×lN×lE×lE×Unit)) N (λh a=>let b:=a.2.2.2.2.2;let e:=ix a.2.1 a.1 zbaE;let c:=(⟨b.2.2.1,b.2.2.2.1,b.2.2.2.2.1,b.2.2.2.2.2.1⟩:ac);let f:=ap a.2.2.1 [zmD c e];let d:=zmC c e; (cond (ilt a.1<|ln a.2.1) (cond (ilt a.1 80) (oN (inb a.1<|ln a.2.1)<|oN (zhG c e)<|oN (few<|ln f)<|h (zK .i64 a.1 1,a.2.1,f,a.2.2.2.1,a.2.2.2.2.1,b.1,b.2.1,d.ag,d.aa,d.am,d.ak,()))<|some [aH c,aS .told a.2.2.1])<|some [aH c,aS .told a.2.2.1])) (0,g,[],[],[],[],[],(zhb b).ag,(zhb b).aa,(zhb b).am,(zhb b).ak,()))
def zNx:=zy [(235,0,{n:=39,tm:=[(1,.sl 0 []),(4,.lp 0 0),(6,.lp 1 0),(7,.sl 1 []),(8,ti)],lo:=[(0,[.sl 2 [],.sl 3 [],.sl 4 [],.sl 5 []]),(1,[.sl 6 [],.sl 7 [],.sl 8 [],.sl 9 []])],ro:=[(0,.act,false),(1,.told,true),(2,.sl .int,true),(3,.mon,true),(4,.entry,true),(5,.entry,true),(6,.sl .int,true),(7,.mon,true),(8,.entry,true),(9,.entry,true)]})]
def zML (b:List lP)(c:List GAct)(k:zt1 b c=true):∃N,zAR N b c=some [aH<|zt0 b c,aS .told<|zCw b c]:=by
 obtain⟨j,g⟩:=zS.1 k;have f:=zcY g;refine zcd λN e=>?_;unfold zAR oN;conv=>zeta
 refine j0 (zbn j) ?_;refine(zbg c (λi (t:lT×lM×lN×lE×lE)=>((i:Int),c,t.1,[],[],[],[],t.2.1,t.2.2.1,t.2.2.2.1,t.2.2.2.2,())) _ (λi (x:GAct) (t:HSt) m=>bif ilt (i:Int) ((80:Nat):Int) then (cond (zhG (hOf t) x) (cond (few<|ln<|ap t.1 [ziI (hOf t) x]) (m (ap t.1 [ziI (hOf t) x],(zeh (hOf t) x).ag,(zeh (hOf t) x).aa,(zeh (hOf t) x).am,(zeh (hOf t) x).ak)) none) none) else zyG t) (λ(t:lT×lM×lN×lE×lE)=>some [.agg<|zbo (⟨t.2.1,t.2.2.1,t.2.2.2.1,t.2.2.2.2⟩:ac),.one<|.s .told t.1]) (λi d t rec=>?_) (λt rec=>?_) _ ([],(zhb b).ag,(zhb b).aa,(zhb b).am,(zhb b).ak)<|e f.1).trans ?_;{simp only [zbx d,zY d,zbi d,zV d f.1,cT];rfl};{simp only [zbq,cF]};exact zE5 (λh a l=>zbn ((zbd h).2 l)) 80 c 0 (zfQ b,[]) (zXb j) (by simpa using f.2)
def zGx:vU 235 zxv:=kF2 zOw zD zcy zdr zNx zML
def zRC:zbf:=[(235,zxv)]++z0e
def zvW:zN zRC:=zi zGx zOw
def zx6 (h:ac):Prop:=∃a l,zIo a/\(1<=a.length/\∀p∈a,1<=p.length/\∀x∈p,zdo x=true)/\h=(ztD a l).1
def zHo {p:List Ins}(h:zdo p=true):p.length<=12:=by unfold zdo at h;cases a:p.all zem with|false=>rw[a]at h;cases h|true=>rw[a,cT]at h;have b:=(zfO.1 h).2;unfold ln at b;omega
def zvN (N:Nat)(c:Cur)  : OA :=
 let a:=({ (zl9 c) with b:=c.b}:Cur); (oN (zpm c)<|oN (zmK a 20)<|oN (zt1 (zua c)<|zrK a 20)<|some [.agg [.s .u8 c.b,.i .i64 (zmL a 20).i,.i .i64 (zmL a 20).h],aH<|zt0 (zua c)<|zrK a 20])
def zpo (c:Cur)(s:Cur)(a:ac):Prop:=(∃N,zvN N c=some (AV.agg (zbU s)::[aH a]))/\(s.b=c.b/\0<=s.i)/\(zx6 a)
def zfq (c:Cur)  : Bool:=wC (zpo c)
def ziD (c:Cur)  : Cur:=wS (zpo c)
def zhe (c:Cur)  : ac:=wV (zpo c)
def zwl {c:Cur}(h:zfq c=true):zpo c (ziD c) (zhe c):=wG h
def zVR (c:Cur)  : 0<=(ziD c).i:=wP λh=>h.2.1.2
def zVQ (c:Cur)(h:∃N,Ends (wE (λa=>aH a) c.b λa=>zx6 a)<|zvN N c):zfq c=true:=wI (λ_ _ h=>h) h
def zxm:zdS:=rP0 λc=>(zfq c,ziD c,[aH<|zhe c])
def zJA:zbQ Tryz.prog 99 [false,true,true] zxm:=hP0 zvW zZ zTo zu (zy []) (λ_ h=>(zwl h).1)
def zJJ {c:Cur}(h:zbh c):zfq c=true:=by
 refine zVQ c ⟨0,?_⟩;have e:zbh {zl9 c with b:=c.b}:=zbL h (zY7 _);have a:=(zKA<|z4R h).2.2;have f:=(zFB<|zZB e (m:=20) (by omega) (by omega)).2.2;unfold zvN oN;conv=>zeta
 have i:(zrK {zl9 c with b:=c.b} 20).length<=65:=by unfold ln at f;omega
 have S:zIo (zua c):=⟨by omega,λp d=>by
  have g:=a.2.2 p d;exact⟨by omega,λx j=>by have:=zHo (g.2.2 x j);omega⟩⟩
 exact zA (z4R h) (zA (zZB e (by omega) (by omega))<|zA (zbn ⟨S,qU i (by decide)⟩)<|zbJ aH (zVT _ _) ⟨_,_,S,⟨a.1,λp d=>⟨(a.2.2 p d).1,(a.2.2 p d).2.2⟩⟩,rfl⟩)
def zYK:zc0:=[(99,[false,true,true],zxm)]++z6t
def ztN:zb5 zYK:=zcu zTo (by
 intro x a;simp only[qG,qO,or_false]at a;rcases a with rfl
 .exact zJA)
def zRW {f c b:Type}{G:b->Prop}{a:Nat->f->c->(c->Option b)->Option b}{K:c->Option b}(e:∀i x t g,(∀t,Ends G<|g t)->Ends G (a i x t g))(d:∀t,Ends G<|K t):∀(l:List f) (i:Nat) (t:c),Ends G (goL a K l i t)
 |[],i,t=>d t
 |x::l,i,t=>e i x t _ (λt=>zRW e d l (i+1) t)
def znX (N:Nat)(c:LI):OA:=
 (r0 (σ:=(Int×Int×LI×lM×lN×lE×lE×Unit)) N (λd a=>let b:=(⟨a.2.2.1,0,a.1⟩:Cur); (cond (ilt a.2.1<|ln a.2.2.1) (cond (ilt a.2.1 4000) (oN (inb a.2.1<|ln a.2.2.1)<|d (wand .i64 (zK .i64 (zK .i64 (zkJ .i64 a.1 131)<|wcv .i64<|ix a.2.2.1 a.2.1 0) 7) 1073741823,zK .i64 a.2.1 1,a.2.2.1,a.2.2.2.1,a.2.2.2.2.1,a.2.2.2.2.2.1,a.2.2.2.2.2.2.1,()))<|oN (zfq b)<|some [aH<|zhe b])<|oN (zfq b)<|some [aH<|zhe b])) (zK .i64 94701<|ln c,0,c,[],[],[],[],()))
def zqo:=zy [(100,0,{n:=32,tm:=[(0,.sl 0 []),(3,ti),(4,ti)],lo:=[(0,[.sl 1 [],.sl 2 [],.sl 3 [],.sl 4 []])],ro:=[(0,.u8,false),(1,.sl .int,true),(2,.mon,true),(3,.entry,true),(4,.entry,true)],sk:=[(0,2,0,.lp 0 0)]})]
def zsc (b:LI)(a:ac):Prop:=(∃N,znX N b=some [aH a])/\(zx6 a)
def zi4 (a:LI):Bool:=uC (T:=ac) (λr=>zsc a r)
def zTF (a:LI):ac:=uV (λr=>zsc a r)
def zia (a:LI):ac:=(zTF a)
def zCv {a:LI}(h:zi4 a=true):zsc a (zia a):=uG h
def zTE (c:LI)(h:∃N,Ends (λa=>∃b,a=[aH b]/\(zx6 b))<|znX N c):zi4 c=true:=by obtain⟨N,a,e,b,rfl,h⟩:=h;exact zbn ⟨b,⟨N,e⟩,h⟩
def zp3:Run:=rF1 (dS .u8) λb=>(zi4 b,[aH<|zia b])
def zMJ (a:LI)(b:zi4 a=true):∃N,znX N a=some [aH<|zia a]:=by exact(zCv b).1
def ztz:vU 10 zp3:=kF1 zvW zZ ztN zu zqo zMJ
def zIJ {b:LI}(h:b.length<=big):zi4 b=true:=by
 refine zTE b (zcd λN e=>?_);unfold znX oN;conv=>zeta
 have c:∀t,Ends (λa=>∃g,a=[aH g]/\zx6 g) (cond (zfq ⟨b,0,t⟩) (some [aH<|zhe ⟨b,0,t⟩]) none):=λt=>
  have f:zbh ⟨b,0,t⟩:=⟨kN 0,h⟩
  zA (zJJ f) ⟨_,rfl,_,rfl,(zwl<|zJJ f).2.2⟩
 refine(congrArg (Ends _)<|zbg b (λi (t:Int)=>(t,(i:Int),b,[],[],[],[],())) _ (λi x (t:Int) j=>bif ilt (i:Int) 4000 then j (wand .i64 (zK .i64 (zK .i64 (zkJ .i64 t 131)<|wcv .i64 x) 7) 1073741823) else (cond (zfq ⟨b,0,t⟩) (some [aH<|zhe ⟨b,0,t⟩]) none)) (λ(t:Int)=>cond (zfq ⟨b,0,t⟩) (some [aH<|zhe ⟨b,0,t⟩]) none) (λi d t rec=>?_) (λt rec=>?_) N (zK .i64 94701<|ln b)<|e h).mpr ?_;{simp only [zbx d,zY d,zbi d,zV d h,cT]};{simp only [zbq,cF]};exact zRW (λi x t j k=>zbC (λ_=>k _) λ_=>c t) c _ _ _
def zZT:zbf:=[(10,zp3)]++zRC
def zZU:zN zZT:=zi ztz zvW
end
end Go.Proofs.YtapgkefgcbapcaaGreat.E
