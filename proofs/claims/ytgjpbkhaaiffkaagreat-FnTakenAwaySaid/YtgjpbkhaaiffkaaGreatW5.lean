/- What is proved here: a part of the proof that the statement of this claim holds (several texts of wip/, laid together). -/
import Derived.Test.YtgjpbkhaaiffkaaGreatW4
import Derived.Shelf.Bits.Mul64
import Derived.Ground.NamesProg
import Derived.Laws.CopyOwn
import Derived.Deep.RegionLaw
import Derived.WalkKit
import Derived.Tactics2
namespace Go.Proofs.YtgjpbkhaaiffkaaGreat.E
open Go
set_option linter.constructorNameAsVariable false
set_option linter.unusedVariables false
set_option maxRecDepth 100000
set_option linter.unusedSimpArgs false
set_option linter.unusedSectionVars false
noncomputable section
def zbu (h:Host)(m p:Int):Host:={h with Mons:=up h.Mons m {ix h.Mons m mZ with Dirty:=up (ix h.Mons m mZ).Dirty p true}}
def opened (h:Host)(m p:Int):Host:=bif ieq (wand .i64 (ix (ix h.Mons m mZ).Outer p sZ).Rights 2) 0 then zb7 h m p ⟨(ix (ix h.Mons m mZ).Outer p sZ).Page,3⟩ else h
def zie (h:Host)(m p n:Int):Host:=bif ieq (wand .i64 n 2) 0 then h else opened (zbu h m p) m p
def mended (h:Host)(m p n:Int):Host:=bif ieq (ix (ix h.Mons m mZ).Outer p sZ).Page (-1) then zie (fetched h m p) m p n else zie h m p n
theorem z6h {r:Int}(a:0<=r)(b:r<=3):enough r 2 = !ieq (wand .i64 r 2) 0:=by have:r=0\/r=1\/r=2\/r=3:=(by omega);rcases this with rfl|rfl|rfl|rfl<;>rfl
structure SlotFit (s:Slot):Prop where
 no:zct s noSlot=ieq s.Page (-1)
 lo:0<=s.Rights
 hi:s.Rights<=3
theorem zYj {s:Slot}{n:Int}(h:zdT s n=true):SlotFit s:=by refine⟨zOu h,?_,?_⟩<;>unfold zdT at h<;>cases a:zct s noSlot;{rw [a]at h;simp only[cF,zcR]at h;have:=(zfj.1 h.2.2).1;omega};{unfold zct at a;rw[qE]at a;have:s.Rights=0:=qD a.2;omega};{rw [a]at h;simp only[cF,zcR]at h;have:=(zfj.1 h.2.2).2;omega};{unfold zct at a;rw[qE]at a;have:s.Rights=0:=qD a.2;omega}
theorem zmQ {h:Host}{m p:Int}(c:Shape h)(d:hasB m (ln h.Mons)=true):Shape (zbu h m p):=by obtain⟨a,b⟩:=zco c d;exact ziC c ⟨a.1,a.2.1,by simpa using a.2.2.1,a.2.2.2⟩ ⟨b.1,b.2.1,by simpa using b.2.2.1,b.2.2.2⟩
theorem zTh {h:Host}{m p:Int}(b:Shape h)(a:hasB m (ln h.Mons)=true):Shape (opened h m p)/\hasB m (ln (opened h m p).Mons)=true:=by unfold opened;cases ieq (wand .i64 (ix (ix h.Mons m mZ).Outer p sZ).Rights 2) 0;{exact⟨b,a⟩};{exact⟨zrB a b,zD2 a⟩}
theorem zEB {h:Host}{m p n:Int}(b:Shape h)(a:hasB m (ln h.Mons)=true):Shape (zie h m p n)/\hasB m (ln (zie h m p n).Mons)=true:=by unfold zie;cases ieq (wand .i64 n 2) 0;{exact zTh (zmQ b a) (zeQ a)};{exact⟨b,a⟩}
theorem ztt {h:Host}{m p n:Int}(a:Fit h)(b:hasB m (ln h.Mons)=true)(e:hasB p 8=true):Shape (mended h m p n)/\hasB m (ln (mended h m p n).Mons)=true:=by unfold mended;cases ieq (ix (ix h.Mons m mZ).Outer p sZ).Page (-1);{exact zEB a.1 b};{obtain⟨c,d⟩:=zjZ a b e;exact zEB c d}
theorem zRj {h:Host}{m p:Int}(c:Fit h)(g:hasB m (ln h.Mons)=true)(j:hasB p 8=true):(ix (ix (fetched h m p).Mons m mZ).Outer p sZ).Rights=3:=by have f:=room c;have a:=zpz c g;obtain⟨r,e⟩:=zco f.shape a;obtain⟨k,rfl,d⟩:=zd0 (n:=(zcL h).Mons.length) a;obtain⟨q,rfl,l⟩:=zd0 (n:=8) j;unfold fetched zfk;rw[(zgz _ _ _ _).1];have b:k<(landing (zcL h) (k:Int) (q:Int)<|ix (zca<|zcL h) 0 0).Mons.length:=(by simpa [landing] using d);rw[zef b];have i:q<(ix (landing (zcL h) (k:Int) (q:Int)<|ix (zca<|zcL h) 0 0).Mons (k:Int) mZ).Outer.length:=(by unfold landing;rw[zef d];show q<(ix (zcL h).Mons (k:Int) mZ).Outer.length;rw[e.1];exact l);show (ix (up (ix (landing (zcL h) (k:Int) (q:Int)<|ix (zca<|zcL h) 0 0).Mons (k:Int) mZ).Outer (q:Int) ⟨_,3⟩) (q:Int) sZ).Rights=3;rw[zef i]
def zYC (h:Host)(m p n:Int):Prop:=Fit h/\hasB m (ln h.Mons)=true/\hasB p 8=true/\(n=1\/n=2)/\SlotFit (ix (ix h.Mons m mZ).Outer p sZ)
@[simp] abbrev zhq (h:Host)(m p n:Int):Bool:=pc (zYC h m p n)
@[simp] abbrev zgI (h:Host)(m p n:Int):Host:=mended h m p n
def zrp:List AV->Option (Bool×List AV)
 |[.agg [.s (.sl .int) b,.s .mon c,.s .entry d,.s .entry e],.one<|.i .i64 f,.one<|.i .i64 g,.one<|.i .i64 h]=>some (zhq (⟨b,c,d,e⟩:Host) f g h,[aH<|zgI (⟨b,c,d,e⟩:Host) f g h])
 |_=>none
def zuS (N:Nat)(c:Host)(a b l:Int):OA:=
 let h:=zlU c a b;let k:=ix h.Mons a zf;let e:=ix c.Mons a zf;let p:=ix e.Outer b zN; (oN (inb a<|ln c.Mons)<|oN (inb b<|ln e.Outer)<|oN zbA<|cond (cond (ieq p.Page zU.Page) (ieq p.Rights zU.Rights) false) (oN (zk5 c a b)<|cond (ieq (wand .i64 l 2) 0) (some [aH h])<|oN (inb a<|ln h.Mons)<|oN (inb b<|ln k.Dirty)<|share (up h.Mons a ({k with Dirty:=(up k.Dirty b true)}:Mon)) (λd=>let q:=(ix d a zf).Outer;let i:=({h with Mons:=d}:Host);let m:=ix q b zN;let r:=({m with Rights:=3}:Slot); (oN (inb a<|ln d)<|oN (inb b<|ln q)<|cond (ieq (wand .i64 m.Rights 2) 0) (oN (zfD i a b r)<|some [aH<|zhr i a b r])<|some [aH i])))<|cond (ieq (wand .i64 l 2) 0) (some [aH c])<|oN (inb a<|ln c.Mons)<|oN (inb b<|ln e.Dirty)<|share (up c.Mons a ({e with Dirty:=(up e.Dirty b true)}:Mon)) (λd=>let f:=(ix d a zf).Outer;let j:=({c with Mons:=d}:Host);let n:=ix f b zN;let g:=({n with Rights:=3}:Slot); (oN (inb a<|ln d)<|oN (inb b<|ln f)<|cond (ieq (wand .i64 n.Rights 2) 0) (oN (zfD j a b g)<|some [aH<|zhr j a b g])<|some [aH j])))
theorem zSH (N:Nat)(a:Host)(b c d:Int):zBV (cQ zp0 znW zXT zTC) (zx []) N 12 371 [true,true,true,true,false,false,false] 1 1 [[0],[1],[2],[4],[7]] .mon [aH a,aI b,aI c,aI d]=zuS N a b c d:=by kernel_rfl
theorem zPM (d:Host)(b a h:Int)(C:zbB big [aH d,aI b,aI a,aI h])(z:zhq d b a h=true):∃N,zuS N d b a h=some [aH<|zgI d b a h]:=by
 obtain⟨l,j,i,D,A⟩:=zJ.1 z;obtain⟨B,v⟩:=zco l.1 j;have f:∀r,Shape r->hasB b (ln r.Mons)=true->(cond (ieq (wand .i64 h 2) 0) (some [AV.agg<|zbe r])<|cond (inb b<|ln r.Mons) (cond (inb a<|ln (ix r.Mons b zf).Dirty) (share (up r.Mons b ({ (ix r.Mons b zf) with Dirty:=(up (ix r.Mons b zf).Dirty a true)}:Mon)) λg=>cond (inb b<|ln g) (cond (inb a<|ln (ix g b zf).Outer) (cond (ieq (wand .i64 (ix (ix g b zf).Outer a zN).Rights 2) 0) (cond (zfD ({r with Mons:=g}:Host) b a ({ (ix (ix g b zf).Outer a zN) with Rights:=3}:Slot)) (some [AV.agg<|zbe<|zhr ({r with Mons:=g}:Host) b a ({ (ix (ix g b zf).Outer a zN) with Rights:=3}:Slot)]) none)<|some [AV.agg<|zbe ({r with Mons:=g}:Host)]) none) none) none) none)=some [AV.agg<|zbe<|zie r b a h]:=(by intro r u c;obtain⟨E,m⟩:=zco u c;have y:=zmQ (p:=a) u c;unfold zie;cases w:ieq (wand .i64 h 2) 0;{obtain⟨k,rfl,t⟩:=zd0 (n:=r.Mons.length) c;have q:ix (zbu r (k:Int) a).Mons (k:Int) mZ={ix r.Mons (k:Int) mZ with Dirty:=up (ix r.Mons (k:Int) mZ).Dirty a true}:=zef t _ _;refine zcQ rfl (must (zy c)<|must (zy<|zdI m.2.2.1 i)<|shr<|must (zy<|zeQ c)<|must ?_ ?_);{rw [zef t];exact zy (zdI m.1 i)};{unfold opened;show (cond (ieq (wand .i64 (ix (ix (zbu r (k:Int) a).Mons (k:Int) mZ).Outer a sZ).Rights 2) 0) _ _)=_;cases s:ieq (wand .i64 (ix (ix (zbu r (k:Int) a).Mons (k:Int) mZ).Outer a sZ).Rights 2) 0;{rfl};{refine must rfl (must (zbj ⟨(zM _).2 y.1,zeQ c,?_,?_⟩) rfl);{show hasB a (ln (ix (zbu r (k:Int) a).Mons (k:Int) mZ).Outer)=true;rw[q];exact zdI m.1 i};{show (ix (zbu r (k:Int) a).Mons (k:Int) mZ).Tables.length<=(ix (zbu r (k:Int) a).Mons (k:Int) mZ).Guests.length;rw[q];exact uF m.2.2.2}}}};{rfl});refine⟨0,?_⟩;unfold zuS zgI mended oN;conv=>zeta
 refine must (zy j) (must (zy<|zdI v.1 i) (must rfl ?_));have e:(cond (ieq (ix (ix d.Mons b mZ).Outer a sZ).Page zU.Page) (ieq (ix (ix d.Mons b mZ).Outer a sZ).Rights zU.Rights) false)=ieq (ix (ix d.Mons b mZ).Outer a sZ).Page (-1):=(by rw[<- A.no];unfold zct zU;cases ieq (ix (ix d.Mons b mZ).Outer a sZ).Page noSlot.Page<;>rfl);rw[e];cases w:ieq (ix (ix d.Mons b mZ).Outer a sZ).Page (-1);{exact f d l.1 j};{obtain⟨s,x⟩:=zjZ (p:=a) l j i;exact must rfl (must (zbj ⟨l,j,i⟩)<|f _ s x)}
theorem zIM:zd9 Tryz.prog 371 [true,true,true,true,false,false,false] (some (1,1,[[0],[1],[2],[4],[7]])) zrp:=by refine zls (kt:=.mon) (zgL zhE zq zME zCe) (zia (by kernel_rfl)) (by kernel_rfl) ?_;intro a g f e h;have c:=ziO e;unfold zrp at h;split at h;{obtain⟨d,rfl⟩:=zel h;obtain⟨N,b⟩:=zPM _ _ _ _ (by exact c) d;exact⟨⟨_,rfl⟩,rfl,_,N,12,(zSH N _ _ _ _ ).trans b⟩};{cases h}
def zu9:List CV->List AV->Option (Bool×List CV×List AV)
 |[.s (.sl .int) b,.s .mon c,.s .entry d,.s .entry e],[.one<|.i .i64 f,.one<|.i .i64 g,.one<|.i .i64 h]=>some (zhq (⟨b,c,d,e⟩:Host) f g h,zbe<|zgI (⟨b,c,d,e⟩:Host) f g h,[])
 |_,_=>none
def zEN (N:Nat)(c:Host)(b a k:Int):OA:=
 let e:=zlU c b a;let m:=ix e.Mons b zf;let h:=ix c.Mons b zf; (oN (inb b<|ln c.Mons)<|oN (inb a<|ln h.Outer)<|cond (ieq (ix h.Outer a zN).Page<|-1) (oN (zk5 c b a)<|oN (zbg k 2)<|cond (nB<|zcF k 2) (some [aH e])<|oN (inb b<|ln e.Mons)<|oN (inb a<|ln m.Dirty)<|share (up e.Mons b ({m with Dirty:=(up m.Dirty a true)}:Mon)) (λd=>let i:=ix d b zf;let f:=ix i.Outer a zN; (oN (inb a<|ln i.Outer)<|oN (zbg f.Rights 2)<|cond (nB<|zcF f.Rights 2) (oN (inb a<|ln i.Outer)<|share (up d b ({i with Outer:=(up i.Outer a ({f with Rights:=3}:Slot))}:Mon)) (λl=>let n:=({e with Mons:=l}:Host); (oN (zeH n b a f)<|some [aH<|zeI n b a f])))<|some [aH ({e with Mons:=d}:Host)])))<|oN (zbg k 2)<|cond (nB<|zcF k 2) (some [aH c])<|oN (inb b<|ln c.Mons)<|oN (inb a<|ln h.Dirty)<|share (up c.Mons b ({h with Dirty:=(up h.Dirty a true)}:Mon)) (λd=>let j:=ix d b zf;let g:=ix j.Outer a zN; (oN (inb a<|ln j.Outer)<|oN (zbg g.Rights 2)<|cond (nB<|zcF g.Rights 2) (oN (inb a<|ln j.Outer)<|share (up d b ({j with Outer:=(up j.Outer a ({g with Rights:=3}:Slot))}:Mon)) (λl=>let p:=({c with Mons:=l}:Host); (oN (zeH p b a g)<|some [aH<|zeI p b a g])))<|some [aH ({c with Mons:=d}:Host)])))
theorem zZ9 (N:Nat)(c:Host)(a b d:Int):zp2 (cQ zp0 znW zXT zTC) (zx []) N 12 134 [true,true,true,true] (zbe c) [aI a,aI b,aI d]=zEN N c a b d:=by kernel_rfl
theorem zXE (c:Host)(b a f:Int)(R:zbB big (.agg (zbe c)::[aI b,aI a,aI f]))(M:zhq c b a f=true):∃N,zEN N c b a f=some (.agg (zbe<|zgI c b a f)::[]):=by
 obtain⟨l,i,j,P,C⟩:=zJ.1 M;obtain⟨Q,I⟩:=zco l.1 i;have H:enough f 2 = !ieq (wand .i64 f 2) 0:=(by rcases P with rfl|rfl<;>rfl);have g:∀r,Shape r->hasB b (ln r.Mons)=true->enough (ix (ix r.Mons b mZ).Outer a sZ).Rights 2=(!ieq (wand .i64 (ix (ix r.Mons b mZ).Outer a sZ).Rights 2) 0)->(cond (zbg f 2) (cond (cond (zcF f 2) false true) (some [AV.agg<|zbe r])<|cond (inb b<|ln r.Mons) (cond (inb a<|ln (ix r.Mons b zf).Dirty) (share (up r.Mons b ({ (ix r.Mons b zf) with Dirty:=(up (ix r.Mons b zf).Dirty a true)}:Mon)) λe=>cond (inb a<|ln (ix e b zf).Outer) (cond (zbg (ix (ix e b zf).Outer a zN).Rights 2) (cond (cond (zcF (ix (ix e b zf).Outer a zN).Rights 2) false true) (cond (inb a<|ln (ix e b zf).Outer) (share (up e b ({ (ix e b zf) with Outer:=(up (ix e b zf).Outer a ({ (ix (ix e b zf).Outer a zN) with Rights:=3}:Slot))}:Mon)) λF=>cond (zeH ({r with Mons:=F}:Host) b a<|ix (ix e b zf).Outer a zN) (some [AV.agg<|zbe<|zeI ({r with Mons:=F}:Host) b a<|ix (ix e b zf).Outer a zN]) none) none)<|some [AV.agg<|zbe ({r with Mons:=e}:Host)]) none) none) none) none) none)=some [AV.agg<|zbe<|zie r b a f]:=(by intro r B d q;obtain⟨S,u⟩:=zco B d;have w:=zmQ (p:=a) B d;unfold zie;simp only[zbg,zcF,H,cT];cases J:ieq (wand .i64 f 2) 0;{obtain⟨k,rfl,A⟩:=zd0 (n:=r.Mons.length) d;have m:ix (zbu r (k:Int) a).Mons (k:Int) mZ={ix r.Mons (k:Int) mZ with Dirty:=up (ix r.Mons (k:Int) mZ).Dirty a true}:=zef A _ _;have t:k<(zbu r (k:Int) a).Mons.length:=(by simpa [zbu] using A);have z:inb a (ln (ix (zbu r (k:Int) a).Mons (k:Int) mZ).Outer)=true:=(by rw[m];exact zy (zdI u.1 j));refine zcQ rfl (must (zy d)<|must (zy<|zdI u.2.2.1 j)<|shr<|must z ?_);unfold opened;show (cond (cond (enough (ix (ix (zbu r (k:Int) a).Mons (k:Int) mZ).Outer a sZ).Rights 2) false true) _ _)=_;have G:(cond (enough (ix (ix (zbu r (k:Int) a).Mons (k:Int) mZ).Outer a sZ).Rights 2) false true)=ieq (wand .i64 (ix (ix (zbu r (k:Int) a).Mons (k:Int) mZ).Outer a sZ).Rights 2) 0:=(by rw[m];show (cond (enough (ix (ix r.Mons (k:Int) mZ).Outer a sZ).Rights 2) false true)=ieq (wand .i64 (ix (ix r.Mons (k:Int) mZ).Outer a sZ).Rights 2) 0;rw[q];cases ieq (wand .i64 (ix (ix r.Mons (k:Int) mZ).Outer a sZ).Rights 2) 0<;>rfl);rw[G];cases v:ieq (wand .i64 (ix (ix (zbu r (k:Int) a).Mons (k:Int) mZ).Outer a sZ).Rights 2) 0;{rfl};{have L:Shape {zbu r (k:Int) a with Mons:=up (zbu r (k:Int) a).Mons (k:Int) {ix (zbu r (k:Int) a).Mons (k:Int) mZ with Outer:=up (ix (zbu r (k:Int) a).Mons (k:Int) mZ).Outer a ⟨(ix (ix (zbu r (k:Int) a).Mons (k:Int) mZ).Outer a sZ).Page,3⟩}}:=(by obtain⟨D,E⟩:=zco w (zeQ d);exact ziC w ⟨by simpa using D.1,D.2⟩ ⟨by simpa using E.1,E.2⟩);have O:∀(x y:Mon),hasB (k:Int) (ln<|up (up r.Mons (k:Int) x) (k:Int) y)=true:=λx y=>(by simpa [ln] using d);refine must rfl (must z<|shr<|must (zbj ⟨L,O _ _⟩) ?_);exact congrArg (λx=>some [AV.agg<|zbe x]) (zxU (h:=zbu r (k:Int) a) (p:=a) (s:=⟨(ix (ix (zbu r (k:Int) a).Mons (k:Int) mZ).Outer a sZ).Page,3⟩) t (by rw[m];exact u.2.2.2))}};{rfl});refine⟨0,?_⟩;unfold zEN zgI mended oN nB;conv=>zeta
 refine must (zy i) (must (zy<|zdI I.1 j) ?_);cases J:ieq (ix (ix c.Mons b mZ).Outer a sZ).Page (-1);{exact g c l.1 i (z6h C.lo C.hi)};{obtain⟨v,K⟩:=zjZ (p:=a) l i j;exact must rfl (must (zbj ⟨l,i,j⟩)<|g _ v K (by rw[zRj l i j];rfl))}
theorem zRD:zdg Tryz.prog 134 [true,true,true,true] zu9:=by refine zhz (zgL zhE zq zME zCe) (zia (by kernel_rfl)) ?_;intro g a b j i f h;have d:=zky f;unfold zu9 at h;split at h;{obtain⟨e,rfl,rfl⟩:=zmw h;obtain⟨N,c⟩:=zXE _ _ _ _ (by exact d) e;exact⟨rfl,_,N,12,(zZ9 N _ _ _ _ ).trans c⟩};{cases h}
def zXV:zdL:=[(134,[true,true,true,true],zu9)]++zXT
theorem zbW:zcG zXV:=zem zME (by
 intro x a;simp only[qG,qW,or_false]at a;rcases a with rfl
 .exact zRD)
def zYu:zfg:=[(371,[true,true,true,true,false,false,false],some (1,1,[[0],[1],[2],[4],[7]]),zrp)]++zTC
theorem zwM:zea zYu:=znc zCe (by
 intro x a;simp only[qG,qW,or_false]at a;rcases a with rfl
 .exact zIM)
theorem zXv {h:Host}(b:zbM h=true):h.Memory.length=12:=by unfold zbM at b;simp only[zcR]at b;have a:=b.1;unfold zid at a;simp only[zcR]at a;have:ln h.Memory=12:=qD a.2;simp only[ln] at this;omega
theorem zhe {h:Host}(a:zbM h=true):∀x∈h.Mons,zd6 x=true:=by unfold zbM at a;simp only[zcR]at a;exact zxo _ _ a.2.2.2.2
theorem zGh {x:Mon}(a:zd6 x=true):ShM x:=by have e:=znu (ziv a);unfold zd6 at a;simp only[zcR]at a;have b:ln x.Tables=ln x.Guests:=qD a.2.1;have c:ln x.Out=8:=qD a.2.2.2.1;have d:ln x.Dirty=8:=qD a.2.2.2.2.1;simp only[ln] at *;exact⟨by omega,by omega,by omega,by omega⟩
theorem ze9 {h:Host}(b:SmH h)(a:zbM h=true):Fit h:=by refine⟨⟨b,λx c=>zGh (zhe a x c)⟩,by rw[zXv a];decide,?_⟩;unfold zbM at a;simp only[zcR]at a;have:=zRI _ _ rfl a.2.2.2.2;omega
theorem zrU {x:Mon}(b:zd6 x=true){p:Int}(c:hasB p 8=true):SlotFit (ix x.Outer p sZ):=by have a:=ziv b;unfold zcJ at a;simp only[zcR]at a;exact zYj (qL.1 a.1 _<|zbv (zdI (zGh b).1 c) _)
theorem zUo {h:Host}{m p:Int}(a:Fit h)(c:hasB m (ln h.Mons)=true):Fit (zbu h m p):=by refine⟨zmQ a.1 c,a.2.1,?_⟩;obtain⟨k,rfl,b⟩:=zd0 (n:=h.Mons.length) c;have:=zT6 h.Mons k (ix h.Mons (k:Int) mZ) {ix h.Mons (k:Int) mZ with Dirty:=up (ix h.Mons (k:Int) mZ).Dirty p true} (by rw[zba b];exact qB b);have d:=a.2.2;unfold zbu;simp only[up,kY];dsimp only at this;simp only[up] at this;omega
abbrev gZ:Guest:=Ty.dflt .guest
@[simp] abbrev zeV (h:Host)(m:Int):Bool:=pc (zbX h)
@[simp] abbrev zcw (h:Host)(m:Int):Mon:=bif hasB m (ln h.Mons) then ix h.Mons m mZ else mZ
@[simp] abbrev zkG (h:Host)(m:Int):Bool:=hasB m (ln h.Mons)
def zEm:Run:=rF2 dH dI λb c=>(zeV b c,[aT .mon<|zcw b c,aB<|zkG b c])
def zNe (N:Nat)(a:Host)(b:Int):OA:=
 let c:=ix a.Mons b zf; (oN (zbg b<|ln a.Mons)<|cond (nB<|zcq b<|ln a.Mons) (some [aT .mon (⟨[],[],[],[],[],0,0,[],0⟩:Mon),aB false])<|oN (inb b<|ln a.Mons)<|oN (zj5 c)<|some [aT .mon<|zkI c,aB true])
theorem zUy (a:Host)(b:Int)(d:zeV a b=true):∃N,zNe N a b=some [aT .mon<|zcw a b,aB<|zkG a b]:=by
 have e:=(zM a).1 (zJ.1 d);refine⟨0,?_⟩;unfold zNe zcw zkG oN nB;conv=>zeta
 refine must rfl ?_;rw[show zcq b (ln a.Mons)=hasB b (ln a.Mons) from rfl];cases c:hasB b (ln a.Mons);{rfl};{exact zcQ rfl (must (zy c) (must (zbj<|e.2.1.2 _<|zbv c _) rfl))}
theorem zOM:vQ 68 zEm:=kF2 zhE zq zbW zwM (zx []) zUy
def zbJ (h:Host)(m g:Int):Bool:=bif zbM h then (cond (hasB m<|ln h.Mons) (hasB g<|ln (ix h.Mons m mZ).Guests) false) else false
@[simp] abbrev zcD (h:Host)(m g:Int):Bool:=pc (zbX h)
@[simp] abbrev zjb (h:Host)(m g:Int):Bool:=zbJ h m g
def zEt:Run:=rF3 dH dI dI λb c d=>(zcD b c d,[aB<|zjb b c d])
def zNy (N:Nat)(a:Host)(b c:Int):OA:=
 let d:=wsub .i64 (ln (ix a.Mons b zf).Guests) 1; (oN (zc9 a)<|cond (zdj a) (oN (zG b 0<|wsub .i64 (ln a.Mons) 1)<|cond (zi b 0<|wsub .i64 (ln a.Mons) 1) (oN (inb b<|ln a.Mons)<|oN (zG c 0 d)<|some [aB<|zi c 0 d]) oF) oF)
theorem zUR (a:Host)(b c:Int)(f:zcD a b c=true):∃N,zNy N a b c=some [aB<|zjb a b c]:=by
 have e:=(zM a).1 (zJ.1 f);refine⟨0,?_⟩;unfold zNy zjb zbJ oN;conv=>zeta
 refine must rfl ?_;rw[show zdj a=zbM a from rfl];cases g:zbM a;{rfl};{rw [show zi b 0 (wsub .i64 (ln a.Mons) 1)=hasB b (ln a.Mons) from zpT e.2.1.1 b];refine must rfl (must rfl ?_);cases d:hasB b (ln a.Mons);{rfl};{have hg:(ix a.Mons b mZ).Guests.length<=1048576:=(e.2.1.2 _<|zbv d _).2.2.2.1.1;rw[show zi c 0 (wsub .i64 (ln (ix a.Mons b zf).Guests) 1)=hasB c (ln (ix a.Mons b mZ).Guests) from zpT hg c];exact must rfl (must (zy d) (must rfl rfl))}}
theorem zO7:vQ 361 zEt:=kF3 zhE zq zbW zwM (zx []) zUR
def zcs (h:Host)(m:Int):Nat->Nat->List (List Int)
 | 0,_=>[]
 |n+1,i=>zcm h m (i:Int)::zcs h m n (i+1)
theorem zxJ (h:Host)(m:Int):∀(n i:Nat),(zcs h m n i).length=n
 | 0,_=>rfl
 |n+1,i=>by simp[zcs,zxJ h m n]
def zA (h:Host)(m:Int):Bare:=bif hasB m (ln h.Mons) then ⟨zcs h m 8 0,(ix h.Mons m mZ).Guests,(ix h.Mons m mZ).Outs,(ix h.Mons m mZ).Pending⟩ else ⟨[],[],[],0⟩
theorem zAl {c:Type}(h:Host)(m:Int)(K:List (List Int)->Option c):∀(n i:Nat) (a:List (List Int)),a.length+n<=2147483648->
 goN (λi a b=>bif few (ln<|ap a [zcm h m (i:Int)]) then b (ap a [zcm h m (i:Int)]) else none) K n i a=K (a++zcs h m n i)
 | 0,_,a,_=>by simp[goN,zcs]
 |n+1,i,a,d=>by simp only[goN,zcs];rw[zf6 (by simp[ap];omega),cT,zAl h m K n (i+1) _ (by simp[ap];omega)];simp[ap]
@[simp] abbrev zgR (h:Host)(m:Int):Bare:=zA h m
def z4m:zV:=[(68,zEm),(361,zEt)]++zp0
theorem zQ3:zL z4m:=zh zOM (zh zO7 zhE)
def zn4:Run:=rF2 dH dI λb c=>(zeV b c,[aT .bare<|zgR b c])
def zGP (N:Nat)(b:Host)(c:Int):OA:=
 (oN (zeV b c)<|cond (nB<|zkG b c) (some [aT .bare (⟨[],[],[],0⟩:Bare)])<|iter (σ:=(Int×Int×Int×Int×lM×lN×lE×lE×lM×lG×(List Int)×lM×lG×(List Int)×Unit)) N (λh a=>let g:=a.2.2.2.2.2.2.2.2.2.2.2.2.1;let f:=a.2.2.2.2.2.2.2.2.2.2.2.2.2.1;let d:=(⟨a.2.2.2.2.1,a.2.2.2.2.2.1,a.2.2.2.2.2.2.1,a.2.2.2.2.2.2.2.1⟩:Host);let e:=ap a.2.2.2.2.2.2.2.2.2.2.2.1 [zm5 d a.1 a.2.1]; (cond (ilt a.2.1 8) (oN (zoK d a.1 a.2.1)<|oN (few<|ln e)<|h (a.1,zI .i64 a.2.1 1,a.2.2.1,a.2.2.2.1,a.2.2.2.2.1,a.2.2.2.2.2.1,a.2.2.2.2.2.2.1,a.2.2.2.2.2.2.2.1,a.2.2.2.2.2.2.2.2.1,a.2.2.2.2.2.2.2.2.2.1,a.2.2.2.2.2.2.2.2.2.2.1,e,g,f,()))<|some [aT .bare (⟨a.2.2.2.2.2.2.2.2.2.2.2.1,g,f,a.2.2.2.1⟩:Bare)])) (c,0,0,(zcw b c).Pending,b.Memory,b.Mons,b.Buffer,b.IoBuffer,[],[],[],[],(zcw b c).Guests,(zcw b c).Outs,()))
def zTK:=zx [(84,0,{n:=39,tm:=[(1,ti),(2,.lp 0 0),(4,.lp 1 0),(7,.lp 2 0),(8,ti)],lo:=[(0,[.sl 0 [],.sl 1 [],.sl 2 [],.sl 3 []]),(1,[.sl 4 [],.sl 5 [],.sl 6 [],ti]),(2,[.sl 7 [],.sl 8 [],.sl 9 [],ti])],ro:=[(0,.sl .int,false),(1,.mon,false),(2,.entry,false),(3,.entry,false),(4,.sl .int,true),(5,.guest,true),(6,.int,true),(7,.sl .int,true),(8,.guest,true),(9,.int,true)]})]
theorem zR4 (a:Host)(b:Int)(f:zeV a b=true):∃N,zGP N a b=some [aT .bare<|zgR a b]:=by
 have e:=zJ.1 f;refine zbZ λN d=>?_;unfold zGP zgR zA oN nB;conv=>zeta
 refine must (zbj e) ?_;rw[show zkG a b=hasB b (ln a.Mons) from rfl];cases g:hasB b (ln a.Mons);{rfl};{refine zcQ rfl ?_;refine(zsW 8 (λi (t:lM)=>(b,(i:Int),0,(zcw a b).Pending,a.Memory,a.Mons,a.Buffer,a.IoBuffer,[],[],[],t,(zcw a b).Guests,(zcw a b).Outs,())) _ (λi (c:List (List Int)) j=>bif few (ln<|ap c [zcm a b (i:Int)]) then j (ap c [zcm a b (i:Int)]) else none) (λ(t:lM)=>some [.agg<|Ty.cells .bare (⟨t,(zcw a b).Guests,(zcw a b).Outs,(zcw a b).Pending⟩:Bare)]) (λi h t rec=>?_) (λt rec=>?_) _ ([])<|d (by decide)).trans ?_;{simp only [show ilt (i:Int) 8=true from qK (by omega),zQ h (show 8<=big by decide),cT];exact must (zbj e) rfl};{simp only [show ilt ((8:Nat):Int) 8=false from qI (by omega),cF]};rw[zAl a b _ 8 0 [] (by decide)];simp only[zcw,g,cT,jP]}
theorem zK6:vQ 84 zn4:=kF2 zQ3 zq zbW zwM zTK zR4
theorem zUU:zcn zx1=true:=by decide
theorem zVx {p:Nat->Bool}:∀{n i q:Nat},zlX p n i=true->i<=q->q<i+n->p q=true
 | 0,i,q,_,a,b=>by omega
 |n+1,i,q,h,a,b=>by simp only[zlX,qE]at h;by_cases c:i=q;{subst c;exact h.1};{exact zVx h.2 (by omega) (by omega)}
theorem z0k {h:Host}{m:Int}(e:zbM h=true)(l:hasB m (ln h.Mons)=true){p:Int}(j:hasB p 8=true):zcn (zcm h m p)=true:=by have i:=zhe e _ (zbv l mZ);have s:=zGh i;have f:h.Memory.all zcn=true:=(by unfold zbM at e;simp only[zcR]at e;have b:=e.1;unfold zid at b;simp only[zcR]at b;exact b.1);unfold zcm;rw[l,j];simp only[cT];have t:zbn (ix h.Mons m mZ).Outer p=ix (ix h.Mons m mZ).Outer p sZ:=(by unfold zbn;rw[zdI s.1 j];rfl);rw[t];have d:∀(g:List (List Int)) (q:Int),(hasB q (ln g)=true->zcn (ix g q [])=true)->zcn (zcr g q)=true:=(by intro g q k;unfold zcr;cases b:hasB q (ln g);{exact zUU};{exact k b});cases c:ine (ix (ix h.Mons m mZ).Outer p sZ).Page (-1);{refine d _ _ (λk=>?_);obtain⟨q,rfl,u⟩:=zd0 (n:=8) j;have a:fits (ix h.Mons m mZ) q=true:=(by unfold zd6 at i;simp only[zcR]at i;exact zVx i.2.2.2.2.2.2.2.2.2.2 (by omega) (by omega));unfold fits zlz at a;have r:zct (ix (ix h.Mons m mZ).Outer (q:Int) sZ) noSlot=true:=(by rw[(zrU (zhe e _<|zbv l mZ) j).no];rw[zj6]at c;cases b:ieq (ix (ix h.Mons m mZ).Outer (q:Int) sZ).Page (-1);{rw [b]at c;cases c};{rfl});rw[r]at a;exact a};{exact d _ _ (λk=>qL.1 f _ (zbv k _))}
theorem zOh {h:Host}{m:Int}(a:zbM h=true)(b:hasB m (ln h.Mons)=true):∀(n i:Nat),i+n<=8->(zcs h m n i).all zcn=true
 | 0,_,_=>rfl
 |n+1,i,c=>by simp only[zcs,kX,qE];exact⟨z0k a b<|qK (by omega),zOh a b n (i+1) (by omega)⟩
theorem zuX {h:Host}{m:Int}(c:zbM h=true)(b:hasB m (ln h.Mons)=true):zbK (zA h m)=true:=by have a:=zhe c _ (zbv b mZ);unfold zd6 at a;simp only[zcR]at a;unfold zA zbK zid;rw[b];simp only[cT,a.2.2.2.2.2.2.2.2.2.1,zOh c b 8 0 (by decide),ln,zxJ];simp only[ln]at a;rw[a.1,a.2.2.2.2.2.1,a.2.2.2.2.2.2.1];rfl
def zmA:zV:=[(84,zn4)]++z4m
theorem zhF:zL zmA:=zh zK6 zQ3
def zet (l:List Mon):List (List Guest):=l.map λx=>x.Guests
theorem zxn {l:List Mon}{m:Int}{x:Mon}(b:hasB m (ln l)=true)(c:x.Guests=(ix l m mZ).Guests):zet (up l m x)=zet l:=by obtain⟨k,rfl,a⟩:=zd0 (n:=l.length) b;unfold zet up;rw[List.map_set,kY,c,zba a];have:=@vA _ (l.map λx=>x.Guests) k (by simpa using a);simpa using this
theorem zH1 {l b:List Mon}(h:zet b=zet l)(m:Int):(ix b m mZ).Guests=(ix l m mZ).Guests:=by unfold zet at h;have a:(b.map λx=>x.Guests)[m.toNat]?=(l.map λx=>x.Guests)[m.toNat]?:=(by rw[h]);rw[qN,qN]at a;unfold ix;simp only[j8];cases c:b[m.toNat]? <;> cases d:l[m.toNat]? <;> rw [c,d]at a<;>simp at a ⊢;exact a
theorem zxm {h:Host}{m p:Int}{s:Slot}(a:hasB m (ln h.Mons)=true):zet (zb7 h m p s).Mons=zet h.Mons:=by rw[(zgz h m p s).1];exact zxn a rfl
theorem z6o {h:Host}{m p:Int}(a:hasB m (ln h.Mons)=true):zet (zdo h m p).Mons=zet h.Mons:=(zxm (h:=zeW h m p)<|zeQ a).trans (zxn a rfl)
theorem z6n {h:Host}(b:Fit h):zet (zcL h).Mons=zet h.Mons:=by unfold zcL;cases a:ieq (ln<|zca h) 0;{rfl};{exact z6o (zB8 b a).1}
theorem zXt {h:Host}{m p:Int}(a:Fit h)(c:hasB m (ln h.Mons)=true):zet (fetched h m p).Mons=zet h.Mons:=by have b:=zpz a c;exact((zxm (h:=landing (zcL h) m p (ix (zca<|zcL h) 0 0))<|zeQ b).trans (zxn b rfl)).trans (z6n a)
theorem zRw {h:Host}{m p n:Int}(b:hasB m (ln h.Mons)=true):zet (zie h m p n).Mons=zet h.Mons:=by have a:zet (zbu h m p).Mons=zet h.Mons:=zxn b rfl;unfold zie;cases ieq (wand .i64 n 2) 0;{unfold opened;cases ieq (wand .i64 (ix (ix (zbu h m p).Mons m mZ).Outer p sZ).Rights 2) 0;{exact a};{exact(zxm (h:=zbu h m p)<|zeQ b).trans a}};{rfl}
theorem zZG {h:Host}{m p n:Int}(b:Fit h)(a:hasB m (ln h.Mons)=true)(c:hasB p 8=true):zet (mended h m p n).Mons=zet h.Mons:=by unfold mended;cases ieq (ix (ix h.Mons m mZ).Outer p sZ).Page (-1);{exact zRw a};{exact(zRw (zjZ b a c).2).trans (zXt b a)}
theorem z7N {l a:List Mon}(h:zet a=zet l):a.length=l.length:=by have:=congrArg List.length h;simpa [zet] using this
abbrev kZ:Kept:=Ty.dflt .kept
theorem z8X {x:Guest}(f:zdG x=true){p n:Int}(d:zez x.Live p n=true):hasB (zb4 x.Live p n) 8=true:=by have g:zcJ x.Live 4 8=true:=(by unfold zdG at f;simp only[qE]at f;exact f.2.2.2.2.1);unfold zb4;rw[d];simp only[cT];unfold zez at d;cases a:ieq (zbn x.Live p).Page (-1);{unfold zbn at a ⊢;cases e:hasB p (ln x.Live);{rw [e]at a;cases a};{rw [e]at a;simp only[cT]at a ⊢;unfold zcJ at g;simp only[zcR]at g;have c:=qL.1 g.1 _ (zbv e sZ);unfold zdT at c;cases b:zct (ix x.Live p sZ) noSlot;{rw [b]at c;simp only[cF,zcR]at c;have:=zfj.1 c.2.1;rw[show wsub .i64 8 1=7 from rfl] at this;show hasB (ix x.Live p sZ).Page 8=true;exact qK (by omega)};{unfold zct at b;rw[qE]at b;have:(ix x.Live p sZ).Page = -1:=qD b.1;rw[show ieq (ix x.Live p zN).Page (-1)=true from qK this]at a;cases a}}};{rw [a]at d;cases d}
def zcj (h:Host)(m g:Int):List Slot:=(ix (ix h.Mons m mZ).Guests g gZ).Live
def zbS (h:Host)(m g:Int):Kept:=ix (ix h.Mons m mZ).Tables g kZ
def zrM (h:Host)(a:Bool):List Entry:=bif a then h.IoBuffer else h.Buffer
def zqI (b:List Entry)(m g a:Int):Option Entry:=zxd b (zd8 m g) a
def zhx (b:List Entry)(m g a c:Int):Bool:=bif (zqI b m g a).isSome then enough ((zqI b m g a).getD ⟨0,0,0,0⟩).Rights c else false
def zer (h:Host)(m g a b:Int):Bool:=bif zg3 (zbS h m g) a then (cond (ieq (zdq (zbS h m g) a).Page<|-1) true<|!enough (zdq (zbS h m g) a).Rights b) else true
def zce (h:Host)(m g a:Int):Host:={h with Mons:=up h.Mons m {ix h.Mons m mZ with Tables:=up (ix h.Mons m mZ).Tables g (filled (zbS h m g) (zcj h m g) (ix h.Mons m mZ).Outer a)}}
def zBS (h:Host)(m g a:Int):Entry:=⟨zd8 m g,a,(zdq (zbS h m g) a).Page,(zdq (zbS h m g) a).Rights⟩
def zqc (h:Host)(m g a:Int)(b:Bool):Host:=bif b then {h with IoBuffer:=zn0 h.IoBuffer (zBS h m g a)} else {h with Buffer:=zn0 h.Buffer (zBS h m g a)}
def zeK (h:Host)(m g a:Int)(b:Bool):Host×Int×Bool:=(zqc h m g a b,(zdq (zbS h m g) a).Page,true)
def zfu (h:Host)(b:List Entry)(m g a c q:Int)(d:Bool):Host×Int×Bool :=
 bif zhx b m g a c then (h,((zqI b m g a).getD ⟨0,0,0,0⟩).Host,true)
 else (cond (zer h m g a c) (zeK (zce (mended h m q c) m g a) m g a d)<|zeK h m g a d)
def zf8 (a:Int):Bool:=bif ieq a 1 then true else ieq a 2
def zbO (h:Host)(m g page need:Int):Bool:=bif zbJ h m g then (cond (zf8 need) (zez (zcj h m g) page need) false) else false
def lookOf (h:Host)(b:List Entry)(m g page need:Int)(io:Bool):Host×Int×Bool :=
 bif zbO h m g page need then zfu (cond (ieq need 2) (zbu h m<|zb4 (zcj h m g) page need) h) b m g page need (zb4 (zcj h m g) page need) io else (h,-1,false)
structure Kp (h r:Host):Prop where
 shape:Shape r
 gs:zet r.Mons=zet h.Mons
theorem Kp.has {h r:Host}(k:Kp h r){m:Int}(a:hasB m (ln h.Mons)=true):hasB m (ln r.Mons)=true:=by rw[ln,z7N k.gs];exact a
theorem zYg {h:Host}{m g c:Int}(d:Shape h)(e:hasB m (ln h.Mons)=true)(hg:hasB g (ln (ix h.Mons m mZ).Guests)=true):Shape (zce h m g c):=by obtain⟨a,b⟩:=zco d e;have f:hasB g (ln (ix h.Mons m mZ).Tables)=true:=(by rw[ln,b.2.2.2];exact hg);exact ziC d ⟨a.1,a.2.1,a.2.2.1,a.2.2.2.1,a.2.2.2.2.1,zwJ a.2.2.2.2.2<|zYm<|a.2.2.2.2.2.2 _<|zbv f _⟩ ⟨b.1,b.2.1,b.2.2.1,by simpa using b.2.2.2⟩
theorem zZQ {h r:Host}{m g a:Int}{i:Bool}(k:Kp h r):Kp h (zqc r m g a i):=by obtain⟨⟨b,c,d,e⟩,f⟩:=k.shape;unfold zqc;cases i;{exact⟨⟨⟨b,c,(zxK _ d).1,e⟩,f⟩,k.gs⟩};{exact⟨⟨⟨b,c,d,(zxK _ e).1⟩,f⟩,k.gs⟩}
structure LookAt (h:Host) (m g q need:Int):Prop where
 fit:Fit h
 hm:hasB m (ln h.Mons)=true
 hg:hasB g (ln (ix h.Mons m mZ).Guests)=true
 hq:hasB q 8=true
 hn:need=1\/need=2
 hs:SlotFit (ix (ix h.Mons m mZ).Outer q sZ)
theorem LookAt.mend {h:Host}{m g q a:Int}(A:LookAt h m g q a):zYC h m q a:=⟨A.fit,A.hm,A.hq,A.hn,A.hs⟩
theorem LookAt.kp {h:Host}{m g q a:Int}(A:LookAt h m g q a):Kp h (mended h m q a):=⟨(ztt A.fit A.hm A.hq).1,zZG A.fit A.hm A.hq⟩
theorem LookAt.fill {h:Host}{m g q a:Int}(A:LookAt h m g q a)(b:Int):Kp h (zce (mended h m q a) m g b):=by have k:=A.kp;have hg:hasB g (ln (ix (mended h m q a).Mons m mZ).Guests)=true:=(by rw[zH1 k.gs];exact A.hg);have e:zet (zce (mended h m q a) m g b).Mons=zet (mended h m q a).Mons:=zxn (k.has A.hm) rfl;exact⟨zYg k.shape (k.has A.hm) hg,e.trans k.gs⟩
theorem zRO {h:Host}{b:List Entry}{m g page a q:Int}{io:Bool}(A:LookAt h m g q a):Kp h (zfu h b m g page a q io).1:=by unfold zfu;cases zhx b m g page a;{cases zer h m g page a;{exact zZQ ⟨A.fit.1,rfl⟩};{exact zZQ (A.fill page)}};{exact⟨A.fit.1,rfl⟩}
theorem zcY {h:Host}{m g:Int}(a:zbJ h m g=true):zbM h=true/\hasB m (ln h.Mons)=true/\hasB g (ln (ix h.Mons m mZ).Guests)=true:=by unfold zbJ at a;simp only[zcR]at a;exact a
theorem zXu {h:Host}{m g:Int}(e:zbJ h m g=true):zdG (ix (ix h.Mons m mZ).Guests g gZ)=true:=by obtain⟨b,c,d⟩:=zcY e;have a:=zhe b _ (zbv c mZ);unfold zd6 at a;simp only[zcR]at a;exact qL.1 a.2.2.2.2.2.2.2.2.2.1 _ (zbv d _)
theorem zJm {n:Int}(h:zf8 n=true):n=1\/n=2:=by unfold zf8 at h;cases a:ieq n 1;{rw [a]at h;exact .inr (qD h)};{exact .inl (qD a)}
theorem zAV {h:Host}{m g page a:Int}(s:SmH h)(d:zbO h m g page a=true) :
 LookAt h m g (zb4 (zcj h m g) page a) a/\LookAt (zbu h m<|zb4 (zcj h m g) page a) m g (zb4 (zcj h m g) page a) a:=by
 unfold zbO at d;simp only[zcR]at d;obtain⟨l,p,r⟩:=d;obtain⟨i,b,j⟩:=zcY l;have f:hasB (zb4 (zcj h m g) page a) 8=true:=z8X (zXu l) r;have c:=zrU (zhe i _<|zbv b mZ) f;have q:=ze9 s i;refine⟨⟨q,b,j,f,zJm p,c⟩,⟨zUo q b,zeQ b,?_,f,zJm p,?_⟩⟩
 .have e:zet (zbu h m<|zb4 (zcj h m g) page a).Mons=zet h.Mons:=zxn b rfl;rw[zH1 e];exact j
 .obtain⟨k,rfl,hk⟩:=zd0 (n:=h.Mons.length) b;unfold zbu;rw[zef hk];exact c
theorem zsj {h:Host}{b:List Entry}{m g page need:Int}{io:Bool}(a:SmH h)(f:zbJ h m g=true):Kp h (lookOf h b m g page need io).1:=by have d:=ze9 a (zcY f).1;unfold lookOf;cases c:zbO h m g page need;{exact⟨d.1,rfl⟩};{obtain⟨A,B⟩:=zAV a c;simp only[cT];cases ieq need 2;{exact zRO A};{have k:=zRO (b:=b) (page:=page) (io:=io) B;have e:zet (zbu h m<|zb4 (zcj h m g) page need).Mons=zet h.Mons:=zxn A.hm rfl;exact⟨k.shape,k.gs.trans e⟩}}
def zjF (x:Host×Int×Bool):List AV:=[.agg<|zbe x.1,.one<|.i .i64 x.2.1,.one<|.b x.2.2]
theorem zhA {h:Host}{b:List Entry}{m g c a:Int}{e:Bool}(d:zbO h m g c a=false):lookOf h b m g c a e=(h,-1,false):=by unfold lookOf;rw[d];rfl
theorem zno {h:Host}{m g b a:Int}(c:zbJ h m g=false):zbO h m g b a=false:=by unfold zbO;rw[c];rfl
theorem zKG {h:Host}{m g:Int}(a:zbM h=false):zbJ h m g=false:=by unfold zbJ;rw[a];rfl
theorem zKH {h:Host}{m g:Int}(a:hasB m (ln h.Mons)=false):zbJ h m g=false:=by unfold zbJ;rw[a];cases zbM h<;>rfl
theorem zKI {h:Host}{m g:Int}(a:hasB g (ln (ix h.Mons m mZ).Guests)=false):zbJ h m g=false:=by unfold zbJ;rw[a];cases zbM h<;>cases hasB m (ln h.Mons)<;>rfl
theorem zKJ {h:Host}{m g:Int}(a:zbM h=true)(b:hasB m (ln h.Mons)=true)(c:hasB g (ln (ix h.Mons m mZ).Guests)=true):zbJ h m g=true:=by unfold zbJ;rw[a,b,c];rfl
structure LookF (r:Host) (m g:Int):Prop where
 hm:hasB m (ln r.Mons)=true
 hg:hasB g (ln (ix r.Mons m mZ).Guests)=true
 ht:hasB g (ln (ix r.Mons m mZ).Tables)=true
 hk:SmK (zbS r m g)
 hb:r.Buffer.length<=1048576
 hi:r.IoBuffer.length<=1048576
theorem zlx {h r:Host}{m g:Int}(k:Kp h r)(b:hasB m (ln h.Mons)=true)(hg:hasB g (ln (ix h.Mons m mZ).Guests)=true):LookF r m g:=by obtain⟨d,e⟩:=zco k.shape (k.has b);have a:hasB g (ln (ix r.Mons m mZ).Guests)=true:=(by rw[zH1 k.gs];exact hg);have c:hasB g (ln (ix r.Mons m mZ).Tables)=true:=(by rw[ln,e.2.2.2];exact a);exact⟨k.has b,a,c,d.2.2.2.2.2.2 _<|zbv c _,k.shape.1.2.2.1,k.shape.1.2.2.2⟩
@[simp] abbrev zkh (h:Host)(b:List Entry)(m g c a:Int)(d:Bool):Bool:=pc (zbX h)
@[simp] abbrev zfE (h:Host)(b:List Entry)(m g page need:Int)(io:Bool):Host:=(lookOf h b m g page need io).1
@[simp] abbrev zkg (h:Host)(b:List Entry)(m g c a:Int)(d:Bool):Int:=(lookOf h b m g c a d).2.1
@[simp] abbrev zhs (h:Host)(b:List Entry)(m g c a:Int)(d:Bool):Bool:=(lookOf h b m g c a d).2.2
def zrr:List AV->Option (Bool×List AV)
 |[.agg [.s (.sl .int) c,.s .mon d,.s .entry e,.s .entry f],.one<|.s .entry g,.one<|.i .i64 h,.one<|.i .i64 j,.one<|.i .i64 k,.one<|.i .i64 l,.one<|.b m]=>some (zkh (⟨c,d,e,f⟩:Host) g h j k l m,[aH<|zfE (⟨c,d,e,f⟩:Host) g h j k l m,aI<|zkg (⟨c,d,e,f⟩:Host) g h j k l m,aB<|zhs (⟨c,d,e,f⟩:Host) g h j k l m])
 |_=>none
abbrev zOC (b:lM)(c:lN)(d:lE)(e:lE)(a:Int)(g:Int)(f:Int):Mon :=
 (ix (zgI (⟨b,c,d,e⟩:Host) a g f).Mons a zf)
abbrev zOD (a:Host)(b c:Int)(d e:Int):Int :=
 (zeB (ix (ix a.Mons b zf).Guests c zl).Live d e)
def zKm (N:Nat)(a:Int)(b:lM)(c:lN)(d:lE)(e:lE):OA:=
 (some [aH (⟨b,c,d,e⟩:Host),aI a,aB true])
def zpc (N:Nat)(l:Int)(m:Bool)(n:Int)(c:Int)(d:Int)(k:lM)(e:lN)(a:lE)(b:lE)(f:lM)(g:lN)(h:lE)(i:lE):OA:=
 let q:=(⟨n,l,c,d⟩:Entry); (share (λ(j:(Int×Int×lM×lN×lE×lE×lM×lN×lE×lE×Unit))=>zKm N j.1 j.2.2.1 j.2.2.2.1 j.2.2.2.2.1 j.2.2.2.2.2.1) λp=>cond m (oN (zhP b q)<|p (c,d,k,e,a,zhb b q,f,g,h,i,()))<|oN (zhP a q)<|p (c,d,k,e,zhb a q,b,f,g,h,i,()))
def zra (N:Nat)(d:lM)(e:lN)(f:lE)(g:lE)(b:Int)(i:Int)(h:Int)(a:Int)(c:Int)(y:(Int×Bool×Int×Int×Int×Int×Int×Int×Int×lM×lN×lE×lE×lM×lN×lE×lE×Unit)->OA)(r:Bool)(s:Int)(t:Int)(u:Int)(v:Int)(k:Int)(l:lM)(m:lN)(n:lE)(p:lE):OA:=
 let D:=(⟨d,e,f,g⟩:Host);let w:=zgI D b i h;let x:=inb b<|ln w.Mons;let j:=zOC d e f g b i h;let C:=ix j.Tables a zc3;let A:=(ix j.Guests a zl).Live; (oN (zhq D b i h)<|oN x<|oN x<|oN (inb a<|ln j.Tables)<|oN x<|oN (inb a<|ln j.Guests)<|oN x<|oN (ztg C A j.Outer c)<|oN (inb a<|ln j.Tables)<|share (up w.Mons b ({j with Tables:=(up j.Tables a<|ztf C A j.Outer c)}:Mon)) (λq=>let B:=(ix q b zf).Tables;let z:=ix B a zc3; (oN (inb b<|ln q)<|oN (inb a<|ln B)<|oN (zdy z c)<|y (c,r,s,t,u,v,k,(zgP z c).Page,(zgP z c).Rights,w.Memory,q,w.Buffer,w.IoBuffer,l,m,n,p,()))))
def zlk (N:Nat)(d:Int)(e:Int)(c:Int)(n:Int)(p:Bool)(v:Int)(q:Int)(r:Int)(s:Int)(t:Int)(f:Int)(g:lM)(b:lN)(h:lE)(i:lE)(j:lM)(k:lN)(l:lE)(m:lE):OA:=
 let z:=(ix b d zf).Tables;let x:=ix z e zc3;let w:=zgP x c; (oN (inb d<|ln b)<|oN (inb e<|ln z)<|oN (zdy x c)<|share (λ(a:(Int×Bool×Int×Int×Int×Int×Int×Int×Int×lM×lN×lE×lE×lM×lN×lE×lE×Unit))=>zpc N a.1 a.2.1 a.2.2.1 a.2.2.2.2.2.2.2.1 a.2.2.2.2.2.2.2.2.1 a.2.2.2.2.2.2.2.2.2.1 a.2.2.2.2.2.2.2.2.2.2.1 a.2.2.2.2.2.2.2.2.2.2.2.1 a.2.2.2.2.2.2.2.2.2.2.2.2.1 a.2.2.2.2.2.2.2.2.2.2.2.2.2.1 a.2.2.2.2.2.2.2.2.2.2.2.2.2.2.1 a.2.2.2.2.2.2.2.2.2.2.2.2.2.2.2.1 a.2.2.2.2.2.2.2.2.2.2.2.2.2.2.2.2.1) (λu=>let y:=zra N g b h i d v n e c u p q r s t f j k l m; (cond (nB<|zj8 x c) y<|cond (ieq w.Page<|-1) y<|oN (zbg w.Rights n)<|cond (nB<|zcF w.Rights n) y<|u (c,p,q,r,s,t,f,w.Page,w.Rights,g,b,h,i,j,k,l,m,()))))
def zrb (N:Nat)(g:Int)(a:Host)(h e f:Int)(l:lE)(n:Bool):OA:=
 let i:=zkc g h;let k:=zOD a g h e f;let m:=ix a.Mons g zf;let s:=(ix m.Guests h zl).Live;let d:=zf0 l i e;let j:=d.Rights; (oN (inb g<|ln a.Mons)<|oN (inb h<|ln m.Guests)<|oN (zgT s e f)<|cond (nB<|zec s e f) (some [aH a,aI<|-1,aB false])<|oN (zhm g h)<|cond (ieq f 2) (oN (inb g<|ln a.Mons)<|oN (inb k<|ln m.Dirty)<|share (up a.Mons g ({m with Dirty:=(up m.Dirty k true)}:Mon)) λp=>oN (zgY l i e)<|share (λ(c:(Int×Int×Int×Int×Bool×Int×Int×Int×Int×Int×Int×lM×lN×lE×lE×lM×lN×lE×lE×Unit))=>zlk N c.1 c.2.1 c.2.2.1 c.2.2.2.1 c.2.2.2.2.1 c.2.2.2.2.2.1 c.2.2.2.2.2.2.1 c.2.2.2.2.2.2.2.1 c.2.2.2.2.2.2.2.2.1 c.2.2.2.2.2.2.2.2.2.1 c.2.2.2.2.2.2.2.2.2.2.1 c.2.2.2.2.2.2.2.2.2.2.2.1 c.2.2.2.2.2.2.2.2.2.2.2.2.1 c.2.2.2.2.2.2.2.2.2.2.2.2.2.1 c.2.2.2.2.2.2.2.2.2.2.2.2.2.2.1 c.2.2.2.2.2.2.2.2.2.2.2.2.2.2.2.1 c.2.2.2.2.2.2.2.2.2.2.2.2.2.2.2.2.1 c.2.2.2.2.2.2.2.2.2.2.2.2.2.2.2.2.2.1 c.2.2.2.2.2.2.2.2.2.2.2.2.2.2.2.2.2.2.1) λr=>cond (zfc l i e) (oN (zbg j f)<|cond (zcF j f) (some [aH ({a with Mons:=p}:Host),aI d.Host,aB true])<|r (g,h,e,f,n,k,i,d.Tag,d.Page,d.Host,j,a.Memory,p,a.Buffer,a.IoBuffer,[],[],[],[],()))<|r (g,h,e,f,n,k,i,d.Tag,d.Page,d.Host,j,a.Memory,p,a.Buffer,a.IoBuffer,[],[],[],[],()))<|oN (zgY l i e)<|share (λ(b:(Int×Int×Int×Int×Bool×Int×Int×Int×Int×Int×Int×lM×lN×lE×lE×lM×lN×lE×lE×Unit))=>zlk N b.1 b.2.1 b.2.2.1 b.2.2.2.1 b.2.2.2.2.1 b.2.2.2.2.2.1 b.2.2.2.2.2.2.1 b.2.2.2.2.2.2.2.1 b.2.2.2.2.2.2.2.2.1 b.2.2.2.2.2.2.2.2.2.1 b.2.2.2.2.2.2.2.2.2.2.1 b.2.2.2.2.2.2.2.2.2.2.2.1 b.2.2.2.2.2.2.2.2.2.2.2.2.1 b.2.2.2.2.2.2.2.2.2.2.2.2.2.1 b.2.2.2.2.2.2.2.2.2.2.2.2.2.2.1 b.2.2.2.2.2.2.2.2.2.2.2.2.2.2.2.1 b.2.2.2.2.2.2.2.2.2.2.2.2.2.2.2.2.1 b.2.2.2.2.2.2.2.2.2.2.2.2.2.2.2.2.2.1 b.2.2.2.2.2.2.2.2.2.2.2.2.2.2.2.2.2.2.1) λq=>cond (zfc l i e) (oN (zbg j f)<|cond (zcF j f) (some [aH a,aI d.Host,aB true])<|q (g,h,e,f,n,k,i,d.Tag,d.Page,d.Host,j,a.Memory,a.Mons,a.Buffer,a.IoBuffer,[],[],[],[],()))<|q (g,h,e,f,n,k,i,d.Tag,d.Page,d.Host,j,a.Memory,a.Mons,a.Buffer,a.IoBuffer,[],[],[],[],()))
def zpU (N:Nat)(a:Host)(g:lE)(b c:Int)(h d:Int)(i:Bool):OA:=
 let f:=zrb N b a c h d g i;let e:=wsub .i64 (ln (ix a.Mons b zf).Guests) 1; (oN (zc9 a)<|cond (nB<|zdj a) (some [aH a,aI<|-1,aB false])<|oN (zG b 0<|wsub .i64 (ln a.Mons) 1)<|cond (nB<|zi b 0<|wsub .i64 (ln a.Mons) 1) (some [aH a,aI<|-1,aB false])<|oN (inb b<|ln a.Mons)<|oN (zG c 0 e)<|cond (nB<|zi c 0 e) (some [aH a,aI<|-1,aB false])<|cond (ine d 1) (cond (ine d 2) (some [aH a,aI<|-1,aB false]) f) f)
def zrD:=zx [(372,999999,{n:=0,tm:=[],lo:=[],ro:=[]}),(372,1007023,{n:=210,tm:=[(2,ti),(3,ti),(4,ti),(5,ti),(6,.b),(7,.lp 0 0),(14,.lp 1 0),(17,ti),(19,ti),(20,.lp 2 0)],lo:=[(0,[.sl 0 [],.sl 1 [],.sl 2 [],.sl 3 []]),(1,[.sl 4 [],.sl 5 [],.sl 6 [],.sl 7 []]),(2,[ti,ti,ti,ti])],ro:=[(0,.sl .int,true),(1,.mon,true),(2,.entry,true),(3,.entry,true),(4,.sl .int,true),(5,.mon,true),(6,.entry,true),(7,.entry,true)],kr:=1}),(372,1009011,{n:=210,tm:=[(4,ti),(6,.b),(7,.lp 0 0),(14,.lp 1 0),(19,ti),(20,.lp 2 0),(22,.lp 3 0)],lo:=[(0,[.sl 0 [],.sl 1 [],.sl 2 [],.sl 3 []]),(1,[.sl 4 [],.sl 5 [],.sl 6 [],.sl 7 []]),(2,[ti,ti,ti,ti]),(3,[ti,ti])],ro:=[(0,.sl .int,true),(1,.mon,true),(2,.entry,true),(3,.entry,true),(4,.sl .int,true),(5,.mon,true),(6,.entry,true),(7,.entry,true)],kr:=1}),(372,1005003,{n:=210,tm:=[(7,.lp 0 0),(14,.lp 1 0),(22,.lp 2 0)],lo:=[(0,[.sl 0 [],.sl 1 [],.sl 2 [],.sl 3 []]),(1,[.sl 4 [],.sl 5 [],.sl 6 [],.sl 7 []]),(2,[ti,ti])],ro:=[(0,.sl .int,true),(1,.mon,true),(2,.entry,true),(3,.entry,true),(4,.sl .int,true),(5,.mon,true),(6,.entry,true),(7,.entry,true)],kr:=1})]
theorem zMx (N:Nat)(a:Host)(b c:Int)(d e:Int)(f:Bool):zQa (cQ zmA znW zXV zYu) zrD N 12 372 [true,true,true,true,false,false,false,false,false,false] [(4,2)] 1 1 [[0],[1],[2],[4],[7]] .mon [aH a,aS .entry a.Buffer,aI b,aI c,aI d,aI e,aB f]=zpU N a a.Buffer b c d e f:=by kernel_rfl
theorem zMy (N:Nat)(a:Host)(b c:Int)(d e:Int)(f:Bool):zQa (cQ zmA znW zXV zYu) zrD N 12 372 [true,true,true,true,false,false,false,false,false,false] [(4,3)] 1 1 [[0],[1],[2],[4],[7]] .mon [aH a,aS .entry a.IoBuffer,aI b,aI c,aI d,aI e,aB f]=zpU N a a.IoBuffer b c d e f:=by kernel_rfl
theorem zBW {N:Nat}{r:Host}{m g a:Int}{b:Bool}{z1 z2 z3 z4}(c:r.Buffer.length<=1048576)(d:r.IoBuffer.length<=1048576) :
 zpc N a b (zd8 m g) (zdq (zbS r m g) a).Page (zdq (zbS r m g) a).Rights r.Memory r.Mons r.Buffer r.IoBuffer z1 z2 z3 z4=some (zjF<|zeK r m g a b):=by
 unfold zpc oN
 conv=>zeta
 refine shr ?_;cases b
 .exact zcQ rfl (must (zbj c) rfl)
 .exact must rfl (must (zbj d) rfl)
theorem zRl {N:Nat}{r:Host}{m g a b q:Int}{c:Bool}{R:OA}{r11}{u6 u7 u8 u9 u10 z1 z2 z3 z4}(A:LookAt r m g q b)(d:r11 (a,c,u6,u7,u8,u9,u10,(zdq (zbS (zce (mended r m q b) m g a) m g) a).Page,(zdq (zbS (zce (mended r m q b) m g a) m g) a).Rights,(zce (mended r m q b) m g a).Memory,(zce (mended r m q b) m g a).Mons,(zce (mended r m q b) m g a).Buffer,(zce (mended r m q b) m g a).IoBuffer,z1,z2,z3,z4,())=R) :
 zra N r.Memory r.Mons r.Buffer r.IoBuffer m q b g a r11 c u6 u7 u8 u9 u10 z1 z2 z3 z4=R:=by
 have M:=zlx A.kp A.hm A.hg;have F:=zlx (A.fill a) A.hm A.hg;unfold zra oN
 conv=>zeta
 exact must (zbj A.mend) (must (zy M.hm)<|must (zy M.hm)<|must (zy M.ht)<|must (zy M.hm)<|must (zy M.hg)<|must (zy M.hm)<|must (zbj M.hk)<|must (zy M.ht)<|shr<|must (zy F.hm)<|must (zy F.ht)<|must (zbj F.hk) d)
theorem zWs {r:Host}{m g a b:Int}(h:zg3 (zbS r m g) a=false):zer r m g a b=true:=by unfold zer;rw[h];rfl
theorem zWt {r:Host}{m g a b:Int}(h:ieq (zdq (zbS r m g) a).Page (-1)=true):zer r m g a b=true:=by unfold zer;rw[h];cases zg3 (zbS r m g) a<;>rfl
theorem zWu {r:Host}{m g a b:Int}(h:enough (zdq (zbS r m g) a).Rights b=false):zer r m g a b=true:=by unfold zer;rw[h];cases zg3 (zbS r m g) a<;>cases ieq (zdq (zbS r m g) a).Page (-1)<;>rfl
theorem zWv {r:Host}{m g a b:Int}(c:zg3 (zbS r m g) a=true)(d:ieq (zdq (zbS r m g) a).Page (-1)=false)(e:enough (zdq (zbS r m g) a).Rights b=true):zer r m g a b=false:=by unfold zer;rw[c,d,e];rfl
theorem zsk {r:Host}{m g a b q:Int}{c:Bool}(h:zer r m g a b=true):(cond (zer r m g a b) (zeK (zce (mended r m q b) m g a) m g a c)<|zeK r m g a c)=zeK (zce (mended r m q b) m g a) m g a c:=by rw[h];rfl
theorem zVZ {r:Host}{m g a b q:Int}{c:Bool}(h:zer r m g a b=false):(cond (zer r m g a b) (zeK (zce (mended r m q b) m g a) m g a c)<|zeK r m g a c)=zeK r m g a c:=by rw[h];rfl
theorem zBX {N:Nat}{r:Host}{m g a b q:Int}{f:Bool}{u7 u8 u9 u10 z1 z2 z3 z4}(A:LookAt r m g q b) :
 zlk N m g a b f q (zd8 m g) u7 u8 u9 u10 r.Memory r.Mons r.Buffer r.IoBuffer z1 z2 z3 z4=some (zjF<|cond (zer r m g a b) (zeK (zce (mended r m q b) m g a) m g a f)<|zeK r m g a f):=by
 have M:=zlx ⟨A.fit.1,rfl⟩ A.hm A.hg;have F:=zlx (A.fill a) A.hm A.hg;unfold zlk oN nB
 conv=>zeta
 refine must (zy M.hm) (must (zy M.ht)<|must (zbj M.hk)<|shr<|brN (λc=>?_) λc=>br (λd=>?_) λd=>must rfl (brN (λe=>?_) λe=>?_))
 .rw [zsk<|zWs c];exact zRl A (zBW (r:=zce (mended r m q b) m g a) (m:=m) (g:=g) F.hb F.hi)
 .rw [zsk<|zWt d];exact zRl A (zBW (r:=zce (mended r m q b) m g a) (m:=m) (g:=g) F.hb F.hi)
 .rw [zsk<|zWu e];exact zRl A (zBW (r:=zce (mended r m q b) m g a) (m:=m) (g:=g) F.hb F.hi)
 .rw [zVZ<|zWv c d e];exact zBW (r:=r) (m:=m) (g:=g) M.hb M.hi
theorem zB0 {b:List Entry}{m g a c:Int}(h:(zqI b m g a).isSome=false):zhx b m g a c=false:=by unfold zhx;rw[h];rfl
theorem znj {b:List Entry}{m g a c:Int}{x:Bool}(d:(zqI b m g a).isSome=true)(h:enough ((zqI b m g a).getD ⟨0,0,0,0⟩).Rights c=x):zhx b m g a c=x:=by unfold zhx;rw[d,h];rfl
theorem znn {r:Host}{b:List Entry}{m g a c q:Int}{d:Bool}(h:zhx b m g a c=false):zfu r b m g a c q d=bif zer r m g a c then zeK (zce (mended r m q c) m g a) m g a d else zeK r m g a d:=by unfold zfu;rw[h];rfl
theorem zB4 {r:Host}{b:List Entry}{m g a c q:Int}{d:Bool}(h:zhx b m g a c=true):zfu r b m g a c q d=(r,((zqI b m g a).getD ⟨0,0,0,0⟩).Host,true):=by unfold zfu;rw[h];rfl
theorem zGe {h:Host}{b:List Entry}{m g c a:Int}{d:Bool}(e:zbO h m g c a=true):lookOf h b m g c a d=zfu (cond (ieq a 2) (zbu h m<|zb4 (zcj h m g) c a) h) b m g c a (zb4 (zcj h m g) c a) d:=by unfold lookOf;rw[e];rfl
theorem zZs {N:Nat}{r:Host}{b:List Entry}{m g c a:Int}{f:Bool}(p:SmH r)(hg:zbJ r m g=true)(k:zf8 a=true) :
 zrb N m r g c a b f=some (zjF (lookOf r b m g c a f)):=by
 obtain⟨q,h,l⟩:=zcY hg;unfold zrb oN nB
 conv=>zeta
 refine must (zy h) (must (zy l) (must rfl (brN (fun j=>?_) (fun j=>must rfl ?_))))
 .have:zbO r m g c a=false:=by
   unfold zbO;rw[hg,k,show zez (zcj r m g) c a=false from j];rfl
  rw[zhA this];rfl
 .have hl:zbO r m g c a=true:=by
   unfold zbO;rw[hg,k,show zez (zcj r m g) c a=true from j];rfl
  obtain⟨A,B⟩:=zAV p hl;rw[zGe hl];have n:hasB (zb4 (zcj r m g) c a) (ln (ix r.Mons m mZ).Dirty)=true:=zdI (zco A.fit.1 h).2.2.2.1 A.hq;refine br (fun i=>?_) (fun i=>?_)
  .rw [i]
   show _=some (zjF (zfu (zbu r m (zb4 (zcj r m g) c a)) b m g c a (zb4 (zcj r m g) c a) f))
   refine must (zy h) (must (zy n) (shr (must rfl (shr (br (fun d=>must rfl (br (fun e=>?_) (fun e=>?_))) (fun d=>?_))))))
   .rw [zB4 (znj d e)];rfl
   .rw [znn (znj d e)];exact zBX (r:=zbu r m (zb4 (zcj r m g) c a)) B
   .rw [znn (zB0 d)];exact zBX (r:=zbu r m (zb4 (zcj r m g) c a)) B
  .rw [i]
   show _=some (zjF (zfu r b m g c a (zb4 (zcj r m g) c a) f))
   refine must rfl (shr (br (fun d=>must rfl (br (fun e=>?_) (fun e=>?_))) (fun d=>?_)))
   .rw [zB4 (znj d e)];rfl
   .rw [znn (znj d e)];exact zBX A
   .rw [znn (zB0 d)];exact zBX A
theorem zPO (a:Host)(f:List Entry)(b c:Int)(e d:Int)(g:Bool)(t:zbB big [aH a,aS .entry f,aI b,aI c,aI e,aI d,aB g])(r:zkh a f b c e d g=true):∃N,zpU N a f b c e d g=some [aH<|zfE a f b c e d g,aI<|zkg a f b c e d g,aB<|zhs a f b c e d g]:=by
 have j:=(zM a).1 (zJ.1 r);refine⟨0,?_⟩;show _=some (zjF<|lookOf a f b c e d g);unfold zpU oN nB;conv=>zeta
 refine must rfl (brN (λk=>?_) λk=>must rfl ?_);{rw [zhA<|zno<|zKG k];rfl};rw[show zi b 0 (wsub .i64 (ln a.Mons) 1)=hasB b (ln a.Mons) from zpT j.2.1.1 b];refine brN (λi=>?_) (λi=>must (zy i) (must rfl ?_));{rw [zhA<|zno<|zKH i];rfl};have s:(ix a.Mons b mZ).Guests.length<=1048576:=(j.2.1.2 _<|zbv i _).2.2.2.1.1;rw[show zi c 0 (wsub .i64 (ln (ix a.Mons b zf).Guests) 1)=hasB c (ln (ix a.Mons b mZ).Guests) from zpT s c];refine brN (λl=>?_) (λl=>?_);{rw [zhA<|zno<|zKI l];rfl};have hg:=zKJ k i l;have p:∀{n:Int},zf8 n=false->zbO a b c e n=false:=λ{n} h=>(by unfold zbO;rw[hg,h];rfl);rw[zj6,zj6];cases m:ieq d 1;{cases q:ieq d 2;{have:zf8 d=false:=(by unfold zf8;rw[m,q];rfl);rw[zhA<|p this];rfl};{exact zZs j hg (by unfold zf8;rw[m,q];rfl)}};{exact zZs j hg (by unfold zf8;rw[m];rfl)}
theorem zIO:zd9 Tryz.prog 372 [true,true,true,true,false,false,false,false,false,false] (some (1,1,[[0],[1],[2],[4],[7]])) zrr:=by refine zKK (kt:=.mon) (zgL zhF zq zbW zwM) (zia (by kernel_rfl)) ?_;intro p s x f i w v h;have t:=ziO v;have g:p=[(4,2)]\/p=[(4,3)]:=(by rw[show zh4 372=[[(4,2)],[(4,3)]] from by kernel_rfl]at f;simpa using f);unfold zrr at h;split at h;{rename_i a b c d r j k l m n;obtain⟨u,rfl⟩:=zel h;obtain⟨N,q⟩:=zPO (⟨a,b,c,d⟩:Host) r j k l m n t u;refine⟨⟨_,rfl⟩,rfl,zrD,N,12,?_⟩;rcases g with rfl|rfl;{have e:=i 4 2 (by simp);simp only[zB,j6,AV.cvs] at e;cases e;exact(zMx N (⟨a,b,c,d⟩:Host) j k l m n).trans q};{have e:=i 4 3 (by simp);simp only[zB,j6,AV.cvs] at e;cases e;exact(zMy N (⟨a,b,c,d⟩:Host) j k l m n).trans q}};{cases h}
def z3j:zfg:=[(372,[true,true,true,true,false,false,false,false,false,false],some (1,1,[[0],[1],[2],[4],[7]]),zrr)]++zYu
theorem zgQ:zea z3j:=znc zwM (by
 intro x a;simp only[qG,qW,or_false]at a;rcases a with rfl
 .exact zIO)
def gOf (h:Host)(m g:Int):Guest:=ix (ix h.Mons m mZ).Guests g gZ
def zfN (h:Host)(m g:Int)(x:Guest):Host:={h with Mons:=up h.Mons m {ix h.Mons m mZ with Guests:=up (ix h.Mons m mZ).Guests g x}}
def zhS (h:Host)(m g:Int)(x:Guest)(w:Bool):Host×Int×Bool:=lookOf h h.Buffer m g (zbb<|address x) (zbY w) false
def zfT (L:Host×Int×Bool)(m g:Int)(x:Guest)(w:Bool):Host :=
 bif L.2.2 then (cond w (zfN {L.1 with Memory:=zbD L.1.Memory L.2.1 (zdh<|address x) x.A} m g<|zbT x)<|zfN L.1 m g<|loaded x<|cellAt L.1.Memory L.2.1<|zdh<|address x)
 else zfN L.1 m g (stopped x<|zqG (zbb<|address x) w)
def owned (h:Host)(m:Int):Host:=bif ilt (ix h.Mons m mZ).Own 1000000000 then {h with Mons:=up h.Mons m {ix h.Mons m mZ with Own:=zI .i64 (ix h.Mons m mZ).Own 1}} else h
def zgA (h:Host)(m n:Int):Host:=bif ilt (ln (ix h.Mons m mZ).Outs) 40 then {h with Mons:=up h.Mons m {ix h.Mons m mZ with Outs:=ap (ix h.Mons m mZ).Outs [n]}} else h
def zdY (h:Host)(m:Int)(x:Guest)(w:Int):Host:=bif (cond (ine w 6) (ieq (zkR (ix h.Mons m mZ).Traps x.Ctl.Traps<|ze8 w) 2) false) then owned h m else h
def zf4 (h:Host)(m:Int)(x:Guest)(w:Int):Host:=bif (cond (zgv x.Ctl.Traps w) (ieq w 5) false) then zgA h m (zb8 x.Prog x.Pc).X else h
def zin (h:Host)(m g:Int)(x:Guest)(w:Int):Host:=zfN (zf4 (zdY h m x w) m x w) m g (zfv x x.Ctl.Traps w)
def zBz (h:Host)(m g:Int)(x:Guest)(w:Int):Host×Bool :=
 bif ieq w 0 then (h,false) else (bif ieq w 1 then (zfN h m g<|interrupted x,true) else (bif ieq w 2 then (zfN h m g<|plainly x,true) else
  (cond (cond (ieq w 3) true<|ieq w 4) (zfT (zhS h m g x<|ieq w 4) m g x<|ieq w 4,true) (zin h m g x w,true))))
def zbt (h:Host)(m g:Int):Host×Bool:=bif zbJ h m g then zBz h m g (gOf h m g) (zD<|gOf h m g) else (h,false)
def zen (x:Host×Bool):List AV:=[.agg<|zbe x.1,.one<|.b x.2]
theorem zj0 {h:Host}{m g:Int}(b:SmH h)(a:hasB m (ln h.Mons)=true)(hg:hasB g (ln (ix h.Mons m mZ).Guests)=true):SmG (gOf h m g):=(b.2.1.2 _<|zbv a _).2.2.2.1.2 _ (zbv hg _)
theorem zYh {h:Host}{m g:Int}{x:Guest}(c:Shape h)(d:hasB m (ln h.Mons)=true)(e:SmG x):Shape (zfN h m g x):=by obtain⟨a,b⟩:=zco c d;exact ziC c ⟨a.1,a.2.1,a.2.2.1,zCd a.2.2.2.1 e,a.2.2.2.2⟩ ⟨b.1,b.2.1,b.2.2.1,by simpa using b.2.2.2⟩
theorem z8c (o i t:Int):ieq (zkR o i t) 1=zdH i t:=by unfold zkR;cases zdH i t;{cases zdH o t<;>rfl};{rfl}
theorem z8d {o i t:Int}(h:zdH i t=true):ieq (zkR o i t) 2=false:=by unfold zkR;rw[h];rfl
theorem znX {h:Host}{m:Int}(b:hasB m (ln h.Mons)=true)(x:Mon):ix (up h.Mons m x) m mZ=x:=by obtain⟨k,rfl,a⟩:=zd0 (n:=h.Mons.length) b;exact zef a _ _
@[simp] abbrev zbV (h:Host)(m g:Int):Host:=(zbt h m g).1
@[simp] abbrev zb3 (h:Host)(m g:Int):Bool:=(zbt h m g).2
theorem zQb {a:Type}{l:List a}{x:a}(h:ilt (ln l) 40=true):few (ln<|ap l [x])=true:=by have:=qD h;simp only[ln] at this;exact zf6 (by simp[ap];omega)
theorem zWz {h:Host}{m:Int}{x:Guest}{w:Int}(a:(cond (zgv x.Ctl.Traps w) (ieq w 5) false)=false):zf4 h m x w=h:=by unfold zf4;rw[a];rfl
theorem zOw {h:Host}{m:Int}{x:Guest}{w:Int}(a:ilt (ln (ix h.Mons m mZ).Outs) 40=false):zf4 h m x w=h:=by unfold zf4 zgA;rw[a];cases (cond (zgv x.Ctl.Traps w) (ieq w 5) false)<;>rfl
theorem zTD {h:Host}{m:Int}{x:Guest}{w:Int}(a:zgv x.Ctl.Traps w=true)(b:ieq w 5=true)(c:ilt (ln (ix h.Mons m mZ).Outs) 40=true):zf4 h m x w={h with Mons:=up h.Mons m {ix h.Mons m mZ with Outs:=ap (ix h.Mons m mZ).Outs [(zb8 x.Prog x.Pc).X]}}:=by unfold zf4 zgA;rw[a,b,c];rfl
theorem zJ7 {h:Host}{m:Int}{x:Guest}{w:Int}(a:zgv x.Ctl.Traps w=false):zf4 h m x w=h:=zWz (by rw[a];rfl)
theorem zBD {h:Host}{m:Int}{x:Guest}{w:Int}(a:ieq w 5=false):zf4 h m x w=h:=zWz (by rw[a];cases zgv x.Ctl.Traps w<;>rfl)
theorem zIU (a:Int):(cond (ieq a a) true false)=true:=by rw[ziu];rfl
theorem zh1 {h:Host}{m g:Int}(a:zbJ h m g=false):zbt h m g=(h,false):=by unfold zbt;rw[a];rfl
theorem ziD {h:Host}{m g:Int}(a:zbJ h m g=true):zbt h m g=zBz h m g (gOf h m g) (zD<|gOf h m g):=by unfold zbt;rw[a];rfl
theorem zlY {a b:Bool}(h:(cond a b false)=true):a=true/\b=true:=by cases a;{cases h};{exact⟨rfl,h⟩}
theorem ziG {a b:Bool}(c:a=true)(d:b=true):(cond a b false)=true:=by rw[c];exact d
theorem zWC {h:Host}{m:Int}{x:Guest}{w:Int}(b:ine w 6=true)(a:ieq (zkR (ix h.Mons m mZ).Traps x.Ctl.Traps<|ze8 w) 2=true)(c:ilt (ix h.Mons m mZ).Own 1000000000=true):zdY h m x w={h with Mons:=up h.Mons m {ix h.Mons m mZ with Own:=zI .i64 (ix h.Mons m mZ).Own 1}}:=by unfold zdY owned;rw[b,a,c];rfl
theorem zWA {h:Host}{m:Int}{x:Guest}{w:Int}(a:ieq (zkR (ix h.Mons m mZ).Traps x.Ctl.Traps<|ze8 w) 2=false):zdY h m x w=h:=by unfold zdY;rw[a];cases ine w 6<;>rfl
theorem zWB {h:Host}{m:Int}{x:Guest}{w:Int}(a:ilt (ix h.Mons m mZ).Own 1000000000=false):zdY h m x w=h:=by unfold zdY owned;rw[a];cases (cond (ine w 6) (ieq (zkR (ix h.Mons m mZ).Traps x.Ctl.Traps<|ze8 w) 2) false)<;>rfl
theorem z7b {h:Host}{m:Int}{x:Guest}:zdY h m x 6=h:=rfl
theorem znd {h a:Host}{m g:Int}{x:Guest}{w:Int}(e:zdY h m x w=a):zin h m g x w=zfN (zf4 a m x w) m g (zfv x x.Ctl.Traps w):=by unfold zin;rw[e]
theorem z3l (x:Guest):ieq (zD x) 0=true\/ieq (zD x) 1=true\/ieq (zD x) 2=true\/ieq (zD x) 3=true\/ieq (zD x) 4=true\/ieq (zD x) 5=true\/ieq (zD x) 6=true\/ieq (zD x) 7=true:=by cases a:ieq (zD x) 0;{cases b:ieq (zD x) 1;{cases c:ieq (zD x) 2;{cases d:ieq (zD x) 3;{cases e:ieq (zD x) 4;{cases f:ieq (zD x) 5;{cases g:ieq (zD x) 6;{exact .inr (.inr<|.inr<|.inr<|.inr<|.inr<|.inr<|zYx x a b c d e f g)};{exact .inr (.inr<|.inr<|.inr<|.inr<|.inr (.inl rfl))}};{exact .inr (.inr<|.inr<|.inr<|.inr (.inl rfl))}};{exact .inr (.inr<|.inr<|.inr (.inl rfl))}};{exact .inr (.inr<|.inr (.inl rfl))}};{exact .inr (.inr (.inl rfl))}};{exact .inr (.inl rfl)}};{exact .inl rfl}
abbrev zyT (x:Guest):Bool:=bif zbp x then ieq (zD x) 0 else false
def zor:List AV->Option (Bool×List AV)
 |[.agg [.s .ins c,.i .i64 d,.i .i64 e,.s .slot f,.s .slot g,.i .i64 h,.i .i64 j,.b k,.i .i64 l,.i .i64 m,.i .i64 n,.b o,.i .i64 p,.b q,.s .int r]]=>some (zyT (⟨c,d,e,f,g,⟨h,j,k⟩,l,⟨m,n,o,p⟩,q,r⟩:Guest),[.one<|.i .i64 0])
 |_=>none
theorem zCD:vQ 201 zor:=by refine⟨zch.1,λw b g j a h=>?_⟩;unfold zor at h;split at h;{obtain⟨f,rfl⟩:=zel h;obtain⟨d,e⟩:=zlY f;exact zch.2 w _ g _ a (congr (congrArg (λc v=>some (c,[AV.one<|CV.i .i64 v])) d) (qD e))};{cases h}
def z5P:zV:=[(201,zor)]++zmA
theorem zW2:zL z5P:=zh zCD zhF
@[simp] abbrev zuw (h:Host)(m g:Int):Bool:=bif zcD h m g then ieq (zD<|gOf h m g) 0 else false
def zCZ:Run:=rF3 dH dI dI λb c d=>(zuw b c d,[aH<|zbV b c d,aB<|zb3 b c d])
def ztC (N:Nat)(d:Host)(b c:Int):OA:=
 let a:=zk d;let e:=(ix a.Mons b zf).Guests; (oN (zbi d)<|oN (zcD a b c)<|cond (nB<|zjb a b c) (some [aH a,aB false])<|oN (inb b<|ln a.Mons)<|oN (inb c<|ln e)<|oN (zyT<|ix e c zl)<|some [aH a,aB false])
abbrev zyU (x:Guest):Bool:=bif zbp x then ieq (zD x) 1 else false
def zos:List AV->Option (Bool×List AV)
 |[.agg [.s .ins c,.i .i64 d,.i .i64 e,.s .slot f,.s .slot g,.i .i64 h,.i .i64 j,.b k,.i .i64 l,.i .i64 m,.i .i64 n,.b o,.i .i64 p,.b q,.s .int r]]=>some (zyU (⟨c,d,e,f,g,⟨h,j,k⟩,l,⟨m,n,o,p⟩,q,r⟩:Guest),[.one<|.i .i64 1])
 |_=>none
theorem zCE:vQ 201 zos:=by refine⟨zch.1,λw b g j a h=>?_⟩;unfold zos at h;split at h;{obtain⟨f,rfl⟩:=zel h;obtain⟨d,e⟩:=zlY f;exact zch.2 w _ g _ a (congr (congrArg (λc v=>some (c,[AV.one<|CV.i .i64 v])) d) (qD e))};{cases h}
def z5Q:zV:=[(201,zos)]++zmA
theorem zW3:zL z5Q:=zh zCE zhF
@[simp] abbrev zux (h:Host)(m g:Int):Bool:=bif zcD h m g then ieq (zD<|gOf h m g) 1 else false
def zC0:Run:=rF3 dH dI dI λb c d=>(zux b c d,[aH<|zbV b c d,aB<|zb3 b c d])
def ztD (N:Nat)(f:Host)(b c:Int):OA:=
 let a:=zk f;let d:=ix a.Mons b zf;let e:=ix d.Guests c zl; (oN (zbi f)<|oN (zcD a b c)<|cond (nB<|zjb a b c) (some [aH a,aB false])<|oN (inb b<|ln a.Mons)<|oN (inb c<|ln d.Guests)<|oN (zyU e)<|oN (inb b<|ln a.Mons)<|oN (zK e)<|oN (inb c<|ln d.Guests)<|share (up a.Mons b ({d with Guests:=(up d.Guests c<|zeE e)}:Mon)) λg=>some [aH ({a with Mons:=g}:Host),aB true])
abbrev zyV (x:Guest):Bool:=bif zbp x then ieq (zD x) 2 else false
def zot:List AV->Option (Bool×List AV)
 |[.agg [.s .ins c,.i .i64 d,.i .i64 e,.s .slot f,.s .slot g,.i .i64 h,.i .i64 j,.b k,.i .i64 l,.i .i64 m,.i .i64 n,.b o,.i .i64 p,.b q,.s .int r]]=>some (zyV (⟨c,d,e,f,g,⟨h,j,k⟩,l,⟨m,n,o,p⟩,q,r⟩:Guest),[.one<|.i .i64 2])
 |_=>none
theorem zCF:vQ 201 zot:=by refine⟨zch.1,λw b g j a h=>?_⟩;unfold zot at h;split at h;{obtain⟨f,rfl⟩:=zel h;obtain⟨d,e⟩:=zlY f;exact zch.2 w _ g _ a (congr (congrArg (λc v=>some (c,[AV.one<|CV.i .i64 v])) d) (qD e))};{cases h}
def z5R:zV:=[(201,zot)]++zmA
theorem zW4:zL z5R:=zh zCF zhF
@[simp] abbrev zuy (h:Host)(m g:Int):Bool:=bif zcD h m g then ieq (zD<|gOf h m g) 2 else false
def zC1:Run:=rF3 dH dI dI λb c d=>(zuy b c d,[aH<|zbV b c d,aB<|zb3 b c d])
def ztE (N:Nat)(f:Host)(b c:Int):OA:=
 let a:=zk f;let d:=ix a.Mons b zf;let e:=ix d.Guests c zl; (oN (zbi f)<|oN (zcD a b c)<|cond (nB<|zjb a b c) (some [aH a,aB false])<|oN (inb b<|ln a.Mons)<|oN (inb c<|ln d.Guests)<|oN (zyV e)<|oN (inb b<|ln a.Mons)<|oN (zK e)<|oN (inb c<|ln d.Guests)<|share (up a.Mons b ({d with Guests:=(up d.Guests c<|zhf e)}:Mon)) λg=>some [aH ({a with Mons:=g}:Host),aB true])
abbrev zyW (x:Guest):Bool:=bif zbp x then ieq (zD x) 3 else false
def zou:List AV->Option (Bool×List AV)
 |[.agg [.s .ins c,.i .i64 d,.i .i64 e,.s .slot f,.s .slot g,.i .i64 h,.i .i64 j,.b k,.i .i64 l,.i .i64 m,.i .i64 n,.b o,.i .i64 p,.b q,.s .int r]]=>some (zyW (⟨c,d,e,f,g,⟨h,j,k⟩,l,⟨m,n,o,p⟩,q,r⟩:Guest),[.one<|.i .i64 3])
 |_=>none
theorem zCG:vQ 201 zou:=by refine⟨zch.1,λw b g j a h=>?_⟩;unfold zou at h;split at h;{obtain⟨f,rfl⟩:=zel h;obtain⟨d,e⟩:=zlY f;exact zch.2 w _ g _ a (congr (congrArg (λc v=>some (c,[AV.one<|CV.i .i64 v])) d) (qD e))};{cases h}
def z5S:zV:=[(201,zou)]++zmA
theorem zW5:zL z5S:=zh zCG zhF
@[simp] abbrev zuz (h:Host)(m g:Int):Bool:=bif zcD h m g then ieq (zD<|gOf h m g) 3 else false
def zC2:Run:=rF3 dH dI dI λb c d=>(zuz b c d,[aH<|zbV b c d,aB<|zb3 b c d])
def ztF (N:Nat)(m:Host)(a b:Int):OA:=
 let c:=zk m;let n:=(ix c.Mons a zf).Guests;let h:=ix n b zl;let f:=zgD h;let g:=zbP f;let l:=zkg c c.Buffer a b g (zcW false) false;let d:=zfE c c.Buffer a b g (zcW false) false;let e:=ix d.Mons a zf;let j:=ix e.Guests b zl;let i:=({h with Prog:=j.Prog,Written:=j.Written,Live:=j.Live,Seen:=j.Seen}:Guest); (oN (zbi m)<|oN (zcD c a b)<|cond (nB<|zjb c a b) (some [aH c,aB false])<|oN (inb a<|ln c.Mons)<|oN (inb b<|ln n)<|oN (zyW h)<|oN (zbp h)<|oN (zbL f)<|oN (zjL false)<|oN (zkh c c.Buffer a b g (zcW false) false)<|cond (nB<|zhs c c.Buffer a b g (zcW false) false) (oN (inb a<|ln d.Mons)<|oN (zbL f)<|oN (zgX g false)<|oN (zcB i<|ze4 g false)<|oN (inb b<|ln e.Guests)<|share (up d.Mons a ({e with Guests:=(up e.Guests b<|zck i<|ze4 g false)}:Mon)) λk=>some [aH ({d with Mons:=k}:Host),aB true])<|oN (inb a<|ln d.Mons)<|oN (zbL f)<|oN (zff d.Memory l<|zc0 f)<|oN (zlO i<|zgf d.Memory l<|zc0 f)<|oN (inb b<|ln e.Guests)<|share (up d.Mons a ({e with Guests:=(up e.Guests b<|zjJ i<|zgf d.Memory l<|zc0 f)}:Mon)) λk=>some [aH ({d with Mons:=k}:Host),aB true])
abbrev zyX (x:Guest):Bool:=bif zbp x then ieq (zD x) 4 else false
def zov:List AV->Option (Bool×List AV)
 |[.agg [.s .ins c,.i .i64 d,.i .i64 e,.s .slot f,.s .slot g,.i .i64 h,.i .i64 j,.b k,.i .i64 l,.i .i64 m,.i .i64 n,.b o,.i .i64 p,.b q,.s .int r]]=>some (zyX (⟨c,d,e,f,g,⟨h,j,k⟩,l,⟨m,n,o,p⟩,q,r⟩:Guest),[.one<|.i .i64 4])
 |_=>none
theorem zCH:vQ 201 zov:=by refine⟨zch.1,λw b g j a h=>?_⟩;unfold zov at h;split at h;{obtain⟨f,rfl⟩:=zel h;obtain⟨d,e⟩:=zlY f;exact zch.2 w _ g _ a (congr (congrArg (λc v=>some (c,[AV.one<|CV.i .i64 v])) d) (qD e))};{cases h}
def z5T:zV:=[(201,zov)]++zmA
theorem zW6:zL z5T:=zh zCH zhF
@[simp] abbrev zuA (h:Host)(m g:Int):Bool:=bif zcD h m g then ieq (zD<|gOf h m g) 4 else false
def zC3:Run:=rF3 dH dI dI λb c d=>(zuA b c d,[aH<|zbV b c d,aB<|zb3 b c d])
def ztG (N:Nat)(l:Host)(a b:Int):OA:=
 let c:=zk l;let n:=(ix c.Mons a zf).Guests;let g:=ix n b zl;let h:=zgD g;let f:=zbP h;let m:=zkg c c.Buffer a b f (zcW true) false;let d:=zfE c c.Buffer a b f (zcW true) false;let e:=ix d.Mons a zf;let j:=ix e.Guests b zl;let i:=({g with Prog:=j.Prog,Written:=j.Written,Live:=j.Live,Seen:=j.Seen}:Guest); (oN (zbi l)<|oN (zcD c a b)<|cond (nB<|zjb c a b) (some [aH c,aB false])<|oN (inb a<|ln c.Mons)<|oN (inb b<|ln n)<|oN (zyX g)<|oN (zbp g)<|oN (zbL h)<|oN (zjL true)<|oN (zkh c c.Buffer a b f (zcW true) false)<|cond (nB<|zhs c c.Buffer a b f (zcW true) false) (oN (inb a<|ln d.Mons)<|oN (zbL h)<|oN (zgX f true)<|oN (zcB i<|ze4 f true)<|oN (inb b<|ln e.Guests)<|share (up d.Mons a ({e with Guests:=(up e.Guests b<|zck i<|ze4 f true)}:Mon)) λk=>some [aH ({d with Mons:=k}:Host),aB true])<|oN (zbL h)<|oN (ze5 d.Memory m (zc0 h) g.A)<|oN (inb a<|ln d.Mons)<|oN (zK i)<|oN (inb b<|ln e.Guests)<|share (up d.Mons a ({e with Guests:=(up e.Guests b<|zb5 i)}:Mon)) λk=>some [aH ({d with Memory:=(zfe d.Memory m (zc0 h) g.A),Mons:=k}:Host),aB true])
abbrev zyY (x:Guest):Bool:=bif zbp x then ieq (zD x) 5 else false
def zow:List AV->Option (Bool×List AV)
 |[.agg [.s .ins c,.i .i64 d,.i .i64 e,.s .slot f,.s .slot g,.i .i64 h,.i .i64 j,.b k,.i .i64 l,.i .i64 m,.i .i64 n,.b o,.i .i64 p,.b q,.s .int r]]=>some (zyY (⟨c,d,e,f,g,⟨h,j,k⟩,l,⟨m,n,o,p⟩,q,r⟩:Guest),[.one<|.i .i64 5])
 |_=>none
theorem zCI:vQ 201 zow:=by refine⟨zch.1,λw b g j a h=>?_⟩;unfold zow at h;split at h;{obtain⟨f,rfl⟩:=zel h;obtain⟨d,e⟩:=zlY f;exact zch.2 w _ g _ a (congr (congrArg (λc v=>some (c,[AV.one<|CV.i .i64 v])) d) (qD e))};{cases h}
def z5U:zV:=[(201,zow)]++zmA
theorem zW7:zL z5U:=zh zCI zhF
@[simp] abbrev zuB (h:Host)(m g:Int):Bool:=bif zcD h m g then ieq (zD<|gOf h m g) 5 else false
def zC4:Run:=rF3 dH dI dI λb c d=>(zuB b c d,[aH<|zbV b c d,aB<|zb3 b c d])
def ztH (N:Nat)(x:Host)(a e:Int):OA:=
 let d:=zk x;let f:=inb a<|ln d.Mons;let g:=ix d.Mons a zf;let j:=inb e<|ln g.Guests;let c:=ix g.Guests e zl;let w:=ap g.Outs [(zdn c.Prog c.Pc).X];let s:=up d.Mons a ({g with Outs:=w}:Mon);let h:=c.Ctl.Traps;let v:=up d.Mons a ({g with Guests:=(up g.Guests e<|zcf c h 5)}:Mon); (oN (zbi x)<|oN (zcD d a e)<|cond (nB<|zjb d a e) (some [aH d,aB false])<|oN f<|oN j<|oN (zyY c)<|oN f<|oN (zmp g.Traps h 1)<|cond (ieq (zjk g.Traps h 1) 2) (oN f<|cond (ilt g.Own 1000000000) (oN f<|oN f<|share (up d.Mons a ({g with Own:=(zI .i64 g.Own 1)}:Mon)) (λb=>let k:=inb a<|ln b;let l:=ix b a zf;let q:=ix l.Guests e zl;let t:=ap l.Outs [(zdn q.Prog c.Pc).X];let u:=({c with Prog:=q.Prog,Written:=q.Written,Live:=q.Live,Seen:=q.Seen}:Guest);let r:=up b a ({l with Guests:=(up l.Guests e<|zcf u h 5)}:Mon); (oN (zek u h 5)<|cond (zdE u h 5) (oN k<|cond (ilt (ln l.Outs) 40) (oN k<|oN (zdw q.Prog c.Pc)<|oN (few<|ln t)<|oN k<|oN (cond (ieq a a) true false)<|share (up b a ({l with Outs:=t}:Mon)) (λi=>let m:=ix i a zf; (oN (inb a<|ln i)<|oN (inb e<|ln m.Guests)<|share (up i a ({m with Guests:=(up m.Guests e<|zcf u h 5)}:Mon)) λy=>some [aH ({d with Mons:=y}:Host),aB true])))<|oN k<|oN (inb e<|ln l.Guests)<|share r λi=>some [aH ({d with Mons:=i}:Host),aB true])<|oN k<|oN (inb e<|ln l.Guests)<|share r λi=>some [aH ({d with Mons:=i}:Host),aB true])))<|oN (zek c h 5)<|cond (zdE c h 5) (oN f<|cond (ilt (ln g.Outs) 40) (oN f<|oN (zdw c.Prog c.Pc)<|oN (few<|ln w)<|oN f<|oN (cond (ieq a a) true false)<|share s (λb=>let n:=ix b a zf; (oN (inb a<|ln b)<|oN (inb e<|ln n.Guests)<|share (up b a ({n with Guests:=(up n.Guests e<|zcf c h 5)}:Mon)) λi=>some [aH ({d with Mons:=i}:Host),aB true])))<|oN f<|oN j<|share v λb=>some [aH ({d with Mons:=b}:Host),aB true])<|oN f<|oN j<|share v λb=>some [aH ({d with Mons:=b}:Host),aB true])<|oN (zek c h 5)<|cond (zdE c h 5) (oN f<|cond (ilt (ln g.Outs) 40) (oN f<|oN (zdw c.Prog c.Pc)<|oN (few<|ln w)<|oN f<|oN (cond (ieq a a) true false)<|share s (λb=>let p:=ix b a zf; (oN (inb a<|ln b)<|oN (inb e<|ln p.Guests)<|share (up b a ({p with Guests:=(up p.Guests e<|zcf c h 5)}:Mon)) λi=>some [aH ({d with Mons:=i}:Host),aB true])))<|oN f<|oN j<|share v λb=>some [aH ({d with Mons:=b}:Host),aB true])<|oN f<|oN j<|share v λb=>some [aH ({d with Mons:=b}:Host),aB true])
abbrev zyZ (x:Guest):Bool:=bif zbp x then ieq (zD x) 6 else false
def zox:List AV->Option (Bool×List AV)
 |[.agg [.s .ins c,.i .i64 d,.i .i64 e,.s .slot f,.s .slot g,.i .i64 h,.i .i64 j,.b k,.i .i64 l,.i .i64 m,.i .i64 n,.b o,.i .i64 p,.b q,.s .int r]]=>some (zyZ (⟨c,d,e,f,g,⟨h,j,k⟩,l,⟨m,n,o,p⟩,q,r⟩:Guest),[.one<|.i .i64 6])
 |_=>none
theorem zCJ:vQ 201 zox:=by refine⟨zch.1,λw b g j a h=>?_⟩;unfold zox at h;split at h;{obtain⟨f,rfl⟩:=zel h;obtain⟨d,e⟩:=zlY f;exact zch.2 w _ g _ a (congr (congrArg (λc v=>some (c,[AV.one<|CV.i .i64 v])) d) (qD e))};{cases h}
def z5V:zV:=[(201,zox)]++zmA
theorem zW8:zL z5V:=zh zCJ zhF
@[simp] abbrev zuC (h:Host)(m g:Int):Bool:=bif zcD h m g then ieq (zD<|gOf h m g) 6 else false
def zC5:Run:=rF3 dH dI dI λb c d=>(zuC b c d,[aH<|zbV b c d,aB<|zb3 b c d])
def ztI (N:Nat)(i:Host)(c d:Int):OA:=
 let a:=zk i;let g:=inb c<|ln a.Mons;let e:=ix a.Mons c zf;let h:=inb d<|ln e.Guests;let b:=ix e.Guests d zl;let j:=up a.Mons c ({e with Guests:=(up e.Guests d<|zcf b b.Ctl.Traps 6)}:Mon); (oN (zbi i)<|oN (zcD a c d)<|cond (nB<|zjb a c d) (some [aH a,aB false])<|oN g<|oN h<|oN (zyZ b)<|oN (zek b b.Ctl.Traps 6)<|cond (zdE b b.Ctl.Traps 6) (oN g<|oN h<|share j λf=>some [aH ({a with Mons:=f}:Host),aB true])<|oN g<|oN h<|share j λf=>some [aH ({a with Mons:=f}:Host),aB true])
abbrev zy0 (x:Guest):Bool:=bif zbp x then ieq (zD x) 7 else false
def zoy:List AV->Option (Bool×List AV)
 |[.agg [.s .ins c,.i .i64 d,.i .i64 e,.s .slot f,.s .slot g,.i .i64 h,.i .i64 j,.b k,.i .i64 l,.i .i64 m,.i .i64 n,.b o,.i .i64 p,.b q,.s .int r]]=>some (zy0 (⟨c,d,e,f,g,⟨h,j,k⟩,l,⟨m,n,o,p⟩,q,r⟩:Guest),[.one<|.i .i64 7])
 |_=>none
theorem zCK:vQ 201 zoy:=by refine⟨zch.1,λw b g j a h=>?_⟩;unfold zoy at h;split at h;{obtain⟨f,rfl⟩:=zel h;obtain⟨d,e⟩:=zlY f;exact zch.2 w _ g _ a (congr (congrArg (λc v=>some (c,[AV.one<|CV.i .i64 v])) d) (qD e))};{cases h}
def z5W:zV:=[(201,zoy)]++zmA
theorem zW9:zL z5W:=zh zCK zhF
@[simp] abbrev zuD (h:Host)(m g:Int):Bool:=bif zcD h m g then ieq (zD<|gOf h m g) 7 else false
def zC6:Run:=rF3 dH dI dI λb c d=>(zuD b c d,[aH<|zbV b c d,aB<|zb3 b c d])
def ztJ (N:Nat)(q:Host)(c e:Int):OA:=
 let a:=zk q;let g:=inb c<|ln a.Mons;let f:=ix a.Mons c zf;let k:=inb e<|ln f.Guests;let h:=ix f.Guests e zl;let d:=h.Ctl.Traps;let l:=up a.Mons c ({f with Guests:=(up f.Guests e<|zcf h d 7)}:Mon); (oN (zbi q)<|oN (zcD a c e)<|cond (nB<|zjb a c e) (some [aH a,aB false])<|oN g<|oN k<|oN (zy0 h)<|oN g<|oN (zmp f.Traps d 2)<|cond (ieq (zjk f.Traps d 2) 2) (oN g<|cond (ilt f.Own 1000000000) (oN g<|oN g<|share (up a.Mons c ({f with Own:=(zI .i64 f.Own 1)}:Mon)) (λb=>let j:=ix b c zf;let m:=ix j.Guests e zl;let p:=({h with Prog:=m.Prog,Written:=m.Written,Live:=m.Live,Seen:=m.Seen}:Guest);let i:=up b c ({j with Guests:=(up j.Guests e<|zcf p d 7)}:Mon); (oN (zek p d 7)<|cond (zdE p d 7) (oN (inb c<|ln b)<|oN (inb e<|ln j.Guests)<|share i λn=>some [aH ({a with Mons:=n}:Host),aB true])<|oN (inb c<|ln b)<|oN (inb e<|ln j.Guests)<|share i λn=>some [aH ({a with Mons:=n}:Host),aB true])))<|oN (zek h d 7)<|cond (zdE h d 7) (oN g<|oN k<|share l λb=>some [aH ({a with Mons:=b}:Host),aB true])<|oN g<|oN k<|share l λb=>some [aH ({a with Mons:=b}:Host),aB true])<|oN (zek h d 7)<|cond (zdE h d 7) (oN g<|oN k<|share l λb=>some [aH ({a with Mons:=b}:Host),aB true])<|oN g<|oN k<|share l λb=>some [aH ({a with Mons:=b}:Host),aB true])
theorem zCP (a:Host)(b c:Int)(e:zuw a b c=true):∃N,ztC N a b c=some [aH<|zbV a b c,aB<|zb3 a b c]:=by
 obtain⟨e,i⟩:=zlY e;have f:=(zM a).1 (zJ.1 e);refine⟨0,?_⟩;show _=some (zen<|zbt a b c);unfold ztC oN nB;conv=>zeta
 refine must (zbj<|(zM _).2 f) (must (zbj<|(zM _).2 f)<|brN (λd=>?_) λd=>?_);{rw [zh1 d];rfl};obtain⟨k,g,h⟩:=zcY d;have l:=zj0 f g h;have j:zD (gOf a b c)=0:=qD i;rw[ziD d,j];refine must (zy g) (must (zy h)<|must (ziG rfl i) ?_);rfl
theorem zo7:vQ 319 zCZ:=kF3 zW2 zq zbW zgQ (zx []) zCP
theorem zCQ (a:Host)(b c:Int)(g:zux a b c=true):∃N,ztD N a b c=some [aH<|zbV a b c,aB<|zb3 a b c]:=by
 obtain⟨g,i⟩:=zlY g;have h:=(zM a).1 (zJ.1 g);refine⟨0,?_⟩;show _=some (zen<|zbt a b c);unfold ztD oN nB;conv=>zeta
 refine must (zbj<|(zM _).2 h) (must (zbj<|(zM _).2 h)<|brN (λd=>?_) λd=>?_);{rw [zh1 d];rfl};obtain⟨l,e,f⟩:=zcY d;have k:=zj0 h e f;have j:zD (gOf a b c)=1:=qD i;rw[ziD d,j];refine must (zy e) (must (zy f)<|must (ziG rfl i) ?_);show _=some (zen (zfN a b c<|interrupted<|gOf a b c,true));exact must (zy e) (must (zbj k) (must (zy f) rfl))
theorem zy8:vQ 319 zC0:=kF3 zW3 zq zbW zgQ (zx []) zCQ
theorem zCR (a:Host)(b c:Int)(g:zuy a b c=true):∃N,ztE N a b c=some [aH<|zbV a b c,aB<|zb3 a b c]:=by
 obtain⟨g,i⟩:=zlY g;have h:=(zM a).1 (zJ.1 g);refine⟨0,?_⟩;show _=some (zen<|zbt a b c);unfold ztE oN nB;conv=>zeta
 refine must (zbj<|(zM _).2 h) (must (zbj<|(zM _).2 h)<|brN (λd=>?_) λd=>?_);{rw [zh1 d];rfl};obtain⟨l,e,f⟩:=zcY d;have k:=zj0 h e f;have j:zD (gOf a b c)=2:=qD i;rw[ziD d,j];refine must (zy e) (must (zy f)<|must (ziG rfl i) ?_);show _=some (zen (zfN a b c<|plainly<|gOf a b c,true));exact must (zy e) (must (zbj k) (must (zy f) rfl))
theorem zy9:vQ 319 zC1:=kF3 zW4 zq zbW zgQ (zx []) zCR
theorem zCS (a:Host)(c d:Int)(j:zuz a c d=true):∃N,ztF N a c d=some [aH<|zbV a c d,aB<|zb3 a c d]:=by
 obtain⟨j,m⟩:=zlY j;have f:=(zM a).1 (zJ.1 j);refine⟨0,?_⟩;show _=some (zen<|zbt a c d);unfold ztF oN nB;conv=>zeta
 refine must (zbj<|(zM _).2 f) (must (zbj<|(zM _).2 f)<|brN (λe=>?_) λe=>?_);{rw [zh1 e];rfl};obtain⟨r,g,i⟩:=zcY e;have n:=zj0 f g i;have q:zD (gOf a c d)=3:=qD m;rw[ziD e,q];refine must (zy g) (must (zy i)<|must (ziG rfl m) ?_);show _=some (zen (zfT (zhS a c d (gOf a c d) false) c d (gOf a c d) false,true));have k:=zsj (b:=a.Buffer) (page:=zbb (address<|gOf a c d)) (need:=zbY false) (io:=false) f e;have F:=zlx k g i;have p:(ix (ix (zfE (zk a) (zk a).Buffer c d (zbP<|zgD<|ix (ix (zk a).Mons c zf).Guests d zl) (zcW false) false).Mons c zf).Guests d zl)=(ix (ix (zk a).Mons c zf).Guests d zl):=congrArg (λl=>ix l d gZ) (zH1 k.gs c);rw[p];unfold zfT;refine must rfl (must rfl (must rfl (must (zbj<|(zM _).2 f)<|brN (λh=>?_) λh=>?_)));{rw [show (zhS a c d (gOf a c d) false).2.2=false from h];exact must (zy F.hm) (must rfl (must rfl (must (zbj n) (must (zy F.hg) rfl))))};{rw [show (zhS a c d (gOf a c d) false).2.2=true from h];exact must (zy F.hm) (must rfl (must rfl (must (zbj n) (must (zy F.hg) rfl))))}
theorem zza:vQ 319 zC2:=kF3 zW5 zq zbW zgQ (zx []) zCS
theorem zCT (a:Host)(c d:Int)(j:zuA a c d=true):∃N,ztG N a c d=some [aH<|zbV a c d,aB<|zb3 a c d]:=by
 obtain⟨j,m⟩:=zlY j;have f:=(zM a).1 (zJ.1 j);refine⟨0,?_⟩;show _=some (zen<|zbt a c d);unfold ztG oN nB;conv=>zeta
 refine must (zbj<|(zM _).2 f) (must (zbj<|(zM _).2 f)<|brN (λe=>?_) λe=>?_);{rw [zh1 e];rfl};obtain⟨r,g,i⟩:=zcY e;have n:=zj0 f g i;have q:zD (gOf a c d)=4:=qD m;rw[ziD e,q];refine must (zy g) (must (zy i)<|must (ziG rfl m) ?_);show _=some (zen (zfT (zhS a c d (gOf a c d) true) c d (gOf a c d) true,true));have k:=zsj (b:=a.Buffer) (page:=zbb (address<|gOf a c d)) (need:=zbY true) (io:=false) f e;have F:=zlx k g i;have p:(ix (ix (zfE (zk a) (zk a).Buffer c d (zbP<|zgD<|ix (ix (zk a).Mons c zf).Guests d zl) (zcW true) false).Mons c zf).Guests d zl)=(ix (ix (zk a).Mons c zf).Guests d zl):=congrArg (λl=>ix l d gZ) (zH1 k.gs c);rw[p];unfold zfT;refine must rfl (must rfl (must rfl (must (zbj<|(zM _).2 f)<|brN (λh=>?_) λh=>?_)));{rw [show (zhS a c d (gOf a c d) true).2.2=false from h];exact must (zy F.hm) (must rfl (must rfl (must (zbj n) (must (zy F.hg) rfl))))};{rw [show (zhS a c d (gOf a c d) true).2.2=true from h];exact must rfl (must (zbj k.shape.1.1)<|must (zy F.hm)<|must (zbj n) (must (zy F.hg) rfl))}
theorem zzb:vQ 319 zC3:=kF3 zW6 zq zbW zgQ (zx []) zCT
theorem z4E {c:Host}{a d:Int}(k:SmG (gOf c a d))(f:hasB a (ln c.Mons)=true)(i:hasB d (ln (ix c.Mons a mZ).Guests)=true) :
 (cond (zek (ix (ix (zk c).Mons a zf).Guests d zl) (ix (ix (zk c).Mons a zf).Guests d zl).Ctl.Traps 5) (cond (zdE (ix (ix (zk c).Mons a zf).Guests d zl) (ix (ix (zk c).Mons a zf).Guests d zl).Ctl.Traps 5) (cond (inb a<|ln (zk c).Mons) (cond (ilt (ln (ix (zk c).Mons a zf).Outs) 40) (cond (inb a<|ln (zk c).Mons) (cond (zdw (ix (ix (zk c).Mons a zf).Guests d zl).Prog (ix (ix (zk c).Mons a zf).Guests d zl).Pc) (cond (few<|ln<|ap (ix (zk c).Mons a zf).Outs [(zdn (ix (ix (zk c).Mons a zf).Guests d zl).Prog (ix (ix (zk c).Mons a zf).Guests d zl).Pc).X]) (cond (inb a<|ln (zk c).Mons) (cond (cond (ieq a a) true false) (share (up (zk c).Mons a ({ (ix (zk c).Mons a zf) with Outs:=(ap (ix (zk c).Mons a zf).Outs [(zdn (ix (ix (zk c).Mons a zf).Guests d zl).Prog (ix (ix (zk c).Mons a zf).Guests d zl).Pc).X])}:Mon)) λe=>cond (inb a<|ln e) (cond (inb d<|ln (ix e a zf).Guests) (share (up e a ({ (ix e a zf) with Guests:=(up (ix e a zf).Guests d<|zcf (ix (ix (zk c).Mons a zf).Guests d zl) (ix (ix (zk c).Mons a zf).Guests d zl).Ctl.Traps 5)}:Mon)) λl=>some [.agg<|zbe ({ (zk c) with Mons:=l}:Host),.one<|.b true]) none) none) none) none) none) none) none)<|cond (inb a<|ln (zk c).Mons) (cond (inb d<|ln (ix (zk c).Mons a zf).Guests) (share (up (zk c).Mons a ({ (ix (zk c).Mons a zf) with Guests:=(up (ix (zk c).Mons a zf).Guests d<|zcf (ix (ix (zk c).Mons a zf).Guests d zl) (ix (ix (zk c).Mons a zf).Guests d zl).Ctl.Traps 5)}:Mon)) λe=>some [.agg<|zbe ({ (zk c) with Mons:=e}:Host),.one<|.b true]) none) none) none)<|cond (inb a<|ln (zk c).Mons) (cond (inb d<|ln (ix (zk c).Mons a zf).Guests) (share (up (zk c).Mons a ({ (ix (zk c).Mons a zf) with Guests:=(up (ix (zk c).Mons a zf).Guests d<|zcf (ix (ix (zk c).Mons a zf).Guests d zl) (ix (ix (zk c).Mons a zf).Guests d zl).Ctl.Traps 5)}:Mon)) λe=>some [.agg<|zbe ({ (zk c) with Mons:=e}:Host),.one<|.b true]) none) none) none)=some (zen (zfN (zf4 c a (gOf c a d) 5) a d<|zfv (gOf c a d) (gOf c a d).Ctl.Traps 5,true)):=by
 refine must (zbj k) (br (λj=>must (zy f) (br (λg=>?_) λg=>?_)) λj=>?_)
 .rw [zTD (h:=c) (m:=a) (x:=gOf c a d) (w:=5) j rfl g];refine must (zy f) (must rfl (must (zQb g)<|must (zy f)<|must (zIU _)<|shr<|must (zy<|zeQ f) (must ?_ rfl)));rw[znX f];exact zy i
 .rw [zOw (h:=c) (m:=a) (x:=gOf c a d) (w:=5) g];exact must (zy f) (must (zy i) rfl)
 .rw [zJ7 (h:=c) (m:=a) (x:=gOf c a d) (w:=5) j];exact must (zy f) (must (zy i) rfl)
theorem z8E {f:Host}{d:List Mon}{a c:Int}(n:SmG (gOf f a c))(i:hasB a (ln d)=true)(k:hasB c (ln (ix d a mZ).Guests)=true)(e:(ix (ix d a zf).Guests c zl)=gOf f a c) :
 (cond (zek ({ (ix (ix (zk f).Mons a zf).Guests c zl) with Prog:=(ix (ix d a zf).Guests c zl).Prog,Written:=(ix (ix d a zf).Guests c zl).Written,Live:=(ix (ix d a zf).Guests c zl).Live,Seen:=(ix (ix d a zf).Guests c zl).Seen}:Guest) (ix (ix (zk f).Mons a zf).Guests c zl).Ctl.Traps 5) (cond (zdE ({ (ix (ix (zk f).Mons a zf).Guests c zl) with Prog:=(ix (ix d a zf).Guests c zl).Prog,Written:=(ix (ix d a zf).Guests c zl).Written,Live:=(ix (ix d a zf).Guests c zl).Live,Seen:=(ix (ix d a zf).Guests c zl).Seen}:Guest) (ix (ix (zk f).Mons a zf).Guests c zl).Ctl.Traps 5) (cond (inb a<|ln d) (cond (ilt (ln (ix d a zf).Outs) 40) (cond (inb a<|ln d) (cond (zdw (ix (ix d a zf).Guests c zl).Prog (ix (ix (zk f).Mons a zf).Guests c zl).Pc) (cond (few<|ln<|ap (ix d a zf).Outs [(zdn (ix (ix d a zf).Guests c zl).Prog (ix (ix (zk f).Mons a zf).Guests c zl).Pc).X]) (cond (inb a<|ln d) (cond (cond (ieq a a) true false) (share (up d a ({ (ix d a zf) with Outs:=(ap (ix d a zf).Outs [(zdn (ix (ix d a zf).Guests c zl).Prog (ix (ix (zk f).Mons a zf).Guests c zl).Pc).X])}:Mon)) λg=>cond (inb a<|ln g) (cond (inb c<|ln (ix g a zf).Guests) (share (up g a ({ (ix g a zf) with Guests:=(up (ix g a zf).Guests c<|zcf ({ (ix (ix (zk f).Mons a zf).Guests c zl) with Prog:=(ix (ix d a zf).Guests c zl).Prog,Written:=(ix (ix d a zf).Guests c zl).Written,Live:=(ix (ix d a zf).Guests c zl).Live,Seen:=(ix (ix d a zf).Guests c zl).Seen}:Guest) (ix (ix (zk f).Mons a zf).Guests c zl).Ctl.Traps 5)}:Mon)) λp=>some [.agg<|zbe ({ (zk f) with Mons:=p}:Host),.one<|.b true]) none) none) none) none) none) none) none)<|cond (inb a<|ln d) (cond (inb c<|ln (ix d a zf).Guests) (share (up d a ({ (ix d a zf) with Guests:=(up (ix d a zf).Guests c<|zcf ({ (ix (ix (zk f).Mons a zf).Guests c zl) with Prog:=(ix (ix d a zf).Guests c zl).Prog,Written:=(ix (ix d a zf).Guests c zl).Written,Live:=(ix (ix d a zf).Guests c zl).Live,Seen:=(ix (ix d a zf).Guests c zl).Seen}:Guest) (ix (ix (zk f).Mons a zf).Guests c zl).Ctl.Traps 5)}:Mon)) λg=>some [.agg<|zbe ({ (zk f) with Mons:=g}:Host),.one<|.b true]) none) none) none)<|cond (inb a<|ln d) (cond (inb c<|ln (ix d a zf).Guests) (share (up d a ({ (ix d a zf) with Guests:=(up (ix d a zf).Guests c<|zcf ({ (ix (ix (zk f).Mons a zf).Guests c zl) with Prog:=(ix (ix d a zf).Guests c zl).Prog,Written:=(ix (ix d a zf).Guests c zl).Written,Live:=(ix (ix d a zf).Guests c zl).Live,Seen:=(ix (ix d a zf).Guests c zl).Seen}:Guest) (ix (ix (zk f).Mons a zf).Guests c zl).Ctl.Traps 5)}:Mon)) λg=>some [.agg<|zbe ({ (zk f) with Mons:=g}:Host),.one<|.b true]) none) none) none)=some (zen (zfN (zf4 {f with Mons:=d} a (gOf f a c) 5) a c<|zfv (gOf f a c) (gOf f a c).Ctl.Traps 5,true)):=by
 rw[e];refine must (zbj n) (br (λl=>must (zy i) (br (λj=>?_) λj=>?_)) λl=>?_)
 .rw [zTD (h:={f with Mons:=d}) (m:=a) (x:=gOf f a c) (w:=5) l rfl j];refine must (zy i) (must rfl (must (zQb j)<|must (zy i)<|must (zIU _)<|shr<|must (zy<|zeQ (h:={f with Mons:=d}) i) (must ?_ rfl)));rw[znX (h:={f with Mons:=d}) i];exact zy k
 .rw [zOw (h:={f with Mons:=d}) (m:=a) (x:=gOf f a c) (w:=5) j];exact must (zy i) (must (zy k) rfl)
 .rw [zJ7 (h:={f with Mons:=d}) (m:=a) (x:=gOf f a c) (w:=5) l];exact must (zy i) (must (zy k) rfl)
theorem zCU (b:Host)(a c:Int)(j:zuB b a c=true):∃N,ztH N b a c=some [aH<|zbV b a c,aB<|zb3 b a c]:=by
 obtain⟨j,p⟩:=zlY j;have k:=(zM b).1 (zJ.1 j);refine⟨0,?_⟩;show _=some (zen<|zbt b a c);unfold ztH oN nB;conv=>zeta
 refine must (zbj<|(zM _).2 k) (must (zbj<|(zM _).2 k)<|brN (λf=>?_) λf=>?_);{rw [zh1 f];rfl};obtain⟨r,d,e⟩:=zcY f;have l:=zj0 k d e;have q:zD (gOf b a c)=5:=qD p;rw[ziD f,q];refine must (zy d) (must (zy e)<|must (ziG rfl p) ?_);show _=some (zen (zin b a c (gOf b a c) 5,true));refine must (zy d) (must rfl (br (λg=>must (zy d) (br (λi=>must (zy d) (must (zy d)<|shr ?_)) λi=>?_)) λg=>?_));{rw [znd (zWC (h:=b) (m:=a) (x:=gOf b a c) (w:=5) rfl g i)];have n:=znX d {ix b.Mons a mZ with Own:=zI .i64 (ix b.Mons a mZ).Own 1};refine z8E l (zeQ d) ?_ ?_;{show hasB c (ln (ix (up b.Mons a _) a mZ).Guests)=true;rw[n];exact e};{show ix (ix (up b.Mons a _) a mZ).Guests c gZ=_;rw[n];rfl}};{rw [znd<|zWB (h:=b) (m:=a) (x:=gOf b a c) (w:=5) i];exact z4E l d e};{rw [znd<|zWA (h:=b) (m:=a) (x:=gOf b a c) (w:=5) g];exact z4E l d e}
theorem zzc:vQ 319 zC4:=kF3 zW7 zq zbW zgQ (zx []) zCU
theorem zCV (a:Host)(b c:Int)(g:zuC a b c=true):∃N,ztI N a b c=some [aH<|zbV a b c,aB<|zb3 a b c]:=by
 obtain⟨g,j⟩:=zlY g;have i:=(zM a).1 (zJ.1 g);refine⟨0,?_⟩;show _=some (zen<|zbt a b c);unfold ztI oN nB;conv=>zeta
 refine must (zbj<|(zM _).2 i) (must (zbj<|(zM _).2 i)<|brN (λf=>?_) λf=>?_);{rw [zh1 f];rfl};obtain⟨p,d,e⟩:=zcY f;have n:=zj0 i d e;have l:zD (gOf a b c)=6:=qD j;rw[ziD f,l];refine must (zy d) (must (zy e)<|must (ziG rfl j) ?_);show _=some (zen (zin a b c (gOf a b c) 6,true));rw[znd<|z7b (h:=a) (m:=b) (x:=gOf a b c),zBD (w:=6) rfl];exact must (zbj n) (br (λk=>must (zy d) (must (zy e) rfl)) λk=>must (zy d) (must (zy e) rfl))
theorem zzd:vQ 319 zC5:=kF3 zW8 zq zbW zgQ (zx []) zCV
theorem z4F {a:Host}{c d:Int}(i:SmG (gOf a c d))(f:hasB c (ln a.Mons)=true)(g:hasB d (ln (ix a.Mons c mZ).Guests)=true) :
 (cond (zek (ix (ix (zk a).Mons c zf).Guests d zl) (ix (ix (zk a).Mons c zf).Guests d zl).Ctl.Traps 7) (cond (zdE (ix (ix (zk a).Mons c zf).Guests d zl) (ix (ix (zk a).Mons c zf).Guests d zl).Ctl.Traps 7) (cond (inb c<|ln (zk a).Mons) (cond (inb d<|ln (ix (zk a).Mons c zf).Guests) (share (up (zk a).Mons c ({ (ix (zk a).Mons c zf) with Guests:=(up (ix (zk a).Mons c zf).Guests d<|zcf (ix (ix (zk a).Mons c zf).Guests d zl) (ix (ix (zk a).Mons c zf).Guests d zl).Ctl.Traps 7)}:Mon)) λe=>some [.agg<|zbe ({ (zk a) with Mons:=e}:Host),.one<|.b true]) none) none)<|cond (inb c<|ln (zk a).Mons) (cond (inb d<|ln (ix (zk a).Mons c zf).Guests) (share (up (zk a).Mons c ({ (ix (zk a).Mons c zf) with Guests:=(up (ix (zk a).Mons c zf).Guests d<|zcf (ix (ix (zk a).Mons c zf).Guests d zl) (ix (ix (zk a).Mons c zf).Guests d zl).Ctl.Traps 7)}:Mon)) λe=>some [.agg<|zbe ({ (zk a) with Mons:=e}:Host),.one<|.b true]) none) none) none)=some (zen (zfN a c d<|zfv (gOf a c d) (gOf a c d).Ctl.Traps 7,true)):=
 must (zbj i) (br (λh=>must (zy f) (must (zy g) rfl)) λh=>must (zy f) (must (zy g) rfl))
theorem z8F {f:Host}{d:List Mon}{a c:Int}(k:SmG (gOf f a c))(h:hasB a (ln d)=true)(i:hasB c (ln (ix d a mZ).Guests)=true)(e:(ix (ix d a zf).Guests c zl)=gOf f a c) :
 (cond (zek ({ (ix (ix (zk f).Mons a zf).Guests c zl) with Prog:=(ix (ix d a zf).Guests c zl).Prog,Written:=(ix (ix d a zf).Guests c zl).Written,Live:=(ix (ix d a zf).Guests c zl).Live,Seen:=(ix (ix d a zf).Guests c zl).Seen}:Guest) (ix (ix (zk f).Mons a zf).Guests c zl).Ctl.Traps 7) (cond (zdE ({ (ix (ix (zk f).Mons a zf).Guests c zl) with Prog:=(ix (ix d a zf).Guests c zl).Prog,Written:=(ix (ix d a zf).Guests c zl).Written,Live:=(ix (ix d a zf).Guests c zl).Live,Seen:=(ix (ix d a zf).Guests c zl).Seen}:Guest) (ix (ix (zk f).Mons a zf).Guests c zl).Ctl.Traps 7) (cond (inb a<|ln d) (cond (inb c<|ln (ix d a zf).Guests) (share (up d a ({ (ix d a zf) with Guests:=(up (ix d a zf).Guests c<|zcf ({ (ix (ix (zk f).Mons a zf).Guests c zl) with Prog:=(ix (ix d a zf).Guests c zl).Prog,Written:=(ix (ix d a zf).Guests c zl).Written,Live:=(ix (ix d a zf).Guests c zl).Live,Seen:=(ix (ix d a zf).Guests c zl).Seen}:Guest) (ix (ix (zk f).Mons a zf).Guests c zl).Ctl.Traps 7)}:Mon)) λg=>some [.agg<|zbe ({ (zk f) with Mons:=g}:Host),.one<|.b true]) none) none)<|cond (inb a<|ln d) (cond (inb c<|ln (ix d a zf).Guests) (share (up d a ({ (ix d a zf) with Guests:=(up (ix d a zf).Guests c<|zcf ({ (ix (ix (zk f).Mons a zf).Guests c zl) with Prog:=(ix (ix d a zf).Guests c zl).Prog,Written:=(ix (ix d a zf).Guests c zl).Written,Live:=(ix (ix d a zf).Guests c zl).Live,Seen:=(ix (ix d a zf).Guests c zl).Seen}:Guest) (ix (ix (zk f).Mons a zf).Guests c zl).Ctl.Traps 7)}:Mon)) λg=>some [.agg<|zbe ({ (zk f) with Mons:=g}:Host),.one<|.b true]) none) none) none)=some (zen (zfN {f with Mons:=d} a c<|zfv (gOf f a c) (gOf f a c).Ctl.Traps 7,true)):=by
 rw[e];exact must (zbj k) (br (λj=>must (zy h) (must (zy i) rfl)) λj=>must (zy h) (must (zy i) rfl))
theorem zCW (b:Host)(a c:Int)(j:zuD b a c=true):∃N,ztJ N b a c=some [aH<|zbV b a c,aB<|zb3 b a c]:=by
 obtain⟨j,p⟩:=zlY j;have k:=(zM b).1 (zJ.1 j);refine⟨0,?_⟩;show _=some (zen<|zbt b a c);unfold ztJ oN nB;conv=>zeta
 refine must (zbj<|(zM _).2 k) (must (zbj<|(zM _).2 k)<|brN (λf=>?_) λf=>?_);{rw [zh1 f];rfl};obtain⟨r,d,e⟩:=zcY f;have l:=zj0 k d e;have q:zD (gOf b a c)=7:=qD p;rw[ziD f,q];refine must (zy d) (must (zy e)<|must (ziG rfl p) ?_);show _=some (zen (zin b a c (gOf b a c) 7,true));refine must (zy d) (must rfl (br (λg=>must (zy d) (br (λi=>must (zy d) (must (zy d)<|shr ?_)) λi=>?_)) λg=>?_));{rw [znd (zWC (h:=b) (m:=a) (x:=gOf b a c) (w:=7) rfl g i),zBD (w:=7) rfl];have n:=znX d {ix b.Mons a mZ with Own:=zI .i64 (ix b.Mons a mZ).Own 1};refine z8F l (zeQ d) ?_ ?_;{show hasB c (ln (ix (up b.Mons a _) a mZ).Guests)=true;rw[n];exact e};{show ix (ix (up b.Mons a _) a mZ).Guests c gZ=_;rw[n];rfl}};{rw [znd<|zWB (h:=b) (m:=a) (x:=gOf b a c) (w:=7) i,zBD (w:=7) rfl];exact z4F l d e};{rw [znd<|zWA (h:=b) (m:=a) (x:=gOf b a c) (w:=7) g,zBD (w:=7) rfl];exact z4F l d e}
theorem zze:vQ 319 zC6:=kF3 zW9 zq zbW zgQ (zx []) zCW
def zpE:List AV->Option (Bool×List AV)
 |[.agg [.s (.sl .int) b,.s .mon c,.s .entry d,.s .entry e],.one<|.i .i64 f,.one<|.i .i64 g]=>some (zcD (⟨b,c,d,e⟩:Host) f g,[aH<|zbV (⟨b,c,d,e⟩:Host) f g,aB<|zb3 (⟨b,c,d,e⟩:Host) f g])
 |_=>none
theorem zFI:vQ 319 zpE:=by refine⟨zo7.1,λw m l n g h=>?_⟩;unfold zpE at h;split at h;{rename_i a b d f i j;obtain⟨k,rfl⟩:=zel h;rcases z3l (gOf (⟨a,b,d,f⟩:Host) i j) with e|e|e|e|e|e|e|e;{exact zo7.2 w _ l _ g (congrArg (λc=>some (c,zen<|zbt (⟨a,b,d,f⟩:Host) i j))<|ziG k e)};{exact zy8.2 w _ l _ g (congrArg (λc=>some (c,zen<|zbt (⟨a,b,d,f⟩:Host) i j))<|ziG k e)};{exact zy9.2 w _ l _ g (congrArg (λc=>some (c,zen<|zbt (⟨a,b,d,f⟩:Host) i j))<|ziG k e)};{exact zza.2 w _ l _ g (congrArg (λc=>some (c,zen<|zbt (⟨a,b,d,f⟩:Host) i j))<|ziG k e)};{exact zzb.2 w _ l _ g (congrArg (λc=>some (c,zen<|zbt (⟨a,b,d,f⟩:Host) i j))<|ziG k e)};{exact zzc.2 w _ l _ g (congrArg (λc=>some (c,zen<|zbt (⟨a,b,d,f⟩:Host) i j))<|ziG k e)};{exact zzd.2 w _ l _ g (congrArg (λc=>some (c,zen<|zbt (⟨a,b,d,f⟩:Host) i j))<|ziG k e)};{exact zze.2 w _ l _ g (congrArg (λc=>some (c,zen<|zbt (⟨a,b,d,f⟩:Host) i j))<|ziG k e)}};{cases h}
@[simp] abbrev zxv (h:Host)(m g b a:Int)(c:Bool):Bool:=pc (zbX h)
@[simp] abbrev zxs (h:Host)(m g b a:Int)(c:Bool):Host:=(lookOf h (zrM h c) m g b a c).1
@[simp] abbrev zxt (h:Host)(m g b a:Int)(c:Bool):Int:=(lookOf h (zrM h c) m g b a c).2.1
@[simp] abbrev zxu (h:Host)(m g b a:Int)(c:Bool):Bool:=(lookOf h (zrM h c) m g b a c).2.2
def zBf:Run:=rF6 dH dI dI dI dI dB λb c d e f g=>(zxv b c d e f g,[aH<|zxs b c d e f g,aI<|zxt b c d e f g,aB<|zxu b c d e f g])
abbrev zQp (b:lM)(c:lN)(d:lE)(e:lE)(a:Int)(g:Int)(f:Int):Mon :=
 (ix (zgI (⟨b,c,d,e⟩:Host) a g f).Mons a zf)
def zq3 (N:Nat)(d:Int)(e:Int)(b:Int)(f:Int)(g:lM)(h:lN)(c:lE)(a:lE):OA:=
 let i:=(⟨e,d,b,f⟩:Entry); (oN (zhP a i)<|some [aH (⟨g,h,c,zhb a i⟩:Host),aI b,aB true])
def zsu (N:Nat)(d:lM)(e:lN)(f:lE)(g:lE)(b:Int)(i:Int)(h:Int)(a:Int)(c:Int)(s:(Int×Int×Int×Int×lM×lN×lE×lE×lM×lN×lE×lE×Unit)->OA)(k:Int)(l:lM)(m:lN)(n:lE)(p:lE):OA:=
 let x:=(⟨d,e,f,g⟩:Host);let r:=zgI x b i h;let j:=zQp d e f g b i h;let w:=ix j.Tables a zc3;let u:=(ix j.Guests a zl).Live; (oN (zhq x b i h)<|oN (inb b<|ln r.Mons)<|oN (inb a<|ln j.Tables)<|oN (inb a<|ln j.Guests)<|oN (ztg w u j.Outer c)<|oN (inb a<|ln j.Tables)<|share (up r.Mons b ({j with Tables:=(up j.Tables a<|ztf w u j.Outer c)}:Mon)) (λq=>let v:=(ix q b zf).Tables;let t:=ix v a zc3; (oN (inb a<|ln v)<|oN (zpp t c)<|s (c,k,(zgP t c).Page,(zgP t c).Rights,l,m,n,p,r.Memory,q,r.Buffer,r.IoBuffer,()))))
def znA (N:Nat)(a:lN)(g:Int)(h:Int)(b:Int)(c:lM)(d:lE)(e:lE)(p:Int)(f:Int)(n:(Int×Int×Int×Int×lM×lN×lE×lE×lM×lN×lE×lE×Unit)->OA)(i:Int)(j:lM)(k:lN)(l:lE)(m:lE):OA:=
 let r:=zsu N c a d e g p f h b n i j k l m;let s:=ix (ix a g zf).Tables h zc3;let q:=zgP s b; (cond (nB<|zj8 s b) r<|cond (ieq q.Page<|-1) r<|oN (zbg q.Rights f)<|cond (nB<|zcF q.Rights f) r<|n (b,i,q.Page,q.Rights,j,k,l,m,c,a,d,e,()))
def zq4 (N:Nat)(c:Int)(d:Int)(e:Int)(i:Int)(j:Int)(k:Int)(l:lM)(m:lN)(n:lE)(p:lE)(f:lM)(b:lN)(g:lE)(h:lE):OA:=
 let r:=(ix b c zf).Tables; (oN (inb c<|ln b)<|oN (inb d<|ln r)<|oN (zpp (ix r d zc3) e)<|share (λ(a:(Int×Int×Int×Int×lM×lN×lE×lE×lM×lN×lE×lE×Unit))=>zq3 N a.1 a.2.1 a.2.2.1 a.2.2.2.1 a.2.2.2.2.2.2.2.2.1 a.2.2.2.2.2.2.2.2.2.1 a.2.2.2.2.2.2.2.2.2.2.1 a.2.2.2.2.2.2.2.2.2.2.2.1) λq=>znA N b c d e f g h j i q k l m n p)
def zq5 (N:Nat)(d:Int)(e:Int)(b:Int)(f:Int)(g:lM)(h:lN)(a:lE)(c:lE):OA:=
 let i:=(⟨e,d,b,f⟩:Entry); (oN (zhP a i)<|some [aH (⟨g,h,zhb a i,c⟩:Host),aI b,aB true])
def zq6 (N:Nat)(c:Int)(d:Int)(e:Int)(i:Int)(j:Int)(k:Int)(l:lM)(m:lN)(n:lE)(p:lE)(f:lM)(b:lN)(g:lE)(h:lE):OA:=
 let r:=(ix b c zf).Tables; (oN (inb c<|ln b)<|oN (inb d<|ln r)<|oN (zpp (ix r d zc3) e)<|share (λ(a:(Int×Int×Int×Int×lM×lN×lE×lE×lM×lN×lE×lE×Unit))=>zq5 N a.1 a.2.1 a.2.2.1 a.2.2.2.1 a.2.2.2.2.2.2.2.2.1 a.2.2.2.2.2.2.2.2.2.1 a.2.2.2.2.2.2.2.2.2.2.1 a.2.2.2.2.2.2.2.2.2.2.2.1) λq=>znA N b c d e f g h j i q k l m n p)
def zq7 (N:Nat)(f:Int)(g:Int)(c:Int)(e:Int)(r:Bool)(j:Int)(k:lM)(l:lN)(m:lE)(n:lE)(h:lM)(i:lN)(a:lE)(b:lE):OA:=
 let u:=aH (⟨h,i,a,b⟩:Host);let p:=zkc f g;let t:=zf0 a p c;let s:=zf0 b p c; (cond r (oN (zhm f g)<|share (λ(d:(Int×Int×Int×Int×Int×Int×lM×lN×lE×lE×lM×lN×lE×lE×Unit))=>zq4 N d.1 d.2.1 d.2.2.1 d.2.2.2.1 d.2.2.2.2.1 d.2.2.2.2.2.1 d.2.2.2.2.2.2.1 d.2.2.2.2.2.2.2.1 d.2.2.2.2.2.2.2.2.1 d.2.2.2.2.2.2.2.2.2.1 d.2.2.2.2.2.2.2.2.2.2.1 d.2.2.2.2.2.2.2.2.2.2.2.1 d.2.2.2.2.2.2.2.2.2.2.2.2.1 d.2.2.2.2.2.2.2.2.2.2.2.2.2.1) λq=>oN (zgY b p c)<|cond (zfc b p c) (oN (zbg s.Rights e)<|cond (zcF s.Rights e) (some [u,aI s.Host,aB true])<|q (f,g,c,e,j,p,k,l,m,n,h,i,a,b,()))<|q (f,g,c,e,j,p,k,l,m,n,h,i,a,b,()))<|oN (zhm f g)<|share (λ(d:(Int×Int×Int×Int×Int×Int×lM×lN×lE×lE×lM×lN×lE×lE×Unit))=>zq6 N d.1 d.2.1 d.2.2.1 d.2.2.2.1 d.2.2.2.2.1 d.2.2.2.2.2.1 d.2.2.2.2.2.2.1 d.2.2.2.2.2.2.2.1 d.2.2.2.2.2.2.2.2.1 d.2.2.2.2.2.2.2.2.2.1 d.2.2.2.2.2.2.2.2.2.2.1 d.2.2.2.2.2.2.2.2.2.2.2.1 d.2.2.2.2.2.2.2.2.2.2.2.2.1 d.2.2.2.2.2.2.2.2.2.2.2.2.2.1) λq=>oN (zgY a p c)<|cond (zfc a p c) (oN (zbg t.Rights e)<|cond (zcF t.Rights e) (some [u,aI t.Host,aB true])<|q (f,g,c,e,j,p,k,l,m,n,h,i,a,b,()))<|q (f,g,c,e,j,p,k,l,m,n,h,i,a,b,()))
def zq8 (N:Nat)(c:Int)(i:Int)(d:Int)(b:Int)(m:Bool)(n:lM)(p:lN)(j:lE)(k:lE)(e:lM)(a:lN)(f:lE)(g:lE)(l:lG):OA:=
 let s:=ix a c zf;let r:=(ix l i zl).Live;let q:=zeB r d b; (oN (inb i<|ln l)<|oN (zgT r d b)<|cond (nB<|zec r d b) (some [aH (⟨e,a,f,g⟩:Host),aI<|-1,aB false])<|share (λ(h:(Int×Int×Int×Int×Bool×Int×lM×lN×lE×lE×lM×lN×lE×lE×Unit))=>zq7 N h.1 h.2.1 h.2.2.1 h.2.2.2.1 h.2.2.2.2.1 h.2.2.2.2.2.1 h.2.2.2.2.2.2.1 h.2.2.2.2.2.2.2.1 h.2.2.2.2.2.2.2.2.1 h.2.2.2.2.2.2.2.2.2.1 h.2.2.2.2.2.2.2.2.2.2.1 h.2.2.2.2.2.2.2.2.2.2.2.1 h.2.2.2.2.2.2.2.2.2.2.2.2.1 h.2.2.2.2.2.2.2.2.2.2.2.2.2.1) λt=>cond (ieq b 2) (oN (inb c<|ln a)<|oN (inb q<|ln s.Dirty)<|share (up a c ({s with Dirty:=(up s.Dirty q true)}:Mon)) λu=>t (c,i,d,b,m,q,n,p,j,k,e,u,f,g,()))<|t (c,i,d,b,m,q,n,p,j,k,e,a,f,g,()))
def zGV (N:Nat)(d:Host)(e f:Int)(h g:Int)(i:Bool):OA:=
 let c:=zk d;let a:=zcw d e; (oN (zbi d)<|oN (zeV d e)<|share (λ(b:(Int×Int×Int×Int×Bool×Int×Int×Int×lM×lN×lE×lE×lM×lN×lE×lE×lS×lM×lB×lG×(List Int)×lK×Unit))=>zq8 N b.1 b.2.1 b.2.2.1 b.2.2.2.1 b.2.2.2.2.1 b.2.2.2.2.2.2.2.2.1 b.2.2.2.2.2.2.2.2.2.1 b.2.2.2.2.2.2.2.2.2.2.1 b.2.2.2.2.2.2.2.2.2.2.2.1 b.2.2.2.2.2.2.2.2.2.2.2.2.1 b.2.2.2.2.2.2.2.2.2.2.2.2.2.1 b.2.2.2.2.2.2.2.2.2.2.2.2.2.2.1 b.2.2.2.2.2.2.2.2.2.2.2.2.2.2.2.1 b.2.2.2.2.2.2.2.2.2.2.2.2.2.2.2.2.2.2.2.1) λj=>oN (zc9 d)<|cond (nB<|zdj d) (some [aH c,aI<|-1,aB false])<|cond (nB<|zkG d e) (some [aH c,aI<|-1,aB false])<|oN (zbg f<|ln a.Guests)<|cond (nB<|zcq f<|ln a.Guests) (some [aH c,aI<|-1,aB false])<|cond (ine g 1) (cond (ine g 2) (some [aH c,aI<|-1,aB false])<|j (e,f,h,g,i,a.Pending,a.Traps,a.Own,[],[],[],[],c.Memory,c.Mons,c.Buffer,c.IoBuffer,a.Outer,a.Out,a.Dirty,a.Guests,a.Outs,a.Tables,()))<|j (e,f,h,g,i,a.Pending,a.Traps,a.Own,[],[],[],[],c.Memory,c.Mons,c.Buffer,c.IoBuffer,a.Outer,a.Out,a.Dirty,a.Guests,a.Outs,a.Tables,()))
def zTM:=zx [(167,999999,{n:=0,tm:=[],lo:=[],ro:=[]}),(167,1007055,{n:=200,tm:=[(1,ti),(2,ti),(3,ti),(4,ti),(5,.b),(12,.lp 0 0),(15,.lp 1 0),(16,.lp 2 0)],lo:=[(0,[.sl 0 [],.sl 1 [],.sl 2 [],.sl 3 []]),(1,[.sl 4 [],.sl 5 [],.sl 6 [],.sl 7 []]),(2,[.sl 8 [],.sl 9 [],.sl 10 [],.sl 11 [],.sl 12 [],ti,ti,.sl 13 [],ti])],ro:=[(0,.sl .int,true),(1,.mon,true),(2,.entry,true),(3,.entry,true),(4,.sl .int,true),(5,.mon,true),(6,.entry,true),(7,.entry,true),(8,.slot,true),(9,.sl .int,true),(10,.bool,true),(11,.guest,true),(12,.int,true),(13,.kept,true)]}),(167,1005039,{n:=200,tm:=[(1,ti),(2,ti),(3,ti),(4,ti),(5,.b),(12,.lp 0 0),(15,.lp 1 0),(18,ti)],lo:=[(0,[.sl 0 [],.sl 1 [],.sl 2 [],.sl 3 []]),(1,[.sl 4 [],.sl 5 [],.sl 6 [],.sl 7 []])],ro:=[(0,.sl .int,true),(1,.mon,true),(2,.entry,true),(3,.entry,true),(4,.sl .int,true),(5,.mon,true),(6,.entry,true),(7,.entry,true)]}),(167,1009019,{n:=200,tm:=[(1,ti),(2,ti),(3,ti),(4,ti),(12,.lp 0 0),(15,.lp 1 0),(18,ti),(20,.lp 1 3),(21,ti)],lo:=[(0,[.sl 0 [],.sl 1 [],.sl 2 [],.sl 3 []]),(1,[.sl 4 [],.sl 5 [],.sl 6 [],.sl 7 []])],ro:=[(0,.sl .int,true),(1,.mon,true),(2,.entry,true),(3,.entry,true),(4,.sl .int,true),(5,.mon,true),(6,.entry,true),(7,.entry,true)]}),(167,1011005,{n:=200,tm:=[(3,ti),(12,.lp 0 0),(15,.lp 1 0),(20,.lp 1 3),(21,ti),(24,.lp 2 0)],lo:=[(0,[.sl 0 [],.sl 1 [],.sl 2 [],.sl 3 []]),(1,[.sl 4 [],.sl 5 [],.sl 6 [],.sl 7 []]),(2,[ti,ti])],ro:=[(0,.sl .int,true),(1,.mon,true),(2,.entry,true),(3,.entry,true),(4,.sl .int,true),(5,.mon,true),(6,.entry,true),(7,.entry,true)]}),(167,1001009019,{n:=200,tm:=[(1,ti),(2,ti),(3,ti),(4,ti),(12,.lp 0 0),(15,.lp 1 0),(18,ti),(20,.lp 1 2),(21,ti)],lo:=[(0,[.sl 0 [],.sl 1 [],.sl 2 [],.sl 3 []]),(1,[.sl 4 [],.sl 5 [],.sl 6 [],.sl 7 []])],ro:=[(0,.sl .int,true),(1,.mon,true),(2,.entry,true),(3,.entry,true),(4,.sl .int,true),(5,.mon,true),(6,.entry,true),(7,.entry,true)]}),(167,1001011005,{n:=200,tm:=[(3,ti),(12,.lp 0 0),(15,.lp 1 0),(20,.lp 1 2),(21,ti),(24,.lp 2 0)],lo:=[(0,[.sl 0 [],.sl 1 [],.sl 2 [],.sl 3 []]),(1,[.sl 4 [],.sl 5 [],.sl 6 [],.sl 7 []]),(2,[ti,ti])],ro:=[(0,.sl .int,true),(1,.mon,true),(2,.entry,true),(3,.entry,true),(4,.sl .int,true),(5,.mon,true),(6,.entry,true),(7,.entry,true)]})]
theorem z4J {N:Nat}{r:Host}{m g a:Int}(b:r.IoBuffer.length<=1048576) :
 zq3 N a (zd8 m g) (zdq (zbS r m g) a).Page (zdq (zbS r m g) a).Rights r.Memory r.Mons r.Buffer r.IoBuffer=some (zjF<|zeK r m g a true):=by
 unfold zq3 oN
 conv=>zeta
 exact must (zbj b) rfl
theorem z4L {N:Nat}{r:Host}{m g a:Int}(b:r.Buffer.length<=1048576) :
 zq5 N a (zd8 m g) (zdq (zbS r m g) a).Page (zdq (zbS r m g) a).Rights r.Memory r.Mons r.Buffer r.IoBuffer=some (zjF<|zeK r m g a false):=by
 unfold zq5 oN
 conv=>zeta
 exact must (zbj b) rfl
theorem z2j {N:Nat}{r:Host}{m g a b q:Int}{R:OA}{r10}{u5 u6 u7 u8 u9}(A:LookAt r m g q b)(c:r10 (a,u5,(zdq (zbS (zce (mended r m q b) m g a) m g) a).Page,(zdq (zbS (zce (mended r m q b) m g a) m g) a).Rights,u6,u7,u8,u9,(zce (mended r m q b) m g a).Memory,(zce (mended r m q b) m g a).Mons,(zce (mended r m q b) m g a).Buffer,(zce (mended r m q b) m g a).IoBuffer,())=R) :
 zsu N r.Memory r.Mons r.Buffer r.IoBuffer m q b g a r10 u5 u6 u7 u8 u9=R:=by
 have M:=zlx A.kp A.hm A.hg;have F:=zlx (A.fill a) A.hm A.hg;unfold zsu oN
 conv=>zeta
 exact must (zbj A.mend) (must (zy M.hm)<|must (zy M.ht)<|must (zy M.hg)<|must (zbj M.hk)<|must (zy M.ht)<|shr<|must (zy F.ht) (must rfl c))
theorem z7X {N:Nat}{r:Host}{m g a b q:Int}{c:Bool}{r10}{u5 u6 u7 u8 u9}(A:LookAt r m g q b)(h:r10 (a,u5,(zdq (zbS (zce (mended r m q b) m g a) m g) a).Page,(zdq (zbS (zce (mended r m q b) m g a) m g) a).Rights,u6,u7,u8,u9,(zce (mended r m q b) m g a).Memory,(zce (mended r m q b) m g a).Mons,(zce (mended r m q b) m g a).Buffer,(zce (mended r m q b) m g a).IoBuffer,())=some (zjF<|zeK (zce (mended r m q b) m g a) m g a c))(i:r10 (a,u5,(zdq (zbS r m g) a).Page,(zdq (zbS r m g) a).Rights,u6,u7,u8,u9,r.Memory,r.Mons,r.Buffer,r.IoBuffer,())=some (zjF<|zeK r m g a c)) :
 znA N r.Mons m g a r.Memory r.Buffer r.IoBuffer q b r10 u5 u6 u7 u8 u9=some (zjF<|cond (zer r m g a b) (zeK (zce (mended r m q b) m g a) m g a c)<|zeK r m g a c):=by
 unfold znA oN nB
 conv=>zeta
 refine brN (λd=>?_) (λd=>br (λe=>?_) λe=>must rfl (brN (λf=>?_) λf=>?_))
 .rw [zsk<|zWs d];exact z2j A h
 .rw [zsk<|zWt e];exact z2j A h
 .rw [zsk<|zWu f];exact z2j A h
 .rw [zVZ<|zWv d e f];exact i
theorem z4K {N:Nat}{r:Host}{m g a b q:Int}{u6 u7 u8 u9}(A:LookAt r m g q b) :
 zq4 N m g a b q (zd8 m g) u6 u7 u8 u9 r.Memory r.Mons r.Buffer r.IoBuffer=some (zjF<|cond (zer r m g a b) (zeK (zce (mended r m q b) m g a) m g a true)<|zeK r m g a true):=by
 have M:=zlx ⟨A.fit.1,rfl⟩ A.hm A.hg;have F:=zlx (A.fill a) A.hm A.hg;unfold zq4 oN
 conv=>zeta
 exact must (zy M.hm) (must (zy M.ht) (must rfl (shr<|z7X A (z4J (r:=zce (mended r m q b) m g a) (m:=m) (g:=g) F.hi)<|z4J (r:=r) (m:=m) (g:=g) M.hi)))
theorem z4M {N:Nat}{r:Host}{m g a b q:Int}{u6 u7 u8 u9}(A:LookAt r m g q b) :
 zq6 N m g a b q (zd8 m g) u6 u7 u8 u9 r.Memory r.Mons r.Buffer r.IoBuffer=some (zjF<|cond (zer r m g a b) (zeK (zce (mended r m q b) m g a) m g a false)<|zeK r m g a false):=by
 have M:=zlx ⟨A.fit.1,rfl⟩ A.hm A.hg;have F:=zlx (A.fill a) A.hm A.hg;unfold zq6 oN
 conv=>zeta
 exact must (zy M.hm) (must (zy M.ht) (must rfl (shr<|z7X A (z4L (r:=zce (mended r m q b) m g a) (m:=m) (g:=g) F.hb)<|z4L (r:=r) (m:=m) (g:=g) M.hb)))
theorem z4N {N:Nat}{r:Host}{m g b a q:Int}{e:Bool}{u6 u7 u8 u9}(A:LookAt r m g q a) :
 zq7 N m g b a e q u6 u7 u8 u9 r.Memory r.Mons r.Buffer r.IoBuffer=some (zjF<|zfu r (zrM r e) m g b a q e):=by
 unfold zq7 oN
 conv=>zeta
 cases e
 .show _=some (zjF<|zfu r r.Buffer m g b a q false)
  refine zcQ rfl (must rfl (shr (must rfl (br (λc=>must rfl (br (λd=>?_) λd=>?_)) λc=>?_))))
  .rw [zB4<|znj c d];rfl
  .rw [znn<|znj c d];exact z4M A
  .rw [znn<|zB0 c];exact z4M A
 .show _=some (zjF<|zfu r r.IoBuffer m g b a q true)
  refine must rfl (must rfl (shr (must rfl (br (λc=>must rfl (br (λd=>?_) λd=>?_)) λc=>?_))))
  .rw [zB4<|znj c d];rfl
  .rw [znn<|znj c d];exact z4K A
  .rw [znn<|zB0 c];exact z4K A
theorem z8y (r:Host)(m q:Int)(a:Bool):zrM (zbu r m q) a=zrM r a:=by cases a<;>rfl
theorem z4O {N:Nat}{r:Host}{m g b a:Int}{c:Bool}{z1 z2 z3 z4}(k:SmH r)(hg:zbJ r m g=true)(h:zf8 a=true) :
 zq8 N m g b a c z1 z2 z3 z4 r.Memory r.Mons r.Buffer r.IoBuffer (ix r.Mons m mZ).Guests=some (zjF (lookOf r (zrM r c) m g b a c)):=by
 obtain⟨l,f,i⟩:=zcY hg;unfold zq8 oN nB
 conv=>zeta
 refine must (zy i) (must rfl (brN (fun e=>?_) (fun e=>?_)))
 .have:zbO r m g b a=false:=by
   unfold zbO;rw[hg,h,show zez (zcj r m g) b a=false from e];rfl
  rw[zhA this];rfl
 .have hl:zbO r m g b a=true:=by
   unfold zbO;rw[hg,h,show zez (zcj r m g) b a=true from e];rfl
  obtain⟨A,B⟩:=zAV k hl;rw[zGe hl];have j:hasB (zb4 (zcj r m g) b a) (ln (ix r.Mons m mZ).Dirty)=true:=zdI (zco A.fit.1 f).2.2.2.1 A.hq;refine shr (br (fun d=>?_) (fun d=>?_))
  .rw [d]
   show _=some (zjF (zfu (zbu r m (zb4 (zcj r m g) b a)) (zrM r c) m g b a (zb4 (zcj r m g) b a) c))
   rw[<- z8y r m (zb4 (zcj r m g) b a) c];exact must (zy f) (must (zy j) (shr (z4N (r:=zbu r m (zb4 (zcj r m g) b a)) B)))
  .rw [d];exact z4N A
theorem zSa (a:Host)(b d:Int)(e c:Int)(f:Bool)(s:zxv a b d e c f=true):∃N,zGV N a b d e c f=some [aH<|zxs a b d e c f,aI<|zxt a b d e c f,aB<|zxu a b d e c f]:=by
 have i:=(zM a).1 (zJ.1 s);refine⟨0,?_⟩;show _=some (zjF<|lookOf a (zrM a f) b d e c f);unfold zGV oN nB;conv=>zeta
 refine must (zbj<|(zM _).2 i) (must (zbj<|(zM _).2 i)<|shr (must rfl (brN (λj=>?_) λj=>?_)));{rw [zhA<|zno<|zKG j];rfl};refine brN (λg=>?_) (λg=>?_);{rw [zhA<|zno<|zKH g];rfl};have q:zcw a b=ix a.Mons b mZ:=(by unfold zcw;rw[show hasB b (ln a.Mons)=true from g];rfl);rw[q];refine must rfl (brN (λk=>?_) λk=>?_);{rw [zhA<|zno<|zKI k];rfl};have hg:=zKJ j g k;have m:∀{n:Int},zf8 n=false->zbO a b d e n=false:=λ{n} h=>(by unfold zbO;rw[hg,h];rfl);rw[zj6,zj6];cases l:ieq c 1;{cases p:ieq c 2;{have:zf8 c=false:=(by unfold zf8;rw[l,p];rfl);rw[zhA<|m this];rfl};{exact z4O (r:=a) i hg (by unfold zf8;rw[l,p];rfl)}};{exact z4O (r:=a) i hg (by unfold zf8;rw[l];rfl)}
theorem zLd:vQ 167 zBf:=kF6 zhF zq zbW zgQ zTM zSa
def z4n:zV:=[(167,zBf),(319,zpE)]++zmA
theorem zQ4:zL z4n:=zh zLd (zh zFI zhF)
@[simp] abbrev zxr (h:Host)(m g b a:Int):Bool:=pc (zbX h)
@[simp] abbrev zrP (h:Host)(m g page need:Int):Host:=(lookOf h h.Buffer m g page need false).1
@[simp] abbrev zrQ (h:Host)(m g page need:Int):Int:=(lookOf h h.Buffer m g page need false).2.1
@[simp] abbrev zxq (h:Host)(m g b a:Int):Bool:=(lookOf h h.Buffer m g b a false).2.2
def zBc:Run:=rF5 dH dI dI dI dI λb c d e f=>(zxr b c d e f,[aH<|zrP b c d e f,aI<|zrQ b c d e f,aB<|zxq b c d e f])
def zGJ (N:Nat)(a:Host)(b c:Int)(d e:Int):OA:=
 (oN (zxv a b c d e false)<|some [aH<|zxs a b c d e false,aI<|zxt a b c d e false,aB<|zxu a b c d e false])
theorem zRY (a:Host)(b c:Int)(d e:Int)(f:zxr a b c d e=true):∃N,zGJ N a b c d e=some [aH<|zrP a b c d e,aI<|zrQ a b c d e,aB<|zxq a b c d e]:=by refine⟨0,?_⟩;unfold zGJ oN;exact must f rfl
theorem zKW:vQ 72 zBc:=kF5 zQ4 zq zbW zgQ (zx []) zRY
def z4o:zV:=[(72,zBc)]++z4n
theorem z1L:zL z4o:=zh zKW zQ4
def brought (n a b:Int):Int:=bif ilt n a then a else (cond (ilt b a) a<|zLO n b)
@[simp] abbrev zqo (_ _ _:Int):Bool:=true
@[simp] abbrev zqV (n a b:Int):Int:=brought n a b
def zrn:Run:=rF3 dI dI dI λb c d=>(zqo b c d,[aI<|zqV b c d])
def zDp (N:Nat)(b a c:Int):OA:=
 (cond (ilt c a) (some [aI a])<|cond (ilt b a) (some [aI a])<|cond (igt b c) (some [aI c])<|some [aI b])
theorem zPo (a b c:Int)(g:zqo a b c=true):∃N,zDp N a b c=some [aI<|zqV a b c]:=by refine⟨0,?_⟩;unfold zDp;unfold zqV brought zLO;cases d:ilt c b<;>cases e:ilt a b<;>cases f:igt a c<;>simp [igt] at * <;> omega
theorem zt4:vQ 197 zrn:=kF3 zpj zq zo zu (zx []) zPo
def rb:Nat->Nat->Bare->Int->Bare×Int
 | 0,_,b,c=>(b,c)
 |m+1,j,b,c=>rb m (j+1) (zd4 b (j:Int)) (cond (zga b (j:Int)) (zI .i64 c 1) c)
def rnd:List Bare->Int->List Bare×Int
 |[],c=>([],c)
 |b::l,c=>((rb b.Guests.length 0 b c).1::(rnd l (rb b.Guests.length 0 b c).2).1,(rnd l (rb b.Guests.length 0 b c).2).2)
structure RI (a:List Bare) (i:Nat) (l:List Bare):Prop where
 len:l.length=a.length
 sm:zWK l
 eq:∀k,i<=k->l[k]?=a[k]?
theorem RI.up {a l:List Bare}{i:Nat}(h:RI a i l)(x:Bare)(b:SmB x):RI a (i+1) (up l (i:Int) x):=
 ⟨by rw[zg5];exact h.len,z6Z h.sm b,λk c=>by rw[z7M (by omega)];exact h.eq k (by omega)⟩
structure RJ (l:List Bare) (i:Nat) (l':List Bare):Prop where
 len:l'.length=l.length
 sm:SmB (ix l' (i:Int) zBJ)
 up:∀x,E.up l' (i:Int) x=E.up l (i:Int) x
theorem RJ.next {l a:List Bare}{i:Nat}(h:RJ l i a)(b:i<l.length)(x:Bare)(c:SmB x):RJ l i (E.up a (i:Int) x):=
 ⟨by rw[zg5];exact h.len,by rw[zef (by rw[h.len];exact b)];exact c,λy=>by rw[zuN];exact h.up y⟩
def zZl:zV:=[(83,zpA)]++z4o
theorem zNT:zL zZl:=zh zsN z1L
def zpB:Run:=rF3 dH dI dI λb c d=>(zcD b c d,[aH<|zbV b c d,aB<|zb3 b c d])
abbrev zhv (a:Host)(b c:Int):Int :=
 (zgD<|ix (zcw a b).Guests c zl)
abbrev zc4 (a:Host)(b c:Int):Int :=
 (zg1<|ix (zcw a b).Guests c zl)
abbrev zvu (a:Host)(b c:Int):Host :=
 (zrP a b c (zbP<|zhv a b c)<|zcW<|ieq (zc4 a b c) 4)
abbrev zhu (a:Host)(b c:Int):Guest :=
 (ix (ix (zk a).Mons b zf).Guests c zl)
abbrev zle (c:lN)(a b:Int):Guest :=
 (ix (ix c a zf).Guests b zl)
abbrev zvv (a:Host)(b c:Int):Int :=
 (zrQ a b c (zbP<|zhv a b c)<|zcW<|ieq (zc4 a b c) 4)
def zlf (N:Nat)(f:Host)(c d:Int):OA:=
 let j:=zvv f c d;let h:=ieq (zc4 f c d) 4;let a:=zhv f c d;let b:=zvu f c d;let k:=inb c<|ln b.Mons;let e:=ix (zcw f c).Guests d zl;let g:=ix b.Mons c zf;let l:=inb d<|ln g.Guests; (oN (zbL a)<|oN (zjL h)<|oN (zxr f c d (zbP a)<|zcW h)<|cond (nB<|zxq f c d (zbP a)<|zcW h) (oN (zbL a)<|oN (zgX (zbP a) h)<|oN (zcB e<|ze4 (zbP a) h)<|oN k<|oN l<|share (up b.Mons c ({g with Guests:=(up g.Guests d<|zck e<|ze4 (zbP a) h)}:Mon)) λi=>some [aH ({b with Mons:=i}:Host),aB true])<|cond h (oN (zbL a)<|oN (ze5 b.Memory j (zc0 a) e.A)<|oN (zK e)<|oN k<|oN l<|share (up b.Mons c ({g with Guests:=(up g.Guests d<|zb5 e)}:Mon)) λi=>some [aH ({b with Memory:=(zfe b.Memory j (zc0 a) e.A),Mons:=i}:Host),aB true])<|oN (zbL a)<|oN (zff b.Memory j<|zc0 a)<|oN (zlO e<|zgf b.Memory j<|zc0 a)<|oN k<|oN l<|share (up b.Mons c ({g with Guests:=(up g.Guests d<|zjJ e<|zgf b.Memory j<|zc0 a)}:Mon)) λi=>some [aH ({b with Mons:=i}:Host),aB true])
def zlg (N:Nat)(f:Host)(a b:Int)(d:lN):OA:=
 let c:=zle d a b;let e:=ix d a zf;let g:=({ (zhu f a b) with Prog:=c.Prog,Written:=c.Written,Live:=c.Live,Seen:=c.Seen}:Guest); (oN (zK g)<|oN (inb b<|ln e.Guests)<|share (up d a ({e with Guests:=(up e.Guests b<|zb5 g)}:Mon)) λh=>some [aH ({ (zk f) with Mons:=h}:Host),aB true])
def zlh (N:Nat)(e:Host)(a d:Int):OA:=
 let g:=(zk e).Mons;let c:=zhu e a d;let b:=ix g a zf;let h:=ap b.Outs [(zdn c.Prog c.Pc).X]; (cond (ieq (zc4 e a d) 7) (oN (zK c)<|oN (inb d<|ln b.Guests)<|share (up g a ({b with Guests:=(up b.Guests d<|zjX c)}:Mon)) λf=>some [aH ({ (zk e) with Mons:=f}:Host),aB true])<|cond (ilt (ln b.Outs) 40) (oN (zdw c.Prog c.Pc)<|oN (few<|ln h)<|oN (cond (ieq a a) true false)<|share (up g a ({b with Outs:=h}:Mon)) λf=>zlg N e a d f)<|oN (zK c)<|oN (inb d<|ln b.Guests)<|share (up g a ({b with Guests:=(up b.Guests d<|zb5 c)}:Mon)) λf=>some [aH ({ (zk e) with Mons:=f}:Host),aB true])
def zli (N:Nat)(a:Int)(g:Host)(b:Int):OA:=
 let f:=zk g;let j:=zc4 g a b;let d:=zhu g a b;let c:=ix f.Mons a zf;let l:=zjk c.Traps d.Ctl.Traps<|zhL j; (oN (inb a<|ln f.Mons)<|oN (inb b<|ln c.Guests)<|oN (znT j)<|oN (zmp c.Traps d.Ctl.Traps<|zhL j)<|cond (ieq l 1) (oN (zl9 d j)<|oN (inb b<|ln c.Guests)<|share (up f.Mons a ({c with Guests:=(up c.Guests b<|zjh d j)}:Mon)) λe=>some [aH ({f with Mons:=e}:Host),aB true])<|cond (ieq l 2) (cond (ilt c.Own 1000000000) (share (up f.Mons a ({c with Own:=(zI .i64 c.Own 1)}:Mon)) (λe=>let i:=ix e a zf;let h:=zle e a b;let k:=ap i.Outs [(zdn h.Prog d.Pc).X];let q:=({d with Prog:=h.Prog,Written:=h.Written,Live:=h.Live,Seen:=h.Seen}:Guest); (cond (ieq j 7) (oN (zK q)<|oN (inb b<|ln i.Guests)<|share (up e a ({i with Guests:=(up i.Guests b<|zjX q)}:Mon)) λm=>some [aH ({f with Mons:=m}:Host),aB true])<|cond (ilt (ln i.Outs) 40) (oN (zdw h.Prog d.Pc)<|oN (few<|ln k)<|oN (cond (ieq a a) true false)<|share (up e a ({i with Outs:=k}:Mon)) (λm=>let p:=ix m a zf;let n:=ix p.Guests b zl;let r:=({d with Prog:=n.Prog,Written:=n.Written,Live:=n.Live,Seen:=n.Seen}:Guest); (oN (zK r)<|oN (inb b<|ln p.Guests)<|share (up m a ({p with Guests:=(up p.Guests b<|zb5 r)}:Mon)) λs=>some [aH ({f with Mons:=s}:Host),aB true])))<|zlg N g a b e)))<|zlh N g a b)<|zlh N g a b)
def ziM (N:Nat)(a:Host)(b c:Int):OA:=
 (oN (zeV a b)<|oN (zc5 (zgR a b) c)<|oN (inb b<|ln (zk a).Mons)<|share (up (zk a).Mons b ({ (ix (zk a).Mons b zf) with Guests:=(ziU (zgR a b) c).Guests}:Mon)) λd=>some [aH ({ (zk a) with Mons:=d}:Host),aB true])
def zf9 (N:Nat)(a:Host)(b c:Int):OA:=
 let d:=zc4 a b c; (cond (ieq d 5) (cond (ieq d 5) (zli N b a c)<|ziM N a b c)<|cond (ieq d 7) (zli N b a c)<|ziM N a b c)
def zzn (N:Nat)(a:Host)(c b:Int):OA:=
 let f:=aH<|zk a;let e:=zc4 a c b;let d:=(zcw a c).Guests;let g:=ix d b zl; (oN (zbi a)<|oN (zeV a c)<|oN (zc9 a)<|cond (nB<|zdj a) (some [f,aB false])<|cond (nB<|zkG a c) (some [f,aB false])<|oN (zbg b<|ln d)<|cond (nB<|zcq b<|ln d) (some [f,aB false])<|oN (inb b<|ln d)<|oN (zbp g)<|cond (ieq e 0) (some [f,aB false])<|oN (inb b<|ln d)<|oN (zbp g)<|oN (zbp g)<|cond (ieq e 3) (cond (ieq e 3) (zlf N a c b)<|zf9 N a c b)<|cond (ieq e 4) (zlf N a c b)<|zf9 N a c b)
theorem zSG {h:Host}{m:Int}(a:hasB m (ln h.Mons)=true):zcw h m=ix h.Mons m mZ:=by unfold zcw;rw[a];rfl
theorem z7U {N:Nat}{a:Host}{c d:Int}(l:SmH a)(p:zbJ a c d=true) :
 zlf N a c d=some (zen (zfT (zhS a c d (gOf a c d)<|ieq (zD<|gOf a c d) 4) c d (gOf a c d)<|ieq (zD<|gOf a c d) 4,true)):=by
 obtain⟨s,i,n⟩:=zcY p;have m:=zj0 l i n;have k:=zsj (b:=a.Buffer) (page:=zbb (address<|gOf a c d)) (need:=zbY (ieq (zD<|gOf a c d) 4)) (io:=false) l p;have F:=zlx k i n;have g:=zSG i;have e:zc4 a c d=zD (gOf a c d):=by show zg1 (ix (zcw a c).Guests d gZ)=_;rw[g];rfl
 have f:zhv a c d=address (gOf a c d):=by show zgD (ix (zcw a c).Guests d gZ)=_;rw[g];rfl
 have q:zvu a c d=(zhS a c d (gOf a c d)<|ieq (zD<|gOf a c d) 4).1:=by show zrP a c d (zbP<|zhv a c d) (zcW<|ieq (zc4 a c d) 4)=_;rw[e,f];rfl
 have r:zvv a c d=(zhS a c d (gOf a c d)<|ieq (zD<|gOf a c d) 4).2.1:=by show zrQ a c d (zbP<|zhv a c d) (zcW<|ieq (zc4 a c d) 4)=_;rw[e,f];rfl
 unfold zlf oN nB
 conv=>zeta
 rw[q,e,f,r,g];unfold zfT;refine must rfl (must rfl (must (zbj<|(zM _).2 l)<|brN (λh=>?_) λh=>?_))
 .rw [show (zhS a c d (gOf a c d)<|ieq (zD<|gOf a c d) 4).2.2=false from h]
  exact must rfl (must rfl (must (zbj m)<|must (zy F.hm) (must (zy F.hg) rfl)))
 .rw [show (zhS a c d (gOf a c d)<|ieq (zD<|gOf a c d) 4).2.2=true from h]
  refine br (λj=>?_) (λj=>?_)
  .have kk:=k.shape.1.1;rw[j] at F kk ⊢;exact must rfl (must (zbj kk)<|must (zbj m)<|must (zy F.hm) (must (zy F.hg) rfl))
  .rw [j] at F ⊢;exact must rfl (must rfl (must (zbj m)<|must (zy F.hm) (must (zy F.hg) rfl)))
theorem z9e {N:Nat}{c:Host}{d:List Mon}{a b:Int}(g:SmG (gOf c a b))(f:hasB b (ln (ix d a mZ).Guests)=true)(e:zle d a b=zhu c a b) :
 zlg N c a b d=some (zen (zfN {c with Mons:=d} a b<|zbT<|gOf c a b,true)):=by
 unfold zlg oN
 conv=>zeta
 rw[e];exact must (zbj g) (must (zy f) rfl)
def leftG (x:Guest)(w:Int):Guest:=bif ieq w 7 then held x else zbT x
def zxB (h:Host)(m:Int)(x:Guest)(w:Int):Host:=bif ieq w 7 then h else zgA h m (zb8 x.Prog x.Pc).X
theorem zv7 {h:Host}{m:Int}{x:Guest}{w:Int}(a:ieq w 7=true):leftG x w=held x/\zxB h m x w=h:=by unfold leftG zxB;rw[a];exact⟨rfl,rfl⟩
theorem zma {h:Host}{m:Int}{x:Guest}{w:Int}(a:ieq w 7=false):leftG x w=zbT x/\zxB h m x w=zgA h m (zb8 x.Prog x.Pc).X:=by unfold leftG zxB;rw[a];exact⟨rfl,rfl⟩
theorem zV8 {h:Host}{m n:Int}(a:ilt (ln (ix h.Mons m mZ).Outs) 40=true):zgA h m n={h with Mons:=up h.Mons m {ix h.Mons m mZ with Outs:=ap (ix h.Mons m mZ).Outs [n]}}:=by unfold zgA;rw[a];rfl
theorem zV7 {h:Host}{m n:Int}(a:ilt (ln (ix h.Mons m mZ).Outs) 40=false):zgA h m n=h:=by unfold zgA;rw[a];rfl
theorem z9f {N:Nat}{b:Host}{a c:Int}(k:SmH b)(g:hasB a (ln b.Mons)=true)(e:hasB c (ln (ix b.Mons a mZ).Guests)=true)(j:zc4 b a c=zD (gOf b a c)) :
 zlh N b a c=some (zen (zfN (zxB b a (gOf b a c)<|zD<|gOf b a c) a c<|leftG (gOf b a c)<|zD<|gOf b a c,true)):=by
 have i:=zj0 k g e;unfold zlh oN
 conv=>zeta
 rw[j];refine br (λd=>?_) (λd=>br (λf=>?_) λf=>?_)
 .rw [(zv7 (x:=gOf b a c) (h:=b) (m:=a) d).1,(zv7 (x:=gOf b a c) d).2];exact must (zbj i) (must (zy e) rfl)
 .rw [(zma (x:=gOf b a c) (h:=b) (m:=a) d).1,(zma (x:=gOf b a c) d).2,zV8 f];refine must rfl (must (zQb f)<|must (zIU _)<|shr<|z9e i ?_ ?_)
  .rw [znX g];exact e
  .show ix (ix (up b.Mons a _) a mZ).Guests c gZ=_
   rw[znX g]
 .rw [(zma (x:=gOf b a c) (h:=b) (m:=a) d).1,(zma (x:=gOf b a c) d).2,zV7 f];exact must (zbj i) (must (zy e) rfl)
theorem z8o {h:Host}{m g:Int}{x:Guest}{w:Int}(d:ieq w 6=false)(c:ieq w 5=false->ieq w 6=false->ieq w 7=true)(e:zdH x.Ctl.Traps (ze8 w)=false):zin h m g x w=zfN (zxB (zdY h m x w) m x w) m g (leftG x w):=by unfold zin;cases b:ieq w 7;{have a:ieq w 5=true:=(by cases a:ieq w 5;{have:=c a d;rw[b] at this;cases this};{rfl});obtain⟨f,i⟩:=tr3 x x.Ctl.Traps w d b e a;rw[(zma (x:=x) (h:=zdY h m x w) (m:=m) b).1,(zma (x:=x) b).2,f];unfold zf4;rw[i,a];rfl};{have a:ieq w 5=false:=(by have:w=7:=qD b;rw[this];rfl);rw[(zv7 (x:=x) (h:=zdY h m x w) (m:=m) b).1,(zv7 (x:=x) b).2,tr4 x x.Ctl.Traps w d c e a,zBD a]}
theorem z9i {f:Host}{d:List Mon}{a c:Int}(h:SmG (gOf f a c))(g:hasB c (ln (ix d a mZ).Guests)=true)(e:(ix (ix d a zf).Guests c zl)=gOf f a c) :
 (cond (zK ({ (ix (ix (zk f).Mons a zf).Guests c zl) with Prog:=(ix (ix d a zf).Guests c zl).Prog,Written:=(ix (ix d a zf).Guests c zl).Written,Live:=(ix (ix d a zf).Guests c zl).Live,Seen:=(ix (ix d a zf).Guests c zl).Seen}:Guest)) (cond (inb c<|ln (ix d a zf).Guests) (share (up d a ({ (ix d a zf) with Guests:=(up (ix d a zf).Guests c<|zb5 ({ (ix (ix (zk f).Mons a zf).Guests c zl) with Prog:=(ix (ix d a zf).Guests c zl).Prog,Written:=(ix (ix d a zf).Guests c zl).Written,Live:=(ix (ix d a zf).Guests c zl).Live,Seen:=(ix (ix d a zf).Guests c zl).Seen}:Guest))}:Mon)) λi=>some [.agg<|zbe ({ (zk f) with Mons:=i}:Host),.one<|.b true]) none) none)=some (zen (zfN {f with Mons:=d} a c<|zbT<|gOf f a c,true)):=by
 rw[e];exact must (zbj h) (must (zy g) rfl)
theorem z9h {f:Host}{d:List Mon}{a c:Int}(l:SmG (gOf f a c))(n:hasB a (ln d)=true)(k:hasB c (ln (ix d a mZ).Guests)=true)(e:(ix (ix d a zf).Guests c zl)=gOf f a c) :
 (cond (ieq (zD<|gOf f a c) 7) (cond (zK ({ (ix (ix (zk f).Mons a zf).Guests c zl) with Prog:=(ix (ix d a zf).Guests c zl).Prog,Written:=(ix (ix d a zf).Guests c zl).Written,Live:=(ix (ix d a zf).Guests c zl).Live,Seen:=(ix (ix d a zf).Guests c zl).Seen}:Guest)) (cond (inb c<|ln (ix d a zf).Guests) (share (up d a ({ (ix d a zf) with Guests:=(up (ix d a zf).Guests c<|zjX ({ (ix (ix (zk f).Mons a zf).Guests c zl) with Prog:=(ix (ix d a zf).Guests c zl).Prog,Written:=(ix (ix d a zf).Guests c zl).Written,Live:=(ix (ix d a zf).Guests c zl).Live,Seen:=(ix (ix d a zf).Guests c zl).Seen}:Guest))}:Mon)) λg=>some [.agg<|zbe ({ (zk f) with Mons:=g}:Host),.one<|.b true]) none) none)<|cond (ilt (ln (ix d a zf).Outs) 40) (cond (zdw (ix (ix d a zf).Guests c zl).Prog (ix (ix (zk f).Mons a zf).Guests c zl).Pc) (cond (few<|ln<|ap (ix d a zf).Outs [(zdn (ix (ix d a zf).Guests c zl).Prog (ix (ix (zk f).Mons a zf).Guests c zl).Pc).X]) (cond (cond (ieq a a) true false) (share (up d a ({ (ix d a zf) with Outs:=(ap (ix d a zf).Outs [(zdn (ix (ix d a zf).Guests c zl).Prog (ix (ix (zk f).Mons a zf).Guests c zl).Pc).X])}:Mon)) λg=>cond (zK ({ (ix (ix (zk f).Mons a zf).Guests c zl) with Prog:=(ix (ix g a zf).Guests c zl).Prog,Written:=(ix (ix g a zf).Guests c zl).Written,Live:=(ix (ix g a zf).Guests c zl).Live,Seen:=(ix (ix g a zf).Guests c zl).Seen}:Guest)) (cond (inb c<|ln (ix g a zf).Guests) (share (up g a ({ (ix g a zf) with Guests:=(up (ix g a zf).Guests c<|zb5 ({ (ix (ix (zk f).Mons a zf).Guests c zl) with Prog:=(ix (ix g a zf).Guests c zl).Prog,Written:=(ix (ix g a zf).Guests c zl).Written,Live:=(ix (ix g a zf).Guests c zl).Live,Seen:=(ix (ix g a zf).Guests c zl).Seen}:Guest))}:Mon)) λp=>some [.agg<|zbe ({ (zk f) with Mons:=p}:Host),.one<|.b true]) none) none) none) none) none)<|cond (zK ({ (ix (ix (zk f).Mons a zf).Guests c zl) with Prog:=(ix (ix d a zf).Guests c zl).Prog,Written:=(ix (ix d a zf).Guests c zl).Written,Live:=(ix (ix d a zf).Guests c zl).Live,Seen:=(ix (ix d a zf).Guests c zl).Seen}:Guest)) (cond (inb c<|ln (ix d a zf).Guests) (share (up d a ({ (ix d a zf) with Guests:=(up (ix d a zf).Guests c<|zb5 ({ (ix (ix (zk f).Mons a zf).Guests c zl) with Prog:=(ix (ix d a zf).Guests c zl).Prog,Written:=(ix (ix d a zf).Guests c zl).Written,Live:=(ix (ix d a zf).Guests c zl).Live,Seen:=(ix (ix d a zf).Guests c zl).Seen}:Guest))}:Mon)) λg=>some [.agg<|zbe ({ (zk f) with Mons:=g}:Host),.one<|.b true]) none) none)=some (zen (zfN (zxB {f with Mons:=d} a (gOf f a c)<|zD<|gOf f a c) a c<|leftG (gOf f a c)<|zD<|gOf f a c,true)):=by
 rw[e];refine br (λi=>?_) (λi=>br (λj=>?_) λj=>?_)
 .rw [(zv7 (x:=gOf f a c) (h:={f with Mons:=d}) (m:=a) i).1,(zv7 (x:=gOf f a c) i).2];exact must (zbj l) (must (zy k) rfl)
 .rw [(zma (x:=gOf f a c) (h:={f with Mons:=d}) (m:=a) i).1,(zma (x:=gOf f a c) i).2,zV8 (h:={f with Mons:=d}) j];refine must rfl (must (zQb j)<|must (zIU _)<|shr<|z9i l ?_ ?_)
  .rw [znX (h:={f with Mons:=d}) n];exact k
  .show ix (ix (up d a _) a mZ).Guests c gZ=_
   rw[znX (h:={f with Mons:=d}) n];exact e
 .rw [(zma (x:=gOf f a c) (h:={f with Mons:=d}) (m:=a) i).1,(zma (x:=gOf f a c) i).2,zV7 (h:={f with Mons:=d}) j];exact must (zbj l) (must (zy k) rfl)
theorem tf (b:Bool):b=false\/b=true:=by cases b<;>simp
theorem z9g {N:Nat}{a:Host}{b c:Int}(r:SmH a)(d:hasB b (ln a.Mons)=true)(e:hasB c (ln (ix a.Mons b mZ).Guests)=true)(q:zc4 a b c=zD (gOf a b c))(l:ieq (zD<|gOf a b c) 6=false)(f:ieq (zD<|gOf a b c) 5=false->ieq (zD<|gOf a b c) 6=false->ieq (zD<|gOf a b c) 7=true) :
 zli N b a c=some (zen (zin a b c (gOf a b c)<|zD<|gOf a b c,true)):=by
 have s:=zj0 r d e;have n:=z9f (N:=N) r d e q;have g:ine (zD<|gOf a b c) 6=true:=by rw[zj6,l];rfl
 unfold zli oN
 conv=>zeta
 rw[q];refine must (zy d) (must (zy e) (must rfl (must rfl ?_)));rw[show ieq (zjk (ix a.Mons b zf).Traps (zhu a b c).Ctl.Traps<|zhL<|zD<|gOf a b c) 1=zdH (gOf a b c).Ctl.Traps (ze8<|zD<|gOf a b c) from z8c _ _ _]
 refine br (λh=>?_) (λh=>?_)
 .obtain⟨e1,e2⟩:=tr2 (gOf a b c) (gOf a b c).Ctl.Traps _ l f h;have i:zdY a b (gOf a b c) (zD<|gOf a b c)=a:=by unfold zdY;rw[g,z8d h];rfl
  unfold zin;rw[i,zJ7 e2,e1];exact must (zbj s) (must (zy e) rfl)
 .rw [z8o l f h];have i:zdY a b (gOf a b c) (zD<|gOf a b c)=bif ieq (zkR (ix a.Mons b mZ).Traps (gOf a b c).Ctl.Traps<|ze8<|zD<|gOf a b c) 2 then owned a b else a:=by unfold zdY;rw[g];rfl
  rw[i];refine br (λm=>?_) (λm=>?_)
  .rw [show ieq (zkR (ix a.Mons b mZ).Traps (gOf a b c).Ctl.Traps<|ze8<|zD<|gOf a b c) 2=true from m]
   simp only[cT];unfold owned;refine br (λk=>?_) (λk=>?_)
   rotate_left
   .rw [k];exact n
   rw[k];refine shr ?_;have p:=znX d {ix a.Mons b mZ with Own:=zI .i64 (ix a.Mons b mZ).Own 1};have j:hasB b (ln<|up a.Mons b {ix a.Mons b mZ with Own:=zI .i64 (ix a.Mons b mZ).Own 1})=true:=zeQ d;have t:zle (up a.Mons b {ix a.Mons b mZ with Own:=zI .i64 (ix a.Mons b mZ).Own 1}) b c=zhu a b c:=by show ix (ix (up a.Mons b _) b mZ).Guests c gZ=_;rw[p]
   refine z9h s j ?_ t;rw[p];exact e
  .rw [show ieq (zkR (ix a.Mons b mZ).Traps (gOf a b c).Ctl.Traps<|ze8<|zD<|gOf a b c) 2=false from m]
   exact n
theorem z2d {N:Nat}{a:Host}{b c:Int}(r:SmH a)(q:zbJ a b c=true)(m:ieq (zD<|gOf a b c) 0=false){y:Guest}{o:List Int}(s:(stepped (zA a b) c (gOf a b c)<|zD<|gOf a b c).Guests=up (ix a.Mons b mZ).Guests c y)(p:SmB (zA a b)) :
 ziM N a b c=some (zen (zfN a b c y,true)):=by
 obtain⟨k,f,l⟩:=zcY q;have g:=zuX k f;have i:(zA a b).Guests=(ix a.Mons b mZ).Guests:=by unfold zA;rw[f];rfl
 have e:hasB c (ln (zA a b).Guests)=true:=by rw[i];exact l
 have h:gAt (zA a b) c=gOf a b c:=by unfold gAt;rw[e,i];rfl
 have d:zga (zA a b) c=true:=by unfold zga;rw[e,g,h,m];rfl
 have j:zd4 (zA a b) c=stepped (zA a b) c (gOf a b c) (zD<|gOf a b c):=by unfold zd4;rw[d,h];rfl
 have n:(ziU (zgR a b) c).Guests=up (ix a.Mons b mZ).Guests c y:=by show (zd4 (zA a b) c).Guests=_;rw[j,s]
 unfold ziM oN;rw[n];exact must (zbj<|(zM _).2 r) (must (zbj p) (must (zy f) rfl))
theorem zGr {h:Host}{m:Int}(g:SmH h)(f:hasB m (ln h.Mons)=true):SmB (zA h m):=by
 have b:=g.2.1.2 _ (zbv f mZ);have e:∀(d:List (List Int)) (q:Int),SmM d->(zcr d q).length<=1048576:=λd q h=>zTn h;have c:∀p:Int,(zcm h m p).length<=1048576:=by intro p;unfold zcm;cases hasB m (ln h.Mons);{exact(by decide:zx1.length<=1048576)};{cases hasB p 8;{exact(by decide:zx1.length<=1048576)};{simp only [cT];cases ine (zbn (ix h.Mons m zf).Outer p).Page (-1);{exact e _ _ b.2.1};{exact e _ _ g.1}}}
 have j:∀(n i:Nat),∀x∈zcs h m n i,x.length<=1048576:=by
  intro n
  induction n with
  |zero=>intro i x a;cases a
  |succ n k=>intro i x a;rcases qG.1 a with rfl|a;{exact c _};{exact k (i+1) x a}
 unfold zA;rw[f];exact⟨⟨by show (zcs h m 8 0).length<=1048576;rw[zxJ];decide,j 8 0⟩,b.2.2.2.1,b.2.2.2.2.1⟩
theorem zu4 (b:Bare)(g:Int)(x:Guest):(zdS b g x).Guests=up b.Guests g x:=rfl
theorem zLV (a:Host)(b c:Int)(q:zbB big [aH a,aI b,aI c])(B:zcD a b c=true):∃N,zzn N a b c=some [aH (zbV a b c),aB (zb3 a b c)]:=by
 have g:=(zM a).1 (zJ.1 B);refine⟨0,?_⟩;show _=some (zen (zbt a b c));unfold zzn oN nB;conv=>zeta
 refine must (zbj ((zM _).2 g)) (must (zbj ((zM _).2 g)) (must rfl (brN (fun u=>?_) (fun u=>brN (fun l=>?_) (fun l=>?_)))));{rw [zh1 (zKG u)];rfl};{rw [zh1 (zKH l)];rfl};have y:=zSG (h:=a) (m:=b) l;have n:zc4 a b c=zD (gOf a b c):=(by show zg1 (ix (zcw a b).Guests c gZ)=_;rw[y];rfl);rw[y,n];refine must rfl (brN (fun p=>?_) (fun p=>?_));{rw [zh1 (zKI p)];rfl};have j:=zKJ u l p;have s:hasB b (ln a.Mons)=true:=l;have t:hasB c (ln (ix a.Mons b mZ).Guests)=true:=p;have q:=zGr g s;have r:(zA a b).Guests=(ix a.Mons b mZ).Guests:=(by unfold zA;rw[s];rfl);rw[ziD j];unfold zBz;refine must (zy t) (must rfl (br (fun d=>?_) (fun d=>must (zy t) (must rfl (must rfl (br (fun i=>must i ?_) (fun i=>br (fun k=>?_) (fun k=>?_))))))));{rw [d];rfl};{have e:zD (gOf a b c)=3:=qD i;have T:=z7U (N:=0) g j;rw[T];rw[e];rfl};{have e:zD (gOf a b c)=4:=qD k;have T:=z7U (N:=0) g j;rw[T];rw[e];rfl}
 .have fin:∀{R:Host×Bool},zf9 0 a b c=some (zen R)->R=(bif ieq (zD (gOf a b c)) 0 then (a,false) else (bif ieq (zD (gOf a b c)) 1 then (zfN a b c (interrupted (gOf a b c)),true) else (bif ieq (zD (gOf a b c)) 2 then (zfN a b c (plainly (gOf a b c)),true) else
   (cond (cond (ieq (zD (gOf a b c)) 3) true (ieq (zD (gOf a b c)) 4)) (zfT (zhS a b c (gOf a b c) (ieq (zD (gOf a b c)) 4)) b c (gOf a b c) (ieq (zD (gOf a b c)) 4),true) (zin a b c (gOf a b c) (zD (gOf a b c)),true)))))->zf9 0 a b c=_:=fun h e=>h.trans (congrArg (fun x=>some (zen x)) e)
  have w:ieq (zD (gOf a b c)) 5=false->ieq (zD (gOf a b c)) 7=false->zf9 0 a b c=ziM 0 a b c:=by
   intro v A;unfold zf9;conv=>zeta
   rw[n];exact zcQ v (zcQ A rfl)
  rcases tf (ieq (zD (gOf a b c)) 1) with f|f
  .rcases tf (ieq (zD (gOf a b c)) 2) with w2|w2
   .rcases tf (ieq (zD (gOf a b c)) 6) with w6|w6
    .have h57:ieq (zD (gOf a b c)) 5=false->ieq (zD (gOf a b c)) 6=false->ieq (zD (gOf a b c)) 7=true:=fun v z=>zYx _ d f w2 i k v z;have T:=z9g (N:=0) g s t n w6 h57;refine fin (R:=(zin a b c (gOf a b c) (zD (gOf a b c)),true)) ?_ (by rw[d,f,w2,i,k];rfl);unfold zf9;conv=>zeta
     rw[n];cases C:ieq (zD (gOf a b c)) 5;{exact zcQ rfl (must (h57 C w6) T)};{exact must rfl (must rfl T)}
    {have e:zD (gOf a b c)=6:=qD w6;refine fin (R:=(zfN a b c (zfv (gOf a b c) (gOf a b c).Ctl.Traps (zD (gOf a b c))),true)) ?_ ?_;{rw [w (by rw[e];rfl) (by rw[e];rfl)];refine z2d (o:=[]) g j d ?_ q;unfold stepped zpP;rw[f,w2,i,k,(tr1 (gOf a b c) (gOf a b c).Ctl.Traps _ w6).2];show (zdS (zA a b) c _).Guests=_;rw[zu4,r]};{rw [d,f,w2,i,k];unfold zin zdY;rw[zJ7 (tr1 (gOf a b c) (gOf a b c).Ctl.Traps _ w6).2,zj6,w6];rfl}}
   {have e:zD (gOf a b c)=2:=qD w2;refine fin (R:=(zfN a b c (plainly (gOf a b c)),true)) ?_ (by rw[d,f,w2];rfl);rw[w (by rw[e];rfl) (by rw[e];rfl)];refine z2d (o:=[]) g j d ?_ q;unfold stepped;rw[f,w2];show (zdS (zA a b) c _).Guests=_;rw[zu4,r]}
  {have e:zD (gOf a b c)=1:=qD f;refine fin (R:=(zfN a b c (interrupted (gOf a b c)),true)) ?_ (by rw[d,f];rfl);rw[w (by rw[e];rfl) (by rw[e];rfl)];refine z2d (o:=[]) g j d ?_ q;unfold stepped;rw[f];show (zdS (zA a b) c _).Guests=_;rw[zu4,r]}
theorem zsO:vQ 22 zpB:=hF3 zNT zq zbW zgQ (zx []) zLV
def z4p:zV:=[(22,zpB)]++zZl
theorem z1M:zL z4p:=zh zsO zNT
def z4q:zV:=[(197,zrn)]++z4p
theorem z1N:zL z4q:=zh zt4 z1M
def cnt (l:List Mon):List Nat:=l.map λx=>x.Guests.length
theorem z7r {l a:List Mon}(h:zet a=zet l):cnt a=cnt l:=by have e:∀l:List Mon,cnt l=(zet l).map List.length:=λl=>(by simp[cnt,zet]);rw[e,e,h]
theorem zQN {l:List Mon}{m:Int}{x:Mon}(b:hasB m (ln l)=true)(c:x.Guests.length=(ix l m mZ).Guests.length):cnt (up l m x)=cnt l:=by obtain⟨k,rfl,a⟩:=zd0 (n:=l.length) b;unfold cnt up;rw[List.map_set,kY,c,zba a];have:=@vA _ (l.map λx=>x.Guests.length) k (by simpa using a);simpa using this
theorem z5G {l a:List Mon}(h:cnt a=cnt l):a.length=l.length:=by have:=congrArg List.length h;simpa [cnt] using this
theorem z7s {l b:List Mon}(h:cnt b=cnt l)(m:Int):(ix b m mZ).Guests.length=(ix l m mZ).Guests.length:=by have a:(cnt b)[m.toNat]?=(cnt l)[m.toNat]?:=(by rw[h]);unfold cnt at a;rw[qN,qN]at a;unfold ix;simp only[j8];cases c:b[m.toNat]? <;> cases d:l[m.toNat]? <;> rw [c,d]at a<;>simp at a ⊢;exact a
theorem z6C (h:Host)(m p:Int):(zdo h m p).Memory=h.Memory:=(zgz (zeW h m p) m p noSlot).2
theorem z6B (h:Host):(zcL h).Memory=h.Memory:=by unfold zcL;cases ieq (ln<|zca h) 0;{rfl};{exact z6C _ _ _}
theorem z6A (m:List (List Int))(p:Int)(c:List Int):(ziF m p c).length=m.length:=by unfold ziF;cases hasB p (ln m);{rfl};{cases zcn c;{rfl};{simp}}
theorem z6y (m:List (List Int))(p c v:Int):(zbD m p c v).length=m.length:=by unfold zbD;cases zf7 m p c;{rfl};{cases zi v 0 99;{rfl};{simp}}
theorem zXK (h:Host)(m p:Int):(fetched h m p).Memory.length=h.Memory.length:=by unfold fetched zfk;rw[(zgz _ _ _ _).2];unfold landing;rw[z6A,z6B]
theorem zSF (h:Host)(m p n:Int):(zie h m p n).Memory=h.Memory:=by unfold zie;cases ieq (wand .i64 n 2) 0;{unfold opened;cases ieq (wand .i64 (ix (ix (zbu h m p).Mons m mZ).Outer p sZ).Rights 2) 0;{rfl};{exact(zgz _ _ _ _).2}};{rfl}
theorem zZ4 (h:Host)(m p n:Int):(mended h m p n).Memory.length=h.Memory.length:=by unfold mended;cases ieq (ix (ix h.Mons m mZ).Outer p sZ).Page (-1);{exact congrArg List.length (zSF _ _ _ _)};{exact(congrArg List.length<|zSF _ _ _ _).trans (zXK _ _ _)}
theorem zZ5 (h:Host)(m g p:Int)(a:Bool):(zqc h m g p a).Memory=h.Memory:=by cases a<;>rfl
theorem z2r (h:Host)(b:List Entry)(m g c a q:Int)(d:Bool):(zfu h b m g c a q d).1.Memory.length=h.Memory.length:=by unfold zfu;cases zhx b m g c a;{cases zer h m g c a;{exact congrArg List.length (zZ5 _ _ _ _ _)};{exact(congrArg List.length<|zZ5 _ _ _ _ _).trans (zZ4 h m q a)}};{rfl}
theorem z6z (h:Host)(b:List Entry)(m g page need:Int)(io:Bool):(lookOf h b m g page need io).1.Memory.length=h.Memory.length:=by unfold lookOf;cases zbO h m g page need;{rfl};{simp only [cT];rw[z2r];cases ieq need 2<;>rfl}
structure Keep (h r:Host):Prop where
 shape:Shape r
 cnt:cnt r.Mons=cnt h.Mons
 mem:r.Memory.length=h.Memory.length
theorem Keep.has {h r:Host}(k:Keep h r){m:Int}(a:hasB m (ln h.Mons)=true):hasB m (ln r.Mons)=true:=by rw[ln,z5G k.cnt];exact a
theorem Keep.hg {h r:Host}(k:Keep h r){m g:Int}(hg:hasB g (ln (ix h.Mons m mZ).Guests)=true):hasB g (ln (ix r.Mons m mZ).Guests)=true:=by rw[ln,z7s k.cnt];exact hg
theorem Keep.trans {a b c:Host}(h:Keep a b)(k:Keep b c):Keep a c:=⟨k.shape,k.cnt.trans h.cnt,k.mem.trans h.mem⟩
theorem Keep.rfl' {h:Host}(a:Shape h):Keep h h:=⟨a,rfl,rfl⟩
theorem znm {h:Host}{m g:Int}{x:Guest}(b:Shape h)(a:hasB m (ln h.Mons)=true)(c:SmG x):Keep h (zfN h m g x):=⟨zYh b a c,zQN a (by simp),rfl⟩
theorem zAG {h:Host}{b:List Entry}{m g page need:Int}{io:Bool}(c:SmH h)(a:zbJ h m g=true):Keep h (lookOf h b m g page need io).1:=by have k:=zsj (b:=b) (page:=page) (need:=need) (io:=io) c a;exact⟨k.shape,z7r k.gs,z6z _ _ _ _ _ _ _⟩
theorem zZN {h:Host}{p c v:Int}(a:Shape h):Keep h {h with Memory:=zbD h.Memory p c v}:=⟨zOs a<|zxW a.1.1,rfl,z6y _ _ _ _⟩
theorem zXA {h:Host}{m:Int}(a:Shape h)(b:hasB m (ln h.Mons)=true):Keep h (owned h m):=by obtain⟨c,d⟩:=zco a b;unfold owned;cases ilt (ix h.Mons m mZ).Own 1000000000;{exact Keep.rfl' a};{exact⟨ziC a c d,zQN b rfl,rfl⟩}
theorem zXz {h:Host}{m n:Int}(b:Shape h)(c:hasB m (ln h.Mons)=true):Keep h (zgA h m n):=by obtain⟨a,d⟩:=zco b c;unfold zgA;cases e:ilt (ln (ix h.Mons m mZ).Outs) 40;{exact Keep.rfl' b};{have f:=qD e;simp only[ln]at f;refine⟨ziC b ⟨a.1,a.2.1,a.2.2.1,a.2.2.2.1,?_,a.2.2.2.2.2⟩ d,zQN c rfl,rfl⟩;simp[ap];omega}
theorem zZP {h:Host}{m g:Int}{x:Guest}{w:Int}(d:Shape h)(b:hasB m (ln h.Mons)=true)(e:SmG x):Keep h (zin h m g x w):=by have a:Keep h (zdY h m x w):=(by unfold zdY;cases (cond (ine w 6) (ieq (zkR (ix h.Mons m mZ).Traps x.Ctl.Traps<|ze8 w) 2) false);{exact Keep.rfl' d};{exact zXA d b});have f:Keep (zdY h m x w) (zf4 (zdY h m x w) m x w):=(by unfold zf4;cases (cond (zgv x.Ctl.Traps w) (ieq w 5) false);{exact Keep.rfl' a.shape};{exact zXz a.shape (a.has b)});have c:=a.trans f;exact c.trans (znm c.shape (c.has b)<|zBw _ _ e)
theorem zZO {h:Host}{m g:Int}(f:SmH h)(e:zbJ h m g=true):Keep h (zbt h m g).1:=by obtain⟨l,a,n⟩:=zcY e;have d:=zj0 f a n;have i:=(ze9 f l).1;rw[ziD e];unfold zBz;cases ieq (zD<|gOf h m g) 0;{cases ieq (zD<|gOf h m g) 1;{cases ieq (zD<|gOf h m g) 2;{cases (cond (ieq (zD<|gOf h m g) 3) true<|ieq (zD<|gOf h m g) 4);{exact zZP i a d};{have k:=zAG (b:=h.Buffer) (page:=zbb (address<|gOf h m g)) (need:=zbY (ieq (zD<|gOf h m g) 4)) (io:=false) f e;show Keep h (zfT (zhS h m g (gOf h m g)<|ieq (zD<|gOf h m g) 4) m g (gOf h m g)<|ieq (zD<|gOf h m g) 4);unfold zfT;cases (zhS h m g (gOf h m g)<|ieq (zD<|gOf h m g) 4).2.2;{exact k.trans (znm k.shape (k.has a) d)};{cases ieq (zD<|gOf h m g) 4;{have k:=zAG (b:=h.Buffer) (page:=zbb (address<|gOf h m g)) (need:=zbY false) (io:=false) f e;exact k.trans (znm k.shape (k.has a)<|zJW _ d)};{have k:=zAG (b:=h.Buffer) (page:=zbb (address<|gOf h m g)) (need:=zbY true) (io:=false) f e;have q:=zZN (p:=(zhS h m g (gOf h m g) true).2.1) (c:=zdh (address<|gOf h m g)) (v:=(gOf h m g).A) k.shape;have j:=k.trans q;exact j.trans (znm j.shape (j.has a)<|zla d)}}}};{exact znm i a (zEC d)}};{exact znm i a (zWm d)}};{exact Keep.rfl' i}
structure Same (h r:Host):Prop where
 sm:SmH r
 cnt:cnt r.Mons=cnt h.Mons
 mem:r.Memory.length=h.Memory.length
 st:r=h\/Shape r
theorem Same.rfl' {h:Host}(a:SmH h):Same h h:=⟨a,rfl,rfl,.inl rfl⟩
theorem Same.trans {a b c:Host}(h:Same a b)(k:Same b c):Same a c:=⟨k.sm,k.cnt.trans h.cnt,k.mem.trans h.mem,by
 rcases k.st with e|e
 .rw [e];exact h.st
 .exact .inr e⟩
theorem zuI {h:Host}(m g:Int)(b:SmH h):Same h (zbt h m g).1:=by cases a:zbJ h m g;{rw [zh1 a];exact Same.rfl' b};{have k:=zZO b a;exact⟨k.shape.1,k.cnt,k.mem,.inr k.shape⟩}
def tick (t:Int×Host)(m g:Int):Int×Host:=(cond ((zbt t.2 m g).2) (zI .i64 t.1 1) t.1,(zbt t.2 m g).1)
def zey (m:Int):Nat->Nat->Int×Host->Int×Host
 | 0,_,t=>t
 |n+1,g,t=>zey m n (g+1) (tick t m (g:Int))
def zhH:List Nat->Nat->Int×Host->Int×Host
 |[],_,t=>t
 |c::l,m,t=>zhH l (m+1) (zey (m:Int) c 0 t)
def zjg (h:Host):Int×Host:=zhH (cnt h.Mons) 0 (0,h)
theorem zOq {t:Int×Host}(m g:Int)(a:SmH t.2):Same t.2 (tick t m g).2:=zuI m g a
theorem zxS (m:Int):∀(n g:Nat) (t:Int×Host),SmH t.2->Same t.2 (zey m n g t).2
 | 0,_,_,a=>Same.rfl' a
 |n+1,g,t,a=>(zOq m (g:Int) a).trans (zxS m n (g+1) _ (zOq m (g:Int) a).sm)
theorem zOp:∀(l:List Nat) (m:Nat) (t:Int×Host),SmH t.2->Same t.2 (zhH l m t).2
 |[],_,_,a=>Same.rfl' a
 |c::l,m,t,a=>(zxS (m:Int) c 0 t a).trans (zOp l (m+1) _ (zxS (m:Int) c 0 t a).sm)
theorem zYf {h:Host}(a:SmH h):Same h (zjg h).2:=zOp _ 0 (0,h) a
def z4r:zV:=[(83,zpA),(197,zrn)]++zW1
theorem zsG:zL z4r:=zh zsN (zh zt4 zpj)
theorem zQJ {a b:Bool}(h:(a=true)↔(b=true)):a=b:=by cases a<;>cases b<;>simp_all
@[simp] theorem z8q (x:Int):zi x 0 3=hasB x 4:=zQJ (by rw[zfj];unfold hasB;rw[decide_eq_true_iff];omega)
@[simp] theorem z02 (x:Int):zi x 0 7=hasB x 8:=zQJ (by rw[zfj];unfold hasB;rw[decide_eq_true_iff];omega)
def zeA (t:List Slot)(p:Int)(s:Slot):List Slot:=bif hasB p (ln t) then up t p s else t
@[simp] theorem z8r (t:List Slot)(p:Int)(s:Slot):(zeA t p s).length=t.length:=by unfold zeA;cases hasB p (ln t)<;>simp
@[simp] abbrev zoR (t:List Slot)(p:Int)(s:Slot):Bool:=pc (t.length<=1048576)
@[simp] abbrev zlR (t:List Slot)(p:Int)(s:Slot):List Slot:=zeA t p s
def zwB:Run:=rF3 (dS .slot) dI (dT .slot) λb c d=>(zoR b c d,[aS .slot<|zlR b c d])
def zzV (N:Nat)(a:lS)(b:Int)(c:Slot):OA:=
 (oN (few<|ln<|ap [] a)<|oN (zG b 0<|wsub .i64 (ln a) 1)<|cond (zi b 0<|wsub .i64 (ln a) 1) (oN (inb b<|ln<|ap [] a)<|share (up (ap [] a) b c) λd=>some [aS .slot d])<|some [aS .slot<|ap [] a])
theorem zMp (a:List Slot)(b:Int)(c:Slot)(d:zoR a b c=true):∃N,zzV N a b c=some [aS .slot<|zlR a b c]:=by have e:=zJ.1 d;refine⟨0,?_⟩;unfold zzV oN;refine mu (must rfl (br (λ_=>mu (shr ?_)) λ_=>?_));all_goals first|rfl|(simp only [*,zlR,zeA,cT,cF]<;>rfl)|simp_all[Ty.cells,zlR,zeA]
theorem zFU:vQ 221 zwB:=kF3 zsG zq zo zu (zx []) zMp
def zhO (p n:Int):Bool:=bif zdu p then zi n 0 7 else false
def zrZ (p n:Int):Int:=bif zhO p n then wor .i64 p (zld .i64 1 n) else p
theorem cv7 {n:Int}(h:hasB n 8=true):wcv .u64 n=n/\ile 0 n=true:=by have:=qD h;exact⟨zM8 (by omega) (by omega),qK (by omega)⟩
@[simp] abbrev zka (p n:Int):Bool:=true
@[simp] abbrev zhl (p n:Int):Int:=zrZ p n
@[simp] abbrev zmq (p n:Int):Bool:=zhO p n
def zyM:Run:=rF2 dI dI λb c=>(zka b c,[aI<|zhl b c,aB<|zmq b c])
def zDD (N:Nat)(a b:Int):OA:=
 (oN (zb2 a)<|cond (nB<|zeo a) (some [aI a,aB false])<|oN (zG b 0 7)<|cond (nB<|zi b 0 7) (some [aI a,aB false])<|oN (ile 0<|wcv .u64 b)<|some [aI<|wor .i64 a<|zld .i64 1<|wcv .u64 b,aB true])
theorem zPA (b a:Int)(c:zka b a=true):∃N,zDD N b a=some [aI<|zhl b a,aB<|zmq b a]:=by have d:=@cv7 a;refine⟨0,?_⟩;unfold zDD oN nB;refine must rfl (brN (λ_=>?_) λ_=>must rfl (brN (λ_=>?_) λ_=>mu ?_));all_goals first|rfl|(simp only [*,zhl,zmq,zrZ,zhO,cT,cF]<;>rfl)|simp_all[Ty.cells,zhl,zmq,zrZ,zhO]
theorem zIx:vQ 225 zyM:=kF2 zsG zq zo zu (zx []) zPA
def posts (c:Ctl)(n:Int):Bool:=bif zlm c then (cond (zi n 0 7) (ieq (wand .i64 (zjR .i64 c.Post n) 1) 1) false) else false
@[simp] abbrev zBp (c:Ctl)(n:Int):Bool:=true
@[simp] abbrev zwG (c:Ctl)(n:Int):Bool:=posts c n
def zEr:Run:=rF2 dC dI λb c=>(zBp b c,[aB<|zwG b c])
def zNt (N:Nat)(b:Ctl)(a:Int):OA:=
 (oN (zfZ b)<|cond (zpH b) (oN (zG a 0 7)<|cond (zi a 0 7) (oN (ile 0<|wcv .u64 a)<|some [aB<|ieq (wand .i64 (zjR .i64 b.Post<|wcv .u64 a) 1) 1]) oF) oF)
theorem zUM (b:Ctl)(a:Int)(c:zBp b a=true):∃N,zNt N b a=some [aB<|zwG b a]:=by have d:=@cv7 a;refine⟨0,?_⟩;unfold zNt oN;refine must rfl (br (λ_=>must rfl (br (λ_=>mu ?_) λ_=>?_)) λ_=>?_);all_goals first|rfl|(simp only [*,zwG,posts,cT,cF]<;>rfl)|simp_all[Ty.cells,zwG,posts]
theorem zO1:vQ 302 zEr:=kF2 zsG zq zo zu (zx []) zUM
def zcd (b:Bare)(g:Int):Bool:=bif zbK b then hasB g (ln b.Guests) else false
theorem zdV {b:Bare}{g:Int}:(zcd b g=true)↔zbK b=true/\hasB g (ln b.Guests)=true:=by unfold zcd;cases zbK b<;>simp
@[simp] abbrev zkf (b:Bare)(g:Int):Bool:=zcd b g
def zEs:Run:=rF2 (dT .bare) dI λb c=>(zc5 b c,[aB<|zkf b c])
def zNw (N:Nat)(a:Bare)(b:Int):OA:=
 (oN (zjI a)<|cond (zcE a) (oN (zG b 0<|wsub .i64 (ln a.Guests) 1)<|some [aB<|zi b 0<|wsub .i64 (ln a.Guests) 1]) oF)
theorem zUO (a:Bare)(b:Int)(c:zc5 a b=true):∃N,zNw N a b=some [aB<|zkf a b]:=by have d:=zJ.1 c;have e:a.Guests.length<=1048576:=d.2.1.1;refine⟨0,?_⟩;unfold zNw oN;refine must rfl (br (λ_=>must rfl ?_) λ_=>?_);all_goals first|rfl|(simp only [*,zkf,zcd,cT,cF]<;>rfl)|simp_all[Ty.cells,zkf,zcd]
theorem zO3:vQ 219 zEs:=kF2 zsG zq zo zu (zx []) zUO
def z4s:zV:=[(221,zwB),(225,zyM),(302,zEr),(219,zEs)]++z4r
theorem zkC:zL z4s:=zh zFU (zh zIx<|zh zO1<|zh zO3 zsG)
theorem z3k {b:Type}{l:List b}{i:Int}{d:b}(h:hasB i (ln l)=true):up l i (ix l i d)=l:=by obtain⟨k,rfl,a⟩:=zd0 (n:=l.length) h;unfold up;rw[zba a,kY];exact vA a
theorem zsK {b:Bare}{g:Int}(h:hasB g (ln b.Guests)=true):gAt b g=ix b.Guests g zl:=by unfold gAt;rw[h];rfl
theorem z0D {b:Bare}{g:Int}(h:hasB g (ln b.Guests)=true):zdS b g (gAt b g)=b:=by unfold zdS;rw[zsK h,z3k h]
def chg (b:Bare)(g:Int)(c:Bool)(x:Guest):Bare:=bif (cond (zcd b g) c false) then zdS b g x else b
def zcb (b:Bare)(g:Int)(c:Bool):Bool:=bif zcd b g then c else false
def zvk (p:Int)(s:Slot):Bool:=bif hasB p 4 then zdT s 8 else false
def zBt (x:Guest)(p:Int)(s:Slot):Guest:={x with Written:=zeA x.Written p s}
def zeb (x:Guest)(p:Int):Guest:={x with Live:=zeA x.Live p (zbn x.Written p)}
def zkO:GExit:=⟨0,0,false,0⟩
def zuW (x:Guest)(v:Int):Bool:=bif zi v 0 99 then (cond (ieq x.Exit.Kind 2) true<|ieq x.Exit.Kind 3) else false
def zwW (x:Guest)(v:Int):Guest:=zbT (stopped (cond (ieq x.Exit.Kind 2) {x with A:=v} x) zkO)
def zA8 (x:Guest):Bool:=bif ieq x.Exit.Kind 1 then true else ieq x.Exit.Kind 4
def zxL (x:Guest):Guest:=bif ieq x.Exit.Kind 1 then stopped x zkO else held (stopped x zkO)
def znU (x:Guest)(n:Int):Guest:={x with Pending:=zrZ x.Pending n}
def zKx (x:Guest)(c:Ctl):Guest:={x with Ctl:=c}
theorem z6r {x:Guest}{n:Int}(h:zhO x.Pending n=false):znU x n=x:=by unfold znU zrZ;rw[h];rfl
theorem z2Y {x:Guest}(p:Int)(s:Slot)(h:SmG x):SmG (zBt x p s):=⟨h.1,by simpa [zBt] using h.2.1,h.2.2.1,h.2.2.2⟩
theorem zJV {x:Guest}(p:Int)(h:SmG x):SmG (zeb x p):=⟨h.1,h.2.1,by simpa [zeb] using h.2.2.1,h.2.2.2⟩
theorem z2W {x:Guest}(v:Int)(h:SmG x):SmG (zwW x v):=by unfold zwW;cases ieq x.Exit.Kind 2<;>exact zla h
theorem z2X {x:Guest}(h:SmG x):SmG (zxL x):=by unfold zxL;cases ieq x.Exit.Kind 1;{exact zTl (g:=stopped x zkO) h};{exact h}
theorem zpO {b:Bare}{g:Int}{c:Bool}{x:Guest}(h:SmB b)(a:SmG x):SmB (chg b g c x):=by unfold chg;cases (cond (zcd b g) c false);{exact h};{exact zna h a}
@[simp] abbrev zqn (b:Bare)(g p:Int)(s:Slot):Bool:=pc (SmB b)
@[simp] abbrev zeD (b:Bare)(g p:Int)(s:Slot):Bare:=chg b g (zvk p s) (zBt (gAt b g) p s)
@[simp] abbrev zfz (b:Bare)(g p:Int)(s:Slot):Bool:=zcb b g (zvk p s)
def zrm:Run:=rF4 (dT .bare) dI dI (dT .slot) λb c d e=>(zqn b c d e,[aT .bare<|zeD b c d e,aB<|zfz b c d e])
def zDo (N:Nat)(f:Bare)(b c:Int)(d:Slot):OA:=
 let a:=zby f;let e:=ix a.Guests b zl; (oN (zci f)<|oN (zc5 a b)<|cond (nB<|zkf a b) (some [aT .bare a,aB false])<|oN (zG c 0 3)<|cond (nB<|zi c 0 3) (some [aT .bare a,aB false])<|oN (zlQ d 8)<|cond (nB<|ziy d 8) (some [aT .bare a,aB false])<|oN (inb b<|ln a.Guests)<|oN (zoR e.Written c d)<|oN (inb b<|ln a.Guests)<|share (up a.Guests b ({e with Written:=(zlR e.Written c d)}:Guest)) λg=>some [aT .bare ({a with Guests:=g}:Bare),aB true])
theorem zPn (b:Bare)(a c:Int)(d:Slot)(e:zqn b a c d=true):∃N,zDo N b a c d=some [aT .bare<|zeD b a c d,aB<|zfz b a c d]:=by
 have f:=zJ.1 e;have g:=zje a f;have k:zcd b a=true->hasB a (ln b.Guests)=true:=λh=>(zdV.1 h).2;have i:zcd b a=true->gAt b a=ix b.Guests a zl:=λh=>zsK (zdV.1 h).2;have j:=g.2.1;refine⟨0,?_⟩;unfold zDo oN nB;conv=>zeta
 refine mu (mu<|brN (λ_=>?_) λ_=>must rfl (brN (λ_=>?_) λ_=>must rfl (brN (λ_=>?_) λ_=>mu (mu<|mu<|shr ?_))));all_goals first|rfl|(simp only [*,zeD,zfz,chg,zcb,zvk,zBt,zdS,cT,cF]<;>rfl)|simp_all[Ty.cells,zeD,zfz,chg,zcb,zvk,zBt,zdS]
theorem zt3:vQ 104 zrm:=kF4 zkC zq zo zu (zx []) zPn
@[simp] abbrev zru (b:Bare)(g p:Int):Bool:=pc (SmB b)
@[simp] abbrev zfb (b:Bare)(g p:Int):Bare:=chg b g (hasB p 4) (zeb (gAt b g) p)
@[simp] abbrev zh0 (b:Bare)(g p:Int):Bool:=zcb b g (hasB p 4)
def zn9:Run:=rF3 (dT .bare) dI dI λb c d=>(zru b c d,[aT .bare<|zfb b c d,aB<|zh0 b c d])
def zyb (N:Nat)(f:Bare)(d b:Int):OA:=
 let a:=zby f;let e:=inb d<|ln a.Guests;let c:=ix a.Guests d zl; (oN (zci f)<|oN (zc5 a d)<|cond (nB<|zkf a d) (some [aT .bare a,aB false])<|oN (zG b 0 3)<|cond (nB<|zi b 0 3) (some [aT .bare a,aB false])<|oN e<|oN e<|oN (zeN c.Written b)<|oN (zoR c.Live b<|zd7 c.Written b)<|oN e<|share (up a.Guests d ({c with Live:=(zlR c.Live b<|zd7 c.Written b)}:Guest)) λg=>some [aT .bare ({a with Guests:=g}:Bare),aB true])
theorem zI9 (b:Bare)(a c:Int)(d:zru b a c=true):∃N,zyb N b a c=some [aT .bare<|zfb b a c,aB<|zh0 b a c]:=by
 have e:=zJ.1 d;have f:=zje a e;have j:zcd b a=true->hasB a (ln b.Guests)=true:=λh=>(zdV.1 h).2;have g:zcd b a=true->gAt b a=ix b.Guests a zl:=λh=>zsK (zdV.1 h).2;have i:=f.2.2.1;refine⟨0,?_⟩;unfold zyb oN nB;conv=>zeta
 refine mu (mu<|brN (λ_=>?_) λ_=>must rfl (brN (λ_=>?_) λ_=>mu (mu (must rfl (mu<|mu<|shr ?_)))));all_goals first|rfl|(simp only [*,zfb,zh0,chg,zcb,zeb,zdS,cT,cF]<;>rfl)|simp_all[Ty.cells,zfb,zh0,chg,zcb,zeb,zdS]
theorem zrF:vQ 105 zn9:=kF3 zkC zq zo zu (zx []) zI9
@[simp] abbrev zlM (b:Bare)(g v:Int):Bool:=pc (SmB b)
@[simp] abbrev zdk (b:Bare)(g v:Int):Bare:=chg b g (zuW (gAt b g) v) (zwW (gAt b g) v)
@[simp] abbrev zeh (b:Bare)(g v:Int):Bool:=zcb b g (zuW (gAt b g) v)
def zm1:Run:=rF3 (dT .bare) dI dI λb c d=>(zlM b c d,[aT .bare<|zdk b c d,aB<|zeh b c d])
def zvy (N:Nat)(i:Bare)(b e:Int):OA:=
 let a:=zby i;let h:=inb b<|ln a.Guests;let d:=(⟨0,0,false,0⟩:GExit);let c:=ix a.Guests b zl;let g:=({c with A:=e}:Guest); (oN (zci i)<|oN (zc5 a b)<|cond (nB<|zkf a b) (some [aT .bare a,aB false])<|oN (zG e 0 99)<|cond (nB<|zi e 0 99) (some [aT .bare a,aB false])<|oN h<|cond (ieq c.Exit.Kind 2) (oN (zcB g d)<|oN (zK<|zck g d)<|oN h<|share (up a.Guests b<|zb5<|zck g d) λf=>some [aT .bare ({a with Guests:=f}:Bare),aB true])<|cond (ieq c.Exit.Kind 3) (oN (zcB c d)<|oN (zK<|zck c d)<|oN h<|share (up a.Guests b<|zb5<|zck c d) λf=>some [aT .bare ({a with Guests:=f}:Bare),aB true])<|some [aT .bare a,aB false])
theorem zF4 (b:Bare)(a c:Int)(d:zlM b a c=true):∃N,zvy N b a c=some [aT .bare<|zdk b a c,aB<|zeh b a c]:=by
 have e:=zJ.1 d;have f:=zje a e;have j:zcd b a=true->hasB a (ln b.Guests)=true:=λh=>(zdV.1 h).2;have g:zcd b a=true->gAt b a=ix b.Guests a zl:=λh=>zsK (zdV.1 h).2;have i:_/\_/\_/\_:=f;refine⟨0,?_⟩;unfold zvy oN nB;conv=>zeta
 refine mu (mu<|brN (λ_=>?_) λ_=>must rfl (brN (λ_=>?_) λ_=>mu (br (λ_=>mu (mu<|mu<|shr ?_)) λ_=>br (λ_=>mu (mu<|mu<|shr ?_)) λ_=>?_)));all_goals first|rfl|(simp only [*,zdk,zeh,chg,zcb,zuW,zwW,zkO,zdS,SmG,stopped,cT,cF]<;>rfl)|simp_all[Ty.cells,zdk,zeh,chg,zcb,zuW,zwW,zkO,zdS,SmG,stopped]
theorem zqL:vQ 106 zm1:=kF3 zkC zq zo zu (zx []) zF4
@[simp] abbrev zdm (b:Bare)(g:Int):Bare:=chg b g (zA8<|gAt b g) (zxL<|gAt b g)
@[simp] abbrev zej (b:Bare)(g:Int):Bool:=zcb b g (zA8<|gAt b g)
def zm3:Run:=rF2 (dT .bare) dI λb c=>(zc5 b c,[aT .bare<|zdm b c,aB<|zej b c])
def zvA (N:Nat)(g:Bare)(c:Int):OA:=
 let a:=zby g;let f:=inb c<|ln a.Guests;let d:=(⟨0,0,false,0⟩:GExit);let b:=ix a.Guests c zl; (oN (zci g)<|oN (zc5 a c)<|cond (nB<|zkf a c) (some [aT .bare a,aB false])<|oN f<|cond (ieq b.Exit.Kind 1) (oN (zcB b d)<|oN f<|share (up a.Guests c<|zck b d) λe=>some [aT .bare ({a with Guests:=e}:Bare),aB true])<|cond (ieq b.Exit.Kind 4) (oN (zcB b d)<|oN (zK<|zck b d)<|oN f<|share (up a.Guests c<|zjX<|zck b d) λe=>some [aT .bare ({a with Guests:=e}:Bare),aB true])<|some [aT .bare a,aB false])
theorem zF6 (b:Bare)(a:Int)(c:zc5 b a=true):∃N,zvA N b a=some [aT .bare<|zdm b a,aB<|zej b a]:=by
 have d:=zJ.1 c;have e:=zje a d;have i:zcd b a=true->hasB a (ln b.Guests)=true:=λh=>(zdV.1 h).2;have f:zcd b a=true->gAt b a=ix b.Guests a zl:=λh=>zsK (zdV.1 h).2;have g:_/\_/\_/\_:=e;refine⟨0,?_⟩;unfold zvA oN nB;conv=>zeta
 refine mu (mu<|brN (λ_=>?_) λ_=>mu (br (λ_=>mu (mu<|shr ?_)) λ_=>br (λ_=>mu (mu<|mu<|shr ?_)) λ_=>?_));all_goals first|rfl|(simp only [*,zdm,zej,chg,zcb,zA8,zxL,zkO,zdS,SmG,stopped,cT,cF]<;>rfl)|simp_all[Ty.cells,zdm,zej,chg,zcb,zA8,zxL,zkO,zdS,SmG,stopped]
theorem zqN:vQ 107 zm3:=kF2 zkC zq zo zu (zx []) zF6
theorem z7o {b:Bare}{g:Int}{c:Bool}{x:Guest}(h:zcd b g=false):chg b g c x=b:=by unfold chg;rw[h];rfl
theorem z5E {b:Bare}{g n:Int}(h:zcd b g=true):chg b g (zhO (gAt b g).Pending n) (znU (gAt b g) n)=zdS b g (znU (gAt b g) n):=by unfold chg;rw[h];cases a:zhO (gAt b g).Pending n;{rw [z6r a,z0D (zdV.1 h).2];rfl};{rfl}
@[simp] abbrev zlN (b:Bare)(g n:Int):Bool:=pc (SmB b)
@[simp] abbrev zdl (b:Bare)(g n:Int):Bare:=chg b g (zhO (gAt b g).Pending n) (znU (gAt b g) n)
@[simp] abbrev zei (b:Bare)(g n:Int):Bool:=zcb b g (zhO (gAt b g).Pending n)
def zm2:Run:=rF3 (dT .bare) dI dI λb c d=>(zlN b c d,[aT .bare<|zdl b c d,aB<|zei b c d])
def zvz (N:Nat)(e:Bare)(b d:Int):OA:=
 let a:=zby e;let c:=ix a.Guests b zl; (oN (zci e)<|oN (zc5 a b)<|cond (nB<|zkf a b) (some [aT .bare a,aB false])<|oN (inb b<|ln a.Guests)<|oN (zka c.Pending d)<|oN (inb b<|ln a.Guests)<|share (up a.Guests b ({c with Pending:=(zhl c.Pending d)}:Guest)) λf=>some [aT .bare ({a with Guests:=f}:Bare),aB<|zmq c.Pending d])
theorem zF5 (a:Bare)(b c:Int)(d:zlN a b c=true):∃N,zvz N a b c=some [aT .bare<|zdl a b c,aB<|zei a b c]:=by
 have i:=zJ.1 d;have j:zcd a b=true->hasB b (ln a.Guests)=true:=λh=>(zdV.1 h).2;have f:zcd a b=true->gAt a b=ix a.Guests b zl:=λh=>zsK (zdV.1 h).2;have g:=@z5E a b c;have e:=@z7o a b (zhO (gAt a b).Pending c) (znU (gAt a b) c);refine⟨0,?_⟩;unfold zvz oN nB;conv=>zeta
 refine mu (mu<|brN (λ_=>?_) λ_=>mu (must rfl (mu<|shr ?_)));all_goals first|rfl|(simp only [*,zdl,zei,zcb,zdS,znU,cT,cF]<;>rfl)|simp_all[Ty.cells,zdl,zei,zcb,zdS,znU]
theorem zqM:vQ 108 zm2:=kF3 zkC zq zo zu (zx []) zF5
@[simp] abbrev zqm (b:Bare)(g:Int)(c:Ctl):Bool:=pc (SmB b)
@[simp] abbrev zeC (b:Bare)(g:Int)(c:Ctl):Bare:=chg b g (zlm c) (zKx (gAt b g) c)
@[simp] abbrev zfy (b:Bare)(g:Int)(c:Ctl):Bool:=zcb b g (zlm c)
def zrl:Run:=rF3 (dT .bare) dI dC λb c d=>(zqm b c d,[aT .bare<|zeC b c d,aB<|zfy b c d])
def zDn (N:Nat)(d:Bare)(b:Int)(c:Ctl):OA:=
 let a:=zby d; (oN (zci d)<|oN (zc5 a b)<|cond (nB<|zkf a b) (some [aT .bare a,aB false])<|oN (zfZ c)<|cond (nB<|zpH c) (some [aT .bare a,aB false])<|oN (inb b<|ln a.Guests)<|share (up a.Guests b ({ (ix a.Guests b zl) with Ctl:=c}:Guest)) λe=>some [aT .bare ({a with Guests:=e}:Bare),aB true])
theorem zPm (a:Bare)(b:Int)(c:Ctl)(d:zqm a b c=true):∃N,zDn N a b c=some [aT .bare<|zeC a b c,aB<|zfy a b c]:=by
 have f:=zJ.1 d;have g:zcd a b=true->hasB b (ln a.Guests)=true:=λh=>(zdV.1 h).2;have e:zcd a b=true->gAt a b=ix a.Guests b zl:=λh=>zsK (zdV.1 h).2;refine⟨0,?_⟩;unfold zDn oN nB;conv=>zeta
 refine mu (mu<|brN (λ_=>?_) λ_=>must rfl (brN (λ_=>?_) λ_=>mu (shr ?_)));all_goals first|rfl|(simp only [*,zeC,zfy,chg,zcb,zKx,zdS,cT,cF]<;>rfl)|simp_all[Ty.cells,zeC,zfy,chg,zcb,zKx,zdS]
theorem zt2:vQ 109 zrl:=kF3 zkC zq zo zu (zx []) zPm
def z5a (p c v:Int):Bool:=bif hasB p 8 then (cond (hasB c 4) (zi v 0 99) false) else false
def zwc (b:Bare)(p c v:Int):Bool:=bif zbK b then z5a p c v else false
def zQf (b:Bare)(p c v:Int):Bare:=bif zwc b p c v then {b with Memory:=zbD b.Memory p c v} else b
def zmS (b:Bare):Bare:=bif zbK b then {b with Pending:=zhZ b.Pending} else b
def zsx (b:Bare):Int:=bif zbK b then znV b.Pending else -1
def zmz (b:Bare):Bool:=bif zbK b then !ilt (zdU b.Pending) 0 else false
def znJ (b:Bare)(g a n:Int):Bool:=bif zcd b g then (cond (zi a 0 15) (zez (gAt b g).Live (zbb a) n) false) else false
def zBQ (b:Bare)(g a n:Int):Int:=zb4 (gAt b g).Live (zbb a) n
def zxa (b:Bare)(g a v:Int):Bool:=bif znJ b g a 2 then zi v 0 99 else false
def zXe (b:Bare)(g a v:Int):Bare:=bif zxa b g a v then {b with Memory:=zbD b.Memory (zBQ b g a 2) (zdh a) v} else b
def zQj (b:Bare)(g a:Int):Int:=bif znJ b g a 1 then cellAt b.Memory (zBQ b g a 1) (zdh a) else 0
@[simp] abbrev ze2 (b:Bare):Bare:=zmS b
@[simp] abbrev zgm (b:Bare):Int:=zsx b
@[simp] abbrev zgn (b:Bare):Bool:=zmz b
def zrk:Run:=rF1 (dT .bare) λb=>(zci b,[aT .bare<|ze2 b,aI<|zgm b,aB<|zgn b])
def zDm (N:Nat)(b:Bare):OA:=
 let a:=zby b; (oN (zci b)<|oN (zjI a)<|cond (nB<|zcE a) (some [aT .bare a,aI<|-1,aB false])<|oN (zb2 a.Pending)<|some [aT .bare ({a with Pending:=(zfB a.Pending)}:Bare),aI<|zfC a.Pending,aB<|zhn a.Pending])
theorem zPl (a:Bare)(b:zci a=true):∃N,zDm N a=some [aT .bare<|ze2 a,aI<|zgm a,aB<|zgn a]:=by
 have c:=zJ.1 b;refine⟨0,?_⟩;unfold zDm oN nB;conv=>zeta
 refine mu (must rfl (brN (λ_=>?_) λ_=>must rfl ?_));all_goals first|rfl|(simp only [*,ze2,zgm,zgn,zmS,zsx,zmz,zhZ,znV,cT,cF]<;>rfl)|simp_all[Ty.cells,ze2,zgm,zgn,zmS,zsx,zmz,zhZ,znV]
theorem zt1:vQ 113 zrk:=kF1 zkC zq zo zu (zx []) zPl
def z4t:zV:=z4s
theorem zQ5:zL z4t:=zkC
def zev (l:List Guest)(n:Int):List Int:=idxs (λ(x:Guest)=>posts x.Ctl n) l 0
theorem zRK {d:Type}(p:d->Bool):∀(l:List d) (i:Nat),∀k∈idxs p l i,(i:Int)<=k/\k<(i:Int)+l.length
 |[],_,k,a=>by cases a
 |x::l,i,k,a=>by have c:=zRK p l (i+1);simp only[qV];unfold idxs at a;cases b:p x;{rw [b]at a;have:=c k a;omega};{rw [b]at a;rcases qG.1 a with rfl|a;{omega};{have:=c k a;omega}}
@[simp] abbrev zlP (b:Bare)(n:Int):List Int:=zev b.Guests n
def zww:Run:=rF2 (dT .bare) dI λb c=>(zfL b c,[aS .int<|zlP b c])
def zzM (N:Nat)(c:Bare)(f:Int):OA:=
 (iter (σ:=(Int×Int×Int×(List Int)×lM×lG×(List Int)×Unit)) N (λd a=>let b:=a.2.2.2.2.2.1;let e:=(ix b a.2.1 zl).Ctl; (cond (ilt a.2.1<|ln b) (oN (inb a.2.1<|ln b)<|oN (zBp e a.1)<|cond (zwG e a.1) (oN (few<|ln<|ap a.2.2.2.1 [a.2.1])<|d (a.1,zI .i64 a.2.1 1,a.2.2.1,ap a.2.2.2.1 [a.2.1],a.2.2.2.2.1,b,a.2.2.2.2.2.2.1,()))<|d (a.1,zI .i64 a.2.1 1,a.2.2.1,a.2.2.2.1,a.2.2.2.2.1,b,a.2.2.2.2.2.2.1,()))<|some [aS .int a.2.2.2.1])) (f,0,c.Pending,[],c.Memory,c.Guests,c.Outs,()))
def zMY:=zx [(227,0,{n:=28,tm:=[(1,ti),(2,.lp 0 0),(5,.sl 0 []),(6,ti)],lo:=[(0,[.sl 1 [],.sl 2 [],.sl 3 [],ti])],ro:=[(0,.int,true),(1,.sl .int,false),(2,.guest,false),(3,.int,false)]})]
theorem zMg (a:Bare)(b:Int)(g:zfL a b=true):∃N,zzM N a b=some [aS .int<|zlP a b]:=by
 have h:=zJ.1 g;have e:=zcu h.2.1.1;refine zbZ λN d=>?_;unfold zzM oN;conv=>zeta
 refine(zX a.Guests (λi (t:(List Int))=>(b,(i:Int),a.Pending,t,a.Memory,a.Guests,a.Outs,())) _ (λi (x:Guest) (t:List Int) f=>bif posts x.Ctl b then (cond (few<|ln<|ap t [(i:Int)]) (f<|ap t [(i:Int)]) none) else f t) (λ(t:(List Int))=>some [.one<|.s .int t]) (λi c t rec=>?_) (λt rec=>?_) _ ([])<|d e.1).trans ?_;{simp only [zbq c,zS c,zba c,zQ c e.1,cT]};{simp only [zbl,cF]};exact zsM (λ(x:Guest)=>posts x.Ctl b) _ a.Guests 0 [] (by simpa using e.2)
theorem zFK:vQ 227 zww:=kF2 zQ5 zq zo zu zMY zMg
def z4u:zV:=[(227,zww)]++z4t
theorem zQ6:zL z4u:=zh zFK zQ5
def zCa (n:Int)(l:List Guest)(k:Int):List Guest:=up l k (znU (ix l k zl) n)
def zlA (n:Int)(a:List Int)(l:List Guest):List Guest:=a.foldl (zCa n) l
theorem zA5 (n:Int)(l:List Guest)(k:Int):(zCa n l k).length=l.length:=zg5 _ _ _
theorem zYl {n:Int}{l:List Guest}{k:Int}(a:hasB k (ln l)=true)(h:zmR l):zmR (zCa n l k):=zCd h (zTm h a _)
theorem zBx {n:Int}:∀(a:List Int) {l:List Guest},(∀k∈a,hasB k (ln l)=true)->zmR l->zmR (zlA n a l)/\(zlA n a l).length=l.length
 |[],_,_,h=>⟨h,rfl⟩
 |k::a,l,b,h=>by have e:=zYl (n:=n) (b k (by simp)) h;obtain⟨c,d⟩:=zBx (n:=n) a (l:=zCa n l k) (λj f=>by rw[ln,zA5];exact b j (by simp[f])) e;exact⟨c,d.trans<|zA5 _ _ _⟩
theorem zRt {e:Type}(n:Int)(K:List Guest->Option e):∀(a:List Int) (i:Nat) (l:List Guest),(∀k∈a,hasB k (ln l)=true)->
 goL (λ_ k (t:List Guest) d=>bif inb k (ln t) then (cond (inb k<|ln t) (d<|up t k<|znU (ix t k zl) n) none) else none) K a i l=K (zlA n a l)
 |[],_,_,_=>rfl
 |k::a,i,l,h=>by have c:inb k (ln l)=true:=h k (by simp);simp only[goL,c,cT];exact zRt n K a (i+1) (zCa n l k) (λj b=>by rw[ln,zA5];exact h j (by simp[b]))
def zCb (b:Bare)(n:Int):Bare:=bif ieq (ln<|zev b.Guests n) 0 then {b with Pending:=zrZ b.Pending n} else {b with Guests:=zlA n (zev b.Guests n) b.Guests}
def zfW (b:Bare)(n:Int):Bool:=bif zbK b then hasB n 8 else false
def zkn (b:Bare)(n:Int):Bare:=bif zfW b n then zCb b n else b
theorem zJA {b:Bare}{n:Int}:∀k∈zev b.Guests n,hasB k (ln b.Guests)=true:=λk a=>by have:=zRK _ _ _ k a;exact qK (by simp only[ln];omega)
theorem zXX {b:Bare}{n:Int}(h:ieq (ln<|zev b.Guests n) 0=true):zlA n (zev b.Guests n) b.Guests=b.Guests:=by have a:((zev b.Guests n).length:Int)=0:=qD h;have:zev b.Guests n=[]:=uY.1 (by omega);rw[this];rfl
theorem zXW {b:Bare}{n:Int}:(cond (ieq (ln<|zev b.Guests n) 0) (some [AV.agg<|Ty.cells .bare ⟨b.Memory,zlA n (zev b.Guests n) b.Guests,b.Outs,zrZ b.Pending n⟩,AV.one<|.b true])<|some [AV.agg<|Ty.cells .bare ⟨b.Memory,zlA n (zev b.Guests n) b.Guests,b.Outs,b.Pending⟩,AV.one<|.b true])=some [AV.agg<|Ty.cells .bare<|zCb b n,AV.one<|.b true]:=by unfold zCb;cases h:ieq (ln<|zev b.Guests n) 0;{rfl};{simp only [cT,zXX h]}
@[simp] abbrev ze3 (b:Bare)(n:Int):Bare:=zkn b n
@[simp] abbrev zgE (b:Bare)(n:Int):Bool:=zfW b n
def zpC:Run:=rF2 (dT .bare) dI λb c=>(zfL b c,[aT .bare<|ze3 b c,aB<|zgE b c])
def zzD (N:Nat)(i:Bare)(e:Int):OA:=
 let b:=zby i; (oN (zci i)<|oN (zjI b)<|cond (nB<|zcE b) (some [aT .bare b,aB false])<|oN (zG e 0 7)<|cond (nB<|zi e 0 7) (some [aT .bare b,aB false])<|oN (zfL b e)<|iter (σ:=(Int×Int×Int×Int×(List Int)×lM×lG×(List Int)×lM×lG×(List Int)×Unit)) N (λj a=>let h:=a.2.2.2.2.2.2.2.1;let d:=a.2.2.2.2.1;let c:=a.2.2.2.2.2.2.1;let f:=ix d a.2.1 0;let g:=ix c f zl; (cond (ilt a.2.1<|ln d) (oN (inb a.2.1<|ln d)<|oN (inb a.2.1<|ln d)<|oN (inb f<|ln c)<|oN (zka g.Pending a.1)<|oN (inb f<|ln c)<|j (a.1,zI .i64 a.2.1 1,a.2.2.1,a.2.2.2.1,d,a.2.2.2.2.2.1,up c f ({g with Pending:=(zhl g.Pending a.1)}:Guest),h,a.2.2.2.2.2.2.2.2.1,a.2.2.2.2.2.2.2.2.2.1,a.2.2.2.2.2.2.2.2.2.2.1,()))<|cond (ieq (ln d) 0) (oN (zka a.2.2.1 a.1)<|some [aT .bare (⟨a.2.2.2.2.2.1,c,h,zhl a.2.2.1 a.1⟩:Bare),aB true])<|some [aT .bare (⟨a.2.2.2.2.2.1,c,h,a.2.2.1⟩:Bare),aB true])) (e,0,b.Pending,0,zlP b e,b.Memory,b.Guests,b.Outs,[],[],[],()))
def zMT:=zx [(112,0,{n:=62,tm:=[(1,ti),(2,.lp 0 0),(4,.lp 1 0),(6,.sl 0 []),(7,ti)],lo:=[(0,[.sl 1 [],.sl 2 [],.sl 3 [],ti]),(1,[.sl 4 [],.sl 5 [],.sl 6 [],ti])],ro:=[(0,.int,true),(1,.sl .int,true),(2,.guest,true),(3,.int,true),(4,.sl .int,true),(5,.guest,true),(6,.int,true)]})]
theorem zL7 (a:Bare)(c:Int)(l:zfL a c=true):∃N,zzD N a c=some [aT .bare<|ze3 a c,aB<|zgE a c]:=by
 have h:=zJ.1 l;have j:(zev a.Guests c).length<=big:=jC (zxw _ _ _) (zcu h.2.1.1).1;refine zbZ λN g=>?_;unfold zzD ze3 zgE zkn zfW oN nB;conv=>zeta
 refine must (zbo h) (must rfl (brN (λe=>?_) λe=>must rfl (brN (λd=>?_) λd=>must (zbo h) ?_)));{simp only [show zbK a=false from e,cF]};{simp only [show zbK a=true from e,show hasB c 8=false from by first|exact d|exact(z02 c).symm.trans d,cT,cF]};simp only[show zbK a=true from e,show hasB c 8=true from by first|exact d|exact(z02 c).symm.trans d,cT];refine(zX (zlP (zby a) c) (λi (t:lG)=>(c,(i:Int),(zby a).Pending,0,zlP (zby a) c,(zby a).Memory,t,(zby a).Outs,[],[],[],())) _ (λ_ k (t:List Guest) m=>bif inb k (ln t) then (cond (inb k<|ln t) (m<|up t k<|znU (ix t k zl) c) none) else none) (λ(t:lG)=>cond (ieq (ln<|zlP (zby a) c) 0) (cond (zka (zby a).Pending c) (some [.agg<|Ty.cells .bare (⟨(zby a).Memory,t,(zby a).Outs,zhl (zby a).Pending c⟩:Bare),.one<|.b true]) none)<|some [.agg<|Ty.cells .bare (⟨(zby a).Memory,t,(zby a).Outs,(zby a).Pending⟩:Bare),.one<|.b true]) (λi f t rec=>?_) (λt rec=>?_) _ ((zby a).Guests)<|g j).trans ?_;{simp only [zbq f,zS f,zba f,zQ f j,cT];rfl};{simp only [zbl,cF];rfl};exact(zRt c _ _ 0 _ zJA).trans zXW
theorem zsP:vQ 112 zpC:=kF2 zQ6 zq zo zu zMT zL7
end
end Go.Proofs.YtgjpbkhaaiffkaaGreat.E
namespace Go.Proofs
open Go Go.Shelf
end Go.Proofs
namespace Go.Proofs.YtgjpbkhaaiffkaaGreat.E
open Go
set_option linter.constructorNameAsVariable false
set_option linter.unusedVariables false
set_option maxRecDepth 100000
set_option linter.unusedSimpArgs false
set_option linter.unusedSectionVars false
noncomputable section
section
open Go Go.RowKit Go.Proofs
section
variable {P:Program}
end
end
def zYT:zV:=[(104,zrm),(105,zn9),(106,zm1),(107,zm3),(108,zm2),(109,zrl),(113,zrk),(112,zpC)]++z4u
theorem zz8:zL zYT:=zh zt3 (zh zrF<|zh zqL<|zh zqN<|zh zqM<|zh zt2<|zh zt1<|zh zsP zQ6)
theorem z0V {n:Int}(h:(ieq n 4||ieq n 8)=true):n=4\/n=8:=by rcases kA _ _ ▸ h with h|h;{exact .inl (qD h)};{exact .inr (qD h)}
theorem zZ2 {n:Int}(h:(ieq n 8||ieq n 12)=true):n=8\/n=12:=by rcases kA _ _ ▸ h with h|h;{exact .inl (qD h)};{exact .inr (qD h)}
@[simp] abbrev zi8 (n:Int):Bool:=ieq n 4||ieq n 8
@[simp] abbrev zhc (n:Int):List Slot:=List.replicate n.toNat ⟨-1,0⟩
def zpF:Run:=rF1 dI λb=>(zi8 b,[aS .slot<|zhc b])
def zQv (N:Nat)(b:Int):OA:=
 (oN (zqo b 0 24)<|iter (σ:=(Int×lS×Unit)) N (λc a=>cond (igt a.1 0) (oN zbA<|oN (few<|ln<|ap a.2.1 [zU])<|c (wsub .i64 a.1 1,ap a.2.1 [zU],()))<|some [aS .slot a.2.1]) (zqV b 0 24,[],()))
def zM0:=zx [(198,0,{n:=17,tm:=[(3,.sl 0 []),(4,ti)],lo:=[],ro:=[(0,.slot,true)]})]
theorem zMm (a:Int)(b:zi8 a=true):∃N,zQv N a=some [aS .slot<|zhc a]:=by refine⟨30,?_⟩;have h:a=4\/a=8:=z0V b;rcases h with rfl|rfl<;>(change _=_;kernel_rfl)
theorem zsR:vQ 198 zpF:=kF1 zz8 zq zo zu zM0 zMm
@[simp] abbrev zoJ (n:Int):Bool:=ieq n 8||ieq n 12
@[simp] abbrev zjK (n:Int):List (List Int):=List.replicate n.toNat [0,0,0,0]
def ztc:Run:=rF1 dI λb=>(zoJ b,[aS (.sl .int)<|zjK b])
def zWH (N:Nat)(b:Int):OA:=
 (oN (zqo b 0 24)<|iter (σ:=(Int×lM×Unit)) N (λc a=>cond (igt a.1 0) (oN (cond (few 4) (ieq 4 4) false)<|oN (few<|ln<|ap a.2.1 [rp 4 0])<|c (wsub .i64 a.1 1,ap a.2.1 [rp 4 0],()))<|some [aS (.sl .int) a.2.1]) (zqV b 0 24,[],()))
def zTQ:=zx [(98,0,{n:=17,tm:=[(3,.sl 0 []),(4,ti)],lo:=[],ro:=[(0,.sl .int,true)]})]
theorem zSi (a:Int)(b:zoJ a=true):∃N,zWH N a=some [aS (.sl .int)<|zjK a]:=by refine⟨30,?_⟩;have h:a=8\/a=12:=zZ2 b;rcases h with rfl|rfl<;>(change _=_;kernel_rfl)
theorem zvT:vQ 98 ztc:=kF1 zz8 zq zo zu zTQ zSi
def zYU:zV:=[(198,zpF),(98,ztc)]++zYT
theorem zNI:zL zYU:=zh zsR (zh zvT zz8)
def zk9:List Slot:=List.replicate 4 ⟨-1,0⟩
def zfh (p:List Ins):Guest:=⟨p,0,0,zk9,zk9,⟨0,0,false⟩,0,⟨0,0,false,0⟩,false,[]⟩
@[simp] abbrev zoD (p:List Ins):Bool:=pc (p.length<=1048576)
@[simp] abbrev zoC (p:List Ins):Guest:=zfh p
def zpD:Run:=rF1 (dS .ins) λb=>(zoD b,[aT .guest<|zoC b])
def zzG (N:Nat)(a:lI):OA:=
 (oN (few<|ln<|ap [] a)<|oN (zi8 4)<|oN (zi8 4)<|some [aT .guest (⟨ap [] a,0,0,zhc 4,zhc 4,⟨0,0,false⟩,0,⟨0,0,false,0⟩,false,[]⟩:Guest)])
theorem zMa (a:List Ins)(b:zoD a=true):∃N,zzG N a=some [aT .guest<|zoC a]:=by have c:=zJ.1 b;refine⟨0,?_⟩;unfold zzG oN;refine mu (must rfl (must rfl ?_));first|rfl|(simp only [*,zoC,zfh,zk9,cT,cF]<;>rfl)|simp_all[Ty.cells,zoC,zfh,zk9]
theorem zsQ:vQ 99 zpD:=kF1 zNI zq zo zu (zx []) zMa
def z7A:zV:=[(99,zpD)]++zYU
theorem zz9:zL z7A:=zh zsQ zNI
def zMv:List (List Int):=List.replicate 8 [0,0,0,0]
def z7i (a:List (List Ins)):Prop:=a.length<=1048576/\∀p∈a,p.length<=1048576
theorem zN8 {d c j:Type}(m:Nat)(f:d->c)(K:List c->Option j):∀(l:List d) (i:Nat) (a:List c),a.length+l.length<=2147483648->
 goL (λ(i:Nat) x a k=>bif ilt (i:Int) (m:Int) then (cond (few<|ln<|ap a [f x]) (k<|ap a [f x]) none) else K a) K l i a=K (a++(l.take<|m-i).map f)
 |[],i,a,_=>by simp[goL]
 |x::l,i,a,g=>by simp only[qV]at g;have e:few (ln<|ap a [f x])=true:=zf6 (by simp[ap];omega);by_cases h:i<m;{have b:ilt (i:Int) (m:Int)=true:=qK (by omega);simp only[goL,b,e,cT];rw[zN8 m f K l (i+1) (ap a [f x]) (by simp[ap];omega)];rw[show m-i=m-(i+1)+1 by omega];simp[ap]};{have b:ilt (i:Int) (m:Int)=false:=qI (by omega);simp only[goL,b,cF];rw[show m-i=0 by omega];simp}
@[simp] abbrev znq (a:GAct):Bool:=true
@[simp] abbrev zwE (a:GAct):Bool:=zi a.Kind 1 17
def zEo:Run:=rF1 (dT .act) λb=>(znq b,[aB<|zwE b])
def zNj (N:Nat)(a:GAct):OA:=
 (oN (zG a.Kind 1 17)<|some [aB<|zi a.Kind 1 17])
theorem zUE (a:GAct)(b:znq a=true):∃N,zNj N a=some [aB<|zwE a]:=by refine⟨0,?_⟩;unfold zNj oN;refine must rfl ?_;first|rfl|(simp only [*,zwE,cT,cF]<;>rfl)|simp_all[Ty.cells,zwE]
theorem zOS:vQ 101 zEo:=kF1 zz9 zq zo zu (zx []) zUE
@[simp] abbrev zvi (k:Int):Bool:=true
@[simp] abbrev zqW (k:Int):Bool:=zi k 13 17
def zyK:Run:=rF1 dI λb=>(zvi b,[aB<|zqW b])
def zDy (N:Nat)(a:Int):OA:=
 (oN (zG a 13 17)<|some [aB<|zi a 13 17])
theorem zPw (a:Int)(b:zvi a=true):∃N,zDy N a=some [aB<|zqW a]:=by refine⟨0,?_⟩;unfold zDy oN;refine must rfl ?_;first|rfl|(simp only [*,zqW,cT,cF]<;>rfl)|simp_all[Ty.cells,zqW]
theorem zIr:vQ 59 zyK:=kF1 zz9 zq zo zu (zx []) zPw
@[simp] abbrev zpG (a:GAct):Ctl:=⟨a.X,a.Y,ieq a.Z 1⟩
def zEp:Run:=rF1 (dT .act) λb=>(znq b,[.agg<|zw5<|zpG b])
def zNk (N:Nat)(a:GAct):OA:=
 (some [.agg [.i .i64 a.X,.i .i64 a.Y,.b<|ieq a.Z 1]])
theorem zUF (a:GAct)(b:znq a=true):∃N,zNk N a=some [.agg<|zw5<|zpG a]:=by refine⟨0,?_⟩;unfold zNk;first|rfl|(simp only [*,zpG,cT,cF]<;>rfl)|simp_all[Ty.cells,zpG]
theorem zOT:vQ 110 zEp:=kF1 zz9 zq zo zu (zx []) zUF
def zQZ:zV:=[(104,zrm),(105,zn9),(106,zm1),(107,zm3),(108,zm2),(109,zrl),(113,zrk),(112,zpC),(98,ztc)]++z4q
theorem zAa:zL zQZ:=zh zt3 (zh zrF<|zh zqL<|zh zqN<|zh zqM<|zh zt2<|zh zt1<|zh zsP<|zh zvT z1N)
def zcZ (x:Mon):Bare:=⟨zMv,x.Guests,x.Outs,x.Pending⟩
def ztO (x:Mon)(b:Bare):Mon:={x with Guests:=b.Guests,Pending:=b.Pending}
def zc8 (h:Host)(m:Int)(b:Bare):Host:={h with Mons:=up h.Mons m (ztO (ix h.Mons m mZ) b)}
@[simp] abbrev ze7 (x:Mon):Bool:=pc (zf2 x)
@[simp] abbrev zbG (x:Mon):Bare:=zcZ x
def zyS:Run:=rF1 (dT .mon) λb=>(ze7 b,[aT .bare<|zbG b])
def zDP (N:Nat)(a:Mon):OA:=
 (oN (zoJ 8)<|oN (zf1 a.Guests)<|oN (few<|ln<|ap [] a.Outs)<|some [aT .bare (⟨zjK 8,zgs a.Guests,ap [] a.Outs,a.Pending⟩:Bare)])
theorem zPQ (a:Mon)(c:ze7 a=true):∃N,zDP N a=some [aT .bare<|zbG a]:=by have b:=zJ.1 c;refine⟨0,?_⟩;unfold zDP oN;exact must rfl (must (zbo<|(ztS _).2 b.2.2.2.1) (must (znh b.2.2.2.2.1) rfl))
theorem zIQ:vQ 365 zyS:=kF1 zAa zq zbW zgQ (zx []) zPQ
@[simp] abbrev ze6 (h:Host)(m:Int)(b:Bare):Bool:=pc (hasB m (ln h.Mons)=true/\zmR b.Guests)
@[simp] abbrev zht (h:Host)(m:Int)(b:Bare):Host:=zc8 h m b
theorem z8p {l:List Mon}{m:Int}(a:hasB m (ln l)=true)(b:Bare):inb m (ln<|up l m {ix l m mZ with Guests:=b.Guests})=true/\
 up (up l m {ix l m mZ with Guests:=b.Guests}) m {ix (up l m {ix l m mZ with Guests:=b.Guests}) m mZ with Pending:=b.Pending}=up l m (ztO (ix l m mZ) b):=by
 obtain⟨k,rfl,c⟩:=zd0 (n:=l.length) a;refine⟨zy (by rw[ln,zg5];exact a),?_⟩
 rw[zuN,zef c];rfl
def zrt:List AV->Option (Bool×List AV)
 |[.agg [.s (.sl .int) b,.s .mon c,.s .entry d,.s .entry e],.one<|.i .i64 f,.agg [.s (.sl .int) g,.s .guest h,.s .int j,.i .i64 k]]=>some (ze6 (⟨b,c,d,e⟩:Host) f (⟨g,h,j,k⟩:Bare),[aH<|zht (⟨b,c,d,e⟩:Host) f (⟨g,h,j,k⟩:Bare)])
 |_=>none
def zuU (N:Nat)(b:Host)(a:Int)(c:Bare):OA:=
 (oN (zf1 c.Guests)<|oN (inb a<|ln b.Mons)<|share (up b.Mons a ({ (ix b.Mons a zf) with Guests:=(zgs c.Guests)}:Mon)) λd=>oN (inb a<|ln d)<|share (up d a ({ (ix d a zf) with Pending:=c.Pending}:Mon)) λe=>some [aH ({b with Mons:=e}:Host)])
theorem zSJ (N:Nat)(a:Host)(b:Int)(c:Bare):zXg (cQ zQZ znW zXV z3j) (zx []) N 12 366 [true,true,true,true,false,false,false,false,false] [aH a,aI b,aT .bare c]=zuU N a b c:=by kernel_rfl
theorem zPP (b:Host)(c:Int)(a:Bare)(i:zbB big [aH b,aI c,aT .bare a])(h:ze6 b c a=true):∃N,zuU N b c a=some [aH<|zht b c a]:=by obtain⟨d,hg⟩:=zJ.1 h;obtain⟨f,g⟩:=z8p d a;refine⟨0,?_⟩;unfold zuU oN;refine must (zbo<|(ztS _).2 hg) (must (zy d)<|shr<|must f<|shr ?_);have e:zgs a.Guests=a.Guests:=rfl;rw[e];show some [AV.agg<|zbe {b with Mons:=_}]=some [AV.agg<|zbe {b with Mons:=_}];rw[show zf=mZ from rfl,g]
theorem zIP:zd9 Tryz.prog 366 [true,true,true,true,false,false,false,false,false] none zrt:=by refine zKL (zgL zAa zq zbW zgQ) (zia (by kernel_rfl)) (by kernel_rfl) ?_;intro a g f e h;have c:=ziO e;unfold zrt at h;split at h;{obtain⟨d,rfl⟩:=zel h;obtain⟨N,b⟩:=zPP _ _ _ (by exact c) d;exact⟨_,N,12,(zSJ N _ _ _ ).trans b⟩};{cases h}
def zYZ:zV:=[(365,zyS)]++zQZ
theorem zjf:zL zYZ:=zh zIQ zAa
def z8V:zfg:=[(366,[true,true,true,true,false,false,false,false,false],none,zrt)]++z3j
theorem zc7:zea z8V:=znc zgQ (by
 intro x a;simp only[qG,qW,or_false]at a;rcases a with rfl
 .exact zIP)
def z5h (h:Host)(m:Int)(a:Bool)(B:Bare)(b c:Host->Ans):OA:=
 bif zbi h then (cond (zfS h m) (cond (cond (zfR h m) false true) (some<|b h)<|cond (inb m<|ln h.Mons) (cond (ze7<|ix h.Mons m mZ) (cond a (cond (ze6 h m B) (some<|c<|zc8 h m B) none) none) none) none) none) else none
theorem zcC {h:Host}{m:Int}:(zcH h m=true)↔zbM h=true/\hasB m (ln h.Mons)=true:=by unfold zcH;cases zbM h<;>simp
theorem zne {h:Host}{m:Int}{cB:Bool}{B:Bare}{o0 o1:Host->Ans}(c:SmH h)(e:zcH h m=true->cB=true)(d:zcH h m=true->SmB B):z5h h m cB B o0 o1=some (cond (zcH h m) (o1<|zc8 h m B)<|o0 h):=by unfold z5h;refine must (zbo<|(zM h).2 c) (must rfl ?_);rw[show zfR h m=zcH h m from rfl];cases a:zcH h m;{rfl};{have b:=(zcC.1 a).2;exact zcQ rfl (must (zy b)<|must (zbo<|c.2.1.2 _<|zbv b _)<|must (e a) (must (zbo ⟨b,(d a).2.1⟩) rfl))}
structure SameB (b c:Bare):Prop where
 g:b.Guests=c.Guests
 p:b.Pending=c.Pending
 o:zbK b=zbK c
theorem SameB.at {b c:Bare}(h:SameB b c)(g:Int):gAt b g=gAt c g:=by unfold gAt;rw[h.g]
theorem SameB.has {b c:Bare}(h:SameB b c)(g:Int):zcd b g=zcd c g:=by unfold zcd;rw[h.g,h.o]
theorem back_eq {h:Host}{m:Int}{b c:Bare}(hg:b.Guests=c.Guests)(a:b.Pending=c.Pending):zc8 h m b=zc8 h m c:=by unfold zc8 ztO;rw[hg,a]
theorem zpd {b c:Bare}(a:SameB b c)(h:Host)(m g:Int)(k:Bool)(x:Guest):zc8 h m (chg b g k x)=zc8 h m (chg c g k x):=by unfold chg;rw[a.has];cases (cond (zcd c g) k false);{exact back_eq a.g a.p};{exact back_eq (by simp only[cT,zdS,a.g]) a.p}
theorem zll {b c:Bare}(a:SameB b c)(g:Int)(k:Bool):zcb b g k=zcb c g k:=by unfold zcb;rw[a.has]
theorem zjm {h:Host}{m:Int}(b:zcH h m=true)(d:zbK (zcZ<|ix h.Mons m mZ)=true):SameB (zcZ<|ix h.Mons m mZ) (zA h m):=by obtain⟨c,a⟩:=zcC.1 b;refine⟨?_,?_,d.trans (zuX c a).symm⟩<;>unfold zA zcZ<;>rw [a]<;>rfl
theorem z6x:zid zMv 8=true:=by decide
theorem znx {h:Host}{m:Int}(b:zcH h m=true):zbK (zcZ<|ix h.Mons m mZ)=true:=by obtain⟨c,a⟩:=zcC.1 b;have:=zuX c a;unfold zA at this;rw[a,cT] at this;unfold zbK at this ⊢;simp only[zcZ,z6x] at *;simp_all
theorem zfi {x:Mon}(h:zf2 x):SmB (zcZ x):=⟨show SmM zMv from ⟨by decide,by decide⟩,h.2.2.2.1,h.2.2.2.2.1⟩
def zgN (h:Host)(m:Int)(b:Bare):Host:=bif zcH h m then zc8 h m b else h
def zgO (h:Host)(m:Int)(ok:Bool):Bool:=bif zcH h m then ok else false
@[simp] abbrev zmg (h:Host)(m:Int)(g p:Int)(s:Slot):Host:=zgN h m (zeD (zA h m) g p s)
@[simp] abbrev zmh (h:Host)(m:Int)(g p:Int)(s:Slot):Bool:=zgO h m (zfz (zA h m) g p s)
@[simp] abbrev ziZ (h:Host)(m:Int)(g v:Int):Host:=zgN h m (zdk (zA h m) g v)
@[simp] abbrev zi0 (h:Host)(m:Int)(g v:Int):Bool:=zgO h m (zeh (zA h m) g v)
@[simp] abbrev zi3 (h:Host)(m:Int)(g:Int):Host:=zgN h m (zdm (zA h m) g)
@[simp] abbrev zi4 (h:Host)(m:Int)(g:Int):Bool:=zgO h m (zej (zA h m) g)
@[simp] abbrev zi1 (h:Host)(m:Int)(g n:Int):Host:=zgN h m (zdl (zA h m) g n)
@[simp] abbrev zi2 (h:Host)(m:Int)(g n:Int):Bool:=zgO h m (zei (zA h m) g n)
@[simp] abbrev zme (h:Host)(m:Int)(g:Int)(x:Ctl):Host:=zgN h m (zeC (zA h m) g x)
@[simp] abbrev zmf (h:Host)(m:Int)(g:Int)(x:Ctl):Bool:=zgO h m (zfy (zA h m) g x)
@[simp] abbrev zkL (h:Host)(m:Int)(n:Int):Host:=zgN h m (ze3 (zA h m) n)
@[simp] abbrev zkM (h:Host)(m:Int)(n:Int):Bool:=zgO h m (zgE (zA h m) n)
@[simp] abbrev zmb (h:Host)(m:Int):Host:=zgN h m (ze2<|zA h m)
@[simp] abbrev zmc (h:Host)(m:Int):Int:=bif zcH h m then zgm (zA h m) else -1
@[simp] abbrev zmd (h:Host)(m:Int):Bool:=zgO h m (zgn<|zA h m)
@[simp] abbrev zjU (h:Host)(m g p:Int):Bool:=zgO h m (zcb (zA h m) g<|hasB p 4)
theorem z0n {b c:Bare}(a:SameB b c)(n:Int):(zkn b n).Guests=(zkn c n).Guests/\(zkn b n).Pending=(zkn c n).Pending/\zfW b n=zfW c n:=by have e:zfW b n=zfW c n:=(by unfold zfW;rw[a.o]);unfold zkn;rw[e];cases zfW c n;{exact⟨a.g,a.p,rfl⟩};{unfold zCb;rw[a.g];cases ieq (ln<|zev c.Guests n) 0;{exact⟨by simp only[cT,cF],by simp only[cT,cF,a.p],rfl⟩};{exact⟨by simp only[cT,a.g],by simp only[cT,a.p],rfl⟩}}
theorem z06 {b c:Bare}(a:SameB b c):(zmS b).Guests=(zmS c).Guests/\(zmS b).Pending=(zmS c).Pending/\zsx b=zsx c/\zmz b=zmz c:=by unfold zmS zsx zmz;rw[a.o,a.p];cases zbK c;{exact⟨a.g,a.p,rfl,rfl⟩};{exact⟨a.g,rfl,rfl,rfl⟩}
theorem z0J {b:Bare}{n:Int}(h:SmB b):SmB (zkn b n):=by unfold zkn;cases zfW b n;{exact h};{unfold zCb;cases ieq (ln<|zev b.Guests n) 0;{exact⟨h.1,(zBx _ zJA h.2.1).1,h.2.2⟩};{exact h}}
theorem z2V {b:Bare}(h:SmB b):SmB (zmS b):=by unfold zmS;cases zbK b;{exact h};{exact h}
theorem zsc {H a:Host}{x y:Bool}(c:H=a)(d:x=y):some [AV.agg<|zbe H,AV.one<|.b x]=some [AV.agg<|zbe a,AV.one<|.b y]:=by rw[c,d]
theorem z5H {H a:Host}{n k:Int}{x y:Bool}(c:H=a)(d:n=k)(e:x=y):some [AV.agg<|zbe H,AV.one<|.i .i64 n,AV.one<|.b x]=some [AV.agg<|zbe a,AV.one<|.i .i64 k,AV.one<|.b y]:=by rw[c,d,e]
theorem zWk {b:Bare}(g p:Int)(s:Slot)(a:SmB b):SmB (zeD b g p s):=zpO a (z2Y _ _<|zje _ a)
theorem z2Q {b c:Bare}(a:SameB b c)(h:Host)(m:Int)(g p:Int)(s:Slot):zc8 h m (zeD b g p s)=zc8 h m (zeD c g p s)/\zfz b g p s=zfz c g p s:=by have e:=a.at g;simp only[zeD,zfz,e];exact⟨zpd a _ _ _ _ _,zll a _ _⟩
@[simp] abbrev zvh (h:Host)(m:Int)(g p:Int)(s:Slot):Bool:=pc (zbX h)
def zyJ:Run:=rF5 dH dI dI dI (dT .slot) λb c d e f=>(zvh b c d e f,[aH<|zmg b c d e f,aB<|zmh b c d e f])
def zDx (N:Nat)(g:Host)(b d e:Int)(f:Slot):OA:=
 let a:=zk g;let c:=ix a.Mons b zf; (oN (zbi g)<|oN (zfS a b)<|cond (nB<|zfR a b) (some [aH a,aB false])<|oN (inb b<|ln a.Mons)<|oN (ze7 c)<|oN (zqn (zbG c) d e f)<|oN (ze6 a b<|zeD (zbG c) d e f)<|some [aH<|zht a b<|zeD (zbG c) d e f,aB<|zfz (zbG c) d e f])
theorem zPv (a:Host)(c d e:Int)(f:Slot)(n:zvh a c d e f=true):∃N,zDx N a c d e f=some [aH<|zmg a c d e f,aB<|zmh a c d e f]:=by
 have i:=(zM a).1 (zJ.1 n);refine⟨0,?_⟩;have j:=zne (h:=a) (m:=c) (cB:=zqn (zcZ<|ix a.Mons c mZ) d e f) (B:=zeD (zcZ<|ix a.Mons c mZ) d e f) (o0:=λH=>[.agg<|zbe H,.one<|.b false]) (o1:=λH=>[.agg<|zbe H,.one<|.b<|zfz (zcZ<|ix a.Mons c mZ) d e f]) i
  (λg=>zbo (zfi<|i.2.1.2 _<|zbv (zcC.1 g).2 _)) (λg=>zWk _ _ _ (zfi<|i.2.1.2 _<|zbv (zcC.1 g).2 _))
 refine(show zDx 0 a c d e f=_ from j).trans ?_;unfold zmg zmh zgN zgO;cases g:zcH a c;{rfl};{obtain⟨k,l⟩:=z2Q (zjm g<|znx g) a c d e f;simp only[cT];exact zsc k l}
theorem zIq:vQ 320 zyJ:=kF5 zjf zq zbW zc7 (zx []) zPv
theorem zJR {b:Bare}(g v:Int)(a:SmB b):SmB (zdk b g v):=zpO a (z2W _<|zje _ a)
theorem zU9 {b c:Bare}(a:SameB b c)(h:Host)(m:Int)(g v:Int):zc8 h m (zdk b g v)=zc8 h m (zdk c g v)/\zeh b g v=zeh c g v:=by have e:=a.at g;simp only[zdk,zeh,e];exact⟨zpd a _ _ _ _ _,zll a _ _⟩
@[simp] abbrev zpI (h:Host)(m:Int)(g v:Int):Bool:=pc (zbX h)
def zs9:Run:=rF4 dH dI dI dI λb c d e=>(zpI b c d e,[aH<|ziZ b c d e,aB<|zi0 b c d e])
def zvD (N:Nat)(f:Host)(b d e:Int):OA:=
 let a:=zk f;let c:=ix a.Mons b zf; (oN (zbi f)<|oN (zfS a b)<|cond (nB<|zfR a b) (some [aH a,aB false])<|oN (inb b<|ln a.Mons)<|oN (ze7 c)<|oN (zlM (zbG c) d e)<|oN (ze6 a b<|zdk (zbG c) d e)<|some [aH<|zht a b<|zdk (zbG c) d e,aB<|zeh (zbG c) d e])
theorem zF9 (a:Host)(c d e:Int)(l:zpI a c d e=true):∃N,zvD N a c d e=some [aH<|ziZ a c d e,aB<|zi0 a c d e]:=by
 have g:=(zM a).1 (zJ.1 l);refine⟨0,?_⟩;have i:=zne (h:=a) (m:=c) (cB:=zlM (zcZ<|ix a.Mons c mZ) d e) (B:=zdk (zcZ<|ix a.Mons c mZ) d e) (o0:=λH=>[.agg<|zbe H,.one<|.b false]) (o1:=λH=>[.agg<|zbe H,.one<|.b<|zeh (zcZ<|ix a.Mons c mZ) d e]) g
  (λf=>zbo (zfi<|g.2.1.2 _<|zbv (zcC.1 f).2 _)) (λf=>zJR _ _ (zfi<|g.2.1.2 _<|zbv (zcC.1 f).2 _))
 refine(show zvD 0 a c d e=_ from i).trans ?_;unfold ziZ zi0 zgN zgO;cases f:zcH a c;{rfl};{obtain⟨j,k⟩:=zU9 (zjm f<|znx f) a c d e;simp only[cT];exact zsc j k}
theorem zAv:vQ 322 zs9:=kF4 zjf zq zbW zc7 (zx []) zF9
theorem zJT {b:Bare}(g:Int)(a:SmB b):SmB (zdm b g):=zpO a (z2X<|zje _ a)
theorem zVb {b c:Bare}(a:SameB b c)(h:Host)(m:Int)(g:Int):zc8 h m (zdm b g)=zc8 h m (zdm c g)/\zej b g=zej c g:=by have e:=a.at g;simp only[zdm,zej,e];exact⟨zpd a _ _ _ _ _,zll a _ _⟩
@[simp] abbrev zpK (h:Host)(m:Int)(g:Int):Bool:=pc (zbX h)
def ztb:Run:=rF3 dH dI dI λb c d=>(zpK b c d,[aH<|zi3 b c d,aB<|zi4 b c d])
def zvF (N:Nat)(e:Host)(b d:Int):OA:=
 let a:=zk e;let c:=ix a.Mons b zf; (oN (zbi e)<|oN (zfS a b)<|cond (nB<|zfR a b) (some [aH a,aB false])<|oN (inb b<|ln a.Mons)<|oN (ze7 c)<|oN (zc5 (zbG c) d)<|oN (ze6 a b<|zdm (zbG c) d)<|some [aH<|zht a b<|zdm (zbG c) d,aB<|zej (zbG c) d])
theorem zGb (a:Host)(c d:Int)(k:zpK a c d=true):∃N,zvF N a c d=some [aH<|zi3 a c d,aB<|zi4 a c d]:=by
 have f:=(zM a).1 (zJ.1 k);refine⟨0,?_⟩;have g:=zne (h:=a) (m:=c) (cB:=zc5 (zcZ<|ix a.Mons c mZ) d) (B:=zdm (zcZ<|ix a.Mons c mZ) d) (o0:=λH=>[.agg<|zbe H,.one<|.b false]) (o1:=λH=>[.agg<|zbe H,.one<|.b<|zej (zcZ<|ix a.Mons c mZ) d]) f
  (λe=>zbo (zfi<|f.2.1.2 _<|zbv (zcC.1 e).2 _)) (λe=>zJT _ (zfi<|f.2.1.2 _<|zbv (zcC.1 e).2 _))
 refine(show zvF 0 a c d=_ from g).trans ?_;unfold zi3 zi4 zgN zgO;cases e:zcH a c;{rfl};{obtain⟨i,j⟩:=zVb (zjm e<|znx e) a c d;simp only[cT];exact zsc i j}
theorem zAx:vQ 323 ztb:=kF3 zjf zq zbW zc7 (zx []) zGb
theorem zJS {b:Bare}(g n:Int)(a:SmB b):SmB (zdl b g n):=zpO a (zje (b:=b) _ a)
theorem zVa {b c:Bare}(a:SameB b c)(h:Host)(m:Int)(g n:Int):zc8 h m (zdl b g n)=zc8 h m (zdl c g n)/\zei b g n=zei c g n:=by have e:=a.at g;simp only[zdl,zei,e];exact⟨zpd a _ _ _ _ _,zll a _ _⟩
@[simp] abbrev zpJ (h:Host)(m:Int)(g n:Int):Bool:=pc (zbX h)
def zta:Run:=rF4 dH dI dI dI λb c d e=>(zpJ b c d e,[aH<|zi1 b c d e,aB<|zi2 b c d e])
def zvE (N:Nat)(f:Host)(b d e:Int):OA:=
 let a:=zk f;let c:=ix a.Mons b zf; (oN (zbi f)<|oN (zfS a b)<|cond (nB<|zfR a b) (some [aH a,aB false])<|oN (inb b<|ln a.Mons)<|oN (ze7 c)<|oN (zlN (zbG c) d e)<|oN (ze6 a b<|zdl (zbG c) d e)<|some [aH<|zht a b<|zdl (zbG c) d e,aB<|zei (zbG c) d e])
theorem zGa (a:Host)(c d e:Int)(l:zpJ a c d e=true):∃N,zvE N a c d e=some [aH<|zi1 a c d e,aB<|zi2 a c d e]:=by
 have g:=(zM a).1 (zJ.1 l);refine⟨0,?_⟩;have i:=zne (h:=a) (m:=c) (cB:=zlN (zcZ<|ix a.Mons c mZ) d e) (B:=zdl (zcZ<|ix a.Mons c mZ) d e) (o0:=λH=>[.agg<|zbe H,.one<|.b false]) (o1:=λH=>[.agg<|zbe H,.one<|.b<|zei (zcZ<|ix a.Mons c mZ) d e]) g
  (λf=>zbo (zfi<|g.2.1.2 _<|zbv (zcC.1 f).2 _)) (λf=>zJS _ _ (zfi<|g.2.1.2 _<|zbv (zcC.1 f).2 _))
 refine(show zvE 0 a c d e=_ from i).trans ?_;unfold zi1 zi2 zgN zgO;cases f:zcH a c;{rfl};{obtain⟨j,k⟩:=zVa (zjm f<|znx f) a c d e;simp only[cT];exact zsc j k}
theorem zAw:vQ 324 zta:=kF4 zjf zq zbW zc7 (zx []) zGa
theorem zWj {b:Bare}(g:Int)(x:Ctl)(a:SmB b):SmB (zeC b g x):=zpO a (zje (b:=b) _ a)
theorem z2P {b c:Bare}(a:SameB b c)(h:Host)(m:Int)(g:Int)(x:Ctl):zc8 h m (zeC b g x)=zc8 h m (zeC c g x)/\zfy b g x=zfy c g x:=by have e:=a.at g;simp only[zeC,zfy,e];exact⟨zpd a _ _ _ _ _,zll a _ _⟩
@[simp] abbrev zve (h:Host)(m:Int)(g:Int)(x:Ctl):Bool:=pc (zbX h)
def zyG:Run:=rF4 dH dI dI dC λb c d e=>(zve b c d e,[aH<|zme b c d e,aB<|zmf b c d e])
def zDu (N:Nat)(f:Host)(b d:Int)(e:Ctl):OA:=
 let a:=zk f;let c:=ix a.Mons b zf; (oN (zbi f)<|oN (zfS a b)<|cond (nB<|zfR a b) (some [aH a,aB false])<|oN (inb b<|ln a.Mons)<|oN (ze7 c)<|oN (zqm (zbG c) d e)<|oN (ze6 a b<|zeC (zbG c) d e)<|some [aH<|zht a b<|zeC (zbG c) d e,aB<|zfy (zbG c) d e])
theorem zPs (a:Host)(c d:Int)(e:Ctl)(l:zve a c d e=true):∃N,zDu N a c d e=some [aH<|zme a c d e,aB<|zmf a c d e]:=by
 have g:=(zM a).1 (zJ.1 l);refine⟨0,?_⟩;have i:=zne (h:=a) (m:=c) (cB:=zqm (zcZ<|ix a.Mons c mZ) d e) (B:=zeC (zcZ<|ix a.Mons c mZ) d e) (o0:=λH=>[.agg<|zbe H,.one<|.b false]) (o1:=λH=>[.agg<|zbe H,.one<|.b<|zfy (zcZ<|ix a.Mons c mZ) d e]) g
  (λf=>zbo (zfi<|g.2.1.2 _<|zbv (zcC.1 f).2 _)) (λf=>zWj _ _ (zfi<|g.2.1.2 _<|zbv (zcC.1 f).2 _))
 refine(show zDu 0 a c d e=_ from i).trans ?_;unfold zme zmf zgN zgO;cases f:zcH a c;{rfl};{obtain⟨j,k⟩:=z2P (zjm f<|znx f) a c d e;simp only[cT];exact zsc j k}
theorem zIn:vQ 325 zyG:=kF4 zjf zq zbW zc7 (zx []) zPs
theorem zTk {b:Bare}(n:Int)(a:SmB b):SmB (ze3 b n):=z0J a
theorem z0C {b c:Bare}(f:SameB b c)(h:Host)(m n:Int):zc8 h m (ze3 b n)=zc8 h m (ze3 c n)/\zgE b n=zgE c n:=by obtain⟨a,d,e⟩:=z0n f n;exact⟨back_eq a d,e⟩
@[simp] abbrev ztk (h:Host)(m:Int)(n:Int):Bool:=pc (zbX h)
def zwt:Run:=rF3 dH dI dI λb c d=>(ztk b c d,[aH<|zkL b c d,aB<|zkM b c d])
def zzJ (N:Nat)(e:Host)(b d:Int):OA:=
 let a:=zk e;let c:=ix a.Mons b zf; (oN (zbi e)<|oN (zfS a b)<|cond (nB<|zfR a b) (some [aH a,aB false])<|oN (inb b<|ln a.Mons)<|oN (ze7 c)<|oN (zfL (zbG c) d)<|oN (ze6 a b<|ze3 (zbG c) d)<|some [aH<|zht a b<|ze3 (zbG c) d,aB<|zgE (zbG c) d])
theorem zMd (a:Host)(c d:Int)(k:ztk a c d=true):∃N,zzJ N a c d=some [aH<|zkL a c d,aB<|zkM a c d]:=by
 have f:=(zM a).1 (zJ.1 k);refine⟨0,?_⟩;have g:=zne (h:=a) (m:=c) (cB:=zfL (zcZ<|ix a.Mons c mZ) d) (B:=ze3 (zcZ<|ix a.Mons c mZ) d) (o0:=λH=>[.agg<|zbe H,.one<|.b false]) (o1:=λH=>[.agg<|zbe H,.one<|.b<|zgE (zcZ<|ix a.Mons c mZ) d]) f
  (λe=>zbo (zfi<|f.2.1.2 _<|zbv (zcC.1 e).2 _)) (λe=>zTk _ (zfi<|f.2.1.2 _<|zbv (zcC.1 e).2 _))
 refine(show zzJ 0 a c d=_ from g).trans ?_;unfold zkL zkM zgN zgO;cases e:zcH a c;{rfl};{obtain⟨i,j⟩:=z0C (zjm e<|znx e) a c d;simp only[cT];exact zsc i j}
theorem zFG:vQ 327 zwt:=kF3 zjf zq zbW zc7 (zx []) zMd
theorem zWi {b:Bare}(a:SmB b):SmB (ze2 b):=z2V a
theorem z2O {b c:Bare}(g:SameB b c)(h:Host)(m:Int):zc8 h m (ze2 b)=zc8 h m (ze2 c)/\zgm b=zgm c/\zgn b=zgn c:=by obtain⟨a,d,e,f⟩:=z06 g;exact⟨back_eq a d,e,f⟩
def zyE:Run:=rF2 dH dI λb c=>(zeV b c,[aH<|zmb b c,aI<|zmc b c,aB<|zmd b c])
def zDs (N:Nat)(d:Host)(b:Int):OA:=
 let a:=zk d;let c:=ix a.Mons b zf; (oN (zbi d)<|oN (zfS a b)<|cond (nB<|zfR a b) (some [aH a,aI<|-1,aB false])<|oN (inb b<|ln a.Mons)<|oN (ze7 c)<|oN (zci<|zbG c)<|oN (ze6 a b<|ze2<|zbG c)<|some [aH<|zht a b<|ze2<|zbG c,aI<|zgm<|zbG c,aB<|zgn<|zbG c])
theorem zPq (a:Host)(c:Int)(l:zeV a c=true):∃N,zDs N a c=some [aH<|zmb a c,aI<|zmc a c,aB<|zmd a c]:=by
 have e:=(zM a).1 (zJ.1 l);refine⟨0,?_⟩;have f:=zne (h:=a) (m:=c) (cB:=zci (zcZ<|ix a.Mons c mZ)) (B:=ze2 (zcZ<|ix a.Mons c mZ)) (o0:=λH=>[.agg<|zbe H,.one<|.i .i64<|-1,.one<|.b false]) (o1:=λH=>[.agg<|zbe H,.one<|.i .i64<|zgm<|zcZ<|ix a.Mons c mZ,.one<|.b<|zgn<|zcZ<|ix a.Mons c mZ]) e
  (λd=>zbo (zfi<|e.2.1.2 _<|zbv (zcC.1 d).2 _)) (λd=>zWi (zfi<|e.2.1.2 _<|zbv (zcC.1 d).2 _))
 refine(show zDs 0 a c=_ from f).trans ?_;unfold zmb zmc zmd zgN zgO;cases d:zcH a c;{rfl};{obtain⟨g,j,k⟩:=z2O (zjm d<|znx d) a c;simp only[cT];exact z5H g j k}
theorem zIl:vQ 328 zyE:=kF2 zjf zq zbW zc7 (zx []) zPq
def zY0:zV:=[(320,zyJ),(322,zs9),(323,ztb),(324,zta),(325,zyG),(327,zwt),(328,zyE)]++zYZ
theorem zqE:zL zY0:=zh zIq (zh zAv<|zh zAx<|zh zAw<|zh zIn<|zh zFG<|zh zIl zjf)
def zhR (h:Host)(m t:Int):Host:=bif zbM h then (cond (hasB m<|ln h.Mons) (cond (zi t 0 3) {h with Mons:=up h.Mons m {ix h.Mons m mZ with Traps:=t}} h) h) else h
def zxT (h:Host)(m t:Int):Bool:=bif zbM h then (cond (hasB m<|ln h.Mons) (zi t 0 3) false) else false
@[simp] abbrev ztp (h:Host)(m t:Int):Bool:=pc (zbX h)
@[simp] abbrev zoO (h:Host)(m t:Int):Host:=zhR h m t
@[simp] abbrev zoP (h:Host)(m t:Int):Bool:=zxT h m t
def zwA:Run:=rF3 dH dI dI λb c d=>(ztp b c d,[aH<|zoO b c d,aB<|zoP b c d])
def zzR (N:Nat)(d:Host)(b c:Int):OA:=
 let a:=zk d; (oN (zbi d)<|oN (zc9 a)<|cond (nB<|zdj a) (some [aH a,aB false])<|oN (zG b 0<|wsub .i64 (ln a.Mons) 1)<|cond (nB<|zi b 0<|wsub .i64 (ln a.Mons) 1) (some [aH a,aB false])<|oN (zG c 0 3)<|cond (nB<|zi c 0 3) (some [aH a,aB false])<|oN (inb b<|ln a.Mons)<|share (up a.Mons b ({ (ix a.Mons b zf) with Traps:=c}:Mon)) λe=>some [aH ({a with Mons:=e}:Host),aB true])
theorem zMl (a:Host)(b c:Int)(d:ztp a b c=true):∃N,zzR N a b c=some [aH<|zoO a b c,aB<|zoP a b c]:=by
 have g:=(zM a).1 (zJ.1 d);refine⟨0,?_⟩;unfold zzR zoO zoP zhR zxT oN nB;conv=>zeta
 refine must d (must rfl ?_);rw[show zdj (zk a)=zbM a from rfl];cases e:zbM a;{rfl};{refine zcQ rfl (must rfl ?_);rw[show zi b 0 (wsub .i64 (ln (zk a).Mons) 1)=hasB b (ln a.Mons) from zM9 e b];cases f:hasB b (ln a.Mons);{rfl};{refine zcQ rfl (must rfl ?_);rw[show zi c 0 3=zi c 0 3 from rfl];cases h:zi c 0 3;{rfl};{exact zcQ rfl (must (zy f) rfl)}}}
theorem zFQ:vQ 359 zwA:=kF3 zqE zq zbW zc7 (zx []) zMl
theorem ziw {h:Host}{m p:Int}:(zb1 h m p=true)↔zbM h=true/\hasB m (ln h.Mons)=true/\hasB p 8=true:=by unfold zb1;cases zbM h<;>cases hasB m (ln h.Mons)<;>simp
def zgM (h:Host)(m p:Int):Bool:=ieq (ix (ix h.Mons m mZ).Outer p sZ).Page (-1)
def zeL (h:Host)(m p:Int):Host:=bif zb1 h m p then (cond (zgM h m p) h<|zdo h m p) else h
def zug (h:Host)(m p:Int):Bool:=bif zb1 h m p then !zgM h m p else false
def znZ (h:Host)(m p:Int):Host:=bif zb1 h m p then (cond (zgM h m p) (fetched h m p) h) else h
def zGk (h:Host)(m p:Int):Bool:=bif zb1 h m p then zgM h m p else false
@[simp] abbrev zix (h:Host)(m p:Int):Host:=zeL h m p
@[simp] abbrev zj9 (h:Host)(m p:Int):Bool:=zug h m p
@[simp] abbrev zr6 (h:Host)(m p:Int):Host:=znZ h m p
@[simp] abbrev zr7 (h:Host)(m p:Int):Bool:=zGk h m p
theorem zJo {h:Host}(f:SmH h)(c:zbM h=true){m p:Int}(d:hasB m (ln h.Mons)=true)(e:hasB p 8=true) :
 (cond (ieq (ix (ix h.Mons m mZ).Outer p sZ).Page<|-1) (ieq (ix (ix h.Mons m mZ).Outer p sZ).Rights 0) false)=zgM h m p:=by
 have a:=(zrU (zhe c _<|zbv d mZ) e).no;unfold zct at a;unfold zgM;rw[<- a];cases b:ieq (ix (ix h.Mons m mZ).Outer p sZ).Page (-1)<;>simp [noSlot,b]
theorem zA0 {h:Host}(d:SmH h)(a:zbM h=true){m p:Int}(b:hasB m (ln h.Mons)=true)(c:hasB p 8=true):inb p (ln (ix h.Mons m mZ).Outer)=true :=
 zy (by rw[ln,((ze9 d a).1.2 _ (zbv b mZ)).1];exact c)
def zjW:Run:=rF3 dH dI dI λb c d=>(zgG b c d,[aH<|zix b c d,aB<|zj9 b c d])
def zDB (N:Nat)(e:Host)(c b:Int):OA:=
 let a:=zk e;let d:=(ix a.Mons c zf).Outer; (oN (zbi e)<|oN (zjl a c b)<|cond (nB<|zes a c b) (some [aH a,aB false])<|oN (inb c<|ln a.Mons)<|oN (inb b<|ln d)<|oN zbA<|cond (cond (ieq (ix d b zN).Page zU.Page) (ieq (ix d b zN).Rights zU.Rights) false) (some [aH a,aB false])<|oN (zik a c b)<|some [aH<|zk6 a c b,aB true])
theorem zPy (a:Host)(b c:Int)(h:zgG a b c=true):∃N,zDB N a b c=some [aH<|zix a b c,aB<|zj9 a b c]:=by
 have g:=(zM a).1 (zJ.1 h);refine⟨0,?_⟩;unfold zDB zix zj9 zeL zug oN nB;conv=>zeta
 refine must h (must rfl ?_);rw[show zes (zk a) b c=zb1 a b c from rfl];cases i:zb1 a b c;{rfl};{obtain⟨e,d,f⟩:=ziw.1 i;refine zcQ rfl (must (zy d)<|must (zA0 g e d f) (must rfl ?_));rw[show (cond (ieq (ix (ix (zk a).Mons b zf).Outer c zN).Page zU.Page) (ieq (ix (ix (zk a).Mons b zf).Outer c zN).Rights zU.Rights) false)=zgM a b c from zJo g e d f];cases j:zgM a b c;{exact zcQ rfl (must (zbo ⟨(ze9 g e).1,d,f⟩) rfl)};{rfl}}
theorem zIv:vQ 356 zjW:=kF3 zqE zq zbW zc7 (zx []) zPy
def zDc (N:Nat)(a:Host)(b c:Int):OA:=
 let d:=(ix a.Mons b zf).Outer; (oN (zbi a)<|oN (zjl a b c)<|cond (nB<|zes a b c) (some [aH<|zk a,aB false])<|oN (inb b<|ln a.Mons)<|oN (inb c<|ln d)<|cond (ieq (ix d c zN).Page<|-1) (some [aH<|zk a,aB false])<|oN (zik (zk a) b c)<|some [aH<|zk6 (zk a) b c,aB true])
theorem zPc (a:Host)(b c:Int)(e:zgG a b c=true):∃N,zDc N a b c=some [aH<|zix a b c,aB<|zj9 a b c]:=by
 have h:=(zM a).1 (zJ.1 e);refine⟨0,?_⟩;unfold zDc zix zj9 zeL zug oN nB;conv=>zeta
 refine must e (must rfl ?_);rw[show zes a b c=zb1 a b c from rfl];cases i:zb1 a b c;{rfl};{obtain⟨f,d,g⟩:=ziw.1 i;refine zcQ rfl (must (zy d)<|must (zA0 h f d g) ?_);rw[show ieq (ix (ix a.Mons b zf).Outer c zN).Page (-1)=zgM a b c from rfl];cases j:zgM a b c;{exact zcQ rfl (must (zbo ⟨(ze9 h f).1,d,g⟩) rfl)};{rfl}}
theorem zt0:vQ 21 zjW:=kF3 zqE zq zbW zc7 (zx []) zPc
def zBj:Run:=rF3 dH dI dI λb c d=>(zgG b c d,[aH<|zr6 b c d,aB<|zr7 b c d])
def zG9 (N:Nat)(e:Host)(c b:Int):OA:=
 let a:=zk e;let d:=(ix a.Mons c zf).Outer; (oN (zbi e)<|oN (zjl a c b)<|cond (nB<|zes a c b) (some [aH a,aB false])<|oN (inb c<|ln a.Mons)<|oN (inb b<|ln d)<|oN zbA<|cond (nB<|cond (ieq (ix d b zN).Page zU.Page) (ieq (ix d b zN).Rights zU.Rights) false) (some [aH a,aB false])<|oN (zk5 a c b)<|some [aH<|zlU a c b,aB true])
theorem zSl (a:Host)(b c:Int)(h:zgG a b c=true):∃N,zG9 N a b c=some [aH<|zr6 a b c,aB<|zr7 a b c]:=by
 have g:=(zM a).1 (zJ.1 h);refine⟨0,?_⟩;unfold zG9 zr6 zr7 znZ zGk oN nB;conv=>zeta
 refine must h (must rfl ?_);rw[show zes (zk a) b c=zb1 a b c from rfl];cases i:zb1 a b c;{rfl};{obtain⟨e,d,f⟩:=ziw.1 i;refine zcQ rfl (must (zy d)<|must (zA0 g e d f) (must rfl ?_));rw[show (cond (ieq (ix (ix (zk a).Mons b zf).Outer c zN).Page zU.Page) (ieq (ix (ix (zk a).Mons b zf).Outer c zN).Rights zU.Rights) false)=zgM a b c from zJo g e d f];cases j:zgM a b c;{rfl};{exact zcQ rfl (must (zbo ⟨ze9 g e,d,f⟩) rfl)}}
theorem zLt:vQ 357 zBj:=kF3 zqE zq zbW zc7 (zx []) zSl
def zY1:zV:=[(359,zwA),(356,zjW),(21,zjW),(357,zBj)]++zY0
theorem zNJ:zL zY1:=zh zFQ (zh zIv<|zh zt0<|zh zLt zqE)
theorem zYn {x:Mon}{b:Bare}(h:zf2 x)(a:zmR b.Guests):zf2 (ztO x b):=⟨h.1,h.2.1,h.2.2.1,a,h.2.2.2.2⟩
theorem zGs {h:Host}{m:Int}{b:Bare}(a:SmH h)(d:hasB m (ln h.Mons)=true)(c:zmR b.Guests):SmH (zc8 h m b):=
 ⟨a.1,zjn a.2.1<|zYn (a.2.1.2 _<|zbv d _) c,a.2.2⟩
theorem zQF {h:Host}{m:Int}(b:Bare)(a:hasB m (ln h.Mons)=true):hasB m (ln (zc8 h m b).Mons)=true:=by show hasB m (ln<|up h.Mons m _)=true;rw[ln,zg5];exact a
theorem z5s {h:Host}{m:Int}(b:Bare)(c:hasB m (ln h.Mons)=true):ix (zc8 h m b).Mons m mZ=ztO (ix h.Mons m mZ) b:=by obtain⟨k,rfl,a⟩:=zd0 (n:=h.Mons.length) c;exact zef a _ _
def zAh (h:Host)(m g p:Int):Host:=⟨h.Memory,up h.Mons m {ix h.Mons m mZ with Tables:=up (ix h.Mons m mZ).Tables g (zbR (ix (ix h.Mons m mZ).Tables g kZ) p)},zcp h.Buffer (zd8 m g) p,zcp h.IoBuffer (zd8 m g) p⟩
def zZt (H:Host)(m g p:Int)(o:Host->Ans):OA:=
 bif inb m (ln H.Mons) then (bif inb m (ln H.Mons) then (bif inb g (ln (ix H.Mons m mZ).Tables) then (bif zdy (ix (ix H.Mons m mZ).Tables g kZ) p then (bif inb g (ln (ix H.Mons m mZ).Tables) then (share (up H.Mons m {ix H.Mons m mZ with Tables:=up (ix H.Mons m mZ).Tables g (zbR (ix (ix H.Mons m mZ).Tables g kZ) p)}) λx=>
  (cond (zhm m g) (cond (zfd H.Buffer (zd8 m g) p) (cond (zhm m g) (cond (zfd H.IoBuffer (zd8 m g) p) (some<|o ⟨H.Memory,x,zcp H.Buffer (zd8 m g) p,zcp H.IoBuffer (zd8 m g) p⟩) none) none) none) none)) else none) else none) else none) else none) else none
theorem zZu {H:Host}{m g p:Int}{o:Host->Ans}(b:SmH H)(a:hasB m (ln H.Mons)=true)(hg:hasB g (ln (ix H.Mons m mZ).Tables)=true):zZt H m g p o=some (o<|zAh H m g p):=by have c:=b.2.1.2 _ (zbv a mZ);unfold zZt;exact must (zy a) (must (zy a)<|must (zy hg)<|must (zbo<|c.2.2.2.2.2.2 _<|zbv hg _)<|must (zy hg)<|shr (must rfl (must (zbo b.2.2.1) (must rfl (must (zbo b.2.2.2) rfl)))))
def zib (h:Host)(m g p:Int):Host:=bif zcH h m then (cond (zcb (zA h m) g<|hasB p 4) (zAh (zc8 h m<|chg (zA h m) g (hasB p 4)<|zeb (gAt (zA h m) g) p) m g p) h) else h
@[simp] abbrev zrx (h:Host)(m g p:Int):Bool:=pc (zbX h)
@[simp] abbrev zmM (h:Host)(m g p:Int):Host:=zib h m g p
theorem zVc {h:Host}{m:Int}(a:hasB m (ln h.Mons)=true):(zA h m).Guests=(ix h.Mons m mZ).Guests:=by unfold zA;rw[a];rfl
theorem zNY {h:Host}{m g:Int}{k:Bool}(i:SmH h)(e:zcH h m=true)(b:Bare)(a:zcb (zA h m) g k=true):hasB g (ln (ix (zc8 h m b).Mons m mZ).Tables)=true:=by obtain⟨f,c⟩:=zcC.1 e;rw[z5s b c];show hasB g (ln (ix h.Mons m mZ).Tables)=true;rw[ln,((ze9 i f).1.2 _ (zbv c mZ)).2.2.2,<- zVc c];unfold zcb at a;cases d:zcd (zA h m) g;{rw [d]at a;cases a};{exact(zdV.1 d).2}
def zuq:Run:=rF4 dH dI dI dI λb c d e=>(zrx b c d e,[aH<|zmM b c d e,aB<|zjU b c d e])
def zyi (N:Nat)(i:Host)(a b c:Int):OA:=
 let h:=zkc a b;let e:=zk i;let g:=ix e.Mons a zf;let d:=zht e a<|zfb (zbG g) b c;let f:=ix d.Mons a zf;let j:=ix f.Tables b zc3; (oN (zbi i)<|oN (zfS e a)<|cond (nB<|zfR e a) (some [aH e,aB false])<|oN (inb a<|ln e.Mons)<|oN (ze7 g)<|oN (zru (zbG g) b c)<|cond (nB<|zh0 (zbG g) b c) (some [aH e,aB false])<|oN (ze6 e a<|zfb (zbG g) b c)<|oN (inb a<|ln d.Mons)<|oN (inb a<|ln d.Mons)<|oN (inb b<|ln f.Tables)<|oN (zdy j c)<|oN (inb b<|ln f.Tables)<|share (up d.Mons a ({f with Tables:=(up f.Tables b<|zgZ j c)}:Mon)) λk=>oN (zhm a b)<|oN (zfd d.Buffer h c)<|oN (zhm a b)<|oN (zfd d.IoBuffer h c)<|some [aH (⟨d.Memory,k,zhi d.Buffer h c,zhi d.IoBuffer h c⟩:Host),aB true])
theorem zJf (a:Host)(c d e:Int)(j:zbB big [aH a,aI c,aI d,aI e])(q:zrx a c d e=true):∃N,zyi N a c d e=some [aH<|zmM a c d e,aB<|zjU a c d e]:=by
 have k:=(zM a).1 (zJ.1 q);refine⟨0,?_⟩;unfold zyi zmM zjU zib zgO oN nB;conv=>zeta
 refine must q (must rfl ?_);rw[show zfR (zk a) c=zcH a c from rfl];cases h:zcH a c;{rfl};{obtain⟨v,f⟩:=zcC.1 h;have r:=k.2.1.2 _ (zbv f mZ);have l:=zfi r;have i:=zjm h (znx h);have u:zcb (zcZ<|ix a.Mons c mZ) d (hasB e 4)=zcb (zA a c) d (hasB e 4):=zll i _ _;have s:zc8 a c (zfb (zcZ<|ix a.Mons c mZ) d e)=zc8 a c (chg (zA a c) d (hasB e 4)<|zeb (gAt (zA a c) d) e):=(by rw[<- i.at];exact zpd i _ _ _ _ _);refine zcQ rfl (must (zy f)<|must (zbo r)<|must (zbo l) ?_);rw[show zh0 (zbG<|ix (zk a).Mons c zf) d e=zcb (zA a c) d (hasB e 4) from u];cases t:zcb (zA a c) d (hasB e 4);{rfl};{have j:SmB (zfb (zcZ<|ix a.Mons c mZ) d e):=zpO l (zJV _<|zje _ l);refine zcQ rfl (must (zbo ⟨f,j.2.1⟩) ?_);have n:=zZu (H:=zc8 a c (zfb (zcZ<|ix a.Mons c mZ) d e)) (m:=c) (g:=d) (p:=e) (o:=λH=>[.agg<|zbe H,.one<|.b true]) (zGs k f j.2.1) (zQF _ f) (zNY k h _ t);refine(show _=_ from n).trans ?_;rw[s];rfl}}
theorem zCz:vQ 321 zuq:=hF4 zNJ zq zbW zc7 (zx []) zJf
def zY2:zV:=[(321,zuq)]++zY1
theorem zNK:zL zY2:=zh zCz zNJ
def zS2 (h:Host)(m p c v:Int):Host:={mended h m p 2 with Memory:=zbD (mended h m p 2).Memory (ix (ix (mended h m p 2).Mons m mZ).Outer p sZ).Page c v}
def zfa (h:Host)(m p c v:Int):Bool:=bif zb1 h m p then (cond (hasB c 4) (zi v 0 99) false) else false
def zjz (h:Host)(m p c v:Int):Host:=bif zfa h m p c v then zS2 h m p c v else h
@[simp] abbrev ztj (h:Host)(m p c v:Int):Bool:=pc (zbX h)
@[simp] abbrev zoE (h:Host)(m p c v:Int):Host:=zjz h m p c v
@[simp] abbrev zoF (h:Host)(m p c v:Int):Bool:=zfa h m p c v
def z5b (H:Host)(m p c v:Int)(o:Host->Ans):OA:=
 bif zhq H m p 2 then (cond (inb m<|ln (mended H m p 2).Mons) (cond (inb p<|ln (ix (mended H m p 2).Mons m mZ).Outer) (cond (ze5 (mended H m p 2).Memory (ix (ix (mended H m p 2).Mons m mZ).Outer p sZ).Page c v) (some<|o<|zS2 H m p c v) none) none) none) else none
theorem z2E {h:Host}{m p c v:Int}{o:Host->Ans}(j:SmH h)(i:zb1 h m p=true):z5b h m p c v o=some (o<|zS2 h m p c v):=by obtain⟨g,b,a⟩:=ziw.1 i;have f:=ze9 j g;obtain⟨d,e⟩:=ztt (n:=2) f b a;unfold z5b;refine must (zbo ⟨f,b,a,.inr rfl,zrU (zhe g _<|zbv b mZ) a⟩) (must (zy e)<|must (zy ?_) (must (zbo d.1.1) rfl));rw[ln,(d.2 _<|zbv e mZ).1];exact a
def zwr:Run:=rF5 dH dI dI dI dI λb c d e f=>(ztj b c d e f,[aH<|zoE b c d e f,aB<|zoF b c d e f])
def zzI (N:Nat)(g:Host)(b c:Int)(e f:Int):OA:=
 let a:=zk g;let d:=zgI a b c 2;let h:=(ix d.Mons b zf).Outer;let i:=(ix h c zN).Page; (oN (zbi g)<|oN (zjl a b c)<|cond (nB<|zes a b c) (some [aH a,aB false])<|oN (zG e 0 3)<|cond (nB<|zi e 0 3) (some [aH a,aB false])<|oN (zG f 0 99)<|cond (nB<|zi f 0 99) (some [aH a,aB false])<|oN (zhq a b c 2)<|oN (inb b<|ln d.Mons)<|oN (inb c<|ln h)<|oN (ze5 d.Memory i e f)<|some [aH ({d with Memory:=(zfe d.Memory i e f)}:Host),aB true])
theorem zMc (d:Host)(f g:Int)(a e:Int)(i:ztj d f g a e=true):∃N,zzI N d f g a e=some [aH<|zoE d f g a e,aB<|zoF d f g a e]:=by
 have k:=(zM d).1 (zJ.1 i);refine⟨0,?_⟩;unfold zzI zoE zoF zjz zfa oN nB;conv=>zeta
 refine must i (must rfl ?_);rw[show zes (zk d) f g=zb1 d f g from rfl];cases j:zb1 d f g;{rfl};{refine zcQ rfl (must rfl ?_);rw[show zi a 0 3=hasB a 4 from z8q a];cases l:hasB a 4;{rfl};{refine zcQ rfl (must rfl ?_);rw[show zi e 0 99=zi e 0 99 from rfl];cases m:zi e 0 99;{rfl};{have h:=z2E (c:=a) (v:=e) (o:=λH=>[.agg<|zbe H,.one<|.b true]) k j;exact zcQ rfl (show _=_ from h)}}}
theorem zFF:vQ 326 zwr:=kF5 zNK zq zbW zc7 (zx []) zMc
def zY3:zV:=[(326,zwr)]++zY2
theorem zY4:zL zY3:=zh zFF zNK
def zY5:zV:=zY3
theorem zAb:zL zY5:=zY4
theorem zZZ (h:Host)(b:List Entry)(m g c a:Int)(e:Bool):(lookOf h b m g c a e).2.2=zbO h m g c a:=by cases d:zbO h m g c a;{rw [zhA d]};{rw [zGe d];unfold zfu zeK;generalize zhx b m g c a=x;cases x;{generalize zer _ m g c a=y;cases y<;>rfl};{rfl}}
theorem z6u {h:Host}{m g c a:Int}(b:List Entry)(i:Bool)(f:SmH h)(d:zbO h m g c a=true):SmM (lookOf h b m g c a i).1.Memory:=by have hg:zbJ h m g=true:=(by unfold zbO at d;cases e:zbJ h m g;{rw [e]at d;cases d};{rfl});exact(zsj f hg).shape.1.1
def zAF (h:Host)(m g a n:Int):Host×Int×Bool:=lookOf h h.IoBuffer m g (zbb a) n true
def zgy (h:Host)(m g a v:Int):Bool:=bif zi a 0 15 then (cond (zi v 0 99) (zbO h m g (zbb a) 2) false) else false
def zlt (h:Host)(m g a v:Int):Host:=bif zgy h m g a v then { (zAF h m g a 2).1 with Memory:=zbD (zAF h m g a 2).1.Memory (zAF h m g a 2).2.1 (zdh a) v} else h
def zfJ (h:Host)(m g a:Int):Bool:=bif zi a 0 15 then zbO h m g (zbb a) 1 else false
def zjA (h:Host)(m g a:Int):Host:=bif zfJ h m g a then (zAF h m g a 1).1 else h
def zqO (h:Host)(m g a:Int):Int:=bif zfJ h m g a then cellAt (zAF h m g a 1).1.Memory (zAF h m g a 1).2.1 (zdh a) else 0
@[simp] abbrev zvf (h:Host)(m g a v:Int):Bool:=pc (zbX h)
@[simp] abbrev zqp (h:Host)(m g a v:Int):Host:=zlt h m g a v
@[simp] abbrev zqq (h:Host)(m g a v:Int):Bool:=zgy h m g a v
@[simp] abbrev ztl (h:Host)(m g a:Int):Bool:=pc (zbX h)
@[simp] abbrev zoG (h:Host)(m g a:Int):Host:=zjA h m g a
@[simp] abbrev zoH (h:Host)(m g a:Int):Int:=zqO h m g a
@[simp] abbrev zoI (h:Host)(m g a:Int):Bool:=zfJ h m g a
def zyH:Run:=rF5 dH dI dI dI dI λb c d e f=>(zvf b c d e f,[aH<|zqp b c d e f,aB<|zqq b c d e f])
def zDv (N:Nat)(g:Host)(c d:Int)(a e:Int):OA:=
 let b:=zk g;let h:=zkg b b.IoBuffer c d (zbP a) 2 true;let f:=zfE b b.IoBuffer c d (zbP a) 2 true; (oN (zbi g)<|oN (zG a 0 15)<|cond (nB<|zi a 0 15) (some [aH b,aB false])<|oN (zG e 0 99)<|cond (nB<|zi e 0 99) (some [aH b,aB false])<|oN (zbL a)<|oN (zkh b b.IoBuffer c d (zbP a) 2 true)<|cond (nB<|zhs b b.IoBuffer c d (zbP a) 2 true) (some [aH f,aB false])<|oN (zbL a)<|oN (ze5 f.Memory h (zc0 a) e)<|some [aH ({f with Memory:=(zfe f.Memory h (zc0 a) e)}:Host),aB true])
theorem zPt (a:Host)(c d:Int)(b e:Int)(f:zvf a c d b e=true):∃N,zDv N a c d b e=some [aH<|zqp a c d b e,aB<|zqq a c d b e]:=by
 have h:=(zM a).1 (zJ.1 f);refine⟨0,?_⟩;unfold zDv zqp zqq zlt zgy oN nB;conv=>zeta
 refine must f (must rfl ?_);rw[show zi b 0 15=zi b 0 15 from rfl];cases i:zi b 0 15;{rfl};{refine zcQ rfl (must rfl ?_);rw[show zi e 0 99=zi e 0 99 from rfl];cases j:zi e 0 99;{rfl};{refine zcQ rfl (must rfl (must f ?_));rw[show zhs (zk a) (zk a).IoBuffer c d (zbP b) 2 true=zbO a c d (zbb b) 2 from zZZ _ _ _ _ _ _ _];cases g:zbO a c d (zbb b) 2;{rw [show zfE (zk a) (zk a).IoBuffer c d (zbP b) 2 true=a from congrArg Prod.fst (zhA g)];rfl};{exact zcQ rfl (must rfl (must (zbo<|z6u a.IoBuffer true h g) rfl))}}}
theorem zIo:vQ 329 zyH:=kF5 zAb zq zbW zc7 (zx []) zPt
def zwu:Run:=rF4 dH dI dI dI λb c d e=>(ztl b c d e,[aH<|zoG b c d e,aI<|zoH b c d e,aB<|zoI b c d e])
def zzK (N:Nat)(f:Host)(c d a:Int):OA:=
 let b:=zk f;let g:=zkg b b.IoBuffer c d (zbP a) 1 true;let e:=zfE b b.IoBuffer c d (zbP a) 1 true; (oN (zbi f)<|oN (zG a 0 15)<|cond (nB<|zi a 0 15) (some [aH b,aI 0,aB false])<|oN (zbL a)<|oN (zkh b b.IoBuffer c d (zbP a) 1 true)<|cond (nB<|zhs b b.IoBuffer c d (zbP a) 1 true) (some [aH e,aI 0,aB false])<|oN (zbL a)<|oN (zff e.Memory g<|zc0 a)<|some [aH e,aI<|zgf e.Memory g<|zc0 a,aB true])
theorem zMe (a:Host)(c d b:Int)(e:ztl a c d b=true):∃N,zzK N a c d b=some [aH<|zoG a c d b,aI<|zoH a c d b,aB<|zoI a c d b]:=by
 have h:=(zM a).1 (zJ.1 e);refine⟨0,?_⟩;unfold zzK zoG zoH zoI zjA zqO zfJ oN nB;conv=>zeta
 refine must e (must rfl ?_);rw[show zi b 0 15=zi b 0 15 from rfl];cases g:zi b 0 15;{rfl};{refine zcQ rfl (must rfl (must e ?_));rw[show zhs (zk a) (zk a).IoBuffer c d (zbP b) 1 true=zbO a c d (zbb b) 1 from zZZ _ _ _ _ _ _ _];cases f:zbO a c d (zbb b) 1;{rw [show zfE (zk a) (zk a).IoBuffer c d (zbP b) 1 true=a from congrArg Prod.fst (zhA f)];rfl};{exact zcQ rfl (must rfl (must rfl rfl))}}
theorem zFH:vQ 330 zwu:=kF4 zAb zq zbW zc7 (zx []) zMe
def zY6:zV:=[(329,zyH),(330,zwu)]++zY5
theorem zY7:zL zY6:=zh zIo (zh zFH zAb)
def zY8:zV:=[(198,zpF),(99,zpD)]++zY6
theorem zNL:zL zY8:=zh zsR (zh zsQ zY7)
def zj7:Kept:=⟨rp 4 false,zk9⟩
@[simp] abbrev zvj (n:Int):Bool:=ieq n 4
@[simp] abbrev zuF (n:Int):Kept:=zj7
def zyL:Run:=rF1 dI λb=>(zvj b,[aT .kept<|zuF b])
def zT8 (N:Nat)(b:Int):OA:=
 let a:=ln<|zhc b; (oN (zi8 b)<|oN (cond (few a) (ieq a a) false)<|some [aT .kept (⟨rp a false,zhc b⟩:Kept)])
theorem zPx (a:Int)(b:zvj a=true):∃N,zT8 N a=some [aT .kept<|zuF a]:=by refine⟨0,?_⟩;have h:a=4:=qD b;subst h;change _=_;kernel_rfl
theorem zIs:vQ 355 zyL:=kF1 zNL zq zbW zc7 (zx []) zPx
def zY9:zV:=[(355,zyL)]++zY8
theorem zNM:zL zY9:=zh zIs zNL
def ztv:List Slot:=List.replicate 8 ⟨-1,0⟩
def zg4 (a:List (List Ins)):Mon:=⟨ztv,zMv,rp 8 false,(a.take 2).map zfh,[],0,0,(a.take 2).map λ_=>zj7,0⟩
theorem zJk {d a b q:Type}(m:Nat)(f:d->a)(g:d->b)(K:List a×List b->Option q):∀(l:List d) (i:Nat) (u:List a×List b),u.1.length+l.length<=2147483648->u.2.length+l.length<=2147483648->
 goL (λ(i:Nat) x (u:List a×List b) k=>bif ilt (i:Int) (m:Int) then (cond (few<|ln<|ap u.1 [f x]) (cond (few<|ln<|ap u.2 [g x]) (k (ap u.1 [f x],ap u.2 [g x])) none) none) else K u) K l i u=K (u.1++(l.take<|m-i).map f,u.2++(l.take<|m-i).map g)
 |[],i,u,_,_=>by simp[goL]
 |x::l,i,u,n,p=>by simp only[qV]at n p;have e:few (ln<|ap u.1 [f x])=true:=zf6 (by simp[ap];omega);have j:few (ln<|ap u.2 [g x])=true:=zf6 (by simp[ap];omega);by_cases h:i<m;{have c:ilt (i:Int) (m:Int)=true:=qK (by omega);simp only[goL,c,e,j,cT];rw[zJk m f g K l (i+1) _ (by simp[ap];omega) (by simp[ap];omega)];rw[show m-i=m-(i+1)+1 by omega];simp[ap]};{have c:ilt (i:Int) (m:Int)=false:=qI (by omega);simp only[goL,c,cF];rw[show m-i=0 by omega];simp}
def zZ6 (u:List Guest×List Kept):OA:=some [AV.agg<|Ty.cells .mon (⟨ztv,zMv,rp 8 false,u.1,[],0,0,u.2,0⟩:Mon)]
@[simp] abbrev zr5 (a:List (List Ins)):Bool:=pc (z7i a)
@[simp] abbrev zGo (a:List (List Ins)):Mon:=zg4 a
def zBi:Run:=rF1 (dS<|.sl .ins) λb=>(zr5 b,[aT .mon<|zGo b])
def zG6 (N:Nat)(k:lP):OA:=
 (oN (zi8 8)<|oN (zoJ 8)<|oN (cond (few 8) (ieq 8 8) false)<|iter (σ:=(Int×Int×Int×Int×Int×Int×Int×lP×lS×lM×lB×lG×(List Int)×lK×lS×lM×lB×lG×(List Int)×lK×Unit)) N (λl a=>let j:=a.2.2.2.2.2.2.2.2.2.2.2.2.2.2.1;let i:=a.2.2.2.2.2.2.2.2.2.2.2.2.2.2.2.1;let h:=a.2.2.2.2.2.2.2.2.2.2.2.2.2.2.2.2.1;let g:=a.2.2.2.2.2.2.2.2.2.2.2.2.2.2.2.2.2.1;let f:=a.2.2.2.2.2.2.2.2.2.2.2.2.2.2.2.2.2.2.1;let b:=a.2.2.2.2.2.2.2.1;let c:=a.2.2.2.2.2.2.2.2.2.2.2.2.2.2.2.2.2.2.2.1;let e:=ap g [zoC<|ix b a.1 []];let d:=aT .mon (⟨j,i,h,g,f,a.2.2.2.2.1,a.2.2.2.2.2.1,c,a.2.2.2.2.2.2.1⟩:Mon); (cond (ilt a.1<|ln b) (cond (ilt a.1 2) (oN (inb a.1<|ln b)<|oN (zoD<|ix b a.1 [])<|oN (few<|ln e)<|oN (zvj 4)<|oN (few<|ln<|ap c [zuF 4])<|l (zI .i64 a.1 1,a.2.1,a.2.2.1,a.2.2.2.1,a.2.2.2.2.1,a.2.2.2.2.2.1,a.2.2.2.2.2.2.1,b,a.2.2.2.2.2.2.2.2.1,a.2.2.2.2.2.2.2.2.2.1,a.2.2.2.2.2.2.2.2.2.2.1,a.2.2.2.2.2.2.2.2.2.2.2.1,a.2.2.2.2.2.2.2.2.2.2.2.2.1,a.2.2.2.2.2.2.2.2.2.2.2.2.2.1,j,i,h,e,f,ap c [zuF 4],()))<|some [d])<|some [d])) (0,0,0,0,0,0,0,k,[],[],[],[],[],[],zhc 8,zjK 8,rp 8 false,[],[],[],()))
def zTR:=zx [(316,0,{n:=36,tm:=[(0,.sl 0 []),(2,.lp 0 0),(3,.lp 1 0),(4,ti)],lo:=[(0,[.sl 1 [],.sl 2 [],.sl 3 [],.sl 4 [],.sl 5 [],ti,ti,.sl 6 [],ti]),(1,[.sl 7 [],.sl 8 [],.sl 9 [],.sl 10 [],.sl 11 [],ti,ti,.sl 12 [],ti])],ro:=[(0,.sl .ins,false),(1,.slot,true),(2,.sl .int,true),(3,.bool,true),(4,.guest,true),(5,.int,true),(6,.kept,true),(7,.slot,true),(8,.sl .int,true),(9,.bool,true),(10,.guest,true),(11,.int,true),(12,.kept,true)]})]
theorem zSj (a:List lI)(f:zr5 a=true):∃N,zG6 N a=some [aT .mon<|zGo a]:=by
 have e:=zJ.1 f;have c:=zcu e.1;refine zbZ λN d=>?_;unfold zG6 oN;conv=>zeta
 refine must rfl (must rfl (must rfl ?_));refine(zX a (λi (t:lG×lK)=>((i:Int),0,0,0,0,0,0,a,[],[],[],[],[],[],zhc 8,zjK 8,rp 8 false,t.1,[],t.2,())) _ (λi (x:List Ins) (u:List Guest×List Kept) h=>bif ilt (i:Int) ((2:Nat):Int) then (cond (few<|ln<|ap u.1 [zfh x]) (cond (few<|ln<|ap u.2 [zj7]) (h (ap u.1 [zfh x],ap u.2 [zj7])) none) none) else zZ6 u) (λ(t:lG×lK)=>some [.agg<|Ty.cells .mon (⟨zhc 8,zjK 8,rp 8 false,t.1,[],0,0,t.2,0⟩:Mon)]) (λi b t rec=>?_) (λt rec=>?_) _ ([],[])<|d c.1).trans ?_;{simp only [zbq b,zS b,zba b,zQ b c.1,cT];have g:zoD a[i]=true:=zbo (e.2 _<|jD b);simp only[g,cT];rfl};{simp only [zbl,cF]};exact zJk 2 zfh (λ_=>zj7) zZ6 a 0 ([],[]) (by simpa using c.2) (by simpa using c.2)
theorem zLp:vQ 316 zBi:=kF1 zNM zq zbW zc7 zTR zSj
def zZa:zV:=[(316,zBi)]++zY9
theorem zNN:zL zZa:=zh zLp zNM
def zXI:List (List Int):=List.replicate 12 [0,0,0,0]
def zfV (a:List (List<|List Ins)):Host:=⟨zXI,(a.take 3).map zg4,[],[]⟩
def zHq (a:List (List<|List Ins)):Prop:=a.length<=1048576/\∀p∈a,z7i p
@[simp] abbrev zvg (a:List (List<|List Ins)):Bool:=pc (zHq a)
@[simp] abbrev zhk (a:List (List<|List Ins)):Host:=zfV a
def zVR (t:List Mon):OA:=some [AV.agg<|zbe ⟨zXI,t,[],[]⟩]
def zyI:Run:=rF1 (dS<|.sl<|.sl .ins) λb=>(zvg b,[aH<|zhk b])
def zDw (N:Nat)(d:lQ):OA:=
 (oN (zoJ 12)<|iter (σ:=(Int×lQ×lM×lN×lE×lE×lM×lN×lE×lE×Unit)) N (λe a=>let c:=ap a.2.2.2.2.2.2.2.1 [zGo<|ix a.2.1 a.1 []];let b:=aH (⟨a.2.2.2.2.2.2.1,a.2.2.2.2.2.2.2.1,a.2.2.2.2.2.2.2.2.1,a.2.2.2.2.2.2.2.2.2.1⟩:Host); (cond (ilt a.1<|ln a.2.1) (cond (ilt a.1 3) (oN (inb a.1<|ln a.2.1)<|oN (zr5<|ix a.2.1 a.1 [])<|oN (few<|ln c)<|e (zI .i64 a.1 1,a.2.1,a.2.2.1,a.2.2.2.1,a.2.2.2.2.1,a.2.2.2.2.2.1,a.2.2.2.2.2.2.1,c,a.2.2.2.2.2.2.2.2.1,a.2.2.2.2.2.2.2.2.2.1,()))<|some [b])<|some [b])) (0,d,[],[],[],[],zjK 12,[],[],[],()))
def zPX:=zx [(269,0,{n:=28,tm:=[(0,.sl 0 []),(2,.lp 0 0),(3,.lp 1 0),(4,ti)],lo:=[(0,[.sl 1 [],.sl 2 [],.sl 3 [],.sl 4 []]),(1,[.sl 5 [],.sl 6 [],.sl 7 [],.sl 8 []])],ro:=[(0,.sl<|.sl .ins,false),(1,.sl .int,true),(2,.mon,true),(3,.entry,true),(4,.entry,true),(5,.sl .int,true),(6,.mon,true),(7,.entry,true),(8,.entry,true)]})]
theorem zPu (a:List lP)(f:zvg a=true):∃N,zDw N a=some [aH<|zhk a]:=by
 have e:=zJ.1 f;have d:=zcu e.1;refine zbZ λN c=>?_;unfold zDw oN;conv=>zeta
 refine must rfl ?_;refine(zX a (λi (t:lN)=>((i:Int),a,[],[],[],[],zjK 12,t,[],[],())) _ (λi (x:List lI) (t:List Mon) h=>bif ilt (i:Int) ((3:Nat):Int) then (cond (few<|ln<|ap t [zg4 x]) (h<|ap t [zg4 x]) none) else zVR t) (λ(t:lN)=>some [.agg<|zbe (⟨zjK 12,t,[],[]⟩:Host)]) (λi b t rec=>?_) (λt rec=>?_) _ ([])<|c d.1).trans ?_;{simp only [zbq b,zS b,zba b,zQ b d.1,cT];have g:zr5 a[i]=true:=zbo (e.2 _<|jD b);simp only[g,cT];rfl};{simp only [zbl,cF]};exact zN8 3 zg4 zVR a 0 [] (by simpa using d.2)
theorem zIp:vQ 269 zyI:=kF1 zNN zq zbW zc7 zPX zPu
def zZb:zV:=[(269,zyI)]++zZa
theorem zNO:zL zZb:=zh zIp zNN
def ziS:Nat->Nat->Kept->Kept
 | 0,_,k=>k
 |n+1,i,k=>ziS n (i+1) (zbR k (i:Int))
def zju (k:Kept):Kept:=ziS k.Known.length 0 k
theorem zXn (k:Kept)(p:Int):(zbR k p).Known.length=k.Known.length:=by unfold zbR;cases zdc k p;{rfl};{exact zg5 _ _ _}
theorem zvn:∀(n i:Nat) (k:Kept),SmK k->SmK (ziS n i k)
 | 0,_,_,h=>h
 |n+1,i,k,h=>zvn n (i+1) _ (zo4 h)
@[simp] abbrev zvd (k:Kept):Kept:=zju k
def zup:Run:=rF1 (dT .kept) λb=>(zeu b,[aT .kept<|zvd b])
def zyh (N:Nat)(c:Kept):OA:=
 (oN (zgr c)<|iter (σ:=(Int×lB×lS×lB×lS×Unit)) N (λd a=>let b:=(⟨a.2.1,a.2.2.1⟩:Kept); (cond (ilt a.1<|ln a.2.1) (oN (zdy b a.1)<|d (zI .i64 a.1 1,(zgZ b a.1).Known,(zgZ b a.1).Slots,a.2.2.2.1,a.2.2.2.2.1,()))<|some [aT .kept b])) (0,(zdO c).Known,(zdO c).Slots,[],[],()))
def zKg:=zx [(387,0,{n:=17,tm:=[(1,.lp 0 0),(2,.lp 1 0),(3,ti)],lo:=[(0,[.sl 0 [],.sl 1 []]),(1,[.sl 2 [],.sl 3 []])],ro:=[(0,.bool,true),(1,.slot,true),(2,.bool,true),(3,.slot,true)]})]
theorem zJd (a:Kept)(g:zeu a=true):∃N,zyh N a=some [aT .kept<|zvd a]:=by
 have d:=zJ.1 g;have f:=zcu d.1;refine zbZ λN c=>?_;unfold zyh oN;conv=>zeta
 refine must (zbj<|(zvH _).2 d) ?_;refine(zB3 a.Known.length (λi (k:Kept)=>((i:Int),k.Known,k.Slots,[],[],())) _ (λi k=>SmK k/\k.Known.length=a.Known.length) (λi k=>some [AV.agg<|Ty.cells .kept<|ziS (a.Known.length-i) i k]) (λi k rec e b h=>?_) (λk rec b=>?_) N 0 a ⟨d,rfl⟩ (jS _)<|c f.1).trans rfl;{refine must (zbq (by rw[b.2];exact e)) (must (zbo b.1) ?_);have q:=h (zbR k (i:Int)) ⟨zo4 b.1,by rw[zXn];exact b.2⟩;rw[show a.Known.length-i=a.Known.length-(i+1)+1 by omega];rw[zQ e f.1];exact q};{refine zcQ (by show ilt (a.Known.length:Int) (ln k.Known)=false;rw[ln,b.2];exact qI (by omega)) ?_;rw[uD];rfl}
theorem zCy:vQ 387 zup:=kF1 zNO zq zbW zc7 zKg zJd
def zZc:zV:=[(387,zup)]++zZb
theorem zNP:zL zZc:=zh zCy zNO
def ztP:Nat->Nat->List Kept->List Kept
 | 0,_,l=>l
 |n+1,j,l=>ztP n (j+1) (up l (j:Int)<|zju<|ix l (j:Int) kZ)
def ztQ (x:Mon)(n j:Nat):Mon:={x with Tables:=ztP n j x.Tables}
def znG:Nat->Nat->List Mon->List Mon
 | 0,_,t=>t
 |n+1,i,t=>znG n (i+1) (up t (i:Int)<|ztQ (ix t (i:Int) mZ) (ix t (i:Int) mZ).Tables.length 0)
def cold (h:Host):Host:=⟨h.Memory,znG h.Mons.length 0 h.Mons,[],[]⟩
theorem zJX:∀(n j:Nat) (l:List Kept),j+n<=l.length->zzY l->zzY (ztP n j l)
 | 0,_,_,_,h=>h
 |n+1,j,l,b,h=>by have a:j<l.length:=(by omega);refine zJX n (j+1) _ (by rw[zg5];omega) (zwJ h<|zvn _ _ _ ?_);rw[zba a];exact h.2 _ (jD a)
theorem zJZ {x:Mon}(h:zf2 x){n j:Nat}(a:j+n<=x.Tables.length):zf2 (ztQ x n j):=⟨h.1,h.2.1,h.2.2.1,h.2.2.2.1,h.2.2.2.2.1,zJX n j _ a h.2.2.2.2.2⟩
@[simp] abbrev zS6 (h:Host):Host:=cold h
def zJJ:Run:=rF1 dH λb=>(zbi b,[aH<|zS6 b])
def zQr (N:Nat)(d:Host):OA:=
 (oN (zbi d)<|iter (σ:=(Int×lM×lN×lE×lE×lM×lN×lE×lE×Unit)) N (λg b=>cond (ilt b.1<|ln b.2.2.1) (iter (σ:=(Int×Int×lM×lN×lE×lE×lM×lN×lE×lE×Unit)) N (λh a=>let e:=inb a.1<|ln a.2.2.2.1;let c:=ix a.2.2.2.1 a.1 zf;let f:=ix c.Tables a.2.1 zc3; (oN e<|cond (ilt a.2.1<|ln c.Tables) (oN e<|oN e<|oN (inb a.2.1<|ln c.Tables)<|oN (zeu f)<|oN (inb a.2.1<|ln c.Tables)<|share (up a.2.2.2.1 a.1 ({c with Tables:=(up c.Tables a.2.1<|zvd f)}:Mon)) λi=>h (a.1,zI .i64 a.2.1 1,a.2.2.1,i,a.2.2.2.2.1,a.2.2.2.2.2.1,a.2.2.2.2.2.2.1,a.2.2.2.2.2.2.2.1,a.2.2.2.2.2.2.2.2.1,a.2.2.2.2.2.2.2.2.2.1,()))<|g (zI .i64 a.1 1,a.2.2.1,a.2.2.2.1,a.2.2.2.2.1,a.2.2.2.2.2.1,a.2.2.2.2.2.2.1,a.2.2.2.2.2.2.2.1,a.2.2.2.2.2.2.2.2.1,a.2.2.2.2.2.2.2.2.2.1,()))) (b.1,0,b.2.1,b.2.2.1,b.2.2.2.1,b.2.2.2.2.1,b.2.2.2.2.2.1,b.2.2.2.2.2.2.1,b.2.2.2.2.2.2.2.1,b.2.2.2.2.2.2.2.2.1,()))<|some [aH (⟨b.2.1,b.2.2.1,[],[]⟩:Host)]) (0,(zk d).Memory,(zk d).Mons,(zk d).Buffer,(zk d).IoBuffer,[],[],[],[],()))
def zYv:=zx [(360,0,{n:=48,tm:=[(1,.lp 0 0),(2,.lp 1 0),(3,ti)],lo:=[(0,[.sl 0 [],.sl 1 [],.sl 2 [],.sl 3 []]),(1,[.sl 4 [],.sl 5 [],.sl 6 [],.sl 7 []])],ro:=[(0,.sl .int,true),(1,.mon,true),(2,.entry,true),(3,.entry,true),(4,.sl .int,true),(5,.mon,true),(6,.entry,true),(7,.entry,true)]}),(360,2,{n:=48,tm:=[(1,.lp 0 0),(2,.lp 1 0),(3,ti),(4,ti)],lo:=[(0,[.sl 0 [],.sl 1 [],.sl 2 [],.sl 3 []]),(1,[.sl 4 [],.sl 5 [],.sl 6 [],.sl 7 []])],ro:=[(0,.sl .int,true),(1,.mon,true),(2,.entry,true),(3,.entry,true),(4,.sl .int,true),(5,.mon,true),(6,.entry,true),(7,.entry,true)]})]
theorem zXG (a:Host)(m:zbi a=true):∃N,zQr N a=some [aH<|zS6 a]:=by
 have v:=(zM a).1 (zJ.1 m);have s:=zcu v.2.1.1;refine zbZ λN f=>?_;unfold zQr oN;conv=>zeta
 refine must m ?_;refine(zB3 a.Mons.length (λi (t:List Mon)=>((i:Int),a.Memory,t,a.Buffer,a.IoBuffer,[],[],[],[],())) _ (λi t=>zqA t/\t.length=a.Mons.length) (λi t=>some [AV.agg<|zbe ⟨a.Memory,znG (a.Mons.length-i) i t,[],[]⟩]) (λi t rec n e x=>?_) (λt rec e=>?_) N 0 a.Mons ⟨v.2.1,rfl⟩ (jS _)<|f s.1).trans rfl
 .have hit:i<t.length:=(by rw[e.2];exact n);have l:zf2 (ix t (i:Int) mZ):=by rw[zba hit];exact e.1.2 _ (jD hit)
  have r:=zcu l.2.2.2.2.2.1;refine must (zbq hit) ?_;refine(zB3 (ix t (i:Int) mZ).Tables.length (λj (u:List Mon)=>((i:Int),(j:Int),a.Memory,u,a.Buffer,a.IoBuffer,[],[],[],[],()))
   _ (λj u=>u.length=t.length/\zf2 (ix u (i:Int) mZ)/\(ix u (i:Int) mZ).Tables.length=(ix t (i:Int) mZ).Tables.length)
   (λj u=>rec (((i+1:Nat):Int),a.Memory,up u (i:Int)<|ztQ (ix u (i:Int) mZ) ((ix t (i:Int) mZ).Tables.length-j) j,a.Buffer,a.IoBuffer,[],[],[],[],()))
   (λj u h p c k=>?_) (λu h c=>?_) N 0 t ⟨rfl,l,rfl⟩ (jS _) (f r.1)).trans ?_
  .have b:i<u.length:=(by rw[c.1];exact hit);have d:j<(ix u (i:Int) mZ).Tables.length:=(by rw[c.2.2];exact p);have g:SmK (ix (ix u (i:Int) mZ).Tables (j:Int) kZ):=by rw[zba d];exact c.2.1.2.2.2.2.2.2 _ (jD d)
   refine must (zS b) (must (zbq d)<|must (zS b)<|must (zS b)<|must (zS d)<|must (zbo g)<|must (zS d)<|shr ?_);have w:zf2 {ix u (i:Int) mZ with Tables:=up (ix u (i:Int) mZ).Tables (j:Int) (zju<|ix (ix u (i:Int) mZ).Tables (j:Int) kZ)} :=
    ⟨c.2.1.1,c.2.1.2.1,c.2.1.2.2.1,c.2.1.2.2.2.1,c.2.1.2.2.2.2.1,zwJ c.2.1.2.2.2.2.2<|zvn _ _ _ g⟩
   have q:=k (up u (i:Int) {ix u (i:Int) mZ with Tables:=up (ix u (i:Int) mZ).Tables (j:Int) (zju<|ix (ix u (i:Int) mZ).Tables (j:Int) kZ)}) ⟨by rw[zg5];exact c.1,by rw[zef b];exact w,by rw[zef b];simp only[zg5];exact c.2.2⟩;rw[zQ p r.1];refine q.trans ?_;rw[zef b,zuN,show (ix t (i:Int) mZ).Tables.length-j=(ix t (i:Int) mZ).Tables.length-(j+1)+1 by omega];rfl
  {have b:i<u.length:=(by rw[c.1];exact hit);refine must (zS b) (zcQ (by show ilt ((ix t (i:Int) mZ).Tables.length:Int) (ln (ix u (i:Int) mZ).Tables)=false;rw[ln,c.2.2];exact qI (by omega)) ?_);rw[zQ n s.1,uD];show rec (_,a.Memory,u,_)=rec (_,a.Memory,up u (i:Int)<|ix u (i:Int) mZ,_);rw[zM4 b]};{have q:=x (up t (i:Int)<|ztQ (ix t (i:Int) mZ) (ix t (i:Int) mZ).Tables.length 0) ⟨zjn e.1<|zJZ l (by omega),by rw[zg5];exact e.2⟩;refine q.trans ?_;rw[show a.Mons.length-i=a.Mons.length-(i+1)+1 by omega];rfl}
 {refine zcQ (by show ilt (a.Mons.length:Int) (ln t)=false;rw[ln,e.2];exact qI (by omega)) ?_;rw[uD];rfl}
theorem zRF:vQ 360 zJJ:=kF1 zNP zq zbW zc7 zYv zXG
def zZd:zV:=[(360,zJJ)]++zZc
theorem zZe:zL zZd:=zh zRF zNP
def zZf:zV:=zZd
theorem zNQ:zL zZf:=zZe
theorem zy1:∀(n i:Nat) (t:List Mon),i+n<=t.length->zqA t->zqA (znG n i t)
 | 0,_,_,_,h=>h
 |n+1,i,t,b,h=>by have a:i<t.length:=(by omega);refine zy1 n (i+1) _ (by rw[zg5];omega) (zjn h<|zJZ ?_ (by omega));rw[zba a];exact h.2 _ (jD a)
theorem z2Z {h:Host}(a:SmH h):SmH (cold h):=⟨a.1,zy1 _ _ _ (by omega) a.2.1,by simp[cold],by simp[cold]⟩
theorem znb {h:Host}{m:Int}{b:Bare}(c:SmH h)(d:zcH h m=true->SmB b):SmH (zgN h m b):=by unfold zgN;cases a:zcH h m;{exact c};{exact zGs c (zcC.1 a).2 (d a).2.1}
theorem z0K {h:Host}{m g p:Int}(c:SmH h):SmH (zib h m g p):=by unfold zib;cases e:zcH h m;{exact c};{cases l:zcb (zA h m) g (hasB p 4);{exact c};{have d:=(zcC.1 e).2;have f:=zGr c d;have k:SmB (chg (zA h m) g (hasB p 4)<|zeb (gAt (zA h m) g) p):=zpO f (zJV _<|zje _ f);have b:=zGs c d k.2.1;have i:=zQF (chg (zA h m) g (hasB p 4)<|zeb (gAt (zA h m) g) p) d;have j:=zNY c e (chg (zA h m) g (hasB p 4)<|zeb (gAt (zA h m) g) p) l;have a:=b.2.1.2 _ (zbv i mZ);simp only[cT];exact⟨b.1,zjn b.2.1 ⟨a.1,a.2.1,a.2.2.1,a.2.2.2.1,a.2.2.2.2.1,zwJ a.2.2.2.2.2<|zo4<|a.2.2.2.2.2.2 _<|zbv j _⟩,jC (zxe _ _ _) b.2.2.1,jC (zxe _ _ _) b.2.2.2⟩}}
theorem z3a {h:Host}{m p c v:Int}(e:SmH h):SmH (zjz h m p c v):=by unfold zjz;cases a:zfa h m p c v;{exact e};{have f:zb1 h m p=true:=(by unfold zfa at a;cases b:zb1 h m p;{rw [b]at a;cases a};{rfl});obtain⟨g,i,b⟩:=ziw.1 f;have d:=(ztt (n:=2) (ze9 e g) i b).1.1;exact⟨zxW d.1,d.2⟩}
theorem zSB {h:Host}{m g c a:Int}(b:List Entry)(i:Bool)(f:SmH h)(d:zbO h m g c a=true):SmH (lookOf h b m g c a i).1:=by have hg:zbJ h m g=true:=(by unfold zbO at d;cases e:zbJ h m g;{rw [e]at d;cases d};{rfl});exact(zsj f hg).shape.1
theorem z7a {h:Host}{m g a v:Int}(e:SmH h):SmH (zlt h m g a v):=by unfold zlt;cases b:zgy h m g a v;{exact e};{have f:zbO h m g (zbb a) 2=true:=(by unfold zgy at b;cases c:zi a 0 15;{rw [c]at b;cases b};{cases d:zi v 0 99;{rw [c,d]at b;cases b};{rw [c,d]at b;exact b}});have c:=zSB h.IoBuffer true e f;exact⟨zxW c.1,c.2⟩}
theorem z3b {h:Host}{m g a:Int}(d:SmH h):SmH (zjA h m g a):=by unfold zjA;cases b:zfJ h m g a;{exact d};{have e:zbO h m g (zbb a) 1=true:=(by unfold zfJ at b;cases c:zi a 0 15;{rw [c]at b;cases b};{rw [c]at b;exact b});exact zSB h.IoBuffer true d e}
theorem zWp {h:Host}{m p:Int}(a:SmH h):SmH (zeL h m p):=by unfold zeL;cases b:zb1 h m p;{exact a};{obtain⟨c,d,e⟩:=ziw.1 b;cases zgM h m p;{exact(zJP (ze9 a c).1 d).1};{exact a}}
theorem z8l {h:Host}{m p:Int}(a:SmH h):SmH (znZ h m p):=by unfold znZ;cases b:zb1 h m p;{exact a};{obtain⟨c,d,e⟩:=ziw.1 b;cases zgM h m p;{exact a};{exact(zjZ (ze9 a c) d e).1.1}}
theorem z0O {h:Host}{m t:Int}(a:SmH h):SmH (zhR h m t):=by unfold zhR;cases zbM h;{exact a};{cases c:hasB m (ln h.Mons);{exact a};{cases zi t 0 3;{exact a};{have b:zf2 (ix h.Mons m mZ):=a.2.1.2 _ (zbv c mZ);exact⟨a.1,zjn a.2.1 ⟨b.1,b.2.1,b.2.2.1,b.2.2.2.1,b.2.2.2.2.1,b.2.2.2.2.2⟩,a.2.2⟩}}}
def zqP (h:Host)(a:GAct):Host:=bif ieq a.Kind 1 then (zbt h a.M a.G).1 else (cond (ieq a.Kind 2) (zmg h a.M a.G a.X ⟨a.Y,a.Z⟩)<|cond (ieq a.Kind 3) (zib h a.M a.G a.X)<|cond (ieq a.Kind 4) (ziZ h a.M a.G a.X)<|cond (ieq a.Kind 5) (zi3 h a.M a.G)<|cond (ieq a.Kind 6) (zi1 h a.M a.G a.X)<|cond (ieq a.Kind 7) (zme h a.M a.G ⟨a.X,a.Y,ieq a.Z 1⟩)<|cond (ieq a.Kind 8) (zjz h a.M a.X a.Y a.Z)<|cond (ieq a.Kind 9) (zkL h a.M a.X)<|cond (ieq a.Kind 10) (zmb h a.M)<|cond (ieq a.Kind 11) (zlt h a.M a.G a.X a.Y)<|zjA h a.M a.G a.X)
def zAD (h:Host)(a:GAct):Told:=bif ieq a.Kind 1 then ⟨(zbt h a.M a.G).2,0⟩ else (cond (ieq a.Kind 2) ⟨zmh h a.M a.G a.X ⟨a.Y,a.Z⟩,0⟩<|cond (ieq a.Kind 3) ⟨zjU h a.M a.G a.X,0⟩<|cond (ieq a.Kind 4) ⟨zi0 h a.M a.G a.X,0⟩<|cond (ieq a.Kind 5) ⟨zi4 h a.M a.G,0⟩<|cond (ieq a.Kind 6) ⟨zi2 h a.M a.G a.X,0⟩<|cond (ieq a.Kind 7) ⟨zmf h a.M a.G ⟨a.X,a.Y,ieq a.Z 1⟩,0⟩<|cond (ieq a.Kind 8) ⟨zfa h a.M a.X a.Y a.Z,0⟩<|cond (ieq a.Kind 9) ⟨zkM h a.M a.X,0⟩<|cond (ieq a.Kind 10) ⟨zmd h a.M,zmc h a.M⟩<|cond (ieq a.Kind 11) ⟨zgy h a.M a.G a.X a.Y,0⟩<|⟨zfJ h a.M a.G a.X,zqO h a.M a.G a.X⟩)
def zkQ (h:Host)(a:GAct):Host:=bif ieq a.Kind 13 then zeL h a.M a.X else (cond (ieq a.Kind 14) (znZ h a.M a.X)<|cond (ieq a.Kind 15) (znM h a.M a.X)<|cond (ieq a.Kind 16) (zhR h a.M a.X)<|cold h)
def zJt (h:Host)(a:GAct):Told:=bif ieq a.Kind 13 then ⟨zug h a.M a.X,0⟩ else (cond (ieq a.Kind 14) ⟨zGk h a.M a.X,0⟩<|cond (ieq a.Kind 15) ⟨zb1 h a.M a.X,0⟩<|cond (ieq a.Kind 16) ⟨zxT h a.M a.X,0⟩<|⟨true,0⟩)
def zep (h:Host)(a:GAct):Host:=bif zi a.Kind 1 17 then (cond (zi a.Kind 13 17) (zkQ h a)<|zqP h a) else h
def ziH (h:Host)(a:GAct):Told:=bif zi a.Kind 1 17 then (cond (zi a.Kind 13 17) (zJt h a)<|zAD h a) else ⟨false,0⟩
theorem z0N {h:Host}{a:GAct}(b:SmH h):SmH (zkQ h a):=by unfold zkQ;cases ieq a.Kind 13;{cases ieq a.Kind 14;{cases ieq a.Kind 15;{cases ieq a.Kind 16;{exact z2Z b};{exact z0O b}};{exact z0L b}};{exact z8l b}};{exact zWp b}
theorem z0M {h:Host}{a:GAct}(c:SmH h):SmH (zqP h a):=by have d:zcH h a.M=true->SmB (zA h a.M):=λb=>zGr c (zcC.1 b).2;unfold zqP;cases ieq a.Kind 1;{cases ieq a.Kind 2;{cases ieq a.Kind 3;{cases ieq a.Kind 4;{cases ieq a.Kind 5;{cases ieq a.Kind 6;{cases ieq a.Kind 7;{cases ieq a.Kind 8;{cases ieq a.Kind 9;{cases ieq a.Kind 10;{cases ieq a.Kind 11;{exact z3b c};{exact z7a c}};{exact znb c (λb=>zWi (d b))}};{exact znb c (λb=>zTk _ (d b))}};{exact z3a c}};{exact znb c (λb=>zWj _ _ (d b))}};{exact znb c (λb=>zJS _ _ (d b))}};{exact znb c (λb=>zJT _ (d b))}};{exact znb c (λb=>zJR _ _ (d b))}};{exact z0K c}};{exact znb c (λb=>zWk _ _ _ (d b))}};{exact(zuI a.M a.G c).sm}
theorem zWn {h:Host}{a:GAct}(b:SmH h):SmH (zep h a):=by unfold zep;cases zi a.Kind 1 17;{exact b};{cases zi a.Kind 13 17;{exact z0M b};{exact z0N b}}
@[simp] abbrev zhQ (h:Host)(a:GAct):Bool:=pc (zbX h)
@[simp] abbrev zk7 (h:Host)(a:GAct):Host:=zkQ h a
@[simp] abbrev zjd (h:Host)(a:GAct):Told:=zJt h a
def zwD:Run:=rF2 dH (dT .act) λb c=>(zhQ b c,[aH<|zk7 b c,aT .told<|zjd b c])
def zzX (N:Nat)(c:Host)(a:GAct):OA:=
 (cond (ieq a.Kind 13) (oN (zgG c a.M a.X)<|some [aH<|zix c a.M a.X,.agg [.b<|zj9 c a.M a.X,.i .i64 0]])<|cond (ieq a.Kind 14) (oN (zgG c a.M a.X)<|some [aH<|zr6 c a.M a.X,.agg [.b<|zr7 c a.M a.X,.i .i64 0]])<|cond (ieq a.Kind 15) (oN (zgG c a.M a.X)<|some [aH<|zuv c a.M a.X,.agg [.b<|zes c a.M a.X,.i .i64 0]])<|cond (ieq a.Kind 16) (oN (ztp c a.M a.X)<|some [aH<|zoO c a.M a.X,.agg [.b<|zoP c a.M a.X,.i .i64 0]])<|oN (zbi c)<|some [aH<|zS6 c,.agg [.b true,.i .i64 0]])
theorem zMr (a:Host)(b:GAct)(c:zhQ a b=true):∃N,zzX N a b=some [aH<|zk7 a b,aT .told<|zjd a b]:=by have d:=zJ.1 c;refine⟨0,?_⟩;unfold zzX oN;refine br (λ_=>mu ?_) (λ_=>br (λ_=>mu ?_) λ_=>br (λ_=>mu ?_) λ_=>br (λ_=>mu ?_) λ_=>mu ?_);all_goals first|rfl|(simp only [*,zk7,zjd,zkQ,zJt,cT,cF]<;>rfl)|simp_all[Ty.cells,zk7,zjd,zkQ,zJt]
theorem zFY:vQ 318 zwD:=kF2 zNQ zq zbW zc7 (zx []) zMr
def zZg:zV:=[(318,zwD),(101,zEo),(59,zyK),(110,zEp)]++zZf
theorem zNR:zL zZg:=zh zFY (zh zOS<|zh zIr<|zh zOT zNQ)
@[simp] abbrev zmn (h:Host)(a:GAct):Host:=zep h a
@[simp] abbrev zmo (h:Host)(a:GAct):Told:=ziH h a
def zyF:Run:=rF2 dH (dT .act) λb c=>(zhQ b c,[aH<|zmn b c,aT .told<|zmo b c])
def zDt (N:Nat)(c:Host)(a:GAct):OA:=
 let d:=(⟨a.Y,a.Z⟩:Slot); (oN (znq a)<|cond (nB<|zwE a) (oN (zbi c)<|some [aH<|zk c,.agg [.b false,.i .i64 0]])<|oN (zvi a.Kind)<|cond (zqW a.Kind) (oN (zhQ c a)<|some [aH<|zk7 c a,.agg [.b (zjd c a).Ok,.i .i64 (zjd c a).N]])<|cond (ieq a.Kind 1) (oN (zcD c a.M a.G)<|some [aH<|zbV c a.M a.G,.agg [.b<|zb3 c a.M a.G,.i .i64 0]])<|cond (ieq a.Kind 2) (oN (zvh c a.M a.G a.X d)<|some [aH<|zmg c a.M a.G a.X d,.agg [.b<|zmh c a.M a.G a.X d,.i .i64 0]])<|cond (ieq a.Kind 3) (oN (zrx c a.M a.G a.X)<|some [aH<|zmM c a.M a.G a.X,.agg [.b<|zjU c a.M a.G a.X,.i .i64 0]])<|cond (ieq a.Kind 4) (oN (zpI c a.M a.G a.X)<|some [aH<|ziZ c a.M a.G a.X,.agg [.b<|zi0 c a.M a.G a.X,.i .i64 0]])<|cond (ieq a.Kind 5) (oN (zpK c a.M a.G)<|some [aH<|zi3 c a.M a.G,.agg [.b<|zi4 c a.M a.G,.i .i64 0]])<|cond (ieq a.Kind 6) (oN (zpJ c a.M a.G a.X)<|some [aH<|zi1 c a.M a.G a.X,.agg [.b<|zi2 c a.M a.G a.X,.i .i64 0]])<|cond (ieq a.Kind 7) (oN (znq a)<|oN (zve c a.M a.G<|zpG a)<|some [aH<|zme c a.M a.G<|zpG a,.agg [.b<|zmf c a.M a.G<|zpG a,.i .i64 0]])<|cond (ieq a.Kind 8) (oN (ztj c a.M a.X a.Y a.Z)<|some [aH<|zoE c a.M a.X a.Y a.Z,.agg [.b<|zoF c a.M a.X a.Y a.Z,.i .i64 0]])<|cond (ieq a.Kind 9) (oN (ztk c a.M a.X)<|some [aH<|zkL c a.M a.X,.agg [.b<|zkM c a.M a.X,.i .i64 0]])<|cond (ieq a.Kind 10) (oN (zeV c a.M)<|some [aH<|zmb c a.M,.agg [.b<|zmd c a.M,.i .i64<|zmc c a.M]])<|cond (ieq a.Kind 11) (oN (zvf c a.M a.G a.X a.Y)<|some [aH<|zqp c a.M a.G a.X a.Y,.agg [.b<|zqq c a.M a.G a.X a.Y,.i .i64 0]])<|oN (ztl c a.M a.G a.X)<|some [aH<|zoG c a.M a.G a.X,.agg [.b<|zoI c a.M a.G a.X,.i .i64<|zoH c a.M a.G a.X]])
theorem zPr (a:Host)(b:GAct)(c:zhQ a b=true):∃N,zDt N a b=some [aH<|zmn a b,aT .told<|zmo a b]:=by
 have d:=zJ.1 c;refine⟨0,?_⟩;unfold zDt oN nB;conv=>zeta
 refine must rfl (brN (λ_=>mu ?_) λ_=>must rfl (br (λ_=>mu ?_) λ_=>br (λ_=>mu ?_) λ_=>br (λ_=>mu ?_) λ_=>br (λ_=>mu ?_) λ_=>br (λ_=>mu ?_) λ_=>br (λ_=>mu ?_) λ_=>br (λ_=>mu ?_) λ_=>br (λ_=>must rfl (mu ?_)) λ_=>br (λ_=>mu ?_) λ_=>br (λ_=>mu ?_) λ_=>br (λ_=>mu ?_) λ_=>br (λ_=>mu ?_) λ_=>mu ?_));all_goals first|rfl|(simp only [*,zmn,zmo,zep,ziH,zqP,zAD,cT,cF]<;>rfl)|simp_all[Ty.cells,zmn,zmo,zep,ziH,zqP,zAD]
theorem zIm:vQ 270 zyF:=kF2 zNR zq zbW zc7 (zx []) zPr
def zZh:zV:=[(270,zyF)]++zZg
theorem zNS:zL zZh:=zh zIm zNR
end
end Go.Proofs.YtgjpbkhaaiffkaaGreat.E
