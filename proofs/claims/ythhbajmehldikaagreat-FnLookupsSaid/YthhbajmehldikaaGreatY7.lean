/- What is proved here: a part of the proof that the statement of this claim holds (several texts of wip/, laid together). -/
import Derived.Test.YthhbajmehldikaaGreatY6
namespace Go.Proofs.YthhbajmehldikaaGreat.E
open Go
set_option linter.constructorNameAsVariable false
set_option linter.unusedVariables false
set_option maxRecDepth 100000
set_option linter.unusedSimpArgs false
set_option linter.unusedSectionVars false
noncomputable section
structure BackOk (b c:Bare):Prop where
 m:c.Memory=b.Memory
 o:c.Outs=b.Outs
 n:c.Guests.length=b.Guests.length
 g:∀j,hasB j (ln b.Guests)=true->GKeep (ix b.Guests j gZ) (ix c.Guests j gZ)
 p:zdQ b.Pending=true->zdQ c.Pending=true
theorem z7w {h:Host}(S:Safe h){m:Int}(b:hasB m (ln h.Mons)=true){c:Bare}(k:BackOk (zK h m) c):SimT h (zdn h m c) m (fun _=>c):=by have X:=S.ok.mon b;have f:=zfC b;have d:(zK h m).Guests=(ix h.Mons m mZ).Guests:=(by rw[f]);have l:c.Guests.length=(ix h.Mons m mZ).Guests.length:=(by rw[k.n,d]);have hg:∀j,hasB j (ln (ix h.Mons m mZ).Guests)=true->GKeep (ix (ix h.Mons m mZ).Guests j gZ) (ix c.Guests j gZ):=fun j a=>(by have:=k.g j (by rw[d];exact a);rwa [d] at this);have kp:KeepP (ix h.Mons m mZ) (zvE (ix h.Mons m mZ) c):=⟨rfl,rfl⟩;have s:zdQ c.Pending=true:=k.p (by rw[f];exact X.pend);refine⟨zwJ S b kp (zlx X kp l rfl rfl X.outs s X.tr X.own fun z t=>?_) l (fun j a=>(hg j a).live) rfl,fun i=>?_,zbT _ _ _⟩;{obtain⟨j,a,rfl⟩:=zoY t gZ;exact ztS.2 (hg j (by unfold ln at a ⊢;rw[<- l];exact a)).ok};{refine(zvj (h:=h) (r:=zdn h m c) b rfl rfl kp i).trans ?_;by_cases e:i=m;{subst e;rw[zbv.2 rfl,cond_true,cond_true];show Bare.mk (zK h i).Memory c.Guests (ix h.Mons i mZ).Outs c.Pending=c;have u:=k.m;have q:=k.o;rw[f]at q;cases c;simp_all};{rw [zb1.2 e];rfl}}
theorem seen_none {h:Host}{m:Int}(a:hasB m (ln h.Mons)=false):zK h m=⟨[],[],[],0⟩:=by unfold zK;rw[a];rfl
theorem ztW:zcf ⟨[],[],[],0⟩=false:=by decide
theorem zuf {b:Bare}(h:zcf b=false)(g:Int):zci b g=false:=by unfold zci;rw[h];rfl
theorem zir {b:Bare}(h:zcf b=true):BackOk b b:=⟨rfl,rfl,rfl,fun j a=>⟨ztS.1 (by
 unfold zcf at h;rw[zce,qJ]at h;exact h.1 _ (ziv a _)),rfl⟩,id⟩
theorem z2L {b:Bare}(h:zcf b=true){g:Int}(hg:hasB g (ln b.Guests)=true){y:Guest}(k:GKeep (gAt b g) y):BackOk b (zeO b g y):=by have e:gAt b g=ix b.Guests g gZ:=(by unfold gAt;rw[hg];rfl);refine⟨rfl,rfl,zbT _ _ _,fun j c=>?_,id⟩;show GKeep _ (ix (up b.Guests g y) j gZ);by_cases a:g=j;{subst a;rw[zbl hg,<- e];exact k};{rw [zbw (zD.1 hg).1 (zD.1 c).1 a];exact(zir h).g j c}
theorem zr0 {b:Bare}(h:zcf b=true){g:Int}{c:Bool}{y:Guest}(k:hasB g (ln b.Guests)=true->c=true->GOk (gAt b g)->GKeep (gAt b g) y):BackOk b (chg b g c y):=by unfold chg zci;rw[h,cond_true];cases hg:hasB g (ln b.Guests) with|false=>exact zir h|true=>rw[cond_true];(cases c with|false=>exact zir h|true=>refine z2L h hg (k hg rfl ?_);have:=(zir h).g g hg;unfold gAt;rw[hg];exact this.ok)
theorem zqE {h:Host}(S:Safe h)(m:Int){F:Bare->Bare}(d:∀b,zcf b=true->BackOk b (F b))(c:F ⟨[],[],[],0⟩=⟨[],[],[],0⟩):SimT h (zh8 h m (F (zK h m))) m F:=by unfold zh8 zc2;rw[zie.2 S.ok,cond_true];cases a:hasB m (ln h.Mons) with|false=>refine(SimT.refl S m).congr ?_;rw[seen_none a];exact c.symm|true=>exact(z7w S a (d _ (zyV S.ok a))).congr rfl
theorem zlI {h:Host}(S:Safe h)(m:Int){t:Bare->Bool}(a:t ⟨[],[],[],0⟩=false):zg0 h m (t (zK h m))=t (zK h m):=by unfold zg0 zc2;rw[zie.2 S.ok,cond_true];cases b:hasB m (ln h.Mons) with|false=>rw[cond_false,seen_none b,a]|true=>rfl
theorem zqj (g:Int)(c:Bool)(y:Guest):chg ⟨[],[],[],0⟩ g c y=⟨[],[],[],0⟩:=by unfold chg;rw[zuf ztW];rfl
theorem zjS (g:Int)(c:Bool):zck ⟨[],[],[],0⟩ g c=false:=by unfold zck;rw[zuf ztW];rfl
theorem zWZ {t:List Slot}{n q:Int}(h:zdc t n q=true){p:Int}{s:Slot}(b:zd2 s q=true):zdc (zeC t p s) n q=true:=by
 unfold zeC;cases hasB p (ln t) with
 |false=>exact h
 |true=>rw[cond_true];rw[zrY]at h ⊢;rw[zd0];refine⟨fun x c=>?_,h.2⟩;rcases qT c with a|a;{exact h.1 x a};{rw [a];exact b}
theorem zbaO {x:Guest}(X:GOk x){p:Int}{s:Slot}(h:zxo p s=true):GKeep x (zEb x p s):=by unfold zxo at h;rw[zce]at h;exact⟨⟨X.prog,X.a,X.pc,zWZ X.w h.2,X.l,X.ctl,X.pend,X.ex,X.seen⟩,rfl⟩
theorem zbaL {x:Guest}(X:GOk x){v:Int}(h:zw2 x v=true):GKeep x (zzd x v):=by unfold zw2 at h;rw[zce]at h;unfold zzd;cases ieq x.Exit.Kind 2 with|true=>rw[cond_true];have b:=zjX (z0X X h.1) (e:=zlA) rfl;have a:=zjW b.ok;exact⟨a.ok,a.live⟩|false=>rw[cond_false];have b:=zjX X (e:=zlA) rfl;have a:=zjW b.ok;exact⟨a.ok,a.live.trans b.live⟩
theorem zbaN {x:Guest}(X:GOk x):GKeep x (zz0 x):=by unfold zz0;have a:=zjX X (e:=zlA) rfl;cases ieq x.Exit.Kind 1 with|true=>exact a|false=>have b:=zZn a.ok;exact⟨b.ok,b.live.trans a.live⟩
theorem zZo {x:Guest}(X:GOk x)(n:Int):GKeep x (zoS x n):=zZp X (zRr X.pend n)
theorem zbaM {x:Guest}(X:GOk x){c:Ctl}(h:zl9 c=true):GKeep x (zNK x c):=⟨⟨X.prog,X.a,X.pc,X.w,X.l,h,X.pend,X.ex,X.seen⟩,rfl⟩
theorem zCE (n:Int):∀(d:List Int) (b:Bare) (l:List Guest),(∀k∈d,hasB k (ln b.Guests)=true)->BackOk b {b with Guests:=l}->BackOk b {b with Guests:=zmn n d l}
 |[],b,l,_,h=>h
 |k::d,b,l,q,h=>by show BackOk b {b with Guests:=zmn n d (zEP n l k)};refine zCE n d b _ (fun j a=>q j (qS _ a)) ⟨h.m,h.o,by show (up l k _).length=_;rw[zbT];exact h.n,fun j a=>?_,h.p⟩;show GKeep _ (ix (up l k _) j gZ);have r:l.length=b.Guests.length:=h.n;have c:hasB k (ln l)=true:=(by unfold ln;rw[r];exact q k jA);by_cases e:k=j;{subst e;rw[zbl c];have f:=h.g k a;have i:=zZo f.ok n;exact⟨i.ok,i.live.trans f.live⟩};{rw [zbw (zD.1 c).1 (zD.1 a).1 e];exact h.g j a}
theorem z0m {b:Bare}(h:zcf b=true)(n:Int):BackOk b (zk2 b n):=by
 unfold zk2 zfZ zEQ;rw[h,cond_true];cases hasB n 8 with
 |false=>exact zir h
 |true=>
  rw[cond_true];cases ieq (ln (zex b.Guests n)) 0 with
  |true=>have:=zir h;exact⟨rfl,rfl,rfl,this.g,fun c=>zRr c n⟩
  |false=>rw[cond_false];refine zCE n _ b b.Guests (fun k a=>?_) (zir h);unfold zex at a;obtain⟨j,e,rfl,_⟩:=(zIU (d:=gZ)).1 a;exact zD.2 ⟨by omega,by unfold ln;omega⟩
theorem z2K {b:Bare}(h:zcf b=true):BackOk b (znK b):=by unfold znK;rw[h,cond_true];exact⟨rfl,rfl,rfl,(zir h).g,fun a=>zRs a⟩
theorem z7k {h:Host}(S:Safe h)(m p c v:Int):SimT h (znR h m p c v) m (fun b=>zTy b p c v)/\zfI h m p c v=zyb (zK h m) p c v:=by have e:zfI h m p c v=zyb (zK h m) p c v:=(by unfold zfI zyb zcH z9U;rw[zie.2 S.ok,cond_true];cases d:hasB m (ln h.Mons) with|false=>rw[seen_none d,ztW];rfl|true=>rw[zyV S.ok d,cond_true];rfl);refine⟨?_,e⟩;unfold znR;cases f:zfI h m p c v with|false=>refine(SimT.refl S m).congr ?_;unfold zTy;rw[<- e,f];rfl|true=>rw[cond_true];have a:=f;unfold zfI at a;rw[zce,zce]at a;obtain⟨k,_,_⟩:=a;obtain⟨_,d,j⟩:=zo1.1 k;have M:=zDy S.ok (m:=m) (p:=p) 2 d j;have i:=M.op.sim S m;have g:hasB m (ln (mended h m p 2).Mons)=true:=(by rw[i.has];exact d);obtain⟨l,_⟩:=zwK i.safe g j rfl M.inn c v;refine(i.trans l).congr ?_;unfold zTy;rw[<- e,f];rfl
theorem z4e {h:Host}(S:Safe h)(m g b a:Int):zbP h m g b a=(cond (zci (zK h m) g) (cond (zgf a) (zeB (gAt (zK h m) g).Live b a) false) false):=by have e:zb3 h m g=zci (zK h m) g:=(by unfold zb3 zci;rw[zie.2 S.ok,cond_true];cases c:hasB m (ln h.Mons) with|false=>rw[seen_none c,ztW,cond_false,cond_false]|true=>rw[cond_true,zyV S.ok c,cond_true];have:(zK h m).Guests=(ix h.Mons m mZ).Guests:=(by rw[zfC c]);rw[this]);unfold zbP;rw[<- e];cases hg:zb3 h m g with|false=>rw[cond_false,cond_false]|true=>obtain⟨_,c,hg⟩:=zf4.1 hg;have:(gAt (zK h m) g).Live=zbW h m g:=(by rw[zur c hg];rfl);rw[this]
theorem zH2 {h:Host}(S:Safe h)(m g a n:Int)(b:n=1\/n=2):zoL (zK h m) g a n=bif zk a 0 15 then zbP h m g (zbp a) n else false:=by rw[z4e S];unfold zoL;rw[zG0.2 b,cond_true];cases zci (zK h m) g<;>cases zk a 0 15<;>rfl
theorem zUy {h:Host}(S:Safe h){m g a n:Int}(f:n=1\/n=2)(b:zoL (zK h m) g a n=true) :
 Looked h (zDi h m g a n).1 m g (zbp a) n (zEz (zK h m) g a n) (zDi h m g a n).2.1/\hasB m (ln h.Mons)=true/\hasB (zEz (zK h m) g a n) 8=true:=by
 rw[zH2 S m g a n f,zce]at b;obtain⟨L,_⟩:=zv8 S true b.2 S.rt.e2;obtain⟨d,_,i⟩:=ziQ.1 b.2;obtain⟨_,c,hg⟩:=zf4.1 d;have e:zEz (zK h m) g a n=zbZ (zbW h m g) (zbp a) n:=by unfold zEz;rw[zur c hg];rfl
 rw[e];exact⟨L,c,(walked (S.ok.guest c hg) i).q8⟩
theorem zbb3 {h:Host}(S:Safe h)(m g a v:Int):SimT h (zqu h m g a v) m (fun b=>z0L b g a v)/\zho h m g a v=zzr (zK h m) g a v:=by have e:zho h m g a v=zzr (zK h m) g a v:=(by unfold zho zzr;rw[zH2 S m g a 2 (.inr rfl)];cases zk a 0 15<;>cases zk v 0 99<;>cases zbP h m g (zbp a) 2<;>rfl);refine⟨?_,e⟩;unfold zqu;cases c:zho h m g a v with|false=>refine(SimT.refl S m).congr ?_;unfold z0L;rw[<- e,c];rfl|true=>rw[cond_true];have f:zoL (zK h m) g a 2=true:=(by have:=e.symm.trans c;unfold zzr at this;exact(zce.1 this).1);obtain⟨L,i,j⟩:=zUy S (.inr rfl) f;have d:=L.op.sim S m;obtain⟨k,_⟩:=zwK d.safe (by rw[d.has];exact i) j L.inn L.ne (zdu a) v;refine(d.trans k).congr ?_;unfold z0L;rw[<- e,c];rfl
theorem zbbb {h:Host}(S:Safe h)(m g a:Int):SimT h (znS h m g a) m id/\zgu h m g a=zoL (zK h m) g a 1/\zsd h m g a=zTC (zK h m) g a:=by have e:zgu h m g a=zoL (zK h m) g a 1:=(by unfold zgu;rw[zH2 S m g a 1 (.inl rfl)]);unfold znS zsd zTC;rw[e];cases d:zoL (zK h m) g a 1 with|false=>exact⟨SimT.refl S m,rfl,rfl⟩|true=>obtain⟨L,f,i⟩:=zUy S (.inl rfl) d;have b:=L.op.sim S m;obtain⟨_,c⟩:=zwK b.safe (by rw[b.has];exact f) i L.inn L.ne (zdu a) 0;rw[L.op.like.seen m] at c;exact⟨b,rfl,c⟩
theorem z3S {k:Kept}{a b:List Slot}(h:KOk k a b)(p:Int)(s:Slot):KOk (zbN k p) (zeC a p s) b:=by have j:=zlp k p;have f:(zeC a p s).length=a.length:=(by unfold zeC;cases hasB p (ln a)<;>simp [zbT]);refine⟨by rw[j.1,f,h.l1],by rw[j.2,f,h.l2],fun i l=>?_⟩;have c:hasB i (ln a)=true:=(by unfold ln at l ⊢;rwa [<- f]);have d:hasB i (ln k.Known)=true:=(by unfold ln at c ⊢;rwa [h.l1]);have g:=zw6 (q:=p) (by rw[h.l1,h.l2]) d;rw[g.1,g.2];by_cases e:p=i;{subst e;rw[zbv.2 rfl];rfl};{rw [zb1.2 e,cond_false,cond_false,h.at' i c];have:ix (zeC a p s) i sZ=ix a i sZ:=(by unfold zeC;cases m:hasB p (ln a) with|false=>rfl|true=>exact zbw (zD.1 m).1 (zD.1 c).1 e _ _);rw[this]}
theorem zbcv {t m g:Int}(a:zcE t=m)(b:zdm t=g)(c:0<=m):t=zd8 m g:=by subst a;subst b;by_cases h:1<=t/\t<=6;{have e:t=1\/t=2\/t=3\/t=4\/t=5\/t=6:=(by omega);rcases e with rfl|rfl|rfl|rfl|rfl|rfl<;>decide};{exfalso;have:zcE t = -1:=(by unfold zcE ige ile;rw[show (decide (t≥1)&&decide (t<=6))=false by simp;omega];rfl);omega}
theorem zYV {t:List Slot}{p q:Int}{s:Slot}(h:q≠p):zbC (zeC t p s) q=zbC t q:=by unfold zeC;cases a:hasB p (ln t) with|false=>rfl|true=>exact zRE (zD.1 a).1 h
theorem z7x {t:List Slot}(h:zdc t 4 8=true)(p:Int):zd2 (zbC t p) 8=true:=by unfold zbC;cases a:hasB p (ln t) with|false=>rfl|true=>exact(zrY.1 h).1 _ (ziv a _)
theorem z3H {x:Guest}(X:GOk x)(p:Int):GOk (zea x p):=⟨X.prog,X.a,X.pc,X.w,zWZ X.l (z7x X.w p),X.ctl,X.pend,X.ex,X.seen⟩
theorem z6D {h:Host}(S:Safe h)(m g p:Int):SimT h (zlr h m g p) m (fun b=>chg b g (hasB p 4) (zea (gAt b g) p))/\zg0 h m (zck (zK h m) g (hasB p 4))=zck (zK h m) g (hasB p 4):=by
 refine⟨?_,zlI S m (t:=fun b=>zck b g (hasB p 4)) (zjS g _)⟩;unfold zlr zc2;rw[zie.2 S.ok,cond_true];cases a:hasB m (ln h.Mons) with
 |false=>refine(SimT.refl S m).congr ?_;rw[seen_none a,zqj];rfl
 |true=>
  rw[cond_true];cases w:zck (zK h m) g (hasB p 4) with
  |false=>refine(SimT.refl S m).congr ?_;show zK h m=chg (zK h m) g (hasB p 4) (zea (gAt (zK h m) g) p);have c:=w;unfold zck at c;unfold chg;rw[c];rfl
  |true=>rw[cond_true];have c:=w;unfold zck zci at c;rw[zyV S.ok a,cond_true,zce,zfC a]at c;have hg:hasB g (ln (ix h.Mons m mZ).Guests)=true:=c.1;have X:=S.ok.mon a;have G:=S.ok.seenG a hg;have C:chg (zK h m) g (hasB p 4) (zea (gAt (zK h m) g) p)=zeO (zK h m) g (zea (gOf h m g) p):=(by have l:=w;unfold zck at l;unfold chg;rw[l,zur a hg];rfl);rw[C];have B:hasB g (ln (ix h.Mons m mZ).Tables)=true:=(by unfold ln;rw[X.gt];exact hg);have s:(zCT (zdn h m (zeO (zK h m) g (zea (gOf h m g) p))) m g p).Mons=up h.Mons m {ix h.Mons m mZ with Guests:=up (ix h.Mons m mZ).Guests g (zea (gOf h m g) p),Tables:=up (ix h.Mons m mZ).Tables g (zbN (ix (ix h.Mons m mZ).Tables g kZ) p)}:=(by show up (up h.Mons m _) m _=_;rw[z5w];have D:ix (zdn h m (zeO (zK h m) g (zea (gOf h m g) p))).Mons m mZ=zvE (ix h.Mons m mZ) (zeO (zK h m) g (zea (gOf h m g) p)):=zbl a _ _;rw[D];unfold zvE zeO;rw[zfC a]);have kp:KeepP (ix h.Mons m mZ) {ix h.Mons m mZ with Guests:=up (ix h.Mons m mZ).Guests g (zea (gOf h m g) p),Tables:=up (ix h.Mons m mZ).Tables g (zbN (ix (ix h.Mons m mZ).Tables g kZ) p)}:=⟨rfl,rfl⟩;have K:MOk {ix h.Mons m mZ with Guests:=up (ix h.Mons m mZ).Guests g (zea (gOf h m g) p),Tables:=up (ix h.Mons m mZ).Tables g (zbN (ix (ix h.Mons m mZ).Tables g kZ) p)}:=zlx X kp (zbT _ _ _) (zbT _ _ _) rfl X.outs X.pend X.tr X.own fun z L=>(by rcases qT L with h|h;{exact X.gs z h};{rw [h];exact ztS.2 (z3H G p)});have E:HOk (zCT (zdn h m (zeO (zK h m) g (zea (gOf h m g) p))) m g p):=S.ok.up a K s S.ok.m12 S.ok.pgs (zzh S.ok.b1 _) (zzh S.ok.b2 _) fun q _=>.inl (qY _);have u:∀b:List Entry,(∀e∈b,zcy h e=true)->∀e∈zcJ b (zd8 m g) p,zcy (zCT (zdn h m (zeO (zK h m) g (zea (gOf h m g) p))) m g p) e=true:=(by intro b F e H;obtain⟨x,y⟩:=zzu.1 H;obtain⟨l,n,r⟩:=zf3.1 (F e x);rw[zf3,s,zd0];refine⟨l,?_⟩;by_cases d:m=zcE e.Tag;{rw [<- d]at l n r ⊢;rw[zbl a];show hasB (zdm e.Tag) (ln (up _ _ _))=true/\below' _ (zbx (zbC (ix (up (ix h.Mons m mZ).Guests g _) (zdm e.Tag) gZ).Live e.Page) (ix h.Mons m mZ).Outer)=true;rw[zd0];refine⟨n,?_⟩;by_cases f:g=zdm e.Tag;{rw [<- f]at n r ⊢;rw[zbl hg];have A:e.Page≠p:=fun J=>y ⟨zbcv d.symm f.symm (zD.1 a).1,J⟩;show below' _ (zbx (zbC (zeC (gOf h m g).Live p _) e.Page) _)=true;rw[zYV A];exact r};{rw [zbw (zD.1 hg).1 (zD.1 n).1 f];exact r}};{rw [zbw (zD.1 a).1 (zD.1 l).1 d];exact⟨n,r⟩});refine⟨⟨E,⟨fun i v=>?_,u _ S.rt.e1,u _ S.rt.e2⟩⟩,fun i=>?_,by rw[s,zbT]⟩;{rw [s]at v ⊢;rw[zd0]at v;by_cases d:m=i;{subst d;rw[zbl a];intro j I;show KOk (ix (up (ix h.Mons m mZ).Tables g _) j kZ) (ix (up (ix h.Mons m mZ).Guests g _) j gZ).Live (ix h.Mons m mZ).Outer;have k:hasB j (ln (ix h.Mons m mZ).Guests)=true:=(by have:hasB j (ln (up (ix h.Mons m mZ).Guests g (zea (gOf h m g) p)))=true:=I;rwa [zd0] at this);by_cases e:g=j;{subst e;rw[zbl B,zbl hg];exact z3S (S.rt.t m a g hg) p _};{rw [zbw (zD.1 hg).1 (zD.1 k).1 e,zbw (zD.1 hg).1 (zD.1 k).1 e];exact S.rt.t m a j k}};{rw [zbw (zD.1 a).1 (zD.1 v).1 d];exact S.rt.t i v}};{refine(zvj (h:=h) a s rfl kp i).trans ?_;by_cases e:i=m;{subst e;rw[zbv.2 rfl,cond_true,cond_true,C,zfC a];rfl};{rw [zb1.2 e];rfl}}
theorem zRM (g:Int):ziK ⟨[],[],[],0⟩ g=⟨[],[],[],0⟩/\zl7 ⟨[],[],[],0⟩ g=false:=by have:zl7 ⟨[],[],[],0⟩ g=false:=(by unfold zl7;rw[zZC];rfl);refine⟨?_,this⟩;unfold ziK;rw[this];rfl
theorem z6J {h:Host}(S:Safe h)(a:GAct):SimT h (zuB h a) a.M (fun b=>zKA b a)/\zDg h a=zKB (zK h a.M) a:=by
 have f:=ztW;unfold zuB zDg zKA zKB;cases ieq a.Kind 1 with
 |true=>obtain⟨k,e⟩:=step_ok S a.M a.G;exact⟨k,by rw[cond_true,cond_true,e]⟩
 |false=>
  simp only[cond_false];cases ieq a.Kind 2 with
  |true=>
   exact⟨zqE S a.M (F:=fun b=>chg b a.G (zxo a.X ⟨a.Y,a.Z⟩) (zEb (gAt b a.G) a.X ⟨a.Y,a.Z⟩)) (fun b c=>zr0 c fun _ d G=>zbaO G d) (zqj _ _ _),
    congrArg (fun t=>Told.mk t 0) (zlI S a.M (t:=fun b=>zck b a.G (zxo a.X ⟨a.Y,a.Z⟩)) (zjS _ _))⟩
  |false=>
   simp only[cond_false];cases ieq a.Kind 3 with
   |true=>obtain⟨k,e⟩:=z6D S a.M a.G a.X;exact⟨k,congrArg (fun t=>Told.mk t 0) e⟩
   |false=>
    simp only[cond_false];cases ieq a.Kind 4 with
    |true=>
     exact⟨zqE S a.M (F:=fun b=>chg b a.G (zw2 (gAt b a.G) a.X) (zzd (gAt b a.G) a.X)) (fun b c=>zr0 c fun _ d G=>zbaL G d) (zqj _ _ _),
      congrArg (fun t=>Told.mk t 0) (zlI S a.M (t:=fun b=>zck b a.G (zw2 (gAt b a.G) a.X)) (zjS _ _))⟩
    |false=>
     simp only[cond_false];cases ieq a.Kind 5 with
     |true=>
      exact⟨zqE S a.M (F:=fun b=>chg b a.G (zDH (gAt b a.G)) (zz0 (gAt b a.G))) (fun b c=>zr0 c fun _ _ G=>zbaN G) (zqj _ _ _),
       congrArg (fun t=>Told.mk t 0) (zlI S a.M (t:=fun b=>zck b a.G (zDH (gAt b a.G))) (zjS _ _))⟩
     |false=>
      simp only[cond_false];cases ieq a.Kind 6 with
      |true=>
       exact⟨zqE S a.M (F:=fun b=>chg b a.G (zhY (gAt b a.G).Pending a.X) (zoS (gAt b a.G) a.X)) (fun b c=>zr0 c fun _ _ G=>zZo G _) (zqj _ _ _),
        congrArg (fun t=>Told.mk t 0) (zlI S a.M (t:=fun b=>zck b a.G (zhY (gAt b a.G).Pending a.X)) (zjS _ _))⟩
      |false=>
       simp only[cond_false];cases ieq a.Kind 7 with
       |true=>
        exact⟨zqE S a.M (F:=fun b=>chg b a.G (zl9 ⟨a.X,a.Y,ieq a.Z 1⟩) (zNK (gAt b a.G) ⟨a.X,a.Y,ieq a.Z 1⟩)) (fun b c=>zr0 c fun _ d G=>zbaM G d) (zqj _ _ _),
         congrArg (fun t=>Told.mk t 0) (zlI S a.M (t:=fun b=>zck b a.G (zl9 ⟨a.X,a.Y,ieq a.Z 1⟩)) (zjS _ _))⟩
       |false=>
        simp only[cond_false];cases ieq a.Kind 8 with
        |true=>obtain⟨k,e⟩:=z7k S a.M a.X a.Y a.Z;exact⟨k,congrArg (fun t=>Told.mk t 0) e⟩
        |false=>
         simp only[cond_false];cases ieq a.Kind 9 with
         |true=>
          exact⟨zqE S a.M (F:=fun b=>zk2 b a.X) (fun b c=>z0m c _) (by unfold zk2 zfZ;rw[f];rfl),
           congrArg (fun t=>Told.mk t 0) (zlI S a.M (t:=fun b=>zfZ b a.X) (by unfold zfZ;rw[f];rfl))⟩
         |false=>
          simp only[cond_false];cases ieq a.Kind 10 with
          |true=>refine⟨zqE S a.M (F:=znK) (fun b c=>z2K c) (by unfold znK;rw[f];rfl),?_⟩;have e:=zlI S a.M (t:=znq) (by unfold znq;rw[f];rfl);show Told.mk (zg0 h a.M (znq (zK h a.M))) (cond (zc2 h a.M) (zue (zK h a.M)) (-1))=⟨znq (zK h a.M),zue (zK h a.M)⟩;rw[e];congr 1;unfold zc2;rw[zie.2 S.ok,cond_true];cases j:hasB a.M (ln h.Mons) with|true=>rfl|false=>rw[seen_none j];unfold zue;rw[f];rfl
          |false=>
           simp only[cond_false];cases ieq a.Kind 11 with
           |true=>obtain⟨k,e⟩:=zbb3 S a.M a.G a.X a.Y;exact⟨k,congrArg (fun t=>Told.mk t 0) e⟩
           |false=>obtain⟨k,g,i⟩:=zbbb S a.M a.G a.X;exact⟨k,by simp only[cond_false];rw[g,i]⟩
theorem z7d {h:Host}(S:Safe h)(a:GAct):Safe (zm7 h a)/\(∀i,zK (zm7 h a) i=zK h i)/\(zm7 h a).Mons.length=h.Mons.length:=by
 unfold zm7;have k:∀r,Op h r->Safe r/\(∀i,zK r i=zK h i)/\r.Mons.length=h.Mons.length:=fun r k=>⟨k.safe S,fun i=>k.like.seen i,k.like.len⟩;cases ieq a.Kind 13 with
 |true=>exact k _ (z1w S.ok _ _)
 |false=>
  simp only[cond_false];cases ieq a.Kind 14 with
  |true=>exact k _ (z4s S.ok _ _)
  |false=>
   simp only[cond_false];cases ieq a.Kind 15 with
   |true=>exact k _ (z4r S.ok _ _)
   |false=>
    simp only[cond_false];cases ieq a.Kind 16 with
    |true=>obtain⟨b,c⟩:=zS6 S a.M a.X;refine⟨b,c,?_⟩;simp only[cond_true];unfold zkj;cases zb2 h<;>cases hasB a.M (ln h.Mons)<;>cases zk a.X 0 3<;>first|rfl|exact zbT _ _ _
    |false=>exact k _ (zba6 S.ok)
def zk0 (a:GAct):Bool:=bif zk a.Kind 1 17 then !zk a.Kind 13 17 else false
theorem z2C {h:Host}(S:Safe h)(a:GAct):Safe (zeV h a)/\(zeV h a).Mons.length=h.Mons.length/\
 (∀i,zK (zeV h a) i=bif (cond (zk0 a) (ieq i a.M) false) then zKA (zK h i) a else zK h i)/\(zk0 a=true->zjY h a=zKB (zK h a.M) a):=by
 unfold zeV zjY zk0;cases zk a.Kind 1 17 with
 |false=>exact⟨S,rfl,fun _=>rfl,fun e=>by cases e⟩
 |true=>
  simp only[cond_true];cases zk a.Kind 13 17 with
  |true=>obtain⟨b,c,d⟩:=z7d S a;exact⟨b,d,fun i=>by simp only[cond_true,jL,cond_false];exact c i,fun e=>by cases e⟩
  |false=>obtain⟨k,e⟩:=z6J S a;exact⟨k.safe,k.len,fun i=>by simp only[cond_false,jO,cond_true];exact k.seen i,fun _=>e⟩
def zcZ (h:Host):List Bare:=(List.range h.Mons.length).map fun (i:Nat)=>zK h (i:Int)
theorem zhn (h:Host):(zcZ h).length=h.Mons.length:=by simp[zcZ]
theorem zmT (h:Host)(m:Int):hasB m (ln (zcZ h))=hasB m (ln h.Mons):=by unfold ln;rw[zhn]
theorem zl5 {h:Host}{m:Int}(c:hasB m (ln h.Mons)=true)(d:Bare):ix (zcZ h) m d=zK h m:=by have a:=zD.1 c;unfold ln at a;have b:m.toNat<(zcZ h).length:=(by rw[zhn];omega);have:=zku b d;rw[show ((m.toNat:Nat):Int)=m by omega] at this;rw[this];simp[zcZ,show max m 0=m by omega]
theorem zKv {h r:Host}(a:r.Mons.length=h.Mons.length)(e:∀i,zK r i=zK h i):zcZ r=zcZ h:=by unfold zcZ;rw[a];exact List.map_congr_left fun i _=>e _
theorem zXE {h:Host}(S:Safe h)(a:GAct):zcZ (zeV h a)=zKC (zcZ h) a/\(zk0 a=true->zjY h a=z0l (zcZ h) a):=by obtain⟨_,k,l,t⟩:=z2C S a;have p:zk0 a=true->zcZ (zeV h a)=(cond (hasB a.M (ln h.Mons)) (up (zcZ h) a.M (zKA (zK h a.M) a)) (zcZ h)):=(by intro b;rw[b]at l;cases f:hasB a.M (ln h.Mons) with|false=>rw[cond_false];refine zPz ⟨[],[],[],0⟩ (by rw[zhn,zhn,k]) fun i c=>?_;rw[zmT]at c;rw[zl5 c];have d:hasB i (ln h.Mons)=true:=(by unfold ln at c ⊢;rwa [<- k]);rw[zl5 d,l i];have:ieq i a.M=false:=zb1.2 fun e=>(by rw[e,f]at d;cases d);rw[this];rfl|true=>rw[cond_true];refine zPz ⟨[],[],[],0⟩ (by rw[zbT,zhn,zhn,k]) fun i c=>?_;rw[zmT]at c;rw[zl5 c,l i];have d:hasB i (ln h.Mons)=true:=(by unfold ln at c ⊢;rwa [<- k]);by_cases e:i=a.M;{rw [e,zbv.2 rfl,zbl (by rw[zmT];exact f)];rfl};{rw [zb1.2 e,zbw (zD.1 f).1 (zD.1 d).1 (Ne.symm e),zl5 d];rfl});have s:zk0 a=false->zcZ (zeV h a)=zcZ h:=fun b=>zKv k fun i=>(by rw[l i,b];rfl);have r:zk0 a=true->zk a.Kind 1 17=true/\zk a.Kind 13 17=false:=(by intro b;unfold zk0 at b;cases g:zk a.Kind 1 17<;>cases j:zk a.Kind 13 17<;>rw [g,j]at b<;>first|exact⟨rfl,rfl⟩|cases b);constructor;{unfold zKC;cases b:zk0 a with|true=>obtain⟨g,j⟩:=r b;rw[g,j,cond_true,cond_false,zmT,p b];(cases f:hasB a.M (ln h.Mons) with|true=>rw[cond_true,cond_true,zl5 f]|false=>rfl)|false=>rw[s b];unfold zk0 at b;(cases g:zk a.Kind 1 17 with|false=>rfl|true=>(cases j:zk a.Kind 13 17 with|true=>rfl|false=>rw[g,j]at b;cases b))};{intro b;rw[t b];obtain⟨g,j⟩:=r b;unfold z0l;rw[g,j,cond_true,cond_false,zmT];cases f:hasB a.M (ln h.Mons) with|true=>rw[cond_true,zl5 f]|false=>rw[cond_false,seen_none f];have n:=(zRM a.G).2;have q:=ztW;unfold zKB;simp only[n,zjS];unfold zyb zfZ znq zue zzr zTC zoL;simp only[q,zuf q,cond_false];(cases m:ieq a.Kind 10 with|true=>have:a.Kind=10:=zbv.1 m;rw[this];rfl|false=>cases ieq a.Kind 1<;>cases ieq a.Kind 2<;>cases ieq a.Kind 3<;>cases ieq a.Kind 4<;>cases ieq a.Kind 5<;>cases ieq a.Kind 6<;>cases ieq a.Kind 7<;>cases ieq a.Kind 8<;>cases ieq a.Kind 9<;>cases ieq a.Kind 11<;>rfl)}
def zLX:List GAct->List Told->List Told
 |a::l,t::ts=>bif zk0 a then t::zLX l ts else zLX l ts
 |_,_=>[]
structure Live (u:Host×List Told) (v:List Bare×List Told):Prop where
 safe:Safe u.1
 seen:zcZ u.1=v.1
def zEm:List GAct->Host->List Told
 |[],_=>[]
 |a::l,h=>zjY h a::zEm l (zeV h a)
def z5u:List GAct->List Bare->List Told
 |[],_=>[]
 |a::l,b=>z0l b a::z5u l (zKC b a)
def zvL:List GAct->Host->Host
 |[],h=>h
 |a::l,h=>zvL l (zeV h a)
def z6z:List GAct->List Bare->List Bare
 |[],b=>b
 |a::l,b=>z6z l (zKC b a)
theorem zZO:∀(l:List GAct) (u:Host×List Told),zDJ l u=(zvL l u.1,u.2++zEm l u.1)
 |[],u=>by simp[zDJ,zvL,zEm]
 |a::l,u=>by rw[zDJ,zZO l];simp[zvL,zEm,ap]
theorem z3x:∀(l:List GAct) {h:Host},Safe h->Safe (zvL l h)/\zcZ (zvL l h)=z6z l (zcZ h)/\zLX l (zEm l h)=zLX l (z5u l (zcZ h))/\(zvL l h).Mons.length=h.Mons.length
 |[],h,S=>⟨S,rfl,rfl,rfl⟩
 |a::l,h,S=>by have d:=z2C S a;have b:=zXE S a;obtain⟨e,f,c,g⟩:=z3x l d.1;refine⟨e,by show zcZ (zvL l (zeV h a))=z6z l (zKC (zcZ h) a);rw[f,b.1],?_,g.trans d.2.1⟩;show (cond (zk0 a) _ _)=(cond (zk0 a) _ _);cases i:zk0 a with|false=>rw[cond_false,cond_false,c,b.1]|true=>rw[cond_true,cond_true,c,b.1,b.2 i]
theorem cz8 (q:Int)(b:0<=q):zvm.countP (fun s=>ieq s.Page q)=0:=by rw[uN];intro s a;have:=(uT.1 a).2;rw[this];show ¬ ieq (-1) q=true;rw[zbv];omega
theorem zXU {p:List Ins}(h:zds p=true):GOk (zfi p):=⟨h,rfl,rfl,rfl,rfl,rfl,rfl,rfl,rfl⟩
theorem z4l {a:List (List Ins)}(i:1<=a.length)(h:∀p∈a,zds p=true):MOk (zhb a):=by have d:∀s∈zvm,s=noSlot:=fun s c=>(uT.1 c).2;refine⟨?_,?_,?_,rfl,fun s c=>.inl (d s c),rfl,rfl,jQ _,rfl,rfl,rfl,fun g hg=>?_,fun p b=>?_⟩;{show 1<=((a.take 2).map zfi).length;simp;omega};{show ((a.take 2).map zfi).length<=2;simp;omega};{show ((a.take 2).map (fun _=>zkP)).length=((a.take 2).map zfi).length;simp};{obtain⟨p,b,rfl⟩:=jF.1 hg;exact ztS.2 (zXU (h p (j3 b)))};{have f:=zD.1 b;have e:p=0\/p=1\/p=2\/p=3\/p=4\/p=5\/p=6\/p=7:=(by omega);rcases e with rfl|rfl|rfl|rfl|rfl|rfl|rfl|rfl<;>rfl}
def z97 (a:List (List (List Ins))):Prop:=1<=a.length/\∀p∈a,1<=p.length/\∀x∈p,zds x=true
theorem z02 {a:List (List (List Ins))}(h:z97 a):Safe (zfY a):=by have b:∀x∈(zfY a).Mons,∃p∈a,x=zhb p:=fun x f=>(by obtain⟨p,j,rfl⟩:=jF.1 f;exact⟨p,j3 j,rfl⟩);have u:∀x∈(zfY a).Mons,x.Outer=zvm:=fun x f=>(by obtain⟨p,_,rfl⟩:=b x f;rfl);have H:HOk (zfY a):=(by refine⟨rfl,fun c v=>?_,?_,?_,rfl,rfl,fun x f=>?_,fun q B=>?_⟩;{have:c=[0,0,0,0]:=(uT.1 v).2;rw[this];rfl};{show 1<=((a.take 3).map zhb).length;have:=h.1;simp;omega};{show ((a.take 3).map zhb).length<=3;simp;omega};{obtain⟨p,j,rfl⟩:=b x f;exact z4l (h.2 p j).1 (h.2 p j).2};{have:zeR (zfY a).Mons q=0:=(by unfold zeR;have:(zfY a).Mons.map (fun x=>cPg x q)=(zfY a).Mons.map (fun _=>0):=List.map_congr_left fun x f=>(by unfold cPg;rw[u x f];exact cz8 q B);rw[this];generalize (zfY a).Mons=l;induction l with|nil=>rfl|cons x l D=>rw[jE,uM,D]);omega});refine⟨H,fun m A g hg=>?_,fun e r=>(by cases r),fun e r=>(by cases r)⟩;obtain⟨p,j,e⟩:=b _ (ziv A mZ);rw[e]at hg ⊢;have d:hasB g (ln ((p.take 2).map zfi))=true:=hg;have C:ix (zhb p).Tables g kZ=zkP:=(by have:hasB g (ln ((p.take 2).map (fun _=>zkP)))=true:=(by unfold ln at d ⊢;simpa using d);obtain⟨k,y,_,n⟩:=zv5 this kZ;show ix ((p.take 2).map (fun _=>zkP)) g kZ=_;rw[n];simp);have z:(ix (zhb p).Guests g gZ).Live=zlZ:=(by obtain⟨k,y,_,n⟩:=zv5 d gZ;show (ix ((p.take 2).map zfi) g gZ).Live=_;rw[n];simp[zfi]);rw[C,z];show KOk zkP zlZ zvm;refine⟨rfl,rfl,fun i w=>?_⟩;have s:=zD.1 w;have:ln zlZ=4:=rfl;rw[this]at s;have t:i=0\/i=1\/i=2\/i=3:=(by omega);rcases t with rfl|rfl|rfl|rfl<;>rfl
def zih (k:Kept):Nat:=k.Known.countP fun b=>b
theorem zZX:∀(l:List GAct) (u:Host×List Told),SmH u.1->SmH (zDJ l u).1
 |[],u,h=>h
 |a::l,u,h=>zZX l (zeV u.1 a,ap u.2 [zjY u.1 a]) (zZV h)
theorem z6O {h:Host}(L:z0h h):Safe h/\SmH h:=by obtain⟨c,l,a,b,rfl⟩:=L;refine⟨?_,zZX _ _ (zZW a)⟩;unfold zzG;rw[zZO];exact(z3x _ (z02 b)).1
theorem zvR {c:Type}(K:Int->Option c):∀(l:List Bool) (i n:Nat),n+l.length<=1048576->
 goL (fun _ (b:Bool) (t:Int) k=>bif b then k (zL .i64 t 1) else k t) K l i (n:Int)=K ((n+l.countP fun b=>b:Nat):Int)
 |[],_,_,_=>rfl
 |b::l,i,n,h=>by simp only[qX]at h;cases b;{exact zvR K l (i+1) n (by omega)};{show goL _ K l (i+1) (zL .i64 (n:Int) 1)=_;have a:zL .i64 (n:Int) 1=((n+1:Nat):Int):=(by rw[zqY (by omega) (by omega)];omega);rw[a,zvR K l (i+1) (n+1) (by omega),uH];simp only[if_true];congr 2;omega}
abbrev ziS (k:Kept):Bool:=pc (k.Known.length<=1048576)
abbrev zsm (k:Kept):Int:=(zih k:Int)
def zkz:Run:=rF1 (dT .kept) fun b=>(ziS b,[aI (zsm b)])
def zGk (N:Nat)(b:Kept):OA:=
 (iter (σ:=(Int×(Int×(lB×(lS×Unit))))) N (fun c a=>(cond (ilt a.2.1 (ln a.2.2.1)) (oN (inb a.2.1 (ln a.2.2.1)) (cond (ix a.2.2.1 a.2.1 false) (c ((zL .i64 a.1 1),((zL .i64 a.2.1 1),(a.2.2.1,(a.2.2.2.1,()))))) (c (a.1,((zL .i64 a.2.1 1),(a.2.2.1,(a.2.2.2.1,()))))))) (some [(aI a.1)]))) (0,(0,(b.Known,(b.Slots,())))))
def zTf:FuncId->Nat->Option Tmpl:=zq [(127,0,{n:=20,tm:=[(1,.lp 0 0),(3,ti),(4,ti)],lo:=[(0,[.sl 0 [],.sl 1 []])],ro:=[(0,.bool,false),(1,.slot,false)]})]
theorem zSA (a:Kept)(g:ziS a=true):∃N,zGk N a=some [aI (zsm a)]:=by have e:=zO.1 g;have d:a.Known.length<=big:=qV e (by decide);refine zb6 fun N c=>?_;unfold zGk oN;refine(zbk a.Known (fun i (t:Int)=>(t,(i:Int),a.Known,a.Slots,())) _ (fun _ (x:Bool) (t:Int) f=>bif x then f (zL .i64 t 1) else f t) (fun (t:Int)=>(some [(.one (.i .i64 t))])) (fun i b t rec=>?_) (fun t rec=>?_) _ (0) (c d)).trans ?_;{simp only [zbn b,zT b,zbd b,zY b d,cT]};{simp only [zbh,cF]};exact(zvR _ _ 0 0 (by simpa using e)).trans (by rw[jZ];rfl)
theorem zvZ:vT 127 zkz:=kF1 zQQ zQ zzX zo zTf zSA
def z2R:zZ:=[(127,zkz)]++z2Q
theorem zCL:zN z2R:=zh zvZ zQQ
structure MonS (x:Mon):Prop where
 sm:zeT x
 g1:1<=x.Guests.length
 g2:x.Guests.length<=2
 t2:x.Tables.length<=2
 o8:x.Outer.length<=8
 pg:∀s∈x.Outer,I64 s.Page
 tk:∀k∈x.Tables,k.Known.length<=k.Slots.length
structure AnyH (h:Host):Prop where
 mem:SmM h.Memory
 n1:1<=h.Mons.length
 n3:h.Mons.length<=3
 mons:∀x∈h.Mons,MonS x
 b1:h.Buffer.length<=1048576
 b2:h.IoBuffer.length<=1048576
theorem AnyH.sm {h:Host}(k:AnyH h):SmH h:=⟨k.mem,⟨qV k.n3 (by decide),fun x a=>(k.mons x a).sm⟩,k.b1,k.b2⟩
theorem z7r {h:Host}(S:Safe h)(sm:SmH h):AnyH h :=
 ⟨sm.1,S.ok.n1,S.ok.n3,fun x a=>by
  have k:=S.ok.mons x a;refine⟨sm.2.1.2 x a,k.g1,k.g2,by rw[k.gt];exact k.g2,by rw[k.o8];exact qY 8,fun s b=>?_,fun y c=>?_⟩
  .rcases k.sl s b with rfl|⟨h1,h2,_⟩
   .exact⟨by decide,by decide⟩
   .exact⟨by omega,by omega⟩
  .obtain⟨m,hm,rfl⟩:=zoY a mZ;obtain⟨g,hg,rfl⟩:=zoY c kZ;have:=S.rt.t m hm g (by have e:(ix h.Mons m mZ).Tables.length=(ix h.Mons m mZ).Guests.length:=k.gt;unfold ln at hg ⊢;rw[<- e];exact hg)
   rw[this.l1,this.l2];exact qY _,sm.2.2.1,sm.2.2.2⟩
theorem zxI {h:Host}(k:AnyH h)(i:Int){x:Mon}(b:MonS x):AnyH {h with Mons:=up h.Mons i x} :=
 ⟨k.mem,by rw[ze4];exact k.n1,by rw[ze4];exact k.n3,fun y a=>by
  rcases qT a with a|rfl
  .exact k.mons y a
  .exact b,k.b1,k.b2⟩
theorem zbcr {g:Guest}(h:GuS g):SmG g:=⟨qV h.1 (by decide),qV h.2.1 (by decide),qV h.2.2.1 (by decide),qV h.2.2.2 (by decide)⟩
theorem z7C {l:List Guest}(h:zlg l)(i:Int){g:Guest}(hg:SmG g):zlg (up l i g):=
 ⟨by rw[ze4];exact h.1,fun y a=>by
  rcases qT a with a|rfl
  .exact h.2 y a
  .exact hg⟩
theorem zbbq {l:List (List Int)}(h:SmM l)(i:Int){g:List Int}(hg:g.length<=1048576):SmM (up l i g):=
 ⟨by rw[ze4];exact h.1,fun y a=>by
  rcases qT a with a|rfl
  .exact h.2 y a
  .exact hg⟩
def zza (N:Nat)(c:Cur)  : OA :=
 let j:=(zsp c);let r:=({ (zi0 c) with b:=c.b}:Cur);let f:=j.Mons;let k:=(zl r (ln f));let m:=(inb k (ln f));let g:=(ix f k zi);let q:=({ (zf r (ln f)) with b:=c.b}:Cur);let e:=(zf q 24);let l:=(zl q 24);let a:=({e with b:=c.b}:Cur);let n:=(zba a [(-1),1000000000,1000000001]);let p:=({ (zf a 8) with b:=c.b}:Cur); (oN (znj c) (oN (zA r (ln f)) (oN (zA q 24) (cond (ieq l 0) (oN (zfT a 8 12) (oN m (share (up f k ({g with Outer:=(zfg a 8 12)}:Mon)) (fun d=>(some [(.agg [(.s .u8 c.b),(.i .i64 (zg1 a 8 12).i),(.i .i64 (zg1 a 8 12).h)]),(aH ({j with Mons:=d}:Host))]))))) (cond (ieq l 1) (oN m (oN (zA a 8) (oN (zlQ p) (oN (inb (zl a 8) (ln g.Out)) (share (up f k ({g with Out:=(up g.Out (zl a 8) (ztH p))}:Mon)) (fun d=>(some [(.agg [(.s .u8 c.b),(.i .i64 (zlR p).i),(.i .i64 (zlR p).h)]),(aH ({j with Mons:=d}:Host))]))))))) (cond (ieq l 2) (oN m (oN (zpY a) (oN (inb 0 (ln g.Guests)) (share (up f k ({g with Guests:=(up g.Guests 0 (zAe a))}:Mon)) (fun d=>(some [(.agg [(.s .u8 c.b),(.i .i64 (zpZ a).i),(.i .i64 (zpZ a).h)]),(aH ({j with Mons:=d}:Host))])))))) (cond (ieq l 3) (oN m (share (up f k ({g with Tables:=[]}:Mon)) (fun d=>(some [(.agg [(.s .u8 c.b),(.i .i64 e.i),(.i .i64 e.h)]),(aH ({j with Mons:=d}:Host))])))) (cond (ieq l 4) (oN (zkF a) (some [(.agg [(.s .u8 c.b),(.i .i64 (zkG a).i),(.i .i64 (zkG a).h)]),(aH ({j with Buffer:=(zrG a)}:Host))])) (cond (ieq l 5) (oN (zlS a) (oN m (share (up f k ({g with Traps:=(ztI a)}:Mon)) (fun d=>(some [(.agg [(.s .u8 c.b),(.i .i64 (zlT a).i),(.i .i64 (zlT a).h)]),(aH ({j with Mons:=d}:Host))]))))) (cond (ieq l 6) (oN (zbs a [(-1),1000000000,1000000001]) (oN m (share (up f k ({g with Own:=(zbo a [(-1),1000000000,1000000001])}:Mon)) (fun d=>(some [(.agg [(.s .u8 c.b),(.i .i64 n.i),(.i .i64 n.h)]),(aH ({j with Mons:=d}:Host))]))))) (cond (ieq l 7) (oN (zpO a) (some [(.agg [(.s .u8 c.b),(.i .i64 (ziD a).i),(.i .i64 (ziD a).h)]),(aH ({j with Memory:=(zqR a)}:Host))])) (some [(.agg [(.s .u8 c.b),(.i .i64 e.i),(.i .i64 e.h)]),(aH j)]))))))))))))
def zrP (c:Cur)(s:Cur)(a:Host):Prop:=(∃N,zza N c=some (AV.agg (zbY s)::[aH a]))/\(s.b=c.b/\0<=s.i)/\(AnyH a)
def zhl (c:Cur)  : Bool:=wC (zrP c)
def zp3 (c:Cur)  : Cur:=wS (zrP c)
def zn4 (c:Cur)  : Host:=wV (zrP c)
theorem zAf {c:Cur}(h:zhl c=true):zrP c (zp3 c) (zn4 c):=wG h
theorem z18 (c:Cur)  : 0<=(zp3 c).i:=wP fun h=>h.2.1.2
theorem z16 (c:Cur)(h:∃N,Ends (wE (fun a=>aH a) c.b fun a=>AnyH a) (zza N c)):zhl c=true:=wI (fun _ _ h=>h) h
def zA2:zdH:=rP0 fun c=>(zhl c,zp3 c,[aH (zn4 c)])
theorem zOJ:zbL Tryz.prog 65 [false,true,true] zA2:=hP0 zCL zQ zWf zo (zq []) (fun _ h=>(zAf h).1)
theorem zK8 {c:Cur}(h:zbj c):zhl c=true:=by
 refine z16 c ⟨0,?_⟩;unfold zza oN;conv=>zeta
 obtain⟨S,sm⟩:=z6O (zHm (z3N h)).2.2;have A:=z7r S sm;have q:∀{s:Cur},0<=s.i->zbj {s with b:=c.b}:=fun y=>zbM h y;have w:zbj {zi0 c with b:=c.b}:=q (zYK _);have l:0<ln (zsp c).Mons:=by have:=A.n1;unfold ln;omega
 have a:=zvF w l (kU _);have u:=zbG a zi;generalize B:zsp c=H at *;generalize zl {zi0 c with b:=c.b} (ln H.Mons)=m at *;have M:=A.mons _ u;have x:=S.ok.mons _ u;generalize C:ix H.Mons m zi=X at *;obtain⟨p,e,f,j,k,t⟩:=M.sm;have d:∀{n},zbj {zf {zf {zi0 c with b:=c.b} n with b:=c.b} 24 with b:=c.b}:=fun {n}=>q (zI _ _);refine zy (z3N h) (zy (zbD w _) (zy (zbD (q (zI _ _)) 24)
  (zbH (fun _=>zy (zoF d (by omega) (by omega) _) (zy a (zmd (zbI aH (v:={H with Mons:=up H.Mons m {X with Outer:=zfg _ _ _}}) (zpJ _ _ _) (zxI A m ?_)))))
  (fun _=>zbH (fun _=>zy a (zy (zbD d 8) (zy (zZd (q (zI _ _))) (zy (zvF d (by omega) ?_) (zmd (zbI aH (v:={H with Mons:=up H.Mons m {X with Out:=up X.Out _ (ztH _)}}) (zWv _) (zxI A m ?_)))))))
  (fun _=>zbH (fun _=>zy a (zy (zKz d) (zy ?_ (zmd (zbI aH (v:={H with Mons:=up H.Mons m {X with Guests:=up X.Guests 0 (zAe _)}}) (z1Y _) (zxI A m ?_))))))
  (fun _=>zbH (fun _=>zy a (zmd (zbI aH (v:={H with Mons:=up H.Mons m {X with Tables:=[]}}) (zI _ _) (zxI A m ?_))))
  (fun _=>zbH (fun _=>zy (zT1 d) (zbI aH (v:={H with Buffer:=zrG _}) (zS2 _) ⟨A.mem,A.n1,A.n3,A.mons,qV (zBB (zT1 d)).2.2 (by decide),A.b2⟩))
  (fun _=>zbH (fun _=>zy (zbbu d) (zy a (zmd (zbI aH (v:={H with Mons:=up H.Mons m {X with Traps:=ztI _}}) (zWA _) (zxI A m ?_)))))
  (fun _=>zbH (fun _=>zy (zew d (by simp)) (zy a (zmd (zbI aH (v:={H with Mons:=up H.Mons m {X with Own:=zbo _ _}}) (zbX _ _) (zxI A m ?_)))))
  (fun _=>zbH (fun _=>zy (zU6 d) (zbI aH (v:={H with Memory:=zqR _}) (z1L _) ⟨?_,A.n1,A.n3,A.mons,A.b1,A.b2⟩))
  (fun _=>zbI aH (v:=H) (zI _ _) A)))))))))))
 {have g:=(zpI (zoF (d (n:=ln H.Mons)) (n:=8) (by omega) (by omega) 12)).2.2 (by omega) (by omega);refine⟨⟨?_,e,f,j,k,t⟩,M.g1,M.g2,M.t2,?_,g.2 (by omega) (by omega),M.tk⟩;{have:=g.1;unfold ln at this;exact qV (m:=8) (by exact Int.ofNat_le.1 this) (by decide)};{have:=g.1;unfold ln at this;exact Int.ofNat_le.1 this}};{unfold ln;rw[x.u8];decide};{exact⟨⟨p,zbbq e _ (qV (zD5 (zZd (q (zI _ _)))).2.2 (by decide)),f,j,k,t⟩,M.g1,M.g2,M.t2,M.o8,M.pg,M.tk⟩};{exact qI (by have:=M.g1;unfold ln;omega)};{exact⟨⟨p,e,f,z7C j 0 (zbcr (zMU (zKz d)).2.2),k,t⟩,by rw[ze4];exact M.g1,by rw[ze4];exact M.g2,M.t2,M.o8,M.pg,M.tk⟩};{exact⟨⟨p,e,f,j,k,⟨by simp,by simp⟩⟩,M.g1,M.g2,by simp,M.o8,M.pg,by simp⟩};{exact⟨⟨p,e,f,j,k,t⟩,M.g1,M.g2,M.t2,M.o8,M.pg,M.tk⟩};{exact⟨⟨p,e,f,j,k,t⟩,M.g1,M.g2,M.t2,M.o8,M.pg,M.tk⟩};{have g:=(zMS (zU6 (d (n:=ln H.Mons)))).2.2;exact⟨qV g.1 (by decide),fun r z=>qV (g.2 r z) (by decide)⟩}
def z9S:zcR:=[(65,([false,true,true],zA2))]++z9R
theorem z7i:zb7 z9S:=zcs zWf (by
 intro x a;simp only[qG,qN,or_false]at a;rcases a with rfl
 .exact zOJ)
def zCw (N:Nat)(c:Cur)  : OA :=
 let a:=(zba c [0,0,0,1,1,2,(-1),9223372036854775807]); (oN (zbs c [0,0,0,1,1,2,(-1),9223372036854775807]) (some [(.agg [(.s .u8 c.b),(.i .i64 a.i),(.i .i64 a.h)]),(aI (zbo c [0,0,0,1,1,2,(-1),9223372036854775807]))]))
def ztK (c:Cur)(s:Cur)(a:Int):Prop:=(∃N,zCw N c=some (AV.agg (zbY s)::[aI a]))/\(s.b=c.b/\0<=s.i)/\(True)
def zos (c:Cur)  : Bool:=wC (ztK c)
def zwI (c:Cur)  : Cur:=wS (ztK c)
def zET (c:Cur)  : Int:=wV (ztK c)
theorem z4P {c:Cur}(h:zos c=true):ztK c (zwI c) (zET c):=wG h
theorem z4R (c:Cur)  : 0<=(zwI c).i:=wP fun h=>h.2.1.2
theorem z4Q (c:Cur)(h:∃N,Ends (wE (fun a=>aI a) c.b fun a=>True) (zCw N c)):zos c=true:=wI (fun _ _ h=>h) h
def zDG:zdH:=rP0 fun c=>(zos c,zwI c,[aI (zET c)])
theorem zSa:zbL Tryz.prog 66 [false,true,true] zDG:=hP0 zCL zQ zzX zo (zq []) (fun _ h=>(z4P h).1)
theorem at_t {c:Cur}(h:zbj c):zos c=true:=by
 refine z4Q c ⟨0,?_⟩;unfold zCw oN;conv=>zeta
 exact zy (zew h (by simp)) (zbI aI (zbX _ _) trivial)
def z9T:zcR:=[(66,([false,true,true],zDG))]++z9S
theorem zzZ:zb7 z9T:=zcs z7i (by
 intro x a;simp only[qG,qN,or_false]at a;rcases a with rfl
 .exact zSa)
def z8B:zZ:=[(298,zsP)]++z2R
theorem z6m:zN z8B:=zh zvY zCL
theorem zQL {a:List Int}(h:a.length<=big){G:Ans->Prop}{N:Nat}(l:a.length<N){g:Int}{R:Int->OA}{d:Type}(S:Int->Int->d){F:(d->OA)->d->OA}(k:∀rec i t,F rec (S i t)=bif ilt i (ln a) then (cond (ilt i 4000) (cond (inb i (ln a)) (rec (S (zL .i64 i 1) (wand .i64 (zL .i64 (zL .i64 (zmR .i64 t 131) (wcv .i64 (ix a i 0))) 7) 1073741823))) none) (R t)) else R t)(e:∀t,zbj ⟨a,0,t⟩->Ends G (R t)):Ends G (iter N F (S 0 g)):=by refine zmW (fun n s=>∃(i:Nat) (t:Int),s=S (i:Int) t/\i+n=a.length) ?_ N a.length _ ⟨0,g,rfl,by omega⟩ l;rintro n s rec ⟨i,t,rfl,p⟩ b;rw[k];have f:zbj ⟨a,0,t⟩:=⟨kU 0,h⟩;refine zbH (fun j=>zbH (fun m=>?_) (fun _=>e t f)) (fun _=>e t f);have c:(i:Int)<ln a:=qE j;unfold ln at c;rw[zY (show i<a.length by omega) h];exact zy (qI ⟨by omega,by unfold ln;omega⟩) (b (n-1) _ (by omega) ⟨i+1,_,rfl,by omega⟩)
theorem z1G {b:List Int}(h:b.length<=big){s:Cur}(a:0<=s.i):zbj {s with b:=b}:=⟨a,h⟩
def z8C:zZ:=z8B
theorem zqm:zN z8C:=z6m
def z0g (N:Nat)(c:Cur)  : OA :=
 let a:=(zba c [0,7,50,99,100,(-1)]); (oN (zbs c [0,7,50,99,100,(-1)]) (some [(.agg [(.s .u8 c.b),(.i .i64 a.i),(.i .i64 a.h)]),(aI (zbo c [0,7,50,99,100,(-1)]))]))
def zrN (c:Cur)(s:Cur)(a:Int):Prop:=(∃N,z0g N c=some (AV.agg (zbY s)::[aI a]))/\(s.b=c.b/\0<=s.i)/\(True)
def zMV (c:Cur)  : Bool:=wC (zrN c)
def zMW (c:Cur)  : Cur:=wS (zrN c)
def zWF (c:Cur)  : Int:=wV (zrN c)
theorem z1Z {c:Cur}(h:zMV c=true):zrN c (zMW c) (zWF c):=wG h
def zA0:zdH:=rP0 fun c=>(zMV c,zMW c,[aI (zWF c)])
theorem zOH:zbL Tryz.prog 79 [false,true,true] zA0:=hP0 zqm zQ zzZ zo (zq []) (fun _ h=>(z1Z h).1)
def zXC (N:Nat)(c:Cur)  : OA :=
 let d:=({ (zf c 16) with b:=c.b}:Cur);let a:=({ (zf d 16) with b:=c.b}:Cur);let e:=({ (zf a 16) with b:=c.b}:Cur);let f:=(zba e [(zl c 16),(zl d 16),(zl a 16),15,16,(-1),9223372036854775807]); (oN (zA c 16) (oN (zA d 16) (oN (zA a 16) (oN (zbs e [(zl c 16),(zl d 16),(zl a 16),15,16,(-1),9223372036854775807]) (some [(.agg [(.s .u8 c.b),(.i .i64 f.i),(.i .i64 f.h)]),(aI (zbo e [(zl c 16),(zl d 16),(zl a 16),15,16,(-1),9223372036854775807]))])))))
def zp1 (c:Cur)(s:Cur)(a:Int):Prop:=(∃N,zXC N c=some (AV.agg (zbY s)::[aI a]))/\(s.b=c.b/\0<=s.i)/\(True)
def zHk (c:Cur)  : Bool:=wC (zp1 c)
def zHl (c:Cur)  : Cur:=wS (zp1 c)
def zRB (c:Cur)  : Int:=wV (zp1 c)
theorem zYI {c:Cur}(h:zHk c=true):zp1 c (zHl c) (zRB c):=wG h
def zyk:zdH:=rP0 fun c=>(zHk c,zHl c,[aI (zRB c)])
theorem zLO:zbL Tryz.prog 141 [false,true,true] zyk:=hP0 zqm zQ zzZ zo (zq []) (fun _ h=>(zYI h).1)
def zTQ (N:Nat)(c:Cur)  : OA :=
 let a:=(zn4 c);let d:=(ix a.Mons 0 zi);let g:=({ (zp3 c) with b:=c.b}:Cur);let e:=(zS g 2);let f:=({e with b:=c.b}:Cur); (oN (zhl c) (oN (zcT g 2) (cond (zc9 g 2) (oN (inb 0 (ln a.Mons)) (cond (igt (ln d.Guests) 0) (oN (inb 0 (ln a.Mons)) (oN (zhy f) (oN (inb 0 (ln d.Guests)) (share (up a.Mons 0 ({d with Guests:=(up d.Guests 0 ({ (ix d.Guests 0 zG) with Exit:=(zcd f)}:Guest))}:Mon)) (fun j=>(some [(.agg [(.s .u8 c.b),(.i .i64 (zeH f).i),(.i .i64 (zeH f).h)]),(aH ({a with Mons:=j}:Host))])))))) (some [(.agg [(.s .u8 c.b),(.i .i64 e.i),(.i .i64 e.h)]),(aH a)]))) (some [(.agg [(.s .u8 c.b),(.i .i64 e.i),(.i .i64 e.h)]),(aH a)]))))
def znI (c:Cur)(s:Cur)(a:Host):Prop:=(∃N,zTQ N c=some (AV.agg (zbY s)::[aH a]))/\(s.b=c.b/\0<=s.i)/\(AnyH a)
def zD8 (c:Cur)  : Bool:=wC (znI c)
def zD9 (c:Cur)  : Cur:=wS (znI c)
def zMY (c:Cur)  : Host:=wV (znI c)
theorem zWG {c:Cur}(h:zD8 c=true):znI c (zD9 c) (zMY c):=wG h
def zwj:zdH:=rP0 fun c=>(zD8 c,zD9 c,[aH (zMY c)])
theorem zIQ:zbL Tryz.prog 78 [false,true,true] zwj:=hP0 zqm zQ zzZ zo (zq []) (fun _ h=>(zWG h).1)
def zbcY:zcR:=[(79,([false,true,true],zA0)),(141,([false,true,true],zyk)),(78,([false,true,true],zwj))]++z9T
theorem zJn:zb7 zbcY:=zcs zzZ (by
 intro x a;simp only[qG,qN,or_false]at a;rcases a with rfl|rfl|rfl
 .exact zOH
 .exact zLO
 .exact zIQ)
def zq1 (N:Nat)(h:List Int):OA:=
 (iter (σ:=(Int×(Int×((List Int)×(lM×(lN×(lE×(lE×Unit)))))))) N (fun l a=>let c:=a.2.2.1;let g:=(⟨c,0,a.1⟩:Cur);let f:=({ (zp3 g) with b:=c}:Cur);let d:=({ (zwI f) with b:=c}:Cur);let e:=({ (zwH d) with b:=c}:Cur);let i:=({ (zrD e) with b:=c}:Cur);let k:=(zbs i [1,2,1,2,3,0,(-1)]);let j:=(aI (zbo i [1,2,1,2,3,0,(-1)])); (cond (ilt a.2.1 (ln c)) (cond (ilt a.2.1 4000) (oN (inb a.2.1 (ln c)) (l ((wand .i64 (zL .i64 (zL .i64 (zmR .i64 a.1 131) (wcv .i64 (ix c a.2.1 0))) 7) 1073741823),((zL .i64 a.2.1 1),(c,(a.2.2.2.1,(a.2.2.2.2.1,(a.2.2.2.2.2.1,(a.2.2.2.2.2.2.1,()))))))))) (oN (zhl g) (oN (zos f) (oN (zor d) (oN (zkW e) (oN k (some [(aH (zn4 g)),(aI (zET f)),(aI (zES d)),(aI (zwF e)),j]))))))) (oN (zhl g) (oN (zos f) (oN (zor d) (oN (zkW e) (oN k (some [(aH (zn4 g)),(aI (zET f)),(aI (zES d)),(aI (zwF e)),j])))))))) ((zL .i64 94701 (ln h)),(0,(h,([],([],([],([],()))))))))
def zBD:FuncId->Nat->Option Tmpl:=zq [(64,0,{n:=32,tm:=[(0,.sl 0 []),(3,ti),(4,ti)],lo:=[(0,[.sl 1 [],.sl 2 [],.sl 3 [],.sl 4 []])],ro:=[(0,.u8,false),(1,(.sl .int),true),(2,.mon,true),(3,.entry,true),(4,.entry,true)],sk:=[(0,2,0,.lp 0 0)]})]
def zvi (b:List Int)(a:Host)(c:Int)(d:Int)(e:Int)(f:Int):Prop:=(∃N,zq1 N b=some [aH a,aI c,aI d,aI e,aI f])/\(AnyH a)
def zkY (a:List Int):Bool:=uC (T:=Host×Int×Int×Int×Int) (fun r=>zvi a r.1 r.2.1 r.2.2.1 r.2.2.2.1 r.2.2.2.2)
def znk (a:List Int):Host×Int×Int×Int×Int:=uV (fun r=>zvi a r.1 r.2.1 r.2.2.1 r.2.2.2.1 r.2.2.2.2)
def zrQ (a:List Int):Host:=(znk a).1
def zrR (a:List Int):Int:=(znk a).2.1
def zrS (a:List Int):Int:=(znk a).2.2.1
def zrT (a:List Int):Int:=(znk a).2.2.2.1
def zrU (a:List Int):Int:=(znk a).2.2.2.2
theorem zHn {a:List Int}(h:zkY a=true):zvi a (zrQ a) (zrR a) (zrS a) (zrT a) (zrU a):=uG h
theorem zYL (i:List Int)(h:∃N,Ends (fun a=>∃b c d f g,a=[aH b,aI c,aI d,aI f,aI g]/\(AnyH b)) (zq1 N i)):zkY i=true:=by obtain⟨N,a,e,b,c,d,f,g,rfl,h⟩:=h;exact zbm ⟨(b,c,d,f,g),⟨N,e⟩,h⟩
def zBr:Run:=rF1 (dS .u8) fun b=>(zkY b,[aH (zrQ b),aI (zrR b),aI (zrS b),aI (zrT b),aI (zrU b)])
theorem zSU (a:List Int)(b:zkY a=true):∃N,zq1 N a=some [aH (zrQ a),aI (zrR a),aI (zrS a),aI (zrT a),aI (zrU a)]:=by exact(zHn b).1
theorem zLS:vT 120 zBr:=kF1 zqm zQ zJn zo zBD zSU
theorem zKQ {a:List Int}(h:a.length<=big):zkY a=true:=by
 refine zYL a (zb6 fun N b=>?_);unfold zq1 oN;conv=>zeta
 refine zQL h (b h) ((fun i t=>(t,(i:Int),a,[],[],[],[],())):Int->Int->_) (fun rec i t=>by dsimp only) (fun t c=>?_);exact zy (zK8 c) (zy (at_t (z1G h (z18 _))) (zy (zbbB (z1G h (z4R _))) (zy (zba9 (z1G h (z4O _))) (zy (zew (z1G h (zYz _)) (by simp)) ⟨_,rfl,_,_,_,_,_,rfl,(zAf (zK8 c)).2.2⟩))))
def zoB (N:Nat)(c:List Int):OA:=
 (iter (σ:=(Int×(Int×((List Int)×(lM×(lN×(lE×(lE×Unit)))))))) N (fun d a=>let b:=(⟨a.2.2.1,0,a.1⟩:Cur); (cond (ilt a.2.1 (ln a.2.2.1)) (cond (ilt a.2.1 4000) (oN (inb a.2.1 (ln a.2.2.1)) (d ((wand .i64 (zL .i64 (zL .i64 (zmR .i64 a.1 131) (wcv .i64 (ix a.2.2.1 a.2.1 0))) 7) 1073741823),((zL .i64 a.2.1 1),(a.2.2.1,(a.2.2.2.1,(a.2.2.2.2.1,(a.2.2.2.2.2.1,(a.2.2.2.2.2.2.1,()))))))))) (oN (zhl b) (some [(aH (zn4 b))]))) (oN (zhl b) (some [(aH (zn4 b))])))) ((zL .i64 94701 (ln c)),(0,(c,([],([],([],([],()))))))))
def zsX (b:List Int)(a:Host):Prop:=(∃N,zoB N b=some [aH a])/\(AnyH a)
def zjr (a:List Int):Bool:=uC (T:=Host) (fun r=>zsX a r)
def zWq (a:List Int):Host:=uV (fun r=>zsX a r)
def ziz (a:List Int):Host:=(zWq a)
theorem zD1 {a:List Int}(h:zjr a=true):zsX a (ziz a):=uG h
theorem zWp (c:List Int)(h:∃N,Ends (fun a=>∃b,a=[aH b]/\(AnyH b)) (zoB N c)):zjr c=true:=by obtain⟨N,a,e,b,rfl,h⟩:=h;exact zbm ⟨b,⟨N,e⟩,h⟩
def zyx:Run:=rF1 (dS .u8) fun b=>(zjr b,[aH (ziz b)])
theorem zPc (a:List Int)(b:zjr a=true):∃N,zoB N a=some [aH (ziz a)]:=by exact(zD1 b).1
theorem zIq:vT 44 zyx:=kF1 zqm zQ zJn zo zBD zPc
theorem zGJ {a:List Int}(h:a.length<=big):zjr a=true:=by
 refine zWp a (zb6 fun N b=>?_);unfold zoB oN;conv=>zeta
 refine zQL h (b h) ((fun i t=>(t,(i:Int),a,[],[],[],[],())):Int->Int->_) (fun rec i t=>by dsimp only) (fun t c=>?_);exact zy (zK8 c) ⟨_,rfl,_,rfl,(zAf (zK8 c)).2.2⟩
def z8D:zZ:=[(120,zBr)]++z8C
theorem zUf:zN z8D:=zh zLS zqm
def zl3 (N:Nat)(a:List Int):OA:=
 (oN (zkY a) (some [(aH (zrQ a)),(aI (zrR a)),(aI (zrS a)),(aI (zrT a)),(aI (zrU a))]))
def zpt (b:List Int)(a:Host)(c:Int)(d:Int)(e:Int)(f:Int):Prop:=(∃N,zl3 N b=some [aH a,aI c,aI d,aI e,aI f])/\(AnyH a)
def zhL (a:List Int):Bool:=uC (T:=Host×Int×Int×Int×Int) (fun r=>zpt a r.1 r.2.1 r.2.2.1 r.2.2.2.1 r.2.2.2.2)
def zjx (a:List Int):Host×Int×Int×Int×Int:=uV (fun r=>zpt a r.1 r.2.1 r.2.2.1 r.2.2.2.1 r.2.2.2.2)
def zjs (a:List Int):Host:=(zjx a).1
def zjt (a:List Int):Int:=(zjx a).2.1
def zju (a:List Int):Int:=(zjx a).2.2.1
def zjv (a:List Int):Int:=(zjx a).2.2.2.1
def zjw (a:List Int):Int:=(zjx a).2.2.2.2
theorem zyQ {a:List Int}(h:zhL a=true):zpt a (zjs a) (zjt a) (zju a) (zjv a) (zjw a):=uG h
theorem zPO (i:List Int)(h:∃N,Ends (fun a=>∃b c d f g,a=[aH b,aI c,aI d,aI f,aI g]/\(AnyH b)) (zl3 N i)):zhL i=true:=by obtain⟨N,a,e,b,c,d,f,g,rfl,h⟩:=h;exact zbm ⟨(b,c,d,f,g),⟨N,e⟩,h⟩
def zuQ:Run:=rF1 (dS .u8) fun b=>(zhL b,[aH (zjs b),aI (zjt b),aI (zju b),aI (zjv b),aI (zjw b)])
theorem zI4 (a:List Int)(b:zhL a=true):∃N,zl3 N a=some [aH (zjs a),aI (zjt a),aI (zju a),aI (zjv a),aI (zjw a)]:=by exact(zyQ b).1
theorem zC7:vT 39 zuQ:=kF1 zUf zQ zJn zo (zq []) zI4
theorem zAO {a:List Int}(h:a.length<=big):zhL a=true:=by refine zPO a ⟨0,?_⟩;unfold zl3 oN;exact zy (zKQ h) ⟨_,rfl,_,_,_,_,_,rfl,(zHn (zKQ h)).2⟩
def z8E:zZ:=[(44,zyx),(39,zuQ)]++z8D
theorem zUg:zN z8E:=zh zIq (zh zC7 zUf)
def zgL (x y:List Int):Bool:=pc (x=y)
def zys:Run:=rF2 (dS .int) (dS .int) fun b c=>(zgL b c,[aB (zdh b c)])
def zP0:FuncId->Nat->Option Tmpl:=zq [(33,0,{n:=26,tm:=[(0,.sl 0 []),(1,.sl 1 []),(5,ti)],lo:=[],ro:=[(0,.int,false),(1,.int,false)]})]
theorem zO4 (a b:List Int)(d:zbU big [aS .int a,aS .int b])(e:zgL a b=true):∃N,zq0 N a b=some [aB (zdh a b)]:=by have:=zO.1 e;subst this;have f:=(len0 d);refine⟨a.length+1,?_⟩;unfold zq0 oN;rw[zb5];refine zhF a zbdb _ _ f (fun i c rec=>?_) (fun rec=>?_) (jT _);{simp only [zbn c,zT c,zbd c,zj2,zb5,zde,zdf,cT,cF,jL,jO]};{simp only [zbh,cF,zdh]}
theorem zIk:vT 33 zys:=hF2 zdk zQ zx zo zP0 zO4
def zii (x y:List Bool):Bool:=pc (x=y)
def ziP (_ _:List Bool):Bool:=true
def zwn:Run:=rF2 (dS .bool) (dS .bool) fun b c=>(zii b c,[aB (ziP b c)])
def zAx (N:Nat)(b c:lB):OA:=
 (cond (ine (ln b) (ln c)) oF (iter (σ:=(Int×(lB×(lB×Unit)))) N (fun d a=>(cond (ilt a.1 (ln a.2.1)) (oN (inb a.1 (ln a.2.1)) (oN (inb a.1 (ln a.2.2.1)) (cond (nB (ziL (ix a.2.1 a.1 false) (ix a.2.2.1 a.1 false))) oF (d ((zL .i64 a.1 1),(a.2.1,(a.2.2.1,()))))))) oT)) (0,(b,(c,())))))
def zNn:FuncId->Nat->Option Tmpl:=zq [(268,0,{n:=26,tm:=[(0,.sl 0 []),(1,.sl 1 []),(5,ti)],lo:=[],ro:=[(0,.bool,false),(1,.bool,false)]})]
theorem zMa (a b:List Bool)(d:zbU big [aS .bool a,aS .bool b])(e:zii a b=true):∃N,zAx N a b=some [aB (ziP a b)]:=by have:=zO.1 e;subst this;have f:=(len0 d);refine⟨a.length+1,?_⟩;unfold zAx oN nB;rw[zb5];refine zhF a zbcz _ _ f (fun i c rec=>?_) (fun rec=>?_) (jT _);{simp only [zbn c,zT c,zbd c,zj2,zb5,zde,zdf,cT,cF,jL,jO]};{simp only [zbh,cF,ziP]}
theorem zFb:vT 268 zwn:=hF2 zdk zQ zx zo zNn zMa
def zdv (x y:List Slot):Bool:=pc (x=y)
def zdI (_ _:List Slot):Bool:=true
def zk7:Run:=rF2 (dS .slot) (dS .slot) fun b c=>(zdv b c,[aB (zdI b c)])
def znp (N:Nat)(b c:lS):OA:=
 (cond (ine (ln b) (ln c)) oF (iter (σ:=(Int×(lS×(lS×Unit)))) N (fun f a=>let e:=(ix a.2.1 a.1 zU);let d:=(ix a.2.2.1 a.1 zU); (cond (ilt a.1 (ln a.2.1)) (oN (inb a.1 (ln a.2.1)) (oN (inb a.1 (ln a.2.2.1)) (cond (nB (cond (ieq e.Page d.Page) (ieq e.Rights d.Rights) false)) oF (f ((zL .i64 a.1 1),(a.2.1,(a.2.2.1,()))))))) oT)) (0,(b,(c,())))))
def zNq:FuncId->Nat->Option Tmpl:=zq [(267,0,{n:=26,tm:=[(0,.sl 0 []),(1,.sl 1 []),(5,ti)],lo:=[],ro:=[(0,.slot,false),(1,.slot,false)]})]
theorem zMe (a b:List Slot)(d:zbU big [aS .slot a,aS .slot b])(e:zdv a b=true):∃N,znp N a b=some [aB (zdI a b)]:=by
 have:=zO.1 e;subst this;have f:=(len0 d);refine⟨a.length+1,?_⟩;unfold znp oN nB;conv=>zeta
 rw[zb5];refine zhF a zU _ _ f (fun i c rec=>?_) (fun rec=>?_) (jT _);{simp only [zbn c,zT c,zbd c,zj2,zb5,zde,zdf,cT,cF,jL,jO]};{simp only [zbh,cF,zdI]}
theorem zFf:vT 267 zk7:=hF2 zdk zQ zx zo zNq zMe
def zje (x y:List Entry):Bool:=pc (x=y)
def zjd (_ _:List Entry):Bool:=true
def zuP:Run:=rF2 (dS .entry) (dS .entry) fun b c=>(zje b c,[aB (zjd b c)])
def zxy (N:Nat)(d e:lE):OA:=
 (cond (ine (ln d) (ln e)) oF (iter (σ:=(Int×(lE×(lE×Unit)))) N (fun f a=>let c:=(ix a.2.1 a.1 zer);let b:=(ix a.2.2.1 a.1 zer); (cond (ilt a.1 (ln a.2.1)) (oN (inb a.1 (ln a.2.1)) (oN (inb a.1 (ln a.2.2.1)) (cond (nB (cond (ieq c.Tag b.Tag) (cond (ieq c.Page b.Page) (cond (ieq c.Host b.Host) (ieq c.Rights b.Rights) false) false) false)) oF (f ((zL .i64 a.1 1),(a.2.1,(a.2.2.1,()))))))) oT)) (0,(d,(e,())))))
def zJD:FuncId->Nat->Option Tmpl:=zq [(98,0,{n:=26,tm:=[(0,.sl 0 []),(1,.sl 1 []),(5,ti)],lo:=[],ro:=[(0,.entry,false),(1,.entry,false)]})]
theorem zIZ (a b:List Entry)(d:zbU big [aS .entry a,aS .entry b])(e:zje a b=true):∃N,zxy N a b=some [aB (zjd a b)]:=by
 have:=zO.1 e;subst this;have f:=(len0 d);refine⟨a.length+1,?_⟩;unfold zxy oN nB;conv=>zeta
 rw[zb5];refine zhF a zer _ _ f (fun i c rec=>?_) (fun rec=>?_) (jT _);{simp only [zbn c,zT c,zbd c,zj2,zb5,zde,zdf,cT,cF,jL,jO]};{simp only [zbh,cF,zjd]}
theorem zC3:vT 98 zuP:=hF2 zdk zQ zx zo zJD zIZ
def zhV (x y:List Ins):Bool:=pc (x=y)
def zhi (_ _:List Ins):Bool:=true
def zmq:Run:=rF2 (dS .ins) (dS .ins) fun b c=>(zhV b c,[aB (zhi b c)])
def zoA (N:Nat)(b c:lI):OA:=
 (cond (ine (ln b) (ln c)) oF (iter (σ:=(Int×(lI×(lI×Unit)))) N (fun f a=>let e:=(ix a.2.1 a.1 ztN);let d:=(ix a.2.2.1 a.1 ztN); (cond (ilt a.1 (ln a.2.1)) (oN (inb a.1 (ln a.2.1)) (oN (inb a.1 (ln a.2.2.1)) (cond (nB (cond (ieq e.Op d.Op) (ieq e.X d.X) false)) oF (f ((zL .i64 a.1 1),(a.2.1,(a.2.2.1,()))))))) oT)) (0,(b,(c,())))))
def zPZ:FuncId->Nat->Option Tmpl:=zq [(328,0,{n:=26,tm:=[(0,.sl 0 []),(1,.sl 1 []),(5,ti)],lo:=[],ro:=[(0,.ins,false),(1,.ins,false)]})]
theorem zO3 (a b:List Ins)(d:zbU big [aS .ins a,aS .ins b])(e:zhV a b=true):∃N,zoA N a b=some [aB (zhi a b)]:=by
 have:=zO.1 e;subst this;have f:=(len0 d);refine⟨a.length+1,?_⟩;unfold zoA oN nB;conv=>zeta
 rw[zb5];refine zhF a ztN _ _ f (fun i c rec=>?_) (fun rec=>?_) (jT _);{simp only [zbn c,zT c,zbd c,zj2,zb5,zde,zdf,cT,cF,jL,jO]};{simp only [zbh,cF,zhi]}
theorem zIj:vT 328 zmq:=hF2 zdk zQ zx zo zPZ zO3
def z3o:zZ:=[(33,zys),(268,zwn),(267,zk7),(98,zuP),(328,zmq)]++zzm
theorem zvI:zN z3o:=zh zIk (zh zFb (zh zFf (zh zC3 (zh zIj zdk))))
def zfb (x y:List (List Int)):Bool:=pc (x=y)
def ze3 (_ _:List (List Int)):Bool:=true
def zk6:Run:=rF2 (dS (.sl .int)) (dS (.sl .int)) fun b c=>(zfb b c,[aB (ze3 b c)])
def zAA (N:Nat)(b:lM)(c:lM):OA:=
 (cond (ine (ln b) (ln c)) oF (iter (σ:=(Int×(lM×(lM×Unit)))) N (fun d a=>(cond (ilt a.1 (ln a.2.1)) (oN (inb a.1 (ln a.2.1)) (oN (inb a.1 (ln a.2.2.1)) (oN (zgL (ix a.2.1 a.1 []) (ix a.2.2.1 a.1 [])) (cond (nB (zdh (ix a.2.1 a.1 []) (ix a.2.2.1 a.1 []))) oF (d ((zL .i64 a.1 1),(a.2.1,(a.2.2.1,())))))))) oT)) (0,(b,(c,())))))
def zNp:FuncId->Nat->Option Tmpl:=zq [(96,0,{n:=27,tm:=[(0,.sl 0 []),(1,.sl 1 []),(5,ti)],lo:=[],ro:=[(0,(.sl .int),false),(1,(.sl .int),false)]})]
theorem zMd (a:List (List Int))(b:List (List Int))(d:zbU big [aS (.sl .int) a,aS (.sl .int) b])(e:zfb a b=true):∃N,zAA N a b=some [aB (ze3 a b)]:=by have:=zO.1 e;subst this;have f:=(len0 d);refine⟨a.length+1,?_⟩;unfold zAA oN nB;rw[zb5];refine zhF a (Ty.dflt (.sl .int)) _ _ f (fun i c rec=>?_) (fun rec=>?_) (jT _);{simp only [zbn c,zT c,zbd c,zgL,zdh,zj2,zb5,zde,zdf,cT,cF,jL,jO]};{simp only [zbh,cF,ze3]}
theorem zFe:vT 96 zk6:=hF2 zvI zQ zx zo zNp zMd
def zoV (x y:Kept):Bool:=pc (x=y)
def zoU (_ _:Kept):Bool:=true
def zyt:Run:=rF2 (dT .kept) (dT .kept) fun b c=>(zoV b c,[aB (zoU b c)])
def zB6 (N:Nat)(a b:Kept):OA:=
 (oN (zii a.Known b.Known) (cond (ziP a.Known b.Known) (oN (zdv a.Slots b.Slots) (some [(aB (zdI a.Slots b.Slots))])) oF))
theorem zO5 (a b:Kept)(c:zoV a b=true):∃N,zB6 N a b=some [aB (zoU a b)]:=by have:=zO.1 c;subst this;refine⟨0,?_⟩;simp only[zB6,zii,ziP,zdv,zdI,zj2,zb5,zde,zdf,cT,cF,jL,jO,zoU]
theorem zIl:vT 310 zyt:=kF2 zvI zQ zx zo (zq []) zO5
def zij (x y:Guest):Bool:=pc (x=y)
def zhr (_ _:Guest):Bool:=true
def zk5:Run:=rF2 (dT .guest) (dT .guest) fun b c=>(zij b c,[aB (zhr b c)])
def zAy (N:Nat)(a b:Guest):OA:=
 (oN (zhV a.Prog b.Prog) (cond (zhi a.Prog b.Prog) (cond (ieq a.A b.A) (cond (ieq a.Pc b.Pc) (oN (zdv a.Written b.Written) (cond (zdI a.Written b.Written) (oN (zdv a.Live b.Live) (cond (zdI a.Live b.Live) (cond (cond (ieq a.Ctl.Traps b.Ctl.Traps) (cond (ieq a.Ctl.Post b.Ctl.Post) (ziL a.Ctl.Open b.Ctl.Open) false) false) (cond (ieq a.Pending b.Pending) (cond (cond (ieq a.Exit.Kind b.Exit.Kind) (cond (ieq a.Exit.Page b.Exit.Page) (cond (ziL a.Exit.Write b.Exit.Write) (ieq a.Exit.N b.Exit.N) false) false) false) (cond (ziL a.Halted b.Halted) (oN (zgL a.Seen b.Seen) (some [(aB (zdh a.Seen b.Seen))])) oF) oF) oF) oF) oF)) oF)) oF) oF) oF))
theorem zMb (a b:Guest)(c:zij a b=true):∃N,zAy N a b=some [aB (zhr a b)]:=by have:=zO.1 c;subst this;refine⟨0,?_⟩;simp only[zAy,zhV,zhi,zdv,zdI,zgL,zdh,zj2,zb5,zde,zdf,cT,cF,jL,jO,zhr]
theorem zFc:vT 309 zk5:=kF2 zvI zQ zx zo (zq []) zMb
def z3p:zZ:=[(96,zk6),(310,zyt),(309,zk5)]++z3o
theorem zCP:zN z3p:=zh zFe (zh zIl (zh zFc zvI))
def zns (x y:List Kept):Bool:=pc (x=y)
def zmX (_ _:List Kept):Bool:=true
def zwo:Run:=rF2 (dS .kept) (dS .kept) fun b c=>(zns b c,[aB (zmX b c)])
def zAz (N:Nat)(b c:lK):OA:=
 (cond (ine (ln b) (ln c)) oF (iter (σ:=(Int×(lK×(lK×Unit)))) N (fun f a=>let e:=(ix a.2.1 a.1 zcN);let d:=(ix a.2.2.1 a.1 zcN); (cond (ilt a.1 (ln a.2.1)) (oN (inb a.1 (ln a.2.1)) (oN (inb a.1 (ln a.2.2.1)) (oN (zoV e d) (cond (nB (zoU e d)) oF (f ((zL .i64 a.1 1),(a.2.1,(a.2.2.1,())))))))) oT)) (0,(b,(c,())))))
def zNo:FuncId->Nat->Option Tmpl:=zq [(270,0,{n:=27,tm:=[(0,.sl 0 []),(1,.sl 1 []),(5,ti)],lo:=[],ro:=[(0,.kept,false),(1,.kept,false)]})]
theorem zMc (a b:List Kept)(d:zbU big [aS .kept a,aS .kept b])(e:zns a b=true):∃N,zAz N a b=some [aB (zmX a b)]:=by
 have:=zO.1 e;subst this;have f:=(len0 d);refine⟨a.length+1,?_⟩;unfold zAz oN nB;conv=>zeta
 rw[zb5];refine zhF a zcN _ _ f (fun i c rec=>?_) (fun rec=>?_) (jT _);{simp only [zbn c,zT c,zbd c,zoV,zoU,zj2,zb5,zde,zdf,cT,cF,jL,jO]};{simp only [zbh,cF,zmX]}
theorem zFd:vT 270 zwo:=hF2 zCP zQ zx zo zNo zMc
def zgj (x y:List Guest):Bool:=pc (x=y)
def zfL (_ _:List Guest):Bool:=true
def zj6:Run:=rF2 (dS .guest) (dS .guest) fun b c=>(zgj b c,[aB (zfL b c)])
def zl2 (N:Nat)(b c:lG):OA:=
 (cond (ine (ln b) (ln c)) oF (iter (σ:=(Int×(lG×(lG×Unit)))) N (fun f a=>let e:=(ix a.2.1 a.1 zG);let d:=(ix a.2.2.1 a.1 zG); (cond (ilt a.1 (ln a.2.1)) (oN (inb a.1 (ln a.2.1)) (oN (inb a.1 (ln a.2.2.1)) (oN (zij e d) (cond (nB (zhr e d)) oF (f ((zL .i64 a.1 1),(a.2.1,(a.2.2.1,())))))))) oT)) (0,(b,(c,())))))
def zJE:FuncId->Nat->Option Tmpl:=zq [(269,0,{n:=27,tm:=[(0,.sl 0 []),(1,.sl 1 []),(5,ti)],lo:=[],ro:=[(0,.guest,false),(1,.guest,false)]})]
theorem zI0 (a b:List Guest)(d:zbU big [aS .guest a,aS .guest b])(e:zgj a b=true):∃N,zl2 N a b=some [aB (zfL a b)]:=by
 have:=zO.1 e;subst this;have f:=(len0 d);refine⟨a.length+1,?_⟩;unfold zl2 oN nB;conv=>zeta
 rw[zb5];refine zhF a zG _ _ f (fun i c rec=>?_) (fun rec=>?_) (jT _);{simp only [zbn c,zT c,zbd c,zij,zhr,zj2,zb5,zde,zdf,cT,cF,jL,jO]};{simp only [zbh,cF,zfL]}
theorem zC4:vT 269 zj6:=hF2 zCP zQ zx zo zJE zI0
def z3q:zZ:=[(270,zwo),(269,zj6)]++z3p
theorem zQ3:zN z3q:=zh zFd (zh zC4 zCP)
def zre (x y:Mon):Bool:=pc (x=y)
def zsf (_ _:Mon):Bool:=true
def zA6:Run:=rF2 (dT .mon) (dT .mon) fun b c=>(zre b c,[aB (zsf b c)])
def zF5 (N:Nat)(a b:Mon):OA:=
 (oN (zdv a.Outer b.Outer) (cond (zdI a.Outer b.Outer) (oN (zfb a.Out b.Out) (cond (ze3 a.Out b.Out) (oN (zii a.Dirty b.Dirty) (cond (ziP a.Dirty b.Dirty) (oN (zgj a.Guests b.Guests) (cond (zfL a.Guests b.Guests) (oN (zgL a.Outs b.Outs) (cond (zdh a.Outs b.Outs) (cond (ieq a.Pending b.Pending) (cond (ieq a.Traps b.Traps) (oN (zns a.Tables b.Tables) (cond (zmX a.Tables b.Tables) (some [(aB (ieq a.Own b.Own))]) oF)) oF) oF) oF)) oF)) oF)) oF)) oF))
theorem zSl (a b:Mon)(c:zre a b=true):∃N,zF5 N a b=some [aB (zsf a b)]:=by have:=zO.1 c;subst this;refine⟨0,?_⟩;simp only[zF5,zdv,zdI,zfb,ze3,zii,ziP,zgj,zfL,zgL,zdh,zns,zmX,zj2,zb5,zde,zdf,cT,cF,jL,jO,zsf]
theorem zLh:vT 197 zA6:=kF2 zQ3 zQ zx zo (zq []) zSl
def z3r:zZ:=[(197,zA6)]++z3q
theorem zQ4:zN z3r:=zh zLh zQ3
def zoX (x y:List Mon):Bool:=pc (x=y)
def zoW (_ _:List Mon):Bool:=true
def zyu:Run:=rF2 (dS .mon) (dS .mon) fun b c=>(zoX b c,[aB (zoW b c)])
def zB7 (N:Nat)(b c:lN):OA:=
 (cond (ine (ln b) (ln c)) oF (iter (σ:=(Int×(lN×(lN×Unit)))) N (fun f a=>let e:=(ix a.2.1 a.1 zi);let d:=(ix a.2.2.1 a.1 zi); (cond (ilt a.1 (ln a.2.1)) (oN (inb a.1 (ln a.2.1)) (oN (inb a.1 (ln a.2.2.1)) (oN (zre e d) (cond (nB (zsf e d)) oF (f ((zL .i64 a.1 1),(a.2.1,(a.2.2.1,())))))))) oT)) (0,(b,(c,())))))
def zP1:FuncId->Nat->Option Tmpl:=zq [(97,0,{n:=27,tm:=[(0,.sl 0 []),(1,.sl 1 []),(5,ti)],lo:=[],ro:=[(0,.mon,false),(1,.mon,false)]})]
theorem zO6 (a b:List Mon)(d:zbU big [aS .mon a,aS .mon b])(e:zoX a b=true):∃N,zB7 N a b=some [aB (zoW a b)]:=by
 have:=zO.1 e;subst this;have f:=(len0 d);refine⟨a.length+1,?_⟩;unfold zB7 oN nB;conv=>zeta
 rw[zb5];refine zhF a zi _ _ f (fun i c rec=>?_) (fun rec=>?_) (jT _);{simp only [zbn c,zT c,zbd c,zre,zsf,zj2,zb5,zde,zdf,cT,cF,jL,jO]};{simp only [zbh,cF,zoW]}
theorem zIm:vT 97 zyu:=hF2 zQ4 zQ zx zo zP1 zO6
def zbbU:zZ:=[(97,zyu)]++z3r
theorem z3s:zN zbbU:=zh zIm zQ4
def zjf (x y:Host):Bool:=pc (x=y)
def zjZ (_ _:Host):Bool:=true
def zyr:Run:=rF2 dH dH fun b c=>(zjf b c,[aB (zjZ b c)])
def zB5 (N:Nat)(a b:Host):OA:=
 (oN (zfb a.Memory b.Memory) (cond (ze3 a.Memory b.Memory) (oN (zoX a.Mons b.Mons) (cond (zoW a.Mons b.Mons) (oN (zje a.Buffer b.Buffer) (cond (zjd a.Buffer b.Buffer) (oN (zje a.IoBuffer b.IoBuffer) (some [(aB (zjd a.IoBuffer b.IoBuffer))])) oF)) oF)) oF))
theorem zO2 (a b:Host)(c:zjf a b=true):∃N,zB5 N a b=some [aB (zjZ a b)]:=by have:=zO.1 c;subst this;refine⟨0,?_⟩;simp only[zB5,zfb,ze3,zoX,zoW,zje,zjd,zj2,zb5,zde,zdf,cT,cF,jL,jO,zjZ]
theorem zIi:vT 24 zyr:=kF2 z3s zQ zx zo (zq []) zO2
def z9d:zZ:=[(148,zxc),(34,zuV),(293,zsR)]++zzm
theorem zzo:zN z9d:=zh zAR (zh zxX (zh zv1 zdk))
theorem zqp (l:List Int):eqI l l=true:=by unfold eqI;induction l with|nil=>rfl|cons x l a=>rw[all2,zde,a];rfl
def zNw:FuncId->Nat->Option Tmpl:=zq [(332,0,{n:=26,tm:=[(0,.sl 0 []),(1,.sl 1 []),(5,ti)],lo:=[],ro:=[(0,.slot,false),(1,.slot,false)]})]
theorem zMo (a b:List Slot)(d:zbU big [aS .slot a,aS .slot b])(e:zdv a b=true):∃N,znp N a b=some [aB (zdI a b)]:=by
 have:=zO.1 e;subst this;have f:=(len0 d);refine⟨a.length+1,?_⟩;unfold znp oN nB;conv=>zeta
 rw[zb5];refine zhF a zU _ _ f (fun i c rec=>?_) (fun rec=>?_) (jT _);{simp only [zbn c,zT c,zbd c,zqp,zj2,zb5,zde,zdf,cT,cF,jL,jO]};{simp only [zbh,cF,zdI]}
theorem zFo:vT 332 zk7:=hF2 zzo zQ zx zo zNw zMo
def zP7:FuncId->Nat->Option Tmpl:=zq [(331,0,{n:=26,tm:=[(0,.sl 0 []),(1,.sl 1 []),(5,ti)],lo:=[],ro:=[(0,.ins,false),(1,.ins,false)]})]
theorem zPo (a b:List Ins)(d:zbU big [aS .ins a,aS .ins b])(e:zhV a b=true):∃N,zoA N a b=some [aB (zhi a b)]:=by
 have:=zO.1 e;subst this;have f:=(len0 d);refine⟨a.length+1,?_⟩;unfold zoA oN nB;conv=>zeta
 rw[zb5];refine zhF a ztN _ _ f (fun i c rec=>?_) (fun rec=>?_) (jT _);{simp only [zbn c,zT c,zbd c,zqp,zj2,zb5,zde,zdf,cT,cF,jL,jO]};{simp only [zbh,cF,zhi]}
theorem zIC:vT 331 zmq:=hF2 zzo zQ zx zo zP7 zPo
def zGr (N:Nat)(b:lM)(c:lM):OA:=
 (cond (ine (ln b) (ln c)) oF (iter (σ:=(Int×(lM×(lM×Unit)))) N (fun d a=>(cond (ilt a.1 (ln a.2.1)) (oN (inb a.1 (ln a.2.1)) (oN (inb a.1 (ln a.2.2.1)) (oN (zdh (ix a.2.1 a.1 []) (ix a.2.2.1 a.1 [])) (cond (nB (ziF (ix a.2.1 a.1 []) (ix a.2.2.1 a.1 []))) oF (d ((zL .i64 a.1 1),(a.2.1,(a.2.2.1,())))))))) oT)) (0,(b,(c,())))))
def zTh:FuncId->Nat->Option Tmpl:=zq [(291,0,{n:=27,tm:=[(0,.sl 0 []),(1,.sl 1 []),(5,ti)],lo:=[],ro:=[(0,(.sl .int),false),(1,(.sl .int),false)]})]
theorem zSH (a:List (List Int))(b:List (List Int))(d:zbU big [aS (.sl .int) a,aS (.sl .int) b])(e:zfb a b=true):∃N,zGr N a b=some [aB (ze3 a b)]:=by have:=zO.1 e;subst this;have f:=(len0 d);refine⟨a.length+1,?_⟩;unfold zGr oN nB;rw[zb5];refine zhF a (Ty.dflt (.sl .int)) _ _ f (fun i c rec=>?_) (fun rec=>?_) (jT _);{simp only [zbn c,zT c,zbd c,zdh,ziF,zqp,zj2,zb5,zde,zdf,cT,cF,jL,jO]};{simp only [zbh,cF,ze3]}
theorem zLx:vT 291 zk6:=hF2 zzo zQ zx zo zTh zSH
def z9e:zZ:=[(332,zk7),(331,zmq),(291,zk6)]++z9d
theorem zUp:zN z9e:=zh zFo (zh zIC (zh zLx zzo))
def zAK (N:Nat)(a b:Guest):OA:=
 (oN (zhV a.Prog b.Prog) (cond (zhi a.Prog b.Prog) (cond (ieq a.A b.A) (cond (ieq a.Pc b.Pc) (oN (zdv a.Written b.Written) (cond (zdI a.Written b.Written) (oN (zdv a.Live b.Live) (cond (zdI a.Live b.Live) (cond (cond (ieq a.Ctl.Traps b.Ctl.Traps) (cond (ieq a.Ctl.Post b.Ctl.Post) (ziL a.Ctl.Open b.Ctl.Open) false) false) (cond (ieq a.Pending b.Pending) (cond (cond (ieq a.Exit.Kind b.Exit.Kind) (cond (ieq a.Exit.Page b.Exit.Page) (cond (ziL a.Exit.Write b.Exit.Write) (ieq a.Exit.N b.Exit.N) false) false) false) (cond (ziL a.Halted b.Halted) (oN (zdh a.Seen b.Seen) (some [(aB (ziF a.Seen b.Seen))])) oF) oF) oF) oF) oF)) oF)) oF) oF) oF))
theorem zMn (a b:Guest)(c:zij a b=true):∃N,zAK N a b=some [aB (zhr a b)]:=by have:=zO.1 c;subst this;refine⟨0,?_⟩;simp only[zAK,zhV,zhi,zdv,zdI,zdh,ziF,zqp,zj2,zb5,zde,zdf,cT,cF,jL,jO,zhr]
theorem zFn:vT 321 zk5:=kF2 zUp zQ zx zo (zq []) zMn
def z9f:zZ:=[(321,zk5)]++z9e
theorem zUq:zN z9f:=zh zFn zUp
def zBV:FuncId->Nat->Option Tmpl:=zq [(292,0,{n:=27,tm:=[(0,.sl 0 []),(1,.sl 1 []),(5,ti)],lo:=[],ro:=[(0,.guest,false),(1,.guest,false)]})]
theorem zBU (a b:List Guest)(d:zbU big [aS .guest a,aS .guest b])(e:zgj a b=true):∃N,zl2 N a b=some [aB (zfL a b)]:=by
 have:=zO.1 e;subst this;have f:=(len0 d);refine⟨a.length+1,?_⟩;unfold zl2 oN nB;conv=>zeta
 rw[zb5];refine zhF a zG _ _ f (fun i c rec=>?_) (fun rec=>?_) (jT _);{simp only [zbn c,zT c,zbd c,zij,zhr,zqp,zj2,zb5,zde,zdf,cT,cF,jL,jO]};{simp only [zbh,cF,zfL]}
theorem zxZ:vT 292 zj6:=hF2 zUq zQ zx zo zBV zBU
def z9g:zZ:=[(292,zj6)]++z9f
theorem zUr:zN z9g:=zh zxZ zUq
def zva (x y:Bare):Bool:=pc (x=y)
def ztG (_ _:Bare):Bool:=true
def zyF:Run:=rF2 (dT .bare) (dT .bare) fun b c=>(zva b c,[aB (ztG b c)])
def zCn (N:Nat)(a b:Bare):OA:=
 (oN (zfb a.Memory b.Memory) (cond (ze3 a.Memory b.Memory) (oN (zgj a.Guests b.Guests) (cond (zfL a.Guests b.Guests) (oN (zdh a.Outs b.Outs) (cond (ziF a.Outs b.Outs) (some [(aB (ieq a.Pending b.Pending))]) oF)) oF)) oF))
theorem zPn (a b:Bare)(c:zva a b=true):∃N,zCn N a b=some [aB (ztG a b)]:=by have:=zO.1 c;subst this;refine⟨0,?_⟩;simp only[zCn,zfb,ze3,zgj,zfL,zdh,ziF,zqp,zj2,zb5,zde,zdf,cT,cF,jL,jO,ztG]
theorem zIB:vT 234 zyF:=kF2 zUr zQ zx zo (zq []) zPn
def z9h:zZ:=[(234,zyF)]++z9g
theorem zUs:zN z9h:=zh zIB zUr
@[simp] abbrev zn1 (h:Host)(m:Int):Bare:=zK h m
def zDT:Run:=rF2 dH dI fun b c=>(zhq b c,[aT .bare (zn1 b c)])
def zKg (N:Nat)(b:Host)(c:Int):OA:=
 (oN (zD3 b c) (cond (nB (zsn b c)) (some [(aT .bare (⟨[],[],[],0⟩:Bare))]) (iter (σ:=(Int×(Int×(Int×(Int×(lM×(lN×(lE×(lE×(lM×(lG×((List Int)×(lM×(lG×((List Int)×Unit))))))))))))))) N (fun h a=>let g:=a.2.2.2.2.2.2.2.2.2.2.2.2.1;let f:=a.2.2.2.2.2.2.2.2.2.2.2.2.2.1;let d:=(⟨a.2.2.2.2.1,a.2.2.2.2.2.1,a.2.2.2.2.2.2.1,a.2.2.2.2.2.2.2.1⟩:Host);let e:=(ap a.2.2.2.2.2.2.2.2.2.2.2.1 [(zz5 d a.1 a.2.1)]); (cond (ilt a.2.1 8) (oN (zz6 d a.1 a.2.1) (oN (few (ln e)) (h (a.1,((zL .i64 a.2.1 1),(a.2.2.1,(a.2.2.2.1,(a.2.2.2.2.1,(a.2.2.2.2.2.1,(a.2.2.2.2.2.2.1,(a.2.2.2.2.2.2.2.1,(a.2.2.2.2.2.2.2.2.1,(a.2.2.2.2.2.2.2.2.2.1,(a.2.2.2.2.2.2.2.2.2.2.1,(e,(g,(f,()))))))))))))))))) (some [(aT .bare (⟨a.2.2.2.2.2.2.2.2.2.2.2.1,g,f,a.2.2.2.1⟩:Bare))]))) (c,(0,(0,((zft b c).Pending,(b.Memory,(b.Mons,(b.Buffer,(b.IoBuffer,([],([],([],([],((zft b c).Guests,((zft b c).Outs,())))))))))))))))))
def zXl:FuncId->Nat->Option Tmpl:=zq [(63,0,{n:=39,tm:=[(1,ti),(2,.lp 0 0),(4,.lp 1 0),(7,.lp 2 0),(8,ti)],lo:=[(0,[.sl 0 [],.sl 1 [],.sl 2 [],.sl 3 []]),(1,[.sl 4 [],.sl 5 [],.sl 6 [],ti]),(2,[.sl 7 [],.sl 8 [],.sl 9 [],ti])],ro:=[(0,(.sl .int),false),(1,.mon,false),(2,.entry,false),(3,.entry,false),(4,(.sl .int),true),(5,.guest,true),(6,.int,true),(7,(.sl .int),true),(8,.guest,true),(9,.int,true)]})]
theorem zVC (a:Host)(b:Int)(f:zhq a b=true):∃N,zKg N a b=some [aT .bare (zn1 a b)]:=by
 have e:=zO.1 f;refine zb6 fun N d=>?_;unfold zKg zn1 zK oN nB;conv=>zeta
 refine must (zby e) ?_;rw[show zsn a b=hasB b (ln a.Mons) from rfl];cases g:hasB b (ln a.Mons);{rfl};{refine zdU rfl ?_;refine(zzJ 8 (fun i (t:lM)=>(b,(i:Int),0,(zft a b).Pending,a.Memory,a.Mons,a.Buffer,a.IoBuffer,[],[],[],t,(zft a b).Guests,(zft a b).Outs,())) _ (fun i (c:List (List Int)) j=>bif few (ln (ap c [zcK a b (i:Int)])) then j (ap c [zcK a b (i:Int)]) else none) (fun (t:lM)=>(some [(.agg (Ty.cells .bare (⟨t,(zft a b).Guests,(zft a b).Outs,(zft a b).Pending⟩:Bare)))])) (fun i h t rec=>?_) (fun t rec=>?_) _ ([]) (d (by decide))).trans ?_;{simp only [show ilt (i:Int) 8=true from qI (by omega),zY h (show 8<=big by decide),cT];exact must (zby e) rfl};{simp only [show ilt (((8:Nat)):Int) 8=false from qL (by omega),cF]};rw[zRc a b _ 8 0 [] (by decide)];simp only[zft,g,cT,jU]}
theorem zOr:vT 63 zDT:=kF2 zUs zQ zx zo zXl zVC
def z9i:zZ:=[(63,zDT)]++z9h
theorem zUt:zN z9i:=zh zOr zUs
theorem zUM {d:Type}(h:Host)(K:List Bare->Option d):∀(l:List Mon) (i:Nat) (a:List Bare),a.length+l.length<=2147483648->
 goL (fun i (_:Mon) a c=>bif few (ln (ap a [zK h (i:Int)])) then c (ap a [zK h (i:Int)]) else none) K l i a=K (a++(List.range' i l.length).map fun (i:Nat)=>zK h (i:Int))
 |[],_,a,_=>by simp[goL]
 |x::l,i,a,b=>by simp only[qX]at b;simp only[goL];rw[zge (by simp[ap];omega),cT,zUM h K l (i+1) _ (by simp[ap];omega)];simp[ap,u4]
@[simp] abbrev zrq (h:Host):List Bare:=zcZ h
def zwp:Run:=rF1 dH fun b=>(zV b,[aS .bare (zrq b)])
def zAB (N:Nat)(b:Host):OA:=
 (iter (σ:=(Int×(lR×(lM×(lN×(lE×(lE×Unit))))))) N (fun e a=>let c:=(⟨a.2.2.1,a.2.2.2.1,a.2.2.2.2.1,a.2.2.2.2.2.1⟩:Host);let d:=(ap a.2.1 [(zn1 c a.1)]); (cond (ilt a.1 (ln a.2.2.2.1)) (oN (zhq c a.1) (oN (few (ln d)) (e ((zL .i64 a.1 1),(d,(a.2.2.1,(a.2.2.2.1,(a.2.2.2.2.1,(a.2.2.2.2.2.1,()))))))))) (some [(aS .bare a.2.1)]))) (0,([],(b.Memory,(b.Mons,(b.Buffer,(b.IoBuffer,())))))))
def zNr:FuncId->Nat->Option Tmpl:=zq [(133,0,{n:=20,tm:=[(1,.lp 0 0),(3,.sl 0 []),(4,ti)],lo:=[(0,[.sl 1 [],.sl 2 [],.sl 3 [],.sl 4 []])],ro:=[(0,.bare,true),(1,(.sl .int),false),(2,.mon,false),(3,.entry,false),(4,.entry,false)]})]
theorem zMf (a:Host)(f:zV a=true):∃N,zAB N a=some [aS .bare (zrq a)]:=by
 have d:=zO.1 f;have e:a.Mons.length<=big:=(zcv ((zX a).1 d).2.1.1).1;refine zb6 fun N c=>?_;unfold zAB oN;conv=>zeta
 refine(zbk a.Mons (fun i (t:lR)=>((i:Int),t,a.Memory,a.Mons,a.Buffer,a.IoBuffer,())) _ (fun i (x:Mon) (t:List Bare) g=>bif few (ln (ap t [zK a (i:Int)])) then g (ap t [zK a (i:Int)]) else none) (fun (t:lR)=>(some [(.one (.s .bare t))])) (fun i b t rec=>?_) (fun t rec=>?_) _ ([]) (c e)).trans ?_;{simp only [zbn b,zT b,zbd b,zY b e,cT];exact must (zby d) rfl};{simp only [zbh,cF]};rw[zUM a _ _ 0 [] (by simpa using (zcv ((zX a).1 d).2.1.1).2)];simp[zcZ,vE]
theorem zFg:vT 133 zwp:=kF1 zUt zQ zx zo zNr zMf
def z9j:zZ:=[(133,zwp)]++z9i
theorem zUu:zN z9j:=zh zFg zUt
theorem zZr {a c:Type}(K:Unit->Option c):∀(l:List a) (i:Nat),goL (fun _ _ (_:Unit) b=>b ()) K l i ()=K ()
 |[],_=>rfl
 |_::l,i=>zZr K l (i+1)
@[simp] abbrev zu6 (h:Host)(l:List Bare):Bool:=pc (zcY h/\l=zcZ h)
@[simp] abbrev zz3 (_:Host)(_:List Bare):Bool:=true
def zyC:Run:=rF2 dH (dS .bare) fun b c=>(zu6 b c,[aB (zz3 b c)])
def zCj (N:Nat)(b:Host)(d:lR):OA:=
 (cond (ine (ln d) (ln b.Mons)) oF (iter (σ:=(Int×(lR×(lM×(lN×(lE×(lE×Unit))))))) N (fun f a=>let e:=(ix a.2.1 a.1 zND);let c:=(⟨a.2.2.1,a.2.2.2.1,a.2.2.2.2.1,a.2.2.2.2.2.1⟩:Host); (cond (ilt a.1 (ln a.2.1)) (oN (zhq c a.1) (oN (inb a.1 (ln a.2.1)) (oN (zva (zn1 c a.1) e) (cond (nB (ztG (zn1 c a.1) e)) oF (f ((zL .i64 a.1 1),(a.2.1,(a.2.2.1,(a.2.2.2.1,(a.2.2.2.2.1,(a.2.2.2.2.2.1,()))))))))))) oT)) (0,(d,(b.Memory,(b.Mons,(b.Buffer,(b.IoBuffer,()))))))))
def zP5:FuncId->Nat->Option Tmpl:=zq [(132,0,{n:=27,tm:=[(1,.sl 0 []),(2,.lp 0 0),(5,ti)],lo:=[(0,[.sl 1 [],.sl 2 [],.sl 3 [],.sl 4 []])],ro:=[(0,.bare,false),(1,(.sl .int),false),(2,.mon,false),(3,.entry,false),(4,.entry,false)]})]
theorem zPj (a:Host)(c:List Bare)(k:zu6 a c=true):∃N,zCj N a c=some [aB (zz3 a c)]:=by
 obtain⟨j,g⟩:=zO.1 k;have h:c.length<=big:=(by rw[g,zhn];exact(zcv ((zX a).1 j).2.1.1).1);refine zb6 fun N f=>?_;unfold zCj oN nB;conv=>zeta
 rw[show ine (ln c) (ln a.Mons)=false by unfold ln;rw[g,zhn];exact zb5 _];refine zdU rfl ?_;refine(zbk c (fun i (t:Unit)=>((i:Int),c,a.Memory,a.Mons,a.Buffer,a.IoBuffer,())) _ (fun i (x:Bare) (_:Unit) l=>l ()) (fun (t:Unit)=>(some [(.one (.b true))])) (fun i d t rec=>?_) (fun t rec=>?_) _ () (f h)).trans ?_;{simp only [zbn d,zT d,zbd d,zY d h,cT];have e:zn1 a (i:Int)=c[i]:=(by simp[g,zcZ]);refine must (zby j) ?_;rw[e];exact must (zbm rfl) rfl};{simp only [zbh,cF]};rw[zZr]
theorem zIx:vT 132 zyC:=kF2 zUu zQ zx zo zP5 zPj
def zbcK:zZ:=[(132,zyC)]++z9j
theorem z6u:zN zbcK:=zh zIx zUu
@[simp] abbrev zvb (a b:Host):Bool:=pc (zcY a/\zcY b/\zcZ a=zcZ b)
@[simp] abbrev zz7 (_ _:Host):Bool:=true
def zyG:Run:=rF2 dH dH fun b c=>(zvb b c,[aB (zz7 b c)])
def zCo (N:Nat)(b a:Host):OA:=
 (oN (zV a) (oN (zu6 b (zrq a)) (some [(aB (zz3 b (zrq a)))])))
theorem zPp (a b:Host)(f:zvb a b=true):∃N,zCo N a b=some [aB (zz7 a b)]:=by obtain⟨c,d,e⟩:=zO.1 f;refine⟨0,?_⟩;unfold zCo oN;exact must (zby d) (must (zby ⟨c,e.symm⟩) rfl)
theorem zID:vT 50 zyG:=kF2 z6u zQ zx zo (zq []) zPp
def zbbT:zZ:=[(73,zkA)]++zzm
theorem zQ2:zN zbbT:=zh zv2 zdk
def zbc5:zfh:=[(122,([true,true,true,true,false,false,false,false,false,false],(some (1,1,[[0],[1],[2],[4],[7]])),znz))]++zW2
theorem zW5:zd9 zbc5:=zoa zo (by
 intro x a;simp only[qG,qN,or_false]at a;rcases a with rfl
 .exact zv3)
def zJ7 (N:Nat)(f:Host)(b c:Int)(d e:Int):OA:=
 let a:=(zu f); (oN (zV f) (oN (zhC a a.Buffer b c d e false) (some [(aH (zeI a a.Buffer b c d e false)),(aI (zhB a a.Buffer b c d e false)),(aB (zfB a a.Buffer b c d e false))])))
theorem zVt (a:Host)(b c:Int)(d e:Int)(g:zfJ a b c d e=true):∃N,zJ7 N a b c d e=some [aH (zgv a b c d e),aI (zhg a b c d e),aB (zhh a b c d e)]:=by
 have f:=zO.1 g;refine⟨0,?_⟩;unfold zJ7 oN;conv=>zeta
 exact must (zby f) (must (zby f) rfl)
theorem zOj:vT 41 zlK:=kF5 zQ2 zQ zx zW5 (zq []) zVt
def zCi (N:Nat)(f:Host)(b c:Int)(d e:Int):OA:=
 let a:=(zu f); (oN (zV f) (oN (zhC a a.IoBuffer b c d e true) (some [(aH (zeI a a.IoBuffer b c d e true)),(aI (zhB a a.IoBuffer b c d e true)),(aB (zfB a a.IoBuffer b c d e true))])))
theorem zPi (a:Host)(b c:Int)(d e:Int)(g:zfJ a b c d e=true):∃N,zCi N a b c d e=some [aH (zhU a b c d e),aI (zls a b c d e),aB (zlt a b c d e)]:=by
 have f:=zO.1 g;refine⟨0,?_⟩;unfold zCi oN;conv=>zeta
 exact must (zby f) (must (zby f) rfl)
theorem zIw:vT 43 zjo:=kF5 zQ2 zQ zx zW5 (zq []) zPi
def zF0 (N:Nat)(b:Kept):OA:=
 (iter (σ:=(Int×(Int×(Int×(lB×Unit))))) N (fun c a=>(cond (ilt a.2.2.1 a.2.1) (oN (inb a.2.2.1 (ln a.2.2.2.1)) (cond (ix a.2.2.2.1 a.2.2.1 false) (c ((zL .i64 a.1 1),(a.2.1,((zL .i64 a.2.2.1 1),(a.2.2.2.1,()))))) (c (a.1,(a.2.1,((zL .i64 a.2.2.1 1),(a.2.2.2.1,()))))))) (some [(aI a.1)]))) (0,((ln b.Known),(0,(b.Known,())))))
def zS9:FuncId->Nat->Option Tmpl:=zq [(126,0,{n:=18,tm:=[(3,ti),(7,.sl 0 []),(8,ti),(9,ti)],lo:=[],ro:=[(0,.bool,false)]})]
theorem zSg (a:Kept)(g:ziS a=true):∃N,zF0 N a=some [aI (zsm a)]:=by have e:=zO.1 g;have d:a.Known.length<=big:=qV e (by decide);refine zb6 fun N c=>?_;unfold zF0 oN;refine(zbk a.Known (fun i (t:Int)=>(t,(ln a.Known),(i:Int),a.Known,())) _ (fun _ (x:Bool) (t:Int) f=>bif x then f (zL .i64 t 1) else f t) (fun (t:Int)=>(some [(.one (.i .i64 t))])) (fun i b t rec=>?_) (fun t rec=>?_) _ (0) (c d)).trans ?_;{simp only [zbn b,zT b,zbd b,zY b d,cT]};{simp only [zbh,cF]};exact(zvR _ _ 0 0 (by simpa using e)).trans (by rw[jZ];rfl)
theorem zLc:vT 126 zkz:=kF1 zdk zQ zx zo zS9 zSg
def zbcI:zZ:=[(127,zkz),(126,zkz)]++zzm
theorem zUl:zN zbcI:=zh zvZ (zh zLc zdk)
def kIn (u:Int)(l:List Kept):Int:=l.foldl (fun u k=>zL .i64 u ((zih k:Nat):Int)) u
def zzK (u:Int)(l:List Mon):Int:=l.foldl (fun u m=>kIn u m.Tables) u
def zZB (h:Host):Int:=zzK 0 h.Mons
theorem z3R {l:List Kept}{j:Nat}(a:j<l.length)(u:Int):kIn u (l.drop j)=kIn (zL .i64 u ((zih l[j]:Nat):Int)) (l.drop (j+1)):=by rw[jW a];rfl
theorem zZz {l:List Mon}{j:Nat}(a:j<l.length)(u:Int):zzK u (l.drop j)=zzK (kIn u l[j].Tables) (l.drop (j+1)):=by rw[jW a];rfl
@[simp] abbrev zjK (h:Host):Int:=zZB h
def znw:Run:=rF1 dH fun b=>(zV b,[aI (zjK b)])
def zF1 (N:Nat)(f:Host):OA:=
 (iter (σ:=(Int×(Int×(Int×(lN×Unit))))) N (fun g a=>(cond (ilt a.2.2.1 a.2.1) (oN (inb a.2.2.1 (ln a.2.2.2.1)) (iter (σ:=(Int×(Int×(Int×(Int×(Int×(Int×(lN×Unit)))))))) N (fun h b=>let e:=b.2.2.2.2.2.2.1;let c:=b.2.2.2.2.2.1;let d:=(ix e b.2.2.2.1 zi).Tables; (cond (ilt c b.2.2.2.2.1) (oN (inb c (ln d)) (oN (ziS (ix d c zcN)) (h ((zL .i64 b.1 (zsm (ix d c zcN))),(b.2.1,(b.2.2.1,(b.2.2.2.1,(b.2.2.2.2.1,((zL .i64 c 1),(e,())))))))))) (g (b.1,(b.2.1,((zL .i64 b.2.2.1 1),(e,()))))))) (a.1,(a.2.1,(a.2.2.1,(a.2.2.1,((ln (ix a.2.2.2.1 a.2.2.1 zi).Tables),(0,(a.2.2.2.1,()))))))))) (some [(aI a.1)]))) (0,((ln f.Mons),(0,(f.Mons,())))))
def zTa:FuncId->Nat->Option Tmpl:=zq [(47,0,{n:=29,tm:=[(3,ti),(9,.sl 0 []),(10,ti),(11,ti)],lo:=[],ro:=[(0,.mon,false)]}),(47,2,{n:=29,tm:=[(3,ti),(9,.sl 0 []),(10,ti),(11,ti),(16,.sl 0 [7]),(17,ti),(18,ti)],lo:=[],ro:=[(0,.mon,false)]})]
theorem zSh (a:Host)(l:zV a=true):∃N,zF1 N a=some [aI (zjK a)]:=by
 have k:=(zX a).1 (zO.1 l);have p:a.Mons.length<=1048576:=k.2.1.1;have f:a.Mons.length<=big:=(by rw[zfm];omega);refine zb6 fun N d=>?_;unfold zF1 oN;conv=>zeta
 refine(zif a.Mons.length (fun i (t:Int)=>(t,(ln a.Mons,((i:Int),(a.Mons,()))))) _ (fun _ _=>True) (fun i t=>some [AV.one (.i .i64 (zzK t (a.Mons.drop i)))]) (fun i t rec b _ n=>?_) (fun t rec _=>?_) N 0 0 trivial (jQ _) (d (by rw[zfm];omega))).trans rfl;{have q:a.Mons[i].Tables.length<=1048576:=(k.2.1.2 _ (q9 b)).2.2.2.2.2.1;have g:a.Mons[i].Tables.length<=big:=(by rw[zfm];omega);rw[zZz b];simp only[zbn b,zT b,zbd b,cT];refine(zif a.Mons[i].Tables.length (fun j (u:Int)=>(u,(ln a.Mons,((i:Int),((i:Int),(ln a.Mons[i].Tables,((j:Int),(a.Mons,()))))))) ) _ (fun _ _=>True) (fun j u=>some [AV.one (.i .i64 (zzK (kIn u (a.Mons[i].Tables.drop j)) (a.Mons.drop (i+1))))]) (fun j u e c _ h=>?_) (fun u e _=>?_) N 0 t trivial (jQ _) (d (by rw[zfm];omega))).trans rfl;{have m:ziS a.Mons[i].Tables[j]=true:=zbm ((k.2.1.2 _ (q9 b)).2.2.2.2.2.2 _ (q9 c)).1;rw[z3R c,<- h _ trivial];simp only[zbn c,zT c,zbd c,zbd b,cT,zY c g];rw[m,cT]};{simp only [zbh,cF,zY b f,kT];exact n _ trivial}};{simp only [zbh,cF,kT];rfl}
theorem zLd:vT 47 znw:=kF1 zUl zQ zx zo zTa zSh
def zGl (N:Nat)(d:Host):OA:=
 (iter (σ:=(Int×(Int×(lM×(lN×(lE×(lE×Unit))))))) N (fun g b=>(cond (ilt b.2.1 (ln b.2.2.2.1)) (iter (σ:=(Int×(Int×(Int×(lM×(lN×(lE×(lE×Unit)))))))) N (fun h a=>let c:=a.2.2.2.2.1;let e:=(ix c a.2.1 zi).Tables;let f:=(ix e a.2.2.1 zcN); (oN (inb a.2.1 (ln c)) (cond (ilt a.2.2.1 (ln e)) (oN (inb a.2.1 (ln c)) (oN (inb a.2.2.1 (ln e)) (oN (ziS f) (h ((zL .i64 a.1 (zsm f)),(a.2.1,((zL .i64 a.2.2.1 1),(a.2.2.2.1,(c,(a.2.2.2.2.2.1,(a.2.2.2.2.2.2.1,()))))))))))) (g (a.1,((zL .i64 a.2.1 1),(a.2.2.2.1,(c,(a.2.2.2.2.2.1,(a.2.2.2.2.2.2.1,())))))))))) (b.1,(b.2.1,(0,(b.2.2.1,(b.2.2.2.1,(b.2.2.2.2.1,(b.2.2.2.2.2.1,())))))))) (some [(aI b.1)]))) (0,(0,(d.Memory,(d.Mons,(d.Buffer,(d.IoBuffer,())))))))
def zTg:FuncId->Nat->Option Tmpl:=zq [(48,0,{n:=37,tm:=[(1,.lp 0 0),(3,ti),(4,ti)],lo:=[(0,[.sl 0 [],.sl 1 [],.sl 2 [],.sl 3 []])],ro:=[(0,(.sl .int),false),(1,.mon,false),(2,.entry,false),(3,.entry,false)]}),(48,2,{n:=37,tm:=[(1,.lp 0 0),(3,ti),(4,ti),(5,ti)],lo:=[(0,[.sl 0 [],.sl 1 [],.sl 2 [],.sl 3 []])],ro:=[(0,(.sl .int),false),(1,.mon,false),(2,.entry,false),(3,.entry,false)]})]
theorem zSB (a:Host)(l:zV a=true):∃N,zGl N a=some [aI (zjK a)]:=by
 have k:=(zX a).1 (zO.1 l);have p:a.Mons.length<=1048576:=k.2.1.1;have f:a.Mons.length<=big:=(by rw[zfm];omega);refine zb6 fun N d=>?_;unfold zGl oN;conv=>zeta
 refine(zif a.Mons.length (fun i (t:Int)=>(t,((i:Int),(a.Memory,(a.Mons,(a.Buffer,(a.IoBuffer,()))))))) _ (fun _ _=>True) (fun i t=>some [AV.one (.i .i64 (zzK t (a.Mons.drop i)))]) (fun i t rec b _ n=>?_) (fun t rec _=>?_) N 0 0 trivial (jQ _) (d (by rw[zfm];omega))).trans rfl;{have q:a.Mons[i].Tables.length<=1048576:=(k.2.1.2 _ (q9 b)).2.2.2.2.2.1;have g:a.Mons[i].Tables.length<=big:=(by rw[zfm];omega);rw[zZz b];simp only[zbn b,cT];refine(zif a.Mons[i].Tables.length (fun j (u:Int)=>(u,((i:Int),((j:Int),(a.Memory,(a.Mons,(a.Buffer,(a.IoBuffer,())))))))) _ (fun _ _=>True) (fun j u=>some [AV.one (.i .i64 (zzK (kIn u (a.Mons[i].Tables.drop j)) (a.Mons.drop (i+1))))]) (fun j u e c _ h=>?_) (fun u e _=>?_) N 0 t trivial (jQ _) (d (by rw[zfm];omega))).trans rfl;{have m:ziS a.Mons[i].Tables[j]=true:=zbm ((k.2.1.2 _ (q9 b)).2.2.2.2.2.2 _ (q9 c)).1;rw[z3R c,<- h _ trivial];simp only[zT b,zbd b,zbn c,zT c,zbd c,cT,zY c g];rw[m,cT]};{simp only [zT b,zbd b,zbh,cT,cF,zY b f,kT];exact n _ trivial}};{simp only [zbh,cF,kT];rfl}
theorem zLs:vT 48 znw:=kF1 zUl zQ zx zo zTg zSB
def spS:List Slot->List Int->Option (List Int)
 |[],u=>some u
 |s::l,u=>bif ieq s.Page (-1) then spS l u else (cond (u.any (fun z=>ieq z s.Page)) none (spS l (ap u [s.Page])))
def spM:List Mon->List Int->Bool
 |[],_=>true
 |m::l,u=>match spS m.Outer u with
  |none=>false
  |some v=>spM l v
def zol:List Mon->Nat
 |[]=>0
 |m::l=>m.Outer.length+zol l
def zmm (h:Host):Bool:=spM h.Mons []
theorem zTU (h:Host):zmm h=spM h.Mons []:=rfl
theorem zbcu {l:List Slot}{j:Nat}(a:j<l.length)(u:List Int):spS (l.drop j) u=bif ieq l[j].Page (-1) then spS (l.drop (j+1)) u else (cond (u.any (fun z=>ieq z l[j].Page)) none (spS (l.drop (j+1)) (ap u [l[j].Page]))):=by rw[jW a];rfl
theorem z1y {l:List Mon}{i:Nat}(a:i<l.length):zol (l.drop i)=l[i].Outer.length+zol (l.drop (i+1)):=by rw[jW a];rfl
def resP (x:Option (List Int))(l:List Mon):OA:=some [AV.one (.b (match x with|none=>false|some v=>spM l v))]
def z5B (h:Host):Prop:=zcY h/\zol h.Mons<=16777216
@[simp] abbrev zqQ (h:Host):Bool:=pc (z5B h)
@[simp] abbrev zu9 (h:Host):Bool:=zmm h
def zuW:Run:=rF1 dH fun b=>(zqQ b,[aB (zu9 b)])
def zxH (N:Nat)(f:Host):OA:=
 (iter (σ:=(Int×((List Int)×(lM×(lN×(lE×(lE×Unit))))))) N (fun k c=>(cond (ilt c.1 (ln c.2.2.2.1)) (iter (σ:=(Int×(Int×((List Int)×(lM×(lN×(lE×(lE×Unit)))))))) N (fun i a=>let h:=a.2.2.2.2.2.2.1;let d:=a.2.2.2.2.1;let g:=(ix d a.1 zi).Outer;let j:=(ix g a.2.1 zU).Page; (oN (inb a.1 (ln d)) (cond (ilt a.2.1 (ln g)) (oN (inb a.1 (ln d)) (oN (inb a.2.1 (ln g)) (cond (ieq j (-1)) (i (a.1,((zL .i64 a.2.1 1),(a.2.2.1,(a.2.2.2.1,(d,(a.2.2.2.2.2.1,(h,())))))))) (iter (σ:=(Int×(Int×(Int×(Int×((List Int)×(lM×(lN×(lE×(lE×Unit)))))))))) N (fun l b=>let e:=b.2.2.2.2.1; (cond (ilt b.2.2.2.1 (ln e)) (oN (inb b.2.2.2.1 (ln e)) (cond (ieq (ix e b.2.2.2.1 0) b.2.2.1) oF (l (b.1,(b.2.1,(b.2.2.1,((zL .i64 b.2.2.2.1 1),(e,(b.2.2.2.2.2.1,(b.2.2.2.2.2.2.1,(b.2.2.2.2.2.2.2.1,(b.2.2.2.2.2.2.2.2.1,())))))))))))) (oN (few (ln (ap e [b.2.2.1]))) (i (b.1,((zL .i64 b.2.1 1),((ap e [b.2.2.1]),(b.2.2.2.2.2.1,(b.2.2.2.2.2.2.1,(b.2.2.2.2.2.2.2.1,(b.2.2.2.2.2.2.2.2.1,()))))))))))) (a.1,(a.2.1,(j,(0,(a.2.2.1,(a.2.2.2.1,(d,(a.2.2.2.2.2.1,(h,()))))))))))))) (k ((zL .i64 a.1 1),(a.2.2.1,(a.2.2.2.1,(d,(a.2.2.2.2.2.1,(h,())))))))))) (c.1,(0,(c.2.1,(c.2.2.1,(c.2.2.2.1,(c.2.2.2.2.1,(c.2.2.2.2.2.1,())))))))) oT)) (0,([],(f.Memory,(f.Mons,(f.Buffer,(f.IoBuffer,())))))))
def zJG:FuncId->Nat->Option Tmpl:=zq [(129,0,{n:=55,tm:=[(1,.lp 0 0),(3,.sl 0 []),(4,ti)],lo:=[(0,[.sl 1 [],.sl 2 [],.sl 3 [],.sl 4 []])],ro:=[(0,.int,true),(1,(.sl .int),false),(2,.mon,false),(3,.entry,false),(4,.entry,false)]}),(129,2,{n:=55,tm:=[(1,.lp 0 0),(3,.sl 0 []),(4,ti),(5,ti)],lo:=[(0,[.sl 1 [],.sl 2 [],.sl 3 [],.sl 4 []])],ro:=[(0,.int,true),(1,(.sl .int),false),(2,.mon,false),(3,.entry,false),(4,.entry,false)]}),(129,4,{n:=55,tm:=[(1,.lp 0 0),(3,.sl 0 []),(4,ti),(5,ti),(6,ti),(7,ti)],lo:=[(0,[.sl 1 [],.sl 2 [],.sl 3 [],.sl 4 []])],ro:=[(0,.int,true),(1,(.sl .int),false),(2,.mon,false),(3,.entry,false),(4,.entry,false)]})]
theorem zI9 (a:Host)(x:zqQ a=true):∃N,zxH N a=some [aB (zu9 a)]:=by
 obtain⟨r,y⟩:=zO.1 x;have q:=zcv r.mons.len;refine zb6 fun N f=>?_;unfold zxH oN;conv=>zeta
 show _=some [AV.one (.b (zmm a))];rw[zTU];refine(zif a.Mons.length (fun i (t:List Int)=>((i:Int),(t,(a.Memory,(a.Mons,(a.Buffer,(a.IoBuffer,()))))))) _ (fun i t=>t.length+zol (a.Mons.drop i)<=16777216) (fun i t=>some [AV.one (.b (spM (a.Mons.drop i) t))]) (fun i t rec c m A=>?_) (fun t rec m=>?_) N 0 [] (by simpa using y) (jQ _) (f q.1)).trans (by simp);{have C:a.Mons[i].Outer.length<=1048576:=(r.mons.inv.2 _ (q9 c) (.s .slot _) (by simp[Ty.cells])).len;have h:a.Mons[i].Outer.length<=big:=(by rw[zfm];omega);rw[z1y c]at m;simp only[zbn c,cT];refine(zif a.Mons[i].Outer.length (fun j (u:List Int)=>((i:Int),((j:Int),(u,(a.Memory,(a.Mons,(a.Buffer,(a.IoBuffer,())))))))) _ (fun j u=>u.length+(a.Mons[i].Outer.length-j)+zol (a.Mons.drop (i+1))<=16777216) (fun j u=>resP (spS (a.Mons[i].Outer.drop j) u) (a.Mons.drop (i+1))) (fun j u e g p k=>?_) (fun u e p=>?_) N 0 t (by omega) (jQ _) (f h)).trans ?_;{simp only [zT c,zbd c,zbn g,zT g,zbd g,cT];rw[zbcu g];have w:=zY g h;cases D:ieq a.Mons[i].Outer[j].Page (-1);{simp only [cF];have v:u.length<=big:=(by rw[zfm];omega);refine(zbk u (fun n (_:Unit)=>((i:Int),((j:Int),(a.Mons[i].Outer[j].Page,((n:Int),(u,(a.Memory,(a.Mons,(a.Buffer,(a.IoBuffer,())))))))))) _ (fun _ z (_:Unit) B=>bif ieq z a.Mons[i].Outer[j].Page then oF else B ()) (fun _=>e ((i:Int),(((j+1:Nat):Int),(ap u [a.Mons[i].Outer[j].Page],(a.Memory,(a.Mons,(a.Buffer,(a.IoBuffer,())))))))) (fun n d _ l=>?_) (fun _ l=>?_) N () (f v)).trans ?_;{simp only [zbn d,zT d,zbd d,zY d v,cT]};{simp only [zbh,cF,w];rw[zge (by simp[ap];omega),cT]};{rw [zUK (fun z=>ieq z a.Mons[i].Outer[j].Page),k _ (by simp[ap];omega)];cases u.any (fun z=>ieq z a.Mons[i].Outer[j].Page)<;>rfl}};{simp only [cT,w];exact k u (by omega)}};{simp only [zT c,zbd c,zbh,cT,cF,zY c q.1,kT];exact A u (by simpa using p)};{rw [jW c];rfl}};{simp only [zbh,cF,kT];rfl}
theorem zDc:vT 129 zuW:=kF1 zdk zQ zx zo zJG zI9
def zbcJ:zZ:=[(129,zuW),(130,zmQ),(131,zlL),(128,zlJ)]++zzm
theorem z6t:zN zbcJ:=zh zDc (zh zqc (zh zoQ (zh zxU zdk)))
theorem zGV:∀(l:List Mon) (u:List Bool),zhS l u=true->∀x∈l,zd7 x=true
 |[],_,_,x,a=>by cases a
 |m::l,u,h,x,a=>by
  unfold zhS at h;cases b:zd7 m;{rw [b]at h;cases h}
  .rw [b]at h;simp only[cT]at h;cases c:zgX m.Outer u with
   |none=>rw[c]at h;cases h
   |some d =>rw[c]at h;rcases qG.1 a with rfl|a;{exact b};{exact zGV l d h x a}
theorem zX0 {h:Host}(a:zb2 h=true):∀x∈h.Mons,zd7 x=true:=by unfold zb2 at a;simp only[zdj]at a;exact zGV _ _ a.2.2.2.2
theorem zRo:∀l:List Mon,(∀x∈l,zd7 x=true)->zol l=8*l.length
 |[],_=>rfl
 |m::l,h=>by have c:=zow (zkQ (h m (by simp)));have a:=zRo l (fun x b=>h x (by simp[b]));simp only[zol,qX,a,ln] at *;omega
theorem z2F {h:Host}(b:zcY h)(a:zb2 h=true):z5B h:=by refine⟨b,?_⟩;rw[zRo _ (zX0 a)];have:=zLW a;omega
def zlX (h:Host):Bool:=bif zb2 h then (cond (zmm h) (cond (zi2 h) (cond (zgK h h.Buffer) (zgK h h.IoBuffer) false) false) false) else false
@[simp] abbrev zkb (h:Host):Bool:=zlX h
def zyE:Run:=rF1 dH fun b=>(zV b,[aB (zkb b)])
def zCm (N:Nat)(a:Host):OA:=
 (oN (zeo a) (cond (zel a) (oN (zqQ a) (cond (zu9 a) (oN (zpC a) (cond (zim a) (oN (zj9 a a.Buffer) (cond (zgm a a.Buffer) (oN (zj9 a a.IoBuffer) (some [(aB (zgm a a.IoBuffer))])) oF)) oF)) oF)) oF))
theorem zPm (a:Host)(b:zV a=true):∃N,zCm N a=some [aB (zkb a)]:=by have c:=zO.1 b;have d:zb2 a=true->z5B a:=z2F c;refine⟨0,?_⟩;unfold zCm oN;refine must rfl (br (fun _=>mu (br (fun _=>must rfl (br (fun _=>must rfl (br (fun _=>must rfl ?_) (fun _=>?_))) (fun _=>?_))) (fun _=>?_))) (fun _=>?_));all_goals first|rfl|(simp only [*,zkb,zlX,zim,zgm,cT,cF]<;>rfl)|simp_all[Ty.cells,zkb,zlX,zim,zgm]
theorem zIA:vT 49 zyE:=kF1 z6t zC zx zo (zq []) zPm
structure Clear (h:Host) (m p:Int):Prop where
 d:ix (ix h.Mons m mZ).Dirty p false=false
 s:(ix (ix h.Mons m mZ).Outer p sZ).Page≠-1->(ix (ix h.Mons m mZ).Outer p sZ).Rights=1/\(∀e∈h.Buffer,e.Host≠(ix (ix h.Mons m mZ).Outer p sZ).Page)/\(∀e∈h.IoBuffer,e.Host≠(ix (ix h.Mons m mZ).Outer p sZ).Page)/\
  ∀g i,hasB g (ln (ix h.Mons m mZ).Guests)=true->hasB i (ln (ix (ix h.Mons m mZ).Guests g gZ).Live)=true->(ix (ix (ix h.Mons m mZ).Guests g gZ).Live i sZ).Page=p->ix (ix (ix h.Mons m mZ).Tables g kZ).Known i false=false
theorem zbbl {h:Host}(c:zb2 h=true)(d:zi2 h=true)(f:zgK h h.Buffer=true)(g:zgK h h.IoBuffer=true):Safe h:=by have H:=zie.1 c;refine⟨H,fun m b=>?_,fun e a=>qJ.1 f e a,fun e a=>qJ.1 g e a⟩;exact(zbbr (H.mon b).gt).1 (qJ.1 d _ (ziv b mZ))
theorem zYn {h:Host}(H:HOk h){m p:Int}(n:Int)(b:hasB m (ln h.Mons)=true)(f:hasB p 8=true)(c:(ix (ix h.Mons m mZ).Outer p sZ).Page≠-1) :
 (ix (ix (mended h m p n).Mons m mZ).Outer p sZ).Page=(ix (ix h.Mons m mZ).Outer p sZ).Page:=by
 unfold mended;rw[zb1.2 c,cond_false];unfold zi6;cases ieq (wand .i64 n 2) 0 with
 |true=>rfl
 |false=>rw[cond_false];obtain⟨d,g⟩:=zts H b p;have a:hasB m (ln (zbA h m p).Mons)=true:=(by rw[d.like.has];exact b);have e:ix (ix (zbA h m p).Mons m mZ).Outer p sZ=ix (ix h.Mons m mZ).Outer p sZ:=g m p;unfold opened;cases ieq (wand .i64 (ix (ix (zbA h m p).Mons m mZ).Outer p sZ).Rights 2) 0 with|false=>rw[cond_false,e]|true=>rw[cond_true,(zDz d.ok a f (by rw[e];exact c) (r:=3) (.inr rfl)).2.2.1,e]
theorem zMr {h:Host}(H:HOk h){m g c a q:Int}(e:hasB m (ln h.Mons)=true)(i:hasB q 8=true)(d:Bool)(b:List Entry)(k:(ix (ix h.Mons m mZ).Outer q sZ).Page≠-1) :
 (ix (ix (zfM h b m g c a q d).1.Mons m mZ).Outer q sZ).Page=(ix (ix h.Mons m mZ).Outer q sZ).Page:=by
 have put:∀r:Host,(zet r m g c d).1.Mons=r.Mons:=fun r=>by show (zri r m g c d).Mons=_;unfold zri;cases d<;>rfl
 unfold zfM;cases zhG b m g c a with
 |true=>rfl
 |false=>rw[cond_false];cases zeq h m g c a with|false=>rw[cond_false,put]|true=>rw[cond_true,put];have M:=zDy H (m:=m) (p:=q) a e i;have f:hasB m (ln (mended h m q a).Mons)=true:=(by rw[M.op.like.has];exact e);have j:ix (zcl (mended h m q a) m g c).Mons m mZ={ix (mended h m q a).Mons m mZ with Tables:=up (ix (mended h m q a).Mons m mZ).Tables g (filled (zb4 (mended h m q a) m g) (zbW (mended h m q a) m g) (ix (mended h m q a).Mons m mZ).Outer c)}:=zbl f _ _;rw[j];exact zYn H a e i k
theorem zYm {h:Host}(S:Safe h){m g c a:Int}(e:Bool)(f:zbP h m g c a=true)(b:List Entry)(i:(ix (ix h.Mons m mZ).Outer (zbZ (zbW h m g) c a) sZ).Page≠-1) :
 (ix (ix (lookOf h b m g c a e).1.Mons m mZ).Outer (zbZ (zbW h m g) c a) sZ).Page=(ix (ix h.Mons m mZ).Outer (zbZ (zbW h m g) c a) sZ).Page:=by
 obtain⟨n,_,p⟩:=ziQ.1 f;obtain⟨_,d,hg⟩:=zf4.1 n;have l:hasB (zbZ (zbW h m g) c a) 8=true:=(walked (S.ok.guest d hg) p).q8;unfold lookOf;rw[f,cond_true];cases ieq a 2 with
 |false=>exact zMr S.ok d l e b i
 |true=>obtain⟨j,k⟩:=zts S.ok d (zbZ (zbW h m g) c a);rw[cond_true,zMr j.ok (by rw[j.like.has];exact d) l e b (by rw[k];exact i),k]
theorem z1m {h:Host}(S:Safe h){m g b a:Int}(n:zbP h m g b a=true) :
 let L:=lookOf h h.Buffer m g b a false
 0<=L.2.1/\(∀i,zK L.1 i=zK h i)/\L.1.Mons.length=h.Mons.length/\(lookOf L.1 L.1.Buffer m g b a false).2=(L.2.1,true)/\Safe (lookOf L.1 L.1.Buffer m g b a false).1:=by
 intro L;obtain⟨s,t,q⟩:=ziQ.1 n;obtain⟨_,k,hg⟩:=zf4.1 s;have v:hasB (zbZ (zbW h m g) b a) 8=true:=(walked (S.ok.guest k hg) q).q8;obtain⟨K,_⟩:Looked h L.1 m g b a (zbZ (zbW h m g) b a) L.2.1/\L.2.2=true:=zv8 S false n S.rt.e1;have R:Safe L.1:=K.op.safe S;have e:hasB m (ln L.1.Mons)=true:=by rw[K.op.like.has];exact k
 have l:(ix L.1.Mons m mZ).Guests=(ix h.Mons m mZ).Guests:=K.op.like.g m k;have f:zbW L.1 m g=zbW h m g:=by unfold zbW;rw[l]
 have d:zbP L.1 m g b a=true:=ziQ.2 ⟨zf4.2 ⟨R.ok,e,by rw[l];exact hg⟩,t,by rw[f];exact q⟩
 obtain⟨j,u⟩:=zv8 R false d R.rt.e1;rw[f] at j;have p:(ix (ix L.1.Mons m mZ).Outer (zbZ (zbW h m g) b a) sZ).Page≠-1:=by rw[K.inn];exact K.ne
 have r:=zYm R false d L.1.Buffer (by rw[f];exact p)
 rw[f,j.inn,K.inn] at r;have c:=((R.ok.mon e).slot v).pos p;rw[K.inn]at c;exact⟨c.1,fun i=>K.op.like.seen i,K.op.like.len,Prod.ext r u,j.op.safe R⟩
theorem zHy (a:List Slot)(b:List Kept):∀(l:List Guest) (i:Nat),(∀k (d:k<l.length),((i+k:Nat):Int)<ln b->zlw (ix b ((i+k:Nat):Int) kZ) l[k].Live a=true)->zkn a b l i=true
 |[],_,_=>rfl
 |g::l,i,h=>by
  unfold zkn;cases f:ilt (i:Int) (ln b) with
  |false=>rfl
  |true=>
   have e:=h 0 (by simp) (by simpa using qE f);rw[cond_true,show zlw (ix b (i:Int) zcN) g.Live a=true from e,cond_true];exact zHy a b l (i+1) fun k d c=>by have:=h (k+1) (by simpa using d) (by rw[show i+(k+1)=i+1+k by omega];exact c);rw[show i+(k+1)=i+1+k by omega] at this;exact this
theorem z5p {h:Host}(S:Safe h):zi2 h=true:=by unfold zi2;rw[qJ];intro x d;obtain⟨m,c,e⟩:=zoY d mZ;have T:=S.rt.t m c;rw[e] at T;refine zHy _ _ _ 0 fun k a b=>zZA.2 ?_;have hg:hasB ((0+k:Nat):Int) (ln x.Guests)=true:=zD.2 ⟨by omega,by unfold ln;omega⟩;have:=T _ hg;rw[show ix x.Guests ((0+k:Nat):Int) gZ=x.Guests[k] by rw[show ((0+k:Nat):Int)=(k:Int) by omega];exact zku a gZ] at this;exact this
def cU (u:List Int)(q:Int):Nat:=u.countP fun z=>ieq z q
theorem zWU:∀(l:List Slot) (u:List Int),(∀s∈l,SOk s)->(∀q,0<=q->(l.countP fun s=>ieq s.Page q)+cU u q<=1)->∃v,spS l u=some v/\∀q,0<=q->cU v q=(l.countP fun s=>ieq s.Page q)+cU u q
 |[],u,_,_=>⟨u,rfl,fun q _=>by simp⟩
 |s::l,u,j,g=>by
  have i:∀x∈l,SOk x:=fun x n=>j x (qS _ n);unfold spS;by_cases e:s.Page = -1;{rw [zbv.2 e,cond_true];obtain⟨v,d,f⟩:=zWU l u i fun q a=>(by have:=g q a;rw[zjR,if_neg (by omega)] at this;exact this);exact⟨v,d,fun q a=>by rw[f q a,zjR,if_neg (by omega)];rfl⟩}
  .have hp:=(j s jA).pos e;rw[zb1.2 e,cond_false];have k:=g s.Page hp.1;rw[zjR,if_pos rfl]at k;have m:u.any (fun z=>ieq z s.Page)=false:=by rw[<- vS,k6];rintro⟨z,p,h⟩;have:0<cU u s.Page:=vG.2 ⟨z,p,h⟩;omega
   rw[m,cond_false];have b:∀q,cU (ap u [s.Page]) q=cU u q+if s.Page=q then 1 else 0:=fun q=>by
    unfold cU ap;rw[List.countP_append,uH,List.countP_nil]
    by_cases c:s.Page=q
    .rw [if_pos c,if_pos (zbv.2 c)]
    .rw [if_neg c,if_neg (by rw[zbv];exact c)]
   obtain⟨v,d,f⟩:=zWU l (ap u [s.Page]) i fun q a=>(by have:=g q a;rw[zjR] at this;rw[b];omega);exact⟨v,d,fun q a=>by rw[f q a,b,zjR];omega⟩
theorem z5n:∀(l:List Mon) (u:List Int),(∀x∈l,∀s∈x.Outer,SOk s)->(∀q,0<=q->zeR l q+cU u q<=1)->spM l u=true
 |[],_,_,_=>rfl
 |x::l,u,d,c=>by have a:∀q,zeR (x::l) q=(x.Outer.countP fun s=>ieq s.Page q)+zeR l q:=fun q=>rfl;obtain⟨v,e,f⟩:=zWU x.Outer u (d x jA) fun q b=>(by have:=c q b;rw[a] at this;omega);unfold spM;rw[e];exact z5n l v (fun y g=>d y (qS _ g)) fun q b=>by have:=c q b;rw[a] at this;rw[f q b];omega
theorem z5H {h:Host}(H:HOk h):zmm h=true:=by rw[zTU];refine z5n _ _ (fun x b=>(H.mons x b).sl) fun q a=>?_;have:=H.uq q a;simpa [cU] using this
theorem z4U {h:Host}(S:Safe h):zlX h=true:=by unfold zlX;rw[zie.2 S.ok,cond_true,z5H S.ok,cond_true,z5p S,cond_true,show zgK h h.Buffer=true from qJ.2 S.rt.e1,cond_true];exact qJ.2 S.rt.e2
def KS (k:Kept):Prop:=k.Known.length<=k.Slots.length
theorem zzL:∀(n i:Nat) (k:Kept),KS k->KS (zfo n i k)
 | 0,_,_,h=>h
 |n+1,i,k,h=>zzL n (i+1) _ (by
  unfold zbN;cases zdb k i with
  |false=>exact h
  |true=>show (up k.Known _ _).length<=(up k.Slots _ _).length;rw[ze4,ze4];exact h)
theorem zDx:∀(n i:Nat) (k:Kept),i+n=k.Known.length->KS k->(∀j:Nat,j<i->ix k.Known (j:Int) false=false)->∀b∈(zfo n i k).Known,b=false
 | 0,i,k,m,g,f,b,d=>by obtain⟨j,c,rfl⟩:=zoY d false;obtain⟨q,h⟩:=zD.1 c;unfold ln at h;have e:j=(j.toNat:Int):=(by omega);rw[e];exact f j.toNat (by have:(zfo 0 i k).Known.length=k.Known.length:=rfl;omega)
 |n+1,i,k,m,g,f,b,d=>by have c:zdb k (i:Int)=true:=(by unfold KS at g;unfold zdb ln;rw[zD.2 ⟨by omega,by omega⟩,zD.2 ⟨by omega,by omega⟩];rfl);have e:zbN k (i:Int)=⟨up k.Known (i:Int) false,up k.Slots (i:Int) noSlot⟩:=(by unfold zbN;rw[c];rfl);have a:b∈(zfo n (i+1) (zbN k (i:Int))).Known:=d;rw[e]at a;refine zDx n (i+1) _ (by rw[ze4];omega) (by show (up k.Known _ _).length<=(up k.Slots _ _).length;rw[ze4,ze4];exact g) (fun j p=>?_) b a;by_cases l:j=i;{subst l;exact zbl (zD.2 ⟨by omega,by unfold ln;omega⟩) _ _};{show ix (up k.Known (i:Int) false) (j:Int) false=false;rw[zbw (by omega) (by omega) (by omega)];exact f j (by omega)}
theorem zU3 {k:Kept}(h:KS k):zih (zfG k)=0:=by unfold zih;exact uN.2 fun b a=>by rw[zDx _ 0 k (by omega) h (fun j c=>absurd c (by omega)) b a];decide
theorem zGF:∀(n j:Nat) (l:List Kept),j+n=l.length->(∀k∈l,KS k)->(∀i:Nat,i<j->zih (ix l (i:Int) kZ)=0)->∀k∈zoJ n j l,zih k=0
 | 0,j,l,r,b,a,k,c=>by obtain⟨i,h,rfl⟩:=zoY c kZ;obtain⟨s,m⟩:=zD.1 h;unfold ln at m;have e:i=(i.toNat:Int):=(by omega);rw[e];exact a i.toNat (by have:(zoJ 0 j l).length=l.length:=rfl;omega)
 |n+1,j,l,r,b,a,k,c=>by have f:hasB (j:Int) (ln l)=true:=zD.2 ⟨by omega,by unfold ln;omega⟩;have g:KS (ix l (j:Int) kZ):=b _ (ziv f kZ);refine zGF n (j+1) (up l (j:Int) (zfG (ix l (j:Int) kZ))) (by rw[ze4];omega) (fun y d=>?_) (fun i q=>?_) k c;{rcases qT d with d|rfl;{exact b y d};{exact zzL _ _ _ g}};{by_cases p:i=j;{subst p;rw[zbl f];exact zU3 g};{rw [zbw (by omega) (by omega) (by omega)];exact a i (by omega)}}
theorem zU5:∀(n j:Nat) (l:List Kept),(∀k∈l,KS k)->∀k∈zoJ n j l,KS k
 | 0,_,_,h=>h
 |n+1,j,l,h=>zU5 n (j+1) _ fun y a=>by rcases qT a with a|rfl;{exact h y a};{refine zzL _ _ _ ?_;by_cases b:hasB (j:Int) (ln l)=true;{exact h _ (ziv b kZ)};{have e:ix l (j:Int) kZ=kZ:=(by unfold ix;have:¬ j<l.length:=fun c=>b (zD.2 ⟨by omega,by unfold ln;omega⟩);simp[List.getD,vA (Nat.le_of_not_lt this)]);rw[e];exact qY _}}
theorem zQN:∀(n j:Nat) (l:List Mon),j+n=l.length->(∀x∈l,∀k∈x.Tables,KS k)->(∀i:Nat,i<j->∀k∈(ix l (i:Int) mZ).Tables,zih k=0)->∀x∈zkq n j l,∀k∈x.Tables,zih k=0
 | 0,j,l,t,c,a,x,d=>by obtain⟨i,m,rfl⟩:=zoY d mZ;obtain⟨u,p⟩:=zD.1 m;unfold ln at p;have e:i=(i.toNat:Int):=(by omega);rw[e];exact a i.toNat (by have:(zkq 0 j l).length=l.length:=rfl;omega)
 |n+1,j,l,t,c,a,x,d=>by have g:hasB (j:Int) (ln l)=true:=zD.2 ⟨by omega,by unfold ln;omega⟩;have h:=c _ (ziv g mZ);have q:=zGF (ix l (j:Int) mZ).Tables.length 0 (ix l (j:Int) mZ).Tables (by omega) h (fun i a=>absurd a (by omega));refine zQN n (j+1) (up l (j:Int) (zoK (ix l (j:Int) mZ) (ix l (j:Int) mZ).Tables.length 0)) (by rw[ze4];omega) (fun y f k b=>?_) (fun i s=>?_) x d;{rcases qT f with f|rfl;{exact c y f k b};{exact zU5 _ _ _ h k b}};{by_cases r:i=j;{subst r;rw[zbl g];exact q};{rw [zbw (by omega) (by omega) (by omega)];exact a i (by omega)}}
theorem zU2:∀(l:List Kept),(∀k∈l,zih k=0)->kIn 0 l=0
 |[],_=>rfl
 |k::l,h=>by show kIn (zL .i64 0 ((zih k:Nat):Int)) l=0;rw[h k jA];exact zU2 l fun x a=>h x (qS _ a)
theorem zRe:∀(l:List Mon),(∀x∈l,∀k∈x.Tables,zih k=0)->zzK 0 l=0
 |[],_=>rfl
 |x::l,h=>by show zzK (kIn 0 x.Tables) l=0;rw[zU2 _ (h x jA)];exact zRe l fun y a=>h y (qS _ a)
theorem z09 {h:Host}(A:AnyH h):zZB (cold h)=0 :=
 zRe _ (zQN _ 0 h.Mons (by omega) (fun x b=>(A.mons x b).tk) (fun i a=>absurd a (by omega)))
theorem zVS {d b:Type}{f:d->b}{l:List d}{x:b}{c:List b}(h:l.map f=x::c):∃a r,l=a::r/\f a=x/\r.map f=c:=by cases l with|nil=>cases h|cons a r=>simp only[jE,List.cons.injEq]at h;exact⟨a,r,rfl,h.1,h.2⟩
theorem zbcq {a:AV}{b:CTy}(h:some a.sh=some (false,[b])):∃c,a = .one c/\c.ty=b:=by cases a with|one c=>simp only[AV.sh,qC,jX,List.cons.injEq,and_true,true_and]at h;exact⟨c,rfl,h⟩|agg l=>simp[AV.sh]at h
theorem sh_s {a:AV}{t:Ty}(h:some a.sh=some (false,[.s t])):∃l:List t.den,a = .one (.s t l):=by obtain⟨c,rfl,b⟩:=zbcq h;obtain⟨l,rfl⟩:=zma b;exact⟨l,rfl⟩
section
open Go Go.ChangeShapes Go.WideShapes Go.ChangeAt
abbrev zOT (_:List Int):Bool:=true
abbrev zL0 (l:List Int):Bool:=igt (ln l) 1048576
def zRy:Run:=rF1 (dS .u8) fun b=>(zOT b,[aB (zL0 b)])
def zY6 (N:Nat)(a:List Int):OA:=
 (some [(aB (igt (ln a) 1048576))])
theorem z3Z (a:List Int)(b:zOT a=true):∃N,zY6 N a=some [aB (zL0 a)]:=by refine⟨0,?_⟩;unfold zY6;first|rfl|(simp only [*,zL0,cT,cF]<;>rfl)|simp_all[Ty.cells,zL0]
theorem zXX:vT 7 zRy:=kF1 zUg zQ zx zo (zq []) z3Z
def z8N:zZ:=[(7,zRy),(24,zyr),(40,zlK),(41,zlK),(42,zjo),(43,zjo),(45,zmr),(46,zmr),(47,znw),(48,znw),(49,zyE),(50,zyG)]++z8E
theorem z6n:zN z8N:=zh zXX (zh zIi (zh zxT (zh zOj (zh zuu (zh zIw (zh zCZ (zh zC6 (zh zLd (zh zLs (zh zIA (zh zID zUg)))))))))))
def zno (N:Nat)(h:List Int):OA:=
 let f:=(ziz h);let j:=(aB (ieq (zjK (zhZ f)) 0));let e:=(zjw h);let d:=(zjv h);let c:=(zju h);let b:=(zjt h);let a:=(zjs h);let i:=(zhg a b c d e);let g:=(zgv a b c d e); (oN (zOT h) (cond (zL0 h) oT (oN (zhL h) (oN (zfJ a b c d e) (oN (zfJ a b c d e) (oN (zfJ a b c d e) (oN (zfJ a b c d e) (cond (ine i (zhg a b c d e)) oF (cond (nB (ziL (zhh a b c d e) (zhh a b c d e))) oF (oN (zjf g (zgv a b c d e)) (cond (nB (zjZ g (zgv a b c d e))) oF (cond (ine (zls a b c d e) (zls a b c d e)) oF (cond (nB (ziL (zlt a b c d e) (zlt a b c d e))) oF (oN (zjf (zhU a b c d e) (zhU a b c d e)) (cond (nB (zjZ (zhU a b c d e) (zhU a b c d e))) oF (oN (zjr h) (oN (zV f) (oN (zV f) (oN (zjf (zhZ f) (zhZ f)) (cond (nB (zjZ (zhZ f) (zhZ f))) oF (oN (zV f) (oN (zV f) (cond (ine (zjK f) (zjK f)) oF (cond (nB (zhh a b c d e)) (oN (zjf g a) (cond (zjZ g a) (cond (ieq i (-1)) (oN (zV f) (oN (zV (zhZ f)) (some [j]))) oF) oF)) (oN (zfJ g b c d e) (oN (zV a) (cond (nB (zkb a)) (oN (zV f) (oN (zV (zhZ f)) (some [j]))) (cond (ige i 0) (oN (zvb g a) (cond (zz7 g a) (cond (zhh g b c d e) (cond (ieq (zhg g b c d e) i) (oN (zV (zgv g b c d e)) (cond (zkb (zgv g b c d e)) (oN (zV f) (oN (zV (zhZ f)) (some [j]))) oF)) oF) oF) oF)) oF))))))))))))))))))))))))))))
theorem zPE (N:Nat)(a:List Int):evalFn (cQ z8N z6X zPI zW2) (zq []) N 12 5 [aS .u8 a]=zno N a:=by kernel_rfl
theorem z4T {h:Host}(k:zlX h=true):Safe h:=by unfold zlX at k;cases a:zb2 h with|false=>rw[a] at k;cases k|true=>(cases b:zmm h with|false=>rw[a,b] at k;cases k|true=>(cases c:zi2 h with|false=>rw[a,b,c] at k;cases k|true=>(cases d:zgK h h.Buffer with|false=>rw[a,b,c,d] at k;cases k|true=>rw[a,b,c,d] at k;exact zbbl a c d k)))
theorem zH3 (N:Nat)(f:List Int)(r:f.length<=big):Ends (fun a=>a=[.one (.b true)]) (zno N f):=by
 unfold zno oN nB;conv=>zeta
 have A:=(zyQ (zAO r)).2;have C:=(zD1 (zGJ r)).2;have z:=z09 C;refine zy rfl (zbH (fun _=>zuo rfl) (fun _=>zy (zAO r) ?_));generalize zjs f=h at A;generalize zjt f=m;generalize zju f=g;generalize zjv f=d;generalize zjw f=c;have sm:∀{h:Host},SmH h->zcY h:=fun k=>(zX _).2 k;have l:=sm A.sm;have n:=sm C.sm;have s:=sm (zWP C.sm);have j:Ends (fun a=>a=[AV.one (CV.b true)]) (cond (zV (ziz f)) (cond (zV (zhZ (ziz f))) (some [AV.one (.b (ieq (zjK (zhZ (ziz f))) 0))]) none) none):=(by refine zy (zbm n) (zy (zbm s) (zuo ?_));rw[show zjK (zhZ (ziz f))=0 from z];rfl);refine zy (zbm l) (zy (zbm l) (zy (zbm l) (zy (zbm l) (zmc (zb5 _) (zmc (by rw[zdf];rfl) (zy (zbm rfl) (zmc rfl (zmc (zb5 _) (zmc (by rw[zdf];rfl) (zy (zbm rfl) (zmc rfl (zy (zGJ r) (zy (zbm n) (zy (zbm n) (zy (zbm rfl) (zmc rfl (zy (zbm n) (zy (zbm n) (zmc (zb5 _) ?_)))))))))))))))))))
 cases q:zbP h m g d c with
 |false=>have e:lookOf h h.Buffer m g d c false=(h,-1,false):=zgk q;have w:zgv h m g d c=h:=congrArg Prod.fst e;have y:zhg h m g d c = -1:=congrArg (fun x=>x.2.1) e;have t:zhh h m g d c=false:=congrArg (fun x=>x.2.2) e;refine zy (by rw[t];rfl) (zy (zbm w) (zy rfl (zy ?_ j)));rw[y];rfl
 |true=>
  have t:zhh h m g d c=true:=(zVR _ _ _ _ _ _ _).trans q;have p:=zzQ h.Buffer false A.sm q;refine zmc (by rw[t];rfl) (zy (zbm (sm p)) (zy (zbm l) (zbH (fun _=>j) (fun i=>?_))))
  have S:Safe h:=z4T (by
   cases k:zlX h with
   |true=>rfl
   |false=>rw[show zkb h=false from k]at i;cases i)
  obtain⟨B,D,E,u,F⟩:=z1m S q;have v:SmH (lookOf (lookOf h h.Buffer m g d c false).1 (lookOf h h.Buffer m g d c false).1.Buffer m g d c false).1:=(by cases k:zbP (lookOf h h.Buffer m g d c false).1 m g d c with|true=>exact zzQ _ false p k|false=>rw[zgk k];exact p);refine zy (qI B) (zy (zbm ⟨sm p,l,zKv E D⟩) (zy rfl (zy (congrArg Prod.snd u) (zy ?_ (zy (zbm (sm v)) (zy (z4U F) j))))));have e:zhg (zgv h m g d c) m g d c=zhg h m g d c:=(congrArg Prod.fst u :);rw[e];exact zde _
theorem zKw (d:List Int)(h:∀c∈zB [aS .u8 d],CVOk c):∃N,zno N d=some [.one (.b true)]:=by have e:zbU big [aS .u8 d]:=fun c f=>CVB.of_ok (h c f);have g:=(len0 e);exact⟨5,zbaI (G:=fun a=>a=[.one (.b true)]) (zH3 5 d g)⟩
theorem zFW:Tryz.f5.params.toList.map (zcG Tryz.prog 4)=[some (false,[.s .u8])]:=by kernel_rfl
theorem zBG:zY3 5 Tryz.f5.params.toList:=by refine zXF z6n zQ zx zo (zjU (by kernel_rfl)) ?_;intro c hg;obtain⟨a,e⟩:=hg;rw[zFW]at a;obtain⟨h,g,rfl,d,a⟩:=zVS a;cases List.map_eq_nil_iff.1 a;obtain⟨b,rfl⟩:=sh_s d;obtain⟨N,f⟩:=zKw b e;exact⟨zq [],N,12,(zPE N b).trans f⟩
theorem zJy (H:Type)(a:List (DataW H))(h:a.length=Tryz.f5.params.toList.length):Rows.fnLookupsSpec.fn H a={results:=[.lit (.bool true)],args:=a}:=by
 have b:a.length=1:=h.trans (by kernel_rfl)
 match a,b with
 |[d],_=>rfl
set_option maxRecDepth 100000 in
theorem zDu (g:Os)(a:g.Started)(H:Type)(enc:TypeId×Value->H) :
 ReturnsInHanded {} Tryz.checked g 5 .any (Rows.fnLookupsSpec.pre6 enc Tryz.prog Tryz.f5 Rows.fnLookupsRow.domain false) (Rows.fnLookupsSpec.post enc Tryz.prog Tryz.f5 false true false false):=by
 refine returnsInHanded_of_change_shaped (C:=Tryz.checked) own a (by kernel_rfl) Tryz.func5
  (ChangeSpec.witness6 (enc:=enc) (C:=Tryz.checked) false ⟨#[],#[.slice none 0 0],[]⟩ 8 (by kernel_rfl) (by kernel_rfl) (by kernel_rfl) (by kernel_rfl)) ?_
 intro W d c h i b e j _ f _ _;exact zL1 (P:=Tryz.prog) z5P z6M rfl zJy (by kernel_rfl) (B:=4) (by kernel_rfl) (by kernel_rfl) zBG W d c h i b e j f
end
end
end Go.Proofs.YthhbajmehldikaaGreat.E
