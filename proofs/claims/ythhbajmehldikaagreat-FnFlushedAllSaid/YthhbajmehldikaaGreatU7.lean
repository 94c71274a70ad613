/- What is proved here: a part of the proof that the statement of this claim holds (several texts of wip/, laid together). -/
import Derived.Test.YthhbajmehldikaaGreatU6
namespace Go.Proofs.YthhbajmehldikaaGreat.E
open Go
set_option linter.constructorNameAsVariable false
set_option linter.unusedVariables false
set_option maxRecDepth 100000
set_option linter.unusedSimpArgs false
set_option linter.unusedSectionVars false
noncomputable section
structure BackOk (b c:Bare):Prop where
 m:c.Memory=b.Memory
 o:c.Outs=b.Outs
 n:c.Guests.length=b.Guests.length
 g:∀j,hasB j (ln b.Guests)=true->GKeep (ix b.Guests j gZ) (ix c.Guests j gZ)
 p:zc6 b.Pending=true->zc6 c.Pending=true
theorem z7K {h:Host}(S:Safe h){m:Int}(b:hasB m (ln h.Mons)=true){c:Bare}(k:BackOk (zC h m) c):SimT h (zcG h m c) m (fun _=>c):=by have X:=S.ok.mon b;have f:=zeY b;have d:(zC h m).Guests=(ix h.Mons m mZ).Guests:=(by rw[f]);have l:c.Guests.length=(ix h.Mons m mZ).Guests.length:=(by rw[k.n,d]);have hg:∀j,hasB j (ln (ix h.Mons m mZ).Guests)=true->GKeep (ix (ix h.Mons m mZ).Guests j gZ) (ix c.Guests j gZ):=fun j a=>(by have:=k.g j (by rw[d];exact a);rwa [d] at this);have kp:KeepP (ix h.Mons m mZ) (zqT (ix h.Mons m mZ) c):=⟨rfl,rfl⟩;have s:zc6 c.Pending=true:=k.p (by rw[f];exact X.pend);refine⟨zxc S b kp (zkX X kp l rfl rfl X.outs s X.tr X.own fun z t=>?_) l (fun j a=>(hg j a).live) rfl,fun i=>?_,zbO _ _ _⟩;{obtain⟨j,a,rfl⟩:=zEn t gZ;exact ztV.2 (hg j (by unfold ln at a ⊢;rw[<- l];exact a)).ok};{refine(zvr (h:=h) (r:=zcG h m c) b rfl rfl kp i).trans ?_;by_cases e:i=m;{subst e;rw[zbq.2 rfl,cond_true,cond_true];show Bare.mk (zC h i).Memory c.Guests (ix h.Mons i mZ).Outs c.Pending=c;have u:=k.m;have q:=k.o;rw[f]at q;cases c;simp_all};{rw [zbX.2 e];rfl}}
theorem seen_none {h:Host}{m:Int}(a:hasB m (ln h.Mons)=false):zC h m=⟨[],[],[],0⟩:=by unfold zC;rw[a];rfl
theorem ztZ:zbQ ⟨[],[],[],0⟩=false:=by decide
theorem zuh {b:Bare}(h:zbQ b=false)(g:Int):zb7 b g=false:=by unfold zb7;rw[h];rfl
theorem zhS {b:Bare}(h:zbQ b=true):BackOk b b:=⟨rfl,rfl,rfl,fun j a=>⟨ztV.1 (by
 unfold zbQ at h;rw[zbY,qM]at h;exact h.1 _ (zlI a _)),rfl⟩,id⟩
theorem z3e {b:Bare}(h:zbQ b=true){g:Int}(hg:hasB g (ln b.Guests)=true){y:Guest}(k:GKeep (gAt b g) y):BackOk b (zdU b g y):=by have e:gAt b g=ix b.Guests g gZ:=(by unfold gAt;rw[hg];rfl);refine⟨rfl,rfl,zbO _ _ _,fun j c=>?_,id⟩;show GKeep _ (ix (up b.Guests g y) j gZ);by_cases a:g=j;{subst a;rw[zbe hg,<- e];exact k};{rw [zbs (zI.1 hg).1 (zI.1 c).1 a];exact(zhS h).g j c}
theorem zrQ {b:Bare}(h:zbQ b=true){g:Int}{c:Bool}{y:Guest}(k:hasB g (ln b.Guests)=true->c=true->GOk (gAt b g)->GKeep (gAt b g) y):BackOk b (chg b g c y):=by unfold chg zb7;rw[h,cond_true];cases hg:hasB g (ln b.Guests) with|false=>exact zhS h|true=>rw[cond_true];(cases c with|false=>exact zhS h|true=>refine z3e h hg (k hg rfl ?_);have:=(zhS h).g g hg;unfold gAt;rw[hg];exact this.ok)
theorem zqh {h:Host}(S:Safe h)(m:Int){F:Bare->Bare}(d:∀b,zbQ b=true->BackOk b (F b))(c:F ⟨[],[],[],0⟩=⟨[],[],[],0⟩):SimT h (zez h m (F (zC h m))) m F:=by unfold zez zcr;rw[zj9.2 S.ok,cond_true];cases a:hasB m (ln h.Mons) with|false=>refine(SimT.refl S m).congr ?_;rw[seen_none a];exact c.symm|true=>exact(z7K S a (d _ (zzD S.ok a))).congr rfl
theorem zk7 {h:Host}(S:Safe h)(m:Int){t:Bare->Bool}(a:t ⟨[],[],[],0⟩=false):zdk h m (t (zC h m))=t (zC h m):=by unfold zdk zcr;rw[zj9.2 S.ok,cond_true];cases b:hasB m (ln h.Mons) with|false=>rw[cond_false,seen_none b,a]|true=>rfl
theorem zpU (g:Int)(c:Bool)(y:Guest):chg ⟨[],[],[],0⟩ g c y=⟨[],[],[],0⟩:=by unfold chg;rw[zuh ztZ];rfl
theorem zji (g:Int)(c:Bool):zbS ⟨[],[],[],0⟩ g c=false:=by unfold zbS;rw[zuh ztZ];rfl
theorem zXp {t:List Slot}{n q:Int}(h:zcS t n q=true){p:Int}{s:Slot}(b:zdD s q=true):zcS (zdE t p s) n q=true:=by
 unfold zdE;cases hasB p (ln t) with
 |false=>exact h
 |true=>rw[cond_true];rw[zrN]at h ⊢;rw[zc5];refine⟨fun x c=>?_,h.2⟩;rcases qY c with a|a;{exact h.1 x a};{rw [a];exact b}
theorem zbaO {x:Guest}(X:GOk x){p:Int}{s:Slot}(h:zs3 p s=true):GKeep x (zA9 x p s):=by unfold zs3 at h;rw[zbY]at h;exact⟨⟨X.prog,X.a,X.pc,zXp X.w h.2,X.l,X.ctl,X.pend,X.ex,X.seen⟩,rfl⟩
theorem zbaL {x:Guest}(X:GOk x){v:Int}(h:zsw x v=true):GKeep x (zxx x v):=by unfold zsw at h;rw[zbY]at h;unfold zxx;cases ieq x.Exit.Kind 2 with|true=>rw[cond_true];have b:=zjm (z1l X h.1) (e:=zkZ) rfl;have a:=zjl b.ok;exact⟨a.ok,a.live⟩|false=>rw[cond_false];have b:=zjm X (e:=zkZ) rfl;have a:=zjl b.ok;exact⟨a.ok,a.live.trans b.live⟩
theorem zbaN {x:Guest}(X:GOk x):GKeep x (zxL x):=by unfold zxL;have a:=zjm X (e:=zkZ) rfl;cases ieq x.Exit.Kind 1 with|true=>exact a|false=>have b:=zZU a.ok;exact⟨b.ok,b.live.trans a.live⟩
theorem zZV {x:Guest}(X:GOk x)(n:Int):GKeep x (znu x n):=zZW X (zSd X.pend n)
theorem zbaM {x:Guest}(X:GOk x){c:Ctl}(h:zhv c=true):GKeep x (zIV x c):=⟨⟨X.prog,X.a,X.pc,X.w,X.l,h,X.pend,X.ex,X.seen⟩,rfl⟩
theorem zDz (n:Int):∀(d:List Int) (b:Bare) (l:List Guest),(∀k∈d,hasB k (ln b.Guests)=true)->BackOk b {b with Guests:=l}->BackOk b {b with Guests:=zlO n d l}
 |[],b,l,_,h=>h
 |k::d,b,l,q,h=>by show BackOk b {b with Guests:=zlO n d (zF9 n l k)};refine zDz n d b _ (fun j a=>q j (qZ _ a)) ⟨h.m,h.o,by show (up l k _).length=_;rw[zbO];exact h.n,fun j a=>?_,h.p⟩;show GKeep _ (ix (up l k _) j gZ);have r:l.length=b.Guests.length:=h.n;have c:hasB k (ln l)=true:=(by unfold ln;rw[r];exact q k jC);by_cases e:k=j;{subst e;rw[zbe c];have f:=h.g k a;have i:=zZV f.ok n;exact⟨i.ok,i.live.trans f.live⟩};{rw [zbs (zI.1 c).1 (zI.1 a).1 e];exact h.g j a}
theorem z0J {b:Bare}(h:zbQ b=true)(n:Int):BackOk b (zjy b n):=by
 unfold zjy zeN zGa;rw[h,cond_true];cases hasB n 8 with
 |false=>exact zhS h
 |true=>
  rw[cond_true];cases ieq (ln (zd2 b.Guests n)) 0 with
  |true=>have:=zhS h;exact⟨rfl,rfl,rfl,this.g,fun c=>zSd c n⟩
  |false=>rw[cond_false];refine zDz n _ b b.Guests (fun k a=>?_) (zhS h);unfold zd2 at a;obtain⟨j,e,rfl,_⟩:=(zJS (d:=gZ)).1 a;exact zI.2 ⟨by omega,by unfold ln;omega⟩
theorem z3c {b:Bare}(h:zbQ b=true):BackOk b (zmi b):=by unfold zmi;rw[h,cond_true];exact⟨rfl,rfl,rfl,(zhS h).g,fun a=>zSe a⟩
theorem z7y {h:Host}(S:Safe h)(m p c v:Int):SimT h (zfE h m p c v) m (fun b=>zm8 b p c v)/\zcH h m p c v=ziO (zC h m) p c v:=by have e:zcH h m p c v=ziO (zC h m) p c v:=(by unfold zcH ziO zb8 zNz;rw[zj9.2 S.ok,cond_true];cases d:hasB m (ln h.Mons) with|false=>rw[seen_none d,ztZ];rfl|true=>rw[zzD S.ok d,cond_true];rfl);refine⟨?_,e⟩;unfold zfE;cases f:zcH h m p c v with|false=>refine(SimT.refl S m).congr ?_;unfold zm8;rw[<- e,f];rfl|true=>rw[cond_true];have a:=f;unfold zcH at a;rw[zbY,zbY]at a;obtain⟨k,_,_⟩:=a;obtain⟨_,d,j⟩:=zk3.1 k;have M:=zEo S.ok (m:=m) (p:=p) 2 d j;have i:=M.op.sim S m;have g:hasB m (ln (mended h m p 2).Mons)=true:=(by rw[i.has];exact d);obtain⟨l,_⟩:=zxd i.safe g j rfl M.inn c v;refine(i.trans l).congr ?_;unfold zm8;rw[<- e,f];rfl
theorem z4z {h:Host}(S:Safe h)(m g b a:Int):zca h m g b a=(cond (zb7 (zC h m) g) (cond (zjR a) (zfn (gAt (zC h m) g).Live b a) false) false):=by have e:zbZ h m g=zb7 (zC h m) g:=(by unfold zbZ zb7;rw[zj9.2 S.ok,cond_true];cases c:hasB m (ln h.Mons) with|false=>rw[seen_none c,ztZ,cond_false,cond_false]|true=>rw[cond_true,zzD S.ok c,cond_true];have:(zC h m).Guests=(ix h.Mons m mZ).Guests:=(by rw[zeY c]);rw[this]);unfold zca;rw[<- e];cases hg:zbZ h m g with|false=>rw[cond_false,cond_false]|true=>obtain⟨_,c,hg⟩:=zjQ.1 hg;have:(gAt (zC h m) g).Live=zcO h m g:=(by rw[zur c hg];rfl);rw[this]
theorem zI9 {h:Host}(S:Safe h)(m g a n:Int)(b:n=1\/n=2):zoc (zC h m) g a n=bif win a 0 15 then zca h m g (zbj a) n else false:=by rw[z4z S];unfold zoc;rw[zH0.2 b,cond_true];cases zb7 (zC h m) g<;>cases win a 0 15<;>rfl
theorem zUX {h:Host}(S:Safe h){m g a n:Int}(f:n=1\/n=2)(b:zoc (zC h m) g a n=true) :
 Looked h (zEd h m g a n).1 m g (zbj a) n (zFQ (zC h m) g a n) (zEd h m g a n).2.1/\hasB m (ln h.Mons)=true/\hasB (zFQ (zC h m) g a n) 8=true:=by
 rw[zI9 S m g a n f,zbY]at b;obtain⟨L,_⟩:=zR1 S true b.2 S.rt.e2;obtain⟨d,_,i⟩:=zq1.1 b.2;obtain⟨_,c,hg⟩:=zjQ.1 d;have e:zFQ (zC h m) g a n=zcE (zcO h m g) (zbj a) n:=by unfold zFQ;rw[zur c hg];rfl
 rw[e];exact⟨L,c,(walked (S.ok.guest c hg) i).q8⟩
theorem zbca {h:Host}(S:Safe h)(m g a v:Int):SimT h (zp4 h m g a v) m (fun b=>z09 b g a v)/\zgH h m g a v=zAd (zC h m) g a v:=by have e:zgH h m g a v=zAd (zC h m) g a v:=(by unfold zgH zAd;rw[zI9 S m g a 2 (.inr rfl)];cases win a 0 15<;>cases win v 0 99<;>cases zca h m g (zbj a) 2<;>rfl);refine⟨?_,e⟩;unfold zp4;cases c:zgH h m g a v with|false=>refine(SimT.refl S m).congr ?_;unfold z09;rw[<- e,c];rfl|true=>rw[cond_true];have f:zoc (zC h m) g a 2=true:=(by have:=e.symm.trans c;unfold zAd at this;exact(zbY.1 this).1);obtain⟨L,i,j⟩:=zUX S (.inr rfl) f;have d:=L.op.sim S m;obtain⟨k,_⟩:=zxd d.safe (by rw[d.has];exact i) j L.inn L.ne (zdf a) v;refine(d.trans k).congr ?_;unfold z09;rw[<- e,c];rfl
theorem zbbf {h:Host}(S:Safe h)(m g a:Int):SimT h (znp h m g a) m id/\zfR h m g a=zoc (zC h m) g a 1/\zr3 h m g a=zUc (zC h m) g a:=by have e:zfR h m g a=zoc (zC h m) g a 1:=(by unfold zfR;rw[zI9 S m g a 1 (.inl rfl)]);unfold znp zr3 zUc;rw[e];cases d:zoc (zC h m) g a 1 with|false=>exact⟨SimT.refl S m,rfl,rfl⟩|true=>obtain⟨L,f,i⟩:=zUX S (.inl rfl) d;have b:=L.op.sim S m;obtain⟨_,c⟩:=zxd b.safe (by rw[b.has];exact f) i L.inn L.ne (zdf a) 0;rw[L.op.like.seen m] at c;exact⟨b,rfl,c⟩
theorem z4n {k:Kept}{a b:List Slot}(h:KOk k a b)(p:Int)(s:Slot):KOk (zbR k p) (zdE a p s) b:=by have j:=zkN k p;have f:(zdE a p s).length=a.length:=(by unfold zdE;cases hasB p (ln a)<;>simp [zbO]);refine⟨by rw[j.1,f,h.l1],by rw[j.2,f,h.l2],fun i l=>?_⟩;have c:hasB i (ln a)=true:=(by unfold ln at l ⊢;rwa [<- f]);have d:hasB i (ln k.Known)=true:=(by unfold ln at c ⊢;rwa [h.l1]);have g:=zxD (q:=p) (by rw[h.l1,h.l2]) d;rw[g.1,g.2];by_cases e:p=i;{subst e;rw[zbq.2 rfl];rfl};{rw [zbX.2 e,cond_false,cond_false,h.at' i c];have:ix (zdE a p s) i sZ=ix a i sZ:=(by unfold zdE;cases m:hasB p (ln a) with|false=>rfl|true=>exact zbs (zI.1 m).1 (zI.1 c).1 e _ _);rw[this]}
theorem zbcB {t m g:Int}(a:zds t=m)(b:zd6 t=g)(c:0<=m):t=zdm m g:=by subst a;subst b;by_cases h:1<=t/\t<=6;{have e:t=1\/t=2\/t=3\/t=4\/t=5\/t=6:=(by omega);rcases e with rfl|rfl|rfl|rfl|rfl|rfl<;>decide};{exfalso;have:zds t = -1:=(by unfold zds ige ile;rw[show (decide (t≥1)&&decide (t<=6))=false by simp;omega];rfl);omega}
theorem zZs {t:List Slot}{p q:Int}{s:Slot}(h:q≠p):zbv (zdE t p s) q=zbv t q:=by unfold zdE;cases a:hasB p (ln t) with|false=>rfl|true=>exact zSp (zI.1 a).1 h
theorem z7L {t:List Slot}(h:zcS t 4 8=true)(p:Int):zdD (zbv t p) 8=true:=by unfold zbv;cases a:hasB p (ln t) with|false=>rfl|true=>exact(zrN.1 h).1 _ (zlI a _)
theorem z4d {x:Guest}(X:GOk x)(p:Int):GOk (zde x p):=⟨X.prog,X.a,X.pc,X.w,zXp X.l (z7L X.w p),X.ctl,X.pend,X.ex,X.seen⟩
theorem z6T {h:Host}(S:Safe h)(m g p:Int):SimT h (zc1 h m g p) m (fun b=>chg b g (hasB p 4) (zde (gAt b g) p))/\zdk h m (zbS (zC h m) g (hasB p 4))=zbS (zC h m) g (hasB p 4):=by
 refine⟨?_,zk7 S m (t:=fun b=>zbS b g (hasB p 4)) (zji g _)⟩;unfold zc1 zcr;rw[zj9.2 S.ok,cond_true];cases a:hasB m (ln h.Mons) with
 |false=>refine(SimT.refl S m).congr ?_;rw[seen_none a,zpU];rfl
 |true=>
  rw[cond_true];cases w:zbS (zC h m) g (hasB p 4) with
  |false=>refine(SimT.refl S m).congr ?_;show zC h m=chg (zC h m) g (hasB p 4) (zde (gAt (zC h m) g) p);have c:=w;unfold zbS at c;unfold chg;rw[c];rfl
  |true=>rw[cond_true];have c:=w;unfold zbS zb7 at c;rw[zzD S.ok a,cond_true,zbY,zeY a]at c;have hg:hasB g (ln (ix h.Mons m mZ).Guests)=true:=c.1;have X:=S.ok.mon a;have G:=S.ok.seenG a hg;have C:chg (zC h m) g (hasB p 4) (zde (gAt (zC h m) g) p)=zdU (zC h m) g (zde (gOf h m g) p):=(by have l:=w;unfold zbS at l;unfold chg;rw[l,zur a hg];rfl);rw[C];have B:hasB g (ln (ix h.Mons m mZ).Tables)=true:=(by unfold ln;rw[X.gt];exact hg);have s:(zyr (zcG h m (zdU (zC h m) g (zde (gOf h m g) p))) m g p).Mons=up h.Mons m {ix h.Mons m mZ with Guests:=up (ix h.Mons m mZ).Guests g (zde (gOf h m g) p),Tables:=up (ix h.Mons m mZ).Tables g (zbR (ix (ix h.Mons m mZ).Tables g kZ) p)}:=(by show up (up h.Mons m _) m _=_;rw[z5M];have D:ix (zcG h m (zdU (zC h m) g (zde (gOf h m g) p))).Mons m mZ=zqT (ix h.Mons m mZ) (zdU (zC h m) g (zde (gOf h m g) p)):=zbe a _ _;rw[D];unfold zqT zdU;rw[zeY a]);have kp:KeepP (ix h.Mons m mZ) {ix h.Mons m mZ with Guests:=up (ix h.Mons m mZ).Guests g (zde (gOf h m g) p),Tables:=up (ix h.Mons m mZ).Tables g (zbR (ix (ix h.Mons m mZ).Tables g kZ) p)}:=⟨rfl,rfl⟩;have K:MOk {ix h.Mons m mZ with Guests:=up (ix h.Mons m mZ).Guests g (zde (gOf h m g) p),Tables:=up (ix h.Mons m mZ).Tables g (zbR (ix (ix h.Mons m mZ).Tables g kZ) p)}:=zkX X kp (zbO _ _ _) (zbO _ _ _) rfl X.outs X.pend X.tr X.own fun z L=>(by rcases qY L with h|h;{exact X.gs z h};{rw [h];exact ztV.2 (z4d G p)});have E:HOk (zyr (zcG h m (zdU (zC h m) g (zde (gOf h m g) p))) m g p):=S.ok.up a K s S.ok.m12 S.ok.pgs (zz3 S.ok.b1 _) (zz3 S.ok.b2 _) fun q _=>.inl (qW _);have u:∀b:List Entry,(∀e∈b,zcW h e=true)->∀e∈zcg b (zdm m g) p,zcW (zyr (zcG h m (zdU (zC h m) g (zde (gOf h m g) p))) m g p) e=true:=(by intro b F e H;obtain⟨x,y⟩:=zAe.1 H;obtain⟨l,n,r⟩:=zfs.1 (F e x);rw[zfs,s,zc5];refine⟨l,?_⟩;by_cases d:m=zds e.Tag;{rw [<- d]at l n r ⊢;rw[zbe a];show hasB (zd6 e.Tag) (ln (up _ _ _))=true/\below' _ (zbx (zbv (ix (up (ix h.Mons m mZ).Guests g _) (zd6 e.Tag) gZ).Live e.Page) (ix h.Mons m mZ).Outer)=true;rw[zc5];refine⟨n,?_⟩;by_cases f:g=zd6 e.Tag;{rw [<- f]at n r ⊢;rw[zbe hg];have A:e.Page≠p:=fun J=>y ⟨zbcB d.symm f.symm (zI.1 a).1,J⟩;show below' _ (zbx (zbv (zdE (gOf h m g).Live p _) e.Page) _)=true;rw[zZs A];exact r};{rw [zbs (zI.1 hg).1 (zI.1 n).1 f];exact r}};{rw [zbs (zI.1 a).1 (zI.1 l).1 d];exact⟨n,r⟩});refine⟨⟨E,⟨fun i v=>?_,u _ S.rt.e1,u _ S.rt.e2⟩⟩,fun i=>?_,by rw[s,zbO]⟩;{rw [s]at v ⊢;rw[zc5]at v;by_cases d:m=i;{subst d;rw[zbe a];intro j I;show KOk (ix (up (ix h.Mons m mZ).Tables g _) j kZ) (ix (up (ix h.Mons m mZ).Guests g _) j gZ).Live (ix h.Mons m mZ).Outer;have k:hasB j (ln (ix h.Mons m mZ).Guests)=true:=(by have:hasB j (ln (up (ix h.Mons m mZ).Guests g (zde (gOf h m g) p)))=true:=I;rwa [zc5] at this);by_cases e:g=j;{subst e;rw[zbe B,zbe hg];exact z4n (S.rt.t m a g hg) p _};{rw [zbs (zI.1 hg).1 (zI.1 k).1 e,zbs (zI.1 hg).1 (zI.1 k).1 e];exact S.rt.t m a j k}};{rw [zbs (zI.1 a).1 (zI.1 v).1 d];exact S.rt.t i v}};{refine(zvr (h:=h) a s rfl kp i).trans ?_;by_cases e:i=m;{subst e;rw[zbq.2 rfl,cond_true,cond_true,C,zeY a];rfl};{rw [zbX.2 e];rfl}}
theorem zSy (g:Int):zic ⟨[],[],[],0⟩ g=⟨[],[],[],0⟩/\zlv ⟨[],[],[],0⟩ g=false:=by have:zlv ⟨[],[],[],0⟩ g=false:=(by unfold zlv;rw[zZ1];rfl);refine⟨?_,this⟩;unfold zic;rw[this];rfl
theorem z6Z {h:Host}(S:Safe h)(a:GAct):SimT h (zuL h a) a.M (fun b=>zLy b a)/\zEb h a=zLz (zC h a.M) a:=by
 have f:=ztZ;unfold zuL zEb zLy zLz;cases ieq a.Kind 1 with
 |true=>obtain⟨k,e⟩:=step_ok S a.M a.G;exact⟨k,by rw[cond_true,cond_true,e]⟩
 |false=>
  simp only[cond_false];cases ieq a.Kind 2 with
  |true=>
   exact⟨zqh S a.M (F:=fun b=>chg b a.G (zs3 a.X ⟨a.Y,a.Z⟩) (zA9 (gAt b a.G) a.X ⟨a.Y,a.Z⟩)) (fun b c=>zrQ c fun _ d G=>zbaO G d) (zpU _ _ _),
    congrArg (fun t=>Told.mk t 0) (zk7 S a.M (t:=fun b=>zbS b a.G (zs3 a.X ⟨a.Y,a.Z⟩)) (zji _ _))⟩
  |false=>
   simp only[cond_false];cases ieq a.Kind 3 with
   |true=>obtain⟨k,e⟩:=z6T S a.M a.G a.X;exact⟨k,congrArg (fun t=>Told.mk t 0) e⟩
   |false=>
    simp only[cond_false];cases ieq a.Kind 4 with
    |true=>
     exact⟨zqh S a.M (F:=fun b=>chg b a.G (zsw (gAt b a.G) a.X) (zxx (gAt b a.G) a.X)) (fun b c=>zrQ c fun _ d G=>zbaL G d) (zpU _ _ _),
      congrArg (fun t=>Told.mk t 0) (zk7 S a.M (t:=fun b=>zbS b a.G (zsw (gAt b a.G) a.X)) (zji _ _))⟩
    |false=>
     simp only[cond_false];cases ieq a.Kind 5 with
     |true=>
      exact⟨zqh S a.M (F:=fun b=>chg b a.G (zxK (gAt b a.G)) (zxL (gAt b a.G))) (fun b c=>zrQ c fun _ _ G=>zbaN G) (zpU _ _ _),
       congrArg (fun t=>Told.mk t 0) (zk7 S a.M (t:=fun b=>zbS b a.G (zxK (gAt b a.G))) (zji _ _))⟩
     |false=>
      simp only[cond_false];cases ieq a.Kind 6 with
      |true=>
       exact⟨zqh S a.M (F:=fun b=>chg b a.G (zf7 (gAt b a.G).Pending a.X) (znu (gAt b a.G) a.X)) (fun b c=>zrQ c fun _ _ G=>zZV G _) (zpU _ _ _),
        congrArg (fun t=>Told.mk t 0) (zk7 S a.M (t:=fun b=>zbS b a.G (zf7 (gAt b a.G).Pending a.X)) (zji _ _))⟩
      |false=>
       simp only[cond_false];cases ieq a.Kind 7 with
       |true=>
        exact⟨zqh S a.M (F:=fun b=>chg b a.G (zhv ⟨a.X,a.Y,ieq a.Z 1⟩) (zIV (gAt b a.G) ⟨a.X,a.Y,ieq a.Z 1⟩)) (fun b c=>zrQ c fun _ d G=>zbaM G d) (zpU _ _ _),
         congrArg (fun t=>Told.mk t 0) (zk7 S a.M (t:=fun b=>zbS b a.G (zhv ⟨a.X,a.Y,ieq a.Z 1⟩)) (zji _ _))⟩
       |false=>
        simp only[cond_false];cases ieq a.Kind 8 with
        |true=>obtain⟨k,e⟩:=z7y S a.M a.X a.Y a.Z;exact⟨k,congrArg (fun t=>Told.mk t 0) e⟩
        |false=>
         simp only[cond_false];cases ieq a.Kind 9 with
         |true=>
          exact⟨zqh S a.M (F:=fun b=>zjy b a.X) (fun b c=>z0J c _) (by unfold zjy zeN;rw[f];rfl),
           congrArg (fun t=>Told.mk t 0) (zk7 S a.M (t:=fun b=>zeN b a.X) (by unfold zeN;rw[f];rfl))⟩
         |false=>
          simp only[cond_false];cases ieq a.Kind 10 with
          |true=>refine⟨zqh S a.M (F:=zmi) (fun b c=>z3c c) (by unfold zmi;rw[f];rfl),?_⟩;have e:=zk7 S a.M (t:=zls) (by unfold zls;rw[f];rfl);show Told.mk (zdk h a.M (zls (zC h a.M))) (cond (zcr h a.M) (zsv (zC h a.M)) (-1))=⟨zls (zC h a.M),zsv (zC h a.M)⟩;rw[e];congr 1;unfold zcr;rw[zj9.2 S.ok,cond_true];cases j:hasB a.M (ln h.Mons) with|true=>rfl|false=>rw[seen_none j];unfold zsv;rw[f];rfl
          |false=>
           simp only[cond_false];cases ieq a.Kind 11 with
           |true=>obtain⟨k,e⟩:=zbca S a.M a.G a.X a.Y;exact⟨k,congrArg (fun t=>Told.mk t 0) e⟩
           |false=>obtain⟨k,g,i⟩:=zbbf S a.M a.G a.X;exact⟨k,by simp only[cond_false];rw[g,i]⟩
theorem z7s {h:Host}(S:Safe h)(a:GAct):Safe (zmI h a)/\(∀i,zC (zmI h a) i=zC h i)/\(zmI h a).Mons.length=h.Mons.length:=by
 unfold zmI;have k:∀r,Op h r->Safe r/\(∀i,zC r i=zC h i)/\r.Mons.length=h.Mons.length:=fun r k=>⟨k.safe S,fun i=>k.like.seen i,k.like.len⟩;cases ieq a.Kind 13 with
 |true=>exact k _ (z1S S.ok _ _)
 |false=>
  simp only[cond_false];cases ieq a.Kind 14 with
  |true=>exact k _ (z4N S.ok _ _)
  |false=>
   simp only[cond_false];cases ieq a.Kind 15 with
   |true=>exact k _ (z4M S.ok _ _)
   |false=>
    simp only[cond_false];cases ieq a.Kind 16 with
    |true=>obtain⟨b,c⟩:=zTN S a.M a.X;refine⟨b,c,?_⟩;simp only[cond_true];unfold zjJ;cases zbW h<;>cases hasB a.M (ln h.Mons)<;>cases win a.X 0 3<;>first|rfl|exact zbO _ _ _
    |false=>exact k _ (zbba S.ok)
def zku (a:GAct):Bool:=bif win a.Kind 1 17 then !win a.Kind 13 17 else false
theorem z2V {h:Host}(S:Safe h)(a:GAct):Safe (zem h a)/\(zem h a).Mons.length=h.Mons.length/\
 (∀i,zC (zem h a) i=bif (cond (zku a) (ieq i a.M) false) then zLy (zC h i) a else zC h i)/\(zku a=true->zjn h a=zLz (zC h a.M) a):=by
 unfold zem zjn zku;cases win a.Kind 1 17 with
 |false=>exact⟨S,rfl,fun _=>rfl,fun e=>by cases e⟩
 |true=>
  simp only[cond_true];cases win a.Kind 13 17 with
  |true=>obtain⟨b,c,d⟩:=z7s S a;exact⟨b,d,fun i=>by simp only[cond_true,jW,cond_false];exact c i,fun e=>by cases e⟩
  |false=>obtain⟨k,e⟩:=z6Z S a;exact⟨k.safe,k.len,fun i=>by simp only[cond_false,jY,cond_true];exact k.seen i,fun _=>e⟩
def zdz (h:Host):List Bare:=(List.range h.Mons.length).map fun (i:Nat)=>zC h (i:Int)
theorem zj6 (h:Host):(zdz h).length=h.Mons.length:=by simp[zdz]
theorem zmp (h:Host)(m:Int):hasB m (ln (zdz h))=hasB m (ln h.Mons):=by unfold ln;rw[zj6]
theorem zlt {h:Host}{m:Int}(c:hasB m (ln h.Mons)=true)(d:Bare):ix (zdz h) m d=zC h m:=by have a:=zI.1 c;unfold ln at a;have b:m.toNat<(zdz h).length:=(by rw[zj6];omega);have:=zmz b d;rw[show ((m.toNat:Nat):Int)=m by omega] at this;rw[this];simp[zdz,show max m 0=m by omega]
theorem z0F {h r:Host}(a:r.Mons.length=h.Mons.length)(e:∀i,zC r i=zC h i):zdz r=zdz h:=by unfold zdz;rw[a];exact List.map_congr_left fun i _=>e _
theorem zX5 {h:Host}(S:Safe h)(a:GAct):zdz (zem h a)=zLA (zdz h) a/\(zku a=true->zjn h a=z0I (zdz h) a):=by obtain⟨_,k,l,t⟩:=z2V S a;have p:zku a=true->zdz (zem h a)=(cond (hasB a.M (ln h.Mons)) (up (zdz h) a.M (zLy (zC h a.M) a)) (zdz h)):=(by intro b;rw[b]at l;cases f:hasB a.M (ln h.Mons) with|false=>rw[cond_false];refine zQk ⟨[],[],[],0⟩ (by rw[zj6,zj6,k]) fun i c=>?_;rw[zmp]at c;rw[zlt c];have d:hasB i (ln h.Mons)=true:=(by unfold ln at c ⊢;rwa [<- k]);rw[zlt d,l i];have:ieq i a.M=false:=zbX.2 fun e=>(by rw[e,f]at d;cases d);rw[this];rfl|true=>rw[cond_true];refine zQk ⟨[],[],[],0⟩ (by rw[zbO,zj6,zj6,k]) fun i c=>?_;rw[zmp]at c;rw[zlt c,l i];have d:hasB i (ln h.Mons)=true:=(by unfold ln at c ⊢;rwa [<- k]);by_cases e:i=a.M;{rw [e,zbq.2 rfl,zbe (by rw[zmp];exact f)];rfl};{rw [zbX.2 e,zbs (zI.1 f).1 (zI.1 d).1 (Ne.symm e),zlt d];rfl});have s:zku a=false->zdz (zem h a)=zdz h:=fun b=>z0F k fun i=>(by rw[l i,b];rfl);have r:zku a=true->win a.Kind 1 17=true/\win a.Kind 13 17=false:=(by intro b;unfold zku at b;cases g:win a.Kind 1 17<;>cases j:win a.Kind 13 17<;>rw [g,j]at b<;>first|exact⟨rfl,rfl⟩|cases b);constructor;{unfold zLA;cases b:zku a with|true=>obtain⟨g,j⟩:=r b;rw[g,j,cond_true,cond_false,zmp,p b];(cases f:hasB a.M (ln h.Mons) with|true=>rw[cond_true,cond_true,zlt f]|false=>rfl)|false=>rw[s b];unfold zku at b;(cases g:win a.Kind 1 17 with|false=>rfl|true=>(cases j:win a.Kind 13 17 with|true=>rfl|false=>rw[g,j]at b;cases b))};{intro b;rw[t b];obtain⟨g,j⟩:=r b;unfold z0I;rw[g,j,cond_true,cond_false,zmp];cases f:hasB a.M (ln h.Mons) with|true=>rw[cond_true,zlt f]|false=>rw[cond_false,seen_none f];have n:=(zSy a.G).2;have q:=ztZ;unfold zLz;simp only[n,zji];unfold ziO zeN zls zsv zAd zUc zoc;simp only[q,zuh q,cond_false];(cases m:ieq a.Kind 10 with|true=>have:a.Kind=10:=zbq.1 m;rw[this];rfl|false=>cases ieq a.Kind 1<;>cases ieq a.Kind 2<;>cases ieq a.Kind 3<;>cases ieq a.Kind 4<;>cases ieq a.Kind 5<;>cases ieq a.Kind 6<;>cases ieq a.Kind 7<;>cases ieq a.Kind 8<;>cases ieq a.Kind 9<;>cases ieq a.Kind 11<;>rfl)}
def zMO:List GAct->List Told->List Told
 |a::l,t::ts=>bif zku a then t::zMO l ts else zMO l ts
 |_,_=>[]
structure Live (u:Host×List Told) (v:List Bare×List Told):Prop where
 safe:Safe u.1
 seen:zdz u.1=v.1
def zFC:List GAct->Host->List Told
 |[],_=>[]
 |a::l,h=>zjn h a::zFC l (zem h a)
def z5K:List GAct->List Bare->List Told
 |[],_=>[]
 |a::l,b=>z0I b a::z5K l (zLA b a)
def zvU:List GAct->Host->Host
 |[],h=>h
 |a::l,h=>zvU l (zem h a)
def z6O:List GAct->List Bare->List Bare
 |[],b=>b
 |a::l,b=>z6O l (zLA b a)
theorem z0f:∀(l:List GAct) (u:Host×List Told),zEw l u=(zvU l u.1,u.2++zFC l u.1)
 |[],u=>by simp[zEw,zvU,zFC]
 |a::l,u=>by rw[zEw,z0f l];simp[zvU,zFC,ap]
theorem z3U:∀(l:List GAct) {h:Host},Safe h->Safe (zvU l h)/\zdz (zvU l h)=z6O l (zdz h)/\zMO l (zFC l h)=zMO l (z5K l (zdz h))/\(zvU l h).Mons.length=h.Mons.length
 |[],h,S=>⟨S,rfl,rfl,rfl⟩
 |a::l,h,S=>by have d:=z2V S a;have b:=zX5 S a;obtain⟨e,f,c,g⟩:=z3U l d.1;refine⟨e,by show zdz (zvU l (zem h a))=z6O l (zLA (zdz h) a);rw[f,b.1],?_,g.trans d.2.1⟩;show (cond (zku a) _ _)=(cond (zku a) _ _);cases i:zku a with|false=>rw[cond_false,cond_false,c,b.1]|true=>rw[cond_true,cond_true,c,b.1,b.2 i]
theorem cz8 (q:Int)(b:0<=q):zvu.countP (fun s=>ieq s.Page q)=0:=by rw[vA];intro s a;have:=(uP.1 a).2;rw[this];show ¬ ieq (-1) q=true;rw[zbq];omega
theorem zYn {p:List Ins}(h:zc7 p=true):GOk (zeD p):=⟨h,rfl,rfl,rfl,rfl,rfl,rfl,rfl,rfl⟩
theorem z4G {a:List (List Ins)}(i:1<=a.length)(h:∀p∈a,zc7 p=true):MOk (zgt a):=by have d:∀s∈zvu,s=noSlot:=fun s c=>(uP.1 c).2;refine⟨?_,?_,?_,rfl,fun s c=>.inl (d s c),rfl,rfl,j5 _,rfl,rfl,rfl,fun g hg=>?_,fun p b=>?_⟩;{show 1<=((a.take 2).map zeD).length;simp;omega};{show ((a.take 2).map zeD).length<=2;simp;omega};{show ((a.take 2).map (fun _=>zke)).length=((a.take 2).map zeD).length;simp};{obtain⟨p,b,rfl⟩:=jE.1 hg;exact ztV.2 (zYn (h p (jT b)))};{have f:=zI.1 b;have e:p=0\/p=1\/p=2\/p=3\/p=4\/p=5\/p=6\/p=7:=(by omega);rcases e with rfl|rfl|rfl|rfl|rfl|rfl|rfl|rfl<;>rfl}
def z97 (a:List (List (List Ins))):Prop:=1<=a.length/\∀p∈a,1<=p.length/\∀x∈p,zc7 x=true
theorem z1r {a:List (List (List Ins))}(h:z97 a):Safe (zfp a):=by have b:∀x∈(zfp a).Mons,∃p∈a,x=zgt p:=fun x f=>(by obtain⟨p,j,rfl⟩:=jE.1 f;exact⟨p,jT j,rfl⟩);have u:∀x∈(zfp a).Mons,x.Outer=zvu:=fun x f=>(by obtain⟨p,_,rfl⟩:=b x f;rfl);have H:HOk (zfp a):=(by refine⟨rfl,fun c v=>?_,?_,?_,rfl,rfl,fun x f=>?_,fun q B=>?_⟩;{have:c=[0,0,0,0]:=(uP.1 v).2;rw[this];rfl};{show 1<=((a.take 3).map zgt).length;have:=h.1;simp;omega};{show ((a.take 3).map zgt).length<=3;simp;omega};{obtain⟨p,j,rfl⟩:=b x f;exact z4G (h.2 p j).1 (h.2 p j).2};{have:zeR (zfp a).Mons q=0:=(by unfold zeR;have:(zfp a).Mons.map (fun x=>cPg x q)=(zfp a).Mons.map (fun _=>0):=List.map_congr_left fun x f=>(by unfold cPg;rw[u x f];exact cz8 q B);rw[this];generalize (zfp a).Mons=l;induction l with|nil=>rfl|cons x l D=>rw[jD,uJ,D]);omega});refine⟨H,fun m A g hg=>?_,fun e r=>(by cases r),fun e r=>(by cases r)⟩;obtain⟨p,j,e⟩:=b _ (zlI A mZ);rw[e]at hg ⊢;have d:hasB g (ln ((p.take 2).map zeD))=true:=hg;have C:ix (zgt p).Tables g kZ=zke:=(by have:hasB g (ln ((p.take 2).map (fun _=>zke)))=true:=(by unfold ln at d ⊢;simpa using d);obtain⟨k,y,_,n⟩:=zAB this kZ;show ix ((p.take 2).map (fun _=>zke)) g kZ=_;rw[n];simp);have z:(ix (zgt p).Guests g gZ).Live=zlo:=(by obtain⟨k,y,_,n⟩:=zAB d gZ;show (ix ((p.take 2).map zeD) g gZ).Live=_;rw[n];simp[zeD]);rw[C,z];show KOk zke zlo zvu;refine⟨rfl,rfl,fun i w=>?_⟩;have s:=zI.1 w;have:ln zlo=4:=rfl;rw[this]at s;have t:i=0\/i=1\/i=2\/i=3:=(by omega);rcases t with rfl|rfl|rfl|rfl<;>rfl
theorem z0n:∀(l:List GAct) (u:Host×List Told),SmH u.1->SmH (zEw l u).1
 |[],u,h=>h
 |a::l,u,h=>z0n l (zem u.1 a,ap u.2 [zjn u.1 a]) (z0m h)
theorem z7e {h:Host}(L:z0D h):Safe h/\SmH h:=by obtain⟨c,l,a,b,rfl⟩:=L;refine⟨?_,z0n _ _ (zQK a)⟩;unfold zAq;rw[z0f];exact(z3U _ (z1r b)).1
def z3l:zba:=z3j
theorem zDG:zK z3l:=z3k
structure MonS (x:Mon):Prop where
 sm:zeZ x
 g1:1<=x.Guests.length
 g2:x.Guests.length<=2
 t2:x.Tables.length<=2
 o8:x.Outer.length<=8
 pg:∀s∈x.Outer,I64 s.Page
 tk:∀k∈x.Tables,k.Known.length<=k.Slots.length
structure AnyH (h:Host):Prop where
 mem:SmM h.Memory
 n1:1<=h.Mons.length
 n3:h.Mons.length<=3
 mons:∀x∈h.Mons,MonS x
 b1:h.Buffer.length<=1048576
 b2:h.IoBuffer.length<=1048576
theorem AnyH.sm {h:Host}(k:AnyH h):SmH h:=⟨k.mem,⟨qU k.n3 (by decide),fun x a=>(k.mons x a).sm⟩,k.b1,k.b2⟩
theorem z7F {h:Host}(S:Safe h)(sm:SmH h):AnyH h :=
 ⟨sm.1,S.ok.n1,S.ok.n3,fun x a=>by
  have k:=S.ok.mons x a;refine⟨sm.2.1.2 x a,k.g1,k.g2,by rw[k.gt];exact k.g2,by rw[k.o8];exact qW 8,fun s b=>?_,fun y c=>?_⟩
  .rcases k.sl s b with rfl|⟨h1,h2,_⟩
   .exact⟨by decide,by decide⟩
   .exact⟨by omega,by omega⟩
  .obtain⟨m,hm,rfl⟩:=zEn a mZ;obtain⟨g,hg,rfl⟩:=zEn c kZ;have:=S.rt.t m hm g (by have e:(ix h.Mons m mZ).Tables.length=(ix h.Mons m mZ).Guests.length:=k.gt;unfold ln at hg ⊢;rw[<- e];exact hg)
   rw[this.l1,this.l2];exact qW _,sm.2.2.1,sm.2.2.2⟩
theorem zyl {h:Host}(k:AnyH h)(i:Int){x:Mon}(b:MonS x):AnyH {h with Mons:=up h.Mons i x} :=
 ⟨k.mem,by rw[zhZ];exact k.n1,by rw[zhZ];exact k.n3,fun y a=>by
  rcases qY a with a|rfl
  .exact k.mons y a
  .exact b,k.b1,k.b2⟩
theorem zbcy {g:Guest}(h:GuS g):SmG g:=⟨qU h.1 (by decide),qU h.2.1 (by decide),qU h.2.2.1 (by decide),qU h.2.2.2 (by decide)⟩
theorem z7Q {l:List Guest}(h:zkC l)(i:Int){g:Guest}(hg:SmG g):zkC (up l i g):=
 ⟨by rw[zhZ];exact h.1,fun y a=>by
  rcases qY a with a|rfl
  .exact h.2 y a
  .exact hg⟩
theorem zbbt {l:List (List Int)}(h:SmM l)(i:Int){g:List Int}(hg:g.length<=1048576):SmM (up l i g):=
 ⟨by rw[zhZ];exact h.1,fun y a=>by
  rcases qY a with a|rfl
  .exact h.2 y a
  .exact hg⟩
def zzW (N:Nat)(c:Cur)  : OA :=
 let j:=(zsk c);let r:=({ (ziu c) with b:=c.b}:Cur);let f:=j.Mons;let k:=(zk r (ln f));let m:=(inb k (ln f));let g:=(ix f k zi);let q:=({ (zf r (ln f)) with b:=c.b}:Cur);let e:=(zf q 24);let l:=(zk q 24);let a:=({e with b:=c.b}:Cur);let n:=(zU a [(-1),1000000000,1000000001]);let p:=({ (zf a 8) with b:=c.b}:Cur); (oN (zmW c) (oN (zx r (ln f)) (oN (zx q 24) (cond (ieq l 0) (oN (zfk a 8 12) (oN m (share (up f k ({g with Outer:=(zeC a 8 12)}:Mon)) (fun d=>(some [(.agg [(.s .u8 c.b),(.i .i64 (zgj a 8 12).i),(.i .i64 (zgj a 8 12).h)]),(aH ({j with Mons:=d}:Host))]))))) (cond (ieq l 1) (oN m (oN (zx a 8) (oN (zlg p) (oN (inb (zk a 8) (ln g.Out)) (share (up f k ({g with Out:=(up g.Out (zk a 8) (ztJ p))}:Mon)) (fun d=>(some [(.agg [(.s .u8 c.b),(.i .i64 (zlh p).i),(.i .i64 (zlh p).h)]),(aH ({j with Mons:=d}:Host))]))))))) (cond (ieq l 2) (oN m (oN (zpx a) (oN (inb 0 (ln g.Guests)) (share (up f k ({g with Guests:=(up g.Guests 0 (zA4 a))}:Mon)) (fun d=>(some [(.agg [(.s .u8 c.b),(.i .i64 (zpy a).i),(.i .i64 (zpy a).h)]),(aH ({j with Mons:=d}:Host))])))))) (cond (ieq l 3) (oN m (share (up f k ({g with Tables:=[]}:Mon)) (fun d=>(some [(.agg [(.s .u8 c.b),(.i .i64 e.i),(.i .i64 e.h)]),(aH ({j with Mons:=d}:Host))])))) (cond (ieq l 4) (oN (zj1 a) (some [(.agg [(.s .u8 c.b),(.i .i64 (zj2 a).i),(.i .i64 (zj2 a).h)]),(aH ({j with Buffer:=(zrB a)}:Host))])) (cond (ieq l 5) (oN (zli a) (oN m (share (up f k ({g with Traps:=(ztL a)}:Mon)) (fun d=>(some [(.agg [(.s .u8 c.b),(.i .i64 (zlj a).i),(.i .i64 (zlj a).h)]),(aH ({j with Mons:=d}:Host))]))))) (cond (ieq l 6) (oN (zbl a [(-1),1000000000,1000000001]) (oN m (share (up f k ({g with Own:=(zbg a [(-1),1000000000,1000000001])}:Mon)) (fun d=>(some [(.agg [(.s .u8 c.b),(.i .i64 n.i),(.i .i64 n.h)]),(aH ({j with Mons:=d}:Host))]))))) (cond (ieq l 7) (oN (zpm a) (some [(.agg [(.s .u8 c.b),(.i .i64 (zh6 a).i),(.i .i64 (zh6 a).h)]),(aH ({j with Memory:=(zqE a)}:Host))])) (some [(.agg [(.s .u8 c.b),(.i .i64 e.i),(.i .i64 e.h)]),(aH j)]))))))))))))
def zrK (c:Cur)(s:Cur)(a:Host):Prop:=(∃N,zzW N c=some (AV.agg (zbT s)::[aH a]))/\(s.b=c.b/\0<=s.i)/\(AnyH a)
def zgF (c:Cur)  : Bool:=wC (zrK c)
def zmf (c:Cur)  : Cur:=wS (zrK c)
def znH (c:Cur)  : Host:=wV (zrK c)
theorem zA6 {c:Cur}(h:zgF c=true):zrK c (zmf c) (znH c):=wG h
theorem zNS (c:Cur)  : 0<=(zmf c).i:=wP fun h=>h.2.1.2
theorem z2u (c:Cur)(h:∃N,Ends (wE (fun a=>aH a) c.b fun a=>AnyH a) (zzW N c)):zgF c=true:=wI (fun _ _ h=>h) h
def zBU:zdn:=rP0 fun c=>(zgF c,zmf c,[aH (znH c)])
theorem zPy:zbK Tryz.prog 65 [false,true,true] zBU:=hP0 zDG zW zWI zn (zq []) (fun _ h=>(zA6 h).1)
theorem zL3 {c:Cur}(h:zbc c):zgF c=true:=by
 refine z2u c ⟨0,?_⟩;unfold zzW oN;conv=>zeta
 obtain⟨S,sm⟩:=z7e (zIw (z4j h)).2.2;have A:=z7F S sm;have q:∀{s:Cur},0<=s.i->zbc {s with b:=c.b}:=fun y=>zbL h y;have w:zbc {ziu c with b:=c.b}:=q (zZi _);have l:0<ln (zsk c).Mons:=by have:=A.n1;unfold ln;omega
 have a:=zvM w l (kS _);have u:=zbu a zi;generalize B:zsk c=H at *;generalize zk {ziu c with b:=c.b} (ln H.Mons)=m at *;have M:=A.mons _ u;have x:=S.ok.mons _ u;generalize C:ix H.Mons m zi=X at *;obtain⟨p,e,f,j,k,t⟩:=M.sm;have d:∀{n},zbc {zf {zf {ziu c with b:=c.b} n with b:=c.b} 24 with b:=c.b}:=fun {n}=>q (zF _ _);refine zu (z4j h) (zu (zbz w _) (zu (zbz (q (zF _ _)) 24)
  (zbA (fun _=>zu (zn6 d (by omega) (by omega) _) (zu a (zlz (zbE aH (v:={H with Mons:=up H.Mons m {X with Outer:=zeC _ _ _}}) (zph _ _ _) (zyl A m ?_)))))
  (fun _=>zbA (fun _=>zu a (zu (zbz d 8) (zu (zZJ (q (zF _ _))) (zu (zvM d (by omega) ?_) (zlz (zbE aH (v:={H with Mons:=up H.Mons m {X with Out:=up X.Out _ (ztJ _)}}) (zWY _) (zyl A m ?_)))))))
  (fun _=>zbA (fun _=>zu a (zu (zLx d) (zu ?_ (zlz (zbE aH (v:={H with Mons:=up H.Mons m {X with Guests:=up X.Guests 0 (zA4 _)}}) (z2p _) (zyl A m ?_))))))
  (fun _=>zbA (fun _=>zu a (zlz (zbE aH (v:={H with Mons:=up H.Mons m {X with Tables:=[]}}) (zF _ _) (zyl A m ?_))))
  (fun _=>zbA (fun _=>zu (zUy d) (zbE aH (v:={H with Buffer:=zrB _}) (zTJ _) ⟨A.mem,A.n1,A.n3,A.mons,qU (zCx (zUy d)).2.2 (by decide),A.b2⟩))
  (fun _=>zbA (fun _=>zu (zbbA d) (zu a (zlz (zbE aH (v:={H with Mons:=up H.Mons m {X with Traps:=ztL _}}) (zW3 _) (zyl A m ?_)))))
  (fun _=>zbA (fun _=>zu (zdW d (by simp)) (zu a (zlz (zbE aH (v:={H with Mons:=up H.Mons m {X with Own:=zbg _ _}}) (zbJ _ _) (zyl A m ?_)))))
  (fun _=>zbA (fun _=>zu (zVs d) (zbE aH (v:={H with Memory:=zqE _}) (z2a _) ⟨?_,A.n1,A.n3,A.mons,A.b1,A.b2⟩))
  (fun _=>zbE aH (v:=H) (zF _ _) A)))))))))))
 {have g:=(zpg (zn6 (d (n:=ln H.Mons)) (n:=8) (by omega) (by omega) 12)).2.2 (by omega) (by omega);refine⟨⟨?_,e,f,j,k,t⟩,M.g1,M.g2,M.t2,?_,g.2 (by omega) (by omega),M.tk⟩;{have:=g.1;unfold ln at this;exact qU (m:=8) (by exact Int.ofNat_le.1 this) (by decide)};{have:=g.1;unfold ln at this;exact Int.ofNat_le.1 this}};{unfold ln;rw[x.u8];decide};{exact⟨⟨p,zbbt e _ (qU (zFn (zZJ (q (zF _ _)))).2.2 (by decide)),f,j,k,t⟩,M.g1,M.g2,M.t2,M.o8,M.pg,M.tk⟩};{exact qJ (by have:=M.g1;unfold ln;omega)};{exact⟨⟨p,e,f,z7Q j 0 (zbcy (zNP (zLx d)).2.2),k,t⟩,by rw[zhZ];exact M.g1,by rw[zhZ];exact M.g2,M.t2,M.o8,M.pg,M.tk⟩};{exact⟨⟨p,e,f,j,k,⟨by simp,by simp⟩⟩,M.g1,M.g2,by simp,M.o8,M.pg,by simp⟩};{exact⟨⟨p,e,f,j,k,t⟩,M.g1,M.g2,M.t2,M.o8,M.pg,M.tk⟩};{exact⟨⟨p,e,f,j,k,t⟩,M.g1,M.g2,M.t2,M.o8,M.pg,M.tk⟩};{have g:=(zNN (zVs (d (n:=ln H.Mons)))).2.2;exact⟨qU g.1 (by decide),fun r z=>qU (g.2 r z) (by decide)⟩}
def z9S:zcL:=[(65,([false,true,true],zBU))]++z9R
theorem z7x:zb3 z9S:=zcq zWI (by
 intro x a;simp only[qG,qN,or_false]at a;rcases a with rfl
 .exact zPy)
def zDq (N:Nat)(c:Cur)  : OA :=
 let a:=(zU c [0,0,0,1,1,2,(-1),9223372036854775807]); (oN (zbl c [0,0,0,1,1,2,(-1),9223372036854775807]) (some [(.agg [(.s .u8 c.b),(.i .i64 a.i),(.i .i64 a.h)]),(aI (zbg c [0,0,0,1,1,2,(-1),9223372036854775807]))]))
def ztN (c:Cur)(s:Cur)(a:Int):Prop:=(∃N,zDq N c=some (AV.agg (zbT s)::[aI a]))/\(s.b=c.b/\0<=s.i)/\(True)
def zja (c:Cur)  : Bool:=wC (ztN c)
def zsj (c:Cur)  : Cur:=wS (ztN c)
def zt4 (c:Cur)  : Int:=wV (ztN c)
theorem z5m {c:Cur}(h:zja c=true):ztN c (zsj c) (zt4 c):=wG h
theorem zSm (c:Cur)  : 0<=(zsj c).i:=wP fun h=>h.2.1.2
theorem z5n (c:Cur)(h:∃N,Ends (wE (fun a=>aI a) c.b fun a=>True) (zDq N c)):zja c=true:=wI (fun _ _ h=>h) h
def zEu:zdn:=rP0 fun c=>(zja c,zsj c,[aI (zt4 c)])
theorem zSU:zbK Tryz.prog 66 [false,true,true] zEu:=hP0 zDG zW zKg zn (zq []) (fun _ h=>(z5m h).1)
theorem at_t {c:Cur}(h:zbc c):zja c=true:=by
 refine z5n c ⟨0,?_⟩;unfold zDq oN;conv=>zeta
 exact zu (zdW h (by simp)) (zbE aI (zbJ _ _) trivial)
def z9T:zcL:=[(66,([false,true,true],zEu))]++z9S
theorem zAO:zb3 z9T:=zcq z7x (by
 intro x a;simp only[qG,qN,or_false]at a;rcases a with rfl
 .exact zSU)
def z8P:zba:=[(298,zsM)]++z3l
theorem z6E:zK z8P:=zh zv8 zDG
theorem zRB {a:List Int}(h:a.length<=big){G:Ans->Prop}{N:Nat}(l:a.length<N){g:Int}{R:Int->OA}{d:Type}(S:Int->Int->d){F:(d->OA)->d->OA}(k:∀rec i t,F rec (S i t)=bif ilt i (ln a) then (cond (ilt i 4000) (cond (inb i (ln a)) (rec (S (zM .i64 i 1) (wand .i64 (zM .i64 (zM .i64 (zmn .i64 t 131) (wcv .i64 (ix a i 0))) 7) 1073741823))) none) (R t)) else R t)(e:∀t,zbc ⟨a,0,t⟩->Ends G (R t)):Ends G (iter N F (S 0 g)):=by refine zms (fun n s=>∃(i:Nat) (t:Int),s=S (i:Int) t/\i+n=a.length) ?_ N a.length _ ⟨0,g,rfl,by omega⟩ l;rintro n s rec ⟨i,t,rfl,p⟩ b;rw[k];have f:zbc ⟨a,0,t⟩:=⟨kS 0,h⟩;refine zbA (fun j=>zbA (fun m=>?_) (fun _=>e t f)) (fun _=>e t f);have c:(i:Int)<ln a:=qE j;unfold ln at c;rw[zbi (show i<a.length by omega) h];exact zu (qJ ⟨by omega,by unfold ln;omega⟩) (b (n-1) _ (by omega) ⟨i+1,_,rfl,by omega⟩)
theorem zKo {b:List Int}(h:b.length<=big){s:Cur}(a:0<=s.i):zbc {s with b:=b}:=⟨a,h⟩
def z8Q:zba:=z8P
theorem zpX:zK z8Q:=z6E
def zzU (N:Nat)(c:Cur)  : OA :=
 let a:=(zU c [0,7,50,99,100,(-1)]); (oN (zbl c [0,7,50,99,100,(-1)]) (some [(.agg [(.s .u8 c.b),(.i .i64 a.i),(.i .i64 a.h)]),(aI (zbg c [0,7,50,99,100,(-1)]))]))
def zrI (c:Cur)(s:Cur)(a:Int):Prop:=(∃N,zzU N c=some (AV.agg (zbT s)::[aI a]))/\(s.b=c.b/\0<=s.i)/\(True)
def zmd (c:Cur)  : Bool:=wC (zrI c)
def zNQ (c:Cur)  : Cur:=wS (zrI c)
def zA5 (c:Cur)  : Int:=wV (zrI c)
theorem z2q {c:Cur}(h:zmd c=true):zrI c (zNQ c) (zA5 c):=wG h
theorem z2r (c:Cur)(h:∃N,Ends (wE (fun a=>aI a) c.b fun a=>True) (zzU N c)):zmd c=true:=wI (fun _ _ h=>h) h
def zBS:zdn:=rP0 fun c=>(zmd c,zNQ c,[aI (zA5 c)])
theorem zPw:zbK Tryz.prog 79 [false,true,true] zBS:=hP0 zpX zW zAO zn (zq []) (fun _ h=>(z2q h).1)
theorem zbc5 {c:Cur}(h:zbc c):zmd c=true:=by
 refine z2r c ⟨0,?_⟩;unfold zzU oN;conv=>zeta
 exact zu (zdW h (by simp)) (zbE aI (zbJ _ _) trivial)
def zX3 (N:Nat)(c:Cur)  : OA :=
 let d:=({ (zf c 16) with b:=c.b}:Cur);let a:=({ (zf d 16) with b:=c.b}:Cur);let e:=({ (zf a 16) with b:=c.b}:Cur);let f:=(zU e [(zk c 16),(zk d 16),(zk a 16),15,16,(-1),9223372036854775807]); (oN (zx c 16) (oN (zx d 16) (oN (zx a 16) (oN (zbl e [(zk c 16),(zk d 16),(zk a 16),15,16,(-1),9223372036854775807]) (some [(.agg [(.s .u8 c.b),(.i .i64 f.i),(.i .i64 f.h)]),(aI (zbg e [(zk c 16),(zk d 16),(zk a 16),15,16,(-1),9223372036854775807]))])))))
def zpA (c:Cur)(s:Cur)(a:Int):Prop:=(∃N,zX3 N c=some (AV.agg (zbT s)::[aI a]))/\(s.b=c.b/\0<=s.i)/\(True)
def zIu (c:Cur)  : Bool:=wC (zpA c)
def zIv (c:Cur)  : Cur:=wS (zpA c)
def zSl (c:Cur)  : Int:=wV (zpA c)
theorem zZg {c:Cur}(h:zIu c=true):zpA c (zIv c) (zSl c):=wG h
def zyY:zdn:=rP0 fun c=>(zIu c,zIv c,[aI (zSl c)])
theorem zMF:zbK Tryz.prog 141 [false,true,true] zyY:=hP0 zpX zW zAO zn (zq []) (fun _ h=>(zZg h).1)
def zUo (N:Nat)(c:Cur)  : OA :=
 let a:=(znH c);let d:=(ix a.Mons 0 zi);let g:=({ (zmf c) with b:=c.b}:Cur);let e:=(zN g 2);let f:=({e with b:=c.b}:Cur); (oN (zgF c) (oN (zcI g 2) (cond (zcT g 2) (oN (inb 0 (ln a.Mons)) (cond (igt (ln d.Guests) 0) (oN (inb 0 (ln a.Mons)) (oN (zgN f) (oN (inb 0 (ln d.Guests)) (share (up a.Mons 0 ({d with Guests:=(up d.Guests 0 ({ (ix d.Guests 0 zD) with Exit:=(zb6 f)}:Guest))}:Mon)) (fun j=>(some [(.agg [(.s .u8 c.b),(.i .i64 (zea f).i),(.i .i64 (zea f).h)]),(aH ({a with Mons:=j}:Host))])))))) (some [(.agg [(.s .u8 c.b),(.i .i64 e.i),(.i .i64 e.h)]),(aH a)]))) (some [(.agg [(.s .u8 c.b),(.i .i64 e.i),(.i .i64 e.h)]),(aH a)]))))
def znj (c:Cur)(s:Cur)(a:Host):Prop:=(∃N,zUo N c=some (AV.agg (zbT s)::[aH a]))/\(s.b=c.b/\0<=s.i)/\(AnyH a)
def zFq (c:Cur)  : Bool:=wC (znj c)
def zFr (c:Cur)  : Cur:=wS (znj c)
def zNT (c:Cur)  : Host:=wV (znj c)
theorem zW8 {c:Cur}(h:zFq c=true):znj c (zFr c) (zNT c):=wG h
def zwn:zdn:=rP0 fun c=>(zFq c,zFr c,[aH (zNT c)])
theorem zJM:zbK Tryz.prog 78 [false,true,true] zwn:=hP0 zpX zW zAO zn (zq []) (fun _ h=>(zW8 h).1)
def zbcY:zcL:=[(79,([false,true,true],zBS)),(141,([false,true,true],zyY)),(78,([false,true,true],zwn))]++z9T
theorem zWJ:zb3 zbcY:=zcq zAO (by
 intro x a;simp only[qG,qN,or_false]at a;rcases a with rfl|rfl|rfl
 .exact zPw
 .exact zMF
 .exact zJM)
def zix (N:Nat)(h:List Int):OA:=
 (iter (σ:=(Int×(Int×((List Int)×(lM×(lN×(lE×(lE×Unit)))))))) N (fun i a=>let c:=a.2.2.1;let f:=(⟨c,0,a.1⟩:Cur);let e:=({ (zmf f) with b:=c}:Cur);let d:=({ (zsj e) with b:=c}:Cur);let g:=({ (zxa d) with b:=c}:Cur); (cond (ilt a.2.1 (ln c)) (cond (ilt a.2.1 4000) (oN (inb a.2.1 (ln c)) (i ((wand .i64 (zM .i64 (zM .i64 (zmn .i64 a.1 131) (wcv .i64 (ix c a.2.1 0))) 7) 1073741823),((zM .i64 a.2.1 1),(c,(a.2.2.2.1,(a.2.2.2.2.1,(a.2.2.2.2.2.1,(a.2.2.2.2.2.2.1,()))))))))) (oN (zgF f) (oN (zja e) (oN (znW d) (oN (zgL g) (some [(aH (znH f)),(aI (zt4 e)),(aI (zGc d)),(aI (znU g))])))))) (oN (zgF f) (oN (zja e) (oN (znW d) (oN (zgL g) (some [(aH (znH f)),(aI (zt4 e)),(aI (zGc d)),(aI (znU g))]))))))) ((zM .i64 94701 (ln h)),(0,(h,([],([],([],([],()))))))))
def zCQ:FuncId->Nat->Option Tmpl:=zq [(64,0,{n:=32,tm:=[(0,.sl 0 []),(3,ti),(4,ti)],lo:=[(0,[.sl 1 [],.sl 2 [],.sl 3 [],.sl 4 []])],ro:=[(0,.u8,false),(1,(.sl .int),true),(2,.mon,true),(3,.entry,true),(4,.entry,true)],sk:=[(0,2,0,.lp 0 0)]})]
def zla (b:List Int)(a:Host)(c:Int)(d:Int)(e:Int):Prop:=(∃N,zix N b=some [aH a,aI c,aI d,aI e])/\(AnyH a)
def zfr (a:List Int):Bool:=uC (T:=Host×Int×Int×Int) (fun r=>zla a r.1 r.2.1 r.2.2.1 r.2.2.2)
def ziz (a:List Int):Host×Int×Int×Int:=uV (fun r=>zla a r.1 r.2.1 r.2.2.1 r.2.2.2)
def zgu (a:List Int):Host:=(ziz a).1
def zgv (a:List Int):Int:=(ziz a).2.1
def zgw (a:List Int):Int:=(ziz a).2.2.1
def zgx (a:List Int):Int:=(ziz a).2.2.2
theorem ztk {a:List Int}(h:zfr a=true):zla a (zgu a) (zgv a) (zgw a) (zgx a):=uG h
theorem zG7 (g:List Int)(h:∃N,Ends (fun a=>∃b c d f,a=[aH b,aI c,aI d,aI f]/\(AnyH b)) (zix N g)):zfr g=true:=by obtain⟨N,a,e,b,c,d,f,rfl,h⟩:=h;exact zbh ⟨(b,c,d,f),⟨N,e⟩,h⟩
def zpM:Run:=rF1 (dS .u8) fun b=>(zfr b,[aH (zgu b),aI (zgv b),aI (zgw b),aI (zgx b)])
theorem zCO (a:List Int)(b:zfr a=true):∃N,zix N a=some [aH (zgu a),aI (zgv a),aI (zgw a),aI (zgx a)]:=by exact(ztk b).1
theorem zyy:vN 27 zpM:=kF1 zpX zW zWJ zn zCQ zCO
theorem zuo {a:List Int}(h:a.length<=big):zfr a=true:=by
 refine zG7 a (zcz fun N b=>?_);unfold zix oN;conv=>zeta
 refine zRB h (b h) ((fun i t=>(t,(i:Int),a,[],[],[],[],())):Int->Int->_) (fun rec i t=>by dsimp only) (fun t c=>?_);exact zu (zL3 c) (zu (at_t (zKo h (zNS _))) (zu (zbbH (zKo h (zSm _))) (zu (zZ9 (zKo h (z5l _))) ⟨_,rfl,_,_,_,_,rfl,(zA6 (zL3 c)).2.2⟩)))
def zjf (N:Nat)(i:List Int):OA:=
 (iter (σ:=(Int×(Int×((List Int)×(lM×(lN×(lE×(lE×Unit)))))))) N (fun l a=>let c:=a.2.2.1;let f:=(⟨c,0,a.1⟩:Cur);let e:=({ (zmf f) with b:=c}:Cur);let d:=({ (zsj e) with b:=c}:Cur);let h:=({ (zry d) with b:=c}:Cur);let k:=(zbl h [0,1,3,4,(-1)]);let j:=(aI (zbg h [0,1,3,4,(-1)]));let g:=({ (zU h [0,1,3,4,(-1)]) with b:=c}:Cur); (cond (ilt a.2.1 (ln c)) (cond (ilt a.2.1 4000) (oN (inb a.2.1 (ln c)) (l ((wand .i64 (zM .i64 (zM .i64 (zmn .i64 a.1 131) (wcv .i64 (ix c a.2.1 0))) 7) 1073741823),((zM .i64 a.2.1 1),(c,(a.2.2.2.1,(a.2.2.2.2.1,(a.2.2.2.2.2.1,(a.2.2.2.2.2.2.1,()))))))))) (oN (zgF f) (oN (zja e) (oN (zgL d) (oN k (oN (zmd g) (some [(aH (znH f)),(aI (zt4 e)),(aI (znU d)),j,(aI (zA5 g))]))))))) (oN (zgF f) (oN (zja e) (oN (zgL d) (oN k (oN (zmd g) (some [(aH (znH f)),(aI (zt4 e)),(aI (znU d)),j,(aI (zA5 g))])))))))) ((zM .i64 94701 (ln i)),(0,(i,([],([],([],([],()))))))))
def zFB:FuncId->Nat->Option Tmpl:=zq [(64,0,{n:=32,tm:=[(0,.sl 0 []),(3,ti),(4,ti)],lo:=[(0,[.sl 1 [],.sl 2 [],.sl 3 [],.sl 4 []])],ro:=[(0,.u8,false),(1,(.sl .int),true),(2,.mon,true),(3,.entry,true),(4,.entry,true)],sk:=[(0,2,0,.lp 0 0)]})]
def zmm (b:List Int)(a:Host)(c:Int)(d:Int)(e:Int)(f:Int):Prop:=(∃N,zjf N b=some [aH a,aI c,aI d,aI e,aI f])/\(AnyH a)
def zfL (a:List Int):Bool:=uC (T:=Host×Int×Int×Int×Int) (fun r=>zmm a r.1 r.2.1 r.2.2.1 r.2.2.2.1 r.2.2.2.2)
def zhn (a:List Int):Host×Int×Int×Int×Int:=uV (fun r=>zmm a r.1 r.2.1 r.2.2.1 r.2.2.2.1 r.2.2.2.2)
def zhi (a:List Int):Host:=(zhn a).1
def zhj (a:List Int):Int:=(zhn a).2.1
def zhk (a:List Int):Int:=(zhn a).2.2.1
def zhl (a:List Int):Int:=(zhn a).2.2.2.1
def zhm (a:List Int):Int:=(zhn a).2.2.2.2
theorem zvb {a:List Int}(h:zfL a=true):zmm a (zhi a) (zhj a) (zhk a) (zhl a) (zhm a):=uG h
theorem zKs (i:List Int)(h:∃N,Ends (fun a=>∃b c d f g,a=[aH b,aI c,aI d,aI f,aI g]/\(AnyH b)) (zjf N i)):zfL i=true:=by obtain⟨N,a,e,b,c,d,f,g,rfl,h⟩:=h;exact zbh ⟨(b,c,d,f,g),⟨N,e⟩,h⟩
def zsc:Run:=rF1 (dS .u8) fun b=>(zfL b,[aH (zhi b),aI (zhj b),aI (zhk b),aI (zhl b),aI (zhm b)])
theorem zEi (a:List Int)(b:zfL a=true):∃N,zjf N a=some [aH (zhi a),aI (zhj a),aI (zhk a),aI (zhl a),aI (zhm a)]:=by exact(zvb b).1
theorem zAn:vN 30 zsc:=kF1 zpX zW zWJ zn zFB zEi
theorem zvS {a:List Int}(h:a.length<=big):zfL a=true:=by
 refine zKs a (zcz fun N b=>?_);unfold zjf oN;conv=>zeta
 refine zRB h (b h) ((fun i t=>(t,(i:Int),a,[],[],[],[],())):Int->Int->_) (fun rec i t=>by dsimp only) (fun t c=>?_);exact zu (zL3 c) (zu (at_t (zKo h (zNS _))) (zu (zZ9 (zKo h (zSm _))) (zu (zdW (zKo h (zY7 _)) (by simp)) (zu (zbc5 (zKo h (zbJ _ _))) ⟨_,rfl,_,_,_,_,_,rfl,(zA6 (zL3 c)).2.2⟩))))
def z8R:zba:=z8Q
theorem z6F:zK z8R:=zpX
def z8S:zba:=[(27,zpM),(30,zsc)]++z8R
theorem zUL:zK z8S:=zh zyy (zh zAn z6F)
def zfa (x y:List Int):Bool:=pc (x=y)
def ze9 (_ _:List Int):Bool:=true
def zqm:Run:=rF2 (dS .int) (dS .int) fun b c=>(zfa b c,[aB (ze9 b c)])
def zC5 (N:Nat)(b c:List Int):OA:=
 (cond (ine (ln b) (ln c)) oF (iter (σ:=(Int×((List Int)×((List Int)×Unit)))) N (fun d a=>(cond (ilt a.1 (ln a.2.1)) (oN (inb a.1 (ln a.2.1)) (oN (inb a.1 (ln a.2.2.1)) (cond (ine (ix a.2.1 a.1 0) (ix a.2.2.1 a.1 0)) oF (d ((zM .i64 a.1 1),(a.2.1,(a.2.2.1,()))))))) oT)) (0,(b,(c,())))))
def zQS:FuncId->Nat->Option Tmpl:=zq [(33,0,{n:=26,tm:=[(0,.sl 0 []),(1,.sl 1 []),(5,ti)],lo:=[],ro:=[(0,.int,false),(1,.int,false)]})]
theorem zPW (a b:List Int)(d:zce big [aS .int a,aS .int b])(e:zfa a b=true):∃N,zC5 N a b=some [aB (ze9 a b)]:=by have:=zL.1 e;subst this;have f:=(len0 d);refine⟨a.length+1,?_⟩;unfold zC5 oN;rw[zdg];refine zlA a zbdb _ _ f (fun i c rec=>?_) (fun rec=>?_) (j4 _);{simp only [zbD c,zbf c,zbp c,zqd,zdg,zd1,zek,cT,cF,jW,jY]};{simp only [zbt,cF,ze9]}
theorem zux:vN 33 zqm:=hF2 zdI zW zB zn zQS zPW
def zhJ (x y:List Bool):Bool:=pc (x=y)
def zij (_ _:List Bool):Bool:=true
def zwx:Run:=rF2 (dS .bool) (dS .bool) fun b c=>(zhJ b c,[aB (zij b c)])
def zBs (N:Nat)(b c:lB):OA:=
 (cond (ine (ln b) (ln c)) oF (iter (σ:=(Int×(lB×(lB×Unit)))) N (fun d a=>(cond (ilt a.1 (ln a.2.1)) (oN (inb a.1 (ln a.2.1)) (oN (inb a.1 (ln a.2.2.1)) (cond (nB (zjh (ix a.2.1 a.1 false) (ix a.2.2.1 a.1 false))) oF (d ((zM .i64 a.1 1),(a.2.1,(a.2.2.1,()))))))) oT)) (0,(b,(c,())))))
def zOg:FuncId->Nat->Option Tmpl:=zq [(268,0,{n:=26,tm:=[(0,.sl 0 []),(1,.sl 1 []),(5,ti)],lo:=[],ro:=[(0,.bool,false),(1,.bool,false)]})]
theorem zM2 (a b:List Bool)(d:zce big [aS .bool a,aS .bool b])(e:zhJ a b=true):∃N,zBs N a b=some [aB (zij a b)]:=by have:=zL.1 e;subst this;have f:=(len0 d);refine⟨a.length+1,?_⟩;unfold zBs oN nB;rw[zdg];refine zlA a zbcE _ _ f (fun i c rec=>?_) (fun rec=>?_) (j4 _);{simp only [zbD c,zbf c,zbp c,zqd,zdg,zd1,zek,cT,cF,jW,jY]};{simp only [zbt,cF,zij]}
theorem zGq:vN 268 zwx:=hF2 zdI zW zB zn zOg zM2
def zex (x y:List Slot):Bool:=pc (x=y)
def zeS (_ _:List Slot):Bool:=true
def zwB:Run:=rF2 (dS .slot) (dS .slot) fun b c=>(zex b c,[aB (zeS b c)])
def zBw (N:Nat)(b c:lS):OA:=
 (cond (ine (ln b) (ln c)) oF (iter (σ:=(Int×(lS×(lS×Unit)))) N (fun f a=>let e:=(ix a.2.1 a.1 zV);let d:=(ix a.2.2.1 a.1 zV); (cond (ilt a.1 (ln a.2.1)) (oN (inb a.1 (ln a.2.1)) (oN (inb a.1 (ln a.2.2.1)) (cond (nB (cond (ieq e.Page d.Page) (ieq e.Rights d.Rights) false)) oF (f ((zM .i64 a.1 1),(a.2.1,(a.2.2.1,()))))))) oT)) (0,(b,(c,())))))
def zOj:FuncId->Nat->Option Tmpl:=zq [(267,0,{n:=26,tm:=[(0,.sl 0 []),(1,.sl 1 []),(5,ti)],lo:=[],ro:=[(0,.slot,false),(1,.slot,false)]})]
theorem zM6 (a b:List Slot)(d:zce big [aS .slot a,aS .slot b])(e:zex a b=true):∃N,zBw N a b=some [aB (zeS a b)]:=by
 have:=zL.1 e;subst this;have f:=(len0 d);refine⟨a.length+1,?_⟩;unfold zBw oN nB;conv=>zeta
 rw[zdg];refine zlA a zV _ _ f (fun i c rec=>?_) (fun rec=>?_) (j4 _);{simp only [zbD c,zbf c,zbp c,zqd,zdg,zd1,zek,cT,cF,jW,jY]};{simp only [zbt,cF,zeS]}
theorem zGu:vN 267 zwB:=hF2 zdI zW zB zn zOj zM6
def ziH (x y:List Entry):Bool:=pc (x=y)
def ziG (_ _:List Entry):Bool:=true
def zuZ:Run:=rF2 (dS .entry) (dS .entry) fun b c=>(ziH b c,[aB (ziG b c)])
def zyb (N:Nat)(d e:lE):OA:=
 (cond (ine (ln d) (ln e)) oF (iter (σ:=(Int×(lE×(lE×Unit)))) N (fun f a=>let c:=(ix a.2.1 a.1 zeq);let b:=(ix a.2.2.1 a.1 zeq); (cond (ilt a.1 (ln a.2.1)) (oN (inb a.1 (ln a.2.1)) (oN (inb a.1 (ln a.2.2.1)) (cond (nB (cond (ieq c.Tag b.Tag) (cond (ieq c.Page b.Page) (cond (ieq c.Host b.Host) (ieq c.Rights b.Rights) false) false) false)) oF (f ((zM .i64 a.1 1),(a.2.1,(a.2.2.1,()))))))) oT)) (0,(d,(e,())))))
def zKE:FuncId->Nat->Option Tmpl:=zq [(98,0,{n:=26,tm:=[(0,.sl 0 []),(1,.sl 1 []),(5,ti)],lo:=[],ro:=[(0,.entry,false),(1,.entry,false)]})]
theorem zJY (a b:List Entry)(d:zce big [aS .entry a,aS .entry b])(e:ziH a b=true):∃N,zyb N a b=some [aB (ziG a b)]:=by
 have:=zL.1 e;subst this;have f:=(len0 d);refine⟨a.length+1,?_⟩;unfold zyb oN nB;conv=>zeta
 rw[zdg];refine zlA a zeq _ _ f (fun i c rec=>?_) (fun rec=>?_) (j4 _);{simp only [zbD c,zbf c,zbp c,zqd,zdg,zd1,zek,cT,cF,jW,jY]};{simp only [zbt,cF,ziG]}
theorem zDW:vN 98 zuZ:=hF2 zdI zW zB zn zKE zJY
def zos (x y:List Ins):Bool:=pc (x=y)
def zor (_ _:List Ins):Bool:=true
def zzc:Run:=rF2 (dS .ins) (dS .ins) fun b c=>(zos b c,[aB (zor b c)])
def zC4 (N:Nat)(b c:lI):OA:=
 (cond (ine (ln b) (ln c)) oF (iter (σ:=(Int×(lI×(lI×Unit)))) N (fun f a=>let e:=(ix a.2.1 a.1 zxj);let d:=(ix a.2.2.1 a.1 zxj); (cond (ilt a.1 (ln a.2.1)) (oN (inb a.1 (ln a.2.1)) (oN (inb a.1 (ln a.2.2.1)) (cond (nB (cond (ieq e.Op d.Op) (ieq e.X d.X) false)) oF (f ((zM .i64 a.1 1),(a.2.1,(a.2.2.1,()))))))) oT)) (0,(b,(c,())))))
def zQR:FuncId->Nat->Option Tmpl:=zq [(328,0,{n:=26,tm:=[(0,.sl 0 []),(1,.sl 1 []),(5,ti)],lo:=[],ro:=[(0,.ins,false),(1,.ins,false)]})]
theorem zPV (a b:List Ins)(d:zce big [aS .ins a,aS .ins b])(e:zos a b=true):∃N,zC4 N a b=some [aB (zor a b)]:=by
 have:=zL.1 e;subst this;have f:=(len0 d);refine⟨a.length+1,?_⟩;unfold zC4 oN nB;conv=>zeta
 rw[zdg];refine zlA a zxj _ _ f (fun i c rec=>?_) (fun rec=>?_) (j4 _);{simp only [zbD c,zbf c,zbp c,zqd,zdg,zd1,zek,cT,cF,jW,jY]};{simp only [zbt,cF,zor]}
theorem zJp:vN 328 zzc:=hF2 zdI zW zB zn zQR zPV
def z3L:zba:=[(33,zqm),(268,zwx),(267,zwB),(98,zuZ),(328,zzc)]++zOA
theorem zvQ:zK z3L:=zh zux (zh zGq (zh zGu (zh zDW (zh zJp zdI))))
def zhK (x y:List (List Int)):Bool:=pc (x=y)
def zik (_ _:List (List Int)):Bool:=true
def zwA:Run:=rF2 (dS (.sl .int)) (dS (.sl .int)) fun b c=>(zhK b c,[aB (zik b c)])
def zBv (N:Nat)(b:lM)(c:lM):OA:=
 (cond (ine (ln b) (ln c)) oF (iter (σ:=(Int×(lM×(lM×Unit)))) N (fun d a=>(cond (ilt a.1 (ln a.2.1)) (oN (inb a.1 (ln a.2.1)) (oN (inb a.1 (ln a.2.2.1)) (oN (zfa (ix a.2.1 a.1 []) (ix a.2.2.1 a.1 [])) (cond (nB (ze9 (ix a.2.1 a.1 []) (ix a.2.2.1 a.1 []))) oF (d ((zM .i64 a.1 1),(a.2.1,(a.2.2.1,())))))))) oT)) (0,(b,(c,())))))
def zOi:FuncId->Nat->Option Tmpl:=zq [(96,0,{n:=27,tm:=[(0,.sl 0 []),(1,.sl 1 []),(5,ti)],lo:=[],ro:=[(0,(.sl .int),false),(1,(.sl .int),false)]})]
theorem zM5 (a:List (List Int))(b:List (List Int))(d:zce big [aS (.sl .int) a,aS (.sl .int) b])(e:zhK a b=true):∃N,zBv N a b=some [aB (zik a b)]:=by have:=zL.1 e;subst this;have f:=(len0 d);refine⟨a.length+1,?_⟩;unfold zBv oN nB;rw[zdg];refine zlA a (Ty.dflt (.sl .int)) _ _ f (fun i c rec=>?_) (fun rec=>?_) (j4 _);{simp only [zbD c,zbf c,zbp c,zfa,ze9,zqd,zdg,zd1,zek,cT,cF,jW,jY]};{simp only [zbt,cF,zik]}
theorem zGt:vN 96 zwA:=hF2 zvQ zW zB zn zOi zM5
def zou (x y:Kept):Bool:=pc (x=y)
def zot (_ _:Kept):Bool:=true
def zzd:Run:=rF2 (dT .kept) (dT .kept) fun b c=>(zou b c,[aB (zot b c)])
def zC6 (N:Nat)(a b:Kept):OA:=
 (oN (zhJ a.Known b.Known) (cond (zij a.Known b.Known) (oN (zex a.Slots b.Slots) (some [(aB (zeS a.Slots b.Slots))])) oF))
theorem zPX (a b:Kept)(c:zou a b=true):∃N,zC6 N a b=some [aB (zot a b)]:=by have:=zL.1 c;subst this;refine⟨0,?_⟩;simp only[zC6,zhJ,zij,zex,zeS,zqd,zdg,zd1,zek,cT,cF,jW,jY,zot]
theorem zJq:vN 310 zzd:=kF2 zvQ zW zB zn (zq []) zPX
def zm4 (x y:Guest):Bool:=pc (x=y)
def zmA (_ _:Guest):Bool:=true
def zwy:Run:=rF2 (dT .guest) (dT .guest) fun b c=>(zm4 b c,[aB (zmA b c)])
def zBt (N:Nat)(a b:Guest):OA:=
 (oN (zos a.Prog b.Prog) (cond (zor a.Prog b.Prog) (cond (ieq a.A b.A) (cond (ieq a.Pc b.Pc) (oN (zex a.Written b.Written) (cond (zeS a.Written b.Written) (oN (zex a.Live b.Live) (cond (zeS a.Live b.Live) (cond (cond (ieq a.Ctl.Traps b.Ctl.Traps) (cond (ieq a.Ctl.Post b.Ctl.Post) (zjh a.Ctl.Open b.Ctl.Open) false) false) (cond (ieq a.Pending b.Pending) (cond (cond (ieq a.Exit.Kind b.Exit.Kind) (cond (ieq a.Exit.Page b.Exit.Page) (cond (zjh a.Exit.Write b.Exit.Write) (ieq a.Exit.N b.Exit.N) false) false) false) (cond (zjh a.Halted b.Halted) (oN (zfa a.Seen b.Seen) (some [(aB (ze9 a.Seen b.Seen))])) oF) oF) oF) oF) oF)) oF)) oF) oF) oF))
theorem zM3 (a b:Guest)(c:zm4 a b=true):∃N,zBt N a b=some [aB (zmA a b)]:=by have:=zL.1 c;subst this;refine⟨0,?_⟩;simp only[zBt,zos,zor,zex,zeS,zfa,ze9,zqd,zdg,zd1,zek,cT,cF,jW,jY,zmA]
theorem zGr:vN 309 zwy:=kF2 zvQ zW zB zn (zq []) zM3
def z3M:zba:=[(96,zwA),(310,zzd),(309,zwy)]++z3L
theorem zDL:zK z3M:=zh zGt (zh zJq (zh zGr zvQ))
def zm5 (x y:List Kept):Bool:=pc (x=y)
def zmB (_ _:List Kept):Bool:=true
def zwz:Run:=rF2 (dS .kept) (dS .kept) fun b c=>(zm5 b c,[aB (zmB b c)])
def zBu (N:Nat)(b c:lK):OA:=
 (cond (ine (ln b) (ln c)) oF (iter (σ:=(Int×(lK×(lK×Unit)))) N (fun f a=>let e:=(ix a.2.1 a.1 zeh);let d:=(ix a.2.2.1 a.1 zeh); (cond (ilt a.1 (ln a.2.1)) (oN (inb a.1 (ln a.2.1)) (oN (inb a.1 (ln a.2.2.1)) (oN (zou e d) (cond (nB (zot e d)) oF (f ((zM .i64 a.1 1),(a.2.1,(a.2.2.1,())))))))) oT)) (0,(b,(c,())))))
def zOh:FuncId->Nat->Option Tmpl:=zq [(270,0,{n:=27,tm:=[(0,.sl 0 []),(1,.sl 1 []),(5,ti)],lo:=[],ro:=[(0,.kept,false),(1,.kept,false)]})]
theorem zM4 (a b:List Kept)(d:zce big [aS .kept a,aS .kept b])(e:zm5 a b=true):∃N,zBu N a b=some [aB (zmB a b)]:=by
 have:=zL.1 e;subst this;have f:=(len0 d);refine⟨a.length+1,?_⟩;unfold zBu oN nB;conv=>zeta
 rw[zdg];refine zlA a zeh _ _ f (fun i c rec=>?_) (fun rec=>?_) (j4 _);{simp only [zbD c,zbf c,zbp c,zou,zot,zqd,zdg,zd1,zek,cT,cF,jW,jY]};{simp only [zbt,cF,zmB]}
theorem zGs:vN 270 zwz:=hF2 zDL zW zB zn zOh zM4
def zlK (x y:List Guest):Bool:=pc (x=y)
def zkW (_ _:List Guest):Bool:=true
def zu0:Run:=rF2 (dS .guest) (dS .guest) fun b c=>(zlK b c,[aB (zkW b c)])
def zyc (N:Nat)(b c:lG):OA:=
 (cond (ine (ln b) (ln c)) oF (iter (σ:=(Int×(lG×(lG×Unit)))) N (fun f a=>let e:=(ix a.2.1 a.1 zD);let d:=(ix a.2.2.1 a.1 zD); (cond (ilt a.1 (ln a.2.1)) (oN (inb a.1 (ln a.2.1)) (oN (inb a.1 (ln a.2.2.1)) (oN (zm4 e d) (cond (nB (zmA e d)) oF (f ((zM .i64 a.1 1),(a.2.1,(a.2.2.1,())))))))) oT)) (0,(b,(c,())))))
def zKF:FuncId->Nat->Option Tmpl:=zq [(269,0,{n:=27,tm:=[(0,.sl 0 []),(1,.sl 1 []),(5,ti)],lo:=[],ro:=[(0,.guest,false),(1,.guest,false)]})]
theorem zJZ (a b:List Guest)(d:zce big [aS .guest a,aS .guest b])(e:zlK a b=true):∃N,zyc N a b=some [aB (zkW a b)]:=by
 have:=zL.1 e;subst this;have f:=(len0 d);refine⟨a.length+1,?_⟩;unfold zyc oN nB;conv=>zeta
 rw[zdg];refine zlA a zD _ _ f (fun i c rec=>?_) (fun rec=>?_) (j4 _);{simp only [zbD c,zbf c,zbp c,zm4,zmA,zqd,zdg,zd1,zek,cT,cF,jW,jY]};{simp only [zbt,cF,zkW]}
theorem zDX:vN 269 zu0:=hF2 zDL zW zB zn zKF zJZ
def z3N:zba:=[(270,zwz),(269,zu0)]++z3M
theorem zRN:zK z3N:=zh zGs (zh zDX zDL)
def zq0 (x y:Mon):Bool:=pc (x=y)
def zr8 (_ _:Mon):Bool:=true
def zB1:Run:=rF2 (dT .mon) (dT .mon) fun b c=>(zq0 b c,[aB (zr8 b c)])
def zHf (N:Nat)(a b:Mon):OA:=
 (oN (zex a.Outer b.Outer) (cond (zeS a.Outer b.Outer) (oN (zhK a.Out b.Out) (cond (zik a.Out b.Out) (oN (zhJ a.Dirty b.Dirty) (cond (zij a.Dirty b.Dirty) (oN (zlK a.Guests b.Guests) (cond (zkW a.Guests b.Guests) (oN (zfa a.Outs b.Outs) (cond (ze9 a.Outs b.Outs) (cond (ieq a.Pending b.Pending) (cond (ieq a.Traps b.Traps) (oN (zm5 a.Tables b.Tables) (cond (zmB a.Tables b.Tables) (some [(aB (ieq a.Own b.Own))]) oF)) oF) oF) oF)) oF)) oF)) oF)) oF))
theorem zS5 (a b:Mon)(c:zq0 a b=true):∃N,zHf N a b=some [aB (zr8 a b)]:=by have:=zL.1 c;subst this;refine⟨0,?_⟩;simp only[zHf,zex,zeS,zhK,zik,zhJ,zij,zlK,zkW,zfa,ze9,zm5,zmB,zqd,zdg,zd1,zek,cT,cF,jW,jY,zr8]
theorem zMb:vN 197 zB1:=kF2 zRN zW zB zn (zq []) zS5
def z3O:zba:=[(197,zB1)]++z3N
theorem zRO:zK z3O:=zh zMb zRN
def zow (x y:List Mon):Bool:=pc (x=y)
def zov (_ _:List Mon):Bool:=true
def zze:Run:=rF2 (dS .mon) (dS .mon) fun b c=>(zow b c,[aB (zov b c)])
def zC7 (N:Nat)(b c:lN):OA:=
 (cond (ine (ln b) (ln c)) oF (iter (σ:=(Int×(lN×(lN×Unit)))) N (fun f a=>let e:=(ix a.2.1 a.1 zi);let d:=(ix a.2.2.1 a.1 zi); (cond (ilt a.1 (ln a.2.1)) (oN (inb a.1 (ln a.2.1)) (oN (inb a.1 (ln a.2.2.1)) (oN (zq0 e d) (cond (nB (zr8 e d)) oF (f ((zM .i64 a.1 1),(a.2.1,(a.2.2.1,())))))))) oT)) (0,(b,(c,())))))
def zQT:FuncId->Nat->Option Tmpl:=zq [(97,0,{n:=27,tm:=[(0,.sl 0 []),(1,.sl 1 []),(5,ti)],lo:=[],ro:=[(0,.mon,false),(1,.mon,false)]})]
theorem zPY (a b:List Mon)(d:zce big [aS .mon a,aS .mon b])(e:zow a b=true):∃N,zC7 N a b=some [aB (zov a b)]:=by
 have:=zL.1 e;subst this;have f:=(len0 d);refine⟨a.length+1,?_⟩;unfold zC7 oN nB;conv=>zeta
 rw[zdg];refine zlA a zi _ _ f (fun i c rec=>?_) (fun rec=>?_) (j4 _);{simp only [zbD c,zbf c,zbp c,zq0,zr8,zqd,zdg,zd1,zek,cT,cF,jW,jY]};{simp only [zbt,cF,zov]}
theorem zJr:vN 97 zze:=hF2 zRO zW zB zn zQT zPY
def zbb1:zba:=[(97,zze)]++z3O
theorem z3P:zK zbb1:=zh zJr zRO
def ziI (x y:Host):Bool:=pc (x=y)
def zjt (_ _:Host):Bool:=true
def zzb:Run:=rF2 dH dH fun b c=>(ziI b c,[aB (zjt b c)])
def zC3 (N:Nat)(a b:Host):OA:=
 (oN (zhK a.Memory b.Memory) (cond (zik a.Memory b.Memory) (oN (zow a.Mons b.Mons) (cond (zov a.Mons b.Mons) (oN (ziH a.Buffer b.Buffer) (cond (ziG a.Buffer b.Buffer) (oN (ziH a.IoBuffer b.IoBuffer) (some [(aB (ziG a.IoBuffer b.IoBuffer))])) oF)) oF)) oF))
theorem zPU (a b:Host)(c:ziI a b=true):∃N,zC3 N a b=some [aB (zjt a b)]:=by have:=zL.1 c;subst this;refine⟨0,?_⟩;simp only[zC3,zhK,zik,zow,zov,ziH,ziG,zqd,zdg,zd1,zek,cT,cF,jW,jY,zjt]
theorem zJo:vN 24 zzb:=kF2 z3P zW zB zn (zq []) zPU
def zbb0:zba:=[(123,zql),(34,zoM),(119,zu3)]++zOA
theorem z3m:zK zbb0:=zh zuw (zh zp3 (zh zyx zdI))
@[simp] abbrev zAE (h:Host)(_ _ _:Int):Bool:=pc (zcD h)
@[simp] abbrev zJT (h:Host)(m p c:Int):Int:=cellAt [zcd h m p] 0 c
def zEO:Run:=rF4 dH dI dI dI fun b c d e=>(zAE b c d e,[aI (zJT b c d e)])
def zK2 (N:Nat)(a:Host)(b c d:Int):OA:=
 (oN (ztG a b c) (oN (zo1 [(znD a b c)] 0 d) (some [(aI (zk9 [(znD a b c)] 0 d))])))
theorem zVK (a:Host)(b c d:Int)(e:zAE a b c d=true):∃N,zK2 N a b c d=some [aI (zJT a b c d)]:=by have f:=zL.1 e;refine⟨0,?_⟩;unfold zK2 oN;exact must (zbh f) (must rfl rfl)
theorem zO2:vN 38 zEO:=kF4 z3m zW zB zn (zq []) zVK
theorem zU5 (k:Kept)(p:Int):zhe (zbR k p) p=false:=by unfold zhe zbR;cases h:zdi k p with|false=>rw[cond_false,h];rfl|true=>rw[cond_true];unfold zdi at h ⊢;rw[zbY]at h;dsimp only;rw[zc5,h.1,zc5,h.2,cond_true,cond_true,zbe h.1]
theorem zYj (b:List Entry)(t p:Int):(zvW (zcg b t p) t p).isSome=false:=by unfold zvW zcg;rw[Option.isSome_eq_false_iff,jX,List.find?_eq_none];intro e d;have:=(u5.1 d).2;unfold zoz at this;cases a:ieq e.Tag t with|false=>simp|true=>rw[show ine e.Tag t=false by rw[zbq]at a;simp[ine,a]] at this;rw[cond_true];have c:ine e.Page p=true:=this;simp[ieq];exact ztX.1 c
theorem z5c {h:Host}{m:Int}{k:Bool}(e:zdk h m k=true):zcr h m=true/\k=true:=by unfold zdk at e;rwa [zbY] at e
theorem zYk {h:Host}(sm:SmH h){m g p:Int}(e:zdk h m (zbS (zC h m) g (hasB p 4))=true) :
 hasB m (ln (zc1 h m g p).Mons)=true/\hasB g (ln (ix (zc1 h m g p).Mons m mZ).Tables)=true/\zhe (ix (ix (zc1 h m g p).Mons m mZ).Tables g kZ) p=false/\
 (zc1 h m g p).Buffer=zcg h.Buffer (zdm m g) p/\(zc1 h m g p).IoBuffer=zcg h.IoBuffer (zdm m g) p:=by
 obtain⟨c,d⟩:=z5c e;obtain⟨k,i⟩:=zcn.1 c;unfold zc1;rw[c,d,cond_true,cond_true];generalize j:chg (zC h m) g (hasB p 4) (zde (gAt (zC h m) g) p)=b;have f:=zvY sm c b d;have a:=zz1 b i;unfold zyr;refine⟨by rw[zc5];exact a,?_,?_,rfl,rfl⟩
 .rw [zbe a]
  show hasB g (ln (up _ g _))=true
  rw[zc5];exact f
 .rw [zbe a]
  show zhe (ix (up _ g _) g kZ) p=false
  rw[zbe f];exact zU5 _ _
theorem z6S {h:Host}{m g p:Int}(e:zdk h m (zbS (zC h m) g (hasB p 4))=false):zc1 h m g p=h:=by unfold zc1;unfold zdk at e;cases a:zcr h m with|false=>rfl|true=>rw[a,cond_true] at e;rw[cond_true,e];rfl
theorem z0N {h:Host}{m p c v:Int}(e:zcH h m p c v=true):cellAt [zcd (zfE h m p c v) m p] 0 c=v:=by unfold zfE;rw[e,cond_true];unfold zcH at e;rw[zbY,zbY] at e;obtain⟨k,w,y⟩:=e;obtain⟨H,n,l⟩:=zk3.1 k;have M:=zEo H (m:=m) (p:=p) 2 n l;have R:=M.op.ok;have b:hasB m (ln (mended h m p 2).Mons)=true:=(by rw[M.op.like.has];exact n);have a:=M.inn;unfold zNA;generalize mended h m p 2=r at R b a;have K:=R.mons _ (zbu (zG b) mZ);have s:hasB p (ln (ix r.Mons m mZ).Outer)=true:=(by unfold ln;rw[K.o8];exact l);have x:SOk (ix (ix r.Mons m mZ).Outer p sZ):=K.sl _ (zbu (zG s) sZ);have d:0<=(ix (ix r.Mons m mZ).Outer p sZ).Page/\(ix (ix r.Mons m mZ).Outer p sZ).Page<=11:=(by rcases x with h|⟨k,u,_⟩;{exact absurd (by rw[h];rfl) a};{exact⟨k,u⟩});have j:hasB (ix (ix r.Mons m mZ).Outer p sZ).Page (ln r.Memory)=true:=zI.2 ⟨d.1,by unfold ln;rw[R.m12];omega⟩;unfold zcd;dsimp only;rw[b,l,cond_true,cond_true];rw[show (ix r.Mons m zi)=ix r.Mons m mZ from rfl,zln s,ztX.2 a,cond_true];generalize (ix (ix r.Mons m mZ).Outer p sZ).Page=q at d j;have f:zci (ix r.Memory q [])=true:=R.pgs _ (zbu (zG j) []);have i:hasB c (ln (ix r.Memory q []))=true:=(by rw[(zoC.1 f).2];exact w);unfold zbC;rw[(zoy _ _ _).2 ⟨j,i⟩,y,cond_true,cond_true,zuQ j];generalize ix r.Memory q []=g at i;have t:ix [up g c v] 0 []=up g c v:=rfl;unfold cellAt;rw[(zoy _ _ _).2 ⟨rfl,by rw[t,zc5];exact i⟩,cond_true,t,zbe i]
theorem zWm {d b:Type}{f:d->b}{l:List d}{x:b}{c:List b}(h:l.map f=x::c):∃a r,l=a::r/\f a=x/\r.map f=c:=by cases l with|nil=>cases h|cons a r=>simp only[jD,List.cons.injEq]at h;exact⟨a,r,rfl,h.1,h.2⟩
theorem zbcx {a:AV}{b:CTy}(h:some a.sh=some (false,[b])):∃c,a = .one c/\c.ty=b:=by cases a with|one c=>simp only[AV.sh,qC,jS,List.cons.injEq,and_true,true_and]at h;exact⟨c,rfl,h⟩|agg l=>simp[AV.sh]at h
theorem sh_s {a:AV}{t:Ty}(h:some a.sh=some (false,[.s t])):∃l:List t.den,a = .one (.s t l):=by obtain⟨c,rfl,b⟩:=zbcx h;obtain⟨l,rfl⟩:=zlx b;exact⟨l,rfl⟩
section
open Go Go.ChangeShapes Go.WideShapes Go.ChangeAt
abbrev zPH (_:List Int):Bool:=true
abbrev zMR (l:List Int):Bool:=igt (ln l) 1048576
def zSj:Run:=rF1 (dS .u8) fun b=>(zPH b,[aB (zMR b)])
def zZC (N:Nat)(a:List Int):OA:=
 (some [(aB (igt (ln a) 1048576))])
theorem z4t (a:List Int)(b:zPH a=true):∃N,zZC N a=some [aB (zMR a)]:=by refine⟨0,?_⟩;unfold zZC;first|rfl|(simp only [*,zMR,cT,cF]<;>rfl)|simp_all[Ty.cells,zMR]
theorem zYp:vN 7 zSj:=kF1 zUL zW zB zn (zq []) z4t
def z8O:zba:=[(7,zSj),(24,zzb),(33,zqm),(28,zoF),(29,zoL),(31,zqk),(32,zqp),(23,zsN),(34,zoM),(35,zEP),(37,zxM),(36,zoK),(38,zEO)]++z8S
theorem z6D:zK z8O:=zh zYp (zh zJo (zh zux (zh zs9 (zh ztd (zh zuv (zh zuA (zh zv9 (zh zp3 (zh zHY (zh zBK (zh ztc (zh zO2 zUL))))))))))))
def zje (N:Nat)(f:List Int):OA:=
 let c:=(zhi f);let b:=(zhm f);let a:=(zhl f);let l:=(zhk f);let k:=(zhj f);let j:=(zgu f);let e:=(zgx f);let s:=(zd3 [[[(⟨7,0⟩:Ins)]]]);let n:=(znD (zg9 s 0 3 1 42) 0 3);let i:=(zgv f);let h:=(zgw f);let m:=(zi8 i h);let q:=(zm3 j i h e);let g:=(zqC i h);let r:=(zg9 c k l a b);let d:=(zm2 j i h e);let t:=(ix d.Mons i zi).Tables;let p:=(ix t h zeh); (oN (zPH f) (cond (zMR f) oT (oN (zfr f) (oN (zsB j i h e) (oN (znb j i h e) (oN (zfL f) (oN (zol c k l a b) (oN (zo2 c k l a b) (cond (nB (zjh q (zjV j i h e))) oF (oN (ziI d (zhN j i h e)) (cond (nB (zjt d (zhN j i h e))) oF (cond (nB (zjh (zha c k l a b) (zld c k l a b))) oF (oN (ziI r (ziS c k l a b)) (cond (nB (zjt r (ziS c k l a b))) oF (oN (zrm [[[(⟨7,0⟩:Ins)]]]) (oN (zol s 0 3 1 42) (cond (zha s 0 3 1 42) (oN (ztG (zg9 s 0 3 1 42) 0 3) (oN (zfa n [0,42,0,0]) (cond (nB q) (oN (ziI d j) (cond (zjt d j) (some [(aB (ze9 n [0,42,0,0]))]) oF)) (oN (inb i (ln d.Mons)) (oN (inb h (ln t)) (oN (zt2 p e) (oN m (oN (zfw d.Buffer g e) (oN m (oN (zfw d.IoBuffer g e) (cond (ze9 n [0,42,0,0]) (cond (nB (zzv p e)) (cond (nB (zd7 d.Buffer g e)) (cond (nB (zd7 d.IoBuffer g e)) (cond (ile (ln d.Buffer) (ln j.Buffer)) (cond (nB (zha c k l a b)) oT (oN (zAE r k l a) (some [(aB (ieq (zJT r k l a) b))]))) oF) oF) oF) oF) oF))))))))))) (cond (nB q) (oN (ziI d j) (cond (zjt d j) oF oF)) (oN (inb i (ln d.Mons)) (oN (inb h (ln t)) (oN (zt2 p e) (oN m (oN (zfw d.Buffer g e) (oN m (oN (zfw d.IoBuffer g e) oF)))))))))))))))))))))))))
theorem zGY (N:Nat)(a:List Int):evalFn (cQ z8O z7m zQz z2N) (zq []) N 12 4 [aS .u8 a]=zje N a:=by kernel_rfl
theorem zbcc:zha (zd3 [[[(⟨7,0⟩:Ins)]]]) 0 3 1 42=true:=by kernel_rfl
theorem zbcd:znD (zg9 (zd3 [[[(⟨7,0⟩:Ins)]]]) 0 3 1 42) 0 3=[0,42,0,0]:=by kernel_rfl
theorem z9U:zFJ [[[(⟨7,0⟩:Ins)]]]:=⟨by simp,by
 intro p a;rw[qF.1 a];exact⟨by simp,fun q b=>by rw[qF.1 b];simp⟩⟩
theorem zZ4 (x:Bool):(cond (zjh x x) false true)=false:=by rw[zek];rfl
theorem nB_t {b:Bool}(h:(cond b false true)=true):b=false:=by cases b;rfl;cases h
theorem nB_f {b:Bool}(h:(cond b false true)=false):b=true:=by cases b;cases h;rfl
theorem z1M {b:Bool}(h:b=false):(cond b false true)=true:=by rw[h];rfl
theorem zCB (N:Nat)(c:List Int)(f:c.length<=big):Ends (fun a=>a=[.one (.b true)]) (zje N c):=by
 unfold zje oN nB;conv=>zeta
 have A:=(ztk (zuo f)).2.sm;have B:=(zvb (zvS f)).2.sm;have d:SmH (zd3 [[[(⟨7,0⟩:Ins)]]]):=zQK z9U;have w:=zbcc;have x:=zbcd;refine zu rfl (zbA (fun _=>zod rfl) (fun _=>zu (zuo f) ?_));generalize zgu c=h at A;generalize zgv c=m;generalize zgw c=g;generalize zgx c=p;have t:=(zT _).2 A;refine zu (zbh t) (zu (zbh t) (zu (zvS f) ?_));generalize zhi c=u at B;generalize zhj c=k;generalize zhk c=e;generalize zhl c=j;generalize zhm c=l;have v:=(zT _).2 B;have C:SmH (zc1 h m g p):=zSs A;have D:SmH (zfE u k e j l):=zKz B;refine zu (zbh v) (zu (zbh v) (zFS (zZ4 _) (zu (zbh rfl) (zFS rfl (zFS (zZ4 _) (zu (zbh rfl) (zFS rfl (zu (zbh z9U) ?_))))))));generalize zd3 [[[(⟨7,0⟩:Ins)]]]=one at w x d;refine zu (zbh ((zT _).2 d)) (zu w (zu (zbh ((zT _).2 (zKz d))) (zu (zbh x) (zbA (fun i=>?_) (fun i=>?_)))));{exact zu (zbh (z6S (nB_t i))) (zu rfl (zod rfl))};{have ok:=nB_f i;obtain⟨n,q,y,r,z⟩:=zYk A ok;have s:∀(b:List Entry),(zd7 (zcg b (zdm m g) p) (zdm m g) p)=false:=fun b=>zYj b _ _;refine zu (zG n) (zu (zG q) (zu (zbh ((C.2.1.2 _ (zbu (zG n) mZ)).2.2.2.2.2.2 _ (zbu (zG q) kZ))) (zu rfl (zu rfl (zu rfl (zu rfl (zu rfl (zu (z1M y) (zu (z1M ?_) (zu (z1M ?_) (zu ?_ (zbA (fun _=>zod rfl) (fun E=>zu (zbh ((zT _).2 D)) (zod ?_))))))))))))));{show zd7 (zc1 h m g p).Buffer (zdm m g) p=false;rw[r];exact s _};{show zd7 (zc1 h m g p).IoBuffer (zdm m g) p=false;rw[z];exact s _};{show ile (ln (zc1 h m g p).Buffer) (ln h.Buffer)=true;rw[r];exact qJ (by have:=ztp h.Buffer (zdm m g) p;unfold ln;omega)};{have:=z0N (nB_f E);show [AV.one (CV.b (ieq (cellAt [zcd (zfE u k e j l) k e] 0 j) l))]=_;rw[this,zd1]}}
theorem zDw (d:List Int)(h:∀c∈zy [aS .u8 d],CVOk c):∃N,zje N d=some [.one (.b true)]:=by have e:zce big [aS .u8 d]:=fun c f=>CVB.of_ok (h c f);have g:=(len0 e);exact⟨5,zbaI (G:=fun a=>a=[.one (.b true)]) (zCB 5 d g)⟩
theorem zBa:Tryz.f4.params.toList.map (zcC Tryz.prog 4)=[some (false,[.s .u8])]:=by kernel_rfl
theorem zxy:zZA 4 Tryz.f4.params.toList:=by refine zX6 z6D zW zB zn (zjj (by kernel_rfl)) ?_;intro c hg;obtain⟨a,e⟩:=hg;rw[zBa]at a;obtain⟨h,g,rfl,d,a⟩:=zWm a;cases List.map_eq_nil_iff.1 a;obtain⟨b,rfl⟩:=sh_s d;obtain⟨N,f⟩:=zDw b e;exact⟨zq [],N,12,(zGY N b).trans f⟩
theorem zCP (H:Type)(a:List (DataW H))(h:a.length=Tryz.f4.params.toList.length):Rows.fnFlushedAllSpec.fn H a={results:=[.lit (.bool true)],args:=a}:=by
 have b:a.length=1:=h.trans (by kernel_rfl)
 match a,b with
 |[d],_=>rfl
set_option maxRecDepth 100000 in
theorem zyM (g:Os)(a:g.Started)(H:Type)(enc:TypeId×Value->H) :
 ReturnsInHanded {} Tryz.checked g 4 .any (Rows.fnFlushedAllSpec.pre6 enc Tryz.prog Tryz.f4 Rows.fnFlushedAllRow.domain false) (Rows.fnFlushedAllSpec.post enc Tryz.prog Tryz.f4 false true false false):=by
 refine returnsInHanded_of_change_shaped (C:=Tryz.checked) own a (by kernel_rfl) Tryz.func4
  (ChangeSpec.witness6 (enc:=enc) (C:=Tryz.checked) false ⟨#[],#[.slice none 0 0],[]⟩ 8 (by kernel_rfl) (by kernel_rfl) (by kernel_rfl) (by kernel_rfl)) ?_
 intro W d c h i b e j _ f _ _;exact zMS (P:=Tryz.prog) z6d z7c rfl zCP (by kernel_rfl) (B:=4) (by kernel_rfl) (by kernel_rfl) zxy W d c h i b e j f
end
end
end Go.Proofs.YthhbajmehldikaaGreat.E
