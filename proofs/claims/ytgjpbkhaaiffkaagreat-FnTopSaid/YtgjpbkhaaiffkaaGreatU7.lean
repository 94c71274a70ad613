/- What is proved here: a part of the proof that the statement of this claim holds (several texts of wip/, laid together). -/
import Derived.Test.YtgjpbkhaaiffkaaGreatU6
namespace Go.Proofs.YtgjpbkhaaiffkaaGreat.E
open Go
set_option linter.constructorNameAsVariable false
set_option linter.unusedVariables false
set_option maxRecDepth 100000
set_option linter.unusedSimpArgs false
set_option linter.unusedSectionVars false
noncomputable section
structure Op (h r:Host):Prop where
 ok:HOk r
 like:Like h r
 rt:Rt h->Rt r
theorem Op.refl {h:Host}(H:HOk h):Op h h:=⟨H,Like.refl h,id⟩
theorem Op.trans {a b c:Host}(x:Op a b)(y:Op b c):Op a c:=⟨y.ok,x.like.trans y.like,λh=>y.rt (x.rt h)⟩
theorem Op.safe {h r:Host}(k:Op h r)(s:Safe h):Safe r:=⟨k.ok,k.rt s.rt⟩
theorem zNq {h r:Host}(H:Rt h){m:Int}(l:hasB m (ln h.Mons)=true){x:Mon}(u:r.Mons=up h.Mons m x)(q:r.Buffer=h.Buffer)(s:r.IoBuffer=h.IoBuffer)(y:x.Guests.length=(ix h.Mons m mZ).Guests.length)(w:∀g,hasB g (ln (ix h.Mons m mZ).Guests)=true->(ix x.Guests g gZ).Live=(ix (ix h.Mons m mZ).Guests g gZ).Live)(z:x.Tables=(ix h.Mons m mZ).Tables)(v:x.Outer=(ix h.Mons m mZ).Outer):Rt r:=by have d:=(zG.1 l).1;have hg:∀g,hasB g (ln x.Guests)=hasB g (ln (ix h.Mons m mZ).Guests):=λg=>(by unfold ln;rw[y]);have f:∀e,zcY h e=true->zcY r e=true:=(by intro e c;obtain⟨n,i,p⟩:=zhk.1 c;rw[zhk,u,ze0];refine⟨n,?_⟩;by_cases b:m=zdI e.Tag;{rw [<- b]at n i p ⊢;rw[zbr l,hg,w _ i,v];exact⟨i,p⟩};{rw [zbI d (zG.1 n).1 b];exact⟨i,p⟩});refine⟨λk j=>?_,λe c=>f e (H.e1 e (by rwa [q]at c)),λe c=>f e (H.e2 e (by rwa [s]at c))⟩;rw[u]at j ⊢;rw[ze0]at j;by_cases b:m=k;{subst b;rw[zbr l];intro g a;rw[hg]at a;rw[z,w g a,v];exact H.t m l g a};{rw [zbI d (zG.1 j).1 b];exact H.t k j}
theorem zrt {h a:Host}{m p:Int}{s:Slot}{x:Mon}(b:hasB m (ln h.Mons)=true)(e:a.Mons=up h.Mons m x):(zcD a m p s).Mons=up h.Mons m (zmk x p s):=by rw[zt1,e,zbr b,z6f]
theorem zCL {x a:Mon}{p:Int}{s:Slot}{c:List Int}(h:a.Outer=x.Outer)(j:a.Out=up x.Out p c)(hg:a.Guests=x.Guests)(i:a.Tables=x.Tables)(g:a.Dirty.length=x.Dirty.length)(b:a.Outs=x.Outs)(d:a.Pending=x.Pending)(e:a.Traps=x.Traps)(f:a.Own=x.Own):Chg x (zmk a p s) p s c :=
 ⟨by show up a.Outer p s=_;rw[h],j,hg,by show (zml a.Guests p a.Tables.length a.Tables).length=_;rw[zEf,i],g,b,d,e,f⟩
theorem zv1 {h:Host}{m p:Int}{s:Slot}(a:zg3 h.Buffer=true)(b:zg3 h.IoBuffer=true):zg3 (zcD h m p s).Buffer=true/\zg3 (zcD h m p s).IoBuffer=true:=by have:=zSN h m p s;rw[this.1,this.2];cases ieq (ix (ix h.Mons m mZ).Outer p sZ).Page (-1);{exact⟨zGR a _,zGR b _⟩};{exact⟨a,b⟩}
theorem hasM {h:Host}(H:HOk h){s:Slot}(b:SOk s)(a:s.Page≠-1):hasB s.Page (ln h.Memory)=true:=by have:=b.pos a;exact zG.2 ⟨this.1,by unfold ln;rw[H.m12];omega⟩
theorem z0y {h:Host}(H:HOk h){m p:Int}(b:hasB m (ln h.Mons)=true)(c:hasB p 8=true)(l:(ix (ix h.Mons m mZ).Outer p sZ).Page≠-1):Op h (zeS h m p):=by
 have X:=H.mon b;have f:(zeS h m p).Mons=up h.Mons m (zmk {ix h.Mons m mZ with Out:=up (ix h.Mons m mZ).Out p (zcZ h.Memory (ix (ix h.Mons m mZ).Outer p sZ).Page)} p noSlot):=zrt b rfl;have k:Chg (ix h.Mons m mZ) (zmk {ix h.Mons m mZ with Out:=up (ix h.Mons m mZ).Out p (zcZ h.Memory (ix (ix h.Mons m mZ).Outer p sZ).Page)} p noSlot) p noSlot (zcZ h.Memory (ix (ix h.Mons m mZ).Outer p sZ).Page):=zCL rfl rfl rfl rfl rfl rfl rfl rfl rfl;have a:(zeS h m p).Memory=h.Memory:=zxI _ _ _ _;have g:=zv1 (h:=zgt h m p) (m:=m) (p:=p) (s:=noSlot) H.b1 H.b2;refine⟨zxj H b c f k (.inl rfl) ((zrO (.inl rfl)).2 ⟨λ_=>zSw H.pgs _,λh=>absurd rfl h⟩) (by rw[a];exact H.m12) (by rw[a];exact H.pgs) g.1 g.2 λh=>absurd h (by decide),
  zwP H b c f k ?_ (λi q _ _ _ _=>by rw[a]),λR=>?_⟩
 {rw [zp1 b c<|X.hasO c,zcf.2 l];rfl};{have j:Rt (zgt h m p):=zNq (x:={ix h.Mons m mZ with Out:=up (ix h.Mons m mZ).Out p (zcZ h.Memory (ix (ix h.Mons m mZ).Outer p sZ).Page)}) R b rfl rfl rfl rfl (λ_ _=>rfl) rfl rfl;have d:hasB m (ln (zgt h m p).Mons)=true:=(by show hasB m (ln<|up h.Mons m _)=true;rw[ze0];exact b);have e:ix (zgt h m p).Mons m mZ={ix h.Mons m mZ with Out:=up (ix h.Mons m mZ).Out p (zcZ h.Memory (ix (ix h.Mons m mZ).Outer p sZ).Page)}:=zbr b _ _;exact zz5 j d (by rw[e];exact X.hasO c) (by rw[e];exact X.gt) noSlot}
theorem zGY {o:List Slot}{q:Int}:zqh o q=none↔o.countP (λs=>ieq s.Page q)=0:=by unfold zqh;rw[List.findIdx?_eq_none_iff,vH];simp
theorem zYQ {o:List Slot}{q:Int}{k:Nat}(h:zqh o q=some k):∃a:k<o.length,o[k].Page=q:=by unfold zqh at h;rw[u4]at h;obtain⟨a,b,_⟩:=h;exact⟨a,zbC.1 b⟩
theorem zzW {q:Int}:∀(l:List Mon) (i:Nat),((zkr q l i).1<0↔zf5 l q=0)/\(¬ (zkr q l i).1<0->∃a b:Nat,∃f:a<l.length,∃g:b<l[a].Outer.length,zkr q l i=(((i+a:Nat):Int),(b:Int))/\l[a].Outer[b].Page=q)
 |[],i=>⟨by simp[zkr,zf5],λh=>absurd (show (-1:Int)<0 by decide) h⟩
 |x::l,i=>by have j:=zzW (q:=q) l (i+1);unfold zkr;split;{rename_i k c;obtain⟨m,n⟩:=zYQ c;refine⟨⟨λh=>by simp at h;omega,λh=>?_⟩,λ_=>⟨0,k,by simp,m,by simp,n⟩⟩;exfalso;simp only[zf5,jH,uR]at h;have d:x.Outer.countP (λs=>ieq s.Page q)=0:=(by unfold cPg at h;omega);rw[zGY.2 d]at c;cases c};{rename_i c;have d:=zGY.1 c;refine⟨?_,λh=>?_⟩;{rw [j.1];simp only[zf5,jH,uR];unfold cPg;omega};{obtain⟨a,b,f,g,e,p⟩:=j.2 h;exact⟨a+1,b,by simpa using f,by simpa using g,by rw[e];simp;omega,by simpa using p⟩}}
theorem zJE {h:Host}{q:Int}(a:0<=q):(zbV h q).1<0↔zf5 h.Mons q=0:=by unfold zbV;rw[show ilt q 0=false from qH (by omega),cond_false];exact(zzW h.Mons 0).1
theorem z7L {h:Host}(H:HOk h){q:Int}(j:0<=q)(c:¬ (zbV h q).1<0):hasB (zbV h q).1 (ln h.Mons)=true/\hasB (zbV h q).2 8=true/\(ix (ix h.Mons (zbV h q).1 mZ).Outer (zbV h q).2 sZ).Page=q:=by unfold zbV at c ⊢;rw[show ilt q 0=false from qH (by omega),cond_false]at c ⊢;obtain⟨a,b,d,f,e,g⟩:=(zzW h.Mons 0).2 c;rw[e,j8];have i:=(H.mons _<|jA d).o8;exact⟨zG.2 (by unfold ln;simp;omega),zG.2 (by simp;omega),by rw[zjt d,zjt f];exact g⟩
theorem zV4 {P:Nat->Bool}:∀{n i:Nat} {q:Int},q∈zxy P n i↔∃k:Nat,q=(k:Int)/\i<=k/\k<i+n/\P k=true
 | 0,i,q=>by simp[zxy];intro k _ _ _;omega
 |n+1,i,q=>by
  have d:=@zV4 P n (i+1) q;unfold zxy;constructor
  .intro h;cases c:P i with
   |true=>rw[c,cond_true,qG]at h;rcases h with h|h;{exact⟨i,h,by omega,by omega,c⟩};{obtain⟨k,a,f,g,b⟩:=d.1 h;exact⟨k,a,by omega,by omega,b⟩}
   |false=>rw[c,cond_false]at h;obtain⟨k,a,f,g,b⟩:=d.1 h;exact⟨k,a,by omega,by omega,b⟩
  {rintro⟨k,a,f,g,b⟩;by_cases e:k=i;{subst e;rw[b,cond_true,a];exact jC};{have:=d.2 ⟨k,a,by omega,by omega,b⟩;cases P i;{exact this};{exact qW _ this}}}
theorem zIc {h:Host}{q:Int}:q∈zcN h↔hasB q (ln h.Memory)=true/\zf5 h.Mons q=0:=by unfold zcN;rw[zV4];constructor;{rintro⟨k,rfl,b,c,d⟩;exact⟨zG.2 (by unfold ln;omega),(zJE (by omega)).1 (qD d)⟩};{rintro⟨b,c⟩;have a:=zG.1 b;unfold ln at a;refine⟨q.toNat,by omega,by omega,by omega,?_⟩;rw[show ((q.toNat:Nat):Int)=q by omega];exact qK ((zJE a.1).2 c)}
theorem z1L {h:Host}(a:zcN h≠[]):hasB (ix (zcN h) 0 0) (ln h.Memory)=true/\zf5 h.Mons (ix (zcN h) 0 0)=0:=by refine zIc.1 (znX (zG.2 ⟨by omega,?_⟩) 0);unfold ln;have:=kU.2 a;omega
structure But (h r:Host) (m p:Int):Prop where
 ne:∀i k,hasB i (ln h.Mons)=true->hasB k 8=true->¬ (i=m/\k=p)->ix (ix r.Mons i mZ).Outer k sZ=ix (ix h.Mons i mZ).Outer k sZ
theorem zHU {h r:Host}{m p:Int}(a:hasB m (ln h.Mons)=true)(j:hasB p 8=true){x:Mon}{s:Slot}(b:r.Mons=up h.Mons m x)(g:x.Outer=up (ix h.Mons m mZ).Outer p s):But h r m p:=by refine⟨λi k d f c=>?_⟩;rw[b];by_cases e:m=i;{subst e;rw[zbr a,g,zbI (zG.1 j).1 (zG.1 f).1 λe=>c ⟨rfl,e.symm⟩]};{rw [zbI (zG.1 a).1 (zG.1 d).1 e]}
theorem z5I {h:Host}(H:HOk h){m p:Int}(a:hasB m (ln h.Mons)=true)(c:hasB p 8=true):But h (zeS h m p) m p/\ix (ix (zeS h m p).Mons m mZ).Outer p sZ=noSlot:=by have b:(zeS h m p).Mons=up h.Mons m (zmk {ix h.Mons m mZ with Out:=up (ix h.Mons m mZ).Out p (zcZ h.Memory (ix (ix h.Mons m mZ).Outer p sZ).Page)} p noSlot):=zrt a rfl;refine⟨zHU a c b rfl,?_⟩;rw[b,zbr a];exact zbr ((H.mon a).hasO c) _ _
structure Roomy (h r:Host):Prop where
 op:Op h r
 free:zcN r≠[]
 sl:∀i k,hasB i (ln h.Mons)=true->hasB k 8=true->ix (ix r.Mons i mZ).Outer k sZ=ix (ix h.Mons i mZ).Outer k sZ\/ix (ix r.Mons i mZ).Outer k sZ=noSlot
 dirt:∀i,(ix r.Mons i mZ).Dirty=(ix h.Mons i mZ).Dirty
theorem zOn {h r:Host}{m:Int}(c:hasB m (ln h.Mons)=true){x:Mon}(a:r.Mons=up h.Mons m x)(b:x.Dirty=(ix h.Mons m mZ).Dirty)(i:Int):(ix r.Mons i mZ).Dirty=(ix h.Mons i mZ).Dirty:=by
 rw[a];by_cases e:i.toNat=m.toNat
 {have:∀l:List Mon,ix l i mZ=ix l m mZ:=λl=>(by unfold ix;rw[e]);rw[this,this,zbr c,b]};{unfold ix up;simp[List.getD,jI,Ne.symm e]}
theorem roomy {h:Host}(H:HOk h):Roomy h (zd2 h):=by unfold zd2;by_cases b:zcN h=[];{rw [show ieq (ln<|zcN h) 0=true by rw[b];rfl,cond_true];have p:¬ (zbV h 0).1<0:=λd=>(by have:(0:Int)∈zcN h:=zIc.2 ⟨zG.2 (by unfold ln;rw[H.m12];omega),(zJE (by omega)).1 d⟩;rw[b] at this;cases this);obtain⟨a,c,f⟩:=z7L H (by omega) p;have k:=z0y H a c (by rw[f];decide);have j:=z5I H a c;refine⟨k,λd=>?_,λi q g r=>?_,λi=>zOn (x:=zmk {ix h.Mons (zbV h 0).1 mZ with Out:=up (ix h.Mons (zbV h 0).1 mZ).Out (zbV h 0).2 (zcZ h.Memory (ix (ix h.Mons (zbV h 0).1 mZ).Outer (zbV h 0).2 sZ).Page)} (zbV h 0).2 noSlot) a (zrt a rfl) rfl i⟩;{have:(0:Int)∈zcN (zeS h (zbV h 0).1 (zbV h 0).2):=(by refine zIc.2 ⟨zG.2 (by unfold ln;rw[k.ok.m12];omega),?_⟩;have n:(zeS h (zbV h 0).1 (zbV h 0).2).Mons=up h.Mons (zbV h 0).1 (zmk {ix h.Mons (zbV h 0).1 mZ with Out:=up (ix h.Mons (zbV h 0).1 mZ).Out (zbV h 0).2 (zcZ h.Memory (ix (ix h.Mons (zbV h 0).1 mZ).Outer (zbV h 0).2 sZ).Page)} (zbV h 0).2 noSlot):=zrt a rfl;have l:=zy5 a (zmk {ix h.Mons (zbV h 0).1 mZ with Out:=up (ix h.Mons (zbV h 0).1 mZ).Out (zbV h 0).2 (zcZ h.Memory (ix (ix h.Mons (zbV h 0).1 mZ).Outer (zbV h 0).2 sZ).Page)} (zbV h 0).2 noSlot) 0;rw[<- n] at l;have m:=zVf (x':=zmk {ix h.Mons (zbV h 0).1 mZ with Out:=up (ix h.Mons (zbV h 0).1 mZ).Out (zbV h 0).2 (zcZ h.Memory (ix (ix h.Mons (zbV h 0).1 mZ).Outer (zbV h 0).2 sZ).Page)} (zbV h 0).2 noSlot) ((H.mon a).hasO c) (s:=noSlot) rfl 0;rw[if_pos f,if_neg (by decide)] at m;have t:=H.uq 0 (by omega);omega);rw[d] at this;cases this};{by_cases e:i=(zbV h 0).1/\q=(zbV h 0).2;{rw [e.1,e.2];exact .inr j.2};{exact .inl (j.1.ne i q g r e)}}};{have:ieq (ln<|zcN h) 0=false:=zcf.2 (by unfold ln;have:=kU.2 b;omega);rw[this,cond_false];exact⟨Op.refl H,b,λi k g u=>.inl rfl,λ_=>rfl⟩}
theorem zZ0 {m:List (List Int)}{p:Int}{c:List Int}(b:hasB p (ln m)=true)(a:zcT c=true):zk0 m p c=up m p c:=by unfold zk0;rw[b,a];rfl
theorem zDR {m:List (List Int)}{p q:Int}{c:List Int}(a:0<=p)(h:q≠p):zcZ (up m p c) q=zcZ m q:=by unfold zcZ;rw[ze0];cases b:hasB q (ln m) with|false=>rfl|true=>rw[cond_true,cond_true,zbI a (zG.1 b).1<|Ne.symm h]
theorem zDQ {m:List (List Int)}{p:Int}{c:List Int}(a:hasB p (ln m)=true):zcZ (up m p c) p=c:=by rw[znk (by rw[ze0];exact a),zbr a]
theorem z2k {h:Host}(H:HOk h){m p a:Int}(d:hasB m (ln h.Mons)=true)(f:hasB p 8=true)(z:(ix (ix h.Mons m mZ).Outer p sZ).Page = -1)(u:hasB a (ln h.Memory)=true)(B:zf5 h.Mons a=0) :
 Op h (zgz h m p a)/\But h (zgz h m p a) m p/\ix (ix (zgz h m p a).Mons m mZ).Outer p sZ=⟨a,3⟩/\∀i,(ix (zgz h m p a).Mons i mZ).Dirty=(ix h.Mons i mZ).Dirty:=by
 have X:=H.mon d;have g:=zG.1 u;unfold ln at g;rw[H.m12]at g;have l:(zgz h m p a).Mons=up h.Mons m (zmk {ix h.Mons m mZ with Out:=up (ix h.Mons m mZ).Out p []} p ⟨a,3⟩):=zrt d rfl;have k:Chg (ix h.Mons m mZ) (zmk {ix h.Mons m mZ with Out:=up (ix h.Mons m mZ).Out p []} p ⟨a,3⟩) p ⟨a,3⟩ []:=zCL rfl rfl rfl rfl rfl rfl rfl rfl rfl;have j:=((zrO<|X.slot f).1 (X.fit p f)).1 z;have b:(zgz h m p a).Memory=up h.Memory a (ix (ix h.Mons m mZ).Out p []):=by show (zcD (landing h m p a) m p ⟨a,3⟩).Memory=_;rw[zxI];exact zZ0 u j
 have A:SOk ⟨a,3⟩:=.inr ⟨g.1,by show a<=11;omega,by show (1:Int)<=3;omega,by show (3:Int)<=3;omega⟩
 have w:=zv1 (h:=landing h m p a) (m:=m) (p:=p) (s:=⟨a,3⟩) H.b1 H.b2;refine⟨⟨zxj H d f l k A ((zrO A).2 ⟨λh=>absurd h (by show a≠-1;omega),λ_=>⟨show enough 3 1=true by decide,rfl⟩⟩) (by rw[b,zb2];exact H.m12) (λc r=>?_) w.1 w.2 λ_=>.inr B,
  zwP H d f l k ?_ λi q y D r C=>?_,λR=>?_⟩,zHU d f l rfl,?_,λi=>zOn (x:=zmk {ix h.Mons m mZ with Out:=up (ix h.Mons m mZ).Out p []} p ⟨a,3⟩) d l rfl i⟩
 .rw [b]at r;rcases jD r with n|n
  .exact H.pgs c n
  .rw [n];exact j
 .rw [zp1 d f<|X.hasO f,zbC.2 z,cond_true,znk<|X.hasU f];rw[show ieq (⟨a,3⟩:Slot).Page (-1)=false from zcf.2 (by show a≠-1;omega),cond_false,b]
  exact zDQ u
 .rw [b];refine zDR g.1 (λe=>?_);have:=zHV y ((H.mon y).hasO D);rw[e] at this;omega
 .have R1:Rt (landing h m p a):=zNq (x:={ix h.Mons m mZ with Out:=up (ix h.Mons m mZ).Out p []}) R d rfl rfl rfl rfl (λ_ _=>rfl) rfl rfl;have t:hasB m (ln (landing h m p a).Mons)=true:=by show hasB m (ln<|up h.Mons m _)=true;rw[ze0];exact d
  have v:ix (landing h m p a).Mons m mZ={ix h.Mons m mZ with Out:=up (ix h.Mons m mZ).Out p []}:=zbr d _ _;exact zz5 R1 t (by rw[v];exact X.hasO f) (by rw[v];exact X.gt) _
 .rw [l,zbr d];exact zbr (X.hasO f) _ _
theorem zNg {h:Host}(H:HOk h){m p:Int}(f:hasB m (ln h.Mons)=true)(g:hasB p 8=true)(k:(ix (ix h.Mons m mZ).Outer p sZ).Page = -1) :
 Op h (fetched h m p)/\(∃e,0<=e/\e<=11/\ix (ix (fetched h m p).Mons m mZ).Outer p sZ=⟨e,3⟩)/\∀i,(ix (fetched h m p).Mons i mZ).Dirty=(ix h.Mons i mZ).Dirty:=by
 have R:=roomy H;have c:hasB m (ln (zd2 h).Mons)=true:=by rw[R.op.like.has];exact f
 have d:(ix (ix (zd2 h).Mons m mZ).Outer p sZ).Page = -1:=by rcases R.sl m p f g with b|b<;>rw [b];{exact k};{rfl}
 obtain⟨b,j⟩:=z1L R.free;obtain⟨l,r,n,q⟩:=z2k R.op.ok c g d b j;have a:=zG.1 b;unfold ln at a;rw[R.op.ok.m12]at a;exact⟨R.op.trans l,⟨_,a.1,by omega,n⟩,λi=>(q i).trans (R.dirt i)⟩
theorem zp4 {o:List Slot}{p:Int}(h:hasB p (ln o)=true):zbK o p=ix o p sZ:=by unfold zbK;rw[h];rfl
theorem znl {h:Host}(H:HOk h){m p:Int}(a:hasB m (ln h.Mons)=true)(b:hasB p 8=true) :
 (cond (ieq (ix (ix h.Mons m mZ).Outer p sZ).Page<|-1) (ix (ix h.Mons m mZ).Out p [])<|zcZ h.Memory (ix (ix h.Mons m mZ).Outer p sZ).Page)=zcl h m p:=by
 rw[zp1 a b<|(H.mon a).hasO b,znk<|(H.mon a).hasU b]
structure Mark (x y:Mon):Prop where
 o:y.Outer=x.Outer
 u:y.Out=x.Out
 g:y.Guests=x.Guests
 t:y.Tables=x.Tables
 d:y.Dirty.length=x.Dirty.length
 a1:y.Outs=x.Outs
 a2:y.Pending=x.Pending
 a3:y.Traps=x.Traps
 a4:y.Own=x.Own
theorem z0x {h:Host}(H:HOk h){m:Int}(b:hasB m (ln h.Mons)=true){y:Mon}(k:Mark (ix h.Mons m mZ) y):Op h {h with Mons:=up h.Mons m y}/\∀i q,ix (ix (up h.Mons m y) i mZ).Outer q sZ=ix (ix h.Mons i mZ).Outer q sZ:=by
 have X:=H.mon b;have a:hasB 0 8=true:=(by decide);have c:Chg (ix h.Mons m mZ) y 0 (ix (ix h.Mons m mZ).Outer 0 sZ) (ix (ix h.Mons m mZ).Out 0 []):=⟨by rw[zJX<|X.hasO a,k.o],by rw[zJX<|X.hasU a,k.u],k.g,by rw[k.t],k.d,k.a1,k.a2,k.a3,k.a4⟩
 refine⟨⟨zxj H b a rfl c (X.slot a) (X.fit 0 a) H.m12 H.pgs H.b1 H.b2 λ_=>.inl rfl,zwP H b a rfl c (znl H b a) λ_ _ _ _ _ _=>rfl,
  λR=>zNq R b rfl rfl rfl (by rw[k.g]) (λg _=>by rw[k.g]) k.t k.o⟩,λi q=>?_⟩
 by_cases e:i.toNat=m.toNat
 {have:∀l:List Mon,ix l i mZ=ix l m mZ:=λl=>(by unfold ix;rw[e]);rw[this,this,zbr b,k.o]};{have:ix (up h.Mons m y) i mZ=ix h.Mons i mZ:=(by unfold ix up;simp[List.getD,jI,Ne.symm e]);rw[this]}
theorem zNf {h:Host}(H:HOk h){m:Int}(a:hasB m (ln h.Mons)=true)(p:Int):Op h (zbO h m p)/\∀i q,ix (ix (zbO h m p).Mons i mZ).Outer q sZ=ix (ix h.Mons i mZ).Outer q sZ :=
 z0x H a ⟨rfl,rfl,rfl,rfl,zb2 _ _ _,rfl,rfl,rfl,rfl⟩
theorem z5g {h:Host}(H:HOk h){m:Int}(a:hasB m (ln h.Mons)=true)(p:Int):Op h (zow h m p)/\∀i q,ix (ix (zow h m p).Mons i mZ).Outer q sZ=ix (ix h.Mons i mZ).Outer q sZ :=
 z0x H a ⟨rfl,rfl,rfl,rfl,zb2 _ _ _,rfl,rfl,rfl,rfl⟩
theorem rights {r:Int}(a:1<=r)(b:r<=3):r=1\/r=2\/r=3:=by omega
theorem MOk.enough1 {x:Mon}(X:MOk x){p:Int}(a:hasB p 8=true)(d:(ix x.Outer p sZ).Page≠-1):(ix x.Outer p sZ).Rights=1\/(ix x.Outer p sZ).Rights=3:=by have b:=(((zrO<|X.slot a).1 (X.fit p a)).2 d).1;have c:=(X.slot a).pos d;rcases rights c.2.2.1 c.2.2.2 with e|e|e;{exact .inl e};{rw [e]at b;exact absurd b (by decide)};{exact .inr e}
theorem zSs {h:Host}(H:HOk h){m p:Int}(c:hasB m (ln h.Mons)=true)(b:hasB p 8=true)(g:(ix (ix h.Mons m mZ).Outer p sZ).Page≠-1){r:Int}(n:r=1\/r=3) :
 Op h (zcD h m p ⟨(ix (ix h.Mons m mZ).Outer p sZ).Page,r⟩)/\But h (zcD h m p ⟨(ix (ix h.Mons m mZ).Outer p sZ).Page,r⟩) m p/\
  ix (ix (zcD h m p ⟨(ix (ix h.Mons m mZ).Outer p sZ).Page,r⟩).Mons m mZ).Outer p sZ=⟨(ix (ix h.Mons m mZ).Outer p sZ).Page,r⟩/\∀i,(ix (zcD h m p ⟨(ix (ix h.Mons m mZ).Outer p sZ).Page,r⟩).Mons i mZ).Dirty=(ix h.Mons i mZ).Dirty:=by
 have X:=H.mon c;have d:=(X.slot b).pos g;have e:=zt1 h m p ⟨(ix (ix h.Mons m mZ).Outer p sZ).Page,r⟩;have k:Chg (ix h.Mons m mZ) (zmk (ix h.Mons m mZ) p ⟨(ix (ix h.Mons m mZ).Outer p sZ).Page,r⟩) p ⟨(ix (ix h.Mons m mZ).Outer p sZ).Page,r⟩ (ix (ix h.Mons m mZ).Out p []):=
  zCL rfl (zJX (X.hasU b) _).symm rfl rfl rfl rfl rfl rfl rfl
 have l:SOk ⟨(ix (ix h.Mons m mZ).Outer p sZ).Page,r⟩:=.inr ⟨d.1,d.2.1,by show 1<=r;omega,by show r<=3;omega⟩
 have f:=((zrO<|X.slot b).1 (X.fit p b)).2 g;have j:=zv1 (h:=h) (m:=m) (p:=p) (s:=⟨(ix (ix h.Mons m mZ).Outer p sZ).Page,r⟩) H.b1 H.b2;have a:=zxI h m p ⟨(ix (ix h.Mons m mZ).Outer p sZ).Page,r⟩;refine⟨⟨zxj H c b e k l ((zrO l).2 ⟨λh=>absurd h g,λ_=>⟨?_,f.2⟩⟩) (by rw[a];exact H.m12) (by rw[a];exact H.pgs) j.1 j.2 λ_=>.inl rfl,
  zwP H c b e k (by rw[a];exact znl H c b) (λi q _ _ _ _=>by rw[a]),λR=>zz5 R c (X.hasO b) X.gt _⟩,zHU c b e rfl,?_,λi=>zOn c e rfl i⟩
 .show enough r 1=true
  rcases n with rfl|rfl<;>decide
 .rw [e,zbr c];exact zbr (X.hasO b) _ _
structure Mended (h r:Host) (m p n:Int):Prop where
 op:Op h r
 inn:(ix (ix r.Mons m mZ).Outer p sZ).Page≠-1
 ri:ieq (wand .i64 n 2) 0=false->(ix (ix r.Mons m mZ).Outer p sZ).Rights=3
 dt:ieq (wand .i64 n 2) 0=false->ix (ix r.Mons m mZ).Dirty p false=true
 d0:ieq (wand .i64 n 2) 0=true->(ix r.Mons m mZ).Dirty=(ix h.Mons m mZ).Dirty
 dk:∀k,hasB k 8=true->k≠p->ix (ix r.Mons m mZ).Dirty k false=ix (ix h.Mons m mZ).Dirty k false
 dm:∀i,hasB i (ln h.Mons)=true->i≠m->(ix r.Mons i mZ).Dirty=(ix h.Mons i mZ).Dirty
theorem zXa {h:Host}(H:HOk h){m p:Int}(n:Int)(c:hasB m (ln h.Mons)=true)(g:hasB p 8=true)(v:(ix (ix h.Mons m mZ).Outer p sZ).Page≠-1):Mended h (zl6 h m p n) m p n:=by
 unfold zl6;cases s:ieq (wand .i64 n 2) 0 with
 |true=>exact⟨Op.refl H,v,λe=>Bool.noConfusion<|s.symm.trans e,λe=>Bool.noConfusion<|s.symm.trans e,λ_=>rfl,λ_ _ _=>rfl,λ_ _ _=>rfl⟩
 |false=>rw[cond_false];obtain⟨f,C⟩:=zNf H c p;have d:hasB m (ln (zbO h m p).Mons)=true:=(by rw[f.like.has];exact c);have a:(ix (ix (zbO h m p).Mons m mZ).Outer p sZ).Page≠-1:=(by rw[C];exact v);have u:(ix (zbO h m p).Mons m mZ).Dirty=up (ix h.Mons m mZ).Dirty p true:=(by show (ix (up h.Mons m _) m mZ).Dirty=_;rw[zbr c]);have l:∀i,hasB i (ln h.Mons)=true->i≠m->(ix (zbO h m p).Mons i mZ).Dirty=(ix h.Mons i mZ).Dirty:=λi q b=>(by show (ix (up h.Mons m _) i mZ).Dirty=_;rw[zbI (zG.1 c).1 (zG.1 q).1<|Ne.symm b]);have A:=(f.ok.mon d).enough1 g a;have t:∀r:Host,(∀i,(ix r.Mons i mZ).Dirty=(ix (zbO h m p).Mons i mZ).Dirty)->Op (zbO h m p) r->(ix (ix r.Mons m mZ).Outer p sZ).Page≠-1->(ix (ix r.Mons m mZ).Outer p sZ).Rights=3->Mended h r m p n:=(by intro r j x y z;refine⟨f.trans x,y,λ_=>z,λ_=>?_,λe=>Bool.noConfusion<|s.symm.trans e,λk B b=>?_,λi q b=>by rw[j,l i q b]⟩;{rw [j,u,zbr<|(H.mon c).hasD g]};{rw [j,u,zbI (zG.1 g).1 (zG.1 B).1<|Ne.symm b]});unfold opened;rcases A with e|e;{rw [e,show ieq (wand .i64 1 2) 0=true by decide,cond_true];obtain⟨D,F,w,E⟩:=zSs f.ok d g a (r:=3) (.inr rfl);exact t _ E D (by rw[w];exact a) (by rw[w])};{rw [e,show ieq (wand .i64 3 2) 0=false by decide,cond_false];exact t _ (λ_=>rfl) (Op.refl f.ok) a e}
theorem zSr {h:Host}(H:HOk h){m p:Int}(n:Int)(c:hasB m (ln h.Mons)=true)(d:hasB p 8=true):Mended h (mended h m p n) m p n:=by unfold mended;by_cases e:(ix (ix h.Mons m mZ).Outer p sZ).Page = -1;{rw [zbC.2 e,cond_true];obtain⟨a,⟨q,r,s,l⟩,f⟩:=zNg H c d e;have K:=zXa a.ok n (by rw[a.like.has];exact c) d (by rw[l];show q≠-1;omega);exact⟨a.trans K.op,K.inn,K.ri,K.dt,λe=>by rw[K.d0 e,f],λk j b=>by rw[K.dk k j b,f],λi g b=>by rw[K.dm i (by rw[a.like.has];exact g) b,f]⟩};{rw [zcf.2 e,cond_false];exact zXa H n c d e}
theorem zqD {h:Host}{m p:Int}:zb5 h m p=true↔HOk h/\hasB m (ln h.Mons)=true/\hasB p 8=true:=by unfold zb5;rw[zcG,zcG,zlc]
theorem z2l {h:Host}(H:HOk h)(m p:Int):Op h (zn4 h m p):=by unfold zn4;cases a:zb5 h m p with|false=>exact Op.refl H|true=>obtain⟨_,b,c⟩:=zqD.1 a;rw[cond_true];unfold zjS;by_cases e:(ix (ix h.Mons m mZ).Outer p sZ).Page = -1;{rw [zbC.2 e];exact Op.refl H};{rw [zcf.2 e];exact z0y H b c e}
theorem z5f {h:Host}(H:HOk h)(m p:Int):Op h (zqE h m p):=by unfold zqE;cases a:zb5 h m p with|false=>exact Op.refl H|true=>obtain⟨_,b,c⟩:=zqD.1 a;rw[cond_true];unfold zjS;by_cases e:(ix (ix h.Mons m mZ).Outer p sZ).Page = -1;{rw [zbC.2 e];exact(zNg H b c e).1};{rw [zcf.2 e];exact Op.refl H}
theorem z5e {h:Host}(H:HOk h)(m p:Int):Op h (zqi h m p):=by unfold zqi;cases g:zb5 h m p with|false=>exact Op.refl H|true=>obtain⟨_,b,c⟩:=zqD.1 g;rw[cond_true];obtain⟨a,d⟩:=z5g H b p;(cases e:zc5 (ix (ix h.Mons m zh).Outer p zW) noSlot with|true=>exact a|false=>rw[cond_false];have i:(ix (ix h.Mons m mZ).Outer p sZ).Page≠-1:=λf=>ztt.1 e (((H.mon b).slot c).none f);have:=zSs a.ok (m:=m) (p:=p) (by rw[a.like.has];exact b) c (by rw[d];exact i) (r:=1) (.inl rfl);rw[d m p] at this;exact a.trans this.1)
structure KeepP (x y:Mon):Prop where
 o:y.Outer=x.Outer
 u:y.Out=x.Out
theorem zNj {h r:Host}{m:Int}(b:hasB m (ln h.Mons)=true){y:Mon}(c:r.Mons=up h.Mons m y)(a:r.Memory=h.Memory)(k:KeepP (ix h.Mons m mZ) y)(i q:Int):zcl r i q=zcl h i q:=by unfold zcl;rw[c,ze0,a];cases d:hasB i (ln h.Mons) with|false=>rfl|true=>by_cases e:m=i;{subst e;rw[zbr b,k.o,k.u]};{rw [zbI (zG.1 b).1 (zG.1 d).1 e]}
theorem zvW {h r:Host}{m:Int}(b:hasB m (ln h.Mons)=true){y:Mon}(c:r.Mons=up h.Mons m y)(a:r.Memory=h.Memory)(k:KeepP (ix h.Mons m mZ) y)(i:Int) :
 zB r i=bif ieq i m then ⟨(zB h i).Memory,y.Guests,y.Outs,y.Pending⟩ else zB h i:=by
 have f:zcU r i 8 0=zcU h i 8 0:=zsA 8 0 (λj _ _=>zNj b c a k i j);unfold zB;rw[f,c,ze0]
 by_cases e:i=m
 .subst e;rw[b,zbC.2 rfl,zbr b];rfl
 .rw [zcf.2 e,cond_false];cases d:hasB i (ln h.Mons) with
  |false=>rfl
  |true=>rw[zbI (zG.1 b).1 (zG.1 d).1<|Ne.symm e]
theorem znh {x y:Mon}(X:MOk x)(k:KeepP x y)(g:y.Guests.length=x.Guests.length)(t:y.Tables.length=x.Tables.length)(d:y.Dirty.length=x.Dirty.length)(o:y.Outs.length<=40)(p:zem y.Pending=true)(tr:zi y.Traps 0 3=true)(b:zi y.Own 0 1000000000=true)(a:∀g∈y.Guests,zex g=true):MOk y :=
 ⟨by rw[g];exact X.g1,by rw[g];exact X.g2,by rw[t,g];exact X.gt,by rw[k.o];exact X.o8,by rw[k.o];exact X.sl,by rw[k.u];exact X.u8,by rw[d];exact X.d8,o,p,tr,b,a,by rw[k.o,k.u];exact X.fit⟩
theorem zVR {h:Host}(H:HOk h){m:Int}(a:hasB m (ln h.Mons)=true){y:Mon}(k:KeepP (ix h.Mons m mZ) y)(b:MOk y):HOk {h with Mons:=up h.Mons m y} :=
 H.up a b rfl H.m12 H.pgs H.b1 H.b2 λq _=>.inl (by unfold cPg;rw[k.o];exact qT _)
theorem zxg {h:Host}(S:Safe h){m:Int}(a:hasB m (ln h.Mons)=true){y:Mon}(k:KeepP (ix h.Mons m mZ) y)(d:MOk y)(hg:y.Guests.length=(ix h.Mons m mZ).Guests.length)(c:∀g,hasB g (ln (ix h.Mons m mZ).Guests)=true->(ix y.Guests g gZ).Live=(ix (ix h.Mons m mZ).Guests g gZ).Live)(b:y.Tables=(ix h.Mons m mZ).Tables):Safe {h with Mons:=up h.Mons m y} :=
 ⟨zVR S.ok a k d,zNq S.rt a rfl rfl rfl hg c b k.o⟩
theorem zUn {h:Host}(S:Safe h)(m t:Int):Safe (zjN h m t)/\∀i,zB (zjN h m t) i=zB h i:=by
 unfold zjN;rw[zlc.2 S.ok,cond_true];cases a:hasB m (ln h.Mons) with
 |false=>exact⟨S,λ_=>rfl⟩
 |true=>
  cases b:zi t 0 3 with
  |false=>exact⟨S,λ_=>rfl⟩
  |true=>have X:=S.ok.mon a;have k:KeepP (ix h.Mons m mZ) {ix h.Mons m mZ with Traps:=t}:=⟨rfl,rfl⟩;refine⟨zxg S a k (znh X k rfl rfl rfl X.outs X.pend b X.own X.gs) rfl (λ_ _=>rfl) rfl,λi=>?_⟩;rw[cond_true,cond_true];refine(zvW (h:=h) (r:={h with Mons:=up h.Mons m {ix h.Mons m mZ with Traps:=t}}) a rfl rfl k i).trans ?_;by_cases e:i=m;{subst e;rw[zbC.2 rfl,cond_true];unfold zB;rw[a];rfl};{rw [zcf.2 e];rfl}
theorem zG1:∀(n i:Nat) (k:Kept),(zjb n i k).Known.length=k.Known.length/\(zjb n i k).Slots.length=k.Slots.length
 | 0,i,k=>⟨rfl,rfl⟩
 |n+1,i,k=>by have a:=zG1 n (i+1) (zcb k (i:Int));have b:=zm7 k (i:Int);exact⟨a.1.trans b.1,a.2.trans b.2⟩
theorem zLg:∀(n i:Nat) (k:Kept),k.Known.length=k.Slots.length->∀j,hasB j (ln k.Known)=true->
 ((i:Int)<=j/\j<((i+n:Nat):Int)->ix (zjb n i k).Known j false=false/\ix (zjb n i k).Slots j sZ=noSlot)/\
 (¬ ((i:Int)<=j/\j<((i+n:Nat):Int))->ix (zjb n i k).Known j false=ix k.Known j false/\ix (zjb n i k).Slots j sZ=ix k.Slots j sZ)
 | 0,i,k,_,j,_=>⟨λh=>by omega,λ_=>⟨rfl,rfl⟩⟩
 |n+1,i,k,g,j,f=>by have b:=zm7 k (i:Int);have d:=zxw (q:=(i:Int)) g f;have c:=zLg n (i+1) (zcb k (i:Int)) (by rw[b.1,b.2,g]) j (by unfold ln at f ⊢;rwa [b.1]);rw[zjb];by_cases a:((i+1:Nat):Int)<=j/\j<((i+1+n:Nat):Int);{exact⟨λ_=>c.1 a,λh=>absurd (by omega) h⟩};{rw [(c.2 a).1,(c.2 a).2,d.1,d.2];by_cases e:(i:Int)=j;{rw [zbC.2 e];exact⟨λ_=>⟨rfl,rfl⟩,λh=>absurd (by omega) h⟩};{rw [zcf.2 e];exact⟨λh=>absurd (by omega) a,λ_=>⟨rfl,rfl⟩⟩}}
theorem zTo {k:Kept}{a b:List Slot}(h:KOk k a b):KOk (ziE k) a b:=by have e:=zG1 k.Known.length 0 k;refine⟨e.1.trans h.l1,e.2.trans h.l2,λi f=>?_⟩;have c:hasB i (ln k.Known)=true:=(by unfold ln at f ⊢;rwa [h.l1]);have d:=zG.1 c;unfold ln at d;have:=(zLg k.Known.length 0 k (by rw[h.l1,h.l2]) i c).1 ⟨by omega,by omega⟩;unfold ziE;rw[this.1,this.2];rfl
theorem zK3:∀(n j:Nat) (l:List Kept),(zwk n j l).length=l.length
 | 0,_,_=>rfl
 |n+1,j,l=>by rw[zwk,zK3 n,zb2]
theorem zVj:∀(n j:Nat) (l:List Kept),j+n<=l.length->∀g,0<=g->ix (zwk n j l) g kZ=if (j:Int)<=g/\g<((j+n:Nat):Int) then ziE (ix l g kZ) else ix l g kZ
 | 0,j,l,_,g,hg=>by rw[if_neg (by omega)];rfl
 |n+1,j,l,a,g,hg=>by rw[zwk,zVj n (j+1) _ (by rw[zb2];omega) g hg];by_cases e:(j:Int)=g;{subst e;rw[if_neg (by omega),if_pos (by omega),zbr<|zG.2 ⟨by omega,by unfold ln;omega⟩]};{rw [zbI (by omega) hg e];by_cases h:((j+1:Nat):Int)<=g/\g<((j+1+n:Nat):Int);{rw [if_pos h,if_pos (by omega)]};{rw [if_neg h,if_neg (by omega)]}}
theorem zK2:∀(n i:Nat) (l:List Mon),(zoK n i l).length=l.length
 | 0,_,_=>rfl
 |n+1,i,l=>by rw[zoK,zK2 n,zb2]
theorem zRU:∀(n i:Nat) (l:List Mon),i+n<=l.length->∀m,0<=m->ix (zoK n i l) m mZ=if (i:Int)<=m/\m<((i+n:Nat):Int) then zsp (ix l m mZ) (ix l m mZ).Tables.length 0 else ix l m mZ
 | 0,i,l,_,m,a=>by rw[if_neg (by omega)];rfl
 |n+1,i,l,b,m,a=>by rw[zoK,zRU n (i+1) _ (by rw[zb2];omega) m a];by_cases e:(i:Int)=m;{subst e;rw[if_neg (by omega),if_pos (by omega),zbr<|zG.2 ⟨by omega,by unfold ln;omega⟩]};{rw [zbI (by omega) a e];by_cases h:((i+1:Nat):Int)<=m/\m<((i+1+n:Nat):Int);{rw [if_pos h,if_pos (by omega)]};{rw [if_neg h,if_neg (by omega)]}}
theorem z6A (h:Host){m:Int}(a:hasB m (ln h.Mons)=true):ix (cold h).Mons m mZ=zsp (ix h.Mons m mZ) (ix h.Mons m mZ).Tables.length 0:=by have:=zG.1 a;unfold ln at this;show ix (zoK h.Mons.length 0 h.Mons) m mZ=_;rw[zRU _ _ _ (by omega) m this.1,if_pos (by omega)]
theorem zyc (h:Host):(cold h).Mons.length=h.Mons.length:=zK2 _ _ _
theorem zHX (h:Host)(m:Int):hasB m (ln (cold h).Mons)=hasB m (ln h.Mons):=by unfold ln;rw[zyc]
theorem zbam {l a:List Mon}(d:a.length=l.length)(h:∀m,hasB m (ln l)=true->(ix a m mZ).Outer=(ix l m mZ).Outer)(q:Int):zf5 a q=zf5 l q:=by have:a.map (λx=>cPg x q)=l.map (λx=>cPg x q):=(by refine vT (by simp[d]) λk b c=>?_;simp only[k7]at b c;have:=h (k:Int) (zG.2 ⟨by omega,by unfold ln;omega⟩);rw[zjt b,zjt c] at this;simp[cPg,this]);unfold zf5;rw[this]
theorem zbbi {h:Host}(H:HOk h):Op h (cold h):=by have c:∀m,hasB m (ln h.Mons)=true->ix (cold h).Mons m mZ=zsp (ix h.Mons m mZ) (ix h.Mons m mZ).Tables.length 0:=λm a=>z6A h a;have n:∀i q,zcl (cold h) i q=zcl h i q:=(by intro i q;unfold zcl;rw[zHX];cases b:hasB i (ln h.Mons) with|false=>rfl|true=>rw[c i b];rfl);refine⟨⟨H.m12,H.pgs,by rw[zyc];exact H.n1,by rw[zyc];exact H.n3,rfl,rfl,λy s=>?_,λq r=>?_⟩,⟨zyc h,λi b=>by rw[c i b];rfl,λi b=>by rw[c i b];rfl,λi b=>by rw[c i b];rfl,λi b=>by rw[c i b];rfl,λi b=>by rw[c i b];rfl,λi k _ _=>n i k⟩,λR=>⟨λm a=>?_,λe j=>(by cases j),λe j=>(by cases j)⟩⟩;{obtain⟨m,a,rfl⟩:=zM6 s mZ;rw[zHX]at a;rw[c m a];have X:=H.mon a;have k:KeepP (ix h.Mons m mZ) (zsp (ix h.Mons m mZ) (ix h.Mons m mZ).Tables.length 0):=⟨rfl,rfl⟩;exact znh X k rfl (zK3 _ _ _) rfl X.outs X.pend X.tr X.own X.gs};{rw [zbam (l:=h.Mons) (zyc h) (λm a=>by rw[c m a];rfl)];exact H.uq q r};{rw [zHX]at a;rw[c m a];have X:=H.mon a;intro g hg;show KOk (ix (zwk (ix h.Mons m mZ).Tables.length 0 (ix h.Mons m mZ).Tables) g kZ) (ix (ix h.Mons m mZ).Guests g gZ).Live (ix h.Mons m mZ).Outer;have d:hasB g (ln (ix h.Mons m mZ).Guests)=true:=hg;have f:=zG.1 d;unfold ln at f;have p:=X.gt;rw[zVj _ _ _ (by omega) g f.1,if_pos (by omega)];exact zTo (R.t m a g d)}
theorem zXX {m g:Int}(c:zi m 0 2=true)(hg:zi g 0 1=true):zdI (zfa m g)=m/\zew (zfa m g)=g/\1<=zfa m g/\zfa m g<=6:=by have d:=zdu.1 c;have e:=zdu.1 hg;have a:m=0\/m=1\/m=2:=(by omega);have b:g=0\/g=1:=(by omega);rcases a with rfl|rfl|rfl<;>rcases b with rfl|rfl<;>decide
theorem HOk.tag {h:Host}(H:HOk h){m g:Int}(a:hasB m (ln h.Mons)=true)(hg:hasB g (ln (ix h.Mons m mZ).Guests)=true):zi m 0 2=true/\zi g 0 1=true:=by have b:=zG.1 a;have c:=zG.1 hg;have d:=H.n3;have e:=(H.mon a).g2;unfold ln at b c;exact⟨zdu.2 (by omega),zdu.2 (by omega)⟩
theorem zie {r:Int}:zes r=true↔r=0\/r=1\/r=2\/r=3:=by unfold zes ige ile;rw[qE,qX,qX];omega
theorem zs4 {a b:Int}(h:enough a b=true):zes a=true/\zes b=true:=by unfold enough at h;rw[zcG,zcG]at h;exact⟨h.1,h.2.1⟩
theorem zVF {a b c:Int}(d:enough a b=true)(e:enough b c=true):enough a c=true:=by have f:=zie.1 (zs4 d).1;have g:=zie.1 (zs4 d).2;have h:=zie.1 (zs4 e).2;rcases f with rfl|rfl|rfl|rfl<;>rcases g with rfl|rfl|rfl|rfl<;>rcases h with rfl|rfl|rfl|rfl<;>revert d e<;>decide
theorem zYH {a b n:Int}(g:n=1\/n=2)(c:enough a n=true)(d:enough b n=true):zfv a b≠0/\enough (zfv a b) n=true:=by have e:=zie.1 (zs4 c).1;have f:=zie.1 (zs4 d).1;rcases g with rfl|rfl<;>rcases e with rfl|rfl|rfl|rfl<;>rcases f with rfl|rfl|rfl|rfl<;>revert c d<;>decide
theorem both_ok (a b:Int):zes (zfv a b)=true:=by
 unfold zfv;cases c:zes a with
 |false=>rfl
 |true=>
  cases d:zes b with
  |false=>rfl
  |true=>have c:=zie.1 c;have d:=zie.1 d;rcases c with rfl|rfl|rfl|rfl<;>rcases d with rfl|rfl|rfl|rfl<;>decide
theorem zYO {a:Int}(h:zes a=true):enough a a=true:=by rcases zie.1 h with rfl|rfl|rfl|rfl<;>decide
theorem zss {n:Int}(a:n=1\/n=2):enough 0 n=false:=by rcases a with rfl|rfl<;>decide
theorem z1g {s:Slot}{o:List Slot}(a:s.Page≠-1)(b:(zbK o s.Page).Page≠-1):zbD s o=bif ieq (zfv s.Rights (zbK o s.Page).Rights) 0 then noSlot else ⟨(zbK o s.Page).Page,zfv s.Rights (zbK o s.Page).Rights⟩:=by unfold zbD;rw[zcf.2 a,zcf.2 b];rfl
theorem zrL {s:Slot}{o:List Slot}{n:Int}(c:n=1\/n=2)(h:enough (zbD s o).Rights n=true):s.Page≠-1/\(zbK o s.Page).Page≠-1/\(zbD s o).Page=(zbK o s.Page).Page:=by unfold zbD at h ⊢;by_cases a:s.Page = -1;{rw [zbC.2 a,cond_true]at h;rw[show noSlot.Rights=0 from rfl,zss c]at h;cases h};{rw [zcf.2 a,cond_false]at h ⊢;by_cases b:(zbK o s.Page).Page = -1;{rw [zbC.2 b,cond_true]at h;rw[show noSlot.Rights=0 from rfl,zss c]at h;cases h};{rw [zcf.2 b,cond_false]at h ⊢;by_cases d:zfv s.Rights (zbK o s.Page).Rights=0;{rw [zbC.2 d,cond_true]at h;rw[show noSlot.Rights=0 from rfl,zss c]at h;cases h};{rw [zcf.2 d];exact⟨a,b,rfl⟩}}}
theorem zVk {s:Slot}{o:List Slot}{n:Int}(e:n=1\/n=2)(a:s.Page≠-1)(b:(zbK o s.Page).Page≠-1)(c:enough s.Rights n=true)(d:enough (zbK o s.Page).Rights n=true) :
 (zbD s o).Page=(zbK o s.Page).Page/\enough (zbD s o).Rights n=true:=by
 have:=zYH e c d;rw[z1g a b,zcf.2 this.1];exact⟨rfl,this.2⟩
theorem z1h (s:Slot)(o:List Slot):zes (zbD s o).Rights=true:=by unfold zbD;cases ieq s.Page (-1)<;>cases ieq (zbK o s.Page).Page (-1)<;>cases ieq (zfv s.Rights (zbK o s.Page).Rights) 0<;>first|rfl|exact both_ok _ _
theorem zzx {b:List Entry}{t p:Int}{e:Entry}:e∈zdk b t p↔e∈b/\¬ (e.Tag=t/\e.Page=p):=by unfold zdk;rw[List.mem_filter];refine and_congr Iff.rfl ?_;unfold ztk;by_cases h:e.Tag=t;{rw [show ine e.Tag t=false by simp[ine,h],cond_false,zED];simp[h]};{rw [zED.2 h];simp[h]}
theorem z7T {b:List Entry}{e x:Entry}(h:x∈ztP b e):x∈b\/x=e:=by unfold ztP ap at h;have:x∈zdk b e.Tag e.Page++[e]:=(by cases a:igt (ln<|zdk b e.Tag e.Page++[e]) 6 with|true=>rw[a,cond_true]at h;exact kQ h|false=>rw[a,cond_false]at h;exact h);rcases jP.1 this with h|h;{exact .inl (zzx.1 h).1};{exact .inr (qF.1 h)}
theorem zbdw {n:Nat}(h:n<=100):wsub .i64 (n:Int) 6=(n:Int)-6:=by unfold wsub IntKind.wrap;simp[IntKind.signed,IntKind.bits];omega
theorem z0a {b:List Entry}(h:zg3 b=true)(e:Entry):zg3 (ztP b e)=true:=by have c:=zEq.1 h;have k:(zdk b e.Tag e.Page).length<=6:=jB (uM _ _) c.2;have d:(zdk b e.Tag e.Page++[e]).Pairwise (λy x=>sameKey x y=false):=(by rw[List.pairwise_append];refine⟨c.1.sublist List.filter_sublist,List.pairwise_singleton _ _,λx i y j=>?_⟩;rw[qF.1 j];have:=(zzx.1 i).2;unfold sameKey;by_cases a:e.Tag=x.Tag;{rw [zbC.2 a,cond_true,zcf];exact λf=>this ⟨a.symm,f.symm⟩};{rw [zcf.2 a];rfl});unfold ztP ap;cases g:igt (ln<|zdk b e.Tag e.Page++[e]) 6 with|true=>rw[cond_true,zEq];refine⟨d.sublist<|List.drop_sublist _ _,?_⟩;unfold dp ln;rw[kN,k6,zbdw (by omega),List.length_drop,kN,k6];omega|false=>rw[cond_false,zEq];refine⟨d,?_⟩;have:=qY g;unfold ln at this;omega
theorem z4P {h r:Host}{m:Int}(c:hasB m (ln h.Mons)=true){y:Mon}(b:r.Mons=up h.Mons m y)(a:r.Memory=h.Memory)(k:KeepP (ix h.Mons m mZ) y)(g:y.Guests=(ix h.Mons m mZ).Guests)(o:y.Outs=(ix h.Mons m mZ).Outs)(p:y.Pending=(ix h.Mons m mZ).Pending)(t:y.Traps=(ix h.Mons m mZ).Traps)(w:y.Own=(ix h.Mons m mZ).Own):Like h r:=by have e:∀{d:Type} (F:Mon->d),F y=F (ix h.Mons m mZ)->∀i,hasB i (ln h.Mons)=true->F (ix r.Mons i mZ)=F (ix h.Mons i mZ):=(by intro d F f i j;rw[b];by_cases e:m=i;{subst e;rw[zbr c];exact f};{rw [zbI (zG.1 c).1 (zG.1 j).1 e]});exact⟨by rw[b,zb2],e Mon.Guests g,e Mon.Outs o,e Mon.Pending p,e Mon.Traps t,e Mon.Own w,λi q _ _=>zNj c b a k i q⟩
theorem z7V {h:Host}(R:Rt h){m g:Int}(d:hasB m (ln h.Mons)=true)(r:hasB g (ln (ix h.Mons m mZ).Tables)=true){k:Kept}(u:KOk k (ix (ix h.Mons m mZ).Guests g gZ).Live (ix h.Mons m mZ).Outer) :
 Rt {h with Mons:=up h.Mons m {ix h.Mons m mZ with Tables:=up (ix h.Mons m mZ).Tables g k}}:=by
 have f:∀e,zcY h e=true->zcY {h with Mons:=up h.Mons m {ix h.Mons m mZ with Tables:=up (ix h.Mons m mZ).Tables g k}} e=true:=by intro e b;obtain⟨l,n,p⟩:=zhk.1 b;rw[zhk];show hasB (zdI e.Tag) (ln<|up h.Mons m _)=true/\hasB (zew e.Tag) (ln (ix (up h.Mons m _) (zdI e.Tag) mZ).Guests)=true/\below' _ (zbD (zbK (ix (ix (up h.Mons m _) (zdI e.Tag) mZ).Guests (zew e.Tag) gZ).Live e.Page) (ix (up h.Mons m _) (zdI e.Tag) mZ).Outer)=true;rw[ze0];refine⟨l,?_⟩;by_cases a:m=zdI e.Tag;{rw [<- a]at l n p ⊢;rw[zbr d];exact⟨n,p⟩};{rw [zbI (zG.1 d).1 (zG.1 l).1 a];exact⟨n,p⟩}
 refine⟨λi s=>?_,λe b=>f e (R.e1 e b),λe b=>f e (R.e2 e b)⟩
 show TOk (ix (up h.Mons m _) i mZ)
 have c:hasB i (ln h.Mons)=true:=by have:hasB i (ln<|up h.Mons m {ix h.Mons m mZ with Tables:=up (ix h.Mons m mZ).Tables g k})=true:=s;rwa [ze0] at this
 by_cases a:m=i
 .subst a;rw[zbr d];intro j q
  by_cases e:g=j
  .subst e
   show KOk (ix (up _ g k) g kZ) _ _
   rw[zbr r];exact u
  .show KOk (ix (up _ g k) j kZ) _ _
   rw[zbI (zG.1 r).1 (zG.1 q).1 e];exact R.t m d j q
 .rw [zbI (zG.1 d).1 (zG.1 c).1 a];exact R.t i c
theorem z7I {h:Host}(H:HOk h){m g:Int}(a:hasB m (ln h.Mons)=true)(c:hasB g (ln (ix h.Mons m mZ).Tables)=true){k:Kept}(b:Rt h->KOk k (ix (ix h.Mons m mZ).Guests g gZ).Live (ix h.Mons m mZ).Outer) :
 Op h {h with Mons:=up h.Mons m {ix h.Mons m mZ with Tables:=up (ix h.Mons m mZ).Tables g k}}:=by
 have X:=H.mon a;have kp:KeepP (ix h.Mons m mZ) {ix h.Mons m mZ with Tables:=up (ix h.Mons m mZ).Tables g k}:=⟨rfl,rfl⟩;exact⟨zVR H a kp (znh X kp rfl (zb2 _ _ _) rfl X.outs X.pend X.tr X.own X.gs),z4P (y:={ix h.Mons m mZ with Tables:=up (ix h.Mons m mZ).Tables g k}) a rfl rfl kp rfl rfl rfl rfl rfl,λR=>z7V R a c (b R)⟩
theorem zMw {k:Kept}{a b:List Slot}(h:KOk k a b)(p:Int):KOk (filled k a b p) a b:=by unfold filled zeg;cases d:hasB p (ln k.Known) with|false=>exact h|true=>have f:hasB p (ln k.Slots)=true:=(by unfold ln at d ⊢;rw[h.l2,<- h.l1];exact d);have g:hasB p (ln a)=true:=(by unfold ln at d ⊢;rw[<- h.l1];exact d);rw[cond_true,f,cond_true,g,cond_true];refine⟨by rw[zb2];exact h.l1,by rw[zb2];exact h.l2,λi c=>?_⟩;by_cases e:p=i;{subst e;show ix (up _ p _) p sZ=bif ix (up _ p true) p false then _ else _;rw[zbr f,zbr d];rfl};{show ix (up _ p _) i sZ=bif ix (up _ p true) i false then _ else _;rw[zbI (zG.1 f).1 (zG.1 c).1 e,zbI (zG.1 f).1 (zG.1 c).1 e];exact h.at' i c}
theorem zbbj {h:Host}(H:HOk h){m g:Int}(b:hasB m (ln h.Mons)=true)(hg:hasB g (ln (ix h.Mons m mZ).Guests)=true)(a:Int):Op h (zcQ h m g a):=
 z7I H b (by unfold ln;rw[(H.mon b).gt];exact hg) λR=>zMw (R.t m b g hg) a
theorem z3l {k:Kept}{a b:List Slot}(h:KOk k a b){p:Int}(c:hasB p (ln a)=true):zeX k p=bif ix k.Known p false then zbD (ix a p sZ) b else noSlot:=by have d:hasB p (ln k.Known)=true:=(by unfold ln at c ⊢;rw[h.l1];exact c);have e:hasB p (ln k.Slots)=true:=(by unfold ln at c ⊢;rw[h.l2];exact c);unfold zeX zmq zeg;rw[d,e,cond_true,cond_true,h.at' p c];cases ix k.Known p false<;>rfl
theorem z08 {k:Kept}{a b:List Slot}(h:KOk k a b){p:Int}(c:hasB p (ln a)=true):zeX (filled k a b p) p=zbD (ix a p sZ) b:=by rw[z3l (zMw h p) c];have d:hasB p (ln k.Known)=true:=(by unfold ln at c ⊢;rw[h.l1];exact c);have e:hasB p (ln k.Slots)=true:=(by unfold ln at c ⊢;rw[h.l2];exact c);have:ix (filled k a b p).Known p false=true:=(by unfold filled zeg;rw[d,e,c];exact zbr d _ _);rw[this];rfl
theorem zbcB {h:Host}(H:HOk h){m g a:Int}(i:Bool)(n:Rt h->zcY h (zUJ h m g a)=true):Op h (zwW h m g a i):=by have f:∀(j k:List Entry),Like h ⟨h.Memory,h.Mons,j,k⟩:=λ_ _=>⟨rfl,λ_ _=>rfl,λ_ _=>rfl,λ_ _=>rfl,λ_ _=>rfl,λ_ _=>rfl,λ_ _ _ _=>rfl⟩;have d:∀(b:List Entry),(∀e∈b,zcY h e=true)->Rt h->∀e∈ztP b (zUJ h m g a),zcY h e=true:=(by intro b l R e c;rcases z7T c with c|c;{exact l e c};{rw [c];exact n R});unfold zwW;cases i;{exact⟨⟨H.m12,H.pgs,H.n1,H.n3,z0a H.b1 _,H.b2,H.mons,H.uq⟩,f _ _,λR=>⟨R.t,λe c=>d _ R.e1 R e c,R.e2⟩⟩};{exact⟨⟨H.m12,H.pgs,H.n1,H.n3,H.b1,z0a H.b2 _,H.mons,H.uq⟩,f _ _,λR=>⟨R.t,R.e1,λe c=>d _ R.e2 R e c⟩⟩}
theorem z7g {b:List Entry}{t p:Int}{e:Entry}(h:zzv b t p=some e):e∈b/\e.Tag=t/\e.Page=p:=by unfold zzv at h;have a:=List.find?_some h;rw[zcG,zbC,zbC]at a;exact⟨uT h,a⟩
theorem zmp {h:Host}{m g:Int}:zb8 h m g=true↔HOk h/\hasB m (ln h.Mons)=true/\hasB g (ln (ix h.Mons m mZ).Guests)=true:=by unfold zb8;rw[zcG,zcG,zlc]
structure GOk (x:Guest):Prop where
 prog:zen x.Prog=true
 a:zi x.A 0 99=true
 pc:zi x.Pc 0 12=true
 w:zds x.Written 4 8=true
 l:zds x.Live 4 8=true
 ctl:znO x.Ctl=true
 pend:zem x.Pending=true
 ex:zkl x.Exit=true
 seen:ile (ln x.Seen) 40=true
theorem zuL {x:Guest}:zex x=true↔GOk x:=by unfold zex;simp only[qE];exact⟨λ⟨a,b,c,d,e,f,g,h,i⟩=>⟨a,b,c,d,e,f,g,h,i⟩,λ⟨a,b,c,d,e,f,g,h,i⟩=>⟨a,b,c,d,e,f,g,h,i⟩⟩
theorem z5N {s:Slot}:zeT s 8=true↔s=noSlot\/(0<=s.Page/\s.Page<=7/\1<=s.Rights/\s.Rights<=3):=by unfold zeT;rw[zu5,zmj,ztt];have:wsub .i64 8 1=7:=(by decide);simp only[this,zu5,zdu];simp[igt];constructor;{rintro (h|⟨h,⟨a,b⟩,c⟩);{exact .inl h};{exact .inr ⟨a,b,c⟩}};{intro h;by_cases d:s=noSlot;{exact .inl d};{rcases h with h|⟨a,b,c⟩;{exact .inl h};{exact .inr ⟨d,⟨a,b⟩,c⟩}}}
theorem HOk.guest {h:Host}(H:HOk h){m g:Int}(a:hasB m (ln h.Mons)=true)(hg:hasB g (ln (ix h.Mons m mZ).Guests)=true):GOk (ix (ix h.Mons m mZ).Guests g gZ):=zuL.1 ((H.mon a).gs _ (znX hg _))
structure Walked (l:List Slot) (p n q:Int):Prop where
 hp:hasB p (ln l)=true
 pg:(ix l p sZ).Page=q
 q8:hasB q 8=true
 en:enough (ix l p sZ).Rights n=true
theorem walked {x:Guest}(X:GOk x){p n:Int}(a:zfK x.Live p n=true):Walked x.Live p n (zcx x.Live p n):=by have e:zcx x.Live p n=(zbK x.Live p).Page:=(by unfold zcx;rw[a];rfl);unfold zfK at a;by_cases b:(zbK x.Live p).Page = -1;{rw [zbC.2 b]at a;cases a};{rw [zcf.2 b,cond_false,zcG]at a;have c:hasB p (ln x.Live)=true:=(by cases c:hasB p (ln x.Live) with|true=>rfl|false=>exact absurd (by unfold zbK;rw[c];rfl) b);rw[zp4 c] at e b a;rw[e];have d:=z5N.1 ((zsV.1 X.l).1 _ (znX c sZ));refine⟨c,rfl,?_,a.1⟩;rcases d with d|d;{rw [d]at b;exact absurd rfl b};{exact zG.2 (by omega)}}
structure Looked (h r:Host) (m g page need q host:Int):Prop where
 op:Op h r
 inn:(ix (ix r.Mons m mZ).Outer q sZ).Page=host
 ne:host≠-1
 en:enough (zbD (ix (ix (ix h.Mons m mZ).Guests g gZ).Live page sZ) (ix r.Mons m mZ).Outer).Rights need=true
 cp:(zbD (ix (ix (ix h.Mons m mZ).Guests g gZ).Live page sZ) (ix r.Mons m mZ).Outer).Page=host
 dk:∀k,hasB k 8=true->k≠q->ix (ix r.Mons m mZ).Dirty k false=ix (ix h.Mons m mZ).Dirty k false
 dq:need=2->ix (ix r.Mons m mZ).Dirty q false=true
 d1:need=1->(ix r.Mons m mZ).Dirty=(ix h.Mons m mZ).Dirty
 dm:∀i,hasB i (ln h.Mons)=true->i≠m->(ix r.Mons i mZ).Dirty=(ix h.Mons i mZ).Dirty
theorem zSi {h:Host}(S:Safe h){m g a b q:Int}(f:hasB m (ln h.Mons)=true)(hg:hasB g (ln (ix h.Mons m mZ).Guests)=true)(l:b=1\/b=2)(W:Walked (ix (ix h.Mons m mZ).Guests g gZ).Live a b q)(c:Bool)(d:zeX (zcp h m g) a=zbD (ix (ix (ix h.Mons m mZ).Guests g gZ).Live a sZ) (ix h.Mons m mZ).Outer)(i:enough (zeX (zcp h m g) a).Rights b=true) :
 Op h (zfU h m g a c).1/\(zfU h m g a c).2=((ix (ix h.Mons m mZ).Outer q sZ).Page,true)/\(ix (ix h.Mons m mZ).Outer q sZ).Page≠-1/\(zfU h m g a c).1.Mons=h.Mons:=by
 rw[d]at i;have e:=zrL l i;rw[W.pg,zp4<|(S.ok.mon f).hasO W.q8]at e;refine⟨zbcB S.ok c λR=>?_,?_,e.2.1,?_⟩
 .obtain⟨t1,t2⟩:=S.ok.tag f hg;obtain⟨j,k,_⟩:=zXX t1 t2;rw[zhk]
  show hasB (zdI<|zfa m g) _=true/\hasB (zew<|zfa m g) (ln (ix h.Mons (zdI<|zfa m g) mZ).Guests)=true/\below' ⟨(zeX (zcp h m g) a).Page,(zeX (zcp h m g) a).Rights⟩ (zbD (zbK (ix (ix h.Mons (zdI<|zfa m g) mZ).Guests (zew<|zfa m g) gZ).Live a) (ix h.Mons (zdI<|zfa m g) mZ).Outer)=true
  rw[j,k,zp4 W.hp,d];exact⟨f,hg,zsY.2<|.inr ⟨rfl,zYO<|z1h _ _⟩⟩
 .show ((zeX (zcp h m g) a).Page,true)=_
  rw[d,e.2.2]
 .show (zwW h m g a c).Mons=_
  unfold zwW;cases c<;>rfl
theorem zWX {h:Host}(S:Safe h){m g page need q:Int}(x:hasB m (ln h.Mons)=true)(hg:hasB g (ln (ix h.Mons m mZ).Guests)=true)(D:need=1\/need=2)(W:Walked (ix (ix h.Mons m mZ).Guests g gZ).Live page need q)(N:Bool){b:List Entry}(hb:∀e∈b,zcY h e=true)(hd:need=2->ix (ix h.Mons m mZ).Dirty q false=true) :
 Looked h (zhQ h b m g page need q N).1 m g page need q (zhQ h b m g page need q N).2.1/\(zhQ h b m g page need q N).2.2=true:=by
 have X:=S.ok.mon x;have r:=W.q8;have L:=zp4 (X.hasO W.q8);unfold zhQ;cases K:zj3 b m g page need with
 |true=>
  rw[cond_true];unfold zj3 at K;cases B:zs7 b m g page with
  |none=>rw[B]at K;cases K
  |some e=>rw[B]at K;have A:enough e.Rights need=true:=K;obtain⟨f1,f2,f3⟩:=z7g B;obtain⟨t1,t2⟩:=S.ok.tag x hg;obtain⟨b1,b2,_⟩:=zXX t1 t2;obtain⟨_,_,v⟩:=zhk.1 (hb e f1);rw[f2,b1,b2,f3,zp4 W.hp]at v;have T:(⟨e.Host,e.Rights⟩:Slot)≠noSlot:=λf=>(by have:e.Rights=0:=congrArg Slot.Rights f;rw[this,zss D]at A;cases A);rcases zsY.1 v with v|⟨v,h4⟩;{exact absurd v T};{have h5:=zVF h4 A;have f:=zrL D h5;rw[W.pg,L]at f;have O:e.Host=_:=v;refine⟨⟨Op.refl S.ok,f.2.2.symm.trans v.symm,?_,h5,v.symm,λ_ _ _=>rfl,hd,λ_=>rfl,λ_ _ _=>rfl⟩,rfl⟩;show e.Host≠-1;rw[O,f.2.2];exact f.2.1}
 |false=>
  rw[cond_false];have P:=S.rt.t m x g hg;cases y:zfJ h m g page need with
  |false=>rw[cond_false];have E:ix (zcp h m g).Known page false=true/\enough (zeX (zcp h m g) page).Rights need=true:=(by unfold zfJ at y;cases n:zmq (zcp h m g) page with|false=>rw[n]at y;cases y|true=>rw[n,cond_true]at y;refine⟨?_,?_⟩;{unfold zmq at n;cases hh:zeg (zcp h m g) page with|false=>rw[hh]at n;cases n|true=>rw[hh]at n;exact n};{cases hz:ieq (zeX (zcp h m g) page).Page (-1) with|true=>rw[hz]at y;cases y|false=>rw[hz]at y;simpa using y});have H:zeX (zcp h m g) page=zbD (ix (ix (ix h.Mons m mZ).Guests g gZ).Live page sZ) (ix h.Mons m mZ).Outer:=(by have Z:=z3l P W.hp;have h1:ix (ix (ix h.Mons m mZ).Tables g kZ).Known page false=true:=E.1;rw[h1]at Z;exact Z);obtain⟨U,V,Y,d⟩:=zSi S x hg D W N H E.2;rw[V];have J:=E.2;rw[H]at J;have f:=zrL D J;rw[W.pg,L]at f;exact⟨⟨U,by rw[d],Y,by rw[d];exact J,by rw[d];exact f.2.2,λ_ _ _=>by rw[d],λe=>by rw[d];exact hd e,λ_=>by rw[d],λ_ _ _=>by rw[d]⟩,rfl⟩
  |true=>
   rw[cond_true];have M:=zSr S.ok (m:=m) (p:=q) need x r;have c:hasB m (ln (mended h m q need).Mons)=true:=(by rw[M.op.like.has];exact x);have C:(ix (mended h m q need).Mons m mZ).Guests=(ix h.Mons m mZ).Guests:=M.op.like.g m x;have l:hasB g (ln (ix (mended h m q need).Mons m mZ).Guests)=true:=(by rw[C];exact hg);have G:Safe (mended h m q need):=M.op.safe S;have F:=zbbj G.ok c l page;have S2:Safe (zcQ (mended h m q need) m g page):=F.safe G;have R:hasB m (ln (zcQ (mended h m q need) m g page).Mons)=true:=(by rw[F.like.has];exact c);have u:ix (zcQ (mended h m q need) m g page).Mons m mZ={ix (mended h m q need).Mons m mZ with Tables:=up (ix (mended h m q need).Mons m mZ).Tables g (filled (zcp (mended h m q need) m g) (zcP (mended h m q need) m g) (ix (mended h m q need).Mons m mZ).Outer page)}:=zbr c _ _;have Q:hasB g (ln (ix (zcQ (mended h m q need) m g page).Mons m mZ).Guests)=true:=(by rw[u];exact l);have w:(ix (zcQ (mended h m q need) m g page).Mons m mZ).Guests=(ix h.Mons m mZ).Guests:=(by rw[u];exact C);have W2:Walked (ix (ix (zcQ (mended h m q need) m g page).Mons m mZ).Guests g gZ).Live page need q:=(by rw[w];exact W);have H:zeX (zcp (zcQ (mended h m q need) m g page) m g) page=zbD (ix (ix (ix (zcQ (mended h m q need) m g page).Mons m mZ).Guests g gZ).Live page sZ) (ix (zcQ (mended h m q need) m g page).Mons m mZ).Outer:=(by have:zcp (zcQ (mended h m q need) m g page) m g=filled (zcp (mended h m q need) m g) (zcP (mended h m q need) m g) (ix (mended h m q need).Mons m mZ).Outer page:=(by unfold zcp;rw[u];exact zbr (by unfold ln;rw[(G.ok.mon c).gt];exact l) _ _);rw[this];refine(z08 (p:=page) (G.rt.t m c g l) (by rw[C];exact W.hp)).trans ?_;rw[u]);have z:(ix (zcQ (mended h m q need) m g page).Mons m mZ).Outer=(ix (mended h m q need).Mons m mZ).Outer:=by rw[u]
   have j:=zp4 ((G.ok.mon c).hasO r);have a:=zVk (s:=ix (ix (ix h.Mons m mZ).Guests g gZ).Live page sZ) (o:=(ix (mended h m q need).Mons m mZ).Outer) D (by rw[W.pg];have:=zG.1 r;omega) (by rw[W.pg,j];exact M.inn) W.en (by
    rw[W.pg,j];rcases D with rfl|rfl
    .rcases (G.ok.mon c).enough1 r M.inn with e|e<;>rw [e]<;>decide
    .rw [M.ri (by decide)];decide)
   have J:enough (zeX (zcp (zcQ (mended h m q need) m g page) m g) page).Rights need=true:=(by rw[H,w,z];exact a.2);obtain⟨U,V,Y,d⟩:=zSi S2 R Q D W2 N H J;rw[V];have I:=a.1;rw[W.pg,j]at I;refine⟨⟨(M.op.trans F).trans U,by rw[d],Y,by rw[d,z];exact a.2,by rw[d,z];exact I,λk n f=>?_,λe=>?_,λe=>?_,λi hi f=>?_⟩,rfl⟩;{rw [d,u];exact M.dk k n f};{rw [d,u];exact M.dt (by rw[e];decide)};{rw [d,u];exact M.d0 (by rw[e];decide)};{rw [d];show (ix (up (mended h m q need).Mons m _) i mZ).Dirty=_;rw[zbI (zG.1 x).1 (zG.1 hi).1<|Ne.symm f];exact M.dm i hi f}
theorem zHd {n:Int}:zhw n=true↔n=1\/n=2:=by unfold zhw;by_cases h:n=1;{rw [zbC.2 h];simp[h]};{rw [zcf.2 h,cond_false,zbC];simp[h]}
theorem zsy {h:Host}{m g page need:Int}:zbZ h m g page need=true↔zb8 h m g=true/\(need=1\/need=2)/\zfK (zcP h m g) page need=true:=by unfold zbZ;rw[zcG,zcG,zHd]
theorem zSj {h:Host}(S:Safe h){m g page need:Int}(j:Bool)(t:zbZ h m g page need=true){b:List Entry}(r:∀e∈b,zcY h e=true) :
 Looked h (lookOf h b m g page need j).1 m g page need (zcx (zcP h m g) page need) (lookOf h b m g page need j).2.1/\(lookOf h b m g page need j).2.2=true:=by
 obtain⟨w,A,B⟩:=zsy.1 t;obtain⟨_,a,hg⟩:=zmp.1 w;have W:=walked (S.ok.guest a hg) B;unfold lookOf;rw[t,cond_true];rcases A with rfl|rfl
 .rw [show ieq 1 2=false by decide,cond_false]
  exact zWX S a hg (.inl rfl) W j r (λe=>absurd e (by decide))
 .rw [show ieq 2 2=true by decide,cond_true]
  obtain⟨d,C⟩:=zNf S.ok a (zcx (zcP h m g) page 2);have p:hasB m (ln (zbO h m<|zcx (zcP h m g) page 2).Mons)=true:=by rw[d.like.has];exact a
  have f:ix (zbO h m<|zcx (zcP h m g) page 2).Mons m mZ={ix h.Mons m mZ with Dirty:=up (ix h.Mons m mZ).Dirty (zcx (zcP h m g) page 2) true}:=zbr a _ _;have x:=(S.ok.mon a).hasD W.q8;obtain⟨L,y⟩:=zWX (d.safe S) p (g:=g) (page:=page) (need:=2) (q:=zcx (zcP h m g) page 2) (by rw[f];exact hg) (.inr rfl) (by rw[f];exact W) j (b:=b) (λe z=>by
   obtain⟨l,u,v⟩:=zhk.1 (r e z);rw[zhk];have n:hasB (zdI e.Tag) (ln (zbO h m<|zcx (zcP h m g) page 2).Mons)=true:=by rw[d.like.has];exact l
   refine⟨n,by rw[d.like.g _ l];exact u,?_⟩
   rw[d.like.g _ l];have:(ix (zbO h m<|zcx (zcP h m g) page 2).Mons (zdI e.Tag) mZ).Outer=(ix h.Mons (zdI e.Tag) mZ).Outer:=by show (ix (up h.Mons m _) _ mZ).Outer=_;by_cases c:m=zdI e.Tag;{rw [<- c,zbr a]};{rw [zbI (zG.1 a).1 (zG.1 l).1 c]}
   rw[this];exact v) (λ_=>by rw[f];exact zbr x _ _)
  refine⟨⟨d.trans L.op,L.inn,L.ne,?_,?_,λk s c=>?_,L.dq,λe=>absurd e (by decide),λi n c=>?_⟩,y⟩
  .have:=L.en;rw[f] at this;exact this
  .have:=L.cp;rw[f] at this;exact this
  .rw [L.dk k s c,f];exact zbI (zG.1 W.q8).1 (zG.1 s).1 (Ne.symm c) _ _
  .rw [L.dm i (by rw[d.like.has];exact n) c]
   show (ix (up h.Mons m _) i mZ).Dirty=_
   rw[zbI (zG.1 a).1 (zG.1 n).1<|Ne.symm c]
theorem zRl {x y:Int}(a : -9223372036854775808<=x+y)(b:x+y<=9223372036854775807):zN .i64 x y=x+y:=by unfold zN;simp only[IntKind.wrap,IntKind.signed,IntKind.bits];simp;omega
theorem zLb {n:Nat}{P:Int->Prop}(h:∀i:Fin n,P ((i.val:Nat):Int)){x:Int}(a:0<=x)(b:x<n):P x:=by have:=h ⟨x.toNat,by omega⟩;simpa [show ((x.toNat:Nat):Int)=x by omega] using this
theorem zXo {p:Int}:zem p=true↔0<=p/\p<=255:=by unfold zem;exact zdu
theorem zSz {p:Int}(h:zem p=true):zem (zhD p)=true:=by have a:=zXo.1 h;exact zLb (n:=256) (P:=λx=>zem (zhD x)=true) (by decide +kernel) a.1 (by omega)
theorem zSy {p:Int}(h:zem p=true)(n:Int):zem (zqF p n)=true:=by unfold zqF zid;rw[h,cond_true];cases e:zi n 0 7 with|false=>exact h|true=>rw[cond_true];have b:=zXo.1 h;have a:=zdu.1 e;exact zLb (n:=256) (P:=λx=>∀k,0<=k->k<(8:Int)->zem (wor .i64 x<|zmK .i64 1 k)=true) (λi k c d=>zLb (n:=8) (P:=λk=>zem (wor .i64 ((i.val:Nat):Int)<|zmK .i64 1 k)=true) (by revert i;decide +kernel) c d) b.1 (by omega) n a.1 (by omega)
structure GKeep (x y:Guest):Prop where
 ok:GOk y
 live:y.Live=x.Live
theorem z1N {x:Guest}(X:GOk x){c:Int}(b:zi c 0 12=true):GOk {x with Pc:=c}:=⟨X.prog,X.a,b,X.w,X.l,X.ctl,X.pend,X.ex,X.seen⟩
theorem z1M {x:Guest}(X:GOk x){c:Int}(a:zi c 0 99=true):GOk {x with A:=c}:=⟨X.prog,a,X.pc,X.w,X.l,X.ctl,X.pend,X.ex,X.seen⟩
theorem zlX {x:Guest}(X:GOk x):GKeep x (zcg x):=by unfold zcg;have a:=zdu.1 X.pc;cases h:ige x.Pc 12 with|true=>exact⟨z1N X (by decide),rfl⟩|false=>have:¬ x.Pc≥12:=qY h;refine⟨z1N X ?_,rfl⟩;rw[zRl (by omega) (by omega)];exact zdu.2 (by omega)
theorem zVL {x:Guest}(X:GOk x)(n:Int):GKeep x (saw x n):=by unfold saw;cases h:ilt (ln x.Seen) 40 with|false=>exact⟨X,rfl⟩|true=>have:ln x.Seen<40:=qD h;refine⟨⟨X.prog,X.a,X.pc,X.w,X.l,X.ctl,X.pend,X.ex,qK ?_⟩,rfl⟩;unfold ln ap at *;simp;omega
theorem zlY {x:Guest}(X:GOk x){e:GExit}(b:zkl e=true):GKeep x (stopped x e):=⟨⟨X.prog,X.a,X.pc,X.w,X.l,X.ctl,X.pend,b,X.seen⟩,rfl⟩
theorem z0n {x:Guest}(X:GOk x){p:Int}(b:zem p=true):GKeep x {x with Pending:=p}:=⟨⟨X.prog,X.a,X.pc,X.w,X.l,X.ctl,b,X.ex,X.seen⟩,rfl⟩
theorem z0k {x:Guest}(X:GOk x)(b:Bool):GKeep x {x with Halted:=b}:=⟨⟨X.prog,X.a,X.pc,X.w,X.l,X.ctl,X.pend,X.ex,X.seen⟩,rfl⟩
theorem z0l {x:Guest}(X:GOk x):GKeep x (held x):=⟨(zlX (z0k X true).ok).ok,(zlX (z0k X true).ok).live⟩
theorem z4w {x:Guest}(X:GOk x){v:Int}(c:zi v 0 99=true):GKeep x (loaded x v):=by have a:=zVL (z1M X c) v;have b:=zlX a.ok;exact⟨b.ok,b.live.trans a.live⟩
theorem zOr {x:Guest}(X:GOk x):GKeep x (interrupted x):=by unfold interrupted;cases zkZ x with|false=>exact⟨X,rfl⟩|true=>have a:=z0n X (zSz X.pend);rw[cond_true];exact⟨(zVL a.ok _).ok,(zVL a.ok _).live⟩
theorem zJH {p:List Ins}(h:zen p=true)(i:Int):zfT (zcF p i)=true:=by unfold zcF;cases a:hasB i (ln p) with|false=>rfl|true=>unfold zen at h;rw[zcG,qL]at h;exact h.1 _ (znX a _)
theorem zbct {i:Ins}(h:zfT i=true)(a:i.Op=3\/i.Op=4):0<=i.X/\i.X<=15:=by unfold zfT at h;rcases a with e|e<;>rw [e]at h<;>exact zdu.1 h
theorem z4B {i:Ins}(h:zfT i=true)(a:i.Op=5\/i.Op=6):0<=i.X/\i.X<=99:=by unfold zfT at h;rcases a with e|e<;>rw [e]at h<;>exact zdu.1 h
theorem zbdh {i:Ins}(h:zfT i=true)(a:i.Op=8):0<=i.X/\i.X<=11:=by unfold zfT at h;rw[a]at h;exact zdu.1 h
theorem zbdg {i:Ins}(h:zfT i=true)(a:i.Op=1):0<=i.X/\i.X<=99:=by unfold zfT at h;rw[a]at h;exact zdu.1 h
theorem z1O {x:Guest}(X:GOk x):GKeep x (plainly x):=by have M:=zlX X;have b:=zJH X.prog x.Pc;unfold plainly;cases ine (zL x) 2 with|true=>exact⟨X,rfl⟩|false=>rw[cond_false];(cases zi x.A 0 99 with|false=>exact M|true=>rw[cond_true];(cases zi (zcF x.Prog x.Pc).X 0 99 with|false=>exact M|true=>rw[cond_true];by_cases c:(zcF x.Prog x.Pc).Op=1;{rw [zbC.2 c,cond_true];exact⟨z1M M.ok<|zdu.2<|zbdg b c,M.live⟩};{rw [zcf.2 c,cond_false];by_cases d:(zcF x.Prog x.Pc).Op=2;{rw [zbC.2 d,cond_true];refine⟨z1M M.ok ?_,M.live⟩;have f:=zdu.1 X.a;have i:0<=(zcF x.Prog x.Pc).X/\(zcF x.Prog x.Pc).X<=99:=(by unfold zfT at b;rw[d]at b;exact zdu.1 b);rw[zdu];unfold zoF;rw[zRl (by omega) (by omega)];have g:=Int.tmod_nonneg (a:=x.A+(zcF x.Prog x.Pc).X) 100 (by omega);have h:=Int.tmod_lt_of_pos (x.A+(zcF x.Prog x.Pc).X) (show (0:Int)<100 by omega);omega};{rw [zcf.2 d,cond_false];by_cases e:(zcF x.Prog x.Pc).Op=8;{rw [zbC.2 e,cond_true];cases ieq x.A 0 with|true=>have:=zbdh b e;exact⟨z1N M.ok<|zdu.2 (by omega),M.live⟩|false=>exact M};{rw [zcf.2 e];exact M}}}))
theorem zuu {c:List Int}:zcT c=true↔(∀x∈c,zi x 0 99=true)/\ln c=4:=by unfold zcT;rw[zcG,qL,zbC]
theorem zoR (h:Host)(m:Int):∀(n i:Nat),(zcU h m n i).length=n
 | 0,_=>rfl
 |n+1,i=>by rw[zcU,qU,zoR h m n]
theorem zNk (h:Host)(m:Int):∀(n i k:Nat) (a:k<(zcU h m n i).length),(zcU h m n i)[k]=zcl h m ((i+k:Nat):Int)
 | 0,i,k,a=>by simp[zcU]at a
 |n+1,i,k,a=>by cases k with|zero=>rfl|succ k=>have:=zNk h m n (i+1) k (by simpa [zcU] using a);simp only[zcU,List.getElem_cons_succ];rw[this];congr 1;omega
theorem zr2 {h:Host}{m q:Int}(b:hasB q 8=true)(d:List Int):ix (zcU h m 8 0) q d=zcl h m q:=by have c:=zG.1 b;have a:q.toNat<(zcU h m 8 0).length:=(by rw[zoR];omega);have:=zjt a d;rw[show ((q.toNat:Nat):Int)=q by omega] at this;rw[this,zNk];congr 1;omega
theorem zvD (h:Host)(m:Int):ln (zcU h m 8 0)=8:=by unfold ln;rw[zoR];rfl
theorem zzY {h:Host}(H:HOk h){m p:Int}(b:hasB m (ln h.Mons)=true)(a:hasB p 8=true):zcT (zcl h m p)=true:=by have X:=H.mon b;rw[<- znl H b a];by_cases e:(ix (ix h.Mons m mZ).Outer p sZ).Page = -1;{rw [zbC.2 e];exact((zrO<|X.slot a).1 (X.fit p a)).1 e};{rw [zcf.2 e];exact zSw H.pgs _}
theorem zy4 {h:Host}(H:HOk h){m:Int}(b:hasB m (ln h.Mons)=true):zbW (zB h m)=true:=by have X:=H.mon b;unfold zB;rw[b,cond_true];unfold zbW zkq;rw[zcG,qL];refine⟨X.gs,?_⟩;simp only[qE,zcG,qL,zbC,zdu];refine⟨⟨λc d=>?_,zvD h m⟩,⟨?_,?_⟩,?_,X.pend⟩;{obtain⟨i,a,rfl⟩:=zM6 d [];rw[zvD]at a;rw[zr2 a];exact zzY H b a};{unfold ln;have:=X.g1;omega};{unfold ln;have:=X.g2;omega};{unfold ile ln;have:=X.outs;exact qK (by omega)}
structure SimT (h r:Host) (m:Int) (f:Bare->Bare):Prop where
 safe:Safe r
 seen:∀i,zB r i=bif ieq i m then f (zB h i) else zB h i
 len:r.Mons.length=h.Mons.length
theorem SimT.trans {a b c:Host}{m:Int}{f g:Bare->Bare}(x:SimT a b m f)(y:SimT b c m g):SimT a c m (λt=>g (f t)):=by refine⟨y.safe,λi=>?_,y.len.trans x.len⟩;rw[y.seen i,x.seen i];cases ieq i m<;>rfl
theorem Op.sim {h r:Host}(k:Op h r)(S:Safe h)(m:Int):SimT h r m id:=⟨k.safe S,λi=>by rw[k.like.seen i];cases ieq i m<;>rfl,k.like.len⟩
theorem SimT.congr {h r:Host}{m:Int}{f g:Bare->Bare}(x:SimT h r m f)(e:f (zB h m)=g (zB h m)):SimT h r m g:=by refine⟨x.safe,λi=>?_,x.len⟩;rw[x.seen i];by_cases a:i=m;{subst a;rw[zbC.2 rfl,cond_true,cond_true,e]};{rw [zcf.2 a];rfl}
theorem SimT.has {h r:Host}{m:Int}{f:Bare->Bare}(x:SimT h r m f)(i:Int):hasB i (ln r.Mons)=hasB i (ln h.Mons):=by unfold ln;rw[x.len]
theorem SimT.refl {h:Host}(S:Safe h)(m:Int):SimT h h m id:=⟨S,λi=>by cases ieq i m<;>rfl,rfl⟩
theorem zxh {h:Host}(S:Safe h){m q a:Int}(l:hasB m (ln h.Mons)=true)(f:hasB q 8=true)(J:(ix (ix h.Mons m mZ).Outer q sZ).Page=a)(y:a≠-1)(c v:Int) :
 SimT h {h with Memory:=zbU h.Memory a c v} m (λb=>{b with Memory:=zbU b.Memory q c v})/\cellAt h.Memory a c=cellAt (zB h m).Memory q c:=by
 have H:=S.ok;have X:=H.mon l;have N:=X.slot f;have E:=hasM H N (by rw[J];exact y)
 rw[J]at E;have z:ix h.Memory a []=zcl h m q:=by have:=znl H l f;rw[J,zcf.2 y,cond_false,znk E] at this;exact this
 have n:ln (zcl h m q)=4:=(zuu.1<|zzY H l f).2;have d:(zB h m).Memory=zcU h m 8 0:=by unfold zB;rw[l];rfl
 have C:zhv h.Memory a c=hasB c 4:=by unfold zhv;rw[E,cond_true,z,n]
 have D:zhv (zcU h m 8 0) q c=hasB c 4:=by unfold zhv;rw[zvD,f,cond_true,zr2 f,n]
 have u:cellAt h.Memory a c=cellAt (zB h m).Memory q c:=by rw[d];unfold cellAt;rw[C,D,z,zr2 f]
 refine⟨?_,u⟩;cases A:hasB c 4 with
 |false=>have s:zbU h.Memory a c v=h.Memory:=(by unfold zbU;rw[C,A];rfl);rw[s];refine(SimT.refl S m).congr ?_;show zB h m={zB h m with Memory:=zbU (zB h m).Memory q c v};rw[d];have B:zbU (zcU h m 8 0) q c v=zcU h m 8 0:=(by unfold zbU;rw[D,A];rfl);rw[B,<- d]
 |true=>
  cases K:zi v 0 99 with
  |false=>have s:zbU h.Memory a c v=h.Memory:=(by unfold zbU;rw[C,A,K];rfl);rw[s];refine(SimT.refl S m).congr ?_;show zB h m={zB h m with Memory:=zbU (zB h m).Memory q c v};rw[d];have B:zbU (zcU h m 8 0) q c v=zcU h m 8 0:=(by unfold zbU;rw[D,A,K];rfl);rw[B,<- d]
  |true=>have s:zbU h.Memory a c v=up h.Memory a (up (zcl h m q) c v):=(by unfold zbU;rw[C,A,K,z];rfl);have B:zbU (zcU h m 8 0) q c v=up (zcU h m 8 0) q (up (zcl h m q) c v):=(by unfold zbU;rw[D,A,K,zr2 f];rfl);have G:zcT (up (zcl h m q) c v)=true:=(by have:=zuu.1 (zzY H l f);rw[zuu,ze0];refine⟨λx O=>?_,this.2⟩;rcases jD O with h|h;{exact this.1 x h};{rw [h];exact K});have P:=(zG.1 E).1;have L:HOk {h with Memory:=zbU h.Memory a c v}:=(by rw[s];refine⟨by show (up _ _ _).length=12;rw[zb2];exact H.m12,λx O=>?_,H.n1,H.n3,H.b1,H.b2,H.mons,H.uq⟩;rcases jD O with h|h;{exact H.pgs x h};{rw [h];exact G});refine⟨⟨L,⟨S.rt.t,S.rt.e1,S.rt.e2⟩⟩,λi=>?_,rfl⟩;have r:∀i k,hasB i (ln h.Mons)=true->hasB k 8=true->¬ (i=m/\k=q)->zcl {h with Memory:=zbU h.Memory a c v} i k=zcl h i k:=(by intro i k w g I;rw[<- znl L (m:=i) (p:=k) w g,<- znl H w g];show (cond (ieq (ix (ix h.Mons i mZ).Outer k sZ).Page<|-1) _<|zcZ (zbU h.Memory a c v) _)=_;by_cases e:(ix (ix h.Mons i mZ).Outer k sZ).Page = -1;{rw [zbC.2 e];rfl};{rw [zcf.2 e,cond_false,cond_false,s];exact zDR P (λe=>I (H.uniq w g l f e J P))});have F:zcl {h with Memory:=zbU h.Memory a c v} m q=up (zcl h m q) c v:=(by rw[<- znl L (m:=m) (p:=q) l f];show (cond (ieq (ix (ix h.Mons m mZ).Outer q sZ).Page<|-1) _<|zcZ (zbU h.Memory a c v) (ix (ix h.Mons m mZ).Outer q sZ).Page)=_;rw[J,zcf.2 y,cond_false,s];exact zDQ E);by_cases w:i=m;{subst w;rw[zbC.2 rfl,cond_true];unfold zB;show (cond (hasB i<|ln h.Mons) _ _)=_;rw[l,cond_true,cond_true];show Bare.mk (zcU {h with Memory:=zbU h.Memory a c v} i 8 0) _ _ _=Bare.mk (zbU (zcU h i 8 0) q c v) _ _ _;congr 1;rw[B];refine zQB [] (by rw[zb2,zoR,zoR]) λk g=>?_;rw[zvD]at g;rw[zr2 g];by_cases e:q=k;{subst e;rw[zbr (by rw[zvD];exact f),F]};{rw [zbI (zG.1 f).1 (zG.1 g).1 e,zr2 g];exact r i k l g (λh=>e h.2.symm)}};{rw [zcf.2 w,cond_false];unfold zB;show (cond (hasB i<|ln h.Mons) _ _)=_;cases M:hasB i (ln h.Mons) with|false=>rfl|true=>rw[cond_true,cond_true];show Bare.mk (zcU {h with Memory:=zbU h.Memory a c v} i 8 0) _ _ _=_;rw[zsA 8 0 λj C D=>r i (j:Int) M (zG.2 (by omega)) λh=>w h.1]}
theorem zsb {h:Host}(S:Safe h){m g:Int}(a:hasB m (ln h.Mons)=true)(hg:hasB g (ln (ix h.Mons m mZ).Guests)=true){y:Guest}(k:GKeep (gOf h m g) y):SimT h (zht h m g y) m (λb=>zev b g y):=by have X:=S.ok.mon a;have kp:KeepP (ix h.Mons m mZ) {ix h.Mons m mZ with Guests:=up (ix h.Mons m mZ).Guests g y}:=⟨rfl,rfl⟩;refine⟨zxg S a kp (znh X kp (zb2 _ _ _) rfl rfl X.outs X.pend X.tr X.own λz d=>?_) (zb2 _ _ _) (λj c=>?_) rfl,λi=>?_,zb2 _ _ _⟩;{rcases jD d with h|h;{exact X.gs z h};{rw [h];exact zuL.2 k.ok}};{show (ix (up (ix h.Mons m mZ).Guests g y) j gZ).Live=_;by_cases e:g=j;{subst e;rw[zbr hg];exact k.live};{rw [zbI (zG.1 hg).1 (zG.1 c).1 e]}};{refine(zvW (h:=h) (r:=zht h m g y) a rfl rfl kp i).trans ?_;by_cases e:i=m;{subst e;rw[zbC.2 rfl,cond_true,cond_true];unfold zev zB;rw[a];rfl};{rw [zcf.2 e];rfl}}
theorem zXG {h:Host}(S:Safe h){m:Int}(a:hasB m (ln h.Mons)=true){y:Mon}(kp:KeepP (ix h.Mons m mZ) y)(d:MOk y)(hg:y.Guests=(ix h.Mons m mZ).Guests)(c:y.Tables=(ix h.Mons m mZ).Tables) :
 SimT h {h with Mons:=up h.Mons m y} m (λb=>{b with Outs:=y.Outs,Pending:=y.Pending}):=by
 refine⟨zxg S a kp d (by rw[hg]) (λj _=>by rw[hg]) c,λi=>?_,zb2 _ _ _⟩
 refine(zvW (h:=h) (r:={h with Mons:=up h.Mons m y}) a rfl rfl kp i).trans ?_
 by_cases e:i=m
 .subst e;rw[zbC.2 rfl,cond_true,cond_true];unfold zB;rw[a,hg];rfl
 .rw [zcf.2 e];rfl
theorem zg1 {h:Host}{m:Int}(a:hasB m (ln h.Mons)=true):zB h m=⟨zcU h m 8 0,(ix h.Mons m mZ).Guests,(ix h.Mons m mZ).Outs,(ix h.Mons m mZ).Pending⟩:=by unfold zB;rw[a];rfl
theorem z5K {h:Host}(S:Safe h){m:Int}(a:hasB m (ln h.Mons)=true):SimT h (owned h m) m id:=by unfold owned;cases b:ilt (ix h.Mons m mZ).Own 1000000000 with|false=>exact SimT.refl S m|true=>rw[cond_true];have X:=S.ok.mon a;have d:=zdu.1 X.own;have c:(ix h.Mons m mZ).Own<1000000000:=qD b;have kp:KeepP (ix h.Mons m mZ) {ix h.Mons m mZ with Own:=zN .i64 (ix h.Mons m mZ).Own 1}:=⟨rfl,rfl⟩;refine(zXG S a kp (znh X kp rfl rfl rfl X.outs X.pend X.tr ?_ X.gs) rfl rfl).congr ?_;{show zi (zN .i64 (ix h.Mons m mZ).Own 1) 0 1000000000=true;rw[zRl (by omega) (by omega),zdu];omega};{rw [zg1 a];rfl}
theorem z2N {h:Host}(S:Safe h){m:Int}(a:hasB m (ln h.Mons)=true)(n:Int):SimT h (zjw h m n) m (λb=>zjz b n):=by unfold zjw;have X:=S.ok.mon a;cases c:ilt (ln (ix h.Mons m mZ).Outs) 40 with|false=>refine(SimT.refl S m).congr ?_;rw[zg1 a];unfold zjz;rw[c];rfl|true=>rw[cond_true];have d:ln (ix h.Mons m mZ).Outs<40:=qD c;have kp:KeepP (ix h.Mons m mZ) {ix h.Mons m mZ with Outs:=ap (ix h.Mons m mZ).Outs [n]}:=⟨rfl,rfl⟩;refine(zXG S a kp (znh X kp rfl rfl rfl ?_ X.pend X.tr X.own X.gs) rfl rfl).congr ?_;{show (ap (ix h.Mons m mZ).Outs [n]).length<=40;unfold ln ap at *;simp;omega};{rw [zg1 a];unfold zjz;rw[c];rfl}
theorem zvh {h:Host}{m g:Int}(a:hasB m (ln h.Mons)=true)(hg:hasB g (ln (ix h.Mons m mZ).Guests)=true):gAt (zB h m) g=gOf h m g:=by rw[zg1 a];unfold gAt;show (cond (hasB g<|ln (ix h.Mons m mZ).Guests) _ _)=_;rw[hg];rfl
theorem zRm {x:Guest}(h:zL x=3\/zL x=4\/zL x=5\/zL x=6):(zcF x.Prog x.Pc).Op=zL x:=by unfold zL at h ⊢;cases e:canRun x with|false=>simp[e]at h|true=>simp only[e,cond_true]at h ⊢;(cases f:zkZ x with|true=>simp[f]at h|false=>simp only[f,cond_false]at h ⊢;unfold zyC at h ⊢;by_cases a:(zcF x.Prog x.Pc).Op=3;{rw [a];rfl};{rw [zcf.2 a,cond_false]at h ⊢;by_cases b:(zcF x.Prog x.Pc).Op=4;{rw [b];rfl};{rw [zcf.2 b,cond_false]at h ⊢;by_cases c:(zcF x.Prog x.Pc).Op=5;{rw [c];rfl};{rw [zcf.2 c,cond_false]at h ⊢;by_cases d:(zcF x.Prog x.Pc).Op=6;{rw [d];rfl};{rw [zcf.2 d,cond_false]at h ⊢;cases g:ieq (zcF x.Prog x.Pc).Op 7<;>simp [g]at h}}}})
theorem zbah {x:Guest}(X:GOk x){w:Int}(a:zL x=w)(h:w=3\/w=4):0<=address x/\address x<=15:=by have e:address x=(zcF x.Prog x.Pc).X:=(by unfold address;rcases h with e|e;{rw [a,e];rfl};{rw [a,e];rfl});rw[e];exact zbct (zJH X.prog _) (by rw[zRm (by omega),a];exact h)
theorem zbai {a:Int}(b:0<=a)(c:a<=15):zi (zbp a) 0 3=true/\hasB (zee a) 4=true :=
 zLb (n:=16) (P:=λa=>zi (zbp a) 0 3=true/\hasB (zee a) 4=true) (by decide) b (by omega)
theorem z1D {p:Int}(h:zi p 0 3=true)(w:Bool):zkl (zs6 p w)=true:=by unfold zkl zs6;simp[ieq,h]
theorem z4n {n:Int}(h:zi n 0 99=true):zkl (zu7 n)=true:=by unfold zkl zu7;simp[ieq,h]
theorem z7f {n:Int}(h:zi n 0 99=true):zkl (zyD n)=true:=by unfold zkl zyD;simp[ieq,h]
theorem z7l {x:Guest}(X:GOk x)(t:Int){w:Int}(d:zL x=w):GKeep x (zgO x t w):=by have c:=zJH X.prog x.Pc;unfold zgO;by_cases b:w=6;{rw [zbC.2 b];exact zlY X (z4n<|zdu.2<|z4B c (by rw[zRm (by omega),d];omega))};{rw [zcf.2 b,cond_false];by_cases a:w=5;{rw [zbC.2 a];cases zey t 1 with|true=>exact zlY X (z7f<|zdu.2<|z4B c (by rw[zRm (by omega),d];omega))|false=>rw[a];exact zlX X};{rw [zcf.2 a];rw[Bool.false_and,cond_false];cases e:(ieq w 7&&zey t 2) with|true=>exact zlY X rfl|false=>rw[cond_false];cases ieq w 7;{exact zlX X};{exact z0l X}}}
theorem z0t {a:Type}(g:Int):hasB g (ln ([]:List a))=false:=by cases h:hasB g (ln ([]:List a)) with|false=>rfl|true=>have:=zG.1 h;simp[ln] at this;omega
theorem z6w {m:List (List Int)}(h:∀c∈m,zcT c=true)(p c:Int):zi (cellAt m p c) 0 99=true:=by unfold cellAt zhv;cases b:hasB p (ln m) with|false=>rfl|true=>rw[cond_true];(cases a:hasB c (ln<|ix m p []) with|false=>rfl|true=>rw[cond_true];exact(zuu.1<|h _<|znX b []).1 _ (znX a 0))
theorem HOk.seenG {h:Host}(H:HOk h){m g:Int}(a:hasB m (ln h.Mons)=true)(hg:hasB g (ln (ix h.Mons m mZ).Guests)=true):GOk (gOf h m g):=H.guest a hg
theorem zXU {h:Host}(S:Safe h){m g:Int}(i:hasB m (ln h.Mons)=true)(hg:hasB g (ln (ix h.Mons m mZ).Guests)=true)(w:Bool)(B:zL (gOf h m g)=bif w then 4 else 3) :
 SimT h (ziz (zjR h m g (gOf h m g) w) m g (gOf h m g) w) m (λb=>zkd b g (gOf h m g) w):=by
 have X:=S.ok.seenG i hg;have t:=zbah X B (by cases w<;>simp)
 have n:=zbai t.1 t.2;have z:zcq w=1\/zcq w=2:=by cases w<;>simp [zcq]
 unfold ziz zjR;cases k:zbZ h m g (zbp<|address<|gOf h m g) (zcq w) with
 |false=>have e:lookOf h h.Buffer m g (zbp<|address<|gOf h m g) (zcq w) false=(h,-1,false):=(by unfold lookOf;rw[k];rfl);have q:zfK (gOf h m g).Live (zbp<|address<|gOf h m g) (zcq w)=false:=(by cases y:zfK (gOf h m g).Live (zbp<|address<|gOf h m g) (zcq w) with|false=>rfl|true=>exact Bool.noConfusion (k.symm.trans<|zsy.2 ⟨zmp.2 ⟨S.ok,i,hg⟩,z,y⟩));rw[e];refine(zsb S i hg<|zlY X<|z1D n.1 w).congr ?_;unfold zkd;rw[q];rfl
 |true=>obtain⟨L,x⟩:=zSj S false k S.rt.e1;obtain⟨_,_,j⟩:=zsy.1 k;have c:zfK (gOf h m g).Live (zbp<|address<|gOf h m g) (zcq w)=true:=j;have W:=walked X j;rw[x,cond_true];have l:=L.op.safe S;have f:hasB m (ln (lookOf h h.Buffer m g (zbp<|address<|gOf h m g) (zcq w) false).1.Mons)=true:=(by rw[L.op.like.has];exact i);have a:=L.op.like.g m i;have C:hasB (zcx (zcP h m g) (zbp<|address<|gOf h m g)<|zcq w) 8=true:=W.q8;obtain⟨u,v⟩:=zxh l f C L.inn L.ne (zee<|address<|gOf h m g) (gOf h m g).A;rw[L.op.like.seen m] at v;cases w with|true=>rw[cond_true];have r:=L.op.sim S m;have p:hasB m (ln ({ (lookOf h h.Buffer m g (zbp<|address<|gOf h m g) (zcq true) false).1 with Memory:=zbU (lookOf h h.Buffer m g (zbp<|address<|gOf h m g) (zcq true) false).1.Memory (lookOf h h.Buffer m g (zbp<|address<|gOf h m g) (zcq true) false).2.1 (zee<|address<|gOf h m g) (gOf h m g).A}:Host).Mons)=true:=f;have d:hasB g (ln (ix ({ (lookOf h h.Buffer m g (zbp<|address<|gOf h m g) (zcq true) false).1 with Memory:=zbU (lookOf h h.Buffer m g (zbp<|address<|gOf h m g) (zcq true) false).1.Memory (lookOf h h.Buffer m g (zbp<|address<|gOf h m g) (zcq true) false).2.1 (zee<|address<|gOf h m g) (gOf h m g).A}:Host).Mons m mZ).Guests)=true:=(by show hasB g (ln (ix (lookOf h h.Buffer m g (zbp<|address<|gOf h m g) (zcq true) false).1.Mons m mZ).Guests)=true;rw[a];exact hg);have s:GKeep (gOf { (lookOf h h.Buffer m g (zbp<|address<|gOf h m g) (zcq true) false).1 with Memory:=zbU (lookOf h h.Buffer m g (zbp<|address<|gOf h m g) (zcq true) false).1.Memory (lookOf h h.Buffer m g (zbp<|address<|gOf h m g) (zcq true) false).2.1 (zee<|address<|gOf h m g) (gOf h m g).A} m g) (zcg<|gOf h m g):=(by have:gOf { (lookOf h h.Buffer m g (zbp<|address<|gOf h m g) (zcq true) false).1 with Memory:=zbU (lookOf h h.Buffer m g (zbp<|address<|gOf h m g) (zcq true) false).1.Memory (lookOf h h.Buffer m g (zbp<|address<|gOf h m g) (zcq true) false).2.1 (zee<|address<|gOf h m g) (gOf h m g).A} m g=gOf h m g:=(by show ix (ix (lookOf h h.Buffer m g (zbp<|address<|gOf h m g) (zcq true) false).1.Mons m mZ).Guests g gZ=_;rw[a];rfl);rw[this];exact zlX X);refine((r.trans u).trans (zsb u.safe p d s)).congr ?_;unfold zkd;rw[c];rfl|false=>rw[cond_false];have r:=L.op.sim S m;have d:hasB g (ln (ix (lookOf h h.Buffer m g (zbp<|address<|gOf h m g) (zcq false) false).1.Mons m mZ).Guests)=true:=(by rw[a];exact hg);have s:GKeep (gOf (lookOf h h.Buffer m g (zbp<|address<|gOf h m g) (zcq false) false).1 m g) (loaded (gOf h m g)<|cellAt (lookOf h h.Buffer m g (zbp<|address<|gOf h m g) (zcq false) false).1.Memory (lookOf h h.Buffer m g (zbp<|address<|gOf h m g) (zcq false) false).2.1<|zee<|address<|gOf h m g):=(by have:gOf (lookOf h h.Buffer m g (zbp<|address<|gOf h m g) (zcq false) false).1 m g=gOf h m g:=(by show ix (ix (lookOf h h.Buffer m g (zbp<|address<|gOf h m g) (zcq false) false).1.Mons m mZ).Guests g gZ=_;rw[a];rfl);rw[this];exact z4w X (z6w l.ok.pgs _ _));refine(r.trans<|zsb l f d s).congr ?_;unfold zkd;rw[c,v];rfl
theorem z7k {h r:Host}{m g:Int}(e:(ix r.Mons m mZ).Guests=(ix h.Mons m mZ).Guests):gOf r m g=gOf h m g:=by unfold gOf;rw[e]
theorem zbbk (h:Host)(m:Int)(a:hasB m (ln h.Mons)=true):(ix (owned h m).Mons m mZ).Guests=(ix h.Mons m mZ).Guests:=by unfold owned;cases ilt (ix h.Mons m mZ).Own 1000000000 with|false=>rfl|true=>show (ix (up h.Mons m _) m mZ).Guests=_;rw[zbr a]
theorem z7J (h:Host)(m n:Int)(a:hasB m (ln h.Mons)=true):(ix (zjw h m n).Mons m mZ).Guests=(ix h.Mons m mZ).Guests:=by unfold zjw;cases ilt (ln (ix h.Mons m mZ).Outs) 40 with|false=>rfl|true=>show (ix (up h.Mons m _) m mZ).Guests=_;rw[zbr a]
theorem z5M {h:Host}(S:Safe h){m:Int}(a:hasB m (ln h.Mons)=true)(x:Guest)(w:Int):SimT h (zfA h m x w) m id/\(ix (zfA h m x w).Mons m mZ).Guests=(ix h.Mons m mZ).Guests:=by unfold zfA;cases (cond (ine w 6) (ieq (zoB (ix h.Mons m mZ).Traps x.Ctl.Traps<|zgM w) 2) false) with|false=>exact⟨SimT.refl S m,rfl⟩|true=>exact⟨z5K S a,zbbk h m a⟩
theorem z5L {h:Host}(S:Safe h){m:Int}(a:hasB m (ln h.Mons)=true)(x:Guest)(w:Int):SimT h (zh3 h m x w) m (λb=>bif (cond (zis x.Ctl.Traps w) (ieq w 5) false) then zjz b (zcF x.Prog x.Pc).X else b)/\(ix (zh3 h m x w).Mons m mZ).Guests=(ix h.Mons m mZ).Guests:=by unfold zh3;cases (cond (zis x.Ctl.Traps w) (ieq w 5) false) with|false=>exact⟨SimT.refl S m,rfl⟩|true=>exact⟨z2N S a _,z7J h m _ a⟩
theorem zEb {h:Host}(S:Safe h){m g:Int}(d:hasB m (ln h.Mons)=true)(hg:hasB g (ln (ix h.Mons m mZ).Guests)=true){w:Int}(l:zL (gOf h m g)=w) :
 SimT h (zmm h m g (gOf h m g) w) m (λb=>zov b g (gOf h m g) w):=by
 have X:=S.ok.seenG d hg;obtain⟨f,j⟩:=z5M S d (gOf h m g) w;have a:hasB m (ln (zfA h m (gOf h m g) w).Mons)=true:=by rw[f.has];exact d
 obtain⟨i,k⟩:=z5L f.safe a (gOf h m g) w;have e:hasB m (ln (zh3 (zfA h m (gOf h m g) w) m (gOf h m g) w).Mons)=true:=by rw[i.has];exact a
 have c:hasB g (ln (ix (zh3 (zfA h m (gOf h m g) w) m (gOf h m g) w).Mons m mZ).Guests)=true:=by rw[k,j];exact hg
 have n:GKeep (gOf (zh3 (zfA h m (gOf h m g) w) m (gOf h m g) w) m g) (zgO (gOf h m g) (gOf h m g).Ctl.Traps w):=by rw[z7k<|k.trans j];exact z7l X _ l
 exact((f.trans i).trans (zsb i.safe e c n)).congr rfl
theorem z3d (x:Guest):zL x=0\/zL x=1\/zL x=2\/zL x=3\/zL x=4\/zL x=5\/zL x=6\/zL x=7:=by unfold zL zyC;cases canRun x<;>cases zkZ x<;>cases ieq (zcF x.Prog x.Pc).Op 3<;>cases ieq (zcF x.Prog x.Pc).Op 4<;>cases ieq (zcF x.Prog x.Pc).Op 5<;>cases ieq (zcF x.Prog x.Pc).Op 6<;>cases ieq (zcF x.Prog x.Pc).Op 7<;>simp
theorem zVh {h:Host}(H:HOk h)(m g:Int):zhh (zB h m) g=bif zb8 h m g then !ieq (zL<|gOf h m g) 0 else false:=by unfold zhh zb8;rw[zlc.2 H,cond_true];cases a:hasB m (ln h.Mons) with|false=>have:(zB h m).Guests=[]:=(by unfold zB;rw[a];rfl);rw[this,z0t];rfl|true=>rw[cond_true,zy4 H a,cond_true];have:(zB h m).Guests=(ix h.Mons m mZ).Guests:=(by rw[zg1 a]);rw[this];(cases hg:hasB g (ln (ix h.Mons m mZ).Guests) with|false=>rfl|true=>rw[cond_true,cond_true,zvh a hg])
theorem step_ok {h:Host}(S:Safe h)(m g:Int):SimT h (zcH h m g).1 m (λb=>zfp b g)/\(zcH h m g).2=zhh (zB h m) g:=by
 have a:=zVh S.ok m g;unfold zcH;cases i:zb8 h m g with
 |false=>rw[i,cond_false]at a;refine⟨(SimT.refl S m).congr ?_,a.symm⟩;unfold zfp;rw[a];rfl
 |true=>rw[i,cond_true]at a;rw[cond_true];obtain⟨_,c,hg⟩:=zmp.1 i;have X:=S.ok.seenG c hg;have f:=zvh c hg;have d:∀w,zL (gOf h m g)=w->w≠0->zfp (zB h m) g=stepped (zB h m) g (gOf h m g) w:=(by intro w j k;unfold zfp;rw[a,j,zcf.2 k,f,j];rfl);rcases z3d (gOf h m g) with e|e|e|e|e|e|e|e;{rw [e];rw[e]at a;refine⟨(SimT.refl S m).congr ?_,a.symm⟩;unfold zfp;rw[a];rfl};{rw [e]at a ⊢;exact⟨(zsb S c hg<|zOr X).congr (d 1 e (by decide)).symm,a.symm⟩};{rw [e]at a ⊢;exact⟨(zsb S c hg<|z1O X).congr (d 2 e (by decide)).symm,a.symm⟩};{rw [e]at a ⊢;exact⟨(zXU S c hg false e).congr (d 3 e (by decide)).symm,a.symm⟩};{rw [e]at a ⊢;exact⟨(zXU S c hg true e).congr (d 4 e (by decide)).symm,a.symm⟩};{rw [e]at a ⊢;exact⟨(zEb S c hg e).congr (d 5 e (by decide)).symm,a.symm⟩};{rw [e]at a ⊢;exact⟨(zEb S c hg e).congr (d 6 e (by decide)).symm,a.symm⟩};{rw [e]at a ⊢;exact⟨(zEb S c hg e).congr (d 7 e (by decide)).symm,a.symm⟩}
structure BackOk (b c:Bare):Prop where
 m:c.Memory=b.Memory
 o:c.Outs=b.Outs
 n:c.Guests.length=b.Guests.length
 g:∀j,hasB j (ln b.Guests)=true->GKeep (ix b.Guests j gZ) (ix c.Guests j gZ)
 p:zem b.Pending=true->zem c.Pending=true
theorem z8c {h:Host}(S:Safe h){m:Int}(b:hasB m (ln h.Mons)=true){c:Bare}(k:BackOk (zB h m) c):SimT h (zcE h m c) m (λ_=>c):=by have X:=S.ok.mon b;have f:=zg1 b;have d:(zB h m).Guests=(ix h.Mons m mZ).Guests:=(by rw[f]);have l:c.Guests.length=(ix h.Mons m mZ).Guests.length:=(by rw[k.n,d]);have hg:∀j,hasB j (ln (ix h.Mons m mZ).Guests)=true->GKeep (ix (ix h.Mons m mZ).Guests j gZ) (ix c.Guests j gZ):=λj a=>(by have:=k.g j (by rw[d];exact a);rwa [d] at this);have kp:KeepP (ix h.Mons m mZ) (zsn (ix h.Mons m mZ) c):=⟨rfl,rfl⟩;have s:zem c.Pending=true:=k.p (by rw[f];exact X.pend);refine⟨zxg S b kp (znh X kp l rfl rfl X.outs s X.tr X.own λz t=>?_) l (λj a=>(hg j a).live) rfl,λi=>?_,zb2 _ _ _⟩;{obtain⟨j,a,rfl⟩:=zM6 t gZ;exact zuL.2 (hg j (by unfold ln at a ⊢;rw[<- l];exact a)).ok};{refine(zvW (h:=h) (r:=zcE h m c) b rfl rfl kp i).trans ?_;by_cases e:i=m;{subst e;rw[zbC.2 rfl,cond_true,cond_true];show Bare.mk (zB h i).Memory c.Guests (ix h.Mons i mZ).Outs c.Pending=c;have u:=k.m;have q:=k.o;rw[f]at q;cases c;simp_all};{rw [zcf.2 e];rfl}}
theorem seen_none {h:Host}{m:Int}(a:hasB m (ln h.Mons)=false):zB h m=⟨[],[],[],0⟩:=by unfold zB;rw[a];rfl
theorem zuQ:zbW ⟨[],[],[],0⟩=false:=by decide
theorem zu4 {b:Bare}(h:zbW b=false)(g:Int):zbR b g=false:=by unfold zbR;rw[h];rfl
theorem zkj {b:Bare}(h:zbW b=true):BackOk b b:=⟨rfl,rfl,rfl,λj a=>⟨zuL.1 (by
 unfold zbW at h;rw[zcG,qL]at h;exact h.1 _ (znX a _)),rfl⟩,id⟩
theorem z3p {b:Bare}(h:zbW b=true){g:Int}(hg:hasB g (ln b.Guests)=true){y:Guest}(k:GKeep (gAt b g) y):BackOk b (zev b g y):=by have e:gAt b g=ix b.Guests g gZ:=(by unfold gAt;rw[hg];rfl);refine⟨rfl,rfl,zb2 _ _ _,λj c=>?_,id⟩;show GKeep _ (ix (up b.Guests g y) j gZ);by_cases a:g=j;{subst a;rw[zbr hg,<- e];exact k};{rw [zbI (zG.1 hg).1 (zG.1 c).1 a];exact(zkj h).g j c}
theorem zsX {b:Bare}(h:zbW b=true){g:Int}{c:Bool}{y:Guest}(k:hasB g (ln b.Guests)=true->c=true->GOk (gAt b g)->GKeep (gAt b g) y):BackOk b (chg b g c y):=by unfold chg zbR;rw[h,cond_true];cases hg:hasB g (ln b.Guests) with|false=>exact zkj h|true=>rw[cond_true];(cases c with|false=>exact zkj h|true=>refine z3p h hg (k hg rfl ?_);have:=(zkj h).g g hg;unfold gAt;rw[hg];exact this.ok)
theorem zr4 {h:Host}(S:Safe h)(m:Int){F:Bare->Bare}(d:∀b,zbW b=true->BackOk b (F b))(c:F ⟨[],[],[],0⟩=⟨[],[],[],0⟩):SimT h (zgu h m<|F<|zB h m) m F:=by unfold zgu zck;rw[zlc.2 S.ok,cond_true];cases a:hasB m (ln h.Mons) with|false=>refine(SimT.refl S m).congr ?_;rw[seen_none a];exact c.symm|true=>exact(z8c S a<|d _<|zy4 S.ok a).congr rfl
theorem znp {h:Host}(S:Safe h)(m:Int){t:Bare->Bool}(a:t ⟨[],[],[],0⟩=false):zfz h m (t<|zB h m)=t (zB h m):=by unfold zfz zck;rw[zlc.2 S.ok,cond_true];cases b:hasB m (ln h.Mons) with|false=>rw[cond_false,seen_none b,a]|true=>rfl
theorem zrK (g:Int)(c:Bool)(y:Guest):chg ⟨[],[],[],0⟩ g c y=⟨[],[],[],0⟩:=by unfold chg;rw[zu4 zuQ];rfl
theorem zlT (g:Int)(c:Bool):zb0 ⟨[],[],[],0⟩ g c=false:=by unfold zb0;rw[zu4 zuQ];rfl
theorem zXW {t:List Slot}{n q:Int}(h:zds t n q=true){p:Int}{s:Slot}(b:zeT s q=true):zds (zfb t p s) n q=true:=by
 unfold zfb;cases hasB p (ln t) with
 |false=>exact h
 |true=>rw[cond_true];rw[zsV]at h ⊢;rw[ze0];refine⟨λx c=>?_,h.2⟩;rcases jD c with a|a;{exact h.1 x a};{rw [a];exact b}
theorem zba0 {x:Guest}(X:GOk x){p:Int}{s:Slot}(h:ztY p s=true):GKeep x (zvX x p s):=by unfold ztY at h;rw[zcG]at h;exact⟨⟨X.prog,X.a,X.pc,zXW X.w h.2,X.l,X.ctl,X.pend,X.ex,X.seen⟩,rfl⟩
theorem zbaX {x:Guest}(X:GOk x){v:Int}(h:ztI x v=true):GKeep x (zu3 x v):=by unfold ztI at h;rw[zcG]at h;unfold zu3;cases ieq x.Exit.Kind 2 with|true=>rw[cond_true];have b:=zlY (z1M X h.1) (e:=zju) rfl;have a:=zlX b.ok;exact⟨a.ok,a.live⟩|false=>rw[cond_false];have b:=zlY X (e:=zju) rfl;have a:=zlX b.ok;exact⟨a.ok,a.live.trans b.live⟩
theorem zbaZ {x:Guest}(X:GOk x):GKeep x (zvH x):=by unfold zvH;have a:=zlY X (e:=zju) rfl;cases ieq x.Exit.Kind 1 with|true=>exact a|false=>have b:=z0l a.ok;exact⟨b.ok,b.live.trans a.live⟩
theorem z0m {x:Guest}(X:GOk x)(n:Int):GKeep x (znd x n):=z0n X (zSy X.pend n)
theorem zbaY {x:Guest}(X:GOk x){c:Ctl}(h:znO c=true):GKeep x (zCO x c):=⟨⟨X.prog,X.a,X.pc,X.w,X.l,h,X.pend,X.ex,X.seen⟩,rfl⟩
theorem zCK (n:Int):∀(d:List Int) (b:Bare) (l:List Guest),(∀k∈d,hasB k (ln b.Guests)=true)->BackOk b {b with Guests:=l}->BackOk b {b with Guests:=zn5 n d l}
 |[],b,l,_,h=>h
 |k::d,b,l,q,h=>by show BackOk b {b with Guests:=zn5 n d (zEK n l k)};refine zCK n d b _ (λj a=>q j (qW _ a)) ⟨h.m,h.o,by show (up l k _).length=_;rw[zb2];exact h.n,λj a=>?_,h.p⟩;show GKeep _ (ix (up l k _) j gZ);have r:l.length=b.Guests.length:=h.n;have c:hasB k (ln l)=true:=(by unfold ln;rw[r];exact q k jC);by_cases e:k=j;{subst e;rw[zbr c];have f:=h.g k a;have i:=z0m f.ok n;exact⟨i.ok,i.live.trans f.live⟩};{rw [zbI (zG.1 c).1 (zG.1 a).1 e];exact h.g j a}
theorem z09 {b:Bare}(h:zbW b=true)(n:Int):BackOk b (zks b n):=by
 unfold zks zge zEL;rw[h,cond_true];cases hasB n 8 with
 |false=>exact zkj h
 |true=>
  rw[cond_true];cases ieq (ln<|zfs b.Guests n) 0 with
  |true=>have:=zkj h;exact⟨rfl,rfl,rfl,this.g,λc=>zSy c n⟩
  |false=>rw[cond_false];refine zCK n _ b b.Guests (λk a=>?_) (zkj h);unfold zfs at a;obtain⟨j,e,rfl,_⟩:=(zJf (d:=gZ)).1 a;exact zG.2 ⟨by omega,by unfold ln;omega⟩
theorem z3o {b:Bare}(h:zbW b=true):BackOk b (zlR b):=by unfold zlR;rw[h,cond_true];exact⟨rfl,rfl,rfl,(zkj h).g,λa=>zSz a⟩
theorem z7R {h:Host}(S:Safe h)(m p c v:Int):SimT h (zlZ h m p c v) m (λb=>zk3 b p c v)/\zdR h m p c v=ziA (zB h m) p c v:=by have e:zdR h m p c v=ziA (zB h m) p c v:=(by unfold zdR ziA zb5 zz1;rw[zlc.2 S.ok,cond_true];cases d:hasB m (ln h.Mons) with|false=>rw[seen_none d,zuQ];rfl|true=>rw[zy4 S.ok d,cond_true];rfl);refine⟨?_,e⟩;unfold zlZ;cases f:zdR h m p c v with|false=>refine(SimT.refl S m).congr ?_;unfold zk3;rw[<- e,f];rfl|true=>rw[cond_true];have a:=f;unfold zdR at a;rw[zcG,zcG]at a;obtain⟨k,_,_⟩:=a;obtain⟨_,d,j⟩:=zqD.1 k;have M:=zSr S.ok (m:=m) (p:=p) 2 d j;have i:=M.op.sim S m;have g:hasB m (ln (mended h m p 2).Mons)=true:=(by rw[i.has];exact d);obtain⟨l,_⟩:=zxh i.safe g j rfl M.inn c v;refine(i.trans l).congr ?_;unfold zk3;rw[<- e,f];rfl
theorem z4R {h:Host}(S:Safe h)(m g b a:Int):zbZ h m g b a=(cond (zbR (zB h m) g) (cond (zhw a) (zfK (gAt (zB h m) g).Live b a) false) false):=by have e:zb8 h m g=zbR (zB h m) g:=(by unfold zb8 zbR;rw[zlc.2 S.ok,cond_true];cases c:hasB m (ln h.Mons) with|false=>rw[seen_none c,zuQ,cond_false,cond_false]|true=>rw[cond_true,zy4 S.ok c,cond_true];have:(zB h m).Guests=(ix h.Mons m mZ).Guests:=(by rw[zg1 c]);rw[this]);unfold zbZ;rw[<- e];cases hg:zb8 h m g with|false=>rw[cond_false,cond_false]|true=>obtain⟨_,c,hg⟩:=zmp.1 hg;have:(gAt (zB h m) g).Live=zcP h m g:=(by rw[zvh c hg];rfl);rw[this]
theorem zIa {h:Host}(S:Safe h)(m g a n:Int)(b:n=1\/n=2):zjP (zB h m) g a n=bif zi a 0 15 then zbZ h m g (zbp a) n else false:=by rw[z4R S];unfold zjP;rw[zHd.2 b,cond_true];cases zbR (zB h m) g<;>cases zi a 0 15<;>rfl
theorem zVC {h:Host}(S:Safe h){m g a n:Int}(f:n=1\/n=2)(b:zjP (zB h m) g a n=true) :
 Looked h (zDw h m g a n).1 m g (zbp a) n (zug (zB h m) g a n) (zDw h m g a n).2.1/\hasB m (ln h.Mons)=true/\hasB (zug (zB h m) g a n) 8=true:=by
 rw[zIa S m g a n f,zcG]at b;obtain⟨L,_⟩:=zSj S true b.2 S.rt.e2;obtain⟨d,_,i⟩:=zsy.1 b.2;obtain⟨_,c,hg⟩:=zmp.1 d;have e:zug (zB h m) g a n=zcx (zcP h m g) (zbp a) n:=by unfold zug;rw[zvh c hg];rfl
 rw[e];exact⟨L,c,(walked (S.ok.guest c hg) i).q8⟩
theorem zbcm {h:Host}(S:Safe h)(m g a v:Int):SimT h (znU h m g a v) m (λb=>zzu b g a v)/\zhl h m g a v=zqf (zB h m) g a v:=by have e:zhl h m g a v=zqf (zB h m) g a v:=(by unfold zhl zqf;rw[zIa S m g a 2 (.inr rfl)];cases zi a 0 15<;>cases zi v 0 99<;>cases zbZ h m g (zbp a) 2<;>rfl);refine⟨?_,e⟩;unfold znU;cases c:zhl h m g a v with|false=>refine(SimT.refl S m).congr ?_;unfold zzu;rw[<- e,c];rfl|true=>rw[cond_true];have f:zjP (zB h m) g a 2=true:=(by have:=e.symm.trans c;unfold zqf at this;exact(zcG.1 this).1);obtain⟨L,i,j⟩:=zVC S (.inr rfl) f;have d:=L.op.sim S m;obtain⟨k,_⟩:=zxh d.safe (by rw[d.has];exact i) j L.inn L.ne (zee a) v;refine(d.trans k).congr ?_;unfold zzu;rw[<- e,c];rfl
theorem zbbp {h:Host}(S:Safe h)(m g a:Int):SimT h (zl0 h m g a) m id/\zgr h m g a=zjP (zB h m) g a 1/\zm9 h m g a=zz4 (zB h m) g a:=by have e:zgr h m g a=zjP (zB h m) g a 1:=(by unfold zgr;rw[zIa S m g a 1 (.inl rfl)]);unfold zl0 zm9 zz4;rw[e];cases d:zjP (zB h m) g a 1 with|false=>exact⟨SimT.refl S m,rfl,rfl⟩|true=>obtain⟨L,f,i⟩:=zVC S (.inl rfl) d;have b:=L.op.sim S m;obtain⟨_,c⟩:=zxh b.safe (by rw[b.has];exact f) i L.inn L.ne (zee a) 0;rw[L.op.like.seen m] at c;exact⟨b,rfl,c⟩
theorem z4D {k:Kept}{a b:List Slot}(h:KOk k a b)(p:Int)(s:Slot):KOk (zcb k p) (zfb a p s) b:=by have j:=zm7 k p;have f:(zfb a p s).length=a.length:=(by unfold zfb;cases hasB p (ln a)<;>simp [zb2]);refine⟨by rw[j.1,f,h.l1],by rw[j.2,f,h.l2],λi l=>?_⟩;have c:hasB i (ln a)=true:=(by unfold ln at l ⊢;rwa [<- f]);have d:hasB i (ln k.Known)=true:=(by unfold ln at c ⊢;rwa [h.l1]);have g:=zxw (q:=p) (by rw[h.l1,h.l2]) d;rw[g.1,g.2];by_cases e:p=i;{subst e;rw[zbC.2 rfl];rfl};{rw [zcf.2 e,cond_false,cond_false,h.at' i c];have:ix (zfb a p s) i sZ=ix a i sZ:=(by unfold zfb;cases m:hasB p (ln a) with|false=>rfl|true=>exact zbI (zG.1 m).1 (zG.1 c).1 e _ _);rw[this]}
theorem zbcM {t m g:Int}(a:zdI t=m)(b:zew t=g)(c:0<=m):t=zfa m g:=by subst a;subst b;by_cases h:1<=t/\t<=6;{have e:t=1\/t=2\/t=3\/t=4\/t=5\/t=6:=(by omega);rcases e with rfl|rfl|rfl|rfl|rfl|rfl<;>decide};{exfalso;have:zdI t = -1:=(by unfold zdI ige ile;rw[show (decide (t≥1)&&decide (t<=6))=false by simp;omega];rfl);omega}
theorem zZR {t:List Slot}{p q:Int}{s:Slot}(h:q≠p):zbK (zfb t p s) q=zbK t q:=by unfold zfb;cases a:hasB p (ln t) with|false=>rfl|true=>exact zSL (zG.1 a).1 h
theorem z8d {t:List Slot}(h:zds t 4 8=true)(p:Int):zeT (zbK t p) 8=true:=by unfold zbK;cases a:hasB p (ln t) with|false=>rfl|true=>exact(zsV.1 h).1 _ (znX a _)
theorem z4v {x:Guest}(X:GOk x)(p:Int):GOk (zeB x p):=⟨X.prog,X.a,X.pc,X.w,zXW X.l<|z8d X.w p,X.ctl,X.pend,X.ex,X.seen⟩
theorem z7i {h:Host}(S:Safe h)(m g p:Int):SimT h (zkn h m g p) m (λb=>chg b g (hasB p 4) (zeB (gAt b g) p))/\zfz h m (zb0 (zB h m) g<|hasB p 4)=zb0 (zB h m) g (hasB p 4):=by
 refine⟨?_,znp S m (t:=λb=>zb0 b g (hasB p 4))<|zlT g _⟩;unfold zkn zck;rw[zlc.2 S.ok,cond_true];cases a:hasB m (ln h.Mons) with
 |false=>refine(SimT.refl S m).congr ?_;rw[seen_none a,zrK];rfl
 |true=>
  rw[cond_true];cases w:zb0 (zB h m) g (hasB p 4) with
  |false=>refine(SimT.refl S m).congr ?_;show zB h m=chg (zB h m) g (hasB p 4) (zeB (gAt (zB h m) g) p);have c:=w;unfold zb0 at c;unfold chg;rw[c];rfl
  |true=>rw[cond_true];have c:=w;unfold zb0 zbR at c;rw[zy4 S.ok a,cond_true,zcG,zg1 a]at c;have hg:hasB g (ln (ix h.Mons m mZ).Guests)=true:=c.1;have X:=S.ok.mon a;have G:=S.ok.seenG a hg;have C:chg (zB h m) g (hasB p 4) (zeB (gAt (zB h m) g) p)=zev (zB h m) g (zeB (gOf h m g) p):=(by have l:=w;unfold zb0 at l;unfold chg;rw[l,zvh a hg];rfl);rw[C];have B:hasB g (ln (ix h.Mons m mZ).Tables)=true:=(by unfold ln;rw[X.gt];exact hg);have s:(zC5 (zcE h m<|zev (zB h m) g<|zeB (gOf h m g) p) m g p).Mons=up h.Mons m {ix h.Mons m mZ with Guests:=up (ix h.Mons m mZ).Guests g (zeB (gOf h m g) p),Tables:=up (ix h.Mons m mZ).Tables g (zcb (ix (ix h.Mons m mZ).Tables g kZ) p)}:=(by show up (up h.Mons m _) m _=_;rw[z6f];have D:ix (zcE h m<|zev (zB h m) g<|zeB (gOf h m g) p).Mons m mZ=zsn (ix h.Mons m mZ) (zev (zB h m) g<|zeB (gOf h m g) p):=zbr a _ _;rw[D];unfold zsn zev;rw[zg1 a]);have kp:KeepP (ix h.Mons m mZ) {ix h.Mons m mZ with Guests:=up (ix h.Mons m mZ).Guests g (zeB (gOf h m g) p),Tables:=up (ix h.Mons m mZ).Tables g (zcb (ix (ix h.Mons m mZ).Tables g kZ) p)}:=⟨rfl,rfl⟩;have K:MOk {ix h.Mons m mZ with Guests:=up (ix h.Mons m mZ).Guests g (zeB (gOf h m g) p),Tables:=up (ix h.Mons m mZ).Tables g (zcb (ix (ix h.Mons m mZ).Tables g kZ) p)}:=znh X kp (zb2 _ _ _) (zb2 _ _ _) rfl X.outs X.pend X.tr X.own λz L=>(by rcases jD L with h|h;{exact X.gs z h};{rw [h];exact zuL.2 (z4v G p)});have E:HOk (zC5 (zcE h m<|zev (zB h m) g<|zeB (gOf h m g) p) m g p):=S.ok.up a K s S.ok.m12 S.ok.pgs (zzk S.ok.b1 _) (zzk S.ok.b2 _) λq _=>.inl (qT _);have u:∀b:List Entry,(∀e∈b,zcY h e=true)->∀e∈zdk b (zfa m g) p,zcY (zC5 (zcE h m<|zev (zB h m) g<|zeB (gOf h m g) p) m g p) e=true:=(by intro b F e H;obtain⟨x,y⟩:=zzx.1 H;obtain⟨l,n,r⟩:=zhk.1 (F e x);rw[zhk,s,ze0];refine⟨l,?_⟩;by_cases d:m=zdI e.Tag;{rw [<- d]at l n r ⊢;rw[zbr a];show hasB (zew e.Tag) (ln<|up _ _ _)=true/\below' _ (zbD (zbK (ix (up (ix h.Mons m mZ).Guests g _) (zew e.Tag) gZ).Live e.Page) (ix h.Mons m mZ).Outer)=true;rw[ze0];refine⟨n,?_⟩;by_cases f:g=zew e.Tag;{rw [<- f]at n r ⊢;rw[zbr hg];have A:e.Page≠p:=λJ=>y ⟨zbcM d.symm f.symm (zG.1 a).1,J⟩;show below' _ (zbD (zbK (zfb (gOf h m g).Live p _) e.Page) _)=true;rw[zZR A];exact r};{rw [zbI (zG.1 hg).1 (zG.1 n).1 f];exact r}};{rw [zbI (zG.1 a).1 (zG.1 l).1 d];exact⟨n,r⟩});refine⟨⟨E,⟨λi v=>?_,u _ S.rt.e1,u _ S.rt.e2⟩⟩,λi=>?_,by rw[s,zb2]⟩;{rw [s]at v ⊢;rw[ze0]at v;by_cases d:m=i;{subst d;rw[zbr a];intro j I;show KOk (ix (up (ix h.Mons m mZ).Tables g _) j kZ) (ix (up (ix h.Mons m mZ).Guests g _) j gZ).Live (ix h.Mons m mZ).Outer;have k:hasB j (ln (ix h.Mons m mZ).Guests)=true:=(by have:hasB j (ln<|up (ix h.Mons m mZ).Guests g<|zeB (gOf h m g) p)=true:=I;rwa [ze0] at this);by_cases e:g=j;{subst e;rw[zbr B,zbr hg];exact z4D (S.rt.t m a g hg) p _};{rw [zbI (zG.1 hg).1 (zG.1 k).1 e,zbI (zG.1 hg).1 (zG.1 k).1 e];exact S.rt.t m a j k}};{rw [zbI (zG.1 a).1 (zG.1 v).1 d];exact S.rt.t i v}};{refine(zvW (h:=h) a s rfl kp i).trans ?_;by_cases e:i=m;{subst e;rw[zbC.2 rfl,cond_true,cond_true,C,zg1 a];rfl};{rw [zcf.2 e];rfl}}
theorem zSU (g:Int):zfp ⟨[],[],[],0⟩ g=⟨[],[],[],0⟩/\zhh ⟨[],[],[],0⟩ g=false:=by have:zhh ⟨[],[],[],0⟩ g=false:=(by unfold zhh;rw[z0t];rfl);refine⟨?_,this⟩;unfold zfp;rw[this];rfl
theorem z7o {h:Host}(S:Safe h)(a:GAct):SimT h (zg6 h a) a.M (λb=>zua b a)/\zh9 h a=zzi (zB h a.M) a:=by
 have f:=zuQ;unfold zg6 zh9 zua zzi;cases ieq a.Kind 1 with
 |true=>obtain⟨k,e⟩:=step_ok S a.M a.G;exact⟨k,by rw[cond_true,cond_true,e]⟩
 |false=>
  simp only[cond_false];cases ieq a.Kind 2 with
  |true=>
   exact⟨zr4 S a.M (F:=λb=>chg b a.G (ztY a.X ⟨a.Y,a.Z⟩) (zvX (gAt b a.G) a.X ⟨a.Y,a.Z⟩)) (λb c=>zsX c λ_ d G=>zba0 G d)<|zrK _ _ _,
    congrArg (λt=>Told.mk t 0) (znp S a.M (t:=λb=>zb0 b a.G (ztY a.X ⟨a.Y,a.Z⟩))<|zlT _ _)⟩
  |false=>
   simp only[cond_false];cases ieq a.Kind 3 with
   |true=>obtain⟨k,e⟩:=z7i S a.M a.G a.X;exact⟨k,congrArg (λt=>Told.mk t 0) e⟩
   |false=>
    simp only[cond_false];cases ieq a.Kind 4 with
    |true=>
     exact⟨zr4 S a.M (F:=λb=>chg b a.G (ztI (gAt b a.G) a.X) (zu3 (gAt b a.G) a.X)) (λb c=>zsX c λ_ d G=>zbaX G d)<|zrK _ _ _,
      congrArg (λt=>Told.mk t 0) (znp S a.M (t:=λb=>zb0 b a.G (ztI (gAt b a.G) a.X))<|zlT _ _)⟩
    |false=>
     simp only[cond_false];cases ieq a.Kind 5 with
     |true=>
      exact⟨zr4 S a.M (F:=λb=>chg b a.G (zxD<|gAt b a.G) (zvH<|gAt b a.G)) (λb c=>zsX c λ_ _ G=>zbaZ G)<|zrK _ _ _,
       congrArg (λt=>Told.mk t 0) (znp S a.M (t:=λb=>zb0 b a.G (zxD<|gAt b a.G))<|zlT _ _)⟩
     |false=>
      simp only[cond_false];cases ieq a.Kind 6 with
      |true=>
       exact⟨zr4 S a.M (F:=λb=>chg b a.G (zid (gAt b a.G).Pending a.X) (znd (gAt b a.G) a.X)) (λb c=>zsX c λ_ _ G=>z0m G _)<|zrK _ _ _,
        congrArg (λt=>Told.mk t 0) (znp S a.M (t:=λb=>zb0 b a.G (zid (gAt b a.G).Pending a.X))<|zlT _ _)⟩
      |false=>
       simp only[cond_false];cases ieq a.Kind 7 with
       |true=>
        exact⟨zr4 S a.M (F:=λb=>chg b a.G (znO ⟨a.X,a.Y,ieq a.Z 1⟩) (zCO (gAt b a.G) ⟨a.X,a.Y,ieq a.Z 1⟩)) (λb c=>zsX c λ_ d G=>zbaY G d)<|zrK _ _ _,
         congrArg (λt=>Told.mk t 0) (znp S a.M (t:=λb=>zb0 b a.G (znO ⟨a.X,a.Y,ieq a.Z 1⟩))<|zlT _ _)⟩
       |false=>
        simp only[cond_false];cases ieq a.Kind 8 with
        |true=>obtain⟨k,e⟩:=z7R S a.M a.X a.Y a.Z;exact⟨k,congrArg (λt=>Told.mk t 0) e⟩
        |false=>
         simp only[cond_false];cases ieq a.Kind 9 with
         |true=>
          exact⟨zr4 S a.M (F:=λb=>zks b a.X) (λb c=>z09 c _) (by unfold zks zge;rw[f];rfl),
           congrArg (λt=>Told.mk t 0) (znp S a.M (t:=λb=>zge b a.X) (by unfold zge;rw[f];rfl))⟩
         |false=>
          simp only[cond_false];cases ieq a.Kind 10 with
          |true=>refine⟨zr4 S a.M (F:=zlR) (λb c=>z3o c) (by unfold zlR;rw[f];rfl),?_⟩;have e:=znp S a.M (t:=zk1) (by unfold zk1;rw[f];rfl);show Told.mk (zfz h a.M<|zk1<|zB h a.M) (cond (zck h a.M) (zrH<|zB h a.M)<|-1)=⟨zk1<|zB h a.M,zrH<|zB h a.M⟩;rw[e];congr 1;unfold zck;rw[zlc.2 S.ok,cond_true];cases j:hasB a.M (ln h.Mons) with|true=>rfl|false=>rw[seen_none j];unfold zrH;rw[f];rfl
          |false=>
           simp only[cond_false];cases ieq a.Kind 11 with
           |true=>obtain⟨k,e⟩:=zbcm S a.M a.G a.X a.Y;exact⟨k,congrArg (λt=>Told.mk t 0) e⟩
           |false=>obtain⟨k,g,i⟩:=zbbp S a.M a.G a.X;exact⟨k,by simp only[cond_false];rw[g,i]⟩
theorem z7K {h:Host}(S:Safe h)(a:GAct):Safe (zjx h a)/\(∀i,zB (zjx h a) i=zB h i)/\(zjx h a).Mons.length=h.Mons.length:=by
 unfold zjx;have k:∀r,Op h r->Safe r/\(∀i,zB r i=zB h i)/\r.Mons.length=h.Mons.length:=λr k=>⟨k.safe S,λi=>k.like.seen i,k.like.len⟩;cases ieq a.Kind 13 with
 |true=>exact k _ (z2l S.ok _ _)
 |false=>
  simp only[cond_false];cases ieq a.Kind 14 with
  |true=>exact k _ (z5f S.ok _ _)
  |false=>
   simp only[cond_false];cases ieq a.Kind 15 with
   |true=>exact k _ (z5e S.ok _ _)
   |false=>
    simp only[cond_false];cases ieq a.Kind 16 with
    |true=>obtain⟨b,c⟩:=zUn S a.M a.X;refine⟨b,c,?_⟩;simp only[cond_true];unfold zjN;cases zbP h<;>cases hasB a.M (ln h.Mons)<;>cases zi a.X 0 3<;>first|rfl|exact zb2 _ _ _
    |false=>exact k _ (zbbi S.ok)
def zl3 (a:GAct):Bool:=bif zi a.Kind 1 17 then !zi a.Kind 13 17 else false
theorem zU6 {h:Host}(S:Safe h)(a:GAct):Safe (zbF h a)/\(zbF h a).Mons.length=h.Mons.length/\
 (∀i,zB (zbF h a) i=bif (cond (zl3 a) (ieq i a.M) false) then zua (zB h i) a else zB h i)/\(zl3 a=true->zb9 h a=zzi (zB h a.M) a):=by
 unfold zbF zb9 zl3;cases zi a.Kind 1 17 with
 |false=>exact⟨S,rfl,λ_=>rfl,λe=>by cases e⟩
 |true=>
  simp only[cond_true];cases zi a.Kind 13 17 with
  |true=>obtain⟨b,c,d⟩:=z7K S a;exact⟨b,d,λi=>by simp only[cond_true,jV,cond_false];exact c i,λe=>by cases e⟩
  |false=>obtain⟨k,e⟩:=z7o S a;exact⟨k.safe,k.len,λi=>by simp only[cond_false,jZ,cond_true];exact k.seen i,λ_=>e⟩
def zcL (h:Host):List Bare:=(List.range h.Mons.length).map λ(i:Nat)=>zB h (i:Int)
theorem zkD (h:Host):(zcL h).length=h.Mons.length:=by simp[zcL]
theorem zoI (h:Host)(m:Int):hasB m (ln<|zcL h)=hasB m (ln h.Mons):=by unfold ln;rw[zkD]
theorem znL {h:Host}{m:Int}(c:hasB m (ln h.Mons)=true)(d:Bare):ix (zcL h) m d=zB h m:=by have a:=zG.1 c;unfold ln at a;have b:m.toNat<(zcL h).length:=(by rw[zkD];omega);have:=zjt b d;rw[show ((m.toNat:Nat):Int)=m by omega] at this;rw[this];simp[zcL,show max m 0=m by omega]
theorem z06 {h r:Host}(a:r.Mons.length=h.Mons.length)(e:∀i,zB r i=zB h i):zcL r=zcL h:=by unfold zcL;rw[a];exact List.map_congr_left λi _=>e _
theorem zxs {h:Host}(S:Safe h)(a:GAct):zcL (zbF h a)=zki (zcL h) a/\(zl3 a=true->zb9 h a=ziC (zcL h) a):=by obtain⟨_,k,l,t⟩:=zU6 S a;have p:zl3 a=true->zcL (zbF h a)=(cond (hasB a.M<|ln h.Mons) (up (zcL h) a.M<|zua (zB h a.M) a)<|zcL h):=(by intro b;rw[b]at l;cases f:hasB a.M (ln h.Mons) with|false=>rw[cond_false];refine zQB ⟨[],[],[],0⟩ (by rw[zkD,zkD,k]) λi c=>?_;rw[zoI]at c;rw[znL c];have d:hasB i (ln h.Mons)=true:=(by unfold ln at c ⊢;rwa [<- k]);rw[znL d,l i];have:ieq i a.M=false:=zcf.2 λe=>(by rw[e,f]at d;cases d);rw[this];rfl|true=>rw[cond_true];refine zQB ⟨[],[],[],0⟩ (by rw[zb2,zkD,zkD,k]) λi c=>?_;rw[zoI]at c;rw[znL c,l i];have d:hasB i (ln h.Mons)=true:=(by unfold ln at c ⊢;rwa [<- k]);by_cases e:i=a.M;{rw [e,zbC.2 rfl,zbr (by rw[zoI];exact f)];rfl};{rw [zcf.2 e,zbI (zG.1 f).1 (zG.1 d).1<|Ne.symm e,znL d];rfl});have s:zl3 a=false->zcL (zbF h a)=zcL h:=λb=>z06 k λi=>(by rw[l i,b];rfl);have r:zl3 a=true->zi a.Kind 1 17=true/\zi a.Kind 13 17=false:=(by intro b;unfold zl3 at b;cases g:zi a.Kind 1 17<;>cases j:zi a.Kind 13 17<;>rw [g,j]at b<;>first|exact⟨rfl,rfl⟩|cases b);constructor;{unfold zki;cases b:zl3 a with|true=>obtain⟨g,j⟩:=r b;rw[g,j,cond_true,cond_false,zoI,p b];(cases f:hasB a.M (ln h.Mons) with|true=>rw[cond_true,cond_true,znL f]|false=>rfl)|false=>rw[s b];unfold zl3 at b;(cases g:zi a.Kind 1 17 with|false=>rfl|true=>(cases j:zi a.Kind 13 17 with|true=>rfl|false=>rw[g,j]at b;cases b))};{intro b;rw[t b];obtain⟨g,j⟩:=r b;unfold ziC;rw[g,j,cond_true,cond_false,zoI];cases f:hasB a.M (ln h.Mons) with|true=>rw[cond_true,znL f]|false=>rw[cond_false,seen_none f];have n:=(zSU a.G).2;have q:=zuQ;unfold zzi;simp only[n,zlT];unfold ziA zge zk1 zrH zqf zz4 zjP;simp only[q,zu4 q,cond_false];(cases m:ieq a.Kind 10 with|true=>have:a.Kind=10:=zbC.1 m;rw[this];rfl|false=>cases ieq a.Kind 1<;>cases ieq a.Kind 2<;>cases ieq a.Kind 3<;>cases ieq a.Kind 4<;>cases ieq a.Kind 5<;>cases ieq a.Kind 6<;>cases ieq a.Kind 7<;>cases ieq a.Kind 8<;>cases ieq a.Kind 9<;>cases ieq a.Kind 11<;>rfl)}
def zMt:List GAct->List Told->List Told
 |a::l,t::ts=>bif zl3 a then t::zMt l ts else zMt l ts
 |_,_=>[]
structure Live (u:Host×List Told) (v:List Bare×List Told):Prop where
 safe:Safe u.1
 seen:zcL u.1=v.1
def zo6:List GAct->Host->List Told
 |[],_=>[]
 |a::l,h=>zb9 h a::zo6 l (zbF h a)
def ztv:List GAct->List Bare->List Told
 |[],_=>[]
 |a::l,b=>ziC b a::ztv l (zki b a)
def zwr:List GAct->Host->Host
 |[],h=>h
 |a::l,h=>zwr l (zbF h a)
def zOo:List GAct->List Bare->List Bare
 |[],b=>b
 |a::l,b=>zOo l (zki b a)
theorem zyK:∀(l:List GAct) (u:Host×List Told),zpG l u=(zwr l u.1,u.2++zo6 l u.1)
 |[],u=>by simp[zpG,zwr,zo6]
 |a::l,u=>by rw[zpG,zyK l];simp[zwr,zo6,ap]
theorem zz6:∀(l:List GAct) (u:List Bare×List Told),zn7 l u=(zOo l u.1,u.2++ztv l u.1)
 |[],u=>by simp[zn7,zOo,ztv]
 |a::l,u=>by rw[zn7,zz6 l];simp[zOo,ztv,ap]
theorem zVD:∀(l:List GAct) {h:Host},Safe h->Safe (zwr l h)/\zcL (zwr l h)=zOo l (zcL h)/\zMt l (zo6 l h)=zMt l (ztv l<|zcL h)/\(zwr l h).Mons.length=h.Mons.length
 |[],h,S=>⟨S,rfl,rfl,rfl⟩
 |a::l,h,S=>by have d:=zU6 S a;have b:=zxs S a;obtain⟨e,f,c,g⟩:=zVD l d.1;refine⟨e,by show zcL (zwr l<|zbF h a)=zOo l (zki (zcL h) a);rw[f,b.1],?_,g.trans d.2.1⟩;show (cond (zl3 a) _ _)=(cond (zl3 a) _ _);cases i:zl3 a with|false=>rw[cond_false,cond_false,c,b.1]|true=>rw[cond_true,cond_true,c,b.1,b.2 i]
theorem cz8 (q:Int)(b:0<=q):zv0.countP (λs=>ieq s.Page q)=0:=by rw[vH];intro s a;have:=(uH.1 a).2;rw[this];show ¬ ieq (-1) q=true;rw[zbC];omega
theorem zYU {p:List Ins}(h:zen p=true):GOk (zdK p):=⟨h,rfl,rfl,rfl,rfl,rfl,rfl,rfl,rfl⟩
theorem z4W {a:List (List Ins)}(i:1<=a.length)(h:∀p∈a,zen p=true):MOk (zfx a):=by have d:∀s∈zv0,s=noSlot:=λs c=>(uH.1 c).2;refine⟨?_,?_,?_,rfl,λs c=>.inl (d s c),rfl,rfl,jW _,rfl,rfl,rfl,λg hg=>?_,λp b=>?_⟩;{show 1<=((a.take 2).map zdK).length;simp;omega};{show ((a.take 2).map zdK).length<=2;simp;omega};{show ((a.take 2).map λ_=>zjf).length=((a.take 2).map zdK).length;simp};{obtain⟨p,b,rfl⟩:=jE.1 hg;exact zuL.2 (zYU<|h p<|jX b)};{have f:=zG.1 b;have e:p=0\/p=1\/p=2\/p=3\/p=4\/p=5\/p=6\/p=7:=(by omega);rcases e with rfl|rfl|rfl|rfl|rfl|rfl|rfl|rfl<;>rfl}
def zuG (a:List (List<|List Ins)):Prop:=1<=a.length/\∀p∈a,1<=p.length/\∀x∈p,zen x=true
theorem z1R {ps:List (List<|List Ins)}(h:zuG ps):Safe (zco ps):=by have a:∀x∈(zco ps).Mons,∃p∈ps,x=zfx p:=λx d=>(by obtain⟨p,f,rfl⟩:=jE.1 d;exact⟨p,jX f,rfl⟩);have t:∀x∈(zco ps).Mons,x.Outer=zv0:=λx d=>(by obtain⟨p,_,rfl⟩:=a x d;rfl);have H:HOk (zco ps):=(by refine⟨rfl,λc u=>?_,?_,?_,rfl,rfl,λx d=>?_,λq A=>?_⟩;{have:c=[0,0,0,0]:=(uH.1 u).2;rw[this];rfl};{show 1<=((ps.take 3).map zfx).length;have:=h.1;simp;omega};{show ((ps.take 3).map zfx).length<=3;simp;omega};{obtain⟨p,f,rfl⟩:=a x d;exact z4W (h.2 p f).1 (h.2 p f).2};{have:zf5 (zco ps).Mons q=0:=(by unfold zf5;have:(zco ps).Mons.map (λx=>cPg x q)=(zco ps).Mons.map (λ_=>0):=List.map_congr_left λx d=>(by unfold cPg;rw[t x d];exact cz8 q A);rw[this];generalize (zco ps).Mons=l;induction l with|nil=>rfl|cons x l C=>rw[jH,uR,C]);omega});refine⟨H,λm z g hg=>?_,λe n=>(by cases n),λe n=>(by cases n)⟩;obtain⟨p,f,e⟩:=a _ (znX z mZ);rw[e]at hg ⊢;have b:hasB g (ln<|(p.take 2).map zdK)=true:=hg;have B:ix (zfx p).Tables g kZ=zjf:=(by have:hasB g (ln<|(p.take 2).map λ_=>zjf)=true:=(by unfold ln at b ⊢;simpa using b);obtain⟨k,w,_,j⟩:=zzQ this kZ;show ix ((p.take 2).map λ_=>zjf) g kZ=_;rw[j];simp);have y:(ix (zfx p).Guests g gZ).Live=zjO:=(by obtain⟨k,w,_,j⟩:=zzQ b gZ;show (ix ((p.take 2).map zdK) g gZ).Live=_;rw[j];simp[zdK]);rw[B,y];show KOk zjf zjO zv0;refine⟨rfl,rfl,λi v=>?_⟩;have r:=zG.1 v;have:ln zjO=4:=rfl;rw[this]at r;have s:i=0\/i=1\/i=2\/i=3:=(by omega);rcases s with rfl|rfl|rfl|rfl<;>rfl
theorem zIb (l:List Int):eqI l l=true:=by unfold eqI;induction l with|nil=>rfl|cons x l a=>rw[all2,zdS,a];rfl
theorem zVO {d:Type}(h:Host)(K:List Bare->Option d):∀(l:List Mon) (i:Nat) (a:List Bare),a.length+l.length<=2147483648->
 goL (λi (_:Mon) a c=>bif few (ln<|ap a [zB h (i:Int)]) then c (ap a [zB h (i:Int)]) else none) K l i a=K (a++(List.range' i l.length).map λ(i:Nat)=>zB h (i:Int))
 |[],_,a,_=>by simp[goL]
 |x::l,i,a,b=>by simp only[qU]at b;simp only[goL];rw[zfE (by simp[ap];omega),cT,zVO h K l (i+1) _ (by simp[ap];omega)];simp[ap,vA]
theorem zrS {a c:Type}(K:Unit->Option c):∀(l:List a) (i:Nat),goL (λ_ _ (_:Unit) b=>b ()) K l i ()=K ()
 |[],_=>rfl
 |_::l,i=>zrS K l (i+1)
def z3z:zbd:=[(157,zhu),(84,zvI)]++zOk
theorem zwn:zQ z3z:=zf zjV (zf zyl ze2)
def zC (x y:List Slot):Bool:=pc (x=y)
def zy (_ _:List Slot):Bool:=true
def zbk:Run:=rF2 (dS .slot) (dS .slot) λb c=>(zC b c,[aB<|zy b c])
def zc2 (N:Nat)(b c:lS):OA:=
 (cond (ine (ln b)<|ln c) oF<|iter (σ:=(Int×Int×lS×lS×Unit)) N (λf a=>let e:=ix a.2.2.1 a.2.1 zW;let d:=ix a.2.2.2.1 a.2.1 zW; (cond (ilt a.2.1 a.1) (oN (inb a.2.1<|ln a.2.2.1)<|oN (inb a.2.1<|ln a.2.2.2.1)<|cond (nB<|cond (ieq e.Page d.Page) (ieq e.Rights d.Rights) false) oF<|f (a.1,zN .i64 a.2.1 1,a.2.2.1,a.2.2.2.1,())) oT)) (ln b,0,b,c,()))
def ze1:=zq [(313,0,{n:=26,tm:=[(0,.sl 0 []),(1,.sl 1 []),(12,ti),(13,ti)],lo:=[],ro:=[(0,.slot,false),(1,.slot,false)]})]
theorem zeZ (a c:List Slot)(j:zbE big [aS .slot a,aS .slot c])(k:zC a c=true):∃N,zc2 N a c=some [aB<|zy a c]:=by
 have h:=zD.1 k;have g:=len0 j;refine zbX λN e=>?_;unfold zc2 oN nB;conv=>zeta
 have f:ine (ln a) (ln c)=false:=(by rw[h];exact zcM _);refine zb4 f ?_;refine(zY a (λi (t:Unit)=>(ln a,(i:Int),a,c,())) _ (λ_ (_:Slot) (_:Unit) l=>l ()) (λ(t:Unit)=>some [.one<|.b true]) (λi d t rec=>?_) (λt rec=>?_) _ ()<|e g).trans ?_;{simp only [zbn d,zU d,zbb d,zX d g,cT];subst h;simp only[zU d,zbb d,zdS,cT,cF]};{simp only [zbe,cF]};rw[zrS];rfl
theorem zeU:vV 313 zbk:=hF2 zwn zbf zn zo ze1 zeZ
def zT (x y:List Ins):Bool:=pc (x=y)
def zS (_ _:List Ins):Bool:=true
def zbm:Run:=rF2 (dS .ins) (dS .ins) λb c=>(zT b c,[aB<|zS b c])
def zc9 (N:Nat)(b c:lI):OA:=
 (cond (ine (ln b)<|ln c) oF<|iter (σ:=(Int×Int×lI×lI×Unit)) N (λf a=>let e:=ix a.2.2.1 a.2.1 zpw;let d:=ix a.2.2.2.1 a.2.1 zpw; (cond (ilt a.2.1 a.1) (oN (inb a.2.1<|ln a.2.2.1)<|oN (inb a.2.1<|ln a.2.2.2.1)<|cond (nB<|cond (ieq e.Op d.Op) (ieq e.X d.X) false) oF<|f (a.1,zN .i64 a.2.1 1,a.2.2.1,a.2.2.2.1,())) oT)) (ln b,0,b,c,()))
def zfd:=zq [(312,0,{n:=26,tm:=[(0,.sl 0 []),(1,.sl 1 []),(12,ti),(13,ti)],lo:=[],ro:=[(0,.ins,false),(1,.ins,false)]})]
theorem zfc (a c:List Ins)(j:zbE big [aS .ins a,aS .ins c])(k:zT a c=true):∃N,zc9 N a c=some [aB<|zS a c]:=by
 have h:=zD.1 k;have g:=len0 j;refine zbX λN e=>?_;unfold zc9 oN nB;conv=>zeta
 have f:ine (ln a) (ln c)=false:=(by rw[h];exact zcM _);refine zb4 f ?_;refine(zY a (λi (t:Unit)=>(ln a,(i:Int),a,c,())) _ (λ_ (_:Ins) (_:Unit) l=>l ()) (λ(t:Unit)=>some [.one<|.b true]) (λi d t rec=>?_) (λt rec=>?_) _ ()<|e g).trans ?_;{simp only [zbn d,zU d,zbb d,zX d g,cT];subst h;simp only[zU d,zbb d,zdS,cT,cF]};{simp only [zbe,cF]};rw[zrS];rfl
theorem zeY:vV 312 zbm:=hF2 zwn zbf zn zo zfd zfc
def zhO (x y:List (List Int)):Bool:=pc (x=y)
def zkp (_ _:List (List Int)):Bool:=true
def zpb:Run:=rF2 (dS<|.sl .int) (dS<|.sl .int) λb c=>(zhO b c,[aB<|zkp b c])
def zGa (N:Nat)(c:lM)(d:lM):OA:=
 (cond (ine (ln c)<|ln d) oF<|iter (σ:=(Int×Int×lM×lM×Unit)) N (λe a=>let b:=a.2.1; (cond (ilt b a.1) (oN (inb b<|ln a.2.2.2.1)<|oN (inb b<|ln a.2.2.1)<|oN (zbq (ix a.2.2.2.1 b [])<|ix a.2.2.1 b [])<|cond (nB<|zcB (ix a.2.2.2.1 b [])<|ix a.2.2.1 b []) oF<|e (a.1,zN .i64 b 1,a.2.2.1,a.2.2.2.1,())) oT)) (ln c,0,d,c,()))
def zUs:=zq [(261,0,{n:=32,tm:=[(1,.sl 0 []),(2,.fn 262 []),(15,.sl 1 []),(16,ti),(17,ti)],lo:=[],ro:=[(0,.sl .int,false),(1,.sl .int,false)]})]
theorem zTG (a:List (List Int))(c:List (List Int))(j:zbE big [aS (.sl .int) a,aS (.sl .int) c])(k:zhO a c=true):∃N,zGa N a c=some [aB<|zkp a c]:=by
 have h:=zD.1 k;have g:=len0 j;refine zbX λN e=>?_;unfold zGa oN nB;conv=>zeta
 have f:ine (ln a) (ln c)=false:=(by rw[h];exact zcM _);refine zb4 f ?_;refine(zY a (λi (t:Unit)=>(ln a,(i:Int),c,a,())) _ (λ_ (_:List Int) (_:Unit) l=>l ()) (λ(t:Unit)=>some [.one<|.b true]) (λi d t rec=>?_) (λt rec=>?_) _ ()<|e g).trans ?_;{simp only [zbn d,zU d,zbb d,zX d g,cT];subst h;simp only[zU d,zbb d,zbq,zcB,zIb,cT,cF]};{simp only [zbe,cF]};rw[zrS];rfl
theorem zLG:vV 154 zpb:=hF2 zwn zbf zn zo zUs zTG
def z3A:zbd:=[(313,zbk),(312,zbm),(154,zpb)]++z3z
theorem zCQ:zQ z3A:=zf zeU (zf zeY<|zf zLG zwn)
def zAv (N:Nat)(a b:lS):OA:=
 (oN (zC a b)<|some [aB<|zy a b])
theorem zMI (a b:List Slot)(c:zC a b=true):∃N,zAv N a b=some [aB<|zy a b]:=by have:=zD.1 c;refine⟨0,?_⟩;unfold zAv oN;exact must (zba this) rfl
theorem zE4:vV 264 zbk:=kF2 zCQ zbf zn zo (zq []) zMI
def zBZ (N:Nat)(a b:lI):OA:=
 (oN (zT a b)<|some [aB<|zS a b])
theorem zPY (a b:List Ins)(c:zT a b=true):∃N,zBZ N a b=some [aB<|zS a b]:=by have:=zD.1 c;refine⟨0,?_⟩;unfold zBZ oN;exact must (zba this) rfl
theorem zIy:vV 263 zbm:=kF2 zCQ zbf zn zo (zq []) zPY
def z3B:zbd:=[(264,zbk),(263,zbm)]++z3A
theorem zRX:zQ z3B:=zf zE4 (zf zIy zCQ)
def zit (x y:Guest):Bool:=pc (x=y)
def zhN (_ _:Guest):Bool:=true
def zmM:Run:=rF2 (dT .guest) (dT .guest) λb c=>(zit b c,[aB<|zhN b c])
def zAu (N:Nat)(a b:Guest):OA:=
 (oN (zT a.Prog b.Prog)<|cond (zS a.Prog b.Prog) (cond (ieq a.A b.A) (cond (ieq a.Pc b.Pc) (oN (zC a.Written b.Written)<|cond (zy a.Written b.Written) (oN (zC a.Live b.Live)<|cond (zy a.Live b.Live) (cond (cond (ieq a.Ctl.Traps b.Ctl.Traps) (cond (ieq a.Ctl.Post b.Ctl.Post) (zk9 a.Ctl.Open b.Ctl.Open) false) false) (cond (ieq a.Pending b.Pending) (cond (cond (ieq a.Exit.Kind b.Exit.Kind) (cond (ieq a.Exit.Page b.Exit.Page) (cond (zk9 a.Exit.Write b.Exit.Write) (ieq a.Exit.N b.Exit.N) false) false) false) (cond (zk9 a.Halted b.Halted) (oN (zbq a.Seen b.Seen)<|some [aB<|zcB a.Seen b.Seen]) oF) oF) oF) oF) oF) oF) oF) oF) oF)
theorem zMH (a b:Guest)(c:zit a b=true):∃N,zAu N a b=some [aB<|zhN a b]:=by have:=zD.1 c;subst this;refine⟨0,?_⟩;simp only[zAu,zT,zS,zC,zy,zbq,zcB,zIb,znm,zcM,zdS,zfm,cT,cF,jV,jZ,zhN]
theorem zE3:vV 156 zmM:=kF2 zRX zbf zn zo (zq []) zMH
def z3C:zbd:=[(156,zmM)]++z3B
theorem zRY:zQ z3C:=zf zE3 zRX
def zqp (x y:Bare):Bool:=pc (x=y)
def zqo (_ _:Bare):Bool:=true
def zyP:Run:=rF2 (dT .bare) (dT .bare) λb c=>(zqp b c,[aB<|zqo b c])
def zBY (N:Nat)(b c:Bare):OA:=
 (oN (zhO b.Memory c.Memory)<|cond (zkp b.Memory c.Memory) (cond (ine (ln b.Guests)<|ln c.Guests) oF<|iter (σ:=(Int×Int×Int×Int×lG×lG×lM×(List Int)×lM×(List Int)×Unit)) N (λh a=>let e:=a.2.2.2.2.2.2.2.1;let g:=ix a.2.2.2.2.1 a.2.1 zu;let f:=ix a.2.2.2.2.2.1 a.2.1 zu;let d:=a.2.2.2.2.2.2.2.2.2.1; (cond (ilt a.2.1 a.1) (oN (inb a.2.1<|ln a.2.2.2.2.2.1)<|oN (inb a.2.1<|ln a.2.2.2.2.1)<|oN (zit f g)<|cond (nB<|zhN f g) oF<|h (a.1,zN .i64 a.2.1 1,a.2.2.1,a.2.2.2.1,a.2.2.2.2.1,a.2.2.2.2.2.1,a.2.2.2.2.2.2.1,e,a.2.2.2.2.2.2.2.2.1,d,()))<|oN (zbq e d)<|cond (zcB e d) (some [aB<|ieq a.2.2.1 a.2.2.2.1]) oF)) (ln b.Guests,0,b.Pending,c.Pending,c.Guests,b.Guests,b.Memory,b.Outs,c.Memory,c.Outs,())) oF)
def zQ4:=zq [(155,0,{n:=32,tm:=[(1,.sl 0 []),(2,.fn 156 []),(15,.sl 1 []),(16,ti),(17,ti)],lo:=[(0,[.sl 2 [],.sl 1 [],.sl 3 [],ti]),(1,[.sl 4 [],.sl 0 [],.sl 5 [],ti])],ro:=[(0,.guest,false),(1,.guest,false),(2,.sl .int,false),(3,.int,false),(4,.sl .int,false),(5,.int,false)],sk:=[(0,0,0,.sl 2 []),(0,0,2,.sl 3 []),(0,1,0,.sl 4 []),(0,1,2,.sl 5 []),(0,2,0,.lp 0 0),(0,3,0,.lp 1 0)]})]
theorem zPX (a c:Bare)(k:zbE big [aT .bare a,aT .bare c])(l:zqp a c=true):∃N,zBY N a c=some [aB<|zqo a c]:=by
 have e:=zD.1 l;have j:a.Guests.length<=big:=((zcV k).1 (.s .guest a.Guests) (by simp[AV.cvs,Ty.cells])).len;refine zbX λN f=>?_;unfold zBY oN nB;conv=>zeta
 have h:ine (ln a.Guests) (ln c.Guests)=false:=(by rw[e];exact zcM _);have g:zhO a.Memory c.Memory=true:=(by rw[e];exact zba rfl);refine must g (must rfl ?_);refine zb4 h ?_;refine(zY a.Guests (λi (t:Unit)=>(ln a.Guests,(i:Int),a.Pending,c.Pending,c.Guests,a.Guests,a.Memory,a.Outs,c.Memory,c.Outs,())) _ (λ_ (_:Guest) (_:Unit) m=>m ()) (λ(t:Unit)=>cond (zbq a.Outs c.Outs) (cond (zcB a.Outs c.Outs) (some [.one<|.b<|ieq a.Pending c.Pending]) oF) none) (λi d t rec=>?_) (λt rec=>?_) _ ()<|f j).trans ?_;{simp only [zbn d,zU d,zbb d,zX d j,cT];subst e;simp only[zU d,zbb d,zit,zhN,znm,cT,cF]};{simp only [zbe,cF]};rw[zrS];subst e;simp only[zbq,zcB,zIb,zdS,cT,cF,zqo]
theorem zIx:vV 57 zyP:=hF2 zRY zbf zn zo zQ4 zPX
def z3D:zbd:=[(57,zyP)]++z3C
theorem zRZ:zQ z3D:=zf zIx zRY
@[simp] abbrev zgS (h:Host):List Bare:=zcL h
def zwX:Run:=rF1 dH λb=>(zM b,[aS .bare<|zgS b])
def zAn (N:Nat)(b:Host):OA:=
 (iter (σ:=(Int×Int×lR×lM×lN×lE×lE×Unit)) N (λe a=>let c:=(⟨a.2.2.2.1,a.2.2.2.2.1,a.2.2.2.2.2.1,a.2.2.2.2.2.2.1⟩:Host);let d:=ap a.2.2.1 [zef c a.2.1]; (cond (ilt a.2.1 a.1) (oN (zdg c a.2.1)<|oN (few<|ln d)<|e (a.1,zN .i64 a.2.1 1,d,a.2.2.2.1,a.2.2.2.2.1,a.2.2.2.2.2.1,a.2.2.2.2.2.2.1,()))<|some [aS .bare a.2.2.1])) (ln b.Mons,0,[],b.Memory,b.Mons,b.Buffer,b.IoBuffer,()))
def zNP:=zq [(56,0,{n:=20,tm:=[(1,.lp 0 0),(3,.sl 0 []),(8,ti),(9,ti)],lo:=[(0,[.sl 1 [],.sl 2 [],.sl 3 [],.sl 4 []])],ro:=[(0,.bare,true),(1,.sl .int,false),(2,.mon,false),(3,.entry,false),(4,.entry,false)]})]
theorem zMA (a:Host)(f:zM a=true):∃N,zAn N a=some [aS .bare<|zgS a]:=by
 have d:=zD.1 f;have e:a.Mons.length<=big:=(zcu ((zO a).1 d).2.1.1).1;refine zbX λN c=>?_;unfold zAn oN;conv=>zeta
 refine(zY a.Mons (λi (t:lR)=>(ln a.Mons,(i:Int),t,a.Memory,a.Mons,a.Buffer,a.IoBuffer,())) _ (λi (x:Mon) (t:List Bare) g=>bif few (ln<|ap t [zB a (i:Int)]) then g (ap t [zB a (i:Int)]) else none) (λ(t:lR)=>some [.one<|.s .bare t]) (λi b t rec=>?_) (λt rec=>?_) _ ([])<|c e).trans ?_;{simp only [zbn b,zU b,zbb b,zX b e,cT];exact must (zbu d) rfl};{simp only [zbe,cF]};rw[zVO a _ _ 0 [] (by simpa using (zcu ((zO a).1 d).2.1.1).2)];simp[zcL,vF]
theorem zEU:vV 56 zwX:=kF1 zRZ zbf zn zo zNP zMA
def zbb9:zbd:=[(56,zwX)]++z3D
theorem z3E:zQ zbb9:=zf zEU zRZ
@[simp] abbrev zvu (h:Host)(l:List Bare):Bool:=pc (zdv h/\l=zcL h)
@[simp] abbrev zzK (_:Host)(_:List Bare):Bool:=true
def zyN:Run:=rF2 dH (dS .bare) λb c=>(zvu b c,[aB<|zzK b c])
def zBU (N:Nat)(b:Host)(c:lR):OA:=
 (oN (zM b)<|cond (ine (ln<|zgS b)<|ln c) oF<|iter (σ:=(Int×Int×lR×lR×lM×lN×lE×lE×Unit)) N (λf a=>let e:=ix a.2.2.1 a.2.1 ztw;let d:=ix a.2.2.2.1 a.2.1 ztw; (cond (ilt a.2.1 a.1) (oN (inb a.2.1<|ln a.2.2.2.1)<|oN (inb a.2.1<|ln a.2.2.1)<|oN (zqp d e)<|cond (nB<|zqo d e) oF<|f (a.1,zN .i64 a.2.1 1,a.2.2.1,a.2.2.2.1,a.2.2.2.2.1,a.2.2.2.2.2.1,a.2.2.2.2.2.2.1,a.2.2.2.2.2.2.2.1,())) oT)) (ln<|zgS b,0,c,zgS b,b.Memory,b.Mons,b.Buffer,b.IoBuffer,()))
def zQ2:=zq [(55,0,{n:=32,tm:=[(1,.sl 0 []),(2,.fn 57 []),(15,.sl 1 []),(16,ti),(17,ti)],lo:=[(0,[.sl 2 [],.sl 3 [],.sl 4 [],.sl 5 []])],ro:=[(0,.bare,false),(1,.bare,true),(2,.sl .int,false),(3,.mon,false),(4,.entry,false),(5,.entry,false)],sk:=[(0,0,0,.sl 2 []),(0,0,1,.sl 3 []),(0,0,2,.sl 4 []),(0,0,3,.sl 5 []),(0,2,0,.lp 0 0)]})]
theorem zPT (a:Host)(d:List Bare)(k:zvu a d=true):∃N,zBU N a d=some [aB<|zzK a d]:=by
 obtain⟨j,h⟩:=zD.1 k;have g:(zgS a).length<=big:=(by show (zcL a).length<=big;rw[zkD];exact(zcu ((zO a).1 j).2.1.1).1);refine zbX λN e=>?_;unfold zBU oN nB;conv=>zeta
 refine must (zbu j) ?_;have f:ine (ln<|zgS a) (ln d)=false:=(by rw[h];exact zcM _);refine zb4 f ?_;refine(zY (zgS a) (λi (t:Unit)=>(ln<|zgS a,(i:Int),d,zgS a,a.Memory,a.Mons,a.Buffer,a.IoBuffer,())) _ (λ_ (_:Bare) (_:Unit) l=>l ()) (λ(t:Unit)=>some [.one<|.b true]) (λi c t rec=>?_) (λt rec=>?_) _ ()<|e g).trans ?_;{simp only [zbn c,zU c,zbb c,zX c g,cT];subst h;simp only[zU c,zbb c,zqp,zqo,znm,cT,cF]};{simp only [zbe,cF]};rw[zrS]
theorem zIs:vV 13 zyN:=kF2 z3E zbf zn zo zQ2 zPT
structure Clear (h:Host) (m p:Int):Prop where
 d:ix (ix h.Mons m mZ).Dirty p false=false
 s:(ix (ix h.Mons m mZ).Outer p sZ).Page≠-1->(ix (ix h.Mons m mZ).Outer p sZ).Rights=1/\(∀e∈h.Buffer,e.Host≠(ix (ix h.Mons m mZ).Outer p sZ).Page)/\(∀e∈h.IoBuffer,e.Host≠(ix (ix h.Mons m mZ).Outer p sZ).Page)/\
  ∀g i,hasB g (ln (ix h.Mons m mZ).Guests)=true->hasB i (ln (ix (ix h.Mons m mZ).Guests g gZ).Live)=true->(ix (ix (ix h.Mons m mZ).Guests g gZ).Live i sZ).Page=p->ix (ix (ix h.Mons m mZ).Tables g kZ).Known i false=false
theorem z7D {a:List (List<|List Ins)}{m:Int}{p:List (List Ins)}(e:ix (zco a).Mons m mZ=zfx p):∀k:Nat,k<8->zcl (zco a) m (k:Int)=if hasB m (ln (zco a).Mons) then [0,0,0,0] else zcl (zco a) m (k:Int):=by
 intro k d;cases c:hasB m (ln (zco a).Mons) with
 |false=>rfl
 |true=>have b:ix (zco a).Mons m zh=zfx p:=e;rw[if_pos rfl];unfold zcl;have:k=0\/k=1\/k=2\/k=3\/k=4\/k=5\/k=6\/k=7:=(by omega);rcases this with rfl|rfl|rfl|rfl|rfl|rfl|rfl|rfl<;>simp only [c,b,cond_true]<;>rfl
theorem zW6 (ps:List (List<|List Ins)):zcL (zco ps)=(ps.take 3).map zi9:=by have d:(zco ps).Mons=(ps.take 3).map zfx:=rfl;unfold zcL;refine vT (by rw[d];simp) λi l g=>?_;have h:i<(ps.take 3).length:=(by simpa using g);have b:i<(zco ps).Mons.length:=(by rw[d];simpa using h);have f:hasB (i:Int) (ln (zco ps).Mons)=true:=zG.2 ⟨by omega,by unfold ln;omega⟩;have e:ix (zco ps).Mons (i:Int) mZ=zfx (ps.take 3)[i]:=(by rw[zjt b];show ((ps.take 3).map zfx)[i]=_;exact List.getElem_map _);simp only[List.getElem_map,List.getElem_range];have a:∀k:Nat,k<8->zcl (zco ps) (i:Int) (k:Int)=[0,0,0,0]:=λk j=>(by have:=z7D e k j;rw[f,if_pos rfl] at this;exact this);unfold zB;rw[f,cond_true,e];have c:zcU (zco ps) (i:Int) 8 0=ztO:=(by show [zcl (zco ps) (i:Int) ((0:Nat):Int),zcl (zco ps) (i:Int) ((1:Nat):Int),zcl (zco ps) (i:Int) ((2:Nat):Int),zcl (zco ps) (i:Int) ((3:Nat):Int),zcl (zco ps) (i:Int) ((4:Nat):Int),zcl (zco ps) (i:Int) ((5:Nat):Int),zcl (zco ps) (i:Int) ((6:Nat):Int),zcl (zco ps) (i:Int) ((7:Nat):Int)]=ztO;rw[a 0 (by omega),a 1 (by omega),a 2 (by omega),a 3 (by omega),a 4 (by omega),a 5 (by omega),a 6 (by omega),a 7 (by omega)];rfl);rw[c];rfl
def zeG:List GAct->List Told->List Told
 |a::l,t::ts=>bif zi a.Kind 13 17 then zeG l ts else t::zeG l ts
 |_,_=>[]
theorem z3c {h:Host}(S:Safe h)(a:GAct)(c:zi a.Kind 13 17=false):zb9 h a=ziC (zcL h) a:=by cases b:zi a.Kind 1 17 with|true=>exact(zxs S a).2 (by unfold zl3;rw[b,c];rfl)|false=>unfold zb9 ziC;rw[b];rfl
theorem zMu:∀(l:List GAct) {h:Host},Safe h->zeG l (zo6 l h)=zeG l (ztv l<|zcL h)
 |[],h,S=>rfl
 |a::l,h,S=>by have c:=zMu l (zU6 S a).1;show (cond (zi a.Kind 13 17) (zeG l<|zo6 l<|zbF h a) (zb9 h a::zeG l (zo6 l<|zbF h a)))=(cond (zi a.Kind 13 17) (zeG l<|ztv l<|zki (zcL h) a) (ziC (zcL h) a::zeG l (ztv l<|zki (zcL h) a)));rw[c,(zxs S a).1];cases b:zi a.Kind 13 17 with|true=>rfl|false=>rw[cond_false,cond_false,z3c S a b]
theorem zN6:∀(l:List GAct) (h:Host),(zo6 l h).length=l.length
 |[],_=>rfl
 |a::l,h=>by show (zo6 l<|zbF h a).length+1=_;rw[zN6 l];rfl
def zbcd:zbd:=[(59,zho),(58,zho)]++zOk
theorem zC1:zQ zbcd:=zf zqm (zf zql ze2)
def zlt (x y:List Told):Bool:=pc (x=y)
def zor (_ _:List Told):Bool:=true
def zln:Run:=rF2 (dS .told) (dS .told) λb c=>(zlt b c,[aB<|zor b c])
def zqa (N:Nat)(b c:lT):OA:=
 (cond (ine (ln b)<|ln c) oF<|iter (σ:=(Int×lT×lT×Unit)) N (λf a=>let e:=ix a.2.1 a.1 ztx;let d:=ix a.2.2.1 a.1 ztx; (cond (ilt a.1<|ln a.2.1) (oN (inb a.1<|ln a.2.1)<|oN (inb a.1<|ln a.2.2.1)<|cond (nB<|cond (zk9 e.Ok d.Ok) (ieq e.N d.N) false) oF<|f (zN .i64 a.1 1,a.2.1,a.2.2.1,())) oT)) (0,b,c,()))
def zRe:=zq [(14,0,{n:=26,tm:=[(0,.sl 0 []),(1,.sl 1 []),(5,ti)],lo:=[],ro:=[(0,.told,false),(1,.told,false)]})]
theorem zQr (a c:List Told)(j:zbE big [aS .told a,aS .told c])(k:zlt a c=true):∃N,zqa N a c=some [aB<|zor a c]:=by
 have h:=zD.1 k;have g:=len0 j;refine zbX λN e=>?_;unfold zqa oN nB;conv=>zeta
 have f:ine (ln a) (ln c)=false:=(by rw[h];exact zcM _);refine zb4 f ?_;refine(zY a (λi (t:Unit)=>((i:Int),a,c,())) _ (λ_ (_:Told) (_:Unit) l=>l ()) (λ(t:Unit)=>some [.one<|.b true]) (λi d t rec=>?_) (λt rec=>?_) _ ()<|e g).trans ?_;{simp only [zbn d,zU d,zbb d,zX d g,cT];subst h;simp only[zU d,zbb d,zdS,zfm,cT,cF]};{simp only [zbe,cF]};rw[zrS];rfl
theorem zI3:vV 14 zln:=hF2 zC1 zbf zn zo zRe zQr
theorem zDa {e:Type}(a:List Told)(R:List Told->Option e):∀(l:List GAct) (i:Nat) (t:List Told),t.length+l.length<=2147483648->
 goL (λi (x:GAct) (t:List Told) d=>bif ilt (i:Int) (ln a) then (cond (cond (zi x.Kind 13 17) false true) (cond (inb (i:Int)<|ln a) (cond (few<|ln<|ap t [ix a (i:Int) ztx]) (d<|ap t [ix a (i:Int) ztx]) none) none)<|d t) else R t) R l i t=R (t++zeG l (a.drop i))
 |[],i,t,_=>by cases a.drop i<;>simp [goL,zeG]
 |x::l,i,t,h=>by
  simp only[qU]at h;simp only[goL];by_cases b:i<a.length;{rw [zbn b,cT,j5 b];cases c:zi x.Kind 13 17 with|true=>rw[cT,cF,zDa a R l (i+1) t (by omega)];simp only[zeG,c,cT]|false=>rw[cF,cT,zU b,cT,zfE (by simp[ap];omega),cT,zDa a R l (i+1) _ (by simp[ap];omega),zbb b];simp only[zeG,c,cF,ap,j4,List.singleton_append]};{rw [show ilt (i:Int) (ln a)=false from qH (by unfold ln;omega),cF,kX (by omega)];simp[zeG]}
def zkc (x:List GAct)(_:List Told):Bool:=pc (x.length<=1048576)
abbrev ziZ (x:List GAct)(y:List Told):List Told:=zeG x y
def zmU:Run:=rF2 (dS .act) (dS .told) λb c=>(zkc b c,[aS .told<|ziZ b c])
def zAN (N:Nat)(e:lA)(f:lT):OA:=
 (iter (σ:=(Int×lA×lT×lT×Unit)) N (λb a=>let d:=(ix a.2.1 a.1 zjU).Kind;let c:=ap a.2.2.2.1 [ix a.2.2.1 a.1 ztx]; (cond (ilt a.1<|ln a.2.1) (cond (ilt a.1<|ln a.2.2.1) (oN (inb a.1<|ln a.2.1)<|oN (zoZ d)<|cond (nB<|znz d) (oN (inb a.1<|ln a.2.2.1)<|oN (few<|ln c)<|b (zN .i64 a.1 1,a.2.1,a.2.2.1,c,()))<|b (zN .i64 a.1 1,a.2.1,a.2.2.1,a.2.2.2.1,()))<|some [aS .told a.2.2.2.1])<|some [aS .told a.2.2.2.1])) (0,e,f,[],()))
def zN4:=zq [(16,0,{n:=35,tm:=[(0,.sl 0 []),(1,.sl 1 []),(5,.sl 2 []),(6,ti)],lo:=[],ro:=[(0,.act,false),(1,.told,false),(2,.told,true)]})]
theorem zwO (b:List GAct)(a:List Told)(j:zbE big [aS .act b,aS .told a])(h:zkc b a=true):∃N,zAN N b a=some [aS .told<|ziZ b a]:=by
 have f:=zD.1 h;have e:b.length<=big:=jB f (by decide);refine zbX λN d=>?_;unfold zAN oN nB;conv=>zeta
 refine(zY b (λi (t:lT)=>((i:Int),b,a,t,())) _ (λi (x:GAct) (t:List Told) g=>bif ilt (i:Int) (ln a) then (cond (cond (zi x.Kind 13 17) false true) (cond (inb (i:Int)<|ln a) (cond (few<|ln<|ap t [ix a (i:Int) ztx]) (g<|ap t [ix a (i:Int) ztx]) none) none)<|g t) else some [AV.one<|.s .told t]) (λ(t:lT)=>some [.one<|.s .told t]) (λi c t rec=>?_) (λt rec=>?_) _ ([])<|d e).trans ?_;{simp only [zbn c,zU c,zbb c,zX c e,cT]};{simp only [zbe,cF]};rw[zDa a _ b 0 [] (by simpa using jB f (by decide))];rfl
theorem zFm:vV 16 zmU:=hF2 zC1 zbf zn zo zN4 zwO
def zNU:=zq [(15,0,{n:=35,tm:=[(0,.sl 0 []),(1,.sl 1 []),(5,.sl 2 []),(6,ti)],lo:=[],ro:=[(0,.act,false),(1,.told,false),(2,.told,true)]})]
theorem zE2:vV 15 zmU:=hF2 zC1 zbf zn zo zNU zwO
theorem zHH (a:List Slot)(b:List Kept):∀(l:List Guest) (i:Nat),(∀k (d:k<l.length),((i+k:Nat):Int)<ln b->znf (ix b ((i+k:Nat):Int) kZ) l[k].Live a=true)->zsc a b l i=true
 |[],_,_=>rfl
 |g::l,i,h=>by
  unfold zsc;cases f:ilt (i:Int) (ln b) with
  |false=>rfl
  |true=>
   have e:=h 0 (by simp) (by simpa using qD f);rw[cond_true,show znf (ix b (i:Int) zc7) g.Live a=true from e,cond_true];exact zHH a b l (i+1) λk d c=>by have:=h (k+1) (by simpa using d) (by rw[show i+(k+1)=i+1+k by omega];exact c);rw[show i+(k+1)=i+1+k by omega] at this;exact this
theorem z6a {h:Host}(S:Safe h):zo5 h=true:=by unfold zo5;rw[qL];intro x d;obtain⟨m,c,e⟩:=zM6 d mZ;have T:=S.rt.t m c;rw[e] at T;refine zHH _ _ _ 0 λk a b=>zba6.2 ?_;have hg:hasB ((0+k:Nat):Int) (ln x.Guests)=true:=zG.2 ⟨by omega,by unfold ln;omega⟩;have:=T _ hg;rw[show ix x.Guests ((0+k:Nat):Int) gZ=x.Guests[k] by rw[show ((0+k:Nat):Int)=(k:Int) by omega];exact zjt a gZ] at this;exact this
def cU (u:List Int)(q:Int):Nat:=u.countP λz=>ieq z q
theorem zXR:∀(l:List Slot) (u:List Int),(∀s∈l,SOk s)->(∀q,0<=q->(l.countP λs=>ieq s.Page q)+cU u q<=1)->∃v,spS l u=some v/\∀q,0<=q->cU v q=(l.countP λs=>ieq s.Page q)+cU u q
 |[],u,_,_=>⟨u,rfl,λq _=>by simp⟩
 |s::l,u,j,g=>by
  have i:∀x∈l,SOk x:=λx n=>j x (qW _ n);unfold spS;by_cases e:s.Page = -1;{rw [zbC.2 e,cond_true];obtain⟨v,d,f⟩:=zXR l u i λq a=>(by have:=g q a;rw[zlS,if_neg (by omega)] at this;exact this);exact⟨v,d,λq a=>by rw[f q a,zlS,if_neg (by omega)];rfl⟩}
  .have hp:=(j s jC).pos e;rw[zcf.2 e,cond_false];have k:=g s.Page hp.1;rw[zlS,if_pos rfl]at k;have m:u.any (λz=>ieq z s.Page)=false:=by rw[<- vU,kV];rintro⟨z,p,h⟩;have:0<cU u s.Page:=vI.2 ⟨z,p,h⟩;omega
   rw[m,cond_false];have b:∀q,cU (ap u [s.Page]) q=cU u q+if s.Page=q then 1 else 0:=λq=>by
    unfold cU ap;rw[List.countP_append,vB,List.countP_nil]
    by_cases c:s.Page=q
    .rw [if_pos c,if_pos<|zbC.2 c]
    .rw [if_neg c,if_neg (by rw[zbC];exact c)]
   obtain⟨v,d,f⟩:=zXR l (ap u [s.Page]) i λq a=>(by have:=g q a;rw[zlS] at this;rw[b];omega);exact⟨v,d,λq a=>by rw[f q a,b,zlS];omega⟩
theorem z5Y:∀(l:List Mon) (u:List Int),(∀x∈l,∀s∈x.Outer,SOk s)->(∀q,0<=q->zf5 l q+cU u q<=1)->spM l u=true
 |[],_,_,_=>rfl
 |x::l,u,d,c=>by have a:∀q,zf5 (x::l) q=(x.Outer.countP λs=>ieq s.Page q)+zf5 l q:=λq=>rfl;obtain⟨v,e,f⟩:=zXR x.Outer u (d x jC) λq b=>(by have:=c q b;rw[a] at this;omega);unfold spM;rw[e];exact z5Y l v (λy g=>d y (qW _ g)) λq b=>by have:=c q b;rw[a] at this;rw[f q b];omega
theorem z6p {h:Host}(H:HOk h):zuv h=true:=by rw[z6q];refine z5Y _ _ (λx b=>(H.mons x b).sl) λq a=>?_;have:=H.uq q a;simpa [cU] using this
theorem zSI {h:Host}(S:Safe h):zpL h=true:=by unfold zpL;rw[zlc.2 S.ok,cond_true,z6p S.ok,cond_true,z6a S,cond_true,show zm5 h h.Buffer=true from qL.2 S.rt.e1,cond_true];exact qL.2 S.rt.e2
def zia (x y:List Int):Bool:=pc (x=y)
def zyV:Run:=rF2 (dS .int) (dS .int) λb c=>(zia b c,[aB<|zbq b c])
def zCd (N:Nat)(b c:List Int):OA:=
 (cond (ine (ln b)<|ln c) oF<|iter (σ:=(Int×(List Int)×(List Int)×Unit)) N (λd a=>cond (ilt a.1<|ln a.2.1) (oN (inb a.1<|ln a.2.1)<|oN (inb a.1<|ln a.2.2.1)<|cond (ine (ix a.2.1 a.1 0)<|ix a.2.2.1 a.1 0) oF<|d (zN .i64 a.1 1,a.2.1,a.2.2.1,())) oT) (0,b,c,()))
def zQ7:=zq [(158,0,{n:=26,tm:=[(0,.sl 0 []),(1,.sl 1 []),(5,ti)],lo:=[],ro:=[(0,.int,false),(1,.int,false)]})]
theorem zQb (a b:List Int)(d:zbE big [aS .int a,aS .int b])(e:zia a b=true):∃N,zCd N a b=some [aB<|zbq a b]:=by have:=zD.1 e;subst this;have f:=len0 d;refine⟨a.length+1,?_⟩;unfold zCd oN;rw[zcM];refine zmA a zbdx _ _ f (λi c rec=>?_) (λrec=>?_) (j3 _);{simp only [zbn c,zU c,zbb c,znm,zcM,zdS,zfm,cT,cF,jV,jZ]};{simp only [zbe,cF,zbq]}
theorem zIM:vV 158 zyV:=hF2 ze2 zbf zn zo zQ7 zQb
def zj5 (x y:List Bool):Bool:=pc (x=y)
def zkL (_ _:List Bool):Bool:=true
def zw2:Run:=rF2 (dS .bool) (dS .bool) λb c=>(zj5 b c,[aB<|zkL b c])
def zAA (N:Nat)(b c:lB):OA:=
 (cond (ine (ln b)<|ln c) oF<|iter (σ:=(Int×lB×lB×Unit)) N (λd a=>cond (ilt a.1<|ln a.2.1) (oN (inb a.1<|ln a.2.1)<|oN (inb a.1<|ln a.2.2.1)<|cond (nB<|zk9 (ix a.2.1 a.1 false)<|ix a.2.2.1 a.1 false) oF<|d (zN .i64 a.1 1,a.2.1,a.2.2.1,())) oT) (0,b,c,()))
def zNV:=zq [(266,0,{n:=26,tm:=[(0,.sl 0 []),(1,.sl 1 []),(5,ti)],lo:=[],ro:=[(0,.bool,false),(1,.bool,false)]})]
theorem zMO (a b:List Bool)(d:zbE big [aS .bool a,aS .bool b])(e:zj5 a b=true):∃N,zAA N a b=some [aB<|zkL a b]:=by have:=zD.1 e;subst this;have f:=len0 d;refine⟨a.length+1,?_⟩;unfold zAA oN nB;rw[zcM];refine zmA a zbcQ _ _ f (λi c rec=>?_) (λrec=>?_) (j3 _);{simp only [zbn c,zU c,zbb c,znm,zcM,zdS,zfm,cT,cF,jV,jZ]};{simp only [zbe,cF,zkL]}
theorem zFa:vV 266 zw2:=hF2 ze2 zbf zn zo zNV zMO
def zAE (N:Nat)(b c:lS):OA:=
 (cond (ine (ln b)<|ln c) oF<|iter (σ:=(Int×lS×lS×Unit)) N (λf a=>let e:=ix a.2.1 a.1 zW;let d:=ix a.2.2.1 a.1 zW; (cond (ilt a.1<|ln a.2.1) (oN (inb a.1<|ln a.2.1)<|oN (inb a.1<|ln a.2.2.1)<|cond (nB<|cond (ieq e.Page d.Page) (ieq e.Rights d.Rights) false) oF<|f (zN .i64 a.1 1,a.2.1,a.2.2.1,())) oT)) (0,b,c,()))
def zNY:=zq [(265,0,{n:=26,tm:=[(0,.sl 0 []),(1,.sl 1 []),(5,ti)],lo:=[],ro:=[(0,.slot,false),(1,.slot,false)]})]
theorem zMS (a b:List Slot)(d:zbE big [aS .slot a,aS .slot b])(e:zC a b=true):∃N,zAE N a b=some [aB<|zy a b]:=by
 have:=zD.1 e;subst this;have f:=len0 d;refine⟨a.length+1,?_⟩;unfold zAE oN nB;conv=>zeta
 rw[zcM];refine zmA a zW _ _ f (λi c rec=>?_) (λrec=>?_) (j3 _);{simp only [zbn c,zU c,zbb c,znm,zcM,zdS,zfm,cT,cF,jV,jZ]};{simp only [zbe,cF,zy]}
theorem zFe:vV 265 zbk:=hF2 ze2 zbf zn zo zNY zMS
def zli (x y:List Entry):Bool:=pc (x=y)
def zlh (_ _:List Entry):Bool:=true
def zvK:Run:=rF2 (dS .entry) (dS .entry) λb c=>(zli b c,[aB<|zlh b c])
def zxZ (N:Nat)(d e:lE):OA:=
 (cond (ine (ln d)<|ln e) oF<|iter (σ:=(Int×lE×lE×Unit)) N (λf a=>let c:=ix a.2.1 a.1 zfy;let b:=ix a.2.2.1 a.1 zfy; (cond (ilt a.1<|ln a.2.1) (oN (inb a.1<|ln a.2.1)<|oN (inb a.1<|ln a.2.2.1)<|cond (nB<|cond (ieq c.Tag b.Tag) (cond (ieq c.Page b.Page) (cond (ieq c.Host b.Host) (ieq c.Rights b.Rights) false) false) false) oF<|f (zN .i64 a.1 1,a.2.1,a.2.2.1,())) oT)) (0,d,e,()))
def zJU:=zq [(62,0,{n:=26,tm:=[(0,.sl 0 []),(1,.sl 1 []),(5,ti)],lo:=[],ro:=[(0,.entry,false),(1,.entry,false)]})]
theorem zJq (a b:List Entry)(d:zbE big [aS .entry a,aS .entry b])(e:zli a b=true):∃N,zxZ N a b=some [aB<|zlh a b]:=by
 have:=zD.1 e;subst this;have f:=len0 d;refine⟨a.length+1,?_⟩;unfold zxZ oN nB;conv=>zeta
 rw[zcM];refine zmA a zfy _ _ f (λi c rec=>?_) (λrec=>?_) (j3 _);{simp only [zbn c,zU c,zbb c,znm,zcM,zdS,zfm,cT,cF,jV,jZ]};{simp only [zbe,cF,zlh]}
theorem zDk:vV 62 zvK:=hF2 ze2 zbf zn zo zJU zJq
def zCc (N:Nat)(b c:lI):OA:=
 (cond (ine (ln b)<|ln c) oF<|iter (σ:=(Int×lI×lI×Unit)) N (λf a=>let e:=ix a.2.1 a.1 zpw;let d:=ix a.2.2.1 a.1 zpw; (cond (ilt a.1<|ln a.2.1) (oN (inb a.1<|ln a.2.1)<|oN (inb a.1<|ln a.2.2.1)<|cond (nB<|cond (ieq e.Op d.Op) (ieq e.X d.X) false) oF<|f (zN .i64 a.1 1,a.2.1,a.2.2.1,())) oT)) (0,b,c,()))
def zQ6:=zq [(354,0,{n:=26,tm:=[(0,.sl 0 []),(1,.sl 1 []),(5,ti)],lo:=[],ro:=[(0,.ins,false),(1,.ins,false)]})]
theorem zQa (a b:List Ins)(d:zbE big [aS .ins a,aS .ins b])(e:zT a b=true):∃N,zCc N a b=some [aB<|zS a b]:=by
 have:=zD.1 e;subst this;have f:=len0 d;refine⟨a.length+1,?_⟩;unfold zCc oN nB;conv=>zeta
 rw[zcM];refine zmA a zpw _ _ f (λi c rec=>?_) (λrec=>?_) (j3 _);{simp only [zbn c,zU c,zbb c,znm,zcM,zdS,zfm,cT,cF,jV,jZ]};{simp only [zbe,cF,zS]}
theorem zIL:vV 354 zbm:=hF2 ze2 zbf zn zo zQ6 zQa
def zNZ:=zq [(18,0,{n:=26,tm:=[(0,.sl 0 []),(1,.sl 1 []),(5,ti)],lo:=[],ro:=[(0,.told,false),(1,.told,false)]})]
theorem zMT (a b:List Told)(d:zbE big [aS .told a,aS .told b])(e:zlt a b=true):∃N,zqa N a b=some [aB<|zor a b]:=by
 have:=zD.1 e;subst this;have f:=len0 d;refine⟨a.length+1,?_⟩;unfold zqa oN nB;conv=>zeta
 rw[zcM];refine zmA a ztx _ _ f (λi c rec=>?_) (λrec=>?_) (j3 _);{simp only [zbn c,zU c,zbb c,znm,zcM,zdS,zfm,cT,cF,jV,jZ]};{simp only [zbe,cF,zor]}
theorem zt4:vV 18 zln:=hF2 ze2 zbf zn zo zNZ zMT
def z4e:zbd:=[(158,zyV),(266,zw2),(265,zbk),(62,zvK),(354,zbm),(18,zln)]++zOk
theorem zwo:zQ z4e:=zf zIM (zf zFa<|zf zFe<|zf zDk<|zf zIL<|zf zt4 ze2)
def zAD (N:Nat)(b:lM)(c:lM):OA:=
 (cond (ine (ln b)<|ln c) oF<|iter (σ:=(Int×lM×lM×Unit)) N (λd a=>cond (ilt a.1<|ln a.2.1) (oN (inb a.1<|ln a.2.1)<|oN (inb a.1<|ln a.2.2.1)<|oN (zia (ix a.2.1 a.1 [])<|ix a.2.2.1 a.1 [])<|cond (nB<|zbq (ix a.2.1 a.1 [])<|ix a.2.2.1 a.1 []) oF<|d (zN .i64 a.1 1,a.2.1,a.2.2.1,())) oT) (0,b,c,()))
def zNX:=zq [(60,0,{n:=27,tm:=[(0,.sl 0 []),(1,.sl 1 []),(5,ti)],lo:=[],ro:=[(0,.sl .int,false),(1,.sl .int,false)]})]
theorem zMR (a:List (List Int))(b:List (List Int))(d:zbE big [aS (.sl .int) a,aS (.sl .int) b])(e:zhO a b=true):∃N,zAD N a b=some [aB<|zkp a b]:=by have:=zD.1 e;subst this;have f:=len0 d;refine⟨a.length+1,?_⟩;unfold zAD oN nB;rw[zcM];refine zmA a (Ty.dflt<|.sl .int) _ _ f (λi c rec=>?_) (λrec=>?_) (j3 _);{simp only [zbn c,zU c,zbb c,zia,zbq,znm,zcM,zdS,zfm,cT,cF,jV,jZ]};{simp only [zbe,cF,zkp]}
theorem zFd:vV 60 zpb:=hF2 zwo zbf zn zo zNX zMR
def zqw (x y:Kept):Bool:=pc (x=y)
def zqv (_ _:Kept):Bool:=true
def zyW:Run:=rF2 (dT .kept) (dT .kept) λb c=>(zqw b c,[aB<|zqv b c])
def zCe (N:Nat)(a b:Kept):OA:=
 (oN (zj5 a.Known b.Known)<|cond (zkL a.Known b.Known) (oN (zC a.Slots b.Slots)<|some [aB<|zy a.Slots b.Slots]) oF)
theorem zQc (a b:Kept)(c:zqw a b=true):∃N,zCe N a b=some [aB<|zqv a b]:=by have:=zD.1 c;subst this;refine⟨0,?_⟩;simp only[zCe,zj5,zkL,zC,zy,znm,zcM,zdS,zfm,cT,cF,jV,jZ,zqv]
theorem zIN:vV 315 zyW:=kF2 zwo zbf zn zo (zq []) zQc
def zAB (N:Nat)(a b:Guest):OA:=
 (oN (zT a.Prog b.Prog)<|cond (zS a.Prog b.Prog) (cond (ieq a.A b.A) (cond (ieq a.Pc b.Pc) (oN (zC a.Written b.Written)<|cond (zy a.Written b.Written) (oN (zC a.Live b.Live)<|cond (zy a.Live b.Live) (cond (cond (ieq a.Ctl.Traps b.Ctl.Traps) (cond (ieq a.Ctl.Post b.Ctl.Post) (zk9 a.Ctl.Open b.Ctl.Open) false) false) (cond (ieq a.Pending b.Pending) (cond (cond (ieq a.Exit.Kind b.Exit.Kind) (cond (ieq a.Exit.Page b.Exit.Page) (cond (zk9 a.Exit.Write b.Exit.Write) (ieq a.Exit.N b.Exit.N) false) false) false) (cond (zk9 a.Halted b.Halted) (oN (zia a.Seen b.Seen)<|some [aB<|zbq a.Seen b.Seen]) oF) oF) oF) oF) oF) oF) oF) oF) oF)
theorem zMP (a b:Guest)(c:zit a b=true):∃N,zAB N a b=some [aB<|zhN a b]:=by have:=zD.1 c;subst this;refine⟨0,?_⟩;simp only[zAB,zT,zS,zC,zy,zia,zbq,znm,zcM,zdS,zfm,cT,cF,jV,jZ,zhN]
theorem zFb:vV 314 zmM:=kF2 zwo zbf zn zo (zq []) zMP
def z4f:zbd:=[(60,zpb),(315,zyW),(314,zmM)]++z4e
theorem zC0:zQ z4f:=zf zFd (zf zIN<|zf zFb zwo)
def zo8 (x y:List Kept):Bool:=pc (x=y)
def zoN (_ _:List Kept):Bool:=true
def zw3:Run:=rF2 (dS .kept) (dS .kept) λb c=>(zo8 b c,[aB<|zoN b c])
def zAC (N:Nat)(b c:lK):OA:=
 (cond (ine (ln b)<|ln c) oF<|iter (σ:=(Int×lK×lK×Unit)) N (λf a=>let e:=ix a.2.1 a.1 zc7;let d:=ix a.2.2.1 a.1 zc7; (cond (ilt a.1<|ln a.2.1) (oN (inb a.1<|ln a.2.1)<|oN (inb a.1<|ln a.2.2.1)<|oN (zqw e d)<|cond (nB<|zqv e d) oF<|f (zN .i64 a.1 1,a.2.1,a.2.2.1,())) oT)) (0,b,c,()))
def zNW:=zq [(268,0,{n:=27,tm:=[(0,.sl 0 []),(1,.sl 1 []),(5,ti)],lo:=[],ro:=[(0,.kept,false),(1,.kept,false)]})]
theorem zMQ (a b:List Kept)(d:zbE big [aS .kept a,aS .kept b])(e:zo8 a b=true):∃N,zAC N a b=some [aB<|zoN a b]:=by
 have:=zD.1 e;subst this;have f:=len0 d;refine⟨a.length+1,?_⟩;unfold zAC oN nB;conv=>zeta
 rw[zcM];refine zmA a zc7 _ _ f (λi c rec=>?_) (λrec=>?_) (j3 _);{simp only [zbn c,zU c,zbb c,zqw,zqv,znm,zcM,zdS,zfm,cT,cF,jV,jZ]};{simp only [zbe,cF,zoN]}
theorem zFc:vV 268 zw3:=hF2 zC0 zbf zn zo zNW zMQ
def znZ (x y:List Guest):Bool:=pc (x=y)
def zng (_ _:List Guest):Bool:=true
def zvL:Run:=rF2 (dS .guest) (dS .guest) λb c=>(znZ b c,[aB<|zng b c])
def zx0 (N:Nat)(b c:lG):OA:=
 (cond (ine (ln b)<|ln c) oF<|iter (σ:=(Int×lG×lG×Unit)) N (λf a=>let e:=ix a.2.1 a.1 zu;let d:=ix a.2.2.1 a.1 zu; (cond (ilt a.1<|ln a.2.1) (oN (inb a.1<|ln a.2.1)<|oN (inb a.1<|ln a.2.2.1)<|oN (zit e d)<|cond (nB<|zhN e d) oF<|f (zN .i64 a.1 1,a.2.1,a.2.2.1,())) oT)) (0,b,c,()))
def zJV:=zq [(267,0,{n:=27,tm:=[(0,.sl 0 []),(1,.sl 1 []),(5,ti)],lo:=[],ro:=[(0,.guest,false),(1,.guest,false)]})]
theorem zJr (a b:List Guest)(d:zbE big [aS .guest a,aS .guest b])(e:znZ a b=true):∃N,zx0 N a b=some [aB<|zng a b]:=by
 have:=zD.1 e;subst this;have f:=len0 d;refine⟨a.length+1,?_⟩;unfold zx0 oN nB;conv=>zeta
 rw[zcM];refine zmA a zu _ _ f (λi c rec=>?_) (λrec=>?_) (j3 _);{simp only [zbn c,zU c,zbb c,zit,zhN,znm,zcM,zdS,zfm,cT,cF,jV,jZ]};{simp only [zbe,cF,zng]}
theorem zDl:vV 267 zvL:=hF2 zC0 zbf zn zo zJV zJr
def z4g:zbd:=[(268,zw3),(267,zvL)]++z4f
theorem zR5:zQ z4g:=zf zFc (zf zDl zC0)
def zsx (x y:Mon):Bool:=pc (x=y)
def zti (_ _:Mon):Bool:=true
def zBb:Run:=rF2 (dT .mon) (dT .mon) λb c=>(zsx b c,[aB<|zti b c])
def zGi (N:Nat)(a b:Mon):OA:=
 (oN (zC a.Outer b.Outer)<|cond (zy a.Outer b.Outer) (oN (zhO a.Out b.Out)<|cond (zkp a.Out b.Out) (oN (zj5 a.Dirty b.Dirty)<|cond (zkL a.Dirty b.Dirty) (oN (znZ a.Guests b.Guests)<|cond (zng a.Guests b.Guests) (oN (zia a.Outs b.Outs)<|cond (zbq a.Outs b.Outs) (cond (ieq a.Pending b.Pending) (cond (ieq a.Traps b.Traps) (oN (zo8 a.Tables b.Tables)<|cond (zoN a.Tables b.Tables) (some [aB<|ieq a.Own b.Own]) oF) oF) oF) oF) oF) oF) oF) oF)
theorem zTO (a b:Mon)(c:zsx a b=true):∃N,zGi N a b=some [aB<|zti a b]:=by have:=zD.1 c;subst this;refine⟨0,?_⟩;simp only[zGi,zC,zy,zhO,zkp,zj5,zkL,znZ,zng,zia,zbq,zo8,zoN,znm,zcM,zdS,zfm,cT,cF,jV,jZ,zti]
theorem zLO:vV 159 zBb:=kF2 zR5 zbf zn zo (zq []) zTO
def z4h:zbd:=[(159,zBb)]++z4g
theorem zR6:zQ z4h:=zf zLO zR5
def zqy (x y:List Mon):Bool:=pc (x=y)
def zqx (_ _:List Mon):Bool:=true
def zyX:Run:=rF2 (dS .mon) (dS .mon) λb c=>(zqy b c,[aB<|zqx b c])
def zCf (N:Nat)(b c:lN):OA:=
 (cond (ine (ln b)<|ln c) oF<|iter (σ:=(Int×lN×lN×Unit)) N (λf a=>let e:=ix a.2.1 a.1 zh;let d:=ix a.2.2.1 a.1 zh; (cond (ilt a.1<|ln a.2.1) (oN (inb a.1<|ln a.2.1)<|oN (inb a.1<|ln a.2.2.1)<|oN (zsx e d)<|cond (nB<|zti e d) oF<|f (zN .i64 a.1 1,a.2.1,a.2.2.1,())) oT)) (0,b,c,()))
def zQ8:=zq [(61,0,{n:=27,tm:=[(0,.sl 0 []),(1,.sl 1 []),(5,ti)],lo:=[],ro:=[(0,.mon,false),(1,.mon,false)]})]
theorem zQd (a b:List Mon)(d:zbE big [aS .mon a,aS .mon b])(e:zqy a b=true):∃N,zCf N a b=some [aB<|zqx a b]:=by
 have:=zD.1 e;subst this;have f:=len0 d;refine⟨a.length+1,?_⟩;unfold zCf oN nB;conv=>zeta
 rw[zcM];refine zmA a zh _ _ f (λi c rec=>?_) (λrec=>?_) (j3 _);{simp only [zbn c,zU c,zbb c,zsx,zti,znm,zcM,zdS,zfm,cT,cF,jV,jZ]};{simp only [zbe,cF,zqx]}
theorem zIO:vV 61 zyX:=hF2 zR6 zbf zn zo zQ8 zQd
def zbcc:zbd:=[(61,zyX)]++z4h
theorem z4i:zQ zbcc:=zf zIO zR6
def zvy (x y:Host):Bool:=pc (x=y)
def zuq (_ _:Host):Bool:=true
def zyU:Run:=rF2 dH dH λb c=>(zvy b c,[aB<|zuq b c])
def zCb (N:Nat)(a b:Host):OA:=
 (oN (zhO a.Memory b.Memory)<|cond (zkp a.Memory b.Memory) (oN (zqy a.Mons b.Mons)<|cond (zqx a.Mons b.Mons) (oN (zli a.Buffer b.Buffer)<|cond (zlh a.Buffer b.Buffer) (oN (zli a.IoBuffer b.IoBuffer)<|some [aB<|zlh a.IoBuffer b.IoBuffer]) oF) oF) oF)
theorem zP9 (a b:Host)(c:zvy a b=true):∃N,zCb N a b=some [aB<|zuq a b]:=by have:=zD.1 c;subst this;refine⟨0,?_⟩;simp only[zCb,zhO,zkp,zqy,zqx,zli,zlh,znm,zcM,zdS,zfm,cT,cF,jV,jZ,zuq]
theorem zIK:vV 17 zyU:=kF2 z4i zbf zn zo (zq []) zP9
def Ends {b:Type}(G:b->Prop)(o:Option b):Prop:=∃a,o=some a/\G a
section
variable {ρ:Type} {G:ρ->Prop}
theorem zbH {c:Bool}{a b:Option ρ}(h:c=true)(k:Ends G a):Ends G (cond c a b):=by rw[h];exact k
theorem zbaQ {c:Bool}{a b:Option ρ}(h:c=false)(k:Ends G b):Ends G (cond c a b):=by rw[h];exact k
theorem zd0 {c:Bool}{a b:Option ρ}(d:c=true->Ends G a)(e:c=false->Ends G b):Ends G (cond c a b):=by cases c;{exact e rfl};{exact d rfl}
theorem zpA {x:Option ρ}{f:Option ρ->Option ρ}(h:Ends G x)(k:∀t,Ends G t->Ends G (f t)):Ends G (share x f):=k x h
theorem zK8 {a:ρ}(h:G a):Ends G (some a):=⟨a,rfl,h⟩
theorem zye {b:Type}{F:(b->Option ρ)->b->Option ρ}(I:Nat->b->Prop)(h:∀n s rec,I n s->(∀k a,k<n->I k a->Ends G (rec a))->Ends G (F rec s)):∀(N n:Nat) (s:b),I n s->n<N->Ends G (iter N F s)
 | 0,n,s,_,c=>absurd c (Nat.not_lt_zero n)
 |N+1,n,s,d,c=>h n s (iter N F) d λk a f e=>zye I h N k a e (by omega)
theorem zbaU {G:Ans->Prop}{o:OA}{r:Ans}(h:Ends (λa=>a=r) o):o=some r:=by obtain⟨a,b,c⟩:=h;rw[b,c]
end
instance:Inhabited Cur:=⟨⟨[],0,0⟩⟩
def uC {T:Type}(ok:T->Prop):Bool:=pc (∃v,ok v)
def uV {T:Type}[Nonempty T](ok:T->Prop):T:=Classical.epsilon ok
theorem uG {T:Type}[Nonempty T]{ok:T->Prop}(h:uC ok=true):ok (uV ok):=Classical.epsilon_spec (zD.1 h)
def wC {T:Type}(ok:Cur->T->Prop):Bool:=uC λr:Cur×T=>ok r.1 r.2
def wS {T:Type}[Nonempty T](ok:Cur->T->Prop):Cur:=bif wC ok then (uV λr:Cur×T=>ok r.1 r.2).1 else ⟨[],0,0⟩
def wV {T:Type}[Nonempty T](ok:Cur->T->Prop):T:=(uV λr:Cur×T=>ok r.1 r.2).2
theorem wG {T:Type}[Nonempty T]{ok:Cur->T->Prop}(h:wC ok=true):ok (wS ok) (wV ok):=by unfold wS wV;rw[h,cT];exact uG h
theorem wP {T:Type}[Nonempty T]{ok:Cur->T->Prop}(k:∀{s v},ok s v->0<=s.i):0<=(wS ok).i:=by cases h:wC ok with|false=>unfold wS;rw[h];exact u2 0|true=>exact k (wG h)
abbrev wE {T:Type}(e:T->AV)(b:List Int)(c:T->Prop):Ans->Prop:=λa=>∃s d,a=(AV.agg (zgQ s)::[e d])/\(s.b=b/\0<=s.i)/\c d
theorem wI {T:Type}{ok:Cur->T->Prop}{E:Nat->OA}{d:T->AV}{b:List Int}{c:T->Prop}(k:∀s v,((∃N,E N=some (AV.agg (zgQ s)::[d v]))/\(s.b=b/\0<=s.i)/\c v)->ok s v)(h:∃N,Ends (wE d b c)<|E N):wC ok=true:=by obtain⟨N,a,e,s,v,rfl,h⟩:=h;exact zba ⟨(s,v),k s v ⟨⟨N,e⟩,h⟩⟩
abbrev zmX:=List CV->List AV->Option (Bool×List CV×List AV)
abbrev zHP:=List AV->Option (Bool×List CV×List AV)
def pR (k:Cur->zHP):zmX
 |[.s .u8 b,.i .i64 i,.i .i64 h],a=>k ⟨b,i,h⟩ a
 |_,_=>none
def z7M {b:Type}(D:Dc b)(k:b->zHP):zHP
 |[]=>none
 |a::l=>match D.d a with
  |some x=>k x l
  |none=>none
def zUN (r:Bool×Cur×List AV):zHP
 |[]=>some (r.1,zgQ r.2.1,r.2.2)
 |_=>none
theorem zbcE {k:Cur->zHP}{b:List CV}{a:List AV}{r:Bool×List CV×List AV}(h:pR k b a=some r):∃c,b=zgQ c/\k c a=some r:=by unfold pR at h;split at h;{exact⟨_,rfl,h⟩};{cases h}
theorem z7N {c:Type}{D:Dc c}{k:c->zHP}{b:List AV}{r:Bool×List CV×List AV}(h:z7M D k b=some r):∃x l,b=D.e x::l/\k x l=some r:=by unfold z7M at h;split at h;{cases h};{rename_i a l;split at h;{rename_i x d;exact⟨x,l,by rw[D.h d],h⟩};{cases h}}
theorem zSv {q:Bool×Cur×List AV}{b:Bool}{c:List CV}{d a:List AV}(h:zUN q a=some (b,c,d)):a=[]/\q.1=b/\c=zgQ q.2.1/\d=q.2.2:=by unfold zUN at h;split at h<;>cases h;exact⟨rfl,rfl,rfl,rfl⟩
section
variable {c:zbd} {m:ziB} {p:zeE} {t:zgP} (o1:zQ c) (o2:zg2 m) (o3:zdj p) (o4:zfu t) (tms:FuncId->Nat->Option Tmpl) {f:FuncId}
include o1 o2 o3 o4
theorem hPx {k:Cur->zHP}(j:zgB f=true)(h:∀x b a d,k x b=some (true,a,d)->a.length=3/\∃N,zst (cQ c m p t) tms N 12 f [false,true,true] (zgQ x) b=some (.agg a::d)):zec Tryz.prog f [false,true,true] (pR k):=by refine zjd (zin o1 o2 o3 o4) (zkm j) ?_;intro l b a d n q e;obtain⟨x,rfl,e⟩:=zbcE e;obtain⟨g,N,i⟩:=h x b a d e;exact⟨g,tms,N,12,i⟩
def rP0 (g:Cur->Bool×Cur×List AV):zmX:=pR λc=>zUN (g c)
theorem hP0 {g:Cur->Bool×Cur×List AV}{E:Nat->Cur->OA}(a:∀x,(g x).1=true->∃N,E N x=some (.agg (zgQ (g x).2.1)::(g x).2.2))(k:∀N x,zst (cQ c m p t) tms N 12 f [false,true,true] (zgQ x) []=E N x:=by intros;kernel_rfl)(j:zgB f=true:=by kernel_rfl):zec Tryz.prog f [false,true,true] (rP0 g):=
 hPx o1 o2 o3 o4 tms j λx b d l e=>by obtain⟨rfl,i,rfl,rfl⟩:=zSv e;obtain⟨N,h⟩:=a x i;exact⟨rfl,N,(k N x).trans h⟩
def rP1 {A:Type}(D:Dc A)(g:Cur->A->Bool×Cur×List AV):zmX:=pR λc=>z7M D λa=>zUN (g c a)
theorem hP1 {A:Type}{D:Dc A}{g:Cur->A->Bool×Cur×List AV}{E:Nat->Cur->A->OA}(b:∀x a,(g x a).1=true->∃N,E N x a=some (.agg (zgQ (g x a).2.1)::(g x a).2.2))(q:∀N x a,zst (cQ c m p t) tms N 12 f [false,true,true] (zgQ x) [D.e a]=E N x a:=by intros;kernel_rfl)(n:zgB f=true:=by kernel_rfl):zec Tryz.prog f [false,true,true] (rP1 D g):=
 hPx o1 o2 o3 o4 tms n λx d i r e=>by obtain⟨a,l,rfl,j⟩:=z7N e;obtain⟨rfl,k,rfl,rfl⟩:=zSv j;obtain⟨N,h⟩:=b x a k;exact⟨rfl,N,(q N x a).trans h⟩
end
instance:Inhabited Ins:=⟨⟨0,0⟩⟩
instance:Inhabited GAct:=⟨⟨0,0,0,0,0,0⟩⟩
instance:Inhabited Ctl:=⟨⟨0,0,false⟩⟩
instance:Inhabited Host:=⟨⟨[],[],[],[]⟩⟩
def zej (c:Cur):Prop:=0<=c.i/\c.b.length<=big
theorem zjQ {T:Type}(d:T->AV){c:T->Prop}{b:List Int}{x y:Int}{v:T}(h:0<=x)(g:c v):Ends (λa=>∃s e,a=(AV.agg (zgQ s)::[d e])/\(s.b=b/\0<=s.i)/\c e) (some (AV.agg [.s .u8 b,.i .i64 x,.i .i64 y]::[d v])):=
 ⟨_,rfl,⟨b,x,y⟩,v,rfl,⟨rfl,h⟩,g⟩
def zxk (N:Nat)(c:Cur)  : OA :=
 let a:=zN .i64 (zry .i64 c.h 6364136223846793005) 1442695040888963407;let d:=wand .i64 (z8x .i64 (zlC .i64 a 33)<|zlC .i64 a 45) 255; (oN (ile 0 33)<|oN (ile 0 45)<|cond (ilt c.i<|ln c.b) (oN (inb c.i<|ln c.b)<|some [.agg [.s .u8 c.b,.i .i64<|zN .i64 c.i 1,.i .i64 a],aI<|wand .i64 (zN .i64 d<|wcv .i64<|ix c.b c.i 0) 255])<|some [.agg [.s .u8 c.b,.i .i64 c.i,.i .i64 a],aI d])
def zrh (c:Cur)(s:Cur)(a:Int):Prop:=(∃N,zxk N c=some (AV.agg (zgQ s)::[aI a]))/\(s.b=c.b/\0<=s.i)/\(0<=a/\a<=255)
def zfO (c:Cur)  : Bool:=wC (zrh c)
def zea (c:Cur)  : Cur:=wS (zrh c)
def zik (c:Cur)  : Int:=wV (zrh c)
theorem zo2 {c:Cur}(h:zfO c=true):zrh c (zea c) (zik c):=wG h
theorem zo3 (c:Cur)  : 0<=(zea c).i:=wP λh=>h.2.1.2
theorem zZB (c:Cur)(h:∃N,Ends (wE (λa=>aI a) c.b λa=>0<=a/\a<=255)<|zxk N c):zfO c=true:=wI (λ_ _ h=>h) h
def zyE:zmX:=rP0 λc=>(zfO c,zea c,[aI<|zik c])
theorem zMa:zec Tryz.prog 161 [false,true,true] zyE:=hP0 ze2 zbf zn zo (zq []) (λ_ h=>(zo2 h).1)
theorem zSQ {x m:Int}(c:0<=m)(d:m<9223372036854775808):0<=wand .i64 x m/\wand .i64 x m<=m:=by have b:(BitVec.ofInt 64 m).toNat=m.toNat:=(by rw[BitVec.toNat_ofInt];omega);have a:(BitVec.ofInt 64 x &&& BitVec.ofInt 64 m).toNat<=m.toNat:=(by rw[BitVec.toNat_and,b];exact Nat.and_le_right);unfold wand;show 0<=IntKind.wrap .i64 ((BitVec.ofInt 64 x &&& BitVec.ofInt 64 m).toNat:Int)/\IntKind.wrap .i64 ((BitVec.ofInt 64 x &&& BitVec.ofInt 64 m).toNat:Int)<=m;rw[zuW (by omega) (by omega)];omega
@[simp] theorem zK1 {c:Cur}(h:zej c):zfO c=true:=by
 refine zZB c ⟨0,?_⟩;unfold zxk oN;conv=>zeta
 refine zbH rfl (zbH rfl (zd0 (λa=>zbH (qK ⟨h.1,qD a⟩) (zjQ aI ?_<|zSQ (by omega) (by omega))) λ_=>zjQ aI h.1 (zSQ (by omega) (by omega))));have d:c.i<ln c.b:=qD a;have e:=h.2;have f:=h.1;rw[zx9]at e;unfold ln at d;rw[zsf (by omega) (by omega)];omega
def z9S:zeE:=[(161,[false,true,true],zyE)]++zQJ
theorem zXd:zdj z9S:=zfr zn (by
 intro x a;simp only[qG,qZ,or_false]at a;rcases a with rfl
 .exact zMa)
theorem zH7 {b:List Int}{i h:Int}(a:0<=i)(c:b.length<=big):zej ⟨b,i,h⟩:=⟨a,c⟩
theorem z02 {x n:Int}(a:0<=x)(b:0<n):0<=zoF x n/\zoF x n<n:=by unfold zoF;exact⟨Int.tmod_nonneg _ a,Int.tmod_lt_of_pos _ b⟩
def zu0 (N:Nat)(c:Cur)(a:Int):OA:=
 let f:=({ (zea c) with b:=c.b}:Cur);let e:=({ (zea f) with b:=c.b}:Cur);let d:=({ (zea e) with b:=c.b}:Cur); (cond (ile a 0) (some [.agg [.s .u8 c.b,.i .i64 c.i,.i .i64 c.h],aI 0])<|cond (ile a 256) (oN (zfO c)<|oN (ine a 0)<|some [.agg [.s .u8 c.b,.i .i64 (zea c).i,.i .i64 (zea c).h],aI<|zoF (zik c) a])<|oN (zfO c)<|oN (zfO f)<|oN (zfO e)<|oN (zfO d)<|oN (ine a 0)<|some [.agg [.s .u8 c.b,.i .i64 (zea d).i,.i .i64 (zea d).h],aI<|zoF (zN .i64 (zN .i64 (zN .i64 (zry .i64 (zik c) 16777216)<|zry .i64 (zik f) 65536)<|zry .i64 (zik e) 256)<|zik d) a])
def zpt (c:Cur)(a:Int)(s:Cur)(d:Int):Prop:=(∃N,zu0 N c a=some (AV.agg (zgQ s)::[aI d]))/\(s.b=c.b/\0<=s.i)/\(0<a->0<=d/\d<a)
def zby (c:Cur)(a:Int):Bool:=wC (zpt c a)
def zI (c:Cur)(a:Int):Cur:=wS (zpt c a)
def zbt (c:Cur)(a:Int):Int:=wV (zpt c a)
theorem zvT {c:Cur}{a:Int}(h:zby c a=true):zpt c a (zI c a) (zbt c a):=wG h
theorem zc0 (c:Cur)(a:Int):0<=(zI c a).i:=wP λh=>h.2.1.2
theorem zXz (c:Cur)(a:Int)(h:∃N,Ends (wE (λd=>aI d) c.b λd=>0<a->0<=d/\d<a)<|zu0 N c a):zby c a=true:=wI (λ_ _ h=>h) h
def zwU:zmX:=rP1 dI λc b=>(zby c b,zI c b,[aI<|zbt c b])
theorem zI9:zec Tryz.prog 65 [false,true,true] zwU:=hP1 ze2 zbf zXd zo (zq []) (λ_ _ h=>(zvT h).1)
theorem zj2 {c:Cur}(h:zej c)(n:Int):zby c n=true:=by
 refine zXz c n ⟨0,?_⟩;have f:=zK1 h;have k:zfO {zea c with b:=c.b}=true:=zK1 (zH7 (zo3 _) h.2);have l:zfO {zea {zea c with b:=c.b} with b:=c.b}=true:=zK1 (zH7 (zo3 _) h.2);have m:zfO {zea {zea {zea c with b:=c.b} with b:=c.b} with b:=c.b}=true:=zK1 (zH7 (zo3 _) h.2);have i:=(zo2 f).2.2;have q:=(zo2 k).2.2;have r:=(zo2 l).2.2;have s:=(zo2 m).2.2;unfold zu0 oN;conv=>zeta
 refine zd0 (λd=>zjQ aI h.1 λu=>absurd (qD d) (by omega)) (λd=>?_);have u:¬ n<=0:=qY d;have j:ine n 0=true:=(by simp[ine];omega);refine zd0 (λt=>zbH f (zbH j<|zjQ aI (zo3 _) λe=>z02 i.1 e)) (λt=>?_);refine zbH f (zbH k<|zbH l<|zbH m<|zbH j<|zjQ aI (zo3 _) λe=>z02 ?_ e);generalize zik c=a at i;generalize zik _=g at q;generalize zik _=p at r;generalize zik _=z at s;have v:zry .i64 a 16777216=a*16777216:=zuW (by omega) (by omega);have w:zry .i64 g 65536=g*65536:=zuW (by omega) (by omega);have y:zry .i64 p 256=p*256:=zuW (by omega) (by omega);rw[v,w,y,zsf (x:=a*16777216) (by omega) (by omega),zsf (x:=a*16777216+g*65536) (by omega) (by omega),zsf (by omega) (by omega)];omega
def z9T:zeE:=[(65,[false,true,true],zwU)]++z9S
theorem zJF:zdj z9T:=zfr zXd (by
 intro x a;simp only[qG,qZ,or_false]at a;rcases a with rfl
 .exact zI9)
def zxl (N:Nat)(c:Cur)(a:Int):OA:=
 (oN (zby c a)<|some [.agg [.s .u8 c.b,.i .i64 (zI c a).i,.i .i64 (zI c a).h],aB<|ieq (zbt c a) 0])
def zri (c:Cur)(a:Int)(s:Cur)(d:Bool):Prop:=(∃N,zxl N c a=some (AV.agg (zgQ s)::[aB d]))/\(s.b=c.b/\0<=s.i)/\(True)
def zgX (c:Cur)(a:Int):Bool:=wC (zri c a)
def zdW (c:Cur)(a:Int):Cur:=wS (zri c a)
def zlJ (c:Cur)(a:Int):Bool:=wV (zri c a)
theorem zZC {c:Cur}{a:Int}(h:zgX c a=true):zri c a (zdW c a) (zlJ c a):=wG h
theorem zi1 (c:Cur)(a:Int):0<=(zdW c a).i:=wP λh=>h.2.1.2
theorem zZD (c:Cur)(a:Int)(h:∃N,Ends (wE (λd=>aB d) c.b λd=>True)<|zxl N c a):zgX c a=true:=wI (λ_ _ h=>h) h
def zyF:zmX:=rP1 dI λc b=>(zgX c b,zdW c b,[aB<|zlJ c b])
theorem zMb:zec Tryz.prog 93 [false,true,true] zyF:=hP1 ze2 zbf zJF zo (zq []) (λ_ _ h=>(zZC h).1)
theorem zNe {c:Cur}(h:zej c)(n:Int):zgX c n=true:=by refine zZD c n ⟨0,?_⟩;unfold zxl oN;exact zbH (zj2 h _) (zjQ aB (zc0 _ _) trivial)
def zrF (N:Nat)(c:Cur)(a:List Int):OA:=
 (oN (zby c<|ln a)<|oN (inb (zbt c<|ln a)<|ln a)<|some [.agg [.s .u8 c.b,.i .i64 (zI c<|ln a).i,.i .i64 (zI c<|ln a).h],aI<|ix a (zbt c<|ln a) 0])
def zmV (c:Cur)(a:List Int)(s:Cur)(d:Int):Prop:=(∃N,zrF N c a=some (AV.agg (zgQ s)::[aI d]))/\(s.b=c.b/\0<=s.i)/\(0<a.length->d∈a)
def zeR (c:Cur)(a:List Int):Bool:=wC (zmV c a)
def zcC (c:Cur)(a:List Int):Cur:=wS (zmV c a)
def zeQ (c:Cur)(a:List Int):Int:=wV (zmV c a)
theorem zy3 {c:Cur}{a:List Int}(h:zeR c a=true):zmV c a (zcC c a) (zeQ c a):=wG h
theorem zhK (c:Cur)(a:List Int):0<=(zcC c a).i:=wP λh=>h.2.1.2
theorem zQP (c:Cur)(a:List Int)(h:∃N,Ends (wE (λd=>aI d) c.b λd=>0<a.length->d∈a)<|zrF N c a):zeR c a=true:=wI (λ_ _ h=>h) h
def zt7:zmX:=rP1 (dS .int) λc b=>(zeR c b,zcC c b,[aI<|zeQ c b])
theorem zDr:zec Tryz.prog 194 [false,true,true] zt7:=hP1 ze2 zbf zJF zo (zq []) (λ_ _ h=>(zy3 h).1)
theorem zvE {c:Cur}(h:zej c){l:List Int}(b:l≠[]):zeR c l=true:=by refine zQP c l ⟨0,?_⟩;have d:0<ln l:=(by unfold ln;have:=kU.2 b;omega);have g:=(zvT<|zj2 h<|ln l).2.2 d;have a:inb (zbt c<|ln l) (ln l)=true:=qK ⟨g.1,g.2⟩;unfold zrF oN;exact zbH (zj2 h _) (zbH a<|zjQ aI (zc0 _ _) λ_=>zbQ a 0)
def z9U:zeE:=[(93,[false,true,true],zyF),(194,[false,true,true],zt7)]++z9T
theorem zXe:zdj z9U:=zfr zJF (by
 intro x a;simp only[qG,qZ,or_false]at a;rcases a with rfl|rfl
 .exact zMb
 .exact zDr)
theorem zf1 {c:Cur}{i k:Int}(h:zej c)(a:0<=i):zej ⟨c.b,i,k⟩:=⟨a,h.2⟩
theorem zbbn {c:Cur}(h:zej c){l:List Int}(a:l≠[]):zeQ c l∈l:=(zy3<|zvE h a).2.2 (kU.2 a)
theorem zrJ {c:Cur}(h:zej c){n:Int}(a:0<n):0<=zbt c n/\zbt c n<n:=(zvT<|zj2 h n).2.2 a
theorem zMv {o x:Int}(h:(o=1\/o=2\/o=5\/o=6)/\0<=x/\x<=99\/(o=3\/o=4)/\0<=x/\x<=15\/o=8/\0<=x/\x<=11):zfT ⟨o,x⟩=true:=by have w:∀{a b:Int},a<=x->x<=b->zi x a b=true:=λc d=>(by simp only[zi,ige,ile,qE,qX];exact⟨c,d⟩);rcases h with⟨h|h|h|h,c,d⟩|⟨h|h,c,d⟩|⟨h,c,d⟩<;>subst h<;>exact w c d
def zza (N:Nat)(c:Cur)  : OA :=
 let d:=zeQ c [1,2,3,3,3,4,4,4,5,6,8];let a:=({ (zcC c [1,2,3,3,3,4,4,4,5,6,8]) with b:=c.b}:Cur); (share (oN (zby a 16)<|some [.agg [.s .u8 c.b,.i .i64 (zI a 16).i,.i .i64 (zI a 16).h],.agg [.i .i64 d,.i .i64<|zbt a 16]]) λf=>share (cond (ieq d 8) (oN (zby a 4)<|some [.agg [.s .u8 c.b,.i .i64 (zI a 4).i,.i .i64 (zI a 4).h],.agg [.i .i64 d,.i .i64<|zbt a 4]])<|oN (zby a 100)<|some [.agg [.s .u8 c.b,.i .i64 (zI a 100).i,.i .i64 (zI a 100).h],.agg [.i .i64 d,.i .i64<|zbt a 100]]) λe=>oN (zeR c [1,2,3,3,3,4,4,4,5,6,8])<|cond (ieq d 3) (cond (ieq d 3) f e)<|cond (ieq d 4) f e)
def zsL (c:Cur)(s:Cur)(a:Ins):Prop:=(∃N,zza N c=some (AV.agg (zgQ s)::[aT .ins a]))/\(s.b=c.b/\0<=s.i)/\(zfT a=true)
def zrj (c:Cur)  : Bool:=wC (zsL c)
def zrk (c:Cur)  : Cur:=wS (zsL c)
def zz8 (c:Cur)  : Ins:=wV (zsL c)
theorem zNt {c:Cur}(h:zrj c=true):zsL c (zrk c) (zz8 c):=wG h
theorem z2x (c:Cur)  : 0<=(zrk c).i:=wP λh=>h.2.1.2
theorem z2w (c:Cur)(h:∃N,Ends (wE (λa=>aT .ins a) c.b λa=>zfT a=true)<|zza N c):zrj c=true:=wI (λ_ _ h=>h) h
def zA2:zmX:=rP0 λc=>(zrj c,zrk c,[aT .ins<|zz8 c])
theorem zPu:zec Tryz.prog 345 [false,true,true] zA2:=hP0 ze2 zbf zXe zo (zq []) (λ_ h=>(zNt h).1)
theorem z9I {c:Cur}(h:zej c):zrj c=true:=by
 refine z2w c ⟨0,?_⟩;have p:([1,2,3,3,3,4,4,4,5,6,8]:List Int)≠[]:=(by simp);have q:=zbbn h p;have f:zej {zcC c [1,2,3,3,3,4,4,4,5,6,8] with b:=c.b}:=zf1 h (zhK _ _);have t:=zrJ f (n:=16) (by omega);have w:=zrJ f (n:=4) (by omega);have m:=zrJ f (n:=100) (by omega);unfold zza oN;conv=>zeta
 generalize zeQ c [1,2,3,3,3,4,4,4,5,6,8]=o at q;simp only[qG,qZ,or_false]at q;have j:∀{n:Int},ieq o n=false->o≠n:=λh e=>(by subst e;simp[ieq]at h);have k:∀{n:Int},ieq o n=true->o=n:=λh=>by simpa [ieq] using h
 have L:∀(n:Int),0<n->(zfT ⟨o,zbt {zcC c [1,2,3,3,3,4,4,4,5,6,8] with b:=c.b} n⟩=true)->Ends (λa=>∃s r,a=(AV.agg (zgQ s)::[aT .ins r])/\(s.b=c.b/\0<=s.i)/\zfT r=true)
  (cond (zby {zcC c [1,2,3,3,3,4,4,4,5,6,8] with b:=c.b} n) (some (AV.agg [.s .u8 c.b,.i .i64 (zI {zcC c [1,2,3,3,3,4,4,4,5,6,8] with b:=c.b} n).i,.i .i64 (zI {zcC c [1,2,3,3,3,4,4,4,5,6,8] with b:=c.b} n).h]::[.agg [.i .i64 o,.i .i64<|zbt {zcC c [1,2,3,3,3,4,4,4,5,6,8] with b:=c.b} n]])) none):=
  λn x u=>zbH (zj2 f n) (zjQ (aT .ins) (v:=⟨o,zbt _ n⟩) (zc0 _ _) u)
 refine zbH (zvE h p) (zd0 (λg=>zd0 (λ_=>L 16 (by omega) (zMv ?_)) λd=>absurd (k g) (j d)) λg=>zd0 (λd=>L 16 (by omega) (zMv ?_)) λd=>zd0 (λl=>L 4 (by omega) (zMv ?_)) λl=>L 100 (by omega) (zMv ?_));{have:=k g;omega};{have:=k d;omega};{have:=k l;omega};{have:=j g;have:=j d;have:=j l;omega}
def z9V:zeE:=[(345,[false,true,true],zA2)]++z9U
theorem zXf:zdj z9V:=zfr zXe (by
 intro x a;simp only[qG,qZ,or_false]at a;rcases a with rfl
 .exact zPu)
theorem zp8 {x y:Int}(a:0<=x)(b:x<=1000000)(c:0<=y)(d:y<=1000000):zN .i64 x y=x+y:=zsf (by omega) (by omega)
theorem zvf {a:Type}{l:List a}(h:ln l<=1000000):few (ln l)=true:=qK ⟨by unfold ln;omega,by omega⟩
theorem zqz {a:Type}(l:List a)(x:a):ln (ap l [x])=ln l+1:=by simp[ln,ap]
def zxm (N:Nat)(c:Cur)  : OA :=
 (iter (σ:=(Int×Int×Int×lI×(List Int)×Unit)) N (λj d=>let e:=d.2.2.2.1;let f:=d.2.2.2.2.1;let g:=(⟨f,d.2.1,d.2.2.1⟩:Cur);let a:=({ (zI g 7) with b:=f}:Cur); (oN (zby g 7)<|cond (ilt d.1<|zN .i64 2<|zbt g 7) (oN (zrj a)<|oN (few<|ln<|ap e [zz8 a])<|j (zN .i64 d.1 1,(zrk a).i,(zrk a).h,ap e [zz8 a],f,()))<|oN (zgX a 3)<|cond (zlJ a 3) (oN (few<|ln<|ap e [(⟨7,0⟩:Ins)])<|some [.agg [.s .u8 f,.i .i64 (zdW a 3).i,.i .i64 (zdW a 3).h],aS .ins<|ap e [(⟨7,0⟩:Ins)]])<|oN (few<|ln<|ap e [(⟨8,0⟩:Ins)])<|some [.agg [.s .u8 f,.i .i64 (zdW a 3).i,.i .i64 (zdW a 3).h],aS .ins<|ap e [(⟨8,0⟩:Ins)]])) (0,c.i,c.h,[],c.b,()))
def zUA:=zq [(283,0,{n:=29,tm:=[(0,.lp 0 0),(3,.sl 0 []),(4,ti)],lo:=[(0,[.sl 1 [],ti,ti])],ro:=[(0,.ins,true),(1,.u8,false)]})]
def zrl (c:Cur)(s:Cur)(a:List Ins):Prop:=(∃N,zxm N c=some (AV.agg (zgQ s)::[aS .ins a]))/\(s.b=c.b/\0<=s.i)/\(zen a=true)
def zmD (c:Cur)  : Bool:=wC (zrl c)
def zmE (c:Cur)  : Cur:=wS (zrl c)
def ztq (c:Cur)  : List Ins:=wV (zrl c)
theorem zHs {c:Cur}(h:zmD c=true):zrl c (zmE c) (ztq c):=wG h
theorem zZF (c:Cur)  : 0<=(zmE c).i:=wP λh=>h.2.1.2
theorem zZE (c:Cur)(h:∃N,Ends (wE (λa=>aS .ins a) c.b λa=>zen a=true)<|zxm N c):zmD c=true:=wI (λ_ _ h=>h) h
def zyG:zmX:=rP0 λc=>(zmD c,zmE c,[aS .ins<|ztq c])
theorem zMe:zec Tryz.prog 283 [false,true,true] zyG:=hP0 ze2 zbf zXf zo zUA (λ_ h=>(zHs h).1)
theorem z5s {c:Cur}(h:zej c):zmD c=true:=by
 refine zZE c ⟨9,?_⟩;unfold zxm oN;conv=>zeta
 refine zye (λn s=>s.1+(n:Int)=8/\0<=s.1/\0<=s.2.1/\(∀x∈s.2.2.2.1,zfT x=true)/\ln s.2.2.2.1=s.1/\s.2.2.2.2.1=c.b) ?_ 9 8 _ ⟨rfl,u2 0,h.1,by simp,rfl,rfl⟩ (by omega);rintro n ⟨t,i,k,l,b,u⟩ rec ⟨B,g,v,j,w,z⟩ f;dsimp only at B g v j w z ⊢;subst z;have a:zej ⟨c.b,i,k⟩:=zf1 h v;have d:=zrJ a (n:=7) (by omega);have A:=zp8 (x:=2) (by omega) (by omega) d.1 (by omega);have m:zej {zI ⟨c.b,i,k⟩ 7 with b:=c.b}:=zf1 h (zc0 _ _);have e:∀(y:Ins),zfT y=true->2<=t->zen (ap l [y])=true:=(by intro y C D;unfold zen;rw[zqz,w];have:(ap l [y]).all zfT=true:=(by simp only[ap,List.all_append,k9,List.all_nil,vL,qE];exact⟨qL.2 j,C⟩);rw[this,cT];simp only[zi,ige,ile,qE,qX];omega);refine zbH (zj2 a 7) (zd0 (λp=>?_) λp=>?_);{have r:t<zN .i64 2 (zbt ⟨c.b,i,k⟩ 7):=qD p;rw[A]at r;refine zbH (z9I m) (zbH (zvf (by rw[zqz];omega))<|f (n-1) _ (by omega) ⟨?_,?_,z2x _,?_,?_,rfl⟩);{show zN .i64 t 1+_=8;rw[zp8 g (by omega) (by omega) (by omega)];omega};{show 0<=zN .i64 t 1;rw[zp8 g (by omega) (by omega) (by omega)];omega};{intro x d;rcases jP.1 d with d|d;{exact j x d};{rw [qF.1 d];exact(zNt<|z9I m).2.2}};{show ln (ap l [_])=zN .i64 t 1;rw[zqz,zp8 g (by omega) (by omega) (by omega)];omega}};{have q:¬ t<zN .i64 2 (zbt ⟨c.b,i,k⟩ 7):=qY p;rw[A]at q;refine zbH (zNe m 3) (zd0 (λ_=>zbH (zvf (by rw[zqz];omega)) (zjQ (aS .ins) (zi1 _ _) (e _ rfl (by omega)))) λ_=>zbH (zvf (by rw[zqz];omega)) (zjQ (aS .ins) (zi1 _ _) (e _ rfl (by omega))))}
def z9W:zeE:=[(283,[false,true,true],zyG)]++z9V
theorem zXg:zdj z9W:=zfr zXf (by
 intro x a;simp only[qG,qZ,or_false]at a;rcases a with rfl
 .exact zMe)
theorem zYt {f:Type}{c:Cur}(h:zej c){P:f->Prop}{fc:Cur->Bool}{fs:Cur->Cur}{fv:Cur->f}(C:∀{c:Cur},zej c->fc c=true)(D:∀c,0<=(fs c).i)(hg:∀{c:Cur},zej c->P (fv c)){G:Ans->Prop}{R:Cur->List f->Ans}(B:∀s l,s.b=c.b->0<=s.i->1<=l.length->l.length<=2->(∀x∈l,P x)->G (R s l)){F:(Int×Int×Int×List f×List Int×Unit->OA)->Int×Int×Int×List f×List Int×Unit->OA}(A:∀rec t i k l,F rec (t,i,k,l,c.b,())=bif zby ⟨c.b,i,k⟩ 2 then (bif ilt t (zN .i64 1 (zbt ⟨c.b,i,k⟩ 2)) then (bif fc { zI ⟨c.b,i,k⟩ 2 with b:=c.b } then (bif few (ln (ap l [fv { zI ⟨c.b,i,k⟩ 2 with b:=c.b }])) then
        rec (zN .i64 t 1,(fs {zI ⟨c.b,i,k⟩ 2 with b:=c.b}).i,(fs {zI ⟨c.b,i,k⟩ 2 with b:=c.b}).h,ap l [fv {zI ⟨c.b,i,k⟩ 2 with b:=c.b}],c.b,()) else none) else none) else some (R ⟨c.b,(zI ⟨c.b,i,k⟩ 2).i,(zI ⟨c.b,i,k⟩ 2).h⟩ l)) else none) :
 Ends G (iter 3 F (0,c.i,c.h,[],c.b,())):=by
 refine zye (fun n s=>s.1+(n:Int)=2/\0<=s.1/\0<=s.2.1/\(∀x∈s.2.2.2.1,P x)/\ln s.2.2.2.1=s.1/\s.2.2.2.2.1=c.b) ?_ 3 2 _ ⟨rfl,u2 0,h.1,by simp,rfl,rfl⟩ (by omega)
 rintro n ⟨t,i,k,l,b,u⟩ rec ⟨z,m,p,g,q,r⟩ e
 dsimp only at z m p g q r
 subst r;rw[A];have a:zej ⟨c.b,i,k⟩:=zf1 h p;have d:=zrJ a (n:=2) (by omega)
 have w:=zp8 (x:=1) (by omega) (by omega) d.1 (by omega)
 have v:zej {zI ⟨c.b,i,k⟩ 2 with b:=c.b}:=zf1 h (zc0 _ _);refine zbH (zj2 a 2) (zd0 (fun j=>?_) (fun j=>?_))
 .have hlt:t<zN .i64 1 (zbt ⟨c.b,i,k⟩ 2):=qD j;rw[w]at hlt;have E:=zp8 (y:=1) m (by omega) (by omega) (by omega)
  refine zbH (C v) (zbH (zvf (by rw[zqz];omega)) (e (n-1) _ (by omega) ⟨?_,?_,D _,?_,?_,rfl⟩))
  .show zN .i64 t 1+_=2
   omega
  .show 0<=zN .i64 t 1
   omega
  .intro x d;rcases jP.1 d with d|d
   .exact g x d
   .rw [qF.1 d];exact hg v
  .show ln (ap l [_])=zN .i64 t 1
   rw[zqz];omega
 .have hge:¬ t<zN .i64 1 (zbt ⟨c.b,i,k⟩ 2):=qY j;rw[w]at hge;unfold ln at q;exact zK8 (B _ l rfl (zc0 _ _) (by omega) (by omega) g)
def zu1 (N:Nat)(c:Cur)  : OA :=
 (iter (σ:=(Int×Int×Int×lP×(List Int)×Unit)) N (λg a=>let f:=a.2.2.2.2.1;let e:=(⟨f,a.2.1,a.2.2.1⟩:Cur);let d:=({ (zI e 2) with b:=f}:Cur); (oN (zby e 2)<|cond (ilt a.1<|zN .i64 1<|zbt e 2) (oN (zmD d)<|oN (few<|ln<|ap a.2.2.2.1 [ztq d])<|g (zN .i64 a.1 1,(zmE d).i,(zmE d).h,ap a.2.2.2.1 [ztq d],f,()))<|some [.agg [.s .u8 f,.i .i64 (zI e 2).i,.i .i64 (zI e 2).h],aS (.sl .ins) a.2.2.2.1])) (0,c.i,c.h,[],c.b,()))
def zRg:=zq [(190,0,{n:=19,tm:=[(0,.lp 0 0),(3,.sl 0 []),(4,ti)],lo:=[(0,[.sl 1 [],ti,ti])],ro:=[(0,.sl .ins,true),(1,.u8,false)]})]
def zpu (c:Cur)(s:Cur)(a:List (List Ins)):Prop:=(∃N,zu1 N c=some (AV.agg (zgQ s)::[aS (.sl .ins) a]))/\(s.b=c.b/\0<=s.i)/\(1<=a.length/\a.length<=2/\∀x∈a,zen x=true)
def zlw (c:Cur)  : Bool:=wC (zpu c)
def zlx (c:Cur)  : Cur:=wS (zpu c)
def zrn (c:Cur)  : List (List Ins):=wV (zpu c)
theorem zD8 {c:Cur}(h:zlw c=true):zpu c (zlx c) (zrn c):=wG h
theorem zXB (c:Cur)  : 0<=(zlx c).i:=wP λh=>h.2.1.2
theorem zXA (c:Cur)(h:∃N,Ends (wE (λa=>aS (.sl .ins) a) c.b λa=>1<=a.length/\a.length<=2/\∀x∈a,zen x=true)<|zu1 N c):zlw c=true:=wI (λ_ _ h=>h) h
def zwV:zmX:=rP0 λc=>(zlw c,zlx c,[aS (.sl .ins)<|zrn c])
theorem zJa:zec Tryz.prog 190 [false,true,true] zwV:=hP0 ze2 zbf zXg zo zRg (λ_ h=>(zD8 h).1)
theorem z0G {c:Cur}(h:zej c):zlw c=true:=by
 refine zXA c ⟨3,?_⟩;unfold zu1 oN;conv=>zeta
 exact zYt h (P:=λx=>zen x=true) (fc:=zmD) (fs:=zmE) (fv:=ztq) (R:=λs l=>AV.agg (zgQ s)::[aS (.sl .ins) l]) z5s zZF (λh=>(zHs<|z5s h).2.2) (λs l d e a b f=>⟨s,l,rfl,⟨d,e⟩,a,b,f⟩) (λrec t i k l=>rfl)
def z9X:zeE:=[(190,[false,true,true],zwV)]++z9W
theorem zXh:zdj z9X:=zfr zXg (by
 intro x a;simp only[qG,qZ,or_false]at a;rcases a with rfl
 .exact zJa)
def zzc (N:Nat)(c:Cur)  : OA :=
 (iter (σ:=(Int×Int×Int×lQ×(List Int)×Unit)) N (λg a=>let f:=a.2.2.2.2.1;let e:=(⟨f,a.2.1,a.2.2.1⟩:Cur);let d:=({ (zI e 2) with b:=f}:Cur); (oN (zby e 2)<|cond (ilt a.1<|zN .i64 1<|zbt e 2) (oN (zlw d)<|oN (few<|ln<|ap a.2.2.2.1 [zrn d])<|g (zN .i64 a.1 1,(zlx d).i,(zlx d).h,ap a.2.2.2.1 [zrn d],f,()))<|some [.agg [.s .u8 f,.i .i64 (zI e 2).i,.i .i64 (zI e 2).h],aS (.sl<|.sl .ins) a.2.2.2.1])) (0,c.i,c.h,[],c.b,()))
def zYo:=zq [(91,0,{n:=19,tm:=[(0,.lp 0 0),(3,.sl 0 []),(4,ti)],lo:=[(0,[.sl 1 [],ti,ti])],ro:=[(0,.sl<|.sl .ins,true),(1,.u8,false)]})]
def zsN (c:Cur)(s:Cur)(a:List (List<|List Ins)):Prop:=(∃N,zzc N c=some (AV.agg (zgQ s)::[aS (.sl<|.sl .ins) a]))/\(s.b=c.b/\0<=s.i)/\(1<=a.length/\a.length<=2/\∀p∈a,1<=p.length/\p.length<=2/\∀x∈p,zen x=true)
def zmi (c:Cur)  : Bool:=wC (zsN c)
def ziO (c:Cur)  : Cur:=wS (zsN c)
def zpK (c:Cur)  : List (List<|List Ins):=wV (zsN c)
theorem zNu {c:Cur}(h:zmi c=true):zsN c (ziO c) (zpK c):=wG h
theorem z2C (c:Cur)  : 0<=(ziO c).i:=wP λh=>h.2.1.2
theorem z2B (c:Cur)(h:∃N,Ends (wE (λa=>aS (.sl<|.sl .ins) a) c.b λa=>1<=a.length/\a.length<=2/\∀p∈a,1<=p.length/\p.length<=2/\∀x∈p,zen x=true)<|zzc N c):zmi c=true:=wI (λ_ _ h=>h) h
def zA4:zmX:=rP0 λc=>(zmi c,ziO c,[aS (.sl<|.sl .ins)<|zpK c])
theorem zPw:zec Tryz.prog 91 [false,true,true] zA4:=hP0 ze2 zbf zXh zo zYo (λ_ h=>(zNu h).1)
theorem z8B {c:Cur}(h:zej c):zmi c=true:=by
 refine z2B c ⟨3,?_⟩;unfold zzc oN;conv=>zeta
 exact zYt h (P:=λp=>1<=p.length/\p.length<=2/\∀x∈p,zen x=true) (fc:=zlw) (fs:=zlx) (fv:=zrn) (R:=λs l=>AV.agg (zgQ s)::[aS (.sl<|.sl .ins) l]) z0G zXB (λh=>(zD8<|z0G h).2.2) (λs l d e a b f=>⟨s,l,rfl,⟨d,e⟩,a,b,f⟩) (λrec t i k l=>rfl)
def z9Y:zeE:=[(91,[false,true,true],zA4)]++z9X
theorem zXi:zdj z9Y:=zfr zXh (by
 intro x a;simp only[qG,qZ,or_false]at a;rcases a with rfl
 .exact zPw)
theorem zEt {c:Type}{G:c->Prop}{x:Bool}{a b:Option c}(k:Ends G a)(h:x=true:=by first
 |exact zj2 (by first|assumption|exact zf1 (by assumption) (zc0 _ _)|exact zf1 (by assumption) (zi1 _ _)|exact zf1 (by assumption) (zhK _ _)) _
 |exact zNe (by first|assumption|exact zf1 (by assumption) (zc0 _ _)|exact zf1 (by assumption) (zi1 _ _)) _
 |exact zvE (by first|assumption|exact zf1 (by assumption) (zc0 _ _)) (by simp)):Ends G (cond x a b):=zbH h k
def zzb (N:Nat)(c:Cur)  : OA :=
 let f:=zbt c 4;let j:=({ (zI c 4) with b:=c.b}:Cur);let e:=zlJ j 4;let d:=zdW j 4;let a:=({d with b:=c.b}:Cur);let g:=({ (zdW a 2) with b:=c.b}:Cur); (oN (zby c 4)<|oN (zgX j 4)<|cond (nB e) (cond (ine f 2) (oN (zgX a 2)<|cond (zlJ a 2) (oN (zby g 256)<|some [.agg [.s .u8 c.b,.i .i64 (zI g 256).i,.i .i64 (zI g 256).h],.agg [.i .i64 f,.i .i64<|zbt g 256,.b<|nB e]])<|some [.agg [.s .u8 c.b,.i .i64 (zdW a 2).i,.i .i64 (zdW a 2).h],.agg [.i .i64 f,.i .i64 0,.b<|nB e]])<|some [.agg [.s .u8 c.b,.i .i64 d.i,.i .i64 d.h],.agg [.i .i64 f,.i .i64 0,.b<|nB e]])<|some [.agg [.s .u8 c.b,.i .i64 d.i,.i .i64 d.h],.agg [.i .i64 f,.i .i64 0,.b<|nB e]])
def zsM (c:Cur)(s:Cur)(a:Ctl):Prop:=(∃N,zzb N c=some (AV.agg (zgQ s)::[.agg<|zzo a]))/\(s.b=c.b/\0<=s.i)/\(True)
def zrm (c:Cur)  : Bool:=wC (zsM c)
def zmh (c:Cur)  : Cur:=wS (zsM c)
def zpJ (c:Cur)  : Ctl:=wV (zsM c)
theorem z2y {c:Cur}(h:zrm c=true):zsM c (zmh c) (zpJ c):=wG h
theorem z2A (c:Cur)  : 0<=(zmh c).i:=wP λh=>h.2.1.2
theorem z2z (c:Cur)(h:∃N,Ends (wE (λa=>.agg (zzo a)) c.b λa=>True)<|zzb N c):zrm c=true:=wI (λ_ _ h=>h) h
def zA3:zmX:=rP0 λc=>(zrm c,zmh c,[.agg<|zzo<|zpJ c])
theorem zPv:zec Tryz.prog 284 [false,true,true] zA3:=hP0 ze2 zbf zXi zo (zq []) (λ_ h=>(z2y h).1)
theorem zbc8 {c:Cur}(h:zej c):zrm c=true:=by
 refine z2z c ⟨0,?_⟩;unfold zzb oN nB;conv=>zeta
 refine zEt (zEt<|zd0 (λ_=>zd0 (λ_=>zEt (zd0 (λ_=>zEt (?_)) λ_=>?_)) λ_=>?_) λ_=>?_);all_goals exact zjQ (λx=>AV.agg (zzo x)) (v:=⟨_,_,_⟩) (by first|exact zc0 _ _|exact zi1 _ _) trivial
def z9Z:zeE:=[(284,[false,true,true],zA3)]++z9Y
theorem zJG:zdj z9Z:=zfr zXi (by
 intro x a;simp only[qG,qZ,or_false]at a;rcases a with rfl
 .exact zPv)
theorem zfh {c:Type}{G:c->Prop}{x:Bool}{a b:Option c}(k:Ends G a)(h:x=true:=by first
 |exact zj2 (by first|assumption|exact zf1 (by assumption) (zc0 _ _)|exact zf1 (by assumption) (zhK _ _)) _
 |exact zvE (by first|assumption|exact zf1 (by assumption) (zc0 _ _)) (by simp)
 |exact zbc8 (zf1 (by assumption)<|zc0 _ _)):Ends G (cond x a b):=zbH h k
def zze (N:Nat)(c:Cur)  : OA :=
 let m:=({ (zI c 2) with b:=c.b}:Cur);let g:=zbt c 2;let f:=zbt m 2;let u:=({ (zI m 2) with b:=c.b}:Cur);let e:=zI u 24;let d:=zbt u 24;let a:=({e with b:=c.b}:Cur);let j:=zI a 8;let l:=({ (zI a 4) with b:=c.b}:Cur);let k:=({j with b:=c.b}:Cur);let t:=({ (zI a 16) with b:=c.b}:Cur);let r:=({ (zcC a [16,17]) with b:=c.b}:Cur);let q:=({ (zcC a [13,13,14,15]) with b:=c.b}:Cur);let p:=({ (zI k 4) with b:=c.b}:Cur);let n:=({ (zI l 8) with b:=c.b}:Cur); (share (oN (zeR a [13,13,14,15])<|oN (zby q 8)<|some [.agg [.s .u8 c.b,.i .i64 (zI q 8).i,.i .i64 (zI q 8).h],.agg [.i .i64<|zeQ a [13,13,14,15],.i .i64 g,.i .i64 f,.i .i64<|zbt q 8,.i .i64 0,.i .i64 0]]) λA=>share (cond (ieq d 16) (oN (zeR a [16,17])<|oN (zby r 4)<|some [.agg [.s .u8 c.b,.i .i64 (zI r 4).i,.i .i64 (zI r 4).h],.agg [.i .i64<|zeQ a [16,17],.i .i64 g,.i .i64 f,.i .i64<|zbt r 4,.i .i64 0,.i .i64 0]])<|some [.agg [.s .u8 c.b,.i .i64 e.i,.i .i64 e.h],.agg [.i .i64 1,.i .i64 g,.i .i64 f,.i .i64 0,.i .i64 0,.i .i64 0]]) λz=>share (oN (zby a 4)<|oN (zby l 8)<|oN (zeR n [3,3,1,2])<|some [.agg [.s .u8 c.b,.i .i64 (zcC n [3,3,1,2]).i,.i .i64 (zcC n [3,3,1,2]).h],.agg [.i .i64 2,.i .i64 g,.i .i64 f,.i .i64<|zbt a 4,.i .i64<|zbt l 8,.i .i64<|zeQ n [3,3,1,2]]]) λy=>share (oN (zby a 4)<|some [.agg [.s .u8 c.b,.i .i64 (zI a 4).i,.i .i64 (zI a 4).h],.agg [.i .i64 3,.i .i64 g,.i .i64 f,.i .i64<|zbt a 4,.i .i64 0,.i .i64 0]]) λx=>share (cond (ieq d 7) (oN (zby a 8)<|some [.agg [.s .u8 c.b,.i .i64 j.i,.i .i64 j.h],.agg [.i .i64 6,.i .i64 g,.i .i64 f,.i .i64<|zbt a 8,.i .i64 0,.i .i64 0]])<|cond (ieq d 8) (oN (zrm a)<|cond ((zpJ a).Open) (some [.agg [.s .u8 c.b,.i .i64 (zmh a).i,.i .i64 (zmh a).h],.agg [.i .i64 7,.i .i64 g,.i .i64 f,.i .i64 (zpJ a).Traps,.i .i64 (zpJ a).Post,.i .i64 1]])<|some [.agg [.s .u8 c.b,.i .i64 (zmh a).i,.i .i64 (zmh a).h],.agg [.i .i64 7,.i .i64 g,.i .i64 f,.i .i64 (zpJ a).Traps,.i .i64 (zpJ a).Post,.i .i64 0]])<|cond (ieq d 9) (oN (zby a 8)<|oN (zby k 4)<|oN (zby p 100)<|some [.agg [.s .u8 c.b,.i .i64 (zI p 100).i,.i .i64 (zI p 100).h],.agg [.i .i64 8,.i .i64 g,.i .i64 f,.i .i64<|zbt a 8,.i .i64<|zbt k 4,.i .i64<|zbt p 100]])<|cond (ieq d 10) (oN (zby a 8)<|some [.agg [.s .u8 c.b,.i .i64 j.i,.i .i64 j.h],.agg [.i .i64 9,.i .i64 g,.i .i64 f,.i .i64<|zbt a 8,.i .i64 0,.i .i64 0]])<|cond (ieq d 11) (some [.agg [.s .u8 c.b,.i .i64 e.i,.i .i64 e.h],.agg [.i .i64 10,.i .i64 g,.i .i64 f,.i .i64 0,.i .i64 0,.i .i64 0]])<|cond (ieq d 12) (oN (zby a 16)<|oN (zby t 100)<|some [.agg [.s .u8 c.b,.i .i64 (zI t 100).i,.i .i64 (zI t 100).h],.agg [.i .i64 11,.i .i64 g,.i .i64 f,.i .i64<|zbt a 16,.i .i64<|zbt t 100,.i .i64 0]])<|cond (ieq d 13) (oN (zby a 16)<|some [.agg [.s .u8 c.b,.i .i64 (zI a 16).i,.i .i64 (zI a 16).h],.agg [.i .i64 12,.i .i64 g,.i .i64 f,.i .i64<|zbt a 16,.i .i64 0,.i .i64 0]])<|cond (ieq d 14) (cond (ieq d 14) A z)<|cond (ieq d 15) A z) λv=>share (cond (ieq d 4) (oN (zby a 100)<|some [.agg [.s .u8 c.b,.i .i64 (zI a 100).i,.i .i64 (zI a 100).h],.agg [.i .i64 4,.i .i64 g,.i .i64 f,.i .i64<|zbt a 100,.i .i64 0,.i .i64 0]])<|cond (ieq d 5) (cond (ieq d 5) (some [.agg [.s .u8 c.b,.i .i64 e.i,.i .i64 e.h],.agg [.i .i64 5,.i .i64 g,.i .i64 f,.i .i64 0,.i .i64 0,.i .i64 0]]) v)<|cond (ieq d 6) (some [.agg [.s .u8 c.b,.i .i64 e.i,.i .i64 e.h],.agg [.i .i64 5,.i .i64 g,.i .i64 f,.i .i64 0,.i .i64 0,.i .i64 0]]) v) λw=>share (cond (ieq d 2) (cond (ieq d 2) x w)<|cond (ieq d 3) x w) λB=>oN (zby c 2)<|oN (zby m 2)<|oN (zby u 24)<|cond (ieq d 0) (cond (ieq d 0) y B)<|cond (ieq d 1) y B)
def zsO (c:Cur)(s:Cur)(a:GAct):Prop:=(∃N,zze N c=some (AV.agg (zgQ s)::[aT .act a]))/\(s.b=c.b/\0<=s.i)/\(True)
def zkz (c:Cur)  : Bool:=wC (zsO c)
def zdr (c:Cur)  : Cur:=wS (zsO c)
def zc8 (c:Cur)  : GAct:=wV (zsO c)
theorem z2D {c:Cur}(h:zkz c=true):zsO c (zdr c) (zc8 c):=wG h
theorem zNv (c:Cur)  : 0<=(zdr c).i:=wP λh=>h.2.1.2
theorem z2E (c:Cur)(h:∃N,Ends (wE (λa=>aT .act a) c.b λa=>True)<|zze N c):zkz c=true:=wI (λ_ _ h=>h) h
def zA5:zmX:=rP0 λc=>(zkz c,zdr c,[aT .act<|zc8 c])
theorem zPA:zec Tryz.prog 192 [false,true,true] zA5:=hP0 ze2 zbf zJG zo (zq []) (λ_ h=>(z2D h).1)
theorem z8A {c:Cur}(h:zej c):zkz c=true:=by
 refine z2E c ⟨0,?_⟩;unfold zze oN;conv=>zeta
 refine zpA (zfh<|zfh<|?_) (λ_ g=>zpA (zd0 (λ_=>zfh (zfh<|?_)) λ_=>?_) λ_ f=>zpA (zfh<|zfh<|zfh<|?_) λ_ e=>zpA (zfh<|?_) λ_ d=>zpA (zd0 (λ_=>zfh (?_)) λ_=>zd0 (λ_=>zfh (zd0 (λ_=>?_) λ_=>?_)) λ_=>zd0 (λ_=>zfh (zfh<|zfh<|?_)) λ_=>zd0 (λ_=>zfh (?_)) λ_=>zd0 (λ_=>?_) λ_=>zd0 (λ_=>zfh (zfh<|?_)) λ_=>zd0 (λ_=>zfh (?_)) λ_=>zd0 (λ_=>zd0 (λ_=>g) λ_=>f) λ_=>zd0 (λ_=>g) λ_=>f) λ_ a=>zpA (zd0 (λ_=>zfh (?_)) λ_=>zd0 (λ_=>zd0 (λ_=>?_) λ_=>a) λ_=>zd0 (λ_=>?_) λ_=>a) λ_ b=>zpA (zd0 (λ_=>zd0 (λ_=>d) λ_=>b) λ_=>zd0 (λ_=>d) λ_=>b) λ_ i=>zfh (zfh<|zfh<|zd0 (λ_=>zd0 (λ_=>e) λ_=>i) λ_=>zd0 (λ_=>e) λ_=>i));all_goals exact zjQ (aT .act) (v:=⟨_,_,_,_,_,_⟩) (by first|exact zc0 _ _|exact zhK _ _|exact z2A _) trivial
def zmW (N:Nat)  : OA :=
 (iter (σ:=(Int×lA×Unit)) N (λe c=>cond (ilt c.1 2) (iter (σ:=(Int×Int×lA×Unit)) N (λf b=>cond (ilt b.2.1 2) (iter (σ:=(Int×Int×Int×lA×Unit)) N (λg a=>let d:=ap a.2.2.2.1 [(⟨2,a.1,a.2.1,a.2.2.1,zN .i64 a.2.2.1<|zry .i64 3 a.2.1,3⟩:GAct),(⟨3,a.1,a.2.1,a.2.2.1,0,0⟩:GAct)]; (cond (ilt a.2.2.1 3) (oN (few<|ln d)<|g (a.1,a.2.1,zN .i64 a.2.2.1 1,d,()))<|f (a.1,zN .i64 a.2.1 1,a.2.2.2.1,()))) (b.1,b.2.1,0,b.2.2.1,()))<|e (zN .i64 b.1 1,b.2.2.1,())) (c.1,0,c.2.1,()))<|some [aS .act c.2.1]) (0,[],()))
def zRi:=zq [(191,0,{n:=34,tm:=[(1,.sl 0 []),(2,ti)],lo:=[],ro:=[(0,.act,true)]}),(191,2,{n:=34,tm:=[(1,.sl 0 []),(2,ti),(3,ti)],lo:=[],ro:=[(0,.act,true)]}),(191,4,{n:=34,tm:=[(1,.sl 0 []),(2,ti),(3,ti),(4,ti)],lo:=[],ro:=[(0,.act,true)]})]
def ztW  (a:List GAct):Prop:=(∃N,zmW N=some [aS .act a])/\(a.length<=45)
def zlA  : Bool:=uC (T:=List GAct) (λr=>ztW r)
def zXD  : List GAct:=uV (λr=>ztW r)
def zuF  : List GAct:=(zXD)
theorem zD9  (h:zlA=true):ztW zuF:=uG h
theorem zXC  (h:∃N,Ends (λa=>∃b,a=[aS .act b]/\(b.length<=45))<|zmW N):zlA=true:=by obtain⟨N,a,e,b,rfl,h⟩:=h;exact zba ⟨b,⟨N,e⟩,h⟩
def zy0:Run:=rF0 (zlA,[aS .act zuF])
theorem zQy  (a:zlA=true):∃N,zmW N  = some [aS .act zuF]:=by exact(zD9 a).1
theorem zJc:vV 191 zy0:=kF0 ze2 zbf zJG zo zRi zQy
def z3q:List GAct:=match zmW 10 with
 |some [.one<|.s .act l]=>l
 |_=>[]
theorem zZ9:zlA=true:=zXC ⟨10,_,(by kernel_rfl:zmW 10=some [aS .act z3q]),z3q,rfl,Nat.le_of_ble_eq_true (by kernel_rfl)⟩
def z90:zeE:=[(192,[false,true,true],zA5)]++z9Z
theorem zXj:zdj z90:=zfr zJG (by
 intro x a;simp only[qG,qZ,or_false]at a;rcases a with rfl
 .exact zPA)
def zbca:zbd:=[(191,zy0)]++zOk
theorem z3F:zQ zbca:=zf zJc ze2
theorem zSk {c:Cur}(h:zej c){m:Int}(e:0<=m)(J:m<=1000){G:Ans->Prop}{R:Cur->List GAct->Ans}(D:∀s l,s.b=c.b->0<=s.i->ln l<=45+m->G (R s l)){F:(Int×Int×Int×Int×List GAct×List Int×Unit->OA)->Int×Int×Int×Int×List GAct×List Int×Unit->OA}(C:∀rec t i k l,F rec (m,t,i,k,l,c.b,())=bif zby ⟨c.b,i,k⟩ (zN .i64 m 1) then (bif ilt t (zbt ⟨c.b,i,k⟩ (zN .i64 m 1)) then (bif zkz { zI ⟨c.b,i,k⟩ (zN .i64 m 1) with b:=c.b } then (bif few (ln (ap l [zc8 { zI ⟨c.b,i,k⟩ (zN .i64 m 1) with b:=c.b }])) then
        rec (m,zN .i64 t 1,(zdr {zI ⟨c.b,i,k⟩ (zN .i64 m 1) with b:=c.b}).i,(zdr {zI ⟨c.b,i,k⟩ (zN .i64 m 1) with b:=c.b}).h,ap l [zc8 {zI ⟨c.b,i,k⟩ (zN .i64 m 1) with b:=c.b}],c.b,()) else none) else none) else some (R ⟨c.b,(zI ⟨c.b,i,k⟩ (zN .i64 m 1)).i,(zI ⟨c.b,i,k⟩ (zN .i64 m 1)).h⟩ l)) else none){w I:Int}(f:0<=w){g:List GAct}(E:g.length<=45):Ends G (iter 1002 F (m,0,w,I,g,c.b,())):=by
 refine zye (fun n s=>s.1=m/\s.2.1+(n:Int)=1000/\0<=s.2.1/\0<=s.2.2.1/\(ln s.2.2.2.2.1<=45+s.2.1/\s.2.1<=m)/\s.2.2.2.2.2.1=c.b) ?_ 1002 1000 _ ⟨rfl,rfl,u2 0,f,⟨by unfold ln;show ((g.length:Nat):Int)<=45+0;omega,e⟩,rfl⟩ (by omega)
 rintro n ⟨q,t,i,k,l,b,u⟩ rec ⟨e,z,j,p,⟨A,H⟩,r⟩ d
 dsimp only at e z j p A r H
 subst r;subst e;rw[C];have a:zej ⟨c.b,i,k⟩:=zf1 h p;have L:=zp8 (x:=q) (y:=1) (by omega) (by omega) (by omega) (by omega)
 have M:=zrJ a (n:=zN .i64 q 1) (by omega)
 have B:zej {zI ⟨c.b,i,k⟩ (zN .i64 q 1) with b:=c.b}:=zf1 h (zc0 _ _);refine zbH (zj2 a _) (zd0 (fun v=>?_) (fun v=>?_))
 .have hlt:t<zbt ⟨c.b,i,k⟩ (zN .i64 q 1):=qD v;have K:=zp8 (y:=1) j (by omega) (by omega) (by omega)
  refine zbH (z8A B) (zbH (zvf (by rw[zqz];omega)) (d (n-1) _ (by omega) ⟨rfl,?_,?_,zNv _,⟨?_,?_⟩,rfl⟩))
  .show zN .i64 t 1+_=1000
   omega
  .show 0<=zN .i64 t 1
   omega
  .show ln (ap l [_])<=45+zN .i64 t 1
   rw[zqz];omega
  .show zN .i64 t 1<=q
   omega
 .refine zK8 (D _ l rfl (zc0 _ _) ?_);omega
def zxq (N:Nat)(c:Cur)(p:Int):OA:=
 (oN (zgX c 5)<|cond (nB<|zlJ c 5) (oN zlA<|iter (σ:=(Int×Int×Int×Int×lA×(List Int)×Unit)) N (λn a=>let l:=a.2.2.2.2.2.1;let f:=zN .i64 a.1 1;let d:=(⟨l,a.2.2.1,a.2.2.2.1⟩:Cur);let j:=({ (zI d f) with b:=l}:Cur);let q:=ap a.2.2.2.2.1 [zc8 j]; (oN (zby d f)<|cond (ilt a.2.1<|zbt d f) (oN (zkz j)<|oN (few<|ln q)<|n (a.1,zN .i64 a.2.1 1,(zdr j).i,(zdr j).h,q,l,()))<|some [.agg [.s .u8 l,.i .i64 (zI d f).i,.i .i64 (zI d f).h],aS .act a.2.2.2.2.1])) (p,0,(zdW c 5).i,(zdW c 5).h,zuF,c.b,()))<|iter (σ:=(Int×Int×Int×Int×lA×(List Int)×Unit)) N (λn a=>let m:=a.2.2.2.2.2.1;let g:=zN .i64 a.1 1;let e:=(⟨m,a.2.2.1,a.2.2.2.1⟩:Cur);let k:=({ (zI e g) with b:=m}:Cur);let r:=ap a.2.2.2.2.1 [zc8 k]; (oN (zby e g)<|cond (ilt a.2.1<|zbt e g) (oN (zkz k)<|oN (few<|ln r)<|n (a.1,zN .i64 a.2.1 1,(zdr k).i,(zdr k).h,r,m,()))<|some [.agg [.s .u8 m,.i .i64 (zI e g).i,.i .i64 (zI e g).h],aS .act a.2.2.2.2.1])) (p,0,(zdW c 5).i,(zdW c 5).h,[],c.b,()))
def zUD:=zq [(92,0,{n:=26,tm:=[(0,.lp 0 0),(1,ti),(5,.sl 0 []),(6,ti)],lo:=[(0,[.sl 1 [],ti,ti])],ro:=[(0,.act,true),(1,.u8,false)]})]
def zrq (c:Cur)(a:Int)(s:Cur)(d:List GAct):Prop:=(∃N,zxq N c a=some (AV.agg (zgQ s)::[aS .act d]))/\(s.b=c.b/\0<=s.i)/\(ln d<=45+a)
def zkW (c:Cur)(a:Int):Bool:=wC (zrq c a)
def zi6 (c:Cur)(a:Int):Cur:=wS (zrq c a)
def zlM (c:Cur)(a:Int):List GAct:=wV (zrq c a)
theorem zHv {c:Cur}{a:Int}(h:zkW c a=true):zrq c a (zi6 c a) (zlM c a):=wG h
theorem zZI (c:Cur)(a:Int):0<=(zi6 c a).i:=wP λh=>h.2.1.2
theorem zZH (c:Cur)(a:Int)(h:∃N,Ends (wE (λd=>aS .act d) c.b λd=>ln d<=45+a)<|zxq N c a):zkW c a=true:=wI (λ_ _ h=>h) h
def zyI:zmX:=rP1 dI λc b=>(zkW c b,zi6 c b,[aS .act<|zlM c b])
theorem zMp:zec Tryz.prog 92 [false,true,true] zyI:=hP1 z3F zbf zXj zo zUD (λ_ _ h=>(zHv h).1)
theorem z3i {c:Cur}(h:zej c){m:Int}(e:0<=m)(f:m<=1000):zkW c m=true:=by
 refine zZH c m ⟨1002,?_⟩;unfold zxq oN nB;conv=>zeta
 have g:=zD9 zZ9;exact zbH (zNe h 5) (zd0 (λ_=>zbH zZ9 (zSk h e f (R:=λs l=>AV.agg (zgQ s)::[aS .act l]) (λs l a b d=>⟨s,l,rfl,⟨a,b⟩,d⟩) (λrec t i k l=>rfl) (zi1 _ _) g.2)) λ_=>zSk h e f (R:=λs l=>AV.agg (zgQ s)::[aS .act l]) (λs l a b d=>⟨s,l,rfl,⟨a,b⟩,d⟩) (λrec t i k l=>rfl) (zi1 _ _) (jW _))
def z92:zeE:=[(92,[false,true,true],zyI)]++z90
theorem zXk:zdj z92:=zfr zXj (by
 intro x a;simp only[qG,qZ,or_false]at a;rcases a with rfl
 .exact zMp)
def zbcT (h:Host):Prop:=∃a l,zxr a/\(1<=a.length/\∀p∈a,1<=p.length/\∀x∈p,zen x=true)/\h=(zvt a l).1
theorem z7S {p:List Ins}(h:zen p=true):p.length<=12:=by unfold zen at h;cases a:p.all zfT with|false=>rw[a]at h;cases h|true=>rw[a,cT]at h;have b:=(zf7.1 h).2;unfold ln at b;omega
def zYC (N:Nat)(c:Cur)  : OA :=
 let a:=({ (ziO c) with b:=c.b}:Cur); (oN (zmi c)<|oN (zkW a 20)<|oN (zgh (zpK c)<|zlM a 20)<|some [.agg [.s .u8 c.b,.i .i64 (zi6 a 20).i,.i .i64 (zi6 a 20).h],aH<|zlr (zpK c)<|zlM a 20])
def zro (c:Cur)(s:Cur)(a:Host):Prop:=(∃N,zYC N c=some (AV.agg (zgQ s)::[aH a]))/\(s.b=c.b/\0<=s.i)/\(zbcT a)
def zHt (c:Cur)  : Bool:=wC (zro c)
def zHu (c:Cur)  : Cur:=wS (zro c)
def zSH (c:Cur)  : Host:=wV (zro c)
theorem zZG {c:Cur}(h:zHt c=true):zro c (zHu c) (zSH c):=wG h
def zyH:zmX:=rP0 λc=>(zHt c,zHu c,[aH<|zSH c])
theorem zMj:zec Tryz.prog 63 [false,true,true] zyH:=hP0 zGU zbf zXk zo (zq []) (λ_ h=>(zZG h).1)
def z2r:zeE:=[(63,[false,true,true],zyH)]++z92
theorem zz0:zdj z2r:=zfr zXk (by
 intro x a;simp only[qG,qZ,or_false]at a;rcases a with rfl
 .exact zMj)
def z3G:zbd:=zVu
theorem z3H:zQ z3G:=zGU
theorem z0O:∀(l:List GAct) (u:Host×List Told),SmH u.1->SmH (zpG l u).1
 |[],u,h=>h
 |a::l,u,h=>z0O l (zbF u.1 a,ap u.2 [zb9 u.1 a]) (zEQ h)
def zVs:zbd:=z3G
theorem zpT:zQ zVs:=z3H
def zCB (N:Nat)(c:Cur)  : OA :=
 let a:=zcC c [0,0,0,1,1,2,-1,9223372036854775807]; (oN (zeR c [0,0,0,1,1,2,-1,9223372036854775807])<|some [.agg [.s .u8 c.b,.i .i64 a.i,.i .i64 a.h],aI<|zeQ c [0,0,0,1,1,2,-1,9223372036854775807]])
def zuE (c:Cur)(s:Cur)(a:Int):Prop:=(∃N,zCB N c=some (AV.agg (zgQ s)::[aI a]))/\(s.b=c.b/\0<=s.i)/\(True)
def ztr (c:Cur)  : Bool:=wC (zuE c)
def zts (c:Cur)  : Cur:=wS (zuE c)
def zEM (c:Cur)  : Int:=wV (zuE c)
theorem z5B {c:Cur}(h:ztr c=true):zuE c (zts c) (zEM c):=wG h
theorem z5D (c:Cur)  : 0<=(zts c).i:=wP λh=>h.2.1.2
theorem z5C (c:Cur)(h:∃N,Ends (wE (λa=>aI a) c.b λa=>True)<|zCB N c):ztr c=true:=wI (λ_ _ h=>h) h
def zDU:zmX:=rP0 λc=>(ztr c,zts c,[aI<|zEM c])
theorem zTk:zec Tryz.prog 193 [false,true,true] zDU:=hP0 zpT zbf zz0 zo (zq []) (λ_ h=>(z5B h).1)
theorem at_t {c:Cur}(h:zej c):ztr c=true:=by
 refine z5C c ⟨0,?_⟩;unfold zCB oN;conv=>zeta
 exact zbH (zvE h (by simp)) (zjQ aI (zhK _ _) trivial)
def z94:zeE:=[(193,[false,true,true],zDU)]++z2r
theorem zXl:zdj z94:=zfr zz0 (by
 intro x a;simp only[qG,qZ,or_false]at a;rcases a with rfl
 .exact zTk)
def zzf (N:Nat)(c:Cur)  : OA :=
 let a:=zc8 c;let e:=({ (zdr c) with b:=c.b}:Cur);let f:=zbt e 10;let d:=({ (zI e 10) with b:=c.b}:Cur);let g:=zcC d [-1,4,8,16,100,9223372036854775807]; (oN (zkz c)<|oN (zby e 10)<|cond (ieq f 0) (oN (zby d 20)<|some [.agg [.s .u8 c.b,.i .i64 (zI d 20).i,.i .i64 (zI d 20).h],.agg [.i .i64<|wsub .i64 (zbt d 20) 1,.i .i64 a.M,.i .i64 a.G,.i .i64 a.X,.i .i64 a.Y,.i .i64 a.Z]])<|cond (ieq f 1) (oN (ztr d)<|some [.agg [.s .u8 c.b,.i .i64 (zts d).i,.i .i64 (zts d).h],.agg [.i .i64 a.Kind,.i .i64<|zEM d,.i .i64 a.G,.i .i64 a.X,.i .i64 a.Y,.i .i64 a.Z]])<|cond (ieq f 2) (oN (zeR d [-1,4,8,16,100,9223372036854775807])<|some [.agg [.s .u8 c.b,.i .i64 g.i,.i .i64 g.h],.agg [.i .i64 a.Kind,.i .i64 a.M,.i .i64 a.G,.i .i64<|zeQ d [-1,4,8,16,100,9223372036854775807],.i .i64 a.Y,.i .i64 a.Z]])<|cond (ieq f 3) (oN (zeR d [-1,0,1,4])<|some [.agg [.s .u8 c.b,.i .i64 (zcC d [-1,0,1,4]).i,.i .i64 (zcC d [-1,0,1,4]).h],.agg [.i .i64 a.Kind,.i .i64 a.M,.i .i64 a.G,.i .i64 a.X,.i .i64 a.Y,.i .i64<|zeQ d [-1,0,1,4]]])<|some [.agg [.s .u8 c.b,.i .i64 (zI e 10).i,.i .i64 (zI e 10).h],.agg [.i .i64 a.Kind,.i .i64 a.M,.i .i64 a.G,.i .i64 a.X,.i .i64 a.Y,.i .i64 a.Z]])
def zsP (c:Cur)(s:Cur)(a:GAct):Prop:=(∃N,zzf N c=some (AV.agg (zgQ s)::[aT .act a]))/\(s.b=c.b/\0<=s.i)/\(True)
def zos (c:Cur)  : Bool:=wC (zsP c)
def zNw (c:Cur)  : Cur:=wS (zsP c)
def zJL (c:Cur)  : GAct:=wV (zsP c)
theorem z2F {c:Cur}(h:zos c=true):zsP c (zNw c) (zJL c):=wG h
theorem z2G (c:Cur)(h:∃N,Ends (wE (λa=>aT .act a) c.b λa=>True)<|zzf N c):zos c=true:=wI (λ_ _ h=>h) h
def zA6:zmX:=rP0 λc=>(zos c,zNw c,[aT .act<|zJL c])
theorem zPB:zec Tryz.prog 94 [false,true,true] zA6:=hP0 zpT zbf zXl zo (zq []) (λ_ h=>(z2F h).1)
theorem zbc6 {c:Cur}(h:zej c):zos c=true:=by
 refine z2G c ⟨0,?_⟩;have d:zej {zdr c with b:=c.b}:=zf1 h (zNv _);have a:zej {zI {zdr c with b:=c.b} 10 with b:=c.b}:=zf1 h (zc0 _ _);unfold zzf oN;conv=>zeta
 exact zbH (z8A h) (zbH (zj2 d _) (zd0 (λ_=>zbH (zj2 a _) (zjQ (aT .act) (v:=⟨wsub .i64 (zbt {zI {zdr c with b:=c.b} 10 with b:=c.b} 20) 1,(zc8 c).M,(zc8 c).G,(zc8 c).X,(zc8 c).Y,(zc8 c).Z⟩) (zc0 {zI {zdr c with b:=c.b} 10 with b:=c.b} 20) trivial))
  (λ_=>zd0 (λ_=>zbH (at_t a) (zjQ (aT .act) (v:=⟨(zc8 c).Kind,zEM {zI {zdr c with b:=c.b} 10 with b:=c.b},(zc8 c).G,(zc8 c).X,(zc8 c).Y,(zc8 c).Z⟩) (z5D {zI {zdr c with b:=c.b} 10 with b:=c.b}) trivial))
  (λ_=>zd0 (λ_=>zbH (zvE a (by simp)) (zjQ (aT .act) (v:=⟨(zc8 c).Kind,(zc8 c).M,(zc8 c).G,zeQ {zI {zdr c with b:=c.b} 10 with b:=c.b} [-1,4,8,16,100,9223372036854775807],(zc8 c).Y,(zc8 c).Z⟩) (zhK {zI {zdr c with b:=c.b} 10 with b:=c.b} [-1,4,8,16,100,9223372036854775807]) trivial))
  (λ_=>zd0 (λ_=>zbH (zvE a (by simp)) (zjQ (aT .act) (v:=⟨(zc8 c).Kind,(zc8 c).M,(zc8 c).G,(zc8 c).X,(zc8 c).Y,zeQ {zI {zdr c with b:=c.b} 10 with b:=c.b} [-1,0,1,4]⟩) (zhK {zI {zdr c with b:=c.b} 10 with b:=c.b} [-1,0,1,4]) trivial))
  (λ_=>zjQ (aT .act) (v:=zc8 c) (zc0 {zdr c with b:=c.b} 10) trivial))))))
def zbdn:zeE:=[(94,[false,true,true],zA6)]++z94
theorem zXm:zdj zbdn:=zfr zXl (by
 intro x a;simp only[qG,qZ,or_false]at a;rcases a with rfl
 .exact zPB)
def zsi (N:Nat)(j:List Int):OA:=
 (iter (σ:=(Int×Int×(List Int)×Unit)) N (λk a=>let c:=a.2.2.1;let g:=(⟨c,0,a.1⟩:Cur);let f:=aS (.sl<|.sl .ins)<|zpK g;let d:=({ (ziO g) with b:=c}:Cur);let e:=({ (zi6 d 30) with b:=c}:Cur);let i:=({ (zdW e 6) with b:=c}:Cur);let h:=ap (zlM d 30) [zJL i]; (cond (ilt a.2.1<|ln c) (cond (ilt a.2.1 4000) (oN (inb a.2.1<|ln c)<|k (wand .i64 (zN .i64 (zN .i64 (zry .i64 a.1 131)<|wcv .i64<|ix c a.2.1 0) 7) 1073741823,zN .i64 a.2.1 1,c,()))<|oN (zmi g)<|oN (zkW d 30)<|oN (zgX e 6)<|cond (zlJ e 6) (oN (zos i)<|oN (few<|ln h)<|some [f,aS .act h])<|some [f,aS .act<|zlM d 30])<|oN (zmi g)<|oN (zkW d 30)<|oN (zgX e 6)<|cond (zlJ e 6) (oN (zos i)<|oN (few<|ln h)<|some [f,aS .act h])<|some [f,aS .act<|zlM d 30])) (zN .i64 94701<|ln j,0,j,()))
def zUE:=zq [(64,0,{n:=32,tm:=[(0,.sl 0 []),(3,ti),(4,ti)],lo:=[],ro:=[(0,.u8,false)]})]
def zvV (c:List Int)(a:List (List<|List Ins))(b:List GAct):Prop:=(∃N,zsi N c=some [aS (.sl<|.sl .ins) a,aS .act b])/\((zxr a/\zuG a)/\b.length<=80)
def zmI (a:List Int):Bool:=uC (T:=List (List<|List Ins)×List GAct) (λr=>zvV a r.1 r.2)
def zHx (a:List Int):List (List<|List Ins)×List GAct:=uV (λr=>zvV a r.1 r.2)
def zsQ (a:List Int):List (List<|List Ins):=(zHx a).1
def zsR (a:List Int):List GAct:=(zHx a).2
theorem zHw {a:List Int}(h:zmI a=true):zvV a (zsQ a) (zsR a):=uG h
theorem zZJ (d:List Int)(h:∃N,Ends (λa=>∃b c,a=[aS (.sl<|.sl .ins) b,aS .act c]/\((zxr b/\zuG b)/\c.length<=80))<|zsi N d):zmI d=true:=by obtain⟨N,a,e,b,c,rfl,h⟩:=h;exact zba ⟨(b,c),⟨N,e⟩,h⟩
def zBj:Run:=rF1 (dS .u8) λb=>(zmI b,[aS (.sl<|.sl .ins)<|zsQ b,aS .act<|zsR b])
theorem zUm (a:List Int)(b:zmI a=true):∃N,zsi N a=some [aS (.sl<|.sl .ins)<|zsQ a,aS .act<|zsR a]:=by exact(zHw b).1
theorem zMq:vV 28 zBj:=kF1 zpT zbf zXm zo zUE zUm
theorem zbdc {l:List GAct}{y:GAct}(h:l.length<=75):few (ln<|ap l [y])=true:=zvf (by rw[zqz];unfold ln;omega)
theorem ap75 {l:List GAct}{y:GAct}(h:l.length<=75):(ap l [y]).length<=80:=by simp only[ap,kN,k6];omega
theorem z3r {a:List Int}(h:a.length<=big):zmI a=true:=by
 refine zZJ a (zbX λN l=>?_);unfold zsi oN;conv=>zeta
 refine zye (λn s=>∃(t:Int) (i:Nat),s=(t,(i:Int),a,())/\i+n=a.length) ?_ N a.length _ ⟨_,0,rfl,by omega⟩ (l h);rintro n s rec ⟨t,i,rfl,y⟩ d;dsimp only;refine zd0 (λf=>zd0 (λr=>?_) λ_=>?_) (λ_=>?_);{have q:(i:Int)<ln a:=qD f;unfold ln at q;exact zbH (qK ⟨by omega,by unfold ln;omega⟩) (d (n-1) _ (by omega) (by rw[zX (show i<a.length by omega) h];exact⟨_,i+1,rfl,by omega⟩))}
 all_goals
  have c:zej ⟨a,0,t⟩:=⟨u2 0,h⟩;have f:zej {ziO ⟨a,0,t⟩ with b:=a}:=zf1 c (z2C _);have r:zej {zi6 {ziO ⟨a,0,t⟩ with b:=a} 30 with b:=a}:=zf1 c (zZI _ _);have v:zej {zdW {zi6 {ziO ⟨a,0,t⟩ with b:=a} 30 with b:=a} 6 with b:=a}:=zf1 c (zi1 _ _);have e:=(zNu<|z8B c).2.2;have u:=(zHv<|z3i f (m:=30) (by omega) (by omega)).2.2
  have k:(zlM {ziO ⟨a,0,t⟩ with b:=a} 30).length<=75:=by unfold ln at u;omega
  have S:zxr (zpK ⟨a,0,t⟩):=⟨by omega,λp j=>by
   have g:=e.2.2 p j;exact⟨by omega,λx w=>by have:=z7S (g.2.2 x w);omega⟩⟩
  have P:zuG (zpK ⟨a,0,t⟩):=⟨e.1,λp j=>⟨(e.2.2 p j).1,(e.2.2 p j).2.2⟩⟩;refine zbH (z8B c) (zbH (z3i f (by omega) (by omega))<|zbH (zNe r 6)<|zd0 (λ_=>zbH (zbc6 v) (zbH ?_ ⟨_,rfl,_,_,rfl,⟨S,P⟩,?_⟩)) λ_=>⟨_,rfl,_,_,rfl,⟨S,P⟩,jB k (by decide)⟩)
  .exact zbdc k
  .exact ap75 k
def zbcb:zbd:=[(28,zBj)]++zVs
theorem z3I:zQ zbcb:=zf zMq zpT
def zlQ (N:Nat)(a:List Int):OA:=
 (oN (zmI a)<|some [aS (.sl<|.sl .ins)<|zsQ a,aS .act<|zsR a])
def zoE (c:List Int)(a:List (List<|List Ins))(b:List GAct):Prop:=(∃N,zlQ N c=some [aS (.sl<|.sl .ins) a,aS .act b])/\((zxr a/\zuG a)/\b.length<=80)
def zhH (a:List Int):Bool:=uC (T:=List (List<|List Ins)×List GAct) (λr=>zoE a r.1 r.2)
def zvP (a:List Int):List (List<|List Ins)×List GAct:=uV (λr=>zoE a r.1 r.2)
def zjC (a:List Int):List (List<|List Ins):=(zvP a).1
def zfG (a:List Int):List GAct:=(zvP a).2
theorem zvO {a:List Int}(h:zhH a=true):zoE a (zjC a) (zfG a):=uG h
theorem zJK (d:List Int)(h:∃N,Ends (λa=>∃b c,a=[aS (.sl<|.sl .ins) b,aS .act c]/\((zxr b/\zuG b)/\c.length<=80))<|zlQ N d):zhH d=true:=by obtain⟨N,a,e,b,c,rfl,h⟩:=h;exact zba ⟨(b,c),⟨N,e⟩,h⟩
def zto:Run:=rF1 (dS .u8) λb=>(zhH b,[aS (.sl<|.sl .ins)<|zjC b,aS .act<|zfG b])
theorem zDD (a:List Int)(b:zhH a=true):∃N,zlQ N a=some [aS (.sl<|.sl .ins)<|zjC a,aS .act<|zfG a]:=by exact(zvO b).1
theorem zzH:vV 7 zto:=kF1 z3I zbf zXm zo (zq []) zDD
theorem z4O {a:List Int}(h:a.length<=big):zhH a=true:=by refine zJK a ⟨0,?_⟩;unfold zlQ oN;exact zbH (z3r h) ⟨_,rfl,_,_,rfl,(zHw<|z3r h).2⟩
theorem zW0 {d b:Type}{f:d->b}{l:List d}{x:b}{c:List b}(h:l.map f=x::c):∃a r,l=a::r/\f a=x/\r.map f=c:=by cases l with|nil=>cases h|cons a r=>simp only[jH,List.cons.injEq]at h;exact⟨a,r,rfl,h.1,h.2⟩
theorem zbcJ {a:AV}{b:CTy}(h:some a.sh=some (false,[b])):∃c,a = .one c/\c.ty=b:=by cases a with|one c=>simp only[AV.sh,qC,jO,List.cons.injEq,and_true,true_and]at h;exact⟨c,rfl,h⟩|agg l=>simp[AV.sh]at h
theorem sh_s {a:AV}{t:Ty}(h:some a.sh=some (false,[.s t])):∃l:List t.den,a = .one (.s t l):=by obtain⟨c,rfl,b⟩:=zbcJ h;obtain⟨l,rfl⟩:=znP b;exact⟨l,rfl⟩
section
open Go Go.ChangeShapes Go.WideShapes Go.ChangeAt
abbrev zPH (_:List Int):Bool:=true
abbrev zMy (l:List Int):Bool:=igt (ln l) 1048576
def zSF:Run:=rF1 (dS .u8) λb=>(zPH b,[aB<|zMy b])
def zZ5 (N:Nat)(a:List Int):OA:=
 (some [aB<|igt (ln a) 1048576])
theorem z4L (a:List Int)(b:zPH a=true):∃N,zZ5 N a=some [aB<|zMy a]:=by refine⟨0,?_⟩;unfold zZ5;first|rfl|(simp only [*,zMy,cT,cF]<;>rfl)|simp_all[Ty.cells,zMy]
theorem zYY:vV 6 zSF:=kF1 zpT zbf zz0 zo (zq []) z4L
def z9E:zbd:=[(6,zSF),(7,zto),(17,zyU),(18,zln),(8,zmu),(10,zmt),(12,zll),(9,zyY),(11,zyO),(13,zyN),(15,zmU),(16,zmU),(14,zln)]++zVs
theorem z7a:zQ z9E:=zf zYY (zf zzH<|zf zIK<|zf zt4<|zf zwE<|zf zwD<|zf zvm<|zf zIR<|zf zIw<|zf zIs<|zf zE2<|zf zFm<|zf zI3 zpT)
theorem zXx:∀(b c:List GAct) (u:Host×List Told),zpG (b++c) u=zpG c (zpG b u)
 |[],_,_=>rfl
 |a::b,c,u=>zXx b c (zbF u.1 a,ap u.2 [zb9 u.1 a])
def part (ps:List (List<|List Ins))(l:List GAct)(j:Nat):Host×List Told:=zpG (l.take j) (zco ps,[])
theorem zQI {ps:List (List<|List Ins)}{l:List GAct}{j:Nat}(a:j<l.length):part ps l (j+1)=(zbF (part ps l j).1 l[j],ap (part ps l j).2 [zb9 (part ps l j).1 l[j]]):=by unfold part;rw[List.take_succ_eq_append_getElem a,zXx];rfl
theorem z7O (ps:List (List<|List Ins))(l:List GAct)(j:Nat):(part ps l j).2.length<=l.length:=by unfold part;rw[zyK];simp only[jL,zN6,uB];omega
theorem z5n {ps:List (List<|List Ins)}{l:List GAct}(h:l.length<=80):zvt ps l=part ps l l.length:=by unfold zvt part;rw[kL h,kL<|qT _]
def zv6 (N:Nat)(e:List Int):OA:=
 let d:=zjC e; (oN (zPH e)<|cond (zMy e) oT<|oN (zhH e)<|oN (zkQ d)<|oN (zgh d<|zfG e)<|iter (σ:=(Int×lQ×lA×lR×lT×lT×lM×lN×lE×lE×Unit)) N (λk a=>let i:=a.2.2.2.2.1;let f:=a.2.2.2.2.2.1;let b:=a.2.2.1;let h:=ix b a.1 zjU;let c:=(⟨a.2.2.2.2.2.2.1,a.2.2.2.2.2.2.2.1,a.2.2.2.2.2.2.2.2.1,a.2.2.2.2.2.2.2.2.2.1⟩:Host);let g:=zgW c h;let j:=k (zN .i64 a.1 1,a.2.1,b,a.2.2.2.1,i,ap f [zgl c h],g.Memory,g.Mons,g.Buffer,g.IoBuffer,()); (cond (ilt a.1<|ln b) (oN (inb a.1<|ln b)<|oN (zfI c h)<|oN (few<|ln<|ap f [zgl c h])<|oN (ine 7 0)<|cond (ieq (zoF a.1 7) 6) (oN (zM g)<|cond (nB<|znV g) oF j) j)<|oN (zgh a.2.1 b)<|cond (ile (ln b) 80) (oN (zvu c a.2.2.2.1)<|cond (zzK c a.2.2.2.1) (oN (zkc b f)<|oN (zkc b i)<|oN (zlt (ziZ b f)<|ziZ b i)<|cond (zor (ziZ b f)<|ziZ b i) (oN (zM c)<|cond (znV c) (oN (zvy (zlr a.2.1 b) c)<|cond (zuq (zlr a.2.1 b) c) (oN (zlt (znv a.2.1 b) f)<|some [aB<|zor (znv a.2.1 b) f]) oF) oF) oF) oF) oF)) (0,d,zfG e,zjB d<|zfG e,zg9 d<|zfG e,[],(zdy d).Memory,(zdy d).Mons,(zdy d).Buffer,(zdy d).IoBuffer,()))
def zHL:=zq [(3,0,{n:=94,tm:=[(3,.sl 0 []),(4,.sl 1 []),(5,.lp 0 0),(6,.sl 2 []),(7,.sl 3 []),(8,.sl 4 []),(9,ti)],lo:=[(0,[.sl 5 [],.sl 6 [],.sl 7 [],.sl 8 []])],ro:=[(0,.sl<|.sl .ins,true),(1,.act,true),(2,.bare,true),(3,.told,true),(4,.told,true),(5,.sl .int,true),(6,.mon,true),(7,.entry,true),(8,.entry,true)]})]
theorem z2g (N:Nat)(a:List Int):evalFn (cQ z9E z7B z2r zXZ) zHL N 12 3 [aS .u8 a]=zv6 N a:=by kernel_rfl
theorem zVE (N:Nat)(m:List Int)(E:m.length<=big)(L:80<N):Ends (λa=>a=[.one<|.b true]) (zv6 N m):=by
 unfold zv6 oN nB;conv=>zeta
 refine zbH rfl (zd0 (λ_=>zK8 rfl) λ_=>zbH (z4O E) ?_);obtain⟨⟨e,D⟩,g⟩:=(zvO<|z4O E).2;generalize zjC m=c at e D;generalize zfG m=l at g;have h:=z1R D;have safe:∀j,Safe (part c l j).1:=λj=>(by unfold part;rw[zyK];exact(zVD _ h).1);have p:∀j,zdv (part c l j).1:=λj=>(zO _).2 (z0O _ _<|zQU e);have I:zkQ c=true:=zba e;have G:zgh c l=true:=zba ⟨e,by omega⟩;refine zbH I (zbH G ?_);refine zye (λn s=>∃j:Nat,s=((j:Int),c,l,zjB c l,zg9 c l,(part c l j).2,(part c l j).1.Memory,(part c l j).1.Mons,(part c l j).1.Buffer,(part c l j).1.IoBuffer,())/\j+n=l.length) ?_ N l.length _ ⟨0,rfl,by omega⟩ (by omega);rintro n s rec ⟨j,rfl,M⟩ i;dsimp only;refine zd0 (λw=>?_) (λw=>?_);{have A:(j:Int)<ln l:=qD w;unfold ln at A;have d:j<l.length:=(by omega);have J:inb (j:Int) (ln l)=true:=zA (zG.2 (by unfold ln;omega));have K:((j+1:Nat):Int)=zN .i64 (j:Int) 1:=(by rw[zsf (by omega) (by omega)];rfl);have step:(zN .i64 (j:Int) 1,c,l,zjB c l,zg9 c l,ap (part c l j).2 [zb9 (part c l j).1<|ix l (j:Int) zjU],(zbF (part c l j).1<|ix l (j:Int) zjU).Memory,(zbF (part c l j).1<|ix l (j:Int) zjU).Mons,(zbF (part c l j).1<|ix l (j:Int) zjU).Buffer,(zbF (part c l j).1<|ix l (j:Int) zjU).IoBuffer,())=(((j+1:Nat):Int),c,l,zjB c l,zg9 c l,(part c l<|j+1).2,(part c l<|j+1).1.Memory,(part c l<|j+1).1.Mons,(part c l<|j+1).1.Buffer,(part c l<|j+1).1.IoBuffer,()):=(by rw[zQI d,K,zjt d]);have C:=i (n-1) _ (by omega) ⟨j+1,step,by omega⟩;have x:zdv (zbF (part c l j).1<|ix l (j:Int) zjU):=(by have:=p (j+1);rw[zQI d] at this;rw[zjt d];exact this);have y:zpL (zbF (part c l j).1<|ix l (j:Int) zjU)=true:=(by have:=zSI (safe<|j+1);rw[zQI d] at this;rw[zjt d];exact this);refine zbH J (zbH (zba<|p j)<|zbH (zvf (by rw[zqz];unfold ln;have:=z7O c l j;omega)) (zbH rfl (zd0 (λ_=>?_) λ_=>C)));refine zbH (zba x) (zbaQ ?_ C);show (cond (zpL<|zbF (part c l j).1<|ix l (j:Int) zjU) false true)=false;rw[y];rfl};{have z:¬ (j:Int)<ln l:=qY w;unfold ln at z;have d:j=l.length:=(by omega);subst d;have B:=z5n g (ps:=c);have f:zcL (part c l l.length).1=zjB c l/\zeG l (part c l l.length).2=zeG l (zg9 c l):=(by have F:l.take l.length=l:=vO;have k:l.take 80=l:=kL g;obtain⟨_,q,_,_⟩:=zVD l h;constructor;{show zcL (zpG (l.take l.length) (zco c,[])).1=(zn7 (l.take 80) ((c.take 3).map zi9,[])).1;rw[F,k,zyK,zz6,<- zW6];exact q};{show zeG l (zpG (l.take l.length) (zco c,[])).2=zeG l (zn7 (l.take 80) ((c.take 3).map zi9,[])).2;rw[F,k,zyK,zz6,<- zW6];exact zMu l h});have H:zgh c l=true:=zba ⟨e,by omega⟩;have r:ile (ln l) 80=true:=qK (by unfold ln;omega);have t:zkc l (part c l l.length).2=true:=zba (by omega);have u:zkc l (zg9 c l)=true:=zba (by omega);have v:zlt (ziZ l (part c l l.length).2) (ziZ l<|zg9 c l)=true:=zba f.2;refine zbH H (zbH r<|zbH (zba ⟨p l.length,f.1.symm⟩) (zbH rfl (zbH t<|zbH u<|zbH v (zbH rfl (zbH (zba<|p l.length)<|zbH (zSI<|safe l.length)<|zbH (zba<|congrArg Prod.fst B) (zbH rfl (zbH (zba<|congrArg Prod.snd B) (zK8 rfl))))))))}
theorem zYE (d:List Int)(h:∀c∈zF [aS .u8 d],CVOk c):∃N,zv6 N d=some [.one<|.b true]:=by have e:zbE big [aS .u8 d]:=λc f=>CVB.of_ok (h c f);have g:=len0 e;exact⟨81,zbaU (G:=λa=>a=[.one<|.b true])<|zVE 81 d g (by decide)⟩
theorem zUp:Tryz.f3.params.toList.map (zc6 Tryz.prog 4)=[some (false,[.s .u8])]:=by kernel_rfl
theorem zKS:zZ1 3 Tryz.f3.params.toList:=by refine zYF z7a zbf zz0 zo (zkm (by kernel_rfl)) ?_;intro c hg;obtain⟨a,e⟩:=hg;rw[zUp]at a;obtain⟨h,g,rfl,d,a⟩:=zW0 a;cases List.map_eq_nil_iff.1 a;obtain⟨b,rfl⟩:=sh_s d;obtain⟨N,f⟩:=zYE b e;exact⟨zHL,N,12,(z2g N b).trans f⟩
theorem zXS (H:Type)(a:List (DataW H))(h:a.length=Tryz.f3.params.toList.length):Rows.fnTopSpec.fn H a={results:=[.lit<|.bool true],args:=a}:=by
 have b:a.length=1:=h.trans (by kernel_rfl)
 match a,b with
 |[d],_=>rfl
set_option maxRecDepth 100000 in
theorem zQA (g:Os)(a:g.Started)(H:Type)(enc:TypeId×Value->H) :
 ReturnsInHanded {} Tryz.checked g 3 .any (Rows.fnTopSpec.pre6 enc Tryz.prog Tryz.f3 Rows.fnTopRow.domain false) (Rows.fnTopSpec.post enc Tryz.prog Tryz.f3 false true false false):=by
 refine returnsInHanded_of_change_shaped (C:=Tryz.checked) own a (by kernel_rfl) Tryz.func3
  (ChangeSpec.witness6 (enc:=enc) (C:=Tryz.checked) false ⟨#[],#[.slice none 0 0],[]⟩ 8 (by kernel_rfl) (by kernel_rfl) (by kernel_rfl) (by kernel_rfl)) ?_
 intro W d c h i b e j _ f _ _;exact zMz (P:=Tryz.prog) z6y z7s rfl zXS (by kernel_rfl) (B:=4) (by kernel_rfl) (by kernel_rfl) zKS W d c h i b e j f
end
end
end Go.Proofs.YtgjpbkhaaiffkaaGreat.E
