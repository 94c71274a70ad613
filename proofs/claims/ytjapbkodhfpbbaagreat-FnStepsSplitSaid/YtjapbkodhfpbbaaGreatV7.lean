/- What is proved here: a part of the proof that the statement of this claim holds (several texts of wip/, laid together). -/
import Derived.Test.YtjapbkodhfpbbaaGreatV6
namespace Go.Proofs.YtjapbkodhfpbbaaGreat.E
open Go
set_option linter.constructorNameAsVariable false
set_option linter.unusedVariables false
set_option maxRecDepth 100000
set_option linter.unusedSimpArgs false
set_option linter.unusedSectionVars false
noncomputable section
theorem ztp {c:List Int}:zcE c=true↔(∀x∈c,zk x 0 99=true)/\ln c=4:=by unfold zcE;rw[zcj,qM,zbx]
theorem znl (h:Host)(m:Int):∀(n i:Nat),(zcH h m n i).length=n
 | 0,_=>rfl
 |n+1,i=>by rw[zcH,qZ,znl h m n]
theorem zLJ (h:Host)(m:Int):∀(n i k:Nat) (a:k<(zcH h m n i).length),(zcH h m n i)[k]=zcR h m ((i+k:Nat):Int)
 | 0,i,k,a=>by simp[zcH]at a
 |n+1,i,k,a=>by cases k with|zero=>rfl|succ k=>have:=zLJ h m n (i+1) k (by simpa [zcH] using a);simp only[zcH,List.getElem_cons_succ];rw[this];congr 1;omega
theorem zqC {h:Host}{m q:Int}(b:hasB q 8=true)(d:List Int):ix (zcH h m 8 0) q d=zcR h m q:=by have c:=zI.1 b;have a:q.toNat<(zcH h m 8 0).length:=(by rw[znl];omega);have:=zm6 a d;rw[show ((q.toNat:Nat):Int)=q by omega] at this;rw[this,zLJ];congr 1;omega
theorem zuF (h:Host)(m:Int):ln (zcH h m 8 0)=8:=by unfold ln;rw[znl];rfl
theorem zzM {h:Host}(H:HOk h){m p:Int}(b:hasB m (ln h.Mons)=true)(a:hasB p 8=true):zcE (zcR h m p)=true:=by have X:=H.mon b;rw[<- zlA H b a];by_cases e:(ix (ix h.Mons m mZ).Outer p sZ).Page = -1;{rw [zbx.2 e];exact((zqr<|X.slot a).1 (X.fit p a)).1 e};{rw [zb6.2 e];exact zQq H.pgs _}
theorem zyH {h:Host}(H:HOk h){m:Int}(b:hasB m (ln h.Mons)=true):zbW (zK h m)=true:=by have X:=H.mon b;unfold zK;rw[b,cond_true];unfold zbW ziK;rw[zcj,qM];refine⟨X.gs,?_⟩;simp only[qE,zcj,qM,zbx,zcX];refine⟨⟨λc d=>?_,zuF h m⟩,⟨?_,?_⟩,?_,X.pend⟩;{obtain⟨i,a,rfl⟩:=zDc d [];rw[zuF]at a;rw[zqC a];exact zzM H b a};{unfold ln;have:=X.g1;omega};{unfold ln;have:=X.g2;omega};{unfold ile ln;have:=X.outs;exact qI (by omega)}
structure SimT (h r:Host) (m:Int) (f:Bare->Bare):Prop where
 safe:Safe r
 seen:∀i,zK r i=bif ieq i m then f (zK h i) else zK h i
 len:r.Mons.length=h.Mons.length
theorem SimT.trans {a b c:Host}{m:Int}{f g:Bare->Bare}(x:SimT a b m f)(y:SimT b c m g):SimT a c m (λt=>g (f t)):=by refine⟨y.safe,λi=>?_,y.len.trans x.len⟩;rw[y.seen i,x.seen i];cases ieq i m<;>rfl
theorem Op.sim {h r:Host}(k:Op h r)(S:Safe h)(m:Int):SimT h r m id:=⟨k.safe S,λi=>by rw[k.like.seen i];cases ieq i m<;>rfl,k.like.len⟩
theorem SimT.congr {h r:Host}{m:Int}{f g:Bare->Bare}(x:SimT h r m f)(e:f (zK h m)=g (zK h m)):SimT h r m g:=by refine⟨x.safe,λi=>?_,x.len⟩;rw[x.seen i];by_cases a:i=m;{subst a;rw[zbx.2 rfl,cond_true,cond_true,e]};{rw [zb6.2 a];rfl}
theorem SimT.has {h r:Host}{m:Int}{f:Bare->Bare}(x:SimT h r m f)(i:Int):hasB i (ln r.Mons)=hasB i (ln h.Mons):=by unfold ln;rw[x.len]
theorem SimT.refl {h:Host}(S:Safe h)(m:Int):SimT h h m id:=⟨S,λi=>by cases ieq i m<;>rfl,rfl⟩
theorem zww {h:Host}(S:Safe h){m q a:Int}(l:hasB m (ln h.Mons)=true)(f:hasB q 8=true)(J:(ix (ix h.Mons m mZ).Outer q sZ).Page=a)(y:a≠-1)(c v:Int) :
 SimT h {h with Memory:=zbQ h.Memory a c v} m (λb=>{b with Memory:=zbQ b.Memory q c v})/\cellAt h.Memory a c=cellAt (zK h m).Memory q c:=by
 have H:=S.ok;have X:=H.mon l;have N:=X.slot f;have E:=hasM H N (by rw[J];exact y)
 rw[J]at E;have z:ix h.Memory a []=zcR h m q:=by have:=zlA H l f;rw[J,zb6.2 y,cond_false,zlz E] at this;exact this
 have n:ln (zcR h m q)=4:=(ztp.1<|zzM H l f).2;have d:(zK h m).Memory=zcH h m 8 0:=by unfold zK;rw[l];rfl
 have C:zgv h.Memory a c=hasB c 4:=by unfold zgv;rw[E,cond_true,z,n]
 have D:zgv (zcH h m 8 0) q c=hasB c 4:=by unfold zgv;rw[zuF,f,cond_true,zqC f,n]
 have u:cellAt h.Memory a c=cellAt (zK h m).Memory q c:=by rw[d];unfold cellAt;rw[C,D,z,zqC f]
 refine⟨?_,u⟩;cases A:hasB c 4 with
 |false=>have s:zbQ h.Memory a c v=h.Memory:=(by unfold zbQ;rw[C,A];rfl);rw[s];refine(SimT.refl S m).congr ?_;show zK h m={zK h m with Memory:=zbQ (zK h m).Memory q c v};rw[d];have B:zbQ (zcH h m 8 0) q c v=zcH h m 8 0:=(by unfold zbQ;rw[D,A];rfl);rw[B,<- d]
 |true=>
  cases K:zk v 0 99 with
  |false=>have s:zbQ h.Memory a c v=h.Memory:=(by unfold zbQ;rw[C,A,K];rfl);rw[s];refine(SimT.refl S m).congr ?_;show zK h m={zK h m with Memory:=zbQ (zK h m).Memory q c v};rw[d];have B:zbQ (zcH h m 8 0) q c v=zcH h m 8 0:=(by unfold zbQ;rw[D,A,K];rfl);rw[B,<- d]
  |true=>have s:zbQ h.Memory a c v=up h.Memory a (up (zcR h m q) c v):=(by unfold zbQ;rw[C,A,K,z];rfl);have B:zbQ (zcH h m 8 0) q c v=up (zcH h m 8 0) q (up (zcR h m q) c v):=(by unfold zbQ;rw[D,A,K,zqC f];rfl);have G:zcE (up (zcR h m q) c v)=true:=(by have:=ztp.1 (zzM H l f);rw[ztp,zec];refine⟨λx O=>?_,this.2⟩;rcases qX O with h|h;{exact this.1 x h};{rw [h];exact K});have P:=(zI.1 E).1;have L:HOk {h with Memory:=zbQ h.Memory a c v}:=(by rw[s];refine⟨by show (up _ _ _).length=12;rw[zbU];exact H.m12,λx O=>?_,H.n1,H.n3,H.b1,H.b2,H.mons,H.uq⟩;rcases qX O with h|h;{exact H.pgs x h};{rw [h];exact G});refine⟨⟨L,⟨S.rt.t,S.rt.e1,S.rt.e2⟩⟩,λi=>?_,rfl⟩;have r:∀i k,hasB i (ln h.Mons)=true->hasB k 8=true->¬ (i=m/\k=q)->zcR {h with Memory:=zbQ h.Memory a c v} i k=zcR h i k:=(by intro i k w g I;rw[<- zlA L (m:=i) (p:=k) w g,<- zlA H w g];show (cond (ieq (ix (ix h.Mons i mZ).Outer k sZ).Page<|-1) _<|zcG (zbQ h.Memory a c v) _)=_;by_cases e:(ix (ix h.Mons i mZ).Outer k sZ).Page = -1;{rw [zbx.2 e];rfl};{rw [zb6.2 e,cond_false,cond_false,s];exact zDg P (λe=>I (H.uniq w g l f e J P))});have F:zcR {h with Memory:=zbQ h.Memory a c v} m q=up (zcR h m q) c v:=(by rw[<- zlA L (m:=m) (p:=q) l f];show (cond (ieq (ix (ix h.Mons m mZ).Outer q sZ).Page<|-1) _<|zcG (zbQ h.Memory a c v) (ix (ix h.Mons m mZ).Outer q sZ).Page)=_;rw[J,zb6.2 y,cond_false,s];exact zDf E);by_cases w:i=m;{subst w;rw[zbx.2 rfl,cond_true];unfold zK;show (cond (hasB i<|ln h.Mons) _ _)=_;rw[l,cond_true,cond_true];show Bare.mk (zcH {h with Memory:=zbQ h.Memory a c v} i 8 0) _ _ _=Bare.mk (zbQ (zcH h i 8 0) q c v) _ _ _;congr 1;rw[B];refine zOD [] (by rw[zbU,znl,znl]) λk g=>?_;rw[zuF]at g;rw[zqC g];by_cases e:q=k;{subst e;rw[zbj (by rw[zuF];exact f),F]};{rw [zby (zI.1 f).1 (zI.1 g).1 e,zqC g];exact r i k l g (λh=>e h.2.symm)}};{rw [zb6.2 w,cond_false];unfold zK;show (cond (hasB i<|ln h.Mons) _ _)=_;cases M:hasB i (ln h.Mons) with|false=>rfl|true=>rw[cond_true,cond_true];show Bare.mk (zcH {h with Memory:=zbQ h.Memory a c v} i 8 0) _ _ _=_;rw[zrk 8 0 λj C D=>r i (j:Int) M (zI.2 (by omega)) λh=>w h.1]}
theorem zqV {h:Host}(S:Safe h){m g:Int}(a:hasB m (ln h.Mons)=true)(hg:hasB g (ln (ix h.Mons m mZ).Guests)=true){y:Guest}(k:GKeep (gOf h m g) y):SimT h (zgs h m g y) m (λb=>zd6 b g y):=by have X:=S.ok.mon a;have kp:KeepP (ix h.Mons m mZ) {ix h.Mons m mZ with Guests:=up (ix h.Mons m mZ).Guests g y}:=⟨rfl,rfl⟩;refine⟨zwv S a kp (zls X kp (zbU _ _ _) rfl rfl X.outs X.pend X.tr X.own λz d=>?_) (zbU _ _ _) (λj c=>?_) rfl,λi=>?_,zbU _ _ _⟩;{rcases qX d with h|h;{exact X.gs z h};{rw [h];exact ztL.2 k.ok}};{show (ix (up (ix h.Mons m mZ).Guests g y) j gZ).Live=_;by_cases e:g=j;{subst e;rw[zbj hg];exact k.live};{rw [zby (zI.1 hg).1 (zI.1 c).1 e]}};{refine(zu9 (h:=h) (r:=zgs h m g y) a rfl rfl kp i).trans ?_;by_cases e:i=m;{subst e;rw[zbx.2 rfl,cond_true,cond_true];unfold zd6 zK;rw[a];rfl};{rw [zb6.2 e];rfl}}
theorem zVu {h:Host}(S:Safe h){m:Int}(a:hasB m (ln h.Mons)=true){y:Mon}(kp:KeepP (ix h.Mons m mZ) y)(d:MOk y)(hg:y.Guests=(ix h.Mons m mZ).Guests)(c:y.Tables=(ix h.Mons m mZ).Tables) :
 SimT h {h with Mons:=up h.Mons m y} m (λb=>{b with Outs:=y.Outs,Pending:=y.Pending}):=by
 refine⟨zwv S a kp d (by rw[hg]) (λj _=>by rw[hg]) c,λi=>?_,zbU _ _ _⟩
 refine(zu9 (h:=h) (r:={h with Mons:=up h.Mons m y}) a rfl rfl kp i).trans ?_
 by_cases e:i=m
 .subst e;rw[zbx.2 rfl,cond_true,cond_true];unfold zK;rw[a,hg];rfl
 .rw [zb6.2 e];rfl
theorem zfZ {h:Host}{m:Int}(a:hasB m (ln h.Mons)=true):zK h m=⟨zcH h m 8 0,(ix h.Mons m mZ).Guests,(ix h.Mons m mZ).Outs,(ix h.Mons m mZ).Pending⟩:=by unfold zK;rw[a];rfl
theorem z3m {h:Host}(S:Safe h){m:Int}(a:hasB m (ln h.Mons)=true):SimT h (owned h m) m id:=by unfold owned;cases b:ilt (ix h.Mons m mZ).Own 1000000000 with|false=>exact SimT.refl S m|true=>rw[cond_true];have X:=S.ok.mon a;have d:=zcX.1 X.own;have c:(ix h.Mons m mZ).Own<1000000000:=qD b;have kp:KeepP (ix h.Mons m mZ) {ix h.Mons m mZ with Own:=zM .i64 (ix h.Mons m mZ).Own 1}:=⟨rfl,rfl⟩;refine(zVu S a kp (zls X kp rfl rfl rfl X.outs X.pend X.tr ?_ X.gs) rfl rfl).congr ?_;{show zk (zM .i64 (ix h.Mons m mZ).Own 1) 0 1000000000=true;rw[zPh (by omega) (by omega),zcX];omega};{rw [zfZ a];rfl}
theorem z0K {h:Host}(S:Safe h){m:Int}(a:hasB m (ln h.Mons)=true)(n:Int):SimT h (zif h m n) m (λb=>zjG b n):=by unfold zif;have X:=S.ok.mon a;cases c:ilt (ln (ix h.Mons m mZ).Outs) 40 with|false=>refine(SimT.refl S m).congr ?_;rw[zfZ a];unfold zjG;rw[c];rfl|true=>rw[cond_true];have d:ln (ix h.Mons m mZ).Outs<40:=qD c;have kp:KeepP (ix h.Mons m mZ) {ix h.Mons m mZ with Outs:=ap (ix h.Mons m mZ).Outs [n]}:=⟨rfl,rfl⟩;refine(zVu S a kp (zls X kp rfl rfl rfl ?_ X.pend X.tr X.own X.gs) rfl rfl).congr ?_;{show (ap (ix h.Mons m mZ).Outs [n]).length<=40;unfold ln ap at *;simp;omega};{rw [zfZ a];unfold zjG;rw[c];rfl}
theorem zul {h:Host}{m g:Int}(a:hasB m (ln h.Mons)=true)(hg:hasB g (ln (ix h.Mons m mZ).Guests)=true):gAt (zK h m) g=gOf h m g:=by rw[zfZ a];unfold gAt;show (cond (hasB g<|ln (ix h.Mons m mZ).Guests) _ _)=_;rw[hg];rfl
theorem zPi {x:Guest}(h:zL x=3\/zL x=4\/zL x=5\/zL x=6):(zci x.Prog x.Pc).Op=zL x:=by unfold zL at h ⊢;cases e:canRun x with|false=>simp[e]at h|true=>simp only[e,cond_true]at h ⊢;(cases f:zja x with|true=>simp[f]at h|false=>simp only[f,cond_false]at h ⊢;unfold zx6 at h ⊢;by_cases a:(zci x.Prog x.Pc).Op=3;{rw [a];rfl};{rw [zb6.2 a,cond_false]at h ⊢;by_cases b:(zci x.Prog x.Pc).Op=4;{rw [b];rfl};{rw [zb6.2 b,cond_false]at h ⊢;by_cases c:(zci x.Prog x.Pc).Op=5;{rw [c];rfl};{rw [zb6.2 c,cond_false]at h ⊢;by_cases d:(zci x.Prog x.Pc).Op=6;{rw [d];rfl};{rw [zb6.2 d,cond_false]at h ⊢;cases g:ieq (zci x.Prog x.Pc).Op 7<;>simp [g]at h}}}})
theorem z8g {x:Guest}(X:GOk x){w:Int}(a:zL x=w)(h:w=3\/w=4):0<=address x/\address x<=15:=by have e:address x=(zci x.Prog x.Pc).X:=(by unfold address;rcases h with e|e;{rw [a,e];rfl};{rw [a,e];rfl});rw[e];exact zbao (zIs X.prog _) (by rw[zPi (by omega),a];exact h)
theorem z8h {a:Int}(b:0<=a)(c:a<=15):zk (zbk a) 0 3=true/\hasB (zdx a) 4=true :=
 zJT (n:=16) (P:=λa=>zk (zbk a) 0 3=true/\hasB (zdx a) 4=true) (by decide) b (by omega)
theorem zZq {p:Int}(h:zk p 0 3=true)(w:Bool):ziH (zr0 p w)=true:=by unfold ziH zr0;simp[ieq,h]
theorem z1R {n:Int}(h:zk n 0 99=true):ziH (zt8 n)=true:=by unfold ziH zt8;simp[ieq,h]
theorem z4G {n:Int}(h:zk n 0 99=true):ziH (zx7 n)=true:=by unfold ziH zx7;simp[ieq,h]
theorem z4M {x:Guest}(X:GOk x)(t:Int){w:Int}(d:zL x=w):GKeep x (zfK x t w):=by have c:=zIs X.prog x.Pc;unfold zfK;by_cases b:w=6;{rw [zbx.2 b];exact zka X (z1R<|zcX.2<|z2e c (by rw[zPi (by omega),d];omega))};{rw [zb6.2 b,cond_false];by_cases a:w=5;{rw [zbx.2 a];cases zdW t 1 with|true=>exact zka X (z4G<|zcX.2<|z2e c (by rw[zPi (by omega),d];omega))|false=>rw[a];exact zj9 X};{rw [zb6.2 a];rw[Bool.false_and,cond_false];cases e:(ieq w 7&&zdW t 2) with|true=>exact zka X rfl|false=>rw[cond_false];cases ieq w 7;{exact zj9 X};{exact zX3 X}}}
theorem zYc {a:Type}(g:Int):hasB g (ln ([]:List a))=false:=by cases h:hasB g (ln ([]:List a)) with|false=>rfl|true=>have:=zI.1 h;simp[ln] at this;omega
theorem z3R {m:List (List Int)}(h:∀c∈m,zcE c=true)(p c:Int):zk (cellAt m p c) 0 99=true:=by unfold cellAt zgv;cases b:hasB p (ln m) with|false=>rfl|true=>rw[cond_true];(cases a:hasB c (ln<|ix m p []) with|false=>rfl|true=>rw[cond_true];exact(ztp.1<|h _<|zmh b []).1 _ (zmh a 0))
theorem HOk.seenG {h:Host}(H:HOk h){m g:Int}(a:hasB m (ln h.Mons)=true)(hg:hasB g (ln (ix h.Mons m mZ).Guests)=true):GOk (gOf h m g):=H.guest a hg
theorem zVE {h:Host}(S:Safe h){m g:Int}(i:hasB m (ln h.Mons)=true)(hg:hasB g (ln (ix h.Mons m mZ).Guests)=true)(w:Bool)(B:zL (gOf h m g)=bif w then 4 else 3) :
 SimT h (zhu (ziq h m g (gOf h m g) w) m g (gOf h m g) w) m (λb=>zk3 b g (gOf h m g) w):=by
 have X:=S.ok.seenG i hg;have t:=z8g X B (by cases w<;>simp)
 have n:=z8h t.1 t.2;have z:zca w=1\/zca w=2:=by cases w<;>simp [zca]
 unfold zhu ziq;cases k:zb2 h m g (zbk<|address<|gOf h m g) (zca w) with
 |false=>have e:lookOf h h.Buffer m g (zbk<|address<|gOf h m g) (zca w) false=(h,-1,false):=(by unfold lookOf;rw[k];rfl);have q:zeP (gOf h m g).Live (zbk<|address<|gOf h m g) (zca w)=false:=(by cases y:zeP (gOf h m g).Live (zbk<|address<|gOf h m g) (zca w) with|false=>rfl|true=>exact Bool.noConfusion (k.symm.trans<|zri.2 ⟨zkz.2 ⟨S.ok,i,hg⟩,z,y⟩));rw[e];refine(zqV S i hg<|zka X<|zZq n.1 w).congr ?_;unfold zk3;rw[q];rfl
 |true=>obtain⟨L,x⟩:=zQf S false k S.rt.e1;obtain⟨_,_,j⟩:=zri.1 k;have c:zeP (gOf h m g).Live (zbk<|address<|gOf h m g) (zca w)=true:=j;have W:=walked X j;rw[x,cond_true];have l:=L.op.safe S;have f:hasB m (ln (lookOf h h.Buffer m g (zbk<|address<|gOf h m g) (zca w) false).1.Mons)=true:=(by rw[L.op.like.has];exact i);have a:=L.op.like.g m i;have C:hasB (zcg (zcx h m g) (zbk<|address<|gOf h m g)<|zca w) 8=true:=W.q8;obtain⟨u,v⟩:=zww l f C L.inn L.ne (zdx<|address<|gOf h m g) (gOf h m g).A;rw[L.op.like.seen m] at v;cases w with|true=>rw[cond_true];have r:=L.op.sim S m;have p:hasB m (ln ({ (lookOf h h.Buffer m g (zbk<|address<|gOf h m g) (zca true) false).1 with Memory:=zbQ (lookOf h h.Buffer m g (zbk<|address<|gOf h m g) (zca true) false).1.Memory (lookOf h h.Buffer m g (zbk<|address<|gOf h m g) (zca true) false).2.1 (zdx<|address<|gOf h m g) (gOf h m g).A}:Host).Mons)=true:=f;have d:hasB g (ln (ix ({ (lookOf h h.Buffer m g (zbk<|address<|gOf h m g) (zca true) false).1 with Memory:=zbQ (lookOf h h.Buffer m g (zbk<|address<|gOf h m g) (zca true) false).1.Memory (lookOf h h.Buffer m g (zbk<|address<|gOf h m g) (zca true) false).2.1 (zdx<|address<|gOf h m g) (gOf h m g).A}:Host).Mons m mZ).Guests)=true:=(by show hasB g (ln (ix (lookOf h h.Buffer m g (zbk<|address<|gOf h m g) (zca true) false).1.Mons m mZ).Guests)=true;rw[a];exact hg);have s:GKeep (gOf { (lookOf h h.Buffer m g (zbk<|address<|gOf h m g) (zca true) false).1 with Memory:=zbQ (lookOf h h.Buffer m g (zbk<|address<|gOf h m g) (zca true) false).1.Memory (lookOf h h.Buffer m g (zbk<|address<|gOf h m g) (zca true) false).2.1 (zdx<|address<|gOf h m g) (gOf h m g).A} m g) (zb7<|gOf h m g):=(by have:gOf { (lookOf h h.Buffer m g (zbk<|address<|gOf h m g) (zca true) false).1 with Memory:=zbQ (lookOf h h.Buffer m g (zbk<|address<|gOf h m g) (zca true) false).1.Memory (lookOf h h.Buffer m g (zbk<|address<|gOf h m g) (zca true) false).2.1 (zdx<|address<|gOf h m g) (gOf h m g).A} m g=gOf h m g:=(by show ix (ix (lookOf h h.Buffer m g (zbk<|address<|gOf h m g) (zca true) false).1.Mons m mZ).Guests g gZ=_;rw[a];rfl);rw[this];exact zj9 X);refine((r.trans u).trans (zqV u.safe p d s)).congr ?_;unfold zk3;rw[c];rfl|false=>rw[cond_false];have r:=L.op.sim S m;have d:hasB g (ln (ix (lookOf h h.Buffer m g (zbk<|address<|gOf h m g) (zca false) false).1.Mons m mZ).Guests)=true:=(by rw[a];exact hg);have s:GKeep (gOf (lookOf h h.Buffer m g (zbk<|address<|gOf h m g) (zca false) false).1 m g) (loaded (gOf h m g)<|cellAt (lookOf h h.Buffer m g (zbk<|address<|gOf h m g) (zca false) false).1.Memory (lookOf h h.Buffer m g (zbk<|address<|gOf h m g) (zca false) false).2.1<|zdx<|address<|gOf h m g):=(by have:gOf (lookOf h h.Buffer m g (zbk<|address<|gOf h m g) (zca false) false).1 m g=gOf h m g:=(by show ix (ix (lookOf h h.Buffer m g (zbk<|address<|gOf h m g) (zca false) false).1.Mons m mZ).Guests g gZ=_;rw[a];rfl);rw[this];exact z16 X (z3R l.ok.pgs _ _));refine(r.trans<|zqV l f d s).congr ?_;unfold zk3;rw[c,v];rfl
theorem z4L {h r:Host}{m g:Int}(e:(ix r.Mons m mZ).Guests=(ix h.Mons m mZ).Guests):gOf r m g=gOf h m g:=by unfold gOf;rw[e]
theorem z9n (h:Host)(m:Int)(a:hasB m (ln h.Mons)=true):(ix (owned h m).Mons m mZ).Guests=(ix h.Mons m mZ).Guests:=by unfold owned;cases ilt (ix h.Mons m mZ).Own 1000000000 with|false=>rfl|true=>show (ix (up h.Mons m _) m mZ).Guests=_;rw[zbj a]
theorem z5h (h:Host)(m n:Int)(a:hasB m (ln h.Mons)=true):(ix (zif h m n).Mons m mZ).Guests=(ix h.Mons m mZ).Guests:=by unfold zif;cases ilt (ln (ix h.Mons m mZ).Outs) 40 with|false=>rfl|true=>show (ix (up h.Mons m _) m mZ).Guests=_;rw[zbj a]
theorem z3o {h:Host}(S:Safe h){m:Int}(a:hasB m (ln h.Mons)=true)(x:Guest)(w:Int):SimT h (zeE h m x w) m id/\(ix (zeE h m x w).Mons m mZ).Guests=(ix h.Mons m mZ).Guests:=by unfold zeE;cases (cond (ine w 6) (ieq (zmT (ix h.Mons m mZ).Traps x.Ctl.Traps<|zfJ w) 2) false) with|false=>exact⟨SimT.refl S m,rfl⟩|true=>exact⟨z3m S a,z9n h m a⟩
theorem z3n {h:Host}(S:Safe h){m:Int}(a:hasB m (ln h.Mons)=true)(x:Guest)(w:Int):SimT h (zgU h m x w) m (λb=>bif (cond (zhj x.Ctl.Traps w) (ieq w 5) false) then zjG b (zci x.Prog x.Pc).X else b)/\(ix (zgU h m x w).Mons m mZ).Guests=(ix h.Mons m mZ).Guests:=by unfold zgU;cases (cond (zhj x.Ctl.Traps w) (ieq w 5) false) with|false=>exact⟨SimT.refl S m,rfl⟩|true=>exact⟨z0K S a _,z5h h m _ a⟩
theorem zDK {h:Host}(S:Safe h){m g:Int}(d:hasB m (ln h.Mons)=true)(hg:hasB g (ln (ix h.Mons m mZ).Guests)=true){w:Int}(l:zL (gOf h m g)=w) :
 SimT h (zkw h m g (gOf h m g) w) m (λb=>zqX b g (gOf h m g) w):=by
 have X:=S.ok.seenG d hg;obtain⟨f,j⟩:=z3o S d (gOf h m g) w;have a:hasB m (ln (zeE h m (gOf h m g) w).Mons)=true:=by rw[f.has];exact d
 obtain⟨i,k⟩:=z3n f.safe a (gOf h m g) w;have e:hasB m (ln (zgU (zeE h m (gOf h m g) w) m (gOf h m g) w).Mons)=true:=by rw[i.has];exact a
 have c:hasB g (ln (ix (zgU (zeE h m (gOf h m g) w) m (gOf h m g) w).Mons m mZ).Guests)=true:=by rw[k,j];exact hg
 have n:GKeep (gOf (zgU (zeE h m (gOf h m g) w) m (gOf h m g) w) m g) (zfK (gOf h m g) (gOf h m g).Ctl.Traps w):=by rw[z4L<|k.trans j];exact z4M X _ l
 exact((f.trans i).trans (zqV i.safe e c n)).congr rfl
theorem z0X (x:Guest):zL x=0\/zL x=1\/zL x=2\/zL x=3\/zL x=4\/zL x=5\/zL x=6\/zL x=7:=by unfold zL zx6;cases canRun x<;>cases zja x<;>cases ieq (zci x.Prog x.Pc).Op 3<;>cases ieq (zci x.Prog x.Pc).Op 4<;>cases ieq (zci x.Prog x.Pc).Op 5<;>cases ieq (zci x.Prog x.Pc).Op 6<;>cases ieq (zci x.Prog x.Pc).Op 7<;>simp
theorem zSU {h:Host}(H:HOk h)(m g:Int):zg9 (zK h m) g=bif zbY h m g then !ieq (zL<|gOf h m g) 0 else false:=by unfold zg9 zbY;rw[zkU.2 H,cond_true];cases a:hasB m (ln h.Mons) with|false=>have:(zK h m).Guests=[]:=(by unfold zK;rw[a];rfl);rw[this,zYc];rfl|true=>rw[cond_true,zyH H a,cond_true];have:(zK h m).Guests=(ix h.Mons m mZ).Guests:=(by rw[zfZ a]);rw[this];(cases hg:hasB g (ln (ix h.Mons m mZ).Guests) with|false=>rfl|true=>rw[cond_true,cond_true,zul a hg])
theorem step_ok {h:Host}(S:Safe h)(m g:Int):SimT h (zbg h m g).1 m (λb=>ze5 b g)/\(zbg h m g).2=zg9 (zK h m) g:=by
 have a:=zSU S.ok m g;unfold zbg;cases i:zbY h m g with
 |false=>rw[i,cond_false]at a;refine⟨(SimT.refl S m).congr ?_,a.symm⟩;unfold ze5;rw[a];rfl
 |true=>rw[i,cond_true]at a;rw[cond_true];obtain⟨_,c,hg⟩:=zkz.1 i;have X:=S.ok.seenG c hg;have f:=zul c hg;have d:∀w,zL (gOf h m g)=w->w≠0->ze5 (zK h m) g=stepped (zK h m) g (gOf h m g) w:=(by intro w j k;unfold ze5;rw[a,j,zb6.2 k,f,j];rfl);rcases z0X (gOf h m g) with e|e|e|e|e|e|e|e;{rw [e];rw[e]at a;refine⟨(SimT.refl S m).congr ?_,a.symm⟩;unfold ze5;rw[a];rfl};{rw [e]at a ⊢;exact⟨(zqV S c hg<|zMS X).congr (d 1 e (by decide)).symm,a.symm⟩};{rw [e]at a ⊢;exact⟨(zqV S c hg<|zZB X).congr (d 2 e (by decide)).symm,a.symm⟩};{rw [e]at a ⊢;exact⟨(zVE S c hg false e).congr (d 3 e (by decide)).symm,a.symm⟩};{rw [e]at a ⊢;exact⟨(zVE S c hg true e).congr (d 4 e (by decide)).symm,a.symm⟩};{rw [e]at a ⊢;exact⟨(zDK S c hg e).congr (d 5 e (by decide)).symm,a.symm⟩};{rw [e]at a ⊢;exact⟨(zDK S c hg e).congr (d 6 e (by decide)).symm,a.symm⟩};{rw [e]at a ⊢;exact⟨(zDK S c hg e).congr (d 7 e (by decide)).symm,a.symm⟩}
structure BackOk (b c:Bare):Prop where
 m:c.Memory=b.Memory
 o:c.Outs=b.Outs
 n:c.Guests.length=b.Guests.length
 g:∀j,hasB j (ln b.Guests)=true->GKeep (ix b.Guests j gZ) (ix c.Guests j gZ)
 p:zdM b.Pending=true->zdM c.Pending=true
theorem z5D {h:Host}(S:Safe h){m:Int}(b:hasB m (ln h.Mons)=true){c:Bare}(k:BackOk (zK h m) c):SimT h (zdn h m c) m (λ_=>c):=by have X:=S.ok.mon b;have f:=zfZ b;have d:(zK h m).Guests=(ix h.Mons m mZ).Guests:=(by rw[f]);have l:c.Guests.length=(ix h.Mons m mZ).Guests.length:=(by rw[k.n,d]);have hg:∀j,hasB j (ln (ix h.Mons m mZ).Guests)=true->GKeep (ix (ix h.Mons m mZ).Guests j gZ) (ix c.Guests j gZ):=λj a=>(by have:=k.g j (by rw[d];exact a);rwa [d] at this);have kp:KeepP (ix h.Mons m mZ) (zvu (ix h.Mons m mZ) c):=⟨rfl,rfl⟩;have s:zdM c.Pending=true:=k.p (by rw[f];exact X.pend);refine⟨zwv S b kp (zls X kp l rfl rfl X.outs s X.tr X.own λz t=>?_) l (λj a=>(hg j a).live) rfl,λi=>?_,zbU _ _ _⟩;{obtain⟨j,a,rfl⟩:=zDc t gZ;exact ztL.2 (hg j (by unfold ln at a ⊢;rw[<- l];exact a)).ok};{refine(zu9 (h:=h) (r:=zdn h m c) b rfl rfl kp i).trans ?_;by_cases e:i=m;{subst e;rw[zbx.2 rfl,cond_true,cond_true];show Bare.mk (zK h i).Memory c.Guests (ix h.Mons i mZ).Outs c.Pending=c;have u:=k.m;have q:=k.o;rw[f]at q;cases c;simp_all};{rw [zb6.2 e];rfl}}
theorem seen_none {h:Host}{m:Int}(a:hasB m (ln h.Mons)=false):zK h m=⟨[],[],[],0⟩:=by unfold zK;rw[a];rfl
theorem ztP:zbW ⟨[],[],[],0⟩=false:=by decide
theorem zt5 {b:Bare}(h:zbW b=false)(g:Int):zco b g=false:=by unfold zco;rw[h];rfl
theorem ziF {b:Bare}(h:zbW b=true):BackOk b b:=⟨rfl,rfl,rfl,λj a=>⟨ztL.1 (by
 unfold zbW at h;rw[zcj,qM]at h;exact h.1 _ (zmh a _)),rfl⟩,id⟩
theorem z09 {b:Bare}(h:zbW b=true){g:Int}(hg:hasB g (ln b.Guests)=true){y:Guest}(k:GKeep (gAt b g) y):BackOk b (zd6 b g y):=by have e:gAt b g=ix b.Guests g gZ:=(by unfold gAt;rw[hg];rfl);refine⟨rfl,rfl,zbU _ _ _,λj c=>?_,id⟩;show GKeep _ (ix (up b.Guests g y) j gZ);by_cases a:g=j;{subst a;rw[zbj hg,<- e];exact k};{rw [zby (zI.1 hg).1 (zI.1 c).1 a];exact(ziF h).g j c}
theorem zrV {b:Bare}(h:zbW b=true){g:Int}{c:Bool}{y:Guest}(k:hasB g (ln b.Guests)=true->c=true->GOk (gAt b g)->GKeep (gAt b g) y):BackOk b (chg b g c y):=by unfold chg zco;rw[h,cond_true];cases hg:hasB g (ln b.Guests) with|false=>exact ziF h|true=>rw[cond_true];(cases c with|false=>exact ziF h|true=>refine z09 h hg (k hg rfl ?_);have:=(ziF h).g g hg;unfold gAt;rw[hg];exact this.ok)
theorem zqG {h:Host}(S:Safe h)(m:Int){F:Bare->Bare}(d:∀b,zbW b=true->BackOk b (F b))(c:F ⟨[],[],[],0⟩=⟨[],[],[],0⟩):SimT h (zir h m<|F<|zK h m) m F:=by unfold zir zc3;rw[zkU.2 S.ok,cond_true];cases a:hasB m (ln h.Mons) with|false=>refine(SimT.refl S m).congr ?_;rw[seen_none a];exact c.symm|true=>exact(z5D S a<|d _<|zyH S.ok a).congr rfl
theorem zlD {h:Host}(S:Safe h)(m:Int){t:Bare->Bool}(a:t ⟨[],[],[],0⟩=false):zhe h m (t<|zK h m)=t (zK h m):=by unfold zhe zc3;rw[zkU.2 S.ok,cond_true];cases b:hasB m (ln h.Mons) with|false=>rw[cond_false,seen_none b,a]|true=>rfl
theorem zqn (g:Int)(c:Bool)(y:Guest):chg ⟨[],[],[],0⟩ g c y=⟨[],[],[],0⟩:=by unfold chg;rw[zt5 ztP];rfl
theorem zj6 (g:Int)(c:Bool):zcq ⟨[],[],[],0⟩ g c=false:=by unfold zcq;rw[zt5 ztP];rfl
theorem zVI {t:List Slot}{n q:Int}(h:zdd t n q=true){p:Int}{s:Slot}(b:zed s q=true):zdd (zeQ t p s) n q=true:=by
 unfold zeQ;cases hasB p (ln t) with
 |false=>exact h
 |true=>rw[cond_true];rw[zrS]at h ⊢;rw[zec];refine⟨λx c=>?_,h.2⟩;rcases qX c with a|a;{exact h.1 x a};{rw [a];exact b}
theorem z8W {x:Guest}(X:GOk x){p:Int}{s:Slot}(h:zxf p s=true):GKeep x (zDI x p s):=by unfold zxf at h;rw[zcj]at h;exact⟨⟨X.prog,X.a,X.pc,zVI X.w h.2,X.l,X.ctl,X.pend,X.ex,X.seen⟩,rfl⟩
theorem z8T {x:Guest}(X:GOk x){v:Int}(h:zwN x v=true):GKeep x (zy0 x v):=by unfold zwN at h;rw[zcj]at h;unfold zy0;cases ieq x.Exit.Kind 2 with|true=>rw[cond_true];have b:=zka (zZz X h.1) (e:=zlw) rfl;have a:=zj9 b.ok;exact⟨a.ok,a.live⟩|false=>rw[cond_false];have b:=zka X (e:=zlw) rfl;have a:=zj9 b.ok;exact⟨a.ok,a.live.trans b.live⟩
theorem z8V {x:Guest}(X:GOk x):GKeep x (zzP x):=by unfold zzP;have a:=zka X (e:=zlw) rfl;cases ieq x.Exit.Kind 1 with|true=>exact a|false=>have b:=zX3 a.ok;exact⟨b.ok,b.live.trans a.live⟩
theorem zX4 {x:Guest}(X:GOk x)(n:Int):GKeep x (zoR x n):=zX5 X (zQs X.pend n)
theorem z8U {x:Guest}(X:GOk x){c:Ctl}(h:zl8 c=true):GKeep x (zMK x c):=⟨⟨X.prog,X.a,X.pc,X.w,X.l,h,X.pend,X.ex,X.seen⟩,rfl⟩
theorem zCl (n:Int):∀(d:List Int) (b:Bare) (l:List Guest),(∀k∈d,hasB k (ln b.Guests)=true)->BackOk b {b with Guests:=l}->BackOk b {b with Guests:=zmn n d l}
 |[],b,l,_,h=>h
 |k::d,b,l,q,h=>by show BackOk b {b with Guests:=zmn n d (zEk n l k)};refine zCl n d b _ (λj a=>q j (qY _ a)) ⟨h.m,h.o,by show (up l k _).length=_;rw[zbU];exact h.n,λj a=>?_,h.p⟩;show GKeep _ (ix (up l k _) j gZ);have r:l.length=b.Guests.length:=h.n;have c:hasB k (ln l)=true:=(by unfold ln;rw[r];exact q k jB);by_cases e:k=j;{subst e;rw[zbj c];have f:=h.g k a;have i:=zX4 f.ok n;exact⟨i.ok,i.live.trans f.live⟩};{rw [zby (zI.1 c).1 (zI.1 a).1 e];exact h.g j a}
theorem zYX {b:Bare}(h:zbW b=true)(n:Int):BackOk b (zk8 b n):=by
 unfold zk8 zgg zEl;rw[h,cond_true];cases hasB n 8 with
 |false=>exact ziF h
 |true=>
  rw[cond_true];cases ieq (ln<|zeK b.Guests n) 0 with
  |true=>have:=ziF h;exact⟨rfl,rfl,rfl,this.g,λc=>zQs c n⟩
  |false=>rw[cond_false];refine zCl n _ b b.Guests (λk a=>?_) (ziF h);unfold zeK at a;obtain⟨j,e,rfl,_⟩:=(zH0 (d:=gZ)).1 a;exact zI.2 ⟨by omega,by unfold ln;omega⟩
theorem z08 {b:Bare}(h:zbW b=true):BackOk b (znU b):=by unfold znU;rw[h,cond_true];exact⟨rfl,rfl,rfl,(ziF h).g,λa=>zQt a⟩
theorem z5r {h:Host}(S:Safe h)(m p c v:Int):SimT h (zn1 h m p c v) m (λb=>zSp b p c v)/\zf5 h m p c v=zx8 (zK h m) p c v:=by have e:zf5 h m p c v=zx8 (zK h m) p c v:=(by unfold zf5 zx8 zcN z7T;rw[zkU.2 S.ok,cond_true];cases d:hasB m (ln h.Mons) with|false=>rw[seen_none d,ztP];rfl|true=>rw[zyH S.ok d,cond_true];rfl);refine⟨?_,e⟩;unfold zn1;cases f:zf5 h m p c v with|false=>refine(SimT.refl S m).congr ?_;unfold zSp;rw[<- e,f];rfl|true=>rw[cond_true];have a:=f;unfold zf5 at a;rw[zcj,zcj]at a;obtain⟨k,_,_⟩:=a;obtain⟨_,d,j⟩:=zo3.1 k;have M:=zQm S.ok (m:=m) (p:=p) 2 d j;have i:=M.op.sim S m;have g:hasB m (ln (mended h m p 2).Mons)=true:=(by rw[i.has];exact d);obtain⟨l,_⟩:=zww i.safe g j rfl M.inn c v;refine(i.trans l).congr ?_;unfold zSp;rw[<- e,f];rfl
theorem z2v {h:Host}(S:Safe h)(m g b a:Int):zb2 h m g b a=(cond (zco (zK h m) g) (cond (zgw a) (zeP (gAt (zK h m) g).Live b a) false) false):=by have e:zbY h m g=zco (zK h m) g:=(by unfold zbY zco;rw[zkU.2 S.ok,cond_true];cases c:hasB m (ln h.Mons) with|false=>rw[seen_none c,ztP,cond_false,cond_false]|true=>rw[cond_true,zyH S.ok c,cond_true];have:(zK h m).Guests=(ix h.Mons m mZ).Guests:=(by rw[zfZ c]);rw[this]);unfold zb2;rw[<- e];cases hg:zbY h m g with|false=>rw[cond_false,cond_false]|true=>obtain⟨_,c,hg⟩:=zkz.1 hg;have:(gAt (zK h m) g).Live=zcx h m g:=(by rw[zul c hg];rfl);rw[this]
theorem zHd {h:Host}(S:Safe h)(m g a n:Int)(b:n=1\/n=2):zoJ (zK h m) g a n=bif zk a 0 15 then zb2 h m g (zbk a) n else false:=by rw[z2v S];unfold zoJ;rw[zGi.2 b,cond_true];cases zco (zK h m) g<;>cases zk a 0 15<;>rfl
theorem zTf {h:Host}(S:Safe h){m g a n:Int}(f:n=1\/n=2)(b:zoJ (zK h m) g a n=true) :
 Looked h (zCV h m g a n).1 m g (zbk a) n (zD4 (zK h m) g a n) (zCV h m g a n).2.1/\hasB m (ln h.Mons)=true/\hasB (zD4 (zK h m) g a n) 8=true:=by
 rw[zHd S m g a n f,zcj]at b;obtain⟨L,_⟩:=zQf S true b.2 S.rt.e2;obtain⟨d,_,i⟩:=zri.1 b.2;obtain⟨_,c,hg⟩:=zkz.1 d;have e:zD4 (zK h m) g a n=zcg (zcx h m g) (zbk a) n:=by unfold zD4;rw[zul c hg];rfl
 rw[e];exact⟨L,c,(walked (S.ok.guest c hg) i).q8⟩
theorem zbah {h:Host}(S:Safe h)(m g a v:Int):SimT h (zqv h m g a v) m (λb=>zZn b g a v)/\zhI h m g a v=zzc (zK h m) g a v:=by have e:zhI h m g a v=zzc (zK h m) g a v:=(by unfold zhI zzc;rw[zHd S m g a 2 (.inr rfl)];cases zk a 0 15<;>cases zk v 0 99<;>cases zb2 h m g (zbk a) 2<;>rfl);refine⟨?_,e⟩;unfold zqv;cases c:zhI h m g a v with|false=>refine(SimT.refl S m).congr ?_;unfold zZn;rw[<- e,c];rfl|true=>rw[cond_true];have f:zoJ (zK h m) g a 2=true:=(by have:=e.symm.trans c;unfold zzc at this;exact(zcj.1 this).1);obtain⟨L,i,j⟩:=zTf S (.inr rfl) f;have d:=L.op.sim S m;obtain⟨k,_⟩:=zww d.safe (by rw[d.has];exact i) j L.inn L.ne (zdx a) v;refine(d.trans k).congr ?_;unfold zZn;rw[<- e,c];rfl
theorem z9p {h:Host}(S:Safe h)(m g a:Int):SimT h (zn2 h m g a) m id/\zgG h m g a=zoJ (zK h m) g a 1/\zsa h m g a=zSt (zK h m) g a:=by have e:zgG h m g a=zoJ (zK h m) g a 1:=(by unfold zgG;rw[zHd S m g a 1 (.inl rfl)]);unfold zn2 zsa zSt;rw[e];cases d:zoJ (zK h m) g a 1 with|false=>exact⟨SimT.refl S m,rfl,rfl⟩|true=>obtain⟨L,f,i⟩:=zTf S (.inl rfl) d;have b:=L.op.sim S m;obtain⟨_,c⟩:=zww b.safe (by rw[b.has];exact f) i L.inn L.ne (zdx a) 0;rw[L.op.like.seen m] at c;exact⟨b,rfl,c⟩
theorem z2g {k:Kept}{a b:List Slot}(h:KOk k a b)(p:Int)(s:Slot):KOk (zb4 k p) (zeQ a p s) b:=by have j:=zln k p;have f:(zeQ a p s).length=a.length:=(by unfold zeQ;cases hasB p (ln a)<;>simp [zbU]);refine⟨by rw[j.1,f,h.l1],by rw[j.2,f,h.l2],λi l=>?_⟩;have c:hasB i (ln a)=true:=(by unfold ln at l ⊢;rwa [<- f]);have d:hasB i (ln k.Known)=true:=(by unfold ln at c ⊢;rwa [h.l1]);have g:=zwU (q:=p) (by rw[h.l1,h.l2]) d;rw[g.1,g.2];by_cases e:p=i;{subst e;rw[zbx.2 rfl];rfl};{rw [zb6.2 e,cond_false,cond_false,h.at' i c];have:ix (zeQ a p s) i sZ=ix a i sZ:=(by unfold zeQ;cases m:hasB p (ln a) with|false=>rfl|true=>exact zby (zI.1 m).1 (zI.1 c).1 e _ _);rw[this]}
theorem zbaL {t m g:Int}(a:zdY t=m)(b:zeO t=g)(c:0<=m):t=zeh m g:=by subst a;subst b;by_cases h:1<=t/\t<=6;{have e:t=1\/t=2\/t=3\/t=4\/t=5\/t=6:=(by omega);rcases e with rfl|rfl|rfl|rfl|rfl|rfl<;>decide};{exfalso;have:zdY t = -1:=(by unfold zdY ige ile;rw[show (decide (t≥1)&&decide (t<=6))=false by simp;omega];rfl);omega}
theorem zXz {t:List Slot}{p q:Int}{s:Slot}(h:q≠p):zbH (zeQ t p s) q=zbH t q:=by unfold zeQ;cases a:hasB p (ln t) with|false=>rfl|true=>exact zQC (zI.1 a).1 h
theorem z5E {t:List Slot}(h:zdd t 4 8=true)(p:Int):zed (zbH t p) 8=true:=by unfold zbH;cases a:hasB p (ln t) with|false=>rfl|true=>exact(zrS.1 h).1 _ (zmh a _)
theorem z15 {x:Guest}(X:GOk x)(p:Int):GOk (zei x p):=⟨X.prog,X.a,X.pc,X.w,zVI X.l<|z5E X.w p,X.ctl,X.pend,X.ex,X.seen⟩
theorem z4J {h:Host}(S:Safe h)(m g p:Int):SimT h (zlo h m g p) m (λb=>chg b g (hasB p 4) (zei (gAt b g) p))/\zhe h m (zcq (zK h m) g<|hasB p 4)=zcq (zK h m) g (hasB p 4):=by
 refine⟨?_,zlD S m (t:=λb=>zcq b g (hasB p 4))<|zj6 g _⟩;unfold zlo zc3;rw[zkU.2 S.ok,cond_true];cases a:hasB m (ln h.Mons) with
 |false=>refine(SimT.refl S m).congr ?_;rw[seen_none a,zqn];rfl
 |true=>
  rw[cond_true];cases w:zcq (zK h m) g (hasB p 4) with
  |false=>refine(SimT.refl S m).congr ?_;show zK h m=chg (zK h m) g (hasB p 4) (zei (gAt (zK h m) g) p);have c:=w;unfold zcq at c;unfold chg;rw[c];rfl
  |true=>rw[cond_true];have c:=w;unfold zcq zco at c;rw[zyH S.ok a,cond_true,zcj,zfZ a]at c;have hg:hasB g (ln (ix h.Mons m mZ).Guests)=true:=c.1;have X:=S.ok.mon a;have G:=S.ok.seenG a hg;have C:chg (zK h m) g (hasB p 4) (zei (gAt (zK h m) g) p)=zd6 (zK h m) g (zei (gOf h m g) p):=(by have l:=w;unfold zcq at l;unfold chg;rw[l,zul a hg];rfl);rw[C];have B:hasB g (ln (ix h.Mons m mZ).Tables)=true:=(by unfold ln;rw[X.gt];exact hg);have s:(zCz (zdn h m<|zd6 (zK h m) g<|zei (gOf h m g) p) m g p).Mons=up h.Mons m {ix h.Mons m mZ with Guests:=up (ix h.Mons m mZ).Guests g (zei (gOf h m g) p),Tables:=up (ix h.Mons m mZ).Tables g (zb4 (ix (ix h.Mons m mZ).Tables g kZ) p)}:=(by show up (up h.Mons m _) m _=_;rw[z3D];have D:ix (zdn h m<|zd6 (zK h m) g<|zei (gOf h m g) p).Mons m mZ=zvu (ix h.Mons m mZ) (zd6 (zK h m) g<|zei (gOf h m g) p):=zbj a _ _;rw[D];unfold zvu zd6;rw[zfZ a]);have kp:KeepP (ix h.Mons m mZ) {ix h.Mons m mZ with Guests:=up (ix h.Mons m mZ).Guests g (zei (gOf h m g) p),Tables:=up (ix h.Mons m mZ).Tables g (zb4 (ix (ix h.Mons m mZ).Tables g kZ) p)}:=⟨rfl,rfl⟩;have K:MOk {ix h.Mons m mZ with Guests:=up (ix h.Mons m mZ).Guests g (zei (gOf h m g) p),Tables:=up (ix h.Mons m mZ).Tables g (zb4 (ix (ix h.Mons m mZ).Tables g kZ) p)}:=zls X kp (zbU _ _ _) (zbU _ _ _) rfl X.outs X.pend X.tr X.own λz L=>(by rcases qX L with h|h;{exact X.gs z h};{rw [h];exact ztL.2 (z15 G p)});have E:HOk (zCz (zdn h m<|zd6 (zK h m) g<|zei (gOf h m g) p) m g p):=S.ok.up a K s S.ok.m12 S.ok.pgs (zy4 S.ok.b1 _) (zy4 S.ok.b2 _) λq _=>.inl (qW _);have u:∀b:List Entry,(∀e∈b,zde h e=true)->∀e∈zcQ b (zeh m g) p,zde (zCz (zdn h m<|zd6 (zK h m) g<|zei (gOf h m g) p) m g p) e=true:=(by intro b F e H;obtain⟨x,y⟩:=zzf.1 H;obtain⟨l,n,r⟩:=zgk.1 (F e x);rw[zgk,s,zec];refine⟨l,?_⟩;by_cases d:m=zdY e.Tag;{rw [<- d]at l n r ⊢;rw[zbj a];show hasB (zeO e.Tag) (ln<|up _ _ _)=true/\below' _ (zbB (zbH (ix (up (ix h.Mons m mZ).Guests g _) (zeO e.Tag) gZ).Live e.Page) (ix h.Mons m mZ).Outer)=true;rw[zec];refine⟨n,?_⟩;by_cases f:g=zeO e.Tag;{rw [<- f]at n r ⊢;rw[zbj hg];have A:e.Page≠p:=λJ=>y ⟨zbaL d.symm f.symm (zI.1 a).1,J⟩;show below' _ (zbB (zbH (zeQ (gOf h m g).Live p _) e.Page) _)=true;rw[zXz A];exact r};{rw [zby (zI.1 hg).1 (zI.1 n).1 f];exact r}};{rw [zby (zI.1 a).1 (zI.1 l).1 d];exact⟨n,r⟩});refine⟨⟨E,⟨λi v=>?_,u _ S.rt.e1,u _ S.rt.e2⟩⟩,λi=>?_,by rw[s,zbU]⟩;{rw [s]at v ⊢;rw[zec]at v;by_cases d:m=i;{subst d;rw[zbj a];intro j I;show KOk (ix (up (ix h.Mons m mZ).Tables g _) j kZ) (ix (up (ix h.Mons m mZ).Guests g _) j gZ).Live (ix h.Mons m mZ).Outer;have k:hasB j (ln (ix h.Mons m mZ).Guests)=true:=(by have:hasB j (ln<|up (ix h.Mons m mZ).Guests g<|zei (gOf h m g) p)=true:=I;rwa [zec] at this);by_cases e:g=j;{subst e;rw[zbj B,zbj hg];exact z2g (S.rt.t m a g hg) p _};{rw [zby (zI.1 hg).1 (zI.1 k).1 e,zby (zI.1 hg).1 (zI.1 k).1 e];exact S.rt.t m a j k}};{rw [zby (zI.1 a).1 (zI.1 v).1 d];exact S.rt.t i v}};{refine(zu9 (h:=h) a s rfl kp i).trans ?_;by_cases e:i=m;{subst e;rw[zbx.2 rfl,cond_true,cond_true,C,zfZ a];rfl};{rw [zb6.2 e];rfl}}
theorem zQM (g:Int):ze5 ⟨[],[],[],0⟩ g=⟨[],[],[],0⟩/\zg9 ⟨[],[],[],0⟩ g=false:=by have:zg9 ⟨[],[],[],0⟩ g=false:=(by unfold zg9;rw[zYc];rfl);refine⟨?_,this⟩;unfold ze5;rw[this];rfl
theorem z4O {h:Host}(S:Safe h)(a:GAct):SimT h (zux h a) a.M (λb=>zJB b a)/\zCT h a=zJC (zK h a.M) a:=by
 have f:=ztP;unfold zux zCT zJB zJC;cases ieq a.Kind 1 with
 |true=>obtain⟨k,e⟩:=step_ok S a.M a.G;exact⟨k,by rw[cond_true,cond_true,e]⟩
 |false=>
  simp only[cond_false];cases ieq a.Kind 2 with
  |true=>
   exact⟨zqG S a.M (F:=λb=>chg b a.G (zxf a.X ⟨a.Y,a.Z⟩) (zDI (gAt b a.G) a.X ⟨a.Y,a.Z⟩)) (λb c=>zrV c λ_ d G=>z8W G d)<|zqn _ _ _,
    congrArg (λt=>Told.mk t 0) (zlD S a.M (t:=λb=>zcq b a.G (zxf a.X ⟨a.Y,a.Z⟩))<|zj6 _ _)⟩
  |false=>
   simp only[cond_false];cases ieq a.Kind 3 with
   |true=>obtain⟨k,e⟩:=z4J S a.M a.G a.X;exact⟨k,congrArg (λt=>Told.mk t 0) e⟩
   |false=>
    simp only[cond_false];cases ieq a.Kind 4 with
    |true=>
     exact⟨zqG S a.M (F:=λb=>chg b a.G (zwN (gAt b a.G) a.X) (zy0 (gAt b a.G) a.X)) (λb c=>zrV c λ_ d G=>z8T G d)<|zqn _ _ _,
      congrArg (λt=>Told.mk t 0) (zlD S a.M (t:=λb=>zcq b a.G (zwN (gAt b a.G) a.X))<|zj6 _ _)⟩
    |false=>
     simp only[cond_false];cases ieq a.Kind 5 with
     |true=>
      exact⟨zqG S a.M (F:=λb=>chg b a.G (zDl<|gAt b a.G) (zzP<|gAt b a.G)) (λb c=>zrV c λ_ _ G=>z8V G)<|zqn _ _ _,
       congrArg (λt=>Told.mk t 0) (zlD S a.M (t:=λb=>zcq b a.G (zDl<|gAt b a.G))<|zj6 _ _)⟩
     |false=>
      simp only[cond_false];cases ieq a.Kind 6 with
      |true=>
       exact⟨zqG S a.M (F:=λb=>chg b a.G (zii (gAt b a.G).Pending a.X) (zoR (gAt b a.G) a.X)) (λb c=>zrV c λ_ _ G=>zX4 G _)<|zqn _ _ _,
        congrArg (λt=>Told.mk t 0) (zlD S a.M (t:=λb=>zcq b a.G (zii (gAt b a.G).Pending a.X))<|zj6 _ _)⟩
      |false=>
       simp only[cond_false];cases ieq a.Kind 7 with
       |true=>
        exact⟨zqG S a.M (F:=λb=>chg b a.G (zl8 ⟨a.X,a.Y,ieq a.Z 1⟩) (zMK (gAt b a.G) ⟨a.X,a.Y,ieq a.Z 1⟩)) (λb c=>zrV c λ_ d G=>z8U G d)<|zqn _ _ _,
         congrArg (λt=>Told.mk t 0) (zlD S a.M (t:=λb=>zcq b a.G (zl8 ⟨a.X,a.Y,ieq a.Z 1⟩))<|zj6 _ _)⟩
       |false=>
        simp only[cond_false];cases ieq a.Kind 8 with
        |true=>obtain⟨k,e⟩:=z5r S a.M a.X a.Y a.Z;exact⟨k,congrArg (λt=>Told.mk t 0) e⟩
        |false=>
         simp only[cond_false];cases ieq a.Kind 9 with
         |true=>
          exact⟨zqG S a.M (F:=λb=>zk8 b a.X) (λb c=>zYX c _) (by unfold zk8 zgg;rw[f];rfl),
           congrArg (λt=>Told.mk t 0) (zlD S a.M (t:=λb=>zgg b a.X) (by unfold zgg;rw[f];rfl))⟩
         |false=>
          simp only[cond_false];cases ieq a.Kind 10 with
          |true=>refine⟨zqG S a.M (F:=znU) (λb c=>z08 c) (by unfold znU;rw[f];rfl),?_⟩;have e:=zlD S a.M (t:=zny) (by unfold zny;rw[f];rfl);show Told.mk (zhe h a.M<|zny<|zK h a.M) (cond (zc3 h a.M) (zt4<|zK h a.M)<|-1)=⟨zny<|zK h a.M,zt4<|zK h a.M⟩;rw[e];congr 1;unfold zc3;rw[zkU.2 S.ok,cond_true];cases j:hasB a.M (ln h.Mons) with|true=>rfl|false=>rw[seen_none j];unfold zt4;rw[f];rfl
          |false=>
           simp only[cond_false];cases ieq a.Kind 11 with
           |true=>obtain⟨k,e⟩:=zbah S a.M a.G a.X a.Y;exact⟨k,congrArg (λt=>Told.mk t 0) e⟩
           |false=>obtain⟨k,g,i⟩:=z9p S a.M a.G a.X;exact⟨k,by simp only[cond_false];rw[g,i]⟩
theorem z5i {h:Host}(S:Safe h)(a:GAct):Safe (znk h a)/\(∀i,zK (znk h a) i=zK h i)/\(znk h a).Mons.length=h.Mons.length:=by
 unfold znk;have k:∀r,Op h r->Safe r/\(∀i,zK r i=zK h i)/\r.Mons.length=h.Mons.length:=λr k=>⟨k.safe S,λi=>k.like.seen i,k.like.len⟩;cases ieq a.Kind 13 with
 |true=>exact k _ (zZ5 S.ok _ _)
 |false=>
  simp only[cond_false];cases ieq a.Kind 14 with
  |true=>exact k _ (z2I S.ok _ _)
  |false=>
   simp only[cond_false];cases ieq a.Kind 15 with
   |true=>exact k _ (z2H S.ok _ _)
   |false=>
    simp only[cond_false];cases ieq a.Kind 16 with
    |true=>obtain⟨b,c⟩:=zR2 S a.M a.X;refine⟨b,c,?_⟩;simp only[cond_true];unfold zku;cases zck h<;>cases hasB a.M (ln h.Mons)<;>cases zk a.X 0 3<;>first|rfl|exact zbU _ _ _
    |false=>exact k _ (z9l S.ok)
def zk6 (a:GAct):Bool:=bif zk a.Kind 1 17 then !zk a.Kind 13 17 else false
theorem z01 {h:Host}(S:Safe h)(a:GAct):Safe (zfa h a)/\(zfa h a).Mons.length=h.Mons.length/\
 (∀i,zK (zfa h a) i=bif (cond (zk6 a) (ieq i a.M) false) then zJB (zK h i) a else zK h i)/\(zk6 a=true->zkc h a=zJC (zK h a.M) a):=by
 unfold zfa zkc zk6;cases zk a.Kind 1 17 with
 |false=>exact⟨S,rfl,λ_=>rfl,λe=>by cases e⟩
 |true=>
  simp only[cond_true];cases zk a.Kind 13 17 with
  |true=>obtain⟨b,c,d⟩:=z5i S a;exact⟨b,d,λi=>by simp only[cond_true,jU,cond_false];exact c i,λe=>by cases e⟩
  |false=>obtain⟨k,e⟩:=z4O S a;exact⟨k.safe,k.len,λi=>by simp only[cond_false,jV,cond_true];exact k.seen i,λ_=>e⟩
def zd3 (h:Host):List Bare:=(List.range h.Mons.length).map λ(i:Nat)=>zK h (i:Int)
theorem zkR (h:Host):(zd3 h).length=h.Mons.length:=by simp[zd3]
theorem zm1 (h:Host)(m:Int):hasB m (ln<|zd3 h)=hasB m (ln h.Mons):=by unfold ln;rw[zkR]
theorem zl5 {h:Host}{m:Int}(c:hasB m (ln h.Mons)=true)(d:Bare):ix (zd3 h) m d=zK h m:=by have a:=zI.1 c;unfold ln at a;have b:m.toNat<(zd3 h).length:=(by rw[zkR];omega);have:=zm6 b d;rw[show ((m.toNat:Nat):Int)=m by omega] at this;rw[this];simp[zd3,show max m 0=m by omega]
theorem zYT {h r:Host}(a:r.Mons.length=h.Mons.length)(e:∀i,zK r i=zK h i):zd3 r=zd3 h:=by unfold zd3;rw[a];exact List.map_congr_left λi _=>e _
theorem zWo {h:Host}(S:Safe h)(a:GAct):zd3 (zfa h a)=zJD (zd3 h) a/\(zk6 a=true->zkc h a=zYW (zd3 h) a):=by obtain⟨_,k,l,t⟩:=z01 S a;have p:zk6 a=true->zd3 (zfa h a)=(cond (hasB a.M<|ln h.Mons) (up (zd3 h) a.M<|zJB (zK h a.M) a)<|zd3 h):=(by intro b;rw[b]at l;cases f:hasB a.M (ln h.Mons) with|false=>rw[cond_false];refine zOD ⟨[],[],[],0⟩ (by rw[zkR,zkR,k]) λi c=>?_;rw[zm1]at c;rw[zl5 c];have d:hasB i (ln h.Mons)=true:=(by unfold ln at c ⊢;rwa [<- k]);rw[zl5 d,l i];have:ieq i a.M=false:=zb6.2 λe=>(by rw[e,f]at d;cases d);rw[this];rfl|true=>rw[cond_true];refine zOD ⟨[],[],[],0⟩ (by rw[zbU,zkR,zkR,k]) λi c=>?_;rw[zm1]at c;rw[zl5 c,l i];have d:hasB i (ln h.Mons)=true:=(by unfold ln at c ⊢;rwa [<- k]);by_cases e:i=a.M;{rw [e,zbx.2 rfl,zbj (by rw[zm1];exact f)];rfl};{rw [zb6.2 e,zby (zI.1 f).1 (zI.1 d).1<|Ne.symm e,zl5 d];rfl});have s:zk6 a=false->zd3 (zfa h a)=zd3 h:=λb=>zYT k λi=>(by rw[l i,b];rfl);have r:zk6 a=true->zk a.Kind 1 17=true/\zk a.Kind 13 17=false:=(by intro b;unfold zk6 at b;cases g:zk a.Kind 1 17<;>cases j:zk a.Kind 13 17<;>rw [g,j]at b<;>first|exact⟨rfl,rfl⟩|cases b);constructor;{unfold zJD;cases b:zk6 a with|true=>obtain⟨g,j⟩:=r b;rw[g,j,cond_true,cond_false,zm1,p b];(cases f:hasB a.M (ln h.Mons) with|true=>rw[cond_true,cond_true,zl5 f]|false=>rfl)|false=>rw[s b];unfold zk6 at b;(cases g:zk a.Kind 1 17 with|false=>rfl|true=>(cases j:zk a.Kind 13 17 with|true=>rfl|false=>rw[g,j]at b;cases b))};{intro b;rw[t b];obtain⟨g,j⟩:=r b;unfold zYW;rw[g,j,cond_true,cond_false,zm1];cases f:hasB a.M (ln h.Mons) with|true=>rw[cond_true,zl5 f]|false=>rw[cond_false,seen_none f];have n:=(zQM a.G).2;have q:=ztP;unfold zJC;simp only[n,zj6];unfold zx8 zgg zny zt4 zzc zSt zoJ;simp only[q,zt5 q,cond_false];(cases m:ieq a.Kind 10 with|true=>have:a.Kind=10:=zbx.1 m;rw[this];rfl|false=>cases ieq a.Kind 1<;>cases ieq a.Kind 2<;>cases ieq a.Kind 3<;>cases ieq a.Kind 4<;>cases ieq a.Kind 5<;>cases ieq a.Kind 6<;>cases ieq a.Kind 7<;>cases ieq a.Kind 8<;>cases ieq a.Kind 9<;>cases ieq a.Kind 11<;>rfl)}
def zK1:List GAct->List Told->List Told
 |a::l,t::ts=>bif zk6 a then t::zK1 l ts else zK1 l ts
 |_,_=>[]
structure Live (u:Host×List Told) (v:List Bare×List Told):Prop where
 safe:Safe u.1
 seen:zd3 u.1=v.1
def zDS:List GAct->Host->List Told
 |[],_=>[]
 |a::l,h=>zkc h a::zDS l (zfa h a)
def z3C:List GAct->List Bare->List Told
 |[],_=>[]
 |a::l,b=>zYW b a::z3C l (zJD b a)
def zvE:List GAct->Host->Host
 |[],h=>h
 |a::l,h=>zvE l (zfa h a)
def z4F:List GAct->List Bare->List Bare
 |[],b=>b
 |a::l,b=>z4F l (zJD b a)
theorem zYr:∀(l:List GAct) (u:Host×List Told),zDn l u=(zvE l u.1,u.2++zDS l u.1)
 |[],u=>by simp[zDn,zvE,zDS]
 |a::l,u=>by rw[zDn,zYr l];simp[zvE,zDS,ap]
theorem z1Q:∀(l:List GAct) {h:Host},Safe h->Safe (zvE l h)/\zd3 (zvE l h)=z4F l (zd3 h)/\zK1 l (zDS l h)=zK1 l (z3C l<|zd3 h)/\(zvE l h).Mons.length=h.Mons.length
 |[],h,S=>⟨S,rfl,rfl,rfl⟩
 |a::l,h,S=>by have d:=z01 S a;have b:=zWo S a;obtain⟨e,f,c,g⟩:=z1Q l d.1;refine⟨e,by show zd3 (zvE l<|zfa h a)=z4F l (zJD (zd3 h) a);rw[f,b.1],?_,g.trans d.2.1⟩;show (cond (zk6 a) _ _)=(cond (zk6 a) _ _);cases i:zk6 a with|false=>rw[cond_false,cond_false,c,b.1]|true=>rw[cond_true,cond_true,c,b.1,b.2 i]
theorem cz8 (q:Int)(b:0<=q):zvc.countP (λs=>ieq s.Page q)=0:=by rw[vC];intro s a;have:=(uN.1 a).2;rw[this];show ¬ ieq (-1) q=true;rw[zbx];omega
theorem zWF {p:List Ins}(h:zdw p=true):GOk (zfx p):=⟨h,rfl,rfl,rfl,rfl,rfl,rfl,rfl,rfl⟩
theorem z2C {a:List (List Ins)}(i:1<=a.length)(h:∀p∈a,zdw p=true):MOk (zhw a):=by have d:∀s∈zvc,s=noSlot:=λs c=>(uN.1 c).2;refine⟨?_,?_,?_,rfl,λs c=>.inl (d s c),rfl,rfl,j3 _,rfl,rfl,rfl,λg hg=>?_,λp b=>?_⟩;{show 1<=((a.take 2).map zfx).length;simp;omega};{show ((a.take 2).map zfx).length<=2;simp;omega};{show ((a.take 2).map λ_=>zkW).length=((a.take 2).map zfx).length;simp};{obtain⟨p,b,rfl⟩:=jE.1 hg;exact ztL.2 (zWF<|h p<|jT b)};{have f:=zI.1 b;have e:p=0\/p=1\/p=2\/p=3\/p=4\/p=5\/p=6\/p=7:=(by omega);rcases e with rfl|rfl|rfl|rfl|rfl|rfl|rfl|rfl<;>rfl}
def z8f (a:List (List<|List Ins)):Prop:=1<=a.length/\∀p∈a,1<=p.length/\∀x∈p,zdw x=true
theorem zZE {a:List (List<|List Ins)}(h:z8f a):Safe (zgf a):=by have b:∀x∈(zgf a).Mons,∃p∈a,x=zhw p:=λx f=>(by obtain⟨p,j,rfl⟩:=jE.1 f;exact⟨p,jT j,rfl⟩);have u:∀x∈(zgf a).Mons,x.Outer=zvc:=λx f=>(by obtain⟨p,_,rfl⟩:=b x f;rfl);have H:HOk (zgf a):=(by refine⟨rfl,λc v=>?_,?_,?_,rfl,rfl,λx f=>?_,λq B=>?_⟩;{have:c=[0,0,0,0]:=(uN.1 v).2;rw[this];rfl};{show 1<=((a.take 3).map zhw).length;have:=h.1;simp;omega};{show ((a.take 3).map zhw).length<=3;simp;omega};{obtain⟨p,j,rfl⟩:=b x f;exact z2C (h.2 p j).1 (h.2 p j).2};{have:zfM (zgf a).Mons q=0:=(by unfold zfM;have:(zgf a).Mons.map (λx=>cPg x q)=(zgf a).Mons.map (λ_=>0):=List.map_congr_left λx f=>(by unfold cPg;rw[u x f];exact cz8 q B);rw[this];generalize (zgf a).Mons=l;induction l with|nil=>rfl|cons x l D=>rw[jD,uI,D]);omega});refine⟨H,λm A g hg=>?_,λe r=>(by cases r),λe r=>(by cases r)⟩;obtain⟨p,j,e⟩:=b _ (zmh A mZ);rw[e]at hg ⊢;have d:hasB g (ln<|(p.take 2).map zfx)=true:=hg;have C:ix (zhw p).Tables g kZ=zkW:=(by have:hasB g (ln<|(p.take 2).map λ_=>zkW)=true:=(by unfold ln at d ⊢;simpa using d);obtain⟨k,y,_,n⟩:=zzD this kZ;show ix ((p.take 2).map λ_=>zkW) g kZ=_;rw[n];simp);have z:(ix (zhw p).Guests g gZ).Live=zlU:=(by obtain⟨k,y,_,n⟩:=zzD d gZ;show (ix ((p.take 2).map zfx) g gZ).Live=_;rw[n];simp[zfx]);rw[C,z];show KOk zkW zlU zvc;refine⟨rfl,rfl,λi w=>?_⟩;have s:=zI.1 w;have:ln zlU=4:=rfl;rw[this]at s;have t:i=0\/i=1\/i=2\/i=3:=(by omega);rcases t with rfl|rfl|rfl|rfl<;>rfl
theorem zYB:∀(l:List GAct) (u:Host×List Told),SmH u.1->SmH (zDn l u).1
 |[],u,h=>h
 |a::l,u,h=>zYB l (zfa u.1 a,ap u.2 [zkc u.1 a]) (zYz h)
theorem zUv {h:Host}(L:zDX h):Safe h/\SmH h:=by obtain⟨c,l,a,b,rfl⟩:=L;refine⟨?_,zYB _ _<|zYA a⟩;unfold zzq;rw[zYr];exact(z1Q _<|zZE b).1
def z1h:zbb:=z1f
theorem zrY:zS z1h:=z1g
structure MonS (x:Mon):Prop where
 sm:zf1 x
 g1:1<=x.Guests.length
 g2:x.Guests.length<=2
 t2:x.Tables.length<=2
 o8:x.Outer.length<=8
 pg:∀s∈x.Outer,I64 s.Page
 tk:∀k∈x.Tables,k.Known.length<=k.Slots.length
structure AnyH (h:Host):Prop where
 mem:SmM h.Memory
 n1:1<=h.Mons.length
 n3:h.Mons.length<=3
 mons:∀x∈h.Mons,MonS x
 b1:h.Buffer.length<=1048576
 b2:h.IoBuffer.length<=1048576
theorem AnyH.sm {h:Host}(k:AnyH h):SmH h:=⟨k.mem,⟨qT k.n3 (by decide),λx a=>(k.mons x a).sm⟩,k.b1,k.b2⟩
theorem z5y {h:Host}(S:Safe h)(sm:SmH h):AnyH h :=
 ⟨sm.1,S.ok.n1,S.ok.n3,λx a=>by
  have k:=S.ok.mons x a;refine⟨sm.2.1.2 x a,k.g1,k.g2,by rw[k.gt];exact k.g2,by rw[k.o8];exact qW 8,λs b=>?_,λy c=>?_⟩
  .rcases k.sl s b with rfl|⟨h1,h2,_⟩
   .exact⟨by decide,by decide⟩
   .exact⟨by omega,by omega⟩
  .obtain⟨m,hm,rfl⟩:=zDc a mZ;obtain⟨g,hg,rfl⟩:=zDc c kZ;have:=S.rt.t m hm g (by have e:(ix h.Mons m mZ).Tables.length=(ix h.Mons m mZ).Guests.length:=k.gt;unfold ln at hg ⊢;rw[<- e];exact hg)
   rw[this.l1,this.l2];exact qW _,sm.2.2.1,sm.2.2.2⟩
theorem zxC {h:Host}(k:AnyH h)(i:Int){x:Mon}(b:MonS x):AnyH {h with Mons:=up h.Mons i x} :=
 ⟨k.mem,by rw[ziJ];exact k.n1,by rw[ziJ];exact k.n3,λy a=>by
  rcases qX a with a|rfl
  .exact k.mons y a
  .exact b,k.b1,k.b2⟩
theorem zbaI {g:Guest}(h:GuS g):SmG g:=⟨qT h.1 (by decide),qT h.2.1 (by decide),qT h.2.2.1 (by decide),qT h.2.2.2 (by decide)⟩
theorem z5J {l:List Guest}(h:zlh l)(i:Int){g:Guest}(hg:SmG g):zlh (up l i g):=
 ⟨by rw[ziJ];exact h.1,λy a=>by
  rcases qX a with a|rfl
  .exact h.2 y a
  .exact hg⟩
theorem z9D {l:List (List Int)}(h:SmM l)(i:Int){g:List Int}(hg:g.length<=1048576):SmM (up l i g):=
 ⟨by rw[ziJ];exact h.1,λy a=>by
  rcases qX a with a|rfl
  .exact h.2 y a
  .exact hg⟩
def zyX (N:Nat)(c:Cur)  : OA :=
 let j:=zhV c;let r:=({ (zi7 c) with b:=c.b}:Cur);let f:=j.Mons;let k:=zn r<|ln f;let m:=inb k<|ln f;let g:=ix f k zh;let q:=({ (zf r<|ln f) with b:=c.b}:Cur);let e:=zf q 24;let l:=zn q 24;let a:=({e with b:=c.b}:Cur);let n:=zX a [-1,1000000000,1000000001];let p:=({ (zf a 8) with b:=c.b}:Cur); (oN (zfW c)<|oN (zB r<|ln f)<|oN (zB q 24)<|cond (ieq l 0) (oN (zgb a 8 12)<|oN m<|share (up f k ({g with Outer:=(zfu a 8 12)}:Mon)) λd=>some [.agg [.s .u8 c.b,.i .i64 (zhh a 8 12).i,.i .i64 (zhh a 8 12).h],aH ({j with Mons:=d}:Host)])<|cond (ieq l 1) (oN m<|oN (zB a 8)<|oN (zlJ p)<|oN (inb (zn a 8)<|ln g.Out)<|share (up f k ({g with Out:=(up g.Out (zn a 8)<|ztA p)}:Mon)) λd=>some [.agg [.s .u8 c.b,.i .i64 (zlK p).i,.i .i64 (zlK p).h],aH ({j with Mons:=d}:Host)])<|cond (ieq l 2) (oN m<|oN (zp4 a)<|oN (inb 0<|ln g.Guests)<|share (up f k ({g with Guests:=(up g.Guests 0<|zzX a)}:Mon)) λd=>some [.agg [.s .u8 c.b,.i .i64 (zp5 a).i,.i .i64 (zp5 a).h],aH ({j with Mons:=d}:Host)])<|cond (ieq l 3) (oN m<|share (up f k ({g with Tables:=[]}:Mon)) λd=>some [.agg [.s .u8 c.b,.i .i64 e.i,.i .i64 e.h],aH ({j with Mons:=d}:Host)])<|cond (ieq l 4) (oN (zkK a)<|some [.agg [.s .u8 c.b,.i .i64 (zkL a).i,.i .i64 (zkL a).h],aH ({j with Buffer:=(zrG a)}:Host)])<|cond (ieq l 5) (oN (zlL a)<|oN m<|share (up f k ({g with Traps:=(ztB a)}:Mon)) λd=>some [.agg [.s .u8 c.b,.i .i64 (zlM a).i,.i .i64 (zlM a).h],aH ({j with Mons:=d}:Host)])<|cond (ieq l 6) (oN (zbr a [-1,1000000000,1000000001])<|oN m<|share (up f k ({g with Own:=(zbn a [-1,1000000000,1000000001])}:Mon)) λd=>some [.agg [.s .u8 c.b,.i .i64 n.i,.i .i64 n.h],aH ({j with Mons:=d}:Host)])<|cond (ieq l 7) (oN (zpU a)<|some [.agg [.s .u8 c.b,.i .i64 (ziP a).i,.i .i64 (ziP a).h],aH ({j with Memory:=(zqS a)}:Host)])<|some [.agg [.s .u8 c.b,.i .i64 e.i,.i .i64 e.h],aH j])
def zrO (c:Cur)(s:Cur)(a:Host):Prop:=(∃N,zyX N c=some (AV.agg (zb1 s)::[aH a]))/\(s.b=c.b/\0<=s.i)/\(AnyH a)
def zmK (c:Cur)  : Bool:=wC (zrO c)
def zks (c:Cur)  : Cur:=wS (zrO c)
def zlP (c:Cur)  : Host:=wV (zrO c)
theorem zLY {c:Cur}(h:zmK c=true):zrO c (zks c) (zlP c):=wG h
theorem z0z (c:Cur)  : 0<=(zks c).i:=wP λh=>h.2.1.2
theorem z0y (c:Cur)(h:∃N,Ends (wE (λa=>aH a) c.b λa=>AnyH a)<|zyX N c):zmK c=true:=wI (λ_ _ h=>h) h
def zAN:zea:=rP0 λc=>(zmK c,zks c,[aH<|zlP c])
theorem zNW:zbV Tryz.prog 49 [false,true,true] zAN:=hP0 zrY zZ zUW zq (zx []) (λ_ h=>(zLY h).1)
theorem z2d {c:Cur}(h:zbe c):zmK c=true:=by
 refine z0y c ⟨0,?_⟩;unfold zyX oN;conv=>zeta
 obtain⟨S,sm⟩:=zUv (zxe<|zKY h).2.2;have A:=z5y S sm;have q:∀{s:Cur},0<=s.i->zbe {s with b:=c.b}:=λy=>zbS h y;have w:zbe {zi7 c with b:=c.b}:=q (zXp _);have l:0<ln (zhV c).Mons:=by have:=A.n1;unfold ln;omega
 have a:=zvv w l (kB _);have u:=zbK a zh;generalize B:zhV c=H at *;generalize zn {zi7 c with b:=c.b} (ln H.Mons)=m at *;have M:=A.mons _ u;have x:=S.ok.mons _ u;generalize C:ix H.Mons m zh=X at *;obtain⟨p,e,f,j,k,t⟩:=M.sm;have d:∀{n},zbe {zf {zf {zi7 c with b:=c.b} n with b:=c.b} 24 with b:=c.b}:=λ{n}=>q (zG _ _);refine zF (zKY h) (zF (zbz w _) (zF (zbz (q<|zG _ _) 24)
  (zbE (λ_=>zF (zoC d (by omega) (by omega) _) (zF a<|zmb<|zbO aH (v:={H with Mons:=up H.Mons m {X with Outer:=zfu _ _ _}}) (zpQ _ _ _)<|zxC A m ?_))
  (λ_=>zbE (λ_=>zF a (zF (zbz d 8)<|zF (zXT<|q<|zG _ _)<|zF (zvv d (by omega) ?_)<|zmb<|zbO aH (v:={H with Mons:=up H.Mons m {X with Out:=up X.Out _ (ztA _)}}) (zVe _)<|zxC A m ?_))
  (λ_=>zbE (λ_=>zF a (zF (zJA d)<|zF ?_<|zmb<|zbO aH (v:={H with Mons:=up H.Mons m {X with Guests:=up X.Guests 0 (zzX _)}}) (z0v _)<|zxC A m ?_))
  (λ_=>zbE (λ_=>zF a (zmb<|zbO aH (v:={H with Mons:=up H.Mons m {X with Tables:=[]}}) (zG _ _)<|zxC A m ?_))
  (λ_=>zbE (λ_=>zF (zSR d) (zbO aH (v:={H with Buffer:=zrG _}) (zRY _) ⟨A.mem,A.n1,A.n3,A.mons,qT (zBg<|zSR d).2.2 (by decide),A.b2⟩))
  (λ_=>zbE (λ_=>zF (z9G d) (zF a<|zmb<|zbO aH (v:={H with Mons:=up H.Mons m {X with Traps:=ztB _}}) (zVj _)<|zxC A m ?_))
  (λ_=>zbE (λ_=>zF (zfh d (by simp)) (zF a<|zmb<|zbO aH (v:={H with Mons:=up H.Mons m {X with Own:=zbn _ _}}) (zb3 _ _)<|zxC A m ?_))
  (λ_=>zbE (λ_=>zF (zTN d) (zbO aH (v:={H with Memory:=zqS _}) (z0i _) ⟨?_,A.n1,A.n3,A.mons,A.b1,A.b2⟩))
  (λ_=>zbO aH (v:=H) (zG _ _) A)))))))))))
 {have g:=(zpP<|zoC (d (n:=ln H.Mons)) (n:=8) (by omega) (by omega) 12).2.2 (by omega) (by omega);refine⟨⟨?_,e,f,j,k,t⟩,M.g1,M.g2,M.t2,?_,g.2 (by omega) (by omega),M.tk⟩;{have:=g.1;unfold ln at this;exact qT (m:=8) (by exact Int.ofNat_le.1 this) (by decide)};{have:=g.1;unfold ln at this;exact Int.ofNat_le.1 this}};{unfold ln;rw[x.u8];decide};{exact⟨⟨p,z9D e _<|qT (zDD<|zXT<|q<|zG _ _).2.2 (by decide),f,j,k,t⟩,M.g1,M.g2,M.t2,M.o8,M.pg,M.tk⟩};{exact qI (by have:=M.g1;unfold ln;omega)};{exact⟨⟨p,e,f,z5J j 0<|zbaI (zLW<|zJA d).2.2,k,t⟩,by rw[ziJ];exact M.g1,by rw[ziJ];exact M.g2,M.t2,M.o8,M.pg,M.tk⟩};{exact⟨⟨p,e,f,j,k,⟨by simp,by simp⟩⟩,M.g1,M.g2,by simp,M.o8,M.pg,by simp⟩};{exact⟨⟨p,e,f,j,k,t⟩,M.g1,M.g2,M.t2,M.o8,M.pg,M.tk⟩};{exact⟨⟨p,e,f,j,k,t⟩,M.g1,M.g2,M.t2,M.o8,M.pg,M.tk⟩};{have g:=(zLU<|zTN<|d (n:=ln H.Mons)).2.2;exact⟨qT g.1 (by decide),λr z=>qT (g.2 r z) (by decide)⟩}
def z7S:zcU:=[(49,[false,true,true],zAN)]++z7R
theorem z5o:zb5 z7S:=zcp zUW (by
 intro x a;simp only[qG,qN,or_false]at a;rcases a with rfl
 .exact zNW)
def zSH (l:List Int):Prop:=l.length=12/\∀i:Int,0<=i->i<12->0<=ix l i 0/\ix l i 0<10000
def zCc (N:Nat)(c:Cur)  : OA :=
 let a:=zX c [0,0,0,1,1,2,-1,9223372036854775807]; (oN (zbr c [0,0,0,1,1,2,-1,9223372036854775807])<|some [.agg [.s .u8 c.b,.i .i64 a.i,.i .i64 a.h],aI<|zbn c [0,0,0,1,1,2,-1,9223372036854775807]])
def ztD (c:Cur)(s:Cur)(a:Int):Prop:=(∃N,zCc N c=some (AV.agg (zb1 s)::[aI a]))/\(s.b=c.b/\0<=s.i)/\(True)
def zlQ (c:Cur)  : Bool:=wC (ztD c)
def zwu (c:Cur)  : Cur:=wS (ztD c)
def zyG (c:Cur)  : Int:=wV (ztD c)
theorem z3g {c:Cur}(h:zlQ c=true):ztD c (zwu c) (zyG c):=wG h
theorem z3h (c:Cur)(h:∃N,Ends (wE (λa=>aI a) c.b λa=>True)<|zCc N c):zlQ c=true:=wI (λ_ _ h=>h) h
def zuL:zea:=rP0 λc=>(zlQ c,zwu c,[aI<|zyG c])
theorem zAA:zbV Tryz.prog 115 [false,true,true] zuL:=hP0 zrY zZ zuG zq (zx []) (λ_ h=>(z3g h).1)
theorem at_t {c:Cur}(h:zbe c):zlQ c=true:=by
 refine z3h c ⟨0,?_⟩;unfold zCc oN;conv=>zeta
 exact zF (zfh h (by simp)) (zbO aI (zb3 _ _) trivial)
def z7G:zcU:=[(115,[false,true,true],zuL)]++z0a
theorem zUS:zb5 z7G:=zcp zuG (by
 intro x a;simp only[qG,qN,or_false]at a;rcases a with rfl
 .exact zAA)
def zYR (N:Nat)(c:Cur)  : OA :=
 let a:=zoa c;let e:=({ (zgT c) with b:=c.b}:Cur);let f:=zn e 10;let d:=({ (zf e 10) with b:=c.b}:Cur);let g:=zX d [-1,4,8,16,100,9223372036854775807]; (oN (ziR c)<|oN (zB e 10)<|cond (ieq f 0) (oN (zB d 20)<|some [.agg [.s .u8 c.b,.i .i64 (zf d 20).i,.i .i64 (zf d 20).h],.agg [.i .i64<|wsub .i64 (zn d 20) 1,.i .i64 a.M,.i .i64 a.G,.i .i64 a.X,.i .i64 a.Y,.i .i64 a.Z]])<|cond (ieq f 1) (oN (zlQ d)<|some [.agg [.s .u8 c.b,.i .i64 (zwu d).i,.i .i64 (zwu d).h],.agg [.i .i64 a.Kind,.i .i64<|zyG d,.i .i64 a.G,.i .i64 a.X,.i .i64 a.Y,.i .i64 a.Z]])<|cond (ieq f 2) (oN (zbr d [-1,4,8,16,100,9223372036854775807])<|some [.agg [.s .u8 c.b,.i .i64 g.i,.i .i64 g.h],.agg [.i .i64 a.Kind,.i .i64 a.M,.i .i64 a.G,.i .i64<|zbn d [-1,4,8,16,100,9223372036854775807],.i .i64 a.Y,.i .i64 a.Z]])<|cond (ieq f 3) (oN (zbr d [-1,0,1,4])<|some [.agg [.s .u8 c.b,.i .i64 (zX d [-1,0,1,4]).i,.i .i64 (zX d [-1,0,1,4]).h],.agg [.i .i64 a.Kind,.i .i64 a.M,.i .i64 a.G,.i .i64 a.X,.i .i64 a.Y,.i .i64<|zbn d [-1,0,1,4]]])<|some [.agg [.s .u8 c.b,.i .i64 (zf e 10).i,.i .i64 (zf e 10).h],.agg [.i .i64 a.Kind,.i .i64 a.M,.i .i64 a.G,.i .i64 a.X,.i .i64 a.Y,.i .i64 a.Z]])
def zrQ (c:Cur)(s:Cur)(a:GAct):Prop:=(∃N,zYR N c=some (AV.agg (zb1 s)::[aT .act a]))/\(s.b=c.b/\0<=s.i)/\(True)
def zLZ (c:Cur)  : Bool:=wC (zrQ c)
def zL0 (c:Cur)  : Cur:=wS (zrQ c)
def zVp (c:Cur)  : GAct:=wV (zrQ c)
theorem z0D {c:Cur}(h:zLZ c=true):zrQ c (zL0 c) (zVp c):=wG h
def zsH:zea:=rP0 λc=>(zLZ c,zL0 c,[aT .act<|zVp c])
theorem zxR:zbV Tryz.prog 50 [false,true,true] zsH:=hP0 zrY zZ zUS zq (zx []) (λ_ h=>(z0D h).1)
def zbbc:zcU:=[(50,[false,true,true],zsH)]++z7G
theorem z5m:zb5 zbbc:=zcp zUS (by
 intro x a;simp only[qG,qN,or_false]at a;rcases a with rfl
 .exact zxR)
def zl3 (N:Nat)(g:List Int):OA:=
 (iter (σ:=(Int×Int×(List Int)×(List Int)×Unit)) N (λl b=>let c:=b.2.2.1; (cond (ilt b.2.1<|ln c) (cond (ilt b.2.1 4000) (oN (inb b.2.1<|ln c)<|l (wand .i64 (zM .i64 (zM .i64 (zk5 .i64 b.1 131)<|wcv .i64<|ix c b.2.1 0) 7) 1073741823,zM .i64 b.2.1 1,c,b.2.2.2.1,()))<|iter (σ:=(Int×Int×Int×(List Int)×(List Int)×Unit)) N (λf a=>let d:=(⟨a.2.2.2.2.1,a.2.1,a.2.2.1⟩:Cur);let j:=ap a.2.2.2.1 [zn d 10000]; (cond (ilt a.1 12) (oN (zB d 10000)<|oN (few<|ln j)<|f (zM .i64 a.1 1,(zf d 10000).i,(zf d 10000).h,j,a.2.2.2.2.1,()))<|some [aS .int a.2.2.2.1])) (0,0,b.1,[],c,()))<|iter (σ:=(Int×Int×Int×(List Int)×(List Int)×Unit)) N (λf a=>let e:=(⟨a.2.2.2.2.1,a.2.1,a.2.2.1⟩:Cur);let k:=ap a.2.2.2.1 [zn e 10000]; (cond (ilt a.1 12) (oN (zB e 10000)<|oN (few<|ln k)<|f (zM .i64 a.1 1,(zf e 10000).i,(zf e 10000).h,k,a.2.2.2.2.1,()))<|some [aS .int a.2.2.2.1])) (0,0,b.1,[],c,()))) (zM .i64 94701<|ln g,0,g,[],()))
def zII:=zx [(48,0,{n:=32,tm:=[(0,.sl 0 []),(3,ti),(4,ti)],lo:=[],ro:=[(0,.u8,false),(1,.int,true)],sk:=[(0,2,0,.sl 1 [])]}),(28,0,{n:=19,tm:=[(3,.lp 0 0),(4,.sl 0 []),(5,ti)],lo:=[(0,[.sl 1 [],ti,ti])],ro:=[(0,.int,true),(1,.u8,false)]})]
def zpB (b:List Int)(a:List Int):Prop:=(∃N,zl3 N b=some [aS .int a])/\(zSH a)
def zh6 (a:List Int):Bool:=uC (T:=List Int) (λr=>zpB a r)
def zOQ (a:List Int):List Int:=uV (λr=>zpB a r)
def zjK (a:List Int):List Int:=(zOQ a)
theorem zyC {a:List Int}(h:zh6 a=true):zpB a (zjK a):=uG h
theorem zOP (c:List Int)(h:∃N,Ends (λa=>∃b,a=[aS .int b]/\(zSH b))<|zl3 N c):zh6 c=true:=by obtain⟨N,a,e,b,rfl,h⟩:=h;exact zbw ⟨b,⟨N,e⟩,h⟩
def zuQ:Run:=rF1 (dS .u8) λb=>(zh6 b,[aS .int<|zjK b])
theorem zH9 (a:List Int)(b:zh6 a=true):∃N,zl3 N a=some [aS .int<|zjK a]:=by exact(zyC b).1
theorem zCL:vM 28 zuQ:=kF1 zrY zZ z5m zq zII zH9
theorem zU0 {a:List Int}(h:a.length<=big):zh6 a=true:=by
 refine zOP a (zcA λN d=>?_);unfold zl3 oN;conv=>zeta
 have m:12<N:=d (by rw[zl6];omega);refine zjm (λn s=>∃(t:Int) (i:Nat),s=(t,(i:Int),a,[],())/\i+n=a.length) ?_ N a.length _ ⟨_,0,rfl,by omega⟩ (d h);rintro n s rec ⟨t,i,rfl,F⟩ f;dsimp only;refine zbE (λv=>zbE (λE=>?_) λ_=>?_) (λ_=>?_);{have u:(i:Int)<ln a:=qD v;unfold ln at u;refine zF (qI ⟨by omega,by unfold ln;omega⟩) (f (n-1) _ (by omega) (by rw[zbh (show i<a.length by omega) h];exact⟨_,i+1,rfl,by omega⟩))}
 all_goals
  refine zjm (λn s=>∃(k:Nat) (i x:Int) (l:List Int),s=((k:Int),i,x,l,a,())/\k+n=12/\0<=i/\l.length=k/\∀y∈l,0<=y/\y<10000) ?_ N 12 _ ⟨0,0,t,[],rfl,rfl,kB 0,rfl,by simp⟩ m
  rintro D s A ⟨k,z,x,l,rfl,G,q,r,w⟩ c
  dsimp only
  have b:zbe ⟨a,z,x⟩:=⟨q,h⟩;have C:=zfw b (n:=10000) (by omega)
  refine zbE (λp=>?_) (λp=>⟨_,rfl,l,rfl,?_⟩)
  .have h3':(k:Int)<12:=qD p;have e:∀y∈ap l [zn ⟨a,z,x⟩ 10000],0<=y/\y<10000:=by intro y g;rcases jH.1 g with g|g;{exact w y g};{rw [qF.1 g];exact C}
   exact zF (zbz b _) (zF (zjo (by rw[zhd];unfold ln;omega))<|c (D-1) _ (by omega) (by rw[zmN (show -9223372036854775808<=(k:Int)+1 by omega) (by omega)];exact⟨k+1,_,_,_,rfl,by omega,zG _ _,by simp[ap,r],e⟩))
  .have h3':¬ (k:Int)<12:=jR p;exact⟨by omega,λj B v=>w _ (zbK (qI ⟨B,by unfold ln;omega⟩) 0)⟩
def zbbd:zcU:=[(115,[false,true,true],zuL),(50,[false,true,true],zsH)]++z7S
theorem z5p:zb5 zbbd:=zcp z5o (by
 intro x a;simp only[qG,qN,or_false]at a;rcases a with rfl|rfl
 .exact zAA
 .exact zxR)
def z6J:zbb:=[(14,zsN)]++z1h
theorem z4t:zS z6J:=zi zvP zrY
theorem z1b {a:List Int}(h:a.length<=big){G:Ans->Prop}{N:Nat}(l:a.length<N){g:Int}{R:Int->OA}{d:Type}(S:Int->Int->d){F:(d->OA)->d->OA}(k:∀rec i t,F rec (S i t)=bif ilt i (ln a) then (cond (ilt i 4000) (cond (inb i<|ln a) (rec<|S (zM .i64 i 1)<|wand .i64 (zM .i64 (zM .i64 (zk5 .i64 t 131)<|wcv .i64<|ix a i 0) 7) 1073741823) none)<|R t) else R t)(e:∀t,zbe ⟨a,0,t⟩->Ends G (R t)):Ends G (iter N F<|S 0 g):=by refine zjm (λn s=>∃(i:Nat) (t:Int),s=S (i:Int) t/\i+n=a.length) ?_ N a.length _ ⟨0,g,rfl,by omega⟩ l;rintro n s rec ⟨i,t,rfl,p⟩ b;rw[k];have f:zbe ⟨a,0,t⟩:=⟨kB 0,h⟩;refine zbE (λj=>zbE (λm=>?_) λ_=>e t f) (λ_=>e t f);have c:(i:Int)<ln a:=qD j;unfold ln at c;rw[zbh (show i<a.length by omega) h];exact zF (qI ⟨by omega,by unfold ln;omega⟩) (b (n-1) _ (by omega) ⟨i+1,_,rfl,by omega⟩)
theorem q_of {b:List Int}(h:b.length<=big){s:Cur}(a:0<=s.i):zbe {s with b:=b}:=⟨a,h⟩
def z6K:zbb:=z6J
theorem z4u:zS z6K:=z4t
def z6L:zbb:=z6K
theorem z4v:zS z6L:=z4u
def zY6:zbb:=z6L
theorem zG2:zS zY6:=z4v
def zbaY:zbb:=zY6
theorem z4w:zS zbaY:=zG2
def zjc (N:Nat)(u:List Int):OA:=
 (iter (σ:=(Int×Int×(List Int)×(List Int)×lM×lN×lE×lE×Unit)) N (λv c=>let g:=c.2.2.2.2.2.2.1;let t:=c.2.2.2.2.2.2.2.1;let k:=c.2.2.1;let j:=(⟨k,0,c.1⟩:Cur);let d:=zlP j; (cond (ilt c.2.1<|ln k) (cond (ilt c.2.1 4000) (oN (inb c.2.1<|ln k)<|v (wand .i64 (zM .i64 (zM .i64 (zk5 .i64 c.1 131)<|wcv .i64<|ix k c.2.1 0) 7) 1073741823,zM .i64 c.2.1 1,k,c.2.2.2.1,c.2.2.2.2.1,c.2.2.2.2.2.1,g,t,()))<|oN (zmK j)<|iter (σ:=(Int×Int×Int×(List Int)×lM×lN×lE×lE×(List Int)×lM×lN×lE×lE×Unit)) N (λn a=>let l:=a.2.2.2.2.2.2.2.2.2.2.2.2.1;let r:=a.2.2.2.2.2.2.2.2.1;let p:=(⟨r,a.2.1,a.2.2.1⟩:Cur);let e:=({ (zf p 7) with b:=r}:Cur); (oN (zB p 7)<|cond (ilt a.1<|zn p 7) (oN (zos e)<|oN (few<|ln<|ap a.2.2.2.1 [ztT e])<|n (zM .i64 a.1 1,(zlO e).i,(zlO e).h,ap a.2.2.2.1 [ztT e],a.2.2.2.2.1,a.2.2.2.2.2.1,a.2.2.2.2.2.2.1,a.2.2.2.2.2.2.2.1,r,a.2.2.2.2.2.2.2.2.2.1,a.2.2.2.2.2.2.2.2.2.2.1,a.2.2.2.2.2.2.2.2.2.2.2.1,l,()))<|oN (zlQ e)<|some [aH (⟨a.2.2.2.2.2.2.2.2.2.1,a.2.2.2.2.2.2.2.2.2.2.1,a.2.2.2.2.2.2.2.2.2.2.2.1,l⟩:Host),aI<|zyG e,aS .int a.2.2.2.1])) (0,(zks j).i,(zks j).h,[],c.2.2.2.2.1,c.2.2.2.2.2.1,g,t,k,d.Memory,d.Mons,d.Buffer,d.IoBuffer,()))<|oN (zmK j)<|iter (σ:=(Int×Int×Int×(List Int)×lM×lN×lE×lE×(List Int)×lM×lN×lE×lE×Unit)) N (λn a=>let m:=a.2.2.2.2.2.2.2.2.2.2.2.2.1;let s:=a.2.2.2.2.2.2.2.2.1;let q:=(⟨s,a.2.1,a.2.2.1⟩:Cur);let f:=({ (zf q 7) with b:=s}:Cur); (oN (zB q 7)<|cond (ilt a.1<|zn q 7) (oN (zos f)<|oN (few<|ln<|ap a.2.2.2.1 [ztT f])<|n (zM .i64 a.1 1,(zlO f).i,(zlO f).h,ap a.2.2.2.1 [ztT f],a.2.2.2.2.1,a.2.2.2.2.2.1,a.2.2.2.2.2.2.1,a.2.2.2.2.2.2.2.1,s,a.2.2.2.2.2.2.2.2.2.1,a.2.2.2.2.2.2.2.2.2.2.1,a.2.2.2.2.2.2.2.2.2.2.2.1,m,()))<|oN (zlQ f)<|some [aH (⟨a.2.2.2.2.2.2.2.2.2.1,a.2.2.2.2.2.2.2.2.2.2.1,a.2.2.2.2.2.2.2.2.2.2.2.1,m⟩:Host),aI<|zyG f,aS .int a.2.2.2.1])) (0,(zks j).i,(zks j).h,[],c.2.2.2.2.1,c.2.2.2.2.2.1,g,t,k,d.Memory,d.Mons,d.Buffer,d.IoBuffer,()))) (zM .i64 94701<|ln u,0,u,[],[],[],[],[],()))
def zBC:=zx [(48,0,{n:=32,tm:=[(0,.sl 0 []),(3,ti),(4,ti)],lo:=[(0,[.sl 2 [],.sl 3 [],.sl 4 [],.sl 5 []])],ro:=[(0,.u8,false),(1,.int,true),(2,.sl .int,true),(3,.mon,true),(4,.entry,true),(5,.entry,true)],sk:=[(0,2,0,.lp 0 0),(0,4,0,.sl 1 [])]}),(27,0,{n:=29,tm:=[(2,.lp 0 0),(5,.lp 1 0),(6,.lp 2 0),(7,.sl 0 []),(8,ti)],lo:=[(0,[.sl 1 [],.sl 2 [],.sl 3 [],.sl 4 []]),(1,[.sl 5 [],ti,ti]),(2,[.sl 6 [],.sl 7 [],.sl 8 [],.sl 9 []])],ro:=[(0,.int,true),(1,.sl .int,true),(2,.mon,true),(3,.entry,true),(4,.entry,true),(5,.u8,false),(6,.sl .int,false),(7,.mon,true),(8,.entry,true),(9,.entry,true)]})]
def zlG (c:List Int)(a:Host)(d:Int)(b:List Int):Prop:=(∃N,zjc N c=some [aH a,aI d,aS .int b])/\(AnyH a/\b.length<=7)
def zgi (a:List Int):Bool:=uC (T:=Host×Int×List Int) (λr=>zlG a r.1 r.2.1 r.2.2)
def zmX (a:List Int):Host×Int×List Int:=uV (λr=>zlG a r.1 r.2.1 r.2.2)
def zmV (a:List Int):Host:=(zmX a).1
def zmW (a:List Int):Int:=(zmX a).2.1
def zhx (a:List Int):List Int:=(zmX a).2.2
theorem ztb {a:List Int}(h:zgi a=true):zlG a (zmV a) (zmW a) (zhx a):=uG h
theorem zFj (f:List Int)(h:∃N,Ends (λa=>∃b d c,a=[aH b,aI d,aS .int c]/\(AnyH b/\c.length<=7))<|zjc N f):zgi f=true:=by obtain⟨N,a,e,b,d,c,rfl,h⟩:=h;exact zbw ⟨(b,d,c),⟨N,e⟩,h⟩
def zqg:Run:=rF1 (dS .u8) λb=>(zgi b,[aH<|zmV b,aI<|zmW b,aS .int<|zhx b])
theorem zBz (a:List Int)(b:zgi a=true):∃N,zjc N a=some [aH<|zmV a,aI<|zmW a,aS .int<|zhx a]:=by exact(ztb b).1
theorem zxN:vM 27 zqg:=kF1 z4w zZ z5p zq zBC zBz
theorem zvD {a:List Int}(h:a.length<=big):zgi a=true:=by
 refine zFj a (zcA λN c=>?_);unfold zjc oN;conv=>zeta
 have r:7<N:=c (by rw[zl6];omega);refine z1b h (c h) ((λi t=>(t,(i:Int),a,[],[],[],[],[],())):Int->Int->_) (λrec i t=>by dsimp only) (λt m=>?_);have g:=(zLY<|z2d m).2.2;refine zF (z2d m) (zjm (λn s=>∃(k:Nat) (i x:Int) (l:List Int),s=((k:Int),i,x,l,[],[],[],[],a,(zlP ⟨a,0,t⟩).Memory,(zlP ⟨a,0,t⟩).Mons,(zlP ⟨a,0,t⟩).Buffer,(zlP ⟨a,0,t⟩).IoBuffer,())/\k+n=7/\0<=i/\l.length=k) ?_ N 7 _ ⟨0,_,_,[],rfl,rfl,z0z _,rfl⟩ r);rintro n s rec ⟨k,i,x,l,rfl,u,e,f⟩ d;dsimp only;have b:zbe ⟨a,i,x⟩:=⟨e,h⟩;have v:=zfw b (n:=7) (by omega);have j:=q_of h (zG ⟨a,i,x⟩ 7);refine zF (zbz b _) (zbE (λp=>?_) λ_=>zF (at_t j) ⟨_,rfl,zlP ⟨a,0,t⟩,_,l,rfl,g,by omega⟩);have q:=qD p;refine zF (z9N j) (zF (zjo (by rw[zhd];unfold ln;omega))<|d (n-1) _ (by omega) ?_);rw[zmN (show -9223372036854775808<=(k:Int)+1 by omega) (by omega)];exact⟨k+1,_,_,_,rfl,by omega,z3f _,by simp[ap,f]⟩
def z97:zbb:=[(52,zqJ),(69,zkF),(221,zlE)]++zML
theorem z1i:zS z97:=zi zup (zi zuq<|zi zxM zee)
abbrev HSb:Type:=(List Bool)×(List<|List Int)×(List Mon)×(List Entry)×(List Entry)
def zmS (t:HSb):Host:=⟨t.2.1,t.2.2.1,t.2.2.2.1,t.2.2.2.2⟩
def z0S (u:Host×List Bool):HSb:=(u.2,u.1.Memory,u.1.Mons,u.1.Buffer,u.1.IoBuffer)
def zVG (t:HSb):OA:=some [AV.agg<|zbl<|zmS t,AV.one<|.s .bool t.1]
def zcS (m:Int):List Int->Host×List Bool->Host×List Bool
 |[],u=>u
 |g::l,u=>zcS m l ((zbg u.1 m g).1,ap u.2 [(zbg u.1 m g).2])
theorem zGd (m:Int){c:Host->Int->Bool}(b:∀h g,SmH h->c h g=true):∀(l:List Int) (i:Nat) (u:Host×List Bool),SmH u.1->u.2.length+l.length<=2147483648->
 goL (λ(_:Nat) x (t:HSb) n=>bif c (zmS t) x then (cond (few<|ln<|ap t.1 [(zbg (zmS t) m x).2]) (n (ap t.1 [(zbg (zmS t) m x).2],(zbg (zmS t) m x).1.Memory,(zbg (zmS t) m x).1.Mons,(zbg (zmS t) m x).1.Buffer,(zbg (zmS t) m x).1.IoBuffer)) none) else none) zVG l i (z0S u)=zVG (z0S<|zcS m l u)
 |[],i,u,_,_=>rfl
 |a::l,i,u,d,k=>by simp only[qZ]at k;have f:few (ln<|ap u.2 [(zbg u.1 m a).2])=true:=zgu (by simp[ap];omega);have j:zmS (z0S u)=u.1:=rfl;have e:(z0S u).1=u.2:=rfl;simp only[goL,j,e,f,b _ _ d,cT];exact zGd m b l (i+1) ((zbg u.1 m a).1,ap u.2 [(zbg u.1 m a).2]) (zDH m a d).sm (by simp[ap];omega)
theorem zVH (m:Int):∀(l:List Int) (u:Host×List Bool),SmH u.1->SmH (zcS m l u).1
 |[],u,h=>h
 |a::l,u,h=>zVH m l ((zbg u.1 m a).1,ap u.2 [(zbg u.1 m a).2]) (zDH m a h).sm
@[simp] abbrev zkA (h:Host)(_:Int)(l:List Int):Bool:=pc (zdI h/\l.length<=1048576)
@[simp] abbrev zgl (h:Host)(m:Int)(l:List Int):Host:=(zcS m l (h,[])).1
@[simp] abbrev zfn (h:Host)(m:Int)(l:List Int):List Bool:=(zcS m l (h,[])).2
def zv4:Run:=rF3 dH dI (dS .int) λb c d=>(zkA b c d,[aH<|zgl b c d,aS .bool<|zfn b c d])
def zAd (N:Nat)(b:Host)(h:Int)(f:List Int):OA:=
 (oN (zbC b)<|iter (σ:=(Int×Int×Int×lB×(List Int)×lM×lN×lE×lE×lM×lN×lE×lE×Unit)) N (λi a=>let e:=ix a.2.2.2.2.1 a.2.2.1 0;let c:=(⟨a.2.2.2.2.2.2.2.2.2.1,a.2.2.2.2.2.2.2.2.2.2.1,a.2.2.2.2.2.2.2.2.2.2.2.1,a.2.2.2.2.2.2.2.2.2.2.2.2.1⟩:Host);let g:=ap a.2.2.2.1 [zcm c a.1 e];let d:=zcl c a.1 e; (cond (ilt a.2.2.1 a.2.1) (oN (inb a.2.2.1<|ln a.2.2.2.2.1)<|oN (zcT c a.1 e)<|oN (few<|ln g)<|i (a.1,a.2.1,zM .i64 a.2.2.1 1,g,a.2.2.2.2.1,a.2.2.2.2.2.1,a.2.2.2.2.2.2.1,a.2.2.2.2.2.2.2.1,a.2.2.2.2.2.2.2.2.1,d.Memory,d.Mons,d.Buffer,d.IoBuffer,()))<|some [aH c,aS .bool a.2.2.2.1])) (h,ln f,0,[],f,[],[],[],[],(zl b).Memory,(zl b).Mons,(zl b).Buffer,(zl b).IoBuffer,()))
def zMq:=zx [(29,0,{n:=38,tm:=[(1,ti),(6,.lp 0 0),(8,.lp 1 0),(9,.sl 0 []),(17,.sl 1 []),(18,ti),(19,ti)],lo:=[(0,[.sl 2 [],.sl 3 [],.sl 4 [],.sl 5 []]),(1,[.sl 6 [],.sl 7 [],.sl 8 [],.sl 9 []])],ro:=[(0,.bool,true),(1,.int,false),(2,.sl .int,true),(3,.mon,true),(4,.entry,true),(5,.entry,true),(6,.sl .int,true),(7,.mon,true),(8,.entry,true),(9,.entry,true)]})]
theorem zLa (b:Host)(a:Int)(c:List Int)(l:zkA b a c=true):∃N,zAd N b a c=some [aH<|zgl b a c,aS .bool<|zfn b a c]:=by
 obtain⟨k,j⟩:=zQ.1 l;have f:=zdj j;refine zcA λN e=>?_;unfold zAd oN;conv=>zeta
 refine must (zbw k) ?_;refine(zbm c (λi (t:lB×lM×lN×lE×lE)=>(a,ln c,(i:Int),t.1,c,[],[],[],[],t.2.1,t.2.2.1,t.2.2.2.1,t.2.2.2.2,())) _ (λ_ (x:Int) (t:HSb) n=>bif zcT (zmS t) a x then (cond (few<|ln<|ap t.1 [(zbg (zmS t) a x).2]) (n (ap t.1 [(zbg (zmS t) a x).2],(zbg (zmS t) a x).1.Memory,(zbg (zmS t) a x).1.Mons,(zbg (zmS t) a x).1.Buffer,(zbg (zmS t) a x).1.IoBuffer)) none) else none) (λ(t:lB×lM×lN×lE×lE)=>some [.agg<|zbl (⟨t.2.1,t.2.2.1,t.2.2.2.1,t.2.2.2.2⟩:Host),.one<|.s .bool t.1]) (λi d t rec=>?_) (λt rec=>?_) _ ([],(zl b).Memory,(zl b).Mons,(zl b).Buffer,(zl b).IoBuffer)<|e f.1).trans ?_;{simp only [zbG d,zbi d,zbp d,zbh d f.1,cT];rfl};{simp only [zbt,cF]};exact zGd a (λh g m=>zbw ((zU h).2 m)) c 0 (b,[]) ((zU b).1 k) (by simpa using f.2)
theorem zEv:vM 29 zv4:=kF3 z1i zZ zy zq zMq zLa
def zgY (x y:List Int):Bool:=pc (x=y)
def zhE (_ _:List Int):Bool:=true
def zyo:Run:=rF2 (dS .int) (dS .int) λb c=>(zgY b c,[aB<|zhE b c])
def zBR (N:Nat)(b c:List Int):OA:=
 (cond (ine (ln b)<|ln c) oF<|iter (σ:=(Int×(List Int)×(List Int)×Unit)) N (λd a=>cond (ilt a.1<|ln a.2.1) (oN (inb a.1<|ln a.2.1)<|oN (inb a.1<|ln a.2.2.1)<|cond (ine (ix a.2.1 a.1 0)<|ix a.2.2.1 a.1 0) oF<|d (zM .i64 a.1 1,a.2.1,a.2.2.1,())) oT) (0,b,c,()))
def zO2:=zx [(42,0,{n:=26,tm:=[(0,.sl 0 []),(1,.sl 1 []),(5,ti)],lo:=[],ro:=[(0,.int,false),(1,.int,false)]})]
theorem zOj (a b:List Int)(d:zbL big [aS .int a,aS .int b])(e:zgY a b=true):∃N,zBR N a b=some [aB<|zhE a b]:=by have:=zQ.1 e;subst this;have f:=len0 d;refine⟨a.length+1,?_⟩;unfold zBR oN;rw[zdz];refine zmc a zbbo _ _ f (λi c rec=>?_) (λrec=>?_) (jZ _);{simp only [zbG c,zbi c,zbp c,zqD,zdz,zeJ,zfB,cT,cF,jU,jV]};{simp only [zbt,cF,zhE]}
theorem zHy:vM 42 zyo:=hF2 zee zZ zy zq zO2 zOj
def zhn (x y:List Bool):Bool:=pc (x=y)
def zhL (_ _:List Bool):Bool:=true
def zo7:Run:=rF2 (dS .bool) (dS .bool) λb c=>(zhn b c,[aB<|zhL b c])
def zAi (N:Nat)(b c:lB):OA:=
 (cond (ine (ln b)<|ln c) oF<|iter (σ:=(Int×lB×lB×Unit)) N (λd a=>cond (ilt a.1<|ln a.2.1) (oN (inb a.1<|ln a.2.1)<|oN (inb a.1<|ln a.2.2.1)<|cond (nB<|znW (ix a.2.1 a.1 false)<|ix a.2.2.1 a.1 false) oF<|d (zM .i64 a.1 1,a.2.1,a.2.2.1,())) oT) (0,b,c,()))
def zMr:=zx [(30,0,{n:=26,tm:=[(0,.sl 0 []),(1,.sl 1 []),(5,ti)],lo:=[],ro:=[(0,.bool,false),(1,.bool,false)]})]
theorem zLg (a b:List Bool)(d:zbL big [aS .bool a,aS .bool b])(e:zhn a b=true):∃N,zAi N a b=some [aB<|zhL a b]:=by have:=zQ.1 e;subst this;have f:=len0 d;refine⟨a.length+1,?_⟩;unfold zAi oN nB;rw[zdz];refine zmc a zbaQ _ _ f (λi c rec=>?_) (λrec=>?_) (jZ _);{simp only [zbG c,zbi c,zbp c,zqD,zdz,zeJ,zfB,cT,cF,jU,jV]};{simp only [zbt,cF,zhL]}
theorem zs5:vM 30 zo7:=hF2 zee zZ zy zq zMr zLg
def zfo (x y:List Slot):Bool:=pc (x=y)
def zfO (_ _:List Slot):Bool:=true
def zwc:Run:=rF2 (dS .slot) (dS .slot) λb c=>(zfo b c,[aB<|zfO b c])
def zAm (N:Nat)(b c:lS):OA:=
 (cond (ine (ln b)<|ln c) oF<|iter (σ:=(Int×lS×lS×Unit)) N (λf a=>let e:=ix a.2.1 a.1 zW;let d:=ix a.2.2.1 a.1 zW; (cond (ilt a.1<|ln a.2.1) (oN (inb a.1<|ln a.2.1)<|oN (inb a.1<|ln a.2.2.1)<|cond (nB<|cond (ieq e.Page d.Page) (ieq e.Rights d.Rights) false) oF<|f (zM .i64 a.1 1,a.2.1,a.2.2.1,())) oT)) (0,b,c,()))
def zMu:=zx [(357,0,{n:=26,tm:=[(0,.sl 0 []),(1,.sl 1 []),(5,ti)],lo:=[],ro:=[(0,.slot,false),(1,.slot,false)]})]
theorem zLk (a b:List Slot)(d:zbL big [aS .slot a,aS .slot b])(e:zfo a b=true):∃N,zAm N a b=some [aB<|zfO a b]:=by
 have:=zQ.1 e;subst this;have f:=len0 d;refine⟨a.length+1,?_⟩;unfold zAm oN nB;conv=>zeta
 rw[zdz];refine zmc a zW _ _ f (λi c rec=>?_) (λrec=>?_) (jZ _);{simp only [zbG c,zbi c,zbp c,zqD,zdz,zeJ,zfB,cT,cF,jU,jV]};{simp only [zbt,cF,zfO]}
theorem zEE:vM 357 zwc:=hF2 zee zZ zy zq zMu zLk
def zjx (x y:List Entry):Bool:=pc (x=y)
def zjw (_ _:List Entry):Bool:=true
def zuO:Run:=rF2 (dS .entry) (dS .entry) λb c=>(zjx b c,[aB<|zjw b c])
def zxs (N:Nat)(d e:lE):OA:=
 (cond (ine (ln d)<|ln e) oF<|iter (σ:=(Int×lE×lE×Unit)) N (λf a=>let c:=ix a.2.1 a.1 ze3;let b:=ix a.2.2.1 a.1 ze3; (cond (ilt a.1<|ln a.2.1) (oN (inb a.1<|ln a.2.1)<|oN (inb a.1<|ln a.2.2.1)<|cond (nB<|cond (ieq c.Tag b.Tag) (cond (ieq c.Page b.Page) (cond (ieq c.Host b.Host) (ieq c.Rights b.Rights) false) false) false) oF<|f (zM .i64 a.1 1,a.2.1,a.2.2.1,())) oT)) (0,d,e,()))
def zIG:=zx [(109,0,{n:=26,tm:=[(0,.sl 0 []),(1,.sl 1 []),(5,ti)],lo:=[],ro:=[(0,.entry,false),(1,.entry,false)]})]
theorem zH4 (a b:List Entry)(d:zbL big [aS .entry a,aS .entry b])(e:zjx a b=true):∃N,zxs N a b=some [aB<|zjw a b]:=by
 have:=zQ.1 e;subst this;have f:=len0 d;refine⟨a.length+1,?_⟩;unfold zxs oN nB;conv=>zeta
 rw[zdz];refine zmc a ze3 _ _ f (λi c rec=>?_) (λrec=>?_) (jZ _);{simp only [zbG c,zbi c,zbp c,zqD,zdz,zeJ,zfB,cT,cF,jU,jV]};{simp only [zbt,cF,zjw]}
theorem zCI:vM 109 zuO:=hF2 zee zZ zy zq zIG zH4
def zoU (x y:List Ins):Bool:=pc (x=y)
def zoT (_ _:List Ins):Bool:=true
def zyn:Run:=rF2 (dS .ins) (dS .ins) λb c=>(zoU b c,[aB<|zoT b c])
def zBQ (N:Nat)(b c:lI):OA:=
 (cond (ine (ln b)<|ln c) oF<|iter (σ:=(Int×lI×lI×Unit)) N (λf a=>let e:=ix a.2.1 a.1 zrT;let d:=ix a.2.2.1 a.1 zrT; (cond (ilt a.1<|ln a.2.1) (oN (inb a.1<|ln a.2.1)<|oN (inb a.1<|ln a.2.2.1)<|cond (nB<|cond (ieq e.Op d.Op) (ieq e.X d.X) false) oF<|f (zM .i64 a.1 1,a.2.1,a.2.2.1,())) oT)) (0,b,c,()))
def zO1:=zx [(396,0,{n:=26,tm:=[(0,.sl 0 []),(1,.sl 1 []),(5,ti)],lo:=[],ro:=[(0,.ins,false),(1,.ins,false)]})]
theorem zOi (a b:List Ins)(d:zbL big [aS .ins a,aS .ins b])(e:zoU a b=true):∃N,zBQ N a b=some [aB<|zoT a b]:=by
 have:=zQ.1 e;subst this;have f:=len0 d;refine⟨a.length+1,?_⟩;unfold zBQ oN nB;conv=>zeta
 rw[zdz];refine zmc a zrT _ _ f (λi c rec=>?_) (λrec=>?_) (jZ _);{simp only [zbG c,zbi c,zbp c,zqD,zdz,zeJ,zfB,cT,cF,jU,jV]};{simp only [zbt,cF,zoT]}
theorem zHx:vM 396 zyn:=hF2 zee zZ zy zq zO1 zOi
def z1H:zbb:=[(42,zyo),(30,zo7),(357,zwc),(109,zuO),(396,zyn)]++zML
theorem zvA:zS z1H:=zi zHy (zi zs5<|zi zEE<|zi zCI<|zi zHx zee)
def ziy (x y:List (List Int)):Bool:=pc (x=y)
def ziY (_ _:List (List Int)):Bool:=true
def zwb:Run:=rF2 (dS<|.sl .int) (dS<|.sl .int) λb c=>(ziy b c,[aB<|ziY b c])
def zAl (N:Nat)(b:lM)(c:lM):OA:=
 (cond (ine (ln b)<|ln c) oF<|iter (σ:=(Int×lM×lM×Unit)) N (λd a=>cond (ilt a.1<|ln a.2.1) (oN (inb a.1<|ln a.2.1)<|oN (inb a.1<|ln a.2.2.1)<|oN (zgY (ix a.2.1 a.1 [])<|ix a.2.2.1 a.1 [])<|cond (nB<|zhE (ix a.2.1 a.1 [])<|ix a.2.2.1 a.1 []) oF<|d (zM .i64 a.1 1,a.2.1,a.2.2.1,())) oT) (0,b,c,()))
def zMt:=zx [(107,0,{n:=27,tm:=[(0,.sl 0 []),(1,.sl 1 []),(5,ti)],lo:=[],ro:=[(0,.sl .int,false),(1,.sl .int,false)]})]
theorem zLj (a:List (List Int))(b:List (List Int))(d:zbL big [aS (.sl .int) a,aS (.sl .int) b])(e:ziy a b=true):∃N,zAl N a b=some [aB<|ziY a b]:=by have:=zQ.1 e;subst this;have f:=len0 d;refine⟨a.length+1,?_⟩;unfold zAl oN nB;rw[zdz];refine zmc a (Ty.dflt<|.sl .int) _ _ f (λi c rec=>?_) (λrec=>?_) (jZ _);{simp only [zbG c,zbi c,zbp c,zgY,zhE,zqD,zdz,zeJ,zfB,cT,cF,jU,jV]};{simp only [zbt,cF,ziY]}
theorem zED:vM 107 zwb:=hF2 zvA zZ zy zq zMt zLj
def zoW (x y:Kept):Bool:=pc (x=y)
def zoV (_ _:Kept):Bool:=true
def zyp:Run:=rF2 (dT .kept) (dT .kept) λb c=>(zoW b c,[aB<|zoV b c])
def zBS (N:Nat)(a b:Kept):OA:=
 (oN (zhn a.Known b.Known)<|cond (zhL a.Known b.Known) (oN (zfo a.Slots b.Slots)<|some [aB<|zfO a.Slots b.Slots]) oF)
theorem zOk (a b:Kept)(c:zoW a b=true):∃N,zBS N a b=some [aB<|zoV a b]:=by have:=zQ.1 c;subst this;refine⟨0,?_⟩;simp only[zBS,zhn,zhL,zfo,zfO,zqD,zdz,zeJ,zfB,cT,cF,jU,jV,zoV]
theorem zHz:vM 395 zyp:=kF2 zvA zZ zy zq (zx []) zOk
def znB (x y:Guest):Bool:=pc (x=y)
def zm7 (_ _:Guest):Bool:=true
def zv9:Run:=rF2 (dT .guest) (dT .guest) λb c=>(znB b c,[aB<|zm7 b c])
def zAj (N:Nat)(a b:Guest):OA:=
 (oN (zoU a.Prog b.Prog)<|cond (zoT a.Prog b.Prog) (cond (ieq a.A b.A) (cond (ieq a.Pc b.Pc) (oN (zfo a.Written b.Written)<|cond (zfO a.Written b.Written) (oN (zfo a.Live b.Live)<|cond (zfO a.Live b.Live) (cond (cond (ieq a.Ctl.Traps b.Ctl.Traps) (cond (ieq a.Ctl.Post b.Ctl.Post) (znW a.Ctl.Open b.Ctl.Open) false) false) (cond (ieq a.Pending b.Pending) (cond (cond (ieq a.Exit.Kind b.Exit.Kind) (cond (ieq a.Exit.Page b.Exit.Page) (cond (znW a.Exit.Write b.Exit.Write) (ieq a.Exit.N b.Exit.N) false) false) false) (cond (znW a.Halted b.Halted) (oN (zgY a.Seen b.Seen)<|some [aB<|zhE a.Seen b.Seen]) oF) oF) oF) oF) oF) oF) oF) oF) oF)
theorem zLh (a b:Guest)(c:znB a b=true):∃N,zAj N a b=some [aB<|zm7 a b]:=by have:=zQ.1 c;subst this;refine⟨0,?_⟩;simp only[zAj,zoU,zoT,zfo,zfO,zgY,zhE,zqD,zdz,zeJ,zfB,cT,cF,jU,jV,zm7]
theorem zEB:vM 359 zv9:=kF2 zvA zZ zy zq (zx []) zLh
def z1I:zbb:=[(107,zwb),(395,zyp),(359,zv9)]++z1H
theorem zCu:zS z1I:=zi zED (zi zHz<|zi zEB zvA)
def znC (x y:List Kept):Bool:=pc (x=y)
def zm8 (_ _:List Kept):Bool:=true
def zwa:Run:=rF2 (dS .kept) (dS .kept) λb c=>(znC b c,[aB<|zm8 b c])
def zAk (N:Nat)(b c:lK):OA:=
 (cond (ine (ln b)<|ln c) oF<|iter (σ:=(Int×lK×lK×Unit)) N (λf a=>let e:=ix a.2.1 a.1 zeC;let d:=ix a.2.2.1 a.1 zeC; (cond (ilt a.1<|ln a.2.1) (oN (inb a.1<|ln a.2.1)<|oN (inb a.1<|ln a.2.2.1)<|oN (zoW e d)<|cond (nB<|zoV e d) oF<|f (zM .i64 a.1 1,a.2.1,a.2.2.1,())) oT)) (0,b,c,()))
def zMs:=zx [(358,0,{n:=27,tm:=[(0,.sl 0 []),(1,.sl 1 []),(5,ti)],lo:=[],ro:=[(0,.kept,false),(1,.kept,false)]})]
theorem zLi (a b:List Kept)(d:zbL big [aS .kept a,aS .kept b])(e:znC a b=true):∃N,zAk N a b=some [aB<|zm8 a b]:=by
 have:=zQ.1 e;subst this;have f:=len0 d;refine⟨a.length+1,?_⟩;unfold zAk oN nB;conv=>zeta
 rw[zdz];refine zmc a zeC _ _ f (λi c rec=>?_) (λrec=>?_) (jZ _);{simp only [zbG c,zbi c,zbp c,zoW,zoV,zqD,zdz,zeJ,zfB,cT,cF,jU,jV]};{simp only [zbt,cF,zm8]}
theorem zEC:vM 358 zwa:=hF2 zCu zZ zy zq zMs zLi
def zmj (x y:List Guest):Bool:=pc (x=y)
def zlr (_ _:List Guest):Bool:=true
def zuP:Run:=rF2 (dS .guest) (dS .guest) λb c=>(zmj b c,[aB<|zlr b c])
def zxt (N:Nat)(b c:lG):OA:=
 (cond (ine (ln b)<|ln c) oF<|iter (σ:=(Int×lG×lG×Unit)) N (λf a=>let e:=ix a.2.1 a.1 zu;let d:=ix a.2.2.1 a.1 zu; (cond (ilt a.1<|ln a.2.1) (oN (inb a.1<|ln a.2.1)<|oN (inb a.1<|ln a.2.2.1)<|oN (znB e d)<|cond (nB<|zm7 e d) oF<|f (zM .i64 a.1 1,a.2.1,a.2.2.1,())) oT)) (0,b,c,()))
def zIH:=zx [(254,0,{n:=27,tm:=[(0,.sl 0 []),(1,.sl 1 []),(5,ti)],lo:=[],ro:=[(0,.guest,false),(1,.guest,false)]})]
theorem zH5 (a b:List Guest)(d:zbL big [aS .guest a,aS .guest b])(e:zmj a b=true):∃N,zxt N a b=some [aB<|zlr a b]:=by
 have:=zQ.1 e;subst this;have f:=len0 d;refine⟨a.length+1,?_⟩;unfold zxt oN nB;conv=>zeta
 rw[zdz];refine zmc a zu _ _ f (λi c rec=>?_) (λrec=>?_) (jZ _);{simp only [zbG c,zbi c,zbp c,znB,zm7,zqD,zdz,zeJ,zfB,cT,cF,jU,jV]};{simp only [zbt,cF,zlr]}
theorem zCJ:vM 254 zuP:=hF2 zCu zZ zy zq zIH zH5
def z1J:zbb:=[(358,zwa),(254,zuP)]++z1I
theorem zP2:zS z1J:=zi zEC (zi zCJ zCu)
def zrh (x y:Mon):Bool:=pc (x=y)
def zsc (_ _:Mon):Bool:=true
def zAT:Run:=rF2 (dT .mon) (dT .mon) λb c=>(zrh b c,[aB<|zsc b c])
def zFv (N:Nat)(a b:Mon):OA:=
 (oN (zfo a.Outer b.Outer)<|cond (zfO a.Outer b.Outer) (oN (ziy a.Out b.Out)<|cond (ziY a.Out b.Out) (oN (zhn a.Dirty b.Dirty)<|cond (zhL a.Dirty b.Dirty) (oN (zmj a.Guests b.Guests)<|cond (zlr a.Guests b.Guests) (oN (zgY a.Outs b.Outs)<|cond (zhE a.Outs b.Outs) (cond (ieq a.Pending b.Pending) (cond (ieq a.Traps b.Traps) (oN (znC a.Tables b.Tables)<|cond (zm8 a.Tables b.Tables) (some [aB<|ieq a.Own b.Own]) oF) oF) oF) oF) oF) oF) oF) oF)
theorem zRp (a b:Mon)(c:zrh a b=true):∃N,zFv N a b=some [aB<|zsc a b]:=by have:=zQ.1 c;subst this;refine⟨0,?_⟩;simp only[zFv,zfo,zfO,ziy,ziY,zhn,zhL,zmj,zlr,zgY,zhE,znC,zm8,zqD,zdz,zeJ,zfB,cT,cF,jU,jV,zsc]
theorem zKl:vM 253 zAT:=kF2 zP2 zZ zy zq (zx []) zRp
def z1K:zbb:=[(253,zAT)]++z1J
theorem zP3:zS z1K:=zi zKl zP2
def zoY (x y:List Mon):Bool:=pc (x=y)
def zoX (_ _:List Mon):Bool:=true
def zyq:Run:=rF2 (dS .mon) (dS .mon) λb c=>(zoY b c,[aB<|zoX b c])
def zBT (N:Nat)(b c:lN):OA:=
 (cond (ine (ln b)<|ln c) oF<|iter (σ:=(Int×lN×lN×Unit)) N (λf a=>let e:=ix a.2.1 a.1 zh;let d:=ix a.2.2.1 a.1 zh; (cond (ilt a.1<|ln a.2.1) (oN (inb a.1<|ln a.2.1)<|oN (inb a.1<|ln a.2.2.1)<|oN (zrh e d)<|cond (nB<|zsc e d) oF<|f (zM .i64 a.1 1,a.2.1,a.2.2.1,())) oT)) (0,b,c,()))
def zO3:=zx [(108,0,{n:=27,tm:=[(0,.sl 0 []),(1,.sl 1 []),(5,ti)],lo:=[],ro:=[(0,.mon,false),(1,.mon,false)]})]
theorem zOl (a b:List Mon)(d:zbL big [aS .mon a,aS .mon b])(e:zoY a b=true):∃N,zBT N a b=some [aB<|zoX a b]:=by
 have:=zQ.1 e;subst this;have f:=len0 d;refine⟨a.length+1,?_⟩;unfold zBT oN nB;conv=>zeta
 rw[zdz];refine zmc a zh _ _ f (λi c rec=>?_) (λrec=>?_) (jZ _);{simp only [zbG c,zbi c,zbp c,zrh,zsc,zqD,zdz,zeJ,zfB,cT,cF,jU,jV]};{simp only [zbt,cF,zoX]}
theorem zHA:vM 108 zyq:=hF2 zP3 zZ zy zq zO3 zOl
def z98:zbb:=[(108,zyq)]++z1K
theorem z1L:zS z98:=zi zHA zP3
def zuz (x y:Host):Bool:=pc (x=y)
def ztl (_ _:Host):Bool:=true
def zym:Run:=rF2 dH dH λb c=>(zuz b c,[aB<|ztl b c])
def zBP (N:Nat)(a b:Host):OA:=
 (oN (ziy a.Memory b.Memory)<|cond (ziY a.Memory b.Memory) (oN (zoY a.Mons b.Mons)<|cond (zoX a.Mons b.Mons) (oN (zjx a.Buffer b.Buffer)<|cond (zjw a.Buffer b.Buffer) (oN (zjx a.IoBuffer b.IoBuffer)<|some [aB<|zjw a.IoBuffer b.IoBuffer]) oF) oF) oF)
theorem zOh (a b:Host)(c:zuz a b=true):∃N,zBP N a b=some [aB<|ztl a b]:=by have:=zQ.1 c;subst this;refine⟨0,?_⟩;simp only[zBP,ziy,ziY,zoY,zoX,zjx,zjw,zqD,zdz,zeJ,zfB,cT,cF,jU,jV,ztl]
theorem zHw:vM 20 zym:=kF2 z1L zZ zy zq (zx []) zOh
theorem zMf (m:Int):∀(a b:List Int) (u:Host×List Bool),zcS m (a++b) u=zcS m b (zcS m a u)
 |[],_,_=>rfl
 |g::a,b,u=>zMf m a b ((zbg u.1 m g).1,ap u.2 [(zbg u.1 m g).2])
theorem zz3 (m:Int):∀(l:List Int) (h:Host) (t:List Bool),zcS m l (h,t)=((zcS m l (h,[])).1,t++(zcS m l (h,[])).2)
 |[],h,t=>by simp[zcS]
 |g::l,h,t=>by show zcS m l ((zbg h m g).1,t++[(zbg h m g).2])=((zcS m l ((zbg h m g).1,[]++[(zbg h m g).2])).1,t++(zcS m l ((zbg h m g).1,[]++[(zbg h m g).2])).2);rw[zz3 m l (zbg h m g).1<|t++[(zbg h m g).2],zz3 m l (zbg h m g).1<|[]++[(zbg h m g).2]];simp
theorem ztF (m:Int):∀(l:List Int) (u:Host×List Bool),(zcS m l u).2.length=u.2.length+l.length
 |[],_=>rfl
 |g::l,u=>by show (zcS m l ((zbg u.1 m g).1,ap u.2 [(zbg u.1 m g).2])).2.length=_;rw[ztF m l];simp[ap];omega
theorem zXB (m:Int)(h:Host){l:List Int}{k:Int}:zcS m l (h,[])=((zcS m (dp l k) ((zcS m (tk l k) (h,[])).1,[])).1,(zcS m (tk l k) (h,[])).2++(zcS m (dp l k) ((zcS m (tk l k) (h,[])).1,[])).2):=by have e:l=tk l k++dp l k:=(by unfold tk dp;exact(u3 _ _).symm);have a:=zMf m (tk l k) (dp l k) (h,[]);rw[<- e]at a;rw[a];exact zz3 m (dp l k) (zcS m (tk l k) (h,[])).1 (zcS m (tk l k) (h,[])).2
theorem zUy {d b:Type}{f:d->b}{l:List d}{x:b}{c:List b}(h:l.map f=x::c):∃a r,l=a::r/\f a=x/\r.map f=c:=by cases l with|nil=>cases h|cons a r=>simp only[jD,List.cons.injEq]at h;exact⟨a,r,rfl,h.1,h.2⟩
theorem zbaH {a:AV}{b:CTy}(h:some a.sh=some (false,[b])):∃c,a = .one c/\c.ty=b:=by cases a with|one c=>simp only[AV.sh,qC,jS,List.cons.injEq,and_true,true_and]at h;exact⟨c,rfl,h⟩|agg l=>simp[AV.sh]at h
theorem sh_s {a:AV}{t:Ty}(h:some a.sh=some (false,[.s t])):∃l:List t.den,a = .one (.s t l):=by obtain⟨c,rfl,b⟩:=zbaH h;obtain⟨l,rfl⟩:=zl9 b;exact⟨l,rfl⟩
section
open Go Go.ChangeShapes Go.WideShapes Go.ChangeAt
abbrev zN5 (_:List Int):Bool:=true
abbrev zK5 (l:List Int):Bool:=igt (ln l) 1048576
def zQz:Run:=rF1 (dS .u8) λb=>(zN5 b,[aB<|zK5 b])
def zXM (N:Nat)(a:List Int):OA:=
 (some [aB<|igt (ln a) 1048576])
theorem z2p (a:List Int)(b:zN5 a=true):∃N,zXM N a=some [aB<|zK5 a]:=by refine⟨0,?_⟩;unfold zXM;first|rfl|(simp only [*,zK5,cT,cF]<;>rfl)|simp_all[Ty.cells,zK5]
theorem zWJ:vM 7 zQz:=kF1 zG2 zZ zy zq (zx []) z2p
def z7k:zbb:=[(7,zQz),(28,zuQ),(27,zqg),(29,zv4),(20,zym),(30,zo7)]++zY6
theorem z4A:zS z7k:=zi zWJ (zi zCL<|zi zxN<|zi zEv<|zi zHw<|zi zs5 zG2)
def zj4 (N:Nat)(c:List Int):OA:=
 let b:=zpA c;let a:=zhx c;let f:=zmY (ix (zjK c) 0 0)<|zM .i64 (ln a) 1;let e:=ap []<|dp a f;let d:=ap []<|tk a f;let g:=zgl b 0 d;let h:=ap (ap []<|zfn b 0 d)<|zfn g 0 e; (oN (zN5 c)<|cond (zK5 c) oT<|oN (zjJ c)<|oN (zgi c)<|oN (zh6 c)<|oN (inb 0<|ln<|zjK c)<|oN (ine (zM .i64 (ln a) 1) 0)<|oN (zkA b 0 a)<|oN (inr 0 f<|ln a)<|oN (few<|ln d)<|oN (zkA b 0 d)<|oN (inr f (ln a)<|ln a)<|oN (few<|ln e)<|oN (zkA g 0 e)<|oN (zuz (zgl b 0 a)<|zgl g 0 e)<|cond (ztl (zgl b 0 a)<|zgl g 0 e) (oN (few<|ln<|ap []<|zfn b 0 d)<|oN (few<|ln h)<|oN (zhn (zfn b 0 a) h)<|cond (zhL (zfn b 0 a) h) (some [aB<|ieq (ln<|zfn b 0 a)<|ln a]) oF) oF)
theorem zFa (N:Nat)(a:List Int):evalFn (cQ z7k z5c zIl zVL) (zx []) N 12 5 [aS .u8 a]=zj4 N a:=by kernel_rfl
theorem zBk (N:Nat)(f:List Int)(d:f.length<=big):Ends (λa=>a=[.one<|.b true]) (zj4 N f):=by
 unfold zj4 oN;conv=>zeta
 refine zF rfl (zbE (λ_=>zuh rfl) λ_=>zF (zJR d) (zF (zvD d)<|zF (zU0 d) ?_));obtain⟨S,r⟩:=zUv (zDA<|zJR d).2;obtain⟨q,i⟩:=(zyC<|zU0 d).2;have y:=(ztb<|zvD d).2.2;generalize zpA f=h at S r;generalize zjK f=p at q i;generalize zhx f=l at y;have t:zdI h:=(zU h).2 r;have z:ln p=12:=(by unfold ln;omega);have u:zM .i64 (ln l) 1=ln l+1:=zmN (by unfold ln;omega) (by unfold ln;omega);have j:(0:Int)<zM .i64 (ln l) 1:=(by rw[u];unfold ln;omega);have n:=zPl (i 0 (by omega) (by omega)).1 j;refine zF (zC<|zI.2 (by omega)) (zF (zxU.2 (by omega)) ?_);generalize zmY (ix p 0 0) (zM .i64 (ln l) 1)=k at n;rw[u]at n;have g:k<=ln l:=(by omega);have C:ap [] (tk l k)=tk l k:=rfl;have D:ap [] (dp l k)=dp l k:=rfl;have G:(tk l k).length<=7:=(by unfold tk;rw[u2];omega);have H:(dp l k).length<=7:=(by unfold dp;rw[u1];omega);have e:=zXB 0 h (l:=l) (k:=k);have s:SmH (zcS 0 (tk l k) (h,[])).1:=zVH 0 _ _ r;have v:=ztF 0 (tk l k) (h,[]);have A:=ztF 0 (dp l k) ((zcS 0 (tk l k) (h,[])).1,[]);have B:=ztF 0 l (h,[]);have c:∀{E:Type} {m:List E},m.length<=20->few (ln m)=true:=λF=>zgu (by omega)
 have w:zgl h 0 l=(zcS 0 (dp l k) ((zcS 0 (tk l k) (h,[])).1,[])).1:=(congrArg Prod.fst e :);have x:zfn h 0 l=ap (ap [] (zcS 0 (tk l k) (h,[])).2) (zcS 0 (dp l k) ((zcS 0 (tk l k) (h,[])).1,[])).2:=(congrArg Prod.snd e :);simp only[C,D];refine zF (zbw ⟨t,by omega⟩) (zF (qI ⟨kB 0,n.1,g⟩)<|zF (c (by omega))<|zF (zbw ⟨t,by omega⟩)<|zF (qI ⟨n.1,g,kB _⟩)<|zF (c (by omega)) (zF (zbw ⟨(zU _).2 s,by omega⟩)
  (zF (zbw w) (zF rfl (zF (c ?_)<|zF (c ?_)<|zF (zbw x) (zF rfl (zuh ?_)))))))
 {show (ap [] (zcS 0 (tk l k) (h,[])).2).length<=20;simp only[ap,jP];simp only[kN] at v;omega};{show (ap (ap [] (zcS 0 (tk l k) (h,[])).2) (zcS 0 (dp l k) ((zcS 0 (tk l k) (h,[])).1,[])).2).length<=20;simp only[ap,jP,j9];simp only[kN] at v A;omega};{show [AV.one<|.b<|ieq ((zcS 0 l (h,[])).2.length:Int) (l.length:Int)]=_;rw[B];simp only[kN,jX,zeJ]}
theorem zCi (d:List Int)(h:∀c∈zD [aS .u8 d],CVOk c):∃N,zj4 N d=some [.one<|.b true]:=by have e:zbL big [aS .u8 d]:=λc f=>CVB.of_ok (h c f);have g:=len0 e;exact⟨5,z8Q (G:=λa=>a=[.one<|.b true])<|zBk 5 d g⟩
theorem zzZ:Tryz.f5.params.toList.map (zcL Tryz.prog 4)=[some (false,[.s .u8])]:=by kernel_rfl
theorem zwO:zXI 5 Tryz.f5.params.toList:=by refine zWp z4A zZ zy zq (zje (by kernel_rfl)) ?_;intro c hg;obtain⟨a,e⟩:=hg;rw[zzZ]at a;obtain⟨h,g,rfl,d,a⟩:=zUy a;cases List.map_eq_nil_iff.1 a;obtain⟨b,rfl⟩:=sh_s d;obtain⟨N,f⟩:=zCi b e;exact⟨zx [],N,12,(zFa N b).trans f⟩
theorem zBB (H:Type)(a:List (DataW H))(h:a.length=Tryz.f5.params.toList.length):Rows.fnStepsSplitSpec.fn H a={results:=[.lit<|.bool true],args:=a}:=by
 have b:a.length=1:=h.trans (by kernel_rfl)
 match a,b with
 |[d],_=>rfl
set_option maxRecDepth 100000 in
theorem zx4 (g:Os)(a:g.Started)(H:Type)(enc:TypeId×Value->H) :
 ReturnsInHanded {} Tryz.checked g 5 .any (Rows.fnStepsSplitSpec.pre6 enc Tryz.prog Tryz.f5 Rows.fnStepsSplitRow.domain false) (Rows.fnStepsSplitSpec.post enc Tryz.prog Tryz.f5 false true false false):=by
 refine returnsInHanded_of_change_shaped (C:=Tryz.checked) own a (by kernel_rfl) Tryz.func5
  (ChangeSpec.witness6 (enc:=enc) (C:=Tryz.checked) false ⟨#[],#[.slice none 0 0],[]⟩ 8 (by kernel_rfl) (by kernel_rfl) (by kernel_rfl) (by kernel_rfl)) ?_
 intro W d c h i b e j _ f _ _;exact zK6 (P:=Tryz.prog) z3T z4S rfl zBB (by kernel_rfl) (B:=4) (by kernel_rfl) (by kernel_rfl) zwO W d c h i b e j f
end
end
end Go.Proofs.YtjapbkodhfpbbaaGreat.E
