/- What is proved here: a part of the proof that the statement of this claim holds (several texts of wip/, laid together). -/
import Derived.Test.YthhbajmehldikaaGreatW6
namespace Go.Proofs.YthhbajmehldikaaGreat.E
open Go
set_option linter.constructorNameAsVariable false
set_option linter.unusedVariables false
set_option maxRecDepth 100000
set_option linter.unusedSimpArgs false
set_option linter.unusedSectionVars false
noncomputable section
theorem zTG {x y:Int}(a : -9223372036854775808<=x+y)(b:x+y<=9223372036854775807):zK .i64 x y=x+y:=by unfold zK;simp only[IntKind.wrap,IntKind.signed,IntKind.bits];simp;omega
theorem zOd {n:Nat}{P:Int->Prop}(h:∀i:Fin n,P ((i.val:Nat):Int)){x:Int}(a:0<=x)(b:x<n):P x:=by have:=h ⟨x.toNat,by omega⟩;simpa [show ((x.toNat:Nat):Int)=x by omega] using this
theorem zZC {p:Int}:zc7 p=true↔0<=p/\p<=255:=by unfold zc7;exact zcN
theorem zUT {p:Int}(h:zc7 p=true):zc7 (zfx p)=true:=by have a:=zZC.1 h;exact zOd (n:=256) (P:=fun x=>zc7 (zfx x)=true) (by decide +kernel) a.1 (by omega)
theorem zUS {p:Int}(h:zc7 p=true)(n:Int):zc7 (znW p n)=true:=by unfold znW zeY;rw[h,cond_true];cases e:win n 0 7 with|false=>exact h|true=>rw[cond_true];have b:=zZC.1 h;have a:=zcN.1 e;exact zOd (n:=256) (P:=fun x=>∀k,0<=k->k<(8:Int)->zc7 (wor .i64 x (zkW .i64 1 k))=true) (fun i k c d=>zOd (n:=8) (P:=fun k=>zc7 (wor .i64 ((i.val:Nat):Int) (zkW .i64 1 k))=true) (by revert i;decide +kernel) c d) b.1 (by omega) n a.1 (by omega)
structure GKeep (x y:Guest):Prop where
 ok:GOk y
 live:y.Live=x.Live
theorem z4P {x:Guest}(X:GOk x){c:Int}(b:win c 0 12=true):GOk {x with Pc:=c}:=⟨X.prog,X.a,b,X.w,X.l,X.ctl,X.pend,X.ex,X.seen⟩
theorem z4O {x:Guest}(X:GOk x){c:Int}(a:win c 0 99=true):GOk {x with A:=c}:=⟨X.prog,a,X.pc,X.w,X.l,X.ctl,X.pend,X.ex,X.seen⟩
theorem zjy {x:Guest}(X:GOk x):GKeep x (zch x):=by unfold zch;have a:=zcN.1 X.pc;cases h:ige x.Pc 12 with|true=>exact⟨z4P X (by decide),rfl⟩|false=>have:¬ x.Pc≥12:=jT h;refine⟨z4P X ?_,rfl⟩;rw[zTG (by omega) (by omega)];exact zcN.2 (by omega)
theorem zXZ {x:Guest}(X:GOk x)(n:Int):GKeep x (saw x n):=by unfold saw;cases h:ilt (ln x.Seen) 40 with|false=>exact⟨X,rfl⟩|true=>have:ln x.Seen<40:=qE h;refine⟨⟨X.prog,X.a,X.pc,X.w,X.l,X.ctl,X.pend,X.ex,qJ ?_⟩,rfl⟩;unfold ln ap at *;simp;omega
theorem zjz {x:Guest}(X:GOk x){e:GExit}(b:zhk e=true):GKeep x (stopped x e):=⟨⟨X.prog,X.a,X.pc,X.w,X.l,X.ctl,X.pend,b,X.seen⟩,rfl⟩
theorem z2Y {x:Guest}(X:GOk x){p:Int}(b:zc7 p=true):GKeep x {x with Pending:=p}:=⟨⟨X.prog,X.a,X.pc,X.w,X.l,X.ctl,b,X.ex,X.seen⟩,rfl⟩
theorem z2V {x:Guest}(X:GOk x)(b:Bool):GKeep x {x with Halted:=b}:=⟨⟨X.prog,X.a,X.pc,X.w,X.l,X.ctl,X.pend,X.ex,X.seen⟩,rfl⟩
theorem z2W {x:Guest}(X:GOk x):GKeep x (held x):=⟨(zjy (z2V X true).ok).ok,(zjy (z2V X true).ok).live⟩
theorem z7H {x:Guest}(X:GOk x){v:Int}(c:win v 0 99=true):GKeep x (loaded x v):=by have a:=zXZ (z4O X c) v;have b:=zjy a.ok;exact⟨b.ok,b.live.trans a.live⟩
theorem zQ7 {x:Guest}(X:GOk x):GKeep x (interrupted x):=by unfold interrupted;cases ziE x with|false=>exact⟨X,rfl⟩|true=>have a:=z2Y X (zUT X.pend);rw[cond_true];exact⟨(zXZ a.ok _).ok,(zXZ a.ok _).live⟩
theorem zMF {p:List Ins}(h:zda p=true)(i:Int):zdU (zcA p i)=true:=by unfold zcA;cases a:hasB i (ln p) with|false=>rfl|true=>unfold zda at h;rw[zcf,qM]at h;exact h.1 _ (zmm a _)
theorem zbfi {i:Ins}(h:zdU i=true)(a:i.Op=3\/i.Op=4):0<=i.X/\i.X<=15:=by unfold zdU at h;rcases a with e|e<;>rw [e]at h<;>exact zcN.1 h
theorem z7O {i:Ins}(h:zdU i=true)(a:i.Op=5\/i.Op=6):0<=i.X/\i.X<=99:=by unfold zdU at h;rcases a with e|e<;>rw [e]at h<;>exact zcN.1 h
theorem zbfT {i:Ins}(h:zdU i=true)(a:i.Op=8):0<=i.X/\i.X<=11:=by unfold zdU at h;rw[a]at h;exact zcN.1 h
theorem zbfS {i:Ins}(h:zdU i=true)(a:i.Op=1):0<=i.X/\i.X<=99:=by unfold zdU at h;rw[a]at h;exact zcN.1 h
theorem z4Q {x:Guest}(X:GOk x):GKeep x (plainly x):=by have M:=zjy X;have b:=zMF X.prog x.Pc;unfold plainly;cases ine (zbe x) 2 with|true=>exact⟨X,rfl⟩|false=>rw[cond_false];(cases win x.A 0 99 with|false=>exact M|true=>rw[cond_true];(cases win (zcA x.Prog x.Pc).X 0 99 with|false=>exact M|true=>rw[cond_true];by_cases c:(zcA x.Prog x.Pc).Op=1;{rw [zbv.2 c,cond_true];exact⟨z4O M.ok (zcN.2 (zbfS b c)),M.live⟩};{rw [zb1.2 c,cond_false];by_cases d:(zcA x.Prog x.Pc).Op=2;{rw [zbv.2 d,cond_true];refine⟨z4O M.ok ?_,M.live⟩;have f:=zcN.1 X.a;have i:0<=(zcA x.Prog x.Pc).X/\(zcA x.Prog x.Pc).X<=99:=(by unfold zdU at b;rw[d]at b;exact zcN.1 b);rw[zcN];unfold zqJ;rw[zTG (by omega) (by omega)];have g:=Int.tmod_nonneg (a:=x.A+(zcA x.Prog x.Pc).X) 100 (by omega);have h:=Int.tmod_lt_of_pos (x.A+(zcA x.Prog x.Pc).X) (show (0:Int)<100 by omega);omega};{rw [zb1.2 d,cond_false];by_cases e:(zcA x.Prog x.Pc).Op=8;{rw [zbv.2 e,cond_true];cases ieq x.A 0 with|true=>have:=zbfT b e;exact⟨z4P M.ok (zcN.2 (by omega)),M.live⟩|false=>exact M};{rw [zb1.2 e];exact M}}}))
theorem zuF {c:List Int}:zcr c=true↔(∀x∈c,win x 0 99=true)/\ln c=4:=by unfold zcr;rw[zcf,qM,zbv]
theorem znq (h:Host)(m:Int):∀(n i:Nat),(zcB h m n i).length=n
 | 0,_=>rfl
 |n+1,i=>by rw[zcB,q0,znq h m n]
theorem zPV (h:Host)(m:Int):∀(n i k:Nat) (a:k<(zcB h m n i).length),(zcB h m n i)[k]=zcq h m ((i+k:Nat):Int)
 | 0,i,k,a=>by simp[zcB]at a
 |n+1,i,k,a=>by cases k with|zero=>rfl|succ k=>have:=zPV h m n (i+1) k (by simpa [zcB] using a);simp only[zcB,List.getElem_cons_succ];rw[this];congr 1;omega
theorem zq8 {h:Host}{m q:Int}(b:hasB q 8=true)(d:List Int):ix (zcB h m 8 0) q d=zcq h m q:=by have c:=zI.1 b;have a:q.toNat<(zcB h m 8 0).length:=(by rw[znq];omega);have:=zng a d;rw[show ((q.toNat:Nat):Int)=q by omega] at this;rw[this,zPV];congr 1;omega
theorem zv4 (h:Host)(m:Int):ln (zcB h m 8 0)=8:=by unfold ln;rw[znq];rfl
theorem zCl {h:Host}(H:HOk h){m p:Int}(b:hasB m (ln h.Mons)=true)(a:hasB p 8=true):zcr (zcq h m p)=true:=by have X:=H.mon b;rw[<- zlG H b a];by_cases e:(ix (ix h.Mons m mZ).Outer p sZ).Page = -1;{rw [zbv.2 e];exact((zqV (X.slot a)).1 (X.fit p a)).1 e};{rw [zb1.2 e];exact zUQ H.pgs _}
theorem zBa {h:Host}(H:HOk h){m:Int}(b:hasB m (ln h.Mons)=true):zbK (zD h m)=true:=by have X:=H.mon b;unfold zD;rw[b,cond_true];unfold zbK zhD;rw[zcf,qM];refine⟨X.gs,?_⟩;simp only[qD,zcf,qM,zbv,zcN];refine⟨⟨fun c d=>?_,zv4 h m⟩,⟨?_,?_⟩,?_,X.pend⟩;{obtain⟨i,a,rfl⟩:=zF5 d [];rw[zv4]at a;rw[zq8 a];exact zCl H b a};{unfold ln;have:=X.g1;omega};{unfold ln;have:=X.g2;omega};{unfold ile ln;have:=X.outs;exact qJ (by omega)}
structure SimT (h r:Host) (m:Int) (f:Bare->Bare):Prop where
 safe:Safe r
 seen:∀i,zD r i=bif ieq i m then f (zD h i) else zD h i
 len:r.Mons.length=h.Mons.length
theorem SimT.trans {a b c:Host}{m:Int}{f g:Bare->Bare}(x:SimT a b m f)(y:SimT b c m g):SimT a c m (fun t=>g (f t)):=by refine⟨y.safe,fun i=>?_,y.len.trans x.len⟩;rw[y.seen i,x.seen i];cases ieq i m<;>rfl
theorem Op.sim {h r:Host}(k:Op h r)(S:Safe h)(m:Int):SimT h r m id:=⟨k.safe S,fun i=>by rw[k.like.seen i];cases ieq i m<;>rfl,k.like.len⟩
theorem SimT.congr {h r:Host}{m:Int}{f g:Bare->Bare}(x:SimT h r m f)(e:f (zD h m)=g (zD h m)):SimT h r m g:=by refine⟨x.safe,fun i=>?_,x.len⟩;rw[x.seen i];by_cases a:i=m;{subst a;rw[zbv.2 rfl,cond_true,cond_true,e]};{rw [zb1.2 a];rfl}
theorem SimT.has {h r:Host}{m:Int}{f:Bare->Bare}(x:SimT h r m f)(i:Int):hasB i (ln r.Mons)=hasB i (ln h.Mons):=by unfold ln;rw[x.len]
theorem SimT.refl {h:Host}(S:Safe h)(m:Int):SimT h h m id:=⟨S,fun i=>by cases ieq i m<;>rfl,rfl⟩
theorem zyG {h:Host}(S:Safe h){m q a:Int}(l:hasB m (ln h.Mons)=true)(f:hasB q 8=true)(J:(ix (ix h.Mons m mZ).Outer q sZ).Page=a)(y:a≠-1)(c v:Int) :
 SimT h {h with Memory:=zbH h.Memory a c v} m (fun b=>{b with Memory:=zbH b.Memory q c v})/\cellAt h.Memory a c=cellAt (zD h m).Memory q c:=by
 have H:=S.ok;have X:=H.mon l;have N:=X.slot f;have E:=hasM H N (by rw[J];exact y)
 rw[J]at E;have z:ix h.Memory a []=zcq h m q:=by have:=zlG H l f;rw[J,zb1.2 y,cond_false,zlF E] at this;exact this
 have n:ln (zcq h m q)=4:=(zuF.1 (zCl H l f)).2;have d:(zD h m).Memory=zcB h m 8 0:=by unfold zD;rw[l];rfl
 have C:zfI h.Memory a c=hasB c 4:=by unfold zfI;rw[E,cond_true,z,n]
 have D:zfI (zcB h m 8 0) q c=hasB c 4:=by unfold zfI;rw[zv4,f,cond_true,zq8 f,n]
 have u:cellAt h.Memory a c=cellAt (zD h m).Memory q c:=by rw[d];unfold cellAt;rw[C,D,z,zq8 f]
 refine⟨?_,u⟩;cases A:hasB c 4 with
 |false=>have s:zbH h.Memory a c v=h.Memory:=(by unfold zbH;rw[C,A];rfl);rw[s];refine(SimT.refl S m).congr ?_;show zD h m={zD h m with Memory:=zbH (zD h m).Memory q c v};rw[d];have B:zbH (zcB h m 8 0) q c v=zcB h m 8 0:=(by unfold zbH;rw[D,A];rfl);rw[B,<- d]
 |true=>
  cases K:win v 0 99 with
  |false=>have s:zbH h.Memory a c v=h.Memory:=(by unfold zbH;rw[C,A,K];rfl);rw[s];refine(SimT.refl S m).congr ?_;show zD h m={zD h m with Memory:=zbH (zD h m).Memory q c v};rw[d];have B:zbH (zcB h m 8 0) q c v=zcB h m 8 0:=(by unfold zbH;rw[D,A,K];rfl);rw[B,<- d]
  |true=>have s:zbH h.Memory a c v=up h.Memory a (up (zcq h m q) c v):=(by unfold zbH;rw[C,A,K,z];rfl);have B:zbH (zcB h m 8 0) q c v=up (zcB h m 8 0) q (up (zcq h m q) c v):=(by unfold zbH;rw[D,A,K,zq8 f];rfl);have G:zcr (up (zcq h m q) c v)=true:=(by have:=zuF.1 (zCl H l f);rw[zuF,zdP];refine⟨fun x O=>?_,this.2⟩;rcases qY O with h|h;{exact this.1 x h};{rw [h];exact K});have P:=(zI.1 E).1;have L:HOk {h with Memory:=zbH h.Memory a c v}:=(by rw[s];refine⟨by show (up _ _ _).length=12;rw[zbR];exact H.m12,fun x O=>?_,H.n1,H.n3,H.b1,H.b2,H.mons,H.uq⟩;rcases qY O with h|h;{exact H.pgs x h};{rw [h];exact G});refine⟨⟨L,⟨S.rt.t,S.rt.e1,S.rt.e2⟩⟩,fun i=>?_,rfl⟩;have r:∀i k,hasB i (ln h.Mons)=true->hasB k 8=true->¬ (i=m/\k=q)->zcq {h with Memory:=zbH h.Memory a c v} i k=zcq h i k:=(by intro i k w g I;rw[<- zlG L (m:=i) (p:=k) w g,<- zlG H w g];show (cond (ieq (ix (ix h.Mons i mZ).Outer k sZ).Page (-1)) _ (zcx (zbH h.Memory a c v) _))=_;by_cases e:(ix (ix h.Mons i mZ).Outer k sZ).Page = -1;{rw [zbv.2 e];rfl};{rw [zb1.2 e,cond_false,cond_false,s];exact zF9 P (fun e=>I (H.uniq w g l f e J P))});have F:zcq {h with Memory:=zbH h.Memory a c v} m q=up (zcq h m q) c v:=(by rw[<- zlG L (m:=m) (p:=q) l f];show (cond (ieq (ix (ix h.Mons m mZ).Outer q sZ).Page (-1)) _ (zcx (zbH h.Memory a c v) (ix (ix h.Mons m mZ).Outer q sZ).Page))=_;rw[J,zb1.2 y,cond_false,s];exact zF8 E);by_cases w:i=m;{subst w;rw[zbv.2 rfl,cond_true];unfold zD;show (cond (hasB i (ln h.Mons)) _ _)=_;rw[l,cond_true,cond_true];show Bare.mk (zcB {h with Memory:=zbH h.Memory a c v} i 8 0) _ _ _=Bare.mk (zbH (zcB h i 8 0) q c v) _ _ _;congr 1;rw[B];refine zST [] (by rw[zbR,znq,znq]) fun k g=>?_;rw[zv4]at g;rw[zq8 g];by_cases e:q=k;{subst e;rw[zbi (by rw[zv4];exact f),F]};{rw [zbw (zI.1 f).1 (zI.1 g).1 e,zq8 g];exact r i k l g (fun h=>e h.2.symm)}};{rw [zb1.2 w,cond_false];unfold zD;show (cond (hasB i (ln h.Mons)) _ _)=_;cases M:hasB i (ln h.Mons) with|false=>rfl|true=>rw[cond_true,cond_true];show Bare.mk (zcB {h with Memory:=zbH h.Memory a c v} i 8 0) _ _ _=_;rw[zr5 8 0 (fun j C D=>r i (j:Int) M (zI.2 (by omega)) (fun h=>w h.1))]}
theorem zrD {h:Host}(S:Safe h){m g:Int}(a:hasB m (ln h.Mons)=true)(hg:hasB g (ln (ix h.Mons m mZ).Guests)=true){y:Guest}(k:GKeep (gOf h m g) y):SimT h (zlI h m g y) m (fun b=>zeu b g y):=by have X:=S.ok.mon a;have kp:KeepP (ix h.Mons m mZ) {ix h.Mons m mZ with Guests:=up (ix h.Mons m mZ).Guests g y}:=⟨rfl,rfl⟩;refine⟨zyF S a kp (zlB X kp (zbR _ _ _) rfl rfl X.outs X.pend X.tr X.own fun z d=>?_) (zbR _ _ _) (fun j c=>?_) rfl,fun i=>?_,zbR _ _ _⟩;{rcases qY d with h|h;{exact X.gs z h};{rw [h];exact zu3.2 k.ok}};{show (ix (up (ix h.Mons m mZ).Guests g y) j gZ).Live=_;by_cases e:g=j;{subst e;rw[zbi hg];exact k.live};{rw [zbw (zI.1 hg).1 (zI.1 c).1 e]}};{refine(zwH (h:=h) (r:=zlI h m g y) a rfl rfl kp i).trans ?_;by_cases e:i=m;{subst e;rw[zbv.2 rfl,cond_true,cond_true];unfold zeu zD;rw[a];rfl};{rw [zb1.2 e];rfl}}
theorem zZ5 {h:Host}(S:Safe h){m:Int}(a:hasB m (ln h.Mons)=true){y:Mon}(kp:KeepP (ix h.Mons m mZ) y)(d:MOk y)(hg:y.Guests=(ix h.Mons m mZ).Guests)(c:y.Tables=(ix h.Mons m mZ).Tables) :
 SimT h {h with Mons:=up h.Mons m y} m (fun b=>{b with Outs:=y.Outs,Pending:=y.Pending}):=by
 refine⟨zyF S a kp d (by rw[hg]) (fun j _=>by rw[hg]) c,fun i=>?_,zbR _ _ _⟩
 refine(zwH (h:=h) (r:={h with Mons:=up h.Mons m y}) a rfl rfl kp i).trans ?_
 by_cases e:i=m
 .subst e;rw[zbv.2 rfl,cond_true,cond_true];unfold zD;rw[a,hg];rfl
 .rw [zb1.2 e];rfl
theorem zfb {h:Host}{m:Int}(a:hasB m (ln h.Mons)=true):zD h m=⟨zcB h m 8 0,(ix h.Mons m mZ).Guests,(ix h.Mons m mZ).Outs,(ix h.Mons m mZ).Pending⟩:=by unfold zD;rw[a];rfl
theorem z8V {h:Host}(S:Safe h){m:Int}(a:hasB m (ln h.Mons)=true):SimT h (owned h m) m id:=by unfold owned;cases b:ilt (ix h.Mons m mZ).Own 1000000000 with|false=>exact SimT.refl S m|true=>rw[cond_true];have X:=S.ok.mon a;have d:=zcN.1 X.own;have c:(ix h.Mons m mZ).Own<1000000000:=qE b;have kp:KeepP (ix h.Mons m mZ) {ix h.Mons m mZ with Own:=zK .i64 (ix h.Mons m mZ).Own 1}:=⟨rfl,rfl⟩;refine(zZ5 S a kp (zlB X kp rfl rfl rfl X.outs X.pend X.tr ?_ X.gs) rfl rfl).congr ?_;{show win (zK .i64 (ix h.Mons m mZ).Own 1) 0 1000000000=true;rw[zTG (by omega) (by omega),zcN];omega};{rw [zfb a];rfl}
theorem z6i {h:Host}(S:Safe h){m:Int}(a:hasB m (ln h.Mons)=true)(n:Int):SimT h (zpG h m n) m (fun b=>zpJ b n):=by unfold zpG;have X:=S.ok.mon a;cases c:ilt (ln (ix h.Mons m mZ).Outs) 40 with|false=>refine(SimT.refl S m).congr ?_;rw[zfb a];unfold zpJ;rw[c];rfl|true=>rw[cond_true];have d:ln (ix h.Mons m mZ).Outs<40:=qE c;have kp:KeepP (ix h.Mons m mZ) {ix h.Mons m mZ with Outs:=ap (ix h.Mons m mZ).Outs [n]}:=⟨rfl,rfl⟩;refine(zZ5 S a kp (zlB X kp rfl rfl rfl ?_ X.pend X.tr X.own X.gs) rfl rfl).congr ?_;{show (ap (ix h.Mons m mZ).Outs [n]).length<=40;unfold ln ap at *;simp;omega};{rw [zfb a];unfold zpJ;rw[c];rfl}
theorem zvA {h:Host}{m g:Int}(a:hasB m (ln h.Mons)=true)(hg:hasB g (ln (ix h.Mons m mZ).Guests)=true):gAt (zD h m) g=gOf h m g:=by rw[zfb a];unfold gAt;show (cond (hasB g (ln (ix h.Mons m mZ).Guests)) _ _)=_;rw[hg];rfl
theorem zTH {x:Guest}(h:zbe x=3\/zbe x=4\/zbe x=5\/zbe x=6):(zcA x.Prog x.Pc).Op=zbe x:=by unfold zbe at h ⊢;cases e:canRun x with|false=>simp[e]at h|true=>simp only[e,cond_true]at h ⊢;(cases f:ziE x with|true=>simp[f]at h|false=>simp only[f,cond_false]at h ⊢;unfold zAh at h ⊢;by_cases a:(zcA x.Prog x.Pc).Op=3;{rw [a];rfl};{rw [zb1.2 a,cond_false]at h ⊢;by_cases b:(zcA x.Prog x.Pc).Op=4;{rw [b];rfl};{rw [zb1.2 b,cond_false]at h ⊢;by_cases c:(zcA x.Prog x.Pc).Op=5;{rw [c];rfl};{rw [zb1.2 c,cond_false]at h ⊢;by_cases d:(zcA x.Prog x.Pc).Op=6;{rw [d];rfl};{rw [zb1.2 d,cond_false]at h ⊢;cases g:ieq (zcA x.Prog x.Pc).Op 7<;>simp [g]at h}}}})
theorem zbdn {x:Guest}(X:GOk x){w:Int}(a:zbe x=w)(h:w=3\/w=4):0<=address x/\address x<=15:=by have e:address x=(zcA x.Prog x.Pc).X:=(by unfold address;rcases h with e|e;{rw [a,e];rfl};{rw [a,e];rfl});rw[e];exact zbfi (zMF X.prog _) (by rw[zTH (by omega),a];exact h)
theorem zbdo {a:Int}(b:0<=a)(c:a<=15):win (zbf a) 0 3=true/\hasB (zcZ a) 4=true :=
 zOd (n:=16) (P:=fun a=>win (zbf a) 0 3=true/\hasB (zcZ a) 4=true) (by decide) b (by omega)
theorem z4F {p:Int}(h:win p 0 3=true)(w:Bool):zhk (zsQ p w)=true:=by unfold zhk zsQ;simp[ieq,h]
theorem z7x {n:Int}(h:win n 0 99=true):zhk (zBA n)=true:=by unfold zhk zBA;simp[ieq,h]
theorem zbal {n:Int}(h:win n 0 99=true):zhk (zAi n)=true:=by unfold zhk zAi;simp[ieq,h]
theorem zbar {x:Guest}(X:GOk x)(t:Int){w:Int}(d:zbe x=w):GKeep x (zj8 x t w):=by have c:=zMF X.prog x.Pc;unfold zj8;by_cases b:w=6;{rw [zbv.2 b];exact zjz X (z7x (zcN.2 (z7O c (by rw[zTH (by omega),d];omega))))};{rw [zb1.2 b,cond_false];by_cases a:w=5;{rw [zbv.2 a];cases zg6 t 1 with|true=>exact zjz X (zbal (zcN.2 (z7O c (by rw[zTH (by omega),d];omega))))|false=>rw[a];exact zjy X};{rw [zb1.2 a];rw[Bool.false_and,cond_false];cases e:(ieq w 7&&zg6 t 2) with|true=>exact zjz X rfl|false=>rw[cond_false];cases ieq w 7;{exact zjy X};{exact z2W X}}}
theorem z3h {a:Type}(g:Int):hasB g (ln ([]:List a))=false:=by cases h:hasB g (ln ([]:List a)) with|false=>rfl|true=>have:=zI.1 h;simp[ln] at this;omega
theorem z9C {m:List (List Int)}(h:∀c∈m,zcr c=true)(p c:Int):win (cellAt m p c) 0 99=true:=by unfold cellAt zfI;cases b:hasB p (ln m) with|false=>rfl|true=>rw[cond_true];(cases a:hasB c (ln (ix m p [])) with|false=>rfl|true=>rw[cond_true];exact(zuF.1 (h _ (zmm b []))).1 _ (zmm a 0))
theorem HOk.seenG {h:Host}(H:HOk h){m g:Int}(a:hasB m (ln h.Mons)=true)(hg:hasB g (ln (ix h.Mons m mZ).Guests)=true):GOk (gOf h m g):=H.guest a hg
theorem z0e {h:Host}(S:Safe h){m g:Int}(i:hasB m (ln h.Mons)=true)(hg:hasB g (ln (ix h.Mons m mZ).Guests)=true)(w:Bool)(B:zbe (gOf h m g)=bif w then 4 else 3) :
 SimT h (zj7 (znV h m g (gOf h m g) w) m g (gOf h m g) w) m (fun b=>zo1 b g (gOf h m g) w):=by
 have X:=S.ok.seenG i hg;have t:=zbdn X B (by cases w<;>simp)
 have n:=zbdo t.1 t.2;have z:zci w=1\/zci w=2:=by cases w<;>simp [zci]
 unfold zj7 znV;cases k:zbO h m g (zbf (address (gOf h m g))) (zci w) with
 |false=>have e:lookOf h h.Buffer m g (zbf (address (gOf h m g))) (zci w) false=(h,-1,false):=(by unfold lookOf;rw[k];rfl);have q:zd8 (gOf h m g).Live (zbf (address (gOf h m g))) (zci w)=false:=(by cases y:zd8 (gOf h m g).Live (zbf (address (gOf h m g))) (zci w) with|false=>rfl|true=>exact Bool.noConfusion (k.symm.trans (zr3.2 ⟨zkb.2 ⟨S.ok,i,hg⟩,z,y⟩)));rw[e];refine(zrD S i hg (zjz X (z4F n.1 w))).congr ?_;unfold zo1;rw[q];rfl
 |true=>obtain⟨L,x⟩:=zUF S false k S.rt.e1;obtain⟨_,_,j⟩:=zr3.1 k;have c:zd8 (gOf h m g).Live (zbf (address (gOf h m g))) (zci w)=true:=j;have W:=walked X j;rw[x,cond_true];have l:=L.op.safe S;have f:hasB m (ln (lookOf h h.Buffer m g (zbf (address (gOf h m g))) (zci w) false).1.Mons)=true:=(by rw[L.op.like.has];exact i);have a:=L.op.like.g m i;have C:hasB (zcb (zcp h m g) (zbf (address (gOf h m g))) (zci w)) 8=true:=W.q8;obtain⟨u,v⟩:=zyG l f C L.inn L.ne (zcZ (address (gOf h m g))) (gOf h m g).A;rw[L.op.like.seen m] at v;cases w with|true=>rw[cond_true];have r:=L.op.sim S m;have p:hasB m (ln ({ (lookOf h h.Buffer m g (zbf (address (gOf h m g))) (zci true) false).1 with Memory:=zbH (lookOf h h.Buffer m g (zbf (address (gOf h m g))) (zci true) false).1.Memory (lookOf h h.Buffer m g (zbf (address (gOf h m g))) (zci true) false).2.1 (zcZ (address (gOf h m g))) (gOf h m g).A}:Host).Mons)=true:=f;have d:hasB g (ln (ix ({ (lookOf h h.Buffer m g (zbf (address (gOf h m g))) (zci true) false).1 with Memory:=zbH (lookOf h h.Buffer m g (zbf (address (gOf h m g))) (zci true) false).1.Memory (lookOf h h.Buffer m g (zbf (address (gOf h m g))) (zci true) false).2.1 (zcZ (address (gOf h m g))) (gOf h m g).A}:Host).Mons m mZ).Guests)=true:=(by show hasB g (ln (ix (lookOf h h.Buffer m g (zbf (address (gOf h m g))) (zci true) false).1.Mons m mZ).Guests)=true;rw[a];exact hg);have s:GKeep (gOf { (lookOf h h.Buffer m g (zbf (address (gOf h m g))) (zci true) false).1 with Memory:=zbH (lookOf h h.Buffer m g (zbf (address (gOf h m g))) (zci true) false).1.Memory (lookOf h h.Buffer m g (zbf (address (gOf h m g))) (zci true) false).2.1 (zcZ (address (gOf h m g))) (gOf h m g).A} m g) (zch (gOf h m g)):=(by have:gOf { (lookOf h h.Buffer m g (zbf (address (gOf h m g))) (zci true) false).1 with Memory:=zbH (lookOf h h.Buffer m g (zbf (address (gOf h m g))) (zci true) false).1.Memory (lookOf h h.Buffer m g (zbf (address (gOf h m g))) (zci true) false).2.1 (zcZ (address (gOf h m g))) (gOf h m g).A} m g=gOf h m g:=(by show ix (ix (lookOf h h.Buffer m g (zbf (address (gOf h m g))) (zci true) false).1.Mons m mZ).Guests g gZ=_;rw[a];rfl);rw[this];exact zjy X);refine((r.trans u).trans (zrD u.safe p d s)).congr ?_;unfold zo1;rw[c];rfl|false=>rw[cond_false];have r:=L.op.sim S m;have d:hasB g (ln (ix (lookOf h h.Buffer m g (zbf (address (gOf h m g))) (zci false) false).1.Mons m mZ).Guests)=true:=(by rw[a];exact hg);have s:GKeep (gOf (lookOf h h.Buffer m g (zbf (address (gOf h m g))) (zci false) false).1 m g) (loaded (gOf h m g) (cellAt (lookOf h h.Buffer m g (zbf (address (gOf h m g))) (zci false) false).1.Memory (lookOf h h.Buffer m g (zbf (address (gOf h m g))) (zci false) false).2.1 (zcZ (address (gOf h m g))))):=(by have:gOf (lookOf h h.Buffer m g (zbf (address (gOf h m g))) (zci false) false).1 m g=gOf h m g:=(by show ix (ix (lookOf h h.Buffer m g (zbf (address (gOf h m g))) (zci false) false).1.Mons m mZ).Guests g gZ=_;rw[a];rfl);rw[this];exact z7H X (z9C l.ok.pgs _ _));refine(r.trans (zrD l f d s)).congr ?_;unfold zo1;rw[c,v];rfl
theorem zbaq {h r:Host}{m g:Int}(e:(ix r.Mons m mZ).Guests=(ix h.Mons m mZ).Guests):gOf r m g=gOf h m g:=by unfold gOf;rw[e]
theorem zbel (h:Host)(m:Int)(a:hasB m (ln h.Mons)=true):(ix (owned h m).Mons m mZ).Guests=(ix h.Mons m mZ).Guests:=by unfold owned;cases ilt (ix h.Mons m mZ).Own 1000000000 with|false=>rfl|true=>show (ix (up h.Mons m _) m mZ).Guests=_;rw[zbi a]
theorem zbaN (h:Host)(m n:Int)(a:hasB m (ln h.Mons)=true):(ix (zpG h m n).Mons m mZ).Guests=(ix h.Mons m mZ).Guests:=by unfold zpG;cases ilt (ln (ix h.Mons m mZ).Outs) 40 with|false=>rfl|true=>show (ix (up h.Mons m _) m mZ).Guests=_;rw[zbi a]
theorem z8X {h:Host}(S:Safe h){m:Int}(a:hasB m (ln h.Mons)=true)(x:Guest)(w:Int):SimT h (zgy h m x w) m id/\(ix (zgy h m x w).Mons m mZ).Guests=(ix h.Mons m mZ).Guests:=by unfold zgy;cases (cond (ine w 6) (ieq (zCk (ix h.Mons m mZ).Traps x.Ctl.Traps (zBg w)) 2) false) with|false=>exact⟨SimT.refl S m,rfl⟩|true=>exact⟨z8V S a,zbel h m a⟩
theorem z8W {h:Host}(S:Safe h){m:Int}(a:hasB m (ln h.Mons)=true)(x:Guest)(w:Int):SimT h (zgx h m x w) m (fun b=>bif (cond (zle x.Ctl.Traps w) (ieq w 5) false) then zpJ b (zcA x.Prog x.Pc).X else b)/\(ix (zgx h m x w).Mons m mZ).Guests=(ix h.Mons m mZ).Guests:=by unfold zgx;cases (cond (zle x.Ctl.Traps w) (ieq w 5) false) with|false=>exact⟨SimT.refl S m,rfl⟩|true=>exact⟨z6i S a _,zbaN h m _ a⟩
theorem zHj {h:Host}(S:Safe h){m g:Int}(d:hasB m (ln h.Mons)=true)(hg:hasB g (ln (ix h.Mons m mZ).Guests)=true){w:Int}(l:zbe (gOf h m g)=w) :
 SimT h (zyK h m g (gOf h m g) w) m (fun b=>zH6 b g (gOf h m g) w):=by
 have X:=S.ok.seenG d hg;obtain⟨f,j⟩:=z8X S d (gOf h m g) w;have a:hasB m (ln (zgy h m (gOf h m g) w).Mons)=true:=by rw[f.has];exact d
 obtain⟨i,k⟩:=z8W f.safe a (gOf h m g) w;have e:hasB m (ln (zgx (zgy h m (gOf h m g) w) m (gOf h m g) w).Mons)=true:=by rw[i.has];exact a
 have c:hasB g (ln (ix (zgx (zgy h m (gOf h m g) w) m (gOf h m g) w).Mons m mZ).Guests)=true:=by rw[k,j];exact hg
 have n:GKeep (gOf (zgx (zgy h m (gOf h m g) w) m (gOf h m g) w) m g) (zj8 (gOf h m g) (gOf h m g).Ctl.Traps w):=by rw[zbaq (k.trans j)];exact zbar X _ l
 exact((f.trans i).trans (zrD i.safe e c n)).congr rfl
theorem z6u (x:Guest):zbe x=0\/zbe x=1\/zbe x=2\/zbe x=3\/zbe x=4\/zbe x=5\/zbe x=6\/zbe x=7:=by unfold zbe zAh;cases canRun x<;>cases ziE x<;>cases ieq (zcA x.Prog x.Pc).Op 3<;>cases ieq (zcA x.Prog x.Pc).Op 4<;>cases ieq (zcA x.Prog x.Pc).Op 5<;>cases ieq (zcA x.Prog x.Pc).Op 6<;>cases ieq (zcA x.Prog x.Pc).Op 7<;>simp
theorem zXv {h:Host}(H:HOk h)(m g:Int):zl8 (zD h m) g=bif zbZ h m g then !ieq (zbe (gOf h m g)) 0 else false:=by unfold zl8 zbZ;rw[zkA.2 H,cond_true];cases a:hasB m (ln h.Mons) with|false=>have:(zD h m).Guests=[]:=(by unfold zD;rw[a];rfl);rw[this,z3h];rfl|true=>rw[cond_true,zBa H a,cond_true];have:(zD h m).Guests=(ix h.Mons m mZ).Guests:=(by rw[zfb a]);rw[this];(cases hg:hasB g (ln (ix h.Mons m mZ).Guests) with|false=>rfl|true=>rw[cond_true,cond_true,zvA a hg])
theorem step_ok {h:Host}(S:Safe h)(m g:Int):SimT h (zbG h m g).1 m (fun b=>zik b g)/\(zbG h m g).2=zl8 (zD h m) g:=by
 have a:=zXv S.ok m g;unfold zbG;cases i:zbZ h m g with
 |false=>rw[i,cond_false]at a;refine⟨(SimT.refl S m).congr ?_,a.symm⟩;unfold zik;rw[a];rfl
 |true=>rw[i,cond_true]at a;rw[cond_true];obtain⟨_,c,hg⟩:=zkb.1 i;have X:=S.ok.seenG c hg;have f:=zvA c hg;have d:∀w,zbe (gOf h m g)=w->w≠0->zik (zD h m) g=stepped (zD h m) g (gOf h m g) w:=(by intro w j k;unfold zik;rw[a,j,zb1.2 k,f,j];rfl);rcases z6u (gOf h m g) with e|e|e|e|e|e|e|e;{rw [e];rw[e]at a;refine⟨(SimT.refl S m).congr ?_,a.symm⟩;unfold zik;rw[a];rfl};{rw [e]at a ⊢;exact⟨(zrD S c hg (zQ7 X)).congr (d 1 e (by decide)).symm,a.symm⟩};{rw [e]at a ⊢;exact⟨(zrD S c hg (z4Q X)).congr (d 2 e (by decide)).symm,a.symm⟩};{rw [e]at a ⊢;exact⟨(z0e S c hg false e).congr (d 3 e (by decide)).symm,a.symm⟩};{rw [e]at a ⊢;exact⟨(z0e S c hg true e).congr (d 4 e (by decide)).symm,a.symm⟩};{rw [e]at a ⊢;exact⟨(zHj S c hg e).congr (d 5 e (by decide)).symm,a.symm⟩};{rw [e]at a ⊢;exact⟨(zHj S c hg e).congr (d 6 e (by decide)).symm,a.symm⟩};{rw [e]at a ⊢;exact⟨(zHj S c hg e).congr (d 7 e (by decide)).symm,a.symm⟩}
structure BackOk (b c:Bare):Prop where
 m:c.Memory=b.Memory
 o:c.Outs=b.Outs
 n:c.Guests.length=b.Guests.length
 g:∀j,hasB j (ln b.Guests)=true->GKeep (ix b.Guests j gZ) (ix c.Guests j gZ)
 p:zc7 b.Pending=true->zc7 c.Pending=true
theorem zba7 {h:Host}(S:Safe h){m:Int}(b:hasB m (ln h.Mons)=true){c:Bare}(k:BackOk (zD h m) c):SimT h (zcK h m c) m (fun _=>c):=by have X:=S.ok.mon b;have f:=zfb b;have d:(zD h m).Guests=(ix h.Mons m mZ).Guests:=(by rw[f]);have l:c.Guests.length=(ix h.Mons m mZ).Guests.length:=(by rw[k.n,d]);have hg:∀j,hasB j (ln (ix h.Mons m mZ).Guests)=true->GKeep (ix (ix h.Mons m mZ).Guests j gZ) (ix c.Guests j gZ):=fun j a=>(by have:=k.g j (by rw[d];exact a);rwa [d] at this);have kp:KeepP (ix h.Mons m mZ) (zuu (ix h.Mons m mZ) c):=⟨rfl,rfl⟩;have s:zc7 c.Pending=true:=k.p (by rw[f];exact X.pend);refine⟨zyF S b kp (zlB X kp l rfl rfl X.outs s X.tr X.own fun z t=>?_) l (fun j a=>(hg j a).live) rfl,fun i=>?_,zbR _ _ _⟩;{obtain⟨j,a,rfl⟩:=zF5 t gZ;exact zu3.2 (hg j (by unfold ln at a ⊢;rw[<- l];exact a)).ok};{refine(zwH (h:=h) (r:=zcK h m c) b rfl rfl kp i).trans ?_;by_cases e:i=m;{subst e;rw[zbv.2 rfl,cond_true,cond_true];show Bare.mk (zD h i).Memory c.Guests (ix h.Mons i mZ).Outs c.Pending=c;have u:=k.m;have q:=k.o;rw[f]at q;cases c;simp_all};{rw [zb1.2 e];rfl}}
theorem seen_none {h:Host}{m:Int}(a:hasB m (ln h.Mons)=false):zD h m=⟨[],[],[],0⟩:=by unfold zD;rw[a];rfl
theorem zu9:zbK ⟨[],[],[],0⟩=false:=by decide
theorem zvp {b:Bare}(h:zbK b=false)(g:Int):zck b g=false:=by unfold zck;rw[h];rfl
theorem zhW {b:Bare}(h:zbK b=true):BackOk b b:=⟨rfl,rfl,rfl,fun j a=>⟨zu3.1 (by
 unfold zbK at h;rw[zcf,qM]at h;exact h.1 _ (zmm a _)),rfl⟩,id⟩
theorem z6I {b:Bare}(h:zbK b=true){g:Int}(hg:hasB g (ln b.Guests)=true){y:Guest}(k:GKeep (gAt b g) y):BackOk b (zeu b g y):=by have e:gAt b g=ix b.Guests g gZ:=(by unfold gAt;rw[hg];rfl);refine⟨rfl,rfl,zbR _ _ _,fun j c=>?_,id⟩;show GKeep _ (ix (up b.Guests g y) j gZ);by_cases a:g=j;{subst a;rw[zbi hg,<- e];exact k};{rw [zbw (zI.1 hg).1 (zI.1 c).1 a];exact(zhW h).g j c}
theorem zsK {b:Bare}(h:zbK b=true){g:Int}{c:Bool}{y:Guest}(k:hasB g (ln b.Guests)=true->c=true->GOk (gAt b g)->GKeep (gAt b g) y):BackOk b (chg b g c y):=by unfold chg zck;rw[h,cond_true];cases hg:hasB g (ln b.Guests) with|false=>exact zhW h|true=>rw[cond_true];(cases c with|false=>exact zhW h|true=>refine z6I h hg (k hg rfl ?_);have:=(zhW h).g g hg;unfold gAt;rw[hg];exact this.ok)
theorem zrb {h:Host}(S:Safe h)(m:Int){F:Bare->Bare}(d:∀b,zbK b=true->BackOk b (F b))(c:F ⟨[],[],[],0⟩=⟨[],[],[],0⟩):SimT h (zd7 h m (F (zD h m))) m F:=by unfold zd7 zcg;rw[zkA.2 S.ok,cond_true];cases a:hasB m (ln h.Mons) with|false=>refine(SimT.refl S m).congr ?_;rw[seen_none a];exact c.symm|true=>exact(zba7 S a (d _ (zBa S.ok a))).congr rfl
theorem zlK {h:Host}(S:Safe h)(m:Int){t:Bare->Bool}(a:t ⟨[],[],[],0⟩=false):zdM h m (t (zD h m))=t (zD h m):=by unfold zdM zcg;rw[zkA.2 S.ok,cond_true];cases b:hasB m (ln h.Mons) with|false=>rw[cond_false,seen_none b,a]|true=>rfl
theorem zqS (g:Int)(c:Bool)(y:Guest):chg ⟨[],[],[],0⟩ g c y=⟨[],[],[],0⟩:=by unfold chg;rw[zvp zu9];rfl
theorem zjt (g:Int)(c:Bool):zb7 ⟨[],[],[],0⟩ g c=false:=by unfold zb7;rw[zvp zu9];rfl
theorem z0g {t:List Slot}{n q:Int}(h:zcY t n q=true){p:Int}{s:Slot}(b:zdK s q=true):zcY (zej t p s) n q=true:=by
 unfold zej;cases hasB p (ln t) with
 |false=>exact h
 |true=>rw[cond_true];rw[zsH]at h ⊢;rw[zdP];refine⟨fun x c=>?_,h.2⟩;rcases qY c with a|a;{exact h.1 x a};{rw [a];exact b}
theorem zbd3 {x:Guest}(X:GOk x){p:Int}{s:Slot}(h:zt9 p s=true):GKeep x (zCL x p s):=by unfold zt9 at h;rw[zcf]at h;exact⟨⟨X.prog,X.a,X.pc,z0g X.w h.2,X.l,X.ctl,X.pend,X.ex,X.seen⟩,rfl⟩
theorem zbd0 {x:Guest}(X:GOk x){v:Int}(h:ztB x v=true):GKeep x (zy0 x v):=by unfold ztB at h;rw[zcf]at h;unfold zy0;cases ieq x.Exit.Kind 2 with|true=>rw[cond_true];have b:=zjz (z4O X h.1) (e:=zlC) rfl;have a:=zjy b.ok;exact⟨a.ok,a.live⟩|false=>rw[cond_false];have b:=zjz X (e:=zlC) rfl;have a:=zjy b.ok;exact⟨a.ok,a.live.trans b.live⟩
theorem zbd2 {x:Guest}(X:GOk x):GKeep x (zzf x):=by unfold zzf;have a:=zjz X (e:=zlC) rfl;cases ieq x.Exit.Kind 1 with|true=>exact a|false=>have b:=z2W a.ok;exact⟨b.ok,b.live.trans a.live⟩
theorem z2X {x:Guest}(X:GOk x)(n:Int):GKeep x (zmY x n):=z2Y X (zUS X.pend n)
theorem zbd1 {x:Guest}(X:GOk x){c:Ctl}(h:zhA c=true):GKeep x (zKZ x c):=⟨⟨X.prog,X.a,X.pc,X.w,X.l,h,X.pend,X.ex,X.seen⟩,rfl⟩
theorem zFg (n:Int):∀(d:List Int) (b:Bare) (l:List Guest),(∀k∈d,hasB k (ln b.Guests)=true)->BackOk b {b with Guests:=l}->BackOk b {b with Guests:=zms n d l}
 |[],b,l,_,h=>h
 |k::d,b,l,q,h=>by show BackOk b {b with Guests:=zms n d (zHY n l k)};refine zFg n d b _ (fun j a=>q j (qZ _ a)) ⟨h.m,h.o,by show (up l k _).length=_;rw[zbR];exact h.n,fun j a=>?_,h.p⟩;show GKeep _ (ix (up l k _) j gZ);have r:l.length=b.Guests.length:=h.n;have c:hasB k (ln l)=true:=(by unfold ln;rw[r];exact q k jC);by_cases e:k=j;{subst e;rw[zbi c];have f:=h.g k a;have i:=z2X f.ok n;exact⟨i.ok,i.live.trans f.live⟩};{rw [zbw (zI.1 c).1 (zI.1 a).1 e];exact h.g j a}
theorem z4c {b:Bare}(h:zbK b=true)(n:Int):BackOk b (zgN b n):=by
 unfold zgN zea zHZ;rw[h,cond_true];cases hasB n 8 with
 |false=>exact zhW h
 |true=>
  rw[cond_true];cases ieq (ln (zdV b.Guests n)) 0 with
  |true=>have:=zhW h;exact⟨rfl,rfl,rfl,this.g,fun c=>zUS c n⟩
  |false=>rw[cond_false];refine zFg n _ b b.Guests (fun k a=>?_) (zhW h);unfold zdV at a;obtain⟨j,e,rfl,_⟩:=(zMa (d:=gZ)).1 a;exact zI.2 ⟨by omega,by unfold ln;omega⟩
theorem z6H {b:Bare}(h:zbK b=true):BackOk b (zih b):=by unfold zih;rw[h,cond_true];exact⟨rfl,rfl,rfl,(zhW h).g,fun a=>zUT a⟩
theorem zbaV {h:Host}(S:Safe h)(m p c v:Int):SimT h (zol h m p c v) m (fun b=>zWZ b p c v)/\zfg h m p c v=zAj (zD h m) p c v:=by have e:zfg h m p c v=zAj (zD h m) p c v:=(by unfold zfg zAj zcE zbda;rw[zkA.2 S.ok,cond_true];cases d:hasB m (ln h.Mons) with|false=>rw[seen_none d,zu9];rfl|true=>rw[zBa S.ok d,cond_true];rfl);refine⟨?_,e⟩;unfold zol;cases f:zfg h m p c v with|false=>refine(SimT.refl S m).congr ?_;unfold zWZ;rw[<- e,f];rfl|true=>rw[cond_true];have a:=f;unfold zfg at a;rw[zcf,zcf]at a;obtain⟨k,_,_⟩:=a;obtain⟨_,d,j⟩:=zpI.1 k;have M:=zUM S.ok (m:=m) (p:=p) 2 d j;have i:=M.op.sim S m;have g:hasB m (ln (mended h m p 2).Mons)=true:=(by rw[i.has];exact d);obtain⟨l,_⟩:=zyG i.safe g j rfl M.inn c v;refine(i.trans l).congr ?_;unfold zWZ;rw[<- e,f];rfl
theorem z8c {h:Host}(S:Safe h)(m g b a:Int):zbO h m g b a=(cond (zck (zD h m) g) (cond (zfJ a) (zd8 (gAt (zD h m) g).Live b a) false) false):=by have e:zbZ h m g=zck (zD h m) g:=(by unfold zbZ zck;rw[zkA.2 S.ok,cond_true];cases c:hasB m (ln h.Mons) with|false=>rw[seen_none c,zu9,cond_false,cond_false]|true=>rw[cond_true,zBa S.ok c,cond_true];have:(zD h m).Guests=(ix h.Mons m mZ).Guests:=(by rw[zfb c]);rw[this]);unfold zbO;rw[<- e];cases hg:zbZ h m g with|false=>rw[cond_false,cond_false]|true=>obtain⟨_,c,hg⟩:=zkb.1 hg;have:(gAt (zD h m) g).Live=zcp h m g:=(by rw[zvA c hg];rfl);rw[this]
theorem zLh {h:Host}(S:Safe h)(m g a n:Int)(b:n=1\/n=2):zpe (zD h m) g a n=bif win a 0 15 then zbO h m g (zbf a) n else false:=by rw[z8c S];unfold zpe;rw[zJ1.2 b,cond_true];cases zck (zD h m) g<;>cases win a 0 15<;>rfl
theorem zXQ {h:Host}(S:Safe h){m g a n:Int}(f:n=1\/n=2)(b:zpe (zD h m) g a n=true) :
 Looked h (zFS h m g a n).1 m g (zbf a) n (zHF (zD h m) g a n) (zFS h m g a n).2.1/\hasB m (ln h.Mons)=true/\hasB (zHF (zD h m) g a n) 8=true:=by
 rw[zLh S m g a n f,zcf]at b;obtain⟨L,_⟩:=zUF S true b.2 S.rt.e2;obtain⟨d,_,i⟩:=zr3.1 b.2;obtain⟨_,c,hg⟩:=zkb.1 d;have e:zHF (zD h m) g a n=zcb (zcp h m g) (zbf a) n:=by unfold zHF;rw[zvA c hg];rfl
 rw[e];exact⟨L,c,(walked (S.ok.guest c hg) i).q8⟩
theorem zbfb {h:Host}(S:Safe h)(m g a v:Int):SimT h (zmh h m g a v) m (fun b=>z4C b g a v)/\zfB h m g a v=zBH (zD h m) g a v:=by have e:zfB h m g a v=zBH (zD h m) g a v:=(by unfold zfB zBH;rw[zLh S m g a 2 (.inr rfl)];cases win a 0 15<;>cases win v 0 99<;>cases zbO h m g (zbf a) 2<;>rfl);refine⟨?_,e⟩;unfold zmh;cases c:zfB h m g a v with|false=>refine(SimT.refl S m).congr ?_;unfold z4C;rw[<- e,c];rfl|true=>rw[cond_true];have f:zpe (zD h m) g a 2=true:=(by have:=e.symm.trans c;unfold zBH at this;exact(zcf.1 this).1);obtain⟨L,i,j⟩:=zXQ S (.inr rfl) f;have d:=L.op.sim S m;obtain⟨k,_⟩:=zyG d.safe (by rw[d.has];exact i) j L.inn L.ne (zcZ a) v;refine(d.trans k).congr ?_;unfold z4C;rw[<- e,c];rfl
theorem zben {h:Host}(S:Safe h)(m g a:Int):SimT h (zjB h m g a) m id/\zeJ h m g a=zpe (zD h m) g a 1/\zlt h m g a=zW3 (zD h m) g a:=by have e:zeJ h m g a=zpe (zD h m) g a 1:=(by unfold zeJ;rw[zLh S m g a 1 (.inl rfl)]);unfold zjB zlt zW3;rw[e];cases d:zpe (zD h m) g a 1 with|false=>exact⟨SimT.refl S m,rfl,rfl⟩|true=>obtain⟨L,f,i⟩:=zXQ S (.inl rfl) d;have b:=L.op.sim S m;obtain⟨_,c⟩:=zyG b.safe (by rw[b.has];exact f) i L.inn L.ne (zcZ a) 0;rw[L.op.like.seen m] at c;exact⟨b,rfl,c⟩
theorem z7Q {k:Kept}{a b:List Slot}(h:KOk k a b)(p:Int)(s:Slot):KOk (zbY k p) (zej a p s) b:=by have j:=zlq k p;have f:(zej a p s).length=a.length:=(by unfold zej;cases hasB p (ln a)<;>simp [zbR]);refine⟨by rw[j.1,f,h.l1],by rw[j.2,f,h.l2],fun i l=>?_⟩;have c:hasB i (ln a)=true:=(by unfold ln at l ⊢;rwa [<- f]);have d:hasB i (ln k.Known)=true:=(by unfold ln at c ⊢;rwa [h.l1]);have g:=zy4 (q:=p) (by rw[h.l1,h.l2]) d;rw[g.1,g.2];by_cases e:p=i;{subst e;rw[zbv.2 rfl];rfl};{rw [zb1.2 e,cond_false,cond_false,h.at' i c];have:ix (zej a p s) i sZ=ix a i sZ:=(by unfold zej;cases m:hasB p (ln a) with|false=>rfl|true=>exact zbw (zI.1 m).1 (zI.1 c).1 e _ _);rw[this]}
theorem zbfB {t m g:Int}(a:zdA t=m)(b:zei t=g)(c:0<=m):t=zdN m g:=by subst a;subst b;by_cases h:1<=t/\t<=6;{have e:t=1\/t=2\/t=3\/t=4\/t=5\/t=6:=(by omega);rcases e with rfl|rfl|rfl|rfl|rfl|rfl<;>decide};{exfalso;have:zdA t = -1:=(by unfold zdA ige ile;rw[show (decide (t≥1)&&decide (t<=6))=false by simp;omega];rfl);omega}
theorem z2u {t:List Slot}{p q:Int}{s:Slot}(h:q≠p):zbs (zej t p s) q=zbs t q:=by unfold zej;cases a:hasB p (ln t) with|false=>rfl|true=>exact zU6 (zI.1 a).1 h
theorem zba8 {t:List Slot}(h:zcY t 4 8=true)(p:Int):zdK (zbs t p) 8=true:=by unfold zbs;cases a:hasB p (ln t) with|false=>rfl|true=>exact(zsH.1 h).1 _ (zmm a _)
theorem z7G {x:Guest}(X:GOk x)(p:Int):GOk (zdW x p):=⟨X.prog,X.a,X.pc,X.w,z0g X.l (zba8 X.w p),X.ctl,X.pend,X.ex,X.seen⟩
theorem zbao {h:Host}(S:Safe h)(m g p:Int):SimT h (zls h m g p) m (fun b=>chg b g (hasB p 4) (zdW (gAt b g) p))/\zdM h m (zb7 (zD h m) g (hasB p 4))=zb7 (zD h m) g (hasB p 4):=by
 refine⟨?_,zlK S m (t:=fun b=>zb7 b g (hasB p 4)) (zjt g _)⟩;unfold zls zcg;rw[zkA.2 S.ok,cond_true];cases a:hasB m (ln h.Mons) with
 |false=>refine(SimT.refl S m).congr ?_;rw[seen_none a,zqS];rfl
 |true=>
  rw[cond_true];cases w:zb7 (zD h m) g (hasB p 4) with
  |false=>refine(SimT.refl S m).congr ?_;show zD h m=chg (zD h m) g (hasB p 4) (zdW (gAt (zD h m) g) p);have c:=w;unfold zb7 at c;unfold chg;rw[c];rfl
  |true=>rw[cond_true];have c:=w;unfold zb7 zck at c;rw[zBa S.ok a,cond_true,zcf,zfb a]at c;have hg:hasB g (ln (ix h.Mons m mZ).Guests)=true:=c.1;have X:=S.ok.mon a;have G:=S.ok.seenG a hg;have C:chg (zD h m) g (hasB p 4) (zdW (gAt (zD h m) g) p)=zeu (zD h m) g (zdW (gOf h m g) p):=(by have l:=w;unfold zb7 at l;unfold chg;rw[l,zvA a hg];rfl);rw[C];have B:hasB g (ln (ix h.Mons m mZ).Tables)=true:=(by unfold ln;rw[X.gt];exact hg);have s:(zFt (zcK h m (zeu (zD h m) g (zdW (gOf h m g) p))) m g p).Mons=up h.Mons m {ix h.Mons m mZ with Guests:=up (ix h.Mons m mZ).Guests g (zdW (gOf h m g) p),Tables:=up (ix h.Mons m mZ).Tables g (zbY (ix (ix h.Mons m mZ).Tables g kZ) p)}:=(by show up (up h.Mons m _) m _=_;rw[z9n];have D:ix (zcK h m (zeu (zD h m) g (zdW (gOf h m g) p))).Mons m mZ=zuu (ix h.Mons m mZ) (zeu (zD h m) g (zdW (gOf h m g) p)):=zbi a _ _;rw[D];unfold zuu zeu;rw[zfb a]);have kp:KeepP (ix h.Mons m mZ) {ix h.Mons m mZ with Guests:=up (ix h.Mons m mZ).Guests g (zdW (gOf h m g) p),Tables:=up (ix h.Mons m mZ).Tables g (zbY (ix (ix h.Mons m mZ).Tables g kZ) p)}:=⟨rfl,rfl⟩;have K:MOk {ix h.Mons m mZ with Guests:=up (ix h.Mons m mZ).Guests g (zdW (gOf h m g) p),Tables:=up (ix h.Mons m mZ).Tables g (zbY (ix (ix h.Mons m mZ).Tables g kZ) p)}:=zlB X kp (zbR _ _ _) (zbR _ _ _) rfl X.outs X.pend X.tr X.own fun z L=>(by rcases qY L with h|h;{exact X.gs z h};{rw [h];exact zu3.2 (z7G G p)});have E:HOk (zFt (zcK h m (zeu (zD h m) g (zdW (gOf h m g) p))) m g p):=S.ok.up a K s S.ok.m12 S.ok.pgs (zBy S.ok.b1 _) (zBy S.ok.b2 _) fun q _=>.inl (qW _);have u:∀b:List Entry,(∀e∈b,zc3 h e=true)->∀e∈zcF b (zdN m g) p,zc3 (zFt (zcK h m (zeu (zD h m) g (zdW (gOf h m g) p))) m g p) e=true:=(by intro b F e H;obtain⟨x,y⟩:=zBJ.1 H;obtain⟨l,n,r⟩:=zfA.1 (F e x);rw[zfA,s,zdP];refine⟨l,?_⟩;by_cases d:m=zdA e.Tag;{rw [<- d]at l n r ⊢;rw[zbi a];show hasB (zei e.Tag) (ln (up _ _ _))=true/\below' _ (zbr (zbs (ix (up (ix h.Mons m mZ).Guests g _) (zei e.Tag) gZ).Live e.Page) (ix h.Mons m mZ).Outer)=true;rw[zdP];refine⟨n,?_⟩;by_cases f:g=zei e.Tag;{rw [<- f]at n r ⊢;rw[zbi hg];have A:e.Page≠p:=fun J=>y ⟨zbfB d.symm f.symm (zI.1 a).1,J⟩;show below' _ (zbr (zbs (zej (gOf h m g).Live p _) e.Page) _)=true;rw[z2u A];exact r};{rw [zbw (zI.1 hg).1 (zI.1 n).1 f];exact r}};{rw [zbw (zI.1 a).1 (zI.1 l).1 d];exact⟨n,r⟩});refine⟨⟨E,⟨fun i v=>?_,u _ S.rt.e1,u _ S.rt.e2⟩⟩,fun i=>?_,by rw[s,zbR]⟩;{rw [s]at v ⊢;rw[zdP]at v;by_cases d:m=i;{subst d;rw[zbi a];intro j I;show KOk (ix (up (ix h.Mons m mZ).Tables g _) j kZ) (ix (up (ix h.Mons m mZ).Guests g _) j gZ).Live (ix h.Mons m mZ).Outer;have k:hasB j (ln (ix h.Mons m mZ).Guests)=true:=(by have:hasB j (ln (up (ix h.Mons m mZ).Guests g (zdW (gOf h m g) p)))=true:=I;rwa [zdP] at this);by_cases e:g=j;{subst e;rw[zbi B,zbi hg];exact z7Q (S.rt.t m a g hg) p _};{rw [zbw (zI.1 hg).1 (zI.1 k).1 e,zbw (zI.1 hg).1 (zI.1 k).1 e];exact S.rt.t m a j k}};{rw [zbw (zI.1 a).1 (zI.1 v).1 d];exact S.rt.t i v}};{refine(zwH (h:=h) a s rfl kp i).trans ?_;by_cases e:i=m;{subst e;rw[zbv.2 rfl,cond_true,cond_true,C,zfb a];rfl};{rw [zb1.2 e];rfl}}
theorem zVf (g:Int):zik ⟨[],[],[],0⟩ g=⟨[],[],[],0⟩/\zl8 ⟨[],[],[],0⟩ g=false:=by have:zl8 ⟨[],[],[],0⟩ g=false:=(by unfold zl8;rw[z3h];rfl);refine⟨?_,this⟩;unfold zik;rw[this];rfl
theorem zbat {h:Host}(S:Safe h)(a:GAct):SimT h (zvY h a) a.M (fun b=>zNV b a)/\zFQ h a=zNW (zD h a.M) a:=by
 have f:=zu9;unfold zvY zFQ zNV zNW;cases ieq a.Kind 1 with
 |true=>obtain⟨k,e⟩:=step_ok S a.M a.G;exact⟨k,by rw[cond_true,cond_true,e]⟩
 |false=>
  simp only[cond_false];cases ieq a.Kind 2 with
  |true=>
   exact⟨zrb S a.M (F:=fun b=>chg b a.G (zt9 a.X ⟨a.Y,a.Z⟩) (zCL (gAt b a.G) a.X ⟨a.Y,a.Z⟩)) (fun b c=>zsK c fun _ d G=>zbd3 G d) (zqS _ _ _),
    congrArg (fun t=>Told.mk t 0) (zlK S a.M (t:=fun b=>zb7 b a.G (zt9 a.X ⟨a.Y,a.Z⟩)) (zjt _ _))⟩
  |false=>
   simp only[cond_false];cases ieq a.Kind 3 with
   |true=>obtain⟨k,e⟩:=zbao S a.M a.G a.X;exact⟨k,congrArg (fun t=>Told.mk t 0) e⟩
   |false=>
    simp only[cond_false];cases ieq a.Kind 4 with
    |true=>
     exact⟨zrb S a.M (F:=fun b=>chg b a.G (ztB (gAt b a.G) a.X) (zy0 (gAt b a.G) a.X)) (fun b c=>zsK c fun _ d G=>zbd0 G d) (zqS _ _ _),
      congrArg (fun t=>Told.mk t 0) (zlK S a.M (t:=fun b=>zb7 b a.G (ztB (gAt b a.G) a.X)) (zjt _ _))⟩
    |false=>
     simp only[cond_false];cases ieq a.Kind 5 with
     |true=>
      exact⟨zrb S a.M (F:=fun b=>chg b a.G (zze (gAt b a.G)) (zzf (gAt b a.G))) (fun b c=>zsK c fun _ _ G=>zbd2 G) (zqS _ _ _),
       congrArg (fun t=>Told.mk t 0) (zlK S a.M (t:=fun b=>zb7 b a.G (zze (gAt b a.G))) (zjt _ _))⟩
     |false=>
      simp only[cond_false];cases ieq a.Kind 6 with
      |true=>
       exact⟨zrb S a.M (F:=fun b=>chg b a.G (zeY (gAt b a.G).Pending a.X) (zmY (gAt b a.G) a.X)) (fun b c=>zsK c fun _ _ G=>z2X G _) (zqS _ _ _),
        congrArg (fun t=>Told.mk t 0) (zlK S a.M (t:=fun b=>zb7 b a.G (zeY (gAt b a.G).Pending a.X)) (zjt _ _))⟩
      |false=>
       simp only[cond_false];cases ieq a.Kind 7 with
       |true=>
        exact⟨zrb S a.M (F:=fun b=>chg b a.G (zhA ⟨a.X,a.Y,ieq a.Z 1⟩) (zKZ (gAt b a.G) ⟨a.X,a.Y,ieq a.Z 1⟩)) (fun b c=>zsK c fun _ d G=>zbd1 G d) (zqS _ _ _),
         congrArg (fun t=>Told.mk t 0) (zlK S a.M (t:=fun b=>zb7 b a.G (zhA ⟨a.X,a.Y,ieq a.Z 1⟩)) (zjt _ _))⟩
       |false=>
        simp only[cond_false];cases ieq a.Kind 8 with
        |true=>obtain⟨k,e⟩:=zbaV S a.M a.X a.Y a.Z;exact⟨k,congrArg (fun t=>Told.mk t 0) e⟩
        |false=>
         simp only[cond_false];cases ieq a.Kind 9 with
         |true=>
          exact⟨zrb S a.M (F:=fun b=>zgN b a.X) (fun b c=>z4c c _) (by unfold zgN zea;rw[f];rfl),
           congrArg (fun t=>Told.mk t 0) (zlK S a.M (t:=fun b=>zea b a.X) (by unfold zea;rw[f];rfl))⟩
         |false=>
          simp only[cond_false];cases ieq a.Kind 10 with
          |true=>refine⟨zrb S a.M (F:=zih) (fun b c=>z6H c) (by unfold zih;rw[f];rfl),?_⟩;have e:=zlK S a.M (t:=zhz) (by unfold zhz;rw[f];rfl);show Told.mk (zdM h a.M (zhz (zD h a.M))) (cond (zcg h a.M) (zod (zD h a.M)) (-1))=⟨zhz (zD h a.M),zod (zD h a.M)⟩;rw[e];congr 1;unfold zcg;rw[zkA.2 S.ok,cond_true];cases j:hasB a.M (ln h.Mons) with|true=>rfl|false=>rw[seen_none j];unfold zod;rw[f];rfl
          |false=>
           simp only[cond_false];cases ieq a.Kind 11 with
           |true=>obtain⟨k,e⟩:=zbfb S a.M a.G a.X a.Y;exact⟨k,congrArg (fun t=>Told.mk t 0) e⟩
           |false=>obtain⟨k,g,i⟩:=zben S a.M a.G a.X;exact⟨k,by simp only[cond_false];rw[g,i]⟩
theorem zbaO {h:Host}(S:Safe h)(a:GAct):Safe (znp h a)/\(∀i,zD (znp h a) i=zD h i)/\(znp h a).Mons.length=h.Mons.length:=by
 unfold znp;have k:∀r,Op h r->Safe r/\(∀i,zD r i=zD h i)/\r.Mons.length=h.Mons.length:=fun r k=>⟨k.safe S,fun i=>k.like.seen i,k.like.len⟩;cases ieq a.Kind 13 with
 |true=>exact k _ (z5u S.ok _ _)
 |false=>
  simp only[cond_false];cases ieq a.Kind 14 with
  |true=>exact k _ (z8q S.ok _ _)
  |false=>
   simp only[cond_false];cases ieq a.Kind 15 with
   |true=>exact k _ (z8p S.ok _ _)
   |false=>
    simp only[cond_false];cases ieq a.Kind 16 with
    |true=>obtain⟨b,c⟩:=zWD S a.M a.X;refine⟨b,c,?_⟩;simp only[cond_true];unfold zj4;cases zb3 h<;>cases hasB a.M (ln h.Mons)<;>cases win a.X 0 3<;>first|rfl|exact zbR _ _ _
    |false=>exact k _ (zbej S.ok)
def zk1 (a:GAct):Bool:=bif win a.Kind 1 17 then !win a.Kind 13 17 else false
theorem z6y {h:Host}(S:Safe h)(a:GAct):Safe (zeA h a)/\(zeA h a).Mons.length=h.Mons.length/\
 (∀i,zD (zeA h a) i=bif (cond (zk1 a) (ieq i a.M) false) then zNV (zD h i) a else zD h i)/\(zk1 a=true->zjA h a=zNW (zD h a.M) a):=by
 unfold zeA zjA zk1;cases win a.Kind 1 17 with
 |false=>exact⟨S,rfl,fun _=>rfl,fun e=>by cases e⟩
 |true=>
  simp only[cond_true];cases win a.Kind 13 17 with
  |true=>obtain⟨b,c,d⟩:=zbaO S a;exact⟨b,d,fun i=>by simp only[cond_true,jU,cond_false];exact c i,fun e=>by cases e⟩
  |false=>obtain⟨k,e⟩:=zbat S a;exact⟨k.safe,k.len,fun i=>by simp only[cond_false,jX,cond_true];exact k.seen i,fun _=>e⟩
def zdH (h:Host):List Bare:=(List.range h.Mons.length).map fun (i:Nat)=>zD h (i:Int)
theorem zkx (h:Host):(zdH h).length=h.Mons.length:=by simp[zdH]
theorem zm4 (h:Host)(m:Int):hasB m (ln (zdH h))=hasB m (ln h.Mons):=by unfold ln;rw[zkx]
theorem zl6 {h:Host}{m:Int}(c:hasB m (ln h.Mons)=true)(d:Bare):ix (zdH h) m d=zD h m:=by have a:=zI.1 c;unfold ln at a;have b:m.toNat<(zdH h).length:=(by rw[zkx];omega);have:=zng b d;rw[show ((m.toNat:Nat):Int)=m by omega] at this;rw[this];simp[zdH,show max m 0=m by omega]
theorem z3X {h r:Host}(a:r.Mons.length=h.Mons.length)(e:∀i,zD r i=zD h i):zdH r=zdH h:=by unfold zdH;rw[a];exact List.map_congr_left fun i _=>e _
theorem z0X {h:Host}(S:Safe h)(a:GAct):zdH (zeA h a)=zNX (zdH h) a/\(zk1 a=true->zjA h a=z4b (zdH h) a):=by obtain⟨_,k,l,t⟩:=z6y S a;have p:zk1 a=true->zdH (zeA h a)=(cond (hasB a.M (ln h.Mons)) (up (zdH h) a.M (zNV (zD h a.M) a)) (zdH h)):=(by intro b;rw[b]at l;cases f:hasB a.M (ln h.Mons) with|false=>rw[cond_false];refine zST ⟨[],[],[],0⟩ (by rw[zkx,zkx,k]) fun i c=>?_;rw[zm4]at c;rw[zl6 c];have d:hasB i (ln h.Mons)=true:=(by unfold ln at c ⊢;rwa [<- k]);rw[zl6 d,l i];have:ieq i a.M=false:=zb1.2 fun e=>(by rw[e,f]at d;cases d);rw[this];rfl|true=>rw[cond_true];refine zST ⟨[],[],[],0⟩ (by rw[zbR,zkx,zkx,k]) fun i c=>?_;rw[zm4]at c;rw[zl6 c,l i];have d:hasB i (ln h.Mons)=true:=(by unfold ln at c ⊢;rwa [<- k]);by_cases e:i=a.M;{rw [e,zbv.2 rfl,zbi (by rw[zm4];exact f)];rfl};{rw [zb1.2 e,zbw (zI.1 f).1 (zI.1 d).1 (Ne.symm e),zl6 d];rfl});have s:zk1 a=false->zdH (zeA h a)=zdH h:=fun b=>z3X k fun i=>(by rw[l i,b];rfl);have r:zk1 a=true->win a.Kind 1 17=true/\win a.Kind 13 17=false:=(by intro b;unfold zk1 at b;cases g:win a.Kind 1 17<;>cases j:win a.Kind 13 17<;>rw [g,j]at b<;>first|exact⟨rfl,rfl⟩|cases b);constructor;{unfold zNX;cases b:zk1 a with|true=>obtain⟨g,j⟩:=r b;rw[g,j,cond_true,cond_false,zm4,p b];(cases f:hasB a.M (ln h.Mons) with|true=>rw[cond_true,cond_true,zl6 f]|false=>rfl)|false=>rw[s b];unfold zk1 at b;(cases g:win a.Kind 1 17 with|false=>rfl|true=>(cases j:win a.Kind 13 17 with|true=>rfl|false=>rw[g,j]at b;cases b))};{intro b;rw[t b];obtain⟨g,j⟩:=r b;unfold z4b;rw[g,j,cond_true,cond_false,zm4];cases f:hasB a.M (ln h.Mons) with|true=>rw[cond_true,zl6 f]|false=>rw[cond_false,seen_none f];have n:=(zVf a.G).2;have q:=zu9;unfold zNW;simp only[n,zjt];unfold zAj zea zhz zod zBH zW3 zpe;simp only[q,zvp q,cond_false];(cases m:ieq a.Kind 10 with|true=>have:a.Kind=10:=zbv.1 m;rw[this];rfl|false=>cases ieq a.Kind 1<;>cases ieq a.Kind 2<;>cases ieq a.Kind 3<;>cases ieq a.Kind 4<;>cases ieq a.Kind 5<;>cases ieq a.Kind 6<;>cases ieq a.Kind 7<;>cases ieq a.Kind 8<;>cases ieq a.Kind 9<;>cases ieq a.Kind 11<;>rfl)}
def zPa:List GAct->List Told->List Told
 |a::l,t::ts=>bif zk1 a then t::zPa l ts else zPa l ts
 |_,_=>[]
structure Live (u:Host×List Told) (v:List Bare×List Told):Prop where
 safe:Safe u.1
 seen:zdH u.1=v.1
def zHs:List GAct->Host->List Told
 |[],_=>[]
 |a::l,h=>zjA h a::zHs l (zeA h a)
def z9l:List GAct->List Bare->List Told
 |[],_=>[]
 |a::l,b=>z4b b a::z9l l (zNX b a)
def zxc:List GAct->Host->Host
 |[],h=>h
 |a::l,h=>zxc l (zeA h a)
def endB:List GAct->List Bare->List Bare
 |[],b=>b
 |a::l,b=>endB l (zNX b a)
theorem z3v:∀(l:List GAct) (u:Host×List Told),zGg l u=(zxc l u.1,u.2++zHs l u.1)
 |[],u=>by simp[zGg,zxc,zHs]
 |a::l,u=>by rw[zGg,z3v l];simp[zxc,zHs,ap]
theorem z7w:∀(l:List GAct) {h:Host},Safe h->Safe (zxc l h)/\zdH (zxc l h)=endB l (zdH h)/\zPa l (zHs l h)=zPa l (z9l l (zdH h))/\(zxc l h).Mons.length=h.Mons.length
 |[],h,S=>⟨S,rfl,rfl,rfl⟩
 |a::l,h,S=>by have d:=z6y S a;have b:=z0X S a;obtain⟨e,f,c,g⟩:=z7w l d.1;refine⟨e,by show zdH (zxc l (zeA h a))=endB l (zNX (zdH h) a);rw[f,b.1],?_,g.trans d.2.1⟩;show (cond (zk1 a) _ _)=(cond (zk1 a) _ _);cases i:zk1 a with|false=>rw[cond_false,cond_false,c,b.1]|true=>rw[cond_true,cond_true,c,b.1,b.2 i]
theorem cz8 (q:Int)(b:0<=q):zwK.countP (fun s=>ieq s.Page q)=0:=by rw[vA];intro s a;have:=(uP.1 a).2;rw[this];show ¬ ieq (-1) q=true;rw[zbv];omega
theorem z1d {p:List Ins}(h:zda p=true):GOk (zeP p):=⟨h,rfl,rfl,rfl,rfl,rfl,rfl,rfl,rfl⟩
theorem z8j {a:List (List Ins)}(i:1<=a.length)(h:∀p∈a,zda p=true):MOk (zgF a):=by have d:∀s∈zwK,s=noSlot:=fun s c=>(uP.1 c).2;refine⟨?_,?_,?_,rfl,fun s c=>.inl (d s c),rfl,rfl,j4 _,rfl,rfl,rfl,fun g hg=>?_,fun p b=>?_⟩;{show 1<=((a.take 2).map zeP).length;simp;omega};{show ((a.take 2).map zeP).length<=2;simp;omega};{show ((a.take 2).map (fun _=>zkD)).length=((a.take 2).map zeP).length;simp};{obtain⟨p,b,rfl⟩:=jE.1 hg;exact zu3.2 (z1d (h p (jV b)))};{have f:=zI.1 b;have e:p=0\/p=1\/p=2\/p=3\/p=4\/p=5\/p=6\/p=7:=(by omega);rcases e with rfl|rfl|rfl|rfl|rfl|rfl|rfl|rfl<;>rfl}
def zbdm (a:List (List (List Ins))):Prop:=1<=a.length/\∀p∈a,1<=p.length/\∀x∈p,zda x=true
theorem z4T {a:List (List (List Ins))}(h:zbdm a):Safe (zfw a):=by have b:∀x∈(zfw a).Mons,∃p∈a,x=zgF p:=fun x f=>(by obtain⟨p,j,rfl⟩:=jE.1 f;exact⟨p,jV j,rfl⟩);have u:∀x∈(zfw a).Mons,x.Outer=zwK:=fun x f=>(by obtain⟨p,_,rfl⟩:=b x f;rfl);have H:HOk (zfw a):=(by refine⟨rfl,fun c v=>?_,?_,?_,rfl,rfl,fun x f=>?_,fun q B=>?_⟩;{have:c=[0,0,0,0]:=(uP.1 v).2;rw[this];rfl};{show 1<=((a.take 3).map zgF).length;have:=h.1;simp;omega};{show ((a.take 3).map zgF).length<=3;simp;omega};{obtain⟨p,j,rfl⟩:=b x f;exact z8j (h.2 p j).1 (h.2 p j).2};{have:ze3 (zfw a).Mons q=0:=(by unfold ze3;have:(zfw a).Mons.map (fun x=>cPg x q)=(zfw a).Mons.map (fun _=>0):=List.map_congr_left fun x f=>(by unfold cPg;rw[u x f];exact cz8 q B);rw[this];generalize (zfw a).Mons=l;induction l with|nil=>rfl|cons x l D=>rw[jD,uJ,D]);omega});refine⟨H,fun m A g hg=>?_,fun e r=>(by cases r),fun e r=>(by cases r)⟩;obtain⟨p,j,e⟩:=b _ (zmm A mZ);rw[e]at hg ⊢;have d:hasB g (ln ((p.take 2).map zeP))=true:=hg;have C:ix (zgF p).Tables g kZ=zkD:=(by have:hasB g (ln ((p.take 2).map (fun _=>zkD)))=true:=(by unfold ln at d ⊢;simpa using d);obtain⟨k,y,_,n⟩:=zCb this kZ;show ix ((p.take 2).map (fun _=>zkD)) g kZ=_;rw[n];simp);have z:(ix (zgF p).Guests g gZ).Live=zl1:=(by obtain⟨k,y,_,n⟩:=zCb d gZ;show (ix ((p.take 2).map zeP) g gZ).Live=_;rw[n];simp[zeP]);rw[C,z];show KOk zkD zl1 zwK;refine⟨rfl,rfl,fun i w=>?_⟩;have s:=zI.1 w;have:ln zl1=4:=rfl;rw[this]at s;have t:i=0\/i=1\/i=2\/i=3:=(by omega);rcases t with rfl|rfl|rfl|rfl<;>rfl
theorem z3C:∀(l:List GAct) (u:Host×List Told),SmH u.1->SmH (zGg l u).1
 |[],u,h=>h
 |a::l,u,h=>z3C l (zeA u.1 a,ap u.2 [zjA u.1 a]) (z3B h)
theorem zbay {h:Host}(L:z3V h):Safe h/\SmH h:=by obtain⟨c,l,a,b,rfl⟩:=L;refine⟨?_,z3C _ _ (zTi a)⟩;unfold zBW;rw[z3v];exact(z7w _ (z4T b)).1
def z6P:zX:=z6N
theorem zFn:zL z6P:=z6O
structure MonS (x:Mon):Prop where
 sm:zfd x
 g1:1<=x.Guests.length
 g2:x.Guests.length<=2
 t2:x.Tables.length<=2
 o8:x.Outer.length<=8
 pg:∀s∈x.Outer,I64 s.Page
 tk:∀k∈x.Tables,k.Known.length<=k.Slots.length
structure AnyH (h:Host):Prop where
 mem:SmM h.Memory
 n1:1<=h.Mons.length
 n3:h.Mons.length<=3
 mons:∀x∈h.Mons,MonS x
 b1:h.Buffer.length<=1048576
 b2:h.IoBuffer.length<=1048576
theorem AnyH.sm {h:Host}(k:AnyH h):SmH h:=⟨k.mem,⟨qU k.n3 (by decide),fun x a=>(k.mons x a).sm⟩,k.b1,k.b2⟩
theorem zba2 {h:Host}(S:Safe h)(sm:SmH h):AnyH h :=
 ⟨sm.1,S.ok.n1,S.ok.n3,fun x a=>by
  have k:=S.ok.mons x a;refine⟨sm.2.1.2 x a,k.g1,k.g2,by rw[k.gt];exact k.g2,by rw[k.o8];exact qW 8,fun s b=>?_,fun y c=>?_⟩
  .rcases k.sl s b with rfl|⟨h1,h2,_⟩
   .exact⟨by decide,by decide⟩
   .exact⟨by omega,by omega⟩
  .obtain⟨m,hm,rfl⟩:=zF5 a mZ;obtain⟨g,hg,rfl⟩:=zF5 c kZ;have:=S.rt.t m hm g (by have e:(ix h.Mons m mZ).Tables.length=(ix h.Mons m mZ).Guests.length:=k.gt;unfold ln at hg ⊢;rw[<- e];exact hg)
   rw[this.l1,this.l2];exact qW _,sm.2.2.1,sm.2.2.2⟩
theorem zzP {h:Host}(k:AnyH h)(i:Int){x:Mon}(b:MonS x):AnyH {h with Mons:=up h.Mons i x} :=
 ⟨k.mem,by rw[zh5];exact k.n1,by rw[zh5];exact k.n3,fun y a=>by
  rcases qY a with a|rfl
  .exact k.mons y a
  .exact b,k.b1,k.b2⟩
theorem zbfy {g:Guest}(h:GuS g):SmG g:=⟨qU h.1 (by decide),qU h.2.1 (by decide),qU h.2.2.1 (by decide),qU h.2.2.2 (by decide)⟩
theorem zbbd {l:List Guest}(h:zlg l)(i:Int){g:Guest}(hg:SmG g):zlg (up l i g):=
 ⟨by rw[zh5];exact h.1,fun y a=>by
  rcases qY a with a|rfl
  .exact h.2 y a
  .exact hg⟩
theorem zbeB {l:List (List Int)}(h:SmM l)(i:Int){g:List Int}(hg:g.length<=1048576):SmM (up l i g):=
 ⟨by rw[zh5];exact h.1,fun y a=>by
  rcases qY a with a|rfl
  .exact h.2 y a
  .exact hg⟩
def zBs (N:Nat)(c:Cur)  : OA :=
 let j:=(ztl c);let r:=({ (ziC c) with b:=c.b}:Cur);let f:=j.Mons;let k:=(zk r (ln f));let m:=(inb k (ln f));let g:=(ix f k zi);let q:=({ (zf r (ln f)) with b:=c.b}:Cur);let e:=(zf q 24);let l:=(zk q 24);let a:=({e with b:=c.b}:Cur);let n:=(zW a [(-1),1000000000,1000000001]);let p:=({ (zf a 8) with b:=c.b}:Cur); (oN (znH c) (oN (zA r (ln f)) (oN (zA q 24) (cond (ieq l 0) (oN (zfs a 8 12) (oN m (share (up f k ({g with Outer:=(zeO a 8 12)}:Mon)) (fun d=>(some [(.agg [(.s .u8 c.b),(.i .i64 (zgw a 8 12).i),(.i .i64 (zgw a 8 12).h)]),(aH ({j with Mons:=d}:Host))]))))) (cond (ieq l 1) (oN m (oN (zA a 8) (oN (zlU p) (oN (inb (zk a 8) (ln g.Out)) (share (up f k ({g with Out:=(up g.Out (zk a 8) (zuQ p))}:Mon)) (fun d=>(some [(.agg [(.s .u8 c.b),(.i .i64 (zlV p).i),(.i .i64 (zlV p).h)]),(aH ({j with Mons:=d}:Host))]))))))) (cond (ieq l 2) (oN m (oN (zqw a) (oN (inb 0 (ln g.Guests)) (share (up f k ({g with Guests:=(up g.Guests 0 (zCH a))}:Mon)) (fun d=>(some [(.agg [(.s .u8 c.b),(.i .i64 (zqx a).i),(.i .i64 (zqx a).h)]),(aH ({j with Mons:=d}:Host))])))))) (cond (ieq l 3) (oN m (share (up f k ({g with Tables:=[]}:Mon)) (fun d=>(some [(.agg [(.s .u8 c.b),(.i .i64 e.i),(.i .i64 e.h)]),(aH ({j with Mons:=d}:Host))])))) (cond (ieq l 4) (oN (zkr a) (some [(.agg [(.s .u8 c.b),(.i .i64 (zks a).i),(.i .i64 (zks a).h)]),(aH ({j with Buffer:=(zsu a)}:Host))])) (cond (ieq l 5) (oN (zlW a) (oN m (share (up f k ({g with Traps:=(zuS a)}:Mon)) (fun d=>(some [(.agg [(.s .u8 c.b),(.i .i64 (zlX a).i),(.i .i64 (zlX a).h)]),(aH ({j with Mons:=d}:Host))]))))) (cond (ieq l 6) (oN (zbm a [(-1),1000000000,1000000001]) (oN m (share (up f k ({g with Own:=(zbj a [(-1),1000000000,1000000001])}:Mon)) (fun d=>(some [(.agg [(.s .u8 c.b),(.i .i64 n.i),(.i .i64 n.h)]),(aH ({j with Mons:=d}:Host))]))))) (cond (ieq l 7) (oN (zqk a) (some [(.agg [(.s .u8 c.b),(.i .i64 (zib a).i),(.i .i64 (zib a).h)]),(aH ({j with Memory:=(zrA a)}:Host))])) (some [(.agg [(.s .u8 c.b),(.i .i64 e.i),(.i .i64 e.h)]),(aH j)]))))))))))))
def zsE (c:Cur)(s:Cur)(a:Host):Prop:=(∃N,zBs N c=some (AV.agg (zbT s)::[aH a]))/\(s.b=c.b/\0<=s.i)/\(AnyH a)
def zet (c:Cur)  : Bool:=wC (zsE c)
def zid (c:Cur)  : Cur:=wS (zsE c)
def zhx (c:Cur)  : Host:=wV (zsE c)
theorem zqB {c:Cur}(h:zet c=true):zsE c (zid c) (zhx c):=wG h
theorem zuU (c:Cur)  : 0<=(zid c).i:=wP fun h=>h.2.1.2
theorem z5Y (c:Cur)(h:∃N,Ends (wE (fun a=>aH a) c.b fun a=>AnyH a) (zBs N c)):zet c=true:=wI (fun _ _ h=>h) h
def zDv:zdr:=rP0 fun c=>(zet c,zid c,[aH (zhx c)])
theorem zR2:zbN Tryz.prog 65 [false,true,true] zDv:=hP0 zFn zU zZA zn (zo []) (fun _ h=>(zqB h).1)
theorem zsV {c:Cur}(h:zbc c):zet c=true:=by
 refine z5Y c ⟨0,?_⟩;unfold zBs oN;conv=>zeta
 obtain⟨S,sm⟩:=zbay (zKA (z7M h)).2.2;have A:=zba2 S sm;have q:∀{s:Cur},0<=s.i->zbc {s with b:=c.b}:=fun y=>zbL h y;have w:zbc {ziC c with b:=c.b}:=q (z2j _);have l:0<ln (ztl c).Mons:=by have:=A.n1;unfold ln;omega
 have a:=zw2 w l (kS _);have u:=zbD a zi;generalize B:ztl c=H at *;generalize zk {ziC c with b:=c.b} (ln H.Mons)=m at *;have M:=A.mons _ u;have x:=S.ok.mons _ u;generalize C:ix H.Mons m zi=X at *;obtain⟨p,e,f,j,k,t⟩:=M.sm;have d:∀{n},zbc {zf {zf {ziC c with b:=c.b} n with b:=c.b} 24 with b:=c.b}:=fun {n}=>q (zF _ _);refine zq (z7M h) (zq (zbt w _) (zq (zbt (q (zF _ _)) 24)
  (zbE (fun _=>zq (zo8 d (by omega) (by omega) _) (zq a (zmc (zbF aH (v:={H with Mons:=up H.Mons m {X with Outer:=zeO _ _ _}}) (zqf _ _ _) (zzP A m ?_)))))
  (fun _=>zbE (fun _=>zq a (zq (zbt d 8) (zq (z2M (q (zF _ _))) (zq (zw2 d (by omega) ?_) (zmc (zbF aH (v:={H with Mons:=up H.Mons m {X with Out:=up X.Out _ (zuQ _)}}) (zZQ _) (zzP A m ?_)))))))
  (fun _=>zbE (fun _=>zq a (zq (zNU d) (zq ?_ (zmc (zbF aH (v:={H with Mons:=up H.Mons m {X with Guests:=up X.Guests 0 (zCH _)}}) (z5T _) (zzP A m ?_))))))
  (fun _=>zbE (fun _=>zq a (zmc (zbF aH (v:={H with Mons:=up H.Mons m {X with Tables:=[]}}) (zF _ _) (zzP A m ?_))))
  (fun _=>zbE (fun _=>zq (zXs d) (zbF aH (v:={H with Buffer:=zsu _}) (zWz _) ⟨A.mem,A.n1,A.n3,A.mons,qU (zD9 (zXs d)).2.2 (by decide),A.b2⟩))
  (fun _=>zbE (fun _=>zq (zbeE d) (zq a (zmc (zbF aH (v:={H with Mons:=up H.Mons m {X with Traps:=zuS _}}) (zZV _) (zzP A m ?_)))))
  (fun _=>zbE (fun _=>zq (zd6 d (by simp)) (zq a (zmc (zbF aH (v:={H with Mons:=up H.Mons m {X with Own:=zbj _ _}}) (zbP _ _) (zzP A m ?_)))))
  (fun _=>zbE (fun _=>zq (zYj d) (zbF aH (v:={H with Memory:=zrA _}) (z5G _) ⟨?_,A.n1,A.n3,A.mons,A.b1,A.b2⟩))
  (fun _=>zbF aH (v:=H) (zF _ _) A)))))))))))
 {have g:=(zqe (zo8 (d (n:=ln H.Mons)) (n:=8) (by omega) (by omega) 12)).2.2 (by omega) (by omega);refine⟨⟨?_,e,f,j,k,t⟩,M.g1,M.g2,M.t2,?_,g.2 (by omega) (by omega),M.tk⟩;{have:=g.1;unfold ln at this;exact qU (m:=8) (by exact Int.ofNat_le.1 this) (by decide)};{have:=g.1;unfold ln at this;exact Int.ofNat_le.1 this}};{unfold ln;rw[x.u8];decide};{exact⟨⟨p,zbeB e _ (qU (zHb (z2M (q (zF _ _)))).2.2 (by decide)),f,j,k,t⟩,M.g1,M.g2,M.t2,M.o8,M.pg,M.tk⟩};{exact qJ (by have:=M.g1;unfold ln;omega)};{exact⟨⟨p,e,f,zbbd j 0 (zbfy (zQd (zNU d)).2.2),k,t⟩,by rw[zh5];exact M.g1,by rw[zh5];exact M.g2,M.t2,M.o8,M.pg,M.tk⟩};{exact⟨⟨p,e,f,j,k,⟨by simp,by simp⟩⟩,M.g1,M.g2,by simp,M.o8,M.pg,by simp⟩};{exact⟨⟨p,e,f,j,k,t⟩,M.g1,M.g2,M.t2,M.o8,M.pg,M.tk⟩};{exact⟨⟨p,e,f,j,k,t⟩,M.g1,M.g2,M.t2,M.o8,M.pg,M.tk⟩};{have g:=(zQb (zYj (d (n:=ln H.Mons)))).2.2;exact⟨qU g.1 (by decide),fun r z=>qU (g.2 r z) (by decide)⟩}
def zbc7:zcJ:=[(65,([false,true,true],zDv))]++zbc6
theorem zbaT:zb2 zbc7:=zcv zZA (by
 intro x a;simp only[qG,qN,or_false]at a;rcases a with rfl
 .exact zR2)
def zE8 (N:Nat)(c:Cur)  : OA :=
 let a:=(zW c [0,0,0,1,1,2,(-1),9223372036854775807]); (oN (zbm c [0,0,0,1,1,2,(-1),9223372036854775807]) (some [(.agg [(.s .u8 c.b),(.i .i64 a.i),(.i .i64 a.h)]),(aI (zbj c [0,0,0,1,1,2,(-1),9223372036854775807]))]))
def zuV (c:Cur)(s:Cur)(a:Int):Prop:=(∃N,zE8 N c=some (AV.agg (zbT s)::[aI a]))/\(s.b=c.b/\0<=s.i)/\(True)
def zfG (c:Cur)  : Bool:=wC (zuV c)
def zoX (c:Cur)  : Cur:=wS (zuV c)
def zkR (c:Cur)  : Int:=wV (zuV c)
theorem z8N {c:Cur}(h:zfG c=true):zuV c (zoX c) (zkR c):=wG h
theorem zHe (c:Cur)  : 0<=(zoX c).i:=wP fun h=>h.2.1.2
theorem z8O (c:Cur)(h:∃N,Ends (wE (fun a=>aI a) c.b fun a=>True) (zE8 N c)):zfG c=true:=wI (fun _ _ h=>h) h
def zGe:zdr:=rP0 fun c=>(zfG c,zoX c,[aI (zkR c)])
theorem zVE:zbN Tryz.prog 66 [false,true,true] zGe:=hP0 zFn zU zMA zn (zo []) (fun _ h=>(z8N h).1)
theorem z4a {c:Cur}(h:zbc c):zfG c=true:=by
 refine z8O c ⟨0,?_⟩;unfold zE8 oN;conv=>zeta
 exact zq (zd6 h (by simp)) (zbF aI (zbP _ _) trivial)
def zbc8:zcJ:=[(66,([false,true,true],zGe))]++zbc7
theorem zv5:zb2 zbc8:=zcv zbaT (by
 intro x a;simp only[qG,qN,or_false]at a;rcases a with rfl
 .exact zVE)
def zbb2:zX:=[(298,ztU)]++z6P
theorem zXF:zL zbb2:=zh zxs zFn
theorem zw3 {a:List Int}(h:a.length<=big){G:Ans->Prop}{N:Nat}(l:a.length<N){g:Int}{R:Int->OA}{d:Type}(S:Int->Int->d){F:(d->OA)->d->OA}(k:∀rec i t,F rec (S i t)=bif ilt i (ln a) then (cond (ilt i 4000) (cond (inb i (ln a)) (rec (S (zK .i64 i 1) (wand .i64 (zK .i64 (zK .i64 (zkV .i64 t 131) (wcv .i64 (ix a i 0))) 7) 1073741823))) none) (R t)) else R t)(e:∀t,zbc ⟨a,0,t⟩->Ends G (R t)):Ends G (iter N F (S 0 g)):=by refine zm7 (fun n s=>∃(i:Nat) (t:Int),s=S (i:Int) t/\i+n=a.length) ?_ N a.length _ ⟨0,g,rfl,by omega⟩ l;rintro n s rec ⟨i,t,rfl,p⟩ b;rw[k];have f:zbc ⟨a,0,t⟩:=⟨kS 0,h⟩;refine zbE (fun j=>zbE (fun m=>?_) (fun _=>e t f)) (fun _=>e t f);have c:(i:Int)<ln a:=qE j;unfold ln at c;rw[zbg (show i<a.length by omega) h];exact zq (qJ ⟨by omega,by unfold ln;omega⟩) (b (n-1) _ (by omega) ⟨i+1,_,rfl,by omega⟩)
theorem zzd {b:List Int}(h:b.length<=big){s:Cur}(a:0<=s.i):zbc {s with b:=b}:=⟨a,h⟩
def znN (N:Nat)(f:List Int):OA:=
 (iter (σ:=(Int×(Int×((List Int)×(lM×(lN×(lE×(lE×Unit)))))))) N (fun g a=>let c:=a.2.2.1;let d:=(⟨c,0,a.1⟩:Cur);let e:=({ (zid d) with b:=c}:Cur); (cond (ilt a.2.1 (ln c)) (cond (ilt a.2.1 4000) (oN (inb a.2.1 (ln c)) (g ((wand .i64 (zK .i64 (zK .i64 (zkV .i64 a.1 131) (wcv .i64 (ix c a.2.1 0))) 7) 1073741823),((zK .i64 a.2.1 1),(c,(a.2.2.2.1,(a.2.2.2.2.1,(a.2.2.2.2.2.1,(a.2.2.2.2.2.2.1,()))))))))) (oN (zet d) (oN (zfG e) (some [(aH (zhx d)),(aI (zkR e))])))) (oN (zet d) (oN (zfG e) (some [(aH (zhx d)),(aI (zkR e))]))))) ((zK .i64 94701 (ln f)),(0,(f,([],([],([],([],()))))))))
def zQJ:FuncId->Nat->Option Tmpl:=zo [(64,0,{n:=32,tm:=[(0,.sl 0 []),(3,ti),(4,ti)],lo:=[(0,[.sl 1 [],.sl 2 [],.sl 3 [],.sl 4 []])],ro:=[(0,.u8,false),(1,(.sl .int),true),(2,.mon,true),(3,.entry,true),(4,.entry,true)],sk:=[(0,2,0,.lp 0 0)]})]
def zrt (b:List Int)(a:Host)(c:Int):Prop:=(∃N,znN N b=some [aH a,aI c])/\(AnyH a)
def zhP (a:List Int):Bool:=uC (T:=Host×Int) (fun r=>zrt a r.1 r.2)
def zD0 (a:List Int):Host×Int:=uV (fun r=>zrt a r.1 r.2)
def znY (a:List Int):Host:=(zD0 a).1
def znZ (a:List Int):Int:=(zD0 a).2
theorem zDZ {a:List Int}(h:zhP a=true):zrt a (znY a) (znZ a):=uG h
theorem zWu (d:List Int)(h:∃N,Ends (fun a=>∃b c,a=[aH b,aI c]/\(AnyH b)) (znN N d)):zhP d=true:=by obtain⟨N,a,e,b,c,rfl,h⟩:=h;exact zbd ⟨(b,c),⟨N,e⟩,h⟩
def zx1:Run:=rF1 (dS .u8) fun b=>(zhP b,[aH (znY b),aI (znZ b)])
theorem zPu (a:List Int)(b:zhP a=true):∃N,znN N a=some [aH (znY a),aI (znZ a)]:=by exact(zDZ b).1
theorem zIn:vN 137 zx1:=kF1 zXF zU zv5 zn zQJ zPu
theorem z3l {a:List Int}(h:a.length<=big):zhP a=true:=by
 refine zWu a (zcd fun N b=>?_);unfold znN oN;conv=>zeta
 refine zw3 h (b h) ((fun i t=>(t,(i:Int),a,[],[],[],[],())):Int->Int->_) (fun rec i t=>by dsimp only) (fun t c=>?_);exact zq (zsV c) (zq (z4a (zzd h (zuU _))) ⟨_,rfl,_,_,rfl,(zqB (zsV c)).2.2⟩)
def zbb3:zX:=[(137,zx1)]++zbb2
theorem zog:zL zbb3:=zh zIn zXF
def zBq (N:Nat)(c:Cur)  : OA :=
 let a:=(zW c [0,7,50,99,100,(-1)]); (oN (zbm c [0,7,50,99,100,(-1)]) (some [(.agg [(.s .u8 c.b),(.i .i64 a.i),(.i .i64 a.h)]),(aI (zbj c [0,7,50,99,100,(-1)]))]))
def zsB (c:Cur)(s:Cur)(a:Int):Prop:=(∃N,zBq N c=some (AV.agg (zbT s)::[aI a]))/\(s.b=c.b/\0<=s.i)/\(True)
def zmR (c:Cur)  : Bool:=wC (zsB c)
def zQe (c:Cur)  : Cur:=wS (zsB c)
def zCI (c:Cur)  : Int:=wV (zsB c)
theorem z5U {c:Cur}(h:zmR c=true):zsB c (zQe c) (zCI c):=wG h
theorem z5V (c:Cur)(h:∃N,Ends (wE (fun a=>aI a) c.b fun a=>True) (zBq N c)):zmR c=true:=wI (fun _ _ h=>h) h
def zDt:zdr:=rP0 fun c=>(zmR c,zQe c,[aI (zCI c)])
theorem zR0:zbN Tryz.prog 79 [false,true,true] zDt:=hP0 zog zU zv5 zn (zo []) (fun _ h=>(z5U h).1)
theorem zbf7 {c:Cur}(h:zbc c):zmR c=true:=by
 refine z5V c ⟨0,?_⟩;unfold zBq oN;conv=>zeta
 exact zq (zd6 h (by simp)) (zbF aI (zbP _ _) trivial)
def zyU (N:Nat)(c:Cur)  : OA :=
 let d:=({ (zf c 16) with b:=c.b}:Cur);let a:=({ (zf d 16) with b:=c.b}:Cur);let e:=({ (zf a 16) with b:=c.b}:Cur);let f:=(zW e [(zk c 16),(zk d 16),(zk a 16),15,16,(-1),9223372036854775807]); (oN (zA c 16) (oN (zA d 16) (oN (zA a 16) (oN (zbm e [(zk c 16),(zk d 16),(zk a 16),15,16,(-1),9223372036854775807]) (some [(.agg [(.s .u8 c.b),(.i .i64 f.i),(.i .i64 f.h)]),(aI (zbj e [(zk c 16),(zk d 16),(zk a 16),15,16,(-1),9223372036854775807]))])))))
def zqz (c:Cur)(s:Cur)(a:Int):Prop:=(∃N,zyU N c=some (AV.agg (zbT s)::[aI a]))/\(s.b=c.b/\0<=s.i)/\(True)
def zgZ (c:Cur)  : Bool:=wC (zqz c)
def zsC (c:Cur)  : Cur:=wS (zqz c)
def zoW (c:Cur)  : Int:=wV (zqz c)
theorem z2f {c:Cur}(h:zgZ c=true):zqz c (zsC c) (zoW c):=wG h
theorem z2h (c:Cur)  : 0<=(zsC c).i:=wP fun h=>h.2.1.2
theorem z2g (c:Cur)(h:∃N,Ends (wE (fun a=>aI a) c.b fun a=>True) (zyU N c)):zgZ c=true:=wI (fun _ _ h=>h) h
def zAs:zdr:=rP0 fun c=>(zgZ c,zsC c,[aI (zoW c)])
theorem zO0:zbN Tryz.prog 141 [false,true,true] zAs:=hP0 zog zU zv5 zn (zo []) (fun _ h=>(z2f h).1)
theorem z6A {c:Cur}(h:zbc c):zgZ c=true:=by
 refine z2g c ⟨0,?_⟩;unfold zyU oN;conv=>zeta
 have q:∀{s:Cur},0<=s.i->zbc {s with b:=c.b}:=fun a=>zbL h a;exact zq (zbt h _) (zq (zbt (q (zF _ _)) _) (zq (zbt (q (zF _ _)) _) (zq (zd6 (q (zF _ _)) (by simp)) (zbF aI (zbP _ _) trivial))))
def zXh (N:Nat)(c:Cur)  : OA :=
 let a:=(zhx c);let d:=(ix a.Mons 0 zi);let g:=({ (zid c) with b:=c.b}:Cur);let e:=(zO g 2);let f:=({e with b:=c.b}:Cur); (oN (zet c) (oN (zcL g 2) (cond (zc0 g 2) (oN (inb 0 (ln a.Mons)) (cond (igt (ln d.Guests) 0) (oN (inb 0 (ln a.Mons)) (oN (zgY f) (oN (inb 0 (ln d.Guests)) (share (up a.Mons 0 ({d with Guests:=(up d.Guests 0 ({ (ix d.Guests 0 zG) with Exit:=(zca f)}:Guest))}:Mon)) (fun j=>(some [(.agg [(.s .u8 c.b),(.i .i64 (zem f).i),(.i .i64 (zem f).h)]),(aH ({a with Mons:=j}:Host))])))))) (some [(.agg [(.s .u8 c.b),(.i .i64 e.i),(.i .i64 e.h)]),(aH a)]))) (some [(.agg [(.s .u8 c.b),(.i .i64 e.i),(.i .i64 e.h)]),(aH a)]))))
def zob (c:Cur)(s:Cur)(a:Host):Prop:=(∃N,zXh N c=some (AV.agg (zbT s)::[aH a]))/\(s.b=c.b/\0<=s.i)/\(AnyH a)
def zHf (c:Cur)  : Bool:=wC (zob c)
def zHg (c:Cur)  : Cur:=wS (zob c)
def zQg (c:Cur)  : Host:=wV (zob c)
theorem zZ0 {c:Cur}(h:zHf c=true):zob c (zHg c) (zQg c):=wG h
def zxL:zdr:=rP0 fun c=>(zHf c,zHg c,[aH (zQg c)])
theorem zL2:zbN Tryz.prog 78 [false,true,true] zxL:=hP0 zog zU zv5 zn (zo []) (fun _ h=>(zZ0 h).1)
def zbf0:zcJ:=[(79,([false,true,true],zDt)),(141,([false,true,true],zAs)),(78,([false,true,true],zxL))]++zbc8
theorem zCo:zb2 zbf0:=zcv zv5 (by
 intro x a;simp only[qG,qN,or_false]at a;rcases a with rfl|rfl|rfl
 .exact zR0
 .exact zO0
 .exact zL2)
def zjq (N:Nat)(f:List Int):OA:=
 (iter (σ:=(Int×(Int×((List Int)×(lM×(lN×(lE×(lE×Unit)))))))) N (fun j a=>let c:=a.2.2.1;let e:=(⟨c,0,a.1⟩:Cur);let d:=({ (zid e) with b:=c}:Cur);let g:=({ (zoX d) with b:=c}:Cur);let i:=(zbm g [0,1,2,5,7,8,(-1)]);let h:=(aI (zbj g [0,1,2,5,7,8,(-1)])); (cond (ilt a.2.1 (ln c)) (cond (ilt a.2.1 4000) (oN (inb a.2.1 (ln c)) (j ((wand .i64 (zK .i64 (zK .i64 (zkV .i64 a.1 131) (wcv .i64 (ix c a.2.1 0))) 7) 1073741823),((zK .i64 a.2.1 1),(c,(a.2.2.2.1,(a.2.2.2.2.1,(a.2.2.2.2.2.1,(a.2.2.2.2.2.2.1,()))))))))) (oN (zet e) (oN (zfG d) (oN i (some [(aH (zhx e)),(aI (zkR d)),h]))))) (oN (zet e) (oN (zfG d) (oN i (some [(aH (zhx e)),(aI (zkR d)),h])))))) ((zK .i64 94701 (ln f)),(0,(f,([],([],([],([],()))))))))
def zHq:FuncId->Nat->Option Tmpl:=zo [(64,0,{n:=32,tm:=[(0,.sl 0 []),(3,ti),(4,ti)],lo:=[(0,[.sl 1 [],.sl 2 [],.sl 3 [],.sl 4 []])],ro:=[(0,.u8,false),(1,(.sl .int),true),(2,.mon,true),(3,.entry,true),(4,.entry,true)],sk:=[(0,2,0,.lp 0 0)]})]
def zm0 (b:List Int)(a:Host)(c:Int)(d:Int):Prop:=(∃N,zjq N b=some [aH a,aI c,aI d])/\(AnyH a)
def zfT (a:List Int):Bool:=uC (T:=Host×Int×Int) (fun r=>zm0 a r.1 r.2.1 r.2.2)
def zoz (a:List Int):Host×Int×Int:=uV (fun r=>zm0 a r.1 r.2.1 r.2.2)
def zjM (a:List Int):Host:=(zoz a).1
def zjN (a:List Int):Int:=(zoz a).2.1
def zjO (a:List Int):Int:=(zoz a).2.2
theorem zwp {a:List Int}(h:zfT a=true):zm0 a (zjM a) (zjN a) (zjO a):=uG h
theorem zML (f:List Int)(h:∃N,Ends (fun a=>∃b c d,a=[aH b,aI c,aI d]/\(AnyH b)) (zjq N f)):zfT f=true:=by obtain⟨N,a,e,b,c,d,rfl,h⟩:=h;exact zbd ⟨(b,c,d),⟨N,e⟩,h⟩
def ztb:Run:=rF1 (dS .u8) fun b=>(zfT b,[aH (zjM b),aI (zjN b),aI (zjO b)])
theorem zFY (a:List Int)(b:zfT a=true):∃N,zjq N a=some [aH (zjM a),aI (zjN a),aI (zjO a)]:=by exact(zwp b).1
theorem zBS:vN 51 ztb:=kF1 zog zU zCo zn zHq zFY
theorem zw9 {a:List Int}(h:a.length<=big):zfT a=true:=by
 refine zML a (zcd fun N b=>?_);unfold zjq oN;conv=>zeta
 refine zw3 h (b h) ((fun i t=>(t,(i:Int),a,[],[],[],[],())):Int->Int->_) (fun rec i t=>by dsimp only) (fun t c=>?_);exact zq (zsV c) (zq (z4a (zzd h (zuU _))) (zq (zd6 (zzd h (zHe _)) (by simp)) ⟨_,rfl,_,_,_,rfl,(zqB (zsV c)).2.2⟩))
def zkY (N:Nat)(i:List Int):OA:=
 (iter (σ:=(Int×(Int×((List Int)×(lM×(lN×(lE×(lE×Unit)))))))) N (fun j a=>let c:=a.2.2.1;let g:=(⟨c,0,a.1⟩:Cur);let f:=({ (zid g) with b:=c}:Cur);let d:=({ (zoX f) with b:=c}:Cur);let e:=({ (ztk d) with b:=c}:Cur);let h:=({ (zsC e) with b:=c}:Cur); (cond (ilt a.2.1 (ln c)) (cond (ilt a.2.1 4000) (oN (inb a.2.1 (ln c)) (j ((wand .i64 (zK .i64 (zK .i64 (zkV .i64 a.1 131) (wcv .i64 (ix c a.2.1 0))) 7) 1073741823),((zK .i64 a.2.1 1),(c,(a.2.2.2.1,(a.2.2.2.2.1,(a.2.2.2.2.2.1,(a.2.2.2.2.2.2.1,()))))))))) (oN (zet g) (oN (zfG f) (oN (zjk d) (oN (zgZ e) (oN (zmR h) (some [(aH (zhx g)),(aI (zkR f)),(aI (zve d)),(aI (zoW e)),(aI (zCI h))]))))))) (oN (zet g) (oN (zfG f) (oN (zjk d) (oN (zgZ e) (oN (zmR h) (some [(aH (zhx g)),(aI (zkR f)),(aI (zve d)),(aI (zoW e)),(aI (zCI h))])))))))) ((zK .i64 94701 (ln i)),(0,(i,([],([],([],([],()))))))))
def zI5:FuncId->Nat->Option Tmpl:=zo [(64,0,{n:=32,tm:=[(0,.sl 0 []),(3,ti),(4,ti)],lo:=[(0,[.sl 1 [],.sl 2 [],.sl 3 [],.sl 4 []])],ro:=[(0,.u8,false),(1,(.sl .int),true),(2,.mon,true),(3,.entry,true),(4,.entry,true)],sk:=[(0,2,0,.lp 0 0)]})]
def zoy (b:List Int)(a:Host)(c:Int)(d:Int)(e:Int)(f:Int):Prop:=(∃N,zkY N b=some [aH a,aI c,aI d,aI e,aI f])/\(AnyH a)
def zgt (a:List Int):Bool:=uC (T:=Host×Int×Int×Int×Int) (fun r=>zoy a r.1 r.2.1 r.2.2.1 r.2.2.2.1 r.2.2.2.2)
def zh7 (a:List Int):Host×Int×Int×Int×Int:=uV (fun r=>zoy a r.1 r.2.1 r.2.2.1 r.2.2.2.1 r.2.2.2.2)
def zk6 (a:List Int):Host:=(zh7 a).1
def zk7 (a:List Int):Int:=(zh7 a).2.1
def zk8 (a:List Int):Int:=(zh7 a).2.2.1
def zk9 (a:List Int):Int:=(zh7 a).2.2.2.1
def zla (a:List Int):Int:=(zh7 a).2.2.2.2
theorem zyb {a:List Int}(h:zgt a=true):zoy a (zk6 a) (zk7 a) (zk8 a) (zk9 a) (zla a):=uG h
theorem zP7 (i:List Int)(h:∃N,Ends (fun a=>∃b c d f g,a=[aH b,aI c,aI d,aI f,aI g]/\(AnyH b)) (zkY N i)):zgt i=true:=by obtain⟨N,a,e,b,c,d,f,g,rfl,h⟩:=h;exact zbd ⟨(b,c,d,f,g),⟨N,e⟩,h⟩
def zup:Run:=rF1 (dS .u8) fun b=>(zgt b,[aH (zk6 b),aI (zk7 b),aI (zk8 b),aI (zk9 b),aI (zla b)])
theorem zIK (a:List Int)(b:zgt a=true):∃N,zkY N a=some [aH (zk6 a),aI (zk7 a),aI (zk8 a),aI (zk9 a),aI (zla a)]:=by exact(zyb b).1
theorem zEi:vN 57 zup:=kF1 zog zU zCo zn zI5 zIK
theorem zzW {a:List Int}(h:a.length<=big):zgt a=true:=by
 refine zP7 a (zcd fun N b=>?_);unfold zkY oN;conv=>zeta
 refine zw3 h (b h) ((fun i t=>(t,(i:Int),a,[],[],[],[],())):Int->Int->_) (fun rec i t=>by dsimp only) (fun t c=>?_);exact zq (zsV c) (zq (z4a (zzd h (zuU _))) (zq (z6E (zzd h (zHe _))) (zq (z6A (zzd h (zU3 _))) (zq (zbf7 (zzd h (z2h _))) ⟨_,rfl,_,_,_,_,_,rfl,(zqB (zsV c)).2.2⟩))))
def zjr (N:Nat)(h:List Int):OA:=
 (iter (σ:=(Int×(Int×((List Int)×(lM×(lN×(lE×(lE×Unit)))))))) N (fun i a=>let c:=a.2.2.1;let f:=(⟨c,0,a.1⟩:Cur);let e:=({ (zid f) with b:=c}:Cur);let d:=({ (zoX e) with b:=c}:Cur);let g:=({ (ztk d) with b:=c}:Cur); (cond (ilt a.2.1 (ln c)) (cond (ilt a.2.1 4000) (oN (inb a.2.1 (ln c)) (i ((wand .i64 (zK .i64 (zK .i64 (zkV .i64 a.1 131) (wcv .i64 (ix c a.2.1 0))) 7) 1073741823),((zK .i64 a.2.1 1),(c,(a.2.2.2.1,(a.2.2.2.2.1,(a.2.2.2.2.2.1,(a.2.2.2.2.2.2.1,()))))))))) (oN (zet f) (oN (zfG e) (oN (zjk d) (oN (zgZ g) (some [(aH (zhx f)),(aI (zkR e)),(aI (zve d)),(aI (zoW g))])))))) (oN (zet f) (oN (zfG e) (oN (zjk d) (oN (zgZ g) (some [(aH (zhx f)),(aI (zkR e)),(aI (zve d)),(aI (zoW g))]))))))) ((zK .i64 94701 (ln h)),(0,(h,([],([],([],([],()))))))))
def zHr:FuncId->Nat->Option Tmpl:=zo [(64,0,{n:=32,tm:=[(0,.sl 0 []),(3,ti),(4,ti)],lo:=[(0,[.sl 1 [],.sl 2 [],.sl 3 [],.sl 4 []])],ro:=[(0,.u8,false),(1,(.sl .int),true),(2,.mon,true),(3,.entry,true),(4,.entry,true)],sk:=[(0,2,0,.lp 0 0)]})]
def zm1 (b:List Int)(a:Host)(c:Int)(d:Int)(e:Int):Prop:=(∃N,zjr N b=some [aH a,aI c,aI d,aI e])/\(AnyH a)
def zfU (a:List Int):Bool:=uC (T:=Host×Int×Int×Int) (fun r=>zm1 a r.1 r.2.1 r.2.2.1 r.2.2.2)
def zjT (a:List Int):Host×Int×Int×Int:=uV (fun r=>zm1 a r.1 r.2.1 r.2.2.1 r.2.2.2)
def zjP (a:List Int):Host:=(zjT a).1
def zjQ (a:List Int):Int:=(zjT a).2.1
def zjR (a:List Int):Int:=(zjT a).2.2.1
def zjS (a:List Int):Int:=(zjT a).2.2.2
theorem zwq {a:List Int}(h:zfU a=true):zm1 a (zjP a) (zjQ a) (zjR a) (zjS a):=uG h
theorem zMM (g:List Int)(h:∃N,Ends (fun a=>∃b c d f,a=[aH b,aI c,aI d,aI f]/\(AnyH b)) (zjr N g)):zfU g=true:=by obtain⟨N,a,e,b,c,d,f,rfl,h⟩:=h;exact zbd ⟨(b,c,d,f),⟨N,e⟩,h⟩
def ztc:Run:=rF1 (dS .u8) fun b=>(zfU b,[aH (zjP b),aI (zjQ b),aI (zjR b),aI (zjS b)])
theorem zFZ (a:List Int)(b:zfU a=true):∃N,zjr N a=some [aH (zjP a),aI (zjQ a),aI (zjR a),aI (zjS a)]:=by exact(zwq b).1
theorem zBT:vN 60 ztc:=kF1 zog zU zCo zn zHr zFZ
theorem zxa {a:List Int}(h:a.length<=big):zfU a=true:=by
 refine zMM a (zcd fun N b=>?_);unfold zjr oN;conv=>zeta
 refine zw3 h (b h) ((fun i t=>(t,(i:Int),a,[],[],[],[],())):Int->Int->_) (fun rec i t=>by dsimp only) (fun t c=>?_);exact zq (zsV c) (zq (z4a (zzd h (zuU _))) (zq (z6E (zzd h (zHe _))) (zq (z6A (zzd h (zU3 _))) ⟨_,rfl,_,_,_,_,rfl,(zqB (zsV c)).2.2⟩)))
def zbb4:zX:=zbb3
theorem zXG:zL zbb4:=zog
def zkX (N:Nat)(a:List Int):OA:=
 (oN (zhP a) (some [(aH (znY a)),(aI (znZ a))]))
def zox (b:List Int)(a:Host)(c:Int):Prop:=(∃N,zkX N b=some [aH a,aI c])/\(AnyH a)
def zgs (a:List Int):Bool:=uC (T:=Host×Int) (fun r=>zox a r.1 r.2)
def zya (a:List Int):Host×Int:=uV (fun r=>zox a r.1 r.2)
def zk4 (a:List Int):Host:=(zya a).1
def zk5 (a:List Int):Int:=(zya a).2
theorem zx9 {a:List Int}(h:zgs a=true):zox a (zk4 a) (zk5 a):=uG h
theorem zP6 (d:List Int)(h:∃N,Ends (fun a=>∃b c,a=[aH b,aI c]/\(AnyH b)) (zkX N d)):zgs d=true:=by obtain⟨N,a,e,b,c,rfl,h⟩:=h;exact zbd ⟨(b,c),⟨N,e⟩,h⟩
def zuo:Run:=rF1 (dS .u8) fun b=>(zgs b,[aH (zk4 b),aI (zk5 b)])
theorem zIJ (a:List Int)(b:zgs a=true):∃N,zkX N a=some [aH (zk4 a),aI (zk5 a)]:=by exact(zx9 b).1
theorem zEh:vN 54 zuo:=kF1 zXG zU zCo zn (zo []) zIJ
theorem zzV {a:List Int}(h:a.length<=big):zgs a=true:=by refine zP6 a ⟨0,?_⟩;unfold zkX oN;exact zq (z3l h) ⟨_,rfl,_,_,rfl,(zDZ (z3l h)).2⟩
def zbb5:zX:=[(51,ztb),(57,zup),(60,ztc),(54,zuo)]++zbb4
theorem zXH:zL zbb5:=zh zBS (zh zEi (zh zBT (zh zEh zXG)))
def zgg (x y:List Int):Bool:=pc (x=y)
def zgM (_ _:List Int):Bool:=true
def zAM:Run:=rF2 (dS .int) (dS .int) fun b c=>(zgg b c,[aB (zgM b c)])
def zEN (N:Nat)(b c:List Int):OA:=
 (cond (ine (ln b) (ln c)) oF (iter (σ:=(Int×((List Int)×((List Int)×Unit)))) N (fun d a=>(cond (ilt a.1 (ln a.2.1)) (oN (inb a.1 (ln a.2.1)) (oN (inb a.1 (ln a.2.2.1)) (cond (ine (ix a.2.1 a.1 0) (ix a.2.2.1 a.1 0)) oF (d ((zK .i64 a.1 1),(a.2.1,(a.2.2.1,()))))))) oT)) (0,(b,(c,())))))
def zTs:FuncId->Nat->Option Tmpl:=zo [(33,0,{n:=26,tm:=[(0,.sl 0 []),(1,.sl 1 []),(5,ti)],lo:=[],ro:=[(0,.int,false),(1,.int,false)]})]
theorem zSv (a b:List Int)(d:zce big [aS .int a,aS .int b])(e:zgg a b=true):∃N,zEN N a b=some [aB (zgM a b)]:=by have:=zM.1 e;subst this;have f:=(len0 d);refine⟨a.length+1,?_⟩;unfold zEN oN;rw[zdj];refine zmd a zbgd _ _ f (fun i c rec=>?_) (fun rec=>?_) (j3 _);{simp only [zbA c,zbh c,zbo c,zq9,zdj,zd4,zdO,cT,cF,jU,jX]};{simp only [zbq,cF,zgM]}
theorem zLG:vN 33 zAM:=hF2 zdR zU zy zn zTs zSv
def zhM (x y:List Bool):Bool:=pc (x=y)
def zir (_ _:List Bool):Bool:=true
def zxV:Run:=rF2 (dS .bool) (dS .bool) fun b c=>(zhM b c,[aB (zir b c)])
def zC3 (N:Nat)(b c:lB):OA:=
 (cond (ine (ln b) (ln c)) oF (iter (σ:=(Int×(lB×(lB×Unit)))) N (fun d a=>(cond (ilt a.1 (ln a.2.1)) (oN (inb a.1 (ln a.2.1)) (oN (inb a.1 (ln a.2.2.1)) (cond (nB (ziI (ix a.2.1 a.1 false) (ix a.2.2.1 a.1 false))) oF (d ((zK .i64 a.1 1),(a.2.1,(a.2.2.1,()))))))) oT)) (0,(b,(c,())))))
def zQF:FuncId->Nat->Option Tmpl:=zo [(268,0,{n:=26,tm:=[(0,.sl 0 []),(1,.sl 1 []),(5,ti)],lo:=[],ro:=[(0,.bool,false),(1,.bool,false)]})]
theorem zPn (a b:List Bool)(d:zce big [aS .bool a,aS .bool b])(e:zhM a b=true):∃N,zC3 N a b=some [aB (zir a b)]:=by have:=zM.1 e;subst this;have f:=(len0 d);refine⟨a.length+1,?_⟩;unfold zC3 oN nB;rw[zdj];refine zmd a zbfE _ _ f (fun i c rec=>?_) (fun rec=>?_) (j3 _);{simp only [zbA c,zbh c,zbo c,zq9,zdj,zd4,zdO,cT,cF,jU,jX]};{simp only [zbq,cF,zir]}
theorem zIh:vN 268 zxV:=hF2 zdR zU zy zn zQF zPn
def zeK (x y:List Slot):Bool:=pc (x=y)
def ze5 (_ _:List Slot):Bool:=true
def zxZ:Run:=rF2 (dS .slot) (dS .slot) fun b c=>(zeK b c,[aB (ze5 b c)])
def zC7 (N:Nat)(b c:lS):OA:=
 (cond (ine (ln b) (ln c)) oF (iter (σ:=(Int×(lS×(lS×Unit)))) N (fun f a=>let e:=(ix a.2.1 a.1 zV);let d:=(ix a.2.2.1 a.1 zV); (cond (ilt a.1 (ln a.2.1)) (oN (inb a.1 (ln a.2.1)) (oN (inb a.1 (ln a.2.2.1)) (cond (nB (cond (ieq e.Page d.Page) (ieq e.Rights d.Rights) false)) oF (f ((zK .i64 a.1 1),(a.2.1,(a.2.2.1,()))))))) oT)) (0,(b,(c,())))))
def zQI:FuncId->Nat->Option Tmpl:=zo [(267,0,{n:=26,tm:=[(0,.sl 0 []),(1,.sl 1 []),(5,ti)],lo:=[],ro:=[(0,.slot,false),(1,.slot,false)]})]
theorem zPr (a b:List Slot)(d:zce big [aS .slot a,aS .slot b])(e:zeK a b=true):∃N,zC7 N a b=some [aB (ze5 a b)]:=by
 have:=zM.1 e;subst this;have f:=(len0 d);refine⟨a.length+1,?_⟩;unfold zC7 oN nB;conv=>zeta
 rw[zdj];refine zmd a zV _ _ f (fun i c rec=>?_) (fun rec=>?_) (j3 _);{simp only [zbA c,zbh c,zbo c,zq9,zdj,zd4,zdO,cT,cF,jU,jX]};{simp only [zbq,cF,ze5]}
theorem zIl:vN 267 zxZ:=hF2 zdR zU zy zn zQI zPr
def ziT (x y:List Entry):Bool:=pc (x=y)
def ziS (_ _:List Entry):Bool:=true
def zwe:Run:=rF2 (dS .entry) (dS .entry) fun b c=>(ziT b c,[aB (ziS b c)])
def zzF (N:Nat)(d e:lE):OA:=
 (cond (ine (ln d) (ln e)) oF (iter (σ:=(Int×(lE×(lE×Unit)))) N (fun f a=>let c:=(ix a.2.1 a.1 zew);let b:=(ix a.2.2.1 a.1 zew); (cond (ilt a.1 (ln a.2.1)) (oN (inb a.1 (ln a.2.1)) (oN (inb a.1 (ln a.2.2.1)) (cond (nB (cond (ieq c.Tag b.Tag) (cond (ieq c.Page b.Page) (cond (ieq c.Host b.Host) (ieq c.Rights b.Rights) false) false) false)) oF (f ((zK .i64 a.1 1),(a.2.1,(a.2.2.1,()))))))) oT)) (0,(d,(e,())))))
def zMY:FuncId->Nat->Option Tmpl:=zo [(98,0,{n:=26,tm:=[(0,.sl 0 []),(1,.sl 1 []),(5,ti)],lo:=[],ro:=[(0,.entry,false),(1,.entry,false)]})]
theorem zMg (a b:List Entry)(d:zce big [aS .entry a,aS .entry b])(e:ziT a b=true):∃N,zzF N a b=some [aB (ziS a b)]:=by
 have:=zM.1 e;subst this;have f:=(len0 d);refine⟨a.length+1,?_⟩;unfold zzF oN nB;conv=>zeta
 rw[zdj];refine zmd a zew _ _ f (fun i c rec=>?_) (fun rec=>?_) (j3 _);{simp only [zbA c,zbh c,zbo c,zq9,zdj,zd4,zdO,cT,cF,jU,jX]};{simp only [zbq,cF,ziS]}
theorem zFD:vN 98 zwe:=hF2 zdR zU zy zn zMY zMg
def zpA (x y:List Ins):Bool:=pc (x=y)
def zpz (_ _:List Ins):Bool:=true
def zAL:Run:=rF2 (dS .ins) (dS .ins) fun b c=>(zpA b c,[aB (zpz b c)])
def zEM (N:Nat)(b c:lI):OA:=
 (cond (ine (ln b) (ln c)) oF (iter (σ:=(Int×(lI×(lI×Unit)))) N (fun f a=>let e:=(ix a.2.1 a.1 zyM);let d:=(ix a.2.2.1 a.1 zyM); (cond (ilt a.1 (ln a.2.1)) (oN (inb a.1 (ln a.2.1)) (oN (inb a.1 (ln a.2.2.1)) (cond (nB (cond (ieq e.Op d.Op) (ieq e.X d.X) false)) oF (f ((zK .i64 a.1 1),(a.2.1,(a.2.2.1,()))))))) oT)) (0,(b,(c,())))))
def zTr:FuncId->Nat->Option Tmpl:=zo [(328,0,{n:=26,tm:=[(0,.sl 0 []),(1,.sl 1 []),(5,ti)],lo:=[],ro:=[(0,.ins,false),(1,.ins,false)]})]
theorem zSu (a b:List Ins)(d:zce big [aS .ins a,aS .ins b])(e:zpA a b=true):∃N,zEM N a b=some [aB (zpz a b)]:=by
 have:=zM.1 e;subst this;have f:=(len0 d);refine⟨a.length+1,?_⟩;unfold zEM oN nB;conv=>zeta
 rw[zdj];refine zmd a zyM _ _ f (fun i c rec=>?_) (fun rec=>?_) (j3 _);{simp only [zbA c,zbh c,zbo c,zq9,zdj,zd4,zdO,cT,cF,jU,jX]};{simp only [zbq,cF,zpz]}
theorem zLF:vN 328 zAL:=hF2 zdR zU zy zn zTr zSu
def z7n:zX:=[(33,zAM),(268,zxV),(267,zxZ),(98,zwe),(328,zAL)]++zQ0
theorem zw7:zL z7n:=zh zLG (zh zIh (zh zIl (zh zFD (zh zLF zdR))))
def zhN (x y:List (List Int)):Bool:=pc (x=y)
def zis (_ _:List (List Int)):Bool:=true
def zxY:Run:=rF2 (dS (.sl .int)) (dS (.sl .int)) fun b c=>(zhN b c,[aB (zis b c)])
def zC6 (N:Nat)(b:lM)(c:lM):OA:=
 (cond (ine (ln b) (ln c)) oF (iter (σ:=(Int×(lM×(lM×Unit)))) N (fun d a=>(cond (ilt a.1 (ln a.2.1)) (oN (inb a.1 (ln a.2.1)) (oN (inb a.1 (ln a.2.2.1)) (oN (zgg (ix a.2.1 a.1 []) (ix a.2.2.1 a.1 [])) (cond (nB (zgM (ix a.2.1 a.1 []) (ix a.2.2.1 a.1 []))) oF (d ((zK .i64 a.1 1),(a.2.1,(a.2.2.1,())))))))) oT)) (0,(b,(c,())))))
def zQH:FuncId->Nat->Option Tmpl:=zo [(96,0,{n:=27,tm:=[(0,.sl 0 []),(1,.sl 1 []),(5,ti)],lo:=[],ro:=[(0,(.sl .int),false),(1,(.sl .int),false)]})]
theorem zPq (a:List (List Int))(b:List (List Int))(d:zce big [aS (.sl .int) a,aS (.sl .int) b])(e:zhN a b=true):∃N,zC6 N a b=some [aB (zis a b)]:=by have:=zM.1 e;subst this;have f:=(len0 d);refine⟨a.length+1,?_⟩;unfold zC6 oN nB;rw[zdj];refine zmd a (Ty.dflt (.sl .int)) _ _ f (fun i c rec=>?_) (fun rec=>?_) (j3 _);{simp only [zbA c,zbh c,zbo c,zgg,zgM,zq9,zdj,zd4,zdO,cT,cF,jU,jX]};{simp only [zbq,cF,zis]}
theorem zIk:vN 96 zxY:=hF2 zw7 zU zy zn zQH zPq
def zpC (x y:Kept):Bool:=pc (x=y)
def zpB (_ _:Kept):Bool:=true
def zAN:Run:=rF2 (dT .kept) (dT .kept) fun b c=>(zpC b c,[aB (zpB b c)])
def zEO (N:Nat)(a b:Kept):OA:=
 (oN (zhM a.Known b.Known) (cond (zir a.Known b.Known) (oN (zeK a.Slots b.Slots) (some [(aB (ze5 a.Slots b.Slots))])) oF))
theorem zSw (a b:Kept)(c:zpC a b=true):∃N,zEO N a b=some [aB (zpB a b)]:=by have:=zM.1 c;subst this;refine⟨0,?_⟩;simp only[zEO,zhM,zir,zeK,ze5,zq9,zdj,zd4,zdO,cT,cF,jU,jX,zpB]
theorem zLH:vN 310 zAN:=kF2 zw7 zU zy zn (zo []) zSw
def znR (x y:Guest):Bool:=pc (x=y)
def znh (_ _:Guest):Bool:=true
def zxW:Run:=rF2 (dT .guest) (dT .guest) fun b c=>(znR b c,[aB (znh b c)])
def zC4 (N:Nat)(a b:Guest):OA:=
 (oN (zpA a.Prog b.Prog) (cond (zpz a.Prog b.Prog) (cond (ieq a.A b.A) (cond (ieq a.Pc b.Pc) (oN (zeK a.Written b.Written) (cond (ze5 a.Written b.Written) (oN (zeK a.Live b.Live) (cond (ze5 a.Live b.Live) (cond (cond (ieq a.Ctl.Traps b.Ctl.Traps) (cond (ieq a.Ctl.Post b.Ctl.Post) (ziI a.Ctl.Open b.Ctl.Open) false) false) (cond (ieq a.Pending b.Pending) (cond (cond (ieq a.Exit.Kind b.Exit.Kind) (cond (ieq a.Exit.Page b.Exit.Page) (cond (ziI a.Exit.Write b.Exit.Write) (ieq a.Exit.N b.Exit.N) false) false) false) (cond (ziI a.Halted b.Halted) (oN (zgg a.Seen b.Seen) (some [(aB (zgM a.Seen b.Seen))])) oF) oF) oF) oF) oF)) oF)) oF) oF) oF))
theorem zPo (a b:Guest)(c:znR a b=true):∃N,zC4 N a b=some [aB (znh a b)]:=by have:=zM.1 c;subst this;refine⟨0,?_⟩;simp only[zC4,zpA,zpz,zeK,ze5,zgg,zgM,zq9,zdj,zd4,zdO,cT,cF,jU,jX,znh]
theorem zIi:vN 309 zxW:=kF2 zw7 zU zy zn (zo []) zPo
def z7o:zX:=[(96,zxY),(310,zAN),(309,zxW)]++z7n
theorem zFp:zL z7o:=zh zIk (zh zLH (zh zIi zw7))
def znS (x y:List Kept):Bool:=pc (x=y)
def zni (_ _:List Kept):Bool:=true
def zxX:Run:=rF2 (dS .kept) (dS .kept) fun b c=>(znS b c,[aB (zni b c)])
def zC5 (N:Nat)(b c:lK):OA:=
 (cond (ine (ln b) (ln c)) oF (iter (σ:=(Int×(lK×(lK×Unit)))) N (fun f a=>let e:=(ix a.2.1 a.1 zd9);let d:=(ix a.2.2.1 a.1 zd9); (cond (ilt a.1 (ln a.2.1)) (oN (inb a.1 (ln a.2.1)) (oN (inb a.1 (ln a.2.2.1)) (oN (zpC e d) (cond (nB (zpB e d)) oF (f ((zK .i64 a.1 1),(a.2.1,(a.2.2.1,())))))))) oT)) (0,(b,(c,())))))
def zQG:FuncId->Nat->Option Tmpl:=zo [(270,0,{n:=27,tm:=[(0,.sl 0 []),(1,.sl 1 []),(5,ti)],lo:=[],ro:=[(0,.kept,false),(1,.kept,false)]})]
theorem zPp (a b:List Kept)(d:zce big [aS .kept a,aS .kept b])(e:znS a b=true):∃N,zC5 N a b=some [aB (zni a b)]:=by
 have:=zM.1 e;subst this;have f:=(len0 d);refine⟨a.length+1,?_⟩;unfold zC5 oN nB;conv=>zeta
 rw[zdj];refine zmd a zd9 _ _ f (fun i c rec=>?_) (fun rec=>?_) (j3 _);{simp only [zbA c,zbh c,zbo c,zpC,zpB,zq9,zdj,zd4,zdO,cT,cF,jU,jX]};{simp only [zbq,cF,zni]}
theorem zIj:vN 270 zxX:=hF2 zFp zU zy zn zQG zPp
def zmo (x y:List Guest):Bool:=pc (x=y)
def zlA (_ _:List Guest):Bool:=true
def zwf:Run:=rF2 (dS .guest) (dS .guest) fun b c=>(zmo b c,[aB (zlA b c)])
def zzG (N:Nat)(b c:lG):OA:=
 (cond (ine (ln b) (ln c)) oF (iter (σ:=(Int×(lG×(lG×Unit)))) N (fun f a=>let e:=(ix a.2.1 a.1 zG);let d:=(ix a.2.2.1 a.1 zG); (cond (ilt a.1 (ln a.2.1)) (oN (inb a.1 (ln a.2.1)) (oN (inb a.1 (ln a.2.2.1)) (oN (znR e d) (cond (nB (znh e d)) oF (f ((zK .i64 a.1 1),(a.2.1,(a.2.2.1,())))))))) oT)) (0,(b,(c,())))))
def zMZ:FuncId->Nat->Option Tmpl:=zo [(269,0,{n:=27,tm:=[(0,.sl 0 []),(1,.sl 1 []),(5,ti)],lo:=[],ro:=[(0,.guest,false),(1,.guest,false)]})]
theorem zMh (a b:List Guest)(d:zce big [aS .guest a,aS .guest b])(e:zmo a b=true):∃N,zzG N a b=some [aB (zlA a b)]:=by
 have:=zM.1 e;subst this;have f:=(len0 d);refine⟨a.length+1,?_⟩;unfold zzG oN nB;conv=>zeta
 rw[zdj];refine zmd a zG _ _ f (fun i c rec=>?_) (fun rec=>?_) (j3 _);{simp only [zbA c,zbh c,zbo c,znR,znh,zq9,zdj,zd4,zdO,cT,cF,jU,jX]};{simp only [zbq,cF,zlA]}
theorem zFE:vN 269 zwf:=hF2 zFp zU zy zn zMZ zMh
def z7p:zX:=[(270,zxX),(269,zwf)]++z7o
theorem zUu:zL z7p:=zh zIj (zh zFE zFp)
def zr2 (x y:Mon):Bool:=pc (x=y)
def zs6 (_ _:Mon):Bool:=true
def zDD:Run:=rF2 (dT .mon) (dT .mon) fun b c=>(zr2 b c,[aB (zs6 b c)])
def zJg (N:Nat)(a b:Mon):OA:=
 (oN (zeK a.Outer b.Outer) (cond (ze5 a.Outer b.Outer) (oN (zhN a.Out b.Out) (cond (zis a.Out b.Out) (oN (zhM a.Dirty b.Dirty) (cond (zir a.Dirty b.Dirty) (oN (zmo a.Guests b.Guests) (cond (zlA a.Guests b.Guests) (oN (zgg a.Outs b.Outs) (cond (zgM a.Outs b.Outs) (cond (ieq a.Pending b.Pending) (cond (ieq a.Traps b.Traps) (oN (znS a.Tables b.Tables) (cond (zni a.Tables b.Tables) (some [(aB (ieq a.Own b.Own))]) oF)) oF) oF) oF)) oF)) oF)) oF)) oF))
theorem zVT (a b:Mon)(c:zr2 a b=true):∃N,zJg N a b=some [aB (zs6 a b)]:=by have:=zM.1 c;subst this;refine⟨0,?_⟩;simp only[zJg,zeK,ze5,zhN,zis,zhM,zir,zmo,zlA,zgg,zgM,znS,zni,zq9,zdj,zd4,zdO,cT,cF,jU,jX,zs6]
theorem zOy:vN 197 zDD:=kF2 zUu zU zy zn (zo []) zVT
def z7q:zX:=[(197,zDD)]++z7p
theorem zUv:zL z7q:=zh zOy zUu
def zpE (x y:List Mon):Bool:=pc (x=y)
def zpD (_ _:List Mon):Bool:=true
def zAO:Run:=rF2 (dS .mon) (dS .mon) fun b c=>(zpE b c,[aB (zpD b c)])
def zEP (N:Nat)(b c:lN):OA:=
 (cond (ine (ln b) (ln c)) oF (iter (σ:=(Int×(lN×(lN×Unit)))) N (fun f a=>let e:=(ix a.2.1 a.1 zi);let d:=(ix a.2.2.1 a.1 zi); (cond (ilt a.1 (ln a.2.1)) (oN (inb a.1 (ln a.2.1)) (oN (inb a.1 (ln a.2.2.1)) (oN (zr2 e d) (cond (nB (zs6 e d)) oF (f ((zK .i64 a.1 1),(a.2.1,(a.2.2.1,())))))))) oT)) (0,(b,(c,())))))
def zTt:FuncId->Nat->Option Tmpl:=zo [(97,0,{n:=27,tm:=[(0,.sl 0 []),(1,.sl 1 []),(5,ti)],lo:=[],ro:=[(0,.mon,false),(1,.mon,false)]})]
theorem zSx (a b:List Mon)(d:zce big [aS .mon a,aS .mon b])(e:zpE a b=true):∃N,zEP N a b=some [aB (zpD a b)]:=by
 have:=zM.1 e;subst this;have f:=(len0 d);refine⟨a.length+1,?_⟩;unfold zEP oN nB;conv=>zeta
 rw[zdj];refine zmd a zi _ _ f (fun i c rec=>?_) (fun rec=>?_) (j3 _);{simp only [zbA c,zbh c,zbo c,zr2,zs6,zq9,zdj,zd4,zdO,cT,cF,jU,jX]};{simp only [zbq,cF,zpD]}
theorem zLI:vN 97 zAO:=hF2 zUv zU zy zn zTt zSx
def zbe2:zX:=[(97,zAO)]++z7q
theorem z7r:zL zbe2:=zh zLI zUv
def ziU (x y:Host):Bool:=pc (x=y)
def zjF (_ _:Host):Bool:=true
def zAK:Run:=rF2 dH dH fun b c=>(ziU b c,[aB (zjF b c)])
def zEL (N:Nat)(a b:Host):OA:=
 (oN (zhN a.Memory b.Memory) (cond (zis a.Memory b.Memory) (oN (zpE a.Mons b.Mons) (cond (zpD a.Mons b.Mons) (oN (ziT a.Buffer b.Buffer) (cond (ziS a.Buffer b.Buffer) (oN (ziT a.IoBuffer b.IoBuffer) (some [(aB (ziS a.IoBuffer b.IoBuffer))])) oF)) oF)) oF))
theorem zSt (a b:Host)(c:ziU a b=true):∃N,zEL N a b=some [aB (zjF a b)]:=by have:=zM.1 c;subst this;refine⟨0,?_⟩;simp only[zEL,zhN,zis,zpE,zpD,ziT,ziS,zq9,zdj,zd4,zdO,cT,cF,jU,jX,zjF]
theorem zLE:vN 24 zAK:=kF2 z7r zU zy zn (zo []) zSt
def zbcv:zX:=[(148,zzg),(34,zwn)]++zQ0
theorem zbab:zL zbcv:=zh zDl (zh zz4 zdR)
def zbcw:zX:=zbcv
theorem zbac:zL zbcw:=zbab
def zbcx:zX:=zbcw
theorem zbad:zL zbcx:=zbac
def zbcy:zX:=zbcx
theorem zbae:zL zbcy:=zbad
def zbfM:zX:=zbcy
theorem zbaf:zL zbfM:=zbae
@[simp] abbrev zCz (h:Host)(m:Int):Bool:=pc (zcc h)
@[simp] abbrev zwz (h:Host)(m:Int):Bare:=zD h m
def zGR:Run:=rF2 dH dI fun b c=>(zCz b c,[aT .bare (zwz b c)])
def zNF (N:Nat)(b:Host)(c:Int):OA:=
 (oN (zG9 b c) (cond (nB (zth b c)) (some [(aT .bare (⟨[],[],[],0⟩:Bare))]) (iter (σ:=(Int×(Int×(Int×(Int×(lM×(lN×(lE×(lE×(lM×(lG×((List Int)×(lM×(lG×((List Int)×Unit))))))))))))))) N (fun h a=>let g:=a.2.2.2.2.2.2.2.2.2.2.2.2.1;let f:=a.2.2.2.2.2.2.2.2.2.2.2.2.2.1;let d:=(⟨a.2.2.2.2.1,a.2.2.2.2.2.1,a.2.2.2.2.2.2.1,a.2.2.2.2.2.2.2.1⟩:Host);let e:=(ap a.2.2.2.2.2.2.2.2.2.2.2.1 [(zCv d a.1 a.2.1)]); (cond (ilt a.2.1 8) (oN (zCw d a.1 a.2.1) (oN (few (ln e)) (h (a.1,((zK .i64 a.2.1 1),(a.2.2.1,(a.2.2.2.1,(a.2.2.2.2.1,(a.2.2.2.2.2.1,(a.2.2.2.2.2.2.1,(a.2.2.2.2.2.2.2.1,(a.2.2.2.2.2.2.2.2.1,(a.2.2.2.2.2.2.2.2.2.1,(a.2.2.2.2.2.2.2.2.2.2.1,(e,(g,(f,()))))))))))))))))) (some [(aT .bare (⟨a.2.2.2.2.2.2.2.2.2.2.2.1,g,f,a.2.2.2.1⟩:Bare))]))) (c,(0,(0,((zeZ b c).Pending,(b.Memory,(b.Mons,(b.Buffer,(b.IoBuffer,([],([],([],([],((zeZ b c).Guests,((zeZ b c).Outs,())))))))))))))))))
def z0C:FuncId->Nat->Option Tmpl:=zo [(63,0,{n:=39,tm:=[(1,ti),(2,.lp 0 0),(4,.lp 1 0),(7,.lp 2 0),(8,ti)],lo:=[(0,[.sl 0 [],.sl 1 [],.sl 2 [],.sl 3 []]),(1,[.sl 4 [],.sl 5 [],.sl 6 [],ti]),(2,[.sl 7 [],.sl 8 [],.sl 9 [],ti])],ro:=[(0,(.sl .int),false),(1,.mon,false),(2,.entry,false),(3,.entry,false),(4,(.sl .int),true),(5,.guest,true),(6,.int,true),(7,(.sl .int),true),(8,.guest,true),(9,.int,true)]})]
theorem zYX (a:Host)(b:Int)(f:zCz a b=true):∃N,zNF N a b=some [aT .bare (zwz a b)]:=by
 have e:=zM.1 f;refine zcd fun N d=>?_;unfold zNF zwz zD oN nB;conv=>zeta
 refine must (zbz e) ?_;rw[show zth a b=hasB b (ln a.Mons) from rfl];cases g:hasB b (ln a.Mons);{rfl};{refine zcS rfl ?_;refine(zvZ 8 (fun i (t:lM)=>(b,(i:Int),0,(zeZ a b).Pending,a.Memory,a.Mons,a.Buffer,a.IoBuffer,[],[],[],t,(zeZ a b).Guests,(zeZ a b).Outs,())) _ (fun i (c:List (List Int)) j=>bif few (ln (ap c [zcq a b (i:Int)])) then j (ap c [zcq a b (i:Int)]) else none) (fun (t:lM)=>(some [(.agg (Ty.cells .bare (⟨t,(zeZ a b).Guests,(zeZ a b).Outs,(zeZ a b).Pending⟩:Bare)))])) (fun i h t rec=>?_) (fun t rec=>?_) _ ([]) (d (by decide))).trans ?_;{simp only [show ilt (i:Int) 8=true from qJ (by omega),zbg h (show 8<=big by decide),cT];exact must (zbz e) rfl};{simp only [show ilt (((8:Nat)):Int) 8=false from qH (by omega),cF]};rw[zFx a b _ 8 0 [] (by decide)];simp only[zeZ,g,cT,jP]}
theorem zRL:vN 63 zGR:=kF2 zbaf zU zy zn z0C zYX
theorem zZe {d b:Type}{f:d->b}{l:List d}{x:b}{c:List b}(h:l.map f=x::c):∃a r,l=a::r/\f a=x/\r.map f=c:=by cases l with|nil=>cases h|cons a r=>simp only[jD,List.cons.injEq]at h;exact⟨a,r,rfl,h.1,h.2⟩
theorem zbfx {a:AV}{b:CTy}(h:some a.sh=some (false,[b])):∃c,a = .one c/\c.ty=b:=by cases a with|one c=>simp only[AV.sh,qC,jS,List.cons.injEq,and_true,true_and]at h;exact⟨c,rfl,h⟩|agg l=>simp[AV.sh]at h
theorem sh_s {a:AV}{t:Ty}(h:some a.sh=some (false,[.s t])):∃l:List t.den,a = .one (.s t l):=by obtain⟨c,rfl,b⟩:=zbfx h;obtain⟨l,rfl⟩:=zma b;exact⟨l,rfl⟩
section
open Go Go.ChangeShapes Go.WideShapes Go.ChangeAt
abbrev zSb (_:List Int):Bool:=true
abbrev zPd (l:List Int):Bool:=igt (ln l) 1048576
def zUZ:Run:=rF1 (dS .u8) fun b=>(zSb b,[aB (zPd b)])
def z2F (N:Nat)(a:List Int):OA:=
 (some [(aB (igt (ln a) 1048576))])
theorem z7X (a:List Int)(b:zSb a=true):∃N,z2F N a=some [aB (zPd a)]:=by refine⟨0,?_⟩;unfold z2F;first|rfl|(simp only [*,zPd,cT,cF]<;>rfl)|simp_all[Ty.cells,zPd]
theorem z1g:vN 7 zUZ:=kF1 zXH zU zy zn (zo []) z7X
def zbcj:zX:=[(7,zUZ),(24,zAK),(52,zrf),(53,zrj),(55,ztN),(56,ztT),(58,ztO),(59,ztV),(61,zrg),(62,zrk),(23,ztW),(63,zGR)]++zbb5
theorem z96:zL zbcj:=zh z1g (zh zLE (zh zvD (zh zvH (zh zxl (zh zxr (zh zxm (zh zxt (zh zvE (zh zvI (zh zxu (zh zRL zXH)))))))))))
def znM (N:Nat)(a:List Int):OA:=
 let h:=(zla a);let g:=(zk9 a);let f:=(zk8 a);let e:=(zk7 a);let d:=(zk6 a);let c:=(zjO a);let b:=(zjN a);let p:=(zjM a);let s:=(zny d e f g h);let r:=(zrY d e f g h);let n:=(zjS a);let m:=(zjR a);let l:=(zjQ a);let k:=(zjP a);let j:=(zk5 a);let i:=(zk4 a);let q:=(zef [[[(⟨7,0⟩:Ins)]]]); (oN (zSb a) (cond (zPd a) oT (oN (zfT a) (oN (zpo p b c) (oN (zp4 p b c) (oN (zgs a) (oN (zy5 i j) (oN (zsd i j) (oN (zgt a) (oN (zy6 d e f g h) (oN (zsh d e f g h) (oN (zfU a) (oN (zvQ k l m n) (oN (zp5 k l m n) (oN (zsi [[[(⟨7,0⟩:Ins)]]]) (oN (zpo q 0 5) (cond (ziI (ziN p b c) (zlO p b c)) (oN (ziU (zfi p b c) (zi4 p b c)) (cond (zjF (zfi p b c) (zi4 p b c)) (cond (ieq (zrW i j) (znu i j)) (cond (ziI (zrX i j) (znv i j)) (oN (ziU (zna i j) (zkM i j)) (cond (zjF (zna i j) (zkM i j)) (cond (ziI (zrZ d e f g h) (znz d e f g h)) (oN (ziU r s) (cond (zjF r s) (cond (ieq (zpp k l m n) (zlP k l m n)) (cond (ziI (zpq k l m n) (zlQ k l m n)) (oN (ziU (zlw k l m n) (zi5 k l m n)) (cond (zjF (zlw k l m n) (zi5 k l m n)) (cond (ziN q 0 5) (oN (zCz (zfi q 0 5) 0) (some [(aB (ieq (zwz (zfi q 0 5) 0).Pending 32))])) oF) oF)) oF) oF) oF)) oF) oF)) oF) oF) oF)) oF)))))))))))))))))
theorem zS4 (N:Nat)(a:List Int):evalFn (cQ zbcj mct0 zMx z0j) (zo []) N 12 6 [aS .u8 a]=znM N a:=by kernel_rfl
theorem zbfr:(ziN (zef [[[(⟨7,0⟩:Ins)]]]) 0 5&&ieq (zwz (zfi (zef [[[(⟨7,0⟩:Ins)]]]) 0 5) 0).Pending 32)=true:=by kernel_rfl
theorem zbc9:zHy [[[(⟨7,0⟩:Ins)]]]:=⟨by simp,by
 intro p a;rw[qF.1 a];exact⟨by simp,fun q b=>by rw[qF.1 b];simp⟩⟩
theorem zLi (N:Nat)(m:List Int)(d:m.length<=big):Ends (fun a=>a=[.one (.b true)]) (znM N m):=by
 unfold znM oN;conv=>zeta
 have sm:∀{h:Host},AnyH h->zcc h:=fun k=>(zQ _).2 k.sm;have g:=sm (zwp (zw9 d)).2;have i:=sm (zx9 (zzV d)).2;have j:=sm (zyb (zzW d)).2;have l:=sm (zwq (zxa d)).2;have f:=zbfr;simp only[qD] at f;obtain⟨f,n⟩:=f;have c:SmH (zef [[[(⟨7,0⟩:Ins)]]]):=zTi zbc9;refine zq rfl (zbE (fun _=>zvx rfl) (fun _=>zq (zw9 d) (zq (zbd g) (zq (zbd g) (zq (zzV d) (zq (zbd i) (zq (zbd i) (zq (zzW d) (zq (zbd j) (zq (zbd j) (zq (zxa d) (zq (zbd l) (zq (zbd l) (zq (zbd zbc9) ?_))))))))))))));generalize zef [[[(⟨7,0⟩:Ins)]]]=one at f n c;have e:SmH (zfi one 0 5):=zl3 c (fun p=>zCN _ (zoH c (zbV.1 p).2));refine zq (zbd ((zQ _).2 c)) (zq (zdO _) (zq (zbd rfl) (zq rfl (zq (zd4 _) (zq (zdO _) (zq (zbd rfl) (zq rfl (zq (zdO _) (zq (zbd rfl) (zq rfl (zq (zd4 _) (zq (zdO _) (zq (zbd rfl) (zq rfl (zq f (zq (zbd ((zQ _).2 e)) (zvx ?_)))))))))))))))));exact congrArg (fun b=>[AV.one (CV.b b)]) n
theorem zNS (d:List Int)(h:∀c∈zB [aS .u8 d],CVOk c):∃N,znM N d=some [.one (.b true)]:=by have e:zce big [aS .u8 d]:=fun c f=>CVB.of_ok (h c f);have g:=(len0 e);exact⟨5,zbdX (G:=fun a=>a=[.one (.b true)]) (zLi 5 d g)⟩
theorem zI3:Tryz.f6.params.toList.map (zcG Tryz.prog 4)=[some (false,[.s .u8])]:=by kernel_rfl
theorem zEd:z2C 6 Tryz.f6.params.toList:=by refine z0Y z96 zU zy zn (ziG (by kernel_rfl)) ?_;intro c hg;obtain⟨a,e⟩:=hg;rw[zI3]at a;obtain⟨h,g,rfl,d,a⟩:=zZe a;cases List.map_eq_nil_iff.1 a;obtain⟨b,rfl⟩:=sh_s d;obtain⟨N,f⟩:=zNS b e;exact⟨zo [],N,12,(zS4 N b).trans f⟩
theorem zMT (H:Type)(a:List (DataW H))(h:a.length=Tryz.f6.params.toList.length):Rows.fnOutsideSpec.fn H a={results:=[.lit (.bool true)],args:=a}:=by
 have b:a.length=1:=h.trans (by kernel_rfl)
 match a,b with
 |[d],_=>rfl
set_option maxRecDepth 100000 in
theorem zF2 (g:Os)(a:g.Started)(H:Type)(enc:TypeId×Value->H) :
 ReturnsInHanded {} Tryz.checked g 6 .any (Rows.fnOutsideSpec.pre6 enc Tryz.prog Tryz.f6 Rows.fnOutsideRow.domain false) (Rows.fnOutsideSpec.post enc Tryz.prog Tryz.f6 false true false false):=by
 refine returnsInHanded_of_change_shaped (C:=Tryz.checked) own a (by kernel_rfl) Tryz.func6
  (ChangeSpec.witness6 (enc:=enc) (C:=Tryz.checked) false ⟨#[],#[.slice none 0 0],[]⟩ 8 (by kernel_rfl) (by kernel_rfl) (by kernel_rfl) (by kernel_rfl)) ?_
 intro W d c h i b e j _ f _ _;exact zPe (P:=Tryz.prog) z9E zbaw rfl zMT (by kernel_rfl) (B:=4) (by kernel_rfl) (by kernel_rfl) zEd W d c h i b e j f
end
end
end Go.Proofs.YthhbajmehldikaaGreat.E
