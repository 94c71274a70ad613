/- What is proved here: a part of the proof that the statement of this claim holds (several texts of wip/, laid together). -/
import Derived.Test.YthhbajmehldikaaGreatV6
namespace Go.Proofs.YthhbajmehldikaaGreat.E
open Go
set_option linter.constructorNameAsVariable false
set_option linter.unusedVariables false
set_option maxRecDepth 100000
set_option linter.unusedSimpArgs false
set_option linter.unusedSectionVars false
noncomputable section
theorem zvL {h:Host}{m g:Int}(a:hasB m (ln h.Mons)=true)(hg:hasB g (ln (ix h.Mons m mZ).Guests)=true):gAt (zB h m) g=gOf h m g:=by rw[zfo a];unfold gAt;show (cond (hasB g (ln (ix h.Mons m mZ).Guests)) _ _)=_;rw[hg];rfl
theorem zSW {x:Guest}(h:zbe x=3\/zbe x=4\/zbe x=5\/zbe x=6):(zcv x.Prog x.Pc).Op=zbe x:=by unfold zbe at h ⊢;cases e:canRun x with|false=>simp[e]at h|true=>simp only[e,cond_true]at h ⊢;(cases f:zjb x with|true=>simp[f]at h|false=>simp only[f,cond_false]at h ⊢;unfold zAg at h ⊢;by_cases a:(zcv x.Prog x.Pc).Op=3;{rw [a];rfl};{rw [zbZ.2 a,cond_false]at h ⊢;by_cases b:(zcv x.Prog x.Pc).Op=4;{rw [b];rfl};{rw [zbZ.2 b,cond_false]at h ⊢;by_cases c:(zcv x.Prog x.Pc).Op=5;{rw [c];rfl};{rw [zbZ.2 c,cond_false]at h ⊢;by_cases d:(zcv x.Prog x.Pc).Op=6;{rw [d];rfl};{rw [zbZ.2 d,cond_false]at h ⊢;cases g:ieq (zcv x.Prog x.Pc).Op 7<;>simp [g]at h}}}})
theorem zbcn {x:Guest}(X:GOk x){w:Int}(a:zbe x=w)(h:w=3\/w=4):0<=address x/\address x<=15:=by have e:address x=(zcv x.Prog x.Pc).X:=(by unfold address;rcases h with e|e;{rw [a,e];rfl};{rw [a,e];rfl});rw[e];exact zbet (zMk X.prog _) (by rw[zSW (by omega),a];exact h)
theorem zbco {a:Int}(b:0<=a)(c:a<=15):win (zbk a) 0 3=true/\hasB (zde a) 4=true :=
 zNM (n:=16) (P:=fun a=>win (zbk a) 0 3=true/\hasB (zde a) 4=true) (by decide) b (by omega)
theorem z3z {p:Int}(h:win p 0 3=true)(w:Bool):zhz (zsX p w)=true:=by unfold zhz zsX;simp[ieq,h]
theorem z6u {n:Int}(h:win n 0 99=true):zhz (zBx n)=true:=by unfold zhz zBx;simp[ieq,h]
theorem z9p {n:Int}(h:win n 0 99=true):zhz (zAh n)=true:=by unfold zhz zAh;simp[ieq,h]
theorem z9v {x:Guest}(X:GOk x)(t:Int){w:Int}(d:zbe x=w):GKeep x (zkq x t w):=by have c:=zMk X.prog x.Pc;unfold zkq;by_cases b:w=6;{rw [zbs.2 b];exact zjX X (z6u (zcJ.2 (z6L c (by rw[zSW (by omega),d];omega))))};{rw [zbZ.2 b,cond_false];by_cases a:w=5;{rw [zbs.2 a];cases zhm t 1 with|true=>exact zjX X (z9p (zcJ.2 (z6L c (by rw[zSW (by omega),d];omega))))|false=>rw[a];exact zjW X};{rw [zbZ.2 a];rw[Bool.false_and,cond_false];cases e:(ieq w 7&&zhm t 2) with|true=>exact zjX X rfl|false=>rw[cond_false];cases ieq w 7;{exact zjW X};{exact z2a X}}}
theorem z2i {a:Type}(g:Int):hasB g (ln ([]:List a))=false:=by cases h:hasB g (ln ([]:List a)) with|false=>rfl|true=>have:=zG.1 h;simp[ln] at this;omega
theorem z8z {m:List (List Int)}(h:∀c∈m,zcn c=true)(p c:Int):win (cellAt m p c) 0 99=true:=by unfold cellAt zin;cases b:hasB p (ln m) with|false=>rfl|true=>rw[cond_true];(cases a:hasB c (ln (ix m p [])) with|false=>rfl|true=>rw[cond_true];exact(zuS.1 (h _ (zmL b []))).1 _ (zmL a 0))
theorem HOk.seenG {h:Host}(H:HOk h){m g:Int}(a:hasB m (ln h.Mons)=true)(hg:hasB g (ln (ix h.Mons m mZ).Guests)=true):GOk (gOf h m g):=H.guest a hg
theorem zZt {h:Host}(S:Safe h){m g:Int}(i:hasB m (ln h.Mons)=true)(hg:hasB g (ln (ix h.Mons m mZ).Guests)=true)(w:Bool)(B:zbe (gOf h m g)=bif w then 4 else 3) :
 SimT h (zkp (zn7 h m g (gOf h m g) w) m g (gOf h m g) w) m (fun b=>zpc b g (gOf h m g) w):=by
 have X:=S.ok.seenG i hg;have t:=zbcn X B (by cases w<;>simp)
 have n:=zbco t.1 t.2;have z:zcf w=1\/zcf w=2:=by cases w<;>simp [zcf]
 unfold zkp zn7;cases k:zcd h m g (zbk (address (gOf h m g))) (zcf w) with
 |false=>have e:lookOf h h.Buffer m g (zbk (address (gOf h m g))) (zcf w) false=(h,-1,false):=(by unfold lookOf;rw[k];rfl);have q:zfN (gOf h m g).Live (zbk (address (gOf h m g))) (zcf w)=false:=(by cases y:zfN (gOf h m g).Live (zbk (address (gOf h m g))) (zcf w) with|false=>rfl|true=>exact Bool.noConfusion (k.symm.trans (zr3.2 ⟨zkt.2 ⟨S.ok,i,hg⟩,z,y⟩)));rw[e];refine(zrG S i hg (zjX X (z3z n.1 w))).congr ?_;unfold zpc;rw[q];rfl
 |true=>obtain⟨L,x⟩:=zTQ S false k S.rt.e1;obtain⟨_,_,j⟩:=zr3.1 k;have c:zfN (gOf h m g).Live (zbk (address (gOf h m g))) (zcf w)=true:=j;have W:=walked X j;rw[x,cond_true];have l:=L.op.safe S;have f:hasB m (ln (lookOf h h.Buffer m g (zbk (address (gOf h m g))) (zcf w) false).1.Mons)=true:=(by rw[L.op.like.has];exact i);have a:=L.op.like.g m i;have C:hasB (zcE (zcO h m g) (zbk (address (gOf h m g))) (zcf w)) 8=true:=W.q8;obtain⟨u,v⟩:=zyB l f C L.inn L.ne (zde (address (gOf h m g))) (gOf h m g).A;rw[L.op.like.seen m] at v;cases w with|true=>rw[cond_true];have r:=L.op.sim S m;have p:hasB m (ln ({ (lookOf h h.Buffer m g (zbk (address (gOf h m g))) (zcf true) false).1 with Memory:=zbN (lookOf h h.Buffer m g (zbk (address (gOf h m g))) (zcf true) false).1.Memory (lookOf h h.Buffer m g (zbk (address (gOf h m g))) (zcf true) false).2.1 (zde (address (gOf h m g))) (gOf h m g).A}:Host).Mons)=true:=f;have d:hasB g (ln (ix ({ (lookOf h h.Buffer m g (zbk (address (gOf h m g))) (zcf true) false).1 with Memory:=zbN (lookOf h h.Buffer m g (zbk (address (gOf h m g))) (zcf true) false).1.Memory (lookOf h h.Buffer m g (zbk (address (gOf h m g))) (zcf true) false).2.1 (zde (address (gOf h m g))) (gOf h m g).A}:Host).Mons m mZ).Guests)=true:=(by show hasB g (ln (ix (lookOf h h.Buffer m g (zbk (address (gOf h m g))) (zcf true) false).1.Mons m mZ).Guests)=true;rw[a];exact hg);have s:GKeep (gOf { (lookOf h h.Buffer m g (zbk (address (gOf h m g))) (zcf true) false).1 with Memory:=zbN (lookOf h h.Buffer m g (zbk (address (gOf h m g))) (zcf true) false).1.Memory (lookOf h h.Buffer m g (zbk (address (gOf h m g))) (zcf true) false).2.1 (zde (address (gOf h m g))) (gOf h m g).A} m g) (zb3 (gOf h m g)):=(by have:gOf { (lookOf h h.Buffer m g (zbk (address (gOf h m g))) (zcf true) false).1 with Memory:=zbN (lookOf h h.Buffer m g (zbk (address (gOf h m g))) (zcf true) false).1.Memory (lookOf h h.Buffer m g (zbk (address (gOf h m g))) (zcf true) false).2.1 (zde (address (gOf h m g))) (gOf h m g).A} m g=gOf h m g:=(by show ix (ix (lookOf h h.Buffer m g (zbk (address (gOf h m g))) (zcf true) false).1.Mons m mZ).Guests g gZ=_;rw[a];rfl);rw[this];exact zjW X);refine((r.trans u).trans (zrG u.safe p d s)).congr ?_;unfold zpc;rw[c];rfl|false=>rw[cond_false];have r:=L.op.sim S m;have d:hasB g (ln (ix (lookOf h h.Buffer m g (zbk (address (gOf h m g))) (zcf false) false).1.Mons m mZ).Guests)=true:=(by rw[a];exact hg);have s:GKeep (gOf (lookOf h h.Buffer m g (zbk (address (gOf h m g))) (zcf false) false).1 m g) (loaded (gOf h m g) (cellAt (lookOf h h.Buffer m g (zbk (address (gOf h m g))) (zcf false) false).1.Memory (lookOf h h.Buffer m g (zbk (address (gOf h m g))) (zcf false) false).2.1 (zde (address (gOf h m g))))):=(by have:gOf (lookOf h h.Buffer m g (zbk (address (gOf h m g))) (zcf false) false).1 m g=gOf h m g:=(by show ix (ix (lookOf h h.Buffer m g (zbk (address (gOf h m g))) (zcf false) false).1.Mons m mZ).Guests g gZ=_;rw[a];rfl);rw[this];exact z6E X (z8z l.ok.pgs _ _));refine(r.trans (zrG l f d s)).congr ?_;unfold zpc;rw[c,v];rfl
theorem z9u {h r:Host}{m g:Int}(e:(ix r.Mons m mZ).Guests=(ix h.Mons m mZ).Guests):gOf r m g=gOf h m g:=by unfold gOf;rw[e]
theorem zbds (h:Host)(m:Int)(a:hasB m (ln h.Mons)=true):(ix (owned h m).Mons m mZ).Guests=(ix h.Mons m mZ).Guests:=by unfold owned;cases ilt (ix h.Mons m mZ).Own 1000000000 with|false=>rfl|true=>show (ix (up h.Mons m _) m mZ).Guests=_;rw[zbg a]
theorem z9S (h:Host)(m n:Int)(a:hasB m (ln h.Mons)=true):(ix (zpF h m n).Mons m mZ).Guests=(ix h.Mons m mZ).Guests:=by unfold zpF;cases ilt (ln (ix h.Mons m mZ).Outs) 40 with|false=>rfl|true=>show (ix (up h.Mons m _) m mZ).Guests=_;rw[zbg a]
theorem z7T {h:Host}(S:Safe h){m:Int}(a:hasB m (ln h.Mons)=true)(x:Guest)(w:Int):SimT h (zgO h m x w) m id/\(ix (zgO h m x w).Mons m mZ).Guests=(ix h.Mons m mZ).Guests:=by unfold zgO;cases (cond (ine w 6) (ieq (zCf (ix h.Mons m mZ).Traps x.Ctl.Traps (zBc w)) 2) false) with|false=>exact⟨SimT.refl S m,rfl⟩|true=>exact⟨z7R S a,zbds h m a⟩
theorem z7S {h:Host}(S:Safe h){m:Int}(a:hasB m (ln h.Mons)=true)(x:Guest)(w:Int):SimT h (zgN h m x w) m (fun b=>bif (cond (zlz x.Ctl.Traps w) (ieq w 5) false) then zpI b (zcv x.Prog x.Pc).X else b)/\(ix (zgN h m x w).Mons m mZ).Guests=(ix h.Mons m mZ).Guests:=by unfold zgN;cases (cond (zlz x.Ctl.Traps w) (ieq w 5) false) with|false=>exact⟨SimT.refl S m,rfl⟩|true=>exact⟨z5d S a _,z9S h m _ a⟩
theorem zGZ {h:Host}(S:Safe h){m g:Int}(d:hasB m (ln h.Mons)=true)(hg:hasB g (ln (ix h.Mons m mZ).Guests)=true){w:Int}(l:zbe (gOf h m g)=w) :
 SimT h (zyF h m g (gOf h m g) w) m (fun b=>zHP b g (gOf h m g) w):=by
 have X:=S.ok.seenG d hg;obtain⟨f,j⟩:=z7T S d (gOf h m g) w;have a:hasB m (ln (zgO h m (gOf h m g) w).Mons)=true:=by rw[f.has];exact d
 obtain⟨i,k⟩:=z7S f.safe a (gOf h m g) w;have e:hasB m (ln (zgN (zgO h m (gOf h m g) w) m (gOf h m g) w).Mons)=true:=by rw[i.has];exact a
 have c:hasB g (ln (ix (zgN (zgO h m (gOf h m g) w) m (gOf h m g) w).Mons m mZ).Guests)=true:=by rw[k,j];exact hg
 have n:GKeep (gOf (zgN (zgO h m (gOf h m g) w) m (gOf h m g) w) m g) (zkq (gOf h m g) (gOf h m g).Ctl.Traps w):=by rw[z9u (k.trans j)];exact z9v X _ l
 exact((f.trans i).trans (zrG i.safe e c n)).congr rfl
theorem z5q (x:Guest):zbe x=0\/zbe x=1\/zbe x=2\/zbe x=3\/zbe x=4\/zbe x=5\/zbe x=6\/zbe x=7:=by unfold zbe zAg;cases canRun x<;>cases zjb x<;>cases ieq (zcv x.Prog x.Pc).Op 3<;>cases ieq (zcv x.Prog x.Pc).Op 4<;>cases ieq (zcv x.Prog x.Pc).Op 5<;>cases ieq (zcv x.Prog x.Pc).Op 6<;>cases ieq (zcv x.Prog x.Pc).Op 7<;>simp
theorem zWG {h:Host}(H:HOk h)(m g:Int):zmv (zB h m) g=bif zb0 h m g then !ieq (zbe (gOf h m g)) 0 else false:=by unfold zmv zb0;rw[zkN.2 H,cond_true];cases a:hasB m (ln h.Mons) with|false=>have:(zB h m).Guests=[]:=(by unfold zB;rw[a];rfl);rw[this,z2i];rfl|true=>rw[cond_true,zA6 H a,cond_true];have:(zB h m).Guests=(ix h.Mons m mZ).Guests:=(by rw[zfo a]);rw[this];(cases hg:hasB g (ln (ix h.Mons m mZ).Guests) with|false=>rfl|true=>rw[cond_true,cond_true,zvL a hg])
theorem step_ok {h:Host}(S:Safe h)(m g:Int):SimT h (zbF h m g).1 m (fun b=>ziO b g)/\(zbF h m g).2=zmv (zB h m) g:=by
 have a:=zWG S.ok m g;unfold zbF;cases i:zb0 h m g with
 |false=>rw[i,cond_false]at a;refine⟨(SimT.refl S m).congr ?_,a.symm⟩;unfold ziO;rw[a];rfl
 |true=>rw[i,cond_true]at a;rw[cond_true];obtain⟨_,c,hg⟩:=zkt.1 i;have X:=S.ok.seenG c hg;have f:=zvL c hg;have d:∀w,zbe (gOf h m g)=w->w≠0->ziO (zB h m) g=stepped (zB h m) g (gOf h m g) w:=(by intro w j k;unfold ziO;rw[a,j,zbZ.2 k,f,j];rfl);rcases z5q (gOf h m g) with e|e|e|e|e|e|e|e;{rw [e];rw[e]at a;refine⟨(SimT.refl S m).congr ?_,a.symm⟩;unfold ziO;rw[a];rfl};{rw [e]at a ⊢;exact⟨(zrG S c hg (zQx X)).congr (d 1 e (by decide)).symm,a.symm⟩};{rw [e]at a ⊢;exact⟨(zrG S c hg (z3K X)).congr (d 2 e (by decide)).symm,a.symm⟩};{rw [e]at a ⊢;exact⟨(zZt S c hg false e).congr (d 3 e (by decide)).symm,a.symm⟩};{rw [e]at a ⊢;exact⟨(zZt S c hg true e).congr (d 4 e (by decide)).symm,a.symm⟩};{rw [e]at a ⊢;exact⟨(zGZ S c hg e).congr (d 5 e (by decide)).symm,a.symm⟩};{rw [e]at a ⊢;exact⟨(zGZ S c hg e).congr (d 6 e (by decide)).symm,a.symm⟩};{rw [e]at a ⊢;exact⟨(zGZ S c hg e).congr (d 7 e (by decide)).symm,a.symm⟩}
structure BackOk (b c:Bare):Prop where
 m:c.Memory=b.Memory
 o:c.Outs=b.Outs
 n:c.Guests.length=b.Guests.length
 g:∀j,hasB j (ln b.Guests)=true->GKeep (ix b.Guests j gZ) (ix c.Guests j gZ)
 p:zc5 b.Pending=true->zc5 c.Pending=true
theorem zbae {h:Host}(S:Safe h){m:Int}(b:hasB m (ln h.Mons)=true){c:Bare}(k:BackOk (zB h m) c):SimT h (zcA h m c) m (fun _=>c):=by have X:=S.ok.mon b;have f:=zfo b;have d:(zB h m).Guests=(ix h.Mons m mZ).Guests:=(by rw[f]);have l:c.Guests.length=(ix h.Mons m mZ).Guests.length:=(by rw[k.n,d]);have hg:∀j,hasB j (ln (ix h.Mons m mZ).Guests)=true->GKeep (ix (ix h.Mons m mZ).Guests j gZ) (ix c.Guests j gZ):=fun j a=>(by have:=k.g j (by rw[d];exact a);rwa [d] at this);have kp:KeepP (ix h.Mons m mZ) (zuH (ix h.Mons m mZ) c):=⟨rfl,rfl⟩;have s:zc5 c.Pending=true:=k.p (by rw[f];exact X.pend);refine⟨zyA S b kp (zlZ X kp l rfl rfl X.outs s X.tr X.own fun z t=>?_) l (fun j a=>(hg j a).live) rfl,fun i=>?_,zbQ _ _ _⟩;{obtain⟨j,a,rfl⟩:=zYt t gZ;exact zvg.2 (hg j (by unfold ln at a ⊢;rw[<- l];exact a)).ok};{refine(zwI (h:=h) (r:=zcA h m c) b rfl rfl kp i).trans ?_;by_cases e:i=m;{subst e;rw[zbs.2 rfl,cond_true,cond_true];show Bare.mk (zB h i).Memory c.Guests (ix h.Mons i mZ).Outs c.Pending=c;have u:=k.m;have q:=k.o;rw[f]at q;cases c;simp_all};{rw [zbZ.2 e];rfl}}
theorem seen_none {h:Host}{m:Int}(a:hasB m (ln h.Mons)=false):zB h m=⟨[],[],[],0⟩:=by unfold zB;rw[a];rfl
theorem zvk:zbS ⟨[],[],[],0⟩=false:=by decide
theorem zvA {b:Bare}(h:zbS b=false)(g:Int):zbT b g=false:=by unfold zbT;rw[h];rfl
theorem zib {b:Bare}(h:zbS b=true):BackOk b b:=⟨rfl,rfl,rfl,fun j a=>⟨zvg.1 (by
 unfold zbS at h;rw[zce,qL]at h;exact h.1 _ (zmL a _)),rfl⟩,id⟩
theorem z5C {b:Bare}(h:zbS b=true){g:Int}(hg:hasB g (ln b.Guests)=true){y:Guest}(k:GKeep (gAt b g) y):BackOk b (zdZ b g y):=by have e:gAt b g=ix b.Guests g gZ:=(by unfold gAt;rw[hg];rfl);refine⟨rfl,rfl,zbQ _ _ _,fun j c=>?_,id⟩;show GKeep _ (ix (up b.Guests g y) j gZ);by_cases a:g=j;{subst a;rw[zbg hg,<- e];exact k};{rw [zbt (zG.1 hg).1 (zG.1 c).1 a];exact(zib h).g j c}
theorem zsP {b:Bare}(h:zbS b=true){g:Int}{c:Bool}{y:Guest}(k:hasB g (ln b.Guests)=true->c=true->GOk (gAt b g)->GKeep (gAt b g) y):BackOk b (chg b g c y):=by unfold chg zbT;rw[h,cond_true];cases hg:hasB g (ln b.Guests) with|false=>exact zib h|true=>rw[cond_true];(cases c with|false=>exact zib h|true=>refine z5C h hg (k hg rfl ?_);have:=(zib h).g g hg;unfold gAt;rw[hg];exact this.ok)
theorem zrm {h:Host}(S:Safe h)(m:Int){F:Bare->Bare}(d:∀b,zbS b=true->BackOk b (F b))(c:F ⟨[],[],[],0⟩=⟨[],[],[],0⟩):SimT h (zdi h m (F (zB h m))) m F:=by unfold zdi zcb;rw[zkN.2 S.ok,cond_true];cases a:hasB m (ln h.Mons) with|false=>refine(SimT.refl S m).congr ?_;rw[seen_none a];exact c.symm|true=>exact(zbae S a (d _ (zA6 S.ok a))).congr rfl
theorem zl7 {h:Host}(S:Safe h)(m:Int){t:Bare->Bool}(a:t ⟨[],[],[],0⟩=false):zc4 h m (t (zB h m))=t (zB h m):=by unfold zc4 zcb;rw[zkN.2 S.ok,cond_true];cases b:hasB m (ln h.Mons) with|false=>rw[cond_false,seen_none b,a]|true=>rfl
theorem zqW (g:Int)(c:Bool)(y:Guest):chg ⟨[],[],[],0⟩ g c y=⟨[],[],[],0⟩:=by unfold chg;rw[zvA zvk];rfl
theorem zjR (g:Int)(c:Bool):zbE ⟨[],[],[],0⟩ g c=false:=by unfold zbE;rw[zvA zvk];rfl
theorem zZv {t:List Slot}{n q:Int}(h:zcS t n q=true){p:Int}{s:Slot}(b:zdD s q=true):zcS (zdE t p s) n q=true:=by
 unfold zdE;cases hasB p (ln t) with
 |false=>exact h
 |true=>rw[cond_true];rw[zsM]at h ⊢;rw[zdI];refine⟨fun x c=>?_,h.2⟩;rcases qY c with a|a;{exact h.1 x a};{rw [a];exact b}
theorem zbc3 {x:Guest}(X:GOk x){p:Int}{s:Slot}(h:znn p s=true):GKeep x (zrF x p s):=by unfold znn at h;rw[zce]at h;exact⟨⟨X.prog,X.a,X.pc,zZv X.w h.2,X.l,X.ctl,X.pend,X.ex,X.seen⟩,rfl⟩
theorem zbc0 {x:Guest}(X:GOk x){v:Int}(h:znk x v=true):GKeep x (zqT x v):=by unfold znk at h;rw[zce]at h;unfold zqT;cases ieq x.Exit.Kind 2 with|true=>rw[cond_true];have b:=zjX (z3I X h.1) (e:=zhD) rfl;have a:=zjW b.ok;exact⟨a.ok,a.live⟩|false=>rw[cond_false];have b:=zjX X (e:=zhD) rfl;have a:=zjW b.ok;exact⟨a.ok,a.live.trans b.live⟩
theorem zbc2 {x:Guest}(X:GOk x):GKeep x (zrn x):=by unfold zrn;have a:=zjX X (e:=zhD) rfl;cases ieq x.Exit.Kind 1 with|true=>exact a|false=>have b:=z2a a.ok;exact⟨b.ok,b.live.trans a.live⟩
theorem z2c {x:Guest}(X:GOk x)(n:Int):GKeep x (zk9 x n):=z2d X (zT3 X.pend n)
theorem zbc1 {x:Guest}(X:GOk x){c:Ctl}(h:zgE c=true):GKeep x (zyY x c):=⟨⟨X.prog,X.a,X.pc,X.w,X.l,h,X.pend,X.ex,X.seen⟩,rfl⟩
theorem zE4 (n:Int):∀(d:List Int) (b:Bare) (l:List Guest),(∀k∈d,hasB k (ln b.Guests)=true)->BackOk b {b with Guests:=l}->BackOk b {b with Guests:=zmR n d l}
 |[],b,l,_,h=>h
 |k::d,b,l,q,h=>by show BackOk b {b with Guests:=zmR n d (zHG n l k)};refine zE4 n d b _ (fun j a=>q j (qZ _ a)) ⟨h.m,h.o,by show (up l k _).length=_;rw[zbQ];exact h.n,fun j a=>?_,h.p⟩;show GKeep _ (ix (up l k _) j gZ);have r:l.length=b.Guests.length:=h.n;have c:hasB k (ln l)=true:=(by unfold ln;rw[r];exact q k jC);by_cases e:k=j;{subst e;rw[zbg c];have f:=h.g k a;have i:=z2c f.ok n;exact⟨i.ok,i.live.trans f.live⟩};{rw [zbt (zG.1 c).1 (zG.1 a).1 e];exact h.g j a}
theorem z2X {b:Bare}(h:zbS b=true)(n:Int):BackOk b (zj8 b n):=by
 unfold zj8 ze6 zHH;rw[h,cond_true];cases hasB n 8 with
 |false=>exact zib h
 |true=>
  rw[cond_true];cases ieq (ln (zd7 b.Guests n)) 0 with
  |true=>have:=zib h;exact⟨rfl,rfl,rfl,this.g,fun c=>zT3 c n⟩
  |false=>rw[cond_false];refine zE4 n _ b b.Guests (fun k a=>?_) (zib h);unfold zd7 at a;obtain⟨j,e,rfl,_⟩:=(zLL (d:=gZ)).1 a;exact zG.2 ⟨by omega,by unfold ln;omega⟩
theorem z5B {b:Bare}(h:zbS b=true):BackOk b (zni b):=by unfold zni;rw[h,cond_true];exact⟨rfl,rfl,rfl,(zib h).g,fun a=>zT4 a⟩
theorem z90 {h:Host}(S:Safe h)(m p c v:Int):SimT h (zor h m p c v) m (fun b=>zWa b p c v)/\zfu h m p c v=zAi (zB h m) p c v:=by have e:zfu h m p c v=zAi (zB h m) p c v:=(by unfold zfu zAi zcz zbca;rw[zkN.2 S.ok,cond_true];cases d:hasB m (ln h.Mons) with|false=>rw[seen_none d,zvk];rfl|true=>rw[zA6 S.ok d,cond_true];rfl);refine⟨?_,e⟩;unfold zor;cases f:zfu h m p c v with|false=>refine(SimT.refl S m).congr ?_;unfold zWa;rw[<- e,f];rfl|true=>rw[cond_true];have a:=f;unfold zfu at a;rw[zce,zce]at a;obtain⟨k,_,_⟩:=a;obtain⟨_,d,j⟩:=zpH.1 k;have M:=zTX S.ok (m:=m) (p:=p) 2 d j;have i:=M.op.sim S m;have g:hasB m (ln (mended h m p 2).Mons)=true:=(by rw[i.has];exact d);obtain⟨l,_⟩:=zyB i.safe g j rfl M.inn c v;refine(i.trans l).congr ?_;unfold zWa;rw[<- e,f];rfl
theorem z6Z {h:Host}(S:Safe h)(m g b a:Int):zcd h m g b a=(cond (zbT (zB h m) g) (cond (zku a) (zfN (gAt (zB h m) g).Live b a) false) false):=by have e:zb0 h m g=zbT (zB h m) g:=(by unfold zb0 zbT;rw[zkN.2 S.ok,cond_true];cases c:hasB m (ln h.Mons) with|false=>rw[seen_none c,zvk,cond_false,cond_false]|true=>rw[cond_true,zA6 S.ok c,cond_true];have:(zB h m).Guests=(ix h.Mons m mZ).Guests:=(by rw[zfo c]);rw[this]);unfold zcd;rw[<- e];cases hg:zb0 h m g with|false=>rw[cond_false,cond_false]|true=>obtain⟨_,c,hg⟩:=zkt.1 hg;have:(gAt (zB h m) g).Live=zcO h m g:=(by rw[zvL c hg];rfl);rw[this]
theorem zKY {h:Host}(S:Safe h)(m g a n:Int)(b:n=1\/n=2):zpn (zB h m) g a n=bif win a 0 15 then zcd h m g (zbk a) n else false:=by rw[z6Z S];unfold zpn;rw[zJN.2 b,cond_true];cases zbT (zB h m) g<;>cases win a 0 15<;>rfl
theorem zW3 {h:Host}(S:Safe h){m g a n:Int}(f:n=1\/n=2)(b:zpn (zB h m) g a n=true) :
 Looked h (zFE h m g a n).1 m g (zbk a) n (zHl (zB h m) g a n) (zFE h m g a n).2.1/\hasB m (ln h.Mons)=true/\hasB (zHl (zB h m) g a n) 8=true:=by
 rw[zKY S m g a n f,zce]at b;obtain⟨L,_⟩:=zTQ S true b.2 S.rt.e2;obtain⟨d,_,i⟩:=zr3.1 b.2;obtain⟨_,c,hg⟩:=zkt.1 d;have e:zHl (zB h m) g a n=zcE (zcO h m g) (zbk a) n:=by unfold zHl;rw[zvL c hg];rfl
 rw[e];exact⟨L,c,(walked (S.ok.guest c hg) i).q8⟩
theorem zbeo {h:Host}(S:Safe h)(m g a v:Int):SimT h (zq3 h m g a v) m (fun b=>z3w b g a v)/\zg6 h m g a v=zBF (zB h m) g a v:=by have e:zg6 h m g a v=zBF (zB h m) g a v:=(by unfold zg6 zBF;rw[zKY S m g a 2 (.inr rfl)];cases win a 0 15<;>cases win v 0 99<;>cases zcd h m g (zbk a) 2<;>rfl);refine⟨?_,e⟩;unfold zq3;cases c:zg6 h m g a v with|false=>refine(SimT.refl S m).congr ?_;unfold z3w;rw[<- e,c];rfl|true=>rw[cond_true];have f:zpn (zB h m) g a 2=true:=(by have:=e.symm.trans c;unfold zBF at this;exact(zce.1 this).1);obtain⟨L,i,j⟩:=zW3 S (.inr rfl) f;have d:=L.op.sim S m;obtain⟨k,_⟩:=zyB d.safe (by rw[d.has];exact i) j L.inn L.ne (zde a) v;refine(d.trans k).congr ?_;unfold z3w;rw[<- e,c];rfl
theorem zbdv {h:Host}(S:Safe h)(m g a:Int):SimT h (zos h m g a) m id/\zgg h m g a=zpn (zB h m) g a 1/\zti h m g a=zWe (zB h m) g a:=by have e:zgg h m g a=zpn (zB h m) g a 1:=(by unfold zgg;rw[zKY S m g a 1 (.inl rfl)]);unfold zos zti zWe;rw[e];cases d:zpn (zB h m) g a 1 with|false=>exact⟨SimT.refl S m,rfl,rfl⟩|true=>obtain⟨L,f,i⟩:=zW3 S (.inl rfl) d;have b:=L.op.sim S m;obtain⟨_,c⟩:=zyB b.safe (by rw[b.has];exact f) i L.inn L.ne (zde a) 0;rw[L.op.like.seen m] at c;exact⟨b,rfl,c⟩
theorem z6N {k:Kept}{a b:List Slot}(h:KOk k a b)(p:Int)(s:Slot):KOk (zbX k p) (zdE a p s) b:=by have j:=zlN k p;have f:(zdE a p s).length=a.length:=(by unfold zdE;cases hasB p (ln a)<;>simp [zbQ]);refine⟨by rw[j.1,f,h.l1],by rw[j.2,f,h.l2],fun i l=>?_⟩;have c:hasB i (ln a)=true:=(by unfold ln at l ⊢;rwa [<- f]);have d:hasB i (ln k.Known)=true:=(by unfold ln at c ⊢;rwa [h.l1]);have g:=zyZ (q:=p) (by rw[h.l1,h.l2]) d;rw[g.1,g.2];by_cases e:p=i;{subst e;rw[zbs.2 rfl];rfl};{rw [zbZ.2 e,cond_false,cond_false,h.at' i c];have:ix (zdE a p s) i sZ=ix a i sZ:=(by unfold zdE;cases m:hasB p (ln a) with|false=>rfl|true=>exact zbt (zG.1 m).1 (zG.1 c).1 e _ _);rw[this]}
theorem zbeM {t m g:Int}(a:zdp t=m)(b:zeb t=g)(c:0<=m):t=zeN m g:=by subst a;subst b;by_cases h:1<=t/\t<=6;{have e:t=1\/t=2\/t=3\/t=4\/t=5\/t=6:=(by omega);rcases e with rfl|rfl|rfl|rfl|rfl|rfl<;>decide};{exfalso;have:zdp t = -1:=(by unfold zdp ige ile;rw[show (decide (t≥1)&&decide (t<=6))=false by simp;omega];rfl);omega}
theorem z1C {t:List Slot}{p q:Int}{s:Slot}(h:q≠p):zbu (zdE t p s) q=zbu t q:=by unfold zdE;cases a:hasB p (ln t) with|false=>rfl|true=>exact zUf (zG.1 a).1 h
theorem zbaf {t:List Slot}(h:zcS t 4 8=true)(p:Int):zdD (zbu t p) 8=true:=by unfold zbu;cases a:hasB p (ln t) with|false=>rfl|true=>exact(zsM.1 h).1 _ (zmL a _)
theorem z6D {x:Guest}(X:GOk x)(p:Int):GOk (zdP x p):=⟨X.prog,X.a,X.pc,X.w,zZv X.l (zbaf X.w p),X.ctl,X.pend,X.ex,X.seen⟩
theorem z9s {h:Host}(S:Safe h)(m g p:Int):SimT h (zlP h m g p) m (fun b=>chg b g (hasB p 4) (zdP (gAt b g) p))/\zc4 h m (zbE (zB h m) g (hasB p 4))=zbE (zB h m) g (hasB p 4):=by
 refine⟨?_,zl7 S m (t:=fun b=>zbE b g (hasB p 4)) (zjR g _)⟩;unfold zlP zcb;rw[zkN.2 S.ok,cond_true];cases a:hasB m (ln h.Mons) with
 |false=>refine(SimT.refl S m).congr ?_;rw[seen_none a,zqW];rfl
 |true=>
  rw[cond_true];cases w:zbE (zB h m) g (hasB p 4) with
  |false=>refine(SimT.refl S m).congr ?_;show zB h m=chg (zB h m) g (hasB p 4) (zdP (gAt (zB h m) g) p);have c:=w;unfold zbE at c;unfold chg;rw[c];rfl
  |true=>rw[cond_true];have c:=w;unfold zbE zbT at c;rw[zA6 S.ok a,cond_true,zce,zfo a]at c;have hg:hasB g (ln (ix h.Mons m mZ).Guests)=true:=c.1;have X:=S.ok.mon a;have G:=S.ok.seenG a hg;have C:chg (zB h m) g (hasB p 4) (zdP (gAt (zB h m) g) p)=zdZ (zB h m) g (zdP (gOf h m g) p):=(by have l:=w;unfold zbE at l;unfold chg;rw[l,zvL a hg];rfl);rw[C];have B:hasB g (ln (ix h.Mons m mZ).Tables)=true:=(by unfold ln;rw[X.gt];exact hg);have s:(zFj (zcA h m (zdZ (zB h m) g (zdP (gOf h m g) p))) m g p).Mons=up h.Mons m {ix h.Mons m mZ with Guests:=up (ix h.Mons m mZ).Guests g (zdP (gOf h m g) p),Tables:=up (ix h.Mons m mZ).Tables g (zbX (ix (ix h.Mons m mZ).Tables g kZ) p)}:=(by show up (up h.Mons m _) m _=_;rw[z8l];have D:ix (zcA h m (zdZ (zB h m) g (zdP (gOf h m g) p))).Mons m mZ=zuH (ix h.Mons m mZ) (zdZ (zB h m) g (zdP (gOf h m g) p)):=zbg a _ _;rw[D];unfold zuH zdZ;rw[zfo a]);have kp:KeepP (ix h.Mons m mZ) {ix h.Mons m mZ with Guests:=up (ix h.Mons m mZ).Guests g (zdP (gOf h m g) p),Tables:=up (ix h.Mons m mZ).Tables g (zbX (ix (ix h.Mons m mZ).Tables g kZ) p)}:=⟨rfl,rfl⟩;have K:MOk {ix h.Mons m mZ with Guests:=up (ix h.Mons m mZ).Guests g (zdP (gOf h m g) p),Tables:=up (ix h.Mons m mZ).Tables g (zbX (ix (ix h.Mons m mZ).Tables g kZ) p)}:=zlZ X kp (zbQ _ _ _) (zbQ _ _ _) rfl X.outs X.pend X.tr X.own fun z L=>(by rcases qY L with h|h;{exact X.gs z h};{rw [h];exact zvg.2 (z6D G p)});have E:HOk (zFj (zcA h m (zdZ (zB h m) g (zdP (gOf h m g) p))) m g p):=S.ok.up a K s S.ok.m12 S.ok.pgs (zBv S.ok.b1 _) (zBv S.ok.b2 _) fun q _=>.inl (qW _);have u:∀b:List Entry,(∀e∈b,zcY h e=true)->∀e∈zcG b (zeN m g) p,zcY (zFj (zcA h m (zdZ (zB h m) g (zdP (gOf h m g) p))) m g p) e=true:=(by intro b F e H;obtain⟨x,y⟩:=zBH.1 H;obtain⟨l,n,r⟩:=zfS.1 (F e x);rw[zfS,s,zdI];refine⟨l,?_⟩;by_cases d:m=zdp e.Tag;{rw [<- d]at l n r ⊢;rw[zbg a];show hasB (zeb e.Tag) (ln (up _ _ _))=true/\below' _ (zbx (zbu (ix (up (ix h.Mons m mZ).Guests g _) (zeb e.Tag) gZ).Live e.Page) (ix h.Mons m mZ).Outer)=true;rw[zdI];refine⟨n,?_⟩;by_cases f:g=zeb e.Tag;{rw [<- f]at n r ⊢;rw[zbg hg];have A:e.Page≠p:=fun J=>y ⟨zbeM d.symm f.symm (zG.1 a).1,J⟩;show below' _ (zbx (zbu (zdE (gOf h m g).Live p _) e.Page) _)=true;rw[z1C A];exact r};{rw [zbt (zG.1 hg).1 (zG.1 n).1 f];exact r}};{rw [zbt (zG.1 a).1 (zG.1 l).1 d];exact⟨n,r⟩});refine⟨⟨E,⟨fun i v=>?_,u _ S.rt.e1,u _ S.rt.e2⟩⟩,fun i=>?_,by rw[s,zbQ]⟩;{rw [s]at v ⊢;rw[zdI]at v;by_cases d:m=i;{subst d;rw[zbg a];intro j I;show KOk (ix (up (ix h.Mons m mZ).Tables g _) j kZ) (ix (up (ix h.Mons m mZ).Guests g _) j gZ).Live (ix h.Mons m mZ).Outer;have k:hasB j (ln (ix h.Mons m mZ).Guests)=true:=(by have:hasB j (ln (up (ix h.Mons m mZ).Guests g (zdP (gOf h m g) p)))=true:=I;rwa [zdI] at this);by_cases e:g=j;{subst e;rw[zbg B,zbg hg];exact z6N (S.rt.t m a g hg) p _};{rw [zbt (zG.1 hg).1 (zG.1 k).1 e,zbt (zG.1 hg).1 (zG.1 k).1 e];exact S.rt.t m a j k}};{rw [zbt (zG.1 a).1 (zG.1 v).1 d];exact S.rt.t i v}};{refine(zwI (h:=h) a s rfl kp i).trans ?_;by_cases e:i=m;{subst e;rw[zbs.2 rfl,cond_true,cond_true,C,zfo a];rfl};{rw [zbZ.2 e];rfl}}
theorem zUn (g:Int):ziO ⟨[],[],[],0⟩ g=⟨[],[],[],0⟩/\zmv ⟨[],[],[],0⟩ g=false:=by have:zmv ⟨[],[],[],0⟩ g=false:=(by unfold zmv;rw[z2i];rfl);refine⟨?_,this⟩;unfold ziO;rw[this];rfl
theorem z9y {h:Host}(S:Safe h)(a:GAct):SimT h (zvZ h a) a.M (fun b=>zNt b a)/\zFC h a=zNu (zB h a.M) a:=by
 have f:=zvk;unfold zvZ zFC zNt zNu;cases ieq a.Kind 1 with
 |true=>obtain⟨k,e⟩:=step_ok S a.M a.G;exact⟨k,by rw[cond_true,cond_true,e]⟩
 |false=>
  simp only[cond_false];cases ieq a.Kind 2 with
  |true=>
   exact⟨zrm S a.M (F:=fun b=>chg b a.G (znn a.X ⟨a.Y,a.Z⟩) (zrF (gAt b a.G) a.X ⟨a.Y,a.Z⟩)) (fun b c=>zsP c fun _ d G=>zbc3 G d) (zqW _ _ _),
    congrArg (fun t=>Told.mk t 0) (zl7 S a.M (t:=fun b=>zbE b a.G (znn a.X ⟨a.Y,a.Z⟩)) (zjR _ _))⟩
  |false=>
   simp only[cond_false];cases ieq a.Kind 3 with
   |true=>obtain⟨k,e⟩:=z9s S a.M a.G a.X;exact⟨k,congrArg (fun t=>Told.mk t 0) e⟩
   |false=>
    simp only[cond_false];cases ieq a.Kind 4 with
    |true=>
     exact⟨zrm S a.M (F:=fun b=>chg b a.G (znk (gAt b a.G) a.X) (zqT (gAt b a.G) a.X)) (fun b c=>zsP c fun _ d G=>zbc0 G d) (zqW _ _ _),
      congrArg (fun t=>Told.mk t 0) (zl7 S a.M (t:=fun b=>zbE b a.G (znk (gAt b a.G) a.X)) (zjR _ _))⟩
    |false=>
     simp only[cond_false];cases ieq a.Kind 5 with
     |true=>
      exact⟨zrm S a.M (F:=fun b=>chg b a.G (zpJ (gAt b a.G)) (zrn (gAt b a.G))) (fun b c=>zsP c fun _ _ G=>zbc2 G) (zqW _ _ _),
       congrArg (fun t=>Told.mk t 0) (zl7 S a.M (t:=fun b=>zbE b a.G (zpJ (gAt b a.G))) (zjR _ _))⟩
     |false=>
      simp only[cond_false];cases ieq a.Kind 6 with
      |true=>
       exact⟨zrm S a.M (F:=fun b=>chg b a.G (zeq (gAt b a.G).Pending a.X) (zk9 (gAt b a.G) a.X)) (fun b c=>zsP c fun _ _ G=>z2c G _) (zqW _ _ _),
        congrArg (fun t=>Told.mk t 0) (zl7 S a.M (t:=fun b=>zbE b a.G (zeq (gAt b a.G).Pending a.X)) (zjR _ _))⟩
      |false=>
       simp only[cond_false];cases ieq a.Kind 7 with
       |true=>
        exact⟨zrm S a.M (F:=fun b=>chg b a.G (zgE ⟨a.X,a.Y,ieq a.Z 1⟩) (zyY (gAt b a.G) ⟨a.X,a.Y,ieq a.Z 1⟩)) (fun b c=>zsP c fun _ d G=>zbc1 G d) (zqW _ _ _),
         congrArg (fun t=>Told.mk t 0) (zl7 S a.M (t:=fun b=>zbE b a.G (zgE ⟨a.X,a.Y,ieq a.Z 1⟩)) (zjR _ _))⟩
       |false=>
        simp only[cond_false];cases ieq a.Kind 8 with
        |true=>obtain⟨k,e⟩:=z90 S a.M a.X a.Y a.Z;exact⟨k,congrArg (fun t=>Told.mk t 0) e⟩
        |false=>
         simp only[cond_false];cases ieq a.Kind 9 with
         |true=>
          exact⟨zrm S a.M (F:=fun b=>zj8 b a.X) (fun b c=>z2X c _) (by unfold zj8 ze6;rw[f];rfl),
           congrArg (fun t=>Told.mk t 0) (zl7 S a.M (t:=fun b=>ze6 b a.X) (by unfold ze6;rw[f];rfl))⟩
         |false=>
          simp only[cond_false];cases ieq a.Kind 10 with
          |true=>refine⟨zrm S a.M (F:=zni) (fun b c=>z5B c) (by unfold zni;rw[f];rfl),?_⟩;have e:=zl7 S a.M (t:=zms) (by unfold zms;rw[f];rfl);show Told.mk (zc4 h a.M (zms (zB h a.M))) (cond (zcb h a.M) (ztN (zB h a.M)) (-1))=⟨zms (zB h a.M),ztN (zB h a.M)⟩;rw[e];congr 1;unfold zcb;rw[zkN.2 S.ok,cond_true];cases j:hasB a.M (ln h.Mons) with|true=>rfl|false=>rw[seen_none j];unfold ztN;rw[f];rfl
          |false=>
           simp only[cond_false];cases ieq a.Kind 11 with
           |true=>obtain⟨k,e⟩:=zbeo S a.M a.G a.X a.Y;exact⟨k,congrArg (fun t=>Told.mk t 0) e⟩
           |false=>obtain⟨k,g,i⟩:=zbdv S a.M a.G a.X;exact⟨k,by simp only[cond_false];rw[g,i]⟩
theorem z9T {h:Host}(S:Safe h)(a:GAct):Safe (znG h a)/\(∀i,zB (znG h a) i=zB h i)/\(znG h a).Mons.length=h.Mons.length:=by
 unfold znG;have k:∀r,Op h r->Safe r/\(∀i,zB r i=zB h i)/\r.Mons.length=h.Mons.length:=fun r k=>⟨k.safe S,fun i=>k.like.seen i,k.like.len⟩;cases ieq a.Kind 13 with
 |true=>exact k _ (z4o S.ok _ _)
 |false=>
  simp only[cond_false];cases ieq a.Kind 14 with
  |true=>exact k _ (z7n S.ok _ _)
  |false=>
   simp only[cond_false];cases ieq a.Kind 15 with
   |true=>exact k _ (z7m S.ok _ _)
   |false=>
    simp only[cond_false];cases ieq a.Kind 16 with
    |true=>obtain⟨b,c⟩:=zVN S a.M a.X;refine⟨b,c,?_⟩;simp only[cond_true];unfold zkm;cases zb1 h<;>cases hasB a.M (ln h.Mons)<;>cases win a.X 0 3<;>first|rfl|exact zbQ _ _ _
    |false=>exact k _ (zbdq S.ok)
def zlj (a:GAct):Bool:=bif win a.Kind 1 17 then !win a.Kind 13 17 else false
theorem z5u {h:Host}(S:Safe h)(a:GAct):Safe (zev h a)/\(zev h a).Mons.length=h.Mons.length/\
 (∀i,zB (zev h a) i=bif (cond (zlj a) (ieq i a.M) false) then zNt (zB h i) a else zB h i)/\(zlj a=true->zjY h a=zNu (zB h a.M) a):=by
 unfold zev zjY zlj;cases win a.Kind 1 17 with
 |false=>exact⟨S,rfl,fun _=>rfl,fun e=>by cases e⟩
 |true=>
  simp only[cond_true];cases win a.Kind 13 17 with
  |true=>obtain⟨b,c,d⟩:=z9T S a;exact⟨b,d,fun i=>by simp only[cond_true,jT,cond_false];exact c i,fun e=>by cases e⟩
  |false=>obtain⟨k,e⟩:=z9y S a;exact⟨k.safe,k.len,fun i=>by simp only[cond_false,jX,cond_true];exact k.seen i,fun _=>e⟩
def zdv (h:Host):List Bare:=(List.range h.Mons.length).map fun (i:Nat)=>zB h (i:Int)
theorem zkJ (h:Host):(zdv h).length=h.Mons.length:=by simp[zdv]
theorem znp (h:Host)(m:Int):hasB m (ln (zdv h))=hasB m (ln h.Mons):=by unfold ln;rw[zkJ]
theorem zmt {h:Host}{m:Int}(c:hasB m (ln h.Mons)=true)(d:Bare):ix (zdv h) m d=zB h m:=by have a:=zG.1 c;unfold ln at a;have b:m.toNat<(zdv h).length:=(by rw[zkJ];omega);have:=znz b d;rw[show ((m.toNat:Nat):Int)=m by omega] at this;rw[this];simp[zdv,show max m 0=m by omega]
theorem z2T {h r:Host}(a:r.Mons.length=h.Mons.length)(e:∀i,zB r i=zB h i):zdv r=zdv h:=by unfold zdv;rw[a];exact List.map_congr_left fun i _=>e _
theorem z0b {h:Host}(S:Safe h)(a:GAct):zdv (zev h a)=zNv (zdv h) a/\(zlj a=true->zjY h a=z2W (zdv h) a):=by obtain⟨_,k,l,t⟩:=z5u S a;have p:zlj a=true->zdv (zev h a)=(cond (hasB a.M (ln h.Mons)) (up (zdv h) a.M (zNt (zB h a.M) a)) (zdv h)):=(by intro b;rw[b]at l;cases f:hasB a.M (ln h.Mons) with|false=>rw[cond_false];refine zR8 ⟨[],[],[],0⟩ (by rw[zkJ,zkJ,k]) fun i c=>?_;rw[znp]at c;rw[zmt c];have d:hasB i (ln h.Mons)=true:=(by unfold ln at c ⊢;rwa [<- k]);rw[zmt d,l i];have:ieq i a.M=false:=zbZ.2 fun e=>(by rw[e,f]at d;cases d);rw[this];rfl|true=>rw[cond_true];refine zR8 ⟨[],[],[],0⟩ (by rw[zbQ,zkJ,zkJ,k]) fun i c=>?_;rw[znp]at c;rw[zmt c,l i];have d:hasB i (ln h.Mons)=true:=(by unfold ln at c ⊢;rwa [<- k]);by_cases e:i=a.M;{rw [e,zbs.2 rfl,zbg (by rw[znp];exact f)];rfl};{rw [zbZ.2 e,zbt (zG.1 f).1 (zG.1 d).1 (Ne.symm e),zmt d];rfl});have s:zlj a=false->zdv (zev h a)=zdv h:=fun b=>z2T k fun i=>(by rw[l i,b];rfl);have r:zlj a=true->win a.Kind 1 17=true/\win a.Kind 13 17=false:=(by intro b;unfold zlj at b;cases g:win a.Kind 1 17<;>cases j:win a.Kind 13 17<;>rw [g,j]at b<;>first|exact⟨rfl,rfl⟩|cases b);constructor;{unfold zNv;cases b:zlj a with|true=>obtain⟨g,j⟩:=r b;rw[g,j,cond_true,cond_false,znp,p b];(cases f:hasB a.M (ln h.Mons) with|true=>rw[cond_true,cond_true,zmt f]|false=>rfl)|false=>rw[s b];unfold zlj at b;(cases g:win a.Kind 1 17 with|false=>rfl|true=>(cases j:win a.Kind 13 17 with|true=>rfl|false=>rw[g,j]at b;cases b))};{intro b;rw[t b];obtain⟨g,j⟩:=r b;unfold z2W;rw[g,j,cond_true,cond_false,znp];cases f:hasB a.M (ln h.Mons) with|true=>rw[cond_true,zmt f]|false=>rw[cond_false,seen_none f];have n:=(zUn a.G).2;have q:=zvk;unfold zNu;simp only[n,zjR];unfold zAi ze6 zms ztN zBF zWe zpn;simp only[q,zvA q,cond_false];(cases m:ieq a.Kind 10 with|true=>have:a.Kind=10:=zbs.1 m;rw[this];rfl|false=>cases ieq a.Kind 1<;>cases ieq a.Kind 2<;>cases ieq a.Kind 3<;>cases ieq a.Kind 4<;>cases ieq a.Kind 5<;>cases ieq a.Kind 6<;>cases ieq a.Kind 7<;>cases ieq a.Kind 8<;>cases ieq a.Kind 9<;>cases ieq a.Kind 11<;>rfl)}
def zOL:List GAct->List Told->List Told
 |a::l,t::ts=>bif zlj a then t::zOL l ts else zOL l ts
 |_,_=>[]
structure Live (u:Host×List Told) (v:List Bare×List Told):Prop where
 safe:Safe u.1
 seen:zdv u.1=v.1
def zG7:List GAct->Host->List Told
 |[],_=>[]
 |a::l,h=>zjY h a::zG7 l (zev h a)
def z8i:List GAct->List Bare->List Told
 |[],_=>[]
 |a::l,b=>z2W b a::z8i l (zNv b a)
def zw9:List GAct->Host->Host
 |[],h=>h
 |a::l,h=>zw9 l (zev h a)
def z9o:List GAct->List Bare->List Bare
 |[],b=>b
 |a::l,b=>z9o l (zNv b a)
theorem z2v:∀(l:List GAct) (u:Host×List Told),zFY l u=(zw9 l u.1,u.2++zG7 l u.1)
 |[],u=>by simp[zFY,zw9,zG7]
 |a::l,u=>by rw[zFY,z2v l];simp[zw9,zG7,ap]
theorem z6t:∀(l:List GAct) {h:Host},Safe h->Safe (zw9 l h)/\zdv (zw9 l h)=z9o l (zdv h)/\zOL l (zG7 l h)=zOL l (z8i l (zdv h))/\(zw9 l h).Mons.length=h.Mons.length
 |[],h,S=>⟨S,rfl,rfl,rfl⟩
 |a::l,h,S=>by have d:=z5u S a;have b:=z0b S a;obtain⟨e,f,c,g⟩:=z6t l d.1;refine⟨e,by show zdv (zw9 l (zev h a))=z9o l (zNv (zdv h) a);rw[f,b.1],?_,g.trans d.2.1⟩;show (cond (zlj a) _ _)=(cond (zlj a) _ _);cases i:zlj a with|false=>rw[cond_false,cond_false,c,b.1]|true=>rw[cond_true,cond_true,c,b.1,b.2 i]
theorem cz8 (q:Int)(b:0<=q):zwL.countP (fun s=>ieq s.Page q)=0:=by rw[u5];intro s a;have:=(uP.1 a).2;rw[this];show ¬ ieq (-1) q=true;rw[zbs];omega
theorem z0r {p:List Ins}(h:zc6 p=true):GOk (zeO p):=⟨h,rfl,rfl,rfl,rfl,rfl,rfl,rfl,rfl⟩
theorem z7g {a:List (List Ins)}(i:1<=a.length)(h:∀p∈a,zc6 p=true):MOk (zgW a):=by have d:∀s∈zwL,s=noSlot:=fun s c=>(uP.1 c).2;refine⟨?_,?_,?_,rfl,fun s c=>.inl (d s c),rfl,rfl,j4 _,rfl,rfl,rfl,fun g hg=>?_,fun p b=>?_⟩;{show 1<=((a.take 2).map zeO).length;simp;omega};{show ((a.take 2).map zeO).length<=2;simp;omega};{show ((a.take 2).map (fun _=>zkU)).length=((a.take 2).map zeO).length;simp};{obtain⟨p,b,rfl⟩:=jE.1 hg;exact zvg.2 (z0r (h p (jU b)))};{have f:=zG.1 b;have e:p=0\/p=1\/p=2\/p=3\/p=4\/p=5\/p=6\/p=7:=(by omega);rcases e with rfl|rfl|rfl|rfl|rfl|rfl|rfl|rfl<;>rfl}
def zbcm (a:List (List (List Ins))):Prop:=1<=a.length/\∀p∈a,1<=p.length/\∀x∈p,zc6 x=true
theorem z3N {a:List (List (List Ins))}(h:zbcm a):Safe (zfQ a):=by have b:∀x∈(zfQ a).Mons,∃p∈a,x=zgW p:=fun x f=>(by obtain⟨p,j,rfl⟩:=jE.1 f;exact⟨p,jU j,rfl⟩);have u:∀x∈(zfQ a).Mons,x.Outer=zwL:=fun x f=>(by obtain⟨p,_,rfl⟩:=b x f;rfl);have H:HOk (zfQ a):=(by refine⟨rfl,fun c v=>?_,?_,?_,rfl,rfl,fun x f=>?_,fun q B=>?_⟩;{have:c=[0,0,0,0]:=(uP.1 v).2;rw[this];rfl};{show 1<=((a.take 3).map zgW).length;have:=h.1;simp;omega};{show ((a.take 3).map zgW).length<=3;simp;omega};{obtain⟨p,j,rfl⟩:=b x f;exact z7g (h.2 p j).1 (h.2 p j).2};{have:zfh (zfQ a).Mons q=0:=(by unfold zfh;have:(zfQ a).Mons.map (fun x=>cPg x q)=(zfQ a).Mons.map (fun _=>0):=List.map_congr_left fun x f=>(by unfold cPg;rw[u x f];exact cz8 q B);rw[this];generalize (zfQ a).Mons=l;induction l with|nil=>rfl|cons x l D=>rw[jD,uJ,D]);omega});refine⟨H,fun m A g hg=>?_,fun e r=>(by cases r),fun e r=>(by cases r)⟩;obtain⟨p,j,e⟩:=b _ (zmL A mZ);rw[e]at hg ⊢;have d:hasB g (ln ((p.take 2).map zeO))=true:=hg;have C:ix (zgW p).Tables g kZ=zkU:=(by have:hasB g (ln ((p.take 2).map (fun _=>zkU)))=true:=(by unfold ln at d ⊢;simpa using d);obtain⟨k,y,_,n⟩:=zB2 this kZ;show ix ((p.take 2).map (fun _=>zkU)) g kZ=_;rw[n];simp);have z:(ix (zgW p).Guests g gZ).Live=zmo:=(by obtain⟨k,y,_,n⟩:=zB2 d gZ;show (ix ((p.take 2).map zeO) g gZ).Live=_;rw[n];simp[zeO]);rw[C,z];show KOk zkU zmo zwL;refine⟨rfl,rfl,fun i w=>?_⟩;have s:=zG.1 w;have:ln zmo=4:=rfl;rw[this]at s;have t:i=0\/i=1\/i=2\/i=3:=(by omega);rcases t with rfl|rfl|rfl|rfl<;>rfl
theorem z2B:∀(l:List GAct) (u:Host×List Told),SmH u.1->SmH (zFY l u).1
 |[],u,h=>h
 |a::l,u,h=>z2B l (zev u.1 a,ap u.2 [zjY u.1 a]) (z2A h)
theorem z9D {h:Host}(L:z2R h):Safe h/\SmH h:=by obtain⟨c,l,a,b,rfl⟩:=L;refine⟨?_,z2B _ _ (zSz a)⟩;unfold zBS;rw[z2v];exact(z6t _ (z3N b)).1
def z5J:zW:=z5H
theorem zFb:zL z5J:=z5I
structure MonS (x:Mon):Prop where
 sm:zfp x
 g1:1<=x.Guests.length
 g2:x.Guests.length<=2
 t2:x.Tables.length<=2
 o8:x.Outer.length<=8
 pg:∀s∈x.Outer,I64 s.Page
structure AnyH (h:Host):Prop where
 mem:SmM h.Memory
 n1:1<=h.Mons.length
 n3:h.Mons.length<=3
 mons:∀x∈h.Mons,MonS x
 b1:h.Buffer.length<=1048576
 b2:h.IoBuffer.length<=1048576
theorem AnyH.sm {h:Host}(k:AnyH h):SmH h:=⟨k.mem,⟨qU k.n3 (by decide),fun x a=>(k.mons x a).sm⟩,k.b1,k.b2⟩
theorem z99 {h:Host}(S:Safe h)(sm:SmH h):AnyH h :=
 ⟨sm.1,S.ok.n1,S.ok.n3,fun x a=>by
  have k:=S.ok.mons x a;refine⟨sm.2.1.2 x a,k.g1,k.g2,by rw[k.gt];exact k.g2,by rw[k.o8];exact qW 8,fun s b=>?_⟩
  rcases k.sl s b with rfl|⟨c,d,_⟩
  .exact⟨by decide,by decide⟩
  .exact⟨by omega,by omega⟩,sm.2.2.1,sm.2.2.2⟩
theorem zvz {h:Host}(k:AnyH h)(i:Int){x:Mon}(b:MonS x):AnyH {h with Mons:=up h.Mons i x} :=
 ⟨k.mem,by rw[zgV];exact k.n1,by rw[zgV];exact k.n3,fun y a=>by
  rcases qY a with a|rfl
  .exact k.mons y a
  .exact b,k.b1,k.b2⟩
theorem zbeJ {g:Guest}(h:GuS g):SmG g:=⟨qU h.1 (by decide),qU h.2.1 (by decide),qU h.2.2.1 (by decide),qU h.2.2.2 (by decide)⟩
theorem zZm {l:List Guest}(h:zlB l)(i:Int){g:Guest}(hg:SmG g):zlB (up l i g):=
 ⟨by rw[zgV];exact h.1,fun y a=>by
  rcases qY a with a|rfl
  .exact h.2 y a
  .exact hg⟩
theorem zbdJ {l:List (List Int)}(h:SmM l)(i:Int){g:List Int}(hg:g.length<=1048576):SmM (up l i g):=
 ⟨by rw[zgV];exact h.1,fun y a=>by
  rcases qY a with a|rfl
  .exact h.2 y a
  .exact hg⟩
def zBp (N:Nat)(c:Cur)  : OA :=
 let j:=(ztD c);let r:=({ (zi9 c) with b:=c.b}:Cur);let f:=j.Mons;let k:=(zk r (ln f));let m:=(inb k (ln f));let g:=(ix f k zi);let q:=({ (zf r (ln f)) with b:=c.b}:Cur);let e:=(zf q 24);let l:=(zk q 24);let a:=({e with b:=c.b}:Cur);let n:=(zV a [(-1),1000000000,1000000001]);let p:=({ (zf a 8) with b:=c.b}:Cur); (oN (znY c) (oN (zA r (ln f)) (oN (zA q 24) (cond (ieq l 0) (oN (zfI a 8 12) (oN m (share (up f k ({g with Outer:=(zeM a 8 12)}:Mon)) (fun d=>(some [(.agg [(.s .u8 c.b),(.i .i64 (zgM a 8 12).i),(.i .i64 (zgM a 8 12).h)]),(aH ({j with Mons:=d}:Host))]))))) (cond (ieq l 1) (oN m (oN (zA a 8) (oN (zmf p) (oN (inb (zk a 8) (ln g.Out)) (share (up f k ({g with Out:=(up g.Out (zk a 8) (zu4 p))}:Mon)) (fun d=>(some [(.agg [(.s .u8 c.b),(.i .i64 (zmg p).i),(.i .i64 (zmg p).h)]),(aH ({j with Mons:=d}:Host))]))))))) (cond (ieq l 2) (oN m (oN (zqA a) (oN (inb 0 (ln g.Guests)) (share (up f k ({g with Guests:=(up g.Guests 0 (zCB a))}:Mon)) (fun d=>(some [(.agg [(.s .u8 c.b),(.i .i64 (zqB a).i),(.i .i64 (zqB a).h)]),(aH ({j with Mons:=d}:Host))])))))) (cond (ieq l 3) (oN m (share (up f k ({g with Tables:=[]}:Mon)) (fun d=>(some [(.agg [(.s .u8 c.b),(.i .i64 e.i),(.i .i64 e.h)]),(aH ({j with Mons:=d}:Host))])))) (cond (ieq l 4) (oN (zkE a) (some [(.agg [(.s .u8 c.b),(.i .i64 (zkF a).i),(.i .i64 (zkF a).h)]),(aH ({j with Buffer:=(zsz a)}:Host))])) (cond (ieq l 5) (oN (zmh a) (oN m (share (up f k ({g with Traps:=(zu6 a)}:Mon)) (fun d=>(some [(.agg [(.s .u8 c.b),(.i .i64 (zmi a).i),(.i .i64 (zmi a).h)]),(aH ({j with Mons:=d}:Host))]))))) (cond (ieq l 6) (oN (zbl a [(-1),1000000000,1000000001]) (oN m (share (up f k ({g with Own:=(zbh a [(-1),1000000000,1000000001])}:Mon)) (fun d=>(some [(.agg [(.s .u8 c.b),(.i .i64 n.i),(.i .i64 n.h)]),(aH ({j with Mons:=d}:Host))]))))) (cond (ieq l 7) (oN (zqp a) (some [(.agg [(.s .u8 c.b),(.i .i64 (ziJ a).i),(.i .i64 (ziJ a).h)]),(aH ({j with Memory:=(zrC a)}:Host))])) (some [(.agg [(.s .u8 c.b),(.i .i64 e.i),(.i .i64 e.h)]),(aH j)]))))))))))))
def zsJ (c:Cur)(s:Cur)(a:Host):Prop:=(∃N,zBp N c=some (AV.agg (zbU s)::[aH a]))/\(s.b=c.b/\0<=s.i)/\(AnyH a)
def zfJ (c:Cur)  : Bool:=wC (zsJ c)
def zkj (c:Cur)  : Cur:=wS (zsJ c)
def zi8 (c:Cur)  : Host:=wV (zsJ c)
theorem zqF {c:Cur}(h:zfJ c=true):zsJ c (zkj c) (zi8 c):=wG h
theorem zu8 (c:Cur)  : 0<=(zkj c).i:=wP fun h=>h.2.1.2
theorem z4T (c:Cur)(h:∃N,Ends (wE (fun a=>aH a) c.b fun a=>AnyH a) (zBp N c)):zfJ c=true:=wI (fun _ _ h=>h) h
def zDq:zdk:=rP0 fun c=>(zfJ c,zkj c,[aH (zi8 c)])
theorem zRp:zbM Tryz.prog 65 [false,true,true] zDq:=hP0 zFb zU zYO zn (zq []) (fun _ h=>(zqF h).1)
theorem zs4 {c:Cur}(h:zbd c):zfJ c=true:=by
 refine z4T c ⟨0,?_⟩;unfold zBp oN;conv=>zeta
 obtain⟨S,sm⟩:=z9D (zKk (z6J h)).2.2;have A:=z99 S sm;have q:∀{s:Cur},0<=s.i->zbd {s with b:=c.b}:=fun y=>zbL h y;have w:zbd {zi9 c with b:=c.b}:=q (z1s _);have l:0<ln (ztD c).Mons:=by have:=A.n1;unfold ln;omega
 have a:=zw2 w l (kS _);have u:=zbA a zi;generalize B:ztD c=H at *;generalize zk {zi9 c with b:=c.b} (ln H.Mons)=m at *;have M:=A.mons _ u;have x:=S.ok.mons _ u;generalize C:ix H.Mons m zi=X at *;obtain⟨p,e,f,j,k,t⟩:=M.sm;have d:∀{n},zbd {zf {zf {zi9 c with b:=c.b} n with b:=c.b} 24 with b:=c.b}:=fun {n}=>q (zF _ _);refine zo (z6J h) (zo (zbz w _) (zo (zbz (q (zF _ _)) 24)
  (zbC (fun _=>zo (zpi d (by omega) (by omega) _) (zo a (zkM (zbB aH (v:={H with Mons:=up H.Mons m {X with Outer:=zeM _ _ _}}) (zql _ _ _) (zvz A m ?_)))))
  (fun _=>zbC (fun _=>zo a (zo (zbz d 8) (zo (z1U (q (zF _ _))) (zo (zw2 d (by omega) ?_) (zkM (zbB aH (v:={H with Mons:=up H.Mons m {X with Out:=up X.Out _ (zu4 _)}}) (zY3 _) (zvz A m ?_)))))))
  (fun _=>zbC (fun _=>zo a (zo (zNs d) (zo ?_ (zkM (zbB aH (v:={H with Mons:=up H.Mons m {X with Guests:=up X.Guests 0 (zCB _)}}) (z4O _) (zvz A m ?_))))))
  (fun _=>zbC (fun _=>zo a (zkM (zbB aH (v:={H with Mons:=up H.Mons m {X with Tables:=[]}}) (zF _ _) (zvz A m ?_))))
  (fun _=>zbC (fun _=>zo (zWD d) (zbB aH (v:={H with Buffer:=zsz _}) (zVJ _) ⟨A.mem,A.n1,A.n3,A.mons,qU (zD5 (zWD d)).2.2 (by decide),A.b2⟩))
  (fun _=>zbC (fun _=>zo (zbdQ d) (zo a (zkM (zbB aH (v:={H with Mons:=up H.Mons m {X with Traps:=zu6 _}}) (zY8 _) (zvz A m ?_)))))
  (fun _=>zbC (fun _=>zo (zd2 d (by simp)) (zo a (zkM (zbB aH (v:={H with Mons:=up H.Mons m {X with Own:=zbh _ _}}) (zbO _ _) (zvz A m ?_)))))
  (fun _=>zbC (fun _=>zo (zXx d) (zbB aH (v:={H with Memory:=zrC _}) (z4B _) ⟨?_,A.n1,A.n3,A.mons,A.b1,A.b2⟩))
  (fun _=>zbB aH (v:=H) (zF _ _) A)))))))))))
 {have g:=(zqk (zpi (d (n:=ln H.Mons)) (n:=8) (by omega) (by omega) 12)).2.2 (by omega) (by omega);refine⟨⟨?_,e,f,j,k,t⟩,M.g1,M.g2,M.t2,?_,g.2 (by omega) (by omega)⟩;{have:=g.1;unfold ln at this;exact qU (m:=8) (by exact Int.ofNat_le.1 this) (by decide)};{have:=g.1;unfold ln at this;exact Int.ofNat_le.1 this}};{unfold ln;rw[x.u8];decide};{exact⟨⟨p,zbdJ e _ (qU (zGT (z1U (q (zF _ _)))).2.2 (by decide)),f,j,k,t⟩,M.g1,M.g2,M.t2,M.o8,M.pg⟩};{exact qJ (by have:=M.g1;unfold ln;omega)};{exact⟨⟨p,e,f,zZm j 0 (zbeJ (zPK (zNs d)).2.2),k,t⟩,by rw[zgV];exact M.g1,by rw[zgV];exact M.g2,M.t2,M.o8,M.pg⟩};{exact⟨⟨p,e,f,j,k,⟨by simp,by simp⟩⟩,M.g1,M.g2,by simp,M.o8,M.pg⟩};{exact⟨⟨p,e,f,j,k,t⟩,M.g1,M.g2,M.t2,M.o8,M.pg⟩};{exact⟨⟨p,e,f,j,k,t⟩,M.g1,M.g2,M.t2,M.o8,M.pg⟩};{have g:=(zPI (zXx (d (n:=ln H.Mons)))).2.2;exact⟨qU g.1 (by decide),fun r z=>qU (g.2 r z) (by decide)⟩}
def zbb7:zcL:=[(65,([false,true,true],zDq))]++zbb6
theorem z9Y:zb8 zbb7:=zcr zYO (by
 intro x a;simp only[qG,qN,or_false]at a;rcases a with rfl
 .exact zRp)
def zEU (N:Nat)(c:Cur)  : OA :=
 let a:=(zV c [0,0,0,1,1,2,(-1),9223372036854775807]); (oN (zbl c [0,0,0,1,1,2,(-1),9223372036854775807]) (some [(.agg [(.s .u8 c.b),(.i .i64 a.i),(.i .i64 a.h)]),(aI (zbh c [0,0,0,1,1,2,(-1),9223372036854775807]))]))
def zu9 (c:Cur)(s:Cur)(a:Int):Prop:=(∃N,zEU N c=some (AV.agg (zbU s)::[aI a]))/\(s.b=c.b/\0<=s.i)/\(True)
def zey (c:Cur)  : Bool:=wC (zu9 c)
def zjL (c:Cur)  : Cur:=wS (zu9 c)
def zh3 (c:Cur)  : Int:=wV (zu9 c)
theorem z7J {c:Cur}(h:zey c=true):zu9 c (zjL c) (zh3 c):=wG h
theorem ztC (c:Cur)  : 0<=(zjL c).i:=wP fun h=>h.2.1.2
theorem z7K (c:Cur)(h:∃N,Ends (wE (fun a=>aI a) c.b fun a=>True) (zEU N c)):zey c=true:=wI (fun _ _ h=>h) h
def zFW:zdk:=rP0 fun c=>(zey c,zjL c,[aI (zh3 c)])
theorem zUK:zbM Tryz.prog 66 [false,true,true] zFW:=hP0 zFb zU zMf zn (zq []) (fun _ h=>(z7J h).1)
theorem zWz {c:Cur}(h:zbd c):zey c=true:=by
 refine z7K c ⟨0,?_⟩;unfold zEU oN;conv=>zeta
 exact zo (zd2 h (by simp)) (zbB aI (zbO _ _) trivial)
def zbb8:zcL:=[(66,([false,true,true],zFW))]++zbb7
theorem zCj:zb8 zbb8:=zcr z9Y (by
 intro x a;simp only[qG,qN,or_false]at a;rcases a with rfl
 .exact zUK)
def zba7:zW:=[(298,zt5)]++z5J
theorem z81:zL zba7:=zh zxq zFb
theorem zsU {a:List Int}(h:a.length<=big){G:Ans->Prop}{N:Nat}(l:a.length<N){g:Int}{R:Int->OA}{d:Type}(S:Int->Int->d){F:(d->OA)->d->OA}(k:∀rec i t,F rec (S i t)=bif ilt i (ln a) then (cond (ilt i 4000) (cond (inb i (ln a)) (rec (S (zM .i64 i 1) (wand .i64 (zM .i64 (zM .i64 (zle .i64 t 131) (wcv .i64 (ix a i 0))) 7) 1073741823))) none) (R t)) else R t)(e:∀t,zbd ⟨a,0,t⟩->Ends G (R t)):Ends G (iter N F (S 0 g)):=by refine zns (fun n s=>∃(i:Nat) (t:Int),s=S (i:Int) t/\i+n=a.length) ?_ N a.length _ ⟨0,g,rfl,by omega⟩ l;rintro n s rec ⟨i,t,rfl,p⟩ b;rw[k];have f:zbd ⟨a,0,t⟩:=⟨kS 0,h⟩;refine zbC (fun j=>zbC (fun m=>?_) (fun _=>e t f)) (fun _=>e t f);have c:(i:Int)<ln a:=qE j;unfold ln at c;rw[zbj (show i<a.length by omega) h];exact zo (qJ ⟨by omega,by unfold ln;omega⟩) (b (n-1) _ (by omega) ⟨i+1,_,rfl,by omega⟩)
theorem zoy {b:List Int}(h:b.length<=big){s:Cur}(a:0<=s.i):zbd {s with b:=b}:=⟨a,h⟩
def zba8:zW:=zba7
theorem zjS:zL zba8:=z81
def zBn (N:Nat)(c:Cur)  : OA :=
 let a:=(zV c [0,7,50,99,100,(-1)]); (oN (zbl c [0,7,50,99,100,(-1)]) (some [(.agg [(.s .u8 c.b),(.i .i64 a.i),(.i .i64 a.h)]),(aI (zbh c [0,7,50,99,100,(-1)]))]))
def zsH (c:Cur)(s:Cur)(a:Int):Prop:=(∃N,zBn N c=some (AV.agg (zbU s)::[aI a]))/\(s.b=c.b/\0<=s.i)/\(True)
def znd (c:Cur)  : Bool:=wC (zsH c)
def zPL (c:Cur)  : Cur:=wS (zsH c)
def zCC (c:Cur)  : Int:=wV (zsH c)
theorem z4P {c:Cur}(h:znd c=true):zsH c (zPL c) (zCC c):=wG h
theorem z4Q (c:Cur)(h:∃N,Ends (wE (fun a=>aI a) c.b fun a=>True) (zBn N c)):znd c=true:=wI (fun _ _ h=>h) h
def zDo:zdk:=rP0 fun c=>(znd c,zPL c,[aI (zCC c)])
theorem zRn:zbM Tryz.prog 79 [false,true,true] zDo:=hP0 zjS zU zCj zn (zq []) (fun _ h=>(z4P h).1)
theorem zbfg {c:Cur}(h:zbd c):znd c=true:=by
 refine z4Q c ⟨0,?_⟩;unfold zBn oN;conv=>zeta
 exact zo (zd2 h (by simp)) (zbB aI (zbO _ _) trivial)
def zZ9 (N:Nat)(c:Cur)  : OA :=
 let d:=({ (zf c 16) with b:=c.b}:Cur);let a:=({ (zf d 16) with b:=c.b}:Cur);let e:=({ (zf a 16) with b:=c.b}:Cur);let f:=(zV e [(zk c 16),(zk d 16),(zk a 16),15,16,(-1),9223372036854775807]); (oN (zA c 16) (oN (zA d 16) (oN (zA a 16) (oN (zbl e [(zk c 16),(zk d 16),(zk a 16),15,16,(-1),9223372036854775807]) (some [(.agg [(.s .u8 c.b),(.i .i64 f.i),(.i .i64 f.h)]),(aI (zbh e [(zk c 16),(zk d 16),(zk a 16),15,16,(-1),9223372036854775807]))])))))
def zqD (c:Cur)(s:Cur)(a:Int):Prop:=(∃N,zZ9 N c=some (AV.agg (zbU s)::[aI a]))/\(s.b=c.b/\0<=s.i)/\(True)
def zKi (c:Cur)  : Bool:=wC (zqD c)
def zKj (c:Cur)  : Cur:=wS (zqD c)
def zUc (c:Cur)  : Int:=wV (zqD c)
theorem z1q {c:Cur}(h:zKi c=true):zqD c (zKj c) (zUc c):=wG h
def zAr:zdk:=rP0 fun c=>(zKi c,zKj c,[aI (zUc c)])
theorem zOC:zbM Tryz.prog 141 [false,true,true] zAr:=hP0 zjS zU zCj zn (zq []) (fun _ h=>(z1q h).1)
def zvy (N:Nat)(c:Cur)  : OA :=
 let a:=(zi8 c);let d:=(ix a.Mons 0 zi);let g:=({ (zkj c) with b:=c.b}:Cur);let e:=(zO g 2);let f:=({e with b:=c.b}:Cur); (oN (zfJ c) (oN (zcI g 2) (cond (zcT g 2) (oN (inb 0 (ln a.Mons)) (cond (igt (ln d.Guests) 0) (oN (inb 0 (ln a.Mons)) (oN (zhf f) (oN (inb 0 (ln d.Guests)) (share (up a.Mons 0 ({d with Guests:=(up d.Guests 0 ({ (ix d.Guests 0 zD) with Exit:=(zb5 f)}:Guest))}:Mon)) (fun j=>(some [(.agg [(.s .u8 c.b),(.i .i64 (zef f).i),(.i .i64 (zef f).h)]),(aH ({a with Mons:=j}:Host))])))))) (some [(.agg [(.s .u8 c.b),(.i .i64 e.i),(.i .i64 e.h)]),(aH a)]))) (some [(.agg [(.s .u8 c.b),(.i .i64 e.i),(.i .i64 e.h)]),(aH a)]))))
def zol (c:Cur)(s:Cur)(a:Host):Prop:=(∃N,zvy N c=some (AV.agg (zbU s)::[aH a]))/\(s.b=c.b/\0<=s.i)/\(AnyH a)
def zgB (c:Cur)  : Bool:=wC (zol c)
def zml (c:Cur)  : Cur:=wS (zol c)
def znf (c:Cur)  : Host:=wV (zol c)
theorem zwG {c:Cur}(h:zgB c=true):zol c (zml c) (znf c):=wG h
theorem zGW (c:Cur)  : 0<=(zml c).i:=wP fun h=>h.2.1.2
theorem zZd (c:Cur)(h:∃N,Ends (wE (fun a=>aH a) c.b fun a=>AnyH a) (zvy N c)):zgB c=true:=wI (fun _ _ h=>h) h
def zxI:zdk:=rP0 fun c=>(zgB c,zml c,[aH (znf c)])
theorem zLE:zbM Tryz.prog 78 [false,true,true] zxI:=hP0 zjS zU zCj zn (zq []) (fun _ h=>(zwG h).1)
theorem zHQ {c:Cur}(h:zbd c):zgB c=true:=by
 refine zZd c ⟨0,?_⟩;unfold zvy oN;conv=>zeta
 have q:∀{s:Cur},0<=s.i->zbd {s with b:=c.b}:=fun f=>zbL h f;have A:=(zqF (zs4 h)).2.2;generalize zi8 c=H at A;have a:inb 0 (ln H.Mons)=true:=qJ (by have:=A.n1;unfold ln;omega);have M:=A.mons _ (zbA a zi);generalize ix H.Mons 0 zi=X at M;have hg:inb 0 (ln X.Guests)=true:=qJ (by have:=M.g1;unfold ln;omega);refine zo (zs4 h) (zo (zio (q (zu8 _)) 2) (zbC (fun _=>zo a (zbC (fun _=>zo a (zo (zNL (q (zb7 _ _))) (zo hg (zkM (zbB aH (v:={H with Mons:=up H.Mons 0 {X with Guests:=up X.Guests 0 {ix X.Guests 0 zD with Exit:=zb5 _}}}) (zsF _) (zvz A 0 ?_)))))) (fun _=>zbB aH (v:=H) (zb7 _ _) A))) (fun _=>zbB aH (v:=H) (zb7 _ _) A)));obtain⟨g,j,k,e,l,m⟩:=M.sm;have d:=e.2 _ (zbA hg zD);exact⟨⟨g,j,k,zZm e 0 ⟨d.1,d.2.1,d.2.2.1,d.2.2.2⟩,l,m⟩,by rw[zgV];exact M.g1,by rw[zgV];exact M.g2,M.t2,M.o8,M.pg⟩
def zbe9:zcL:=[(79,([false,true,true],zDo)),(141,([false,true,true],zAr)),(78,([false,true,true],zxI))]++zbb8
theorem zv7:zb8 zbe9:=zcr zCj (by
 intro x a;simp only[qG,qN,or_false]at a;rcases a with rfl|rfl|rfl
 .exact zRn
 .exact zOC
 .exact zLE)
def zlh (N:Nat)(j:List Int):OA:=
 (iter (σ:=(Int×(Int×(Int×(Int×((List Int)×(lM×(lN×(lE×(lE×Unit)))))))))) N (fun k a=>let c:=a.2.2.2.2.1;let h:=(⟨c,0,a.1⟩:Cur);let f:=({ (zkj h) with b:=c}:Cur);let e:=({ (zjL f) with b:=c}:Cur);let g:=({ (zmk e) with b:=c}:Cur);let d:=({ (zsw g) with b:=c}:Cur); (cond (ilt a.2.1 (ln c)) (cond (ilt a.2.1 4000) (oN (inb a.2.1 (ln c)) (k ((wand .i64 (zM .i64 (zM .i64 (zle .i64 a.1 131) (wcv .i64 (ix c a.2.1 0))) 7) 1073741823),((zM .i64 a.2.1 1),(a.2.2.1,(a.2.2.2.1,(c,(a.2.2.2.2.2.1,(a.2.2.2.2.2.2.1,(a.2.2.2.2.2.2.2.1,(a.2.2.2.2.2.2.2.2.1,()))))))))))) (oN (zfJ h) (oN (zey f) (oN (zex e) (oN (zk4 g) (oN (zkf d 8) (some [(aH (zi8 h)),(aI (zh3 f)),(aI (zh2 e)),(aI (zyw g)),(.agg [(.i .i64 (zoT d 8).Page),(.i .i64 (zoT d 8).Rights)])]))))))) (oN (zfJ h) (oN (zey f) (oN (zex e) (oN (zk4 g) (oN (zkf d 8) (some [(aH (zi8 h)),(aI (zh3 f)),(aI (zh2 e)),(aI (zyw g)),(.agg [(.i .i64 (zoT d 8).Page),(.i .i64 (zoT d 8).Rights)])])))))))) ((zM .i64 94701 (ln j)),(0,(0,(0,(j,([],([],([],([],()))))))))))
def zIM:FuncId->Nat->Option Tmpl:=zq [(64,0,{n:=32,tm:=[(0,.sl 0 []),(3,ti),(4,ti)],lo:=[(0,[.sl 1 [],.sl 2 [],.sl 3 [],.sl 4 []]),(1,[ti,ti])],ro:=[(0,.u8,false),(1,(.sl .int),true),(2,.mon,true),(3,.entry,true),(4,.entry,true)],sk:=[(0,2,0,.lp 0 0),(0,6,0,.lp 1 0)]})]
def zoN (b:List Int)(a:Host)(c:Int)(d:Int)(e:Int)(f:Slot):Prop:=(∃N,zlh N b=some [aH a,aI c,aI d,aI e,aT .slot f])/\(AnyH a)
def zgJ (a:List Int):Bool:=uC (T:=Host×Int×Int×Int×Slot) (fun r=>zoN a r.1 r.2.1 r.2.2.1 r.2.2.2.1 r.2.2.2.2)
def ziE (a:List Int):Host×Int×Int×Int×Slot:=uV (fun r=>zoN a r.1 r.2.1 r.2.2.1 r.2.2.2.1 r.2.2.2.2)
def zlr (a:List Int):Host:=(ziE a).1
def zls (a:List Int):Int:=(ziE a).2.1
def zlt (a:List Int):Int:=(ziE a).2.2.1
def zlu (a:List Int):Int:=(ziE a).2.2.2.1
def zlv (a:List Int):Slot:=(ziE a).2.2.2.2
theorem zx4 {a:List Int}(h:zgJ a=true):zoN a (zlr a) (zls a) (zlt a) (zlu a) (zlv a):=uG h
theorem zPE (i:List Int)(h:∃N,Ends (fun a=>∃b c d f g,a=[aH b,aI c,aI d,aI f,aT .slot g]/\(AnyH b)) (zlh N i)):zgJ i=true:=by obtain⟨N,a,e,b,c,d,f,g,rfl,h⟩:=h;exact zY ⟨(b,c,d,f,g),⟨N,e⟩,h⟩
def zuC:Run:=rF1 (dS .u8) fun b=>(zgJ b,[aH (zlr b),aI (zls b),aI (zlt b),aI (zlu b),aT .slot (zlv b)])
theorem zIr (a:List Int)(b:zgJ a=true):∃N,zlh N a=some [aH (zlr a),aI (zls a),aI (zlt a),aI (zlu a),aT .slot (zlv a)]:=by exact(zx4 b).1
theorem zEc:vM 8 zuC:=kF1 zjS zU zv7 zn zIM zIr
theorem zzX {a:List Int}(h:a.length<=big):zgJ a=true:=by
 refine zPE a (zcp fun N b=>?_);unfold zlh oN;conv=>zeta
 refine zsU h (b h) ((fun i t=>(t,(i:Int),0,0,a,[],[],[],[],())):Int->Int->_) (fun rec i t=>by dsimp only) (fun t c=>?_);exact zo (zs4 c) (zo (zWz (zoy h (zu8 _))) (zo (zE2 (zoy h (ztC _))) (zo (zbdt (zoy h (zyy _))) (zo (zE0 (zoy h (z1g _)) _) ⟨_,rfl,_,_,_,_,_,rfl,(zqF (zs4 c)).2.2⟩))))
def zh7 (N:Nat)(h:List Int):OA:=
 (iter (σ:=(Int×(Int×((List Int)×(lM×(lN×(lE×(lE×Unit)))))))) N (fun i a=>let c:=a.2.2.1;let f:=(⟨c,0,a.1⟩:Cur);let e:=({ (zml f) with b:=c}:Cur);let d:=({ (zjL e) with b:=c}:Cur);let g:=({ (zmk d) with b:=c}:Cur); (cond (ilt a.2.1 (ln c)) (cond (ilt a.2.1 4000) (oN (inb a.2.1 (ln c)) (i ((wand .i64 (zM .i64 (zM .i64 (zle .i64 a.1 131) (wcv .i64 (ix c a.2.1 0))) 7) 1073741823),((zM .i64 a.2.1 1),(c,(a.2.2.2.1,(a.2.2.2.2.1,(a.2.2.2.2.2.1,(a.2.2.2.2.2.2.1,()))))))))) (oN (zgB f) (oN (zey e) (oN (zex d) (oN (znd g) (some [(aH (znf f)),(aI (zh3 e)),(aI (zh2 d)),(aI (zCC g))])))))) (oN (zgB f) (oN (zey e) (oN (zex d) (oN (znd g) (some [(aH (znf f)),(aI (zh3 e)),(aI (zh2 d)),(aI (zCC g))]))))))) ((zM .i64 94701 (ln h)),(0,(h,([],([],([],([],()))))))))
def zCL:FuncId->Nat->Option Tmpl:=zq [(64,0,{n:=32,tm:=[(0,.sl 0 []),(3,ti),(4,ti)],lo:=[(0,[.sl 1 [],.sl 2 [],.sl 3 [],.sl 4 []])],ro:=[(0,.u8,false),(1,(.sl .int),true),(2,.mon,true),(3,.entry,true),(4,.entry,true)],sk:=[(0,2,0,.lp 0 0)]})]
def zla (b:List Int)(a:Host)(c:Int)(d:Int)(e:Int):Prop:=(∃N,zh7 N b=some [aH a,aI c,aI d,aI e])/\(AnyH a)
def ze7 (a:List Int):Bool:=uC (T:=Host×Int×Int×Int) (fun r=>zla a r.1 r.2.1 r.2.2.1 r.2.2.2)
def ziv (a:List Int):Host×Int×Int×Int:=uV (fun r=>zla a r.1 r.2.1 r.2.2.1 r.2.2.2)
def zir (a:List Int):Host:=(ziv a).1
def zis (a:List Int):Int:=(ziv a).2.1
def zit (a:List Int):Int:=(ziv a).2.2.1
def ziu (a:List Int):Int:=(ziv a).2.2.2
theorem ztu {a:List Int}(h:ze7 a=true):zla a (zir a) (zis a) (zit a) (ziu a):=uG h
theorem zGJ (g:List Int)(h:∃N,Ends (fun a=>∃b c d f,a=[aH b,aI c,aI d,aI f]/\(AnyH b)) (zh7 N g)):ze7 g=true:=by obtain⟨N,a,e,b,c,d,f,rfl,h⟩:=h;exact zY ⟨(b,c,d,f),⟨N,e⟩,h⟩
def zpN:Run:=rF1 (dS .u8) fun b=>(ze7 b,[aH (zir b),aI (zis b),aI (zit b),aI (ziu b)])
theorem zB5 (a:List Int)(b:ze7 a=true):∃N,zh7 N a=some [aH (zir a),aI (zis a),aI (zit a),aI (ziu a)]:=by exact(ztu b).1
theorem zy0:vM 11 zpN:=kF1 zjS zU zv7 zn zCL zB5
theorem zus {a:List Int}(h:a.length<=big):ze7 a=true:=by
 refine zGJ a (zcp fun N b=>?_);unfold zh7 oN;conv=>zeta
 refine zsU h (b h) ((fun i t=>(t,(i:Int),a,[],[],[],[],())):Int->Int->_) (fun rec i t=>by dsimp only) (fun t c=>?_);exact zo (zHQ c) (zo (zWz (zoy h (zGW _))) (zo (zE2 (zoy h (ztC _))) (zo (zbfg (zoy h (zyy _))) ⟨_,rfl,_,_,_,_,rfl,(zwG (zHQ c)).2.2⟩)))
def zh9 (N:Nat)(g:List Int):OA:=
 (iter (σ:=(Int×(Int×((List Int)×(lM×(lN×(lE×(lE×Unit)))))))) N (fun h a=>let c:=a.2.2.1;let e:=(⟨c,0,a.1⟩:Cur);let d:=({ (zml e) with b:=c}:Cur);let f:=({ (zjL d) with b:=c}:Cur); (cond (ilt a.2.1 (ln c)) (cond (ilt a.2.1 4000) (oN (inb a.2.1 (ln c)) (h ((wand .i64 (zM .i64 (zM .i64 (zle .i64 a.1 131) (wcv .i64 (ix c a.2.1 0))) 7) 1073741823),((zM .i64 a.2.1 1),(c,(a.2.2.2.1,(a.2.2.2.2.1,(a.2.2.2.2.2.1,(a.2.2.2.2.2.2.1,()))))))))) (oN (zgB e) (oN (zey d) (oN (zex f) (some [(aH (znf e)),(aI (zh3 d)),(aI (zh2 f))]))))) (oN (zgB e) (oN (zey d) (oN (zex f) (some [(aH (znf e)),(aI (zh3 d)),(aI (zh2 f))])))))) ((zM .i64 94701 (ln g)),(0,(g,([],([],([],([],()))))))))
def zCN:FuncId->Nat->Option Tmpl:=zq [(64,0,{n:=32,tm:=[(0,.sl 0 []),(3,ti),(4,ti)],lo:=[(0,[.sl 1 [],.sl 2 [],.sl 3 [],.sl 4 []])],ro:=[(0,.u8,false),(1,(.sl .int),true),(2,.mon,true),(3,.entry,true),(4,.entry,true)],sk:=[(0,2,0,.lp 0 0)]})]
def zlc (b:List Int)(a:Host)(c:Int)(d:Int):Prop:=(∃N,zh9 N b=some [aH a,aI c,aI d])/\(AnyH a)
def ze9 (a:List Int):Bool:=uC (T:=Host×Int×Int) (fun r=>zlc a r.1 r.2.1 r.2.2)
def zl9 (a:List Int):Host×Int×Int:=uV (fun r=>zlc a r.1 r.2.1 r.2.2)
def ziB (a:List Int):Host:=(zl9 a).1
def ziC (a:List Int):Int:=(zl9 a).2.1
def ziD (a:List Int):Int:=(zl9 a).2.2
theorem ztw {a:List Int}(h:ze9 a=true):zlc a (ziB a) (ziC a) (ziD a):=uG h
theorem zGL (f:List Int)(h:∃N,Ends (fun a=>∃b c d,a=[aH b,aI c,aI d]/\(AnyH b)) (zh9 N f)):ze9 f=true:=by obtain⟨N,a,e,b,c,d,rfl,h⟩:=h;exact zY ⟨(b,c,d),⟨N,e⟩,h⟩
def zpP:Run:=rF1 (dS .u8) fun b=>(ze9 b,[aH (ziB b),aI (ziC b),aI (ziD b)])
theorem zB7 (a:List Int)(b:ze9 a=true):∃N,zh9 N a=some [aH (ziB a),aI (ziC a),aI (ziD a)]:=by exact(ztw b).1
theorem zy2:vM 14 zpP:=kF1 zjS zU zv7 zn zCN zB7
theorem zuu {a:List Int}(h:a.length<=big):ze9 a=true:=by
 refine zGL a (zcp fun N b=>?_);unfold zh9 oN;conv=>zeta
 refine zsU h (b h) ((fun i t=>(t,(i:Int),a,[],[],[],[],())):Int->Int->_) (fun rec i t=>by dsimp only) (fun t c=>?_);exact zo (zHQ c) (zo (zWz (zoy h (zGW _))) (zo (zE2 (zoy h (ztC _))) ⟨_,rfl,_,_,_,rfl,(zwG (zHQ c)).2.2⟩))
def zh8 (N:Nat)(g:List Int):OA:=
 (iter (σ:=(Int×(Int×((List Int)×(lM×(lN×(lE×(lE×Unit)))))))) N (fun k a=>let c:=a.2.2.1;let f:=(⟨c,0,a.1⟩:Cur);let e:=({ (zkj f) with b:=c}:Cur);let d:=({ (zjL e) with b:=c}:Cur);let h:=({ (zmk d) with b:=c}:Cur);let j:=(zbl h [0,3,7,8,(-1)]);let i:=(aI (zbh h [0,3,7,8,(-1)])); (cond (ilt a.2.1 (ln c)) (cond (ilt a.2.1 4000) (oN (inb a.2.1 (ln c)) (k ((wand .i64 (zM .i64 (zM .i64 (zle .i64 a.1 131) (wcv .i64 (ix c a.2.1 0))) 7) 1073741823),((zM .i64 a.2.1 1),(c,(a.2.2.2.1,(a.2.2.2.2.1,(a.2.2.2.2.2.1,(a.2.2.2.2.2.2.1,()))))))))) (oN (zfJ f) (oN (zey e) (oN (zex d) (oN j (some [(aH (zi8 f)),(aI (zh3 e)),(aI (zh2 d)),i])))))) (oN (zfJ f) (oN (zey e) (oN (zex d) (oN j (some [(aH (zi8 f)),(aI (zh3 e)),(aI (zh2 d)),i]))))))) ((zM .i64 94701 (ln g)),(0,(g,([],([],([],([],()))))))))
def zCM:FuncId->Nat->Option Tmpl:=zq [(64,0,{n:=32,tm:=[(0,.sl 0 []),(3,ti),(4,ti)],lo:=[(0,[.sl 1 [],.sl 2 [],.sl 3 [],.sl 4 []])],ro:=[(0,.u8,false),(1,(.sl .int),true),(2,.mon,true),(3,.entry,true),(4,.entry,true)],sk:=[(0,2,0,.lp 0 0)]})]
def zlb (b:List Int)(a:Host)(c:Int)(d:Int)(e:Int):Prop:=(∃N,zh8 N b=some [aH a,aI c,aI d,aI e])/\(AnyH a)
def ze8 (a:List Int):Bool:=uC (T:=Host×Int×Int×Int) (fun r=>zlb a r.1 r.2.1 r.2.2.1 r.2.2.2)
def ziA (a:List Int):Host×Int×Int×Int:=uV (fun r=>zlb a r.1 r.2.1 r.2.2.1 r.2.2.2)
def ziw (a:List Int):Host:=(ziA a).1
def zix (a:List Int):Int:=(ziA a).2.1
def ziy (a:List Int):Int:=(ziA a).2.2.1
def ziz (a:List Int):Int:=(ziA a).2.2.2
theorem ztv {a:List Int}(h:ze8 a=true):zlb a (ziw a) (zix a) (ziy a) (ziz a):=uG h
theorem zGK (g:List Int)(h:∃N,Ends (fun a=>∃b c d f,a=[aH b,aI c,aI d,aI f]/\(AnyH b)) (zh8 N g)):ze8 g=true:=by obtain⟨N,a,e,b,c,d,f,rfl,h⟩:=h;exact zY ⟨(b,c,d,f),⟨N,e⟩,h⟩
def zpO:Run:=rF1 (dS .u8) fun b=>(ze8 b,[aH (ziw b),aI (zix b),aI (ziy b),aI (ziz b)])
theorem zB6 (a:List Int)(b:ze8 a=true):∃N,zh8 N a=some [aH (ziw a),aI (zix a),aI (ziy a),aI (ziz a)]:=by exact(ztv b).1
theorem zy1:vM 17 zpO:=kF1 zjS zU zv7 zn zCM zB6
theorem zut {a:List Int}(h:a.length<=big):ze8 a=true:=by
 refine zGK a (zcp fun N b=>?_);unfold zh8 oN;conv=>zeta
 refine zsU h (b h) ((fun i t=>(t,(i:Int),a,[],[],[],[],())):Int->Int->_) (fun rec i t=>by dsimp only) (fun t c=>?_);exact zo (zs4 c) (zo (zWz (zoy h (zu8 _))) (zo (zE2 (zoy h (ztC _))) (zo (zd2 (zoy h (zyy _)) (by simp)) ⟨_,rfl,_,_,_,_,rfl,(zqF (zs4 c)).2.2⟩)))
def zlg (N:Nat)(j:List Int):OA:=
 (iter (σ:=(Int×(Int×(Int×(Int×(Bool×((List Int)×(lM×(lN×(lE×(lE×Unit))))))))))) N (fun k a=>let c:=a.2.2.2.2.2.1;let g:=(⟨c,0,a.1⟩:Cur);let f:=({ (zkj g) with b:=c}:Cur);let e:=({ (zjL f) with b:=c}:Cur);let h:=({ (zmk e) with b:=c}:Cur);let d:=(zwE h); (cond (ilt a.2.1 (ln c)) (cond (ilt a.2.1 4000) (oN (inb a.2.1 (ln c)) (k ((wand .i64 (zM .i64 (zM .i64 (zle .i64 a.1 131) (wcv .i64 (ix c a.2.1 0))) 7) 1073741823),((zM .i64 a.2.1 1),(a.2.2.1,(a.2.2.2.1,(a.2.2.2.2.1,(c,(a.2.2.2.2.2.2.1,(a.2.2.2.2.2.2.2.1,(a.2.2.2.2.2.2.2.2.1,(a.2.2.2.2.2.2.2.2.2.1,())))))))))))) (oN (zfJ g) (oN (zey f) (oN (zex e) (oN (zkh h) (some [(aH (zi8 g)),(aI (zh3 f)),(aI (zh2 e)),(.agg [(.i .i64 d.Traps),(.i .i64 d.Post),(.b d.Open)])])))))) (oN (zfJ g) (oN (zey f) (oN (zex e) (oN (zkh h) (some [(aH (zi8 g)),(aI (zh3 f)),(aI (zh2 e)),(.agg [(.i .i64 d.Traps),(.i .i64 d.Post),(.b d.Open)])]))))))) ((zM .i64 94701 (ln j)),(0,(0,(0,(false,(j,([],([],([],([],())))))))))))
def zIL:FuncId->Nat->Option Tmpl:=zq [(64,0,{n:=32,tm:=[(0,.sl 0 []),(3,ti),(4,ti)],lo:=[(0,[.sl 1 [],.sl 2 [],.sl 3 [],.sl 4 []]),(1,[ti,ti,.b])],ro:=[(0,.u8,false),(1,(.sl .int),true),(2,.mon,true),(3,.entry,true),(4,.entry,true)],sk:=[(0,2,0,.lp 0 0),(0,5,0,.lp 1 0)]})]
def zoM (b:List Int)(a:Host)(c:Int)(d:Int)(e:Ctl):Prop:=(∃N,zlg N b=some [aH a,aI c,aI d,.agg (zk8 e)])/\(AnyH a)
def zgI (a:List Int):Bool:=uC (T:=Host×Int×Int×Ctl) (fun r=>zoM a r.1 r.2.1 r.2.2.1 r.2.2.2)
def zlq (a:List Int):Host×Int×Int×Ctl:=uV (fun r=>zoM a r.1 r.2.1 r.2.2.1 r.2.2.2)
def zlm (a:List Int):Host:=(zlq a).1
def zln (a:List Int):Int:=(zlq a).2.1
def zlo (a:List Int):Int:=(zlq a).2.2.1
def zlp (a:List Int):Ctl:=(zlq a).2.2.2
theorem zx3 {a:List Int}(h:zgI a=true):zoM a (zlm a) (zln a) (zlo a) (zlp a):=uG h
theorem zPD (g:List Int)(h:∃N,Ends (fun a=>∃b c d f,a=[aH b,aI c,aI d,.agg (zk8 f)]/\(AnyH b)) (zlg N g)):zgI g=true:=by obtain⟨N,a,e,b,c,d,f,rfl,h⟩:=h;exact zY ⟨(b,c,d,f),⟨N,e⟩,h⟩
def zuB:Run:=rF1 (dS .u8) fun b=>(zgI b,[aH (zlm b),aI (zln b),aI (zlo b),.agg (zk8 (zlp b))])
theorem zIq (a:List Int)(b:zgI a=true):∃N,zlg N a=some [aH (zlm a),aI (zln a),aI (zlo a),.agg (zk8 (zlp a))]:=by exact(zx3 b).1
theorem zEb:vM 20 zuB:=kF1 zjS zU zv7 zn zIL zIq
theorem zzW {a:List Int}(h:a.length<=big):zgI a=true:=by
 refine zPD a (zcp fun N b=>?_);unfold zlg oN;conv=>zeta
 refine zsU h (b h) ((fun i t=>(t,(i:Int),0,0,false,a,[],[],[],[],())):Int->Int->_) (fun rec i t=>by dsimp only) (fun t c=>?_);exact zo (zs4 c) (zo (zWz (zoy h (zu8 _))) (zo (zE2 (zoy h (ztC _))) (zo (zWv (zoy h (zyy _))) ⟨_,rfl,_,_,_,_,rfl,(zqF (zs4 c)).2.2⟩)))
def zba9:zW:=zba8
theorem z88:zL zba9:=zjS
def zbba:zW:=[(8,zuC),(11,zpN),(14,zpP),(17,zpO),(20,zuB)]++zba9
theorem zWR:zL zbba:=zh zEc (zh zy0 (zh zy2 (zh zy1 (zh zEb z88))))
def zgt (x y:List Int):Bool:=pc (x=y)
def zg1 (_ _:List Int):Bool:=true
def zAG:Run:=rF2 (dS .int) (dS .int) fun b c=>(zgt b c,[aB (zg1 b c)])
def zEz (N:Nat)(b c:List Int):OA:=
 (cond (ine (ln b) (ln c)) oF (iter (σ:=(Int×((List Int)×((List Int)×Unit)))) N (fun d a=>(cond (ilt a.1 (ln a.2.1)) (oN (inb a.1 (ln a.2.1)) (oN (inb a.1 (ln a.2.2.1)) (cond (ine (ix a.2.1 a.1 0) (ix a.2.2.1 a.1 0)) oF (d ((zM .i64 a.1 1),(a.2.1,(a.2.2.1,()))))))) oT)) (0,(b,(c,())))))
def zSH:FuncId->Nat->Option Tmpl:=zq [(33,0,{n:=26,tm:=[(0,.sl 0 []),(1,.sl 1 []),(5,ti)],lo:=[],ro:=[(0,.int,false),(1,.int,false)]})]
theorem zRK (a b:List Int)(d:zci big [aS .int a,aS .int b])(e:zgt a b=true):∃N,zEz N a b=some [aB (zg1 a b)]:=by have:=zK.1 e;subst this;have f:=(len0 d);refine⟨a.length+1,?_⟩;unfold zEz oN;rw[zdf];refine zmz a zbfm _ _ f (fun i c rec=>?_) (fun rec=>?_) (j3 _);{simp only [zbG c,zbi c,zbp c,zri,zdf,zes,zdq,cT,cF,jT,jX]};{simp only [zbw,cF,zg1]}
theorem zLg:vM 33 zAG:=hF2 zdw zU zy zn zSH zRK
def zhY (x y:List Bool):Bool:=pc (x=y)
def ziW (_ _:List Bool):Bool:=true
def zxQ:Run:=rF2 (dS .bool) (dS .bool) fun b c=>(zhY b c,[aB (ziW b c)])
def zCY (N:Nat)(b c:lB):OA:=
 (cond (ine (ln b) (ln c)) oF (iter (σ:=(Int×(lB×(lB×Unit)))) N (fun d a=>(cond (ilt a.1 (ln a.2.1)) (oN (inb a.1 (ln a.2.1)) (oN (inb a.1 (ln a.2.2.1)) (cond (nB (ziP (ix a.2.1 a.1 false) (ix a.2.2.1 a.1 false))) oF (d ((zM .i64 a.1 1),(a.2.1,(a.2.2.1,()))))))) oT)) (0,(b,(c,())))))
def zP7:FuncId->Nat->Option Tmpl:=zq [(268,0,{n:=26,tm:=[(0,.sl 0 []),(1,.sl 1 []),(5,ti)],lo:=[],ro:=[(0,.bool,false),(1,.bool,false)]})]
theorem zOW (a b:List Bool)(d:zci big [aS .bool a,aS .bool b])(e:zhY a b=true):∃N,zCY N a b=some [aB (ziW a b)]:=by have:=zK.1 e;subst this;have f:=(len0 d);refine⟨a.length+1,?_⟩;unfold zCY oN nB;rw[zdf];refine zmz a zbeP _ _ f (fun i c rec=>?_) (fun rec=>?_) (j3 _);{simp only [zbG c,zbi c,zbp c,zri,zdf,zes,zdq,cT,cF,jT,jX]};{simp only [zbw,cF,ziW]}
theorem zH0:vM 268 zxQ:=hF2 zdw zU zy zn zP7 zOW
def zeI (x y:List Slot):Bool:=pc (x=y)
def zfi (_ _:List Slot):Bool:=true
def zxU:Run:=rF2 (dS .slot) (dS .slot) fun b c=>(zeI b c,[aB (zfi b c)])
def zC2 (N:Nat)(b c:lS):OA:=
 (cond (ine (ln b) (ln c)) oF (iter (σ:=(Int×(lS×(lS×Unit)))) N (fun f a=>let e:=(ix a.2.1 a.1 zZ);let d:=(ix a.2.2.1 a.1 zZ); (cond (ilt a.1 (ln a.2.1)) (oN (inb a.1 (ln a.2.1)) (oN (inb a.1 (ln a.2.2.1)) (cond (nB (cond (ieq e.Page d.Page) (ieq e.Rights d.Rights) false)) oF (f ((zM .i64 a.1 1),(a.2.1,(a.2.2.1,()))))))) oT)) (0,(b,(c,())))))
def zQa:FuncId->Nat->Option Tmpl:=zq [(267,0,{n:=26,tm:=[(0,.sl 0 []),(1,.sl 1 []),(5,ti)],lo:=[],ro:=[(0,.slot,false),(1,.slot,false)]})]
theorem zO0 (a b:List Slot)(d:zci big [aS .slot a,aS .slot b])(e:zeI a b=true):∃N,zC2 N a b=some [aB (zfi a b)]:=by
 have:=zK.1 e;subst this;have f:=(len0 d);refine⟨a.length+1,?_⟩;unfold zC2 oN nB;conv=>zeta
 rw[zdf];refine zmz a zZ _ _ f (fun i c rec=>?_) (fun rec=>?_) (j3 _);{simp only [zbG c,zbi c,zbp c,zri,zdf,zes,zdq,cT,cF,jT,jX]};{simp only [zbw,cF,zfi]}
theorem zH4:vM 267 zxU:=hF2 zdw zU zy zn zQa zO0
def zjn (x y:List Entry):Bool:=pc (x=y)
def zjm (_ _:List Entry):Bool:=true
def zwf:Run:=rF2 (dS .entry) (dS .entry) fun b c=>(zjn b c,[aB (zjm b c)])
def zzG (N:Nat)(d e:lE):OA:=
 (cond (ine (ln d) (ln e)) oF (iter (σ:=(Int×(lE×(lE×Unit)))) N (fun f a=>let c:=(ix a.2.1 a.1 zfe);let b:=(ix a.2.2.1 a.1 zfe); (cond (ilt a.1 (ln a.2.1)) (oN (inb a.1 (ln a.2.1)) (oN (inb a.1 (ln a.2.2.1)) (cond (nB (cond (ieq c.Tag b.Tag) (cond (ieq c.Page b.Page) (cond (ieq c.Host b.Host) (ieq c.Rights b.Rights) false) false) false)) oF (f ((zM .i64 a.1 1),(a.2.1,(a.2.2.1,()))))))) oT)) (0,(d,(e,())))))
def zMz:FuncId->Nat->Option Tmpl:=zq [(98,0,{n:=26,tm:=[(0,.sl 0 []),(1,.sl 1 []),(5,ti)],lo:=[],ro:=[(0,.entry,false),(1,.entry,false)]})]
theorem zLW (a b:List Entry)(d:zci big [aS .entry a,aS .entry b])(e:zjn a b=true):∃N,zzG N a b=some [aB (zjm a b)]:=by
 have:=zK.1 e;subst this;have f:=(len0 d);refine⟨a.length+1,?_⟩;unfold zzG oN nB;conv=>zeta
 rw[zdf];refine zmz a zfe _ _ f (fun i c rec=>?_) (fun rec=>?_) (j3 _);{simp only [zbG c,zbi c,zbp c,zri,zdf,zes,zdq,cT,cF,jT,jX]};{simp only [zbw,cF,zjm]}
theorem zFs:vM 98 zwf:=hF2 zdw zU zy zn zMz zLW
def zpz (x y:List Ins):Bool:=pc (x=y)
def zpy (_ _:List Ins):Bool:=true
def zAF:Run:=rF2 (dS .ins) (dS .ins) fun b c=>(zpz b c,[aB (zpy b c)])
def zEy (N:Nat)(b c:lI):OA:=
 (cond (ine (ln b) (ln c)) oF (iter (σ:=(Int×(lI×(lI×Unit)))) N (fun f a=>let e:=(ix a.2.1 a.1 zyH);let d:=(ix a.2.2.1 a.1 zyH); (cond (ilt a.1 (ln a.2.1)) (oN (inb a.1 (ln a.2.1)) (oN (inb a.1 (ln a.2.2.1)) (cond (nB (cond (ieq e.Op d.Op) (ieq e.X d.X) false)) oF (f ((zM .i64 a.1 1),(a.2.1,(a.2.2.1,()))))))) oT)) (0,(b,(c,())))))
def zSG:FuncId->Nat->Option Tmpl:=zq [(328,0,{n:=26,tm:=[(0,.sl 0 []),(1,.sl 1 []),(5,ti)],lo:=[],ro:=[(0,.ins,false),(1,.ins,false)]})]
theorem zRJ (a b:List Ins)(d:zci big [aS .ins a,aS .ins b])(e:zpz a b=true):∃N,zEy N a b=some [aB (zpy a b)]:=by
 have:=zK.1 e;subst this;have f:=(len0 d);refine⟨a.length+1,?_⟩;unfold zEy oN nB;conv=>zeta
 rw[zdf];refine zmz a zyH _ _ f (fun i c rec=>?_) (fun rec=>?_) (j3 _);{simp only [zbG c,zbi c,zbp c,zri,zdf,zes,zdq,cT,cF,jT,jX]};{simp only [zbw,cF,zpy]}
theorem zLf:vM 328 zAF:=hF2 zdw zU zy zn zSG zRJ
def z6k:zW:=[(33,zAG),(268,zxQ),(267,zxU),(98,zwf),(328,zAF)]++zKK
theorem zw6:zL z6k:=zh zLg (zh zH0 (zh zH4 (zh zFs (zh zLf zdw))))
def zhZ (x y:List (List Int)):Bool:=pc (x=y)
def ziX (_ _:List (List Int)):Bool:=true
def zxT:Run:=rF2 (dS (.sl .int)) (dS (.sl .int)) fun b c=>(zhZ b c,[aB (ziX b c)])
def zC1 (N:Nat)(b:lM)(c:lM):OA:=
 (cond (ine (ln b) (ln c)) oF (iter (σ:=(Int×(lM×(lM×Unit)))) N (fun d a=>(cond (ilt a.1 (ln a.2.1)) (oN (inb a.1 (ln a.2.1)) (oN (inb a.1 (ln a.2.2.1)) (oN (zgt (ix a.2.1 a.1 []) (ix a.2.2.1 a.1 [])) (cond (nB (zg1 (ix a.2.1 a.1 []) (ix a.2.2.1 a.1 []))) oF (d ((zM .i64 a.1 1),(a.2.1,(a.2.2.1,())))))))) oT)) (0,(b,(c,())))))
def zP9:FuncId->Nat->Option Tmpl:=zq [(96,0,{n:=27,tm:=[(0,.sl 0 []),(1,.sl 1 []),(5,ti)],lo:=[],ro:=[(0,(.sl .int),false),(1,(.sl .int),false)]})]
theorem zOZ (a:List (List Int))(b:List (List Int))(d:zci big [aS (.sl .int) a,aS (.sl .int) b])(e:zhZ a b=true):∃N,zC1 N a b=some [aB (ziX a b)]:=by have:=zK.1 e;subst this;have f:=(len0 d);refine⟨a.length+1,?_⟩;unfold zC1 oN nB;rw[zdf];refine zmz a (Ty.dflt (.sl .int)) _ _ f (fun i c rec=>?_) (fun rec=>?_) (j3 _);{simp only [zbG c,zbi c,zbp c,zgt,zg1,zri,zdf,zes,zdq,cT,cF,jT,jX]};{simp only [zbw,cF,ziX]}
theorem zH3:vM 96 zxT:=hF2 zw6 zU zy zn zP9 zOZ
def zpB (x y:Kept):Bool:=pc (x=y)
def zpA (_ _:Kept):Bool:=true
def zAH:Run:=rF2 (dT .kept) (dT .kept) fun b c=>(zpB b c,[aB (zpA b c)])
def zEA (N:Nat)(a b:Kept):OA:=
 (oN (zhY a.Known b.Known) (cond (ziW a.Known b.Known) (oN (zeI a.Slots b.Slots) (some [(aB (zfi a.Slots b.Slots))])) oF))
theorem zRL (a b:Kept)(c:zpB a b=true):∃N,zEA N a b=some [aB (zpA a b)]:=by have:=zK.1 c;subst this;refine⟨0,?_⟩;simp only[zEA,zhY,ziW,zeI,zfi,zri,zdf,zes,zdq,cT,cF,jT,jX,zpA]
theorem zLh:vM 310 zAH:=kF2 zw6 zU zy zn (zq []) zRL
def zn4 (x y:Guest):Bool:=pc (x=y)
def znA (_ _:Guest):Bool:=true
def zxR:Run:=rF2 (dT .guest) (dT .guest) fun b c=>(zn4 b c,[aB (znA b c)])
def zCZ (N:Nat)(a b:Guest):OA:=
 (oN (zpz a.Prog b.Prog) (cond (zpy a.Prog b.Prog) (cond (ieq a.A b.A) (cond (ieq a.Pc b.Pc) (oN (zeI a.Written b.Written) (cond (zfi a.Written b.Written) (oN (zeI a.Live b.Live) (cond (zfi a.Live b.Live) (cond (cond (ieq a.Ctl.Traps b.Ctl.Traps) (cond (ieq a.Ctl.Post b.Ctl.Post) (ziP a.Ctl.Open b.Ctl.Open) false) false) (cond (ieq a.Pending b.Pending) (cond (cond (ieq a.Exit.Kind b.Exit.Kind) (cond (ieq a.Exit.Page b.Exit.Page) (cond (ziP a.Exit.Write b.Exit.Write) (ieq a.Exit.N b.Exit.N) false) false) false) (cond (ziP a.Halted b.Halted) (oN (zgt a.Seen b.Seen) (some [(aB (zg1 a.Seen b.Seen))])) oF) oF) oF) oF) oF)) oF)) oF) oF) oF))
theorem zOX (a b:Guest)(c:zn4 a b=true):∃N,zCZ N a b=some [aB (znA a b)]:=by have:=zK.1 c;subst this;refine⟨0,?_⟩;simp only[zCZ,zpz,zpy,zeI,zfi,zgt,zg1,zri,zdf,zes,zdq,cT,cF,jT,jX,znA]
theorem zH1:vM 309 zxR:=kF2 zw6 zU zy zn (zq []) zOX
def z6l:zW:=[(96,zxT),(310,zAH),(309,zxR)]++z6k
theorem zFe:zL z6l:=zh zH3 (zh zLh (zh zH1 zw6))
def zn5 (x y:List Kept):Bool:=pc (x=y)
def znB (_ _:List Kept):Bool:=true
def zxS:Run:=rF2 (dS .kept) (dS .kept) fun b c=>(zn5 b c,[aB (znB b c)])
def zC0 (N:Nat)(b c:lK):OA:=
 (cond (ine (ln b) (ln c)) oF (iter (σ:=(Int×(lK×(lK×Unit)))) N (fun f a=>let e:=(ix a.2.1 a.1 zfO);let d:=(ix a.2.2.1 a.1 zfO); (cond (ilt a.1 (ln a.2.1)) (oN (inb a.1 (ln a.2.1)) (oN (inb a.1 (ln a.2.2.1)) (oN (zpB e d) (cond (nB (zpA e d)) oF (f ((zM .i64 a.1 1),(a.2.1,(a.2.2.1,())))))))) oT)) (0,(b,(c,())))))
def zP8:FuncId->Nat->Option Tmpl:=zq [(270,0,{n:=27,tm:=[(0,.sl 0 []),(1,.sl 1 []),(5,ti)],lo:=[],ro:=[(0,.kept,false),(1,.kept,false)]})]
theorem zOY (a b:List Kept)(d:zci big [aS .kept a,aS .kept b])(e:zn5 a b=true):∃N,zC0 N a b=some [aB (znB a b)]:=by
 have:=zK.1 e;subst this;have f:=(len0 d);refine⟨a.length+1,?_⟩;unfold zC0 oN nB;conv=>zeta
 rw[zdf];refine zmz a zfO _ _ f (fun i c rec=>?_) (fun rec=>?_) (j3 _);{simp only [zbG c,zbi c,zbp c,zpB,zpA,zri,zdf,zes,zdq,cT,cF,jT,jX]};{simp only [zbw,cF,znB]}
theorem zH2:vM 270 zxS:=hF2 zFe zU zy zn zP8 zOY
def zmN (x y:List Guest):Bool:=pc (x=y)
def zlY (_ _:List Guest):Bool:=true
def zwg:Run:=rF2 (dS .guest) (dS .guest) fun b c=>(zmN b c,[aB (zlY b c)])
def zzH (N:Nat)(b c:lG):OA:=
 (cond (ine (ln b) (ln c)) oF (iter (σ:=(Int×(lG×(lG×Unit)))) N (fun f a=>let e:=(ix a.2.1 a.1 zD);let d:=(ix a.2.2.1 a.1 zD); (cond (ilt a.1 (ln a.2.1)) (oN (inb a.1 (ln a.2.1)) (oN (inb a.1 (ln a.2.2.1)) (oN (zn4 e d) (cond (nB (znA e d)) oF (f ((zM .i64 a.1 1),(a.2.1,(a.2.2.1,())))))))) oT)) (0,(b,(c,())))))
def zMA:FuncId->Nat->Option Tmpl:=zq [(269,0,{n:=27,tm:=[(0,.sl 0 []),(1,.sl 1 []),(5,ti)],lo:=[],ro:=[(0,.guest,false),(1,.guest,false)]})]
theorem zLX (a b:List Guest)(d:zci big [aS .guest a,aS .guest b])(e:zmN a b=true):∃N,zzH N a b=some [aB (zlY a b)]:=by
 have:=zK.1 e;subst this;have f:=(len0 d);refine⟨a.length+1,?_⟩;unfold zzH oN nB;conv=>zeta
 rw[zdf];refine zmz a zD _ _ f (fun i c rec=>?_) (fun rec=>?_) (j3 _);{simp only [zbG c,zbi c,zbp c,zn4,znA,zri,zdf,zes,zdq,cT,cF,jT,jX]};{simp only [zbw,cF,zlY]}
theorem zFt:vM 269 zwg:=hF2 zFe zU zy zn zMA zLX
def z6m:zW:=[(270,zxS),(269,zwg)]++z6l
theorem zTE:zL z6m:=zh zH2 (zh zFt zFe)
def zr2 (x y:Mon):Bool:=pc (x=y)
def zto (_ _:Mon):Bool:=true
def zDB:Run:=rF2 (dT .mon) (dT .mon) fun b c=>(zr2 b c,[aB (zto b c)])
def zI1 (N:Nat)(a b:Mon):OA:=
 (oN (zeI a.Outer b.Outer) (cond (zfi a.Outer b.Outer) (oN (zhZ a.Out b.Out) (cond (ziX a.Out b.Out) (oN (zhY a.Dirty b.Dirty) (cond (ziW a.Dirty b.Dirty) (oN (zmN a.Guests b.Guests) (cond (zlY a.Guests b.Guests) (oN (zgt a.Outs b.Outs) (cond (zg1 a.Outs b.Outs) (cond (ieq a.Pending b.Pending) (cond (ieq a.Traps b.Traps) (oN (zn5 a.Tables b.Tables) (cond (znB a.Tables b.Tables) (some [(aB (ieq a.Own b.Own))]) oF)) oF) oF) oF)) oF)) oF)) oF)) oF))
theorem zU3 (a b:Mon)(c:zr2 a b=true):∃N,zI1 N a b=some [aB (zto a b)]:=by have:=zK.1 c;subst this;refine⟨0,?_⟩;simp only[zI1,zeI,zfi,zhZ,ziX,zhY,ziW,zmN,zlY,zgt,zg1,zn5,znB,zri,zdf,zes,zdq,cT,cF,jT,jX,zto]
theorem zOa:vM 197 zDB:=kF2 zTE zU zy zn (zq []) zU3
def z6n:zW:=[(197,zDB)]++z6m
theorem zTF:zL z6n:=zh zOa zTE
def zpD (x y:List Mon):Bool:=pc (x=y)
def zpC (_ _:List Mon):Bool:=true
def zAI:Run:=rF2 (dS .mon) (dS .mon) fun b c=>(zpD b c,[aB (zpC b c)])
def zEB (N:Nat)(b c:lN):OA:=
 (cond (ine (ln b) (ln c)) oF (iter (σ:=(Int×(lN×(lN×Unit)))) N (fun f a=>let e:=(ix a.2.1 a.1 zi);let d:=(ix a.2.2.1 a.1 zi); (cond (ilt a.1 (ln a.2.1)) (oN (inb a.1 (ln a.2.1)) (oN (inb a.1 (ln a.2.2.1)) (oN (zr2 e d) (cond (nB (zto e d)) oF (f ((zM .i64 a.1 1),(a.2.1,(a.2.2.1,())))))))) oT)) (0,(b,(c,())))))
def zSI:FuncId->Nat->Option Tmpl:=zq [(97,0,{n:=27,tm:=[(0,.sl 0 []),(1,.sl 1 []),(5,ti)],lo:=[],ro:=[(0,.mon,false),(1,.mon,false)]})]
theorem zRM (a b:List Mon)(d:zci big [aS .mon a,aS .mon b])(e:zpD a b=true):∃N,zEB N a b=some [aB (zpC a b)]:=by
 have:=zK.1 e;subst this;have f:=(len0 d);refine⟨a.length+1,?_⟩;unfold zEB oN nB;conv=>zeta
 rw[zdf];refine zmz a zi _ _ f (fun i c rec=>?_) (fun rec=>?_) (j3 _);{simp only [zbG c,zbi c,zbp c,zr2,zto,zri,zdf,zes,zdq,cT,cF,jT,jX]};{simp only [zbw,cF,zpC]}
theorem zLi:vM 97 zAI:=hF2 zTF zU zy zn zSI zRM
def zbef:zW:=[(97,zAI)]++z6n
theorem z6o:zL zbef:=zh zLi zTF
def zhC (x y:Host):Bool:=pc (x=y)
def zik (_ _:Host):Bool:=true
def zAE:Run:=rF2 dH dH fun b c=>(zhC b c,[aB (zik b c)])
def zEx (N:Nat)(a b:Host):OA:=
 (oN (zhZ a.Memory b.Memory) (cond (ziX a.Memory b.Memory) (oN (zpD a.Mons b.Mons) (cond (zpC a.Mons b.Mons) (oN (zjn a.Buffer b.Buffer) (cond (zjm a.Buffer b.Buffer) (oN (zjn a.IoBuffer b.IoBuffer) (some [(aB (zjm a.IoBuffer b.IoBuffer))])) oF)) oF)) oF))
theorem zRI (a b:Host)(c:zhC a b=true):∃N,zEx N a b=some [aB (zik a b)]:=by have:=zK.1 c;subst this;refine⟨0,?_⟩;simp only[zEx,zhZ,ziX,zpD,zpC,zjn,zjm,zri,zdf,zes,zdq,cT,cF,jT,jX,zik]
theorem zLe:vM 24 zAE:=kF2 z6o zU zy zn (zq []) zRI
def zbbB:zW:=[(148,zzc),(34,zwl)]++zKK
theorem z9f:zL zbbB:=zh zDg (zh zz5 zdw)
def zbbC:zW:=zbbB
theorem z9g:zL zbbC:=z9f
def zbbD:zW:=zbbC
theorem z9h:zL zbbD:=z9g
def zbbE:zW:=zbbD
theorem z9i:zL zbbE:=z9h
def zbeV:zW:=zbbE
theorem z9j:zL zbeV:=z9i
@[simp] abbrev zCu (h:Host)(m:Int):Bool:=pc (zcc h)
@[simp] abbrev zwy (h:Host)(m:Int):Bare:=zB h m
def zGx:Run:=rF2 dH dI fun b c=>(zCu b c,[aT .bare (zwy b c)])
def zNe (N:Nat)(b:Host)(c:Int):OA:=
 (oN (zGR b c) (cond (nB (ztz b c)) (some [(aT .bare (⟨[],[],[],0⟩:Bare))]) (iter (σ:=(Int×(Int×(Int×(Int×(lM×(lN×(lE×(lE×(lM×(lG×((List Int)×(lM×(lG×((List Int)×Unit))))))))))))))) N (fun h a=>let g:=a.2.2.2.2.2.2.2.2.2.2.2.2.1;let f:=a.2.2.2.2.2.2.2.2.2.2.2.2.2.1;let d:=(⟨a.2.2.2.2.1,a.2.2.2.2.2.1,a.2.2.2.2.2.2.1,a.2.2.2.2.2.2.2.1⟩:Host);let e:=(ap a.2.2.2.2.2.2.2.2.2.2.2.1 [(zCq d a.1 a.2.1)]); (cond (ilt a.2.1 8) (oN (zCr d a.1 a.2.1) (oN (few (ln e)) (h (a.1,((zM .i64 a.2.1 1),(a.2.2.1,(a.2.2.2.1,(a.2.2.2.2.1,(a.2.2.2.2.2.1,(a.2.2.2.2.2.2.1,(a.2.2.2.2.2.2.2.1,(a.2.2.2.2.2.2.2.2.1,(a.2.2.2.2.2.2.2.2.2.1,(a.2.2.2.2.2.2.2.2.2.2.1,(e,(g,(f,()))))))))))))))))) (some [(aT .bare (⟨a.2.2.2.2.2.2.2.2.2.2.2.1,g,f,a.2.2.2.1⟩:Bare))]))) (c,(0,(0,((zfa b c).Pending,(b.Memory,(b.Mons,(b.Buffer,(b.IoBuffer,([],([],([],([],((zfa b c).Guests,((zfa b c).Outs,())))))))))))))))))
def zZP:FuncId->Nat->Option Tmpl:=zq [(63,0,{n:=39,tm:=[(1,ti),(2,.lp 0 0),(4,.lp 1 0),(7,.lp 2 0),(8,ti)],lo:=[(0,[.sl 0 [],.sl 1 [],.sl 2 [],.sl 3 []]),(1,[.sl 4 [],.sl 5 [],.sl 6 [],ti]),(2,[.sl 7 [],.sl 8 [],.sl 9 [],ti])],ro:=[(0,(.sl .int),false),(1,.mon,false),(2,.entry,false),(3,.entry,false),(4,(.sl .int),true),(5,.guest,true),(6,.int,true),(7,(.sl .int),true),(8,.guest,true),(9,.int,true)]})]
theorem zX9 (a:Host)(b:Int)(f:zCu a b=true):∃N,zNe N a b=some [aT .bare (zwy a b)]:=by
 have e:=zK.1 f;refine zcp fun N d=>?_;unfold zNe zwy zB oN nB;conv=>zeta
 refine must (zbJ e) ?_;rw[show ztz a b=hasB b (ln a.Mons) from rfl];cases g:hasB b (ln a.Mons);{rfl};{refine zdH rfl ?_;refine(zv1 8 (fun i (t:lM)=>(b,(i:Int),0,(zfa a b).Pending,a.Memory,a.Mons,a.Buffer,a.IoBuffer,[],[],[],t,(zfa a b).Guests,(zfa a b).Outs,())) _ (fun i (c:List (List Int)) j=>bif few (ln (ap c [zcm a b (i:Int)])) then j (ap c [zcm a b (i:Int)]) else none) (fun (t:lM)=>(some [(.agg (Ty.cells .bare (⟨t,(zfa a b).Guests,(zfa a b).Outs,(zfa a b).Pending⟩:Bare)))])) (fun i h t rec=>?_) (fun t rec=>?_) _ ([]) (d (by decide))).trans ?_;{simp only [show ilt (i:Int) 8=true from qJ (by omega),zbj h (show 8<=big by decide),cT];exact must (zbJ e) rfl};{simp only [show ilt (((8:Nat)):Int) 8=false from qM (by omega),cF]};rw[zFn a b _ 8 0 [] (by decide)];simp only[zfa,g,cT,jP]}
theorem zQ9:vM 63 zGx:=kF2 z9j zU zy zn zZP zX9
def z5K:zW:=[(63,zGx),(198,zt4)]++zKK
theorem zTt:zL z5K:=zh zQ9 (zh zxp zdw)
@[simp] abbrev zy7 (b:Bare)(_:Int):Bool:=pc (SmB b)
@[simp] abbrev zFJ (b:Bare)(i:Int):Guest:=gAt b i
def zDA:Run:=rF2 (dT .bare) dI fun b c=>(zy7 b c,[aT .guest (zFJ b c)])
def zI0 (N:Nat)(a:Bare)(b:Int):OA:=
 (oN (zzf a b) (some [(aT .guest (znK a b))]))
theorem zU2 (a:Bare)(b:Int)(c:zy7 a b=true):∃N,zI0 N a b=some [aT .guest (zFJ a b)]:=by have d:=zK.1 c;refine⟨0,?_⟩;unfold zI0 oN;exact must (zY d) rfl
theorem zN9:vM 101 zDA:=kF2 zTt zU zy zn (zq []) zU2
def zbee:zW:=[(101,zDA)]++z5K
theorem z5L:zL zbee:=zh zN9 zTt
@[simp] abbrev zy6 (h:Host)(m _:Int):Bool:=pc (zcc h/\SmB (zB h m))
@[simp] abbrev ztn (h:Host)(m g:Int):Guest:=gAt (zB h m) g
def zDz:Run:=rF3 dH dI dI fun b c d=>(zy6 b c d,[aT .guest (ztn b c d)])
def zIZ (N:Nat)(a:Host)(b c:Int):OA:=
 (oN (zCu a b) (oN (zy7 (zwy a b) c) (some [(aT .guest (zFJ (zwy a b) c))])))
theorem zU1 (a:Host)(b c:Int)(d:zci big [aH a,aI b,aI c])(e:zy6 a b c=true):∃N,zIZ N a b c=some [aT .guest (ztn a b c)]:=by obtain⟨f,d⟩:=zK.1 e;refine⟨0,?_⟩;unfold zIZ oN;exact must (zY f) (must (zY d) rfl)
theorem zN8:vM 26 zDz:=hF3 z5L zU zy zn (zq []) zU1
theorem zYr {d b:Type}{f:d->b}{l:List d}{x:b}{c:List b}(h:l.map f=x::c):∃a r,l=a::r/\f a=x/\r.map f=c:=by cases l with|nil=>cases h|cons a r=>simp only[jD,List.cons.injEq]at h;exact⟨a,r,rfl,h.1,h.2⟩
theorem zbeH {a:AV}{b:CTy}(h:some a.sh=some (false,[b])):∃c,a = .one c/\c.ty=b:=by cases a with|one c=>simp only[AV.sh,qC,jS,List.cons.injEq,and_true,true_and]at h;exact⟨c,rfl,h⟩|agg l=>simp[AV.sh]at h
theorem sh_s {a:AV}{t:Ty}(h:some a.sh=some (false,[.s t])):∃l:List t.den,a = .one (.s t l):=by obtain⟨c,rfl,b⟩:=zbeH h;obtain⟨l,rfl⟩:=zmx b;exact⟨l,rfl⟩
section
open Go Go.ChangeShapes Go.WideShapes Go.ChangeAt
abbrev zRy (_:List Int):Bool:=true
abbrev zOO (l:List Int):Bool:=igt (ln l) 1048576
def zT9:Run:=rF1 (dS .u8) fun b=>(zRy b,[aB (zOO b)])
def z1N (N:Nat)(a:List Int):OA:=
 (some [(aB (igt (ln a) 1048576))])
theorem z6T (a:List Int)(b:zRy a=true):∃N,z1N N a=some [aB (zOO a)]:=by refine⟨0,?_⟩;unfold z1N;first|rfl|(simp only [*,zOO,cT,cF]<;>rfl)|simp_all[Ty.cells,zOO]
theorem z0t:vM 7 zT9:=kF1 zWR zU zy zn (zq []) z6T
def zbbw:zW:=[(7,zT9),(24,zAE),(9,ztZ),(10,zt8),(12,zoC),(13,zoI),(15,zoE),(16,zoK),(18,zoD),(19,zoJ),(21,ztY),(22,zt6),(23,zt7),(26,zDz),(25,zwm)]++zbba
theorem z9e:zL zbbw:=zh z0t (zh zLe (zh zxk (zh zxt (zh zs8 (zh zte (zh zta (zh ztg (zh zs9 (zh ztf (zh zxj (zh zxr (zh zxs (zh zN8 (zh zz6 zWR))))))))))))))
def zlf (N:Nat)(a:List Int):OA:=
 let w:=(⟨2,1⟩:Slot);let p:=(zlv a);let n:=(zlu a);let m:=(zlt a);let l:=(zls a);let k:=(zlr a);let j:=(zlp a);let i:=(zlo a);let h:=(zln a);let g:=(zlm a);let f:=(ziz a);let e:=(ziy a);let d:=(zix a);let c:=(ziw a);let b:=(ziD a);let v:=(ziC a);let u:=(ziB a);let t:=(ziu a);let s:=(zit a);let r:=(zis a);let q:=(zir a);let A:=(znP k l m n p);let z:=(ziV k l m n p);let y:=(zd8 [[[(⟨7,0⟩:Ins)]]]);let x:=(ziV y 0 0 1 w); (oN (zRy a) (cond (zOO a) oT (oN (zgJ a) (oN (zr0 k l m n p) (oN (zso k l m n p) (oN (ze7 a) (oN (zq5 q r s t) (oN (zm0 q r s t) (oN (ze9 a) (oN (zq7 u v b) (oN (zm2 u v b) (oN (ze8 a) (oN (zq6 c d e f) (oN (zm1 c d e f) (oN (zgI a) (oN (zy3 g h i j) (oN (zsk g h i j) (oN (zsn [[[(⟨7,0⟩:Ins)]]]) (oN (zr0 y 0 0 1 w) (cond (ziP (zkQ k l m n p) (znQ k l m n p)) (oN (zhC z A) (cond (zik z A) (cond (ziP (zmG q r s t) (zjt q r s t)) (oN (zhC (zji q r s t) (zhs q r s t)) (cond (zik (zji q r s t) (zhs q r s t)) (cond (ziP (zmI u v b) (zjv u v b)) (oN (zhC (zjk u v b) (zhu u v b)) (cond (zik (zjk u v b) (zhu u v b)) (cond (ziP (zmH c d e f) (zju c d e f)) (oN (zhC (zjj c d e f) (zht c d e f)) (cond (zik (zjj c d e f) (zht c d e f)) (cond (ziP (zrZ g h i j) (znO g h i j)) (oN (zhC (znv g h i j) (zk0 g h i j)) (cond (zik (znv g h i j) (zk0 g h i j)) (cond (zkQ y 0 0 1 w) (oN (zy6 x 0 0) (oN (ziH (ztn x 0 0).Written 1) (some [(aB (ieq (zgb (ztn x 0 0).Written 1).Page 2))]))) oF) oF)) oF) oF)) oF) oF)) oF) oF)) oF) oF)) oF))))))))))))))))))))
theorem zL9 (N:Nat)(a:List Int):evalFn (cQ zbbw z9L zSn z5m) (zq []) N 12 3 [aS .u8 a]=zlf N a:=by kernel_rfl
theorem zbeC:(zkQ (zd8 [[[(⟨7,0⟩:Ins)]]]) 0 0 1 ⟨2,1⟩&&ieq (zgb (ztn (ziV (zd8 [[[(⟨7,0⟩:Ins)]]]) 0 0 1 ⟨2,1⟩) 0 0).Written 1).Page 2)=true:=by kernel_rfl
theorem zbb9:zHe [[[(⟨7,0⟩:Ins)]]]:=⟨by simp,by
 intro p a;rw[qF.1 a];exact⟨by simp,fun q b=>by rw[qF.1 b];simp⟩⟩
theorem zbeI {h:Host}(s:SmH h)(m:Int):SmB (zB h m):=by cases a:hasB m (ln h.Mons) with|true=>exact zfM s a|false=>unfold zB;rw[a];exact⟨⟨by simp,by simp⟩,⟨by simp,by simp⟩,by simp⟩
theorem zFh (N:Nat)(n:List Int)(d:n.length<=big):Ends (fun a=>a=[.one (.b true)]) (zlf N n):=by
 unfold zlf oN;conv=>zeta
 have sm:∀{h:Host},AnyH h->zcc h:=fun k=>(zT _).2 k.sm;have g:=sm (zx4 (zzX d)).2;have i:=sm (ztu (zus d)).2;have j:=sm (ztw (zuu d)).2;have l:=sm (ztv (zut d)).2;have m:=sm (zx3 (zzW d)).2;have f:=zbeC;simp only[qD] at f;obtain⟨f,p⟩:=f;have c:SmH (zd8 [[[(⟨7,0⟩:Ins)]]]):=zSz zbb9;refine zo rfl (zbC (fun _=>zvI rfl) (fun _=>zo (zzX d) (zo (zY g) (zo (zY g) (zo (zus d) (zo (zY i) (zo (zY i) (zo (zuu d) (zo (zY j) (zo (zY j) (zo (zut d) (zo (zY l) (zo (zY l) (zo (zzW d) (zo (zY m) (zo (zY m) (zo (zY zbb9) ?_)))))))))))))))));generalize zd8 [[[(⟨7,0⟩:Ins)]]]=one at f p c;have e:SmH (ziV one 0 0 1 ⟨2,1⟩):=zmp c (fun q=>zHN _ _ _ (zfM c (zbq.1 q).2));refine zo (zY ((zT _).2 c)) (zo (zdq _) (zo (zY rfl) (zo rfl (zo (zdq _) (zo (zY rfl) (zo rfl (zo (zdq _) (zo (zY rfl) (zo rfl (zo (zdq _) (zo (zY rfl) (zo rfl (zo (zdq _) (zo (zY rfl) (zo rfl (zo f (zo (zY ⟨(zT _).2 e,zbeI e 0⟩) (zo rfl (zvI ?_)))))))))))))))))));exact congrArg (fun b=>[AV.one (CV.b b)]) p
theorem zHT (d:List Int)(h:∀c∈zC [aS .u8 d],CVOk c):∃N,zlf N d=some [.one (.b true)]:=by have e:zci big [aS .u8 d]:=fun c f=>CVB.of_ok (h c f);have g:=(len0 e);exact⟨5,zbcX (G:=fun a=>a=[.one (.b true)]) (zFh 5 d g)⟩
theorem zEn:Tryz.f3.params.toList.map (zcD Tryz.prog 4)=[some (false,[.s .u8])]:=by kernel_rfl
theorem zzQ:z1L 3 Tryz.f3.params.toList:=by refine z0c z9e zU zy zn (zjU (by kernel_rfl)) ?_;intro c hg;obtain⟨a,e⟩:=hg;rw[zEn]at a;obtain⟨h,g,rfl,d,a⟩:=zYr a;cases List.map_eq_nil_iff.1 a;obtain⟨b,rfl⟩:=sh_s d;obtain⟨N,f⟩:=zHT b e;exact⟨zq [],N,12,(zL9 N b).trans f⟩
theorem zG2 (H:Type)(a:List (DataW H))(h:a.length=Tryz.f3.params.toList.length):Rows.fnReflectedSpec.fn H a={results:=[.lit (.bool true)],args:=a}:=by
 have b:a.length=1:=h.trans (by kernel_rfl)
 match a,b with
 |[d],_=>rfl
set_option maxRecDepth 100000 in
theorem zCb (g:Os)(a:g.Started)(H:Type)(enc:TypeId×Value->H) :
 ReturnsInHanded {} Tryz.checked g 3 .any (Rows.fnReflectedSpec.pre6 enc Tryz.prog Tryz.f3 Rows.fnReflectedRow.domain false) (Rows.fnReflectedSpec.post enc Tryz.prog Tryz.f3 false true false false):=by
 refine returnsInHanded_of_change_shaped (C:=Tryz.checked) own a (by kernel_rfl) Tryz.func3
  (ChangeSpec.witness6 (enc:=enc) (C:=Tryz.checked) false ⟨#[],#[.slice none 0 0],[]⟩ 8 (by kernel_rfl) (by kernel_rfl) (by kernel_rfl) (by kernel_rfl)) ?_
 intro W d c h i b e j _ f _ _;exact zOP (P:=Tryz.prog) z8B z9B rfl zG2 (by kernel_rfl) (B:=4) (by kernel_rfl) (by kernel_rfl) zzQ W d c h i b e j f
end
end
end Go.Proofs.YthhbajmehldikaaGreat.E
