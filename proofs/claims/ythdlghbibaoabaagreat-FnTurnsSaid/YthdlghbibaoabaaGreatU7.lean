/- What is proved here: a part of the proof that the statement of this claim holds (several texts of wip/, laid together). -/
import Derived.Test.YthdlghbibaoabaaGreatU6
namespace Go.Proofs.YthdlghbibaoabaaGreat.E
open Go
set_option linter.constructorNameAsVariable false
set_option linter.unusedVariables false
set_option maxRecDepth 100000
set_option linter.unusedSimpArgs false
set_option linter.unusedSectionVars false
noncomputable section
structure KeepP (x y:Mon):Prop where
 o:y.Outer=x.Outer
 u:y.Out=x.Out
theorem zO0 {h r:Host}{m:Int}(b:hasB m (ln h.Mons)=true){y:Mon}(c:r.Mons=up h.Mons m y)(a:r.Memory=h.Memory)(k:KeepP (ix h.Mons m mZ) y)(i q:Int):zcM r i q=zcM h i q:=by unfold zcM;rw[c,zdV,a];cases d:hasB i (ln h.Mons) with|false=>rfl|true=>by_cases e:m=i;{subst e;rw[zbf b,k.o,k.u]};{rw [zbt (zI.1 b).1 (zI.1 d).1 e]}
theorem zv7 {h r:Host}{m:Int}(b:hasB m (ln h.Mons)=true){y:Mon}(c:r.Mons=up h.Mons m y)(a:r.Memory=h.Memory)(k:KeepP (ix h.Mons m mZ) y)(i:Int) :
 zG r i=bif ieq i m then ⟨(zG h i).Memory,y.Guests,y.Outs,y.Pending⟩ else zG h i:=by
 have f:zcz r i 8 0=zcz h i 8 0:=zrG 8 0 (fun j _ _=>zO0 b c a k i j);unfold zG;rw[f,c,zdV]
 by_cases e:i=m
 .subst e;rw[b,zbo.2 rfl,zbf b];rfl
 .rw [zbT.2 e,cond_false];cases d:hasB i (ln h.Mons) with
  |false=>rfl
  |true=>rw[zbt (zI.1 b).1 (zI.1 d).1 (Ne.symm e)]
theorem zlm {x y:Mon}(X:MOk x)(k:KeepP x y)(g:y.Guests.length=x.Guests.length)(t:y.Tables.length=x.Tables.length)(d:y.Dirty.length=x.Dirty.length)(o:y.Outs.length<=40)(p:zc3 y.Pending=true)(tr:win y.Traps 0 3=true)(b:win y.Own 0 1000000000=true)(a:∀g∈y.Guests,zdd g=true):MOk y :=
 ⟨by rw[g];exact X.g1,by rw[g];exact X.g2,by rw[t,g];exact X.gt,by rw[k.o];exact X.o8,by rw[k.o];exact X.sl,by rw[k.u];exact X.u8,by rw[d];exact X.d8,o,p,tr,b,a,by rw[k.o,k.u];exact X.fit⟩
theorem zXm {h:Host}(H:HOk h){m:Int}(a:hasB m (ln h.Mons)=true){y:Mon}(k:KeepP (ix h.Mons m mZ) y)(b:MOk y):HOk {h with Mons:=up h.Mons m y} :=
 H.up a b rfl H.m12 H.pgs H.b1 H.b2 fun q _=>.inl (by unfold cPg;rw[k.o];exact qY _)
theorem zxR {h:Host}(S:Safe h){m:Int}(a:hasB m (ln h.Mons)=true){y:Mon}(k:KeepP (ix h.Mons m mZ) y)(d:MOk y)(hg:y.Guests.length=(ix h.Mons m mZ).Guests.length)(c:∀g,hasB g (ln (ix h.Mons m mZ).Guests)=true->(ix y.Guests g gZ).Live=(ix (ix h.Mons m mZ).Guests g gZ).Live)(b:y.Tables=(ix h.Mons m mZ).Tables):Safe {h with Mons:=up h.Mons m y} :=
 ⟨zXm S.ok a k d,zO7 S.rt a rfl rfl rfl hg c b k.o⟩
theorem zVK {h:Host}(S:Safe h)(m t:Int):Safe (zj6 h m t)/\∀i,zG (zj6 h m t) i=zG h i:=by
 unfold zj6;rw[zky.2 S.ok,cond_true];cases a:hasB m (ln h.Mons) with
 |false=>exact⟨S,fun _=>rfl⟩
 |true=>
  cases b:win t 0 3 with
  |false=>exact⟨S,fun _=>rfl⟩
  |true=>have X:=S.ok.mon a;have k:KeepP (ix h.Mons m mZ) {ix h.Mons m mZ with Traps:=t}:=⟨rfl,rfl⟩;refine⟨zxR S a k (zlm X k rfl rfl rfl X.outs X.pend b X.own X.gs) rfl (fun _ _=>rfl) rfl,fun i=>?_⟩;rw[cond_true,cond_true];refine(zv7 (h:=h) (r:={h with Mons:=up h.Mons m {ix h.Mons m mZ with Traps:=t}}) a rfl rfl k i).trans ?_;by_cases e:i=m;{subst e;rw[zbo.2 rfl,cond_true];unfold zG;rw[a];rfl};{rw [zbT.2 e];rfl}
theorem zIZ:∀(n i:Nat) (k:Kept),(ziW n i k).Known.length=k.Known.length/\(ziW n i k).Slots.length=k.Slots.length
 | 0,i,k=>⟨rfl,rfl⟩
 |n+1,i,k=>by have a:=zIZ n (i+1) (zbY k (i:Int));have b:=zla k (i:Int);exact⟨a.1.trans b.1,a.2.trans b.2⟩
theorem zNj:∀(n i:Nat) (k:Kept),k.Known.length=k.Slots.length->∀j,hasB j (ln k.Known)=true->
 ((i:Int)<=j/\j<((i+n:Nat):Int)->ix (ziW n i k).Known j false=false/\ix (ziW n i k).Slots j sZ=noSlot)/\
 (¬ ((i:Int)<=j/\j<((i+n:Nat):Int))->ix (ziW n i k).Known j false=ix k.Known j false/\ix (ziW n i k).Slots j sZ=ix k.Slots j sZ)
 | 0,i,k,_,j,_=>⟨fun h=>by omega,fun _=>⟨rfl,rfl⟩⟩
 |n+1,i,k,g,j,f=>by have b:=zla k (i:Int);have d:=zyg (q:=(i:Int)) g f;have c:=zNj n (i+1) (zbY k (i:Int)) (by rw[b.1,b.2,g]) j (by unfold ln at f ⊢;rwa [b.1]);rw[ziW];by_cases a:((i+1:Nat):Int)<=j/\j<((i+1+n:Nat):Int);{exact⟨fun _=>c.1 a,fun h=>absurd (by omega) h⟩};{rw [(c.2 a).1,(c.2 a).2,d.1,d.2];by_cases e:(i:Int)=j;{rw [zbo.2 e];exact⟨fun _=>⟨rfl,rfl⟩,fun h=>absurd (by omega) h⟩};{rw [zbT.2 e];exact⟨fun h=>absurd (by omega) a,fun _=>⟨rfl,rfl⟩⟩}}
theorem zUN {k:Kept}{a b:List Slot}(h:KOk k a b):KOk (zjD k) a b:=by have e:=zIZ k.Known.length 0 k;refine⟨e.1.trans h.l1,e.2.trans h.l2,fun i f=>?_⟩;have c:hasB i (ln k.Known)=true:=(by unfold ln at f ⊢;rwa [h.l1]);have d:=zI.1 c;unfold ln at d;have:=(zNj k.Known.length 0 k (by rw[h.l1,h.l2]) i c).1 ⟨by omega,by omega⟩;unfold zjD;rw[this.1,this.2];rfl
theorem zM6:∀(n j:Nat) (l:List Kept),(zwy n j l).length=l.length
 | 0,_,_=>rfl
 |n+1,j,l=>by rw[zwy,zM6 n,zbN]
theorem zWI:∀(n j:Nat) (l:List Kept),j+n<=l.length->∀g,0<=g->ix (zwy n j l) g kZ=if (j:Int)<=g/\g<((j+n:Nat):Int) then zjD (ix l g kZ) else ix l g kZ
 | 0,j,l,_,g,hg=>by rw[if_neg (by omega)];rfl
 |n+1,j,l,a,g,hg=>by rw[zwy,zWI n (j+1) _ (by rw[zbN];omega) g hg];by_cases e:(j:Int)=g;{subst e;rw[if_neg (by omega),if_pos (by omega),zbf (zI.2 ⟨by omega,by unfold ln;omega⟩)]};{rw [zbt (by omega) hg e];by_cases h:((j+1:Nat):Int)<=g/\g<((j+1+n:Nat):Int);{rw [if_pos h,if_pos (by omega)]};{rw [if_neg h,if_neg (by omega)]}}
theorem zM5:∀(n i:Nat) (l:List Mon),(zoL n i l).length=l.length
 | 0,_,_=>rfl
 |n+1,i,l=>by rw[zoL,zM5 n,zbN]
theorem zTi:∀(n i:Nat) (l:List Mon),i+n<=l.length->∀m,0<=m->ix (zoL n i l) m mZ=if (i:Int)<=m/\m<((i+n:Nat):Int) then zwz (ix l m mZ) (ix l m mZ).Tables.length 0 else ix l m mZ
 | 0,i,l,_,m,a=>by rw[if_neg (by omega)];rfl
 |n+1,i,l,b,m,a=>by rw[zoL,zTi n (i+1) _ (by rw[zbN];omega) m a];by_cases e:(i:Int)=m;{subst e;rw[if_neg (by omega),if_pos (by omega),zbf (zI.2 ⟨by omega,by unfold ln;omega⟩)]};{rw [zbt (by omega) a e];by_cases h:((i+1:Nat):Int)<=m/\m<((i+1+n:Nat):Int);{rw [if_pos h,if_pos (by omega)]};{rw [if_neg h,if_neg (by omega)]}}
theorem z8X (h:Host){m:Int}(a:hasB m (ln h.Mons)=true):ix (cold h).Mons m mZ=zwz (ix h.Mons m mZ) (ix h.Mons m mZ).Tables.length 0:=by have:=zI.1 a;unfold ln at this;show ix (zoL h.Mons.length 0 h.Mons) m mZ=_;rw[zTi _ _ _ (by omega) m this.1,if_pos (by omega)]
theorem zza (h:Host):(cold h).Mons.length=h.Mons.length:=zM5 _ _ _
theorem zJ0 (h:Host)(m:Int):hasB m (ln (cold h).Mons)=hasB m (ln h.Mons):=by unfold ln;rw[zza]
theorem zbcQ {l a:List Mon}(d:a.length=l.length)(h:∀m,hasB m (ln l)=true->(ix a m mZ).Outer=(ix l m mZ).Outer)(q:Int):zfi a q=zfi l q:=by have:a.map (fun x=>cPg x q)=l.map (fun x=>cPg x q):=(by refine List.ext_getElem (by simp[d]) fun k b c=>?_;simp only[uI]at b c;have:=h (k:Int) (zI.2 ⟨by omega,by unfold ln;omega⟩);rw[zm3 b,zm3 c] at this;simp[cPg,this]);unfold zfi;rw[this]
theorem zbdR {h:Host}(H:HOk h):Op h (cold h):=by have c:∀m,hasB m (ln h.Mons)=true->ix (cold h).Mons m mZ=zwz (ix h.Mons m mZ) (ix h.Mons m mZ).Tables.length 0:=fun m a=>z8X h a;have n:∀i q,zcM (cold h) i q=zcM h i q:=(by intro i q;unfold zcM;rw[zJ0];cases b:hasB i (ln h.Mons) with|false=>rfl|true=>rw[c i b];rfl);refine⟨⟨H.m12,H.pgs,by rw[zza];exact H.n1,by rw[zza];exact H.n3,rfl,rfl,fun y s=>?_,fun q r=>?_⟩,⟨zza h,fun i b=>by rw[c i b];rfl,fun i b=>by rw[c i b];rfl,fun i b=>by rw[c i b];rfl,fun i b=>by rw[c i b];rfl,fun i b=>by rw[c i b];rfl,fun i k _ _=>n i k⟩,fun R=>⟨fun m a=>?_,fun e j=>(by cases j),fun e j=>(by cases j)⟩⟩;{obtain⟨m,a,rfl⟩:=zYJ s mZ;rw[zJ0]at a;rw[c m a];have X:=H.mon a;have k:KeepP (ix h.Mons m mZ) (zwz (ix h.Mons m mZ) (ix h.Mons m mZ).Tables.length 0):=⟨rfl,rfl⟩;exact zlm X k rfl (zM6 _ _ _) rfl X.outs X.pend X.tr X.own X.gs};{rw [zbcQ (l:=h.Mons) (zza h) (fun m a=>by rw[c m a];rfl)];exact H.uq q r};{rw [zJ0]at a;rw[c m a];have X:=H.mon a;intro g hg;show KOk (ix (zwy (ix h.Mons m mZ).Tables.length 0 (ix h.Mons m mZ).Tables) g kZ) (ix (ix h.Mons m mZ).Guests g gZ).Live (ix h.Mons m mZ).Outer;have d:hasB g (ln (ix h.Mons m mZ).Guests)=true:=hg;have f:=zI.1 d;unfold ln at f;have p:=X.gt;rw[zWI _ _ _ (by omega) g f.1,if_pos (by omega)];exact zUN (R.t m a g d)}
theorem zZQ {m g:Int}(c:win m 0 2=true)(hg:win g 0 1=true):zdF (zdT m g)=m/\zer (zdT m g)=g/\1<=zdT m g/\zdT m g<=6:=by have d:=zcD.1 c;have e:=zcD.1 hg;have a:m=0\/m=1\/m=2:=(by omega);have b:g=0\/g=1:=(by omega);rcases a with rfl|rfl|rfl<;>rcases b with rfl|rfl<;>decide
theorem HOk.tag {h:Host}(H:HOk h){m g:Int}(a:hasB m (ln h.Mons)=true)(hg:hasB g (ln (ix h.Mons m mZ).Guests)=true):win m 0 2=true/\win g 0 1=true:=by have b:=zI.1 a;have c:=zI.1 hg;have d:=H.n3;have e:=(H.mon a).g2;unfold ln at b c;exact⟨zcD.2 (by omega),zcD.2 (by omega)⟩
theorem zgy {r:Int}:zcS r=true↔r=0\/r=1\/r=2\/r=3:=by unfold zcS ige ile;rw[qE,q0,q0];omega
theorem zsn {a b:Int}(h:enough a b=true):zcS a=true/\zcS b=true:=by unfold enough at h;rw[zcg,zcg]at h;exact⟨h.1,h.2.1⟩
theorem zW8 {a b c:Int}(d:enough a b=true)(e:enough b c=true):enough a c=true:=by have f:=zgy.1 (zsn d).1;have g:=zgy.1 (zsn d).2;have h:=zgy.1 (zsn e).2;rcases f with rfl|rfl|rfl|rfl<;>rcases g with rfl|rfl|rfl|rfl<;>rcases h with rfl|rfl|rfl|rfl<;>revert d e<;>decide
theorem z0y {a b n:Int}(g:n=1\/n=2)(c:enough a n=true)(d:enough b n=true):zdv a b≠0/\enough (zdv a b) n=true:=by have e:=zgy.1 (zsn c).1;have f:=zgy.1 (zsn d).1;rcases g with rfl|rfl<;>rcases e with rfl|rfl|rfl|rfl<;>rcases f with rfl|rfl|rfl|rfl<;>revert c d<;>decide
theorem both_ok (a b:Int):zcS (zdv a b)=true:=by
 unfold zdv;cases c:zcS a with
 |false=>rfl
 |true=>
  cases d:zcS b with
  |false=>rfl
  |true=>have c:=zgy.1 c;have d:=zgy.1 d;rcases c with rfl|rfl|rfl|rfl<;>rcases d with rfl|rfl|rfl|rfl<;>decide
theorem z0G {a:Int}(h:zcS a=true):enough a a=true:=by rcases zgy.1 h with rfl|rfl|rfl|rfl<;>decide
theorem zrt {n:Int}(a:n=1\/n=2):enough 0 n=false:=by rcases a with rfl|rfl<;>decide
theorem z3D {s:Slot}{o:List Slot}(a:s.Page≠-1)(b:(zbu o s.Page).Page≠-1):zbr s o=bif ieq (zdv s.Rights (zbu o s.Page).Rights) 0 then noSlot else ⟨(zbu o s.Page).Page,zdv s.Rights (zbu o s.Page).Rights⟩:=by unfold zbr;rw[zbT.2 a,zbT.2 b];rfl
theorem zqu {s:Slot}{o:List Slot}{n:Int}(c:n=1\/n=2)(h:enough (zbr s o).Rights n=true):s.Page≠-1/\(zbu o s.Page).Page≠-1/\(zbr s o).Page=(zbu o s.Page).Page:=by unfold zbr at h ⊢;by_cases a:s.Page = -1;{rw [zbo.2 a,cond_true]at h;rw[show noSlot.Rights=0 from rfl,zrt c]at h;cases h};{rw [zbT.2 a,cond_false]at h ⊢;by_cases b:(zbu o s.Page).Page = -1;{rw [zbo.2 b,cond_true]at h;rw[show noSlot.Rights=0 from rfl,zrt c]at h;cases h};{rw [zbT.2 b,cond_false]at h ⊢;by_cases d:zdv s.Rights (zbu o s.Page).Rights=0;{rw [zbo.2 d,cond_true]at h;rw[show noSlot.Rights=0 from rfl,zrt c]at h;cases h};{rw [zbT.2 d];exact⟨a,b,rfl⟩}}}
theorem zWJ {s:Slot}{o:List Slot}{n:Int}(e:n=1\/n=2)(a:s.Page≠-1)(b:(zbu o s.Page).Page≠-1)(c:enough s.Rights n=true)(d:enough (zbu o s.Page).Rights n=true) :
 (zbr s o).Page=(zbu o s.Page).Page/\enough (zbr s o).Rights n=true:=by
 have:=z0y e c d;rw[z3D a b,zbT.2 this.1];exact⟨rfl,this.2⟩
theorem z3E (s:Slot)(o:List Slot):zcS (zbr s o).Rights=true:=by unfold zbr;cases ieq s.Page (-1)<;>cases ieq (zbu o s.Page).Page (-1)<;>cases ieq (zdv s.Rights (zbu o s.Page).Rights) 0<;>first|rfl|exact both_ok _ _
theorem zAU {b:List Entry}{t p:Int}{e:Entry}:e∈zcF b t p↔e∈b/\¬ (e.Tag=t/\e.Page=p):=by unfold zcF;rw[List.mem_filter];refine and_congr Iff.rfl ?_;unfold zsB;by_cases h:e.Tag=t;{rw [show ine e.Tag t=false by simp[ine,h],cond_false,zmc];simp[h]};{rw [zmc.2 h];simp[h]}
theorem zbam {b:List Entry}{e x:Entry}(h:x∈znY b e):x∈b\/x=e:=by unfold znY ap at h;have:x∈zcF b e.Tag e.Page++[e]:=(by cases a:igt (ln (zcF b e.Tag e.Page++[e])) 6 with|true=>rw[a,cond_true]at h;exact kJ h|false=>rw[a,cond_false]at h;exact h);rcases jG.1 this with h|h;{exact .inl (zAU.1 h).1};{exact .inr (qF.1 h)}
theorem zbfM {n:Nat}(h:n<=100):wsub .i64 (n:Int) 6=(n:Int)-6:=by unfold wsub IntKind.wrap;simp[IntKind.signed,IntKind.bits];omega
theorem z2i {b:List Entry}(h:zfg b=true)(e:Entry):zfg (znY b e)=true:=by have c:=zGJ.1 h;have k:(zcF b e.Tag e.Page).length<=6:=qU (k7 _ _) c.2;have d:(zcF b e.Tag e.Page++[e]).Pairwise (fun y x=>sameKey x y=false):=(by rw[List.pairwise_append];refine⟨c.1.sublist List.filter_sublist,List.pairwise_singleton _ _,fun x i y j=>?_⟩;rw[qF.1 j];have:=(zAU.1 i).2;unfold sameKey;by_cases a:e.Tag=x.Tag;{rw [zbo.2 a,cond_true,zbT];exact fun f=>this ⟨a.symm,f.symm⟩};{rw [zbT.2 a];rfl});unfold znY ap;cases g:igt (ln (zcF b e.Tag e.Page++[e])) 6 with|true=>rw[cond_true,zGJ];refine⟨d.sublist (List.drop_sublist _ _),?_⟩;unfold dp ln;rw[j8,k6,zbfM (by omega),vI,j8,k6];omega|false=>rw[cond_false,zGJ];refine⟨d,?_⟩;have:=jQ g;unfold ln at this;omega
theorem z7u {h r:Host}{m:Int}(c:hasB m (ln h.Mons)=true){y:Mon}(b:r.Mons=up h.Mons m y)(a:r.Memory=h.Memory)(k:KeepP (ix h.Mons m mZ) y)(g:y.Guests=(ix h.Mons m mZ).Guests)(o:y.Outs=(ix h.Mons m mZ).Outs)(p:y.Pending=(ix h.Mons m mZ).Pending)(t:y.Traps=(ix h.Mons m mZ).Traps)(w:y.Own=(ix h.Mons m mZ).Own):Like h r:=by have e:∀{d:Type} (F:Mon->d),F y=F (ix h.Mons m mZ)->∀i,hasB i (ln h.Mons)=true->F (ix r.Mons i mZ)=F (ix h.Mons i mZ):=(by intro d F f i j;rw[b];by_cases e:m=i;{subst e;rw[zbf c];exact f};{rw [zbt (zI.1 c).1 (zI.1 j).1 e]});exact⟨by rw[b,zbN],e Mon.Guests g,e Mon.Outs o,e Mon.Pending p,e Mon.Traps t,e Mon.Own w,fun i q _ _=>zO0 c b a k i q⟩
theorem zbap {h:Host}(R:Rt h){m g:Int}(d:hasB m (ln h.Mons)=true)(r:hasB g (ln (ix h.Mons m mZ).Tables)=true){k:Kept}(u:KOk k (ix (ix h.Mons m mZ).Guests g gZ).Live (ix h.Mons m mZ).Outer) :
 Rt {h with Mons:=up h.Mons m {ix h.Mons m mZ with Tables:=up (ix h.Mons m mZ).Tables g k}}:=by
 have f:∀e,zc8 h e=true->zc8 {h with Mons:=up h.Mons m {ix h.Mons m mZ with Tables:=up (ix h.Mons m mZ).Tables g k}} e=true:=by intro e b;obtain⟨l,n,p⟩:=zfP.1 b;rw[zfP];show hasB (zdF e.Tag) (ln (up h.Mons m _))=true/\hasB (zer e.Tag) (ln (ix (up h.Mons m _) (zdF e.Tag) mZ).Guests)=true/\below' _ (zbr (zbu (ix (ix (up h.Mons m _) (zdF e.Tag) mZ).Guests (zer e.Tag) gZ).Live e.Page) (ix (up h.Mons m _) (zdF e.Tag) mZ).Outer)=true;rw[zdV];refine⟨l,?_⟩;by_cases a:m=zdF e.Tag;{rw [<- a]at l n p ⊢;rw[zbf d];exact⟨n,p⟩};{rw [zbt (zI.1 d).1 (zI.1 l).1 a];exact⟨n,p⟩}
 refine⟨fun i s=>?_,fun e b=>f e (R.e1 e b),fun e b=>f e (R.e2 e b)⟩
 show TOk (ix (up h.Mons m _) i mZ)
 have c:hasB i (ln h.Mons)=true:=by have:hasB i (ln (up h.Mons m {ix h.Mons m mZ with Tables:=up (ix h.Mons m mZ).Tables g k}))=true:=s;rwa [zdV] at this
 by_cases a:m=i
 .subst a;rw[zbf d];intro j q
  by_cases e:g=j
  .subst e
   show KOk (ix (up _ g k) g kZ) _ _
   rw[zbf r];exact u
  .show KOk (ix (up _ g k) j kZ) _ _
   rw[zbt (zI.1 r).1 (zI.1 q).1 e];exact R.t m d j q
 .rw [zbt (zI.1 d).1 (zI.1 c).1 a];exact R.t i c
theorem z99 {h:Host}(H:HOk h){m g:Int}(a:hasB m (ln h.Mons)=true)(c:hasB g (ln (ix h.Mons m mZ).Tables)=true){k:Kept}(b:Rt h->KOk k (ix (ix h.Mons m mZ).Guests g gZ).Live (ix h.Mons m mZ).Outer) :
 Op h {h with Mons:=up h.Mons m {ix h.Mons m mZ with Tables:=up (ix h.Mons m mZ).Tables g k}}:=by
 have X:=H.mon a;have kp:KeepP (ix h.Mons m mZ) {ix h.Mons m mZ with Tables:=up (ix h.Mons m mZ).Tables g k}:=⟨rfl,rfl⟩;exact⟨zXm H a kp (zlm X kp rfl (zbN _ _ _) rfl X.outs X.pend X.tr X.own X.gs),z7u (y:={ix h.Mons m mZ with Tables:=up (ix h.Mons m mZ).Tables g k}) a rfl rfl kp rfl rfl rfl rfl rfl,fun R=>zbap R a c (b R)⟩
theorem zOo {k:Kept}{a b:List Slot}(h:KOk k a b)(p:Int):KOk (filled k a b p) a b:=by unfold filled zdr;cases d:hasB p (ln k.Known) with|false=>exact h|true=>have f:hasB p (ln k.Slots)=true:=(by unfold ln at d ⊢;rw[h.l2,<- h.l1];exact d);have g:hasB p (ln a)=true:=(by unfold ln at d ⊢;rw[<- h.l1];exact d);rw[cond_true,f,cond_true,g,cond_true];refine⟨by rw[zbN];exact h.l1,by rw[zbN];exact h.l2,fun i c=>?_⟩;by_cases e:p=i;{subst e;show ix (up _ p _) p sZ=bif ix (up _ p true) p false then _ else _;rw[zbf f,zbf d];rfl};{show ix (up _ p _) i sZ=bif ix (up _ p true) i false then _ else _;rw[zbt (zI.1 f).1 (zI.1 c).1 e,zbt (zI.1 f).1 (zI.1 c).1 e];exact h.at' i c}
theorem zbdS {h:Host}(H:HOk h){m g:Int}(b:hasB m (ln h.Mons)=true)(hg:hasB g (ln (ix h.Mons m mZ).Guests)=true)(a:Int):Op h (zcq h m g a):=
 z99 H b (by unfold ln;rw[(H.mon b).gt];exact hg) fun R=>zOo (R.t m b g hg) a
theorem z5Y {k:Kept}{a b:List Slot}(h:KOk k a b){p:Int}(c:hasB p (ln a)=true):zdO k p=bif ix k.Known p false then zbr (ix a p sZ) b else noSlot:=by have d:hasB p (ln k.Known)=true:=(by unfold ln at c ⊢;rw[h.l1];exact c);have e:hasB p (ln k.Slots)=true:=(by unfold ln at c ⊢;rw[h.l2];exact c);unfold zdO zi2 zdr;rw[d,e,cond_true,cond_true,h.at' p c];cases ix k.Known p false<;>rfl
theorem z3w {k:Kept}{a b:List Slot}(h:KOk k a b){p:Int}(c:hasB p (ln a)=true):zdO (filled k a b p) p=zbr (ix a p sZ) b:=by rw[z5Y (zOo h p) c];have d:hasB p (ln k.Known)=true:=(by unfold ln at c ⊢;rw[h.l1];exact c);have e:hasB p (ln k.Slots)=true:=(by unfold ln at c ⊢;rw[h.l2];exact c);have:ix (filled k a b p).Known p false=true:=(by unfold filled zdr;rw[d,e,c];exact zbf d _ _);rw[this];rfl
theorem zbeZ {h:Host}(H:HOk h){m g a:Int}(i:Bool)(n:Rt h->zc8 h (zV3 h m g a)=true):Op h (zw5 h m g a i):=by have f:∀(j k:List Entry),Like h ⟨h.Memory,h.Mons,j,k⟩:=fun _ _=>⟨rfl,fun _ _=>rfl,fun _ _=>rfl,fun _ _=>rfl,fun _ _=>rfl,fun _ _=>rfl,fun _ _ _ _=>rfl⟩;have d:∀(b:List Entry),(∀e∈b,zc8 h e=true)->Rt h->∀e∈znY b (zV3 h m g a),zc8 h e=true:=(by intro b l R e c;rcases zbam c with c|c;{exact l e c};{rw [c];exact n R});unfold zw5;cases i;{exact⟨⟨H.m12,H.pgs,H.n1,H.n3,z2i H.b1 _,H.b2,H.mons,H.uq⟩,f _ _,fun R=>⟨R.t,fun e c=>d _ R.e1 R e c,R.e2⟩⟩};{exact⟨⟨H.m12,H.pgs,H.n1,H.n3,H.b1,z2i H.b2 _,H.mons,H.uq⟩,f _ _,fun R=>⟨R.t,R.e1,fun e c=>d _ R.e2 R e c⟩⟩}
theorem z9I {b:List Entry}{t p:Int}{e:Entry}(h:ztU b t p=some e):e∈b/\e.Tag=t/\e.Page=p:=by unfold ztU at h;have a:=List.find?_some h;rw[zcg,zbo,zbo]at a;exact⟨uJ h,a⟩
theorem zgN {h:Host}{m g:Int}:zbM h m g=true↔HOk h/\hasB m (ln h.Mons)=true/\hasB g (ln (ix h.Mons m mZ).Guests)=true:=by unfold zbM;rw[zcg,zcg,zky]
structure GOk (x:Guest):Prop where
 prog:zda x.Prog=true
 a:win x.A 0 99=true
 pc:win x.Pc 0 12=true
 w:zc1 x.Written 4 8=true
 l:zc1 x.Live 4 8=true
 ctl:zhR x.Ctl=true
 pend:zc3 x.Pending=true
 ex:zhC x.Exit=true
 seen:ile (ln x.Seen) 40=true
theorem zuv {x:Guest}:zdd x=true↔GOk x:=by unfold zdd;simp only[qE];exact⟨fun⟨a,b,c,d,e,f,g,h,i⟩=>⟨a,b,c,d,e,f,g,h,i⟩,fun⟨a,b,c,d,e,f,g,h,i⟩=>⟨a,b,c,d,e,f,g,h,i⟩⟩
theorem z8q {s:Slot}:zdQ s 8=true↔s=noSlot\/(0<=s.Page/\s.Page<=7/\1<=s.Rights/\s.Rights<=3):=by unfold zdQ;rw[zuU,zqg,zsO];have:wsub .i64 8 1=7:=(by decide);simp only[this,zuU,zcD];simp[igt];constructor;{rintro (h|⟨h,⟨a,b⟩,c⟩);{exact .inl h};{exact .inr ⟨a,b,c⟩}};{intro h;by_cases d:s=noSlot;{exact .inl d};{rcases h with h|⟨a,b,c⟩;{exact .inl h};{exact .inr ⟨d,⟨a,b⟩,c⟩}}}
theorem HOk.guest {h:Host}(H:HOk h){m g:Int}(a:hasB m (ln h.Mons)=true)(hg:hasB g (ln (ix h.Mons m mZ).Guests)=true):GOk (ix (ix h.Mons m mZ).Guests g gZ):=zuv.1 ((H.mon a).gs _ (zkW hg _))
structure Walked (l:List Slot) (p n q:Int):Prop where
 hp:hasB p (ln l)=true
 pg:(ix l p sZ).Page=q
 q8:hasB q 8=true
 en:enough (ix l p sZ).Rights n=true
theorem walked {x:Guest}(X:GOk x){p n:Int}(a:zd2 x.Live p n=true):Walked x.Live p n (zcb x.Live p n):=by have e:zcb x.Live p n=(zbu x.Live p).Page:=(by unfold zcb;rw[a];rfl);unfold zd2 at a;by_cases b:(zbu x.Live p).Page = -1;{rw [zbo.2 b]at a;cases a};{rw [zbT.2 b,cond_false,zcg]at a;have c:hasB p (ln x.Live)=true:=(by cases c:hasB p (ln x.Live) with|true=>rfl|false=>exact absurd (by unfold zbu;rw[c];rfl) b);rw[zoy c] at e b a;rw[e];have d:=z8q.1 ((zsh.1 X.l).1 _ (zkW c sZ));refine⟨c,rfl,?_,a.1⟩;rcases d with d|d;{rw [d]at b;exact absurd rfl b};{exact zI.2 (by omega)}}
structure Looked (h r:Host) (m g page need q host:Int):Prop where
 op:Op h r
 inn:(ix (ix r.Mons m mZ).Outer q sZ).Page=host
 ne:host≠-1
 en:enough (zbr (ix (ix (ix h.Mons m mZ).Guests g gZ).Live page sZ) (ix r.Mons m mZ).Outer).Rights need=true
 cp:(zbr (ix (ix (ix h.Mons m mZ).Guests g gZ).Live page sZ) (ix r.Mons m mZ).Outer).Page=host
 dk:∀k,hasB k 8=true->k≠q->ix (ix r.Mons m mZ).Dirty k false=ix (ix h.Mons m mZ).Dirty k false
 dq:need=2->ix (ix r.Mons m mZ).Dirty q false=true
 d1:need=1->(ix r.Mons m mZ).Dirty=(ix h.Mons m mZ).Dirty
 dm:∀i,hasB i (ln h.Mons)=true->i≠m->(ix r.Mons i mZ).Dirty=(ix h.Mons i mZ).Dirty
theorem zTG {h:Host}(S:Safe h){m g a b q:Int}(f:hasB m (ln h.Mons)=true)(hg:hasB g (ln (ix h.Mons m mZ).Guests)=true)(l:b=1\/b=2)(W:Walked (ix (ix h.Mons m mZ).Guests g gZ).Live a b q)(c:Bool)(d:zdO (zb4 h m g) a=zbr (ix (ix (ix h.Mons m mZ).Guests g gZ).Live a sZ) (ix h.Mons m mZ).Outer)(i:enough (zdO (zb4 h m g) a).Rights b=true) :
 Op h (zeA h m g a c).1/\(zeA h m g a c).2=((ix (ix h.Mons m mZ).Outer q sZ).Page,true)/\(ix (ix h.Mons m mZ).Outer q sZ).Page≠-1/\(zeA h m g a c).1.Mons=h.Mons:=by
 rw[d]at i;have e:=zqu l i;rw[W.pg,zoy ((S.ok.mon f).hasO W.q8)]at e;refine⟨zbeZ S.ok c fun R=>?_,?_,e.2.1,?_⟩
 .obtain⟨t1,t2⟩:=S.ok.tag f hg;obtain⟨j,k,_⟩:=zZQ t1 t2;rw[zfP]
  show hasB (zdF (zdT m g)) _=true/\hasB (zer (zdT m g)) (ln (ix h.Mons (zdF (zdT m g)) mZ).Guests)=true/\below' ⟨(zdO (zb4 h m g) a).Page,(zdO (zb4 h m g) a).Rights⟩ (zbr (zbu (ix (ix h.Mons (zdF (zdT m g)) mZ).Guests (zer (zdT m g)) gZ).Live a) (ix h.Mons (zdF (zdT m g)) mZ).Outer)=true
  rw[j,k,zoy W.hp,d];exact⟨f,hg,zsk.2 (.inr ⟨rfl,z0G (z3E _ _)⟩)⟩
 .show ((zdO (zb4 h m g) a).Page,true)=_
  rw[d,e.2.2]
 .show (zw5 h m g a c).Mons=_
  unfold zw5;cases c<;>rfl
theorem zYD {h:Host}(S:Safe h){m g page need q:Int}(x:hasB m (ln h.Mons)=true)(hg:hasB g (ln (ix h.Mons m mZ).Guests)=true)(D:need=1\/need=2)(W:Walked (ix (ix h.Mons m mZ).Guests g gZ).Live page need q)(N:Bool){b:List Entry}(hb:∀e∈b,zc8 h e=true)(hd:need=2->ix (ix h.Mons m mZ).Dirty q false=true) :
 Looked h (zgf h b m g page need q N).1 m g page need q (zgf h b m g page need q N).2.1/\(zgf h b m g page need q N).2.2=true:=by
 have X:=S.ok.mon x;have r:=W.q8;have L:=zoy (X.hasO W.q8);unfold zgf;cases K:zhY b m g page need with
 |true=>
  rw[cond_true];unfold zhY at K;cases B:zsp b m g page with
  |none=>rw[B]at K;cases K
  |some e=>rw[B]at K;have A:enough e.Rights need=true:=K;obtain⟨f1,f2,f3⟩:=z9I B;obtain⟨t1,t2⟩:=S.ok.tag x hg;obtain⟨b1,b2,_⟩:=zZQ t1 t2;obtain⟨_,_,v⟩:=zfP.1 (hb e f1);rw[f2,b1,b2,f3,zoy W.hp]at v;have T:(⟨e.Host,e.Rights⟩:Slot)≠noSlot:=fun f=>(by have:e.Rights=0:=congrArg Slot.Rights f;rw[this,zrt D]at A;cases A);rcases zsk.1 v with v|⟨v,h4⟩;{exact absurd v T};{have h5:=zW8 h4 A;have f:=zqu D h5;rw[W.pg,L]at f;have O:e.Host=_:=v;refine⟨⟨Op.refl S.ok,f.2.2.symm.trans v.symm,?_,h5,v.symm,fun _ _ _=>rfl,hd,fun _=>rfl,fun _ _ _=>rfl⟩,rfl⟩;show e.Host≠-1;rw[O,f.2.2];exact f.2.1}
 |false=>
  rw[cond_false];have P:=S.rt.t m x g hg;cases y:zeq h m g page need with
  |false=>rw[cond_false];have E:ix (zb4 h m g).Known page false=true/\enough (zdO (zb4 h m g) page).Rights need=true:=(by unfold zeq at y;cases n:zi2 (zb4 h m g) page with|false=>rw[n]at y;cases y|true=>rw[n,cond_true]at y;refine⟨?_,?_⟩;{unfold zi2 at n;cases hh:zdr (zb4 h m g) page with|false=>rw[hh]at n;cases n|true=>rw[hh]at n;exact n};{cases hz:ieq (zdO (zb4 h m g) page).Page (-1) with|true=>rw[hz]at y;cases y|false=>rw[hz]at y;simpa using y});have H:zdO (zb4 h m g) page=zbr (ix (ix (ix h.Mons m mZ).Guests g gZ).Live page sZ) (ix h.Mons m mZ).Outer:=(by have Z:=z5Y P W.hp;have h1:ix (ix (ix h.Mons m mZ).Tables g kZ).Known page false=true:=E.1;rw[h1]at Z;exact Z);obtain⟨U,V,Y,d⟩:=zTG S x hg D W N H E.2;rw[V];have J:=E.2;rw[H]at J;have f:=zqu D J;rw[W.pg,L]at f;exact⟨⟨U,by rw[d],Y,by rw[d];exact J,by rw[d];exact f.2.2,fun _ _ _=>by rw[d],fun e=>by rw[d];exact hd e,fun _=>by rw[d],fun _ _ _=>by rw[d]⟩,rfl⟩
  |true=>
   rw[cond_true];have M:=zTN S.ok (m:=m) (p:=q) need x r;have c:hasB m (ln (mended h m q need).Mons)=true:=(by rw[M.op.like.has];exact x);have C:(ix (mended h m q need).Mons m mZ).Guests=(ix h.Mons m mZ).Guests:=M.op.like.g m x;have l:hasB g (ln (ix (mended h m q need).Mons m mZ).Guests)=true:=(by rw[C];exact hg);have G:Safe (mended h m q need):=M.op.safe S;have F:=zbdS G.ok c l page;have S2:Safe (zcq (mended h m q need) m g page):=F.safe G;have R:hasB m (ln (zcq (mended h m q need) m g page).Mons)=true:=(by rw[F.like.has];exact c);have u:ix (zcq (mended h m q need) m g page).Mons m mZ={ix (mended h m q need).Mons m mZ with Tables:=up (ix (mended h m q need).Mons m mZ).Tables g (filled (zb4 (mended h m q need) m g) (zcn (mended h m q need) m g) (ix (mended h m q need).Mons m mZ).Outer page)}:=zbf c _ _;have Q:hasB g (ln (ix (zcq (mended h m q need) m g page).Mons m mZ).Guests)=true:=(by rw[u];exact l);have w:(ix (zcq (mended h m q need) m g page).Mons m mZ).Guests=(ix h.Mons m mZ).Guests:=(by rw[u];exact C);have W2:Walked (ix (ix (zcq (mended h m q need) m g page).Mons m mZ).Guests g gZ).Live page need q:=(by rw[w];exact W);have H:zdO (zb4 (zcq (mended h m q need) m g page) m g) page=zbr (ix (ix (ix (zcq (mended h m q need) m g page).Mons m mZ).Guests g gZ).Live page sZ) (ix (zcq (mended h m q need) m g page).Mons m mZ).Outer:=(by have:zb4 (zcq (mended h m q need) m g page) m g=filled (zb4 (mended h m q need) m g) (zcn (mended h m q need) m g) (ix (mended h m q need).Mons m mZ).Outer page:=(by unfold zb4;rw[u];exact zbf (by unfold ln;rw[(G.ok.mon c).gt];exact l) _ _);rw[this];refine(z3w (p:=page) (G.rt.t m c g l) (by rw[C];exact W.hp)).trans ?_;rw[u]);have z:(ix (zcq (mended h m q need) m g page).Mons m mZ).Outer=(ix (mended h m q need).Mons m mZ).Outer:=by rw[u]
   have j:=zoy ((G.ok.mon c).hasO r);have a:=zWJ (s:=ix (ix (ix h.Mons m mZ).Guests g gZ).Live page sZ) (o:=(ix (mended h m q need).Mons m mZ).Outer) D (by rw[W.pg];have:=zI.1 r;omega) (by rw[W.pg,j];exact M.inn) W.en (by
    rw[W.pg,j];rcases D with rfl|rfl
    .rcases (G.ok.mon c).enough1 r M.inn with e|e<;>rw [e]<;>decide
    .rw [M.ri (by decide)];decide)
   have J:enough (zdO (zb4 (zcq (mended h m q need) m g page) m g) page).Rights need=true:=(by rw[H,w,z];exact a.2);obtain⟨U,V,Y,d⟩:=zTG S2 R Q D W2 N H J;rw[V];have I:=a.1;rw[W.pg,j]at I;refine⟨⟨(M.op.trans F).trans U,by rw[d],Y,by rw[d,z];exact a.2,by rw[d,z];exact I,fun k n f=>?_,fun e=>?_,fun e=>?_,fun i hi f=>?_⟩,rfl⟩;{rw [d,u];exact M.dk k n f};{rw [d,u];exact M.dt (by rw[e];decide)};{rw [d,u];exact M.d0 (by rw[e];decide)};{rw [d];show (ix (up (mended h m q need).Mons m _) i mZ).Dirty=_;rw[zbt (zI.1 x).1 (zI.1 hi).1 (Ne.symm f)];exact M.dm i hi f}
theorem zI4 {n:Int}:zfU n=true↔n=1\/n=2:=by unfold zfU;by_cases h:n=1;{rw [zbo.2 h];simp[h]};{rw [zbT.2 h,cond_false,zbo];simp[h]}
theorem zrC {h:Host}{m g page need:Int}:zbW h m g page need=true↔zbM h m g=true/\(need=1\/need=2)/\zd2 (zcn h m g) page need=true:=by unfold zbW;rw[zcg,zcg,zI4]
theorem zE9 {h:Host}(S:Safe h){m g page need:Int}(j:Bool)(t:zbW h m g page need=true){b:List Entry}(r:∀e∈b,zc8 h e=true) :
 Looked h (lookOf h b m g page need j).1 m g page need (zcb (zcn h m g) page need) (lookOf h b m g page need j).2.1/\(lookOf h b m g page need j).2.2=true:=by
 obtain⟨w,A,B⟩:=zrC.1 t;obtain⟨_,a,hg⟩:=zgN.1 w;have W:=walked (S.ok.guest a hg) B;unfold lookOf;rw[t,cond_true];rcases A with rfl|rfl
 .rw [show ieq 1 2=false by decide,cond_false]
  exact zYD S a hg (.inl rfl) W j r (fun e=>absurd e (by decide))
 .rw [show ieq 2 2=true by decide,cond_true]
  obtain⟨d,C⟩:=zOT S.ok a (zcb (zcn h m g) page 2);have p:hasB m (ln (zbE h m (zcb (zcn h m g) page 2)).Mons)=true:=by rw[d.like.has];exact a
  have f:ix (zbE h m (zcb (zcn h m g) page 2)).Mons m mZ={ix h.Mons m mZ with Dirty:=up (ix h.Mons m mZ).Dirty (zcb (zcn h m g) page 2) true}:=zbf a _ _;have x:=(S.ok.mon a).hasD W.q8;obtain⟨L,y⟩:=zYD (d.safe S) p (g:=g) (page:=page) (need:=2) (q:=zcb (zcn h m g) page 2) (by rw[f];exact hg) (.inr rfl) (by rw[f];exact W) j (b:=b) (fun e z=>by
   obtain⟨l,u,v⟩:=zfP.1 (r e z);rw[zfP];have n:hasB (zdF e.Tag) (ln (zbE h m (zcb (zcn h m g) page 2)).Mons)=true:=by rw[d.like.has];exact l
   refine⟨n,by rw[d.like.g _ l];exact u,?_⟩
   rw[d.like.g _ l];have:(ix (zbE h m (zcb (zcn h m g) page 2)).Mons (zdF e.Tag) mZ).Outer=(ix h.Mons (zdF e.Tag) mZ).Outer:=by show (ix (up h.Mons m _) _ mZ).Outer=_;by_cases c:m=zdF e.Tag;{rw [<- c,zbf a]};{rw [zbt (zI.1 a).1 (zI.1 l).1 c]}
   rw[this];exact v) (fun _=>by rw[f];exact zbf x _ _)
  refine⟨⟨d.trans L.op,L.inn,L.ne,?_,?_,fun k s c=>?_,L.dq,fun e=>absurd e (by decide),fun i n c=>?_⟩,y⟩
  .have:=L.en;rw[f] at this;exact this
  .have:=L.cp;rw[f] at this;exact this
  .rw [L.dk k s c,f];exact zbt (zI.1 W.q8).1 (zI.1 s).1 (Ne.symm c) _ _
  .rw [L.dm i (by rw[d.like.has];exact n) c]
   show (ix (up h.Mons m _) i mZ).Dirty=_
   rw[zbt (zI.1 a).1 (zI.1 n).1 (Ne.symm c)]
theorem zSI {x y:Int}(a : -9223372036854775808<=x+y)(b:x+y<=9223372036854775807):zL .i64 x y=x+y:=by unfold zL;simp only[IntKind.wrap,IntKind.signed,IntKind.bits];simp;omega
theorem zNe {n:Nat}{P:Int->Prop}(h:∀i:Fin n,P ((i.val:Nat):Int)){x:Int}(a:0<=x)(b:x<n):P x:=by have:=h ⟨x.toNat,by omega⟩;simpa [show ((x.toNat:Nat):Int)=x by omega] using this
theorem zY8 {p:Int}:zc3 p=true↔0<=p/\p<=255:=by unfold zc3;exact zcD
theorem zTU {p:Int}(h:zc3 p=true):zc3 (zf3 p)=true:=by have a:=zY8.1 h;exact zNe (n:=256) (P:=fun x=>zc3 (zf3 x)=true) (by decide +kernel) a.1 (by omega)
theorem zTT {p:Int}(h:zc3 p=true)(n:Int):zc3 (zt7 p n)=true:=by unfold zt7 zgx;rw[h,cond_true];cases e:win n 0 7 with|false=>exact h|true=>rw[cond_true];have b:=zY8.1 h;have a:=zcD.1 e;exact zNe (n:=256) (P:=fun x=>∀k,0<=k->k<(8:Int)->zc3 (wor .i64 x (zlQ .i64 1 k))=true) (fun i k c d=>zNe (n:=8) (P:=fun k=>zc3 (wor .i64 ((i.val:Nat):Int) (zlQ .i64 1 k))=true) (by revert i;decide +kernel) c d) b.1 (by omega) n a.1 (by omega)
structure GKeep (x y:Guest):Prop where
 ok:GOk y
 live:y.Live=x.Live
theorem z4l {x:Guest}(X:GOk x){c:Int}(b:win c 0 12=true):GOk {x with Pc:=c}:=⟨X.prog,X.a,b,X.w,X.l,X.ctl,X.pend,X.ex,X.seen⟩
theorem z4k {x:Guest}(X:GOk x){c:Int}(a:win c 0 99=true):GOk {x with A:=c}:=⟨X.prog,a,X.pc,X.w,X.l,X.ctl,X.pend,X.ex,X.seen⟩
theorem zjE {x:Guest}(X:GOk x):GKeep x (zbG x):=by unfold zbG;have a:=zcD.1 X.pc;cases h:ige x.Pc 12 with|true=>exact⟨z4l X (by decide),rfl⟩|false=>have:¬ x.Pc≥12:=jQ h;refine⟨z4l X ?_,rfl⟩;rw[zSI (by omega) (by omega)];exact zcD.2 (by omega)
theorem zXg {x:Guest}(X:GOk x)(n:Int):GKeep x (saw x n):=by unfold saw;cases h:ilt (ln x.Seen) 40 with|false=>exact⟨X,rfl⟩|true=>have:ln x.Seen<40:=qD h;refine⟨⟨X.prog,X.a,X.pc,X.w,X.l,X.ctl,X.pend,X.ex,qJ ?_⟩,rfl⟩;unfold ln ap at *;simp;omega
theorem zjF {x:Guest}(X:GOk x){e:GExit}(b:zhC e=true):GKeep x (stopped x e):=⟨⟨X.prog,X.a,X.pc,X.w,X.l,X.ctl,X.pend,b,X.seen⟩,rfl⟩
theorem z2x {x:Guest}(X:GOk x){p:Int}(b:zc3 p=true):GKeep x {x with Pending:=p}:=⟨⟨X.prog,X.a,X.pc,X.w,X.l,X.ctl,b,X.ex,X.seen⟩,rfl⟩
theorem z2u {x:Guest}(X:GOk x)(b:Bool):GKeep x {x with Halted:=b}:=⟨⟨X.prog,X.a,X.pc,X.w,X.l,X.ctl,X.pend,X.ex,X.seen⟩,rfl⟩
theorem z2v {x:Guest}(X:GOk x):GKeep x (held x):=⟨(zjE (z2u X true).ok).ok,(zjE (z2u X true).ok).live⟩
theorem z7a {x:Guest}(X:GOk x){v:Int}(c:win v 0 99=true):GKeep x (loaded x v):=by have a:=zXg (z4k X c) v;have b:=zjE a.ok;exact⟨b.ok,b.live.trans a.live⟩
theorem zP9 {x:Guest}(X:GOk x):GKeep x (interrupted x):=by unfold interrupted;cases zdp x with|false=>exact⟨X,rfl⟩|true=>have a:=z2x X (zTU X.pend);rw[cond_true];exact⟨(zXg a.ok _).ok,(zXg a.ok _).live⟩
theorem zLB {p:List Ins}(h:zda p=true)(i:Int):zdL (zbC p i)=true:=by unfold zbC;cases a:hasB i (ln p) with|false=>rfl|true=>unfold zda at h;rw[zcg,qM]at h;exact h.1 _ (zkW a _)
theorem zbeP {i:Ins}(h:zdL i=true)(a:i.Op=3\/i.Op=4):0<=i.X/\i.X<=15:=by unfold zdL at h;rcases a with e|e<;>rw [e]at h<;>exact zcD.1 h
theorem z7h {i:Ins}(h:zdL i=true)(a:i.Op=5\/i.Op=6):0<=i.X/\i.X<=99:=by unfold zdL at h;rcases a with e|e<;>rw [e]at h<;>exact zcD.1 h
theorem zbfu {i:Ins}(h:zdL i=true)(a:i.Op=8):0<=i.X/\i.X<=11:=by unfold zdL at h;rw[a]at h;exact zcD.1 h
theorem zbft {i:Ins}(h:zdL i=true)(a:i.Op=1):0<=i.X/\i.X<=99:=by unfold zdL at h;rw[a]at h;exact zcD.1 h
theorem z4m {x:Guest}(X:GOk x):GKeep x (plainly x):=by have M:=zjE X;have b:=zLB X.prog x.Pc;unfold plainly;cases ine (zC x) 2 with|true=>exact⟨X,rfl⟩|false=>rw[cond_false];(cases win x.A 0 99 with|false=>exact M|true=>rw[cond_true];(cases win (zbC x.Prog x.Pc).X 0 99 with|false=>exact M|true=>rw[cond_true];by_cases c:(zbC x.Prog x.Pc).Op=1;{rw [zbo.2 c,cond_true];exact⟨z4k M.ok (zcD.2 (zbft b c)),M.live⟩};{rw [zbT.2 c,cond_false];by_cases d:(zbC x.Prog x.Pc).Op=2;{rw [zbo.2 d,cond_true];refine⟨z4k M.ok ?_,M.live⟩;have f:=zcD.1 X.a;have i:0<=(zbC x.Prog x.Pc).X/\(zbC x.Prog x.Pc).X<=99:=(by unfold zdL at b;rw[d]at b;exact zcD.1 b);rw[zcD];unfold zjn;rw[zSI (by omega) (by omega)];have g:=Int.tmod_nonneg (a:=x.A+(zbC x.Prog x.Pc).X) 100 (by omega);have h:=Int.tmod_lt_of_pos (x.A+(zbC x.Prog x.Pc).X) (show (0:Int)<100 by omega);omega};{rw [zbT.2 d,cond_false];by_cases e:(zbC x.Prog x.Pc).Op=8;{rw [zbo.2 e,cond_true];cases ieq x.A 0 with|true=>have:=zbfu b e;exact⟨z4l M.ok (zcD.2 (by omega)),M.live⟩|false=>exact M};{rw [zbT.2 e];exact M}}}))
theorem zt6 {c:List Int}:zco c=true↔(∀x∈c,win x 0 99=true)/\ln c=4:=by unfold zco;rw[zcg,qM,zbo]
theorem znc (h:Host)(m:Int):∀(n i:Nat),(zcz h m n i).length=n
 | 0,_=>rfl
 |n+1,i=>by rw[zcz,qZ,znc h m n]
theorem zO2 (h:Host)(m:Int):∀(n i k:Nat) (a:k<(zcz h m n i).length),(zcz h m n i)[k]=zcM h m ((i+k:Nat):Int)
 | 0,i,k,a=>by simp[zcz]at a
 |n+1,i,k,a=>by cases k with|zero=>rfl|succ k=>have:=zO2 h m n (i+1) k (by simpa [zcz] using a);simp only[zcz,List.getElem_cons_succ];rw[this];congr 1;omega
theorem zqN {h:Host}{m q:Int}(b:hasB q 8=true)(d:List Int):ix (zcz h m 8 0) q d=zcM h m q:=by have c:=zI.1 b;have a:q.toNat<(zcz h m 8 0).length:=(by rw[znc];omega);have:=zm3 a d;rw[show ((q.toNat:Nat):Int)=q by omega] at this;rw[this,zO2];congr 1;omega
theorem zvu (h:Host)(m:Int):ln (zcz h m 8 0)=8:=by unfold ln;rw[znc];rfl
theorem zBA {h:Host}(H:HOk h){m p:Int}(b:hasB m (ln h.Mons)=true)(a:hasB p 8=true):zco (zcM h m p)=true:=by have X:=H.mon b;rw[<- zlu H b a];by_cases e:(ix (ix h.Mons m mZ).Outer p sZ).Page = -1;{rw [zbo.2 e];exact((zqy (X.slot a)).1 (X.fit p a)).1 e};{rw [zbT.2 e];exact zTR H.pgs _}
theorem zAo {h:Host}(H:HOk h){m:Int}(b:hasB m (ln h.Mons)=true):zbR (zG h m)=true:=by have X:=H.mon b;unfold zG;rw[b,cond_true];unfold zbR zhT;rw[zcg,qM];refine⟨X.gs,?_⟩;simp only[qE,zcg,qM,zbo,zcD];refine⟨⟨fun c d=>?_,zvu h m⟩,⟨?_,?_⟩,?_,X.pend⟩;{obtain⟨i,a,rfl⟩:=zYJ d [];rw[zvu]at a;rw[zqN a];exact zBA H b a};{unfold ln;have:=X.g1;omega};{unfold ln;have:=X.g2;omega};{unfold ile ln;have:=X.outs;exact qJ (by omega)}
structure SimT (h r:Host) (m:Int) (f:Bare->Bare):Prop where
 safe:Safe r
 seen:∀i,zG r i=bif ieq i m then f (zG h i) else zG h i
 len:r.Mons.length=h.Mons.length
theorem SimT.trans {a b c:Host}{m:Int}{f g:Bare->Bare}(x:SimT a b m f)(y:SimT b c m g):SimT a c m (fun t=>g (f t)):=by refine⟨y.safe,fun i=>?_,y.len.trans x.len⟩;rw[y.seen i,x.seen i];cases ieq i m<;>rfl
theorem Op.sim {h r:Host}(k:Op h r)(S:Safe h)(m:Int):SimT h r m id:=⟨k.safe S,fun i=>by rw[k.like.seen i];cases ieq i m<;>rfl,k.like.len⟩
theorem SimT.congr {h r:Host}{m:Int}{f g:Bare->Bare}(x:SimT h r m f)(e:f (zG h m)=g (zG h m)):SimT h r m g:=by refine⟨x.safe,fun i=>?_,x.len⟩;rw[x.seen i];by_cases a:i=m;{subst a;rw[zbo.2 rfl,cond_true,cond_true,e]};{rw [zbT.2 a];rfl}
theorem SimT.has {h r:Host}{m:Int}{f:Bare->Bare}(x:SimT h r m f)(i:Int):hasB i (ln r.Mons)=hasB i (ln h.Mons):=by unfold ln;rw[x.len]
theorem SimT.refl {h:Host}(S:Safe h)(m:Int):SimT h h m id:=⟨S,fun i=>by cases ieq i m<;>rfl,rfl⟩
theorem zxS {h:Host}(S:Safe h){m q a:Int}(l:hasB m (ln h.Mons)=true)(f:hasB q 8=true)(J:(ix (ix h.Mons m mZ).Outer q sZ).Page=a)(y:a≠-1)(c v:Int) :
 SimT h {h with Memory:=zbF h.Memory a c v} m (fun b=>{b with Memory:=zbF b.Memory q c v})/\cellAt h.Memory a c=cellAt (zG h m).Memory q c:=by
 have H:=S.ok;have X:=H.mon l;have N:=X.slot f;have E:=hasM H N (by rw[J];exact y)
 rw[J]at E;have z:ix h.Memory a []=zcM h m q:=by have:=zlu H l f;rw[J,zbT.2 y,cond_false,zlt E] at this;exact this
 have n:ln (zcM h m q)=4:=(zt6.1 (zBA H l f)).2;have d:(zG h m).Memory=zcz h m 8 0:=by unfold zG;rw[l];rfl
 have C:zfT h.Memory a c=hasB c 4:=by unfold zfT;rw[E,cond_true,z,n]
 have D:zfT (zcz h m 8 0) q c=hasB c 4:=by unfold zfT;rw[zvu,f,cond_true,zqN f,n]
 have u:cellAt h.Memory a c=cellAt (zG h m).Memory q c:=by rw[d];unfold cellAt;rw[C,D,z,zqN f]
 refine⟨?_,u⟩;cases A:hasB c 4 with
 |false=>have s:zbF h.Memory a c v=h.Memory:=(by unfold zbF;rw[C,A];rfl);rw[s];refine(SimT.refl S m).congr ?_;show zG h m={zG h m with Memory:=zbF (zG h m).Memory q c v};rw[d];have B:zbF (zcz h m 8 0) q c v=zcz h m 8 0:=(by unfold zbF;rw[D,A];rfl);rw[B,<- d]
 |true=>
  cases K:win v 0 99 with
  |false=>have s:zbF h.Memory a c v=h.Memory:=(by unfold zbF;rw[C,A,K];rfl);rw[s];refine(SimT.refl S m).congr ?_;show zG h m={zG h m with Memory:=zbF (zG h m).Memory q c v};rw[d];have B:zbF (zcz h m 8 0) q c v=zcz h m 8 0:=(by unfold zbF;rw[D,A,K];rfl);rw[B,<- d]
  |true=>have s:zbF h.Memory a c v=up h.Memory a (up (zcM h m q) c v):=(by unfold zbF;rw[C,A,K,z];rfl);have B:zbF (zcz h m 8 0) q c v=up (zcz h m 8 0) q (up (zcM h m q) c v):=(by unfold zbF;rw[D,A,K,zqN f];rfl);have G:zco (up (zcM h m q) c v)=true:=(by have:=zt6.1 (zBA H l f);rw[zt6,zdV];refine⟨fun x O=>?_,this.2⟩;rcases qW O with h|h;{exact this.1 x h};{rw [h];exact K});have P:=(zI.1 E).1;have L:HOk {h with Memory:=zbF h.Memory a c v}:=(by rw[s];refine⟨by show (up _ _ _).length=12;rw[zbN];exact H.m12,fun x O=>?_,H.n1,H.n3,H.b1,H.b2,H.mons,H.uq⟩;rcases qW O with h|h;{exact H.pgs x h};{rw [h];exact G});refine⟨⟨L,⟨S.rt.t,S.rt.e1,S.rt.e2⟩⟩,fun i=>?_,rfl⟩;have r:∀i k,hasB i (ln h.Mons)=true->hasB k 8=true->¬ (i=m/\k=q)->zcM {h with Memory:=zbF h.Memory a c v} i k=zcM h i k:=(by intro i k w g I;rw[<- zlu L (m:=i) (p:=k) w g,<- zlu H w g];show (cond (ieq (ix (ix h.Mons i mZ).Outer k sZ).Page (-1)) _ (zcv (zbF h.Memory a c v) _))=_;by_cases e:(ix (ix h.Mons i mZ).Outer k sZ).Page = -1;{rw [zbo.2 e];rfl};{rw [zbT.2 e,cond_false,cond_false,s];exact zFf P (fun e=>I (H.uniq w g l f e J P))});have F:zcM {h with Memory:=zbF h.Memory a c v} m q=up (zcM h m q) c v:=(by rw[<- zlu L (m:=m) (p:=q) l f];show (cond (ieq (ix (ix h.Mons m mZ).Outer q sZ).Page (-1)) _ (zcv (zbF h.Memory a c v) (ix (ix h.Mons m mZ).Outer q sZ).Page))=_;rw[J,zbT.2 y,cond_false,s];exact zFe E);by_cases w:i=m;{subst w;rw[zbo.2 rfl,cond_true];unfold zG;show (cond (hasB i (ln h.Mons)) _ _)=_;rw[l,cond_true,cond_true];show Bare.mk (zcz {h with Memory:=zbF h.Memory a c v} i 8 0) _ _ _=Bare.mk (zbF (zcz h i 8 0) q c v) _ _ _;congr 1;rw[B];refine zR0 [] (by rw[zbN,znc,znc]) fun k g=>?_;rw[zvu]at g;rw[zqN g];by_cases e:q=k;{subst e;rw[zbf (by rw[zvu];exact f),F]};{rw [zbt (zI.1 f).1 (zI.1 g).1 e,zqN g];exact r i k l g (fun h=>e h.2.symm)}};{rw [zbT.2 w,cond_false];unfold zG;show (cond (hasB i (ln h.Mons)) _ _)=_;cases M:hasB i (ln h.Mons) with|false=>rfl|true=>rw[cond_true,cond_true];show Bare.mk (zcz {h with Memory:=zbF h.Memory a c v} i 8 0) _ _ _=_;rw[zrG 8 0 (fun j C D=>r i (j:Int) M (zI.2 (by omega)) (fun h=>w h.1))]}
theorem zra {h:Host}(S:Safe h){m g:Int}(a:hasB m (ln h.Mons)=true)(hg:hasB g (ln (ix h.Mons m mZ).Guests)=true){y:Guest}(k:GKeep (gOf h m g) y):SimT h (zek h m g y) m (fun b=>zdG b g y):=by have X:=S.ok.mon a;have kp:KeepP (ix h.Mons m mZ) {ix h.Mons m mZ with Guests:=up (ix h.Mons m mZ).Guests g y}:=⟨rfl,rfl⟩;refine⟨zxR S a kp (zlm X kp (zbN _ _ _) rfl rfl X.outs X.pend X.tr X.own fun z d=>?_) (zbN _ _ _) (fun j c=>?_) rfl,fun i=>?_,zbN _ _ _⟩;{rcases qW d with h|h;{exact X.gs z h};{rw [h];exact zuv.2 k.ok}};{show (ix (up (ix h.Mons m mZ).Guests g y) j gZ).Live=_;by_cases e:g=j;{subst e;rw[zbf hg];exact k.live};{rw [zbt (zI.1 hg).1 (zI.1 c).1 e]}};{refine(zv7 (h:=h) (r:=zek h m g y) a rfl rfl kp i).trans ?_;by_cases e:i=m;{subst e;rw[zbo.2 rfl,cond_true,cond_true];unfold zdG zG;rw[a];rfl};{rw [zbT.2 e];rfl}}
theorem zZC {h:Host}(S:Safe h){m:Int}(a:hasB m (ln h.Mons)=true){y:Mon}(kp:KeepP (ix h.Mons m mZ) y)(d:MOk y)(hg:y.Guests=(ix h.Mons m mZ).Guests)(c:y.Tables=(ix h.Mons m mZ).Tables) :
 SimT h {h with Mons:=up h.Mons m y} m (fun b=>{b with Outs:=y.Outs,Pending:=y.Pending}):=by
 refine⟨zxR S a kp d (by rw[hg]) (fun j _=>by rw[hg]) c,fun i=>?_,zbN _ _ _⟩
 refine(zv7 (h:=h) (r:={h with Mons:=up h.Mons m y}) a rfl rfl kp i).trans ?_
 by_cases e:i=m
 .subst e;rw[zbo.2 rfl,cond_true,cond_true];unfold zG;rw[a,hg];rfl
 .rw [zbT.2 e];rfl
theorem zfr {h:Host}{m:Int}(a:hasB m (ln h.Mons)=true):zG h m=⟨zcz h m 8 0,(ix h.Mons m mZ).Guests,(ix h.Mons m mZ).Outs,(ix h.Mons m mZ).Pending⟩:=by unfold zG;rw[a];rfl
theorem z8p {h:Host}(S:Safe h){m:Int}(a:hasB m (ln h.Mons)=true):SimT h (owned h m) m id:=by unfold owned;cases b:ilt (ix h.Mons m mZ).Own 1000000000 with|false=>exact SimT.refl S m|true=>rw[cond_true];have X:=S.ok.mon a;have d:=zcD.1 X.own;have c:(ix h.Mons m mZ).Own<1000000000:=qD b;have kp:KeepP (ix h.Mons m mZ) {ix h.Mons m mZ with Own:=zL .i64 (ix h.Mons m mZ).Own 1}:=⟨rfl,rfl⟩;refine(zZC S a kp (zlm X kp rfl rfl rfl X.outs X.pend X.tr ?_ X.gs) rfl rfl).congr ?_;{show win (zL .i64 (ix h.Mons m mZ).Own 1) 0 1000000000=true;rw[zSI (by omega) (by omega),zcD];omega};{rw [zfr a];rfl}
theorem z5F {h:Host}(S:Safe h){m:Int}(a:hasB m (ln h.Mons)=true)(n:Int):SimT h (zhI h m n) m (fun b=>zik b n):=by unfold zhI;have X:=S.ok.mon a;cases c:ilt (ln (ix h.Mons m mZ).Outs) 40 with|false=>refine(SimT.refl S m).congr ?_;rw[zfr a];unfold zik;rw[c];rfl|true=>rw[cond_true];have d:ln (ix h.Mons m mZ).Outs<40:=qD c;have kp:KeepP (ix h.Mons m mZ) {ix h.Mons m mZ with Outs:=ap (ix h.Mons m mZ).Outs [n]}:=⟨rfl,rfl⟩;refine(zZC S a kp (zlm X kp rfl rfl rfl ?_ X.pend X.tr X.own X.gs) rfl rfl).congr ?_;{show (ap (ix h.Mons m mZ).Outs [n]).length<=40;unfold ln ap at *;simp;omega};{rw [zfr a];unfold zik;rw[c];rfl}
theorem zu4 {h:Host}{m g:Int}(a:hasB m (ln h.Mons)=true)(hg:hasB g (ln (ix h.Mons m mZ).Guests)=true):gAt (zG h m) g=gOf h m g:=by rw[zfr a];unfold gAt;show (cond (hasB g (ln (ix h.Mons m mZ).Guests)) _ _)=_;rw[hg];rfl
theorem zSJ {x:Guest}(h:zC x=3\/zC x=4\/zC x=5\/zC x=6):(zbC x.Prog x.Pc).Op=zC x:=by unfold zC at h ⊢;cases e:canRun x with|false=>simp[e]at h|true=>simp only[e,cond_true]at h ⊢;(cases f:zdp x with|true=>simp[f]at h|false=>simp only[f,cond_false]at h ⊢;unfold zlq at h ⊢;by_cases a:(zbC x.Prog x.Pc).Op=3;{rw [a];rfl};{rw [zbT.2 a,cond_false]at h ⊢;by_cases b:(zbC x.Prog x.Pc).Op=4;{rw [b];rfl};{rw [zbT.2 b,cond_false]at h ⊢;by_cases c:(zbC x.Prog x.Pc).Op=5;{rw [c];rfl};{rw [zbT.2 c,cond_false]at h ⊢;by_cases d:(zbC x.Prog x.Pc).Op=6;{rw [d];rfl};{rw [zbT.2 d,cond_false]at h ⊢;cases g:ieq (zbC x.Prog x.Pc).Op 7<;>simp [g]at h}}}})
theorem zbcN {x:Guest}(X:GOk x){w:Int}(a:zC x=w)(h:w=3\/w=4):0<=address x/\address x<=15:=by have e:address x=(zbC x.Prog x.Pc).X:=(by unfold address;rcases h with e|e;{rw [a,e];rfl};{rw [a,e];rfl});rw[e];exact zbeP (zLB X.prog _) (by rw[zSJ (by omega),a];exact h)
theorem zbcO {a:Int}(b:0<=a)(c:a<=15):win (zbe a) 0 3=true/\hasB (zcP a) 4=true :=
 zNe (n:=16) (P:=fun a=>win (zbe a) 0 3=true/\hasB (zcP a) 4=true) (by decide) b (by omega)
theorem z4b {p:Int}(h:win p 0 3=true)(w:Bool):zhC (zoh p w)=true:=by unfold zhC zoh;simp[ieq,h]
theorem z6P {n:Int}(h:win n 0 99=true):zhC (zqr n)=true:=by unfold zhC zqr;simp[ieq,h]
theorem z9H {n:Int}(h:win n 0 99=true):zhC (zuD n)=true:=by unfold zhC zuD;simp[ieq,h]
theorem z9N {x:Guest}(X:GOk x)(t:Int){w:Int}(d:zC x=w):GKeep x (zeO x t w):=by have c:=zLB X.prog x.Pc;unfold zeO;by_cases b:w=6;{rw [zbo.2 b];exact zjF X (z6P (zcD.2 (z7h c (by rw[zSJ (by omega),d];omega))))};{rw [zbT.2 b,cond_false];by_cases a:w=5;{rw [zbo.2 a];cases zde t 1 with|true=>exact zjF X (z9H (zcD.2 (z7h c (by rw[zSJ (by omega),d];omega))))|false=>rw[a];exact zjE X};{rw [zbT.2 a];rw[Bool.false_and,cond_false];cases e:(ieq w 7&&zde t 2) with|true=>exact zjF X rfl|false=>rw[cond_false];cases ieq w 7;{exact zjE X};{exact z2v X}}}
theorem z2E {a:Type}(g:Int):hasB g (ln ([]:List a))=false:=by cases h:hasB g (ln ([]:List a)) with|false=>rfl|true=>have:=zI.1 h;simp[ln] at this;omega
theorem z8T {m:List (List Int)}(h:∀c∈m,zco c=true)(p c:Int):win (cellAt m p c) 0 99=true:=by unfold cellAt zfT;cases b:hasB p (ln m) with|false=>rfl|true=>rw[cond_true];(cases a:hasB c (ln (ix m p [])) with|false=>rfl|true=>rw[cond_true];exact(zt6.1 (h _ (zkW b []))).1 _ (zkW a 0))
theorem HOk.seenG {h:Host}(H:HOk h){m g:Int}(a:hasB m (ln h.Mons)=true)(hg:hasB g (ln (ix h.Mons m mZ).Guests)=true):GOk (gOf h m g):=H.guest a hg
theorem zZN {h:Host}(S:Safe h){m g:Int}(i:hasB m (ln h.Mons)=true)(hg:hasB g (ln (ix h.Mons m mZ).Guests)=true)(w:Bool)(B:zC (gOf h m g)=bif w then 4 else 3) :
 SimT h (zeH (zdZ h m g (gOf h m g) w) m g (gOf h m g) w) m (fun b=>zh5 b g (gOf h m g) w):=by
 have X:=S.ok.seenG i hg;have t:=zbcN X B (by cases w<;>simp)
 have n:=zbcO t.1 t.2;have z:zbZ w=1\/zbZ w=2:=by cases w<;>simp [zbZ]
 unfold zeH zdZ;cases k:zbW h m g (zbe (address (gOf h m g))) (zbZ w) with
 |false=>have e:lookOf h h.Buffer m g (zbe (address (gOf h m g))) (zbZ w) false=(h,-1,false):=(by unfold lookOf;rw[k];rfl);have q:zd2 (gOf h m g).Live (zbe (address (gOf h m g))) (zbZ w)=false:=(by cases y:zd2 (gOf h m g).Live (zbe (address (gOf h m g))) (zbZ w) with|false=>rfl|true=>exact Bool.noConfusion (k.symm.trans (zrC.2 ⟨zgN.2 ⟨S.ok,i,hg⟩,z,y⟩)));rw[e];refine(zra S i hg (zjF X (z4b n.1 w))).congr ?_;unfold zh5;rw[q];rfl
 |true=>obtain⟨L,x⟩:=zE9 S false k S.rt.e1;obtain⟨_,_,j⟩:=zrC.1 k;have c:zd2 (gOf h m g).Live (zbe (address (gOf h m g))) (zbZ w)=true:=j;have W:=walked X j;rw[x,cond_true];have l:=L.op.safe S;have f:hasB m (ln (lookOf h h.Buffer m g (zbe (address (gOf h m g))) (zbZ w) false).1.Mons)=true:=(by rw[L.op.like.has];exact i);have a:=L.op.like.g m i;have C:hasB (zcb (zcn h m g) (zbe (address (gOf h m g))) (zbZ w)) 8=true:=W.q8;obtain⟨u,v⟩:=zxS l f C L.inn L.ne (zcP (address (gOf h m g))) (gOf h m g).A;rw[L.op.like.seen m] at v;cases w with|true=>rw[cond_true];have r:=L.op.sim S m;have p:hasB m (ln ({ (lookOf h h.Buffer m g (zbe (address (gOf h m g))) (zbZ true) false).1 with Memory:=zbF (lookOf h h.Buffer m g (zbe (address (gOf h m g))) (zbZ true) false).1.Memory (lookOf h h.Buffer m g (zbe (address (gOf h m g))) (zbZ true) false).2.1 (zcP (address (gOf h m g))) (gOf h m g).A}:Host).Mons)=true:=f;have d:hasB g (ln (ix ({ (lookOf h h.Buffer m g (zbe (address (gOf h m g))) (zbZ true) false).1 with Memory:=zbF (lookOf h h.Buffer m g (zbe (address (gOf h m g))) (zbZ true) false).1.Memory (lookOf h h.Buffer m g (zbe (address (gOf h m g))) (zbZ true) false).2.1 (zcP (address (gOf h m g))) (gOf h m g).A}:Host).Mons m mZ).Guests)=true:=(by show hasB g (ln (ix (lookOf h h.Buffer m g (zbe (address (gOf h m g))) (zbZ true) false).1.Mons m mZ).Guests)=true;rw[a];exact hg);have s:GKeep (gOf { (lookOf h h.Buffer m g (zbe (address (gOf h m g))) (zbZ true) false).1 with Memory:=zbF (lookOf h h.Buffer m g (zbe (address (gOf h m g))) (zbZ true) false).1.Memory (lookOf h h.Buffer m g (zbe (address (gOf h m g))) (zbZ true) false).2.1 (zcP (address (gOf h m g))) (gOf h m g).A} m g) (zbG (gOf h m g)):=(by have:gOf { (lookOf h h.Buffer m g (zbe (address (gOf h m g))) (zbZ true) false).1 with Memory:=zbF (lookOf h h.Buffer m g (zbe (address (gOf h m g))) (zbZ true) false).1.Memory (lookOf h h.Buffer m g (zbe (address (gOf h m g))) (zbZ true) false).2.1 (zcP (address (gOf h m g))) (gOf h m g).A} m g=gOf h m g:=(by show ix (ix (lookOf h h.Buffer m g (zbe (address (gOf h m g))) (zbZ true) false).1.Mons m mZ).Guests g gZ=_;rw[a];rfl);rw[this];exact zjE X);refine((r.trans u).trans (zra u.safe p d s)).congr ?_;unfold zh5;rw[c];rfl|false=>rw[cond_false];have r:=L.op.sim S m;have d:hasB g (ln (ix (lookOf h h.Buffer m g (zbe (address (gOf h m g))) (zbZ false) false).1.Mons m mZ).Guests)=true:=(by rw[a];exact hg);have s:GKeep (gOf (lookOf h h.Buffer m g (zbe (address (gOf h m g))) (zbZ false) false).1 m g) (loaded (gOf h m g) (cellAt (lookOf h h.Buffer m g (zbe (address (gOf h m g))) (zbZ false) false).1.Memory (lookOf h h.Buffer m g (zbe (address (gOf h m g))) (zbZ false) false).2.1 (zcP (address (gOf h m g))))):=(by have:gOf (lookOf h h.Buffer m g (zbe (address (gOf h m g))) (zbZ false) false).1 m g=gOf h m g:=(by show ix (ix (lookOf h h.Buffer m g (zbe (address (gOf h m g))) (zbZ false) false).1.Mons m mZ).Guests g gZ=_;rw[a];rfl);rw[this];exact z7a X (z8T l.ok.pgs _ _));refine(r.trans (zra l f d s)).congr ?_;unfold zh5;rw[c,v];rfl
theorem z9M {h r:Host}{m g:Int}(e:(ix r.Mons m mZ).Guests=(ix h.Mons m mZ).Guests):gOf r m g=gOf h m g:=by unfold gOf;rw[e]
theorem zbdT (h:Host)(m:Int)(a:hasB m (ln h.Mons)=true):(ix (owned h m).Mons m mZ).Guests=(ix h.Mons m mZ).Guests:=by unfold owned;cases ilt (ix h.Mons m mZ).Own 1000000000 with|false=>rfl|true=>show (ix (up h.Mons m _) m mZ).Guests=_;rw[zbf a]
theorem zbaa (h:Host)(m n:Int)(a:hasB m (ln h.Mons)=true):(ix (zhI h m n).Mons m mZ).Guests=(ix h.Mons m mZ).Guests:=by unfold zhI;cases ilt (ln (ix h.Mons m mZ).Outs) 40 with|false=>rfl|true=>show (ix (up h.Mons m _) m mZ).Guests=_;rw[zbf a]
theorem zT9 {h:Host}(S:Safe h){m:Int}(a:hasB m (ln h.Mons)=true)(x:Guest)(w:Int):SimT h (zd0 h m x w) m id/\(ix (zd0 h m x w).Mons m mZ).Guests=(ix h.Mons m mZ).Guests:=by unfold zd0;cases (cond (ine w 6) (ieq (zjR (ix h.Mons m mZ).Traps x.Ctl.Traps (zff w)) 2) false) with|false=>exact⟨SimT.refl S m,rfl⟩|true=>exact⟨z8p S a,zbdT h m a⟩
theorem zT8 {h:Host}(S:Safe h){m:Int}(a:hasB m (ln h.Mons)=true)(x:Guest)(w:Int):SimT h (zfL h m x w) m (fun b=>bif (cond (zgn x.Ctl.Traps w) (ieq w 5) false) then zik b (zbC x.Prog x.Pc).X else b)/\(ix (zfL h m x w).Mons m mZ).Guests=(ix h.Mons m mZ).Guests:=by unfold zfL;cases (cond (zgn x.Ctl.Traps w) (ieq w 5) false) with|false=>exact⟨SimT.refl S m,rfl⟩|true=>exact⟨z5F S a _,zbaa h m _ a⟩
theorem zGs {h:Host}(S:Safe h){m g:Int}(d:hasB m (ln h.Mons)=true)(hg:hasB g (ln (ix h.Mons m mZ).Guests)=true){w:Int}(l:zC (gOf h m g)=w) :
 SimT h (ziu h m g (gOf h m g) w) m (fun b=>zoz b g (gOf h m g) w):=by
 have X:=S.ok.seenG d hg;obtain⟨f,j⟩:=zT9 S d (gOf h m g) w;have a:hasB m (ln (zd0 h m (gOf h m g) w).Mons)=true:=by rw[f.has];exact d
 obtain⟨i,k⟩:=zT8 f.safe a (gOf h m g) w;have e:hasB m (ln (zfL (zd0 h m (gOf h m g) w) m (gOf h m g) w).Mons)=true:=by rw[i.has];exact a
 have c:hasB g (ln (ix (zfL (zd0 h m (gOf h m g) w) m (gOf h m g) w).Mons m mZ).Guests)=true:=by rw[k,j];exact hg
 have n:GKeep (gOf (zfL (zd0 h m (gOf h m g) w) m (gOf h m g) w) m g) (zeO (gOf h m g) (gOf h m g).Ctl.Traps w):=by rw[z9M (k.trans j)];exact z9N X _ l
 exact((f.trans i).trans (zra i.safe e c n)).congr rfl
theorem zPV (x:Guest):zC x=0\/zC x=1\/zC x=2\/zC x=3\/zC x=4\/zC x=5\/zC x=6\/zC x=7:=by unfold zC zlq;cases canRun x<;>cases zdp x<;>cases ieq (zbC x.Prog x.Pc).Op 3<;>cases ieq (zbC x.Prog x.Pc).Op 4<;>cases ieq (zbC x.Prog x.Pc).Op 5<;>cases ieq (zbC x.Prog x.Pc).Op 6<;>cases ieq (zbC x.Prog x.Pc).Op 7<;>simp
theorem zWG {h:Host}(H:HOk h)(m g:Int):zfW (zG h m) g=bif zbM h m g then !ieq (zC (gOf h m g)) 0 else false:=by unfold zfW zbM;rw[zky.2 H,cond_true];cases a:hasB m (ln h.Mons) with|false=>have:(zG h m).Guests=[]:=(by unfold zG;rw[a];rfl);rw[this,z2E];rfl|true=>rw[cond_true,zAo H a,cond_true];have:(zG h m).Guests=(ix h.Mons m mZ).Guests:=(by rw[zfr a]);rw[this];(cases hg:hasB g (ln (ix h.Mons m mZ).Guests) with|false=>rfl|true=>rw[cond_true,cond_true,zu4 a hg])
theorem step_ok {h:Host}(S:Safe h)(m g:Int):SimT h (zbd h m g).1 m (fun b=>zd8 b g)/\(zbd h m g).2=zfW (zG h m) g:=by
 have a:=zWG S.ok m g;unfold zbd;cases i:zbM h m g with
 |false=>rw[i,cond_false]at a;refine⟨(SimT.refl S m).congr ?_,a.symm⟩;unfold zd8;rw[a];rfl
 |true=>rw[i,cond_true]at a;rw[cond_true];obtain⟨_,c,hg⟩:=zgN.1 i;have X:=S.ok.seenG c hg;have f:=zu4 c hg;have d:∀w,zC (gOf h m g)=w->w≠0->zd8 (zG h m) g=stepped (zG h m) g (gOf h m g) w:=(by intro w j k;unfold zd8;rw[a,j,zbT.2 k,f,j];rfl);rcases zPV (gOf h m g) with e|e|e|e|e|e|e|e;{rw [e];rw[e]at a;refine⟨(SimT.refl S m).congr ?_,a.symm⟩;unfold zd8;rw[a];rfl};{rw [e]at a ⊢;exact⟨(zra S c hg (zP9 X)).congr (d 1 e (by decide)).symm,a.symm⟩};{rw [e]at a ⊢;exact⟨(zra S c hg (z4m X)).congr (d 2 e (by decide)).symm,a.symm⟩};{rw [e]at a ⊢;exact⟨(zZN S c hg false e).congr (d 3 e (by decide)).symm,a.symm⟩};{rw [e]at a ⊢;exact⟨(zZN S c hg true e).congr (d 4 e (by decide)).symm,a.symm⟩};{rw [e]at a ⊢;exact⟨(zGs S c hg e).congr (d 5 e (by decide)).symm,a.symm⟩};{rw [e]at a ⊢;exact⟨(zGs S c hg e).congr (d 6 e (by decide)).symm,a.symm⟩};{rw [e]at a ⊢;exact⟨(zGs S c hg e).congr (d 7 e (by decide)).symm,a.symm⟩}
structure BackOk (b c:Bare):Prop where
 m:c.Memory=b.Memory
 o:c.Outs=b.Outs
 n:c.Guests.length=b.Guests.length
 g:∀j,hasB j (ln b.Guests)=true->GKeep (ix b.Guests j gZ) (ix c.Guests j gZ)
 p:zc3 b.Pending=true->zc3 c.Pending=true
theorem zbax {h:Host}(S:Safe h){m:Int}(b:hasB m (ln h.Mons)=true){c:Bare}(k:BackOk (zG h m) c):SimT h (zdg h m c) m (fun _=>c):=by have X:=S.ok.mon b;have f:=zfr b;have d:(zG h m).Guests=(ix h.Mons m mZ).Guests:=(by rw[f]);have l:c.Guests.length=(ix h.Mons m mZ).Guests.length:=(by rw[k.n,d]);have hg:∀j,hasB j (ln (ix h.Mons m mZ).Guests)=true->GKeep (ix (ix h.Mons m mZ).Guests j gZ) (ix c.Guests j gZ):=fun j a=>(by have:=k.g j (by rw[d];exact a);rwa [d] at this);have kp:KeepP (ix h.Mons m mZ) (zww (ix h.Mons m mZ) c):=⟨rfl,rfl⟩;have s:zc3 c.Pending=true:=k.p (by rw[f];exact X.pend);refine⟨zxR S b kp (zlm X kp l rfl rfl X.outs s X.tr X.own fun z t=>?_) l (fun j a=>(hg j a).live) rfl,fun i=>?_,zbN _ _ _⟩;{obtain⟨j,a,rfl⟩:=zYJ t gZ;exact zuv.2 (hg j (by unfold ln at a ⊢;rw[<- l];exact a)).ok};{refine(zv7 (h:=h) (r:=zdg h m c) b rfl rfl kp i).trans ?_;by_cases e:i=m;{subst e;rw[zbo.2 rfl,cond_true,cond_true];show Bare.mk (zG h i).Memory c.Guests (ix h.Mons i mZ).Outs c.Pending=c;have u:=k.m;have q:=k.o;rw[f]at q;cases c;simp_all};{rw [zbT.2 e];rfl}}
theorem seen_none {h:Host}{m:Int}(a:hasB m (ln h.Mons)=false):zG h m=⟨[],[],[],0⟩:=by unfold zG;rw[a];rfl
theorem zuB:zbR ⟨[],[],[],0⟩=false:=by decide
theorem zuT {b:Bare}(h:zbR b=false)(g:Int):zci b g=false:=by unfold zci;rw[h];rfl
theorem zia {b:Bare}(h:zbR b=true):BackOk b b:=⟨rfl,rfl,rfl,fun j a=>⟨zuv.1 (by
 unfold zbR at h;rw[zcg,qM]at h;exact h.1 _ (zkW a _)),rfl⟩,id⟩
theorem z6d {b:Bare}(h:zbR b=true){g:Int}(hg:hasB g (ln b.Guests)=true){y:Guest}(k:GKeep (gAt b g) y):BackOk b (zdG b g y):=by have e:gAt b g=ix b.Guests g gZ:=(by unfold gAt;rw[hg];rfl);refine⟨rfl,rfl,zbN _ _ _,fun j c=>?_,id⟩;show GKeep _ (ix (up b.Guests g y) j gZ);by_cases a:g=j;{subst a;rw[zbf hg,<- e];exact k};{rw [zbt (zI.1 hg).1 (zI.1 c).1 a];exact(zia h).g j c}
theorem zsj {b:Bare}(h:zbR b=true){g:Int}{c:Bool}{y:Guest}(k:hasB g (ln b.Guests)=true->c=true->GOk (gAt b g)->GKeep (gAt b g) y):BackOk b (chg b g c y):=by unfold chg zci;rw[h,cond_true];cases hg:hasB g (ln b.Guests) with|false=>exact zia h|true=>rw[cond_true];(cases c with|false=>exact zia h|true=>refine z6d h hg (k hg rfl ?_);have:=(zia h).g g hg;unfold gAt;rw[hg];exact this.ok)
theorem zqP {h:Host}(S:Safe h)(m:Int){F:Bare->Bare}(d:∀b,zbR b=true->BackOk b (F b))(c:F ⟨[],[],[],0⟩=⟨[],[],[],0⟩):SimT h (zeW h m (F (zG h m))) m F:=by unfold zeW zcR;rw[zky.2 S.ok,cond_true];cases a:hasB m (ln h.Mons) with|false=>refine(SimT.refl S m).congr ?_;rw[seen_none a];exact c.symm|true=>exact(zbax S a (d _ (zAo S.ok a))).congr rfl
theorem zlx {h:Host}(S:Safe h)(m:Int){t:Bare->Bool}(a:t ⟨[],[],[],0⟩=false):zeg h m (t (zG h m))=t (zG h m):=by unfold zeg zcR;rw[zky.2 S.ok,cond_true];cases b:hasB m (ln h.Mons) with|false=>rw[cond_false,seen_none b,a]|true=>rfl
theorem zqs (g:Int)(c:Bool)(y:Guest):chg ⟨[],[],[],0⟩ g c y=⟨[],[],[],0⟩:=by unfold chg;rw[zuT zuB];rfl
theorem zjC (g:Int)(c:Bool):zb7 ⟨[],[],[],0⟩ g c=false:=by unfold zb7;rw[zuT zuB];rfl
theorem zZP {t:List Slot}{n q:Int}(h:zc1 t n q=true){p:Int}{s:Slot}(b:zdQ s q=true):zc1 (zes t p s) n q=true:=by
 unfold zes;cases hasB p (ln t) with
 |false=>exact h
 |true=>rw[cond_true];rw[zsh]at h ⊢;rw[zdV];refine⟨fun x c=>?_,h.2⟩;rcases qW c with a|a;{exact h.1 x a};{rw [a];exact b}
theorem zbdy {x:Guest}(X:GOk x){p:Int}{s:Slot}(h:ztA p s=true):GKeep x (zBX x p s):=by unfold ztA at h;rw[zcg]at h;exact⟨⟨X.prog,X.a,X.pc,zZP X.w h.2,X.l,X.ctl,X.pend,X.ex,X.seen⟩,rfl⟩
theorem zbdv {x:Guest}(X:GOk x){v:Int}(h:zs8 x v=true):GKeep x (zya x v):=by unfold zs8 at h;rw[zcg]at h;unfold zya;cases ieq x.Exit.Kind 2 with|true=>rw[cond_true];have b:=zjF (z4k X h.1) (e:=zlp) rfl;have a:=zjE b.ok;exact⟨a.ok,a.live⟩|false=>rw[cond_false];have b:=zjF X (e:=zlp) rfl;have a:=zjE b.ok;exact⟨a.ok,a.live.trans b.live⟩
theorem zbdx {x:Guest}(X:GOk x):GKeep x (zyu x):=by unfold zyu;have a:=zjF X (e:=zlp) rfl;cases ieq x.Exit.Kind 1 with|true=>exact a|false=>have b:=z2v a.ok;exact⟨b.ok,b.live.trans a.live⟩
theorem z2w {x:Guest}(X:GOk x)(n:Int):GKeep x (znV x n):=z2x X (zTT X.pend n)
theorem zbdw {x:Guest}(X:GOk x){c:Ctl}(h:zhR c=true):GKeep x (zJ2 x c):=⟨⟨X.prog,X.a,X.pc,X.w,X.l,h,X.pend,X.ex,X.seen⟩,rfl⟩
theorem zEq (n:Int):∀(d:List Int) (b:Bare) (l:List Guest),(∀k∈d,hasB k (ln b.Guests)=true)->BackOk b {b with Guests:=l}->BackOk b {b with Guests:=zmi n d l}
 |[],b,l,_,h=>h
 |k::d,b,l,q,h=>by show BackOk b {b with Guests:=zmi n d (zG7 n l k)};refine zEq n d b _ (fun j a=>q j (qX _ a)) ⟨h.m,h.o,by show (up l k _).length=_;rw[zbN];exact h.n,fun j a=>?_,h.p⟩;show GKeep _ (ix (up l k _) j gZ);have r:l.length=b.Guests.length:=h.n;have c:hasB k (ln l)=true:=(by unfold ln;rw[r];exact q k jA);by_cases e:k=j;{subst e;rw[zbf c];have f:=h.g k a;have i:=z2w f.ok n;exact⟨i.ok,i.live.trans f.live⟩};{rw [zbt (zI.1 c).1 (zI.1 a).1 e];exact h.g j a}
theorem z3y {b:Bare}(h:zbR b=true)(n:Int):BackOk b (zjT b n):=by
 unfold zjT zfb zG8;rw[h,cond_true];cases hasB n 8 with
 |false=>exact zia h
 |true=>
  rw[cond_true];cases ieq (ln (zej b.Guests n)) 0 with
  |true=>have:=zia h;exact⟨rfl,rfl,rfl,this.g,fun c=>zTT c n⟩
  |false=>rw[cond_false];refine zEq n _ b b.Guests (fun k a=>?_) (zia h);unfold zej at a;obtain⟨j,e,rfl,_⟩:=(zK7 (d:=gZ)).1 a;exact zI.2 ⟨by omega,by unfold ln;omega⟩
theorem z6c {b:Bare}(h:zbR b=true):BackOk b (zmK b):=by unfold zmK;rw[h,cond_true];exact⟨rfl,rfl,rfl,(zia h).g,fun a=>zTU a⟩
theorem zbal {h:Host}(S:Safe h)(m p c v:Int):SimT h (znO h m p c v) m (fun b=>zV8 b p c v)/\zfy h m p c v=zzx (zG h m) p c v:=by have e:zfy h m p c v=zzx (zG h m) p c v:=(by unfold zfy zzx zcC zbcA;rw[zky.2 S.ok,cond_true];cases d:hasB m (ln h.Mons) with|false=>rw[seen_none d,zuB];rfl|true=>rw[zAo S.ok d,cond_true];rfl);refine⟨?_,e⟩;unfold znO;cases f:zfy h m p c v with|false=>refine(SimT.refl S m).congr ?_;unfold zV8;rw[<- e,f];rfl|true=>rw[cond_true];have a:=f;unfold zfy at a;rw[zcg,zcg]at a;obtain⟨k,_,_⟩:=a;obtain⟨_,d,j⟩:=zph.1 k;have M:=zTN S.ok (m:=m) (p:=p) 2 d j;have i:=M.op.sim S m;have g:hasB m (ln (mended h m p 2).Mons)=true:=(by rw[i.has];exact d);obtain⟨l,_⟩:=zxS i.safe g j rfl M.inn c v;refine(i.trans l).congr ?_;unfold zV8;rw[<- e,f];rfl
theorem z7x {h:Host}(S:Safe h)(m g b a:Int):zbW h m g b a=(cond (zci (zG h m) g) (cond (zfU a) (zd2 (gAt (zG h m) g).Live b a) false) false):=by have e:zbM h m g=zci (zG h m) g:=(by unfold zbM zci;rw[zky.2 S.ok,cond_true];cases c:hasB m (ln h.Mons) with|false=>rw[seen_none c,zuB,cond_false,cond_false]|true=>rw[cond_true,zAo S.ok c,cond_true];have:(zG h m).Guests=(ix h.Mons m mZ).Guests:=(by rw[zfr c]);rw[this]);unfold zbW;rw[<- e];cases hg:zbM h m g with|false=>rw[cond_false,cond_false]|true=>obtain⟨_,c,hg⟩:=zgN.1 hg;have:(gAt (zG h m) g).Live=zcn h m g:=(by rw[zu4 c hg];rfl);rw[this]
theorem zKh {h:Host}(S:Safe h)(m g a n:Int)(b:n=1\/n=2):zoP (zG h m) g a n=bif win a 0 15 then zbW h m g (zbe a) n else false:=by rw[z7x S];unfold zoP;rw[zI4.2 b,cond_true];cases zci (zG h m) g<;>cases win a 0 15<;>rfl
theorem zW5 {h:Host}(S:Safe h){m g a n:Int}(f:n=1\/n=2)(b:zoP (zG h m) g a n=true) :
 Looked h (zE0 h m g a n).1 m g (zbe a) n (zGN (zG h m) g a n) (zE0 h m g a n).2.1/\hasB m (ln h.Mons)=true/\hasB (zGN (zG h m) g a n) 8=true:=by
 rw[zKh S m g a n f,zcg]at b;obtain⟨L,_⟩:=zE9 S true b.2 S.rt.e2;obtain⟨d,_,i⟩:=zrC.1 b.2;obtain⟨_,c,hg⟩:=zgN.1 d;have e:zGN (zG h m) g a n=zcb (zcn h m g) (zbe a) n:=by unfold zGN;rw[zu4 c hg];rfl
 rw[e];exact⟨L,c,(walked (S.ok.guest c hg) i).q8⟩
theorem zbeI {h:Host}(S:Safe h)(m g a v:Int):SimT h (zqD h m g a v) m (fun b=>z3Y b g a v)/\zg8 h m g a v=zAS (zG h m) g a v:=by have e:zg8 h m g a v=zAS (zG h m) g a v:=(by unfold zg8 zAS;rw[zKh S m g a 2 (.inr rfl)];cases win a 0 15<;>cases win v 0 99<;>cases zbW h m g (zbe a) 2<;>rfl);refine⟨?_,e⟩;unfold zqD;cases c:zg8 h m g a v with|false=>refine(SimT.refl S m).congr ?_;unfold z3Y;rw[<- e,c];rfl|true=>rw[cond_true];have f:zoP (zG h m) g a 2=true:=(by have:=e.symm.trans c;unfold zAS at this;exact(zcg.1 this).1);obtain⟨L,i,j⟩:=zW5 S (.inr rfl) f;have d:=L.op.sim S m;obtain⟨k,_⟩:=zxS d.safe (by rw[d.has];exact i) j L.inn L.ne (zcP a) v;refine(d.trans k).congr ?_;unfold z3Y;rw[<- e,c];rfl
theorem zbdV {h:Host}(S:Safe h)(m g a:Int):SimT h (znP h m g a) m id/\zgb h m g a=zoP (zG h m) g a 1/\zsw h m g a=zWc (zG h m) g a:=by have e:zgb h m g a=zoP (zG h m) g a 1:=(by unfold zgb;rw[zKh S m g a 1 (.inl rfl)]);unfold znP zsw zWc;rw[e];cases d:zoP (zG h m) g a 1 with|false=>exact⟨SimT.refl S m,rfl,rfl⟩|true=>obtain⟨L,f,i⟩:=zW5 S (.inl rfl) d;have b:=L.op.sim S m;obtain⟨_,c⟩:=zxS b.safe (by rw[b.has];exact f) i L.inn L.ne (zcP a) 0;rw[L.op.like.seen m] at c;exact⟨b,rfl,c⟩
theorem z7j {k:Kept}{a b:List Slot}(h:KOk k a b)(p:Int)(s:Slot):KOk (zbY k p) (zes a p s) b:=by have j:=zla k p;have f:(zes a p s).length=a.length:=(by unfold zes;cases hasB p (ln a)<;>simp [zbN]);refine⟨by rw[j.1,f,h.l1],by rw[j.2,f,h.l2],fun i l=>?_⟩;have c:hasB i (ln a)=true:=(by unfold ln at l ⊢;rwa [<- f]);have d:hasB i (ln k.Known)=true:=(by unfold ln at c ⊢;rwa [h.l1]);have g:=zyg (q:=p) (by rw[h.l1,h.l2]) d;rw[g.1,g.2];by_cases e:p=i;{subst e;rw[zbo.2 rfl];rfl};{rw [zbT.2 e,cond_false,cond_false,h.at' i c];have:ix (zes a p s) i sZ=ix a i sZ:=(by unfold zes;cases m:hasB p (ln a) with|false=>rfl|true=>exact zbt (zI.1 m).1 (zI.1 c).1 e _ _);rw[this]}
theorem zbfc {t m g:Int}(a:zdF t=m)(b:zer t=g)(c:0<=m):t=zdT m g:=by subst a;subst b;by_cases h:1<=t/\t<=6;{have e:t=1\/t=2\/t=3\/t=4\/t=5\/t=6:=(by omega);rcases e with rfl|rfl|rfl|rfl|rfl|rfl<;>decide};{exfalso;have:zdF t = -1:=(by unfold zdF ige ile;rw[show (decide (t≥1)&&decide (t<=6))=false by simp;omega];rfl);omega}
theorem z1V {t:List Slot}{p q:Int}{s:Slot}(h:q≠p):zbu (zes t p s) q=zbu t q:=by unfold zes;cases a:hasB p (ln t) with|false=>rfl|true=>exact zUa (zI.1 a).1 h
theorem zbay {t:List Slot}(h:zc1 t 4 8=true)(p:Int):zdQ (zbu t p) 8=true:=by unfold zbu;cases a:hasB p (ln t) with|false=>rfl|true=>exact(zsh.1 h).1 _ (zkW a _)
theorem z6Z {x:Guest}(X:GOk x)(p:Int):GOk (zd1 x p):=⟨X.prog,X.a,X.pc,X.w,zZP X.l (zbay X.w p),X.ctl,X.pend,X.ex,X.seen⟩
theorem z9K {h:Host}(S:Safe h)(m g p:Int):SimT h (zlc h m g p) m (fun b=>chg b g (hasB p 4) (zd1 (gAt b g) p))/\zeg h m (zb7 (zG h m) g (hasB p 4))=zb7 (zG h m) g (hasB p 4):=by
 refine⟨?_,zlx S m (t:=fun b=>zb7 b g (hasB p 4)) (zjC g _)⟩;unfold zlc zcR;rw[zky.2 S.ok,cond_true];cases a:hasB m (ln h.Mons) with
 |false=>refine(SimT.refl S m).congr ?_;rw[seen_none a,zqs];rfl
 |true=>
  rw[cond_true];cases w:zb7 (zG h m) g (hasB p 4) with
  |false=>refine(SimT.refl S m).congr ?_;show zG h m=chg (zG h m) g (hasB p 4) (zd1 (gAt (zG h m) g) p);have c:=w;unfold zb7 at c;unfold chg;rw[c];rfl
  |true=>rw[cond_true];have c:=w;unfold zb7 zci at c;rw[zAo S.ok a,cond_true,zcg,zfr a]at c;have hg:hasB g (ln (ix h.Mons m mZ).Guests)=true:=c.1;have X:=S.ok.mon a;have G:=S.ok.seenG a hg;have C:chg (zG h m) g (hasB p 4) (zd1 (gAt (zG h m) g) p)=zdG (zG h m) g (zd1 (gOf h m g) p):=(by have l:=w;unfold zb7 at l;unfold chg;rw[l,zu4 a hg];rfl);rw[C];have B:hasB g (ln (ix h.Mons m mZ).Tables)=true:=(by unfold ln;rw[X.gt];exact hg);have s:(zED (zdg h m (zdG (zG h m) g (zd1 (gOf h m g) p))) m g p).Mons=up h.Mons m {ix h.Mons m mZ with Guests:=up (ix h.Mons m mZ).Guests g (zd1 (gOf h m g) p),Tables:=up (ix h.Mons m mZ).Tables g (zbY (ix (ix h.Mons m mZ).Tables g kZ) p)}:=(by show up (up h.Mons m _) m _=_;rw[z8F];have D:ix (zdg h m (zdG (zG h m) g (zd1 (gOf h m g) p))).Mons m mZ=zww (ix h.Mons m mZ) (zdG (zG h m) g (zd1 (gOf h m g) p)):=zbf a _ _;rw[D];unfold zww zdG;rw[zfr a]);have kp:KeepP (ix h.Mons m mZ) {ix h.Mons m mZ with Guests:=up (ix h.Mons m mZ).Guests g (zd1 (gOf h m g) p),Tables:=up (ix h.Mons m mZ).Tables g (zbY (ix (ix h.Mons m mZ).Tables g kZ) p)}:=⟨rfl,rfl⟩;have K:MOk {ix h.Mons m mZ with Guests:=up (ix h.Mons m mZ).Guests g (zd1 (gOf h m g) p),Tables:=up (ix h.Mons m mZ).Tables g (zbY (ix (ix h.Mons m mZ).Tables g kZ) p)}:=zlm X kp (zbN _ _ _) (zbN _ _ _) rfl X.outs X.pend X.tr X.own fun z L=>(by rcases qW L with h|h;{exact X.gs z h};{rw [h];exact zuv.2 (z6Z G p)});have E:HOk (zED (zdg h m (zdG (zG h m) g (zd1 (gOf h m g) p))) m g p):=S.ok.up a K s S.ok.m12 S.ok.pgs (zAK S.ok.b1 _) (zAK S.ok.b2 _) fun q _=>.inl (qY _);have u:∀b:List Entry,(∀e∈b,zc8 h e=true)->∀e∈zcF b (zdT m g) p,zc8 (zED (zdg h m (zdG (zG h m) g (zd1 (gOf h m g) p))) m g p) e=true:=(by intro b F e H;obtain⟨x,y⟩:=zAU.1 H;obtain⟨l,n,r⟩:=zfP.1 (F e x);rw[zfP,s,zdV];refine⟨l,?_⟩;by_cases d:m=zdF e.Tag;{rw [<- d]at l n r ⊢;rw[zbf a];show hasB (zer e.Tag) (ln (up _ _ _))=true/\below' _ (zbr (zbu (ix (up (ix h.Mons m mZ).Guests g _) (zer e.Tag) gZ).Live e.Page) (ix h.Mons m mZ).Outer)=true;rw[zdV];refine⟨n,?_⟩;by_cases f:g=zer e.Tag;{rw [<- f]at n r ⊢;rw[zbf hg];have A:e.Page≠p:=fun J=>y ⟨zbfc d.symm f.symm (zI.1 a).1,J⟩;show below' _ (zbr (zbu (zes (gOf h m g).Live p _) e.Page) _)=true;rw[z1V A];exact r};{rw [zbt (zI.1 hg).1 (zI.1 n).1 f];exact r}};{rw [zbt (zI.1 a).1 (zI.1 l).1 d];exact⟨n,r⟩});refine⟨⟨E,⟨fun i v=>?_,u _ S.rt.e1,u _ S.rt.e2⟩⟩,fun i=>?_,by rw[s,zbN]⟩;{rw [s]at v ⊢;rw[zdV]at v;by_cases d:m=i;{subst d;rw[zbf a];intro j I;show KOk (ix (up (ix h.Mons m mZ).Tables g _) j kZ) (ix (up (ix h.Mons m mZ).Guests g _) j gZ).Live (ix h.Mons m mZ).Outer;have k:hasB j (ln (ix h.Mons m mZ).Guests)=true:=(by have:hasB j (ln (up (ix h.Mons m mZ).Guests g (zd1 (gOf h m g) p)))=true:=I;rwa [zdV] at this);by_cases e:g=j;{subst e;rw[zbf B,zbf hg];exact z7j (S.rt.t m a g hg) p _};{rw [zbt (zI.1 hg).1 (zI.1 k).1 e,zbt (zI.1 hg).1 (zI.1 k).1 e];exact S.rt.t m a j k}};{rw [zbt (zI.1 a).1 (zI.1 v).1 d];exact S.rt.t i v}};{refine(zv7 (h:=h) a s rfl kp i).trans ?_;by_cases e:i=m;{subst e;rw[zbo.2 rfl,cond_true,cond_true,C,zfr a];rfl};{rw [zbT.2 e];rfl}}
theorem zUl (g:Int):zd8 ⟨[],[],[],0⟩ g=⟨[],[],[],0⟩/\zfW ⟨[],[],[],0⟩ g=false:=by have:zfW ⟨[],[],[],0⟩ g=false:=(by unfold zfW;rw[z2E];rfl);refine⟨?_,this⟩;unfold zd8;rw[this];rfl
theorem z9P {h:Host}(S:Safe h)(a:GAct):SimT h (zvp h a) a.M (fun b=>zMU b a)/\zEY h a=zMV (zG h a.M) a:=by
 have f:=zuB;unfold zvp zEY zMU zMV;cases ieq a.Kind 1 with
 |true=>obtain⟨k,e⟩:=step_ok S a.M a.G;exact⟨k,by rw[cond_true,cond_true,e]⟩
 |false=>
  simp only[cond_false];cases ieq a.Kind 2 with
  |true=>
   exact⟨zqP S a.M (F:=fun b=>chg b a.G (ztA a.X ⟨a.Y,a.Z⟩) (zBX (gAt b a.G) a.X ⟨a.Y,a.Z⟩)) (fun b c=>zsj c fun _ d G=>zbdy G d) (zqs _ _ _),
    congrArg (fun t=>Told.mk t 0) (zlx S a.M (t:=fun b=>zb7 b a.G (ztA a.X ⟨a.Y,a.Z⟩)) (zjC _ _))⟩
  |false=>
   simp only[cond_false];cases ieq a.Kind 3 with
   |true=>obtain⟨k,e⟩:=z9K S a.M a.G a.X;exact⟨k,congrArg (fun t=>Told.mk t 0) e⟩
   |false=>
    simp only[cond_false];cases ieq a.Kind 4 with
    |true=>
     exact⟨zqP S a.M (F:=fun b=>chg b a.G (zs8 (gAt b a.G) a.X) (zya (gAt b a.G) a.X)) (fun b c=>zsj c fun _ d G=>zbdv G d) (zqs _ _ _),
      congrArg (fun t=>Told.mk t 0) (zlx S a.M (t:=fun b=>zb7 b a.G (zs8 (gAt b a.G) a.X)) (zjC _ _))⟩
    |false=>
     simp only[cond_false];cases ieq a.Kind 5 with
     |true=>
      exact⟨zqP S a.M (F:=fun b=>chg b a.G (zyt (gAt b a.G)) (zyu (gAt b a.G))) (fun b c=>zsj c fun _ _ G=>zbdx G) (zqs _ _ _),
       congrArg (fun t=>Told.mk t 0) (zlx S a.M (t:=fun b=>zb7 b a.G (zyt (gAt b a.G))) (zjC _ _))⟩
     |false=>
      simp only[cond_false];cases ieq a.Kind 6 with
      |true=>
       exact⟨zqP S a.M (F:=fun b=>chg b a.G (zgx (gAt b a.G).Pending a.X) (znV (gAt b a.G) a.X)) (fun b c=>zsj c fun _ _ G=>z2w G _) (zqs _ _ _),
        congrArg (fun t=>Told.mk t 0) (zlx S a.M (t:=fun b=>zb7 b a.G (zgx (gAt b a.G).Pending a.X)) (zjC _ _))⟩
      |false=>
       simp only[cond_false];cases ieq a.Kind 7 with
       |true=>
        exact⟨zqP S a.M (F:=fun b=>chg b a.G (zhR ⟨a.X,a.Y,ieq a.Z 1⟩) (zJ2 (gAt b a.G) ⟨a.X,a.Y,ieq a.Z 1⟩)) (fun b c=>zsj c fun _ d G=>zbdw G d) (zqs _ _ _),
         congrArg (fun t=>Told.mk t 0) (zlx S a.M (t:=fun b=>zb7 b a.G (zhR ⟨a.X,a.Y,ieq a.Z 1⟩)) (zjC _ _))⟩
       |false=>
        simp only[cond_false];cases ieq a.Kind 8 with
        |true=>obtain⟨k,e⟩:=zbal S a.M a.X a.Y a.Z;exact⟨k,congrArg (fun t=>Told.mk t 0) e⟩
        |false=>
         simp only[cond_false];cases ieq a.Kind 9 with
         |true=>
          exact⟨zqP S a.M (F:=fun b=>zjT b a.X) (fun b c=>z3y c _) (by unfold zjT zfb;rw[f];rfl),
           congrArg (fun t=>Told.mk t 0) (zlx S a.M (t:=fun b=>zfb b a.X) (by unfold zfb;rw[f];rfl))⟩
         |false=>
          simp only[cond_false];cases ieq a.Kind 10 with
          |true=>refine⟨zqP S a.M (F:=zmK) (fun b c=>z6c c) (by unfold zmK;rw[f];rfl),?_⟩;have e:=zlx S a.M (t:=zlY) (by unfold zlY;rw[f];rfl);show Told.mk (zeg h a.M (zlY (zG h a.M))) (cond (zcR h a.M) (zs7 (zG h a.M)) (-1))=⟨zlY (zG h a.M),zs7 (zG h a.M)⟩;rw[e];congr 1;unfold zcR;rw[zky.2 S.ok,cond_true];cases j:hasB a.M (ln h.Mons) with|true=>rfl|false=>rw[seen_none j];unfold zs7;rw[f];rfl
          |false=>
           simp only[cond_false];cases ieq a.Kind 11 with
           |true=>obtain⟨k,e⟩:=zbeI S a.M a.G a.X a.Y;exact⟨k,congrArg (fun t=>Told.mk t 0) e⟩
           |false=>obtain⟨k,g,i⟩:=zbdV S a.M a.G a.X;exact⟨k,by simp only[cond_false];rw[g,i]⟩
theorem zbab {h:Host}(S:Safe h)(a:GAct):Safe (znb h a)/\(∀i,zG (znb h a) i=zG h i)/\(znb h a).Mons.length=h.Mons.length:=by
 unfold znb;have k:∀r,Op h r->Safe r/\(∀i,zG r i=zG h i)/\r.Mons.length=h.Mons.length:=fun r k=>⟨k.safe S,fun i=>k.like.seen i,k.like.len⟩;cases ieq a.Kind 13 with
 |true=>exact k _ (z4S S.ok _ _)
 |false=>
  simp only[cond_false];cases ieq a.Kind 14 with
  |true=>exact k _ (z7K S.ok _ _)
  |false=>
   simp only[cond_false];cases ieq a.Kind 15 with
   |true=>exact k _ (z7J S.ok _ _)
   |false=>
    simp only[cond_false];cases ieq a.Kind 16 with
    |true=>obtain⟨b,c⟩:=zVK S a.M a.X;refine⟨b,c,?_⟩;simp only[cond_true];unfold zj6;cases zce h<;>cases hasB a.M (ln h.Mons)<;>cases win a.X 0 3<;>first|rfl|exact zbN _ _ _
    |false=>exact k _ (zbdR S.ok)
def zkV (a:GAct):Bool:=bif win a.Kind 1 17 then !win a.Kind 13 17 else false
theorem z5U {h:Host}(S:Safe h)(a:GAct):Safe (zeJ h a)/\(zeJ h a).Mons.length=h.Mons.length/\
 (∀i,zG (zeJ h a) i=bif (cond (zkV a) (ieq i a.M) false) then zMU (zG h i) a else zG h i)/\(zkV a=true->zjG h a=zMV (zG h a.M) a):=by
 unfold zeJ zjG zkV;cases win a.Kind 1 17 with
 |false=>exact⟨S,rfl,fun _=>rfl,fun e=>by cases e⟩
 |true=>
  simp only[cond_true];cases win a.Kind 13 17 with
  |true=>obtain⟨b,c,d⟩:=zbab S a;exact⟨b,d,fun i=>by simp only[cond_true,kT,cond_false];exact c i,fun e=>by cases e⟩
  |false=>obtain⟨k,e⟩:=z9P S a;exact⟨k.safe,k.len,fun i=>by simp only[cond_false,Bool.not_false,cond_true];exact k.seen i,fun _=>e⟩
def zdN (h:Host):List Bare:=(List.range h.Mons.length).map fun (i:Nat)=>zG h (i:Int)
theorem zkv (h:Host):(zdN h).length=h.Mons.length:=by simp[zdN]
theorem zmR (h:Host)(m:Int):hasB m (ln (zdN h))=hasB m (ln h.Mons):=by unfold ln;rw[zkv]
theorem zlZ {h:Host}{m:Int}(c:hasB m (ln h.Mons)=true)(d:Bare):ix (zdN h) m d=zG h m:=by have a:=zI.1 c;unfold ln at a;have b:m.toNat<(zdN h).length:=(by rw[zkv];omega);have:=zm3 b d;rw[show ((m.toNat:Nat):Int)=m by omega] at this;rw[this];simp[zdN,show max m 0=m by omega]
theorem z3u {h r:Host}(a:r.Mons.length=h.Mons.length)(e:∀i,zG r i=zG h i):zdN r=zdN h:=by unfold zdN;rw[a];exact List.map_congr_left fun i _=>e _
theorem z0v {h:Host}(S:Safe h)(a:GAct):zdN (zeJ h a)=zMW (zdN h) a/\(zkV a=true->zjG h a=z3x (zdN h) a):=by obtain⟨_,k,l,t⟩:=z5U S a;have p:zkV a=true->zdN (zeJ h a)=(cond (hasB a.M (ln h.Mons)) (up (zdN h) a.M (zMU (zG h a.M) a)) (zdN h)):=(by intro b;rw[b]at l;cases f:hasB a.M (ln h.Mons) with|false=>rw[cond_false];refine zR0 ⟨[],[],[],0⟩ (by rw[zkv,zkv,k]) fun i c=>?_;rw[zmR]at c;rw[zlZ c];have d:hasB i (ln h.Mons)=true:=(by unfold ln at c ⊢;rwa [<- k]);rw[zlZ d,l i];have:ieq i a.M=false:=zbT.2 fun e=>(by rw[e,f]at d;cases d);rw[this];rfl|true=>rw[cond_true];refine zR0 ⟨[],[],[],0⟩ (by rw[zbN,zkv,zkv,k]) fun i c=>?_;rw[zmR]at c;rw[zlZ c,l i];have d:hasB i (ln h.Mons)=true:=(by unfold ln at c ⊢;rwa [<- k]);by_cases e:i=a.M;{rw [e,zbo.2 rfl,zbf (by rw[zmR];exact f)];rfl};{rw [zbT.2 e,zbt (zI.1 f).1 (zI.1 d).1 (Ne.symm e),zlZ d];rfl});have s:zkV a=false->zdN (zeJ h a)=zdN h:=fun b=>z3u k fun i=>(by rw[l i,b];rfl);have r:zkV a=true->win a.Kind 1 17=true/\win a.Kind 13 17=false:=(by intro b;unfold zkV at b;cases g:win a.Kind 1 17<;>cases j:win a.Kind 13 17<;>rw [g,j]at b<;>first|exact⟨rfl,rfl⟩|cases b);constructor;{unfold zMW;cases b:zkV a with|true=>obtain⟨g,j⟩:=r b;rw[g,j,cond_true,cond_false,zmR,p b];(cases f:hasB a.M (ln h.Mons) with|true=>rw[cond_true,cond_true,zlZ f]|false=>rfl)|false=>rw[s b];unfold zkV at b;(cases g:win a.Kind 1 17 with|false=>rfl|true=>(cases j:win a.Kind 13 17 with|true=>rfl|false=>rw[g,j]at b;cases b))};{intro b;rw[t b];obtain⟨g,j⟩:=r b;unfold z3x;rw[g,j,cond_true,cond_false,zmR];cases f:hasB a.M (ln h.Mons) with|true=>rw[cond_true,zlZ f]|false=>rw[cond_false,seen_none f];have n:=(zUl a.G).2;have q:=zuB;unfold zMV;simp only[n,zjC];unfold zzx zfb zlY zs7 zAS zWc zoP;simp only[q,zuT q,cond_false];(cases m:ieq a.Kind 10 with|true=>have:a.Kind=10:=zbo.1 m;rw[this];rfl|false=>cases ieq a.Kind 1<;>cases ieq a.Kind 2<;>cases ieq a.Kind 3<;>cases ieq a.Kind 4<;>cases ieq a.Kind 5<;>cases ieq a.Kind 6<;>cases ieq a.Kind 7<;>cases ieq a.Kind 8<;>cases ieq a.Kind 9<;>cases ieq a.Kind 11<;>rfl)}
def zOm:List GAct->List Told->List Told
 |a::l,t::ts=>bif zkV a then t::zOm l ts else zOm l ts
 |_,_=>[]
structure Live (u:Host×List Told) (v:List Bare×List Told):Prop where
 safe:Safe u.1
 seen:zdN u.1=v.1
def zGB:List GAct->Host->List Told
 |[],_=>[]
 |a::l,h=>zjG h a::zGB l (zeJ h a)
def z8E:List GAct->List Bare->List Told
 |[],_=>[]
 |a::l,b=>z3x b a::z8E l (zMW b a)
def zwE:List GAct->Host->Host
 |[],h=>h
 |a::l,h=>zwE l (zeJ h a)
def z9G:List GAct->List Bare->List Bare
 |[],b=>b
 |a::l,b=>z9G l (zMW b a)
theorem z2T:∀(l:List GAct) (u:Host×List Told),zFm l u=(zwE l u.1,u.2++zGB l u.1)
 |[],u=>by simp[zFm,zwE,zGB]
 |a::l,u=>by rw[zFm,z2T l];simp[zwE,zGB,ap]
theorem z6O:∀(l:List GAct) {h:Host},Safe h->Safe (zwE l h)/\zdN (zwE l h)=z9G l (zdN h)/\zOm l (zGB l h)=zOm l (z8E l (zdN h))/\(zwE l h).Mons.length=h.Mons.length
 |[],h,S=>⟨S,rfl,rfl,rfl⟩
 |a::l,h,S=>by have d:=z5U S a;have b:=z0v S a;obtain⟨e,f,c,g⟩:=z6O l d.1;refine⟨e,by show zdN (zwE l (zeJ h a))=z9G l (zMW (zdN h) a);rw[f,b.1],?_,g.trans d.2.1⟩;show (cond (zkV a) _ _)=(cond (zkV a) _ _);cases i:zkV a with|false=>rw[cond_false,cond_false,c,b.1]|true=>rw[cond_true,cond_true,c,b.1,b.2 i]
theorem cz8 (q:Int)(b:0<=q):zwa.countP (fun s=>ieq s.Page q)=0:=by rw[u3];intro s a;have:=(uL.1 a).2;rw[this];show ¬ ieq (-1) q=true;rw[zbo];omega
theorem z0M {p:List Ins}(h:zda p=true):GOk (ze0 p):=⟨h,rfl,rfl,rfl,rfl,rfl,rfl,rfl,rfl⟩
theorem z7E {a:List (List Ins)}(i:1<=a.length)(h:∀p∈a,zda p=true):MOk (zgW a):=by have d:∀s∈zwa,s=noSlot:=fun s c=>(uL.1 c).2;refine⟨?_,?_,?_,rfl,fun s c=>.inl (d s c),rfl,rfl,jZ _,rfl,rfl,rfl,fun g hg=>?_,fun p b=>?_⟩;{show 1<=((a.take 2).map ze0).length;simp;omega};{show ((a.take 2).map ze0).length<=2;simp;omega};{show ((a.take 2).map (fun _=>zkC)).length=((a.take 2).map ze0).length;simp};{obtain⟨p,b,rfl⟩:=jD.1 hg;exact zuv.2 (z0M (h p (jT b)))};{have f:=zI.1 b;have e:p=0\/p=1\/p=2\/p=3\/p=4\/p=5\/p=6\/p=7:=(by omega);rcases e with rfl|rfl|rfl|rfl|rfl|rfl|rfl|rfl<;>rfl}
def zbcM (a:List (List (List Ins))):Prop:=1<=a.length/\∀p∈a,1<=p.length/\∀x∈p,zda x=true
theorem z4p {a:List (List (List Ins))}(h:zbcM a):Safe (zfM a):=by have b:∀x∈(zfM a).Mons,∃p∈a,x=zgW p:=fun x f=>(by obtain⟨p,j,rfl⟩:=jD.1 f;exact⟨p,jT j,rfl⟩);have u:∀x∈(zfM a).Mons,x.Outer=zwa:=fun x f=>(by obtain⟨p,_,rfl⟩:=b x f;rfl);have H:HOk (zfM a):=(by refine⟨rfl,fun c v=>?_,?_,?_,rfl,rfl,fun x f=>?_,fun q B=>?_⟩;{have:c=[0,0,0,0]:=(uL.1 v).2;rw[this];rfl};{show 1<=((a.take 3).map zgW).length;have:=h.1;simp;omega};{show ((a.take 3).map zgW).length<=3;simp;omega};{obtain⟨p,j,rfl⟩:=b x f;exact z7E (h.2 p j).1 (h.2 p j).2};{have:zfi (zfM a).Mons q=0:=(by unfold zfi;have:(zfM a).Mons.map (fun x=>cPg x q)=(zfM a).Mons.map (fun _=>0):=List.map_congr_left fun x f=>(by unfold cPg;rw[u x f];exact cz8 q B);rw[this];generalize (zfM a).Mons=l;induction l with|nil=>rfl|cons x l D=>rw[jB,uE,D]);omega});refine⟨H,fun m A g hg=>?_,fun e r=>(by cases r),fun e r=>(by cases r)⟩;obtain⟨p,j,e⟩:=b _ (zkW A mZ);rw[e]at hg ⊢;have d:hasB g (ln ((p.take 2).map ze0))=true:=hg;have C:ix (zgW p).Tables g kZ=zkC:=(by have:hasB g (ln ((p.take 2).map (fun _=>zkC)))=true:=(by unfold ln at d ⊢;simpa using d);obtain⟨k,y,_,n⟩:=zBq this kZ;show ix ((p.take 2).map (fun _=>zkC)) g kZ=_;rw[n];simp);have z:(ix (zgW p).Guests g gZ).Live=zlN:=(by obtain⟨k,y,_,n⟩:=zBq d gZ;show (ix ((p.take 2).map ze0) g gZ).Live=_;rw[n];simp[ze0]);rw[C,z];show KOk zkC zlN zwa;refine⟨rfl,rfl,fun i w=>?_⟩;have s:=zI.1 w;have:ln zlN=4:=rfl;rw[this]at s;have t:i=0\/i=1\/i=2\/i=3:=(by omega);rcases t with rfl|rfl|rfl|rfl<;>rfl
theorem z3c:∀(l:List GAct) (u:Host×List Told),SmH u.1->SmH (zFm l u).1
 |[],u,h=>h
 |a::l,u,h=>z3c l (zeJ u.1 a,ap u.2 [zjG u.1 a]) (zSn h)
theorem zYC {h:Host}(L:zGG h):Safe h/\SmH h:=by obtain⟨c,l,a,b,rfl⟩:=L;refine⟨?_,z3c _ _ (z3b a)⟩;unfold zA6;rw[z2T];exact(z6O _ (z4p b)).1
def z6l:zbb:=z6j
theorem zwA:zM z6l:=z6k
structure MonS (x:Mon):Prop where
 sm:zft x
 g1:1<=x.Guests.length
 g2:x.Guests.length<=2
 t2:x.Tables.length<=2
 o8:x.Outer.length<=8
 pg:∀s∈x.Outer,I64 s.Page
structure AnyH (h:Host):Prop where
 mem:SmM h.Memory
 n1:1<=h.Mons.length
 n3:h.Mons.length<=3
 mons:∀x∈h.Mons,MonS x
 b1:h.Buffer.length<=1048576
 b2:h.IoBuffer.length<=1048576
theorem AnyH.sm {h:Host}(k:AnyH h):SmH h:=⟨k.mem,⟨qU k.n3 (by decide),fun x a=>(k.mons x a).sm⟩,k.b1,k.b2⟩
theorem zbas {h:Host}(S:Safe h)(sm:SmH h):AnyH h :=
 ⟨sm.1,S.ok.n1,S.ok.n3,fun x a=>by
  have k:=S.ok.mons x a;refine⟨sm.2.1.2 x a,k.g1,k.g2,by rw[k.gt];exact k.g2,by rw[k.o8];exact qY 8,fun s b=>?_⟩
  rcases k.sl s b with rfl|⟨c,d,_⟩
  .exact⟨by decide,by decide⟩
  .exact⟨by omega,by omega⟩,sm.2.2.1,sm.2.2.2⟩
theorem zy7 {h:Host}(k:AnyH h)(i:Int){x:Mon}(b:MonS x):AnyH {h with Mons:=up h.Mons i x} :=
 ⟨k.mem,by rw[zih];exact k.n1,by rw[zih];exact k.n3,fun y a=>by
  rcases qW a with a|rfl
  .exact k.mons y a
  .exact b,k.b1,k.b2⟩
theorem zbe9 {g:Guest}(h:GuS g):SmG g:=⟨qU h.1 (by decide),qU h.2.1 (by decide),qU h.2.2.1 (by decide),qU h.2.2.2 (by decide)⟩
theorem zbaD {l:List Guest}(h:zk3 l)(i:Int){g:Guest}(hg:SmG g):zk3 (up l i g):=
 ⟨by rw[zih];exact h.1,fun y a=>by
  rcases qW a with a|rfl
  .exact h.2 y a
  .exact hg⟩
theorem zbd9 {l:List (List Int)}(h:SmM l)(i:Int){g:List Int}(hg:g.length<=1048576):SmM (up l i g):=
 ⟨by rw[zih];exact h.1,fun y a=>by
  rcases qW a with a|rfl
  .exact h.2 y a
  .exact hg⟩
def zAE (N:Nat)(c:Cur)  : OA :=
 let j:=(zhe c);let r:=({ (ziL c) with b:=c.b}:Cur);let f:=j.Mons;let k:=(zk r (ln f));let m:=(inb k (ln f));let g:=(ix f k zh);let q:=({ (zf r (ln f)) with b:=c.b}:Cur);let e:=(zf q 24);let l:=(zk q 24);let a:=({e with b:=c.b}:Cur);let n:=(zZ a [(-1),1000000000,1000000001]);let p:=({ (zf a 8) with b:=c.b}:Cur); (oN (zfo c) (oN (zD r (ln f)) (oN (zD q 24) (cond (ieq l 0) (oN (zfI a 8 12) (oN m (share (up f k ({g with Outer:=(zeZ a 8 12)}:Mon)) (fun d=>(some [(.agg [(.s .u8 c.b),(.i .i64 (zgL a 8 12).i),(.i .i64 (zgL a 8 12).h)]),(aH ({j with Mons:=d}:Host))]))))) (cond (ieq l 1) (oN m (oN (zD a 8) (oN (zlG p) (oN (inb (zk a 8) (ln g.Out)) (share (up f k ({g with Out:=(up g.Out (zk a 8) (zuk p))}:Mon)) (fun d=>(some [(.agg [(.s .u8 c.b),(.i .i64 (zlH p).i),(.i .i64 (zlH p).h)]),(aH ({j with Mons:=d}:Host))]))))))) (cond (ieq l 2) (oN m (oN (zqa a) (oN (inb 0 (ln g.Guests)) (share (up f k ({g with Guests:=(up g.Guests 0 (zBT a))}:Mon)) (fun d=>(some [(.agg [(.s .u8 c.b),(.i .i64 (zqb a).i),(.i .i64 (zqb a).h)]),(aH ({j with Mons:=d}:Host))])))))) (cond (ieq l 3) (oN m (share (up f k ({g with Tables:=[]}:Mon)) (fun d=>(some [(.agg [(.s .u8 c.b),(.i .i64 e.i),(.i .i64 e.h)]),(aH ({j with Mons:=d}:Host))])))) (cond (ieq l 4) (oN (zko a) (some [(.agg [(.s .u8 c.b),(.i .i64 (zkp a).i),(.i .i64 (zkp a).h)]),(aH ({j with Buffer:=(zr6 a)}:Host))])) (cond (ieq l 5) (oN (zlI a) (oN m (share (up f k ({g with Traps:=(zum a)}:Mon)) (fun d=>(some [(.agg [(.s .u8 c.b),(.i .i64 (zlJ a).i),(.i .i64 (zlJ a).h)]),(aH ({j with Mons:=d}:Host))]))))) (cond (ieq l 6) (oN (zbq a [(-1),1000000000,1000000001]) (oN m (share (up f k ({g with Own:=(zbk a [(-1),1000000000,1000000001])}:Mon)) (fun d=>(some [(.agg [(.s .u8 c.b),(.i .i64 n.i),(.i .i64 n.h)]),(aH ({j with Mons:=d}:Host))]))))) (cond (ieq l 7) (oN (zpZ a) (some [(.agg [(.s .u8 c.b),(.i .i64 (ziq a).i),(.i .i64 (ziq a).h)]),(aH ({j with Memory:=(zq7 a)}:Host))])) (some [(.agg [(.s .u8 c.b),(.i .i64 e.i),(.i .i64 e.h)]),(aH j)]))))))))))))
def zse (c:Cur)(s:Cur)(a:Host):Prop:=(∃N,zAE N c=some (AV.agg (zb0 s)::[aH a]))/\(s.b=c.b/\0<=s.i)/\(AnyH a)
def zis (c:Cur)  : Bool:=wC (zse c)
def zmH (c:Cur)  : Cur:=wS (zse c)
def zv5 (c:Cur)  : Host:=wV (zse c)
theorem zBU {c:Cur}(h:zis c=true):zse c (zmH c) (zv5 c):=wG h
theorem zPm (c:Cur)  : 0<=(zmH c).i:=wP fun h=>h.2.1.2
theorem z5w (c:Cur)(h:∃N,Ends (wE (fun a=>aH a) c.b fun a=>AnyH a) (zAE N c)):zis c=true:=wI (fun _ _ h=>h) h
def zCE:zdU:=rP0 fun c=>(zis c,zmH c,[aH (zv5 c)])
theorem zRc:zbP Tryz.prog 82 [false,true,true] zCE:=hP0 zwA zbg zY6 zo (zx []) (fun _ h=>(zBU h).1)
theorem zNr {c:Cur}(h:zbc c):zis c=true:=by
 refine z5w c ⟨0,?_⟩;unfold zAE oN;conv=>zeta
 obtain⟨S,sm⟩:=zYC (zyL (zOj h)).2.2;have A:=zbas S sm;have q:∀{s:Cur},0<=s.i->zbc {s with b:=c.b}:=fun y=>zbL h y;have w:zbc {ziL c with b:=c.b}:=q (z1L _);have l:0<ln (zhe c).Mons:=by have:=A.n1;unfold ln;omega
 have a:=zwx w l (kD _);have u:=zbB a zh;generalize B:zhe c=H at *;generalize zk {ziL c with b:=c.b} (ln H.Mons)=m at *;have M:=A.mons _ u;have x:=S.ok.mons _ u;generalize C:ix H.Mons m zh=X at *;obtain⟨p,e,f,j,k,t⟩:=M.sm;have d:∀{n},zbc {zf {zf {ziL c with b:=c.b} n with b:=c.b} 24 with b:=c.b}:=fun {n}=>q (zJ _ _);refine zq (zOj h) (zq (zbx w _) (zq (zbx (q (zJ _ _)) 24)
  (zbp (fun _=>zq (zoH d (by omega) (by omega) _) (zq a (zl3 (zbJ aH (v:={H with Mons:=up H.Mons m {X with Outer:=zeZ _ _ _}}) (zpU _ _ _) (zy7 A m ?_)))))
  (fun _=>zbp (fun _=>zq a (zq (zbx d 8) (zq (z2k (q (zJ _ _))) (zq (zwx d (by omega) ?_) (zl3 (zbJ aH (v:={H with Mons:=up H.Mons m {X with Out:=up X.Out _ (zuk _)}}) (zZo _) (zy7 A m ?_)))))))
  (fun _=>zbp (fun _=>zq a (zq (zMT d) (zq ?_ (zl3 (zbJ aH (v:={H with Mons:=up H.Mons m {X with Guests:=up X.Guests 0 (zBT _)}}) (z5t _) (zy7 A m ?_))))))
  (fun _=>zbp (fun _=>zq a (zl3 (zbJ aH (v:={H with Mons:=up H.Mons m {X with Tables:=[]}}) (zJ _ _) (zy7 A m ?_))))
  (fun _=>zbp (fun _=>zq (zWD d) (zbJ aH (v:={H with Buffer:=zr6 _}) (zVG _) ⟨A.mem,A.n1,A.n3,A.mons,qU (zDp (zWD d)).2.2 (by decide),A.b2⟩))
  (fun _=>zbp (fun _=>zq (zbec d) (zq a (zl3 (zbJ aH (v:={H with Mons:=up H.Mons m {X with Traps:=zum _}}) (zZt _) (zy7 A m ?_)))))
  (fun _=>zbp (fun _=>zq (zeQ d (by simp)) (zq a (zl3 (zbJ aH (v:={H with Mons:=up H.Mons m {X with Own:=zbk _ _}}) (zb1 _ _) (zy7 A m ?_)))))
  (fun _=>zbp (fun _=>zq (zXD d) (zbJ aH (v:={H with Memory:=zq7 _}) (z5g _) ⟨?_,A.n1,A.n3,A.mons,A.b1,A.b2⟩))
  (fun _=>zbJ aH (v:=H) (zJ _ _) A)))))))))))
 {have g:=(zpT (zoH (d (n:=ln H.Mons)) (n:=8) (by omega) (by omega) 12)).2.2 (by omega) (by omega);refine⟨⟨?_,e,f,j,k,t⟩,M.g1,M.g2,M.t2,?_,g.2 (by omega) (by omega)⟩;{have:=g.1;unfold ln at this;exact qU (m:=8) (by exact Int.ofNat_le.1 this) (by decide)};{have:=g.1;unfold ln at this;exact Int.ofNat_le.1 this}};{unfold ln;rw[x.u8];decide};{exact⟨⟨p,zbd9 e _ (qU (zGn (z2k (q (zJ _ _)))).2.2 (by decide)),f,j,k,t⟩,M.g1,M.g2,M.t2,M.o8,M.pg⟩};{exact qJ (by have:=M.g1;unfold ln;omega)};{exact⟨⟨p,e,f,zbaD j 0 (zbe9 (zPk (zMT d)).2.2),k,t⟩,by rw[zih];exact M.g1,by rw[zih];exact M.g2,M.t2,M.o8,M.pg⟩};{exact⟨⟨p,e,f,j,k,⟨by simp,by simp⟩⟩,M.g1,M.g2,by simp,M.o8,M.pg⟩};{exact⟨⟨p,e,f,j,k,t⟩,M.g1,M.g2,M.t2,M.o8,M.pg⟩};{exact⟨⟨p,e,f,j,k,t⟩,M.g1,M.g2,M.t2,M.o8,M.pg⟩};{have g:=(zPi (zXD (d (n:=ln H.Mons)))).2.2;exact⟨qU g.1 (by decide),fun r z=>qU (g.2 r z) (by decide)⟩}
def zbcz:zcN:=[(82,([false,true,true],zCE))]++zbcy
theorem zbai:zb2 zbcz:=zcs zY6 (by
 intro x a;simp only[qG,qN,or_false]at a;rcases a with rfl
 .exact zRc)
def zWt (l:List Int):Prop:=l.length=12/\∀i:Int,0<=i->i<12->0<=ix l i 0/\ix l i 0<10000
def zEi (N:Nat)(c:Cur)  : OA :=
 let a:=(zZ c [0,0,0,1,1,2,(-1),9223372036854775807]); (oN (zbq c [0,0,0,1,1,2,(-1),9223372036854775807]) (some [(.agg [(.s .u8 c.b),(.i .i64 a.i),(.i .i64 a.h)]),(aI (zbk c [0,0,0,1,1,2,(-1),9223372036854775807]))]))
def zuo (c:Cur)(s:Cur)(a:Int):Prop:=(∃N,zEi N c=some (AV.agg (zb0 s)::[aI a]))/\(s.b=c.b/\0<=s.i)/\(True)
def zjw (c:Cur)  : Bool:=wC (zuo c)
def zsM (c:Cur)  : Cur:=wS (zuo c)
def zuI (c:Cur)  : Int:=wV (zuo c)
theorem z8i {c:Cur}(h:zjw c=true):zuo c (zsM c) (zuI c):=wG h
theorem zT6 (c:Cur)  : 0<=(zsM c).i:=wP fun h=>h.2.1.2
theorem z8j (c:Cur)(h:∃N,Ends (wE (fun a=>aI a) c.b fun a=>True) (zEi N c)):zjw c=true:=wI (fun _ _ h=>h) h
def zvA:zdU:=rP0 fun c=>(zjw c,zsM c,[aI (zuI c)])
theorem zCv:zbP Tryz.prog 95 [false,true,true] zvA:=hP0 zwA zbg zvv zo (zx []) (fun _ h=>(z8i h).1)
theorem at_t {c:Cur}(h:zbc c):zjw c=true:=by
 refine z8j c ⟨0,?_⟩;unfold zEi oN;conv=>zeta
 exact zq (zeQ h (by simp)) (zbJ aI (zb1 _ _) trivial)
def zbcn:zcN:=[(95,([false,true,true],zvA))]++z4Y
theorem zbaf:zb2 zbcn:=zcs zvv (by
 intro x a;simp only[qG,qN,or_false]at a;rcases a with rfl
 .exact zCv)
def zbfB:zcN:=zbcn
theorem zbag:zb2 zbfB:=zbaf
def zlW (N:Nat)(g:List Int):OA:=
 (iter (σ:=(Int×(Int×((List Int)×((List Int)×Unit))))) N (fun l b=>let c:=b.2.2.1; (cond (ilt b.2.1 (ln c)) (cond (ilt b.2.1 4000) (oN (inb b.2.1 (ln c)) (l ((wand .i64 (zL .i64 (zL .i64 (zkS .i64 b.1 131) (wcv .i64 (ix c b.2.1 0))) 7) 1073741823),((zL .i64 b.2.1 1),(c,(b.2.2.2.1,())))))) (iter (σ:=(Int×(Int×(Int×((List Int)×((List Int)×Unit)))))) N (fun f a=>let d:=(⟨a.2.2.2.2.1,a.2.1,a.2.2.1⟩:Cur);let j:=(ap a.2.2.2.1 [(zk d 10000)]); (cond (ilt a.1 12) (oN (zD d 10000) (oN (few (ln j)) (f ((zL .i64 a.1 1),((zf d 10000).i,((zf d 10000).h,(j,(a.2.2.2.2.1,())))))))) (some [(aS .int a.2.2.2.1)]))) (0,(0,(b.1,([],(c,()))))))) (iter (σ:=(Int×(Int×(Int×((List Int)×((List Int)×Unit)))))) N (fun f a=>let e:=(⟨a.2.2.2.2.1,a.2.1,a.2.2.1⟩:Cur);let k:=(ap a.2.2.2.1 [(zk e 10000)]); (cond (ilt a.1 12) (oN (zD e 10000) (oN (few (ln k)) (f ((zL .i64 a.1 1),((zf e 10000).i,((zf e 10000).h,(k,(a.2.2.2.2.1,())))))))) (some [(aS .int a.2.2.2.1)]))) (0,(0,(b.1,([],(c,())))))))) ((zL .i64 94701 (ln g)),(0,(g,([],())))))
def zLS:FuncId->Nat->Option Tmpl:=zx [(52,0,{n:=32,tm:=[(0,.sl 0 []),(3,ti),(4,ti)],lo:=[],ro:=[(0,.u8,false),(1,.int,true)],sk:=[(0,2,0,.sl 1 [])]}),(41,0,{n:=19,tm:=[(3,.lp 0 0),(4,.sl 0 []),(5,ti)],lo:=[(0,[.sl 1 [],ti,ti])],ro:=[(0,.int,true),(1,.u8,false)]})]
def zpC (b:List Int)(a:List Int):Prop:=(∃N,zlW N b=some [aS .int a])/\(zWt a)
def zhw (a:List Int):Bool:=uC (T:=List Int) (fun r=>zpC a r)
def zSj (a:List Int):List Int:=uV (fun r=>zpC a r)
def zgA (a:List Int):List Int:=(zSj a)
theorem zAh {a:List Int}(h:zhw a=true):zpC a (zgA a):=uG h
theorem zSi (c:List Int)(h:∃N,Ends (fun a=>∃b,a=[aS .int b]/\(zWt b)) (zlW N c)):zhw c=true:=by obtain⟨N,a,e,b,rfl,h⟩:=h;exact zby ⟨b,⟨N,e⟩,h⟩
def zvH:Run:=rF1 (dS .u8) fun b=>(zhw b,[aS .int (zgA b)])
theorem zLh (a:List Int)(b:zhw a=true):∃N,zlW N a=some [aS .int (zgA a)]:=by exact(zAh b).1
theorem zEN:vL 41 zvH:=kF1 zwA zbg zbag zo zLS zLh
theorem zZa {a:List Int}(h:a.length<=big):zhw a=true:=by
 refine zSi a (zcw fun N d=>?_);unfold zlW oN;conv=>zeta
 have m:12<N:=d (by rw[zog];omega);refine zka (fun n s=>∃(t:Int) (i:Nat),s=(t,(i:Int),a,[],())/\i+n=a.length) ?_ N a.length _ ⟨_,0,rfl,by omega⟩ (d h);rintro n s rec ⟨t,i,rfl,F⟩ f;dsimp only;refine zbp (fun v=>zbp (fun E=>?_) (fun _=>?_)) (fun _=>?_);{have u:(i:Int)<ln a:=qD v;unfold ln at u;refine zq (qJ ⟨by omega,by unfold ln;omega⟩) (f (n-1) _ (by omega) (by rw[zbh (show i<a.length by omega) h];exact⟨_,i+1,rfl,by omega⟩))}
 all_goals
  refine zka (fun n s=>∃(k:Nat) (i x:Int) (l:List Int),s=((k:Int),i,x,l,a,())/\k+n=12/\0<=i/\l.length=k/\∀y∈l,0<=y/\y<10000) ?_ N 12 _ ⟨0,0,t,[],rfl,rfl,kD 0,rfl,by simp⟩ m
  rintro D s A ⟨k,z,x,l,rfl,G,q,r,w⟩ c
  dsimp only
  have b:zbc ⟨a,z,x⟩:=⟨q,h⟩;have C:=zfu b (n:=10000) (by omega)
  refine zbp (fun p=>?_) (fun p=>⟨_,rfl,l,rfl,?_⟩)
  .have h3':(k:Int)<12:=qD p;have e:∀y∈ap l [zk ⟨a,z,x⟩ 10000],0<=y/\y<10000:=by intro y g;rcases jG.1 g with g|g;{exact w y g};{rw [qF.1 g];exact C}
   exact zq (zbx b _) (zq (zkb (by rw[zg3];unfold ln;omega)) (c (D-1) _ (by omega) (by rw[zrh (show -9223372036854775808<=(k:Int)+1 by omega) (by omega)];exact⟨k+1,_,_,_,rfl,by omega,zJ _ _,by simp[ap,r],e⟩)))
  .have h3':¬ (k:Int)<12:=jQ p;exact⟨by omega,fun j B v=>w _ (zbB (qJ ⟨B,by unfold ln;omega⟩) 0)⟩
def zbfC:zcN:=[(95,([false,true,true],zvA))]++zbcz
theorem zbaj:zb2 zbfC:=zcs zbai (by
 intro x a;simp only[qG,qN,or_false]at a;rcases a with rfl
 .exact zCv)
def zbbz:zbb:=[(92,ztm)]++z6l
theorem z9u:zM zbbz:=zi zwP zwA
theorem z6f {a:List Int}(h:a.length<=big){G:Ans->Prop}{N:Nat}(l:a.length<N){g:Int}{R:Int->OA}{d:Type}(S:Int->Int->d){F:(d->OA)->d->OA}(k:∀rec i t,F rec (S i t)=bif ilt i (ln a) then (cond (ilt i 4000) (cond (inb i (ln a)) (rec (S (zL .i64 i 1) (wand .i64 (zL .i64 (zL .i64 (zkS .i64 t 131) (wcv .i64 (ix a i 0))) 7) 1073741823))) none) (R t)) else R t)(e:∀t,zbc ⟨a,0,t⟩->Ends G (R t)):Ends G (iter N F (S 0 g)):=by refine zka (fun n s=>∃(i:Nat) (t:Int),s=S (i:Int) t/\i+n=a.length) ?_ N a.length _ ⟨0,g,rfl,by omega⟩ l;rintro n s rec ⟨i,t,rfl,p⟩ b;rw[k];have f:zbc ⟨a,0,t⟩:=⟨kD 0,h⟩;refine zbp (fun j=>zbp (fun m=>?_) (fun _=>e t f)) (fun _=>e t f);have c:(i:Int)<ln a:=qD j;unfold ln at c;rw[zbh (show i<a.length by omega) h];exact zq (qJ ⟨by omega,by unfold ln;omega⟩) (b (n-1) _ (by omega) ⟨i+1,_,rfl,by omega⟩)
theorem zFk {b:List Int}(h:b.length<=big){s:Cur}(a:0<=s.i):zbc {s with b:=b}:=⟨a,h⟩
def zbbA:zbb:=zbbz
theorem z9v:zM zbbA:=z9u
def zbbB:zbb:=zbbA
theorem zWS:zM zbbB:=z9v
def zjA (N:Nat)(l:List Int):OA:=
 (iter (σ:=(Int×(Int×((List Int)×(lM×(lN×(lE×(lE×(lM×(lN×(lE×(lE×Unit)))))))))))) N (fun m a=>let c:=a.2.2.1;let i:=(⟨c,0,a.1⟩:Cur);let e:=(zv5 i);let f:=({ (zmH i) with b:=c}:Cur);let h:=({ (zgm f) with b:=c}:Cur);let d:=({ (zQ h 4) with b:=c}:Cur);let k:=({ (zsM d) with b:=c}:Cur);let g:=({ (zmH d) with b:=c}:Cur);let j:=({ (zsM g) with b:=c}:Cur); (cond (ilt a.2.1 (ln c)) (cond (ilt a.2.1 4000) (oN (inb a.2.1 (ln c)) (m ((wand .i64 (zL .i64 (zL .i64 (zkS .i64 a.1 131) (wcv .i64 (ix c a.2.1 0))) 7) 1073741823),((zL .i64 a.2.1 1),(c,(a.2.2.2.1,(a.2.2.2.2.1,(a.2.2.2.2.2.1,(a.2.2.2.2.2.2.1,(a.2.2.2.2.2.2.2.1,(a.2.2.2.2.2.2.2.2.1,(a.2.2.2.2.2.2.2.2.2.1,(a.2.2.2.2.2.2.2.2.2.2.1,()))))))))))))) (oN (zis i) (oN (zg7 f) (oN (zkK e (ziM f)) (oN (zcK h 4) (cond (zcT h 4) (oN (zis d) (oN (zjw g) (oN (zju j) (some [(aH e),(aH (zv5 d)),(aI (zuI g)),(aI (zuH j))])))) (oN (zjw d) (oN (zju k) (some [(aH e),(aH (ziF e (ziM f))),(aI (zuI d)),(aI (zuH k))]))))))))) (oN (zis i) (oN (zg7 f) (oN (zkK e (ziM f)) (oN (zcK h 4) (cond (zcT h 4) (oN (zis d) (oN (zjw g) (oN (zju j) (some [(aH e),(aH (zv5 d)),(aI (zuI g)),(aI (zuH j))])))) (oN (zjw d) (oN (zju k) (some [(aH e),(aH (ziF e (ziM f))),(aI (zuI d)),(aI (zuH k))])))))))))) ((zL .i64 94701 (ln l)),(0,(l,([],([],([],([],([],([],([],([],()))))))))))))
def zGA:FuncId->Nat->Option Tmpl:=zx [(52,0,{n:=32,tm:=[(0,.sl 0 []),(3,ti),(4,ti)],lo:=[(0,[.sl 1 [],.sl 2 [],.sl 3 [],.sl 4 []]),(1,[.sl 5 [],.sl 6 [],.sl 7 [],.sl 8 []])],ro:=[(0,.u8,false),(1,(.sl .int),true),(2,.mon,true),(3,.entry,true),(4,.entry,true),(5,(.sl .int),true),(6,.mon,true),(7,.entry,true),(8,.entry,true)],sk:=[(0,2,0,.lp 0 0),(0,3,0,.lp 1 0)]})]
def zmO (c:List Int)(a:Host)(b:Host)(d:Int)(e:Int):Prop:=(∃N,zjA N c=some [aH a,aH b,aI d,aI e])/\(AnyH a/\SmH b)
def zf7 (a:List Int):Bool:=uC (T:=Host×Host×Int×Int) (fun r=>zmO a r.1 r.2.1 r.2.2.1 r.2.2.2)
def zjW (a:List Int):Host×Host×Int×Int:=uV (fun r=>zmO a r.1 r.2.1 r.2.2.1 r.2.2.2)
def zel (a:List Int):Host:=(zjW a).1
def zem (a:List Int):Host:=(zjW a).2.1
def zen (a:List Int):Int:=(zjW a).2.2.1
def zeo (a:List Int):Int:=(zjW a).2.2.2
theorem zvP {a:List Int}(h:zf7 a=true):zmO a (zel a) (zem a) (zen a) (zeo a):=uG h
theorem zLG (g:List Int)(h:∃N,Ends (fun a=>∃b c d f,a=[aH b,aH c,aI d,aI f]/\(AnyH b/\SmH c)) (zjA N g)):zf7 g=true:=by obtain⟨N,a,e,b,c,d,f,rfl,h⟩:=h;exact zby ⟨(b,c,d,f),⟨N,e⟩,h⟩
def zsF:Run:=rF1 (dS .u8) fun b=>(zf7 b,[aH (zel b),aH (zem b),aI (zen b),aI (zeo b)])
theorem zE5 (a:List Int)(b:zf7 a=true):∃N,zjA N a=some [aH (zel a),aH (zem a),aI (zen a),aI (zeo a)]:=by exact(zvP b).1
theorem zA3:vL 40 zsF:=kF1 zWS zbg zbaj zo zGA zE5
theorem zzd {a:List Int}(h:a.length<=big):zf7 a=true:=by
 refine zLG a (zcw fun N c=>?_);unfold zjA oN;conv=>zeta
 refine z6f h (c h) ((fun i t=>(t,(i:Int),a,[],[],[],[],[],[],[],[],())):Int->Int->_) (fun rec i t=>by dsimp only) (fun t d=>?_)
 have g:=(zBU (zNr d)).2.2;have e:zbc {zmH ⟨a,0,t⟩ with b:=a}:=zFk h (zPm _);exact zq (zNr d) (zq (zbaY e) (zq (zby ((zS _).2 g.sm)) (zq (zii (zFk h (zPn _)) 4) (zbp (fun _=>zq (zNr (zFk h (zb6 _ _))) (zq (at_t (zFk h (zPm _))) (zq (z5Z (zFk h (zT6 _))) ⟨_,rfl,_,_,_,_,rfl,g,(zBU (zNr (zFk h (zb6 _ _)))).2.2.sm⟩)))
  (fun _=>zq (at_t (zFk h (zb6 _ _))) (zq (z5Z (zFk h (zT6 _))) ⟨_,rfl,_,_,_,_,rfl,g,zSn g.sm⟩))))))
def zbbC:zbb:=[(40,zsF)]++zbbB
theorem zWT:zM zbbC:=zi zA3 zWS
structure Clear (h:Host) (m p:Int):Prop where
 d:ix (ix h.Mons m mZ).Dirty p false=false
 s:(ix (ix h.Mons m mZ).Outer p sZ).Page≠-1->(ix (ix h.Mons m mZ).Outer p sZ).Rights=1/\(∀e∈h.Buffer,e.Host≠(ix (ix h.Mons m mZ).Outer p sZ).Page)/\(∀e∈h.IoBuffer,e.Host≠(ix (ix h.Mons m mZ).Outer p sZ).Page)/\
  ∀g i,hasB g (ln (ix h.Mons m mZ).Guests)=true->hasB i (ln (ix (ix h.Mons m mZ).Guests g gZ).Live)=true->(ix (ix (ix h.Mons m mZ).Guests g gZ).Live i sZ).Page=p->ix (ix (ix h.Mons m mZ).Tables g kZ).Known i false=false
theorem zxX {x:Guest}:zC x=0↔canRun x=false:=by unfold zC;cases canRun x with|false=>simp|true=>rw[cond_true];(cases zdp x with|true=>simp|false=>rw[cond_false];unfold zlq;cases ieq (zbC x.Prog x.Pc).Op 3<;>cases ieq (zbC x.Prog x.Pc).Op 4<;>cases ieq (zbC x.Prog x.Pc).Op 5<;>cases ieq (zbC x.Prog x.Pc).Op 6<;>cases ieq (zbC x.Prog x.Pc).Op 7<;>simp)
theorem zbaN {h:Host}{m g:Int}(e:(zbd h m g).2=false):(zbd h m g).1=h:=by unfold zbd at e ⊢;cases f:zbM h m g with|false=>rfl|true=>rw[f,cond_true] at e;rw[cond_true];unfold zwd at e ⊢;(cases d:ieq (zC (gOf h m g)) 0 with|true=>rfl|false=>rw[d,cond_false] at e;(cases a:ieq (zC (gOf h m g)) 1 with|true=>rw[a] at e;cases e|false=>rw[a,cond_false] at e;(cases b:ieq (zC (gOf h m g)) 2 with|true=>rw[b] at e;cases e|false=>rw[b,cond_false] at e;(cases c:(cond (ieq (zC (gOf h m g)) 3) true (ieq (zC (gOf h m g)) 4)) with|true=>rw[c] at e;cases e|false=>rw[c] at e;cases e))))
theorem zbaK {h:Host}(H:HOk h){m g:Int}(c:hasB m (ln h.Mons)=true)(hg:hasB g (ln (ix h.Mons m mZ).Guests)=true):(zbd h m g).2=canRun (gOf h m g):=by have b:zbM h m g=true:=zgN.2 ⟨H,c,hg⟩;unfold zbd;rw[b,cond_true];unfold zwd;cases a:canRun (gOf h m g) with|false=>have:ieq (zC (gOf h m g)) 0=true:=zbo.2 (zxX.2 a);rw[this];rfl|true=>have:ieq (zC (gOf h m g)) 0=false:=zbT.2 fun e=>(by rw[zxX.1 e]at a;cases a);rw[this,cond_false];(cases ieq (zC (gOf h m g)) 1 with|true=>rfl|false=>(cases ieq (zC (gOf h m g)) 2 with|true=>rfl|false=>cases (cond (ieq (zC (gOf h m g)) 3) true (ieq (zC (gOf h m g)) 4))<;>rfl))
theorem z7g (x:Int):ine x x=false:=by simp[ine]
theorem zNa {x y:Guest}(h:y.Pc≠x.Pc):differs x y=true:=by unfold differs;rw[show ine x.Pc y.Pc=true from zmc.2 (Ne.symm h)];simp
theorem zbdl {x y:Guest}(h:y.Pending≠x.Pending):differs x y=true:=by unfold differs;rw[show ine x.Pending y.Pending=true from zmc.2 (Ne.symm h)];simp
theorem zbdj {x y:Guest}(h:y.Exit.Kind≠x.Exit.Kind):differs x y=true:=by unfold differs;rw[show ieq x.Exit.Kind y.Exit.Kind=false from zbT.2 (Ne.symm h)];simp
theorem zbdk {x y:Guest}(h:x.Halted=false)(k:y.Halted=true):differs x y=true:=by unfold differs;rw[h,k];simp[zfv]
theorem zbdm (x:Guest):differs x x=false:=by unfold differs;simp[z7g,zfv,ieq]
theorem zbdE:∀n:Fin 256,(cond (ilt (zc6 ((n.val:Nat):Int)) 0) true (ine (zf3 ((n.val:Nat):Int)) ((n.val:Nat):Int)))=true:=by decide +kernel
theorem zbeQ {p:Int}(b:zc3 p=true)(c:ige (zc6 p) 0=true):zf3 p≠p:=by have h:=zcD.1 b;have a:=zbdE ⟨p.toNat,by omega⟩;have e:((p.toNat:Nat):Int)=p:=(by omega);dsimp only at a;rw[e]at a;have:ilt (zc6 p) 0=false:=(by have:=qD c;exact qH (by omega));rw[this,cond_false]at a;exact zmc.1 a
theorem zbfK {p:Int}(a:0<=p)(b:p<=11):zL .i64 p 1=p+1:=by unfold zL IntKind.wrap;simp[IntKind.bits,IntKind.signed];omega
theorem z4U {x:Guest}(X:GOk x)(h:(zbC x.Prog x.Pc).Op≠7):0<=x.Pc/\x.Pc<=11/\zdL (zbC x.Prog x.Pc)=true:=by have a:=X.prog;unfold zda at a;have e:=zcD.1 X.pc;cases b:x.Prog.all zdL with|false=>rw[b]at a;cases a|true=>rw[b,cond_true]at a;have d:=zcD.1 a;unfold zbC at h ⊢;(cases c:hasB x.Pc (ln x.Prog) with|false=>rw[c]at h;exact absurd rfl h|true=>have:=zI.1 c;exact⟨by omega,by omega,qM.1 b _ (zkW c _)⟩)
theorem zBy {x:Guest}(a:0<=x.Pc)(b:x.Pc<=11):(zbG x).Pc=x.Pc+1:=by unfold zbG;rw[show ige x.Pc 12=false from qH (by omega)];exact zbfK a b
def zwc (y:Guest):Bool:=bif ieq (zbC y.Prog y.Pc).Op 8 then (cond (ieq y.A 0) (cond (ieq (zbC y.Prog y.Pc).X y.Pc) (!zdp y) false) false) else false
theorem z8c {x:Guest}(a:canRun x=true):x.Exit.Kind=0/\x.Halted=false:=by unfold canRun at a;cases b:(ieq x.Exit.Kind 0&&(ieq x.Exit.Page 0&&(zfv x.Exit.Write false&&ieq x.Exit.N 0))) with|false=>rw[b]at a;cases a|true=>rw[b,cond_true]at a;rw[qE]at b;exact⟨zbo.1 b.1,by simpa using a⟩
theorem z0o {x:Guest}(h:zC x≠0):canRun x=true:=by cases a:canRun x with|true=>rfl|false=>exact absurd (zxX.2 a) h
theorem zLX {x:Guest}:zC x=1↔zdp x=true:=by unfold zC zdp;cases canRun x with|false=>simp|true=>rw[cond_true,cond_true];(cases (cond x.Ctl.Open (ige (zc6 x.Pending) 0) false) with|true=>simp|false=>rw[cond_false];unfold zlq;cases ieq (zbC x.Prog x.Pc).Op 3<;>cases ieq (zbC x.Prog x.Pc).Op 4<;>cases ieq (zbC x.Prog x.Pc).Op 5<;>cases ieq (zbC x.Prog x.Pc).Op 6<;>cases ieq (zbC x.Prog x.Pc).Op 7<;>simp)
theorem zbaT {x:Guest}(a:zC x≠0)(b:zC x≠1):zC x=zlq (zbC x.Prog x.Pc).Op:=by have c:=z0o a;have d:zdp x=false:=(by rw[<- uZ];exact fun e=>b (zLX.2 e));unfold zC;rw[c,d];rfl
theorem op7 {x:Guest}(a:zC x≠0)(b:zC x≠1)(c:zC x≠7):(zbC x.Prog x.Pc).Op≠7:=fun e=>c (by rw[zbaT a b,e];rfl)
theorem zqB {h:Host}{m g:Int}(a:hasB m (ln h.Mons)=true)(hg:hasB g (ln (ix h.Mons m mZ).Guests)=true)(y:Guest):gOf (zek h m g y) m g=y:=by unfold gOf zek;show ix (ix (up h.Mons m _) m mZ).Guests g gZ=y;rw[zbf a];exact zbf hg _ _
theorem z9F {x:Guest}(X:GOk x)(l:zC x=2)(c:zwc x=false):differs x (plainly x)=true:=by obtain⟨f,g,m⟩:=z4U X (op7 (by omega) (by omega) (by omega));have a:differs x (zbG x)=true:=zNa (by rw[zBy f g];omega);have d:∀v,differs x {zbG x with A:=v}=true:=fun v=>zNa (by show (zbG x).Pc≠_;rw[zBy f g];omega);unfold plainly;rw[show ine (zC x) 2=false by simp[ine,l],cond_false];cases win x.A 0 99 with|false=>exact a|true=>(cases win (zbC x.Prog x.Pc).X 0 99 with|false=>exact a|true=>(cases ieq (zbC x.Prog x.Pc).Op 1 with|true=>exact d _|false=>(cases ieq (zbC x.Prog x.Pc).Op 2 with|true=>exact d _|false=>(cases i:ieq (zbC x.Prog x.Pc).Op 8 with|false=>exact a|true=>(cases b:ieq x.A 0 with|false=>exact a|true=>show differs x {zbG x with Pc:=(zbC x.Prog x.Pc).X}=true;refine zNa (fun e=>?_);have h:(zbC x.Prog x.Pc).X=x.Pc:=e;unfold zwc at c;have j:zdp x=false:=(by rw[<- uZ];exact fun k=>by have:=zLX.2 k;omega);rw[i,b,zbo.2 h,j]at c;cases c)))))
theorem zW6 {x:Guest}(X:GOk x)(a:zC x≠0)(b:zC x≠1)(c:zC x≠7):differs x (zbG x)=true:=by obtain⟨d,e,_⟩:=z4U X (op7 a b c);exact zNa (by rw[zBy d e];omega)
theorem z6M {x:Guest}(X:GOk x)(a:zC x≠0)(b:zC x≠1)(c:zC x≠7)(v:Int):differs x (loaded x v)=true:=by obtain⟨d,f,_⟩:=z4U X (op7 a b c);have e:(saw {x with A:=v} v).Pc=x.Pc:=(by unfold saw;cases ilt (ln ({x with A:=v}:Guest).Seen) 40<;>rfl);refine zNa ?_;unfold loaded;rw[zBy (by rw[e];exact d) (by rw[e];exact f),e];omega
theorem zzc {x:Guest}(a:canRun x=true)(e:GExit)(b:e.Kind≠0):differs x (stopped x e)=true:=zbdj (by rw[(z8c a).1];exact b)
theorem z7f (x:Guest):(held x).Halted=true:=by unfold held zbG;cases ige ({x with Halted:=true}:Guest).Pc 12<;>rfl
theorem zbdn {x:Guest}(X:GOk x)(f:zC x=5\/zC x=6\/zC x=7)(t:Int):differs x (zeO x t (zC x))=true:=by have a:canRun x=true:=z0o (by omega);unfold zeO;cases b:ieq (zC x) 6 with|true=>exact zzc a _ (show (2:Int)≠0 by decide)|false=>(cases (ieq (zC x) 5&&zde t 1) with|true=>exact zzc a _ (show (3:Int)≠0 by decide)|false=>(cases (ieq (zC x) 7&&zde t 2) with|true=>exact zzc a _ (by decide)|false=>(cases c:ieq (zC x) 7 with|true=>exact zbdk (z8c a).2 (z7f x)|false=>have d:=zbT.1 b;have e:=zbT.1 c;exact zW6 X (by omega) (by omega) (by omega))))
theorem zOM {h:Host}(S:Safe h){m g:Int}(a:hasB m (ln h.Mons)=true)(hg:hasB g (ln (ix h.Mons m mZ).Guests)=true)(x:Guest)(w:Bool) :
 hasB m (ln (zdZ h m g x w).1.Mons)=true/\hasB g (ln (ix (zdZ h m g x w).1.Mons m mZ).Guests)=true:=by
 unfold zdZ;cases b:zbW h m g (zbe (address x)) (zbZ w) with
 |false=>unfold lookOf;rw[b];exact⟨a,hg⟩
 |true=>have k:=(zE9 S false b S.rt.e1).1.op.like;exact⟨by rw[k.has];exact a,by rw[k.g m a];exact hg⟩
theorem z5Q {h:Host}(S:Safe h){m g:Int}(b:hasB m (ln h.Mons)=true)(hg:hasB g (ln (ix h.Mons m mZ).Guests)=true)(x:Guest)(w:Int) :
 hasB m (ln (zfL (zd0 h m x w) m x w).Mons)=true/\hasB g (ln (ix (zfL (zd0 h m x w) m x w).Mons m mZ).Guests)=true:=by
 obtain⟨c,d⟩:=zT9 S b x w;have a:hasB m (ln (zd0 h m x w).Mons)=true:=by rw[c.has];exact b
 obtain⟨f,e⟩:=zT8 c.safe a x w;exact⟨by rw[f.has];exact a,by rw[e,d];exact hg⟩
theorem zZM {h:Host}(S:Safe h){m g:Int}(a:hasB m (ln h.Mons)=true)(hg:hasB g (ln (ix h.Mons m mZ).Guests)=true)(c:canRun (gOf h m g)=true)(l:zwc (gOf h m g)=false) :
 differs (gOf h m g) (gOf (zbd h m g).1 m g)=true:=by
 have X:=S.ok.seenG a hg;have i:zbM h m g=true:=zgN.2 ⟨S.ok,a,hg⟩;unfold zbd;rw[i,cond_true];unfold zwd;rcases zPV (gOf h m g) with e|e|e|e|e|e|e|e
 .rw [zxX.1 e]at c;cases c
 .rw [e]
  show differs _ (gOf (zek h m g (interrupted (gOf h m g))) m g)=true
  rw[zqB a hg];have b:=zLX.1 e;unfold interrupted;rw[b,cond_true];have j:∀(y:Guest) (n:Int),(saw y n).Pending=y.Pending:=fun y n=>by unfold saw;cases ilt (ln y.Seen) 40<;>rfl
  refine zbdl ?_;rw[j];refine zbeQ X.pend ?_;unfold zdp at b;rw[c,cond_true]at b;cases f:(gOf h m g).Ctl.Open with
  |false=>rw[f]at b;cases b
  |true=>rw[f]at b;exact b
 .rw [e]
  show differs _ (gOf (zek h m g (plainly (gOf h m g))) m g)=true
  rw[zqB a hg];exact z9F X e l
 .have k:=zOM S a hg (gOf h m g) false;rw[e]
  show differs _ (gOf (zeH (zdZ h m g (gOf h m g) false) m g (gOf h m g) false) m g)=true
  unfold zeH;cases (zdZ h m g (gOf h m g) false).2.2 with
  |true=>show differs _ (gOf (zek (zdZ h m g (gOf h m g) false).1 m g _) m g)=true;rw[zqB k.1 k.2];exact z6M X (by omega) (by omega) (by omega) _
  |false=>show differs _ (gOf (zek (zdZ h m g (gOf h m g) false).1 m g _) m g)=true;rw[zqB k.1 k.2];exact zzc c _ (by show (1:Int)≠0;decide)
 .have k:=zOM S a hg (gOf h m g) true;rw[e]
  show differs _ (gOf (zeH (zdZ h m g (gOf h m g) true) m g (gOf h m g) true) m g)=true
  unfold zeH;cases (zdZ h m g (gOf h m g) true).2.2 with
  |true=>have q:=zqB (h:={ (zdZ h m g (gOf h m g) true).1 with Memory:=zbF (zdZ h m g (gOf h m g) true).1.Memory (zdZ h m g (gOf h m g) true).2.1 (zcP (address (gOf h m g))) (gOf h m g).A}) k.1 k.2 (zbG (gOf h m g));exact(congrArg (differs (gOf h m g)) q).trans (zW6 X (by omega) (by omega) (by omega))
  |false=>show differs _ (gOf (zek (zdZ h m g (gOf h m g) true).1 m g _) m g)=true;rw[zqB k.1 k.2];exact zzc c _ (by show (1:Int)≠0;decide)
 all_goals
  have k:=zbdn X (by omega) (gOf h m g).Ctl.Traps
  have d:=z5Q S a hg (gOf h m g) (zC (gOf h m g));rw[e] at k d ⊢
  show differs _ (gOf (ziu h m g (gOf h m g) _) m g)=true
  unfold ziu;rw[zqB d.1 d.2];exact k
theorem zq9 (b:Bare)(g:Int)(x:Guest):(zdG b g x).Guests.length=b.Guests.length:=zbN _ _ _
theorem zJN (b:Bare)(g:Int)(x:Guest)(w:Bool):(zh5 b g x w).Guests.length=b.Guests.length:=by unfold zh5;cases zd2 x.Live (zbe (address x)) (zbZ w) with|false=>exact zq9 b g _|true=>(cases w with|true=>exact zq9 {b with Memory:=_} g _|false=>exact zq9 b g _)
theorem zMX (b:Bare)(g:Int):(zd8 b g).Guests.length=b.Guests.length:=by unfold zd8;cases zfW b g with|false=>rfl|true=>rw[cond_true];unfold stepped;(cases ieq (zC (gAt b g)) 1 with|true=>exact zq9 b g _|false=>rw[cond_false];(cases ieq (zC (gAt b g)) 2 with|true=>exact zq9 b g _|false=>rw[cond_false];(cases ieq (zC (gAt b g)) 3 with|true=>exact zJN b g _ _|false=>rw[cond_false];(cases ieq (zC (gAt b g)) 4 with|true=>exact zJN b g _ _|false=>rw[cond_false];unfold zoz;refine(zq9 _ g _).trans ?_;(cases (cond (zgn (gAt b g).Ctl.Traps (zC (gAt b g))) (ieq (zC (gAt b g)) 5) false) with|false=>rfl|true=>rw[cond_true];unfold zik;cases ilt (ln b.Outs) 40<;>rfl)))))
theorem z8A {h:Host}(S:Safe h){m g:Int}(a:hasB m (ln h.Mons)=true)(hg:hasB g (ln (ix h.Mons m mZ).Guests)=true) :
 (zbd h m g).2=canRun (gOf h m g)/\(canRun (gOf h m g)=true->zwc (gOf h m g)=false->progress h (zbd h m g).1 m g=true)/\(canRun (gOf h m g)=false->progress h (zbd h m g).1 m g=false):=by
 have e:=zbaK S.ok a hg;refine⟨e,fun f p=>?_,fun f=>?_⟩
 .have k:=(step_ok S m g).1;have c:hasB m (ln (zbd h m g).1.Mons)=true:=by rw[k.has];exact a
  have l:=zZM S a hg f p;have n:(ix (zbd h m g).1.Mons m mZ).Guests.length=(ix h.Mons m mZ).Guests.length:=by have j:=k.seen m;rw[zbo.2 rfl,cond_true] at j;have d:=congrArg (fun b:Bare=>b.Guests.length) j;unfold zG at d;rw[a,c] at d;refine d.trans ?_;exact zMX _ _
  have i:hasB g (ln (ix (zbd h m g).1.Mons m mZ).Guests)=true:=by unfold ln at hg ⊢;rw[n];exact hg
  unfold progress zjQ;rw[a,c,cond_true,cond_true,show hasB g (ln (ix h.Mons m zh).Guests)=true from hg,show hasB g (ln (ix (zbd h m g).1.Mons m zh).Guests)=true from i]
  exact l
 .rw [zbaN (e.trans f)];unfold progress;cases hasB g (ln (zjQ h m).Guests) with
  |false=>rfl
  |true=>rw[cond_true,cond_true];exact zbdm _
theorem zYH {d b:Type}{f:d->b}{l:List d}{x:b}{c:List b}(h:l.map f=x::c):∃a r,l=a::r/\f a=x/\r.map f=c:=by cases l with|nil=>cases h|cons a r=>simp only[jB,List.cons.injEq]at h;exact⟨a,r,rfl,h.1,h.2⟩
theorem zbe8 {a:AV}{b:CTy}(h:some a.sh=some (false,[b])):∃c,a = .one c/\c.ty=b:=by cases a with|one c=>simp only[AV.sh,qC,jR,List.cons.injEq,and_true,true_and]at h;exact⟨c,rfl,h⟩|agg l=>simp[AV.sh]at h
theorem sh_s {a:AV}{t:Ty}(h:some a.sh=some (false,[.s t])):∃l:List t.den,a = .one (.s t l):=by obtain⟨c,rfl,b⟩:=zbe8 h;obtain⟨l,rfl⟩:=zl1 b;exact⟨l,rfl⟩
section
open Go Go.ChangeShapes Go.WideShapes Go.ChangeAt
abbrev zRl (_:List Int):Bool:=true
abbrev zOq (l:List Int):Bool:=igt (ln l) 1048576
def zT1:Run:=rF1 (dS .u8) fun b=>(zRl b,[aB (zOq b)])
def z2d (N:Nat)(a:List Int):OA:=
 (some [(aB (igt (ln a) 1048576))])
theorem z7r (a:List Int)(b:zRl a=true):∃N,z2d N a=some [aB (zOq a)]:=by refine⟨0,?_⟩;unfold z2d;first|rfl|(simp only [*,zOq,cT,cF]<;>rfl)|simp_all[Ty.cells,zOq]
theorem z0Q:vL 7 zT1:=kF1 zWT zbg zA zo (zx []) z7r
def zbb1:zbb:=[(7,zT1),(41,zvH),(42,zqS),(43,zyv),(44,zqY),(45,zzO),(46,zz8),(47,zpl)]++zbbC
theorem z9z:zM zbb1:=zi z0Q (zi zEN (zi zu8 (zi zCu (zi zvd (zi zKr (zi zKN (zi zqC zWT)))))))
def zrk (N:Nat)(a:List Int):OA:=
 let b:=(zpB a);let i:=(ln b.Mons);let p:=(zpM (zel a) (zem a) (zen a) (zeo a));let n:=(zo4 (zel a) (zem a) (zen a) (zeo a));let m:=(zfv (zo3 (zel a) (zem a) (zen a) (zeo a)) (zuh (zel a) (zem a) (zen a) (zeo a)));let f:=(zjn (ix (zgA a) 0 0) i);let g:=(ix b.Mons f zh).Guests;let k:=(zjn (ix (zgA a) 1 0) (ln g));let l:=(zo3 b (zoZ b f k) f k);let d:=(zvk b f k);let e:=(zo4 b (zoZ b f k) f k);let j:=(aB (nB l));let c:=(ix g k zl);let h:=(zfv d (zn3 c)); (oN (zRl a) (cond (zOq a) oT (oN (zi9 a) (oN (zf7 a) (oN (zhw a) (oN (inb 0 (ln (zgA a))) (oN (ine i 0) (oN (inb 1 (ln (zgA a))) (oN (inb f i) (oN (ine (ln g) 0) (oN (zvl b f k) (oN (inb f i) (oN (inb k (ln g)) (oN (zfd c.Prog c.Pc) (cond (ieq (zfc c.Prog c.Pc).Op 8) (cond (ieq c.A 0) (cond (ieq (zfc c.Prog c.Pc).X c.Pc) (oN (zlE c) (oN n (oN p (cond m (oN (zil c) (cond h (cond (nB d) (cond d oT (oN e (some [j]))) (cond (nB (zjZ c)) (cond d oT (oN e (some [j]))) (oN e (cond l (cond d oT (oN e (some [j]))) oF)))) oF)) oF)))) (oN n (oN p (cond m (oN (zil c) (cond h (cond (nB d) (cond d oT (oN e (some [j]))) (oN e (cond l (cond d oT (oN e (some [j]))) oF))) oF)) oF)))) (oN n (oN p (cond m (oN (zil c) (cond h (cond (nB d) (cond d oT (oN e (some [j]))) (oN e (cond l (cond d oT (oN e (some [j]))) oF))) oF)) oF)))) (oN n (oN p (cond m (oN (zil c) (cond h (cond (nB d) (cond d oT (oN e (some [j]))) (oN e (cond l (cond d oT (oN e (some [j]))) oF))) oF)) oF))))))))))))))))))
theorem zYN (N:Nat)(a:List Int):evalFn (cQ zbb1 z95 zLu zZS) (zx []) N 12 5 [aS .u8 a]=zrk N a:=by kernel_rfl
theorem zFb {b:Bool}(h:(cond b false true)=true):b=false:=by cases b;rfl;cases h
theorem zyp {b:Bool}(h:(cond b false true)=false):b=true:=by cases b;cases h;rfl
theorem zP5 (N:Nat)(i:List Int)(n:i.length<=big):Ends (fun a=>a=[.one (.b true)]) (zrk N i):=by
 unfold zrk oN nB;conv=>zeta
 refine zq rfl (zbp (fun _=>zhB rfl) (fun _=>zq (zNc n) (zq (zzd n) (zq (zZa n) ?_))));obtain⟨S,D⟩:=zYC (zGf (zNc n)).2;obtain⟨A,B⟩:=(zvP (zzd n)).2;obtain⟨z,k⟩:=(zAh (zZa n)).2;generalize zpB i=h at S D;generalize zgA i=p at z k;generalize zel i=u at A;generalize zem i=v at B;generalize zen i=um;generalize zeo i=Z;have V:zct h:=(zS h).2 D;have Y:=S.ok.n1;have X:ln p=12:=(by unfold ln;omega);have U:(0:Int)<ln h.Mons:=(by unfold ln;omega);have G:=zHh (k 0 (by omega) (by omega)).1 U;generalize zjn (ix p 0 0) (ln h.Mons)=m at G;have s:hasB m (ln h.Mons)=true:=zI.2 G;have K:=S.ok.mons _ (zbB (zy s) mZ);have T:(0:Int)<ln (ix h.Mons m mZ).Guests:=(by have:=K.g1;unfold ln;omega);have C:=zHh (k 1 (by omega) (by omega)).1 T;have j:hasB (zjn (ix p 1 0) (ln (ix h.Mons m mZ).Guests)) (ln (ix h.Mons m mZ).Guests)=true:=zI.2 C;obtain⟨w,E,F⟩:=z8A S s j;have L:inb 0 (ln p)=true:=zy (zI.2 (by omega));have M:inb 1 (ln p)=true:=zy (zI.2 (by omega));have O:ine (ln h.Mons) 0=true:=zmc.2 (by omega);have P:ine (ln (ix h.Mons m mZ).Guests) 0=true:=zmc.2 (by omega);have t:zpM u v um Z=true:=zby ⟨(zS _).2 A.sm,(zS _).2 B⟩;generalize zjn (ix p 1 0) (ln (ix h.Mons m mZ).Guests)=g at C j w E F;have f:zfv (zbd h m g).2 (canRun (gOf h m g))=true:=(by rw[w];exact zsl _);have fail:(zbd h m g).2=false->[AV.one (CV.b (cond (progress h (zbd h m g).1 m g) false true))]=[AV.one (CV.b true)]:=fun e=>(by rw[F (w ▸ e)];rfl);have done:zwc (gOf h m g)=false->(zbd h m g).2=true->progress h (zbd h m g).1 m g=true:=fun Q R=>E (w ▸ R) Q;have d:∀{l q r x:Bool},zwc (gOf h m g)=(cond l (cond q (cond r x false) false) false)->l=false\/q=false\/r=false\/x=false->zwc (gOf h m g)=false:=(by intro l q r x e h;rw[e];rcases h with rfl|rfl|rfl|rfl;{rfl};{cases l<;>rfl};{cases l<;>cases q<;>rfl};{cases l<;>cases q<;>cases r<;>rfl});refine zq L (zq O (zq M (zq (zy s) (zq P (zq (zby V) (zq (zy s) (zq (zy j) (zq rfl (zbp (fun H=>zbp (fun I=>zbp (fun J=>?_) (fun J=>?_)) (fun I=>?_)) (fun H=>?_))))))))));{refine zq rfl (zq rfl (zq t (zq (zsl _) (zq rfl (zq f (zbp (fun c=>zGP (zFb c) (zq rfl (zhB (fail (zFb c))))) (fun c=>zbp (fun _=>zq (zyp c) (zhB rfl)) (fun W=>zq rfl (zq (done (d rfl (.inr (.inr (.inr ?_)))) (zyp c)) (zq (zyp c) (zhB rfl)))))))))));show (!zdp (gOf h m g))=false;have y:zdp (gOf h m g)=true:=zyp W;rw[y];rfl};{exact zq rfl (zq t (zq (zsl _) (zq rfl (zq f (zbp (fun c=>zGP (zFb c) (zq rfl (zhB (fail (zFb c))))) (fun c=>zq rfl (zq (done (d rfl (.inr (.inr (.inl J)))) (zyp c)) (zq (zyp c) (zhB rfl)))))))))};{exact zq rfl (zq t (zq (zsl _) (zq rfl (zq f (zbp (fun c=>zGP (zFb c) (zq rfl (zhB (fail (zFb c))))) (fun c=>zq rfl (zq (done (d rfl (.inr (.inl I))) (zyp c)) (zq (zyp c) (zhB rfl)))))))))};{exact zq rfl (zq t (zq (zsl _) (zq rfl (zq f (zbp (fun c=>zGP (zFb c) (zq rfl (zhB (fail (zFb c))))) (fun c=>zq rfl (zq (done (d rfl (.inl H)) (zyp c)) (zq (zyp c) (zhB rfl)))))))))}
theorem zUk (d:List Int)(h:∀c∈zF [aS .u8 d],CVOk c):∃N,zrk N d=some [.one (.b true)]:=by have e:zcE big [aS .u8 d]:=fun c f=>CVB.of_ok (h c f);have g:=(len0 e);exact⟨5,zbds (G:=fun a=>a=[.one (.b true)]) (zP5 5 d g)⟩
theorem zPp:Tryz.f5.params.toList.map (zcI Tryz.prog 4)=[some (false,[.s .u8])]:=by kernel_rfl
theorem zHi:z18 5 Tryz.f5.params.toList:=by refine z0w z9z zbg zA zo (ziQ (by kernel_rfl)) ?_;intro c hg;obtain⟨a,e⟩:=hg;rw[zPp]at a;obtain⟨h,g,rfl,d,a⟩:=zYH a;cases List.map_eq_nil_iff.1 a;obtain⟨b,rfl⟩:=sh_s d;obtain⟨N,f⟩:=zUk b e;exact⟨zx [],N,12,(zYN N b).trans f⟩
theorem zSo (H:Type)(a:List (DataW H))(h:a.length=Tryz.f5.params.toList.length):Rows.fnTurnsSpec.fn H a={results:=[.lit (.bool true)],args:=a}:=by
 have b:a.length=1:=h.trans (by kernel_rfl)
 match a,b with
 |[d],_=>rfl
set_option maxRecDepth 100000 in
theorem zLo (g:Os)(a:g.Started)(H:Type)(enc:TypeId×Value->H) :
 ReturnsInHanded {} Tryz.checked g 5 .any (Rows.fnTurnsSpec.pre6 enc Tryz.prog Tryz.f5 Rows.fnTurnsRow.domain false) (Rows.fnTurnsSpec.post enc Tryz.prog Tryz.f5 false true false false):=by
 refine returnsInHanded_of_change_shaped (C:=Tryz.checked) own a (by kernel_rfl) Tryz.func5
  (ChangeSpec.witness6 (enc:=enc) (C:=Tryz.checked) false ⟨#[],#[.slice none 0 0],[]⟩ 8 (by kernel_rfl) (by kernel_rfl) (by kernel_rfl) (by kernel_rfl)) ?_
 intro W d c h i b e j _ f _ _;exact zOr (P:=Tryz.prog) z8V z9T rfl zSo (by kernel_rfl) (B:=4) (by kernel_rfl) (by kernel_rfl) zHi W d c h i b e j f
end
end
end Go.Proofs.YthdlghbibaoabaaGreat.E
