/- What is proved here: a part of the proof that the statement of this claim holds (several texts of wip/, laid together). -/
import Derived.Test.YtkbkcnjpecmckaaGreatV6
namespace Go.Proofs.YtkbkcnjpecmckaaGreat.E
open Go
set_option linter.defProp false
set_option linter.constructorNameAsVariable false
set_option linter.unusedVariables false
set_option maxRecDepth 100000
set_option linter.unusedSimpArgs false
set_option linter.unusedSectionVars false
noncomputable section
structure KeepP (x y:Mon):Prop where
 o:y.Outer=x.Outer
 u:y.Out=x.Out
def zNM {h r:Host}{m:Int}(b:hasB m (ln h.Mons)=true){y:Mon}(c:r.Mons=up h.Mons m y)(a:r.Memory=h.Memory)(k:KeepP (ix h.Mons m mZ) y)(i q:Int):zcH r i q=zcH h i q:=by unfold zcH;rw[c,zem,a];cases d:hasB i (ln h.Mons) with|false=>rfl|true=>by_cases e:m=i;{subst e;rw[zbm b,k.o,k.u]};{rw [zbD (zG.1 b).1 (zG.1 d).1 e]}
def zwk {h r:Host}{m:Int}(b:hasB m (ln h.Mons)=true){y:Mon}(c:r.Mons=up h.Mons m y)(a:r.Memory=h.Memory)(k:KeepP (ix h.Mons m mZ) y)(i:Int) :
 zK r i=bif ieq i m then ⟨(zK h i).Memory,y.Guests,y.Outs,y.Pending⟩ else zK h i:=by
 have f:zcO r i 8 0=zcO h i 8 0:=zsl 8 0 (λj _ _=>zNM b c a k i j);unfold zK;rw[f,c,zem]
 by_cases e:i=m
 .subst e;rw[b,zbB.2 rfl,zbm b];rfl
 .rw [zb9.2 e,cond_false];cases d:hasB i (ln h.Mons) with
  |false=>rfl
  |true=>rw[zbD (zG.1 b).1 (zG.1 d).1<|Ne.symm e]
def zmf {x y:Mon}(X:MOk x)(k:KeepP x y)(g:y.Guests.length=x.Guests.length)(t:y.Tables.length=x.Tables.length)(d:y.Dirty.length=x.Dirty.length)(o:y.Outs.length<=40)(p:zdU y.Pending=true)(tr:zk y.Traps 0 3=true)(b:zk y.Own 0 1000000000=true)(a:∀g∈y.Guests,zd4 g=true):MOk y :=
 ⟨by rw[g];exact X.g1,by rw[g];exact X.g2,by rw[t,g];exact X.gt,by rw[k.o];exact X.o8,by rw[k.o];exact X.sl,by rw[k.u];exact X.u8,by rw[d];exact X.d8,o,p,tr,b,a,by rw[k.o,k.u];exact X.fit⟩
def zVY {h:Host}(H:HOk h){m:Int}(a:hasB m (ln h.Mons)=true){y:Mon}(k:KeepP (ix h.Mons m mZ) y)(b:MOk y):HOk {h with Mons:=up h.Mons m y} :=
 H.up a b rfl H.m12 H.pgs H.b1 H.b2 λq _=>.inl (by unfold cPg;rw[k.o];exact qZ _)
def zxL {h:Host}(S:Safe h){m:Int}(a:hasB m (ln h.Mons)=true){y:Mon}(k:KeepP (ix h.Mons m mZ) y)(d:MOk y)(hg:y.Guests.length=(ix h.Mons m mZ).Guests.length)(c:∀g,hasB g (ln (ix h.Mons m mZ).Guests)=true->(ix y.Guests g gZ).Live=(ix (ix h.Mons m mZ).Guests g gZ).Live)(b:y.Tables=(ix h.Mons m mZ).Tables):Safe {h with Mons:=up h.Mons m y} :=
 ⟨zVY S.ok a k d,zNT S.rt a rfl rfl rfl hg c b k.o⟩
def zUt {h:Host}(S:Safe h)(m t:Int):Safe (zjM h m t)/\∀i,zK (zjM h m t) i=zK h i:=by
 unfold zjM;rw[zj5.2 S.ok,cond_true];cases a:hasB m (ln h.Mons) with
 |false=>exact⟨S,λ_=>rfl⟩
 |true=>
  cases b:zk t 0 3 with
  |false=>exact⟨S,λ_=>rfl⟩
  |true=>have X:=S.ok.mon a;have k:KeepP (ix h.Mons m mZ) {ix h.Mons m mZ with Traps:=t}:=⟨rfl,rfl⟩;refine⟨zxL S a k (zmf X k rfl rfl rfl X.outs X.pend b X.own X.gs) rfl (λ_ _=>rfl) rfl,λi=>?_⟩;rw[cond_true,cond_true];refine(zwk (h:=h) (r:={h with Mons:=up h.Mons m {ix h.Mons m mZ with Traps:=t}}) a rfl rfl k i).trans ?_;by_cases e:i=m;{subst e;rw[zbB.2 rfl,cond_true];unfold zK;rw[a];rfl};{rw [zb9.2 e];rfl}
def zHV:∀(n i:Nat) (k:Kept),(zj4 n i k).Known.length=k.Known.length/\(zj4 n i k).Slots.length=k.Slots.length
 | 0,i,k=>⟨rfl,rfl⟩
 |n+1,i,k=>by have a:=zHV n (i+1) (zb8 k (i:Int));have b:=zl7 k (i:Int);exact⟨a.1.trans b.1,a.2.trans b.2⟩
def zL4:∀(n i:Nat) (k:Kept),k.Known.length=k.Slots.length->∀j,hasB j (ln k.Known)=true->
 ((i:Int)<=j/\j<((i+n:Nat):Int)->ix (zj4 n i k).Known j false=false/\ix (zj4 n i k).Slots j sZ=noSlot)/\
 (¬ ((i:Int)<=j/\j<((i+n:Nat):Int))->ix (zj4 n i k).Known j false=ix k.Known j false/\ix (zj4 n i k).Slots j sZ=ix k.Slots j sZ)
 | 0,i,k,_,j,_=>⟨λh=>by omega,λ_=>⟨rfl,rfl⟩⟩
 |n+1,i,k,g,j,f=>by have b:=zl7 k (i:Int);have d:=zx9 (q:=(i:Int)) g f;have c:=zL4 n (i+1) (zb8 k (i:Int)) (by rw[b.1,b.2,g]) j (by unfold ln at f ⊢;rwa [b.1]);rw[zj4];by_cases a:((i+1:Nat):Int)<=j/\j<((i+1+n:Nat):Int);{exact⟨λ_=>c.1 a,λh=>absurd (by omega) h⟩};{rw [(c.2 a).1,(c.2 a).2,d.1,d.2];by_cases e:(i:Int)=j;{rw [zbB.2 e];exact⟨λ_=>⟨rfl,rfl⟩,λh=>absurd (by omega) h⟩};{rw [zb9.2 e];exact⟨λh=>absurd (by omega) a,λ_=>⟨rfl,rfl⟩⟩}}
def zTD {k:Kept}{a b:List Slot}(h:KOk k a b):KOk (zkL k) a b:=by have e:=zHV k.Known.length 0 k;refine⟨e.1.trans h.l1,e.2.trans h.l2,λi f=>?_⟩;have c:hasB i (ln k.Known)=true:=(by unfold ln at f ⊢;rwa [h.l1]);have d:=zG.1 c;unfold ln at d;have:=(zL4 k.Known.length 0 k (by rw[h.l1,h.l2]) i c).1 ⟨by omega,by omega⟩;unfold zkL;rw[this.1,this.2];rfl
def zLT:∀(n j:Nat) (l:List Kept),(zwJ n j l).length=l.length
 | 0,_,_=>rfl
 |n+1,j,l=>by rw[zwJ,zLT n,zbV]
def zVn:∀(n j:Nat) (l:List Kept),j+n<=l.length->∀g,0<=g->ix (zwJ n j l) g kZ=if (j:Int)<=g/\g<((j+n:Nat):Int) then zkL (ix l g kZ) else ix l g kZ
 | 0,j,l,_,g,hg=>by rw[if_neg (by omega)];rfl
 |n+1,j,l,a,g,hg=>by rw[zwJ,zVn n (j+1) _ (by rw[zbV];omega) g hg];by_cases e:(j:Int)=g;{subst e;rw[if_neg (by omega),if_pos (by omega),zbm<|zG.2 ⟨by omega,by unfold ln;omega⟩]};{rw [zbD (by omega) hg e];by_cases h:((j+1:Nat):Int)<=g/\g<((j+1+n:Nat):Int);{rw [if_pos h,if_pos (by omega)]};{rw [if_neg h,if_neg (by omega)]}}
def zLS:∀(n i:Nat) (l:List Mon),(zpC n i l).length=l.length
 | 0,_,_=>rfl
 |n+1,i,l=>by rw[zpC,zLS n,zbV]
def zR6:∀(n i:Nat) (l:List Mon),i+n<=l.length->∀m,0<=m->ix (zpC n i l) m mZ=if (i:Int)<=m/\m<((i+n:Nat):Int) then zwK (ix l m mZ) (ix l m mZ).Tables.length 0 else ix l m mZ
 | 0,i,l,_,m,a=>by rw[if_neg (by omega)];rfl
 |n+1,i,l,b,m,a=>by rw[zpC,zR6 n (i+1) _ (by rw[zbV];omega) m a];by_cases e:(i:Int)=m;{subst e;rw[if_neg (by omega),if_pos (by omega),zbm<|zG.2 ⟨by omega,by unfold ln;omega⟩]};{rw [zbD (by omega) a e];by_cases h:((i+1:Nat):Int)<=m/\m<((i+1+n:Nat):Int);{rw [if_pos h,if_pos (by omega)]};{rw [if_neg h,if_neg (by omega)]}}
def z7b (h:Host){m:Int}(a:hasB m (ln h.Mons)=true):ix (cold h).Mons m mZ=zwK (ix h.Mons m mZ) (ix h.Mons m mZ).Tables.length 0:=by have:=zG.1 a;unfold ln at this;show ix (zpC h.Mons.length 0 h.Mons) m mZ=_;rw[zR6 _ _ _ (by omega) m this.1,if_pos (by omega)]
def zyY (h:Host):(cold h).Mons.length=h.Mons.length:=zLS _ _ _
def zIP (h:Host)(m:Int):hasB m (ln (cold h).Mons)=hasB m (ln h.Mons):=by unfold ln;rw[zyY]
def zbbd {l a:List Mon}(d:a.length=l.length)(h:∀m,hasB m (ln l)=true->(ix a m mZ).Outer=(ix l m mZ).Outer)(q:Int):zf0 a q=zf0 l q:=by have:a.map (λx=>cPg x q)=l.map (λx=>cPg x q):=(by refine List.ext_getElem (by simp[d]) λk b c=>?_;simp only[uK]at b c;have:=h (k:Int) (zG.2 ⟨by omega,by unfold ln;omega⟩);rw[zmd b,zmd c] at this;simp[cPg,this]);unfold zf0;rw[this]
def zbb9 {h:Host}(H:HOk h):Op h (cold h):=by have c:∀m,hasB m (ln h.Mons)=true->ix (cold h).Mons m mZ=zwK (ix h.Mons m mZ) (ix h.Mons m mZ).Tables.length 0:=λm a=>z7b h a;have n:∀i q,zcH (cold h) i q=zcH h i q:=(by intro i q;unfold zcH;rw[zIP];cases b:hasB i (ln h.Mons) with|false=>rfl|true=>rw[c i b];rfl);refine⟨⟨H.m12,H.pgs,by rw[zyY];exact H.n1,by rw[zyY];exact H.n3,rfl,rfl,λy s=>?_,λq r=>?_⟩,⟨zyY h,λi b=>by rw[c i b];rfl,λi b=>by rw[c i b];rfl,λi b=>by rw[c i b];rfl,λi b=>by rw[c i b];rfl,λi b=>by rw[c i b];rfl,λi k _ _=>n i k⟩,λR=>⟨λm a=>?_,λe j=>(by cases j),λe j=>(by cases j)⟩⟩;{obtain⟨m,a,rfl⟩:=zER s mZ;rw[zIP]at a;rw[c m a];have X:=H.mon a;have k:KeepP (ix h.Mons m mZ) (zwK (ix h.Mons m mZ) (ix h.Mons m mZ).Tables.length 0):=⟨rfl,rfl⟩;exact zmf X k rfl (zLT _ _ _) rfl X.outs X.pend X.tr X.own X.gs};{rw [zbbd (l:=h.Mons) (zyY h) (λm a=>by rw[c m a];rfl)];exact H.uq q r};{rw [zIP]at a;rw[c m a];have X:=H.mon a;intro g hg;show KOk (ix (zwJ (ix h.Mons m mZ).Tables.length 0 (ix h.Mons m mZ).Tables) g kZ) (ix (ix h.Mons m mZ).Guests g gZ).Live (ix h.Mons m mZ).Outer;have d:hasB g (ln (ix h.Mons m mZ).Guests)=true:=hg;have f:=zG.1 d;unfold ln at f;have p:=X.gt;rw[zVn _ _ _ (by omega) g f.1,if_pos (by omega)];exact zTD (R.t m a g d)}
def zX9 {m g:Int}(c:zk m 0 2=true)(hg:zk g 0 1=true):zcR (zes m g)=m/\zdx (zes m g)=g/\1<=zes m g/\zes m g<=6:=by have d:=zc2.1 c;have e:=zc2.1 hg;have a:m=0\/m=1\/m=2:=(by omega);have b:g=0\/g=1:=(by omega);rcases a with rfl|rfl|rfl<;>rcases b with rfl|rfl<;>decide
def HOk.tag {h:Host}(H:HOk h){m g:Int}(a:hasB m (ln h.Mons)=true)(hg:hasB g (ln (ix h.Mons m mZ).Guests)=true):zk m 0 2=true/\zk g 0 1=true:=by have b:=zG.1 a;have c:=zG.1 hg;have d:=H.n3;have e:=(H.mon a).g2;unfold ln at b c;exact⟨zc2.2 (by omega),zc2.2 (by omega)⟩
def zhl {r:Int}:zd1 r=true↔r=0\/r=1\/r=2\/r=3:=by unfold zd1 ige ile;rw[qE,q0,q0];omega
def zs7 {a b:Int}(h:enough a b=true):zd1 a=true/\zd1 b=true:=by unfold enough at h;rw[zb7,zb7]at h;exact⟨h.1,h.2.1⟩
def zVK {a b c:Int}(d:enough a b=true)(e:enough b c=true):enough a c=true:=by have f:=zhl.1 (zs7 d).1;have g:=zhl.1 (zs7 d).2;have h:=zhl.1 (zs7 e).2;rcases f with rfl|rfl|rfl|rfl<;>rcases g with rfl|rfl|rfl|rfl<;>rcases h with rfl|rfl|rfl|rfl<;>revert d e<;>decide
def zYS {a b n:Int}(g:n=1\/n=2)(c:enough a n=true)(d:enough b n=true):zeL a b≠0/\enough (zeL a b) n=true:=by have e:=zhl.1 (zs7 c).1;have f:=zhl.1 (zs7 d).1;rcases g with rfl|rfl<;>rcases e with rfl|rfl|rfl|rfl<;>rcases f with rfl|rfl|rfl|rfl<;>revert c d<;>decide
def both_ok (a b:Int):zd1 (zeL a b)=true:=by
 unfold zeL;cases c:zd1 a with
 |false=>rfl
 |true=>
  cases d:zd1 b with
  |false=>rfl
  |true=>have c:=zhl.1 c;have d:=zhl.1 d;rcases c with rfl|rfl|rfl|rfl<;>rcases d with rfl|rfl|rfl|rfl<;>decide
def zY0 {a:Int}(h:zd1 a=true):enough a a=true:=by rcases zhl.1 h with rfl|rfl|rfl|rfl<;>decide
def zsd {n:Int}(a:n=1\/n=2):enough 0 n=false:=by rcases a with rfl|rfl<;>decide
def z1D {s:Slot}{o:List Slot}(a:s.Page≠-1)(b:(zbE o s.Page).Page≠-1):zbx s o=bif ieq (zeL s.Rights (zbE o s.Page).Rights) 0 then noSlot else ⟨(zbE o s.Page).Page,zeL s.Rights (zbE o s.Page).Rights⟩:=by unfold zbx;rw[zb9.2 a,zb9.2 b];rfl
def zrp {s:Slot}{o:List Slot}{n:Int}(c:n=1\/n=2)(h:enough (zbx s o).Rights n=true):s.Page≠-1/\(zbE o s.Page).Page≠-1/\(zbx s o).Page=(zbE o s.Page).Page:=by unfold zbx at h ⊢;by_cases a:s.Page = -1;{rw [zbB.2 a,cond_true]at h;rw[show noSlot.Rights=0 from rfl,zsd c]at h;cases h};{rw [zb9.2 a,cond_false]at h ⊢;by_cases b:(zbE o s.Page).Page = -1;{rw [zbB.2 b,cond_true]at h;rw[show noSlot.Rights=0 from rfl,zsd c]at h;cases h};{rw [zb9.2 b,cond_false]at h ⊢;by_cases d:zeL s.Rights (zbE o s.Page).Rights=0;{rw [zbB.2 d,cond_true]at h;rw[show noSlot.Rights=0 from rfl,zsd c]at h;cases h};{rw [zb9.2 d];exact⟨a,b,rfl⟩}}}
def zVo {s:Slot}{o:List Slot}{n:Int}(e:n=1\/n=2)(a:s.Page≠-1)(b:(zbE o s.Page).Page≠-1)(c:enough s.Rights n=true)(d:enough (zbE o s.Page).Rights n=true) :
 (zbx s o).Page=(zbE o s.Page).Page/\enough (zbx s o).Rights n=true:=by
 have:=zYS e c d;rw[z1D a b,zb9.2 this.1];exact⟨rfl,this.2⟩
def z1E (s:Slot)(o:List Slot):zd1 (zbx s o).Rights=true:=by unfold zbx;cases ieq s.Page (-1)<;>cases ieq (zbE o s.Page).Page (-1)<;>cases ieq (zeL s.Rights (zbE o s.Page).Rights) 0<;>first|rfl|exact both_ok _ _
def zAF {b:List Entry}{t p:Int}{e:Entry}:e∈zcY b t p↔e∈b/\¬ (e.Tag=t/\e.Page=p):=by unfold zcY;rw[List.mem_filter];refine and_congr Iff.rfl ?_;unfold ztk;by_cases h:e.Tag=t;{rw [show ine e.Tag t=false by simp[ine,h],cond_false,zFX];simp[h]};{rw [zFX.2 h];simp[h]}
def z8B {b:List Entry}{e x:Entry}(h:x∈zp3 b e):x∈b\/x=e:=by unfold zp3 ap at h;have:x∈zcY b e.Tag e.Page++[e]:=(by cases a:igt (ln<|zcY b e.Tag e.Page++[e]) 6 with|true=>rw[a,cond_true]at h;exact kM h|false=>rw[a,cond_false]at h;exact h);rcases jJ.1 this with h|h;{exact .inl (zAF.1 h).1};{exact .inr (qF.1 h)}
def zbee {n:Nat}(h:n<=100):wsub .i64 (n:Int) 6=(n:Int)-6:=by unfold wsub IntKind.wrap;simp[IntKind.signed,IntKind.bits];omega
def z0o {b:List Entry}(h:zgh b=true)(e:Entry):zgh (zp3 b e)=true:=by have c:=zFI.1 h;have k:(zcY b e.Tag e.Page).length<=6:=qU (k9 _ _) c.2;have d:(zcY b e.Tag e.Page++[e]).Pairwise (λy x=>sameKey x y=false):=(by rw[List.pairwise_append];refine⟨c.1.sublist List.filter_sublist,List.pairwise_singleton _ _,λx i y j=>?_⟩;rw[qF.1 j];have:=(zAF.1 i).2;unfold sameKey;by_cases a:e.Tag=x.Tag;{rw [zbB.2 a,cond_true,zb9];exact λf=>this ⟨a.symm,f.symm⟩};{rw [zb9.2 a];rfl});unfold zp3 ap;cases g:igt (ln<|zcY b e.Tag e.Page++[e]) 6 with|true=>rw[cond_true,zFI];refine⟨d.sublist<|List.drop_sublist _ _,?_⟩;unfold dp ln;rw[kC,k8,zbee (by omega),vJ,kC,k8];omega|false=>rw[cond_false,zFI];refine⟨d,?_⟩;have:=jP g;unfold ln at this;omega
def z5v {h r:Host}{m:Int}(c:hasB m (ln h.Mons)=true){y:Mon}(b:r.Mons=up h.Mons m y)(a:r.Memory=h.Memory)(k:KeepP (ix h.Mons m mZ) y)(g:y.Guests=(ix h.Mons m mZ).Guests)(o:y.Outs=(ix h.Mons m mZ).Outs)(p:y.Pending=(ix h.Mons m mZ).Pending)(t:y.Traps=(ix h.Mons m mZ).Traps)(w:y.Own=(ix h.Mons m mZ).Own):Like h r:=by have e:∀{d:Type} (F:Mon->d),F y=F (ix h.Mons m mZ)->∀i,hasB i (ln h.Mons)=true->F (ix r.Mons i mZ)=F (ix h.Mons i mZ):=(by intro d F f i j;rw[b];by_cases e:m=i;{subst e;rw[zbm c];exact f};{rw [zbD (zG.1 c).1 (zG.1 j).1 e]});exact⟨by rw[b,zbV],e Mon.Guests g,e Mon.Outs o,e Mon.Pending p,e Mon.Traps t,e Mon.Own w,λi q _ _=>zNM c b a k i q⟩
def z8E {h:Host}(R:Rt h){m g:Int}(d:hasB m (ln h.Mons)=true)(r:hasB g (ln (ix h.Mons m mZ).Tables)=true){k:Kept}(u:KOk k (ix (ix h.Mons m mZ).Guests g gZ).Live (ix h.Mons m mZ).Outer) :
 Rt {h with Mons:=up h.Mons m {ix h.Mons m mZ with Tables:=up (ix h.Mons m mZ).Tables g k}}:=by
 have f:∀e,zcM h e=true->zcM {h with Mons:=up h.Mons m {ix h.Mons m mZ with Tables:=up (ix h.Mons m mZ).Tables g k}} e=true:=by intro e b;obtain⟨l,n,p⟩:=zgA.1 b;rw[zgA];show hasB (zcR e.Tag) (ln<|up h.Mons m _)=true/\hasB (zdx e.Tag) (ln (ix (up h.Mons m _) (zcR e.Tag) mZ).Guests)=true/\below' _ (zbx (zbE (ix (ix (up h.Mons m _) (zcR e.Tag) mZ).Guests (zdx e.Tag) gZ).Live e.Page) (ix (up h.Mons m _) (zcR e.Tag) mZ).Outer)=true;rw[zem];refine⟨l,?_⟩;by_cases a:m=zcR e.Tag;{rw [<- a]at l n p ⊢;rw[zbm d];exact⟨n,p⟩};{rw [zbD (zG.1 d).1 (zG.1 l).1 a];exact⟨n,p⟩}
 refine⟨λi s=>?_,λe b=>f e (R.e1 e b),λe b=>f e (R.e2 e b)⟩
 show TOk (ix (up h.Mons m _) i mZ)
 have c:hasB i (ln h.Mons)=true:=by have:hasB i (ln<|up h.Mons m {ix h.Mons m mZ with Tables:=up (ix h.Mons m mZ).Tables g k})=true:=s;rwa [zem] at this
 by_cases a:m=i
 .subst a;rw[zbm d];intro j q
  by_cases e:g=j
  .subst e
   show KOk (ix (up _ g k) g kZ) _ _
   rw[zbm r];exact u
  .show KOk (ix (up _ g k) j kZ) _ _
   rw[zbD (zG.1 r).1 (zG.1 q).1 e];exact R.t m d j q
 .rw [zbD (zG.1 d).1 (zG.1 c).1 a];exact R.t i c
def z8r {h:Host}(H:HOk h){m g:Int}(a:hasB m (ln h.Mons)=true)(c:hasB g (ln (ix h.Mons m mZ).Tables)=true){k:Kept}(b:Rt h->KOk k (ix (ix h.Mons m mZ).Guests g gZ).Live (ix h.Mons m mZ).Outer) :
 Op h {h with Mons:=up h.Mons m {ix h.Mons m mZ with Tables:=up (ix h.Mons m mZ).Tables g k}}:=by
 have X:=H.mon a;have kp:KeepP (ix h.Mons m mZ) {ix h.Mons m mZ with Tables:=up (ix h.Mons m mZ).Tables g k}:=⟨rfl,rfl⟩;exact⟨zVY H a kp (zmf X kp rfl (zbV _ _ _) rfl X.outs X.pend X.tr X.own X.gs),z5v (y:={ix h.Mons m mZ with Tables:=up (ix h.Mons m mZ).Tables g k}) a rfl rfl kp rfl rfl rfl rfl rfl,λR=>z8E R a c (b R)⟩
def zM8 {k:Kept}{a b:List Slot}(h:KOk k a b)(p:Int):KOk (filled k a b p) a b:=by unfold filled zdM;cases d:hasB p (ln k.Known) with|false=>exact h|true=>have f:hasB p (ln k.Slots)=true:=(by unfold ln at d ⊢;rw[h.l2,<- h.l1];exact d);have g:hasB p (ln a)=true:=(by unfold ln at d ⊢;rw[<- h.l1];exact d);rw[cond_true,f,cond_true,g,cond_true];refine⟨by rw[zbV];exact h.l1,by rw[zbV];exact h.l2,λi c=>?_⟩;by_cases e:p=i;{subst e;show ix (up _ p _) p sZ=bif ix (up _ p true) p false then _ else _;rw[zbm f,zbm d];rfl};{show ix (up _ p _) i sZ=bif ix (up _ p true) i false then _ else _;rw[zbD (zG.1 f).1 (zG.1 c).1 e,zbD (zG.1 f).1 (zG.1 c).1 e];exact h.at' i c}
def zbca {h:Host}(H:HOk h){m g:Int}(b:hasB m (ln h.Mons)=true)(hg:hasB g (ln (ix h.Mons m mZ).Guests)=true)(a:Int):Op h (zcD h m g a):=
 z8r H b (by unfold ln;rw[(H.mon b).gt];exact hg) λR=>zM8 (R.t m b g hg) a
def z3U {k:Kept}{a b:List Slot}(h:KOk k a b){p:Int}(c:hasB p (ln a)=true):zel k p=bif ix k.Known p false then zbx (ix a p sZ) b else noSlot:=by have d:hasB p (ln k.Known)=true:=(by unfold ln at c ⊢;rw[h.l1];exact c);have e:hasB p (ln k.Slots)=true:=(by unfold ln at c ⊢;rw[h.l2];exact c);unfold zel zli zdM;rw[d,e,cond_true,cond_true,h.at' p c];cases ix k.Known p false<;>rfl
def z1w {k:Kept}{a b:List Slot}(h:KOk k a b){p:Int}(c:hasB p (ln a)=true):zel (filled k a b p) p=zbx (ix a p sZ) b:=by rw[z3U (zM8 h p) c];have d:hasB p (ln k.Known)=true:=(by unfold ln at c ⊢;rw[h.l1];exact c);have e:hasB p (ln k.Slots)=true:=(by unfold ln at c ⊢;rw[h.l2];exact c);have:ix (filled k a b p).Known p false=true:=(by unfold filled zdM;rw[d,e,c];exact zbm d _ _);rw[this];rfl
def zbdn {h:Host}(H:HOk h){m g a:Int}(i:Bool)(n:Rt h->zcM h (zUL h m g a)=true):Op h (zxk h m g a i):=by have f:∀(j k:List Entry),Like h ⟨h.Memory,h.Mons,j,k⟩:=λ_ _=>⟨rfl,λ_ _=>rfl,λ_ _=>rfl,λ_ _=>rfl,λ_ _=>rfl,λ_ _=>rfl,λ_ _ _ _=>rfl⟩;have d:∀(b:List Entry),(∀e∈b,zcM h e=true)->Rt h->∀e∈zp3 b (zUL h m g a),zcM h e=true:=(by intro b l R e c;rcases z8B c with c|c;{exact l e c};{rw [c];exact n R});unfold zxk;cases i;{exact⟨⟨H.m12,H.pgs,H.n1,H.n3,z0o H.b1 _,H.b2,H.mons,H.uq⟩,f _ _,λR=>⟨R.t,λe c=>d _ R.e1 R e c,R.e2⟩⟩};{exact⟨⟨H.m12,H.pgs,H.n1,H.n3,H.b1,z0o H.b2 _,H.mons,H.uq⟩,f _ _,λR=>⟨R.t,R.e1,λe c=>d _ R.e2 R e c⟩⟩}
def z7R {b:List Entry}{t p:Int}{e:Entry}(h:zAD b t p=some e):e∈b/\e.Tag=t/\e.Page=p:=by unfold zAD at h;have a:=List.find?_some h;rw[zb7,zbB,zbB]at a;exact⟨uL h,a⟩
def zlg {h:Host}{m g:Int}:zbZ h m g=true↔HOk h/\hasB m (ln h.Mons)=true/\hasB g (ln (ix h.Mons m mZ).Guests)=true:=by unfold zbZ;rw[zb7,zb7,zj5]
structure GOk (x:Guest):Prop where
 prog:zdI x.Prog=true
 a:zk x.A 0 99=true
 pc:zk x.Pc 0 12=true
 w:zdj x.Written 4 8=true
 l:zdj x.Live 4 8=true
 ctl:zmV x.Ctl=true
 pend:zdU x.Pending=true
 ex:zji x.Exit=true
 seen:ile (ln x.Seen) 40=true
def zuT {x:Guest}:zd4 x=true↔GOk x:=by unfold zd4;simp only[qE];exact⟨λ⟨a,b,c,d,e,f,g,h,i⟩=>⟨a,b,c,d,e,f,g,h,i⟩,λ⟨a,b,c,d,e,f,g,h,i⟩=>⟨a,b,c,d,e,f,g,h,i⟩⟩
def z6s {s:Slot}:zen s 8=true↔s=noSlot\/(0<=s.Page/\s.Page<=7/\1<=s.Rights/\s.Rights<=3):=by unfold zen;rw[zvh,zla,ztw];have:wsub .i64 8 1=7:=(by decide);simp only[this,zvh,zc2];simp[igt];constructor;{rintro (h|⟨h,⟨a,b⟩,c⟩);{exact .inl h};{exact .inr ⟨a,b,c⟩}};{intro h;by_cases d:s=noSlot;{exact .inl d};{rcases h with h|⟨a,b,c⟩;{exact .inl h};{exact .inr ⟨d,⟨a,b⟩,c⟩}}}
def HOk.guest {h:Host}(H:HOk h){m g:Int}(a:hasB m (ln h.Mons)=true)(hg:hasB g (ln (ix h.Mons m mZ).Guests)=true):GOk (ix (ix h.Mons m mZ).Guests g gZ):=zuT.1 ((H.mon a).gs _ (zlO hg _))
structure Walked (l:List Slot) (p n q:Int):Prop where
 hp:hasB p (ln l)=true
 pg:(ix l p sZ).Page=q
 q8:hasB q 8=true
 en:enough (ix l p sZ).Rights n=true
def walked {x:Guest}(X:GOk x){p n:Int}(a:ze6 x.Live p n=true):Walked x.Live p n (zco x.Live p n):=by have e:zco x.Live p n=(zbE x.Live p).Page:=(by unfold zco;rw[a];rfl);unfold ze6 at a;by_cases b:(zbE x.Live p).Page = -1;{rw [zbB.2 b]at a;cases a};{rw [zb9.2 b,cond_false,zb7]at a;have c:hasB p (ln x.Live)=true:=(by cases c:hasB p (ln x.Live) with|true=>rfl|false=>exact absurd (by unfold zbE;rw[c];rfl) b);rw[zpr c] at e b a;rw[e];have d:=z6s.1 ((zsW.1 X.l).1 _ (zlO c sZ));refine⟨c,rfl,?_,a.1⟩;rcases d with d|d;{rw [d]at b;exact absurd rfl b};{exact zG.2 (by omega)}}
structure Looked (h r:Host) (m g page need q host:Int):Prop where
 op:Op h r
 inn:(ix (ix r.Mons m mZ).Outer q sZ).Page=host
 ne:host≠-1
 en:enough (zbx (ix (ix (ix h.Mons m mZ).Guests g gZ).Live page sZ) (ix r.Mons m mZ).Outer).Rights need=true
 cp:(zbx (ix (ix (ix h.Mons m mZ).Guests g gZ).Live page sZ) (ix r.Mons m mZ).Outer).Page=host
 dk:∀k,hasB k 8=true->k≠q->ix (ix r.Mons m mZ).Dirty k false=ix (ix h.Mons m mZ).Dirty k false
 dq:need=2->ix (ix r.Mons m mZ).Dirty q false=true
 d1:need=1->(ix r.Mons m mZ).Dirty=(ix h.Mons m mZ).Dirty
 dm:∀i,hasB i (ln h.Mons)=true->i≠m->(ix r.Mons i mZ).Dirty=(ix h.Mons i mZ).Dirty
def zSx {h:Host}(S:Safe h){m g a b q:Int}(f:hasB m (ln h.Mons)=true)(hg:hasB g (ln (ix h.Mons m mZ).Guests)=true)(l:b=1\/b=2)(W:Walked (ix (ix h.Mons m mZ).Guests g gZ).Live a b q)(c:Bool)(d:zel (zcb h m g) a=zbx (ix (ix (ix h.Mons m mZ).Guests g gZ).Live a sZ) (ix h.Mons m mZ).Outer)(i:enough (zel (zcb h m g) a).Rights b=true) :
 Op h (zff h m g a c).1/\(zff h m g a c).2=((ix (ix h.Mons m mZ).Outer q sZ).Page,true)/\(ix (ix h.Mons m mZ).Outer q sZ).Page≠-1/\(zff h m g a c).1.Mons=h.Mons:=by
 rw[d]at i;have e:=zrp l i;rw[W.pg,zpr<|(S.ok.mon f).hasO W.q8]at e;refine⟨zbdn S.ok c λR=>?_,?_,e.2.1,?_⟩
 .obtain⟨t1,t2⟩:=S.ok.tag f hg;obtain⟨j,k,_⟩:=zX9 t1 t2;rw[zgA]
  show hasB (zcR<|zes m g) _=true/\hasB (zdx<|zes m g) (ln (ix h.Mons (zcR<|zes m g) mZ).Guests)=true/\below' ⟨(zel (zcb h m g) a).Page,(zel (zcb h m g) a).Rights⟩ (zbx (zbE (ix (ix h.Mons (zcR<|zes m g) mZ).Guests (zdx<|zes m g) gZ).Live a) (ix h.Mons (zcR<|zes m g) mZ).Outer)=true
  rw[j,k,zpr W.hp,d];exact⟨f,hg,zs4.2<|.inr ⟨rfl,zY0<|z1E _ _⟩⟩
 .show ((zel (zcb h m g) a).Page,true)=_
  rw[d,e.2.2]
 .show (zxk h m g a c).Mons=_
  unfold zxk;cases c<;>rfl
def zW3 {h:Host}(S:Safe h){m g page need q:Int}(x:hasB m (ln h.Mons)=true)(hg:hasB g (ln (ix h.Mons m mZ).Guests)=true)(D:need=1\/need=2)(W:Walked (ix (ix h.Mons m mZ).Guests g gZ).Live page need q)(N:Bool){b:List Entry}(hb:∀e∈b,zcM h e=true)(hd:need=2->ix (ix h.Mons m mZ).Dirty q false=true) :
 Looked h (zg0 h b m g page need q N).1 m g page need q (zg0 h b m g page need q N).2.1/\(zg0 h b m g page need q N).2.2=true:=by
 have X:=S.ok.mon x;have r:=W.q8;have L:=zpr (X.hasO W.q8);unfold zg0;cases K:zi5 b m g page need with
 |true=>
  rw[cond_true];unfold zi5 at K;cases B:zta b m g page with
  |none=>rw[B]at K;cases K
  |some e=>rw[B]at K;have A:enough e.Rights need=true:=K;obtain⟨f1,f2,f3⟩:=z7R B;obtain⟨t1,t2⟩:=S.ok.tag x hg;obtain⟨b1,b2,_⟩:=zX9 t1 t2;obtain⟨_,_,v⟩:=zgA.1 (hb e f1);rw[f2,b1,b2,f3,zpr W.hp]at v;have T:(⟨e.Host,e.Rights⟩:Slot)≠noSlot:=λf=>(by have:e.Rights=0:=congrArg Slot.Rights f;rw[this,zsd D]at A;cases A);rcases zs4.1 v with v|⟨v,h4⟩;{exact absurd v T};{have h5:=zVK h4 A;have f:=zrp D h5;rw[W.pg,L]at f;have O:e.Host=_:=v;refine⟨⟨Op.refl S.ok,f.2.2.symm.trans v.symm,?_,h5,v.symm,λ_ _ _=>rfl,hd,λ_=>rfl,λ_ _ _=>rfl⟩,rfl⟩;show e.Host≠-1;rw[O,f.2.2];exact f.2.1}
 |false=>
  rw[cond_false];have P:=S.rt.t m x g hg;cases y:ze5 h m g page need with
  |false=>rw[cond_false];have E:ix (zcb h m g).Known page false=true/\enough (zel (zcb h m g) page).Rights need=true:=(by unfold ze5 at y;cases n:zli (zcb h m g) page with|false=>rw[n]at y;cases y|true=>rw[n,cond_true]at y;refine⟨?_,?_⟩;{unfold zli at n;cases hh:zdM (zcb h m g) page with|false=>rw[hh]at n;cases n|true=>rw[hh]at n;exact n};{cases hz:ieq (zel (zcb h m g) page).Page (-1) with|true=>rw[hz]at y;cases y|false=>rw[hz]at y;simpa using y});have H:zel (zcb h m g) page=zbx (ix (ix (ix h.Mons m mZ).Guests g gZ).Live page sZ) (ix h.Mons m mZ).Outer:=(by have Z:=z3U P W.hp;have h1:ix (ix (ix h.Mons m mZ).Tables g kZ).Known page false=true:=E.1;rw[h1]at Z;exact Z);obtain⟨U,V,Y,d⟩:=zSx S x hg D W N H E.2;rw[V];have J:=E.2;rw[H]at J;have f:=zrp D J;rw[W.pg,L]at f;exact⟨⟨U,by rw[d],Y,by rw[d];exact J,by rw[d];exact f.2.2,λ_ _ _=>by rw[d],λe=>by rw[d];exact hd e,λ_=>by rw[d],λ_ _ _=>by rw[d]⟩,rfl⟩
  |true=>
   rw[cond_true];have M:=zSF S.ok (m:=m) (p:=q) need x r;have c:hasB m (ln (mended h m q need).Mons)=true:=(by rw[M.op.like.has];exact x);have C:(ix (mended h m q need).Mons m mZ).Guests=(ix h.Mons m mZ).Guests:=M.op.like.g m x;have l:hasB g (ln (ix (mended h m q need).Mons m mZ).Guests)=true:=(by rw[C];exact hg);have G:Safe (mended h m q need):=M.op.safe S;have F:=zbca G.ok c l page;have S2:Safe (zcD (mended h m q need) m g page):=F.safe G;have R:hasB m (ln (zcD (mended h m q need) m g page).Mons)=true:=(by rw[F.like.has];exact c);have u:ix (zcD (mended h m q need) m g page).Mons m mZ={ix (mended h m q need).Mons m mZ with Tables:=up (ix (mended h m q need).Mons m mZ).Tables g (filled (zcb (mended h m q need) m g) (zcB (mended h m q need) m g) (ix (mended h m q need).Mons m mZ).Outer page)}:=zbm c _ _;have Q:hasB g (ln (ix (zcD (mended h m q need) m g page).Mons m mZ).Guests)=true:=(by rw[u];exact l);have w:(ix (zcD (mended h m q need) m g page).Mons m mZ).Guests=(ix h.Mons m mZ).Guests:=(by rw[u];exact C);have W2:Walked (ix (ix (zcD (mended h m q need) m g page).Mons m mZ).Guests g gZ).Live page need q:=(by rw[w];exact W);have H:zel (zcb (zcD (mended h m q need) m g page) m g) page=zbx (ix (ix (ix (zcD (mended h m q need) m g page).Mons m mZ).Guests g gZ).Live page sZ) (ix (zcD (mended h m q need) m g page).Mons m mZ).Outer:=(by have:zcb (zcD (mended h m q need) m g page) m g=filled (zcb (mended h m q need) m g) (zcB (mended h m q need) m g) (ix (mended h m q need).Mons m mZ).Outer page:=(by unfold zcb;rw[u];exact zbm (by unfold ln;rw[(G.ok.mon c).gt];exact l) _ _);rw[this];refine(z1w (p:=page) (G.rt.t m c g l) (by rw[C];exact W.hp)).trans ?_;rw[u]);have z:(ix (zcD (mended h m q need) m g page).Mons m mZ).Outer=(ix (mended h m q need).Mons m mZ).Outer:=by rw[u]
   have j:=zpr ((G.ok.mon c).hasO r);have a:=zVo (s:=ix (ix (ix h.Mons m mZ).Guests g gZ).Live page sZ) (o:=(ix (mended h m q need).Mons m mZ).Outer) D (by rw[W.pg];have:=zG.1 r;omega) (by rw[W.pg,j];exact M.inn) W.en (by
    rw[W.pg,j];rcases D with rfl|rfl
    .rcases (G.ok.mon c).enough1 r M.inn with e|e<;>rw [e]<;>decide
    .rw [M.ri (by decide)];decide)
   have J:enough (zel (zcb (zcD (mended h m q need) m g page) m g) page).Rights need=true:=(by rw[H,w,z];exact a.2);obtain⟨U,V,Y,d⟩:=zSx S2 R Q D W2 N H J;rw[V];have I:=a.1;rw[W.pg,j]at I;refine⟨⟨(M.op.trans F).trans U,by rw[d],Y,by rw[d,z];exact a.2,by rw[d,z];exact I,λk n f=>?_,λe=>?_,λe=>?_,λi hi f=>?_⟩,rfl⟩;{rw [d,u];exact M.dk k n f};{rw [d,u];exact M.dt (by rw[e];decide)};{rw [d,u];exact M.d0 (by rw[e];decide)};{rw [d];show (ix (up (mended h m q need).Mons m _) i mZ).Dirty=_;rw[zbD (zG.1 x).1 (zG.1 hi).1<|Ne.symm f];exact M.dm i hi f}
def zH4 {n:Int}:zgK n=true↔n=1\/n=2:=by unfold zgK;by_cases h:n=1;{rw [zbB.2 h];simp[h]};{rw [zb9.2 h,cond_false,zbB];simp[h]}
def zsj {h:Host}{m g page need:Int}:zb5 h m g page need=true↔zbZ h m g=true/\(need=1\/need=2)/\ze6 (zcB h m g) page need=true:=by unfold zb5;rw[zb7,zb7,zH4]
def zSy {h:Host}(S:Safe h){m g page need:Int}(j:Bool)(t:zb5 h m g page need=true){b:List Entry}(r:∀e∈b,zcM h e=true) :
 Looked h (lookOf h b m g page need j).1 m g page need (zco (zcB h m g) page need) (lookOf h b m g page need j).2.1/\(lookOf h b m g page need j).2.2=true:=by
 obtain⟨w,A,B⟩:=zsj.1 t;obtain⟨_,a,hg⟩:=zlg.1 w;have W:=walked (S.ok.guest a hg) B;unfold lookOf;rw[t,cond_true];rcases A with rfl|rfl
 .rw [show ieq 1 2=false by decide,cond_false]
  exact zW3 S a hg (.inl rfl) W j r (λe=>absurd e (by decide))
 .rw [show ieq 2 2=true by decide,cond_true]
  obtain⟨d,C⟩:=zNF S.ok a (zco (zcB h m g) page 2);have p:hasB m (ln (zbN h m<|zco (zcB h m g) page 2).Mons)=true:=by rw[d.like.has];exact a
  have f:ix (zbN h m<|zco (zcB h m g) page 2).Mons m mZ={ix h.Mons m mZ with Dirty:=up (ix h.Mons m mZ).Dirty (zco (zcB h m g) page 2) true}:=zbm a _ _;have x:=(S.ok.mon a).hasD W.q8;obtain⟨L,y⟩:=zW3 (d.safe S) p (g:=g) (page:=page) (need:=2) (q:=zco (zcB h m g) page 2) (by rw[f];exact hg) (.inr rfl) (by rw[f];exact W) j (b:=b) (λe z=>by
   obtain⟨l,u,v⟩:=zgA.1 (r e z);rw[zgA];have n:hasB (zcR e.Tag) (ln (zbN h m<|zco (zcB h m g) page 2).Mons)=true:=by rw[d.like.has];exact l
   refine⟨n,by rw[d.like.g _ l];exact u,?_⟩
   rw[d.like.g _ l];have:(ix (zbN h m<|zco (zcB h m g) page 2).Mons (zcR e.Tag) mZ).Outer=(ix h.Mons (zcR e.Tag) mZ).Outer:=by show (ix (up h.Mons m _) _ mZ).Outer=_;by_cases c:m=zcR e.Tag;{rw [<- c,zbm a]};{rw [zbD (zG.1 a).1 (zG.1 l).1 c]}
   rw[this];exact v) (λ_=>by rw[f];exact zbm x _ _)
  refine⟨⟨d.trans L.op,L.inn,L.ne,?_,?_,λk s c=>?_,L.dq,λe=>absurd e (by decide),λi n c=>?_⟩,y⟩
  .have:=L.en;rw[f] at this;exact this
  .have:=L.cp;rw[f] at this;exact this
  .rw [L.dk k s c,f];exact zbD (zG.1 W.q8).1 (zG.1 s).1 (Ne.symm c) _ _
  .rw [L.dm i (by rw[d.like.has];exact n) c]
   show (ix (up h.Mons m _) i mZ).Dirty=_
   rw[zbD (zG.1 a).1 (zG.1 n).1<|Ne.symm c]
def zRv {x y:Int}(a : -9223372036854775808<=x+y)(b:x+y<=9223372036854775807):zM .i64 x y=x+y:=by unfold zM;simp only[IntKind.wrap,IntKind.signed,IntKind.bits];simp;omega
def zLZ {n:Nat}{P:Int->Prop}(h:∀i:Fin n,P ((i.val:Nat):Int)){x:Int}(a:0<=x)(b:x<n):P x:=by have:=h ⟨x.toNat,by omega⟩;simpa [show ((x.toNat:Nat):Int)=x by omega] using this
def zXu {p:Int}:zdU p=true↔0<=p/\p<=255:=by unfold zdU;exact zc2
def zSN {p:Int}(h:zdU p=true):zdU (zi6 p)=true:=by have a:=zXu.1 h;exact zLZ (n:=256) (P:=λx=>zdU (zi6 x)=true) (by decide +kernel) a.1 (by omega)
def zSM {p:Int}(h:zdU p=true)(n:Int):zdU (zuz p n)=true:=by unfold zuz ziI;rw[h,cond_true];cases e:zk n 0 7 with|false=>exact h|true=>rw[cond_true];have b:=zXu.1 h;have a:=zc2.1 e;exact zLZ (n:=256) (P:=λx=>∀k,0<=k->k<(8:Int)->zdU (wor .i64 x<|zmM .i64 1 k)=true) (λi k c d=>zLZ (n:=8) (P:=λk=>zdU (wor .i64 ((i.val:Nat):Int)<|zmM .i64 1 k)=true) (by revert i;decide +kernel) c d) b.1 (by omega) n a.1 (by omega)
structure GKeep (x y:Guest):Prop where
 ok:GOk y
 live:y.Live=x.Live
def z2h {x:Guest}(X:GOk x){c:Int}(b:zk c 0 12=true):GOk {x with Pc:=c}:=⟨X.prog,X.a,b,X.w,X.l,X.ctl,X.pend,X.ex,X.seen⟩
def z2g {x:Guest}(X:GOk x){c:Int}(a:zk c 0 99=true):GOk {x with A:=c}:=⟨X.prog,a,X.pc,X.w,X.l,X.ctl,X.pend,X.ex,X.seen⟩
def zkN {x:Guest}(X:GOk x):GKeep x (zca x):=by unfold zca;have a:=zc2.1 X.pc;cases h:ige x.Pc 12 with|true=>exact⟨z2h X (by decide),rfl⟩|false=>have:¬ x.Pc≥12:=jP h;refine⟨z2h X ?_,rfl⟩;rw[zRv (by omega) (by omega)];exact zc2.2 (by omega)
def zVS {x:Guest}(X:GOk x)(n:Int):GKeep x (saw x n):=by unfold saw;cases h:ilt (ln x.Seen) 40 with|false=>exact⟨X,rfl⟩|true=>have:ln x.Seen<40:=qD h;refine⟨⟨X.prog,X.a,X.pc,X.w,X.l,X.ctl,X.pend,X.ex,qI ?_⟩,rfl⟩;unfold ln ap at *;simp;omega
def zkO {x:Guest}(X:GOk x){e:GExit}(b:zji e=true):GKeep x (stopped x e):=⟨⟨X.prog,X.a,X.pc,X.w,X.l,X.ctl,X.pend,b,X.seen⟩,rfl⟩
def z0C {x:Guest}(X:GOk x){p:Int}(b:zdU p=true):GKeep x {x with Pending:=p}:=⟨⟨X.prog,X.a,X.pc,X.w,X.l,X.ctl,b,X.ex,X.seen⟩,rfl⟩
def z0z {x:Guest}(X:GOk x)(b:Bool):GKeep x {x with Halted:=b}:=⟨⟨X.prog,X.a,X.pc,X.w,X.l,X.ctl,X.pend,X.ex,X.seen⟩,rfl⟩
def z0A {x:Guest}(X:GOk x):GKeep x (held x):=⟨(zkN (z0z X true).ok).ok,(zkN (z0z X true).ok).live⟩
def z5b {x:Guest}(X:GOk x){v:Int}(c:zk v 0 99=true):GKeep x (loaded x v):=by have a:=zVS (z2g X c) v;have b:=zkN a.ok;exact⟨b.ok,b.live.trans a.live⟩
def zOW {x:Guest}(X:GOk x):GKeep x (interrupted x):=by unfold interrupted;cases zjP x with|false=>exact⟨X,rfl⟩|true=>have a:=z0C X (zSN X.pend);rw[cond_true];exact⟨(zVS a.ok _).ok,(zVS a.ok _).live⟩
def zKq {p:List Ins}(h:zdI p=true)(i:Int):zeS (zcp p i)=true:=by unfold zcp;cases a:hasB i (ln p) with|false=>rfl|true=>unfold zdI at h;rw[zb7,qM]at h;exact h.1 _ (zlO a _)
def zbde {i:Ins}(h:zeS i=true)(a:i.Op=3\/i.Op=4):0<=i.X/\i.X<=15:=by unfold zeS at h;rcases a with e|e<;>rw [e]at h<;>exact zc2.1 h
def z5i {i:Ins}(h:zeS i=true)(a:i.Op=5\/i.Op=6):0<=i.X/\i.X<=99:=by unfold zeS at h;rcases a with e|e<;>rw [e]at h<;>exact zc2.1 h
def zbdY {i:Ins}(h:zeS i=true)(a:i.Op=8):0<=i.X/\i.X<=11:=by unfold zeS at h;rw[a]at h;exact zc2.1 h
def zbdX {i:Ins}(h:zeS i=true)(a:i.Op=1):0<=i.X/\i.X<=99:=by unfold zeS at h;rw[a]at h;exact zc2.1 h
def z2i {x:Guest}(X:GOk x):GKeep x (plainly x):=by have M:=zkN X;have b:=zKq X.prog x.Pc;unfold plainly;cases ine (zN x) 2 with|true=>exact⟨X,rfl⟩|false=>rw[cond_false];(cases zk x.A 0 99 with|false=>exact M|true=>rw[cond_true];(cases zk (zcp x.Prog x.Pc).X 0 99 with|false=>exact M|true=>rw[cond_true];by_cases c:(zcp x.Prog x.Pc).Op=1;{rw [zbB.2 c,cond_true];exact⟨z2g M.ok<|zc2.2<|zbdX b c,M.live⟩};{rw [zb9.2 c,cond_false];by_cases d:(zcp x.Prog x.Pc).Op=2;{rw [zbB.2 d,cond_true];refine⟨z2g M.ok ?_,M.live⟩;have f:=zc2.1 X.a;have i:0<=(zcp x.Prog x.Pc).X/\(zcp x.Prog x.Pc).X<=99:=(by unfold zeS at b;rw[d]at b;exact zc2.1 b);rw[zc2];unfold zo9;rw[zRv (by omega) (by omega)];have g:=Int.tmod_nonneg (a:=x.A+(zcp x.Prog x.Pc).X) 100 (by omega);have h:=Int.tmod_lt_of_pos (x.A+(zcp x.Prog x.Pc).X) (show (0:Int)<100 by omega);omega};{rw [zb9.2 d,cond_false];by_cases e:(zcp x.Prog x.Pc).Op=8;{rw [zbB.2 e,cond_true];cases ieq x.A 0 with|true=>have:=zbdY b e;exact⟨z2h M.ok<|zc2.2 (by omega),M.live⟩|false=>exact M};{rw [zb9.2 e];exact M}}}))
def zux {c:LI}:zcI c=true↔(∀x∈c,zk x 0 99=true)/\ln c=4:=by unfold zcI;rw[zb7,qM,zbB]
def zn5 (h:Host)(m:Int):∀(n i:Nat),(zcO h m n i).length=n
 | 0,_=>rfl
 |n+1,i=>by rw[zcO,qV,zn5 h m n]
def zNO (h:Host)(m:Int):∀(n i k:Nat) (a:k<(zcO h m n i).length),(zcO h m n i)[k]=zcH h m ((i+k:Nat):Int)
 | 0,i,k,a=>by simp[zcO]at a
 |n+1,i,k,a=>by cases k with|zero=>rfl|succ k=>have:=zNO h m n (i+1) k (by simpa [zcO] using a);simp only[zcO,List.getElem_cons_succ];rw[this];congr 1;omega
def zrG {h:Host}{m q:Int}(b:hasB q 8=true)(d:LI):ix (zcO h m 8 0) q d=zcH h m q:=by have c:=zG.1 b;have a:q.toNat<(zcO h m 8 0).length:=(by rw[zn5];omega);have:=zmd a d;rw[show ((q.toNat:Nat):Int)=q by omega] at this;rw[this,zNO];congr 1;omega
def zvO (h:Host)(m:Int):ln (zcO h m 8 0)=8:=by unfold ln;rw[zn5];rfl
def zBa {h:Host}(H:HOk h){m p:Int}(b:hasB m (ln h.Mons)=true)(a:hasB p 8=true):zcI (zcH h m p)=true:=by have X:=H.mon b;rw[<- zmn H b a];by_cases e:(ix (ix h.Mons m mZ).Outer p sZ).Page = -1;{rw [zbB.2 e];exact((zru<|X.slot a).1 (X.fit p a)).1 e};{rw [zb9.2 e];exact zSK H.pgs _}
def zz5 {h:Host}(H:HOk h){m:Int}(b:hasB m (ln h.Mons)=true):zbY (zK h m)=true:=by have X:=H.mon b;unfold zK;rw[b,cond_true];unfold zbY zjl;rw[zb7,qM];refine⟨X.gs,?_⟩;simp only[qE,zb7,qM,zbB,zc2];refine⟨⟨λc d=>?_,zvO h m⟩,⟨?_,?_⟩,?_,X.pend⟩;{obtain⟨i,a,rfl⟩:=zER d [];rw[zvO]at a;rw[zrG a];exact zBa H b a};{unfold ln;have:=X.g1;omega};{unfold ln;have:=X.g2;omega};{unfold ile ln;have:=X.outs;exact qI (by omega)}
structure SimT (h r:Host) (m:Int) (f:Bare->Bare):Prop where
 safe:Safe r
 seen:∀i,zK r i=bif ieq i m then f (zK h i) else zK h i
 len:r.Mons.length=h.Mons.length
def SimT.trans {a b c:Host}{m:Int}{f g:Bare->Bare}(x:SimT a b m f)(y:SimT b c m g):SimT a c m (λt=>g (f t)):=by refine⟨y.safe,λi=>?_,y.len.trans x.len⟩;rw[y.seen i,x.seen i];cases ieq i m<;>rfl
def Op.sim {h r:Host}(k:Op h r)(S:Safe h)(m:Int):SimT h r m id:=⟨k.safe S,λi=>by rw[k.like.seen i];cases ieq i m<;>rfl,k.like.len⟩
def SimT.congr {h r:Host}{m:Int}{f g:Bare->Bare}(x:SimT h r m f)(e:f (zK h m)=g (zK h m)):SimT h r m g:=by refine⟨x.safe,λi=>?_,x.len⟩;rw[x.seen i];by_cases a:i=m;{subst a;rw[zbB.2 rfl,cond_true,cond_true,e]};{rw [zb9.2 a];rfl}
def SimT.has {h r:Host}{m:Int}{f:Bare->Bare}(x:SimT h r m f)(i:Int):hasB i (ln r.Mons)=hasB i (ln h.Mons):=by unfold ln;rw[x.len]
def SimT.refl {h:Host}(S:Safe h)(m:Int):SimT h h m id:=⟨S,λi=>by cases ieq i m<;>rfl,rfl⟩
def zxM {h:Host}(S:Safe h){m q a:Int}(l:hasB m (ln h.Mons)=true)(f:hasB q 8=true)(J:(ix (ix h.Mons m mZ).Outer q sZ).Page=a)(y:a≠-1)(c v:Int) :
 SimT h {h with Memory:=zbQ h.Memory a c v} m (λb=>{b with Memory:=zbQ b.Memory q c v})/\cellAt h.Memory a c=cellAt (zK h m).Memory q c:=by
 have H:=S.ok;have X:=H.mon l;have N:=X.slot f;have E:=hasM H N (by rw[J];exact y)
 rw[J]at E;have z:ix h.Memory a []=zcH h m q:=by have:=zmn H l f;rw[J,zb9.2 y,cond_false,zmm E] at this;exact this
 have n:ln (zcH h m q)=4:=(zux.1<|zBa H l f).2;have d:(zK h m).Memory=zcO h m 8 0:=by unfold zK;rw[l];rfl
 have C:zgJ h.Memory a c=hasB c 4:=by unfold zgJ;rw[E,cond_true,z,n]
 have D:zgJ (zcO h m 8 0) q c=hasB c 4:=by unfold zgJ;rw[zvO,f,cond_true,zrG f,n]
 have u:cellAt h.Memory a c=cellAt (zK h m).Memory q c:=by rw[d];unfold cellAt;rw[C,D,z,zrG f]
 refine⟨?_,u⟩;cases A:hasB c 4 with
 |false=>have s:zbQ h.Memory a c v=h.Memory:=(by unfold zbQ;rw[C,A];rfl);rw[s];refine(SimT.refl S m).congr ?_;show zK h m={zK h m with Memory:=zbQ (zK h m).Memory q c v};rw[d];have B:zbQ (zcO h m 8 0) q c v=zcO h m 8 0:=(by unfold zbQ;rw[D,A];rfl);rw[B,<- d]
 |true=>
  cases K:zk v 0 99 with
  |false=>have s:zbQ h.Memory a c v=h.Memory:=(by unfold zbQ;rw[C,A,K];rfl);rw[s];refine(SimT.refl S m).congr ?_;show zK h m={zK h m with Memory:=zbQ (zK h m).Memory q c v};rw[d];have B:zbQ (zcO h m 8 0) q c v=zcO h m 8 0:=(by unfold zbQ;rw[D,A,K];rfl);rw[B,<- d]
  |true=>have s:zbQ h.Memory a c v=up h.Memory a (up (zcH h m q) c v):=(by unfold zbQ;rw[C,A,K,z];rfl);have B:zbQ (zcO h m 8 0) q c v=up (zcO h m 8 0) q (up (zcH h m q) c v):=(by unfold zbQ;rw[D,A,K,zrG f];rfl);have G:zcI (up (zcH h m q) c v)=true:=(by have:=zux.1 (zBa H l f);rw[zux,zem];refine⟨λx O=>?_,this.2⟩;rcases qX O with h|h;{exact this.1 x h};{rw [h];exact K});have P:=(zG.1 E).1;have L:HOk {h with Memory:=zbQ h.Memory a c v}:=(by rw[s];refine⟨by show (up _ _ _).length=12;rw[zbV];exact H.m12,λx O=>?_,H.n1,H.n3,H.b1,H.b2,H.mons,H.uq⟩;rcases qX O with h|h;{exact H.pgs x h};{rw [h];exact G});refine⟨⟨L,⟨S.rt.t,S.rt.e1,S.rt.e2⟩⟩,λi=>?_,rfl⟩;have r:∀i k,hasB i (ln h.Mons)=true->hasB k 8=true->¬ (i=m/\k=q)->zcH {h with Memory:=zbQ h.Memory a c v} i k=zcH h i k:=(by intro i k w g I;rw[<- zmn L (m:=i) (p:=k) w g,<- zmn H w g];show (cond (ieq (ix (ix h.Mons i mZ).Outer k sZ).Page<|-1) _<|zcN (zbQ h.Memory a c v) _)=_;by_cases e:(ix (ix h.Mons i mZ).Outer k sZ).Page = -1;{rw [zbB.2 e];rfl};{rw [zb9.2 e,cond_false,cond_false,s];exact zEV P (λe=>I (H.uniq w g l f e J P))});have F:zcH {h with Memory:=zbQ h.Memory a c v} m q=up (zcH h m q) c v:=(by rw[<- zmn L (m:=m) (p:=q) l f];show (cond (ieq (ix (ix h.Mons m mZ).Outer q sZ).Page<|-1) _<|zcN (zbQ h.Memory a c v) (ix (ix h.Mons m mZ).Outer q sZ).Page)=_;rw[J,zb9.2 y,cond_false,s];exact zEU E);by_cases w:i=m;{subst w;rw[zbB.2 rfl,cond_true];unfold zK;show (cond (hasB i<|ln h.Mons) _ _)=_;rw[l,cond_true,cond_true];show Bare.mk (zcO {h with Memory:=zbQ h.Memory a c v} i 8 0) _ _ _=Bare.mk (zbQ (zcO h i 8 0) q c v) _ _ _;congr 1;rw[B];refine zQQ [] (by rw[zbV,zn5,zn5]) λk g=>?_;rw[zvO]at g;rw[zrG g];by_cases e:q=k;{subst e;rw[zbm (by rw[zvO];exact f),F]};{rw [zbD (zG.1 f).1 (zG.1 g).1 e,zrG g];exact r i k l g (λh=>e h.2.symm)}};{rw [zb9.2 w,cond_false];unfold zK;show (cond (hasB i<|ln h.Mons) _ _)=_;cases M:hasB i (ln h.Mons) with|false=>rfl|true=>rw[cond_true,cond_true];show Bare.mk (zcO {h with Memory:=zbQ h.Memory a c v} i 8 0) _ _ _=_;rw[zsl 8 0 λj C D=>r i (j:Int) M (zG.2 (by omega)) λh=>w h.1]}
def zrW {h:Host}(S:Safe h){m g:Int}(a:hasB m (ln h.Mons)=true)(hg:hasB g (ln (ix h.Mons m mZ).Guests)=true){y:Guest}(k:GKeep (gOf h m g) y):SimT h (zgH h m g y) m (λb=>zd3 b g y):=by have X:=S.ok.mon a;have kp:KeepP (ix h.Mons m mZ) {ix h.Mons m mZ with Guests:=up (ix h.Mons m mZ).Guests g y}:=⟨rfl,rfl⟩;refine⟨zxL S a kp (zmf X kp (zbV _ _ _) rfl rfl X.outs X.pend X.tr X.own λz d=>?_) (zbV _ _ _) (λj c=>?_) rfl,λi=>?_,zbV _ _ _⟩;{rcases qX d with h|h;{exact X.gs z h};{rw [h];exact zuT.2 k.ok}};{show (ix (up (ix h.Mons m mZ).Guests g y) j gZ).Live=_;by_cases e:g=j;{subst e;rw[zbm hg];exact k.live};{rw [zbD (zG.1 hg).1 (zG.1 c).1 e]}};{refine(zwk (h:=h) (r:=zgH h m g y) a rfl rfl kp i).trans ?_;by_cases e:i=m;{subst e;rw[zbB.2 rfl,cond_true,cond_true];unfold zd3 zK;rw[a];rfl};{rw [zb9.2 e];rfl}}
def zXW {h:Host}(S:Safe h){m:Int}(a:hasB m (ln h.Mons)=true){y:Mon}(kp:KeepP (ix h.Mons m mZ) y)(d:MOk y)(hg:y.Guests=(ix h.Mons m mZ).Guests)(c:y.Tables=(ix h.Mons m mZ).Tables) :
 SimT h {h with Mons:=up h.Mons m y} m (λb=>{b with Outs:=y.Outs,Pending:=y.Pending}):=by
 refine⟨zxL S a kp d (by rw[hg]) (λj _=>by rw[hg]) c,λi=>?_,zbV _ _ _⟩
 refine(zwk (h:=h) (r:={h with Mons:=up h.Mons m y}) a rfl rfl kp i).trans ?_
 by_cases e:i=m
 .subst e;rw[zbB.2 rfl,cond_true,cond_true];unfold zK;rw[a,hg];rfl
 .rw [zb9.2 e];rfl
def zgd {h:Host}{m:Int}(a:hasB m (ln h.Mons)=true):zK h m=⟨zcO h m 8 0,(ix h.Mons m mZ).Guests,(ix h.Mons m mZ).Outs,(ix h.Mons m mZ).Pending⟩:=by unfold zK;rw[a];rfl
def z6p {h:Host}(S:Safe h){m:Int}(a:hasB m (ln h.Mons)=true):SimT h (owned h m) m id:=by unfold owned;cases b:ilt (ix h.Mons m mZ).Own 1000000000 with|false=>exact SimT.refl S m|true=>rw[cond_true];have X:=S.ok.mon a;have d:=zc2.1 X.own;have c:(ix h.Mons m mZ).Own<1000000000:=qD b;have kp:KeepP (ix h.Mons m mZ) {ix h.Mons m mZ with Own:=zM .i64 (ix h.Mons m mZ).Own 1}:=⟨rfl,rfl⟩;refine(zXW S a kp (zmf X kp rfl rfl rfl X.outs X.pend X.tr ?_ X.gs) rfl rfl).congr ?_;{show zk (zM .i64 (ix h.Mons m mZ).Own 1) 0 1000000000=true;rw[zRv (by omega) (by omega),zc2];omega};{rw [zgd a];rfl}
def z3z {h:Host}(S:Safe h){m:Int}(a:hasB m (ln h.Mons)=true)(n:Int):SimT h (ziG h m n) m (λb=>ziJ b n):=by unfold ziG;have X:=S.ok.mon a;cases c:ilt (ln (ix h.Mons m mZ).Outs) 40 with|false=>refine(SimT.refl S m).congr ?_;rw[zgd a];unfold ziJ;rw[c];rfl|true=>rw[cond_true];have d:ln (ix h.Mons m mZ).Outs<40:=qD c;have kp:KeepP (ix h.Mons m mZ) {ix h.Mons m mZ with Outs:=ap (ix h.Mons m mZ).Outs [n]}:=⟨rfl,rfl⟩;refine(zXW S a kp (zmf X kp rfl rfl rfl ?_ X.pend X.tr X.own X.gs) rfl rfl).congr ?_;{show (ap (ix h.Mons m mZ).Outs [n]).length<=40;unfold ln ap at *;simp;omega};{rw [zgd a];unfold ziJ;rw[c];rfl}
def zvr {h:Host}{m g:Int}(a:hasB m (ln h.Mons)=true)(hg:hasB g (ln (ix h.Mons m mZ).Guests)=true):gAt (zK h m) g=gOf h m g:=by rw[zgd a];unfold gAt;show (cond (hasB g<|ln (ix h.Mons m mZ).Guests) _ _)=_;rw[hg];rfl
def zRw {x:Guest}(h:zN x=3\/zN x=4\/zN x=5\/zN x=6):(zcp x.Prog x.Pc).Op=zN x:=by unfold zN at h ⊢;cases e:canRun x with|false=>simp[e]at h|true=>simp only[e,cond_true]at h ⊢;(cases f:zjP x with|true=>simp[f]at h|false=>simp only[f,cond_false]at h ⊢;unfold zzr at h ⊢;by_cases a:(zcp x.Prog x.Pc).Op=3;{rw [a];rfl};{rw [zb9.2 a,cond_false]at h ⊢;by_cases b:(zcp x.Prog x.Pc).Op=4;{rw [b];rfl};{rw [zb9.2 b,cond_false]at h ⊢;by_cases c:(zcp x.Prog x.Pc).Op=5;{rw [c];rfl};{rw [zb9.2 c,cond_false]at h ⊢;by_cases d:(zcp x.Prog x.Pc).Op=6;{rw [d];rfl};{rw [zb9.2 d,cond_false]at h ⊢;cases g:ieq (zcp x.Prog x.Pc).Op 7<;>simp [g]at h}}}})
def zbba {x:Guest}(X:GOk x){w:Int}(a:zN x=w)(h:w=3\/w=4):0<=address x/\address x<=15:=by have e:address x=(zcp x.Prog x.Pc).X:=(by unfold address;rcases h with e|e;{rw [a,e];rfl};{rw [a,e];rfl});rw[e];exact zbde (zKq X.prog _) (by rw[zRw (by omega),a];exact h)
def zbbb {a:Int}(b:0<=a)(c:a<=15):zk (zbo a) 0 3=true/\hasB (zdJ a) 4=true :=
 zLZ (n:=16) (P:=λa=>zk (zbo a) 0 3=true/\hasB (zdJ a) 4=true) (by decide) b (by omega)
def z15 {p:Int}(h:zk p 0 3=true)(w:Bool):zji (zs8 p w)=true:=by unfold zji zs8;simp[ieq,h]
def z4Q {n:Int}(h:zk n 0 99=true):zji (zvj n)=true:=by unfold zji zvj;simp[ieq,h]
def z7Q {n:Int}(h:zk n 0 99=true):zji (zzs n)=true:=by unfold zji zzs;simp[ieq,h]
def z7W {x:Guest}(X:GOk x)(t:Int){w:Int}(d:zN x=w):GKeep x (zfY x t w):=by have c:=zKq X.prog x.Pc;unfold zfY;by_cases b:w=6;{rw [zbB.2 b];exact zkO X (z4Q<|zc2.2<|z5i c (by rw[zRw (by omega),d];omega))};{rw [zb9.2 b,cond_false];by_cases a:w=5;{rw [zbB.2 a];cases zd5 t 1 with|true=>exact zkO X (z7Q<|zc2.2<|z5i c (by rw[zRw (by omega),d];omega))|false=>rw[a];exact zkN X};{rw [zb9.2 a];rw[Bool.false_and,cond_false];cases e:(ieq w 7&&zd5 t 2) with|true=>exact zkO X rfl|false=>rw[cond_false];cases ieq w 7;{exact zkN X};{exact z0A X}}}
def z0J {a:Type}(g:Int):hasB g (ln ([]:List a))=false:=by cases h:hasB g (ln ([]:List a)) with|false=>rfl|true=>have:=zG.1 h;simp[ln] at this;omega
def z6X {m:List LI}(h:∀c∈m,zcI c=true)(p c:Int):zk (cellAt m p c) 0 99=true:=by unfold cellAt zgJ;cases b:hasB p (ln m) with|false=>rfl|true=>rw[cond_true];(cases a:hasB c (ln<|ix m p []) with|false=>rfl|true=>rw[cond_true];exact(zux.1<|h _<|zlO b []).1 _ (zlO a 0))
def HOk.seenG {h:Host}(H:HOk h){m g:Int}(a:hasB m (ln h.Mons)=true)(hg:hasB g (ln (ix h.Mons m mZ).Guests)=true):GOk (gOf h m g):=H.guest a hg
def zX5 {h:Host}(S:Safe h){m g:Int}(i:hasB m (ln h.Mons)=true)(hg:hasB g (ln (ix h.Mons m mZ).Guests)=true)(w:Bool)(B:zN (gOf h m g)=bif w then 4 else 3) :
 SimT h (zhL (ziZ h m g (gOf h m g) w) m g (gOf h m g) w) m (λb=>zjb b g (gOf h m g) w):=by
 have X:=S.ok.seenG i hg;have t:=zbba X B (by cases w<;>simp)
 have n:=zbbb t.1 t.2;have z:zcc w=1\/zcc w=2:=by cases w<;>simp [zcc]
 unfold zhL ziZ;cases k:zb5 h m g (zbo<|address<|gOf h m g) (zcc w) with
 |false=>have e:lookOf h h.Buffer m g (zbo<|address<|gOf h m g) (zcc w) false=(h,-1,false):=(by unfold lookOf;rw[k];rfl);have q:ze6 (gOf h m g).Live (zbo<|address<|gOf h m g) (zcc w)=false:=(by cases y:ze6 (gOf h m g).Live (zbo<|address<|gOf h m g) (zcc w) with|false=>rfl|true=>exact Bool.noConfusion (k.symm.trans<|zsj.2 ⟨zlg.2 ⟨S.ok,i,hg⟩,z,y⟩));rw[e];refine(zrW S i hg<|zkO X<|z15 n.1 w).congr ?_;unfold zjb;rw[q];rfl
 |true=>obtain⟨L,x⟩:=zSy S false k S.rt.e1;obtain⟨_,_,j⟩:=zsj.1 k;have c:ze6 (gOf h m g).Live (zbo<|address<|gOf h m g) (zcc w)=true:=j;have W:=walked X j;rw[x,cond_true];have l:=L.op.safe S;have f:hasB m (ln (lookOf h h.Buffer m g (zbo<|address<|gOf h m g) (zcc w) false).1.Mons)=true:=(by rw[L.op.like.has];exact i);have a:=L.op.like.g m i;have C:hasB (zco (zcB h m g) (zbo<|address<|gOf h m g)<|zcc w) 8=true:=W.q8;obtain⟨u,v⟩:=zxM l f C L.inn L.ne (zdJ<|address<|gOf h m g) (gOf h m g).A;rw[L.op.like.seen m] at v;cases w with|true=>rw[cond_true];have r:=L.op.sim S m;have p:hasB m (ln ({ (lookOf h h.Buffer m g (zbo<|address<|gOf h m g) (zcc true) false).1 with Memory:=zbQ (lookOf h h.Buffer m g (zbo<|address<|gOf h m g) (zcc true) false).1.Memory (lookOf h h.Buffer m g (zbo<|address<|gOf h m g) (zcc true) false).2.1 (zdJ<|address<|gOf h m g) (gOf h m g).A}:Host).Mons)=true:=f;have d:hasB g (ln (ix ({ (lookOf h h.Buffer m g (zbo<|address<|gOf h m g) (zcc true) false).1 with Memory:=zbQ (lookOf h h.Buffer m g (zbo<|address<|gOf h m g) (zcc true) false).1.Memory (lookOf h h.Buffer m g (zbo<|address<|gOf h m g) (zcc true) false).2.1 (zdJ<|address<|gOf h m g) (gOf h m g).A}:Host).Mons m mZ).Guests)=true:=(by show hasB g (ln (ix (lookOf h h.Buffer m g (zbo<|address<|gOf h m g) (zcc true) false).1.Mons m mZ).Guests)=true;rw[a];exact hg);have s:GKeep (gOf { (lookOf h h.Buffer m g (zbo<|address<|gOf h m g) (zcc true) false).1 with Memory:=zbQ (lookOf h h.Buffer m g (zbo<|address<|gOf h m g) (zcc true) false).1.Memory (lookOf h h.Buffer m g (zbo<|address<|gOf h m g) (zcc true) false).2.1 (zdJ<|address<|gOf h m g) (gOf h m g).A} m g) (zca<|gOf h m g):=(by have:gOf { (lookOf h h.Buffer m g (zbo<|address<|gOf h m g) (zcc true) false).1 with Memory:=zbQ (lookOf h h.Buffer m g (zbo<|address<|gOf h m g) (zcc true) false).1.Memory (lookOf h h.Buffer m g (zbo<|address<|gOf h m g) (zcc true) false).2.1 (zdJ<|address<|gOf h m g) (gOf h m g).A} m g=gOf h m g:=(by show ix (ix (lookOf h h.Buffer m g (zbo<|address<|gOf h m g) (zcc true) false).1.Mons m mZ).Guests g gZ=_;rw[a];rfl);rw[this];exact zkN X);refine((r.trans u).trans (zrW u.safe p d s)).congr ?_;unfold zjb;rw[c];rfl|false=>rw[cond_false];have r:=L.op.sim S m;have d:hasB g (ln (ix (lookOf h h.Buffer m g (zbo<|address<|gOf h m g) (zcc false) false).1.Mons m mZ).Guests)=true:=(by rw[a];exact hg);have s:GKeep (gOf (lookOf h h.Buffer m g (zbo<|address<|gOf h m g) (zcc false) false).1 m g) (loaded (gOf h m g)<|cellAt (lookOf h h.Buffer m g (zbo<|address<|gOf h m g) (zcc false) false).1.Memory (lookOf h h.Buffer m g (zbo<|address<|gOf h m g) (zcc false) false).2.1<|zdJ<|address<|gOf h m g):=(by have:gOf (lookOf h h.Buffer m g (zbo<|address<|gOf h m g) (zcc false) false).1 m g=gOf h m g:=(by show ix (ix (lookOf h h.Buffer m g (zbo<|address<|gOf h m g) (zcc false) false).1.Mons m mZ).Guests g gZ=_;rw[a];rfl);rw[this];exact z5b X (z6X l.ok.pgs _ _));refine(r.trans<|zrW l f d s).congr ?_;unfold zjb;rw[c,v];rfl
def z7V {h r:Host}{m g:Int}(e:(ix r.Mons m mZ).Guests=(ix h.Mons m mZ).Guests):gOf r m g=gOf h m g:=by unfold gOf;rw[e]
def zbcb (h:Host)(m:Int)(a:hasB m (ln h.Mons)=true):(ix (owned h m).Mons m mZ).Guests=(ix h.Mons m mZ).Guests:=by unfold owned;cases ilt (ix h.Mons m mZ).Own 1000000000 with|false=>rfl|true=>show (ix (up h.Mons m _) m mZ).Guests=_;rw[zbm a]
def z8s (h:Host)(m n:Int)(a:hasB m (ln h.Mons)=true):(ix (ziG h m n).Mons m mZ).Guests=(ix h.Mons m mZ).Guests:=by unfold ziG;cases ilt (ln (ix h.Mons m mZ).Outs) 40 with|false=>rfl|true=>show (ix (up h.Mons m _) m mZ).Guests=_;rw[zbm a]
def z6r {h:Host}(S:Safe h){m:Int}(a:hasB m (ln h.Mons)=true)(x:Guest)(w:Int):SimT h (zeT h m x w) m id/\(ix (zeT h m x w).Mons m mZ).Guests=(ix h.Mons m mZ).Guests:=by unfold zeT;cases (cond (ine w 6) (ieq (znG (ix h.Mons m mZ).Traps x.Ctl.Traps<|zfX w) 2) false) with|false=>exact⟨SimT.refl S m,rfl⟩|true=>exact⟨z6p S a,zbcb h m a⟩
def z6q {h:Host}(S:Safe h){m:Int}(a:hasB m (ln h.Mons)=true)(x:Guest)(w:Int):SimT h (zhe h m x w) m (λb=>bif (cond (zhz x.Ctl.Traps w) (ieq w 5) false) then ziJ b (zcp x.Prog x.Pc).X else b)/\(ix (zhe h m x w).Mons m mZ).Guests=(ix h.Mons m mZ).Guests:=by unfold zhe;cases (cond (zhz x.Ctl.Traps w) (ieq w 5) false) with|false=>exact⟨SimT.refl S m,rfl⟩|true=>exact⟨z3z S a _,z8s h m _ a⟩
def zFo {h:Host}(S:Safe h){m g:Int}(d:hasB m (ln h.Mons)=true)(hg:hasB g (ln (ix h.Mons m mZ).Guests)=true){w:Int}(l:zN (gOf h m g)=w) :
 SimT h (zlc h m g (gOf h m g) w) m (λb=>znA b g (gOf h m g) w):=by
 have X:=S.ok.seenG d hg;obtain⟨f,j⟩:=z6r S d (gOf h m g) w;have a:hasB m (ln (zeT h m (gOf h m g) w).Mons)=true:=by rw[f.has];exact d
 obtain⟨i,k⟩:=z6q f.safe a (gOf h m g) w;have e:hasB m (ln (zhe (zeT h m (gOf h m g) w) m (gOf h m g) w).Mons)=true:=by rw[i.has];exact a
 have c:hasB g (ln (ix (zhe (zeT h m (gOf h m g) w) m (gOf h m g) w).Mons m mZ).Guests)=true:=by rw[k,j];exact hg
 have n:GKeep (gOf (zhe (zeT h m (gOf h m g) w) m (gOf h m g) w) m g) (zfY (gOf h m g) (gOf h m g).Ctl.Traps w):=by rw[z7V<|k.trans j];exact z7W X _ l
 exact((f.trans i).trans (zrW i.safe e c n)).congr rfl
def z3L (x:Guest):zN x=0\/zN x=1\/zN x=2\/zN x=3\/zN x=4\/zN x=5\/zN x=6\/zN x=7:=by unfold zN zzr;cases canRun x<;>cases zjP x<;>cases ieq (zcp x.Prog x.Pc).Op 3<;>cases ieq (zcp x.Prog x.Pc).Op 4<;>cases ieq (zcp x.Prog x.Pc).Op 5<;>cases ieq (zcp x.Prog x.Pc).Op 6<;>cases ieq (zcp x.Prog x.Pc).Op 7<;>simp
def zVk {h:Host}(H:HOk h)(m g:Int):zfN (zK h m) g=bif zbZ h m g then !ieq (zN<|gOf h m g) 0 else false:=by unfold zfN zbZ;rw[zj5.2 H,cond_true];cases a:hasB m (ln h.Mons) with|false=>have:(zK h m).Guests=[]:=(by unfold zK;rw[a];rfl);rw[this,z0J];rfl|true=>rw[cond_true,zz5 H a,cond_true];have:(zK h m).Guests=(ix h.Mons m mZ).Guests:=(by rw[zgd a]);rw[this];(cases hg:hasB g (ln (ix h.Mons m mZ).Guests) with|false=>rfl|true=>rw[cond_true,cond_true,zvr a hg])
def step_ok {h:Host}(S:Safe h)(m g:Int):SimT h (zbv h m g).1 m (λb=>zeG b g)/\(zbv h m g).2=zfN (zK h m) g:=by
 have a:=zVk S.ok m g;unfold zbv;cases i:zbZ h m g with
 |false=>rw[i,cond_false]at a;refine⟨(SimT.refl S m).congr ?_,a.symm⟩;unfold zeG;rw[a];rfl
 |true=>rw[i,cond_true]at a;rw[cond_true];obtain⟨_,c,hg⟩:=zlg.1 i;have X:=S.ok.seenG c hg;have f:=zvr c hg;have d:∀w,zN (gOf h m g)=w->w≠0->zeG (zK h m) g=stepped (zK h m) g (gOf h m g) w:=(by intro w j k;unfold zeG;rw[a,j,zb9.2 k,f,j];rfl);rcases z3L (gOf h m g) with e|e|e|e|e|e|e|e;{rw [e];rw[e]at a;refine⟨(SimT.refl S m).congr ?_,a.symm⟩;unfold zeG;rw[a];rfl};{rw [e]at a ⊢;exact⟨(zrW S c hg<|zOW X).congr (d 1 e (by decide)).symm,a.symm⟩};{rw [e]at a ⊢;exact⟨(zrW S c hg<|z2i X).congr (d 2 e (by decide)).symm,a.symm⟩};{rw [e]at a ⊢;exact⟨(zX5 S c hg false e).congr (d 3 e (by decide)).symm,a.symm⟩};{rw [e]at a ⊢;exact⟨(zX5 S c hg true e).congr (d 4 e (by decide)).symm,a.symm⟩};{rw [e]at a ⊢;exact⟨(zFo S c hg e).congr (d 5 e (by decide)).symm,a.symm⟩};{rw [e]at a ⊢;exact⟨(zFo S c hg e).congr (d 6 e (by decide)).symm,a.symm⟩};{rw [e]at a ⊢;exact⟨(zFo S c hg e).congr (d 7 e (by decide)).symm,a.symm⟩}
structure BackOk (b c:Bare):Prop where
 m:c.Memory=b.Memory
 o:c.Outs=b.Outs
 n:c.Guests.length=b.Guests.length
 g:∀j,hasB j (ln b.Guests)=true->GKeep (ix b.Guests j gZ) (ix c.Guests j gZ)
 p:zdU b.Pending=true->zdU c.Pending=true
def z8M {h:Host}(S:Safe h){m:Int}(b:hasB m (ln h.Mons)=true){c:Bare}(k:BackOk (zK h m) c):SimT h (zdA h m c) m (λ_=>c):=by have X:=S.ok.mon b;have f:=zgd b;have d:(zK h m).Guests=(ix h.Mons m mZ).Guests:=(by rw[f]);have l:c.Guests.length=(ix h.Mons m mZ).Guests.length:=(by rw[k.n,d]);have hg:∀j,hasB j (ln (ix h.Mons m mZ).Guests)=true->GKeep (ix (ix h.Mons m mZ).Guests j gZ) (ix c.Guests j gZ):=λj a=>(by have:=k.g j (by rw[d];exact a);rwa [d] at this);have kp:KeepP (ix h.Mons m mZ) (zwH (ix h.Mons m mZ) c):=⟨rfl,rfl⟩;have s:zdU c.Pending=true:=k.p (by rw[f];exact X.pend);refine⟨zxL S b kp (zmf X kp l rfl rfl X.outs s X.tr X.own λz t=>?_) l (λj a=>(hg j a).live) rfl,λi=>?_,zbV _ _ _⟩;{obtain⟨j,a,rfl⟩:=zER t gZ;exact zuT.2 (hg j (by unfold ln at a ⊢;rw[<- l];exact a)).ok};{refine(zwk (h:=h) (r:=zdA h m c) b rfl rfl kp i).trans ?_;by_cases e:i=m;{subst e;rw[zbB.2 rfl,cond_true,cond_true];show Bare.mk (zK h i).Memory c.Guests (ix h.Mons i mZ).Outs c.Pending=c;have u:=k.m;have q:=k.o;rw[f]at q;cases c;simp_all};{rw [zb9.2 e];rfl}}
def seen_none {h:Host}{m:Int}(a:hasB m (ln h.Mons)=false):zK h m=⟨[],[],[],0⟩:=by unfold zK;rw[a];rfl
def zuZ:zbY ⟨[],[],[],0⟩=false:=by decide
def zvg {b:Bare}(h:zbY b=false)(g:Int):zct b g=false:=by unfold zct;rw[h];rfl
def zjg {b:Bare}(h:zbY b=true):BackOk b b:=⟨rfl,rfl,rfl,λj a=>⟨zuT.1 (by
 unfold zbY at h;rw[zb7,qM]at h;exact h.1 _ (zlO a _)),rfl⟩,id⟩
def z3Z {b:Bare}(h:zbY b=true){g:Int}(hg:hasB g (ln b.Guests)=true){y:Guest}(k:GKeep (gAt b g) y):BackOk b (zd3 b g y):=by have e:gAt b g=ix b.Guests g gZ:=(by unfold gAt;rw[hg];rfl);refine⟨rfl,rfl,zbV _ _ _,λj c=>?_,id⟩;show GKeep _ (ix (up b.Guests g y) j gZ);by_cases a:g=j;{subst a;rw[zbm hg,<- e];exact k};{rw [zbD (zG.1 hg).1 (zG.1 c).1 a];exact(zjg h).g j c}
def zs3 {b:Bare}(h:zbY b=true){g:Int}{c:Bool}{y:Guest}(k:hasB g (ln b.Guests)=true->c=true->GOk (gAt b g)->GKeep (gAt b g) y):BackOk b (chg b g c y):=by unfold chg zct;rw[h,cond_true];cases hg:hasB g (ln b.Guests) with|false=>exact zjg h|true=>rw[cond_true];(cases c with|false=>exact zjg h|true=>refine z3Z h hg (k hg rfl ?_);have:=(zjg h).g g hg;unfold gAt;rw[hg];exact this.ok)
def zrI {h:Host}(S:Safe h)(m:Int){F:Bare->Bare}(d:∀b,zbY b=true->BackOk b (F b))(c:F ⟨[],[],[],0⟩=⟨[],[],[],0⟩):SimT h (zi0 h m<|F<|zK h m) m F:=by unfold zi0 zc9;rw[zj5.2 S.ok,cond_true];cases a:hasB m (ln h.Mons) with|false=>refine(SimT.refl S m).congr ?_;rw[seen_none a];exact c.symm|true=>exact(z8M S a<|d _<|zz5 S.ok a).congr rfl
def zmq {h:Host}(S:Safe h)(m:Int){t:Bare->Bool}(a:t ⟨[],[],[],0⟩=false):zhw h m (t<|zK h m)=t (zK h m):=by unfold zhw zc9;rw[zj5.2 S.ok,cond_true];cases b:hasB m (ln h.Mons) with|false=>rw[cond_false,seen_none b,a]|true=>rfl
def zro (g:Int)(c:Bool)(y:Guest):chg ⟨[],[],[],0⟩ g c y=⟨[],[],[],0⟩:=by unfold chg;rw[zvg zuZ];rfl
def zkK (g:Int)(c:Bool):zcu ⟨[],[],[],0⟩ g c=false:=by unfold zcu;rw[zvg zuZ];rfl
def zX8 {t:List Slot}{n q:Int}(h:zdj t n q=true){p:Int}{s:Slot}(b:zen s q=true):zdj (ze7 t p s) n q=true:=by
 unfold ze7;cases hasB p (ln t) with
 |false=>exact h
 |true=>rw[cond_true];rw[zsW]at h ⊢;rw[zem];refine⟨λx c=>?_,h.2⟩;rcases qX c with a|a;{exact h.1 x a};{rw [a];exact b}
def zbbQ {x:Guest}(X:GOk x){p:Int}{s:Slot}(h:zyu p s=true):GKeep x (zFm x p s):=by unfold zyu at h;rw[zb7]at h;exact⟨⟨X.prog,X.a,X.pc,zX8 X.w h.2,X.l,X.ctl,X.pend,X.ex,X.seen⟩,rfl⟩
def zbbN {x:Guest}(X:GOk x){v:Int}(h:zx3 x v=true):GKeep x (zAo x v):=by unfold zx3 at h;rw[zb7]at h;unfold zAo;cases ieq x.Exit.Kind 2 with|true=>rw[cond_true];have b:=zkO (z2g X h.1) (e:=zmj) rfl;have a:=zkN b.ok;exact⟨a.ok,a.live⟩|false=>rw[cond_false];have b:=zkO X (e:=zmj) rfl;have a:=zkN b.ok;exact⟨a.ok,a.live.trans b.live⟩
def zbbP {x:Guest}(X:GOk x):GKeep x (zBe x):=by unfold zBe;have a:=zkO X (e:=zmj) rfl;cases ieq x.Exit.Kind 1 with|true=>exact a|false=>have b:=z0A a.ok;exact⟨b.ok,b.live.trans a.live⟩
def z0B {x:Guest}(X:GOk x)(n:Int):GKeep x (zpN x n):=z0C X (zSM X.pend n)
def zbbO {x:Guest}(X:GOk x){c:Ctl}(h:zmV c=true):GKeep x (zOP x c):=⟨⟨X.prog,X.a,X.pc,X.w,X.l,h,X.pend,X.ex,X.seen⟩,rfl⟩
def zDP (n:Int):∀(d:LI) (b:Bare) (l:List Guest),(∀k∈d,hasB k (ln b.Guests)=true)->BackOk b {b with Guests:=l}->BackOk b {b with Guests:=zm9 n d l}
 |[],b,l,_,h=>h
 |k::d,b,l,q,h=>by show BackOk b {b with Guests:=zm9 n d (zF3 n l k)};refine zDP n d b _ (λj a=>q j (qY _ a)) ⟨h.m,h.o,by show (up l k _).length=_;rw[zbV];exact h.n,λj a=>?_,h.p⟩;show GKeep _ (ix (up l k _) j gZ);have r:l.length=b.Guests.length:=h.n;have c:hasB k (ln l)=true:=(by unfold ln;rw[r];exact q k jA);by_cases e:k=j;{subst e;rw[zbm c];have f:=h.g k a;have i:=z0B f.ok n;exact⟨i.ok,i.live.trans f.live⟩};{rw [zbD (zG.1 c).1 (zG.1 a).1 e];exact h.g j a}
def z1y {b:Bare}(h:zbY b=true)(n:Int):BackOk b (zlQ b n):=by
 unfold zlQ zgw zF4;rw[h,cond_true];cases hasB n 8 with
 |false=>exact zjg h
 |true=>
  rw[cond_true];cases ieq (ln<|ze0 b.Guests n) 0 with
  |true=>have:=zjg h;exact⟨rfl,rfl,rfl,this.g,λc=>zSM c n⟩
  |false=>rw[cond_false];refine zDP n _ b b.Guests (λk a=>?_) (zjg h);unfold ze0 at a;obtain⟨j,e,rfl,_⟩:=(zJU (d:=gZ)).1 a;exact zG.2 ⟨by omega,by unfold ln;omega⟩
def z3Y {b:Bare}(h:zbY b=true):BackOk b (zoG b):=by unfold zoG;rw[h,cond_true];exact⟨rfl,rfl,rfl,(zjg h).g,λa=>zSN a⟩
def z8A {h:Host}(S:Safe h)(m p c v:Int):SimT h (zoP h m p c v) m (λb=>zUQ b p c v)/\zgk h m p c v=zzt (zK h m) p c v:=by have e:zgk h m p c v=zzt (zK h m) p c v:=(by unfold zgk zzt zcW zbaX;rw[zj5.2 S.ok,cond_true];cases d:hasB m (ln h.Mons) with|false=>rw[seen_none d,zuZ];rfl|true=>rw[zz5 S.ok d,cond_true];rfl);refine⟨?_,e⟩;unfold zoP;cases f:zgk h m p c v with|false=>refine(SimT.refl S m).congr ?_;unfold zUQ;rw[<- e,f];rfl|true=>rw[cond_true];have a:=f;unfold zgk at a;rw[zb7,zb7]at a;obtain⟨k,_,_⟩:=a;obtain⟨_,d,j⟩:=zp1.1 k;have M:=zSF S.ok (m:=m) (p:=p) 2 d j;have i:=M.op.sim S m;have g:hasB m (ln (mended h m p 2).Mons)=true:=(by rw[i.has];exact d);obtain⟨l,_⟩:=zxM i.safe g j rfl M.inn c v;refine(i.trans l).congr ?_;unfold zUQ;rw[<- e,f];rfl
def z5y {h:Host}(S:Safe h)(m g b a:Int):zb5 h m g b a=(cond (zct (zK h m) g) (cond (zgK a) (ze6 (gAt (zK h m) g).Live b a) false) false):=by have e:zbZ h m g=zct (zK h m) g:=(by unfold zbZ zct;rw[zj5.2 S.ok,cond_true];cases c:hasB m (ln h.Mons) with|false=>rw[seen_none c,zuZ,cond_false,cond_false]|true=>rw[cond_true,zz5 S.ok c,cond_true];have:(zK h m).Guests=(ix h.Mons m mZ).Guests:=(by rw[zgd c]);rw[this]);unfold zb5;rw[<- e];cases hg:zbZ h m g with|false=>rw[cond_false,cond_false]|true=>obtain⟨_,c,hg⟩:=zlg.1 hg;have:(gAt (zK h m) g).Live=zcB h m g:=(by rw[zvr c hg];rfl);rw[this]
def zI6 {h:Host}(S:Safe h)(m g a n:Int)(b:n=1\/n=2):zpF (zK h m) g a n=bif zk a 0 15 then zb5 h m g (zbo a) n else false:=by rw[z5y S];unfold zpF;rw[zH4.2 b,cond_true];cases zct (zK h m) g<;>cases zk a 0 15<;>rfl
def zVI {h:Host}(S:Safe h){m g a n:Int}(f:n=1\/n=2)(b:zpF (zK h m) g a n=true) :
 Looked h (zEw h m g a n).1 m g (zbo a) n (zFM (zK h m) g a n) (zEw h m g a n).2.1/\hasB m (ln h.Mons)=true/\hasB (zFM (zK h m) g a n) 8=true:=by
 rw[zI6 S m g a n f,zb7]at b;obtain⟨L,_⟩:=zSy S true b.2 S.rt.e2;obtain⟨d,_,i⟩:=zsj.1 b.2;obtain⟨_,c,hg⟩:=zlg.1 d;have e:zFM (zK h m) g a n=zco (zcB h m g) (zbo a) n:=by unfold zFM;rw[zvr c hg];rfl
 rw[e];exact⟨L,c,(walked (S.ok.guest c hg) i).q8⟩
def zbc5 {h:Host}(S:Safe h)(m g a v:Int):SimT h (zrA h m g a v) m (λb=>z1Y b g a v)/\zh1 h m g a v=zAC (zK h m) g a v:=by have e:zh1 h m g a v=zAC (zK h m) g a v:=(by unfold zh1 zAC;rw[zI6 S m g a 2 (.inr rfl)];cases zk a 0 15<;>cases zk v 0 99<;>cases zb5 h m g (zbo a) 2<;>rfl);refine⟨?_,e⟩;unfold zrA;cases c:zh1 h m g a v with|false=>refine(SimT.refl S m).congr ?_;unfold z1Y;rw[<- e,c];rfl|true=>rw[cond_true];have f:zpF (zK h m) g a 2=true:=(by have:=e.symm.trans c;unfold zAC at this;exact(zb7.1 this).1);obtain⟨L,i,j⟩:=zVI S (.inr rfl) f;have d:=L.op.sim S m;obtain⟨k,_⟩:=zxM d.safe (by rw[d.has];exact i) j L.inn L.ne (zdJ a) v;refine(d.trans k).congr ?_;unfold z1Y;rw[<- e,c];rfl
def zbcd {h:Host}(S:Safe h)(m g a:Int):SimT h (zoQ h m g a) m id/\zgY h m g a=zpF (zK h m) g a 1/\zth h m g a=zUU (zK h m) g a:=by have e:zgY h m g a=zpF (zK h m) g a 1:=(by unfold zgY;rw[zI6 S m g a 1 (.inl rfl)]);unfold zoQ zth zUU;rw[e];cases d:zpF (zK h m) g a 1 with|false=>exact⟨SimT.refl S m,rfl,rfl⟩|true=>obtain⟨L,f,i⟩:=zVI S (.inl rfl) d;have b:=L.op.sim S m;obtain⟨_,c⟩:=zxM b.safe (by rw[b.has];exact f) i L.inn L.ne (zdJ a) 0;rw[L.op.like.seen m] at c;exact⟨b,rfl,c⟩
def z5k {k:Kept}{a b:List Slot}(h:KOk k a b)(p:Int)(s:Slot):KOk (zb8 k p) (ze7 a p s) b:=by have j:=zl7 k p;have f:(ze7 a p s).length=a.length:=(by unfold ze7;cases hasB p (ln a)<;>simp [zbV]);refine⟨by rw[j.1,f,h.l1],by rw[j.2,f,h.l2],λi l=>?_⟩;have c:hasB i (ln a)=true:=(by unfold ln at l ⊢;rwa [<- f]);have d:hasB i (ln k.Known)=true:=(by unfold ln at c ⊢;rwa [h.l1]);have g:=zx9 (q:=p) (by rw[h.l1,h.l2]) d;rw[g.1,g.2];by_cases e:p=i;{subst e;rw[zbB.2 rfl];rfl};{rw [zb9.2 e,cond_false,cond_false,h.at' i c];have:ix (ze7 a p s) i sZ=ix a i sZ:=(by unfold ze7;cases m:hasB p (ln a) with|false=>rfl|true=>exact zbD (zG.1 m).1 (zG.1 c).1 e _ _);rw[this]}
def zbdB {t m g:Int}(a:zcR t=m)(b:zdx t=g)(c:0<=m):t=zes m g:=by subst a;subst b;by_cases h:1<=t/\t<=6;{have e:t=1\/t=2\/t=3\/t=4\/t=5\/t=6:=(by omega);rcases e with rfl|rfl|rfl|rfl|rfl|rfl<;>decide};{exfalso;have:zcR t = -1:=(by unfold zcR ige ile;rw[show (decide (t≥1)&&decide (t<=6))=false by simp;omega];rfl);omega}
def zZ7 {t:List Slot}{p q:Int}{s:Slot}(h:q≠p):zbE (ze7 t p s) q=zbE t q:=by unfold ze7;cases a:hasB p (ln t) with|false=>rfl|true=>exact zSY (zG.1 a).1 h
def z8N {t:List Slot}(h:zdj t 4 8=true)(p:Int):zen (zbE t p) 8=true:=by unfold zbE;cases a:hasB p (ln t) with|false=>rfl|true=>exact(zsW.1 h).1 _ (zlO a _)
def z5a {x:Guest}(X:GOk x)(p:Int):GOk (zet x p):=⟨X.prog,X.a,X.pc,X.w,zX8 X.l<|z8N X.w p,X.ctl,X.pend,X.ex,X.seen⟩
def z7T {h:Host}(S:Safe h)(m g p:Int):SimT h (zl9 h m g p) m (λb=>chg b g (hasB p 4) (zet (gAt b g) p))/\zhw h m (zcu (zK h m) g<|hasB p 4)=zcu (zK h m) g (hasB p 4):=by
 refine⟨?_,zmq S m (t:=λb=>zcu b g (hasB p 4))<|zkK g _⟩;unfold zl9 zc9;rw[zj5.2 S.ok,cond_true];cases a:hasB m (ln h.Mons) with
 |false=>refine(SimT.refl S m).congr ?_;rw[seen_none a,zro];rfl
 |true=>
  rw[cond_true];cases w:zcu (zK h m) g (hasB p 4) with
  |false=>refine(SimT.refl S m).congr ?_;show zK h m=chg (zK h m) g (hasB p 4) (zet (gAt (zK h m) g) p);have c:=w;unfold zcu at c;unfold chg;rw[c];rfl
  |true=>rw[cond_true];have c:=w;unfold zcu zct at c;rw[zz5 S.ok a,cond_true,zb7,zgd a]at c;have hg:hasB g (ln (ix h.Mons m mZ).Guests)=true:=c.1;have X:=S.ok.mon a;have G:=S.ok.seenG a hg;have C:chg (zK h m) g (hasB p 4) (zet (gAt (zK h m) g) p)=zd3 (zK h m) g (zet (gOf h m g) p):=(by have l:=w;unfold zcu at l;unfold chg;rw[l,zvr a hg];rfl);rw[C];have B:hasB g (ln (ix h.Mons m mZ).Tables)=true:=(by unfold ln;rw[X.gt];exact hg);have s:(zD7 (zdA h m<|zd3 (zK h m) g<|zet (gOf h m g) p) m g p).Mons=up h.Mons m {ix h.Mons m mZ with Guests:=up (ix h.Mons m mZ).Guests g (zet (gOf h m g) p),Tables:=up (ix h.Mons m mZ).Tables g (zb8 (ix (ix h.Mons m mZ).Tables g kZ) p)}:=(by show up (up h.Mons m _) m _=_;rw[z6G];have D:ix (zdA h m<|zd3 (zK h m) g<|zet (gOf h m g) p).Mons m mZ=zwH (ix h.Mons m mZ) (zd3 (zK h m) g<|zet (gOf h m g) p):=zbm a _ _;rw[D];unfold zwH zd3;rw[zgd a]);have kp:KeepP (ix h.Mons m mZ) {ix h.Mons m mZ with Guests:=up (ix h.Mons m mZ).Guests g (zet (gOf h m g) p),Tables:=up (ix h.Mons m mZ).Tables g (zb8 (ix (ix h.Mons m mZ).Tables g kZ) p)}:=⟨rfl,rfl⟩;have K:MOk {ix h.Mons m mZ with Guests:=up (ix h.Mons m mZ).Guests g (zet (gOf h m g) p),Tables:=up (ix h.Mons m mZ).Tables g (zb8 (ix (ix h.Mons m mZ).Tables g kZ) p)}:=zmf X kp (zbV _ _ _) (zbV _ _ _) rfl X.outs X.pend X.tr X.own λz L=>(by rcases qX L with h|h;{exact X.gs z h};{rw [h];exact zuT.2 (z5a G p)});have E:HOk (zD7 (zdA h m<|zd3 (zK h m) g<|zet (gOf h m g) p) m g p):=S.ok.up a K s S.ok.m12 S.ok.pgs (zAs S.ok.b1 _) (zAs S.ok.b2 _) λq _=>.inl (qZ _);have u:∀b:List Entry,(∀e∈b,zcM h e=true)->∀e∈zcY b (zes m g) p,zcM (zD7 (zdA h m<|zd3 (zK h m) g<|zet (gOf h m g) p) m g p) e=true:=(by intro b F e H;obtain⟨x,y⟩:=zAF.1 H;obtain⟨l,n,r⟩:=zgA.1 (F e x);rw[zgA,s,zem];refine⟨l,?_⟩;by_cases d:m=zcR e.Tag;{rw [<- d]at l n r ⊢;rw[zbm a];show hasB (zdx e.Tag) (ln<|up _ _ _)=true/\below' _ (zbx (zbE (ix (up (ix h.Mons m mZ).Guests g _) (zdx e.Tag) gZ).Live e.Page) (ix h.Mons m mZ).Outer)=true;rw[zem];refine⟨n,?_⟩;by_cases f:g=zdx e.Tag;{rw [<- f]at n r ⊢;rw[zbm hg];have A:e.Page≠p:=λJ=>y ⟨zbdB d.symm f.symm (zG.1 a).1,J⟩;show below' _ (zbx (zbE (ze7 (gOf h m g).Live p _) e.Page) _)=true;rw[zZ7 A];exact r};{rw [zbD (zG.1 hg).1 (zG.1 n).1 f];exact r}};{rw [zbD (zG.1 a).1 (zG.1 l).1 d];exact⟨n,r⟩});refine⟨⟨E,⟨λi v=>?_,u _ S.rt.e1,u _ S.rt.e2⟩⟩,λi=>?_,by rw[s,zbV]⟩;{rw [s]at v ⊢;rw[zem]at v;by_cases d:m=i;{subst d;rw[zbm a];intro j I;show KOk (ix (up (ix h.Mons m mZ).Tables g _) j kZ) (ix (up (ix h.Mons m mZ).Guests g _) j gZ).Live (ix h.Mons m mZ).Outer;have k:hasB j (ln (ix h.Mons m mZ).Guests)=true:=(by have:hasB j (ln<|up (ix h.Mons m mZ).Guests g<|zet (gOf h m g) p)=true:=I;rwa [zem] at this);by_cases e:g=j;{subst e;rw[zbm B,zbm hg];exact z5k (S.rt.t m a g hg) p _};{rw [zbD (zG.1 hg).1 (zG.1 k).1 e,zbD (zG.1 hg).1 (zG.1 k).1 e];exact S.rt.t m a j k}};{rw [zbD (zG.1 a).1 (zG.1 v).1 d];exact S.rt.t i v}};{refine(zwk (h:=h) a s rfl kp i).trans ?_;by_cases e:i=m;{subst e;rw[zbB.2 rfl,cond_true,cond_true,C,zgd a];rfl};{rw [zb9.2 e];rfl}}
def zS8 (g:Int):zeG ⟨[],[],[],0⟩ g=⟨[],[],[],0⟩/\zfN ⟨[],[],[],0⟩ g=false:=by have:zfN ⟨[],[],[],0⟩ g=false:=(by unfold zfN;rw[z0J];rfl);refine⟨?_,this⟩;unfold zeG;rw[this];rfl
def z7Y {h:Host}(S:Safe h)(a:GAct):SimT h (zvG h a) a.M (λb=>zLI b a)/\zEu h a=zLJ (zK h a.M) a:=by
 have f:=zuZ;unfold zvG zEu zLI zLJ;cases ieq a.Kind 1 with
 |true=>obtain⟨k,e⟩:=step_ok S a.M a.G;exact⟨k,by rw[cond_true,cond_true,e]⟩
 |false=>
  simp only[cond_false];cases ieq a.Kind 2 with
  |true=>
   exact⟨zrI S a.M (F:=λb=>chg b a.G (zyu a.X ⟨a.Y,a.Z⟩) (zFm (gAt b a.G) a.X ⟨a.Y,a.Z⟩)) (λb c=>zs3 c λ_ d G=>zbbQ G d)<|zro _ _ _,
    congrArg (λt=>Told.mk t 0) (zmq S a.M (t:=λb=>zcu b a.G (zyu a.X ⟨a.Y,a.Z⟩))<|zkK _ _)⟩
  |false=>
   simp only[cond_false];cases ieq a.Kind 3 with
   |true=>obtain⟨k,e⟩:=z7T S a.M a.G a.X;exact⟨k,congrArg (λt=>Told.mk t 0) e⟩
   |false=>
    simp only[cond_false];cases ieq a.Kind 4 with
    |true=>
     exact⟨zrI S a.M (F:=λb=>chg b a.G (zx3 (gAt b a.G) a.X) (zAo (gAt b a.G) a.X)) (λb c=>zs3 c λ_ d G=>zbbN G d)<|zro _ _ _,
      congrArg (λt=>Told.mk t 0) (zmq S a.M (t:=λb=>zcu b a.G (zx3 (gAt b a.G) a.X))<|zkK _ _)⟩
    |false=>
     simp only[cond_false];cases ieq a.Kind 5 with
     |true=>
      exact⟨zrI S a.M (F:=λb=>chg b a.G (zE1<|gAt b a.G) (zBe<|gAt b a.G)) (λb c=>zs3 c λ_ _ G=>zbbP G)<|zro _ _ _,
       congrArg (λt=>Told.mk t 0) (zmq S a.M (t:=λb=>zcu b a.G (zE1<|gAt b a.G))<|zkK _ _)⟩
     |false=>
      simp only[cond_false];cases ieq a.Kind 6 with
      |true=>
       exact⟨zrI S a.M (F:=λb=>chg b a.G (ziI (gAt b a.G).Pending a.X) (zpN (gAt b a.G) a.X)) (λb c=>zs3 c λ_ _ G=>z0B G _)<|zro _ _ _,
        congrArg (λt=>Told.mk t 0) (zmq S a.M (t:=λb=>zcu b a.G (ziI (gAt b a.G).Pending a.X))<|zkK _ _)⟩
      |false=>
       simp only[cond_false];cases ieq a.Kind 7 with
       |true=>
        exact⟨zrI S a.M (F:=λb=>chg b a.G (zmV ⟨a.X,a.Y,ieq a.Z 1⟩) (zOP (gAt b a.G) ⟨a.X,a.Y,ieq a.Z 1⟩)) (λb c=>zs3 c λ_ d G=>zbbO G d)<|zro _ _ _,
         congrArg (λt=>Told.mk t 0) (zmq S a.M (t:=λb=>zcu b a.G (zmV ⟨a.X,a.Y,ieq a.Z 1⟩))<|zkK _ _)⟩
       |false=>
        simp only[cond_false];cases ieq a.Kind 8 with
        |true=>obtain⟨k,e⟩:=z8A S a.M a.X a.Y a.Z;exact⟨k,congrArg (λt=>Told.mk t 0) e⟩
        |false=>
         simp only[cond_false];cases ieq a.Kind 9 with
         |true=>
          exact⟨zrI S a.M (F:=λb=>zlQ b a.X) (λb c=>z1y c _) (by unfold zlQ zgw;rw[f];rfl),
           congrArg (λt=>Told.mk t 0) (zmq S a.M (t:=λb=>zgw b a.X) (by unfold zgw;rw[f];rfl))⟩
         |false=>
          simp only[cond_false];cases ieq a.Kind 10 with
          |true=>refine⟨zrI S a.M (F:=zoG) (λb c=>z3Y c) (by unfold zoG;rw[f];rfl),?_⟩;have e:=zmq S a.M (t:=zok) (by unfold zok;rw[f];rfl);show Told.mk (zhw h a.M<|zok<|zK h a.M) (cond (zc9 h a.M) (zvf<|zK h a.M)<|-1)=⟨zok<|zK h a.M,zvf<|zK h a.M⟩;rw[e];congr 1;unfold zc9;rw[zj5.2 S.ok,cond_true];cases j:hasB a.M (ln h.Mons) with|true=>rfl|false=>rw[seen_none j];unfold zvf;rw[f];rfl
          |false=>
           simp only[cond_false];cases ieq a.Kind 11 with
           |true=>obtain⟨k,e⟩:=zbc5 S a.M a.G a.X a.Y;exact⟨k,congrArg (λt=>Told.mk t 0) e⟩
           |false=>obtain⟨k,g,i⟩:=zbcd S a.M a.G a.X;exact⟨k,by simp only[cond_false];rw[g,i]⟩
def z8t {h:Host}(S:Safe h)(a:GAct):Safe (zn4 h a)/\(∀i,zK (zn4 h a) i=zK h i)/\(zn4 h a).Mons.length=h.Mons.length:=by
 unfold zn4;have k:∀r,Op h r->Safe r/\(∀i,zK r i=zK h i)/\r.Mons.length=h.Mons.length:=λr k=>⟨k.safe S,λi=>k.like.seen i,k.like.len⟩;cases ieq a.Kind 13 with
 |true=>exact k _ (z2M S.ok _ _)
 |false=>
  simp only[cond_false];cases ieq a.Kind 14 with
  |true=>exact k _ (z5L S.ok _ _)
  |false=>
   simp only[cond_false];cases ieq a.Kind 15 with
   |true=>exact k _ (z5K S.ok _ _)
   |false=>
    simp only[cond_false];cases ieq a.Kind 16 with
    |true=>obtain⟨b,c⟩:=zUt S a.M a.X;refine⟨b,c,?_⟩;simp only[cond_true];unfold zjM;cases zb2 h<;>cases hasB a.M (ln h.Mons)<;>cases zk a.X 0 3<;>first|rfl|exact zbV _ _ _
    |false=>exact k _ (zbb9 S.ok)
def zlN (a:GAct):Bool:=bif zk a.Kind 1 17 then !zk a.Kind 13 17 else false
def z3P {h:Host}(S:Safe h)(a:GAct):Safe (zfo h a)/\(zfo h a).Mons.length=h.Mons.length/\
 (∀i,zK (zfo h a) i=bif (cond (zlN a) (ieq i a.M) false) then zLI (zK h i) a else zK h i)/\(zlN a=true->zkP h a=zLJ (zK h a.M) a):=by
 unfold zfo zkP zlN;cases zk a.Kind 1 17 with
 |false=>exact⟨S,rfl,λ_=>rfl,λe=>by cases e⟩
 |true=>
  simp only[cond_true];cases zk a.Kind 13 17 with
  |true=>obtain⟨b,c,d⟩:=z8t S a;exact⟨b,d,λi=>by simp only[cond_true,jT,cond_false];exact c i,λe=>by cases e⟩
  |false=>obtain⟨k,e⟩:=z7Y S a;exact⟨k.safe,k.len,λi=>by simp only[cond_false,jV,cond_true];exact k.seen i,λ_=>e⟩
def zed (h:Host):List Bare:=(List.range h.Mons.length).map λ(i:Nat)=>zK h (i:Int)
def zlx (h:Host):(zed h).length=h.Mons.length:=by simp[zed]
def znO (h:Host)(m:Int):hasB m (ln<|zed h)=hasB m (ln h.Mons):=by unfold ln;rw[zlx]
def zmT {h:Host}{m:Int}(c:hasB m (ln h.Mons)=true)(d:Bare):ix (zed h) m d=zK h m:=by have a:=zG.1 c;unfold ln at a;have b:m.toNat<(zed h).length:=(by rw[zlx];omega);have:=zmd b d;rw[show ((m.toNat:Nat):Int)=m by omega] at this;rw[this];simp[zed,show max m 0=m by omega]
def z1u {h r:Host}(a:r.Mons.length=h.Mons.length)(e:∀i,zK r i=zK h i):zed r=zed h:=by unfold zed;rw[a];exact List.map_congr_left λi _=>e _
def zYP {h:Host}(S:Safe h)(a:GAct):zed (zfo h a)=zLK (zed h) a/\(zlN a=true->zkP h a=z1x (zed h) a):=by obtain⟨_,k,l,t⟩:=z3P S a;have p:zlN a=true->zed (zfo h a)=(cond (hasB a.M<|ln h.Mons) (up (zed h) a.M<|zLI (zK h a.M) a)<|zed h):=(by intro b;rw[b]at l;cases f:hasB a.M (ln h.Mons) with|false=>rw[cond_false];refine zQQ ⟨[],[],[],0⟩ (by rw[zlx,zlx,k]) λi c=>?_;rw[znO]at c;rw[zmT c];have d:hasB i (ln h.Mons)=true:=(by unfold ln at c ⊢;rwa [<- k]);rw[zmT d,l i];have:ieq i a.M=false:=zb9.2 λe=>(by rw[e,f]at d;cases d);rw[this];rfl|true=>rw[cond_true];refine zQQ ⟨[],[],[],0⟩ (by rw[zbV,zlx,zlx,k]) λi c=>?_;rw[znO]at c;rw[zmT c,l i];have d:hasB i (ln h.Mons)=true:=(by unfold ln at c ⊢;rwa [<- k]);by_cases e:i=a.M;{rw [e,zbB.2 rfl,zbm (by rw[znO];exact f)];rfl};{rw [zb9.2 e,zbD (zG.1 f).1 (zG.1 d).1<|Ne.symm e,zmT d];rfl});have s:zlN a=false->zed (zfo h a)=zed h:=λb=>z1u k λi=>(by rw[l i,b];rfl);have r:zlN a=true->zk a.Kind 1 17=true/\zk a.Kind 13 17=false:=(by intro b;unfold zlN at b;cases g:zk a.Kind 1 17<;>cases j:zk a.Kind 13 17<;>rw [g,j]at b<;>first|exact⟨rfl,rfl⟩|cases b);constructor;{unfold zLK;cases b:zlN a with|true=>obtain⟨g,j⟩:=r b;rw[g,j,cond_true,cond_false,znO,p b];(cases f:hasB a.M (ln h.Mons) with|true=>rw[cond_true,cond_true,zmT f]|false=>rfl)|false=>rw[s b];unfold zlN at b;(cases g:zk a.Kind 1 17 with|false=>rfl|true=>(cases j:zk a.Kind 13 17 with|true=>rfl|false=>rw[g,j]at b;cases b))};{intro b;rw[t b];obtain⟨g,j⟩:=r b;unfold z1x;rw[g,j,cond_true,cond_false,znO];cases f:hasB a.M (ln h.Mons) with|true=>rw[cond_true,zmT f]|false=>rw[cond_false,seen_none f];have n:=(zS8 a.G).2;have q:=zuZ;unfold zLJ;simp only[n,zkK];unfold zzt zgw zok zvf zAC zUU zpF;simp only[q,zvg q,cond_false];(cases m:ieq a.Kind 10 with|true=>have:a.Kind=10:=zbB.1 m;rw[this];rfl|false=>cases ieq a.Kind 1<;>cases ieq a.Kind 2<;>cases ieq a.Kind 3<;>cases ieq a.Kind 4<;>cases ieq a.Kind 5<;>cases ieq a.Kind 6<;>cases ieq a.Kind 7<;>cases ieq a.Kind 8<;>cases ieq a.Kind 9<;>cases ieq a.Kind 11<;>rfl)}
def zM6:List GAct->List Told->List Told
 |a::l,t::ts=>bif zlN a then t::zM6 l ts else zM6 l ts
 |_,_=>[]
structure Live (u:Host×List Told) (v:List Bare×List Told):Prop where
 safe:Safe u.1
 seen:zed u.1=v.1
def zFA:List GAct->Host->List Told
 |[],_=>[]
 |a::l,h=>zkP h a::zFA l (zfo h a)
def z6F:List GAct->List Bare->List Told
 |[],_=>[]
 |a::l,b=>z1x b a::z6F l (zLK b a)
def zwQ:List GAct->Host->Host
 |[],h=>h
 |a::l,h=>zwQ l (zfo h a)
def z7P:List GAct->List Bare->List Bare
 |[],b=>b
 |a::l,b=>z7P l (zLK b a)
def z0Z:∀(l:List GAct) (u:Host×List Told),zE3 l u=(zwQ l u.1,u.2++zFA l u.1)
 |[],u=>by simp[zE3,zwQ,zFA]
 |a::l,u=>by rw[zE3,z0Z l];simp[zwQ,zFA,ap]
def z4P:∀(l:List GAct) {h:Host},Safe h->Safe (zwQ l h)/\zed (zwQ l h)=z7P l (zed h)/\zM6 l (zFA l h)=zM6 l (z6F l<|zed h)/\(zwQ l h).Mons.length=h.Mons.length
 |[],h,S=>⟨S,rfl,rfl,rfl⟩
 |a::l,h,S=>by have d:=z3P S a;have b:=zYP S a;obtain⟨e,f,c,g⟩:=z4P l d.1;refine⟨e,by show zed (zwQ l<|zfo h a)=z7P l (zLK (zed h) a);rw[f,b.1],?_,g.trans d.2.1⟩;show (cond (zlN a) _ _)=(cond (zlN a) _ _);cases i:zlN a with|false=>rw[cond_false,cond_false,c,b.1]|true=>rw[cond_true,cond_true,c,b.1,b.2 i]
def cz8 (q:Int)(b:0<=q):zwn.countP (λs=>ieq s.Page q)=0:=by rw[u4];intro s a;have:=(uN.1 a).2;rw[this];show ¬ ieq (-1) q=true;rw[zbB];omega
def zY6 {p:List Ins}(h:zdI p=true):GOk (zfJ p):=⟨h,rfl,rfl,rfl,rfl,rfl,rfl,rfl,rfl⟩
def z5F {a:List (List Ins)}(i:1<=a.length)(h:∀p∈a,zdI p=true):MOk (zhN a):=by have d:∀s∈zwn,s=noSlot:=λs c=>(uN.1 c).2;refine⟨?_,?_,?_,rfl,λs c=>.inl (d s c),rfl,rfl,jW _,rfl,rfl,rfl,λg hg=>?_,λp b=>?_⟩;{show 1<=((a.take 2).map zfJ).length;simp;omega};{show ((a.take 2).map zfJ).length<=2;simp;omega};{show ((a.take 2).map λ_=>zlC).length=((a.take 2).map zfJ).length;simp};{obtain⟨p,b,rfl⟩:=jD.1 hg;exact zuT.2 (zY6<|h p<|jU b)};{have f:=zG.1 b;have e:p=0\/p=1\/p=2\/p=3\/p=4\/p=5\/p=6\/p=7:=(by omega);rcases e with rfl|rfl|rfl|rfl|rfl|rfl|rfl|rfl<;>rfl}
def zba9 (a:List (List<|List Ins)):Prop:=1<=a.length/\∀p∈a,1<=p.length/\∀x∈p,zdI x=true
def z2l {a:List (List<|List Ins)}(h:zba9 a):Safe (zgv a):=by have b:∀x∈(zgv a).Mons,∃p∈a,x=zhN p:=λx f=>(by obtain⟨p,j,rfl⟩:=jD.1 f;exact⟨p,jU j,rfl⟩);have u:∀x∈(zgv a).Mons,x.Outer=zwn:=λx f=>(by obtain⟨p,_,rfl⟩:=b x f;rfl);have H:HOk (zgv a):=(by refine⟨rfl,λc v=>?_,?_,?_,rfl,rfl,λx f=>?_,λq B=>?_⟩;{have:c=[0,0,0,0]:=(uN.1 v).2;rw[this];rfl};{show 1<=((a.take 3).map zhN).length;have:=h.1;simp;omega};{show ((a.take 3).map zhN).length<=3;simp;omega};{obtain⟨p,j,rfl⟩:=b x f;exact z5F (h.2 p j).1 (h.2 p j).2};{have:zf0 (zgv a).Mons q=0:=(by unfold zf0;have:(zgv a).Mons.map (λx=>cPg x q)=(zgv a).Mons.map (λ_=>0):=List.map_congr_left λx f=>(by unfold cPg;rw[u x f];exact cz8 q B);rw[this];generalize (zgv a).Mons=l;induction l with|nil=>rfl|cons x l D=>rw[jB,uH,D]);omega});refine⟨H,λm A g hg=>?_,λe r=>(by cases r),λe r=>(by cases r)⟩;obtain⟨p,j,e⟩:=b _ (zlO A mZ);rw[e]at hg ⊢;have d:hasB g (ln<|(p.take 2).map zfJ)=true:=hg;have C:ix (zhN p).Tables g kZ=zlC:=(by have:hasB g (ln<|(p.take 2).map λ_=>zlC)=true:=(by unfold ln at d ⊢;simpa using d);obtain⟨k,y,_,n⟩:=zw6 this kZ;show ix ((p.take 2).map λ_=>zlC) g kZ=_;rw[n];simp);have z:(ix (zhN p).Guests g gZ).Live=zmH:=(by obtain⟨k,y,_,n⟩:=zw6 d gZ;show (ix ((p.take 2).map zfJ) g gZ).Live=_;rw[n];simp[zfJ]);rw[C,z];show KOk zlC zmH zwn;refine⟨rfl,rfl,λi w=>?_⟩;have s:=zG.1 w;have:ln zmH=4:=rfl;rw[this]at s;have t:i=0\/i=1\/i=2\/i=3:=(by omega);rcases t with rfl|rfl|rfl|rfl<;>rfl
def z08:∀(l:List GAct) (u:Host×List Told),SmH u.1->SmH (zE3 l u).1
 |[],u,h=>h
 |a::l,u,h=>z08 l (zfo u.1 a,ap u.2 [zkP u.1 a]) (z07 h)
def z8e {h:Host}(L:z1r h):Safe h/\SmH h:=by obtain⟨c,l,a,b,rfl⟩:=L;refine⟨?_,z08 _ _<|zQ7 a⟩;unfold zAS;rw[z0Z];exact(z4P _<|z2l b).1
def z4g:zY:=z4e
def zDX:zS z4g:=z4f
structure MonS (x:Mon):Prop where
 sm:zgf x
 g1:1<=x.Guests.length
 g2:x.Guests.length<=2
 t2:x.Tables.length<=2
 o8:x.Outer.length<=8
 pg:∀s∈x.Outer,I64 s.Page
 tk:∀k∈x.Tables,k.Known.length<=k.Slots.length
structure AnyH (h:Host):Prop where
 mem:SmM h.Memory
 n1:1<=h.Mons.length
 n3:h.Mons.length<=3
 mons:∀x∈h.Mons,MonS x
 b1:h.Buffer.length<=1048576
 b2:h.IoBuffer.length<=1048576
def AnyH.sm {h:Host}(k:AnyH h):SmH h:=⟨k.mem,⟨qU k.n3 (by decide),λx a=>(k.mons x a).sm⟩,k.b1,k.b2⟩
def z8H {h:Host}(S:Safe h)(sm:SmH h):AnyH h :=
 ⟨sm.1,S.ok.n1,S.ok.n3,λx a=>by
  have k:=S.ok.mons x a;refine⟨sm.2.1.2 x a,k.g1,k.g2,by rw[k.gt];exact k.g2,by rw[k.o8];exact qZ 8,λs b=>?_,λy c=>?_⟩
  .rcases k.sl s b with rfl|⟨h1,h2,_⟩
   .exact⟨by decide,by decide⟩
   .exact⟨by omega,by omega⟩
  .obtain⟨m,hm,rfl⟩:=zER a mZ;obtain⟨g,hg,rfl⟩:=zER c kZ;have:=S.rt.t m hm g (by have e:(ix h.Mons m mZ).Tables.length=(ix h.Mons m mZ).Guests.length:=k.gt;unfold ln at hg ⊢;rw[<- e];exact hg)
   rw[this.l1,this.l2];exact qZ _,sm.2.2.1,sm.2.2.2⟩
def zyV {h:Host}(k:AnyH h)(i:Int){x:Mon}(b:MonS x):AnyH {h with Mons:=up h.Mons i x} :=
 ⟨k.mem,by rw[zjk];exact k.n1,by rw[zjk];exact k.n3,λy a=>by
  rcases qX a with a|rfl
  .exact k.mons y a
  .exact b,k.b1,k.b2⟩
def zbdx {g:Guest}(h:GuS g):SmG g:=⟨qU h.1 (by decide),qU h.2.1 (by decide),qU h.2.2.1 (by decide),qU h.2.2.2 (by decide)⟩
def z8S {l:List Guest}(h:zl0 l)(i:Int){g:Guest}(hg:SmG g):zl0 (up l i g):=
 ⟨by rw[zjk];exact h.1,λy a=>by
  rcases qX a with a|rfl
  .exact h.2 y a
  .exact hg⟩
def zbct {l:List LI}(h:SmM l)(i:Int){g:LI}(hg:g.length<=1048576):SmM (up l i g):=
 ⟨by rw[zjk];exact h.1,λy a=>by
  rcases qX a with a|rfl
  .exact h.2 y a
  .exact hg⟩
def zAl (N:Nat)(c:Cur)  : OA :=
 let j:=ztu c;let r:=({ (zjL c) with b:=c.b}:Cur);let f:=j.Mons;let k:=zx r<|ln f;let m:=inb k<|ln f;let g:=ix f k zi;let q:=({ (zf r<|ln f) with b:=c.b}:Cur);let e:=zf q 24;let l:=zx q 24;let a:=({e with b:=c.b}:Cur);let n:=zbg a [-1,1000000000,1000000001];let p:=({ (zf a 8) with b:=c.b}:Cur); (oN (zog c)<|oN (zD r<|ln f)<|oN (zD q 24)<|cond (ieq l 0) (oN (zgr a 8 12)<|oN m<|share (up f k ({g with Outer:=(zfI a 8 12)}:Mon)) λd=>some [.agg [.s .u8 c.b,.i .i64 (zhx a 8 12).i,.i .i64 (zhx a 8 12).h],aH ({j with Mons:=d}:Host)])<|cond (ieq l 1) (oN m<|oN (zD a 8)<|oN (zmz p)<|oN (inb (zx a 8)<|ln g.Out)<|share (up f k ({g with Out:=(up g.Out (zx a 8)<|zuJ p)}:Mon)) λd=>some [.agg [.s .u8 c.b,.i .i64 (zmA p).i,.i .i64 (zmA p).h],aH ({j with Mons:=d}:Host)])<|cond (ieq l 2) (oN m<|oN (zq5 a)<|oN (inb 0<|ln g.Guests)<|share (up f k ({g with Guests:=(up g.Guests 0<|zBm a)}:Mon)) λd=>some [.agg [.s .u8 c.b,.i .i64 (zq6 a).i,.i .i64 (zq6 a).h],aH ({j with Mons:=d}:Host)])<|cond (ieq l 3) (oN m<|share (up f k ({g with Tables:=[]}:Mon)) λd=>some [.agg [.s .u8 c.b,.i .i64 e.i,.i .i64 e.h],aH ({j with Mons:=d}:Host)])<|cond (ieq l 4) (oN (zlq a)<|some [.agg [.s .u8 c.b,.i .i64 (zlr a).i,.i .i64 (zlr a).h],aH ({j with Buffer:=(zsH a)}:Host)])<|cond (ieq l 5) (oN (ziW a)<|oN m<|share (up f k ({g with Traps:=(znw a)}:Mon)) λd=>some [.agg [.s .u8 c.b,.i .i64 (zmB a).i,.i .i64 (zmB a).h],aH ({j with Mons:=d}:Host)])<|cond (ieq l 6) (oN (zbA a [-1,1000000000,1000000001])<|oN m<|share (up f k ({g with Own:=(zbs a [-1,1000000000,1000000001])}:Mon)) λd=>some [.agg [.s .u8 c.b,.i .i64 n.i,.i .i64 n.h],aH ({j with Mons:=d}:Host)])<|cond (ieq l 7) (oN (zqV a)<|some [.agg [.s .u8 c.b,.i .i64 (zjt a).i,.i .i64 (zjt a).h],aH ({j with Memory:=(zrT a)}:Host)])<|some [.agg [.s .u8 c.b,.i .i64 e.i,.i .i64 e.h],aH j])
def zsP (c:Cur)(s:Cur)(a:Host):Prop:=(∃N,zAl N c=some (AV.agg (zb4 s)::[aH a]))/\(s.b=c.b/\0<=s.i)/\(AnyH a)
def zhd (c:Cur)  : Bool:=wC (zsP c)
def zhZ (c:Cur)  : Cur:=wS (zsP c)
def zhK (c:Cur)  : Host:=wV (zsP c)
def zuL {c:Cur}(h:zhd c=true):zsP c (zhZ c) (zhK c):=wG h
def zBn (c:Cur)  : 0<=(zhZ c).i:=wP λh=>h.2.1.2
def z3p (c:Cur)(h:∃N,Ends (wE (λa=>aH a) c.b λa=>AnyH a)<|zAl N c):zhd c=true:=wI (λ_ _ h=>h) h
def zCc:zek:=rP0 λc=>(zhd c,zhZ c,[aH<|zhK c])
def zP1:zbW Tryz.prog 89 [false,true,true] zCc:=hP0 zDX zU zXs zn (zq []) (λ_ h=>(zuL h).1)
def zy7 {c:Cur}(h:zbi c):zhd c=true:=by
 refine z3p c ⟨0,?_⟩;unfold zAl oN;conv=>zeta
 obtain⟨S,sm⟩:=z8e (zIq<|z5g h).2.2;have A:=z8H S sm;have q:∀{s:Cur},0<=s.i->zbi {s with b:=c.b}:=λy=>zbS h y;have w:zbi {zjL c with b:=c.b}:=q (zZW _);have l:0<ln (ztu c).Mons:=by have:=A.n1;unfold ln;omega
 have a:=zwI w l (kS _);have u:=zbK a zi;generalize B:ztu c=H at *;generalize zx {zjL c with b:=c.b} (ln H.Mons)=m at *;have M:=A.mons _ u;have x:=S.ok.mons _ u;generalize C:ix H.Mons m zi=X at *;obtain⟨p,e,f,j,k,t⟩:=M.sm;have d:∀{n},zbi {zf {zf {zjL c with b:=c.b} n with b:=c.b} 24 with b:=c.b}:=λ{n}=>q (zI _ _);refine zC (z5g h) (zC (zbF w _) (zC (zbF (q<|zI _ _) 24)
  (zbJ (λ_=>zC (zpy d (by omega) (by omega) _) (zC a<|zmY<|zbP aH (v:={H with Mons:=up H.Mons m {X with Outer:=zfI _ _ _}}) (zqQ _ _ _)<|zyV A m ?_))
  (λ_=>zbJ (λ_=>zC a (zC (zbF d 8)<|zC (z0q<|q<|zI _ _)<|zC (zwI d (by omega) ?_)<|zmY<|zbP aH (v:={H with Mons:=up H.Mons m {X with Out:=up X.Out _ (zuJ _)}}) (zXI _)<|zyV A m ?_))
  (λ_=>zbJ (λ_=>zC a (zC (zLH d)<|zC ?_<|zmY<|zbP aH (v:={H with Mons:=up H.Mons m {X with Guests:=up X.Guests 0 (zBm _)}}) (z3m _)<|zyV A m ?_))
  (λ_=>zbJ (λ_=>zC a (zmY<|zbP aH (v:={H with Mons:=up H.Mons m {X with Tables:=[]}}) (zI _ _)<|zyV A m ?_))
  (λ_=>zbJ (λ_=>zC (zVh d) (zbP aH (v:={H with Buffer:=zsH _}) (zUp _) ⟨A.mem,A.n1,A.n3,A.mons,qU (zCE<|zVh d).2.2 (by decide),A.b2⟩))
  (λ_=>zbJ (λ_=>zC (z1k d) (zC a<|zmY<|zbP aH (v:={H with Mons:=up H.Mons m {X with Traps:=znw _}}) (zXN _)<|zyV A m ?_))
  (λ_=>zbJ (λ_=>zC (zfv d (by simp)) (zC a<|zmY<|zbP aH (v:={H with Mons:=up H.Mons m {X with Own:=zbs _ _}}) (zb6 _ _)<|zyV A m ?_))
  (λ_=>zbJ (λ_=>zC (zWg d) (zbP aH (v:={H with Memory:=zrT _}) (z2Z _) ⟨?_,A.n1,A.n3,A.mons,A.b1,A.b2⟩))
  (λ_=>zbP aH (v:=H) (zI _ _) A)))))))))))
 {have g:=(zqP<|zpy (d (n:=ln H.Mons)) (n:=8) (by omega) (by omega) 12).2.2 (by omega) (by omega);refine⟨⟨?_,e,f,j,k,t⟩,M.g1,M.g2,M.t2,?_,g.2 (by omega) (by omega),M.tk⟩;{have:=g.1;unfold ln at this;exact qU (m:=8) (by exact Int.ofNat_le.1 this) (by decide)};{have:=g.1;unfold ln at this;exact Int.ofNat_le.1 this}};{unfold ln;rw[x.u8];decide};{exact⟨⟨p,zbct e _<|qU (zFh<|z0q<|q<|zI _ _).2.2 (by decide),f,j,k,t⟩,M.g1,M.g2,M.t2,M.o8,M.pg,M.tk⟩};{exact qI (by have:=M.g1;unfold ln;omega)};{exact⟨⟨p,e,f,z8S j 0<|zbdx (zN1<|zLH d).2.2,k,t⟩,by rw[zjk];exact M.g1,by rw[zjk];exact M.g2,M.t2,M.o8,M.pg,M.tk⟩};{exact⟨⟨p,e,f,j,k,⟨by simp,by simp⟩⟩,M.g1,M.g2,by simp,M.o8,M.pg,by simp⟩};{exact⟨⟨p,e,f,j,k,t⟩,M.g1,M.g2,M.t2,M.o8,M.pg,M.tk⟩};{exact⟨⟨p,e,f,j,k,t⟩,M.g1,M.g2,M.t2,M.o8,M.pg,M.tk⟩};{have g:=(zNZ<|zWg<|d (n:=ln H.Mons)).2.2;exact⟨qU g.1 (by decide),λr z=>qU (g.2 r z) (by decide)⟩}
def zbaW:zc3:=[(89,[false,true,true],zCc)]++zbaV
def z8y:zcd zbaW:=zcP zXs (by
 intro x a;simp only[qG,qO,or_false]at a;rcases a with rfl
 .exact zP1)
def zDH (N:Nat)(c:Cur)  : OA :=
 let a:=zbg c [0,0,0,1,1,2,-1,9223372036854775807]; (oN (zbA c [0,0,0,1,1,2,-1,9223372036854775807])<|some [.agg [.s .u8 c.b,.i .i64 a.i,.i .i64 a.h],aI<|zbs c [0,0,0,1,1,2,-1,9223372036854775807]])
def zuM (c:Cur)(s:Cur)(a:Int):Prop:=(∃N,zDH N c=some (AV.agg (zb4 s)::[aI a]))/\(s.b=c.b/\0<=s.i)/\(True)
def zic (c:Cur)  : Bool:=wC (zuM c)
def ztt (c:Cur)  : Cur:=wS (zuM c)
def zpp (c:Cur)  : Int:=wV (zuM c)
def z6j {c:Cur}(h:zic c=true):zuM c (ztt c) (zpp c):=wG h
def zSW (c:Cur)  : 0<=(ztt c).i:=wP λh=>h.2.1.2
def z6k (c:Cur)(h:∃N,Ends (wE (λa=>aI a) c.b λa=>True)<|zDH N c):zic c=true:=wI (λ_ _ h=>h) h
def zE0:zek:=rP0 λc=>(zic c,ztt c,[aI<|zpp c])
def zTz:zbW Tryz.prog 90 [false,true,true] zE0:=hP0 zDX zU zKl zn (zq []) (λ_ h=>(z6j h).1)
def z6U {c:Cur}(h:zbi c):zic c=true:=by
 refine z6k c ⟨0,?_⟩;unfold zDH oN;conv=>zeta
 exact zC (zfv h (by simp)) (zbP aI (zb6 _ _) trivial)
def zbd5:zc3:=[(90,[false,true,true],zE0)]++zbaW
def zBd:zcd zbd5:=zcP z8y (by
 intro x a;simp only[qG,qO,or_false]at a;rcases a with rfl
 .exact zTz)
def z9R:zY:=[(286,ztV)]++z4g
def z7x:zS z9R:=zh zw2 zDX
def zDS {a:LI}(h:a.length<=big){G:Ans->Prop}{N:Nat}(l:a.length<N){g:Int}{R:Int->OA}{d:Type}(S:Int->Int->d){F:(d->OA)->d->OA}(k:∀rec i t,F rec (S i t)=bif ilt i (ln a) then (cond (ilt i 4000) (cond (inb i<|ln a) (rec<|S (zM .i64 i 1)<|wand .i64 (zM .i64 (zM .i64 (zmL .i64 t 131)<|wcv .i64<|ix a i 0) 7) 1073741823) none)<|R t) else R t)(e:∀t,zbi ⟨a,0,t⟩->Ends G (R t)):Ends G (iter N F<|S 0 g):=by refine zl6 (λn s=>∃(i:Nat) (t:Int),s=S (i:Int) t/\i+n=a.length) ?_ N a.length _ ⟨0,g,rfl,by omega⟩ l;rintro n s rec ⟨i,t,rfl,p⟩ b;rw[k];have f:zbi ⟨a,0,t⟩:=⟨kS 0,h⟩;refine zbJ (λj=>zbJ (λm=>?_) λ_=>e t f) (λ_=>e t f);have c:(i:Int)<ln a:=qD j;unfold ln at c;rw[zba (show i<a.length by omega) h];exact zC (qI ⟨by omega,by unfold ln;omega⟩) (b (n-1) _ (by omega) ⟨i+1,_,rfl,by omega⟩)
def zXA {b:LI}(h:b.length<=big){s:Cur}(a:0<=s.i):zbi {s with b:=b}:=⟨a,h⟩
def z9S:zY:=z9R
def z7y:zS z9S:=z7x
def z9T:zY:=z9S
def z7z:zS z9T:=z7y
def z1H:zY:=z9T
def zAx:zS z1H:=z7z
def zr6 (N:Nat)(g:LI):OA:=
 (iter (σ:=(Int×Int×LI×lM×lN×lE×lE×Unit)) N (λh a=>let c:=a.2.2.1;let e:=(⟨c,0,a.1⟩:Cur);let d:=({ (zhZ e) with b:=c}:Cur);let f:=({ (ztt d) with b:=c}:Cur); (cond (ilt a.2.1<|ln c) (cond (ilt a.2.1 4000) (oN (inb a.2.1<|ln c)<|h (wand .i64 (zM .i64 (zM .i64 (zmL .i64 a.1 131)<|wcv .i64<|ix c a.2.1 0) 7) 1073741823,zM .i64 a.2.1 1,c,a.2.2.2.1,a.2.2.2.2.1,a.2.2.2.2.2.1,a.2.2.2.2.2.2.1,()))<|oN (zhd e)<|oN (zic d)<|oN (zkD f)<|some [aH<|zhK e,aI<|zpp d,aI<|zpo f])<|oN (zhd e)<|oN (zic d)<|oN (zkD f)<|some [aH<|zhK e,aI<|zpp d,aI<|zpo f])) (zM .i64 94701<|ln g,0,g,[],[],[],[],()))
def zCG:=zq [(71,0,{n:=32,tm:=[(0,.sl 0 []),(3,ti),(4,ti)],lo:=[(0,[.sl 1 [],.sl 2 [],.sl 3 [],.sl 4 []])],ro:=[(0,.u8,false),(1,.sl .int,true),(2,.mon,true),(3,.entry,true),(4,.entry,true)],sk:=[(0,2,0,.lp 0 0)]})]
def zwj (b:LI)(a:Host)(c:Int)(d:Int):Prop:=(∃N,zr6 N b=some [aH a,aI c,aI d])/\(AnyH a)
def zlK (a:LI):Bool:=uC (T:=Host×Int×Int) (λr=>zwj a r.1 r.2.1 r.2.2)
def zyt (a:LI):Host×Int×Int:=uV (λr=>zwj a r.1 r.2.1 r.2.2)
def zsQ (a:LI):Host:=(zyt a).1
def zsR (a:LI):Int:=(zyt a).2.1
def zsS (a:LI):Int:=(zyt a).2.2
def zIr {a:LI}(h:zlK a=true):zwj a (zsQ a) (zsR a) (zsS a):=uG h
def zZX (f:LI)(h:∃N,Ends (λa=>∃b c d,a=[aH b,aI c,aI d]/\(AnyH b))<|zr6 N f):zlK f=true:=by obtain⟨N,a,e,b,c,d,rfl,h⟩:=h;exact zbd ⟨(b,c,d),⟨N,e⟩,h⟩
def zCu:Run:=rF1 (dS .u8) λb=>(zlK b,[aH<|zsQ b,aI<|zsR b,aI<|zsS b])
def zUi (a:LI)(b:zlK a=true):∃N,zr6 N a=some [aH<|zsQ a,aI<|zsR a,aI<|zsS a]:=by exact(zIr b).1
def zM0:vM 127 zCu:=kF1 zAx zU zBd zn zCG zUi
def zSw {a:LI}(h:a.length<=big):zlK a=true:=by
 refine zZX a (zcg λN b=>?_);unfold zr6 oN;conv=>zeta
 refine zDS h (b h) ((λi t=>(t,(i:Int),a,[],[],[],[],())):Int->Int->_) (λrec i t=>by dsimp only) (λt c=>?_);exact zC (zy7 c) (zC (z6U<|zXA h<|zBn _)<|zC (z3V<|zXA h<|zSW _) ⟨_,rfl,_,_,_,rfl,(zuL<|zy7 c).2.2⟩)
def zbdP:zY:=[(127,zCu)]++z1H
def zIW:zS zbdP:=zh zM0 zAx
def zkH (N:Nat)(a:LI):OA:=
 (oN (zlK a)<|some [aH<|zsQ a,aI<|zsR a,aI<|zsS a])
def zFy:=zq [(71,0,{n:=32,tm:=[(0,.sl 0 []),(3,ti),(4,ti)],lo:=[(0,[.sl 1 [],.sl 2 [],.sl 3 [],.sl 4 []]),(1,[.sl 5 [],.sl 6 [],.sl 7 [],.sl 8 []])],ro:=[(0,.u8,false),(1,.sl .int,true),(2,.mon,true),(3,.entry,true),(4,.entry,true),(5,.sl .int,true),(6,.mon,true),(7,.entry,true),(8,.entry,true)],sk:=[(0,2,0,.lp 0 0),(1,2,0,.lp 1 0)]})]
def znJ (b:LI)(a:Host)(c:Int)(d:Int):Prop:=(∃N,zkH N b=some [aH a,aI c,aI d])/\(AnyH a)
def zgP (a:LI):Bool:=uC (T:=Host×Int×Int) (λr=>znJ a r.1 r.2.1 r.2.2)
def zoX (a:LI):Host×Int×Int:=uV (λr=>znJ a r.1 r.2.1 r.2.2)
def ziL (a:LI):Host:=(zoX a).1
def ziM (a:LI):Int:=(zoX a).2.1
def ziN (a:LI):Int:=(zoX a).2.2
def zv3 {a:LI}(h:zgP a=true):znJ a (ziL a) (ziM a) (ziN a):=uG h
def zKu (f:LI)(h:∃N,Ends (λa=>∃b c d,a=[aH b,aI c,aI d]/\(AnyH b))<|zkH N f):zgP f=true:=by obtain⟨N,a,e,b,c,d,rfl,h⟩:=h;exact zbd ⟨(b,c,d),⟨N,e⟩,h⟩
def zto:Run:=rF1 (dS .u8) λb=>(zgP b,[aH<|ziL b,aI<|ziM b,aI<|ziN b])
def zED (a:LI)(b:zgP a=true):∃N,zkH N a=some [aH<|ziL a,aI<|ziM a,aI<|ziN a]:=by exact(zv3 b).1
def zAO:vM 36 zto:=kF1 zIW zU zBd zn zFy zED
def zy0 {a:LI}(h:a.length<=big):zgP a=true:=by refine zKu a ⟨0,?_⟩;unfold zkH oN;exact zC (zSw h) ⟨_,rfl,_,_,_,rfl,(zIr<|zSw h).2⟩
def zkI (N:Nat)(g:LI):OA:=
 (iter (σ:=(Int×Int×LI×lM×lN×lE×lE×Unit)) N (λh a=>let c:=a.2.2.1;let e:=(⟨c,0,a.1⟩:Cur);let d:=({ (zhZ e) with b:=c}:Cur);let f:=({ (ztt d) with b:=c}:Cur); (cond (ilt a.2.1<|ln c) (cond (ilt a.2.1 4000) (oN (inb a.2.1<|ln c)<|h (wand .i64 (zM .i64 (zM .i64 (zmL .i64 a.1 131)<|wcv .i64<|ix c a.2.1 0) 7) 1073741823,zM .i64 a.2.1 1,c,a.2.2.2.1,a.2.2.2.2.1,a.2.2.2.2.2.1,a.2.2.2.2.2.2.1,()))<|oN (zhd e)<|oN (zic d)<|oN (ziW f)<|some [aH<|zhK e,aI<|zpp d,aI<|znw f])<|oN (zhd e)<|oN (zic d)<|oN (ziW f)<|some [aH<|zhK e,aI<|zpp d,aI<|znw f])) (zM .i64 94701<|ln g,0,g,[],[],[],[],()))
def znL (b:LI)(a:Host)(c:Int)(d:Int):Prop:=(∃N,zkI N b=some [aH a,aI c,aI d])/\(AnyH a)
def zgQ (a:LI):Bool:=uC (T:=Host×Int×Int) (λr=>znL a r.1 r.2.1 r.2.2)
def zoY (a:LI):Host×Int×Int:=uV (λr=>znL a r.1 r.2.1 r.2.2)
def ziO (a:LI):Host:=(zoY a).1
def ziP (a:LI):Int:=(zoY a).2.1
def ziQ (a:LI):Int:=(zoY a).2.2
def zv4 {a:LI}(h:zgQ a=true):znL a (ziO a) (ziP a) (ziQ a):=uG h
def zKv (f:LI)(h:∃N,Ends (λa=>∃b c d,a=[aH b,aI c,aI d]/\(AnyH b))<|zkI N f):zgQ f=true:=by obtain⟨N,a,e,b,c,d,rfl,h⟩:=h;exact zbd ⟨(b,c,d),⟨N,e⟩,h⟩
def ztp:Run:=rF1 (dS .u8) λb=>(zgQ b,[aH<|ziO b,aI<|ziP b,aI<|ziQ b])
def zEE (a:LI)(b:zgQ a=true):∃N,zkI N a=some [aH<|ziO a,aI<|ziP a,aI<|ziQ a]:=by exact(zv4 b).1
def zAP:vM 42 ztp:=kF1 zIW zU zBd zn zCG zEE
def zy1 {a:LI}(h:a.length<=big):zgQ a=true:=by
 refine zKv a (zcg λN b=>?_);unfold zkI oN;conv=>zeta
 refine zDS h (b h) ((λi t=>(t,(i:Int),a,[],[],[],[],())):Int->Int->_) (λrec i t=>by dsimp only) (λt c=>?_);exact zC (zy7 c) (zC (z6U<|zXA h<|zBn _)<|zC (z1k<|zXA h<|zSW _) ⟨_,rfl,_,_,_,rfl,(zuL<|zy7 c).2.2⟩)
def zjR (N:Nat)(u:LI):OA:=
 (iter (σ:=(Int×Int×LI×LI×lM×lN×lE×lE×Unit)) N (λv c=>let g:=c.2.2.2.2.2.2.1;let t:=c.2.2.2.2.2.2.2.1;let k:=c.2.2.1;let j:=(⟨k,0,c.1⟩:Cur);let d:=zhK j; (cond (ilt c.2.1<|ln k) (cond (ilt c.2.1 4000) (oN (inb c.2.1<|ln k)<|v (wand .i64 (zM .i64 (zM .i64 (zmL .i64 c.1 131)<|wcv .i64<|ix k c.2.1 0) 7) 1073741823,zM .i64 c.2.1 1,k,c.2.2.2.1,c.2.2.2.2.1,c.2.2.2.2.2.1,g,t,()))<|oN (zhd j)<|iter (σ:=(Int×Int×Int×LI×lM×lN×lE×lE×LI×lM×lN×lE×lE×Unit)) N (λn a=>let l:=a.2.2.2.2.2.2.2.2.2.2.2.2.1;let r:=a.2.2.2.2.2.2.2.2.1;let p:=(⟨r,a.2.1,a.2.2.1⟩:Cur);let e:=({ (zf p 7) with b:=r}:Cur); (oN (zD p 7)<|cond (ilt a.1<|zx p 7) (oN (zkD e)<|oN (few<|ln<|ap a.2.2.2.1 [zpo e])<|n (zM .i64 a.1 1,(zmD e).i,(zmD e).h,ap a.2.2.2.1 [zpo e],a.2.2.2.2.1,a.2.2.2.2.2.1,a.2.2.2.2.2.2.1,a.2.2.2.2.2.2.2.1,r,a.2.2.2.2.2.2.2.2.2.1,a.2.2.2.2.2.2.2.2.2.2.1,a.2.2.2.2.2.2.2.2.2.2.2.1,l,()))<|oN (zic e)<|some [aH (⟨a.2.2.2.2.2.2.2.2.2.1,a.2.2.2.2.2.2.2.2.2.2.1,a.2.2.2.2.2.2.2.2.2.2.2.1,l⟩:Host),aI<|zpp e,aS .int a.2.2.2.1])) (0,(zhZ j).i,(zhZ j).h,[],c.2.2.2.2.1,c.2.2.2.2.2.1,g,t,k,d.Memory,d.Mons,d.Buffer,d.IoBuffer,()))<|oN (zhd j)<|iter (σ:=(Int×Int×Int×LI×lM×lN×lE×lE×LI×lM×lN×lE×lE×Unit)) N (λn a=>let m:=a.2.2.2.2.2.2.2.2.2.2.2.2.1;let s:=a.2.2.2.2.2.2.2.2.1;let q:=(⟨s,a.2.1,a.2.2.1⟩:Cur);let f:=({ (zf q 7) with b:=s}:Cur); (oN (zD q 7)<|cond (ilt a.1<|zx q 7) (oN (zkD f)<|oN (few<|ln<|ap a.2.2.2.1 [zpo f])<|n (zM .i64 a.1 1,(zmD f).i,(zmD f).h,ap a.2.2.2.1 [zpo f],a.2.2.2.2.1,a.2.2.2.2.2.1,a.2.2.2.2.2.2.1,a.2.2.2.2.2.2.2.1,s,a.2.2.2.2.2.2.2.2.2.1,a.2.2.2.2.2.2.2.2.2.2.1,a.2.2.2.2.2.2.2.2.2.2.2.1,m,()))<|oN (zic f)<|some [aH (⟨a.2.2.2.2.2.2.2.2.2.1,a.2.2.2.2.2.2.2.2.2.2.1,a.2.2.2.2.2.2.2.2.2.2.2.1,m⟩:Host),aI<|zpp f,aS .int a.2.2.2.1])) (0,(zhZ j).i,(zhZ j).h,[],c.2.2.2.2.1,c.2.2.2.2.2.1,g,t,k,d.Memory,d.Mons,d.Buffer,d.IoBuffer,()))) (zM .i64 94701<|ln u,0,u,[],[],[],[],[],()))
def zC0:=zq [(71,0,{n:=32,tm:=[(0,.sl 0 []),(3,ti),(4,ti)],lo:=[(0,[.sl 2 [],.sl 3 [],.sl 4 [],.sl 5 []])],ro:=[(0,.u8,false),(1,.int,true),(2,.sl .int,true),(3,.mon,true),(4,.entry,true),(5,.entry,true)],sk:=[(0,2,0,.lp 0 0),(0,4,0,.sl 1 [])]}),(39,0,{n:=29,tm:=[(2,.lp 0 0),(5,.lp 1 0),(6,.lp 2 0),(7,.sl 0 []),(8,ti)],lo:=[(0,[.sl 1 [],.sl 2 [],.sl 3 [],.sl 4 []]),(1,[.sl 5 [],ti,ti]),(2,[.sl 6 [],.sl 7 [],.sl 8 [],.sl 9 []])],ro:=[(0,.int,true),(1,.sl .int,true),(2,.mon,true),(3,.entry,true),(4,.entry,true),(5,.u8,false),(6,.sl .int,false),(7,.mon,true),(8,.entry,true),(9,.entry,true)]})]
def zmv (c:LI)(a:Host)(d:Int)(b:LI):Prop:=(∃N,zjR N c=some [aH a,aI d,aS .int b])/\(AnyH a/\b.length<=7)
def zgy (a:LI):Bool:=uC (T:=Host×Int×LI) (λr=>zmv a r.1 r.2.1 r.2.2)
def znK (a:LI):Host×Int×LI:=uV (λr=>zmv a r.1 r.2.1 r.2.2)
def zhO (a:LI):Host:=(znK a).1
def zhP (a:LI):Int:=(znK a).2.1
def zhQ (a:LI):LI:=(znK a).2.2
def zuj {a:LI}(h:zgy a=true):zmv a (zhO a) (zhP a) (zhQ a):=uG h
def zG3 (f:LI)(h:∃N,Ends (λa=>∃b d c,a=[aH b,aI d,aS .int c]/\(AnyH b/\c.length<=7))<|zjR N f):zgy f=true:=by obtain⟨N,a,e,b,d,c,rfl,h⟩:=h;exact zbd ⟨(b,d,c),⟨N,e⟩,h⟩
def zrh:Run:=rF1 (dS .u8) λb=>(zgy b,[aH<|zhO b,aI<|zhP b,aS .int<|zhQ b])
def zCX (a:LI)(b:zgy a=true):∃N,zjR N a=some [aH<|zhO a,aI<|zhP a,aS .int<|zhQ a]:=by exact(zuj b).1
def zza:vM 39 zrh:=kF1 zIW zU zBd zn zC0 zCX
def zwP {a:LI}(h:a.length<=big):zgy a=true:=by
 refine zG3 a (zcg λN c=>?_);unfold zjR oN;conv=>zeta
 have r:7<N:=c (by rw[zly];omega);refine zDS h (c h) ((λi t=>(t,(i:Int),a,[],[],[],[],[],())):Int->Int->_) (λrec i t=>by dsimp only) (λt m=>?_);have g:=(zuL<|zy7 m).2.2;refine zC (zy7 m) (zl6 (λn s=>∃(k:Nat) (i x:Int) (l:LI),s=((k:Int),i,x,l,[],[],[],[],a,(zhK ⟨a,0,t⟩).Memory,(zhK ⟨a,0,t⟩).Mons,(zhK ⟨a,0,t⟩).Buffer,(zhK ⟨a,0,t⟩).IoBuffer,())/\k+n=7/\0<=i/\l.length=k) ?_ N 7 _ ⟨0,_,_,[],rfl,rfl,zBn _,rfl⟩ r);rintro n s rec ⟨k,i,x,l,rfl,u,e,f⟩ d;dsimp only;have b:zbi ⟨a,i,x⟩:=⟨e,h⟩;have v:=zgg b (n:=7) (by omega);have j:=zXA h (zI ⟨a,i,x⟩ 7);refine zC (zbF b _) (zbJ (λp=>?_) λ_=>zC (z6U j) ⟨_,rfl,zhK ⟨a,0,t⟩,_,l,rfl,g,by omega⟩);have q:=qD p;refine zC (z3V j) (zC (zlf (by rw[zhW];unfold ln;omega))<|d (n-1) _ (by omega) ?_);rw[zr2 (show -9223372036854775808<=(k:Int)+1 by omega) (by omega)];exact⟨k+1,_,_,_,rfl,by omega,z6i _,by simp[ap,f]⟩
def zbal:zY:=[(18,zss),(65,zkm)]++zx8
def z7F:zS zbal:=zh ztL (zh zrz zdv)
def zbam:zY:=zbal
def z7G:zS zbam:=z7F
def zban:zY:=zbam
def z7H:zS zban:=z7G
def zbao:zY:=zban
def z7I:zS zbao:=z7H
def zbdR:zY:=zbao
def z7J:zS zbdR:=z7I
def zLt (N:Nat)(b:Host)(c:Int):OA:=
 (oN (zxJ b c)<|cond (nB<|zts b c) (some [aT .bare (⟨[],[],[],0⟩:Bare)])<|iter (σ:=(Int×Int×Int×Int×lM×lN×lE×lE×lM×lG×LI×lM×lG×LI×Unit)) N (λh a=>let g:=a.2.2.2.2.2.2.2.2.2.2.2.2.1;let f:=a.2.2.2.2.2.2.2.2.2.2.2.2.2.1;let d:=(⟨a.2.2.2.2.1,a.2.2.2.2.2.1,a.2.2.2.2.2.2.1,a.2.2.2.2.2.2.2.1⟩:Host);let e:=ap a.2.2.2.2.2.2.2.2.2.2.2.1 [zoZ d a.1 a.2.1]; (cond (ilt a.2.1 8) (oN (zqH d a.1 a.2.1)<|oN (few<|ln e)<|h (a.1,zM .i64 a.2.1 1,a.2.2.1,a.2.2.2.1,a.2.2.2.2.1,a.2.2.2.2.2.1,a.2.2.2.2.2.2.1,a.2.2.2.2.2.2.2.1,a.2.2.2.2.2.2.2.2.1,a.2.2.2.2.2.2.2.2.2.1,a.2.2.2.2.2.2.2.2.2.2.1,e,g,f,()))<|some [aT .bare (⟨a.2.2.2.2.2.2.2.2.2.2.2.1,g,f,a.2.2.2.1⟩:Bare)])) (c,0,0,(ze3 b c).Pending,b.Memory,b.Mons,b.Buffer,b.IoBuffer,[],[],[],[],(ze3 b c).Guests,(ze3 b c).Outs,()))
def zYv:=zq [(53,0,{n:=39,tm:=[(1,ti),(2,.lp 0 0),(4,.lp 1 0),(7,.lp 2 0),(8,ti)],lo:=[(0,[.sl 0 [],.sl 1 [],.sl 2 [],.sl 3 []]),(1,[.sl 4 [],.sl 5 [],.sl 6 [],ti]),(2,[.sl 7 [],.sl 8 [],.sl 9 [],ti])],ro:=[(0,.sl .int,false),(1,.mon,false),(2,.entry,false),(3,.entry,false),(4,.sl .int,true),(5,.guest,true),(6,.int,true),(7,.sl .int,true),(8,.guest,true),(9,.int,true)]})]
def zWR (a:Host)(b:Int)(f:zdo a b=true):∃N,zLt N a b=some [aT .bare<|ziD a b]:=by
 have e:=zO.1 f;refine zcg λN d=>?_;unfold zLt ziD zK oN nB;conv=>zeta
 refine must (zbq e) ?_;rw[show zts a b=hasB b (ln a.Mons) from rfl];cases g:hasB b (ln a.Mons);{rfl};{refine zda rfl ?_;refine(zvH 8 (λi (t:lM)=>(b,(i:Int),0,(ze3 a b).Pending,a.Memory,a.Mons,a.Buffer,a.IoBuffer,[],[],[],t,(ze3 a b).Guests,(ze3 a b).Outs,())) _ (λi (c:List LI) j=>bif few (ln<|ap c [zcH a b (i:Int)]) then j (ap c [zcH a b (i:Int)]) else none) (λ(t:lM)=>some [.agg<|Ty.cells .bare (⟨t,(ze3 a b).Guests,(ze3 a b).Outs,(ze3 a b).Pending⟩:Bare)]) (λi h t rec=>?_) (λt rec=>?_) _ ([])<|d (by decide)).trans ?_;{simp only [show ilt (i:Int) 8=true from qI (by omega),zba h (show 8<=big by decide),cT];exact must (zbq e) rfl};{simp only [show ilt ((8:Nat):Int) 8=false from qJ (by omega),cF]};rw[zEb a b _ 8 0 [] (by decide)];simp only[ze3,g,cT,jR]}
def zPK:vM 53 zp4:=kF2 z7J zU zo zn zYv zWR
def zbcU:zY:=[(37,znc),(99,zi7),(156,zll),(65,zkm),(168,zmr)]++zx8
def z4h:zS zbcU:=zh zoM (zh zvw<|zh zw1<|zh zrz<|zh zy9 zdv)
abbrev HSb:Type:=(List Bool)×(List<|LI)×(List Mon)×(List Entry)×(List Entry)
def ziz (t:HSb):Host:=⟨t.2.1,t.2.2.1,t.2.2.2.1,t.2.2.2.2⟩
def z3H (u:Host×List Bool):HSb:=(u.2,u.1.Memory,u.1.Mons,u.1.Buffer,u.1.IoBuffer)
def zX7 (t:HSb):OA:=some [AV.agg<|zbn<|ziz t,AV.one<|.s .bool t.1]
def zOi (m:Int):LI->Host×List Bool->Host×List Bool
 |[],u=>u
 |g::l,u=>zOi m l ((zbv u.1 m g).1,ap u.2 [(zbv u.1 m g).2])
def zyb (m:Int){c:Host->Int->Bool}(b:∀h g,SmH h->c h g=true):∀(l:LI) (i:Nat) (u:Host×List Bool),SmH u.1->u.2.length+l.length<=2147483648->
 goL (λ(_:Nat) x (t:HSb) n=>bif c (ziz t) x then (cond (few<|ln<|ap t.1 [(zbv (ziz t) m x).2]) (n (ap t.1 [(zbv (ziz t) m x).2],(zbv (ziz t) m x).1.Memory,(zbv (ziz t) m x).1.Mons,(zbv (ziz t) m x).1.Buffer,(zbv (ziz t) m x).1.IoBuffer)) none) else none) zX7 l i (z3H u)=zX7 (z3H<|zOi m l u)
 |[],i,u,_,_=>rfl
 |a::l,i,u,d,k=>by simp only[qV]at k;have f:few (ln<|ap u.2 [(zbv u.1 m a).2])=true:=zfP (by simp[ap];omega);have j:ziz (z3H u)=u.1:=rfl;have e:(z3H u).1=u.2:=rfl;simp only[goL,j,e,f,b _ _ d,cT];exact zyb m b l (i+1) ((zbv u.1 m a).1,ap u.2 [(zbv u.1 m a).2]) (zFl m a d).sm (by simp[ap];omega)
@[simp] abbrev zlh (h:Host)(_:Int)(l:LI):Bool:=pc (zdm h/\l.length<=1048576)
@[simp] abbrev zhA (h:Host)(m:Int)(l:LI):Host:=(zOi m l (h,[])).1
@[simp] abbrev zhB (h:Host)(m:Int)(l:LI):List Bool:=(zOi m l (h,[])).2
def zlR:Run:=rF3 dH dI (dS .int) λb c d=>(zlh b c d,[aH<|zhA b c d,aS .bool<|zhB b c d])
def zBB (N:Nat)(b:Host)(h:Int)(f:LI):OA:=
 (oN (zbt b)<|iter (σ:=(Int×Int×Int×lB×LI×lM×lN×lE×lE×lM×lN×lE×lE×Unit)) N (λi a=>let e:=ix a.2.2.2.2.1 a.2.2.1 0;let c:=(⟨a.2.2.2.2.2.2.2.2.2.1,a.2.2.2.2.2.2.2.2.2.2.1,a.2.2.2.2.2.2.2.2.2.2.2.1,a.2.2.2.2.2.2.2.2.2.2.2.2.1⟩:Host);let g:=ap a.2.2.2.1 [zbT c a.1 e];let d:=zb3 c a.1 e; (cond (ilt a.2.2.1 a.2.1) (oN (inb a.2.2.1<|ln a.2.2.2.2.1)<|oN (zcn c a.1 e)<|oN (few<|ln g)<|i (a.1,a.2.1,zM .i64 a.2.2.1 1,g,a.2.2.2.2.1,a.2.2.2.2.2.1,a.2.2.2.2.2.2.1,a.2.2.2.2.2.2.2.1,a.2.2.2.2.2.2.2.2.1,d.Memory,d.Mons,d.Buffer,d.IoBuffer,()))<|some [aH c,aS .bool a.2.2.2.1])) (h,ln f,0,[],f,[],[],[],[],(zl b).Memory,(zl b).Mons,(zl b).Buffer,(zl b).IoBuffer,()))
def zOt:=zq [(40,0,{n:=38,tm:=[(1,ti),(6,.lp 0 0),(8,.lp 1 0),(9,.sl 0 []),(17,.sl 1 []),(18,ti),(19,ti)],lo:=[(0,[.sl 2 [],.sl 3 [],.sl 4 [],.sl 5 []]),(1,[.sl 6 [],.sl 7 [],.sl 8 [],.sl 9 []])],ro:=[(0,.bool,true),(1,.int,false),(2,.sl .int,true),(3,.mon,true),(4,.entry,true),(5,.entry,true),(6,.sl .int,true),(7,.mon,true),(8,.entry,true),(9,.entry,true)]})]
def zNe (b:Host)(a:Int)(c:LI)(l:zlh b a c=true):∃N,zBB N b a c=some [aH<|zhA b a c,aS .bool<|zhB b a c]:=by
 obtain⟨k,j⟩:=zO.1 l;have f:=zcJ j;refine zcg λN e=>?_;unfold zBB oN;conv=>zeta
 refine must (zbd k) ?_;refine(zbj c (λi (t:lB×lM×lN×lE×lE)=>(a,ln c,(i:Int),t.1,c,[],[],[],[],t.2.1,t.2.2.1,t.2.2.2.1,t.2.2.2.2,())) _ (λ_ (x:Int) (t:HSb) n=>bif zcn (ziz t) a x then (cond (few<|ln<|ap t.1 [(zbv (ziz t) a x).2]) (n (ap t.1 [(zbv (ziz t) a x).2],(zbv (ziz t) a x).1.Memory,(zbv (ziz t) a x).1.Mons,(zbv (ziz t) a x).1.Buffer,(zbv (ziz t) a x).1.IoBuffer)) none) else none) (λ(t:lB×lM×lN×lE×lE)=>some [.agg<|zbn (⟨t.2.1,t.2.2.1,t.2.2.2.1,t.2.2.2.2⟩:Host),.one<|.s .bool t.1]) (λi d t rec=>?_) (λt rec=>?_) _ ([],(zl b).Memory,(zl b).Mons,(zl b).Buffer,(zl b).IoBuffer)<|e f.1).trans ?_;{simp only [zbr d,zZ d,zbk d,zba d f.1,cT];rfl};{simp only [zbl,cF]};exact zyb a (λh g m=>zbd ((zT h).2 m)) c 0 (b,[]) ((zT b).1 k) (by simpa using f.2)
def zGf:vM 40 zlR:=kF3 z4h zU zo zn zOt zNe
def zbcV:zY:=[(17,zyh),(18,zss)]++zx8
def zSj:zS zbcV:=zh zBY (zh ztL zdv)
@[simp] abbrev zQ2 (h:Host)(m:Int):Int:=(ze3 h m).Own
def zIh:Run:=rF2 dH dI λb c=>(zdo b c,[aI<|zQ2 b c])
def zRS (N:Nat)(a:Host)(b:Int):OA:=
 (oN (zxJ a b)<|some [aI (ze3 a b).Own])
def zZw (a:Host)(b:Int)(c:zdo a b=true):∃N,zRS N a b=some [aI<|zQ2 a b]:=by have d:=zO.1 c;refine⟨0,?_⟩;unfold zRS oN;exact must (zbq d) rfl
def zTt:vM 47 zIh:=kF2 zSj zU zo zn (zq []) zZw
@[simp] abbrev zP6 (h:Host)(m:Int):Int:=(zcA h m).Own
def zIc:Run:=rF2 dH dI λb c=>(zdo b c,[aI<|zP6 b c])
def zRF (N:Nat)(a:Host)(b:Int):OA:=
 (oN (zdo a b)<|some [aI (zcA a b).Own])
def zZk (a:Host)(b:Int)(c:zdo a b=true):∃N,zRF N a b=some [aI<|zP6 a b]:=by have d:=zO.1 c;refine⟨0,?_⟩;unfold zRF oN;exact must (zbq d) rfl
def zTg:vM 46 zIc:=kF2 zSj zU zo zn (zq []) zZk
def z4F:zY:=[(250,ziK),(38,zkl),(96,zi7)]++zx8
def zSl:zS z4F:=zh zry (zh zoO<|zh zw5 zdv)
def zmy (b:Bare):Bool:=pc (b.Guests.length<=sm)
def zk2 (b:Bare):LI:=zxl b.Guests 0
def zzU:Run:=rF1 (dT .bare) λb=>(zmy b,[aS .int<|zk2 b])
def zDy (N:Nat)(c:Bare):OA:=
 (iter (σ:=(Int×Int×LI×lM×lG×LI×Unit)) N (λd a=>let b:=a.2.2.2.2.1; (cond (ilt a.1<|ln b) (oN (inb a.1<|ln b)<|oN (zkZ<|ix b a.1 zu)<|cond (zjC<|ix b a.1 zu) (oN (few<|ln<|ap a.2.2.1 [a.1])<|d (zM .i64 a.1 1,a.2.1,ap a.2.2.1 [a.1],a.2.2.2.1,b,a.2.2.2.2.2.1,()))<|d (zM .i64 a.1 1,a.2.1,a.2.2.1,a.2.2.2.1,b,a.2.2.2.2.2.1,()))<|some [aS .int a.2.2.1])) (0,c.Pending,[],c.Memory,c.Guests,c.Outs,()))
def zRm:=zq [(151,0,{n:=24,tm:=[(1,.lp 0 0),(3,.sl 0 []),(4,ti)],lo:=[(0,[.sl 1 [],.sl 2 [],.sl 3 [],ti])],ro:=[(0,.int,true),(1,.sl .int,false),(2,.guest,false),(3,.int,false)]})]
def zQG (a:Bare)(h:zmy a=true):∃N,zDy N a=some [aS .int<|zk2 a]:=by
 have e:=zcJ (zO.1 h);refine zcg λN d=>?_;unfold zDy oN;conv=>zeta
 refine(zbj a.Guests (λi (t:LI)=>((i:Int),a.Pending,t,a.Memory,a.Guests,a.Outs,())) _ (λi (g:Guest) (b:LI) f=>bif canRun g then (cond (few<|ln<|ap b [(i:Int)]) (f<|ap b [(i:Int)]) none) else f b) (λ(t:LI)=>some [.one<|.s .int t]) (λi c t rec=>?_) (λt rec=>?_) _ ([])<|d e.1).trans ?_;{simp only [zbr c,zZ c,zbk c,zba c e.1,cT];rfl};{simp only [zbl,cF]};exact zFV _ a.Guests 0 [] (by simpa using e.2)
def zJE:vM 151 zzU:=kF1 zSl zU zo zn zRm zQG
def zbcW:zY:=[(151,zzU)]++z4F
def zSm:zS zbcW:=zh zJE zSl
def zyT (N:Nat)(b:Host):OA:=
 (iter (σ:=(Int×lM×lM×lN×lE×lE×Unit)) N (λd a=>let c:=(⟨[],(ix a.2.2.2.1 a.1 zi).Guests,[],0⟩:Bare); (cond (ilt a.1<|ln a.2.2.2.1) (oN (inb a.1<|ln a.2.2.2.1)<|oN (zmy c)<|oN (few<|ln<|ap a.2.1 [zk2 c])<|d (zM .i64 a.1 1,ap a.2.1 [zk2 c],a.2.2.1,a.2.2.2.1,a.2.2.2.2.1,a.2.2.2.2.2.1,()))<|some [aS (.sl .int) a.2.1])) (0,[],b.Memory,b.Mons,b.Buffer,b.IoBuffer,()))
def zKL:=zq [(50,0,{n:=25,tm:=[(1,.lp 0 0),(3,.sl 0 []),(4,ti)],lo:=[(0,[.sl 1 [],.sl 2 [],.sl 3 [],.sl 4 []])],ro:=[(0,.sl .int,true),(1,.sl .int,false),(2,.mon,false),(3,.entry,false),(4,.entry,false)]})]
def zJ9 (a:Host)(f:zj7 a=true):∃N,zyT N a=some [aS (.sl .int)<|ziC a]:=by
 have h:=(zO.1 f).mons;have e:=zcJ h.len;refine zcg λN d=>?_;unfold zyT oN;conv=>zeta
 refine(zbj a.Mons (λi (t:lM)=>((i:Int),t,a.Memory,a.Mons,a.Buffer,a.IoBuffer,())) _ (λ_ (x:Mon) (b:List LI) j=>bif zmy ⟨[],x.Guests,[],0⟩ then (cond (few<|ln<|ap b [zk2 ⟨[],x.Guests,[],0⟩]) (j<|ap b [zk2 ⟨[],x.Guests,[],0⟩]) none) else none) (λ(t:lM)=>some [.one<|.s (.sl .int) t]) (λi c t rec=>?_) (λt rec=>?_) _ ([])<|d e.1).trans ?_;{simp only [zbr c,zZ c,zbk c,zba c e.1,cT];try rfl};{simp only [zbl,cF]};exact zOL (λx=>zmy ⟨[],x.Guests,[],0⟩) (λx=>zk2 ⟨[],x.Guests,[],0⟩) _ a.Mons 0 [] (λx g=>zbd (h.inv.2 x g (.s .guest x.Guests) (by simp[Ty.cells])).len) (by simpa using e.2)
def zEq:vM 50 zkW:=kF1 zSm zU zo zn zKL zJ9
def zBT (N:Nat)(b:Host)(g:Int)(h:LI):OA:=
 (oN (zbt b)<|iter (σ:=(Int×Int×LI×lB×lM×lN×lE×lE×lM×lN×lE×lE×Unit)) N (λi a=>let e:=ix a.2.2.1 a.2.1 0;let c:=(⟨a.2.2.2.2.1,a.2.2.2.2.2.1,a.2.2.2.2.2.2.1,a.2.2.2.2.2.2.2.1⟩:Host);let f:=ap a.2.2.2.1 [zbT c a.1 e];let d:=zb3 c a.1 e; (cond (ilt a.2.1<|ln a.2.2.1) (oN (inb a.2.1<|ln a.2.2.1)<|oN (zcn c a.1 e)<|oN (few<|ln f)<|i (a.1,zM .i64 a.2.1 1,a.2.2.1,f,d.Memory,d.Mons,d.Buffer,d.IoBuffer,a.2.2.2.2.2.2.2.2.1,a.2.2.2.2.2.2.2.2.2.1,a.2.2.2.2.2.2.2.2.2.2.1,a.2.2.2.2.2.2.2.2.2.2.2.1,()))<|some [aH c,aS .bool a.2.2.2.1])) (g,0,h,[],(zl b).Memory,(zl b).Mons,(zl b).Buffer,(zl b).IoBuffer,[],[],[],[],()))
def zOC:=zq [(41,0,{n:=36,tm:=[(1,ti),(2,.sl 0 []),(3,.lp 0 0),(6,.lp 1 0),(8,.sl 1 []),(9,ti)],lo:=[(0,[.sl 2 [],.sl 3 [],.sl 4 [],.sl 5 []]),(1,[.sl 6 [],.sl 7 [],.sl 8 [],.sl 9 []])],ro:=[(0,.int,false),(1,.bool,true),(2,.sl .int,true),(3,.mon,true),(4,.entry,true),(5,.entry,true),(6,.sl .int,true),(7,.mon,true),(8,.entry,true),(9,.entry,true)]})]
def zNw (b:Host)(a:Int)(c:LI)(l:zlh b a c=true):∃N,zBT N b a c=some [aH<|zhA b a c,aS .bool<|zhB b a c]:=by
 obtain⟨k,j⟩:=zO.1 l;have f:=zcJ j;refine zcg λN e=>?_;unfold zBT oN;conv=>zeta
 refine must (zbd k) ?_;refine(zbj c (λi (t:lB×lM×lN×lE×lE)=>(a,(i:Int),c,t.1,t.2.1,t.2.2.1,t.2.2.2.1,t.2.2.2.2,[],[],[],[],())) _ (λ_ (x:Int) (t:HSb) n=>bif zcn (ziz t) a x then (cond (few<|ln<|ap t.1 [(zbv (ziz t) a x).2]) (n (ap t.1 [(zbv (ziz t) a x).2],(zbv (ziz t) a x).1.Memory,(zbv (ziz t) a x).1.Mons,(zbv (ziz t) a x).1.Buffer,(zbv (ziz t) a x).1.IoBuffer)) none) else none) (λ(t:lB×lM×lN×lE×lE)=>some [.agg<|zbn (⟨t.2.1,t.2.2.1,t.2.2.2.1,t.2.2.2.2⟩:Host),.one<|.s .bool t.1]) (λi d t rec=>?_) (λt rec=>?_) _ ([],(zl b).Memory,(zl b).Mons,(zl b).Buffer,(zl b).IoBuffer)<|e f.1).trans ?_;{simp only [zbr d,zZ d,zbk d,zba d f.1,cT];rfl};{simp only [zbl,cF]};exact zyb a (λh g m=>zbd ((zT h).2 m)) c 0 (b,[]) ((zT b).1 k) (by simpa using f.2)
def zGu:vM 41 zlR:=kF3 zSm zU zo zn zOC zNw
def spS:List Slot->LI->Option LI
 |[],u=>some u
 |s::l,u=>bif ieq s.Page (-1) then spS l u else (cond (u.any λz=>ieq z s.Page) none<|spS l<|ap u [s.Page])
def spM:List Mon->LI->Bool
 |[],_=>true
 |m::l,u=>match spS m.Outer u with
  |none=>false
  |some v=>spM l v
def zpj:List Mon->Nat
 |[]=>0
 |m::l=>m.Outer.length+zpj l
def zuy (h:Host):Bool:=spM h.Mons []
def z6R (h:Host):zuy h=spM h.Mons []:=rfl
def zbdA {l:List Slot}{j:Nat}(a:j<l.length)(u:LI):spS (l.drop j) u=bif ieq l[j].Page (-1) then spS (l.drop<|j+1) u else (cond (u.any λz=>ieq z l[j].Page) none<|spS (l.drop<|j+1)<|ap u [l[j].Page]):=by rw[j6 a];rfl
def z2O {l:List Mon}{i:Nat}(a:i<l.length):zpj (l.drop i)=l[i].Outer.length+zpj (l.drop<|i+1):=by rw[j6 a];rfl
def resP (x:Option LI)(l:List Mon):OA:=some [AV.one<|.b (match x with|none=>false|some v=>spM l v)]
def z6L (h:Host):Prop:=zdm h/\zpj h.Mons<=16777216
@[simp] abbrev zrS (h:Host):Bool:=pc (z6L h)
@[simp] abbrev zwd (h:Host):Bool:=zuy h
def zv1:Run:=rF1 dH λb=>(zrS b,[aB<|zwd b])
def zyS (N:Nat)(f:Host):OA:=
 (iter (σ:=(Int×LI×lM×lN×lE×lE×Unit)) N (λk c=>cond (ilt c.1<|ln c.2.2.2.1) (iter (σ:=(Int×Int×LI×lM×lN×lE×lE×Unit)) N (λi a=>let h:=a.2.2.2.2.2.2.1;let d:=a.2.2.2.2.1;let g:=(ix d a.1 zi).Outer;let j:=(ix g a.2.1 zX).Page; (oN (inb a.1<|ln d)<|cond (ilt a.2.1<|ln g) (oN (inb a.1<|ln d)<|oN (inb a.2.1<|ln g)<|cond (ieq j<|-1) (i (a.1,zM .i64 a.2.1 1,a.2.2.1,a.2.2.2.1,d,a.2.2.2.2.2.1,h,()))<|iter (σ:=(Int×Int×Int×Int×LI×lM×lN×lE×lE×Unit)) N (λl b=>let e:=b.2.2.2.2.1; (cond (ilt b.2.2.2.1<|ln e) (oN (inb b.2.2.2.1<|ln e)<|cond (ieq (ix e b.2.2.2.1 0) b.2.2.1) oF<|l (b.1,b.2.1,b.2.2.1,zM .i64 b.2.2.2.1 1,e,b.2.2.2.2.2.1,b.2.2.2.2.2.2.1,b.2.2.2.2.2.2.2.1,b.2.2.2.2.2.2.2.2.1,()))<|oN (few<|ln<|ap e [b.2.2.1])<|i (b.1,zM .i64 b.2.1 1,ap e [b.2.2.1],b.2.2.2.2.2.1,b.2.2.2.2.2.2.1,b.2.2.2.2.2.2.2.1,b.2.2.2.2.2.2.2.2.1,()))) (a.1,a.2.1,j,0,a.2.2.1,a.2.2.2.1,d,a.2.2.2.2.2.1,h,()))<|k (zM .i64 a.1 1,a.2.2.1,a.2.2.2.1,d,a.2.2.2.2.2.1,h,()))) (c.1,0,c.2.1,c.2.2.1,c.2.2.2.1,c.2.2.2.2.1,c.2.2.2.2.2.1,())) oT) (0,[],f.Memory,f.Mons,f.Buffer,f.IoBuffer,()))
def zKK:=zq [(152,0,{n:=55,tm:=[(1,.lp 0 0),(3,.sl 0 []),(4,ti)],lo:=[(0,[.sl 1 [],.sl 2 [],.sl 3 [],.sl 4 []])],ro:=[(0,.int,true),(1,.sl .int,false),(2,.mon,false),(3,.entry,false),(4,.entry,false)]}),(152,2,{n:=55,tm:=[(1,.lp 0 0),(3,.sl 0 []),(4,ti),(5,ti)],lo:=[(0,[.sl 1 [],.sl 2 [],.sl 3 [],.sl 4 []])],ro:=[(0,.int,true),(1,.sl .int,false),(2,.mon,false),(3,.entry,false),(4,.entry,false)]}),(152,4,{n:=55,tm:=[(1,.lp 0 0),(3,.sl 0 []),(4,ti),(5,ti),(6,ti),(7,ti)],lo:=[(0,[.sl 1 [],.sl 2 [],.sl 3 [],.sl 4 []])],ro:=[(0,.int,true),(1,.sl .int,false),(2,.mon,false),(3,.entry,false),(4,.entry,false)]})]
def zJ8 (a:Host)(x:zrS a=true):∃N,zyS N a=some [aB<|zwd a]:=by
 obtain⟨r,y⟩:=zO.1 x;have q:=zcJ r.mons.len;refine zcg λN f=>?_;unfold zyS oN;conv=>zeta
 show _=some [AV.one<|.b<|zuy a];rw[z6R];refine(zuV a.Mons.length (λi (t:LI)=>((i:Int),t,a.Memory,a.Mons,a.Buffer,a.IoBuffer,())) _ (λi t=>t.length+zpj (a.Mons.drop i)<=16777216) (λi t=>some [AV.one<|.b<|spM (a.Mons.drop i) t]) (λi t rec c m A=>?_) (λt rec m=>?_) N 0 [] (by simpa using y) (jW _)<|f q.1).trans (by simp);{have C:a.Mons[i].Outer.length<=1048576:=(r.mons.inv.2 _ (jG c) (.s .slot _) (by simp[Ty.cells])).len;have h:a.Mons[i].Outer.length<=big:=(by rw[zly];omega);rw[z2O c]at m;simp only[zbr c,cT];refine(zuV a.Mons[i].Outer.length (λj (u:LI)=>((i:Int),(j:Int),u,a.Memory,a.Mons,a.Buffer,a.IoBuffer,())) _ (λj u=>u.length+(a.Mons[i].Outer.length-j)+zpj (a.Mons.drop<|i+1)<=16777216) (λj u=>resP (spS (a.Mons[i].Outer.drop j) u) (a.Mons.drop<|i+1)) (λj u e g p k=>?_) (λu e p=>?_) N 0 t (by omega) (jW _)<|f h).trans ?_;{simp only [zZ c,zbk c,zbr g,zZ g,zbk g,cT];rw[zbdA g];have w:=zba g h;cases D:ieq a.Mons[i].Outer[j].Page (-1);{simp only [cF];have v:u.length<=big:=(by rw[zly];omega);refine(zbj u (λn (_:Unit)=>((i:Int),(j:Int),a.Mons[i].Outer[j].Page,(n:Int),u,a.Memory,a.Mons,a.Buffer,a.IoBuffer,())) _ (λ_ z (_:Unit) B=>bif ieq z a.Mons[i].Outer[j].Page then oF else B ()) (λ_=>e ((i:Int),((j+1:Nat):Int),ap u [a.Mons[i].Outer[j].Page],a.Memory,a.Mons,a.Buffer,a.IoBuffer,())) (λn d _ l=>?_) (λ_ l=>?_) N ()<|f v).trans ?_;{simp only [zbr d,zZ d,zbk d,zba d v,cT]};{simp only [zbl,cF,w];rw[zfP (by simp[ap];omega),cT]};{rw [zVU λz=>ieq z a.Mons[i].Outer[j].Page,k _ (by simp[ap];omega)];cases u.any (λz=>ieq z a.Mons[i].Outer[j].Page)<;>rfl}};{simp only [cT,w];exact k u (by omega)}};{simp only [zZ c,zbk c,zbl,cT,cF,zba c q.1,vH];exact A u (by simpa using p)};{rw [j6 c];rfl}};{simp only [zbl,cF,vH];rfl}
def zEp:vM 152 zv1:=kF1 zdv zU zo zn zKK zJ8
def zbdQ:zY:=[(152,zv1),(153,znI),(154,zmt),(28,zms)]++zx8
def z7E:zS zbdQ:=zh zEp (zh zrg<|zh zpK<|zh zzb zdv)
def zHZ:∀(l:List Mon) (u:List Bool),ziA l u=true->∀x∈l,zeq x=true
 |[],_,_,x,a=>by cases a
 |m::l,u,h,x,a=>by
  unfold ziA at h;cases b:zeq m;{rw [b]at h;cases h}
  .rw [b]at h;simp only[cT]at h;cases c:zht m.Outer u with
   |none=>rw[c]at h;cases h
   |some d =>rw[c]at h;rcases qG.1 a with rfl|a;{exact b};{exact zHZ l d h x a}
def zZd {h:Host}(a:zb2 h=true):∀x∈h.Mons,zeq x=true:=by unfold zb2 at a;simp only[zdu]at a;exact zHZ _ _ a.2.2.2.2
def zSJ:∀l:List Mon,(∀x∈l,zeq x=true)->zpj l=8*l.length
 |[],_=>rfl
 |m::l,h=>by have c:=zps (zlD<|h m (by simp));have a:=zSJ l (λx b=>h x (by simp[b]));simp only[zpj,qV,a,ln] at *;omega
def z3S {h:Host}(b:zdm h)(a:zb2 h=true):z6L h:=by refine⟨b,?_⟩;rw[zSJ _<|zZd a];have:=zM4 a;omega
def zo2 (h:Host):Bool:=bif zb2 h then (cond (zuy h) (cond (zsX h) (cond (zj2 h h.Buffer) (zj2 h h.IoBuffer) false) false) false) else false
@[simp] abbrev zno (h:Host):Bool:=zo2 h
def zzV:Run:=rF1 dH λb=>(zbt b,[aB<|zno b])
def zDz (N:Nat)(a:Host):OA:=
 (oN (zeb a)<|cond (zdZ a) (oN (zrS a)<|cond (zwd a) (oN (zqJ a)<|cond (zja a) (oN (zk0 a a.Buffer)<|cond (zgR a a.Buffer) (oN (zk0 a a.IoBuffer)<|some [aB<|zgR a a.IoBuffer]) oF) oF) oF) oF)
def zQH (a:Host)(b:zbt a=true):∃N,zDz N a=some [aB<|zno a]:=by have c:=zO.1 b;have d:zb2 a=true->z6L a:=z3S c;refine⟨0,?_⟩;unfold zDz oN;refine must rfl (br (λ_=>mu (br (λ_=>must rfl (br (λ_=>must rfl (br (λ_=>must rfl ?_) λ_=>?_)) λ_=>?_)) λ_=>?_)) λ_=>?_);all_goals first|rfl|(simp only [*,zno,zo2,zja,zgR,cT,cF]<;>rfl)|simp_all[Ty.cells,zno,zo2,zja,zgR]
def zJF:vM 51 zzV:=kF1 z7E zA zo zn (zq []) zQH
def zfu (x y:LI):Bool:=pc (x=y)
def zgn (_ _:LI):Bool:=true
def zzM:Run:=rF2 (dS .int) (dS .int) λb c=>(zfu b c,[aB<|zgn b c])
def zDi (N:Nat)(b c:LI):OA:=
 (cond (ine (ln b)<|ln c) oF<|iter (σ:=(Int×LI×LI×Unit)) N (λd a=>cond (ilt a.1<|ln a.2.1) (oN (inb a.1<|ln a.2.1)<|oN (inb a.1<|ln a.2.2.1)<|cond (ine (ix a.2.1 a.1 0)<|ix a.2.2.1 a.1 0) oF<|d (zM .i64 a.1 1,a.2.1,a.2.2.1,())) oT) (0,b,c,()))
def zRg:=zq [(63,0,{n:=26,tm:=[(0,.sl 0 []),(1,.sl 1 []),(5,ti)],lo:=[],ro:=[(0,.int,false),(1,.int,false)]})]
def zQt (a b:LI)(d:zbL big [aS .int a,aS .int b])(e:zfu a b=true):∃N,zDi N a b=some [aB<|zgn a b]:=by have:=zO.1 e;subst this;have f:=len0 d;refine⟨a.length+1,?_⟩;unfold zDi oN;rw[zdl];refine zmZ a zbeg _ _ f (λi c rec=>?_) (λrec=>?_) (j3 _);{simp only [zbr c,zZ c,zbk c,zp2,zdl,zeZ,zeE,cT,cF,jT,jV]};{simp only [zbl,cF,zgn]}
def zJs:vM 63 zzM:=hF2 zdv zU zo zn zRg zQt
def zhE (x y:List Bool):Bool:=pc (x=y)
def zh3 (_ _:List Bool):Bool:=true
def zp6:Run:=rF2 (dS .bool) (dS .bool) λb c=>(zhE b c,[aB<|zh3 b c])
def zBG (N:Nat)(b c:lB):OA:=
 (cond (ine (ln b)<|ln c) oF<|iter (σ:=(Int×lB×lB×Unit)) N (λd a=>cond (ilt a.1<|ln a.2.1) (oN (inb a.1<|ln a.2.1)<|oN (inb a.1<|ln a.2.2.1)<|cond (nB<|zj0 (ix a.2.1 a.1 false)<|ix a.2.2.1 a.1 false) oF<|d (zM .i64 a.1 1,a.2.1,a.2.2.1,())) oT) (0,b,c,()))
def zOu:=zq [(45,0,{n:=26,tm:=[(0,.sl 0 []),(1,.sl 1 []),(5,ti)],lo:=[],ro:=[(0,.bool,false),(1,.bool,false)]})]
def zNk (a b:List Bool)(d:zbL big [aS .bool a,aS .bool b])(e:zhE a b=true):∃N,zBG N a b=some [aB<|zh3 a b]:=by have:=zO.1 e;subst this;have f:=len0 d;refine⟨a.length+1,?_⟩;unfold zBG oN nB;rw[zdl];refine zmZ a zbdG _ _ f (λi c rec=>?_) (λrec=>?_) (j3 _);{simp only [zbr c,zZ c,zbk c,zp2,zdl,zeZ,zeE,cT,cF,jT,jV]};{simp only [zbl,cF,zh3]}
def zt9:vM 45 zp6:=hF2 zdv zU zo zn zOu zNk
def zfD (x y:List Slot):Bool:=pc (x=y)
def zf3 (_ _:List Slot):Bool:=true
def zxs:Run:=rF2 (dS .slot) (dS .slot) λb c=>(zfD b c,[aB<|zf3 b c])
def zBK (N:Nat)(b c:lS):OA:=
 (cond (ine (ln b)<|ln c) oF<|iter (σ:=(Int×lS×lS×Unit)) N (λf a=>let e:=ix a.2.1 a.1 zX;let d:=ix a.2.2.1 a.1 zX; (cond (ilt a.1<|ln a.2.1) (oN (inb a.1<|ln a.2.1)<|oN (inb a.1<|ln a.2.2.1)<|cond (nB<|cond (ieq e.Page d.Page) (ieq e.Rights d.Rights) false) oF<|f (zM .i64 a.1 1,a.2.1,a.2.2.1,())) oT)) (0,b,c,()))
def zOx:=zq [(83,0,{n:=26,tm:=[(0,.sl 0 []),(1,.sl 1 []),(5,ti)],lo:=[],ro:=[(0,.slot,false),(1,.slot,false)]})]
def zNo (a b:List Slot)(d:zbL big [aS .slot a,aS .slot b])(e:zfD a b=true):∃N,zBK N a b=some [aB<|zf3 a b]:=by
 have:=zO.1 e;subst this;have f:=len0 d;refine⟨a.length+1,?_⟩;unfold zBK oN nB;conv=>zeta
 rw[zdl];refine zmZ a zX _ _ f (λi c rec=>?_) (λrec=>?_) (j3 _);{simp only [zbr c,zZ c,zbk c,zp2,zdl,zeZ,zeE,cT,cF,jT,jV]};{simp only [zbl,cF,zf3]}
def zGn:vM 83 zxs:=hF2 zdv zU zo zn zOx zNo
def zkb (x y:List Entry):Bool:=pc (x=y)
def zka (_ _:List Entry):Bool:=true
def zvV:Run:=rF2 (dS .entry) (dS .entry) λb c=>(zkb b c,[aB<|zka b c])
def zyI (N:Nat)(d e:lE):OA:=
 (cond (ine (ln d)<|ln e) oF<|iter (σ:=(Int×lE×lE×Unit)) N (λf a=>let c:=ix a.2.1 a.1 zeR;let b:=ix a.2.2.1 a.1 zeR; (cond (ilt a.1<|ln a.2.1) (oN (inb a.1<|ln a.2.1)<|oN (inb a.1<|ln a.2.2.1)<|cond (nB<|cond (ieq c.Tag b.Tag) (cond (ieq c.Page b.Page) (cond (ieq c.Host b.Host) (ieq c.Rights b.Rights) false) false) false) oF<|f (zM .i64 a.1 1,a.2.1,a.2.2.1,())) oT)) (0,d,e,()))
def zKH:=zq [(81,0,{n:=26,tm:=[(0,.sl 0 []),(1,.sl 1 []),(5,ti)],lo:=[],ro:=[(0,.entry,false),(1,.entry,false)]})]
def zJZ (a b:List Entry)(d:zbL big [aS .entry a,aS .entry b])(e:zkb a b=true):∃N,zyI N a b=some [aB<|zka a b]:=by
 have:=zO.1 e;subst this;have f:=len0 d;refine⟨a.length+1,?_⟩;unfold zyI oN nB;conv=>zeta
 rw[zdl];refine zmZ a zeR _ _ f (λi c rec=>?_) (λrec=>?_) (j3 _);{simp only [zbr c,zZ c,zbk c,zp2,zdl,zeZ,zeE,cT,cF,jT,jV]};{simp only [zbl,cF,zka]}
def zEi:vM 81 zvV:=hF2 zdv zU zo zn zKH zJZ
def zpS (x y:List Ins):Bool:=pc (x=y)
def zpR (_ _:List Ins):Bool:=true
def zzL:Run:=rF2 (dS .ins) (dS .ins) λb c=>(zpS b c,[aB<|zpR b c])
def zDh (N:Nat)(b c:lI):OA:=
 (cond (ine (ln b)<|ln c) oF<|iter (σ:=(Int×lI×lI×Unit)) N (λf a=>let e:=ix a.2.1 a.1 zsY;let d:=ix a.2.2.1 a.1 zsY; (cond (ilt a.1<|ln a.2.1) (oN (inb a.1<|ln a.2.1)<|oN (inb a.1<|ln a.2.2.1)<|cond (nB<|cond (ieq e.Op d.Op) (ieq e.X d.X) false) oF<|f (zM .i64 a.1 1,a.2.1,a.2.2.1,())) oT)) (0,b,c,()))
def zRf:=zq [(278,0,{n:=26,tm:=[(0,.sl 0 []),(1,.sl 1 []),(5,ti)],lo:=[],ro:=[(0,.ins,false),(1,.ins,false)]})]
def zQs (a b:List Ins)(d:zbL big [aS .ins a,aS .ins b])(e:zpS a b=true):∃N,zDh N a b=some [aB<|zpR a b]:=by
 have:=zO.1 e;subst this;have f:=len0 d;refine⟨a.length+1,?_⟩;unfold zDh oN nB;conv=>zeta
 rw[zdl];refine zmZ a zsY _ _ f (λi c rec=>?_) (λrec=>?_) (j3 _);{simp only [zbr c,zZ c,zbk c,zp2,zdl,zeZ,zeE,cT,cF,jT,jV]};{simp only [zbl,cF,zpR]}
def zJr:vM 278 zzL:=hF2 zdv zU zo zn zRf zQs
def z4G:zY:=[(63,zzM),(45,zp6),(83,zxs),(81,zvV),(278,zzL)]++zx8
def zwM:zS z4G:=zh zJs (zh zt9<|zh zGn<|zh zEi<|zh zJr zdv)
def zfC (x y:List LI):Bool:=pc (x=y)
def zf2 (_ _:List LI):Bool:=true
def zp7:Run:=rF2 (dS<|.sl .int) (dS<|.sl .int) λb c=>(zfC b c,[aB<|zf2 b c])
def zBJ (N:Nat)(b:lM)(c:lM):OA:=
 (cond (ine (ln b)<|ln c) oF<|iter (σ:=(Int×lM×lM×Unit)) N (λd a=>cond (ilt a.1<|ln a.2.1) (oN (inb a.1<|ln a.2.1)<|oN (inb a.1<|ln a.2.2.1)<|oN (zfu (ix a.2.1 a.1 [])<|ix a.2.2.1 a.1 [])<|cond (nB<|zgn (ix a.2.1 a.1 [])<|ix a.2.2.1 a.1 []) oF<|d (zM .i64 a.1 1,a.2.1,a.2.2.1,())) oT) (0,b,c,()))
def zOw:=zq [(48,0,{n:=27,tm:=[(0,.sl 0 []),(1,.sl 1 []),(5,ti)],lo:=[],ro:=[(0,.sl .int,false),(1,.sl .int,false)]})]
def zNn (a:List LI)(b:List LI)(d:zbL big [aS (.sl .int) a,aS (.sl .int) b])(e:zfC a b=true):∃N,zBJ N a b=some [aB<|zf2 a b]:=by have:=zO.1 e;subst this;have f:=len0 d;refine⟨a.length+1,?_⟩;unfold zBJ oN nB;rw[zdl];refine zmZ a (Ty.dflt<|.sl .int) _ _ f (λi c rec=>?_) (λrec=>?_) (j3 _);{simp only [zbr c,zZ c,zbk c,zfu,zgn,zp2,zdl,zeZ,zeE,cT,cF,jT,jV]};{simp only [zbl,cF,zf2]}
def zua:vM 48 zp7:=hF2 zwM zU zo zn zOw zNn
def zpU (x y:Kept):Bool:=pc (x=y)
def zpT (_ _:Kept):Bool:=true
def zzN:Run:=rF2 (dT .kept) (dT .kept) λb c=>(zpU b c,[aB<|zpT b c])
def zDj (N:Nat)(a b:Kept):OA:=
 (oN (zhE a.Known b.Known)<|cond (zh3 a.Known b.Known) (oN (zfD a.Slots b.Slots)<|some [aB<|zf3 a.Slots b.Slots]) oF)
def zQu (a b:Kept)(c:zpU a b=true):∃N,zDj N a b=some [aB<|zpT a b]:=by have:=zO.1 c;subst this;refine⟨0,?_⟩;simp only[zDj,zhE,zh3,zfD,zf3,zp2,zdl,zeZ,zeE,cT,cF,jT,jV,zpT]
def zJt:vM 188 zzN:=kF2 zwM zU zo zn (zq []) zQu
def zon (x y:Guest):Bool:=pc (x=y)
def znS (_ _:Guest):Bool:=true
def zxq:Run:=rF2 (dT .guest) (dT .guest) λb c=>(zon b c,[aB<|znS b c])
def zBH (N:Nat)(a b:Guest):OA:=
 (oN (zpS a.Prog b.Prog)<|cond (zpR a.Prog b.Prog) (cond (ieq a.A b.A) (cond (ieq a.Pc b.Pc) (oN (zfD a.Written b.Written)<|cond (zf3 a.Written b.Written) (oN (zfD a.Live b.Live)<|cond (zf3 a.Live b.Live) (cond (cond (ieq a.Ctl.Traps b.Ctl.Traps) (cond (ieq a.Ctl.Post b.Ctl.Post) (zj0 a.Ctl.Open b.Ctl.Open) false) false) (cond (ieq a.Pending b.Pending) (cond (cond (ieq a.Exit.Kind b.Exit.Kind) (cond (ieq a.Exit.Page b.Exit.Page) (cond (zj0 a.Exit.Write b.Exit.Write) (ieq a.Exit.N b.Exit.N) false) false) false) (cond (zj0 a.Halted b.Halted) (oN (zfu a.Seen b.Seen)<|some [aB<|zgn a.Seen b.Seen]) oF) oF) oF) oF) oF) oF) oF) oF) oF)
def zNl (a b:Guest)(c:zon a b=true):∃N,zBH N a b=some [aB<|znS a b]:=by have:=zO.1 c;subst this;refine⟨0,?_⟩;simp only[zBH,zpS,zpR,zfD,zf3,zfu,zgn,zp2,zdl,zeZ,zeE,cT,cF,jT,jV,znS]
def zGl:vM 187 zxq:=kF2 zwM zU zo zn (zq []) zNl
def z4H:zY:=[(48,zp7),(188,zzN),(187,zxq)]++z4G
def zD0:zS z4H:=zh zua (zh zJt<|zh zGl zwM)
def zoo (x y:List Kept):Bool:=pc (x=y)
def znT (_ _:List Kept):Bool:=true
def zxr:Run:=rF2 (dS .kept) (dS .kept) λb c=>(zoo b c,[aB<|znT b c])
def zBI (N:Nat)(b c:lK):OA:=
 (cond (ine (ln b)<|ln c) oF<|iter (σ:=(Int×lK×lK×Unit)) N (λf a=>let e:=ix a.2.1 a.1 zdz;let d:=ix a.2.2.1 a.1 zdz; (cond (ilt a.1<|ln a.2.1) (oN (inb a.1<|ln a.2.1)<|oN (inb a.1<|ln a.2.2.1)<|oN (zpU e d)<|cond (nB<|zpT e d) oF<|f (zM .i64 a.1 1,a.2.1,a.2.2.1,())) oT)) (0,b,c,()))
def zOv:=zq [(85,0,{n:=27,tm:=[(0,.sl 0 []),(1,.sl 1 []),(5,ti)],lo:=[],ro:=[(0,.kept,false),(1,.kept,false)]})]
def zNm (a b:List Kept)(d:zbL big [aS .kept a,aS .kept b])(e:zoo a b=true):∃N,zBI N a b=some [aB<|znT a b]:=by
 have:=zO.1 e;subst this;have f:=len0 d;refine⟨a.length+1,?_⟩;unfold zBI oN nB;conv=>zeta
 rw[zdl];refine zmZ a zdz _ _ f (λi c rec=>?_) (λrec=>?_) (j3 _);{simp only [zbr c,zZ c,zbk c,zpU,zpT,zp2,zdl,zeZ,zeE,cT,cF,jT,jV]};{simp only [zbl,cF,znT]}
def zGm:vM 85 zxr:=hF2 zD0 zU zo zn zOv zNm
def zin (x y:List Guest):Bool:=pc (x=y)
def ziF (_ _:List Guest):Bool:=true
def zvW:Run:=rF2 (dS .guest) (dS .guest) λb c=>(zin b c,[aB<|ziF b c])
def zyJ (N:Nat)(b c:lG):OA:=
 (cond (ine (ln b)<|ln c) oF<|iter (σ:=(Int×lG×lG×Unit)) N (λf a=>let e:=ix a.2.1 a.1 zu;let d:=ix a.2.2.1 a.1 zu; (cond (ilt a.1<|ln a.2.1) (oN (inb a.1<|ln a.2.1)<|oN (inb a.1<|ln a.2.2.1)<|oN (zon e d)<|cond (nB<|znS e d) oF<|f (zM .i64 a.1 1,a.2.1,a.2.2.1,())) oT)) (0,b,c,()))
def zKI:=zq [(84,0,{n:=27,tm:=[(0,.sl 0 []),(1,.sl 1 []),(5,ti)],lo:=[],ro:=[(0,.guest,false),(1,.guest,false)]})]
def zJ0 (a b:List Guest)(d:zbL big [aS .guest a,aS .guest b])(e:zin a b=true):∃N,zyJ N a b=some [aB<|ziF a b]:=by
 have:=zO.1 e;subst this;have f:=len0 d;refine⟨a.length+1,?_⟩;unfold zyJ oN nB;conv=>zeta
 rw[zdl];refine zmZ a zu _ _ f (λi c rec=>?_) (λrec=>?_) (j3 _);{simp only [zbr c,zZ c,zbk c,zon,znS,zp2,zdl,zeZ,zeE,cT,cF,jT,jV]};{simp only [zbl,cF,ziF]}
def zEj:vM 84 zvW:=hF2 zD0 zU zo zn zKI zJ0
def z4I:zY:=[(85,zxr),(84,zvW)]++z4H
def zD1:zS z4I:=zh zGm (zh zEj zD0)
def zsi (x y:Mon):Bool:=pc (x=y)
def ztj (_ _:Mon):Bool:=true
def zCh:Run:=rF2 (dT .mon) (dT .mon) λb c=>(zsi b c,[aB<|ztj b c])
def zHg (N:Nat)(a b:Mon):OA:=
 (oN (zfD a.Outer b.Outer)<|cond (zf3 a.Outer b.Outer) (oN (zfC a.Out b.Out)<|cond (zf2 a.Out b.Out) (oN (zhE a.Dirty b.Dirty)<|cond (zh3 a.Dirty b.Dirty) (oN (zin a.Guests b.Guests)<|cond (ziF a.Guests b.Guests) (oN (zfu a.Outs b.Outs)<|cond (zgn a.Outs b.Outs) (cond (ieq a.Pending b.Pending) (cond (ieq a.Traps b.Traps) (oN (zoo a.Tables b.Tables)<|cond (znT a.Tables b.Tables) (some [aB<|ieq a.Own b.Own]) oF) oF) oF) oF) oF) oF) oF) oF)
def zTO (a b:Mon)(c:zsi a b=true):∃N,zHg N a b=some [aB<|ztj a b]:=by have:=zO.1 c;subst this;refine⟨0,?_⟩;simp only[zHg,zfD,zf3,zfC,zf2,zhE,zh3,zin,ziF,zfu,zgn,zoo,znT,zp2,zdl,zeZ,zeE,cT,cF,jT,jV,ztj]
def zMs:vM 14 zCh:=kF2 zD1 zU zo zn (zq []) zTO
def zvJ (x y:Bare):Bool:=pc (x=y)
def zut (_ _:Bare):Bool:=true
def zrK:Run:=rF2 (dT .bare) (dT .bare) λb c=>(zvJ b c,[aB<|zut b c])
def zDf (N:Nat)(a b:Bare):OA:=
 (oN (zfC a.Memory b.Memory)<|cond (zf2 a.Memory b.Memory) (oN (zin a.Guests b.Guests)<|cond (ziF a.Guests b.Guests) (oN (zfu a.Outs b.Outs)<|cond (zgn a.Outs b.Outs) (some [aB<|ieq a.Pending b.Pending]) oF) oF) oF)
def zQq (a b:Bare)(c:zvJ a b=true):∃N,zDf N a b=some [aB<|zut a b]:=by have:=zO.1 c;subst this;refine⟨0,?_⟩;simp only[zDf,zfC,zf2,zin,ziF,zfu,zgn,zp2,zdl,zeZ,zeE,cT,cF,jT,jV,zut]
def zvx:vM 54 zrK:=kF2 zD1 zU zo zn (zq []) zQq
def z4J:zY:=[(14,zCh),(54,zrK)]++z4I
def zSn:zS z4J:=zh zMs (zh zvx zD1)
def zpW (x y:List Mon):Bool:=pc (x=y)
def zpV (_ _:List Mon):Bool:=true
def zzO:Run:=rF2 (dS .mon) (dS .mon) λb c=>(zpW b c,[aB<|zpV b c])
def zDk (N:Nat)(b c:lN):OA:=
 (cond (ine (ln b)<|ln c) oF<|iter (σ:=(Int×lN×lN×Unit)) N (λf a=>let e:=ix a.2.1 a.1 zi;let d:=ix a.2.2.1 a.1 zi; (cond (ilt a.1<|ln a.2.1) (oN (inb a.1<|ln a.2.1)<|oN (inb a.1<|ln a.2.2.1)<|oN (zsi e d)<|cond (nB<|ztj e d) oF<|f (zM .i64 a.1 1,a.2.1,a.2.2.1,())) oT)) (0,b,c,()))
def zRh:=zq [(80,0,{n:=27,tm:=[(0,.sl 0 []),(1,.sl 1 []),(5,ti)],lo:=[],ro:=[(0,.mon,false),(1,.mon,false)]})]
def zQv (a b:List Mon)(d:zbL big [aS .mon a,aS .mon b])(e:zpW a b=true):∃N,zDk N a b=some [aB<|zpV a b]:=by
 have:=zO.1 e;subst this;have f:=len0 d;refine⟨a.length+1,?_⟩;unfold zDk oN nB;conv=>zeta
 rw[zdl];refine zmZ a zi _ _ f (λi c rec=>?_) (λrec=>?_) (j3 _);{simp only [zbr c,zZ c,zbk c,zsi,ztj,zp2,zdl,zeZ,zeE,cT,cF,jT,jV]};{simp only [zbl,cF,zpV]}
def zJu:vM 80 zzO:=hF2 zSn zU zo zn zRh zQv
def zbcX:zY:=[(80,zzO)]++z4J
def z4K:zS zbcX:=zh zJu zSn
def zme (x y:Host):Bool:=pc (x=y)
def zm5 (_ _:Host):Bool:=true
def zzK:Run:=rF2 dH dH λb c=>(zme b c,[aB<|zm5 b c])
def zDg (N:Nat)(a b:Host):OA:=
 (oN (zfC a.Memory b.Memory)<|cond (zf2 a.Memory b.Memory) (oN (zpW a.Mons b.Mons)<|cond (zpV a.Mons b.Mons) (oN (zkb a.Buffer b.Buffer)<|cond (zka a.Buffer b.Buffer) (oN (zkb a.IoBuffer b.IoBuffer)<|some [aB<|zka a.IoBuffer b.IoBuffer]) oF) oF) oF)
def zQr (a b:Host)(c:zme a b=true):∃N,zDg N a b=some [aB<|zm5 a b]:=by have:=zO.1 c;subst this;refine⟨0,?_⟩;simp only[zDg,zfC,zf2,zpW,zpV,zkb,zka,zp2,zdl,zeZ,zeE,cT,cF,jT,jV,zm5]
def zJq:vM 12 zzK:=kF2 z4K zU zo zn (zq []) zQr
structure Clear (h:Host) (m p:Int):Prop where
 d:ix (ix h.Mons m mZ).Dirty p false=false
 s:(ix (ix h.Mons m mZ).Outer p sZ).Page≠-1->(ix (ix h.Mons m mZ).Outer p sZ).Rights=1/\(∀e∈h.Buffer,e.Host≠(ix (ix h.Mons m mZ).Outer p sZ).Page)/\(∀e∈h.IoBuffer,e.Host≠(ix (ix h.Mons m mZ).Outer p sZ).Page)/\
  ∀g i,hasB g (ln (ix h.Mons m mZ).Guests)=true->hasB i (ln (ix (ix h.Mons m mZ).Guests g gZ).Live)=true->(ix (ix (ix h.Mons m mZ).Guests g gZ).Live i sZ).Page=p->ix (ix (ix h.Mons m mZ).Tables g kZ).Known i false=false
def zbco {h:Host}(c:zb2 h=true)(d:zsX h=true)(f:zj2 h h.Buffer=true)(g:zj2 h h.IoBuffer=true):Safe h:=by have H:=zj5.1 c;refine⟨H,λm b=>?_,λe a=>qM.1 f e a,λe a=>qM.1 g e a⟩;exact(zbcu (H.mon b).gt).1 (qM.1 d _<|zlO b mZ)
def zW5 {d b:Type}{f:d->b}{l:List d}{x:b}{c:List b}(h:l.map f=x::c):∃a r,l=a::r/\f a=x/\r.map f=c:=by cases l with|nil=>cases h|cons a r=>simp only[jB,List.cons.injEq]at h;exact⟨a,r,rfl,h.1,h.2⟩
def zbdw {a:AV}{b:CTy}(h:some a.sh=some (false,[b])):∃c,a = .one c/\c.ty=b:=by cases a with|one c=>simp only[AV.sh,qC,jS,List.cons.injEq,and_true,true_and]at h;exact⟨c,rfl,h⟩|agg l=>simp[AV.sh]at h
def sh_s {a:AV}{t:Ty}(h:some a.sh=some (false,[.s t])):∃l:List t.den,a = .one (.s t l):=by obtain⟨c,rfl,b⟩:=zbdw h;obtain⟨l,rfl⟩:=zmW b;exact⟨l,rfl⟩
section
open Go Go.ChangeShapes Go.WideShapes Go.ChangeAt
abbrev zQc (_:LI):Bool:=true
abbrev zM9 (l:LI):Bool:=igt (ln l) 1048576
def zST:Run:=rF1 (dS .u8) λb=>(zQc b,[aB<|zM9 b])
def z0j (N:Nat)(a:LI):OA:=
 (some [aB<|igt (ln a) 1048576])
def z5s (a:LI)(b:zQc a=true):∃N,z0j N a=some [aB<|zM9 a]:=by refine⟨0,?_⟩;unfold z0j;first|rfl|(simp only [*,zM9,cT,cF]<;>rfl)|simp_all[Ty.cells,zM9]
def zZa:vM 7 zST:=kF1 zAx zU zo zn (zq []) z5s
def z9U:zY:=[(7,zST),(36,zto),(39,zrh),(42,ztp),(37,znc),(38,zkl),(40,zlR),(41,zlR),(43,zis),(44,zis),(12,zzK),(45,zp6),(46,zIc),(47,zIh),(49,zkW),(50,zkW),(48,zp7),(13,ztW),(51,zzV),(53,zp4),(52,zir),(54,zrK)]++z1H
def z7A:zS z9U:=zh zZa (zh zAO<|zh zza<|zh zAP<|zh zoM<|zh zoO<|zh zGf<|zh zGu<|zh zvv<|zh zvC<|zh zJq<|zh zt9<|zh zTg<|zh zTt<|zh zEf<|zh zEq<|zh zua<|zh zw3<|zh zJF<|zh zPK<|zh zvz<|zh zvx zAx)
def z5h:zFF [[[(⟨1,3⟩:Ins)]]]:=⟨by simp,by
 intro p a;rw[qF.1 a];exact⟨by simp,λq b=>by rw[qF.1 b];simp⟩⟩
def zbdd:zbT (ze2 [[[(⟨1,3⟩:Ins)]]]) 0 0=true:=by kernel_rfl
def z0M (x:Bool):(cond (zj0 x x) false true)=false:=by rw[zeE];rfl
def zbcn {h:Host}(e:zo2 h=true):Safe h:=by unfold zo2 at e;rw[zb7,zb7,zb7,zb7] at e;exact zbco e.1 e.2.2.1 e.2.2.2.1 e.2.2.2.2
def zlM (N:Nat)(d:LI):OA:=
 let c:=ziQ d;let k:=ziP d;let j:=ziO d;let h:=zhQ d;let g:=zhP d;let f:=zhO d;let e:=ziN d;let m:=zbT (ze2 [[[(⟨1,3⟩:Ins)]]]) 0 0;let b:=ziM d;let a:=ziL d;let i:=ziD a b;let l:=zb3 a b e; (oN (zQc d)<|cond (zM9 d) oT<|oN (zgP d)<|oN (zcn a b e)<|oN (zcn a b e)<|oN (zgy d)<|oN (zlh f g h)<|oN (zlh f g h)<|oN (zgQ d)<|oN (zkp j k c)<|oN (zkp j k c)<|cond (nB<|zj0 (zbT a b e)<|zbT a b e) oF<|oN (zme l<|zb3 a b e)<|cond (nB<|zm5 l<|zb3 a b e) oF<|oN (zme (zhA f g h)<|zhA f g h)<|cond (nB<|zm5 (zhA f g h)<|zhA f g h) oF<|oN (zhE (zhB f g h)<|zhB f g h)<|cond (nB<|zh3 (zhB f g h)<|zhB f g h) oF<|cond (nB<|zj0 (zhp j k c)<|zhp j k c) oF<|oN (zme (zfy j k c)<|zfy j k c)<|cond (nB<|zm5 (zfy j k c)<|zfy j k c) oF<|oN (zdo a b)<|oN (zdo a b)<|cond (ine (zP6 a b)<|zQ2 a b) oF<|oN (zj7 a)<|oN (zj7 a)<|oN (zfC (ziC a)<|ziC a)<|cond (nB<|zf2 (ziC a)<|ziC a) oF<|oN (zsA [[[(⟨1,3⟩:Ins)]]])<|oN (zcn (ze2 [[[(⟨1,3⟩:Ins)]]]) 0 0)<|oN (zbt a)<|cond (nB<|zno a) (some [aB m])<|cond (ilt b 0) (some [aB m])<|cond (ige b<|ln a.Mons) (some [aB m])<|oN (zdo a b)<|oN (zc4 i e)<|cond m (cond (zj0 (zhh i e)<|zbT a b e) (oN (zdo l b)<|oN (zvJ (ziD l b)<|zeX i e)<|some [aB<|zut (ziD l b)<|zeX i e]) oF) oF)
def zKe (N:Nat)(a:LI):evalFn (cQ z9U z8n zKi zYb) (zq []) N 12 5 [aS .u8 a]=zlM N a:=by kernel_rfl
def zD4 (N:Nat)(d:LI)(i:d.length<=big):Ends (λa=>a=[.one<|.b true]) (zlM N d):=by
 unfold zlM oN nB;conv=>zeta
 have A:=(zv3<|zy0 i).2.sm;obtain⟨B,t⟩:=(zuj<|zwP i).2;have B:=B.sm;have C:=(zv4<|zy1 i).2.sm;have f:SmH (ze2 [[[(⟨1,3⟩:Ins)]]]):=zQ7 z5h;have c:=zbdd;refine zC rfl (zbJ (λ_=>znQ rfl) λ_=>zC (zy0 i) ?_);generalize ziL d=h at A;generalize ziM d=m;generalize ziN d=g;have e:=(zT _).2 A;refine zC (zbd e) (zC (zbd e)<|zC (zwP i) ?_);generalize zhO d=u at B;generalize zhP d=D;generalize zhQ d=z at t;have n:=(zT _).2 B;refine zC (zbd ⟨n,by omega⟩) (zC (zbd ⟨n,by omega⟩)<|zC (zy1 i) ?_)
 generalize ziO d=w at C;generalize ziP d=E;generalize ziQ d=F;have p:=(zT _).2 C;refine zC (zbd p) (zC (zbd p)<|zpb (z0M _)<|zC (zbd rfl) (zpb rfl (zC (zbd rfl) (zpb rfl (zC (zbd rfl) (zpb rfl (zpb (z0M _)<|zC (zbd rfl) (zpb rfl
  (zC (zbd e)<|zC (zbd e)<|zpb (zdl _)<|zC (zbd e)<|zC (zbd e)<|zC (zbd rfl) (zpb rfl (zC (zbd z5h) ?_)))))))))))
 generalize ze2 [[[(⟨1,3⟩:Ins)]]]=one at c f;have x:=(zT _).2 f;refine zC (zbd x) (zC (zbd e)<|zbJ (λ_=>znQ (by rw[c])) λj=>zbJ (λ_=>znQ (by rw[c])) λr=>zbJ (λ_=>znQ (by rw[c])) λs=>?_)
 have j:zo2 h=true:=by
  cases k:zo2 h with
  |true=>rfl
  |false=>rw[show zno h=false from k]at j;cases j
 have S:=zbcn j;have v:hasB m (ln h.Mons)=true:=zG.2 ⟨by have:=jP r;omega,by have:=jP s;omega⟩;obtain⟨k,y⟩:=step_ok S m g;have q:=k.seen m;rw[zbB.2 rfl,cond_true] at q;have l:SmH (zbv h m g).1:=(zFl m g A).sm;refine zC (zbd e) (zC (zbd<|zBp A v)<|zC c<|zC ?_<|zC (zbd<|(zT _).2 l)<|zC (zbd q) (znQ rfl));show zj0 (zfN (zK h m) g) (zbv h m g).2=true;rw[y];exact zeE _
def zF9 (d:LI)(h:∀c∈zF [aS .u8 d],CVOk c):∃N,zlM N d=some [.one<|.b true]:=by have e:zbL big [aS .u8 d]:=λc f=>CVB.of_ok (h c f);have g:=len0 e;exact⟨5,zbbK (G:=λa=>a=[.one<|.b true])<|zD4 5 d g⟩
def zCZ:Tryz.f5.params.toList.map (zcT Tryz.prog 4)=[some (false,[.s .u8])]:=by kernel_rfl
def zyU:z0f 5 Tryz.f5.params.toList:=by refine zYQ z7A zU zo zn (zjT (by kernel_rfl)) ?_;intro c hg;obtain⟨a,e⟩:=hg;rw[zCZ]at a;obtain⟨h,g,rfl,d,a⟩:=zW5 a;cases List.map_eq_nil_iff.1 a;obtain⟨b,rfl⟩:=sh_s d;obtain⟨N,f⟩:=zF9 b e;exact⟨zq [],N,12,(zKe N b).trans f⟩
def zFr (H:Type)(a:List (DataW H))(h:a.length=Tryz.f5.params.toList.length):Rows.fnHostStepsSpec.fn H a={results:=[.lit<|.bool true],args:=a}:=by
 have b:a.length=1:=h.trans (by kernel_rfl)
 match a,b with
 |[d],_=>rfl
set_option maxRecDepth 100000 in
def zA6 (g:Os)(a:g.Started)(H:Type)(enc:TypeId×Value->H) :
 ReturnsInHanded {} Tryz.checked g 5 .any (Rows.fnHostStepsSpec.pre6 enc Tryz.prog Tryz.f5 Rows.fnHostStepsRow.domain false) (Rows.fnHostStepsSpec.post enc Tryz.prog Tryz.f5 false true false false):=by
 refine returnsInHanded_of_change_shaped (C:=Tryz.checked) own a (by kernel_rfl) Tryz.func5
  (ChangeSpec.witness6 (enc:=enc) (C:=Tryz.checked) false ⟨#[],#[.slice none 0 0],[]⟩ 8 (by kernel_rfl) (by kernel_rfl) (by kernel_rfl) (by kernel_rfl)) ?_
 intro W d c h i b e j _ f _ _;exact zNa (P:=Tryz.prog) z6Z z8c rfl zFr (by kernel_rfl) (B:=4) (by kernel_rfl) (by kernel_rfl) zyU W d c h i b e j f
end
end
end Go.Proofs.YtkbkcnjpecmckaaGreat.E
