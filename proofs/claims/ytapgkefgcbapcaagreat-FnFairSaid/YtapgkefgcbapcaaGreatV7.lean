/- What is proved here: a part of the proof of the claim. -/
import Derived.Test.YtapgkefgcbapcaaGreatV6
namespace Go.Proofs.YtapgkefgcbapcaaGreat.E
open Go
set_option linter.defProp false
set_option linter.constructorNameAsVariable false
set_option linter.unusedVariables false
set_option maxRecDepth 100000
set_option linter.unusedSimpArgs false
set_option linter.unusedSectionVars false
noncomputable section
def zTj:∀(l a:List ar),allI (alone<|a++l) l a.length=true↔(∀x∈l,∀y∈a,sameKey x y=false)/\l.Pairwise (λy x=>sameKey x y=false)
 |[],a=>by simp[allI]
 |x::l,a=>by have g:=zTj l (a++[x]);rw[kJ,List.singleton_append,kA,uI] at g;rw[allI,qE,g,List.pairwise_cons];have h:alone (a++x::l) a.length x=true↔∀y∈a,sameKey x y=false:=(by unfold alone;rw[kU rfl,qN];simp);rw[h];constructor;{rintro⟨d,e,f⟩;refine⟨λz c y b=>?_,λz c=>e z c x (by simp),f⟩;rcases qG.1 c with rfl|c;{exact d y b};{exact e z c y (by simp[b])}};{rintro⟨d,e,f⟩;refine⟨λy b=>d x (by simp) y b,λz c y b=>?_,f⟩;rcases jC.1 b with b|b;{exact d z (by simp[c]) y b};{rw [qF.1 b];exact e z c}}
def zGj {l:List ar}:zgt l=true↔l.Pairwise (λy x=>sameKey x y=false)/\l.length<=6:=by unfold zgt;have:=zTj l [];simp only[jW,k7] at this;have a:ile (ln l) 6=true↔l.length<=6:=(by rw[ile,q9,ln];omega);rw[zcu,this,a];simp
def zAT {l:List ar}(h:zgt l=true)(P:ar->Bool):zgt (l.filter P)=true:=by rw[zGj]at h ⊢;exact⟨h.1.sublist List.filter_sublist,qT (uJ _ _) h.2⟩
def zIy {l:List ar}(h:zgt l=true)(p:Int):zgt (flushed l p)=true:=zAT h _
def zWU {x x':Mon}{p:Int}(a:j0 p (ln x.ae)=true){s:k0}(h:x'.ae=up x.ae p s)(q:Int):cPg x' q+(if (ix x.ae p sZ).af=q then 1 else 0)=cPg x q+(if s.af=q then 1 else 0):=by have:=zTq (λs=>ieq s.af q) a s sZ;simp only[zbA] at this;unfold cPg;rw[h];exact this
def zrS {s:k0}(d:SOk s){c:LI}:zny s c=true↔(s.af = -1->zcN c=true)/\(s.af≠-1->enough s.aj 1=true/\c=[]):=by unfold zny;by_cases e:s=C0;{rw [zrz.2 e,cond_true,e];simp[C0]};{rw [ztN.2 e,cond_false,zcu];have:s.af≠-1:=λh=>e (d.none h);have b:ile (ln c) 0=true↔c=[]:=(by rw[ile,q9,ln,<- u0];omega);rw[b];exact⟨λh=>⟨λa=>absurd a this,λ_=>h⟩,λh=>h.2 this⟩}
structure Chg (x x':Mon) (p:Int) (s:k0) (c:List Int):Prop where
 o:x'.ae=up x.ae p s
 u:x'.Out=up x.Out p c
 g:x'.ac=x.ac
 t:x'.am.length=x.am.length
 d:x'.aw.length=x.aw.length
 a1:x'.Outs=x.Outs
 a2:x'.an=x.an
 a3:x'.aq=x.aq
 a4:x'.Own=x.Own
def MOk.chg {x i:Mon}(H:MOk x){p:Int}(a:j0 p 8=true){s:k0}{c:LI}(k:Chg x i p s c)(l:SOk s)(j:zny s c=true):MOk i:=by refine⟨by rw[k.g];exact H.g1,by rw[k.g];exact H.g2,by rw[k.t,k.g];exact H.gt,by rw[k.o,zbZ];exact H.o8,λy f=>?_,by rw[k.u,zbZ];exact H.u8,by rw[k.d];exact H.d8,by rw[k.a1];exact H.outs,by rw[k.a2];exact H.pend,by rw[k.a3];exact H.tr,by rw[k.a4];exact H.own,by rw[k.g];exact H.gs,λq b=>?_⟩;{rw [k.o]at f;rcases qZ f with h|h;{exact H.sl y h};{rw [h];exact l}};{rw [k.o,k.u];by_cases e:p=q;{subst e;rw[zbp<|H.hasO a,zbp<|H.hasU a];exact j};{rw [zbG (zK.1 a).1 (zK.1 b).1 e,zbG (zK.1 a).1 (zK.1 b).1 e];exact H.fit q b}}
structure Like (h r:ad):Prop where
 len:r.aa.length=h.aa.length
 g:∀i,j0 i (ln h.aa)=true->(ix r.aa i mZ).ac=(ix h.aa i mZ).ac
 o:∀i,j0 i (ln h.aa)=true->(ix r.aa i mZ).Outs=(ix h.aa i mZ).Outs
 p:∀i,j0 i (ln h.aa)=true->(ix r.aa i mZ).an=(ix h.aa i mZ).an
 tr:∀i,j0 i (ln h.aa)=true->(ix r.aa i mZ).aq=(ix h.aa i mZ).aq
 ow:∀i,j0 i (ln h.aa)=true->(ix r.aa i mZ).Own=(ix h.aa i mZ).Own
 pg:∀i k,j0 i (ln h.aa)=true->j0 k 8=true->zcM r i k=zcM h i k
def Like.refl (h:ad):Like h h:=⟨rfl,λ_ _=>rfl,λ_ _=>rfl,λ_ _=>rfl,λ_ _=>rfl,λ_ _=>rfl,λ_ _ _ _=>rfl⟩
def Like.trans {a b c:ad}(x:Like a b)(y:Like b c):Like a c:=by have k:∀i,j0 i (ln a.aa)=true->j0 i (ln b.aa)=true:=λi e=>(by unfold ln at e ⊢;rwa [x.len]);exact⟨y.len.trans x.len,λi h=>(y.g i<|k i h).trans (x.g i h),λi h=>(y.o i<|k i h).trans (x.o i h),λi h=>(y.p i<|k i h).trans (x.p i h),λi h=>(y.tr i<|k i h).trans (x.tr i h),λi h=>(y.ow i<|k i h).trans (x.ow i h),λi q h d=>(y.pg i q (k i h) d).trans (x.pg i q h d)⟩
def Like.has {h r:ad}(k:Like h r){i:Int}:j0 i (ln r.aa)=j0 i (ln h.aa):=by unfold ln;rw[k.len]
def zsI {h r:ad}{m:Int}:∀(n i:Nat),(∀k:Nat,i<=k->k<i+n->zcM r m (k:Int)=zcM h m (k:Int))->zcR r m n i=zcR h m n i
 | 0,i,_=>rfl
 |n+1,i,h=>by rw[zcR,zcR,h i (by omega) (by omega),zsI n (i+1) λk a b=>h k (by omega) (by omega)]
def Like.seen {h r:ad}(k:Like h r)(m:Int):zD r m=zD h m:=by unfold zD;rw[k.has];cases a:j0 m (ln h.aa) with|false=>rfl|true=>simp only[cond_true];rw[k.g m a,k.o m a,k.p m a,zsI 8 0 λj b c=>k.pg m j a (zK.2 (by omega))]
def zpA {h:ad}{m p:Int}(a:j0 m (ln h.aa)=true)(c:j0 p 8=true)(b:j0 p (ln (ix h.aa m mZ).ae)=true) :
 zcM h m p=bif ieq (ix (ix h.aa m mZ).ae p sZ).af (-1) then zcQ (ix h.aa m mZ).Out p else zcQ h.ag (ix (ix h.aa m mZ).ae p sZ).af:=by
 unfold zcM;have:zbK (ix h.aa m mZ).ae p=ix (ix h.aa m mZ).ae p sZ:=by unfold zbK;rw[b];rfl
 rw[a,c,cond_true,cond_true,this]
 by_cases e:(ix (ix h.aa m mZ).ae p sZ).af = -1
 .rw [zbA.2 e,show ine (ix (ix h.aa m mZ).ae p sZ).af (-1)=false by simp[ine,e]];rfl
 .rw [zb4.2 e,show ine (ix (ix h.aa m mZ).ae p sZ).af (-1)=true from zGx.2 e];rfl
def zmP {m:List LI}{p:Int}(h:j0 p (ln m)=true):zcQ m p=ix m p []:=by unfold zcQ;rw[h];rfl
def zTZ {m:List LI}(h:∀c∈m,zcN c=true)(p:Int):zcN (zcQ m p)=true:=by unfold zcQ;cases a:j0 p (ln m) with|false=>rfl|true=>exact h _ (zlk a _)
def zx7 {h r:ad}(H:HOk h){m p:Int}(b:j0 m (ln h.aa)=true)(i:j0 p 8=true){x:Mon}{s:k0}{c:LI}(n:r.aa=up h.aa m x)(k:Chg (ix h.aa m mZ) x p s c)(u:SOk s)(t:zny s c=true)(f:r.ag.length=12)(g:∀c∈r.ag,zcN c=true)(j:zgt r.ao=true)(l:zgt r.ak=true)(v:0<=s.af->s.af=(ix (ix h.aa m mZ).ae p sZ).af\/zge h.aa s.af=0):HOk r:=by refine H.up b ((H.mon b).chg i k u t) n f g j l λq z=>?_;have d:=zWU ((H.mon b).hasO i) k.o q;by_cases e:s.af=q;{have a:=v (by omega);rw[if_pos e]at d;rcases a with a|a;{rw [if_pos (by omega)]at d;left;omega};{right;rw[e] at a;refine⟨a,?_⟩;have:=zAu b x q;have y:cPg (ix h.aa m mZ) q<=zge h.aa q:=(by have:=zAu b (⟨[],[],[],[],[],0,0,[],0⟩:Mon) q;have w:cPg (⟨[],[],[],[],[],0,0,[],0⟩:Mon) q=0:=rfl;omega);omega}};{rw [if_neg e]at d;left;split at d<;>omega}
def zxp {h r:ad}(H:HOk h){m p:Int}(a:j0 m (ln h.aa)=true)(y:j0 p 8=true){x:Mon}{s:k0}{c:LI}(n:r.aa=up h.aa m x)(k:Chg (ix h.aa m mZ) x p s c)(B:(cond (ieq s.af<|-1) c<|zcQ r.ag s.af)=zcM h m p)(f:∀i q,j0 i (ln h.aa)=true->j0 q 8=true->¬ (i=m/\q=p)->(ix (ix h.aa i mZ).ae q sZ).af≠-1->zcQ r.ag (ix (ix h.aa i mZ).ae q sZ).af=zcQ h.ag (ix (ix h.aa i mZ).ae q sZ).af):Like h r:=by have l:=(zK.1 a).1;have t:=(zK.1 y).1;have e:∀{C:Type} (F:Mon->C),F x=F (ix h.aa m mZ)->∀i,j0 i (ln h.aa)=true->F (ix r.aa i mZ)=F (ix h.aa i mZ):=(by intro C F D i d;rw[n];by_cases e:m=i;{subst e;rw[zbp a];exact D};{rw [zbG l (zK.1 d).1 e]});refine⟨by rw[n,zbZ],e Mon.ac k.g,e Mon.Outs k.a1,e Mon.an k.a2,e Mon.aq k.a3,e Mon.Own k.a4,λi q d b=>?_⟩;have A:j0 i (ln r.aa)=true:=(by rw[n,zex];exact d);have w:=(H.mon d).hasO b;have z:j0 q (ln (ix r.aa i mZ).ae)=true:=(by rw[n];by_cases e:m=i;{subst e;rw[zbp a,k.o,zex];exact w};{rw [zbG l (zK.1 d).1 e];exact w});rw[zpA A b z];by_cases e:m=i;{subst e;rw[n,zbp a,k.o,k.u];by_cases v:p=q;{subst v;rw[zbp<|(H.mon a).hasO y,<- B];cases ieq s.af (-1);{rfl};{rw [cond_true,cond_true,zmP (by rw[zex];exact(H.mon a).hasU y),zbp<|(H.mon a).hasU y]}};{rw [zbG t (zK.1 b).1 v,zpA a b w];by_cases j:(ix (ix h.aa m mZ).ae q sZ).af = -1;{rw [zbA.2 j,cond_true,cond_true,zmP (by rw[zex];exact(H.mon a).hasU b),zmP<|(H.mon a).hasU b,zbG t (zK.1 b).1 v]};{rw [zb4.2 j,cond_false,cond_false,f m q a b (λh=>v h.2.symm) j]}}};{rw [n,zbG l (zK.1 d).1 e,zpA d b w];by_cases j:(ix (ix h.aa i mZ).ae q sZ).af = -1;{rw [zbA.2 j,cond_true,cond_true]};{rw [zb4.2 j,cond_false,cond_false,f i q d b (λh=>e h.1.symm) j]}}
structure Op (h r:ad):Prop where
 ok:HOk r
 like:Like h r
 rt:Rt h->Rt r
def Op.refl {h:ad}(H:HOk h):Op h h:=⟨H,Like.refl h,id⟩
def Op.trans {a b c:ad}(x:Op a b)(y:Op b c):Op a c:=⟨y.ok,x.like.trans y.like,λh=>y.rt (x.rt h)⟩
def Op.safe {h r:ad}(k:Op h r)(s:Safe h):Safe r:=⟨k.ok,k.rt s.rt⟩
def zOZ {h r:ad}(H:Rt h){m:Int}(l:j0 m (ln h.aa)=true){x:Mon}(u:r.aa=up h.aa m x)(q:r.ao=h.ao)(s:r.ak=h.ak)(y:x.ac.length=(ix h.aa m mZ).ac.length)(w:∀g,j0 g (ln (ix h.aa m mZ).ac)=true->(ix x.ac g gZ).av=(ix (ix h.aa m mZ).ac g gZ).av)(z:x.am=(ix h.aa m mZ).am)(v:x.ae=(ix h.aa m mZ).ae):Rt r:=by have d:=(zK.1 l).1;have hg:∀g,j0 g (ln x.ac)=j0 g (ln (ix h.aa m mZ).ac):=λg=>(by unfold ln;rw[y]);have f:∀e,zdw h e=true->zdw r e=true:=(by intro e c;obtain⟨n,i,p⟩:=zgQ.1 c;rw[zgQ,u,zex];refine⟨n,?_⟩;by_cases b:m=zef e.Tag;{rw [<- b]at n i p ⊢;rw[zbp l,hg,w _ i,v];exact⟨i,p⟩};{rw [zbG d (zK.1 n).1 b];exact⟨i,p⟩});refine⟨λk j=>?_,λe c=>f e (H.e1 e (by rwa [q]at c)),λe c=>f e (H.e2 e (by rwa [s]at c))⟩;rw[u]at j ⊢;rw[zex]at j;by_cases b:m=k;{subst b;rw[zbp l];intro g a;rw[hg]at a;rw[z,w g a,v];exact H.t m l g a};{rw [zbG d (zK.1 j).1 b];exact H.t k j}
def zrA {h a:ad}{m p:Int}{s:k0}{x:Mon}(b:j0 m (ln h.aa)=true)(e:a.aa=up h.aa m x):(zcH a m p s).aa=up h.aa m (zlC x p s):=by rw[zut,e,zbp b,z8J]
def zED {x a:Mon}{p:Int}{s:k0}{c:LI}(h:a.ae=x.ae)(j:a.Out=up x.Out p c)(hg:a.ac=x.ac)(i:a.am=x.am)(g:a.aw.length=x.aw.length)(b:a.Outs=x.Outs)(d:a.an=x.an)(e:a.aq=x.aq)(f:a.Own=x.Own):Chg x (zlC a p s) p s c :=
 ⟨by show up a.ae p s=_;rw[h],j,hg,by show (znc a.ac p a.am.length a.am).length=_;rw[zF8,i],g,b,d,e,f⟩
def zwI {h:ad}{m p:Int}{s:k0}(a:zgt h.ao=true)(b:zgt h.ak=true):zgt (zcH h m p s).ao=true/\zgt (zcH h m p s).ak=true:=by have:=zUi h m p s;rw[this.1,this.2];cases ieq (ix (ix h.aa m mZ).ae p sZ).af (-1);{exact⟨zIy a _,zIy b _⟩};{exact⟨a,b⟩}
def hasM {h:ad}(H:HOk h){s:k0}(b:SOk s)(a:s.af≠-1):j0 s.af (ln h.ag)=true:=by have:=b.pos a;exact zK.2 ⟨this.1,by unfold ln;rw[H.m12];omega⟩
def z2K {h:ad}(H:HOk h){m p:Int}(b:j0 m (ln h.aa)=true)(c:j0 p 8=true)(l:(ix (ix h.aa m mZ).ae p sZ).af≠-1):Op h (zer h m p):=by
 have X:=H.mon b;have f:(zer h m p).aa=up h.aa m (zlC {ix h.aa m mZ with Out:=up (ix h.aa m mZ).Out p (zcQ h.ag (ix (ix h.aa m mZ).ae p sZ).af)} p C0):=zrA b rfl;have k:Chg (ix h.aa m mZ) (zlC {ix h.aa m mZ with Out:=up (ix h.aa m mZ).Out p (zcQ h.ag (ix (ix h.aa m mZ).ae p sZ).af)} p C0) p C0 (zcQ h.ag (ix (ix h.aa m mZ).ae p sZ).af):=zED rfl rfl rfl rfl rfl rfl rfl rfl rfl;have a:(zer h m p).ag=h.ag:=zyU _ _ _ _;have g:=zwI (h:=zfU h m p) (m:=m) (p:=p) (s:=C0) H.b1 H.b2;refine⟨zx7 H b c f k (.inl rfl) ((zrS (.inl rfl)).2 ⟨λ_=>zTZ H.pgs _,λh=>absurd rfl h⟩) (by rw[a];exact H.m12) (by rw[a];exact H.pgs) g.1 g.2 λh=>absurd h (by decide),
  zxp H b c f k ?_ (λi q _ _ _ _=>by rw[a]),λR=>?_⟩
 {rw [zpA b c<|X.hasO c,zb4.2 l];rfl};{have j:Rt (zfU h m p):=zOZ (x:={ix h.aa m mZ with Out:=up (ix h.aa m mZ).Out p (zcQ h.ag (ix (ix h.aa m mZ).ae p sZ).af)}) R b rfl rfl rfl rfl (λ_ _=>rfl) rfl rfl;have d:j0 m (ln (zfU h m p).aa)=true:=(by show j0 m (ln<|up h.aa m _)=true;rw[zex];exact b);have e:ix (zfU h m p).aa m mZ={ix h.aa m mZ with Out:=up (ix h.aa m mZ).Out p (zcQ h.ag (ix (ix h.aa m mZ).ae p sZ).af)}:=zbp b _ _;exact zBN j d (by rw[e];exact X.hasO c) (by rw[e];exact X.gt) C0}
def zID {o:List k0}{q:Int}:zp2 o q=none↔o.countP (λs=>ieq s.af q)=0:=by unfold zp2;rw[List.findIdx?_eq_none_iff,vH];simp
def z0Q {o:List k0}{q:Int}{k:Nat}(h:zp2 o q=some k):∃a:k<o.length,o[k].af=q:=by unfold zp2 at h;rw[vB]at h;obtain⟨a,b,_⟩:=h;exact⟨a,zbA.1 b⟩
def zBG {q:Int}:∀(l:List Mon) (i:Nat),((zjI q l i).1<0↔zge l q=0)/\(¬ (zjI q l i).1<0->∃a b:Nat,∃f:a<l.length,∃g:b<l[a].ae.length,zjI q l i=(((i+a:Nat):Int),(b:Int))/\l[a].ae[b].af=q)
 |[],i=>⟨by simp[zjI,zge],λh=>absurd (show (-1:Int)<0 by decide) h⟩
 |x::l,i=>by have j:=zBG (q:=q) l (i+1);unfold zjI;split;{rename_i k c;obtain⟨m,n⟩:=z0Q c;refine⟨⟨λh=>by simp at h;omega,λh=>?_⟩,λ_=>⟨0,k,by simp,m,by simp,n⟩⟩;exfalso;simp only[zge,jA,uA]at h;have d:x.ae.countP (λs=>ieq s.af q)=0:=(by unfold cPg at h;omega);rw[zID.2 d]at c;cases c};{rename_i c;have d:=zID.1 c;refine⟨?_,λh=>?_⟩;{rw [j.1];simp only[zge,jA,uA];unfold cPg;omega};{obtain⟨a,b,f,g,e,p⟩:=j.2 h;exact⟨a+1,b,by simpa using f,by simpa using g,by rw[e];simp;omega,by simpa using p⟩}}
def zLa {h:ad}{q:Int}(a:0<=q):(zbT h q).1<0↔zge h.aa q=0:=by unfold zbT;rw[show ilt q 0=false from qI (by omega),cond_false];exact(zBG h.aa 0).1
def zbag {h:ad}(H:HOk h){q:Int}(j:0<=q)(c:¬ (zbT h q).1<0):j0 (zbT h q).1 (ln h.aa)=true/\j0 (zbT h q).2 8=true/\(ix (ix h.aa (zbT h q).1 mZ).ae (zbT h q).2 sZ).af=q:=by unfold zbT at c ⊢;rw[show ilt q 0=false from qI (by omega),cond_false]at c ⊢;obtain⟨a,b,d,f,e,g⟩:=(zBG h.aa 0).2 c;rw[e,j6];have i:=(H.mons _<|jE d).o8;exact⟨zK.2 (by unfold ln;simp;omega),zK.2 (by simp;omega),by rw[zlG d,zlG f];exact g⟩
def zXS {P:Nat->Bool}:∀{n i:Nat} {q:Int},q∈zyx P n i↔∃k:Nat,q=(k:Int)/\i<=k/\k<i+n/\P k=true
 | 0,i,q=>by simp[zyx];intro k _ _ _;omega
 |n+1,i,q=>by
  have d:=@zXS P n (i+1) q;unfold zyx;constructor
  .intro h;cases c:P i with
   |true=>rw[c,cond_true,qG]at h;rcases h with h|h;{exact⟨i,h,by omega,by omega,c⟩};{obtain⟨k,a,f,g,b⟩:=d.1 h;exact⟨k,a,by omega,by omega,b⟩}
   |false=>rw[c,cond_false]at h;obtain⟨k,a,f,g,b⟩:=d.1 h;exact⟨k,a,by omega,by omega,b⟩
  {rintro⟨k,a,f,g,b⟩;by_cases e:k=i;{subst e;rw[b,cond_true,a];exact jB};{have:=d.2 ⟨k,a,by omega,by omega,b⟩;cases P i;{exact this};{exact qY _ this}}}
def zJV {h:ad}{q:Int}:q∈zcD h↔j0 q (ln h.ag)=true/\zge h.aa q=0:=by unfold zcD;rw[zXS];constructor;{rintro⟨k,rfl,b,c,d⟩;exact⟨zK.2 (by unfold ln;omega),(zLa (by omega)).1 (qD d)⟩};{rintro⟨b,c⟩;have a:=zK.1 b;unfold ln at a;refine⟨q.toNat,by omega,by omega,by omega,?_⟩;rw[show ((q.toNat:Nat):Int)=q by omega];exact qH ((zLa a.1).2 c)}
def z4m {h:ad}(a:zcD h≠[]):j0 (ix (zcD h) 0 0) (ln h.ag)=true/\zge h.aa (ix (zcD h) 0 0)=0:=by refine zJV.1 (zlk (zK.2 ⟨by omega,?_⟩) 0);unfold ln;have:=kX.2 a;omega
structure But (h r:ad) (m p:Int):Prop where
 ne:∀i k,j0 i (ln h.aa)=true->j0 k 8=true->¬ (i=m/\k=p)->ix (ix r.aa i mZ).ae k sZ=ix (ix h.aa i mZ).ae k sZ
def zJy {h r:ad}{m p:Int}(a:j0 m (ln h.aa)=true)(j:j0 p 8=true){x:Mon}{s:k0}(b:r.aa=up h.aa m x)(g:x.ae=up (ix h.aa m mZ).ae p s):But h r m p:=by refine⟨λi k d f c=>?_⟩;rw[b];by_cases e:m=i;{subst e;rw[zbp a,g,zbG (zK.1 j).1 (zK.1 f).1 λe=>c ⟨rfl,e.symm⟩]};{rw [zbG (zK.1 a).1 (zK.1 d).1 e]}
def z8p {h:ad}(H:HOk h){m p:Int}(a:j0 m (ln h.aa)=true)(c:j0 p 8=true):But h (zer h m p) m p/\ix (ix (zer h m p).aa m mZ).ae p sZ=C0:=by have b:(zer h m p).aa=up h.aa m (zlC {ix h.aa m mZ with Out:=up (ix h.aa m mZ).Out p (zcQ h.ag (ix (ix h.aa m mZ).ae p sZ).af)} p C0):=zrA a rfl;refine⟨zJy a c b rfl,?_⟩;rw[b,zbp a];exact zbp ((H.mon a).hasO c) _ _
structure Roomy (h r:ad):Prop where
 op:Op h r
 free:zcD r≠[]
 sl:∀i k,j0 i (ln h.aa)=true->j0 k 8=true->ix (ix r.aa i mZ).ae k sZ=ix (ix h.aa i mZ).ae k sZ\/ix (ix r.aa i mZ).ae k sZ=C0
 dirt:∀i,(ix r.aa i mZ).aw=(ix h.aa i mZ).aw
def zP9 {h r:ad}{m:Int}(c:j0 m (ln h.aa)=true){x:Mon}(a:r.aa=up h.aa m x)(b:x.aw=(ix h.aa m mZ).aw)(i:Int):(ix r.aa i mZ).aw=(ix h.aa i mZ).aw:=by
 rw[a];by_cases e:i.toNat=m.toNat
 {have:∀l:List Mon,ix l i mZ=ix l m mZ:=λl=>(by unfold ix;rw[e]);rw[this,this,zbp c,b]};{unfold ix up;simp[List.getD,q0,Ne.symm e]}
def roomy {h:ad}(H:HOk h):Roomy h (zdD h):=by unfold zdD;by_cases b:zcD h=[];{rw [show ieq (ln<|zcD h) 0=true by rw[b];rfl,cond_true];have p:¬ (zbT h 0).1<0:=λd=>(by have:(0:Int)∈zcD h:=zJV.2 ⟨zK.2 (by unfold ln;rw[H.m12];omega),(zLa (by omega)).1 d⟩;rw[b] at this;cases this);obtain⟨a,c,f⟩:=zbag H (by omega) p;have k:=z2K H a c (by rw[f];decide);have j:=z8p H a c;refine⟨k,λd=>?_,λi q g r=>?_,λi=>zP9 (x:=zlC {ix h.aa (zbT h 0).1 mZ with Out:=up (ix h.aa (zbT h 0).1 mZ).Out (zbT h 0).2 (zcQ h.ag (ix (ix h.aa (zbT h 0).1 mZ).ae (zbT h 0).2 sZ).af)} (zbT h 0).2 C0) a (zrA a rfl) rfl i⟩;{have:(0:Int)∈zcD (zer h (zbT h 0).1 (zbT h 0).2):=(by refine zJV.2 ⟨zK.2 (by unfold ln;rw[k.ok.m12];omega),?_⟩;have n:(zer h (zbT h 0).1 (zbT h 0).2).aa=up h.aa (zbT h 0).1 (zlC {ix h.aa (zbT h 0).1 mZ with Out:=up (ix h.aa (zbT h 0).1 mZ).Out (zbT h 0).2 (zcQ h.ag (ix (ix h.aa (zbT h 0).1 mZ).ae (zbT h 0).2 sZ).af)} (zbT h 0).2 C0):=zrA a rfl;have l:=zAu a (zlC {ix h.aa (zbT h 0).1 mZ with Out:=up (ix h.aa (zbT h 0).1 mZ).Out (zbT h 0).2 (zcQ h.ag (ix (ix h.aa (zbT h 0).1 mZ).ae (zbT h 0).2 sZ).af)} (zbT h 0).2 C0) 0;rw[<- n] at l;have m:=zWU (x':=zlC {ix h.aa (zbT h 0).1 mZ with Out:=up (ix h.aa (zbT h 0).1 mZ).Out (zbT h 0).2 (zcQ h.ag (ix (ix h.aa (zbT h 0).1 mZ).ae (zbT h 0).2 sZ).af)} (zbT h 0).2 C0) ((H.mon a).hasO c) (s:=C0) rfl 0;rw[if_pos f,if_neg (by decide)] at m;have t:=H.uq 0 (by omega);omega);rw[d] at this;cases this};{by_cases e:i=(zbT h 0).1/\q=(zbT h 0).2;{rw [e.1,e.2];exact .inr j.2};{exact .inl (j.1.ne i q g r e)}}};{have:ieq (ln<|zcD h) 0=false:=zb4.2 (by unfold ln;have:=kX.2 b;omega);rw[this,cond_false];exact⟨Op.refl H,b,λi k g u=>.inl rfl,λ_=>rfl⟩}
def z18 {m:List LI}{p:Int}{c:LI}(b:j0 p (ln m)=true)(a:zcN c=true):zkl m p c=up m p c:=by unfold zkl;rw[b,a];rfl
def zFD {m:List LI}{p q:Int}{c:LI}(a:0<=p)(h:q≠p):zcQ (up m p c) q=zcQ m q:=by unfold zcQ;rw[zex];cases b:j0 q (ln m) with|false=>rfl|true=>rw[cond_true,cond_true,zbG a (zK.1 b).1<|Ne.symm h]
def zFC {m:List LI}{p:Int}{c:LI}(a:j0 p (ln m)=true):zcQ (up m p c) p=c:=by rw[zmP (by rw[zex];exact a),zbp a]
def z4S {h:ad}(H:HOk h){m p a:Int}(d:j0 m (ln h.aa)=true)(f:j0 p 8=true)(z:(ix (ix h.aa m mZ).ae p sZ).af = -1)(u:j0 a (ln h.ag)=true)(B:zge h.aa a=0) :
 Op h (zf2 h m p a)/\But h (zf2 h m p a) m p/\ix (ix (zf2 h m p a).aa m mZ).ae p sZ=⟨a,3⟩/\∀i,(ix (zf2 h m p a).aa i mZ).aw=(ix h.aa i mZ).aw:=by
 have X:=H.mon d;have g:=zK.1 u;unfold ln at g;rw[H.m12]at g;have l:(zf2 h m p a).aa=up h.aa m (zlC {ix h.aa m mZ with Out:=up (ix h.aa m mZ).Out p []} p ⟨a,3⟩):=zrA d rfl;have k:Chg (ix h.aa m mZ) (zlC {ix h.aa m mZ with Out:=up (ix h.aa m mZ).Out p []} p ⟨a,3⟩) p ⟨a,3⟩ []:=zED rfl rfl rfl rfl rfl rfl rfl rfl rfl;have j:=((zrS<|X.slot f).1 (X.fit p f)).1 z;have b:(zf2 h m p a).ag=up h.ag a (ix (ix h.aa m mZ).Out p []):=by show (zcH (landing h m p a) m p ⟨a,3⟩).ag=_;rw[zyU];exact z18 u j
 have A:SOk ⟨a,3⟩:=.inr ⟨g.1,by show a<=11;omega,by show (1:Int)<=3;omega,by show (3:Int)<=3;omega⟩
 have w:=zwI (h:=landing h m p a) (m:=m) (p:=p) (s:=⟨a,3⟩) H.b1 H.b2;refine⟨⟨zx7 H d f l k A ((zrS A).2 ⟨λh=>absurd h (by show a≠-1;omega),λ_=>⟨show enough 3 1=true by decide,rfl⟩⟩) (by rw[b,zbZ];exact H.m12) (λc r=>?_) w.1 w.2 λ_=>.inr B,
  zxp H d f l k ?_ λi q y D r C=>?_,λR=>?_⟩,zJy d f l rfl,?_,λi=>zP9 (x:=zlC {ix h.aa m mZ with Out:=up (ix h.aa m mZ).Out p []} p ⟨a,3⟩) d l rfl i⟩
 .rw [b]at r;rcases qZ r with n|n
  .exact H.pgs c n
  .rw [n];exact j
 .rw [zpA d f<|X.hasO f,zbA.2 z,cond_true,zmP<|X.hasU f];rw[show ieq (⟨a,3⟩:k0).af (-1)=false from zb4.2 (by show a≠-1;omega),cond_false,b]
  exact zFC u
 .rw [b];refine zFD g.1 (λe=>?_);have:=zJz y ((H.mon y).hasO D);rw[e] at this;omega
 .have R1:Rt (landing h m p a):=zOZ (x:={ix h.aa m mZ with Out:=up (ix h.aa m mZ).Out p []}) R d rfl rfl rfl rfl (λ_ _=>rfl) rfl rfl;have t:j0 m (ln (landing h m p a).aa)=true:=by show j0 m (ln<|up h.aa m _)=true;rw[zex];exact d
  have v:ix (landing h m p a).aa m mZ={ix h.aa m mZ with Out:=up (ix h.aa m mZ).Out p []}:=zbp d _ _;exact zBN R1 t (by rw[v];exact X.hasO f) (by rw[v];exact X.gt) _
 .rw [l,zbp d];exact zbp (X.hasO f) _ _
def zOM {h:ad}(H:HOk h){m p:Int}(f:j0 m (ln h.aa)=true)(g:j0 p 8=true)(k:(ix (ix h.aa m mZ).ae p sZ).af = -1) :
 Op h (fetched h m p)/\(∃e,0<=e/\e<=11/\ix (ix (fetched h m p).aa m mZ).ae p sZ=⟨e,3⟩)/\∀i,(ix (fetched h m p).aa i mZ).aw=(ix h.aa i mZ).aw:=by
 have R:=roomy H;have c:j0 m (ln (zdD h).aa)=true:=by rw[R.op.like.has];exact f
 have d:(ix (ix (zdD h).aa m mZ).ae p sZ).af = -1:=by rcases R.sl m p f g with b|b<;>rw [b];{exact k};{rfl}
 obtain⟨b,j⟩:=z4m R.free;obtain⟨l,r,n,q⟩:=z4S R.op.ok c g d b j;have a:=zK.1 b;unfold ln at a;rw[R.op.ok.m12]at a;exact⟨R.op.trans l,⟨_,a.1,by omega,n⟩,λi=>(q i).trans (R.dirt i)⟩
def zpG {o:List k0}{p:Int}(h:j0 p (ln o)=true):zbK o p=ix o p sZ:=by unfold zbK;rw[h];rfl
def zmQ {h:ad}(H:HOk h){m p:Int}(a:j0 m (ln h.aa)=true)(b:j0 p 8=true) :
 (cond (ieq (ix (ix h.aa m mZ).ae p sZ).af<|-1) (ix (ix h.aa m mZ).Out p [])<|zcQ h.ag (ix (ix h.aa m mZ).ae p sZ).af)=zcM h m p:=by
 rw[zpA a b<|(H.mon a).hasO b,zmP<|(H.mon a).hasU b]
structure Mark (x y:Mon):Prop where
 o:y.ae=x.ae
 u:y.Out=x.Out
 g:y.ac=x.ac
 t:y.am=x.am
 d:y.aw.length=x.aw.length
 a1:y.Outs=x.Outs
 a2:y.an=x.an
 a3:y.aq=x.aq
 a4:y.Own=x.Own
def z2J {h:ad}(H:HOk h){m:Int}(b:j0 m (ln h.aa)=true){y:Mon}(k:Mark (ix h.aa m mZ) y):Op h {h with aa:=up h.aa m y}/\∀i q,ix (ix (up h.aa m y) i mZ).ae q sZ=ix (ix h.aa i mZ).ae q sZ:=by
 have X:=H.mon b;have a:j0 0 8=true:=(by decide);have c:Chg (ix h.aa m mZ) y 0 (ix (ix h.aa m mZ).ae 0 sZ) (ix (ix h.aa m mZ).Out 0 []):=⟨by rw[zLF<|X.hasO a,k.o],by rw[zLF<|X.hasU a,k.u],k.g,by rw[k.t],k.d,k.a1,k.a2,k.a3,k.a4⟩
 refine⟨⟨zx7 H b a rfl c (X.slot a) (X.fit 0 a) H.m12 H.pgs H.b1 H.b2 λ_=>.inl rfl,zxp H b a rfl c (zmQ H b a) λ_ _ _ _ _ _=>rfl,
  λR=>zOZ R b rfl rfl rfl (by rw[k.g]) (λg _=>by rw[k.g]) k.t k.o⟩,λi q=>?_⟩
 by_cases e:i.toNat=m.toNat
 {have:∀l:List Mon,ix l i mZ=ix l m mZ:=λl=>(by unfold ix;rw[e]);rw[this,this,zbp b,k.o]};{have:ix (up h.aa m y) i mZ=ix h.aa i mZ:=(by unfold ix up;simp[List.getD,q0,Ne.symm e]);rw[this]}
def zOL {h:ad}(H:HOk h){m:Int}(a:j0 m (ln h.aa)=true)(p:Int):Op h (zbO h m p)/\∀i q,ix (ix (zbO h m p).aa i mZ).ae q sZ=ix (ix h.aa i mZ).ae q sZ :=
 z2J H a ⟨rfl,rfl,rfl,rfl,zbZ _ _ _,rfl,rfl,rfl,rfl⟩
def z7P {h:ad}(H:HOk h){m:Int}(a:j0 m (ln h.aa)=true)(p:Int):Op h (zsn h m p)/\∀i q,ix (ix (zsn h m p).aa i mZ).ae q sZ=ix (ix h.aa i mZ).ae q sZ :=
 z2J H a ⟨rfl,rfl,rfl,rfl,zbZ _ _ _,rfl,rfl,rfl,rfl⟩
def rights {r:Int}(a:1<=r)(b:r<=3):r=1\/r=2\/r=3:=by omega
def MOk.enough1 {x:Mon}(X:MOk x){p:Int}(a:j0 p 8=true)(d:(ix x.ae p sZ).af≠-1):(ix x.ae p sZ).aj=1\/(ix x.ae p sZ).aj=3:=by have b:=(((zrS<|X.slot a).1 (X.fit p a)).2 d).1;have c:=(X.slot a).pos d;rcases rights c.2.2.1 c.2.2.2 with e|e|e;{exact .inl e};{rw [e]at b;exact absurd b (by decide)};{exact .inr e}
def zTV {h:ad}(H:HOk h){m p:Int}(c:j0 m (ln h.aa)=true)(b:j0 p 8=true)(g:(ix (ix h.aa m mZ).ae p sZ).af≠-1){r:Int}(n:r=1\/r=3) :
 Op h (zcH h m p ⟨(ix (ix h.aa m mZ).ae p sZ).af,r⟩)/\But h (zcH h m p ⟨(ix (ix h.aa m mZ).ae p sZ).af,r⟩) m p/\
  ix (ix (zcH h m p ⟨(ix (ix h.aa m mZ).ae p sZ).af,r⟩).aa m mZ).ae p sZ=⟨(ix (ix h.aa m mZ).ae p sZ).af,r⟩/\∀i,(ix (zcH h m p ⟨(ix (ix h.aa m mZ).ae p sZ).af,r⟩).aa i mZ).aw=(ix h.aa i mZ).aw:=by
 have X:=H.mon c;have d:=(X.slot b).pos g;have e:=zut h m p ⟨(ix (ix h.aa m mZ).ae p sZ).af,r⟩;have k:Chg (ix h.aa m mZ) (zlC (ix h.aa m mZ) p ⟨(ix (ix h.aa m mZ).ae p sZ).af,r⟩) p ⟨(ix (ix h.aa m mZ).ae p sZ).af,r⟩ (ix (ix h.aa m mZ).Out p []):=
  zED rfl (zLF (X.hasU b) _).symm rfl rfl rfl rfl rfl rfl rfl
 have l:SOk ⟨(ix (ix h.aa m mZ).ae p sZ).af,r⟩:=.inr ⟨d.1,d.2.1,by show 1<=r;omega,by show r<=3;omega⟩
 have f:=((zrS<|X.slot b).1 (X.fit p b)).2 g;have j:=zwI (h:=h) (m:=m) (p:=p) (s:=⟨(ix (ix h.aa m mZ).ae p sZ).af,r⟩) H.b1 H.b2;have a:=zyU h m p ⟨(ix (ix h.aa m mZ).ae p sZ).af,r⟩;refine⟨⟨zx7 H c b e k l ((zrS l).2 ⟨λh=>absurd h g,λ_=>⟨?_,f.2⟩⟩) (by rw[a];exact H.m12) (by rw[a];exact H.pgs) j.1 j.2 λ_=>.inl rfl,
  zxp H c b e k (by rw[a];exact zmQ H c b) (λi q _ _ _ _=>by rw[a]),λR=>zBN R c (X.hasO b) X.gt _⟩,zJy c b e rfl,?_,λi=>zP9 c e rfl i⟩
 .show enough r 1=true
  rcases n with rfl|rfl<;>decide
 .rw [e,zbp c];exact zbp (X.hasO b) _ _
structure Mended (h r:ad) (m p n:Int):Prop where
 op:Op h r
 inn:(ix (ix r.aa m mZ).ae p sZ).af≠-1
 ri:ieq (wand .i64 n 2) 0=false->(ix (ix r.aa m mZ).ae p sZ).aj=3
 dt:ieq (wand .i64 n 2) 0=false->ix (ix r.aa m mZ).aw p false=true
 d0:ieq (wand .i64 n 2) 0=true->(ix r.aa m mZ).aw=(ix h.aa m mZ).aw
 dk:∀k,j0 k 8=true->k≠p->ix (ix r.aa m mZ).aw k false=ix (ix h.aa m mZ).aw k false
 dm:∀i,j0 i (ln h.aa)=true->i≠m->(ix r.aa i mZ).aw=(ix h.aa i mZ).aw
def zYT {h:ad}(H:HOk h){m p:Int}(n:Int)(c:j0 m (ln h.aa)=true)(g:j0 p 8=true)(v:(ix (ix h.aa m mZ).ae p sZ).af≠-1):Mended h (zlm h m p n) m p n:=by
 unfold zlm;cases s:ieq (wand .i64 n 2) 0 with
 |true=>exact⟨Op.refl H,v,λe=>Bool.noConfusion<|s.symm.trans e,λe=>Bool.noConfusion<|s.symm.trans e,λ_=>rfl,λ_ _ _=>rfl,λ_ _ _=>rfl⟩
 |false=>rw[cond_false];obtain⟨f,C⟩:=zOL H c p;have d:j0 m (ln (zbO h m p).aa)=true:=(by rw[f.like.has];exact c);have a:(ix (ix (zbO h m p).aa m mZ).ae p sZ).af≠-1:=(by rw[C];exact v);have u:(ix (zbO h m p).aa m mZ).aw=up (ix h.aa m mZ).aw p true:=(by show (ix (up h.aa m _) m mZ).aw=_;rw[zbp c]);have l:∀i,j0 i (ln h.aa)=true->i≠m->(ix (zbO h m p).aa i mZ).aw=(ix h.aa i mZ).aw:=λi q b=>(by show (ix (up h.aa m _) i mZ).aw=_;rw[zbG (zK.1 c).1 (zK.1 q).1<|Ne.symm b]);have A:=(f.ok.mon d).enough1 g a;have t:∀r:ad,(∀i,(ix r.aa i mZ).aw=(ix (zbO h m p).aa i mZ).aw)->Op (zbO h m p) r->(ix (ix r.aa m mZ).ae p sZ).af≠-1->(ix (ix r.aa m mZ).ae p sZ).aj=3->Mended h r m p n:=(by intro r j x y z;refine⟨f.trans x,y,λ_=>z,λ_=>?_,λe=>Bool.noConfusion<|s.symm.trans e,λk B b=>?_,λi q b=>by rw[j,l i q b]⟩;{rw [j,u,zbp<|(H.mon c).hasD g]};{rw [j,u,zbG (zK.1 g).1 (zK.1 B).1<|Ne.symm b]});unfold opened;rcases A with e|e;{rw [e,show ieq (wand .i64 1 2) 0=true by decide,cond_true];obtain⟨D,F,w,E⟩:=zTV f.ok d g a (r:=3) (.inr rfl);exact t _ E D (by rw[w];exact a) (by rw[w])};{rw [e,show ieq (wand .i64 3 2) 0=false by decide,cond_false];exact t _ (λ_=>rfl) (Op.refl f.ok) a e}
def zTU {h:ad}(H:HOk h){m p:Int}(n:Int)(c:j0 m (ln h.aa)=true)(d:j0 p 8=true):Mended h (A0 h m p n) m p n:=by unfold A0;by_cases e:(ix (ix h.aa m mZ).ae p sZ).af = -1;{rw [zbA.2 e,cond_true];obtain⟨a,⟨q,r,s,l⟩,f⟩:=zOM H c d e;have K:=zYT a.ok n (by rw[a.like.has];exact c) d (by rw[l];show q≠-1;omega);exact⟨a.trans K.op,K.inn,K.ri,K.dt,λe=>by rw[K.d0 e,f],λk j b=>by rw[K.dk k j b,f],λi g b=>by rw[K.dm i (by rw[a.like.has];exact g) b,f]⟩};{rw [zb4.2 e,cond_false];exact zYT H n c d e}
def zqk {h:ad}{m p:Int}:zc0 h m p=true↔HOk h/\j0 m (ln h.aa)=true/\j0 p 8=true:=by unfold zc0;rw[zcu,zcu,zkA]
def z4T {h:ad}(H:HOk h)(m p:Int):Op h (zr0 h m p):=by unfold zr0;cases a:zc0 h m p with|false=>exact Op.refl H|true=>obtain⟨_,b,c⟩:=zqk.1 a;rw[cond_true];unfold zmi;by_cases e:(ix (ix h.aa m mZ).ae p sZ).af = -1;{rw [zbA.2 e];exact Op.refl H};{rw [zb4.2 e];exact z2K H b c e}
def z7O {h:ad}(H:HOk h)(m p:Int):Op h (zv9 h m p):=by unfold zv9;cases a:zc0 h m p with|false=>exact Op.refl H|true=>obtain⟨_,b,c⟩:=zqk.1 a;rw[cond_true];unfold zmi;by_cases e:(ix (ix h.aa m mZ).ae p sZ).af = -1;{rw [zbA.2 e];exact(zOM H b c e).1};{rw [zb4.2 e];exact Op.refl H}
def z7N {h:ad}(H:HOk h)(m p:Int):Op h (zvS h m p):=by unfold zvS;cases g:zc0 h m p with|false=>exact Op.refl H|true=>obtain⟨_,b,c⟩:=zqk.1 g;rw[cond_true];obtain⟨a,d⟩:=z7P H b p;(cases e:zdr (ix (ix h.aa m zi).ae p zba) C0 with|true=>exact a|false=>rw[cond_false];have i:(ix (ix h.aa m mZ).ae p sZ).af≠-1:=λf=>ztN.1 e (((H.mon b).slot c).none f);have:=zTV a.ok (m:=m) (p:=p) (by rw[a.like.has];exact b) c (by rw[d];exact i) (r:=1) (.inl rfl);rw[d m p] at this;exact a.trans this.1)
structure KeepP (x y:Mon):Prop where
 o:y.ae=x.ae
 u:y.Out=x.Out
def zOS {h r:ad}{m:Int}(b:j0 m (ln h.aa)=true){y:Mon}(c:r.aa=up h.aa m y)(a:r.ag=h.ag)(k:KeepP (ix h.aa m mZ) y)(i q:Int):zcM r i q=zcM h i q:=by unfold zcM;rw[c,zex,a];cases d:j0 i (ln h.aa) with|false=>rfl|true=>by_cases e:m=i;{subst e;rw[zbp b,k.o,k.u]};{rw [zbG (zK.1 b).1 (zK.1 d).1 e]}
def zwE {h r:ad}{m:Int}(b:j0 m (ln h.aa)=true){y:Mon}(c:r.aa=up h.aa m y)(a:r.ag=h.ag)(k:KeepP (ix h.aa m mZ) y)(i:Int) :
 zD r i=bif ieq i m then ⟨(zD h i).ag,y.ac,y.Outs,y.an⟩ else zD h i:=by
 have f:zcR r i 8 0=zcR h i 8 0:=zsI 8 0 (λj _ _=>zOS b c a k i j);unfold zD;rw[f,c,zex]
 by_cases e:i=m
 .subst e;rw[b,zbA.2 rfl,zbp b];rfl
 .rw [zb4.2 e,cond_false];cases d:j0 i (ln h.aa) with
  |false=>rfl
  |true=>rw[zbG (zK.1 b).1 (zK.1 d).1<|Ne.symm e]
def zmI {x y:Mon}(X:MOk x)(k:KeepP x y)(g:y.ac.length=x.ac.length)(t:y.am.length=x.am.length)(d:y.aw.length=x.aw.length)(o:y.Outs.length<=40)(p:zd2 y.an=true)(tr:zk y.aq 0 3=true)(b:zk y.Own 0 1000000000=true)(a:∀g∈y.ac,zec g=true):MOk y :=
 ⟨by rw[g];exact X.g1,by rw[g];exact X.g2,by rw[t,g];exact X.gt,by rw[k.o];exact X.o8,by rw[k.o];exact X.sl,by rw[k.u];exact X.u8,by rw[d];exact X.d8,o,p,tr,b,a,by rw[k.o,k.u];exact X.fit⟩
def zXH {h:ad}(H:HOk h){m:Int}(a:j0 m (ln h.aa)=true){y:Mon}(k:KeepP (ix h.aa m mZ) y)(b:MOk y):HOk {h with aa:=up h.aa m y} :=
 H.up a b rfl H.m12 H.pgs H.b1 H.b2 λq _=>.inl (by unfold cPg;rw[k.o];exact qW _)
def zx2 {h:ad}(S:Safe h){m:Int}(a:j0 m (ln h.aa)=true){y:Mon}(k:KeepP (ix h.aa m mZ) y)(d:MOk y)(hg:y.ac.length=(ix h.aa m mZ).ac.length)(c:∀g,j0 g (ln (ix h.aa m mZ).ac)=true->(ix y.ac g gZ).av=(ix (ix h.aa m mZ).ac g gZ).av)(b:y.am=(ix h.aa m mZ).am):Safe {h with aa:=up h.aa m y} :=
 ⟨zXH S.ok a k d,zOZ S.rt a rfl rfl rfl hg c b k.o⟩
def zVR {h:ad}(S:Safe h)(m t:Int):Safe (zlB h m t)/\∀i,zD (zlB h m t) i=zD h i:=by
 unfold zlB;rw[zkA.2 S.ok,cond_true];cases a:j0 m (ln h.aa) with
 |false=>exact⟨S,λ_=>rfl⟩
 |true=>
  cases b:zk t 0 3 with
  |false=>exact⟨S,λ_=>rfl⟩
  |true=>have X:=S.ok.mon a;have k:KeepP (ix h.aa m mZ) {ix h.aa m mZ with aq:=t}:=⟨rfl,rfl⟩;refine⟨zx2 S a k (zmI X k rfl rfl rfl X.outs X.pend b X.own X.gs) rfl (λ_ _=>rfl) rfl,λi=>?_⟩;rw[cond_true,cond_true];refine(zwE (h:=h) (r:={h with aa:=up h.aa m {ix h.aa m mZ with aq:=t}}) a rfl rfl k i).trans ?_;by_cases e:i=m;{subst e;rw[zbA.2 rfl,cond_true];unfold zD;rw[a];rfl};{rw [zb4.2 e];rfl}
def zIG:∀(n i:Nat) (k:az),(zkz n i k).ay.length=k.ay.length/\(zkz n i k).aA.length=k.aA.length
 | 0,i,k=>⟨rfl,rfl⟩
 |n+1,i,k=>by have a:=zIG n (i+1) (zca k (i:Int));have b:=zmD k (i:Int);exact⟨a.1.trans b.1,a.2.trans b.2⟩
def zMV:∀(n i:Nat) (k:az),k.ay.length=k.aA.length->∀j,j0 j (ln k.ay)=true->
 ((i:Int)<=j/\j<((i+n:Nat):Int)->ix (zkz n i k).ay j false=false/\ix (zkz n i k).aA j sZ=C0)/\
 (¬ ((i:Int)<=j/\j<((i+n:Nat):Int))->ix (zkz n i k).ay j false=ix k.ay j false/\ix (zkz n i k).aA j sZ=ix k.aA j sZ)
 | 0,i,k,_,j,_=>⟨λh=>by omega,λ_=>⟨rfl,rfl⟩⟩
 |n+1,i,k,g,j,f=>by have b:=zmD k (i:Int);have d:=zys (q:=(i:Int)) g f;have c:=zMV n (i+1) (zca k (i:Int)) (by rw[b.1,b.2,g]) j (by unfold ln at f ⊢;rwa [b.1]);rw[zkz];by_cases a:((i+1:Nat):Int)<=j/\j<((i+1+n:Nat):Int);{exact⟨λ_=>c.1 a,λh=>absurd (by omega) h⟩};{rw [(c.2 a).1,(c.2 a).2,d.1,d.2];by_cases e:(i:Int)=j;{rw [zbA.2 e];exact⟨λ_=>⟨rfl,rfl⟩,λh=>absurd (by omega) h⟩};{rw [zb4.2 e];exact⟨λh=>absurd (by omega) a,λ_=>⟨rfl,rfl⟩⟩}}
def zUV {k:az}{a b:List k0}(h:KOk k a b):KOk (zld k) a b:=by have e:=zIG k.ay.length 0 k;refine⟨e.1.trans h.l1,e.2.trans h.l2,λi f=>?_⟩;have c:j0 i (ln k.ay)=true:=(by unfold ln at f ⊢;rwa [h.l1]);have d:=zK.1 c;unfold ln at d;have:=(zMV k.ay.length 0 k (by rw[h.l1,h.l2]) i c).1 ⟨by omega,by omega⟩;unfold zld;rw[this.1,this.2];rfl
def zMJ:∀(n j:Nat) (l:List az),(zw1 n j l).length=l.length
 | 0,_,_=>rfl
 |n+1,j,l=>by rw[zw1,zMJ n,zbZ]
def zWZ:∀(n j:Nat) (l:List az),j+n<=l.length->∀g,0<=g->ix (zw1 n j l) g kZ=if (j:Int)<=g/\g<((j+n:Nat):Int) then zld (ix l g kZ) else ix l g kZ
 | 0,j,l,_,g,hg=>by rw[if_neg (by omega)];rfl
 |n+1,j,l,a,g,hg=>by rw[zw1,zWZ n (j+1) _ (by rw[zbZ];omega) g hg];by_cases e:(j:Int)=g;{subst e;rw[if_neg (by omega),if_pos (by omega),zbp<|zK.2 ⟨by omega,by unfold ln;omega⟩]};{rw [zbG (by omega) hg e];by_cases h:((j+1:Nat):Int)<=g/\g<((j+1+n:Nat):Int);{rw [if_pos h,if_pos (by omega)]};{rw [if_neg h,if_neg (by omega)]}}
def zMI:∀(n i:Nat) (l:List Mon),(zpW n i l).length=l.length
 | 0,_,_=>rfl
 |n+1,i,l=>by rw[zpW,zMI n,zbZ]
def zTp:∀(n i:Nat) (l:List Mon),i+n<=l.length->∀m,0<=m->ix (zpW n i l) m mZ=if (i:Int)<=m/\m<((i+n:Nat):Int) then zw2 (ix l m mZ) (ix l m mZ).am.length 0 else ix l m mZ
 | 0,i,l,_,m,a=>by rw[if_neg (by omega)];rfl
 |n+1,i,l,b,m,a=>by rw[zpW,zTp n (i+1) _ (by rw[zbZ];omega) m a];by_cases e:(i:Int)=m;{subst e;rw[if_neg (by omega),if_pos (by omega),zbp<|zK.2 ⟨by omega,by unfold ln;omega⟩]};{rw [zbG (by omega) a e];by_cases h:((i+1:Nat):Int)<=m/\m<((i+1+n:Nat):Int);{rw [if_pos h,if_pos (by omega)]};{rw [if_neg h,if_neg (by omega)]}}
def z9a (h:ad){m:Int}(a:j0 m (ln h.aa)=true):ix (cold h).aa m mZ=zw2 (ix h.aa m mZ) (ix h.aa m mZ).am.length 0:=by have:=zK.1 a;unfold ln at this;show ix (zpW h.aa.length 0 h.aa) m mZ=_;rw[zTp _ _ _ (by omega) m this.1,if_pos (by omega)]
def zzj (h:ad):(cold h).aa.length=h.aa.length:=zMI _ _ _
def zJB (h:ad)(m:Int):j0 m (ln (cold h).aa)=j0 m (ln h.aa):=by unfold ln;rw[zzj]
def zbc1 {l a:List Mon}(d:a.length=l.length)(h:∀m,j0 m (ln l)=true->(ix a m mZ).ae=(ix l m mZ).ae)(q:Int):zge a q=zge l q:=by have:a.map (λx=>cPg x q)=l.map (λx=>cPg x q):=(by refine vS (by simp[d]) λk b c=>?_;simp only[uR]at b c;have:=h (k:Int) (zK.2 ⟨by omega,by unfold ln;omega⟩);rw[zlG b,zlG c] at this;simp[cPg,this]);unfold zge;rw[this]
def zbdX {h:ad}(H:HOk h):Op h (cold h):=by have c:∀m,j0 m (ln h.aa)=true->ix (cold h).aa m mZ=zw2 (ix h.aa m mZ) (ix h.aa m mZ).am.length 0:=λm a=>z9a h a;have n:∀i q,zcM (cold h) i q=zcM h i q:=(by intro i q;unfold zcM;rw[zJB];cases b:j0 i (ln h.aa) with|false=>rfl|true=>rw[c i b];rfl);refine⟨⟨H.m12,H.pgs,by rw[zzj];exact H.n1,by rw[zzj];exact H.n3,rfl,rfl,λy s=>?_,λq r=>?_⟩,⟨zzj h,λi b=>by rw[c i b];rfl,λi b=>by rw[c i b];rfl,λi b=>by rw[c i b];rfl,λi b=>by rw[c i b];rfl,λi b=>by rw[c i b];rfl,λi k _ _=>n i k⟩,λR=>⟨λm a=>?_,λe j=>(by cases j),λe j=>(by cases j)⟩⟩;{obtain⟨m,a,rfl⟩:=ztC s mZ;rw[zJB]at a;rw[c m a];have X:=H.mon a;have k:KeepP (ix h.aa m mZ) (zw2 (ix h.aa m mZ) (ix h.aa m mZ).am.length 0):=⟨rfl,rfl⟩;exact zmI X k rfl (zMJ _ _ _) rfl X.outs X.pend X.tr X.own X.gs};{rw [zbc1 (l:=h.aa) (zzj h) (λm a=>by rw[c m a];rfl)];exact H.uq q r};{rw [zJB]at a;rw[c m a];have X:=H.mon a;intro g hg;show KOk (ix (zw1 (ix h.aa m mZ).am.length 0 (ix h.aa m mZ).am) g kZ) (ix (ix h.aa m mZ).ac g gZ).av (ix h.aa m mZ).ae;have d:j0 g (ln (ix h.aa m mZ).ac)=true:=hg;have f:=zK.1 d;unfold ln at f;have p:=X.gt;rw[zWZ _ _ _ (by omega) g f.1,if_pos (by omega)];exact zUV (R.t m a g d)}
def zZX {m g:Int}(c:zk m 0 2=true)(hg:zk g 0 1=true):zef (zeD m g)=m/\zfj (zeD m g)=g/\1<=zeD m g/\zeD m g<=6:=by have d:=zc9.1 c;have e:=zc9.1 hg;have a:m=0\/m=1\/m=2:=(by omega);have b:g=0\/g=1:=(by omega);rcases a with rfl|rfl|rfl<;>rcases b with rfl|rfl<;>decide
def HOk.tag {h:ad}(H:HOk h){m g:Int}(a:j0 m (ln h.aa)=true)(hg:j0 g (ln (ix h.aa m mZ).ac)=true):zk m 0 2=true/\zk g 0 1=true:=by have b:=zK.1 a;have c:=zK.1 hg;have d:=H.n3;have e:=(H.mon a).g2;unfold ln at b c;exact⟨zc9.2 (by omega),zc9.2 (by omega)⟩
def zhG {r:Int}:zd9 r=true↔r=0\/r=1\/r=2\/r=3:=by unfold zd9 ige ile;rw[qE,q9,q9];omega
def ztp {a b:Int}(h:enough a b=true):zd9 a=true/\zd9 b=true:=by unfold enough at h;rw[zcu,zcu]at h;exact⟨h.1,h.2.1⟩
def zXq {a b c:Int}(d:enough a b=true)(e:enough b c=true):enough a c=true:=by have f:=zhG.1 (ztp d).1;have g:=zhG.1 (ztp d).2;have h:=zhG.1 (ztp e).2;rcases f with rfl|rfl|rfl|rfl<;>rcases g with rfl|rfl|rfl|rfl<;>rcases h with rfl|rfl|rfl|rfl<;>revert d e<;>decide
def z0G {a b n:Int}(g:n=1\/n=2)(c:enough a n=true)(d:enough b n=true):zeT a b≠0/\enough (zeT a b) n=true:=by have e:=zhG.1 (ztp c).1;have f:=zhG.1 (ztp d).1;rcases g with rfl|rfl<;>rcases e with rfl|rfl|rfl|rfl<;>rcases f with rfl|rfl|rfl|rfl<;>revert c d<;>decide
def both_ok (a b:Int):zd9 (zeT a b)=true:=by
 unfold zeT;cases c:zd9 a with
 |false=>rfl
 |true=>
  cases d:zd9 b with
  |false=>rfl
  |true=>have c:=zhG.1 c;have d:=zhG.1 d;rcases c with rfl|rfl|rfl|rfl<;>rcases d with rfl|rfl|rfl|rfl<;>decide
def z0O {a:Int}(h:zd9 a=true):enough a a=true:=by rcases zhG.1 h with rfl|rfl|rfl|rfl<;>decide
def zsx {n:Int}(a:n=1\/n=2):enough 0 n=false:=by rcases a with rfl|rfl<;>decide
def z3H {s:k0}{o:List k0}(a:s.af≠-1)(b:(zbK o s.af).af≠-1):zbI s o=bif ieq (zeT s.aj (zbK o s.af).aj) 0 then C0 else ⟨(zbK o s.af).af,zeT s.aj (zbK o s.af).aj⟩:=by unfold zbI;rw[zb4.2 a,zb4.2 b];rfl
def zrO {s:k0}{o:List k0}{n:Int}(c:n=1\/n=2)(h:enough (zbI s o).aj n=true):s.af≠-1/\(zbK o s.af).af≠-1/\(zbI s o).af=(zbK o s.af).af:=by unfold zbI at h ⊢;by_cases a:s.af = -1;{rw [zbA.2 a,cond_true]at h;rw[show C0.aj=0 from rfl,zsx c]at h;cases h};{rw [zb4.2 a,cond_false]at h ⊢;by_cases b:(zbK o s.af).af = -1;{rw [zbA.2 b,cond_true]at h;rw[show C0.aj=0 from rfl,zsx c]at h;cases h};{rw [zb4.2 b,cond_false]at h ⊢;by_cases d:zeT s.aj (zbK o s.af).aj=0;{rw [zbA.2 d,cond_true]at h;rw[show C0.aj=0 from rfl,zsx c]at h;cases h};{rw [zb4.2 d];exact⟨a,b,rfl⟩}}}
def zW0 {s:k0}{o:List k0}{n:Int}(e:n=1\/n=2)(a:s.af≠-1)(b:(zbK o s.af).af≠-1)(c:enough s.aj n=true)(d:enough (zbK o s.af).aj n=true) :
 (zbI s o).af=(zbK o s.af).af/\enough (zbI s o).aj n=true:=by
 have:=z0G e c d;rw[z3H a b,zb4.2 this.1];exact⟨rfl,this.2⟩
def z3I (s:k0)(o:List k0):zd9 (zbI s o).aj=true:=by unfold zbI;cases ieq s.af (-1)<;>cases ieq (zbK o s.af).af (-1)<;>cases ieq (zeT s.aj (zbK o s.af).aj) 0<;>first|rfl|exact both_ok _ _
def zBb {b:List ar}{t p:Int}{e:ar}:e∈zc2 b t p↔e∈b/\¬ (e.Tag=t/\e.af=p):=by unfold zc2;rw[List.mem_filter];refine and_congr Iff.rfl ?_;unfold ztE;by_cases h:e.Tag=t;{rw [show ine e.Tag t=false by simp[ine,h],cond_false,zGx];simp[h]};{rw [zGx.2 h];simp[h]}
def zbap {b:List ar}{e x:ar}(h:x∈zql b e):x∈b\/x=e:=by unfold zql ap at h;have:x∈zc2 b e.Tag e.af++[e]:=(by cases a:igt (ln<|zc2 b e.Tag e.af++[e]) 6 with|true=>rw[a,cond_true]at h;exact kT h|false=>rw[a,cond_false]at h;exact h);rcases jC.1 this with h|h;{exact .inl (zBb.1 h).1};{exact .inr (qF.1 h)}
def zbfW {n:Nat}(h:n<=100):wsub .i64 (n:Int) 6=(n:Int)-6:=by unfold wsub IntKind.wrap;simp[IntKind.signed,IntKind.bits];omega
def z2l {b:List ar}(h:zgt b=true)(e:ar):zgt (zql b e)=true:=by have c:=zGj.1 h;have k:(zc2 b e.Tag e.af).length<=6:=qT (uJ _ _) c.2;have d:(zc2 b e.Tag e.af++[e]).Pairwise (λy x=>sameKey x y=false):=(by rw[List.pairwise_append];refine⟨c.1.sublist List.filter_sublist,List.pairwise_singleton _ _,λx i y j=>?_⟩;rw[qF.1 j];have:=(zBb.1 i).2;unfold sameKey;by_cases a:e.Tag=x.Tag;{rw [zbA.2 a,cond_true,zb4];exact λf=>this ⟨a.symm,f.symm⟩};{rw [zb4.2 a];rfl});unfold zql ap;cases g:igt (ln<|zc2 b e.Tag e.af++[e]) 6 with|true=>rw[cond_true,zGj];refine⟨d.sublist<|List.drop_sublist _ _,?_⟩;unfold dp ln;rw[kA,uI,zbfW (by omega),vP,kA,uI];omega|false=>rw[cond_false,zGj];refine⟨d,?_⟩;have:=jQ g;unfold ln at this;omega
def z7y {h r:ad}{m:Int}(c:j0 m (ln h.aa)=true){y:Mon}(b:r.aa=up h.aa m y)(a:r.ag=h.ag)(k:KeepP (ix h.aa m mZ) y)(g:y.ac=(ix h.aa m mZ).ac)(o:y.Outs=(ix h.aa m mZ).Outs)(p:y.an=(ix h.aa m mZ).an)(t:y.aq=(ix h.aa m mZ).aq)(w:y.Own=(ix h.aa m mZ).Own):Like h r:=by have e:∀{d:Type} (F:Mon->d),F y=F (ix h.aa m mZ)->∀i,j0 i (ln h.aa)=true->F (ix r.aa i mZ)=F (ix h.aa i mZ):=(by intro d F f i j;rw[b];by_cases e:m=i;{subst e;rw[zbp c];exact f};{rw [zbG (zK.1 c).1 (zK.1 j).1 e]});exact⟨by rw[b,zbZ],e Mon.ac g,e Mon.Outs o,e Mon.an p,e Mon.aq t,e Mon.Own w,λi q _ _=>zOS c b a k i q⟩
def zbav {h:ad}(R:Rt h){m g:Int}(d:j0 m (ln h.aa)=true)(r:j0 g (ln (ix h.aa m mZ).am)=true){k:az}(u:KOk k (ix (ix h.aa m mZ).ac g gZ).av (ix h.aa m mZ).ae) :
 Rt {h with aa:=up h.aa m {ix h.aa m mZ with am:=up (ix h.aa m mZ).am g k}}:=by
 have f:∀e,zdw h e=true->zdw {h with aa:=up h.aa m {ix h.aa m mZ with am:=up (ix h.aa m mZ).am g k}} e=true:=by intro e b;obtain⟨l,n,p⟩:=zgQ.1 b;rw[zgQ];show j0 (zef e.Tag) (ln<|up h.aa m _)=true/\j0 (zfj e.Tag) (ln (ix (up h.aa m _) (zef e.Tag) mZ).ac)=true/\below' _ (zbI (zbK (ix (ix (up h.aa m _) (zef e.Tag) mZ).ac (zfj e.Tag) gZ).av e.af) (ix (up h.aa m _) (zef e.Tag) mZ).ae)=true;rw[zex];refine⟨l,?_⟩;by_cases a:m=zef e.Tag;{rw [<- a]at l n p ⊢;rw[zbp d];exact⟨n,p⟩};{rw [zbG (zK.1 d).1 (zK.1 l).1 a];exact⟨n,p⟩}
 refine⟨λi s=>?_,λe b=>f e (R.e1 e b),λe b=>f e (R.e2 e b)⟩
 show TOk (ix (up h.aa m _) i mZ)
 have c:j0 i (ln h.aa)=true:=by have:j0 i (ln<|up h.aa m {ix h.aa m mZ with am:=up (ix h.aa m mZ).am g k})=true:=s;rwa [zex] at this
 by_cases a:m=i
 .subst a;rw[zbp d];intro j q
  by_cases e:g=j
  .subst e
   show KOk (ix (up _ g k) g kZ) _ _
   rw[zbp r];exact u
  .show KOk (ix (up _ g k) j kZ) _ _
   rw[zbG (zK.1 r).1 (zK.1 q).1 e];exact R.t m d j q
 .rw [zbG (zK.1 d).1 (zK.1 c).1 a];exact R.t i c
def zbad {h:ad}(H:HOk h){m g:Int}(a:j0 m (ln h.aa)=true)(c:j0 g (ln (ix h.aa m mZ).am)=true){k:az}(b:Rt h->KOk k (ix (ix h.aa m mZ).ac g gZ).av (ix h.aa m mZ).ae) :
 Op h {h with aa:=up h.aa m {ix h.aa m mZ with am:=up (ix h.aa m mZ).am g k}}:=by
 have X:=H.mon a;have kp:KeepP (ix h.aa m mZ) {ix h.aa m mZ with am:=up (ix h.aa m mZ).am g k}:=⟨rfl,rfl⟩;exact⟨zXH H a kp (zmI X kp rfl (zbZ _ _ _) rfl X.outs X.pend X.tr X.own X.gs),z7y (y:={ix h.aa m mZ with am:=up (ix h.aa m mZ).am g k}) a rfl rfl kp rfl rfl rfl rfl rfl,λR=>zbav R a c (b R)⟩
def zN6 {k:az}{a b:List k0}(h:KOk k a b)(p:Int):KOk (filled k a b p) a b:=by unfold filled zdS;cases d:j0 p (ln k.ay) with|false=>exact h|true=>have f:j0 p (ln k.aA)=true:=(by unfold ln at d ⊢;rw[h.l2,<- h.l1];exact d);have g:j0 p (ln a)=true:=(by unfold ln at d ⊢;rw[<- h.l1];exact d);rw[cond_true,f,cond_true,g,cond_true];refine⟨by rw[zbZ];exact h.l1,by rw[zbZ];exact h.l2,λi c=>?_⟩;by_cases e:p=i;{subst e;show ix (up _ p _) p sZ=bif ix (up _ p true) p false then _ else _;rw[zbp f,zbp d];rfl};{show ix (up _ p _) i sZ=bif ix (up _ p true) i false then _ else _;rw[zbG (zK.1 f).1 (zK.1 c).1 e,zbG (zK.1 f).1 (zK.1 c).1 e];exact h.at' i c}
def zbdY {h:ad}(H:HOk h){m g:Int}(b:j0 m (ln h.aa)=true)(hg:j0 g (ln (ix h.aa m mZ).ac)=true)(a:Int):Op h (zcI h m g a):=
 zbad H b (by unfold ln;rw[(H.mon b).gt];exact hg) λR=>zN6 (R.t m b g hg) a
def z6a {k:az}{a b:List k0}(h:KOk k a b){p:Int}(c:j0 p (ln a)=true):zew k p=bif ix k.ay p false then zbI (ix a p sZ) b else C0:=by have d:j0 p (ln k.ay)=true:=(by unfold ln at c ⊢;rw[h.l1];exact c);have e:j0 p (ln k.aA)=true:=(by unfold ln at c ⊢;rw[h.l2];exact c);unfold zew zlH zdS;rw[d,e,cond_true,cond_true,h.at' p c];cases ix k.ay p false<;>rfl
def z3A {k:az}{a b:List k0}(h:KOk k a b){p:Int}(c:j0 p (ln a)=true):zew (filled k a b p) p=zbI (ix a p sZ) b:=by rw[z6a (zN6 h p) c];have d:j0 p (ln k.ay)=true:=(by unfold ln at c ⊢;rw[h.l1];exact c);have e:j0 p (ln k.aA)=true:=(by unfold ln at c ⊢;rw[h.l2];exact c);have:ix (filled k a b p).ay p false=true:=(by unfold filled zdS;rw[d,e,c];exact zbp d _ _);rw[this];rfl
def zbe7 {h:ad}(H:HOk h){m g a:Int}(i:Bool)(n:Rt h->zdw h (zWi h m g a)=true):Op h (zxz h m g a i):=by have f:∀(j k:List ar),Like h ⟨h.ag,h.aa,j,k⟩:=λ_ _=>⟨rfl,λ_ _=>rfl,λ_ _=>rfl,λ_ _=>rfl,λ_ _=>rfl,λ_ _=>rfl,λ_ _ _ _=>rfl⟩;have d:∀(b:List ar),(∀e∈b,zdw h e=true)->Rt h->∀e∈zql b (zWi h m g a),zdw h e=true:=(by intro b l R e c;rcases zbap c with c|c;{exact l e c};{rw [c];exact n R});unfold zxz;cases i;{exact⟨⟨H.m12,H.pgs,H.n1,H.n3,z2l H.b1 _,H.b2,H.mons,H.uq⟩,f _ _,λR=>⟨R.t,λe c=>d _ R.e1 R e c,R.e2⟩⟩};{exact⟨⟨H.m12,H.pgs,H.n1,H.n3,H.b1,z2l H.b2 _,H.mons,H.uq⟩,f _ _,λR=>⟨R.t,R.e1,λe c=>d _ R.e2 R e c⟩⟩}
def z9M {b:List ar}{t p:Int}{e:ar}(h:zA9 b t p=some e):e∈b/\e.Tag=t/\e.af=p:=by unfold zA9 at h;have a:=List.find?_some h;rw[zcu,zbA,zbA]at a;exact⟨uS h,a⟩
def zh0 {h:ad}{m g:Int}:zbW h m g=true↔HOk h/\j0 m (ln h.aa)=true/\j0 g (ln (ix h.aa m mZ).ac)=true:=by unfold zbW;rw[zcu,zcu,zkA]
structure GOk (x:ah):Prop where
 prog:zdN x.au=true
 a:zk x.A 0 99=true
 pc:zk x.Pc 0 12=true
 w:zdv x.ax 4 8=true
 l:zdv x.av 4 8=true
 ctl:zno x.Ctl=true
 pend:zd2 x.an=true
 ex:zjC x.Exit=true
 seen:ile (ln x.aC) 40=true
def zvm {x:ah}:zec x=true↔GOk x:=by unfold zec;simp only[qE];exact⟨λ⟨a,b,c,d,e,f,g,h,i⟩=>⟨a,b,c,d,e,f,g,h,i⟩,λ⟨a,b,c,d,e,f,g,h,i⟩=>⟨a,b,c,d,e,f,g,h,i⟩⟩
def z8u {s:k0}:zey s 8=true↔s=C0\/(0<=s.af/\s.af<=7/\1<=s.aj/\s.aj<=3):=by unfold zey;rw[zvF,zrz,ztN];have:wsub .i64 8 1=7:=(by decide);simp only[this,zvF,zc9];simp[igt];constructor;{rintro (h|⟨h,⟨a,b⟩,c⟩);{exact .inl h};{exact .inr ⟨a,b,c⟩}};{intro h;by_cases d:s=C0;{exact .inl d};{rcases h with h|⟨a,b,c⟩;{exact .inl h};{exact .inr ⟨d,⟨a,b⟩,c⟩}}}
def HOk.guest {h:ad}(H:HOk h){m g:Int}(a:j0 m (ln h.aa)=true)(hg:j0 g (ln (ix h.aa m mZ).ac)=true):GOk (ix (ix h.aa m mZ).ac g gZ):=zvm.1 ((H.mon a).gs _ (zlk hg _))
structure Walked (l:List k0) (p n q:Int):Prop where
 hp:j0 p (ln l)=true
 pg:(ix l p sZ).af=q
 q8:j0 q 8=true
 en:enough (ix l p sZ).aj n=true
def walked {x:ah}(X:GOk x){p n:Int}(a:zfk x.av p n=true):Walked x.av p n (zct x.av p n):=by have e:zct x.av p n=(zbK x.av p).af:=(by unfold zct;rw[a];rfl);unfold zfk at a;by_cases b:(zbK x.av p).af = -1;{rw [zbA.2 b]at a;cases a};{rw [zb4.2 b,cond_false,zcu]at a;have c:j0 p (ln x.av)=true:=(by cases c:j0 p (ln x.av) with|true=>rfl|false=>exact absurd (by unfold zbK;rw[c];rfl) b);rw[zpG c] at e b a;rw[e];have d:=z8u.1 ((zti.1 X.l).1 _ (zlk c sZ));refine⟨c,rfl,?_,a.1⟩;rcases d with d|d;{rw [d]at b;exact absurd rfl b};{exact zK.2 (by omega)}}
structure Looked (h r:ad) (m g page need q host:Int):Prop where
 op:Op h r
 inn:(ix (ix r.aa m mZ).ae q sZ).af=host
 ne:host≠-1
 en:enough (zbI (ix (ix (ix h.aa m mZ).ac g gZ).av page sZ) (ix r.aa m mZ).ae).aj need=true
 cp:(zbI (ix (ix (ix h.aa m mZ).ac g gZ).av page sZ) (ix r.aa m mZ).ae).af=host
 dk:∀k,j0 k 8=true->k≠q->ix (ix r.aa m mZ).aw k false=ix (ix h.aa m mZ).aw k false
 dq:need=2->ix (ix r.aa m mZ).aw q false=true
 d1:need=1->(ix r.aa m mZ).aw=(ix h.aa m mZ).aw
 dm:∀i,j0 i (ln h.aa)=true->i≠m->(ix r.aa i mZ).aw=(ix h.aa i mZ).aw
def zTM {h:ad}(S:Safe h){m g a b q:Int}(f:j0 m (ln h.aa)=true)(hg:j0 g (ln (ix h.aa m mZ).ac)=true)(l:b=1\/b=2)(W:Walked (ix (ix h.aa m mZ).ac g gZ).av a b q)(c:Bool)(d:zew (zce h m g) a=zbI (ix (ix (ix h.aa m mZ).ac g gZ).av a sZ) (ix h.aa m mZ).ae)(i:enough (zew (zce h m g) a).aj b=true) :
 Op h (zfv h m g a c).1/\(zfv h m g a c).2=((ix (ix h.aa m mZ).ae q sZ).af,true)/\(ix (ix h.aa m mZ).ae q sZ).af≠-1/\(zfv h m g a c).1.aa=h.aa:=by
 rw[d]at i;have e:=zrO l i;rw[W.pg,zpG<|(S.ok.mon f).hasO W.q8]at e;refine⟨zbe7 S.ok c λR=>?_,?_,e.2.1,?_⟩
 .obtain⟨t1,t2⟩:=S.ok.tag f hg;obtain⟨j,k,_⟩:=zZX t1 t2;rw[zgQ]
  show j0 (zef<|zeD m g) _=true/\j0 (zfj<|zeD m g) (ln (ix h.aa (zef<|zeD m g) mZ).ac)=true/\below' ⟨(zew (zce h m g) a).af,(zew (zce h m g) a).aj⟩ (zbI (zbK (ix (ix h.aa (zef<|zeD m g) mZ).ac (zfj<|zeD m g) gZ).av a) (ix h.aa (zef<|zeD m g) mZ).ae)=true
  rw[j,k,zpG W.hp,d];exact⟨f,hg,ztl.2<|.inr ⟨rfl,z0O<|z3I _ _⟩⟩
 .show ((zew (zce h m g) a).af,true)=_
  rw[d,e.2.2]
 .show (zxz h m g a c).aa=_
  unfold zxz;cases c<;>rfl
def zYJ {h:ad}(S:Safe h){m g page need q:Int}(x:j0 m (ln h.aa)=true)(hg:j0 g (ln (ix h.aa m mZ).ac)=true)(D:need=1\/need=2)(W:Walked (ix (ix h.aa m mZ).ac g gZ).av page need q)(N:Bool){b:List ar}(hb:∀e∈b,zdw h e=true)(hd:need=2->ix (ix h.aa m mZ).aw q false=true) :
 Looked h (zhm h b m g page need q N).1 m g page need q (zhm h b m g page need q N).2.1/\(zhm h b m g page need q N).2.2=true:=by
 have X:=S.ok.mon x;have r:=W.q8;have L:=zpG (X.hasO W.q8);unfold zhm;cases K:zjl b m g page need with
 |true=>
  rw[cond_true];unfold zjl at K;cases B:zts b m g page with
  |none=>rw[B]at K;cases K
  |some e=>rw[B]at K;have A:enough e.aj need=true:=K;obtain⟨f1,f2,f3⟩:=z9M B;obtain⟨t1,t2⟩:=S.ok.tag x hg;obtain⟨b1,b2,_⟩:=zZX t1 t2;obtain⟨_,_,v⟩:=zgQ.1 (hb e f1);rw[f2,b1,b2,f3,zpG W.hp]at v;have T:(⟨e.ad,e.aj⟩:k0)≠C0:=λf=>(by have:e.aj=0:=congrArg k0.aj f;rw[this,zsx D]at A;cases A);rcases ztl.1 v with v|⟨v,h4⟩;{exact absurd v T};{have h5:=zXq h4 A;have f:=zrO D h5;rw[W.pg,L]at f;have O:e.ad=_:=v;refine⟨⟨Op.refl S.ok,f.2.2.symm.trans v.symm,?_,h5,v.symm,λ_ _ _=>rfl,hd,λ_=>rfl,λ_ _ _=>rfl⟩,rfl⟩;show e.ad≠-1;rw[O,f.2.2];exact f.2.1}
 |false=>
  rw[cond_false];have P:=S.rt.t m x g hg;cases y:zfi h m g page need with
  |false=>rw[cond_false];have E:ix (zce h m g).ay page false=true/\enough (zew (zce h m g) page).aj need=true:=(by unfold zfi at y;cases n:zlH (zce h m g) page with|false=>rw[n]at y;cases y|true=>rw[n,cond_true]at y;refine⟨?_,?_⟩;{unfold zlH at n;cases hh:zdS (zce h m g) page with|false=>rw[hh]at n;cases n|true=>rw[hh]at n;exact n};{cases hz:ieq (zew (zce h m g) page).af (-1) with|true=>rw[hz]at y;cases y|false=>rw[hz]at y;simpa using y});have H:zew (zce h m g) page=zbI (ix (ix (ix h.aa m mZ).ac g gZ).av page sZ) (ix h.aa m mZ).ae:=(by have Z:=z6a P W.hp;have h1:ix (ix (ix h.aa m mZ).am g kZ).ay page false=true:=E.1;rw[h1]at Z;exact Z);obtain⟨U,V,Y,d⟩:=zTM S x hg D W N H E.2;rw[V];have J:=E.2;rw[H]at J;have f:=zrO D J;rw[W.pg,L]at f;exact⟨⟨U,by rw[d],Y,by rw[d];exact J,by rw[d];exact f.2.2,λ_ _ _=>by rw[d],λe=>by rw[d];exact hd e,λ_=>by rw[d],λ_ _ _=>by rw[d]⟩,rfl⟩
  |true=>
   rw[cond_true];have M:=zTU S.ok (m:=m) (p:=q) need x r;have c:j0 m (ln (A0 h m q need).aa)=true:=(by rw[M.op.like.has];exact x);have C:(ix (A0 h m q need).aa m mZ).ac=(ix h.aa m mZ).ac:=M.op.like.g m x;have l:j0 g (ln (ix (A0 h m q need).aa m mZ).ac)=true:=(by rw[C];exact hg);have G:Safe (A0 h m q need):=M.op.safe S;have F:=zbdY G.ok c l page;have S2:Safe (zcI (A0 h m q need) m g page):=F.safe G;have R:j0 m (ln (zcI (A0 h m q need) m g page).aa)=true:=(by rw[F.like.has];exact c);have u:ix (zcI (A0 h m q need) m g page).aa m mZ={ix (A0 h m q need).aa m mZ with am:=up (ix (A0 h m q need).aa m mZ).am g (filled (zce (A0 h m q need) m g) (zcG (A0 h m q need) m g) (ix (A0 h m q need).aa m mZ).ae page)}:=zbp c _ _;have Q:j0 g (ln (ix (zcI (A0 h m q need) m g page).aa m mZ).ac)=true:=(by rw[u];exact l);have w:(ix (zcI (A0 h m q need) m g page).aa m mZ).ac=(ix h.aa m mZ).ac:=(by rw[u];exact C);have W2:Walked (ix (ix (zcI (A0 h m q need) m g page).aa m mZ).ac g gZ).av page need q:=(by rw[w];exact W);have H:zew (zce (zcI (A0 h m q need) m g page) m g) page=zbI (ix (ix (ix (zcI (A0 h m q need) m g page).aa m mZ).ac g gZ).av page sZ) (ix (zcI (A0 h m q need) m g page).aa m mZ).ae:=(by have:zce (zcI (A0 h m q need) m g page) m g=filled (zce (A0 h m q need) m g) (zcG (A0 h m q need) m g) (ix (A0 h m q need).aa m mZ).ae page:=(by unfold zce;rw[u];exact zbp (by unfold ln;rw[(G.ok.mon c).gt];exact l) _ _);rw[this];refine(z3A (p:=page) (G.rt.t m c g l) (by rw[C];exact W.hp)).trans ?_;rw[u]);have z:(ix (zcI (A0 h m q need) m g page).aa m mZ).ae=(ix (A0 h m q need).aa m mZ).ae:=by rw[u]
   have j:=zpG ((G.ok.mon c).hasO r);have a:=zW0 (s:=ix (ix (ix h.aa m mZ).ac g gZ).av page sZ) (o:=(ix (A0 h m q need).aa m mZ).ae) D (by rw[W.pg];have:=zK.1 r;omega) (by rw[W.pg,j];exact M.inn) W.en (by
    rw[W.pg,j];rcases D with rfl|rfl
    .rcases (G.ok.mon c).enough1 r M.inn with e|e<;>rw [e]<;>decide
    .rw [M.ri (by decide)];decide)
   have J:enough (zew (zce (zcI (A0 h m q need) m g page) m g) page).aj need=true:=(by rw[H,w,z];exact a.2);obtain⟨U,V,Y,d⟩:=zTM S2 R Q D W2 N H J;rw[V];have I:=a.1;rw[W.pg,j]at I;refine⟨⟨(M.op.trans F).trans U,by rw[d],Y,by rw[d,z];exact a.2,by rw[d,z];exact I,λk n f=>?_,λe=>?_,λe=>?_,λi hi f=>?_⟩,rfl⟩;{rw [d,u];exact M.dk k n f};{rw [d,u];exact M.dt (by rw[e];decide)};{rw [d,u];exact M.d0 (by rw[e];decide)};{rw [d];show (ix (up (A0 h m q need).aa m _) i mZ).aw=_;rw[zbG (zK.1 x).1 (zK.1 hi).1<|Ne.symm f];exact M.dm i hi f}
def zIO {n:Int}:zg4 n=true↔n=1\/n=2:=by unfold zg4;by_cases h:n=1;{rw [zbA.2 h];simp[h]};{rw [zb4.2 h,cond_false,zbA];simp[h]}
def zsF {h:ad}{m g page need:Int}:zb8 h m g page need=true↔zbW h m g=true/\(need=1\/need=2)/\zfk (zcG h m g) page need=true:=by unfold zb8;rw[zcu,zcu,zIO]
def zTN {h:ad}(S:Safe h){m g page need:Int}(j:Bool)(t:zb8 h m g page need=true){b:List ar}(r:∀e∈b,zdw h e=true) :
 Looked h (lookOf h b m g page need j).1 m g page need (zct (zcG h m g) page need) (lookOf h b m g page need j).2.1/\(lookOf h b m g page need j).2.2=true:=by
 obtain⟨w,A,B⟩:=zsF.1 t;obtain⟨_,a,hg⟩:=zh0.1 w;have W:=walked (S.ok.guest a hg) B;unfold lookOf;rw[t,cond_true];rcases A with rfl|rfl
 .rw [show ieq 1 2=false by decide,cond_false]
  exact zYJ S a hg (.inl rfl) W j r (λe=>absurd e (by decide))
 .rw [show ieq 2 2=true by decide,cond_true]
  obtain⟨d,C⟩:=zOL S.ok a (zct (zcG h m g) page 2);have p:j0 m (ln (zbO h m<|zct (zcG h m g) page 2).aa)=true:=by rw[d.like.has];exact a
  have f:ix (zbO h m<|zct (zcG h m g) page 2).aa m mZ={ix h.aa m mZ with aw:=up (ix h.aa m mZ).aw (zct (zcG h m g) page 2) true}:=zbp a _ _;have x:=(S.ok.mon a).hasD W.q8;obtain⟨L,y⟩:=zYJ (d.safe S) p (g:=g) (page:=page) (need:=2) (q:=zct (zcG h m g) page 2) (by rw[f];exact hg) (.inr rfl) (by rw[f];exact W) j (b:=b) (λe z=>by
   obtain⟨l,u,v⟩:=zgQ.1 (r e z);rw[zgQ];have n:j0 (zef e.Tag) (ln (zbO h m<|zct (zcG h m g) page 2).aa)=true:=by rw[d.like.has];exact l
   refine⟨n,by rw[d.like.g _ l];exact u,?_⟩
   rw[d.like.g _ l];have:(ix (zbO h m<|zct (zcG h m g) page 2).aa (zef e.Tag) mZ).ae=(ix h.aa (zef e.Tag) mZ).ae:=by show (ix (up h.aa m _) _ mZ).ae=_;by_cases c:m=zef e.Tag;{rw [<- c,zbp a]};{rw [zbG (zK.1 a).1 (zK.1 l).1 c]}
   rw[this];exact v) (λ_=>by rw[f];exact zbp x _ _)
  refine⟨⟨d.trans L.op,L.inn,L.ne,?_,?_,λk s c=>?_,L.dq,λe=>absurd e (by decide),λi n c=>?_⟩,y⟩
  .have:=L.en;rw[f] at this;exact this
  .have:=L.cp;rw[f] at this;exact this
  .rw [L.dk k s c,f];exact zbG (zK.1 W.q8).1 (zK.1 s).1 (Ne.symm c) _ _
  .rw [L.dm i (by rw[d.like.has];exact n) c]
   show (ix (up h.aa m _) i mZ).aw=_
   rw[zbG (zK.1 a).1 (zK.1 n).1<|Ne.symm c]
def zSP {x y:Int}(a : -9223372036854775808<=x+y)(b:x+y<=9223372036854775807):zI .i64 x y=x+y:=by unfold zI;simp only[IntKind.wrap,IntKind.signed,IntKind.bits];simp;omega
def zMQ {n:Nat}{P:Int->Prop}(h:∀i:Fin n,P ((i.val:Nat):Int)){x:Int}(a:0<=x)(b:x<n):P x:=by have:=h ⟨x.toNat,by omega⟩;simpa [show ((x.toNat:Nat):Int)=x by omega] using this
def zZc {p:Int}:zd2 p=true↔0<=p/\p<=255:=by unfold zd2;exact zc9
def zT2 {p:Int}(h:zd2 p=true):zd2 (zjn p)=true:=by have a:=zZc.1 h;exact zMQ (n:=256) (P:=λx=>zd2 (zjn x)=true) (by decide +kernel) a.1 (by omega)
def zT1 {p:Int}(h:zd2 p=true)(n:Int):zd2 (zuZ p n)=true:=by unfold zuZ zi3;rw[h,cond_true];cases e:zk n 0 7 with|false=>exact h|true=>rw[cond_true];have b:=zZc.1 h;have a:=zc9.1 e;exact zMQ (n:=256) (P:=λx=>∀k,0<=k->k<(8:Int)->zd2 (wor .i64 x<|zne .i64 1 k)=true) (λi k c d=>zMQ (n:=8) (P:=λk=>zd2 (wor .i64 ((i.val:Nat):Int)<|zne .i64 1 k)=true) (by revert i;decide +kernel) c d) b.1 (by omega) n a.1 (by omega)
structure GKeep (x y:ah):Prop where
 ok:GOk y
 live:y.av=x.av
def z4o {x:ah}(X:GOk x){c:Int}(b:zk c 0 12=true):GOk {x with Pc:=c}:=⟨X.prog,X.a,b,X.w,X.l,X.ctl,X.pend,X.ex,X.seen⟩
def z4n {x:ah}(X:GOk x){c:Int}(a:zk c 0 99=true):GOk {x with A:=c}:=⟨X.prog,a,X.pc,X.w,X.l,X.ctl,X.pend,X.ex,X.seen⟩
def zlf {x:ah}(X:GOk x):GKeep x (zcb x):=by unfold zcb;have a:=zc9.1 X.pc;cases h:ige x.Pc 12 with|true=>exact⟨z4o X (by decide),rfl⟩|false=>have:¬ x.Pc≥12:=jQ h;refine⟨z4o X ?_,rfl⟩;rw[zSP (by omega) (by omega)];exact zc9.2 (by omega)
def zXz {x:ah}(X:GOk x)(n:Int):GKeep x (saw x n):=by unfold saw;cases h:ilt (ln x.aC) 40 with|false=>exact⟨X,rfl⟩|true=>have:ln x.aC<40:=qD h;refine⟨⟨X.prog,X.a,X.pc,X.w,X.l,X.ctl,X.pend,X.ex,qH ?_⟩,rfl⟩;unfold ln ap at *;simp;omega
def zlg {x:ah}(X:GOk x){e:aD}(b:zjC e=true):GKeep x (stopped x e):=⟨⟨X.prog,X.a,X.pc,X.w,X.l,X.ctl,X.pend,b,X.seen⟩,rfl⟩
def z2z {x:ah}(X:GOk x){p:Int}(b:zd2 p=true):GKeep x {x with an:=p}:=⟨⟨X.prog,X.a,X.pc,X.w,X.l,X.ctl,b,X.ex,X.seen⟩,rfl⟩
def z2w {x:ah}(X:GOk x)(b:Bool):GKeep x {x with aF:=b}:=⟨⟨X.prog,X.a,X.pc,X.w,X.l,X.ctl,X.pend,X.ex,X.seen⟩,rfl⟩
def z2x {x:ah}(X:GOk x):GKeep x (held x):=⟨(zlf (z2w X true).ok).ok,(zlf (z2w X true).ok).live⟩
def z7g {x:ah}(X:GOk x){v:Int}(c:zk v 0 99=true):GKeep x (loaded x v):=by have a:=zXz (z4n X c) v;have b:=zlf a.ok;exact⟨b.ok,b.live.trans a.live⟩
def zQe {x:ah}(X:GOk x):GKeep x (interrupted x):=by unfold interrupted;cases zjd x with|false=>exact⟨X,rfl⟩|true=>have a:=z2z X (zT2 X.pend);rw[cond_true];exact⟨(zXz a.ok _).ok,(zXz a.ok _).live⟩
def zLk {p:List Ins}(h:zdN p=true)(i:Int):ze1 (zcg p i)=true:=by unfold zcg;cases a:j0 i (ln p) with|false=>rfl|true=>unfold zdN at h;rw[zcu,qN]at h;exact h.1 _ (zlk a _)
def zbeX {i:Ins}(h:ze1 i=true)(a:i.Op=3\/i.Op=4):0<=i.X/\i.X<=15:=by unfold ze1 at h;rcases a with e|e<;>rw [e]at h<;>exact zc9.1 h
def z7l {i:Ins}(h:ze1 i=true)(a:i.Op=5\/i.Op=6):0<=i.X/\i.X<=99:=by unfold ze1 at h;rcases a with e|e<;>rw [e]at h<;>exact zc9.1 h
def zbfG {i:Ins}(h:ze1 i=true)(a:i.Op=8):0<=i.X/\i.X<=11:=by unfold ze1 at h;rw[a]at h;exact zc9.1 h
def zbfF {i:Ins}(h:ze1 i=true)(a:i.Op=1):0<=i.X/\i.X<=99:=by unfold ze1 at h;rw[a]at h;exact zc9.1 h
def z4p {x:ah}(X:GOk x):GKeep x (plainly x):=by have M:=zlf X;have b:=zLk X.prog x.Pc;unfold plainly;cases ine (zL x) 2 with|true=>exact⟨X,rfl⟩|false=>rw[cond_false];(cases zk x.A 0 99 with|false=>exact M|true=>rw[cond_true];(cases zk (zcg x.au x.Pc).X 0 99 with|false=>exact M|true=>rw[cond_true];by_cases c:(zcg x.au x.Pc).Op=1;{rw [zbA.2 c,cond_true];exact⟨z4n M.ok<|zc9.2<|zbfF b c,M.live⟩};{rw [zb4.2 c,cond_false];by_cases d:(zcg x.au x.Pc).Op=2;{rw [zbA.2 d,cond_true];refine⟨z4n M.ok ?_,M.live⟩;have f:=zc9.1 X.a;have i:0<=(zcg x.au x.Pc).X/\(zcg x.au x.Pc).X<=99:=(by unfold ze1 at b;rw[d]at b;exact zc9.1 b);rw[zc9];unfold zn9;rw[zSP (by omega) (by omega)];have g:=Int.tmod_nonneg (a:=x.A+(zcg x.au x.Pc).X) 100 (by omega);have h:=Int.tmod_lt_of_pos (x.A+(zcg x.au x.Pc).X) (show (0:Int)<100 by omega);omega};{rw [zb4.2 d,cond_false];by_cases e:(zcg x.au x.Pc).Op=8;{rw [zbA.2 e,cond_true];cases ieq x.A 0 with|true=>have:=zbfG b e;exact⟨z4o M.ok<|zc9.2 (by omega),M.live⟩|false=>exact M};{rw [zb4.2 e];exact M}}}))
def zuY {c:LI}:zcN c=true↔(∀x∈c,zk x 0 99=true)/\ln c=4:=by unfold zcN;rw[zcu,qN,zbA]
def zoq (h:ad)(m:Int):∀(n i:Nat),(zcR h m n i).length=n
 | 0,_=>rfl
 |n+1,i=>by rw[zcR,qU,zoq h m n]
def zOU (h:ad)(m:Int):∀(n i k:Nat) (a:k<(zcR h m n i).length),(zcR h m n i)[k]=zcM h m ((i+k:Nat):Int)
 | 0,i,k,a=>by simp[zcR]at a
 |n+1,i,k,a=>by cases k with|zero=>rfl|succ k=>have:=zOU h m n (i+1) k (by simpa [zcR] using a);simp only[zcR,List.getElem_cons_succ];rw[this];congr 1;omega
def zr1 {h:ad}{m q:Int}(b:j0 q 8=true)(d:LI):ix (zcR h m 8 0) q d=zcM h m q:=by have c:=zK.1 b;have a:q.toNat<(zcR h m 8 0).length:=(by rw[zoq];omega);have:=zlG a d;rw[show ((q.toNat:Nat):Int)=q by omega] at this;rw[this,zOU];congr 1;omega
def zwa (h:ad)(m:Int):ln (zcR h m 8 0)=8:=by unfold ln;rw[zoq];rfl
def zBH {h:ad}(H:HOk h){m p:Int}(b:j0 m (ln h.aa)=true)(a:j0 p 8=true):zcN (zcM h m p)=true:=by have X:=H.mon b;rw[<- zmQ H b a];by_cases e:(ix (ix h.aa m mZ).ae p sZ).af = -1;{rw [zbA.2 e];exact((zrS<|X.slot a).1 (X.fit p a)).1 e};{rw [zb4.2 e];exact zTZ H.pgs _}
def zAr {h:ad}(H:HOk h){m:Int}(b:j0 m (ln h.aa)=true):zb0 (zD h m)=true:=by have X:=H.mon b;unfold zD;rw[b,cond_true];unfold zb0 zjG;rw[zcu,qN];refine⟨X.gs,?_⟩;simp only[qE,zcu,qN,zbA,zc9];refine⟨⟨λc d=>?_,zwa h m⟩,⟨?_,?_⟩,?_,X.pend⟩;{obtain⟨i,a,rfl⟩:=ztC d [];rw[zwa]at a;rw[zr1 a];exact zBH H b a};{unfold ln;have:=X.g1;omega};{unfold ln;have:=X.g2;omega};{unfold ile ln;have:=X.outs;exact qH (by omega)}
structure SimT (h r:ad) (m:Int) (f:ai->ai):Prop where
 safe:Safe r
 seen:∀i,zD r i=bif ieq i m then f (zD h i) else zD h i
 len:r.aa.length=h.aa.length
def SimT.trans {a b c:ad}{m:Int}{f g:ai->ai}(x:SimT a b m f)(y:SimT b c m g):SimT a c m (λt=>g (f t)):=by refine⟨y.safe,λi=>?_,y.len.trans x.len⟩;rw[y.seen i,x.seen i];cases ieq i m<;>rfl
def Op.sim {h r:ad}(k:Op h r)(S:Safe h)(m:Int):SimT h r m id:=⟨k.safe S,λi=>by rw[k.like.seen i];cases ieq i m<;>rfl,k.like.len⟩
def SimT.congr {h r:ad}{m:Int}{f g:ai->ai}(x:SimT h r m f)(e:f (zD h m)=g (zD h m)):SimT h r m g:=by refine⟨x.safe,λi=>?_,x.len⟩;rw[x.seen i];by_cases a:i=m;{subst a;rw[zbA.2 rfl,cond_true,cond_true,e]};{rw [zb4.2 a];rfl}
def SimT.has {h r:ad}{m:Int}{f:ai->ai}(x:SimT h r m f)(i:Int):j0 i (ln r.aa)=j0 i (ln h.aa):=by unfold ln;rw[x.len]
def SimT.refl {h:ad}(S:Safe h)(m:Int):SimT h h m id:=⟨S,λi=>by cases ieq i m<;>rfl,rfl⟩
def zx4 {h:ad}(S:Safe h){m q a:Int}(l:j0 m (ln h.aa)=true)(f:j0 q 8=true)(J:(ix (ix h.aa m mZ).ae q sZ).af=a)(y:a≠-1)(c v:Int) :
 SimT h {h with ag:=zbS h.ag a c v} m (λb=>{b with ag:=zbS b.ag q c v})/\cellAt h.ag a c=cellAt (zD h m).ag q c:=by
 have H:=S.ok;have X:=H.mon l;have N:=X.slot f;have E:=hasM H N (by rw[J];exact y)
 rw[J]at E;have z:ix h.ag a []=zcM h m q:=by have:=zmQ H l f;rw[J,zb4.2 y,cond_false,zmP E] at this;exact this
 have n:ln (zcM h m q)=4:=(zuY.1<|zBH H l f).2;have d:(zD h m).ag=zcR h m 8 0:=by unfold zD;rw[l];rfl
 have C:zg3 h.ag a c=j0 c 4:=by unfold zg3;rw[E,cond_true,z,n]
 have D:zg3 (zcR h m 8 0) q c=j0 c 4:=by unfold zg3;rw[zwa,f,cond_true,zr1 f,n]
 have u:cellAt h.ag a c=cellAt (zD h m).ag q c:=by rw[d];unfold cellAt;rw[C,D,z,zr1 f]
 refine⟨?_,u⟩;cases A:j0 c 4 with
 |false=>have s:zbS h.ag a c v=h.ag:=(by unfold zbS;rw[C,A];rfl);rw[s];refine(SimT.refl S m).congr ?_;show zD h m={zD h m with ag:=zbS (zD h m).ag q c v};rw[d];have B:zbS (zcR h m 8 0) q c v=zcR h m 8 0:=(by unfold zbS;rw[D,A];rfl);rw[B,<- d]
 |true=>
  cases K:zk v 0 99 with
  |false=>have s:zbS h.ag a c v=h.ag:=(by unfold zbS;rw[C,A,K];rfl);rw[s];refine(SimT.refl S m).congr ?_;show zD h m={zD h m with ag:=zbS (zD h m).ag q c v};rw[d];have B:zbS (zcR h m 8 0) q c v=zcR h m 8 0:=(by unfold zbS;rw[D,A,K];rfl);rw[B,<- d]
  |true=>have s:zbS h.ag a c v=up h.ag a (up (zcM h m q) c v):=(by unfold zbS;rw[C,A,K,z];rfl);have B:zbS (zcR h m 8 0) q c v=up (zcR h m 8 0) q (up (zcM h m q) c v):=(by unfold zbS;rw[D,A,K,zr1 f];rfl);have G:zcN (up (zcM h m q) c v)=true:=(by have:=zuY.1 (zBH H l f);rw[zuY,zex];refine⟨λx O=>?_,this.2⟩;rcases qZ O with h|h;{exact this.1 x h};{rw [h];exact K});have P:=(zK.1 E).1;have L:HOk {h with ag:=zbS h.ag a c v}:=(by rw[s];refine⟨by show (up _ _ _).length=12;rw[zbZ];exact H.m12,λx O=>?_,H.n1,H.n3,H.b1,H.b2,H.mons,H.uq⟩;rcases qZ O with h|h;{exact H.pgs x h};{rw [h];exact G});refine⟨⟨L,⟨S.rt.t,S.rt.e1,S.rt.e2⟩⟩,λi=>?_,rfl⟩;have r:∀i k,j0 i (ln h.aa)=true->j0 k 8=true->¬ (i=m/\k=q)->zcM {h with ag:=zbS h.ag a c v} i k=zcM h i k:=(by intro i k w g I;rw[<- zmQ L (m:=i) (p:=k) w g,<- zmQ H w g];show (cond (ieq (ix (ix h.aa i mZ).ae k sZ).af<|-1) _<|zcQ (zbS h.ag a c v) _)=_;by_cases e:(ix (ix h.aa i mZ).ae k sZ).af = -1;{rw [zbA.2 e];rfl};{rw [zb4.2 e,cond_false,cond_false,s];exact zFD P (λe=>I (H.uniq w g l f e J P))});have F:zcM {h with ag:=zbS h.ag a c v} m q=up (zcM h m q) c v:=(by rw[<- zmQ L (m:=m) (p:=q) l f];show (cond (ieq (ix (ix h.aa m mZ).ae q sZ).af<|-1) _<|zcQ (zbS h.ag a c v) (ix (ix h.aa m mZ).ae q sZ).af)=_;rw[J,zb4.2 y,cond_false,s];exact zFC E);by_cases w:i=m;{subst w;rw[zbA.2 rfl,cond_true];unfold zD;show (cond (j0 i<|ln h.aa) _ _)=_;rw[l,cond_true,cond_true];show ai.mk (zcR {h with ag:=zbS h.ag a c v} i 8 0) _ _ _=ai.mk (zbS (zcR h i 8 0) q c v) _ _ _;congr 1;rw[B];refine zR8 [] (by rw[zbZ,zoq,zoq]) λk g=>?_;rw[zwa]at g;rw[zr1 g];by_cases e:q=k;{subst e;rw[zbp (by rw[zwa];exact f),F]};{rw [zbG (zK.1 f).1 (zK.1 g).1 e,zr1 g];exact r i k l g (λh=>e h.2.symm)}};{rw [zb4.2 w,cond_false];unfold zD;show (cond (j0 i<|ln h.aa) _ _)=_;cases M:j0 i (ln h.aa) with|false=>rfl|true=>rw[cond_true,cond_true];show ai.mk (zcR {h with ag:=zbS h.ag a c v} i 8 0) _ _ _=_;rw[zsI 8 0 λj C D=>r i (j:Int) M (zK.2 (by omega)) λh=>w h.1]}
def zsh {h:ad}(S:Safe h){m g:Int}(a:j0 m (ln h.aa)=true)(hg:j0 g (ln (ix h.aa m mZ).ac)=true){y:ah}(k:GKeep (gOf h m g) y):SimT h (zg1 h m g y) m (λb=>zeb b g y):=by have X:=S.ok.mon a;have kp:KeepP (ix h.aa m mZ) {ix h.aa m mZ with ac:=up (ix h.aa m mZ).ac g y}:=⟨rfl,rfl⟩;refine⟨zx2 S a kp (zmI X kp (zbZ _ _ _) rfl rfl X.outs X.pend X.tr X.own λz d=>?_) (zbZ _ _ _) (λj c=>?_) rfl,λi=>?_,zbZ _ _ _⟩;{rcases qZ d with h|h;{exact X.gs z h};{rw [h];exact zvm.2 k.ok}};{show (ix (up (ix h.aa m mZ).ac g y) j gZ).av=_;by_cases e:g=j;{subst e;rw[zbp hg];exact k.live};{rw [zbG (zK.1 hg).1 (zK.1 c).1 e]}};{refine(zwE (h:=h) (r:=zg1 h m g y) a rfl rfl kp i).trans ?_;by_cases e:i=m;{subst e;rw[zbA.2 rfl,cond_true,cond_true];unfold zeb zD;rw[a];rfl};{rw [zb4.2 e];rfl}}
def zZH {h:ad}(S:Safe h){m:Int}(a:j0 m (ln h.aa)=true){y:Mon}(kp:KeepP (ix h.aa m mZ) y)(d:MOk y)(hg:y.ac=(ix h.aa m mZ).ac)(c:y.am=(ix h.aa m mZ).am) :
 SimT h {h with aa:=up h.aa m y} m (λb=>{b with Outs:=y.Outs,an:=y.an}):=by
 refine⟨zx2 S a kp d (by rw[hg]) (λj _=>by rw[hg]) c,λi=>?_,zbZ _ _ _⟩
 refine(zwE (h:=h) (r:={h with aa:=up h.aa m y}) a rfl rfl kp i).trans ?_
 by_cases e:i=m
 .subst e;rw[zbA.2 rfl,cond_true,cond_true];unfold zD;rw[a,hg];rfl
 .rw [zb4.2 e];rfl
def zgq {h:ad}{m:Int}(a:j0 m (ln h.aa)=true):zD h m=⟨zcR h m 8 0,(ix h.aa m mZ).ac,(ix h.aa m mZ).Outs,(ix h.aa m mZ).an⟩:=by unfold zD;rw[a];rfl
def z8r {h:ad}(S:Safe h){m:Int}(a:j0 m (ln h.aa)=true):SimT h (owned h m) m id:=by unfold owned;cases b:ilt (ix h.aa m mZ).Own 1000000000 with|false=>exact SimT.refl S m|true=>rw[cond_true];have X:=S.ok.mon a;have d:=zc9.1 X.own;have c:(ix h.aa m mZ).Own<1000000000:=qD b;have kp:KeepP (ix h.aa m mZ) {ix h.aa m mZ with Own:=zI .i64 (ix h.aa m mZ).Own 1}:=⟨rfl,rfl⟩;refine(zZH S a kp (zmI X kp rfl rfl rfl X.outs X.pend X.tr ?_ X.gs) rfl rfl).congr ?_;{show zk (zI .i64 (ix h.aa m mZ).Own 1) 0 1000000000=true;rw[zSP (by omega) (by omega),zc9];omega};{rw [zgq a];rfl}
def z5H {h:ad}(S:Safe h){m:Int}(a:j0 m (ln h.aa)=true)(n:Int):SimT h (zi1 h m n) m (λb=>zi4 b n):=by unfold zi1;have X:=S.ok.mon a;cases c:ilt (ln (ix h.aa m mZ).Outs) 40 with|false=>refine(SimT.refl S m).congr ?_;rw[zgq a];unfold zi4;rw[c];rfl|true=>rw[cond_true];have d:ln (ix h.aa m mZ).Outs<40:=qD c;have kp:KeepP (ix h.aa m mZ) {ix h.aa m mZ with Outs:=ap (ix h.aa m mZ).Outs [n]}:=⟨rfl,rfl⟩;refine(zZH S a kp (zmI X kp rfl rfl rfl ?_ X.pend X.tr X.own X.gs) rfl rfl).congr ?_;{show (ap (ix h.aa m mZ).Outs [n]).length<=40;unfold ln ap at *;simp;omega};{rw [zgq a];unfold zi4;rw[c];rfl}
def zvQ {h:ad}{m g:Int}(a:j0 m (ln h.aa)=true)(hg:j0 g (ln (ix h.aa m mZ).ac)=true):gAt (zD h m) g=gOf h m g:=by rw[zgq a];unfold gAt;show (cond (j0 g<|ln (ix h.aa m mZ).ac) _ _)=_;rw[hg];rfl
def zSQ {x:ah}(h:zL x=3\/zL x=4\/zL x=5\/zL x=6):(zcg x.au x.Pc).Op=zL x:=by unfold zL at h ⊢;cases e:canRun x with|false=>simp[e]at h|true=>simp only[e,cond_true]at h ⊢;(cases f:zjd x with|true=>simp[f]at h|false=>simp only[f,cond_false]at h ⊢;unfold zv8 at h ⊢;by_cases a:(zcg x.au x.Pc).Op=3;{rw [a];rfl};{rw [zb4.2 a,cond_false]at h ⊢;by_cases b:(zcg x.au x.Pc).Op=4;{rw [b];rfl};{rw [zb4.2 b,cond_false]at h ⊢;by_cases c:(zcg x.au x.Pc).Op=5;{rw [c];rfl};{rw [zb4.2 c,cond_false]at h ⊢;by_cases d:(zcg x.au x.Pc).Op=6;{rw [d];rfl};{rw [zb4.2 d,cond_false]at h ⊢;cases g:ieq (zcg x.au x.Pc).Op 7<;>simp [g]at h}}}})
def zbcY {x:ah}(X:GOk x){w:Int}(a:zL x=w)(h:w=3\/w=4):0<=E0 x/\E0 x<=15:=by have e:E0 x=(zcg x.au x.Pc).X:=(by unfold E0;rcases h with e|e;{rw [a,e];rfl};{rw [a,e];rfl});rw[e];exact zbeX (zLk X.prog _) (by rw[zSQ (by omega),a];exact h)
def zbcZ {a:Int}(b:0<=a)(c:a<=15):zk (zbs a) 0 3=true/\j0 (zdO a) 4=true :=
 zMQ (n:=16) (P:=λa=>zk (zbs a) 0 3=true/\j0 (zdO a) 4=true) (by decide) b (by omega)
def z4e {p:Int}(h:zk p 0 3=true)(w:Bool):zjC (ztq p w)=true:=by unfold zjC ztq;simp[ieq,h]
def z6U {n:Int}(h:zk n 0 99=true):zjC (zvH n)=true:=by unfold zjC zvH;simp[ieq,h]
def z9L {n:Int}(h:zk n 0 99=true):zjC (zzO n)=true:=by unfold zjC zzO;simp[ieq,h]
def z9R {x:ah}(X:GOk x)(t:Int){w:Int}(d:zL x=w):GKeep x (zgc x t w):=by have c:=zLk X.prog x.Pc;unfold zgc;by_cases b:w=6;{rw [zbA.2 b];exact zlg X (z6U<|zc9.2<|z7l c (by rw[zSQ (by omega),d];omega))};{rw [zb4.2 b,cond_false];by_cases a:w=5;{rw [zbA.2 a];cases zed t 1 with|true=>exact zlg X (z9L<|zc9.2<|z7l c (by rw[zSQ (by omega),d];omega))|false=>rw[a];exact zlf X};{rw [zb4.2 a];rw[Bool.false_and,cond_false];cases e:(ieq w 7&&zed t 2) with|true=>exact zlg X rfl|false=>rw[cond_false];cases ieq w 7;{exact zlf X};{exact z2x X}}}
def z2G {a:Type}(g:Int):j0 g (ln ([]:List a))=false:=by cases h:j0 g (ln ([]:List a)) with|false=>rfl|true=>have:=zK.1 h;simp[ln] at this;omega
def z8X {m:List LI}(h:∀c∈m,zcN c=true)(p c:Int):zk (cellAt m p c) 0 99=true:=by unfold cellAt zg3;cases b:j0 p (ln m) with|false=>rfl|true=>rw[cond_true];(cases a:j0 c (ln<|ix m p []) with|false=>rfl|true=>rw[cond_true];exact(zuY.1<|h _<|zlk b []).1 _ (zlk a 0))
def HOk.seenG {h:ad}(H:HOk h){m g:Int}(a:j0 m (ln h.aa)=true)(hg:j0 g (ln (ix h.aa m mZ).ac)=true):GOk (gOf h m g):=H.guest a hg
def zZS {h:ad}(S:Safe h){m g:Int}(i:j0 m (ln h.aa)=true)(hg:j0 g (ln (ix h.aa m mZ).ac)=true)(w:Bool)(B:zL (gOf h m g)=bif w then 4 else 3) :
 SimT h (zia (zjf h m g (gOf h m g) w) m g (gOf h m g) w) m (λb=>zju b g (gOf h m g) w):=by
 have X:=S.ok.seenG i hg;have t:=zbcY X B (by cases w<;>simp)
 have n:=zbcZ t.1 t.2;have z:zcf w=1\/zcf w=2:=by cases w<;>simp [zcf]
 unfold zia zjf;cases k:zb8 h m g (zbs<|E0<|gOf h m g) (zcf w) with
 |false=>have e:lookOf h h.ao m g (zbs<|E0<|gOf h m g) (zcf w) false=(h,-1,false):=(by unfold lookOf;rw[k];rfl);have q:zfk (gOf h m g).av (zbs<|E0<|gOf h m g) (zcf w)=false:=(by cases y:zfk (gOf h m g).av (zbs<|E0<|gOf h m g) (zcf w) with|false=>rfl|true=>exact Bool.noConfusion (k.symm.trans<|zsF.2 ⟨zh0.2 ⟨S.ok,i,hg⟩,z,y⟩));rw[e];refine(zsh S i hg<|zlg X<|z4e n.1 w).congr ?_;unfold zju;rw[q];rfl
 |true=>obtain⟨L,x⟩:=zTN S false k S.rt.e1;obtain⟨_,_,j⟩:=zsF.1 k;have c:zfk (gOf h m g).av (zbs<|E0<|gOf h m g) (zcf w)=true:=j;have W:=walked X j;rw[x,cond_true];have l:=L.op.safe S;have f:j0 m (ln (lookOf h h.ao m g (zbs<|E0<|gOf h m g) (zcf w) false).1.aa)=true:=(by rw[L.op.like.has];exact i);have a:=L.op.like.g m i;have C:j0 (zct (zcG h m g) (zbs<|E0<|gOf h m g)<|zcf w) 8=true:=W.q8;obtain⟨u,v⟩:=zx4 l f C L.inn L.ne (zdO<|E0<|gOf h m g) (gOf h m g).A;rw[L.op.like.seen m] at v;cases w with|true=>rw[cond_true];have r:=L.op.sim S m;have p:j0 m (ln ({ (lookOf h h.ao m g (zbs<|E0<|gOf h m g) (zcf true) false).1 with ag:=zbS (lookOf h h.ao m g (zbs<|E0<|gOf h m g) (zcf true) false).1.ag (lookOf h h.ao m g (zbs<|E0<|gOf h m g) (zcf true) false).2.1 (zdO<|E0<|gOf h m g) (gOf h m g).A}:ad).aa)=true:=f;have d:j0 g (ln (ix ({ (lookOf h h.ao m g (zbs<|E0<|gOf h m g) (zcf true) false).1 with ag:=zbS (lookOf h h.ao m g (zbs<|E0<|gOf h m g) (zcf true) false).1.ag (lookOf h h.ao m g (zbs<|E0<|gOf h m g) (zcf true) false).2.1 (zdO<|E0<|gOf h m g) (gOf h m g).A}:ad).aa m mZ).ac)=true:=(by show j0 g (ln (ix (lookOf h h.ao m g (zbs<|E0<|gOf h m g) (zcf true) false).1.aa m mZ).ac)=true;rw[a];exact hg);have s:GKeep (gOf { (lookOf h h.ao m g (zbs<|E0<|gOf h m g) (zcf true) false).1 with ag:=zbS (lookOf h h.ao m g (zbs<|E0<|gOf h m g) (zcf true) false).1.ag (lookOf h h.ao m g (zbs<|E0<|gOf h m g) (zcf true) false).2.1 (zdO<|E0<|gOf h m g) (gOf h m g).A} m g) (zcb<|gOf h m g):=(by have:gOf { (lookOf h h.ao m g (zbs<|E0<|gOf h m g) (zcf true) false).1 with ag:=zbS (lookOf h h.ao m g (zbs<|E0<|gOf h m g) (zcf true) false).1.ag (lookOf h h.ao m g (zbs<|E0<|gOf h m g) (zcf true) false).2.1 (zdO<|E0<|gOf h m g) (gOf h m g).A} m g=gOf h m g:=(by show ix (ix (lookOf h h.ao m g (zbs<|E0<|gOf h m g) (zcf true) false).1.aa m mZ).ac g gZ=_;rw[a];rfl);rw[this];exact zlf X);refine((r.trans u).trans (zsh u.safe p d s)).congr ?_;unfold zju;rw[c];rfl|false=>rw[cond_false];have r:=L.op.sim S m;have d:j0 g (ln (ix (lookOf h h.ao m g (zbs<|E0<|gOf h m g) (zcf false) false).1.aa m mZ).ac)=true:=(by rw[a];exact hg);have s:GKeep (gOf (lookOf h h.ao m g (zbs<|E0<|gOf h m g) (zcf false) false).1 m g) (loaded (gOf h m g)<|cellAt (lookOf h h.ao m g (zbs<|E0<|gOf h m g) (zcf false) false).1.ag (lookOf h h.ao m g (zbs<|E0<|gOf h m g) (zcf false) false).2.1<|zdO<|E0<|gOf h m g):=(by have:gOf (lookOf h h.ao m g (zbs<|E0<|gOf h m g) (zcf false) false).1 m g=gOf h m g:=(by show ix (ix (lookOf h h.ao m g (zbs<|E0<|gOf h m g) (zcf false) false).1.aa m mZ).ac g gZ=_;rw[a];rfl);rw[this];exact z7g X (z8X l.ok.pgs _ _));refine(r.trans<|zsh l f d s).congr ?_;unfold zju;rw[c,v];rfl
def z9Q {h r:ad}{m g:Int}(e:(ix r.aa m mZ).ac=(ix h.aa m mZ).ac):gOf r m g=gOf h m g:=by unfold gOf;rw[e]
def zbdZ (h:ad)(m:Int)(a:j0 m (ln h.aa)=true):(ix (owned h m).aa m mZ).ac=(ix h.aa m mZ).ac:=by unfold owned;cases ilt (ix h.aa m mZ).Own 1000000000 with|false=>rfl|true=>show (ix (up h.aa m _) m mZ).ac=_;rw[zbp a]
def zbae (h:ad)(m n:Int)(a:j0 m (ln h.aa)=true):(ix (zi1 h m n).aa m mZ).ac=(ix h.aa m mZ).ac:=by unfold zi1;cases ilt (ln (ix h.aa m mZ).Outs) 40 with|false=>rfl|true=>show (ix (up h.aa m _) m mZ).ac=_;rw[zbp a]
def z8t {h:ad}(S:Safe h){m:Int}(a:j0 m (ln h.aa)=true)(x:ah)(w:Int):SimT h (ze2 h m x w) m id/\(ix (ze2 h m x w).aa m mZ).ac=(ix h.aa m mZ).ac:=by unfold ze2;cases (cond (ine w 6) (ieq (zn7 (ix h.aa m mZ).aq x.Ctl.aq<|zgb w) 2) false) with|false=>exact⟨SimT.refl S m,rfl⟩|true=>exact⟨z8r S a,zbdZ h m a⟩
def z8s {h:ad}(S:Safe h){m:Int}(a:j0 m (ln h.aa)=true)(x:ah)(w:Int):SimT h (zhA h m x w) m (λb=>bif (cond (zhZ x.Ctl.aq w) (ieq w 5) false) then zi4 b (zcg x.au x.Pc).X else b)/\(ix (zhA h m x w).aa m mZ).ac=(ix h.aa m mZ).ac:=by unfold zhA;cases (cond (zhZ x.Ctl.aq w) (ieq w 5) false) with|false=>exact⟨SimT.refl S m,rfl⟩|true=>exact⟨z5H S a _,zbae h m _ a⟩
def zF3 {h:ad}(S:Safe h){m g:Int}(d:j0 m (ln h.aa)=true)(hg:j0 g (ln (ix h.aa m mZ).ac)=true){w:Int}(l:zL (gOf h m g)=w) :
 SimT h (zlD h m g (gOf h m g) w) m (λb=>zn2 b g (gOf h m g) w):=by
 have X:=S.ok.seenG d hg;obtain⟨f,j⟩:=z8t S d (gOf h m g) w;have a:j0 m (ln (ze2 h m (gOf h m g) w).aa)=true:=by rw[f.has];exact d
 obtain⟨i,k⟩:=z8s f.safe a (gOf h m g) w;have e:j0 m (ln (zhA (ze2 h m (gOf h m g) w) m (gOf h m g) w).aa)=true:=by rw[i.has];exact a
 have c:j0 g (ln (ix (zhA (ze2 h m (gOf h m g) w) m (gOf h m g) w).aa m mZ).ac)=true:=by rw[k,j];exact hg
 have n:GKeep (gOf (zhA (ze2 h m (gOf h m g) w) m (gOf h m g) w) m g) (zgc (gOf h m g) (gOf h m g).Ctl.aq w):=by rw[z9Q<|k.trans j];exact z9R X _ l
 exact((f.trans i).trans (zsh i.safe e c n)).congr rfl
def z5T (x:ah):zL x=0\/zL x=1\/zL x=2\/zL x=3\/zL x=4\/zL x=5\/zL x=6\/zL x=7:=by unfold zL zv8;cases canRun x<;>cases zjd x<;>cases ieq (zcg x.au x.Pc).Op 3<;>cases ieq (zcg x.au x.Pc).Op 4<;>cases ieq (zcg x.au x.Pc).Op 5<;>cases ieq (zcg x.au x.Pc).Op 6<;>cases ieq (zcg x.au x.Pc).Op 7<;>simp
def zWW {h:ad}(H:HOk h)(m g:Int):zen (zD h m) g=bif zbW h m g then !ieq (zL<|gOf h m g) 0 else false:=by unfold zen zbW;rw[zkA.2 H,cond_true];cases a:j0 m (ln h.aa) with|false=>have:(zD h m).ac=[]:=(by unfold zD;rw[a];rfl);rw[this,z2G];rfl|true=>rw[cond_true,zAr H a,cond_true];have:(zD h m).ac=(ix h.aa m mZ).ac:=(by rw[zgq a]);rw[this];(cases hg:j0 g (ln (ix h.aa m mZ).ac) with|false=>rfl|true=>rw[cond_true,cond_true,zvQ a hg])
def step_ok {h:ad}(S:Safe h)(m g:Int):SimT h (zbz h m g).1 m (λb=>zdj b g)/\(zbz h m g).2=zen (zD h m) g:=by
 have a:=zWW S.ok m g;unfold zbz;cases i:zbW h m g with
 |false=>rw[i,cond_false]at a;refine⟨(SimT.refl S m).congr ?_,a.symm⟩;unfold zdj;rw[a];rfl
 |true=>rw[i,cond_true]at a;rw[cond_true];obtain⟨_,c,hg⟩:=zh0.1 i;have X:=S.ok.seenG c hg;have f:=zvQ c hg;have d:∀w,zL (gOf h m g)=w->w≠0->zdj (zD h m) g=stepped (zD h m) g (gOf h m g) w:=(by intro w j k;unfold zdj;rw[a,j,zb4.2 k,f,j];rfl);rcases z5T (gOf h m g) with e|e|e|e|e|e|e|e;{rw [e];rw[e]at a;refine⟨(SimT.refl S m).congr ?_,a.symm⟩;unfold zdj;rw[a];rfl};{rw [e]at a ⊢;exact⟨(zsh S c hg<|zQe X).congr (d 1 e (by decide)).symm,a.symm⟩};{rw [e]at a ⊢;exact⟨(zsh S c hg<|z4p X).congr (d 2 e (by decide)).symm,a.symm⟩};{rw [e]at a ⊢;exact⟨(zZS S c hg false e).congr (d 3 e (by decide)).symm,a.symm⟩};{rw [e]at a ⊢;exact⟨(zZS S c hg true e).congr (d 4 e (by decide)).symm,a.symm⟩};{rw [e]at a ⊢;exact⟨(zF3 S c hg e).congr (d 5 e (by decide)).symm,a.symm⟩};{rw [e]at a ⊢;exact⟨(zF3 S c hg e).congr (d 6 e (by decide)).symm,a.symm⟩};{rw [e]at a ⊢;exact⟨(zF3 S c hg e).congr (d 7 e (by decide)).symm,a.symm⟩}
structure BackOk (b c:ai):Prop where
 m:c.ag=b.ag
 o:c.Outs=b.Outs
 n:c.ac.length=b.ac.length
 g:∀j,j0 j (ln b.ac)=true->GKeep (ix b.ac j gZ) (ix c.ac j gZ)
 p:zd2 b.an=true->zd2 c.an=true
def zbaC {h:ad}(S:Safe h){m:Int}(b:j0 m (ln h.aa)=true){c:ai}(k:BackOk (zD h m) c):SimT h (zdF h m c) m (λ_=>c):=by have X:=S.ok.mon b;have f:=zgq b;have d:(zD h m).ac=(ix h.aa m mZ).ac:=(by rw[f]);have l:c.ac.length=(ix h.aa m mZ).ac.length:=(by rw[k.n,d]);have hg:∀j,j0 j (ln (ix h.aa m mZ).ac)=true->GKeep (ix (ix h.aa m mZ).ac j gZ) (ix c.ac j gZ):=λj a=>(by have:=k.g j (by rw[d];exact a);rwa [d] at this);have kp:KeepP (ix h.aa m mZ) (zwZ (ix h.aa m mZ) c):=⟨rfl,rfl⟩;have s:zd2 c.an=true:=k.p (by rw[f];exact X.pend);refine⟨zx2 S b kp (zmI X kp l rfl rfl X.outs s X.tr X.own λz t=>?_) l (λj a=>(hg j a).live) rfl,λi=>?_,zbZ _ _ _⟩;{obtain⟨j,a,rfl⟩:=ztC t gZ;exact zvm.2 (hg j (by unfold ln at a ⊢;rw[<- l];exact a)).ok};{refine(zwE (h:=h) (r:=zdF h m c) b rfl rfl kp i).trans ?_;by_cases e:i=m;{subst e;rw[zbA.2 rfl,cond_true,cond_true];show ai.mk (zD h i).ag c.ac (ix h.aa i mZ).Outs c.an=c;have u:=k.m;have q:=k.o;rw[f]at q;cases c;simp_all};{rw [zb4.2 e];rfl}}
def seen_none {h:ad}{m:Int}(a:j0 m (ln h.aa)=false):zD h m=⟨[],[],[],0⟩:=by unfold zD;rw[a];rfl
def zvq:zb0 ⟨[],[],[],0⟩=false:=by decide
def zvE {b:ai}(h:zb0 b=false)(g:Int):zcy b g=false:=by unfold zcy;rw[h];rfl
def zjz {b:ai}(h:zb0 b=true):BackOk b b:=⟨rfl,rfl,rfl,λj a=>⟨zvm.1 (by
 unfold zb0 at h;rw[zcu,qN]at h;exact h.1 _ (zlk a _)),rfl⟩,id⟩
def z6e {b:ai}(h:zb0 b=true){g:Int}(hg:j0 g (ln b.ac)=true){y:ah}(k:GKeep (gAt b g) y):BackOk b (zeb b g y):=by have e:gAt b g=ix b.ac g gZ:=(by unfold gAt;rw[hg];rfl);refine⟨rfl,rfl,zbZ _ _ _,λj c=>?_,id⟩;show GKeep _ (ix (up b.ac g y) j gZ);by_cases a:g=j;{subst a;rw[zbp hg,<- e];exact k};{rw [zbG (zK.1 hg).1 (zK.1 c).1 a];exact(zjz h).g j c}
def ztk {b:ai}(h:zb0 b=true){g:Int}{c:Bool}{y:ah}(k:j0 g (ln b.ac)=true->c=true->GOk (gAt b g)->GKeep (gAt b g) y):BackOk b (chg b g c y):=by unfold chg zcy;rw[h,cond_true];cases hg:j0 g (ln b.ac) with|false=>exact zjz h|true=>rw[cond_true];(cases c with|false=>exact zjz h|true=>refine z6e h hg (k hg rfl ?_);have:=(zjz h).g g hg;unfold gAt;rw[hg];exact this.ok)
def zr4 {h:ad}(S:Safe h)(m:Int){F:ai->ai}(d:∀b,zb0 b=true->BackOk b (F b))(c:F ⟨[],[],[],0⟩=⟨[],[],[],0⟩):SimT h (zjg h m<|F<|zD h m) m F:=by unfold zjg zdf;rw[zkA.2 S.ok,cond_true];cases a:j0 m (ln h.aa) with|false=>refine(SimT.refl S m).congr ?_;rw[seen_none a];exact c.symm|true=>exact(zbaC S a<|d _<|zAr S.ok a).congr rfl
def zmT {h:ad}(S:Safe h)(m:Int){t:ai->Bool}(a:t ⟨[],[],[],0⟩=false):zhS h m (t<|zD h m)=t (zD h m):=by unfold zhS zdf;rw[zkA.2 S.ok,cond_true];cases b:j0 m (ln h.aa) with|false=>rw[cond_false,seen_none b,a]|true=>rfl
def zrN (g:Int)(c:Bool)(y:ah):chg ⟨[],[],[],0⟩ g c y=⟨[],[],[],0⟩:=by unfold chg;rw[zvE zvq];rfl
def zlc (g:Int)(c:Bool):zcA ⟨[],[],[],0⟩ g c=false:=by unfold zcA;rw[zvE zvq];rfl
def zZW {t:List k0}{n q:Int}(h:zdv t n q=true){p:Int}{s:k0}(b:zey s q=true):zdv (zfl t p s) n q=true:=by
 unfold zfl;cases j0 p (ln t) with
 |false=>exact h
 |true=>rw[cond_true];rw[zti]at h ⊢;rw[zex];refine⟨λx c=>?_,h.2⟩;rcases qZ c with a|a;{exact h.1 x a};{rw [a];exact b}
def zbdF {x:ah}(X:GOk x){p:Int}{s:k0}(h:zyS p s=true):GKeep x (zF1 x p s):=by unfold zyS at h;rw[zcu]at h;exact⟨⟨X.prog,X.a,X.pc,zZW X.w h.2,X.l,X.ctl,X.pend,X.ex,X.seen⟩,rfl⟩
def zbdC {x:ah}(X:GOk x){v:Int}(h:zym x v=true):GKeep x (zAO x v):=by unfold zym at h;rw[zcu]at h;unfold zAO;cases ieq x.Exit.Kind 2 with|true=>rw[cond_true];have b:=zlg (z4n X h.1) (e:=zmM) rfl;have a:=zlf b.ok;exact⟨a.ok,a.live⟩|false=>rw[cond_false];have b:=zlg X (e:=zmM) rfl;have a:=zlf b.ok;exact⟨a.ok,a.live.trans b.live⟩
def zbdE {x:ah}(X:GOk x):GKeep x (zBM x):=by unfold zBM;have a:=zlg X (e:=zmM) rfl;cases ieq x.Exit.Kind 1 with|true=>exact a|false=>have b:=z2x a.ok;exact⟨b.ok,b.live.trans a.live⟩
def z2y {x:ah}(X:GOk x)(n:Int):GKeep x (zp8 x n):=z2z X (zT1 X.pend n)
def zbdD {x:ah}(X:GOk x){c:Ctl}(h:zno c=true):GKeep x (zP6 x c):=⟨⟨X.prog,X.a,X.pc,X.w,X.l,h,X.pend,X.ex,X.seen⟩,rfl⟩
def zEA (n:Int):∀(d:LI) (b:ai) (l:List ah),(∀k∈d,j0 k (ln b.ac)=true)->BackOk b {b with ac:=l}->BackOk b {b with ac:=znz n d l}
 |[],b,l,_,h=>h
 |k::d,b,l,q,h=>by show BackOk b {b with ac:=znz n d (zGD n l k)};refine zEA n d b _ (λj a=>q j (qY _ a)) ⟨h.m,h.o,by show (up l k _).length=_;rw[zbZ];exact h.n,λj a=>?_,h.p⟩;show GKeep _ (ix (up l k _) j gZ);have r:l.length=b.ac.length:=h.n;have c:j0 k (ln l)=true:=(by unfold ln;rw[r];exact q k jB);by_cases e:k=j;{subst e;rw[zbp c];have f:=h.g k a;have i:=z2y f.ok n;exact⟨i.ok,i.live.trans f.live⟩};{rw [zbG (zK.1 c).1 (zK.1 a).1 e];exact h.g j a}
def z3C {b:ai}(h:zb0 b=true)(n:Int):BackOk b (zmj b n):=by
 unfold zmj zgK zGE;rw[h,cond_true];cases j0 n 8 with
 |false=>exact zjz h
 |true=>
  rw[cond_true];cases ieq (ln<|zfb b.ac n) 0 with
  |true=>have:=zjz h;exact⟨rfl,rfl,rfl,this.g,λc=>zT1 c n⟩
  |false=>rw[cond_false];refine zEA n _ b b.ac (λk a=>?_) (zjz h);unfold zfb at a;obtain⟨j,e,rfl,_⟩:=(zKQ (d:=gZ)).1 a;exact zK.2 ⟨by omega,by unfold ln;omega⟩
def z6d {b:ai}(h:zb0 b=true):BackOk b (zo2 b):=by unfold zo2;rw[h,cond_true];exact⟨rfl,rfl,rfl,(zjz h).g,λa=>zT2 a⟩
def zbao {h:ad}(S:Safe h)(m p c v:Int):SimT h (zpa h m p c v) m (λb=>zWn b p c v)/\zgx h m p c v=zzP (zD h m) p c v:=by have e:zgx h m p c v=zzP (zD h m) p c v:=(by unfold zgx zzP zc0 zbcL;rw[zkA.2 S.ok,cond_true];cases d:j0 m (ln h.aa) with|false=>rw[seen_none d,zvq];rfl|true=>rw[zAr S.ok d,cond_true];rfl);refine⟨?_,e⟩;unfold zpa;cases f:zgx h m p c v with|false=>refine(SimT.refl S m).congr ?_;unfold zWn;rw[<- e,f];rfl|true=>rw[cond_true];have a:=f;unfold zgx at a;rw[zcu,zcu]at a;obtain⟨k,_,_⟩:=a;obtain⟨_,d,j⟩:=zqk.1 k;have M:=zTU S.ok (m:=m) (p:=p) 2 d j;have i:=M.op.sim S m;have g:j0 m (ln (A0 h m p 2).aa)=true:=(by rw[i.has];exact d);obtain⟨l,_⟩:=zx4 i.safe g j rfl M.inn c v;refine(i.trans l).congr ?_;unfold zWn;rw[<- e,f];rfl
def z7B {h:ad}(S:Safe h)(m g b a:Int):zb8 h m g b a=(cond (zcy (zD h m) g) (cond (zg4 a) (zfk (gAt (zD h m) g).av b a) false) false):=by have e:zbW h m g=zcy (zD h m) g:=(by unfold zbW zcy;rw[zkA.2 S.ok,cond_true];cases c:j0 m (ln h.aa) with|false=>rw[seen_none c,zvq,cond_false,cond_false]|true=>rw[cond_true,zAr S.ok c,cond_true];have:(zD h m).ac=(ix h.aa m mZ).ac:=(by rw[zgq c]);rw[this]);unfold zb8;rw[<- e];cases hg:zbW h m g with|false=>rw[cond_false,cond_false]|true=>obtain⟨_,c,hg⟩:=zh0.1 hg;have:(gAt (zD h m) g).av=zcG h m g:=(by rw[zvQ c hg];rfl);rw[this]
def zJU {h:ad}(S:Safe h)(m g a n:Int)(b:n=1\/n=2):zpZ (zD h m) g a n=bif zk a 0 15 then zb8 h m g (zbs a) n else false:=by rw[z7B S];unfold zpZ;rw[zIO.2 b,cond_true];cases zcy (zD h m) g<;>cases zk a 0 15<;>rfl
def zXp {h:ad}(S:Safe h){m g a n:Int}(f:n=1\/n=2)(b:zpZ (zD h m) g a n=true) :
 Looked h (zFi h m g a n).1 m g (zbs a) n (zGn (zD h m) g a n) (zFi h m g a n).2.1/\j0 m (ln h.aa)=true/\j0 (zGn (zD h m) g a n) 8=true:=by
 rw[zJU S m g a n f,zcu]at b;obtain⟨L,_⟩:=zTN S true b.2 S.rt.e2;obtain⟨d,_,i⟩:=zsF.1 b.2;obtain⟨_,c,hg⟩:=zh0.1 d;have e:zGn (zD h m) g a n=zct (zcG h m g) (zbs a) n:=by unfold zGn;rw[zvQ c hg];rfl
 rw[e];exact⟨L,c,(walked (S.ok.guest c hg) i).q8⟩
def zbeP {h:ad}(S:Safe h)(m g a v:Int):SimT h (zrV h m g a v) m (λb=>z4b b g a v)/\ziq h m g a v=zA7 (zD h m) g a v:=by have e:ziq h m g a v=zA7 (zD h m) g a v:=(by unfold ziq zA7;rw[zJU S m g a 2 (.inr rfl)];cases zk a 0 15<;>cases zk v 0 99<;>cases zb8 h m g (zbs a) 2<;>rfl);refine⟨?_,e⟩;unfold zrV;cases c:ziq h m g a v with|false=>refine(SimT.refl S m).congr ?_;unfold z4b;rw[<- e,c];rfl|true=>rw[cond_true];have f:zpZ (zD h m) g a 2=true:=(by have:=e.symm.trans c;unfold zA7 at this;exact(zcu.1 this).1);obtain⟨L,i,j⟩:=zXp S (.inr rfl) f;have d:=L.op.sim S m;obtain⟨k,_⟩:=zx4 d.safe (by rw[d.has];exact i) j L.inn L.ne (zdO a) v;refine(d.trans k).congr ?_;unfold z4b;rw[<- e,c];rfl
def zbd1 {h:ad}(S:Safe h)(m g a:Int):SimT h (zpb h m g a) m id/\zhj h m g a=zpZ (zD h m) g a 1/\ztz h m g a=zWr (zD h m) g a:=by have e:zhj h m g a=zpZ (zD h m) g a 1:=(by unfold zhj;rw[zJU S m g a 1 (.inl rfl)]);unfold zpb ztz zWr;rw[e];cases d:zpZ (zD h m) g a 1 with|false=>exact⟨SimT.refl S m,rfl,rfl⟩|true=>obtain⟨L,f,i⟩:=zXp S (.inl rfl) d;have b:=L.op.sim S m;obtain⟨_,c⟩:=zx4 b.safe (by rw[b.has];exact f) i L.inn L.ne (zdO a) 0;rw[L.op.like.seen m] at c;exact⟨b,rfl,c⟩
def z7n {k:az}{a b:List k0}(h:KOk k a b)(p:Int)(s:k0):KOk (zca k p) (zfl a p s) b:=by have j:=zmD k p;have f:(zfl a p s).length=a.length:=(by unfold zfl;cases j0 p (ln a)<;>simp [zbZ]);refine⟨by rw[j.1,f,h.l1],by rw[j.2,f,h.l2],λi l=>?_⟩;have c:j0 i (ln a)=true:=(by unfold ln at l ⊢;rwa [<- f]);have d:j0 i (ln k.ay)=true:=(by unfold ln at c ⊢;rwa [h.l1]);have g:=zys (q:=p) (by rw[h.l1,h.l2]) d;rw[g.1,g.2];by_cases e:p=i;{subst e;rw[zbA.2 rfl];rfl};{rw [zb4.2 e,cond_false,cond_false,h.at' i c];have:ix (zfl a p s) i sZ=ix a i sZ:=(by unfold zfl;cases m:j0 p (ln a) with|false=>rfl|true=>exact zbG (zK.1 m).1 (zK.1 c).1 e _ _);rw[this]}
def zbfj {t m g:Int}(a:zef t=m)(b:zfj t=g)(c:0<=m):t=zeD m g:=by subst a;subst b;by_cases h:1<=t/\t<=6;{have e:t=1\/t=2\/t=3\/t=4\/t=5\/t=6:=(by omega);rcases e with rfl|rfl|rfl|rfl|rfl|rfl<;>decide};{exfalso;have:zef t = -1:=(by unfold zef ige ile;rw[show (decide (t≥1)&&decide (t<=6))=false by simp;omega];rfl);omega}
def z1V {t:List k0}{p q:Int}{s:k0}(h:q≠p):zbK (zfl t p s) q=zbK t q:=by unfold zfl;cases a:j0 p (ln t) with|false=>rfl|true=>exact zUg (zK.1 a).1 h
def zbaD {t:List k0}(h:zdv t 4 8=true)(p:Int):zey (zbK t p) 8=true:=by unfold zbK;cases a:j0 p (ln t) with|false=>rfl|true=>exact(zti.1 h).1 _ (zlk a _)
def z7f {x:ah}(X:GOk x)(p:Int):GOk (zeE x p):=⟨X.prog,X.a,X.pc,X.w,zZW X.l<|zbaD X.w p,X.ctl,X.pend,X.ex,X.seen⟩
def z9O {h:ad}(S:Safe h)(m g p:Int):SimT h (zmE h m g p) m (λb=>chg b g (j0 p 4) (zeE (gAt b g) p))/\zhS h m (zcA (zD h m) g<|j0 p 4)=zcA (zD h m) g (j0 p 4):=by
 refine⟨?_,zmT S m (t:=λb=>zcA b g (j0 p 4))<|zlc g _⟩;unfold zmE zdf;rw[zkA.2 S.ok,cond_true];cases a:j0 m (ln h.aa) with
 |false=>refine(SimT.refl S m).congr ?_;rw[seen_none a,zrN];rfl
 |true=>
  rw[cond_true];cases w:zcA (zD h m) g (j0 p 4) with
  |false=>refine(SimT.refl S m).congr ?_;show zD h m=chg (zD h m) g (j0 p 4) (zeE (gAt (zD h m) g) p);have c:=w;unfold zcA at c;unfold chg;rw[c];rfl
  |true=>rw[cond_true];have c:=w;unfold zcA zcy at c;rw[zAr S.ok a,cond_true,zcu,zgq a]at c;have hg:j0 g (ln (ix h.aa m mZ).ac)=true:=c.1;have X:=S.ok.mon a;have G:=S.ok.seenG a hg;have C:chg (zD h m) g (j0 p 4) (zeE (gAt (zD h m) g) p)=zeb (zD h m) g (zeE (gOf h m g) p):=(by have l:=w;unfold zcA at l;unfold chg;rw[l,zvQ a hg];rfl);rw[C];have B:j0 g (ln (ix h.aa m mZ).am)=true:=(by unfold ln;rw[X.gt];exact hg);have s:(zET (zdF h m<|zeb (zD h m) g<|zeE (gOf h m g) p) m g p).aa=up h.aa m {ix h.aa m mZ with ac:=up (ix h.aa m mZ).ac g (zeE (gOf h m g) p),am:=up (ix h.aa m mZ).am g (zca (ix (ix h.aa m mZ).am g kZ) p)}:=(by show up (up h.aa m _) m _=_;rw[z8J];have D:ix (zdF h m<|zeb (zD h m) g<|zeE (gOf h m g) p).aa m mZ=zwZ (ix h.aa m mZ) (zeb (zD h m) g<|zeE (gOf h m g) p):=zbp a _ _;rw[D];unfold zwZ zeb;rw[zgq a]);have kp:KeepP (ix h.aa m mZ) {ix h.aa m mZ with ac:=up (ix h.aa m mZ).ac g (zeE (gOf h m g) p),am:=up (ix h.aa m mZ).am g (zca (ix (ix h.aa m mZ).am g kZ) p)}:=⟨rfl,rfl⟩;have K:MOk {ix h.aa m mZ with ac:=up (ix h.aa m mZ).ac g (zeE (gOf h m g) p),am:=up (ix h.aa m mZ).am g (zca (ix (ix h.aa m mZ).am g kZ) p)}:=zmI X kp (zbZ _ _ _) (zbZ _ _ _) rfl X.outs X.pend X.tr X.own λz L=>(by rcases qZ L with h|h;{exact X.gs z h};{rw [h];exact zvm.2 (z7f G p)});have E:HOk (zET (zdF h m<|zeb (zD h m) g<|zeE (gOf h m g) p) m g p):=S.ok.up a K s S.ok.m12 S.ok.pgs (zAT S.ok.b1 _) (zAT S.ok.b2 _) λq _=>.inl (qW _);have u:∀b:List ar,(∀e∈b,zdw h e=true)->∀e∈zc2 b (zeD m g) p,zdw (zET (zdF h m<|zeb (zD h m) g<|zeE (gOf h m g) p) m g p) e=true:=(by intro b F e H;obtain⟨x,y⟩:=zBb.1 H;obtain⟨l,n,r⟩:=zgQ.1 (F e x);rw[zgQ,s,zex];refine⟨l,?_⟩;by_cases d:m=zef e.Tag;{rw [<- d]at l n r ⊢;rw[zbp a];show j0 (zfj e.Tag) (ln<|up _ _ _)=true/\below' _ (zbI (zbK (ix (up (ix h.aa m mZ).ac g _) (zfj e.Tag) gZ).av e.af) (ix h.aa m mZ).ae)=true;rw[zex];refine⟨n,?_⟩;by_cases f:g=zfj e.Tag;{rw [<- f]at n r ⊢;rw[zbp hg];have A:e.af≠p:=λJ=>y ⟨zbfj d.symm f.symm (zK.1 a).1,J⟩;show below' _ (zbI (zbK (zfl (gOf h m g).av p _) e.af) _)=true;rw[z1V A];exact r};{rw [zbG (zK.1 hg).1 (zK.1 n).1 f];exact r}};{rw [zbG (zK.1 a).1 (zK.1 l).1 d];exact⟨n,r⟩});refine⟨⟨E,⟨λi v=>?_,u _ S.rt.e1,u _ S.rt.e2⟩⟩,λi=>?_,by rw[s,zbZ]⟩;{rw [s]at v ⊢;rw[zex]at v;by_cases d:m=i;{subst d;rw[zbp a];intro j I;show KOk (ix (up (ix h.aa m mZ).am g _) j kZ) (ix (up (ix h.aa m mZ).ac g _) j gZ).av (ix h.aa m mZ).ae;have k:j0 j (ln (ix h.aa m mZ).ac)=true:=(by have:j0 j (ln<|up (ix h.aa m mZ).ac g<|zeE (gOf h m g) p)=true:=I;rwa [zex] at this);by_cases e:g=j;{subst e;rw[zbp B,zbp hg];exact z7n (S.rt.t m a g hg) p _};{rw [zbG (zK.1 hg).1 (zK.1 k).1 e,zbG (zK.1 hg).1 (zK.1 k).1 e];exact S.rt.t m a j k}};{rw [zbG (zK.1 a).1 (zK.1 v).1 d];exact S.rt.t i v}};{refine(zwE (h:=h) a s rfl kp i).trans ?_;by_cases e:i=m;{subst e;rw[zbA.2 rfl,cond_true,cond_true,C,zgq a];rfl};{rw [zb4.2 e];rfl}}
def zUr (g:Int):zdj ⟨[],[],[],0⟩ g=⟨[],[],[],0⟩/\zen ⟨[],[],[],0⟩ g=false:=by have:zen ⟨[],[],[],0⟩ g=false:=(by unfold zen;rw[z2G];rfl);refine⟨?_,this⟩;unfold zdj;rw[this];rfl
def z9T {h:ad}(S:Safe h)(a:GAct):SimT h (zv0 h a) a.M (λb=>zMy b a)/\zFg h a=zMz (zD h a.M) a:=by
 have f:=zvq;unfold zv0 zFg zMy zMz;cases ieq a.Kind 1 with
 |true=>obtain⟨k,e⟩:=step_ok S a.M a.G;exact⟨k,by rw[cond_true,cond_true,e]⟩
 |false=>
  simp only[cond_false];cases ieq a.Kind 2 with
  |true=>
   exact⟨zr4 S a.M (F:=λb=>chg b a.G (zyS a.X ⟨a.Y,a.Z⟩) (zF1 (gAt b a.G) a.X ⟨a.Y,a.Z⟩)) (λb c=>ztk c λ_ d G=>zbdF G d)<|zrN _ _ _,
    congrArg (λt=>aE.mk t 0) (zmT S a.M (t:=λb=>zcA b a.G (zyS a.X ⟨a.Y,a.Z⟩))<|zlc _ _)⟩
  |false=>
   simp only[cond_false];cases ieq a.Kind 3 with
   |true=>obtain⟨k,e⟩:=z9O S a.M a.G a.X;exact⟨k,congrArg (λt=>aE.mk t 0) e⟩
   |false=>
    simp only[cond_false];cases ieq a.Kind 4 with
    |true=>
     exact⟨zr4 S a.M (F:=λb=>chg b a.G (zym (gAt b a.G) a.X) (zAO (gAt b a.G) a.X)) (λb c=>ztk c λ_ d G=>zbdC G d)<|zrN _ _ _,
      congrArg (λt=>aE.mk t 0) (zmT S a.M (t:=λb=>zcA b a.G (zym (gAt b a.G) a.X))<|zlc _ _)⟩
    |false=>
     simp only[cond_false];cases ieq a.Kind 5 with
     |true=>
      exact⟨zr4 S a.M (F:=λb=>chg b a.G (zFH<|gAt b a.G) (zBM<|gAt b a.G)) (λb c=>ztk c λ_ _ G=>zbdE G)<|zrN _ _ _,
       congrArg (λt=>aE.mk t 0) (zmT S a.M (t:=λb=>zcA b a.G (zFH<|gAt b a.G))<|zlc _ _)⟩
     |false=>
      simp only[cond_false];cases ieq a.Kind 6 with
      |true=>
       exact⟨zr4 S a.M (F:=λb=>chg b a.G (zi3 (gAt b a.G).an a.X) (zp8 (gAt b a.G) a.X)) (λb c=>ztk c λ_ _ G=>z2y G _)<|zrN _ _ _,
        congrArg (λt=>aE.mk t 0) (zmT S a.M (t:=λb=>zcA b a.G (zi3 (gAt b a.G).an a.X))<|zlc _ _)⟩
      |false=>
       simp only[cond_false];cases ieq a.Kind 7 with
       |true=>
        exact⟨zr4 S a.M (F:=λb=>chg b a.G (zno ⟨a.X,a.Y,ieq a.Z 1⟩) (zP6 (gAt b a.G) ⟨a.X,a.Y,ieq a.Z 1⟩)) (λb c=>ztk c λ_ d G=>zbdD G d)<|zrN _ _ _,
         congrArg (λt=>aE.mk t 0) (zmT S a.M (t:=λb=>zcA b a.G (zno ⟨a.X,a.Y,ieq a.Z 1⟩))<|zlc _ _)⟩
       |false=>
        simp only[cond_false];cases ieq a.Kind 8 with
        |true=>obtain⟨k,e⟩:=zbao S a.M a.X a.Y a.Z;exact⟨k,congrArg (λt=>aE.mk t 0) e⟩
        |false=>
         simp only[cond_false];cases ieq a.Kind 9 with
         |true=>
          exact⟨zr4 S a.M (F:=λb=>zmj b a.X) (λb c=>z3C c _) (by unfold zmj zgK;rw[f];rfl),
           congrArg (λt=>aE.mk t 0) (zmT S a.M (t:=λb=>zgK b a.X) (by unfold zgK;rw[f];rfl))⟩
         |false=>
          simp only[cond_false];cases ieq a.Kind 10 with
          |true=>refine⟨zr4 S a.M (F:=zo2) (λb c=>z6d c) (by unfold zo2;rw[f];rfl),?_⟩;have e:=zmT S a.M (t:=zoD) (by unfold zoD;rw[f];rfl);show aE.mk (zhS h a.M<|zoD<|zD h a.M) (cond (zdf h a.M) (zvD<|zD h a.M)<|-1)=⟨zoD<|zD h a.M,zvD<|zD h a.M⟩;rw[e];congr 1;unfold zdf;rw[zkA.2 S.ok,cond_true];cases j:j0 a.M (ln h.aa) with|true=>rfl|false=>rw[seen_none j];unfold zvD;rw[f];rfl
          |false=>
           simp only[cond_false];cases ieq a.Kind 11 with
           |true=>obtain⟨k,e⟩:=zbeP S a.M a.G a.X a.Y;exact⟨k,congrArg (λt=>aE.mk t 0) e⟩
           |false=>obtain⟨k,g,i⟩:=zbd1 S a.M a.G a.X;exact⟨k,by simp only[cond_false];rw[g,i]⟩
def zbaf {h:ad}(S:Safe h)(a:GAct):Safe (zop h a)/\(∀i,zD (zop h a) i=zD h i)/\(zop h a).aa.length=h.aa.length:=by
 unfold zop;have k:∀r,Op h r->Safe r/\(∀i,zD r i=zD h i)/\r.aa.length=h.aa.length:=λr k=>⟨k.safe S,λi=>k.like.seen i,k.like.len⟩;cases ieq a.Kind 13 with
 |true=>exact k _ (z4T S.ok _ _)
 |false=>
  simp only[cond_false];cases ieq a.Kind 14 with
  |true=>exact k _ (z7O S.ok _ _)
  |false=>
   simp only[cond_false];cases ieq a.Kind 15 with
   |true=>exact k _ (z7N S.ok _ _)
   |false=>
    simp only[cond_false];cases ieq a.Kind 16 with
    |true=>obtain⟨b,c⟩:=zVR S a.M a.X;refine⟨b,c,?_⟩;simp only[cond_true];unfold zlB;cases zcr h<;>cases j0 a.M (ln h.aa)<;>cases zk a.X 0 3<;>first|rfl|exact zbZ _ _ _
    |false=>exact k _ (zbdX S.ok)
def zmh (a:GAct):Bool:=bif zk a.Kind 1 17 then !zk a.Kind 13 17 else false
def z5W {h:ad}(S:Safe h)(a:GAct):Safe (zfF h a)/\(zfF h a).aa.length=h.aa.length/\
 (∀i,zD (zfF h a) i=bif (cond (zmh a) (ieq i a.M) false) then zMy (zD h i) a else zD h i)/\(zmh a=true->zli h a=zMz (zD h a.M) a):=by
 unfold zfF zli zmh;cases zk a.Kind 1 17 with
 |false=>exact⟨S,rfl,λ_=>rfl,λe=>by cases e⟩
 |true=>
  simp only[cond_true];cases zk a.Kind 13 17 with
  |true=>obtain⟨b,c,d⟩:=zbaf S a;exact⟨b,d,λi=>by simp only[cond_true,jM,cond_false];exact c i,λe=>by cases e⟩
  |false=>obtain⟨k,e⟩:=z9T S a;exact⟨k.safe,k.len,λi=>by simp only[cond_false,jO,cond_true];exact k.seen i,λ_=>e⟩
def zcp (h:ad):List ai:=(List.range h.aa.length).map λ(i:Nat)=>zD h (i:Int)
def zhh (h:ad):(zcp h).length=h.aa.length:=by simp[zcp]
def zlV (h:ad)(m:Int):j0 m (ln<|zcp h)=j0 m (ln h.aa):=by unfold ln;rw[zhh]
def zlb {h:ad}{m:Int}(c:j0 m (ln h.aa)=true)(d:ai):ix (zcp h) m d=zD h m:=by have a:=zK.1 c;unfold ln at a;have b:m.toNat<(zcp h).length:=(by rw[zhh];omega);have:=zlG b d;rw[show ((m.toNat:Nat):Int)=m by omega] at this;rw[this];simp[zcp,show max m 0=m by omega]
def z3y {h r:ad}(a:r.aa.length=h.aa.length)(e:∀i,zD r i=zD h i):zcp r=zcp h:=by unfold zcp;rw[a];exact List.map_congr_left λi _=>e _
def z0D {h:ad}(S:Safe h)(a:GAct):zcp (zfF h a)=zMA (zcp h) a/\(zmh a=true->zli h a=z3B (zcp h) a):=by obtain⟨_,k,l,t⟩:=z5W S a;have p:zmh a=true->zcp (zfF h a)=(cond (j0 a.M<|ln h.aa) (up (zcp h) a.M<|zMy (zD h a.M) a)<|zcp h):=(by intro b;rw[b]at l;cases f:j0 a.M (ln h.aa) with|false=>rw[cond_false];refine zR8 ⟨[],[],[],0⟩ (by rw[zhh,zhh,k]) λi c=>?_;rw[zlV]at c;rw[zlb c];have d:j0 i (ln h.aa)=true:=(by unfold ln at c ⊢;rwa [<- k]);rw[zlb d,l i];have:ieq i a.M=false:=zb4.2 λe=>(by rw[e,f]at d;cases d);rw[this];rfl|true=>rw[cond_true];refine zR8 ⟨[],[],[],0⟩ (by rw[zbZ,zhh,zhh,k]) λi c=>?_;rw[zlV]at c;rw[zlb c,l i];have d:j0 i (ln h.aa)=true:=(by unfold ln at c ⊢;rwa [<- k]);by_cases e:i=a.M;{rw [e,zbA.2 rfl,zbp (by rw[zlV];exact f)];rfl};{rw [zb4.2 e,zbG (zK.1 f).1 (zK.1 d).1<|Ne.symm e,zlb d];rfl});have s:zmh a=false->zcp (zfF h a)=zcp h:=λb=>z3y k λi=>(by rw[l i,b];rfl);have r:zmh a=true->zk a.Kind 1 17=true/\zk a.Kind 13 17=false:=(by intro b;unfold zmh at b;cases g:zk a.Kind 1 17<;>cases j:zk a.Kind 13 17<;>rw [g,j]at b<;>first|exact⟨rfl,rfl⟩|cases b);constructor;{unfold zMA;cases b:zmh a with|true=>obtain⟨g,j⟩:=r b;rw[g,j,cond_true,cond_false,zlV,p b];(cases f:j0 a.M (ln h.aa) with|true=>rw[cond_true,cond_true,zlb f]|false=>rfl)|false=>rw[s b];unfold zmh at b;(cases g:zk a.Kind 1 17 with|false=>rfl|true=>(cases j:zk a.Kind 13 17 with|true=>rfl|false=>rw[g,j]at b;cases b))};{intro b;rw[t b];obtain⟨g,j⟩:=r b;unfold z3B;rw[g,j,cond_true,cond_false,zlV];cases f:j0 a.M (ln h.aa) with|true=>rw[cond_true,zlb f]|false=>rw[cond_false,seen_none f];have n:=(zUr a.G).2;have q:=zvq;unfold zMz;simp only[n,zlc];unfold zzP zgK zoD zvD zA7 zWr zpZ;simp only[q,zvE q,cond_false];(cases m:ieq a.Kind 10 with|true=>have:a.Kind=10:=zbA.1 m;rw[this];rfl|false=>cases ieq a.Kind 1<;>cases ieq a.Kind 2<;>cases ieq a.Kind 3<;>cases ieq a.Kind 4<;>cases ieq a.Kind 5<;>cases ieq a.Kind 6<;>cases ieq a.Kind 7<;>cases ieq a.Kind 8<;>cases ieq a.Kind 9<;>cases ieq a.Kind 11<;>rfl)}
def zN4:List GAct->List aE->List aE
 |a::l,t::ts=>bif zmh a then t::zN4 l ts else zN4 l ts
 |_,_=>[]
structure av (u:ad×List aE) (v:List ai×List aE):Prop where
 safe:Safe u.1
 seen:zcp u.1=v.1
def zGb:List GAct->ad->List aE
 |[],_=>[]
 |a::l,h=>zli h a::zGb l (zfF h a)
def z8I:List GAct->List ai->List aE
 |[],_=>[]
 |a::l,b=>z3B b a::z8I l (zMA b a)
def zxa:List GAct->ad->ad
 |[],h=>h
 |a::l,h=>zxa l (zfF h a)
def z9K:List GAct->List ai->List ai
 |[],b=>b
 |a::l,b=>z9K l (zMA b a)
def z2W:∀(l:List GAct) (u:ad×List aE),zFK l u=(zxa l u.1,u.2++zGb l u.1)
 |[],u=>by simp[zFK,zxa,zGb]
 |a::l,u=>by rw[zFK,z2W l];simp[zxa,zGb,ap]
def z6T:∀(l:List GAct) {h:ad},Safe h->Safe (zxa l h)/\zcp (zxa l h)=z9K l (zcp h)/\zN4 l (zGb l h)=zN4 l (z8I l<|zcp h)/\(zxa l h).aa.length=h.aa.length
 |[],h,S=>⟨S,rfl,rfl,rfl⟩
 |a::l,h,S=>by have d:=z5W S a;have b:=z0D S a;obtain⟨e,f,c,g⟩:=z6T l d.1;refine⟨e,by show zcp (zxa l<|zfF h a)=z9K l (zMA (zcp h) a);rw[f,b.1],?_,g.trans d.2.1⟩;show (cond (zmh a) _ _)=(cond (zmh a) _ _);cases i:zmh a with|false=>rw[cond_false,cond_false,c,b.1]|true=>rw[cond_true,cond_true,c,b.1,b.2 i]
def cz8 (q:Int)(b:0<=q):zwH.countP (λs=>ieq s.af q)=0:=by rw[vH];intro s a;have:=(uW.1 a).2;rw[this];show ¬ ieq (-1) q=true;rw[zbA];omega
def z0U {p:List Ins}(h:zdN p=true):GOk (zfZ p):=⟨h,rfl,rfl,rfl,rfl,rfl,rfl,rfl,rfl⟩
def z7I {a:List (List Ins)}(i:1<=a.length)(h:∀p∈a,zdN p=true):MOk (zic a):=by have d:∀s∈zwH,s=C0:=λs c=>(uW.1 c).2;refine⟨?_,?_,?_,rfl,λs c=>.inl (d s c),rfl,rfl,jN _,rfl,rfl,rfl,λg hg=>?_,λp b=>?_⟩;{show 1<=((a.take 2).map zfZ).length;simp;omega};{show ((a.take 2).map zfZ).length<=2;simp;omega};{show ((a.take 2).map λ_=>zl2).length=((a.take 2).map zfZ).length;simp};{obtain⟨p,b,rfl⟩:=jH.1 hg;exact zvm.2 (z0U<|h p<|jX b)};{have f:=zK.1 b;have e:p=0\/p=1\/p=2\/p=3\/p=4\/p=5\/p=6\/p=7:=(by omega);rcases e with rfl|rfl|rfl|rfl|rfl|rfl|rfl|rfl<;>rfl}
def zbcX (a:List (List<|List Ins)):Prop:=1<=a.length/\∀p∈a,1<=p.length/\∀x∈p,zdN x=true
def z4s {a:List (List<|List Ins)}(h:zbcX a):Safe (zgJ a):=by have b:∀x∈(zgJ a).aa,∃p∈a,x=zic p:=λx f=>(by obtain⟨p,j,rfl⟩:=jH.1 f;exact⟨p,jX j,rfl⟩);have u:∀x∈(zgJ a).aa,x.ae=zwH:=λx f=>(by obtain⟨p,_,rfl⟩:=b x f;rfl);have H:HOk (zgJ a):=(by refine⟨rfl,λc v=>?_,?_,?_,rfl,rfl,λx f=>?_,λq B=>?_⟩;{have:c=[0,0,0,0]:=(uW.1 v).2;rw[this];rfl};{show 1<=((a.take 3).map zic).length;have:=h.1;simp;omega};{show ((a.take 3).map zic).length<=3;simp;omega};{obtain⟨p,j,rfl⟩:=b x f;exact z7I (h.2 p j).1 (h.2 p j).2};{have:zge (zgJ a).aa q=0:=(by unfold zge;have:(zgJ a).aa.map (λx=>cPg x q)=(zgJ a).aa.map (λ_=>0):=List.map_congr_left λx f=>(by unfold cPg;rw[u x f];exact cz8 q B);rw[this];generalize (zgJ a).aa=l;induction l with|nil=>rfl|cons x l D=>rw[jA,uA,D]);omega});refine⟨H,λm A g hg=>?_,λe r=>(by cases r),λe r=>(by cases r)⟩;obtain⟨p,j,e⟩:=b _ (zlk A mZ);rw[e]at hg ⊢;have d:j0 g (ln<|(p.take 2).map zfZ)=true:=hg;have C:ix (zic p).am g kZ=zl2:=(by have:j0 g (ln<|(p.take 2).map λ_=>zl2)=true:=(by unfold ln at d ⊢;simpa using d);obtain⟨k,y,_,n⟩:=zBw this kZ;show ix ((p.take 2).map λ_=>zl2) g kZ=_;rw[n];simp);have z:(ix (zic p).ac g gZ).av=zna:=(by obtain⟨k,y,_,n⟩:=zBw d gZ;show (ix ((p.take 2).map zfZ) g gZ).av=_;rw[n];simp[zfZ]);rw[C,z];show KOk zl2 zna zwH;refine⟨rfl,rfl,λi w=>?_⟩;have s:=zK.1 w;have:ln zna=4:=rfl;rw[this]at s;have t:i=0\/i=1\/i=2\/i=3:=(by omega);rcases t with rfl|rfl|rfl|rfl<;>rfl
def z3h:∀(l:List GAct) (u:ad×List aE),SmH u.1->SmH (zFK l u).1
 |[],u,h=>h
 |a::l,u,h=>z3h l (zfF u.1 a,ap u.2 [zli u.1 a]) (z3f h)
def zYI {h:ad}(L:zGg h):Safe h/\SmH h:=by obtain⟨c,l,a,b,rfl⟩:=L;refine⟨?_,z3h _ _<|z3g a⟩;unfold zBn;rw[z2W];exact(z6T _<|z4s b).1
def z6m:zZ:=z6k
def ztn:zS z6m:=z6l
structure MonS (x:Mon):Prop where
 sm:zgs x
 g1:1<=x.ac.length
 g2:x.ac.length<=2
 t2:x.am.length<=2
 o8:x.ae.length<=8
 pg:∀s∈x.ae,I64 s.af
 tk:∀k∈x.am,k.ay.length<=k.aA.length
structure AnyH (h:ad):Prop where
 mem:SmM h.ag
 n1:1<=h.aa.length
 n3:h.aa.length<=3
 mons:∀x∈h.aa,MonS x
 b1:h.ao.length<=1048576
 b2:h.ak.length<=1048576
def AnyH.sm {h:ad}(k:AnyH h):SmH h:=⟨k.mem,⟨qT k.n3 (by decide),λx a=>(k.mons x a).sm⟩,k.b1,k.b2⟩
def zbax {h:ad}(S:Safe h)(sm:SmH h):AnyH h :=
 ⟨sm.1,S.ok.n1,S.ok.n3,λx a=>by
  have k:=S.ok.mons x a;refine⟨sm.2.1.2 x a,k.g1,k.g2,by rw[k.gt];exact k.g2,by rw[k.o8];exact qW 8,λs b=>?_,λy c=>?_⟩
  .rcases k.sl s b with rfl|⟨h1,h2,_⟩
   .exact⟨by decide,by decide⟩
   .exact⟨by omega,by omega⟩
  .obtain⟨m,hm,rfl⟩:=ztC a mZ;obtain⟨g,hg,rfl⟩:=ztC c kZ;have:=S.rt.t m hm g (by have e:(ix h.aa m mZ).am.length=(ix h.aa m mZ).ac.length:=k.gt;unfold ln at hg ⊢;rw[<- e];exact hg)
   rw[this.l1,this.l2];exact qW _,sm.2.2.1,sm.2.2.2⟩
def zzg {h:ad}(k:AnyH h)(i:Int){x:Mon}(b:MonS x):AnyH {h with aa:=up h.aa i x} :=
 ⟨k.mem,by rw[zjF];exact k.n1,by rw[zjF];exact k.n3,λy a=>by
  rcases qZ a with a|rfl
  .exact k.mons y a
  .exact b,k.b1,k.b2⟩
def zPn {g:ah}(h:GuS g):SmG g:=⟨qT h.1 (by decide),qT h.2.1 (by decide),qT h.2.2.1 (by decide),qT h.2.2.2 (by decide)⟩
def zZL {l:List ah}(h:zmx l)(i:Int){g:ah}(hg:SmG g):zmx (up l i g):=
 ⟨by rw[zjF];exact h.1,λy a=>by
  rcases qZ a with a|rfl
  .exact h.2 y a
  .exact hg⟩
def zbef {l:List LI}(h:SmM l)(i:Int){g:LI}(hg:g.length<=1048576):SmM (up l i g):=
 ⟨by rw[zjF];exact h.1,λy a=>by
  rcases qZ a with a|rfl
  .exact h.2 y a
  .exact hg⟩
def zAK (N:Nat)(c:Cur)  : OA :=
 let j:=ziD c;let r:=({ (zkh c) with b:=c.b}:Cur);let f:=j.aa;let k:=zo r<|ln f;let m:=inb k<|ln f;let g:=ix f k zi;let q:=({ (zf r<|ln f) with b:=c.b}:Cur);let e:=zf q 24;let l:=zo q 24;let a:=({e with b:=c.b}:Cur);let n:=zbd a [-1,1000000000,1000000001];let p:=({ (zf a 8) with b:=c.b}:Cur); (oN (zgn c)<|oN (zC r<|ln f)<|oN (zC q 24)<|cond (ieq l 0) (oN (zgG a 8 12)<|oN m<|p0 (up f k ({g with ae:=(zfY a 8 12)}:Mon)) λd=>some [.agg [.s .u8 c.b,.i .i64 (zhY a 8 12).i,.i .i64 (zhY a 8 12).h],aH ({j with aa:=d}:ad)])<|cond (ieq l 1) (oN m<|oN (zC a 8)<|oN (zm2 p)<|oN (inb (zo a 8)<|ln g.Out)<|p0 (up f k ({g with Out:=(up g.Out (zo a 8)<|zva p)}:Mon)) λd=>some [.agg [.s .u8 c.b,.i .i64 (zm3 p).i,.i .i64 (zm3 p).h],aH ({j with aa:=d}:ad)])<|cond (ieq l 2) (oN m<|oN (znW a)<|oN (inb 0<|ln g.ac)<|p0 (up f k ({g with ac:=(up g.ac 0<|zsf a)}:Mon)) λd=>some [.agg [.s .u8 c.b,.i .i64 (zly a).i,.i .i64 (zly a).h],aH ({j with aa:=d}:ad)])<|cond (ieq l 3) (oN m<|p0 (up f k ({g with am:=[]}:Mon)) λd=>some [.agg [.s .u8 c.b,.i .i64 e.i,.i .i64 e.h],aH ({j with aa:=d}:ad)])<|cond (ieq l 4) (oN (zlO a)<|some [.agg [.s .u8 c.b,.i .i64 (zlP a).i,.i .i64 (zlP a).h],aH ({j with ao:=(zs5 a)}:ad)])<|cond (ieq l 5) (oN (zm4 a)<|oN m<|p0 (up f k ({g with aq:=(zvc a)}:Mon)) λd=>some [.agg [.s .u8 c.b,.i .i64 (zm5 a).i,.i .i64 (zm5 a).h],aH ({j with aa:=d}:ad)])<|cond (ieq l 6) (oN (zbx a [-1,1000000000,1000000001])<|oN m<|p0 (up f k ({g with Own:=(zbq a [-1,1000000000,1000000001])}:Mon)) λd=>some [.agg [.s .u8 c.b,.i .i64 n.i,.i .i64 n.h],aH ({j with aa:=d}:ad)])<|cond (ieq l 7) (oN (znS a)<|some [.agg [.s .u8 c.b,.i .i64 (zhv a).i,.i .i64 (zhv a).h],aH ({j with ag:=(zm1 a)}:ad)])<|some [.agg [.s .u8 c.b,.i .i64 e.i,.i .i64 e.h],aH j])
def zte (c:Cur)(s:Cur)(a:ad):Prop:=(∃N,zAK N c=some (AV.agg (zb5 s)::[aH a]))/\(s.b=c.b/\0<=s.i)/\(AnyH a)
def zjV (c:Cur)  : Bool:=wC (zte c)
def zve (c:Cur)  : Cur:=wS (zte c)
def zsg (c:Cur)  : ad:=wV (zte c)
def zBX {c:Cur}(h:zjV c=true):zte c (zve c) (zsg c):=wG h
def z5w (c:Cur)  : 0<=(zve c).i:=wP λh=>h.2.1.2
def z5v (c:Cur)(h:∃N,Ends (wE (λa=>aH a) c.b λa=>AnyH a)<|zAK N c):zjV c=true:=wI (λ_ _ h=>h) h
def zCY:zeg:=rP0 λc=>(zjV c,zve c,[aH<|zsg c])
def zRk:zbX Tryz.prog 105 [false,true,true] zCY:=hP0 ztn zU zY9 zl (zq []) (λ_ h=>(zBX h).1)
def zM3 {c:Cur}(h:zbb c):zjV c=true:=by
 refine z5v c ⟨0,?_⟩;unfold zAK oN;conv=>zeta
 obtain⟨S,sm⟩:=zYI (zyR<|zN2 h).2.2;have A:=zbax S sm;have q:∀{s:Cur},0<=s.i->zbb {s with b:=c.b}:=λy=>zbJ h y;have w:zbb {zkh c with b:=c.b}:=q (z1L _);have l:0<ln (ziD c).aa:=by have:=A.n1;unfold ln;omega
 have a:=zw0 w l (kF _);have u:=zbN a zi;generalize B:ziD c=H at *;generalize zo {zkh c with b:=c.b} (ln H.aa)=m at *;have M:=A.mons _ u;have x:=S.ok.mons _ u;generalize C:ix H.aa m zi=X at *;obtain⟨p,e,f,j,k,t⟩:=M.sm;have d:∀{n},zbb {zf {zf {zkh c with b:=c.b} n with b:=c.b} 24 with b:=c.b}:=λ{n}=>q (zG _ _);refine zB (zN2 h) (zB (zbw w _) (zB (zbw (q<|zG _ _) 24)
  (zby (λ_=>zB (zpS d (by omega) (by omega) _) (zB a<|zkx<|zbC aH (v:={H with aa:=up H.aa m {X with ae:=zfY _ _ _}}) (zrd _ _ _)<|zzg A m ?_))
  (λ_=>zby (λ_=>zB a (zB (zbw d 8)<|zB (z2o<|q<|zG _ _)<|zB (zw0 d (by omega) ?_)<|zkx<|zbC aH (v:={H with aa:=up H.aa m {X with Out:=up X.Out _ (zva _)}}) (zZt _)<|zzg A m ?_))
  (λ_=>zby (λ_=>zB a (zB (zuN d)<|zB ?_<|zkx<|zbC aH (v:={H with aa:=up H.aa m {X with ac:=up X.ac 0 (zsf _)}}) (zO9 _)<|zzg A m ?_))
  (λ_=>zby (λ_=>zB a (zkx<|zbC aH (v:={H with aa:=up H.aa m {X with am:=[]}}) (zG _ _)<|zzg A m ?_))
  (λ_=>zby (λ_=>zB (zWT d) (zbC aH (v:={H with ao:=zs5 _}) (zVN _) ⟨A.mem,A.n1,A.n3,A.mons,qT (zDr<|zWT d).2.2 (by decide),A.b2⟩))
  (λ_=>zby (λ_=>zB (zbej d) (zB a<|zkx<|zbC aH (v:={H with aa:=up H.aa m {X with aq:=zvc _}}) (zZy _)<|zzg A m ?_))
  (λ_=>zby (λ_=>zB (zfa d (by simp)) (zB a<|zkx<|zbC aH (v:={H with aa:=up H.aa m {X with Own:=zbq _ _}}) (zb1 _ _)<|zzg A m ?_))
  (λ_=>zby (λ_=>zB (zBy d) (zbC aH (v:={H with ag:=zm1 _}) (zO6 _) ⟨?_,A.n1,A.n3,A.mons,A.b1,A.b2⟩))
  (λ_=>zbC aH (v:=H) (zG _ _) A)))))))))))
 {have g:=(zrb<|zpS (d (n:=ln H.aa)) (n:=8) (by omega) (by omega) 12).2.2 (by omega) (by omega);refine⟨⟨?_,e,f,j,k,t⟩,M.g1,M.g2,M.t2,?_,g.2 (by omega) (by omega),M.tk⟩;{have:=g.1;unfold ln at this;exact qT (m:=8) (by exact Int.ofNat_le.1 this) (by decide)};{have:=g.1;unfold ln at this;exact Int.ofNat_le.1 this}};{unfold ln;rw[x.u8];decide};{exact⟨⟨p,zbef e _<|qT (zFY<|z2o<|q<|zG _ _).2.2 (by decide),f,j,k,t⟩,M.g1,M.g2,M.t2,M.o8,M.pg,M.tk⟩};{exact qH (by have:=M.g1;unfold ln;omega)};{exact⟨⟨p,e,f,zZL j 0<|zPn (zBV<|zuN d).2.2,k,t⟩,by rw[zjF];exact M.g1,by rw[zjF];exact M.g2,M.t2,M.o8,M.pg,M.tk⟩};{exact⟨⟨p,e,f,j,k,⟨by simp,by simp⟩⟩,M.g1,M.g2,by simp,M.o8,M.pg,by simp⟩};{exact⟨⟨p,e,f,j,k,t⟩,M.g1,M.g2,M.t2,M.o8,M.pg,M.tk⟩};{exact⟨⟨p,e,f,j,k,t⟩,M.g1,M.g2,M.t2,M.o8,M.pg,M.tk⟩};{have g:=(zBQ<|zBy<|d (n:=ln H.aa)).2.2;exact⟨qT g.1 (by decide),λr z=>qT (g.2 r z) (by decide)⟩}
def zbcI:zcW:=[(105,[false,true,true],zCY)]++zbcH
def zbal:zb7 zbcI:=zcq zY9 (by
 intro x a;simp only[qG,qM,or_false]at a;rcases a with rfl
 .exact zRk)
def zWH (l:LI):Prop:=l.length=12/\∀i:Int,0<=i->i<12->0<=ix l i 0/\ix l i 0<10000
def zEr (N:Nat)(c:Cur)  : OA :=
 let a:=zbd c [0,0,0,1,1,2,-1,9223372036854775807]; (oN (zbx c [0,0,0,1,1,2,-1,9223372036854775807])<|some [.agg [.s .u8 c.b,.i .i64 a.i,.i .i64 a.h],aI<|zbq c [0,0,0,1,1,2,-1,9223372036854775807]])
def zvf (c:Cur)(s:Cur)(a:Int):Prop:=(∃N,zEr N c=some (AV.agg (zb5 s)::[aI a]))/\(s.b=c.b/\0<=s.i)/\(True)
def ztK (c:Cur)  : Bool:=wC (zvf c)
def ztL (c:Cur)  : Cur:=wS (zvf c)
def zGF (c:Cur)  : Int:=wV (zvf c)
def z8k {c:Cur}(h:ztK c=true):zvf c (ztL c) (zGF c):=wG h
def z8m (c:Cur)  : 0<=(ztL c).i:=wP λh=>h.2.1.2
def z8l (c:Cur)(h:∃N,Ends (wE (λa=>aI a) c.b λa=>True)<|zEr N c):ztK c=true:=wI (λ_ _ h=>h) h
def zwg:zeg:=rP0 λc=>(ztK c,ztL c,[aI<|zGF c])
def zCK:zbX Tryz.prog 199 [false,true,true] zwg:=hP0 ztn zU zwb zl (zq []) (λ_ h=>(z8k h).1)
def at_t {c:Cur}(h:zbb c):ztK c=true:=by
 refine z8l c ⟨0,?_⟩;unfold zEr oN;conv=>zeta
 exact zB (zfa h (by simp)) (zbC aI (zb1 _ _) trivial)
def zbcw:zcW:=[(199,[false,true,true],zwg)]++z4Y
def zY5:zb7 zbcw:=zcq zwb (by
 intro x a;simp only[qG,qM,or_false]at a;rcases a with rfl
 .exact zCK)
def zAN (N:Nat)(c:Cur)  : OA :=
 let a:=zcY c;let e:=({ (zc8 c) with b:=c.b}:Cur);let f:=zo e 10;let d:=({ (zf e 10) with b:=c.b}:Cur);let g:=zbd d [-1,4,8,16,100,9223372036854775807]; (oN (zjW c)<|oN (zC e 10)<|cond (ieq f 0) (oN (zC d 20)<|some [.agg [.s .u8 c.b,.i .i64 (zf d 20).i,.i .i64 (zf d 20).h],.agg [.i .i64<|wsub .i64 (zo d 20) 1,.i .i64 a.M,.i .i64 a.G,.i .i64 a.X,.i .i64 a.Y,.i .i64 a.Z]])<|cond (ieq f 1) (oN (ztK d)<|some [.agg [.s .u8 c.b,.i .i64 (ztL d).i,.i .i64 (ztL d).h],.agg [.i .i64 a.Kind,.i .i64<|zGF d,.i .i64 a.G,.i .i64 a.X,.i .i64 a.Y,.i .i64 a.Z]])<|cond (ieq f 2) (oN (zbx d [-1,4,8,16,100,9223372036854775807])<|some [.agg [.s .u8 c.b,.i .i64 g.i,.i .i64 g.h],.agg [.i .i64 a.Kind,.i .i64 a.M,.i .i64 a.G,.i .i64<|zbq d [-1,4,8,16,100,9223372036854775807],.i .i64 a.Y,.i .i64 a.Z]])<|cond (ieq f 3) (oN (zbx d [-1,0,1,4])<|some [.agg [.s .u8 c.b,.i .i64 (zbd d [-1,0,1,4]).i,.i .i64 (zbd d [-1,0,1,4]).h],.agg [.i .i64 a.Kind,.i .i64 a.M,.i .i64 a.G,.i .i64 a.X,.i .i64 a.Y,.i .i64<|zbq d [-1,0,1,4]]])<|some [.agg [.s .u8 c.b,.i .i64 (zf e 10).i,.i .i64 (zf e 10).h],.agg [.i .i64 a.Kind,.i .i64 a.M,.i .i64 a.G,.i .i64 a.X,.i .i64 a.Y,.i .i64 a.Z]])
def ztg (c:Cur)(s:Cur)(a:GAct):Prop:=(∃N,zAN N c=some (AV.agg (zb5 s)::[aT .act a]))/\(s.b=c.b/\0<=s.i)/\(True)
def zn0 (c:Cur)  : Bool:=wC (ztg c)
def zPd (c:Cur)  : Cur:=wS (ztg c)
def zBY (c:Cur)  : GAct:=wV (ztg c)
def z5z {c:Cur}(h:zn0 c=true):ztg c (zPd c) (zBY c):=wG h
def z5A (c:Cur)(h:∃N,Ends (wE (λa=>aT .act a) c.b λa=>True)<|zAN N c):zn0 c=true:=wI (λ_ _ h=>h) h
def zt8:zeg:=rP0 λc=>(zn0 c,zPd c,[aT .act<|zBY c])
def zzB:zbX Tryz.prog 123 [false,true,true] zt8:=hP0 ztn zU zY5 zl (zq []) (λ_ h=>(z5z h).1)
def zbft {c:Cur}(h:zbb c):zn0 c=true:=by
 refine z5A c ⟨0,?_⟩;have d:zbb {zc8 c with b:=c.b}:=zbJ h (zPc _);have a:zbb {zf {zc8 c with b:=c.b} 10 with b:=c.b}:=zbJ h (zG _ _);unfold zAN oN;conv=>zeta
 exact zB (zba0 h) (zB (zbw d _) (zby (λ_=>zB (zbw a _) (zbC (aT .act) (v:=⟨wsub .i64 (zo {zf {zc8 c with b:=c.b} 10 with b:=c.b} 20) 1,(zcY c).M,(zcY c).G,(zcY c).X,(zcY c).Y,(zcY c).Z⟩) (zG {zf {zc8 c with b:=c.b} 10 with b:=c.b} 20) trivial))
  (λ_=>zby (λ_=>zB (at_t a) (zbC (aT .act) (v:=⟨(zcY c).Kind,zGF {zf {zc8 c with b:=c.b} 10 with b:=c.b},(zcY c).G,(zcY c).X,(zcY c).Y,(zcY c).Z⟩) (z8m {zf {zc8 c with b:=c.b} 10 with b:=c.b}) trivial))
  (λ_=>zby (λ_=>zB (zfa a (by simp)) (zbC (aT .act) (v:=⟨(zcY c).Kind,(zcY c).M,(zcY c).G,zbq {zf {zc8 c with b:=c.b} 10 with b:=c.b} [-1,4,8,16,100,9223372036854775807],(zcY c).Y,(zcY c).Z⟩) (zb1 {zf {zc8 c with b:=c.b} 10 with b:=c.b} [-1,4,8,16,100,9223372036854775807]) trivial))
  (λ_=>zby (λ_=>zB (zfa a (by simp)) (zbC (aT .act) (v:=⟨(zcY c).Kind,(zcY c).M,(zcY c).G,(zcY c).X,(zcY c).Y,zbq {zf {zc8 c with b:=c.b} 10 with b:=c.b} [-1,0,1,4]⟩) (zb1 {zf {zc8 c with b:=c.b} 10 with b:=c.b} [-1,0,1,4]) trivial))
  (λ_=>zbC (aT .act) (v:=zcY c) (zG {zc8 c with b:=c.b} 10) trivial))))))
def zbfM:zcW:=[(123,[false,true,true],zt8)]++zbcw
def zbaj:zb7 zbfM:=zcq zY5 (by
 intro x a;simp only[qG,qM,or_false]at a;rcases a with rfl
 .exact zzB)
def znl (N:Nat)(g:LI):OA:=
 (r0 (σ:=(Int×Int×LI×LI×Unit)) N (λl b=>let c:=b.2.2.1; (cond (ilt b.2.1<|ln c) (cond (ilt b.2.1 4000) (oN (inb b.2.1<|ln c)<|l (wand .i64 (zI .i64 (zI .i64 (zk3 .i64 b.1 131)<|wcv .i64<|ix c b.2.1 0) 7) 1073741823,zI .i64 b.2.1 1,c,b.2.2.2.1,()))<|r0 (σ:=(Int×Int×Int×LI×LI×Unit)) N (λf a=>let d:=(⟨a.2.2.2.2.1,a.2.1,a.2.2.1⟩:Cur);let j:=ap a.2.2.2.1 [zo d 10000]; (cond (ilt a.1 12) (oN (zC d 10000)<|oN (few<|ln j)<|f (zI .i64 a.1 1,(zf d 10000).i,(zf d 10000).h,j,a.2.2.2.2.1,()))<|some [aS .int a.2.2.2.1])) (0,0,b.1,[],c,()))<|r0 (σ:=(Int×Int×Int×LI×LI×Unit)) N (λf a=>let e:=(⟨a.2.2.2.2.1,a.2.1,a.2.2.1⟩:Cur);let k:=ap a.2.2.2.1 [zo e 10000]; (cond (ilt a.1 12) (oN (zC e 10000)<|oN (few<|ln k)<|f (zI .i64 a.1 1,(zf e 10000).i,(zf e 10000).h,k,a.2.2.2.2.1,()))<|some [aS .int a.2.2.2.1])) (0,0,b.1,[],c,()))) (zI .i64 94701<|ln g,0,g,[],()))
def zLC:=zq [(100,0,{n:=32,tm:=[(0,.sl 0 []),(3,ti),(4,ti)],lo:=[],ro:=[(0,.u8,false),(1,.int,true)],sk:=[(0,2,0,.sl 1 [])]}),(12,0,{n:=19,tm:=[(3,.lp 0 0),(4,.sl 0 []),(5,ti)],lo:=[(0,[.sl 1 [],ti,ti])],ro:=[(0,.int,true),(1,.u8,false)]})]
def zqW (b:LI)(a:LI):Prop:=(∃N,znl N b=some [aS .int a])/\(zWH a)
def ziO (a:LI):Bool:=uC (T:=LI) (λr=>zqW a r)
def zSl (a:LI):LI:=uV (λr=>zqW a r)
def zi6 (a:LI):LI:=(zSl a)
def zAn {a:LI}(h:ziO a=true):zqW a (zi6 a):=uG h
def zSk (c:LI)(h:∃N,Ends (λa=>∃b,a=[aS .int b]/\(zWH b))<|znl N c):ziO c=true:=by obtain⟨N,a,e,b,rfl,h⟩:=h;exact zbg ⟨b,⟨N,e⟩,h⟩
def zwl:Run:=rF1 (dS .u8) λb=>(ziO b,[aS .int<|zi6 b])
def zK1 (a:LI)(b:ziO a=true):∃N,znl N a=some [aS .int<|zi6 a]:=by exact(zAn b).1
def zE7:vU 12 zwl:=kF1 ztn zU zbaj zl zLC zK1
def zZe {a:LI}(h:a.length<=big):ziO a=true:=by
 refine zSk a (zb2 λN d=>?_);unfold znl oN;conv=>zeta
 have m:12<N:=d (by rw[ziJ];omega);refine zjB (λn s=>∃(t:Int) (i:Nat),s=(t,(i:Int),a,[],())/\i+n=a.length) ?_ N a.length _ ⟨_,0,rfl,by omega⟩ (d h);rintro n s rec ⟨t,i,rfl,F⟩ f;dsimp only;refine zby (λv=>zby (λE=>?_) λ_=>?_) (λ_=>?_);{have u:(i:Int)<ln a:=qD v;unfold ln at u;refine zB (qH ⟨by omega,by unfold ln;omega⟩) (f (n-1) _ (by omega) (by rw[zY (show i<a.length by omega) h];exact⟨_,i+1,rfl,by omega⟩))}
 all_goals
  refine zjB (λn s=>∃(k:Nat) (i x:Int) (l:LI),s=((k:Int),i,x,l,a,())/\k+n=12/\0<=i/\l.length=k/\∀y∈l,0<=y/\y<10000) ?_ N 12 _ ⟨0,0,t,[],rfl,rfl,kF 0,rfl,by simp⟩ m
  rintro D s A ⟨k,z,x,l,rfl,G,q,r,w⟩ c
  dsimp only
  have b:zbb ⟨a,z,x⟩:=⟨q,h⟩;have C:=zfB b (n:=10000) (by omega)
  refine zby (λp=>?_) (λp=>⟨_,rfl,l,rfl,?_⟩)
  .have h3':(k:Int)<12:=qD p;have e:∀y∈ap l [zo ⟨a,z,x⟩ 10000],0<=y/\y<10000:=by intro y g;rcases jC.1 g with g|g;{exact w y g};{rw [qF.1 g];exact C}
   exact zB (zbw b _) (zB (ziW (by rw[zgB];unfold ln;omega))<|c (D-1) _ (by omega) (by rw[zmd (show -9223372036854775808<=(k:Int)+1 by omega) (by omega)];exact⟨k+1,_,_,_,rfl,by omega,zG _ _,by simp[ap,r],e⟩))
  .have h3':¬ (k:Int)<12:=jQ p;exact⟨by omega,λj B v=>w _ (zbN (qH ⟨B,by unfold ln;omega⟩) 0)⟩
def zbcJ:zcW:=[(199,[false,true,true],zwg),(123,[false,true,true],zt8)]++zbcI
def zBK:zb7 zbcJ:=zcq zbal (by
 intro x a;simp only[qG,qM,or_false]at a;rcases a with rfl|rfl
 .exact zCK
 .exact zzB)
def zbbC:zZ:=[(31,zug)]++z6m
def zAY:zS zbbC:=zh zxk ztn
def zEE {a:LI}(h:a.length<=big){G:Ans->Prop}{N:Nat}(l:a.length<N){g:Int}{R:Int->OA}{d:Type}(S:Int->Int->d){F:(d->OA)->d->OA}(k:∀rec i t,F rec (S i t)=bif ilt i (ln a) then (cond (ilt i 4000) (cond (inb i<|ln a) (rec<|S (zI .i64 i 1)<|wand .i64 (zI .i64 (zI .i64 (zk3 .i64 t 131)<|wcv .i64<|ix a i 0) 7) 1073741823) none)<|R t) else R t)(e:∀t,zbb ⟨a,0,t⟩->Ends G (R t)):Ends G (r0 N F<|S 0 g):=by refine zjB (λn s=>∃(i:Nat) (t:Int),s=S (i:Int) t/\i+n=a.length) ?_ N a.length _ ⟨0,g,rfl,by omega⟩ l;rintro n s rec ⟨i,t,rfl,p⟩ b;rw[k];have f:zbb ⟨a,0,t⟩:=⟨kF 0,h⟩;refine zby (λj=>zby (λm=>?_) λ_=>e t f) (λ_=>e t f);have c:(i:Int)<ln a:=qD j;unfold ln at c;rw[zY (show i<a.length by omega) h];exact zB (qH ⟨by omega,by unfold ln;omega⟩) (b (n-1) _ (by omega) ⟨i+1,_,rfl,by omega⟩)
def q_of {b:LI}(h:b.length<=big){s:Cur}(a:0<=s.i):zbb {s with b:=b}:=⟨a,h⟩
def zbbD:zZ:=zbbC
def z9z:zS zbbD:=zAY
def zbbE:zZ:=zbbD
def z9A:zS zbbE:=z9z
def zbbF:zZ:=zbbE
def zAZ:zS zbbF:=z9A
def zkn (N:Nat)(c:LI):OA:=
 (r0 (σ:=(Int×Int×LI×lM×lN×lE×lE×Unit)) N (λd a=>let b:=(⟨a.2.2.1,0,a.1⟩:Cur); (cond (ilt a.2.1<|ln a.2.2.1) (cond (ilt a.2.1 4000) (oN (inb a.2.1<|ln a.2.2.1)<|d (wand .i64 (zI .i64 (zI .i64 (zk3 .i64 a.1 131)<|wcv .i64<|ix a.2.2.1 a.2.1 0) 7) 1073741823,zI .i64 a.2.1 1,a.2.2.1,a.2.2.2.1,a.2.2.2.2.1,a.2.2.2.2.2.1,a.2.2.2.2.2.2.1,()))<|oN (zjV b)<|some [aH<|zsg b])<|oN (zjV b)<|some [aH<|zsg b])) (zI .i64 94701<|ln c,0,c,[],[],[],[],()))
def zmY (b:LI)(a:ad):Prop:=(∃N,zkn N b=some [aH a])/\(AnyH a)
def zgO (a:LI):Bool:=uC (T:=ad) (λr=>zmY a r)
def zHK (a:LI):ad:=uV (λr=>zmY a r)
def zjN (a:LI):ad:=(zHK a)
def zuJ {a:LI}(h:zgO a=true):zmY a (zjN a):=uG h
def zHJ (c:LI)(h:∃N,Ends (λa=>∃b,a=[aH b]/\(AnyH b))<|zkn N c):zgO c=true:=by obtain⟨N,a,e,b,rfl,h⟩:=h;exact zbg ⟨b,⟨N,e⟩,h⟩
def zrG:Run:=rF1 (dS .u8) λb=>(zgO b,[aH<|zjN b])
def zDM (a:LI)(b:zgO a=true):∃N,zkn N a=some [aH<|zjN a]:=by exact(zuJ b).1
def zzt:vU 15 zrG:=kF1 zAZ zU zBK zl zsl zDM
def zw9 {a:LI}(h:a.length<=big):zgO a=true:=by
 refine zHJ a (zb2 λN b=>?_);unfold zkn oN;conv=>zeta
 refine zEE h (b h) ((λi t=>(t,(i:Int),a,[],[],[],[],())):Int->Int->_) (λrec i t=>by dsimp only) (λt c=>?_);exact zB (zM3 c) ⟨_,rfl,_,rfl,(zBX<|zM3 c).2.2⟩
def zmg (N:Nat)(e:LI):OA:=
 (r0 (σ:=(Int×Int×LI×lM×lN×lE×lE×Unit)) N (λi a=>let c:=a.2.2.1;let d:=(⟨c,0,a.1⟩:Cur);let f:=({ (zve d) with b:=c}:Cur);let h:=zbx f [0,1,3,5,-1];let g:=aI<|zbq f [0,1,3,5,-1]; (cond (ilt a.2.1<|ln c) (cond (ilt a.2.1 4000) (oN (inb a.2.1<|ln c)<|i (wand .i64 (zI .i64 (zI .i64 (zk3 .i64 a.1 131)<|wcv .i64<|ix c a.2.1 0) 7) 1073741823,zI .i64 a.2.1 1,c,a.2.2.2.1,a.2.2.2.2.1,a.2.2.2.2.2.1,a.2.2.2.2.2.2.1,()))<|oN (zjV d)<|oN h<|some [aH<|zsg d,g])<|oN (zjV d)<|oN h<|some [aH<|zsg d,g])) (zI .i64 94701<|ln e,0,e,[],[],[],[],()))
def zpi (b:LI)(a:ad)(c:Int):Prop:=(∃N,zmg N b=some [aH a,aI c])/\(AnyH a)
def zhX (a:LI):Bool:=uC (T:=ad×Int) (λr=>zpi a r.1 r.2)
def zxP (a:LI):ad×Int:=uV (λr=>zpi a r.1 r.2)
def zjO (a:LI):ad:=(zxP a).1
def zjP (a:LI):Int:=(zxP a).2
def zxO {a:LI}(h:zhX a=true):zpi a (zjO a) (zjP a):=uG h
def zO3 (d:LI)(h:∃N,Ends (λa=>∃b c,a=[aH b,aI c]/\(AnyH b))<|zmg N d):zhX d=true:=by obtain⟨N,a,e,b,c,rfl,h⟩:=h;exact zbg ⟨(b,c),⟨N,e⟩,h⟩
def zuH:Run:=rF1 (dS .u8) λb=>(zhX b,[aH<|zjO b,aI<|zjP b])
def zHo (a:LI)(b:zhX a=true):∃N,zmg N a=some [aH<|zjO a,aI<|zjP a]:=by exact(zxO b).1
def zDA:vU 18 zuH:=kF1 zAZ zU zBK zl zsl zHo
def zCG {a:LI}(h:a.length<=big):zhX a=true:=by
 refine zO3 a (zb2 λN b=>?_);unfold zmg oN;conv=>zeta
 refine zEE h (b h) ((λi t=>(t,(i:Int),a,[],[],[],[],())):Int->Int->_) (λrec i t=>by dsimp only) (λt c=>?_);exact zB (zM3 c) (zB (zfa (q_of h<|z5w _) (by simp)) ⟨_,rfl,_,_,rfl,(zBX<|zM3 c).2.2⟩)
instance:Nonempty ai:=⟨⟨[],[],[],0⟩⟩
structure BaS (b:ai):Prop where
 m:SmM b.ag
 g1:1<=b.ac.length
 g2:b.ac.length<=2
 gs:∀g∈b.ac,GuS g
 o:b.Outs.length<=4
def BaS.sm {b:ai}(k:BaS b):SmB b:=⟨k.m,⟨qT k.g2 (by decide),λg hg=>zPn (k.gs g hg)⟩,qT k.o (by decide)⟩
def zyg (N:Nat)(c:Cur)  : OA :=
 (oN (zin c 8)<|r0 (σ:=(Int×Int×Int×Int×Int×LI×lM×lG×LI×lM×lG×LI×Unit)) N (λt a=>let c:=a.2.2.2.2.2.2;let f:=a.2.2.2.2.2.1;let p:=c.2.2.2.2.1;let k:=(⟨f,a.2.1,a.2.2.1⟩:Cur);let j:=({ (zf k 2) with b:=f}:Cur); (oN (zC k 2)<|cond (ilt a.1<|zI .i64 1<|zo k 2) (oN (zhM j)<|oN (few<|ln<|ap p [zbU j])<|t (zI .i64 a.1 1,(zfg j).i,(zfg j).h,a.2.2.2.1,a.2.2.2.2.1,f,c.1,c.2.1,c.2.2.1,c.2.2.2.1,ap p [zbU j],c.2.2.2.2.2.1,()))<|r0 (σ:=(Int×Int×Int×Int×Int×LI×lM×lG×LI×lM×lG×LI×Unit)) N (λu d=>let a:=d.2.2.2.2;let c:=a.2.2.2.2;let r:=c.2.1;let q:=c.2.2.1;let m:=c.2.2.2.1;let g:=a.2.1;let n:=(⟨g,d.2.1,d.2.2.1⟩:Cur);let e:=({ (zf n 4) with b:=g}:Cur);let l:=({ (zV e 3) with b:=g}:Cur); (oN (zC n 4)<|cond (ilt d.1<|zo n 4) (oN (zC e 100)<|oN (few<|ln<|ap m [zo e 100])<|u (zI .i64 d.1 1,(zf e 100).i,(zf e 100).h,d.2.2.2.1,a.1,g,a.2.2.1,a.2.2.2.1,c.1,r,q,ap m [zo e 100],()))<|oN (zc6 e 3)<|cond (zdo e 3) (oN (zC l 256)<|some [.agg [.s .u8 g,.i .i64 (zf l 256).i,.i .i64 (zf l 256).h],aT .bare (⟨r,q,m,zo l 256⟩:ai)])<|some [.agg [.s .u8 g,.i .i64 (zV e 3).i,.i .i64 (zV e 3).h],aT .bare (⟨r,q,m,a.1⟩:ai)])) (0,(zf k 2).i,(zf k 2).h,a.2.2.2.1,a.2.2.2.2.1,f,c.1,c.2.1,c.2.2.1,c.2.2.2.1,p,c.2.2.2.2.2.1,()))) (0,(zjU c 8).i,(zjU c 8).h,0,0,c.b,[],[],[],zh9 c 8,[],[],()))
def zV9:=zq [(153,0,{n:=42,tm:=[(0,.lp 0 0),(2,.lp 1 0),(3,.lp 2 0),(4,ti)],lo:=[(0,[.sl 0 [],ti,ti]),(1,[.sl 1 [],.sl 2 [],.sl 3 [],ti]),(2,[.sl 4 [],.sl 5 [],.sl 6 [],ti])],ro:=[(0,.u8,false),(1,.sl .int,true),(2,.guest,true),(3,.int,true),(4,.sl .int,true),(5,.guest,true),(6,.int,true)]}),(153,2,{n:=42,tm:=[(0,.lp 0 0),(2,.lp 1 0),(3,.lp 2 0),(5,ti)],lo:=[(0,[.sl 0 [],ti,ti]),(1,[.sl 1 [],.sl 2 [],.sl 3 [],ti]),(2,[.sl 4 [],.sl 5 [],.sl 6 [],ti])],ro:=[(0,.u8,false),(1,.sl .int,true),(2,.guest,true),(3,.int,true),(4,.sl .int,true),(5,.guest,true),(6,.int,true)]})]
def zrt (c:Cur)(s:Cur)(a:ai):Prop:=(∃N,zyg N c=some (AV.agg (zb5 s)::[aT .bare a]))/\(s.b=c.b/\0<=s.i)/\(BaS a)
def zkg (c:Cur)  : Bool:=wC (zrt c)
def zl9 (c:Cur)  : Cur:=wS (zrt c)
def zek (c:Cur)  : ai:=wV (zrt c)
def zyQ {c:Cur}(h:zkg c=true):zrt c (zl9 c) (zek c):=wG h
def zJb (c:Cur)  : 0<=(zl9 c).i:=wP λh=>h.2.1.2
def z1J (c:Cur)(h:∃N,Ends (wE (λa=>aT .bare a) c.b λa=>BaS a)<|zyg N c):zkg c=true:=wI (λ_ _ h=>h) h
def zzY:zeg:=rP0 λc=>(zkg c,zl9 c,[aT .bare<|zek c])
def zNR:zbX Tryz.prog 153 [false,true,true] zzY:=hP0 zAY zU zBK zl zV9 (λ_ h=>(zyQ h).1)
def zAR {c:Cur}(h:zbb c):zkg c=true:=by
 refine z1J c ⟨1002,?_⟩;unfold zyg oN;conv=>zeta
 have D:=zbcl h (a0:=8) (by omega) (by omega);have y:=(zvb D).2.2 (by omega) (by omega);have sm:SmM (zh9 c 8):=⟨by have:=y.1;unfold ln at this;exact qT (m:=8) (by omega) (by decide),fun r J=>by rw[y.2 r J];decide⟩;refine zB D (zjB (fun n s=>∃(t i k:Int) (l:List ah),s=(t,i,k,0,0,c.b,[],[],[],zh9 c 8,l,[],())/\t+(n:Int)=10/\0<=t/\t<=2/\0<=i/\ln l=t/\∀g∈l,GuS g) ?_ 1002 10 _ ⟨0,_,_,[],rfl,rfl,kF 0,by omega,zO7 _ _,rfl,by simp⟩ (by omega));rintro n s rec ⟨t,i,k,l,rfl,N,O,P,I,z,A⟩ q;dsimp only;have e:zbb ⟨c.b,i,k⟩:=zbJ h I;have S:=zfB e (n:=2) (by omega);have E:zI .i64 1 (zo ⟨c.b,i,k⟩ 2)=1+zo ⟨c.b,i,k⟩ 2:=zmd (by omega) (by omega);refine zB (zbw e 2) (zby (fun w=>?_) (fun w=>?_));{have j:=qD w;rw[E]at j;have B:zbb {zf ⟨c.b,i,k⟩ 2 with b:=c.b}:=zbJ h (zG _ _);have Q:zI .i64 t 1=t+1:=zmd (by omega) (by omega);refine zB (zo5 B) (zB (ziW (by rw[zgB];omega)) (q (n-1) _ (by omega) ⟨zI .i64 t 1,_,_,_,rfl,by omega,by omega,by omega,zm6 _,by rw[zgB];omega,fun g hg=>?_⟩));rcases jC.1 hg with hg|hg;{exact A g hg};{rw [qF.1 hg];exact(zrr (zo5 B)).2.2.1}}
 .have hge:=jQ w;rw[E]at hge;refine zjB (fun n s=>∃(u i k:Int) (o:LI),s=(u,i,k,0,0,c.b,[],[],[],zh9 c 8,l,o,())/\u+(n:Int)=10/\0<=u/\u<=3/\0<=i/\ln o=u) ?_ 1002 10 _ ⟨0,_,_,[],rfl,rfl,kF 0,by omega,zG _ _,rfl⟩ (by omega);rintro n s H ⟨u,F,G,o,rfl,T,U,V,L,M⟩ f;dsimp only;have a:zbb ⟨c.b,F,G⟩:=zbJ h L;have K:=zfB a (n:=4) (by omega);have C:zbb {zf ⟨c.b,F,G⟩ 4 with b:=c.b}:=zbJ h (zG _ _);have d:∀p:Int,BaS ⟨zh9 c 8,l,o,p⟩:=fun p=>⟨sm,by unfold ln at z;dsimp only;omega,by unfold ln at z;dsimp only;omega,A,by unfold ln at M;dsimp only;omega⟩;refine zB (zbw a 4) (zby (fun x=>?_) (fun _=>?_));{have j:=qD x;have R:zI .i64 u 1=u+1:=zmd (by omega) (by omega);exact zB (zbw C 100) (zB (ziW (by rw[zgB];omega)) (f (n-1) _ (by omega) ⟨zI .i64 u 1,_,_,_,rfl,by omega,by omega,by omega,zG _ _,by rw[zgB];omega⟩))}
  .refine zB (zjH C 3) (zby (fun _=>zB (zbw (zbJ h (zco _ _)) 256) (zbC (aT .bare) (v:=⟨zh9 c 8,l,o,zo _ 256⟩) (zG _ _) (d _)))
    (fun _=>zbC (aT .bare) (v:=⟨zh9 c 8,l,o,0⟩) (zco _ _) (d _)))
def zbcK:zcW:=[(153,[false,true,true],zzY)]++zbcJ
def zZa:zb7 zbcK:=zcq zBK (by
 intro x a;simp only[qG,qM,or_false]at a;rcases a with rfl
 .exact zNR)
def zAI (N:Nat)(c:Cur)  : OA :=
 let e:=zek c;let n:=({ (zl9 c) with b:=c.b}:Cur);let j:=zo n 14;let f:=zf n 14;let d:=({f with b:=c.b}:Cur);let k:=({ (zfg d) with b:=c.b}:Cur);let p:=ap e.ac [zbU d,zbU k]; (oN (zkg c)<|oN (zC n 14)<|cond (ieq j 0) (oN (znS d)<|some [.agg [.s .u8 c.b,.i .i64 (zhv d).i,.i .i64 (zhv d).h],aT .bare ({e with ag:=(zm1 d)}:ai)])<|cond (ieq j 1) (oN (znW d)<|oN (inb 0<|ln e.ac)<|p0 (up e.ac 0<|zsf d) λm=>some [.agg [.s .u8 c.b,.i .i64 (zly d).i,.i .i64 (zly d).h],aT .bare ({e with ac:=m}:ai)])<|cond (ieq j 2) (oN (zhM d)<|oN (zhM k)<|oN (few<|ln p)<|some [.agg [.s .u8 c.b,.i .i64 (zfg k).i,.i .i64 (zfg k).h],aT .bare ({e with ac:=p}:ai)])<|cond (ieq j 3) (p0 [] λm=>some [.agg [.s .u8 c.b,.i .i64 f.i,.i .i64 f.h],aT .bare ({e with ac:=m}:ai)])<|cond (ieq j 4) (r0 (σ:=(Int×Int×Int×Int×LI×lM×lG×LI×lM×lG×LI×Unit)) N (λq a=>let b:=a.2.2.2.2;let c:=b.2.2.2.2;let l:=c.2.2.1;let g:=(⟨b.1,a.1,a.2.1⟩:Cur); (oN (zC g 3)<|cond (ilt (ln l)<|zI .i64 39<|zo g 3) (oN (few<|ln<|ap l [1])<|q ((zf g 3).i,(zf g 3).h,a.2.2.1,a.2.2.2.1,b.1,b.2.1,b.2.2.1,b.2.2.2.1,c.1,c.2.1,ap l [1],()))<|some [.agg [.s .u8 b.1,.i .i64 (zf g 3).i,.i .i64 (zf g 3).h],aT .bare (⟨c.1,c.2.1,l,a.2.2.2.1⟩:ai)])) (f.i,f.h,0,e.an,c.b,[],[],[],e.ag,e.ac,e.Outs,()))<|cond (ieq j 5) (oN (zl8 d)<|some [.agg [.s .u8 c.b,.i .i64 (zkf d).i,.i .i64 (zkf d).h],aT .bare ({e with an:=(zpE d)}:ai)])<|some [.agg [.s .u8 c.b,.i .i64 f.i,.i .i64 f.h],aT .bare e])
def z0n:=zq [(152,1,{n:=54,tm:=[(0,.lp 0 0),(2,.lp 1 0),(3,.lp 2 0)],lo:=[(0,[.sl 0 [],ti,ti]),(1,[.sl 1 [],.sl 2 [],.sl 3 [],ti]),(2,[.sl 4 [],.sl 5 [],.sl 6 [],ti])],ro:=[(0,.u8,false),(1,.sl .int,true),(2,.guest,true),(3,.int,true),(4,.sl .int,true),(5,.guest,true),(6,.int,true)]})]
def ztc (c:Cur)(s:Cur)(a:ai):Prop:=(∃N,zAI N c=some (AV.agg (zb5 s)::[aT .bare a]))/\(s.b=c.b/\0<=s.i)/\(SmB a)
def znX (c:Cur)  : Bool:=wC (ztc c)
def zvd (c:Cur)  : Cur:=wS (ztc c)
def zBW (c:Cur)  : ai:=wV (ztc c)
def zPa {c:Cur}(h:znX c=true):ztc c (zvd c) (zBW c):=wG h
def z5s (c:Cur)  : 0<=(zvd c).i:=wP λh=>h.2.1.2
def z5r (c:Cur)(h:∃N,Ends (wE (λa=>aT .bare a) c.b λa=>SmB a)<|zAI N c):znX c=true:=wI (λ_ _ h=>h) h
def zCW:zeg:=rP0 λc=>(znX c,zvd c,[aT .bare<|zBW c])
def zRi:zbX Tryz.prog 152 [false,true,true] zCW:=hP0 zAY zU zZa zl z0n (λ_ h=>(zPa h).1)
def z2i {c:Cur}(h:zbb c):znX c=true:=by
 refine z5r c ⟨1002,?_⟩;unfold zAI oN;conv=>zeta
 have q:∀{s:Cur},0<=s.i->zbb {s with b:=c.b}:=fun j=>zbJ h j;have B:=(zyQ (zAR h)).2.2;have a:zbb {zf {zl9 c with b:=c.b} 14 with b:=c.b}:=q (zG _ _);have S:=B.sm;have e:=(zBQ (zBy a)).2.2;have f:∀{c:Cur},zbb c->SmG (zbU c):=fun n=>zPn (zrr (zo5 n)).2.2.1;have d:inb 0 (ln (zek c).ac)=true:=qH (by have:=B.g1;unfold ln;omega)
 refine zB (zAR h) (zB (zbw (q (zJb _)) 14) (zby (fun _=>zB (zBy a) (zbC (aT .bare) (v:={zek c with ag:=zm1 _}) (zO6 _) ⟨⟨qT e.1 (by decide),fun r u=>qT (e.2 r u) (by decide)⟩,S.2⟩))
  (fun _=>zby (fun _=>zB (zuN a) (zB d (zkx (zbC (aT .bare) (v:={zek c with ac:=up (zek c).ac 0 (zsf _)}) (zO9 _) ⟨S.1,zZL S.2.1 0 (zPn (zBV (zuN a)).2.2),S.2.2⟩))))
  (fun _=>zby (fun _=>zB (zo5 a) (zB (zo5 (q (zm6 _))) (zB (ziW ?_) (zbC (aT .bare) (v:={zek c with ac:=ap (zek c).ac [zbU _,zbU _]}) (zm6 _) ⟨S.1,⟨?_,fun g hg=>?_⟩,S.2.2⟩))))
  (fun _=>zby (fun _=>zkx (zbC (aT .bare) (v:={zek c with ac:=[]}) (zG _ _) ⟨S.1,⟨by simp,by simp⟩,S.2.2⟩))
  (fun _=>zby (fun _=>?_)
  (fun _=>zby (fun _=>zB (z7X a) (zbC (aT .bare) (v:={zek c with an:=zpE _}) (zJa _) S)) (fun _=>zbC (aT .bare) (v:=zek c) (zG _ _) S))))))))
 {have:=B.g2;simp only[ln,ap,kA,qU,k7];omega};{have:=B.g2;simp only[ap,kA,qU,k7];omega};{rcases jC.1 hg with hg|hg;{exact S.2.1.2 g hg};{rcases qG.1 hg with rfl|hg;{exact f a};{rw [qF.1 hg];exact f (q (zm6 _))}}}
 .exact z6V h (zG _ _) (m:=39) (q:=3) (x:=1) (by omega) (by omega) (by omega) (l0:=(zek c).Outs) (by have:=B.o;unfold ln;omega) ((fun _ t=>(t.1,t.2.1,0,(zek c).an,c.b,[],[],[],(zek c).ag,(zek c).ac,t.2.2,())):Nat->Int×Int×LI->_)
   (fun rec i k l=>⟨_,rfl,fun p=>⟨⟨_,_,_⟩,_,rfl,⟨rfl,zG _ _⟩,⟨S.1,S.2.1,by unfold ln at p;dsimp only;omega⟩⟩⟩)
def zbfN:zcW:=[(152,[false,true,true],zCW)]++zbcK
def zbam:zb7 zbfN:=zcq zZa (by
 intro x a;simp only[qG,qM,or_false]at a;rcases a with rfl
 .exact zRi)
def zmf (N:Nat)(h:LI):OA:=
 (r0 (σ:=(Int×Int×Int×Int×Int×Int×Int×Int×LI×lR×Unit)) N (λk a=>let h:=a.2.2.2.2;let d:=h.2.2.2.2.1;let f:=(⟨d,0,a.1⟩:Cur);let e:=({ (zvd f) with b:=d}:Cur);let j:=aS .bare [zBW f,zek e];let g:=({ (zl9 e) with b:=d}:Cur);let c:=zBY g; (cond (ilt a.2.1<|ln d) (cond (ilt a.2.1 4000) (oN (inb a.2.1<|ln d)<|k (wand .i64 (zI .i64 (zI .i64 (zk3 .i64 a.1 131)<|wcv .i64<|ix d a.2.1 0) 7) 1073741823,zI .i64 a.2.1 1,a.2.2.1,a.2.2.2.1,h.1,h.2.1,h.2.2.1,h.2.2.2.1,d,h.2.2.2.2.2.1,()))<|oN (znX f)<|oN (zkg e)<|oN (zn0 g)<|some [j,.agg [.i .i64 c.Kind,.i .i64 c.M,.i .i64 c.G,.i .i64 c.X,.i .i64 c.Y,.i .i64 c.Z]])<|oN (znX f)<|oN (zkg e)<|oN (zn0 g)<|some [j,.agg [.i .i64 c.Kind,.i .i64 c.M,.i .i64 c.G,.i .i64 c.X,.i .i64 c.Y,.i .i64 c.Z]])) (zI .i64 94701<|ln h,0,0,0,0,0,0,0,h,[],()))
def zHM:=zq [(100,0,{n:=32,tm:=[(0,.sl 0 []),(3,ti),(4,ti)],lo:=[(0,[ti,ti,ti,ti,ti,ti])],ro:=[(0,.u8,false),(1,.bare,true)],sk:=[(0,2,0,.sl 1 []),(0,3,0,.lp 0 0)]})]
def zph (b:LI)(a:List ai)(c:GAct):Prop:=(∃N,zmf N b=some [aS .bare a,aT .act c])/\(zpP a)
def zhW (a:LI):Bool:=uC (T:=List ai×GAct) (λr=>zph a r.1 r.2)
def zxN (a:LI):List ai×GAct:=uV (λr=>zph a r.1 r.2)
def zmt (a:LI):List ai:=(zxN a).1
def zqU (a:LI):GAct:=(zxN a).2
def zxM {a:LI}(h:zhW a=true):zph a (zmt a) (zqU a):=uG h
def zO2 (d:LI)(h:∃N,Ends (λa=>∃b c,a=[aS .bare b,aT .act c]/\(zpP b))<|zmf N d):zhW d=true:=by obtain⟨N,a,e,b,c,rfl,h⟩:=h;exact zbg ⟨(b,c),⟨N,e⟩,h⟩
def zuG:Run:=rF1 (dS .u8) λb=>(zhW b,[aS .bare<|zmt b,aT .act<|zqU b])
def zHn (a:LI)(b:zhW a=true):∃N,zmf N a=some [aS .bare<|zmt a,aT .act<|zqU a]:=by exact(zxM b).1
def zDz:vU 32 zuG:=kF1 zAY zU zbam zl zHM zHn
def zCF {a:LI}(h:a.length<=big):zhW a=true:=by
 refine zO2 a (zb2 λN c=>?_);unfold zmf oN;conv=>zeta
 refine zEE h (c h) ((λi t=>(t,(i:Int),0,0,0,0,0,0,a,[],())):Int->Int->_) (λrec i t=>by dsimp only) (λt f=>?_);have e:=q_of h (z5s ⟨a,0,t⟩);refine zB (z2i f) (zB (zAR e)<|zB (zbft<|q_of h<|zJb _) ⟨_,rfl,[zBW ⟨a,0,t⟩,zek _],zBY _,rfl,⟨by simp,λb d=>?_⟩⟩);rcases qG.1 d with rfl|d;{exact(zPa<|z2i f).2.2};{rw [qF.1 d];exact(zyQ<|zAR e).2.2.sm}
def zbfw:zZ:=[(32,zuG)]++zJD
def z9q:zS zbfw:=zh zDz zeo
def zkm (N:Nat)(a:LI):OA:=
 (oN (zhW a)<|some [aS .bare<|zmt a])
def zmX (b:LI)(a:List ai):Prop:=(∃N,zkm N b=some [aS .bare a])/\(zpP a)
def zgN (a:LI):Bool:=uC (T:=List ai) (λr=>zmX a r)
def zHI (a:LI):List ai:=uV (λr=>zmX a r)
def zjM (a:LI):List ai:=(zHI a)
def zuI {a:LI}(h:zgN a=true):zmX a (zjM a):=uG h
def zHH (c:LI)(h:∃N,Ends (λa=>∃b,a=[aS .bare b]/\(zpP b))<|zkm N c):zgN c=true:=by obtain⟨N,a,e,b,rfl,h⟩:=h;exact zbg ⟨b,⟨N,e⟩,h⟩
def zrF:Run:=rF1 (dS .u8) λb=>(zgN b,[aS .bare<|zjM b])
def zDL (a:LI)(b:zgN a=true):∃N,zkm N a=some [aS .bare<|zjM a]:=by exact(zuI b).1
def zzs:vU 20 zrF:=kF1 z9q zU zu zl (zq []) zDL
def zw8 {a:LI}(h:a.length<=big):zgN a=true:=by refine zHH a ⟨0,?_⟩;unfold zkm oN;exact zB (zCF h) ⟨_,rfl,_,rfl,(zxM<|zCF h).2⟩
def zfO (x y:LI):Bool:=pc (x=y)
def zz8:Run:=rF2 (dS .int) (dS .int) λb c=>(zfO b c,[aB<|zc7 b c])
def zSz:=zq [(50,0,{n:=26,tm:=[(0,.sl 0 []),(1,.sl 1 []),(5,ti)],lo:=[],ro:=[(0,.int,false),(1,.int,false)]})]
def zRJ (a b:LI)(d:zbE big [aS .int a,aS .int b])(e:zfO a b=true):∃N,zsp N a b=some [aB<|zc7 a b]:=by have:=zM.1 e;subst this;have f:=len0 d;refine⟨a.length+1,?_⟩;unfold zsp oN;rw[zcd];refine zhQ a zbfY _ _ f (λi c rec=>?_) (λrec=>?_) (jU _);{simp only [zbo c,zX c,zbh c,zj6,zcd,zcP,zdm,cT,cF,jM,jO]};{simp only [zbj,cF,zc7]}
def zKj:vU 50 zz8:=hF2 zeo zU zu zl zSz zRJ
def zjo (x y:List Bool):Bool:=pc (x=y)
def zj5 (_ _:List Bool):Bool:=true
def zxG:Run:=rF2 (dS .bool) (dS .bool) λb c=>(zjo b c,[aB<|zj5 b c])
def zCm (N:Nat)(b c:lB):OA:=
 (cond (ine (ln b)<|ln c) oF<|r0 (σ:=(Int×lB×lB×Unit)) N (λd a=>cond (ilt a.1<|ln a.2.1) (oN (inb a.1<|ln a.2.1)<|oN (inb a.1<|ln a.2.2.1)<|cond (nB<|zj1 (ix a.2.1 a.1 false)<|ix a.2.2.1 a.1 false) oF<|d (zI .i64 a.1 1,a.2.1,a.2.2.1,())) oT) (0,b,c,()))
def zPI:=zq [(194,0,{n:=26,tm:=[(0,.sl 0 []),(1,.sl 1 []),(5,ti)],lo:=[],ro:=[(0,.bool,false),(1,.bool,false)]})]
def zOl (a b:List Bool)(d:zbE big [aS .bool a,aS .bool b])(e:zjo a b=true):∃N,zCm N a b=some [aB<|zj5 a b]:=by have:=zM.1 e;subst this;have f:=len0 d;refine⟨a.length+1,?_⟩;unfold zCm oN nB;rw[zcd];refine zhQ a zbfo _ _ f (λi c rec=>?_) (λrec=>?_) (jU _);{simp only [zbo c,zX c,zbh c,zj6,zcd,zcP,zdm,cT,cF,jM,jO]};{simp only [zbj,cF,zj5]}
def zGV:vU 194 zxG:=hF2 zeo zU zu zl zPI zOl
def zdT (x y:List k0):Bool:=pc (x=y)
def zd7 (_ _:List k0):Bool:=true
def zmo:Run:=rF2 (dS .slot) (dS .slot) λb c=>(zdT b c,[aB<|zd7 b c])
def zoC (N:Nat)(b c:lS):OA:=
 (cond (ine (ln b)<|ln c) oF<|r0 (σ:=(Int×lS×lS×Unit)) N (λf a=>let e:=ix a.2.1 a.1 zba;let d:=ix a.2.2.1 a.1 zba; (cond (ilt a.1<|ln a.2.1) (oN (inb a.1<|ln a.2.1)<|oN (inb a.1<|ln a.2.2.1)<|cond (nB<|cond (ieq e.af d.af) (ieq e.aj d.aj) false) oF<|f (zI .i64 a.1 1,a.2.1,a.2.2.1,())) oT)) (0,b,c,()))
def zPL:=zq [(193,0,{n:=26,tm:=[(0,.sl 0 []),(1,.sl 1 []),(5,ti)],lo:=[],ro:=[(0,.slot,false),(1,.slot,false)]})]
def zOp (a b:List k0)(d:zbE big [aS .slot a,aS .slot b])(e:zdT a b=true):∃N,zoC N a b=some [aB<|zd7 a b]:=by
 have:=zM.1 e;subst this;have f:=len0 d;refine⟨a.length+1,?_⟩;unfold zoC oN nB;conv=>zeta
 rw[zcd];refine zhQ a zba _ _ f (λi c rec=>?_) (λrec=>?_) (jU _);{simp only [zbo c,zX c,zbh c,zj6,zcd,zcP,zdm,cT,cF,jM,jO]};{simp only [zbj,cF,zd7]}
def zGZ:vU 193 zmo:=hF2 zeo zU zu zl zPL zOp
def zkH (x y:List ar):Bool:=pc (x=y)
def zkG (_ _:List ar):Bool:=true
def zwk:Run:=rF2 (dS .entry) (dS .entry) λb c=>(zkH b c,[aB<|zkG b c])
def zy7 (N:Nat)(d e:lE):OA:=
 (cond (ine (ln d)<|ln e) oF<|r0 (σ:=(Int×lE×lE×Unit)) N (λf a=>let c:=ix a.2.1 a.1 zfz;let b:=ix a.2.2.1 a.1 zfz; (cond (ilt a.1<|ln a.2.1) (oN (inb a.1<|ln a.2.1)<|oN (inb a.1<|ln a.2.2.1)<|cond (nB<|cond (ieq c.Tag b.Tag) (cond (ieq c.af b.af) (cond (ieq c.ad b.ad) (ieq c.aj b.aj) false) false) false) oF<|f (zI .i64 a.1 1,a.2.1,a.2.2.1,())) oT)) (0,d,e,()))
def zLA:=zq [(117,0,{n:=26,tm:=[(0,.sl 0 []),(1,.sl 1 []),(5,ti)],lo:=[],ro:=[(0,.entry,false),(1,.entry,false)]})]
def zKV (a b:List ar)(d:zbE big [aS .entry a,aS .entry b])(e:zkH a b=true):∃N,zy7 N a b=some [aB<|zkG a b]:=by
 have:=zM.1 e;subst this;have f:=len0 d;refine⟨a.length+1,?_⟩;unfold zy7 oN nB;conv=>zeta
 rw[zcd];refine zhQ a zfz _ _ f (λi c rec=>?_) (λrec=>?_) (jU _);{simp only [zbo c,zX c,zbh c,zj6,zcd,zcP,zdm,cT,cF,jM,jO]};{simp only [zbj,cF,zkG]}
def zE4:vU 117 zwk:=hF2 zeo zU zu zl zLA zKV
def zi0 (x y:List Ins):Bool:=pc (x=y)
def zik (_ _:List Ins):Bool:=true
def znE:Run:=rF2 (dS .ins) (dS .ins) λb c=>(zi0 b c,[aB<|zik b c])
def zpL (N:Nat)(b c:lI):OA:=
 (cond (ine (ln b)<|ln c) oF<|r0 (σ:=(Int×lI×lI×Unit)) N (λf a=>let e:=ix a.2.1 a.1 zrD;let d:=ix a.2.2.1 a.1 zrD; (cond (ilt a.1<|ln a.2.1) (oN (inb a.1<|ln a.2.1)<|oN (inb a.1<|ln a.2.2.1)<|cond (nB<|cond (ieq e.Op d.Op) (ieq e.X d.X) false) oF<|f (zI .i64 a.1 1,a.2.1,a.2.2.1,())) oT)) (0,b,c,()))
def zSy:=zq [(440,0,{n:=26,tm:=[(0,.sl 0 []),(1,.sl 1 []),(5,ti)],lo:=[],ro:=[(0,.ins,false),(1,.ins,false)]})]
def zRI (a b:List Ins)(d:zbE big [aS .ins a,aS .ins b])(e:zi0 a b=true):∃N,zpL N a b=some [aB<|zik a b]:=by
 have:=zM.1 e;subst this;have f:=len0 d;refine⟨a.length+1,?_⟩;unfold zpL oN nB;conv=>zeta
 rw[zcd];refine zhQ a zrD _ _ f (λi c rec=>?_) (λrec=>?_) (jU _);{simp only [zbo c,zX c,zbh c,zj6,zcd,zcP,zdm,cT,cF,jM,jO]};{simp only [zbj,cF,zik]}
def zKi:vU 440 znE:=hF2 zeo zU zu zl zSy zRI
def z6K:zZ:=[(50,zz8),(194,zxG),(193,zmo),(117,zwk),(440,znE)]++zJD
def zw5:zS z6K:=zh zKj (zh zGV<|zh zGZ<|zh zE4<|zh zKi zeo)
def zeG (x y:List LI):Bool:=pc (x=y)
def zeK (_ _:List LI):Bool:=true
def zmn:Run:=rF2 (dS<|.sl .int) (dS<|.sl .int) λb c=>(zeG b c,[aB<|zeK b c])
def zCp (N:Nat)(b:lM)(c:lM):OA:=
 (cond (ine (ln b)<|ln c) oF<|r0 (σ:=(Int×lM×lM×Unit)) N (λd a=>cond (ilt a.1<|ln a.2.1) (oN (inb a.1<|ln a.2.1)<|oN (inb a.1<|ln a.2.2.1)<|oN (zfO (ix a.2.1 a.1 [])<|ix a.2.2.1 a.1 [])<|cond (nB<|zc7 (ix a.2.1 a.1 [])<|ix a.2.2.1 a.1 []) oF<|d (zI .i64 a.1 1,a.2.1,a.2.2.1,())) oT) (0,b,c,()))
def zPK:=zq [(115,0,{n:=27,tm:=[(0,.sl 0 []),(1,.sl 1 []),(5,ti)],lo:=[],ro:=[(0,.sl .int,false),(1,.sl .int,false)]})]
def zOo (a:List LI)(b:List LI)(d:zbE big [aS (.sl .int) a,aS (.sl .int) b])(e:zeG a b=true):∃N,zCp N a b=some [aB<|zeK a b]:=by have:=zM.1 e;subst this;have f:=len0 d;refine⟨a.length+1,?_⟩;unfold zCp oN nB;rw[zcd];refine zhQ a (Ty.dflt<|.sl .int) _ _ f (λi c rec=>?_) (λrec=>?_) (jU _);{simp only [zbo c,zX c,zbh c,zfO,zc7,zj6,zcd,zcP,zdm,cT,cF,jM,jO]};{simp only [zbj,cF,zeK]}
def zGY:vU 115 zmn:=hF2 zw5 zU zu zl zPK zOo
def zqd (x y:az):Bool:=pc (x=y)
def zqc (_ _:az):Bool:=true
def zz9:Run:=rF2 (dT .kept) (dT .kept) λb c=>(zqd b c,[aB<|zqc b c])
def zD5 (N:Nat)(a b:az):OA:=
 (oN (zjo a.ay b.ay)<|cond (zj5 a.ay b.ay) (oN (zdT a.aA b.aA)<|some [aB<|zd7 a.aA b.aA]) oF)
def zRK (a b:az)(c:zqd a b=true):∃N,zD5 N a b=some [aB<|zqc a b]:=by have:=zM.1 c;subst this;refine⟨0,?_⟩;simp only[zD5,zjo,zj5,zdT,zd7,zj6,zcd,zcP,zdm,cT,cF,jM,jO,zqc]
def zKk:vU 367 zz9:=kF2 zw5 zU zu zl (zq []) zRK
def zjq (x y:ah):Bool:=pc (x=y)
def zit (_ _:ah):Bool:=true
def zmm:Run:=rF2 (dT .guest) (dT .guest) λb c=>(zjq b c,[aB<|zit b c])
def zCn (N:Nat)(a b:ah):OA:=
 (oN (zi0 a.au b.au)<|cond (zik a.au b.au) (cond (ieq a.A b.A) (cond (ieq a.Pc b.Pc) (oN (zdT a.ax b.ax)<|cond (zd7 a.ax b.ax) (oN (zdT a.av b.av)<|cond (zd7 a.av b.av) (cond (cond (ieq a.Ctl.aq b.Ctl.aq) (cond (ieq a.Ctl.Post b.Ctl.Post) (zj1 a.Ctl.Open b.Ctl.Open) false) false) (cond (ieq a.an b.an) (cond (cond (ieq a.Exit.Kind b.Exit.Kind) (cond (ieq a.Exit.af b.Exit.af) (cond (zj1 a.Exit.Write b.Exit.Write) (ieq a.Exit.N b.Exit.N) false) false) false) (cond (zj1 a.aF b.aF) (oN (zfO a.aC b.aC)<|some [aB<|zc7 a.aC b.aC]) oF) oF) oF) oF) oF) oF) oF) oF) oF)
def zOm (a b:ah)(c:zjq a b=true):∃N,zCn N a b=some [aB<|zit a b]:=by have:=zM.1 c;subst this;refine⟨0,?_⟩;simp only[zCn,zi0,zik,zdT,zd7,zfO,zc7,zj6,zcd,zcP,zdm,cT,cF,jM,jO,zit]
def zGW:vU 356 zmm:=kF2 zw5 zU zu zl (zq []) zOm
def z6L:zZ:=[(115,zmn),(367,zz9),(356,zmm)]++z6K
def zEL:zS z6L:=zh zGY (zh zKk<|zh zGW zw5)
def zoH (x y:List az):Bool:=pc (x=y)
def zoe (_ _:List az):Bool:=true
def zxH:Run:=rF2 (dS .kept) (dS .kept) λb c=>(zoH b c,[aB<|zoe b c])
def zCo (N:Nat)(b c:lK):OA:=
 (cond (ine (ln b)<|ln c) oF<|r0 (σ:=(Int×lK×lK×Unit)) N (λf a=>let e:=ix a.2.1 a.1 ze0;let d:=ix a.2.2.1 a.1 ze0; (cond (ilt a.1<|ln a.2.1) (oN (inb a.1<|ln a.2.1)<|oN (inb a.1<|ln a.2.2.1)<|oN (zqd e d)<|cond (nB<|zqc e d) oF<|f (zI .i64 a.1 1,a.2.1,a.2.2.1,())) oT)) (0,b,c,()))
def zPJ:=zq [(195,0,{n:=27,tm:=[(0,.sl 0 []),(1,.sl 1 []),(5,ti)],lo:=[],ro:=[(0,.kept,false),(1,.kept,false)]})]
def zOn (a b:List az)(d:zbE big [aS .kept a,aS .kept b])(e:zoH a b=true):∃N,zCo N a b=some [aB<|zoe a b]:=by
 have:=zM.1 e;subst this;have f:=len0 d;refine⟨a.length+1,?_⟩;unfold zCo oN nB;conv=>zeta
 rw[zcd];refine zhQ a ze0 _ _ f (λi c rec=>?_) (λrec=>?_) (jU _);{simp only [zbo c,zX c,zbh c,zqd,zqc,zj6,zcd,zcP,zdm,cT,cF,jM,jO]};{simp only [zbj,cF,zoe]}
def zGX:vU 195 zxH:=hF2 zEL zU zu zl zPJ zOn
def zfu (x y:List ah):Bool:=pc (x=y)
def ze9 (_ _:List ah):Bool:=true
def zlq:Run:=rF2 (dS .guest) (dS .guest) λb c=>(zfu b c,[aB<|ze9 b c])
def znk (N:Nat)(b c:lG):OA:=
 (cond (ine (ln b)<|ln c) oF<|r0 (σ:=(Int×lG×lG×Unit)) N (λf a=>let e:=ix a.2.1 a.1 zy;let d:=ix a.2.2.1 a.1 zy; (cond (ilt a.1<|ln a.2.1) (oN (inb a.1<|ln a.2.1)<|oN (inb a.1<|ln a.2.2.1)<|oN (zjq e d)<|cond (nB<|zit e d) oF<|f (zI .i64 a.1 1,a.2.1,a.2.2.1,())) oT)) (0,b,c,()))
def zLB:=zq [(175,0,{n:=27,tm:=[(0,.sl 0 []),(1,.sl 1 []),(5,ti)],lo:=[],ro:=[(0,.guest,false),(1,.guest,false)]})]
def zKW (a b:List ah)(d:zbE big [aS .guest a,aS .guest b])(e:zfu a b=true):∃N,znk N a b=some [aB<|ze9 a b]:=by
 have:=zM.1 e;subst this;have f:=len0 d;refine⟨a.length+1,?_⟩;unfold znk oN nB;conv=>zeta
 rw[zcd];refine zhQ a zy _ _ f (λi c rec=>?_) (λrec=>?_) (jU _);{simp only [zbo c,zX c,zbh c,zjq,zit,zj6,zcd,zcP,zdm,cT,cF,jM,jO]};{simp only [zbj,cF,ze9]}
def zE5:vU 175 zlq:=hF2 zEL zU zu zl zLB zKW
def z6M:zZ:=[(195,zxH),(175,zlq)]++z6L
def zEM:zS z6M:=zh zGX (zh zE5 zEL)
def zsE (x y:Mon):Bool:=pc (x=y)
def ztB (_ _:Mon):Bool:=true
def zC4:Run:=rF2 (dT .mon) (dT .mon) λb c=>(zsE b c,[aB<|ztB b c])
def zH0 (N:Nat)(a b:Mon):OA:=
 (oN (zdT a.ae b.ae)<|cond (zd7 a.ae b.ae) (oN (zeG a.Out b.Out)<|cond (zeK a.Out b.Out) (oN (zjo a.aw b.aw)<|cond (zj5 a.aw b.aw) (oN (zfu a.ac b.ac)<|cond (ze9 a.ac b.ac) (oN (zfO a.Outs b.Outs)<|cond (zc7 a.Outs b.Outs) (cond (ieq a.an b.an) (cond (ieq a.aq b.aq) (oN (zoH a.am b.am)<|cond (zoe a.am b.am) (some [aB<|ieq a.Own b.Own]) oF) oF) oF) oF) oF) oF) oF) oF)
def zU9 (a b:Mon)(c:zsE a b=true):∃N,zH0 N a b=some [aB<|ztB a b]:=by have:=zM.1 c;subst this;refine⟨0,?_⟩;simp only[zH0,zdT,zd7,zeG,zeK,zjo,zj5,zfu,ze9,zfO,zc7,zoH,zoe,zj6,zcd,zcP,zdm,cT,cF,jM,jO,ztB]
def zNl:vU 69 zC4:=kF2 zEM zU zu zl (zq []) zU9
def zkF (x y:ai):Bool:=pc (x=y)
def zjE (_ _:ai):Bool:=true
def znD:Run:=rF2 (dT .bare) (dT .bare) λb c=>(zkF b c,[aB<|zjE b c])
def zD3 (N:Nat)(a b:ai):OA:=
 (oN (zeG a.ag b.ag)<|cond (zeK a.ag b.ag) (oN (zfu a.ac b.ac)<|cond (ze9 a.ac b.ac) (oN (zfO a.Outs b.Outs)<|cond (zc7 a.Outs b.Outs) (some [aB<|ieq a.an b.an]) oF) oF) oF)
def zRG (a b:ai)(c:zkF a b=true):∃N,zD3 N a b=some [aB<|zjE a b]:=by have:=zM.1 c;subst this;refine⟨0,?_⟩;simp only[zD3,zeG,zeK,zfu,ze9,zfO,zc7,zj6,zcd,zcP,zdm,cT,cF,jM,jO,zjE]
def zKg:vU 53 znD:=kF2 zEM zU zu zl (zq []) zRG
def z6N:zZ:=[(69,zC4),(53,znD)]++z6M
def zEN:zS z6N:=zh zNl (zh zKg zEM)
def zqf (x y:List Mon):Bool:=pc (x=y)
def zqe (_ _:List Mon):Bool:=true
def zAa:Run:=rF2 (dS .mon) (dS .mon) λb c=>(zqf b c,[aB<|zqe b c])
def zD6 (N:Nat)(b c:lN):OA:=
 (cond (ine (ln b)<|ln c) oF<|r0 (σ:=(Int×lN×lN×Unit)) N (λf a=>let e:=ix a.2.1 a.1 zi;let d:=ix a.2.2.1 a.1 zi; (cond (ilt a.1<|ln a.2.1) (oN (inb a.1<|ln a.2.1)<|oN (inb a.1<|ln a.2.2.1)<|oN (zsE e d)<|cond (nB<|ztB e d) oF<|f (zI .i64 a.1 1,a.2.1,a.2.2.1,())) oT)) (0,b,c,()))
def zSA:=zq [(116,0,{n:=27,tm:=[(0,.sl 0 []),(1,.sl 1 []),(5,ti)],lo:=[],ro:=[(0,.mon,false),(1,.mon,false)]})]
def zRL (a b:List Mon)(d:zbE big [aS .mon a,aS .mon b])(e:zqf a b=true):∃N,zD6 N a b=some [aB<|zqe a b]:=by
 have:=zM.1 e;subst this;have f:=len0 d;refine⟨a.length+1,?_⟩;unfold zD6 oN nB;conv=>zeta
 rw[zcd];refine zhQ a zi _ _ f (λi c rec=>?_) (λrec=>?_) (jU _);{simp only [zbo c,zX c,zbh c,zsE,ztB,zj6,zcd,zcP,zdm,cT,cF,jM,jO]};{simp only [zbj,cF,zqe]}
def zKl:vU 116 zAa:=hF2 zEN zU zu zl zSA zRL
def zt5 (x y:List ai):Bool:=pc (x=y)
def zsD (_ _:List ai):Bool:=true
def zqp:Run:=rF2 (dS .bare) (dS .bare) λb c=>(zt5 b c,[aB<|zsD b c])
def zCl (N:Nat)(b c:lR):OA:=
 (cond (ine (ln b)<|ln c) oF<|r0 (σ:=(Int×lR×lR×Unit)) N (λf a=>let e:=ix a.2.1 a.1 zd6;let d:=ix a.2.2.1 a.1 zd6; (cond (ilt a.1<|ln a.2.1) (oN (inb a.1<|ln a.2.1)<|oN (inb a.1<|ln a.2.2.1)<|oN (zkF e d)<|cond (nB<|zjE e d) oF<|f (zI .i64 a.1 1,a.2.1,a.2.2.1,())) oT)) (0,b,c,()))
def zPH:=zq [(25,0,{n:=27,tm:=[(0,.sl 0 []),(1,.sl 1 []),(5,ti)],lo:=[],ro:=[(0,.bare,false),(1,.bare,false)]})]
def zOk (a b:List ai)(d:zbE big [aS .bare a,aS .bare b])(e:zt5 a b=true):∃N,zCl N a b=some [aB<|zsD a b]:=by
 have:=zM.1 e;subst this;have f:=len0 d;refine⟨a.length+1,?_⟩;unfold zCl oN nB;conv=>zeta
 rw[zcd];refine zhQ a zd6 _ _ f (λi c rec=>?_) (λrec=>?_) (jU _);{simp only [zbo c,zX c,zbh c,zkF,zjE,zj6,zcd,zcP,zdm,cT,cF,jM,jO]};{simp only [zbj,cF,zsD]}
def zux:vU 25 zqp:=hF2 zEN zU zu zl zPH zOk
def zbeH:zZ:=[(116,zAa),(25,zqp)]++z6N
def z6O:zS zbeH:=zh zKl (zh zux zEN)
def zqb (x y:ad):Bool:=pc (x=y)
def zqa (_ _:ad):Bool:=true
def zz7:Run:=rF2 dH dH λb c=>(zqb b c,[aB<|zqa b c])
def zD4 (N:Nat)(a b:ad):OA:=
 (oN (zeG a.ag b.ag)<|cond (zeK a.ag b.ag) (oN (zqf a.aa b.aa)<|cond (zqe a.aa b.aa) (oN (zkH a.ao b.ao)<|cond (zkG a.ao b.ao) (oN (zkH a.ak b.ak)<|some [aB<|zkG a.ak b.ak]) oF) oF) oF)
def zRH (a b:ad)(c:zqb a b=true):∃N,zD4 N a b=some [aB<|zqa a b]:=by have:=zM.1 c;subst this;refine⟨0,?_⟩;simp only[zD4,zeG,zeK,zqf,zqe,zkH,zkG,zj6,zcd,zcP,zdm,cT,cF,jM,jO,zqa]
def zKh:vU 24 zz7:=kF2 z6O zU zu zl (zq []) zRH
def zbb4:zZ:=[(73,zyD),(52,zmW),(297,zuh)]++zJD
def zA3:zS zbb4:=zh zCJ (zh zzx<|zh zxm zeo)
def zrR (l:LI):eqI l l=true:=by unfold eqI;induction l with|nil=>rfl|cons x l a=>rw[all2,zcP,a];rfl
def zPT:=zq [(463,0,{n:=26,tm:=[(0,.sl 0 []),(1,.sl 1 []),(5,ti)],lo:=[],ro:=[(0,.slot,false),(1,.slot,false)]})]
def zOB (a b:List k0)(d:zbE big [aS .slot a,aS .slot b])(e:zdT a b=true):∃N,zoC N a b=some [aB<|zd7 a b]:=by
 have:=zM.1 e;subst this;have f:=len0 d;refine⟨a.length+1,?_⟩;unfold zoC oN nB;conv=>zeta
 rw[zcd];refine zhQ a zba _ _ f (λi c rec=>?_) (λrec=>?_) (jU _);{simp only [zbo c,zX c,zbh c,zrR,zj6,zcd,zcP,zdm,cT,cF,jM,jO]};{simp only [zbj,cF,zd7]}
def zG7:vU 463 zmo:=hF2 zA3 zU zu zl zPT zOB
def zSG:=zq [(462,0,{n:=26,tm:=[(0,.sl 0 []),(1,.sl 1 []),(5,ti)],lo:=[],ro:=[(0,.ins,false),(1,.ins,false)]})]
def zRZ (a b:List Ins)(d:zbE big [aS .ins a,aS .ins b])(e:zi0 a b=true):∃N,zpL N a b=some [aB<|zik a b]:=by
 have:=zM.1 e;subst this;have f:=len0 d;refine⟨a.length+1,?_⟩;unfold zpL oN nB;conv=>zeta
 rw[zcd];refine zhQ a zrD _ _ f (λi c rec=>?_) (λrec=>?_) (jU _);{simp only [zbo c,zX c,zbh c,zrR,zj6,zcd,zcP,zdm,cT,cF,jM,jO]};{simp only [zbj,cF,zik]}
def zKA:vU 462 znE:=hF2 zA3 zU zu zl zSG zRZ
def zIm (N:Nat)(b:lM)(c:lM):OA:=
 (cond (ine (ln b)<|ln c) oF<|r0 (σ:=(Int×lM×lM×Unit)) N (λd a=>cond (ilt a.1<|ln a.2.1) (oN (inb a.1<|ln a.2.1)<|oN (inb a.1<|ln a.2.2.1)<|oN (zc7 (ix a.2.1 a.1 [])<|ix a.2.2.1 a.1 [])<|cond (nB<|zjT (ix a.2.1 a.1 [])<|ix a.2.2.1 a.1 []) oF<|d (zI .i64 a.1 1,a.2.1,a.2.2.1,())) oT) (0,b,c,()))
def zV3:=zq [(295,0,{n:=27,tm:=[(0,.sl 0 []),(1,.sl 1 []),(5,ti)],lo:=[],ro:=[(0,.sl .int,false),(1,.sl .int,false)]})]
def zVt (a:List LI)(b:List LI)(d:zbE big [aS (.sl .int) a,aS (.sl .int) b])(e:zeG a b=true):∃N,zIm N a b=some [aB<|zeK a b]:=by have:=zM.1 e;subst this;have f:=len0 d;refine⟨a.length+1,?_⟩;unfold zIm oN nB;rw[zcd];refine zhQ a (Ty.dflt<|.sl .int) _ _ f (λi c rec=>?_) (λrec=>?_) (jU _);{simp only [zbo c,zX c,zbh c,zc7,zjT,zrR,zj6,zcd,zcP,zdm,cT,cF,jM,jO]};{simp only [zbj,cF,zeK]}
def zNC:vU 295 zmn:=hF2 zA3 zU zu zl zV3 zVt
def zbb5:zZ:=[(463,zmo),(462,znE),(295,zmn)]++zbb4
def zXh:zS zbb5:=zh zG7 (zh zKA<|zh zNC zA3)
def zCB (N:Nat)(a b:ah):OA:=
 (oN (zi0 a.au b.au)<|cond (zik a.au b.au) (cond (ieq a.A b.A) (cond (ieq a.Pc b.Pc) (oN (zdT a.ax b.ax)<|cond (zd7 a.ax b.ax) (oN (zdT a.av b.av)<|cond (zd7 a.av b.av) (cond (cond (ieq a.Ctl.aq b.Ctl.aq) (cond (ieq a.Ctl.Post b.Ctl.Post) (zj1 a.Ctl.Open b.Ctl.Open) false) false) (cond (ieq a.an b.an) (cond (cond (ieq a.Exit.Kind b.Exit.Kind) (cond (ieq a.Exit.af b.Exit.af) (cond (zj1 a.Exit.Write b.Exit.Write) (ieq a.Exit.N b.Exit.N) false) false) false) (cond (zj1 a.aF b.aF) (oN (zc7 a.aC b.aC)<|some [aB<|zjT a.aC b.aC]) oF) oF) oF) oF) oF) oF) oF) oF) oF)
def zOA (a b:ah)(c:zjq a b=true):∃N,zCB N a b=some [aB<|zit a b]:=by have:=zM.1 c;subst this;refine⟨0,?_⟩;simp only[zCB,zi0,zik,zdT,zd7,zc7,zjT,zrR,zj6,zcd,zcP,zdm,cT,cF,jM,jO,zit]
def zG6:vU 412 zmm:=kF2 zXh zU zu zl (zq []) zOA
def zbb6:zZ:=[(412,zmm)]++zbb5
def zXi:zS zbb6:=zh zG6 zXh
def zDP:=zq [(296,0,{n:=27,tm:=[(0,.sl 0 []),(1,.sl 1 []),(5,ti)],lo:=[],ro:=[(0,.guest,false),(1,.guest,false)]})]
def zDN (a b:List ah)(d:zbE big [aS .guest a,aS .guest b])(e:zfu a b=true):∃N,znk N a b=some [aB<|ze9 a b]:=by
 have:=zM.1 e;subst this;have f:=len0 d;refine⟨a.length+1,?_⟩;unfold znk oN nB;conv=>zeta
 rw[zcd];refine zhQ a zy _ _ f (λi c rec=>?_) (λrec=>?_) (jU _);{simp only [zbo c,zX c,zbh c,zjq,zit,zrR,zj6,zcd,zcP,zdm,cT,cF,jM,jO]};{simp only [zbj,cF,ze9]}
def zzA:vU 296 zlq:=hF2 zXi zU zu zl zDP zDN
def zbb7:zZ:=[(296,zlq)]++zbb6
def zXj:zS zbb7:=zh zzA zXi
def zEl (N:Nat)(a b:ai):OA:=
 (oN (zeG a.ag b.ag)<|cond (zeK a.ag b.ag) (oN (zfu a.ac b.ac)<|cond (ze9 a.ac b.ac) (oN (zc7 a.Outs b.Outs)<|cond (zjT a.Outs b.Outs) (some [aB<|ieq a.an b.an]) oF) oF) oF)
def zRY (a b:ai)(c:zkF a b=true):∃N,zEl N a b=some [aB<|zjE a b]:=by have:=zM.1 c;subst this;refine⟨0,?_⟩;simp only[zEl,zeG,zeK,zfu,ze9,zc7,zjT,zrR,zj6,zcd,zcP,zdm,cT,cF,jM,jO,zjE]
def zKz:vU 114 znD:=kF2 zXj zU zu zl (zq []) zRY
def zbb8:zZ:=[(114,znD)]++zbb7
def zXk:zS zbb8:=zh zKz zXj
def zMj (N:Nat)(b:ad)(c:Int):OA:=
 (oN (zFW b c)<|cond (nB<|ztJ b c) (some [aT .bare (⟨[],[],[],0⟩:ai)])<|r0 (σ:=(Int×Int×Int×Int×lM×lN×lE×lE×lM×lG×LI×lM×lG×LI×Unit)) N (λh a=>let b:=a.2.2.2.2.2;let c:=b.2.2.2.2;let g:=c.2.2.2.1;let f:=c.2.2.2.2.1;let d:=(⟨a.2.2.2.2.1,b.1,b.2.1,b.2.2.1⟩:ad);let e:=ap c.2.2.1 [zpj d a.1 a.2.1]; (cond (ilt a.2.1 8) (oN (zq3 d a.1 a.2.1)<|oN (few<|ln e)<|h (a.1,zI .i64 a.2.1 1,a.2.2.1,a.2.2.2.1,a.2.2.2.2.1,b.1,b.2.1,b.2.2.1,b.2.2.2.1,c.1,c.2.1,e,g,f,()))<|some [aT .bare (⟨c.2.2.1,g,f,a.2.2.2.1⟩:ai)])) (c,0,0,(zf9 b c).an,b.ag,b.aa,b.ao,b.ak,[],[],[],[],(zf9 b c).ac,(zf9 b c).Outs,()))
def z0i:=zq [(55,0,{n:=39,tm:=[(1,ti),(2,.lp 0 0),(4,.lp 1 0),(7,.lp 2 0),(8,ti)],lo:=[(0,[.sl 0 [],.sl 1 [],.sl 2 [],.sl 3 []]),(1,[.sl 4 [],.sl 5 [],.sl 6 [],ti]),(2,[.sl 7 [],.sl 8 [],.sl 9 [],ti])],ro:=[(0,.sl .int,false),(1,.mon,false),(2,.entry,false),(3,.entry,false),(4,.sl .int,true),(5,.guest,true),(6,.int,true),(7,.sl .int,true),(8,.guest,true),(9,.int,true)]})]
def zYx (a:ad)(b:Int)(f:zfG a b=true):∃N,zMj N a b=some [aT .bare<|zh1 a b]:=by
 have e:=zM.1 f;refine zb2 λN d=>?_;unfold zMj zh1 zD oN nB;conv=>zeta
 refine i0 (zbr e) ?_;rw[show ztJ a b=j0 b (ln a.aa) from rfl];cases g:j0 b (ln a.aa);{rfl};{refine zcB rfl ?_;refine(zv1 8 (λi (t:lM)=>(b,(i:Int),0,(zf9 a b).an,a.ag,a.aa,a.ao,a.ak,[],[],[],t,(zf9 a b).ac,(zf9 a b).Outs,())) _ (λi (c:List LI) j=>bif few (ln<|ap c [zcM a b (i:Int)]) then j (ap c [zcM a b (i:Int)]) else none) (λ(t:lM)=>some [.agg<|Ty.cells .bare (⟨t,(zf9 a b).ac,(zf9 a b).Outs,(zf9 a b).an⟩:ai)]) (λi h t rec=>?_) (λt rec=>?_) _ ([])<|d (by decide)).trans ?_;{simp only [show ilt (i:Int) 8=true from qH (by omega),zY h (show 8<=big by decide),cT];exact i0 (zbr e) rfl};{simp only [show ilt ((8:Nat):Int) 8=false from qI (by omega),cF]};rw[zEX a b _ 8 0 [] (by decide)];simp only[zf9,g,cT,jW]}
def zQ3:vU 55 zqn:=kF2 zXk zU zu zl z0i zYx
def zbb9:zZ:=[(55,zqn)]++zbb8
def zXl:zS zbb9:=zh zQ3 zXk
def zXE {d:Type}(h:ad)(K:List ai->Option d):∀(l:List Mon) (i:Nat) (a:List ai),a.length+l.length<=2147483648->
 goL (λi (_:Mon) a c=>bif few (ln<|ap a [zD h (i:Int)]) then c (ap a [zD h (i:Int)]) else none) K l i a=K (a++(List.range' i l.length).map λ(i:Nat)=>zD h (i:Int))
 |[],_,a,_=>by simp[goL]
 |x::l,i,a,b=>by simp only[qU]at b;simp only[goL];rw[zgv (by simp[ap];omega),cT,zXE h K l (i+1) _ (by simp[ap];omega)];simp[ap,uL]
@[simp] abbrev zl5 (h:ad):List ai:=zcp h
def zqs:Run:=rF1 dH λb=>(zbn b,[aS .bare<|zl5 b])
def zCq (N:Nat)(b:ad):OA:=
 (r0 (σ:=(Int×lR×lM×lN×lE×lE×Unit)) N (λe a=>let b:=a.2.2.2.2;let c:=(⟨a.2.2.1,a.2.2.2.1,b.1,b.2.1⟩:ad);let d:=ap a.2.1 [zh1 c a.1]; (cond (ilt a.1<|ln a.2.2.2.1) (oN (zfG c a.1)<|oN (few<|ln d)<|e (zI .i64 a.1 1,d,a.2.2.1,a.2.2.2.1,b.1,b.2.1,()))<|some [aS .bare a.2.1])) (0,[],b.ag,b.aa,b.ao,b.ak,()))
def zPM:=zq [(11,0,{n:=20,tm:=[(1,.lp 0 0),(3,.sl 0 []),(4,ti)],lo:=[(0,[.sl 1 [],.sl 2 [],.sl 3 [],.sl 4 []])],ro:=[(0,.bare,true),(1,.sl .int,false),(2,.mon,false),(3,.entry,false),(4,.entry,false)]})]
def zOq (a:ad)(f:zbn a=true):∃N,zCq N a=some [aS .bare<|zl5 a]:=by
 have d:=zM.1 f;have e:a.aa.length<=big:=(zcc ((zT a).1 d).2.1.1).1;refine zb2 λN c=>?_;unfold zCq oN;conv=>zeta
 refine(zbl a.aa (λi (t:lR)=>((i:Int),t,a.ag,a.aa,a.ao,a.ak,())) _ (λi (x:Mon) (t:List ai) g=>bif few (ln<|ap t [zD a (i:Int)]) then g (ap t [zD a (i:Int)]) else none) (λ(t:lR)=>some [.one<|.s .bare t]) (λi b t rec=>?_) (λt rec=>?_) _ ([])<|c e).trans ?_;{simp only [zbo b,zX b,zbh b,zY b e,cT];exact i0 (zbr d) rfl};{simp only [zbj,cF]};rw[zXE a _ _ 0 [] (by simpa using (zcc ((zT a).1 d).2.1.1).2)];simp[zcp,uM]
def zuy:vU 11 zqs:=kF1 zXl zU zu zl zPM zOq
def zbfz:zZ:=[(11,zqs)]++zbb9
def z9E:zS zbfz:=zh zuy zXl
def z2B {a c:Type}(K:Unit->Option c):∀(l:List a) (i:Nat),goL (λ_ _ (_:Unit) b=>b ()) K l i ()=K ()
 |[],_=>rfl
 |_::l,i=>z2B K l (i+1)
@[simp] abbrev zwz (h:ad)(l:List ai):Bool:=pc (zdx h/\l=zcp h)
@[simp] abbrev zBP (_:ad)(_:List ai):Bool:=true
def zAg:Run:=rF2 dH (dS .bare) λb c=>(zwz b c,[aB<|zBP b c])
def zEi (N:Nat)(b:ad)(d:lR):OA:=
 (cond (ine (ln d)<|ln b.aa) oF<|r0 (σ:=(Int×lR×lM×lN×lE×lE×Unit)) N (λf a=>let b:=a.2.2.2.2;let e:=ix a.2.1 a.1 zd6;let c:=(⟨a.2.2.1,a.2.2.2.1,b.1,b.2.1⟩:ad); (cond (ilt a.1<|ln a.2.1) (oN (zfG c a.1)<|oN (inb a.1<|ln a.2.1)<|oN (zkF (zh1 c a.1) e)<|cond (nB<|zjE (zh1 c a.1) e) oF<|f (zI .i64 a.1 1,a.2.1,a.2.2.1,a.2.2.2.1,b.1,b.2.1,())) oT)) (0,d,b.ag,b.aa,b.ao,b.ak,()))
def zSE:=zq [(23,0,{n:=27,tm:=[(1,.sl 0 []),(2,.lp 0 0),(5,ti)],lo:=[(0,[.sl 1 [],.sl 2 [],.sl 3 [],.sl 4 []])],ro:=[(0,.bare,false),(1,.sl .int,false),(2,.mon,false),(3,.entry,false),(4,.entry,false)]})]
def zRV (a:ad)(c:List ai)(k:zwz a c=true):∃N,zEi N a c=some [aB<|zBP a c]:=by
 obtain⟨j,g⟩:=zM.1 k;have h:c.length<=big:=(by rw[g,zhh];exact(zcc ((zT a).1 j).2.1.1).1);refine zb2 λN f=>?_;unfold zEi oN nB;conv=>zeta
 rw[show ine (ln c) (ln a.aa)=false by unfold ln;rw[g,zhh];exact zcd _];refine zcB rfl ?_;refine(zbl c (λi (t:Unit)=>((i:Int),c,a.ag,a.aa,a.ao,a.ak,())) _ (λi (x:ai) (_:Unit) l=>l ()) (λ(t:Unit)=>some [.one<|.b true]) (λi d t rec=>?_) (λt rec=>?_) _ ()<|f h).trans ?_;{simp only [zbo d,zX d,zbh d,zY d h,cT];have e:zh1 a (i:Int)=c[i]:=(by simp[g,zcp]);refine i0 (zbr j) ?_;rw[e];exact i0 (zbg rfl) rfl};{simp only [zbj,cF]};rw[z2B]
def zKv:vU 23 zAg:=kF2 z9E zU zu zl zSE zRV
structure Clear (h:ad) (m p:Int):Prop where
 d:ix (ix h.aa m mZ).aw p false=false
 s:(ix (ix h.aa m mZ).ae p sZ).af≠-1->(ix (ix h.aa m mZ).ae p sZ).aj=1/\(∀e∈h.ao,e.ad≠(ix (ix h.aa m mZ).ae p sZ).af)/\(∀e∈h.ak,e.ad≠(ix (ix h.aa m mZ).ae p sZ).af)/\
  ∀g i,j0 g (ln (ix h.aa m mZ).ac)=true->j0 i (ln (ix (ix h.aa m mZ).ac g gZ).av)=true->(ix (ix (ix h.aa m mZ).ac g gZ).av i sZ).af=p->ix (ix (ix h.aa m mZ).am g kZ).ay i false=false
def zZV:∀(n g:Nat) (c:Int) {h:ad} (S:Safe h) (m:Int),SimT h (zcz m n g (c,h)).2 m (λb=>(rb n g b c).1)/\(zcz m n g (c,h)).1=(rb n g (zD h m) c).2
 | 0,g,c,h,S,m=>⟨SimT.refl S m,rfl⟩
 |n+1,g,c,h,S,m=>by obtain⟨a,d⟩:=step_ok S m (g:Int);obtain⟨i,e⟩:=zZV n (g+1) (cond ((zbz h m (g:Int)).2) (zI .i64 c 1) c) a.safe m;have f:zD (zbz h m (g:Int)).1 m=zdj (zD h m) (g:Int):=(by rw[a.seen m,zbA.2 rfl];rfl);refine⟨?_,?_⟩;{refine(a.trans i).congr ?_;show (rb n (g+1) (zdj (zD h m) g)<|cond ((zbz h m (g:Int)).2) (zI .i64 c 1) c).1=(rb (n+1) g (zD h m) c).1;rw[d];rfl};{show (zcz m n (g+1) (cond ((zbz h m (g:Int)).2) (zI .i64 c 1) c,(zbz h m (g:Int)).1)).1=_;rw[e,f,d];rfl}
def zdE (h:ad):Nat->Nat->List ai
 | 0,_=>[]
 |n+1,m=>zD h (m:Int)::zdE h n (m+1)
def zJe {h r:ad}:∀{n m:Nat},(∀i:Nat,m<=i->zD r (i:Int)=zD h (i:Int))->zdE r n m=zdE h n m
 | 0,_,_=>rfl
 |n+1,m,e=>by show zD r _::_=zD h _::_;rw[e m<|qW m,zJe λi a=>e i (by omega)]
def zpR (h:ad):zcp h=zdE h h.aa.length 0:=by have:∀n m:Nat,((List.range' m n).map λ(i:Nat)=>zD h (i:Int))=zdE h n m:=(by intro n;induction n with|zero=>intro m;rfl|succ n a=>intro m;rw[uL,jA,a];rfl);unfold zcp;rw[uM];exact this _ 0
def zTF:∀(n m:Nat) (c:Int) {h:ad} (S:Safe h),
 Safe (zep ((zdE h n m).map λb=>b.ac.length) m (c,h)).2/\(zep ((zdE h n m).map λb=>b.ac.length) m (c,h)).2.aa.length=h.aa.length/\
 (∀i:Nat,i<m->zD (zep ((zdE h n m).map λb=>b.ac.length) m (c,h)).2 (i:Int)=zD h (i:Int))/\
 (zdE (zep ((zdE h n m).map λb=>b.ac.length) m (c,h)).2 n m,(zep ((zdE h n m).map λb=>b.ac.length) m (c,h)).1)=rnd (zdE h n m) c
 | 0,m,c,h,S=>⟨S,rfl,λ_ _=>rfl,rfl⟩
 |n+1,m,c,h,S=>by
  show Safe (zep ((zdE h n<|m+1).map λb=>b.ac.length) (m+1)<|zcz (m:Int) (zD h (m:Int)).ac.length 0 (c,h)).2/\_;obtain⟨f,p⟩:=zZV (zD h (m:Int)).ac.length 0 c S (m:Int);have a:∀i:Nat,i≠m->zD (zcz (m:Int) (zD h (m:Int)).ac.length 0 (c,h)).2 (i:Int)=zD h (i:Int):=λi g=>(by rw[f.seen (i:Int),zb4.2 (by omega)];rfl);have r:zD (zcz (m:Int) (zD h (m:Int)).ac.length 0 (c,h)).2 (m:Int)=(rb (zD h (m:Int)).ac.length 0 (zD h (m:Int)) c).1:=(by rw[f.seen (m:Int),zbA.2 rfl];rfl);have q:zdE (zcz (m:Int) (zD h (m:Int)).ac.length 0 (c,h)).2 n (m+1)=zdE h n (m+1):=zJe λi g=>a i (by omega);have k:=zTF n (m+1) (zcz (m:Int) (zD h (m:Int)).ac.length 0 (c,h)).1 f.safe;rw[q] at k;obtain⟨s,t,j,l⟩:=k
  show Safe (zep ((zdE h n<|m+1).map λb=>b.ac.length) (m+1) ((zcz (m:Int) (zD h (m:Int)).ac.length 0 (c,h)).1,(zcz (m:Int) (zD h (m:Int)).ac.length 0 (c,h)).2)).2/\(zep ((zdE h n<|m+1).map λb=>b.ac.length) (m+1) ((zcz (m:Int) (zD h (m:Int)).ac.length 0 (c,h)).1,(zcz (m:Int) (zD h (m:Int)).ac.length 0 (c,h)).2)).2.aa.length=h.aa.length/\
   (∀i:Nat,i<m->zD (zep ((zdE h n<|m+1).map λb=>b.ac.length) (m+1) ((zcz (m:Int) (zD h (m:Int)).ac.length 0 (c,h)).1,(zcz (m:Int) (zD h (m:Int)).ac.length 0 (c,h)).2)).2 (i:Int)=zD h (i:Int))/\
   (zD (zep ((zdE h n<|m+1).map λb=>b.ac.length) (m+1) ((zcz (m:Int) (zD h (m:Int)).ac.length 0 (c,h)).1,(zcz (m:Int) (zD h (m:Int)).ac.length 0 (c,h)).2)).2 (m:Int)::zdE (zep ((zdE h n<|m+1).map λb=>b.ac.length) (m+1) ((zcz (m:Int) (zD h (m:Int)).ac.length 0 (c,h)).1,(zcz (m:Int) (zD h (m:Int)).ac.length 0 (c,h)).2)).2 n (m+1),
    (zep ((zdE h n<|m+1).map λb=>b.ac.length) (m+1) ((zcz (m:Int) (zD h (m:Int)).ac.length 0 (c,h)).1,(zcz (m:Int) (zD h (m:Int)).ac.length 0 (c,h)).2)).1)=_
  refine⟨s,t.trans f.len,λi g=>(j i (by omega)).trans (a i (by omega)),?_⟩;have d:=congrArg Prod.fst l;have e:=congrArg Prod.snd l;dsimp only at d e;rw[d,e,j m (by omega),r,p];rfl
def z88 (h:ad):cnt h.aa=(zdE h h.aa.length 0).map λb=>b.ac.length:=by rw[<- zpR];unfold cnt zcp;refine vS (by simp) λi a e=>?_;have d:i<h.aa.length:=(by simpa using a);have c:j0 (i:Int) (ln h.aa)=true:=zK.2 ⟨by omega,by unfold ln;omega⟩;simp only[List.getElem_map,List.getElem_range];unfold zD;rw[c,cond_true];show _=(ix h.aa (i:Int) mZ).ac.length;rw[zlG d]
def zbau {h:ad}(S:Safe h):Safe (zci h).2/\(zci h).2.aa.length=h.aa.length/\zcp (zci h).2=(rnd (zcp h) 0).1/\(zci h).1=(rnd (zcp h) 0).2:=by unfold zci;rw[z88];obtain⟨c,a,_,b⟩:=zTF h.aa.length 0 0 S;refine⟨c,a,?_,?_⟩;{rw [zpR,a,zpR];exact congrArg Prod.fst b};{rw [zpR];exact congrArg Prod.snd b}
def zMP:∀(n:Nat) (c:Int) {h:ad} (S:Safe h),Safe (zfr n (c,h)).2/\(zfr n (c,h)).2.aa.length=h.aa.length/\zcp (zfr n (c,h)).2=(zFA n (zcp h) c).1/\(zfr n (c,h)).1=(zFA n (zcp h) c).2
 | 0,c,h,S=>⟨S,rfl,rfl,rfl⟩
 |n+1,c,h,S=>by obtain⟨d,e,a,b⟩:=zbau S;obtain⟨f,g,i,j⟩:=zMP n (zI .i64 c (zci h).1) d;show Safe (zfr n (zI .i64 c (zci h).1,(zci h).2)).2/\(zfr n (zI .i64 c (zci h).1,(zci h).2)).2.aa.length=_/\zcp (zfr n (zI .i64 c (zci h).1,(zci h).2)).2=_/\(zfr n (zI .i64 c (zci h).1,(zci h).2)).1=_;refine⟨f,g.trans e,?_,?_⟩;{rw [i,a,b];rfl};{rw [j,a,b];rfl}
def zUn {x:ah}:zL x=0↔canRun x=false:=by unfold zL;cases canRun x with|false=>simp|true=>rw[cond_true];(cases zjd x with|true=>simp|false=>rw[cond_false];unfold zv8;cases ieq (zcg x.au x.Pc).Op 3<;>cases ieq (zcg x.au x.Pc).Op 4<;>cases ieq (zcg x.au x.Pc).Op 5<;>cases ieq (zcg x.au x.Pc).Op 6<;>cases ieq (zcg x.au x.Pc).Op 7<;>simp)
def zZT {h:ad}{m g:Int}(e:(zbz h m g).2=false):(zbz h m g).1=h:=by unfold zbz at e ⊢;cases f:zbW h m g with|false=>rfl|true=>rw[f,cond_true] at e;rw[cond_true];unfold zAt at e ⊢;(cases d:ieq (zL<|gOf h m g) 0 with|true=>rfl|false=>rw[d,cond_false] at e;(cases a:ieq (zL<|gOf h m g) 1 with|true=>rw[a] at e;cases e|false=>rw[a,cond_false] at e;(cases b:ieq (zL<|gOf h m g) 2 with|true=>rw[b] at e;cases e|false=>rw[b,cond_false] at e;(cases c:(cond (ieq (zL<|gOf h m g) 3) true<|ieq (zL<|gOf h m g) 4) with|true=>rw[c] at e;cases e|false=>rw[c] at e;cases e))))
def zZR {h:ad}(H:HOk h){m g:Int}(c:j0 m (ln h.aa)=true)(hg:j0 g (ln (ix h.aa m mZ).ac)=true):(zbz h m g).2=canRun (gOf h m g):=by have b:zbW h m g=true:=zh0.2 ⟨H,c,hg⟩;unfold zbz;rw[b,cond_true];unfold zAt;cases a:canRun (gOf h m g) with|false=>have:ieq (zL<|gOf h m g) 0=true:=zbA.2 (zUn.2 a);rw[this];rfl|true=>have:ieq (zL<|gOf h m g) 0=false:=zb4.2 λe=>(by rw[zUn.1 e]at a;cases a);rw[this,cond_false];(cases ieq (zL<|gOf h m g) 1 with|true=>rfl|false=>(cases ieq (zL<|gOf h m g) 2 with|true=>rfl|false=>cases (cond (ieq (zL<|gOf h m g) 3) true<|ieq (zL<|gOf h m g) 4)<;>rfl))
def z5R {t:Int×ad}(m g:Int)(a:0<=t.1)(b:t.1<=1000000):(tick t m g=t/\(zbz t.2 m g).2=false)\/(tick t m g).1=t.1+1:=by unfold tick;cases e:(zbz t.2 m g).2 with|false=>refine .inl ⟨?_,rfl⟩;rw[cond_false,zZT e]|true=>right;rw[cond_true];show zI .i64 t.1 1=_;unfold zI IntKind.wrap;simp[IntKind.bits,IntKind.signed];omega
def zyZ (m:Int):∀(n g:Nat) (t:Int×ad),0<=t.1->t.1+n<=1000000->(zcz m n g t=t/\∀j:Nat,g<=j->j<g+n->(zbz t.2 m (j:Int)).2=false)\/(t.1<(zcz m n g t).1/\(zcz m n g t).1<=t.1+n)
 | 0,g,t,d,h=>.inl ⟨rfl,λj a b=>absurd b (by omega)⟩
 |n+1,g,t,d,h=>by show (zcz m n (g+1) (tick t m (g:Int))=t/\_)\/(t.1<(zcz m n (g+1)<|tick t m (g:Int)).1/\(zcz m n (g+1)<|tick t m (g:Int)).1<=_);rcases z5R (t:=t) m (g:Int) d (by omega) with⟨e,i⟩|e;{rw [e];rcases zyZ m n (g+1) t d (by omega) with⟨c,f⟩|⟨a,b⟩;{refine .inl ⟨c,λj l p=>?_⟩;by_cases k:j=g;{rw [k];exact i};{exact f j (by omega) (by omega)}};{exact .inr ⟨a,by omega⟩}};{right;rcases zyZ m n (g+1) (tick t m (g:Int)) (by omega) (by omega) with⟨c,_⟩|⟨a,b⟩;{rw [c];omega};{omega}}
def zA8:∀(l:List Nat) (m:Nat) (t:Int×ad),0<=t.1->t.1+l.sum<=1000000->(zep l m t=t/\∀i:Nat,(d:i<l.length)->∀j:Nat,j<l[i]->(zbz t.2 ((m+i:Nat):Int) (j:Int)).2=false)\/(t.1<(zep l m t).1/\(zep l m t).1<=t.1+l.sum)
 |[],m,t,_,_=>.inl ⟨rfl,λi d=>absurd d (by simp)⟩
 |c::l,m,t,h,n=>by rw[uA]at n;show (zep l (m+1) (zcz (m:Int) c 0 t)=t/\_)\/(t.1<(zep l (m+1)<|zcz (m:Int) c 0 t).1/\(zep l (m+1)<|zcz (m:Int) c 0 t).1<=_);rw[uA];rcases zyZ (m:Int) c 0 t h (by omega) with⟨e,p⟩|⟨a,b⟩;{rw [e];rcases zA8 l (m+1) t h (by omega) with⟨f,g⟩|⟨a,b⟩;{refine .inl ⟨f,λi d j k=>?_⟩;cases i with|zero=>exact p j (jN _) (by simpa using k)|succ i=>have:=g i (by simpa using d) j (by simpa using k);rw[show m+1+i=m+(i+1) by omega] at this;exact this};{exact .inr ⟨a,by omega⟩}};{right;rcases zA8 l (m+1) (zcz (m:Int) c 0 t) (by omega) (by omega) with⟨f,_⟩|⟨q,r⟩;{rw [f];omega};{omega}}
def zbc8 {h:ad}(H:HOk h):(cnt h.aa).sum<=6:=by have a:∀l:List Mon,(∀x∈l,MOk x)->(cnt l).sum<=2*l.length:=(by intro l;induction l with|nil=>intro _;exact qW _|cons x l d=>intro b;have e:=(b x jB).g2;have f:=d λy c=>b y (qY _ c);show x.ac.length+(cnt l).sum<=_;simp only[qU];omega);have:=a _ H.mons;have:=H.n3;omega
def z1t {h:ad}(H:HOk h):(zci h).1=0↔(h.aa.any λm=>m.ac.any canRun)=false:=by have K:=zbc8 H;have k:=zA8 (cnt h.aa) 0 (0,h) (kF 0) (by show (0:Int)+((cnt h.aa).sum:Nat)<=1000000;omega);have B:(cnt h.aa).length=h.aa.length:=(by unfold cnt;simp);have q:∀(i:Nat) (j:i<(cnt h.aa).length),(cnt h.aa)[i]=(ix h.aa (i:Int) mZ).ac.length:=λi j=>(by rw[zlG (by omega)];exact List.getElem_map _);constructor;{intro z;rcases k with⟨_,E⟩|⟨a,_⟩;{rw [<- vT,kY];rintro⟨x,I,p⟩;rw[kY]at p;obtain⟨y,J,p⟩:=p;obtain⟨m,b,e⟩:=ztC I mZ;subst e;obtain⟨g,hg,e⟩:=ztC J gZ;subst e;have t:=zK.1 b;have s:=zK.1 hg;unfold ln at t s;have j:m.toNat<(cnt h.aa).length:=(by omega);have:=E m.toNat j g.toNat (by rw[q _ j,show ((m.toNat:Nat):Int)=m by omega];omega);rw[show ((0+m.toNat:Nat):Int)=m by omega,show ((g.toNat:Nat):Int)=g by omega] at this;have f:=zZR H b hg;have D:(zbz h m g).2=false:=this;rw[D] at f;unfold gOf at f;rw[p] at f;cases f};{unfold zci at z;rw[z] at a;exact absurd a (Int.lt_irrefl 0)}};{intro F;rcases k with⟨e,_⟩|⟨a,_⟩;{unfold zci;rw[e]};{exfalso;have C:∀m g,(zbz h m g).2=false:=(by intro m g;cases A:zbW h m g with|false=>unfold zbz;rw[A];rfl|true=>obtain⟨_,b,hg⟩:=zh0.1 A;rw[zZR H b hg];have u:=kK.1 F _ (zlk b mZ);have d:=kK.1 (by simpa using u) _ (zlk hg gZ);unfold gOf;simpa using d);have G:∀(c:Int) (m g:Int),tick (c,h) m g=(c,h):=λc m g=>(by unfold tick;rw[show (zbz (c,h).2 m g).2=false from C m g,cond_false,zZT<|C m g]);have v:∀(n g:Nat) (c m:Int),zcz m n g (c,h)=(c,h):=(by intro n;induction n with|zero=>intro g c m;rfl|succ n w=>intro g c m;show zcz m n (g+1) (tick (c,h) m (g:Int))=_;rw[G,w]);have r:∀(l:List Nat) (m:Nat) (c:Int),zep l m (c,h)=(c,h):=(by intro l;induction l with|nil=>intro m c;rfl|cons x l w=>intro m c;show zep l (m+1) (zcz (m:Int) x 0 (c,h))=_;rw[v,w]);rw[r] at a;exact absurd a (Int.lt_irrefl 0)}}
def zYL {d b:Type}{f:d->b}{l:List d}{x:b}{c:List b}(h:l.map f=x::c):∃a r,l=a::r/\f a=x/\r.map f=c:=by cases l with|nil=>cases h|cons a r=>simp only[jA,List.cons.injEq]at h;exact⟨a,r,rfl,h.1,h.2⟩
def zbfg {a:AV}{b:CTy}(h:some a.sh=some (false,[b])):∃c,a = .one c/\c.ty=b:=by cases a with|one c=>simp only[AV.sh,qC,jT,List.cons.injEq,and_true,true_and]at h;exact⟨c,rfl,h⟩|agg l=>simp[AV.sh]at h
def sh_s {a:AV}{t:Ty}(h:some a.sh=some (false,[.s t])):∃l:List t.den,a = .one (.s t l):=by obtain⟨c,rfl,b⟩:=zbfg h;obtain⟨l,rfl⟩:=znp b;exact⟨l,rfl⟩
section
open Go Go.ChangeShapes Go.WideShapes Go.ChangeAt
abbrev zRt (_:LI):Bool:=true
abbrev zN7 (l:LI):Bool:=igt (ln l) 1048576
def zUa:Run:=rF1 (dS .u8) λb=>(zRt b,[aB<|zN7 b])
def z2e (N:Nat)(a:LI):OA:=
 (some [aB<|igt (ln a) 1048576])
def z7v (a:LI)(b:zRt a=true):∃N,z2e N a=some [aB<|zN7 a]:=by refine⟨0,?_⟩;unfold z2e;first|rfl|(simp only [*,zN7,cT,cF]<;>rfl)|simp_all[Ty.cells,zN7]
def z0Y:vU 9 zUa:=kF1 zAZ zU zu zl (zq []) z7v
def zbbB:zZ:=[(9,zUa),(11,zqs),(12,zwl),(13,zoI),(14,zC0),(15,zrG),(16,zhU),(17,zhU),(18,zuH),(19,zoI),(20,zrF),(21,zhT),(22,zhT),(23,zAg),(24,zz7),(25,zqp),(26,zIX),(27,zI2),(28,zmU)]++zbbF
def z9y:zS zbbB:=zh z0Y (zh zuy<|zh zE7<|zh zM8<|zh zM7<|zh zzt<|zh zuw<|zh zuB<|zh zDA<|zh zNn<|zh zzs<|zh zuv<|zh zuA<|zh zKv<|zh zKh<|zh zux<|zh zUB<|zh zUO<|zh zzu zAZ)
def z8x {h:ad}(b:SmH h):zpP (zcp h):=by refine⟨by rw[zhh];exact b.2.1.1,λx c=>?_⟩;obtain⟨i,a,rfl⟩:=ztC c zd6;rw[zlV]at a;rw[zlb a];exact zB2 b a
def nB_f {b:Bool}(h:(cond b false true)=false):b=true:=by cases b;cases h;rfl
def zbar {a:ad}(h:zcr a=true):zj1 (ieq (zci a).1 0) (quiet a)=true:=by have q:=z1t (zkA.1 h);unfold quiet;cases e:(a.aa.any λm=>m.ac.any canRun) with|false=>rw[q.2 e];rfl|true=>rw[zb4.2 (λk=>by rw[q.1 k] at e;cases e)];rfl
def zuK (N:Nat)(b:LI):OA:=
 let g:=zjM b;let f:=zjP b;let e:=zjO b;let c:=zqV b;let a:=zjN b;let d:=zn9 (ix (zi6 b) 0 0) 4; (oN (zRt b)<|cond (zN7 b) oT<|oN (zkS b)<|oN (zbn c)<|oN (ziO b)<|oN (inb 0<|ln<|zi6 b)<|oN (ine 4 0)<|oN (zlZ c d)<|oN (inb 0<|ln<|zi6 b)<|oN (ine 4 0)<|oN (zyw (zl5 c) d)<|oN (zgO b)<|oN (zbn a)<|oN (zbn a)<|oN (zhX b)<|oN (zlZ e f)<|oN (zlZ e f)<|oN (zgN b)<|oN (zem g)<|oN (zem g)<|cond (ieq (zlY c d)<|zyv (zl5 c) d) (oN (zwz (zhk c d)<|zsB (zl5 c) d)<|cond (zBP (zhk c d)<|zsB (zl5 c) d) (cond (ieq (zgT a)<|zgT a) (oN (zqb (zdk a)<|zdk a)<|cond (zqa (zdk a)<|zdk a) (cond (ieq (zlY e f)<|zlY e f) (oN (zqb (zhk e f)<|zhk e f)<|cond (zqa (zhk e f)<|zhk e f) (cond (ieq (zjm g)<|zjm g) (oN (zt5 (zgR g)<|zgR g)<|cond (zsD (zgR g)<|zgR g) (oN (zg9 a)<|oN (zx1 a)<|cond (zj1 (znu a)<|znu a) (oN (zeC a)<|cond (nB<|zeB a) oT<|oN (zx1 a)<|some [aB<|zj1 (ieq (zgT a) 0)<|znu a]) oF) oF) oF) oF) oF) oF) oF) oF) oF)
def z1q (N:Nat)(a:LI):evalFn (cQ zbbB z99 zLd zZZ) (zq []) N 12 3 [aS .u8 a]=zuK N a:=by kernel_rfl
def zUs (N:Nat)(e:LI)(c:e.length<=big):Ends (λa=>a=[.one<|.b true]) (zuK N e):=by
 unfold zuK oN nB;conv=>zeta
 obtain⟨S,f⟩:=zYI (zFU<|zMN c).2;obtain⟨i,j⟩:=(zAn<|zZe c).2;have A:=(zuJ<|zw9 c).2.sm;have B:=(zxO<|zCG c).2.sm;have C:=(zuI<|zw8 c).2;refine zB rfl (zby (λ_=>zto rfl) λ_=>zB (zMN c) ?_);generalize zqV e=h at S f;have n:zdx h:=(zT h).2 f;refine zB (zbg n) (zB (zZe c) ?_);generalize zi6 e=p at i j;have t:ln p=12:=(by unfold ln;omega);have l:inb 0 (ln p)=true:=zF (zK.2 (by omega))
 generalize zn9 (ix p 0 0) 4=r;obtain⟨x,y,u,v⟩:=zMP (brought r 0 40).toNat 0 S;have k:=(zZE (brought r 0 40).toNat (0,h) f).sm;refine zB l (zB rfl (zB (zbg n)<|zB l (zB rfl (zB (zbg<|z8x f)<|zB (zw9 c) ?_))));generalize zjN e=a at A;have g:=(zT _).2 A;refine zB (zbg g) (zB (zbg g)<|zB (zCG c) ?_);generalize zjO e=d at B;generalize zjP e=q;have m:=(zT _).2 B;refine zB (zbg m) (zB (zbg m)<|zB (zw8 c) ?_);generalize zjM e=s at C;refine zB (zbg C) (zB (zbg C)<|zB (by show ieq (zfr (brought r 0 40).toNat (0,h)).1 _=true;rw[v];exact zcP _)<|zB (zbg ⟨(zT _).2 k,u.symm⟩) (zB rfl (zB (zcP _)<|zB (zbg rfl) (zB rfl (zB (zcP _)<|zB (zbg rfl) (zB rfl (zB (zcP _)<|zB (zbg rfl) (zB rfl
  (zB (zbg g) (zB rfl (zB (zdm _) (zB rfl (zby (λ_=>zto rfl) λw=>zB rfl (zto<|congrArg (λb=>[AV.one<|.b b])<|zbar<|nB_f w))))))))))))))
def zWL (d:LI)(h:∀c∈zJ [aS .u8 d],CVOk c):∃N,zuK N d=some [.one<|.b true]:=by have e:zbE big [aS .u8 d]:=λc f=>CVB.of_ok (h c f);have g:=len0 e;exact⟨5,zbdz (G:=λa=>a=[.one<|.b true])<|zUs 5 d g⟩
def zSp:Tryz.f3.params.toList.map (zcV Tryz.prog 4)=[some (false,[.s .u8])]:=by kernel_rfl
def zJw:z19 3 Tryz.f3.params.toList:=by refine z0E z9y zU zu zl (zkp (by kernel_rfl)) ?_;intro c hg;obtain⟨a,e⟩:=hg;rw[zSp]at a;obtain⟨h,g,rfl,d,a⟩:=zYL a;cases List.map_eq_nil_iff.1 a;obtain⟨b,rfl⟩:=sh_s d;obtain⟨N,f⟩:=zWL b e;exact⟨zq [],N,12,(z1q N b).trans f⟩
def zVT (H:Type)(a:List (DataW H))(h:a.length=Tryz.f3.params.toList.length):Rows.fnFairSpec.fn H a={results:=[.lit<|.bool true],args:=a}:=by
 have b:a.length=1:=h.trans (by kernel_rfl)
 match a,b with
 |[d],_=>rfl
set_option maxRecDepth 100000 in
def zOE (g:Os)(a:g.Started)(H:Type)(enc:TypeId×Value->H) :
 ReturnsInHanded {} Tryz.checked g 3 .any (Rows.fnFairSpec.pre6 enc Tryz.prog Tryz.f3 Rows.fnFairRow.domain false) (Rows.fnFairSpec.post enc Tryz.prog Tryz.f3 false true false false):=by
 refine returnsInHanded_of_change_shaped (C:=Tryz.checked) own a (by kernel_rfl) Tryz.func3
  (ChangeSpec.witness6 (enc:=enc) (C:=Tryz.checked) false ⟨#[],#[.slice none 0 0],[]⟩ 8 (by kernel_rfl) (by kernel_rfl) (by kernel_rfl) (by kernel_rfl)) ?_
 intro W d c h i b e j _ f _ _;exact zN8 (P:=Tryz.prog) z8Z z9X rfl zVT (by kernel_rfl) (B:=4) (by kernel_rfl) (by kernel_rfl) zJw W d c h i b e j f
end
end
end Go.Proofs.YtapgkefgcbapcaaGreat.E
