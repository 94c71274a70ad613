/- What is proved here: a part of the proof of the claim. -/
import Derived.Test.YtapgkefgcbapcaaGreatU2
import Derived.Orders
import Derived.HandedShaped
import Derived.ProofKit
import Derived.KernelRfl
namespace Go.Proofs.YtapgkefgcbapcaaGreat.E
open Go
set_option linter.defProp false
set_option linter.constructorNameAsVariable false
set_option linter.unusedVariables false
set_option maxRecDepth 100000
set_option linter.unusedSimpArgs false
set_option linter.unusedSectionVars false
noncomputable section
def zMd (P:Program)(f:FuncId)(own:List Bool)(h:Option (Nat×Nat×List (List Nat)))(r:List (Nat×Nat))(n:LW):Prop :=
 FnOk P f/\∀(w:World) (K:Nat->zV) (a:LA) (e:List Value) (d:LA),
  e.length=(zy a).length->own.length=(zy a).length->
  (∀(j:Nat) (c:CV) (u:Value),(zy a)[j]?=some c->e[j]?=some u->Rep ((own[j]?).getD false) w u c (K j))->
  (∀j x,j<(zy a).length->K j x->x<w.heap.size)->
  (∀i j x,i<(zy a).length->j<(zy a).length->zbd own i->i≠j->(j,i)∉r->K i x->¬ K j x)->
  (∀j i,(j,i)∈r->own[j]?=some false/\zbd own i/\e[j]?=e[i]?/\(zy a)[j]?=(zy a)[i]?/\∃t l,(zy a)[i]?=some (.s t l))->
  n a=some (true,d)->
  Calls P f (zbS a e).toArray w fun
   |.returned v,w'=>w'.os=w.os/\w'.tape=w.tape/\w'.output=w.output/\w.heap.size<=w'.heap.size/\
    (∀b,b<w.heap.size->(∀j,j<(zy a).length->zbd own j->¬ K j b)->w'.heap[b]?=w.heap[b]?)/\
    ∃(q:List Value) (g:Nat->zV),zdo true w' (zy d) q g/\v=zjT (zbS d q)/\
     (∀i x,i<(zy d).length->g i x->x<w'.heap.size/\((∃j,j<(zy a).length/\zbd own j/\K j x)\/w.heap.size<=x))/\
     (∀i j x,i<(zy d).length->j<(zy d).length->i≠j->g i x->¬ g j x)/\
     (∀k m y,h=some (k,m,y)->∀t l u,(zy a)[k]?=some (.s t l)->e[k]?=some u->∃z,(zy d)[m]?=some (.s t z)/\q[m]?=some u/\
      ∀p v,zX w t u p=some v->y.any (λc=>c.isPrefixOf (cols p))=false->zX w' t u p=some v)
   |_,_=>False
def zeh (P:Program)(f:FuncId)(own:List Bool)(b:Option (Nat×Nat×List (List Nat)))(a:LW):Prop :=
 match own with
 |[]=>zR4 P f a
 |x::l=>∀c∈zir f,zMd P f (x::l) b c a
def zeh.of {P:Program}{f:FuncId}{own:List Bool}{a:Option (Nat×Nat×List (List Nat))}{b:LW}(c:own≠[])(h:∀d∈zir f,zMd P f own a d b):zeh P f own a b:=by cases own with|nil=>exact absurd rfl c|cons x l=>exact h
def zeh.get {P:Program}{f:FuncId}{own:List Bool}{a:Option (Nat×Nat×List (List Nat))}{b:LW}(h:zeh P f own a b)(c:own.isEmpty=false):∀d∈zir f,zMd P f own a d b:=by cases own with|nil=>cases c|cons x l=>exact h
structure TctOk (C:Cfg):Prop where
 ok:∀f own inp run,C.tct f=some (own,inp,run)->zeh C.P f own inp run
section
variable {C:Cfg} {w0 w w1:World} {S0:zV} {U:Nat->Prop} {st st1:St} {E E1:Env} {ts:Array Value} {sv:List (Array Value)}
structure Tks (st:St) (own:List Bool) (ats:List At) (cs:List CV) (ks:List Nat):Prop where
 len:cs.length=ats.length
 olen:own.length=ats.length
 ownk:∀r∈ks,∃j,zbd own j/\ats[j]?=some (.sl r [])
 get:∀(j:Nat) (a:At),ats[j]?=some a->(zbd own j/\∃r R,a = .sl r []/\st.root r=some R/\R.own=true/\r∈ks/\cs[j]?=some (.s R.t R.l))\/(own[j]?=some false/\∃c,st.cvOf a=some c/\cs[j]?=some c)
 inj:∀(i j r:Nat),zbd own i->zbd own j->ats[i]?=some (.sl r [])->ats[j]?=some (.sl r [])->i=j
def z2K:∀(own:List Bool) (w:List At) (C:LC) (ks:List Nat),st.tks own w=some (C,ks)->Tks st own w C ks
 |[],[],C,ks,h=>by cases h;exact⟨rfl,rfl,fun r h=>by simp at h,fun j a h=>by simp at h,fun i j r h=>by simp[zbd]at h⟩
 |[],_::_,_,_,h=>by simp[St.tks]at h
 |_::_,[],_,_,h=>by simp[St.tks]at h
 |o::ms,a::r,C,ks,h=>by
  simp only[St.tks]at h;split at h;{cases h}
  .rename_i cs0 ks0 h0;have k:=z2K ms r cs0 ks0 h0;have p:∀(v:List Nat) (c:CV),(∀x∈ks0,x∈v)->∀(j:Nat) (b:At),r[j]?=some b ->
    (zbd (o::ms) (j+1)/\∃q R,b = .sl q []/\st.root q=some R/\R.own=true/\q∈v/\(c::cs0)[j+1]?=some (.s R.t R.l))\/((o::ms)[j+1]?=some false/\∃d,st.cvOf b=some d/\(c::cs0)[j+1]?=some d):=by
    intro v c F j b m;rcases k.get j b m with⟨e,q,R,y,D,H,E,I⟩|⟨e,d,y,D⟩
    .exact .inl ⟨by simpa [zbd] using e,q,R,y,D,H,F q E,by simpa using I⟩
    .exact .inr ⟨by simpa using e,d,y,by simpa using D⟩
   split at h;{split at h;{rename_i q;split at h;{rename_i R J;split at h;{rename_i f;simp only[qE,jI,jO,decide_eq_false_iff_not]at f;obtain⟨A,G⟩:=f;cases h;have B:∀(i:Nat),zbd ms i->r[i]?=some (.sl q [])->False:=(by intro i u L;rcases k.get i _ L with⟨_,N,M,y,_,_,E,_⟩|⟨e,_⟩;{cases y;exact G E};{rw [u]at e;cases e});refine⟨by simp[k.len],by simp[k.olen],fun x n=>?_,fun j b m=>?_,fun i j x u z e g=>?_⟩;{rcases qG.1 n with rfl|n;{exact⟨0,rfl,rfl⟩};{obtain⟨j,e,g⟩:=k.ownk x n;exact⟨j+1,by simpa [zbd] using e,by simpa using g⟩}};{cases j with|zero=>simp only[qI,qC]at m;subst m;exact .inl ⟨rfl,q,R,rfl,J,A,jF,by simp⟩|succ j=>exact p _ _ (fun x n=>q0 _ n) j b (by simpa using m)};{cases i with|zero=>(cases j with|zero=>rfl|succ j=>simp only[qI,qC,At.sl.injEq,and_true]at e;subst e;exact(B j (by simpa [zbd] using z) (by simpa using g)).elim)|succ i=>(cases j with|zero=>simp only[qI,qC,At.sl.injEq,and_true]at g;subst g;exact(B i (by simpa [zbd] using u) (by simpa using e)).elim|succ j=>have:=k.inj i j x (by simpa [zbd] using u) (by simpa [zbd] using z) (by simpa using e) (by simpa using g);omega)}};{cases h}};{cases h}};{cases h}};{split at h;{rename_i c K;cases h;refine⟨by simp[k.len],by simp[k.olen],fun x n=>?_,fun j b m=>?_,fun i j x u z e g=>?_⟩;{obtain⟨j,e,g⟩:=k.ownk x n;exact⟨j+1,by simpa [zbd] using e,by simpa using g⟩};{cases j with|zero=>simp only[qI,qC]at m;subst m;exact .inr ⟨rfl,c,K,by simp⟩|succ j=>exact p _ _ (fun x n=>n) j b (by simpa using m)};{cases i with|zero=>simp[zbd]at u|succ i=>(cases j with|zero=>simp[zbd]at z|succ j=>have:=k.inj i j x (by simpa [zbd] using u) (by simpa [zbd] using z) (by simpa using e) (by simpa using g);omega)}};{cases h}}
def zSP {ks:List Nat}{f:List (Nat×Nat)}:∀(n:Nat) (own:List Bool) (c:List At),zxm st ks f n own c=true->∀(j:Nat) (a:At),c[j]?=some a->own[j]?=some false->(∀i,(n+j,i)∉f)->zZ3 st ks a=true
 |_,[],_,_,j,a,_,e,_=>by simp at e
 |_,_::_,[],_,j,a,d,_,_=>by simp at d
 |n,o::ms,b::r,h,j,a,d,e,g=>by
  simp only[zxm,qE,kJ]at h;cases j with
  |zero=>simp only[qI,qC]at d e;subst d e;rcases h.1 with h|h|h;{cases h};{obtain⟨x,l,k⟩:=uK.1 h;have:x.1=n:=kS k;exact absurd (by rw[j8,<- this];exact l) (g x.2)};{exact h}
  |succ j=>exact zSP (n+1) ms r h.2 j a (by simpa using d) (by simpa using e) (λi=>by have:=g i;rwa [show n+1+j=n+(j+1) by omega])
def zu0 {own:List Bool}{a:List At}{b:List (Nat×Nat)}(h:zMe own a b=true){j i:Nat}(k:(j,i)∈b):∃q,a[j]?=some (.sl q [])/\a[i]?=some (.sl q [])/\own[j]?=some false/\zbd own i:=by have:=qO.1 h _ k;dsimp only at this;split at this;{rename_i q r c d f g;have e:q=r:=kS this;subst e;exact⟨q,c,d,f,g⟩};{cases this}
def zVm (G:Sim w0 S0 U st E ts sv w):∀(l:List Operand) (f:List TV),zRV st l=some f->
 ∃i:List Value,i.length=(f.flatMap zS).length/\(∀(j:Nat) (a:At) (u:Value),(f.flatMap zS)[j]?=some a->i[j]?=some u->VA w st E a u)/\
  ∀d:LC,d.length=i.length->l.map ({tmps:=ts,defers:=[]}:Act).eval=zbS (zgW f d) i/\zy (zgW f d)=d
 |[],f,h=>by
  cases h;exact⟨[],rfl,λj a u h=>by simp at h,λd g=>by
   have:d=[]:=List.eq_nil_of_length_eq_zero (by simpa using g)
   subst this;exact⟨rfl,rfl⟩⟩
 |x::r,f,h=>by simp only[zRV]at h;split at h;{rename_i y q N M;cases h;obtain⟨i,C,D,F⟩:=zVm G r q M;obtain⟨H,-⟩:=zbZ G N;rcases y with a|l;{refine⟨({tmps:=ts,defers:=[]}:Act).eval x::i,by simp[zS,C],λj b u k m=>?_,λd g=>?_⟩;{cases j with|zero=>simp[zS]at k m;subst k m;exact H|succ j=>exact D j b u (by simpa [zS] using k) (by simpa using m)};{cases d with|nil=>simp at g|cons c d=>obtain⟨s,t⟩:=F d (by simpa using g);refine⟨by simp[zgW,zbS,s],?_⟩;have e:zy (zgW (TV.at a::q) (c::d))=c::zy (zgW q d):=(by simp[zgW,zy,AV.cvs]);rw[e,t]}};{obtain⟨p,A,n,B⟩:=H;have v:p.toList.length=l.length:=(by simp[n]);refine⟨p.toList++i,by simp[zS,C,n],λj b u k m=>?_,λd g=>?_⟩;{simp only [kE,zS]at k;by_cases L:j<l.length;{rw [qU L]at k;rw[qU (by omega)]at m;exact(B j b u k (by simpa using m)).2};{rw [qP (by omega)]at k;rw[qP (by omega),v]at m;exact D _ b u k m}};{have K:d.length=l.length+i.length:=(by simpa [n] using g);obtain⟨s,t⟩:=F (d.drop l.length) (by simp;omega);have z:(d.take l.length).length=l.length:=(by simp;omega);refine⟨?_,?_⟩;{have I:List.take l.length (p.toList++i)=p.toList:=(by rw[<- v];exact kN rfl);have J:List.drop l.length (p.toList++i)=i:=(by rw[<- v];exact k6 rfl);simp only[jC,zgW,zbS,A,z,I,J,s,jP]};{have e:zy (zgW (TV.agg l::q) d)=d.take l.length++zy (zgW q<|d.drop l.length):=(by simp[zgW,zy,AV.cvs]);rw[e,t,List.take_append_drop]}}}};{cases h}
def z1E {f:At->At}(T:∀a v,(∀n∈a.ids,U n)->VA w st E a v->VA w1 st1 E1 (f a) v){x:TV}{v:Value}(g:∀a∈zS x,∀n∈a.ids,U n)(h:VT w st E x v):VT w1 st1 E1 (zqV f x) v:=by rcases x with a|l;{exact T a v (g a (by simp[zS])) h};{obtain⟨p,k,m,e⟩:=h;refine⟨p,k,by simp[m],λj a u c i=>?_⟩;rw[qQ]at c;cases d:l[j]? with|none=>rw[d]at c;cases c|some b=>rw[d]at c;cases c;exact⟨(e j b u d i).1,T _ _ (g b (by simp only[zS];exact qH d)) (e j b u d i).2⟩}
def z9V {f:At->At}(T:∀a v,(∀n∈a.ids,U n)->VA w st E a v->VA w1 st1 E1 (f a) v){m:MV}{v:Value}(p:∀n∈m.ids,U n)(h:VM w st E m v):VM w1 st1 E1 (zjQ f m) v:=by have d:∀a∈zbD m,∀n∈a.ids,U n:=λa c n q=>p n (by simp only[MV.ids,qR];exact⟨a,c,q⟩);cases m with|und=>exact h|v x=>exact z1E T d h|tup l=>obtain⟨s,g,i,k⟩:=h;refine⟨s,g,by simp[i],λj a u c r=>?_⟩;rw[qQ]at c;(cases e:l[j]? with|none=>rw[e]at c;cases c|some b=>rw[e]at c;cases c;refine z1E T (λa c=>d a ?_) (k j b u e r);simp only[zbD,qR];exact⟨b,qH e,c⟩)
def zPL {f:At->At}(T:∀a v,(∀n∈a.ids,U n)->VA w st E a v->VA w1 st1 E1 (f a) v){tm:List MV}{ts:LV}(e:∀m∈tm,∀n∈m.ids,U n)(h:aC w st E tm ts):aC w1 st1 E1 (tm.map<|zjQ f) ts:=by refine⟨by simp[h.1],λi m v c g=>?_⟩;rw[qQ]at c;cases d:tm[i]? with|none=>rw[d]at c;cases c|some b=>rw[d]at c;cases c;exact z9V T (e b<|qH d) (h.2 i b v d g)
def zPM {f:At->At}(T:∀a v,(∀n∈a.ids,U n)->VA w st E a v->VA w1 st1 E1 (f a) v):∀{l:List (List MV)} {s:List LV},(∀g∈l,∀m∈g,∀n∈m.ids,U n)->Stack w st E l s->Stack w1 st1 E1 (l.map λg=>g.map (zjQ f)) s
 |[],[],_,_=>trivial
 |g::l,ts::s,b,h=>⟨zPL T (b g (by simp)) h.1,zPM T (λc hg=>b c (by simp[hg])) h.2⟩
 |[],_::_,_,h=>h.elim
 |_::_,[],_,h=>h.elim
def zPJ {f:At->At}{x:TV}{a:At}(h:a∈zS (zqV f x)):∃b∈zS x,a=f b:=by rcases x with b|l;{simp only [zqV,zS,qD]at h ⊢;exact⟨b,rfl,h⟩};{simp only [zqV,zS,jJ]at h ⊢;obtain⟨b,c,rfl⟩:=h;exact⟨b,c,rfl⟩}
def zPI {f:At->At}{m:MV}{n:Nat}(h:n∈(zjQ f m).ids):∃a∈zbD m,n∈(f a).ids:=by simp only[MV.ids,qR]at h;obtain⟨a,c,e⟩:=h;have:∃b∈zbD m,a=f b:=(by cases m with|und=>simp[zjQ,zbD]at c|v x=>exact zPJ c|tup l=>simp only[zjQ,zbD,qR,jJ]at c ⊢;obtain⟨y,⟨x,g,rfl⟩,c⟩:=c;obtain⟨b,d,rfl⟩:=zPJ c;exact⟨b,⟨x,g,d⟩,rfl⟩);obtain⟨b,d,rfl⟩:=this;exact⟨b,d,e⟩
def zPZ {q n k:Nat}{g:List (List Nat)}{a:At}(h:k∈(zl7 q n g a).ids):k∈a.ids\/k=n:=by cases a with|sl r p=>simp only[zl7]at h;cases d:Nat.beq r q<;>rw [d]at h;{exact .inl h};{cases e:g.any (λm=>m.isPrefixOf (cols p))<;>rw [e]at h;{simp only [cond_true,cond_false,At.ids,zbl,zbs,jE,qD]at h;exact .inr h};{simp [At.ids,zbl,zbs]at h}}|ep r p i o=>simp only[zl7]at h;cases d:Nat.beq r q<;>rw [d]at h;{exact .inl h};{cases e:g.any (λm=>m.isPrefixOf (cols p))<;>rw [e]at h;{simp only [cond_true,cond_false,At.ids,zbl,zbs,jE,qD]at h;exact .inr h};{simp [At.ids,zbl,zbs]at h}}|kp r J t=>simp only[zl7]at h;cases d:Nat.beq r q<;>rw [d]at h;{exact .inl h};{cases e:coarse g J<;>rw [e]at h;{simp [At.ids,zbl,zbs]at h};{simp only [cond_true,At.ids,zbl,zbs,jE,qD]at h;exact .inr h}}|bad=>exact .inl h|i k n=>exact .inl h|b x=>exact .inl h|lp l o=>exact .inl h|fn f c=>exact .inl h
def z8I {U1:Nat->Prop}(F:Sim w0 S0 U st E ts sv w)(A:Mem w0 S0 st1 E1 w1)(hT:Trans st E w st1 E1 w1 U)(a0:st1.tm=st.tm)(P:st1.stk=st.stk)(s:st1.lo=st.lo)(hU:∀n,U n->U1 n)(a6:∀n R,zn st1.ro n=some R->U1 n)(V:∀l C,zn st.lo l=some C->w1.heap[E.β l]?=w.heap[E.β l]?){q n:Nat}{js:List (List Nat)}(hn:U1 n)(hq:∀I,st1.root n=some I->∃R,st.root q=some R/\I.t=R.t/\E1.ρ n=E.ρ q/\∀p u,zX w R.t (E.ρ q) p=some u->js.any (λc=>c.isPrefixOf (cols p))=false->zX w1 R.t (E.ρ q) p=some u) :
 Sim w0 S0 U1 (st1.ren<|some (q,n,js)) E1 ts sv w1:=by
 have a7:∀r,(st1.ren<|some (q,n,js)).root r=st1.root r:=λr=>rfl;have y:∀l C,zn (st1.ren<|some (q,n,js)).lo l=some C->∃d,zn st.lo l=some d/\C=d.map (zl7 q n js):=by intro l C h;simp only[St.ren,s]at h;rw[zk3]at h;cases X:zn st.lo l with|none=>rw[X]at h;cases h|some d=>rw[X]at h;cases h;exact⟨d,rfl,rfl⟩
 have hI:Trans st1 E1 w1 (st1.ren<|some (q,n,js)) E1 w1 (λ_=>True):=
  ⟨λr _ I z=>⟨I,z,rfl,λ_ _ h=>h⟩,λl _ a3 z=>⟨by obtain⟨d,B,_⟩:=y l a3 z;exact⟨d,by rw[s];exact B⟩,rfl⟩,rfl⟩
 have T:∀a v,(∀k∈a.ids,U k)->VA w st E a v->VA w1 (st1.ren<|some (q,n,js)) E1 (zl7 q n js a) v:=by
  intro a v ha L;have same:VA w1 (st1.ren<|some (q,n,js)) E1 a v:=VA.tr hI (λ_ _=>trivial) (VA.tr hT ha L);cases a with
  |bad=>trivial
  |i k n=>exact L
  |b x=>exact L
  |lp l o=>exact same
  |fn f c=>exact same
  |sl r p=>
   simp only[zl7];cases N:Nat.beq r q with
   |false=>exact same
   |true=>rw[kU]at N;subst N;cases G:js.any (λm=>m.isPrefixOf (cols p)) with|true=>trivial|false=>refine⟨L.1,λI D=>?_⟩;obtain⟨R,z,B,S,M⟩:=hq I D;rw[B,S];exact M p v (L.2 R z) G
  |ep r p i o=>
   simp only[zl7];cases N:Nat.beq r q with
   |false=>exact same
   |true=>rw[kU]at N;subst N;cases G:js.any (λm=>m.isPrefixOf (cols p)) with|true=>trivial|false=>refine⟨L.1,λI D=>?_⟩;obtain⟨R,z,B,S,M⟩:=hq I D;obtain⟨b,o',len,a2,t',Q,Z,g3⟩:=L.2 R z;exact⟨b,o',len,a2,t',by rw[B,S];exact M p _ Q G,by rw[B];exact Z,g3⟩
  |kp r J t=>simp only[zl7];cases N:Nat.beq r q with|false=>exact same|true=>rw[kU]at N;subst N;(cases G:coarse js J with|false=>trivial|true=>refine⟨L.1,λI D=>?_⟩;obtain⟨R,z,B,S,M⟩:=hq I D;obtain⟨Q,Z,g3⟩:=L.2 R z;refine⟨B.trans Q,S.trans Z,λp u hp hJ=>?_⟩;rw[hT.κ]at hp;have:=M p u (by rw[Q,Z];exact g3 p u hp hJ) (zyQ G hJ);rwa [Q,Z] at this)
 have O:∀{m:MV} {k:Nat},(∀j∈m.ids,U j)->k∈(zjQ (zl7 q n js) m).ids->U1 k:=by intro m k Y K;obtain⟨a,ha,K⟩:=zPI K;rcases zPZ K with h|rfl;{exact hU k (Y k (by simp only[MV.ids,qR];exact⟨a,ha,h⟩))};{exact hn}
 refine⟨⟨A.os,A.tape,A.output,A.size,A.keep,A.rep,A.rlt,A.mine,A.frz,A.apart,λl C X=>?_,λl l' C d z B he=>?_,λl C r R X hR=>?_,A.epo,A.κ⟩,⟨a6,λk C K=>?_,λm Y k K=>?_,λg hg m Y k K=>?_⟩,?_,?_⟩
 .obtain⟨d,hl',rfl⟩:=y l C X;obtain⟨z,a1,e,B,S,M⟩:=F.mem.loc l d hl';obtain⟨Q,_⟩:=A.loc l d (by rw[s];exact hl')
  have a8:E1.β l=E.β l:=(hT.lo l (F.ids.lo l d hl').1 d (by rw[s];exact hl')).2
  refine⟨Q,a1,e,by rw[a8,V l d hl'];exact B,by simp[S],λj c u G hu=>?_⟩
  rw[qQ]at G;cases H:d[j]? with
  |none=>rw[H]at G;cases G
  |some c' =>rw[H]at G;cases G;exact⟨(M j c' u H hu).1,T _ _ ((F.ids.lo l d hl').2 c' (qH H)) (M j c' u H hu).2⟩
 .obtain⟨c1,z,_⟩:=y l C z;obtain⟨c2,B,_⟩:=y l' d B;exact A.linj l l' c1 c2 (by rw[s];exact z) (by rw[s];exact B) he
 .obtain⟨c1,z,_⟩:=y l C X;exact A.lro l c1 r R (by rw[s];exact z) hR
 .obtain⟨d,z,rfl⟩:=y k C K;refine⟨hU k (F.ids.lo k d z).1,λa ha j hj=>?_⟩;obtain⟨a',a4,rfl⟩:=jJ.1 ha;rcases zPZ hj with h|rfl
  .exact hU j ((F.ids.lo k d z).2 a' a4 j h)
  .exact hn
 .simp only [St.ren,a0]at Y;obtain⟨m0,W,rfl⟩:=jJ.1 Y;exact O (F.ids.tm m0 W) K
 .simp only [St.ren,P]at hg;obtain⟨g0,a5,rfl⟩:=jJ.1 hg;obtain⟨m0,W,rfl⟩:=jJ.1 Y;exact O (F.ids.stk g0 a5 m0 W) K
 .have:=zPL T F.ids.tm F.tm;simpa only [St.ren,a0] using this
 .have:=zPM T F.ids.stk F.stk;simpa only [St.ren,P] using this
def z5a (hH:TctOk C)(w0 w:World)(S0:zV)(U:Nat->Prop)(st:St)(E:Env)(ts:LV)(sv:List LV)(o:Oper)(id:Nat)(c:Bool)(f1:St)(mv:MV)(hS:Sim w0 S0 U st E ts sv w)(e4:∀n,Mine id n->¬ U n)(h:zRU C st o id=some (c,f1,mv))(hc:c=true):Goes C w0 S0 U st ts sv w o id (λ_=>f1.put o.dst mv)/\f1.nid=st.nid:=by
 subst hc;unfold zRU at h;split at h
 .rename_i cl T;split at h
  .rename_i f hcb;split at h
   .rename_i own inp run htct;cases e7:own.isEmpty with
    |true=>rw[e7]at h;cases h
    |false=>
    rw[e7]at h;simp only[cond_false]at h;unfold z2I at h;split at h
    .rename_i tvs htvs;split at h
     .rename_i cs ks htks;split at h;rotate_left;{cases h}
      rename_i x Y;cases a4:(zir f).any (λal=>zMe own (tvs.flatMap zS) al&&zxm st ks al 0 own (tvs.flatMap zS)) with
      |false=>rw[a4]at h;cases h
      |true=>
       rw[a4]at h;simp only[cond_true]at h;obtain⟨al,hal,b5⟩:=uK.1 a4;rw[qE]at b5;obtain⟨b4,e3⟩:=b5;split at h
       .rename_i cc rs hrun;split at h
        .rename_i hlen;simp only[qC,jR]at h;obtain⟨rfl,rfl,rfl⟩:=h;refine⟨?_,by cases x<;>rfl⟩;have hrsl:(zy rs).length<=31:=hlen;obtain⟨⟨fn,bd,hf,hbd,e5⟩,hHT⟩:=(hH.ok f own inp run htct).get e7 al hal;have hB:=z2K own _ cs ks htks;have F:=hS.mem;obtain⟨xs,c5,d0,hxp⟩:=zVm hS cl.args.toList tvs htvs;obtain⟨hxm,c0⟩:=hxp cs (by rw[hB.len,c5]);let Ka:zV:=λx=>x<w.heap.size/\∀r∈ks,¬ E.φ r x
         have hks:∀r∈ks,∃j R,j<cs.length/\zbd own j/\(tvs.flatMap zS)[j]?=some (.sl r [])/\st.root r=some R/\R.own=true:=(by intro r O;obtain⟨j,g,z⟩:=hB.ownk r O;rcases hB.get j _ z with⟨_,q,R,h,L,V,_,_⟩|⟨h,_⟩;{cases h;exact⟨j,R,by rw[hB.len];exact(qA.1 z).1,g,z,L,V⟩};{rw [g]at h;cases h});let K:Nat->zV:=λj=>@ite _ (own[j]?=some true\/∃i,(j,i)∈al) (Classical.propDecidable _) (cφ E (tvs.flatMap zS) j) Ka
         have c6:∀j,zbd own j->K j=cφ E (tvs.flatMap zS) j:=λj hj=>if_pos (.inl hj);have d6:∀j i,(j,i)∈al->K j=cφ E (tvs.flatMap zS) j:=λj i hj=>if_pos (.inr ⟨i,hj⟩);have d5:∀j,¬ zbd own j->(∀i,(j,i)∉al)->K j=Ka:=λj hj hn=>if_neg (λh=>h.elim hj λ⟨i,hi⟩=>hn i hi);have D:∀j x,zbd own j->K j x->∃r∈ks,∃R,(tvs.flatMap zS)[j]?=some (.sl r [])/\st.root r=some R/\R.own=true/\E.φ r x:=(by intro j x hj B;rw[c6 j hj]at B;obtain⟨a,ha,B⟩:=ztI B;rcases hB.get j a ha with⟨_,r,R,rfl,L,V,Z,_⟩|⟨h,_⟩;{exact⟨r,Z,R,ha,L,V,B⟩};{rw [hj]at h;cases h});have c7:cl.args.map ({tmps:=ts,defers:=[]}:Act).eval=(zbS (zgW tvs cs) xs).toArray:=(by rw[<- hxm,<- kW,jP]);intro next Q c4;have c8:fn.name≠ "runtime.NumGoroutine":=(by simpa using e5);have e0:(execOp ({tmps:=ts,defers:=[]}:Act).eval o).run C.P w = .ok (.enter f (zbS (zgW tvs cs) xs).toArray) w:=(by have hfe:({tmps:=ts,defers:=[]}:Act).eval (.func f) = .func (.func f) #[] #[]:=rfl;simp[execOp,T,resolve,hcb,Deferred.ofValue,invoke,callFunc,hf,hbd,c8,c7,hfe]);unfold Oper.wp;rw[e0,Oper.upon_enter];have f5:(zy<|zgW tvs cs).length=cs.length:=(by rw[c0]);refine(hHT w K (zgW tvs cs) xs rs (by rw[c0,hB.len,c5]) (by rw[c0,hB.len,hB.olen]) (λj c u b9 hu=>?_) (λj x hj B=>?_) (λi j x hi hj T e6 hna B a3=>?_) (λj i W=>?_) hrun).mono ?_
         .rw [c0]at b9;have hj:j<(tvs.flatMap zS).length:=(by rw[<- hB.len];exact(qA.1 b9).1);have ha:=qB hj;have a6:=d0 j _ u ha hu;rcases hB.get j _ ha with⟨g,r,R,z,L,V,Z,g4⟩|⟨g,d,L,V⟩;{rw [b9] at g4;cases g4;have e:(own[j]?).getD false=true:=(by rw[show own[j]?=some true from g];rfl);rw[z]at a6 ha;have:=a6.2 R L;simp only[zX,qC] at this;subst this;have O:=F.rep r R L;rw[V]at O;rw[e];refine O.weak (λx B=>?_);rw[c6 j g,zhG ha];exact B}
          .rw [b9] at V;cases V;have e:(own[j]?).getD false=false:=(by rw[g];rfl);by_cases hA:∃i,(j,i)∈al;{obtain⟨i,W⟩:=hA;obtain⟨q,q1,q2,_,q4⟩:=zu0 b4 W;rw[ha] at q1;have q1:=Option.some.inj q1;rw[q1]at ha a6 L;rcases hB.get i _ q2 with⟨_,r,R,e9,Z,g4,g5,g6⟩|⟨hb,_⟩;rotate_left;{rw [show own[i]?=some true from q4]at hb;cases hb};cases e9;have d9:st.cvOf (.sl q [])=some (.s R.t R.l):=(by simp[St.cvOf,St.node,Z,zgn]);rw[d9] at L;cases L;have:=a6.2 R Z;simp only[zX,qC] at this;subst this;rw[e,d6 j i W];exact((F.rep q R Z).weak (λx B=>by rw[zhG ha];exact B)).ro};have g9:∀i,(j,i)∉al:=λi hi=>hA ⟨i,hi⟩;rw[e,d5 j (λh=>by rw[show own[j]?=some true from h]at g;cases g) g9]
           exact zCe hS (ks:=ks) (λr R x M he O B=>⟨F.rlt r R M x B,λq hq hqx=>by
            obtain⟨_,Q',_,_,_,hQ,hQo⟩:=hks q hq;exact F.apart q Q' r R hQ hQo M he (λe=>O (by rw[<- e];exact hq)) x hqx B⟩) (zSP 0 own _ e3 j _ ha g (λi=>by rw[jW];exact g9 i)) L a6
         {by_cases c3:zbd own j;{obtain⟨r,_,R,_,z,_,S⟩:=D j x c3 B;exact F.rlt r R z x S};{by_cases hA:∃i,(j,i)∈al;{obtain⟨i,W⟩:=hA;obtain⟨q,q1,q2,_,q4⟩:=zu0 b4 W;rw[d6 j i W,zhG q1]at B;have f0:K i x:=(by rw[c6 i q4,zhG q2];exact B);obtain⟨r,_,R,_,z,_,S⟩:=D i x q4 f0;exact F.rlt r R z x S};{rw [d5 j c3 λi hi=>hA ⟨i,hi⟩]at B;exact B.1}}};{obtain⟨r,O,R,g,z,I,S⟩:=D i x T B;by_cases c3:zbd own j;{obtain⟨r',_,R',a8,a9,b8,b0⟩:=D j x c3 a3;have:=F.own_apart z I a9 b8 S b0;subst this;exact e6 (hB.inj i j r T c3 g a8)};{by_cases hA:∃i,(j,i)∈al;{obtain⟨i',W⟩:=hA;obtain⟨q,q1,q2,_,q4⟩:=zu0 b4 W;rw[d6 j i' W,zhG q1]at a3;have f0:K i' x:=(by rw[c6 i' q4,zhG q2];exact a3);obtain⟨r',_,R',a8,a9,b8,b0⟩:=D i' x q4 f0;have:=F.own_apart z I a9 b8 S b0;subst this;have:=hB.inj i i' r T q4 g a8;subst this;exact hna W};{rw [d5 j c3 λi hi=>hA ⟨i,hi⟩]at a3;exact a3.2 r O S}}};{obtain⟨q,q1,q2,q3,q4⟩:=zu0 b4 W;rcases hB.get i _ q2 with⟨_,r,R,e9,Z,g4,g5,g6⟩|⟨hb,_⟩;rotate_left;{rw [show own[i]?=some true from q4]at hb;cases hb};cases e9;have b9:cs[j]?=some (.s R.t R.l):=(by rcases hB.get j _ q1 with⟨T,_⟩|⟨_,d,L,V⟩;{rw [show own[j]?=some true from T] at q3;cases q3};{have d9:st.cvOf (.sl q [])=some (.s R.t R.l):=(by simp[St.cvOf,St.node,Z,zgn]);rw[d9] at L;cases L;exact V});rw[c0];refine⟨q3,q4,?_,by rw[b9,g6],_,_,g6⟩;have f9:j<xs.length:=(by rw[c5];exact(qA.1 q1).1);have f7:i<xs.length:=(by rw[c5];exact(qA.1 q2).1);have e1:=(d0 j _ _ q1<|qB f9).2 R Z;have e2:=(d0 i _ _ q2<|qB f7).2 R Z;simp only[zX,qC] at e1 e2;rw[qB f9,qB f7,<- e1,<- e2]}
         .intro ex w' he;cases ex with
          |panicked chain=>exact he.elim
          |outgrown=>exact he.elim
          |returned v=>
           obtain⟨hos,htp,h6,h9,X,ys,Kr,d1,rfl,d2,f3,f8⟩:=he;rw[f5]at X d2;let E1:Env:={E with ρ:=λn=>if id<=n/\n<id+32 then (ys[n-id]?).getD undef else E.ρ n,φ:=λn=>if id<=n/\n<id+32 then (λx=>n-id<(zy rs).length/\Kr (n-id) x) else E.φ n}
           have a0:∀n,U n->E1.ρ n=E.ρ n/\E1.φ n=E.φ n:=(by intro n hn;have a1:¬ (id<=n/\n<id+32):=λh=>e4 n h hn;simp only[E1,if_neg a1,and_self]);have b1:∀n,id<=n->n<id+32->E1.ρ n=(ys[n-id]?).getD undef/\E1.φ n=λx=>n-id<(zy rs).length/\Kr (n-id) x:=(by intro n g z;simp only[E1,if_pos (show id<=n/\n<id+32 from ⟨g,z⟩),and_self]);generalize J:({st with ro:=zcY zmz rs id++(killed st ks++st.ro),ep:=st.ep+1}:St)=st1;have c9:st1.ro=zcY zmz rs id++(killed st ks++st.ro):=(by rw[<- J]);have H:st1.lo=st.lo:=(by rw[<- J]);have b7:st1.ep=st.ep+1:=(by rw[<- J]);have b3:∀l cs,zn st.lo l=some cs->E.β l<w.heap.size:=(by intro l cs h;obtain⟨_,vals,e,z,_⟩:=F.loc l cs h;exact(qL.1 z).1);have a7:∀r R,zn (zcY zmz rs id) r=some R->id<=r/\r<id+32/\r-id<(zy rs).length/\∃t l,(zy rs)[r-id]?=some (.s t l)/\R=⟨t,l,true,none⟩:=(by intro r R O;obtain⟨g,t,l',I,S⟩:=zfq zmz rs id r R O;have g8:=(qA.1 I).1;exact⟨g,by omega,g8,t,l',I,S⟩);have e8:∀r R,zn st1.ro r=some R->zn (zcY zmz rs id) r=some R\/(R.ep=some st.ep/\∃Q,zn st.ro r=some Q)\/(zn st.ro r=some R/\r∉ks):=(by intro r R O;rw[c9,zbz]at O;split at O;{rename_i Q hQ;cases O;exact .inl hQ};{rw [zbz]at O;split at O;{rename_i Q hQ;cases O;exact .inr (.inl<|zsQ ks r _ hQ)};{rename_i hn;exact .inr (.inr ⟨O,zqT ks r R hn O⟩)}});have A:∀r R,st1.root r=some R->zn (zcY zmz rs id) r=some R\/(st.root r=some R/\R.ep=none/\r∉ks/\U r):=(by intro r R O;obtain⟨g,z⟩:=zbm O;rw[b7]at z;rcases e8 r R g with h|⟨h,_⟩|⟨h,hk⟩;{exact .inl h};{rcases z with z|z;{rw [h]at z;cases z};{rw [h]at z;simp at z}};{rcases z with z|z;{exact .inr ⟨ze1 h<|.inl z,z,hk,hS.ids.ro r R h⟩};{have:=F.epo r R _ h z;omega}});have f6:∀r R,st.root r=some R->R.ep=none->r∉ks->∀x,E.φ r x->w'.heap[x]?=w.heap[x]?:=(by intro r R M he hk x B;refine X x (F.rlt r R M x B) (λj hj T hkx=>?_);obtain⟨q,hq,Q',_,g,z,I⟩:=D j x T hkx;exact F.apart q Q' r R g z M he (λe=>hk (by rw[<- e];exact hq)) x I B);have a5:∀x,(x<w'.heap.size/\((∃i,i<cs.length/\zbd own i/\K i x)\/w.heap.size<=x))->(S0 x\/w0.heap.size<=x)/\∀r R,st.root r=some R->R.ep=none->r∉ks->¬ E.φ r x:=(by intro x ⟨g,I⟩;rcases I with⟨i,hi,T,hk⟩|I;{obtain⟨q,hq,Q',_,L,V,Z⟩:=D i x T hk;exact⟨(F.mine q Q' L V).2 x Z,λr R M he g0 B=>F.apart q Q' r R L V M he (λe=>g0 (by rw[<- e];exact hq)) x Z B⟩};{exact⟨.inr<|qS F.size I,λr R M he g0 B=>by have:=F.rlt r R M x B;omega⟩});have d8:∀r R,zn (zcY zmz rs id) r=some R->Rep true w' (E1.ρ r) (.s R.t R.l) (E1.φ r):=(by intro r R O;obtain⟨g,z,I,t,l',h5,rfl⟩:=a7 r R O;have hv:r-id<ys.length:=(by rw[d1.1];exact I);have hu:=qB hv;rw[(b1 r g z).1,(b1 r g z).2,hu];exact(d1.2 _ _ _ h5 hu).weak λx B=>⟨I,B⟩);have N:∀r R,zn (zcY zmz rs id) r=some R->∀x,E1.φ r x->x<w'.heap.size/\((∃i,i<cs.length/\zbd own i/\K i x)\/w.heap.size<=x):=(by intro r R O x B;obtain⟨g,z,I,_⟩:=a7 r R O;rw[(b1 r g z).2]at B;exact d2 _ x B.1 B.2);have b2:∀r R,zn (zcY zmz rs id) r=some R->R.own=true/\R.ep=none:=(by intro r R O;obtain⟨_,_,_,t,l',_,rfl⟩:=a7 r R O;exact⟨rfl,rfl⟩);have hT:Trans st E w st1 E1 w' U:=(by refine⟨λr hU R1 d7=>?_,λl' hU G g=>⟨⟨G,by rw[H]at g;exact g⟩,rfl⟩,rfl⟩;rcases A r R1 d7 with h|⟨g,z,I,S⟩;{obtain⟨L,V,_⟩:=a7 r R1 h;exact absurd hU (e4 r ⟨L,V⟩)};{refine⟨R1,g,rfl,λp u hp=>?_⟩;rw[(a0 r hU).1,zcu p (F.rep r R1 g)<|f6 r R1 g z I];exact hp});have d3:Mem w0 S0 st1 E1 w':=by refine⟨hos.trans F.os,htp.trans F.tape,h6.trans F.output,qS F.size h9,λb hb h0=>?_,λr R M=>?_,λr R M x B=>?_,λr R M T=>?_,λhz r R M T he hf=>?_,λr R r' R' M T f4 he e6 x B=>?_,λl' G a2=>?_,λl1 l2 c1 c2 g z=>?_,λl' G r R a2 M=>?_,λr R ee M he=>?_,F.κ⟩;{refine(X b (qZ hb F.size) λj hj T hk=>?_).trans (F.keep b hb h0);obtain⟨q,hq,Q',_,L,V,Z⟩:=D j b T hk;rcases (F.mine q Q' L V).2 b Z with h|h;{exact h0 h};{omega}};{rcases A r R M with h|⟨g,z,I,S⟩;{have:=d8 r R h;rw[(b2 r R h).1];exact this};{rw [(a0 r S).1,(a0 r S).2];exact(F.rep r R g).frame (f6 r R g z I)}};{rcases A r R M with h|⟨g,z,I,S⟩;{exact(N r R h x B).1};{rw [(a0 r S).2]at B;exact qZ (F.rlt r R g x B) h9}};{rcases A r R M with h|⟨g,z,I,S⟩;{exact⟨(b2 r R h).2,λx B=>(a5 x<|N r R h x B).1⟩};{rw [(a0 r S).2];exact F.mine r R g T}};{rcases A r R M with h|⟨g,z,I,S⟩;{exact λx B=>(a5 x<|N r R h x B).1};{rw [(a0 r S).2];exact F.frz hz r R g T he hf}};{rcases A r R M with h|⟨g,z,I,S⟩;{rcases A r' R' f4 with h'|⟨a8,a9,b8,b0⟩;{intro a3;obtain⟨L,V,Z,_⟩:=a7 r R h;obtain⟨g1',g2',g3',_⟩:=a7 r' R' h';rw[(b1 r L V).2]at B;rw[(b1 r' g1' g2').2]at a3;exact f3 _ _ x Z g3' (by omega) B.2 a3.2};{rw [(a0 r' b0).2];exact(a5 x<|N r R h x B).2 r' R' a8 a9 b8}};{rw [(a0 r S).2]at B;rcases A r' R' f4 with h'|⟨a8,a9,b8,b0⟩;{intro a3;exact(a5 x<|N r' R' h' x a3).2 r R g z I B};{rw [(a0 r' b0).2];exact F.apart r R r' R' g T a8 a9 e6 x B}}};{rw [H]at a2;obtain⟨L,f2,e1,V,Z,g4⟩:=F.loc l' G a2;refine⟨L,f2,e1,(X _ (b3 l' G a2) λj hj T hk=>?_).trans V,Z,λj b u hb hu=>⟨(g4 j b u hb hu).1,VA.tr hT (λn hn=>(hS.ids.lo l' G a2).2 b (qH hb) n hn) (g4 j b u hb hu).2⟩⟩;obtain⟨q,hq,Q',_,g,z,I⟩:=D j _ T hk;exact F.lro l' G q Q' a2 g I};{rw [H]at g z;exact F.linj l1 l2 c1 c2 g z};{rw [H]at a2;rcases A r R M with h|⟨g,z,I,S⟩;{intro B;obtain⟨_,Z⟩:=N r R h _ B;rcases Z with⟨i,hi,T,hk⟩|Z;{obtain⟨q,hq,Q',_,q1,q2,q3⟩:=D i _ T hk;exact F.lro l' G q Q' a2 q1 q3};{have:=b3 l' G a2;have e:E1.β l'=E.β l':=rfl;omega}};{rw [(a0 r S).2];exact F.lro l' G r R a2 g}};{rw [b7];rcases e8 r R M with h|⟨h,_⟩|⟨h,_⟩;{rw [(b2 r R h).2]at he;cases he};{rw [h]at he;cases he;omega};{have:=F.epo r R ee h he;omega}}
           obtain⟨L,V⟩:=zhf (w:=w') (st:=st1) (E:=E1) rs ys id d1.1 (λi c u hc hu=>by
            have b6:=d1.2 i c u hc hu;refine⟨?_,b6.one⟩;have g8:i<(zy rs).length:=(qA.1 hc).1;cases c with
            |i k n=>exact b6.int_inv
            |b x=>exact b6.bool_inv
            |s t l' =>
             obtain⟨⟨a,cap,hv,_⟩,_⟩:=b6.len;refine⟨⟨a,_,cap,hv⟩,λR M=>?_⟩;have e:id+i-id=i:=by omega
             have:=(b1 (id+i) (by omega) (by omega)).1
             rw[e,hu] at this;simp only[zX,this,j9])
           have d4:∀n R,zn st1.ro n=some R->U n\/Mine id n:=λn R h=>(by rcases e8 n R h with h|⟨_,Q,h⟩|⟨h,_⟩;{obtain⟨g,z,_⟩:=a7 n R h;exact .inr ⟨g,z⟩};{exact .inl (hS.ids.ro n Q h)};{exact .inl (hS.ids.ro n R h)});have hvi:∀n∈(zii<|zcW rs id).ids,U n\/Mine id n:=λn hn=>by simp only[MV.ids,qR]at hn;obtain⟨a,ha,hn⟩:=hn;obtain⟨x,B,ha⟩:=zp4 ha;have:=zfr rs id n x a B ha hn;exact .inr ⟨by omega,by omega⟩
           cases x with
           |none=>
            have hnx:=Sim.next (U1:=λn=>U n\/Mine id n) hS d3 hT (by rw[<- J]) (by rw[<- J]) (λn h=>.inl h) d4
             (λn G hn=>by
              rw[H]at hn;exact⟨.inl (hS.ids.lo n G hn).1,λa ha m hm=>.inl ((hS.ids.lo n G hn).2 a ha m hm)⟩)
             (dst:=o.dst) (zp5 L V) hvi
            subst J;exact c4 _ _ _ hnx
           |some y=>
            obtain⟨q,n,js⟩:=y;unfold z7e at Y;split at Y;{cases Y}
            .rename_i ja jr js';split at Y
             .rename_i q' hoj haj;simp only[qC,jR]at Y;obtain⟨rfl,rfl,rfl⟩:=Y;rcases hB.get ja _ haj with⟨_,r,R,z,M,hRo,hrk,hcs⟩|⟨g,_⟩;rotate_left;{rw [hoj]at g;cases g};cases z;have hja:ja<xs.length:=(by rw[c5];exact(qA.1 haj).1);have hu:=qB hja;obtain⟨l',g7,hl2,hl3⟩:=f8 ja jr js' rfl R.t R.l _ (by rw[c0];exact hcs) hu
              have hjr:jr<(zy rs).length:=(qA.1 g7).1;have a6:=(d0 ja _ _ haj hu).2 R M;simp only[zX,qC]at a6;have h8:=z8I (U1:=λn=>U n\/Mine id n) (q:=q') (n:=id+jr) (js:=js') hS d3 hT (by rw[<- J]) (by rw[<- J]) H (λn h=>.inl h) d4
               (λl G hl=>X _ (b3 l G hl) (λj hj T hk=>by
                obtain⟨q2,hq2,Q',_,g,z,I⟩:=D j _ T hk;exact F.lro l G q2 Q' hl g I)) (.inr ⟨by omega,by omega⟩) (λR1 d7=>by
                rcases A _ R1 d7 with h|⟨_,_,_,S⟩
                .obtain⟨_,_,_,t2,l2,h5,rfl⟩:=a7 _ R1 h;have e:id+jr-id=jr:=by omega
                 rw[e,g7]at h5;cases h5;refine⟨R,M,rfl,?_,?_⟩
                 .rw [(b1 (id+jr) (by omega) (by omega)).1,e,hl2,a6]
                  rfl
                 .rw [a6];exact hl3
                .exact absurd S (e4 _ ⟨by omega,by omega⟩))
              have hI:Trans st1 E1 w' (st1.ren<|some (q',id+jr,js')) E1 w' (λ_=>True):=
               ⟨λr _ R1 g=>⟨R1,g,rfl,λ_ _ h=>h⟩,λl _ G g=>⟨by
                simp only[St.ren]at g;rw[zk3]at g;cases hl:zn st1.lo l with
                |none=>rw[hl]at g;cases g
                |some c=>exact⟨c,rfl⟩,rfl⟩,rfl⟩
              have h7:=h8.putV (dst:=o.dst) (VM.tr hI (λ_ _=>trivial)<|zp5 L V) hvi;subst J;exact c4 _ _ _ h7
             {cases Y}
        {cases h}
       {cases h}
     {cases h}
    {cases h}
   {cases h}
  {cases h}
 {cases h}
def z3Z (a:CfgOk C)(b:MctOk C)(c:PctOk C)(d:TctOk C):GraftOk C:=⟨z1j a,z4m b,z4v c,z5a d⟩
end
section
variable {C:Cfg} {st st':St}
structure Agree (st st':St) (L:List Operand):Prop where
 ep:st'.ep=st.ep
 op:∀x∈L,st'.opnd x=st.opnd x
 id:∀x∈L,∀m,st.opnd x=some m->∀a∈zbD m,(∀n∈zbl a,zn st'.ro n=zn st.ro n)/\∀n∈zbs a,zn st'.lo n=zn st.lo n
variable {L:List Operand}
def Agree.at (h:Agree st st' L){x:Operand}(a:x∈L):st'.at x=st.at x:=by unfold St.at;rw[h.op x a]
def Agree.rootN (h:Agree st st' L){n:Nat}(a:zn st'.ro n=zn st.ro n):st'.root n=st.root n:=by unfold St.root;rw[a,h.ep]
def Held (st:St)(L:List Operand)(a:At):Prop:=∃x∈L,∃m,st.opnd x=some m/\a∈zbD m
def Agree.held (h:Agree st st' L){a:At}(b:Held st L a):(∀n∈zbl a,zn st'.ro n=zn st.ro n)/\∀n∈zbs a,zn st'.lo n=zn st.lo n:=by obtain⟨x,d,m,c,b⟩:=b;exact h.id x d m c a b
def zdX {x:Operand}{a:At}(b:x∈L)(h:st.at x=some a):Held st L a:=⟨x,b,_,zMh h,by simp[zbD,zS]⟩
def Agree.root (h:Agree st st' L){r:Nat}{p:List (Int×Nat)}(a:Held st L (.sl r p)):st'.root r=st.root r :=
 h.rootN ((h.held a).1 r (by simp[zbl]))
def Agree.node (h:Agree st st' L){r:Nat}{p:List (Int×Nat)}(a:Held st L (.sl r p))(q:List (Int×Nat)):st'.node r q=st.node r q:=by unfold St.node;rw[h.root a]
def Agree.rootE (h:Agree st st' L){r:Nat}{p:List (Int×Nat)}{i:Int}{o:Nat}(a:Held st L (.ep r p i o)):st'.root r=st.root r :=
 h.rootN ((h.held a).1 r (by simp[zbl]))
def Agree.nodeE (h:Agree st st' L){r:Nat}{p:List (Int×Nat)}{i:Int}{o:Nat}(a:Held st L (.ep r p i o))(q:List (Int×Nat)):st'.node r q=st.node r q:=by unfold St.node;rw[h.rootE a]
def Agree.loc (h:Agree st st' L){l o:Nat}(a:Held st L (.lp l o)):zn st'.lo l=zn st.lo l :=
 (h.held a).2 l (by simp[zbs])
def Agree.cvOf (h:Agree st st' L){a:At}(b:Held st L a):st'.cvOf a=st.cvOf a:=by cases a with|sl r p=>exact h.node b p|_=>rfl
def zln {c e:Type}{f g:c->Option e}:∀{l:List c},(∀a∈l,f a=g a)->zb6 f l=zb6 g l
 |[],_=>rfl
 |a::l,h=>by simp only[zb6];rw[h a (by simp),zln (l:=l) λb d=>h b (by simp[d])]
def Agree.avOf (h:Agree st st' L){x:Operand}(c:x∈L){m:MV}(b:st.opnd x=some m):st'.avOf m=st.avOf m:=by
 cases m with
 |und=>rfl
 |tup l=>rfl
 |v y=>rcases y with a|l;{simp only [St.avOf];rw[h.cvOf ⟨x,c,_,b,by simp[zbD,zS]⟩]};{simp only [St.avOf];rw[zln (f:=st'.cvOf) (g:=st.cvOf) λa d=>h.cvOf ⟨x,c,_,b,by simpa [zbD,zS] using d⟩]}
def Agree.give (h:Agree st st' L)(c:Option (Nat×List (Int×Nat)×Int)):∀(d:List At) (j:Nat),(∀a∈d,Held st L a)->st'.give c d j=st.give c d j
 |[],j,_=>rfl
 |a::d,j,g=>by have e:=Agree.give h c d (j+1) (λb i=>g b (by simp[i]));have f:=g a (by simp);cases a with|sl r q=>(cases q with|nil=>simp only[St.give,e,h.root f]|cons k q=>simp only[St.give,e,h.node f])|_=>simp only[St.give,e]
def Agree.giveV (h:Agree st st' L){x:Operand}(e:x∈L){y:TV}(d:st.opnd x=some (.v y))(b:Option (Nat×List (Int×Nat)×Int))(j:Nat):st'.give b (zS y) j=st.give b (zS y) j :=
 h.give b (zS y) j (λa c=>⟨x,e,_,d,by simpa [zbD] using c⟩)
def Agree.layParts (h:Agree st st' L){T:TypeId}:∀(a:List (Nat×Operand)) (b:List At),(∀x∈a,x.2∈L)->layParts C T st' a b=layParts C T st a b
 |[],_,_=>rfl
 |(f,x)::r,b,c=>by simp only[E.layParts];rw[h.op x<|c (f,x) (by simp)];split;{split;{exact Agree.layParts h r _ (λy d=>c y (by simp[d]))};{rfl}};{rfl}
def Agree.rowParts (h:Agree st st' L){t:Ty}:∀(a:List (Nat×Operand)) (l:List t.den) (b:List Nat),(∀x∈a,x.2∈L)->rowParts st' t a l b=rowParts st t a l b
 |[],_,_,_=>rfl
 |(i,x)::r,l,b,c=>by have d:=c (i,x) (by simp);simp only[E.rowParts];rw[h.op x d];cases e:st.opnd x with|none=>rfl|some m=>(cases m with|und=>rfl|tup _=>rfl|v y=>simp only;rw[h.giveV d e];split;{split;{split;{exact Agree.rowParts h r _ _ (λy f=>c y (by simp[f]))};{rfl}};{rfl}};{rfl})
def zOW (l:List (Nat×Root))(n:Nat):zn (l.map λx=>(x.1,zqX x.2)) n=(zn l n).map zqX:=by induction l with|nil=>rfl|cons a l b=>obtain⟨k,v⟩:=a;simp only[jC,zn];split;{rfl};{exact b}
def Agree.own1 (h:Agree st st' L):Agree st.own1 st'.own1 L :=
 ⟨h.ep,h.op,λx d m c a b=>⟨λn e=>by
  show zn (st'.ro.map λx=>(x.1,zqX x.2)) n=zn (st.ro.map λx=>(x.1,zqX x.2)) n
  rw[zOW,zOW,(h.id x d m c a b).1 n e],(h.id x d m c a b).2⟩⟩
def Agree.rowPartsZ (h:Agree st st' L){t:Ty}:∀(a:List (Nat×Operand)) (l:List t.den) (b:List Nat),(∀x∈a,x.2∈L)->rowPartsZ st' t a l b=rowPartsZ st t a l b
 |[],_,_,_=>rfl
 |(i,x)::r,l,b,c=>by have d:=c (i,x) (by simp);simp only[E.rowPartsZ];rw[h.op x d];cases e:st.opnd x with|none=>rfl|some m=>(cases m with|und=>rfl|tup _=>rfl|v y=>simp only;rw[h.own1.giveV d e];split;{split;{split;{exact Agree.rowPartsZ h r _ _ (λy f=>c y (by simp[f]))};{rfl}};{rfl}};{rfl})
def Agree.rowPartsV (h:Agree st st' L){t:Ty}:∀(a:List (Nat×Operand)) (l:List t.den),(∀x∈a,x.2∈L)->rowPartsV st' t a l=rowPartsV st t a l
 |[],_,_=>rfl
 |(i,x)::r,l,b=>by have c:=b (i,x) (by simp);simp only[E.rowPartsV];rw[h.op x c];cases d:st.opnd x with|none=>rfl|some m=>(cases m with|und=>rfl|tup _=>rfl|v y=>simp only;rw[h.avOf c d];split;{split;{split;{exact Agree.rowPartsV h r _ (λy e=>b y (by simp[e]))};{rfl}};{rfl}};{rfl})
end
section
variable {C:Cfg} {st st':St}
def z9k {o:Oper}{id:Nat}{T:TypeId}{x:Operand}(b:o.op = .load T x){L:List Operand}(c:x∈L)(h:Agree st st' L):r0 C st' o id=r0 C st o id:=by have f:=h.at c;simp only[r0,b,f];cases j:C.cty T with|none=>rfl|some g=>(cases e:st.at x with|none=>rfl|some a=>(cases a with|lp l d=>simp only[h.loc<|zdX c e]|ep r p i d=>simp only[h.nodeE<|zdX c e]|_=>rfl))
def z7t {o:Oper}{id:Nat}{T:TypeId}{a x:Operand}(n:o.op = .store T a x){L:List Operand}(u:x∈L)(g:a∈L)(h:Agree st st' L):r0 C st' o id=r0 C st o id:=by
 have z:=h.at g;have D:=h.op x u;simp only[r0,n,z,D];cases E:C.cty T with
 |none=>rfl
 |some A=>
  cases B:st.opnd x with
  |none=>
   obtain⟨w,c⟩:=A;have q:c=[]\/(∃k,c=[.i k])\/c=[.b]\/(∃t,c=[.s t])\/∃d f r,c=d::f::r:=by
    match c with
    |[]=>exact .inl rfl
    |[.i k]=>exact .inr (.inl ⟨k,rfl⟩)
    |[.b]=>exact .inr (.inr (.inl rfl))
    |[.s t]=>exact .inr (.inr<|.inr<|.inl ⟨t,rfl⟩)
    |d::f::r=>exact .inr (.inr<|.inr<|.inr ⟨d,f,r,rfl⟩)
   cases e:st.at a with
   |none=>rcases q with rfl|⟨k,rfl⟩|rfl|⟨t,rfl⟩|⟨d,f,r,rfl⟩<;>first|rfl|(cases d<;>rfl)
   |some y=>
    cases y with
    |lp l j=>rcases q with rfl|⟨k,rfl⟩|rfl|⟨t,rfl⟩|⟨d,f,r,rfl⟩;{rfl};{rfl};{rfl};{simp only [h.loc<|zdX g e]};{cases d<;>rfl}
    |_=>rcases q with rfl|⟨k,rfl⟩|rfl|⟨t,rfl⟩|⟨d,f,r,rfl⟩<;>first|rfl|(cases d<;>rfl)
  |some m=>cases m with|v y=>(cases e:st.at a with|none=>rfl|some b=>(cases b with|lp l j=>simp only[h.loc<|zdX g e]|ep r p i j=>simp only[h.rootE<|zdX g e,h.nodeE<|zdX g e,h.giveV u B]|_=>rfl))|_=>rfl
def zkD (a:st'.ep=st.ep):∀(b:List Nat),(∀k∈b,zn st'.ro k=zn st.ro k)->moved st' b=moved st b
 |[],_=>rfl
 |k::b,c=>by simp only[moved];rw[c k (by simp),a,zkD a b λq d=>c q (by simp[d])]
def zm8:∀(a:List Nat),(∀k∈a,zn st'.ro k=zn st.ro k)->zfo st' a=zfo st a
 |[],_=>rfl
 |k::a,b=>by simp only[zfo];rw[b k (by simp),zm8 a λq c=>b q (by simp[c])]
def z7s {o:Oper}{id:Nat}{T:TypeId}{x:Operand}{lo i:Option Operand}(j:o.op = .slice T x lo i none){L:List Operand}(g:x∈L)(f:∀y,lo=some y->y∈L)(d:∀y,i=some y->y∈L)(h:Agree st st' L):r0 C st' o id=r0 C st o id:=by have m:=h.at g;have ep:=h.ep;have sub:∀R t l,ze3 st' R t l=ze3 st R t l:=λR t l=>(by simp only[ze3,ep]);simp only[r0,j,m];cases e:st.at x with|none=>rfl|some a=>(cases a with|sl r p=>simp only[h.root<|zdX g e,h.node<|zdX g e,sub];(cases lo with|none=>(cases i with|none=>rfl|some y=>have c:∀R t l n,zG5 C st' id r p R t l n=zG5 C st id r p R t l n:=λR t l n=>(by have b:∀k∈[r],zn st'.ro k=zn st.ro k:=λk b=>(by simp only[qD]at b;subst b;exact(h.held<|zdX g e).1 k (by simp[zbl]));unfold zG5;rw[zkD h.ep [r] b,zm8 [r] b];simp only[sub]);simp only[h.at (d y rfl),c])|some z=>(cases i with|none=>have c:∀R t l n,zMn C st' id r p R t l n=zMn C st id r p R t l n:=λR t l n=>(by have b:∀k∈[r],zn st'.ro k=zn st.ro k:=λk b=>(by simp only[qD]at b;subst b;exact(h.held<|zdX g e).1 k (by simp[zbl]));unfold zMn;rw[zkD h.ep [r] b,zm8 [r] b];simp only[sub]);simp only[h.at (f z rfl),c]|some y=>simp only[h.at (f z rfl),h.at (d y rfl)]))|_=>rfl)
def z4c {a:Type}{b:Bool}{x y:a}(h:(if b=true then some x else none)=some y):x=y:=by cases b with|true=>simpa using h|false=>simp at h
def zMr {m:Option (Nat×List (Int×Nat)×Int)}:∀(f:List At) (j:Nat) (c:Bool) (g:LC) (e:List Nat),st.give m f j=some (c,g,e)->∀k∈e,At.sl k []∈f
 |[],j,c,g,e,h,k,b=>by simp only[St.give,qC,jR]at h;obtain⟨_,_,rfl⟩:=h;simp at b
 |a::f,j,c,g,e,h,k,b=>by simp only[St.give]at h;split at h;{cases h};{rename_i n i l hg;have d:=zMr f (j+1) n i l hg;split at h;{cases h;exact q0 _ (d k b)};{cases h;exact q0 _ (d k b)};{split at h;{have p:=z4c h;cases p;rcases qG.1 b with rfl|b;{simp};{exact q0 _ (d k b)}};{cases h}};{split at h;{split at h;{split at h;{cases h;exact q0 _ (d k b)};{cases h}};{cases h}};{cases h}};{cases h}}
def zGa {t:Ty}:∀(b:List (Nat×Operand)) (l:List t.den) (d:List Nat) (e:List t.den) (a:List Nat),rowParts st t b l d=some (e,a)->∀k∈a,k∈d\/∃x∈b,∃y,st.opnd x.2=some (.v y)/\At.sl k []∈zS y
 |[],l,d,e,a,h,k,f=>by simp only[rowParts,qC,jR]at h;obtain⟨_,rfl⟩:=h;exact .inl f
 |(i,x)::r,l,d,e,a,h,k,f=>by simp only[rowParts]at h;split at h;{rename_i y g;split at h;{rename_i m n hg;split at h;{split at h;{rcases zGa r _ _ e a h k f with c|⟨z,j,c⟩;{rcases jH.1 c with c|c;{exact .inr ⟨(i,x),by simp,y,g,zMr _ _ _ _ _ hg k c⟩};{exact .inl c}};{exact .inr ⟨z,by simp[j],c⟩}};{cases h}};{cases h}};{cases h}};{cases h}
def zC5 {t:Ty}:∀(b:List (Nat×Operand)) (l:List t.den) (d:List Nat) (e:List t.den) (a:List Nat),rowPartsZ st t b l d=some (e,a)->∀k∈a,k∈d\/∃x∈b,∃y,st.opnd x.2=some (.v y)/\At.sl k []∈zS y
 |[],l,d,e,a,h,k,f=>by simp only[rowPartsZ,qC,jR]at h;obtain⟨_,rfl⟩:=h;exact .inl f
 |(i,x)::r,l,d,e,a,h,k,f=>by simp only[rowPartsZ]at h;split at h;{rename_i y g;split at h;{rename_i m n hg;split at h;{split at h;{rcases zC5 r _ _ e a h k f with c|⟨z,j,c⟩;{rcases jH.1 c with c|c;{exact .inr ⟨(i,x),by simp,y,g,zMr _ _ _ _ _ hg k c⟩};{exact .inl c}};{exact .inr ⟨z,by simp[j],c⟩}};{cases h}};{cases h}};{cases h}};{cases h}
def zSi {o:Oper}{id:Nat}{T:TypeId}{n:Nat}{a:Array (Nat×Operand)}(g:o.op = .buildSlice T n a){L:List Operand}(c:∀x∈a.toList,x.2∈L)(h:Agree st st' L):r0 C st' o id=r0 C st o id:=by
 simp only[r0,g];cases p:C.sty T with
 |none=>rfl
 |some t=>
  simp only[h.rowParts a.toList _ _ c];cases e:rowParts st t a.toList (List.replicate n t.dflt) [] with
  |none=>
   simp only[h.rowPartsZ a.toList _ _ c];cases e:rowPartsZ st t a.toList (List.replicate n t.dflt) [] with
   |none=>simp only[h.rowPartsV a.toList _ c,h.ep]
   |some m=>
    obtain⟨l,j⟩:=m;simp only;rw[zm8 j (λk d=>by
     rcases zC5 _ _ _ _ _ e k d with b|⟨x,i,y,f,b⟩
     .simp at b
     .exact(h.held ⟨x.2,c x i,_,f,by simpa [zbD] using b⟩).1 k (by simp[zbl]))]
  |some m=>
   obtain⟨l,j⟩:=m;simp only;rw[zkD h.ep j (λk d=>by
    rcases zGa _ _ _ _ _ e k d with b|⟨x,i,y,f,b⟩
    .simp at b
    .exact(h.held ⟨x.2,c x i,_,f,by simpa [zbD] using b⟩).1 k (by simp[zbl]))]
def c_call {o:Oper}{id:Nat}{c:Call}(D:o.op = .call c){L:List Operand}(g:∀x∈c.args.toList,x∈L)(h:Agree st st' L):r0 C st' o id=r0 C st o id:=by
 simp only[r0,D];cases G:c.callee with
 |invoke r n=>rfl
 |value f=>
  cases f with
  |func f=>
   simp only;have e:zb6 (λx=>match st'.opnd x with|some v=>st'.avOf v|none=>none) c.args.toList=zb6 (λx=>match st.opnd x with|some v=>st.avOf v|none=>none) c.args.toList:=by
    refine zln ?_;intro x i;simp only[h.op x<|g x i];cases e:st.opnd x with
    |none=>rfl
    |some m=>exact h.avOf (g x i) e
   cases C.ctr f with
   |some j=>
    exact congrArg (λA=>(match A with
     |some q=>(match j q with
      |some (c,s)=>if (s.flatMap AV.cvs).length<=31 then some ({c,v:=zii (zcW s id),ro:=zcY (zcL f) s id}:Dl) else none
      |none=>none)
     |none=>none)) e
   |none=>
    cases d:c.args.toList with
    |nil=>cases C.tct f with|none=>rfl|some x=>obtain⟨own,E,j⟩:=x;cases own<;>rfl
    |cons F K=>
     rw[d] at e g;cases C.tct f with
     |none=>rfl
     |some x=>
      obtain⟨own,E,j⟩:=x;cases own with
      |cons y l=>rfl
      |nil=>
       dsimp only;rw[h.op F<|g F (by simp)]
       exact congrArg (λA=>(match st.opnd F,A with
        |some (.v I),some q=>(match j q with
         |some (c,s)=>if (s.flatMap AV.cvs).all CV.flat&&decide ((s.flatMap AV.cvs).length<=31) then some ({c,v:=zii (I::zcW s id)}:Dl) else none
         |none=>none)
        |_,_=>none)) e
  |_=>rfl
 |builtin b=>
  cases b with
  |len=>simp only;split;{rename_i x T d B;have i:=g x (by rw[d];simp);rw[h.at i];cases e:st.at x with|none=>rfl|some a=>(cases a with|sl r p=>simp only[h.node<|zdX i e]|_=>rfl)};{rfl}
  |min=>simp only;split;{rename_i x y d;rw[h.at<|g x (by rw[d];simp),h.at<|g y (by rw[d];simp)]};{rfl}
  |max=>simp only;split;{rename_i x y d;rw[h.at<|g x (by rw[d];simp),h.at<|g y (by rw[d];simp)]};{rfl}
  |append=>
   simp only;split
   .rename_i x y T T2 d B;have i:=g x (by rw[d];simp);have w:=g y (by rw[d];simp);rw[h.at i,h.at w];split
    .cases hT:C.sty T with
     |none=>rfl
     |some t=>
      cases e:st.at x with
      |none=>rfl
      |some a=>
       cases a with
       |sl r p=>
        cases p with
        |nil=>
         cases z:st.at y with
         |none=>rfl
         |some b=>
          cases b with
          |sl H J=>
           simp only[h.root<|zdX i e,h.root<|zdX w z,h.node<|zdX w z];rw[zkD h.ep [r] (λk u=>by
            simp only[qD]at u;subst u;exact(h.held<|zdX i e).1 k (by simp[zbl])),
            zkD h.ep [r,H] (λk u=>by
             simp only[qG,qN,or_false]at u;rcases u with rfl|rfl
             .exact(h.held<|zdX i e).1 k (by simp[zbl])
             .exact(h.held<|zdX w z).1 k (by simp[zbl]))]
          |_=>rfl
        |cons _ _=>rfl
       |_=>rfl
    {rfl}
   {rfl}
  |_=>rfl
def zVG {o:Oper}{id:Nat}(h:Agree st st' o.op.operands.toList):r0 C st' o id=r0 C st o id:=by
 cases d:o.op<;>rw [d]at h<;>simp only [Op.operands]at h
 case move x=>
  simp only[r0,d];split
  .rfl
  .rfl
  .rw [h.op x (by simp)]
 case assign x=>
  simp only[r0,d];split
  .rfl
  .rfl
  .rw [h.op x (by simp)]
 (case pick c a b=>simp only[r0,d,h.op a (by simp),h.op b (by simp),h.at (x:=c) (by simp)]);(case alloc T=>simp only[r0,d]);case box T x=>simp only[r0,d,h.op x (by simp)]
 case build T parts=>
  simp only[r0,d];have e:∀t,layParts C T st' parts.toList t=layParts C T st parts.toList t:=λt=>h.layParts parts.toList t (λx q=>by simp;exact⟨x.1,by simpa using q⟩)
  simp only[e]
 (case load T x=>exact z9k d (by simp) h);(case store T a x=>exact z7t d (by simp) (by simp) h);(case nilCheck x=>simp only[r0,d,h.at (x:=x) (by simp)]);(case binOp op T x y T2=>simp only[r0,d,h.op x (by simp),h.op y (by simp)]);(case unOp op T x=>simp only[r0,d,h.at (x:=x) (by simp)]);case convert a b x=>simp only[r0,d,h.at (x:=x) (by simp)]
 case makeFunc fn first caps=>
  cases fn with
  |func f=>
   simp only[r0,d];rw[zln (g:=λx=>match st.at x with|some (.lp l 0)=>some l|_=>none) (l:=caps.toList)];{rfl};intro x q;simp only[h.at (x:=x) (by simp;exact .inr (by simpa using q))];rfl
  |_=>simp only[r0,d]
 case makeSlice T x y=>simp only[r0,d,h.at (x:=x) (by simp),h.at (x:=y) (by simp)]
 case slice T x lo hi mx=>
  cases mx with
  |none=>exact z7s d (by simp) (λy u=>by simp[u]) (λy u=>by simp[u]) h
  |some m=>simp only[r0,d]
 (case fieldAddr T x f=>simp only[r0,d,h.at (x:=x) (by simp)]);case field T x f=>simp only[r0,d,h.op x (by simp)]
 case index T x y=>
  cases x with
  |const v=>cases v with|string s=>simp only[r0,d,h.at (x:=y) (by simp)]|_=>simp only[r0,d]
  |_=>simp only[r0,d]
 case indexAddr T x y=>
  have q:x ∈ #[x,y].toList:=by simp
  simp only[r0,d,h.at q,h.at (x:=y) (by simp)]
  cases e:st.at x with
  |none=>rfl
  |some a=>
   cases a with
   |sl r p=>
    have w:=h.node (zdX q e) p;cases z:st.at y with
    |none=>rfl
    |some b=>
     cases b with
     |i k n=>cases k<;>first|rfl|(simp only [w])
     |_=>rfl
   |_=>rfl
 (case extract x j=>simp only[r0,d,h.op x (by simp)]);(case call c=>exact c_call d (λx q=>by simp only[Call.operands,Array.toList_append,jH];exact .inr q) h);(case buildSlice T n parts=>exact zSi d (λx q=>by simp;exact⟨x.1,by simpa using q⟩) h);all_goals simp only [r0,d]
end
section
variable {C:Cfg} {w0 w w1:World} {S0:zV} {U:Nat->Prop} {st st1:St} {E E1:Env} {ts:Array Value} {sv:List (Array Value)}
def zdj (ops:Array Oper)(o:Oper)(st:St):Option Bool :=
 match o.guard with
 |none=>some true
 |some (j,a)=>match guardOf st ops j with
  |some .und=>some false
  |some (.v<|.at<|.b x)=>some (x==a)
  |_=>none
def zVM {a:Array Oper}{o:Oper}{d skip:St->Option Ans}{c:Ans}(h:guarded a o st d skip=some c) :
 (zdj a o st=some true/\d st=some c)\/(zdj a o st=some false/\skip (st.put o.dst .und)=some c):=by
 unfold guarded at h;split at h
 .rename_i hg;exact .inl ⟨by simp[zdj,hg],h⟩
 .rename_i j want hg;split at h
  .rename_i hm;exact .inr ⟨by simp[zdj,hg,hm],h⟩
  .rename_i x hm;have i:∃t,ziO a j=some t/\st.tm[t]?=some (.v<|.at<|.b x):=by unfold guardOf at hm;split at hm;{rename_i l e;split at hm;{rename_i t k;exact⟨t,by simp[ziO,e,k],hm⟩};{cases hm}};{cases hm}
   obtain⟨t,g,f⟩:=i;rw[g]at h;cases x<;>cases want<;>simp only [cond_true,cond_false]at h<;>rw [zUl f]at h
   .exact .inl ⟨by simp[zdj,hg,hm],h⟩
   .exact .inr ⟨by simp[zdj,hg,hm],h⟩
   .exact .inr ⟨by simp[zdj,hg,hm],h⟩
   .exact .inl ⟨by simp[zdj,hg,hm],h⟩
  .cases h
def zCp (p:Sim w0 S0 U st E ts sv w){a:Array Oper}{o:Oper}{b:Bool}(h:zdj a o st=some b):Region.wanted o (yielded a ts)=b:=by unfold zdj at h;split at h;{rename_i hg;cases h;simp[Region.wanted,hg]};{rename_i j q hg;have f:∀{m:MV},guardOf st a j=some m->∃e t v,a[j]?=some e/\e.dst=some t/\ts[t]?=some v/\VM w st E m v:=(by intro m c;unfold guardOf at c;split at c;{rename_i e l;split at c;{rename_i t r;have g:t<ts.size:=(by rw[p.tm.1];exact(qA.1 c).1);exact⟨e,t,ts[t],l,r,by simp[g],p.tm.2 t m _ c (by simp[g])⟩};{cases c}};{cases c});split at h;{rename_i c;cases h;obtain⟨e,t,v,i,k,n,d⟩:=f c;simp only[VM]at d;subst d;have:yielded a ts j=none:=(by simp[yielded,i,k,n,undef]);simp[Region.wanted,hg,this]};{rename_i x c;cases h;obtain⟨e,t,v,i,k,n,d⟩:=f c;simp only[VM,VT,VA]at d;subst d;have s:yielded a ts j=some x:=(by simp[yielded,i,k,n]);simp[Region.wanted,hg,s]};{cases h}}
abbrev Step:=Option Dl
def St.step (st:St)(b:Bool)(o:Oper):Step->St
 |some d=>st.effD b o.dst d
 |none=>st.put o.dst .und
inductive Trace (C:Cfg) (ops:Array Oper) (b:Bool) (base:Nat):Nat->List Step->List (Nat×Foot)->St->St->Prop
 |nil (i:Nat) (st:St):Trace C ops b base i [] [] st st
 |run {i:Nat} {o:Oper} {d:Dl} {ss:List Step} {fs:List (Nat×Foot)} {st st':St} (ho:ops[i]?=some o) (hg:zdj ops o st=some true) (hd:zkd C st o (base+32*i)=some d) (hc:d.c=true)
  (h:Trace C ops b base (i+1) ss fs (st.effD b o.dst d) st'):Trace C ops b base i (some d::ss) ((i,zfs C st ops o d)::fs) st st'
 |skip {i:Nat} {o:Oper} {ss:List Step} {fs:List (Nat×Foot)} {st st':St} (ho:ops[i]?=some o) (hg:zdj ops o st=some false)
  (h:Trace C ops b base (i+1) ss fs (st.put o.dst .und) st'):Trace C ops b base i (none::ss) ((i,zlK ops o)::fs) st st'
def zsb {ops:Array Oper}{z:List (List Nat)}{b:Bool}{base I:Nat}{k:St->Option Ans}{N:App->St->Option Ans}{M:Nat->St->Option Ans}{t:Ans}:∀(m i:Nat) (G:List (Nat×Foot)) (st:St),zti C ops z b base I k N M (List.range' i m) G st=some t->
 (∃ss g a,ss.length=m/\Trace C ops b base i ss g st a/\znN z (g.reverse++G)=true/\k a=some t)\/
 (∃ss g a o x,ss.length+1=m/\Trace C ops b base i ss g st a/\ops[i+ss.length]?=some o/\zqL C a o=some (true,x)/\b=true/\zCM ops z I (i+ss.length)=true/\x.dst<a.tm.length/\
  znN z ((i+ss.length,zfS a ops o zDN)::(g.reverse++G))=true/\N x (a.put o.dst<|.v<|.at .bad)=some t)\/
 (∃ss g a o,ss.length+1=m/\Trace C ops b base i ss g st a/\ops[i+ss.length]?=some o/\zXc o=true/\zCM ops z I (i+ss.length)=true/\zTb ops z (zYR z I<|i+ss.length) o=true/\
  znN z (g.reverse++G)=true/\M (i+ss.length) a=some t)
 | 0,i,G,st,h=>by simp only[List.range'_zero,zti]at h;split at h;{rename_i s;exact .inl ⟨[],[],st,rfl,.nil i st,by simpa using s,h⟩};{cases h}
 |m+1,i,G,st,h=>by
  simp only[vB,zti]at h;split at h;{cases h}
  .rename_i o ho;have O:=zVM h;clear h;rcases O with⟨hg,h⟩|⟨hg,h⟩
   .split at h
    .rename_i d hd;cases A:d.c with
     |false=>rw[A]at h;cases h
     |true=>rw[A]at h;simp only[cond_true]at h;rcases zsb m (i+1) _ _ h with⟨ss,g,a,n,p,j,q⟩|⟨ss,g,a,F,x,n,p,j,q,u,r,B,w,y⟩|⟨ss,g,a,F,n,p,j,q,u,r,w,y⟩;{exact .inl ⟨some d::ss,(i,zfs C st ops o d)::g,a,by simp[n],.run ho hg hd A p,by simpa using j,q⟩};{have e:i+1+ss.length=i+(some d::ss).length:=(by simp only[qX];omega);rw[e]at j r w;exact .inr (.inl ⟨some d::ss,(i,zfs C st ops o d)::g,a,F,x,by simp[<- n],.run ho hg hd A p,j,q,u,r,B,by simpa using w,y⟩)};{have e:i+1+ss.length=i+(some d::ss).length:=(by simp only[qX];omega);rw[e]at j u r y;exact .inr (.inr ⟨some d::ss,(i,zfs C st ops o d)::g,a,F,by simp[<- n],.run ho hg hd A p,j,q,u,r,by simpa using w,y⟩)}
    {split at h;{rename_i c x l D;split at h;{rename_i f;simp only[qE,jA]at f;obtain⟨⟨⟨P,E⟩,H⟩,s⟩:=f;cases A:c with|false=>rw[A]at h;cases h|true=>rw[A]at h D;simp only[cond_true]at h;have L:m=0:=(by simpa using l);subst L;exact .inr (.inl ⟨[],[],st,o,x,rfl,.nil i st,ho,D,P,E,H,by simpa using s,h⟩)};{cases h}};{rename_i l D;split at h;{rename_i f;simp only[qE]at f;obtain⟨⟨⟨J,E⟩,K⟩,s⟩:=f;have L:m=0:=(by simpa using l);subst L;exact .inr (.inr ⟨[],[],st,o,rfl,.nil i st,ho,J,E,K,by simpa using s,h⟩)};{cases h}};{cases h}}
   {rcases zsb m (i+1) _ _ h with⟨ss,g,a,n,p,j,q⟩|⟨ss,g,a,F,x,n,p,j,q,u,r,B,w,y⟩|⟨ss,g,a,F,n,p,j,q,u,r,w,y⟩;{exact .inl ⟨none::ss,(i,zlK ops o)::g,a,by simp[n],.skip ho hg p,by simpa using j,q⟩};{have e:i+1+ss.length=i+((none:Step)::ss).length:=(by simp only[qX];omega);rw[e]at j r w;exact .inr (.inl ⟨none::ss,(i,zlK ops o)::g,a,F,x,by simp[<- n],.skip ho hg p,j,q,u,r,B,by simpa using w,y⟩)};{have e:i+1+ss.length=i+((none:Step)::ss).length:=(by simp only[qX];omega);rw[e]at j u r y;exact .inr (.inr ⟨none::ss,(i,zlK ops o)::g,a,F,by simp[<- n],.skip ho hg p,j,q,u,r,by simpa using w,y⟩)}}
end
inductive Key where
 |tm (t:Nat)
 |ro (n:Nat)
 |lo (n:Nat)
inductive Item where
 |tm (m:MV)
 |ro (R:Root)
 |lo (l:List At)
def St.get (st:St):Key->Option Item
 |.tm t=>st.tm[t]?.map .tm
 |.ro n=>(zn st.ro n).map .ro
 |.lo n=>(zn st.lo n).map .lo
def wr (o:Oper):Step->Key->Prop
 |_,.tm t=>o.dst=some t
 |none,_=>False
 |some d,.ro n=>n∈d.ro.map (·.1)
 |some d,.lo n=>n∈d.lo.map (·.1)
section
variable {st st':St} {b:Bool} {o:Oper}
def zBY {a:Type}:∀{l:List (Nat×a)} {n:Nat},n∉l.map (·.1)->zn l n=none
 |[],_,_=>rfl
 |(k,v)::l,n,h=>by simp only[jC,qG,not_or]at h;simp only[zn];rw[if_neg (by simp;exact λe=>h.1 e.symm)];exact zBY h.2
def zBZ {b:Type}:∀{l:List (Nat×b)} {n:Nat},n∈l.map (·.1)->∃v,zn l n=some v
 |[],_,h=>by simp at h
 |(k,v)::l,n,h=>by simp only[zn];split;{exact⟨v,rfl⟩};{rename_i a;simp only[qJ]at a;simp only[jC,qG]at h;exact zBZ (h.resolve_left λe=>a e.symm)}
def z2a {m:MV}{d:Option Tmp}:(st.put d m).ro=st.ro:=by cases d<;>rfl
def z19 {m:MV}{d:Option Tmp}:(st.put d m).lo=st.lo:=by cases d<;>rfl
def z18 {m:MV}{d:Option Tmp}:(st.put d m).ep=st.ep:=by cases d<;>rfl
def zXt {m:MV}{d:Option Tmp}:(st.put d m).stk=st.stk:=by cases d<;>rfl
def zXs {m:MV}{d:Option Tmp}:(st.put d m).tm.length=st.tm.length:=by cases d<;>simp [St.put]
def z2c {m:MV}{d:Option Tmp}{t:Nat}:(st.put d m).tm[t]?=if d=some t then (if t<st.tm.length then some m else none) else st.tm[t]?:=by cases d with|none=>simp[St.put]|some e=>simp only[St.put,q9,qC];split;{rename_i e;subst e;rfl};{rfl}
def dv:Step->MV
 |some d=>d.v
 |none=>.und
def zXH {s:Step}{t:Nat}:(st.step b o s).tm[t]?=if o.dst=some t then (if t<st.tm.length then some (dv s) else none) else st.tm[t]?:=by cases s with|none=>exact z2c|some d=>exact z2c (st:={st with lo:=d.lo++st.lo,ro:=d.ro.map (λ(x:Nat×Root)=>(x.1,zfK b x.2))++st.ro})
def z4X {s:Step}:(st.step b o s).tm.length=st.tm.length:=by cases s with|none=>exact zXs|some d=>exact zXs (st:={st with lo:=d.lo++st.lo,ro:=d.ro.map (λ(x:Nat×Root)=>(x.1,zfK b x.2))++st.ro})
def zOf {s:Step}:(st.step b o s).ep=st.ep:=by cases s with|none=>exact z18|some d=>exact z18 (st:={st with lo:=d.lo++st.lo,ro:=d.ro.map (λ(x:Nat×Root)=>(x.1,zfK b x.2))++st.ro})
def zUT {s:Step}:(st.step b o s).stk=st.stk:=by cases s with|none=>exact zXt|some d=>exact zXt (st:={st with lo:=d.lo++st.lo,ro:=d.ro.map (λ(x:Nat×Root)=>(x.1,zfK b x.2))++st.ro})
def z4Y {s:Step}:(st.step b o s).nid=st.nid:=by cases s with|none=>exact zf9|some d=>exact zf9 (st:={st with lo:=d.lo++st.lo,ro:=d.ro.map (λ(x:Nat×Root)=>(x.1,zfK b x.2))++st.ro})
def dro (b:Bool):Step->List (Nat×Root)
 |some d=>d.ro.map (λ(x:Nat×Root)=>(x.1,zfK b x.2))
 |none=>[]
def dlo:Step->List (Nat×List At)
 |some d=>d.lo
 |none=>[]
def zOg {s:Step}:(st.step b o s).ro=dro b s++st.ro:=by cases s with|none=>exact z2a|some d=>exact z2a (st:={st with lo:=d.lo++st.lo,ro:=d.ro.map (λ(x:Nat×Root)=>(x.1,zfK b x.2))++st.ro})
def zXG {s:Step}:(st.step b o s).lo=dlo s++st.lo:=by cases s with|none=>exact z19|some d=>exact z19 (st:={st with lo:=d.lo++st.lo,ro:=d.ro.map (λ(x:Nat×Root)=>(x.1,zfK b x.2))++st.ro})
def z7l {s:Step}{n:Nat}:wr o s (.ro n)↔n∈(dro b s).map (·.1):=by cases s with|none=>simp[wr,dro]|some d=>simp[wr,dro,List.map_map,Function.comp_def]
def z7k {s:Step}{n:Nat}:wr o s (.lo n)↔n∈(dlo s).map (·.1):=by cases s with|none=>simp[wr,dlo]|some d=>simp[wr,dlo]
def step_other {s:Step}{a:Key}(h:¬ wr o s a):(st.step b o s).get a=st.get a:=by cases a with|tm t=>have c:¬ o.dst=some t:=(by cases s<;>exact h);simp only[St.get,zXH,if_neg c]|ro n=>rw[z7l (b:=b)]at h;simp only[St.get,zOg,zbz,zBY h]|lo n=>rw[z7k]at h;simp only[St.get,zXG,zbz,zBY h]
def zDB {s:Step}{κ:Key}(h:wr o s κ)(d:st.tm.length=st'.tm.length):(st.step b o s).get κ=(st'.step b o s).get κ:=by cases κ with|tm t=>have c:o.dst=some t:=(by cases s<;>exact h);simp only[St.get,zXH,if_pos c,d]|ro n=>rw[z7l (b:=b)]at h;obtain⟨v,a⟩:=zBZ h;simp only[St.get,zOg,zbz,a]|lo n=>rw[z7k]at h;obtain⟨v,a⟩:=zBZ h;simp only[St.get,zXG,zbz,a]
def zZQ {s:Step}{a:Key}(d:st.tm.length=st'.tm.length)(h:st.get a=st'.get a):(st.step b o s).get a=(st'.step b o s).get a:=by by_cases c:wr o s a;{exact zDB c d};{rw [step_other c,step_other c,h]}
def zbC (ops:Array Oper)(b:Bool)(X:Nat->Bool):Nat->List Step->St->St
 |_,[],st=>st
 |i,s::ss,st=>zbC ops b X (i+1) ss (if X i then (match ops[i]? with|some o=>st.step b o s|none=>st) else st)
def one (ops:Array Oper)(b:Bool)(X:Nat->Bool)(i:Nat)(s:Step)(st:St):St:=if X i then (match ops[i]? with|some o=>st.step b o s|none=>st) else st
def zD9 {ops:Array Oper}{X:Nat->Bool}{i:Nat}{s:Step}:(one ops b X i s st).tm.length=st.tm.length:=by unfold one;split;{split;{exact z4X};{rfl}};{rfl}
def znO {ops:Array Oper}{X:Nat->Bool}:∀(ss:List Step) (i:Nat) (st:St),(zbC ops b X i ss st).tm.length=st.tm.length
 |[],_,_=>rfl
 |s::ss,i,st=>(znO ss (i+1) _).trans (zD9 (X:=X) (i:=i) (s:=s))
def zqQ {ops:Array Oper}{X Y:Nat->Bool}{c:Key}:∀(ss:List Step) (i:Nat) (st st':St),st.tm.length=st'.tm.length->st.get c=st'.get c->
 (∀(k:Nat) (s:Step) (o:Oper),ss[k]?=some s->ops[i+k]?=some o->X (i+k)≠Y (i+k)->¬ wr o s c)->(zbC ops b X i ss st).get c=(zbC ops b Y i ss st').get c
 |[],_,_,_,_,h,_=>h
 |s::ss,i,st,st',g,h,j=>by
  have l:(one ops b X i s st).get c=(one ops b Y i s st').get c:=by unfold one;cases f:ops[i]? with|none=>cases X i<;>cases Y i<;>exact h|some o=>have a:=j 0 s o rfl f;simp only[j8]at a;cases m:X i<;>cases n:Y i<;>rw [m,n]at a;{exact h};{simp only [if_true,kL,if_false];rw[step_other<|a (by simp),h]};{simp only [if_true,kL,if_false];rw[step_other<|a (by simp),h]};{exact zZQ g h}
  exact zqQ ss (i+1) _ _ (((zD9 (b:=b) (ops:=ops) (X:=X) (i:=i) (s:=s) (st:=st)).trans g).trans (zD9 (b:=b) (ops:=ops) (X:=Y) (i:=i) (s:=s) (st:=st')).symm) l (λk r q p f d=>j (k+1) r q (by simpa using p) (by rw[<- f];congr 1;omega) (by
   have e:i+(k+1)=i+1+k:=by omega
   rw[e];exact d))
end
section
variable {st st':St} {b:Bool} {o:Oper}
def zJB {ops:Array Oper}{X:Nat->Bool}{κ:Key}:∀(ss:List Step) (i:Nat) (st:St),
 (∀(k:Nat) (s:Step) (o:Oper),ss[k]?=some s->ops[i+k]?=some o->X (i+k)=true->¬ wr o s κ)->(zbC ops b X i ss st).get κ=st.get κ
 |[],_,_,_=>rfl
 |s::ss,i,st,d=>by
  have f:(one ops b X i s st).get κ=st.get κ:=by unfold one;split;{rename_i a;split;{rename_i o c;exact step_other (d 0 s o rfl c a)};{rfl}};{rfl}
  exact(zJB ss (i+1) _ (λk j h g c a=>d (k+1) j h (by simpa using g) (by rw[<- c];congr 1;omega) (by
   have e:i+(k+1)=i+1+k:=by omega
   rw[e];exact a))).trans f
def zSO {ops:Array Oper}{X:Nat->Bool}{j:Nat}{s:Step}(r:X j=true)(t:ops[j]?=some o){κ:Key}(m:wr o s κ):∀(ss:List Step) (i:Nat) (st:St),i<=j->ss[j-i]?=some s->
 (∀(k:Nat) (c:Step) (u:Oper),ss[k]?=some c->ops[i+k]?=some u->j<i+k->X (i+k)=true->¬ wr u c κ)->(zbC ops b X i ss st).get κ=(st.step b o s).get κ
 |[],i,st,_,h,_=>by simp at h
 |c::ss,i,st,w,h,y=>by have a:∀(k:Nat) (l:Step) (g:Oper),ss[k]?=some l->ops[i+1+k]?=some g->j<i+1+k->X (i+1+k)=true->¬ wr g l κ:=(by intro k l g p f x d;have e:i+(k+1)=i+1+k:=(by omega);exact y (k+1) l g (by simpa using p) (by rw[e];exact f) (by omega) (by rw[e];exact d));by_cases v:i=j;{subst v;simp only[uE,qI,qC]at h;subst h;have n:=zJB (b:=b) (ops:=ops) (X:=X) (κ:=κ) ss (i+1) (one ops b X i c st) (λk l g p f d=>a k l g p f (by omega) d);have q:one ops b X i c st=st.step b o c:=(by simp only[one,r,t,if_true]);rw[q]at n;show (zbC ops b X (i+1) ss<|one ops b X i c st).get κ=_;rw[q];exact n};{have e:j-i=(j-(i+1))+1:=(by omega);rw[e,jQ]at h;have n:=zSO r t m ss (i+1) (one ops b X i c st) (by omega) h a;exact n.trans (zDB m zD9)}
def z09 {e:Array Oper}{X Y:Nat->Bool}{a j:Nat}{s:Step}(q:∀i,Y i=(X i||i==a+j))(r:e[a+j]?=some o){ss:List Step}{st:St}(t:ss[j]?=some s)(v:∀(k:Nat) (n:Step) (m:Oper),ss[k]?=some n->e[a+k]?=some m->j<k->X (a+k)=true->∀g,wr o s g->¬ wr m n g)(g:Key) :
 (zbC e b Y a ss st).get g=((zbC e b X a ss st).step b o s).get g:=by
 by_cases c:wr o s g
 .rw [zSO (X:=Y) (j:=a+j) (s:=s) (by rw[q];simp) r c ss a st (uL _ _) (by rw[Nat.add_sub_cancel_left];exact t) (fun k n m p d u f=>by
   refine v k n m p d (by omega) ?_ g c
   rw[q]at f;have:(a+k==a+j)=false:=by simp;omega
   rw[this,vA]at f;exact f)]
  exact zDB c (znO ss a st).symm
 .rw [step_other c];refine zqQ ss a st st rfl rfl (fun k n m p d l=>?_);have:k=j:=by rw[q]at l;by_cases h:k=j;{exact h};{have:(a+k==a+j)=false:=(by simp[h]);simp[this]at l}
  subst this;rw[r]at d;cases d;rw[t]at p;cases p;exact c
end
section
variable {C:Cfg} {w0 w w1:World} {S0:zV} {U:Nat->Prop} {st st':St} {E E1:Env} {ts:Array Value} {sv:List (Array Value)}
def zJI {t:Nat}(h:st'.get (.tm t)=st.get (.tm t)):st'.tm[t]?=st.tm[t]?:=by simp only[St.get]at h;cases a:st'.tm[t]? <;> cases b:st.tm[t]? <;> rw [a,b]at h<;>simp at h;{rw [h]}
def zCn {n:Nat}(h:st'.get (.ro n)=st.get (.ro n)):zn st'.ro n=zn st.ro n:=by simp only[St.get]at h;cases a:zn st'.ro n<;>cases b:zn st.ro n<;>rw [a,b]at h<;>simp at h;{rw [h]}
def zJH {n:Nat}(h:st'.get (.lo n)=st.get (.lo n)):zn st'.lo n=zn st.lo n:=by simp only[St.get]at h;cases a:zn st'.lo n<;>cases b:zn st.lo n<;>rw [a,b]at h<;>simp at h;{rw [h]}
def Sim.fewer (s:Sim w0 S0 U st E ts sv w)(F:∀t:Nat,st'.tm[t]?=st.tm[t]?)(d:∀n,zn st'.lo n=zn st.lo n)(k:st'.stk=st.stk)(a:∀n R,st'.root n=some R->st.root n=some R)(C:∀n R,zn st'.ro n=some R->∃v,zn st.ro n=some v)(B:∀n R e,zn st'.ro n=some R->R.ep=some e->e<=st'.ep):Sim w0 S0 U st' E ts sv w:=by
 have b:=s.mem;have T:Trans st E w st' E w (λ_=>True):=⟨λr _ G h=>⟨G,a r G h,rfl,λ_ _ h=>h⟩,λl _ i h=>⟨⟨i,by rw[<- d];exact h⟩,rfl⟩,rfl⟩
 have g:st'.tm=st.tm:=uB F;refine⟨⟨b.os,b.tape,b.output,b.size,b.keep,λr R h=>b.rep r R (a r R h),λr R h=>b.rlt r R (a r R h),λr R h=>b.mine r R (a r R h),λO r R h=>b.frz O r R (a r R h),
  λr R K v p q z=>b.apart r R K v (a r R p) q (a K v z),λl i M=>?_,λl P i y p q=>b.linj l P i y (by rw[<- d];exact p) (by rw[<- d];exact q),
  λl i r R p q=>b.lro l i r R (by rw[<- d];exact p) (a r R q),B,b.κ⟩,⟨λn R D=>?_,λn i D=>s.ids.lo n i (by rw[<- d];exact D),λm N=>s.ids.tm m (by rw[<- g];exact N),λf L=>s.ids.stk f (by rw[<- k];exact L)⟩,?_,?_⟩
 {obtain⟨p,x,e,q,z,H⟩:=b.loc l i (by rw[<- d];exact M);exact⟨p,x,e,q,z,λj c u I J=>⟨(H j c u I J).1,VA.tr T (λ_ _=>trivial) (H j c u I J).2⟩⟩};{obtain⟨v,A⟩:=C n R D;exact s.ids.ro n v A};{rw [g];exact aC.tr T (λ_ _ _ _=>trivial) s.tm};{rw [k];exact Stack.tr T (λ_ _ _ _ _ _=>trivial) s.stk}
def Sim.same (d:Sim w0 S0 U st E ts sv w)(hg:∀f,st'.get f=st.get f)(b:st'.stk=st.stk)(a:st'.ep=st.ep):Sim w0 S0 U st' E ts sv w:=by have c:∀n,zn st'.ro n=zn st.ro n:=λn=>zCn (hg<|.ro n);refine d.fewer (λt=>zJI (hg<|.tm t)) (λn=>zJH (hg<|.lo n)) b (λn R h=>?_) (λn R h=>⟨R,by rw[<- c];exact h⟩) (λn R e h g=>by rw[a];exact d.mem.epo n R e (by rw[<- c];exact h) g);simpa only [St.root,c,a] using h
end
section
variable {C:Cfg} {ops:Array Oper} {b:Bool} {base:Nat}
def zTT {s:List Nat}{x:Nat}:znt s x=true↔x∈s:=by unfold znt;rw[uK];constructor;{rintro⟨y,a,h⟩;rw[kS h];exact a};{exact λh=>⟨x,h,Nat.beq_refl x⟩}
def zzn {s:List Nat}:∀{l:List Nat} {x:Nat},x∈addN l s↔x∈l\/x∈s
 |[],x=>by simp[addN]
 |a::l,x=>by
  have c:=λy=>@zzn s l y;show x∈cond (znt (addN l s) a) (addN l s) (a::addN l s)↔_
  cases h:znt (addN l s) a with
  |true=>rw[cond_true,c,qG];constructor;{rintro (b|b);{exact .inl (.inr b)};{exact .inr b}};{rintro ((b|b)|b);{rw [b];exact(c a).1 (zTT.1 h)};{exact .inl b};{exact .inr b}}
  |false=>rw[cond_false,qG,c,qG,or_assoc]
def zL9 {b:List (List Nat)}:∀{l:List Edge} {e:Edge},e∈l->Region.binds .any e=true->
 e.on∈l.foldr (λe s=>cond (Region.binds .any e) (cond (znt s e.on) s<|addN (b.getD e.on []) (e.on::s)) s) []
 |a::l,e,c,f=>by rw[List.foldr_cons];generalize h:l.foldr (λe s=>cond (Region.binds .any e) (cond (znt s e.on) s<|addN (b.getD e.on []) (e.on::s)) s) []=s;have up:∀x,x∈s->x∈cond (Region.binds .any a) (cond (znt s a.on) s<|addN (b.getD a.on []) (a.on::s)) s:=λx d=>(by cases Region.binds .any a with|false=>exact d|true=>(cases znt s a.on with|true=>exact d|false=>exact zzn.2 (.inr<|q0 _ d)));rcases qG.1 c with rfl|c;{rw [f,cond_true];cases g:znt s e.on with|true=>exact zTT.1 g|false=>exact zzn.2 (.inr jF)};{exact up _ (h ▸ zL9 c f)}
def zMa {b:List (List Nat)}:∀{l:List Edge} {j:Nat},j∈l.foldr (λe s=>cond (Region.binds .any e) (cond (znt s e.on) s<|addN (b.getD e.on []) (e.on::s)) s) []->
 ∃e∈l,Region.binds .any e=true/\(j=e.on\/j∈b.getD e.on [])
 |[],j,h=>by cases h
 |a::l,j,h=>by
  rw[List.foldr_cons]at h;have up:j∈l.foldr (λe s=>cond (Region.binds .any e) (cond (znt s e.on) s<|addN (b.getD e.on []) (e.on::s)) s) []->∃e∈a::l,Region.binds .any e=true/\(j=e.on\/j∈b.getD e.on []):=λh=>by obtain⟨e,f,g⟩:=zMa h;exact⟨e,q0 _ f,g⟩
  cases c:Region.binds .any a with
  |false=>rw[c]at h;exact up h
  |true=>
   rw[c,cond_true]at h;cases d:znt (l.foldr (λe s=>cond (Region.binds .any e) (cond (znt s e.on) s<|addN (b.getD e.on []) (e.on::s)) s) []) a.on with
   |true=>rw[d]at h;exact up h
   |false=>rw[d,cond_false]at h;rcases zzn.1 h with h|h;{exact⟨a,jF,c,.inr h⟩};{rcases qG.1 h with h|h;{exact⟨a,jF,c,.inl h⟩};{exact up h}}
def zMj (i:Nat)(r:List Nat)(a:List (List Nat)):zit ops (i::r) a=zit ops r (a++[waits ops a i]):=rfl
def zxg:∀(m:Nat) (a:List (List Nat)),∃l,zit ops (List.range' a.length m) a=a++l/\l.length=m/\
 ∀k,k<m->(a++l)[a.length+k]?=some (waits ops ((a++l).take (a.length+k))<|a.length+k)
 | 0,a=>⟨[],by simp[zit],rfl,λk h=>by omega⟩
 |m+1,a=>by obtain⟨l,c,g,d⟩:=zxg m (a++[waits ops a a.length]);have b:(a++[waits ops a a.length]).length=a.length+1:=(by simp);rw[b]at c d;refine⟨waits ops a a.length::l,?_,by simp[g],λk h=>?_⟩;{rw [vB,zMj,c];simp};{have e:a++waits ops a a.length::l=(a++[waits ops a a.length])++l:=(by simp);cases k with|zero=>rw[j8,qP<|qW _,uE,kN rfl];rfl|succ k=>have f:a.length+(k+1)=a.length+1+k:=(by omega);rw[e,f];exact d k (by omega)}
def zX1 {i:Nat}(c:i<ops.size):(zit ops (List.range ops.size) []).getD i []=waits ops ((zit ops (List.range ops.size) []).take i) i:=by obtain⟨l,a,d,b⟩:=zxg (ops:=ops) ops.size [];simp only[k5,jS,jW]at a b;rw[uM,a,kG,b i c];rfl
structure Pinned (n:Nat) (cl:List (List Nat)) (m:Nat):Prop where
 full:∀j,j<m->j∈cl.getD m []
 wait:∀k,m<k->k<n->m∈cl.getD k []
def zwD {n m:Nat}{a:List (List Nat)}(h:pinned n a m=true):Pinned n a m:=by unfold pinned z1d at h;simp only[qE,qO,kR,jO,jA,List.mem_range']at h;refine⟨h.1,λk b c=>h.2 k ⟨k-(m+1),by omega,by omega⟩⟩
def zrQ {n m:Nat}{a:List (List Nat)}{p:Bool}{r:List Bool}(h:p::r=(zhX n a).drop m):m<n/\p=pinned n a m/\r=(zhX n a).drop (m+1):=by have b:m<(zhX n a).length:=(by rcases uH m (zhX n a).length with c|c;{exact c};{rw [List.drop_eq_nil_of_le c]at h;cases h});rw[kC b]at h;simp only[List.cons.injEq]at h;refine⟨by simpa [zhX] using b,?_,h.2⟩;rw[h.1];simp[zhX]
def zUi {n m:Nat}{a:List (List Nat)}(h:[]=(zhX n a).drop m):n<=m:=by have:=List.drop_eq_nil_iff.1 h.symm;simpa [zhX] using this
def zPX {n:Nat}{a:List (List Nat)}:∀(r:List Bool) (m:Nat),m<=n->r=(zhX n a).drop m->
 m+zco r<=n/\r.drop (zco r)=(zhX n a).drop (m+zco r)/\(m+zco r<n->Pinned n a (m+zco r))
 |[],m,c,h=>by have:=zUi h;refine⟨by simp[zco];omega,by simpa [zco] using h,λb=>?_⟩;simp[zco]at b;omega
 |true::r,m,c,h=>by obtain⟨i,j,_⟩:=zrQ h;refine⟨by simp[zco];omega,by simpa [zco] using h,λ_=>?_⟩;simp only[zco,j8];exact zwD j.symm
 |false::r,m,c,h=>by obtain⟨i,_,k⟩:=zrQ h;obtain⟨d,f,g⟩:=zPX r (m+1) (by omega) k;have e:m+zco (false::r)=m+1+zco r:=(by simp only[zco];omega);rw[e];refine⟨d,?_,g⟩;rw[<- f];rfl
def zvi {X:Nat->Bool}:∀(ss:List Step) (i:Nat) (a:St),(∀k,i<=k->X k=false)->zbC ops b X i ss a=a
 |[],_,_,_=>rfl
 |s::ss,i,a,h=>by simp only[zbC];rw[h i<|qW _];simp only[kL,if_false];exact zvi ss (i+1) a (λk c=>h k (by omega))
def zqR {X Y:Nat->Bool}:∀(ss:List Step) (i:Nat) (a:St),(∀k,i<=k->k<i+ss.length->X k=Y k)->zbC ops b X i ss a=zbC ops b Y i ss a
 |[],_,_,_=>rfl
 |s::ss,i,a,h=>by simp only[zbC];rw[h i (qW _) (by simp)];exact zqR ss (i+1) _ (λk d c=>h k (by omega) (by simp only[qX];omega))
def At1 (C:Cfg)(ops:Array Oper)(base i:Nat)(o:Oper)(S:St)(f:Foot):Step->Prop
 |some d=>zdj ops o S=some true/\zkd C S o (base+32*i)=some d/\d.c=true/\f=zfs C S ops o d
 |none=>zdj ops o S=some false/\f=zlK ops o
def zVk {i:Nat}{ss:List Step}{m:List (Nat×Foot)}{l c:St}(h:Trace C ops b base i ss m l c):∀(k:Nat) (s:Step),ss[k]?=some s->
 ∃o f,ops[i+k]?=some o/\(i+k,f)∈m/\At1 C ops base (i+k) o (zbC ops b (λj=>decide (j<i+k)) i ss l) f s:=by
 induction h with
 |nil i l=>intro k s a;simp at a
 |run g hg v u h r=>rename_i i o d ss m l c;intro k s a;cases k with|zero=>simp only[qI,qC]at a;subst a;refine⟨o,_,g,jF,?_⟩;rw[zvi _ _ _ (λk w=>by simp;omega)];exact⟨hg,v,u,rfl⟩|succ k=>obtain⟨t,f,n,p,q⟩:=r k s (by simpa using a);have e:i+(k+1)=i+1+k:=(by omega);refine⟨t,f,by rw[e];exact n,by rw[e];exact q0 _ p,?_⟩;rw[e];simp only[zbC,g];rw[if_pos (by simp;omega)];exact q
 |skip g hg h r=>rename_i i o ss m l c;intro k s a;cases k with|zero=>simp only[qI,qC]at a;subst a;refine⟨o,_,g,jF,?_⟩;rw[zvi _ _ _ (λk w=>by simp;omega)];exact⟨hg,rfl⟩|succ k=>obtain⟨t,f,n,p,q⟩:=r k s (by simpa using a);have e:i+(k+1)=i+1+k:=(by omega);refine⟨t,f,by rw[e];exact n,by rw[e];exact q0 _ p,?_⟩;rw[e];simp only[zbC,g];rw[if_pos (by simp;omega)];exact q
def zP9 {i:Nat}{ss:List Step}{f:List (Nat×Foot)}{e a:St}(h:Trace C ops b base i ss f e a):a=zbC ops b (λ_=>true) i ss e:=by induction h with|nil i e=>rfl|run c hg j g h d=>simp only[zbC,c,if_true];exact d|skip c hg h d=>simp only[zbC,c,if_true];exact d
def z1P {X:Nat->Bool}{i:Nat}{s:Step}{a:St}:(one ops b X i s a).ep=a.ep:=by unfold one;split;{split;{exact zOf};{rfl}};{rfl}
def z8B {X:Nat->Bool}{i:Nat}{s:Step}{a:St}:(one ops b X i s a).stk=a.stk:=by unfold one;split;{split;{exact zUT};{rfl}};{rfl}
def z8A {X:Nat->Bool}{i:Nat}{s:Step}{a:St}:(one ops b X i s a).nid=a.nid:=by unfold one;split;{split;{exact z4Y};{rfl}};{rfl}
def zhT {X:Nat->Bool}:∀(ss:List Step) (i:Nat) (a:St),(zbC ops b X i ss a).ep=a.ep
 |[],_,_=>rfl
 |s::ss,i,a=>(zhT ss (i+1) _).trans (z1P (X:=X) (i:=i) (s:=s))
def zrE {X:Nat->Bool}:∀(ss:List Step) (i:Nat) (a:St),(zbC ops b X i ss a).stk=a.stk
 |[],_,_=>rfl
 |s::ss,i,a=>(zrE ss (i+1) _).trans (z8B (X:=X) (i:=i) (s:=s))
def zCl {X:Nat->Bool}:∀(ss:List Step) (i:Nat) (a:St),(zbC ops b X i ss a).nid=a.nid
 |[],_,_=>rfl
 |s::ss,i,a=>(zCl ss (i+1) _).trans (z8A (X:=X) (i:=i) (s:=s))
def Dead (a:St):Prop:=∀n R e,zn a.ro n=some R->R.ep=some e->e<a.ep
def z2G {o:Oper}{s:Step}{c:St}(h:Dead c)(m:0<c.ep):Dead (c.step true o s):=by
 intro n R e b a;rw[zOf];rw[zOg,zbz]at b;split at b
 .rename_i x hx;cases b;cases s with
  |none=>cases hx
  |some d=>
   have g:=znp hx;simp only[dro,jJ]at g;obtain⟨⟨k,i⟩,_,f⟩:=g;simp only[jR]at f;obtain⟨_,rfl⟩:=f;unfold zfK at a;split at a;{simp only [qC]at a;omega}
   .rename_i hne;exact absurd a (by
     cases l:i.ep with
     |none=>simp
     |some j=>exact absurd l (hne j rfl))
 {exact h n R e b a}
def zy0 {X:Nat->Bool}:∀(ss:List Step) (i:Nat) (a:St),Dead a->0<a.ep->Dead (zbC ops true X i ss a)
 |[],_,_,h,_=>h
 |s::ss,i,a,h,b=>by refine zy0 (X:=X) ss (i+1) (one ops true X i s a) ?_ (by rw[z1P];exact b);unfold one;split;{split;{exact z2G h b};{exact h}};{exact h}
end
section
variable {C:Cfg} {ops:Array Oper} {b:Bool} {base:Nat}
def Foot.reads (f:Foot):Key->Prop
 |.tm t=>t∈f.tm
 |.ro n=>n∈f.ro
 |.lo n=>n∈f.lo
def Foot.writes (f:Foot):Key->Prop
 |.tm t=>f.dst=some t
 |.ro n=>n∈f.wro
 |.lo n=>n∈f.wlo
def zqM {a c:List Nat}(h:zB1 a c=true):∀x∈a,x∉c:=by intro x b;have:=qO.1 h x b;simpa using this
def apart_spec {x y:Foot}(h:x.apart y=true):(∀a,x.writes a->¬ y.reads a/\¬ y.writes a)/\(∀a,y.writes a->¬ x.reads a):=by unfold Foot.apart at h;simp only[qE]at h;obtain⟨⟨⟨⟨⟨c,d⟩,e⟩,f⟩,g⟩,i⟩:=h;refine⟨λa b=>?_,λa b=>?_⟩;{cases a with|tm t=>simp only[Foot.writes]at b;rw[b]at c;simp only[qE,jI,beq_eq_false_iff_ne,jO,decide_eq_false_iff_not]at c;exact⟨c.1,c.2⟩|ro n=>have:=zqM e n b;simp only[jH,not_or] at this;exact this|lo n=>have:=zqM g n b;simp only[jH,not_or] at this;exact this};{cases a with|tm t=>simp only[Foot.writes]at b;rw[b]at d;simpa [Foot.reads] using d|ro n=>exact zqM f n b|lo n=>exact zqM i n b}
def zB2 {i:Nat}{o:Oper}{S:St}{f:Foot}{s:Step}(h:At1 C ops base i o S f s)(a:Key):wr o s a↔f.writes a:=by cases s with|none=>obtain⟨_,rfl⟩:=h;cases a<;>simp [wr,Foot.writes,zlK]|some d=>obtain⟨_,_,_,rfl⟩:=h;cases a<;>simp [wr,Foot.writes,zfs,zfS]
def Does (C:Cfg)(ops:Array Oper)(base i:Nat)(o:Oper)(S:St):Step->Prop
 |some d=>zdj ops o S=some true/\zkd C S o (base+32*i)=some d/\d.c=true
 |none=>zdj ops o S=some false
def zxn {o:Oper}{S a:St}(h:∀t∈zxo ops o,a.tm[t]?=S.tm[t]?):zdj ops o a=zdj ops o S:=by unfold zdj;cases hg:o.guard with|none=>rfl|some f=>obtain⟨j,b⟩:=f;simp only;have e:guardOf a ops j=guardOf S ops j:=(by unfold guardOf;cases d:ops[j]? with|none=>rfl|some g =>simp only;(cases c:g.dst with|none=>rfl|some t=>simp only;exact h t (by simp[zxo,hg,ziO,d,c])));rw[e]
def zZe {S a:St}(b:a.ep=S.ep){n:Nat}(c:zn a.ro n=zn S.ro n):a.root n=S.root n:=by unfold St.root;rw[c,b]
def zO3 {S d:St}(c:d.ep=S.ep):∀(own:List Bool) (cells:List At),(∀a∈cells,∀n∈zbl a,zn d.ro n=zn S.ro n)->d.blk own cells=S.blk own cells
 |[],[],_=>rfl
 |[],_::_,_=>rfl
 |_::_,[],_=>rfl
 |o::ms,a::r,h=>by have g:=zO3 c ms r λb f=>h b (q0 _ f);have e:=h a jF;simp only[St.blk];rw[g];cases a with|sl q p=>(cases p with|nil=>simp only[zZe c<|e q (by simp[zbl])]|cons x p=>rfl)|_=>rfl
def zCK {S c:St}(a:c.ep=S.ep):∀(b:List Nat),(∀k∈b,zn c.ro k=zn S.ro k)->killed c b=killed S b
 |[],_=>rfl
 |k::b,h=>by simp only[killed];rw[h k jF,zCK a b λj d=>h j (q0 _ d),a]
def zGO {c:Type}{p q:c->Bool}:∀{l:List c},(∀a∈l,p a=q a)->l.all p=l.all q
 |[],_=>rfl
 |a::l,h=>by rw[k9,k9,h a jF,zGO λb d=>h b (q0 _ d)]
def zZ4 {S c:St}{L:List Operand}(h:Agree S c L){b:List Nat}{x:Operand}(f:x∈L){m:MV}(d:S.opnd x=some m):c.avF b m=S.avF b m:=by unfold St.avF;have e:zDM c b m=zDM S b m:=(by unfold zDM;refine zGO λa g=>zGO λr i=>?_;rw[h.rootN<|(h.id x f m d a g).1 r i]);rw[e,h.avOf f d]
def zUg {S d:St}{o:Oper}{id:Nat}(h:Agree S d (callArgs o))(q:∀x∈callArgs o,∀l p,S.at x=some (.lp l p)->∀cells,zn S.lo l=some cells->∀a∈cells,∀n∈zbl a,zn d.ro n=zn S.ro n):zlr C d o id=zlr C S o id:=by unfold zlr;cases zjS C o with|none=>rfl|some y=>obtain⟨own,E⟩:=y;simp only;(cases z:callArgs o with|nil=>rfl|cons x t=>rw[z]at h q;simp only[zN6];have f:d.at x=S.at x:=h.at jF;rw[f];split;{rename_i l r;have i:zn d.lo l=zn S.lo l:=h.loc (zdX jF r);rw[i];split;{rename_i cells c;have b:=q x jF l 0 r cells c;rw[zO3 h.ep own cells b];split;{rename_i u e w;have B:=zSe own cells u e w;have g:killed d e=killed S e:=zCK h.ep e λk g=>(by obtain⟨j,_,A⟩:=B.ownk k g;exact b _ (qH A) k (by simp[zbl]));have v:zb6 (zR9 d e) t=zb6 (zR9 S e) t:=(by refine zln λy s=>?_;unfold zR9;rw[h.op y<|q0 _ s];cases D:S.opnd y with|none=>rfl|some m=>exact zZ4 h (q0 _ s) D);rw[v,g]};{rfl}};{rfl}};{rfl})
def zwt {o:Oper}:∀x∈callArgs o,x∈o.op.operands.toList:=by
 intro x a;unfold callArgs at a;split at a
 .rename_i c hc;rw[hc];simp only[Op.operands,Call.operands];simp
  first
   |exact .inr (by simpa using a)
   |exact .inl (by simpa using a)
   |simp_all
 {cases a}
def zSa {i:Nat}{o:Oper}{S S':St}{f:Foot}{s:Step}(h:At1 C ops base i o S f s)(A:S'.ep=S.ep)(w:∀k,f.reads k->S'.get k=S.get k):Does C ops base i o S' s:=by
 cases s with
 |none=>obtain⟨E,rfl⟩:=h;show zdj ops o S'=some false;rw[zxn (S:=S) λt z=>zJI (w (.tm t) (by simpa [Foot.reads,zlK] using z))];exact E
 |some d=>
  obtain⟨E,M,N,rfl⟩:=h;have B:∀t,t∈zos o++zxo ops o->S'.tm[t]?=S.tm[t]?:=λt z=>zJI (w (.tm t) z);have v:∀x∈o.op.operands.toList,S'.opnd x=S.opnd x:=(by intro x c;cases x with|tmp t=>have z:t∈zos o:=(by unfold zos;exact uU.2 ⟨_,c,rfl⟩);simp only[St.opnd,B t<|j6 _ z]|_=>rfl);refine⟨?_,?_,N⟩;{rw [zxn (S:=S) λt z=>B t (kK _ z)];exact E}
  .rw [<- M];cases b:zvw o with
   |true=>unfold zvw at b;split at b;{rename_i t g;have e:=v (.tmp t) (by rw[g];simp[Op.operands]);have L:r0 C S' o (base+32*i)=r0 C S o (base+32*i):=(by simp only[r0,g,e]);have H:zjS C o=none:=(by unfold zjS;rw[g]);unfold zkd;rw[L];cases r0 C S o (base+32*i) with|some K=>rfl|none=>simp only[zlr,H]};{cases b}
   |false=>
   have w:∀k,(zfS S ops o d).reads k\/(∃n,k = .ro n/\n∈(zfS S ops o d).ro++cond (zjS C o).isSome (zCf S o) [])->S'.get k=S.get k:=(by intro k j;refine w k ?_;rcases j with j|⟨n,rfl,u⟩;{cases k with|tm t=>exact j|ro n=>show n∈(zfs C S ops o d).ro;unfold zfs;rw[b];exact j6 _ j|lo n=>show n∈(zfs C S ops o d).lo;unfold zfs;rw[b];exact j};{show n∈(zfs C S ops o d).ro;unfold zfs;rw[b];exact u});have F:∀x∈o.op.operands.toList,∀m,S.opnd x=some m->∀a∈zbD m,a∈zsV S o:=λx c m r a q=>(by unfold zsV;exact qR.2 ⟨m,uU.2 ⟨x,c,r⟩,q⟩);have I:Agree S S' o.op.operands.toList:=⟨A,v,λx c m r a q=>⟨λn u=>zCn (w (.ro n)<|.inl<|qR.2 ⟨a,F x c m r a q,u⟩),λn u=>zJH (w (.lo n)<|.inl<|qR.2 ⟨a,F x c m r a q,u⟩)⟩⟩;unfold zkd;rw[zVG I];cases O:r0 C S o (base+32*i) with|some K=>rfl|none=>simp only;(cases J:zjS C o with|none=>simp only[zlr,J]|some y=>refine zUg ⟨A,λx c=>v x (zwt x c),λx c m r a q=>I.id x (zwt x c) m r a q⟩ λx c l D P cells p a q n u=>?_;refine zCn (w (.ro n)<|.inr ⟨n,rfl,?_⟩);show n∈(zfS S ops o d).ro++cond (zjS C o).isSome (zCf S o) [];rw[J];refine kK _ ?_;show n∈zCf S o;unfold zCf;refine qR.2 ⟨.lp l D,?_,?_⟩;{obtain⟨m,r,G⟩:∃m,S.opnd x=some m/\At.lp l D∈zbD m:=⟨_,zMh P,by simp[zbD,zS]⟩;exact F x (zwt x c) m r _ G};{simp only [p];exact qR.2 ⟨a,q,u⟩})
structure Free (C:Cfg) (ops:Array Oper) (cl:List (List Nat)) (b:Bool) (base a:Nat) (ss:List Step) (st0:St):Prop where
 at1:∀i s,ss[i]?=some s->∃o f,ops[a+i]?=some o/\At1 C ops base (a+i) o (zbC ops b (fun j=>decide (j<a+i)) a ss st0) f s
 apart:∀i k s s' o o' f f',ss[i]?=some s->ss[k]?=some s'->ops[a+i]?=some o->ops[a+k]?=some o'->At1 C ops base (a+i) o (zbC ops b (fun j=>decide (j<a+i)) a ss st0) f s->
  At1 C ops base (a+k) o' (zbC ops b (fun j=>decide (j<a+k)) a ss st0) f' s'->i<k->a+i∉cl.getD (a+k) []->f.apart f'=true
def zkx (a:List (List Nat))(X:Nat->Bool):Prop:=∀k,X k=true->∀j∈a.getD k [],X j=true
variable {cl:List (List Nat)} {ss:List Step} {st0:St} {a:Nat}
def zGP {i:Nat}{o:Oper}{S:St}{f a:Foot}{s:Step}(h:At1 C ops base i o S f s)(b:At1 C ops base i o S a s):f=a:=by cases s with|none=>rw[h.2,b.2]|some d=>rw[h.2.2.2,b.2.2.2]
def zJG (F:Free C ops cl b base a ss st0){X:Nat->Bool}(D:zkx cl X){i:Nat}{s:Step}(y:ss[i]?=some s)(d:X (a+i)=false)(E:∀j∈cl.getD (a+i) [],X j=true) :
 ∃o f,ops[a+i]?=some o/\At1 C ops base (a+i) o (zbC ops b (λj=>decide (j<a+i)) a ss st0) f s/\∀m,f.reads m->(zbC ops b X a ss st0).get m=(zbC ops b (λj=>decide (j<a+i)) a ss st0).get m:=by
 obtain⟨o,f,x,r⟩:=F.at1 i s y;refine⟨o,f,x,r,λm q=>?_⟩;refine zqQ ss a st0 st0 rfl rfl (λk z B u l g G=>?_);obtain⟨H,A,n,t⟩:=F.at1 k z u;rw[l]at n;cases n;have p:=(zB2 t m).1 G
 by_cases v:k<i
 .have hXk:X (a+k)=false:=by have c:a+k<a+i:=(by omega);simp only[c,decide_true]at g;simpa using g
  have w:a+k∉cl.getD (a+i) []:=λh=>by rw[E (a+k) h]at hXk;cases hXk
  exact((apart_spec<|F.apart k i z s B o A f u y l x t r v w).1 m p).1 q
 .have hXk:X (a+k)=true:=by have c:¬ (a+k<a+i):=(by omega);simp only[c,decide_false]at g;simpa using g
  have c:i<k:=by have:i≠k:=λe=>(by rw[e,hXk]at d;cases d);omega
  have w:a+i∉cl.getD (a+k) []:=λh=>by rw[D (a+k) hXk (a+i) h]at d;cases d
  exact(apart_spec<|F.apart i k s z o B f A y u x l r t c w).2 m p q
def z1c (F:Free C ops cl b base a ss st0){X:Nat->Bool}(g:zkx cl X){i:Nat}{s:Step}(l:ss[i]?=some s)(c:X (a+i)=false)(k:∀j∈cl.getD (a+i) [],X j=true) :
 ∃o,ops[a+i]?=some o/\Does C ops base (a+i) o (zbC ops b X a ss st0) s:=by
 obtain⟨o,f,h,d,e⟩:=zJG F g l c k;exact⟨o,h,zSa d (by rw[zhT,zhT]) e⟩
def zSQ (F:Free C ops cl b base a ss st0){X Y:Nat->Bool}(x:zkx cl X){i:Nat}{s:Step}{o:Oper}(p:ss[i]?=some s)(n:ops[a+i]?=some o)(d:X (a+i)=false)(y:∀k,Y k=(X k||k==a+i))(c:Key) :
 (zbC ops b Y a ss st0).get c=((zbC ops b X a ss st0).step b o s).get c:=by
 refine z09 y n p (λk v B u e m l c A q=>?_) c;obtain⟨D,f,g,r⟩:=F.at1 i s p;rw[n]at g;cases g;obtain⟨E,w,j,t⟩:=F.at1 k v u;rw[e]at j;cases j;have z:a+i∉cl.getD (a+k) []:=λh=>by rw[x (a+k) l (a+i) h]at d;cases d
 exact((apart_spec<|F.apart i k s v o B f w p u n e r t m z).1 c ((zB2 r c).1 A)).2 ((zB2 t c).1 q)
def zYk {l:St}{o:Oper}{id i:Nat}{d:Dl}(j:ops[i]?=some o)(h:r0 C l o id=some d)(a:zNW ops i=false)(g:(zvl C&&zSZ o)=false):d.bump=false:=by
 simp only[zNW,j]at a;cases b:o.op<;>simp only [b]at a<;>simp only [r0,b]at h;(case store=>cases a);case buildSlice=>cases a
 case call c=>
  split at h
  case h_4 e=>rw[e]at a;cases a
  all_goals (repeat' (first|split at h|cases h))
  all_goals rfl
 case slice T x lo hi mx=>
  cases mx with
  |some m=>simp at h
  |none=>
   cases lo with
   |none=>
    cases hi with
    |none=>(repeat' (first|contradiction|split at h|cases h));all_goals (first|rfl|contradiction|(exfalso;simp_all))
    |some f =>have e:zvl C=false:=(by simp only[zSZ,b,vI]at g;exact g);(repeat' (first|contradiction|split at h|cases h));all_goals (first|(unfold zG5;split<;>first|rfl|(cases zt6 C<;>first|rfl|(rw [e];rfl)))|rfl|contradiction|(exfalso;simp_all))
   |some k =>
    cases hi with
    |none=>cases a
    |some f =>(repeat' (first|contradiction|split at h|cases h));all_goals (first|rfl|contradiction|(exfalso;simp_all))
 case binOp=>
  simp only[zCj]at h
  repeat' (first|split at h|cases h)
  all_goals rfl
 (all_goals (repeat' (first|contradiction|split at h|cases h)));all_goals (first|rfl|contradiction)
def zVE {f:St}{o:Oper}{id i:Nat}{d:Dl}(e:ops[i]?=some o)(h:zkd C f o id=some d)(b:zll C ops i=false):d.bump=false:=by unfold zll at b;rw[vE]at b;unfold zkd at h;cases c:r0 C f o id with|some j =>rw[c]at h;cases h;have a:=b.2;rw[e]at a;have a:((zjS C o).isSome||(zvl C&&zSZ o))=false:=a;rw[vE]at a;exact zYk e c b.1 a.2|none=>rw[c]at h;exfalso;have a:=b.2;rw[e]at a;have a:((zjS C o).isSome||(zvl C&&zSZ o))=false:=a;rw[vE]at a;have a:=a.1;have h:zlr C f o id=some d:=h;unfold zlr at h;(cases g:zjS C o with|none=>rw[g]at h;cases h|some y=>rw[g]at a;cases a)
end
section
variable {C:Cfg} {w0 w w1:World} {S0:zV} {U:Nat->Prop} {st st1:St} {E E1:Env} {ts:Array Value} {sv:List (Array Value)}
variable {ops:Array Oper} {b:Bool} {base:Nat} {cl:List (List Nat)} {ss:List Step} {st0:St}
def zYj {R a:Root}(h:zfK b R=a)(c:a.ep=none):R=a:=by unfold zfK at h;split at h;{subst h;cases c};{exact h}
def z1G {l:List (Nat×Root)}{n:Nat}{R:Root}(h:zn (l.map λ(x:Nat×Root)=>(x.1,zfK b x.2)) n=some R):∃d,zn l n=some d/\zfK b d=R:=by induction l with|nil=>cases h|cons a l e=>obtain⟨k,v⟩:=a;simp only[jC,zn]at h ⊢;split at h;{cases h;rename_i c;rw[if_pos c];exact⟨v,rfl,rfl⟩};{rename_i c;rw[if_neg c];exact e h}
def zY2 {l:List (Nat×Root)}{n:Nat}(h:zn (l.map λ(x:Nat×Root)=>(x.1,zfK b x.2)) n=none):zn l n=none:=by induction l with|nil=>rfl|cons a l d=>obtain⟨k,v⟩:=a;simp only[jC,zn]at h ⊢;split at h;{cases h};{rename_i c;rw[if_neg c];exact d h}
def zXW {o:Oper}{d:Dl}(J:b=false->d.bump=false)(K:b=true->Dead st/\0<st.ep)(y:Sim w0 S0 U (st.apply o.dst d) E ts sv w):Sim w0 S0 U (st.effD b o.dst d) E ts sv w:=by
 have A:∀t:Nat,(st.effD b o.dst d).tm[t]?=(st.apply o.dst d).tm[t]?:=λt=>(by unfold St.effD St.apply;cases o.dst<;>rfl);have B:(st.effD b o.dst d).lo=(st.apply o.dst d).lo:=(by unfold St.effD St.apply;cases o.dst<;>rfl);have C:(st.effD b o.dst d).stk=(st.apply o.dst d).stk:=(by unfold St.effD St.apply;cases o.dst<;>rfl);have D:(st.effD b o.dst d).ro=d.ro.map (λ(x:Nat×Root)=>(x.1,zfK b x.2))++st.ro:=(by unfold St.effD;cases o.dst<;>rfl);have F:(st.apply o.dst d).ro=d.ro++st.ro:=(by unfold St.apply;cases o.dst<;>rfl);have v:(st.effD b o.dst d).ep=st.ep:=by unfold St.effD;cases o.dst<;>rfl
 have I:(st.apply o.dst d).ep=if d.bump then st.ep+1 else st.ep:=by
  unfold St.apply;cases o.dst<;>rfl
 cases b with
 |false=>have L:d.bump=false:=J rfl;have p:d.ro.map (λ(x:Nat×Root)=>(x.1,zfK false x.2))=d.ro:=(by have:(λ(x:Nat×Root)=>(x.1,zfK false x.2))=id:=(by funext x;rfl);rw[this,List.map_id]);have j:(st.effD false o.dst d).ro=(st.apply o.dst d).ro:=(by rw[D,F,p]);have m:(st.effD false o.dst d).ep=(st.apply o.dst d).ep:=(by rw[v,I,L];rfl);exact y.fewer A (λn=>by rw[B]) C (λn R h=>by simpa only [St.root,j,m] using h) (λn R h=>⟨R,by rw[<- j];exact h⟩) (λn R e h s=>by rw[m];exact y.mem.epo n R e (by rw[<- j];exact h) s)
 |true=>obtain⟨l,M⟩:=K rfl;have f:∀n R,zn (st.effD true o.dst d).ro n=some R->∃a,zn (st.apply o.dst d).ro n=some a/\(zfK true a=R\/(a=R/\zn st.ro n=some R)):=(by intro n R h;rw[D,zbz]at h;rw[F,zbz];split at h;{rename_i x z;cases h;obtain⟨a,r,c⟩:=z1G z;exact⟨a,by rw[r],.inl c⟩};{rename_i z;rw[zY2 z];exact⟨R,h,.inr ⟨rfl,h⟩⟩});have g:∀a:Root,(zfK true a).ep=none\/(zfK true a).ep=some 0:=(by intro a;cases H:a.ep with|none=>left;simp[zfK,H]|some e=>right;simp[zfK,H]);have q:∀n R,(st.effD true o.dst d).root n=some R->R.ep=none/\zn (st.effD true o.dst d).ro n=some R:=(by intro n R h;obtain⟨G,i⟩:=zbm h;refine⟨?_,G⟩;rcases i with i|i;{exact i};{exfalso;rw[v]at i;obtain⟨a,_,c⟩:=f n R G;rcases c with c|⟨_,c⟩;{have:=g a;rw[c,i] at this;rcases this with h|h;{cases h};{simp only [qC]at h;omega}};{have:=l n R _ c i;omega}});refine y.fewer A (λn=>by rw[B]) C (λn R h=>?_) (λn R h=>?_) (λn R e h s=>?_);{obtain⟨r,c⟩:=q n R h;obtain⟨a,u,k⟩:=f n R c;have e:a=R:=(by rcases k with k|⟨k,_⟩;{exact zYj k r};{exact k});subst e;unfold St.root;rw[u];simp only[r]};{obtain⟨a,u,_⟩:=f n R h;exact⟨a,u⟩};{rw [v];obtain⟨a,_,c⟩:=f n R h;rcases c with c|⟨_,c⟩;{have:=g a;rw[c,s] at this;rcases this with h|h;{cases h};{simp only [qC]at h;omega}};{have:=l n R e c s;omega}}
def UX (U:Nat->Prop)(base a T:Nat)(X:Nat->Bool)(n:Nat):Prop:=U n\/∃i,a<=i/\i<T/\X i=true/\Mine (base+32*i) n
def Sim.uses {e:Nat->Prop}(h:Sim w0 S0 U st E ts sv w)(c:∀n,U n->e n):Sim w0 S0 e st E ts sv w :=
 ⟨h.mem,⟨λn R b=>c n (h.ids.ro n R b),λn g b=>⟨c n (h.ids.lo n g b).1,λa i m d=>c m ((h.ids.lo n g b).2 a i m d)⟩,λm d n b=>c n (h.ids.tm m d n b),λf j m d n b=>c n (h.ids.stk f j m d n b)⟩,h.tm,h.stk⟩
def zSH (u:CfgOk C)(y:CtrOk C)(x:GraftOk C)(r:Sim w0 S0 U st E ts sv w){o:Oper}{id:Nat}(g:∀n,Mine id n->¬ U n){d:Dl}(h:zkd C st o id=some d)(s:d.c=true):Goes C w0 S0 U st ts sv w o id (λst=>st.apply o.dst d):=by unfold zkd at h;cases l:r0 C st o id with|some A =>rw[l]at h;cases h;exact zFS u y r g l s|none=>rw[l]at h;have e:∃a,zEb C st o id=some (d.c,a,d.v)/\a.put o.dst d.v=st.apply o.dst d:=(by simp only[zlr]at h;unfold zjS callArgs at h;unfold zEb;split at h;{rename_i own z i;split at i;{rename_i c t;split at i;{rename_i f b;have j:zMi o=f:=(by simp only[zMi,t,b]);rw[j]at h;simp only[t,b,i]at h ⊢;generalize c.args.toList=m at h ⊢;unfold zN6 at h;unfold zT2;split at h;{split at h;{split at h;{split at h;{split at h;{split at h;{split at h;{split at h;{rename_i p _ _ q _ _ _ B _ _ D _ _ _ _ F _ _ G H;cases h;simp only[*];refine⟨_,rfl,?_⟩;unfold St.apply;simp[kI]};{cases h}};{cases h}};{cases h}};{cases h}};{cases h}};{cases h}};{cases h}};{cases h}};{cases i}};{cases i}};{cases h});obtain⟨a,p,q⟩:=e;have k:=(x.pok w0 w S0 U st E ts sv o id d.c a d.v r g p s).1;rw[q] at k;exact k
def zPz (S:CfgOk C)(W:CtrOk C)(V:GraftOk C){a T:Nat}(hT:a+ss.length=T)(F:Free C ops cl b base a ss st0){X Y:Nat->Bool}(M:zkx cl X){i:Nat}(q:a<=i)(I:i<T)(l:X i=false)(hr:∀j∈cl.getD i [],X j=true)(hb:b=false->∀k,a<=k->k<T->zll C ops k=false)(H:b=true->Dead st0/\0<st0.ep)(hM:∀k,a<=k->k<T->∀n,Mine (base+32*k) n->¬ U n)(G:∀k,Y k=(X k||k==i))(y:Sim w0 S0 (UX U base a T X) (zbC ops b X a ss st0) E ts sv w){Q:Exit->Act->World->Prop}{K:Act->World->Prop}(Z:∀(r:Env) (c:LV) (g:World),Sim w0 S0 (UX U base a T Y) (zbC ops b Y a ss st0) r c sv g->K {tmps:=c,defers:=[]} g) :
 wpOp C.P ops Q i K {tmps:=ts,defers:=[]} w:=by
 obtain⟨j,rfl⟩:∃j,i=a+j:=⟨i-a,by omega⟩
 obtain⟨s,N⟩:∃s,ss[j]?=some s:=⟨_,qB (by omega)⟩
 obtain⟨o,J,x⟩:=z1c F M N l hr;have f:∀n,UX U base a T X n->UX U base a T Y n:=by rintro n (h|⟨k,R,A,t,B⟩);{exact .inl h};{exact .inr ⟨k,R,A,by rw[G,t];rfl,B⟩}
 have u:∀{r:Env} {c:LV} {g:World},Sim w0 S0 (UX U base a T Y) ((zbC ops b X a ss st0).step b o s) r c sv g->K {tmps:=c,defers:=[]} g:=by intro r c g h;refine Z r c g (h.same (λκ=>zSQ F M N J l G κ) ?_ ?_);{rw [zrE,zUT,zrE]};{rw [zhT,zOf,zhT]}
 unfold wpOp;simp only[J];cases s with
 |none=>rw[if_neg (by simp[zCp y x])];have t:=y.putV (dst:=o.dst) (m:=.und) (v:=undef) rfl (λn z=>by simp[MV.ids,zbD]at z);rw[zi3];exact u (t.uses f)
 |some d=>obtain⟨A,t,B⟩:=x;rw[if_pos<|zCp y A];refine .inl (zSH S W V y (id:=base+32*(a+j)) ?_ t B _ _ λr v g D=>?_);{rintro n z (h|⟨k,_,g1,L,O⟩);{exact hM (a+j) q I n z h};{refine zXh (i:=k) (j:=a+j) (λe=>?_) O z;rw[e,l] at L;cases L}};{rw [zi3];refine u ((zXW (λp=>zVE J t (hb p (a+j) q I)) (λp=>?_) D).uses ?_);{subst p;exact⟨zy0 ss a st0 (H rfl).1 (H rfl).2,by rw[zhT];exact(H rfl).2⟩};{rintro n (h|h);{exact f n h};{exact .inr ⟨a+j,q,I,by rw[G];simp,h⟩}}}
end
section
variable {C:Cfg} {w0 w w1:World} {S0:zV} {U:Nat->Prop} {st st1:St} {E E1:Env} {ts:Array Value} {sv:List (Array Value)}
def zY3 (t:Ty)(x:t.den):t.ofCells (t.cells x)=some x:=by cases t<;>first|rfl|simp[Ty.ofCells,Ty.cells]
def zPY:∀(p:List (Int×Nat)) {t:Ty} {l:List t.den} {c:CV},zgn t l p=some c->∀m,zqb t l p c=some m->m=l
 |[],t,l,c,h,m,a=>by simp only[zgn,qC]at h;subst h;simpa [zqb] using a.symm
 |(i,j)::p,t,l,c,h,m,a=>by
  simp only[zgn]at h;simp only[zqb]at a;split at h
  .rename_i t1 l1 hc;rw[hc]at a;simp only at a;split at a
   .rename_i l2 hl2;have:=zPY p h l2 hl2;subst this;split at a
    .rename_i x hx;cases a;have f:j<(t.cells (ix l i t.dflt)).length:=(qA.1 hc).1;have e:A0 (t.cells (ix l i t.dflt)) j [CV.s t1 l2]=t.cells (ix l i t.dflt):=zGC _ _ _ (by simp;omega) (fun k d=>by
      have:k=0:=by simpa using d
      subst this;simpa using hc)
     rw[e,zY3]at hx;cases hx;unfold up ix;apply uB;intro k;rw[q9];split;{rename_i d;subst d;split;{rename_i b;simp[List.getD,qB b]};{rename_i b;rw[List.getElem?_eq_none (by omega)]}};{rfl}
    {cases a}
   {cases a}
  {cases h}
def z3U {t:Ty}(c:t.flat=true):∀(q:List (Int×Nat)) (v u:Value),zX w t v q=some u->q=[]
 |[],_,_,_=>rfl
 |(i,j)::q,v,u,h=>by exfalso;cases v with|slice a len d=>(cases a with|none=>simp[zX]at h|some a=>simp only[zX]at h;split at h;{split at h;{rename_i e b;unfold Ty.flat at c;have:=qO.1 c _ (qH b);simp at this};{cases h}};{cases h})|_=>simp[zX]at h
def z8K (hC:CfgOk C){T:TypeId}{t:Ty}(hT:C.sty T=some t)(hf:t.flat=true){v1 v2:Value}{d f:List t.den}{S1 S2:zV}(c3:Rep true w v1 (.s t d) S1)(c4:Rep false w v2 (.s t f) S2)(b8:f≠[])(d1:few (ln (ap d f))=true)(oT:TypeId) :
 ∃(v:Value) (E:World) (L Z r:Nat),(Builtin.append_ #[T,T] oT #[v1,v2]).run C.P w = .ok v E/\v = .slice (some ⟨L,Z,none⟩) (ap d f).length r/\Rep true E v (.s t (ap d f)) (fun x=>x=L)/\
  E.os=w.os/\E.tape=w.tape/\E.output=w.output/\
  ((L=w.heap.size/\E.heap.size=w.heap.size+1/\∀x,x<w.heap.size->E.heap[x]?=w.heap[x]?) \/
    ∃Y N,v1 = .slice (some ⟨L,Y,none⟩) d.length N/\S1 L/\E.heap.size=w.heap.size/\(∀x,x≠L->E.heap[x]?=w.heap[x]?)/\Rep true E v1 (.s t d) S1):=by
 obtain⟨e,hE⟩:=hC.sty T t hT;obtain⟨i,z,m,hs,hz,f3,d0⟩:=hE.info;obtain⟨f0,f1⟩:=zDW d1;have d4:d.length+f.length<=2147483648:=by simp only[ln,ap,j7] at f1;omega
 have a3:(ap d f).length=d.length+f.length:=by simp[ap]
 cases c4 with
 |nil=>exact absurd rfl b8
 |void=>exact absurd rfl b8
 |sl _ _ b2 p F a2 e2 f7 V2 K2 _ d7 f5 e4 b5 f6 f8 f2 d9 d5 a5=>
 have e5:0<f.length:=kO.2 b8;have e7:f.length*t.wi<=F*t.wi:=qK _ b5;generalize V:(a2.toList.drop p).take (f.length*t.wi)=a;have D:a.length=f.length*t.wi:=by rw[<- V];simp;omega
 have a6:∀k,k<f.length*t.wi->a[k]?=a2[p+k]?:=by intro k hk;rw[<- V,jK,if_pos hk,jL];simp
 have c1:∀j u,a[j]?=some u->w.cell? ((⟨b2,p,none⟩:Addr).add j)=some u:=by intro j u hu;have B:j<f.length*t.wi:=(by rw[<- D];exact(qA.1 hu).1);rw[add_lit,E0 d7,<- a6 j B];exact hu
 have I:∀i j,i<f.length->j<t.wi->i*t.wi+j<f.length*t.wi:=by intro i j m B;have:(i+1)*t.wi<=f.length*t.wi:=qK _ m;rw[jD] at this;omega
 have c2:∀i j,i<f.length->j<t.wi->a[i*t.wi+j]?=some (V2 i j):=by intro i j m B;rw[a6 _ (I i j m B),<- k7];exact d5 i j m B
 have d6:=zuM t;have e8:∀u∈a,u.oneCell'=true:=by intro u hu;obtain⟨k,hk⟩:=qV.1 hu;have e3:k<f.length*t.wi:=(by rw[<- D];exact(qA.1 hk).1);have a1:k / t.wi<f.length:=(vC d6).2 e3;have d3:k % t.wi<t.wi:=Nat.mod_lt _ d6;have:=c2 _ _ a1 d3;rw[Nat.mul_comm,Nat.div_add_mod,hk] at this;cases this;have J:=qB a1;have y:(t.cells (f[k / t.wi]'a1))[k % t.wi]?=some ((t.cells (f[k / t.wi]'a1))[k % t.wi]'(by rw[zb7];exact d3)):=qB _;exact(a5 _ _ J _ _ y).one
 have U:∀(w1:World) i x,f[i]?=some x->∀j c,(t.cells x)[j]?=some c->Rep true w1 (V2 i j) c (fun _=>False):=fun w1 i x J j c y=>(a5 i x J j c y).flat (zvh hf y);have W:∀i j,i<d.length->j<t.wi->i*t.wi+j<d.length*t.wi:=by intro i j m B;have:(i+1)*t.wi<=d.length*t.wi:=qK _ m;rw[jD] at this;omega
 have a0:(d.length+f.length)*i.bytes<=140737488355328:=by have:=kQ d4 d0;omega
 have b0:z.cells.size=t.wi:=by rw[<- kD,f3];simp[zet]
 have O:∀(g:List Value) (A:Nat) (V1:Nat->Nat->Value) (zs:LV),g.length=d.length*t.wi->d.length+f.length<=A->zs.size=(A-(d.length+f.length))*t.wi->
  (∀i j,i<d.length->j<t.wi->g[i*t.wi+j]?=some (V1 i j))->
  (∀i x,d[i]?=some x->∀j c,(t.cells x)[j]?=some c->∃S,Rep true w (V1 i j) c S)->
  (Builtin.append_ #[T,T] oT #[v1,.slice (some ⟨b2,p,none⟩) f.length F]).run C.P w = .ok (.slice (some ⟨w.heap.size,0,none⟩) (d.length+f.length) A) (w.drew.alloc (.cells (g.toArray++a.toArray++zs) e (0,0)))->
  ∃(v:Value) (E:World) (L Z r:Nat),(Builtin.append_ #[T,T] oT #[v1,.slice (some ⟨b2,p,none⟩) f.length F]).run C.P w = .ok v E/\v = .slice (some ⟨L,Z,none⟩) (ap d f).length r/\Rep true E v (.s t (ap d f)) (fun x=>x=L)/\
  E.os=w.os/\E.tape=w.tape/\E.output=w.output/\
  ((L=w.heap.size/\E.heap.size=w.heap.size+1/\∀x,x<w.heap.size->E.heap[x]?=w.heap[x]?) \/
    ∃Y N,v1 = .slice (some ⟨L,Y,none⟩) d.length N/\S1 L/\E.heap.size=w.heap.size/\(∀x,x≠L->E.heap[x]?=w.heap[x]?)/\Rep true E v1 (.s t d) S1):=by
  intro g A V1 zs G b4 f4 e9 d8 M;generalize n:w.drew.alloc (.cells (g.toArray++a.toArray++zs) e (0,0))=w1 at M;have c5:∀x,x<w.heap.size->w1.heap[x]?=w.heap[x]?:=fun x J=>by rw[<- n];exact heap_alloc_old w.drew _ x J
  have c6:w1.heap.size=w.heap.size+1:=by rw[<- n];simp
  refine⟨_,w1,w.heap.size,0,A,M,by rw[a3],?_,by rw[<- n];rfl,by rw[<- n];rfl,by rw[<- n];rfl,.inl ⟨rfl,c6,c5⟩⟩
  refine Rep.join (arr:=g.toArray++a.toArray++zs) (e:=e) (V1:=V1) (V2:=V2) (K1:=fun _ _ _=>False) (K2:=fun _ _ _=>False) ?_ (by simp only[big];omega) b4 ?_ rfl ?_ ?_ ?_ (U w1) (fun _ _ _ _ _ h=>h.elim) (fun _ _ _ _ _ h=>h.elim) (fun _ _ _ _ _ _ _ _ _ h=>h.elim) (fun _ _ _ _ _ _ _ _ _ h=>h.elim) (fun _ _ _ _ _ _ _ _ _ h=>h.elim)
  .rw [<- n];exact heap_alloc_new w.drew _
  .simp only [vK,jT,G,D,f4,<- kH];have:d.length+f.length+(A-(d.length+f.length))=A:=by omega
   rw[this];omega
  .intro i j m B;have:=W i j m B;rw[jW,kX,jU (by simp[G];exact this)]
   simpa using e9 i j m B
  .intro i j m B;have:=I i j m B;rw[jW,kH,kX,kF (by simp[G];omega),jU (by simp[G,D];omega)]
   rw[<- c2 i j m B];simp only[jT,G,jB]
   congr 1
   omega
  .intro i x J j c y;obtain⟨S,M⟩:=d8 i x J j c y;exact M.flat (zvh hf y)
 cases c3 with
 |nil=>
  have M:=run_append_nil (P:=C.P) w T oT e i z hE.und m hz ⟨b2,p,none⟩ f.length F a (by rw[hs];exact D) c1 e5 (by omega) (by
   have:=kQ (show f.length<=2147483648 by omega) d0
   omega)
  have b7:=grownCap_ge w f.length 0 e;refine O [] (grownCap w f.length 0 e) (fun _ _=>undef) (Builtin.zeroCells z.cells (grownCap w f.length 0 e-f.length)) (by simp) (by simpa using b7) (by simp[size_zeroCells,b0]) (fun i j m=>by simp at m) (fun i x J=>by simp at J) ?_;rw[M];simp
 |void _ _ _ ho=>cases ho
 |sl _ _ b l r q e1 fz V1 K1 _ hb e0 b9 Q a9 c8 c7 b6 X R=>
  have d2:=e0 rfl;subst d2;have e6:d.length*t.wi<=r*t.wi:=qK _ Q;by_cases H:d.length+f.length<=r;{have c0:(d.length+f.length)*t.wi<=r*t.wi:=qK _ H;rw[kH]at c0;have M:=run_append_room' (P:=C.P) (w:=w) T oT e i hE.und m b l d.length r q e1 hb ⟨b2,p,none⟩ f.length F a (by rw[hs];exact D) c1 e8 H (by rw[hs,D];omega);rw[hs]at M;have b3:l+d.length*t.wi+a.length<=q.toList.length:=(by rw[D];simp;omega);generalize n:w.setRow b (A0 q.toList (l+d.length*t.wi) a).toArray=w1 at M;have c9:w1.heap[b]?=some (.cells (A0 q.toList (l+d.length*t.wi) a).toArray e1 (0,0)):=(by rw[<- n];exact setRow_heap w b _ _ e1 _ hb);have a8:∀x,x≠b->w1.heap[x]?=w.heap[x]?:=fun x J=>(by rw[<- n];exact setRow_other w b x _ J);have a4:(A0 q.toList (l+d.length*t.wi) a).toArray.size=q.size:=(by rw[jT,zf4 _ _ _ b3];simp);have K:∀k,k<l+d.length*t.wi->(A0 q.toList (l+d.length*t.wi) a).toArray[k]?=q[k]?:=(by intro k hk;rw[jB,zdF _ _ _ b3 k (.inl hk)];simp);have b1:Rows true w t d q l b V1 K1 S1:=⟨c7,b6,X,R⟩;obtain⟨k1,_⟩:=Rep.behind (w1:=w1) b9 Q a9 c8 b1 hb c9 a4 K a8;refine⟨_,w1,b,l,r,M,by rw[a3],?_,by rw[<- n];rfl,by rw[<- n];rfl,by rw[<- n];rfl,.inr ⟨l,r,rfl,c8,by rw[<- n];simp,a8,k1⟩⟩;refine Rep.join (arr:=(A0 q.toList (l+d.length*t.wi) a).toArray) (e:=e1) (V1:=V1) (V2:=V2) (K1:=fun _ _ _=>False) (K2:=fun _ _ _=>False) c9 (by simp only[big];omega) H (by rw[a4];exact a9) rfl ?_ ?_ ?_ (U w1) (fun _ _ _ _ _ h=>h.elim) (fun _ _ _ _ _ h=>h.elim) (fun _ _ _ _ _ _ _ _ _ h=>h.elim) (fun _ _ _ _ _ _ _ _ _ h=>h.elim) (fun _ _ _ _ _ _ _ _ _ h=>h.elim);{intro i j m B;have:=W i j m B;rw[K _ (by omega)];exact X i j m B};{intro i j m B;have:=I i j m B;rw[jB,kH,zdT _ _ _ b3 _ (by omega) (by rw[D];omega),<- c2 i j m B];congr 1;omega};{intro i x J j c y;exact(R i x J j c y).flat (zvh hf y)}}
  .generalize holds:(q.toList.drop l).take (d.length*t.wi)=g;have G:g.length=d.length*t.wi:=(by rw[<- holds];simp;omega);have a7:∀k,k<d.length*t.wi->g[k]?=q[l+k]?:=by intro k hk;rw[<- holds,jK,if_pos hk,jL];simp
   have M:=run_append_grow (P:=C.P) w T oT e i z hE.und m hz ⟨b,l,none⟩ d.length r g (by rw[hs];exact G) (fun j u hu=>by
    have B:j<d.length*t.wi:=by rw[<- G];exact(qA.1 hu).1
    rw[add_lit,E0 hb,<- a7 j B];exact hu) ⟨b2,p,none⟩ f.length F a (by rw[hs];exact D) c1 (by omega) (by omega) (growslice_fits (by omega) a0)
   have b7:=grownCap_ge w (d.length+f.length) r e;refine O g _ V1 _ G b7 (by rw[size_zeroCells,b0]) (fun i j m B=>?_) (fun i x J j c y=>⟨_,R i x J j c y⟩) M;have:(i+1)*t.wi<=d.length*t.wi:=qK _ m;rw[jD] at this;rw[a7 _ (by omega),<- k7];exact X i j m B
end
section
variable {C:Cfg} {w0 w w1:World} {S0:zV} {U:Nat->Prop} {st st1 st':St} {E E1:Env} {ts:Array Value} {sv:List (Array Value)}
def Late (w0:World)(st:St)(E:Env)(x:App)(v:Value)(w:World):Prop :=
 ∃(f e d g:Nat) (R:Root),w0.heap.size<=f/\(∀q Q,st.root q=some Q->∀y,E.φ q y->y<f)/\(∀l h,zn st.lo l=some h->E.β l<f)/\
  v = .slice (some ⟨e,d,none⟩) x.l.length g/\Rep true w v (.s x.t x.l) (λy=>y=e)/\st.root x.r=some R/\
  (f<=e\/∃c b a,zX w R.t (E.ρ x.r) x.p=some (.slice (some ⟨e,c,none⟩) b a))
def Late.states {x:App}{v:Value}(h:Late w0 st E x v w)(d:∀n,st'.root n=st.root n)(s:∀n,zn st'.lo n=zn st.lo n):Late w0 st' E x v w:=by obtain⟨t,e,a,b,R,g,i,j,k,m,p,r⟩:=h;exact⟨t,e,a,b,R,g,λq Q c=>i q Q (by rw[<- d];exact c),λl f c=>j l f (by rw[<- s];exact c),k,m,by rw[d];exact p,r⟩
def zGD {r:Nat}(a:At):zc2 r [] a=a:=by cases a<;>simp [zc2,coarse]
def zGE {r:Nat}(m:MV):zgy r [] m=m:=by have h:zc2 r []=id:=funext λa=>zGD a;have c:∀x,zmr r [] x=x:=λx=>(by cases x<;>simp [zmr,h]);have b:zmr r []=id:=funext c;cases m<;>simp [zgy,c,b]
def z1B (h:Dead st){n:Nat}{R:Root}(c:st.root n=some R):R.ep=none:=by obtain⟨b,a⟩:=zbm c;rcases a with a|a;{exact a};{have:=h n R _ b a;omega}
def z2d {v:Value}{t:Ty}{l:List t.den}{S:zV}{b off n a:Nat}(h:Rep true w v (.s t l) S)(e:v = .slice (some ⟨b,off,none⟩) n a):b<w.heap.size/\S b:=by cases h with|nil=>cases e|void _ _ _ f=>cases f|sl _ _ g _ _ _ _ _ _ _ _ d _ _ _ _ c=>cases e;exact⟨(qL.1 d).1,c⟩
def z4i (hC:CfgOk C)(k:Sim w0 S0 U st E ts sv w)(hd:Dead st){o:Oper}{x:App}(h:zqL C st o=some (true,x)) :
 o.guard=none/\o.dst=some x.dst/\∃(v:Value) (f:World),(execOp ({tmps:=ts,defers:=[]}:Act).eval o).run C.P w = .ok (.value v) f/\
  Sim w0 S0 U (st.put o.dst<|.v<|.at .bad) E (({tmps:=ts,defers:=[]}:Act).put o.dst v).tmps sv f/\Late w0 st E x v f:=by
 unfold zqL at h;split at h
 .rename_i c d ho hdst hgu;split at h
  .rename_i hcb;split at h
   .rename_i a0 y0 T T2 hca hct;split at h
    .rename_i hTT;subst hTT;split at h
     .rename_i t r a p r2 p2 hT h1 h2;split at h
      .rename_i R cv1 cv2 hR hn1 hn2;split at h
       .rename_i hcond;simp only[qE,jI,beq_eq_false_iff_ne]at hcond;obtain⟨⟨H,a2⟩,b9⟩:=hcond;split at h
        .rename_i m t2 y2 l2' hm;simp only[qC,jR]at h;obtain⟨a1,rfl⟩:=h;refine⟨hgu,hdst,?_⟩;obtain⟨l1,l2,e1,e2,rfl⟩:=zAf hm;subst e1;have b2:l2≠[]:=by intro e;subst e;cases e2
         rw[e2]at hn2
         clear e2
         generalize c0:a::p=pp at h1 hn1;have j:=k.mem;obtain⟨hx,_⟩:=zbG k h1;obtain⟨hy,_⟩:=zbG k h2;have hh:=hx.2 R hR;have i:=j.rep r R hR;rw[H]at i;obtain⟨t',l0,S1,f1,f2,f3,f4,f5⟩:=Rep.focus pp i hh;have a3:zgn R.t R.l pp=some (.s t l1):=by obtain⟨R',W,b1⟩:=zeW hn1;rw[hR]at W;cases W;exact b1
         rw[a3] at f1;cases f1;obtain⟨R2,S2,b7,g1,g2,g3,g4⟩:=zqz k hy hn2;obtain⟨v,f,bv,K,S,a5,hv,I,a4,a6,G,L⟩:=z8K hC hT a2 f3 g3.ro b2 a1 o.type;have X:c.args = #[a0,y0]:=by rw[<- hca]
         have Y:c.argTypes = #[T2,T2]:=by rw[<- hct]
         have g:(execOp ({tmps:=ts,defers:=[]}:Act).eval o).run C.P w = .ok (.value v) f:=by simp[execOp,ho,resolve,hcb,invoke,builtin,X,Y,a5]
         have a7:∀l cs,zn st.lo l=some cs->E.β l<w.heap.size:=by intro l cs h;obtain⟨_,b6,e,h2,_⟩:=j.loc l cs h;exact(qL.1 h2).1
         rcases L with⟨b8,b4,O⟩|⟨a8,V,b5,B,b4,F,N⟩
         .obtain⟨hM',hT'⟩:=j.addRoots k.ids.mem (dro:=[]) (w1:=f) (E1:=E) a4 a6 G (by omega) O (λq Q b=>by cases b) (λq Q _ _ b=>by cases b) (λ_ _=>⟨rfl,rfl,rfl⟩)
          refine⟨v,f,g,Sim.next k (st1:=st) hM' hT' rfl rfl (λ_ h=>h) k.ids.ro k.ids.lo trivial (λn hn=>by simp[MV.ids,zbD,zS,At.ids,zbl,zbs]at hn),?_⟩
          exact⟨w.heap.size,bv,K,S,R,j.size,λq Q b y hy=>j.rlt q Q b y hy,a7,hv,I,hR,.inl (by omega)⟩
         .obtain⟨m,hm1,hrm,hh1,hh2⟩:=f5 f l1 S1 (λz _ M=>F z λe=>M (e ▸ B)) (λ_ h _=>h) N;have b3:=zPY pp a3 m hm1;subst b3;obtain⟨_,_,_,_,a9⟩:=f5 w l1 S1 (λ_ _ _=>rfl) (λ_ h _=>h) f3;have D:∀q u,zX w R.t (E.ρ r) q=some u->zX f R.t (E.ρ r) q=some u:=by intro q u b;refine hh1 q u b (λq' Z=>?_);subst Z;rw[a9]at b;exact z3U a2 q' _ _ b
          have J:=zF1 (w1:=f) (m:=R.l) (js:=[]) (S3:=E.φ r) k hR H a4 a6 G (by omega) (λz hz M=>F z λe=>M (f4 z<|e ▸ B)) (λz hz=>⟨.inl hz,by have:=j.rlt r R hR z hz;omega⟩) (hrm.weak λz hz=>by
           rcases hz with⟨h,_⟩|h
           .exact h
           .exact f4 z h) (λq u b _=>D q u b)
          have hE:({E with φ:=λn=>if n=r then E.φ r else E.φ n}:Env)=E:=by
           have:(λn=>if n=r then E.φ r else E.φ n)=E.φ:=by
            funext n
            split
            .rename_i e;rw[e]
            .rfl
           rw[this]
          rw[hE]at J;have b0:Sim w0 S0 U st E ts sv f:=by refine J.fewer (λt=>?_) (λn=>?_) ?_ (λn Q A=>?_) (λn Q A=>?_) (λn Q e A Z=>j.epo n Q e A Z);{simp only [zih,qQ];cases st.tm[t]? <;> simp [zGE]};{simp only [zih];rw[zk3];have:zc2 r []=id:=funext λa=>zGD a;cases zn st.lo n<;>simp [this]};{simp only [zih];have:zgy r []=id:=funext λa=>zGE a;simp[this]};{have Z:=z1B hd A;obtain⟨q1,_⟩:=zbm A;refine ze1 ?_ (.inl Z);simp only[zih,zn];split;{rename_i hb;simp only[qJ]at hb;subst hb;rw[hR]at A;cases A;rfl};{exact q1}};{simp only [zih,zn];split;{exact⟨_,rfl⟩};{exact⟨Q,A⟩}}
          refine⟨v,f,g,b0.putV trivial (λn hn=>by simp[MV.ids,zbD,zS,At.ids,zbl,zbs]at hn),?_⟩
          refine⟨w.heap.size,bv,K,S,R,j.size,λq Q b y hy=>j.rlt q Q b y hy,a7,hv,I,hR,.inr ⟨a8,l1.length,V,?_⟩⟩;refine D pp _ ?_;rw[hh,b5]
        .cases h
       .cases h
      .cases h
     .cases h
    .cases h
   .cases h
  .cases h
 .cases h
def zYQ (hC:CfgOk C)(hS:Sim w0 S0 U st E ts sv w){o:Oper}{id:Nat}{x:App}{v:Value}{b4:St}(hL:Late w0 st E x v w)(g0:ts[x.dst]?=some v)(h:zCN C st o x=some (true,b4)) :
 o.guard=none/\Goes C w0 S0 U st ts sv w o id (λ_=>b4.put o.dst .und)/\b4.nid=st.nid:=by
 unfold zCN at h;split at h
 .rename_i T a d ho hgu;split at h
  .rename_i t1 r p i off hT ha;split at h
   .rename_i R t l c hRr L hsp;split at h
    .rename_i hcond;simp only[qE,jA,Nat.beq_eq_true_eq]at hcond;obtain⟨⟨⟨a4,a9⟩,b2⟩,G⟩:=hcond;have a9:=kS a9;have b2:=kS b2;subst a9 b2;split at h
     .rename_i l' hset;split at h
      .rename_i m hput;simp only[qC,jR]at h;obtain⟨rfl,rfl⟩:=h;refine⟨hgu,?_,rfl⟩;have f7:=zsw hsp;obtain⟨n0,X,g7,g3,R',e8,Q,e7,c6,P,M,S⟩:=hL;rw[hRr]at M;cases M;obtain⟨d0,g8⟩:=zbG hS ha;obtain⟨b,o2,len,c8,h0,e1,e2,e3,Y,e5⟩:=d0.2 R hRr;have hM:=hS.mem;have a5:=hM.rep _ R hRr;rw[a4]at a5;obtain⟨t',l0,S1,f1,f2,f3,f4,f5⟩:=Rep.focus p a5 e1;have d7:zgn R.t R.l p=some (.s t l):=by obtain⟨R',M,d6⟩:=zeW L;rw[hRr]at M;cases M;exact d6
       rw[d7] at f1;cases f1;rw[e2] at f2;cases f2;obtain⟨_,_,_,_,b5⟩:=f5 w l S1 (λ_ _ _=>rfl) (λ_ h _=>h) f3;cases f3 with
       |void _ _ _ ho=>cases ho
       |sl _ _ _ _ _ a6 e' fz V K _ hb d5 b0 a0 c5 a7 A a1 c7 b8=>
       have b9:=d5 rfl;subst b9;have N:Rows true w t l a6 o2 b V K S1:=⟨A,a1,c7,b8⟩;have a3:v.oneCell'=true:=by rw[c6];rfl
       have B:v.cells = #[v]:=cells_one a3;have O:off+[v].length<=t.wi:=by simp;omega
       have c3:(i.toNat+1)*t.wi<=c8*t.wi:=qK _ (by omega)
       rw[jD]at c3;have H:=zoR (w:=w) (v:=v) (off:=o2+i.toNat*t.wi+off) (hC.cty T false [.s t1] hT) hb (by rw[B];rfl) (by simp;omega) (by rw[B];intro u hu;simp at hu;rw[hu];exact a3)
       rw[B]at H;have e6:(#[v]:LV).toList=[v]:=rfl;rw[e6]at H;generalize J:w.setRow b (A0 a6.toList (o2+i.toNat*t.wi+off) [v]).toArray=w1 at H;have b7:w1.heap[b]?=some (.cells (A0 a6.toList (o2+i.toNat*t.wi+off) [v]).toArray e' (0,0)):=by rw[<- J];exact setRow_heap w b _ _ e' _ hb
       have D:∀y,y≠b->w1.heap[y]?=w.heap[y]?:=λy z=>by rw[<- J];exact setRow_other w b y _ z
       have c2:E.φ x.r b:=f4 b a7;have g9:b<n0:=Q _ R hRr b c2;have a2:∀F j,F<l.length->j<t.wi->¬ Hit i.toNat off [v].length F j->∀y,K F j y->w1.heap[y]?=w.heap[y]?:=λF j I hj _ y z=>D y ((A F j y I hj z).2 rfl)
       have a8:n0<=X\/K i.toNat off X:=by rcases S with h|⟨g6,g5,g2,h⟩;{exact .inl h};{right;rw[<- f7,b5]at h;simp only[zX]at h;rw[if_pos ⟨e3,Y⟩]at h;split at h;{rename_i t3 f9;rw[E0 hb,c7 i.toNat off Y G]at h;simp only[qC]at h;obtain⟨c,hc,d3⟩:=zzQ (x:=ix l i t.dflt) f9;obtain⟨l3,rfl⟩:=zlW d3;have c1:=b8 i.toNat _ (zl2 Y) off _ hc;rw[h]at c1;cases c1 with|void _ _ _ ho=>cases ho|sl _ _ _ _ _ _ _ _ _ _ _ _ _ _ _ _ c9=>exact c9};{cases h}}
       have Z:X≠b:=by rcases a8 with h|h;{omega};{exact(A _ _ X Y G h).2 rfl}
       have b3:=Rep.setCells (w:=w) (w1:=w1) (us:=[v]) (Kn:=λ_ y=>y=X) b0 a0 c5 N Y rfl O hset b7 (λk c u hc hu=>by
        cases k with
        |zero=>simp only[qI,qC]at hc hu;subst hc hu;exact P.frame (λy z=>D y (by rw[z];exact Z))
        |succ k=>simp at hc)
        a2
        (λk y _ z=>by rw[z];exact Z)
        (λk k' y hk e0 _ _=>by simp at hk e0;omega)
        (λk y F j hk z I hj e9 W=>by
         subst z;rcases a8 with h|h
         .have:=Q _ R hRr y (f4 y (A F j y I hj W).1);omega
         .have:=a1 rfl _ _ _ _ y Y G I hj h W;exact e9 ⟨this.1.symm,by omega,by simp;omega⟩)
       have b6:∀y,(y=b\/(∃F j,F<l.length/\j<t.wi/\¬ Hit i.toNat off [v].length F j/\K F j y)\/∃k,k<[v].length/\y=X)->S1 y\/(n0<=y/\y=X):=by intro y z;rcases z with rfl|⟨F,j,I,hj,_,hk⟩|⟨k,hk,rfl⟩;{exact .inl a7};{exact .inl (A F j y I hj hk).1};{rcases a8 with h|h;{exact .inr ⟨h,rfl⟩};{exact .inl (A _ _ _ Y G h).1}}
       obtain⟨m',c0,f8,d8,d9⟩:=f5 w1 l' _ (λy z b1=>D y λe=>b1 (e ▸ a7)) (λy z W=>by
        rcases b6 y z with h|⟨h,_⟩
        .exact h
        .have:=Q _ R hRr y W;omega) b3
       rw[hput]at c0;cases c0;have g4:w1.heap.size=w.heap.size:=by rw[<- J];simp
       have d1:X<w.heap.size:=(z2d P c6).1;have c4:=zCH (w1:=w1) (m:=m) (js:=[cols p++[off]]) e8 Q e7 hS hRr a4 (by rw[<- J];rfl) (by rw[<- J];rfl) (by rw[<- J];rfl) (by omega) (λy _ b1=>D y λe=>b1 (e ▸ c2)) (λy z=>by
        rcases z with⟨z,_⟩|z
        .exact⟨.inl z,by have:=hM.rlt _ R hRr y z;omega⟩
        .rcases b6 y z with h|⟨h,rfl⟩
         .exact⟨.inl<|f4 y h,by have:=hM.rlt _ R hRr y (f4 y h);omega⟩
         .exact⟨.inr h,by omega⟩) f8 (λq u hq f6=>by
        rcases zsY p q with⟨q',rfl⟩|f0
        .rw [d9 q'];rw[b5 q']at hq;refine zoo (us:=[v]) a0 c5 N hb Y rfl O hset b7 a2 q' (λF j g1 he k c hj d2=>?_) D hq;subst he hj;cases k with
         |succ k=>simp at d2
         |zero=>exfalso;have h9:=kV.1 f6 (cols p++[off]) (by simp);exact absurd (zqN p F off g1) h9
        .exact d8 q u hq λq' he=>absurd ⟨q',he⟩ f0)
       have g:=c4.putV (dst:=o.dst) (m:=.und) (v:=undef) rfl (λn L=>by simp[MV.ids,zbD]at L)
       refine zvk (w':=w1) ?_ ⟨g.mem,⟨λn R L=>.inl (g.ids.ro n R L),λn cs L=>⟨.inl (g.ids.lo n cs L).1,λa ha m hm=>.inl ((g.ids.lo n cs L).2 a ha m hm)⟩,λm hm n L=>.inl (g.ids.tm m hm n L),λf hf m hm n L=>.inl (g.ids.stk f hf m hm n L)⟩,g.tm,g.stk⟩;have d4:({tmps:=ts,defers:=[]}:Act).eval (.tmp x.dst)=v:=by simp[Act.eval,g0]
       simp[execOp,ho,Instr.storeAt,e5,Instr.sureAddr,d4,H]
      .cases h
     .cases h
    .cases h
   .cases h
  .cases h
 .cases h
end
section
variable {C:Cfg} {w0 w w1:World} {S0:zV} {U:Nat->Prop} {st st1:St} {E E1:Env} {ts:Array Value} {sv:List (Array Value)}
variable {ops:Array Oper} {b:Bool} {base:Nat} {cl:List (List Nat)} {ss:List Step} {st0:St}
def zJN {w b:World}(h:b.heap=w.heap):∀(p:List (Int×Nat)) (t:Ty) (v:Value),zX b t v p=zX w t v p
 |[],t,v=>by simp only[zX]
 |(i,j)::p,t,v=>by have d:∀a,b.cell? a=w.cell? a:=λa=>(by simp only[World.cell?,h]);have e:=zJN h p;cases v with|slice a len c=>cases a<;>simp only [zX,d,e]|_=>simp only[zX]
def Sim.heap (g:Sim w0 S0 U st E ts sv w){w':World}(d:w'.heap=w.heap)(v:w'.os=w.os)(y:w'.tape=w.tape)(z:w'.output=w.output):Sim w0 S0 U st E ts sv w':=by
 have T:Trans st E w st E w' (λ_=>True):=⟨λr _ R h=>⟨R,h,rfl,λp u i=>by rw[zJN d];exact i⟩,λl _ k h=>⟨⟨k,h⟩,rfl⟩,rfl⟩
 have a:=g.mem;refine⟨⟨by rw[v];exact a.os,by rw[y];exact a.tape,by rw[z];exact a.output,by rw[d];exact a.size,λb A C=>by rw[d];exact a.keep b A C,
  λr R h=>(a.rep r R h).frame (λx _=>by rw[d]),λr R h x D=>by rw[d];exact a.rlt r R h x D,a.mine,a.frz,a.apart,λl k B=>?_,a.linj,a.lro,a.epo,a.κ⟩,g.ids,
  aC.tr T (λ_ _ _ _=>trivial) g.tm,Stack.tr T (λ_ _ _ _ _ _=>trivial) g.stk⟩
 obtain⟨q,f,e,s,t,m⟩:=a.loc l k B;exact⟨q,f,e,by rw[d];exact s,t,λj c u n i=>⟨(m j c u n i).1,VA.tr T (λ_ _=>trivial) (m j c u n i).2⟩⟩
def Sim.blind (d:Sim w0 S0 U st E ts sv w)(c:Bool)(n:Nat):Sim w0 S0 U {st with nid:=n,ep:=if c then st.ep+1 else st.ep} E ts sv w:=by
 have h:=d.nid n;cases c with
 |false=>exact h
 |true=>refine h.fewer (λ_=>rfl) (λ_=>rfl) rfl (λr R b=>?_) (λr R b=>⟨R,b⟩) (λr R e b i=>?_);{obtain⟨f,a⟩:=zbm b;have j:R.ep=none:=(by rcases a with a|a;{exact a};{have:=d.mem.epo r R _ f a;simp only[if_true] at this;omega});show St.root {st with nid:=n} r=some R;unfold St.root;have g:zn ({st with nid:=n}:St).ro r=some R:=f;rw[g];simp only[j]};{have:=d.mem.epo r R e b i;show e<=st.ep+1;omega}
def cnt_lt {p q:Nat->Bool}:∀(l:List Nat),(∀x∈l,q x=true->p x=true)->(∃x∈l,p x=true/\q x=false)->l.countP q<l.countP p
 |[],_,h=>by obtain⟨x,b,_⟩:=h;cases b
 |a::l,e,g=>by
  have f:∀(m:List Nat),(∀x∈m,q x=true->p x=true)->m.countP q<=m.countP p:=λm i=>List.countP_mono_left i;have i:=f l (λx b=>e x (by simp[b]))
  simp only[vM];cases j:q a with
  |true=>
   rw[e a (by simp) j]
   have:l.countP q<l.countP p:=cnt_lt l (λx b=>e x (by simp[b])) (by
    obtain⟨x,b,c,d⟩:=g;rcases qG.1 b with rfl|b
    .rw [j] at d;cases d
    .exact⟨x,b,c,d⟩)
   simp only[if_true];omega
  |false=>
   cases k:p a with
   |true=>simp;omega
   |false=>
    have:l.countP q<l.countP p:=cnt_lt l (λx b=>e x (by simp[b])) (by
     obtain⟨x,b,c,d⟩:=g;rcases qG.1 b with rfl|b
     .rw [k] at c;cases c
     .exact⟨x,b,c,d⟩)
    simp;omega
def left (n:Nat)(listed:Array Bool):Nat:=(List.range n).countP λi=>!listed.getD i true
def zH3 {listed:Array Bool}{n i:Nat}(e:i<n)(c:listed.getD i true=false):left n (listed.setIfInBounds i true)<left n listed:=by unfold left;have a:i<listed.size:=(by rcases uH i listed.size with h|h;{exact h};{simp [u1 h]at c});refine cnt_lt _ (λx _ d=>?_) ⟨i,kR.2 e,by rw[c];rfl,by simp[a]⟩;by_cases b:i=x;{subst b;simp[a]at d};{rwa [getD_set_ne true b]at d}
def zVF {C:Cfg}{st:St}{o:Oper}{id:Nat}{d:Dl}(b:zrS o=true)(h:zkd C st o id=some d):r0 C st o id=some d:=by unfold zkd at h;cases e:r0 C st o id with|some g=>rw[e]at h;exact h|none=>rw[e]at h;exfalso;have h:zlr C st o id=some d:=h;have f:zjS C o=none:=(by unfold zrS at b;unfold zjS;cases a:o.op with|call c=>rw[a]at b;simp at b|_=>rfl);unfold zlr at h;rw[f]at h;cases h
structure Waits (md:Region.Mode) (ops:Array Oper) (cl:List (List Nat)):Prop where
 at':∀i,i<ops.size->cl.getD i []=waits ops (cl.take i) i
 lt:∀i,i<ops.size->∀j∈cl.getD i [],j<i
 sub:∀e,Region.binds .any e=true->Region.binds md e=true
 rk:∃rk:Nat->Nat,∀(i:Nat) (o:Oper),ops[i]?=some o->∀e∈o.after,Region.binds md e=true->e.on<ops.size/\rk e.on<rk i
variable {md:Region.Mode}
def z7X (a:∀i,i<ops.size->cl.getD i []=waits ops (cl.take i) i){i:Nat}{o:Oper}(b:ops[i]?=some o){e:Edge}(d:e∈o.after)(c:Region.binds .any e=true):e.on∈cl.getD i []:=by have f:=(qL.1 b).1;rw[a i f];simp only[waits,b];exact zL9 (by simpa using d) c
def zRr {l:List (List Nat)}{i j k:Nat}(h:k∈(l.take i).getD j []):k∈l.getD j []:=by rw[kG,jK]at h;rw[kG];split at h;{exact h};{simp at h}
def Waits.inv (W:Waits md ops cl){i j:Nat}{o:Oper}(b:ops[i]?=some o)(a:j∈cl.getD i []):∃e∈o.after,Region.binds .any e=true/\(j=e.on\/j∈cl.getD e.on []):=by have f:=(qL.1 b).1;rw[W.at' i f]at a;simp only[waits,b]at a;obtain⟨e,d,c,h⟩:=zMa a;exact⟨e,by simpa using d,c,h.imp id zRr⟩
def XL (listed:Array Bool)(k:Nat):Bool:=listed.getD k false
def zF9 (W:Waits md ops cl){listed:Array Bool}(d:zkx cl (XL listed)){i:Nat}(f:i∈Region.ready md ops listed):∀j∈cl.getD i [],XL listed j=true:=by obtain⟨_,o,k,a⟩:=mem_ready.1 f;intro j g;obtain⟨e,c,b,h|h⟩:=W.inv k g;{subst h;exact a e c (W.sub e b)};{exact d _ (a e c<|W.sub e b) j h}
def least {p:Nat->Prop}:∀n,p n->∃m,m<=n/\p m/\∀j,j<m->¬ p j:=by intro n;induction n using Nat.strongRecOn with|_ n i=>intro g;by_cases h:∃j,j<n/\p j;{obtain⟨j,d,e⟩:=h;obtain⟨m,k,b,c⟩:=i j d e;exact⟨m,by omega,b,c⟩};{exact⟨n,qW _,g,λj f a=>h ⟨j,f,a⟩⟩}
def zLk (W:Waits md ops cl){listed:Array Bool}(s:listed.size=ops.size){b:Nat}(c:b<ops.size)(d:listed.getD b true=false):∃i,i∈Region.ready md ops listed:=by obtain⟨j,g⟩:=W.rk;obtain⟨n,_,⟨i,k,r,u⟩,a⟩:=least (p:=λn=>∃i,i<ops.size/\listed.getD i true=false/\j i=n) (j b) ⟨b,c,d,rfl⟩;refine⟨i,mem_ready.2 ⟨r,ops[i],by simp[k],λe q m=>?_⟩⟩;obtain⟨l,t⟩:=g i ops[i] (by simp[k]) e q m;cases h:listed.getD e.on false with|true=>rfl|false=>exfalso;refine a (j e.on) (by omega) ⟨e.on,l,?_,rfl⟩;have f:e.on<listed.size:=(by omega);simp only[Array.getD,f,dif_pos]at h ⊢;exact h
def zsL {listed:Array Bool}{i:Nat}(a:i<listed.size):XL listed i=listed.getD i true:=by simp[XL,a]
def zJg {listed:Array Bool}{i:Nat}(a:i<listed.size)(k:Nat):XL (listed.setIfInBounds i true) k=(XL listed k||k==i):=by unfold XL;by_cases h:i=k;{subst h;simp[a]};{rw [getD_set_ne false h];have:(k==i)=false:=(by simp;omega);rw[this,vA]}
def zZW {P:Program}{Q d:Exit->Act->World->Prop}(f:∀e,e≠.normal->∀a w,d e a w->Q e a w){i:Nat}{K:Act->World->Prop}{a:Act}{w:World}(h:wpOp P ops d i K a w):wpOp P ops Q i K a w:=by
 have b:LetsOut d->LetsOut Q:=(by rintro⟨a,w,h⟩;exact⟨a,w,f _ (by simp) a w h⟩);unfold wpOp at h ⊢;split;{rename_i m;rw[m]at h;exact h}
 .rename_i o ho;simp only[ho]at h;split
  .rename_i j;rw[if_pos j]at h;rcases h with h|⟨k,l⟩
   .left
    unfold Oper.wp at *;generalize (execOp a.eval o).run P w=r at *;cases r with
    |ok n p =>
     cases n<;>simp only [Oper.upon]at h ⊢ <;>
      first
       |exact h
       |exact h.mono (λe q g=>by
        cases e with
        |returned v=>exact g
        |panicked c=>exact f _ (by simp) _ _ g
        |outgrown=>exact b g)
    |halt x p =>cases x<;>simp only [Oper.upon]at h ⊢ <;> first|exact f _ (by simp) _ _ h|exact h
   {exact .inr ⟨k,b l⟩}
  {rename_i j;rw[if_neg j]at h;exact h}
def zsf (W:Waits md ops cl){listed:Array Bool}{m:Nat}(e:listed.size=ops.size)(c:∀i,i<ops.size->listed.getD i true=decide (i<m)):zkx cl (XL listed):=by intro k b j d;have a:k<ops.size:=(by rcases uH k listed.size with h|h;{omega};{simp [XL,u1 h]at b});rw[zsL (by omega),c k a]at b;simp at b;have:=W.lt k a j d;rw[zsL (by omega),c j (by omega)];simp;omega
def z4q {P:Program}{Q:Exit->Act->World->Prop}{c:Nat}{b:Array Bool}{a:Act}{w:World}(g:∀i,i<ops.size->b.getD i true=true)(h:Q .normal a w):wpAny P md ops Q c b a w:=by have f:Region.ready md ops b=[]:=(by refine List.eq_nil_iff_forall_not_mem.2 (λi d=>?_);obtain⟨e,o,j,_⟩:=mem_ready.1 d;have d:=(qL.1 j).1;rw[g i d]at e;cases e);cases c with|zero=>exact⟨f,h⟩|succ c=>exact⟨λ_=>h,λi d=>by rw[f]at d;cases d⟩
def zXq (W:Waits md ops cl){P:Program}{Q:Exit->Act->World->Prop}{b m:Nat}{listed:Array Bool}{a:Act}{w:World}(c:listed.size=ops.size)(r:m<ops.size)(A:Pinned ops.size cl m)(p:∀i,i<ops.size->listed.getD i true=decide (i<m))(B:left ops.size listed<=b)(h:∀q l,l.size=ops.size->(∀i,i<ops.size->l.getD i true=decide (i<m+1))->left ops.size l<=q->b=q+1->l=listed.setIfInBounds m true->wpOp P ops Q m (wpAny P md ops Q q l) a w):wpAny P md ops Q b listed a w:=by have t:listed.getD m true=false:=(by rw[p m r];simp);obtain⟨C,j⟩:=zLk W c r t;have y:=zH3 (listed:=listed) (n:=ops.size) (i:=m) r t;obtain⟨b,rfl⟩:∃f,b=f+1:=⟨b-1,by omega⟩;refine⟨λh=>(by rw[h]at j;cases j),λi v=>?_⟩;obtain⟨u,o,z,_⟩:=mem_ready.1 v;have d:=(qL.1 z).1;rw[p i d]at u;simp only[decide_eq_false_iff_not,Nat.not_lt]at u;have e:i=m:=(by by_cases s:i=m;{exact s};{exfalso;have:=zF9 W (zsf W c p) v m (A.wait i (by omega) d);rw[zsL (by omega),t] at this;cases this});subst e;refine h b _ (by simp[c]) (λk x=>?_) (by omega) rfl rfl;by_cases g:i=k;{subst g;simp[c,d]};{rw [getD_set_ne true g,p k x];congr 1;simp only[eq_iff_iff];omega}
def zR8 {a T:Nat}(W:Waits md ops cl)(M:T<=ops.size)(s:T<ops.size->Pinned ops.size cl T){P:Program}{Q:Exit->Act->World->Prop}{J:(Nat->Bool)->Env->LV->World->Prop}(d:∀X Y E ts w,(∀k,a<=k->k<T->X k=Y k)->J X E ts w->J Y E ts w)(l:∀X Y i,zkx cl X->a<=i->i<T->X i=false->(∀j∈cl.getD i [],X j=true)->(∀k,Y k=(X k||k==i))->∀E ts w,J X E ts w->∀K:Act->World->Prop,(∀A c y,J Y A c y->K {tmps:=c,defers:=[]} y)->wpOp P ops Q i K {tmps:=ts,defers:=[]} w)(p:∀(Z:Nat) (I:Array Bool) (A:Env) (c:LV) (y:World),I.size=ops.size->(∀i,i<ops.size->I.getD i true=decide (i<T))->left ops.size I<=Z->J (λ_=>true) A c y->wpAny P md ops Q Z I {tmps:=c,defers:=[]} y) :
 ∀(b:Nat) (listed:Array Bool) (E:Env) (ts:LV) (w:World),listed.size=ops.size->zkx cl (XL listed)->(∀i,i<a->XL listed i=true)->(∀m,T<=m->m<ops.size->XL listed m=false)->left ops.size listed<=b->
  J (XL listed) E ts w->wpAny P md ops Q b listed {tmps:=ts,defers:=[]} w
 |b,listed,E,ts,w,x,N,q,g,hf,hS=>by by_cases e:∀i,i<T->XL listed i=true;{have hl:∀i,i<ops.size->listed.getD i true=decide (i<T):=(by intro i z;rw[<- zsL (by omega)];by_cases h:i<T;{rw [e i h];simp[h]};{rw [g i (by omega) z];simp[h]});exact p b listed E ts w x hl hf (d _ _ E ts w (λk _ v=>e k v) hS)};{have O:∃i,i<T/\XL listed i=false:=(by refine Classical.byContradiction (λV=>e λi z=>?_);cases h:XL listed i with|true=>rfl|false=>exact absurd ⟨i,z,h⟩ V);obtain⟨H,R,r⟩:=O;have F:listed.getD H true=false:=(by rw[<- zsL (by omega)];exact r);obtain⟨i1,D⟩:=zLk W x (by omega) F;have a0:0<left ops.size listed:=(by have:=zH3 (listed:=listed) (n:=ops.size) (i:=H) (by omega) F;omega);obtain⟨b,rfl⟩:∃f,b=f+1:=⟨b-1,by omega⟩;refine⟨λh=>(by rw[h]at D;cases D),λi z=>?_⟩;obtain⟨h0,o,ho,_⟩:=mem_ready.1 z;have B:=(qL.1 ho).1;have u:XL listed i=false:=(by rw[zsL (by omega)];exact h0);have G:=zF9 W N z;have S:a<=i:=(by refine Classical.byContradiction (λV=>?_);rw[q i (by omega)]at u;cases u);have t:i<T:=(by refine Classical.byContradiction (λV=>?_);have hp:=s (by omega);by_cases t:i=T;{subst t;have:=G H (hp.full H R);rw[r] at this;cases this};{have:=G T (hp.wait i (by omega) B);rw[g T (qW _) (by omega)] at this;cases this});refine l _ (XL<|listed.setIfInBounds i true) i N S t u G (zJg (by omega)) E ts w hS _ (λA c y L=>?_);refine zR8 W M s d l p b (listed.setIfInBounds i true) A c y (by simp[x]) ?_ ?_ ?_ ?_ L;{intro k v j hj;rw[zJg (by omega)]at v ⊢;by_cases C:k=i;{subst C;rw[G j hj];rfl};{have:(k==i)=false:=(by simp[C]);rw[this,vA]at v;rw[N k v j hj];rfl}};{intro k v;rw[zJg (by omega),q k v];rfl};{intro m hm U;rw[zJg (by omega),g m hm U];simp;omega};{have:=zH3 (listed:=listed) (n:=ops.size) B h0;omega}}
def z3W (A:CfgOk C)(D:CtrOk C)(B:GraftOk C){a T:Nat}(W:Waits md ops cl)(I:a+ss.length=T)(q:T<=ops.size)(g:T<ops.size->Pinned ops.size cl T)(F:Free C ops cl b base a ss st0)(N:b=false->∀k,a<=k->k<T->zll C ops k=false)(O:b=true->Dead st0/\0<st0.ep)(H:∀k,a<=k->k<T->∀n,Mine (base+32*k) n->¬ U n){Q:Exit->Act->World->Prop}(e:∀(t:Nat) (p:Array Bool) (y:Env) (j:LV) (x:World),p.size=ops.size->(∀i,i<ops.size->p.getD i true=decide (i<T))->left ops.size p<=t->
 Sim w0 S0 (UX U base a T λ_=>true) (zbC ops b (λ_=>true) a ss st0) y j sv x->wpAny C.P md ops Q t p {tmps:=j,defers:=[]} x) :
 ∀(d:Nat) (c:Array Bool) (E:Env) (ts:LV) (w:World),c.size=ops.size->zkx cl (XL c)->(∀i,i<a->XL c i=true)->(∀m,T<=m->m<ops.size->XL c m=false)->left ops.size c<=d->
  Sim w0 S0 (UX U base a T<|XL c) (zbC ops b (XL c) a ss st0) E ts sv w->wpAny C.P md ops Q d c {tmps:=ts,defers:=[]} w :=
 zR8 (J:=λX E ts w=>Sim w0 S0 (UX U base a T X) (zbC ops b X a ss st0) E ts sv w) W q g
  (λX Y E ts w h l=>by
   rw[zqR ss a st0 λk f v=>h k f (by omega)]at l
   refine l.uses ?_
   rintro n (f|⟨k,u,f,v,z⟩)
   .exact .inl f
   .exact .inr ⟨k,u,f,by rw[<- h k u f];exact v,z⟩)
  (λX Y i L s R r S M E ts w l K G=>zPz A D B I F L s R r S N O H M l G) e
def get_put {st:St}{d:Nat}{m:MV}{a:Key}(h:a≠.tm d):(st.put (some d) m).get a=st.get a:=by cases a with|tm t=>have:d≠t:=λe=>h (by rw[e]);simp[St.get,St.put,q9,this]|ro n=>rfl|lo n=>rfl
def z2U {st b:St}{o:Oper}(c:b.ep=st.ep)(g:∀t∈zos o,b.get (.tm t)=st.get (.tm t))(f:∀n∈(zsV st o).flatMap zbl,b.get (.ro n)=st.get (.ro n))(d:∀n∈(zsV st o).flatMap zbs,b.get (.lo n)=st.get (.lo n)):Agree st b o.op.operands.toList:=by refine⟨c,λx h=>?_,λx h m k a j=>?_⟩;{cases x with|tmp t=>have l:t∈zos o:=(by unfold zos;exact uU.2 ⟨_,h,rfl⟩);simp only[St.opnd,zJI<|g t l]|_=>rfl};{have i:a∈zsV st o:=(by unfold zsV;exact qR.2 ⟨m,uU.2 ⟨x,h,k⟩,j⟩);exact⟨λn e=>zCn (f n<|qR.2 ⟨a,i,e⟩),λn e=>zJH (d n<|qR.2 ⟨a,i,e⟩)⟩}
def zVy {st k:St}{o:Oper}(h:Agree st k o.op.operands.toList):zqL C k o=zqL C st o:=by cases f:o.op with|call c=>rw[f]at h;have l:∀x∈c.args.toList,x∈(Op.call c).operands.toList:=λx j=>(by simp only[Op.operands,Call.operands,Array.toList_append,jH];exact .inr j);simp only[zqL,f];(cases w:o.dst with|none=>rfl|some d=>(cases hg:o.guard with|some g=>rfl|none=>simp only;(cases q:c.callee with|builtin b=>(cases b with|append=>simp only;split;{rename_i x y T u i s;have j:=l x (by rw[i];simp);have m:=l y (by rw[i];simp);rw[h.at j,h.at m];split;{cases v:C.sty T with|none=>rfl|some t=>(cases e:st.at x with|none=>rfl|some a=>(cases a with|sl r p=>(cases p with|nil=>rfl|cons z p=>(cases n:st.at y with|none=>rfl|some b=>(cases b with|sl B A=>simp only[h.root<|zdX j e,h.node<|zdX j e,h.node<|zdX m n]|_=>rfl)))|_=>rfl))};{rfl}};{rfl}|_=>rfl)|_=>rfl)))|_=>simp only[zqL,f]
def zLj (g:CfgOk C)(e:Sim w0 S0 U st E ts sv w){o:Oper}{id:Nat}{d:Dl}(b:zrS o=true)(h:r0 C st o id=some d)(i:d.c=true):o.guard=none/\zsK C U st E ts w o d:=by
 unfold zrS at b;simp only[qE,jZ]at b;obtain⟨hg,b⟩:=b;refine⟨hg,?_⟩;cases a:o.op
 case move x=>
  rw[a]at b;cases x with
  |tmp t=>simp only[r0,a]at h;split at h;{rename_i v j;cases h;exact z1X e (.inl a) j};{cases h}
  |_=>simp at b
 (case load T x=>exact z1W g e a h);(case fieldAddr T x f=>exact zF7 g e a h);(case indexAddr T x y=>exact zF8 g e a h i);(case nilCheck x=>exact zLc e a h);all_goals (rw [a]at b;simp at b)
def pure_run {o:Oper}{i:Nat}{d:Dl}{v:Value}{Q:Exit->Act->World->Prop}{K:Act->World->Prop}(a:ops[i]?=some o)(hg:o.guard=none)(b:(execOp ({tmps:=ts,defers:=[]}:Act).eval o).run C.P w = .ok (.value v) w1)(h:K {tmps:=(({tmps:=ts,defers:=[]}:Act).put o.dst v).tmps,defers:=[]} w1):wpOp C.P ops Q i K {tmps:=ts,defers:=[]} w:=by unfold wpOp;simp only[a];rw[if_pos (by simp[Region.wanted,hg])];left;unfold Oper.wp;rw[b,Oper.upon_value,zi3];exact h
def zUm {d t:Nat}{v u:Value}(h:ts[t]?=some u)(a:d≠t):(({tmps:=ts,defers:=[]}:Act).put (some d) v).tmps[t]?=some u:=by simp[Act.put,Array.getElem?_setIfInBounds_ne a,h]
def z4e (hC:CfgOk C)(hH:CtrOk C)(hG:GraftOk C){a A:Nat}(W:Waits md ops cl)(hA:a+ss.length=A)(c4:A+1<=ops.size)(c1:A+1<ops.size->Pinned ops.size cl (A+1))(F:Free C ops cl b base a ss st0)(hb:b=false->∀k,a<=k->k<A->zll C ops k=false)(c6:b=true)(hd:b=true->Dead st0/\0<st0.ep)(hM:∀k,a<=k->k<A->∀n,Mine (base+32*k) n->¬ U n){D:Oper}{x:App}(d5:ops[A]?=some D)(y:zqL C (zbC ops b (fun _=>true) a ss st0) D=some (true,x))(d1:zCM ops cl a A=true)(a5:x.dst<(zbC ops b (fun _=>true) a ss st0).tm.length)(N:∀i s o f,ss[i]?=some s->ops[a+i]?=some o->At1 C ops base (a+i) o (zbC ops b (fun j=>decide (j<a+i)) a ss st0) f s->a+i∉cl.getD A []->f.apart (zfS (zbC ops b (fun _=>true) a ss st0) ops D zDN)=true){Q:Exit->Act->World->Prop}(b0:∀(fl:Nat) (l':Array Bool) (E':Env) (B:LV) (w':World) (v:Value),l'.size=ops.size->(∀i,i<ops.size->l'.getD i true=decide (i<A+1))->left ops.size l'<=fl->B[x.dst]?=some v->
 Sim w0 S0 (UX U base a A (fun _=>true)) ((zbC ops b (fun _=>true) a ss st0).put D.dst (.v (.at .bad))) E' B sv w'->Late w0 ((zbC ops b (fun _=>true) a ss st0).put D.dst (.v (.at .bad))) E' x v w'->wpAny C.P md ops Q fl l' {tmps:=B,defers:=[]} w')(I:Nat)(g:Array Bool)(E:Env)(ts:LV)(w:World)(d6:g.size=ops.size)(hX:zkx cl (XL g))(b3:∀i,i<a->XL g i=true)(a6:∀m,A<=m->m<ops.size->XL g m=false)(hf:left ops.size g<=I)(hS:Sim w0 S0 (UX U base a A (XL g)) (zbC ops b (XL g) a ss st0) E ts sv w):wpAny C.P md ops Q I g {tmps:=ts,defers:=[]} w:=by
 have l:D.dst=some x.dst/\D.guard=none:=by unfold zqL at y;split at y;{rename_i c d ho l c9;refine⟨?_,c9⟩;rw[l];congr 1;(repeat' (first|(split at y)|(cases y)));all_goals first|rfl|(simp only [qC,jR]at y;obtain⟨_,rfl⟩:=y;rfl)};{cases y}
 have S:∀{X Y:Nat->Bool} {i:Nat},(∀k,Y k=(X k||k==i))->∀n,UX U base a A X n->UX U base a A Y n:=by intro X Y i V n h;rcases h with h|⟨k,h0,p,r,h3⟩;{exact .inl h};{exact .inr ⟨k,h0,p,by rw[V,r];rfl,h3⟩}
 have a8:∀{X:Nat->Bool} (q:Key),(∀j∈cl.getD A [],X j=true)->(zfS (zbC ops b (fun _=>true) a ss st0) ops D zDN).reads q->(zbC ops b X a ss st0).get q=(zbC ops b (fun _=>true) a ss st0).get q:=by intro X q hr H;refine zqQ ss a st0 st0 rfl rfl (fun k s' o' hk b9 a9 hw=>?_);obtain⟨o2,f',c0,r⟩:=F.at1 k s' hk;rw[b9]at c0;cases c0;have b1:X (a+k)=false:=(by cases h:X (a+k) with|false=>rfl|true=>exact absurd h a9);have hn:a+k∉cl.getD A []:=fun h=>(by rw[hr _ h]at b1;cases b1);exact((apart_spec (N k s' o' f' hk b9 r hn)).1 q ((zB2 r q).1 hw)).1 H
 refine zR8 (T:=A+1) (J:=fun X E ts w=>(X A=false->Sim w0 S0 (UX U base a A X) (zbC ops b X a ss st0) E ts sv w)/\
  (X A=true->∃v,ts[x.dst]?=some v/\Sim w0 S0 (UX U base a A X) ((zbC ops b X a ss st0).put D.dst (.v (.at .bad))) E ts sv w/\Late w0 (zbC ops b X a ss st0) E x v w)) W c4 c1 ?_ ?_ ?_
  I g E ts w d6 hX b3 (fun m p r=>a6 m (by omega) r) hf ⟨fun _=>hS,fun h=>(by rw[a6 A (qW _) (by omega)]at h;cases h)⟩
 .intro X Y E ts w h hJ;have u:X A=Y A:=h A (by omega) (by omega)
  have e:=zqR (ops:=ops) (b:=b) ss a st0 (X:=X) (Y:=Y) (fun k p r=>h k p (by omega))
  have hu:∀n,UX U base a A X n->UX U base a A Y n:=by rintro n (p|⟨k,h0,p,r,h3⟩);{exact .inl p};{exact .inr ⟨k,h0,p,by rw[<- h k h0 (by omega)];exact r,h3⟩}
  refine⟨fun G=>?_,fun G=>?_⟩
  .have:=hJ.1 (u.trans G);rw[e] at this;exact this.uses hu
  .obtain⟨v,p,r,h3⟩:=hJ.2 (u.trans G);rw[e]at r h3;exact⟨v,p,r.uses hu,h3⟩
 .intro X Y i hX hia hi hXi hr V E ts w hJ K hK
  by_cases d0:i=A
  .subst d0;have L:=hJ.1 hXi;have b2:zbC ops b Y a ss st0=zbC ops b X a ss st0:=zqR ss a st0 (fun k p r=>by
    rw[V];have:(k==i)=false:=by simp;omega
    rw[this,vA])
   have c5:Agree (zbC ops b (fun _=>true) a ss st0) (zbC ops b X a ss st0) D.op.operands.toList :=
    z2U (by rw[zhT,zhT]) (fun t ht=>a8 (.tm t) hr (by simp only[Foot.reads,zfS];exact j6 _ ht)) (fun n hn=>a8 (.ro n) hr hn) (fun n hn=>a8 (.lo n) hr hn)
   have a2:=zVy (C:=C) c5;rw[y]at a2;have c8:Dead (zbC ops b X a ss st0):=by subst c6;exact zy0 ss a st0 (hd rfl).1 (hd rfl).2
   obtain⟨hg,c7,v,w',R,a7,hL⟩:=z4i hC L c8 a2;refine pure_run (d:=zDN) d5 hg R (hK E _ w' ⟨fun h=>(by rw[V]at h;simp at h),fun _=>⟨v,?_,?_,?_⟩⟩)
   .rw [c7];have d4:x.dst<ts.size:=by rw[L.tm.1,znO];rw[znO]at a5;exact a5
    simp[Act.put,d4]
   .rw [b2];exact a7.uses (S V)
   .rw [b2];exact hL
  .have hiA':i<A:=by omega
   have G:Y A=X A:=by rw[V];have:(A==i)=false:=(by simp;omega);rw[this,vA]
   cases u:X A with
   |false=>refine zPz hC hH hG hA F hX hia hiA' hXi hr hb hd hM V (hJ.1 u) (fun E' B w' a7=>hK E' B w' ⟨fun _=>a7,fun h=>(by rw[G,u]at h;cases h)⟩)
   |true=>
    obtain⟨v,hv,L,hL⟩:=hJ.2 u;obtain⟨j,rfl⟩:∃j,i=a+j:=⟨i-a,by omega⟩;obtain⟨s,hs⟩:∃s,ss[j]?=some s:=⟨_,qB (by omega)⟩;obtain⟨o,f,ho,p,r⟩:=zJG F hX hs hXi hr;have b8:a+j∉cl.getD A []:=fun h=>(by rw[hX A u _ h]at hXi;cases hXi);have O:zrS o=true:=(by have:=qO.1 d1 (a+j) (by simp;omega);simp only[ho,kJ,jO,jA] at this;rcases this with h|h;{exact absurd h b8};{exact h});have a3:=apart_spec (N j s o f hs ho p b8);have c2:(zfS (zbC ops b (fun _=>true) a ss st0) ops D zDN).writes (.tm x.dst):=(by simp only[Foot.writes,zfS];exact l.1);have a9:∀q,f.reads q->q≠.tm x.dst:=fun q H e=>a3.2 (.tm x.dst) c2 (e ▸ H);have a4:o.dst≠some x.dst:=fun e=>(a3.1 (.tm x.dst) ((zB2 p (.tm x.dst)).1 (by cases s<;>exact e))).2 c2;have a0:∀Z,(zbC ops b Z a ss st0).ep=st0.ep:=fun Z=>zhT ss a st0;have M:=zSa (S':=(zbC ops b X a ss st0).put D.dst (.v (.at .bad))) p (by rw[a0,l.1];exact a0 X) (fun q H=>by rw[l.1,get_put (a9 q H)];exact r q H);have b4:o.guard=none:=by unfold zrS at O;simp only[qE,jZ]at O;exact O.1
    cases s with
    |none=>exfalso;have:zdj ops o ((zbC ops b X a ss st0).put D.dst (.v (.at .bad)))=some false:=M;simp[zdj,b4] at this
    |some d=>
     obtain⟨_,d2,d3⟩:=M;obtain⟨_,v2,R,d7,b5,e1,e2,e3⟩:=zLj hC L O (zVF O d2) d3;have z:∀q,(zbC ops b Y a ss st0).get q=((zbC ops b X a ss st0).put o.dst d.v).get q:=(by intro q;rw[zSQ F hX hs ho hXi V q];simp only[St.step,St.effD,e1,e2,List.map_nil,jS]);have c3:Sim w0 S0 (UX U base a A X) (((zbC ops b X a ss st0).put D.dst (.v (.at .bad))).put o.dst d.v) E (({tmps:=ts,defers:=[]}:Act).put o.dst v2).tmps sv w:=L.putV d7 b5;refine pure_run (d:=d) ho b4 R (hK E _ w ⟨fun h=>(by rw[G,u]at h;cases h),fun _=>⟨v,?_,?_,?_⟩⟩);{cases a1:o.dst with|none=>exact hv|some t=>exact zUm hv (fun e=>a4 (by rw[a1,e]))}
     .refine(c3.same (fun q=>?_) ?_ ?_).uses (S V)
      .rw [l.1];cases q with
       |tm t=>
        have hk:=z (.tm t);have b6:(zbC ops b Y a ss st0).tm.length=(zbC ops b X a ss st0).tm.length:=(by rw[znO,znO]);by_cases ht:t=x.dst;{subst ht;cases a1:o.dst with|none=>simp[St.get,St.put,q9,b6]|some t' =>have:t'≠x.dst:=fun e=>a4 (by rw[a1,e]);simp[St.get,St.put,q9,b6,this]}
        .have hne':x.dst≠t:=fun e=>ht e.symm;rw[get_put (by simpa using ht),hk]
         cases a1:o.dst with
         |none=>simp[St.get,St.put,q9,hne']
         |some t' =>simp only[St.get,St.put,q9,List.length_set];split;{rfl};{first|rfl|rw[if_neg hne']}
       |ro n=>have hk:=z (.ro n);rw[get_put (by simp),hk];cases o.dst<;>rfl
       |lo n=>have hk:=z (.lo n);rw[get_put (by simp),hk];cases o.dst<;>rfl
      {rw [l.1];have p:(zbC ops b Y a ss st0).stk=(zbC ops b X a ss st0).stk:=(by rw[zrE,zrE]);cases o.dst<;>exact p};{rw [l.1];have p:(zbC ops b Y a ss st0).ep=(zbC ops b X a ss st0).ep:=(by rw[zhT,zhT]);cases o.dst<;>exact p}
     .have hro:∀n,zn (zbC ops b Y a ss st0).ro n=zn (zbC ops b X a ss st0).ro n:=fun n=>(by rw[zCn (z (.ro n))];cases o.dst<;>rfl);have b7:∀n,zn (zbC ops b Y a ss st0).lo n=zn (zbC ops b X a ss st0).lo n:=fun n=>by rw[zJH (z (.lo n))];cases o.dst<;>rfl
      exact hL.states (fun n=>by
       unfold St.root;rw[hro n,a0 Y,a0 X]) b7
 .intro fl l' E' B w' hsz' hl' hf' hJ;obtain⟨v,p,r,h3⟩:=hJ.2 rfl;refine b0 fl l' E' B w' v hsz' hl' hf' p r (h3.states (fun n=>?_) (fun n=>?_))
  .rw [l.1];rfl
  .rw [l.1];rfl
def VV (U:Nat->Prop)(base a m n:Nat):Prop:=U n\/(base<=n/\n<base+32*m)\/base+32*a<=n
def zxy (N:CfgOk C)(W:Waits md ops cl){x:App}{kk:Nat->List Bool->St->Option Ans}{s:Ans}{Q:Exit->Act->World->Prop}(B:∀(H:Nat) (r':List Bool) (L:Nat->Prop) (j:St) (K:Env) (I:LV) (J:World) (u:Nat) (p:Array Bool),r'=(zhX ops.size cl).drop H->H<=ops.size->p.size=ops.size->(∀i,i<ops.size->p.getD i true=decide (i<H))->left ops.size p<=u->
 Sim w0 S0 L j K I sv J->(∀n,L n->VV U base ops.size H n)->(∀n,j.nid<=n->¬ L n)->base+32*ops.size<=j.nid->kk H r' j=some s->wpAny C.P md ops Q u p {tmps:=I,defers:=[]} J) :
 ∀(l:List Bool) (m:Nat) (V:Nat->Prop) (st:St) (E:Env) (ts:LV) (w:World) (b:Nat) (a:Array Bool) (v:Value),l=(zhX ops.size cl).drop m->m<=ops.size->a.size=ops.size->(∀i,i<ops.size->a.getD i true=decide (i<m))->left ops.size a<=b->
  Sim w0 S0 V st E ts sv w->(∀n,V n->VV U base ops.size m n)->(∀n,st.nid<=n->¬ V n)->base+32*ops.size<=st.nid->ts[x.dst]?=some v->Late w0 st E x v w->zp2 C ops base x kk l m st=some s->wpAny C.P md ops Q b a {tmps:=ts,defers:=[]} w
 |[],m,V,st,E,ts,w,b,a,v,_,_,_,_,_,_,_,_,_,_,_,h=>by simp[zp2]at h
 |false::r,m,V,st,E,ts,w,b,a,v,_,_,_,_,_,_,_,_,_,_,_,h=>by simp[zp2]at h
 |true::r,m,V,st,E,ts,w,b,a,v,hp,hm,Y,hl,hf,O,hV,hF,hn,Z,hL,h=>by
  simp only[zp2]at h;obtain⟨T,F,hr⟩:=zrQ hp;have y:∀n,V n->VV U base ops.size (m+1) n:=(by rintro n g;rcases hV n g with h|⟨M,h2⟩|h;{exact .inl h};{exact .inr (.inl ⟨M,by omega⟩)};{exact .inr (.inr h)});refine zXq W Y T (zwD F.symm) hl hf (λu p k D z _ _=>?_);split at h;{cases h}
  .rename_i o ho;split at h
   .rename_i c st2 hst;cases q:c with
    |false=>rw[q]at h;cases h
    |true=>rw[q]at h hst;simp only[cond_true,zDx]at h;obtain⟨hg,S,a1⟩:=zYQ (id:=base+32*m) N O hL Z hst;unfold wpOp;simp only[ho];rw[if_pos (by simp[Region.wanted,hg])];refine .inl (S _ _ λK v' J R=>?_);rw[zi3];refine B (m+1) r _ _ K _ J u p hr (by omega) k D z R ?_ ?_ (by rw[zf9];omega) h;{rintro n (h|⟨M,h2⟩);{exact y n h};{exact .inr (.inl ⟨by omega,by omega⟩)}};{rintro n g (h|⟨M,h2⟩);{exact hF n (by rw[zf9]at g;omega) h};{rw [zf9]at g;omega}}
   {split at h;{rename_i f;simp only[qE,jI,beq_eq_false_iff_ne]at f;split at h;{rename_i d hd;cases q:d.c with|false=>rw[q]at h;cases h|true=>rw[q]at h;simp only[cond_true]at h;obtain⟨hg,v2,G,a0,A,e1,e2,e3⟩:=zLj N O f.1 hd q;have he:st.apply o.dst d=st.put o.dst d.v:=(by simp[St.apply,e1,e2,e3]);rw[he]at h;refine pure_run (d:=d) ho hg G ?_;refine zxy N W B r (m+1) V _ E _ w u p v hr (by omega) k D z (O.putV a0 A) y (by rw[zf9];exact hF) (by rw[zf9];exact hn) ?_ (hL.states (λn=>?_) λn=>?_) h;{cases X:o.dst with|none=>exact Z|some t=>exact zUm Z (λe=>f.2 (by rw[X,e]))};{cases o.dst<;>rfl};{cases o.dst<;>rfl}};{cases h}};{cases h}}
def zm7 (hC:CfgOk C)(hH:CtrOk C)(hG:GraftOk C)(hN:NameOk C){a1:zhm}(u:zts C a1)(W:Waits md ops cl){k:St->Option Ans}{b1:Ans}{Q:Exit->Act->World->Prop}(N:∀n,base<=n->¬ U n)(hk:∀(U':Nat->Prop) (d:St) (E':Env) (B:LV) (w':World),Sim w0 S0 U' d E' B sv w'->(∀n,U' n->VV U base ops.size ops.size n)->base+32*ops.size<=d.nid->(∀n,d.nid<=n->¬ U' n)->k d=some b1->Q .normal {tmps:=B,defers:=[]} w') :
 ∀(fs m:Nat) (Y:List Bool) (V:Nat->Prop) (st:St) (E:Env) (ts:LV) (w:World) (l:Nat) (c:Array Bool),Y=(zhX ops.size cl).drop m->m<=ops.size->c.size=ops.size->(∀i,i<ops.size->c.getD i true=decide (i<m))->left ops.size c<=l->
  Sim w0 S0 V st E ts sv w->(∀n,V n->VV U base ops.size m n)->(∀n,st.nid<=n->¬ V n)->base+32*ops.size<=st.nid->zkz C a1 ops cl base k fs m Y st=some b1->wpAny C.P md ops Q l c {tmps:=ts,defers:=[]} w
 | 0,m,Y,V,st,E,ts,w,l,c,_,_,_,_,_,_,_,_,_,h=>by simp[zkz]at h
 |fs+1,m,[],V,st,E,ts,w,l,c,hp,hm,G,hl,hf,hS,hV,hF,hn,h=>by simp only[zkz]at h;have a8:=zUi hp;have e:m=ops.size:=(by omega);subst e;exact z4q (λi hi=>by rw[hl i hi];simp[hi]) (hk V st E ts w hS hV hn hF h)
 |fs+1,m,true::r,V,st,E,ts,w,l,c,hp,hm,G,hl,hf,hS,hV,hF,hn,h=>by
  simp only[zkz]at h;obtain⟨a8,b8,hr⟩:=zrQ hp;refine zXq W G a8 (zwD b8.symm) hl hf (λfl l' A X S _ _=>?_)
  let Q':Exit->Act->World->Prop:=λe a w=>match e with
   |.normal=>wpAny C.P md ops Q fl l' a w
   |e=>Q e a w
  have hQ:∀e,e≠Exit.normal->∀a w,Q' e a w->Q e a w:=by intro e he a w h;cases e<;>first|exact absurd rfl he|exact h
  refine zZW hQ ?_;have c0:=zoi (Q:=Q') hC hH hG hN u (ops:=ops) (base:=base) (V:=VV U base ops.size (m+1)) (nid0:=base+32*ops.size) (λn p=>.inr (.inr p))
   (λU' d E' B w' M c7 p c6 h'=>zm7 hC hH hG hN u W N hk fs (m+1) r U' d E' B w' fl l' hr (by omega) A X S M c7 c6 p h')
   [m] V st E ts w hS ?_ hF ?_ (by simp) hn ?_ h
  {rw [wpOps_cons] at c0;exact wpOp_mono (λa w h=>h) c0};{rintro n p;rcases hV n p with h|⟨t,D⟩|h;{exact .inl h};{exact .inr (.inl ⟨t,by omega⟩)};{exact .inr (.inr h)}};{intro j hj n d2;simp only[qD]at hj;subst hj;obtain⟨Z,g2⟩:=d2;refine⟨λp=>?_,.inr<|.inl ⟨by omega,by omega⟩⟩;rcases hV n p with h|⟨t,D⟩|h;{exact N n (by omega) h};{omega};{omega}};{intro j hj;simp only[qD]at hj;subst hj;omega}
 |fs+1,m,false::r,V,st,E,ts,w,l,c,hp,hm,G,hl,hf,hS,hV,hF,hn,h=>by
  simp only[zkz]at h;obtain⟨a8,_,hr⟩:=zrQ hp;obtain⟨b6,a2,a3⟩:=zPX r (m+1) (by omega) hr;generalize b5:(List.range' m<|zco r+1).any (zll C ops)=b at h;have H:Sim w0 S0 V {st with ep:=if b then st.ep+1 else st.ep} E ts sv w:=hS.blind b st.nid;have z:({st with ep:=if b then st.ep+1 else st.ep}:St).nid=st.nid:=rfl
  have a0:b=true->Dead ({st with ep:=if b then st.ep+1 else st.ep}:St)/\0<({st with ep:=if b then st.ep+1 else st.ep}:St).ep:=by
   intro hb;subst hb;refine⟨λn R e hR he=>?_,by simp⟩
   have:=hS.mem.epo n R e hR he;simp only[if_true];omega
  have b4:b=false->∀k,m<=k->k<m+1+zco r->zll C ops k=false:=(by intro hb k d9 e0;rw[hb]at b5;have:=kV.1 b5 k (by simp;omega);simpa using this);have hM:∀k,m<=k->k<m+1+zco r->∀n,Mine (base+32*k) n->¬ V n:=by intro k t D n p hv;have Z:=p.1;have g2:=p.2;rcases hV n hv with h|⟨h3,h4⟩|h;{exact N n (by omega) h};{omega};{omega}
  have a5:∀(ss:List Step) (st0:St),zbC ops b (XL c) m ss st0=st0:=λss st0=>zvi ss m st0 (λk hk=>by
   rcases uH k ops.size with h|h
   .rw [zsL (by omega),hl k h];simp;omega
   .simp [XL,u1 (show c.size<=k by omega)])
  have b3:∀{T:Nat},T<=m+(zco r+1)->∀n,UX V base m T (λ_=>true) n->VV U base ops.size (m+(zco r+1)) n:=(by rintro T hT n (h|⟨k,h0,t,_,h3⟩);{rcases hV n h with h|⟨t,D⟩|h;{exact .inl h};{exact .inr (.inl ⟨t,by omega⟩)};{exact .inr (.inr h)}};{have Z:=h3.1;have g2:=h3.2;exact .inr (.inl ⟨by omega,by omega⟩)});have b2:∀{T:Nat},T<=m+(zco r+1)->∀n,st.nid<=n->¬ UX V base m T (λ_=>true) n:=(by rintro T hT n p (h|⟨k,h0,t,_,h3⟩);{exact hF n (by omega) h};{have:=h3.2;omega});have b7:∀{gs:List (Nat×Foot)} {ss:List Step} {st0 d:St},(∀x∈gs,∀y∈gs,(¬ x.1<y.1\/x.1∈cl.getD y.1 [])\/x.2.apart y.2=true)->Trace C ops b base m ss gs st0 d->Free C ops cl b base m ss st0:=(by intro gs ss st0 d g q;have O:=zVk q;refine⟨λi s hs=>?_,λi k s s' o o' f f' hs d4 ho d3 t D d8 a9=>?_⟩;{obtain⟨o,f,Z,g2,g3⟩:=O i s hs;exact⟨o,f,Z,g3⟩};{obtain⟨o1,f1,Z,g2,g3⟩:=O i s hs;obtain⟨o2,f2,e1,e2,e3⟩:=O k s' d4;rw[ho] at Z;cases Z;rw[d3] at e1;cases e1;have a6:=zGP t g3;have d1:=zGP D e3;subst a6 d1;rcases g _ g2 _ e2 with (h|h)|h;{exact absurd (by show m+i<m+k;omega) h};{exact absurd h a9};{exact h}});have J:∀i,i<m->XL c i=true:=λi hi=>(by rw[zsL (by omega),hl i (by omega)];simp[hi]);have I:∀k,m<=k->k<ops.size->XL c k=false:=λk t D=>(by rw[zsL (by omega),hl k D];simp;omega);rcases zsb (zco r+1) m [] _ h with⟨ss,gs,d,a4,q,g,K⟩|⟨ss,gs,d,oA,x,a4,q,b0,c8,c9,a7,d5,g,K⟩|⟨ss,gs,d,oA,a4,q,b0,d0,a7,e4,g,K⟩;{rw [jE]at g;unfold znN at g;simp only[jI,qO,kJ,decide_eq_false_iff_not,jO,jA,List.mem_reverse]at g;generalize b9:({st with ep:=if b then st.ep+1 else st.ep}:St)=st0 at q H z a0;have L:d=zbC ops b (λ_=>true) m ss st0:=zP9 q;refine z3W (w0:=w0) (S0:=S0) (sv:=sv) hC hH hG W (T:=m+1+zco r) (by omega) b6 a3 (b7 g q) b4 a0 hM (λfl l' E' B w' A X S M=>?_) l c E ts w G (zsf W G hl) J (λk t D=>I k (by omega) D) hf ?_;{rw [<- L]at M;have F:d.nid=st.nid:=(by rw[L,zCl,z]);exact zm7 hC hH hG hN u W N hk fs (m+(zco r+1)) (r.drop<|zco r) _ d E' B w' fl l' (by rw[a2];congr 1;omega) (by omega) A (λi hi=>by rw[X i hi];congr 1;simp only[eq_iff_iff];omega) S M (b3 (by omega)) (by rw[F];exact b2 (by omega)) (by omega) K};{rw [a5];exact H.uses (λn h=>.inl h)}}
  .rw [jE]at g;unfold znN at g;simp only[jI,qO,kJ,decide_eq_false_iff_not,jO,jA,qG,List.mem_reverse]at g;generalize b9:({st with ep:=if b then st.ep+1 else st.ep}:St)=st0 at q H z a0;have L:d=zbC ops b (λ_=>true) m ss st0:=zP9 q;subst L;have hA:m+ss.length=m+zco r:=by omega
   rw[hA]at b0 a7 g;have O:=zVk q;refine z4e (w0:=w0) (S0:=S0) (sv:=sv) hC hH hG W hA (by omega) (λh=>by
    have e:m+zco r+1=m+1+zco r:=by omega
    rw[e]at h ⊢;exact a3 h) (b7 (λx hx y hy=>g x (.inr hx) y (.inr hy)) q) (λhb k t D=>b4 hb k t (by omega)) c9 a0 (λk t D=>hM k t (by omega)) b0 c8 a7 d5 (λi s o f hs ho t a9=>?_)
    (λfl l' E' B w' v A X S hv M hL=>?_) l c E ts w G (zsf W G hl) J (λk t D=>I k (by omega) D) hf ?_
   {obtain⟨o1,f1,Z,g2,g3⟩:=O i s hs;rw[ho] at Z;cases Z;have a6:=zGP t g3;subst a6;have hi:i<ss.length:=(qA.1 hs).1;rcases g _ (.inr g2) _ (.inl rfl) with (h|h)|h;{exact absurd (by show m+i<m+zco r;omega) h};{exact absurd h a9};{exact h}}
   .have F:((zbC ops b (λ_=>true) m ss st0).put oA.dst (.v<|.at .bad)).nid=st.nid:=by rw[zf9,zCl,z]
    exact zxy hC W (λm' r' U' c1 c3 c2 d7 c4 d6 t D h3 h4 h5 h6 h7 h8 h9 c5=>zm7 hC hH hG hN u W N hk fs m' r' U' c1 c3 c2 d7 c4 d6 t D h3 h4 h5 h6 h7 h8 h9 c5)
     (r.drop<|zco r) (m+(zco r+1)) _ _ E' B w' fl l' v (by rw[a2];congr 1;omega) (by omega) A (λi hi=>by rw[X i hi];congr 1) S M (b3 (by omega)) (by rw[F];exact b2 (by omega)) (by omega) hv hL K
   {rw [a5];exact H.uses (λn h=>.inl h)}
  {exact Bool.noConfusion (show false=true from d0)}
def z7V (Z:CfgOk C)(hH:CtrOk C)(hG:GraftOk C)(hN:NameOk C):DrawOk C:=by
 refine⟨λN g ops k X Q w0 S0 sv U0 S U st E ts w hk hS hU O hn h t=>?_⟩;unfold zG6 at h;simp only at h;generalize I:zit ops (List.range ops.size) []=cl at h;split at h;(case isFalse=>cases h);rename_i j;unfold z02 at j;simp only[qE,qO,kR,jA]at j;obtain⟨a,s⟩:=j;have d:∀i,i<ops.size->cl.getD i []=waits ops (cl.take i) i:=λi r=>(by rw[<- I];exact zX1 r);have f:∀(md:Region.Mode) (c:Nat->Nat),zN1 md ops c=true->∃c:Nat->Nat,∀(i:Nat) (o:Oper),ops[i]?=some o->∀e∈o.after,Region.binds md e=true->e.on<ops.size/\c e.on<c i:=by intro md c h;refine⟨c,λi o v e J H=>?_⟩;have:=qO.1 h i (kR.2 (qL.1 v).1);rw[v] at this;have:=qO.1 this e (by simpa using J);simpa [H] using this
 have p:∀(md:Region.Mode),(∀e,Region.binds .any e=true->Region.binds md e=true)->(∃c:Nat->Nat,∀(i:Nat) (o:Oper),ops[i]?=some o->∀e∈o.after,Region.binds md e=true->e.on<ops.size/\c e.on<c i)->Waits md ops cl :=
  λmd y A=>⟨d,s,y,A⟩
 have m:∀e,Region.binds .any e=true->Region.binds .text e=true:=λe h=>(by unfold Region.binds at *;cases hg:e.ground<;>rw [hg]at h<;>simp at h ⊢);have l:∀e,Region.binds .any e=true->Region.binds .gc e=true:=λe h=>by unfold Region.binds at *;cases hg:e.ground<;>rw [hg]at h<;>simp at h ⊢
 have b:∃md L,Region.schedule (C.P.follows .mixedOrders) ops t=Region.linearise md ops L/\Waits md ops cl:=by
  have q:Waits .any ops cl:=p .any (λ_ h=>h) ⟨λi=>i,λi o v e J H=>by
   have y:=z7X d v J H;have r:=(qL.1 v).1;have A:=s i r _ y;exact⟨by omega,A⟩⟩
  unfold Region.schedule;by_cases z:(C.P.follows .mixedOrders || !Region.departs ops)=true;{rw [if_pos z];exact⟨.any,t,rfl,q⟩};{rw [if_neg z];have hd:Region.departs ops=true:=(by cases h:Region.departs ops with|true=>rfl|false=>rw[h]at z;simp at z);rw[hd,cond_true,qE]at a;by_cases R:(t % 2==0)=true;{rw [if_pos R];exact⟨.text,t / 2,rfl,p .text m<|f .text _ a.1⟩};{rw [if_neg R];exact⟨.gc,t / 2,rfl,p .gc l<|f .gc _ a.2⟩}}
 obtain⟨md,L,x,W⟩:=b;rw[x];refine wpAny_sound ops.size L _ _ _ ?_;have F:Sim w0 S0 U {st with nid:=st.nid+32*ops.size} E ts sv {w with drawn:=w.drawn+1}:=(hS.nid _).heap (w':={w with drawn:=w.drawn+1}) rfl rfl rfl rfl;refine zm7 Z hH hG hN g W O (λV K T M w' D G u B Y=>hk V K T M w' D ?_ (by omega) B Y) (ops.size+1) 0 (zhX ops.size cl) U _ E ts _ ops.size _ rfl (by omega) (by simp) (λi r=>by simp[r]) ?_ F (λn h=>.inl h) ?_ (qW _) h;{intro n h;rcases G n h with h|⟨y,_⟩|h;{exact hU n h};{exact .inr (by omega)};{exact .inr (by omega)}};{unfold left;exact qS (List.countP_le_length) (by simp)};{intro n u h;exact O n (qS (uL _ _) u) h}
end
section
variable {P:Program}
def zVt:Value->CTy->Bool
 |.int k n,.i a=>k==a&&n==0
 |.bool b,.b=>!b
 |.slice none 0 0,.s _=>true
 |_,_=>false
def zzU:List Value->List CTy->Bool
 |[],[]=>true
 |v::vs,t::ts=>zVt v t&&zzU vs ts
 |_,_=>false
def z2S {v:Value}{t:CTy}(h:zVt v t=true):v=zeroV t:=by unfold zVt at h;split at h;{simp only [qE,qJ]at h;obtain⟨rfl,rfl⟩:=h;rfl};{simp only [jI]at h;subst h;rfl};{rfl};{cases h}
def zGJ:∀{b:List Value} {a:List CTy},zzU b a=true->b=a.map zeroV
 |[],[],_=>rfl
 |v::b,t::a,h=>by simp only[zzU,qE]at h;rw[jC,z2S h.1,zGJ h.2]
 |[],_::_,h=>by cases h
 |_::_,[],h=>by cases h
def zCE (P:Program)(T:TypeId)(a:List CTy):Bool :=
 match P.info? T with
 |some i=>i.size==a.length&&(match i.zero with
  |some z=>zzU z.cells.toList a
  |none=>false)
 |none=>false
def zCF {T:TypeId}{a:List CTy}(h:zCE P T a=true):∃i z,P.info? T=some i/\i.size=a.length/\i.zero=some z/\z.cells.toList=a.map zeroV:=by unfold zCE at h;split at h;{rename_i i d;simp only[qE,qJ]at h;obtain⟨c,b⟩:=h;split at b;{rename_i z e;exact⟨i,z,d,c,e,zGJ b⟩};{cases b}};{cases h}
def zoe (P:Program)(T:TypeId):Bool :=
 (match zcE P 4 T with
  |some (b,a)=>zCE P T a&&(!b||(match P.underlying T with
   |some (.struct c)=>(c.toList.mapM λf=>(P.info? f.type).map λi=>(f.offset,i.size)).isSome
   |_=>false))
  |none=>true) &&
 (match P.underlying T with
  |some (.slice e)=>match zn zRW e with
   |some t=>zCE P e t.shape&&(match P.info? e with
    |some i=>decide (i.bytes<=1024)
    |none=>false)&&(match zcE P 4 e with
    |some (_,a)=>decide (a=t.shape)
    |none=>false)
   |none=>true
  |_=>true)
def zvf (P:Program):List Field->Nat->List CTy->Bool
 |[],_,[]=>true
 |f::fs,a,ty::tys=>f.name != "_" && f.offset==a&&(match P.underlying f.type,ty with
  |some (.int k),.i c=>k==c
  |some .bool,.b=>true
  |_,_=>false)&&zvf P fs (a+1) tys
 |_,_,_=>false
def zRI (P:Program)(T:TypeId):Bool :=
 match zcE P 4 T with
 |some (true,a)=>!P.stoodInHeld T && !P.eqGuardType P.depth T&&(match P.underlying T with
  |some (.struct b)=>zvf P b.toList 0 a
  |_=>false)
 |_=>true
def zRG {n:Nat}{T:TypeId}{a:Bool}{c:List CTy}(h:zcE P n T=some (a,c)) :
 (∃d,P.underlying T=some d/\zS8 d=a/\(∀k,c=[.i k]->a=false->d = .int k)/\(c=[.b]->a=false->d = .bool))/\(a=false->c.length=1):=by
 cases n with
 |zero=>cases h
 |succ n=>simp only[zcE]at h;split at h;{rename_i k f;cases h;exact⟨⟨_,f,rfl,λg h _=>by simp only[List.cons.injEq,CTy.i.injEq,and_true]at h;rw[h],λh=>by simp at h⟩,λ_=>rfl⟩};{rename_i f;cases h;exact⟨⟨_,f,rfl,λg h=>by simp at h,λ_ _=>rfl⟩,λ_=>rfl⟩};{rename_i e f;split at h;{cases h;exact⟨⟨_,f,rfl,λg h=>by simp at h,λh=>by simp at h⟩,λ_=>rfl⟩};{cases h}};{rename_i j f;split at h;{cases h;exact⟨⟨_,f,rfl,λg _ h=>(by cases h),λ_ h=>(by cases h)⟩,λh=>by cases h⟩};{cases h}};{cases h}
def zJl {b:Type}{T:Nat}{x:Option b}{y:b}(h:below T x=some y):T<zgR/\x=some y:=by unfold below at h;cases a:Nat.blt T zgR with|false=>rw[a]at h;cases h|true=>rw[a]at h;exact⟨by rwa [vL]at a,h⟩
def mapM_at {e f:Type}{g:e->Option f}:∀{l:List e} {m:List f},l.mapM g=some m->∀{k:Nat} {x:e},l[k]?=some x->m[k]?=g x
 |[],m,h,k,x,c=>by simp at c
 |a::l,m,h,k,x,c=>by simp only[vG,Option.bind_eq_bind,uZ,Option.pure_def,qC]at h;obtain⟨b,i,j,d,rfl⟩:=h;cases k with|zero=>simp only[qI,qC]at c;subst c;rw[i];rfl|succ k=>exact mapM_at d (by simpa using c)
def zhz {e i:Type}{f:e->Option i}{a:e}{l:List e}{g:List i}(h:zb6 f (a::l)=some g):∃b c,f a=some b/\zb6 f l=some c/\g=b::c:=by simp only[zb6]at h;split at h;{rename_i b j;split at h;{rename_i c d;cases h;exact⟨b,c,j,d,rfl⟩};{cases h}};{cases h}
def zFT (w:World)(d:Nat)(v z:LV):∀(W:List Field) (g:Nat) (p:List CTy) (l m:List At) (e:Bool),zvf P W g p=true->zb6 zoc l=some p->zb6 zoc m=some p->zu1 l m=some e->
 v.size=g+l.length->z.size=g+m.length->(∀(j:Nat) (a:At) (u:Value),l[j]?=some a->v[g+j]?=some u->VS a u)->(∀(j:Nat) (a:At) (u:Value),m[j]?=some a->z[g+j]?=some u->VS a u)->
 (Op.eqFields (d+1) v z W).run P w = .ok e w
 |[],g,p,l,m,e,R,X,Y,A,_,_,_,_=>by cases p with|cons t ts=>cases R|nil=>(cases l with|cons a l=>obtain⟨_,_,_,_,h⟩:=zhz X;cases h|nil=>(cases m with|cons a m=>obtain⟨_,_,_,_,h⟩:=zhz Y;cases h|nil=>cases A;simp[Op.eqFields]))
 |f::W,g,p,l,m,e,R,X,Y,A,q,r,hx,hy=>by
  cases p with
  |nil=>cases R
  |cons ty p=>
   cases l with
   |nil=>cases X
   |cons a l=>
    cases m with
    |nil=>cases Y
    |cons c m=>
     obtain⟨ta,a6,O,E,h⟩:=zhz X;cases h;obtain⟨tc,a5,K,F,h⟩:=zhz Y;cases h;simp only[zvf,qE,bne_iff_ne,ne_eq,qJ]at R;obtain⟨⟨⟨hn,S⟩,B⟩,G⟩:=R;have I:v[g]?=some (v[g]'(by simp only[qX]at q;omega)):=(by simp);have J:z[g]?=some (z[g]'(by simp only[qX]at r;omega)):=by simp
     have T:=hx 0 a _ rfl I;have U:=hy 0 c _ rfl J;have H:∃L,zSb a c=some L/\(part f.type v f.offset).run P w = .ok (v[g]'(by simp only[qX]at q;omega)) w/\(part f.type z f.offset).run P w = .ok (z[g]'(by simp only[qX]at r;omega)) w/\
      (Op.equalIn (d+1) f.type (v[g]'(by simp only[qX]at q;omega))<|z[g]'(by simp only[qX]at r;omega)).run P w = .ok L w:=by
      rw[S];cases a with
      |i k n=>
       simp only[zoc,qC]at O;subst O;cases c with
       |i k' n' =>
        simp only[zoc,qC,CTy.i.injEq]at K;subst K;cases s:P.underlying f.type with
        |none=>rw[s]at B;cases B
        |some D=>
         rw[s]at B;cases D<;>first|(cases B;done)|skip;refine⟨ieq n n',by simp[zSb],by simp[part,isAgg,run_underlying s,I],by simp[part,isAgg,run_underlying s,J],?_⟩;rw[show v[g]'(by simp only[qX]at q;omega) = .int k' n from T,show z[g]'(by simp only[qX]at r;omega) = .int k' n' from U];exact run_equalIn_int w d f.type k' _ n n' s
       |b _=>simp[zoc]at K
       |_=>simp[zoc]at K
      |b x=>
       simp only[zoc,qC]at O;subst O;cases c with
       |b x' =>
        cases s:P.underlying f.type with
        |none=>rw[s]at B;cases B
        |some D=>
         rw[s]at B;cases D<;>first|(cases B;done)|skip;refine⟨ziM x x',by simp[zSb],by simp[part,isAgg,run_underlying s,I],by simp[part,isAgg,run_underlying s,J],?_⟩;rw[show v[g]'(by simp only[qX]at q;omega) = .bool x from T,show z[g]'(by simp only[qX]at r;omega) = .bool x' from U];exact run_equalIn_bool' w d f.type x x' s
       |i _ _=>simp[zoc]at K
       |_=>simp[zoc]at K
      |_=>simp[zoc]at O
     obtain⟨L,Q,a3,a4,a1⟩:=H;have C:∃V,zu1 l m=some V/\e=(L&&V):=by cases l with|nil=>cases E;(cases m with|nil=>simp only[zu1,Q,qC]at A;exact⟨true,rfl,by rw[<- A];simp⟩|cons c2 m=>obtain⟨_,_,_,_,h⟩:=zhz F;cases h)|cons a2 l=>(cases m with|nil=>cases F;obtain⟨_,_,_,_,h⟩:=zhz E;cases h|cons c2 m=>simp only[zu1,Q]at A;split at A;{rename_i x y M N;cases M;cases A;exact⟨y,by simpa [zu1] using N,rfl⟩};{cases A})
     obtain⟨V,a0,rfl⟩:=C;have ih:=zFT w d v z W (g+1) p l m V G E F a0 (by simp only[qX]at q;omega) (by simp only[qX]at r;omega)
      (λj Z u M N=>hx (j+1) Z u (by simpa using M) (by rw[<- N];congr 1;omega)) (λj Z u M N=>hy (j+1) Z u (by simpa using M) (by rw[<- N];congr 1;omega))
     simp only[Op.eqFields,ne_eq,hn,not_false_eq_true,if_true,Sem.run_bind,a3,a4,Result.andThen_ok,a1,Sem.run_ite,ih];cases L<;>simp
def z3e {C:Cfg}(W:C.P=P)(hs:∀T,C.sty T=below T (zv7 P T))(X:∀T,C.cty T=below T (zcE P 4 T))(Q:∀T f,C.fof T f=ztK P T f)(B:(List.range zgR).all (zoe P)=true)(J:∀T,C.eqt T=true->T<zgR->zRI P T=true):CfgOk C:=by subst W;have v:∀T,T<zgR->zoe C.P T=true:=λT r=>qO.1 B T (kR.2 r);have k:∀T g c,C.cty T=some (g,c)->T<zgR/\zcE C.P 4 T=some (g,c):=λT g c h=>zJl (by rw[<- X];exact h);refine⟨λT g c h=>?_,λT t h=>?_,λT f N n h=>?_,λT c h=>?_,λT c Y h l m e G H w x y op Z hm hq E F=>?_⟩;{obtain⟨r,h⟩:=k T g c h;obtain⟨q,d⟩:=zRG h;have:=v T r;unfold zoe at this;rw[h] at this;simp only[qE] at this;exact⟨q,zCF this.1.1,d⟩};{rw [hs]at h;obtain⟨r,h⟩:=zJl h;unfold zv7 at h;split at h;{rename_i e p;have:=v T r;unfold zoe at this;rw[p] at this;simp only[h,qE] at this;obtain⟨_,⟨q,d⟩,_⟩:=this;obtain⟨i,z,O,S,U,V⟩:=zCF q;rw[O]at d;exact⟨e,p,i,z,O,by rw[S,zet],U,V,by simpa using d⟩};{cases h}};{rw [Q]at h;unfold ztK at h;split at h;{rename_i A p;split at h;{rename_i x M;split at h;{rename_i i K;split at h;{cases h};{rename_i L;cases h;exact⟨A,x,i,p,M,rfl,K,rfl,L⟩}};{cases h}};{cases h}};{cases h}};{obtain⟨r,h⟩:=k T true c h;have:=v T r;unfold zoe at this;rw[h] at this;simp only[qE,kJ,vJ,kL,false_or] at this;obtain⟨⟨_,d⟩,_⟩:=this;split at d;{rename_i A p;obtain⟨s,R⟩:=uW.1 d;refine⟨A,s,p,R,λf N n b=>?_⟩;rw[Q]at b;unfold ztK at b;rw[p]at b;simp only at b;split at b;{rename_i x M;split at b;{rename_i i K;split at b;{cases b};{cases b;rw[mapM_at R (by simpa using M),K];rfl}};{cases b}};{cases b}};{cases d}};{obtain⟨r,h⟩:=k T true c h;have:=J T Y r;unfold zRI at this;rw[h] at this;simp only[qE,jI] at this;obtain⟨⟨q,d⟩,I⟩:=this;split at I;{rename_i A p;have D:C.P.fieldsOf T=A:=(by simp[Program.fieldsOf,p]);refine⟨run_eqGuard_agg w op T x y G H d,?_⟩;show (Op.equalIn (9999+1) T (.agg G)<|.agg H).run C.P w=_;rw[run_equalIn_struct w 9999 T G H (by rw[D];exact p) q,D];exact zFT w 9998 G H A.toList 0 c l m e I Z hm hq (by rw[E.1];omega) (by rw[F.1];omega) (λj a u q d=>E.2 j a u q (by simpa using d)) (λj a u q d=>F.2 j a u q (by simpa using d))};{cases I}}
end
inductive CVOk:CV->Prop
 |i (k:IntKind) (n:Int) (h:k.min<=n/\n<=k.max):CVOk (.i k n)
 |b (x:Bool):CVOk (.b x)
 |s (t:Ty) (l:List t.den) (hl:l.length<=big) (h:∀(i:Nat) (x:t.den),l[i]?=some x->∀(j:Nat) (c:CV),(t.cells x)[j]?=some c->CVOk c):CVOk (.s t l)
section
variable {P:Program}
def zxD (P:Program)(b:Nat):List Field->Nat->Bool
 |[],a=>a==b
 |f::fs,a=>f.offset==a&&Nat.blt f.type zgR&&zxD P b fs (a+P.cellsOf f.type)
def zyO (P:Program)(T:TypeId):Bool :=
 match P.underlying T with
 |some (.struct a)=>match zcE P 4 T with
  |some _=>zxD P (P.cellsOf T) a.toList 0
  |none=>true
 |some (.slice e)=>match zn zRW e with
  |some _=>Nat.blt e zgR&&Nat.ble 1 (P.bytesOf e)
  |none=>true
 |_=>true
def zF5 {e i:Type}{f g:e->Option i}(c:∀x y,f x=some y->g x=some y):∀{l:List e} {d:List i},zb6 f l=some d->zb6 g l=some d
 |[],_,h=>h
 |a::l,d,h=>by obtain⟨b,j,k,m,rfl⟩:=zhz h;simp only[zb6,c a b k,zF5 c m]
def zyq:∀{n:Nat} {T:TypeId} {x:Bool×List CTy},zcE P n T=some x->zcE P (n+1) T=some x
 | 0,_,_,h=>by cases h
 |n+1,T,x,h=>by rw[zcE]at h;rw[zcE];split at h;{exact h};{exact h};{exact h};{rename_i d e;split at h;{rename_i l b;rw[zF5 (f:=_) (g:=_) ?_ b];{exact h};{intro f y a;split at a;{rename_i z c;cases a;rw[zyq c]};{cases a}}};{cases h}};{cases h}
def zVA {T:TypeId}{a:List CTy}(h:zCE P T a=true):P.cellsOf T=a.length:=by obtain⟨i,z,b,c,_⟩:=zCF h;simp[Program.cellsOf,b,c]
def z5e {k:IntKind}{n:Int}(h:(Lit.int k n).wf=true):k.min<=n/\n<=k.max:=by simpa [Lit.wf] using h
def all_append {l m:List Nat}(h:(l++m).all (·<=reachBytes)=true):l.all (·<=reachBytes)=true/\m.all (·<=reachBytes)=true:=by simpa [List.all_append] using h
def zBb {H:Type}{e:TypeId}:∀{l:List (DataW H)},(DataW.weightsAll P e l).all (·<=reachBytes)=true->∀{i:Nat} {d:DataW H},l[i]?=some d->(d.weights P e).all (·<=reachBytes)=true
 |[],_,i,d,h=>by simp at h
 |x::l,a,i,d,h=>by simp only[DataW.weightsAll]at a;obtain⟨b,c⟩:=all_append a;cases i with|zero=>simp at h;subst h;exact b|succ i=>exact zBb c (by simpa using h)
def Opened (W:World)(d:List Value)(a:List CTy):Prop :=
 ∃cvs:LC,cvs.map CV.ty=a/\d.length=cvs.length/\∀(j:Nat) (c:CV) (u:Value),cvs[j]?=some c->d[j]?=some u->Rep false W u c (λb=>b<W.heap.size)/\CVOk c
def Opened.append {W:World}{f g:List Value}{h i:List CTy}(r:Opened W f h)(s:Opened W g i):Opened W (f++g) (h++i):=by obtain⟨e,k,d,p⟩:=r;obtain⟨n,l,m,q⟩:=s;refine⟨e++n,by simp[k,l],by simp[d,m],λj c u a b=>?_⟩;by_cases t:j<e.length;{rw [qU t]at a;rw[qU (by omega)]at b;exact p j c u a b};{rw [qP (by omega)]at a;rw[qP (by omega)]at b;exact q _ c u a (by rw[<- d];exact b)}
def zJq {b:Type}:∀(n:Nat) (p:Nat->b->Prop),(∀i,i<n->∃x,p i x)->∃l:List b,l.length=n/\∀i x,l[i]?=some x->p i x
 | 0,p,_=>⟨[],rfl,λi x h=>by simp at h⟩
 |n+1,p,h=>by obtain⟨x,e⟩:=h 0 (by omega);obtain⟨l,c,d⟩:=zJq n (λi=>p (i+1)) (λi f=>h (i+1) (by omega));refine⟨x::l,by simp[c],λi y a=>?_⟩;cases i with|zero=>simp at a;subst a;exact e|succ i=>exact d i y (by simpa using a)
def cells?_get {W:World}{a:Addr}{n:Nat}{b:List Value}(h:W.cells? 0 a n=some b):b.length=n/\∀i,i<n->W.cell? (a.add i)=b[i]?:=by unfold World.cells? at h;rw[if_pos<|kA _]at h;refine⟨by simpa using mapM_some_length h,λi c=>mapM_some_get h i i (by simp[c])⟩
def addr_add (a:Addr)(h:a.spot=none)(n m:Nat):(a.add n).add m=⟨a.block,a.off+n+m,none⟩:=by obtain⟨b,o,s⟩:=a;simp only at h;subst h;rw[add_lit,add_lit]
def zY6 (b6:∀T,T<zgR->zoe P T=true/\zyO P T=true){H:Type}{a3:TypeId×Value->H}{W:World} :
 ∀(F:Nat) (T:TypeId) (Z:List Value) (x:DataW H×List MemPlace),T<zgR->∀(b4:Bool) (b3:List CTy),zcE P 4 T=some (b4,b3)->
  DataW.trod a3 P W 0 (λ_=>true) true F T Z=some x->(x.1.weights P T).all (·<=reachBytes)=true->Opened W Z b3:=by
 intro F
 induction F using Nat.strongRecOn with
 |_ F ih=>
  intro T Z x hT b4 b3 d hx hw;obtain⟨U,C⟩:=b6 T hT;have c1:=d;rw[zcE]at d;split at d;{rename_i k I;cases d;obtain⟨n,rfl,rfl,d9⟩:=DataW.trod_int I hx;refine⟨[.i k n],rfl,rfl,λj c u r q=>?_⟩;cases j with|zero=>simp at r q;subst r q;exact⟨.i k n _,.i k n<|z5e d9⟩|succ j=>simp at r};{rename_i I;cases d;obtain⟨b,rfl,rfl⟩:=DataW.trod_bool I hx;refine⟨[.b b],rfl,rfl,λj c u r q=>?_⟩;cases j with|zero=>simp at r q;subst r q;exact⟨.b b _,.b b⟩|succ j=>simp at r};{rename_i e I;split at d;{rename_i t b7;cases d;have a4:∀(v:Value) (l:List t.den),Rep false W v (.s t l) (λb=>b<W.heap.size)->CVOk (.s t l)->Opened W [v] [.s t]:=(by intro v l D S;refine⟨[.s t l],rfl,rfl,λj c u r q=>?_⟩;cases j with|zero=>simp at r q;subst r q;exact⟨D,S⟩|succ j=>simp at r);have K:CVOk (.s t []):=.s t [] (kA _) (λi x h=>by simp at h);rcases DataW.trod_slice I hx with⟨rfl,rfl⟩|⟨a,len,p,A,R,n,rfl,rfl,rfl,_,e8,e6,e7,a0,d5,_⟩;{exact a4 _ [] (.nil t _) K};{obtain⟨e9,Q⟩:=d5 rfl;by_cases b5:p=0;{subst b5;have d0:len=0:=(by omega);subst d0;exact a4 _ [] (.void t a _ rfl) K};{unfold zoe at U;rw[I]at U;simp only[b7,qE]at U;obtain⟨_,⟨a7,_⟩,V⟩:=U;unfold zyO at C;rw[I]at C;simp only[b7,qE,vL,Nat.ble_eq]at C;obtain⟨he,c6⟩:=C;have c7:P.cellsOf e=t.wi:=(by rw[zVA a7,zet]);have b2:0<t.wi:=(by cases t<;>simp [Ty.wi]);rw[c7]at a0 Q;have N:∀i,i<p->∃w,W.cells? 0 (a.add<|i*t.wi) t.wi=some w/\(i<len->∃y,DataW.trod a3 P W 0 (λ_=>true) true n e w=some y/\A[i]?=some y):=(by intro i X;by_cases b9:i<len;{have D:=a0 i b9;rw[qB (by omega)]at D;obtain⟨w,S,h3⟩:=uZ.1 D;exact⟨w,S,λ_=>⟨_,h3,qB (by omega)⟩⟩};{have D:=Q (i-len) (by omega);rw[qB (by omega)]at D;obtain⟨w,S,h3⟩:=uZ.1 D;have e1:len+(i-len)=i:=(by omega);rw[e1]at S;exact⟨w,S,λh=>absurd h b9⟩});have M:∀i j,i<p->j<t.wi->∃v,W.cell? ((a.add<|i*t.wi).add j)=some v:=(by intro i j X hj;obtain⟨w,D,_⟩:=N i X;obtain⟨S,h3⟩:=cells?_get D;exact⟨_,(h3 j hj).trans (qB (by omega))⟩);obtain⟨v0,G⟩:=M 0 0 (by omega) b2;have a5:(a.add<|0*t.wi).add 0=a:=(by simp[Addr.add]);rw[a5]at G;obtain⟨m,et,fz,hb,E⟩:∃m et fz,W.heap[a.block]?=some (.cells m et fz)/\a.spot=none:=(by unfold World.cell? at G;split at G;{rename_i c et fz hb;split at G;{cases G};{rename_i hs;exact⟨c,et,fz,hb,by simpa using hs⟩}};{cases G});have L:∀i j,W.cell? ((a.add<|i*t.wi).add j)=m[a.off+i*t.wi+j]?:=(by intro i j;rw[addr_add a E,E0 hb]);have a9:a.off+p*t.wi<=m.size:=(by obtain⟨v,hv⟩:=M (p-1) (t.wi-1) (by omega) (by omega);rw[L]at hv;have:=(qL.1 hv).1;have D:(p-1)*t.wi+t.wi=p*t.wi:=(by rw[<- jD];congr 1;omega);omega);have c2:((DataW.slice (A.map (·.1))<|R.map (·.1)).weights P T).all (·<=reachBytes)=true:=hw;simp only[DataW.weights,I,k9,qE,jA,uR]at c2;obtain⟨c4,b1⟩:=c2;obtain⟨b1,_⟩:=all_append b1;have O:len<=big:=(by have D:(A.length+R.length)*1<=(A.length+R.length)*P.bytesOf e:=Nat.mul_le_mul_left _ c6;have:reachBytes<=big:=(by decide);omega);split at V;{rename_i J a2 d6;simp only[jA]at V;subst V;have c9:∀i,i<len->∃y:t.den,∀(j:Nat) (c:CV) (u:Value),(t.cells y)[j]?=some c->m[a.off+i*t.wi+j]?=some u->Rep false W u c (λb=>b<W.heap.size)/\CVOk c:=(by intro i X;obtain⟨w,D,S⟩:=N i (by omega);obtain⟨y,h3,h4⟩:=S X;obtain⟨cvs,g1,g2,g3⟩:=ih n (by omega) e w y he J t.shape d6 h3 (zBb b1 (by rw[qQ,h4];rfl));obtain⟨z,Y⟩:=zK6 g1;refine⟨z,λj c u r q=>g3 j c u ?_ ?_⟩;{rw [<- zhi Y];exact r};{obtain⟨k1,k2⟩:=cells?_get D;have hj:j<t.wi:=(by have:=(qA.1 r).1;rwa [zb7] at this);rw[<- k2 j hj,L];exact q});obtain⟨l,d1,c0⟩:=zJq len _ c9;have b0:∀i j,i<l.length->j<t.wi->m[a.off+i*t.wi+j]?=some ((m[a.off+i*t.wi+j]?).getD undef):=(by intro i j X hj;have D:(i+1)*t.wi<=p*t.wi:=qK _ (by omega);rw[jD]at D;have:a.off+i*t.wi+j<m.size:=(by omega);simp[this]);have a1:Rep false W (.slice (some ⟨a.block,a.off,none⟩) l.length p) (.s t l) (λb=>b<W.heap.size):=(by refine .sl t l a.block a.off p m et fz (λi j=>(m[a.off+i*t.wi+j]?).getD undef) (λ_ _ b=>b<W.heap.size) _ hb (λh=>by cases h) (by omega) (by omega) a9 ?_ (λi j x _ _ hx=>⟨hx,λh=>by cases h⟩) (λh=>by cases h) b0 ?_;{exact(qL.1 hb).1};{intro i z Y j c r;have X:i<l.length:=(qA.1 Y).1;have hj:j<t.wi:=(by have:=(qA.1 r).1;rwa [zb7] at this);exact(c0 i z Y j c _ r<|b0 i j X hj).1});have ha:a=⟨a.block,a.off,none⟩:=(by obtain⟨b,o,s⟩:=a;simp only at E;subst E;rfl);rw[d1,<- ha]at a1;refine a4 _ l a1 (.s t l (by omega) λi z Y j c r=>?_);have X:i<l.length:=(qA.1 Y).1;have hj:j<t.wi:=(by have:=(qA.1 r).1;rwa [zb7] at this);exact(c0 i z Y j c _ r<|b0 i j X hj).2};{cases V}}}};{cases d}}
  .rename_i fs I;split at d
   .rename_i l hl;cases d;obtain⟨xs,n,rfl,rfl,c8,e2,b8⟩:=DataW.trod_struct I hx;unfold zyO at C;rw[I,c1]at C;simp only at C;have e0:(DataW.weightsEach P (fs.toList.map (·.type))<|xs.map (·.1)).all (·<=reachBytes)=true:=by have:((DataW.agg<|xs.map (·.1)).weights P T).all (·<=reachBytes)=true:=hw;simpa only [DataW.weights,I] using this
    have e4:∀(gs:List Field) (ys:List (DataW H×List MemPlace)) (ls:List (List CTy)) (B:Nat),zxD P (P.cellsOf T) gs B=true->gs.length=ys.length->
     (∀(i:Nat) (f:Field),gs[i]?=some f->DataW.trod a3 P W 0 (λ_=>true) true n f.type ((Z.drop f.offset).take (P.cellsOf f.type))=ys[i]?)->
     zb6 (λ(f:Field)=>match zcE P 3 f.type with|some x=>some x.2|none=>none) gs=some ls->(DataW.weightsEach P (gs.map (·.type))<|ys.map (·.1)).all (·<=reachBytes)=true->
     B<=P.cellsOf T/\Opened W (Z.drop B) ls.flatten:=by
     intro gs
     induction gs with
     |nil=>intro ys ls B ho _ _ a8 _;cases a8;simp only[zxD,qJ]at ho;subst ho;refine⟨qW _,[],rfl,by simp[c8],λj c u h=>by simp at h⟩
     |cons f gs e3=>intro ys ls B ho O hf a8 c3;obtain⟨b,e5,a6,c5,rfl⟩:=zhz a8;cases ys with|nil=>simp at O|cons y ys=>simp only[zxD,qE,qJ,vL]at ho;obtain⟨⟨d2,d3⟩,d4⟩:=ho;split at a6;{rename_i z Y;cases a6;obtain⟨J,a2⟩:=z;have hy:=hf 0 f rfl;simp only[qI]at hy;simp only[jC,DataW.weightsEach]at c3;obtain⟨d7,d8⟩:=all_append c3;have h4:=zyq Y;obtain⟨g1,g2⟩:=e3 ys e5 (B+P.cellsOf f.type) d4 (by simpa using O) (λi g hg=>by simpa using hf (i+1) g (by simpa using hg)) c5 d8;have o1:=ih n (by omega) f.type _ y d3 J a2 h4 hy d7;rw[d2] at o1;refine⟨by omega,?_⟩;have e1:Z.drop B=(Z.drop B).take (P.cellsOf f.type)++Z.drop (B+P.cellsOf f.type):=(by rw[<- List.drop_drop,List.take_append_drop]);rw[e1];exact Opened.append o1 g2};{cases a6}
    have:=(e4 fs.toList xs l 0 C (by simp[e2]) (λi f hf=>b8 i f (by simpa using hf)) hl e0).2;simpa using this
   {cases d}
  {cases d}
end
def zWX:(List.range zgR).all (zoe Tryz.prog)=true:=by kernel_rfl
def z9n:zDU.all (λT=>!Nat.blt T zgR||zRI Tryz.prog T)=true:=by kernel_rfl
def z3g:Tryz.prog.funcs.toList.all (λa=>!(a.name == "runtime.NumGoroutine"))=true:=by kernel_rfl
def z7x (T:TypeId)(a:zDU.contains T=true)(d:T<zgR):zRI Tryz.prog T=true:=by have c:T∈zDU:=(by revert a;generalize zDU=l;intro a;simpa using a);have e:Nat.blt T zgR=true:=(by rw[vL];exact d);have b:=qO.1 z9n T c;rw[e,vJ,Bool.false_or]at b;exact b
def z9l (a:FuncId->Option (LW))(b:FuncId->Option (CV->Int->Option (Bool×CV×Int)))(c:FuncId->Option (List Bool×(LC->LA->Option (Bool×LC×LA))))(d:FuncId->Option (List Bool×Option (Nat×Nat×List (List Nat))×(LW))):CfgOk (zmv a b c d):=by have e:(zmv a b c d).P=Tryz.prog:=(by simp only[zmv]);have g:∀T,(zmv a b c d).sty T=below T (zv7 Tryz.prog T):=λ_=>(by simp only[zmv]);have i:∀T,(zmv a b c d).cty T=below T (zcE Tryz.prog 4 T):=λ_=>(by simp only[zmv]);have j:∀T f,(zmv a b c d).fof T f=ztK Tryz.prog T f:=λ_ _=>(by simp only[zmv]);have k:∀T,(zmv a b c d).eqt T=zDU.contains T:=λ_=>(by simp only[zmv]);refine z3e e g i j zWX ?_;intro T h l;rw[k]at h;exact z7x T h l
def z8z (a:FuncId->Option (LW))(b:FuncId->Option (CV->Int->Option (Bool×CV×Int)))(c:FuncId->Option (List Bool×(LC->LA->Option (Bool×LC×LA))))(d:FuncId->Option (List Bool×Option (Nat×Nat×List (List Nat))×(LW))):NameOk (zmv a b c d):=by
 refine⟨λf e g=>?_⟩;have:=qO.1 z3g e (by
  have:Tryz.prog.funcs[f]?=some e:=g;rw[<- kY] at this;exact qH this)
 simpa using this
def zg6 {b:FuncId->Option (LW)}{c:FuncId->Option (CV->Int->Option (Bool×CV×Int))}{d:FuncId->Option (List Bool×(LC->LA->Option (Bool×LC×LA)))}{e:FuncId->Option (List Bool×Option (Nat×Nat×List (List Nat))×(LW))}(h:∀f a,b f=some a->Holds Tryz.prog f a)(p:∀f a,c f=some a->zJe Tryz.prog f a)(q:∀f own a,d f=some (own,a)->zbP Tryz.prog f own a)(m:∀f own g a,e f=some (own,g,a)->zeh Tryz.prog f own g a):EngOk (zmv b c d e):=by have i:=z9l b c d e;have k:CtrOk (zmv b c d e):=⟨h,λf g a n=>m f [] g a n⟩;have j:=z3Z i ⟨p⟩ ⟨q⟩ ⟨m⟩;have l:=z8z b c d e;exact⟨i,k,j,l,z7V i k j l⟩
section
open Go Go.ChangeShapes Go.WideShapes Go.ChangeAt
def AV.sh:AV->Bool×List CTy
 |.one c=>(false,[c.ty])
 |.agg l=>(true,l.map CV.ty)
section
variable {P:Program}
def zOy {T:TypeId}{a:Bool}{b:List CTy}(h:zcE P 4 T=some (a,b)) :
 (a=true/\∃c,P.underlying T=some (.struct c))\/(a=false/\b.length=1/\((∃k,P.underlying T=some (.int k))\/P.underlying T=some .bool\/∃e,P.underlying T=some (.slice e))):=by
 rw[zcE]at h;split at h
 .rename_i k hu;cases h;exact .inr ⟨rfl,rfl,.inl ⟨k,hu⟩⟩
 .rename_i hu;cases h;exact .inr ⟨rfl,rfl,.inr<|.inl hu⟩
 .rename_i e hu;split at h
  .cases h;exact .inr ⟨rfl,rfl,.inr<|.inr ⟨e,hu⟩⟩
  .cases h
 .rename_i c hu;split at h
  .cases h;exact .inl ⟨rfl,c,hu⟩
  .cases h
 .cases h
def z1O {W:World}{T:TypeId}{v:Value}{a:Nat}(b:(∃k,P.underlying T=some (.int k))\/P.underlying T=some .bool\/∃e,P.underlying T=some (.slice e))(h:Value.okWide P W .any a T v):v.cells = #[v]:=by
 cases v with
 |agg c=>exfalso;rcases b with⟨k,b⟩|b|⟨e,b⟩<;>simp [Value.okWide,b,Cell.okWide,Cell.ok]at h
 |_=>rfl
def zPP (k:∀T,T<zgR->zoe P T=true/\zyO P T=true){H:Type}{K:TypeId×Value->H}{W:World}{u:Nat} :
 ∀(r:List TypeId) (z:List Value) (B:List (DataW H)) (p:List MemPlace),DataW.TrodAll K P W 0 (fun _=>true) true r z B p->
  (∀(j:Nat) (t:TypeId) (v:Value),r[j]?=some t->z[j]?=some v->Value.okWide P W .any u t v)->(∀t∈r,t<zgR/\(zcE P 4 t).isSome=true)->
  (DataW.weightsEach P r B).all (·<=reachBytes)=true->
  ∃(f:LA) (D:List Value),f.map (fun a=>some a.sh)=r.map (zcE P 4)/\zdo false W (zy f) D (fun _ b=>b<W.heap.size)/\zbS f D=z/\∀c∈zy f,CVOk c
 |[],z,B,p,h,_,_,_=>by obtain⟨rfl,rfl,rfl⟩:=trodAll_nil h;exact⟨[],[],rfl,⟨rfl,fun i c x h=>by simp[zy]at h⟩,rfl,fun c h=>by simp[zy]at h⟩
 |T::r,z,B,p,h,hv,ht,hw=>by
  obtain⟨v,U,d,I,p1,q,rfl,rfl,rfl,L,M⟩:=trodAll_cons h;simp only[DataW.weightsEach]at hw;obtain⟨Q,R⟩:=all_append hw;obtain⟨f,D,X,g2,Y,g4⟩:=zPP k r U I q M (fun j t v L M=>hv (j+1) t v (by simpa using L) (by simpa using M)) (fun t h=>ht t (by simp[h])) R;obtain⟨hT,m⟩:=ht T (by simp);obtain⟨⟨G,S⟩,g⟩:=uW.1 m;obtain⟨w,hf⟩:=L;obtain⟨cvs,J,C,V⟩:=zY6 k w T _ _ hT G S g hf Q;have n:=hv 0 T v rfl rfl;have s:∀a:AV,a.cvs=cvs->zdo false W (zy (a::f)) (v.cells.toList++D) (fun _ b=>b<W.heap.size)/\∀c∈zy (a::f),CVOk c:=(by intro a ha;have e:zy (a::f)=cvs++zy f:=(by simp[zy,ha]);rw[e];refine⟨zdo.append ⟨C,fun i c x l hx=>(V i c x l hx).1⟩ g2,fun c l=>?_⟩;rcases jH.1 l with l|l;{obtain⟨i,Z⟩:=qV.1 l;have N:i<v.cells.toList.length:=(by rw[C];exact(qA.1 Z).1);exact(V i c _ Z (qB N)).2};{exact g4 c l});rcases zOy g with⟨rfl,fs,O⟩|⟨rfl,y,O⟩;{obtain⟨A,rfl,_⟩:∃A,v = .agg A/\True:=(by simp only[Value.okWide,O]at n;obtain⟨A,h,_⟩:=n;exact⟨A,h,trivial⟩);obtain⟨E,F⟩:=s (.agg cvs) rfl;refine⟨.agg cvs::f,_,?_,E,?_,F⟩;{rw [jC,jC,X,g];simp only[AV.sh,J]};{simp only [Value.cells] at C;simp only[zbS,Value.cells,<- C,kN,k6,Y,jP]}}
  .have hcells:=z1O O n;rw[<- J]at y;obtain ⟨c,rfl⟩:∃c,cvs=[c]:=by
    match cvs,y with
    |[c],_=>exact⟨c,rfl⟩
   obtain⟨E,F⟩:=s (.one c) rfl;refine⟨.one c::f,_,?_,E,?_,F⟩;{rw [jC,jC,X,g,<- J];rfl};{rw [hcells];simp only[zbS];simp[Y]}
def zBa (r:laidOutB P=true){H:Type}{b:TypeId×Value->H}{W m:World}(n:Go.RowKit.Below W.heap.size W m){u:Nat->Bool}:∀(g:List TypeId) (j:List Value) (i:List (DataW H)) (f:List MemPlace),(∀t∈g,P.readableRec t=true/\t<P.types.size)->
 DataW.TrodAll b P W 0 (λ_=>true) true g j i f->(∀x∈f,x.block<W.heap.size/\u x.block=true)->DataW.TrodAll b P m 0 u true g j i f
 |[],j,i,f,_,h,_=>by obtain⟨rfl,rfl,rfl⟩:=trodAll_nil h;exact rfl
 |T::g,j,i,f,s,h,a=>by
  obtain⟨v,l,d,k,p,q,rfl,rfl,rfl,w,y⟩:=trodAll_cons h;obtain⟨z,c⟩:=s T (by simp)
  exact⟨p,q,WideElems.Trod_stays r z c w (λx e=>n.same (a x<|j6 _ e).1) λx e=>(a x<|j6 _ e).2,
   zBa r n g l k q (λt h=>s t (by simp[h])) y λx e=>a x (kK _ e),rfl⟩
def zQA {W b:World}(h:Grown W b)(a:MemPlace->Prop):W.keptBut b a:=by
 refine⟨h.os,h.output,λi c=>?_⟩;rw[h.keep i c];cases d:W.heap[i]? with
 |none=>rfl
 |some o=>cases o<;>first|rfl|exact⟨rfl,rfl,rfl,λ_ _=>rfl⟩|exact .inr ⟨rfl,rfl⟩
def z1Z (P:Program)(a:List TypeId):Bool:=a.all λT=>Nat.blt T zgR&&(zcE P 4 T).isSome&&P.readableRec T&&Nat.blt T P.types.size
def z5h (P:Program)(d:List TypeId)(b:LA):Prop:=b.map (λa=>some a.sh)=d.map (zcE P 4)/\∀c∈zy b,CVOk c
def zRY (P:Program)(f:FuncId)(d:List TypeId):Prop :=
 ∃c,Holds P f c/\∀a,z5h P d a->c a=some (true,[.one<|.b true])
def zKC (L:∀T,T<zgR->zoe P T=true/\zyO P T=true)(a0:laidOutB P=true){s:ChangeSpec}{f:FuncId}{u:Func}{B:TypeId}(k:s.vars=[])(F:∀(H:Type) (i:List (DataW H)),i.length=u.params.toList.length->s.fn H i={results:=[.lit<|.bool true],args:=i})(a:z1Z P u.params.toList=true)(O:u.resultTypes = #[B])(hB:P.underlying B=some .bool)(hl:zRY P f u.params.toList){H:Type}{enc:TypeId×Value->H}{apart D l:Bool}(W:World)(A:Nat)(g:LV)(i gs:List (DataW H))(w:List MemPlace)(U:∀(j:Nat) t v,u.params[j]?=some t->g[j]?=some v->Value.okWide P W .any A t v)(hW:DataW.Whole enc P u.params.toList s.vars apart W g.toList i gs w)(R:(DataW.weightsEach P (u.params.toList++s.plain.varTypes P)<|i++gs).all (·<=reachBytes)=true) :
 Calls P f g W λe W'=>∃v,e = .returned v/\s.post enc P u apart D l false W g v W':=by
 have J:=hW;obtain⟨p,q,I,hV,rfl,a4,a5⟩:=hW;rw[k]at hV;obtain⟨rfl,rfl⟩:=trodVars_none hV;have a2:s.plain.varTypes P=[]:=by unfold DataSpec.varTypes;show s.vars.filterMap _=[];rw[k];rfl
 rw[a2,jE,jE]at R;unfold z1Z at a;simp only[qO,qE,vL]at a;have G:∀(j:Nat) (t:TypeId) (v:Value),u.params.toList[j]?=some t->g.toList[j]?=some v->Value.okWide P W .any A t v:=by intro j t v h1 X;rw[kY]at h1 X;exact U j t v h1 X
 obtain⟨C,xs,g1,g2,g3,g4⟩:=zPP L u.params.toList g.toList i p I G (λt S=>⟨(a t S).1.1.1,(a t S).1.1.2⟩) R;obtain⟨a6,hH,Q⟩:=hl;have m:=hH.2 W C xs _ g2 (Q C ⟨g1,g4⟩);have E:(zbS C xs).toArray=g:=by rw[g3,jP]
 rw[E]at m;have n:∀(V:List TypeId) (vs:List Value) (i:List (DataW H)) (ps:List MemPlace),DataW.TrodAll enc P W 0 (λ_=>true) true V vs i ps->i.length=V.length:=by intro V;induction V with|nil=>intro vs i ps h;obtain⟨_,rfl,_⟩:=trodAll_nil h;rfl|cons t V ih=>intro vs i ps h;obtain⟨v,a3,d,Z,p,q,rfl,rfl,rfl,_,X⟩:=trodAll_cons h;simp[ih a3 Z q X]
 refine m.mono ?_;intro e W1 he;cases e with
 |panicked c=>exact he.elim
 |outgrown=>exact he.elim
 |returned v=>
  obtain⟨hg,ys,K,N,hv,_⟩:=he;have a1:v = .bool true:=by
   match ys,N with
   |[],h=>exact absurd h.1 (by simp[zy,AV.cvs])
   |[y],h=>have:=(h.2 0 (.b true) y rfl rfl).bool_inv;rw[hv,this];rfl
   |y::z::r,h=>exact absurd h.1 (by simp[zy,AV.cvs])
  subst a1;refine⟨_,rfl,i,[],p++[],[],p,[],J,?_,?_,?_,zQA hg _,λh=>by cases h⟩;{rw [jE,F H i<|n _ _ _ _ I,O];exact⟨[],[],⟨1,by simp[DataW.trod,hB,Value.cells]⟩,rfl,rfl⟩};{rw [jE,F H i<|n _ _ _ _ I];have hb:Go.RowKit.Below W.heap.size W W1:=⟨hg.os,hg.tape,hg.output,hg.size,hg.keep⟩;have M:∀x∈p,x.block<W.heap.size:=λx Y=>(by simpa using J.lt x (j6 _ Y));exact zBa a0 hb _ _ _ _ (λt S=>⟨(a t S).1.2,(a t S).2⟩) I (λx Y=>⟨M x Y,by simpa using M x Y⟩)};{rw [k,jE,F H i<|n _ _ _ _ I];rfl}
end
def z9o:(List.range zgR).all (zyO Tryz.prog)=true:=by kernel_rfl
def z4d:laidOutB Tryz.prog=true:=by kernel_rfl
def own:ownKnob Tryz.prog.godebug=none:=by kernel_rfl
def z3f (T:TypeId)(a:T<zgR):zoe Tryz.prog T=true/\zyO Tryz.prog T=true :=
 ⟨qO.1 zWX T<|kR.2 a,qO.1 z9o T<|kR.2 a⟩
abbrev Good (b:List TypeId)(a:LA):Prop:=z5h Tryz.prog b a
abbrev zWN (f:FuncId)(a:List TypeId):Prop:=zRY Tryz.prog f a
def zVx {d:FuncId->Option (LW)}{l:FuncId->Option (CV->Int->Option (Bool×CV×Int))}{m:FuncId->Option (List Bool×(LC->LA->Option (Bool×LC×LA)))}{n:FuncId->Option (List Bool×Option (Nat×Nat×List (List Nat))×(LW))}(e:∀f a,d f=some a->Holds Tryz.prog f a)(g:∀f a,l f=some a->zJe Tryz.prog f a)(i:∀f own a,m f=some (own,a)->zbP Tryz.prog f own a)(j:∀f own k a,n f=some (own,k,a)->zeh Tryz.prog f own k a){f:FuncId}{r:List TypeId}(s:FnOk Tryz.prog f)(h:∀c,Good r c->∃q N D,evalFn (zmv d l m n) q N D f c=some [.one<|.b true]):zWN f r:=by refine⟨λc=>open Classical in if Good r c then some (true,[.one<|.b true]) else none,zAi (zg6 e g i j) s ?_,λc hg=>by simp[hg]⟩;intro c t _ p;split at p;{rename_i hg;cases p;exact h c hg};{cases p}
end
def St.blkEnd (e:St):List Bool->List At->List MV->Option (LC×List Nat)
 |[],[],[]=>some ([],[])
 |own::ms,a::r,h::hs=>
  match St.blkEnd e ms r hs with
  |none=>none
  |some (d,c) =>
   match a with
   |.i k n=>some (.i k n::d,c)
   |.b x=>some (.b x::d,c)
   |.sl q [] =>
    match e.root q with
    |some R=>
     match own with
     |true=>if R.own && !c.contains q then some (.s R.t R.l::d,q::c) else none
     |false=>
      match h with
      |.v (.at<|.sl f [])=>if q==f then some (.s R.t R.l::d,c) else none
      |_=>none
    |none=>none
   |_=>none
 |_,_,_=>none
def zeN:List Bool->LC->Nat->List (Nat×Root)
 |own::ms,.s t l::cs,id=>(id,⟨t,l,own,none⟩)::zeN ms cs (id+1)
 |_::ms,_::cs,id=>zeN ms cs (id+1)
 |_,_,_=>[]
def zW0 (own:List Bool)(c:LC)(b:LA):St :=
 {tm:=.v (.at<|.lp 0 0)::(zhg c 0).map λa=>.v (.at a),lo:=[(0,zhg c 0)],ro:=zeN own c 0++zcY zt7 b c.length,stk:=[],nid:=c.length+(b.flatMap AV.cvs).length+1,ep:=0}
def zok (C:Cfg)(tms:FuncId->Nat->Option Tmpl)(N D:Nat)(f:FuncId)(own:List Bool)(d:LC)(a:LA):Option Ans :=
 cond (zhh f && !(zpX (.agg d::a))) none
 (zvd C tms N (zrA C tms N D) f (.v (.at<|.lp 0 0)::(zcW a d.length).map .v) (zW0 own d a) λh b=>
  match b.tm with
  |.v (.at<|.lp l 0)::hs=>
   match zn b.lo l with
   |some cells=>
    match b.blkEnd own cells hs with
    |some (e,g) =>
     match zqK (b.thaw<|zhh f) h g with
     |some c=>some (.agg e::c)
     |none=>none
    |none=>none
   |none=>none
  |_=>none)
section
variable {C:Cfg} {w0 w w1:World} {S0:zV} {U:Nat->Prop} {st st1:St} {E E1:Env} {ts:Array Value} {sv:List (Array Value)}
structure BlkEnd (st:St) (own:List Bool) (cells:List At) (hs:List MV) (cs:List CV) (ks:List Nat):Prop where
 len:cs.length=cells.length
 hlen:hs.length=cells.length
 ownk:∀r∈ks,∃j,zbd own j/\cells[j]?=some (.sl r [])
 get:∀(j:Nat) (a:At),cells[j]?=some a->(∃k n,a = .i k n/\cs[j]?=some (.i k n))\/(∃x,a = .b x/\cs[j]?=some (.b x))\/
  ∃r R,a = .sl r []/\st.root r=some R/\cs[j]?=some (.s R.t R.l)/\((zbd own j/\R.own=true/\r∈ks)\/(¬ zbd own j/\hs[j]?=some (.v (.at (.sl r [])))))
 inj:∀(i j r:Nat),zbd own i->zbd own j->cells[i]?=some (.sl r [])->cells[j]?=some (.sl r [])->i=j
def zO1:∀(own:List Bool) (cells:List At) (A:List MV) (E:LC) (F:List Nat),st.blkEnd own cells A=some (E,F)->BlkEnd st own cells A E F
 |[],[],[],E,F,h=>by cases h;exact⟨rfl,rfl,fun r h=>by simp at h,fun j a h=>by simp at h,fun i j r h=>by simp[zbd]at h⟩
 |o::ms,a::r,O::A,E,F,h=>by
  simp only[St.blkEnd]at h;split at h;{cases h}
  .rename_i cs0 ks0 h0;have f:=zO1 ms r A cs0 ks0 h0;have p:∀(z:List Nat) (c:CV),(∀x∈ks0,x∈z)->∀(j:Nat) (b:At),r[j]?=some b->(∃k n,b = .i k n/\(c :: cs0)[j+1]?=some (.i k n))\/(∃x,b = .b x/\(c :: cs0)[j+1]?=some (.b x)) \/
    ∃q R,b = .sl q []/\st.root q=some R/\(c::cs0)[j+1]?=some (.s R.t R.l)/\((zbd (o::ms) (j+1)/\R.own=true/\q∈z)\/(¬ zbd (o::ms) (j+1)/\(O::A)[j+1]?=some (.v (.at (.sl q []))))):=by
    intro z c I j b g;rcases f.get j b g with h|h|⟨q,R,G,L,M,H⟩
    .exact .inl (by simpa using h)
    .exact .inr (.inl (by simpa using h))
    .refine .inr (.inr ⟨q,R,G,L,by simpa using M,?_⟩)
     rcases H with⟨d,e,Q⟩|⟨d,e⟩
     .exact .inl ⟨by simpa [zbd] using d,e,I q Q⟩
     .exact .inr ⟨by simpa [zbd] using d,by simpa using e⟩
   have flat:∀(c:CV),(∀q,a≠.sl q [])->((∃k n,a = .i k n/\c = .i k n)\/(∃x,a = .b x/\c = .b x))->BlkEnd st (o::ms) (a::r) (O::A) (c::cs0) ks0:=by
    intro c B S;refine⟨by simp[f.len],by simp[f.hlen],fun q K=>?_,fun j b g=>?_,fun i j q u y d e=>?_⟩;{obtain⟨j,d,e⟩:=f.ownk q K;exact⟨j+1,by simpa [zbd] using d,by simpa using e⟩}
    .cases j with
     |zero=>simp only[qI,qC]at g;subst g;rcases S with⟨k,n,d,e⟩|⟨x,d,e⟩;{exact .inl ⟨k,n,d,by simp[e]⟩};{exact .inr (.inl ⟨x,d,by simp[e]⟩)}
     |succ j=>exact p ks0 c (fun _ h=>h) j b (by simpa using g)
    {cases i with|zero=>simp only[qI,qC]at d;exact absurd d (B q)|succ i=>(cases j with|zero=>simp only[qI,qC]at e;exact absurd e (B q)|succ j=>have:=f.inj i j q (by simpa [zbd] using u) (by simpa [zbd] using y) (by simpa using d) (by simpa using e);omega)}
   split at h;{rename_i k n;cases h;exact flat _ (fun q h=>by cases h) (.inl ⟨k,n,rfl,rfl⟩)};{rename_i x;cases h;exact flat _ (fun q h=>by cases h) (.inr ⟨x,rfl,rfl⟩)};{rename_i q;split at h;{rename_i R N;split at h;{split at h;{rename_i m;simp only[qE,jI,jO,decide_eq_false_iff_not]at m;obtain⟨C,J⟩:=m;cases h;refine⟨by simp[f.len],by simp[f.hlen],fun x w=>?_,fun j b g=>?_,fun i j x u y d e=>?_⟩;{rcases qG.1 w with rfl|w;{exact⟨0,rfl,rfl⟩};{obtain⟨j,d,e⟩:=f.ownk x w;exact⟨j+1,by simpa [zbd] using d,by simpa using e⟩}};{cases j with|zero=>simp only[qI,qC]at g;subst g;exact .inr (.inr ⟨q,R,rfl,N,by simp,.inl ⟨rfl,C,jF⟩⟩)|succ j=>exact p _ _ (fun x w=>q0 _ w) j b (by simpa using g)};{have D:∀(i:Nat),zbd ms i->r[i]?=some (.sl q [])->False:=(by intro i u K;rcases f.get i _ K with⟨_,_,h,_⟩|⟨_,h,_⟩|⟨V,T,G,L,M,H⟩;{cases h};{cases h};{cases G;rcases H with⟨_,_,h⟩|⟨h,_⟩;{exact J h};{exact h u}});cases i with|zero=>(cases j with|zero=>rfl|succ j=>simp only[qI,qC,At.sl.injEq,and_true]at d;subst d;exact(D j (by simpa [zbd] using y) (by simpa using e)).elim)|succ i=>(cases j with|zero=>simp only[qI,qC,At.sl.injEq,and_true]at e;subst e;exact(D i (by simpa [zbd] using u) (by simpa using d)).elim|succ j=>have:=f.inj i j x (by simpa [zbd] using u) (by simpa [zbd] using y) (by simpa using d) (by simpa using e);omega)}};{cases h}};{split at h;{rename_i U;split at h;{rename_i P;simp only[qJ]at P;subst P;cases h;refine⟨by simp[f.len],by simp[f.hlen],fun x w=>?_,fun j b g=>?_,fun i j x u y d e=>?_⟩;{obtain⟨j,d,e⟩:=f.ownk x w;exact⟨j+1,by simpa [zbd] using d,by simpa using e⟩};{cases j with|zero=>simp only[qI,qC]at g;subst g;exact .inr (.inr ⟨q,R,rfl,N,by simp,.inr ⟨by simp[zbd],rfl⟩⟩)|succ j=>exact p _ _ (fun x w=>w) j b (by simpa using g)};{cases i with|zero=>simp[zbd]at u|succ i=>(cases j with|zero=>simp[zbd]at y|succ j=>have:=f.inj i j x (by simpa [zbd] using u) (by simpa [zbd] using y) (by simpa using d) (by simpa using e);omega)}};{cases h}};{cases h}}};{cases h}};{cases h}
 |[],_::_,_,_,_,h=>by simp[St.blkEnd]at h
 |[],[],_::_,_,_,h=>by simp[St.blkEnd]at h
 |_::_,[],_,_,_,h=>by simp[St.blkEnd]at h
 |_::_,_::_,[],_,_,h=>by simp[St.blkEnd]at h
def z2Y (a:Value)(b:LV):(#[a]++b)[0]?=some a:=by rw[jU (by simp)];rfl
def z2Z (a:Value)(b:LV)(i:Nat):(#[a]++b)[i+1]?=b[i]?:=by rw[kF (by simp)];simp
def zk6:∀(own:List Bool) (a:LC) (id n:Nat) (R:Root),zn (zeN own a id) n=some R->id<=n/\∃t l,a[n-id]?=some (.s t l)/\R.t=t/\HEq R.l l/\own[n-id]?=some R.own/\R=⟨t,l,R.own,none⟩
 |[],_,_,_,_,h=>by cases h
 |o::ms,[],_,_,_,h=>by cases h
 |o::ms,c::a,id,n,R,h=>by have d:zn (zeN ms a<|id+1) n=some R->id<=n/\∃t l,(c::a)[n-id]?=some (.s t l)/\R.t=t/\HEq R.l l/\(o::ms)[n-id]?=some R.own/\R=⟨t,l,R.own,none⟩:=λh=>(by obtain⟨r,t,l,g,j,m,p,q⟩:=zk6 ms a (id+1) n R h;have e:n-id=(n-(id+1))+1:=(by omega);exact⟨by omega,t,l,by rw[e,jQ];exact g,j,m,by rw[e,jQ];exact p,q⟩);cases c with|i k x=>exact d h|b x=>exact d h|s t l=>simp only[zeN,zn]at h;split at h;{rename_i f;simp only[qJ]at f;subst f;cases h;exact⟨qW _,t,l,by simp,rfl,HEq.rfl,by simp,rfl⟩};{exact d h}
def zhJ (hO:EngOk C){f:FuncId}{own:List Bool}{e8:LC->LA->Option (Bool×LC×LA)}(hf:FnOk C.P f)(h:∀(d:LC) (z:LA) (Z:LC) (rs:LA),own.length=d.length->(∃(w:World) (xs:Nat->Value) (K:Nat->zV),∀(j:Nat) (c:CV),(d++zy z)[j]?=some c->Rep false w (xs j) c (K j))->e8 d z=some (true,Z,rs)->Z.length=d.length/\∃tms N D,zok C tms N D f own d z=some (.agg Z::rs)):zbP C.P f own e8:=by
 refine⟨hf,λw blk B e d K z xs Ka Z rs hb e5 g7 a1 a7 f1 a4 c7 e0=>?_⟩;obtain⟨d4,tms,N,D,a3⟩:=h d z Z rs g7 ⟨w,λj=>if j<d.length then (B[j]?).getD undef else (xs[j-d.length]?).getD undef,λj=>if j<d.length then K j else Ka,λj c L=>by
  by_cases T:j<d.length
  .rw [qU T]at L;have M:=jG (show j<B.size by omega)
   simp only[if_pos T,M,j9];exact(a1 j c _ L M).ro
  .rw [qP (by omega)]at L
   have c9:=(qA.1 L).1;have M:=qB (show j-d.length<xs.length by rw[a4.1];exact c9)
   simp only[if_neg T,M,j9];exact a4.2 _ c _ L M⟩ e0
 unfold zok at a3;cases b9:zhh f && !(zpX (.agg d::z)) with
 |true=>rw[b9]at a3;cases a3
 |false=>
 rw[b9,cond_false]at a3;have hblt:blk<w.heap.size:=(qL.1 hb).1;generalize a9:zW0 own d z=st at a3;have g9:st.ro=zeN own d 0++zcY zt7 z d.length:=(by rw[<- a9];rfl);have d6:st.lo=[(0,zhg d 0)]:=(by rw[<- a9];rfl);have c3:st.stk=[]:=(by rw[<- a9];rfl);have hnid:st.nid=d.length+(zy z).length+1:=(by rw[<- a9];rfl);have b0:st.tm = .v (.at<|.lp 0 0)::(zhg d 0).map λa=>.v (.at a):=(by rw[<- a9];rfl);have O:∀r R,zn st.ro r=some R->R.ep=none/\((r<d.length/\own[r]?=some R.own/\d[r]?=some (.s R.t R.l))\/(d.length<=r/\r<d.length+(zy z).length/\R.own=false/\(zy z)[r-d.length]?=some (.s R.t R.l))):=(by intro r R I;rw[g9,zbz]at I;split at I;{rename_i Q hQ;cases I;obtain⟨_,t,l,q,_,_,h5,h6⟩:=zk6 own d 0 r R hQ;rw[h6]at h5 ⊢;simp only[vN]at q h5;exact⟨rfl,.inl ⟨(qA.1 q).1,h5,q⟩⟩};{obtain⟨g,t,l,q,rfl⟩:=zfq zt7 z d.length r R I;have:=(qA.1 q).1;exact⟨rfl,.inr ⟨g,by omega,rfl,q⟩⟩});have H:∀r R,st.root r=some R->(r<d.length/\own[r]?=some R.own/\d[r]?=some (.s R.t R.l))\/(d.length<=r/\R.own=false/\(zy z)[r-d.length]?=some (.s R.t R.l)):=(by intro r R I;rcases (O r R (zbm I).1).2 with h|⟨g,_,q,G⟩;{exact .inl h};{exact .inr ⟨g,q,G⟩});let E:Env:={ρ:=λn=>if n<d.length then (B[n]?).getD undef else (xs[n-d.length]?).getD undef,φ:=λn=>if n<d.length then K n else Ka,β:=λ_=>blk,κ:=w}
 have a0:∀n,n<d.length->E.ρ n=(B[n]?).getD undef/\E.φ n=K n:=λn hn=>(by simp only[E,if_pos hn,and_self]);have a2:∀n,d.length<=n->E.ρ n=(xs[n-d.length]?).getD undef/\E.φ n=Ka:=λn hn=>(by simp only[E,if_neg (show ¬ n<d.length by omega),and_self]);have e4:∀(j:Nat) (a:At) (u:Value),(zhg d 0)[j]?=some a->B[j]?=some u->u.oneCell'=true/\VA w st E a u:=(by intro j a u A M;rw[zt5,jW]at A;cases L:d[j]? with|none=>rw[L]at A;cases A|some c=>rw[L]at A;cases A;have hr:=a1 j c u L M;have T:j<d.length:=(qA.1 L).1;refine⟨hr.one,?_⟩;(cases c with|i k n=>exact hr.int_inv|b x=>exact hr.bool_inv|s t l=>obtain⟨⟨a,c5,hv,_⟩,_⟩:=hr.len;refine⟨⟨a,_,c5,hv⟩,λR _=>?_⟩;rw[(a0 j T).1,M];rfl));have b8:∀l cells,zn st.lo l=some cells->l=0/\cells=zhg d 0:=(by intro l cells h;rw[d6]at h;simp only[zn]at h;split at h;{rename_i he;simp only[qJ]at he;cases h;exact⟨he.symm,rfl⟩};{cases h});have hp:VA w st E (.lp 0 0) (.pointer<|some ⟨blk,0,none⟩):=⟨⟨_,rfl⟩,λ_ _=>rfl⟩;have c0:∀a∈zhg d 0,∀m∈a.ids,m<d.length:=(by intro a A m J;obtain⟨j,T⟩:=qV.1 A;rw[zt5,jW]at T;cases L:d[j]? with|none=>rw[L]at T;cases T|some c=>rw[L]at T;cases T;have:=zzk J;have:=(qA.1 L).1;omega);let S0:zV:=λb=>b=blk\/(∃j,j<d.length/\zbd own j/\K j b)\/(zhh f=false/\b=w.heap.size)
 have hS:Sim w S0 (λn=>n<st.nid) st E (#[.pointer<|some ⟨blk,0,none⟩]++B) [] w:=by
  refine⟨⟨rfl,rfl,rfl,qW _,λ_ _ _=>rfl,λr R I=>?_,λr R I x p=>?_,λr R I U=>?_,λhz r R I U he f7=>?_,λr R r' R' I U f2 he X x p=>?_,λl cells hl=>?_,λl l' c1 c2 g q _=>?_,λl cells r R hl I=>?_,λr R e I he=>?_,rfl⟩,⟨λn R hn=>?_,λn cells hn=>?_,λm J n hn=>?_,λf hf=>?_⟩,⟨?_,λi m v J hv=>?_⟩,?_⟩;{rcases H r R I with⟨g,q,G⟩|⟨g,q,G⟩;{have M:=jG (show r<B.size by omega);rw[(a0 r g).1,(a0 r g).2,M];have:=a1 r _ _ G M;rw[q] at this;exact this};{have c9:=(qA.1 G).1;have M:=qB (show r-d.length<xs.length by rw[a4.1];exact c9);rw[(a2 r g).1,(a2 r g).2,M,q];exact a4.2 _ _ _ G M}};{rcases H r R I with⟨g,q,G⟩|⟨g,q,G⟩;{rw [(a0 r g).2]at p;exact(a7 r x g p).1};{rw [(a2 r g).2]at p;exact(c7 x p).1}};{rcases H r R I with⟨g,q,G⟩|⟨g,q,G⟩;{refine⟨(O r R (zbm I).1).1,λx p=>.inl (.inr<|.inl ⟨r,g,?_,?_⟩)⟩;{show own[r]?=some true;rw[q,U]};{rw [(a0 r g).2]at p;exact p}};{rw [q]at U;cases U}}
  .exfalso;cases hq:zhh f with
   |false=>exact hz (.inr<|.inr ⟨hq,rfl⟩)
   |true=>rw[hq,uO]at b9;have f6:zpX (.agg d::z)=true:=(by simpa using b9);have d7:CV.s R.t R.l∈(AV.agg d::z).flatMap AV.cvs:=(by simp only[kE,jH];rcases H r R I with⟨g,q,G⟩|⟨g,q,G⟩;{exact .inl (qH G)};{exact .inr (qH G)});have:=qO.1 f6 _ d7;simp only at this;rw[f7] at this;cases this
  {rcases H r R I with⟨g,q,G⟩|⟨g,q,G⟩;{have d9:zbd own r:=(by show own[r]?=some true;rw[q,U]);rw[(a0 r g).2]at p;rcases H r' R' f2 with⟨W,c6,a6⟩|⟨W,c6,a6⟩;{rw [(a0 r' W).2];exact f1 r r' x g W d9 X p};{rw [(a2 r' W).2];exact λhk=>(c7 x hk).2.2 r g d9 p}};{rw [q]at U;cases U}};{obtain⟨rfl,rfl⟩:=b8 l cells hl;exact⟨.inl (.inl rfl),B,e,hb,by rw[e5,zzj],λj c u L M=>e4 j c u L M⟩};{rw [(b8 l c1 g).1,(b8 l' c2 q).1]};{intro p;rcases H r R I with⟨g,q,G⟩|⟨g,q,G⟩;{rw [(a0 r g).2]at p;exact(a7 r _ g p).2 rfl};{rw [(a2 r g).2]at p;exact(c7 _ p).2.1 rfl}};{rw [(O r R I).1]at he;cases he};{rcases (O n R hn).2 with⟨g,_⟩|⟨_,g,_⟩<;>omega};{obtain⟨rfl,rfl⟩:=b8 n cells hn;refine⟨by omega,λa A m J=>?_⟩;have:=c0 a A m J;omega};{rw [b0]at J;rcases qG.1 J with rfl|J;{simp only [MV.ids,zbD,zS,At.ids,zbl,zbs,jS,kE,uN,jE,qD]at hn;omega};{obtain⟨a,A,rfl⟩:=jJ.1 J;simp only[MV.ids,zbD,zS,kE,uN,jE]at hn;have:=c0 a A n hn;omega}};{rw [c3]at hf;simp at hf};{rw [b0];simp[zzj,e5];omega};{rw [b0]at J;cases i with|zero=>rw[z2Y]at hv;simp at J hv;subst J hv;exact hp|succ i=>simp only[jQ,qQ]at J;have d0:B[i]?=some v:=(by rw[z2Z]at hv;exact hv);(cases A:(zhg d 0)[i]? with|none=>rw[A]at J;cases J|some a=>rw[A]at J;cases J;exact(e4 i a v A d0).2)};{rw [c3];trivial}
 obtain⟨f9,g0⟩:=zhf (w:=w) (st:=st) (E:=E) z xs d.length a4.1 (λi c u L M=>by
  have hr:=a4.2 i c u L M;refine⟨?_,hr.one⟩;cases c with
  |i k n=>exact hr.int_inv
  |b x=>exact hr.bool_inv
  |s t l=>
   obtain⟨⟨a,c5,hv,_⟩,_⟩:=hr.len;refine⟨⟨a,_,c5,hv⟩,λR I=>?_⟩;have e:d.length+i-d.length=i:=by omega
   rw[(a2 _<|uL _ _).1,e,M];rfl)
 obtain⟨_,b7⟩:=zky hO (zi5 hO (tms:=tms) (N:=N) D) f _ st _ _ a3 w S0 _ E _ [] w (#[.pointer<|some ⟨blk,0,none⟩]++(zbS z xs).toArray)
  (λv w'=>w'.os=w.os/\w'.tape=w.tape/\w'.output=w.output/\w.heap.size<=w'.heap.size/\
   (∀b,b<w.heap.size->b≠blk->(∀j,j<d.length->zbd own j->¬ K j b)->w'.heap[b]?=w.heap[b]?)/\
   ∃(S:LV) (e':TypeId) (K':Nat->zV) (ys:List Value) (Kr:Nat->zV),w'.heap[blk]?=some (.cells S e' (0,0))/\S.size=Z.length/\Z.length=d.length/\
    (∀(j:Nat) (c:CV) (u:Value),Z[j]?=some c->S[j]?=some u->match c with
     |.i k n=>u = .int k n
     |.b x=>u = .bool x
     |.s t l=>(zbd own j->Rep true w' u (.s t l) (K' j))/\(¬ zbd own j->B[j]?=some u))/\
    zpG (zkQ f) w' (zy rs) ys Kr/\v=zjT (zbS rs ys)/\
    (∀j x,j<d.length->K' j x->x<w'.heap.size/\x≠blk/\((∃i,i<d.length/\zbd own i/\K i x)\/w.heap.size<=x))/\
    (∀i x,i<(zy rs).length->Kr i x->x<w'.heap.size/\x≠blk/\((∃i,i<d.length/\zbd own i/\K i x)\/w.heap.size<=x))/\
    (∀i j x,i<d.length->j<d.length->i≠j->K' i x->¬ K' j x)/\
    (∀i j c x,(zy rs)[i]?=some c->zkQ f c=true->j<(zy rs).length->i≠j->Kr i x->¬ Kr j x)/\
    (∀i j x,i<d.length->j<(zy rs).length->K' i x->¬ Kr j x)) hS (λn hn h=>by omega)
  (by simp[f9]) (λi m v J hv=>by
   cases i with
   |zero=>rw[z2Y]at hv;simp at J hv;subst J hv;exact hp
   |succ i=>
    simp only[jQ,qQ]at J;have d0:(zbS z xs)[i]?=some v:=by rw[z2Z]at hv;simpa using hv
    cases p:(zcW z d.length)[i]? with
    |none=>rw[p]at J;cases J
    |some x=>rw[p]at J;cases J;exact g0 i x v p d0)
  (λm J n hn=>by
   rcases qG.1 J with rfl|J
   .simp only [MV.ids,zbD,zS,At.ids,zbl,zbs,jS,kE,uN,jE,qD]at hn;omega
   .obtain⟨x,p,rfl⟩:=jJ.1 J;simp only[MV.ids,zbD,qR]at hn;obtain⟨a,A,hn⟩:=hn;have:=(zfr z d.length n x a p A hn).2;omega)
  (λU' b2 E' w' tvs v d2 _ _ _ hv _ F=>by
   split at F
   .rename_i l hs htm;split at F
    .rename_i cells hcells;split at F
     .rename_i cs1 ks hbe;split at F
      .rename_i ans hansof;simp only[qC,List.cons.injEq,AV.agg.injEq]at F;obtain⟨rfl,rfl⟩:=F;have hB:=zO1 own cells hs _ ks hbe;have hM:=d2.mem;obtain⟨hts,e2⟩:=d2.tm;have g2:=e2 0 (.v<|.at<|.lp l 0) (.pointer<|some ⟨blk,0,none⟩) (by rw[htm];rfl) (z2Y _ _)
       have e7:E'.β l=blk:=by have:=g2.2 cells hcells;simp only[Value.pointer.injEq,qC,Addr.mk.injEq,and_true] at this;exact this.symm
       obtain⟨us,rfl,h8,h9⟩:=zyr hv;have TT:=zLU (st:=b2) (E:=E') (w:=w') (zhh f);obtain⟨a5,ys,kr,hG,hyl,e6,rfl,f8,_⟩:=ziK tvs ks _ us hansof h8 (λk x u p M=>VT.tr TT (λ_ _ _ _=>trivial) (h9 k x u p M));have hyv:∀(k:Nat) (a:At) (u:Value),a5[k]?=some a->ys[k]?=some u->VA w' b2 E' a u:=λk a u A M=>by have h:=e6 k a u A M;rcases hG.get k a A with⟨_,_,rfl,_⟩|⟨_,rfl,_⟩|⟨r,R1,rfl,b6,J,_⟩;{exact h};{exact h};{obtain⟨R0,f3,ht,_⟩:=zjG b6;refine⟨h.1,λR I=>?_⟩;rw[f3]at I;cases I;have:=h.2 R1 b6;simpa [zX] using this}
       have hzz:zhh f=true->¬ S0 w.heap.size:=λh h'=>by rcases h' with h'|⟨j,T,_,hk⟩|⟨h',_⟩;{omega};{have:=(a7 j _ T hk).1;omega};{rw [h]at h';cases h'}
       obtain⟨_,S,e',a8,e1,f4⟩:=hM.loc l cells hcells;rw[e7]at a8;have d3:∀x,(S0 x\/w.heap.size<=x)->x≠blk->((∃i,i<d.length/\zbd own i/\K i x)\/w.heap.size<=x):=by intro x h X;rcases h with (h|h|h)|h;{exact absurd h X};{exact .inl h};{exact .inr (by omega)};{exact .inr h}
       have d8:∀r R x,b2.root r=some R->E'.φ r x->x≠blk:=by intro r R x I p he;subst he;rw[<- e7]at p;exact hM.lro l cells r R hcells I p
       have d5:∀i,i<(zy ans).length->∃a,a5[i]?=some a:=λi hi=>⟨_,qB (by rw[<- hG.len];exact hi)⟩
       let K':Nat->zV:=λj x=>zbd own j/\cφ E' cells j x
       have b4:∀j x,K' j x->∃r R,cells[j]?=some (.sl r [])/\zbd own j/\b2.root r=some R/\R.own=true/\r∈ks/\E'.φ r x:=by intro j x p;obtain⟨U,p⟩:=p;obtain⟨a,A,p⟩:=ztI p;rcases hB.get j a A with⟨_,_,rfl,_⟩|⟨_,rfl,_⟩|⟨r,R,rfl,g,q,G⟩;{exact p.elim};{exact p.elim};{rcases G with⟨_,Y,h5⟩|⟨Y,_⟩;{exact⟨r,R,A,U,g,Y,h5,p⟩};{exact absurd U Y}}
       have b5:∀i x,cφ E' a5 i x->∃a r R,a5[i]?=some a/\a = .sl r []/\b2.root r=some R/\R.ep=none/\r∈kr/\aφ E' a x/\E'.φ r x:=by intro i x p;obtain⟨a,A,p⟩:=ztI p;obtain⟨r,hr,rfl,h0⟩:=hG.fi A p;obtain⟨R1,b6,g6⟩:=hG.own r hr;obtain⟨R,I,_,c8⟩:=zjG b6;refine⟨_,r,R,A,rfl,I,?_,hr,p,h0⟩;rcases c8 with rfl|⟨_,_,he,_⟩;{exact(hM.mine r _ I g6).1};{exact he}
       refine⟨hM.os,hM.tape,hM.output,hM.size,λb hb X g3=>hM.keep b hb λh=>?_,S,e',K',ys,cφ E' a5,a8,by rw[e1,hB.len],d4,λj c u L M=>?_,⟨by rw[hyl,hG.len],λi c x L p=>?_⟩,rfl,λj x T p=>?_,λi x hi p=>?_,λi j x hi T X p b1=>?_,λi j c x hi U T X p b1=>?_,λi j x hi T p b1=>?_⟩
       .rcases h with h|⟨j,T,U,hk⟩|⟨_,h⟩
        .exact X h
        .exact g3 j T U hk
        .omega
       .have T:j<cells.length:=by rw[<- hB.len];exact(qA.1 L).1
        have A:=qB T;obtain⟨_,V⟩:=f4 j _ u A M;rcases hB.get j _ A with⟨k,n,g,q⟩|⟨y,g,q⟩|⟨r,R,g,q,G,Y⟩
        .rw [L]at q;cases q;rw[g]at V;exact V
        .rw [L]at q;cases q;rw[g]at V;exact V
        .rw [L]at G;cases G;rw[g]at V A;have d1:=V.2 R q;simp only[zX,qC]at d1;refine⟨λU=>?_,λg4=>?_⟩
         .rcases Y with⟨_,h5,_⟩|⟨h5,_⟩
          .have hr:=hM.rep r R q;rw[h5,d1]at hr;exact hr.weak (λx p=>⟨U,by rw[zhG A];exact p⟩)
          .exact absurd U h5
         .rcases Y with⟨h5,_⟩|⟨_,h5⟩
          .exact absurd h5 g4
          .have hjc:j<d.length:=by rw[<- d4,hB.len];exact T
           have e3:=jG (show j<B.size by omega)
           have h7:=e2 (j+1) (.v<|.at<|.sl r []) B[j] (by rw[htm,jQ];exact h5) (by rw[z2Z];exact e3)
           have c4:=h7.2 R q;simp only[zX,qC]at c4;rw[e3,<- c4,d1]
       .obtain⟨a,A⟩:=d5 i (qA.1 L).1;rw[zhG A];exact zXn hM hG A L (hyv i a x A p)
       .obtain⟨r,R,_,U,g,q,G,Y⟩:=b4 j x p;have:=d8 r R x g Y;exact⟨hM.rlt r R g x Y,this,d3 x ((hM.mine r R g q).2 x Y) this⟩
       .obtain⟨a,r,R,A,_,g,_,_,G,Y⟩:=b5 i x p;have:=d8 r R x g Y;exact⟨hM.rlt r R g x Y,this,d3 x (z1T hzz hM hG A G).1 this⟩
       .obtain⟨r,R,g1,U,g,q,G,Y⟩:=b4 i x p;obtain⟨r',R',f0,g5,W,c6,a6,b3⟩:=b4 j x b1;have:=hM.own_apart g q W c6 Y b3;subst this;exact X (hB.inj i j r U g5 g1 f0)
       .obtain⟨a,r,R,A,_,g,_,_,G,Y⟩:=b5 i x p;obtain⟨b,r',R',a8,_,W,_,_,a6,b3⟩:=b5 j x b1;exact X (zXm hM hG A a8 hi U G a6)
       .obtain⟨r,R,g1,U,g,q,G,Y⟩:=b4 i x p;obtain⟨b,r',R',a8,_,W,f5,g8,a6,b3⟩:=b5 j x b1
        by_cases e:r=r'
        .subst e;exact f8 r g8 G
        .exact hM.apart r R r' R' g q W f5 e x Y b3
      .cases F
     .cases F
    .cases F
   .cases F)
 refine b7.mono ?_;intro ex w' he;cases ex with|returned v=>exact he|panicked e9=>exact he.elim|outgrown=>exact he.elim
end
def zYo (C:Cfg)(tms:FuncId->Nat->Option Tmpl)(N D:Nat)(f:FuncId)(own:List Bool)(a:LA):Option Ans :=
 zvd C tms N (zrA C tms N D) f ((zcW a 0).map .v) {tm:=[],lo:=[],ro:=zeN own (a.flatMap AV.cvs) 0,stk:=[],nid:=(a.flatMap AV.cvs).length,ep:=0} λb c=>zqK c b []
def zDV (C:Cfg)(tms:FuncId->Nat->Option Tmpl)(N D:Nat)(f:FuncId)(own:List Bool)(e g:Nat)(b:List (List Nat))(t:Ty)(a:LA):Option Ans :=
 zvd C tms N (zrA C tms N D) f ((zcW a 0).map .v) {tm:=[.v<|.at<|.kp e b t],lo:=[],ro:=zeN own (a.flatMap AV.cvs) 0,stk:=[],nid:=(a.flatMap AV.cvs).length,ep:=0} λc d=>
  match d.tm,(c.flatMap zS)[g]? with
  |[.v<|.at<|.kp n J h],some (.sl m [])=>cond (Nat.beq n m&&(J==b&&decide (h=t))) (zqK d c []) none
  |_,_=>none
section
variable {C:Cfg} {w0 w w1:World} {S0:zV} {U:Nat->Prop} {st st1:St} {E E1:Env} {ts:Array Value} {sv:List (Array Value)}
def zMw (hO:EngOk C){f:FuncId}{own:List Bool}{b2:LW}(hf:FnOk C.P f)(a6:zir f=[[]])(h:∀(d:LA) (G:LA),own.length=(zy d).length->(∃(w:World) (J:Nat->Value) (K:Nat->zV),∀(j:Nat) (c:CV),(zy d)[j]?=some c->Rep false w (J j) c (K j))->b2 d=some (true,G)->∃tms N D,zYo C tms N D f own d=some G)(A:own.isEmpty=false:=by rfl):zeh C.P f own none b2:=by
 refine zeh.of (by rintro rfl;cases A) ?_;intro al a5;rw[a6,qD]at a5;subst a5;refine⟨hf,λw K d J G b1 c5 I a4 a3 _ b0=>?_⟩;have b8:=λi j x hi hj U A=>a3 i j x hi hj U A (by simp)
 obtain⟨tms,N,D,a2⟩:=h d G c5 ⟨w,λj=>(J[j]?).getD undef,K,λj c hc=>by
  have c3:=(qA.1 hc).1;have Z:=qB (show j<J.length by rw[b1];exact c3)
  simp only[Z,j9];exact(I j c _ hc Z).ro⟩ b0
 unfold zYo at a2;generalize y:({tm:=[],lo:=[],ro:=zeN own (d.flatMap AV.cvs) 0,stk:=[],nid:=(d.flatMap AV.cvs).length,ep:=0}:St)=st at a2;have a9:st.ro=zeN own (zy d) 0:=(by rw[<- y];rfl);have g:∀r R,zn st.ro r=some R->R.ep=none/\r<(zy d).length/\own[r]?=some R.own/\(zy d)[r]?=some (.s R.t R.l):=(by intro r R z;rw[a9]at z;obtain⟨_,t,l,B,_,_,h5,h6⟩:=zk6 own (zy d) 0 r R z;rw[h6]at h5 ⊢;simp only[vN]at B h5;exact⟨rfl,(qA.1 B).1,h5,B⟩);have T:∀l,zn st.lo l=none:=λl=>(by rw[<- y];rfl);let E:Env:={ρ:=λn=>(J[n]?).getD undef,φ:=K,β:=λ_=>0,κ:=w}
 let S0:zV:=λb=>(∃j,j<(zy d).length/\zbd own j/\K j b)\/b=w.heap.size
 have hS:Sim w S0 (λn=>n<(zy d).length) st E #[] [] w:=by refine⟨⟨rfl,rfl,rfl,qW _,λ_ _ _=>rfl,λr R z=>?_,λr R z x q=>?_,λr R z U=>?_,λhz _ _ _ _ _ _=>absurd (.inr rfl) hz,λr R r' R' z U b9 _ A x q=>?_,λl cs Y=>?_,λl l' cs d5 Y=>?_,λl cs r R Y=>?_,λr R e z X=>?_,rfl⟩,⟨λn R L=>?_,λn cs L=>?_,λm F=>?_,λf hf=>?_⟩,⟨?_,λi m v F=>?_⟩,?_⟩;{obtain⟨_,H,B,h3⟩:=g r R (zbm z).1;have Z:=qB (show r<J.length by omega);show Rep R.own w ((J[r]?).getD undef) _ (K r);have:=I r _ _ h3 Z;rw[B] at this;rw[Z];exact this};{obtain⟨_,H,_,_⟩:=g r R (zbm z).1;exact a4 r x H q};{obtain⟨X,H,B,_⟩:=g r R (zbm z).1;refine⟨X,λx q=>.inl (.inl ⟨r,H,?_,q⟩)⟩;show own[r]?=some true;rw[B,U]};{obtain⟨_,H,B,_⟩:=g r R (zbm z).1;obtain⟨_,a0,_,_⟩:=g r' R' (zbm b9).1;exact b8 r r' x H a0 (by show own[r]?=some true;rw[B,U]) A q};{rw [T]at Y;cases Y};{rw [T]at Y;cases Y};{rw [T]at Y;cases Y};{rw [(g r R z).1]at X;cases X};{exact(g n R L).2.1};{rw [T]at L;cases L};{rw [<- y]at F;simp at F};{rw [<- y]at hf;simp at hf};{rw [<- y];rfl};{rw [<- y]at F;simp at F};{rw [<- y];trivial}
 obtain⟨c1,c2⟩:=zhf (w:=w) (st:=st) (E:=E) d J 0 b1 (λi c u hc Z=>by
  have V:=I i c u hc Z;refine⟨?_,V.one⟩;cases c with
  |i k n=>exact V.int_inv
  |b x=>exact V.bool_inv
  |s t l=>
   obtain⟨⟨a,b3,hv,_⟩,_⟩:=V.len;refine⟨⟨a,_,b3,hv⟩,λR z=>?_⟩;have e:0+i=i:=by omega
   show some ((J[0+i]?).getD undef)=some u
   rw[e,Z];rfl)
 have d4:st.nid=(zy d).length:=by rw[<- y];rfl
 obtain⟨_,S⟩:=zky hO (zi5 hO (tms:=tms) (N:=N) D) f _ st _ G a2 w S0 _ E #[] [] w (zbS d J).toArray
  (λv M=>M.os=w.os/\M.tape=w.tape/\M.output=w.output/\w.heap.size<=M.heap.size/\
   (∀b,b<w.heap.size->(∀j,j<(zy d).length->zbd own j->¬ K j b)->M.heap[b]?=w.heap[b]?)/\
   ∃(ys:List Value) (Kr:Nat->zV),zdo true M (zy G) ys Kr/\v=zjT (zbS G ys)/\
    (∀i x,i<(zy G).length->Kr i x->x<M.heap.size/\((∃j,j<(zy d).length/\zbd own j/\K j x)\/w.heap.size<=x))/\
    (∀i j x,i<(zy G).length->j<(zy G).length->i≠j->Kr i x->¬ Kr j x)/\
    (∀ja jr js,(none:Option (Nat×Nat×List (List Nat)))=some (ja,jr,js)->∀t l u,(zy d)[ja]?=some (.s t l)->J[ja]?=some u->∃l',(zy G)[jr]?=some (.s t l')/\ys[jr]?=some u/\
     ∀p v,zX w t u p=some v->js.any (λc=>c.isPrefixOf (cols p))=false->zX M t u p=some v)) hS (λn L h=>by omega)
  (by simp[c1]) (λi m v F hv=>by
   rw[qQ]at F;cases q:(zcW d 0)[i]? with
   |none=>rw[q]at F;cases F
   |some x=>rw[q]at F;cases F;exact c2 i x v q (by simpa using hv))
  (λm F n L=>by
   obtain⟨x,q,rfl⟩:=jJ.1 F;simp only[MV.ids,zbD,qR]at L;obtain⟨a,W,L⟩:=L;have:=(zfr d 0 n x a q W L).2;omega)
  (λU' d2 E' M d3 v c0 _ _ _ hv _ a7=>by
   obtain⟨us,rfl,c7,c8⟩:=zyr hv;obtain⟨O,ys,ks,hG,d0,d1,rfl,_⟩:=ziK d3 [] G us a7 c7 c8;have Q:=c0.mem;have a8:∀i,i<(zy G).length->∃a,O[i]?=some a:=λi hi=>⟨_,qB (by rw[<- hG.len];exact hi)⟩
   have a1:∀i x,cφ E' O i x->∃r∈ks,∃R,O[i]?=some (.sl r [])/\d2.root r=some R/\R.own=true/\E'.φ r x:=by intro i x q;obtain⟨a,W,q⟩:=ztI q;obtain⟨r,V,rfl,c6⟩:=hG.fi W q;obtain⟨R,z,U⟩:=hG.own r V;exact⟨r,V,R,W,z,U,c6⟩
   refine⟨Q.os,Q.tape,Q.output,Q.size,λb hb c4=>Q.keep b hb λh=>h.elim (λ⟨j,hj,U,hk⟩=>c4 j hj U hk) (λh=>by omega),ys,cφ E' O,⟨by rw[d0,hG.len],λi c x hc q=>?_⟩,rfl,λi x hi q=>?_,λi j x hi hj A q c9=>?_,λja jr js h=>by cases h⟩
   .obtain⟨a,W⟩:=a8 i (qA.1 hc).1;rw[zhG W];exact hG.rep Q W hc (d1 i a x W q)
   .obtain⟨r,V,R,_,H,B,h4⟩:=a1 i x q;exact⟨Q.rlt r R H x h4,((Q.mine r R H B).2 x h4).elim (λh=>h.imp (λh=>h) λh=>uA h.symm) .inr⟩
   .obtain⟨r,V,R,g1,H,B,h4⟩:=a1 i x q;obtain⟨r',d6,R',b5,a0,b6,b7⟩:=a1 j x c9;have:=Q.own_apart H B a0 b6 h4 b7;subst this;exact A (hG.inj i j r g1 b5))
 refine S.mono ?_;intro ex M X;cases ex with|returned v=>exact X|panicked b4=>exact X.elim|outgrown=>exact X.elim
def zlZ (hO:EngOk C){f:FuncId}{own:List Bool}{G jr:Nat}{js:List (List Nat)}{kt:Ty}{c7:LW}(hf:FnOk C.P f)(b6:zir f=[[]])(h:∀(d:LA) (O:LA),own.length=(zy d).length->(∃(w:World) (A:Nat->Value) (K:Nat->zV),∀(j:Nat) (c:CV),(zy d)[j]?=some c->Rep false w (A j) c (K j))->c7 d=some (true,O)->(∃l,(zy d)[G]?=some (.s kt l))/\own[G]?=some true/\∃tms N D,zDV C tms N D f own G jr js kt d=some O)(H:own.isEmpty=false:=by rfl):zeh C.P f own (some (G,jr,js)) c7:=by
 refine zeh.of (by rintro rfl;cases H) ?_;intro al b5;rw[b6,qD]at b5;subst b5;refine⟨hf,λw K d A O b0 e5 I b3 b2 _ c2=>?_⟩;have d2:=λi j x hi hj ho H=>b2 i j x hi hj ho H (by simp)
 obtain⟨⟨kl,a1⟩,f8,tms,N,D,a8⟩:=h d O e5 ⟨w,λj=>(A[j]?).getD undef,K,λj c hc=>by
  have d8:=(qA.1 hc).1;have hu:=qB (show j<A.length by rw[b0];exact d8)
  simp only[hu,j9];exact(I j c _ hc hu).ro⟩ c2
 unfold zDV at a8;have c0:G<(zy d).length:=(qA.1 a1).1;have d5:G<A.length:=(by rw[b0];exact c0);have a9:=qB d5;generalize B:({tm:=[.v<|.at<|.kp G js kt],lo:=[],ro:=zeN own (d.flatMap AV.cvs) 0,stk:=[],nid:=(d.flatMap AV.cvs).length,ep:=0}:St)=st at a8;have c1:st.ro=zeN own (zy d) 0:=(by rw[<- B];rfl);have g:∀r R,zn st.ro r=some R->R.ep=none/\r<(zy d).length/\own[r]?=some R.own/\(zy d)[r]?=some (.s R.t R.l):=(by intro r R z;rw[c1]at z;obtain⟨_,t,l,L,_,_,h5,h6⟩:=zk6 own (zy d) 0 r R z;rw[h6]at h5 ⊢;simp only[vN]at L h5;exact⟨rfl,(qA.1 L).1,h5,L⟩);have a2:∀l,zn st.lo l=none:=λl=>(by rw[<- B];rfl);let E:Env:={ρ:=λn=>(A[n]?).getD undef,φ:=K,β:=λ_=>0,κ:=w}
 let S0:zV:=λb=>(∃j,j<(zy d).length/\zbd own j/\K j b)\/b=w.heap.size
 have hS:Sim w S0 (λn=>n<(zy d).length) st E #[A[G]] [] w:=by refine⟨⟨rfl,rfl,rfl,qW _,λ_ _ _=>rfl,λr R z=>?_,λr R z x y=>?_,λr R z ho=>?_,λhz _ _ _ _ _ _=>absurd (.inr rfl) hz,λr R r' R' z ho d3 _ H x y=>?_,λl cs hl=>?_,λl l' cs f7 hl=>?_,λl cs r R hl=>?_,λr R e z W=>?_,rfl⟩,⟨λn R M=>?_,λn cs M=>?_,λm F=>?_,λf hf=>?_⟩,⟨?_,λi m v F X=>?_⟩,?_⟩;{obtain⟨_,T,L,h3⟩:=g r R (zbm z).1;have hu:=qB (show r<A.length by omega);show Rep R.own w ((A[r]?).getD undef) _ (K r);have:=I r _ _ h3 hu;rw[L] at this;rw[hu];exact this};{obtain⟨_,T,_,_⟩:=g r R (zbm z).1;exact b3 r x T y};{obtain⟨W,T,L,_⟩:=g r R (zbm z).1;refine⟨W,λx y=>.inl (.inl ⟨r,T,?_,y⟩)⟩;show own[r]?=some true;rw[L,ho]};{obtain⟨_,T,L,_⟩:=g r R (zbm z).1;obtain⟨_,a6,_,_⟩:=g r' R' (zbm d3).1;exact d2 r r' x T a6 (by show own[r]?=some true;rw[L,ho]) H y};{rw [a2]at hl;cases hl};{rw [a2]at hl;cases hl};{rw [a2]at hl;cases hl};{rw [(g r R z).1]at W;cases W};{exact(g n R M).2.1};{rw [a2]at M;cases M};{rw [<- B]at F;simp only[qD]at F;subst F;intro n M;simp only[MV.ids,zbD,zS,kE,uN,At.ids,zbl,zbs,jE,qD]at M;subst M;exact c0};{rw [<- B]at hf;simp at hf};{rw [<- B];rfl};{rw [<- B]at F;cases i with|succ i=>simp at F|zero=>simp only[qI,qC]at F X;subst F;have X:A[G]=v:=(by simpa using X);subst X;have U:=I G _ _ a1 a9;obtain⟨⟨a,a5,f2,_⟩,_⟩:=U.len;refine⟨⟨a,_,a5,f2⟩,λR z=>?_⟩;obtain⟨_,_,_,h4⟩:=g G R (zbm z).1;rw[a1]at h4;cases h4;refine⟨rfl,?_,λp u hp _=>hp⟩;show (A[G]?).getD undef=A[G];rw[a9];rfl};{rw [<- B];trivial}
 obtain⟨d6,d7⟩:=zhf (w:=w) (st:=st) (E:=E) d A 0 b0 (λi c u hc hu=>by
  have U:=I i c u hc hu;refine⟨?_,U.one⟩;cases c with
  |i k n=>exact U.int_inv
  |b x=>exact U.bool_inv
  |s t l=>
   obtain⟨⟨a,a5,X,_⟩,_⟩:=U.len;refine⟨⟨a,_,a5,X⟩,λR z=>?_⟩;have e:0+i=i:=by omega
   show some ((A[0+i]?).getD undef)=some u
   rw[e,hu];rfl)
 have f6:st.nid=(zy d).length:=by rw[<- B];rfl
 obtain⟨_,Z⟩:=zky hO (zi5 hO (tms:=tms) (N:=N) D) f _ st _ O a8 w S0 _ E #[A[G]] [] w (zbS d A).toArray
  (λv Y=>Y.os=w.os/\Y.tape=w.tape/\Y.output=w.output/\w.heap.size<=Y.heap.size/\
   (∀b,b<w.heap.size->(∀j,j<(zy d).length->zbd own j->¬ K j b)->Y.heap[b]?=w.heap[b]?)/\
   ∃(ys:List Value) (Kr:Nat->zV),zdo true Y (zy O) ys Kr/\v=zjT (zbS O ys)/\
    (∀i x,i<(zy O).length->Kr i x->x<Y.heap.size/\((∃j,j<(zy d).length/\zbd own j/\K j x)\/w.heap.size<=x))/\
    (∀i j x,i<(zy O).length->j<(zy O).length->i≠j->Kr i x->¬ Kr j x)/\
    (∀a3 a4 b1,some (G,jr,js)=some (a3,a4,b1)->∀t l u,(zy d)[a3]?=some (.s t l)->A[a3]?=some u->∃l',(zy O)[a4]?=some (.s t l')/\ys[a4]?=some u/\
     ∀p v,zX w t u p=some v->b1.any (λc=>c.isPrefixOf (cols p))=false->zX Y t u p=some v)) hS (λn M h=>by omega)
  (by simp[d6]) (λi m v F X=>by
   rw[qQ]at F;cases y:(zcW d 0)[i]? with
   |none=>rw[y]at F;cases F
   |some x=>rw[y]at F;cases F;exact d7 i x v y (by simpa using X))
  (λm F n M=>by
   obtain⟨x,y,rfl⟩:=jJ.1 F;simp only[MV.ids,zbD,qR]at M;obtain⟨a,Q,M⟩:=M;have:=(zfr d 0 n x a y Q M).2;omega)
  (λU' f4 E' Y f5 v b4 _ _ _ X _ q=>by
   obtain⟨us,rfl,f0,f1⟩:=zyr X;split at q
   rotate_left
   .cases q
   rename_i n J t' m e8 e6;cases a0:(Nat.beq n m&&(J==js&&decide (t'=kt))) with
   |false=>rw[a0]at q;cases q
   |true=>
   rw[a0]at q;simp only[cond_true]at q;simp only[qE,kU,qJ,jA]at a0;obtain⟨e0,hJ,ht⟩:=a0;subst e0 hJ ht;obtain⟨S,ys,ks,hG,c4,c6,rfl,_,b7⟩:=ziK f5 [] O us q f0 f1;have V:=b4.mem;have b9:∀i,i<(zy O).length->∃a,S[i]?=some a:=λi hi=>⟨_,qB (by rw[<- hG.len];exact hi)⟩
   have a7:∀i x,cφ E' S i x->∃r∈ks,∃R,S[i]?=some (.sl r [])/\f4.root r=some R/\R.own=true/\E'.φ r x:=by intro i x y;obtain⟨a,Q,y⟩:=ztI y;obtain⟨r,U,rfl,e7⟩:=hG.fi Q y;obtain⟨R,z,ho⟩:=hG.own r U;exact⟨r,U,R,Q,z,ho,e7⟩
   refine⟨V.os,V.tape,V.output,V.size,λb hb d9=>V.keep b hb λh=>h.elim (λ⟨j,hj,ho,hk⟩=>d9 j hj ho hk) (λh=>by omega),ys,cφ E' S,⟨by rw[c4,hG.len],λi c x hc y=>?_⟩,rfl,λi x hi y=>?_,λi j x hi hj H y f3=>?_,λa3 a4 b1 W t l u b8 c3=>?_⟩
   .obtain⟨a,Q⟩:=b9 i (qA.1 hc).1;rw[zhG Q];exact hG.rep V Q hc (c6 i a x Q y)
   .obtain⟨r,U,R,_,T,L,h4⟩:=a7 i x y;exact⟨V.rlt r R T x h4,((V.mine r R T L).2 x h4).elim (λh=>h.imp (λh=>h) λh=>uA h.symm) .inr⟩
   .obtain⟨r,U,R,g1,T,L,h4⟩:=a7 i x y;obtain⟨r',f9,R',c9,a6,d0,d1⟩:=a7 j x f3;have:=V.own_apart T L a6 d0 h4 d1;subst this;exact H (hG.inj i j r g1 c9)
   .cases W;rw[a1]at b8;cases b8;rw[a9]at c3;cases c3;have Q:S[jr]?=some (.sl n []):=by rw[b7];exact e6
    rcases hG.get jr _ Q with⟨_,_,h,_⟩|⟨_,h,_⟩|⟨r,R,h,z,_,d4⟩
    .cases h
    .cases h
    .cases h;have e9:=b4.tm.2 0 (.v<|.at<|.kp n J t') A[G] (by rw[e8];rfl) (by simp)
     obtain⟨e1,e2,e3⟩:=e9.2 R z;have c5:jr<ys.length:=by rw[c4];exact(qA.1 Q).1
     have hy:=qB c5;have e4:=(c6 jr _ _ Q hy).2 R z;simp only[zX,qC] at e4;refine⟨e1 ▸ R.l,?_,by rw[hy,<- e4,e2],?_⟩
     .rw [d4];cases e1;rfl
     .rw [V.κ] at e3;exact e3)
 refine Z.mono ?_;intro ex Y W;cases ex with|returned v=>exact W|panicked c8=>exact W.elim|outgrown=>exact W.elim
def zR6 (b:List (Nat×Nat)):At->At
 |.sl r []=>match b.find? (λx=>Nat.beq x.1 r) with
  |some x=>.sl x.2 []
  |none=>.sl r []
 |a=>a
def zRL (C:Cfg)(tms:FuncId->Nat->Option Tmpl)(N D:Nat)(f:FuncId)(own:List Bool)(b:List (Nat×Nat))(e g:Nat)(c:List (List Nat))(t:Ty)(a:LA):Option Ans :=
 zvd C tms N (zrA C tms N D) f (((zcW a 0).map .v).map (zjQ<|zR6 b)) {tm:=[.v<|.at<|.kp e c t],lo:=[],ro:=(zeN own (a.flatMap AV.cvs) 0).filter (λx=>!b.any λy=>Nat.beq y.1 x.1),stk:=[],nid:=(a.flatMap AV.cvs).length,ep:=0} λd st=>
  match st.tm,(d.flatMap zS)[g]? with
  |[.v<|.at<|.kp n J h],some (.sl m [])=>cond (Nat.beq n m&&(J==c&&decide (h=t))) (zqK st d []) none
  |_,_=>none
def zUj (a:At):Prop:=(∃k n,a = .i k n)\/(∃b,a = .b b)\/∃r,a = .sl r []
def zsS:∀(c:LC) (id:Nat) (a:At),a∈zhg c id->zUj a
 |[],_,_,h=>by simp[zhg]at h
 |.i k n::c,id,a,h=>by simp only[zhg,qG]at h;rcases h with rfl|h;{exact .inl ⟨k,n,rfl⟩};{exact zsS c (id+1) a h}
 |.b x::c,id,a,h=>by simp only[zhg,qG]at h;rcases h with rfl|h;{exact .inr (.inl ⟨x,rfl⟩)};{exact zsS c (id+1) a h}
 |.s t l::c,id,a,h=>by simp only[zhg,qG]at h;rcases h with rfl|h;{exact .inr (.inr ⟨id,rfl⟩)};{exact zsS c (id+1) a h}
def zwC:∀(e:LA) (id:Nat) (x:TV) (a:At),x∈zcW e id->a∈zS x->zUj a
 |[],_,_,_,h,_=>by simp[zcW]at h
 |.one c::e,id,x,a,h,d=>by simp only[zcW,qG]at h;rcases h with rfl|h;{simp only [zS,qD]at d;subst d;cases c with|i k n=>exact .inl ⟨k,n,rfl⟩|b x=>exact .inr (.inl ⟨x,rfl⟩)|s t l=>exact .inr (.inr ⟨id,rfl⟩)};{exact zwC e (id+1) x a h d}
 |.agg f::e,id,x,a,h,d=>by simp only[zcW,qG]at h;rcases h with rfl|h;{exact zsS f id a d};{exact zwC e (id+f.length) x a h d}
def z8s {w1:World}{st1:St}{E1:Env}{w:World}{st:St}{E:Env}{f:At->At}{P:At->Prop}(T:∀a v,P a->VA w st E a v->VA w1 st1 E1 (f a) v){x:TV}{v:Value}(g:∀a∈zS x,P a)(h:VT w st E x v):VT w1 st1 E1 (zqV f x) v:=by rcases x with a|l;{exact T a v (g a (by simp[zS])) h};{obtain⟨n,k,m,e⟩:=h;refine⟨n,k,by simp[m],λj a u c i=>?_⟩;rw[qQ]at c;cases d:l[j]? with|none=>rw[d]at c;cases c|some b=>rw[d]at c;cases c;exact⟨(e j b u d i).1,T _ _ (g b (by simp only[zS];exact qH d)) (e j b u d i).2⟩}
def z2V {b:List (Nat×Nat)}{a:At}{n:Nat}(h:n∈(zR6 b a).ids):n∈a.ids\/∃r,(r,n)∈b:=by unfold zR6 at h;split at h;{split at h;{rename_i r x c;simp only[At.ids,zbl,zbs,jE,qD]at h;subst h;exact .inr ⟨x.1,uS c⟩};{exact .inl h}};{exact .inl h}
def zqJ {d:Type}(q:Nat->Bool):∀(l:List (Nat×d)) (n:Nat) (x:d),zn (l.filter λy=>q y.1) n=some x->q n=true/\zn l n=some x
 |[],_,_,h=>by simp[zn]at h
 |(k,v)::l,n,x,h=>by cases b:q k with|false=>rw[List.filter_cons_of_neg (by simp[b])]at h;obtain⟨c,e⟩:=zqJ q l n x h;refine⟨c,?_⟩;simp only[zn];(cases a:k==n with|false=>exact e|true=>have:k=n:=(by simpa using a);subst this;rw[b]at c;cases c)|true=>rw[List.filter_cons_of_pos (by simp[b])]at h;simp only[zn]at h ⊢;(cases a:k==n with|false=>rw[a]at h;exact zqJ q l n x (by simpa using h)|true=>rw[a]at h;have:k=n:=(by simpa using a);subst this;exact⟨b,by simpa using h⟩)
def zMv (hO:EngOk C){f:FuncId}{own:List Bool}{M jr:Nat}{js:List (List Nat)}{kt:Ty}{d0:LW}(hf:FnOk C.P f)(h:∀(W:List (Nat×Nat)) (d:LA) (V:LA),W∈zir f->(∀j i,(j,i)∈W->(zy d)[j]?=(zy d)[i]?)->own.length=(zy d).length->(∃(w:World) (B:Nat->Value) (K:Nat->zV),∀(j:Nat) (c:CV),(zy d)[j]?=some c->Rep false w (B j) c (K j))->d0 d=some (true,V)->(∃l,(zy d)[M]?=some (.s kt l))/\own[M]?=some true/\∃tms N D,zRL C tms N D f own W M jr js kt d=some V)(Z:own.isEmpty=false:=by rfl):zeh C.P f own (some (M,jr,js)) d0:=by
 refine zeh.of (by rintro rfl;cases Z) ?_
 intro W d5;refine⟨hf,λw K d B V b2 f1 S b6 b5 Y c4=>?_⟩;obtain⟨⟨kl,a2⟩,g7,tms,N,D,b0⟩:=h W d V d5 (λj i d8=>(Y j i d8).2.2.2.1) f1 ⟨w,λj=>(B[j]?).getD undef,K,λj c hc=>by
  have e6:=(qA.1 hc).1;have hu:=qB (show j<B.length by rw[b2];exact e6)
  simp only[hu,j9];exact(S j c _ hc hu).ro⟩ c4
 unfold zRL at b0;have c2:M<(zy d).length:=(qA.1 a2).1;have d9:M<B.length:=(by rw[b2];exact c2);have b1:=qB d9;generalize H:({tm:=[.v<|.at<|.kp M js kt],lo:=[],ro:=(zeN own (d.flatMap AV.cvs) 0).filter (λx=>!W.any λy=>Nat.beq y.1 x.1),stk:=[],nid:=(d.flatMap AV.cvs).length,ep:=0}:St)=st at b0;have a6:st.ro=(zeN own (zy d) 0).filter (λx=>!W.any λy=>Nat.beq y.1 x.1):=(by rw[<- H];rfl);have e8:∀r R,zn st.ro r=some R->∀i,(r,i)∉W:=(by intro r R z i hi;rw[a6]at z;have:=(zqJ (λn=>!W.any λy=>Nat.beq y.1 n) _ r R z).1;simp only[jI,kV] at this;exact this _ hi (Nat.beq_refl r));have g:∀r R,zn st.ro r=some R->R.ep=none/\r<(zy d).length/\own[r]?=some R.own/\(zy d)[r]?=some (.s R.t R.l):=(by intro r R z;rw[a6]at z;obtain⟨_,t,l,F,_,_,h5,h6⟩:=zk6 own (zy d) 0 r R (zqJ (λn=>!W.any λy=>Nat.beq y.1 n) _ r R z).2;rw[h6]at h5 ⊢;simp only[vN]at F h5;exact⟨rfl,(qA.1 F).1,h5,F⟩);have a3:∀l,zn st.lo l=none:=λl=>(by rw[<- H];rfl);let E:Env:={ρ:=λn=>(B[n]?).getD undef,φ:=K,β:=λ_=>0,κ:=w}
 let S0:zV:=λb=>(∃j,j<(zy d).length/\zbd own j/\K j b)\/b=w.heap.size
 have hS:Sim w S0 (λn=>n<(zy d).length) st E #[B[M]] [] w:=(by refine⟨⟨rfl,rfl,rfl,qW _,λ_ _ _=>rfl,λr R z=>?_,λr R z x q=>?_,λr R z ho=>?_,λhz _ _ _ _ _ _=>absurd (.inr rfl) hz,λr R r' R' z ho b7 _ Z x q=>?_,λl cs hl=>?_,λl l' cs g6 hl=>?_,λl cs r R hl=>?_,λr R e z U=>?_,rfl⟩,⟨λn R O=>?_,λn cs O=>?_,λm G=>?_,λf hf=>?_⟩,⟨?_,λi m v G L=>?_⟩,?_⟩;{obtain⟨_,T,F,h3⟩:=g r R (zbm z).1;have hu:=qB (show r<B.length by omega);show Rep R.own w ((B[r]?).getD undef) _ (K r);have:=S r _ _ h3 hu;rw[F] at this;rw[hu];exact this};{obtain⟨_,T,_,_⟩:=g r R (zbm z).1;exact b6 r x T q};{obtain⟨U,T,F,_⟩:=g r R (zbm z).1;refine⟨U,λx q=>.inl (.inl ⟨r,T,?_,q⟩)⟩;show own[r]?=some true;rw[F,ho]};{obtain⟨_,T,F,_⟩:=g r R (zbm z).1;obtain⟨_,a8,_,_⟩:=g r' R' (zbm b7).1;exact b5 r r' x T a8 (by show own[r]?=some true;rw[F,ho]) Z (e8 r' R' (zbm b7).1 r) q};{rw [a3]at hl;cases hl};{rw [a3]at hl;cases hl};{rw [a3]at hl;cases hl};{rw [(g r R z).1]at U;cases U};{exact(g n R O).2.1};{rw [a3]at O;cases O};{rw [<- H]at G;simp only[qD]at G;subst G;intro n O;simp only[MV.ids,zbD,zS,kE,uN,At.ids,zbl,zbs,jE,qD]at O;subst O;exact c2};{rw [<- H]at hf;simp at hf};{rw [<- H];rfl};{rw [<- H]at G;cases i with|succ i=>simp at G|zero=>simp only[qI,qC]at G L;subst G;have L:B[M]=v:=(by simpa using L);subst L;have Q:=S M _ _ a2 b1;obtain⟨⟨a,a7,f9,_⟩,_⟩:=Q.len;refine⟨⟨a,_,a7,f9⟩,λR z=>?_⟩;obtain⟨_,_,_,h4⟩:=g M R (zbm z).1;rw[a2]at h4;cases h4;refine⟨rfl,?_,λp u hp _=>hp⟩;show (B[M]?).getD undef=B[M];rw[b1];rfl};{rw [<- H];trivial});let b4:St:={st with ro:=(List.range (zy d).length).map (λr=>(r,(⟨.int,[],false,none⟩:Root))),ep:=0}
 have c5:∀r,r<(zy d).length->b4.root r=some ⟨.int,[],false,none⟩:=by intro r Q;have:∀(n k:Nat),k<=r->r<k+n->zn ((List.range' k n).map λr=>(r,(⟨.int,[],false,none⟩:Root))) r=some ⟨.int,[],false,none⟩:=(by intro n;induction n with|zero=>intro k T F;omega|succ n ih=>intro k T F;simp only[vB,jC,zn];by_cases U:k=r;{subst U;simp};{have hb:(k==r)=false:=(by simpa using U);simp only[hb,kL,if_false];exact ih (k+1) (by omega) (by omega)});have F:=this (zy d).length 0 (kA _) (by omega);rw[<- uM]at F;exact ze1 F (.inl rfl)
 obtain⟨e0,e5⟩:=zhf (w:=w) (st:=b4) (E:=E) d B 0 b2 (λi c u hc hu=>by
  have Q:=S i c u hc hu;refine⟨?_,Q.one⟩;cases c with
  |i k n=>exact Q.int_inv
  |b x=>exact Q.bool_inv
  |s t l=>
   obtain⟨⟨a,a7,L,_⟩,_⟩:=Q.len;refine⟨⟨a,_,a7,L⟩,λR z=>?_⟩;have e:0+i=i:=by omega
   show some ((B[0+i]?).getD undef)=some u
   rw[e,hu];rfl)
 have hT:∀a v,(zUj a/\∀n∈a.ids,n<(zy d).length)->VA w b4 E a v->VA w st E (zR6 W a) v:=(by intro a v ⟨f2,d7⟩ L;have c3:∀r,∀i,(r,i)∈W->E.ρ i=E.ρ r:=(by intro r i hi;show (B[i]?).getD undef=(B[r]?).getD undef;rw[(Y r i hi).2.2.1]);rcases f2 with⟨k,n,rfl⟩|⟨b,rfl⟩|⟨r,rfl⟩;{exact L};{exact L};{have Q:r<(zy d).length:=d7 r (by simp[At.ids,zbl]);have e1:=L.2 _ (c5 r Q);simp only[zX,qC] at e1;simp only[zR6];split;{rename_i x q;have G:=uS q;have g2:x.1=r:=kS (by simpa using List.find?_some q);subst g2;refine⟨L.1,λR _=>?_⟩;simp only[zX,qC];rw[c3 x.1 x.2 G];exact e1};{refine⟨L.1,λR _=>?_⟩;simp only[zX,qC];exact e1}});have g5:st.nid=(zy d).length:=by rw[<- H];rfl
 obtain⟨_,a0⟩:=zky hO (zi5 hO (tms:=tms) (N:=N) D) f _ st _ V b0 w S0 _ E #[B[M]] [] w (zbS d B).toArray
  (λv w'=>w'.os=w.os/\w'.tape=w.tape/\w'.output=w.output/\w.heap.size<=w'.heap.size/\
   (∀b,b<w.heap.size->(∀j,j<(zy d).length->zbd own j->¬ K j b)->w'.heap[b]?=w.heap[b]?)/\
   ∃(ys:List Value) (Kr:Nat->zV),zdo true w' (zy V) ys Kr/\v=zjT (zbS V ys)/\
    (∀i x,i<(zy V).length->Kr i x->x<w'.heap.size/\((∃j,j<(zy d).length/\zbd own j/\K j x)\/w.heap.size<=x))/\
    (∀i j x,i<(zy V).length->j<(zy V).length->i≠j->Kr i x->¬ Kr j x)/\
    (∀a4 a5 b3,some (M,jr,js)=some (a4,a5,b3)->∀t l u,(zy d)[a4]?=some (.s t l)->B[a4]?=some u->∃l',(zy V)[a5]?=some (.s t l')/\ys[a5]?=some u/\
     ∀p v,zX w t u p=some v->b3.any (λc=>c.isPrefixOf (cols p))=false->zX w' t u p=some v)) hS (λn O h=>by omega)
  (by simp[e0]) (λi m v G L=>by
   rw[qQ,qQ]at G;cases q:(zcW d 0)[i]? with
   |none=>rw[q]at G;cases G
   |some x=>
    rw[q]at G;cases G;exact z8s hT (λa I=>⟨zwC d 0 x a (qH q) I,λn O=>by
     have:=(zfr d 0 n x a (qH q) I O).2;omega⟩) (e5 i x v q (by simpa using L)))
  (λm G n O=>by
   obtain⟨m0,e7,rfl⟩:=jJ.1 G;obtain⟨x,q,rfl⟩:=jJ.1 e7;obtain⟨a,I,O⟩:=zPI O;simp only[zbD]at I;rcases z2V O with h|⟨r,h⟩
   .have:=(zfr d 0 n x a q I h).2;omega
   .obtain⟨_,_,_,_,t,l,h5⟩:=Y r n h;exact(qA.1 h5).1)
  (λU' g3 E' w' g4 v b8 _ _ _ L _ A=>by
   obtain⟨us,rfl,f7,f8⟩:=zyr L;split at A
   rotate_left
   .cases A
   rename_i n J t' m f5 f3;cases a1:(Nat.beq n m&&(J==js&&decide (t'=kt))) with
   |false=>rw[a1]at A;cases A
   |true=>
   rw[a1]at A;simp only[cond_true]at A;simp only[qE,kU,qJ,jA]at a1;obtain⟨f0,hJ,ht⟩:=a1;subst f0 hJ ht;obtain⟨X,ys,ks,hG,c7,c9,rfl,_,b9⟩:=ziK g4 [] V us A f7 f8;have hM:=b8.mem;have c1:∀i,i<(zy V).length->∃a,X[i]?=some a:=λi hi=>⟨_,qB (by rw[<- hG.len];exact hi)⟩
   have a9:∀i x,cφ E' X i x->∃r∈ks,∃R,X[i]?=some (.sl r [])/\g3.root r=some R/\R.own=true/\E'.φ r x:=by intro i x q;obtain⟨a,I,q⟩:=ztI q;obtain⟨r,Q,rfl,f4⟩:=hG.fi I q;obtain⟨R,z,ho⟩:=hG.own r Q;exact⟨r,Q,R,I,z,ho,f4⟩
   refine⟨hM.os,hM.tape,hM.output,hM.size,λb hb e9=>hM.keep b hb λh=>h.elim (λ⟨j,hj,ho,hk⟩=>e9 j hj ho hk) (λh=>by omega),ys,cφ E' X,⟨by rw[c7,hG.len],λi c x hc q=>?_⟩,rfl,λi x hi q=>?_,λi j x hi hj Z q g0=>?_,λa4 a5 b3 U t l u c0 c6=>?_⟩
   .obtain⟨a,I⟩:=c1 i (qA.1 hc).1;rw[zhG I];exact hG.rep hM I hc (c9 i a x I q)
   .obtain⟨r,Q,R,_,T,F,h4⟩:=a9 i x q;exact⟨hM.rlt r R T x h4,((hM.mine r R T F).2 x h4).elim (λh=>h.imp (λh=>h) λh=>uA h.symm) .inr⟩
   .obtain⟨r,Q,R,g1,T,F,h4⟩:=a9 i x q;obtain⟨r',g8,R',d2,a8,d3,d4⟩:=a9 j x g0;have:=hM.own_apart T F a8 d3 h4 d4;subst this;exact Z (hG.inj i j r g1 d2)
   .cases U;rw[a2]at c0;cases c0;rw[b1]at c6;cases c6;have I:X[jr]?=some (.sl n []):=by rw[b9];exact f3
    rcases hG.get jr _ I with⟨_,_,h,_⟩|⟨_,h,_⟩|⟨r,R,h,z,_,d6⟩
    .cases h
    .cases h
    .cases h;have f6:=b8.tm.2 0 (.v<|.at<|.kp n J t') B[M] (by rw[f5];rfl) (by simp)
     obtain⟨e1,e2,e3⟩:=f6.2 R z;have c8:jr<ys.length:=by rw[c7];exact(qA.1 I).1
     have hy:=qB c8;have e4:=(c9 jr _ _ I hy).2 R z;simp only[zX,qC] at e4;refine⟨e1 ▸ R.l,?_,by rw[hy,<- e4,e2],?_⟩
     .rw [d6];cases e1;rfl
     .rw [hM.κ] at e3;exact e3)
 refine a0.mono ?_;intro ex w' U;cases ex with|returned v=>exact U|panicked d1=>exact U.elim|outgrown=>exact U.elim
end
end
end Go.Proofs.YtapgkefgcbapcaaGreat.E
