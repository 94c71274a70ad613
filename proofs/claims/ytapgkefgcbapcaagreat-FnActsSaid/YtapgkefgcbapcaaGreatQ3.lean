/- What is proved here: a part of the proof of the claim. -/
import Derived.Test.YtapgkefgcbapcaaGreatQ2
import Derived.Orders
import Derived.HandedShaped
import Derived.ProofKit
import Derived.KernelRfl
namespace Go.Proofs.YtapgkefgcbapcaaGreat.E
open Go
set_option linter.defProp false
set_option linter.constructorNameAsVariable false
set_option linter.unusedVariables false
set_option maxRecDepth 100000
set_option linter.unusedSimpArgs false
set_option linter.unusedSectionVars false
noncomputable section
section
variable {C:Cfg} {w0 w w1:World} {S0:zbd} {U:Nat->Prop} {st st1:St} {E E1:Env} {ts:Array Value} {sv:List (Array Value)}
def zdO (ops:Array Oper)(o:Oper)(st:St):Option Bool :=
 match o.guard with
 |none=>some true
 |some (j,a)=>match guardOf st ops j with
  |some .und=>some false
  |some (.v<|.at<|.b x)=>some (x==a)
  |_=>none
def z1s {a:Array Oper}{o:Oper}{d skip:St->Option Ans}{c:Ans}(h:guarded a o st d skip=some c) :
 (zdO a o st=some true/\d st=some c)\/(zdO a o st=some false/\skip (st.put o.dst .und)=some c):=by
 unfold guarded at h;split at h
 .rename_i hg;exact .inl ⟨by simp[zdO,hg],h⟩
 .rename_i j want hg;split at h
  .rename_i hm;exact .inr ⟨by simp[zdO,hg,hm],h⟩
  .rename_i x hm;have i:∃t,zkU a j=some t/\st.tm[t]?=some (.v<|.at<|.b x):=by unfold guardOf at hm;split at hm;{rename_i l e;split at hm;{rename_i t k;exact⟨t,by simp[zkU,e,k],hm⟩};{cases hm}};{cases hm}
   obtain⟨t,g,f⟩:=i;rw[g]at h;cases x<;>cases want<;>simp only [cond_true,cond_false]at h<;>rw [zL3 f]at h
   .exact .inl ⟨by simp[zdO,hg,hm],h⟩
   .exact .inr ⟨by simp[zdO,hg,hm],h⟩
   .exact .inr ⟨by simp[zdO,hg,hm],h⟩
   .exact .inl ⟨by simp[zdO,hg,hm],h⟩
  .cases h
def zFf (p:Sim w0 S0 U st E ts sv w){a:Array Oper}{o:Oper}{b:Bool}(h:zdO a o st=some b):Region.wanted o (yielded a ts)=b:=by unfold zdO at h;split at h;{rename_i hg;cases h;simp[Region.wanted,hg]};{rename_i j q hg;have f:∀{m:MV},guardOf st a j=some m->∃e t v,a[j]?=some e/\e.dst=some t/\ts[t]?=some v/\VM w st E m v:=(by intro m c;unfold guardOf at c;split at c;{rename_i e l;split at c;{rename_i t r;have g:t<ts.size:=(by rw[p.tm.1];exact(qA.1 c).1);exact⟨e,t,ts[t],l,r,by simp[g],p.tm.2 t m _ c (by simp[g])⟩};{cases c}};{cases c});split at h;{rename_i c;cases h;obtain⟨e,t,v,i,k,n,d⟩:=f c;simp only[VM]at d;subst d;have:yielded a ts j=none:=(by simp[yielded,i,k,n,undef]);simp[Region.wanted,hg,this]};{rename_i x c;cases h;obtain⟨e,t,v,i,k,n,d⟩:=f c;simp only[VM,VT,VA]at d;subst d;have s:yielded a ts j=some x:=(by simp[yielded,i,k,n]);simp[Region.wanted,hg,s]};{cases h}}
abbrev Step:=Option Dl
def St.step (st:St)(b:Bool)(o:Oper):Step->St
 |some d=>st.effD b o.dst d
 |none=>st.put o.dst .und
inductive Trace (C:Cfg) (ops:Array Oper) (b:Bool) (base:Nat):Nat->List Step->List (Nat×Foot)->St->St->Prop
 |nil (i:Nat) (st:St):Trace C ops b base i [] [] st st
 |run {i:Nat} {o:Oper} {d:Dl} {ss:List Step} {fs:List (Nat×Foot)} {st st':St} (ho:ops[i]?=some o) (hg:zdO ops o st=some true) (hd:zmF C st o (base+32*i)=some d) (hc:d.c=true)
  (h:Trace C ops b base (i+1) ss fs (st.effD b o.dst d) st'):Trace C ops b base i (some d::ss) ((i,zgz C st ops o d)::fs) st st'
 |skip {i:Nat} {o:Oper} {ss:List Step} {fs:List (Nat×Foot)} {st st':St} (ho:ops[i]?=some o) (hg:zdO ops o st=some false)
  (h:Trace C ops b base (i+1) ss fs (st.put o.dst .und) st'):Trace C ops b base i (none::ss) ((i,zn5 ops o)::fs) st st'
def zuH {ops:Array Oper}{z:List (List Nat)}{b:Bool}{base I:Nat}{k:St->Option Ans}{N:App->St->Option Ans}{M:Nat->St->Option Ans}{t:Ans}:∀(m i:Nat) (G:List (Nat×Foot)) (st:St),zv1 C ops z b base I k N M (List.range' i m) G st=some t->
 (∃ss g a,ss.length=m/\Trace C ops b base i ss g st a/\zoe z (g.reverse++G)=true/\k a=some t)\/
 (∃ss g a o x,ss.length+1=m/\Trace C ops b base i ss g st a/\ops[i+ss.length]?=some o/\ztc C a o=some (true,x)/\b=true/\zz7 ops z I (i+ss.length)=true/\x.dst<a.tm.length/\
  zoe z ((i+ss.length,zgU a ops o zGs)::(g.reverse++G))=true/\N x (a.put o.dst<|.v<|.at .bad)=some t)\/
 (∃ss g a o,ss.length+1=m/\Trace C ops b base i ss g st a/\ops[i+ss.length]?=some o/\zsM o=true/\zz7 ops z I (i+ss.length)=true/\zLx ops z (zoo z I<|i+ss.length) o=true/\
  zoe z (g.reverse++G)=true/\M (i+ss.length) a=some t)
 | 0,i,G,st,h=>by simp only[List.range'_zero,zv1]at h;split at h;{rename_i s;exact .inl ⟨[],[],st,rfl,.nil i st,by simpa using s,h⟩};{cases h}
 |m+1,i,G,st,h=>by
  simp only[u3,zv1]at h;split at h;{cases h}
  .rename_i o ho;have O:=z1s h;clear h;rcases O with⟨hg,h⟩|⟨hg,h⟩
   .split at h
    .rename_i d hd;cases A:d.c with
     |false=>rw[A]at h;cases h
     |true=>rw[A]at h;simp only[cond_true]at h;rcases zuH m (i+1) _ _ h with⟨ss,g,a,n,p,j,q⟩|⟨ss,g,a,F,x,n,p,j,q,u,r,B,w,y⟩|⟨ss,g,a,F,n,p,j,q,u,r,w,y⟩;{exact .inl ⟨some d::ss,(i,zgz C st ops o d)::g,a,by simp[n],.run ho hg hd A p,by simpa using j,q⟩};{have e:i+1+ss.length=i+(some d::ss).length:=(by simp only[qY];omega);rw[e]at j r w;exact .inr (.inl ⟨some d::ss,(i,zgz C st ops o d)::g,a,F,x,by simp[<- n],.run ho hg hd A p,j,q,u,r,B,by simpa using w,y⟩)};{have e:i+1+ss.length=i+(some d::ss).length:=(by simp only[qY];omega);rw[e]at j u r y;exact .inr (.inr ⟨some d::ss,(i,zgz C st ops o d)::g,a,F,by simp[<- n],.run ho hg hd A p,j,q,u,r,by simpa using w,y⟩)}
    {split at h;{rename_i c x l D;split at h;{rename_i f;simp only[qE,jA]at f;obtain⟨⟨⟨P,E⟩,H⟩,s⟩:=f;cases A:c with|false=>rw[A]at h;cases h|true=>rw[A]at h D;simp only[cond_true]at h;have L:m=0:=(by simpa using l);subst L;exact .inr (.inl ⟨[],[],st,o,x,rfl,.nil i st,ho,D,P,E,H,by simpa using s,h⟩)};{cases h}};{rename_i l D;split at h;{rename_i f;simp only[qE]at f;obtain⟨⟨⟨J,E⟩,K⟩,s⟩:=f;have L:m=0:=(by simpa using l);subst L;exact .inr (.inr ⟨[],[],st,o,rfl,.nil i st,ho,J,E,K,by simpa using s,h⟩)};{cases h}};{cases h}}
   {rcases zuH m (i+1) _ _ h with⟨ss,g,a,n,p,j,q⟩|⟨ss,g,a,F,x,n,p,j,q,u,r,B,w,y⟩|⟨ss,g,a,F,n,p,j,q,u,r,w,y⟩;{exact .inl ⟨none::ss,(i,zn5 ops o)::g,a,by simp[n],.skip ho hg p,by simpa using j,q⟩};{have e:i+1+ss.length=i+((none:Step)::ss).length:=(by simp only[qY];omega);rw[e]at j r w;exact .inr (.inl ⟨none::ss,(i,zn5 ops o)::g,a,F,x,by simp[<- n],.skip ho hg p,j,q,u,r,B,by simpa using w,y⟩)};{have e:i+1+ss.length=i+((none:Step)::ss).length:=(by simp only[qY];omega);rw[e]at j u r y;exact .inr (.inr ⟨none::ss,(i,zn5 ops o)::g,a,F,by simp[<- n],.skip ho hg p,j,q,u,r,by simpa using w,y⟩)}}
end
inductive Key where
 |tm (t:Nat)
 |ro (n:Nat)
 |lo (n:Nat)
inductive Item where
 |tm (m:MV)
 |ro (R:Root)
 |lo (l:List At)
def St.get (st:St):Key->Option Item
 |.tm t=>st.tm[t]?.map .tm
 |.ro n=>(zy st.ro n).map .ro
 |.lo n=>(zy st.lo n).map .lo
def wr (o:Oper):Step->Key->Prop
 |_,.tm t=>o.dst=some t
 |none,_=>False
 |some d,.ro n=>n∈d.ro.map (·.1)
 |some d,.lo n=>n∈d.lo.map (·.1)
section
variable {st st':St} {b:Bool} {o:Oper}
def zEJ {a:Type}:∀{l:List (Nat×a)} {n:Nat},n∉l.map (·.1)->zy l n=none
 |[],_,_=>rfl
 |(k,v)::l,n,h=>by simp only[jG,qG,not_or]at h;simp only[zy];rw[if_neg (by simp;exact λe=>h.1 e.symm)];exact zEJ h.2
def zEK {b:Type}:∀{l:List (Nat×b)} {n:Nat},n∈l.map (·.1)->∃v,zy l n=some v
 |[],_,h=>by simp at h
 |(k,v)::l,n,h=>by simp only[zy];split;{exact⟨v,rfl⟩};{rename_i a;simp only[qK]at a;simp only[jG,qG]at h;exact zEK (h.resolve_left λe=>a e.symm)}
def z8m {m:MV}{d:Option Tmp}:(st.put d m).ro=st.ro:=by cases d<;>rfl
def z8l {m:MV}{d:Option Tmp}:(st.put d m).lo=st.lo:=by cases d<;>rfl
def zZX {m:MV}{d:Option Tmp}:(st.put d m).ep=st.ep:=by cases d<;>rfl
def zTj {m:MV}{d:Option Tmp}:(st.put d m).stk=st.stk:=by cases d<;>rfl
def z3y {m:MV}{d:Option Tmp}:(st.put d m).tm.length=st.tm.length:=by cases d<;>simp [St.put]
def z8n {m:MV}{d:Option Tmp}{t:Nat}:(st.put d m).tm[t]?=if d=some t then (if t<st.tm.length then some m else none) else st.tm[t]?:=by cases d with|none=>simp[St.put]|some e=>simp only[St.put,jC,qC];split;{rename_i e;subst e;rfl};{rfl}
def dv:Step->MV
 |some d=>d.v
 |none=>.und
def z3J {s:Step}{t:Nat}:(st.step b o s).tm[t]?=if o.dst=some t then (if t<st.tm.length then some (dv s) else none) else st.tm[t]?:=by cases s with|none=>exact z8n|some d=>exact z8n (st:={st with lo:=d.lo++st.lo,ro:=d.ro.map (λ(x:Nat×Root)=>(x.1,zgQ b x.2))++st.ro})
def zbaI {s:Step}:(st.step b o s).tm.length=st.tm.length:=by cases s with|none=>exact z3y|some d=>exact z3y (st:={st with lo:=d.lo++st.lo,ro:=d.ro.map (λ(x:Nat×Root)=>(x.1,zgQ b x.2))++st.ro})
def zTq {s:Step}:(st.step b o s).ep=st.ep:=by cases s with|none=>exact zZX|some d=>exact zZX (st:={st with lo:=d.lo++st.lo,ro:=d.ro.map (λ(x:Nat×Root)=>(x.1,zgQ b x.2))++st.ro})
def z0z {s:Step}:(st.step b o s).stk=st.stk:=by cases s with|none=>exact zTj|some d=>exact zTj (st:={st with lo:=d.lo++st.lo,ro:=d.ro.map (λ(x:Nat×Root)=>(x.1,zgQ b x.2))++st.ro})
def zbaJ {s:Step}:(st.step b o s).nid=st.nid:=by cases s with|none=>exact zg4|some d=>exact zg4 (st:={st with lo:=d.lo++st.lo,ro:=d.ro.map (λ(x:Nat×Root)=>(x.1,zgQ b x.2))++st.ro})
def dro (b:Bool):Step->List (Nat×Root)
 |some d=>d.ro.map (λ(x:Nat×Root)=>(x.1,zgQ b x.2))
 |none=>[]
def dlo:Step->List (Nat×List At)
 |some d=>d.lo
 |none=>[]
def zTr {s:Step}:(st.step b o s).ro=dro b s++st.ro:=by cases s with|none=>exact z8m|some d=>exact z8m (st:={st with lo:=d.lo++st.lo,ro:=d.ro.map (λ(x:Nat×Root)=>(x.1,zgQ b x.2))++st.ro})
def z3I {s:Step}:(st.step b o s).lo=dlo s++st.lo:=by cases s with|none=>exact z8l|some d=>exact z8l (st:={st with lo:=d.lo++st.lo,ro:=d.ro.map (λ(x:Nat×Root)=>(x.1,zgQ b x.2))++st.ro})
def zbcN {s:Step}{n:Nat}:wr o s (.ro n)↔n∈(dro b s).map (·.1):=by cases s with|none=>simp[wr,dro]|some d=>simp[wr,dro,List.map_map,Function.comp_def]
def zbcM {s:Step}{n:Nat}:wr o s (.lo n)↔n∈(dlo s).map (·.1):=by cases s with|none=>simp[wr,dlo]|some d=>simp[wr,dlo]
def step_other {s:Step}{a:Key}(h:¬ wr o s a):(st.step b o s).get a=st.get a:=by cases a with|tm t=>have c:¬ o.dst=some t:=(by cases s<;>exact h);simp only[St.get,z3J,if_neg c]|ro n=>rw[zbcN (b:=b)]at h;simp only[St.get,zTr,zbM,zEJ h]|lo n=>rw[zbcM]at h;simp only[St.get,z3I,zbM,zEJ h]
def zGe {s:Step}{κ:Key}(h:wr o s κ)(d:st.tm.length=st'.tm.length):(st.step b o s).get κ=(st'.step b o s).get κ:=by cases κ with|tm t=>have c:o.dst=some t:=(by cases s<;>exact h);simp only[St.get,z3J,if_pos c,d]|ro n=>rw[zbcN (b:=b)]at h;obtain⟨v,a⟩:=zEK h;simp only[St.get,zTr,zbM,a]|lo n=>rw[zbcM]at h;obtain⟨v,a⟩:=zEK h;simp only[St.get,z3I,zbM,a]
def z6g {s:Step}{a:Key}(d:st.tm.length=st'.tm.length)(h:st.get a=st'.get a):(st.step b o s).get a=(st'.step b o s).get a:=by by_cases c:wr o s a;{exact zGe c d};{rw [step_other c,step_other c,h]}
def zbz (ops:Array Oper)(b:Bool)(X:Nat->Bool):Nat->List Step->St->St
 |_,[],st=>st
 |i,s::ss,st=>zbz ops b X (i+1) ss (if X i then (match ops[i]? with|some o=>st.step b o s|none=>st) else st)
def one (ops:Array Oper)(b:Bool)(X:Nat->Bool)(i:Nat)(s:Step)(st:St):St:=if X i then (match ops[i]? with|some o=>st.step b o s|none=>st) else st
def zGJ {ops:Array Oper}{X:Nat->Bool}{i:Nat}{s:Step}:(one ops b X i s st).tm.length=st.tm.length:=by unfold one;split;{split;{exact zbaI};{rfl}};{rfl}
def zqB {ops:Array Oper}{X:Nat->Bool}:∀(ss:List Step) (i:Nat) (st:St),(zbz ops b X i ss st).tm.length=st.tm.length
 |[],_,_=>rfl
 |s::ss,i,st=>(zqB ss (i+1) _).trans (zGJ (X:=X) (i:=i) (s:=s))
def zti {ops:Array Oper}{X Y:Nat->Bool}{c:Key}:∀(ss:List Step) (i:Nat) (st st':St),st.tm.length=st'.tm.length->st.get c=st'.get c->
 (∀(k:Nat) (s:Step) (o:Oper),ss[k]?=some s->ops[i+k]?=some o->X (i+k)≠Y (i+k)->¬ wr o s c)->(zbz ops b X i ss st).get c=(zbz ops b Y i ss st').get c
 |[],_,_,_,_,h,_=>h
 |s::ss,i,st,st',g,h,j=>by
  have l:(one ops b X i s st).get c=(one ops b Y i s st').get c:=by unfold one;cases f:ops[i]? with|none=>cases X i<;>cases Y i<;>exact h|some o=>have a:=j 0 s o rfl f;simp only[kA]at a;cases m:X i<;>cases n:Y i<;>rw [m,n]at a;{exact h};{simp only [if_true,kS,if_false];rw[step_other<|a (by simp),h]};{simp only [if_true,kS,if_false];rw[step_other<|a (by simp),h]};{exact z6g g h}
  exact zti ss (i+1) _ _ (((zGJ (b:=b) (ops:=ops) (X:=X) (i:=i) (s:=s) (st:=st)).trans g).trans (zGJ (b:=b) (ops:=ops) (X:=Y) (i:=i) (s:=s) (st:=st')).symm) l (λk r q p f d=>j (k+1) r q (by simpa using p) (by rw[<- f];congr 1;omega) (by
   have e:i+(k+1)=i+1+k:=by omega
   rw[e];exact d))
end
section
variable {st st':St} {b:Bool} {o:Oper}
def zNw {ops:Array Oper}{X:Nat->Bool}{κ:Key}:∀(ss:List Step) (i:Nat) (st:St),
 (∀(k:Nat) (s:Step) (o:Oper),ss[k]?=some s->ops[i+k]?=some o->X (i+k)=true->¬ wr o s κ)->(zbz ops b X i ss st).get κ=st.get κ
 |[],_,_,_=>rfl
 |s::ss,i,st,d=>by
  have f:(one ops b X i s st).get κ=st.get κ:=by unfold one;split;{rename_i a;split;{rename_i o c;exact step_other (d 0 s o rfl c a)};{rfl}};{rfl}
  exact(zNw ss (i+1) _ (λk j h g c a=>d (k+1) j h (by simpa using g) (by rw[<- c];congr 1;omega) (by
   have e:i+(k+1)=i+1+k:=by omega
   rw[e];exact a))).trans f
def zYi {ops:Array Oper}{X:Nat->Bool}{j:Nat}{s:Step}(r:X j=true)(t:ops[j]?=some o){κ:Key}(m:wr o s κ):∀(ss:List Step) (i:Nat) (st:St),i<=j->ss[j-i]?=some s->
 (∀(k:Nat) (c:Step) (u:Oper),ss[k]?=some c->ops[i+k]?=some u->j<i+k->X (i+k)=true->¬ wr u c κ)->(zbz ops b X i ss st).get κ=(st.step b o s).get κ
 |[],i,st,_,h,_=>by simp at h
 |c::ss,i,st,w,h,y=>by have a:∀(k:Nat) (l:Step) (g:Oper),ss[k]?=some l->ops[i+1+k]?=some g->j<i+1+k->X (i+1+k)=true->¬ wr g l κ:=(by intro k l g p f x d;have e:i+(k+1)=i+1+k:=(by omega);exact y (k+1) l g (by simpa using p) (by rw[e];exact f) (by omega) (by rw[e];exact d));by_cases v:i=j;{subst v;simp only[k5,qI,qC]at h;subst h;have n:=zNw (b:=b) (ops:=ops) (X:=X) (κ:=κ) ss (i+1) (one ops b X i c st) (λk l g p f d=>a k l g p f (by omega) d);have q:one ops b X i c st=st.step b o c:=(by simp only[one,r,t,if_true]);rw[q]at n;show (zbz ops b X (i+1) ss<|one ops b X i c st).get κ=_;rw[q];exact n};{have e:j-i=(j-(i+1))+1:=(by omega);rw[e,jS]at h;have n:=zYi r t m ss (i+1) (one ops b X i c st) (by omega) h a;exact n.trans (zGe m zGJ)}
def z7n {e:Array Oper}{X Y:Nat->Bool}{a j:Nat}{s:Step}(q:∀i,Y i=(X i||i==a+j))(r:e[a+j]?=some o){ss:List Step}{st:St}(t:ss[j]?=some s)(v:∀(k:Nat) (n:Step) (m:Oper),ss[k]?=some n->e[a+k]?=some m->j<k->X (a+k)=true->∀g,wr o s g->¬ wr m n g)(g:Key) :
 (zbz e b Y a ss st).get g=((zbz e b X a ss st).step b o s).get g:=by
 by_cases c:wr o s g
 .rw [zYi (X:=Y) (j:=a+j) (s:=s) (by rw[q];simp) r c ss a st (uK _ _) (by rw[Nat.add_sub_cancel_left];exact t) (fun k n m p d u f=>by
   refine v k n m p d (by omega) ?_ g c
   rw[q]at f;have:(a+k==a+j)=false:=by simp;omega
   rw[this,uO]at f;exact f)]
  exact zGe c (zqB ss a st).symm
 .rw [step_other c];refine zti ss a st st rfl rfl (fun k n m p d l=>?_);have:k=j:=by rw[q]at l;by_cases h:k=j;{exact h};{have:(a+k==a+j)=false:=(by simp[h]);simp[this]at l}
  subst this;rw[r]at d;cases d;rw[t]at p;cases p;exact c
end
section
variable {C:Cfg} {w0 w w1:World} {S0:zbd} {U:Nat->Prop} {st st':St} {E E1:Env} {ts:Array Value} {sv:List (Array Value)}
def zND {t:Nat}(h:st'.get (.tm t)=st.get (.tm t)):st'.tm[t]?=st.tm[t]?:=by simp only[St.get]at h;cases a:st'.tm[t]? <;> cases b:st.tm[t]? <;> rw [a,b]at h<;>simp at h;{rw [h]}
def zFd {n:Nat}(h:st'.get (.ro n)=st.get (.ro n)):zy st'.ro n=zy st.ro n:=by simp only[St.get]at h;cases a:zy st'.ro n<;>cases b:zy st.ro n<;>rw [a,b]at h<;>simp at h;{rw [h]}
def zNC {n:Nat}(h:st'.get (.lo n)=st.get (.lo n)):zy st'.lo n=zy st.lo n:=by simp only[St.get]at h;cases a:zy st'.lo n<;>cases b:zy st.lo n<;>rw [a,b]at h<;>simp at h;{rw [h]}
def Sim.fewer (s:Sim w0 S0 U st E ts sv w)(F:∀t:Nat,st'.tm[t]?=st.tm[t]?)(d:∀n,zy st'.lo n=zy st.lo n)(k:st'.stk=st.stk)(a:∀n R,st'.root n=some R->st.root n=some R)(C:∀n R,zy st'.ro n=some R->∃v,zy st.ro n=some v)(B:∀n R e,zy st'.ro n=some R->R.ep=some e->e<=st'.ep):Sim w0 S0 U st' E ts sv w:=by
 have b:=s.mem;have T:Trans st E w st' E w (λ_=>True):=⟨λr _ G h=>⟨G,a r G h,rfl,λ_ _ h=>h⟩,λl _ i h=>⟨⟨i,by rw[<- d];exact h⟩,rfl⟩,rfl⟩
 have g:st'.tm=st.tm:=uH F;refine⟨⟨b.os,b.tape,b.output,b.size,b.keep,λr R h=>b.rep r R (a r R h),λr R h=>b.rlt r R (a r R h),λr R h=>b.mine r R (a r R h),λO r R h=>b.frz O r R (a r R h),
  λr R K v p q z=>b.apart r R K v (a r R p) q (a K v z),λl i M=>?_,λl P i y p q=>b.linj l P i y (by rw[<- d];exact p) (by rw[<- d];exact q),
  λl i r R p q=>b.lro l i r R (by rw[<- d];exact p) (a r R q),B,b.κ⟩,⟨λn R D=>?_,λn i D=>s.ids.lo n i (by rw[<- d];exact D),λm N=>s.ids.tm m (by rw[<- g];exact N),λf L=>s.ids.stk f (by rw[<- k];exact L)⟩,?_,?_⟩
 {obtain⟨p,x,e,q,z,H⟩:=b.loc l i (by rw[<- d];exact M);exact⟨p,x,e,q,z,λj c u I J=>⟨(H j c u I J).1,VA.tr T (λ_ _=>trivial) (H j c u I J).2⟩⟩};{obtain⟨v,A⟩:=C n R D;exact s.ids.ro n v A};{rw [g];exact az.tr T (λ_ _ _ _=>trivial) s.tm};{rw [k];exact Stack.tr T (λ_ _ _ _ _ _=>trivial) s.stk}
def Sim.same (d:Sim w0 S0 U st E ts sv w)(hg:∀f,st'.get f=st.get f)(b:st'.stk=st.stk)(a:st'.ep=st.ep):Sim w0 S0 U st' E ts sv w:=by have c:∀n,zy st'.ro n=zy st.ro n:=λn=>zFd (hg<|.ro n);refine d.fewer (λt=>zND (hg<|.tm t)) (λn=>zNC (hg<|.lo n)) b (λn R h=>?_) (λn R h=>⟨R,by rw[<- c];exact h⟩) (λn R e h g=>by rw[a];exact d.mem.epo n R e (by rw[<- c];exact h) g);simpa only [St.root,c,a] using h
end
section
variable {C:Cfg} {ops:Array Oper} {b:Bool} {base:Nat}
def zZt {s:List Nat}{x:Nat}:zqb s x=true↔x∈s:=by unfold zqb;rw[uJ];constructor;{rintro⟨y,a,h⟩;rw[jY h];exact a};{exact λh=>⟨x,h,Nat.beq_refl x⟩}
def zBM {s:List Nat}:∀{l:List Nat} {x:Nat},x∈addN l s↔x∈l\/x∈s
 |[],x=>by simp[addN]
 |a::l,x=>by
  have c:=λy=>@zBM s l y;show x∈cond (zqb (addN l s) a) (addN l s) (a::addN l s)↔_
  cases h:zqb (addN l s) a with
  |true=>rw[cond_true,c,qG];constructor;{rintro (b|b);{exact .inl (.inr b)};{exact .inr b}};{rintro ((b|b)|b);{rw [b];exact(c a).1 (zZt.1 h)};{exact .inl b};{exact .inr b}}
  |false=>rw[cond_false,qG,c,qG,or_assoc]
def zQC {b:List (List Nat)}:∀{l:List Edge} {e:Edge},e∈l->Region.binds .any e=true->
 e.on∈l.foldr (λe s=>cond (Region.binds .any e) (cond (zqb s e.on) s<|addN (b.getD e.on []) (e.on::s)) s) []
 |a::l,e,c,f=>by rw[List.foldr_cons];generalize h:l.foldr (λe s=>cond (Region.binds .any e) (cond (zqb s e.on) s<|addN (b.getD e.on []) (e.on::s)) s) []=s;have up:∀x,x∈s->x∈cond (Region.binds .any a) (cond (zqb s a.on) s<|addN (b.getD a.on []) (a.on::s)) s:=λx d=>(by cases Region.binds .any a with|false=>exact d|true=>(cases zqb s a.on with|true=>exact d|false=>exact zBM.2 (.inr<|qZ _ d)));rcases qG.1 c with rfl|c;{rw [f,cond_true];cases g:zqb s e.on with|true=>exact zZt.1 g|false=>exact zBM.2 (.inr jJ)};{exact up _ (h ▸ zQC c f)}
def zQD {b:List (List Nat)}:∀{l:List Edge} {j:Nat},j∈l.foldr (λe s=>cond (Region.binds .any e) (cond (zqb s e.on) s<|addN (b.getD e.on []) (e.on::s)) s) []->
 ∃e∈l,Region.binds .any e=true/\(j=e.on\/j∈b.getD e.on [])
 |[],j,h=>by cases h
 |a::l,j,h=>by
  rw[List.foldr_cons]at h;have up:j∈l.foldr (λe s=>cond (Region.binds .any e) (cond (zqb s e.on) s<|addN (b.getD e.on []) (e.on::s)) s) []->∃e∈a::l,Region.binds .any e=true/\(j=e.on\/j∈b.getD e.on []):=λh=>by obtain⟨e,f,g⟩:=zQD h;exact⟨e,qZ _ f,g⟩
  cases c:Region.binds .any a with
  |false=>rw[c]at h;exact up h
  |true=>
   rw[c,cond_true]at h;cases d:zqb (l.foldr (λe s=>cond (Region.binds .any e) (cond (zqb s e.on) s<|addN (b.getD e.on []) (e.on::s)) s) []) a.on with
   |true=>rw[d]at h;exact up h
   |false=>rw[d,cond_false]at h;rcases zBM.1 h with h|h;{exact⟨a,jJ,c,.inr h⟩};{rcases qG.1 h with h|h;{exact⟨a,jJ,c,.inl h⟩};{exact up h}}
def zQK (i:Nat)(r:List Nat)(a:List (List Nat)):zks ops (i::r) a=zks ops r (a++[waits ops a i]):=rfl
def zzO:∀(m:Nat) (a:List (List Nat)),∃l,zks ops (List.range' a.length m) a=a++l/\l.length=m/\
 ∀k,k<m->(a++l)[a.length+k]?=some (waits ops ((a++l).take (a.length+k))<|a.length+k)
 | 0,a=>⟨[],by simp[zks],rfl,λk h=>by omega⟩
 |m+1,a=>by obtain⟨l,c,g,d⟩:=zzO m (a++[waits ops a a.length]);have b:(a++[waits ops a a.length]).length=a.length+1:=(by simp);rw[b]at c d;refine⟨waits ops a a.length::l,?_,by simp[g],λk h=>?_⟩;{rw [u3,zQK,c];simp};{have e:a++waits ops a a.length::l=(a++[waits ops a a.length])++l:=(by simp);cases k with|zero=>rw[kA,qU<|qX _,k5,kU rfl];rfl|succ k=>have f:a.length+(k+1)=a.length+1+k:=(by omega);rw[e,f];exact d k (by omega)}
def z4b {i:Nat}(c:i<ops.size):(zks ops (List.range ops.size) []).getD i []=waits ops ((zks ops (List.range ops.size) []).take i) i:=by obtain⟨l,a,d,b⟩:=zzO (ops:=ops) ops.size [];simp only[k7,jW,kB]at a b;rw[vC,a,kI,b i c];rfl
structure Pinned (n:Nat) (cl:List (List Nat)) (m:Nat):Prop where
 full:∀j,j<m->j∈cl.getD m []
 wait:∀k,m<k->k<n->m∈cl.getD k []
def zy7 {n m:Nat}{a:List (List Nat)}(h:pinned n a m=true):Pinned n a m:=by unfold pinned z7q at h;simp only[qE,qP,kR,jN,jA,List.mem_range']at h;refine⟨h.1,λk b c=>h.2 k ⟨k-(m+1),by omega,by omega⟩⟩
def zui {n m:Nat}{a:List (List Nat)}{p:Bool}{r:List Bool}(h:p::r=(zjP n a).drop m):m<n/\p=pinned n a m/\r=(zjP n a).drop (m+1):=by have b:m<(zjP n a).length:=(by rcases uS m (zjP n a).length with c|c;{exact c};{rw [List.drop_eq_nil_of_le c]at h;cases h});rw[kT b]at h;simp only[List.cons.injEq]at h;refine⟨by simpa [zjP] using b,?_,h.2⟩;rw[h.1];simp[zjP]
def zZT {n m:Nat}{a:List (List Nat)}(h:[]=(zjP n a).drop m):n<=m:=by have:=List.drop_eq_nil_iff.1 h.symm;simpa [zjP] using this
def zUW {n:Nat}{a:List (List Nat)}:∀(r:List Bool) (m:Nat),m<=n->r=(zjP n a).drop m->
 m+zcs r<=n/\r.drop (zcs r)=(zjP n a).drop (m+zcs r)/\(m+zcs r<n->Pinned n a (m+zcs r))
 |[],m,c,h=>by have:=zZT h;refine⟨by simp[zcs];omega,by simpa [zcs] using h,λb=>?_⟩;simp[zcs]at b;omega
 |true::r,m,c,h=>by obtain⟨i,j,_⟩:=zui h;refine⟨by simp[zcs];omega,by simpa [zcs] using h,λ_=>?_⟩;simp only[zcs,kA];exact zy7 j.symm
 |false::r,m,c,h=>by obtain⟨i,_,k⟩:=zui h;obtain⟨d,f,g⟩:=zUW r (m+1) (by omega) k;have e:m+zcs (false::r)=m+1+zcs r:=(by simp only[zcs];omega);rw[e];refine⟨d,?_,g⟩;rw[<- f];rfl
def zxN {X:Nat->Bool}:∀(ss:List Step) (i:Nat) (a:St),(∀k,i<=k->X k=false)->zbz ops b X i ss a=a
 |[],_,_,_=>rfl
 |s::ss,i,a,h=>by simp only[zbz];rw[h i<|qX _];simp only[kS,if_false];exact zxN ss (i+1) a (λk c=>h k (by omega))
def zkT {X Y:Nat->Bool}:∀(ss:List Step) (i:Nat) (a:St),(∀k,i<=k->k<i+ss.length->X k=Y k)->zbz ops b X i ss a=zbz ops b Y i ss a
 |[],_,_,_=>rfl
 |s::ss,i,a,h=>by simp only[zbz];rw[h i (qX _) (by simp)];exact zkT ss (i+1) _ (λk d c=>h k (by omega) (by simp only[qY];omega))
def At1 (C:Cfg)(ops:Array Oper)(base i:Nat)(o:Oper)(S:St)(f:Foot):Step->Prop
 |some d=>zdO ops o S=some true/\zmF C S o (base+32*i)=some d/\d.c=true/\f=zgz C S ops o d
 |none=>zdO ops o S=some false/\f=zn5 ops o
def z02 {i:Nat}{ss:List Step}{m:List (Nat×Foot)}{l c:St}(h:Trace C ops b base i ss m l c):∀(k:Nat) (s:Step),ss[k]?=some s->
 ∃o f,ops[i+k]?=some o/\(i+k,f)∈m/\At1 C ops base (i+k) o (zbz ops b (λj=>decide (j<i+k)) i ss l) f s:=by
 induction h with
 |nil i l=>intro k s a;simp at a
 |run g hg v u h r=>rename_i i o d ss m l c;intro k s a;cases k with|zero=>simp only[qI,qC]at a;subst a;refine⟨o,_,g,jJ,?_⟩;rw[zxN _ _ _ (λk w=>by simp;omega)];exact⟨hg,v,u,rfl⟩|succ k=>obtain⟨t,f,n,p,q⟩:=r k s (by simpa using a);have e:i+(k+1)=i+1+k:=(by omega);refine⟨t,f,by rw[e];exact n,by rw[e];exact qZ _ p,?_⟩;rw[e];simp only[zbz,g];rw[if_pos (by simp;omega)];exact q
 |skip g hg h r=>rename_i i o ss m l c;intro k s a;cases k with|zero=>simp only[qI,qC]at a;subst a;refine⟨o,_,g,jJ,?_⟩;rw[zxN _ _ _ (λk w=>by simp;omega)];exact⟨hg,rfl⟩|succ k=>obtain⟨t,f,n,p,q⟩:=r k s (by simpa using a);have e:i+(k+1)=i+1+k:=(by omega);refine⟨t,f,by rw[e];exact n,by rw[e];exact qZ _ p,?_⟩;rw[e];simp only[zbz,g];rw[if_pos (by simp;omega)];exact q
def zGk {i:Nat}{ss:List Step}{f:List (Nat×Foot)}{e a:St}(h:Trace C ops b base i ss f e a):a=zbz ops b (λ_=>true) i ss e:=by induction h with|nil i e=>rfl|run c hg j g h d=>simp only[zbz,c,if_true];exact d|skip c hg h d=>simp only[zbz,c,if_true];exact d
def z7T {X:Nat->Bool}{i:Nat}{s:Step}{a:St}:(one ops b X i s a).ep=a.ep:=by unfold one;split;{split;{exact zTq};{rfl}};{rfl}
def zbdH {X:Nat->Bool}{i:Nat}{s:Step}{a:St}:(one ops b X i s a).stk=a.stk:=by unfold one;split;{split;{exact z0z};{rfl}};{rfl}
def zbdG {X:Nat->Bool}{i:Nat}{s:Step}{a:St}:(one ops b X i s a).nid=a.nid:=by unfold one;split;{split;{exact zbaJ};{rfl}};{rfl}
def zhr {X:Nat->Bool}:∀(ss:List Step) (i:Nat) (a:St),(zbz ops b X i ss a).ep=a.ep
 |[],_,_=>rfl
 |s::ss,i,a=>(zhr ss (i+1) _).trans (z7T (X:=X) (i:=i) (s:=s))
def znA {X:Nat->Bool}:∀(ss:List Step) (i:Nat) (a:St),(zbz ops b X i ss a).stk=a.stk
 |[],_,_=>rfl
 |s::ss,i,a=>(znA ss (i+1) _).trans (zbdH (X:=X) (i:=i) (s:=s))
def zxM {X:Nat->Bool}:∀(ss:List Step) (i:Nat) (a:St),(zbz ops b X i ss a).nid=a.nid
 |[],_,_=>rfl
 |s::ss,i,a=>(zxM ss (i+1) _).trans (zbdG (X:=X) (i:=i) (s:=s))
def Dead (a:St):Prop:=∀n R e,zy a.ro n=some R->R.ep=some e->e<a.ep
def z8M {o:Oper}{s:Step}{c:St}(h:Dead c)(m:0<c.ep):Dead (c.step true o s):=by
 intro n R e b a;rw[zTq];rw[zTr,zbM]at b;split at b
 .rename_i x hx;cases b;cases s with
  |none=>cases hx
  |some d=>
   have g:=zp6 hx;simp only[dro,jH]at g;obtain⟨⟨k,i⟩,_,f⟩:=g;simp only[jT]at f;obtain⟨_,rfl⟩:=f;unfold zgQ at a;split at a;{simp only [qC]at a;omega}
   .rename_i hne;exact absurd a (by
     cases l:i.ep with
     |none=>simp
     |some j=>exact absurd l (hne j rfl))
 {exact h n R e b a}
def zBr {X:Nat->Bool}:∀(ss:List Step) (i:Nat) (a:St),Dead a->0<a.ep->Dead (zbz ops true X i ss a)
 |[],_,_,h,_=>h
 |s::ss,i,a,h,b=>by refine zBr (X:=X) ss (i+1) (one ops true X i s a) ?_ (by rw[z7T];exact b);unfold one;split;{split;{exact z8M h b};{exact h}};{exact h}
end
section
variable {C:Cfg} {ops:Array Oper} {b:Bool} {base:Nat}
def Foot.reads (f:Foot):Key->Prop
 |.tm t=>t∈f.tm
 |.ro n=>n∈f.ro
 |.lo n=>n∈f.lo
def Foot.writes (f:Foot):Key->Prop
 |.tm t=>f.dst=some t
 |.ro n=>n∈f.wro
 |.lo n=>n∈f.wlo
def ztd {a c:List Nat}(h:zEN a c=true):∀x∈a,x∉c:=by intro x b;have:=qP.1 h x b;simpa using this
def apart_spec {x y:Foot}(h:x.apart y=true):(∀a,x.writes a->¬ y.reads a/\¬ y.writes a)/\(∀a,y.writes a->¬ x.reads a):=by unfold Foot.apart at h;simp only[qE]at h;obtain⟨⟨⟨⟨⟨c,d⟩,e⟩,f⟩,g⟩,i⟩:=h;refine⟨λa b=>?_,λa b=>?_⟩;{cases a with|tm t=>simp only[Foot.writes]at b;rw[b]at c;simp only[qE,jE,beq_eq_false_iff_ne,jN,decide_eq_false_iff_not]at c;exact⟨c.1,c.2⟩|ro n=>have:=ztd e n b;simp only[jK,not_or] at this;exact this|lo n=>have:=ztd g n b;simp only[jK,not_or] at this;exact this};{cases a with|tm t=>simp only[Foot.writes]at b;rw[b]at d;simpa [Foot.reads] using d|ro n=>exact ztd f n b|lo n=>exact ztd i n b}
def zEO {i:Nat}{o:Oper}{S:St}{f:Foot}{s:Step}(h:At1 C ops base i o S f s)(a:Key):wr o s a↔f.writes a:=by cases s with|none=>obtain⟨_,rfl⟩:=h;cases a<;>simp [wr,Foot.writes,zn5]|some d=>obtain⟨_,_,_,rfl⟩:=h;cases a<;>simp [wr,Foot.writes,zgz,zgU]
def Does (C:Cfg)(ops:Array Oper)(base i:Nat)(o:Oper)(S:St):Step->Prop
 |some d=>zdO ops o S=some true/\zmF C S o (base+32*i)=some d/\d.c=true
 |none=>zdO ops o S=some false
def zzV {o:Oper}{S a:St}(h:∀t∈zzW ops o,a.tm[t]?=S.tm[t]?):zdO ops o a=zdO ops o S:=by unfold zdO;cases hg:o.guard with|none=>rfl|some f=>obtain⟨j,b⟩:=f;simp only;have e:guardOf a ops j=guardOf S ops j:=(by unfold guardOf;cases d:ops[j]? with|none=>rfl|some g =>simp only;(cases c:g.dst with|none=>rfl|some t=>simp only;exact h t (by simp[zzW,hg,zkU,d,c])));rw[e]
def z5w {S a:St}(b:a.ep=S.ep){n:Nat}(c:zy a.ro n=zy S.ro n):a.root n=S.root n:=by unfold St.root;rw[c,b]
def zUo {S d:St}(c:d.ep=S.ep):∀(own:List Bool) (cells:List At),(∀a∈cells,∀n∈zby a,zy d.ro n=zy S.ro n)->d.blk own cells=S.blk own cells
 |[],[],_=>rfl
 |[],_::_,_=>rfl
 |_::_,[],_=>rfl
 |o::ms,a::r,h=>by have g:=zUo c ms r λb f=>h b (qZ _ f);have e:=h a jJ;simp only[St.blk];rw[g];cases a with|sl q p=>(cases p with|nil=>simp only[z5w c<|e q (by simp[zby])]|cons x p=>rfl)|_=>rfl
def zFA {S c:St}(a:c.ep=S.ep):∀(b:List Nat),(∀k∈b,zy c.ro k=zy S.ro k)->killed c b=killed S b
 |[],_=>rfl
 |k::b,h=>by simp only[killed];rw[h k jJ,zFA a b λj d=>h j (qZ _ d),a]
def zJ3 {c:Type}{p q:c->Bool}:∀{l:List c},(∀a∈l,p a=q a)->l.all p=l.all q
 |[],_=>rfl
 |a::l,h=>by rw[k9,k9,h a jJ,zJ3 λb d=>h b (qZ _ d)]
def z6t {S c:St}{L:List Operand}(h:Agree S c L){b:List Nat}{x:Operand}(f:x∈L){m:MV}(d:S.opnd x=some m):c.avF b m=S.avF b m:=by unfold St.avF;have e:zGr c b m=zGr S b m:=(by unfold zGr;refine zJ3 λa g=>zJ3 λr i=>?_;rw[h.rootN<|(h.id x f m d a g).1 r i]);rw[e,h.avOf f d]
def zZS {S d:St}{o:Oper}{id:Nat}(h:Agree S d (callArgs o))(q:∀x∈callArgs o,∀l p,S.at x=some (.lp l p)->∀cells,zy S.lo l=some cells->∀a∈cells,∀n∈zby a,zy d.ro n=zy S.ro n):znL C d o id=znL C S o id:=by unfold znL;cases zmh C o with|none=>rfl|some y=>obtain⟨own,E⟩:=y;simp only;(cases z:callArgs o with|nil=>rfl|cons x t=>rw[z]at h q;simp only[zTi];have f:d.at x=S.at x:=h.at jJ;rw[f];split;{rename_i l r;have i:zy d.lo l=zy S.lo l:=h.loc (zeU jJ r);rw[i];split;{rename_i cells c;have b:=q x jJ l 0 r cells c;rw[zUo h.ep own cells b];split;{rename_i u e w;have B:=zXM own cells u e w;have g:killed d e=killed S e:=zFA h.ep e λk g=>(by obtain⟨j,_,A⟩:=B.ownk k g;exact b _ (qJ A) k (by simp[zby]));have v:zcR (zXJ d e) t=zcR (zXJ S e) t:=(by refine znH λy s=>?_;unfold zXJ;rw[h.op y<|qZ _ s];cases D:S.opnd y with|none=>rfl|some m=>exact z6t h (qZ _ s) D);rw[v,g]};{rfl}};{rfl}};{rfl})
def zyZ {o:Oper}:∀x∈callArgs o,x∈o.op.operands.toList:=by
 intro x a;unfold callArgs at a;split at a
 .rename_i c hc;rw[hc];simp only[Op.operands,Call.operands];simp
  first
   |exact .inr (by simpa using a)
   |exact .inl (by simpa using a)
   |simp_all
 {cases a}
def zXK {i:Nat}{o:Oper}{S S':St}{f:Foot}{s:Step}(h:At1 C ops base i o S f s)(A:S'.ep=S.ep)(w:∀k,f.reads k->S'.get k=S.get k):Does C ops base i o S' s:=by
 cases s with
 |none=>obtain⟨E,rfl⟩:=h;show zdO ops o S'=some false;rw[zzV (S:=S) λt z=>zND (w (.tm t) (by simpa [Foot.reads,zn5] using z))];exact E
 |some d=>
  obtain⟨E,M,N,rfl⟩:=h;have B:∀t,t∈zjO o++zzW ops o->S'.tm[t]?=S.tm[t]?:=λt z=>zND (w (.tm t) z);have v:∀x∈o.op.operands.toList,S'.opnd x=S.opnd x:=(by intro x c;cases x with|tmp t=>have z:t∈zjO o:=(by unfold zjO;exact uF.2 ⟨_,c,rfl⟩);simp only[St.opnd,B t<|j9 _ z]|_=>rfl);refine⟨?_,?_,N⟩;{rw [zzV (S:=S) λt z=>B t (kK _ z)];exact E}
  .rw [<- M];cases b:zya o with
   |true=>unfold zya at b;split at b;{rename_i t g;have e:=v (.tmp t) (by rw[g];simp[Op.operands]);have L:z0 C S' o (base+32*i)=z0 C S o (base+32*i):=(by simp only[z0,g,e]);have H:zmh C o=none:=(by unfold zmh;rw[g]);unfold zmF;rw[L];cases z0 C S o (base+32*i) with|some K=>rfl|none=>simp only[znL,H]};{cases b}
   |false=>
   have w:∀k,(zgU S ops o d).reads k\/(∃n,k = .ro n/\n∈(zgU S ops o d).ro++cond (zmh C o).isSome (zE5 S o) [])->S'.get k=S.get k:=(by intro k j;refine w k ?_;rcases j with j|⟨n,rfl,u⟩;{cases k with|tm t=>exact j|ro n=>show n∈(zgz C S ops o d).ro;unfold zgz;rw[b];exact j9 _ j|lo n=>show n∈(zgz C S ops o d).lo;unfold zgz;rw[b];exact j};{show n∈(zgz C S ops o d).ro;unfold zgz;rw[b];exact u});have F:∀x∈o.op.operands.toList,∀m,S.opnd x=some m->∀a∈zbL m,a∈zvA S o:=λx c m r a q=>(by unfold zvA;exact qR.2 ⟨m,uF.2 ⟨x,c,r⟩,q⟩);have I:Agree S S' o.op.operands.toList:=⟨A,v,λx c m r a q=>⟨λn u=>zFd (w (.ro n)<|.inl<|qR.2 ⟨a,F x c m r a q,u⟩),λn u=>zNC (w (.lo n)<|.inl<|qR.2 ⟨a,F x c m r a q,u⟩)⟩⟩;unfold zmF;rw[z1l I];cases O:z0 C S o (base+32*i) with|some K=>rfl|none=>simp only;(cases J:zmh C o with|none=>simp only[znL,J]|some y=>refine zZS ⟨A,λx c=>v x (zyZ x c),λx c m r a q=>I.id x (zyZ x c) m r a q⟩ λx c l D P cells p a q n u=>?_;refine zFd (w (.ro n)<|.inr ⟨n,rfl,?_⟩);show n∈(zgU S ops o d).ro++cond (zmh C o).isSome (zE5 S o) [];rw[J];refine kK _ ?_;show n∈zE5 S o;unfold zE5;refine qR.2 ⟨.lp l D,?_,?_⟩;{obtain⟨m,r,G⟩:∃m,S.opnd x=some m/\At.lp l D∈zbL m:=⟨_,zQI P,by simp[zbL,zZ]⟩;exact F x (zyZ x c) m r _ G};{simp only [p];exact qR.2 ⟨a,q,u⟩})
structure Free (C:Cfg) (ops:Array Oper) (cl:List (List Nat)) (b:Bool) (base a:Nat) (ss:List Step) (st0:St):Prop where
 at1:∀i s,ss[i]?=some s->∃o f,ops[a+i]?=some o/\At1 C ops base (a+i) o (zbz ops b (fun j=>decide (j<a+i)) a ss st0) f s
 apart:∀i k s s' o o' f f',ss[i]?=some s->ss[k]?=some s'->ops[a+i]?=some o->ops[a+k]?=some o'->At1 C ops base (a+i) o (zbz ops b (fun j=>decide (j<a+i)) a ss st0) f s->
  At1 C ops base (a+k) o' (zbz ops b (fun j=>decide (j<a+k)) a ss st0) f' s'->i<k->a+i∉cl.getD (a+k) []->f.apart f'=true
def zkc (a:List (List Nat))(X:Nat->Bool):Prop:=∀k,X k=true->∀j∈a.getD k [],X j=true
variable {cl:List (List Nat)} {ss:List Step} {st0:St} {a:Nat}
def zJ5 {i:Nat}{o:Oper}{S:St}{f a:Foot}{s:Step}(h:At1 C ops base i o S f s)(b:At1 C ops base i o S a s):f=a:=by cases s with|none=>rw[h.2,b.2]|some d=>rw[h.2.2.2,b.2.2.2]
def zNB (F:Free C ops cl b base a ss st0){X:Nat->Bool}(D:zkc cl X){i:Nat}{s:Step}(y:ss[i]?=some s)(d:X (a+i)=false)(E:∀j∈cl.getD (a+i) [],X j=true) :
 ∃o f,ops[a+i]?=some o/\At1 C ops base (a+i) o (zbz ops b (λj=>decide (j<a+i)) a ss st0) f s/\∀m,f.reads m->(zbz ops b X a ss st0).get m=(zbz ops b (λj=>decide (j<a+i)) a ss st0).get m:=by
 obtain⟨o,f,x,r⟩:=F.at1 i s y;refine⟨o,f,x,r,λm q=>?_⟩;refine zti ss a st0 st0 rfl rfl (λk z B u l g G=>?_);obtain⟨H,A,n,t⟩:=F.at1 k z u;rw[l]at n;cases n;have p:=(zEO t m).1 G
 by_cases v:k<i
 .have hXk:X (a+k)=false:=by have c:a+k<a+i:=(by omega);simp only[c,decide_true]at g;simpa using g
  have w:a+k∉cl.getD (a+i) []:=λh=>by rw[E (a+k) h]at hXk;cases hXk
  exact((apart_spec<|F.apart k i z s B o A f u y l x t r v w).1 m p).1 q
 .have hXk:X (a+k)=true:=by have c:¬ (a+k<a+i):=(by omega);simp only[c,decide_false]at g;simpa using g
  have c:i<k:=by have:i≠k:=λe=>(by rw[e,hXk]at d;cases d);omega
  have w:a+i∉cl.getD (a+k) []:=λh=>by rw[D (a+k) hXk (a+i) h]at d;cases d
  exact(apart_spec<|F.apart i k s z o B f A y u x l r t c w).2 m p q
def zUE (F:Free C ops cl b base a ss st0){X:Nat->Bool}(g:zkc cl X){i:Nat}{s:Step}(l:ss[i]?=some s)(c:X (a+i)=false)(k:∀j∈cl.getD (a+i) [],X j=true) :
 ∃o,ops[a+i]?=some o/\Does C ops base (a+i) o (zbz ops b X a ss st0) s:=by
 obtain⟨o,f,h,d,e⟩:=zNB F g l c k;exact⟨o,h,zXK d (by rw[zhr,zhr]) e⟩
def zKs (F:Free C ops cl b base a ss st0){X Y:Nat->Bool}(x:zkc cl X){i:Nat}{s:Step}{o:Oper}(p:ss[i]?=some s)(n:ops[a+i]?=some o)(d:X (a+i)=false)(y:∀k,Y k=(X k||k==a+i))(c:Key) :
 (zbz ops b Y a ss st0).get c=((zbz ops b X a ss st0).step b o s).get c:=by
 refine z7n y n p (λk v B u e m l c A q=>?_) c;obtain⟨D,f,g,r⟩:=F.at1 i s p;rw[n]at g;cases g;obtain⟨E,w,j,t⟩:=F.at1 k v u;rw[e]at j;cases j;have z:a+i∉cl.getD (a+k) []:=λh=>by rw[x (a+k) l (a+i) h]at d;cases d
 exact((apart_spec<|F.apart i k s v o B f w p u n e r t m z).1 c ((zEO r c).1 A)).2 ((zEO t c).1 q)
def z4u {l:St}{o:Oper}{id i:Nat}{d:Dl}(j:ops[i]?=some o)(h:z0 C l o id=some d)(a:zS8 ops i=false)(g:(zxQ C&&zYq o)=false):d.bump=false:=by
 simp only[zS8,j]at a;cases b:o.op<;>simp only [b]at a<;>simp only [z0,b]at h;(case store=>cases a);case buildSlice=>cases a
 case call c=>
  split at h
  case h_4 e=>rw[e]at a;cases a
  all_goals (repeat' (first|split at h|cases h))
  all_goals rfl
 case slice T x lo hi mx=>
  cases mx with
  |some m=>simp at h
  |none=>
   cases lo with
   |none=>
    cases hi with
    |none=>(repeat' (first|contradiction|split at h|cases h));all_goals (first|rfl|contradiction|(exfalso;simp_all))
    |some f =>have e:zxQ C=false:=(by simp only[zYq,b,vH]at g;exact g);(repeat' (first|contradiction|split at h|cases h));all_goals (first|(unfold zKp;split<;>first|rfl|(cases zwQ C<;>first|rfl|(rw [e];rfl)))|rfl|contradiction|(exfalso;simp_all))
   |some k =>
    cases hi with
    |none=>cases a
    |some f =>(repeat' (first|contradiction|split at h|cases h));all_goals (first|rfl|contradiction|(exfalso;simp_all))
 case binOp=>
  simp only[zE7]at h
  repeat' (first|split at h|cases h)
  all_goals rfl
 (all_goals (repeat' (first|contradiction|split at h|cases h)));all_goals (first|rfl|contradiction)
def z1k {f:St}{o:Oper}{id i:Nat}{d:Dl}(e:ops[i]?=some o)(h:zmF C f o id=some d)(b:zmg C ops i=false):d.bump=false:=by unfold zmg at b;rw[vD]at b;unfold zmF at h;cases c:z0 C f o id with|some j =>rw[c]at h;cases h;have a:=b.2;rw[e]at a;have a:((zmh C o).isSome||(zxQ C&&zYq o))=false:=a;rw[vD]at a;exact z4u e c b.1 a.2|none=>rw[c]at h;exfalso;have a:=b.2;rw[e]at a;have a:((zmh C o).isSome||(zxQ C&&zYq o))=false:=a;rw[vD]at a;have a:=a.1;have h:znL C f o id=some d:=h;unfold znL at h;(cases g:zmh C o with|none=>rw[g]at h;cases h|some y=>rw[g]at a;cases a)
end
section
variable {C:Cfg} {w0 w w1:World} {S0:zbd} {U:Nat->Prop} {st st1:St} {E E1:Env} {ts:Array Value} {sv:List (Array Value)}
variable {ops:Array Oper} {b:Bool} {base:Nat} {cl:List (List Nat)} {ss:List Step} {st0:St}
def z4t {R a:Root}(h:zgQ b R=a)(c:a.ep=none):R=a:=by unfold zgQ at h;split at h;{subst h;cases c};{exact h}
def z7M {l:List (Nat×Root)}{n:Nat}{R:Root}(h:zy (l.map λ(x:Nat×Root)=>(x.1,zgQ b x.2)) n=some R):∃d,zy l n=some d/\zgQ b d=R:=by induction l with|nil=>cases h|cons a l e=>obtain⟨k,v⟩:=a;simp only[jG,zy]at h ⊢;split at h;{cases h;rename_i c;rw[if_pos c];exact⟨v,rfl,rfl⟩};{rename_i c;rw[if_neg c];exact e h}
def z5g {l:List (Nat×Root)}{n:Nat}(h:zy (l.map λ(x:Nat×Root)=>(x.1,zgQ b x.2)) n=none):zy l n=none:=by induction l with|nil=>rfl|cons a l d=>obtain⟨k,v⟩:=a;simp only[jG,zy]at h ⊢;split at h;{cases h};{rename_i c;rw[if_neg c];exact d h}
def z3W {o:Oper}{d:Dl}(J:b=false->d.bump=false)(K:b=true->Dead st/\0<st.ep)(y:Sim w0 S0 U (st.apply o.dst d) E ts sv w):Sim w0 S0 U (st.effD b o.dst d) E ts sv w:=by
 have A:∀t:Nat,(st.effD b o.dst d).tm[t]?=(st.apply o.dst d).tm[t]?:=λt=>(by unfold St.effD St.apply;cases o.dst<;>rfl);have B:(st.effD b o.dst d).lo=(st.apply o.dst d).lo:=(by unfold St.effD St.apply;cases o.dst<;>rfl);have C:(st.effD b o.dst d).stk=(st.apply o.dst d).stk:=(by unfold St.effD St.apply;cases o.dst<;>rfl);have D:(st.effD b o.dst d).ro=d.ro.map (λ(x:Nat×Root)=>(x.1,zgQ b x.2))++st.ro:=(by unfold St.effD;cases o.dst<;>rfl);have F:(st.apply o.dst d).ro=d.ro++st.ro:=(by unfold St.apply;cases o.dst<;>rfl);have v:(st.effD b o.dst d).ep=st.ep:=by unfold St.effD;cases o.dst<;>rfl
 have I:(st.apply o.dst d).ep=if d.bump then st.ep+1 else st.ep:=by
  unfold St.apply;cases o.dst<;>rfl
 cases b with
 |false=>have L:d.bump=false:=J rfl;have p:d.ro.map (λ(x:Nat×Root)=>(x.1,zgQ false x.2))=d.ro:=(by have:(λ(x:Nat×Root)=>(x.1,zgQ false x.2))=id:=(by funext x;rfl);rw[this,List.map_id]);have j:(st.effD false o.dst d).ro=(st.apply o.dst d).ro:=(by rw[D,F,p]);have m:(st.effD false o.dst d).ep=(st.apply o.dst d).ep:=(by rw[v,I,L];rfl);exact y.fewer A (λn=>by rw[B]) C (λn R h=>by simpa only [St.root,j,m] using h) (λn R h=>⟨R,by rw[<- j];exact h⟩) (λn R e h s=>by rw[m];exact y.mem.epo n R e (by rw[<- j];exact h) s)
 |true=>obtain⟨l,M⟩:=K rfl;have f:∀n R,zy (st.effD true o.dst d).ro n=some R->∃a,zy (st.apply o.dst d).ro n=some a/\(zgQ true a=R\/(a=R/\zy st.ro n=some R)):=(by intro n R h;rw[D,zbM]at h;rw[F,zbM];split at h;{rename_i x z;cases h;obtain⟨a,r,c⟩:=z7M z;exact⟨a,by rw[r],.inl c⟩};{rename_i z;rw[z5g z];exact⟨R,h,.inr ⟨rfl,h⟩⟩});have g:∀a:Root,(zgQ true a).ep=none\/(zgQ true a).ep=some 0:=(by intro a;cases H:a.ep with|none=>left;simp[zgQ,H]|some e=>right;simp[zgQ,H]);have q:∀n R,(st.effD true o.dst d).root n=some R->R.ep=none/\zy (st.effD true o.dst d).ro n=some R:=(by intro n R h;obtain⟨G,i⟩:=zbD h;refine⟨?_,G⟩;rcases i with i|i;{exact i};{exfalso;rw[v]at i;obtain⟨a,_,c⟩:=f n R G;rcases c with c|⟨_,c⟩;{have:=g a;rw[c,i] at this;rcases this with h|h;{cases h};{simp only [qC]at h;omega}};{have:=l n R _ c i;omega}});refine y.fewer A (λn=>by rw[B]) C (λn R h=>?_) (λn R h=>?_) (λn R e h s=>?_);{obtain⟨r,c⟩:=q n R h;obtain⟨a,u,k⟩:=f n R c;have e:a=R:=(by rcases k with k|⟨k,_⟩;{exact z4t k r};{exact k});subst e;unfold St.root;rw[u];simp only[r]};{obtain⟨a,u,_⟩:=f n R h;exact⟨a,u⟩};{rw [v];obtain⟨a,_,c⟩:=f n R h;rcases c with c|⟨_,c⟩;{have:=g a;rw[c,s] at this;rcases this with h|h;{cases h};{simp only [qC]at h;omega}};{have:=l n R e c s;omega}}
def UX (U:Nat->Prop)(base a T:Nat)(X:Nat->Bool)(n:Nat):Prop:=U n\/∃i,a<=i/\i<T/\X i=true/\Mine (base+32*i) n
def Sim.uses {e:Nat->Prop}(h:Sim w0 S0 U st E ts sv w)(c:∀n,U n->e n):Sim w0 S0 e st E ts sv w :=
 ⟨h.mem,⟨λn R b=>c n (h.ids.ro n R b),λn g b=>⟨c n (h.ids.lo n g b).1,λa i m d=>c m ((h.ids.lo n g b).2 a i m d)⟩,λm d n b=>c n (h.ids.tm m d n b),λf j m d n b=>c n (h.ids.stk f j m d n b)⟩,h.tm,h.stk⟩
def zYd (u:CfgOk C)(y:CtrOk C)(x:GraftOk C)(r:Sim w0 S0 U st E ts sv w){o:Oper}{id:Nat}(g:∀n,Mine id n->¬ U n){d:Dl}(h:zmF C st o id=some d)(s:d.c=true):Goes C w0 S0 U st ts sv w o id (λst=>st.apply o.dst d):=by unfold zmF at h;cases l:z0 C st o id with|some A =>rw[l]at h;cases h;exact zI8 u y r g l s|none=>rw[l]at h;have e:∃a,zGL C st o id=some (d.c,a,d.v)/\a.put o.dst d.v=st.apply o.dst d:=(by simp only[znL]at h;unfold zmh callArgs at h;unfold zGL;split at h;{rename_i own z i;split at i;{rename_i c t;split at i;{rename_i f b;have j:zQJ o=f:=(by simp only[zQJ,t,b]);rw[j]at h;simp only[t,b,i]at h ⊢;generalize c.args.toList=m at h ⊢;unfold zTi at h;unfold zZE;split at h;{split at h;{split at h;{split at h;{split at h;{split at h;{split at h;{split at h;{rename_i p _ _ q _ _ _ B _ _ D _ _ _ _ F _ _ G H;cases h;simp only[*];refine⟨_,rfl,?_⟩;unfold St.apply;simp[kJ]};{cases h}};{cases h}};{cases h}};{cases h}};{cases h}};{cases h}};{cases h}};{cases h}};{cases i}};{cases i}};{cases h});obtain⟨a,p,q⟩:=e;have k:=(x.pok w0 w S0 U st E ts sv o id d.c a d.v r g p s).1;rw[q] at k;exact k
def zFc (S:CfgOk C)(W:CtrOk C)(V:GraftOk C){a T:Nat}(hT:a+ss.length=T)(F:Free C ops cl b base a ss st0){X Y:Nat->Bool}(M:zkc cl X){i:Nat}(q:a<=i)(I:i<T)(l:X i=false)(hr:∀j∈cl.getD i [],X j=true)(hb:b=false->∀k,a<=k->k<T->zmg C ops k=false)(H:b=true->Dead st0/\0<st0.ep)(hM:∀k,a<=k->k<T->∀n,Mine (base+32*k) n->¬ U n)(G:∀k,Y k=(X k||k==i))(y:Sim w0 S0 (UX U base a T X) (zbz ops b X a ss st0) E ts sv w){Q:Exit->Act->World->Prop}{K:Act->World->Prop}(Z:∀(r:Env) (c:LV) (g:World),Sim w0 S0 (UX U base a T Y) (zbz ops b Y a ss st0) r c sv g->K {tmps:=c,defers:=[]} g) :
 wpOp C.P ops Q i K {tmps:=ts,defers:=[]} w:=by
 obtain⟨j,rfl⟩:∃j,i=a+j:=⟨i-a,by omega⟩
 obtain⟨s,N⟩:∃s,ss[j]?=some s:=⟨_,qB (by omega)⟩
 obtain⟨o,J,x⟩:=zUE F M N l hr;have f:∀n,UX U base a T X n->UX U base a T Y n:=by rintro n (h|⟨k,R,A,t,B⟩);{exact .inl h};{exact .inr ⟨k,R,A,by rw[G,t];rfl,B⟩}
 have u:∀{r:Env} {c:LV} {g:World},Sim w0 S0 (UX U base a T Y) ((zbz ops b X a ss st0).step b o s) r c sv g->K {tmps:=c,defers:=[]} g:=by intro r c g h;refine Z r c g (h.same (λκ=>zKs F M N J l G κ) ?_ ?_);{rw [znA,z0z,znA]};{rw [zhr,zTq,zhr]}
 unfold wpOp;simp only[J];cases s with
 |none=>rw[if_neg (by simp[zFf y x])];have t:=y.putV (dst:=o.dst) (m:=.und) (v:=undef) rfl (λn z=>by simp[MV.ids,zbL]at z);rw[zkd];exact u (t.uses f)
 |some d=>obtain⟨A,t,B⟩:=x;rw[if_pos<|zFf y A];refine .inl (zYd S W V y (id:=base+32*(a+j)) ?_ t B _ _ λr v g D=>?_);{rintro n z (h|⟨k,_,g1,L,O⟩);{exact hM (a+j) q I n z h};{refine z3m (i:=k) (j:=a+j) (λe=>?_) O z;rw[e,l] at L;cases L}};{rw [zkd];refine u ((z3W (λp=>z1k J t (hb p (a+j) q I)) (λp=>?_) D).uses ?_);{subst p;exact⟨zBr ss a st0 (H rfl).1 (H rfl).2,by rw[zhr];exact(H rfl).2⟩};{rintro n (h|h);{exact f n h};{exact .inr ⟨a+j,q,I,by rw[G];simp,h⟩}}}
end
section
variable {C:Cfg} {w0 w w1:World} {S0:zbd} {U:Nat->Prop} {st st1:St} {E E1:Env} {ts:Array Value} {sv:List (Array Value)}
def z5h (t:Ty)(x:t.den):t.ofCells (t.cells x)=some x:=by cases t<;>first|rfl|simp[Ty.ofCells,Ty.cells]
def zUX:∀(p:List (Int×Nat)) {t:Ty} {l:List t.den} {c:CV},ziZ t l p=some c->∀m,zsU t l p c=some m->m=l
 |[],t,l,c,h,m,a=>by simp only[ziZ,qC]at h;subst h;simpa [zsU] using a.symm
 |(i,j)::p,t,l,c,h,m,a=>by
  simp only[ziZ]at h;simp only[zsU]at a;split at h
  .rename_i t1 l1 hc;rw[hc]at a;simp only at a;split at a
   .rename_i l2 hl2;have:=zUX p h l2 hl2;subst this;split at a
    .rename_i x hx;cases a;have f:j<(t.cells (ix l i t.dflt)).length:=(qA.1 hc).1;have e:C0 (t.cells (ix l i t.dflt)) j [CV.s t1 l2]=t.cells (ix l i t.dflt):=zJR _ _ _ (by simp;omega) (fun k d=>by
      have:k=0:=by simpa using d
      subst this;simpa using hc)
     rw[e,z5h]at hx;cases hx;unfold up ix;apply uH;intro k;rw[jC];split;{rename_i d;subst d;split;{rename_i b;simp[List.getD,qB b]};{rename_i b;rw[List.getElem?_eq_none (by omega)]}};{rfl}
    {cases a}
   {cases a}
  {cases h}
def z9O {t:Ty}(c:t.flat=true):∀(q:List (Int×Nat)) (v u:Value),zbg w t v q=some u->q=[]
 |[],_,_,_=>rfl
 |(i,j)::q,v,u,h=>by exfalso;cases v with|slice a len d=>(cases a with|none=>simp[zbg]at h|some a=>simp only[zbg]at h;split at h;{split at h;{rename_i e b;unfold Ty.flat at c;have:=qP.1 c _ (qJ b);simp at this};{cases h}};{cases h})|_=>simp[zbg]at h
def zbdO (hC:CfgOk C){T:TypeId}{t:Ty}(hT:C.sty T=some t)(hf:t.flat=true){v1 v2:Value}{d f:List t.den}{S1 S2:zbd}(c3:Rep true w v1 (.s t d) S1)(c4:Rep false w v2 (.s t f) S2)(b8:f≠[])(d1:few (ln (ap d f))=true)(oT:TypeId) :
 ∃(v:Value) (E:World) (L Z r:Nat),(Builtin.append_ #[T,T] oT #[v1,v2]).run C.P w = .ok v E/\v = .slice (some ⟨L,Z,none⟩) (ap d f).length r/\Rep true E v (.s t (ap d f)) (fun x=>x=L)/\
  E.os=w.os/\E.tape=w.tape/\E.output=w.output/\
  ((L=w.heap.size/\E.heap.size=w.heap.size+1/\∀x,x<w.heap.size->E.heap[x]?=w.heap[x]?) \/
    ∃Y N,v1 = .slice (some ⟨L,Y,none⟩) d.length N/\S1 L/\E.heap.size=w.heap.size/\(∀x,x≠L->E.heap[x]?=w.heap[x]?)/\Rep true E v1 (.s t d) S1):=by
 obtain⟨e,hE⟩:=hC.sty T t hT;obtain⟨i,z,m,hs,hz,f3,d0⟩:=hE.info;obtain⟨f0,f1⟩:=zQR d1;have d4:d.length+f.length<=2147483648:=by simp only[ln,ap,kL] at f1;omega
 have a3:(ap d f).length=d.length+f.length:=by simp[ap]
 cases c4 with
 |nil=>exact absurd rfl b8
 |void=>exact absurd rfl b8
 |sl _ _ b2 p F a2 e2 f7 V2 K2 _ d7 f5 e4 b5 f6 f8 f2 d9 d5 a5=>
 have e5:0<f.length:=kX.2 b8;have e7:f.length*t.wi<=F*t.wi:=qS _ b5;generalize V:(a2.toList.drop p).take (f.length*t.wi)=a;have D:a.length=f.length*t.wi:=by rw[<- V];simp;omega
 have a6:∀k,k<f.length*t.wi->a[k]?=a2[p+k]?:=by intro k hk;rw[<- V,jP,if_pos hk,jV];simp
 have c1:∀j u,a[j]?=some u->w.cell? ((⟨b2,p,none⟩:Addr).add j)=some u:=by intro j u hu;have B:j<f.length*t.wi:=(by rw[<- D];exact(qA.1 hu).1);rw[add_lit,D0 d7,<- a6 j B];exact hu
 have I:∀i j,i<f.length->j<t.wi->i*t.wi+j<f.length*t.wi:=by intro i j m B;have:(i+1)*t.wi<=f.length*t.wi:=qS _ m;rw[jO] at this;omega
 have c2:∀i j,i<f.length->j<t.wi->a[i*t.wi+j]?=some (V2 i j):=by intro i j m B;rw[a6 _ (I i j m B),<- uM];exact d5 i j m B
 have d6:=zGl t;have e8:∀u∈a,u.oneCell'=true:=by intro u hu;obtain⟨k,hk⟩:=qV.1 hu;have e3:k<f.length*t.wi:=(by rw[<- D];exact(qA.1 hk).1);have a1:k / t.wi<f.length:=(Nat.div_lt_iff_lt_mul d6).2 e3;have d3:k % t.wi<t.wi:=Nat.mod_lt _ d6;have:=c2 _ _ a1 d3;rw[Nat.mul_comm,Nat.div_add_mod,hk] at this;cases this;have J:=qB a1;have y:(t.cells (f[k / t.wi]'a1))[k % t.wi]?=some ((t.cells (f[k / t.wi]'a1))[k % t.wi]'(by rw[zdG];exact d3)):=qB _;exact(a5 _ _ J _ _ y).one
 have U:∀(w1:World) i x,f[i]?=some x->∀j c,(t.cells x)[j]?=some c->Rep true w1 (V2 i j) c (fun _=>False):=fun w1 i x J j c y=>(a5 i x J j c y).flat (zxL hf y);have W:∀i j,i<d.length->j<t.wi->i*t.wi+j<d.length*t.wi:=by intro i j m B;have:(i+1)*t.wi<=d.length*t.wi:=qS _ m;rw[jO] at this;omega
 have a0:(d.length+f.length)*i.bytes<=140737488355328:=by have:=uI d4 d0;omega
 have b0:z.cells.size=t.wi:=by rw[<- kP,f3];simp[zf7]
 have O:∀(g:List Value) (A:Nat) (V1:Nat->Nat->Value) (zs:LV),g.length=d.length*t.wi->d.length+f.length<=A->zs.size=(A-(d.length+f.length))*t.wi->
  (∀i j,i<d.length->j<t.wi->g[i*t.wi+j]?=some (V1 i j))->
  (∀i x,d[i]?=some x->∀j c,(t.cells x)[j]?=some c->∃S,Rep true w (V1 i j) c S)->
  (Builtin.append_ #[T,T] oT #[v1,.slice (some ⟨b2,p,none⟩) f.length F]).run C.P w = .ok (.slice (some ⟨w.heap.size,0,none⟩) (d.length+f.length) A) (w.drew.alloc (.cells (g.toArray++a.toArray++zs) e (0,0)))->
  ∃(v:Value) (E:World) (L Z r:Nat),(Builtin.append_ #[T,T] oT #[v1,.slice (some ⟨b2,p,none⟩) f.length F]).run C.P w = .ok v E/\v = .slice (some ⟨L,Z,none⟩) (ap d f).length r/\Rep true E v (.s t (ap d f)) (fun x=>x=L)/\
  E.os=w.os/\E.tape=w.tape/\E.output=w.output/\
  ((L=w.heap.size/\E.heap.size=w.heap.size+1/\∀x,x<w.heap.size->E.heap[x]?=w.heap[x]?) \/
    ∃Y N,v1 = .slice (some ⟨L,Y,none⟩) d.length N/\S1 L/\E.heap.size=w.heap.size/\(∀x,x≠L->E.heap[x]?=w.heap[x]?)/\Rep true E v1 (.s t d) S1):=by
  intro g A V1 zs G b4 f4 e9 d8 M;generalize n:w.drew.alloc (.cells (g.toArray++a.toArray++zs) e (0,0))=w1 at M;have c5:∀x,x<w.heap.size->w1.heap[x]?=w.heap[x]?:=fun x J=>by rw[<- n];exact heap_alloc_old w.drew _ x J
  have c6:w1.heap.size=w.heap.size+1:=by rw[<- n];simp
  refine⟨_,w1,w.heap.size,0,A,M,by rw[a3],?_,by rw[<- n];rfl,by rw[<- n];rfl,by rw[<- n];rfl,.inl ⟨rfl,c6,c5⟩⟩
  refine Rep.join (arr:=g.toArray++a.toArray++zs) (e:=e) (V1:=V1) (V2:=V2) (K1:=fun _ _ _=>False) (K2:=fun _ _ _=>False) ?_ (by simp only[big];omega) b4 ?_ rfl ?_ ?_ ?_ (U w1) (fun _ _ _ _ _ h=>h.elim) (fun _ _ _ _ _ h=>h.elim) (fun _ _ _ _ _ _ _ _ _ h=>h.elim) (fun _ _ _ _ _ _ _ _ _ h=>h.elim) (fun _ _ _ _ _ _ _ _ _ h=>h.elim)
  .rw [<- n];exact heap_alloc_new w.drew _
  .simp only [Array.size_append,kD,G,D,f4,<- kY];have:d.length+f.length+(A-(d.length+f.length))=A:=by omega
   rw[this];omega
  .intro i j m B;have:=W i j m B;rw[kB,uR,kE (by simp[G];exact this)]
   simpa using e9 i j m B
  .intro i j m B;have:=I i j m B;rw[kB,kY,uR,kO (by simp[G];omega),kE (by simp[G,D];omega)]
   rw[<- c2 i j m B];simp only[kD,G,jL]
   congr 1
   omega
  .intro i x J j c y;obtain⟨S,M⟩:=d8 i x J j c y;exact M.flat (zxL hf y)
 cases c3 with
 |nil=>
  have M:=run_append_nil (P:=C.P) w T oT e i z hE.und m hz ⟨b2,p,none⟩ f.length F a (by rw[hs];exact D) c1 e5 (by omega) (by
   have:=uI (show f.length<=2147483648 by omega) d0
   omega)
  have b7:=grownCap_ge w f.length 0 e;refine O [] (grownCap w f.length 0 e) (fun _ _=>undef) (Builtin.zeroCells z.cells (grownCap w f.length 0 e-f.length)) (by simp) (by simpa using b7) (by simp[size_zeroCells,b0]) (fun i j m=>by simp at m) (fun i x J=>by simp at J) ?_;rw[M];simp
 |void _ _ _ ho=>cases ho
 |sl _ _ b l r q e1 fz V1 K1 _ hb e0 b9 Q a9 c8 c7 b6 X R=>
  have d2:=e0 rfl;subst d2;have e6:d.length*t.wi<=r*t.wi:=qS _ Q;by_cases H:d.length+f.length<=r;{have c0:(d.length+f.length)*t.wi<=r*t.wi:=qS _ H;rw[kY]at c0;have M:=run_append_room' (P:=C.P) (w:=w) T oT e i hE.und m b l d.length r q e1 hb ⟨b2,p,none⟩ f.length F a (by rw[hs];exact D) c1 e8 H (by rw[hs,D];omega);rw[hs]at M;have b3:l+d.length*t.wi+a.length<=q.toList.length:=(by rw[D];simp;omega);generalize n:w.setRow b (C0 q.toList (l+d.length*t.wi) a).toArray=w1 at M;have c9:w1.heap[b]?=some (.cells (C0 q.toList (l+d.length*t.wi) a).toArray e1 (0,0)):=(by rw[<- n];exact setRow_heap w b _ _ e1 _ hb);have a8:∀x,x≠b->w1.heap[x]?=w.heap[x]?:=fun x J=>(by rw[<- n];exact setRow_other w b x _ J);have a4:(C0 q.toList (l+d.length*t.wi) a).toArray.size=q.size:=(by rw[kD,zi5 _ _ _ b3];simp);have K:∀k,k<l+d.length*t.wi->(C0 q.toList (l+d.length*t.wi) a).toArray[k]?=q[k]?:=(by intro k hk;rw[jL,zfl _ _ _ b3 k (.inl hk)];simp);have b1:Rows true w t d q l b V1 K1 S1:=⟨c7,b6,X,R⟩;obtain⟨k1,_⟩:=Rep.behind (w1:=w1) b9 Q a9 c8 b1 hb c9 a4 K a8;refine⟨_,w1,b,l,r,M,by rw[a3],?_,by rw[<- n];rfl,by rw[<- n];rfl,by rw[<- n];rfl,.inr ⟨l,r,rfl,c8,by rw[<- n];simp,a8,k1⟩⟩;refine Rep.join (arr:=(C0 q.toList (l+d.length*t.wi) a).toArray) (e:=e1) (V1:=V1) (V2:=V2) (K1:=fun _ _ _=>False) (K2:=fun _ _ _=>False) c9 (by simp only[big];omega) H (by rw[a4];exact a9) rfl ?_ ?_ ?_ (U w1) (fun _ _ _ _ _ h=>h.elim) (fun _ _ _ _ _ h=>h.elim) (fun _ _ _ _ _ _ _ _ _ h=>h.elim) (fun _ _ _ _ _ _ _ _ _ h=>h.elim) (fun _ _ _ _ _ _ _ _ _ h=>h.elim);{intro i j m B;have:=W i j m B;rw[K _ (by omega)];exact X i j m B};{intro i j m B;have:=I i j m B;rw[jL,kY,zfA _ _ _ b3 _ (by omega) (by rw[D];omega),<- c2 i j m B];congr 1;omega};{intro i x J j c y;exact(R i x J j c y).flat (zxL hf y)}}
  .generalize holds:(q.toList.drop l).take (d.length*t.wi)=g;have G:g.length=d.length*t.wi:=(by rw[<- holds];simp;omega);have a7:∀k,k<d.length*t.wi->g[k]?=q[l+k]?:=by intro k hk;rw[<- holds,jP,if_pos hk,jV];simp
   have M:=run_append_grow (P:=C.P) w T oT e i z hE.und m hz ⟨b,l,none⟩ d.length r g (by rw[hs];exact G) (fun j u hu=>by
    have B:j<d.length*t.wi:=by rw[<- G];exact(qA.1 hu).1
    rw[add_lit,D0 hb,<- a7 j B];exact hu) ⟨b2,p,none⟩ f.length F a (by rw[hs];exact D) c1 (by omega) (by omega) (growslice_fits (by omega) a0)
   have b7:=grownCap_ge w (d.length+f.length) r e;refine O g _ V1 _ G b7 (by rw[size_zeroCells,b0]) (fun i j m B=>?_) (fun i x J j c y=>⟨_,R i x J j c y⟩) M;have:(i+1)*t.wi<=d.length*t.wi:=qS _ m;rw[jO] at this;rw[a7 _ (by omega),<- uM];exact X i j m B
end
section
variable {C:Cfg} {w0 w w1:World} {S0:zbd} {U:Nat->Prop} {st st1 st':St} {E E1:Env} {ts:Array Value} {sv:List (Array Value)}
def Late (w0:World)(st:St)(E:Env)(x:App)(v:Value)(w:World):Prop :=
 ∃(f e d g:Nat) (R:Root),w0.heap.size<=f/\(∀q Q,st.root q=some Q->∀y,E.φ q y->y<f)/\(∀l h,zy st.lo l=some h->E.β l<f)/\
  v = .slice (some ⟨e,d,none⟩) x.l.length g/\Rep true w v (.s x.t x.l) (λy=>y=e)/\st.root x.r=some R/\
  (f<=e\/∃c b a,zbg w R.t (E.ρ x.r) x.p=some (.slice (some ⟨e,c,none⟩) b a))
def Late.states {x:App}{v:Value}(h:Late w0 st E x v w)(d:∀n,st'.root n=st.root n)(s:∀n,zy st'.lo n=zy st.lo n):Late w0 st' E x v w:=by obtain⟨t,e,a,b,R,g,i,j,k,m,p,r⟩:=h;exact⟨t,e,a,b,R,g,λq Q c=>i q Q (by rw[<- d];exact c),λl f c=>j l f (by rw[<- s];exact c),k,m,by rw[d];exact p,r⟩
def zJS {r:Nat}(a:At):zdA r [] a=a:=by cases a<;>simp [zdA,coarse]
def zJT {r:Nat}(m:MV):zhD r [] m=m:=by have h:zdA r []=id:=funext λa=>zJS a;have c:∀x,zoZ r [] x=x:=λx=>(by cases x<;>simp [zoZ,h]);have b:zoZ r []=id:=funext c;cases m<;>simp [zhD,c,b]
def z7J (h:Dead st){n:Nat}{R:Root}(c:st.root n=some R):R.ep=none:=by obtain⟨b,a⟩:=zbD c;rcases a with a|a;{exact a};{have:=h n R _ b a;omega}
def z8o {v:Value}{t:Ty}{l:List t.den}{S:zbd}{b off n a:Nat}(h:Rep true w v (.s t l) S)(e:v = .slice (some ⟨b,off,none⟩) n a):b<w.heap.size/\S b:=by cases h with|nil=>cases e|void _ _ _ f=>cases f|sl _ _ g _ _ _ _ _ _ _ _ d _ _ _ _ c=>cases e;exact⟨(qO.1 d).1,c⟩
def z97 (hC:CfgOk C)(k:Sim w0 S0 U st E ts sv w)(hd:Dead st){o:Oper}{x:App}(h:ztc C st o=some (true,x)) :
 o.guard=none/\o.dst=some x.dst/\∃(v:Value) (f:World),(execOp ({tmps:=ts,defers:=[]}:Act).eval o).run C.P w = .ok (.value v) f/\
  Sim w0 S0 U (st.put o.dst<|.v<|.at .bad) E (({tmps:=ts,defers:=[]}:Act).put o.dst v).tmps sv f/\Late w0 st E x v f:=by
 unfold ztc at h;split at h
 .rename_i c d ho hdst hgu;split at h
  .rename_i hcb;split at h
   .rename_i a0 y0 T T2 hca hct;split at h
    .rename_i hTT;subst hTT;split at h
     .rename_i t r a p r2 p2 hT h1 h2;split at h
      .rename_i R cv1 cv2 hR hn1 hn2;split at h
       .rename_i hcond;simp only[qE,jE,beq_eq_false_iff_ne]at hcond;obtain⟨⟨H,a2⟩,b9⟩:=hcond;split at h
        .rename_i m t2 y2 l2' hm;simp only[qC,jT]at h;obtain⟨a1,rfl⟩:=h;refine⟨hgu,hdst,?_⟩;obtain⟨l1,l2,e1,e2,rfl⟩:=zCL hm;subst e1;have b2:l2≠[]:=by intro e;subst e;cases e2
         rw[e2]at hn2
         clear e2
         generalize c0:a::p=pp at h1 hn1;have j:=k.mem;obtain⟨hx,_⟩:=zbN k h1;obtain⟨hy,_⟩:=zbN k h2;have hh:=hx.2 R hR;have i:=j.rep r R hR;rw[H]at i;obtain⟨t',l0,S1,f1,f2,f3,f4,f5⟩:=Rep.focus pp i hh;have a3:ziZ R.t R.l pp=some (.s t l1):=by obtain⟨R',W,b1⟩:=zg7 hn1;rw[hR]at W;cases W;exact b1
         rw[a3] at f1;cases f1;obtain⟨R2,S2,b7,g1,g2,g3,g4⟩:=zxf k hy hn2;obtain⟨v,f,bv,K,S,a5,hv,I,a4,a6,G,L⟩:=zbdO hC hT a2 f3 g3.ro b2 a1 o.type;have X:c.args = #[a0,y0]:=by rw[<- hca]
         have Y:c.argTypes = #[T2,T2]:=by rw[<- hct]
         have g:(execOp ({tmps:=ts,defers:=[]}:Act).eval o).run C.P w = .ok (.value v) f:=by simp[execOp,ho,resolve,hcb,invoke,builtin,X,Y,a5]
         have a7:∀l cs,zy st.lo l=some cs->E.β l<w.heap.size:=by intro l cs h;obtain⟨_,b6,e,h2,_⟩:=j.loc l cs h;exact(qO.1 h2).1
         rcases L with⟨b8,b4,O⟩|⟨a8,V,b5,B,b4,F,N⟩
         .obtain⟨hM',hT'⟩:=j.addRoots k.ids.mem (dro:=[]) (w1:=f) (E1:=E) a4 a6 G (by omega) O (λq Q b=>by cases b) (λq Q _ _ b=>by cases b) (λ_ _=>⟨rfl,rfl,rfl⟩)
          refine⟨v,f,g,Sim.next k (st1:=st) hM' hT' rfl rfl (λ_ h=>h) k.ids.ro k.ids.lo trivial (λn hn=>by simp[MV.ids,zbL,zZ,At.ids,zby,zbG]at hn),?_⟩
          exact⟨w.heap.size,bv,K,S,R,j.size,λq Q b y hy=>j.rlt q Q b y hy,a7,hv,I,hR,.inl (by omega)⟩
         .obtain⟨m,hm1,hrm,hh1,hh2⟩:=f5 f l1 S1 (λz _ M=>F z λe=>M (e ▸ B)) (λ_ h _=>h) N;have b3:=zUX pp a3 m hm1;subst b3;obtain⟨_,_,_,_,a9⟩:=f5 w l1 S1 (λ_ _ _=>rfl) (λ_ h _=>h) f3;have D:∀q u,zbg w R.t (E.ρ r) q=some u->zbg f R.t (E.ρ r) q=some u:=by intro q u b;refine hh1 q u b (λq' Z=>?_);subst Z;rw[a9]at b;exact z9O a2 q' _ _ b
          have J:=zJj (w1:=f) (m:=R.l) (js:=[]) (S3:=E.φ r) k hR H a4 a6 G (by omega) (λz hz M=>F z λe=>M (f4 z<|e ▸ B)) (λz hz=>⟨.inl hz,by have:=j.rlt r R hR z hz;omega⟩) (hrm.weak λz hz=>by
           rcases hz with⟨h,_⟩|h
           .exact h
           .exact f4 z h) (λq u b _=>D q u b)
          have hE:({E with φ:=λn=>if n=r then E.φ r else E.φ n}:Env)=E:=by
           have:(λn=>if n=r then E.φ r else E.φ n)=E.φ:=by
            funext n
            split
            .rename_i e;rw[e]
            .rfl
           rw[this]
          rw[hE]at J;have b0:Sim w0 S0 U st E ts sv f:=by refine J.fewer (λt=>?_) (λn=>?_) ?_ (λn Q A=>?_) (λn Q A=>?_) (λn Q e A Z=>j.epo n Q e A Z);{simp only [zj8,qQ];cases st.tm[t]? <;> simp [zJT]};{simp only [zj8];rw[znt];have:zdA r []=id:=funext λa=>zJS a;cases zy st.lo n<;>simp [this]};{simp only [zj8];have:zhD r []=id:=funext λa=>zJT a;simp[this]};{have Z:=z7J hd A;obtain⟨q1,_⟩:=zbD A;refine zg5 ?_ (.inl Z);simp only[zj8,zy];split;{rename_i hb;simp only[qK]at hb;subst hb;rw[hR]at A;cases A;rfl};{exact q1}};{simp only [zj8,zy];split;{exact⟨_,rfl⟩};{exact⟨Q,A⟩}}
          refine⟨v,f,g,b0.putV trivial (λn hn=>by simp[MV.ids,zbL,zZ,At.ids,zby,zbG]at hn),?_⟩
          refine⟨w.heap.size,bv,K,S,R,j.size,λq Q b y hy=>j.rlt q Q b y hy,a7,hv,I,hR,.inr ⟨a8,l1.length,V,?_⟩⟩;refine D pp _ ?_;rw[hh,b5]
        .cases h
       .cases h
      .cases h
     .cases h
    .cases h
   .cases h
  .cases h
 .cases h
def z4V (hC:CfgOk C)(hS:Sim w0 S0 U st E ts sv w){o:Oper}{id:Nat}{x:App}{v:Value}{b4:St}(hL:Late w0 st E x v w)(g0:ts[x.dst]?=some v)(h:zFC C st o x=some (true,b4)) :
 o.guard=none/\Goes C w0 S0 U st ts sv w o id (λ_=>b4.put o.dst .und)/\b4.nid=st.nid:=by
 unfold zFC at h;split at h
 .rename_i T a d ho hgu;split at h
  .rename_i t1 r p i off hT ha;split at h
   .rename_i R t l c hRr L hsp;split at h
    .rename_i hcond;simp only[qE,jA,Nat.beq_eq_true_eq]at hcond;obtain⟨⟨⟨a4,a9⟩,b2⟩,G⟩:=hcond;have a9:=jY a9;have b2:=jY b2;subst a9 b2;split at h
     .rename_i l' hset;split at h
      .rename_i m hput;simp only[qC,jT]at h;obtain⟨rfl,rfl⟩:=h;refine⟨hgu,?_,rfl⟩;have f7:=zu0 hsp;obtain⟨n0,X,g7,g3,R',e8,Q,e7,c6,P,M,S⟩:=hL;rw[hRr]at M;cases M;obtain⟨d0,g8⟩:=zbN hS ha;obtain⟨b,o2,len,c8,h0,e1,e2,e3,Y,e5⟩:=d0.2 R hRr;have hM:=hS.mem;have a5:=hM.rep _ R hRr;rw[a4]at a5;obtain⟨t',l0,S1,f1,f2,f3,f4,f5⟩:=Rep.focus p a5 e1;have d7:ziZ R.t R.l p=some (.s t l):=by obtain⟨R',M,d6⟩:=zg7 L;rw[hRr]at M;cases M;exact d6
       rw[d7] at f1;cases f1;rw[e2] at f2;cases f2;obtain⟨_,_,_,_,b5⟩:=f5 w l S1 (λ_ _ _=>rfl) (λ_ h _=>h) f3;cases f3 with
       |void _ _ _ ho=>cases ho
       |sl _ _ _ _ _ a6 e' fz V K _ hb d5 b0 a0 c5 a7 A a1 c7 b8=>
       have b9:=d5 rfl;subst b9;have N:Rows true w t l a6 o2 b V K S1:=⟨A,a1,c7,b8⟩;have a3:v.oneCell'=true:=by rw[c6];rfl
       have B:v.cells = #[v]:=cells_one a3;have O:off+[v].length<=t.wi:=by simp;omega
       have c3:(i.toNat+1)*t.wi<=c8*t.wi:=qS _ (by omega)
       rw[jO]at c3;have H:=zrY (w:=w) (v:=v) (off:=o2+i.toNat*t.wi+off) (hC.cty T false [.s t1] hT) hb (by rw[B];rfl) (by simp;omega) (by rw[B];intro u hu;simp at hu;rw[hu];exact a3)
       rw[B]at H;have e6:(#[v]:LV).toList=[v]:=rfl;rw[e6]at H;generalize J:w.setRow b (C0 a6.toList (o2+i.toNat*t.wi+off) [v]).toArray=w1 at H;have b7:w1.heap[b]?=some (.cells (C0 a6.toList (o2+i.toNat*t.wi+off) [v]).toArray e' (0,0)):=by rw[<- J];exact setRow_heap w b _ _ e' _ hb
       have D:∀y,y≠b->w1.heap[y]?=w.heap[y]?:=λy z=>by rw[<- J];exact setRow_other w b y _ z
       have c2:E.φ x.r b:=f4 b a7;have g9:b<n0:=Q _ R hRr b c2;have a2:∀F j,F<l.length->j<t.wi->¬ Hit i.toNat off [v].length F j->∀y,K F j y->w1.heap[y]?=w.heap[y]?:=λF j I hj _ y z=>D y ((A F j y I hj z).2 rfl)
       have a8:n0<=X\/K i.toNat off X:=by rcases S with h|⟨g6,g5,g2,h⟩;{exact .inl h};{right;rw[<- f7,b5]at h;simp only[zbg]at h;rw[if_pos ⟨e3,Y⟩]at h;split at h;{rename_i t3 f9;rw[D0 hb,c7 i.toNat off Y G]at h;simp only[qC]at h;obtain⟨c,hc,d3⟩:=zCd (x:=ix l i t.dflt) f9;obtain⟨l3,rfl⟩:=zoh d3;have c1:=b8 i.toNat _ (zon Y) off _ hc;rw[h]at c1;cases c1 with|void _ _ _ ho=>cases ho|sl _ _ _ _ _ _ _ _ _ _ _ _ _ _ _ _ c9=>exact c9};{cases h}}
       have Z:X≠b:=by rcases a8 with h|h;{omega};{exact(A _ _ X Y G h).2 rfl}
       have b3:=Rep.setCells (w:=w) (w1:=w1) (us:=[v]) (Kn:=λ_ y=>y=X) b0 a0 c5 N Y rfl O hset b7 (λk c u hc hu=>by
        cases k with
        |zero=>simp only[qI,qC]at hc hu;subst hc hu;exact P.frame (λy z=>D y (by rw[z];exact Z))
        |succ k=>simp at hc)
        a2
        (λk y _ z=>by rw[z];exact Z)
        (λk k' y hk e0 _ _=>by simp at hk e0;omega)
        (λk y F j hk z I hj e9 W=>by
         subst z;rcases a8 with h|h
         .have:=Q _ R hRr y (f4 y (A F j y I hj W).1);omega
         .have:=a1 rfl _ _ _ _ y Y G I hj h W;exact e9 ⟨this.1.symm,by omega,by simp;omega⟩)
       have b6:∀y,(y=b\/(∃F j,F<l.length/\j<t.wi/\¬ Hit i.toNat off [v].length F j/\K F j y)\/∃k,k<[v].length/\y=X)->S1 y\/(n0<=y/\y=X):=by intro y z;rcases z with rfl|⟨F,j,I,hj,_,hk⟩|⟨k,hk,rfl⟩;{exact .inl a7};{exact .inl (A F j y I hj hk).1};{rcases a8 with h|h;{exact .inr ⟨h,rfl⟩};{exact .inl (A _ _ _ Y G h).1}}
       obtain⟨m',c0,f8,d8,d9⟩:=f5 w1 l' _ (λy z b1=>D y λe=>b1 (e ▸ a7)) (λy z W=>by
        rcases b6 y z with h|⟨h,_⟩
        .exact h
        .have:=Q _ R hRr y W;omega) b3
       rw[hput]at c0;cases c0;have g4:w1.heap.size=w.heap.size:=by rw[<- J];simp
       have d1:X<w.heap.size:=(z8o P c6).1;have c4:=zFx (w1:=w1) (m:=m) (js:=[cols p++[off]]) e8 Q e7 hS hRr a4 (by rw[<- J];rfl) (by rw[<- J];rfl) (by rw[<- J];rfl) (by omega) (λy _ b1=>D y λe=>b1 (e ▸ c2)) (λy z=>by
        rcases z with⟨z,_⟩|z
        .exact⟨.inl z,by have:=hM.rlt _ R hRr y z;omega⟩
        .rcases b6 y z with h|⟨h,rfl⟩
         .exact⟨.inl<|f4 y h,by have:=hM.rlt _ R hRr y (f4 y h);omega⟩
         .exact⟨.inr h,by omega⟩) f8 (λq u hq f6=>by
        rcases zvC p q with⟨q',rfl⟩|f0
        .rw [d9 q'];rw[b5 q']at hq;refine zq8 (us:=[v]) a0 c5 N hb Y rfl O hset b7 a2 q' (λF j g1 he k c hj d2=>?_) D hq;subst he hj;cases k with
         |succ k=>simp at d2
         |zero=>exfalso;have h9:=kW.1 f6 (cols p++[off]) (by simp);exact absurd (ztf p F off g1) h9
        .exact d8 q u hq λq' he=>absurd ⟨q',he⟩ f0)
       have g:=c4.putV (dst:=o.dst) (m:=.und) (v:=undef) rfl (λn L=>by simp[MV.ids,zbL]at L)
       refine zxP (w':=w1) ?_ ⟨g.mem,⟨λn R L=>.inl (g.ids.ro n R L),λn cs L=>⟨.inl (g.ids.lo n cs L).1,λa ha m hm=>.inl ((g.ids.lo n cs L).2 a ha m hm)⟩,λm hm n L=>.inl (g.ids.tm m hm n L),λf hf m hm n L=>.inl (g.ids.stk f hf m hm n L)⟩,g.tm,g.stk⟩;have d4:({tmps:=ts,defers:=[]}:Act).eval (.tmp x.dst)=v:=by simp[Act.eval,g0]
       simp[execOp,ho,Instr.storeAt,e5,Instr.sureAddr,d4,H]
      .cases h
     .cases h
    .cases h
   .cases h
  .cases h
 .cases h
end
section
variable {C:Cfg} {w0 w w1:World} {S0:zbd} {U:Nat->Prop} {st st1:St} {E E1:Env} {ts:Array Value} {sv:List (Array Value)}
variable {ops:Array Oper} {b:Bool} {base:Nat} {cl:List (List Nat)} {ss:List Step} {st0:St}
def zNJ {w b:World}(h:b.heap=w.heap):∀(p:List (Int×Nat)) (t:Ty) (v:Value),zbg b t v p=zbg w t v p
 |[],t,v=>by simp only[zbg]
 |(i,j)::p,t,v=>by have d:∀a,b.cell? a=w.cell? a:=λa=>(by simp only[World.cell?,h]);have e:=zNJ h p;cases v with|slice a len c=>cases a<;>simp only [zbg,d,e]|_=>simp only[zbg]
def Sim.heap (g:Sim w0 S0 U st E ts sv w){w':World}(d:w'.heap=w.heap)(v:w'.os=w.os)(y:w'.tape=w.tape)(z:w'.output=w.output):Sim w0 S0 U st E ts sv w':=by
 have T:Trans st E w st E w' (λ_=>True):=⟨λr _ R h=>⟨R,h,rfl,λp u i=>by rw[zNJ d];exact i⟩,λl _ k h=>⟨⟨k,h⟩,rfl⟩,rfl⟩
 have a:=g.mem;refine⟨⟨by rw[v];exact a.os,by rw[y];exact a.tape,by rw[z];exact a.output,by rw[d];exact a.size,λb A C=>by rw[d];exact a.keep b A C,
  λr R h=>(a.rep r R h).frame (λx _=>by rw[d]),λr R h x D=>by rw[d];exact a.rlt r R h x D,a.mine,a.frz,a.apart,λl k B=>?_,a.linj,a.lro,a.epo,a.κ⟩,g.ids,
  az.tr T (λ_ _ _ _=>trivial) g.tm,Stack.tr T (λ_ _ _ _ _ _=>trivial) g.stk⟩
 obtain⟨q,f,e,s,t,m⟩:=a.loc l k B;exact⟨q,f,e,by rw[d];exact s,t,λj c u n i=>⟨(m j c u n i).1,VA.tr T (λ_ _=>trivial) (m j c u n i).2⟩⟩
def Sim.blind (d:Sim w0 S0 U st E ts sv w)(c:Bool)(n:Nat):Sim w0 S0 U {st with nid:=n,ep:=if c then st.ep+1 else st.ep} E ts sv w:=by
 have h:=d.nid n;cases c with
 |false=>exact h
 |true=>refine h.fewer (λ_=>rfl) (λ_=>rfl) rfl (λr R b=>?_) (λr R b=>⟨R,b⟩) (λr R e b i=>?_);{obtain⟨f,a⟩:=zbD b;have j:R.ep=none:=(by rcases a with a|a;{exact a};{have:=d.mem.epo r R _ f a;simp only[if_true] at this;omega});show St.root {st with nid:=n} r=some R;unfold St.root;have g:zy ({st with nid:=n}:St).ro r=some R:=f;rw[g];simp only[j]};{have:=d.mem.epo r R e b i;show e<=st.ep+1;omega}
def cnt_lt {p q:Nat->Bool}:∀(l:List Nat),(∀x∈l,q x=true->p x=true)->(∃x∈l,p x=true/\q x=false)->l.countP q<l.countP p
 |[],_,h=>by obtain⟨x,b,_⟩:=h;cases b
 |a::l,e,g=>by
  have f:∀(m:List Nat),(∀x∈m,q x=true->p x=true)->m.countP q<=m.countP p:=λm i=>List.countP_mono_left i;have i:=f l (λx b=>e x (by simp[b]))
  simp only[vJ];cases j:q a with
  |true=>
   rw[e a (by simp) j]
   have:l.countP q<l.countP p:=cnt_lt l (λx b=>e x (by simp[b])) (by
    obtain⟨x,b,c,d⟩:=g;rcases qG.1 b with rfl|b
    .rw [j] at d;cases d
    .exact⟨x,b,c,d⟩)
   simp only[if_true];omega
  |false=>
   cases k:p a with
   |true=>simp;omega
   |false=>
    have:l.countP q<l.countP p:=cnt_lt l (λx b=>e x (by simp[b])) (by
     obtain⟨x,b,c,d⟩:=g;rcases qG.1 b with rfl|b
     .rw [k] at c;cases c
     .exact⟨x,b,c,d⟩)
    simp;omega
def left (n:Nat)(listed:Array Bool):Nat:=(List.range n).countP λi=>!listed.getD i true
def zLR {listed:Array Bool}{n i:Nat}(e:i<n)(c:listed.getD i true=false):left n (listed.setIfInBounds i true)<left n listed:=by unfold left;have a:i<listed.size:=(by rcases uS i listed.size with h|h;{exact h};{simp [uZ h]at c});refine cnt_lt _ (λx _ d=>?_) ⟨i,kR.2 e,by rw[c];rfl,by simp[a]⟩;by_cases b:i=x;{subst b;simp[a]at d};{rwa [getD_set_ne true b]at d}
def zI7 {C:Cfg}{st:St}{o:Oper}{id:Nat}{d:Dl}(b:zmK o=true)(h:zmF C st o id=some d):z0 C st o id=some d:=by unfold zmF at h;cases e:z0 C st o id with|some g=>rw[e]at h;exact h|none=>rw[e]at h;exfalso;have h:znL C st o id=some d:=h;have f:zmh C o=none:=(by unfold zmK at b;unfold zmh;cases a:o.op with|call c=>rw[a]at b;simp at b|_=>rfl);unfold znL at h;rw[f]at h;cases h
structure Waits (md:Region.Mode) (ops:Array Oper) (cl:List (List Nat)):Prop where
 at':∀i,i<ops.size->cl.getD i []=waits ops (cl.take i) i
 lt:∀i,i<ops.size->∀j∈cl.getD i [],j<i
 sub:∀e,Region.binds .any e=true->Region.binds md e=true
 rk:∃rk:Nat->Nat,∀(i:Nat) (o:Oper),ops[i]?=some o->∀e∈o.after,Region.binds md e=true->e.on<ops.size/\rk e.on<rk i
variable {md:Region.Mode}
def zbdm (a:∀i,i<ops.size->cl.getD i []=waits ops (cl.take i) i){i:Nat}{o:Oper}(b:ops[i]?=some o){e:Edge}(d:e∈o.after)(c:Region.binds .any e=true):e.on∈cl.getD i []:=by have f:=(qO.1 b).1;rw[a i f];simp only[waits,b];exact zQC (by simpa using d) c
def zWZ {l:List (List Nat)}{i j k:Nat}(h:k∈(l.take i).getD j []):k∈l.getD j []:=by rw[kI,jP]at h;rw[kI];split at h;{exact h};{simp at h}
def Waits.inv (W:Waits md ops cl){i j:Nat}{o:Oper}(b:ops[i]?=some o)(a:j∈cl.getD i []):∃e∈o.after,Region.binds .any e=true/\(j=e.on\/j∈cl.getD e.on []):=by have f:=(qO.1 b).1;rw[W.at' i f]at a;simp only[waits,b]at a;obtain⟨e,d,c,h⟩:=zQD a;exact⟨e,by simpa using d,c,h.imp id zWZ⟩
def XL (listed:Array Bool)(k:Nat):Bool:=listed.getD k false
def zJv (W:Waits md ops cl){listed:Array Bool}(d:zkc cl (XL listed)){i:Nat}(f:i∈Region.ready md ops listed):∀j∈cl.getD i [],XL listed j=true:=by obtain⟨_,o,k,a⟩:=mem_ready.1 f;intro j g;obtain⟨e,c,b,h|h⟩:=W.inv k g;{subst h;exact a e c (W.sub e b)};{exact d _ (a e c<|W.sub e b) j h}
def least {p:Nat->Prop}:∀n,p n->∃m,m<=n/\p m/\∀j,j<m->¬ p j:=by intro n;induction n using Nat.strongRecOn with|_ n i=>intro g;by_cases h:∃j,j<n/\p j;{obtain⟨j,d,e⟩:=h;obtain⟨m,k,b,c⟩:=i j d e;exact⟨m,by omega,b,c⟩};{exact⟨n,qX _,g,λj f a=>h ⟨j,f,a⟩⟩}
def zPD (W:Waits md ops cl){listed:Array Bool}(s:listed.size=ops.size){b:Nat}(c:b<ops.size)(d:listed.getD b true=false):∃i,i∈Region.ready md ops listed:=by obtain⟨j,g⟩:=W.rk;obtain⟨n,_,⟨i,k,r,u⟩,a⟩:=least (p:=λn=>∃i,i<ops.size/\listed.getD i true=false/\j i=n) (j b) ⟨b,c,d,rfl⟩;refine⟨i,mem_ready.2 ⟨r,ops[i],by simp[k],λe q m=>?_⟩⟩;obtain⟨l,t⟩:=g i ops[i] (by simp[k]) e q m;cases h:listed.getD e.on false with|true=>rfl|false=>exfalso;refine a (j e.on) (by omega) ⟨e.on,l,?_,rfl⟩;have f:e.on<listed.size:=(by omega);simp only[Array.getD,f,dif_pos]at h ⊢;exact h
def zvh {listed:Array Bool}{i:Nat}(a:i<listed.size):XL listed i=listed.getD i true:=by simp[XL,a]
def zNf {listed:Array Bool}{i:Nat}(a:i<listed.size)(k:Nat):XL (listed.setIfInBounds i true) k=(XL listed k||k==i):=by unfold XL;by_cases h:i=k;{subst h;simp[a]};{rw [getD_set_ne false h];have:(k==i)=false:=(by simp;omega);rw[this,uO]}
def z6m {P:Program}{Q d:Exit->Act->World->Prop}(f:∀e,e≠.normal->∀a w,d e a w->Q e a w){i:Nat}{K:Act->World->Prop}{a:Act}{w:World}(h:wpOp P ops d i K a w):wpOp P ops Q i K a w:=by
 have b:LetsOut d->LetsOut Q:=(by rintro⟨a,w,h⟩;exact⟨a,w,f _ (by simp) a w h⟩);unfold wpOp at h ⊢;split;{rename_i m;rw[m]at h;exact h}
 .rename_i o ho;simp only[ho]at h;split
  .rename_i j;rw[if_pos j]at h;rcases h with h|⟨k,l⟩
   .left
    unfold Oper.wp at *;generalize (execOp a.eval o).run P w=r at *;cases r with
    |ok n p =>
     cases n<;>simp only [Oper.upon]at h ⊢ <;>
      first
       |exact h
       |exact h.mono (λe q g=>by
        cases e with
        |returned v=>exact g
        |panicked c=>exact f _ (by simp) _ _ g
        |outgrown=>exact b g)
    |halt x p =>cases x<;>simp only [Oper.upon]at h ⊢ <;> first|exact f _ (by simp) _ _ h|exact h
   {exact .inr ⟨k,b l⟩}
  {rename_i j;rw[if_neg j]at h;exact h}
def zpG (W:Waits md ops cl){listed:Array Bool}{m:Nat}(e:listed.size=ops.size)(c:∀i,i<ops.size->listed.getD i true=decide (i<m)):zkc cl (XL listed):=by intro k b j d;have a:k<ops.size:=(by rcases uS k listed.size with h|h;{omega};{simp [XL,uZ h]at b});rw[zvh (by omega),c k a]at b;simp at b;have:=W.lt k a j d;rw[zvh (by omega),c j (by omega)];simp;omega
def zbah {P:Program}{Q:Exit->Act->World->Prop}{c:Nat}{b:Array Bool}{a:Act}{w:World}(g:∀i,i<ops.size->b.getD i true=true)(h:Q .normal a w):wpAny P md ops Q c b a w:=by have f:Region.ready md ops b=[]:=(by refine List.eq_nil_iff_forall_not_mem.2 (λi d=>?_);obtain⟨e,o,j,_⟩:=mem_ready.1 d;have d:=(qO.1 j).1;rw[g i d]at e;cases e);cases c with|zero=>exact⟨f,h⟩|succ c=>exact⟨λ_=>h,λi d=>by rw[f]at d;cases d⟩
def z3w (W:Waits md ops cl){P:Program}{Q:Exit->Act->World->Prop}{b m:Nat}{listed:Array Bool}{a:Act}{w:World}(c:listed.size=ops.size)(r:m<ops.size)(A:Pinned ops.size cl m)(p:∀i,i<ops.size->listed.getD i true=decide (i<m))(B:left ops.size listed<=b)(h:∀q l,l.size=ops.size->(∀i,i<ops.size->l.getD i true=decide (i<m+1))->left ops.size l<=q->b=q+1->l=listed.setIfInBounds m true->wpOp P ops Q m (wpAny P md ops Q q l) a w):wpAny P md ops Q b listed a w:=by have t:listed.getD m true=false:=(by rw[p m r];simp);obtain⟨C,j⟩:=zPD W c r t;have y:=zLR (listed:=listed) (n:=ops.size) (i:=m) r t;obtain⟨b,rfl⟩:∃f,b=f+1:=⟨b-1,by omega⟩;refine⟨λh=>(by rw[h]at j;cases j),λi v=>?_⟩;obtain⟨u,o,z,_⟩:=mem_ready.1 v;have d:=(qO.1 z).1;rw[p i d]at u;simp only[decide_eq_false_iff_not,Nat.not_lt]at u;have e:i=m:=(by by_cases s:i=m;{exact s};{exfalso;have:=zJv W (zpG W c p) v m (A.wait i (by omega) d);rw[zvh (by omega),t] at this;cases this});subst e;refine h b _ (by simp[c]) (λk x=>?_) (by omega) rfl rfl;by_cases g:i=k;{subst g;simp[c,d]};{rw [getD_set_ne true g,p k x];congr 1;simp only[eq_iff_iff];omega}
def zNg {a T:Nat}(W:Waits md ops cl)(M:T<=ops.size)(s:T<ops.size->Pinned ops.size cl T){P:Program}{Q:Exit->Act->World->Prop}{J:(Nat->Bool)->Env->LV->World->Prop}(d:∀X Y E ts w,(∀k,a<=k->k<T->X k=Y k)->J X E ts w->J Y E ts w)(l:∀X Y i,zkc cl X->a<=i->i<T->X i=false->(∀j∈cl.getD i [],X j=true)->(∀k,Y k=(X k||k==i))->∀E ts w,J X E ts w->∀K:Act->World->Prop,(∀A c y,J Y A c y->K {tmps:=c,defers:=[]} y)->wpOp P ops Q i K {tmps:=ts,defers:=[]} w)(p:∀(Z:Nat) (I:Array Bool) (A:Env) (c:LV) (y:World),I.size=ops.size->(∀i,i<ops.size->I.getD i true=decide (i<T))->left ops.size I<=Z->J (λ_=>true) A c y->wpAny P md ops Q Z I {tmps:=c,defers:=[]} y) :
 ∀(b:Nat) (listed:Array Bool) (E:Env) (ts:LV) (w:World),listed.size=ops.size->zkc cl (XL listed)->(∀i,i<a->XL listed i=true)->(∀m,T<=m->m<ops.size->XL listed m=false)->left ops.size listed<=b->
  J (XL listed) E ts w->wpAny P md ops Q b listed {tmps:=ts,defers:=[]} w
 |b,listed,E,ts,w,x,N,q,g,hf,hS=>by by_cases e:∀i,i<T->XL listed i=true;{have hl:∀i,i<ops.size->listed.getD i true=decide (i<T):=(by intro i z;rw[<- zvh (by omega)];by_cases h:i<T;{rw [e i h];simp[h]};{rw [g i (by omega) z];simp[h]});exact p b listed E ts w x hl hf (d _ _ E ts w (λk _ v=>e k v) hS)};{have O:∃i,i<T/\XL listed i=false:=(by refine Classical.byContradiction (λV=>e λi z=>?_);cases h:XL listed i with|true=>rfl|false=>exact absurd ⟨i,z,h⟩ V);obtain⟨H,R,r⟩:=O;have F:listed.getD H true=false:=(by rw[<- zvh (by omega)];exact r);obtain⟨i1,D⟩:=zPD W x (by omega) F;have a0:0<left ops.size listed:=(by have:=zLR (listed:=listed) (n:=ops.size) (i:=H) (by omega) F;omega);obtain⟨b,rfl⟩:∃f,b=f+1:=⟨b-1,by omega⟩;refine⟨λh=>(by rw[h]at D;cases D),λi z=>?_⟩;obtain⟨h0,o,ho,_⟩:=mem_ready.1 z;have B:=(qO.1 ho).1;have u:XL listed i=false:=(by rw[zvh (by omega)];exact h0);have G:=zJv W N z;have S:a<=i:=(by refine Classical.byContradiction (λV=>?_);rw[q i (by omega)]at u;cases u);have t:i<T:=(by refine Classical.byContradiction (λV=>?_);have hp:=s (by omega);by_cases t:i=T;{subst t;have:=G H (hp.full H R);rw[r] at this;cases this};{have:=G T (hp.wait i (by omega) B);rw[g T (qX _) (by omega)] at this;cases this});refine l _ (XL<|listed.setIfInBounds i true) i N S t u G (zNf (by omega)) E ts w hS _ (λA c y L=>?_);refine zNg W M s d l p b (listed.setIfInBounds i true) A c y (by simp[x]) ?_ ?_ ?_ ?_ L;{intro k v j hj;rw[zNf (by omega)]at v ⊢;by_cases C:k=i;{subst C;rw[G j hj];rfl};{have:(k==i)=false:=(by simp[C]);rw[this,uO]at v;rw[N k v j hj];rfl}};{intro k v;rw[zNf (by omega),q k v];rfl};{intro m hm U;rw[zNf (by omega),g m hm U];simp;omega};{have:=zLR (listed:=listed) (n:=ops.size) B h0;omega}}
def z9P (A:CfgOk C)(D:CtrOk C)(B:GraftOk C){a T:Nat}(W:Waits md ops cl)(I:a+ss.length=T)(q:T<=ops.size)(g:T<ops.size->Pinned ops.size cl T)(F:Free C ops cl b base a ss st0)(N:b=false->∀k,a<=k->k<T->zmg C ops k=false)(O:b=true->Dead st0/\0<st0.ep)(H:∀k,a<=k->k<T->∀n,Mine (base+32*k) n->¬ U n){Q:Exit->Act->World->Prop}(e:∀(t:Nat) (p:Array Bool) (y:Env) (j:LV) (x:World),p.size=ops.size->(∀i,i<ops.size->p.getD i true=decide (i<T))->left ops.size p<=t->
 Sim w0 S0 (UX U base a T λ_=>true) (zbz ops b (λ_=>true) a ss st0) y j sv x->wpAny C.P md ops Q t p {tmps:=j,defers:=[]} x) :
 ∀(d:Nat) (c:Array Bool) (E:Env) (ts:LV) (w:World),c.size=ops.size->zkc cl (XL c)->(∀i,i<a->XL c i=true)->(∀m,T<=m->m<ops.size->XL c m=false)->left ops.size c<=d->
  Sim w0 S0 (UX U base a T<|XL c) (zbz ops b (XL c) a ss st0) E ts sv w->wpAny C.P md ops Q d c {tmps:=ts,defers:=[]} w :=
 zNg (J:=λX E ts w=>Sim w0 S0 (UX U base a T X) (zbz ops b X a ss st0) E ts sv w) W q g
  (λX Y E ts w h l=>by
   rw[zkT ss a st0 λk f v=>h k f (by omega)]at l
   refine l.uses ?_
   rintro n (f|⟨k,u,f,v,z⟩)
   .exact .inl f
   .exact .inr ⟨k,u,f,by rw[<- h k u f];exact v,z⟩)
  (λX Y i L s R r S M E ts w l K G=>zFc A D B I F L s R r S N O H M l G) e
def get_put {st:St}{d:Nat}{m:MV}{a:Key}(h:a≠.tm d):(st.put (some d) m).get a=st.get a:=by cases a with|tm t=>have:d≠t:=λe=>h (by rw[e]);simp[St.get,St.put,jC,this]|ro n=>rfl|lo n=>rfl
def z8V {st b:St}{o:Oper}(c:b.ep=st.ep)(g:∀t∈zjO o,b.get (.tm t)=st.get (.tm t))(f:∀n∈(zvA st o).flatMap zby,b.get (.ro n)=st.get (.ro n))(d:∀n∈(zvA st o).flatMap zbG,b.get (.lo n)=st.get (.lo n)):Agree st b o.op.operands.toList:=by refine⟨c,λx h=>?_,λx h m k a j=>?_⟩;{cases x with|tmp t=>have l:t∈zjO o:=(by unfold zjO;exact uF.2 ⟨_,h,rfl⟩);simp only[St.opnd,zND<|g t l]|_=>rfl};{have i:a∈zvA st o:=(by unfold zvA;exact qR.2 ⟨m,uF.2 ⟨x,h,k⟩,j⟩);exact⟨λn e=>zFd (f n<|qR.2 ⟨a,i,e⟩),λn e=>zNC (d n<|qR.2 ⟨a,i,e⟩)⟩}
def z1f {st k:St}{o:Oper}(h:Agree st k o.op.operands.toList):ztc C k o=ztc C st o:=by cases f:o.op with|call c=>rw[f]at h;have l:∀x∈c.args.toList,x∈(Op.call c).operands.toList:=λx j=>(by simp only[Op.operands,Call.operands,Array.toList_append,jK];exact .inr j);simp only[ztc,f];(cases w:o.dst with|none=>rfl|some d=>(cases hg:o.guard with|some g=>rfl|none=>simp only;(cases q:c.callee with|builtin b=>(cases b with|append=>simp only;split;{rename_i x y T u i s;have j:=l x (by rw[i];simp);have m:=l y (by rw[i];simp);rw[h.at j,h.at m];split;{cases v:C.sty T with|none=>rfl|some t=>(cases e:st.at x with|none=>rfl|some a=>(cases a with|sl r p=>(cases p with|nil=>rfl|cons z p=>(cases n:st.at y with|none=>rfl|some b=>(cases b with|sl B A=>simp only[h.root<|zeU j e,h.node<|zeU j e,h.node<|zeU m n]|_=>rfl)))|_=>rfl))};{rfl}};{rfl}|_=>rfl)|_=>rfl)))|_=>simp only[ztc,f]
def zvD (g:CfgOk C)(e:Sim w0 S0 U st E ts sv w){o:Oper}{id:Nat}{d:Dl}(b:zmK o=true)(h:z0 C st o id=some d)(i:d.c=true):o.guard=none/\zvg C U st E ts w o d:=by
 unfold zmK at b;simp only[qE,jZ]at b;obtain⟨hg,b⟩:=b;refine⟨hg,?_⟩;cases a:o.op
 case move x=>
  rw[a]at b;cases x with
  |tmp t=>simp only[z0,a]at h;split at h;{rename_i v j;cases h;exact z8c e (.inl a) j};{cases h}
  |_=>simp at b
 (case load T x=>exact z8b g e a h);(case fieldAddr T x f=>exact zJt g e a h);(case indexAddr T x y=>exact zJu g e a h i);(case nilCheck x=>exact zPA e a h);all_goals (rw [a]at b;simp at b)
def pure_run {o:Oper}{i:Nat}{d:Dl}{v:Value}{Q:Exit->Act->World->Prop}{K:Act->World->Prop}(a:ops[i]?=some o)(hg:o.guard=none)(b:(execOp ({tmps:=ts,defers:=[]}:Act).eval o).run C.P w = .ok (.value v) w1)(h:K {tmps:=(({tmps:=ts,defers:=[]}:Act).put o.dst v).tmps,defers:=[]} w1):wpOp C.P ops Q i K {tmps:=ts,defers:=[]} w:=by unfold wpOp;simp only[a];rw[if_pos (by simp[Region.wanted,hg])];left;unfold Oper.wp;rw[b,Oper.upon_value,zkd];exact h
def zZY {d t:Nat}{v u:Value}(h:ts[t]?=some u)(a:d≠t):(({tmps:=ts,defers:=[]}:Act).put (some d) v).tmps[t]?=some u:=by simp[Act.put,vB a,h]
def z9Y (hC:CfgOk C)(hH:CtrOk C)(hG:GraftOk C){a A:Nat}(W:Waits md ops cl)(hA:a+ss.length=A)(c4:A+1<=ops.size)(c1:A+1<ops.size->Pinned ops.size cl (A+1))(F:Free C ops cl b base a ss st0)(hb:b=false->∀k,a<=k->k<A->zmg C ops k=false)(c6:b=true)(hd:b=true->Dead st0/\0<st0.ep)(hM:∀k,a<=k->k<A->∀n,Mine (base+32*k) n->¬ U n){D:Oper}{x:App}(d5:ops[A]?=some D)(y:ztc C (zbz ops b (fun _=>true) a ss st0) D=some (true,x))(d1:zz7 ops cl a A=true)(a5:x.dst<(zbz ops b (fun _=>true) a ss st0).tm.length)(N:∀i s o f,ss[i]?=some s->ops[a+i]?=some o->At1 C ops base (a+i) o (zbz ops b (fun j=>decide (j<a+i)) a ss st0) f s->a+i∉cl.getD A []->f.apart (zgU (zbz ops b (fun _=>true) a ss st0) ops D zGs)=true){Q:Exit->Act->World->Prop}(b0:∀(fl:Nat) (l':Array Bool) (E':Env) (B:LV) (w':World) (v:Value),l'.size=ops.size->(∀i,i<ops.size->l'.getD i true=decide (i<A+1))->left ops.size l'<=fl->B[x.dst]?=some v->
 Sim w0 S0 (UX U base a A (fun _=>true)) ((zbz ops b (fun _=>true) a ss st0).put D.dst (.v (.at .bad))) E' B sv w'->Late w0 ((zbz ops b (fun _=>true) a ss st0).put D.dst (.v (.at .bad))) E' x v w'->wpAny C.P md ops Q fl l' {tmps:=B,defers:=[]} w')(I:Nat)(g:Array Bool)(E:Env)(ts:LV)(w:World)(d6:g.size=ops.size)(hX:zkc cl (XL g))(b3:∀i,i<a->XL g i=true)(a6:∀m,A<=m->m<ops.size->XL g m=false)(hf:left ops.size g<=I)(hS:Sim w0 S0 (UX U base a A (XL g)) (zbz ops b (XL g) a ss st0) E ts sv w):wpAny C.P md ops Q I g {tmps:=ts,defers:=[]} w:=by
 have l:D.dst=some x.dst/\D.guard=none:=by unfold ztc at y;split at y;{rename_i c d ho l c9;refine⟨?_,c9⟩;rw[l];congr 1;(repeat' (first|(split at y)|(cases y)));all_goals first|rfl|(simp only [qC,jT]at y;obtain⟨_,rfl⟩:=y;rfl)};{cases y}
 have S:∀{X Y:Nat->Bool} {i:Nat},(∀k,Y k=(X k||k==i))->∀n,UX U base a A X n->UX U base a A Y n:=by intro X Y i V n h;rcases h with h|⟨k,h0,p,r,h3⟩;{exact .inl h};{exact .inr ⟨k,h0,p,by rw[V,r];rfl,h3⟩}
 have a8:∀{X:Nat->Bool} (q:Key),(∀j∈cl.getD A [],X j=true)->(zgU (zbz ops b (fun _=>true) a ss st0) ops D zGs).reads q->(zbz ops b X a ss st0).get q=(zbz ops b (fun _=>true) a ss st0).get q:=by intro X q hr H;refine zti ss a st0 st0 rfl rfl (fun k s' o' hk b9 a9 hw=>?_);obtain⟨o2,f',c0,r⟩:=F.at1 k s' hk;rw[b9]at c0;cases c0;have b1:X (a+k)=false:=(by cases h:X (a+k) with|false=>rfl|true=>exact absurd h a9);have hn:a+k∉cl.getD A []:=fun h=>(by rw[hr _ h]at b1;cases b1);exact((apart_spec (N k s' o' f' hk b9 r hn)).1 q ((zEO r q).1 hw)).1 H
 refine zNg (T:=A+1) (J:=fun X E ts w=>(X A=false->Sim w0 S0 (UX U base a A X) (zbz ops b X a ss st0) E ts sv w)/\
  (X A=true->∃v,ts[x.dst]?=some v/\Sim w0 S0 (UX U base a A X) ((zbz ops b X a ss st0).put D.dst (.v (.at .bad))) E ts sv w/\Late w0 (zbz ops b X a ss st0) E x v w)) W c4 c1 ?_ ?_ ?_
  I g E ts w d6 hX b3 (fun m p r=>a6 m (by omega) r) hf ⟨fun _=>hS,fun h=>(by rw[a6 A (qX _) (by omega)]at h;cases h)⟩
 .intro X Y E ts w h hJ;have u:X A=Y A:=h A (by omega) (by omega)
  have e:=zkT (ops:=ops) (b:=b) ss a st0 (X:=X) (Y:=Y) (fun k p r=>h k p (by omega))
  have hu:∀n,UX U base a A X n->UX U base a A Y n:=by rintro n (p|⟨k,h0,p,r,h3⟩);{exact .inl p};{exact .inr ⟨k,h0,p,by rw[<- h k h0 (by omega)];exact r,h3⟩}
  refine⟨fun G=>?_,fun G=>?_⟩
  .have:=hJ.1 (u.trans G);rw[e] at this;exact this.uses hu
  .obtain⟨v,p,r,h3⟩:=hJ.2 (u.trans G);rw[e]at r h3;exact⟨v,p,r.uses hu,h3⟩
 .intro X Y i hX hia hi hXi hr V E ts w hJ K hK
  by_cases d0:i=A
  .subst d0;have L:=hJ.1 hXi;have b2:zbz ops b Y a ss st0=zbz ops b X a ss st0:=zkT ss a st0 (fun k p r=>by
    rw[V];have:(k==i)=false:=by simp;omega
    rw[this,uO])
   have c5:Agree (zbz ops b (fun _=>true) a ss st0) (zbz ops b X a ss st0) D.op.operands.toList :=
    z8V (by rw[zhr,zhr]) (fun t ht=>a8 (.tm t) hr (by simp only[Foot.reads,zgU];exact j9 _ ht)) (fun n hn=>a8 (.ro n) hr hn) (fun n hn=>a8 (.lo n) hr hn)
   have a2:=z1f (C:=C) c5;rw[y]at a2;have c8:Dead (zbz ops b X a ss st0):=by subst c6;exact zBr ss a st0 (hd rfl).1 (hd rfl).2
   obtain⟨hg,c7,v,w',R,a7,hL⟩:=z97 hC L c8 a2;refine pure_run (d:=zGs) d5 hg R (hK E _ w' ⟨fun h=>(by rw[V]at h;simp at h),fun _=>⟨v,?_,?_,?_⟩⟩)
   .rw [c7];have d4:x.dst<ts.size:=by rw[L.tm.1,zqB];rw[zqB]at a5;exact a5
    simp[Act.put,d4]
   .rw [b2];exact a7.uses (S V)
   .rw [b2];exact hL
  .have hiA':i<A:=by omega
   have G:Y A=X A:=by rw[V];have:(A==i)=false:=(by simp;omega);rw[this,uO]
   cases u:X A with
   |false=>refine zFc hC hH hG hA F hX hia hiA' hXi hr hb hd hM V (hJ.1 u) (fun E' B w' a7=>hK E' B w' ⟨fun _=>a7,fun h=>(by rw[G,u]at h;cases h)⟩)
   |true=>
    obtain⟨v,hv,L,hL⟩:=hJ.2 u;obtain⟨j,rfl⟩:∃j,i=a+j:=⟨i-a,by omega⟩;obtain⟨s,hs⟩:∃s,ss[j]?=some s:=⟨_,qB (by omega)⟩;obtain⟨o,f,ho,p,r⟩:=zNB F hX hs hXi hr;have b8:a+j∉cl.getD A []:=fun h=>(by rw[hX A u _ h]at hXi;cases hXi);have O:zmK o=true:=(by have:=qP.1 d1 (a+j) (by simp;omega);simp only[ho,j6,jN,jA] at this;rcases this with h|h;{exact absurd h b8};{exact h});have a3:=apart_spec (N j s o f hs ho p b8);have c2:(zgU (zbz ops b (fun _=>true) a ss st0) ops D zGs).writes (.tm x.dst):=(by simp only[Foot.writes,zgU];exact l.1);have a9:∀q,f.reads q->q≠.tm x.dst:=fun q H e=>a3.2 (.tm x.dst) c2 (e ▸ H);have a4:o.dst≠some x.dst:=fun e=>(a3.1 (.tm x.dst) ((zEO p (.tm x.dst)).1 (by cases s<;>exact e))).2 c2;have a0:∀Z,(zbz ops b Z a ss st0).ep=st0.ep:=fun Z=>zhr ss a st0;have M:=zXK (S':=(zbz ops b X a ss st0).put D.dst (.v (.at .bad))) p (by rw[a0,l.1];exact a0 X) (fun q H=>by rw[l.1,get_put (a9 q H)];exact r q H);have b4:o.guard=none:=by unfold zmK at O;simp only[qE,jZ]at O;exact O.1
    cases s with
    |none=>exfalso;have:zdO ops o ((zbz ops b X a ss st0).put D.dst (.v (.at .bad)))=some false:=M;simp[zdO,b4] at this
    |some d=>
     obtain⟨_,d2,d3⟩:=M;obtain⟨_,v2,R,d7,b5,e1,e2,e3⟩:=zvD hC L O (zI7 O d2) d3;have z:∀q,(zbz ops b Y a ss st0).get q=((zbz ops b X a ss st0).put o.dst d.v).get q:=(by intro q;rw[zKs F hX hs ho hXi V q];simp only[St.step,St.effD,e1,e2,List.map_nil,jW]);have c3:Sim w0 S0 (UX U base a A X) (((zbz ops b X a ss st0).put D.dst (.v (.at .bad))).put o.dst d.v) E (({tmps:=ts,defers:=[]}:Act).put o.dst v2).tmps sv w:=L.putV d7 b5;refine pure_run (d:=d) ho b4 R (hK E _ w ⟨fun h=>(by rw[G,u]at h;cases h),fun _=>⟨v,?_,?_,?_⟩⟩);{cases a1:o.dst with|none=>exact hv|some t=>exact zZY hv (fun e=>a4 (by rw[a1,e]))}
     .refine(c3.same (fun q=>?_) ?_ ?_).uses (S V)
      .rw [l.1];cases q with
       |tm t=>
        have hk:=z (.tm t);have b6:(zbz ops b Y a ss st0).tm.length=(zbz ops b X a ss st0).tm.length:=(by rw[zqB,zqB]);by_cases ht:t=x.dst;{subst ht;cases a1:o.dst with|none=>simp[St.get,St.put,jC,b6]|some t' =>have:t'≠x.dst:=fun e=>a4 (by rw[a1,e]);simp[St.get,St.put,jC,b6,this]}
        .have hne':x.dst≠t:=fun e=>ht e.symm;rw[get_put (by simpa using ht),hk]
         cases a1:o.dst with
         |none=>simp[St.get,St.put,jC,hne']
         |some t' =>simp only[St.get,St.put,jC,List.length_set];split;{rfl};{first|rfl|rw[if_neg hne']}
       |ro n=>have hk:=z (.ro n);rw[get_put (by simp),hk];cases o.dst<;>rfl
       |lo n=>have hk:=z (.lo n);rw[get_put (by simp),hk];cases o.dst<;>rfl
      {rw [l.1];have p:(zbz ops b Y a ss st0).stk=(zbz ops b X a ss st0).stk:=(by rw[znA,znA]);cases o.dst<;>exact p};{rw [l.1];have p:(zbz ops b Y a ss st0).ep=(zbz ops b X a ss st0).ep:=(by rw[zhr,zhr]);cases o.dst<;>exact p}
     .have hro:∀n,zy (zbz ops b Y a ss st0).ro n=zy (zbz ops b X a ss st0).ro n:=fun n=>(by rw[zFd (z (.ro n))];cases o.dst<;>rfl);have b7:∀n,zy (zbz ops b Y a ss st0).lo n=zy (zbz ops b X a ss st0).lo n:=fun n=>by rw[zNC (z (.lo n))];cases o.dst<;>rfl
      exact hL.states (fun n=>by
       unfold St.root;rw[hro n,a0 Y,a0 X]) b7
 .intro fl l' E' B w' hsz' hl' hf' hJ;obtain⟨v,p,r,h3⟩:=hJ.2 rfl;refine b0 fl l' E' B w' v hsz' hl' hf' p r (h3.states (fun n=>?_) (fun n=>?_))
  .rw [l.1];rfl
  .rw [l.1];rfl
def zU4 {a b:At}(h:sameAt a b=true):a=b:=by
 cases a<;>cases b<;>simp only [sameAt]at h<;>try cases h
 case i.i k n k' n' =>
  by_cases e:k=k'
  .subst e;simp only[decide_true,cond_true,ieq,qK]at h;rw[h]
  .simp [e]at h
 case b.b x y=>simp only[zhn,qK]at h;rw[h]
 case sl.sl r p r' p' =>
  cases d:Nat.beq r r' with
  |false=>rw[d]at h;cases h
  |true=>rw[d,cond_true]at h;rw[jY d,ztX h]
 case lp.lp l o l' o' =>
  simp only[qE]at h;rw[jY h.1,jY h.2]
 case ep.ep r p i o r' p' i' o' =>
  cases d:(Nat.beq r r'&&Nat.beq o o') with
  |false=>rw[d]at h;cases h
  |true=>rw[d,cond_true]at h;simp only[qE]at d h;simp only[ieq,qK]at h;rw[jY d.1,jY d.2,h.1,ztX h.2]
 case fn.fn f c f' c' =>
  simp only[qE,qK]at h;rw[jY h.1,h.2]
def zPX:∀{l m:List At},zGQ l m=true->l=m
 |[],[],_=>rfl
 |a::l,b::m,h=>by simp only[zGQ,qE]at h;rw[zU4 h.1,zPX h.2]
 |[],_::_,h=>by cases h
 |_::_,[],h=>by cases h
def z8y {x y:MV}(h:zPY x y=true):x=y:=by unfold zPY at h;split at h;{rw [zU4 h]};{rw [zPX h]};{cases h}
def zuO {k:St->Option Ans}{a:Ans}:∀{f:List Nat},zqf C ops base k f st=some a->
 k st=some a/\∀j∈f,∃o d t,ops[j]?=some o/\z0 C st o (base+32*j)=some d/\d.c=true/\o.dst=some t/\st.tm[t]?=some d.v
 |[],h=>⟨h,λ_ h=>by cases h⟩
 |j::r,h=>by
  unfold zqf at h;split at h
  .rename_i o ho;split at h
   .rename_i d t hd ht;split at h
    .rename_i m hm;cases b:(d.c&&zPY d.v m) with
     |false=>rw[b]at h;cases h
     |true=>rw[b,cond_true]at h;obtain⟨g,l⟩:=zuO h;simp only[qE]at b;refine⟨g,λi e=>?_⟩;rcases qG.1 e with rfl|e;{exact⟨o,d,t,ho,hd,b.1,ht,by rw[hm,z8y b.2]⟩};{exact l i e}
    {cases h}
   {cases h}
  {cases h}
def zNu {ts a:LV}{x:Operand}(h:∀t,x = .tmp t->ts[t]?=a[t]?):({tmps:=ts,defers:=[]}:Act).eval x=({tmps:=a,defers:=[]}:Act).eval x:=by cases x with|tmp t=>simp only[Act.eval,Array.getD_eq_getD_getElem?,h t rfl]|_=>rfl
def zPq {o:Oper}{x:Operand}{t:Nat}(b:x∈o.op.operands.toList)(a:x = .tmp t):t∈zjO o:=by subst a;exact uF.2 ⟨_,b,rfl⟩
def z5v {o:Oper}(d:zmK o=true){ts b:LV}(h:∀t∈zjO o,ts[t]?=b[t]?):execOp ({tmps:=ts,defers:=[]}:Act).eval o=execOp ({tmps:=b,defers:=[]}:Act).eval o:=by have c:∀x∈o.op.operands.toList,({tmps:=ts,defers:=[]}:Act).eval x=({tmps:=b,defers:=[]}:Act).eval x:=λx g=>zNu λt e=>h t (zPq g e);unfold zmK at d;simp only[qE]at d;obtain⟨_,d⟩:=d;cases a:o.op;(case move x=>simp only[execOp,a,c x (by rw[a];simp[Op.operands])]);(case load T x=>simp only[execOp,a,c x (by rw[a];simp[Op.operands])]);(case fieldAddr T x f=>simp only[execOp,a,c x (by rw[a];simp[Op.operands])]);(case indexAddr T x y=>simp only[execOp,a,c x (by rw[a];simp[Op.operands]),c y (by rw[a];simp[Op.operands])]);(case nilCheck x=>simp only[execOp,a,c x (by rw[a];simp[Op.operands])]);all_goals (rw [a]at d;simp at d)
def zFy {o:Oper}(h:zsM o=true):o.guard=none/\∃c x,o.op = .call c/\c.callee = .value x:=by unfold zsM at h;simp only[qE,jZ]at h;refine⟨h.1.1,?_⟩;have a:=h.2;split at a;{rename_i c b;split at a;{rename_i x d;exact⟨c,x,b,d⟩};{cases a}};{cases a}
def z4a {o:Oper}(i:zsM o=true){ts a:LV}(h:∀t∈zjO o,ts[t]?=a[t]?):execOp ({tmps:=ts,defers:=[]}:Act).eval o=execOp ({tmps:=a,defers:=[]}:Act).eval o:=by have f:∀x∈o.op.operands.toList,({tmps:=ts,defers:=[]}:Act).eval x=({tmps:=a,defers:=[]}:Act).eval x:=λx e=>zNu λt j=>h t (zPq e j);obtain⟨_,c,x,d,b⟩:=zFy i;have e:=f x (by rw[d];simp[Op.operands,Call.operands,b]);have g:c.args.map ({tmps:=ts,defers:=[]}:Act).eval=c.args.map ({tmps:=a,defers:=[]}:Act).eval:=(by apply Array.map_congr_left;intro y k;exact f y (by rw[d];simp[Op.operands,Call.operands,b,k]));simp only[execOp,d,resolve,b,e,g]
def z6n {P:Program}{o:Oper}{i:Nat}(D:ops[i]?=some o)(z:zsM o=true){ts g:LV}(h:∀t∈zjO o,ts[t]?=g[t]?){p K:Act->World->Prop}{x Q:Exit->Act->World->Prop}(m:∀e a w,x e a w->e = .normal)(A:∀y j,p y j->y.defers=[])(c:∀v j,p (({tmps:=g,defers:=[]}:Act).put o.dst v) j->K (({tmps:=ts,defers:=[]}:Act).put o.dst v) j)(b:wpOp P ops x i p {tmps:=g,defers:=[]} w):wpOp P ops Q i K {tmps:=ts,defers:=[]} w:=by
 obtain⟨hg,_⟩:=zFy z;unfold wpOp at b ⊢;simp only[D]at b ⊢;rw[if_pos (by simp[Region.wanted,hg])]at b ⊢;rcases b with b|⟨_,a,w,s⟩
 .refine .inl ?_;unfold Oper.wp at b ⊢;rw[z4a z h];generalize (execOp ({tmps:=g,defers:=[]}:Act).eval o).run P w=r at b;cases r with
  |ok n j =>
   cases n with
   |value v=>exact c v j b
   |skip=>exact c undef j b
   |defer d=>exfalso;have:=A _ _ b;cases B:o.dst<;>simp [Act.put,B] at this
   |enter f k=>refine Calls.mono b ?_;intro e u l;cases e with|returned v=>exact c v u l|panicked q=>exact absurd (m _ _ _ l) (by simp)|outgrown=>obtain⟨a,F,s⟩:=l;exact absurd (m _ _ _ s) (by simp)
   |row E k=>exact Rows.mono b λv u l=>c v u l
   |_=>exact b.elim
  |halt C j =>cases C with|panic v=>exact absurd (m _ _ _ b) (by simp)|_=>exact b.elim
 {exact absurd (m _ _ _ s) (by simp)}
def zuf {m a j:Nat}:j∈zoo cl m a↔(m<=j/\j<m+(a-m))/\j∉cl.getD a []:=by unfold zoo;rw[List.mem_filter];simp
def VV (U:Nat->Prop)(base a m n:Nat):Prop:=U n\/(base<=n/\n<base+32*m)\/base+32*a<=n
def z9b (hC:CfgOk C)(hH:CtrOk C)(hG:GraftOk C)(hN:NameOk C){a8:zh6}(b5:ztT C a8){a A:Nat}(W:Waits md ops cl)(e8:a<=A)(hA:a+ss.length=A)(e4:A+1<=ops.size)(d4:A+1<ops.size->Pinned ops.size cl (A+1))(F:Free C ops cl b base a ss st0)(hb:b=false->∀k,a<=k->k<A->zmg C ops k=false)(hd:b=true->Dead st0/\0<st0.ep)(hM:∀k,a<=k->k<A->∀n,Mine (base+32*k) n->¬ U n){oA:Oper}(f6:ops[A]?=some oA)(f0:zsM oA=true)(f4:zz7 ops cl a A=true)(f5:zLx ops cl (zoo cl a A) oA=true){V:Nat->Prop}(c2:∀n,UX U base a A (fun _=>true) n->VV V base ops.size A n)(e6:∀n,base<=n->¬ V n)(d1:base+32*ops.size<=st0.nid)(hF:∀n,st0.nid<=n->¬ UX U base a A (fun _=>true) n){k:St->Option Ans}{a6:Ans}(c6:zpc C a8 ops base (zqf C ops base k (zoo cl a A)) [A] (zbz ops b (fun _=>true) a ss st0)=some a6){Q:Exit->Act->World->Prop}(b9:∀(fl:Nat) (l':Array Bool) (U':Nat->Prop) (a2:St) (E':Env) (L:LV) (w':World),l'.size=ops.size->(∀i,i<ops.size->l'.getD i true=decide (i<A+1))->left ops.size l'<=fl->
 Sim w0 S0 U' a2 E' L sv w'->(∀n,U' n->VV V base ops.size (A+1) n)->base+32*ops.size<=a2.nid->(∀n,a2.nid<=n->¬ U' n)->k a2=some a6->wpAny C.P md ops Q fl l' {tmps:=L,defers:=[]} w')(a3:Nat)(c:Array Bool)(E:Env)(ts:LV)(w:World)(f8:c.size=ops.size)(hX:zkc cl (XL c))(c4:∀i,i<a->XL c i=true)(b1:∀m,A<=m->m<ops.size->XL c m=false)(hf:left ops.size c<=a3)(hS:Sim w0 S0 (UX U base a A (XL c)) (zbz ops b (XL c) a ss st0) E ts sv w):wpAny C.P md ops Q a3 c {tmps:=ts,defers:=[]} w:=by
 have Z:∀{X Y:Nat->Bool},(∀k,X k=true->Y k=true)->∀n,UX U base a A X n->UX U base a A Y n:=by intro X Y e7 n h;rcases h with h|⟨k,h0,l,M,h3⟩;{exact .inl h};{exact .inr ⟨k,h0,l,e7 k M,h3⟩}
 have y:∀j∈zoo cl a A,∃p t,ops[j]?=some p/\p.dst=some t/\zmK p=true/\t∉zjO oA/\∀i∈zoo cl a A,∀q,ops[i]?=some q->(t∈zjO q->j∈cl.getD i [])/\(i=j\/q.dst≠some t):=by intro j g;have l:=qP.1 f5 j g;split at l;{rename_i p hp;split at l;{rename_i t z;simp only[qE,jE,qP]at l;have M:=qP.1 f4 j (by obtain⟨⟨g1,g2⟩,_⟩:=zuf.1 g;simp;omega);simp only[hp,j6,jN,jA]at M;refine⟨p,t,hp,z,M.resolve_left (zuf.1 g).2,by simpa using l.1,fun i hi q hq=>?_⟩;have h3:=l.2 i hi;simp only[hq,qE,j6,jE,qK,jN,jA,decide_eq_false_iff_not]at h3;refine⟨fun hm=>h3.1.resolve_left (fun hn=>hn hm),?_⟩;rcases h3.2 with h|h;{exact .inl h};{exact .inr (by simpa using h)}};{cases l}};{cases l}
 have I:∀{X:Nat->Bool} {i:Nat},a<=i->i<A->X i=false->(∀j∈cl.getD A [],X j=true)->i∈zoo cl a A:=by intro X i l M h3 h4;exact zuf.2 ⟨⟨l,by omega⟩,fun h=>by rw[h4 i h]at h3;cases h3⟩
 let Ag:(Nat->Bool)->LV->LV->Prop:=fun X ts f=>ts.size=f.size/\∀t,(∀j∈zoo cl a A,X j=false->∀o,ops[j]?=some o->o.dst≠some t)->ts[t]?=f[t]?
 refine zNg (T:=A+1) (J:=fun X E ts w=>(X A=false->Sim w0 S0 (UX U base a A X) (zbz ops b X a ss st0) E ts sv w)/\
  (X A=true->∃(N:Nat->Prop) (st1:St) (f:LV),Sim w0 S0 N st1 E f sv w/\(∀n,N n->VV V base ops.size (A+1) n)/\base+32*ops.size<=st1.nid/\(∀n,st1.nid<=n->¬ N n)/\zqf C ops base k (zoo cl a A) st1=some a6/\Ag X ts f)) W e4 d4 ?_ ?_ ?_
  a3 c E ts w f8 hX c4 (fun m l M=>b1 m (by omega) M) hf ⟨fun _=>hS,fun h=>(by rw[b1 A (qX _) (by omega)]at h;cases h)⟩
 .intro X Y E ts w h hJ;have G:X A=Y A:=h A (by omega) (by omega)
  have e:=zkT (ops:=ops) (b:=b) ss a st0 (X:=X) (Y:=Y) (fun k l M=>h k l (by omega))
  refine⟨fun a0=>?_,fun a0=>?_⟩
  .have:=hJ.1 (G.trans a0);rw[e] at this;refine this.uses ?_
   rintro n (l|⟨k,h0,l,M,h3⟩)
   .exact .inl l
   .exact .inr ⟨k,h0,l,by rw[<- h k h0 (by omega)];exact M,h3⟩
  .obtain⟨N,st1,f,l,M,h3,h4,h5,h6,h7⟩:=hJ.2 (G.trans a0);refine⟨N,st1,f,l,M,h3,h4,h5,h6,fun t z=>h7 t (fun j g r=>z j g ?_)⟩;have:=zuf.1 g;rw[<- h j this.1.1 (by omega)]
   exact r
 .intro X Y i hX hia hi hXi hr hY E ts w hJ K hK
  by_cases f3:i=A
  .subst f3;have c1:=hJ.1 hXi
   have b3:∀n,a<=n->n<=i->∃f,Sim w0 S0 (UX U base a i (fun k=>X k||decide (k<n))) (zbz ops b (fun k=>X k||decide (k<n)) a ss st0) E f sv w/\Ag X ts f:=by
    intro n
    induction n with
    |zero=>intro h0 _;have e:(fun k=>X k||decide (k<0))=X:=(by funext k;simp);rw[e];exact⟨ts,c1,rfl,fun _ _=>rfl⟩
    |succ n ih=>
     intro l M;by_cases g0:a=n+1
     .have e:zbz ops b (fun k=>X k||decide (k<n+1)) a ss st0=zbz ops b X a ss st0:=zkT ss a st0 (fun k g1 g2=>by
       have:¬ k<n+1:=by omega
       simp[this])
      rw[e];refine⟨ts,c1.uses (Z fun k x=>by simp[x]),rfl,fun _ _=>rfl⟩
     .obtain⟨f,D,B⟩:=ih (by omega) (by omega);have b2:∀k,(X k||decide (k<n+1))=((X k||decide (k<n))||k==n):=fun k=>by by_cases x:k<n;{have:k<n+1:=(by omega);simp[x,this]};{by_cases c9:k=n;{subst c9;simp};{have:¬ k<n+1:=(by omega);simp[x,c9,this]}}
      cases a7:X n with
      |true=>have e:(fun k=>X k||decide (k<n+1))=fun k=>X k||decide (k<n):=(by funext k;rw[b2 k];by_cases x:k=n;{subst x;simp[a7]};{simp [x]});rw[e];exact⟨f,D,B⟩
      |false=>
       have d0:=I (by omega) (by omega) a7 hr;obtain⟨p,t,hp,z,H,_⟩:=y n d0;have c5:zkc cl (fun k=>X k||decide (k<n)):=(by intro k x j g;simp only[j6,jA]at x ⊢;rcases x with x|x;{exact .inl (hX k x j g)};{have:=W.lt k (by omega) j g;exact .inr (by omega)});obtain⟨q,rfl⟩:∃q,n=a+q:=⟨n-a,by omega⟩;obtain⟨s,hs⟩:∃s,ss[q]?=some s:=⟨_,qB (by omega)⟩;have a9:(X (a+q)||decide (a+q<a+q))=false:=by simp[a7]
       obtain⟨o,S,c7⟩:=zUE F c5 hs a9 (fun j g=>by
        have:=W.lt (a+q) (by omega) j g
        simp[this])
       rw[hp]at S;cases S;have b6:p.guard=none:=by unfold zmK at H;simp only[qE,jZ]at H;exact H.1
       cases s with
       |none=>exfalso;have:zdO ops p (zbz ops b (fun k=>X k||decide (k<a+q)) a ss st0)=some false:=c7;simp[zdO,b6] at this
       |some d=>obtain⟨_,d2,d3⟩:=c7;obtain⟨_,v2,a5,c0,a4,e1,e2,e3⟩:=zvD hC D H (zI7 H d2) d3;have d6:∀κ,(zbz ops b (fun k=>X k||decide (k<a+q+1)) a ss st0).get κ=((zbz ops b (fun k=>X k||decide (k<a+q)) a ss st0).put p.dst d.v).get κ:=(by intro κ;rw[zKs F c5 hs hp a9 (fun k=>b2 k) κ];simp only[St.step,St.effD,e1,e2,List.map_nil,jW]);have e0:=D.putV (dst:=p.dst) c0 a4;refine⟨(({tmps:=f,defers:=[]}:Act).put p.dst v2).tmps,(e0.same d6 ?_ ?_).uses (Z fun k x=>?_),?_,?_⟩;{rw [znA,zTj,znA]};{rw [zhr,zZX,zhr]};{simp only [j6,jA]at x ⊢;rcases x with x|x;{exact .inl x};{exact .inr (by omega)}};{rw [z];simp[Act.put,B.1]};{intro t' a1;rw[B.2 t' a1,z];have b8:t≠t':=fun e=>a1 _ d0 a7 p hp (by rw[z,e]);simp[Act.put,vB b8]}
   obtain⟨f,D,B⟩:=b3 i e8 (qX _);have e:=zkT (ops:=ops) (b:=b) ss a st0 (X:=fun k=>X k||decide (k<i)) (Y:=fun _=>true) (fun k l M=>by
    have:k<i:=by omega
    simp[this])
   rw[e]at D;have D:=D.uses (Z (Y:=fun _=>true) fun _ _=>rfl)
   let Q1:Exit->Act->World->Prop:=fun e a' w'=>e = .normal/\a'.defers=[]/\∃(N:Nat->Prop) (st1:St) (E1:Env),Sim w0 S0 N st1 E1 a'.tmps sv w'/\(∀n,N n->VV V base ops.size (i+1) n)/\base+32*ops.size<=st1.nid/\(∀n,st1.nid<=n->¬ N n)/\zqf C ops base k (zoo cl a i) st1=some a6
   have R:(zbz ops b (fun _=>true) a ss st0).nid=st0.nid:=zxM ss a st0;have d8:=znz (Q:=Q1) hC hH hG hN b5 (ops:=ops) (base:=base) (V:=VV V base ops.size (i+1)) (nid0:=base+32*ops.size) (fun n O=>.inr (.inr O))
    (fun U' a2 E' L w' b4 e5 O d9 h'=>⟨rfl,rfl,U',a2,E',b4,e5,O,d9,h'⟩)
    [i] _ _ E f w D ?_ (by rw[R];exact hF) ?_ (by simp) (by rw[R];exact d1) ?_ c6
   .rw [wpOps_cons] at d8;refine z6n f6 f0 (fun t z=>B.2 t (fun j g r o S u=>?_)) (fun e a w h=>h.1) (fun a' w' h=>h.2.1) (fun v w' h=>?_) d8
    .obtain⟨p,t',hp,hpt,_,hn,_⟩:=y j g;rw[hp]at S;cases S;rw[hpt]at u;cases u;exact hn z
    .obtain⟨_,_,N,st1,E1,g1,g2,g3,g4,g5⟩:=h;rw[zkd];refine hK E1 _ w' ⟨fun h=>(by rw[hY]at h;simp at h),fun _=>⟨N,st1,_,g1,g2,g3,g4,g5,?_,?_⟩⟩
     .cases oA.dst<;>simp [Act.put,B.1]
     .intro t z;have h0:ts[t]?=f[t]?:=B.2 t (fun j g r=>z j g (by
       have:=zuf.1 g;rw[hY,r];simp;omega))
      cases b0:oA.dst with
      |none=>simpa [Act.put,b0] using h0
      |some d=>simp only[Act.put,b0,kM,B.1];split;{rfl};{exact h0}
   .rintro n O
    rcases c2 n O with h|⟨l,M⟩|h
    .exact .inl h
    .exact .inr (.inl ⟨l,by omega⟩)
    .exact .inr (.inr h)
   .intro j g n hmn;simp only[qF]at g;subst g;obtain⟨g1,g2⟩:=hmn;refine⟨fun O=>?_,.inr (.inl ⟨by omega,by omega⟩)⟩
    rcases c2 n O with h|⟨l,M⟩|h
    .exact e6 n (by omega) h
    .omega
    .omega
   .intro j g;simp only[qF]at g;subst g;rw[R];omega
  .have hiA':i<A:=by omega
   have a0:Y A=X A:=by rw[hY];have:(A==i)=false:=(by simp;omega);rw[this,uO]
   cases G:X A with
   |false=>refine zFc hC hH hG hA F hX hia hiA' hXi hr hb hd hM hY (hJ.1 G) (fun E' L w' b4=>hK E' L w' ⟨fun _=>b4,fun h=>(by rw[a0,G]at h;cases h)⟩)
   |true=>
    obtain⟨N,st1,f,g1,g2,g3,g4,g5,g6,g7⟩:=hJ.2 G;have b7:=I hia hiA' hXi (fun j g=>hX A G j g);obtain⟨p,t,hp,z,H,_,g8⟩:=y i b7;obtain⟨o,d,t2,S,f2,f1,d7,f9⟩:=(zuO g5).2 i b7;rw[hp]at S;cases S;rw[z]at d7;cases d7;obtain⟨b6,v2,a5,c0,a4,_,_,_⟩:=zvD hC g1 H f2 f1;have e9:execOp ({tmps:=ts,defers:=[]}:Act).eval p=execOp ({tmps:=f,defers:=[]}:Act).eval p:=z5v H (fun t' a1=>g7 t' (fun j g r o S u=>by
     obtain⟨p2,t3,f7,d5,_,_,c3⟩:=y j g;rw[f7]at S;cases S;rw[d5]at u;cases u;have:=hr j ((c3 i b7 p hp).1 a1);rw[this]at r;cases r))
    rw[<- e9]at a5;refine pure_run (d:=d) hp b6 a5 (hK E _ w ⟨fun h=>(by rw[a0,G]at h;cases h),fun _=>⟨N,st1,(({tmps:=f,defers:=[]}:Act).put p.dst v2).tmps,?_,g2,g3,g4,g5,?_,?_⟩⟩);{have:=g1.putV (dst:=p.dst) c0 a4;rw[z,zL3 f9] at this;rw[z];exact this};{rw [z];simp[Act.put,g6]};{intro t' a1;rw[z];simp only[Act.put,kM,g6];split;{rfl};{rename_i b8;refine g7 t' (fun j g r o S u=>?_);by_cases c8:j=i;{subst c8;rw[hp]at S;cases S;rw[z]at u;cases u;exact b8 rfl};{refine a1 j g ?_ o S u;rw[hY,r];simp[c8]}}}
 .intro fl l' E' L w' hsz' hl' hf' hJ;obtain⟨N,st1,f,g1,g2,g3,g4,g5,g6,g7⟩:=hJ.2 rfl;have:L=f:=Array.ext_getElem? fun t=>g7 t (fun j _ h=>by cases h)
  subst this;exact b9 fl l' N st1 E' L w' hsz' hl' hf' g1 g2 g3 g4 (zuO g5).1
def zz8 (N:CfgOk C)(W:Waits md ops cl){x:App}{kk:Nat->List Bool->St->Option Ans}{s:Ans}{Q:Exit->Act->World->Prop}(B:∀(H:Nat) (r':List Bool) (L:Nat->Prop) (j:St) (K:Env) (I:LV) (J:World) (u:Nat) (p:Array Bool),r'=(zjP ops.size cl).drop H->H<=ops.size->p.size=ops.size->(∀i,i<ops.size->p.getD i true=decide (i<H))->left ops.size p<=u->
 Sim w0 S0 L j K I sv J->(∀n,L n->VV U base ops.size H n)->(∀n,j.nid<=n->¬ L n)->base+32*ops.size<=j.nid->kk H r' j=some s->wpAny C.P md ops Q u p {tmps:=I,defers:=[]} J) :
 ∀(l:List Bool) (m:Nat) (V:Nat->Prop) (st:St) (E:Env) (ts:LV) (w:World) (b:Nat) (a:Array Bool) (v:Value),l=(zjP ops.size cl).drop m->m<=ops.size->a.size=ops.size->(∀i,i<ops.size->a.getD i true=decide (i<m))->left ops.size a<=b->
  Sim w0 S0 V st E ts sv w->(∀n,V n->VV U base ops.size m n)->(∀n,st.nid<=n->¬ V n)->base+32*ops.size<=st.nid->ts[x.dst]?=some v->Late w0 st E x v w->zsO C ops base x kk l m st=some s->wpAny C.P md ops Q b a {tmps:=ts,defers:=[]} w
 |[],m,V,st,E,ts,w,b,a,v,_,_,_,_,_,_,_,_,_,_,_,h=>by simp[zsO]at h
 |false::r,m,V,st,E,ts,w,b,a,v,_,_,_,_,_,_,_,_,_,_,_,h=>by simp[zsO]at h
 |true::r,m,V,st,E,ts,w,b,a,v,hp,hm,Y,hl,hf,O,hV,hF,hn,Z,hL,h=>by
  simp only[zsO]at h;obtain⟨T,F,hr⟩:=zui hp;have y:∀n,V n->VV U base ops.size (m+1) n:=(by rintro n g;rcases hV n g with h|⟨M,h2⟩|h;{exact .inl h};{exact .inr (.inl ⟨M,by omega⟩)};{exact .inr (.inr h)});refine z3w W Y T (zy7 F.symm) hl hf (λu p k D z _ _=>?_);split at h;{cases h}
  .rename_i o ho;split at h
   .rename_i c st2 hst;cases q:c with
    |false=>rw[q]at h;cases h
    |true=>rw[q]at h hst;simp only[cond_true,zGa]at h;obtain⟨hg,S,a1⟩:=z4V (id:=base+32*m) N O hL Z hst;unfold wpOp;simp only[ho];rw[if_pos (by simp[Region.wanted,hg])];refine .inl (S _ _ λK v' J R=>?_);rw[zkd];refine B (m+1) r _ _ K _ J u p hr (by omega) k D z R ?_ ?_ (by rw[zg4];omega) h;{rintro n (h|⟨M,h2⟩);{exact y n h};{exact .inr (.inl ⟨by omega,by omega⟩)}};{rintro n g (h|⟨M,h2⟩);{exact hF n (by rw[zg4]at g;omega) h};{rw [zg4]at g;omega}}
   {split at h;{rename_i f;simp only[qE,jE,beq_eq_false_iff_ne]at f;split at h;{rename_i d hd;cases q:d.c with|false=>rw[q]at h;cases h|true=>rw[q]at h;simp only[cond_true]at h;obtain⟨hg,v2,G,a0,A,e1,e2,e3⟩:=zvD N O f.1 hd q;have he:st.apply o.dst d=st.put o.dst d.v:=(by simp[St.apply,e1,e2,e3]);rw[he]at h;refine pure_run (d:=d) ho hg G ?_;refine zz8 N W B r (m+1) V _ E _ w u p v hr (by omega) k D z (O.putV a0 A) y (by rw[zg4];exact hF) (by rw[zg4];exact hn) ?_ (hL.states (λn=>?_) λn=>?_) h;{cases X:o.dst with|none=>exact Z|some t=>exact zZY Z (λe=>f.2 (by rw[X,e]))};{cases o.dst<;>rfl};{cases o.dst<;>rfl}};{cases h}};{cases h}}
def zmG (hC:CfgOk C)(hH:CtrOk C)(hG:GraftOk C)(hN:NameOk C){a7:zh6}(u:ztT C a7)(W:Waits md ops cl){k:St->Option Ans}{b6:Ans}{Q:Exit->Act->World->Prop}(L:∀n,base<=n->¬ U n)(hk:∀(U':Nat->Prop) (g:St) (E':Env) (B:LV) (w':World),Sim w0 S0 U' g E' B sv w'->(∀n,U' n->VV U base ops.size ops.size n)->base+32*ops.size<=g.nid->(∀n,g.nid<=n->¬ U' n)->k g=some b6->Q .normal {tmps:=B,defers:=[]} w') :
 ∀(fs m:Nat) (a5:List Bool) (V:Nat->Prop) (st:St) (E:Env) (ts:LV) (w:World) (l:Nat) (c:Array Bool),a5=(zjP ops.size cl).drop m->m<=ops.size->c.size=ops.size->(∀i,i<ops.size->c.getD i true=decide (i<m))->left ops.size c<=l->
  Sim w0 S0 V st E ts sv w->(∀n,V n->VV U base ops.size m n)->(∀n,st.nid<=n->¬ V n)->base+32*ops.size<=st.nid->zmX C a7 ops cl base k fs m a5 st=some b6->wpAny C.P md ops Q l c {tmps:=ts,defers:=[]} w
 | 0,m,a5,V,st,E,ts,w,l,c,_,_,_,_,_,_,_,_,_,h=>by simp[zmX]at h
 |fs+1,m,[],V,st,E,ts,w,l,c,hp,hm,K,hl,hf,hS,hV,hF,hn,h=>by simp only[zmX]at h;have b4:=zZT hp;have e:m=ops.size:=(by omega);subst e;exact zbah (λi hi=>by rw[hl i hi];simp[hi]) (hk V st E ts w hS hV hn hF h)
 |fs+1,m,true::r,V,st,E,ts,w,l,c,hp,hm,K,hl,hf,hS,hV,hF,hn,h=>by
  simp only[zmX]at h;obtain⟨b4,c1,hr⟩:=zui hp;refine z3w W K b4 (zy7 c1.symm) hl hf (λfl l' A N M _ _=>?_)
  let Q':Exit->Act->World->Prop:=λe a w=>match e with
   |.normal=>wpAny C.P md ops Q fl l' a w
   |e=>Q e a w
  have hQ:∀e,e≠Exit.normal->∀a w,Q' e a w->Q e a w:=by intro e he a w h;cases e<;>first|exact absurd rfl he|exact h
  refine z6m hQ ?_;have c2:=znz (Q:=Q') hC hH hG hN u (ops:=ops) (base:=base) (V:=VV U base ops.size (m+1)) (nid0:=base+32*ops.size) (λn p=>.inr (.inr p))
   (λU' g E' B w' X c8 p c7 h'=>zmG hC hH hG hN u W L hk fs (m+1) r U' g E' B w' fl l' hr (by omega) A N M X c8 c7 p h')
   [m] V st E ts w hS ?_ hF ?_ (by simp) hn ?_ h
  {rw [wpOps_cons] at c2;exact wpOp_mono (λa w h=>h) c2};{rintro n p;rcases hV n p with h|⟨t,D⟩|h;{exact .inl h};{exact .inr (.inl ⟨t,by omega⟩)};{exact .inr (.inr h)}};{intro j hj n d3;simp only[qF]at hj;subst hj;obtain⟨S,g2⟩:=d3;refine⟨λp=>?_,.inr<|.inl ⟨by omega,by omega⟩⟩;rcases hV n p with h|⟨t,D⟩|h;{exact L n (by omega) h};{omega};{omega}};{intro j hj;simp only[qF]at hj;subst hj;omega}
 |fs+1,m,false::r,V,st,E,ts,w,l,c,hp,hm,K,hl,hf,hS,hV,hF,hn,h=>by
  simp only[zmX]at h;obtain⟨b4,_,hr⟩:=zui hp;obtain⟨b9,a0,a1⟩:=zUW r (m+1) (by omega) hr;generalize b8:(List.range' m<|zcs r+1).any (zmg C ops)=b at h;have F:Sim w0 S0 V {st with ep:=if b then st.ep+1 else st.ep} E ts sv w:=hS.blind b st.nid;have z:({st with ep:=if b then st.ep+1 else st.ep}:St).nid=st.nid:=rfl
  have Y:b=true->Dead ({st with ep:=if b then st.ep+1 else st.ep}:St)/\0<({st with ep:=if b then st.ep+1 else st.ep}:St).ep:=by
   intro hb;subst hb;refine⟨λn R e hR he=>?_,by simp⟩
   have:=hS.mem.epo n R e hR he;simp only[if_true];omega
  have b1:b=false->∀k,m<=k->k<m+1+zcs r->zmg C ops k=false:=(by intro hb k e0 e4;rw[hb]at b8;have:=kW.1 b8 k (by simp;omega);simpa using this);have hM:∀k,m<=k->k<m+1+zcs r->∀n,Mine (base+32*k) n->¬ V n:=by intro k t D n p hv;have S:=p.1;have g2:=p.2;rcases hV n hv with h|⟨h3,h4⟩|h;{exact L n (by omega) h};{omega};{omega}
  have a4:∀(ss:List Step) (st0:St),zbz ops b (XL c) m ss st0=st0:=λss st0=>zxN ss m st0 (λk hk=>by
   rcases uS k ops.size with h|h
   .rw [zvh (by omega),hl k h];simp;omega
   .simp [XL,uZ (show c.size<=k by omega)])
  have b7:∀{T:Nat},T<=m+(zcs r+1)->∀n,UX V base m T (λ_=>true) n->VV U base ops.size (m+(zcs r+1)) n:=(by rintro T hT n (h|⟨k,h0,t,_,h3⟩);{rcases hV n h with h|⟨t,D⟩|h;{exact .inl h};{exact .inr (.inl ⟨t,by omega⟩)};{exact .inr (.inr h)}};{have S:=h3.1;have g2:=h3.2;exact .inr (.inl ⟨by omega,by omega⟩)});have b0:∀{T:Nat},T<=m+(zcs r+1)->∀n,st.nid<=n->¬ UX V base m T (λ_=>true) n:=(by rintro T hT n p (h|⟨k,h0,t,_,h3⟩);{exact hF n (by omega) h};{have:=h3.2;omega});have b3:∀{gs:List (Nat×Foot)} {ss:List Step} {st0 g:St},(∀x∈gs,∀y∈gs,(¬ x.1<y.1\/x.1∈cl.getD y.1 [])\/x.2.apart y.2=true)->Trace C ops b base m ss gs st0 g->Free C ops cl b base m ss st0:=(by intro gs ss st0 g d q;have Z:=z02 q;refine⟨λi s hs=>?_,λi k s s' o o' f f' hs d5 ho d4 t D d9 b5=>?_⟩;{obtain⟨o,f,S,g2,g3⟩:=Z i s hs;exact⟨o,f,S,g3⟩};{obtain⟨o1,f1,S,g2,g3⟩:=Z i s hs;obtain⟨o2,f2,e1,e2,e3⟩:=Z k s' d5;rw[ho] at S;cases S;rw[d4] at e1;cases e1;have b2:=zJ5 t g3;have d2:=zJ5 D e3;subst b2 d2;rcases d _ g2 _ e2 with (h|h)|h;{exact absurd (by show m+i<m+k;omega) h};{exact absurd h b5};{exact h}});have J:∀i,i<m->XL c i=true:=λi hi=>(by rw[zvh (by omega),hl i (by omega)];simp[hi]);have I:∀k,m<=k->k<ops.size->XL c k=false:=λk t D=>(by rw[zvh (by omega),hl k D];simp;omega);rcases zuH (zcs r+1) m [] _ h with⟨ss,gs,g,a8,q,d,G⟩|⟨ss,gs,g,oA,x,a8,q,a3,c9,d0,a2,d6,d,G⟩|⟨ss,gs,g,oA,a8,q,a3,d1,a2,c0,d,G⟩;{rw [jF]at d;unfold zoe at d;simp only[jE,qP,j6,decide_eq_false_iff_not,jN,jA,vK]at d;generalize a9:({st with ep:=if b then st.ep+1 else st.ep}:St)=st0 at q F z Y;have H:g=zbz ops b (λ_=>true) m ss st0:=zGk q;refine z9P (w0:=w0) (S0:=S0) (sv:=sv) hC hH hG W (T:=m+1+zcs r) (by omega) b9 a1 (b3 d q) b1 Y hM (λfl l' E' B w' A N M X=>?_) l c E ts w K (zpG W K hl) J (λk t D=>I k (by omega) D) hf ?_;{rw [<- H]at X;have O:g.nid=st.nid:=(by rw[H,zxM,z]);exact zmG hC hH hG hN u W L hk fs (m+(zcs r+1)) (r.drop<|zcs r) _ g E' B w' fl l' (by rw[a0];congr 1;omega) (by omega) A (λi hi=>by rw[N i hi];congr 1;simp only[eq_iff_iff];omega) M X (b7 (by omega)) (by rw[O];exact b0 (by omega)) (by omega) G};{rw [a4];exact F.uses (λn h=>.inl h)}}
  .rw [jF]at d;unfold zoe at d;simp only[jE,qP,j6,decide_eq_false_iff_not,jN,jA,qG,vK]at d;generalize a9:({st with ep:=if b then st.ep+1 else st.ep}:St)=st0 at q F z Y;have H:g=zbz ops b (λ_=>true) m ss st0:=zGk q;subst H;have hA:m+ss.length=m+zcs r:=by omega
   rw[hA]at a3 a2 d;have Z:=z02 q;refine z9Y (w0:=w0) (S0:=S0) (sv:=sv) hC hH hG W hA (by omega) (λh=>by
    have e:m+zcs r+1=m+1+zcs r:=by omega
    rw[e]at h ⊢;exact a1 h) (b3 (λx hx y hy=>d x (.inr hx) y (.inr hy)) q) (λhb k t D=>b1 hb k t (by omega)) d0 Y (λk t D=>hM k t (by omega)) a3 c9 a2 d6 (λi s o f hs ho t b5=>?_)
    (λfl l' E' B w' v A N M hv X hL=>?_) l c E ts w K (zpG W K hl) J (λk t D=>I k (by omega) D) hf ?_
   {obtain⟨o1,f1,S,g2,g3⟩:=Z i s hs;rw[ho] at S;cases S;have b2:=zJ5 t g3;subst b2;have hi:i<ss.length:=(qA.1 hs).1;rcases d _ (.inr g2) _ (.inl rfl) with (h|h)|h;{exact absurd (by show m+i<m+zcs r;omega) h};{exact absurd h b5};{exact h}}
   .have O:((zbz ops b (λ_=>true) m ss st0).put oA.dst (.v<|.at .bad)).nid=st.nid:=by rw[zg4,zxM,z]
    exact zz8 hC W (λm' r' U' a6 c4 c3 d8 c5 d7 t D h3 h4 h5 h6 h7 h8 h9 c6=>zmG hC hH hG hN u W L hk fs m' r' U' a6 c4 c3 d8 c5 d7 t D h3 h4 h5 h6 h7 h8 h9 c6)
     (r.drop<|zcs r) (m+(zcs r+1)) _ _ E' B w' fl l' v (by rw[a0];congr 1;omega) (by omega) A (λi hi=>by rw[N i hi];congr 1) M X (b7 (by omega)) (by rw[O];exact b0 (by omega)) (by omega) hv hL G
   {rw [a4];exact F.uses (λn h=>.inl h)}
  .rw [jF]at d;unfold zoe at d;simp only[jE,qP,j6,decide_eq_false_iff_not,jN,jA,vK]at d;generalize a9:({st with ep:=if b then st.ep+1 else st.ep}:St)=st0 at q F z Y;have H:g=zbz ops b (λ_=>true) m ss st0:=zGk q;subst H;have hA:m+ss.length=m+zcs r:=by omega
   rw[hA]at a3 a2 c0 G;refine z9b (w0:=w0) (S0:=S0) (sv:=sv) (V:=U) hC hH hG hN u W (by omega) hA (by omega) (λh=>by
    have e:m+zcs r+1=m+1+zcs r:=by omega
    rw[e]at h ⊢;exact a1 h) (b3 d q) (λhb k t D=>b1 hb k t (by omega)) Y (λk t D=>hM k t (by omega)) a3 d1 a2 c0 ?_ L (by omega) (λn p=>by rw[z]at p;exact b0 (by omega) n p) G
    (λfl l' U' a6 E' B w' A N M S g2 g3 g4 g5=>zmG hC hH hG hN u W L hk fs (m+(zcs r+1)) (r.drop<|zcs r) U' a6 E' B w' fl l' (by rw[a0];congr 1;omega) (by omega) A (λi hi=>by rw[N i hi];congr 1) M S g2 g4 g3 g5)
    l c E ts w K (zpG W K hl) J (λk t D=>I k (by omega) D) hf ?_
   {rintro n (h|⟨k,h0,t,_,h3⟩);{rcases hV n h with h|⟨t,D⟩|h;{exact .inl h};{exact .inr (.inl ⟨t,by omega⟩)};{exact .inr (.inr h)}};{have S:=h3.1;have g2:=h3.2;exact .inr (.inl ⟨by omega,by omega⟩)}};{rw [a4];exact F.uses (λn h=>.inl h)}
def zbdk (Z:CfgOk C)(hH:CtrOk C)(hG:GraftOk C)(hN:NameOk C):DrawOk C:=by
 refine⟨λN g ops k X Q w0 S0 sv U0 S U st E ts w hk hS hU O hn h t=>?_⟩;unfold zKq at h;simp only at h;generalize I:zks ops (List.range ops.size) []=cl at h;split at h;(case isFalse=>cases h);rename_i j;unfold z7i at j;simp only[qE,qP,kR,jA]at j;obtain⟨a,s⟩:=j;have d:∀i,i<ops.size->cl.getD i []=waits ops (cl.take i) i:=λi r=>(by rw[<- I];exact z4b r);have f:∀(md:Region.Mode) (c:Nat->Nat),zTd md ops c=true->∃c:Nat->Nat,∀(i:Nat) (o:Oper),ops[i]?=some o->∀e∈o.after,Region.binds md e=true->e.on<ops.size/\c e.on<c i:=by intro md c h;refine⟨c,λi o v e J H=>?_⟩;have:=qP.1 h i (kR.2 (qO.1 v).1);rw[v] at this;have:=qP.1 this e (by simpa using J);simpa [H] using this
 have p:∀(md:Region.Mode),(∀e,Region.binds .any e=true->Region.binds md e=true)->(∃c:Nat->Nat,∀(i:Nat) (o:Oper),ops[i]?=some o->∀e∈o.after,Region.binds md e=true->e.on<ops.size/\c e.on<c i)->Waits md ops cl :=
  λmd y A=>⟨d,s,y,A⟩
 have m:∀e,Region.binds .any e=true->Region.binds .text e=true:=λe h=>(by unfold Region.binds at *;cases hg:e.ground<;>rw [hg]at h<;>simp at h ⊢);have l:∀e,Region.binds .any e=true->Region.binds .gc e=true:=λe h=>by unfold Region.binds at *;cases hg:e.ground<;>rw [hg]at h<;>simp at h ⊢
 have b:∃md L,Region.schedule (C.P.follows .mixedOrders) ops t=Region.linearise md ops L/\Waits md ops cl:=by
  have q:Waits .any ops cl:=p .any (λ_ h=>h) ⟨λi=>i,λi o v e J H=>by
   have y:=zbdm d v J H;have r:=(qO.1 v).1;have A:=s i r _ y;exact⟨by omega,A⟩⟩
  unfold Region.schedule;by_cases z:(C.P.follows .mixedOrders || !Region.departs ops)=true;{rw [if_pos z];exact⟨.any,t,rfl,q⟩};{rw [if_neg z];have hd:Region.departs ops=true:=(by cases h:Region.departs ops with|true=>rfl|false=>rw[h]at z;simp at z);rw[hd,cond_true,qE]at a;by_cases R:(t % 2==0)=true;{rw [if_pos R];exact⟨.text,t / 2,rfl,p .text m<|f .text _ a.1⟩};{rw [if_neg R];exact⟨.gc,t / 2,rfl,p .gc l<|f .gc _ a.2⟩}}
 obtain⟨md,L,x,W⟩:=b;rw[x];refine wpAny_sound ops.size L _ _ _ ?_;have F:Sim w0 S0 U {st with nid:=st.nid+32*ops.size} E ts sv {w with drawn:=w.drawn+1}:=(hS.nid _).heap (w':={w with drawn:=w.drawn+1}) rfl rfl rfl rfl;refine zmG Z hH hG hN g W O (λV K T M w' D G u B Y=>hk V K T M w' D ?_ (by omega) B Y) (ops.size+1) 0 (zjP ops.size cl) U _ E ts _ ops.size _ rfl (by omega) (by simp) (λi r=>by simp[r]) ?_ F (λn h=>.inl h) ?_ (qX _) h;{intro n h;rcases G n h with h|⟨y,_⟩|h;{exact hU n h};{exact .inr (by omega)};{exact .inr (by omega)}};{unfold left;exact qT (List.countP_le_length) (by simp)};{intro n u h;exact O n (qT (uK _ _) u) h}
end
section
variable {P:Program}
def z1a:Value->CTy->Bool
 |.int k n,.i a=>k==a&&n==0
 |.bool b,.b=>!b
 |.slice none 0 0,.s _=>true
 |_,_=>false
def zCi:List Value->List CTy->Bool
 |[],[]=>true
 |v::vs,t::ts=>z1a v t&&zCi vs ts
 |_,_=>false
def z8S {v:Value}{t:CTy}(h:z1a v t=true):v=zeroV t:=by unfold z1a at h;split at h;{simp only [qE,qK]at h;obtain⟨rfl,rfl⟩:=h;rfl};{simp only [jE]at h;subst h;rfl};{rfl};{cases h}
def zJZ:∀{b:List Value} {a:List CTy},zCi b a=true->b=a.map zeroV
 |[],[],_=>rfl
 |v::b,t::a,h=>by simp only[zCi,qE]at h;rw[jG,z8S h.1,zJZ h.2]
 |[],_::_,h=>by cases h
 |_::_,[],h=>by cases h
def zFv (P:Program)(T:TypeId)(a:List CTy):Bool :=
 match P.info? T with
 |some i=>i.size==a.length&&(match i.zero with
  |some z=>zCi z.cells.toList a
  |none=>false)
 |none=>false
def zFw {T:TypeId}{a:List CTy}(h:zFv P T a=true):∃i z,P.info? T=some i/\i.size=a.length/\i.zero=some z/\z.cells.toList=a.map zeroV:=by unfold zFv at h;split at h;{rename_i i d;simp only[qE,qK]at h;obtain⟨c,b⟩:=h;split at b;{rename_i z e;exact⟨i,z,d,c,e,zJZ b⟩};{cases b}};{cases h}
def zq2 (P:Program)(T:TypeId):Bool :=
 (match zc4 P 4 T with
  |some (b,a)=>zFv P T a&&(!b||(match P.underlying T with
   |some (.struct c)=>(c.toList.mapM λf=>(P.info? f.type).map λi=>(f.offset,i.size)).isSome
   |_=>false))
  |none=>true) &&
 (match P.underlying T with
  |some (.slice e)=>match zy zXs e with
   |some t=>zFv P e t.shape&&(match P.info? e with
    |some i=>decide (i.bytes<=1024)
    |none=>false)&&(match zc4 P 4 e with
    |some (_,a)=>decide (a=t.shape)
    |none=>false)
   |none=>true
  |_=>true)
def zxK (P:Program):List Field->Nat->List CTy->Bool
 |[],_,[]=>true
 |f::fs,a,ty::tys=>f.name != "_" && f.offset==a&&(match P.underlying f.type,ty with
  |some (.int k),.i c=>k==c
  |some .bool,.b=>true
  |_,_=>false)&&zxK P fs (a+1) tys
 |_,_,_=>false
def zXg (P:Program)(T:TypeId):Bool :=
 match zc4 P 4 T with
 |some (true,a)=>!P.stoodInHeld T && !P.eqGuardType P.depth T&&(match P.underlying T with
  |some (.struct b)=>zxK P b.toList 0 a
  |_=>false)
 |_=>true
def zXe {n:Nat}{T:TypeId}{a:Bool}{c:List CTy}(h:zc4 P n T=some (a,c)) :
 (∃d,P.underlying T=some d/\zYE d=a/\(∀k,c=[.i k]->a=false->d = .int k)/\(c=[.b]->a=false->d = .bool))/\(a=false->c.length=1):=by
 cases n with
 |zero=>cases h
 |succ n=>simp only[zc4]at h;split at h;{rename_i k f;cases h;exact⟨⟨_,f,rfl,λg h _=>by simp only[List.cons.injEq,CTy.i.injEq,and_true]at h;rw[h],λh=>by simp at h⟩,λ_=>rfl⟩};{rename_i f;cases h;exact⟨⟨_,f,rfl,λg h=>by simp at h,λ_ _=>rfl⟩,λ_=>rfl⟩};{rename_i e f;split at h;{cases h;exact⟨⟨_,f,rfl,λg h=>by simp at h,λh=>by simp at h⟩,λ_=>rfl⟩};{cases h}};{rename_i j f;split at h;{cases h;exact⟨⟨_,f,rfl,λg _ h=>(by cases h),λ_ h=>(by cases h)⟩,λh=>by cases h⟩};{cases h}};{cases h}
def zNh {b:Type}{T:Nat}{x:Option b}{y:b}(h:below T x=some y):T<zh5/\x=some y:=by unfold below at h;cases a:Nat.blt T zh5 with|false=>rw[a]at h;cases h|true=>rw[a]at h;exact⟨by rwa [vI]at a,h⟩
def mapM_at {e f:Type}{g:e->Option f}:∀{l:List e} {m:List f},l.mapM g=some m->∀{k:Nat} {x:e},l[k]?=some x->m[k]?=g x
 |[],m,h,k,x,c=>by simp at c
 |a::l,m,h,k,x,c=>by simp only[vF,Option.bind_eq_bind,uW,Option.pure_def,qC]at h;obtain⟨b,i,j,d,rfl⟩:=h;cases k with|zero=>simp only[qI,qC]at c;subst c;rw[i];rfl|succ k=>exact mapM_at d (by simpa using c)
def zjd {e i:Type}{f:e->Option i}{a:e}{l:List e}{g:List i}(h:zcR f (a::l)=some g):∃b c,f a=some b/\zcR f l=some c/\g=b::c:=by simp only[zcR]at h;split at h;{rename_i b j;split at h;{rename_i c d;cases h;exact⟨b,c,j,d,rfl⟩};{cases h}};{cases h}
def zI9 (w:World)(d:Nat)(v z:LV):∀(W:List Field) (g:Nat) (p:List CTy) (l m:List At) (e:Bool),zxK P W g p=true->zcR zq0 l=some p->zcR zq0 m=some p->zxx l m=some e->
 v.size=g+l.length->z.size=g+m.length->(∀(j:Nat) (a:At) (u:Value),l[j]?=some a->v[g+j]?=some u->VS a u)->(∀(j:Nat) (a:At) (u:Value),m[j]?=some a->z[g+j]?=some u->VS a u)->
 (Op.eqFields (d+1) v z W).run P w = .ok e w
 |[],g,p,l,m,e,R,X,Y,A,_,_,_,_=>by cases p with|cons t ts=>cases R|nil=>(cases l with|cons a l=>obtain⟨_,_,_,_,h⟩:=zjd X;cases h|nil=>(cases m with|cons a m=>obtain⟨_,_,_,_,h⟩:=zjd Y;cases h|nil=>cases A;simp[Op.eqFields]))
 |f::W,g,p,l,m,e,R,X,Y,A,q,r,hx,hy=>by
  cases p with
  |nil=>cases R
  |cons ty p=>
   cases l with
   |nil=>cases X
   |cons a l=>
    cases m with
    |nil=>cases Y
    |cons c m=>
     obtain⟨ta,a6,O,E,h⟩:=zjd X;cases h;obtain⟨tc,a5,K,F,h⟩:=zjd Y;cases h;simp only[zxK,qE,bne_iff_ne,ne_eq,qK]at R;obtain⟨⟨⟨hn,S⟩,B⟩,G⟩:=R;have I:v[g]?=some (v[g]'(by simp only[qY]at q;omega)):=(by simp);have J:z[g]?=some (z[g]'(by simp only[qY]at r;omega)):=by simp
     have T:=hx 0 a _ rfl I;have U:=hy 0 c _ rfl J;have H:∃L,zXL a c=some L/\(part f.type v f.offset).run P w = .ok (v[g]'(by simp only[qY]at q;omega)) w/\(part f.type z f.offset).run P w = .ok (z[g]'(by simp only[qY]at r;omega)) w/\
      (Op.equalIn (d+1) f.type (v[g]'(by simp only[qY]at q;omega))<|z[g]'(by simp only[qY]at r;omega)).run P w = .ok L w:=by
      rw[S];cases a with
      |i k n=>
       simp only[zq0,qC]at O;subst O;cases c with
       |i k' n' =>
        simp only[zq0,qC,CTy.i.injEq]at K;subst K;cases s:P.underlying f.type with
        |none=>rw[s]at B;cases B
        |some D=>
         rw[s]at B;cases D<;>first|(cases B;done)|skip;refine⟨ieq n n',by simp[zXL],by simp[part,isAgg,run_underlying s,I],by simp[part,isAgg,run_underlying s,J],?_⟩;rw[show v[g]'(by simp only[qY]at q;omega) = .int k' n from T,show z[g]'(by simp only[qY]at r;omega) = .int k' n' from U];exact run_equalIn_int w d f.type k' _ n n' s
       |b _=>simp[zq0]at K
       |_=>simp[zq0]at K
      |b x=>
       simp only[zq0,qC]at O;subst O;cases c with
       |b x' =>
        cases s:P.underlying f.type with
        |none=>rw[s]at B;cases B
        |some D=>
         rw[s]at B;cases D<;>first|(cases B;done)|skip;refine⟨zhn x x',by simp[zXL],by simp[part,isAgg,run_underlying s,I],by simp[part,isAgg,run_underlying s,J],?_⟩;rw[show v[g]'(by simp only[qY]at q;omega) = .bool x from T,show z[g]'(by simp only[qY]at r;omega) = .bool x' from U];exact run_equalIn_bool' w d f.type x x' s
       |i _ _=>simp[zq0]at K
       |_=>simp[zq0]at K
      |_=>simp[zq0]at O
     obtain⟨L,Q,a3,a4,a1⟩:=H;have C:∃V,zxx l m=some V/\e=(L&&V):=by cases l with|nil=>cases E;(cases m with|nil=>simp only[zxx,Q,qC]at A;exact⟨true,rfl,by rw[<- A];simp⟩|cons c2 m=>obtain⟨_,_,_,_,h⟩:=zjd F;cases h)|cons a2 l=>(cases m with|nil=>cases F;obtain⟨_,_,_,_,h⟩:=zjd E;cases h|cons c2 m=>simp only[zxx,Q]at A;split at A;{rename_i x y M N;cases M;cases A;exact⟨y,by simpa [zxx] using N,rfl⟩};{cases A})
     obtain⟨V,a0,rfl⟩:=C;have ih:=zI9 w d v z W (g+1) p l m V G E F a0 (by simp only[qY]at q;omega) (by simp only[qY]at r;omega)
      (λj Z u M N=>hx (j+1) Z u (by simpa using M) (by rw[<- N];congr 1;omega)) (λj Z u M N=>hy (j+1) Z u (by simpa using M) (by rw[<- N];congr 1;omega))
     simp only[Op.eqFields,ne_eq,hn,not_false_eq_true,if_true,Sem.run_bind,a3,a4,Result.andThen_ok,a1,Sem.run_ite,ih];cases L<;>simp
def z9c {C:Cfg}(W:C.P=P)(hs:∀T,C.sty T=below T (zyJ P T))(X:∀T,C.cty T=below T (zc4 P 4 T))(Q:∀T f,C.fof T f=zwv P T f)(B:(List.range zh5).all (zq2 P)=true)(J:∀T,C.eqt T=true->T<zh5->zXg P T=true):CfgOk C:=by subst W;have v:∀T,T<zh5->zq2 C.P T=true:=λT r=>qP.1 B T (kR.2 r);have k:∀T g c,C.cty T=some (g,c)->T<zh5/\zc4 C.P 4 T=some (g,c):=λT g c h=>zNh (by rw[<- X];exact h);refine⟨λT g c h=>?_,λT t h=>?_,λT f N n h=>?_,λT c h=>?_,λT c Y h l m e G H w x y op Z hm hq E F=>?_⟩;{obtain⟨r,h⟩:=k T g c h;obtain⟨q,d⟩:=zXe h;have:=v T r;unfold zq2 at this;rw[h] at this;simp only[qE] at this;exact⟨q,zFw this.1.1,d⟩};{rw [hs]at h;obtain⟨r,h⟩:=zNh h;unfold zyJ at h;split at h;{rename_i e p;have:=v T r;unfold zq2 at this;rw[p] at this;simp only[h,qE] at this;obtain⟨_,⟨q,d⟩,_⟩:=this;obtain⟨i,z,O,S,U,V⟩:=zFw q;rw[O]at d;exact⟨e,p,i,z,O,by rw[S,zf7],U,V,by simpa using d⟩};{cases h}};{rw [Q]at h;unfold zwv at h;split at h;{rename_i A p;split at h;{rename_i x M;split at h;{rename_i i K;split at h;{cases h};{rename_i L;cases h;exact⟨A,x,i,p,M,rfl,K,rfl,L⟩}};{cases h}};{cases h}};{cases h}};{obtain⟨r,h⟩:=k T true c h;have:=v T r;unfold zq2 at this;rw[h] at this;simp only[qE,j6,jQ,kS,false_or] at this;obtain⟨⟨_,d⟩,_⟩:=this;split at d;{rename_i A p;obtain⟨s,R⟩:=uT.1 d;refine⟨A,s,p,R,λf N n b=>?_⟩;rw[Q]at b;unfold zwv at b;rw[p]at b;simp only at b;split at b;{rename_i x M;split at b;{rename_i i K;split at b;{cases b};{cases b;rw[mapM_at R (by simpa using M),K];rfl}};{cases b}};{cases b}};{cases d}};{obtain⟨r,h⟩:=k T true c h;have:=J T Y r;unfold zXg at this;rw[h] at this;simp only[qE,jE] at this;obtain⟨⟨q,d⟩,I⟩:=this;split at I;{rename_i A p;have D:C.P.fieldsOf T=A:=(by simp[Program.fieldsOf,p]);refine⟨run_eqGuard_agg w op T x y G H d,?_⟩;show (Op.equalIn (9999+1) T (.agg G)<|.agg H).run C.P w=_;rw[run_equalIn_struct w 9999 T G H (by rw[D];exact p) q,D];exact zI9 w 9998 G H A.toList 0 c l m e I Z hm hq (by rw[E.1];omega) (by rw[F.1];omega) (λj a u q d=>E.2 j a u q (by simpa using d)) (λj a u q d=>F.2 j a u q (by simpa using d))};{cases I}}
end
inductive CVOk:CV->Prop
 |i (k:IntKind) (n:Int) (h:k.min<=n/\n<=k.max):CVOk (.i k n)
 |b (x:Bool):CVOk (.b x)
 |s (t:Ty) (l:List t.den) (hl:l.length<=big) (h:∀(i:Nat) (x:t.den),l[i]?=some x->∀(j:Nat) (c:CV),(t.cells x)[j]?=some c->CVOk c):CVOk (.s t l)
section
variable {P:Program}
def zAh (P:Program)(b:Nat):List Field->Nat->Bool
 |[],a=>a==b
 |f::fs,a=>f.offset==a&&Nat.blt f.type zh5&&zAh P b fs (a+P.cellsOf f.type)
def zBd (P:Program)(T:TypeId):Bool :=
 match P.underlying T with
 |some (.struct a)=>match zc4 P 4 T with
  |some _=>zAh P (P.cellsOf T) a.toList 0
  |none=>true
 |some (.slice e)=>match zy zXs e with
  |some _=>Nat.blt e zh5&&Nat.ble 1 (P.bytesOf e)
  |none=>true
 |_=>true
def zJr {e i:Type}{f g:e->Option i}(c:∀x y,f x=some y->g x=some y):∀{l:List e} {d:List i},zcR f l=some d->zcR g l=some d
 |[],_,h=>h
 |a::l,d,h=>by obtain⟨b,j,k,m,rfl⟩:=zjd h;simp only[zcR,c a b k,zJr c m]
def zAQ:∀{n:Nat} {T:TypeId} {x:Bool×List CTy},zc4 P n T=some x->zc4 P (n+1) T=some x
 | 0,_,_,h=>by cases h
 |n+1,T,x,h=>by rw[zc4]at h;rw[zc4];split at h;{exact h};{exact h};{exact h};{rename_i d e;split at h;{rename_i l b;rw[zJr (f:=_) (g:=_) ?_ b];{exact h};{intro f y a;split at a;{rename_i z c;cases a;rw[zAQ c]};{cases a}}};{cases h}};{cases h}
def z1g {T:TypeId}{a:List CTy}(h:zFv P T a=true):P.cellsOf T=a.length:=by obtain⟨i,z,b,c,_⟩:=zFw h;simp[Program.cellsOf,b,c]
def zbaO {k:IntKind}{n:Int}(h:(Lit.int k n).wf=true):k.min<=n/\n<=k.max:=by simpa [Lit.wf] using h
def all_append {l m:List Nat}(h:(l++m).all (·<=reachBytes)=true):l.all (·<=reachBytes)=true/\m.all (·<=reachBytes)=true:=by simpa [List.all_append] using h
def zDw {H:Type}{e:TypeId}:∀{l:List (DataW H)},(DataW.weightsAll P e l).all (·<=reachBytes)=true->∀{i:Nat} {d:DataW H},l[i]?=some d->(d.weights P e).all (·<=reachBytes)=true
 |[],_,i,d,h=>by simp at h
 |x::l,a,i,d,h=>by simp only[DataW.weightsAll]at a;obtain⟨b,c⟩:=all_append a;cases i with|zero=>simp at h;subst h;exact b|succ i=>exact zDw c (by simpa using h)
def Opened (W:World)(d:List Value)(a:List CTy):Prop :=
 ∃cvs:LC,cvs.map CV.ty=a/\d.length=cvs.length/\∀(j:Nat) (c:CV) (u:Value),cvs[j]?=some c->d[j]?=some u->Rep false W u c (λb=>b<W.heap.size)/\CVOk c
def Opened.append {W:World}{f g:List Value}{h i:List CTy}(r:Opened W f h)(s:Opened W g i):Opened W (f++g) (h++i):=by obtain⟨e,k,d,p⟩:=r;obtain⟨n,l,m,q⟩:=s;refine⟨e++n,by simp[k,l],by simp[d,m],λj c u a b=>?_⟩;by_cases t:j<e.length;{rw [qW t]at a;rw[qW (by omega)]at b;exact p j c u a b};{rw [qU (by omega)]at a;rw[qU (by omega)]at b;exact q _ c u a (by rw[<- d];exact b)}
def zNm {b:Type}:∀(n:Nat) (p:Nat->b->Prop),(∀i,i<n->∃x,p i x)->∃l:List b,l.length=n/\∀i x,l[i]?=some x->p i x
 | 0,p,_=>⟨[],rfl,λi x h=>by simp at h⟩
 |n+1,p,h=>by obtain⟨x,e⟩:=h 0 (by omega);obtain⟨l,c,d⟩:=zNm n (λi=>p (i+1)) (λi f=>h (i+1) (by omega));refine⟨x::l,by simp[c],λi y a=>?_⟩;cases i with|zero=>simp at a;subst a;exact e|succ i=>exact d i y (by simpa using a)
def cells?_get {W:World}{a:Addr}{n:Nat}{b:List Value}(h:W.cells? 0 a n=some b):b.length=n/\∀i,i<n->W.cell? (a.add i)=b[i]?:=by unfold World.cells? at h;rw[if_pos<|j7 _]at h;refine⟨by simpa using mapM_some_length h,λi c=>mapM_some_get h i i (by simp[c])⟩
def addr_add (a:Addr)(h:a.spot=none)(n m:Nat):(a.add n).add m=⟨a.block,a.off+n+m,none⟩:=by obtain⟨b,o,s⟩:=a;simp only at h;subst h;rw[add_lit,add_lit]
def z5l (b6:∀T,T<zh5->zq2 P T=true/\zBd P T=true){H:Type}{a3:TypeId×Value->H}{W:World} :
 ∀(F:Nat) (T:TypeId) (Z:List Value) (x:DataW H×List MemPlace),T<zh5->∀(b4:Bool) (b3:List CTy),zc4 P 4 T=some (b4,b3)->
  DataW.trod a3 P W 0 (λ_=>true) true F T Z=some x->(x.1.weights P T).all (·<=reachBytes)=true->Opened W Z b3:=by
 intro F
 induction F using Nat.strongRecOn with
 |_ F ih=>
  intro T Z x hT b4 b3 d hx hw;obtain⟨U,C⟩:=b6 T hT;have c1:=d;rw[zc4]at d;split at d;{rename_i k I;cases d;obtain⟨n,rfl,rfl,d9⟩:=DataW.trod_int I hx;refine⟨[.i k n],rfl,rfl,λj c u r q=>?_⟩;cases j with|zero=>simp at r q;subst r q;exact⟨.i k n _,.i k n<|zbaO d9⟩|succ j=>simp at r};{rename_i I;cases d;obtain⟨b,rfl,rfl⟩:=DataW.trod_bool I hx;refine⟨[.b b],rfl,rfl,λj c u r q=>?_⟩;cases j with|zero=>simp at r q;subst r q;exact⟨.b b _,.b b⟩|succ j=>simp at r};{rename_i e I;split at d;{rename_i t b7;cases d;have a4:∀(v:Value) (l:List t.den),Rep false W v (.s t l) (λb=>b<W.heap.size)->CVOk (.s t l)->Opened W [v] [.s t]:=(by intro v l D S;refine⟨[.s t l],rfl,rfl,λj c u r q=>?_⟩;cases j with|zero=>simp at r q;subst r q;exact⟨D,S⟩|succ j=>simp at r);have K:CVOk (.s t []):=.s t [] (j7 _) (λi x h=>by simp at h);rcases DataW.trod_slice I hx with⟨rfl,rfl⟩|⟨a,len,p,A,R,n,rfl,rfl,rfl,_,e8,e6,e7,a0,d5,_⟩;{exact a4 _ [] (.nil t _) K};{obtain⟨e9,Q⟩:=d5 rfl;by_cases b5:p=0;{subst b5;have d0:len=0:=(by omega);subst d0;exact a4 _ [] (.void t a _ rfl) K};{unfold zq2 at U;rw[I]at U;simp only[b7,qE]at U;obtain⟨_,⟨a7,_⟩,V⟩:=U;unfold zBd at C;rw[I]at C;simp only[b7,qE,vI,Nat.ble_eq]at C;obtain⟨he,c6⟩:=C;have c7:P.cellsOf e=t.wi:=(by rw[z1g a7,zf7]);have b2:0<t.wi:=(by cases t<;>simp [Ty.wi]);rw[c7]at a0 Q;have N:∀i,i<p->∃w,W.cells? 0 (a.add<|i*t.wi) t.wi=some w/\(i<len->∃y,DataW.trod a3 P W 0 (λ_=>true) true n e w=some y/\A[i]?=some y):=(by intro i X;by_cases b9:i<len;{have D:=a0 i b9;rw[qB (by omega)]at D;obtain⟨w,S,h3⟩:=uW.1 D;exact⟨w,S,λ_=>⟨_,h3,qB (by omega)⟩⟩};{have D:=Q (i-len) (by omega);rw[qB (by omega)]at D;obtain⟨w,S,h3⟩:=uW.1 D;have e1:len+(i-len)=i:=(by omega);rw[e1]at S;exact⟨w,S,λh=>absurd h b9⟩});have M:∀i j,i<p->j<t.wi->∃v,W.cell? ((a.add<|i*t.wi).add j)=some v:=(by intro i j X hj;obtain⟨w,D,_⟩:=N i X;obtain⟨S,h3⟩:=cells?_get D;exact⟨_,(h3 j hj).trans (qB (by omega))⟩);obtain⟨v0,G⟩:=M 0 0 (by omega) b2;have a5:(a.add<|0*t.wi).add 0=a:=(by simp[Addr.add]);rw[a5]at G;obtain⟨m,et,fz,hb,E⟩:∃m et fz,W.heap[a.block]?=some (.cells m et fz)/\a.spot=none:=(by unfold World.cell? at G;split at G;{rename_i c et fz hb;split at G;{cases G};{rename_i hs;exact⟨c,et,fz,hb,by simpa using hs⟩}};{cases G});have L:∀i j,W.cell? ((a.add<|i*t.wi).add j)=m[a.off+i*t.wi+j]?:=(by intro i j;rw[addr_add a E,D0 hb]);have a9:a.off+p*t.wi<=m.size:=(by obtain⟨v,hv⟩:=M (p-1) (t.wi-1) (by omega) (by omega);rw[L]at hv;have:=(qO.1 hv).1;have D:(p-1)*t.wi+t.wi=p*t.wi:=(by rw[<- jO];congr 1;omega);omega);have c2:((DataW.slice (A.map (·.1))<|R.map (·.1)).weights P T).all (·<=reachBytes)=true:=hw;simp only[DataW.weights,I,k9,qE,jA,uQ]at c2;obtain⟨c4,b1⟩:=c2;obtain⟨b1,_⟩:=all_append b1;have O:len<=big:=(by have D:(A.length+R.length)*1<=(A.length+R.length)*P.bytesOf e:=Nat.mul_le_mul_left _ c6;have:reachBytes<=big:=(by decide);omega);split at V;{rename_i J a2 d6;simp only[jA]at V;subst V;have c9:∀i,i<len->∃y:t.den,∀(j:Nat) (c:CV) (u:Value),(t.cells y)[j]?=some c->m[a.off+i*t.wi+j]?=some u->Rep false W u c (λb=>b<W.heap.size)/\CVOk c:=(by intro i X;obtain⟨w,D,S⟩:=N i (by omega);obtain⟨y,h3,h4⟩:=S X;obtain⟨cvs,g1,g2,g3⟩:=ih n (by omega) e w y he J t.shape d6 h3 (zDw b1 (by rw[qQ,h4];rfl));obtain⟨z,Y⟩:=zPw g1;refine⟨z,λj c u r q=>g3 j c u ?_ ?_⟩;{rw [<- zkh Y];exact r};{obtain⟨k1,k2⟩:=cells?_get D;have hj:j<t.wi:=(by have:=(qA.1 r).1;rwa [zdG] at this);rw[<- k2 j hj,L];exact q});obtain⟨l,d1,c0⟩:=zNm len _ c9;have b0:∀i j,i<l.length->j<t.wi->m[a.off+i*t.wi+j]?=some ((m[a.off+i*t.wi+j]?).getD undef):=(by intro i j X hj;have D:(i+1)*t.wi<=p*t.wi:=qS _ (by omega);rw[jO]at D;have:a.off+i*t.wi+j<m.size:=(by omega);simp[this]);have a1:Rep false W (.slice (some ⟨a.block,a.off,none⟩) l.length p) (.s t l) (λb=>b<W.heap.size):=(by refine .sl t l a.block a.off p m et fz (λi j=>(m[a.off+i*t.wi+j]?).getD undef) (λ_ _ b=>b<W.heap.size) _ hb (λh=>by cases h) (by omega) (by omega) a9 ?_ (λi j x _ _ hx=>⟨hx,λh=>by cases h⟩) (λh=>by cases h) b0 ?_;{exact(qO.1 hb).1};{intro i z Y j c r;have X:i<l.length:=(qA.1 Y).1;have hj:j<t.wi:=(by have:=(qA.1 r).1;rwa [zdG] at this);exact(c0 i z Y j c _ r<|b0 i j X hj).1});have ha:a=⟨a.block,a.off,none⟩:=(by obtain⟨b,o,s⟩:=a;simp only at E;subst E;rfl);rw[d1,<- ha]at a1;refine a4 _ l a1 (.s t l (by omega) λi z Y j c r=>?_);have X:i<l.length:=(qA.1 Y).1;have hj:j<t.wi:=(by have:=(qA.1 r).1;rwa [zdG] at this);exact(c0 i z Y j c _ r<|b0 i j X hj).2};{cases V}}}};{cases d}}
  .rename_i fs I;split at d
   .rename_i l hl;cases d;obtain⟨xs,n,rfl,rfl,c8,e2,b8⟩:=DataW.trod_struct I hx;unfold zBd at C;rw[I,c1]at C;simp only at C;have e0:(DataW.weightsEach P (fs.toList.map (·.type))<|xs.map (·.1)).all (·<=reachBytes)=true:=by have:((DataW.agg<|xs.map (·.1)).weights P T).all (·<=reachBytes)=true:=hw;simpa only [DataW.weights,I] using this
    have e4:∀(gs:List Field) (ys:List (DataW H×List MemPlace)) (ls:List (List CTy)) (B:Nat),zAh P (P.cellsOf T) gs B=true->gs.length=ys.length->
     (∀(i:Nat) (f:Field),gs[i]?=some f->DataW.trod a3 P W 0 (λ_=>true) true n f.type ((Z.drop f.offset).take (P.cellsOf f.type))=ys[i]?)->
     zcR (λ(f:Field)=>match zc4 P 3 f.type with|some x=>some x.2|none=>none) gs=some ls->(DataW.weightsEach P (gs.map (·.type))<|ys.map (·.1)).all (·<=reachBytes)=true->
     B<=P.cellsOf T/\Opened W (Z.drop B) ls.flatten:=by
     intro gs
     induction gs with
     |nil=>intro ys ls B ho _ _ a8 _;cases a8;simp only[zAh,qK]at ho;subst ho;refine⟨qX _,[],rfl,by simp[c8],λj c u h=>by simp at h⟩
     |cons f gs e3=>intro ys ls B ho O hf a8 c3;obtain⟨b,e5,a6,c5,rfl⟩:=zjd a8;cases ys with|nil=>simp at O|cons y ys=>simp only[zAh,qE,qK,vI]at ho;obtain⟨⟨d2,d3⟩,d4⟩:=ho;split at a6;{rename_i z Y;cases a6;obtain⟨J,a2⟩:=z;have hy:=hf 0 f rfl;simp only[qI]at hy;simp only[jG,DataW.weightsEach]at c3;obtain⟨d7,d8⟩:=all_append c3;have h4:=zAQ Y;obtain⟨g1,g2⟩:=e3 ys e5 (B+P.cellsOf f.type) d4 (by simpa using O) (λi g hg=>by simpa using hf (i+1) g (by simpa using hg)) c5 d8;have o1:=ih n (by omega) f.type _ y d3 J a2 h4 hy d7;rw[d2] at o1;refine⟨by omega,?_⟩;have e1:Z.drop B=(Z.drop B).take (P.cellsOf f.type)++Z.drop (B+P.cellsOf f.type):=(by rw[<- List.drop_drop,List.take_append_drop]);rw[e1];exact Opened.append o1 g2};{cases a6}
    have:=(e4 fs.toList xs l 0 C (by simp[e2]) (λi f hf=>b8 i f (by simpa using hf)) hl e0).2;simpa using this
   {cases d}
  {cases d}
end
def z2V:(List.range zh5).all (zq2 Tryz.prog)=true:=by kernel_rfl
def zbeo:zGx.all (λT=>!Nat.blt T zh5||zXg Tryz.prog T)=true:=by kernel_rfl
def z9e:Tryz.prog.funcs.toList.all (λa=>!(a.name == "runtime.NumGoroutine"))=true:=by kernel_rfl
def zbcY (T:TypeId)(a:zGx.contains T=true)(d:T<zh5):zXg Tryz.prog T=true:=by have c:T∈zGx:=(by revert a;generalize zGx=l;intro a;simpa using a);have e:Nat.blt T zh5=true:=(by rw[vI];exact d);have b:=qP.1 zbeo T c;rw[e,jQ,Bool.false_or]at b;exact b
def zbem (a:FuncId->Option (LW))(b:FuncId->Option (CV->Int->Option (Bool×CV×Int)))(c:FuncId->Option (List Bool×(LC->LA->Option (Bool×LC×LA))))(d:FuncId->Option (List Bool×Option (Nat×Nat×List (List Nat))×(LW))):CfgOk (zo4 a b c d):=by have e:(zo4 a b c d).P=Tryz.prog:=(by simp only[zo4]);have g:∀T,(zo4 a b c d).sty T=below T (zyJ Tryz.prog T):=λ_=>(by simp only[zo4]);have i:∀T,(zo4 a b c d).cty T=below T (zc4 Tryz.prog 4 T):=λ_=>(by simp only[zo4]);have j:∀T f,(zo4 a b c d).fof T f=zwv Tryz.prog T f:=λ_ _=>(by simp only[zo4]);have k:∀T,(zo4 a b c d).eqt T=zGx.contains T:=λ_=>(by simp only[zo4]);refine z9c e g i j z2V ?_;intro T h l;rw[k]at h;exact zbcY T h l
def zbdF (a:FuncId->Option (LW))(b:FuncId->Option (CV->Int->Option (Bool×CV×Int)))(c:FuncId->Option (List Bool×(LC->LA->Option (Bool×LC×LA))))(d:FuncId->Option (List Bool×Option (Nat×Nat×List (List Nat))×(LW))):NameOk (zo4 a b c d):=by
 refine⟨λf e g=>?_⟩;have:=qP.1 z9e e (by
  have:Tryz.prog.funcs[f]?=some e:=g;rw[<- k6] at this;exact qJ this)
 simpa using this
def zis {b:FuncId->Option (LW)}{c:FuncId->Option (CV->Int->Option (Bool×CV×Int))}{d:FuncId->Option (List Bool×(LC->LA->Option (Bool×LC×LA)))}{e:FuncId->Option (List Bool×Option (Nat×Nat×List (List Nat))×(LW))}(h:∀f a,b f=some a->Holds Tryz.prog f a)(p:∀f a,c f=some a->zNd Tryz.prog f a)(q:∀f own a,d f=some (own,a)->zbU Tryz.prog f own a)(m:∀f own g a,e f=some (own,g,a)->zfg Tryz.prog f own g a):EngOk (zo4 b c d e):=by have i:=zbem b c d e;have k:CtrOk (zo4 b c d e):=⟨h,λf g a n=>m f [] g a n⟩;have j:=z9Q i ⟨p⟩ ⟨q⟩ ⟨m⟩;have l:=zbdF b c d e;exact⟨i,k,j,l,zbdk i k j l⟩
section
open Go Go.ChangeShapes Go.WideShapes Go.ChangeAt
def AV.sh:AV->Bool×List CTy
 |.one c=>(false,[c.ty])
 |.agg l=>(true,l.map CV.ty)
section
variable {P:Program}
def zTN {T:TypeId}{a:Bool}{b:List CTy}(h:zc4 P 4 T=some (a,b)) :
 (a=true/\∃c,P.underlying T=some (.struct c))\/(a=false/\b.length=1/\((∃k,P.underlying T=some (.int k))\/P.underlying T=some .bool\/∃e,P.underlying T=some (.slice e))):=by
 rw[zc4]at h;split at h
 .rename_i k hu;cases h;exact .inr ⟨rfl,rfl,.inl ⟨k,hu⟩⟩
 .rename_i hu;cases h;exact .inr ⟨rfl,rfl,.inr<|.inl hu⟩
 .rename_i e hu;split at h
  .cases h;exact .inr ⟨rfl,rfl,.inr<|.inr ⟨e,hu⟩⟩
  .cases h
 .rename_i c hu;split at h
  .cases h;exact .inl ⟨rfl,c,hu⟩
  .cases h
 .cases h
def z7S {W:World}{T:TypeId}{v:Value}{a:Nat}(b:(∃k,P.underlying T=some (.int k))\/P.underlying T=some .bool\/∃e,P.underlying T=some (.slice e))(h:Value.okWide P W .any a T v):v.cells = #[v]:=by
 cases v with
 |agg c=>exfalso;rcases b with⟨k,b⟩|b|⟨e,b⟩<;>simp [Value.okWide,b,Cell.okWide,Cell.ok]at h
 |_=>rfl
def zUS (k:∀T,T<zh5->zq2 P T=true/\zBd P T=true){H:Type}{K:TypeId×Value->H}{W:World}{u:Nat} :
 ∀(r:List TypeId) (z:List Value) (B:List (DataW H)) (p:List MemPlace),DataW.TrodAll K P W 0 (fun _=>true) true r z B p->
  (∀(j:Nat) (t:TypeId) (v:Value),r[j]?=some t->z[j]?=some v->Value.okWide P W .any u t v)->(∀t∈r,t<zh5/\(zc4 P 4 t).isSome=true)->
  (DataW.weightsEach P r B).all (·<=reachBytes)=true->
  ∃(f:LA) (D:List Value),f.map (fun a=>some a.sh)=r.map (zc4 P 4)/\zeb false W (zI f) D (fun _ b=>b<W.heap.size)/\zb6 f D=z/\∀c∈zI f,CVOk c
 |[],z,B,p,h,_,_,_=>by obtain⟨rfl,rfl,rfl⟩:=trodAll_nil h;exact⟨[],[],rfl,⟨rfl,fun i c x h=>by simp[zI]at h⟩,rfl,fun c h=>by simp[zI]at h⟩
 |T::r,z,B,p,h,hv,ht,hw=>by
  obtain⟨v,U,d,I,p1,q,rfl,rfl,rfl,L,M⟩:=trodAll_cons h;simp only[DataW.weightsEach]at hw;obtain⟨Q,R⟩:=all_append hw;obtain⟨f,D,X,g2,Y,g4⟩:=zUS k r U I q M (fun j t v L M=>hv (j+1) t v (by simpa using L) (by simpa using M)) (fun t h=>ht t (by simp[h])) R;obtain⟨hT,m⟩:=ht T (by simp);obtain⟨⟨G,S⟩,g⟩:=uT.1 m;obtain⟨w,hf⟩:=L;obtain⟨cvs,J,C,V⟩:=z5l k w T _ _ hT G S g hf Q;have n:=hv 0 T v rfl rfl;have s:∀a:AV,a.cvs=cvs->zeb false W (zI (a::f)) (v.cells.toList++D) (fun _ b=>b<W.heap.size)/\∀c∈zI (a::f),CVOk c:=(by intro a ha;have e:zI (a::f)=cvs++zI f:=(by simp[zI,ha]);rw[e];refine⟨zeb.append ⟨C,fun i c x l hx=>(V i c x l hx).1⟩ g2,fun c l=>?_⟩;rcases jK.1 l with l|l;{obtain⟨i,Z⟩:=qV.1 l;have N:i<v.cells.toList.length:=(by rw[C];exact(qA.1 Z).1);exact(V i c _ Z (qB N)).2};{exact g4 c l});rcases zTN g with⟨rfl,fs,O⟩|⟨rfl,y,O⟩;{obtain⟨A,rfl,_⟩:∃A,v = .agg A/\True:=(by simp only[Value.okWide,O]at n;obtain⟨A,h,_⟩:=n;exact⟨A,h,trivial⟩);obtain⟨E,F⟩:=s (.agg cvs) rfl;refine⟨.agg cvs::f,_,?_,E,?_,F⟩;{rw [jG,jG,X,g];simp only[AV.sh,J]};{simp only [Value.cells] at C;simp only[zb6,Value.cells,<- C,kU,uE,Y,jX]}}
  .have hcells:=z7S O n;rw[<- J]at y;obtain ⟨c,rfl⟩:∃c,cvs=[c]:=by
    match cvs,y with
    |[c],_=>exact⟨c,rfl⟩
   obtain⟨E,F⟩:=s (.one c) rfl;refine⟨.one c::f,_,?_,E,?_,F⟩;{rw [jG,jG,X,g,<- J];rfl};{rw [hcells];simp only[zb6];simp[Y]}
def zDv (r:laidOutB P=true){H:Type}{b:TypeId×Value->H}{W m:World}(n:Go.RowKit.Below W.heap.size W m){u:Nat->Bool}:∀(g:List TypeId) (j:List Value) (i:List (DataW H)) (f:List MemPlace),(∀t∈g,P.readableRec t=true/\t<P.types.size)->
 DataW.TrodAll b P W 0 (λ_=>true) true g j i f->(∀x∈f,x.block<W.heap.size/\u x.block=true)->DataW.TrodAll b P m 0 u true g j i f
 |[],j,i,f,_,h,_=>by obtain⟨rfl,rfl,rfl⟩:=trodAll_nil h;exact rfl
 |T::g,j,i,f,s,h,a=>by
  obtain⟨v,l,d,k,p,q,rfl,rfl,rfl,w,y⟩:=trodAll_cons h;obtain⟨z,c⟩:=s T (by simp)
  exact⟨p,q,WideElems.Trod_stays r z c w (λx e=>n.same (a x<|j9 _ e).1) λx e=>(a x<|j9 _ e).2,
   zDv r n g l k q (λt h=>s t (by simp[h])) y λx e=>a x (kK _ e),rfl⟩
def zVN {W b:World}(h:Grown W b)(a:MemPlace->Prop):W.keptBut b a:=by
 refine⟨h.os,h.output,λi c=>?_⟩;rw[h.keep i c];cases d:W.heap[i]? with
 |none=>rfl
 |some o=>cases o<;>first|rfl|exact⟨rfl,rfl,rfl,λ_ _=>rfl⟩|exact .inr ⟨rfl,rfl⟩
def z8f (P:Program)(a:List TypeId):Bool:=a.all λT=>Nat.blt T zh5&&(zc4 P 4 T).isSome&&P.readableRec T&&Nat.blt T P.types.size
def zbaR (P:Program)(d:List TypeId)(b:LA):Prop:=b.map (λa=>some a.sh)=d.map (zc4 P 4)/\∀c∈zI b,CVOk c
def zXv (P:Program)(f:FuncId)(d:List TypeId):Prop :=
 ∃c,Holds P f c/\∀a,zbaR P d a->c a=some (true,[.one<|.b true])
def zOQ (L:∀T,T<zh5->zq2 P T=true/\zBd P T=true)(a0:laidOutB P=true){s:ChangeSpec}{f:FuncId}{u:Func}{B:TypeId}(k:s.vars=[])(F:∀(H:Type) (i:List (DataW H)),i.length=u.params.toList.length->s.fn H i={results:=[.lit<|.bool true],args:=i})(a:z8f P u.params.toList=true)(O:u.resultTypes = #[B])(hB:P.underlying B=some .bool)(hl:zXv P f u.params.toList){H:Type}{enc:TypeId×Value->H}{apart D l:Bool}(W:World)(A:Nat)(g:LV)(i gs:List (DataW H))(w:List MemPlace)(U:∀(j:Nat) t v,u.params[j]?=some t->g[j]?=some v->Value.okWide P W .any A t v)(hW:DataW.Whole enc P u.params.toList s.vars apart W g.toList i gs w)(R:(DataW.weightsEach P (u.params.toList++s.plain.varTypes P)<|i++gs).all (·<=reachBytes)=true) :
 Calls P f g W λe W'=>∃v,e = .returned v/\s.post enc P u apart D l false W g v W':=by
 have J:=hW;obtain⟨p,q,I,hV,rfl,a4,a5⟩:=hW;rw[k]at hV;obtain⟨rfl,rfl⟩:=trodVars_none hV;have a2:s.plain.varTypes P=[]:=by unfold DataSpec.varTypes;show s.vars.filterMap _=[];rw[k];rfl
 rw[a2,jF,jF]at R;unfold z8f at a;simp only[qP,qE,vI]at a;have G:∀(j:Nat) (t:TypeId) (v:Value),u.params.toList[j]?=some t->g.toList[j]?=some v->Value.okWide P W .any A t v:=by intro j t v h1 X;rw[k6]at h1 X;exact U j t v h1 X
 obtain⟨C,xs,g1,g2,g3,g4⟩:=zUS L u.params.toList g.toList i p I G (λt S=>⟨(a t S).1.1.1,(a t S).1.1.2⟩) R;obtain⟨a6,hH,Q⟩:=hl;have m:=hH.2 W C xs _ g2 (Q C ⟨g1,g4⟩);have E:(zb6 C xs).toArray=g:=by rw[g3,jX]
 rw[E]at m;have n:∀(V:List TypeId) (vs:List Value) (i:List (DataW H)) (ps:List MemPlace),DataW.TrodAll enc P W 0 (λ_=>true) true V vs i ps->i.length=V.length:=by intro V;induction V with|nil=>intro vs i ps h;obtain⟨_,rfl,_⟩:=trodAll_nil h;rfl|cons t V ih=>intro vs i ps h;obtain⟨v,a3,d,Z,p,q,rfl,rfl,rfl,_,X⟩:=trodAll_cons h;simp[ih a3 Z q X]
 refine m.mono ?_;intro e W1 he;cases e with
 |panicked c=>exact he.elim
 |outgrown=>exact he.elim
 |returned v=>
  obtain⟨hg,ys,K,N,hv,_⟩:=he;have a1:v = .bool true:=by
   match ys,N with
   |[],h=>exact absurd h.1 (by simp[zI,AV.cvs])
   |[y],h=>have:=(h.2 0 (.b true) y rfl rfl).bool_inv;rw[hv,this];rfl
   |y::z::r,h=>exact absurd h.1 (by simp[zI,AV.cvs])
  subst a1;refine⟨_,rfl,i,[],p++[],[],p,[],J,?_,?_,?_,zVN hg _,λh=>by cases h⟩;{rw [jF,F H i<|n _ _ _ _ I,O];exact⟨[],[],⟨1,by simp[DataW.trod,hB,Value.cells]⟩,rfl,rfl⟩};{rw [jF,F H i<|n _ _ _ _ I];have hb:Go.RowKit.Below W.heap.size W W1:=⟨hg.os,hg.tape,hg.output,hg.size,hg.keep⟩;have M:∀x∈p,x.block<W.heap.size:=λx Y=>(by simpa using J.lt x (j9 _ Y));exact zDv a0 hb _ _ _ _ (λt S=>⟨(a t S).1.2,(a t S).2⟩) I (λx Y=>⟨M x Y,by simpa using M x Y⟩)};{rw [k,jF,F H i<|n _ _ _ _ I];rfl}
end
def zbep:(List.range zh5).all (zBd Tryz.prog)=true:=by kernel_rfl
def z9X:laidOutB Tryz.prog=true:=by kernel_rfl
def own:ownKnob Tryz.prog.godebug=none:=by kernel_rfl
def z9d (T:TypeId)(a:T<zh5):zq2 Tryz.prog T=true/\zBd Tryz.prog T=true :=
 ⟨qP.1 z2V T<|kR.2 a,qP.1 zbep T<|kR.2 a⟩
abbrev Good (b:List TypeId)(a:LA):Prop:=zbaR Tryz.prog b a
abbrev z2J (f:FuncId)(a:List TypeId):Prop:=zXv Tryz.prog f a
def z1e {d:FuncId->Option (LW)}{l:FuncId->Option (CV->Int->Option (Bool×CV×Int))}{m:FuncId->Option (List Bool×(LC->LA->Option (Bool×LC×LA)))}{n:FuncId->Option (List Bool×Option (Nat×Nat×List (List Nat))×(LW))}(e:∀f a,d f=some a->Holds Tryz.prog f a)(g:∀f a,l f=some a->zNd Tryz.prog f a)(i:∀f own a,m f=some (own,a)->zbU Tryz.prog f own a)(j:∀f own k a,n f=some (own,k,a)->zfg Tryz.prog f own k a){f:FuncId}{r:List TypeId}(s:FnOk Tryz.prog f)(h:∀c,Good r c->∃q N D,evalFn (zo4 d l m n) q N D f c=some [.one<|.b true]):z2J f r:=by refine⟨λc=>open Classical in if Good r c then some (true,[.one<|.b true]) else none,zCP (zis e g i j) s ?_,λc hg=>by simp[hg]⟩;intro c t _ p;split at p;{rename_i hg;cases p;exact h c hg};{cases p}
end
def St.blkEnd (e:St):List Bool->List At->List MV->Option (LC×List Nat)
 |[],[],[]=>some ([],[])
 |own::ms,a::r,h::hs=>
  match St.blkEnd e ms r hs with
  |none=>none
  |some (d,c) =>
   match a with
   |.i k n=>some (.i k n::d,c)
   |.b x=>some (.b x::d,c)
   |.sl q [] =>
    match e.root q with
    |some R=>
     match own with
     |true=>if R.own && !c.contains q then some (.s R.t R.l::d,q::c) else none
     |false=>
      match h with
      |.v (.at<|.sl f [])=>if q==f then some (.s R.t R.l::d,c) else none
      |_=>none
    |none=>none
   |_=>none
 |_,_,_=>none
def zf0:List Bool->LC->Nat->List (Nat×Root)
 |own::ms,.s t l::cs,id=>(id,⟨t,l,own,none⟩)::zf0 ms cs (id+1)
 |_::ms,_::cs,id=>zf0 ms cs (id+1)
 |_,_,_=>[]
def z2Z (own:List Bool)(c:LC)(b:LA):St :=
 {tm:=.v (.at<|.lp 0 0)::(ziI c 0).map λa=>.v (.at a),lo:=[(0,ziI c 0)],ro:=zf0 own c 0++zdy zwS b c.length,stk:=[],nid:=c.length+(b.flatMap AV.cvs).length+1,ep:=0}
def zq4 (C:Cfg)(tms:FuncId->Nat->Option Tmpl)(N D:Nat)(f:FuncId)(own:List Bool)(d:LC)(a:LA):Option Ans :=
 cond (zka f && !(zsJ (.agg d::a))) none
 (zxG C tms N (ztU C tms N D) f (.v (.at<|.lp 0 0)::(zdw a d.length).map .v) (z2Z own d a) λh b=>
  match b.tm with
  |.v (.at<|.lp l 0)::hs=>
   match zy b.lo l with
   |some cells=>
    match b.blkEnd own cells hs with
    |some (e,g) =>
     match ztb (b.thaw<|zka f) h g with
     |some c=>some (.agg e::c)
     |none=>none
    |none=>none
   |none=>none
  |_=>none)
section
variable {C:Cfg} {w0 w w1:World} {S0:zbd} {U:Nat->Prop} {st st1:St} {E E1:Env} {ts:Array Value} {sv:List (Array Value)}
structure BlkEnd (st:St) (own:List Bool) (cells:List At) (hs:List MV) (cs:List CV) (ks:List Nat):Prop where
 len:cs.length=cells.length
 hlen:hs.length=cells.length
 ownk:∀r∈ks,∃j,zbk own j/\cells[j]?=some (.sl r [])
 get:∀(j:Nat) (a:At),cells[j]?=some a->(∃k n,a = .i k n/\cs[j]?=some (.i k n))\/(∃x,a = .b x/\cs[j]?=some (.b x))\/
  ∃r R,a = .sl r []/\st.root r=some R/\cs[j]?=some (.s R.t R.l)/\((zbk own j/\R.own=true/\r∈ks)\/(¬ zbk own j/\hs[j]?=some (.v (.at (.sl r [])))))
 inj:∀(i j r:Nat),zbk own i->zbk own j->cells[i]?=some (.sl r [])->cells[j]?=some (.sl r [])->i=j
def zUm:∀(own:List Bool) (cells:List At) (A:List MV) (E:LC) (F:List Nat),st.blkEnd own cells A=some (E,F)->BlkEnd st own cells A E F
 |[],[],[],E,F,h=>by cases h;exact⟨rfl,rfl,fun r h=>by simp at h,fun j a h=>by simp at h,fun i j r h=>by simp[zbk]at h⟩
 |o::ms,a::r,O::A,E,F,h=>by
  simp only[St.blkEnd]at h;split at h;{cases h}
  .rename_i cs0 ks0 h0;have f:=zUm ms r A cs0 ks0 h0;have p:∀(z:List Nat) (c:CV),(∀x∈ks0,x∈z)->∀(j:Nat) (b:At),r[j]?=some b->(∃k n,b = .i k n/\(c :: cs0)[j+1]?=some (.i k n))\/(∃x,b = .b x/\(c :: cs0)[j+1]?=some (.b x)) \/
    ∃q R,b = .sl q []/\st.root q=some R/\(c::cs0)[j+1]?=some (.s R.t R.l)/\((zbk (o::ms) (j+1)/\R.own=true/\q∈z)\/(¬ zbk (o::ms) (j+1)/\(O::A)[j+1]?=some (.v (.at (.sl q []))))):=by
    intro z c I j b g;rcases f.get j b g with h|h|⟨q,R,G,L,M,H⟩
    .exact .inl (by simpa using h)
    .exact .inr (.inl (by simpa using h))
    .refine .inr (.inr ⟨q,R,G,L,by simpa using M,?_⟩)
     rcases H with⟨d,e,Q⟩|⟨d,e⟩
     .exact .inl ⟨by simpa [zbk] using d,e,I q Q⟩
     .exact .inr ⟨by simpa [zbk] using d,by simpa using e⟩
   have flat:∀(c:CV),(∀q,a≠.sl q [])->((∃k n,a = .i k n/\c = .i k n)\/(∃x,a = .b x/\c = .b x))->BlkEnd st (o::ms) (a::r) (O::A) (c::cs0) ks0:=by
    intro c B S;refine⟨by simp[f.len],by simp[f.hlen],fun q K=>?_,fun j b g=>?_,fun i j q u y d e=>?_⟩;{obtain⟨j,d,e⟩:=f.ownk q K;exact⟨j+1,by simpa [zbk] using d,by simpa using e⟩}
    .cases j with
     |zero=>simp only[qI,qC]at g;subst g;rcases S with⟨k,n,d,e⟩|⟨x,d,e⟩;{exact .inl ⟨k,n,d,by simp[e]⟩};{exact .inr (.inl ⟨x,d,by simp[e]⟩)}
     |succ j=>exact p ks0 c (fun _ h=>h) j b (by simpa using g)
    {cases i with|zero=>simp only[qI,qC]at d;exact absurd d (B q)|succ i=>(cases j with|zero=>simp only[qI,qC]at e;exact absurd e (B q)|succ j=>have:=f.inj i j q (by simpa [zbk] using u) (by simpa [zbk] using y) (by simpa using d) (by simpa using e);omega)}
   split at h;{rename_i k n;cases h;exact flat _ (fun q h=>by cases h) (.inl ⟨k,n,rfl,rfl⟩)};{rename_i x;cases h;exact flat _ (fun q h=>by cases h) (.inr ⟨x,rfl,rfl⟩)};{rename_i q;split at h;{rename_i R N;split at h;{split at h;{rename_i m;simp only[qE,jE,jN,decide_eq_false_iff_not]at m;obtain⟨C,J⟩:=m;cases h;refine⟨by simp[f.len],by simp[f.hlen],fun x w=>?_,fun j b g=>?_,fun i j x u y d e=>?_⟩;{rcases qG.1 w with rfl|w;{exact⟨0,rfl,rfl⟩};{obtain⟨j,d,e⟩:=f.ownk x w;exact⟨j+1,by simpa [zbk] using d,by simpa using e⟩}};{cases j with|zero=>simp only[qI,qC]at g;subst g;exact .inr (.inr ⟨q,R,rfl,N,by simp,.inl ⟨rfl,C,jJ⟩⟩)|succ j=>exact p _ _ (fun x w=>qZ _ w) j b (by simpa using g)};{have D:∀(i:Nat),zbk ms i->r[i]?=some (.sl q [])->False:=(by intro i u K;rcases f.get i _ K with⟨_,_,h,_⟩|⟨_,h,_⟩|⟨V,T,G,L,M,H⟩;{cases h};{cases h};{cases G;rcases H with⟨_,_,h⟩|⟨h,_⟩;{exact J h};{exact h u}});cases i with|zero=>(cases j with|zero=>rfl|succ j=>simp only[qI,qC,At.sl.injEq,and_true]at d;subst d;exact(D j (by simpa [zbk] using y) (by simpa using e)).elim)|succ i=>(cases j with|zero=>simp only[qI,qC,At.sl.injEq,and_true]at e;subst e;exact(D i (by simpa [zbk] using u) (by simpa using d)).elim|succ j=>have:=f.inj i j x (by simpa [zbk] using u) (by simpa [zbk] using y) (by simpa using d) (by simpa using e);omega)}};{cases h}};{split at h;{rename_i U;split at h;{rename_i P;simp only[qK]at P;subst P;cases h;refine⟨by simp[f.len],by simp[f.hlen],fun x w=>?_,fun j b g=>?_,fun i j x u y d e=>?_⟩;{obtain⟨j,d,e⟩:=f.ownk x w;exact⟨j+1,by simpa [zbk] using d,by simpa using e⟩};{cases j with|zero=>simp only[qI,qC]at g;subst g;exact .inr (.inr ⟨q,R,rfl,N,by simp,.inr ⟨by simp[zbk],rfl⟩⟩)|succ j=>exact p _ _ (fun x w=>w) j b (by simpa using g)};{cases i with|zero=>simp[zbk]at u|succ i=>(cases j with|zero=>simp[zbk]at y|succ j=>have:=f.inj i j x (by simpa [zbk] using u) (by simpa [zbk] using y) (by simpa using d) (by simpa using e);omega)}};{cases h}};{cases h}}};{cases h}};{cases h}
 |[],_::_,_,_,_,h=>by simp[St.blkEnd]at h
 |[],[],_::_,_,_,h=>by simp[St.blkEnd]at h
 |_::_,[],_,_,_,h=>by simp[St.blkEnd]at h
 |_::_,_::_,[],_,_,h=>by simp[St.blkEnd]at h
def z8Z (a:Value)(b:LV):(#[a]++b)[0]?=some a:=by rw[kE (by simp)];rfl
def z81 (a:Value)(b:LV)(i:Nat):(#[a]++b)[i+1]?=b[i]?:=by rw[kO (by simp)];simp
def znv:∀(own:List Bool) (a:LC) (id n:Nat) (R:Root),zy (zf0 own a id) n=some R->id<=n/\∃t l,a[n-id]?=some (.s t l)/\R.t=t/\HEq R.l l/\own[n-id]?=some R.own/\R=⟨t,l,R.own,none⟩
 |[],_,_,_,_,h=>by cases h
 |o::ms,[],_,_,_,h=>by cases h
 |o::ms,c::a,id,n,R,h=>by have d:zy (zf0 ms a<|id+1) n=some R->id<=n/\∃t l,(c::a)[n-id]?=some (.s t l)/\R.t=t/\HEq R.l l/\(o::ms)[n-id]?=some R.own/\R=⟨t,l,R.own,none⟩:=λh=>(by obtain⟨r,t,l,g,j,m,p,q⟩:=znv ms a (id+1) n R h;have e:n-id=(n-(id+1))+1:=(by omega);exact⟨by omega,t,l,by rw[e,jS];exact g,j,m,by rw[e,jS];exact p,q⟩);cases c with|i k x=>exact d h|b x=>exact d h|s t l=>simp only[zf0,zy]at h;split at h;{rename_i f;simp only[qK]at f;subst f;cases h;exact⟨qX _,t,l,by simp,rfl,HEq.rfl,by simp,rfl⟩};{exact d h}
def zjv (hO:EngOk C){f:FuncId}{own:List Bool}{e8:LC->LA->Option (Bool×LC×LA)}(hf:FnOk C.P f)(h:∀(d:LC) (z:LA) (Z:LC) (rs:LA),own.length=d.length->(∃(w:World) (xs:Nat->Value) (K:Nat->zbd),∀(j:Nat) (c:CV),(d++zI z)[j]?=some c->Rep false w (xs j) c (K j))->e8 d z=some (true,Z,rs)->Z.length=d.length/\∃tms N D,zq4 C tms N D f own d z=some (.agg Z::rs)):zbU C.P f own e8:=by
 refine⟨hf,λw blk B e d K z xs Ka Z rs hb e5 g7 a1 a7 f1 a4 c7 e0=>?_⟩;obtain⟨d4,tms,N,D,a3⟩:=h d z Z rs g7 ⟨w,λj=>if j<d.length then (B[j]?).getD undef else (xs[j-d.length]?).getD undef,λj=>if j<d.length then K j else Ka,λj c L=>by
  by_cases T:j<d.length
  .rw [qW T]at L;have M:=jM (show j<B.size by omega)
   simp only[if_pos T,M,kC];exact(a1 j c _ L M).ro
  .rw [qU (by omega)]at L
   have c9:=(qA.1 L).1;have M:=qB (show j-d.length<xs.length by rw[a4.1];exact c9)
   simp only[if_neg T,M,kC];exact a4.2 _ c _ L M⟩ e0
 unfold zq4 at a3;cases b9:zka f && !(zsJ (.agg d::z)) with
 |true=>rw[b9]at a3;cases a3
 |false=>
 rw[b9,cond_false]at a3;have hblt:blk<w.heap.size:=(qO.1 hb).1;generalize a9:z2Z own d z=st at a3;have g9:st.ro=zf0 own d 0++zdy zwS z d.length:=(by rw[<- a9];rfl);have d6:st.lo=[(0,ziI d 0)]:=(by rw[<- a9];rfl);have c3:st.stk=[]:=(by rw[<- a9];rfl);have hnid:st.nid=d.length+(zI z).length+1:=(by rw[<- a9];rfl);have b0:st.tm = .v (.at<|.lp 0 0)::(ziI d 0).map λa=>.v (.at a):=(by rw[<- a9];rfl);have O:∀r R,zy st.ro r=some R->R.ep=none/\((r<d.length/\own[r]?=some R.own/\d[r]?=some (.s R.t R.l))\/(d.length<=r/\r<d.length+(zI z).length/\R.own=false/\(zI z)[r-d.length]?=some (.s R.t R.l))):=(by intro r R I;rw[g9,zbM]at I;split at I;{rename_i Q hQ;cases I;obtain⟨_,t,l,q,_,_,h5,h6⟩:=znv own d 0 r R hQ;rw[h6]at h5 ⊢;simp only[vL]at q h5;exact⟨rfl,.inl ⟨(qA.1 q).1,h5,q⟩⟩};{obtain⟨g,t,l,q,rfl⟩:=zgx zwS z d.length r R I;have:=(qA.1 q).1;exact⟨rfl,.inr ⟨g,by omega,rfl,q⟩⟩});have H:∀r R,st.root r=some R->(r<d.length/\own[r]?=some R.own/\d[r]?=some (.s R.t R.l))\/(d.length<=r/\R.own=false/\(zI z)[r-d.length]?=some (.s R.t R.l)):=(by intro r R I;rcases (O r R (zbD I).1).2 with h|⟨g,_,q,G⟩;{exact .inl h};{exact .inr ⟨g,q,G⟩});let E:Env:={ρ:=λn=>if n<d.length then (B[n]?).getD undef else (xs[n-d.length]?).getD undef,φ:=λn=>if n<d.length then K n else Ka,β:=λ_=>blk,κ:=w}
 have a0:∀n,n<d.length->E.ρ n=(B[n]?).getD undef/\E.φ n=K n:=λn hn=>(by simp only[E,if_pos hn,and_self]);have a2:∀n,d.length<=n->E.ρ n=(xs[n-d.length]?).getD undef/\E.φ n=Ka:=λn hn=>(by simp only[E,if_neg (show ¬ n<d.length by omega),and_self]);have e4:∀(j:Nat) (a:At) (u:Value),(ziI d 0)[j]?=some a->B[j]?=some u->u.oneCell'=true/\VA w st E a u:=(by intro j a u A M;rw[zwP,kB]at A;cases L:d[j]? with|none=>rw[L]at A;cases A|some c=>rw[L]at A;cases A;have hr:=a1 j c u L M;have T:j<d.length:=(qA.1 L).1;refine⟨hr.one,?_⟩;(cases c with|i k n=>exact hr.int_inv|b x=>exact hr.bool_inv|s t l=>obtain⟨⟨a,c5,hv,_⟩,_⟩:=hr.len;refine⟨⟨a,_,c5,hv⟩,λR _=>?_⟩;rw[(a0 j T).1,M];rfl));have b8:∀l cells,zy st.lo l=some cells->l=0/\cells=ziI d 0:=(by intro l cells h;rw[d6]at h;simp only[zy]at h;split at h;{rename_i he;simp only[qK]at he;cases h;exact⟨he.symm,rfl⟩};{cases h});have hp:VA w st E (.lp 0 0) (.pointer<|some ⟨blk,0,none⟩):=⟨⟨_,rfl⟩,λ_ _=>rfl⟩;have c0:∀a∈ziI d 0,∀m∈a.ids,m<d.length:=(by intro a A m J;obtain⟨j,T⟩:=qV.1 A;rw[zwP,kB]at T;cases L:d[j]? with|none=>rw[L]at T;cases T|some c=>rw[L]at T;cases T;have:=zBI J;have:=(qA.1 L).1;omega);let S0:zbd:=λb=>b=blk\/(∃j,j<d.length/\zbk own j/\K j b)\/(zka f=false/\b=w.heap.size)
 have hS:Sim w S0 (λn=>n<st.nid) st E (#[.pointer<|some ⟨blk,0,none⟩]++B) [] w:=by
  refine⟨⟨rfl,rfl,rfl,qX _,λ_ _ _=>rfl,λr R I=>?_,λr R I x p=>?_,λr R I U=>?_,λhz r R I U he f7=>?_,λr R r' R' I U f2 he X x p=>?_,λl cells hl=>?_,λl l' c1 c2 g q _=>?_,λl cells r R hl I=>?_,λr R e I he=>?_,rfl⟩,⟨λn R hn=>?_,λn cells hn=>?_,λm J n hn=>?_,λf hf=>?_⟩,⟨?_,λi m v J hv=>?_⟩,?_⟩;{rcases H r R I with⟨g,q,G⟩|⟨g,q,G⟩;{have M:=jM (show r<B.size by omega);rw[(a0 r g).1,(a0 r g).2,M];have:=a1 r _ _ G M;rw[q] at this;exact this};{have c9:=(qA.1 G).1;have M:=qB (show r-d.length<xs.length by rw[a4.1];exact c9);rw[(a2 r g).1,(a2 r g).2,M,q];exact a4.2 _ _ _ G M}};{rcases H r R I with⟨g,q,G⟩|⟨g,q,G⟩;{rw [(a0 r g).2]at p;exact(a7 r x g p).1};{rw [(a2 r g).2]at p;exact(c7 x p).1}};{rcases H r R I with⟨g,q,G⟩|⟨g,q,G⟩;{refine⟨(O r R (zbD I).1).1,λx p=>.inl (.inr<|.inl ⟨r,g,?_,?_⟩)⟩;{show own[r]?=some true;rw[q,U]};{rw [(a0 r g).2]at p;exact p}};{rw [q]at U;cases U}}
  .exfalso;cases hq:zka f with
   |false=>exact hz (.inr<|.inr ⟨hq,rfl⟩)
   |true=>rw[hq,uN]at b9;have f6:zsJ (.agg d::z)=true:=(by simpa using b9);have d7:CV.s R.t R.l∈(AV.agg d::z).flatMap AV.cvs:=(by simp only[kG,jK];rcases H r R I with⟨g,q,G⟩|⟨g,q,G⟩;{exact .inl (qJ G)};{exact .inr (qJ G)});have:=qP.1 f6 _ d7;simp only at this;rw[f7] at this;cases this
  {rcases H r R I with⟨g,q,G⟩|⟨g,q,G⟩;{have d9:zbk own r:=(by show own[r]?=some true;rw[q,U]);rw[(a0 r g).2]at p;rcases H r' R' f2 with⟨W,c6,a6⟩|⟨W,c6,a6⟩;{rw [(a0 r' W).2];exact f1 r r' x g W d9 X p};{rw [(a2 r' W).2];exact λhk=>(c7 x hk).2.2 r g d9 p}};{rw [q]at U;cases U}};{obtain⟨rfl,rfl⟩:=b8 l cells hl;exact⟨.inl (.inl rfl),B,e,hb,by rw[e5,zBH],λj c u L M=>e4 j c u L M⟩};{rw [(b8 l c1 g).1,(b8 l' c2 q).1]};{intro p;rcases H r R I with⟨g,q,G⟩|⟨g,q,G⟩;{rw [(a0 r g).2]at p;exact(a7 r _ g p).2 rfl};{rw [(a2 r g).2]at p;exact(c7 _ p).2.1 rfl}};{rw [(O r R I).1]at he;cases he};{rcases (O n R hn).2 with⟨g,_⟩|⟨_,g,_⟩<;>omega};{obtain⟨rfl,rfl⟩:=b8 n cells hn;refine⟨by omega,λa A m J=>?_⟩;have:=c0 a A m J;omega};{rw [b0]at J;rcases qG.1 J with rfl|J;{simp only [MV.ids,zbL,zZ,At.ids,zby,zbG,jW,kG,uL,jF,qF]at hn;omega};{obtain⟨a,A,rfl⟩:=jH.1 J;simp only[MV.ids,zbL,zZ,kG,uL,jF]at hn;have:=c0 a A n hn;omega}};{rw [c3]at hf;simp at hf};{rw [b0];simp[zBH,e5];omega};{rw [b0]at J;cases i with|zero=>rw[z8Z]at hv;simp at J hv;subst J hv;exact hp|succ i=>simp only[jS,qQ]at J;have d0:B[i]?=some v:=(by rw[z81]at hv;exact hv);(cases A:(ziI d 0)[i]? with|none=>rw[A]at J;cases J|some a=>rw[A]at J;cases J;exact(e4 i a v A d0).2)};{rw [c3];trivial}
 obtain⟨f9,g0⟩:=ziH (w:=w) (st:=st) (E:=E) z xs d.length a4.1 (λi c u L M=>by
  have hr:=a4.2 i c u L M;refine⟨?_,hr.one⟩;cases c with
  |i k n=>exact hr.int_inv
  |b x=>exact hr.bool_inv
  |s t l=>
   obtain⟨⟨a,c5,hv,_⟩,_⟩:=hr.len;refine⟨⟨a,_,c5,hv⟩,λR I=>?_⟩;have e:d.length+i-d.length=i:=by omega
   rw[(a2 _<|uK _ _).1,e,M];rfl)
 obtain⟨_,b7⟩:=zmW hO (zll hO (tms:=tms) (N:=N) D) f _ st _ _ a3 w S0 _ E _ [] w (#[.pointer<|some ⟨blk,0,none⟩]++(zb6 z xs).toArray)
  (λv w'=>w'.os=w.os/\w'.tape=w.tape/\w'.output=w.output/\w.heap.size<=w'.heap.size/\
   (∀b,b<w.heap.size->b≠blk->(∀j,j<d.length->zbk own j->¬ K j b)->w'.heap[b]?=w.heap[b]?)/\
   ∃(S:LV) (e':TypeId) (K':Nat->zbd) (ys:List Value) (Kr:Nat->zbd),w'.heap[blk]?=some (.cells S e' (0,0))/\S.size=Z.length/\Z.length=d.length/\
    (∀(j:Nat) (c:CV) (u:Value),Z[j]?=some c->S[j]?=some u->match c with
     |.i k n=>u = .int k n
     |.b x=>u = .bool x
     |.s t l=>(zbk own j->Rep true w' u (.s t l) (K' j))/\(¬ zbk own j->B[j]?=some u))/\
    zvX (zrp f) w' (zI rs) ys Kr/\v=zmk (zb6 rs ys)/\
    (∀j x,j<d.length->K' j x->x<w'.heap.size/\x≠blk/\((∃i,i<d.length/\zbk own i/\K i x)\/w.heap.size<=x))/\
    (∀i x,i<(zI rs).length->Kr i x->x<w'.heap.size/\x≠blk/\((∃i,i<d.length/\zbk own i/\K i x)\/w.heap.size<=x))/\
    (∀i j x,i<d.length->j<d.length->i≠j->K' i x->¬ K' j x)/\
    (∀i j c x,(zI rs)[i]?=some c->zrp f c=true->j<(zI rs).length->i≠j->Kr i x->¬ Kr j x)/\
    (∀i j x,i<d.length->j<(zI rs).length->K' i x->¬ Kr j x)) hS (λn hn h=>by omega)
  (by simp[f9]) (λi m v J hv=>by
   cases i with
   |zero=>rw[z8Z]at hv;simp at J hv;subst J hv;exact hp
   |succ i=>
    simp only[jS,qQ]at J;have d0:(zb6 z xs)[i]?=some v:=by rw[z81]at hv;simpa using hv
    cases p:(zdw z d.length)[i]? with
    |none=>rw[p]at J;cases J
    |some x=>rw[p]at J;cases J;exact g0 i x v p d0)
  (λm J n hn=>by
   rcases qG.1 J with rfl|J
   .simp only [MV.ids,zbL,zZ,At.ids,zby,zbG,jW,kG,uL,jF,qF]at hn;omega
   .obtain⟨x,p,rfl⟩:=jH.1 J;simp only[MV.ids,zbL,qR]at hn;obtain⟨a,A,hn⟩:=hn;have:=(zgy z d.length n x a p A hn).2;omega)
  (λU' b2 E' w' tvs v d2 _ _ _ hv _ F=>by
   split at F
   .rename_i l hs htm;split at F
    .rename_i cells hcells;split at F
     .rename_i cs1 ks hbe;split at F
      .rename_i ans hansof;simp only[qC,List.cons.injEq,AV.agg.injEq]at F;obtain⟨rfl,rfl⟩:=F;have hB:=zUm own cells hs _ ks hbe;have hM:=d2.mem;obtain⟨hts,e2⟩:=d2.tm;have g2:=e2 0 (.v<|.at<|.lp l 0) (.pointer<|some ⟨blk,0,none⟩) (by rw[htm];rfl) (z8Z _ _)
       have e7:E'.β l=blk:=by have:=g2.2 cells hcells;simp only[Value.pointer.injEq,qC,Addr.mk.injEq,and_true] at this;exact this.symm
       obtain⟨us,rfl,h8,h9⟩:=zAR hv;have TT:=zQg (st:=b2) (E:=E') (w:=w') (zka f);obtain⟨a5,ys,kr,hG,hyl,e6,rfl,f8,_⟩:=zkR tvs ks _ us hansof h8 (λk x u p M=>VT.tr TT (λ_ _ _ _=>trivial) (h9 k x u p M));have hyv:∀(k:Nat) (a:At) (u:Value),a5[k]?=some a->ys[k]?=some u->VA w' b2 E' a u:=λk a u A M=>by have h:=e6 k a u A M;rcases hG.get k a A with⟨_,_,rfl,_⟩|⟨_,rfl,_⟩|⟨r,R1,rfl,b6,J,_⟩;{exact h};{exact h};{obtain⟨R0,f3,ht,_⟩:=zl6 b6;refine⟨h.1,λR I=>?_⟩;rw[f3]at I;cases I;have:=h.2 R1 b6;simpa [zbg] using this}
       have hzz:zka f=true->¬ S0 w.heap.size:=λh h'=>by rcases h' with h'|⟨j,T,_,hk⟩|⟨h',_⟩;{omega};{have:=(a7 j _ T hk).1;omega};{rw [h]at h';cases h'}
       obtain⟨_,S,e',a8,e1,f4⟩:=hM.loc l cells hcells;rw[e7]at a8;have d3:∀x,(S0 x\/w.heap.size<=x)->x≠blk->((∃i,i<d.length/\zbk own i/\K i x)\/w.heap.size<=x):=by intro x h X;rcases h with (h|h|h)|h;{exact absurd h X};{exact .inl h};{exact .inr (by omega)};{exact .inr h}
       have d8:∀r R x,b2.root r=some R->E'.φ r x->x≠blk:=by intro r R x I p he;subst he;rw[<- e7]at p;exact hM.lro l cells r R hcells I p
       have d5:∀i,i<(zI ans).length->∃a,a5[i]?=some a:=λi hi=>⟨_,qB (by rw[<- hG.len];exact hi)⟩
       let K':Nat->zbd:=λj x=>zbk own j/\cφ E' cells j x
       have b4:∀j x,K' j x->∃r R,cells[j]?=some (.sl r [])/\zbk own j/\b2.root r=some R/\R.own=true/\r∈ks/\E'.φ r x:=by intro j x p;obtain⟨U,p⟩:=p;obtain⟨a,A,p⟩:=zwr p;rcases hB.get j a A with⟨_,_,rfl,_⟩|⟨_,rfl,_⟩|⟨r,R,rfl,g,q,G⟩;{exact p.elim};{exact p.elim};{rcases G with⟨_,Y,h5⟩|⟨Y,_⟩;{exact⟨r,R,A,U,g,Y,h5,p⟩};{exact absurd U Y}}
       have b5:∀i x,cφ E' a5 i x->∃a r R,a5[i]?=some a/\a = .sl r []/\b2.root r=some R/\R.ep=none/\r∈kr/\aφ E' a x/\E'.φ r x:=by intro i x p;obtain⟨a,A,p⟩:=zwr p;obtain⟨r,hr,rfl,h0⟩:=hG.fi A p;obtain⟨R1,b6,g6⟩:=hG.own r hr;obtain⟨R,I,_,c8⟩:=zl6 b6;refine⟨_,r,R,A,rfl,I,?_,hr,p,h0⟩;rcases c8 with rfl|⟨_,_,he,_⟩;{exact(hM.mine r _ I g6).1};{exact he}
       refine⟨hM.os,hM.tape,hM.output,hM.size,λb hb X g3=>hM.keep b hb λh=>?_,S,e',K',ys,cφ E' a5,a8,by rw[e1,hB.len],d4,λj c u L M=>?_,⟨by rw[hyl,hG.len],λi c x L p=>?_⟩,rfl,λj x T p=>?_,λi x hi p=>?_,λi j x hi T X p b1=>?_,λi j c x hi U T X p b1=>?_,λi j x hi T p b1=>?_⟩
       .rcases h with h|⟨j,T,U,hk⟩|⟨_,h⟩
        .exact X h
        .exact g3 j T U hk
        .omega
       .have T:j<cells.length:=by rw[<- hB.len];exact(qA.1 L).1
        have A:=qB T;obtain⟨_,V⟩:=f4 j _ u A M;rcases hB.get j _ A with⟨k,n,g,q⟩|⟨y,g,q⟩|⟨r,R,g,q,G,Y⟩
        .rw [L]at q;cases q;rw[g]at V;exact V
        .rw [L]at q;cases q;rw[g]at V;exact V
        .rw [L]at G;cases G;rw[g]at V A;have d1:=V.2 R q;simp only[zbg,qC]at d1;refine⟨λU=>?_,λg4=>?_⟩
         .rcases Y with⟨_,h5,_⟩|⟨h5,_⟩
          .have hr:=hM.rep r R q;rw[h5,d1]at hr;exact hr.weak (λx p=>⟨U,by rw[zjs A];exact p⟩)
          .exact absurd U h5
         .rcases Y with⟨h5,_⟩|⟨_,h5⟩
          .exact absurd h5 g4
          .have hjc:j<d.length:=by rw[<- d4,hB.len];exact T
           have e3:=jM (show j<B.size by omega)
           have h7:=e2 (j+1) (.v<|.at<|.sl r []) B[j] (by rw[htm,jS];exact h5) (by rw[z81];exact e3)
           have c4:=h7.2 R q;simp only[zbg,qC]at c4;rw[e3,<- c4,d1]
       .obtain⟨a,A⟩:=d5 i (qA.1 L).1;rw[zjs A];exact z3r hM hG A L (hyv i a x A p)
       .obtain⟨r,R,_,U,g,q,G,Y⟩:=b4 j x p;have:=d8 r R x g Y;exact⟨hM.rlt r R g x Y,this,d3 x ((hM.mine r R g q).2 x Y) this⟩
       .obtain⟨a,r,R,A,_,g,_,_,G,Y⟩:=b5 i x p;have:=d8 r R x g Y;exact⟨hM.rlt r R g x Y,this,d3 x (z7Y hzz hM hG A G).1 this⟩
       .obtain⟨r,R,g1,U,g,q,G,Y⟩:=b4 i x p;obtain⟨r',R',f0,g5,W,c6,a6,b3⟩:=b4 j x b1;have:=hM.own_apart g q W c6 Y b3;subst this;exact X (hB.inj i j r U g5 g1 f0)
       .obtain⟨a,r,R,A,_,g,_,_,G,Y⟩:=b5 i x p;obtain⟨b,r',R',a8,_,W,_,_,a6,b3⟩:=b5 j x b1;exact X (z3q hM hG A a8 hi U G a6)
       .obtain⟨r,R,g1,U,g,q,G,Y⟩:=b4 i x p;obtain⟨b,r',R',a8,_,W,f5,g8,a6,b3⟩:=b5 j x b1
        by_cases e:r=r'
        .subst e;exact f8 r g8 G
        .exact hM.apart r R r' R' g q W f5 e x Y b3
      .cases F
     .cases F
    .cases F
   .cases F)
 refine b7.mono ?_;intro ex w' he;cases ex with|returned v=>exact he|panicked e9=>exact he.elim|outgrown=>exact he.elim
end
def z4x (C:Cfg)(tms:FuncId->Nat->Option Tmpl)(N D:Nat)(f:FuncId)(own:List Bool)(a:LA):Option Ans :=
 zxG C tms N (ztU C tms N D) f ((zdw a 0).map .v) {tm:=[],lo:=[],ro:=zf0 own (a.flatMap AV.cvs) 0,stk:=[],nid:=(a.flatMap AV.cvs).length,ep:=0} λb c=>ztb c b []
def zGy (C:Cfg)(tms:FuncId->Nat->Option Tmpl)(N D:Nat)(f:FuncId)(own:List Bool)(e g:Nat)(b:List (List Nat))(t:Ty)(a:LA):Option Ans :=
 zxG C tms N (ztU C tms N D) f ((zdw a 0).map .v) {tm:=[.v<|.at<|.kp e b t],lo:=[],ro:=zf0 own (a.flatMap AV.cvs) 0,stk:=[],nid:=(a.flatMap AV.cvs).length,ep:=0} λc d=>
  match d.tm,(c.flatMap zZ)[g]? with
  |[.v<|.at<|.kp n J h],some (.sl m [])=>cond (Nat.beq n m&&(J==b&&decide (h=t))) (ztb d c []) none
  |_,_=>none
section
variable {C:Cfg} {w0 w w1:World} {S0:zbd} {U:Nat->Prop} {st st1:St} {E E1:Env} {ts:Array Value} {sv:List (Array Value)}
def zQ1 (hO:EngOk C){f:FuncId}{own:List Bool}{b2:LW}(hf:FnOk C.P f)(a6:zkr f=[[]])(h:∀(d:LA) (G:LA),own.length=(zI d).length->(∃(w:World) (J:Nat->Value) (K:Nat->zbd),∀(j:Nat) (c:CV),(zI d)[j]?=some c->Rep false w (J j) c (K j))->b2 d=some (true,G)->∃tms N D,z4x C tms N D f own d=some G)(A:own.isEmpty=false:=by rfl):zfg C.P f own none b2:=by
 refine zfg.of (by rintro rfl;cases A) ?_;intro al a5;rw[a6,qF]at a5;subst a5;refine⟨hf,λw K d J G b1 c5 I a4 a3 _ b0=>?_⟩;have b8:=λi j x hi hj U A=>a3 i j x hi hj U A (by simp)
 obtain⟨tms,N,D,a2⟩:=h d G c5 ⟨w,λj=>(J[j]?).getD undef,K,λj c hc=>by
  have c3:=(qA.1 hc).1;have Z:=qB (show j<J.length by rw[b1];exact c3)
  simp only[Z,kC];exact(I j c _ hc Z).ro⟩ b0
 unfold z4x at a2;generalize y:({tm:=[],lo:=[],ro:=zf0 own (d.flatMap AV.cvs) 0,stk:=[],nid:=(d.flatMap AV.cvs).length,ep:=0}:St)=st at a2;have a9:st.ro=zf0 own (zI d) 0:=(by rw[<- y];rfl);have g:∀r R,zy st.ro r=some R->R.ep=none/\r<(zI d).length/\own[r]?=some R.own/\(zI d)[r]?=some (.s R.t R.l):=(by intro r R z;rw[a9]at z;obtain⟨_,t,l,B,_,_,h5,h6⟩:=znv own (zI d) 0 r R z;rw[h6]at h5 ⊢;simp only[vL]at B h5;exact⟨rfl,(qA.1 B).1,h5,B⟩);have T:∀l,zy st.lo l=none:=λl=>(by rw[<- y];rfl);let E:Env:={ρ:=λn=>(J[n]?).getD undef,φ:=K,β:=λ_=>0,κ:=w}
 let S0:zbd:=λb=>(∃j,j<(zI d).length/\zbk own j/\K j b)\/b=w.heap.size
 have hS:Sim w S0 (λn=>n<(zI d).length) st E #[] [] w:=by refine⟨⟨rfl,rfl,rfl,qX _,λ_ _ _=>rfl,λr R z=>?_,λr R z x q=>?_,λr R z U=>?_,λhz _ _ _ _ _ _=>absurd (.inr rfl) hz,λr R r' R' z U b9 _ A x q=>?_,λl cs Y=>?_,λl l' cs d5 Y=>?_,λl cs r R Y=>?_,λr R e z X=>?_,rfl⟩,⟨λn R L=>?_,λn cs L=>?_,λm F=>?_,λf hf=>?_⟩,⟨?_,λi m v F=>?_⟩,?_⟩;{obtain⟨_,H,B,h3⟩:=g r R (zbD z).1;have Z:=qB (show r<J.length by omega);show Rep R.own w ((J[r]?).getD undef) _ (K r);have:=I r _ _ h3 Z;rw[B] at this;rw[Z];exact this};{obtain⟨_,H,_,_⟩:=g r R (zbD z).1;exact a4 r x H q};{obtain⟨X,H,B,_⟩:=g r R (zbD z).1;refine⟨X,λx q=>.inl (.inl ⟨r,H,?_,q⟩)⟩;show own[r]?=some true;rw[B,U]};{obtain⟨_,H,B,_⟩:=g r R (zbD z).1;obtain⟨_,a0,_,_⟩:=g r' R' (zbD b9).1;exact b8 r r' x H a0 (by show own[r]?=some true;rw[B,U]) A q};{rw [T]at Y;cases Y};{rw [T]at Y;cases Y};{rw [T]at Y;cases Y};{rw [(g r R z).1]at X;cases X};{exact(g n R L).2.1};{rw [T]at L;cases L};{rw [<- y]at F;simp at F};{rw [<- y]at hf;simp at hf};{rw [<- y];rfl};{rw [<- y]at F;simp at F};{rw [<- y];trivial}
 obtain⟨c1,c2⟩:=ziH (w:=w) (st:=st) (E:=E) d J 0 b1 (λi c u hc Z=>by
  have V:=I i c u hc Z;refine⟨?_,V.one⟩;cases c with
  |i k n=>exact V.int_inv
  |b x=>exact V.bool_inv
  |s t l=>
   obtain⟨⟨a,b3,hv,_⟩,_⟩:=V.len;refine⟨⟨a,_,b3,hv⟩,λR z=>?_⟩;have e:0+i=i:=by omega
   show some ((J[0+i]?).getD undef)=some u
   rw[e,Z];rfl)
 have d4:st.nid=(zI d).length:=by rw[<- y];rfl
 obtain⟨_,S⟩:=zmW hO (zll hO (tms:=tms) (N:=N) D) f _ st _ G a2 w S0 _ E #[] [] w (zb6 d J).toArray
  (λv M=>M.os=w.os/\M.tape=w.tape/\M.output=w.output/\w.heap.size<=M.heap.size/\
   (∀b,b<w.heap.size->(∀j,j<(zI d).length->zbk own j->¬ K j b)->M.heap[b]?=w.heap[b]?)/\
   ∃(ys:List Value) (Kr:Nat->zbd),zeb true M (zI G) ys Kr/\v=zmk (zb6 G ys)/\
    (∀i x,i<(zI G).length->Kr i x->x<M.heap.size/\((∃j,j<(zI d).length/\zbk own j/\K j x)\/w.heap.size<=x))/\
    (∀i j x,i<(zI G).length->j<(zI G).length->i≠j->Kr i x->¬ Kr j x)/\
    (∀ja jr js,(none:Option (Nat×Nat×List (List Nat)))=some (ja,jr,js)->∀t l u,(zI d)[ja]?=some (.s t l)->J[ja]?=some u->∃l',(zI G)[jr]?=some (.s t l')/\ys[jr]?=some u/\
     ∀p v,zbg w t u p=some v->js.any (λc=>c.isPrefixOf (cols p))=false->zbg M t u p=some v)) hS (λn L h=>by omega)
  (by simp[c1]) (λi m v F hv=>by
   rw[qQ]at F;cases q:(zdw d 0)[i]? with
   |none=>rw[q]at F;cases F
   |some x=>rw[q]at F;cases F;exact c2 i x v q (by simpa using hv))
  (λm F n L=>by
   obtain⟨x,q,rfl⟩:=jH.1 F;simp only[MV.ids,zbL,qR]at L;obtain⟨a,W,L⟩:=L;have:=(zgy d 0 n x a q W L).2;omega)
  (λU' d2 E' M d3 v c0 _ _ _ hv _ a7=>by
   obtain⟨us,rfl,c7,c8⟩:=zAR hv;obtain⟨O,ys,ks,hG,d0,d1,rfl,_⟩:=zkR d3 [] G us a7 c7 c8;have Q:=c0.mem;have a8:∀i,i<(zI G).length->∃a,O[i]?=some a:=λi hi=>⟨_,qB (by rw[<- hG.len];exact hi)⟩
   have a1:∀i x,cφ E' O i x->∃r∈ks,∃R,O[i]?=some (.sl r [])/\d2.root r=some R/\R.own=true/\E'.φ r x:=by intro i x q;obtain⟨a,W,q⟩:=zwr q;obtain⟨r,V,rfl,c6⟩:=hG.fi W q;obtain⟨R,z,U⟩:=hG.own r V;exact⟨r,V,R,W,z,U,c6⟩
   refine⟨Q.os,Q.tape,Q.output,Q.size,λb hb c4=>Q.keep b hb λh=>h.elim (λ⟨j,hj,U,hk⟩=>c4 j hj U hk) (λh=>by omega),ys,cφ E' O,⟨by rw[d0,hG.len],λi c x hc q=>?_⟩,rfl,λi x hi q=>?_,λi j x hi hj A q c9=>?_,λja jr js h=>by cases h⟩
   .obtain⟨a,W⟩:=a8 i (qA.1 hc).1;rw[zjs W];exact hG.rep Q W hc (d1 i a x W q)
   .obtain⟨r,V,R,_,H,B,h4⟩:=a1 i x q;exact⟨Q.rlt r R H x h4,((Q.mine r R H B).2 x h4).elim (λh=>h.imp (λh=>h) λh=>uD h.symm) .inr⟩
   .obtain⟨r,V,R,g1,H,B,h4⟩:=a1 i x q;obtain⟨r',d6,R',b5,a0,b6,b7⟩:=a1 j x c9;have:=Q.own_apart H B a0 b6 h4 b7;subst this;exact A (hG.inj i j r g1 b5))
 refine S.mono ?_;intro ex M X;cases ex with|returned v=>exact X|panicked b4=>exact X.elim|outgrown=>exact X.elim
def zol (hO:EngOk C){f:FuncId}{own:List Bool}{G jr:Nat}{js:List (List Nat)}{kt:Ty}{c7:LW}(hf:FnOk C.P f)(b6:zkr f=[[]])(h:∀(d:LA) (O:LA),own.length=(zI d).length->(∃(w:World) (A:Nat->Value) (K:Nat->zbd),∀(j:Nat) (c:CV),(zI d)[j]?=some c->Rep false w (A j) c (K j))->c7 d=some (true,O)->(∃l,(zI d)[G]?=some (.s kt l))/\own[G]?=some true/\∃tms N D,zGy C tms N D f own G jr js kt d=some O)(H:own.isEmpty=false:=by rfl):zfg C.P f own (some (G,jr,js)) c7:=by
 refine zfg.of (by rintro rfl;cases H) ?_;intro al b5;rw[b6,qF]at b5;subst b5;refine⟨hf,λw K d A O b0 e5 I b3 b2 _ c2=>?_⟩;have d2:=λi j x hi hj ho H=>b2 i j x hi hj ho H (by simp)
 obtain⟨⟨kl,a1⟩,f8,tms,N,D,a8⟩:=h d O e5 ⟨w,λj=>(A[j]?).getD undef,K,λj c hc=>by
  have d8:=(qA.1 hc).1;have hu:=qB (show j<A.length by rw[b0];exact d8)
  simp only[hu,kC];exact(I j c _ hc hu).ro⟩ c2
 unfold zGy at a8;have c0:G<(zI d).length:=(qA.1 a1).1;have d5:G<A.length:=(by rw[b0];exact c0);have a9:=qB d5;generalize B:({tm:=[.v<|.at<|.kp G js kt],lo:=[],ro:=zf0 own (d.flatMap AV.cvs) 0,stk:=[],nid:=(d.flatMap AV.cvs).length,ep:=0}:St)=st at a8;have c1:st.ro=zf0 own (zI d) 0:=(by rw[<- B];rfl);have g:∀r R,zy st.ro r=some R->R.ep=none/\r<(zI d).length/\own[r]?=some R.own/\(zI d)[r]?=some (.s R.t R.l):=(by intro r R z;rw[c1]at z;obtain⟨_,t,l,L,_,_,h5,h6⟩:=znv own (zI d) 0 r R z;rw[h6]at h5 ⊢;simp only[vL]at L h5;exact⟨rfl,(qA.1 L).1,h5,L⟩);have a2:∀l,zy st.lo l=none:=λl=>(by rw[<- B];rfl);let E:Env:={ρ:=λn=>(A[n]?).getD undef,φ:=K,β:=λ_=>0,κ:=w}
 let S0:zbd:=λb=>(∃j,j<(zI d).length/\zbk own j/\K j b)\/b=w.heap.size
 have hS:Sim w S0 (λn=>n<(zI d).length) st E #[A[G]] [] w:=by refine⟨⟨rfl,rfl,rfl,qX _,λ_ _ _=>rfl,λr R z=>?_,λr R z x y=>?_,λr R z ho=>?_,λhz _ _ _ _ _ _=>absurd (.inr rfl) hz,λr R r' R' z ho d3 _ H x y=>?_,λl cs hl=>?_,λl l' cs f7 hl=>?_,λl cs r R hl=>?_,λr R e z W=>?_,rfl⟩,⟨λn R M=>?_,λn cs M=>?_,λm F=>?_,λf hf=>?_⟩,⟨?_,λi m v F X=>?_⟩,?_⟩;{obtain⟨_,T,L,h3⟩:=g r R (zbD z).1;have hu:=qB (show r<A.length by omega);show Rep R.own w ((A[r]?).getD undef) _ (K r);have:=I r _ _ h3 hu;rw[L] at this;rw[hu];exact this};{obtain⟨_,T,_,_⟩:=g r R (zbD z).1;exact b3 r x T y};{obtain⟨W,T,L,_⟩:=g r R (zbD z).1;refine⟨W,λx y=>.inl (.inl ⟨r,T,?_,y⟩)⟩;show own[r]?=some true;rw[L,ho]};{obtain⟨_,T,L,_⟩:=g r R (zbD z).1;obtain⟨_,a6,_,_⟩:=g r' R' (zbD d3).1;exact d2 r r' x T a6 (by show own[r]?=some true;rw[L,ho]) H y};{rw [a2]at hl;cases hl};{rw [a2]at hl;cases hl};{rw [a2]at hl;cases hl};{rw [(g r R z).1]at W;cases W};{exact(g n R M).2.1};{rw [a2]at M;cases M};{rw [<- B]at F;simp only[qF]at F;subst F;intro n M;simp only[MV.ids,zbL,zZ,kG,uL,At.ids,zby,zbG,jF,qF]at M;subst M;exact c0};{rw [<- B]at hf;simp at hf};{rw [<- B];rfl};{rw [<- B]at F;cases i with|succ i=>simp at F|zero=>simp only[qI,qC]at F X;subst F;have X:A[G]=v:=(by simpa using X);subst X;have U:=I G _ _ a1 a9;obtain⟨⟨a,a5,f2,_⟩,_⟩:=U.len;refine⟨⟨a,_,a5,f2⟩,λR z=>?_⟩;obtain⟨_,_,_,h4⟩:=g G R (zbD z).1;rw[a1]at h4;cases h4;refine⟨rfl,?_,λp u hp _=>hp⟩;show (A[G]?).getD undef=A[G];rw[a9];rfl};{rw [<- B];trivial}
 obtain⟨d6,d7⟩:=ziH (w:=w) (st:=st) (E:=E) d A 0 b0 (λi c u hc hu=>by
  have U:=I i c u hc hu;refine⟨?_,U.one⟩;cases c with
  |i k n=>exact U.int_inv
  |b x=>exact U.bool_inv
  |s t l=>
   obtain⟨⟨a,a5,X,_⟩,_⟩:=U.len;refine⟨⟨a,_,a5,X⟩,λR z=>?_⟩;have e:0+i=i:=by omega
   show some ((A[0+i]?).getD undef)=some u
   rw[e,hu];rfl)
 have f6:st.nid=(zI d).length:=by rw[<- B];rfl
 obtain⟨_,Z⟩:=zmW hO (zll hO (tms:=tms) (N:=N) D) f _ st _ O a8 w S0 _ E #[A[G]] [] w (zb6 d A).toArray
  (λv Y=>Y.os=w.os/\Y.tape=w.tape/\Y.output=w.output/\w.heap.size<=Y.heap.size/\
   (∀b,b<w.heap.size->(∀j,j<(zI d).length->zbk own j->¬ K j b)->Y.heap[b]?=w.heap[b]?)/\
   ∃(ys:List Value) (Kr:Nat->zbd),zeb true Y (zI O) ys Kr/\v=zmk (zb6 O ys)/\
    (∀i x,i<(zI O).length->Kr i x->x<Y.heap.size/\((∃j,j<(zI d).length/\zbk own j/\K j x)\/w.heap.size<=x))/\
    (∀i j x,i<(zI O).length->j<(zI O).length->i≠j->Kr i x->¬ Kr j x)/\
    (∀a3 a4 b1,some (G,jr,js)=some (a3,a4,b1)->∀t l u,(zI d)[a3]?=some (.s t l)->A[a3]?=some u->∃l',(zI O)[a4]?=some (.s t l')/\ys[a4]?=some u/\
     ∀p v,zbg w t u p=some v->b1.any (λc=>c.isPrefixOf (cols p))=false->zbg Y t u p=some v)) hS (λn M h=>by omega)
  (by simp[d6]) (λi m v F X=>by
   rw[qQ]at F;cases y:(zdw d 0)[i]? with
   |none=>rw[y]at F;cases F
   |some x=>rw[y]at F;cases F;exact d7 i x v y (by simpa using X))
  (λm F n M=>by
   obtain⟨x,y,rfl⟩:=jH.1 F;simp only[MV.ids,zbL,qR]at M;obtain⟨a,Q,M⟩:=M;have:=(zgy d 0 n x a y Q M).2;omega)
  (λU' f4 E' Y f5 v b4 _ _ _ X _ q=>by
   obtain⟨us,rfl,f0,f1⟩:=zAR X;split at q
   rotate_left
   .cases q
   rename_i n J t' m e8 e6;cases a0:(Nat.beq n m&&(J==js&&decide (t'=kt))) with
   |false=>rw[a0]at q;cases q
   |true=>
   rw[a0]at q;simp only[cond_true]at q;simp only[qE,kV,qK,jA]at a0;obtain⟨e0,hJ,ht⟩:=a0;subst e0 hJ ht;obtain⟨S,ys,ks,hG,c4,c6,rfl,_,b7⟩:=zkR f5 [] O us q f0 f1;have V:=b4.mem;have b9:∀i,i<(zI O).length->∃a,S[i]?=some a:=λi hi=>⟨_,qB (by rw[<- hG.len];exact hi)⟩
   have a7:∀i x,cφ E' S i x->∃r∈ks,∃R,S[i]?=some (.sl r [])/\f4.root r=some R/\R.own=true/\E'.φ r x:=by intro i x y;obtain⟨a,Q,y⟩:=zwr y;obtain⟨r,U,rfl,e7⟩:=hG.fi Q y;obtain⟨R,z,ho⟩:=hG.own r U;exact⟨r,U,R,Q,z,ho,e7⟩
   refine⟨V.os,V.tape,V.output,V.size,λb hb d9=>V.keep b hb λh=>h.elim (λ⟨j,hj,ho,hk⟩=>d9 j hj ho hk) (λh=>by omega),ys,cφ E' S,⟨by rw[c4,hG.len],λi c x hc y=>?_⟩,rfl,λi x hi y=>?_,λi j x hi hj H y f3=>?_,λa3 a4 b1 W t l u b8 c3=>?_⟩
   .obtain⟨a,Q⟩:=b9 i (qA.1 hc).1;rw[zjs Q];exact hG.rep V Q hc (c6 i a x Q y)
   .obtain⟨r,U,R,_,T,L,h4⟩:=a7 i x y;exact⟨V.rlt r R T x h4,((V.mine r R T L).2 x h4).elim (λh=>h.imp (λh=>h) λh=>uD h.symm) .inr⟩
   .obtain⟨r,U,R,g1,T,L,h4⟩:=a7 i x y;obtain⟨r',f9,R',c9,a6,d0,d1⟩:=a7 j x f3;have:=V.own_apart T L a6 d0 h4 d1;subst this;exact H (hG.inj i j r g1 c9)
   .cases W;rw[a1]at b8;cases b8;rw[a9]at c3;cases c3;have Q:S[jr]?=some (.sl n []):=by rw[b7];exact e6
    rcases hG.get jr _ Q with⟨_,_,h,_⟩|⟨_,h,_⟩|⟨r,R,h,z,_,d4⟩
    .cases h
    .cases h
    .cases h;have e9:=b4.tm.2 0 (.v<|.at<|.kp n J t') A[G] (by rw[e8];rfl) (by simp)
     obtain⟨e1,e2,e3⟩:=e9.2 R z;have c5:jr<ys.length:=by rw[c4];exact(qA.1 Q).1
     have hy:=qB c5;have e4:=(c6 jr _ _ Q hy).2 R z;simp only[zbg,qC] at e4;refine⟨e1 ▸ R.l,?_,by rw[hy,<- e4,e2],?_⟩
     .rw [d4];cases e1;rfl
     .rw [V.κ] at e3;exact e3)
 refine Z.mono ?_;intro ex Y W;cases ex with|returned v=>exact W|panicked c8=>exact W.elim|outgrown=>exact W.elim
def zXF (b:List (Nat×Nat)):At->At
 |.sl r []=>match b.find? (λx=>Nat.beq x.1 r) with
  |some x=>.sl x.2 []
  |none=>.sl r []
 |a=>a
def zXi (C:Cfg)(tms:FuncId->Nat->Option Tmpl)(N D:Nat)(f:FuncId)(own:List Bool)(b:List (Nat×Nat))(e g:Nat)(c:List (List Nat))(t:Ty)(a:LA):Option Ans :=
 zxG C tms N (ztU C tms N D) f (((zdw a 0).map .v).map (zmf<|zXF b)) {tm:=[.v<|.at<|.kp e c t],lo:=[],ro:=(zf0 own (a.flatMap AV.cvs) 0).filter (λx=>!b.any λy=>Nat.beq y.1 x.1),stk:=[],nid:=(a.flatMap AV.cvs).length,ep:=0} λd st=>
  match st.tm,(d.flatMap zZ)[g]? with
  |[.v<|.at<|.kp n J h],some (.sl m [])=>cond (Nat.beq n m&&(J==c&&decide (h=t))) (ztb st d []) none
  |_,_=>none
def zZU (a:At):Prop:=(∃k n,a = .i k n)\/(∃b,a = .b b)\/∃r,a = .sl r []
def zvy:∀(c:LC) (id:Nat) (a:At),a∈ziI c id->zZU a
 |[],_,_,h=>by simp[ziI]at h
 |.i k n::c,id,a,h=>by simp only[ziI,qG]at h;rcases h with rfl|h;{exact .inl ⟨k,n,rfl⟩};{exact zvy c (id+1) a h}
 |.b x::c,id,a,h=>by simp only[ziI,qG]at h;rcases h with rfl|h;{exact .inr (.inl ⟨x,rfl⟩)};{exact zvy c (id+1) a h}
 |.s t l::c,id,a,h=>by simp only[ziI,qG]at h;rcases h with rfl|h;{exact .inr (.inr ⟨id,rfl⟩)};{exact zvy c (id+1) a h}
def zy5:∀(e:LA) (id:Nat) (x:TV) (a:At),x∈zdw e id->a∈zZ x->zZU a
 |[],_,_,_,h,_=>by simp[zdw]at h
 |.one c::e,id,x,a,h,d=>by simp only[zdw,qG]at h;rcases h with rfl|h;{simp only [zZ,qF]at d;subst d;cases c with|i k n=>exact .inl ⟨k,n,rfl⟩|b x=>exact .inr (.inl ⟨x,rfl⟩)|s t l=>exact .inr (.inr ⟨id,rfl⟩)};{exact zy5 e (id+1) x a h d}
 |.agg f::e,id,x,a,h,d=>by simp only[zdw,qG]at h;rcases h with rfl|h;{exact zvy f id a d};{exact zy5 e (id+f.length) x a h d}
def zbdz {w1:World}{st1:St}{E1:Env}{w:World}{st:St}{E:Env}{f:At->At}{P:At->Prop}(T:∀a v,P a->VA w st E a v->VA w1 st1 E1 (f a) v){x:TV}{v:Value}(g:∀a∈zZ x,P a)(h:VT w st E x v):VT w1 st1 E1 (ztn f x) v:=by rcases x with a|l;{exact T a v (g a (by simp[zZ])) h};{obtain⟨n,k,m,e⟩:=h;refine⟨n,k,by simp[m],λj a u c i=>?_⟩;rw[qQ]at c;cases d:l[j]? with|none=>rw[d]at c;cases c|some b=>rw[d]at c;cases c;exact⟨(e j b u d i).1,T _ _ (g b (by simp only[zZ];exact qJ d)) (e j b u d i).2⟩}
def z8W {b:List (Nat×Nat)}{a:At}{n:Nat}(h:n∈(zXF b a).ids):n∈a.ids\/∃r,(r,n)∈b:=by unfold zXF at h;split at h;{split at h;{rename_i r x c;simp only[At.ids,zby,zbG,jF,qF]at h;subst h;exact .inr ⟨x.1,List.mem_of_find?_eq_some c⟩};{exact .inl h}};{exact .inl h}
def zta {d:Type}(q:Nat->Bool):∀(l:List (Nat×d)) (n:Nat) (x:d),zy (l.filter λy=>q y.1) n=some x->q n=true/\zy l n=some x
 |[],_,_,h=>by simp[zy]at h
 |(k,v)::l,n,x,h=>by cases b:q k with|false=>rw[List.filter_cons_of_neg (by simp[b])]at h;obtain⟨c,e⟩:=zta q l n x h;refine⟨c,?_⟩;simp only[zy];(cases a:k==n with|false=>exact e|true=>have:k=n:=(by simpa using a);subst this;rw[b]at c;cases c)|true=>rw[List.filter_cons_of_pos (by simp[b])]at h;simp only[zy]at h ⊢;(cases a:k==n with|false=>rw[a]at h;exact zta q l n x (by simpa using h)|true=>rw[a]at h;have:k=n:=(by simpa using a);subst this;exact⟨b,by simpa using h⟩)
def zQ0 (hO:EngOk C){f:FuncId}{own:List Bool}{M jr:Nat}{js:List (List Nat)}{kt:Ty}{d0:LW}(hf:FnOk C.P f)(h:∀(W:List (Nat×Nat)) (d:LA) (V:LA),W∈zkr f->(∀j i,(j,i)∈W->(zI d)[j]?=(zI d)[i]?)->own.length=(zI d).length->(∃(w:World) (B:Nat->Value) (K:Nat->zbd),∀(j:Nat) (c:CV),(zI d)[j]?=some c->Rep false w (B j) c (K j))->d0 d=some (true,V)->(∃l,(zI d)[M]?=some (.s kt l))/\own[M]?=some true/\∃tms N D,zXi C tms N D f own W M jr js kt d=some V)(Z:own.isEmpty=false:=by rfl):zfg C.P f own (some (M,jr,js)) d0:=by
 refine zfg.of (by rintro rfl;cases Z) ?_
 intro W d5;refine⟨hf,λw K d B V b2 f1 S b6 b5 Y c4=>?_⟩;obtain⟨⟨kl,a2⟩,g7,tms,N,D,b0⟩:=h W d V d5 (λj i d8=>(Y j i d8).2.2.2.1) f1 ⟨w,λj=>(B[j]?).getD undef,K,λj c hc=>by
  have e6:=(qA.1 hc).1;have hu:=qB (show j<B.length by rw[b2];exact e6)
  simp only[hu,kC];exact(S j c _ hc hu).ro⟩ c4
 unfold zXi at b0;have c2:M<(zI d).length:=(qA.1 a2).1;have d9:M<B.length:=(by rw[b2];exact c2);have b1:=qB d9;generalize H:({tm:=[.v<|.at<|.kp M js kt],lo:=[],ro:=(zf0 own (d.flatMap AV.cvs) 0).filter (λx=>!W.any λy=>Nat.beq y.1 x.1),stk:=[],nid:=(d.flatMap AV.cvs).length,ep:=0}:St)=st at b0;have a6:st.ro=(zf0 own (zI d) 0).filter (λx=>!W.any λy=>Nat.beq y.1 x.1):=(by rw[<- H];rfl);have e8:∀r R,zy st.ro r=some R->∀i,(r,i)∉W:=(by intro r R z i hi;rw[a6]at z;have:=(zta (λn=>!W.any λy=>Nat.beq y.1 n) _ r R z).1;simp only[jE,kW] at this;exact this _ hi (Nat.beq_refl r));have g:∀r R,zy st.ro r=some R->R.ep=none/\r<(zI d).length/\own[r]?=some R.own/\(zI d)[r]?=some (.s R.t R.l):=(by intro r R z;rw[a6]at z;obtain⟨_,t,l,F,_,_,h5,h6⟩:=znv own (zI d) 0 r R (zta (λn=>!W.any λy=>Nat.beq y.1 n) _ r R z).2;rw[h6]at h5 ⊢;simp only[vL]at F h5;exact⟨rfl,(qA.1 F).1,h5,F⟩);have a3:∀l,zy st.lo l=none:=λl=>(by rw[<- H];rfl);let E:Env:={ρ:=λn=>(B[n]?).getD undef,φ:=K,β:=λ_=>0,κ:=w}
 let S0:zbd:=λb=>(∃j,j<(zI d).length/\zbk own j/\K j b)\/b=w.heap.size
 have hS:Sim w S0 (λn=>n<(zI d).length) st E #[B[M]] [] w:=(by refine⟨⟨rfl,rfl,rfl,qX _,λ_ _ _=>rfl,λr R z=>?_,λr R z x q=>?_,λr R z ho=>?_,λhz _ _ _ _ _ _=>absurd (.inr rfl) hz,λr R r' R' z ho b7 _ Z x q=>?_,λl cs hl=>?_,λl l' cs g6 hl=>?_,λl cs r R hl=>?_,λr R e z U=>?_,rfl⟩,⟨λn R O=>?_,λn cs O=>?_,λm G=>?_,λf hf=>?_⟩,⟨?_,λi m v G L=>?_⟩,?_⟩;{obtain⟨_,T,F,h3⟩:=g r R (zbD z).1;have hu:=qB (show r<B.length by omega);show Rep R.own w ((B[r]?).getD undef) _ (K r);have:=S r _ _ h3 hu;rw[F] at this;rw[hu];exact this};{obtain⟨_,T,_,_⟩:=g r R (zbD z).1;exact b6 r x T q};{obtain⟨U,T,F,_⟩:=g r R (zbD z).1;refine⟨U,λx q=>.inl (.inl ⟨r,T,?_,q⟩)⟩;show own[r]?=some true;rw[F,ho]};{obtain⟨_,T,F,_⟩:=g r R (zbD z).1;obtain⟨_,a8,_,_⟩:=g r' R' (zbD b7).1;exact b5 r r' x T a8 (by show own[r]?=some true;rw[F,ho]) Z (e8 r' R' (zbD b7).1 r) q};{rw [a3]at hl;cases hl};{rw [a3]at hl;cases hl};{rw [a3]at hl;cases hl};{rw [(g r R z).1]at U;cases U};{exact(g n R O).2.1};{rw [a3]at O;cases O};{rw [<- H]at G;simp only[qF]at G;subst G;intro n O;simp only[MV.ids,zbL,zZ,kG,uL,At.ids,zby,zbG,jF,qF]at O;subst O;exact c2};{rw [<- H]at hf;simp at hf};{rw [<- H];rfl};{rw [<- H]at G;cases i with|succ i=>simp at G|zero=>simp only[qI,qC]at G L;subst G;have L:B[M]=v:=(by simpa using L);subst L;have Q:=S M _ _ a2 b1;obtain⟨⟨a,a7,f9,_⟩,_⟩:=Q.len;refine⟨⟨a,_,a7,f9⟩,λR z=>?_⟩;obtain⟨_,_,_,h4⟩:=g M R (zbD z).1;rw[a2]at h4;cases h4;refine⟨rfl,?_,λp u hp _=>hp⟩;show (B[M]?).getD undef=B[M];rw[b1];rfl};{rw [<- H];trivial});let b4:St:={st with ro:=(List.range (zI d).length).map (λr=>(r,(⟨.int,[],false,none⟩:Root))),ep:=0}
 have c5:∀r,r<(zI d).length->b4.root r=some ⟨.int,[],false,none⟩:=by intro r Q;have:∀(n k:Nat),k<=r->r<k+n->zy ((List.range' k n).map λr=>(r,(⟨.int,[],false,none⟩:Root))) r=some ⟨.int,[],false,none⟩:=(by intro n;induction n with|zero=>intro k T F;omega|succ n ih=>intro k T F;simp only[u3,jG,zy];by_cases U:k=r;{subst U;simp};{have hb:(k==r)=false:=(by simpa using U);simp only[hb,kS,if_false];exact ih (k+1) (by omega) (by omega)});have F:=this (zI d).length 0 (j7 _) (by omega);rw[<- vC]at F;exact zg5 F (.inl rfl)
 obtain⟨e0,e5⟩:=ziH (w:=w) (st:=b4) (E:=E) d B 0 b2 (λi c u hc hu=>by
  have Q:=S i c u hc hu;refine⟨?_,Q.one⟩;cases c with
  |i k n=>exact Q.int_inv
  |b x=>exact Q.bool_inv
  |s t l=>
   obtain⟨⟨a,a7,L,_⟩,_⟩:=Q.len;refine⟨⟨a,_,a7,L⟩,λR z=>?_⟩;have e:0+i=i:=by omega
   show some ((B[0+i]?).getD undef)=some u
   rw[e,hu];rfl)
 have hT:∀a v,(zZU a/\∀n∈a.ids,n<(zI d).length)->VA w b4 E a v->VA w st E (zXF W a) v:=(by intro a v ⟨f2,d7⟩ L;have c3:∀r,∀i,(r,i)∈W->E.ρ i=E.ρ r:=(by intro r i hi;show (B[i]?).getD undef=(B[r]?).getD undef;rw[(Y r i hi).2.2.1]);rcases f2 with⟨k,n,rfl⟩|⟨b,rfl⟩|⟨r,rfl⟩;{exact L};{exact L};{have Q:r<(zI d).length:=d7 r (by simp[At.ids,zby]);have e1:=L.2 _ (c5 r Q);simp only[zbg,qC] at e1;simp only[zXF];split;{rename_i x q;have G:=List.mem_of_find?_eq_some q;have g2:x.1=r:=jY (by simpa using List.find?_some q);subst g2;refine⟨L.1,λR _=>?_⟩;simp only[zbg,qC];rw[c3 x.1 x.2 G];exact e1};{refine⟨L.1,λR _=>?_⟩;simp only[zbg,qC];exact e1}});have g5:st.nid=(zI d).length:=by rw[<- H];rfl
 obtain⟨_,a0⟩:=zmW hO (zll hO (tms:=tms) (N:=N) D) f _ st _ V b0 w S0 _ E #[B[M]] [] w (zb6 d B).toArray
  (λv w'=>w'.os=w.os/\w'.tape=w.tape/\w'.output=w.output/\w.heap.size<=w'.heap.size/\
   (∀b,b<w.heap.size->(∀j,j<(zI d).length->zbk own j->¬ K j b)->w'.heap[b]?=w.heap[b]?)/\
   ∃(ys:List Value) (Kr:Nat->zbd),zeb true w' (zI V) ys Kr/\v=zmk (zb6 V ys)/\
    (∀i x,i<(zI V).length->Kr i x->x<w'.heap.size/\((∃j,j<(zI d).length/\zbk own j/\K j x)\/w.heap.size<=x))/\
    (∀i j x,i<(zI V).length->j<(zI V).length->i≠j->Kr i x->¬ Kr j x)/\
    (∀a4 a5 b3,some (M,jr,js)=some (a4,a5,b3)->∀t l u,(zI d)[a4]?=some (.s t l)->B[a4]?=some u->∃l',(zI V)[a5]?=some (.s t l')/\ys[a5]?=some u/\
     ∀p v,zbg w t u p=some v->b3.any (λc=>c.isPrefixOf (cols p))=false->zbg w' t u p=some v)) hS (λn O h=>by omega)
  (by simp[e0]) (λi m v G L=>by
   rw[qQ,qQ]at G;cases q:(zdw d 0)[i]? with
   |none=>rw[q]at G;cases G
   |some x=>
    rw[q]at G;cases G;exact zbdz hT (λa I=>⟨zy5 d 0 x a (qJ q) I,λn O=>by
     have:=(zgy d 0 n x a (qJ q) I O).2;omega⟩) (e5 i x v q (by simpa using L)))
  (λm G n O=>by
   obtain⟨m0,e7,rfl⟩:=jH.1 G;obtain⟨x,q,rfl⟩:=jH.1 e7;obtain⟨a,I,O⟩:=zUM O;simp only[zbL]at I;rcases z8W O with h|⟨r,h⟩
   .have:=(zgy d 0 n x a q I h).2;omega
   .obtain⟨_,_,_,_,t,l,h5⟩:=Y r n h;exact(qA.1 h5).1)
  (λU' g3 E' w' g4 v b8 _ _ _ L _ A=>by
   obtain⟨us,rfl,f7,f8⟩:=zAR L;split at A
   rotate_left
   .cases A
   rename_i n J t' m f5 f3;cases a1:(Nat.beq n m&&(J==js&&decide (t'=kt))) with
   |false=>rw[a1]at A;cases A
   |true=>
   rw[a1]at A;simp only[cond_true]at A;simp only[qE,kV,qK,jA]at a1;obtain⟨f0,hJ,ht⟩:=a1;subst f0 hJ ht;obtain⟨X,ys,ks,hG,c7,c9,rfl,_,b9⟩:=zkR g4 [] V us A f7 f8;have hM:=b8.mem;have c1:∀i,i<(zI V).length->∃a,X[i]?=some a:=λi hi=>⟨_,qB (by rw[<- hG.len];exact hi)⟩
   have a9:∀i x,cφ E' X i x->∃r∈ks,∃R,X[i]?=some (.sl r [])/\g3.root r=some R/\R.own=true/\E'.φ r x:=by intro i x q;obtain⟨a,I,q⟩:=zwr q;obtain⟨r,Q,rfl,f4⟩:=hG.fi I q;obtain⟨R,z,ho⟩:=hG.own r Q;exact⟨r,Q,R,I,z,ho,f4⟩
   refine⟨hM.os,hM.tape,hM.output,hM.size,λb hb e9=>hM.keep b hb λh=>h.elim (λ⟨j,hj,ho,hk⟩=>e9 j hj ho hk) (λh=>by omega),ys,cφ E' X,⟨by rw[c7,hG.len],λi c x hc q=>?_⟩,rfl,λi x hi q=>?_,λi j x hi hj Z q g0=>?_,λa4 a5 b3 U t l u c0 c6=>?_⟩
   .obtain⟨a,I⟩:=c1 i (qA.1 hc).1;rw[zjs I];exact hG.rep hM I hc (c9 i a x I q)
   .obtain⟨r,Q,R,_,T,F,h4⟩:=a9 i x q;exact⟨hM.rlt r R T x h4,((hM.mine r R T F).2 x h4).elim (λh=>h.imp (λh=>h) λh=>uD h.symm) .inr⟩
   .obtain⟨r,Q,R,g1,T,F,h4⟩:=a9 i x q;obtain⟨r',g8,R',d2,a8,d3,d4⟩:=a9 j x g0;have:=hM.own_apart T F a8 d3 h4 d4;subst this;exact Z (hG.inj i j r g1 d2)
   .cases U;rw[a2]at c0;cases c0;rw[b1]at c6;cases c6;have I:X[jr]?=some (.sl n []):=by rw[b9];exact f3
    rcases hG.get jr _ I with⟨_,_,h,_⟩|⟨_,h,_⟩|⟨r,R,h,z,_,d6⟩
    .cases h
    .cases h
    .cases h;have f6:=b8.tm.2 0 (.v<|.at<|.kp n J t') B[M] (by rw[f5];rfl) (by simp)
     obtain⟨e1,e2,e3⟩:=f6.2 R z;have c8:jr<ys.length:=by rw[c7];exact(qA.1 I).1
     have hy:=qB c8;have e4:=(c9 jr _ _ I hy).2 R z;simp only[zbg,qC] at e4;refine⟨e1 ▸ R.l,?_,by rw[hy,<- e4,e2],?_⟩
     .rw [d6];cases e1;rfl
     .rw [hM.κ] at e3;exact e3)
 refine a0.mono ?_;intro ex w' U;cases ex with|returned v=>exact U|panicked d1=>exact U.elim|outgrown=>exact U.elim
end
def zbl (h:ad):LC:=[.s (.sl .int) h.ag,.s .mon h.aa,.s .entry h.ao,.s .entry h.am]
def zo5 (c:Ctl):LC:=[.i .i64 c.aq,.i .i64 c.Post,.b c.Open]
def zgF (e:aD):LC:=[.i .i64 e.Kind,.i .i64 e.af,.b e.Write,.i .i64 e.N]
structure Cur where
 b:List Int
 i:Int
 h:Int
def zb5 (c:Cur):LC:=[.s .u8 c.b,.i .i64 c.i,.i .i64 c.h]
def zo:List (Nat×Nat×Tmpl)->FuncId->Nat->Option Tmpl
 |[],_,_=>none
 |(g,c,T)::r,f,b=>cond (Nat.beq g f) (cond (Nat.beq c b) (some T)<|zo r f b) (zo r f b)
def pc (p:Prop):Bool:=@decide p (Classical.propDecidable p)
def zF {p:Prop}:pc p=true↔p:=by unfold pc;exact @decide_eq_true_iff p (Classical.propDecidable p)
def zba {p:Prop}(h:p):pc p=true:=zF.2 h
inductive CVB (K:Nat):CV->Prop
 |i (k:IntKind) (n:Int):CVB K (.i k n)
 |b (x:Bool):CVB K (.b x)
 |s (t:Ty) (l:List t.den) (hl:l.length<=K) (h:∀x∈l,∀c∈t.cells x,CVB K c):CVB K (.s t l)
def CVB.inv {K:Nat}{t:Ty}{l:List t.den}(h:CVB K (.s t l)):l.length<=K/\∀x∈l,∀c∈t.cells x,CVB K c:=by cases h with|s _ _ a h=>exact⟨a,h⟩
def CVB.len {K:Nat}{t:Ty}{l:List t.den}(h:CVB K (.s t l)):l.length<=K:=h.inv.1
def CVB.mono {K L:Nat}(a:K<=L){c:CV}(h:CVB K c):CVB L c:=by induction h with|i k n=>exact .i k n|b x=>exact .b x|s t l d h e=>exact .s t l (qT d a) e
def CVB.of_rep {o:Bool}{w:World}{v:Value}{c:CV}{S:zbd}(h:Rep o w v c S):CVB big c:=by
 induction h with
 |i k n S=>exact .i k n
 |b x S=>exact .b x
 |nil t S=>exact .s t [] (j7 _) (λx h=>by cases h)
 |void t a S I=>exact .s t [] (j7 _) (λx h=>by cases h)
 |sl t l b D r q e E V K S G u d g A F p m J H C=>refine .s t l d (λx B c f=>?_);obtain⟨i,y⟩:=qV.1 B;obtain⟨j,z⟩:=qV.1 f;exact C i x y j c z
def CVB.of_ok {c:CV}(h:CVOk c):CVB big c:=by induction h with|i k n _=>exact .i k n|b x=>exact .b x|s t l f h m=>refine .s t l f (λx g c a=>?_);obtain⟨i,d⟩:=qV.1 g;obtain⟨j,e⟩:=qV.1 a;exact m i x d j c e
def zbE (K:Nat)(a:LA):Prop:=∀c∈zI a,CVB K c
def zd0 {K:Nat}{a:AV}{b:LA}(h:zbE K (a::b)):(∀c∈a.cvs,CVB K c)/\zbE K b:=by unfold zbE zI at *;simp only[kG,jK]at h;exact⟨λc d=>h c (.inl d),λc d=>h c (.inr d)⟩
def z1d {a:LA}(h:∃w e,zeb false w (zI a) e λ_ b=>b<w.heap.size):zbE big a:=by obtain⟨w,e,g,j⟩:=h;intro c k;obtain⟨i,f⟩:=qV.1 k;have d:i<e.length:=(by rw[g];exact(qA.1 f).1);exact CVB.of_rep (j i c _ f<|qB d)
def znu {b:LC}{a:LA}(h:∃(w:World) (f:Nat->Value) (K:Nat->zbd),∀(j:Nat) (c:CV),(b++zI a)[j]?=some c->Rep false w (f j) c (K j)):zbE big (.agg b::a):=by obtain⟨w,f,K,h⟩:=h;intro c d;have e:zI (AV.agg b::a)=b++zI a:=(by simp[zI,AV.cvs]);rw[e]at d;obtain⟨j,g⟩:=qV.1 d;exact CVB.of_rep (h j c g)
def zpx {b c:Bool}{x y:LC}{z u:LA}(h:some (b,x,z)=some (c,y,u)):b=c/\y=x/\u=z:=by cases h;exact⟨rfl,rfl,rfl⟩
def zd4 {b c:Bool}{x y:LA}(h:some (b,x)=some (c,y)):b=c/\y=x:=by cases h;exact⟨rfl,rfl⟩
abbrev zbb:=List (Nat×(LW))
def zQM:zbb:=[]
def zeS:∀f a,zy zQM f=some a->Holds Tryz.prog f a:=λf a h=>by cases h
abbrev zN (l:zbb):Prop:=∀f a,zy l f=some a->Holds Tryz.prog f a
abbrev vP:=Holds Tryz.prog
def zh {l:zbb}{f:Nat}{a:LW}(h:vP f a)(b:zN l):zN ((f,a)::l):=by intro g r hg;unfold zy at hg;split at hg;{rename_i e;cases hg;rw[<- qK.1 e];exact h};{exact b g r hg}
abbrev ziV:=List (Nat×(CV->Int->Option (Bool×CV×Int)))
def mct0:ziV:=[]
abbrev zgP (m:ziV):Prop:=∀f a,zy m f=some a->zNd Tryz.prog f a
def zY:zgP mct0:=λf a h=>by cases h
abbrev zdb:=List (Nat×List Bool×(LC->LA->Option (Bool×LC×LA)))
def zBQ:zdb:=[]
abbrev zce (p:zdb):Prop:=∀f own a,zy p f=some (own,a)->zbU Tryz.prog f own a
def zu:zce zBQ:=λf own a h=>by cases h
def zcF {l m:zdb}(c:∀f own a,zy m f=some (own,a)->zbU Tryz.prog f own a)(b:∀x∈l,zbU Tryz.prog x.1 x.2.1 x.2.2):∀f own a,zy (l++m) f=some (own,a)->zbU Tryz.prog f own a:=by intro f own a h;rw[zbM]at h;split at h;{rename_i y d;cases h;exact b _ (zp6 d)};{exact c f own a h}
abbrev zgr:=List (Nat×List Bool×Option (Nat×Nat×List (List Nat))×(LW))
def zMe:zgr:=[]
abbrev zfh (t:zgr):Prop:=∀f own a b,zy t f=some (own,a,b)->zfg Tryz.prog f own a b
def zn:zfh zMe:=λf own a b h=>by cases h
def zqx {l m:zgr}(d:∀f own a b,zy m f=some (own,a,b)->zfg Tryz.prog f own a b)(c:∀x∈l,zfg Tryz.prog x.1 x.2.1 x.2.2.1 x.2.2.2):∀f own a b,zy (l++m) f=some (own,a,b)->zfg Tryz.prog f own a b:=by intro f own a b h;rw[zbM]at h;split at h;{rename_i y e;cases h;exact c _ (zp6 e)};{exact d f own a b h}
abbrev cQ (c:zbb)(m:ziV)(p:zdb)(t:zgr):Cfg:=zo4 (zy c) (zy m) (zy p) (zy t)
def zBy {c:zbb}{m:ziV}{p:zdb}{t:zgr}(k:zN c)(l:zgP m)(n:zce p)(q:zfh t){f:FuncId}{b:LW}(i:FnOk Tryz.prog f)(h:∀a d,zbE big a->b a=some (true,d)->∃g N,evalFn (cQ c m p t) g N 12 f a=some d):vP f b :=
 zCP (zis k l n q) i λa d j e=>(h a d (z1d j) e).elim λt x=>x.elim λN y=>⟨t,N,12,y⟩
noncomputable def zf9 (f:FuncId):Bool :=
 match Tryz.prog.funcs[f]? with
 |some a=>a.body.isSome && !(a.name == "runtime.NumGoroutine")
 |none=>false
def ziX {f:FuncId}(h:zf9 f=true):FnOk Tryz.prog f:=by unfold zf9 at h;split at h;{rename_i a d;simp only[qE,jE]at h;obtain⟨b,c⟩:=uT.1 h.1;exact⟨a,b,d,c,h.2⟩};{cases h}
abbrev oN {b:Type}(c:Bool)(a:Option b):Option b:=bif c then a else none
abbrev nB (c:Bool):Bool:=bif c then false else true
abbrev ti:AT:=.i .i64
structure Dc (α:Type) where
 d:AV->Option α
 e:α->AV
 h:∀{a x},d a=some x->a=e x
abbrev aI (x:Int):AV:=.one (.i .i64 x)
abbrev aB (x:Bool):AV:=.one (.b x)
abbrev aS (t:Ty)(l:List t.den):AV:=.one (.s t l)
abbrev aT (t:Ty)(x:t.den):AV:=.agg (t.cells x)
abbrev aH (h:ad):AV:=.agg (zbl h)
abbrev OA:=Option Ans
abbrev oF:OA:=some [aB false]
abbrev oT:OA:=some [aB true]
abbrev lA:=List r0
abbrev lB:=List Bool
abbrev lE:=List au
abbrev lG:=List ah
abbrev lI:=List Ins
abbrev lK:=List aA
abbrev lM:=List LI
abbrev lN:=List Mon
abbrev lP:=List (List Ins)
abbrev lQ:=List (List<|List Ins)
abbrev lR:=List ai
abbrev lS:=List k0
abbrev lT:=List aE
def dI:Dc Int:=⟨λa=>match a with | .one (.i .i64 x)=>some x|_=>none,aI,λ{a x} h=>by split at h<;>cases h;rfl⟩
def dB:Dc Bool:=⟨λa=>match a with | .one (.b x)=>some x|_=>none,aB,λ{a x} h=>by split at h<;>cases h;rfl⟩
def dS (t:Ty):Dc (List t.den):=⟨λa=>match a with | .one (.s b l)=>if h:b=t then some (h ▸ l) else none|_=>none,aS t,λ{a x} h=>by
 split at h
 .rename_i b l;split at h
  .rename_i e;subst e;cases h;rfl
  .cases h
 .cases h⟩
def dT (t:Ty):Dc t.den:=⟨λa=>match a with | .agg b=>t.ofCells b|_=>none,aT t,λ{a x} h=>by
 split at h
 .rw [<- zkh h]
 .cases h⟩
def dH:Dc ad:=⟨λa=>match a with | .agg [.s (.sl .int) x,.s .mon y,.s .entry z,.s .entry u]=>some ⟨x,y,z,u⟩|_=>none,aH,λ{a x} h=>by split at h<;>cases h;rfl⟩
def dC:Dc Ctl:=⟨λa=>match a with | .agg [.i .i64 x,.i .i64 y,.b z]=>some ⟨x,y,z⟩|_=>none,λx=>.agg (zo5 x),λ{a x} h=>by split at h<;>cases h;rfl⟩
def dE:Dc aD:=⟨λa=>match a with | .agg [.i .i64 x,.i .i64 y,.b z,.i .i64 u]=>some ⟨x,y,z,u⟩|_=>none,λx=>.agg (zgF x),λ{a x} h=>by split at h<;>cases h;rfl⟩
abbrev Run:=LW
def eat {b:Type}(D:Dc b)(k:b->Run):Run
 |[]=>none
 |a::l=>match D.d a with
  |some x=>k x l
  |none=>none
def stop (r:Bool×LA):Run
 |[]=>some r
 |_=>none
def zbdl {c:Type}{D:Dc c}{k:c->Run}{b:LA}{r:Bool×LA}(h:eat D k b=some r):∃x l,b=D.e x::l/\k x l=some r:=by unfold eat at h;split at h;{cases h};{rename_i a l;split at h;{rename_i x d;exact⟨x,l,by rw[D.h d],h⟩};{cases h}}
def zbaK {q r:Bool×LA}{a:LA}(h:stop q a=some r):a=[]/\r=q:=by unfold stop at h;split at h<;>cases h;exact⟨rfl,rfl⟩
def zcf {p:Nat->Prop}(h:∀N,(∀{n:Nat},n<=big->n<N)->p N):∃N,p N:=⟨big+1,h _ λh=>Nat.lt_succ_of_le h⟩
def len0 {t:Ty}{l:List t.den}{r:LA}(a:zbE big (.one (.s t l)::r)):l.length<=big:=((zd0 a).1 _ (qF.2 rfl)).len
def Read (c:zbb)(m:ziV)(p:zdb)(t:zgr)(d:FuncId->Nat->Option Tmpl)(f:FuncId)(b:LA)(r:Run):Prop:=∀a e,zbE big (b++a)->r a=some (true,e)->∃N,evalFn (cQ c m p t) d N 12 f (b++a)=some e
def zeu {c:zbb}{m:ziV}{p:zdb}{t:zgr}{d:FuncId->Nat->Option Tmpl}{f:FuncId}{b:LA}{g:Type}{D:Dc g}{k:g->Run}(h:∀a,Read c m p t d f (b++[D.e a])<|k a):Read c m p t d f b (eat D k):=by intro i r q e;obtain⟨x,l,n,j⟩:=zbdl e;subst n;have:=h x l r (by simpa using q) j;simpa using this
def znN {c:zbb}{m:ziV}{p:zdb}{t:zgr}{d:FuncId->Nat->Option Tmpl}{f:FuncId}{a:LA}{g:Bool×LA}{E:Nat->OA}(h:zbE big a->g.1=true->∃N,E N=some g.2)(n:∀N,evalFn (cQ c m p t) d N 12 f a=E N):Read c m p t d f a (stop g):=by intro j q i e;obtain⟨l,k⟩:=zbaK e;subst l;cases g with|mk b x=>cases k;rw[jF]at i ⊢;obtain⟨N,e⟩:=h i rfl;exact⟨N,(n N).trans e⟩
def zqi {c:zbb}{m:ziV}{p:zdb}{t:zgr}(i:zN c)(j:zgP m)(k:zce p)(l:zfh t){a:FuncId->Nat->Option Tmpl}{f:FuncId}{r:Run}(g:zf9 f=true)(h:Read c m p t a f [] r):vP f r :=
 zBy i j k l (ziX g) λb n d e=>(h b n d e).elim λN x=>⟨a,N,x⟩
def rF0  (g:Bool×LA):Run:=stop g
def hF0 {c:zbb}{m:ziV}{p:zdb}{t:zgr}(j:zN c)(k:zgP m)(l:zce p)(n:zfh t)(b:FuncId->Nat->Option Tmpl){g:Bool×LA}{E:Nat->OA}{f:FuncId}(a:zbE big []->g.1=true->∃N,E N=some g.2)(i:∀N,evalFn (cQ c m p t) b N 12 f []=E N:=by intros;kernel_rfl)(h:zf9 f=true:=by kernel_rfl):vP f (rF0 g):=
 zqi j k l n h (znN (λd e=>a d e) λN=>i N)
def kF0 {c:zbb}{m:ziV}{p:zdb}{t:zgr}(h:zN c)(i:zgP m)(j:zce p)(k:zfh t)(a:FuncId->Nat->Option Tmpl){g:Bool×LA}{E:Nat->OA}{f:FuncId}(b:g.1=true->∃N,E N=some g.2)(e:∀N,evalFn (cQ c m p t) a N 12 f []=E N:=by intros;kernel_rfl)(d:zf9 f=true:=by kernel_rfl):vP f (rF0 g):=hF0 h i j k a (λ_=>b) e d
def rF1 {a:Type}(b:Dc a)(g:a->Bool×LA):Run:=eat b λc=>stop (g c)
def hF1 {b:Type}{c:zbb}{m:ziV}{p:zdb}{t:zgr}(q:zN c)(r:zgP m)(s:zce p)(u:zfh t)(i:FuncId->Nat->Option Tmpl){d:Dc b}{g:b->Bool×LA}{E:Nat->b->OA}{f:FuncId}(h:∀a,zbE big [d.e a]->(g a).1=true->∃N,E N a=some (g a).2)(n:∀N a,evalFn (cQ c m p t) i N 12 f [d.e a]=E N a:=by intros;kernel_rfl)(l:zf9 f=true:=by kernel_rfl):vP f (rF1 d g):=
 zqi q r s u l (zeu λa=>znN (λj k=>h a j k) λN=>n N a)
def kF1 {d:Type}{c:zbb}{m:ziV}{p:zdb}{t:zgr}(l:zN c)(n:zgP m)(q:zce p)(r:zfh t)(b:FuncId->Nat->Option Tmpl){i:Dc d}{g:d->Bool×LA}{E:Nat->d->OA}{f:FuncId}(h:∀a,(g a).1=true->∃N,E N a=some (g a).2)(k:∀N a,evalFn (cQ c m p t) b N 12 f [i.e a]=E N a:=by intros;kernel_rfl)(j:zf9 f=true:=by kernel_rfl):vP f (rF1 i g):=hF1 l n q r b (λa _=>h a) k j
def rF2 {a b:Type}(c:Dc a)(d:Dc b)(g:a->b->Bool×LA):Run:=eat c λe=>eat d λf=>stop (g e f)
def hF2 {d h:Type}{c:zbb}{m:ziV}{p:zdb}{t:zgr}(u:zN c)(v:zgP m)(w:zce p)(x:zfh t)(l:FuncId->Nat->Option Tmpl){i:Dc d}{j:Dc h}{g:d->h->Bool×LA}{E:Nat->d->h->OA}{f:FuncId}(k:∀a b,zbE big [i.e a,j.e b]->(g a b).1=true->∃N,E N a b=some (g a b).2)(s:∀N a b,evalFn (cQ c m p t) l N 12 f [i.e a,j.e b]=E N a b:=by intros;kernel_rfl)(r:zf9 f=true:=by kernel_rfl):vP f (rF2 i j g):=
 zqi u v w x r (zeu λa=>zeu λb=>znN (λn q=>k a b n q) λN=>s N a b)
def kF2 {h i:Type}{c:zbb}{m:ziV}{p:zdb}{t:zgr}(r:zN c)(s:zgP m)(u:zce p)(v:zfh t)(d:FuncId->Nat->Option Tmpl){k:Dc h}{l:Dc i}{g:h->i->Bool×LA}{E:Nat->h->i->OA}{f:FuncId}(j:∀a b,(g a b).1=true->∃N,E N a b=some (g a b).2)(q:∀N a b,evalFn (cQ c m p t) d N 12 f [k.e a,l.e b]=E N a b:=by intros;kernel_rfl)(n:zf9 f=true:=by kernel_rfl):vP f (rF2 k l g):=hF2 r s u v d (λa b _=>j a b) q n
def rF3 {a b c:Type}(d:Dc a)(e:Dc b)(f:Dc c)(g:a->b->c->Bool×LA):Run:=eat d λh=>eat e λi=>eat f λj=>stop (g h i j)
def hF3 {h i j:Type}{c:zbb}{m:ziV}{p:zdb}{t:zgr}(x:zN c)(y:zgP m)(z:zce p)(A:zfh t)(r:FuncId->Nat->Option Tmpl){k:Dc h}{l:Dc i}{n:Dc j}{g:h->i->j->Bool×LA}{E:Nat->h->i->j->OA}{f:FuncId}(q:∀a b d,zbE big [k.e a,l.e b,n.e d]->(g a b d).1=true->∃N,E N a b d=some (g a b d).2)(w:∀N a b d,evalFn (cQ c m p t) r N 12 f [k.e a,l.e b,n.e d]=E N a b d:=by intros;kernel_rfl)(v:zf9 f=true:=by kernel_rfl):vP f (rF3 k l n g):=
 zqi x y z A v (zeu λa=>zeu λb=>zeu λd=>znN (λs u=>q a b d s u) λN=>w N a b d)
def kF3 {i j k:Type}{c:zbb}{m:ziV}{p:zdb}{t:zgr}(v:zN c)(w:zgP m)(x:zce p)(y:zfh t)(h:FuncId->Nat->Option Tmpl){n:Dc i}{q:Dc j}{r:Dc k}{g:i->j->k->Bool×LA}{E:Nat->i->j->k->OA}{f:FuncId}(l:∀a b d,(g a b d).1=true->∃N,E N a b d=some (g a b d).2)(u:∀N a b d,evalFn (cQ c m p t) h N 12 f [n.e a,q.e b,r.e d]=E N a b d:=by intros;kernel_rfl)(s:zf9 f=true:=by kernel_rfl):vP f (rF3 n q r g):=hF3 v w x y h (λa b d _=>l a b d) u s
def rF4 {a b c d:Type}(e:Dc a)(f:Dc b)(h:Dc c)(i:Dc d)(g:a->b->c->d->Bool×LA):Run:=eat e λj=>eat f λk=>eat h λl=>eat i λm=>stop (g j k l m)
def hF4 {i j k l:Type}{c:zbb}{m:ziV}{p:zdb}{t:zgr}(A:zN c)(B:zgP m)(C:zce p)(D:zfh t)(v:FuncId->Nat->Option Tmpl){n:Dc i}{q:Dc j}{r:Dc k}{s:Dc l}{g:i->j->k->l->Bool×LA}{E:Nat->i->j->k->l->OA}{f:FuncId}(u:∀a b d h,zbE big [n.e a,q.e b,r.e d,s.e h]->(g a b d h).1=true->∃N,E N a b d h=some (g a b d h).2)(z:∀N a b d h,evalFn (cQ c m p t) v N 12 f [n.e a,q.e b,r.e d,s.e h]=E N a b d h:=by intros;kernel_rfl)(y:zf9 f=true:=by kernel_rfl):vP f (rF4 n q r s g):=
 zqi A B C D y (zeu λa=>zeu λb=>zeu λd=>zeu λh=>znN (λw x=>u a b d h w x) λN=>z N a b d h)
def kF4 {j k l n:Type}{c:zbb}{m:ziV}{p:zdb}{t:zgr}(y:zN c)(z:zgP m)(A:zce p)(B:zfh t)(i:FuncId->Nat->Option Tmpl){r:Dc j}{s:Dc k}{u:Dc l}{v:Dc n}{g:j->k->l->n->Bool×LA}{E:Nat->j->k->l->n->OA}{f:FuncId}(q:∀a b d h,(g a b d h).1=true->∃N,E N a b d h=some (g a b d h).2)(x:∀N a b d h,evalFn (cQ c m p t) i N 12 f [r.e a,s.e b,u.e d,v.e h]=E N a b d h:=by intros;kernel_rfl)(w:zf9 f=true:=by kernel_rfl):vP f (rF4 r s u v g):=hF4 y z A B i (λa b d h _=>q a b d h) x w
def rF5 {a b c d e:Type}(f:Dc a)(h:Dc b)(i:Dc c)(j:Dc d)(k:Dc e)(g:a->b->c->d->e->Bool×LA):Run:=eat f λl=>eat h λm=>eat i λn=>eat j λp=>eat k λq=>stop (g l m n p q)
def hF5 {j k l n q:Type}{c:zbb}{m:ziV}{p:zdb}{t:zgr}(D:zN c)(F:zgP m)(G:zce p)(H:zfh t)(y:FuncId->Nat->Option Tmpl){r:Dc j}{s:Dc k}{u:Dc l}{v:Dc n}{w:Dc q}{g:j->k->l->n->q->Bool×LA}{E:Nat->j->k->l->n->q->OA}{f:FuncId}(x:∀a b d h i,zbE big [r.e a,s.e b,u.e d,v.e h,w.e i]->(g a b d h i).1=true->∃N,E N a b d h i=some (g a b d h i).2)(C:∀N a b d h i,evalFn (cQ c m p t) y N 12 f [r.e a,s.e b,u.e d,v.e h,w.e i]=E N a b d h i:=by intros;kernel_rfl)(B:zf9 f=true:=by kernel_rfl):vP f (rF5 r s u v w g):=
 zqi D F G H B (zeu λa=>zeu λb=>zeu λd=>zeu λh=>zeu λi=>znN (λz A=>x a b d h i z A) λN=>C N a b d h i)
def kF5 {k l n q r:Type}{c:zbb}{m:ziV}{p:zdb}{t:zgr}(B:zN c)(C:zgP m)(D:zce p)(F:zfh t)(j:FuncId->Nat->Option Tmpl){u:Dc k}{v:Dc l}{w:Dc n}{x:Dc q}{y:Dc r}{g:k->l->n->q->r->Bool×LA}{E:Nat->k->l->n->q->r->OA}{f:FuncId}(s:∀a b d h i,(g a b d h i).1=true->∃N,E N a b d h i=some (g a b d h i).2)(A:∀N a b d h i,evalFn (cQ c m p t) j N 12 f [u.e a,v.e b,w.e d,x.e h,y.e i]=E N a b d h i:=by intros;kernel_rfl)(z:zf9 f=true:=by kernel_rfl):vP f (rF5 u v w x y g):=hF5 B C D F j (λa b d h i _=>s a b d h i) A z
def rF6 {a b c d e f:Type}(h:Dc a)(i:Dc b)(j:Dc c)(k:Dc d)(l:Dc e)(m:Dc f)(g:a->b->c->d->e->f->Bool×LA):Run:=eat h λn=>eat i λp=>eat j λq=>eat k λr=>eat l λs=>eat m λt=>stop (g n p q r s t)
def hF6 {k l n q r s:Type}{c:zbb}{m:ziV}{p:zdb}{t:zgr}(H:zN c)(I:zgP m)(J:zce p)(K:zfh t)(B:FuncId->Nat->Option Tmpl){u:Dc k}{v:Dc l}{w:Dc n}{x:Dc q}{y:Dc r}{z:Dc s}{g:k->l->n->q->r->s->Bool×LA}{E:Nat->k->l->n->q->r->s->OA}{f:FuncId}(A:∀a b d h i j,zbE big [u.e a,v.e b,w.e d,x.e h,y.e i,z.e j]->(g a b d h i j).1=true->∃N,E N a b d h i j=some (g a b d h i j).2)(G:∀N a b d h i j,evalFn (cQ c m p t) B N 12 f [u.e a,v.e b,w.e d,x.e h,y.e i,z.e j]=E N a b d h i j:=by intros;kernel_rfl)(F:zf9 f=true:=by kernel_rfl):vP f (rF6 u v w x y z g):=
 zqi H I J K F (zeu λa=>zeu λb=>zeu λd=>zeu λh=>zeu λi=>zeu λj=>znN (λC D=>A a b d h i j C D) λN=>G N a b d h i j)
def kF6 {l n q r s u:Type}{c:zbb}{m:ziV}{p:zdb}{t:zgr}(F:zN c)(G:zgP m)(H:zce p)(I:zfh t)(k:FuncId->Nat->Option Tmpl){w:Dc l}{x:Dc n}{y:Dc q}{z:Dc r}{A:Dc s}{B:Dc u}{g:l->n->q->r->s->u->Bool×LA}{E:Nat->l->n->q->r->s->u->OA}{f:FuncId}(v:∀a b d h i j,(g a b d h i j).1=true->∃N,E N a b d h i j=some (g a b d h i j).2)(D:∀N a b d h i j,evalFn (cQ c m p t) k N 12 f [w.e a,x.e b,y.e d,z.e h,A.e i,B.e j]=E N a b d h i j:=by intros;kernel_rfl)(C:zf9 f=true:=by kernel_rfl):vP f (rF6 w x y z A B g):=hF6 F G H I k (λa b d h i j _=>v a b d h i j) D C
def zlk {a:LA}(h:∃(w:World) (b:Nat->Value) (K:Nat->zbd),∀(j:Nat) (c:CV),(zI a)[j]?=some c->Rep false w (b j) c (K j)):zbE big a:=by obtain⟨w,b,K,h⟩:=h;intro c d;obtain⟨j,e⟩:=qV.1 d;exact CVB.of_rep (h j c e)
def cT {a:Type}(x y:a):(cond true x y)=x:=by simp
def cF {a:Type}(x y:a):(cond false x y)=y:=by simp
def zsF:big=140737488355328:=rfl
def zwa {x:Int}(a : -9223372036854775808<=x)(b:x<=9223372036854775807):IntKind.i64.wrap x=x:=by simp only[IntKind.wrap,IntKind.signed,IntKind.bits];simp;omega
def zo0 {x y:Int}(a : -9223372036854775808<=x+y)(b:x+y<=9223372036854775807):zM .i64 x y=x+y:=zwa a b
def zs7 {x y:Int}(a : -9223372036854775808<=x-y)(b:x-y<=9223372036854775807):wsub .i64 x y=x-y:=zwa a b
def zbj {i n:Nat}(h:i<n)(a:n<=big):zM .i64 (i:Int) 1=((i+1:Nat):Int):=by rw[zsF]at a;rw[zo0 (by omega) (by omega)];omega
section
variable {α:Type}
def zbw {l:List α}{i:Nat}(h:i<l.length):ilt (i:Int) (ln l)=true:=by unfold ilt ln;exact qL (by omega)
def zbq {l:List α}:ilt ((l.length:Nat):Int) (ln l)=false:=by unfold ilt ln;exact qH (by omega)
def zbc {l:List α}{i:Nat}(h:i<l.length):inb (i:Int) (ln l)=true:=by unfold inb ln;exact qL (by omega)
def zbn {l:List α}{i:Nat}(h:i<l.length)(d:α):ix l (i:Int) d=l[i]:=by unfold ix;simp[List.getD,qB h]
def zh8 {l:List α}(h:l.length<=2147483648):few (ln l)=true:=by unfold few ln;exact qL (by omega)
def zcX (x:Int):ieq x x=true:=by simp[ieq]
def zcj (x:Int):ine x x=false:=by simp[ine]
def zdg (x:Bool):zhn x x=true:=by simp[zhn]
end
def zeF {a b:Type}(n:Nat)(F:(a->Option b)->a->Option b)(s:a):q0 (n+1) F s=F (q0 n F) s:=rfl
def goL {d c b:Type}(a:Nat->d->c->(c->Option b)->Option b)(K:c->Option b):List d->Nat->c->Option b
 |[],_,t=>K t
 |x::l,i,t=>a i x t (goL a K l<|i+1)
def zbp {q b d σ:Type}(l:List q)(g:Nat->b->σ)(F:(σ->Option d)->σ->Option d)(a:Nat->q->b->(b->Option d)->Option d)(K:b->Option d)(c:∀(i:Nat) (p:i<l.length) (t:b) (rec:σ->Option d),F rec (g i t)=a i l[i] t λk=>rec (g (i+1) k))(e:∀(t:b) (rec:σ->Option d),F rec (g l.length t)=K t) :
 ∀(N:Nat) (t:b),l.length<N->q0 N F (g 0 t)=goL a K l 0 t:=by
 have j:∀(m i N:Nat) (t:b),l.length-i=m->i<=l.length->m<N->q0 N F (g i t)=goL a K (l.drop i) i t:=by intro m;induction m with|zero=>intro i N t r p h;have:i=l.length:=(by omega);subst this;obtain⟨n,rfl⟩:∃n,N=n+1:=⟨N-1,by omega⟩;rw[zeF,e,List.drop_length];rfl|succ m s=>intro i N t r p h;obtain⟨n,rfl⟩:∃n,N=n+1:=⟨N-1,by omega⟩;have f:i<l.length:=(by omega);rw[zeF,c i f,kT f];simp only[goL];congr 1;funext k;exact s (i+1) n k (by omega) (by omega) (by omega)
 intro N t h;have:=j l.length 0 N t (by omega) (j7 _) h
 simpa using this
def goN {c b:Type}(a:Nat->c->(c->Option b)->Option b)(K:c->Option b):Nat->Nat->c->Option b
 | 0,_,t=>K t
 |n+1,i,t=>a i t (goN a K n<|i+1)
def zwL {b d σ:Type}(n:Nat)(g:Nat->b->σ)(F:(σ->Option d)->σ->Option d)(a:Nat->b->(b->Option d)->Option d)(K:b->Option d)(c:∀(i:Nat) (q:i<n) (t:b) (rec:σ->Option d),F rec (g i t)=a i t λp=>rec (g (i+1) p))(f:∀(t:b) (rec:σ->Option d),F rec (g n t)=K t) :
 ∀(N:Nat) (t:b),n<N->q0 N F (g 0 t)=goN a K n 0 t:=by
 have l:∀(m i N:Nat) (t:b),n-i=m->i<=n->m<N->q0 N F (g i t)=goN a K (n-i) i t:=by intro m;induction m with|zero=>intro i N t r q h;have:i=n:=(by omega);subst this;obtain⟨k,rfl⟩:∃k,N=k+1:=⟨N-1,by omega⟩;rw[zeF,f,k5];rfl|succ m s=>intro i N t r q h;obtain⟨k,rfl⟩:∃k,N=k+1:=⟨N-1,by omega⟩;have j:i<n:=(by omega);have e:n-i=(n-(i+1))+1:=(by omega);rw[zeF,c i j,e];simp only[goN];congr 1;funext p;exact s (i+1) k p (by omega) (by omega) (by omega)
 intro N t h;have:=l n 0 N t (by omega) (j7 _) h
 simpa using this
def zit {b h:Type}(l:List b)(d:b)(F:(Int×List b×List b×Unit->Option h)->Int×List b×List b×Unit->Option h)(k:Option h)(p:l.length<=big)(a:∀(i:Nat) (j:i<l.length) rec,F rec ((i:Int),l,l,())=rec (zM .i64 (i:Int) 1,l,l,()))(c:∀rec,F rec ((l.length:Int),l,l,())=k){N:Nat}(f:l.length<N) :
 q0 N F (0,l,l,())=k:=by
 have g:∀(m i N:Nat),l.length-i=m->i<=l.length->m<N->q0 N F ((i:Int),l,l,())=k:=by intro m;induction m with|zero=>intro i N q j f;have:i=l.length:=(by omega);subst this;obtain⟨n,rfl⟩:∃n,N=n+1:=⟨N-1,by omega⟩;rw[zeF,c]|succ m r=>intro i N q j f;obtain⟨n,rfl⟩:∃n,N=n+1:=⟨N-1,by omega⟩;have e:i<l.length:=(by omega);rw[zeF,a i e,zbj e p];exact r (i+1) n (by omega) (by omega) (by omega)
 exact g l.length 0 N (by omega) (j7 _) f
def sm:Nat:=1048576
def zkW:pc True=true:=zba trivial
def zcC {n:Nat}(h:n<=sm):n<=big/\n<=2147483648:=by unfold sm at h;rw[zsF];omega
def j0 (i n:Int):Bool:=decide (0<=i/\i<n)
def has_eq (i n:Int):(ige i 0&&ilt i n)=j0 i n:=by unfold ige ilt j0;by_cases a:0<=i<;>by_cases b:i<n<;>simp [a,b]
def zD {i n:Int}(h:j0 i n=true):inb i n=true:=h
def zeK {i:Int}{n:Nat}(h:j0 i n=true):∃k:Nat,i=k/\k<n:=by have:0<=i/\i<n:=qD h;exact⟨i.toNat,by omega,by omega⟩
def zbJ {b:Type}{l:List b}{i:Int}(h:j0 i (ln l)=true)(d:b):ix l i d∈l:=by obtain⟨k,rfl,a⟩:=zeK (n:=l.length) h;rw[zbn a];exact jI a
def zpb {a:Type}(l:List a):ap [] l=l:=rfl
def zjD {b m:Type}(c:b->Bool)(f:b->b)(K:List b->Option m):∀(l:List b) (i:Nat) (a:List b),(∀x∈l,c x=true/\f x=x)->a.length+l.length<=2147483648->
 goL (λ_ x a k=>bif c x then (cond (few<|ln<|ap a [f x]) (k<|ap a [f x]) none) else none) K l i a=K (a++l)
 |[],i,a,_,_=>by simp[goL]
 |x::l,i,a,h,g=>by obtain⟨d,e⟩:=h x (by simp);simp only[qY]at g;simp only[goL,d,e,cT];rw[zh8 (by simp[ap];omega),cT,zjD c f K l (i+1) _ (λy j=>h y (by simp[j])) (by simp[ap];omega)];simp[ap]
def zdJ (h:ad):Prop:=∀c∈zbl h,CVB sm c
def zdJ.mem {h:ad}(a:zdJ h):CVB sm (.s (.sl .int) h.ag):=a _ (by simp[zbl])
def zdJ.mons {h:ad}(a:zdJ h):CVB sm (.s .mon h.aa):=a _ (by simp[zbl])
def zq5 {t:Ty}{l:List t.den}(h:CVB sm (.s t l)):few (ln l)=true:=zh8 (zcC h.len).2
def zqY (p:Nat->Bool):Nat->Nat->Bool
 | 0,_=>true
 |n+1,i=>p i&&zqY p n (i+1)
def zGE {a:Type}(p:Nat->Bool)(r:Option a)(K:Unit->Option a):∀(n i:Nat),goN (λi (_:Unit) k=>bif p i then k () else r) K n i ()=bif zqY p n i then K () else r
 | 0,_=>rfl
 |n+1,i=>by simp only[goN,zqY];cases p i;{rfl};{simp only [cT,uN];exact zGE p r K n (i+1)}
def zzU {e a c:Type}(b:Nat->a->(a->Option c)->Option c)(K:a->Option c):∀(l:List e) (i:Nat) (t:a),goL (λi _ t k=>b i t k) K l i t=goN b K l.length i t
 |[],_,_=>rfl
 |_::l,i,t=>by have d:goL (λi _ t k=>b i t k) K l (i+1)=goN b K l.length (i+1):=funext λt=>zzU b K l (i+1) t;simp only[goL,qY,goN,d]
def ziu {a b:Type}(p:a->Bool)(r:Option b)(K:Unit->Option b):∀(l:List a) (i:Nat),goL (λ_ x (_:Unit) k=>bif p x then k () else r) K l i ()=bif l.all p then K () else r
 |[],_=>rfl
 |x::l,i=>by simp only[goL,k9];cases p x;{rfl};{simp only [cT,uN];exact ziu p r K l (i+1)}
def zBE {n:Nat}(c:n<=big)(i:Int):(ige i 0&&ile i (wsub .i64 (n:Int) 1))=j0 i n:=by rw[zsF]at c;rw[zs7 (by omega) (by omega)];unfold ige ile j0;by_cases a:0<=i<;>by_cases b:i<n;{rw [qL (p:=i≥0) (by omega),qL (p:=i<=(n:Int)-1) (by omega),qL (p:=0<=i/\i<(n:Int)) ⟨a,b⟩];rfl};{rw [qH (p:=i<=(n:Int)-1) (by omega),qH (p:=0<=i/\i<(n:Int)) (by omega)];simp};{rw [qH (p:=i≥0) (by omega),qH (p:=0<=i/\i<(n:Int)) (by omega)];simp};{rw [qH (p:=i≥0) (by omega),qH (p:=0<=i/\i<(n:Int)) (by omega)];simp}
def zsN {j h c:Type}(n:Nat)(f:Nat->c->j)(F:(j->Option h)->j->Option h)(I:Nat->c->Prop)(a:Nat->c->Option h)(b:∀(i:Nat) (t:c) (rec:j->Option h),i<n->I i t->(∀g,I (i+1) g->rec (f (i+1) g)=a (i+1) g)->F rec (f i t)=a i t)(e:∀(t:c) (rec:j->Option h),I n t->F rec (f n t)=a n t):∀(N i:Nat) (t:c),I i t->i<=n->n-i<N->q0 N F (f i t)=a i t:=by have r:∀(m N i:Nat) (t:c),n-i=m->I i t->i<=n->m<N->q0 N F (f i t)=a i t:=(by intro m;induction m with|zero=>intro N i t s d q p;obtain⟨k,rfl⟩:∃k,N=k+1:=⟨N-1,by omega⟩;have:i=n:=(by omega);subst this;rw[zeF];exact e t _ d|succ m u=>intro N i t s d q p;obtain⟨k,rfl⟩:∃k,N=k+1:=⟨N-1,by omega⟩;rw[zeF];exact b i t _ (by omega) d λg l=>u k (i+1) g (by omega) l (by omega) (by omega));intro N i t d q p;exact r (n-i) N i t rfl d q p
section
variable {α:Type}
def zGY {l:List α}{i:Nat}(h:i<l.length)(d:α):up l (i:Int) (ix l (i:Int) d)=l:=by rw[zbn h];unfold up;apply uH;intro k;rw[jC];have e:(i:Int).toNat=i:=(by omega);rw[e];by_cases a:i=k;{subst a;simp[h]};{simp [a]}
def zee {l:List α}{i:Nat}(h:i<l.length)(x d:α):ix (up l (i:Int) x) (i:Int) d=x:=by unfold ix up;have e:(i:Int).toNat=i:=(by omega);rw[e];simp[List.getD,h]
def zsv (l:List α)(i:Int)(x y:α):up (up l i x) i y=up l i y:=by unfold up;simp
def zbeI {l:List α}{i k:Nat}(h:i<k)(x:α):(up l (i:Int) x)[k]?=l[k]?:=by unfold up;have e:(i:Int).toNat=i:=(by omega);rw[e,jC,if_neg (by omega)]
end
end
end Go.Proofs.YtapgkefgcbapcaaGreat.E
