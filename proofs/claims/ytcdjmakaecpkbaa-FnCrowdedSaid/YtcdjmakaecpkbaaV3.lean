/- What is proved here: a part of the proof that the statement of this claim holds (several texts of wip/, laid together). -/
import Derived.Test.YtcdjmakaecpkbaaV2
import Derived.Orders
import Derived.HandedShaped
import Derived.ProofKit
import Derived.KernelRfl
namespace Go.Proofs.Ytcdjmakaecpkbaa.E
open Go
set_option linter.constructorNameAsVariable false
set_option linter.unusedVariables false
set_option maxRecDepth 100000
set_option linter.unusedSimpArgs false
set_option linter.unusedSectionVars false
noncomputable section
section
variable {C:Cfg} {w0 w w1:World} {S0:zq} {U:Nat->Prop} {st st1:St} {E E1:Env} {ts:Array Value} {sv:List (Array Value)}
def zbQ (ops:Array Oper)(o:Oper)(st:St):Option Bool :=
 match o.guard with
 |none=>some true
 |some (j,a)=>match guardOf st ops j with
  |some .und=>some false
  |some (.v<|.at<|.b x)=>some (x==a)
  |_=>none
theorem zw8 {a:Array Oper}{o:Oper}{d skip:St->Option Ans}{c:Ans}(h:guarded a o st d skip=some c) :
 (zbQ a o st=some true/\d st=some c)\/(zbQ a o st=some false/\skip (st.put o.dst .und)=some c):=by
 unfold guarded at h;split at h
 .rename_i hg;exact .inl ⟨by simp[zbQ,hg],h⟩
 .rename_i j want hg;split at h
  .rename_i hm;exact .inr ⟨by simp[zbQ,hg,hm],h⟩
  .rename_i x hm;have i:∃t,zd7 a j=some t/\st.tm[t]?=some (.v<|.at<|.b x):=by unfold guardOf at hm;split at hm;{rename_i l e;split at hm;{rename_i t k;exact⟨t,by simp[zd7,e,k],hm⟩};{cases hm}};{cases hm}
   obtain⟨t,g,f⟩:=i;rw[g]at h;cases x<;>cases want<;>simp only [cond_true,cond_false]at h<;>rw [zwd f]at h
   .exact .inl ⟨by simp[zbQ,hg,hm],h⟩
   .exact .inr ⟨by simp[zbQ,hg,hm],h⟩
   .exact .inr ⟨by simp[zbQ,hg,hm],h⟩
   .exact .inl ⟨by simp[zbQ,hg,hm],h⟩
  .cases h
theorem zmz (p:Sim w0 S0 U st E ts sv w){a:Array Oper}{o:Oper}{b:Bool}(h:zbQ a o st=some b):Region.wanted o (yielded a ts)=b:=by unfold zbQ at h;split at h;{rename_i hg;cases h;simp[Region.wanted,hg]};{rename_i j q hg;have f:∀{m:MV},guardOf st a j=some m->∃e t v,a[j]?=some e/\e.dst=some t/\ts[t]?=some v/\VM w st E m v:=(by intro m c;unfold guardOf at c;split at c;{rename_i e l;split at c;{rename_i t r;have g:t<ts.size:=(by rw[p.tm.1];exact(qA.1 c).1);exact⟨e,t,ts[t],l,r,by simp[g],p.tm.2 t m _ c (by simp[g])⟩};{cases c}};{cases c});split at h;{rename_i c;cases h;obtain⟨e,t,v,i,k,n,d⟩:=f c;simp only[VM]at d;subst d;have:yielded a ts j=none:=(by simp[yielded,i,k,n,undef]);simp[Region.wanted,hg,this]};{rename_i x c;cases h;obtain⟨e,t,v,i,k,n,d⟩:=f c;simp only[VM,VT,VA]at d;subst d;have s:yielded a ts j=some x:=(by simp[yielded,i,k,n]);simp[Region.wanted,hg,s]};{cases h}}
abbrev Step:=Option Dl
def St.step (st:St)(b:Bool)(o:Oper):Step->St
 |some d=>st.effD b o.dst d
 |none=>st.put o.dst .und
inductive Trace (C:Cfg) (ops:Array Oper) (b:Bool) (base:Nat):Nat->List Step->List (Nat×Foot)->St->St->Prop
 |nil (i:Nat) (st:St):Trace C ops b base i [] [] st st
 |run {i:Nat} {o:Oper} {d:Dl} {ss:List Step} {fs:List (Nat×Foot)} {st st':St} (ho:ops[i]?=some o) (hg:zbQ ops o st=some true) (hd:zev C st o (base+32*i)=some d) (hc:d.c=true)
  (h:Trace C ops b base (i+1) ss fs (st.effD b o.dst d) st'):Trace C ops b base i (some d::ss) ((i,zcD C st ops o d)::fs) st st'
 |skip {i:Nat} {o:Oper} {ss:List Step} {fs:List (Nat×Foot)} {st st':St} (ho:ops[i]?=some o) (hg:zbQ ops o st=some false)
  (h:Trace C ops b base (i+1) ss fs (st.put o.dst .und) st'):Trace C ops b base i (none::ss) ((i,zfa ops o)::fs) st st'
theorem zhC {ops:Array Oper}{z:List (List Nat)}{b:Bool}{base I:Nat}{k:St->Option Ans}{N:App->St->Option Ans}{M:Nat->St->Option Ans}{t:Ans}:∀(m i:Nat) (G:List (Nat×Foot)) (st:St),zib C ops z b base I k N M (List.range' i m) G st=some t->
 (∃ss g a,ss.length=m/\Trace C ops b base i ss g st a/\zf4 z (g.reverse++G)=true/\k a=some t)\/
 (∃ss g a o x,ss.length+1=m/\Trace C ops b base i ss g st a/\ops[i+ss.length]?=some o/\zhb C a o=some (true,x)/\b=true/\zmN ops z I (i+ss.length)=true/\x.dst<a.tm.length/\
  zf4 z ((i+ss.length,zcL a ops o zny)::(g.reverse++G))=true/\N x (a.put o.dst<|.v<|.at .bad)=some t)\/
 (∃ss g a o,ss.length+1=m/\Trace C ops b base i ss g st a/\ops[i+ss.length]?=some o/\zx1 o=true/\zmN ops z I (i+ss.length)=true/\zvy ops z (zza z I<|i+ss.length) o=true/\
  zf4 z (g.reverse++G)=true/\M (i+ss.length) a=some t)
 | 0,i,G,st,h=>by simp only[List.range'_zero,zib]at h;split at h;{rename_i s;exact .inl ⟨[],[],st,rfl,.nil i st,by simpa using s,h⟩};{cases h}
 |m+1,i,G,st,h=>by
  simp only[List.range'_succ,zib]at h;split at h;{cases h}
  .rename_i o ho;have O:=zw8 h;clear h;rcases O with⟨hg,h⟩|⟨hg,h⟩
   .split at h
    .rename_i d hd;cases A:d.c with
     |false=>rw[A]at h;cases h
     |true=>rw[A]at h;simp only[cond_true]at h;rcases zhC m (i+1) _ _ h with⟨ss,g,a,n,p,j,q⟩|⟨ss,g,a,F,x,n,p,j,q,u,r,B,w,y⟩|⟨ss,g,a,F,n,p,j,q,u,r,w,y⟩;{exact .inl ⟨some d::ss,(i,zcD C st ops o d)::g,a,by simp[n],.run ho hg hd A p,by simpa using j,q⟩};{have e:i+1+ss.length=i+(some d::ss).length:=(by simp only[qU];omega);rw[e]at j r w;exact .inr (.inl ⟨some d::ss,(i,zcD C st ops o d)::g,a,F,x,by simp[<- n],.run ho hg hd A p,j,q,u,r,B,by simpa using w,y⟩)};{have e:i+1+ss.length=i+(some d::ss).length:=(by simp only[qU];omega);rw[e]at j u r y;exact .inr (.inr ⟨some d::ss,(i,zcD C st ops o d)::g,a,F,by simp[<- n],.run ho hg hd A p,j,q,u,r,by simpa using w,y⟩)}
    {split at h;{rename_i c x l D;split at h;{rename_i f;simp only[qD,jC]at f;obtain⟨⟨⟨P,E⟩,H⟩,s⟩:=f;cases A:c with|false=>rw[A]at h;cases h|true=>rw[A]at h D;simp only[cond_true]at h;have L:m=0:=(by simpa using l);subst L;exact .inr (.inl ⟨[],[],st,o,x,rfl,.nil i st,ho,D,P,E,H,by simpa using s,h⟩)};{cases h}};{rename_i l D;split at h;{rename_i f;simp only[qD]at f;obtain⟨⟨⟨J,E⟩,K⟩,s⟩:=f;have L:m=0:=(by simpa using l);subst L;exact .inr (.inr ⟨[],[],st,o,rfl,.nil i st,ho,J,E,K,by simpa using s,h⟩)};{cases h}};{cases h}}
   {rcases zhC m (i+1) _ _ h with⟨ss,g,a,n,p,j,q⟩|⟨ss,g,a,F,x,n,p,j,q,u,r,B,w,y⟩|⟨ss,g,a,F,n,p,j,q,u,r,w,y⟩;{exact .inl ⟨none::ss,(i,zfa ops o)::g,a,by simp[n],.skip ho hg p,by simpa using j,q⟩};{have e:i+1+ss.length=i+((none:Step)::ss).length:=(by simp only[qU];omega);rw[e]at j r w;exact .inr (.inl ⟨none::ss,(i,zfa ops o)::g,a,F,x,by simp[<- n],.skip ho hg p,j,q,u,r,B,by simpa using w,y⟩)};{have e:i+1+ss.length=i+((none:Step)::ss).length:=(by simp only[qU];omega);rw[e]at j u r y;exact .inr (.inr ⟨none::ss,(i,zfa ops o)::g,a,F,by simp[<- n],.skip ho hg p,j,q,u,r,by simpa using w,y⟩)}}
end
inductive Key where
 |tm (t:Nat)
 |ro (n:Nat)
 |lo (n:Nat)
inductive Item where
 |tm (m:MV)
 |ro (R:Root)
 |lo (l:List At)
def St.get (st:St):Key->Option Item
 |.tm t=>st.tm[t]?.map .tm
 |.ro n=>(zf st.ro n).map .ro
 |.lo n=>(zf st.lo n).map .lo
def wr (o:Oper):Step->Key->Prop
 |_,.tm t=>o.dst=some t
 |none,_=>False
 |some d,.ro n=>n∈d.ro.map (·.1)
 |some d,.lo n=>n∈d.lo.map (·.1)
section
variable {st st':St} {b:Bool} {o:Oper}
theorem zmb {a:Type}:∀{l:List (Nat×a)} {n:Nat},n∉l.map (·.1)->zf l n=none
 |[],_,_=>rfl
 |(k,v)::l,n,h=>by simp only[qZ,qL,not_or]at h;simp only[zf];rw[if_neg (by simp;exact λe=>h.1 e.symm)];exact zmb h.2
theorem zmc {b:Type}:∀{l:List (Nat×b)} {n:Nat},n∈l.map (·.1)->∃v,zf l n=some v
 |[],_,h=>by simp at h
 |(k,v)::l,n,h=>by simp only[zf];split;{exact⟨v,rfl⟩};{rename_i a;simp only[qH]at a;simp only[qZ,qL]at h;exact zmc (h.resolve_left λe=>a e.symm)}
theorem zBb {m:MV}{d:Option Tmp}:(st.put d m).ro=st.ro:=by cases d<;>rfl
theorem zBa {m:MV}{d:Option Tmp}:(st.put d m).lo=st.lo:=by cases d<;>rfl
theorem zA9 {m:MV}{d:Option Tmp}:(st.put d m).ep=st.ep:=by cases d<;>rfl
theorem zyf {m:MV}{d:Option Tmp}:(st.put d m).stk=st.stk:=by cases d<;>rfl
theorem zye {m:MV}{d:Option Tmp}:(st.put d m).tm.length=st.tm.length:=by cases d<;>simp [St.put]
theorem zBc {m:MV}{d:Option Tmp}{t:Nat}:(st.put d m).tm[t]?=if d=some t then (if t<st.tm.length then some m else none) else st.tm[t]?:=by cases d with|none=>simp[St.put]|some e=>simp only[St.put,qY,qB];split;{rename_i e;subst e;rfl};{rfl}
def dv:Step->MV
 |some d=>d.v
 |none=>.und
theorem zyp {s:Step}{t:Nat}:(st.step b o s).tm[t]?=if o.dst=some t then (if t<st.tm.length then some (dv s) else none) else st.tm[t]?:=by cases s with|none=>exact zBc|some d=>exact zBc (st:={st with lo:=d.lo++st.lo,ro:=d.ro.map (λ(x:Nat×Root)=>(x.1,zcJ b x.2))++st.ro})
theorem zDn {s:Step}:(st.step b o s).tm.length=st.tm.length:=by cases s with|none=>exact zye|some d=>exact zye (st:={st with lo:=d.lo++st.lo,ro:=d.ro.map (λ(x:Nat×Root)=>(x.1,zcJ b x.2))++st.ro})
theorem zsZ {s:Step}:(st.step b o s).ep=st.ep:=by cases s with|none=>exact zA9|some d=>exact zA9 (st:={st with lo:=d.lo++st.lo,ro:=d.ro.map (λ(x:Nat×Root)=>(x.1,zcJ b x.2))++st.ro})
theorem zwq {s:Step}:(st.step b o s).stk=st.stk:=by cases s with|none=>exact zyf|some d=>exact zyf (st:={st with lo:=d.lo++st.lo,ro:=d.ro.map (λ(x:Nat×Root)=>(x.1,zcJ b x.2))++st.ro})
theorem zDo {s:Step}:(st.step b o s).nid=st.nid:=by cases s with|none=>exact zcM|some d=>exact zcM (st:={st with lo:=d.lo++st.lo,ro:=d.ro.map (λ(x:Nat×Root)=>(x.1,zcJ b x.2))++st.ro})
def dro (b:Bool):Step->List (Nat×Root)
 |some d=>d.ro.map (λ(x:Nat×Root)=>(x.1,zcJ b x.2))
 |none=>[]
def dlo:Step->List (Nat×List At)
 |some d=>d.lo
 |none=>[]
theorem zs3 {s:Step}:(st.step b o s).ro=dro b s++st.ro:=by cases s with|none=>exact zBb|some d=>exact zBb (st:={st with lo:=d.lo++st.lo,ro:=d.ro.map (λ(x:Nat×Root)=>(x.1,zcJ b x.2))++st.ro})
theorem zyo {s:Step}:(st.step b o s).lo=dlo s++st.lo:=by cases s with|none=>exact zBa|some d=>exact zBa (st:={st with lo:=d.lo++st.lo,ro:=d.ro.map (λ(x:Nat×Root)=>(x.1,zcJ b x.2))++st.ro})
theorem zEY {s:Step}{n:Nat}:wr o s (.ro n)↔n∈(dro b s).map (·.1):=by cases s with|none=>simp[wr,dro]|some d=>simp[wr,dro,List.map_map,Function.comp_def]
theorem zEX {s:Step}{n:Nat}:wr o s (.lo n)↔n∈(dlo s).map (·.1):=by cases s with|none=>simp[wr,dlo]|some d=>simp[wr,dlo]
theorem step_other {s:Step}{a:Key}(h:¬ wr o s a):(st.step b o s).get a=st.get a:=by cases a with|tm t=>have c:¬ o.dst=some t:=(by cases s<;>exact h);simp only[St.get,zyp,if_neg c]|ro n=>rw[zEY (b:=b)]at h;simp only[St.get,zs3,zM,zmb h]|lo n=>rw[zEX]at h;simp only[St.get,zyo,zM,zmb h]
theorem znm {s:Step}{κ:Key}(h:wr o s κ)(d:st.tm.length=st'.tm.length):(st.step b o s).get κ=(st'.step b o s).get κ:=by cases κ with|tm t=>have c:o.dst=some t:=(by cases s<;>exact h);simp only[St.get,zyp,if_pos c,d]|ro n=>rw[zEY (b:=b)]at h;obtain⟨v,a⟩:=zmc h;simp only[St.get,zs3,zM,a]|lo n=>rw[zEX]at h;obtain⟨v,a⟩:=zmc h;simp only[St.get,zyo,zM,a]
theorem zzB {s:Step}{a:Key}(d:st.tm.length=st'.tm.length)(h:st.get a=st'.get a):(st.step b o s).get a=(st'.step b o s).get a:=by by_cases c:wr o s a;{exact znm c d};{rw [step_other c,step_other c,h]}
def zI (ops:Array Oper)(b:Bool)(X:Nat->Bool):Nat->List Step->St->St
 |_,[],st=>st
 |i,s::ss,st=>zI ops b X (i+1) ss (if X i then (match ops[i]? with|some o=>st.step b o s|none=>st) else st)
def one (ops:Array Oper)(b:Bool)(X:Nat->Bool)(i:Nat)(s:Step)(st:St):St:=if X i then (match ops[i]? with|some o=>st.step b o s|none=>st) else st
theorem znL {ops:Array Oper}{X:Nat->Bool}{i:Nat}{s:Step}:(one ops b X i s st).tm.length=st.tm.length:=by unfold one;split;{split;{exact zDn};{rfl}};{rfl}
theorem zf6 {ops:Array Oper}{X:Nat->Bool}:∀(ss:List Step) (i:Nat) (st:St),(zI ops b X i ss st).tm.length=st.tm.length
 |[],_,_=>rfl
 |s::ss,i,st=>(zf6 ss (i+1) _).trans (znL (X:=X) (i:=i) (s:=s))
theorem zhf {ops:Array Oper}{X Y:Nat->Bool}{c:Key}:∀(ss:List Step) (i:Nat) (st st':St),st.tm.length=st'.tm.length->st.get c=st'.get c->
 (∀(k:Nat) (s:Step) (o:Oper),ss[k]?=some s->ops[i+k]?=some o->X (i+k)≠Y (i+k)->¬ wr o s c)->(zI ops b X i ss st).get c=(zI ops b Y i ss st').get c
 |[],_,_,_,_,h,_=>h
 |s::ss,i,st,st',g,h,j=>by
  have l:(one ops b X i s st).get c=(one ops b Y i s st').get c:=by unfold one;cases f:ops[i]? with|none=>cases X i<;>cases Y i<;>exact h|some o=>have a:=j 0 s o rfl f;simp only[kB]at a;cases m:X i<;>cases n:Y i<;>rw [m,n]at a;{exact h};{simp only [if_true,kC,if_false];rw[step_other<|a (by simp),h]};{simp only [if_true,kC,if_false];rw[step_other<|a (by simp),h]};{exact zzB g h}
  exact zhf ss (i+1) _ _ (((znL (b:=b) (ops:=ops) (X:=X) (i:=i) (s:=s) (st:=st)).trans g).trans (znL (b:=b) (ops:=ops) (X:=Y) (i:=i) (s:=s) (st:=st')).symm) l (λk r q p f d=>j (k+1) r q (by simpa using p) (by rw[<- f];congr 1;omega) (by
   have e:i+(k+1)=i+1+k:=by omega
   rw[e];exact d))
end
section
variable {st st':St} {b:Bool} {o:Oper}
theorem zqF {ops:Array Oper}{X:Nat->Bool}{κ:Key}:∀(ss:List Step) (i:Nat) (st:St),
 (∀(k:Nat) (s:Step) (o:Oper),ss[k]?=some s->ops[i+k]?=some o->X (i+k)=true->¬ wr o s κ)->(zI ops b X i ss st).get κ=st.get κ
 |[],_,_,_=>rfl
 |s::ss,i,st,d=>by
  have f:(one ops b X i s st).get κ=st.get κ:=by unfold one;split;{rename_i a;split;{rename_i o c;exact step_other (d 0 s o rfl c a)};{rfl}};{rfl}
  exact(zqF ss (i+1) _ (λk j h g c a=>d (k+1) j h (by simpa using g) (by rw[<- c];congr 1;omega) (by
   have e:i+(k+1)=i+1+k:=by omega
   rw[e];exact a))).trans f
theorem zvf {ops:Array Oper}{X:Nat->Bool}{j:Nat}{s:Step}(r:X j=true)(t:ops[j]?=some o){κ:Key}(m:wr o s κ):∀(ss:List Step) (i:Nat) (st:St),i<=j->ss[j-i]?=some s->
 (∀(k:Nat) (c:Step) (u:Oper),ss[k]?=some c->ops[i+k]?=some u->j<i+k->X (i+k)=true->¬ wr u c κ)->(zI ops b X i ss st).get κ=(st.step b o s).get κ
 |[],i,st,_,h,_=>by simp at h
 |c::ss,i,st,w,h,y=>by have a:∀(k:Nat) (l:Step) (g:Oper),ss[k]?=some l->ops[i+1+k]?=some g->j<i+1+k->X (i+1+k)=true->¬ wr g l κ:=(by intro k l g p f x d;have e:i+(k+1)=i+1+k:=(by omega);exact y (k+1) l g (by simpa using p) (by rw[e];exact f) (by omega) (by rw[e];exact d));by_cases v:i=j;{subst v;simp only[uU,qF,qB]at h;subst h;have n:=zqF (b:=b) (ops:=ops) (X:=X) (κ:=κ) ss (i+1) (one ops b X i c st) (λk l g p f d=>a k l g p f (by omega) d);have q:one ops b X i c st=st.step b o c:=(by simp only[one,r,t,if_true]);rw[q]at n;show (zI ops b X (i+1) ss<|one ops b X i c st).get κ=_;rw[q];exact n};{have e:j-i=(j-(i+1))+1:=(by omega);rw[e,jL]at h;have n:=zvf r t m ss (i+1) (one ops b X i c st) (by omega) h a;exact n.trans (znm m znL)}
theorem zAz {e:Array Oper}{X Y:Nat->Bool}{a j:Nat}{s:Step}(q:∀i,Y i=(X i||i==a+j))(r:e[a+j]?=some o){ss:List Step}{st:St}(t:ss[j]?=some s)(v:∀(k:Nat) (n:Step) (m:Oper),ss[k]?=some n->e[a+k]?=some m->j<k->X (a+k)=true->∀g,wr o s g->¬ wr m n g)(g:Key) :
 (zI e b Y a ss st).get g=((zI e b X a ss st).step b o s).get g:=by
 by_cases c:wr o s g
 .rw [zvf (X:=Y) (j:=a+j) (s:=s) (by rw[q];simp) r c ss a st (kR _ _) (by rw[Nat.add_sub_cancel_left];exact t) (fun k n m p d u f=>by
   refine v k n m p d (by omega) ?_ g c
   rw[q]at f;have:(a+k==a+j)=false:=by simp;omega
   rw[this,uL]at f;exact f)]
  exact znm c (zf6 ss a st).symm
 .rw [step_other c];refine zhf ss a st st rfl rfl (fun k n m p d l=>?_);have:k=j:=by rw[q]at l;by_cases h:k=j;{exact h};{have:(a+k==a+j)=false:=(by simp[h]);simp[this]at l}
  subst this;rw[r]at d;cases d;rw[t]at p;cases p;exact c
end
section
variable {C:Cfg} {w0 w w1:World} {S0:zq} {U:Nat->Prop} {st st':St} {E E1:Env} {ts:Array Value} {sv:List (Array Value)}
theorem zqM {t:Nat}(h:st'.get (.tm t)=st.get (.tm t)):st'.tm[t]?=st.tm[t]?:=by simp only[St.get]at h;cases a:st'.tm[t]? <;> cases b:st.tm[t]? <;> rw [a,b]at h<;>simp at h;{rw [h]}
theorem zmy {n:Nat}(h:st'.get (.ro n)=st.get (.ro n)):zf st'.ro n=zf st.ro n:=by simp only[St.get]at h;cases a:zf st'.ro n<;>cases b:zf st.ro n<;>rw [a,b]at h<;>simp at h;{rw [h]}
theorem zqL {n:Nat}(h:st'.get (.lo n)=st.get (.lo n)):zf st'.lo n=zf st.lo n:=by simp only[St.get]at h;cases a:zf st'.lo n<;>cases b:zf st.lo n<;>rw [a,b]at h<;>simp at h;{rw [h]}
theorem Sim.fewer (s:Sim w0 S0 U st E ts sv w)(F:∀t:Nat,st'.tm[t]?=st.tm[t]?)(d:∀n,zf st'.lo n=zf st.lo n)(k:st'.stk=st.stk)(a:∀n R,st'.root n=some R->st.root n=some R)(C:∀n R,zf st'.ro n=some R->∃v,zf st.ro n=some v)(B:∀n R e,zf st'.ro n=some R->R.ep=some e->e<=st'.ep):Sim w0 S0 U st' E ts sv w:=by
 have b:=s.mem;have T:Trans st E w st' E w (λ_=>True):=⟨λr _ G h=>⟨G,a r G h,rfl,λ_ _ h=>h⟩,λl _ i h=>⟨⟨i,by rw[<- d];exact h⟩,rfl⟩,rfl⟩
 have g:st'.tm=st.tm:=kX F;refine⟨⟨b.os,b.tape,b.output,b.size,b.keep,λr R h=>b.rep r R (a r R h),λr R h=>b.rlt r R (a r R h),λr R h=>b.mine r R (a r R h),λO r R h=>b.frz O r R (a r R h),
  λr R K v p q z=>b.apart r R K v (a r R p) q (a K v z),λl i M=>?_,λl P i y p q=>b.linj l P i y (by rw[<- d];exact p) (by rw[<- d];exact q),
  λl i r R p q=>b.lro l i r R (by rw[<- d];exact p) (a r R q),B,b.κ⟩,⟨λn R D=>?_,λn i D=>s.ids.lo n i (by rw[<- d];exact D),λm N=>s.ids.tm m (by rw[<- g];exact N),λf L=>s.ids.stk f (by rw[<- k];exact L)⟩,?_,?_⟩
 {obtain⟨p,x,e,q,z,H⟩:=b.loc l i (by rw[<- d];exact M);exact⟨p,x,e,q,z,λj c u I J=>⟨(H j c u I J).1,VA.tr T (λ_ _=>trivial) (H j c u I J).2⟩⟩};{obtain⟨v,A⟩:=C n R D;exact s.ids.ro n v A};{rw [g];exact Slots.tr T (λ_ _ _ _=>trivial) s.tm};{rw [k];exact Stack.tr T (λ_ _ _ _ _ _=>trivial) s.stk}
theorem Sim.same (d:Sim w0 S0 U st E ts sv w)(hg:∀f,st'.get f=st.get f)(b:st'.stk=st.stk)(a:st'.ep=st.ep):Sim w0 S0 U st' E ts sv w:=by have c:∀n,zf st'.ro n=zf st.ro n:=λn=>zmy (hg<|.ro n);refine d.fewer (λt=>zqM (hg<|.tm t)) (λn=>zqL (hg<|.lo n)) b (λn R h=>?_) (λn R h=>⟨R,by rw[<- c];exact h⟩) (λn R e h g=>by rw[a];exact d.mem.epo n R e (by rw[<- c];exact h) g);simpa only [St.root,c,a] using h
end
section
variable {C:Cfg} {ops:Array Oper} {b:Bool} {base:Nat}
theorem zv3 {s:List Nat}{x:Nat}:zfR s x=true↔x∈s:=by unfold zfR;rw[kH];constructor;{rintro⟨y,a,h⟩;rw[kK h];exact a};{exact λh=>⟨x,h,Nat.beq_refl x⟩}
theorem zlm {s:List Nat}:∀{l:List Nat} {x:Nat},x∈addN l s↔x∈l\/x∈s
 |[],x=>by simp[addN]
 |a::l,x=>by
  have c:=λy=>@zlm s l y;show x∈cond (zfR (addN l s) a) (addN l s) (a::addN l s)↔_
  cases h:zfR (addN l s) a with
  |true=>rw[cond_true,c,qL];constructor;{rintro (b|b);{exact .inl (.inr b)};{exact .inr b}};{rintro ((b|b)|b);{rw [b];exact(c a).1 (zv3.1 h)};{exact .inl b};{exact .inr b}}
  |false=>rw[cond_false,qL,c,qL,or_assoc]
theorem zrN {b:List (List Nat)}:∀{l:List Edge} {e:Edge},e∈l->Region.binds .any e=true->
 e.on∈l.foldr (λe s=>cond (Region.binds .any e) (cond (zfR s e.on) s<|addN (b.getD e.on []) (e.on::s)) s) []
 |a::l,e,c,f=>by rw[List.foldr_cons];generalize h:l.foldr (λe s=>cond (Region.binds .any e) (cond (zfR s e.on) s<|addN (b.getD e.on []) (e.on::s)) s) []=s;have up:∀x,x∈s->x∈cond (Region.binds .any a) (cond (zfR s a.on) s<|addN (b.getD a.on []) (a.on::s)) s:=λx d=>(by cases Region.binds .any a with|false=>exact d|true=>(cases zfR s a.on with|true=>exact d|false=>exact zlm.2 (.inr<|qR _ d)));rcases qL.1 c with rfl|c;{rw [f,cond_true];cases g:zfR s e.on with|true=>exact zv3.1 g|false=>exact zlm.2 (.inr qX)};{exact up _ (h ▸ zrN c f)}
theorem zrO {b:List (List Nat)}:∀{l:List Edge} {j:Nat},j∈l.foldr (λe s=>cond (Region.binds .any e) (cond (zfR s e.on) s<|addN (b.getD e.on []) (e.on::s)) s) []->
 ∃e∈l,Region.binds .any e=true/\(j=e.on\/j∈b.getD e.on [])
 |[],j,h=>by cases h
 |a::l,j,h=>by
  rw[List.foldr_cons]at h;have up:j∈l.foldr (λe s=>cond (Region.binds .any e) (cond (zfR s e.on) s<|addN (b.getD e.on []) (e.on::s)) s) []->∃e∈a::l,Region.binds .any e=true/\(j=e.on\/j∈b.getD e.on []):=λh=>by obtain⟨e,f,g⟩:=zrO h;exact⟨e,qR _ f,g⟩
  cases c:Region.binds .any a with
  |false=>rw[c]at h;exact up h
  |true=>
   rw[c,cond_true]at h;cases d:zfR (l.foldr (λe s=>cond (Region.binds .any e) (cond (zfR s e.on) s<|addN (b.getD e.on []) (e.on::s)) s) []) a.on with
   |true=>rw[d]at h;exact up h
   |false=>rw[d,cond_false]at h;rcases zlm.1 h with h|h;{exact⟨a,qX,c,.inr h⟩};{rcases qL.1 h with h|h;{exact⟨a,qX,c,.inl h⟩};{exact up h}}
theorem zrV (i:Nat)(r:List Nat)(a:List (List Nat)):zdX ops (i::r) a=zdX ops r (a++[waits ops a i]):=rfl
theorem zka:∀(m:Nat) (a:List (List Nat)),∃l,zdX ops (List.range' a.length m) a=a++l/\l.length=m/\
 ∀k,k<m->(a++l)[a.length+k]?=some (waits ops ((a++l).take (a.length+k))<|a.length+k)
 | 0,a=>⟨[],by simp[zdX],rfl,λk h=>by omega⟩
 |m+1,a=>by obtain⟨l,c,g,d⟩:=zka m (a++[waits ops a a.length]);have b:(a++[waits ops a a.length]).length=a.length+1:=(by simp);rw[b]at c d;refine⟨waits ops a a.length::l,?_,by simp[g],λk h=>?_⟩;{rw [List.range'_succ,zrV,c];simp};{have e:a++waits ops a a.length::l=(a++[waits ops a a.length])++l:=(by simp);cases k with|zero=>rw[kB,qO<|qV _,uU,kE rfl];rfl|succ k=>have f:a.length+(k+1)=a.length+1+k:=(by omega);rw[e,f];exact d k (by omega)}
theorem zyJ {i:Nat}(c:i<ops.size):(zdX ops (List.range ops.size) []).getD i []=waits ops ((zdX ops (List.range ops.size) []).take i) i:=by obtain⟨l,a,d,b⟩:=zka (ops:=ops) ops.size [];simp only[List.length_nil,jO,jQ]at a b;rw[List.range_eq_range',a,jZ,b i c];rfl
structure Pinned (n:Nat) (cl:List (List Nat)) (m:Nat):Prop where
 full:∀j,j<m->j∈cl.getD m []
 wait:∀k,m<k->k<n->m∈cl.getD k []
theorem zjR {n m:Nat}{a:List (List Nat)}(h:pinned n a m=true):Pinned n a m:=by unfold pinned zAE at h;simp only[qD,qJ,j3,jK,jC,List.mem_range']at h;refine⟨h.1,λk b c=>h.2 k ⟨k-(m+1),by omega,by omega⟩⟩
theorem zhu {n m:Nat}{a:List (List Nat)}{p:Bool}{r:List Bool}(h:p::r=(zdH n a).drop m):m<n/\p=pinned n a m/\r=(zdH n a).drop (m+1):=by have b:m<(zdH n a).length:=(by rcases kY m (zdH n a).length with c|c;{exact c};{rw [List.drop_eq_nil_of_le c]at h;cases h});rw[kP b]at h;simp only[List.cons.injEq]at h;refine⟨by simpa [zdH] using b,?_,h.2⟩;rw[h.1];simp[zdH]
theorem zwa {n m:Nat}{a:List (List Nat)}(h:[]=(zdH n a).drop m):n<=m:=by have:=List.drop_eq_nil_iff.1 h.symm;simpa [zdH] using this
theorem ztP {n:Nat}{a:List (List Nat)}:∀(r:List Bool) (m:Nat),m<=n->r=(zdH n a).drop m->
 m+zbh r<=n/\r.drop (zbh r)=(zdH n a).drop (m+zbh r)/\(m+zbh r<n->Pinned n a (m+zbh r))
 |[],m,c,h=>by have:=zwa h;refine⟨by simp[zbh];omega,by simpa [zbh] using h,λb=>?_⟩;simp[zbh]at b;omega
 |true::r,m,c,h=>by obtain⟨i,j,_⟩:=zhu h;refine⟨by simp[zbh];omega,by simpa [zbh] using h,λ_=>?_⟩;simp only[zbh,kB];exact zjR j.symm
 |false::r,m,c,h=>by obtain⟨i,_,k⟩:=zhu h;obtain⟨d,f,g⟩:=ztP r (m+1) (by omega) k;have e:m+zbh (false::r)=m+1+zbh r:=(by simp only[zbh];omega);rw[e];refine⟨d,?_,g⟩;rw[<- f];rfl
theorem zjl {X:Nat->Bool}:∀(ss:List Step) (i:Nat) (a:St),(∀k,i<=k->X k=false)->zI ops b X i ss a=a
 |[],_,_,_=>rfl
 |s::ss,i,a,h=>by simp only[zI];rw[h i<|qV _];simp only[kC,if_false];exact zjl ss (i+1) a (λk c=>h k (by omega))
theorem zhg {X Y:Nat->Bool}:∀(ss:List Step) (i:Nat) (a:St),(∀k,i<=k->k<i+ss.length->X k=Y k)->zI ops b X i ss a=zI ops b Y i ss a
 |[],_,_,_=>rfl
 |s::ss,i,a,h=>by simp only[zI];rw[h i (qV _) (by simp)];exact zhg ss (i+1) _ (λk d c=>h k (by omega) (by simp only[qU];omega))
def At1 (C:Cfg)(ops:Array Oper)(base i:Nat)(o:Oper)(S:St)(f:Foot):Step->Prop
 |some d=>zbQ ops o S=some true/\zev C S o (base+32*i)=some d/\d.c=true/\f=zcD C S ops o d
 |none=>zbQ ops o S=some false/\f=zfa ops o
theorem zwH {i:Nat}{ss:List Step}{m:List (Nat×Foot)}{l c:St}(h:Trace C ops b base i ss m l c):∀(k:Nat) (s:Step),ss[k]?=some s->
 ∃o f,ops[i+k]?=some o/\(i+k,f)∈m/\At1 C ops base (i+k) o (zI ops b (λj=>decide (j<i+k)) i ss l) f s:=by
 induction h with
 |nil i l=>intro k s a;simp at a
 |run g hg v u h r=>rename_i i o d ss m l c;intro k s a;cases k with|zero=>simp only[qF,qB]at a;subst a;refine⟨o,_,g,qX,?_⟩;rw[zjl _ _ _ (λk w=>by simp;omega)];exact⟨hg,v,u,rfl⟩|succ k=>obtain⟨t,f,n,p,q⟩:=r k s (by simpa using a);have e:i+(k+1)=i+1+k:=(by omega);refine⟨t,f,by rw[e];exact n,by rw[e];exact qR _ p,?_⟩;rw[e];simp only[zI,g];rw[if_pos (by simp;omega)];exact q
 |skip g hg h r=>rename_i i o ss m l c;intro k s a;cases k with|zero=>simp only[qF,qB]at a;subst a;refine⟨o,_,g,qX,?_⟩;rw[zjl _ _ _ (λk w=>by simp;omega)];exact⟨hg,rfl⟩|succ k=>obtain⟨t,f,n,p,q⟩:=r k s (by simpa using a);have e:i+(k+1)=i+1+k:=(by omega);refine⟨t,f,by rw[e];exact n,by rw[e];exact qR _ p,?_⟩;rw[e];simp only[zI,g];rw[if_pos (by simp;omega)];exact q
theorem ztX {i:Nat}{ss:List Step}{f:List (Nat×Foot)}{e a:St}(h:Trace C ops b base i ss f e a):a=zI ops b (λ_=>true) i ss e:=by induction h with|nil i e=>rfl|run c hg j g h d=>simp only[zI,c,if_true];exact d|skip c hg h d=>simp only[zI,c,if_true];exact d
theorem zA0 {X:Nat->Bool}{i:Nat}{s:Step}{a:St}:(one ops b X i s a).ep=a.ep:=by unfold one;split;{split;{exact zsZ};{rfl}};{rfl}
theorem zFE {X:Nat->Bool}{i:Nat}{s:Step}{a:St}:(one ops b X i s a).stk=a.stk:=by unfold one;split;{split;{exact zwq};{rfl}};{rfl}
theorem zFD {X:Nat->Bool}{i:Nat}{s:Step}{a:St}:(one ops b X i s a).nid=a.nid:=by unfold one;split;{split;{exact zDo};{rfl}};{rfl}
theorem zdC {X:Nat->Bool}:∀(ss:List Step) (i:Nat) (a:St),(zI ops b X i ss a).ep=a.ep
 |[],_,_=>rfl
 |s::ss,i,a=>(zdC ss (i+1) _).trans (zA0 (X:=X) (i:=i) (s:=s))
theorem zhn {X:Nat->Bool}:∀(ss:List Step) (i:Nat) (a:St),(zI ops b X i ss a).stk=a.stk
 |[],_,_=>rfl
 |s::ss,i,a=>(zhn ss (i+1) _).trans (zFE (X:=X) (i:=i) (s:=s))
theorem zmv {X:Nat->Bool}:∀(ss:List Step) (i:Nat) (a:St),(zI ops b X i ss a).nid=a.nid
 |[],_,_=>rfl
 |s::ss,i,a=>(zmv ss (i+1) _).trans (zFD (X:=X) (i:=i) (s:=s))
def Dead (a:St):Prop:=∀n R e,zf a.ro n=some R->R.ep=some e->e<a.ep
theorem zBy {o:Oper}{s:Step}{c:St}(h:Dead c)(m:0<c.ep):Dead (c.step true o s):=by
 intro n R e b a;rw[zsZ];rw[zs3,zM]at b;split at b
 .rename_i x hx;cases b;cases s with
  |none=>cases hx
  |some d=>
   have g:=zgM hx;simp only[dro,jE]at g;obtain⟨⟨k,i⟩,_,f⟩:=g;simp only[jH]at f;obtain⟨_,rfl⟩:=f;unfold zcJ at a;split at a;{simp only [qB]at a;omega}
   .rename_i hne;exact absurd a (by
     cases l:i.ep with
     |none=>simp
     |some j=>exact absurd l (hne j rfl))
 {exact h n R e b a}
theorem zk0 {X:Nat->Bool}:∀(ss:List Step) (i:Nat) (a:St),Dead a->0<a.ep->Dead (zI ops true X i ss a)
 |[],_,_,h,_=>h
 |s::ss,i,a,h,b=>by refine zk0 (X:=X) ss (i+1) (one ops true X i s a) ?_ (by rw[zA0];exact b);unfold one;split;{split;{exact zBy h b};{exact h}};{exact h}
end
section
variable {C:Cfg} {ops:Array Oper} {b:Bool} {base:Nat}
def Foot.reads (f:Foot):Key->Prop
 |.tm t=>t∈f.tm
 |.ro n=>n∈f.ro
 |.lo n=>n∈f.lo
def Foot.writes (f:Foot):Key->Prop
 |.tm t=>f.dst=some t
 |.ro n=>n∈f.wro
 |.lo n=>n∈f.wlo
theorem zhc {a c:List Nat}(h:zmd a c=true):∀x∈a,x∉c:=by intro x b;have:=qJ.1 h x b;simpa using this
theorem apart_spec {x y:Foot}(h:x.apart y=true):(∀a,x.writes a->¬ y.reads a/\¬ y.writes a)/\(∀a,y.writes a->¬ x.reads a):=by unfold Foot.apart at h;simp only[qD]at h;obtain⟨⟨⟨⟨⟨c,d⟩,e⟩,f⟩,g⟩,i⟩:=h;refine⟨λa b=>?_,λa b=>?_⟩;{cases a with|tm t=>simp only[Foot.writes]at b;rw[b]at c;simp only[qD,jF,beq_eq_false_iff_ne,jK,decide_eq_false_iff_not]at c;exact⟨c.1,c.2⟩|ro n=>have:=zhc e n b;simp only[jJ,not_or] at this;exact this|lo n=>have:=zhc g n b;simp only[jJ,not_or] at this;exact this};{cases a with|tm t=>simp only[Foot.writes]at b;rw[b]at d;simpa [Foot.reads] using d|ro n=>exact zhc f n b|lo n=>exact zhc i n b}
theorem zme {i:Nat}{o:Oper}{S:St}{f:Foot}{s:Step}(h:At1 C ops base i o S f s)(a:Key):wr o s a↔f.writes a:=by cases s with|none=>obtain⟨_,rfl⟩:=h;cases a<;>simp [wr,Foot.writes,zfa]|some d=>obtain⟨_,_,_,rfl⟩:=h;cases a<;>simp [wr,Foot.writes,zcD,zcL]
def Does (C:Cfg)(ops:Array Oper)(base i:Nat)(o:Oper)(S:St):Step->Prop
 |some d=>zbQ ops o S=some true/\zev C S o (base+32*i)=some d/\d.c=true
 |none=>zbQ ops o S=some false
theorem zkf {o:Oper}{S a:St}(h:∀t∈zkg ops o,a.tm[t]?=S.tm[t]?):zbQ ops o a=zbQ ops o S:=by unfold zbQ;cases hg:o.guard with|none=>rfl|some f=>obtain⟨j,b⟩:=f;simp only;have e:guardOf a ops j=guardOf S ops j:=(by unfold guardOf;cases d:ops[j]? with|none=>rfl|some g =>simp only;(cases c:g.dst with|none=>rfl|some t=>simp only;exact h t (by simp[zkg,hg,zd7,d,c])));rw[e]
theorem zzm {S a:St}(b:a.ep=S.ep){n:Nat}(c:zf a.ro n=zf S.ro n):a.root n=S.root n:=by unfold St.root;rw[c,b]
theorem zto {S d:St}(c:d.ep=S.ep):∀(own:List Bool) (cells:List At),(∀a∈cells,∀n∈zD a,zf d.ro n=zf S.ro n)->d.blk own cells=S.blk own cells
 |[],[],_=>rfl
 |[],_::_,_=>rfl
 |_::_,[],_=>rfl
 |o::ms,a::r,h=>by have g:=zto c ms r λb f=>h b (qR _ f);have e:=h a qX;simp only[St.blk];rw[g];cases a with|sl q p=>(cases p with|nil=>simp only[zzm c<|e q (by simp[zD])]|cons x p=>rfl)|_=>rfl
theorem zmM {S c:St}(a:c.ep=S.ep):∀(b:List Nat),(∀k∈b,zf c.ro k=zf S.ro k)->killed c b=killed S b
 |[],_=>rfl
 |k::b,h=>by simp only[killed];rw[h k qX,zmM a b λj d=>h j (qR _ d),a]
theorem zoS {c:Type}{p q:c->Bool}:∀{l:List c},(∀a∈l,p a=q a)->l.all p=l.all q
 |[],_=>rfl
 |a::l,h=>by rw[k5,k5,h a qX,zoS λb d=>h b (qR _ d)]
theorem zzL {S c:St}{L:List Operand}(h:Agree S c L){b:List Nat}{x:Operand}(f:x∈L){m:MV}(d:S.opnd x=some m):c.avF b m=S.avF b m:=by unfold St.avF;have e:znx c b m=znx S b m:=(by unfold znx;refine zoS λa g=>zoS λr i=>?_;rw[h.rootN<|(h.id x f m d a g).1 r i]);rw[e,h.avOf f d]
theorem zv9 {S d:St}{o:Oper}{id:Nat}(h:Agree S d (callArgs o))(q:∀x∈callArgs o,∀l p,S.at x=some (.lp l p)->∀cells,zf S.lo l=some cells->∀a∈cells,∀n∈zD a,zf d.ro n=zf S.ro n):ze3 C d o id=ze3 C S o id:=by unfold ze3;cases zeq C o with|none=>rfl|some y=>obtain⟨own,E⟩:=y;simp only;(cases z:callArgs o with|nil=>rfl|cons x t=>rw[z]at h q;simp only[zsV];have f:d.at x=S.at x:=h.at qX;rw[f];split;{rename_i l r;have i:zf d.lo l=zf S.lo l:=h.loc (zb2 qX r);rw[i];split;{rename_i cells c;have b:=q x qX l 0 r cells c;rw[zto h.ep own cells b];split;{rename_i u e w;have B:=zuO own cells u e w;have g:killed d e=killed S e:=zmM h.ep e λk g=>(by obtain⟨j,_,A⟩:=B.ownk k g;exact b _ (qG A) k (by simp[zD]));have v:zbe (zuK d e) t=zbe (zuK S e) t:=(by refine zeZ λy s=>?_;unfold zuK;rw[h.op y<|qR _ s];cases D:S.opnd y with|none=>rfl|some m=>exact zzL h (qR _ s) D);rw[v,g]};{rfl}};{rfl}};{rfl})
theorem zjM {o:Oper}:∀x∈callArgs o,x∈o.op.operands.toList:=by
 intro x a;unfold callArgs at a;split at a
 .rename_i c hc;rw[hc];simp only[Op.operands,Call.operands];simp
  first
   |exact .inr (by simpa using a)
   |exact .inl (by simpa using a)
   |simp_all
 {cases a}
theorem zuL {i:Nat}{o:Oper}{S S':St}{f:Foot}{s:Step}(h:At1 C ops base i o S f s)(A:S'.ep=S.ep)(w:∀k,f.reads k->S'.get k=S.get k):Does C ops base i o S' s:=by
 cases s with
 |none=>obtain⟨E,rfl⟩:=h;show zbQ ops o S'=some false;rw[zkf (S:=S) λt z=>zqM (w (.tm t) (by simpa [Foot.reads,zfa] using z))];exact E
 |some d=>
  obtain⟨E,M,N,rfl⟩:=h;have B:∀t,t∈zgw o++zkg ops o->S'.tm[t]?=S.tm[t]?:=λt z=>zqM (w (.tm t) z);have v:∀x∈o.op.operands.toList,S'.opnd x=S.opnd x:=(by intro x c;cases x with|tmp t=>have z:t∈zgw o:=(by unfold zgw;exact uB.2 ⟨_,c,rfl⟩);simp only[St.opnd,B t<|jS _ z]|_=>rfl);refine⟨?_,?_,N⟩;{rw [zkf (S:=S) λt z=>B t (j6 _ z)];exact E}
  .rw [<- M];cases b:zjx o with
   |true=>unfold zjx at b;split at b;{rename_i t g;have e:=v (.tmp t) (by rw[g];simp[Op.operands]);have L:delta C S' o (base+32*i)=delta C S o (base+32*i):=(by simp only[delta,g,e]);have H:zeq C o=none:=(by unfold zeq;rw[g]);unfold zev;rw[L];cases delta C S o (base+32*i) with|some K=>rfl|none=>simp only[ze3,H]};{cases b}
   |false=>
   have w:∀k,(zcL S ops o d).reads k\/(∃n,k = .ro n/\n∈(zcL S ops o d).ro++cond (zeq C o).isSome (zmq S o) [])->S'.get k=S.get k:=(by intro k j;refine w k ?_;rcases j with j|⟨n,rfl,u⟩;{cases k with|tm t=>exact j|ro n=>show n∈(zcD C S ops o d).ro;unfold zcD;rw[b];exact jS _ j|lo n=>show n∈(zcD C S ops o d).lo;unfold zcD;rw[b];exact j};{show n∈(zcD C S ops o d).ro;unfold zcD;rw[b];exact u});have F:∀x∈o.op.operands.toList,∀m,S.opnd x=some m->∀a∈zK m,a∈zh1 S o:=λx c m r a q=>(by unfold zh1;exact qN.2 ⟨m,uB.2 ⟨x,c,r⟩,q⟩);have I:Agree S S' o.op.operands.toList:=⟨A,v,λx c m r a q=>⟨λn u=>zmy (w (.ro n)<|.inl<|qN.2 ⟨a,F x c m r a q,u⟩),λn u=>zqL (w (.lo n)<|.inl<|qN.2 ⟨a,F x c m r a q,u⟩)⟩⟩;unfold zev;rw[zw2 I];cases O:delta C S o (base+32*i) with|some K=>rfl|none=>simp only;(cases J:zeq C o with|none=>simp only[ze3,J]|some y=>refine zv9 ⟨A,λx c=>v x (zjM x c),λx c m r a q=>I.id x (zjM x c) m r a q⟩ λx c l D P cells p a q n u=>?_;refine zmy (w (.ro n)<|.inr ⟨n,rfl,?_⟩);show n∈(zcL S ops o d).ro++cond (zeq C o).isSome (zmq S o) [];rw[J];refine j6 _ ?_;show n∈zmq S o;unfold zmq;refine qN.2 ⟨.lp l D,?_,?_⟩;{obtain⟨m,r,G⟩:∃m,S.opnd x=some m/\At.lp l D∈zK m:=⟨_,zrS P,by simp[zK,zn]⟩;exact F x (zjM x c) m r _ G};{simp only [p];exact qN.2 ⟨a,q,u⟩})
structure Free (C:Cfg) (ops:Array Oper) (cl:List (List Nat)) (b:Bool) (base a:Nat) (ss:List Step) (st0:St):Prop where
 at1:∀i s,ss[i]?=some s->∃o f,ops[a+i]?=some o/\At1 C ops base (a+i) o (zI ops b (fun j=>decide (j<a+i)) a ss st0) f s
 apart:∀i k s s' o o' f f',ss[i]?=some s->ss[k]?=some s'->ops[a+i]?=some o->ops[a+k]?=some o'->At1 C ops base (a+i) o (zI ops b (fun j=>decide (j<a+i)) a ss st0) f s->
  At1 C ops base (a+k) o' (zI ops b (fun j=>decide (j<a+k)) a ss st0) f' s'->i<k->a+i∉cl.getD (a+k) []->f.apart f'=true
def zez (a:List (List Nat))(X:Nat->Bool):Prop:=∀k,X k=true->∀j∈a.getD k [],X j=true
variable {cl:List (List Nat)} {ss:List Step} {st0:St} {a:Nat}
theorem zoT {i:Nat}{o:Oper}{S:St}{f a:Foot}{s:Step}(h:At1 C ops base i o S f s)(b:At1 C ops base i o S a s):f=a:=by cases s with|none=>rw[h.2,b.2]|some d=>rw[h.2.2.2,b.2.2.2]
theorem zqK (F:Free C ops cl b base a ss st0){X:Nat->Bool}(D:zez cl X){i:Nat}{s:Step}(y:ss[i]?=some s)(d:X (a+i)=false)(E:∀j∈cl.getD (a+i) [],X j=true) :
 ∃o f,ops[a+i]?=some o/\At1 C ops base (a+i) o (zI ops b (λj=>decide (j<a+i)) a ss st0) f s/\∀m,f.reads m->(zI ops b X a ss st0).get m=(zI ops b (λj=>decide (j<a+i)) a ss st0).get m:=by
 obtain⟨o,f,x,r⟩:=F.at1 i s y;refine⟨o,f,x,r,λm q=>?_⟩;refine zhf ss a st0 st0 rfl rfl (λk z B u l g G=>?_);obtain⟨H,A,n,t⟩:=F.at1 k z u;rw[l]at n;cases n;have p:=(zme t m).1 G
 by_cases v:k<i
 .have hXk:X (a+k)=false:=by have c:a+k<a+i:=(by omega);simp only[c,decide_true]at g;simpa using g
  have w:a+k∉cl.getD (a+i) []:=λh=>by rw[E (a+k) h]at hXk;cases hXk
  exact((apart_spec<|F.apart k i z s B o A f u y l x t r v w).1 m p).1 q
 .have hXk:X (a+k)=true:=by have c:¬ (a+k<a+i):=(by omega);simp only[c,decide_false]at g;simpa using g
  have c:i<k:=by have:i≠k:=λe=>(by rw[e,hXk]at d;cases d);omega
  have w:a+i∉cl.getD (a+k) []:=λh=>by rw[D (a+k) hXk (a+i) h]at d;cases d
  exact(apart_spec<|F.apart i k s z o B f A y u x l r t c w).2 m p q
theorem zAC (F:Free C ops cl b base a ss st0){X:Nat->Bool}(g:zez cl X){i:Nat}{s:Step}(l:ss[i]?=some s)(c:X (a+i)=false)(k:∀j∈cl.getD (a+i) [],X j=true) :
 ∃o,ops[a+i]?=some o/\Does C ops base (a+i) o (zI ops b X a ss st0) s:=by
 obtain⟨o,f,h,d,e⟩:=zqK F g l c k;exact⟨o,h,zuL d (by rw[zdC,zdC]) e⟩
theorem zvi (F:Free C ops cl b base a ss st0){X Y:Nat->Bool}(x:zez cl X){i:Nat}{s:Step}{o:Oper}(p:ss[i]?=some s)(n:ops[a+i]?=some o)(d:X (a+i)=false)(y:∀k,Y k=(X k||k==a+i))(c:Key) :
 (zI ops b Y a ss st0).get c=((zI ops b X a ss st0).step b o s).get c:=by
 refine zAz y n p (λk v B u e m l c A q=>?_) c;obtain⟨D,f,g,r⟩:=F.at1 i s p;rw[n]at g;cases g;obtain⟨E,w,j,t⟩:=F.at1 k v u;rw[e]at j;cases j;have z:a+i∉cl.getD (a+k) []:=λh=>by rw[x (a+k) l (a+i) h]at d;cases d
 exact((apart_spec<|F.apart i k s v o B f w p u n e r t m z).1 c ((zme r c).1 A)).2 ((zme t c).1 q)
theorem zyR {l:St}{o:Oper}{id i:Nat}{d:Dl}(j:ops[i]?=some o)(h:delta C l o id=some d)(a:zsO ops i=false)(g:(znI C&&zvo o)=false):d.bump=false:=by
 simp only[zsO,j]at a;cases b:o.op<;>simp only [b]at a<;>simp only [delta,b]at h;(case store=>cases a);case buildSlice=>cases a
 case call c=>
  split at h
  case h_4 e=>rw[e]at a;cases a
  all_goals (repeat' (first|split at h|cases h))
  all_goals rfl
 case slice T x lo hi mx=>
  cases mx with
  |some m=>simp at h
  |none=>
   cases lo with
   |none=>
    cases hi with
    |none=>(repeat' (first|contradiction|split at h|cases h));all_goals (first|rfl|contradiction|(exfalso;simp_all))
    |some f =>have e:znI C=false:=(by simp only[zvo,b,Bool.and_true]at g;exact g);(repeat' (first|contradiction|split at h|cases h));all_goals (first|(simp only [zo8,e,Bool.false_and];done)|rfl|contradiction|(exfalso;simp_all))
   |some k =>
    cases hi with
    |none=>cases a
    |some f =>(repeat' (first|contradiction|split at h|cases h));all_goals (first|rfl|contradiction|(exfalso;simp_all))
 case binOp=>
  simp only[zmt]at h
  repeat' (first|split at h|cases h)
  all_goals rfl
 (all_goals (repeat' (first|contradiction|split at h|cases h)));all_goals (first|rfl|contradiction)
theorem zw0 {f:St}{o:Oper}{id i:Nat}{d:Dl}(e:ops[i]?=some o)(h:zev C f o id=some d)(b:zeX C ops i=false):d.bump=false:=by unfold zeX at b;rw[uM]at b;unfold zev at h;cases c:delta C f o id with|some j =>rw[c]at h;cases h;have a:=b.2;rw[e]at a;have a:((zeq C o).isSome||(znI C&&zvo o))=false:=a;rw[uM]at a;exact zyR e c b.1 a.2|none=>rw[c]at h;exfalso;have a:=b.2;rw[e]at a;have a:((zeq C o).isSome||(znI C&&zvo o))=false:=a;rw[uM]at a;have a:=a.1;have h:ze3 C f o id=some d:=h;unfold ze3 at h;(cases g:zeq C o with|none=>rw[g]at h;cases h|some y=>rw[g]at a;cases a)
end
section
variable {C:Cfg} {w0 w w1:World} {S0:zq} {U:Nat->Prop} {st st1:St} {E E1:Env} {ts:Array Value} {sv:List (Array Value)}
variable {ops:Array Oper} {b:Bool} {base:Nat} {cl:List (List Nat)} {ss:List Step} {st0:St}
theorem zyQ {R a:Root}(h:zcJ b R=a)(c:a.ep=none):R=a:=by unfold zcJ at h;split at h;{subst h;cases c};{exact h}
theorem zAR {l:List (Nat×Root)}{n:Nat}{R:Root}(h:zf (l.map λ(x:Nat×Root)=>(x.1,zcJ b x.2)) n=some R):∃d,zf l n=some d/\zcJ b d=R:=by induction l with|nil=>cases h|cons a l e=>obtain⟨k,v⟩:=a;simp only[qZ,zf]at h ⊢;split at h;{cases h;rename_i c;rw[if_pos c];exact⟨v,rfl,rfl⟩};{rename_i c;rw[if_neg c];exact e h}
theorem zzg {l:List (Nat×Root)}{n:Nat}(h:zf (l.map λ(x:Nat×Root)=>(x.1,zcJ b x.2)) n=none):zf l n=none:=by induction l with|nil=>rfl|cons a l d=>obtain⟨k,v⟩:=a;simp only[qZ,zf]at h ⊢;split at h;{cases h};{rename_i c;rw[if_neg c];exact d h}
theorem zyC {o:Oper}{d:Dl}(J:b=false->d.bump=false)(K:b=true->Dead st/\0<st.ep)(y:Sim w0 S0 U (st.apply o.dst d) E ts sv w):Sim w0 S0 U (st.effD b o.dst d) E ts sv w:=by
 have A:∀t:Nat,(st.effD b o.dst d).tm[t]?=(st.apply o.dst d).tm[t]?:=λt=>(by unfold St.effD St.apply;cases o.dst<;>rfl);have B:(st.effD b o.dst d).lo=(st.apply o.dst d).lo:=(by unfold St.effD St.apply;cases o.dst<;>rfl);have C:(st.effD b o.dst d).stk=(st.apply o.dst d).stk:=(by unfold St.effD St.apply;cases o.dst<;>rfl);have D:(st.effD b o.dst d).ro=d.ro.map (λ(x:Nat×Root)=>(x.1,zcJ b x.2))++st.ro:=(by unfold St.effD;cases o.dst<;>rfl);have F:(st.apply o.dst d).ro=d.ro++st.ro:=(by unfold St.apply;cases o.dst<;>rfl);have v:(st.effD b o.dst d).ep=st.ep:=by unfold St.effD;cases o.dst<;>rfl
 have I:(st.apply o.dst d).ep=if d.bump then st.ep+1 else st.ep:=by
  unfold St.apply;cases o.dst<;>rfl
 cases b with
 |false=>have L:d.bump=false:=J rfl;have p:d.ro.map (λ(x:Nat×Root)=>(x.1,zcJ false x.2))=d.ro:=(by have:(λ(x:Nat×Root)=>(x.1,zcJ false x.2))=id:=(by funext x;rfl);rw[this,List.map_id]);have j:(st.effD false o.dst d).ro=(st.apply o.dst d).ro:=(by rw[D,F,p]);have m:(st.effD false o.dst d).ep=(st.apply o.dst d).ep:=(by rw[v,I,L];rfl);exact y.fewer A (λn=>by rw[B]) C (λn R h=>by simpa only [St.root,j,m] using h) (λn R h=>⟨R,by rw[<- j];exact h⟩) (λn R e h s=>by rw[m];exact y.mem.epo n R e (by rw[<- j];exact h) s)
 |true=>obtain⟨l,M⟩:=K rfl;have f:∀n R,zf (st.effD true o.dst d).ro n=some R->∃a,zf (st.apply o.dst d).ro n=some a/\(zcJ true a=R\/(a=R/\zf st.ro n=some R)):=(by intro n R h;rw[D,zM]at h;rw[F,zM];split at h;{rename_i x z;cases h;obtain⟨a,r,c⟩:=zAR z;exact⟨a,by rw[r],.inl c⟩};{rename_i z;rw[zzg z];exact⟨R,h,.inr ⟨rfl,h⟩⟩});have g:∀a:Root,(zcJ true a).ep=none\/(zcJ true a).ep=some 0:=(by intro a;cases H:a.ep with|none=>left;simp[zcJ,H]|some e=>right;simp[zcJ,H]);have q:∀n R,(st.effD true o.dst d).root n=some R->R.ep=none/\zf (st.effD true o.dst d).ro n=some R:=(by intro n R h;obtain⟨G,i⟩:=zbc h;refine⟨?_,G⟩;rcases i with i|i;{exact i};{exfalso;rw[v]at i;obtain⟨a,_,c⟩:=f n R G;rcases c with c|⟨_,c⟩;{have:=g a;rw[c,i] at this;rcases this with h|h;{cases h};{simp only [qB]at h;omega}};{have:=l n R _ c i;omega}});refine y.fewer A (λn=>by rw[B]) C (λn R h=>?_) (λn R h=>?_) (λn R e h s=>?_);{obtain⟨r,c⟩:=q n R h;obtain⟨a,u,k⟩:=f n R c;have e:a=R:=(by rcases k with k|⟨k,_⟩;{exact zyQ k r};{exact k});subst e;unfold St.root;rw[u];simp only[r]};{obtain⟨a,u,_⟩:=f n R h;exact⟨a,u⟩};{rw [v];obtain⟨a,_,c⟩:=f n R h;rcases c with c|⟨_,c⟩;{have:=g a;rw[c,s] at this;rcases this with h|h;{cases h};{simp only [qB]at h;omega}};{have:=l n R e c s;omega}}
def UX (U:Nat->Prop)(base a T:Nat)(X:Nat->Bool)(n:Nat):Prop:=U n\/∃i,a<=i/\i<T/\X i=true/\Mine (base+32*i) n
theorem Sim.uses {e:Nat->Prop}(h:Sim w0 S0 U st E ts sv w)(c:∀n,U n->e n):Sim w0 S0 e st E ts sv w :=
 ⟨h.mem,⟨λn R b=>c n (h.ids.ro n R b),λn g b=>⟨c n (h.ids.lo n g b).1,λa i m d=>c m ((h.ids.lo n g b).2 a i m d)⟩,λm d n b=>c n (h.ids.tm m d n b),λf j m d n b=>c n (h.ids.stk f j m d n b)⟩,h.tm,h.stk⟩
theorem zvc (u:CfgOk C)(y:CtrOk C)(x:GraftOk C)(r:Sim w0 S0 U st E ts sv w){o:Oper}{id:Nat}(g:∀n,Mine id n->¬ U n){d:Dl}(h:zev C st o id=some d)(s:d.c=true):Goes C w0 S0 U st ts sv w o id (λst=>st.apply o.dst d):=by unfold zev at h;cases l:delta C st o id with|some A =>rw[l]at h;cases h;exact zoc u y r g l s|none=>rw[l]at h;have e:∃a,znN C st o id=some (d.c,a,d.v)/\a.put o.dst d.v=st.apply o.dst d:=(by simp only[ze3]at h;unfold zeq callArgs at h;unfold znN;split at h;{rename_i own z i;split at i;{rename_i c t;split at i;{rename_i f b;have j:zrU o=f:=(by simp only[zrU,t,b]);rw[j]at h;simp only[t,b,i]at h ⊢;generalize c.args.toList=m at h ⊢;unfold zsV at h;unfold zv7;split at h;{split at h;{split at h;{split at h;{split at h;{split at h;{split at h;{split at h;{rename_i p _ _ q _ _ _ B _ _ D _ _ _ _ F _ _ G H;cases h;simp only[*];refine⟨_,rfl,?_⟩;unfold St.apply;simp[j4]};{cases h}};{cases h}};{cases h}};{cases h}};{cases h}};{cases h}};{cases h}};{cases h}};{cases i}};{cases i}};{cases h});obtain⟨a,p,q⟩:=e;have k:=(x.pok w0 w S0 U st E ts sv o id d.c a d.v r g p s).1;rw[q] at k;exact k
theorem ztw (S:CfgOk C)(W:CtrOk C)(V:GraftOk C){a T:Nat}(hT:a+ss.length=T)(F:Free C ops cl b base a ss st0){X Y:Nat->Bool}(M:zez cl X){i:Nat}(q:a<=i)(I:i<T)(l:X i=false)(hr:∀j∈cl.getD i [],X j=true)(hb:b=false->∀k,a<=k->k<T->zeX C ops k=false)(H:b=true->Dead st0/\0<st0.ep)(hM:∀k,a<=k->k<T->∀n,Mine (base+32*k) n->¬ U n)(G:∀k,Y k=(X k||k==i))(y:Sim w0 S0 (UX U base a T X) (zI ops b X a ss st0) E ts sv w){Q:Exit->Act->World->Prop}{K:Act->World->Prop}(Z:∀(r:Env) (c:Array Value) (g:World),Sim w0 S0 (UX U base a T Y) (zI ops b Y a ss st0) r c sv g->K {tmps:=c,defers:=[]} g) :
 wpOp C.P ops Q i K {tmps:=ts,defers:=[]} w:=by
 obtain⟨j,rfl⟩:∃j,i=a+j:=⟨i-a,by omega⟩
 obtain⟨s,N⟩:∃s,ss[j]?=some s:=⟨_,qC (by omega)⟩
 obtain⟨o,J,x⟩:=zAC F M N l hr;have f:∀n,UX U base a T X n->UX U base a T Y n:=by rintro n (h|⟨k,R,A,t,B⟩);{exact .inl h};{exact .inr ⟨k,R,A,by rw[G,t];rfl,B⟩}
 have u:∀{r:Env} {c:Array Value} {g:World},Sim w0 S0 (UX U base a T Y) ((zI ops b X a ss st0).step b o s) r c sv g->K {tmps:=c,defers:=[]} g:=by intro r c g h;refine Z r c g (h.same (λκ=>zvi F M N J l G κ) ?_ ?_);{rw [zhn,zwq,zhn]};{rw [zdC,zsZ,zdC]}
 unfold wpOp;simp only[J];cases s with
 |none=>rw[if_neg (by simp[zmz y x])];have t:=y.putV (dst:=o.dst) (m:=.und) (v:=undef) rfl (λn z=>by simp[MV.ids,zK]at z);rw[zd9];exact u (t.uses f)
 |some d=>obtain⟨A,t,B⟩:=x;rw[if_pos<|zmz y A];refine .inl (zvc S W V y (id:=base+32*(a+j)) ?_ t B _ _ λr v g D=>?_);{rintro n z (h|⟨k,_,g1,L,O⟩);{exact hM (a+j) q I n z h};{refine zx5 (i:=k) (j:=a+j) (λe=>?_) O z;rw[e,l] at L;cases L}};{rw [zd9];refine u ((zyC (λp=>zw0 J t (hb p (a+j) q I)) (λp=>?_) D).uses ?_);{subst p;exact⟨zk0 ss a st0 (H rfl).1 (H rfl).2,by rw[zdC];exact(H rfl).2⟩};{rintro n (h|h);{exact f n h};{exact .inr ⟨a+j,q,I,by rw[G];simp,h⟩}}}
end
section
variable {C:Cfg} {w0 w w1:World} {S0:zq} {U:Nat->Prop} {st st1:St} {E E1:Env} {ts:Array Value} {sv:List (Array Value)}
theorem zzh (t:Ty)(x:t.den):t.ofCells (t.cells x)=some x:=by cases t<;>first|rfl|simp[Ty.ofCells,Ty.cells]
theorem ztQ:∀(p:List (Int×Nat)) {t:Ty} {l:List t.den} {c:CV},zdq t l p=some c->∀m,zg1 t l p c=some m->m=l
 |[],t,l,c,h,m,a=>by simp only[zdq,qB]at h;subst h;simpa [zg1] using a.symm
 |(i,j)::p,t,l,c,h,m,a=>by
  simp only[zdq]at h;simp only[zg1]at a;split at h
  .rename_i t1 l1 hc;rw[hc]at a;simp only at a;split at a
   .rename_i l2 hl2;have:=ztQ p h l2 hl2;subst this;split at a
    .rename_i x hx;cases a;have f:j<(t.cells (ix l i t.dflt)).length:=(qA.1 hc).1;have e:splice (t.cells (ix l i t.dflt)) j [CV.s t1 l2]=t.cells (ix l i t.dflt):=zoF _ _ _ (by simp;omega) (fun k d=>by
      have:k=0:=by simpa using d
      subst this;simpa using hc)
     rw[e,zzh]at hx;cases hx;unfold up ix;apply kX;intro k;rw[qY];split;{rename_i d;subst d;split;{rename_i b;simp[List.getD,qC b]};{rename_i b;rw[List.getElem?_eq_none (by omega)]}};{rfl}
    {cases a}
   {cases a}
  {cases h}
theorem zCB {t:Ty}(c:t.flat=true):∀(q:List (Int×Nat)) (v u:Value),zu w t v q=some u->q=[]
 |[],_,_,_=>rfl
 |(i,j)::q,v,u,h=>by exfalso;cases v with|slice a len d=>(cases a with|none=>simp[zu]at h|some a=>simp only[zu]at h;split at h;{split at h;{rename_i e b;unfold Ty.flat at c;have:=qJ.1 c _ (qG b);simp at this};{cases h}};{cases h})|_=>simp[zu]at h
theorem zFL (hC:CfgOk C){T:TypeId}{t:Ty}(hT:C.sty T=some t)(hf:t.flat=true){v1 v2:Value}{d f:List t.den}{S1 S2:zq}(c3:Rep true w v1 (.s t d) S1)(c4:Rep false w v2 (.s t f) S2)(b8:f≠[])(d1:few (ln (ap d f))=true)(oT:TypeId) :
 ∃(v:Value) (E:World) (L Z r:Nat),(Builtin.append_ #[T,T] oT #[v1,v2]).run C.P w = .ok v E/\v = .slice (some ⟨L,Z,none⟩) (ap d f).length r/\Rep true E v (.s t (ap d f)) (fun x=>x=L)/\
  E.os=w.os/\E.tape=w.tape/\E.output=w.output/\
  ((L=w.heap.size/\E.heap.size=w.heap.size+1/\∀x,x<w.heap.size->E.heap[x]?=w.heap[x]?) \/
    ∃Y N,v1 = .slice (some ⟨L,Y,none⟩) d.length N/\S1 L/\E.heap.size=w.heap.size/\(∀x,x≠L->E.heap[x]?=w.heap[x]?)/\Rep true E v1 (.s t d) S1):=by
 obtain⟨e,hE⟩:=hC.sty T t hT;obtain⟨i,z,m,hs,hz,f3,d0⟩:=hE.info;obtain⟨f0,f1⟩:=zrZ d1;have d4:d.length+f.length<=2147483648:=by simp only[ln,ap,k8] at f1;omega
 have a3:(ap d f).length=d.length+f.length:=by simp[ap]
 cases c4 with
 |nil=>exact absurd rfl b8
 |void=>exact absurd rfl b8
 |sl _ _ b2 p F a2 e2 f7 V2 K2 _ d7 f5 e4 b5 f6 f8 f2 d9 d5 a5=>
 have e5:0<f.length:=k6.2 b8;have e7:f.length*t.width<=F*t.width:=qI _ b5;generalize V:(a2.toList.drop p).take (f.length*t.width)=a;have D:a.length=f.length*t.width:=by rw[<- V];simp;omega
 have a6:∀k,k<f.length*t.width->a[k]?=a2[p+k]?:=by intro k hk;rw[<- V,jI,if_pos hk,jM];simp
 have c1:∀j u,a[j]?=some u->w.cell? ((⟨b2,p,none⟩:Addr).add j)=some u:=by intro j u hu;have B:j<f.length*t.width:=(by rw[<- D];exact(qA.1 hu).1);rw[add_lit,cell_of_block d7,<- a6 j B];exact hu
 have I:∀i j,i<f.length->j<t.width->i*t.width+j<f.length*t.width:=by intro i j m B;have:(i+1)*t.width<=f.length*t.width:=qI _ m;rw[jA] at this;omega
 have c2:∀i j,i<f.length->j<t.width->a[i*t.width+j]?=some (V2 i j):=by intro i j m B;rw[a6 _ (I i j m B),<- kT];exact d5 i j m B
 have d6:=znt t;have e8:∀u∈a,u.oneCell'=true:=by intro u hu;obtain⟨k,hk⟩:=qQ.1 hu;have e3:k<f.length*t.width:=(by rw[<- D];exact(qA.1 hk).1);have a1:k / t.width<f.length:=(Nat.div_lt_iff_lt_mul d6).2 e3;have d3:k % t.width<t.width:=Nat.mod_lt _ d6;have:=c2 _ _ a1 d3;rw[Nat.mul_comm,Nat.div_add_mod,hk] at this;cases this;have J:=qC a1;have y:(t.cells (f[k / t.width]'a1))[k % t.width]?=some ((t.cells (f[k / t.width]'a1))[k % t.width]'(by rw[zbu];exact d3)):=qC _;exact(a5 _ _ J _ _ y).one
 have U:∀(w1:World) i x,f[i]?=some x->∀j c,(t.cells x)[j]?=some c->Rep true w1 (V2 i j) c (fun _=>False):=fun w1 i x J j c y=>(a5 i x J j c y).flat (zjk hf y);have W:∀i j,i<d.length->j<t.width->i*t.width+j<d.length*t.width:=by intro i j m B;have:(i+1)*t.width<=d.length*t.width:=qI _ m;rw[jA] at this;omega
 have a0:(d.length+f.length)*i.bytes<=140737488355328:=by have:=kQ d4 d0;omega
 have b0:z.cells.size=t.width:=by rw[<- j5,f3];simp[zcn]
 have O:∀(g:List Value) (A:Nat) (V1:Nat->Nat->Value) (zs:Array Value),g.length=d.length*t.width->d.length+f.length<=A->zs.size=(A-(d.length+f.length))*t.width->
  (∀i j,i<d.length->j<t.width->g[i*t.width+j]?=some (V1 i j))->
  (∀i x,d[i]?=some x->∀j c,(t.cells x)[j]?=some c->∃S,Rep true w (V1 i j) c S)->
  (Builtin.append_ #[T,T] oT #[v1,.slice (some ⟨b2,p,none⟩) f.length F]).run C.P w = .ok (.slice (some ⟨w.heap.size,0,none⟩) (d.length+f.length) A) (w.drew.alloc (.cells (g.toArray++a.toArray++zs) e (0,0)))->
  ∃(v:Value) (E:World) (L Z r:Nat),(Builtin.append_ #[T,T] oT #[v1,.slice (some ⟨b2,p,none⟩) f.length F]).run C.P w = .ok v E/\v = .slice (some ⟨L,Z,none⟩) (ap d f).length r/\Rep true E v (.s t (ap d f)) (fun x=>x=L)/\
  E.os=w.os/\E.tape=w.tape/\E.output=w.output/\
  ((L=w.heap.size/\E.heap.size=w.heap.size+1/\∀x,x<w.heap.size->E.heap[x]?=w.heap[x]?) \/
    ∃Y N,v1 = .slice (some ⟨L,Y,none⟩) d.length N/\S1 L/\E.heap.size=w.heap.size/\(∀x,x≠L->E.heap[x]?=w.heap[x]?)/\Rep true E v1 (.s t d) S1):=by
  intro g A V1 zs G b4 f4 e9 d8 M;generalize n:w.drew.alloc (.cells (g.toArray++a.toArray++zs) e (0,0))=w1 at M;have c5:∀x,x<w.heap.size->w1.heap[x]?=w.heap[x]?:=fun x J=>by rw[<- n];exact heap_alloc_old w.drew _ x J
  have c6:w1.heap.size=w.heap.size+1:=by rw[<- n];simp
  refine⟨_,w1,w.heap.size,0,A,M,by rw[a3],?_,by rw[<- n];rfl,by rw[<- n];rfl,by rw[<- n];rfl,.inl ⟨rfl,c6,c5⟩⟩
  refine Rep.join (arr:=g.toArray++a.toArray++zs) (e:=e) (V1:=V1) (V2:=V2) (K1:=fun _ _ _=>False) (K2:=fun _ _ _=>False) ?_ (by simp only[big];omega) b4 ?_ rfl ?_ ?_ ?_ (U w1) (fun _ _ _ _ _ h=>h.elim) (fun _ _ _ _ _ h=>h.elim) (fun _ _ _ _ _ _ _ _ _ h=>h.elim) (fun _ _ _ _ _ _ _ _ _ h=>h.elim) (fun _ _ _ _ _ _ _ _ _ h=>h.elim)
  .rw [<- n];exact heap_alloc_new w.drew _
  .simp only [Array.size_append,jR,G,D,f4,<- kI];have:d.length+f.length+(A-(d.length+f.length))=A:=by omega
   rw[this];omega
  .intro i j m B;have:=W i j m B;rw[jQ,k9,jW (by simp[G];exact this)]
   simpa using e9 i j m B
  .intro i j m B;have:=I i j m B;rw[jQ,kI,k9,j8 (by simp[G];omega),jW (by simp[G,D];omega)]
   rw[<- c2 i j m B];simp only[jR,G,q9]
   congr 1
   omega
  .intro i x J j c y;obtain⟨S,M⟩:=d8 i x J j c y;exact M.flat (zjk hf y)
 cases c3 with
 |nil=>
  have M:=run_append_nil (P:=C.P) w T oT e i z hE.und m hz ⟨b2,p,none⟩ f.length F a (by rw[hs];exact D) c1 e5 (by omega) (by
   have:=kQ (show f.length<=2147483648 by omega) d0
   omega)
  have b7:=grownCap_ge w f.length 0 e;refine O [] (grownCap w f.length 0 e) (fun _ _=>undef) (Builtin.zeroCells z.cells (grownCap w f.length 0 e-f.length)) (by simp) (by simpa using b7) (by simp[size_zeroCells,b0]) (fun i j m=>by simp at m) (fun i x J=>by simp at J) ?_;rw[M];simp
 |void _ _ _ ho=>cases ho
 |sl _ _ b l r q e1 fz V1 K1 _ hb e0 b9 Q a9 c8 c7 b6 X R=>
  have d2:=e0 rfl;subst d2;have e6:d.length*t.width<=r*t.width:=qI _ Q;by_cases H:d.length+f.length<=r;{have c0:(d.length+f.length)*t.width<=r*t.width:=qI _ H;rw[kI]at c0;have M:=run_append_room' (P:=C.P) (w:=w) T oT e i hE.und m b l d.length r q e1 hb ⟨b2,p,none⟩ f.length F a (by rw[hs];exact D) c1 e8 H (by rw[hs,D];omega);rw[hs]at M;have b3:l+d.length*t.width+a.length<=q.toList.length:=(by rw[D];simp;omega);generalize n:w.setRow b (splice q.toList (l+d.length*t.width) a).toArray=w1 at M;have c9:w1.heap[b]?=some (.cells (splice q.toList (l+d.length*t.width) a).toArray e1 (0,0)):=(by rw[<- n];exact setRow_heap w b _ _ e1 _ hb);have a8:∀x,x≠b->w1.heap[x]?=w.heap[x]?:=fun x J=>(by rw[<- n];exact setRow_other w b x _ J);have a4:(splice q.toList (l+d.length*t.width) a).toArray.size=q.size:=(by rw[jR,zc0 _ _ _ b3];simp);have K:∀k,k<l+d.length*t.width->(splice q.toList (l+d.length*t.width) a).toArray[k]?=q[k]?:=(by intro k hk;rw[q9,zb5 _ _ _ b3 k (.inl hk)];simp);have b1:Rows true w t d q l b V1 K1 S1:=⟨c7,b6,X,R⟩;obtain⟨k1,_⟩:=Rep.behind (w1:=w1) b9 Q a9 c8 b1 hb c9 a4 K a8;refine⟨_,w1,b,l,r,M,by rw[a3],?_,by rw[<- n];rfl,by rw[<- n];rfl,by rw[<- n];rfl,.inr ⟨l,r,rfl,c8,by rw[<- n];simp,a8,k1⟩⟩;refine Rep.join (arr:=(splice q.toList (l+d.length*t.width) a).toArray) (e:=e1) (V1:=V1) (V2:=V2) (K1:=fun _ _ _=>False) (K2:=fun _ _ _=>False) c9 (by simp only[big];omega) H (by rw[a4];exact a9) rfl ?_ ?_ ?_ (U w1) (fun _ _ _ _ _ h=>h.elim) (fun _ _ _ _ _ h=>h.elim) (fun _ _ _ _ _ _ _ _ _ h=>h.elim) (fun _ _ _ _ _ _ _ _ _ h=>h.elim) (fun _ _ _ _ _ _ _ _ _ h=>h.elim);{intro i j m B;have:=W i j m B;rw[K _ (by omega)];exact X i j m B};{intro i j m B;have:=I i j m B;rw[q9,kI,zcd _ _ _ b3 _ (by omega) (by rw[D];omega),<- c2 i j m B];congr 1;omega};{intro i x J j c y;exact(R i x J j c y).flat (zjk hf y)}}
  .generalize holds:(q.toList.drop l).take (d.length*t.width)=g;have G:g.length=d.length*t.width:=(by rw[<- holds];simp;omega);have a7:∀k,k<d.length*t.width->g[k]?=q[l+k]?:=by intro k hk;rw[<- holds,jI,if_pos hk,jM];simp
   have M:=run_append_grow (P:=C.P) w T oT e i z hE.und m hz ⟨b,l,none⟩ d.length r g (by rw[hs];exact G) (fun j u hu=>by
    have B:j<d.length*t.width:=by rw[<- G];exact(qA.1 hu).1
    rw[add_lit,cell_of_block hb,<- a7 j B];exact hu) ⟨b2,p,none⟩ f.length F a (by rw[hs];exact D) c1 (by omega) (by omega) (growslice_fits (by omega) a0)
   have b7:=grownCap_ge w (d.length+f.length) r e;refine O g _ V1 _ G b7 (by rw[size_zeroCells,b0]) (fun i j m B=>?_) (fun i x J j c y=>⟨_,R i x J j c y⟩) M;have:(i+1)*t.width<=d.length*t.width:=qI _ m;rw[jA] at this;rw[a7 _ (by omega),<- kT];exact X i j m B
end
section
variable {C:Cfg} {w0 w w1:World} {S0:zq} {U:Nat->Prop} {st st1 st':St} {E E1:Env} {ts:Array Value} {sv:List (Array Value)}
def Late (w0:World)(st:St)(E:Env)(x:App)(v:Value)(w:World):Prop :=
 ∃(f e d g:Nat) (R:Root),w0.heap.size<=f/\(∀q Q,st.root q=some Q->∀y,E.φ q y->y<f)/\(∀l h,zf st.lo l=some h->E.β l<f)/\
  v = .slice (some ⟨e,d,none⟩) x.l.length g/\Rep true w v (.s x.t x.l) (λy=>y=e)/\st.root x.r=some R/\
  (f<=e\/∃c b a,zu w R.t (E.ρ x.r) x.p=some (.slice (some ⟨e,c,none⟩) b a))
theorem Late.states {x:App}{v:Value}(h:Late w0 st E x v w)(d:∀n,st'.root n=st.root n)(s:∀n,zf st'.lo n=zf st.lo n):Late w0 st' E x v w:=by obtain⟨t,e,a,b,R,g,i,j,k,m,p,r⟩:=h;exact⟨t,e,a,b,R,g,λq Q c=>i q Q (by rw[<- d];exact c),λl f c=>j l f (by rw[<- s];exact c),k,m,by rw[d];exact p,r⟩
theorem zoG {r:Nat}(a:At):zbH r [] a=a:=by cases a<;>simp [zbH,coarse]
theorem zoH {r:Nat}(m:MV):zcV r [] m=m:=by have h:zbH r []=id:=funext λa=>zoG a;have c:∀x,zfr r [] x=x:=λx=>(by cases x<;>simp [zfr,h]);have b:zfr r []=id:=funext c;cases m<;>simp [zcV,c,b]
theorem zAN (h:Dead st){n:Nat}{R:Root}(c:st.root n=some R):R.ep=none:=by obtain⟨b,a⟩:=zbc c;rcases a with a|a;{exact a};{have:=h n R _ b a;omega}
theorem zBe {v:Value}{t:Ty}{l:List t.den}{S:zq}{b off n a:Nat}(h:Rep true w v (.s t l) S)(e:v = .slice (some ⟨b,off,none⟩) n a):b<w.heap.size/\S b:=by cases h with|nil=>cases e|void _ _ _ f=>cases f|sl _ _ g _ _ _ _ _ _ _ _ d _ _ _ _ c=>cases e;exact⟨(qK.1 d).1,c⟩
theorem zCM (hC:CfgOk C)(k:Sim w0 S0 U st E ts sv w)(hd:Dead st){o:Oper}{x:App}(h:zhb C st o=some (true,x)) :
 o.guard=none/\o.dst=some x.dst/\∃(v:Value) (f:World),(execOp ({tmps:=ts,defers:=[]}:Act).eval o).run C.P w = .ok (.value v) f/\
  Sim w0 S0 U (st.put o.dst<|.v<|.at .bad) E (({tmps:=ts,defers:=[]}:Act).put o.dst v).tmps sv f/\Late w0 st E x v f:=by
 unfold zhb at h;split at h
 .rename_i c d ho hdst hgu;split at h
  .rename_i hcb;split at h
   .rename_i a0 y0 T T2 hca hct;split at h
    .rename_i hTT;subst hTT;split at h
     .rename_i t r a p r2 p2 hT h1 h2;split at h
      .rename_i R cv1 cv2 hR hn1 hn2;split at h
       .rename_i hcond;simp only[qD,jF,beq_eq_false_iff_ne]at hcond;obtain⟨⟨H,a2⟩,b9⟩:=hcond;split at h
        .rename_i m t2 y2 l2' hm;simp only[qB,jH]at h;obtain⟨a1,rfl⟩:=h;refine⟨hgu,hdst,?_⟩;obtain⟨l1,l2,e1,e2,rfl⟩:=zlE hm;subst e1;have b2:l2≠[]:=by intro e;subst e;cases e2
         rw[e2]at hn2
         clear e2
         generalize c0:a::p=pp at h1 hn1;have j:=k.mem;obtain⟨hx,_⟩:=zJ k h1;obtain⟨hy,_⟩:=zJ k h2;have hh:=hx.2 R hR;have i:=j.rep r R hR;rw[H]at i;obtain⟨t',l0,S1,f1,f2,f3,f4,f5⟩:=Rep.focus pp i hh;have a3:zdq R.t R.l pp=some (.s t l1):=by obtain⟨R',W,b1⟩:=zcE hn1;rw[hR]at W;cases W;exact b1
         rw[a3] at f1;cases f1;obtain⟨R2,S2,b7,g1,g2,g3,g4⟩:=zi3 k hy hn2;obtain⟨v,f,bv,K,S,a5,hv,I,a4,a6,G,L⟩:=zFL hC hT a2 f3 g3.ro b2 a1 o.type;have X:c.args = #[a0,y0]:=by rw[<- hca]
         have Y:c.argTypes = #[T2,T2]:=by rw[<- hct]
         have g:(execOp ({tmps:=ts,defers:=[]}:Act).eval o).run C.P w = .ok (.value v) f:=by simp[execOp,ho,resolve,hcb,invoke,builtin,X,Y,a5]
         have a7:∀l cs,zf st.lo l=some cs->E.β l<w.heap.size:=by intro l cs h;obtain⟨_,b6,e,h2,_⟩:=j.loc l cs h;exact(qK.1 h2).1
         rcases L with⟨b8,b4,O⟩|⟨a8,V,b5,B,b4,F,N⟩
         .obtain⟨hM',hT'⟩:=j.addRoots k.ids.mem (dro:=[]) (w1:=f) (E1:=E) a4 a6 G (by omega) O (λq Q b=>by cases b) (λq Q _ _ b=>by cases b) (λ_ _=>⟨rfl,rfl,rfl⟩)
          refine⟨v,f,g,Sim.next k (st1:=st) hM' hT' rfl rfl (λ_ h=>h) k.ids.ro k.ids.lo trivial (λn hn=>by simp[MV.ids,zK,zn,At.ids,zD,zG]at hn),?_⟩
          exact⟨w.heap.size,bv,K,S,R,j.size,λq Q b y hy=>j.rlt q Q b y hy,a7,hv,I,hR,.inl (by omega)⟩
         .obtain⟨m,hm1,hrm,hh1,hh2⟩:=f5 f l1 S1 (λz _ M=>F z λe=>M (e ▸ B)) (λ_ h _=>h) N;have b3:=ztQ pp a3 m hm1;subst b3;obtain⟨_,_,_,_,a9⟩:=f5 w l1 S1 (λ_ _ _=>rfl) (λ_ h _=>h) f3;have D:∀q u,zu w R.t (E.ρ r) q=some u->zu f R.t (E.ρ r) q=some u:=by intro q u b;refine hh1 q u b (λq' Z=>?_);subst Z;rw[a9]at b;exact zCB a2 q' _ _ b
          have J:=zol (w1:=f) (m:=R.l) (js:=[]) (S3:=E.φ r) k hR H a4 a6 G (by omega) (λz hz M=>F z λe=>M (f4 z<|e ▸ B)) (λz hz=>⟨.inl hz,by have:=j.rlt r R hR z hz;omega⟩) (hrm.weak λz hz=>by
           rcases hz with⟨h,_⟩|h
           .exact h
           .exact f4 z h) (λq u b _=>D q u b)
          have hE:({E with φ:=λn=>if n=r then E.φ r else E.φ n}:Env)=E:=by
           have:(λn=>if n=r then E.φ r else E.φ n)=E.φ:=by
            funext n
            split
            .rename_i e;rw[e]
            .rfl
           rw[this]
          rw[hE]at J;have b0:Sim w0 S0 U st E ts sv f:=by refine J.fewer (λt=>?_) (λn=>?_) ?_ (λn Q A=>?_) (λn Q A=>?_) (λn Q e A Z=>j.epo n Q e A Z);{simp only [zdL,qM];cases st.tm[t]? <;> simp [zoH]};{simp only [zdL];rw[zeM];have:zbH r []=id:=funext λa=>zoG a;cases zf st.lo n<;>simp [this]};{simp only [zdL];have:zcV r []=id:=funext λa=>zoH a;simp[this]};{have Z:=zAN hd A;obtain⟨q1,_⟩:=zbc A;refine zdd ?_ (.inl Z);simp only[zdL,zf];split;{rename_i hb;simp only[qH]at hb;subst hb;rw[hR]at A;cases A;rfl};{exact q1}};{simp only [zdL,zf];split;{exact⟨_,rfl⟩};{exact⟨Q,A⟩}}
          refine⟨v,f,g,b0.putV trivial (λn hn=>by simp[MV.ids,zK,zn,At.ids,zD,zG]at hn),?_⟩
          refine⟨w.heap.size,bv,K,S,R,j.size,λq Q b y hy=>j.rlt q Q b y hy,a7,hv,I,hR,.inr ⟨a8,l1.length,V,?_⟩⟩;refine D pp _ ?_;rw[hh,b5]
        .cases h
       .cases h
      .cases h
     .cases h
    .cases h
   .cases h
  .cases h
 .cases h
theorem zy9 (hC:CfgOk C)(hS:Sim w0 S0 U st E ts sv w){o:Oper}{id:Nat}{x:App}{v:Value}{b4:St}(hL:Late w0 st E x v w)(g0:ts[x.dst]?=some v)(h:zmO C st o x=some (true,b4)) :
 o.guard=none/\Goes C w0 S0 U st ts sv w o id (λ_=>b4.put o.dst .und)/\b4.nid=st.nid:=by
 unfold zmO at h;split at h
 .rename_i T a d ho hgu;split at h
  .rename_i t1 r p i off hT ha;split at h
   .rename_i R t l c hRr L hsp;split at h
    .rename_i hcond;simp only[qD,jC,Nat.beq_eq_true_eq]at hcond;obtain⟨⟨⟨a4,a9⟩,b2⟩,G⟩:=hcond;have a9:=kK a9;have b2:=kK b2;subst a9 b2;split at h
     .rename_i l' hset;split at h
      .rename_i m hput;simp only[qB,jH]at h;obtain⟨rfl,rfl⟩:=h;refine⟨hgu,?_,rfl⟩;have f7:=zhK hsp;obtain⟨n0,X,g7,g3,R',e8,Q,e7,c6,P,M,S⟩:=hL;rw[hRr]at M;cases M;obtain⟨d0,g8⟩:=zJ hS ha;obtain⟨b,o2,len,c8,h0,e1,e2,e3,Y,e5⟩:=d0.2 R hRr;have hM:=hS.mem;have a5:=hM.rep _ R hRr;rw[a4]at a5;obtain⟨t',l0,S1,f1,f2,f3,f4,f5⟩:=Rep.focus p a5 e1;have d7:zdq R.t R.l p=some (.s t l):=by obtain⟨R',M,d6⟩:=zcE L;rw[hRr]at M;cases M;exact d6
       rw[d7] at f1;cases f1;rw[e2] at f2;cases f2;obtain⟨_,_,_,_,b5⟩:=f5 w l S1 (λ_ _ _=>rfl) (λ_ h _=>h) f3;cases f3 with
       |void _ _ _ ho=>cases ho
       |sl _ _ _ _ _ a6 e' fz V K _ hb d5 b0 a0 c5 a7 A a1 c7 b8=>
       have b9:=d5 rfl;subst b9;have N:Rows true w t l a6 o2 b V K S1:=⟨A,a1,c7,b8⟩;have a3:v.oneCell'=true:=by rw[c6];rfl
       have B:v.cells = #[v]:=cells_one a3;have O:off+[v].length<=t.width:=by simp;omega
       have c3:(i.toNat+1)*t.width<=c8*t.width:=qI _ (by omega)
       rw[jA]at c3;have H:=zgD (w:=w) (v:=v) (off:=o2+i.toNat*t.width+off) (hC.cty T false [.s t1] hT) hb (by rw[B];rfl) (by simp;omega) (by rw[B];intro u hu;simp at hu;rw[hu];exact a3)
       rw[B]at H;have e6:(#[v]:Array Value).toList=[v]:=rfl;rw[e6]at H;generalize J:w.setRow b (splice a6.toList (o2+i.toNat*t.width+off) [v]).toArray=w1 at H;have b7:w1.heap[b]?=some (.cells (splice a6.toList (o2+i.toNat*t.width+off) [v]).toArray e' (0,0)):=by rw[<- J];exact setRow_heap w b _ _ e' _ hb
       have D:∀y,y≠b->w1.heap[y]?=w.heap[y]?:=λy z=>by rw[<- J];exact setRow_other w b y _ z
       have c2:E.φ x.r b:=f4 b a7;have g9:b<n0:=Q _ R hRr b c2;have a2:∀F j,F<l.length->j<t.width->¬ Hit i.toNat off [v].length F j->∀y,K F j y->w1.heap[y]?=w.heap[y]?:=λF j I hj _ y z=>D y ((A F j y I hj z).2 rfl)
       have a8:n0<=X\/K i.toNat off X:=by rcases S with h|⟨g6,g5,g2,h⟩;{exact .inl h};{right;rw[<- f7,b5]at h;simp only[zu]at h;rw[if_pos ⟨e3,Y⟩]at h;split at h;{rename_i t3 f9;rw[cell_of_block hb,c7 i.toNat off Y G]at h;simp only[qB]at h;obtain⟨c,hc,d3⟩:=zlw (x:=ix l i t.dflt) f9;obtain⟨l3,rfl⟩:=zfe d3;have c1:=b8 i.toNat _ (zfl Y) off _ hc;rw[h]at c1;cases c1 with|void _ _ _ ho=>cases ho|sl _ _ _ _ _ _ _ _ _ _ _ _ _ _ _ _ c9=>exact c9};{cases h}}
       have Z:X≠b:=by rcases a8 with h|h;{omega};{exact(A _ _ X Y G h).2 rfl}
       have b3:=Rep.setCells (w:=w) (w1:=w1) (us:=[v]) (Kn:=λ_ y=>y=X) b0 a0 c5 N Y rfl O hset b7 (λk c u hc hu=>by
        cases k with
        |zero=>simp only[qF,qB]at hc hu;subst hc hu;exact P.frame (λy z=>D y (by rw[z];exact Z))
        |succ k=>simp at hc)
        a2
        (λk y _ z=>by rw[z];exact Z)
        (λk k' y hk e0 _ _=>by simp at hk e0;omega)
        (λk y F j hk z I hj e9 W=>by
         subst z;rcases a8 with h|h
         .have:=Q _ R hRr y (f4 y (A F j y I hj W).1);omega
         .have:=a1 rfl _ _ _ _ y Y G I hj h W;exact e9 ⟨this.1.symm,by omega,by simp;omega⟩)
       have b6:∀y,(y=b\/(∃F j,F<l.length/\j<t.width/\¬ Hit i.toNat off [v].length F j/\K F j y)\/∃k,k<[v].length/\y=X)->S1 y\/(n0<=y/\y=X):=by intro y z;rcases z with rfl|⟨F,j,I,hj,_,hk⟩|⟨k,hk,rfl⟩;{exact .inl a7};{exact .inl (A F j y I hj hk).1};{rcases a8 with h|h;{exact .inr ⟨h,rfl⟩};{exact .inl (A _ _ _ Y G h).1}}
       obtain⟨m',c0,f8,d8,d9⟩:=f5 w1 l' _ (λy z b1=>D y λe=>b1 (e ▸ a7)) (λy z W=>by
        rcases b6 y z with h|⟨h,_⟩
        .exact h
        .have:=Q _ R hRr y W;omega) b3
       rw[hput]at c0;cases c0;have g4:w1.heap.size=w.heap.size:=by rw[<- J];simp
       have d1:X<w.heap.size:=(zBe P c6).1;have c4:=zmL (w1:=w1) (m:=m) (js:=[cols p++[off]]) e8 Q e7 hS hRr a4 (by rw[<- J];rfl) (by rw[<- J];rfl) (by rw[<- J];rfl) (by omega) (λy _ b1=>D y λe=>b1 (e ▸ c2)) (λy z=>by
        rcases z with⟨z,_⟩|z
        .exact⟨.inl z,by have:=hM.rlt _ R hRr y z;omega⟩
        .rcases b6 y z with h|⟨h,rfl⟩
         .exact⟨.inl<|f4 y h,by have:=hM.rlt _ R hRr y (f4 y h);omega⟩
         .exact⟨.inr h,by omega⟩) f8 (λq u hq f6=>by
        rcases zh4 p q with⟨q',rfl⟩|f0
        .rw [d9 q'];rw[b5 q']at hq;refine zgl (us:=[v]) a0 c5 N hb Y rfl O hset b7 a2 q' (λF j g1 he k c hj d2=>?_) D hq;subst he hj;cases k with
         |succ k=>simp at d2
         |zero=>exfalso;have h9:=kF.1 f6 (cols p++[off]) (by simp);exact absurd (zhd p F off g1) h9
        .exact d8 q u hq λq' he=>absurd ⟨q',he⟩ f0)
       have g:=c4.putV (dst:=o.dst) (m:=.und) (v:=undef) rfl (λn L=>by simp[MV.ids,zK]at L)
       refine zjm (w':=w1) ?_ ⟨g.mem,⟨λn R L=>.inl (g.ids.ro n R L),λn cs L=>⟨.inl (g.ids.lo n cs L).1,λa ha m hm=>.inl ((g.ids.lo n cs L).2 a ha m hm)⟩,λm hm n L=>.inl (g.ids.tm m hm n L),λf hf m hm n L=>.inl (g.ids.stk f hf m hm n L)⟩,g.tm,g.stk⟩;have d4:({tmps:=ts,defers:=[]}:Act).eval (.tmp x.dst)=v:=by simp[Act.eval,g0]
       simp[execOp,ho,Instr.storeAt,e5,Instr.sureAddr,d4,H]
      .cases h
     .cases h
    .cases h
   .cases h
  .cases h
 .cases h
end
section
variable {C:Cfg} {w0 w w1:World} {S0:zq} {U:Nat->Prop} {st st1:St} {E E1:Env} {ts:Array Value} {sv:List (Array Value)}
variable {ops:Array Oper} {b:Bool} {base:Nat} {cl:List (List Nat)} {ss:List Step} {st0:St}
theorem zqU {w b:World}(h:b.heap=w.heap):∀(p:List (Int×Nat)) (t:Ty) (v:Value),zu b t v p=zu w t v p
 |[],t,v=>by simp only[zu]
 |(i,j)::p,t,v=>by have d:∀a,b.cell? a=w.cell? a:=λa=>(by simp only[World.cell?,h]);have e:=zqU h p;cases v with|slice a len c=>cases a<;>simp only [zu,d,e]|_=>simp only[zu]
theorem Sim.heap (g:Sim w0 S0 U st E ts sv w){w':World}(d:w'.heap=w.heap)(v:w'.os=w.os)(y:w'.tape=w.tape)(z:w'.output=w.output):Sim w0 S0 U st E ts sv w':=by
 have T:Trans st E w st E w' (λ_=>True):=⟨λr _ R h=>⟨R,h,rfl,λp u i=>by rw[zqU d];exact i⟩,λl _ k h=>⟨⟨k,h⟩,rfl⟩,rfl⟩
 have a:=g.mem;refine⟨⟨by rw[v];exact a.os,by rw[y];exact a.tape,by rw[z];exact a.output,by rw[d];exact a.size,λb A C=>by rw[d];exact a.keep b A C,
  λr R h=>(a.rep r R h).frame (λx _=>by rw[d]),λr R h x D=>by rw[d];exact a.rlt r R h x D,a.mine,a.frz,a.apart,λl k B=>?_,a.linj,a.lro,a.epo,a.κ⟩,g.ids,
  Slots.tr T (λ_ _ _ _=>trivial) g.tm,Stack.tr T (λ_ _ _ _ _ _=>trivial) g.stk⟩
 obtain⟨q,f,e,s,t,m⟩:=a.loc l k B;exact⟨q,f,e,by rw[d];exact s,t,λj c u n i=>⟨(m j c u n i).1,VA.tr T (λ_ _=>trivial) (m j c u n i).2⟩⟩
theorem Sim.blind (d:Sim w0 S0 U st E ts sv w)(c:Bool)(n:Nat):Sim w0 S0 U {st with nid:=n,ep:=if c then st.ep+1 else st.ep} E ts sv w:=by
 have h:=d.nid n;cases c with
 |false=>exact h
 |true=>refine h.fewer (λ_=>rfl) (λ_=>rfl) rfl (λr R b=>?_) (λr R b=>⟨R,b⟩) (λr R e b i=>?_);{obtain⟨f,a⟩:=zbc b;have j:R.ep=none:=(by rcases a with a|a;{exact a};{have:=d.mem.epo r R _ f a;simp only[if_true] at this;omega});show St.root {st with nid:=n} r=some R;unfold St.root;have g:zf ({st with nid:=n}:St).ro r=some R:=f;rw[g];simp only[j]};{have:=d.mem.epo r R e b i;show e<=st.ep+1;omega}
theorem cnt_lt {p q:Nat->Bool}:∀(l:List Nat),(∀x∈l,q x=true->p x=true)->(∃x∈l,p x=true/\q x=false)->l.countP q<l.countP p
 |[],_,h=>by obtain⟨x,b,_⟩:=h;cases b
 |a::l,e,g=>by
  have f:∀(m:List Nat),(∀x∈m,q x=true->p x=true)->m.countP q<=m.countP p:=λm i=>List.countP_mono_left i;have i:=f l (λx b=>e x (by simp[b]))
  simp only[kS];cases j:q a with
  |true=>
   rw[e a (by simp) j]
   have:l.countP q<l.countP p:=cnt_lt l (λx b=>e x (by simp[b])) (by
    obtain⟨x,b,c,d⟩:=g;rcases qL.1 b with rfl|b
    .rw [j] at d;cases d
    .exact⟨x,b,c,d⟩)
   simp only[if_true];omega
  |false=>
   cases k:p a with
   |true=>simp;omega
   |false=>
    have:l.countP q<l.countP p:=cnt_lt l (λx b=>e x (by simp[b])) (by
     obtain⟨x,b,c,d⟩:=g;rcases qL.1 b with rfl|b
     .rw [k] at c;cases c
     .exact⟨x,b,c,d⟩)
    simp;omega
def left (n:Nat)(listed:Array Bool):Nat:=(List.range n).countP λi=>!listed.getD i true
theorem zpC {listed:Array Bool}{n i:Nat}(e:i<n)(c:listed.getD i true=false):left n (listed.setIfInBounds i true)<left n listed:=by unfold left;have a:i<listed.size:=(by rcases kY i listed.size with h|h;{exact h};{simp [uI h]at c});refine cnt_lt _ (λx _ d=>?_) ⟨i,j3.2 e,by rw[c];rfl,by simp[a]⟩;by_cases b:i=x;{subst b;simp[a]at d};{rwa [getD_set_ne true b]at d}
theorem zw1 {C:Cfg}{st:St}{o:Oper}{id:Nat}{d:Dl}(b:zhv o=true)(h:zev C st o id=some d):delta C st o id=some d:=by unfold zev at h;cases e:delta C st o id with|some g=>rw[e]at h;exact h|none=>rw[e]at h;exfalso;have h:ze3 C st o id=some d:=h;have f:zeq C o=none:=(by unfold zhv at b;unfold zeq;cases a:o.op with|call c=>rw[a]at b;simp at b|_=>rfl);unfold ze3 at h;rw[f]at h;cases h
structure Waits (md:Region.Mode) (ops:Array Oper) (cl:List (List Nat)):Prop where
 at':∀i,i<ops.size->cl.getD i []=waits ops (cl.take i) i
 lt:∀i,i<ops.size->∀j∈cl.getD i [],j<i
 sub:∀e,Region.binds .any e=true->Region.binds md e=true
 rk:∃rk:Nat->Nat,∀(i:Nat) (o:Oper),ops[i]?=some o->∀e∈o.after,Region.binds md e=true->e.on<ops.size/\rk e.on<rk i
variable {md:Region.Mode}
theorem zFq (a:∀i,i<ops.size->cl.getD i []=waits ops (cl.take i) i){i:Nat}{o:Oper}(b:ops[i]?=some o){e:Edge}(d:e∈o.after)(c:Region.binds .any e=true):e.on∈cl.getD i []:=by have f:=(qK.1 b).1;rw[a i f];simp only[waits,b];exact zrN (by simpa using d) c
theorem zul {l:List (List Nat)}{i j k:Nat}(h:k∈(l.take i).getD j []):k∈l.getD j []:=by rw[jZ,jI]at h;rw[jZ];split at h;{exact h};{simp at h}
theorem Waits.inv (W:Waits md ops cl){i j:Nat}{o:Oper}(b:ops[i]?=some o)(a:j∈cl.getD i []):∃e∈o.after,Region.binds .any e=true/\(j=e.on\/j∈cl.getD e.on []):=by have f:=(qK.1 b).1;rw[W.at' i f]at a;simp only[waits,b]at a;obtain⟨e,d,c,h⟩:=zrO a;exact⟨e,by simpa using d,c,h.imp id zul⟩
def XL (listed:Array Bool)(k:Nat):Bool:=listed.getD k false
theorem zot (W:Waits md ops cl){listed:Array Bool}(d:zez cl (XL listed)){i:Nat}(f:i∈Region.ready md ops listed):∀j∈cl.getD i [],XL listed j=true:=by obtain⟨_,o,k,a⟩:=mem_ready.1 f;intro j g;obtain⟨e,c,b,h|h⟩:=W.inv k g;{subst h;exact a e c (W.sub e b)};{exact d _ (a e c<|W.sub e b) j h}
theorem least {p:Nat->Prop}:∀n,p n->∃m,m<=n/\p m/\∀j,j<m->¬ p j:=by intro n;induction n using Nat.strongRecOn with|_ n i=>intro g;by_cases h:∃j,j<n/\p j;{obtain⟨j,d,e⟩:=h;obtain⟨m,k,b,c⟩:=i j d e;exact⟨m,by omega,b,c⟩};{exact⟨n,qV _,g,λj f a=>h ⟨j,f,a⟩⟩}
theorem zrt (W:Waits md ops cl){listed:Array Bool}(s:listed.size=ops.size){b:Nat}(c:b<ops.size)(d:listed.getD b true=false):∃i,i∈Region.ready md ops listed:=by obtain⟨j,g⟩:=W.rk;obtain⟨n,_,⟨i,k,r,u⟩,a⟩:=least (p:=λn=>∃i,i<ops.size/\listed.getD i true=false/\j i=n) (j b) ⟨b,c,d,rfl⟩;refine⟨i,mem_ready.2 ⟨r,ops[i],by simp[k],λe q m=>?_⟩⟩;obtain⟨l,t⟩:=g i ops[i] (by simp[k]) e q m;cases h:listed.getD e.on false with|true=>rfl|false=>exfalso;refine a (j e.on) (by omega) ⟨e.on,l,?_,rfl⟩;have f:e.on<listed.size:=(by omega);simp only[Array.getD,f,dif_pos]at h ⊢;exact h
theorem zhS {listed:Array Bool}{i:Nat}(a:i<listed.size):XL listed i=listed.getD i true:=by simp[XL,a]
theorem zql {listed:Array Bool}{i:Nat}(a:i<listed.size)(k:Nat):XL (listed.setIfInBounds i true) k=(XL listed k||k==i):=by unfold XL;by_cases h:i=k;{subst h;simp[a]};{rw [getD_set_ne false h];have:(k==i)=false:=(by simp;omega);rw[this,uL]}
theorem zzF {P:Program}{Q d:Exit->Act->World->Prop}(f:∀e,e≠.normal->∀a w,d e a w->Q e a w){i:Nat}{K:Act->World->Prop}{a:Act}{w:World}(h:wpOp P ops d i K a w):wpOp P ops Q i K a w:=by
 have b:LetsOut d->LetsOut Q:=(by rintro⟨a,w,h⟩;exact⟨a,w,f _ (by simp) a w h⟩);unfold wpOp at h ⊢;split;{rename_i m;rw[m]at h;exact h}
 .rename_i o ho;simp only[ho]at h;split
  .rename_i j;rw[if_pos j]at h;rcases h with h|⟨k,l⟩
   .left
    unfold Oper.wp at *;generalize (execOp a.eval o).run P w=r at *;cases r with
    |ok n p =>
     cases n<;>simp only [Oper.upon]at h ⊢ <;>
      first
       |exact h
       |exact h.mono (λe q g=>by
        cases e with
        |returned v=>exact g
        |panicked c=>exact f _ (by simp) _ _ g
        |outgrown=>exact b g)
    |halt x p =>cases x<;>simp only [Oper.upon]at h ⊢ <;> first|exact f _ (by simp) _ _ h|exact h
   {exact .inr ⟨k,b l⟩}
  {rename_i j;rw[if_neg j]at h;exact h}
theorem zhG (W:Waits md ops cl){listed:Array Bool}{m:Nat}(e:listed.size=ops.size)(c:∀i,i<ops.size->listed.getD i true=decide (i<m)):zez cl (XL listed):=by intro k b j d;have a:k<ops.size:=(by rcases kY k listed.size with h|h;{omega};{simp [XL,uI h]at b});rw[zhS (by omega),c k a]at b;simp at b;have:=W.lt k a j d;rw[zhS (by omega),c j (by omega)];simp;omega
theorem zCU {P:Program}{Q:Exit->Act->World->Prop}{c:Nat}{b:Array Bool}{a:Act}{w:World}(g:∀i,i<ops.size->b.getD i true=true)(h:Q .normal a w):wpAny P md ops Q c b a w:=by have f:Region.ready md ops b=[]:=(by refine List.eq_nil_iff_forall_not_mem.2 (λi d=>?_);obtain⟨e,o,j,_⟩:=mem_ready.1 d;have d:=(qK.1 j).1;rw[g i d]at e;cases e);cases c with|zero=>exact⟨f,h⟩|succ c=>exact⟨λ_=>h,λi d=>by rw[f]at d;cases d⟩
theorem zyd (W:Waits md ops cl){P:Program}{Q:Exit->Act->World->Prop}{b m:Nat}{listed:Array Bool}{a:Act}{w:World}(c:listed.size=ops.size)(r:m<ops.size)(A:Pinned ops.size cl m)(p:∀i,i<ops.size->listed.getD i true=decide (i<m))(B:left ops.size listed<=b)(h:∀q l,l.size=ops.size->(∀i,i<ops.size->l.getD i true=decide (i<m+1))->left ops.size l<=q->b=q+1->l=listed.setIfInBounds m true->wpOp P ops Q m (wpAny P md ops Q q l) a w):wpAny P md ops Q b listed a w:=by have t:listed.getD m true=false:=(by rw[p m r];simp);obtain⟨C,j⟩:=zrt W c r t;have y:=zpC (listed:=listed) (n:=ops.size) (i:=m) r t;obtain⟨b,rfl⟩:∃f,b=f+1:=⟨b-1,by omega⟩;refine⟨λh=>(by rw[h]at j;cases j),λi v=>?_⟩;obtain⟨u,o,z,_⟩:=mem_ready.1 v;have d:=(qK.1 z).1;rw[p i d]at u;simp only[decide_eq_false_iff_not,Nat.not_lt]at u;have e:i=m:=(by by_cases s:i=m;{exact s};{exfalso;have:=zot W (zhG W c p) v m (A.wait i (by omega) d);rw[zhS (by omega),t] at this;cases this});subst e;refine h b _ (by simp[c]) (λk x=>?_) (by omega) rfl rfl;by_cases g:i=k;{subst g;simp[c,d]};{rw [getD_set_ne true g,p k x];congr 1;simp only[eq_iff_iff];omega}
theorem zuJ {a T:Nat}(W:Waits md ops cl)(M:T<=ops.size)(s:T<ops.size->Pinned ops.size cl T){P:Program}{Q:Exit->Act->World->Prop}{J:(Nat->Bool)->Env->Array Value->World->Prop}(d:∀X Y E ts w,(∀k,a<=k->k<T->X k=Y k)->J X E ts w->J Y E ts w)(l:∀X Y i,zez cl X->a<=i->i<T->X i=false->(∀j∈cl.getD i [],X j=true)->(∀k,Y k=(X k||k==i))->∀E ts w,J X E ts w->∀K:Act->World->Prop,(∀A c y,J Y A c y->K {tmps:=c,defers:=[]} y)->wpOp P ops Q i K {tmps:=ts,defers:=[]} w)(p:∀(Z:Nat) (I:Array Bool) (A:Env) (c:Array Value) (y:World),I.size=ops.size->(∀i,i<ops.size->I.getD i true=decide (i<T))->left ops.size I<=Z->J (λ_=>true) A c y->wpAny P md ops Q Z I {tmps:=c,defers:=[]} y) :
 ∀(b:Nat) (listed:Array Bool) (E:Env) (ts:Array Value) (w:World),listed.size=ops.size->zez cl (XL listed)->(∀i,i<a->XL listed i=true)->(∀m,T<=m->m<ops.size->XL listed m=false)->left ops.size listed<=b->
  J (XL listed) E ts w->wpAny P md ops Q b listed {tmps:=ts,defers:=[]} w
 |b,listed,E,ts,w,x,N,q,g,hf,hS=>by by_cases e:∀i,i<T->XL listed i=true;{have hl:∀i,i<ops.size->listed.getD i true=decide (i<T):=(by intro i z;rw[<- zhS (by omega)];by_cases h:i<T;{rw [e i h];simp[h]};{rw [g i (by omega) z];simp[h]});exact p b listed E ts w x hl hf (d _ _ E ts w (λk _ v=>e k v) hS)};{have O:∃i,i<T/\XL listed i=false:=(by refine Classical.byContradiction (λV=>e λi z=>?_);cases h:XL listed i with|true=>rfl|false=>exact absurd ⟨i,z,h⟩ V);obtain⟨H,R,r⟩:=O;have F:listed.getD H true=false:=(by rw[<- zhS (by omega)];exact r);obtain⟨i1,D⟩:=zrt W x (by omega) F;have a0:0<left ops.size listed:=(by have:=zpC (listed:=listed) (n:=ops.size) (i:=H) (by omega) F;omega);obtain⟨b,rfl⟩:∃f,b=f+1:=⟨b-1,by omega⟩;refine⟨λh=>(by rw[h]at D;cases D),λi z=>?_⟩;obtain⟨h0,o,ho,_⟩:=mem_ready.1 z;have B:=(qK.1 ho).1;have u:XL listed i=false:=(by rw[zhS (by omega)];exact h0);have G:=zot W N z;have S:a<=i:=(by refine Classical.byContradiction (λV=>?_);rw[q i (by omega)]at u;cases u);have t:i<T:=(by refine Classical.byContradiction (λV=>?_);have hp:=s (by omega);by_cases t:i=T;{subst t;have:=G H (hp.full H R);rw[r] at this;cases this};{have:=G T (hp.wait i (by omega) B);rw[g T (qV _) (by omega)] at this;cases this});refine l _ (XL<|listed.setIfInBounds i true) i N S t u G (zql (by omega)) E ts w hS _ (λA c y L=>?_);refine zuJ W M s d l p b (listed.setIfInBounds i true) A c y (by simp[x]) ?_ ?_ ?_ ?_ L;{intro k v j hj;rw[zql (by omega)]at v ⊢;by_cases C:k=i;{subst C;rw[G j hj];rfl};{have:(k==i)=false:=(by simp[C]);rw[this,uL]at v;rw[N k v j hj];rfl}};{intro k v;rw[zql (by omega),q k v];rfl};{intro m hm U;rw[zql (by omega),g m hm U];simp;omega};{have:=zpC (listed:=listed) (n:=ops.size) B h0;omega}}
theorem zCC (A:CfgOk C)(D:CtrOk C)(B:GraftOk C){a T:Nat}(W:Waits md ops cl)(I:a+ss.length=T)(q:T<=ops.size)(g:T<ops.size->Pinned ops.size cl T)(F:Free C ops cl b base a ss st0)(N:b=false->∀k,a<=k->k<T->zeX C ops k=false)(O:b=true->Dead st0/\0<st0.ep)(H:∀k,a<=k->k<T->∀n,Mine (base+32*k) n->¬ U n){Q:Exit->Act->World->Prop}(e:∀(t:Nat) (p:Array Bool) (y:Env) (j:Array Value) (x:World),p.size=ops.size->(∀i,i<ops.size->p.getD i true=decide (i<T))->left ops.size p<=t->
 Sim w0 S0 (UX U base a T λ_=>true) (zI ops b (λ_=>true) a ss st0) y j sv x->wpAny C.P md ops Q t p {tmps:=j,defers:=[]} x) :
 ∀(d:Nat) (c:Array Bool) (E:Env) (ts:Array Value) (w:World),c.size=ops.size->zez cl (XL c)->(∀i,i<a->XL c i=true)->(∀m,T<=m->m<ops.size->XL c m=false)->left ops.size c<=d->
  Sim w0 S0 (UX U base a T<|XL c) (zI ops b (XL c) a ss st0) E ts sv w->wpAny C.P md ops Q d c {tmps:=ts,defers:=[]} w :=
 zuJ (J:=λX E ts w=>Sim w0 S0 (UX U base a T X) (zI ops b X a ss st0) E ts sv w) W q g
  (λX Y E ts w h l=>by
   rw[zhg ss a st0 λk f v=>h k f (by omega)]at l
   refine l.uses ?_
   rintro n (f|⟨k,u,f,v,z⟩)
   .exact .inl f
   .exact .inr ⟨k,u,f,by rw[<- h k u f];exact v,z⟩)
  (λX Y i L s R r S M E ts w l K G=>ztw A D B I F L s R r S N O H M l G) e
theorem get_put {st:St}{d:Nat}{m:MV}{a:Key}(h:a≠.tm d):(st.put (some d) m).get a=st.get a:=by cases a with|tm t=>have:d≠t:=λe=>h (by rw[e]);simp[St.get,St.put,qY,this]|ro n=>rfl|lo n=>rfl
theorem zBK {st b:St}{o:Oper}(c:b.ep=st.ep)(g:∀t∈zgw o,b.get (.tm t)=st.get (.tm t))(f:∀n∈(zh1 st o).flatMap zD,b.get (.ro n)=st.get (.ro n))(d:∀n∈(zh1 st o).flatMap zG,b.get (.lo n)=st.get (.lo n)):Agree st b o.op.operands.toList:=by refine⟨c,λx h=>?_,λx h m k a j=>?_⟩;{cases x with|tmp t=>have l:t∈zgw o:=(by unfold zgw;exact uB.2 ⟨_,h,rfl⟩);simp only[St.opnd,zqM<|g t l]|_=>rfl};{have i:a∈zh1 st o:=(by unfold zh1;exact qN.2 ⟨m,uB.2 ⟨x,h,k⟩,j⟩);exact⟨λn e=>zmy (f n<|qN.2 ⟨a,i,e⟩),λn e=>zqL (d n<|qN.2 ⟨a,i,e⟩)⟩}
theorem zwT {st k:St}{o:Oper}(h:Agree st k o.op.operands.toList):zhb C k o=zhb C st o:=by cases f:o.op with|call c=>rw[f]at h;have l:∀x∈c.args.toList,x∈(Op.call c).operands.toList:=λx j=>(by simp only[Op.operands,Call.operands,Array.toList_append,jJ];exact .inr j);simp only[zhb,f];(cases w:o.dst with|none=>rfl|some d=>(cases hg:o.guard with|some g=>rfl|none=>simp only;(cases q:c.callee with|builtin b=>(cases b with|append=>simp only;split;{rename_i x y T u i s;have j:=l x (by rw[i];simp);have m:=l y (by rw[i];simp);rw[h.at j,h.at m];split;{cases v:C.sty T with|none=>rfl|some t=>(cases e:st.at x with|none=>rfl|some a=>(cases a with|sl r p=>(cases p with|nil=>rfl|cons z p=>(cases n:st.at y with|none=>rfl|some b=>(cases b with|sl B A=>simp only[h.root<|zb2 j e,h.node<|zb2 j e,h.node<|zb2 m n]|_=>rfl)))|_=>rfl))};{rfl}};{rfl}|_=>rfl)|_=>rfl)))|_=>simp only[zhb,f]
theorem zrr (g:CfgOk C)(e:Sim w0 S0 U st E ts sv w){o:Oper}{id:Nat}{d:Dl}(b:zhv o=true)(h:delta C st o id=some d)(i:d.c=true):o.guard=none/\zhQ C U st E ts w o d:=by
 unfold zhv at b;simp only[qD,kD]at b;obtain⟨hg,b⟩:=b;refine⟨hg,?_⟩;cases a:o.op
 case move x=>
  rw[a]at b;cases x with
  |tmp t=>simp only[delta,a]at h;split at h;{rename_i v j;cases h;exact zA4 e (.inl a) j};{cases h}
  |_=>simp at b
 (case load T x=>exact zA3 g e a h);(case fieldAddr T x f=>exact zoq g e a h);(case indexAddr T x y=>exact zor g e a h i);(case nilCheck x=>exact zrn e a h);all_goals (rw [a]at b;simp at b)
theorem pure_run {o:Oper}{i:Nat}{d:Dl}{v:Value}{Q:Exit->Act->World->Prop}{K:Act->World->Prop}(a:ops[i]?=some o)(hg:o.guard=none)(b:(execOp ({tmps:=ts,defers:=[]}:Act).eval o).run C.P w = .ok (.value v) w1)(h:K {tmps:=(({tmps:=ts,defers:=[]}:Act).put o.dst v).tmps,defers:=[]} w1):wpOp C.P ops Q i K {tmps:=ts,defers:=[]} w:=by unfold wpOp;simp only[a];rw[if_pos (by simp[Region.wanted,hg])];left;unfold Oper.wp;rw[b,Oper.upon_value,zd9];exact h
theorem zwe {d t:Nat}{v u:Value}(h:ts[t]?=some u)(a:d≠t):(({tmps:=ts,defers:=[]}:Act).put (some d) v).tmps[t]?=some u:=by simp[Act.put,Array.getElem?_setIfInBounds_ne a,h]
theorem zCL (hC:CfgOk C)(hH:CtrOk C)(hG:GraftOk C){a A:Nat}(W:Waits md ops cl)(hA:a+ss.length=A)(c4:A+1<=ops.size)(c1:A+1<ops.size->Pinned ops.size cl (A+1))(F:Free C ops cl b base a ss st0)(hb:b=false->∀k,a<=k->k<A->zeX C ops k=false)(c6:b=true)(hd:b=true->Dead st0/\0<st0.ep)(hM:∀k,a<=k->k<A->∀n,Mine (base+32*k) n->¬ U n){D:Oper}{x:App}(d5:ops[A]?=some D)(y:zhb C (zI ops b (fun _=>true) a ss st0) D=some (true,x))(d1:zmN ops cl a A=true)(a5:x.dst<(zI ops b (fun _=>true) a ss st0).tm.length)(N:∀i s o f,ss[i]?=some s->ops[a+i]?=some o->At1 C ops base (a+i) o (zI ops b (fun j=>decide (j<a+i)) a ss st0) f s->a+i∉cl.getD A []->f.apart (zcL (zI ops b (fun _=>true) a ss st0) ops D zny)=true){Q:Exit->Act->World->Prop}(b0:∀(fl:Nat) (l':Array Bool) (E':Env) (B:Array Value) (w':World) (v:Value),l'.size=ops.size->(∀i,i<ops.size->l'.getD i true=decide (i<A+1))->left ops.size l'<=fl->B[x.dst]?=some v->
 Sim w0 S0 (UX U base a A (fun _=>true)) ((zI ops b (fun _=>true) a ss st0).put D.dst (.v (.at .bad))) E' B sv w'->Late w0 ((zI ops b (fun _=>true) a ss st0).put D.dst (.v (.at .bad))) E' x v w'->wpAny C.P md ops Q fl l' {tmps:=B,defers:=[]} w')(I:Nat)(g:Array Bool)(E:Env)(ts:Array Value)(w:World)(d6:g.size=ops.size)(hX:zez cl (XL g))(b3:∀i,i<a->XL g i=true)(a6:∀m,A<=m->m<ops.size->XL g m=false)(hf:left ops.size g<=I)(hS:Sim w0 S0 (UX U base a A (XL g)) (zI ops b (XL g) a ss st0) E ts sv w):wpAny C.P md ops Q I g {tmps:=ts,defers:=[]} w:=by
 have l:D.dst=some x.dst/\D.guard=none:=by unfold zhb at y;split at y;{rename_i c d ho l c9;refine⟨?_,c9⟩;rw[l];congr 1;(repeat' (first|(split at y)|(cases y)));all_goals first|rfl|(simp only [qB,jH]at y;obtain⟨_,rfl⟩:=y;rfl)};{cases y}
 have S:∀{X Y:Nat->Bool} {i:Nat},(∀k,Y k=(X k||k==i))->∀n,UX U base a A X n->UX U base a A Y n:=by intro X Y i V n h;rcases h with h|⟨k,h0,p,r,h3⟩;{exact .inl h};{exact .inr ⟨k,h0,p,by rw[V,r];rfl,h3⟩}
 have a8:∀{X:Nat->Bool} (q:Key),(∀j∈cl.getD A [],X j=true)->(zcL (zI ops b (fun _=>true) a ss st0) ops D zny).reads q->(zI ops b X a ss st0).get q=(zI ops b (fun _=>true) a ss st0).get q:=by intro X q hr H;refine zhf ss a st0 st0 rfl rfl (fun k s' o' hk b9 a9 hw=>?_);obtain⟨o2,f',c0,r⟩:=F.at1 k s' hk;rw[b9]at c0;cases c0;have b1:X (a+k)=false:=(by cases h:X (a+k) with|false=>rfl|true=>exact absurd h a9);have hn:a+k∉cl.getD A []:=fun h=>(by rw[hr _ h]at b1;cases b1);exact((apart_spec (N k s' o' f' hk b9 r hn)).1 q ((zme r q).1 hw)).1 H
 refine zuJ (T:=A+1) (J:=fun X E ts w=>(X A=false->Sim w0 S0 (UX U base a A X) (zI ops b X a ss st0) E ts sv w)/\
  (X A=true->∃v,ts[x.dst]?=some v/\Sim w0 S0 (UX U base a A X) ((zI ops b X a ss st0).put D.dst (.v (.at .bad))) E ts sv w/\Late w0 (zI ops b X a ss st0) E x v w)) W c4 c1 ?_ ?_ ?_
  I g E ts w d6 hX b3 (fun m p r=>a6 m (by omega) r) hf ⟨fun _=>hS,fun h=>(by rw[a6 A (qV _) (by omega)]at h;cases h)⟩
 .intro X Y E ts w h hJ;have u:X A=Y A:=h A (by omega) (by omega)
  have e:=zhg (ops:=ops) (b:=b) ss a st0 (X:=X) (Y:=Y) (fun k p r=>h k p (by omega))
  have hu:∀n,UX U base a A X n->UX U base a A Y n:=by rintro n (p|⟨k,h0,p,r,h3⟩);{exact .inl p};{exact .inr ⟨k,h0,p,by rw[<- h k h0 (by omega)];exact r,h3⟩}
  refine⟨fun G=>?_,fun G=>?_⟩
  .have:=hJ.1 (u.trans G);rw[e] at this;exact this.uses hu
  .obtain⟨v,p,r,h3⟩:=hJ.2 (u.trans G);rw[e]at r h3;exact⟨v,p,r.uses hu,h3⟩
 .intro X Y i hX hia hi hXi hr V E ts w hJ K hK
  by_cases d0:i=A
  .subst d0;have L:=hJ.1 hXi;have b2:zI ops b Y a ss st0=zI ops b X a ss st0:=zhg ss a st0 (fun k p r=>by
    rw[V];have:(k==i)=false:=by simp;omega
    rw[this,uL])
   have c5:Agree (zI ops b (fun _=>true) a ss st0) (zI ops b X a ss st0) D.op.operands.toList :=
    zBK (by rw[zdC,zdC]) (fun t ht=>a8 (.tm t) hr (by simp only[Foot.reads,zcL];exact jS _ ht)) (fun n hn=>a8 (.ro n) hr hn) (fun n hn=>a8 (.lo n) hr hn)
   have a2:=zwT (C:=C) c5;rw[y]at a2;have c8:Dead (zI ops b X a ss st0):=by subst c6;exact zk0 ss a st0 (hd rfl).1 (hd rfl).2
   obtain⟨hg,c7,v,w',R,a7,hL⟩:=zCM hC L c8 a2;refine pure_run (d:=zny) d5 hg R (hK E _ w' ⟨fun h=>(by rw[V]at h;simp at h),fun _=>⟨v,?_,?_,?_⟩⟩)
   .rw [c7];have d4:x.dst<ts.size:=by rw[L.tm.1,zf6];rw[zf6]at a5;exact a5
    simp[Act.put,d4]
   .rw [b2];exact a7.uses (S V)
   .rw [b2];exact hL
  .have hiA':i<A:=by omega
   have G:Y A=X A:=by rw[V];have:(A==i)=false:=(by simp;omega);rw[this,uL]
   cases u:X A with
   |false=>refine ztw hC hH hG hA F hX hia hiA' hXi hr hb hd hM V (hJ.1 u) (fun E' B w' a7=>hK E' B w' ⟨fun _=>a7,fun h=>(by rw[G,u]at h;cases h)⟩)
   |true=>
    obtain⟨v,hv,L,hL⟩:=hJ.2 u;obtain⟨j,rfl⟩:∃j,i=a+j:=⟨i-a,by omega⟩;obtain⟨s,hs⟩:∃s,ss[j]?=some s:=⟨_,qC (by omega)⟩;obtain⟨o,f,ho,p,r⟩:=zqK F hX hs hXi hr;have b8:a+j∉cl.getD A []:=fun h=>(by rw[hX A u _ h]at hXi;cases hXi);have O:zhv o=true:=(by have:=qJ.1 d1 (a+j) (by simp;omega);simp only[ho,j9,jK,jC] at this;rcases this with h|h;{exact absurd h b8};{exact h});have a3:=apart_spec (N j s o f hs ho p b8);have c2:(zcL (zI ops b (fun _=>true) a ss st0) ops D zny).writes (.tm x.dst):=(by simp only[Foot.writes,zcL];exact l.1);have a9:∀q,f.reads q->q≠.tm x.dst:=fun q H e=>a3.2 (.tm x.dst) c2 (e ▸ H);have a4:o.dst≠some x.dst:=fun e=>(a3.1 (.tm x.dst) ((zme p (.tm x.dst)).1 (by cases s<;>exact e))).2 c2;have a0:∀Z,(zI ops b Z a ss st0).ep=st0.ep:=fun Z=>zdC ss a st0;have M:=zuL (S':=(zI ops b X a ss st0).put D.dst (.v (.at .bad))) p (by rw[a0,l.1];exact a0 X) (fun q H=>by rw[l.1,get_put (a9 q H)];exact r q H);have b4:o.guard=none:=by unfold zhv at O;simp only[qD,kD]at O;exact O.1
    cases s with
    |none=>exfalso;have:zbQ ops o ((zI ops b X a ss st0).put D.dst (.v (.at .bad)))=some false:=M;simp[zbQ,b4] at this
    |some d=>
     obtain⟨_,d2,d3⟩:=M;obtain⟨_,v2,R,d7,b5,e1,e2,e3⟩:=zrr hC L O (zw1 O d2) d3;have z:∀q,(zI ops b Y a ss st0).get q=((zI ops b X a ss st0).put o.dst d.v).get q:=(by intro q;rw[zvi F hX hs ho hXi V q];simp only[St.step,St.effD,e1,e2,List.map_nil,jO]);have c3:Sim w0 S0 (UX U base a A X) (((zI ops b X a ss st0).put D.dst (.v (.at .bad))).put o.dst d.v) E (({tmps:=ts,defers:=[]}:Act).put o.dst v2).tmps sv w:=L.putV d7 b5;refine pure_run (d:=d) ho b4 R (hK E _ w ⟨fun h=>(by rw[G,u]at h;cases h),fun _=>⟨v,?_,?_,?_⟩⟩);{cases a1:o.dst with|none=>exact hv|some t=>exact zwe hv (fun e=>a4 (by rw[a1,e]))}
     .refine(c3.same (fun q=>?_) ?_ ?_).uses (S V)
      .rw [l.1];cases q with
       |tm t=>
        have hk:=z (.tm t);have b6:(zI ops b Y a ss st0).tm.length=(zI ops b X a ss st0).tm.length:=(by rw[zf6,zf6]);by_cases ht:t=x.dst;{subst ht;cases a1:o.dst with|none=>simp[St.get,St.put,qY,b6]|some t' =>have:t'≠x.dst:=fun e=>a4 (by rw[a1,e]);simp[St.get,St.put,qY,b6,this]}
        .have hne':x.dst≠t:=fun e=>ht e.symm;rw[get_put (by simpa using ht),hk]
         cases a1:o.dst with
         |none=>simp[St.get,St.put,qY,hne']
         |some t' =>simp only[St.get,St.put,qY,List.length_set];split;{rfl};{first|rfl|rw[if_neg hne']}
       |ro n=>have hk:=z (.ro n);rw[get_put (by simp),hk];cases o.dst<;>rfl
       |lo n=>have hk:=z (.lo n);rw[get_put (by simp),hk];cases o.dst<;>rfl
      {rw [l.1];have p:(zI ops b Y a ss st0).stk=(zI ops b X a ss st0).stk:=(by rw[zhn,zhn]);cases o.dst<;>exact p};{rw [l.1];have p:(zI ops b Y a ss st0).ep=(zI ops b X a ss st0).ep:=(by rw[zdC,zdC]);cases o.dst<;>exact p}
     .have hro:∀n,zf (zI ops b Y a ss st0).ro n=zf (zI ops b X a ss st0).ro n:=fun n=>(by rw[zmy (z (.ro n))];cases o.dst<;>rfl);have b7:∀n,zf (zI ops b Y a ss st0).lo n=zf (zI ops b X a ss st0).lo n:=fun n=>by rw[zqL (z (.lo n))];cases o.dst<;>rfl
      exact hL.states (fun n=>by
       unfold St.root;rw[hro n,a0 Y,a0 X]) b7
 .intro fl l' E' B w' hsz' hl' hf' hJ;obtain⟨v,p,r,h3⟩:=hJ.2 rfl;refine b0 fl l' E' B w' v hsz' hl' hf' p r (h3.states (fun n=>?_) (fun n=>?_))
  .rw [l.1];rfl
  .rw [l.1];rfl
def VV (U:Nat->Prop)(base a m n:Nat):Prop:=U n\/(base<=n/\n<base+32*m)\/base+32*a<=n
theorem zkr (N:CfgOk C)(W:Waits md ops cl){x:App}{kk:Nat->List Bool->St->Option Ans}{s:Ans}{Q:Exit->Act->World->Prop}(B:∀(H:Nat) (r':List Bool) (L:Nat->Prop) (j:St) (K:Env) (I:Array Value) (J:World) (u:Nat) (p:Array Bool),r'=(zdH ops.size cl).drop H->H<=ops.size->p.size=ops.size->(∀i,i<ops.size->p.getD i true=decide (i<H))->left ops.size p<=u->
 Sim w0 S0 L j K I sv J->(∀n,L n->VV U base ops.size H n)->(∀n,j.nid<=n->¬ L n)->base+32*ops.size<=j.nid->kk H r' j=some s->wpAny C.P md ops Q u p {tmps:=I,defers:=[]} J) :
 ∀(l:List Bool) (m:Nat) (V:Nat->Prop) (st:St) (E:Env) (ts:Array Value) (w:World) (b:Nat) (a:Array Bool) (v:Value),l=(zdH ops.size cl).drop m->m<=ops.size->a.size=ops.size->(∀i,i<ops.size->a.getD i true=decide (i<m))->left ops.size a<=b->
  Sim w0 S0 V st E ts sv w->(∀n,V n->VV U base ops.size m n)->(∀n,st.nid<=n->¬ V n)->base+32*ops.size<=st.nid->ts[x.dst]?=some v->Late w0 st E x v w->zgX C ops base x kk l m st=some s->wpAny C.P md ops Q b a {tmps:=ts,defers:=[]} w
 |[],m,V,st,E,ts,w,b,a,v,_,_,_,_,_,_,_,_,_,_,_,h=>by simp[zgX]at h
 |false::r,m,V,st,E,ts,w,b,a,v,_,_,_,_,_,_,_,_,_,_,_,h=>by simp[zgX]at h
 |true::r,m,V,st,E,ts,w,b,a,v,hp,hm,Y,hl,hf,O,hV,hF,hn,Z,hL,h=>by
  simp only[zgX]at h;obtain⟨T,F,hr⟩:=zhu hp;have y:∀n,V n->VV U base ops.size (m+1) n:=(by rintro n g;rcases hV n g with h|⟨M,h2⟩|h;{exact .inl h};{exact .inr (.inl ⟨M,by omega⟩)};{exact .inr (.inr h)});refine zyd W Y T (zjR F.symm) hl hf (λu p k D z _ _=>?_);split at h;{cases h}
  .rename_i o ho;split at h
   .rename_i c st2 hst;cases q:c with
    |false=>rw[q]at h;cases h
    |true=>rw[q]at h hst;simp only[cond_true,znj]at h;obtain⟨hg,S,a1⟩:=zy9 (id:=base+32*m) N O hL Z hst;unfold wpOp;simp only[ho];rw[if_pos (by simp[Region.wanted,hg])];refine .inl (S _ _ λK v' J R=>?_);rw[zd9];refine B (m+1) r _ _ K _ J u p hr (by omega) k D z R ?_ ?_ (by rw[zcM];omega) h;{rintro n (h|⟨M,h2⟩);{exact y n h};{exact .inr (.inl ⟨by omega,by omega⟩)}};{rintro n g (h|⟨M,h2⟩);{exact hF n (by rw[zcM]at g;omega) h};{rw [zcM]at g;omega}}
   {split at h;{rename_i f;simp only[qD,jF,beq_eq_false_iff_ne]at f;split at h;{rename_i d hd;cases q:d.c with|false=>rw[q]at h;cases h|true=>rw[q]at h;simp only[cond_true]at h;obtain⟨hg,v2,G,a0,A,e1,e2,e3⟩:=zrr N O f.1 hd q;have he:st.apply o.dst d=st.put o.dst d.v:=(by simp[St.apply,e1,e2,e3]);rw[he]at h;refine pure_run (d:=d) ho hg G ?_;refine zkr N W B r (m+1) V _ E _ w u p v hr (by omega) k D z (O.putV a0 A) y (by rw[zcM];exact hF) (by rw[zcM];exact hn) ?_ (hL.states (λn=>?_) λn=>?_) h;{cases X:o.dst with|none=>exact Z|some t=>exact zwe Z (λe=>f.2 (by rw[X,e]))};{cases o.dst<;>rfl};{cases o.dst<;>rfl}};{cases h}};{cases h}}
theorem zfJ (hC:CfgOk C)(hH:CtrOk C)(hG:GraftOk C)(hN:NameOk C){a1:zdl}(u:zij C a1)(W:Waits md ops cl){k:St->Option Ans}{b1:Ans}{Q:Exit->Act->World->Prop}(N:∀n,base<=n->¬ U n)(hk:∀(U':Nat->Prop) (d:St) (E':Env) (B:Array Value) (w':World),Sim w0 S0 U' d E' B sv w'->(∀n,U' n->VV U base ops.size ops.size n)->base+32*ops.size<=d.nid->(∀n,d.nid<=n->¬ U' n)->k d=some b1->Q .normal {tmps:=B,defers:=[]} w') :
 ∀(fs m:Nat) (Y:List Bool) (V:Nat->Prop) (st:St) (E:Env) (ts:Array Value) (w:World) (l:Nat) (c:Array Bool),Y=(zdH ops.size cl).drop m->m<=ops.size->c.size=ops.size->(∀i,i<ops.size->c.getD i true=decide (i<m))->left ops.size c<=l->
  Sim w0 S0 V st E ts sv w->(∀n,V n->VV U base ops.size m n)->(∀n,st.nid<=n->¬ V n)->base+32*ops.size<=st.nid->zeB C a1 ops cl base k fs m Y st=some b1->wpAny C.P md ops Q l c {tmps:=ts,defers:=[]} w
 | 0,m,Y,V,st,E,ts,w,l,c,_,_,_,_,_,_,_,_,_,h=>by simp[zeB]at h
 |fs+1,m,[],V,st,E,ts,w,l,c,hp,hm,G,hl,hf,hS,hV,hF,hn,h=>by simp only[zeB]at h;have a8:=zwa hp;have e:m=ops.size:=(by omega);subst e;exact zCU (λi hi=>by rw[hl i hi];simp[hi]) (hk V st E ts w hS hV hn hF h)
 |fs+1,m,true::r,V,st,E,ts,w,l,c,hp,hm,G,hl,hf,hS,hV,hF,hn,h=>by
  simp only[zeB]at h;obtain⟨a8,b8,hr⟩:=zhu hp;refine zyd W G a8 (zjR b8.symm) hl hf (λfl l' A X S _ _=>?_)
  let Q':Exit->Act->World->Prop:=λe a w=>match e with
   |.normal=>wpAny C.P md ops Q fl l' a w
   |e=>Q e a w
  have hQ:∀e,e≠Exit.normal->∀a w,Q' e a w->Q e a w:=by intro e he a w h;cases e<;>first|exact absurd rfl he|exact h
  refine zzF hQ ?_;have c0:=zgj (Q:=Q') hC hH hG hN u (ops:=ops) (base:=base) (V:=VV U base ops.size (m+1)) (nid0:=base+32*ops.size) (λn p=>.inr (.inr p))
   (λU' d E' B w' M c7 p c6 h'=>zfJ hC hH hG hN u W N hk fs (m+1) r U' d E' B w' fl l' hr (by omega) A X S M c7 c6 p h')
   [m] V st E ts w hS ?_ hF ?_ (by simp) hn ?_ h
  {rw [wpOps_cons] at c0;exact wpOp_mono (λa w h=>h) c0};{rintro n p;rcases hV n p with h|⟨t,D⟩|h;{exact .inl h};{exact .inr (.inl ⟨t,by omega⟩)};{exact .inr (.inr h)}};{intro j hj n d2;simp only[qE]at hj;subst hj;obtain⟨Z,g2⟩:=d2;refine⟨λp=>?_,.inr<|.inl ⟨by omega,by omega⟩⟩;rcases hV n p with h|⟨t,D⟩|h;{exact N n (by omega) h};{omega};{omega}};{intro j hj;simp only[qE]at hj;subst hj;omega}
 |fs+1,m,false::r,V,st,E,ts,w,l,c,hp,hm,G,hl,hf,hS,hV,hF,hn,h=>by
  simp only[zeB]at h;obtain⟨a8,_,hr⟩:=zhu hp;obtain⟨b6,a2,a3⟩:=ztP r (m+1) (by omega) hr;generalize b5:(List.range' m<|zbh r+1).any (zeX C ops)=b at h;have H:Sim w0 S0 V {st with ep:=if b then st.ep+1 else st.ep} E ts sv w:=hS.blind b st.nid;have z:({st with ep:=if b then st.ep+1 else st.ep}:St).nid=st.nid:=rfl
  have a0:b=true->Dead ({st with ep:=if b then st.ep+1 else st.ep}:St)/\0<({st with ep:=if b then st.ep+1 else st.ep}:St).ep:=by
   intro hb;subst hb;refine⟨λn R e hR he=>?_,by simp⟩
   have:=hS.mem.epo n R e hR he;simp only[if_true];omega
  have b4:b=false->∀k,m<=k->k<m+1+zbh r->zeX C ops k=false:=(by intro hb k d9 e0;rw[hb]at b5;have:=kF.1 b5 k (by simp;omega);simpa using this);have hM:∀k,m<=k->k<m+1+zbh r->∀n,Mine (base+32*k) n->¬ V n:=by intro k t D n p hv;have Z:=p.1;have g2:=p.2;rcases hV n hv with h|⟨h3,h4⟩|h;{exact N n (by omega) h};{omega};{omega}
  have a5:∀(ss:List Step) (st0:St),zI ops b (XL c) m ss st0=st0:=λss st0=>zjl ss m st0 (λk hk=>by
   rcases kY k ops.size with h|h
   .rw [zhS (by omega),hl k h];simp;omega
   .simp [XL,uI (show c.size<=k by omega)])
  have b3:∀{T:Nat},T<=m+(zbh r+1)->∀n,UX V base m T (λ_=>true) n->VV U base ops.size (m+(zbh r+1)) n:=(by rintro T hT n (h|⟨k,h0,t,_,h3⟩);{rcases hV n h with h|⟨t,D⟩|h;{exact .inl h};{exact .inr (.inl ⟨t,by omega⟩)};{exact .inr (.inr h)}};{have Z:=h3.1;have g2:=h3.2;exact .inr (.inl ⟨by omega,by omega⟩)});have b2:∀{T:Nat},T<=m+(zbh r+1)->∀n,st.nid<=n->¬ UX V base m T (λ_=>true) n:=(by rintro T hT n p (h|⟨k,h0,t,_,h3⟩);{exact hF n (by omega) h};{have:=h3.2;omega});have b7:∀{gs:List (Nat×Foot)} {ss:List Step} {st0 d:St},(∀x∈gs,∀y∈gs,(¬ x.1<y.1\/x.1∈cl.getD y.1 [])\/x.2.apart y.2=true)->Trace C ops b base m ss gs st0 d->Free C ops cl b base m ss st0:=(by intro gs ss st0 d g q;have O:=zwH q;refine⟨λi s hs=>?_,λi k s s' o o' f f' hs d4 ho d3 t D d8 a9=>?_⟩;{obtain⟨o,f,Z,g2,g3⟩:=O i s hs;exact⟨o,f,Z,g3⟩};{obtain⟨o1,f1,Z,g2,g3⟩:=O i s hs;obtain⟨o2,f2,e1,e2,e3⟩:=O k s' d4;rw[ho] at Z;cases Z;rw[d3] at e1;cases e1;have a6:=zoT t g3;have d1:=zoT D e3;subst a6 d1;rcases g _ g2 _ e2 with (h|h)|h;{exact absurd (by show m+i<m+k;omega) h};{exact absurd h a9};{exact h}});have J:∀i,i<m->XL c i=true:=λi hi=>(by rw[zhS (by omega),hl i (by omega)];simp[hi]);have I:∀k,m<=k->k<ops.size->XL c k=false:=λk t D=>(by rw[zhS (by omega),hl k D];simp;omega);rcases zhC (zbh r+1) m [] _ h with⟨ss,gs,d,a4,q,g,K⟩|⟨ss,gs,d,oA,x,a4,q,b0,c8,c9,a7,d5,g,K⟩|⟨ss,gs,d,oA,a4,q,b0,d0,a7,e4,g,K⟩;{rw [jB]at g;unfold zf4 at g;simp only[jF,qJ,j9,decide_eq_false_iff_not,jK,jC,List.mem_reverse]at g;generalize b9:({st with ep:=if b then st.ep+1 else st.ep}:St)=st0 at q H z a0;have L:d=zI ops b (λ_=>true) m ss st0:=ztX q;refine zCC (w0:=w0) (S0:=S0) (sv:=sv) hC hH hG W (T:=m+1+zbh r) (by omega) b6 a3 (b7 g q) b4 a0 hM (λfl l' E' B w' A X S M=>?_) l c E ts w G (zhG W G hl) J (λk t D=>I k (by omega) D) hf ?_;{rw [<- L]at M;have F:d.nid=st.nid:=(by rw[L,zmv,z]);exact zfJ hC hH hG hN u W N hk fs (m+(zbh r+1)) (r.drop<|zbh r) _ d E' B w' fl l' (by rw[a2];congr 1;omega) (by omega) A (λi hi=>by rw[X i hi];congr 1;simp only[eq_iff_iff];omega) S M (b3 (by omega)) (by rw[F];exact b2 (by omega)) (by omega) K};{rw [a5];exact H.uses (λn h=>.inl h)}}
  .rw [jB]at g;unfold zf4 at g;simp only[jF,qJ,j9,decide_eq_false_iff_not,jK,jC,qL,List.mem_reverse]at g;generalize b9:({st with ep:=if b then st.ep+1 else st.ep}:St)=st0 at q H z a0;have L:d=zI ops b (λ_=>true) m ss st0:=ztX q;subst L;have hA:m+ss.length=m+zbh r:=by omega
   rw[hA]at b0 a7 g;have O:=zwH q;refine zCL (w0:=w0) (S0:=S0) (sv:=sv) hC hH hG W hA (by omega) (λh=>by
    have e:m+zbh r+1=m+1+zbh r:=by omega
    rw[e]at h ⊢;exact a3 h) (b7 (λx hx y hy=>g x (.inr hx) y (.inr hy)) q) (λhb k t D=>b4 hb k t (by omega)) c9 a0 (λk t D=>hM k t (by omega)) b0 c8 a7 d5 (λi s o f hs ho t a9=>?_)
    (λfl l' E' B w' v A X S hv M hL=>?_) l c E ts w G (zhG W G hl) J (λk t D=>I k (by omega) D) hf ?_
   {obtain⟨o1,f1,Z,g2,g3⟩:=O i s hs;rw[ho] at Z;cases Z;have a6:=zoT t g3;subst a6;have hi:i<ss.length:=(qA.1 hs).1;rcases g _ (.inr g2) _ (.inl rfl) with (h|h)|h;{exact absurd (by show m+i<m+zbh r;omega) h};{exact absurd h a9};{exact h}}
   .have F:((zI ops b (λ_=>true) m ss st0).put oA.dst (.v<|.at .bad)).nid=st.nid:=by rw[zcM,zmv,z]
    exact zkr hC W (λm' r' U' c1 c3 c2 d7 c4 d6 t D h3 h4 h5 h6 h7 h8 h9 c5=>zfJ hC hH hG hN u W N hk fs m' r' U' c1 c3 c2 d7 c4 d6 t D h3 h4 h5 h6 h7 h8 h9 c5)
     (r.drop<|zbh r) (m+(zbh r+1)) _ _ E' B w' fl l' v (by rw[a2];congr 1;omega) (by omega) A (λi hi=>by rw[X i hi];congr 1) S M (b3 (by omega)) (by rw[F];exact b2 (by omega)) (by omega) hv hL K
   {rw [a5];exact H.uses (λn h=>.inl h)}
  {exact Bool.noConfusion (show false=true from d0)}
theorem zFo (Z:CfgOk C)(hH:CtrOk C)(hG:GraftOk C)(hN:NameOk C):DrawOk C:=by
 refine⟨λN g ops k X Q w0 S0 sv U0 S U st E ts w hk hS hU O hn h t=>?_⟩;unfold zo9 at h;simp only at h;generalize I:zdX ops (List.range ops.size) []=cl at h;split at h;(case isFalse=>cases h);rename_i j;unfold zAw at j;simp only[qD,qJ,j3,jC]at j;obtain⟨a,s⟩:=j;have d:∀i,i<ops.size->cl.getD i []=waits ops (cl.take i) i:=λi r=>(by rw[<- I];exact zyJ r);have f:∀(md:Region.Mode) (c:Nat->Nat),zsS md ops c=true->∃c:Nat->Nat,∀(i:Nat) (o:Oper),ops[i]?=some o->∀e∈o.after,Region.binds md e=true->e.on<ops.size/\c e.on<c i:=by intro md c h;refine⟨c,λi o v e J H=>?_⟩;have:=qJ.1 h i (j3.2 (qK.1 v).1);rw[v] at this;have:=qJ.1 this e (by simpa using J);simpa [H] using this
 have p:∀(md:Region.Mode),(∀e,Region.binds .any e=true->Region.binds md e=true)->(∃c:Nat->Nat,∀(i:Nat) (o:Oper),ops[i]?=some o->∀e∈o.after,Region.binds md e=true->e.on<ops.size/\c e.on<c i)->Waits md ops cl :=
  λmd y A=>⟨d,s,y,A⟩
 have m:∀e,Region.binds .any e=true->Region.binds .text e=true:=λe h=>(by unfold Region.binds at *;cases hg:e.ground<;>rw [hg]at h<;>simp at h ⊢);have l:∀e,Region.binds .any e=true->Region.binds .gc e=true:=λe h=>by unfold Region.binds at *;cases hg:e.ground<;>rw [hg]at h<;>simp at h ⊢
 have b:∃md L,Region.schedule (C.P.follows .mixedOrders) ops t=Region.linearise md ops L/\Waits md ops cl:=by
  have q:Waits .any ops cl:=p .any (λ_ h=>h) ⟨λi=>i,λi o v e J H=>by
   have y:=zFq d v J H;have r:=(qK.1 v).1;have A:=s i r _ y;exact⟨by omega,A⟩⟩
  unfold Region.schedule;by_cases z:(C.P.follows .mixedOrders || !Region.departs ops)=true;{rw [if_pos z];exact⟨.any,t,rfl,q⟩};{rw [if_neg z];have hd:Region.departs ops=true:=(by cases h:Region.departs ops with|true=>rfl|false=>rw[h]at z;simp at z);rw[hd,cond_true,qD]at a;by_cases R:(t % 2==0)=true;{rw [if_pos R];exact⟨.text,t / 2,rfl,p .text m<|f .text _ a.1⟩};{rw [if_neg R];exact⟨.gc,t / 2,rfl,p .gc l<|f .gc _ a.2⟩}}
 obtain⟨md,L,x,W⟩:=b;rw[x];refine wpAny_sound ops.size L _ _ _ ?_;have F:Sim w0 S0 U {st with nid:=st.nid+32*ops.size} E ts sv {w with drawn:=w.drawn+1}:=(hS.nid _).heap (w':={w with drawn:=w.drawn+1}) rfl rfl rfl rfl;refine zfJ Z hH hG hN g W O (λV K T M w' D G u B Y=>hk V K T M w' D ?_ (by omega) B Y) (ops.size+1) 0 (zdH ops.size cl) U _ E ts _ ops.size _ rfl (by omega) (by simp) (λi r=>by simp[r]) ?_ F (λn h=>.inl h) ?_ (qV _) h;{intro n h;rcases G n h with h|⟨y,_⟩|h;{exact hU n h};{exact .inr (by omega)};{exact .inr (by omega)}};{unfold left;exact jG (List.countP_le_length) (by simp)};{intro n u h;exact O n (jG (kR _ _) u) h}
end
section
variable {P:Program}
def zwP:Value->CTy->Bool
 |.int k n,.i a=>k==a&&n==0
 |.bool b,.b=>!b
 |.slice none 0 0,.s _=>true
 |_,_=>false
def zlz:List Value->List CTy->Bool
 |[],[]=>true
 |v::vs,t::ts=>zwP v t&&zlz vs ts
 |_,_=>false
theorem zBI {v:Value}{t:CTy}(h:zwP v t=true):v=zeroV t:=by unfold zwP at h;split at h;{simp only [qD,qH]at h;obtain⟨rfl,rfl⟩:=h;rfl};{simp only [jF]at h;subst h;rfl};{rfl};{cases h}
theorem zoN:∀{b:List Value} {a:List CTy},zlz b a=true->b=a.map zeroV
 |[],[],_=>rfl
 |v::b,t::a,h=>by simp only[zlz,qD]at h;rw[qZ,zBI h.1,zoN h.2]
 |[],_::_,h=>by cases h
 |_::_,[],h=>by cases h
def zmJ (P:Program)(T:TypeId)(a:List CTy):Bool :=
 match P.info? T with
 |some i=>i.size==a.length&&(match i.zero with
  |some z=>zlz z.cells.toList a
  |none=>false)
 |none=>false
theorem zmK {T:TypeId}{a:List CTy}(h:zmJ P T a=true):∃i z,P.info? T=some i/\i.size=a.length/\i.zero=some z/\z.cells.toList=a.map zeroV:=by unfold zmJ at h;split at h;{rename_i i d;simp only[qD,qH]at h;obtain⟨c,b⟩:=h;split at b;{rename_i z e;exact⟨i,z,d,c,e,zoN b⟩};{cases b}};{cases h}
def zgh (P:Program)(T:TypeId):Bool :=
 (match zbp P 4 T with
  |some (b,a)=>zmJ P T a&&(!b||(match P.underlying T with
   |some (.struct c)=>(c.toList.mapM λf=>(P.info? f.type).map λi=>(f.offset,i.size)).isSome
   |_=>false))
  |none=>true) &&
 (match P.underlying T with
  |some (.slice e)=>match zf zuB e with
   |some t=>zmJ P e t.shape&&(match P.info? e with
    |some i=>decide (i.bytes<=1024)
    |none=>false)&&(match zbp P 4 e with
    |some (_,a)=>decide (a=t.shape)
    |none=>false)
   |none=>true
  |_=>true)
def zji (P:Program):List Field->Nat->List CTy->Bool
 |[],_,[]=>true
 |f::fs,a,ty::tys=>f.name != "_" && f.offset==a&&(match P.underlying f.type,ty with
  |some (.int k),.i c=>k==c
  |some .bool,.b=>true
  |_,_=>false)&&zji P fs (a+1) tys
 |_,_,_=>false
def zus (P:Program)(T:TypeId):Bool :=
 match zbp P 4 T with
 |some (true,a)=>!P.stoodInHeld T && !P.eqGuardType P.depth T&&(match P.underlying T with
  |some (.struct b)=>zji P b.toList 0 a
  |_=>false)
 |_=>true
theorem zuq {n:Nat}{T:TypeId}{a:Bool}{c:List CTy}(h:zbp P n T=some (a,c)) :
 (∃d,P.underlying T=some d/\zvw d=a/\(∀k,c=[.i k]->a=false->d = .int k)/\(c=[.b]->a=false->d = .bool))/\(a=false->c.length=1):=by
 cases n with
 |zero=>cases h
 |succ n=>simp only[zbp]at h;split at h;{rename_i k f;cases h;exact⟨⟨_,f,rfl,λg h _=>by simp only[List.cons.injEq,CTy.i.injEq,and_true]at h;rw[h],λh=>by simp at h⟩,λ_=>rfl⟩};{rename_i f;cases h;exact⟨⟨_,f,rfl,λg h=>by simp at h,λ_ _=>rfl⟩,λ_=>rfl⟩};{rename_i e f;split at h;{cases h;exact⟨⟨_,f,rfl,λg h=>by simp at h,λh=>by simp at h⟩,λ_=>rfl⟩};{cases h}};{rename_i j f;split at h;{cases h;exact⟨⟨_,f,rfl,λg _ h=>(by cases h),λ_ h=>(by cases h)⟩,λh=>by cases h⟩};{cases h}};{cases h}
theorem zqp {b:Type}{T:Nat}{x:Option b}{y:b}(h:below T x=some y):T<zc1/\x=some y:=by unfold below at h;cases a:Nat.blt T zc1 with|false=>rw[a]at h;cases h|true=>rw[a]at h;exact⟨by rwa [uT]at a,h⟩
theorem mapM_at {e f:Type}{g:e->Option f}:∀{l:List e} {m:List f},l.mapM g=some m->∀{k:Nat} {x:e},l[k]?=some x->m[k]?=g x
 |[],m,h,k,x,c=>by simp at c
 |a::l,m,h,k,x,c=>by simp only[uQ,Option.bind_eq_bind,uE,Option.pure_def,qB]at h;obtain⟨b,i,j,d,rfl⟩:=h;cases k with|zero=>simp only[qF,qB]at c;subst c;rw[i];rfl|succ k=>exact mapM_at d (by simpa using c)
theorem zdv {e i:Type}{f:e->Option i}{a:e}{l:List e}{g:List i}(h:zbe f (a::l)=some g):∃b c,f a=some b/\zbe f l=some c/\g=b::c:=by simp only[zbe]at h;split at h;{rename_i b j;split at h;{rename_i c d;cases h;exact⟨b,c,j,d,rfl⟩};{cases h}};{cases h}
theorem zod (w:World)(d:Nat)(v z:Array Value):∀(W:List Field) (g:Nat) (p:List CTy) (l m:List At) (e:Bool),zji P W g p=true->zbe zgf l=some p->zbe zgf m=some p->zje l m=some e->
 v.size=g+l.length->z.size=g+m.length->(∀(j:Nat) (a:At) (u:Value),l[j]?=some a->v[g+j]?=some u->VS a u)->(∀(j:Nat) (a:At) (u:Value),m[j]?=some a->z[g+j]?=some u->VS a u)->
 (Op.eqFields (d+1) v z W).run P w = .ok e w
 |[],g,p,l,m,e,R,X,Y,A,_,_,_,_=>by cases p with|cons t ts=>cases R|nil=>(cases l with|cons a l=>obtain⟨_,_,_,_,h⟩:=zdv X;cases h|nil=>(cases m with|cons a m=>obtain⟨_,_,_,_,h⟩:=zdv Y;cases h|nil=>cases A;simp[Op.eqFields]))
 |f::W,g,p,l,m,e,R,X,Y,A,q,r,hx,hy=>by
  cases p with
  |nil=>cases R
  |cons ty p=>
   cases l with
   |nil=>cases X
   |cons a l=>
    cases m with
    |nil=>cases Y
    |cons c m=>
     obtain⟨ta,a6,O,E,h⟩:=zdv X;cases h;obtain⟨tc,a5,K,F,h⟩:=zdv Y;cases h;simp only[zji,qD,bne_iff_ne,ne_eq,qH]at R;obtain⟨⟨⟨hn,S⟩,B⟩,G⟩:=R;have I:v[g]?=some (v[g]'(by simp only[qU]at q;omega)):=(by simp);have J:z[g]?=some (z[g]'(by simp only[qU]at r;omega)):=by simp
     have T:=hx 0 a _ rfl I;have U:=hy 0 c _ rfl J;have H:∃L,zuM a c=some L/\(part f.type v f.offset).run P w = .ok (v[g]'(by simp only[qU]at q;omega)) w/\(part f.type z f.offset).run P w = .ok (z[g]'(by simp only[qU]at r;omega)) w/\
      (Op.equalIn (d+1) f.type (v[g]'(by simp only[qU]at q;omega))<|z[g]'(by simp only[qU]at r;omega)).run P w = .ok L w:=by
      rw[S];cases a with
      |i k n=>
       simp only[zgf,qB]at O;subst O;cases c with
       |i k' n' =>
        simp only[zgf,qB,CTy.i.injEq]at K;subst K;cases s:P.underlying f.type with
        |none=>rw[s]at B;cases B
        |some D=>
         rw[s]at B;cases D<;>first|(cases B;done)|skip;refine⟨ieq n n',by simp[zuM],by simp[part,isAgg,run_underlying s,I],by simp[part,isAgg,run_underlying s,J],?_⟩;rw[show v[g]'(by simp only[qU]at q;omega) = .int k' n from T,show z[g]'(by simp only[qU]at r;omega) = .int k' n' from U];exact run_equalIn_int w d f.type k' _ n n' s
       |b _=>simp[zgf]at K
       |_=>simp[zgf]at K
      |b x=>
       simp only[zgf,qB]at O;subst O;cases c with
       |b x' =>
        cases s:P.underlying f.type with
        |none=>rw[s]at B;cases B
        |some D=>
         rw[s]at B;cases D<;>first|(cases B;done)|skip;refine⟨zrT x x',by simp[zuM],by simp[part,isAgg,run_underlying s,I],by simp[part,isAgg,run_underlying s,J],?_⟩;rw[show v[g]'(by simp only[qU]at q;omega) = .bool x from T,show z[g]'(by simp only[qU]at r;omega) = .bool x' from U];exact run_equalIn_bool' w d f.type x x' s
       |i _ _=>simp[zgf]at K
       |_=>simp[zgf]at K
      |_=>simp[zgf]at O
     obtain⟨L,Q,a3,a4,a1⟩:=H;have C:∃V,zje l m=some V/\e=(L&&V):=by cases l with|nil=>cases E;(cases m with|nil=>simp only[zje,Q,qB]at A;exact⟨true,rfl,by rw[<- A];simp⟩|cons c2 m=>obtain⟨_,_,_,_,h⟩:=zdv F;cases h)|cons a2 l=>(cases m with|nil=>cases F;obtain⟨_,_,_,_,h⟩:=zdv E;cases h|cons c2 m=>simp only[zje,Q]at A;split at A;{rename_i x y M N;cases M;cases A;exact⟨y,by simpa [zje] using N,rfl⟩};{cases A})
     obtain⟨V,a0,rfl⟩:=C;have ih:=zod w d v z W (g+1) p l m V G E F a0 (by simp only[qU]at q;omega) (by simp only[qU]at r;omega)
      (λj Z u M N=>hx (j+1) Z u (by simpa using M) (by rw[<- N];congr 1;omega)) (λj Z u M N=>hy (j+1) Z u (by simpa using M) (by rw[<- N];congr 1;omega))
     simp only[Op.eqFields,ne_eq,hn,not_false_eq_true,if_true,Sem.run_bind,a3,a4,Result.andThen_ok,a1,Sem.run_ite,ih];cases L<;>simp
theorem zBU {C:Cfg}(W:C.P=P)(hs:∀T,C.sty T=below T (zjH P T))(X:∀T,C.cty T=below T (zbp P 4 T))(Q:∀T f,C.fof T f=zit P T f)(B:(List.range zc1).all (zgh P)=true)(J:∀T,C.eqt T=true->T<zc1->zus P T=true):CfgOk C:=by subst W;have v:∀T,T<zc1->zgh C.P T=true:=λT r=>qJ.1 B T (j3.2 r);have k:∀T g c,C.cty T=some (g,c)->T<zc1/\zbp C.P 4 T=some (g,c):=λT g c h=>zqp (by rw[<- X];exact h);refine⟨λT g c h=>?_,λT t h=>?_,λT f N n h=>?_,λT c h=>?_,λT c Y h l m e G H w x y op Z hm hq E F=>?_⟩;{obtain⟨r,h⟩:=k T g c h;obtain⟨q,d⟩:=zuq h;have:=v T r;unfold zgh at this;rw[h] at this;simp only[qD] at this;exact⟨q,zmK this.1.1,d⟩};{rw [hs]at h;obtain⟨r,h⟩:=zqp h;unfold zjH at h;split at h;{rename_i e p;have:=v T r;unfold zgh at this;rw[p] at this;simp only[h,qD] at this;obtain⟨_,⟨q,d⟩,_⟩:=this;obtain⟨i,z,O,S,U,V⟩:=zmK q;rw[O]at d;exact⟨e,p,i,z,O,by rw[S,zcn],U,V,by simpa using d⟩};{cases h}};{rw [Q]at h;unfold zit at h;split at h;{rename_i A p;split at h;{rename_i x M;split at h;{rename_i i K;split at h;{cases h};{rename_i L;cases h;exact⟨A,x,i,p,M,rfl,K,rfl,L⟩}};{cases h}};{cases h}};{cases h}};{obtain⟨r,h⟩:=k T true c h;have:=v T r;unfold zgh at this;rw[h] at this;simp only[qD,j9,Bool.not_true,kC,false_or] at this;obtain⟨⟨_,d⟩,_⟩:=this;split at d;{rename_i A p;obtain⟨s,R⟩:=uD.1 d;refine⟨A,s,p,R,λf N n b=>?_⟩;rw[Q]at b;unfold zit at b;rw[p]at b;simp only at b;split at b;{rename_i x M;split at b;{rename_i i K;split at b;{cases b};{cases b;rw[mapM_at R (by simpa using M),K];rfl}};{cases b}};{cases b}};{cases d}};{obtain⟨r,h⟩:=k T true c h;have:=J T Y r;unfold zus at this;rw[h] at this;simp only[qD,jF] at this;obtain⟨⟨q,d⟩,I⟩:=this;split at I;{rename_i A p;have D:C.P.fieldsOf T=A:=(by simp[Program.fieldsOf,p]);refine⟨run_eqGuard_agg w op T x y G H d,?_⟩;show (Op.equalIn (9999+1) T (.agg G)<|.agg H).run C.P w=_;rw[run_equalIn_struct w 9999 T G H (by rw[D];exact p) q,D];exact zod w 9998 G H A.toList 0 c l m e I Z hm hq (by rw[E.1];omega) (by rw[F.1];omega) (λj a u q d=>E.2 j a u q (by simpa using d)) (λj a u q d=>F.2 j a u q (by simpa using d))};{cases I}}
end
inductive CVOk:CV->Prop
 |i (k:IntKind) (n:Int) (h:k.min<=n/\n<=k.max):CVOk (.i k n)
 |b (x:Bool):CVOk (.b x)
 |s (t:Ty) (l:List t.den) (hl:l.length<=big) (h:∀(i:Nat) (x:t.den),l[i]?=some x->∀(j:Nat) (c:CV),(t.cells x)[j]?=some c->CVOk c):CVOk (.s t l)
section
variable {P:Program}
def zku (P:Program)(b:Nat):List Field->Nat->Bool
 |[],a=>a==b
 |f::fs,a=>f.offset==a&&Nat.blt f.type zc1&&zku P b fs (a+P.cellsOf f.type)
def zkS (P:Program)(T:TypeId):Bool :=
 match P.underlying T with
 |some (.struct a)=>match zbp P 4 T with
  |some _=>zku P (P.cellsOf T) a.toList 0
  |none=>true
 |some (.slice e)=>match zf zuB e with
  |some _=>Nat.blt e zc1&&Nat.ble 1 (P.bytesOf e)
  |none=>true
 |_=>true
theorem zoo {e i:Type}{f g:e->Option i}(c:∀x y,f x=some y->g x=some y):∀{l:List e} {d:List i},zbe f l=some d->zbe g l=some d
 |[],_,h=>h
 |a::l,d,h=>by obtain⟨b,j,k,m,rfl⟩:=zdv h;simp only[zbe,c a b k,zoo c m]
theorem zkL:∀{n:Nat} {T:TypeId} {x:Bool×List CTy},zbp P n T=some x->zbp P (n+1) T=some x
 | 0,_,_,h=>by cases h
 |n+1,T,x,h=>by rw[zbp]at h;rw[zbp];split at h;{exact h};{exact h};{exact h};{rename_i d e;split at h;{rename_i l b;rw[zoo (f:=_) (g:=_) ?_ b];{exact h};{intro f y a;split at a;{rename_i z c;cases a;rw[zkL c]};{cases a}}};{cases h}};{cases h}
theorem zwV {T:TypeId}{a:List CTy}(h:zmJ P T a=true):P.cellsOf T=a.length:=by obtain⟨i,z,b,c,_⟩:=zmK h;simp[Program.cellsOf,b,c]
theorem zDx {k:IntKind}{n:Int}(h:(Lit.int k n).wf=true):k.min<=n/\n<=k.max:=by simpa [Lit.wf] using h
theorem all_append {l m:List Nat}(h:(l++m).all (·<=reachBytes)=true):l.all (·<=reachBytes)=true/\m.all (·<=reachBytes)=true:=by simpa [List.all_append] using h
theorem zlR {H:Type}{e:TypeId}:∀{l:List (DataW H)},(DataW.weightsAll P e l).all (·<=reachBytes)=true->∀{i:Nat} {d:DataW H},l[i]?=some d->(d.weights P e).all (·<=reachBytes)=true
 |[],_,i,d,h=>by simp at h
 |x::l,a,i,d,h=>by simp only[DataW.weightsAll]at a;obtain⟨b,c⟩:=all_append a;cases i with|zero=>simp at h;subst h;exact b|succ i=>exact zlR c (by simpa using h)
def Opened (W:World)(d:List Value)(a:List CTy):Prop :=
 ∃cvs:List CV,cvs.map CV.ty=a/\d.length=cvs.length/\∀(j:Nat) (c:CV) (u:Value),cvs[j]?=some c->d[j]?=some u->Rep false W u c (λb=>b<W.heap.size)/\CVOk c
theorem Opened.append {W:World}{f g:List Value}{h i:List CTy}(r:Opened W f h)(s:Opened W g i):Opened W (f++g) (h++i):=by obtain⟨e,k,d,p⟩:=r;obtain⟨n,l,m,q⟩:=s;refine⟨e++n,by simp[k,l],by simp[d,m],λj c u a b=>?_⟩;by_cases t:j<e.length;{rw [qS t]at a;rw[qS (by omega)]at b;exact p j c u a b};{rw [qO (by omega)]at a;rw[qO (by omega)]at b;exact q _ c u a (by rw[<- d];exact b)}
theorem zqv {b:Type}:∀(n:Nat) (p:Nat->b->Prop),(∀i,i<n->∃x,p i x)->∃l:List b,l.length=n/\∀i x,l[i]?=some x->p i x
 | 0,p,_=>⟨[],rfl,λi x h=>by simp at h⟩
 |n+1,p,h=>by obtain⟨x,e⟩:=h 0 (by omega);obtain⟨l,c,d⟩:=zqv n (λi=>p (i+1)) (λi f=>h (i+1) (by omega));refine⟨x::l,by simp[c],λi y a=>?_⟩;cases i with|zero=>simp at a;subst a;exact e|succ i=>exact d i y (by simpa using a)
theorem cells?_get {W:World}{a:Addr}{n:Nat}{b:List Value}(h:W.cells? 0 a n=some b):b.length=n/\∀i,i<n->W.cell? (a.add i)=b[i]?:=by unfold World.cells? at h;rw[if_pos<|kA _]at h;refine⟨by simpa using mapM_some_length h,λi c=>mapM_some_get h i i (by simp[c])⟩
theorem addr_add (a:Addr)(h:a.spot=none)(n m:Nat):(a.add n).add m=⟨a.block,a.off+n+m,none⟩:=by obtain⟨b,o,s⟩:=a;simp only at h;subst h;rw[add_lit,add_lit]
theorem zzi (b6:∀T,T<zc1->zgh P T=true/\zkS P T=true){H:Type}{a3:TypeId×Value->H}{W:World} :
 ∀(F:Nat) (T:TypeId) (Z:List Value) (x:DataW H×List MemPlace),T<zc1->∀(b4:Bool) (b3:List CTy),zbp P 4 T=some (b4,b3)->
  DataW.trod a3 P W 0 (λ_=>true) true F T Z=some x->(x.1.weights P T).all (·<=reachBytes)=true->Opened W Z b3:=by
 intro F
 induction F using Nat.strongRecOn with
 |_ F ih=>
  intro T Z x hT b4 b3 d hx hw;obtain⟨U,C⟩:=b6 T hT;have c1:=d;rw[zbp]at d;split at d;{rename_i k I;cases d;obtain⟨n,rfl,rfl,d9⟩:=DataW.trod_int I hx;refine⟨[.i k n],rfl,rfl,λj c u r q=>?_⟩;cases j with|zero=>simp at r q;subst r q;exact⟨.i k n _,.i k n<|zDx d9⟩|succ j=>simp at r};{rename_i I;cases d;obtain⟨b,rfl,rfl⟩:=DataW.trod_bool I hx;refine⟨[.b b],rfl,rfl,λj c u r q=>?_⟩;cases j with|zero=>simp at r q;subst r q;exact⟨.b b _,.b b⟩|succ j=>simp at r};{rename_i e I;split at d;{rename_i t b7;cases d;have a4:∀(v:Value) (l:List t.den),Rep false W v (.s t l) (λb=>b<W.heap.size)->CVOk (.s t l)->Opened W [v] [.s t]:=(by intro v l D S;refine⟨[.s t l],rfl,rfl,λj c u r q=>?_⟩;cases j with|zero=>simp at r q;subst r q;exact⟨D,S⟩|succ j=>simp at r);have K:CVOk (.s t []):=.s t [] (kA _) (λi x h=>by simp at h);rcases DataW.trod_slice I hx with⟨rfl,rfl⟩|⟨a,len,p,A,R,n,rfl,rfl,rfl,_,e8,e6,e7,a0,d5,_⟩;{exact a4 _ [] (.nil t _) K};{obtain⟨e9,Q⟩:=d5 rfl;by_cases b5:p=0;{subst b5;have d0:len=0:=(by omega);subst d0;exact a4 _ [] (.void t a _ rfl) K};{unfold zgh at U;rw[I]at U;simp only[b7,qD]at U;obtain⟨_,⟨a7,_⟩,V⟩:=U;unfold zkS at C;rw[I]at C;simp only[b7,qD,uT,Nat.ble_eq]at C;obtain⟨he,c6⟩:=C;have c7:P.cellsOf e=t.width:=(by rw[zwV a7,zcn]);have b2:0<t.width:=(by cases t<;>simp [Ty.width]);rw[c7]at a0 Q;have N:∀i,i<p->∃w,W.cells? 0 (a.add<|i*t.width) t.width=some w/\(i<len->∃y,DataW.trod a3 P W 0 (λ_=>true) true n e w=some y/\A[i]?=some y):=(by intro i X;by_cases b9:i<len;{have D:=a0 i b9;rw[qC (by omega)]at D;obtain⟨w,S,h3⟩:=uE.1 D;exact⟨w,S,λ_=>⟨_,h3,qC (by omega)⟩⟩};{have D:=Q (i-len) (by omega);rw[qC (by omega)]at D;obtain⟨w,S,h3⟩:=uE.1 D;have e1:len+(i-len)=i:=(by omega);rw[e1]at S;exact⟨w,S,λh=>absurd h b9⟩});have M:∀i j,i<p->j<t.width->∃v,W.cell? ((a.add<|i*t.width).add j)=some v:=(by intro i j X hj;obtain⟨w,D,_⟩:=N i X;obtain⟨S,h3⟩:=cells?_get D;exact⟨_,(h3 j hj).trans (qC (by omega))⟩);obtain⟨v0,G⟩:=M 0 0 (by omega) b2;have a5:(a.add<|0*t.width).add 0=a:=(by simp[Addr.add]);rw[a5]at G;obtain⟨m,et,fz,hb,E⟩:∃m et fz,W.heap[a.block]?=some (.cells m et fz)/\a.spot=none:=(by unfold World.cell? at G;split at G;{rename_i c et fz hb;split at G;{cases G};{rename_i hs;exact⟨c,et,fz,hb,by simpa using hs⟩}};{cases G});have L:∀i j,W.cell? ((a.add<|i*t.width).add j)=m[a.off+i*t.width+j]?:=(by intro i j;rw[addr_add a E,cell_of_block hb]);have a9:a.off+p*t.width<=m.size:=(by obtain⟨v,hv⟩:=M (p-1) (t.width-1) (by omega) (by omega);rw[L]at hv;have:=(qK.1 hv).1;have D:(p-1)*t.width+t.width=p*t.width:=(by rw[<- jA];congr 1;omega);omega);have c2:((DataW.slice (A.map (·.1))<|R.map (·.1)).weights P T).all (·<=reachBytes)=true:=hw;simp only[DataW.weights,I,k5,qD,jC,uN]at c2;obtain⟨c4,b1⟩:=c2;obtain⟨b1,_⟩:=all_append b1;have O:len<=big:=(by have D:(A.length+R.length)*1<=(A.length+R.length)*P.bytesOf e:=Nat.mul_le_mul_left _ c6;have:reachBytes<=big:=(by decide);omega);split at V;{rename_i J a2 d6;simp only[jC]at V;subst V;have c9:∀i,i<len->∃y:t.den,∀(j:Nat) (c:CV) (u:Value),(t.cells y)[j]?=some c->m[a.off+i*t.width+j]?=some u->Rep false W u c (λb=>b<W.heap.size)/\CVOk c:=(by intro i X;obtain⟨w,D,S⟩:=N i (by omega);obtain⟨y,h3,h4⟩:=S X;obtain⟨cvs,g1,g2,g3⟩:=ih n (by omega) e w y he J t.shape d6 h3 (zlR b1 (by rw[qM,h4];rfl));obtain⟨z,Y⟩:=zri g1;refine⟨z,λj c u r q=>g3 j c u ?_ ?_⟩;{rw [<- zdi Y];exact r};{obtain⟨k1,k2⟩:=cells?_get D;have hj:j<t.width:=(by have:=(qA.1 r).1;rwa [zbu] at this);rw[<- k2 j hj,L];exact q});obtain⟨l,d1,c0⟩:=zqv len _ c9;have b0:∀i j,i<l.length->j<t.width->m[a.off+i*t.width+j]?=some ((m[a.off+i*t.width+j]?).getD undef):=(by intro i j X hj;have D:(i+1)*t.width<=p*t.width:=qI _ (by omega);rw[jA]at D;have:a.off+i*t.width+j<m.size:=(by omega);simp[this]);have a1:Rep false W (.slice (some ⟨a.block,a.off,none⟩) l.length p) (.s t l) (λb=>b<W.heap.size):=(by refine .sl t l a.block a.off p m et fz (λi j=>(m[a.off+i*t.width+j]?).getD undef) (λ_ _ b=>b<W.heap.size) _ hb (λh=>by cases h) (by omega) (by omega) a9 ?_ (λi j x _ _ hx=>⟨hx,λh=>by cases h⟩) (λh=>by cases h) b0 ?_;{exact(qK.1 hb).1};{intro i z Y j c r;have X:i<l.length:=(qA.1 Y).1;have hj:j<t.width:=(by have:=(qA.1 r).1;rwa [zbu] at this);exact(c0 i z Y j c _ r<|b0 i j X hj).1});have ha:a=⟨a.block,a.off,none⟩:=(by obtain⟨b,o,s⟩:=a;simp only at E;subst E;rfl);rw[d1,<- ha]at a1;refine a4 _ l a1 (.s t l (by omega) λi z Y j c r=>?_);have X:i<l.length:=(qA.1 Y).1;have hj:j<t.width:=(by have:=(qA.1 r).1;rwa [zbu] at this);exact(c0 i z Y j c _ r<|b0 i j X hj).2};{cases V}}}};{cases d}}
  .rename_i fs I;split at d
   .rename_i l hl;cases d;obtain⟨xs,n,rfl,rfl,c8,e2,b8⟩:=DataW.trod_struct I hx;unfold zkS at C;rw[I,c1]at C;simp only at C;have e0:(DataW.weightsEach P (fs.toList.map (·.type))<|xs.map (·.1)).all (·<=reachBytes)=true:=by have:((DataW.agg<|xs.map (·.1)).weights P T).all (·<=reachBytes)=true:=hw;simpa only [DataW.weights,I] using this
    have e4:∀(gs:List Field) (ys:List (DataW H×List MemPlace)) (ls:List (List CTy)) (B:Nat),zku P (P.cellsOf T) gs B=true->gs.length=ys.length->
     (∀(i:Nat) (f:Field),gs[i]?=some f->DataW.trod a3 P W 0 (λ_=>true) true n f.type ((Z.drop f.offset).take (P.cellsOf f.type))=ys[i]?)->
     zbe (λ(f:Field)=>match zbp P 3 f.type with|some x=>some x.2|none=>none) gs=some ls->(DataW.weightsEach P (gs.map (·.type))<|ys.map (·.1)).all (·<=reachBytes)=true->
     B<=P.cellsOf T/\Opened W (Z.drop B) ls.flatten:=by
     intro gs
     induction gs with
     |nil=>intro ys ls B ho _ _ a8 _;cases a8;simp only[zku,qH]at ho;subst ho;refine⟨qV _,[],rfl,by simp[c8],λj c u h=>by simp at h⟩
     |cons f gs e3=>intro ys ls B ho O hf a8 c3;obtain⟨b,e5,a6,c5,rfl⟩:=zdv a8;cases ys with|nil=>simp at O|cons y ys=>simp only[zku,qD,qH,uT]at ho;obtain⟨⟨d2,d3⟩,d4⟩:=ho;split at a6;{rename_i z Y;cases a6;obtain⟨J,a2⟩:=z;have hy:=hf 0 f rfl;simp only[qF]at hy;simp only[qZ,DataW.weightsEach]at c3;obtain⟨d7,d8⟩:=all_append c3;have h4:=zkL Y;obtain⟨g1,g2⟩:=e3 ys e5 (B+P.cellsOf f.type) d4 (by simpa using O) (λi g hg=>by simpa using hf (i+1) g (by simpa using hg)) c5 d8;have o1:=ih n (by omega) f.type _ y d3 J a2 h4 hy d7;rw[d2] at o1;refine⟨by omega,?_⟩;have e1:Z.drop B=(Z.drop B).take (P.cellsOf f.type)++Z.drop (B+P.cellsOf f.type):=(by rw[<- List.drop_drop,List.take_append_drop]);rw[e1];exact Opened.append o1 g2};{cases a6}
    have:=(e4 fs.toList xs l 0 C (by simp[e2]) (λi f hf=>b8 i f (by simpa using hf)) hl e0).2;simpa using this
   {cases d}
  {cases d}
end
theorem zxJ:(List.range zc1).all (zgh Try.prog)=true:=by kernel_rfl
theorem zGb:znF.all (λT=>!Nat.blt T zc1||zus Try.prog T)=true:=by kernel_rfl
theorem zBW:Try.prog.funcs.toList.all (λa=>!(a.name == "runtime.NumGoroutine"))=true:=by kernel_rfl
theorem zFa (T:TypeId)(a:znF.contains T=true)(d:T<zc1):zus Try.prog T=true:=by have c:T∈znF:=(by revert a;generalize znF=l;intro a;simpa using a);have e:Nat.blt T zc1=true:=(by rw[uT];exact d);have b:=qJ.1 zGb T c;rw[e,Bool.not_true,Bool.false_or]at b;exact b
theorem zGa (a:FuncId->Option (List AV->Option (Bool×List AV)))(b:FuncId->Option (CV->Int->Option (Bool×CV×Int)))(c:FuncId->Option (List Bool×(List CV->List AV->Option (Bool×List CV×List AV))))(d:FuncId->Option (List Bool×Option (Nat×Nat×List (List Nat))×(List AV->Option (Bool×List AV)))):CfgOk (zfs a b c d):=by have e:(zfs a b c d).P=Try.prog:=(by simp only[zfs]);have g:∀T,(zfs a b c d).sty T=below T (zjH Try.prog T):=λ_=>(by simp only[zfs]);have i:∀T,(zfs a b c d).cty T=below T (zbp Try.prog 4 T):=λ_=>(by simp only[zfs]);have j:∀T f,(zfs a b c d).fof T f=zit Try.prog T f:=λ_ _=>(by simp only[zfs]);have k:∀T,(zfs a b c d).eqt T=znF.contains T:=λ_=>(by simp only[zfs]);refine zBU e g i j zxJ ?_;intro T h l;rw[k]at h;exact zFa T h l
theorem zFB (a:FuncId->Option (List AV->Option (Bool×List AV)))(b:FuncId->Option (CV->Int->Option (Bool×CV×Int)))(c:FuncId->Option (List Bool×(List CV->List AV->Option (Bool×List CV×List AV))))(d:FuncId->Option (List Bool×Option (Nat×Nat×List (List Nat))×(List AV->Option (Bool×List AV)))):NameOk (zfs a b c d):=by
 refine⟨λf e g=>?_⟩;have:=qJ.1 zBW e (by
  have:Try.prog.funcs[f]?=some e:=g;rw[<- kJ] at this;exact qG this)
 simpa using this
theorem zf5 {b:FuncId->Option (List AV->Option (Bool×List AV))}{c:FuncId->Option (CV->Int->Option (Bool×CV×Int))}{d:FuncId->Option (List Bool×(List CV->List AV->Option (Bool×List CV×List AV)))}{e:FuncId->Option (List Bool×Option (Nat×Nat×List (List Nat))×(List AV->Option (Bool×List AV)))}(h:∀f a,b f=some a->Holds Try.prog f a)(p:∀f a,c f=some a->zqk Try.prog f a)(q:∀f own a,d f=some (own,a)->zcO Try.prog f own a)(m:∀f own g a,e f=some (own,g,a)->zj9 Try.prog f own g a):EngOk (zfs b c d e):=by have i:=zGa b c d e;have k:CtrOk (zfs b c d e):=⟨h,λf g a n=>m f [] g a n⟩;have j:=zCD i ⟨p⟩ ⟨q⟩ ⟨m⟩;have l:=zFB b c d e;exact⟨i,k,j,l,zFo i k j l⟩
section
open Go Go.ChangeShapes Go.WideShapes Go.ChangeAt
def AV.sh:AV->Bool×List CTy
 |.one c=>(false,[c.ty])
 |.agg l=>(true,l.map CV.ty)
section
variable {P:Program}
theorem zta {T:TypeId}{a:Bool}{b:List CTy}(h:zbp P 4 T=some (a,b)) :
 (a=true/\∃c,P.underlying T=some (.struct c))\/(a=false/\b.length=1/\((∃k,P.underlying T=some (.int k))\/P.underlying T=some .bool\/∃e,P.underlying T=some (.slice e))):=by
 rw[zbp]at h;split at h
 .rename_i k hu;cases h;exact .inr ⟨rfl,rfl,.inl ⟨k,hu⟩⟩
 .rename_i hu;cases h;exact .inr ⟨rfl,rfl,.inr<|.inl hu⟩
 .rename_i e hu;split at h
  .cases h;exact .inr ⟨rfl,rfl,.inr<|.inr ⟨e,hu⟩⟩
  .cases h
 .rename_i c hu;split at h
  .cases h;exact .inl ⟨rfl,c,hu⟩
  .cases h
 .cases h
theorem zAZ {W:World}{T:TypeId}{v:Value}{a:Nat}(b:(∃k,P.underlying T=some (.int k))\/P.underlying T=some .bool\/∃e,P.underlying T=some (.slice e))(h:Value.okWide P W .any a T v):v.cells = #[v]:=by
 cases v with
 |agg c=>exfalso;rcases b with⟨k,b⟩|b|⟨e,b⟩<;>simp [Value.okWide,b,Cell.okWide,Cell.ok]at h
 |_=>rfl
theorem ztJ (k:∀T,T<zc1->zgh P T=true/\zkS P T=true){H:Type}{K:TypeId×Value->H}{W:World}{u:Nat} :
 ∀(r:List TypeId) (z:List Value) (B:List (DataW H)) (p:List MemPlace),DataW.TrodAll K P W 0 (fun _=>true) true r z B p->
  (∀(j:Nat) (t:TypeId) (v:Value),r[j]?=some t->z[j]?=some v->Value.okWide P W .any u t v)->(∀t∈r,t<zc1/\(zbp P 4 t).isSome=true)->
  (DataW.weightsEach P r B).all (·<=reachBytes)=true->
  ∃(f:List AV) (D:List Value),f.map (fun a=>some a.sh)=r.map (zbp P 4)/\zb6 false W (zh f) D (fun _ b=>b<W.heap.size)/\zY f D=z/\∀c∈zh f,CVOk c
 |[],z,B,p,h,_,_,_=>by obtain⟨rfl,rfl,rfl⟩:=trodAll_nil h;exact⟨[],[],rfl,⟨rfl,fun i c x h=>by simp[zh]at h⟩,rfl,fun c h=>by simp[zh]at h⟩
 |T::r,z,B,p,h,hv,ht,hw=>by
  obtain⟨v,U,d,I,p1,q,rfl,rfl,rfl,L,M⟩:=trodAll_cons h;simp only[DataW.weightsEach]at hw;obtain⟨Q,R⟩:=all_append hw;obtain⟨f,D,X,g2,Y,g4⟩:=ztJ k r U I q M (fun j t v L M=>hv (j+1) t v (by simpa using L) (by simpa using M)) (fun t h=>ht t (by simp[h])) R;obtain⟨hT,m⟩:=ht T (by simp);obtain⟨⟨G,S⟩,g⟩:=uD.1 m;obtain⟨w,hf⟩:=L;obtain⟨cvs,J,C,V⟩:=zzi k w T _ _ hT G S g hf Q;have n:=hv 0 T v rfl rfl;have s:∀a:AV,a.cvs=cvs->zb6 false W (zh (a::f)) (v.cells.toList++D) (fun _ b=>b<W.heap.size)/\∀c∈zh (a::f),CVOk c:=(by intro a ha;have e:zh (a::f)=cvs++zh f:=(by simp[zh,ha]);rw[e];refine⟨zb6.append ⟨C,fun i c x l hx=>(V i c x l hx).1⟩ g2,fun c l=>?_⟩;rcases jJ.1 l with l|l;{obtain⟨i,Z⟩:=qQ.1 l;have N:i<v.cells.toList.length:=(by rw[C];exact(qA.1 Z).1);exact(V i c _ Z (qC N)).2};{exact g4 c l});rcases zta g with⟨rfl,fs,O⟩|⟨rfl,y,O⟩;{obtain⟨A,rfl,_⟩:∃A,v = .agg A/\True:=(by simp only[Value.okWide,O]at n;obtain⟨A,h,_⟩:=n;exact⟨A,h,trivial⟩);obtain⟨E,F⟩:=s (.agg cvs) rfl;refine⟨.agg cvs::f,_,?_,E,?_,F⟩;{rw [qZ,qZ,X,g];simp only[AV.sh,J]};{simp only [Value.cells] at C;simp only[zY,Value.cells,<- C,kE,kV,Y,jN]}}
  .have hcells:=zAZ O n;rw[<- J]at y;obtain ⟨c,rfl⟩:∃c,cvs=[c]:=by
    match cvs,y with
    |[c],_=>exact⟨c,rfl⟩
   obtain⟨E,F⟩:=s (.one c) rfl;refine⟨.one c::f,_,?_,E,?_,F⟩;{rw [qZ,qZ,X,g,<- J];rfl};{rw [hcells];simp only[zY];simp[Y]}
theorem zlQ (r:laidOutB P=true){H:Type}{b:TypeId×Value->H}{W m:World}(n:Go.RowKit.Below W.heap.size W m){u:Nat->Bool}:∀(g:List TypeId) (j:List Value) (i:List (DataW H)) (f:List MemPlace),(∀t∈g,P.readableRec t=true/\t<P.types.size)->
 DataW.TrodAll b P W 0 (λ_=>true) true g j i f->(∀x∈f,x.block<W.heap.size/\u x.block=true)->DataW.TrodAll b P m 0 u true g j i f
 |[],j,i,f,_,h,_=>by obtain⟨rfl,rfl,rfl⟩:=trodAll_nil h;exact rfl
 |T::g,j,i,f,s,h,a=>by
  obtain⟨v,l,d,k,p,q,rfl,rfl,rfl,w,y⟩:=trodAll_cons h;obtain⟨z,c⟩:=s T (by simp)
  exact⟨p,q,WideElems.Trod_stays r z c w (λx e=>n.same (a x<|jS _ e).1) λx e=>(a x<|jS _ e).2,
   zlQ r n g l k q (λt h=>s t (by simp[h])) y λx e=>a x (j6 _ e),rfl⟩
theorem zt9 {W b:World}(h:Grown W b)(a:MemPlace->Prop):W.keptBut b a:=by
 refine⟨h.os,h.output,λi c=>?_⟩;rw[h.keep i c];cases d:W.heap[i]? with
 |none=>rfl
 |some o=>cases o<;>first|rfl|exact⟨rfl,rfl,rfl,λ_ _=>rfl⟩|exact .inr ⟨rfl,rfl⟩
def zA6 (P:Program)(a:List TypeId):Bool:=a.all λT=>Nat.blt T zc1&&(zbp P 4 T).isSome&&P.readableRec T&&Nat.blt T P.types.size
def zDC (P:Program)(d:List TypeId)(b:List AV):Prop:=b.map (λa=>some a.sh)=d.map (zbp P 4)/\∀c∈zh b,CVOk c
def zuC (P:Program)(f:FuncId)(d:List TypeId):Prop :=
 ∃c,Holds P f c/\∀a,zDC P d a->c a=some (true,[.one<|.b true])
theorem zq5 (L:∀T,T<zc1->zgh P T=true/\zkS P T=true)(a0:laidOutB P=true){s:ChangeSpec}{f:FuncId}{u:Func}{B:TypeId}(k:s.vars=[])(F:∀(H:Type) (i:List (DataW H)),i.length=u.params.toList.length->s.fn H i={results:=[.lit<|.bool true],args:=i})(a:zA6 P u.params.toList=true)(O:u.resultTypes = #[B])(hB:P.underlying B=some .bool)(hl:zuC P f u.params.toList){H:Type}{enc:TypeId×Value->H}{apart D l:Bool}(W:World)(A:Nat)(g:Array Value)(i gs:List (DataW H))(w:List MemPlace)(U:∀(j:Nat) t v,u.params[j]?=some t->g[j]?=some v->Value.okWide P W .any A t v)(hW:DataW.Whole enc P u.params.toList s.vars apart W g.toList i gs w)(R:(DataW.weightsEach P (u.params.toList++s.plain.varTypes P)<|i++gs).all (·<=reachBytes)=true) :
 Calls P f g W λe W'=>∃v,e = .returned v/\s.post enc P u apart D l false W g v W':=by
 have J:=hW;obtain⟨p,q,I,hV,rfl,a4,a5⟩:=hW;rw[k]at hV;obtain⟨rfl,rfl⟩:=trodVars_none hV;have a2:s.plain.varTypes P=[]:=by unfold DataSpec.varTypes;show s.vars.filterMap _=[];rw[k];rfl
 rw[a2,jB,jB]at R;unfold zA6 at a;simp only[qJ,qD,uT]at a;have G:∀(j:Nat) (t:TypeId) (v:Value),u.params.toList[j]?=some t->g.toList[j]?=some v->Value.okWide P W .any A t v:=by intro j t v h1 X;rw[kJ]at h1 X;exact U j t v h1 X
 obtain⟨C,xs,g1,g2,g3,g4⟩:=ztJ L u.params.toList g.toList i p I G (λt S=>⟨(a t S).1.1.1,(a t S).1.1.2⟩) R;obtain⟨a6,hH,Q⟩:=hl;have m:=hH.2 W C xs _ g2 (Q C ⟨g1,g4⟩);have E:(zY C xs).toArray=g:=by rw[g3,jN]
 rw[E]at m;have n:∀(V:List TypeId) (vs:List Value) (i:List (DataW H)) (ps:List MemPlace),DataW.TrodAll enc P W 0 (λ_=>true) true V vs i ps->i.length=V.length:=by intro V;induction V with|nil=>intro vs i ps h;obtain⟨_,rfl,_⟩:=trodAll_nil h;rfl|cons t V ih=>intro vs i ps h;obtain⟨v,a3,d,Z,p,q,rfl,rfl,rfl,_,X⟩:=trodAll_cons h;simp[ih a3 Z q X]
 refine m.mono ?_;intro e W1 he;cases e with
 |panicked c=>exact he.elim
 |outgrown=>exact he.elim
 |returned v=>
  obtain⟨hg,ys,K,N,hv,_⟩:=he;have a1:v = .bool true:=by
   match ys,N with
   |[],h=>exact absurd h.1 (by simp[zh,AV.cvs])
   |[y],h=>have:=(h.2 0 (.b true) y rfl rfl).bool_inv;rw[hv,this];rfl
   |y::z::r,h=>exact absurd h.1 (by simp[zh,AV.cvs])
  subst a1;refine⟨_,rfl,i,[],p++[],[],p,[],J,?_,?_,?_,zt9 hg _,λh=>by cases h⟩;{rw [jB,F H i<|n _ _ _ _ I,O];exact⟨[],[],⟨1,by simp[DataW.trod,hB,Value.cells]⟩,rfl,rfl⟩};{rw [jB,F H i<|n _ _ _ _ I];have hb:Go.RowKit.Below W.heap.size W W1:=⟨hg.os,hg.tape,hg.output,hg.size,hg.keep⟩;have M:∀x∈p,x.block<W.heap.size:=λx Y=>(by simpa using J.lt x (jS _ Y));exact zlQ a0 hb _ _ _ _ (λt S=>⟨(a t S).1.2,(a t S).2⟩) I (λx Y=>⟨M x Y,by simpa using M x Y⟩)};{rw [k,jB,F H i<|n _ _ _ _ I];rfl}
end
theorem zGc:(List.range zc1).all (zkS Try.prog)=true:=by kernel_rfl
theorem zCK:laidOutB Try.prog=true:=by kernel_rfl
theorem own:ownKnob Try.prog.godebug=none:=by kernel_rfl
theorem zBV (T:TypeId)(a:T<zc1):zgh Try.prog T=true/\zkS Try.prog T=true :=
 ⟨qJ.1 zxJ T<|j3.2 a,qJ.1 zGc T<|j3.2 a⟩
abbrev Good (b:List TypeId)(a:List AV):Prop:=zDC Try.prog b a
abbrev zxB (f:FuncId)(a:List TypeId):Prop:=zuC Try.prog f a
theorem zwS {d:FuncId->Option (List AV->Option (Bool×List AV))}{l:FuncId->Option (CV->Int->Option (Bool×CV×Int))}{m:FuncId->Option (List Bool×(List CV->List AV->Option (Bool×List CV×List AV)))}{n:FuncId->Option (List Bool×Option (Nat×Nat×List (List Nat))×(List AV->Option (Bool×List AV)))}(e:∀f a,d f=some a->Holds Try.prog f a)(g:∀f a,l f=some a->zqk Try.prog f a)(i:∀f own a,m f=some (own,a)->zcO Try.prog f own a)(j:∀f own k a,n f=some (own,k,a)->zj9 Try.prog f own k a){f:FuncId}{r:List TypeId}(s:FnOk Try.prog f)(h:∀c,Good r c->∃q N D,evalFn (zfs d l m n) q N D f c=some [.one<|.b true]):zxB f r:=by refine⟨λc=>open Classical in if Good r c then some (true,[.one<|.b true]) else none,zlI (zf5 e g i j) s ?_,λc hg=>by simp[hg]⟩;intro c t _ p;split at p;{rename_i hg;cases p;exact h c hg};{cases p}
end
def St.blkEnd (e:St):List Bool->List At->List MV->Option (List CV×List Nat)
 |[],[],[]=>some ([],[])
 |own::ms,a::r,h::hs=>
  match St.blkEnd e ms r hs with
  |none=>none
  |some (d,c) =>
   match a with
   |.i k n=>some (.i k n::d,c)
   |.b x=>some (.b x::d,c)
   |.sl q [] =>
    match e.root q with
    |some R=>
     match own with
     |true=>if R.own && !c.contains q then some (.s R.t R.l::d,q::c) else none
     |false=>
      match h with
      |.v (.at<|.sl f [])=>if q==f then some (.s R.t R.l::d,c) else none
      |_=>none
    |none=>none
   |_=>none
 |_,_,_=>none
def zfO:List Bool->List CV->Nat->List (Nat×Root)
 |own::ms,.s t l::cs,id=>(id,⟨t,l,own,none⟩)::zfO ms cs (id+1)
 |_::ms,_::cs,id=>zfO ms cs (id+1)
 |_,_,_=>[]
def zxO (own:List Bool)(c:List CV)(b:List AV):St :=
 {tm:=.v (.at<|.lp 0 0)::(zee c 0).map λa=>.v (.at a),lo:=[(0,zee c 0)],ro:=zfO own c 0++zbD ziM b c.length,stk:=[],nid:=c.length+(b.flatMap AV.cvs).length+1,ep:=0}
def zhe (C:Cfg)(tms:FuncId->Nat->Option Tmpl)(N D:Nat)(f:FuncId)(own:List Bool)(d:List CV)(a:List AV):Option Ans :=
 cond (zdN f && !(zgQ (.agg d::a))) none
 (zqC C tms N (zmi C tms N D) f (.v (.at<|.lp 0 0)::(zb0 a d.length).map .v) (zxO own d a) λh b=>
  match b.tm with
  |.v (.at<|.lp l 0)::hs=>
   match zf b.lo l with
   |some cells=>
    match b.blkEnd own cells hs with
    |some (e,g) =>
     match zkO (b.thaw<|zdN f) h g with
     |some c=>some (.agg e::c)
     |none=>none
    |none=>none
   |none=>none
  |_=>none)
section
variable {C:Cfg} {w0 w w1:World} {S0:zq} {U:Nat->Prop} {st st1:St} {E E1:Env} {ts:Array Value} {sv:List (Array Value)}
structure BlkEnd (st:St) (own:List Bool) (cells:List At) (hs:List MV) (cs:List CV) (ks:List Nat):Prop where
 len:cs.length=cells.length
 hlen:hs.length=cells.length
 ownk:∀r∈ks,∃j,zy own j/\cells[j]?=some (.sl r [])
 get:∀(j:Nat) (a:At),cells[j]?=some a->(∃k n,a = .i k n/\cs[j]?=some (.i k n))\/(∃x,a = .b x/\cs[j]?=some (.b x))\/
  ∃r R,a = .sl r []/\st.root r=some R/\cs[j]?=some (.s R.t R.l)/\((zy own j/\R.own=true/\r∈ks)\/(¬ zy own j/\hs[j]?=some (.v (.at (.sl r [])))))
 inj:∀(i j r:Nat),zy own i->zy own j->cells[i]?=some (.sl r [])->cells[j]?=some (.sl r [])->i=j
theorem ztm:∀(own:List Bool) (cells:List At) (A:List MV) (E:List CV) (F:List Nat),st.blkEnd own cells A=some (E,F)->BlkEnd st own cells A E F
 |[],[],[],E,F,h=>by cases h;exact⟨rfl,rfl,fun r h=>by simp at h,fun j a h=>by simp at h,fun i j r h=>by simp[zy]at h⟩
 |o::ms,a::r,O::A,E,F,h=>by
  simp only[St.blkEnd]at h;split at h;{cases h}
  .rename_i cs0 ks0 h0;have f:=ztm ms r A cs0 ks0 h0;have p:∀(z:List Nat) (c:CV),(∀x∈ks0,x∈z)->∀(j:Nat) (b:At),r[j]?=some b->(∃k n,b = .i k n/\(c :: cs0)[j+1]?=some (.i k n))\/(∃x,b = .b x/\(c :: cs0)[j+1]?=some (.b x)) \/
    ∃q R,b = .sl q []/\st.root q=some R/\(c::cs0)[j+1]?=some (.s R.t R.l)/\((zy (o::ms) (j+1)/\R.own=true/\q∈z)\/(¬ zy (o::ms) (j+1)/\(O::A)[j+1]?=some (.v (.at (.sl q []))))):=by
    intro z c I j b g;rcases f.get j b g with h|h|⟨q,R,G,L,M,H⟩
    .exact .inl (by simpa using h)
    .exact .inr (.inl (by simpa using h))
    .refine .inr (.inr ⟨q,R,G,L,by simpa using M,?_⟩)
     rcases H with⟨d,e,Q⟩|⟨d,e⟩
     .exact .inl ⟨by simpa [zy] using d,e,I q Q⟩
     .exact .inr ⟨by simpa [zy] using d,by simpa using e⟩
   have flat:∀(c:CV),(∀q,a≠.sl q [])->((∃k n,a = .i k n/\c = .i k n)\/(∃x,a = .b x/\c = .b x))->BlkEnd st (o::ms) (a::r) (O::A) (c::cs0) ks0:=by
    intro c B S;refine⟨by simp[f.len],by simp[f.hlen],fun q K=>?_,fun j b g=>?_,fun i j q u y d e=>?_⟩;{obtain⟨j,d,e⟩:=f.ownk q K;exact⟨j+1,by simpa [zy] using d,by simpa using e⟩}
    .cases j with
     |zero=>simp only[qF,qB]at g;subst g;rcases S with⟨k,n,d,e⟩|⟨x,d,e⟩;{exact .inl ⟨k,n,d,by simp[e]⟩};{exact .inr (.inl ⟨x,d,by simp[e]⟩)}
     |succ j=>exact p ks0 c (fun _ h=>h) j b (by simpa using g)
    {cases i with|zero=>simp only[qF,qB]at d;exact absurd d (B q)|succ i=>(cases j with|zero=>simp only[qF,qB]at e;exact absurd e (B q)|succ j=>have:=f.inj i j q (by simpa [zy] using u) (by simpa [zy] using y) (by simpa using d) (by simpa using e);omega)}
   split at h;{rename_i k n;cases h;exact flat _ (fun q h=>by cases h) (.inl ⟨k,n,rfl,rfl⟩)};{rename_i x;cases h;exact flat _ (fun q h=>by cases h) (.inr ⟨x,rfl,rfl⟩)};{rename_i q;split at h;{rename_i R N;split at h;{split at h;{rename_i m;simp only[qD,jF,jK,decide_eq_false_iff_not]at m;obtain⟨C,J⟩:=m;cases h;refine⟨by simp[f.len],by simp[f.hlen],fun x w=>?_,fun j b g=>?_,fun i j x u y d e=>?_⟩;{rcases qL.1 w with rfl|w;{exact⟨0,rfl,rfl⟩};{obtain⟨j,d,e⟩:=f.ownk x w;exact⟨j+1,by simpa [zy] using d,by simpa using e⟩}};{cases j with|zero=>simp only[qF,qB]at g;subst g;exact .inr (.inr ⟨q,R,rfl,N,by simp,.inl ⟨rfl,C,qX⟩⟩)|succ j=>exact p _ _ (fun x w=>qR _ w) j b (by simpa using g)};{have D:∀(i:Nat),zy ms i->r[i]?=some (.sl q [])->False:=(by intro i u K;rcases f.get i _ K with⟨_,_,h,_⟩|⟨_,h,_⟩|⟨V,T,G,L,M,H⟩;{cases h};{cases h};{cases G;rcases H with⟨_,_,h⟩|⟨h,_⟩;{exact J h};{exact h u}});cases i with|zero=>(cases j with|zero=>rfl|succ j=>simp only[qF,qB,At.sl.injEq,and_true]at d;subst d;exact(D j (by simpa [zy] using y) (by simpa using e)).elim)|succ i=>(cases j with|zero=>simp only[qF,qB,At.sl.injEq,and_true]at e;subst e;exact(D i (by simpa [zy] using u) (by simpa using d)).elim|succ j=>have:=f.inj i j x (by simpa [zy] using u) (by simpa [zy] using y) (by simpa using d) (by simpa using e);omega)}};{cases h}};{split at h;{rename_i U;split at h;{rename_i P;simp only[qH]at P;subst P;cases h;refine⟨by simp[f.len],by simp[f.hlen],fun x w=>?_,fun j b g=>?_,fun i j x u y d e=>?_⟩;{obtain⟨j,d,e⟩:=f.ownk x w;exact⟨j+1,by simpa [zy] using d,by simpa using e⟩};{cases j with|zero=>simp only[qF,qB]at g;subst g;exact .inr (.inr ⟨q,R,rfl,N,by simp,.inr ⟨by simp[zy],rfl⟩⟩)|succ j=>exact p _ _ (fun x w=>w) j b (by simpa using g)};{cases i with|zero=>simp[zy]at u|succ i=>(cases j with|zero=>simp[zy]at y|succ j=>have:=f.inj i j x (by simpa [zy] using u) (by simpa [zy] using y) (by simpa using d) (by simpa using e);omega)}};{cases h}};{cases h}}};{cases h}};{cases h}
 |[],_::_,_,_,_,h=>by simp[St.blkEnd]at h
 |[],[],_::_,_,_,h=>by simp[St.blkEnd]at h
 |_::_,[],_,_,_,h=>by simp[St.blkEnd]at h
 |_::_,_::_,[],_,_,h=>by simp[St.blkEnd]at h
theorem zBN (a:Value)(b:Array Value):(#[a]++b)[0]?=some a:=by rw[jW (by simp)];rfl
theorem zBO (a:Value)(b:Array Value)(i:Nat):(#[a]++b)[i+1]?=b[i]?:=by rw[j8 (by simp)];simp
theorem zmh:∀(own:List Bool) (a:List CV) (id n:Nat) (R:Root),zf (zfO own a id) n=some R->id<=n/\∃t l,a[n-id]?=some (.s t l)/\R.t=t/\HEq R.l l/\own[n-id]?=some R.own/\R=⟨t,l,R.own,none⟩
 |[],_,_,_,_,h=>by cases h
 |o::ms,[],_,_,_,h=>by cases h
 |o::ms,c::a,id,n,R,h=>by have d:zf (zfO ms a<|id+1) n=some R->id<=n/\∃t l,(c::a)[n-id]?=some (.s t l)/\R.t=t/\HEq R.l l/\(o::ms)[n-id]?=some R.own/\R=⟨t,l,R.own,none⟩:=λh=>(by obtain⟨r,t,l,g,j,m,p,q⟩:=zmh ms a (id+1) n R h;have e:n-id=(n-(id+1))+1:=(by omega);exact⟨by omega,t,l,by rw[e,jL];exact g,j,m,by rw[e,jL];exact p,q⟩);cases c with|i k x=>exact d h|b x=>exact d h|s t l=>simp only[zfO,zf]at h;split at h;{rename_i f;simp only[qH]at f;subst f;cases h;exact⟨qV _,t,l,by simp,rfl,HEq.rfl,by simp,rfl⟩};{exact d h}
theorem zdx (hO:EngOk C){f:FuncId}{own:List Bool}{e8:List CV->List AV->Option (Bool×List CV×List AV)}(hf:FnOk C.P f)(h:∀(d:List CV) (z:List AV) (Z:List CV) (rs:List AV),own.length=d.length->(∃(w:World) (xs:Nat->Value) (K:Nat->zq),∀(j:Nat) (c:CV),(d++zh z)[j]?=some c->Rep false w (xs j) c (K j))->e8 d z=some (true,Z,rs)->Z.length=d.length/\∃tms N D,zhe C tms N D f own d z=some (.agg Z::rs)):zcO C.P f own e8:=by
 refine⟨hf,λw blk B e d K z xs Ka Z rs hb e5 g7 a1 a7 f1 a4 c7 e0=>?_⟩;obtain⟨d4,tms,N,D,a3⟩:=h d z Z rs g7 ⟨w,λj=>if j<d.length then (B[j]?).getD undef else (xs[j-d.length]?).getD undef,λj=>if j<d.length then K j else Ka,λj c L=>by
  by_cases T:j<d.length
  .rw [qS T]at L;have M:=jP (show j<B.size by omega)
   simp only[if_pos T,M,j7];exact(a1 j c _ L M).ro
  .rw [qO (by omega)]at L
   have c9:=(qA.1 L).1;have M:=qC (show j-d.length<xs.length by rw[a4.1];exact c9)
   simp only[if_neg T,M,j7];exact a4.2 _ c _ L M⟩ e0
 unfold zhe at a3;cases b9:zdN f && !(zgQ (.agg d::z)) with
 |true=>rw[b9]at a3;cases a3
 |false=>
 rw[b9,cond_false]at a3;have hblt:blk<w.heap.size:=(qK.1 hb).1;generalize a9:zxO own d z=st at a3;have g9:st.ro=zfO own d 0++zbD ziM z d.length:=(by rw[<- a9];rfl);have d6:st.lo=[(0,zee d 0)]:=(by rw[<- a9];rfl);have c3:st.stk=[]:=(by rw[<- a9];rfl);have hnid:st.nid=d.length+(zh z).length+1:=(by rw[<- a9];rfl);have b0:st.tm = .v (.at<|.lp 0 0)::(zee d 0).map λa=>.v (.at a):=(by rw[<- a9];rfl);have O:∀r R,zf st.ro r=some R->R.ep=none/\((r<d.length/\own[r]?=some R.own/\d[r]?=some (.s R.t R.l))\/(d.length<=r/\r<d.length+(zh z).length/\R.own=false/\(zh z)[r-d.length]?=some (.s R.t R.l))):=(by intro r R I;rw[g9,zM]at I;split at I;{rename_i Q hQ;cases I;obtain⟨_,t,l,q,_,_,h5,h6⟩:=zmh own d 0 r R hQ;rw[h6]at h5 ⊢;simp only[Nat.sub_zero]at q h5;exact⟨rfl,.inl ⟨(qA.1 q).1,h5,q⟩⟩};{obtain⟨g,t,l,q,rfl⟩:=zcC ziM z d.length r R I;have:=(qA.1 q).1;exact⟨rfl,.inr ⟨g,by omega,rfl,q⟩⟩});have H:∀r R,st.root r=some R->(r<d.length/\own[r]?=some R.own/\d[r]?=some (.s R.t R.l))\/(d.length<=r/\R.own=false/\(zh z)[r-d.length]?=some (.s R.t R.l)):=(by intro r R I;rcases (O r R (zbc I).1).2 with h|⟨g,_,q,G⟩;{exact .inl h};{exact .inr ⟨g,q,G⟩});let E:Env:={ρ:=λn=>if n<d.length then (B[n]?).getD undef else (xs[n-d.length]?).getD undef,φ:=λn=>if n<d.length then K n else Ka,β:=λ_=>blk,κ:=w}
 have a0:∀n,n<d.length->E.ρ n=(B[n]?).getD undef/\E.φ n=K n:=λn hn=>(by simp only[E,if_pos hn,and_self]);have a2:∀n,d.length<=n->E.ρ n=(xs[n-d.length]?).getD undef/\E.φ n=Ka:=λn hn=>(by simp only[E,if_neg (show ¬ n<d.length by omega),and_self]);have e4:∀(j:Nat) (a:At) (u:Value),(zee d 0)[j]?=some a->B[j]?=some u->u.oneCell'=true/\VA w st E a u:=(by intro j a u A M;rw[ziL,jQ]at A;cases L:d[j]? with|none=>rw[L]at A;cases A|some c=>rw[L]at A;cases A;have hr:=a1 j c u L M;have T:j<d.length:=(qA.1 L).1;refine⟨hr.one,?_⟩;(cases c with|i k n=>exact hr.int_inv|b x=>exact hr.bool_inv|s t l=>obtain⟨⟨a,c5,hv,_⟩,_⟩:=hr.len;refine⟨⟨a,_,c5,hv⟩,λR _=>?_⟩;rw[(a0 j T).1,M];rfl));have b8:∀l cells,zf st.lo l=some cells->l=0/\cells=zee d 0:=(by intro l cells h;rw[d6]at h;simp only[zf]at h;split at h;{rename_i he;simp only[qH]at he;cases h;exact⟨he.symm,rfl⟩};{cases h});have hp:VA w st E (.lp 0 0) (.pointer<|some ⟨blk,0,none⟩):=⟨⟨_,rfl⟩,λ_ _=>rfl⟩;have c0:∀a∈zee d 0,∀m∈a.ids,m<d.length:=(by intro a A m J;obtain⟨j,T⟩:=qQ.1 A;rw[ziL,jQ]at T;cases L:d[j]? with|none=>rw[L]at T;cases T|some c=>rw[L]at T;cases T;have:=zll J;have:=(qA.1 L).1;omega);let S0:zq:=λb=>b=blk\/(∃j,j<d.length/\zy own j/\K j b)\/(zdN f=false/\b=w.heap.size)
 have hS:Sim w S0 (λn=>n<st.nid) st E (#[.pointer<|some ⟨blk,0,none⟩]++B) [] w:=by
  refine⟨⟨rfl,rfl,rfl,qV _,λ_ _ _=>rfl,λr R I=>?_,λr R I x p=>?_,λr R I U=>?_,λhz r R I U he f7=>?_,λr R r' R' I U f2 he X x p=>?_,λl cells hl=>?_,λl l' c1 c2 g q _=>?_,λl cells r R hl I=>?_,λr R e I he=>?_,rfl⟩,⟨λn R hn=>?_,λn cells hn=>?_,λm J n hn=>?_,λf hf=>?_⟩,⟨?_,λi m v J hv=>?_⟩,?_⟩;{rcases H r R I with⟨g,q,G⟩|⟨g,q,G⟩;{have M:=jP (show r<B.size by omega);rw[(a0 r g).1,(a0 r g).2,M];have:=a1 r _ _ G M;rw[q] at this;exact this};{have c9:=(qA.1 G).1;have M:=qC (show r-d.length<xs.length by rw[a4.1];exact c9);rw[(a2 r g).1,(a2 r g).2,M,q];exact a4.2 _ _ _ G M}};{rcases H r R I with⟨g,q,G⟩|⟨g,q,G⟩;{rw [(a0 r g).2]at p;exact(a7 r x g p).1};{rw [(a2 r g).2]at p;exact(c7 x p).1}};{rcases H r R I with⟨g,q,G⟩|⟨g,q,G⟩;{refine⟨(O r R (zbc I).1).1,λx p=>.inl (.inr<|.inl ⟨r,g,?_,?_⟩)⟩;{show own[r]?=some true;rw[q,U]};{rw [(a0 r g).2]at p;exact p}};{rw [q]at U;cases U}}
  .exfalso;cases hq:zdN f with
   |false=>exact hz (.inr<|.inr ⟨hq,rfl⟩)
   |true=>rw[hq,uK]at b9;have f6:zgQ (.agg d::z)=true:=(by simpa using b9);have d7:CV.s R.t R.l∈(AV.agg d::z).flatMap AV.cvs:=(by simp only[kM,jJ];rcases H r R I with⟨g,q,G⟩|⟨g,q,G⟩;{exact .inl (qG G)};{exact .inr (qG G)});have:=qJ.1 f6 _ d7;simp only at this;rw[f7] at this;cases this
  {rcases H r R I with⟨g,q,G⟩|⟨g,q,G⟩;{have d9:zy own r:=(by show own[r]?=some true;rw[q,U]);rw[(a0 r g).2]at p;rcases H r' R' f2 with⟨W,c6,a6⟩|⟨W,c6,a6⟩;{rw [(a0 r' W).2];exact f1 r r' x g W d9 X p};{rw [(a2 r' W).2];exact λhk=>(c7 x hk).2.2 r g d9 p}};{rw [q]at U;cases U}};{obtain⟨rfl,rfl⟩:=b8 l cells hl;exact⟨.inl (.inl rfl),B,e,hb,by rw[e5,zlk],λj c u L M=>e4 j c u L M⟩};{rw [(b8 l c1 g).1,(b8 l' c2 q).1]};{intro p;rcases H r R I with⟨g,q,G⟩|⟨g,q,G⟩;{rw [(a0 r g).2]at p;exact(a7 r _ g p).2 rfl};{rw [(a2 r g).2]at p;exact(c7 _ p).2.1 rfl}};{rw [(O r R I).1]at he;cases he};{rcases (O n R hn).2 with⟨g,_⟩|⟨_,g,_⟩<;>omega};{obtain⟨rfl,rfl⟩:=b8 n cells hn;refine⟨by omega,λa A m J=>?_⟩;have:=c0 a A m J;omega};{rw [b0]at J;rcases qL.1 J with rfl|J;{simp only [MV.ids,zK,zn,At.ids,zD,zG,jO,kM,uW,jB,qE]at hn;omega};{obtain⟨a,A,rfl⟩:=jE.1 J;simp only[MV.ids,zK,zn,kM,uW,jB]at hn;have:=c0 a A n hn;omega}};{rw [c3]at hf;simp at hf};{rw [b0];simp[zlk,e5];omega};{rw [b0]at J;cases i with|zero=>rw[zBN]at hv;simp at J hv;subst J hv;exact hp|succ i=>simp only[jL,qM]at J;have d0:B[i]?=some v:=(by rw[zBO]at hv;exact hv);(cases A:(zee d 0)[i]? with|none=>rw[A]at J;cases J|some a=>rw[A]at J;cases J;exact(e4 i a v A d0).2)};{rw [c3];trivial}
 obtain⟨f9,g0⟩:=zep (w:=w) (st:=st) (E:=E) z xs d.length a4.1 (λi c u L M=>by
  have hr:=a4.2 i c u L M;refine⟨?_,hr.one⟩;cases c with
  |i k n=>exact hr.int_inv
  |b x=>exact hr.bool_inv
  |s t l=>
   obtain⟨⟨a,c5,hv,_⟩,_⟩:=hr.len;refine⟨⟨a,_,c5,hv⟩,λR I=>?_⟩;have e:d.length+i-d.length=i:=by omega
   rw[(a2 _<|kR _ _).1,e,M];rfl)
 obtain⟨_,b7⟩:=zjP hO (ziq hO (tms:=tms) (N:=N) D) f _ st _ _ a3 w S0 _ E _ [] w (#[.pointer<|some ⟨blk,0,none⟩]++(zY z xs).toArray)
  (λv w'=>w'.os=w.os/\w'.tape=w.tape/\w'.output=w.output/\w.heap.size<=w'.heap.size/\
   (∀b,b<w.heap.size->b≠blk->(∀j,j<d.length->zy own j->¬ K j b)->w'.heap[b]?=w.heap[b]?)/\
   ∃(S:Array Value) (e':TypeId) (K':Nat->zq) (ys:List Value) (Kr:Nat->zq),w'.heap[blk]?=some (.cells S e' (0,0))/\S.size=Z.length/\Z.length=d.length/\
    (∀(j:Nat) (c:CV) (u:Value),Z[j]?=some c->S[j]?=some u->match c with
     |.i k n=>u = .int k n
     |.b x=>u = .bool x
     |.s t l=>(zy own j->Rep true w' u (.s t l) (K' j))/\(¬ zy own j->B[j]?=some u))/\
    zj5 (zg0 f) w' (zh rs) ys Kr/\v=zfX (zY rs ys)/\
    (∀j x,j<d.length->K' j x->x<w'.heap.size/\x≠blk/\((∃i,i<d.length/\zy own i/\K i x)\/w.heap.size<=x))/\
    (∀i x,i<(zh rs).length->Kr i x->x<w'.heap.size/\x≠blk/\((∃i,i<d.length/\zy own i/\K i x)\/w.heap.size<=x))/\
    (∀i j x,i<d.length->j<d.length->i≠j->K' i x->¬ K' j x)/\
    (∀i j c x,(zh rs)[i]?=some c->zg0 f c=true->j<(zh rs).length->i≠j->Kr i x->¬ Kr j x)/\
    (∀i j x,i<d.length->j<(zh rs).length->K' i x->¬ Kr j x)) hS (λn hn h=>by omega)
  (by simp[f9]) (λi m v J hv=>by
   cases i with
   |zero=>rw[zBN]at hv;simp at J hv;subst J hv;exact hp
   |succ i=>
    simp only[jL,qM]at J;have d0:(zY z xs)[i]?=some v:=by rw[zBO]at hv;simpa using hv
    cases p:(zb0 z d.length)[i]? with
    |none=>rw[p]at J;cases J
    |some x=>rw[p]at J;cases J;exact g0 i x v p d0)
  (λm J n hn=>by
   rcases qL.1 J with rfl|J
   .simp only [MV.ids,zK,zn,At.ids,zD,zG,jO,kM,uW,jB,qE]at hn;omega
   .obtain⟨x,p,rfl⟩:=jE.1 J;simp only[MV.ids,zK,qN]at hn;obtain⟨a,A,hn⟩:=hn;have:=(zd1 z d.length n x a p A hn).2;omega)
  (λU' b2 E' w' tvs v d2 _ _ _ hv _ F=>by
   split at F
   .rename_i l hs htm;split at F
    .rename_i cells hcells;split at F
     .rename_i cs1 ks hbe;split at F
      .rename_i ans hansof;simp only[qB,List.cons.injEq,AV.agg.injEq]at F;obtain⟨rfl,rfl⟩:=F;have hB:=ztm own cells hs _ ks hbe;have hM:=d2.mem;obtain⟨hts,e2⟩:=d2.tm;have g2:=e2 0 (.v<|.at<|.lp l 0) (.pointer<|some ⟨blk,0,none⟩) (by rw[htm];rfl) (zBN _ _)
       have e7:E'.β l=blk:=by have:=g2.2 cells hcells;simp only[Value.pointer.injEq,qB,Addr.mk.injEq,and_true] at this;exact this.symm
       obtain⟨us,rfl,h8,h9⟩:=zyv hv;have TT:=zrI (st:=b2) (E:=E') (w:=w') (zdN f);obtain⟨a5,ys,kr,hG,hyl,e6,rfl,f8,_⟩:=zha tvs ks _ us hansof h8 (λk x u p M=>VT.tr TT (λ_ _ _ _=>trivial) (h9 k x u p M));have hyv:∀(k:Nat) (a:At) (u:Value),a5[k]?=some a->ys[k]?=some u->VA w' b2 E' a u:=λk a u A M=>by have h:=e6 k a u A M;rcases hG.get k a A with⟨_,_,rfl,_⟩|⟨_,rfl,_⟩|⟨r,R1,rfl,b6,J,_⟩;{exact h};{exact h};{obtain⟨R0,f3,ht,_⟩:=zej b6;refine⟨h.1,λR I=>?_⟩;rw[f3]at I;cases I;have:=h.2 R1 b6;simpa [zu] using this}
       have hzz:zdN f=true->¬ S0 w.heap.size:=λh h'=>by rcases h' with h'|⟨j,T,_,hk⟩|⟨h',_⟩;{omega};{have:=(a7 j _ T hk).1;omega};{rw [h]at h';cases h'}
       obtain⟨_,S,e',a8,e1,f4⟩:=hM.loc l cells hcells;rw[e7]at a8;have d3:∀x,(S0 x\/w.heap.size<=x)->x≠blk->((∃i,i<d.length/\zy own i/\K i x)\/w.heap.size<=x):=by intro x h X;rcases h with (h|h|h)|h;{exact absurd h X};{exact .inl h};{exact .inr (by omega)};{exact .inr h}
       have d8:∀r R x,b2.root r=some R->E'.φ r x->x≠blk:=by intro r R x I p he;subst he;rw[<- e7]at p;exact hM.lro l cells r R hcells I p
       have d5:∀i,i<(zh ans).length->∃a,a5[i]?=some a:=λi hi=>⟨_,qC (by rw[<- hG.len];exact hi)⟩
       let K':Nat->zq:=λj x=>zy own j/\cφ E' cells j x
       have b4:∀j x,K' j x->∃r R,cells[j]?=some (.sl r [])/\zy own j/\b2.root r=some R/\R.own=true/\r∈ks/\E'.φ r x:=by intro j x p;obtain⟨U,p⟩:=p;obtain⟨a,A,p⟩:=zqB p;rcases hB.get j a A with⟨_,_,rfl,_⟩|⟨_,rfl,_⟩|⟨r,R,rfl,g,q,G⟩;{exact p.elim};{exact p.elim};{rcases G with⟨_,Y,h5⟩|⟨Y,_⟩;{exact⟨r,R,A,U,g,Y,h5,p⟩};{exact absurd U Y}}
       have b5:∀i x,cφ E' a5 i x->∃a r R,a5[i]?=some a/\a = .sl r []/\b2.root r=some R/\R.ep=none/\r∈kr/\aφ E' a x/\E'.φ r x:=by intro i x p;obtain⟨a,A,p⟩:=zqB p;obtain⟨r,hr,rfl,h0⟩:=hG.fi A p;obtain⟨R1,b6,g6⟩:=hG.own r hr;obtain⟨R,I,_,c8⟩:=zej b6;refine⟨_,r,R,A,rfl,I,?_,hr,p,h0⟩;rcases c8 with rfl|⟨_,_,he,_⟩;{exact(hM.mine r _ I g6).1};{exact he}
       refine⟨hM.os,hM.tape,hM.output,hM.size,λb hb X g3=>hM.keep b hb λh=>?_,S,e',K',ys,cφ E' a5,a8,by rw[e1,hB.len],d4,λj c u L M=>?_,⟨by rw[hyl,hG.len],λi c x L p=>?_⟩,rfl,λj x T p=>?_,λi x hi p=>?_,λi j x hi T X p b1=>?_,λi j c x hi U T X p b1=>?_,λi j x hi T p b1=>?_⟩
       .rcases h with h|⟨j,T,U,hk⟩|⟨_,h⟩
        .exact X h
        .exact g3 j T U hk
        .omega
       .have T:j<cells.length:=by rw[<- hB.len];exact(qA.1 L).1
        have A:=qC T;obtain⟨_,V⟩:=f4 j _ u A M;rcases hB.get j _ A with⟨k,n,g,q⟩|⟨y,g,q⟩|⟨r,R,g,q,G,Y⟩
        .rw [L]at q;cases q;rw[g]at V;exact V
        .rw [L]at q;cases q;rw[g]at V;exact V
        .rw [L]at G;cases G;rw[g]at V A;have d1:=V.2 R q;simp only[zu,qB]at d1;refine⟨λU=>?_,λg4=>?_⟩
         .rcases Y with⟨_,h5,_⟩|⟨h5,_⟩
          .have hr:=hM.rep r R q;rw[h5,d1]at hr;exact hr.weak (λx p=>⟨U,by rw[zeA A];exact p⟩)
          .exact absurd U h5
         .rcases Y with⟨h5,_⟩|⟨_,h5⟩
          .exact absurd h5 g4
          .have hjc:j<d.length:=by rw[<- d4,hB.len];exact T
           have e3:=jP (show j<B.size by omega)
           have h7:=e2 (j+1) (.v<|.at<|.sl r []) B[j] (by rw[htm,jL];exact h5) (by rw[zBO];exact e3)
           have c4:=h7.2 R q;simp only[zu,qB]at c4;rw[e3,<- c4,d1]
       .obtain⟨a,A⟩:=d5 i (qA.1 L).1;rw[zeA A];exact zx8 hM hG A L (hyv i a x A p)
       .obtain⟨r,R,_,U,g,q,G,Y⟩:=b4 j x p;have:=d8 r R x g Y;exact⟨hM.rlt r R g x Y,this,d3 x ((hM.mine r R g q).2 x Y) this⟩
       .obtain⟨a,r,R,A,_,g,_,_,G,Y⟩:=b5 i x p;have:=d8 r R x g Y;exact⟨hM.rlt r R g x Y,this,d3 x (zA1 hzz hM hG A G).1 this⟩
       .obtain⟨r,R,g1,U,g,q,G,Y⟩:=b4 i x p;obtain⟨r',R',f0,g5,W,c6,a6,b3⟩:=b4 j x b1;have:=hM.own_apart g q W c6 Y b3;subst this;exact X (hB.inj i j r U g5 g1 f0)
       .obtain⟨a,r,R,A,_,g,_,_,G,Y⟩:=b5 i x p;obtain⟨b,r',R',a8,_,W,_,_,a6,b3⟩:=b5 j x b1;exact X (zx7 hM hG A a8 hi U G a6)
       .obtain⟨r,R,g1,U,g,q,G,Y⟩:=b4 i x p;obtain⟨b,r',R',a8,_,W,f5,g8,a6,b3⟩:=b5 j x b1
        by_cases e:r=r'
        .subst e;exact f8 r g8 G
        .exact hM.apart r R r' R' g q W f5 e x Y b3
      .cases F
     .cases F
    .cases F
   .cases F)
 refine b7.mono ?_;intro ex w' he;cases ex with|returned v=>exact he|panicked e9=>exact he.elim|outgrown=>exact he.elim
end
section
variable {C:Cfg} {w0 w w1:World} {S0:zq} {U:Nat->Prop} {st st1:St} {E E1:Env} {ts:Array Value} {sv:List (Array Value)}
end
def zbs (h:Host):List CV:=[.s (.sl .int) h.Memory,.s .mon h.Mons,.s .entry h.Buffer,.s .entry h.IoBuffer]
def zHr (c:Ctl):List CV:=[.i .i64 c.Traps,.i .i64 c.Post,.b c.Open]
def zG7 (e:GExit):List CV:=[.i .i64 e.Kind,.i .i64 e.Page,.b e.Write,.i .i64 e.N]
structure Cur where
 b:List Int
 i:Int
 h:Int
def zgO (c:Cur):List CV:=[.s .u8 c.b,.i .i64 c.i,.i .i64 c.h]
def zF:List (Nat×Nat×Tmpl)->FuncId->Nat->Option Tmpl
 |[],_,_=>none
 |(g,c,T)::r,f,b=>cond (Nat.beq g f) (cond (Nat.beq c b) (some T)<|zF r f b) (zF r f b)
def pc (p:Prop):Bool:=@decide p (Classical.propDecidable p)
theorem zbm {p:Prop}:pc p=true↔p:=by unfold pc;exact @decide_eq_true_iff p (Classical.propDecidable p)
theorem zb3 {p:Prop}(h:p):pc p=true:=zbm.2 h
inductive CVB (K:Nat):CV->Prop
 |i (k:IntKind) (n:Int):CVB K (.i k n)
 |b (x:Bool):CVB K (.b x)
 |s (t:Ty) (l:List t.den) (hl:l.length<=K) (h:∀x∈l,∀c∈t.cells x,CVB K c):CVB K (.s t l)
theorem CVB.inv {K:Nat}{t:Ty}{l:List t.den}(h:CVB K (.s t l)):l.length<=K/\∀x∈l,∀c∈t.cells x,CVB K c:=by cases h with|s _ _ a h=>exact⟨a,h⟩
theorem CVB.len {K:Nat}{t:Ty}{l:List t.den}(h:CVB K (.s t l)):l.length<=K:=h.inv.1
theorem CVB.mono {K L:Nat}(a:K<=L){c:CV}(h:CVB K c):CVB L c:=by induction h with|i k n=>exact .i k n|b x=>exact .b x|s t l d h e=>exact .s t l (jG d a) e
theorem CVB.of_rep {o:Bool}{w:World}{v:Value}{c:CV}{S:zq}(h:Rep o w v c S):CVB big c:=by
 induction h with
 |i k n S=>exact .i k n
 |b x S=>exact .b x
 |nil t S=>exact .s t [] (kA _) (λx h=>by cases h)
 |void t a S I=>exact .s t [] (kA _) (λx h=>by cases h)
 |sl t l b D r q e E V K S G u d g A F p m J H C=>refine .s t l d (λx B c f=>?_);obtain⟨i,y⟩:=qQ.1 B;obtain⟨j,z⟩:=qQ.1 f;exact C i x y j c z
theorem CVB.of_ok {c:CV}(h:CVOk c):CVB big c:=by induction h with|i k n _=>exact .i k n|b x=>exact .b x|s t l f h m=>refine .s t l f (λx g c a=>?_);obtain⟨i,d⟩:=qQ.1 g;obtain⟨j,e⟩:=qQ.1 a;exact m i x d j c e
def zb1 (K:Nat)(a:List AV):Prop:=∀c∈zh a,CVB K c
theorem zcb {K:Nat}{a:AV}{b:List AV}(h:zb1 K (a::b)):(∀c∈a.cvs,CVB K c)/\zb1 K b:=by unfold zb1 zh at *;simp only[kM,jJ]at h;exact⟨λc d=>h c (.inl d),λc d=>h c (.inr d)⟩
theorem zwR {a:List AV}(h:∃w e,zb6 false w (zh a) e λ_ b=>b<w.heap.size):zb1 big a:=by obtain⟨w,e,g,j⟩:=h;intro c k;obtain⟨i,f⟩:=qQ.1 k;have d:i<e.length:=(by rw[g];exact(qA.1 f).1);exact CVB.of_rep (j i c _ f<|qC d)
theorem zeN {b:List CV}{a:List AV}(h:∃(w:World) (f:Nat->Value) (K:Nat->zq),∀(j:Nat) (c:CV),(b++zh a)[j]?=some c->Rep false w (f j) c (K j)):zb1 big (.agg b::a):=by obtain⟨w,f,K,h⟩:=h;intro c d;have e:zh (AV.agg b::a)=b++zh a:=(by simp[zh,AV.cvs]);rw[e]at d;obtain⟨j,g⟩:=qQ.1 d;exact CVB.of_rep (h j c g)
theorem zfG {b c:Bool}{x y:List CV}{z u:List AV}(h:some (b,x,z)=some (c,y,u)):b=c/\y=x/\u=z:=by cases h;exact⟨rfl,rfl,rfl⟩
abbrev zB:=List (Nat×(List AV->Option (Bool×List AV)))
def zBX:zB:=[]
theorem znC:∀f a,zf zBX f=some a->Holds Try.prog f a:=λf a h=>by cases h
abbrev zo (l:zB):Prop:=∀f a,zf l f=some a->Holds Try.prog f a
abbrev u3:=Holds Try.prog
theorem zk {l:zB}{f:Nat}{a:List AV->Option (Bool×List AV)}(h:u3 f a)(b:zo l):zo ((f,a)::l):=by intro g r hg;unfold zf at hg;split at hg;{rename_i e;cases hg;rw[<- qH.1 e];exact h};{exact b g r hg}
abbrev zd8:=List (Nat×(CV->Int->Option (Bool×CV×Int)))
def zCR:zd8:=[]
abbrev zdA (m:zd8):Prop:=∀f a,zf m f=some a->zqk Try.prog f a
theorem zbr:zdA zCR:=λf a h=>by cases h
abbrev zb7:=List (Nat×List Bool×(List CV->List AV->Option (Bool×List CV×List AV)))
def zzj:zb7:=[]
abbrev zbI (p:zb7):Prop:=∀f own a,zf p f=some (own,a)->zcO Try.prog f own a
theorem zA:zbI zzj:=λf own a h=>by cases h
theorem zfV {l m:zb7}(c:∀f own a,zf m f=some (own,a)->zcO Try.prog f own a)(b:∀x∈l,zcO Try.prog x.1 x.2.1 x.2.2):∀f own a,zf (l++m) f=some (own,a)->zcO Try.prog f own a:=by intro f own a h;rw[zM]at h;split at h;{rename_i y d;cases h;exact b _ (zgM d)};{exact c f own a h}
abbrev zdf:=List (Nat×List Bool×Option (Nat×Nat×List (List Nat))×(List AV->Option (Bool×List AV)))
def zDr:zdf:=[]
abbrev zcx (t:zdf):Prop:=∀f own a b,zf t f=some (own,a,b)->zj9 Try.prog f own a b
theorem zC:zcx zDr:=λf own a b h=>by cases h
abbrev cQ (c:zB)(m:zd8)(p:zb7)(t:zdf):Cfg:=zfs (zf c) (zf m) (zf p) (zf t)
theorem zCE {c:zB}{m:zd8}{p:zb7}{t:zdf}(k:zo c)(l:zdA m)(n:zbI p)(q:zcx t){f:FuncId}{b:List AV->Option (Bool×List AV)}(i:FnOk Try.prog f)(h:∀a d,zb1 big a->b a=some (true,d)->∃g N,evalFn (cQ c m p t) g N 12 f a=some d):u3 f b :=
 zlI (zf5 k l n q) i λa d j e=>(h a d (zwR j) e).elim λt x=>x.elim λN y=>⟨t,N,12,y⟩
noncomputable def zdm (f:FuncId):Bool :=
 match Try.prog.funcs[f]? with
 |some a=>a.body.isSome && !(a.name == "runtime.NumGoroutine")
 |none=>false
theorem zhV {f:FuncId}(h:zdm f=true):FnOk Try.prog f:=by unfold zdm at h;split at h;{rename_i a d;simp only[qD,jF]at h;obtain⟨b,c⟩:=uD.1 h.1;exact⟨a,b,d,c,h.2⟩};{cases h}
abbrev oN {b:Type}(c:Bool)(a:Option b):Option b:=bif c then a else none
abbrev nB (c:Bool):Bool:=bif c then false else true
abbrev ti:AT:=.i .i64
structure Dc (α:Type) where
 d:AV->Option α
 e:α->AV
 h:∀{a x},d a=some x->a=e x
abbrev aI (x:Int):AV:=.one (.i .i64 x)
abbrev aB (x:Bool):AV:=.one (.b x)
abbrev aS (t:Ty)(l:List t.den):AV:=.one (.s t l)
abbrev aT (t:Ty)(x:t.den):AV:=.agg (t.cells x)
abbrev aH (h:Host):AV:=.agg (zbs h)
abbrev OA:=Option Ans
abbrev oF:OA:=some [aB false]
abbrev oT:OA:=some [aB true]
abbrev lB:=List Bool
abbrev lE:=List Entry
abbrev lG:=List Guest
abbrev lI:=List Ins
abbrev lK:=List Kept
abbrev lM:=List (List Int)
abbrev lN:=List Mon
abbrev lP:=List (List Ins)
abbrev lQ:=List (List<|List Ins)
abbrev lS:=List Slot
def dI:Dc Int:=⟨λa=>match a with | .one (.i .i64 x)=>some x|_=>none,aI,λ{a x} h=>by split at h<;>cases h;rfl⟩
def dS (t:Ty):Dc (List t.den):=⟨λa=>match a with | .one (.s b l)=>if h:b=t then some (h ▸ l) else none|_=>none,aS t,λ{a x} h=>by
 split at h
 .rename_i b l;split at h
  .rename_i e;subst e;cases h;rfl
  .cases h
 .cases h⟩
def dT (t:Ty):Dc t.den:=⟨λa=>match a with | .agg b=>t.ofCells b|_=>none,aT t,λ{a x} h=>by
 split at h
 .rw [<- zdi h]
 .cases h⟩
def dH:Dc Host:=⟨λa=>match a with | .agg [.s (.sl .int) x,.s .mon y,.s .entry z,.s .entry u]=>some ⟨x,y,z,u⟩|_=>none,aH,λ{a x} h=>by split at h<;>cases h;rfl⟩
def dC:Dc Ctl:=⟨λa=>match a with | .agg [.i .i64 x,.i .i64 y,.b z]=>some ⟨x,y,z⟩|_=>none,λx=>.agg (zHr x),λ{a x} h=>by split at h<;>cases h;rfl⟩
def dE:Dc GExit:=⟨λa=>match a with | .agg [.i .i64 x,.i .i64 y,.b z,.i .i64 u]=>some ⟨x,y,z,u⟩|_=>none,λx=>.agg (zG7 x),λ{a x} h=>by split at h<;>cases h;rfl⟩
abbrev Run:=List AV->Option (Bool×List AV)
def eat {b:Type}(D:Dc b)(k:b->Run):Run
 |[]=>none
 |a::l=>match D.d a with
  |some x=>k x l
  |none=>none
def stop (r:Bool×List AV):Run
 |[]=>some r
 |_=>none
theorem zFp {c:Type}{D:Dc c}{k:c->Run}{b:List AV}{r:Bool×List AV}(h:eat D k b=some r):∃x l,b=D.e x::l/\k x l=some r:=by unfold eat at h;split at h;{cases h};{rename_i a l;split at h;{rename_i x d;exact⟨x,l,by rw[D.h d],h⟩};{cases h}}
theorem zDp {q r:Bool×List AV}{a:List AV}(h:stop q a=some r):a=[]/\r=q:=by unfold stop at h;split at h<;>cases h;exact⟨rfl,rfl⟩
theorem zcG {p:Nat->Prop}(h:∀N,(∀{n:Nat},n<=big->n<N)->p N):∃N,p N:=⟨big+1,h _ λh=>Nat.lt_succ_of_le h⟩
theorem len0 {t:Ty}{l:List t.den}{r:List AV}(a:zb1 big (.one (.s t l)::r)):l.length<=big:=((zcb a).1 _ (qE.2 rfl)).len
def Read (c:zB)(m:zd8)(p:zb7)(t:zdf)(d:FuncId->Nat->Option Tmpl)(f:FuncId)(b:List AV)(r:Run):Prop:=∀a e,zb1 big (b++a)->r a=some (true,e)->∃N,evalFn (cQ c m p t) d N 12 f (b++a)=some e
theorem zcv {c:zB}{m:zd8}{p:zb7}{t:zdf}{d:FuncId->Nat->Option Tmpl}{f:FuncId}{b:List AV}{g:Type}{D:Dc g}{k:g->Run}(h:∀a,Read c m p t d f (b++[D.e a])<|k a):Read c m p t d f b (eat D k):=by intro i r q e;obtain⟨x,l,n,j⟩:=zFp e;subst n;have:=h x l r (by simpa using q) j;simpa using this
theorem zgc {c:zB}{m:zd8}{p:zb7}{t:zdf}{d:FuncId->Nat->Option Tmpl}{f:FuncId}{a:List AV}{g:Bool×List AV}{E:Nat->OA}(h:zb1 big a->g.1=true->∃N,E N=some g.2)(n:∀N,evalFn (cQ c m p t) d N 12 f a=E N):Read c m p t d f a (stop g):=by intro j q i e;obtain⟨l,k⟩:=zDp e;subst l;cases g with|mk b x=>cases k;rw[jB]at i ⊢;obtain⟨N,e⟩:=h i rfl;exact⟨N,(n N).trans e⟩
theorem zg2 {c:zB}{m:zd8}{p:zb7}{t:zdf}(i:zo c)(j:zdA m)(k:zbI p)(l:zcx t){a:FuncId->Nat->Option Tmpl}{f:FuncId}{r:Run}(g:zdm f=true)(h:Read c m p t a f [] r):u3 f r :=
 zCE i j k l (zhV g) λb n d e=>(h b n d e).elim λN x=>⟨a,N,x⟩
def rF0  (g:Bool×List AV):Run:=stop g
theorem hF0 {c:zB}{m:zd8}{p:zb7}{t:zdf}(j:zo c)(k:zdA m)(l:zbI p)(n:zcx t)(b:FuncId->Nat->Option Tmpl){g:Bool×List AV}{E:Nat->OA}{f:FuncId}(a:zb1 big []->g.1=true->∃N,E N=some g.2)(i:∀N,evalFn (cQ c m p t) b N 12 f []=E N:=by intros;kernel_rfl)(h:zdm f=true:=by kernel_rfl):u3 f (rF0 g):=
 zg2 j k l n h (zgc (λd e=>a d e) λN=>i N)
def rF1 {a:Type}(b:Dc a)(g:a->Bool×List AV):Run:=eat b λc=>stop (g c)
theorem hF1 {b:Type}{c:zB}{m:zd8}{p:zb7}{t:zdf}(q:zo c)(r:zdA m)(s:zbI p)(u:zcx t)(i:FuncId->Nat->Option Tmpl){d:Dc b}{g:b->Bool×List AV}{E:Nat->b->OA}{f:FuncId}(h:∀a,zb1 big [d.e a]->(g a).1=true->∃N,E N a=some (g a).2)(n:∀N a,evalFn (cQ c m p t) i N 12 f [d.e a]=E N a:=by intros;kernel_rfl)(l:zdm f=true:=by kernel_rfl):u3 f (rF1 d g):=
 zg2 q r s u l (zcv λa=>zgc (λj k=>h a j k) λN=>n N a)
theorem kF1 {d:Type}{c:zB}{m:zd8}{p:zb7}{t:zdf}(l:zo c)(n:zdA m)(q:zbI p)(r:zcx t)(b:FuncId->Nat->Option Tmpl){i:Dc d}{g:d->Bool×List AV}{E:Nat->d->OA}{f:FuncId}(h:∀a,(g a).1=true->∃N,E N a=some (g a).2)(k:∀N a,evalFn (cQ c m p t) b N 12 f [i.e a]=E N a:=by intros;kernel_rfl)(j:zdm f=true:=by kernel_rfl):u3 f (rF1 i g):=hF1 l n q r b (λa _=>h a) k j
def rF2 {a b:Type}(c:Dc a)(d:Dc b)(g:a->b->Bool×List AV):Run:=eat c λe=>eat d λf=>stop (g e f)
theorem hF2 {d h:Type}{c:zB}{m:zd8}{p:zb7}{t:zdf}(u:zo c)(v:zdA m)(w:zbI p)(x:zcx t)(l:FuncId->Nat->Option Tmpl){i:Dc d}{j:Dc h}{g:d->h->Bool×List AV}{E:Nat->d->h->OA}{f:FuncId}(k:∀a b,zb1 big [i.e a,j.e b]->(g a b).1=true->∃N,E N a b=some (g a b).2)(s:∀N a b,evalFn (cQ c m p t) l N 12 f [i.e a,j.e b]=E N a b:=by intros;kernel_rfl)(r:zdm f=true:=by kernel_rfl):u3 f (rF2 i j g):=
 zg2 u v w x r (zcv λa=>zcv λb=>zgc (λn q=>k a b n q) λN=>s N a b)
theorem kF2 {h i:Type}{c:zB}{m:zd8}{p:zb7}{t:zdf}(r:zo c)(s:zdA m)(u:zbI p)(v:zcx t)(d:FuncId->Nat->Option Tmpl){k:Dc h}{l:Dc i}{g:h->i->Bool×List AV}{E:Nat->h->i->OA}{f:FuncId}(j:∀a b,(g a b).1=true->∃N,E N a b=some (g a b).2)(q:∀N a b,evalFn (cQ c m p t) d N 12 f [k.e a,l.e b]=E N a b:=by intros;kernel_rfl)(n:zdm f=true:=by kernel_rfl):u3 f (rF2 k l g):=hF2 r s u v d (λa b _=>j a b) q n
def rF3 {a b c:Type}(d:Dc a)(e:Dc b)(f:Dc c)(g:a->b->c->Bool×List AV):Run:=eat d λh=>eat e λi=>eat f λj=>stop (g h i j)
theorem hF3 {h i j:Type}{c:zB}{m:zd8}{p:zb7}{t:zdf}(x:zo c)(y:zdA m)(z:zbI p)(A:zcx t)(r:FuncId->Nat->Option Tmpl){k:Dc h}{l:Dc i}{n:Dc j}{g:h->i->j->Bool×List AV}{E:Nat->h->i->j->OA}{f:FuncId}(q:∀a b d,zb1 big [k.e a,l.e b,n.e d]->(g a b d).1=true->∃N,E N a b d=some (g a b d).2)(w:∀N a b d,evalFn (cQ c m p t) r N 12 f [k.e a,l.e b,n.e d]=E N a b d:=by intros;kernel_rfl)(v:zdm f=true:=by kernel_rfl):u3 f (rF3 k l n g):=
 zg2 x y z A v (zcv λa=>zcv λb=>zcv λd=>zgc (λs u=>q a b d s u) λN=>w N a b d)
theorem kF3 {i j k:Type}{c:zB}{m:zd8}{p:zb7}{t:zdf}(v:zo c)(w:zdA m)(x:zbI p)(y:zcx t)(h:FuncId->Nat->Option Tmpl){n:Dc i}{q:Dc j}{r:Dc k}{g:i->j->k->Bool×List AV}{E:Nat->i->j->k->OA}{f:FuncId}(l:∀a b d,(g a b d).1=true->∃N,E N a b d=some (g a b d).2)(u:∀N a b d,evalFn (cQ c m p t) h N 12 f [n.e a,q.e b,r.e d]=E N a b d:=by intros;kernel_rfl)(s:zdm f=true:=by kernel_rfl):u3 f (rF3 n q r g):=hF3 v w x y h (λa b d _=>l a b d) u s
def rF4 {a b c d:Type}(e:Dc a)(f:Dc b)(h:Dc c)(i:Dc d)(g:a->b->c->d->Bool×List AV):Run:=eat e λj=>eat f λk=>eat h λl=>eat i λm=>stop (g j k l m)
theorem hF4 {i j k l:Type}{c:zB}{m:zd8}{p:zb7}{t:zdf}(A:zo c)(B:zdA m)(C:zbI p)(D:zcx t)(v:FuncId->Nat->Option Tmpl){n:Dc i}{q:Dc j}{r:Dc k}{s:Dc l}{g:i->j->k->l->Bool×List AV}{E:Nat->i->j->k->l->OA}{f:FuncId}(u:∀a b d h,zb1 big [n.e a,q.e b,r.e d,s.e h]->(g a b d h).1=true->∃N,E N a b d h=some (g a b d h).2)(z:∀N a b d h,evalFn (cQ c m p t) v N 12 f [n.e a,q.e b,r.e d,s.e h]=E N a b d h:=by intros;kernel_rfl)(y:zdm f=true:=by kernel_rfl):u3 f (rF4 n q r s g):=
 zg2 A B C D y (zcv λa=>zcv λb=>zcv λd=>zcv λh=>zgc (λw x=>u a b d h w x) λN=>z N a b d h)
theorem kF4 {j k l n:Type}{c:zB}{m:zd8}{p:zb7}{t:zdf}(y:zo c)(z:zdA m)(A:zbI p)(B:zcx t)(i:FuncId->Nat->Option Tmpl){r:Dc j}{s:Dc k}{u:Dc l}{v:Dc n}{g:j->k->l->n->Bool×List AV}{E:Nat->j->k->l->n->OA}{f:FuncId}(q:∀a b d h,(g a b d h).1=true->∃N,E N a b d h=some (g a b d h).2)(x:∀N a b d h,evalFn (cQ c m p t) i N 12 f [r.e a,s.e b,u.e d,v.e h]=E N a b d h:=by intros;kernel_rfl)(w:zdm f=true:=by kernel_rfl):u3 f (rF4 r s u v g):=hF4 y z A B i (λa b d h _=>q a b d h) x w
def rF5 {a b c d e:Type}(f:Dc a)(h:Dc b)(i:Dc c)(j:Dc d)(k:Dc e)(g:a->b->c->d->e->Bool×List AV):Run:=eat f λl=>eat h λm=>eat i λn=>eat j λp=>eat k λq=>stop (g l m n p q)
theorem hF5 {j k l n q:Type}{c:zB}{m:zd8}{p:zb7}{t:zdf}(D:zo c)(F:zdA m)(G:zbI p)(H:zcx t)(y:FuncId->Nat->Option Tmpl){r:Dc j}{s:Dc k}{u:Dc l}{v:Dc n}{w:Dc q}{g:j->k->l->n->q->Bool×List AV}{E:Nat->j->k->l->n->q->OA}{f:FuncId}(x:∀a b d h i,zb1 big [r.e a,s.e b,u.e d,v.e h,w.e i]->(g a b d h i).1=true->∃N,E N a b d h i=some (g a b d h i).2)(C:∀N a b d h i,evalFn (cQ c m p t) y N 12 f [r.e a,s.e b,u.e d,v.e h,w.e i]=E N a b d h i:=by intros;kernel_rfl)(B:zdm f=true:=by kernel_rfl):u3 f (rF5 r s u v w g):=
 zg2 D F G H B (zcv λa=>zcv λb=>zcv λd=>zcv λh=>zcv λi=>zgc (λz A=>x a b d h i z A) λN=>C N a b d h i)
theorem cT {a:Type}(x y:a):(cond true x y)=x:=by simp
theorem cF {a:Type}(x y:a):(cond false x y)=y:=by simp
theorem zh9:big=140737488355328:=rfl
theorem zii {x:Int}(a : -9223372036854775808<=x)(b:x<=9223372036854775807):IntKind.i64.wrap x=x:=by simp only[IntKind.wrap,IntKind.signed,IntKind.bits];simp;omega
theorem zeI {x y:Int}(a : -9223372036854775808<=x+y)(b:x+y<=9223372036854775807):zQ .i64 x y=x+y:=zii a b
theorem zyx {x y:Int}(a : -9223372036854775808<=x-y)(b:x-y<=9223372036854775807):wsub .i64 x y=x-y:=zii a b
theorem zX {i n:Nat}(h:i<n)(a:n<=big):zQ .i64 (i:Int) 1=((i+1:Nat):Int):=by rw[zh9]at a;rw[zeI (by omega) (by omega)];omega
section
variable {α:Type}
theorem zbT {l:List α}{i:Nat}(h:i<l.length):ilt (i:Int) (ln l)=true:=by unfold ilt ln;exact qT (by omega)
theorem zbC {l:List α}:ilt ((l.length:Nat):Int) (ln l)=false:=by unfold ilt ln;exact qW (by omega)
theorem zbk {l:List α}{i:Nat}(h:i<l.length):inb (i:Int) (ln l)=true:=by unfold inb ln;exact qT (by omega)
theorem zbt {l:List α}{i:Nat}(h:i<l.length)(d:α):ix l (i:Int) d=l[i]:=by unfold ix;simp[List.getD,qC h]
theorem zfw {l:List α}(h:l.length<=2147483648):few (ln l)=true:=by unfold few ln;exact qT (by omega)
theorem zCG (x:Int):ine x x=false:=by simp[ine]
end
theorem zju {a b:Type}(n:Nat)(F:(a->Option b)->a->Option b)(s:a):iter (n+1) F s=F (iter n F) s:=rfl
def goL {d c b:Type}(a:Nat->d->c->(c->Option b)->Option b)(K:c->Option b):List d->Nat->c->Option b
 |[],_,t=>K t
 |x::l,i,t=>a i x t (goL a K l<|i+1)
theorem zbb {q b d σ:Type}(l:List q)(g:Nat->b->σ)(F:(σ->Option d)->σ->Option d)(a:Nat->q->b->(b->Option d)->Option d)(K:b->Option d)(c:∀(i:Nat) (p:i<l.length) (t:b) (rec:σ->Option d),F rec (g i t)=a i l[i] t λk=>rec (g (i+1) k))(e:∀(t:b) (rec:σ->Option d),F rec (g l.length t)=K t) :
 ∀(N:Nat) (t:b),l.length<N->iter N F (g 0 t)=goL a K l 0 t:=by
 have j:∀(m i N:Nat) (t:b),l.length-i=m->i<=l.length->m<N->iter N F (g i t)=goL a K (l.drop i) i t:=by intro m;induction m with|zero=>intro i N t r p h;have:i=l.length:=(by omega);subst this;obtain⟨n,rfl⟩:∃n,N=n+1:=⟨N-1,by omega⟩;rw[zju,e,uX];rfl|succ m s=>intro i N t r p h;obtain⟨n,rfl⟩:∃n,N=n+1:=⟨N-1,by omega⟩;have f:i<l.length:=(by omega);rw[zju,c i f,kP f];simp only[goL];congr 1;funext k;exact s (i+1) n k (by omega) (by omega) (by omega)
 intro N t h;have:=j l.length 0 N t (by omega) (kA _) h
 simpa using this
def goN {c b:Type}(a:Nat->c->(c->Option b)->Option b)(K:c->Option b):Nat->Nat->c->Option b
 | 0,_,t=>K t
 |n+1,i,t=>a i t (goN a K n<|i+1)
theorem zCJ {b d h:Type}(n:Nat)(g:Nat->b->h)(F:(h->Option d)->h->Option d)(a:Nat->b->(b->Option d)->Option d)(K:b->Option d)(c:∀(i:Nat) (r:i<n) (t:b) (rec:h->Option d),F rec (g i t)=a i t λq=>rec (g (i+1) q))(f:∀(t:b) (rec:h->Option d),F rec (g n t)=K t) :
 ∀(N:Nat) (t:b),n<N->iter N F (g 0 t)=goN a K n 0 t:=by
 have p:∀(m i N:Nat) (t:b),n-i=m->i<=n->m<N->iter N F (g i t)=goN a K (n-i) i t:=by intro m;induction m with|zero=>intro i N t s r j;have:i=n:=(by omega);subst this;obtain⟨k,rfl⟩:∃k,N=k+1:=⟨N-1,by omega⟩;rw[zju,f,uU];rfl|succ m u=>intro i N t s r j;obtain⟨k,rfl⟩:∃k,N=k+1:=⟨N-1,by omega⟩;have l:i<n:=(by omega);have e:n-i=(n-(i+1))+1:=(by omega);rw[zju,c i l,e];simp only[goN];congr 1;funext q;exact u (i+1) k q (by omega) (by omega) (by omega)
 intro N t j;have:=p n 0 N t (by omega) (kA _) j
 simpa using this
def sm:Nat:=1048576
theorem zd3 {n:Nat}(h:n<=sm):n<=big/\n<=2147483648:=by unfold sm at h;rw[zh9];omega
def hasB (i n:Int):Bool:=decide (0<=i/\i<n)
theorem has_eq (i n:Int):(ige i 0&&ilt i n)=hasB i n:=by unfold ige ilt hasB;by_cases a:0<=i<;>by_cases b:i<n<;>simp [a,b]
theorem zbi {i n:Int}(h:hasB i n=true):inb i n=true:=h
theorem zdP {i:Int}{n:Nat}(h:hasB i n=true):∃k:Nat,i=k/\k<n:=by have:0<=i/\i<n:=qP h;exact⟨i.toNat,by omega,by omega⟩
theorem zb8 {b:Type}{l:List b}{i:Int}(h:hasB i (ln l)=true)(d:b):ix l i d∈l:=by obtain⟨k,rfl,a⟩:=zdP (n:=l.length) h;rw[zbt a];exact jU a
theorem zqn {a:Type}(l:List a):ap [] l=l:=rfl
theorem zio {b m:Type}(c:b->Bool)(f:b->b)(K:List b->Option m):∀(l:List b) (i:Nat) (a:List b),(∀x∈l,c x=true/\f x=x)->a.length+l.length<=2147483648->
 goL (λ_ x a k=>bif c x then (cond (few<|ln<|ap a [f x]) (k<|ap a [f x]) none) else none) K l i a=K (a++l)
 |[],i,a,_,_=>by simp[goL]
 |x::l,i,a,h,g=>by obtain⟨d,e⟩:=h x (by simp);simp only[qU]at g;simp only[goL,d,e,cT];rw[zfw (by simp[ap];omega),cT,zio c f K l (i+1) _ (λy j=>h y (by simp[j])) (by simp[ap];omega)];simp[ap]
def zdW (h:Host):Prop:=∀c∈zbs h,CVB sm c
theorem zdW.mem {h:Host}(a:zdW h):CVB sm (.s (.sl .int) h.Memory):=a _ (by simp[zbs])
theorem zdW.mons {h:Host}(a:zdW h):CVB sm (.s .mon h.Mons):=a _ (by simp[zbs])
def NN:Nat:=big+1
theorem zG2 {n:Nat}(h:n<=big):n<NN:=Nat.lt_succ_of_le h
def zhA (p:Nat->Bool):Nat->Nat->Bool
 | 0,_=>true
 |n+1,i=>p i&&zhA p n (i+1)
theorem zr3 {a:Type}(p:Nat->Bool)(r:Option a)(K:Unit->Option a):∀(n i:Nat),goN (λi (_:Unit) k=>bif p i then k () else r) K n i ()=bif zhA p n i then K () else r
 | 0,_=>rfl
 |n+1,i=>by simp only[goN,zhA];cases p i;{rfl};{simp only [cT,uK];exact zr3 p r K n (i+1)}
theorem zke {e a c:Type}(b:Nat->a->(a->Option c)->Option c)(K:a->Option c):∀(l:List e) (i:Nat) (t:a),goL (λi _ t k=>b i t k) K l i t=goN b K l.length i t
 |[],_,_=>rfl
 |_::l,i,t=>by have d:goL (λi _ t k=>b i t k) K l (i+1)=goN b K l.length (i+1):=funext λt=>zke b K l (i+1) t;simp only[goL,qU,goN,d]
theorem zeC {a b:Type}(p:a->Bool)(r:Option b)(K:Unit->Option b):∀(l:List a) (i:Nat),goL (λ_ x (_:Unit) k=>bif p x then k () else r) K l i ()=bif l.all p then K () else r
 |[],_=>rfl
 |x::l,i=>by simp only[goL,k5];cases p x;{rfl};{simp only [cT,uK];exact zeC p r K l (i+1)}
theorem zli {n:Nat}(c:n<=big)(i:Int):(ige i 0&&ile i (wsub .i64 (n:Int) 1))=hasB i n:=by rw[zh9]at c;rw[zyx (by omega) (by omega)];unfold ige ile hasB;by_cases a:0<=i<;>by_cases b:i<n;{rw [qT (p:=i≥0) (by omega),qT (p:=i<=(n:Int)-1) (by omega),qT (p:=0<=i/\i<(n:Int)) ⟨a,b⟩];rfl};{rw [qW (p:=i<=(n:Int)-1) (by omega),qW (p:=0<=i/\i<(n:Int)) (by omega)];simp};{rw [qW (p:=i≥0) (by omega),qW (p:=0<=i/\i<(n:Int)) (by omega)];simp};{rw [qW (p:=i≥0) (by omega),qW (p:=0<=i/\i<(n:Int)) (by omega)];simp}
section
variable {α:Type}
theorem zF0 {l:List α}{i:Nat}(h:i<l.length)(d:α):up l (i:Int) (ix l (i:Int) d)=l:=by rw[zbt h];unfold up;apply kX;intro k;rw[qY];have e:(i:Int).toNat=i:=(by omega);rw[e];by_cases a:i=k;{subst a;simp[h]};{simp [a]}
theorem zfm {l:List α}{i:Nat}(h:i<l.length)(x d:α):ix (up l (i:Int) x) (i:Int) d=x:=by unfold ix up;have e:(i:Int).toNat=i:=(by omega);rw[e];simp[List.getD,h]
theorem zrK (l:List α)(i:Int)(x y:α):up (up l i x) i y=up l i y:=by unfold up;simp
theorem zGx {l:List α}{i k:Nat}(h:i<k)(x:α):(up l (i:Int) x)[k]?=l[k]?:=by unfold up;have e:(i:Int).toNat=i:=(by omega);rw[e,qY,if_neg (by omega)]
end
def Ends {b:Type}(G:b->Prop)(o:Option b):Prop:=∃a,o=some a/\G a
section
variable {ρ:Type} {G:ρ->Prop}
theorem zbn {c:Bool}{a b:Option ρ}(h:c=true)(k:Ends G a):Ends G (cond c a b):=by rw[h];exact k
theorem zxM {c:Bool}{a b:Option ρ}(h:c=false)(k:Ends G b):Ends G (cond c a b):=by rw[h];exact k
theorem zkZ {c:Bool}{a b:Option ρ}(d:c=true->Ends G a)(e:c=false->Ends G b):Ends G (cond c a b):=by cases c;{exact e rfl};{exact d rfl}
theorem zAx {a:ρ}(h:G a):Ends G (some a):=⟨a,rfl,h⟩
theorem zmr {b:Type}{F:(b->Option ρ)->b->Option ρ}(I:Nat->b->Prop)(h:∀n s rec,I n s->(∀k a,k<n->I k a->Ends G (rec a))->Ends G (F rec s)):∀(N n:Nat) (s:b),I n s->n<N->Ends G (iter N F s)
 | 0,n,s,_,c=>absurd c (Nat.not_lt_zero n)
 |N+1,n,s,d,c=>h n s (iter N F) d λk a f e=>zmr I h N k a e (by omega)
theorem zFs {G:Ans->Prop}{o:OA}{r:Ans}(h:Ends (λa=>a=r) o):o=some r:=by obtain⟨a,b,c⟩:=h;rw[b,c]
end
instance:Inhabited Cur:=⟨⟨[],0,0⟩⟩
def uC {T:Type}(ok:T->Prop):Bool:=pc (∃v,ok v)
def uV {T:Type}[Nonempty T](ok:T->Prop):T:=Classical.epsilon ok
theorem uG {T:Type}[Nonempty T]{ok:T->Prop}(h:uC ok=true):ok (uV ok):=Classical.epsilon_spec (zbm.1 h)
def wC {T:Type}(ok:Cur->T->Prop):Bool:=uC λr:Cur×T=>ok r.1 r.2
def wS {T:Type}[Nonempty T](ok:Cur->T->Prop):Cur:=bif wC ok then (uV λr:Cur×T=>ok r.1 r.2).1 else ⟨[],0,0⟩
def wV {T:Type}[Nonempty T](ok:Cur->T->Prop):T:=(uV λr:Cur×T=>ok r.1 r.2).2
theorem wG {T:Type}[Nonempty T]{ok:Cur->T->Prop}(h:wC ok=true):ok (wS ok) (wV ok):=by unfold wS wV;rw[h,cT];exact uG h
theorem wP {T:Type}[Nonempty T]{ok:Cur->T->Prop}(k:∀{s v},ok s v->0<=s.i):0<=(wS ok).i:=by cases h:wC ok with|false=>unfold wS;rw[h];exact Int.le_refl 0|true=>exact k (wG h)
abbrev wE {T:Type}(e:T->AV)(b:List Int)(c:T->Prop):Ans->Prop:=λa=>∃s d,a=(AV.agg (zgO s)::[e d])/\(s.b=b/\0<=s.i)/\c d
theorem wI {T:Type}{ok:Cur->T->Prop}{E:Nat->OA}{d:T->AV}{b:List Int}{c:T->Prop}(k:∀s v,((∃N,E N=some (AV.agg (zgO s)::[d v]))/\(s.b=b/\0<=s.i)/\c v)->ok s v)(h:∃N,Ends (wE d b c)<|E N):wC ok=true:=by obtain⟨N,a,e,s,v,rfl,h⟩:=h;exact zb3 ⟨(s,v),k s v ⟨⟨N,e⟩,h⟩⟩
abbrev zuG:=List CV->List AV->Option (Bool×List CV×List AV)
abbrev zoQ:=List AV->Option (Bool×List CV×List AV)
def pR (k:Cur->zoQ):zuG
 |[.s .u8 b,.i .i64 i,.i .i64 h],a=>k ⟨b,i,h⟩ a
 |_,_=>none
def zCV {b:Type}(D:Dc b)(k:b->zoQ):zoQ
 |[]=>none
 |a::l=>match D.d a with
  |some x=>k x l
  |none=>none
def zuv (r:Bool×Cur×List AV):zoQ
 |[]=>some (r.1,zgO r.2.1,r.2.2)
 |_=>none
theorem zGI {k:Cur->zoQ}{b:List CV}{a:List AV}{r:Bool×List CV×List AV}(h:pR k b a=some r):∃c,b=zgO c/\k c a=some r:=by unfold pR at h;split at h;{exact⟨_,rfl,h⟩};{cases h}
theorem zCW {c:Type}{D:Dc c}{k:c->zoQ}{b:List AV}{r:Bool×List CV×List AV}(h:zCV D k b=some r):∃x l,b=D.e x::l/\k x l=some r:=by unfold zCV at h;split at h;{cases h};{rename_i a l;split at h;{rename_i x d;exact⟨x,l,by rw[D.h d],h⟩};{cases h}}
theorem ztL {q:Bool×Cur×List AV}{b:Bool}{c:List CV}{d a:List AV}(h:zuv q a=some (b,c,d)):a=[]/\q.1=b/\c=zgO q.2.1/\d=q.2.2:=by unfold zuv at h;split at h<;>cases h;exact⟨rfl,rfl,rfl,rfl⟩
section
variable {c:zB} {m:zd8} {p:zb7} {t:zdf} (o1:zo c) (o2:zdA m) (o3:zbI p) (o4:zcx t) (tms:FuncId->Nat->Option Tmpl) {f:FuncId}
include o1 o2 o3 o4
theorem hPx {k:Cur->zoQ}(j:zdm f=true)(h:∀x b a d,k x b=some (true,a,d)->a.length=3/\∃N,zhe (cQ c m p t) tms N 12 f [false,true,true] (zgO x) b=some (.agg a::d)):zcO Try.prog f [false,true,true] (pR k):=by refine zdx (zf5 o1 o2 o3 o4) (zhV j) ?_;intro l b a d n q e;obtain⟨x,rfl,e⟩:=zGI e;obtain⟨g,N,i⟩:=h x b a d e;exact⟨g,tms,N,12,i⟩
def rP0 (g:Cur->Bool×Cur×List AV):zuG:=pR λc=>zuv (g c)
theorem hP0 {g:Cur->Bool×Cur×List AV}{E:Nat->Cur->OA}(a:∀x,(g x).1=true->∃N,E N x=some (.agg (zgO (g x).2.1)::(g x).2.2))(k:∀N x,zhe (cQ c m p t) tms N 12 f [false,true,true] (zgO x) []=E N x:=by intros;kernel_rfl)(j:zdm f=true:=by kernel_rfl):zcO Try.prog f [false,true,true] (rP0 g):=
 hPx o1 o2 o3 o4 tms j λx b d l e=>by obtain⟨rfl,i,rfl,rfl⟩:=ztL e;obtain⟨N,h⟩:=a x i;exact⟨rfl,N,(k N x).trans h⟩
def rP1 {A:Type}(D:Dc A)(g:Cur->A->Bool×Cur×List AV):zuG:=pR λc=>zCV D λa=>zuv (g c a)
theorem hP1 {A:Type}{D:Dc A}{g:Cur->A->Bool×Cur×List AV}{E:Nat->Cur->A->OA}(b:∀x a,(g x a).1=true->∃N,E N x a=some (.agg (zgO (g x a).2.1)::(g x a).2.2))(q:∀N x a,zhe (cQ c m p t) tms N 12 f [false,true,true] (zgO x) [D.e a]=E N x a:=by intros;kernel_rfl)(n:zdm f=true:=by kernel_rfl):zcO Try.prog f [false,true,true] (rP1 D g):=
 hPx o1 o2 o3 o4 tms n λx d i r e=>by obtain⟨a,l,rfl,j⟩:=zCW e;obtain⟨rfl,k,rfl,rfl⟩:=ztL j;obtain⟨N,h⟩:=b x a k;exact⟨rfl,N,(q N x a).trans h⟩
end
instance:Inhabited Ins:=⟨⟨0,0⟩⟩
instance:Inhabited GAct:=⟨⟨0,0,0,0,0,0⟩⟩
instance:Inhabited Ctl:=⟨⟨0,0,false⟩⟩
instance:Inhabited Host:=⟨⟨[],[],[],[]⟩⟩
def zpU (c:Cur):Prop:=0<=c.i/\c.b.length<=big
theorem zqD {T:Type}(d:T->AV){c:T->Prop}{b:List Int}{x y:Int}{v:T}(h:0<=x)(g:c v):Ends (λa=>∃s e,a=(AV.agg (zgO s)::[d e])/\(s.b=b/\0<=s.i)/\c e) (some (AV.agg [.s .u8 b,.i .i64 x,.i .i64 y]::[d v])):=
 ⟨_,rfl,⟨b,x,y⟩,v,rfl,⟨rfl,h⟩,g⟩
def zjL (N:Nat)(c:Cur)  : OA :=
 let a:=zQ .i64 (zj4 .i64 c.h 6364136223846793005) 1442695040888963407;let d:=wand .i64 (zDA .i64 (zwO .i64 a 33)<|zwO .i64 a 45) 255; (oN (ile 0 33)<|oN (ile 0 45)<|cond (ilt c.i<|ln c.b) (oN (inb c.i<|ln c.b)<|some [.agg [.s .u8 c.b,.i .i64<|zQ .i64 c.i 1,.i .i64 a],aI<|wand .i64 (zQ .i64 d<|wcv .i64<|ix c.b c.i 0) 255])<|some [.agg [.s .u8 c.b,.i .i64 c.i,.i .i64 a],aI d])
def zgI (c:Cur)(s:Cur)(a:Int):Prop:=(∃N,zjL N c=some (AV.agg (zgO s)::[aI a]))/\(s.b=c.b/\0<=s.i)/\(0<=a/\a<=255)
def zci (c:Cur)  : Bool:=wC (zgI c)
def zbM (c:Cur)  : Cur:=wS (zgI c)
def zc5 (c:Cur)  : Int:=wV (zgI c)
theorem zfE {c:Cur}(h:zci c=true):zgI c (zbM c) (zc5 c):=wG h
theorem zfF (c:Cur)  : 0<=(zbM c).i:=wP λh=>h.2.1.2
theorem zxq (c:Cur)(h:∃N,Ends (wE (λa=>aI a) c.b λa=>0<=a/\a<=255)<|zjL N c):zci c=true:=wI (λ_ _ h=>h) h
def zkv:zuG:=rP0 λc=>(zci c,zbM c,[aI<|zc5 c])
theorem zq1:zcO Try.prog 30 [false,true,true] zkv:=hP0 znC zbr zA zC (zF []) (λ_ h=>(zfE h).1)
theorem ztY {x m:Int}(c:0<=m)(d:m<9223372036854775808):0<=wand .i64 x m/\wand .i64 x m<=m:=by have b:(BitVec.ofInt 64 m).toNat=m.toNat:=(by rw[BitVec.toNat_ofInt];omega);have a:(BitVec.ofInt 64 x &&& BitVec.ofInt 64 m).toNat<=m.toNat:=(by rw[BitVec.toNat_and,b];exact Nat.and_le_right);unfold wand;show 0<=IntKind.wrap .i64 ((BitVec.ofInt 64 x &&& BitVec.ofInt 64 m).toNat:Int)/\IntKind.wrap .i64 ((BitVec.ofInt 64 x &&& BitVec.ofInt 64 m).toNat:Int)<=m;rw[zii (by omega) (by omega)];omega
@[simp] theorem zqw {c:Cur}(h:zpU c):zci c=true:=by
 refine zxq c ⟨0,?_⟩;unfold zjL oN;conv=>zeta
 refine zbn rfl (zbn rfl (zkZ (λa=>zbn (qT ⟨h.1,qP a⟩) (zqD aI ?_<|ztY (by omega) (by omega))) λ_=>zqD aI h.1 (ztY (by omega) (by omega))));have d:c.i<ln c.b:=qP a;have e:=h.2;have f:=h.1;rw[zh9]at e;unfold ln at d;rw[zeI (by omega) (by omega)];omega
def zED:zb7:=[(30,[false,true,true],zkv)]++zzj
theorem zv8:zbI zED:=zfV zA (by
 intro x a;simp only[qL,jT,or_false]at a;rcases a with rfl
 .exact zq1)
theorem zo7 {b:List Int}{i h:Int}(a:0<=i)(c:b.length<=big):zpU ⟨b,i,h⟩:=⟨a,c⟩
theorem znQ {x n:Int}(a:0<=x)(b:0<n):0<=zcN x n/\zcN x n<n:=by unfold zcN;exact⟨Int.tmod_nonneg _ a,Int.tmod_lt_of_pos _ b⟩
def zil (N:Nat)(c:Cur)(a:Int):OA:=
 let f:=({ (zbM c) with b:=c.b}:Cur);let e:=({ (zbM f) with b:=c.b}:Cur);let d:=({ (zbM e) with b:=c.b}:Cur); (cond (ile a 0) (some [.agg [.s .u8 c.b,.i .i64 c.i,.i .i64 c.h],aI 0])<|cond (ile a 256) (oN (zci c)<|oN (ine a 0)<|some [.agg [.s .u8 c.b,.i .i64 (zbM c).i,.i .i64 (zbM c).h],aI<|zcN (zc5 c) a])<|oN (zci c)<|oN (zci f)<|oN (zci e)<|oN (zci d)<|oN (ine a 0)<|some [.agg [.s .u8 c.b,.i .i64 (zbM d).i,.i .i64 (zbM d).h],aI<|zcN (zQ .i64 (zQ .i64 (zQ .i64 (zj4 .i64 (zc5 c) 16777216)<|zj4 .i64 (zc5 f) 65536)<|zj4 .i64 (zc5 e) 256)<|zc5 d) a])
def zfM (c:Cur)(a:Int)(s:Cur)(d:Int):Prop:=(∃N,zil N c a=some (AV.agg (zgO s)::[aI d]))/\(s.b=c.b/\0<=s.i)/\(0<a->0<=d/\d<a)
def zeh (c:Cur)(a:Int):Bool:=wC (zfM c a)
def zdI (c:Cur)(a:Int):Cur:=wS (zfM c a)
def zes (c:Cur)(a:Int):Int:=wV (zfM c a)
theorem znh {c:Cur}{a:Int}(h:zeh c a=true):zfM c a (zdI c a) (zes c a):=wG h
theorem zwi (c:Cur)(a:Int):0<=(zdI c a).i:=wP λh=>h.2.1.2
theorem zwh (c:Cur)(a:Int)(h:∃N,Ends (wE (λd=>aI d) c.b λd=>0<a->0<=d/\d<a)<|zil N c a):zeh c a=true:=wI (λ_ _ h=>h) h
def zjy:zuG:=rP1 dI λc b=>(zeh c b,zdI c b,[aI<|zes c b])
theorem zpq:zcO Try.prog 13 [false,true,true] zjy:=hP1 znC zbr zv8 zC (zF []) (λ_ _ h=>(znh h).1)
theorem zxH {c:Cur}(h:zpU c)(n:Int):zeh c n=true:=by
 refine zwh c n ⟨0,?_⟩;have f:=zqw h;have k:zci {zbM c with b:=c.b}=true:=zqw (zo7 (zfF _) h.2);have l:zci {zbM {zbM c with b:=c.b} with b:=c.b}=true:=zqw (zo7 (zfF _) h.2);have m:zci {zbM {zbM {zbM c with b:=c.b} with b:=c.b} with b:=c.b}=true:=zqw (zo7 (zfF _) h.2);have i:=(zfE f).2.2;have q:=(zfE k).2.2;have r:=(zfE l).2.2;have s:=(zfE m).2.2;unfold zil oN;conv=>zeta
 refine zkZ (λd=>zqD aI h.1 λu=>absurd (qP d) (by omega)) (λd=>?_);have u:¬ n<=0:=kW d;have j:ine n 0=true:=(by simp[ine];omega);refine zkZ (λt=>zbn f (zbn j<|zqD aI (zfF _) λe=>znQ i.1 e)) (λt=>?_);refine zbn f (zbn k<|zbn l<|zbn m<|zbn j<|zqD aI (zfF _) λe=>znQ ?_ e);generalize zc5 c=a at i;generalize zc5 _=g at q;generalize zc5 _=p at r;generalize zc5 _=z at s;have v:zj4 .i64 a 16777216=a*16777216:=zii (by omega) (by omega);have w:zj4 .i64 g 65536=g*65536:=zii (by omega) (by omega);have y:zj4 .i64 p 256=p*256:=zii (by omega) (by omega);rw[v,w,y,zeI (x:=a*16777216) (by omega) (by omega),zeI (x:=a*16777216+g*65536) (by omega) (by omega),zeI (by omega) (by omega)];omega
def zEE:zb7:=[(13,[false,true,true],zjy)]++zED
theorem zC2:zbI zEE:=zfV zv8 (by
 intro x a;simp only[qL,jT,or_false]at a;rcases a with rfl
 .exact zpq)
def zEF:zb7:=zEE
theorem zC3:zbI zEF:=zC2
def zGf:zB:=zBX
theorem zFc:zo zGf:=znC
def zGg:zB:=zGf
theorem zFd:zo zGg:=zFc
def zGh:zB:=zGg
theorem zFe:zo zGh:=zFd
def zGi:zB:=zGh
theorem zFf:zo zGi:=zFe
def zGj:zB:=zGi
theorem zFg:zo zGj:=zFf
def zGk:zB:=zGj
theorem zFh:zo zGk:=zFg
def zGl:zB:=zGk
theorem zFi:zo zGl:=zFh
def zDE:zB:=zGl
theorem zBY:zo zDE:=zFi
def zDF:zB:=zDE
theorem zBZ:zo zDF:=zBY
def zDG:zB:=zDF
theorem zB0:zo zDG:=zBZ
def zDH:zB:=zDG
theorem zB1:zo zDH:=zB0
def zDI:zB:=zDH
theorem zB2:zo zDI:=zB1
def zDJ:zB:=zDI
theorem zB3:zo zDJ:=zB2
def zDK:zB:=zDJ
theorem zB4:zo zDK:=zB3
def zDL:zB:=zDK
theorem zB5:zo zDL:=zB4
def zDM:zB:=zDL
theorem zB6:zo zDM:=zB5
def zDN:zB:=zDM
theorem zB7:zo zDN:=zB6
def zDO:zB:=zDN
theorem zB8:zo zDO:=zB7
def zDP:zB:=zDO
theorem zB9:zo zDP:=zB8
def zDQ:zB:=zDP
theorem zCa:zo zDQ:=zB9
def zGr:zB:=zDQ
theorem zrW:∀f a,zf zGr f=some a->Holds Try.prog f a:=zCa
def zN (_ _ _:Int):Bool:=true
def zi (x a b:Int):Bool:=ige x a&&ile x b
def zhk:Run:=rF3 dI dI dI λb c d=>(zN b c d,[aB<|zi b c d])
def ztk (N:Nat)(a b c:Int):OA:=
 (cond (ige a b) (some [aB<|ile a c]) oF)
theorem zom (a b c:Int)(d:zb1 big [aI a,aI b,aI c])(e:zN a b c=true):∃N,ztk N a b c=some [aB<|zi a b c]:=by refine⟨0,?_⟩;unfold ztk zi;cases ige a b<;>rfl
theorem zt8:u3 46 zhk:=hF3 zrW zbr zA zC (zF []) zom
def zZ (_ _:Int):Bool:=true
abbrev zcf (i n:Int):Bool:=hasB i n
def ztS:Run:=rF2 dI dI λb c=>(zZ b c,[aB<|zcf b c])
def zxC (N:Nat)(a b:Int):OA:=
 (cond (ige a 0) (some [aB<|ilt a b]) oF)
theorem zAL (a b:Int)(c:zZ a b=true):∃N,zxC N a b=some [aB<|zcf a b]:=by refine⟨0,?_⟩;unfold zxC zcf;rw[<- has_eq];cases ige a 0<;>rfl
theorem zxa:u3 23 ztS:=kF2 zrW zbr zA zC (zF []) zAL
theorem ztC {n:Nat}(c:n<=big)(i:Int):zi i 0 (wsub .i64 (n:Int) 1)=hasB i n:=by rw[zh9]at c;rw[zyx (by omega) (by omega)];unfold zi ige ile hasB;by_cases a:0<=i<;>by_cases b:i<n;{rw [qT (p:=i≥0) (by omega),qT (p:=i<=(n:Int)-1) (by omega),qT (p:=0<=i/\i<(n:Int)) ⟨a,b⟩];rfl};{rw [qW (p:=i<=(n:Int)-1) (by omega),qW (p:=0<=i/\i<(n:Int)) (by omega)];simp};{rw [qW (p:=i≥0) (by omega),qW (p:=0<=i/\i<(n:Int)) (by omega)];simp};{rw [qW (p:=i≥0) (by omega),qW (p:=0<=i/\i<(n:Int)) (by omega)];simp}
def zDR:zB:=[(46,zhk),(23,ztS)]++zGr
theorem zCb:zo zDR:=zk zt8 (zk zxa zrW)
def zDS:zB:=zDR
theorem zCc:zo zDS:=zCb
def zDT:zB:=zDS
theorem zuU:zo zDT:=zCc
def mapped (l:List Slot)(n:Int):Int:=match l with
 |[]=>n
 |s::l=>mapped l (cond (ine s.Page<|-1) (zQ .i64 n 1) n)
theorem zqP {a:Type}(K:Int->Option a):∀(l:List Slot) (i:Nat) (n:Int),
 goL (λ_ (s:Slot) (n:Int) k=>bif ine s.Page (-1) then k (zQ .i64 n 1) else k n) K l i n=K (mapped l n)
 |[],_,_=>rfl
 |s::l,i,n=>by simp only[goL,mapped];cases ine s.Page (-1)<;>exact zqP K l _ _
def zla (_:List Slot):Bool:=true
def zpr (l:List Slot):Int:=mapped l 0
def zm5:Run:=rF1 (dS .slot) λb=>(zla b,[aI<|zpr b])
def zp2 (N:Nat)(b:lS):OA:=
 (iter (σ:=(Int×Int×Int×lS×Unit)) N (λc a=>cond (ilt a.2.2.1 a.2.1) (oN (inb a.2.2.1<|ln a.2.2.2.1)<|cond (ine (ix a.2.2.2.1 a.2.2.1 zU).Page<|-1) (c (zQ .i64 a.1 1,a.2.1,zQ .i64 a.2.2.1 1,a.2.2.2.1,()))<|c (a.1,a.2.1,zQ .i64 a.2.2.1 1,a.2.2.2.1,()))<|some [aI a.1]) (0,ln b,0,b,()))
def zwz:=zF [(24,0,{n:=19,tm:=[(3,ti),(6,.sl 0 []),(7,ti),(8,ti)],lo:=[],ro:=[(0,.slot,false)]})]
theorem zvH (a:List Slot)(c:zb1 big [aS .slot a])(e:zla a=true):∃N,zp2 N a=some [aI<|zpr a]:=by
 have d:=len0 c;refine⟨a.length+1,?_⟩;unfold zp2 oN;refine(zbb a (λi n=>(n,ln a,(i:Int),a,())) _ (λ_ (s:Slot) (n:Int) k=>bif ine s.Page (-1) then k (zQ .i64 n 1) else k n) (λn=>some [AV.one<|.i .i64 n])
  (λi b n rec=>?_) (λn rec=>?_) _ 0 (Nat.lt_succ_self _)).trans (zqP _ a 0 0)
 {simp only [zbT b,zbk b,zbt b,cT,zX b d]};{simp only [zbC,cF]}
theorem zsb:u3 24 zm5:=hF1 zuU zbr zA zC zwz zvH
def zDU:zB:=[(24,zm5)]++zDT
theorem zuV:zo zDU:=zk zsb zuU
def zhY (h:Host)(m:Int):Int:=bif hasB m (ln h.Mons) then mapped (ix h.Mons m zx).Outer 0 else 0
def zjs (_:Host)(_:Int):Bool:=true
def zkn (h:Host)(m:Int):Int:=zhY h m
def zjU:Run:=rF2 dH dI λb c=>(zjs b c,[aI<|zkn b c])
def ztf (N:Nat)(a:Host)(b:Int):OA:=
 let c:=(ix a.Mons b zx).Outer; (oN (zZ b<|ln a.Mons)<|cond (nB<|zcf b<|ln a.Mons) (some [aI 0])<|oN (inb b<|ln a.Mons)<|oN (zla c)<|some [aI<|zpr c])
theorem zxe (a:Host)(b:Int)(d:zjs a b=true):∃N,ztf N a b=some [aI<|zkn a b]:=by
 refine⟨0,?_⟩;unfold ztf zkn zhY zcf oN nB;conv=>zeta
 cases c:hasB b (ln a.Mons);{rfl};{rw [zbi c];rfl}
theorem zlH:u3 9 zjU:=kF2 zuV zbr zA zC (zF []) zxe
def zDV:zB:=[(9,zjU)]++zDU
theorem zCd:zo zDV:=zk zlH zuV
def zGs:zB:=zDV
theorem znD:∀f a,zf zGs f=some a->Holds Try.prog f a:=zCd
def noSlot:Slot:=⟨-1,0⟩
def zbG:Bool:=true
abbrev zbf:Slot:=noSlot
def zgA:Run:=rF0 (zbG,[aT .slot zbf])
def zyz (N:Nat)  : OA :=
 (some [.agg [.i .i64<|-1,.i .i64 0]])
theorem zmQ  (a:zb1 big []) (b:zbG=true):∃N,zyz N  = some [aT .slot zbf]:=by exact⟨0,rfl⟩
theorem zsq:u3 58 zgA:=hF0 znD zbr zA zC (zF []) zmQ
theorem zsc:u3 73 zgA:=hF0 znD zbr zA zC (zF []) zmQ
theorem zsn:u3 40 zhk:=hF3 znD zbr zA zC (zF []) zom
def zDW:zB:=[(58,zgA),(73,zgA),(40,zhk)]++zGs
theorem zuW:zo zDW:=zk zsq (zk zsc<|zk zsn znD)
def zer (r:Int):Bool:=ige r 0&&ile r 3
def zbS (_:Int):Bool:=true
abbrev zdr (r:Int):Bool:=zer r
def zky:Run:=rF1 dI λb=>(zbS b,[aB<|zdr b])
def zuD (N:Nat)(a:Int):OA:=
 (oN (zN a 0 3)<|some [aB<|zi a 0 3])
theorem zsB (a:Int)(b:zbS a=true):∃N,zuD N a=some [aB<|zdr a]:=by exact⟨0,rfl⟩
theorem zpg:u3 68 zky:=kF1 zuW zbr zA zC (zF []) zsB
def zDX:zB:=[(68,zky)]++zDW
theorem zir:zo zDX:=zk zpg zuW
def zfd (a b:Int):Int:=bif zer a then (cond (zer b) (wand .i64 a b) 0) else 0
abbrev zdD (a b:Int):Int:=zfd a b
def ziT:Run:=rF2 dI dI λb c=>(zZ b c,[aI<|zdD b c])
def zj6 (N:Nat)(a b:Int):OA:=
 (oN (zbS a)<|cond (nB<|zdr a) (some [aI 0])<|oN (zbS b)<|cond (nB<|zdr b) (some [aI 0])<|some [aI<|wand .i64 a b])
theorem zpw (a b:Int)(c:zZ a b=true):∃N,zj6 N a b=some [aI<|zdD a b]:=by refine⟨0,?_⟩;unfold zj6 zdD zfd zdr oN nB;cases zer a<;>cases zer b<;>rfl
theorem zmA:u3 74 ziT:=kF2 zir zbr zA zC (zF []) zpw
def enough (a b:Int):Bool:=bif zer a then (cond (zer b) (ieq (wand .i64 a b) b) false) else false
abbrev zcu (a b:Int):Bool:=enough a b
def zm0:Run:=rF2 dI dI λb c=>(zZ b c,[aB<|zcu b c])
def zpW (N:Nat)(b a:Int):OA:=
 (oN (zbS b)<|cond (zdr b) (oN (zbS a)<|cond (zdr a) (some [aB<|ieq (wand .i64 b a) a]) oF) oF)
theorem zvB (a b:Int)(c:zZ a b=true):∃N,zpW N a b=some [aB<|zcu a b]:=by refine⟨0,?_⟩;unfold zpW zcu enough zdr oN;cases zer a<;>cases zer b<;>rfl
theorem zr6:u3 42 zm0:=kF2 zir zbr zA zC (zF []) zvB
def zbo (t:List Slot)(p:Int):Slot:=bif hasB p (ln t) then ix t p zU else noSlot
def zcZ (_:List Slot)(_:Int):Bool:=true
abbrev zcw (t:List Slot)(p:Int):Slot:=zbo t p
def zgC:Run:=rF2 (dS .slot) dI λb c=>(zcZ b c,[aT .slot<|zcw b c])
def zqi (N:Nat)(a:lS)(b:Int):OA:=
 (oN (zN b 0<|wsub .i64 (ln a) 1)<|cond (nB<|zi b 0<|wsub .i64 (ln a) 1) (oN zbG<|some [.agg [.i .i64 zbf.Page,.i .i64 zbf.Rights]])<|oN (inb b<|ln a)<|some [.agg [.i .i64 (ix a b zU).Page,.i .i64 (ix a b zU).Rights]])
theorem zvY (b:List Slot)(a:Int)(c:zb1 big [aS .slot b,aI a])(g:zcZ b a=true):∃N,zqi N b a=some [aT .slot<|zcw b a]:=by have f:=len0 c;refine⟨0,?_⟩;unfold zqi zcw zbo oN nB;have e:zi a 0 (wsub .i64 (ln b) 1)=hasB a (ln b):=zli f a;rw[e];cases d:hasB a (ln b);{rfl};{rw [zbi d];rfl}
theorem zss:u3 47 zgC:=hF2 zir zbr zA zC (zF []) zvY
def zp9 (N:Nat)(a:lS)(b:Int):OA:=
 (oN (zZ b<|ln a)<|cond (nB<|zcf b<|ln a) (oN zbG<|some [.agg [.i .i64 zbf.Page,.i .i64 zbf.Rights]])<|oN (inb b<|ln a)<|some [.agg [.i .i64 (ix a b zU).Page,.i .i64 (ix a b zU).Rights]])
theorem zvO (a:List Slot)(b:Int)(d:zcZ a b=true):∃N,zp9 N a b=some [aT .slot<|zcw a b]:=by refine⟨0,?_⟩;unfold zp9 zcw zbo zcf oN nB;cases c:hasB b (ln a);{rfl};{rw [zbi c];rfl}
theorem zsj:u3 56 zgC:=kF2 zir zbr zA zC (zF []) zvO
def zDY:zB:=[(74,ziT),(42,zm0),(47,zgC),(56,zgC)]++zDX
theorem zis:zo zDY:=zk zmA (zk zr6<|zk zss<|zk zsj zir)
def zb9 (a b:Slot):Bool:=ieq a.Page b.Page&&ieq a.Rights b.Rights
def below' (a b:Slot):Bool:=bif zb9 a noSlot then true else (cond (ieq a.Page b.Page) (enough b.Rights a.Rights) false)
def zjr (_ _:Slot):Bool:=true
def zkl (a b:Slot):Bool:=below' a b
def zov:Run:=rF2 (dT .slot) (dT .slot) λb c=>(zjr b c,[aB<|zkl b c])
def ztd (N:Nat)(a:Slot)(b:Slot):OA:=
 (oN zbG<|cond (cond (ieq a.Page zbf.Page) (ieq a.Rights zbf.Rights) false) oT<|cond (ieq a.Page b.Page) (oN (zZ b.Rights a.Rights)<|some [aB<|zcu b.Rights a.Rights]) oF)
theorem zxc (a:Slot)(b:Slot)(c:zjr a b=true):∃N,ztd N a b=some [aB<|zkl a b]:=by refine⟨0,?_⟩;unfold ztd zkl below' zb9 zbf oN;cases ieq a.Page noSlot.Page<;>cases ieq a.Rights noSlot.Rights<;>cases ieq a.Page b.Page<;>rfl
theorem zt1:u3 57 zov:=kF2 zis zbr zA zC (zF []) zxc
def zbq (s:Slot)(a:List Slot):Slot :=
 bif ieq s.Page (-1) then noSlot else (cond (ieq (zbo a s.Page).Page<|-1) noSlot<|cond (ieq (zfd s.Rights (zbo a s.Page).Rights) 0) noSlot ⟨(zbo a s.Page).Page,zfd s.Rights (zbo a s.Page).Rights⟩)
def zda (_:Slot)(_:List Slot):Bool:=true
def zcq (s:Slot)(a:List Slot):Slot:=zbq s a
def zhO:Run:=rF2 (dT .slot) (dS .slot) λb c=>(zda b c,[aT .slot<|zcq b c])
def zi9 (N:Nat)(a:Slot)(c:lS):OA:=
 let b:=zcw c a.Page; (oN (zcZ c a.Page)<|oN (zZ a.Rights b.Rights)<|cond (ieq a.Page<|-1) (oN zbG<|some [.agg [.i .i64 zbf.Page,.i .i64 zbf.Rights]])<|cond (ieq b.Page<|-1) (oN zbG<|some [.agg [.i .i64 zbf.Page,.i .i64 zbf.Rights]])<|cond (ieq (zdD a.Rights b.Rights) 0) (oN zbG<|some [.agg [.i .i64 zbf.Page,.i .i64 zbf.Rights]])<|some [.agg [.i .i64 b.Page,.i .i64<|zdD a.Rights b.Rights]])
theorem znW (a:Slot)(b:List Slot)(c:zda a b=true):∃N,zi9 N a b=some [aT .slot<|zcq a b]:=by
 refine⟨0,?_⟩;unfold zi9 zcq zbq zcw zdD oN;conv=>zeta
 cases ieq a.Page (-1)<;>cases ieq (zbo b a.Page).Page (-1)<;>cases ieq (zfd a.Rights (zbo b a.Page).Rights) 0<;>rfl
theorem zlT:u3 55 zhO:=kF2 zis zbr zA zC (zF []) znW
def zdo (x:Int):Int:=bif (ige x 1&&ile x 6) then zi7 .i64 (wsub .i64 x 1) 2 else -1
def zdk (x:Int):Int:=bif (ige x 1&&ile x 6) then zcN (wsub .i64 x 1) 2 else -1
def ziH (x:Int):Int:=zdo x
def znb:Run:=rF1 dI λb=>(zbS b,[aI<|ziH b])
def zqb (N:Nat)(a:Int):OA:=
 (oN (zN a 1 6)<|cond (nB<|zi a 1 6) (some [aI<|-1])<|oN (ine 2 0)<|some [aI<|zi7 .i64 (wsub .i64 a 1) 2])
theorem zvQ (a:Int)(b:zbS a=true):∃N,zqb N a=some [aI<|ziH a]:=by refine⟨0,?_⟩;unfold zqb ziH zdo zi oN nB;cases ige a 1&&ile a 6<;>rfl
theorem zsl:u3 53 znb:=kF1 zis zbr zA zC (zF []) zvQ
def zgs (x:Int):Int:=zdk x
def zkA:Run:=rF1 dI λb=>(zbS b,[aI<|zgs b])
def zlZ (N:Nat)(a:Int):OA:=
 (oN (zN a 1 6)<|cond (nB<|zi a 1 6) (some [aI<|-1])<|oN (ine 2 0)<|some [aI<|zcN (wsub .i64 a 1) 2])
theorem zsD (a:Int)(b:zbS a=true):∃N,zlZ N a=some [aI<|zgs a]:=by refine⟨0,?_⟩;unfold zlZ zgs zdk zi oN nB;cases ige a 1&&ile a 6<;>rfl
theorem zpi:u3 54 zkA:=kF1 zis zbr zA zC (zF []) zsD
def zDZ:zB:=[(57,zov),(55,zhO),(53,znb),(54,zkA)]++zDY
theorem zuX:zo zDZ:=zk zt1 (zk zlT<|zk zsl<|zk zpi zis)
def zgV (k:Kept)(a b:List Slot)(i:Nat):Bool :=
 zb9 (ix k.Slots i zU) (cond (ix k.Known i false) (zbq (ix a i zU) b) noSlot)
def zeW (k:Kept)(a b:List Slot):Bool :=
 bif ine (ln k.Known) (ln a) then false else (cond (ine (ln k.Slots)<|ln a) false<|zhA (zgV k a b) a.length 0)
theorem zxY {a b:Type}{l:List a}{m:List b}(h:ine (ln l) (ln m)=false):l.length=m.length:=by have:(ln l==ln m)=true:=(by simpa [ine,bne] using h);have:=eq_of_beq this;simp only[ln] at this;omega
def zhX (_:Kept)(_ _:List Slot):Bool:=true
def ziF (k:Kept)(a b:List Slot):Bool:=zeW k a b
def zm4:Run:=rF3 (dT .kept) (dS .slot) (dS .slot) λb c d=>(zhX b c d,[aB<|ziF b c d])
def zp1 (N:Nat)(c:Kept)(e h:lS):OA:=
 (cond (ine (ln c.Known)<|ln e) oF<|cond (ine (ln c.Slots)<|ln e) oF<|iter (σ:=(Int×Int×lS×lS×lS×lB×Unit)) N (λi a=>let b:=a.2.1;let f:=ix a.2.2.1 b zU;let g:=i (a.1,zQ .i64 b 1,a.2.2.1,a.2.2.2.1,a.2.2.2.2.1,a.2.2.2.2.2.1,());let d:=ix a.2.2.2.2.1 b zU; (cond (ilt b a.1) (oN (inb b<|ln a.2.2.2.2.1)<|oN zbG<|oN (inb b<|ln a.2.2.2.2.2.1)<|cond (ix a.2.2.2.2.2.1 b false) (oN (inb b<|ln a.2.2.1)<|oN (zda f a.2.2.2.1)<|cond (nB<|cond (ieq d.Page (zcq f a.2.2.2.1).Page) (ieq d.Rights (zcq f a.2.2.2.1).Rights) false) oF g)<|cond (nB<|cond (ieq d.Page zbf.Page) (ieq d.Rights zbf.Rights) false) oF g) oT)) (ln c.Slots,0,e,h,c.Slots,c.Known,()))
def zwy:=zF [(52,0,{n:=48,tm:=[(1,.sl 0 []),(2,.sl 1 []),(3,.lp 0 0),(25,.sl 2 []),(26,ti),(27,ti)],lo:=[(0,[.sl 3 [],.sl 2 []])],ro:=[(0,.slot,false),(1,.slot,false),(2,.slot,false),(3,.bool,false)]})]
theorem zvG (a:Kept)(c d:List Slot)(p:zb1 big [aT .kept a,aS .slot c,aS .slot d])(r:zhX a c d=true):∃N,zp1 N a c d=some [aB<|ziF a c d]:=by
 have q:=((zcb (zcb p).2).1 _ (qE.2 rfl)).len;refine zcG λN h=>?_;unfold zp1 ziF zeW oN nB;conv=>zeta
 cases m:ine (ln a.Known) (ln c);{cases n:ine (ln a.Slots) (ln c);{have k:=zxY m;have g:=zxY n;have f:a.Slots.length<=big:=g ▸ q;simp only[cF];refine(zbb a.Slots (λi (t:Unit)=>(ln a.Slots,(i:Int),c,d,a.Slots,a.Known,())) _ (λi _ (_:Unit) j=>bif zgV a c d i then j () else oF) (λ(t:Unit)=>some [.one<|.b true]) (λi e t rec=>?_) (λt rec=>?_) _ ()<|h f).trans ?_;{simp only [zbT e,zbk e,zbt e,zX e f,cT];simp only[zbk (l:=a.Known) (i:=i)<|k.trans g.symm ▸ e,zbk (l:=c) (i:=i)<|g ▸ e,zbG,zda,cT,zgV,zb9,zcq,zbf,zbt e];cases ix a.Known (↑i) false;{simp only [cF];cases ieq a.Slots[i].Page noSlot.Page<;>cases ieq a.Slots[i].Rights noSlot.Rights<;>rfl};{simp only [cT];generalize zbq (ix c (↑i) zU) d=z;cases ieq a.Slots[i].Page z.Page<;>cases ieq a.Slots[i].Rights z.Rights<;>rfl}};{simp only [zbC,cF]};rw[zke λi t j=>bif zgV a c d i then j () else oF,zr3,g];cases zhA (zgV a c d) c.length 0<;>rfl};{rfl}};{rfl}
theorem zsa:u3 52 zm4:=hF3 zuX zbr zA zC zwy zvG
def zD0:zB:=[(52,zm4)]++zDZ
theorem zoZ:zo zD0:=zk zsa zuX
def zg9 (a:List Slot)(b:List Kept):List Guest->Nat->Bool
 |[],_=>true
 |g::l,i=>bif ilt (i:Int) (ln b) then (cond (zeW (ix b (i:Int) zd4) g.Live a) (zg9 a b l<|i+1) false) else true
theorem zqQ {e:Type}(a:List Slot)(b:List Kept)(r c:Option e):∀(l:List Guest) (i:Nat),
 goL (λi g (_:Unit) d=>bif ilt (i:Int) (ln b) then (cond (zeW (ix b (i:Int) zd4) g.Live a) (d ()) r) else c) (λ_=>c) l i ()=bif zg9 a b l i then c else r
 |[],_=>rfl
 |g::l,i=>by simp only[goL,zg9];cases ilt (i:Int) (ln b);{rfl};{cases zeW (ix b (i:Int) zd4) g.Live a;{rfl};{exact zqQ a b r c l (i+1)}}
theorem zFx {i:Nat}{a:Type}{l:List a}(h:ilt (i:Int) (ln l)=true):inb (i:Int) (ln l)=true:=by have:=qP h;exact qT ⟨by omega,this⟩
def tablesOf (m:Mon):Bool:=zg9 m.Outer m.Tables m.Guests 0
def zfH (h:Host):Bool:=h.Mons.all tablesOf
def zgr (_:Host):Bool:=true
def zdT (h:Host):Bool:=zfH h
def zfu:Run:=rF1 dH λb=>(zgr b,[aB<|zdT b])
def zjb (N:Nat)(h:Host):OA:=
 (iter (σ:=(Int×Int×lN×Unit)) N (λl c=>let b:=c.2.1;let g:=ix c.2.2.1 b zx; (cond (ilt b c.1) (oN (inb b<|ln c.2.2.1)<|iter (σ:=(Int×Int×Int×Int×Int×Int×Int×Int×Int×Int×Int×Int×lN×Unit)) N (λm a=>let d:=a.2.2.2.2.2.2.2.2.2.2.2.2.1;let j:=(ix d a.2.2.2.1 zx).Outer;let i:=l (a.2.1,zQ .i64 a.2.2.1 1,d,());let f:=(ix d a.2.2.2.2.2.2.1 zx).Guests;let k:=(ix f a.1 zde).Live;let e:=(ix d a.2.2.2.2.2.2.2.2.2.2.1 zx).Tables; (cond (ilt a.1<|ln f) (cond (ilt a.1<|ln e) (oN (inb a.1<|ln e)<|oN (inb a.1<|ln f)<|oN (zhX (ix e a.1 zd4) k j)<|cond (nB<|ziF (ix e a.1 zd4) k j) oF<|m (zQ .i64 a.1 1,a.2.1,a.2.2.1,a.2.2.2.1,a.2.2.2.2.1,a.2.2.2.2.2.1,a.2.2.2.2.2.2.1,a.2.2.2.2.2.2.2.1,a.2.2.2.2.2.2.2.2.1,a.2.2.2.2.2.2.2.2.2.1,a.2.2.2.2.2.2.2.2.2.2.1,a.2.2.2.2.2.2.2.2.2.2.2.1,d,())) i) i)) (0,c.1,b,b,b,b,b,b,g.Pending,g.Traps,b,g.Own,c.2.2.1,())) oT)) (ln h.Mons,0,h.Mons,()))
def zn1:=zF [(28,0,{n:=43,tm:=[(7,.sl 0 []),(8,ti),(9,ti)],lo:=[],ro:=[(0,.mon,false)]}),(28,2,{n:=43,tm:=[(4,.lp 0 0),(5,ti),(7,.sl 0 []),(8,ti),(9,ti)],lo:=[(0,[.sl 0 [0],.sl 0 [1],.sl 0 [2],.sl 0 [3],.sl 0 [4],ti,ti,.sl 0 [7],ti])],ro:=[(0,.mon,false)]})]
theorem znY (a:Host)(n:zb1 big [aH a])(q:zgr a=true):∃N,zjb N a=some [aB<|zdT a]:=by
 have m:CVB big (.s .mon a.Mons):=(zcb n).1 _ (by simp[AV.cvs,zbs]);have k:=m.len;refine zcG λN d=>?_;unfold zjb oN nB;conv=>zeta
 refine(zbb a.Mons (λi (t:Unit)=>(ln a.Mons,(i:Int),a.Mons,())) _ (λ_ (x:Mon) (_:Unit) l=>bif tablesOf x then l () else oF) (λ(t:Unit)=>some [.one<|.b true]) (λi c t rec=>?_) (λt rec=>?_) _ ()<|d k).trans ?_;{simp only [zbT c,zbk c,zbt c,zX c k,cT];have e:a.Mons[i].Guests.length<=big:=(m.inv.2 _ (jU c) (.s .guest _) (by simp[Ty.cells])).len;refine(zbb a.Mons[i].Guests (λj (u:Unit)=>((j:Int),ln a.Mons,(i:Int),(i:Int),(i:Int),(i:Int),(i:Int),(i:Int),a.Mons[i].Pending,a.Mons[i].Traps,(i:Int),a.Mons[i].Own,a.Mons,())) _ (λj (g:Guest) (_:Unit) l=>bif ilt (j:Int) (ln a.Mons[i].Tables) then (cond (zeW (ix a.Mons[i].Tables (j:Int) zd4) g.Live a.Mons[i].Outer) (l ())<|oF) else rec (ln a.Mons,((i+1:Nat):Int),a.Mons,())) (λ(u:Unit)=>rec (ln a.Mons,((i+1:Nat):Int),a.Mons,())) (λj h u f=>?_) (λu f=>?_) _ ()<|d e).trans ?_;{simp only [zbT h,zbk h,zbt h,zX h e,cT,zbk c,zbt c,zX c k];cases p:ilt (j:Int) (ln a.Mons[i].Tables);{rfl};{simp only [cT,zFx p,zhX,ziF];cases zeW (ix a.Mons[i].Tables (↑j) zd4) a.Mons[i].Guests[j].Live a.Mons[i].Outer<;>rfl}};{simp only [zbC,cF,zbk c,zbt c,zX c k]};exact zqQ _ _ _ _ _ _};{simp only [zbC,cF]};rw[zeC];unfold zdT zfH;cases a.Mons.all tablesOf<;>rfl
theorem zgJ:u3 28 zfu:=hF1 zoZ zbr zA zC zn1 znY
def zce (h:Host)(e:Entry):Bool :=
 bif hasB (zdo e.Tag) (ln h.Mons) then (bif hasB (zdk e.Tag) (ln (ix h.Mons (zdo e.Tag) zx).Guests) then
  below' ⟨e.Host,e.Rights⟩ (zbq (zbo (ix (ix h.Mons (zdo e.Tag) zx).Guests (zdk e.Tag) zde).Live e.Page) (ix h.Mons (zdo e.Tag) zx).Outer) else false) else false
def zeP (h:Host)(b:List Entry):Bool:=b.all (zce h)
def zel (_:Host)(_:List Entry):Bool:=true
def zcU (h:Host)(b:List Entry):Bool:=zeP h b
def ze5:Run:=rF2 dH (dS .entry) λb c=>(zel b c,[aB<|zcU b c])
def zik (N:Nat)(e:Host)(j:lE):OA:=
 (iter (σ:=(Int×Int×lE×lM×lN×lE×lE×Unit)) N (λm a=>let d:=a.2.2.2.2.1;let b:=ix a.2.2.1 a.2.1 zkN;let l:=(⟨b.Host,b.Rights⟩:Slot);let g:=zgs b.Tag;let f:=ziH b.Tag;let h:=inb f<|ln d;let c:=ix d f zx;let k:=(ix c.Guests g zde).Live;let i:=zcw k b.Page; (cond (ilt a.2.1 a.1) (oN (inb a.2.1<|ln a.2.2.1)<|oN (zbS b.Tag)<|oN (zbS b.Tag)<|oN (zZ f<|ln d)<|cond (nB<|zcf f<|ln d) oF<|oN h<|oN (zZ g<|ln c.Guests)<|cond (nB<|zcf g<|ln c.Guests) oF<|oN h<|oN (inb g<|ln c.Guests)<|oN (zcZ k b.Page)<|oN h<|oN (zda i c.Outer)<|oN (zjr l<|zcq i c.Outer)<|cond (nB<|zkl l<|zcq i c.Outer) oF<|m (a.1,zQ .i64 a.2.1 1,a.2.2.1,a.2.2.2.1,d,a.2.2.2.2.2.1,a.2.2.2.2.2.2.1,())) oT)) (ln j,0,j,e.Memory,e.Mons,e.Buffer,e.IoBuffer,()))
def znr:=zF [(29,0,{n:=69,tm:=[(2,.lp 0 0),(10,.sl 0 []),(11,ti),(12,ti)],lo:=[(0,[.sl 1 [],.sl 2 [],.sl 3 [],.sl 4 []])],ro:=[(0,.entry,false),(1,.sl .int,false),(2,.mon,false),(3,.entry,false),(4,.entry,false)]})]
theorem zmP (a:Host)(b:List Entry)(g:zb1 big [aH a,aS .entry b])(j:zel a b=true):∃N,zik N a b=some [aB<|zcU a b]:=by
 have f:=((zcb (zcb g).2).1 _ (qE.2 rfl)).len;refine⟨NN,?_⟩;unfold zik oN nB;conv=>zeta
 refine(zbb b (λi (_:Unit)=>(ln b,(i:Int),b,a.Memory,a.Mons,a.Buffer,a.IoBuffer,())) _ (λ_ (x:Entry) (_:Unit) k=>bif zce a x then k () else oF) (λ_=>oT)
  (λi c t rec=>?_) (λt rec=>?_) _ () (zG2 f)).trans ?_
 {simp only [zbT c,zbk c,zbt c,cT,zbS,ziH,zbS,zgs,zZ,zcf,zcZ,zcw,zda,zcq,zjr,zkl,zX c f];unfold zce;generalize b[i]=e;cases h:hasB (zdo e.Tag) (ln a.Mons);{rfl};{rw [zbi h];cases d:hasB (zdk e.Tag) (ln (ix a.Mons (zdo e.Tag) zx).Guests);{rfl};{rw [zbi d];simp only[cT,Bool.not_true,cF];cases below' ⟨e.Host,e.Rights⟩ (zbq (zbo (ix (ix a.Mons (zdo e.Tag) zx).Guests (zdk e.Tag) zde).Live e.Page) (ix a.Mons (zdo e.Tag) zx).Outer)<;>rfl}}};{simp only [zbC,cF]};{rw [zeC];unfold zcU zeP;cases b.all (zce a)<;>rfl}
theorem zgm:u3 29 ze5:=hF2 zoZ zbr zA zC znr zmP
def zD1:zB:=[(28,zfu),(29,ze5)]++zD0
theorem zCe:zo zD1:=zk zgJ (zk zgm zoZ)
def zGq:zB:=zD1
theorem zxK:∀f a,zf zGq f=some a->Holds Try.prog f a:=zCe
theorem hE (h:Host):(⟨h.Memory,h.Mons,h.Buffer,h.IoBuffer⟩:Host)=h:=rfl
def idxs {a:Type}(p:a->Bool):List a->Nat->List Int
 |[],_=>[]
 |x::l,i=>bif p x then (i:Int)::idxs p l (i+1) else idxs p l (i+1)
theorem zvt {a:Type}(p:a->Bool):∀(l:List a) (i:Nat),(idxs p l i).length<=l.length
 |[],_=>qV _
 |x::l,i=>by have:=zvt p l (i+1);simp only[idxs];cases p x<;>simp<;>omega
theorem zpb {b c:Type}(p:b->Bool)(K:List Int->Option c):∀(l:List b) (i:Nat) (a:List Int),a.length+l.length<=2147483648->
 goL (λi x a k=>bif p x then (cond (few<|ln<|ap a [(i:Int)]) (k<|ap a [(i:Int)]) none) else k a) K l i a=K (a++idxs p l i)
 |[],i,a,_=>by simp[goL,idxs]
 |x::l,i,a,h=>by simp only[qU]at h;simp only[goL,idxs];cases p x;{simp only [cF];exact zpb p K l (i+1) a (by omega)};{simp only [cT];rw[zfw (by simp[ap];omega),cT,zpb p K l (i+1) _ (by simp[ap];omega)];simp[ap]}
def zhF (p:Nat->Bool):Nat->Nat->List Int
 | 0,_=>[]
 |n+1,i=>bif p i then (i:Int)::zhF p n (i+1) else zhF p n (i+1)
theorem zpd {b:Type}(p:Nat->Bool)(K:List Int->Option b):∀(n i:Nat) (a:List Int),a.length+n<=2147483648->
 goN (λi a k=>bif p i then (cond (few<|ln<|ap a [(i:Int)]) (k<|ap a [(i:Int)]) none) else k a) K n i a=K (a++zhF p n i)
 | 0,i,a,_=>by simp[goN,zhF]
 |n+1,i,a,h=>by simp only[goN,zhF];cases p i;{simp only [cF];exact zpd p K n (i+1) a (by omega)};{simp only [cT];rw[zfw (by simp[ap];omega),cT,zpd p K n (i+1) _ (by simp[ap];omega)];simp[ap]}
abbrev zld (l:List Slot)(_:Int):Bool:=pc (l.length<=2147483648)
abbrev zeS (l:List Slot)(p:Int):List Int:=idxs (λ(s:Slot)=>ieq s.Page p) l 0
def znc:Run:=rF2 (dS .slot) dI λb c=>(zld b c,[aS .int<|zeS b c])
def zqc (N:Nat)(d:lS)(f:Int):OA:=
 (iter (σ:=(Int×Int×Int×(List Int)×lS×Unit)) N (λe a=>let c:=a.2.2.2.2.1;let b:=a.2.2.1; (cond (ilt b a.2.1) (oN (inb b<|ln c)<|cond (ieq (ix c b zU).Page a.1) (oN (few<|ln<|ap a.2.2.2.1 [b])<|e (a.1,a.2.1,zQ .i64 b 1,ap a.2.2.2.1 [b],c,()))<|e (a.1,a.2.1,zQ .i64 b 1,a.2.2.2.1,c,()))<|some [aS .int a.2.2.2.1])) (f,ln d,0,[],d,()))
def zwD:=zF [(83,0,{n:=26,tm:=[(1,ti),(5,.sl 0 []),(9,.sl 1 []),(10,ti),(11,ti)],lo:=[],ro:=[(0,.int,true),(1,.slot,false)]})]
theorem zvR (a:List Slot)(b:Int)(g:zb1 big [aS .slot a,aI b])(h:zld a b=true):∃N,zqc N a b=some [aS .int<|zeS a b]:=by
 have e:=len0 g;have j:=zbm.1 h;refine zcG λN d=>?_;unfold zqc oN;conv=>zeta
 refine(zbb a (λi (t:(List Int))=>(b,ln a,(i:Int),t,a,())) _ (λi (x:Slot) (t:List Int) f=>bif ieq x.Page b then (cond (few<|ln<|ap t [(i:Int)]) (f<|ap t [(i:Int)]) none) else f t) (λ(t:(List Int))=>some [.one<|.s .int t]) (λi c t rec=>?_) (λt rec=>?_) _ ([])<|d e).trans ?_;{simp only [zbT c,zbk c,zbt c,zX c e,cT]};{simp only [zbC,cF]};exact zpb (λ(s:Slot)=>ieq s.Page b) _ _ 0 [] (by simpa using j)
theorem zsm:u3 83 znc:=hF2 zxK zbr zA zC zwD zvR
def zD3:zB:=[(83,znc)]++zGq
theorem zCg:zo zD3:=zk zsm zxK
def zD4:zB:=zD3
theorem zCh:zo zD4:=zCg
def zD5:zB:=zD4
theorem zuY:zo zD5:=zCh
theorem zxZ (x y:Int):ine x y = !ieq x y:=rfl
def zbZ (l:List Int):Bool:=pc (l.length<=2147483648)
abbrev zbY (l:List Int):List Int:=l
def zkE:Run:=rF1 (dS .int) λb=>(zbZ b,[aS .int<|zbY b])
def zl4 (N:Nat)(a:List Int):OA:=
 (oN (few<|ln<|ap [] a)<|some [aS .int<|ap [] a])
theorem zsI (a:List Int)(b:zbZ a=true):∃N,zl4 N a=some [aS .int<|zbY a]:=by refine⟨0,?_⟩;unfold zl4 oN;rw[zqn,zfw<|zbm.1 b,cT]
theorem zpm:u3 63 zkE:=kF1 zuY zbr zA zC (zF []) zsI
def zD6:zB:=[(63,zkE)]++zD5
theorem zo0:zo zD6:=zk zpm zuY
def zly:List Int:=rp 4 0
def zbl (m:List (List Int))(p:Int):List Int:=bif hasB p (ln m) then ix m p [] else zly
def zcs (m:List (List Int))(_:Int):Bool:=pc (CVB sm<|.s (.sl .int) m)
def zdj (m:List (List Int))(p:Int):List Int:=zbl m p
theorem zBg {m:List (List Int)}{p:Int}(b:CVB sm (.s (.sl .int) m))(a:hasB p (ln m)=true):(ix m p []).length<=2147483648 :=
 (zd3 (b.inv.2 _ (zb8 a ([]:List Int)) (.s .int _) (qE.2 rfl)).len).2
def zgB:Run:=rF2 (dS<|.sl .int) dI λb c=>(zcs b c,[aS .int<|zdj b c])
def zqg (N:Nat)(a:lM)(b:Int):OA:=
 (oN (zN b 0<|wsub .i64 (ln a) 1)<|cond (nB<|zi b 0<|wsub .i64 (ln a) 1) (oN (cond (few 4) (ieq 4 4) false)<|some [aS .int<|rp 4 0])<|oN (inb b<|ln a)<|oN (few<|ln<|ap []<|ix a b [])<|some [aS .int<|ap []<|ix a b []])
theorem zvW (b:List (List Int))(a:Int)(f:zcs b a=true):∃N,zqg N b a=some [aS .int<|zdj b a]:=by have d:=zbm.1 f;refine⟨0,?_⟩;unfold zqg zdj zbl oN nB;have e:zi a 0 (wsub .i64 (ln b) 1)=hasB a (ln b):=zli (zd3 d.len).1 a;rw[e];cases c:hasB a (ln b);{rfl};{simp only [zN,cT,cF,zbi c,zqn,zfw<|zBg d c]}
theorem zsr:u3 48 zgB:=kF2 zo0 zbr zA zC (zF []) zvW
def zp3 (N:Nat)(a:lM)(b:Int):OA:=
 (oN (zZ b<|ln a)<|cond (nB<|zcf b<|ln a) (oN (cond (few 4) (ieq 4 4) false)<|some [aS .int<|rp 4 0])<|oN (inb b<|ln a)<|oN (zbZ<|ix a b [])<|some [aS .int<|zbY<|ix a b []])
theorem zvI (a:List (List Int))(b:Int)(d:zcs a b=true):∃N,zp3 N a b=some [aS .int<|zdj a b]:=by have e:=zbm.1 d;refine⟨0,?_⟩;unfold zp3 zdj zbl zcf oN nB;cases c:hasB b (ln a);{rfl};{simp only [zZ,cT,cF,zbi c,show zbZ (ix a b [])=true from zb3 (zBg e c),zbY]}
theorem zsd:u3 77 zgB:=kF2 zo0 zbr zA zC (zF []) zvI
def zD7:zB:=[(48,zgB),(77,zgB)]++zD6
theorem zo1:zo zD7:=zk zsr (zk zsd zo0)
def zbj (h:Host)(m p:Int):List Int :=
 bif hasB m (ln h.Mons) then (cond (hasB p 8) (cond (ine (zbo (ix h.Mons m zx).Outer p).Page<|-1) (zbl h.Memory (zbo (ix h.Mons m zx).Outer p).Page)<|zbl (ix h.Mons m zx).Out p) zly) else zly
theorem zHu (p:Int):zi p 0 7=hasB p 8:=by unfold zi ige ile hasB;by_cases a:0<=p<;>by_cases b:p<8;{rw [qT (p:=p≥0) (by omega),qT (p:=p<=7) (by omega),qT (p:=0<=p/\p<8) ⟨a,b⟩];rfl};{rw [qW (p:=p<=7) (by omega),qW (p:=0<=p/\p<8) (by omega)];simp};{rw [qW (p:=p≥0) (by omega),qW (p:=0<=p/\p<8) (by omega)];simp};{rw [qW (p:=p≥0) (by omega),qW (p:=0<=p/\p<8) (by omega)];simp}
def zgH (h:Host)(_ _:Int):Bool:=pc (zdW h)
def ze9 (h:Host)(m p:Int):List Int:=zbj h m p
def ze6:Run:=rF3 dH dI dI λb c d=>(zgH b c d,[aS .int<|ze9 b c d])
def zqh (N:Nat)(a:Host)(c b:Int):OA:=
 let d:=ix a.Mons c zx;let e:=(zcw d.Outer b).Page; (oN (zN c 0<|wsub .i64 (ln a.Mons) 1)<|cond (nB<|zi c 0<|wsub .i64 (ln a.Mons) 1) (oN (cond (few 4) (ieq 4 4) false)<|some [aS .int<|rp 4 0])<|oN (zN b 0 7)<|cond (nB<|zi b 0 7) (oN (cond (few 4) (ieq 4 4) false)<|some [aS .int<|rp 4 0])<|oN (inb c<|ln a.Mons)<|oN (zcZ d.Outer b)<|cond (ine e<|-1) (oN (zcs a.Memory e)<|some [aS .int<|zdj a.Memory e])<|oN (zcs d.Out b)<|some [aS .int<|zdj d.Out b])
theorem zvX (a:Host)(b c:Int)(g:zgH a b c=true):∃N,zqh N a b c=some [aS .int<|ze9 a b c]:=by
 have d:=zbm.1 g;refine⟨0,?_⟩;unfold zqh ze9 zbj oN nB;conv=>zeta
 have e:zi b 0 (wsub .i64 (ln a.Mons) 1)=hasB b (ln a.Mons):=zli (zd3 d.mons.len).1 b;rw[e,zHu];cases f:hasB b (ln a.Mons);{rfl};{cases i:hasB c 8;{rfl};{have h:CVB sm (.s (.sl .int) (ix a.Mons b zx).Out):=d.mons.inv.2 _ (zb8 f zx) (.s (.sl .int) _) (by simp[Ty.cells]);simp only[zN,cT,cF,zbi f,zcZ,zcw,show ∀p,zcs a.Memory p=true from λp=>zb3 d.mem,show ∀p,zcs (ix a.Mons b zx).Out p=true from λp=>zb3 h,zdj];cases ine (zbo (ix a.Mons b zx).Outer c).Page (-1)<;>rfl}}
theorem zkk:u3 22 ze6:=kF3 zo1 zbr zA zC (zF []) zvX
def zp4 (N:Nat)(a:Host)(c b:Int):OA:=
 let d:=ix a.Mons c zx;let e:=(zcw d.Outer b).Page; (oN (zZ c<|ln a.Mons)<|cond (nB<|zcf c<|ln a.Mons) (oN (cond (few 4) (ieq 4 4) false)<|some [aS .int<|rp 4 0])<|oN (zZ b 8)<|cond (nB<|zcf b 8) (oN (cond (few 4) (ieq 4 4) false)<|some [aS .int<|rp 4 0])<|oN (inb c<|ln a.Mons)<|oN (zcZ d.Outer b)<|cond (ine e<|-1) (oN (zcs a.Memory e)<|some [aS .int<|zdj a.Memory e])<|oN (zcs d.Out b)<|some [aS .int<|zdj d.Out b])
theorem zvJ (a:Host)(b c:Int)(f:zgH a b c=true):∃N,zp4 N a b c=some [aS .int<|ze9 a b c]:=by
 have e:=zbm.1 f;refine⟨0,?_⟩;unfold zp4 ze9 zbj zcf oN nB;conv=>zeta
 cases d:hasB b (ln a.Mons);{rfl};{cases h:hasB c 8;{rfl};{have g:CVB sm (.s (.sl .int) (ix a.Mons b zx).Out):=e.mons.inv.2 _ (zb8 d zx) (.s (.sl .int) _) (by simp[Ty.cells]);simp only[zZ,cT,cF,zbi d,zcZ,zcw,show ∀p,zcs a.Memory p=true from λp=>zb3 e.mem,show ∀p,zcs (ix a.Mons b zx).Out p=true from λp=>zb3 g,zdj];cases ine (zbo (ix a.Mons b zx).Outer c).Page (-1)<;>rfl}}
theorem zse:u3 61 ze6:=kF3 zo1 zbr zA zC (zF []) zvJ
def zD8:zB:=[(22,ze6),(61,ze6)]++zD7
theorem zCi:zo zD8:=zk zkk (zk zse zo1)
def zD9:zB:=zD8
theorem zCj:zo zD9:=zCi
def zGp:zB:=zD9
theorem zFj:∀f a,zf zGp f=some a->Holds Try.prog f a:=zCj
def zGo:zB:=zGp
theorem zia:zo zGo:=zFj
def zsP:zd8:=zCR
theorem zL:zdA zsP:=zbr
def canRun (g:Guest):Bool:=bif (ieq g.Exit.Kind 0&&(ieq g.Exit.Page 0&&(zrT g.Exit.Write false&&ieq g.Exit.N 0))) then !g.Halted else false
end
end Go.Proofs.Ytcdjmakaecpkbaa.E
