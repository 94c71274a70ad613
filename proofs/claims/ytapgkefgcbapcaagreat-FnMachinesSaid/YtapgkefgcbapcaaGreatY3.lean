/- What is proved here: a part of the proof of the claim. -/
import Derived.Test.YtapgkefgcbapcaaGreatY2
import Derived.Orders
import Derived.HandedShaped
import Derived.ProofKit
import Derived.KernelRfl
namespace Go.Proofs.YtapgkefgcbapcaaGreat.E
open Go
set_option linter.defProp false
set_option linter.constructorNameAsVariable false
set_option linter.unusedVariables false
set_option maxRecDepth 100000
set_option linter.unusedSimpArgs false
set_option linter.unusedSectionVars false
noncomputable section
section
variable {C:Cfg} {st st':St}
def z9S {o:Oper}{id:Nat}{T:TypeId}{x:Operand}(b:o.op = .load T x){L:List Operand}(c:x∈L)(h:Agree st st' L):z0 C st' o id=z0 C st o id:=by have f:=h.at c;simp only[z0,b,f];cases j:C.cty T with|none=>rfl|some g=>(cases e:st.at x with|none=>rfl|some a=>(cases a with|lp l d=>simp only[h.loc<|zd8 c e]|ep r p i d=>simp only[h.nodeE<|zd8 c e]|_=>rfl))
def z8c {o:Oper}{id:Nat}{T:TypeId}{a x:Operand}(n:o.op = .store T a x){L:List Operand}(u:x∈L)(g:a∈L)(h:Agree st st' L):z0 C st' o id=z0 C st o id:=by
 have z:=h.at g;have D:=h.op x u;simp only[z0,n,z,D];cases E:C.cty T with
 |none=>rfl
 |some A=>
  cases B:st.opnd x with
  |none=>
   obtain⟨w,c⟩:=A;have q:c=[]\/(∃k,c=[.i k])\/c=[.b]\/(∃t,c=[.s t])\/∃d f r,c=d::f::r:=by
    match c with
    |[]=>exact .inl rfl
    |[.i k]=>exact .inr (.inl ⟨k,rfl⟩)
    |[.b]=>exact .inr (.inr (.inl rfl))
    |[.s t]=>exact .inr (.inr<|.inr<|.inl ⟨t,rfl⟩)
    |d::f::r=>exact .inr (.inr<|.inr<|.inr ⟨d,f,r,rfl⟩)
   cases e:st.at a with
   |none=>rcases q with rfl|⟨k,rfl⟩|rfl|⟨t,rfl⟩|⟨d,f,r,rfl⟩<;>first|rfl|(cases d<;>rfl)
   |some y=>
    cases y with
    |lp l j=>rcases q with rfl|⟨k,rfl⟩|rfl|⟨t,rfl⟩|⟨d,f,r,rfl⟩;{rfl};{rfl};{rfl};{simp only [h.loc<|zd8 g e]};{cases d<;>rfl}
    |_=>rcases q with rfl|⟨k,rfl⟩|rfl|⟨t,rfl⟩|⟨d,f,r,rfl⟩<;>first|rfl|(cases d<;>rfl)
  |some m=>cases m with|v y=>(cases e:st.at a with|none=>rfl|some b=>(cases b with|lp l j=>simp only[h.loc<|zd8 g e]|ep r p i j=>simp only[h.rootE<|zd8 g e,h.nodeE<|zd8 g e,h.giveV u B]|_=>rfl))|_=>rfl
def zk5 (a:st'.ep=st.ep):∀(b:List Nat),(∀k∈b,zl st'.ro k=zl st.ro k)->moved st' b=moved st b
 |[],_=>rfl
 |k::b,c=>by simp only[moved];rw[c k (by simp),a,zk5 a b λq d=>c q (by simp[d])]
def zsB:∀(a:List Nat),(∀k∈a,zl st'.ro k=zl st.ro k)->zf7 st' a=zf7 st a
 |[],_=>rfl
 |k::a,b=>by simp only[zf7];rw[b k (by simp),zsB a λq c=>b q (by simp[c])]
def z8b {o:Oper}{id:Nat}{T:TypeId}{x:Operand}{lo i:Option Operand}(j:o.op = .slice T x lo i none){L:List Operand}(g:x∈L)(f:∀y,lo=some y->y∈L)(d:∀y,i=some y->y∈L)(h:Agree st st' L):z0 C st' o id=z0 C st o id:=by have m:=h.at g;have ep:=h.ep;have sub:∀R t l,ze9 st' R t l=ze9 st R t l:=λR t l=>(by simp only[ze9,ep]);simp only[z0,j,m];cases e:st.at x with|none=>rfl|some a=>(cases a with|sl r p=>simp only[h.root<|zd8 g e,h.node<|zd8 g e,sub];(cases lo with|none=>(cases i with|none=>rfl|some y=>have c:∀R t l n,zHs C st' id r p R t l n=zHs C st id r p R t l n:=λR t l n=>(by have b:∀k∈[r],zl st'.ro k=zl st.ro k:=λk b=>(by simp only[qD]at b;subst b;exact(h.held<|zd8 g e).1 k (by simp[zbr]));unfold zHs;rw[zk5 h.ep [r] b,zsB [r] b];simp only[sub]);simp only[h.at (d y rfl),c])|some z=>(cases i with|none=>have c:∀R t l n,zMS C st' id r p R t l n=zMS C st id r p R t l n:=λR t l n=>(by have b:∀k∈[r],zl st'.ro k=zl st.ro k:=λk b=>(by simp only[qD]at b;subst b;exact(h.held<|zd8 g e).1 k (by simp[zbr]));unfold zMS;rw[zk5 h.ep [r] b,zsB [r] b];simp only[sub]);simp only[h.at (f z rfl),c]|some y=>simp only[h.at (f z rfl),h.at (d y rfl)]))|_=>rfl)
def z4P {a:Type}{b:Bool}{x y:a}(h:(if b=true then some x else none)=some y):x=y:=by cases b with|true=>simpa using h|false=>simp at h
def zXI {m:Option (Nat×List (Int×Nat)×Int)}:∀(f:List At) (j:Nat) (c:Bool) (g:LC) (e:List Nat),st.give m f j=some (c,g,e)->∀k∈e,At.sl k []∈f
 |[],j,c,g,e,h,k,b=>by simp only[St.give,qC,jS]at h;obtain⟨_,_,rfl⟩:=h;simp at b
 |a::f,j,c,g,e,h,k,b=>by simp only[St.give]at h;split at h;{cases h};{rename_i n i l hg;have d:=zXI f (j+1) n i l hg;split at h;{cases h;exact qZ _ (d k b)};{cases h;exact qZ _ (d k b)};{split at h;{have p:=z4P h;cases p;rcases qG.1 b with rfl|b;{simp};{exact qZ _ (d k b)}};{cases h}};{split at h;{split at h;{split at h;{cases h;exact qZ _ (d k b)};{cases h}};{cases h}};{cases h}};{cases h}}
def zGD {t:Ty}:∀(b:List (Nat×Operand)) (l:List t.den) (d:List Nat) (e:List t.den) (a:List Nat),rowParts st t b l d=some (e,a)->∀k∈a,k∈d\/∃x∈b,∃y,st.opnd x.2=some (.v y)/\At.sl k []∈zU y
 |[],l,d,e,a,h,k,f=>by simp only[rowParts,qC,jS]at h;obtain⟨_,rfl⟩:=h;exact .inl f
 |(i,x)::r,l,d,e,a,h,k,f=>by simp only[rowParts]at h;split at h;{rename_i y g;split at h;{rename_i m n hg;split at h;{split at h;{rcases zGD r _ _ e a h k f with c|⟨z,j,c⟩;{rcases jJ.1 c with c|c;{exact .inr ⟨(i,x),by simp,y,g,zXI _ _ _ _ _ hg k c⟩};{exact .inl c}};{exact .inr ⟨z,by simp[j],c⟩}};{cases h}};{cases h}};{cases h}};{cases h}
def zSI {o:Oper}{id:Nat}{T:TypeId}{n:Nat}{a:Array (Nat×Operand)}(c:o.op = .buildSlice T n a){L:List Operand}(d:∀x∈a.toList,x.2∈L)(h:Agree st st' L):z0 C st' o id=z0 C st o id:=by
 simp only[z0,c];cases p:C.sty T with
 |none=>rfl
 |some t=>
  simp only[h.rowParts a.toList _ _ d];cases e:rowParts st t a.toList (List.replicate n t.dflt) [] with
  |none=>rfl
  |some m=>
   obtain⟨l,j⟩:=m;simp only;rw[zk5 h.ep j (λk f=>by
    rcases zGD _ _ _ _ _ e k f with b|⟨x,i,y,g,b⟩
    .simp at b
    .exact(h.held ⟨x.2,d x i,_,g,by simpa [zbF] using b⟩).1 k (by simp[zbr]))]
def c_call {o:Oper}{id:Nat}{c:Call}(D:o.op = .call c){L:List Operand}(g:∀x∈c.args.toList,x∈L)(h:Agree st st' L):z0 C st' o id=z0 C st o id:=by
 simp only[z0,D];cases G:c.callee with
 |invoke r n=>rfl
 |value f=>
  cases f with
  |func f=>
   simp only;have e:zce (λx=>match st'.opnd x with|some v=>st'.avOf v|none=>none) c.args.toList=zce (λx=>match st.opnd x with|some v=>st.avOf v|none=>none) c.args.toList:=by
    refine zlQ ?_;intro x i;simp only[h.op x<|g x i];cases e:st.opnd x with
    |none=>rfl
    |some m=>exact h.avOf (g x i) e
   cases C.ctr f with
   |some j=>
    exact congrArg (λA=>(match A with
     |some q=>(match j q with
      |some (c,s)=>if (s.flatMap AV.cvs).length<=31 then some ({c,v:=zir (zcX s id),ro:=zc0 (zcK f) s id}:Dl) else none
      |none=>none)
     |none=>none)) e
   |none=>
    cases d:c.args.toList with
    |nil=>cases C.tct f with|none=>rfl|some x=>obtain⟨own,E,j⟩:=x;cases own<;>rfl
    |cons F K=>
     rw[d] at e g;cases C.tct f with
     |none=>rfl
     |some x=>
      obtain⟨own,E,j⟩:=x;cases own with
      |cons y l=>rfl
      |nil=>
       dsimp only;rw[h.op F<|g F (by simp)]
       exact congrArg (λA=>(match st.opnd F,A with
        |some (.v I),some q=>(match j q with
         |some (c,s)=>if (s.flatMap AV.cvs).all CV.flat&&decide ((s.flatMap AV.cvs).length<=31) then some ({c,v:=zir (I::zcX s id)}:Dl) else none
         |none=>none)
        |_,_=>none)) e
  |_=>rfl
 |builtin b=>
  cases b with
  |len=>simp only;split;{rename_i x T d B;have i:=g x (by rw[d];simp);rw[h.at i];cases e:st.at x with|none=>rfl|some a=>(cases a with|sl r p=>simp only[h.node<|zd8 i e]|_=>rfl)};{rfl}
  |min=>simp only;split;{rename_i x y d;rw[h.at<|g x (by rw[d];simp),h.at<|g y (by rw[d];simp)]};{rfl}
  |max=>simp only;split;{rename_i x y d;rw[h.at<|g x (by rw[d];simp),h.at<|g y (by rw[d];simp)]};{rfl}
  |append=>
   simp only;split
   .rename_i x y T T2 d B;have i:=g x (by rw[d];simp);have w:=g y (by rw[d];simp);rw[h.at i,h.at w];split
    .cases hT:C.sty T with
     |none=>rfl
     |some t=>
      cases e:st.at x with
      |none=>rfl
      |some a=>
       cases a with
       |sl r p=>
        cases p with
        |nil=>
         cases z:st.at y with
         |none=>rfl
         |some b=>
          cases b with
          |sl H J=>
           simp only[h.root<|zd8 i e,h.root<|zd8 w z,h.node<|zd8 w z];rw[zk5 h.ep [r] (λk u=>by
            simp only[qD]at u;subst u;exact(h.held<|zd8 i e).1 k (by simp[zbr])),
            zk5 h.ep [r,H] (λk u=>by
             simp only[qG,qP,or_false]at u;rcases u with rfl|rfl
             .exact(h.held<|zd8 i e).1 k (by simp[zbr])
             .exact(h.held<|zd8 w z).1 k (by simp[zbr]))]
          |_=>rfl
        |cons _ _=>rfl
       |_=>rfl
    {rfl}
   {rfl}
  |_=>rfl
def zWh {o:Oper}{id:Nat}(h:Agree st st' o.op.operands.toList):z0 C st' o id=z0 C st o id:=by
 cases d:o.op<;>rw [d]at h<;>simp only [Op.operands]at h
 case move x=>
  simp only[z0,d];split
  .rfl
  .rfl
  .rw [h.op x (by simp)]
 case assign x=>
  simp only[z0,d];split
  .rfl
  .rfl
  .rw [h.op x (by simp)]
 (case pick c a b=>simp only[z0,d,h.op a (by simp),h.op b (by simp),h.at (x:=c) (by simp)]);(case alloc T=>simp only[z0,d]);case box T x=>simp only[z0,d,h.op x (by simp)]
 case build T parts=>
  simp only[z0,d];have e:∀t,layParts C T st' parts.toList t=layParts C T st parts.toList t:=λt=>h.layParts parts.toList t (λx q=>by simp;exact⟨x.1,by simpa using q⟩)
  simp only[e]
 (case load T x=>exact z9S d (by simp) h);(case store T a x=>exact z8c d (by simp) (by simp) h);(case nilCheck x=>simp only[z0,d,h.at (x:=x) (by simp)]);(case binOp op T x y T2=>simp only[z0,d,h.op x (by simp),h.op y (by simp)]);(case unOp op T x=>simp only[z0,d,h.at (x:=x) (by simp)]);case convert a b x=>simp only[z0,d,h.at (x:=x) (by simp)]
 case makeFunc fn first caps=>
  cases fn with
  |func f=>
   simp only[z0,d];rw[zlQ (g:=λx=>match st.at x with|some (.lp l 0)=>some l|_=>none) (l:=caps.toList)];{rfl};intro x q;simp only[h.at (x:=x) (by simp;exact .inr (by simpa using q))];rfl
  |_=>simp only[z0,d]
 case makeSlice T x y=>simp only[z0,d,h.at (x:=x) (by simp),h.at (x:=y) (by simp)]
 case slice T x lo hi mx=>
  cases mx with
  |none=>exact z8b d (by simp) (λy u=>by simp[u]) (λy u=>by simp[u]) h
  |some m=>simp only[z0,d]
 (case fieldAddr T x f=>simp only[z0,d,h.at (x:=x) (by simp)]);case field T x f=>simp only[z0,d,h.op x (by simp)]
 case index T x y=>
  cases x with
  |const v=>cases v with|string s=>simp only[z0,d,h.at (x:=y) (by simp)]|_=>simp only[z0,d]
  |_=>simp only[z0,d]
 case indexAddr T x y=>
  have q:x ∈ #[x,y].toList:=by simp
  simp only[z0,d,h.at q,h.at (x:=y) (by simp)]
  cases e:st.at x with
  |none=>rfl
  |some a=>
   cases a with
   |sl r p=>
    have w:=h.node (zd8 q e) p;cases z:st.at y with
    |none=>rfl
    |some b=>
     cases b with
     |i k n=>cases k<;>first|rfl|(simp only [w])
     |_=>rfl
   |_=>rfl
 (case extract x j=>simp only[z0,d,h.op x (by simp)]);(case call c=>exact c_call d (λx q=>by simp only[Call.operands,Array.toList_append,jJ];exact .inr q) h);(case buildSlice T n parts=>exact zSI d (λx q=>by simp;exact⟨x.1,by simpa using q⟩) h);all_goals simp only [z0,d]
end
section
variable {C:Cfg} {w0 w w1:World} {S0:zV} {U:Nat->Prop} {st st1:St} {E E1:Env} {ts:Array Value} {sv:List (Array Value)}
def zdq (ops:Array Oper)(o:Oper)(st:St):Option Bool :=
 match o.guard with
 |none=>some true
 |some (j,a)=>match guardOf st ops j with
  |some .und=>some false
  |some (.v<|.at<|.b x)=>some (x==a)
  |_=>none
def zWo {a:Array Oper}{o:Oper}{d skip:St->Option Ans}{c:Ans}(h:guarded a o st d skip=some c) :
 (zdq a o st=some true/\d st=some c)\/(zdq a o st=some false/\skip (st.put o.dst .und)=some c):=by
 unfold guarded at h;split at h
 .rename_i hg;exact .inl ⟨by simp[zdq,hg],h⟩
 .rename_i j want hg;split at h
  .rename_i hm;exact .inr ⟨by simp[zdq,hg,hm],h⟩
  .rename_i x hm;have i:∃t,zi7 a j=some t/\st.tm[t]?=some (.v<|.at<|.b x):=by unfold guardOf at hm;split at hm;{rename_i l e;split at hm;{rename_i t k;exact⟨t,by simp[zi7,e,k],hm⟩};{cases hm}};{cases hm}
   obtain⟨t,g,f⟩:=i;rw[g]at h;cases x<;>cases want<;>simp only [cond_true,cond_false]at h<;>rw [zUM f]at h
   .exact .inl ⟨by simp[zdq,hg,hm],h⟩
   .exact .inr ⟨by simp[zdq,hg,hm],h⟩
   .exact .inr ⟨by simp[zdq,hg,hm],h⟩
   .exact .inl ⟨by simp[zdq,hg,hm],h⟩
  .cases h
def zCI (p:Sim w0 S0 U st E ts sv w){a:Array Oper}{o:Oper}{b:Bool}(h:zdq a o st=some b):Region.wanted o (yielded a ts)=b:=by unfold zdq at h;split at h;{rename_i hg;cases h;simp[Region.wanted,hg]};{rename_i j q hg;have f:∀{m:MV},guardOf st a j=some m->∃e t v,a[j]?=some e/\e.dst=some t/\ts[t]?=some v/\VM w st E m v:=(by intro m c;unfold guardOf at c;split at c;{rename_i e l;split at c;{rename_i t r;have g:t<ts.size:=(by rw[p.tm.1];exact(qA.1 c).1);exact⟨e,t,ts[t],l,r,by simp[g],p.tm.2 t m _ c (by simp[g])⟩};{cases c}};{cases c});split at h;{rename_i c;cases h;obtain⟨e,t,v,i,k,n,d⟩:=f c;simp only[VM]at d;subst d;have:yielded a ts j=none:=(by simp[yielded,i,k,n,undef]);simp[Region.wanted,hg,this]};{rename_i x c;cases h;obtain⟨e,t,v,i,k,n,d⟩:=f c;simp only[VM,VT,VA]at d;subst d;have s:yielded a ts j=some x:=(by simp[yielded,i,k,n]);simp[Region.wanted,hg,s]};{cases h}}
abbrev Step:=Option Dl
def St.step (st:St)(b:Bool)(o:Oper):Step->St
 |some d=>st.effD b o.dst d
 |none=>st.put o.dst .und
inductive Trace (C:Cfg) (ops:Array Oper) (b:Bool) (base:Nat):Nat->List Step->List (Nat×Foot)->St->St->Prop
 |nil (i:Nat) (st:St):Trace C ops b base i [] [] st st
 |run {i:Nat} {o:Oper} {d:Dl} {ss:List Step} {fs:List (Nat×Foot)} {st st':St} (ho:ops[i]?=some o) (hg:zdq ops o st=some true) (hd:zkD C st o (base+32*i)=some d) (hc:d.c=true)
  (h:Trace C ops b base (i+1) ss fs (st.effD b o.dst d) st'):Trace C ops b base i (some d::ss) ((i,zfw C st ops o d)::fs) st st'
 |skip {i:Nat} {o:Oper} {ss:List Step} {fs:List (Nat×Foot)} {st st':St} (ho:ops[i]?=some o) (hg:zdq ops o st=some false)
  (h:Trace C ops b base (i+1) ss fs (st.put o.dst .und) st'):Trace C ops b base i (none::ss) ((i,zmg ops o)::fs) st st'
def zsA {ops:Array Oper}{z:List (List Nat)}{b:Bool}{base I:Nat}{k:St->Option Ans}{N:App->St->Option Ans}{M:Nat->St->Option Ans}{t:Ans}:∀(m i:Nat) (G:List (Nat×Foot)) (st:St),ztD C ops z b base I k N M (List.range' i m) G st=some t->
 (∃ss g a,ss.length=m/\Trace C ops b base i ss g st a/\zoq z (g.reverse++G)=true/\k a=some t)\/
 (∃ss g a o x,ss.length+1=m/\Trace C ops b base i ss g st a/\ops[i+ss.length]?=some o/\zri C a o=some (true,x)/\b=true/\zC2 ops z I (i+ss.length)=true/\x.dst<a.tm.length/\
  zoq z ((i+ss.length,zfU a ops o zDW)::(g.reverse++G))=true/\N x (a.put o.dst<|.v<|.at .bad)=some t)\/
 (∃ss g a o,ss.length+1=m/\Trace C ops b base i ss g st a/\ops[i+ss.length]?=some o/\zXO o=true/\zC2 ops z I (i+ss.length)=true/\zTz ops z (zZv z I<|i+ss.length) o=true/\
  zoq z (g.reverse++G)=true/\M (i+ss.length) a=some t)
 | 0,i,G,st,h=>by simp only[List.range'_zero,ztD]at h;split at h;{rename_i s;exact .inl ⟨[],[],st,rfl,.nil i st,by simpa using s,h⟩};{cases h}
 |m+1,i,G,st,h=>by
  simp only[vJ,ztD]at h;split at h;{cases h}
  .rename_i o ho;have O:=zWo h;clear h;rcases O with⟨hg,h⟩|⟨hg,h⟩
   .split at h
    .rename_i d hd;cases A:d.c with
     |false=>rw[A]at h;cases h
     |true=>rw[A]at h;simp only[cond_true]at h;rcases zsA m (i+1) _ _ h with⟨ss,g,a,n,p,j,q⟩|⟨ss,g,a,F,x,n,p,j,q,u,r,B,w,y⟩|⟨ss,g,a,F,n,p,j,q,u,r,w,y⟩;{exact .inl ⟨some d::ss,(i,zfw C st ops o d)::g,a,by simp[n],.run ho hg hd A p,by simpa using j,q⟩};{have e:i+1+ss.length=i+(some d::ss).length:=(by simp only[qW];omega);rw[e]at j r w;exact .inr (.inl ⟨some d::ss,(i,zfw C st ops o d)::g,a,F,x,by simp[<- n],.run ho hg hd A p,j,q,u,r,B,by simpa using w,y⟩)};{have e:i+1+ss.length=i+(some d::ss).length:=(by simp only[qW];omega);rw[e]at j u r y;exact .inr (.inr ⟨some d::ss,(i,zfw C st ops o d)::g,a,F,by simp[<- n],.run ho hg hd A p,j,q,u,r,by simpa using w,y⟩)}
    {split at h;{rename_i c x l D;split at h;{rename_i f;simp only[qE,q9]at f;obtain⟨⟨⟨P,E⟩,H⟩,s⟩:=f;cases A:c with|false=>rw[A]at h;cases h|true=>rw[A]at h D;simp only[cond_true]at h;have L:m=0:=(by simpa using l);subst L;exact .inr (.inl ⟨[],[],st,o,x,rfl,.nil i st,ho,D,P,E,H,by simpa using s,h⟩)};{cases h}};{rename_i l D;split at h;{rename_i f;simp only[qE]at f;obtain⟨⟨⟨J,E⟩,K⟩,s⟩:=f;have L:m=0:=(by simpa using l);subst L;exact .inr (.inr ⟨[],[],st,o,rfl,.nil i st,ho,J,E,K,by simpa using s,h⟩)};{cases h}};{cases h}}
   {rcases zsA m (i+1) _ _ h with⟨ss,g,a,n,p,j,q⟩|⟨ss,g,a,F,x,n,p,j,q,u,r,B,w,y⟩|⟨ss,g,a,F,n,p,j,q,u,r,w,y⟩;{exact .inl ⟨none::ss,(i,zmg ops o)::g,a,by simp[n],.skip ho hg p,by simpa using j,q⟩};{have e:i+1+ss.length=i+((none:Step)::ss).length:=(by simp only[qW];omega);rw[e]at j r w;exact .inr (.inl ⟨none::ss,(i,zmg ops o)::g,a,F,x,by simp[<- n],.skip ho hg p,j,q,u,r,B,by simpa using w,y⟩)};{have e:i+1+ss.length=i+((none:Step)::ss).length:=(by simp only[qW];omega);rw[e]at j u r y;exact .inr (.inr ⟨none::ss,(i,zmg ops o)::g,a,F,by simp[<- n],.skip ho hg p,j,q,u,r,by simpa using w,y⟩)}}
end
inductive Key where
 |tm (t:Nat)
 |ro (n:Nat)
 |lo (n:Nat)
inductive Item where
 |tm (m:MV)
 |ro (R:Root)
 |lo (l:List At)
def St.get (st:St):Key->Option Item
 |.tm t=>st.tm[t]?.map .tm
 |.ro n=>(zl st.ro n).map .ro
 |.lo n=>(zl st.lo n).map .lo
def wr (o:Oper):Step->Key->Prop
 |_,.tm t=>o.dst=some t
 |none,_=>False
 |some d,.ro n=>n∈d.ro.map (·.1)
 |some d,.lo n=>n∈d.lo.map (·.1)
section
variable {st st':St} {b:Bool} {o:Oper}
def zCg {a:Type}:∀{l:List (Nat×a)} {n:Nat},n∉l.map (·.1)->zl l n=none
 |[],_,_=>rfl
 |(k,v)::l,n,h=>by simp only[jF,qG,not_or]at h;simp only[zl];rw[if_neg (by simp;exact λe=>h.1 e.symm)];exact zCg h.2
def zCh {b:Type}:∀{l:List (Nat×b)} {n:Nat},n∈l.map (·.1)->∃v,zl l n=some v
 |[],_,h=>by simp at h
 |(k,v)::l,n,h=>by simp only[zl];split;{exact⟨v,rfl⟩};{rename_i a;simp only[qJ]at a;simp only[jF,qG]at h;exact zCh (h.resolve_left λe=>a e.symm)}
def z2I {m:MV}{d:Option Tmp}:(st.put d m).ro=st.ro:=by cases d<;>rfl
def z2H {m:MV}{d:Option Tmp}:(st.put d m).lo=st.lo:=by cases d<;>rfl
def z2G {m:MV}{d:Option Tmp}:(st.put d m).ep=st.ep:=by cases d<;>rfl
def zX4 {m:MV}{d:Option Tmp}:(st.put d m).stk=st.stk:=by cases d<;>rfl
def zX3 {m:MV}{d:Option Tmp}:(st.put d m).tm.length=st.tm.length:=by cases d<;>simp [St.put]
def z2J {m:MV}{d:Option Tmp}{t:Nat}:(st.put d m).tm[t]?=if d=some t then (if t<st.tm.length then some m else none) else st.tm[t]?:=by cases d with|none=>simp[St.put]|some e=>simp only[St.put,jC,qC];split;{rename_i e;subst e;rfl};{rfl}
def dv:Step->MV
 |some d=>d.v
 |none=>.und
def zYi {s:Step}{t:Nat}:(st.step b o s).tm[t]?=if o.dst=some t then (if t<st.tm.length then some (dv s) else none) else st.tm[t]?:=by cases s with|none=>exact z2J|some d=>exact z2J (st:={st with lo:=d.lo++st.lo,ro:=d.ro.map (λ(x:Nat×Root)=>(x.1,zfN b x.2))++st.ro})
def z5L {s:Step}:(st.step b o s).tm.length=st.tm.length:=by cases s with|none=>exact zX3|some d=>exact zX3 (st:={st with lo:=d.lo++st.lo,ro:=d.ro.map (λ(x:Nat×Root)=>(x.1,zfN b x.2))++st.ro})
def zOH {s:Step}:(st.step b o s).ep=st.ep:=by cases s with|none=>exact z2G|some d=>exact z2G (st:={st with lo:=d.lo++st.lo,ro:=d.ro.map (λ(x:Nat×Root)=>(x.1,zfN b x.2))++st.ro})
def zVo {s:Step}:(st.step b o s).stk=st.stk:=by cases s with|none=>exact zX4|some d=>exact zX4 (st:={st with lo:=d.lo++st.lo,ro:=d.ro.map (λ(x:Nat×Root)=>(x.1,zfN b x.2))++st.ro})
def z5M {s:Step}:(st.step b o s).nid=st.nid:=by cases s with|none=>exact zf9|some d=>exact zf9 (st:={st with lo:=d.lo++st.lo,ro:=d.ro.map (λ(x:Nat×Root)=>(x.1,zfN b x.2))++st.ro})
def dro (b:Bool):Step->List (Nat×Root)
 |some d=>d.ro.map (λ(x:Nat×Root)=>(x.1,zfN b x.2))
 |none=>[]
def dlo:Step->List (Nat×List At)
 |some d=>d.lo
 |none=>[]
def zOI {s:Step}:(st.step b o s).ro=dro b s++st.ro:=by cases s with|none=>exact z2I|some d=>exact z2I (st:={st with lo:=d.lo++st.lo,ro:=d.ro.map (λ(x:Nat×Root)=>(x.1,zfN b x.2))++st.ro})
def zYh {s:Step}:(st.step b o s).lo=dlo s++st.lo:=by cases s with|none=>exact z2H|some d=>exact z2H (st:={st with lo:=d.lo++st.lo,ro:=d.ro.map (λ(x:Nat×Root)=>(x.1,zfN b x.2))++st.ro})
def z7V {s:Step}{n:Nat}:wr o s (.ro n)↔n∈(dro b s).map (·.1):=by cases s with|none=>simp[wr,dro]|some d=>simp[wr,dro,List.map_map,Function.comp_def]
def z7U {s:Step}{n:Nat}:wr o s (.lo n)↔n∈(dlo s).map (·.1):=by cases s with|none=>simp[wr,dlo]|some d=>simp[wr,dlo]
def step_other {s:Step}{a:Key}(h:¬ wr o s a):(st.step b o s).get a=st.get a:=by cases a with|tm t=>have c:¬ o.dst=some t:=(by cases s<;>exact h);simp only[St.get,zYi,if_neg c]|ro n=>rw[z7V (b:=b)]at h;simp only[St.get,zOI,zbB,zCg h]|lo n=>rw[z7U]at h;simp only[St.get,zYh,zbB,zCg h]
def zDL {s:Step}{κ:Key}(h:wr o s κ)(d:st.tm.length=st'.tm.length):(st.step b o s).get κ=(st'.step b o s).get κ:=by cases κ with|tm t=>have c:o.dst=some t:=(by cases s<;>exact h);simp only[St.get,zYi,if_pos c,d]|ro n=>rw[z7V (b:=b)]at h;obtain⟨v,a⟩:=zCh h;simp only[St.get,zOI,zbB,a]|lo n=>rw[z7U]at h;obtain⟨v,a⟩:=zCh h;simp only[St.get,zYh,zbB,a]
def z0v {s:Step}{a:Key}(d:st.tm.length=st'.tm.length)(h:st.get a=st'.get a):(st.step b o s).get a=(st'.step b o s).get a:=by by_cases c:wr o s a;{exact zDL c d};{rw [step_other c,step_other c,h]}
def zbD (ops:Array Oper)(b:Bool)(X:Nat->Bool):Nat->List Step->St->St
 |_,[],st=>st
 |i,s::ss,st=>zbD ops b X (i+1) ss (if X i then (match ops[i]? with|some o=>st.step b o s|none=>st) else st)
def one (ops:Array Oper)(b:Bool)(X:Nat->Bool)(i:Nat)(s:Step)(st:St):St:=if X i then (match ops[i]? with|some o=>st.step b o s|none=>st) else st
def zEk {ops:Array Oper}{X:Nat->Bool}{i:Nat}{s:Step}:(one ops b X i s st).tm.length=st.tm.length:=by unfold one;split;{split;{exact z5L};{rfl}};{rfl}
def zou {ops:Array Oper}{X:Nat->Bool}:∀(ss:List Step) (i:Nat) (st:St),(zbD ops b X i ss st).tm.length=st.tm.length
 |[],_,_=>rfl
 |s::ss,i,st=>(zou ss (i+1) _).trans (zEk (X:=X) (i:=i) (s:=s))
def zrn {ops:Array Oper}{X Y:Nat->Bool}{c:Key}:∀(ss:List Step) (i:Nat) (st st':St),st.tm.length=st'.tm.length->st.get c=st'.get c->
 (∀(k:Nat) (s:Step) (o:Oper),ss[k]?=some s->ops[i+k]?=some o->X (i+k)≠Y (i+k)->¬ wr o s c)->(zbD ops b X i ss st).get c=(zbD ops b Y i ss st').get c
 |[],_,_,_,_,h,_=>h
 |s::ss,i,st,st',g,h,j=>by
  have l:(one ops b X i s st).get c=(one ops b Y i s st').get c:=by unfold one;cases f:ops[i]? with|none=>cases X i<;>cases Y i<;>exact h|some o=>have a:=j 0 s o rfl f;simp only[j5]at a;cases m:X i<;>cases n:Y i<;>rw [m,n]at a;{exact h};{simp only [if_true,kH,if_false];rw[step_other<|a (by simp),h]};{simp only [if_true,kH,if_false];rw[step_other<|a (by simp),h]};{exact z0v g h}
  exact zrn ss (i+1) _ _ (((zEk (b:=b) (ops:=ops) (X:=X) (i:=i) (s:=s) (st:=st)).trans g).trans (zEk (b:=b) (ops:=ops) (X:=Y) (i:=i) (s:=s) (st:=st')).symm) l (λk r q p f d=>j (k+1) r q (by simpa using p) (by rw[<- f];congr 1;omega) (by
   have e:i+(k+1)=i+1+k:=by omega
   rw[e];exact d))
end
section
variable {st st':St} {b:Bool} {o:Oper}
def zJX {ops:Array Oper}{X:Nat->Bool}{κ:Key}:∀(ss:List Step) (i:Nat) (st:St),
 (∀(k:Nat) (s:Step) (o:Oper),ss[k]?=some s->ops[i+k]?=some o->X (i+k)=true->¬ wr o s κ)->(zbD ops b X i ss st).get κ=st.get κ
 |[],_,_,_=>rfl
 |s::ss,i,st,d=>by
  have f:(one ops b X i s st).get κ=st.get κ:=by unfold one;split;{rename_i a;split;{rename_i o c;exact step_other (d 0 s o rfl c a)};{rfl}};{rfl}
  exact(zJX ss (i+1) _ (λk j h g c a=>d (k+1) j h (by simpa using g) (by rw[<- c];congr 1;omega) (by
   have e:i+(k+1)=i+1+k:=by omega
   rw[e];exact a))).trans f
def zS9 {ops:Array Oper}{X:Nat->Bool}{j:Nat}{s:Step}(r:X j=true)(t:ops[j]?=some o){κ:Key}(m:wr o s κ):∀(ss:List Step) (i:Nat) (st:St),i<=j->ss[j-i]?=some s->
 (∀(k:Nat) (c:Step) (u:Oper),ss[k]?=some c->ops[i+k]?=some u->j<i+k->X (i+k)=true->¬ wr u c κ)->(zbD ops b X i ss st).get κ=(st.step b o s).get κ
 |[],i,st,_,h,_=>by simp at h
 |c::ss,i,st,w,h,y=>by have a:∀(k:Nat) (l:Step) (g:Oper),ss[k]?=some l->ops[i+1+k]?=some g->j<i+1+k->X (i+1+k)=true->¬ wr g l κ:=(by intro k l g p f x d;have e:i+(k+1)=i+1+k:=(by omega);exact y (k+1) l g (by simpa using p) (by rw[e];exact f) (by omega) (by rw[e];exact d));by_cases v:i=j;{subst v;simp only[uB,qI,qC]at h;subst h;have n:=zJX (b:=b) (ops:=ops) (X:=X) (κ:=κ) ss (i+1) (one ops b X i c st) (λk l g p f d=>a k l g p f (by omega) d);have q:one ops b X i c st=st.step b o c:=(by simp only[one,r,t,if_true]);rw[q]at n;show (zbD ops b X (i+1) ss<|one ops b X i c st).get κ=_;rw[q];exact n};{have e:j-i=(j-(i+1))+1:=(by omega);rw[e,jQ]at h;have n:=zS9 r t m ss (i+1) (one ops b X i c st) (by omega) h a;exact n.trans (zDL m zEk)}
def z1K {e:Array Oper}{X Y:Nat->Bool}{a j:Nat}{s:Step}(q:∀i,Y i=(X i||i==a+j))(r:e[a+j]?=some o){ss:List Step}{st:St}(t:ss[j]?=some s)(v:∀(k:Nat) (n:Step) (m:Oper),ss[k]?=some n->e[a+k]?=some m->j<k->X (a+k)=true->∀g,wr o s g->¬ wr m n g)(g:Key) :
 (zbD e b Y a ss st).get g=((zbD e b X a ss st).step b o s).get g:=by
 by_cases c:wr o s g
 .rw [zS9 (X:=Y) (j:=a+j) (s:=s) (by rw[q];simp) r c ss a st (uJ _ _) (by rw[Nat.add_sub_cancel_left];exact t) (fun k n m p d u f=>by
   refine v k n m p d (by omega) ?_ g c
   rw[q]at f;have:(a+k==a+j)=false:=by simp;omega
   rw[this,u0]at f;exact f)]
  exact zDL c (zou ss a st).symm
 .rw [step_other c];refine zrn ss a st st rfl rfl (fun k n m p d l=>?_);have:k=j:=by rw[q]at l;by_cases h:k=j;{exact h};{have:(a+k==a+j)=false:=(by simp[h]);simp[this]at l}
  subst this;rw[r]at d;cases d;rw[t]at p;cases p;exact c
end
section
variable {C:Cfg} {w0 w w1:World} {S0:zV} {U:Nat->Prop} {st st':St} {E E1:Env} {ts:Array Value} {sv:List (Array Value)}
def zJ4 {t:Nat}(h:st'.get (.tm t)=st.get (.tm t)):st'.tm[t]?=st.tm[t]?:=by simp only[St.get]at h;cases a:st'.tm[t]? <;> cases b:st.tm[t]? <;> rw [a,b]at h<;>simp at h;{rw [h]}
def zCH {n:Nat}(h:st'.get (.ro n)=st.get (.ro n)):zl st'.ro n=zl st.ro n:=by simp only[St.get]at h;cases a:zl st'.ro n<;>cases b:zl st.ro n<;>rw [a,b]at h<;>simp at h;{rw [h]}
def zJ3 {n:Nat}(h:st'.get (.lo n)=st.get (.lo n)):zl st'.lo n=zl st.lo n:=by simp only[St.get]at h;cases a:zl st'.lo n<;>cases b:zl st.lo n<;>rw [a,b]at h<;>simp at h;{rw [h]}
def Sim.fewer (s:Sim w0 S0 U st E ts sv w)(F:∀t:Nat,st'.tm[t]?=st.tm[t]?)(d:∀n,zl st'.lo n=zl st.lo n)(k:st'.stk=st.stk)(a:∀n R,st'.root n=some R->st.root n=some R)(C:∀n R,zl st'.ro n=some R->∃v,zl st.ro n=some v)(B:∀n R e,zl st'.ro n=some R->R.ep=some e->e<=st'.ep):Sim w0 S0 U st' E ts sv w:=by
 have b:=s.mem;have T:Trans st E w st' E w (λ_=>True):=⟨λr _ G h=>⟨G,a r G h,rfl,λ_ _ h=>h⟩,λl _ i h=>⟨⟨i,by rw[<- d];exact h⟩,rfl⟩,rfl⟩
 have g:st'.tm=st.tm:=k9 F;refine⟨⟨b.os,b.tape,b.output,b.size,b.keep,λr R h=>b.rep r R (a r R h),λr R h=>b.rlt r R (a r R h),λr R h=>b.mine r R (a r R h),λO r R h=>b.frz O r R (a r R h),
  λr R K v p q z=>b.apart r R K v (a r R p) q (a K v z),λl i M=>?_,λl P i y p q=>b.linj l P i y (by rw[<- d];exact p) (by rw[<- d];exact q),
  λl i r R p q=>b.lro l i r R (by rw[<- d];exact p) (a r R q),B,b.κ⟩,⟨λn R D=>?_,λn i D=>s.ids.lo n i (by rw[<- d];exact D),λm N=>s.ids.tm m (by rw[<- g];exact N),λf L=>s.ids.stk f (by rw[<- k];exact L)⟩,?_,?_⟩
 {obtain⟨p,x,e,q,z,H⟩:=b.loc l i (by rw[<- d];exact M);exact⟨p,x,e,q,z,λj c u I J=>⟨(H j c u I J).1,VA.tr T (λ_ _=>trivial) (H j c u I J).2⟩⟩};{obtain⟨v,A⟩:=C n R D;exact s.ids.ro n v A};{rw [g];exact aA.tr T (λ_ _ _ _=>trivial) s.tm};{rw [k];exact Stack.tr T (λ_ _ _ _ _ _=>trivial) s.stk}
def Sim.same (d:Sim w0 S0 U st E ts sv w)(hg:∀f,st'.get f=st.get f)(b:st'.stk=st.stk)(a:st'.ep=st.ep):Sim w0 S0 U st' E ts sv w:=by have c:∀n,zl st'.ro n=zl st.ro n:=λn=>zCH (hg<|.ro n);refine d.fewer (λt=>zJ4 (hg<|.tm t)) (λn=>zJ3 (hg<|.lo n)) b (λn R h=>?_) (λn R h=>⟨R,by rw[<- c];exact h⟩) (λn R e h g=>by rw[a];exact d.mem.epo n R e (by rw[<- c];exact h) g);simpa only [St.root,c,a] using h
end
section
variable {C:Cfg} {ops:Array Oper} {b:Bool} {base:Nat}
def zUk {s:List Nat}{x:Nat}:zn3 s x=true↔x∈s:=by unfold zn3;rw[uI];constructor;{rintro⟨y,a,h⟩;rw[kO h];exact a};{exact λh=>⟨x,h,Nat.beq_refl x⟩}
def zzB {s:List Nat}:∀{l:List Nat} {x:Nat},x∈addN l s↔x∈l\/x∈s
 |[],x=>by simp[addN]
 |a::l,x=>by
  have c:=λy=>@zzB s l y;show x∈cond (zn3 (addN l s) a) (addN l s) (a::addN l s)↔_
  cases h:zn3 (addN l s) a with
  |true=>rw[cond_true,c,qG];constructor;{rintro (b|b);{exact .inl (.inr b)};{exact .inr b}};{rintro ((b|b)|b);{rw [b];exact(c a).1 (zUk.1 h)};{exact .inl b};{exact .inr b}}
  |false=>rw[cond_false,qG,c,qG,or_assoc]
def zMD {b:List (List Nat)}:∀{l:List Edge} {e:Edge},e∈l->Region.binds .any e=true->
 e.on∈l.foldr (λe s=>cond (Region.binds .any e) (cond (zn3 s e.on) s<|addN (b.getD e.on []) (e.on::s)) s) []
 |a::l,e,c,f=>by rw[List.foldr_cons];generalize h:l.foldr (λe s=>cond (Region.binds .any e) (cond (zn3 s e.on) s<|addN (b.getD e.on []) (e.on::s)) s) []=s;have up:∀x,x∈s->x∈cond (Region.binds .any a) (cond (zn3 s a.on) s<|addN (b.getD a.on []) (a.on::s)) s:=λx d=>(by cases Region.binds .any a with|false=>exact d|true=>(cases zn3 s a.on with|true=>exact d|false=>exact zzB.2 (.inr<|qZ _ d)));rcases qG.1 c with rfl|c;{rw [f,cond_true];cases g:zn3 s e.on with|true=>exact zUk.1 g|false=>exact zzB.2 (.inr jE)};{exact up _ (h ▸ zMD c f)}
def zME {b:List (List Nat)}:∀{l:List Edge} {j:Nat},j∈l.foldr (λe s=>cond (Region.binds .any e) (cond (zn3 s e.on) s<|addN (b.getD e.on []) (e.on::s)) s) []->
 ∃e∈l,Region.binds .any e=true/\(j=e.on\/j∈b.getD e.on [])
 |[],j,h=>by cases h
 |a::l,j,h=>by
  rw[List.foldr_cons]at h;have up:j∈l.foldr (λe s=>cond (Region.binds .any e) (cond (zn3 s e.on) s<|addN (b.getD e.on []) (e.on::s)) s) []->∃e∈a::l,Region.binds .any e=true/\(j=e.on\/j∈b.getD e.on []):=λh=>by obtain⟨e,f,g⟩:=zME h;exact⟨e,qZ _ f,g⟩
  cases c:Region.binds .any a with
  |false=>rw[c]at h;exact up h
  |true=>
   rw[c,cond_true]at h;cases d:zn3 (l.foldr (λe s=>cond (Region.binds .any e) (cond (zn3 s e.on) s<|addN (b.getD e.on []) (e.on::s)) s) []) a.on with
   |true=>rw[d]at h;exact up h
   |false=>rw[d,cond_false]at h;rcases zzB.1 h with h|h;{exact⟨a,jE,c,.inr h⟩};{rcases qG.1 h with h|h;{exact⟨a,jE,c,.inl h⟩};{exact up h}}
def zMN (i:Nat)(r:List Nat)(a:List (List Nat)):ziC ops (i::r) a=ziC ops r (a++[waits ops a i]):=rfl
def zxz:∀(m:Nat) (a:List (List Nat)),∃l,ziC ops (List.range' a.length m) a=a++l/\l.length=m/\
 ∀k,k<m->(a++l)[a.length+k]?=some (waits ops ((a++l).take (a.length+k))<|a.length+k)
 | 0,a=>⟨[],by simp[ziC],rfl,λk h=>by omega⟩
 |m+1,a=>by obtain⟨l,c,g,d⟩:=zxz m (a++[waits ops a a.length]);have b:(a++[waits ops a a.length]).length=a.length+1:=(by simp);rw[b]at c d;refine⟨waits ops a a.length::l,?_,by simp[g],λk h=>?_⟩;{rw [vJ,zMN,c];simp};{have e:a++waits ops a a.length::l=(a++[waits ops a a.length])++l:=(by simp);cases k with|zero=>rw[j5,qO<|qQ _,uB,kJ rfl];rfl|succ k=>have f:a.length+(k+1)=a.length+1+k:=(by omega);rw[e,f];exact d k (by omega)}
def zYG {i:Nat}(c:i<ops.size):(ziC ops (List.range ops.size) []).getD i []=waits ops ((ziC ops (List.range ops.size) []).take i) i:=by obtain⟨l,a,d,b⟩:=zxz (ops:=ops) ops.size [];simp only[jZ,jT,j3]at a b;rw[List.range_eq_range',a,kE,b i c];rfl
structure Pinned (n:Nat) (cl:List (List Nat)) (m:Nat):Prop where
 full:∀j,j<m->j∈cl.getD m []
 wait:∀k,m<k->k<n->m∈cl.getD k []
def zwW {n m:Nat}{a:List (List Nat)}(h:pinned n a m=true):Pinned n a m:=by unfold pinned z1O at h;simp only[qE,qN,kN,jP,q9,List.mem_range']at h;refine⟨h.1,λk b c=>h.2 k ⟨k-(m+1),by omega,by omega⟩⟩
def zsj {n m:Nat}{a:List (List Nat)}{p:Bool}{r:List Bool}(h:p::r=(zia n a).drop m):m<n/\p=pinned n a m/\r=(zia n a).drop (m+1):=by have b:m<(zia n a).length:=(by rcases u4 m (zia n a).length with c|c;{exact c};{rw [k8 c]at h;cases h});rw[kB b]at h;simp only[List.cons.injEq]at h;refine⟨by simpa [zia] using b,?_,h.2⟩;rw[h.1];simp[zia]
def zUJ {n m:Nat}{a:List (List Nat)}(h:[]=(zia n a).drop m):n<=m:=by have:=List.drop_eq_nil_iff.1 h.symm;simpa [zia] using this
def zQg {n:Nat}{a:List (List Nat)}:∀(r:List Bool) (m:Nat),m<=n->r=(zia n a).drop m->
 m+zcn r<=n/\r.drop (zcn r)=(zia n a).drop (m+zcn r)/\(m+zcn r<n->Pinned n a (m+zcn r))
 |[],m,c,h=>by have:=zUJ h;refine⟨by simp[zcn];omega,by simpa [zcn] using h,λb=>?_⟩;simp[zcn]at b;omega
 |true::r,m,c,h=>by obtain⟨i,j,_⟩:=zsj h;refine⟨by simp[zcn];omega,by simpa [zcn] using h,λ_=>?_⟩;simp only[zcn,j5];exact zwW j.symm
 |false::r,m,c,h=>by obtain⟨i,_,k⟩:=zsj h;obtain⟨d,f,g⟩:=zQg r (m+1) (by omega) k;have e:m+zcn (false::r)=m+1+zcn r:=(by simp only[zcn];omega);rw[e];refine⟨d,?_,g⟩;rw[<- f];rfl
def zvz {X:Nat->Bool}:∀(ss:List Step) (i:Nat) (a:St),(∀k,i<=k->X k=false)->zbD ops b X i ss a=a
 |[],_,_,_=>rfl
 |s::ss,i,a,h=>by simp only[zbD];rw[h i<|qQ _];simp only[kH,if_false];exact zvz ss (i+1) a (λk c=>h k (by omega))
def zro {X Y:Nat->Bool}:∀(ss:List Step) (i:Nat) (a:St),(∀k,i<=k->k<i+ss.length->X k=Y k)->zbD ops b X i ss a=zbD ops b Y i ss a
 |[],_,_,_=>rfl
 |s::ss,i,a,h=>by simp only[zbD];rw[h i (qQ _) (by simp)];exact zro ss (i+1) _ (λk d c=>h k (by omega) (by simp only[qW];omega))
def At1 (C:Cfg)(ops:Array Oper)(base i:Nat)(o:Oper)(S:St)(f:Foot):Step->Prop
 |some d=>zdq ops o S=some true/\zkD C S o (base+32*i)=some d/\d.c=true/\f=zfw C S ops o d
 |none=>zdq ops o S=some false/\f=zmg ops o
def zVR {i:Nat}{ss:List Step}{m:List (Nat×Foot)}{l c:St}(h:Trace C ops b base i ss m l c):∀(k:Nat) (s:Step),ss[k]?=some s->
 ∃o f,ops[i+k]?=some o/\(i+k,f)∈m/\At1 C ops base (i+k) o (zbD ops b (λj=>decide (j<i+k)) i ss l) f s:=by
 induction h with
 |nil i l=>intro k s a;simp at a
 |run g hg v u h r=>rename_i i o d ss m l c;intro k s a;cases k with|zero=>simp only[qI,qC]at a;subst a;refine⟨o,_,g,jE,?_⟩;rw[zvz _ _ _ (λk w=>by simp;omega)];exact⟨hg,v,u,rfl⟩|succ k=>obtain⟨t,f,n,p,q⟩:=r k s (by simpa using a);have e:i+(k+1)=i+1+k:=(by omega);refine⟨t,f,by rw[e];exact n,by rw[e];exact qZ _ p,?_⟩;rw[e];simp only[zbD,g];rw[if_pos (by simp;omega)];exact q
 |skip g hg h r=>rename_i i o ss m l c;intro k s a;cases k with|zero=>simp only[qI,qC]at a;subst a;refine⟨o,_,g,jE,?_⟩;rw[zvz _ _ _ (λk w=>by simp;omega)];exact⟨hg,rfl⟩|succ k=>obtain⟨t,f,n,p,q⟩:=r k s (by simpa using a);have e:i+(k+1)=i+1+k:=(by omega);refine⟨t,f,by rw[e];exact n,by rw[e];exact qZ _ p,?_⟩;rw[e];simp only[zbD,g];rw[if_pos (by simp;omega)];exact q
def zQs {i:Nat}{ss:List Step}{f:List (Nat×Foot)}{e a:St}(h:Trace C ops b base i ss f e a):a=zbD ops b (λ_=>true) i ss e:=by induction h with|nil i e=>rfl|run c hg j g h d=>simp only[zbD,c,if_true];exact d|skip c hg h d=>simp only[zbD,c,if_true];exact d
def z2t {X:Nat->Bool}{i:Nat}{s:Step}{a:St}:(one ops b X i s a).ep=a.ep:=by unfold one;split;{split;{exact zOH};{rfl}};{rfl}
def z9i {X:Nat->Bool}{i:Nat}{s:Step}{a:St}:(one ops b X i s a).stk=a.stk:=by unfold one;split;{split;{exact zVo};{rfl}};{rfl}
def z9h {X:Nat->Bool}{i:Nat}{s:Step}{a:St}:(one ops b X i s a).nid=a.nid:=by unfold one;split;{split;{exact z5M};{rfl}};{rfl}
def zh5 {X:Nat->Bool}:∀(ss:List Step) (i:Nat) (a:St),(zbD ops b X i ss a).ep=a.ep
 |[],_,_=>rfl
 |s::ss,i,a=>(zh5 ss (i+1) _).trans (z2t (X:=X) (i:=i) (s:=s))
def zr6 {X:Nat->Bool}:∀(ss:List Step) (i:Nat) (a:St),(zbD ops b X i ss a).stk=a.stk
 |[],_,_=>rfl
 |s::ss,i,a=>(zr6 ss (i+1) _).trans (z9i (X:=X) (i:=i) (s:=s))
def zCF {X:Nat->Bool}:∀(ss:List Step) (i:Nat) (a:St),(zbD ops b X i ss a).nid=a.nid
 |[],_,_=>rfl
 |s::ss,i,a=>(zCF ss (i+1) _).trans (z9h (X:=X) (i:=i) (s:=s))
def Dead (a:St):Prop:=∀n R e,zl a.ro n=some R->R.ep=some e->e<a.ep
def z3m {o:Oper}{s:Step}{c:St}(h:Dead c)(m:0<c.ep):Dead (c.step true o s):=by
 intro n R e b a;rw[zOH];rw[zOI,zbB]at b;split at b
 .rename_i x hx;cases b;cases s with
  |none=>cases hx
  |some d=>
   have g:=znZ hx;simp only[dro,jD]at g;obtain⟨⟨k,i⟩,_,f⟩:=g;simp only[jS]at f;obtain⟨_,rfl⟩:=f;unfold zfN at a;split at a;{simp only [qC]at a;omega}
   .rename_i hne;exact absurd a (by
     cases l:i.ep with
     |none=>simp
     |some j=>exact absurd l (hne j rfl))
 {exact h n R e b a}
def zzg {X:Nat->Bool}:∀(ss:List Step) (i:Nat) (a:St),Dead a->0<a.ep->Dead (zbD ops true X i ss a)
 |[],_,_,h,_=>h
 |s::ss,i,a,h,b=>by refine zzg (X:=X) ss (i+1) (one ops true X i s a) ?_ (by rw[z2t];exact b);unfold one;split;{split;{exact z3m h b};{exact h}};{exact h}
end
section
variable {C:Cfg} {ops:Array Oper} {b:Bool} {base:Nat}
def Foot.reads (f:Foot):Key->Prop
 |.tm t=>t∈f.tm
 |.ro n=>n∈f.ro
 |.lo n=>n∈f.lo
def Foot.writes (f:Foot):Key->Prop
 |.tm t=>f.dst=some t
 |.ro n=>n∈f.wro
 |.lo n=>n∈f.wlo
def zrj {a c:List Nat}(h:zCi a c=true):∀x∈a,x∉c:=by intro x b;have:=qN.1 h x b;simpa using this
def apart_spec {x y:Foot}(h:x.apart y=true):(∀a,x.writes a->¬ y.reads a/\¬ y.writes a)/\(∀a,y.writes a->¬ x.reads a):=by unfold Foot.apart at h;simp only[qE]at h;obtain⟨⟨⟨⟨⟨c,d⟩,e⟩,f⟩,g⟩,i⟩:=h;refine⟨λa b=>?_,λa b=>?_⟩;{cases a with|tm t=>simp only[Foot.writes]at b;rw[b]at c;simp only[qE,jH,beq_eq_false_iff_ne,jP,decide_eq_false_iff_not]at c;exact⟨c.1,c.2⟩|ro n=>have:=zrj e n b;simp only[jJ,not_or] at this;exact this|lo n=>have:=zrj g n b;simp only[jJ,not_or] at this;exact this};{cases a with|tm t=>simp only[Foot.writes]at b;rw[b]at d;simpa [Foot.reads] using d|ro n=>exact zrj f n b|lo n=>exact zrj i n b}
def zCj {i:Nat}{o:Oper}{S:St}{f:Foot}{s:Step}(h:At1 C ops base i o S f s)(a:Key):wr o s a↔f.writes a:=by cases s with|none=>obtain⟨_,rfl⟩:=h;cases a<;>simp [wr,Foot.writes,zmg]|some d=>obtain⟨_,_,_,rfl⟩:=h;cases a<;>simp [wr,Foot.writes,zfw,zfU]
def Does (C:Cfg)(ops:Array Oper)(base i:Nat)(o:Oper)(S:St):Step->Prop
 |some d=>zdq ops o S=some true/\zkD C S o (base+32*i)=some d/\d.c=true
 |none=>zdq ops o S=some false
def zxG {o:Oper}{S a:St}(h:∀t∈zxH ops o,a.tm[t]?=S.tm[t]?):zdq ops o a=zdq ops o S:=by unfold zdq;cases hg:o.guard with|none=>rfl|some f=>obtain⟨j,b⟩:=f;simp only;have e:guardOf a ops j=guardOf S ops j:=(by unfold guardOf;cases d:ops[j]? with|none=>rfl|some g =>simp only;(cases c:g.dst with|none=>rfl|some t=>simp only;exact h t (by simp[zxH,hg,zi7,d,c])));rw[e]
def zZT {S a:St}(b:a.ep=S.ep){n:Nat}(c:zl a.ro n=zl S.ro n):a.root n=S.root n:=by unfold St.root;rw[c,b]
def zPw {S d:St}(c:d.ep=S.ep):∀(own:List Bool) (cells:List At),(∀a∈cells,∀n∈zbr a,zl d.ro n=zl S.ro n)->d.blk own cells=S.blk own cells
 |[],[],_=>rfl
 |[],_::_,_=>rfl
 |_::_,[],_=>rfl
 |o::ms,a::r,h=>by have g:=zPw c ms r λb f=>h b (qZ _ f);have e:=h a jE;simp only[St.blk];rw[g];cases a with|sl q p=>(cases p with|nil=>simp only[zZT c<|e q (by simp[zbr])]|cons x p=>rfl)|_=>rfl
def zC1 {S c:St}(a:c.ep=S.ep):∀(b:List Nat),(∀k∈b,zl c.ro k=zl S.ro k)->killed c b=killed S b
 |[],_=>rfl
 |k::b,h=>by simp only[killed];rw[h k jE,zC1 a b λj d=>h j (qZ _ d),a]
def zG8 {c:Type}{p q:c->Bool}:∀{l:List c},(∀a∈l,p a=q a)->l.all p=l.all q
 |[],_=>rfl
 |a::l,h=>by rw[kY,kY,h a jE,zG8 λb d=>h b (qZ _ d)]
def z0L {S c:St}{L:List Operand}(h:Agree S c L){b:List Nat}{x:Operand}(f:x∈L){m:MV}(d:S.opnd x=some m):c.avF b m=S.avF b m:=by unfold St.avF;have e:zDV c b m=zDV S b m:=(by unfold zDV;refine zG8 λa g=>zG8 λr i=>?_;rw[h.rootN<|(h.id x f m d a g).1 r i]);rw[e,h.avOf f d]
def zUH {S d:St}{o:Oper}{id:Nat}(h:Agree S d (callArgs o))(q:∀x∈callArgs o,∀l p,S.at x=some (.lp l p)->∀cells,zl S.lo l=some cells->∀a∈cells,∀n∈zbr a,zl d.ro n=zl S.ro n):zlU C d o id=zlU C S o id:=by unfold zlU;cases zkj C o with|none=>rfl|some y=>obtain⟨own,E⟩:=y;simp only;(cases z:callArgs o with|nil=>rfl|cons x t=>rw[z]at h q;simp only[zOz];have f:d.at x=S.at x:=h.at jE;rw[f];split;{rename_i l r;have i:zl d.lo l=zl S.lo l:=h.loc (zd8 jE r);rw[i];split;{rename_i cells c;have b:=q x jE l 0 r cells c;rw[zPw h.ep own cells b];split;{rename_i u e w;have B:=zSD own cells u e w;have g:killed d e=killed S e:=zC1 h.ep e λk g=>(by obtain⟨j,_,A⟩:=B.ownk k g;exact b _ (qH A) k (by simp[zbr]));have v:zce (zSz d e) t=zce (zSz S e) t:=(by refine zlQ λy s=>?_;unfold zSz;rw[h.op y<|qZ _ s];cases D:S.opnd y with|none=>rfl|some m=>exact z0L h (qZ _ s) D);rw[v,g]};{rfl}};{rfl}};{rfl})
def zwP {o:Oper}:∀x∈callArgs o,x∈o.op.operands.toList:=by
 intro x a;unfold callArgs at a;split at a
 .rename_i c hc;rw[hc];simp only[Op.operands,Call.operands];simp
  first
   |exact .inr (by simpa using a)
   |exact .inl (by simpa using a)
   |simp_all
 {cases a}
def zSA {i:Nat}{o:Oper}{S S':St}{f:Foot}{s:Step}(h:At1 C ops base i o S f s)(A:S'.ep=S.ep)(w:∀k,f.reads k->S'.get k=S.get k):Does C ops base i o S' s:=by
 cases s with
 |none=>obtain⟨E,rfl⟩:=h;show zdq ops o S'=some false;rw[zxG (S:=S) λt z=>zJ4 (w (.tm t) (by simpa [Foot.reads,zmg] using z))];exact E
 |some d=>
  obtain⟨E,M,N,rfl⟩:=h;have B:∀t,t∈zo7 o++zxH ops o->S'.tm[t]?=S.tm[t]?:=λt z=>zJ4 (w (.tm t) z);have v:∀x∈o.op.operands.toList,S'.opnd x=S.opnd x:=(by intro x c;cases x with|tmp t=>have z:t∈zo7 o:=(by unfold zo7;exact uQ.2 ⟨_,c,rfl⟩);simp only[St.opnd,B t<|j9 _ z]|_=>rfl);refine⟨?_,?_,N⟩;{rw [zxG (S:=S) λt z=>B t (kM _ z)];exact E}
  .rw [<- M];cases b:zvT o with
   |true=>unfold zvT at b;split at b;{rename_i t g;have e:=v (.tmp t) (by rw[g];simp[Op.operands]);have L:z0 C S' o (base+32*i)=z0 C S o (base+32*i):=(by simp only[z0,g,e]);have H:zkj C o=none:=(by unfold zkj;rw[g]);unfold zkD;rw[L];cases z0 C S o (base+32*i) with|some K=>rfl|none=>simp only[zlU,H]};{cases b}
   |false=>
   have w:∀k,(zfU S ops o d).reads k\/(∃n,k = .ro n/\n∈(zfU S ops o d).ro++cond (zkj C o).isSome (zCA S o) [])->S'.get k=S.get k:=(by intro k j;refine w k ?_;rcases j with j|⟨n,rfl,u⟩;{cases k with|tm t=>exact j|ro n=>show n∈(zfw C S ops o d).ro;unfold zfw;rw[b];exact j9 _ j|lo n=>show n∈(zfw C S ops o d).lo;unfold zfw;rw[b];exact j};{show n∈(zfw C S ops o d).ro;unfold zfw;rw[b];exact u});have F:∀x∈o.op.operands.toList,∀m,S.opnd x=some m->∀a∈zbF m,a∈ztn S o:=λx c m r a q=>(by unfold ztn;exact qR.2 ⟨m,uQ.2 ⟨x,c,r⟩,q⟩);have I:Agree S S' o.op.operands.toList:=⟨A,v,λx c m r a q=>⟨λn u=>zCH (w (.ro n)<|.inl<|qR.2 ⟨a,F x c m r a q,u⟩),λn u=>zJ3 (w (.lo n)<|.inl<|qR.2 ⟨a,F x c m r a q,u⟩)⟩⟩;unfold zkD;rw[zWh I];cases O:z0 C S o (base+32*i) with|some K=>rfl|none=>simp only;(cases J:zkj C o with|none=>simp only[zlU,J]|some y=>refine zUH ⟨A,λx c=>v x (zwP x c),λx c m r a q=>I.id x (zwP x c) m r a q⟩ λx c l D P cells p a q n u=>?_;refine zCH (w (.ro n)<|.inr ⟨n,rfl,?_⟩);show n∈(zfU S ops o d).ro++cond (zkj C o).isSome (zCA S o) [];rw[J];refine kM _ ?_;show n∈zCA S o;unfold zCA;refine qR.2 ⟨.lp l D,?_,?_⟩;{obtain⟨m,r,G⟩:∃m,S.opnd x=some m/\At.lp l D∈zbF m:=⟨_,zMK P,by simp[zbF,zU]⟩;exact F x (zwP x c) m r _ G};{simp only [p];exact qR.2 ⟨a,q,u⟩})
structure Free (C:Cfg) (ops:Array Oper) (cl:List (List Nat)) (b:Bool) (base a:Nat) (ss:List Step) (st0:St):Prop where
 at1:∀i s,ss[i]?=some s->∃o f,ops[a+i]?=some o/\At1 C ops base (a+i) o (zbD ops b (fun j=>decide (j<a+i)) a ss st0) f s
 apart:∀i k s s' o o' f f',ss[i]?=some s->ss[k]?=some s'->ops[a+i]?=some o->ops[a+k]?=some o'->At1 C ops base (a+i) o (zbD ops b (fun j=>decide (j<a+i)) a ss st0) f s->
  At1 C ops base (a+k) o' (zbD ops b (fun j=>decide (j<a+k)) a ss st0) f' s'->i<k->a+i∉cl.getD (a+k) []->f.apart f'=true
def zkZ (a:List (List Nat))(X:Nat->Bool):Prop:=∀k,X k=true->∀j∈a.getD k [],X j=true
variable {cl:List (List Nat)} {ss:List Step} {st0:St} {a:Nat}
def zHa {i:Nat}{o:Oper}{S:St}{f a:Foot}{s:Step}(h:At1 C ops base i o S f s)(b:At1 C ops base i o S a s):f=a:=by cases s with|none=>rw[h.2,b.2]|some d=>rw[h.2.2.2,b.2.2.2]
def zJ2 (F:Free C ops cl b base a ss st0){X:Nat->Bool}(D:zkZ cl X){i:Nat}{s:Step}(y:ss[i]?=some s)(d:X (a+i)=false)(E:∀j∈cl.getD (a+i) [],X j=true) :
 ∃o f,ops[a+i]?=some o/\At1 C ops base (a+i) o (zbD ops b (λj=>decide (j<a+i)) a ss st0) f s/\∀m,f.reads m->(zbD ops b X a ss st0).get m=(zbD ops b (λj=>decide (j<a+i)) a ss st0).get m:=by
 obtain⟨o,f,x,r⟩:=F.at1 i s y;refine⟨o,f,x,r,λm q=>?_⟩;refine zrn ss a st0 st0 rfl rfl (λk z B u l g G=>?_);obtain⟨H,A,n,t⟩:=F.at1 k z u;rw[l]at n;cases n;have p:=(zCj t m).1 G
 by_cases v:k<i
 .have hXk:X (a+k)=false:=by have c:a+k<a+i:=(by omega);simp only[c,decide_true]at g;simpa using g
  have w:a+k∉cl.getD (a+i) []:=λh=>by rw[E (a+k) h]at hXk;cases hXk
  exact((apart_spec<|F.apart k i z s B o A f u y l x t r v w).1 m p).1 q
 .have hXk:X (a+k)=true:=by have c:¬ (a+k<a+i):=(by omega);simp only[c,decide_false]at g;simpa using g
  have c:i<k:=by have:i≠k:=λe=>(by rw[e,hXk]at d;cases d);omega
  have w:a+i∉cl.getD (a+k) []:=λh=>by rw[D (a+k) hXk (a+i) h]at d;cases d
  exact(apart_spec<|F.apart i k s z o B f A y u x l r t c w).2 m p q
def z1N (F:Free C ops cl b base a ss st0){X:Nat->Bool}(g:zkZ cl X){i:Nat}{s:Step}(l:ss[i]?=some s)(c:X (a+i)=false)(k:∀j∈cl.getD (a+i) [],X j=true) :
 ∃o,ops[a+i]?=some o/\Does C ops base (a+i) o (zbD ops b X a ss st0) s:=by
 obtain⟨o,f,h,d,e⟩:=zJ2 F g l c k;exact⟨o,h,zSA d (by rw[zh5,zh5]) e⟩
def zTb (F:Free C ops cl b base a ss st0){X Y:Nat->Bool}(x:zkZ cl X){i:Nat}{s:Step}{o:Oper}(p:ss[i]?=some s)(n:ops[a+i]?=some o)(d:X (a+i)=false)(y:∀k,Y k=(X k||k==a+i))(c:Key) :
 (zbD ops b Y a ss st0).get c=((zbD ops b X a ss st0).step b o s).get c:=by
 refine z1K y n p (λk v B u e m l c A q=>?_) c;obtain⟨D,f,g,r⟩:=F.at1 i s p;rw[n]at g;cases g;obtain⟨E,w,j,t⟩:=F.at1 k v u;rw[e]at j;cases j;have z:a+i∉cl.getD (a+k) []:=λh=>by rw[x (a+k) l (a+i) h]at d;cases d
 exact((apart_spec<|F.apart i k s v o B f w p u n e r t m z).1 c ((zCj r c).1 A)).2 ((zCj t c).1 q)
def zYZ {l:St}{o:Oper}{id i:Nat}{d:Dl}(j:ops[i]?=some o)(h:z0 C l o id=some d)(a:zOp ops i=false)(g:(zvC C&&zTl o)=false):d.bump=false:=by
 simp only[zOp,j]at a;cases b:o.op<;>simp only [b]at a<;>simp only [z0,b]at h;(case store=>cases a);case buildSlice=>cases a
 case call c=>
  split at h
  case h_4 e=>rw[e]at a;cases a
  all_goals (repeat' (first|split at h|cases h))
  all_goals rfl
 case slice T x lo hi mx=>
  cases mx with
  |some m=>simp at h
  |none=>
   cases lo with
   |none=>
    cases hi with
    |none=>(repeat' (first|contradiction|split at h|cases h));all_goals (first|rfl|contradiction|(exfalso;simp_all))
    |some f =>have e:zvC C=false:=(by simp only[zTl,b,vE]at g;exact g);(repeat' (first|contradiction|split at h|cases h));all_goals (first|(unfold zHs;split<;>first|rfl|(cases zuq C<;>first|rfl|(rw [e];rfl)))|rfl|contradiction|(exfalso;simp_all))
   |some k =>
    cases hi with
    |none=>cases a
    |some f =>(repeat' (first|contradiction|split at h|cases h));all_goals (first|rfl|contradiction|(exfalso;simp_all))
 case binOp=>
  simp only[zCD]at h
  repeat' (first|split at h|cases h)
  all_goals rfl
 (all_goals (repeat' (first|contradiction|split at h|cases h)));all_goals (first|rfl|contradiction)
def zWf {f:St}{o:Oper}{id i:Nat}{d:Dl}(e:ops[i]?=some o)(h:zkD C f o id=some d)(b:zlO C ops i=false):d.bump=false:=by unfold zlO at b;rw[u5]at b;unfold zkD at h;cases c:z0 C f o id with|some j =>rw[c]at h;cases h;have a:=b.2;rw[e]at a;have a:((zkj C o).isSome||(zvC C&&zTl o))=false:=a;rw[u5]at a;exact zYZ e c b.1 a.2|none=>rw[c]at h;exfalso;have a:=b.2;rw[e]at a;have a:((zkj C o).isSome||(zvC C&&zTl o))=false:=a;rw[u5]at a;have a:=a.1;have h:zlU C f o id=some d:=h;unfold zlU at h;(cases g:zkj C o with|none=>rw[g]at h;cases h|some y=>rw[g]at a;cases a)
end
section
variable {C:Cfg} {w0 w w1:World} {S0:zV} {U:Nat->Prop} {st st1:St} {E E1:Env} {ts:Array Value} {sv:List (Array Value)}
variable {ops:Array Oper} {b:Bool} {base:Nat} {cl:List (List Nat)} {ss:List Step} {st0:St}
def zYY {R a:Root}(h:zfN b R=a)(c:a.ep=none):R=a:=by unfold zfN at h;split at h;{subst h;cases c};{exact h}
def z2j {l:List (Nat×Root)}{n:Nat}{R:Root}(h:zl (l.map λ(x:Nat×Root)=>(x.1,zfN b x.2)) n=some R):∃d,zl l n=some d/\zfN b d=R:=by induction l with|nil=>cases h|cons a l e=>obtain⟨k,v⟩:=a;simp only[jF,zl]at h ⊢;split at h;{cases h;rename_i c;rw[if_pos c];exact⟨v,rfl,rfl⟩};{rename_i c;rw[if_neg c];exact e h}
def zZH {l:List (Nat×Root)}{n:Nat}(h:zl (l.map λ(x:Nat×Root)=>(x.1,zfN b x.2)) n=none):zl l n=none:=by induction l with|nil=>rfl|cons a l d=>obtain⟨k,v⟩:=a;simp only[jF,zl]at h ⊢;split at h;{cases h};{rename_i c;rw[if_neg c];exact d h}
def zYz {o:Oper}{d:Dl}(J:b=false->d.bump=false)(K:b=true->Dead st/\0<st.ep)(y:Sim w0 S0 U (st.apply o.dst d) E ts sv w):Sim w0 S0 U (st.effD b o.dst d) E ts sv w:=by
 have A:∀t:Nat,(st.effD b o.dst d).tm[t]?=(st.apply o.dst d).tm[t]?:=λt=>(by unfold St.effD St.apply;cases o.dst<;>rfl);have B:(st.effD b o.dst d).lo=(st.apply o.dst d).lo:=(by unfold St.effD St.apply;cases o.dst<;>rfl);have C:(st.effD b o.dst d).stk=(st.apply o.dst d).stk:=(by unfold St.effD St.apply;cases o.dst<;>rfl);have D:(st.effD b o.dst d).ro=d.ro.map (λ(x:Nat×Root)=>(x.1,zfN b x.2))++st.ro:=(by unfold St.effD;cases o.dst<;>rfl);have F:(st.apply o.dst d).ro=d.ro++st.ro:=(by unfold St.apply;cases o.dst<;>rfl);have v:(st.effD b o.dst d).ep=st.ep:=by unfold St.effD;cases o.dst<;>rfl
 have I:(st.apply o.dst d).ep=if d.bump then st.ep+1 else st.ep:=by
  unfold St.apply;cases o.dst<;>rfl
 cases b with
 |false=>have L:d.bump=false:=J rfl;have p:d.ro.map (λ(x:Nat×Root)=>(x.1,zfN false x.2))=d.ro:=(by have:(λ(x:Nat×Root)=>(x.1,zfN false x.2))=id:=(by funext x;rfl);rw[this,List.map_id]);have j:(st.effD false o.dst d).ro=(st.apply o.dst d).ro:=(by rw[D,F,p]);have m:(st.effD false o.dst d).ep=(st.apply o.dst d).ep:=(by rw[v,I,L];rfl);exact y.fewer A (λn=>by rw[B]) C (λn R h=>by simpa only [St.root,j,m] using h) (λn R h=>⟨R,by rw[<- j];exact h⟩) (λn R e h s=>by rw[m];exact y.mem.epo n R e (by rw[<- j];exact h) s)
 |true=>obtain⟨l,M⟩:=K rfl;have f:∀n R,zl (st.effD true o.dst d).ro n=some R->∃a,zl (st.apply o.dst d).ro n=some a/\(zfN true a=R\/(a=R/\zl st.ro n=some R)):=(by intro n R h;rw[D,zbB]at h;rw[F,zbB];split at h;{rename_i x z;cases h;obtain⟨a,r,c⟩:=z2j z;exact⟨a,by rw[r],.inl c⟩};{rename_i z;rw[zZH z];exact⟨R,h,.inr ⟨rfl,h⟩⟩});have g:∀a:Root,(zfN true a).ep=none\/(zfN true a).ep=some 0:=(by intro a;cases H:a.ep with|none=>left;simp[zfN,H]|some e=>right;simp[zfN,H]);have q:∀n R,(st.effD true o.dst d).root n=some R->R.ep=none/\zl (st.effD true o.dst d).ro n=some R:=(by intro n R h;obtain⟨G,i⟩:=zbs h;refine⟨?_,G⟩;rcases i with i|i;{exact i};{exfalso;rw[v]at i;obtain⟨a,_,c⟩:=f n R G;rcases c with c|⟨_,c⟩;{have:=g a;rw[c,i] at this;rcases this with h|h;{cases h};{simp only [qC]at h;omega}};{have:=l n R _ c i;omega}});refine y.fewer A (λn=>by rw[B]) C (λn R h=>?_) (λn R h=>?_) (λn R e h s=>?_);{obtain⟨r,c⟩:=q n R h;obtain⟨a,u,k⟩:=f n R c;have e:a=R:=(by rcases k with k|⟨k,_⟩;{exact zYY k r};{exact k});subst e;unfold St.root;rw[u];simp only[r]};{obtain⟨a,u,_⟩:=f n R h;exact⟨a,u⟩};{rw [v];obtain⟨a,_,c⟩:=f n R h;rcases c with c|⟨_,c⟩;{have:=g a;rw[c,s] at this;rcases this with h|h;{cases h};{simp only [qC]at h;omega}};{have:=l n R e c s;omega}}
def UX (U:Nat->Prop)(base a T:Nat)(X:Nat->Bool)(n:Nat):Prop:=U n\/∃i,a<=i/\i<T/\X i=true/\Mine (base+32*i) n
def Sim.uses {e:Nat->Prop}(h:Sim w0 S0 U st E ts sv w)(c:∀n,U n->e n):Sim w0 S0 e st E ts sv w :=
 ⟨h.mem,⟨λn R b=>c n (h.ids.ro n R b),λn g b=>⟨c n (h.ids.lo n g b).1,λa i m d=>c m ((h.ids.lo n g b).2 a i m d)⟩,λm d n b=>c n (h.ids.tm m d n b),λf j m d n b=>c n (h.ids.stk f j m d n b)⟩,h.tm,h.stk⟩
def zS1 (u:CfgOk C)(y:CtrOk C)(x:GraftOk C)(r:Sim w0 S0 U st E ts sv w){o:Oper}{id:Nat}(g:∀n,Mine id n->¬ U n){d:Dl}(h:zkD C st o id=some d)(s:d.c=true):Goes C w0 S0 U st ts sv w o id (λst=>st.apply o.dst d):=by unfold zkD at h;cases l:z0 C st o id with|some A =>rw[l]at h;cases h;exact zGh u y r g l s|none=>rw[l]at h;have e:∃a,zEm C st o id=some (d.c,a,d.v)/\a.put o.dst d.v=st.apply o.dst d:=(by simp only[zlU]at h;unfold zkj callArgs at h;unfold zEm;split at h;{rename_i own z i;split at i;{rename_i c t;split at i;{rename_i f b;have j:zML o=f:=(by simp only[zML,t,b]);rw[j]at h;simp only[t,b,i]at h ⊢;generalize c.args.toList=m at h ⊢;unfold zOz at h;unfold zUu;split at h;{split at h;{split at h;{split at h;{split at h;{split at h;{split at h;{split at h;{rename_i p _ _ q _ _ _ B _ _ D _ _ _ _ F _ _ G H;cases h;simp only[*];refine⟨_,rfl,?_⟩;unfold St.apply;simp[j8]};{cases h}};{cases h}};{cases h}};{cases h}};{cases h}};{cases h}};{cases h}};{cases h}};{cases i}};{cases i}};{cases h});obtain⟨a,p,q⟩:=e;have k:=(x.pok w0 w S0 U st E ts sv o id d.c a d.v r g p s).1;rw[q] at k;exact k
def zPR (S:CfgOk C)(W:CtrOk C)(V:GraftOk C){a T:Nat}(hT:a+ss.length=T)(F:Free C ops cl b base a ss st0){X Y:Nat->Bool}(M:zkZ cl X){i:Nat}(q:a<=i)(I:i<T)(l:X i=false)(hr:∀j∈cl.getD i [],X j=true)(hb:b=false->∀k,a<=k->k<T->zlO C ops k=false)(H:b=true->Dead st0/\0<st0.ep)(hM:∀k,a<=k->k<T->∀n,Mine (base+32*k) n->¬ U n)(G:∀k,Y k=(X k||k==i))(y:Sim w0 S0 (UX U base a T X) (zbD ops b X a ss st0) E ts sv w){Q:Exit->Act->World->Prop}{K:Act->World->Prop}(Z:∀(r:Env) (c:LV) (g:World),Sim w0 S0 (UX U base a T Y) (zbD ops b Y a ss st0) r c sv g->K {tmps:=c,defers:=[]} g) :
 wpOp C.P ops Q i K {tmps:=ts,defers:=[]} w:=by
 obtain⟨j,rfl⟩:∃j,i=a+j:=⟨i-a,by omega⟩
 obtain⟨s,N⟩:∃s,ss[j]?=some s:=⟨_,qB (by omega)⟩
 obtain⟨o,J,x⟩:=z1N F M N l hr;have f:∀n,UX U base a T X n->UX U base a T Y n:=by rintro n (h|⟨k,R,A,t,B⟩);{exact .inl h};{exact .inr ⟨k,R,A,by rw[G,t];rfl,B⟩}
 have u:∀{r:Env} {c:LV} {g:World},Sim w0 S0 (UX U base a T Y) ((zbD ops b X a ss st0).step b o s) r c sv g->K {tmps:=c,defers:=[]} g:=by intro r c g h;refine Z r c g (h.same (λκ=>zTb F M N J l G κ) ?_ ?_);{rw [zr6,zVo,zr6]};{rw [zh5,zOH,zh5]}
 unfold wpOp;simp only[J];cases s with
 |none=>rw[if_neg (by simp[zCI y x])];have t:=y.putV (dst:=o.dst) (m:=.und) (v:=undef) rfl (λn z=>by simp[MV.ids,zbF]at z);rw[zju];exact u (t.uses f)
 |some d=>obtain⟨A,t,B⟩:=x;rw[if_pos<|zCI y A];refine .inl (zS1 S W V y (id:=base+32*(a+j)) ?_ t B _ _ λr v g D=>?_);{rintro n z (h|⟨k,_,g1,L,O⟩);{exact hM (a+j) q I n z h};{refine zXT (i:=k) (j:=a+j) (λe=>?_) O z;rw[e,l] at L;cases L}};{rw [zju];refine u ((zYz (λp=>zWf J t (hb p (a+j) q I)) (λp=>?_) D).uses ?_);{subst p;exact⟨zzg ss a st0 (H rfl).1 (H rfl).2,by rw[zh5];exact(H rfl).2⟩};{rintro n (h|h);{exact f n h};{exact .inr ⟨a+j,q,I,by rw[G];simp,h⟩}}}
end
section
variable {C:Cfg} {w0 w w1:World} {S0:zV} {U:Nat->Prop} {st st1:St} {E E1:Env} {ts:Array Value} {sv:List (Array Value)}
def zZI (t:Ty)(x:t.den):t.ofCells (t.cells x)=some x:=by cases t<;>first|rfl|simp[Ty.ofCells,Ty.cells]
def zQh:∀(p:List (Int×Nat)) {t:Ty} {l:List t.den} {c:CV},zgo t l p=some c->∀m,zqK t l p c=some m->m=l
 |[],t,l,c,h,m,a=>by simp only[zgo,qC]at h;subst h;simpa [zqK] using a.symm
 |(i,j)::p,t,l,c,h,m,a=>by
  simp only[zgo]at h;simp only[zqK]at a;split at h
  .rename_i t1 l1 hc;rw[hc]at a;simp only at a;split at a
   .rename_i l2 hl2;have:=zQh p h l2 hl2;subst this;split at a
    .rename_i x hx;cases a;have f:j<(t.cells (ix l i t.dflt)).length:=(qA.1 hc).1;have e:C0 (t.cells (ix l i t.dflt)) j [CV.s t1 l2]=t.cells (ix l i t.dflt):=zGX _ _ _ (by simp;omega) (fun k d=>by
      have:k=0:=by simpa using d
      subst this;simpa using hc)
     rw[e,zZI]at hx;cases hx;unfold up ix;apply k9;intro k;rw[jC];split;{rename_i d;subst d;split;{rename_i b;simp[List.getD,qB b]};{rename_i b;rw[List.getElem?_eq_none (by omega)]}};{rfl}
    {cases a}
   {cases a}
  {cases h}
def z4G {t:Ty}(c:t.flat=true):∀(q:List (Int×Nat)) (v u:Value),zX w t v q=some u->q=[]
 |[],_,_,_=>rfl
 |(i,j)::q,v,u,h=>by exfalso;cases v with|slice a len d=>(cases a with|none=>simp[zX]at h|some a=>simp only[zX]at h;split at h;{split at h;{rename_i e b;unfold Ty.flat at c;have:=qN.1 c _ (qH b);simp at this};{cases h}};{cases h})|_=>simp[zX]at h
def z9r (hC:CfgOk C){T:TypeId}{t:Ty}(hT:C.sty T=some t)(hf:t.flat=true){v1 v2:Value}{d f:List t.den}{S1 S2:zV}(c3:Rep true w v1 (.s t d) S1)(c4:Rep false w v2 (.s t f) S2)(b8:f≠[])(d1:few (ln (ap d f))=true)(oT:TypeId) :
 ∃(v:Value) (E:World) (L Z r:Nat),(Builtin.append_ #[T,T] oT #[v1,v2]).run C.P w = .ok v E/\v = .slice (some ⟨L,Z,none⟩) (ap d f).length r/\Rep true E v (.s t (ap d f)) (fun x=>x=L)/\
  E.os=w.os/\E.tape=w.tape/\E.output=w.output/\
  ((L=w.heap.size/\E.heap.size=w.heap.size+1/\∀x,x<w.heap.size->E.heap[x]?=w.heap[x]?) \/
    ∃Y N,v1 = .slice (some ⟨L,Y,none⟩) d.length N/\S1 L/\E.heap.size=w.heap.size/\(∀x,x≠L->E.heap[x]?=w.heap[x]?)/\Rep true E v1 (.s t d) S1):=by
 obtain⟨e,hE⟩:=hC.sty T t hT;obtain⟨i,z,m,hs,hz,f3,d0⟩:=hE.info;obtain⟨f0,f1⟩:=zD6 d1;have d4:d.length+f.length<=2147483648:=by simp only[ln,ap,jR] at f1;omega
 have a3:(ap d f).length=d.length+f.length:=by simp[ap]
 cases c4 with
 |nil=>exact absurd rfl b8
 |void=>exact absurd rfl b8
 |sl _ _ b2 p F a2 e2 f7 V2 K2 _ d7 f5 e4 b5 f6 f8 f2 d9 d5 a5=>
 have e5:0<f.length:=kL.2 b8;have e7:f.length*t.wi<=F*t.wi:=qM _ b5;generalize V:(a2.toList.drop p).take (f.length*t.wi)=a;have D:a.length=f.length*t.wi:=by rw[<- V];simp;omega
 have a6:∀k,k<f.length*t.wi->a[k]?=a2[p+k]?:=by intro k hk;rw[<- V,jG,if_pos hk,jM];simp
 have c1:∀j u,a[j]?=some u->w.cell? ((⟨b2,p,none⟩:Addr).add j)=some u:=by intro j u hu;have B:j<f.length*t.wi:=(by rw[<- D];exact(qA.1 hu).1);rw[add_lit,F0 d7,<- a6 j B];exact hu
 have I:∀i j,i<f.length->j<t.wi->i*t.wi+j<f.length*t.wi:=by intro i j m B;have:(i+1)*t.wi<=f.length*t.wi:=qM _ m;rw[jI] at this;omega
 have c2:∀i j,i<f.length->j<t.wi->a[i*t.wi+j]?=some (V2 i j):=by intro i j m B;rw[a6 _ (I i j m B),<- kW];exact d5 i j m B
 have d6:=zu3 t;have e8:∀u∈a,u.oneCell'=true:=by intro u hu;obtain⟨k,hk⟩:=qX.1 hu;have e3:k<f.length*t.wi:=(by rw[<- D];exact(qA.1 hk).1);have a1:k / t.wi<f.length:=(u1 d6).2 e3;have d3:k % t.wi<t.wi:=Nat.mod_lt _ d6;have:=c2 _ _ a1 d3;rw[Nat.mul_comm,Nat.div_add_mod,hk] at this;cases this;have J:=qB a1;have y:(t.cells (f[k / t.wi]'a1))[k % t.wi]?=some ((t.cells (f[k / t.wi]'a1))[k % t.wi]'(by rw[zcA];exact d3)):=qB _;exact(a5 _ _ J _ _ y).one
 have U:∀(w1:World) i x,f[i]?=some x->∀j c,(t.cells x)[j]?=some c->Rep true w1 (V2 i j) c (fun _=>False):=fun w1 i x J j c y=>(a5 i x J j c y).flat (zvy hf y);have W:∀i j,i<d.length->j<t.wi->i*t.wi+j<d.length*t.wi:=by intro i j m B;have:(i+1)*t.wi<=d.length*t.wi:=qM _ m;rw[jI] at this;omega
 have a0:(d.length+f.length)*i.bytes<=140737488355328:=by have:=k5 d4 d0;omega
 have b0:z.cells.size=t.wi:=by rw[<- kK,f3];simp[zeJ]
 have O:∀(g:List Value) (A:Nat) (V1:Nat->Nat->Value) (zs:LV),g.length=d.length*t.wi->d.length+f.length<=A->zs.size=(A-(d.length+f.length))*t.wi->
  (∀i j,i<d.length->j<t.wi->g[i*t.wi+j]?=some (V1 i j))->
  (∀i x,d[i]?=some x->∀j c,(t.cells x)[j]?=some c->∃S,Rep true w (V1 i j) c S)->
  (Builtin.append_ #[T,T] oT #[v1,.slice (some ⟨b2,p,none⟩) f.length F]).run C.P w = .ok (.slice (some ⟨w.heap.size,0,none⟩) (d.length+f.length) A) (w.drew.alloc (.cells (g.toArray++a.toArray++zs) e (0,0)))->
  ∃(v:Value) (E:World) (L Z r:Nat),(Builtin.append_ #[T,T] oT #[v1,.slice (some ⟨b2,p,none⟩) f.length F]).run C.P w = .ok v E/\v = .slice (some ⟨L,Z,none⟩) (ap d f).length r/\Rep true E v (.s t (ap d f)) (fun x=>x=L)/\
  E.os=w.os/\E.tape=w.tape/\E.output=w.output/\
  ((L=w.heap.size/\E.heap.size=w.heap.size+1/\∀x,x<w.heap.size->E.heap[x]?=w.heap[x]?) \/
    ∃Y N,v1 = .slice (some ⟨L,Y,none⟩) d.length N/\S1 L/\E.heap.size=w.heap.size/\(∀x,x≠L->E.heap[x]?=w.heap[x]?)/\Rep true E v1 (.s t d) S1):=by
  intro g A V1 zs G b4 f4 e9 d8 M;generalize n:w.drew.alloc (.cells (g.toArray++a.toArray++zs) e (0,0))=w1 at M;have c5:∀x,x<w.heap.size->w1.heap[x]?=w.heap[x]?:=fun x J=>by rw[<- n];exact heap_alloc_old w.drew _ x J
  have c6:w1.heap.size=w.heap.size+1:=by rw[<- n];simp
  refine⟨_,w1,w.heap.size,0,A,M,by rw[a3],?_,by rw[<- n];rfl,by rw[<- n];rfl,by rw[<- n];rfl,.inl ⟨rfl,c6,c5⟩⟩
  refine Rep.join (arr:=g.toArray++a.toArray++zs) (e:=e) (V1:=V1) (V2:=V2) (K1:=fun _ _ _=>False) (K2:=fun _ _ _=>False) ?_ (by simp only[big];omega) b4 ?_ rfl ?_ ?_ ?_ (U w1) (fun _ _ _ _ _ h=>h.elim) (fun _ _ _ _ _ h=>h.elim) (fun _ _ _ _ _ _ _ _ _ h=>h.elim) (fun _ _ _ _ _ _ _ _ _ h=>h.elim) (fun _ _ _ _ _ _ _ _ _ h=>h.elim)
  .rw [<- n];exact heap_alloc_new w.drew _
  .simp only [vG,jX,G,D,f4,<- kF];have:d.length+f.length+(A-(d.length+f.length))=A:=by omega
   rw[this];omega
  .intro i j m B;have:=W i j m B;rw[j3,kT,jV (by simp[G];exact this)]
   simpa using e9 i j m B
  .intro i j m B;have:=I i j m B;rw[j3,kF,kT,kD (by simp[G];omega),jV (by simp[G,D];omega)]
   rw[<- c2 i j m B];simp only[jX,G,jB]
   congr 1
   omega
  .intro i x J j c y;obtain⟨S,M⟩:=d8 i x J j c y;exact M.flat (zvy hf y)
 cases c3 with
 |nil=>
  have M:=run_append_nil (P:=C.P) w T oT e i z hE.und m hz ⟨b2,p,none⟩ f.length F a (by rw[hs];exact D) c1 e5 (by omega) (by
   have:=k5 (show f.length<=2147483648 by omega) d0
   omega)
  have b7:=grownCap_ge w f.length 0 e;refine O [] (grownCap w f.length 0 e) (fun _ _=>undef) (Builtin.zeroCells z.cells (grownCap w f.length 0 e-f.length)) (by simp) (by simpa using b7) (by simp[size_zeroCells,b0]) (fun i j m=>by simp at m) (fun i x J=>by simp at J) ?_;rw[M];simp
 |void _ _ _ ho=>cases ho
 |sl _ _ b l r q e1 fz V1 K1 _ hb e0 b9 Q a9 c8 c7 b6 X R=>
  have d2:=e0 rfl;subst d2;have e6:d.length*t.wi<=r*t.wi:=qM _ Q;by_cases H:d.length+f.length<=r;{have c0:(d.length+f.length)*t.wi<=r*t.wi:=qM _ H;rw[kF]at c0;have M:=run_append_room' (P:=C.P) (w:=w) T oT e i hE.und m b l d.length r q e1 hb ⟨b2,p,none⟩ f.length F a (by rw[hs];exact D) c1 e8 H (by rw[hs,D];omega);rw[hs]at M;have b3:l+d.length*t.wi+a.length<=q.toList.length:=(by rw[D];simp;omega);generalize n:w.setRow b (C0 q.toList (l+d.length*t.wi) a).toArray=w1 at M;have c9:w1.heap[b]?=some (.cells (C0 q.toList (l+d.length*t.wi) a).toArray e1 (0,0)):=(by rw[<- n];exact setRow_heap w b _ _ e1 _ hb);have a8:∀x,x≠b->w1.heap[x]?=w.heap[x]?:=fun x J=>(by rw[<- n];exact setRow_other w b x _ J);have a4:(C0 q.toList (l+d.length*t.wi) a).toArray.size=q.size:=(by rw[jX,zhF _ _ _ b3];simp);have K:∀k,k<l+d.length*t.wi->(C0 q.toList (l+d.length*t.wi) a).toArray[k]?=q[k]?:=(by intro k hk;rw[jB,zew _ _ _ b3 k (.inl hk)];simp);have b1:Rows true w t d q l b V1 K1 S1:=⟨c7,b6,X,R⟩;obtain⟨k1,_⟩:=Rep.behind (w1:=w1) b9 Q a9 c8 b1 hb c9 a4 K a8;refine⟨_,w1,b,l,r,M,by rw[a3],?_,by rw[<- n];rfl,by rw[<- n];rfl,by rw[<- n];rfl,.inr ⟨l,r,rfl,c8,by rw[<- n];simp,a8,k1⟩⟩;refine Rep.join (arr:=(C0 q.toList (l+d.length*t.wi) a).toArray) (e:=e1) (V1:=V1) (V2:=V2) (K1:=fun _ _ _=>False) (K2:=fun _ _ _=>False) c9 (by simp only[big];omega) H (by rw[a4];exact a9) rfl ?_ ?_ ?_ (U w1) (fun _ _ _ _ _ h=>h.elim) (fun _ _ _ _ _ h=>h.elim) (fun _ _ _ _ _ _ _ _ _ h=>h.elim) (fun _ _ _ _ _ _ _ _ _ h=>h.elim) (fun _ _ _ _ _ _ _ _ _ h=>h.elim);{intro i j m B;have:=W i j m B;rw[K _ (by omega)];exact X i j m B};{intro i j m B;have:=I i j m B;rw[jB,kF,zeL _ _ _ b3 _ (by omega) (by rw[D];omega),<- c2 i j m B];congr 1;omega};{intro i x J j c y;exact(R i x J j c y).flat (zvy hf y)}}
  .generalize holds:(q.toList.drop l).take (d.length*t.wi)=g;have G:g.length=d.length*t.wi:=(by rw[<- holds];simp;omega);have a7:∀k,k<d.length*t.wi->g[k]?=q[l+k]?:=by intro k hk;rw[<- holds,jG,if_pos hk,jM];simp
   have M:=run_append_grow (P:=C.P) w T oT e i z hE.und m hz ⟨b,l,none⟩ d.length r g (by rw[hs];exact G) (fun j u hu=>by
    have B:j<d.length*t.wi:=by rw[<- G];exact(qA.1 hu).1
    rw[add_lit,F0 hb,<- a7 j B];exact hu) ⟨b2,p,none⟩ f.length F a (by rw[hs];exact D) c1 (by omega) (by omega) (growslice_fits (by omega) a0)
   have b7:=grownCap_ge w (d.length+f.length) r e;refine O g _ V1 _ G b7 (by rw[size_zeroCells,b0]) (fun i j m B=>?_) (fun i x J j c y=>⟨_,R i x J j c y⟩) M;have:(i+1)*t.wi<=d.length*t.wi:=qM _ m;rw[jI] at this;rw[a7 _ (by omega),<- kW];exact X i j m B
end
section
variable {C:Cfg} {w0 w w1:World} {S0:zV} {U:Nat->Prop} {st st1 st':St} {E E1:Env} {ts:Array Value} {sv:List (Array Value)}
def Late (w0:World)(st:St)(E:Env)(x:App)(v:Value)(w:World):Prop :=
 ∃(f e d g:Nat) (R:Root),w0.heap.size<=f/\(∀q Q,st.root q=some Q->∀y,E.φ q y->y<f)/\(∀l h,zl st.lo l=some h->E.β l<f)/\
  v = .slice (some ⟨e,d,none⟩) x.l.length g/\Rep true w v (.s x.t x.l) (λy=>y=e)/\st.root x.r=some R/\
  (f<=e\/∃c b a,zX w R.t (E.ρ x.r) x.p=some (.slice (some ⟨e,c,none⟩) b a))
def Late.states {x:App}{v:Value}(h:Late w0 st E x v w)(d:∀n,st'.root n=st.root n)(s:∀n,zl st'.lo n=zl st.lo n):Late w0 st' E x v w:=by obtain⟨t,e,a,b,R,g,i,j,k,m,p,r⟩:=h;exact⟨t,e,a,b,R,g,λq Q c=>i q Q (by rw[<- d];exact c),λl f c=>j l f (by rw[<- s];exact c),k,m,by rw[d];exact p,r⟩
def zGY {r:Nat}(a:At):zc5 r [] a=a:=by cases a<;>simp [zc5,coarse]
def zGZ {r:Nat}(m:MV):zgz r [] m=m:=by have h:zc5 r []=id:=funext λa=>zGY a;have c:∀x,zmW r [] x=x:=λx=>(by cases x<;>simp [zmW,h]);have b:zmW r []=id:=funext c;cases m<;>simp [zgz,c,b]
def z2f (h:Dead st){n:Nat}{R:Root}(c:st.root n=some R):R.ep=none:=by obtain⟨b,a⟩:=zbs c;rcases a with a|a;{exact a};{have:=h n R _ b a;omega}
def z2K {v:Value}{t:Ty}{l:List t.den}{S:zV}{b off n a:Nat}(h:Rep true w v (.s t l) S)(e:v = .slice (some ⟨b,off,none⟩) n a):b<w.heap.size/\S b:=by cases h with|nil=>cases e|void _ _ _ f=>cases f|sl _ _ g _ _ _ _ _ _ _ _ d _ _ _ _ c=>cases e;exact⟨(qL.1 d).1,c⟩
def z4U (hC:CfgOk C)(k:Sim w0 S0 U st E ts sv w)(hd:Dead st){o:Oper}{x:App}(h:zri C st o=some (true,x)) :
 o.guard=none/\o.dst=some x.dst/\∃(v:Value) (f:World),(execOp ({tmps:=ts,defers:=[]}:Act).eval o).run C.P w = .ok (.value v) f/\
  Sim w0 S0 U (st.put o.dst<|.v<|.at .bad) E (({tmps:=ts,defers:=[]}:Act).put o.dst v).tmps sv f/\Late w0 st E x v f:=by
 unfold zri at h;split at h
 .rename_i c d ho hdst hgu;split at h
  .rename_i hcb;split at h
   .rename_i a0 y0 T T2 hca hct;split at h
    .rename_i hTT;subst hTT;split at h
     .rename_i t r a p r2 p2 hT h1 h2;split at h
      .rename_i R cv1 cv2 hR hn1 hn2;split at h
       .rename_i hcond;simp only[qE,jH,beq_eq_false_iff_ne]at hcond;obtain⟨⟨H,a2⟩,b9⟩:=hcond;split at h
        .rename_i m t2 y2 l2' hm;simp only[qC,jS]at h;obtain⟨a1,rfl⟩:=h;refine⟨hgu,hdst,?_⟩;obtain⟨l1,l2,e1,e2,rfl⟩:=zAs hm;subst e1;have b2:l2≠[]:=by intro e;subst e;cases e2
         rw[e2]at hn2
         clear e2
         generalize c0:a::p=pp at h1 hn1;have j:=k.mem;obtain⟨hx,_⟩:=zbH k h1;obtain⟨hy,_⟩:=zbH k h2;have hh:=hx.2 R hR;have i:=j.rep r R hR;rw[H]at i;obtain⟨t',l0,S1,f1,f2,f3,f4,f5⟩:=Rep.focus pp i hh;have a3:zgo R.t R.l pp=some (.s t l1):=by obtain⟨R',W,b1⟩:=zfx hn1;rw[hR]at W;cases W;exact b1
         rw[a3] at f1;cases f1;obtain⟨R2,S2,b7,g1,g2,g3,g4⟩:=zq6 k hy hn2;obtain⟨v,f,bv,K,S,a5,hv,I,a4,a6,G,L⟩:=z9r hC hT a2 f3 g3.ro b2 a1 o.type;have X:c.args = #[a0,y0]:=by rw[<- hca]
         have Y:c.argTypes = #[T2,T2]:=by rw[<- hct]
         have g:(execOp ({tmps:=ts,defers:=[]}:Act).eval o).run C.P w = .ok (.value v) f:=by simp[execOp,ho,resolve,hcb,invoke,builtin,X,Y,a5]
         have a7:∀l cs,zl st.lo l=some cs->E.β l<w.heap.size:=by intro l cs h;obtain⟨_,b6,e,h2,_⟩:=j.loc l cs h;exact(qL.1 h2).1
         rcases L with⟨b8,b4,O⟩|⟨a8,V,b5,B,b4,F,N⟩
         .obtain⟨hM',hT'⟩:=j.addRoots k.ids.mem (dro:=[]) (w1:=f) (E1:=E) a4 a6 G (by omega) O (λq Q b=>by cases b) (λq Q _ _ b=>by cases b) (λ_ _=>⟨rfl,rfl,rfl⟩)
          refine⟨v,f,g,Sim.next k (st1:=st) hM' hT' rfl rfl (λ_ h=>h) k.ids.ro k.ids.lo trivial (λn hn=>by simp[MV.ids,zbF,zU,At.ids,zbr,zbv]at hn),?_⟩
          exact⟨w.heap.size,bv,K,S,R,j.size,λq Q b y hy=>j.rlt q Q b y hy,a7,hv,I,hR,.inl (by omega)⟩
         .obtain⟨m,hm1,hrm,hh1,hh2⟩:=f5 f l1 S1 (λz _ M=>F z λe=>M (e ▸ B)) (λ_ h _=>h) N;have b3:=zQh pp a3 m hm1;subst b3;obtain⟨_,_,_,_,a9⟩:=f5 w l1 S1 (λ_ _ _=>rfl) (λ_ h _=>h) f3;have D:∀q u,zX w R.t (E.ρ r) q=some u->zX f R.t (E.ρ r) q=some u:=by intro q u b;refine hh1 q u b (λq' Z=>?_);subst Z;rw[a9]at b;exact z4G a2 q' _ _ b
          have J:=zGs (w1:=f) (m:=R.l) (js:=[]) (S3:=E.φ r) k hR H a4 a6 G (by omega) (λz hz M=>F z λe=>M (f4 z<|e ▸ B)) (λz hz=>⟨.inl hz,by have:=j.rlt r R hR z hz;omega⟩) (hrm.weak λz hz=>by
           rcases hz with⟨h,_⟩|h
           .exact h
           .exact f4 z h) (λq u b _=>D q u b)
          have hE:({E with φ:=λn=>if n=r then E.φ r else E.φ n}:Env)=E:=by
           have:(λn=>if n=r then E.φ r else E.φ n)=E.φ:=by
            funext n
            split
            .rename_i e;rw[e]
            .rfl
           rw[this]
          rw[hE]at J;have b0:Sim w0 S0 U st E ts sv f:=by refine J.fewer (λt=>?_) (λn=>?_) ?_ (λn Q A=>?_) (λn Q A=>?_) (λn Q e A Z=>j.epo n Q e A Z);{simp only [ziq,qS];cases st.tm[t]? <;> simp [zGZ]};{simp only [ziq];rw[zlA];have:zc5 r []=id:=funext λa=>zGY a;cases zl st.lo n<;>simp [this]};{simp only [ziq];have:zgz r []=id:=funext λa=>zGZ a;simp[this]};{have Z:=z2f hd A;obtain⟨q1,_⟩:=zbs A;refine zgr ?_ (.inl Z);simp only[ziq,zl];split;{rename_i hb;simp only[qJ]at hb;subst hb;rw[hR]at A;cases A;rfl};{exact q1}};{simp only [ziq,zl];split;{exact⟨_,rfl⟩};{exact⟨Q,A⟩}}
          refine⟨v,f,g,b0.putV trivial (λn hn=>by simp[MV.ids,zbF,zU,At.ids,zbr,zbv]at hn),?_⟩
          refine⟨w.heap.size,bv,K,S,R,j.size,λq Q b y hy=>j.rlt q Q b y hy,a7,hv,I,hR,.inr ⟨a8,l1.length,V,?_⟩⟩;refine D pp _ ?_;rw[hh,b5]
        .cases h
       .cases h
      .cases h
     .cases h
    .cases h
   .cases h
  .cases h
 .cases h
def zZu (hC:CfgOk C)(hS:Sim w0 S0 U st E ts sv w){o:Oper}{id:Nat}{x:App}{v:Value}{b4:St}(hL:Late w0 st E x v w)(g0:ts[x.dst]?=some v)(h:zC3 C st o x=some (true,b4)) :
 o.guard=none/\Goes C w0 S0 U st ts sv w o id (λ_=>b4.put o.dst .und)/\b4.nid=st.nid:=by
 unfold zC3 at h;split at h
 .rename_i T a d ho hgu;split at h
  .rename_i t1 r p i off hT ha;split at h
   .rename_i R t l c hRr L hsp;split at h
    .rename_i hcond;simp only[qE,q9,Nat.beq_eq_true_eq]at hcond;obtain⟨⟨⟨a4,a9⟩,b2⟩,G⟩:=hcond;have a9:=kO a9;have b2:=kO b2;subst a9 b2;split at h
     .rename_i l' hset;split at h
      .rename_i m hput;simp only[qC,jS]at h;obtain⟨rfl,rfl⟩:=h;refine⟨hgu,?_,rfl⟩;have f7:=zsX hsp;obtain⟨n0,X,g7,g3,R',e8,Q,e7,c6,P,M,S⟩:=hL;rw[hRr]at M;cases M;obtain⟨d0,g8⟩:=zbH hS ha;obtain⟨b,o2,len,c8,h0,e1,e2,e3,Y,e5⟩:=d0.2 R hRr;have hM:=hS.mem;have a5:=hM.rep _ R hRr;rw[a4]at a5;obtain⟨t',l0,S1,f1,f2,f3,f4,f5⟩:=Rep.focus p a5 e1;have d7:zgo R.t R.l p=some (.s t l):=by obtain⟨R',M,d6⟩:=zfx L;rw[hRr]at M;cases M;exact d6
       rw[d7] at f1;cases f1;rw[e2] at f2;cases f2;obtain⟨_,_,_,_,b5⟩:=f5 w l S1 (λ_ _ _=>rfl) (λ_ h _=>h) f3;cases f3 with
       |void _ _ _ ho=>cases ho
       |sl _ _ _ _ _ a6 e' fz V K _ hb d5 b0 a0 c5 a7 A a1 c7 b8=>
       have b9:=d5 rfl;subst b9;have N:Rows true w t l a6 o2 b V K S1:=⟨A,a1,c7,b8⟩;have a3:v.oneCell'=true:=by rw[c6];rfl
       have B:v.cells = #[v]:=cells_one a3;have O:off+[v].length<=t.wi:=by simp;omega
       have c3:(i.toNat+1)*t.wi<=c8*t.wi:=qM _ (by omega)
       rw[jI]at c3;have H:=zpx (w:=w) (v:=v) (off:=o2+i.toNat*t.wi+off) (hC.cty T false [.s t1] hT) hb (by rw[B];rfl) (by simp;omega) (by rw[B];intro u hu;simp at hu;rw[hu];exact a3)
       rw[B]at H;have e6:(#[v]:LV).toList=[v]:=rfl;rw[e6]at H;generalize J:w.setRow b (C0 a6.toList (o2+i.toNat*t.wi+off) [v]).toArray=w1 at H;have b7:w1.heap[b]?=some (.cells (C0 a6.toList (o2+i.toNat*t.wi+off) [v]).toArray e' (0,0)):=by rw[<- J];exact setRow_heap w b _ _ e' _ hb
       have D:∀y,y≠b->w1.heap[y]?=w.heap[y]?:=λy z=>by rw[<- J];exact setRow_other w b y _ z
       have c2:E.φ x.r b:=f4 b a7;have g9:b<n0:=Q _ R hRr b c2;have a2:∀F j,F<l.length->j<t.wi->¬ Hit i.toNat off [v].length F j->∀y,K F j y->w1.heap[y]?=w.heap[y]?:=λF j I hj _ y z=>D y ((A F j y I hj z).2 rfl)
       have a8:n0<=X\/K i.toNat off X:=by rcases S with h|⟨g6,g5,g2,h⟩;{exact .inl h};{right;rw[<- f7,b5]at h;simp only[zX]at h;rw[if_pos ⟨e3,Y⟩]at h;split at h;{rename_i t3 f9;rw[F0 hb,c7 i.toNat off Y G]at h;simp only[qC]at h;obtain⟨c,hc,d3⟩:=zz3 (x:=ix l i t.dflt) f9;obtain⟨l3,rfl⟩:=zmq d3;have c1:=b8 i.toNat _ (zmy Y) off _ hc;rw[h]at c1;cases c1 with|void _ _ _ ho=>cases ho|sl _ _ _ _ _ _ _ _ _ _ _ _ _ _ _ _ c9=>exact c9};{cases h}}
       have Z:X≠b:=by rcases a8 with h|h;{omega};{exact(A _ _ X Y G h).2 rfl}
       have b3:=Rep.setCells (w:=w) (w1:=w1) (us:=[v]) (Kn:=λ_ y=>y=X) b0 a0 c5 N Y rfl O hset b7 (λk c u hc hu=>by
        cases k with
        |zero=>simp only[qI,qC]at hc hu;subst hc hu;exact P.frame (λy z=>D y (by rw[z];exact Z))
        |succ k=>simp at hc)
        a2
        (λk y _ z=>by rw[z];exact Z)
        (λk k' y hk e0 _ _=>by simp at hk e0;omega)
        (λk y F j hk z I hj e9 W=>by
         subst z;rcases a8 with h|h
         .have:=Q _ R hRr y (f4 y (A F j y I hj W).1);omega
         .have:=a1 rfl _ _ _ _ y Y G I hj h W;exact e9 ⟨this.1.symm,by omega,by simp;omega⟩)
       have b6:∀y,(y=b\/(∃F j,F<l.length/\j<t.wi/\¬ Hit i.toNat off [v].length F j/\K F j y)\/∃k,k<[v].length/\y=X)->S1 y\/(n0<=y/\y=X):=by intro y z;rcases z with rfl|⟨F,j,I,hj,_,hk⟩|⟨k,hk,rfl⟩;{exact .inl a7};{exact .inl (A F j y I hj hk).1};{rcases a8 with h|h;{exact .inr ⟨h,rfl⟩};{exact .inl (A _ _ _ Y G h).1}}
       obtain⟨m',c0,f8,d8,d9⟩:=f5 w1 l' _ (λy z b1=>D y λe=>b1 (e ▸ a7)) (λy z W=>by
        rcases b6 y z with h|⟨h,_⟩
        .exact h
        .have:=Q _ R hRr y W;omega) b3
       rw[hput]at c0;cases c0;have g4:w1.heap.size=w.heap.size:=by rw[<- J];simp
       have d1:X<w.heap.size:=(z2K P c6).1;have c4:=zCY (w1:=w1) (m:=m) (js:=[cols p++[off]]) e8 Q e7 hS hRr a4 (by rw[<- J];rfl) (by rw[<- J];rfl) (by rw[<- J];rfl) (by omega) (λy _ b1=>D y λe=>b1 (e ▸ c2)) (λy z=>by
        rcases z with⟨z,_⟩|z
        .exact⟨.inl z,by have:=hM.rlt _ R hRr y z;omega⟩
        .rcases b6 y z with h|⟨h,rfl⟩
         .exact⟨.inl<|f4 y h,by have:=hM.rlt _ R hRr y (f4 y h);omega⟩
         .exact⟨.inr h,by omega⟩) f8 (λq u hq f6=>by
        rcases ztq p q with⟨q',rfl⟩|f0
        .rw [d9 q'];rw[b5 q']at hq;refine zo1 (us:=[v]) a0 c5 N hb Y rfl O hset b7 a2 q' (λF j g1 he k c hj d2=>?_) D hq;subst he hj;cases k with
         |succ k=>simp at d2
         |zero=>exfalso;have h9:=kR.1 f6 (cols p++[off]) (by simp);exact absurd (zrk p F off g1) h9
        .exact d8 q u hq λq' he=>absurd ⟨q',he⟩ f0)
       have g:=c4.putV (dst:=o.dst) (m:=.und) (v:=undef) rfl (λn L=>by simp[MV.ids,zbF]at L)
       refine zvB (w':=w1) ?_ ⟨g.mem,⟨λn R L=>.inl (g.ids.ro n R L),λn cs L=>⟨.inl (g.ids.lo n cs L).1,λa ha m hm=>.inl ((g.ids.lo n cs L).2 a ha m hm)⟩,λm hm n L=>.inl (g.ids.tm m hm n L),λf hf m hm n L=>.inl (g.ids.stk f hf m hm n L)⟩,g.tm,g.stk⟩;have d4:({tmps:=ts,defers:=[]}:Act).eval (.tmp x.dst)=v:=by simp[Act.eval,g0]
       simp[execOp,ho,Instr.storeAt,e5,Instr.sureAddr,d4,H]
      .cases h
     .cases h
    .cases h
   .cases h
  .cases h
 .cases h
end
section
variable {C:Cfg} {w0 w w1:World} {S0:zV} {U:Nat->Prop} {st st1:St} {E E1:Env} {ts:Array Value} {sv:List (Array Value)}
variable {ops:Array Oper} {b:Bool} {base:Nat} {cl:List (List Nat)} {ss:List Step} {st0:St}
def zKa {w b:World}(h:b.heap=w.heap):∀(p:List (Int×Nat)) (t:Ty) (v:Value),zX b t v p=zX w t v p
 |[],t,v=>by simp only[zX]
 |(i,j)::p,t,v=>by have d:∀a,b.cell? a=w.cell? a:=λa=>(by simp only[World.cell?,h]);have e:=zKa h p;cases v with|slice a len c=>cases a<;>simp only [zX,d,e]|_=>simp only[zX]
def Sim.heap (g:Sim w0 S0 U st E ts sv w){w':World}(d:w'.heap=w.heap)(v:w'.os=w.os)(y:w'.tape=w.tape)(z:w'.output=w.output):Sim w0 S0 U st E ts sv w':=by
 have T:Trans st E w st E w' (λ_=>True):=⟨λr _ R h=>⟨R,h,rfl,λp u i=>by rw[zKa d];exact i⟩,λl _ k h=>⟨⟨k,h⟩,rfl⟩,rfl⟩
 have a:=g.mem;refine⟨⟨by rw[v];exact a.os,by rw[y];exact a.tape,by rw[z];exact a.output,by rw[d];exact a.size,λb A C=>by rw[d];exact a.keep b A C,
  λr R h=>(a.rep r R h).frame (λx _=>by rw[d]),λr R h x D=>by rw[d];exact a.rlt r R h x D,a.mine,a.frz,a.apart,λl k B=>?_,a.linj,a.lro,a.epo,a.κ⟩,g.ids,
  aA.tr T (λ_ _ _ _=>trivial) g.tm,Stack.tr T (λ_ _ _ _ _ _=>trivial) g.stk⟩
 obtain⟨q,f,e,s,t,m⟩:=a.loc l k B;exact⟨q,f,e,by rw[d];exact s,t,λj c u n i=>⟨(m j c u n i).1,VA.tr T (λ_ _=>trivial) (m j c u n i).2⟩⟩
def Sim.blind (d:Sim w0 S0 U st E ts sv w)(c:Bool)(n:Nat):Sim w0 S0 U {st with nid:=n,ep:=if c then st.ep+1 else st.ep} E ts sv w:=by
 have h:=d.nid n;cases c with
 |false=>exact h
 |true=>refine h.fewer (λ_=>rfl) (λ_=>rfl) rfl (λr R b=>?_) (λr R b=>⟨R,b⟩) (λr R e b i=>?_);{obtain⟨f,a⟩:=zbs b;have j:R.ep=none:=(by rcases a with a|a;{exact a};{have:=d.mem.epo r R _ f a;simp only[if_true] at this;omega});show St.root {st with nid:=n} r=some R;unfold St.root;have g:zl ({st with nid:=n}:St).ro r=some R:=f;rw[g];simp only[j]};{have:=d.mem.epo r R e b i;show e<=st.ep+1;omega}
def cnt_lt {p q:Nat->Bool}:∀(l:List Nat),(∀x∈l,q x=true->p x=true)->(∃x∈l,p x=true/\q x=false)->l.countP q<l.countP p
 |[],_,h=>by obtain⟨x,b,_⟩:=h;cases b
 |a::l,e,g=>by
  have f:∀(m:List Nat),(∀x∈m,q x=true->p x=true)->m.countP q<=m.countP p:=λm i=>List.countP_mono_left i;have i:=f l (λx b=>e x (by simp[b]))
  simp only[vK];cases j:q a with
  |true=>
   rw[e a (by simp) j]
   have:l.countP q<l.countP p:=cnt_lt l (λx b=>e x (by simp[b])) (by
    obtain⟨x,b,c,d⟩:=g;rcases qG.1 b with rfl|b
    .rw [j] at d;cases d
    .exact⟨x,b,c,d⟩)
   simp only[if_true];omega
  |false=>
   cases k:p a with
   |true=>simp;omega
   |false=>
    have:l.countP q<l.countP p:=cnt_lt l (λx b=>e x (by simp[b])) (by
     obtain⟨x,b,c,d⟩:=g;rcases qG.1 b with rfl|b
     .rw [k] at c;cases c
     .exact⟨x,b,c,d⟩)
    simp;omega
def left (n:Nat)(listed:Array Bool):Nat:=(List.range n).countP λi=>!listed.getD i true
def zIt {listed:Array Bool}{n i:Nat}(e:i<n)(c:listed.getD i true=false):left n (listed.setIfInBounds i true)<left n listed:=by unfold left;have a:i<listed.size:=(by rcases u4 i listed.size with h|h;{exact h};{simp [uW h]at c});refine cnt_lt _ (λx _ d=>?_) ⟨i,kN.2 e,by rw[c];rfl,by simp[a]⟩;by_cases b:i=x;{subst b;simp[a]at d};{rwa [getD_set_ne true b]at d}
def zWg {C:Cfg}{st:St}{o:Oper}{id:Nat}{d:Dl}(b:zsl o=true)(h:zkD C st o id=some d):z0 C st o id=some d:=by unfold zkD at h;cases e:z0 C st o id with|some g=>rw[e]at h;exact h|none=>rw[e]at h;exfalso;have h:zlU C st o id=some d:=h;have f:zkj C o=none:=(by unfold zsl at b;unfold zkj;cases a:o.op with|call c=>rw[a]at b;simp at b|_=>rfl);unfold zlU at h;rw[f]at h;cases h
structure Waits (md:Region.Mode) (ops:Array Oper) (cl:List (List Nat)):Prop where
 at':∀i,i<ops.size->cl.getD i []=waits ops (cl.take i) i
 lt:∀i,i<ops.size->∀j∈cl.getD i [],j<i
 sub:∀e,Region.binds .any e=true->Region.binds md e=true
 rk:∃rk:Nat->Nat,∀(i:Nat) (o:Oper),ops[i]?=some o->∀e∈o.after,Region.binds md e=true->e.on<ops.size/\rk e.on<rk i
variable {md:Region.Mode}
def z8E (a:∀i,i<ops.size->cl.getD i []=waits ops (cl.take i) i){i:Nat}{o:Oper}(b:ops[i]?=some o){e:Edge}(d:e∈o.after)(c:Region.binds .any e=true):e.on∈cl.getD i []:=by have f:=(qL.1 b).1;rw[a i f];simp only[waits,b];exact zMD (by simpa using d) c
def zRQ {l:List (List Nat)}{i j k:Nat}(h:k∈(l.take i).getD j []):k∈l.getD j []:=by rw[kE,jG]at h;rw[kE];split at h;{exact h};{simp at h}
def Waits.inv (W:Waits md ops cl){i j:Nat}{o:Oper}(b:ops[i]?=some o)(a:j∈cl.getD i []):∃e∈o.after,Region.binds .any e=true/\(j=e.on\/j∈cl.getD e.on []):=by have f:=(qL.1 b).1;rw[W.at' i f]at a;simp only[waits,b]at a;obtain⟨e,d,c,h⟩:=zME a;exact⟨e,by simpa using d,c,h.imp id zRQ⟩
def XL (listed:Array Bool)(k:Nat):Bool:=listed.getD k false
def zGC (W:Waits md ops cl){listed:Array Bool}(d:zkZ cl (XL listed)){i:Nat}(f:i∈Region.ready md ops listed):∀j∈cl.getD i [],XL listed j=true:=by obtain⟨_,o,k,a⟩:=mem_ready.1 f;intro j g;obtain⟨e,c,b,h|h⟩:=W.inv k g;{subst h;exact a e c (W.sub e b)};{exact d _ (a e c<|W.sub e b) j h}
def least {p:Nat->Prop}:∀n,p n->∃m,m<=n/\p m/\∀j,j<m->¬ p j:=by intro n;induction n using Nat.strongRecOn with|_ n i=>intro g;by_cases h:∃j,j<n/\p j;{obtain⟨j,d,e⟩:=h;obtain⟨m,k,b,c⟩:=i j d e;exact⟨m,by omega,b,c⟩};{exact⟨n,qQ _,g,λj f a=>h ⟨j,f,a⟩⟩}
def zLL (W:Waits md ops cl){listed:Array Bool}(s:listed.size=ops.size){b:Nat}(c:b<ops.size)(d:listed.getD b true=false):∃i,i∈Region.ready md ops listed:=by obtain⟨j,g⟩:=W.rk;obtain⟨n,_,⟨i,k,r,u⟩,a⟩:=least (p:=λn=>∃i,i<ops.size/\listed.getD i true=false/\j i=n) (j b) ⟨b,c,d,rfl⟩;refine⟨i,mem_ready.2 ⟨r,ops[i],by simp[k],λe q m=>?_⟩⟩;obtain⟨l,t⟩:=g i ops[i] (by simp[k]) e q m;cases h:listed.getD e.on false with|true=>rfl|false=>exfalso;refine a (j e.on) (by omega) ⟨e.on,l,?_,rfl⟩;have f:e.on<listed.size:=(by omega);simp only[Array.getD,f,dif_pos]at h ⊢;exact h
def ztf {listed:Array Bool}{i:Nat}(a:i<listed.size):XL listed i=listed.getD i true:=by simp[XL,a]
def zJD {listed:Array Bool}{i:Nat}(a:i<listed.size)(k:Nat):XL (listed.setIfInBounds i true) k=(XL listed k||k==i):=by unfold XL;by_cases h:i=k;{subst h;simp[a]};{rw [getD_set_ne false h];have:(k==i)=false:=(by simp;omega);rw[this,u0]}
def z0D {P:Program}{Q d:Exit->Act->World->Prop}(f:∀e,e≠.normal->∀a w,d e a w->Q e a w){i:Nat}{K:Act->World->Prop}{a:Act}{w:World}(h:wpOp P ops d i K a w):wpOp P ops Q i K a w:=by
 have b:LetsOut d->LetsOut Q:=(by rintro⟨a,w,h⟩;exact⟨a,w,f _ (by simp) a w h⟩);unfold wpOp at h ⊢;split;{rename_i m;rw[m]at h;exact h}
 .rename_i o ho;simp only[ho]at h;split
  .rename_i j;rw[if_pos j]at h;rcases h with h|⟨k,l⟩
   .left
    unfold Oper.wp at *;generalize (execOp a.eval o).run P w=r at *;cases r with
    |ok n p =>
     cases n<;>simp only [Oper.upon]at h ⊢ <;>
      first
       |exact h
       |exact h.mono (λe q g=>by
        cases e with
        |returned v=>exact g
        |panicked c=>exact f _ (by simp) _ _ g
        |outgrown=>exact b g)
    |halt x p =>cases x<;>simp only [Oper.upon]at h ⊢ <;> first|exact f _ (by simp) _ _ h|exact h
   {exact .inr ⟨k,b l⟩}
  {rename_i j;rw[if_neg j]at h;exact h}
def zsE (W:Waits md ops cl){listed:Array Bool}{m:Nat}(e:listed.size=ops.size)(c:∀i,i<ops.size->listed.getD i true=decide (i<m)):zkZ cl (XL listed):=by intro k b j d;have a:k<ops.size:=(by rcases u4 k listed.size with h|h;{omega};{simp [XL,uW h]at b});rw[ztf (by omega),c k a]at b;simp at b;have:=W.lt k a j d;rw[ztf (by omega),c j (by omega)];simp;omega
def z5d {P:Program}{Q:Exit->Act->World->Prop}{c:Nat}{b:Array Bool}{a:Act}{w:World}(g:∀i,i<ops.size->b.getD i true=true)(h:Q .normal a w):wpAny P md ops Q c b a w:=by have f:Region.ready md ops b=[]:=(by refine List.eq_nil_iff_forall_not_mem.2 (λi d=>?_);obtain⟨e,o,j,_⟩:=mem_ready.1 d;have d:=(qL.1 j).1;rw[g i d]at e;cases e);cases c with|zero=>exact⟨f,h⟩|succ c=>exact⟨λ_=>h,λi d=>by rw[f]at d;cases d⟩
def zX2 (W:Waits md ops cl){P:Program}{Q:Exit->Act->World->Prop}{b m:Nat}{listed:Array Bool}{a:Act}{w:World}(c:listed.size=ops.size)(r:m<ops.size)(A:Pinned ops.size cl m)(p:∀i,i<ops.size->listed.getD i true=decide (i<m))(B:left ops.size listed<=b)(h:∀q l,l.size=ops.size->(∀i,i<ops.size->l.getD i true=decide (i<m+1))->left ops.size l<=q->b=q+1->l=listed.setIfInBounds m true->wpOp P ops Q m (wpAny P md ops Q q l) a w):wpAny P md ops Q b listed a w:=by have t:listed.getD m true=false:=(by rw[p m r];simp);obtain⟨C,j⟩:=zLL W c r t;have y:=zIt (listed:=listed) (n:=ops.size) (i:=m) r t;obtain⟨b,rfl⟩:∃f,b=f+1:=⟨b-1,by omega⟩;refine⟨λh=>(by rw[h]at j;cases j),λi v=>?_⟩;obtain⟨u,o,z,_⟩:=mem_ready.1 v;have d:=(qL.1 z).1;rw[p i d]at u;simp only[decide_eq_false_iff_not,Nat.not_lt]at u;have e:i=m:=(by by_cases s:i=m;{exact s};{exfalso;have:=zGC W (zsE W c p) v m (A.wait i (by omega) d);rw[ztf (by omega),t] at this;cases this});subst e;refine h b _ (by simp[c]) (λk x=>?_) (by omega) rfl rfl;by_cases g:i=k;{subst g;simp[c,d]};{rw [getD_set_ne true g,p k x];congr 1;simp only[eq_iff_iff];omega}
def zSy {a T:Nat}(W:Waits md ops cl)(M:T<=ops.size)(s:T<ops.size->Pinned ops.size cl T){P:Program}{Q:Exit->Act->World->Prop}{J:(Nat->Bool)->Env->LV->World->Prop}(d:∀X Y E ts w,(∀k,a<=k->k<T->X k=Y k)->J X E ts w->J Y E ts w)(l:∀X Y i,zkZ cl X->a<=i->i<T->X i=false->(∀j∈cl.getD i [],X j=true)->(∀k,Y k=(X k||k==i))->∀E ts w,J X E ts w->∀K:Act->World->Prop,(∀A c y,J Y A c y->K {tmps:=c,defers:=[]} y)->wpOp P ops Q i K {tmps:=ts,defers:=[]} w)(p:∀(Z:Nat) (I:Array Bool) (A:Env) (c:LV) (y:World),I.size=ops.size->(∀i,i<ops.size->I.getD i true=decide (i<T))->left ops.size I<=Z->J (λ_=>true) A c y->wpAny P md ops Q Z I {tmps:=c,defers:=[]} y) :
 ∀(b:Nat) (listed:Array Bool) (E:Env) (ts:LV) (w:World),listed.size=ops.size->zkZ cl (XL listed)->(∀i,i<a->XL listed i=true)->(∀m,T<=m->m<ops.size->XL listed m=false)->left ops.size listed<=b->
  J (XL listed) E ts w->wpAny P md ops Q b listed {tmps:=ts,defers:=[]} w
 |b,listed,E,ts,w,x,N,q,g,hf,hS=>by by_cases e:∀i,i<T->XL listed i=true;{have hl:∀i,i<ops.size->listed.getD i true=decide (i<T):=(by intro i z;rw[<- ztf (by omega)];by_cases h:i<T;{rw [e i h];simp[h]};{rw [g i (by omega) z];simp[h]});exact p b listed E ts w x hl hf (d _ _ E ts w (λk _ v=>e k v) hS)};{have O:∃i,i<T/\XL listed i=false:=(by refine Classical.byContradiction (λV=>e λi z=>?_);cases h:XL listed i with|true=>rfl|false=>exact absurd ⟨i,z,h⟩ V);obtain⟨H,R,r⟩:=O;have F:listed.getD H true=false:=(by rw[<- ztf (by omega)];exact r);obtain⟨i1,D⟩:=zLL W x (by omega) F;have a0:0<left ops.size listed:=(by have:=zIt (listed:=listed) (n:=ops.size) (i:=H) (by omega) F;omega);obtain⟨b,rfl⟩:∃f,b=f+1:=⟨b-1,by omega⟩;refine⟨λh=>(by rw[h]at D;cases D),λi z=>?_⟩;obtain⟨h0,o,ho,_⟩:=mem_ready.1 z;have B:=(qL.1 ho).1;have u:XL listed i=false:=(by rw[ztf (by omega)];exact h0);have G:=zGC W N z;have S:a<=i:=(by refine Classical.byContradiction (λV=>?_);rw[q i (by omega)]at u;cases u);have t:i<T:=(by refine Classical.byContradiction (λV=>?_);have hp:=s (by omega);by_cases t:i=T;{subst t;have:=G H (hp.full H R);rw[r] at this;cases this};{have:=G T (hp.wait i (by omega) B);rw[g T (qQ _) (by omega)] at this;cases this});refine l _ (XL<|listed.setIfInBounds i true) i N S t u G (zJD (by omega)) E ts w hS _ (λA c y L=>?_);refine zSy W M s d l p b (listed.setIfInBounds i true) A c y (by simp[x]) ?_ ?_ ?_ ?_ L;{intro k v j hj;rw[zJD (by omega)]at v ⊢;by_cases C:k=i;{subst C;rw[G j hj];rfl};{have:(k==i)=false:=(by simp[C]);rw[this,u0]at v;rw[N k v j hj];rfl}};{intro k v;rw[zJD (by omega),q k v];rfl};{intro m hm U;rw[zJD (by omega),g m hm U];simp;omega};{have:=zIt (listed:=listed) (n:=ops.size) B h0;omega}}
def z4I (A:CfgOk C)(D:CtrOk C)(B:GraftOk C){a T:Nat}(W:Waits md ops cl)(I:a+ss.length=T)(q:T<=ops.size)(g:T<ops.size->Pinned ops.size cl T)(F:Free C ops cl b base a ss st0)(N:b=false->∀k,a<=k->k<T->zlO C ops k=false)(O:b=true->Dead st0/\0<st0.ep)(H:∀k,a<=k->k<T->∀n,Mine (base+32*k) n->¬ U n){Q:Exit->Act->World->Prop}(e:∀(t:Nat) (p:Array Bool) (y:Env) (j:LV) (x:World),p.size=ops.size->(∀i,i<ops.size->p.getD i true=decide (i<T))->left ops.size p<=t->
 Sim w0 S0 (UX U base a T λ_=>true) (zbD ops b (λ_=>true) a ss st0) y j sv x->wpAny C.P md ops Q t p {tmps:=j,defers:=[]} x) :
 ∀(d:Nat) (c:Array Bool) (E:Env) (ts:LV) (w:World),c.size=ops.size->zkZ cl (XL c)->(∀i,i<a->XL c i=true)->(∀m,T<=m->m<ops.size->XL c m=false)->left ops.size c<=d->
  Sim w0 S0 (UX U base a T<|XL c) (zbD ops b (XL c) a ss st0) E ts sv w->wpAny C.P md ops Q d c {tmps:=ts,defers:=[]} w :=
 zSy (J:=λX E ts w=>Sim w0 S0 (UX U base a T X) (zbD ops b X a ss st0) E ts sv w) W q g
  (λX Y E ts w h l=>by
   rw[zro ss a st0 λk f v=>h k f (by omega)]at l
   refine l.uses ?_
   rintro n (f|⟨k,u,f,v,z⟩)
   .exact .inl f
   .exact .inr ⟨k,u,f,by rw[<- h k u f];exact v,z⟩)
  (λX Y i L s R r S M E ts w l K G=>zPR A D B I F L s R r S N O H M l G) e
def get_put {st:St}{d:Nat}{m:MV}{a:Key}(h:a≠.tm d):(st.put (some d) m).get a=st.get a:=by cases a with|tm t=>have:d≠t:=λe=>h (by rw[e]);simp[St.get,St.put,jC,this]|ro n=>rfl|lo n=>rfl
def z3C {st b:St}{o:Oper}(c:b.ep=st.ep)(g:∀t∈zo7 o,b.get (.tm t)=st.get (.tm t))(f:∀n∈(ztn st o).flatMap zbr,b.get (.ro n)=st.get (.ro n))(d:∀n∈(ztn st o).flatMap zbv,b.get (.lo n)=st.get (.lo n)):Agree st b o.op.operands.toList:=by refine⟨c,λx h=>?_,λx h m k a j=>?_⟩;{cases x with|tmp t=>have l:t∈zo7 o:=(by unfold zo7;exact uQ.2 ⟨_,h,rfl⟩);simp only[St.opnd,zJ4<|g t l]|_=>rfl};{have i:a∈ztn st o:=(by unfold ztn;exact qR.2 ⟨m,uQ.2 ⟨x,h,k⟩,j⟩);exact⟨λn e=>zCH (f n<|qR.2 ⟨a,i,e⟩),λn e=>zJ3 (d n<|qR.2 ⟨a,i,e⟩)⟩}
def zV9 {st k:St}{o:Oper}(h:Agree st k o.op.operands.toList):zri C k o=zri C st o:=by cases f:o.op with|call c=>rw[f]at h;have l:∀x∈c.args.toList,x∈(Op.call c).operands.toList:=λx j=>(by simp only[Op.operands,Call.operands,Array.toList_append,jJ];exact .inr j);simp only[zri,f];(cases w:o.dst with|none=>rfl|some d=>(cases hg:o.guard with|some g=>rfl|none=>simp only;(cases q:c.callee with|builtin b=>(cases b with|append=>simp only;split;{rename_i x y T u i s;have j:=l x (by rw[i];simp);have m:=l y (by rw[i];simp);rw[h.at j,h.at m];split;{cases v:C.sty T with|none=>rfl|some t=>(cases e:st.at x with|none=>rfl|some a=>(cases a with|sl r p=>(cases p with|nil=>rfl|cons z p=>(cases n:st.at y with|none=>rfl|some b=>(cases b with|sl B A=>simp only[h.root<|zd8 j e,h.node<|zd8 j e,h.node<|zd8 m n]|_=>rfl)))|_=>rfl))};{rfl}};{rfl}|_=>rfl)|_=>rfl)))|_=>simp only[zri,f]
def zLK (g:CfgOk C)(e:Sim w0 S0 U st E ts sv w){o:Oper}{id:Nat}{d:Dl}(b:zsl o=true)(h:z0 C st o id=some d)(i:d.c=true):o.guard=none/\zte C U st E ts w o d:=by
 unfold zsl at b;simp only[qE,kA]at b;obtain⟨hg,b⟩:=b;refine⟨hg,?_⟩;cases a:o.op
 case move x=>
  rw[a]at b;cases x with
  |tmp t=>simp only[z0,a]at h;split at h;{rename_i v j;cases h;exact z2B e (.inl a) j};{cases h}
  |_=>simp at b
 (case load T x=>exact z2A g e a h);(case fieldAddr T x f=>exact zGA g e a h);(case indexAddr T x y=>exact zGB g e a h i);(case nilCheck x=>exact zLC e a h);all_goals (rw [a]at b;simp at b)
def pure_run {o:Oper}{i:Nat}{d:Dl}{v:Value}{Q:Exit->Act->World->Prop}{K:Act->World->Prop}(a:ops[i]?=some o)(hg:o.guard=none)(b:(execOp ({tmps:=ts,defers:=[]}:Act).eval o).run C.P w = .ok (.value v) w1)(h:K {tmps:=(({tmps:=ts,defers:=[]}:Act).put o.dst v).tmps,defers:=[]} w1):wpOp C.P ops Q i K {tmps:=ts,defers:=[]} w:=by unfold wpOp;simp only[a];rw[if_pos (by simp[Region.wanted,hg])];left;unfold Oper.wp;rw[b,Oper.upon_value,zju];exact h
def zUN {d t:Nat}{v u:Value}(h:ts[t]?=some u)(a:d≠t):(({tmps:=ts,defers:=[]}:Act).put (some d) v).tmps[t]?=some u:=by simp[Act.put,Array.getElem?_setIfInBounds_ne a,h]
def z4R (hC:CfgOk C)(hH:CtrOk C)(hG:GraftOk C){a A:Nat}(W:Waits md ops cl)(hA:a+ss.length=A)(c4:A+1<=ops.size)(c1:A+1<ops.size->Pinned ops.size cl (A+1))(F:Free C ops cl b base a ss st0)(hb:b=false->∀k,a<=k->k<A->zlO C ops k=false)(c6:b=true)(hd:b=true->Dead st0/\0<st0.ep)(hM:∀k,a<=k->k<A->∀n,Mine (base+32*k) n->¬ U n){D:Oper}{x:App}(d5:ops[A]?=some D)(y:zri C (zbD ops b (fun _=>true) a ss st0) D=some (true,x))(d1:zC2 ops cl a A=true)(a5:x.dst<(zbD ops b (fun _=>true) a ss st0).tm.length)(N:∀i s o f,ss[i]?=some s->ops[a+i]?=some o->At1 C ops base (a+i) o (zbD ops b (fun j=>decide (j<a+i)) a ss st0) f s->a+i∉cl.getD A []->f.apart (zfU (zbD ops b (fun _=>true) a ss st0) ops D zDW)=true){Q:Exit->Act->World->Prop}(b0:∀(fl:Nat) (l':Array Bool) (E':Env) (B:LV) (w':World) (v:Value),l'.size=ops.size->(∀i,i<ops.size->l'.getD i true=decide (i<A+1))->left ops.size l'<=fl->B[x.dst]?=some v->
 Sim w0 S0 (UX U base a A (fun _=>true)) ((zbD ops b (fun _=>true) a ss st0).put D.dst (.v (.at .bad))) E' B sv w'->Late w0 ((zbD ops b (fun _=>true) a ss st0).put D.dst (.v (.at .bad))) E' x v w'->wpAny C.P md ops Q fl l' {tmps:=B,defers:=[]} w')(I:Nat)(g:Array Bool)(E:Env)(ts:LV)(w:World)(d6:g.size=ops.size)(hX:zkZ cl (XL g))(b3:∀i,i<a->XL g i=true)(a6:∀m,A<=m->m<ops.size->XL g m=false)(hf:left ops.size g<=I)(hS:Sim w0 S0 (UX U base a A (XL g)) (zbD ops b (XL g) a ss st0) E ts sv w):wpAny C.P md ops Q I g {tmps:=ts,defers:=[]} w:=by
 have l:D.dst=some x.dst/\D.guard=none:=by unfold zri at y;split at y;{rename_i c d ho l c9;refine⟨?_,c9⟩;rw[l];congr 1;(repeat' (first|(split at y)|(cases y)));all_goals first|rfl|(simp only [qC,jS]at y;obtain⟨_,rfl⟩:=y;rfl)};{cases y}
 have S:∀{X Y:Nat->Bool} {i:Nat},(∀k,Y k=(X k||k==i))->∀n,UX U base a A X n->UX U base a A Y n:=by intro X Y i V n h;rcases h with h|⟨k,h0,p,r,h3⟩;{exact .inl h};{exact .inr ⟨k,h0,p,by rw[V,r];rfl,h3⟩}
 have a8:∀{X:Nat->Bool} (q:Key),(∀j∈cl.getD A [],X j=true)->(zfU (zbD ops b (fun _=>true) a ss st0) ops D zDW).reads q->(zbD ops b X a ss st0).get q=(zbD ops b (fun _=>true) a ss st0).get q:=by intro X q hr H;refine zrn ss a st0 st0 rfl rfl (fun k s' o' hk b9 a9 hw=>?_);obtain⟨o2,f',c0,r⟩:=F.at1 k s' hk;rw[b9]at c0;cases c0;have b1:X (a+k)=false:=(by cases h:X (a+k) with|false=>rfl|true=>exact absurd h a9);have hn:a+k∉cl.getD A []:=fun h=>(by rw[hr _ h]at b1;cases b1);exact((apart_spec (N k s' o' f' hk b9 r hn)).1 q ((zCj r q).1 hw)).1 H
 refine zSy (T:=A+1) (J:=fun X E ts w=>(X A=false->Sim w0 S0 (UX U base a A X) (zbD ops b X a ss st0) E ts sv w)/\
  (X A=true->∃v,ts[x.dst]?=some v/\Sim w0 S0 (UX U base a A X) ((zbD ops b X a ss st0).put D.dst (.v (.at .bad))) E ts sv w/\Late w0 (zbD ops b X a ss st0) E x v w)) W c4 c1 ?_ ?_ ?_
  I g E ts w d6 hX b3 (fun m p r=>a6 m (by omega) r) hf ⟨fun _=>hS,fun h=>(by rw[a6 A (qQ _) (by omega)]at h;cases h)⟩
 .intro X Y E ts w h hJ;have u:X A=Y A:=h A (by omega) (by omega)
  have e:=zro (ops:=ops) (b:=b) ss a st0 (X:=X) (Y:=Y) (fun k p r=>h k p (by omega))
  have hu:∀n,UX U base a A X n->UX U base a A Y n:=by rintro n (p|⟨k,h0,p,r,h3⟩);{exact .inl p};{exact .inr ⟨k,h0,p,by rw[<- h k h0 (by omega)];exact r,h3⟩}
  refine⟨fun G=>?_,fun G=>?_⟩
  .have:=hJ.1 (u.trans G);rw[e] at this;exact this.uses hu
  .obtain⟨v,p,r,h3⟩:=hJ.2 (u.trans G);rw[e]at r h3;exact⟨v,p,r.uses hu,h3⟩
 .intro X Y i hX hia hi hXi hr V E ts w hJ K hK
  by_cases d0:i=A
  .subst d0;have L:=hJ.1 hXi;have b2:zbD ops b Y a ss st0=zbD ops b X a ss st0:=zro ss a st0 (fun k p r=>by
    rw[V];have:(k==i)=false:=by simp;omega
    rw[this,u0])
   have c5:Agree (zbD ops b (fun _=>true) a ss st0) (zbD ops b X a ss st0) D.op.operands.toList :=
    z3C (by rw[zh5,zh5]) (fun t ht=>a8 (.tm t) hr (by simp only[Foot.reads,zfU];exact j9 _ ht)) (fun n hn=>a8 (.ro n) hr hn) (fun n hn=>a8 (.lo n) hr hn)
   have a2:=zV9 (C:=C) c5;rw[y]at a2;have c8:Dead (zbD ops b X a ss st0):=by subst c6;exact zzg ss a st0 (hd rfl).1 (hd rfl).2
   obtain⟨hg,c7,v,w',R,a7,hL⟩:=z4U hC L c8 a2;refine pure_run (d:=zDW) d5 hg R (hK E _ w' ⟨fun h=>(by rw[V]at h;simp at h),fun _=>⟨v,?_,?_,?_⟩⟩)
   .rw [c7];have d4:x.dst<ts.size:=by rw[L.tm.1,zou];rw[zou]at a5;exact a5
    simp[Act.put,d4]
   .rw [b2];exact a7.uses (S V)
   .rw [b2];exact hL
  .have hiA':i<A:=by omega
   have G:Y A=X A:=by rw[V];have:(A==i)=false:=(by simp;omega);rw[this,u0]
   cases u:X A with
   |false=>refine zPR hC hH hG hA F hX hia hiA' hXi hr hb hd hM V (hJ.1 u) (fun E' B w' a7=>hK E' B w' ⟨fun _=>a7,fun h=>(by rw[G,u]at h;cases h)⟩)
   |true=>
    obtain⟨v,hv,L,hL⟩:=hJ.2 u;obtain⟨j,rfl⟩:∃j,i=a+j:=⟨i-a,by omega⟩;obtain⟨s,hs⟩:∃s,ss[j]?=some s:=⟨_,qB (by omega)⟩;obtain⟨o,f,ho,p,r⟩:=zJ2 F hX hs hXi hr;have b8:a+j∉cl.getD A []:=fun h=>(by rw[hX A u _ h]at hXi;cases hXi);have O:zsl o=true:=(by have:=qN.1 d1 (a+j) (by simp;omega);simp only[ho,kG,jP,q9] at this;rcases this with h|h;{exact absurd h b8};{exact h});have a3:=apart_spec (N j s o f hs ho p b8);have c2:(zfU (zbD ops b (fun _=>true) a ss st0) ops D zDW).writes (.tm x.dst):=(by simp only[Foot.writes,zfU];exact l.1);have a9:∀q,f.reads q->q≠.tm x.dst:=fun q H e=>a3.2 (.tm x.dst) c2 (e ▸ H);have a4:o.dst≠some x.dst:=fun e=>(a3.1 (.tm x.dst) ((zCj p (.tm x.dst)).1 (by cases s<;>exact e))).2 c2;have a0:∀Z,(zbD ops b Z a ss st0).ep=st0.ep:=fun Z=>zh5 ss a st0;have M:=zSA (S':=(zbD ops b X a ss st0).put D.dst (.v (.at .bad))) p (by rw[a0,l.1];exact a0 X) (fun q H=>by rw[l.1,get_put (a9 q H)];exact r q H);have b4:o.guard=none:=by unfold zsl at O;simp only[qE,kA]at O;exact O.1
    cases s with
    |none=>exfalso;have:zdq ops o ((zbD ops b X a ss st0).put D.dst (.v (.at .bad)))=some false:=M;simp[zdq,b4] at this
    |some d=>
     obtain⟨_,d2,d3⟩:=M;obtain⟨_,v2,R,d7,b5,e1,e2,e3⟩:=zLK hC L O (zWg O d2) d3;have z:∀q,(zbD ops b Y a ss st0).get q=((zbD ops b X a ss st0).put o.dst d.v).get q:=(by intro q;rw[zTb F hX hs ho hXi V q];simp only[St.step,St.effD,e1,e2,List.map_nil,jT]);have c3:Sim w0 S0 (UX U base a A X) (((zbD ops b X a ss st0).put D.dst (.v (.at .bad))).put o.dst d.v) E (({tmps:=ts,defers:=[]}:Act).put o.dst v2).tmps sv w:=L.putV d7 b5;refine pure_run (d:=d) ho b4 R (hK E _ w ⟨fun h=>(by rw[G,u]at h;cases h),fun _=>⟨v,?_,?_,?_⟩⟩);{cases a1:o.dst with|none=>exact hv|some t=>exact zUN hv (fun e=>a4 (by rw[a1,e]))}
     .refine(c3.same (fun q=>?_) ?_ ?_).uses (S V)
      .rw [l.1];cases q with
       |tm t=>
        have hk:=z (.tm t);have b6:(zbD ops b Y a ss st0).tm.length=(zbD ops b X a ss st0).tm.length:=(by rw[zou,zou]);by_cases ht:t=x.dst;{subst ht;cases a1:o.dst with|none=>simp[St.get,St.put,jC,b6]|some t' =>have:t'≠x.dst:=fun e=>a4 (by rw[a1,e]);simp[St.get,St.put,jC,b6,this]}
        .have hne':x.dst≠t:=fun e=>ht e.symm;rw[get_put (by simpa using ht),hk]
         cases a1:o.dst with
         |none=>simp[St.get,St.put,jC,hne']
         |some t' =>simp only[St.get,St.put,jC,List.length_set];split;{rfl};{first|rfl|rw[if_neg hne']}
       |ro n=>have hk:=z (.ro n);rw[get_put (by simp),hk];cases o.dst<;>rfl
       |lo n=>have hk:=z (.lo n);rw[get_put (by simp),hk];cases o.dst<;>rfl
      {rw [l.1];have p:(zbD ops b Y a ss st0).stk=(zbD ops b X a ss st0).stk:=(by rw[zr6,zr6]);cases o.dst<;>exact p};{rw [l.1];have p:(zbD ops b Y a ss st0).ep=(zbD ops b X a ss st0).ep:=(by rw[zh5,zh5]);cases o.dst<;>exact p}
     .have hro:∀n,zl (zbD ops b Y a ss st0).ro n=zl (zbD ops b X a ss st0).ro n:=fun n=>(by rw[zCH (z (.ro n))];cases o.dst<;>rfl);have b7:∀n,zl (zbD ops b Y a ss st0).lo n=zl (zbD ops b X a ss st0).lo n:=fun n=>by rw[zJ3 (z (.lo n))];cases o.dst<;>rfl
      exact hL.states (fun n=>by
       unfold St.root;rw[hro n,a0 Y,a0 X]) b7
 .intro fl l' E' B w' hsz' hl' hf' hJ;obtain⟨v,p,r,h3⟩:=hJ.2 rfl;refine b0 fl l' E' B w' v hsz' hl' hf' p r (h3.states (fun n=>?_) (fun n=>?_))
  .rw [l.1];rfl
  .rw [l.1];rfl
def VV (U:Nat->Prop)(base a m n:Nat):Prop:=U n\/(base<=n/\n<base+32*m)\/base+32*a<=n
def zxV (N:CfgOk C)(W:Waits md ops cl){x:App}{kk:Nat->List Bool->St->Option Ans}{s:Ans}{Q:Exit->Act->World->Prop}(B:∀(H:Nat) (r':List Bool) (L:Nat->Prop) (j:St) (K:Env) (I:LV) (J:World) (u:Nat) (p:Array Bool),r'=(zia ops.size cl).drop H->H<=ops.size->p.size=ops.size->(∀i,i<ops.size->p.getD i true=decide (i<H))->left ops.size p<=u->
 Sim w0 S0 L j K I sv J->(∀n,L n->VV U base ops.size H n)->(∀n,j.nid<=n->¬ L n)->base+32*ops.size<=j.nid->kk H r' j=some s->wpAny C.P md ops Q u p {tmps:=I,defers:=[]} J) :
 ∀(l:List Bool) (m:Nat) (V:Nat->Prop) (st:St) (E:Env) (ts:LV) (w:World) (b:Nat) (a:Array Bool) (v:Value),l=(zia ops.size cl).drop m->m<=ops.size->a.size=ops.size->(∀i,i<ops.size->a.getD i true=decide (i<m))->left ops.size a<=b->
  Sim w0 S0 V st E ts sv w->(∀n,V n->VV U base ops.size m n)->(∀n,st.nid<=n->¬ V n)->base+32*ops.size<=st.nid->ts[x.dst]?=some v->Late w0 st E x v w->zqC C ops base x kk l m st=some s->wpAny C.P md ops Q b a {tmps:=ts,defers:=[]} w
 |[],m,V,st,E,ts,w,b,a,v,_,_,_,_,_,_,_,_,_,_,_,h=>by simp[zqC]at h
 |false::r,m,V,st,E,ts,w,b,a,v,_,_,_,_,_,_,_,_,_,_,_,h=>by simp[zqC]at h
 |true::r,m,V,st,E,ts,w,b,a,v,hp,hm,Y,hl,hf,O,hV,hF,hn,Z,hL,h=>by
  simp only[zqC]at h;obtain⟨T,F,hr⟩:=zsj hp;have y:∀n,V n->VV U base ops.size (m+1) n:=(by rintro n g;rcases hV n g with h|⟨M,h2⟩|h;{exact .inl h};{exact .inr (.inl ⟨M,by omega⟩)};{exact .inr (.inr h)});refine zX2 W Y T (zwW F.symm) hl hf (λu p k D z _ _=>?_);split at h;{cases h}
  .rename_i o ho;split at h
   .rename_i c st2 hst;cases q:c with
    |false=>rw[q]at h;cases h
    |true=>rw[q]at h hst;simp only[cond_true,zDH]at h;obtain⟨hg,S,a1⟩:=zZu (id:=base+32*m) N O hL Z hst;unfold wpOp;simp only[ho];rw[if_pos (by simp[Region.wanted,hg])];refine .inl (S _ _ λK v' J R=>?_);rw[zju];refine B (m+1) r _ _ K _ J u p hr (by omega) k D z R ?_ ?_ (by rw[zf9];omega) h;{rintro n (h|⟨M,h2⟩);{exact y n h};{exact .inr (.inl ⟨by omega,by omega⟩)}};{rintro n g (h|⟨M,h2⟩);{exact hF n (by rw[zf9]at g;omega) h};{rw [zf9]at g;omega}}
   {split at h;{rename_i f;simp only[qE,jH,beq_eq_false_iff_ne]at f;split at h;{rename_i d hd;cases q:d.c with|false=>rw[q]at h;cases h|true=>rw[q]at h;simp only[cond_true]at h;obtain⟨hg,v2,G,a0,A,e1,e2,e3⟩:=zLK N O f.1 hd q;have he:st.apply o.dst d=st.put o.dst d.v:=(by simp[St.apply,e1,e2,e3]);rw[he]at h;refine pure_run (d:=d) ho hg G ?_;refine zxV N W B r (m+1) V _ E _ w u p v hr (by omega) k D z (O.putV a0 A) y (by rw[zf9];exact hF) (by rw[zf9];exact hn) ?_ (hL.states (λn=>?_) λn=>?_) h;{cases X:o.dst with|none=>exact Z|some t=>exact zUN Z (λe=>f.2 (by rw[X,e]))};{cases o.dst<;>rfl};{cases o.dst<;>rfl}};{cases h}};{cases h}}
def znE (hC:CfgOk C)(hH:CtrOk C)(hG:GraftOk C)(hN:NameOk C){a1:zhs}(u:ztM C a1)(W:Waits md ops cl){k:St->Option Ans}{b1:Ans}{Q:Exit->Act->World->Prop}(N:∀n,base<=n->¬ U n)(hk:∀(U':Nat->Prop) (d:St) (E':Env) (B:LV) (w':World),Sim w0 S0 U' d E' B sv w'->(∀n,U' n->VV U base ops.size ops.size n)->base+32*ops.size<=d.nid->(∀n,d.nid<=n->¬ U' n)->k d=some b1->Q .normal {tmps:=B,defers:=[]} w') :
 ∀(fs m:Nat) (Y:List Bool) (V:Nat->Prop) (st:St) (E:Env) (ts:LV) (w:World) (l:Nat) (c:Array Bool),Y=(zia ops.size cl).drop m->m<=ops.size->c.size=ops.size->(∀i,i<ops.size->c.getD i true=decide (i<m))->left ops.size c<=l->
  Sim w0 S0 V st E ts sv w->(∀n,V n->VV U base ops.size m n)->(∀n,st.nid<=n->¬ V n)->base+32*ops.size<=st.nid->zk2 C a1 ops cl base k fs m Y st=some b1->wpAny C.P md ops Q l c {tmps:=ts,defers:=[]} w
 | 0,m,Y,V,st,E,ts,w,l,c,_,_,_,_,_,_,_,_,_,h=>by simp[zk2]at h
 |fs+1,m,[],V,st,E,ts,w,l,c,hp,hm,G,hl,hf,hS,hV,hF,hn,h=>by simp only[zk2]at h;have a8:=zUJ hp;have e:m=ops.size:=(by omega);subst e;exact z5d (λi hi=>by rw[hl i hi];simp[hi]) (hk V st E ts w hS hV hn hF h)
 |fs+1,m,true::r,V,st,E,ts,w,l,c,hp,hm,G,hl,hf,hS,hV,hF,hn,h=>by
  simp only[zk2]at h;obtain⟨a8,b8,hr⟩:=zsj hp;refine zX2 W G a8 (zwW b8.symm) hl hf (λfl l' A X S _ _=>?_)
  let Q':Exit->Act->World->Prop:=λe a w=>match e with
   |.normal=>wpAny C.P md ops Q fl l' a w
   |e=>Q e a w
  have hQ:∀e,e≠Exit.normal->∀a w,Q' e a w->Q e a w:=by intro e he a w h;cases e<;>first|exact absurd rfl he|exact h
  refine z0D hQ ?_;have c0:=zoU (Q:=Q') hC hH hG hN u (ops:=ops) (base:=base) (V:=VV U base ops.size (m+1)) (nid0:=base+32*ops.size) (λn p=>.inr (.inr p))
   (λU' d E' B w' M c7 p c6 h'=>znE hC hH hG hN u W N hk fs (m+1) r U' d E' B w' fl l' hr (by omega) A X S M c7 c6 p h')
   [m] V st E ts w hS ?_ hF ?_ (by simp) hn ?_ h
  {rw [wpOps_cons] at c0;exact wpOp_mono (λa w h=>h) c0};{rintro n p;rcases hV n p with h|⟨t,D⟩|h;{exact .inl h};{exact .inr (.inl ⟨t,by omega⟩)};{exact .inr (.inr h)}};{intro j hj n d2;simp only[qD]at hj;subst hj;obtain⟨Z,g2⟩:=d2;refine⟨λp=>?_,.inr<|.inl ⟨by omega,by omega⟩⟩;rcases hV n p with h|⟨t,D⟩|h;{exact N n (by omega) h};{omega};{omega}};{intro j hj;simp only[qD]at hj;subst hj;omega}
 |fs+1,m,false::r,V,st,E,ts,w,l,c,hp,hm,G,hl,hf,hS,hV,hF,hn,h=>by
  simp only[zk2]at h;obtain⟨a8,_,hr⟩:=zsj hp;obtain⟨b6,a2,a3⟩:=zQg r (m+1) (by omega) hr;generalize b5:(List.range' m<|zcn r+1).any (zlO C ops)=b at h;have H:Sim w0 S0 V {st with ep:=if b then st.ep+1 else st.ep} E ts sv w:=hS.blind b st.nid;have z:({st with ep:=if b then st.ep+1 else st.ep}:St).nid=st.nid:=rfl
  have a0:b=true->Dead ({st with ep:=if b then st.ep+1 else st.ep}:St)/\0<({st with ep:=if b then st.ep+1 else st.ep}:St).ep:=by
   intro hb;subst hb;refine⟨λn R e hR he=>?_,by simp⟩
   have:=hS.mem.epo n R e hR he;simp only[if_true];omega
  have b4:b=false->∀k,m<=k->k<m+1+zcn r->zlO C ops k=false:=(by intro hb k d9 e0;rw[hb]at b5;have:=kR.1 b5 k (by simp;omega);simpa using this);have hM:∀k,m<=k->k<m+1+zcn r->∀n,Mine (base+32*k) n->¬ V n:=by intro k t D n p hv;have Z:=p.1;have g2:=p.2;rcases hV n hv with h|⟨h3,h4⟩|h;{exact N n (by omega) h};{omega};{omega}
  have a5:∀(ss:List Step) (st0:St),zbD ops b (XL c) m ss st0=st0:=λss st0=>zvz ss m st0 (λk hk=>by
   rcases u4 k ops.size with h|h
   .rw [ztf (by omega),hl k h];simp;omega
   .simp [XL,uW (show c.size<=k by omega)])
  have b3:∀{T:Nat},T<=m+(zcn r+1)->∀n,UX V base m T (λ_=>true) n->VV U base ops.size (m+(zcn r+1)) n:=(by rintro T hT n (h|⟨k,h0,t,_,h3⟩);{rcases hV n h with h|⟨t,D⟩|h;{exact .inl h};{exact .inr (.inl ⟨t,by omega⟩)};{exact .inr (.inr h)}};{have Z:=h3.1;have g2:=h3.2;exact .inr (.inl ⟨by omega,by omega⟩)});have b2:∀{T:Nat},T<=m+(zcn r+1)->∀n,st.nid<=n->¬ UX V base m T (λ_=>true) n:=(by rintro T hT n p (h|⟨k,h0,t,_,h3⟩);{exact hF n (by omega) h};{have:=h3.2;omega});have b7:∀{gs:List (Nat×Foot)} {ss:List Step} {st0 d:St},(∀x∈gs,∀y∈gs,(¬ x.1<y.1\/x.1∈cl.getD y.1 [])\/x.2.apart y.2=true)->Trace C ops b base m ss gs st0 d->Free C ops cl b base m ss st0:=(by intro gs ss st0 d g q;have O:=zVR q;refine⟨λi s hs=>?_,λi k s s' o o' f f' hs d4 ho d3 t D d8 a9=>?_⟩;{obtain⟨o,f,Z,g2,g3⟩:=O i s hs;exact⟨o,f,Z,g3⟩};{obtain⟨o1,f1,Z,g2,g3⟩:=O i s hs;obtain⟨o2,f2,e1,e2,e3⟩:=O k s' d4;rw[ho] at Z;cases Z;rw[d3] at e1;cases e1;have a6:=zHa t g3;have d1:=zHa D e3;subst a6 d1;rcases g _ g2 _ e2 with (h|h)|h;{exact absurd (by show m+i<m+k;omega) h};{exact absurd h a9};{exact h}});have J:∀i,i<m->XL c i=true:=λi hi=>(by rw[ztf (by omega),hl i (by omega)];simp[hi]);have I:∀k,m<=k->k<ops.size->XL c k=false:=λk t D=>(by rw[ztf (by omega),hl k D];simp;omega);rcases zsA (zcn r+1) m [] _ h with⟨ss,gs,d,a4,q,g,K⟩|⟨ss,gs,d,oA,x,a4,q,b0,c8,c9,a7,d5,g,K⟩|⟨ss,gs,d,oA,a4,q,b0,d0,a7,e4,g,K⟩;{rw [jA]at g;unfold zoq at g;simp only[jH,qN,kG,decide_eq_false_iff_not,jP,q9,List.mem_reverse]at g;generalize b9:({st with ep:=if b then st.ep+1 else st.ep}:St)=st0 at q H z a0;have L:d=zbD ops b (λ_=>true) m ss st0:=zQs q;refine z4I (w0:=w0) (S0:=S0) (sv:=sv) hC hH hG W (T:=m+1+zcn r) (by omega) b6 a3 (b7 g q) b4 a0 hM (λfl l' E' B w' A X S M=>?_) l c E ts w G (zsE W G hl) J (λk t D=>I k (by omega) D) hf ?_;{rw [<- L]at M;have F:d.nid=st.nid:=(by rw[L,zCF,z]);exact znE hC hH hG hN u W N hk fs (m+(zcn r+1)) (r.drop<|zcn r) _ d E' B w' fl l' (by rw[a2];congr 1;omega) (by omega) A (λi hi=>by rw[X i hi];congr 1;simp only[eq_iff_iff];omega) S M (b3 (by omega)) (by rw[F];exact b2 (by omega)) (by omega) K};{rw [a5];exact H.uses (λn h=>.inl h)}}
  .rw [jA]at g;unfold zoq at g;simp only[jH,qN,kG,decide_eq_false_iff_not,jP,q9,qG,List.mem_reverse]at g;generalize b9:({st with ep:=if b then st.ep+1 else st.ep}:St)=st0 at q H z a0;have L:d=zbD ops b (λ_=>true) m ss st0:=zQs q;subst L;have hA:m+ss.length=m+zcn r:=by omega
   rw[hA]at b0 a7 g;have O:=zVR q;refine z4R (w0:=w0) (S0:=S0) (sv:=sv) hC hH hG W hA (by omega) (λh=>by
    have e:m+zcn r+1=m+1+zcn r:=by omega
    rw[e]at h ⊢;exact a3 h) (b7 (λx hx y hy=>g x (.inr hx) y (.inr hy)) q) (λhb k t D=>b4 hb k t (by omega)) c9 a0 (λk t D=>hM k t (by omega)) b0 c8 a7 d5 (λi s o f hs ho t a9=>?_)
    (λfl l' E' B w' v A X S hv M hL=>?_) l c E ts w G (zsE W G hl) J (λk t D=>I k (by omega) D) hf ?_
   {obtain⟨o1,f1,Z,g2,g3⟩:=O i s hs;rw[ho] at Z;cases Z;have a6:=zHa t g3;subst a6;have hi:i<ss.length:=(qA.1 hs).1;rcases g _ (.inr g2) _ (.inl rfl) with (h|h)|h;{exact absurd (by show m+i<m+zcn r;omega) h};{exact absurd h a9};{exact h}}
   .have F:((zbD ops b (λ_=>true) m ss st0).put oA.dst (.v<|.at .bad)).nid=st.nid:=by rw[zf9,zCF,z]
    exact zxV hC W (λm' r' U' c1 c3 c2 d7 c4 d6 t D h3 h4 h5 h6 h7 h8 h9 c5=>znE hC hH hG hN u W N hk fs m' r' U' c1 c3 c2 d7 c4 d6 t D h3 h4 h5 h6 h7 h8 h9 c5)
     (r.drop<|zcn r) (m+(zcn r+1)) _ _ E' B w' fl l' v (by rw[a2];congr 1;omega) (by omega) A (λi hi=>by rw[X i hi];congr 1) S M (b3 (by omega)) (by rw[F];exact b2 (by omega)) (by omega) hv hL K
   {rw [a5];exact H.uses (λn h=>.inl h)}
  {exact Bool.noConfusion (show false=true from d0)}
def z8C (Z:CfgOk C)(hH:CtrOk C)(hG:GraftOk C)(hN:NameOk C):DrawOk C:=by
 refine⟨λN g ops k X Q w0 S0 sv U0 S U st E ts w hk hS hU O hn h t=>?_⟩;unfold zHt at h;simp only at h;generalize I:ziC ops (List.range ops.size) []=cl at h;split at h;(case isFalse=>cases h);rename_i j;unfold z1E at j;simp only[qE,qN,kN,q9]at j;obtain⟨a,s⟩:=j;have d:∀i,i<ops.size->cl.getD i []=waits ops (cl.take i) i:=λi r=>(by rw[<- I];exact zYG r);have f:∀(md:Region.Mode) (c:Nat->Nat),zOu md ops c=true->∃c:Nat->Nat,∀(i:Nat) (o:Oper),ops[i]?=some o->∀e∈o.after,Region.binds md e=true->e.on<ops.size/\c e.on<c i:=by intro md c h;refine⟨c,λi o v e J H=>?_⟩;have:=qN.1 h i (kN.2 (qL.1 v).1);rw[v] at this;have:=qN.1 this e (by simpa using J);simpa [H] using this
 have p:∀(md:Region.Mode),(∀e,Region.binds .any e=true->Region.binds md e=true)->(∃c:Nat->Nat,∀(i:Nat) (o:Oper),ops[i]?=some o->∀e∈o.after,Region.binds md e=true->e.on<ops.size/\c e.on<c i)->Waits md ops cl :=
  λmd y A=>⟨d,s,y,A⟩
 have m:∀e,Region.binds .any e=true->Region.binds .text e=true:=λe h=>(by unfold Region.binds at *;cases hg:e.ground<;>rw [hg]at h<;>simp at h ⊢);have l:∀e,Region.binds .any e=true->Region.binds .gc e=true:=λe h=>by unfold Region.binds at *;cases hg:e.ground<;>rw [hg]at h<;>simp at h ⊢
 have b:∃md L,Region.schedule (C.P.follows .mixedOrders) ops t=Region.linearise md ops L/\Waits md ops cl:=by
  have q:Waits .any ops cl:=p .any (λ_ h=>h) ⟨λi=>i,λi o v e J H=>by
   have y:=z8E d v J H;have r:=(qL.1 v).1;have A:=s i r _ y;exact⟨by omega,A⟩⟩
  unfold Region.schedule;by_cases z:(C.P.follows .mixedOrders || !Region.departs ops)=true;{rw [if_pos z];exact⟨.any,t,rfl,q⟩};{rw [if_neg z];have hd:Region.departs ops=true:=(by cases h:Region.departs ops with|true=>rfl|false=>rw[h]at z;simp at z);rw[hd,cond_true,qE]at a;by_cases R:(t % 2==0)=true;{rw [if_pos R];exact⟨.text,t / 2,rfl,p .text m<|f .text _ a.1⟩};{rw [if_neg R];exact⟨.gc,t / 2,rfl,p .gc l<|f .gc _ a.2⟩}}
 obtain⟨md,L,x,W⟩:=b;rw[x];refine wpAny_sound ops.size L _ _ _ ?_;have F:Sim w0 S0 U {st with nid:=st.nid+32*ops.size} E ts sv {w with drawn:=w.drawn+1}:=(hS.nid _).heap (w':={w with drawn:=w.drawn+1}) rfl rfl rfl rfl;refine znE Z hH hG hN g W O (λV K T M w' D G u B Y=>hk V K T M w' D ?_ (by omega) B Y) (ops.size+1) 0 (zia ops.size cl) U _ E ts _ ops.size _ rfl (by omega) (by simp) (λi r=>by simp[r]) ?_ F (λn h=>.inl h) ?_ (qQ _) h;{intro n h;rcases G n h with h|⟨y,_⟩|h;{exact hU n h};{exact .inr (by omega)};{exact .inr (by omega)}};{unfold left;exact qU (List.countP_le_length) (by simp)};{intro n u h;exact O n (qU (uJ _ _) u) h}
end
section
variable {P:Program}
def zV2:Value->CTy->Bool
 |.int k n,.i a=>k==a&&n==0
 |.bool b,.b=>!b
 |.slice none 0 0,.s _=>true
 |_,_=>false
def zz7:List Value->List CTy->Bool
 |[],[]=>true
 |v::vs,t::ts=>zV2 v t&&zz7 vs ts
 |_,_=>false
def z3A {v:Value}{t:CTy}(h:zV2 v t=true):v=zeroV t:=by unfold zV2 at h;split at h;{simp only [qE,qJ]at h;obtain⟨rfl,rfl⟩:=h;rfl};{simp only [jH]at h;subst h;rfl};{rfl};{cases h}
def zG4:∀{b:List Value} {a:List CTy},zz7 b a=true->b=a.map zeroV
 |[],[],_=>rfl
 |v::b,t::a,h=>by simp only[zz7,qE]at h;rw[jF,z3A h.1,zG4 h.2]
 |[],_::_,h=>by cases h
 |_::_,[],h=>by cases h
def zCV (P:Program)(T:TypeId)(a:List CTy):Bool :=
 match P.info? T with
 |some i=>i.size==a.length&&(match i.zero with
  |some z=>zz7 z.cells.toList a
  |none=>false)
 |none=>false
def zCW {T:TypeId}{a:List CTy}(h:zCV P T a=true):∃i z,P.info? T=some i/\i.size=a.length/\i.zero=some z/\z.cells.toList=a.map zeroV:=by unfold zCV at h;split at h;{rename_i i d;simp only[qE,qJ]at h;obtain⟨c,b⟩:=h;split at b;{rename_i z e;exact⟨i,z,d,c,e,zG4 b⟩};{cases b}};{cases h}
def zoR (P:Program)(T:TypeId):Bool :=
 (match zcE P 4 T with
  |some (b,a)=>zCV P T a&&(!b||(match P.underlying T with
   |some (.struct c)=>(c.toList.mapM λf=>(P.info? f.type).map λi=>(f.offset,i.size)).isSome
   |_=>false))
  |none=>true) &&
 (match P.underlying T with
  |some (.slice e)=>match zl zSl e with
   |some t=>zCV P e t.shape&&(match P.info? e with
    |some i=>decide (i.bytes<=1024)
    |none=>false)&&(match zcE P 4 e with
    |some (_,a)=>decide (a=t.shape)
    |none=>false)
   |none=>true
  |_=>true)
def zvx (P:Program):List Field->Nat->List CTy->Bool
 |[],_,[]=>true
 |f::fs,a,ty::tys=>f.name != "_" && f.offset==a&&(match P.underlying f.type,ty with
  |some (.int k),.i c=>k==c
  |some .bool,.b=>true
  |_,_=>false)&&zvx P fs (a+1) tys
 |_,_,_=>false
def zR8 (P:Program)(T:TypeId):Bool :=
 match zcE P 4 T with
 |some (true,a)=>!P.stoodInHeld T && !P.eqGuardType P.depth T&&(match P.underlying T with
  |some (.struct b)=>zvx P b.toList 0 a
  |_=>false)
 |_=>true
def zR5 {n:Nat}{T:TypeId}{a:Bool}{c:List CTy}(h:zcE P n T=some (a,c)) :
 (∃d,P.underlying T=some d/\zTv d=a/\(∀k,c=[.i k]->a=false->d = .int k)/\(c=[.b]->a=false->d = .bool))/\(a=false->c.length=1):=by
 cases n with
 |zero=>cases h
 |succ n=>simp only[zcE]at h;split at h;{rename_i k f;cases h;exact⟨⟨_,f,rfl,λg h _=>by simp only[List.cons.injEq,CTy.i.injEq,and_true]at h;rw[h],λh=>by simp at h⟩,λ_=>rfl⟩};{rename_i f;cases h;exact⟨⟨_,f,rfl,λg h=>by simp at h,λ_ _=>rfl⟩,λ_=>rfl⟩};{rename_i e f;split at h;{cases h;exact⟨⟨_,f,rfl,λg h=>by simp at h,λh=>by simp at h⟩,λ_=>rfl⟩};{cases h}};{rename_i j f;split at h;{cases h;exact⟨⟨_,f,rfl,λg _ h=>(by cases h),λ_ h=>(by cases h)⟩,λh=>by cases h⟩};{cases h}};{cases h}
def zJI {b:Type}{T:Nat}{x:Option b}{y:b}(h:below T x=some y):T<zgR/\x=some y:=by unfold below at h;cases a:Nat.blt T zgR with|false=>rw[a]at h;cases h|true=>rw[a]at h;exact⟨by rwa [vI]at a,h⟩
def mapM_at {e f:Type}{g:e->Option f}:∀{l:List e} {m:List f},l.mapM g=some m->∀{k:Nat} {x:e},l[k]?=some x->m[k]?=g x
 |[],m,h,k,x,c=>by simp at c
 |a::l,m,h,k,x,c=>by simp only[vC,Option.bind_eq_bind,uT,Option.pure_def,qC]at h;obtain⟨b,i,j,d,rfl⟩:=h;cases k with|zero=>simp only[qI,qC]at c;subst c;rw[i];rfl|succ k=>exact mapM_at d (by simpa using c)
def zhK {e i:Type}{f:e->Option i}{a:e}{l:List e}{g:List i}(h:zce f (a::l)=some g):∃b c,f a=some b/\zce f l=some c/\g=b::c:=by simp only[zce]at h;split at h;{rename_i b j;split at h;{rename_i c d;cases h;exact⟨b,c,j,d,rfl⟩};{cases h}};{cases h}
def zGi (w:World)(d:Nat)(v z:LV):∀(W:List Field) (g:Nat) (p:List CTy) (l m:List At) (e:Bool),zvx P W g p=true->zce zoP l=some p->zce zoP m=some p->zvk l m=some e->
 v.size=g+l.length->z.size=g+m.length->(∀(j:Nat) (a:At) (u:Value),l[j]?=some a->v[g+j]?=some u->VS a u)->(∀(j:Nat) (a:At) (u:Value),m[j]?=some a->z[g+j]?=some u->VS a u)->
 (Op.eqFields (d+1) v z W).run P w = .ok e w
 |[],g,p,l,m,e,R,X,Y,A,_,_,_,_=>by cases p with|cons t ts=>cases R|nil=>(cases l with|cons a l=>obtain⟨_,_,_,_,h⟩:=zhK X;cases h|nil=>(cases m with|cons a m=>obtain⟨_,_,_,_,h⟩:=zhK Y;cases h|nil=>cases A;simp[Op.eqFields]))
 |f::W,g,p,l,m,e,R,X,Y,A,q,r,hx,hy=>by
  cases p with
  |nil=>cases R
  |cons ty p=>
   cases l with
   |nil=>cases X
   |cons a l=>
    cases m with
    |nil=>cases Y
    |cons c m=>
     obtain⟨ta,a6,O,E,h⟩:=zhK X;cases h;obtain⟨tc,a5,K,F,h⟩:=zhK Y;cases h;simp only[zvx,qE,bne_iff_ne,ne_eq,qJ]at R;obtain⟨⟨⟨hn,S⟩,B⟩,G⟩:=R;have I:v[g]?=some (v[g]'(by simp only[qW]at q;omega)):=(by simp);have J:z[g]?=some (z[g]'(by simp only[qW]at r;omega)):=by simp
     have T:=hx 0 a _ rfl I;have U:=hy 0 c _ rfl J;have H:∃L,zSB a c=some L/\(part f.type v f.offset).run P w = .ok (v[g]'(by simp only[qW]at q;omega)) w/\(part f.type z f.offset).run P w = .ok (z[g]'(by simp only[qW]at r;omega)) w/\
      (Op.equalIn (d+1) f.type (v[g]'(by simp only[qW]at q;omega))<|z[g]'(by simp only[qW]at r;omega)).run P w = .ok L w:=by
      rw[S];cases a with
      |i k n=>
       simp only[zoP,qC]at O;subst O;cases c with
       |i k' n' =>
        simp only[zoP,qC,CTy.i.injEq]at K;subst K;cases s:P.underlying f.type with
        |none=>rw[s]at B;cases B
        |some D=>
         rw[s]at B;cases D<;>first|(cases B;done)|skip;refine⟨ieq n n',by simp[zSB],by simp[part,isAgg,run_underlying s,I],by simp[part,isAgg,run_underlying s,J],?_⟩;rw[show v[g]'(by simp only[qW]at q;omega) = .int k' n from T,show z[g]'(by simp only[qW]at r;omega) = .int k' n' from U];exact run_equalIn_int w d f.type k' _ n n' s
       |b _=>simp[zoP]at K
       |_=>simp[zoP]at K
      |b x=>
       simp only[zoP,qC]at O;subst O;cases c with
       |b x' =>
        cases s:P.underlying f.type with
        |none=>rw[s]at B;cases B
        |some D=>
         rw[s]at B;cases D<;>first|(cases B;done)|skip;refine⟨zhh x x',by simp[zSB],by simp[part,isAgg,run_underlying s,I],by simp[part,isAgg,run_underlying s,J],?_⟩;rw[show v[g]'(by simp only[qW]at q;omega) = .bool x from T,show z[g]'(by simp only[qW]at r;omega) = .bool x' from U];exact run_equalIn_bool' w d f.type x x' s
       |i _ _=>simp[zoP]at K
       |_=>simp[zoP]at K
      |_=>simp[zoP]at O
     obtain⟨L,Q,a3,a4,a1⟩:=H;have C:∃V,zvk l m=some V/\e=(L&&V):=by cases l with|nil=>cases E;(cases m with|nil=>simp only[zvk,Q,qC]at A;exact⟨true,rfl,by rw[<- A];simp⟩|cons c2 m=>obtain⟨_,_,_,_,h⟩:=zhK F;cases h)|cons a2 l=>(cases m with|nil=>cases F;obtain⟨_,_,_,_,h⟩:=zhK E;cases h|cons c2 m=>simp only[zvk,Q]at A;split at A;{rename_i x y M N;cases M;cases A;exact⟨y,by simpa [zvk] using N,rfl⟩};{cases A})
     obtain⟨V,a0,rfl⟩:=C;have ih:=zGi w d v z W (g+1) p l m V G E F a0 (by simp only[qW]at q;omega) (by simp only[qW]at r;omega)
      (λj Z u M N=>hx (j+1) Z u (by simpa using M) (by rw[<- N];congr 1;omega)) (λj Z u M N=>hy (j+1) Z u (by simpa using M) (by rw[<- N];congr 1;omega))
     simp only[Op.eqFields,ne_eq,hn,not_false_eq_true,if_true,Sem.run_bind,a3,a4,Result.andThen_ok,a1,Sem.run_ite,ih];cases L<;>simp
def z3L {C:Cfg}(W:C.P=P)(hs:∀T,C.sty T=below T (zwx P T))(X:∀T,C.cty T=below T (zcE P 4 T))(Q:∀T f,C.fof T f=zt5 P T f)(B:(List.range zgR).all (zoR P)=true)(J:∀T,C.eqt T=true->T<zgR->zR8 P T=true):CfgOk C:=by subst W;have v:∀T,T<zgR->zoR C.P T=true:=λT r=>qN.1 B T (kN.2 r);have k:∀T g c,C.cty T=some (g,c)->T<zgR/\zcE C.P 4 T=some (g,c):=λT g c h=>zJI (by rw[<- X];exact h);refine⟨λT g c h=>?_,λT t h=>?_,λT f N n h=>?_,λT c h=>?_,λT c Y h l m e G H w x y op Z hm hq E F=>?_⟩;{obtain⟨r,h⟩:=k T g c h;obtain⟨q,d⟩:=zR5 h;have:=v T r;unfold zoR at this;rw[h] at this;simp only[qE] at this;exact⟨q,zCW this.1.1,d⟩};{rw [hs]at h;obtain⟨r,h⟩:=zJI h;unfold zwx at h;split at h;{rename_i e p;have:=v T r;unfold zoR at this;rw[p] at this;simp only[h,qE] at this;obtain⟨_,⟨q,d⟩,_⟩:=this;obtain⟨i,z,O,S,U,V⟩:=zCW q;rw[O]at d;exact⟨e,p,i,z,O,by rw[S,zeJ],U,V,by simpa using d⟩};{cases h}};{rw [Q]at h;unfold zt5 at h;split at h;{rename_i A p;split at h;{rename_i x M;split at h;{rename_i i K;split at h;{cases h};{rename_i L;cases h;exact⟨A,x,i,p,M,rfl,K,rfl,L⟩}};{cases h}};{cases h}};{cases h}};{obtain⟨r,h⟩:=k T true c h;have:=v T r;unfold zoR at this;rw[h] at this;simp only[qE,kG,vF,kH,false_or] at this;obtain⟨⟨_,d⟩,_⟩:=this;split at d;{rename_i A p;obtain⟨s,R⟩:=uR.1 d;refine⟨A,s,p,R,λf N n b=>?_⟩;rw[Q]at b;unfold zt5 at b;rw[p]at b;simp only at b;split at b;{rename_i x M;split at b;{rename_i i K;split at b;{cases b};{cases b;rw[mapM_at R (by simpa using M),K];rfl}};{cases b}};{cases b}};{cases d}};{obtain⟨r,h⟩:=k T true c h;have:=J T Y r;unfold zR8 at this;rw[h] at this;simp only[qE,jH] at this;obtain⟨⟨q,d⟩,I⟩:=this;split at I;{rename_i A p;have D:C.P.fieldsOf T=A:=(by simp[Program.fieldsOf,p]);refine⟨run_eqGuard_agg w op T x y G H d,?_⟩;show (Op.equalIn (9999+1) T (.agg G)<|.agg H).run C.P w=_;rw[run_equalIn_struct w 9999 T G H (by rw[D];exact p) q,D];exact zGi w 9998 G H A.toList 0 c l m e I Z hm hq (by rw[E.1];omega) (by rw[F.1];omega) (λj a u q d=>E.2 j a u q (by simpa using d)) (λj a u q d=>F.2 j a u q (by simpa using d))};{cases I}}
end
inductive CVOk:CV->Prop
 |i (k:IntKind) (n:Int) (h:k.min<=n/\n<=k.max):CVOk (.i k n)
 |b (x:Bool):CVOk (.b x)
 |s (t:Ty) (l:List t.den) (hl:l.length<=big) (h:∀(i:Nat) (x:t.den),l[i]?=some x->∀(j:Nat) (c:CV),(t.cells x)[j]?=some c->CVOk c):CVOk (.s t l)
section
variable {P:Program}
def zx0 (P:Program)(b:Nat):List Field->Nat->Bool
 |[],a=>a==b
 |f::fs,a=>f.offset==a&&Nat.blt f.type zgR&&zx0 P b fs (a+P.cellsOf f.type)
def zy6 (P:Program)(T:TypeId):Bool :=
 match P.underlying T with
 |some (.struct a)=>match zcE P 4 T with
  |some _=>zx0 P (P.cellsOf T) a.toList 0
  |none=>true
 |some (.slice e)=>match zl zSl e with
  |some _=>Nat.blt e zgR&&Nat.ble 1 (P.bytesOf e)
  |none=>true
 |_=>true
def zGy {e i:Type}{f g:e->Option i}(c:∀x y,f x=some y->g x=some y):∀{l:List e} {d:List i},zce f l=some d->zce g l=some d
 |[],_,h=>h
 |a::l,d,h=>by obtain⟨b,j,k,m,rfl⟩:=zhK h;simp only[zce,c a b k,zGy c m]
def zyI:∀{n:Nat} {T:TypeId} {x:Bool×List CTy},zcE P n T=some x->zcE P (n+1) T=some x
 | 0,_,_,h=>by cases h
 |n+1,T,x,h=>by rw[zcE]at h;rw[zcE];split at h;{exact h};{exact h};{exact h};{rename_i d e;split at h;{rename_i l b;rw[zGy (f:=_) (g:=_) ?_ b];{exact h};{intro f y a;split at a;{rename_i z c;cases a;rw[zyI c]};{cases a}}};{cases h}};{cases h}
def zWb {T:TypeId}{a:List CTy}(h:zCV P T a=true):P.cellsOf T=a.length:=by obtain⟨i,z,b,c,_⟩:=zCW h;simp[Program.cellsOf,b,c]
def z5S {k:IntKind}{n:Int}(h:(Lit.int k n).wf=true):k.min<=n/\n<=k.max:=by simpa [Lit.wf] using h
def all_append {l m:List Nat}(h:(l++m).all (·<=reachBytes)=true):l.all (·<=reachBytes)=true/\m.all (·<=reachBytes)=true:=by simpa [List.all_append] using h
def zBp {H:Type}{e:TypeId}:∀{l:List (DataW H)},(DataW.weightsAll P e l).all (·<=reachBytes)=true->∀{i:Nat} {d:DataW H},l[i]?=some d->(d.weights P e).all (·<=reachBytes)=true
 |[],_,i,d,h=>by simp at h
 |x::l,a,i,d,h=>by simp only[DataW.weightsAll]at a;obtain⟨b,c⟩:=all_append a;cases i with|zero=>simp at h;subst h;exact b|succ i=>exact zBp c (by simpa using h)
def Opened (W:World)(d:List Value)(a:List CTy):Prop :=
 ∃cvs:LC,cvs.map CV.ty=a/\d.length=cvs.length/\∀(j:Nat) (c:CV) (u:Value),cvs[j]?=some c->d[j]?=some u->Rep false W u c (λb=>b<W.heap.size)/\CVOk c
def Opened.append {W:World}{f g:List Value}{h i:List CTy}(r:Opened W f h)(s:Opened W g i):Opened W (f++g) (h++i):=by obtain⟨e,k,d,p⟩:=r;obtain⟨n,l,m,q⟩:=s;refine⟨e++n,by simp[k,l],by simp[d,m],λj c u a b=>?_⟩;by_cases t:j<e.length;{rw [qT t]at a;rw[qT (by omega)]at b;exact p j c u a b};{rw [qO (by omega)]at a;rw[qO (by omega)]at b;exact q _ c u a (by rw[<- d];exact b)}
def zJN {b:Type}:∀(n:Nat) (p:Nat->b->Prop),(∀i,i<n->∃x,p i x)->∃l:List b,l.length=n/\∀i x,l[i]?=some x->p i x
 | 0,p,_=>⟨[],rfl,λi x h=>by simp at h⟩
 |n+1,p,h=>by obtain⟨x,e⟩:=h 0 (by omega);obtain⟨l,c,d⟩:=zJN n (λi=>p (i+1)) (λi f=>h (i+1) (by omega));refine⟨x::l,by simp[c],λi y a=>?_⟩;cases i with|zero=>simp at a;subst a;exact e|succ i=>exact d i y (by simpa using a)
def cells?_get {W:World}{a:Addr}{n:Nat}{b:List Value}(h:W.cells? 0 a n=some b):b.length=n/\∀i,i<n->W.cell? (a.add i)=b[i]?:=by unfold World.cells? at h;rw[if_pos<|j7 _]at h;refine⟨by simpa using mapM_some_length h,λi c=>mapM_some_get h i i (by simp[c])⟩
def addr_add (a:Addr)(h:a.spot=none)(n m:Nat):(a.add n).add m=⟨a.block,a.off+n+m,none⟩:=by obtain⟨b,o,s⟩:=a;simp only at h;subst h;rw[add_lit,add_lit]
def zZL (b6:∀T,T<zgR->zoR P T=true/\zy6 P T=true){H:Type}{a3:TypeId×Value->H}{W:World} :
 ∀(F:Nat) (T:TypeId) (Z:List Value) (x:DataW H×List MemPlace),T<zgR->∀(b4:Bool) (b3:List CTy),zcE P 4 T=some (b4,b3)->
  DataW.trod a3 P W 0 (λ_=>true) true F T Z=some x->(x.1.weights P T).all (·<=reachBytes)=true->Opened W Z b3:=by
 intro F
 induction F using Nat.strongRecOn with
 |_ F ih=>
  intro T Z x hT b4 b3 d hx hw;obtain⟨U,C⟩:=b6 T hT;have c1:=d;rw[zcE]at d;split at d;{rename_i k I;cases d;obtain⟨n,rfl,rfl,d9⟩:=DataW.trod_int I hx;refine⟨[.i k n],rfl,rfl,λj c u r q=>?_⟩;cases j with|zero=>simp at r q;subst r q;exact⟨.i k n _,.i k n<|z5S d9⟩|succ j=>simp at r};{rename_i I;cases d;obtain⟨b,rfl,rfl⟩:=DataW.trod_bool I hx;refine⟨[.b b],rfl,rfl,λj c u r q=>?_⟩;cases j with|zero=>simp at r q;subst r q;exact⟨.b b _,.b b⟩|succ j=>simp at r};{rename_i e I;split at d;{rename_i t b7;cases d;have a4:∀(v:Value) (l:List t.den),Rep false W v (.s t l) (λb=>b<W.heap.size)->CVOk (.s t l)->Opened W [v] [.s t]:=(by intro v l D S;refine⟨[.s t l],rfl,rfl,λj c u r q=>?_⟩;cases j with|zero=>simp at r q;subst r q;exact⟨D,S⟩|succ j=>simp at r);have K:CVOk (.s t []):=.s t [] (j7 _) (λi x h=>by simp at h);rcases DataW.trod_slice I hx with⟨rfl,rfl⟩|⟨a,len,p,A,R,n,rfl,rfl,rfl,_,e8,e6,e7,a0,d5,_⟩;{exact a4 _ [] (.nil t _) K};{obtain⟨e9,Q⟩:=d5 rfl;by_cases b5:p=0;{subst b5;have d0:len=0:=(by omega);subst d0;exact a4 _ [] (.void t a _ rfl) K};{unfold zoR at U;rw[I]at U;simp only[b7,qE]at U;obtain⟨_,⟨a7,_⟩,V⟩:=U;unfold zy6 at C;rw[I]at C;simp only[b7,qE,vI,Nat.ble_eq]at C;obtain⟨he,c6⟩:=C;have c7:P.cellsOf e=t.wi:=(by rw[zWb a7,zeJ]);have b2:0<t.wi:=(by cases t<;>simp [Ty.wi]);rw[c7]at a0 Q;have N:∀i,i<p->∃w,W.cells? 0 (a.add<|i*t.wi) t.wi=some w/\(i<len->∃y,DataW.trod a3 P W 0 (λ_=>true) true n e w=some y/\A[i]?=some y):=(by intro i X;by_cases b9:i<len;{have D:=a0 i b9;rw[qB (by omega)]at D;obtain⟨w,S,h3⟩:=uT.1 D;exact⟨w,S,λ_=>⟨_,h3,qB (by omega)⟩⟩};{have D:=Q (i-len) (by omega);rw[qB (by omega)]at D;obtain⟨w,S,h3⟩:=uT.1 D;have e1:len+(i-len)=i:=(by omega);rw[e1]at S;exact⟨w,S,λh=>absurd h b9⟩});have M:∀i j,i<p->j<t.wi->∃v,W.cell? ((a.add<|i*t.wi).add j)=some v:=(by intro i j X hj;obtain⟨w,D,_⟩:=N i X;obtain⟨S,h3⟩:=cells?_get D;exact⟨_,(h3 j hj).trans (qB (by omega))⟩);obtain⟨v0,G⟩:=M 0 0 (by omega) b2;have a5:(a.add<|0*t.wi).add 0=a:=(by simp[Addr.add]);rw[a5]at G;obtain⟨m,et,fz,hb,E⟩:∃m et fz,W.heap[a.block]?=some (.cells m et fz)/\a.spot=none:=(by unfold World.cell? at G;split at G;{rename_i c et fz hb;split at G;{cases G};{rename_i hs;exact⟨c,et,fz,hb,by simpa using hs⟩}};{cases G});have L:∀i j,W.cell? ((a.add<|i*t.wi).add j)=m[a.off+i*t.wi+j]?:=(by intro i j;rw[addr_add a E,F0 hb]);have a9:a.off+p*t.wi<=m.size:=(by obtain⟨v,hv⟩:=M (p-1) (t.wi-1) (by omega) (by omega);rw[L]at hv;have:=(qL.1 hv).1;have D:(p-1)*t.wi+t.wi=p*t.wi:=(by rw[<- jI];congr 1;omega);omega);have c2:((DataW.slice (A.map (·.1))<|R.map (·.1)).weights P T).all (·<=reachBytes)=true:=hw;simp only[DataW.weights,I,kY,qE,q9,uO]at c2;obtain⟨c4,b1⟩:=c2;obtain⟨b1,_⟩:=all_append b1;have O:len<=big:=(by have D:(A.length+R.length)*1<=(A.length+R.length)*P.bytesOf e:=Nat.mul_le_mul_left _ c6;have:reachBytes<=big:=(by decide);omega);split at V;{rename_i J a2 d6;simp only[q9]at V;subst V;have c9:∀i,i<len->∃y:t.den,∀(j:Nat) (c:CV) (u:Value),(t.cells y)[j]?=some c->m[a.off+i*t.wi+j]?=some u->Rep false W u c (λb=>b<W.heap.size)/\CVOk c:=(by intro i X;obtain⟨w,D,S⟩:=N i (by omega);obtain⟨y,h3,h4⟩:=S X;obtain⟨cvs,g1,g2,g3⟩:=ih n (by omega) e w y he J t.shape d6 h3 (zBp b1 (by rw[qS,h4];rfl));obtain⟨z,Y⟩:=zLw g1;refine⟨z,λj c u r q=>g3 j c u ?_ ?_⟩;{rw [<- zkH Y];exact r};{obtain⟨k1,k2⟩:=cells?_get D;have hj:j<t.wi:=(by have:=(qA.1 r).1;rwa [zcA] at this);rw[<- k2 j hj,L];exact q});obtain⟨l,d1,c0⟩:=zJN len _ c9;have b0:∀i j,i<l.length->j<t.wi->m[a.off+i*t.wi+j]?=some ((m[a.off+i*t.wi+j]?).getD undef):=(by intro i j X hj;have D:(i+1)*t.wi<=p*t.wi:=qM _ (by omega);rw[jI]at D;have:a.off+i*t.wi+j<m.size:=(by omega);simp[this]);have a1:Rep false W (.slice (some ⟨a.block,a.off,none⟩) l.length p) (.s t l) (λb=>b<W.heap.size):=(by refine .sl t l a.block a.off p m et fz (λi j=>(m[a.off+i*t.wi+j]?).getD undef) (λ_ _ b=>b<W.heap.size) _ hb (λh=>by cases h) (by omega) (by omega) a9 ?_ (λi j x _ _ hx=>⟨hx,λh=>by cases h⟩) (λh=>by cases h) b0 ?_;{exact(qL.1 hb).1};{intro i z Y j c r;have X:i<l.length:=(qA.1 Y).1;have hj:j<t.wi:=(by have:=(qA.1 r).1;rwa [zcA] at this);exact(c0 i z Y j c _ r<|b0 i j X hj).1});have ha:a=⟨a.block,a.off,none⟩:=(by obtain⟨b,o,s⟩:=a;simp only at E;subst E;rfl);rw[d1,<- ha]at a1;refine a4 _ l a1 (.s t l (by omega) λi z Y j c r=>?_);have X:i<l.length:=(qA.1 Y).1;have hj:j<t.wi:=(by have:=(qA.1 r).1;rwa [zcA] at this);exact(c0 i z Y j c _ r<|b0 i j X hj).2};{cases V}}}};{cases d}}
  .rename_i fs I;split at d
   .rename_i l hl;cases d;obtain⟨xs,n,rfl,rfl,c8,e2,b8⟩:=DataW.trod_struct I hx;unfold zy6 at C;rw[I,c1]at C;simp only at C;have e0:(DataW.weightsEach P (fs.toList.map (·.type))<|xs.map (·.1)).all (·<=reachBytes)=true:=by have:((DataW.agg<|xs.map (·.1)).weights P T).all (·<=reachBytes)=true:=hw;simpa only [DataW.weights,I] using this
    have e4:∀(gs:List Field) (ys:List (DataW H×List MemPlace)) (ls:List (List CTy)) (B:Nat),zx0 P (P.cellsOf T) gs B=true->gs.length=ys.length->
     (∀(i:Nat) (f:Field),gs[i]?=some f->DataW.trod a3 P W 0 (λ_=>true) true n f.type ((Z.drop f.offset).take (P.cellsOf f.type))=ys[i]?)->
     zce (λ(f:Field)=>match zcE P 3 f.type with|some x=>some x.2|none=>none) gs=some ls->(DataW.weightsEach P (gs.map (·.type))<|ys.map (·.1)).all (·<=reachBytes)=true->
     B<=P.cellsOf T/\Opened W (Z.drop B) ls.flatten:=by
     intro gs
     induction gs with
     |nil=>intro ys ls B ho _ _ a8 _;cases a8;simp only[zx0,qJ]at ho;subst ho;refine⟨qQ _,[],rfl,by simp[c8],λj c u h=>by simp at h⟩
     |cons f gs e3=>intro ys ls B ho O hf a8 c3;obtain⟨b,e5,a6,c5,rfl⟩:=zhK a8;cases ys with|nil=>simp at O|cons y ys=>simp only[zx0,qE,qJ,vI]at ho;obtain⟨⟨d2,d3⟩,d4⟩:=ho;split at a6;{rename_i z Y;cases a6;obtain⟨J,a2⟩:=z;have hy:=hf 0 f rfl;simp only[qI]at hy;simp only[jF,DataW.weightsEach]at c3;obtain⟨d7,d8⟩:=all_append c3;have h4:=zyI Y;obtain⟨g1,g2⟩:=e3 ys e5 (B+P.cellsOf f.type) d4 (by simpa using O) (λi g hg=>by simpa using hf (i+1) g (by simpa using hg)) c5 d8;have o1:=ih n (by omega) f.type _ y d3 J a2 h4 hy d7;rw[d2] at o1;refine⟨by omega,?_⟩;have e1:Z.drop B=(Z.drop B).take (P.cellsOf f.type)++Z.drop (B+P.cellsOf f.type):=(by rw[<- List.drop_drop,List.take_append_drop]);rw[e1];exact Opened.append o1 g2};{cases a6}
    have:=(e4 fs.toList xs l 0 C (by simp[e2]) (λi f hf=>b8 i f (by simpa using hf)) hl e0).2;simpa using this
   {cases d}
  {cases d}
end
def zXz:(List.range zgR).all (zoR Tryz.prog)=true:=by kernel_rfl
def z9V:zD4.all (λT=>!Nat.blt T zgR||zR8 Tryz.prog T)=true:=by kernel_rfl
def z3N:Tryz.prog.funcs.toList.all (λa=>!(a.name == "runtime.NumGoroutine"))=true:=by kernel_rfl
def z8g (T:TypeId)(a:zD4.contains T=true)(d:T<zgR):zR8 Tryz.prog T=true:=by have c:T∈zD4:=(by revert a;generalize zD4=l;intro a;simpa using a);have e:Nat.blt T zgR=true:=(by rw[vI];exact d);have b:=qN.1 z9V T c;rw[e,vF,Bool.false_or]at b;exact b
def z9T (a:FuncId->Option (LW))(b:FuncId->Option (CV->Int->Option (Bool×CV×Int)))(c:FuncId->Option (List Bool×(LC->LA->Option (Bool×LC×LA))))(d:FuncId->Option (List Bool×Option (Nat×Nat×List (List Nat))×(LW))):CfgOk (zmZ a b c d):=by have e:(zmZ a b c d).P=Tryz.prog:=(by simp only[zmZ]);have g:∀T,(zmZ a b c d).sty T=below T (zwx Tryz.prog T):=λ_=>(by simp only[zmZ]);have i:∀T,(zmZ a b c d).cty T=below T (zcE Tryz.prog 4 T):=λ_=>(by simp only[zmZ]);have j:∀T f,(zmZ a b c d).fof T f=zt5 Tryz.prog T f:=λ_ _=>(by simp only[zmZ]);have k:∀T,(zmZ a b c d).eqt T=zD4.contains T:=λ_=>(by simp only[zmZ]);refine z3L e g i j zXz ?_;intro T h l;rw[k]at h;exact z8g T h l
def z9e (a:FuncId->Option (LW))(b:FuncId->Option (CV->Int->Option (Bool×CV×Int)))(c:FuncId->Option (List Bool×(LC->LA->Option (Bool×LC×LA))))(d:FuncId->Option (List Bool×Option (Nat×Nat×List (List Nat))×(LW))):NameOk (zmZ a b c d):=by
 refine⟨λf e g=>?_⟩;have:=qN.1 z3N e (by
  have:Tryz.prog.funcs[f]?=some e:=g;rw[<- kU] at this;exact qH this)
 simpa using this
def zg7 {b:FuncId->Option (LW)}{c:FuncId->Option (CV->Int->Option (Bool×CV×Int))}{d:FuncId->Option (List Bool×(LC->LA->Option (Bool×LC×LA)))}{e:FuncId->Option (List Bool×Option (Nat×Nat×List (List Nat))×(LW))}(h:∀f a,b f=some a->Holds Tryz.prog f a)(p:∀f a,c f=some a->zJC Tryz.prog f a)(q:∀f own a,d f=some (own,a)->zbR Tryz.prog f own a)(m:∀f own g a,e f=some (own,g,a)->zeA Tryz.prog f own g a):EngOk (zmZ b c d e):=by have i:=z9T b c d e;have k:CtrOk (zmZ b c d e):=⟨h,λf g a n=>m f [] g a n⟩;have j:=z4L i ⟨p⟩ ⟨q⟩ ⟨m⟩;have l:=z9e b c d e;exact⟨i,k,j,l,z8C i k j l⟩
section
open Go Go.ChangeShapes Go.WideShapes Go.ChangeAt
def AV.sh:AV->Bool×List CTy
 |.one c=>(false,[c.ty])
 |.agg l=>(true,l.map CV.ty)
section
variable {P:Program}
def zO0 {T:TypeId}{a:Bool}{b:List CTy}(h:zcE P 4 T=some (a,b)) :
 (a=true/\∃c,P.underlying T=some (.struct c))\/(a=false/\b.length=1/\((∃k,P.underlying T=some (.int k))\/P.underlying T=some .bool\/∃e,P.underlying T=some (.slice e))):=by
 rw[zcE]at h;split at h
 .rename_i k hu;cases h;exact .inr ⟨rfl,rfl,.inl ⟨k,hu⟩⟩
 .rename_i hu;cases h;exact .inr ⟨rfl,rfl,.inr<|.inl hu⟩
 .rename_i e hu;split at h
  .cases h;exact .inr ⟨rfl,rfl,.inr<|.inr ⟨e,hu⟩⟩
  .cases h
 .rename_i c hu;split at h
  .cases h;exact .inl ⟨rfl,c,hu⟩
  .cases h
 .cases h
def z2s {W:World}{T:TypeId}{v:Value}{a:Nat}(b:(∃k,P.underlying T=some (.int k))\/P.underlying T=some .bool\/∃e,P.underlying T=some (.slice e))(h:Value.okWide P W .any a T v):v.cells = #[v]:=by
 cases v with
 |agg c=>exfalso;rcases b with⟨k,b⟩|b|⟨e,b⟩<;>simp [Value.okWide,b,Cell.okWide,Cell.ok]at h
 |_=>rfl
def zP9 (k:∀T,T<zgR->zoR P T=true/\zy6 P T=true){H:Type}{K:TypeId×Value->H}{W:World}{u:Nat} :
 ∀(r:List TypeId) (z:List Value) (B:List (DataW H)) (p:List MemPlace),DataW.TrodAll K P W 0 (fun _=>true) true r z B p->
  (∀(j:Nat) (t:TypeId) (v:Value),r[j]?=some t->z[j]?=some v->Value.okWide P W .any u t v)->(∀t∈r,t<zgR/\(zcE P 4 t).isSome=true)->
  (DataW.weightsEach P r B).all (·<=reachBytes)=true->
  ∃(f:LA) (D:List Value),f.map (fun a=>some a.sh)=r.map (zcE P 4)/\zdn false W (zy f) D (fun _ b=>b<W.heap.size)/\zbS f D=z/\∀c∈zy f,CVOk c
 |[],z,B,p,h,_,_,_=>by obtain⟨rfl,rfl,rfl⟩:=trodAll_nil h;exact⟨[],[],rfl,⟨rfl,fun i c x h=>by simp[zy]at h⟩,rfl,fun c h=>by simp[zy]at h⟩
 |T::r,z,B,p,h,hv,ht,hw=>by
  obtain⟨v,U,d,I,p1,q,rfl,rfl,rfl,L,M⟩:=trodAll_cons h;simp only[DataW.weightsEach]at hw;obtain⟨Q,R⟩:=all_append hw;obtain⟨f,D,X,g2,Y,g4⟩:=zP9 k r U I q M (fun j t v L M=>hv (j+1) t v (by simpa using L) (by simpa using M)) (fun t h=>ht t (by simp[h])) R;obtain⟨hT,m⟩:=ht T (by simp);obtain⟨⟨G,S⟩,g⟩:=uR.1 m;obtain⟨w,hf⟩:=L;obtain⟨cvs,J,C,V⟩:=zZL k w T _ _ hT G S g hf Q;have n:=hv 0 T v rfl rfl;have s:∀a:AV,a.cvs=cvs->zdn false W (zy (a::f)) (v.cells.toList++D) (fun _ b=>b<W.heap.size)/\∀c∈zy (a::f),CVOk c:=(by intro a ha;have e:zy (a::f)=cvs++zy f:=(by simp[zy,ha]);rw[e];refine⟨zdn.append ⟨C,fun i c x l hx=>(V i c x l hx).1⟩ g2,fun c l=>?_⟩;rcases jJ.1 l with l|l;{obtain⟨i,Z⟩:=qX.1 l;have N:i<v.cells.toList.length:=(by rw[C];exact(qA.1 Z).1);exact(V i c _ Z (qB N)).2};{exact g4 c l});rcases zO0 g with⟨rfl,fs,O⟩|⟨rfl,y,O⟩;{obtain⟨A,rfl,_⟩:∃A,v = .agg A/\True:=(by simp only[Value.okWide,O]at n;obtain⟨A,h,_⟩:=n;exact⟨A,h,trivial⟩);obtain⟨E,F⟩:=s (.agg cvs) rfl;refine⟨.agg cvs::f,_,?_,E,?_,F⟩;{rw [jF,jF,X,g];simp only[AV.sh,J]};{simp only [Value.cells] at C;simp only[zbS,Value.cells,<- C,kJ,kV,Y,jN]}}
  .have hcells:=z2s O n;rw[<- J]at y;obtain ⟨c,rfl⟩:∃c,cvs=[c]:=by
    match cvs,y with
    |[c],_=>exact⟨c,rfl⟩
   obtain⟨E,F⟩:=s (.one c) rfl;refine⟨.one c::f,_,?_,E,?_,F⟩;{rw [jF,jF,X,g,<- J];rfl};{rw [hcells];simp only[zbS];simp[Y]}
def zBo (r:laidOutB P=true){H:Type}{b:TypeId×Value->H}{W m:World}(n:Go.RowKit.Below W.heap.size W m){u:Nat->Bool}:∀(g:List TypeId) (j:List Value) (i:List (DataW H)) (f:List MemPlace),(∀t∈g,P.readableRec t=true/\t<P.types.size)->
 DataW.TrodAll b P W 0 (λ_=>true) true g j i f->(∀x∈f,x.block<W.heap.size/\u x.block=true)->DataW.TrodAll b P m 0 u true g j i f
 |[],j,i,f,_,h,_=>by obtain⟨rfl,rfl,rfl⟩:=trodAll_nil h;exact rfl
 |T::g,j,i,f,s,h,a=>by
  obtain⟨v,l,d,k,p,q,rfl,rfl,rfl,w,y⟩:=trodAll_cons h;obtain⟨z,c⟩:=s T (by simp)
  exact⟨p,q,WideElems.Trod_stays r z c w (λx e=>n.same (a x<|j9 _ e).1) λx e=>(a x<|j9 _ e).2,
   zBo r n g l k q (λt h=>s t (by simp[h])) y λx e=>a x (kM _ e),rfl⟩
def zQT {W b:World}(h:Grown W b)(a:MemPlace->Prop):W.keptBut b a:=by
 refine⟨h.os,h.output,λi c=>?_⟩;rw[h.keep i c];cases d:W.heap[i]? with
 |none=>rfl
 |some o=>cases o<;>first|rfl|exact⟨rfl,rfl,rfl,λ_ _=>rfl⟩|exact .inr ⟨rfl,rfl⟩
def z2D (P:Program)(a:List TypeId):Bool:=a.all λT=>Nat.blt T zgR&&(zcE P 4 T).isSome&&P.readableRec T&&Nat.blt T P.types.size
def z5V (P:Program)(d:List TypeId)(b:LA):Prop:=b.map (λa=>some a.sh)=d.map (zcE P 4)/\∀c∈zy b,CVOk c
def zSn (P:Program)(f:FuncId)(d:List TypeId):Prop :=
 ∃c,Holds P f c/\∀a,z5V P d a->c a=some (true,[.one<|.b true])
def zK2 (L:∀T,T<zgR->zoR P T=true/\zy6 P T=true)(a0:laidOutB P=true){s:ChangeSpec}{f:FuncId}{u:Func}{B:TypeId}(k:s.vars=[])(F:∀(H:Type) (i:List (DataW H)),i.length=u.params.toList.length->s.fn H i={results:=[.lit<|.bool true],args:=i})(a:z2D P u.params.toList=true)(O:u.resultTypes = #[B])(hB:P.underlying B=some .bool)(hl:zSn P f u.params.toList){H:Type}{enc:TypeId×Value->H}{apart D l:Bool}(W:World)(A:Nat)(g:LV)(i gs:List (DataW H))(w:List MemPlace)(U:∀(j:Nat) t v,u.params[j]?=some t->g[j]?=some v->Value.okWide P W .any A t v)(hW:DataW.Whole enc P u.params.toList s.vars apart W g.toList i gs w)(R:(DataW.weightsEach P (u.params.toList++s.plain.varTypes P)<|i++gs).all (·<=reachBytes)=true) :
 Calls P f g W λe W'=>∃v,e = .returned v/\s.post enc P u apart D l false W g v W':=by
 have J:=hW;obtain⟨p,q,I,hV,rfl,a4,a5⟩:=hW;rw[k]at hV;obtain⟨rfl,rfl⟩:=trodVars_none hV;have a2:s.plain.varTypes P=[]:=by unfold DataSpec.varTypes;show s.vars.filterMap _=[];rw[k];rfl
 rw[a2,jA,jA]at R;unfold z2D at a;simp only[qN,qE,vI]at a;have G:∀(j:Nat) (t:TypeId) (v:Value),u.params.toList[j]?=some t->g.toList[j]?=some v->Value.okWide P W .any A t v:=by intro j t v h1 X;rw[kU]at h1 X;exact U j t v h1 X
 obtain⟨C,xs,g1,g2,g3,g4⟩:=zP9 L u.params.toList g.toList i p I G (λt S=>⟨(a t S).1.1.1,(a t S).1.1.2⟩) R;obtain⟨a6,hH,Q⟩:=hl;have m:=hH.2 W C xs _ g2 (Q C ⟨g1,g4⟩);have E:(zbS C xs).toArray=g:=by rw[g3,jN]
 rw[E]at m;have n:∀(V:List TypeId) (vs:List Value) (i:List (DataW H)) (ps:List MemPlace),DataW.TrodAll enc P W 0 (λ_=>true) true V vs i ps->i.length=V.length:=by intro V;induction V with|nil=>intro vs i ps h;obtain⟨_,rfl,_⟩:=trodAll_nil h;rfl|cons t V ih=>intro vs i ps h;obtain⟨v,a3,d,Z,p,q,rfl,rfl,rfl,_,X⟩:=trodAll_cons h;simp[ih a3 Z q X]
 refine m.mono ?_;intro e W1 he;cases e with
 |panicked c=>exact he.elim
 |outgrown=>exact he.elim
 |returned v=>
  obtain⟨hg,ys,K,N,hv,_⟩:=he;have a1:v = .bool true:=by
   match ys,N with
   |[],h=>exact absurd h.1 (by simp[zy,AV.cvs])
   |[y],h=>have:=(h.2 0 (.b true) y rfl rfl).bool_inv;rw[hv,this];rfl
   |y::z::r,h=>exact absurd h.1 (by simp[zy,AV.cvs])
  subst a1;refine⟨_,rfl,i,[],p++[],[],p,[],J,?_,?_,?_,zQT hg _,λh=>by cases h⟩;{rw [jA,F H i<|n _ _ _ _ I,O];exact⟨[],[],⟨1,by simp[DataW.trod,hB,Value.cells]⟩,rfl,rfl⟩};{rw [jA,F H i<|n _ _ _ _ I];have hb:Go.RowKit.Below W.heap.size W W1:=⟨hg.os,hg.tape,hg.output,hg.size,hg.keep⟩;have M:∀x∈p,x.block<W.heap.size:=λx Y=>(by simpa using J.lt x (j9 _ Y));exact zBo a0 hb _ _ _ _ (λt S=>⟨(a t S).1.2,(a t S).2⟩) I (λx Y=>⟨M x Y,by simpa using M x Y⟩)};{rw [k,jA,F H i<|n _ _ _ _ I];rfl}
end
def z9W:(List.range zgR).all (zy6 Tryz.prog)=true:=by kernel_rfl
def z4Q:laidOutB Tryz.prog=true:=by kernel_rfl
def own:ownKnob Tryz.prog.godebug=none:=by kernel_rfl
def z3M (T:TypeId)(a:T<zgR):zoR Tryz.prog T=true/\zy6 Tryz.prog T=true :=
 ⟨qN.1 zXz T<|kN.2 a,qN.1 z9W T<|kN.2 a⟩
abbrev Good (b:List TypeId)(a:LA):Prop:=z5V Tryz.prog b a
abbrev zXq (f:FuncId)(a:List TypeId):Prop:=zSn Tryz.prog f a
def zV8 {d:FuncId->Option (LW)}{l:FuncId->Option (CV->Int->Option (Bool×CV×Int))}{m:FuncId->Option (List Bool×(LC->LA->Option (Bool×LC×LA)))}{n:FuncId->Option (List Bool×Option (Nat×Nat×List (List Nat))×(LW))}(e:∀f a,d f=some a->Holds Tryz.prog f a)(g:∀f a,l f=some a->zJC Tryz.prog f a)(i:∀f own a,m f=some (own,a)->zbR Tryz.prog f own a)(j:∀f own k a,n f=some (own,k,a)->zeA Tryz.prog f own k a){f:FuncId}{r:List TypeId}(s:FnOk Tryz.prog f)(h:∀c,Good r c->∃q N D,evalFn (zmZ d l m n) q N D f c=some [.one<|.b true]):zXq f r:=by refine⟨λc=>open Classical in if Good r c then some (true,[.one<|.b true]) else none,zAA (zg7 e g i j) s ?_,λc hg=>by simp[hg]⟩;intro c t _ p;split at p;{rename_i hg;cases p;exact h c hg};{cases p}
end
def St.blkEnd (e:St):List Bool->List At->List MV->Option (LC×List Nat)
 |[],[],[]=>some ([],[])
 |own::ms,a::r,h::hs=>
  match St.blkEnd e ms r hs with
  |none=>none
  |some (d,c) =>
   match a with
   |.i k n=>some (.i k n::d,c)
   |.b x=>some (.b x::d,c)
   |.sl q [] =>
    match e.root q with
    |some R=>
     match own with
     |true=>if R.own && !c.contains q then some (.s R.t R.l::d,q::c) else none
     |false=>
      match h with
      |.v (.at<|.sl f [])=>if q==f then some (.s R.t R.l::d,c) else none
      |_=>none
    |none=>none
   |_=>none
 |_,_,_=>none
def ze1:List Bool->LC->Nat->List (Nat×Root)
 |own::ms,.s t l::cs,id=>(id,⟨t,l,own,none⟩)::ze1 ms cs (id+1)
 |_::ms,_::cs,id=>ze1 ms cs (id+1)
 |_,_,_=>[]
def zXD (own:List Bool)(c:LC)(b:LA):St :=
 {tm:=.v (.at<|.lp 0 0)::(zhm c 0).map λa=>.v (.at a),lo:=[(0,zhm c 0)],ro:=ze1 own c 0++zc0 zur b c.length,stk:=[],nid:=c.length+(b.flatMap AV.cvs).length+1,ep:=0}
def zoW (C:Cfg)(tms:FuncId->Nat->Option Tmpl)(N D:Nat)(f:FuncId)(own:List Bool)(d:LC)(a:LA):Option Ans :=
 cond (zhn f && !(zqz (.agg d::a))) none
 (zvv C tms N (zr2 C tms N D) f (.v (.at<|.lp 0 0)::(zcX a d.length).map .v) (zXD own d a) λh b=>
  match b.tm with
  |.v (.at<|.lp l 0)::hs=>
   match zl b.lo l with
   |some cells=>
    match b.blkEnd own cells hs with
    |some (e,g) =>
     match zrh (b.thaw<|zhn f) h g with
     |some c=>some (.agg e::c)
     |none=>none
    |none=>none
   |none=>none
  |_=>none)
section
variable {C:Cfg} {w0 w w1:World} {S0:zV} {U:Nat->Prop} {st st1:St} {E E1:Env} {ts:Array Value} {sv:List (Array Value)}
structure BlkEnd (st:St) (own:List Bool) (cells:List At) (hs:List MV) (cs:List CV) (ks:List Nat):Prop where
 len:cs.length=cells.length
 hlen:hs.length=cells.length
 ownk:∀r∈ks,∃j,zbd own j/\cells[j]?=some (.sl r [])
 get:∀(j:Nat) (a:At),cells[j]?=some a->(∃k n,a = .i k n/\cs[j]?=some (.i k n))\/(∃x,a = .b x/\cs[j]?=some (.b x))\/
  ∃r R,a = .sl r []/\st.root r=some R/\cs[j]?=some (.s R.t R.l)/\((zbd own j/\R.own=true/\r∈ks)\/(¬ zbd own j/\hs[j]?=some (.v (.at (.sl r [])))))
 inj:∀(i j r:Nat),zbd own i->zbd own j->cells[i]?=some (.sl r [])->cells[j]?=some (.sl r [])->i=j
def zPu:∀(own:List Bool) (cells:List At) (A:List MV) (E:LC) (F:List Nat),st.blkEnd own cells A=some (E,F)->BlkEnd st own cells A E F
 |[],[],[],E,F,h=>by cases h;exact⟨rfl,rfl,fun r h=>by simp at h,fun j a h=>by simp at h,fun i j r h=>by simp[zbd]at h⟩
 |o::ms,a::r,O::A,E,F,h=>by
  simp only[St.blkEnd]at h;split at h;{cases h}
  .rename_i cs0 ks0 h0;have f:=zPu ms r A cs0 ks0 h0;have p:∀(z:List Nat) (c:CV),(∀x∈ks0,x∈z)->∀(j:Nat) (b:At),r[j]?=some b->(∃k n,b = .i k n/\(c :: cs0)[j+1]?=some (.i k n))\/(∃x,b = .b x/\(c :: cs0)[j+1]?=some (.b x)) \/
    ∃q R,b = .sl q []/\st.root q=some R/\(c::cs0)[j+1]?=some (.s R.t R.l)/\((zbd (o::ms) (j+1)/\R.own=true/\q∈z)\/(¬ zbd (o::ms) (j+1)/\(O::A)[j+1]?=some (.v (.at (.sl q []))))):=by
    intro z c I j b g;rcases f.get j b g with h|h|⟨q,R,G,L,M,H⟩
    .exact .inl (by simpa using h)
    .exact .inr (.inl (by simpa using h))
    .refine .inr (.inr ⟨q,R,G,L,by simpa using M,?_⟩)
     rcases H with⟨d,e,Q⟩|⟨d,e⟩
     .exact .inl ⟨by simpa [zbd] using d,e,I q Q⟩
     .exact .inr ⟨by simpa [zbd] using d,by simpa using e⟩
   have flat:∀(c:CV),(∀q,a≠.sl q [])->((∃k n,a = .i k n/\c = .i k n)\/(∃x,a = .b x/\c = .b x))->BlkEnd st (o::ms) (a::r) (O::A) (c::cs0) ks0:=by
    intro c B S;refine⟨by simp[f.len],by simp[f.hlen],fun q K=>?_,fun j b g=>?_,fun i j q u y d e=>?_⟩;{obtain⟨j,d,e⟩:=f.ownk q K;exact⟨j+1,by simpa [zbd] using d,by simpa using e⟩}
    .cases j with
     |zero=>simp only[qI,qC]at g;subst g;rcases S with⟨k,n,d,e⟩|⟨x,d,e⟩;{exact .inl ⟨k,n,d,by simp[e]⟩};{exact .inr (.inl ⟨x,d,by simp[e]⟩)}
     |succ j=>exact p ks0 c (fun _ h=>h) j b (by simpa using g)
    {cases i with|zero=>simp only[qI,qC]at d;exact absurd d (B q)|succ i=>(cases j with|zero=>simp only[qI,qC]at e;exact absurd e (B q)|succ j=>have:=f.inj i j q (by simpa [zbd] using u) (by simpa [zbd] using y) (by simpa using d) (by simpa using e);omega)}
   split at h;{rename_i k n;cases h;exact flat _ (fun q h=>by cases h) (.inl ⟨k,n,rfl,rfl⟩)};{rename_i x;cases h;exact flat _ (fun q h=>by cases h) (.inr ⟨x,rfl,rfl⟩)};{rename_i q;split at h;{rename_i R N;split at h;{split at h;{rename_i m;simp only[qE,jH,jP,decide_eq_false_iff_not]at m;obtain⟨C,J⟩:=m;cases h;refine⟨by simp[f.len],by simp[f.hlen],fun x w=>?_,fun j b g=>?_,fun i j x u y d e=>?_⟩;{rcases qG.1 w with rfl|w;{exact⟨0,rfl,rfl⟩};{obtain⟨j,d,e⟩:=f.ownk x w;exact⟨j+1,by simpa [zbd] using d,by simpa using e⟩}};{cases j with|zero=>simp only[qI,qC]at g;subst g;exact .inr (.inr ⟨q,R,rfl,N,by simp,.inl ⟨rfl,C,jE⟩⟩)|succ j=>exact p _ _ (fun x w=>qZ _ w) j b (by simpa using g)};{have D:∀(i:Nat),zbd ms i->r[i]?=some (.sl q [])->False:=(by intro i u K;rcases f.get i _ K with⟨_,_,h,_⟩|⟨_,h,_⟩|⟨V,T,G,L,M,H⟩;{cases h};{cases h};{cases G;rcases H with⟨_,_,h⟩|⟨h,_⟩;{exact J h};{exact h u}});cases i with|zero=>(cases j with|zero=>rfl|succ j=>simp only[qI,qC,At.sl.injEq,and_true]at d;subst d;exact(D j (by simpa [zbd] using y) (by simpa using e)).elim)|succ i=>(cases j with|zero=>simp only[qI,qC,At.sl.injEq,and_true]at e;subst e;exact(D i (by simpa [zbd] using u) (by simpa using d)).elim|succ j=>have:=f.inj i j x (by simpa [zbd] using u) (by simpa [zbd] using y) (by simpa using d) (by simpa using e);omega)}};{cases h}};{split at h;{rename_i U;split at h;{rename_i P;simp only[qJ]at P;subst P;cases h;refine⟨by simp[f.len],by simp[f.hlen],fun x w=>?_,fun j b g=>?_,fun i j x u y d e=>?_⟩;{obtain⟨j,d,e⟩:=f.ownk x w;exact⟨j+1,by simpa [zbd] using d,by simpa using e⟩};{cases j with|zero=>simp only[qI,qC]at g;subst g;exact .inr (.inr ⟨q,R,rfl,N,by simp,.inr ⟨by simp[zbd],rfl⟩⟩)|succ j=>exact p _ _ (fun x w=>w) j b (by simpa using g)};{cases i with|zero=>simp[zbd]at u|succ i=>(cases j with|zero=>simp[zbd]at y|succ j=>have:=f.inj i j x (by simpa [zbd] using u) (by simpa [zbd] using y) (by simpa using d) (by simpa using e);omega)}};{cases h}};{cases h}}};{cases h}};{cases h}
 |[],_::_,_,_,_,h=>by simp[St.blkEnd]at h
 |[],[],_::_,_,_,h=>by simp[St.blkEnd]at h
 |_::_,[],_,_,_,h=>by simp[St.blkEnd]at h
 |_::_,_::_,[],_,_,h=>by simp[St.blkEnd]at h
def z3G (a:Value)(b:LV):(#[a]++b)[0]?=some a:=by rw[jV (by simp)];rfl
def z3H (a:Value)(b:LV)(i:Nat):(#[a]++b)[i+1]?=b[i]?:=by rw[kD (by simp)];simp
def zlC:∀(own:List Bool) (a:LC) (id n:Nat) (R:Root),zl (ze1 own a id) n=some R->id<=n/\∃t l,a[n-id]?=some (.s t l)/\R.t=t/\HEq R.l l/\own[n-id]?=some R.own/\R=⟨t,l,R.own,none⟩
 |[],_,_,_,_,h=>by cases h
 |o::ms,[],_,_,_,h=>by cases h
 |o::ms,c::a,id,n,R,h=>by have d:zl (ze1 ms a<|id+1) n=some R->id<=n/\∃t l,(c::a)[n-id]?=some (.s t l)/\R.t=t/\HEq R.l l/\(o::ms)[n-id]?=some R.own/\R=⟨t,l,R.own,none⟩:=λh=>(by obtain⟨r,t,l,g,j,m,p,q⟩:=zlC ms a (id+1) n R h;have e:n-id=(n-(id+1))+1:=(by omega);exact⟨by omega,t,l,by rw[e,jQ];exact g,j,m,by rw[e,jQ];exact p,q⟩);cases c with|i k x=>exact d h|b x=>exact d h|s t l=>simp only[ze1,zl]at h;split at h;{rename_i f;simp only[qJ]at f;subst f;cases h;exact⟨qQ _,t,l,by simp,rfl,HEq.rfl,by simp,rfl⟩};{exact d h}
def zhV (hO:EngOk C){f:FuncId}{own:List Bool}{e8:LC->LA->Option (Bool×LC×LA)}(hf:FnOk C.P f)(h:∀(d:LC) (z:LA) (Z:LC) (rs:LA),own.length=d.length->(∃(w:World) (xs:Nat->Value) (K:Nat->zV),∀(j:Nat) (c:CV),(d++zy z)[j]?=some c->Rep false w (xs j) c (K j))->e8 d z=some (true,Z,rs)->Z.length=d.length/\∃tms N D,zoW C tms N D f own d z=some (.agg Z::rs)):zbR C.P f own e8:=by
 refine⟨hf,λw blk B e d K z xs Ka Z rs hb e5 g7 a1 a7 f1 a4 c7 e0=>?_⟩;obtain⟨d4,tms,N,D,a3⟩:=h d z Z rs g7 ⟨w,λj=>if j<d.length then (B[j]?).getD undef else (xs[j-d.length]?).getD undef,λj=>if j<d.length then K j else Ka,λj c L=>by
  by_cases T:j<d.length
  .rw [qT T]at L;have M:=jL (show j<B.size by omega)
   simp only[if_pos T,M,j6];exact(a1 j c _ L M).ro
  .rw [qO (by omega)]at L
   have c9:=(qA.1 L).1;have M:=qB (show j-d.length<xs.length by rw[a4.1];exact c9)
   simp only[if_neg T,M,j6];exact a4.2 _ c _ L M⟩ e0
 unfold zoW at a3;cases b9:zhn f && !(zqz (.agg d::z)) with
 |true=>rw[b9]at a3;cases a3
 |false=>
 rw[b9,cond_false]at a3;have hblt:blk<w.heap.size:=(qL.1 hb).1;generalize a9:zXD own d z=st at a3;have g9:st.ro=ze1 own d 0++zc0 zur z d.length:=(by rw[<- a9];rfl);have d6:st.lo=[(0,zhm d 0)]:=(by rw[<- a9];rfl);have c3:st.stk=[]:=(by rw[<- a9];rfl);have hnid:st.nid=d.length+(zy z).length+1:=(by rw[<- a9];rfl);have b0:st.tm = .v (.at<|.lp 0 0)::(zhm d 0).map λa=>.v (.at a):=(by rw[<- a9];rfl);have O:∀r R,zl st.ro r=some R->R.ep=none/\((r<d.length/\own[r]?=some R.own/\d[r]?=some (.s R.t R.l))\/(d.length<=r/\r<d.length+(zy z).length/\R.own=false/\(zy z)[r-d.length]?=some (.s R.t R.l))):=(by intro r R I;rw[g9,zbB]at I;split at I;{rename_i Q hQ;cases I;obtain⟨_,t,l,q,_,_,h5,h6⟩:=zlC own d 0 r R hQ;rw[h6]at h5 ⊢;simp only[vL]at q h5;exact⟨rfl,.inl ⟨(qA.1 q).1,h5,q⟩⟩};{obtain⟨g,t,l,q,rfl⟩:=zfu zur z d.length r R I;have:=(qA.1 q).1;exact⟨rfl,.inr ⟨g,by omega,rfl,q⟩⟩});have H:∀r R,st.root r=some R->(r<d.length/\own[r]?=some R.own/\d[r]?=some (.s R.t R.l))\/(d.length<=r/\R.own=false/\(zy z)[r-d.length]?=some (.s R.t R.l)):=(by intro r R I;rcases (O r R (zbs I).1).2 with h|⟨g,_,q,G⟩;{exact .inl h};{exact .inr ⟨g,q,G⟩});let E:Env:={ρ:=λn=>if n<d.length then (B[n]?).getD undef else (xs[n-d.length]?).getD undef,φ:=λn=>if n<d.length then K n else Ka,β:=λ_=>blk,κ:=w}
 have a0:∀n,n<d.length->E.ρ n=(B[n]?).getD undef/\E.φ n=K n:=λn hn=>(by simp only[E,if_pos hn,and_self]);have a2:∀n,d.length<=n->E.ρ n=(xs[n-d.length]?).getD undef/\E.φ n=Ka:=λn hn=>(by simp only[E,if_neg (show ¬ n<d.length by omega),and_self]);have e4:∀(j:Nat) (a:At) (u:Value),(zhm d 0)[j]?=some a->B[j]?=some u->u.oneCell'=true/\VA w st E a u:=(by intro j a u A M;rw[zup,j3]at A;cases L:d[j]? with|none=>rw[L]at A;cases A|some c=>rw[L]at A;cases A;have hr:=a1 j c u L M;have T:j<d.length:=(qA.1 L).1;refine⟨hr.one,?_⟩;(cases c with|i k n=>exact hr.int_inv|b x=>exact hr.bool_inv|s t l=>obtain⟨⟨a,c5,hv,_⟩,_⟩:=hr.len;refine⟨⟨a,_,c5,hv⟩,λR _=>?_⟩;rw[(a0 j T).1,M];rfl));have b8:∀l cells,zl st.lo l=some cells->l=0/\cells=zhm d 0:=(by intro l cells h;rw[d6]at h;simp only[zl]at h;split at h;{rename_i he;simp only[qJ]at he;cases h;exact⟨he.symm,rfl⟩};{cases h});have hp:VA w st E (.lp 0 0) (.pointer<|some ⟨blk,0,none⟩):=⟨⟨_,rfl⟩,λ_ _=>rfl⟩;have c0:∀a∈zhm d 0,∀m∈a.ids,m<d.length:=(by intro a A m J;obtain⟨j,T⟩:=qX.1 A;rw[zup,j3]at T;cases L:d[j]? with|none=>rw[L]at T;cases T|some c=>rw[L]at T;cases T;have:=zzx J;have:=(qA.1 L).1;omega);let S0:zV:=λb=>b=blk\/(∃j,j<d.length/\zbd own j/\K j b)\/(zhn f=false/\b=w.heap.size)
 have hS:Sim w S0 (λn=>n<st.nid) st E (#[.pointer<|some ⟨blk,0,none⟩]++B) [] w:=by
  refine⟨⟨rfl,rfl,rfl,qQ _,λ_ _ _=>rfl,λr R I=>?_,λr R I x p=>?_,λr R I U=>?_,λhz r R I U he f7=>?_,λr R r' R' I U f2 he X x p=>?_,λl cells hl=>?_,λl l' c1 c2 g q _=>?_,λl cells r R hl I=>?_,λr R e I he=>?_,rfl⟩,⟨λn R hn=>?_,λn cells hn=>?_,λm J n hn=>?_,λf hf=>?_⟩,⟨?_,λi m v J hv=>?_⟩,?_⟩;{rcases H r R I with⟨g,q,G⟩|⟨g,q,G⟩;{have M:=jL (show r<B.size by omega);rw[(a0 r g).1,(a0 r g).2,M];have:=a1 r _ _ G M;rw[q] at this;exact this};{have c9:=(qA.1 G).1;have M:=qB (show r-d.length<xs.length by rw[a4.1];exact c9);rw[(a2 r g).1,(a2 r g).2,M,q];exact a4.2 _ _ _ G M}};{rcases H r R I with⟨g,q,G⟩|⟨g,q,G⟩;{rw [(a0 r g).2]at p;exact(a7 r x g p).1};{rw [(a2 r g).2]at p;exact(c7 x p).1}};{rcases H r R I with⟨g,q,G⟩|⟨g,q,G⟩;{refine⟨(O r R (zbs I).1).1,λx p=>.inl (.inr<|.inl ⟨r,g,?_,?_⟩)⟩;{show own[r]?=some true;rw[q,U]};{rw [(a0 r g).2]at p;exact p}};{rw [q]at U;cases U}}
  .exfalso;cases hq:zhn f with
   |false=>exact hz (.inr<|.inr ⟨hq,rfl⟩)
   |true=>rw[hq,uL]at b9;have f6:zqz (.agg d::z)=true:=(by simpa using b9);have d7:CV.s R.t R.l∈(AV.agg d::z).flatMap AV.cvs:=(by simp only[kC,jJ];rcases H r R I with⟨g,q,G⟩|⟨g,q,G⟩;{exact .inl (qH G)};{exact .inr (qH G)});have:=qN.1 f6 _ d7;simp only at this;rw[f7] at this;cases this
  {rcases H r R I with⟨g,q,G⟩|⟨g,q,G⟩;{have d9:zbd own r:=(by show own[r]?=some true;rw[q,U]);rw[(a0 r g).2]at p;rcases H r' R' f2 with⟨W,c6,a6⟩|⟨W,c6,a6⟩;{rw [(a0 r' W).2];exact f1 r r' x g W d9 X p};{rw [(a2 r' W).2];exact λhk=>(c7 x hk).2.2 r g d9 p}};{rw [q]at U;cases U}};{obtain⟨rfl,rfl⟩:=b8 l cells hl;exact⟨.inl (.inl rfl),B,e,hb,by rw[e5,zzw],λj c u L M=>e4 j c u L M⟩};{rw [(b8 l c1 g).1,(b8 l' c2 q).1]};{intro p;rcases H r R I with⟨g,q,G⟩|⟨g,q,G⟩;{rw [(a0 r g).2]at p;exact(a7 r _ g p).2 rfl};{rw [(a2 r g).2]at p;exact(c7 _ p).2.1 rfl}};{rw [(O r R I).1]at he;cases he};{rcases (O n R hn).2 with⟨g,_⟩|⟨_,g,_⟩<;>omega};{obtain⟨rfl,rfl⟩:=b8 n cells hn;refine⟨by omega,λa A m J=>?_⟩;have:=c0 a A m J;omega};{rw [b0]at J;rcases qG.1 J with rfl|J;{simp only [MV.ids,zbF,zU,At.ids,zbr,zbv,jT,kC,uK,jA,qD]at hn;omega};{obtain⟨a,A,rfl⟩:=jD.1 J;simp only[MV.ids,zbF,zU,kC,uK,jA]at hn;have:=c0 a A n hn;omega}};{rw [c3]at hf;simp at hf};{rw [b0];simp[zzw,e5];omega};{rw [b0]at J;cases i with|zero=>rw[z3G]at hv;simp at J hv;subst J hv;exact hp|succ i=>simp only[jQ,qS]at J;have d0:B[i]?=some v:=(by rw[z3H]at hv;exact hv);(cases A:(zhm d 0)[i]? with|none=>rw[A]at J;cases J|some a=>rw[A]at J;cases J;exact(e4 i a v A d0).2)};{rw [c3];trivial}
 obtain⟨f9,g0⟩:=zhl (w:=w) (st:=st) (E:=E) z xs d.length a4.1 (λi c u L M=>by
  have hr:=a4.2 i c u L M;refine⟨?_,hr.one⟩;cases c with
  |i k n=>exact hr.int_inv
  |b x=>exact hr.bool_inv
  |s t l=>
   obtain⟨⟨a,c5,hv,_⟩,_⟩:=hr.len;refine⟨⟨a,_,c5,hv⟩,λR I=>?_⟩;have e:d.length+i-d.length=i:=by omega
   rw[(a2 _<|uJ _ _).1,e,M];rfl)
 obtain⟨_,b7⟩:=zk1 hO (zjw hO (tms:=tms) (N:=N) D) f _ st _ _ a3 w S0 _ E _ [] w (#[.pointer<|some ⟨blk,0,none⟩]++(zbS z xs).toArray)
  (λv w'=>w'.os=w.os/\w'.tape=w.tape/\w'.output=w.output/\w.heap.size<=w'.heap.size/\
   (∀b,b<w.heap.size->b≠blk->(∀j,j<d.length->zbd own j->¬ K j b)->w'.heap[b]?=w.heap[b]?)/\
   ∃(S:LV) (e':TypeId) (K':Nat->zV) (ys:List Value) (Kr:Nat->zV),w'.heap[blk]?=some (.cells S e' (0,0))/\S.size=Z.length/\Z.length=d.length/\
    (∀(j:Nat) (c:CV) (u:Value),Z[j]?=some c->S[j]?=some u->match c with
     |.i k n=>u = .int k n
     |.b x=>u = .bool x
     |.s t l=>(zbd own j->Rep true w' u (.s t l) (K' j))/\(¬ zbd own j->B[j]?=some u))/\
    zqk (zlf f) w' (zy rs) ys Kr/\v=zkk (zbS rs ys)/\
    (∀j x,j<d.length->K' j x->x<w'.heap.size/\x≠blk/\((∃i,i<d.length/\zbd own i/\K i x)\/w.heap.size<=x))/\
    (∀i x,i<(zy rs).length->Kr i x->x<w'.heap.size/\x≠blk/\((∃i,i<d.length/\zbd own i/\K i x)\/w.heap.size<=x))/\
    (∀i j x,i<d.length->j<d.length->i≠j->K' i x->¬ K' j x)/\
    (∀i j c x,(zy rs)[i]?=some c->zlf f c=true->j<(zy rs).length->i≠j->Kr i x->¬ Kr j x)/\
    (∀i j x,i<d.length->j<(zy rs).length->K' i x->¬ Kr j x)) hS (λn hn h=>by omega)
  (by simp[f9]) (λi m v J hv=>by
   cases i with
   |zero=>rw[z3G]at hv;simp at J hv;subst J hv;exact hp
   |succ i=>
    simp only[jQ,qS]at J;have d0:(zbS z xs)[i]?=some v:=by rw[z3H]at hv;simpa using hv
    cases p:(zcX z d.length)[i]? with
    |none=>rw[p]at J;cases J
    |some x=>rw[p]at J;cases J;exact g0 i x v p d0)
  (λm J n hn=>by
   rcases qG.1 J with rfl|J
   .simp only [MV.ids,zbF,zU,At.ids,zbr,zbv,jT,kC,uK,jA,qD]at hn;omega
   .obtain⟨x,p,rfl⟩:=jD.1 J;simp only[MV.ids,zbF,qR]at hn;obtain⟨a,A,hn⟩:=hn;have:=(zfv z d.length n x a p A hn).2;omega)
  (λU' b2 E' w' tvs v d2 _ _ _ hv _ F=>by
   split at F
   .rename_i l hs htm;split at F
    .rename_i cells hcells;split at F
     .rename_i cs1 ks hbe;split at F
      .rename_i ans hansof;simp only[qC,List.cons.injEq,AV.agg.injEq]at F;obtain⟨rfl,rfl⟩:=F;have hB:=zPu own cells hs _ ks hbe;have hM:=d2.mem;obtain⟨hts,e2⟩:=d2.tm;have g2:=e2 0 (.v<|.at<|.lp l 0) (.pointer<|some ⟨blk,0,none⟩) (by rw[htm];rfl) (z3G _ _)
       have e7:E'.β l=blk:=by have:=g2.2 cells hcells;simp only[Value.pointer.injEq,qC,Addr.mk.injEq,and_true] at this;exact this.symm
       obtain⟨us,rfl,h8,h9⟩:=zyJ hv;have TT:=zMo (st:=b2) (E:=E') (w:=w') (zhn f);obtain⟨a5,ys,kr,hG,hyl,e6,rfl,f8,_⟩:=zi3 tvs ks _ us hansof h8 (λk x u p M=>VT.tr TT (λ_ _ _ _=>trivial) (h9 k x u p M));have hyv:∀(k:Nat) (a:At) (u:Value),a5[k]?=some a->ys[k]?=some u->VA w' b2 E' a u:=λk a u A M=>by have h:=e6 k a u A M;rcases hG.get k a A with⟨_,_,rfl,_⟩|⟨_,rfl,_⟩|⟨r,R1,rfl,b6,J,_⟩;{exact h};{exact h};{obtain⟨R0,f3,ht,_⟩:=zj4 b6;refine⟨h.1,λR I=>?_⟩;rw[f3]at I;cases I;have:=h.2 R1 b6;simpa [zX] using this}
       have hzz:zhn f=true->¬ S0 w.heap.size:=λh h'=>by rcases h' with h'|⟨j,T,_,hk⟩|⟨h',_⟩;{omega};{have:=(a7 j _ T hk).1;omega};{rw [h]at h';cases h'}
       obtain⟨_,S,e',a8,e1,f4⟩:=hM.loc l cells hcells;rw[e7]at a8;have d3:∀x,(S0 x\/w.heap.size<=x)->x≠blk->((∃i,i<d.length/\zbd own i/\K i x)\/w.heap.size<=x):=by intro x h X;rcases h with (h|h|h)|h;{exact absurd h X};{exact .inl h};{exact .inr (by omega)};{exact .inr h}
       have d8:∀r R x,b2.root r=some R->E'.φ r x->x≠blk:=by intro r R x I p he;subst he;rw[<- e7]at p;exact hM.lro l cells r R hcells I p
       have d5:∀i,i<(zy ans).length->∃a,a5[i]?=some a:=λi hi=>⟨_,qB (by rw[<- hG.len];exact hi)⟩
       let K':Nat->zV:=λj x=>zbd own j/\cφ E' cells j x
       have b4:∀j x,K' j x->∃r R,cells[j]?=some (.sl r [])/\zbd own j/\b2.root r=some R/\R.own=true/\r∈ks/\E'.φ r x:=by intro j x p;obtain⟨U,p⟩:=p;obtain⟨a,A,p⟩:=zt3 p;rcases hB.get j a A with⟨_,_,rfl,_⟩|⟨_,rfl,_⟩|⟨r,R,rfl,g,q,G⟩;{exact p.elim};{exact p.elim};{rcases G with⟨_,Y,h5⟩|⟨Y,_⟩;{exact⟨r,R,A,U,g,Y,h5,p⟩};{exact absurd U Y}}
       have b5:∀i x,cφ E' a5 i x->∃a r R,a5[i]?=some a/\a = .sl r []/\b2.root r=some R/\R.ep=none/\r∈kr/\aφ E' a x/\E'.φ r x:=by intro i x p;obtain⟨a,A,p⟩:=zt3 p;obtain⟨r,hr,rfl,h0⟩:=hG.fi A p;obtain⟨R1,b6,g6⟩:=hG.own r hr;obtain⟨R,I,_,c8⟩:=zj4 b6;refine⟨_,r,R,A,rfl,I,?_,hr,p,h0⟩;rcases c8 with rfl|⟨_,_,he,_⟩;{exact(hM.mine r _ I g6).1};{exact he}
       refine⟨hM.os,hM.tape,hM.output,hM.size,λb hb X g3=>hM.keep b hb λh=>?_,S,e',K',ys,cφ E' a5,a8,by rw[e1,hB.len],d4,λj c u L M=>?_,⟨by rw[hyl,hG.len],λi c x L p=>?_⟩,rfl,λj x T p=>?_,λi x hi p=>?_,λi j x hi T X p b1=>?_,λi j c x hi U T X p b1=>?_,λi j x hi T p b1=>?_⟩
       .rcases h with h|⟨j,T,U,hk⟩|⟨_,h⟩
        .exact X h
        .exact g3 j T U hk
        .omega
       .have T:j<cells.length:=by rw[<- hB.len];exact(qA.1 L).1
        have A:=qB T;obtain⟨_,V⟩:=f4 j _ u A M;rcases hB.get j _ A with⟨k,n,g,q⟩|⟨y,g,q⟩|⟨r,R,g,q,G,Y⟩
        .rw [L]at q;cases q;rw[g]at V;exact V
        .rw [L]at q;cases q;rw[g]at V;exact V
        .rw [L]at G;cases G;rw[g]at V A;have d1:=V.2 R q;simp only[zX,qC]at d1;refine⟨λU=>?_,λg4=>?_⟩
         .rcases Y with⟨_,h5,_⟩|⟨h5,_⟩
          .have hr:=hM.rep r R q;rw[h5,d1]at hr;exact hr.weak (λx p=>⟨U,by rw[zhR A];exact p⟩)
          .exact absurd U h5
         .rcases Y with⟨h5,_⟩|⟨_,h5⟩
          .exact absurd h5 g4
          .have hjc:j<d.length:=by rw[<- d4,hB.len];exact T
           have e3:=jL (show j<B.size by omega)
           have h7:=e2 (j+1) (.v<|.at<|.sl r []) B[j] (by rw[htm,jQ];exact h5) (by rw[z3H];exact e3)
           have c4:=h7.2 R q;simp only[zX,qC]at c4;rw[e3,<- c4,d1]
       .obtain⟨a,A⟩:=d5 i (qA.1 L).1;rw[zhR A];exact zXY hM hG A L (hyv i a x A p)
       .obtain⟨r,R,_,U,g,q,G,Y⟩:=b4 j x p;have:=d8 r R x g Y;exact⟨hM.rlt r R g x Y,this,d3 x ((hM.mine r R g q).2 x Y) this⟩
       .obtain⟨a,r,R,A,_,g,_,_,G,Y⟩:=b5 i x p;have:=d8 r R x g Y;exact⟨hM.rlt r R g x Y,this,d3 x (z2x hzz hM hG A G).1 this⟩
       .obtain⟨r,R,g1,U,g,q,G,Y⟩:=b4 i x p;obtain⟨r',R',f0,g5,W,c6,a6,b3⟩:=b4 j x b1;have:=hM.own_apart g q W c6 Y b3;subst this;exact X (hB.inj i j r U g5 g1 f0)
       .obtain⟨a,r,R,A,_,g,_,_,G,Y⟩:=b5 i x p;obtain⟨b,r',R',a8,_,W,_,_,a6,b3⟩:=b5 j x b1;exact X (zXX hM hG A a8 hi U G a6)
       .obtain⟨r,R,g1,U,g,q,G,Y⟩:=b4 i x p;obtain⟨b,r',R',a8,_,W,f5,g8,a6,b3⟩:=b5 j x b1
        by_cases e:r=r'
        .subst e;exact f8 r g8 G
        .exact hM.apart r R r' R' g q W f5 e x Y b3
      .cases F
     .cases F
    .cases F
   .cases F)
 refine b7.mono ?_;intro ex w' he;cases ex with|returned v=>exact he|panicked e9=>exact he.elim|outgrown=>exact he.elim
end
def zY3 (C:Cfg)(tms:FuncId->Nat->Option Tmpl)(N D:Nat)(f:FuncId)(own:List Bool)(a:LA):Option Ans :=
 zvv C tms N (zr2 C tms N D) f ((zcX a 0).map .v) {tm:=[],lo:=[],ro:=ze1 own (a.flatMap AV.cvs) 0,stk:=[],nid:=(a.flatMap AV.cvs).length,ep:=0} λb c=>zrh c b []
def zD5 (C:Cfg)(tms:FuncId->Nat->Option Tmpl)(N D:Nat)(f:FuncId)(own:List Bool)(e g:Nat)(b:List (List Nat))(t:Ty)(a:LA):Option Ans :=
 zvv C tms N (zr2 C tms N D) f ((zcX a 0).map .v) {tm:=[.v<|.at<|.kp e b t],lo:=[],ro:=ze1 own (a.flatMap AV.cvs) 0,stk:=[],nid:=(a.flatMap AV.cvs).length,ep:=0} λc d=>
  match d.tm,(c.flatMap zU)[g]? with
  |[.v<|.at<|.kp n J h],some (.sl m [])=>cond (Nat.beq n m&&(J==b&&decide (h=t))) (zrh d c []) none
  |_,_=>none
section
variable {C:Cfg} {w0 w w1:World} {S0:zV} {U:Nat->Prop} {st st1:St} {E E1:Env} {ts:Array Value} {sv:List (Array Value)}
def zMZ (hO:EngOk C){f:FuncId}{own:List Bool}{b2:LW}(hf:FnOk C.P f)(a6:ziA f=[[]])(h:∀(d:LA) (G:LA),own.length=(zy d).length->(∃(w:World) (J:Nat->Value) (K:Nat->zV),∀(j:Nat) (c:CV),(zy d)[j]?=some c->Rep false w (J j) c (K j))->b2 d=some (true,G)->∃tms N D,zY3 C tms N D f own d=some G)(A:own.isEmpty=false:=by rfl):zeA C.P f own none b2:=by
 refine zeA.of (by rintro rfl;cases A) ?_;intro al a5;rw[a6,qD]at a5;subst a5;refine⟨hf,λw K d J G b1 c5 I a4 a3 _ b0=>?_⟩;have b8:=λi j x hi hj U A=>a3 i j x hi hj U A (by simp)
 obtain⟨tms,N,D,a2⟩:=h d G c5 ⟨w,λj=>(J[j]?).getD undef,K,λj c hc=>by
  have c3:=(qA.1 hc).1;have Z:=qB (show j<J.length by rw[b1];exact c3)
  simp only[Z,j6];exact(I j c _ hc Z).ro⟩ b0
 unfold zY3 at a2;generalize y:({tm:=[],lo:=[],ro:=ze1 own (d.flatMap AV.cvs) 0,stk:=[],nid:=(d.flatMap AV.cvs).length,ep:=0}:St)=st at a2;have a9:st.ro=ze1 own (zy d) 0:=(by rw[<- y];rfl);have g:∀r R,zl st.ro r=some R->R.ep=none/\r<(zy d).length/\own[r]?=some R.own/\(zy d)[r]?=some (.s R.t R.l):=(by intro r R z;rw[a9]at z;obtain⟨_,t,l,B,_,_,h5,h6⟩:=zlC own (zy d) 0 r R z;rw[h6]at h5 ⊢;simp only[vL]at B h5;exact⟨rfl,(qA.1 B).1,h5,B⟩);have T:∀l,zl st.lo l=none:=λl=>(by rw[<- y];rfl);let E:Env:={ρ:=λn=>(J[n]?).getD undef,φ:=K,β:=λ_=>0,κ:=w}
 let S0:zV:=λb=>(∃j,j<(zy d).length/\zbd own j/\K j b)\/b=w.heap.size
 have hS:Sim w S0 (λn=>n<(zy d).length) st E #[] [] w:=by refine⟨⟨rfl,rfl,rfl,qQ _,λ_ _ _=>rfl,λr R z=>?_,λr R z x q=>?_,λr R z U=>?_,λhz _ _ _ _ _ _=>absurd (.inr rfl) hz,λr R r' R' z U b9 _ A x q=>?_,λl cs Y=>?_,λl l' cs d5 Y=>?_,λl cs r R Y=>?_,λr R e z X=>?_,rfl⟩,⟨λn R L=>?_,λn cs L=>?_,λm F=>?_,λf hf=>?_⟩,⟨?_,λi m v F=>?_⟩,?_⟩;{obtain⟨_,H,B,h3⟩:=g r R (zbs z).1;have Z:=qB (show r<J.length by omega);show Rep R.own w ((J[r]?).getD undef) _ (K r);have:=I r _ _ h3 Z;rw[B] at this;rw[Z];exact this};{obtain⟨_,H,_,_⟩:=g r R (zbs z).1;exact a4 r x H q};{obtain⟨X,H,B,_⟩:=g r R (zbs z).1;refine⟨X,λx q=>.inl (.inl ⟨r,H,?_,q⟩)⟩;show own[r]?=some true;rw[B,U]};{obtain⟨_,H,B,_⟩:=g r R (zbs z).1;obtain⟨_,a0,_,_⟩:=g r' R' (zbs b9).1;exact b8 r r' x H a0 (by show own[r]?=some true;rw[B,U]) A q};{rw [T]at Y;cases Y};{rw [T]at Y;cases Y};{rw [T]at Y;cases Y};{rw [(g r R z).1]at X;cases X};{exact(g n R L).2.1};{rw [T]at L;cases L};{rw [<- y]at F;simp at F};{rw [<- y]at hf;simp at hf};{rw [<- y];rfl};{rw [<- y]at F;simp at F};{rw [<- y];trivial}
 obtain⟨c1,c2⟩:=zhl (w:=w) (st:=st) (E:=E) d J 0 b1 (λi c u hc Z=>by
  have V:=I i c u hc Z;refine⟨?_,V.one⟩;cases c with
  |i k n=>exact V.int_inv
  |b x=>exact V.bool_inv
  |s t l=>
   obtain⟨⟨a,b3,hv,_⟩,_⟩:=V.len;refine⟨⟨a,_,b3,hv⟩,λR z=>?_⟩;have e:0+i=i:=by omega
   show some ((J[0+i]?).getD undef)=some u
   rw[e,Z];rfl)
 have d4:st.nid=(zy d).length:=by rw[<- y];rfl
 obtain⟨_,S⟩:=zk1 hO (zjw hO (tms:=tms) (N:=N) D) f _ st _ G a2 w S0 _ E #[] [] w (zbS d J).toArray
  (λv M=>M.os=w.os/\M.tape=w.tape/\M.output=w.output/\w.heap.size<=M.heap.size/\
   (∀b,b<w.heap.size->(∀j,j<(zy d).length->zbd own j->¬ K j b)->M.heap[b]?=w.heap[b]?)/\
   ∃(ys:List Value) (Kr:Nat->zV),zdn true M (zy G) ys Kr/\v=zkk (zbS G ys)/\
    (∀i x,i<(zy G).length->Kr i x->x<M.heap.size/\((∃j,j<(zy d).length/\zbd own j/\K j x)\/w.heap.size<=x))/\
    (∀i j x,i<(zy G).length->j<(zy G).length->i≠j->Kr i x->¬ Kr j x)/\
    (∀ja jr js,(none:Option (Nat×Nat×List (List Nat)))=some (ja,jr,js)->∀t l u,(zy d)[ja]?=some (.s t l)->J[ja]?=some u->∃l',(zy G)[jr]?=some (.s t l')/\ys[jr]?=some u/\
     ∀p v,zX w t u p=some v->js.any (λc=>c.isPrefixOf (cols p))=false->zX M t u p=some v)) hS (λn L h=>by omega)
  (by simp[c1]) (λi m v F hv=>by
   rw[qS]at F;cases q:(zcX d 0)[i]? with
   |none=>rw[q]at F;cases F
   |some x=>rw[q]at F;cases F;exact c2 i x v q (by simpa using hv))
  (λm F n L=>by
   obtain⟨x,q,rfl⟩:=jD.1 F;simp only[MV.ids,zbF,qR]at L;obtain⟨a,W,L⟩:=L;have:=(zfv d 0 n x a q W L).2;omega)
  (λU' d2 E' M d3 v c0 _ _ _ hv _ a7=>by
   obtain⟨us,rfl,c7,c8⟩:=zyJ hv;obtain⟨O,ys,ks,hG,d0,d1,rfl,_⟩:=zi3 d3 [] G us a7 c7 c8;have Q:=c0.mem;have a8:∀i,i<(zy G).length->∃a,O[i]?=some a:=λi hi=>⟨_,qB (by rw[<- hG.len];exact hi)⟩
   have a1:∀i x,cφ E' O i x->∃r∈ks,∃R,O[i]?=some (.sl r [])/\d2.root r=some R/\R.own=true/\E'.φ r x:=by intro i x q;obtain⟨a,W,q⟩:=zt3 q;obtain⟨r,V,rfl,c6⟩:=hG.fi W q;obtain⟨R,z,U⟩:=hG.own r V;exact⟨r,V,R,W,z,U,c6⟩
   refine⟨Q.os,Q.tape,Q.output,Q.size,λb hb c4=>Q.keep b hb λh=>h.elim (λ⟨j,hj,U,hk⟩=>c4 j hj U hk) (λh=>by omega),ys,cφ E' O,⟨by rw[d0,hG.len],λi c x hc q=>?_⟩,rfl,λi x hi q=>?_,λi j x hi hj A q c9=>?_,λja jr js h=>by cases h⟩
   .obtain⟨a,W⟩:=a8 i (qA.1 hc).1;rw[zhR W];exact hG.rep Q W hc (d1 i a x W q)
   .obtain⟨r,V,R,_,H,B,h4⟩:=a1 i x q;exact⟨Q.rlt r R H x h4,((Q.mine r R H B).2 x h4).elim (λh=>h.imp (λh=>h) λh=>k6 h.symm) .inr⟩
   .obtain⟨r,V,R,g1,H,B,h4⟩:=a1 i x q;obtain⟨r',d6,R',b5,a0,b6,b7⟩:=a1 j x c9;have:=Q.own_apart H B a0 b6 h4 b7;subst this;exact A (hG.inj i j r g1 b5))
 refine S.mono ?_;intro ex M X;cases ex with|returned v=>exact X|panicked b4=>exact X.elim|outgrown=>exact X.elim
def zmu (hO:EngOk C){f:FuncId}{own:List Bool}{G jr:Nat}{js:List (List Nat)}{kt:Ty}{c7:LW}(hf:FnOk C.P f)(b6:ziA f=[[]])(h:∀(d:LA) (O:LA),own.length=(zy d).length->(∃(w:World) (A:Nat->Value) (K:Nat->zV),∀(j:Nat) (c:CV),(zy d)[j]?=some c->Rep false w (A j) c (K j))->c7 d=some (true,O)->(∃l,(zy d)[G]?=some (.s kt l))/\own[G]?=some true/\∃tms N D,zD5 C tms N D f own G jr js kt d=some O)(H:own.isEmpty=false:=by rfl):zeA C.P f own (some (G,jr,js)) c7:=by
 refine zeA.of (by rintro rfl;cases H) ?_;intro al b5;rw[b6,qD]at b5;subst b5;refine⟨hf,λw K d A O b0 e5 I b3 b2 _ c2=>?_⟩;have d2:=λi j x hi hj ho H=>b2 i j x hi hj ho H (by simp)
 obtain⟨⟨kl,a1⟩,f8,tms,N,D,a8⟩:=h d O e5 ⟨w,λj=>(A[j]?).getD undef,K,λj c hc=>by
  have d8:=(qA.1 hc).1;have hu:=qB (show j<A.length by rw[b0];exact d8)
  simp only[hu,j6];exact(I j c _ hc hu).ro⟩ c2
 unfold zD5 at a8;have c0:G<(zy d).length:=(qA.1 a1).1;have d5:G<A.length:=(by rw[b0];exact c0);have a9:=qB d5;generalize B:({tm:=[.v<|.at<|.kp G js kt],lo:=[],ro:=ze1 own (d.flatMap AV.cvs) 0,stk:=[],nid:=(d.flatMap AV.cvs).length,ep:=0}:St)=st at a8;have c1:st.ro=ze1 own (zy d) 0:=(by rw[<- B];rfl);have g:∀r R,zl st.ro r=some R->R.ep=none/\r<(zy d).length/\own[r]?=some R.own/\(zy d)[r]?=some (.s R.t R.l):=(by intro r R z;rw[c1]at z;obtain⟨_,t,l,L,_,_,h5,h6⟩:=zlC own (zy d) 0 r R z;rw[h6]at h5 ⊢;simp only[vL]at L h5;exact⟨rfl,(qA.1 L).1,h5,L⟩);have a2:∀l,zl st.lo l=none:=λl=>(by rw[<- B];rfl);let E:Env:={ρ:=λn=>(A[n]?).getD undef,φ:=K,β:=λ_=>0,κ:=w}
 let S0:zV:=λb=>(∃j,j<(zy d).length/\zbd own j/\K j b)\/b=w.heap.size
 have hS:Sim w S0 (λn=>n<(zy d).length) st E #[A[G]] [] w:=by refine⟨⟨rfl,rfl,rfl,qQ _,λ_ _ _=>rfl,λr R z=>?_,λr R z x y=>?_,λr R z ho=>?_,λhz _ _ _ _ _ _=>absurd (.inr rfl) hz,λr R r' R' z ho d3 _ H x y=>?_,λl cs hl=>?_,λl l' cs f7 hl=>?_,λl cs r R hl=>?_,λr R e z W=>?_,rfl⟩,⟨λn R M=>?_,λn cs M=>?_,λm F=>?_,λf hf=>?_⟩,⟨?_,λi m v F X=>?_⟩,?_⟩;{obtain⟨_,T,L,h3⟩:=g r R (zbs z).1;have hu:=qB (show r<A.length by omega);show Rep R.own w ((A[r]?).getD undef) _ (K r);have:=I r _ _ h3 hu;rw[L] at this;rw[hu];exact this};{obtain⟨_,T,_,_⟩:=g r R (zbs z).1;exact b3 r x T y};{obtain⟨W,T,L,_⟩:=g r R (zbs z).1;refine⟨W,λx y=>.inl (.inl ⟨r,T,?_,y⟩)⟩;show own[r]?=some true;rw[L,ho]};{obtain⟨_,T,L,_⟩:=g r R (zbs z).1;obtain⟨_,a6,_,_⟩:=g r' R' (zbs d3).1;exact d2 r r' x T a6 (by show own[r]?=some true;rw[L,ho]) H y};{rw [a2]at hl;cases hl};{rw [a2]at hl;cases hl};{rw [a2]at hl;cases hl};{rw [(g r R z).1]at W;cases W};{exact(g n R M).2.1};{rw [a2]at M;cases M};{rw [<- B]at F;simp only[qD]at F;subst F;intro n M;simp only[MV.ids,zbF,zU,kC,uK,At.ids,zbr,zbv,jA,qD]at M;subst M;exact c0};{rw [<- B]at hf;simp at hf};{rw [<- B];rfl};{rw [<- B]at F;cases i with|succ i=>simp at F|zero=>simp only[qI,qC]at F X;subst F;have X:A[G]=v:=(by simpa using X);subst X;have U:=I G _ _ a1 a9;obtain⟨⟨a,a5,f2,_⟩,_⟩:=U.len;refine⟨⟨a,_,a5,f2⟩,λR z=>?_⟩;obtain⟨_,_,_,h4⟩:=g G R (zbs z).1;rw[a1]at h4;cases h4;refine⟨rfl,?_,λp u hp _=>hp⟩;show (A[G]?).getD undef=A[G];rw[a9];rfl};{rw [<- B];trivial}
 obtain⟨d6,d7⟩:=zhl (w:=w) (st:=st) (E:=E) d A 0 b0 (λi c u hc hu=>by
  have U:=I i c u hc hu;refine⟨?_,U.one⟩;cases c with
  |i k n=>exact U.int_inv
  |b x=>exact U.bool_inv
  |s t l=>
   obtain⟨⟨a,a5,X,_⟩,_⟩:=U.len;refine⟨⟨a,_,a5,X⟩,λR z=>?_⟩;have e:0+i=i:=by omega
   show some ((A[0+i]?).getD undef)=some u
   rw[e,hu];rfl)
 have f6:st.nid=(zy d).length:=by rw[<- B];rfl
 obtain⟨_,Z⟩:=zk1 hO (zjw hO (tms:=tms) (N:=N) D) f _ st _ O a8 w S0 _ E #[A[G]] [] w (zbS d A).toArray
  (λv Y=>Y.os=w.os/\Y.tape=w.tape/\Y.output=w.output/\w.heap.size<=Y.heap.size/\
   (∀b,b<w.heap.size->(∀j,j<(zy d).length->zbd own j->¬ K j b)->Y.heap[b]?=w.heap[b]?)/\
   ∃(ys:List Value) (Kr:Nat->zV),zdn true Y (zy O) ys Kr/\v=zkk (zbS O ys)/\
    (∀i x,i<(zy O).length->Kr i x->x<Y.heap.size/\((∃j,j<(zy d).length/\zbd own j/\K j x)\/w.heap.size<=x))/\
    (∀i j x,i<(zy O).length->j<(zy O).length->i≠j->Kr i x->¬ Kr j x)/\
    (∀a3 a4 b1,some (G,jr,js)=some (a3,a4,b1)->∀t l u,(zy d)[a3]?=some (.s t l)->A[a3]?=some u->∃l',(zy O)[a4]?=some (.s t l')/\ys[a4]?=some u/\
     ∀p v,zX w t u p=some v->b1.any (λc=>c.isPrefixOf (cols p))=false->zX Y t u p=some v)) hS (λn M h=>by omega)
  (by simp[d6]) (λi m v F X=>by
   rw[qS]at F;cases y:(zcX d 0)[i]? with
   |none=>rw[y]at F;cases F
   |some x=>rw[y]at F;cases F;exact d7 i x v y (by simpa using X))
  (λm F n M=>by
   obtain⟨x,y,rfl⟩:=jD.1 F;simp only[MV.ids,zbF,qR]at M;obtain⟨a,Q,M⟩:=M;have:=(zfv d 0 n x a y Q M).2;omega)
  (λU' f4 E' Y f5 v b4 _ _ _ X _ q=>by
   obtain⟨us,rfl,f0,f1⟩:=zyJ X;split at q
   rotate_left
   .cases q
   rename_i n J t' m e8 e6;cases a0:(Nat.beq n m&&(J==js&&decide (t'=kt))) with
   |false=>rw[a0]at q;cases q
   |true=>
   rw[a0]at q;simp only[cond_true]at q;simp only[qE,kQ,qJ,q9]at a0;obtain⟨e0,hJ,ht⟩:=a0;subst e0 hJ ht;obtain⟨S,ys,ks,hG,c4,c6,rfl,_,b7⟩:=zi3 f5 [] O us q f0 f1;have V:=b4.mem;have b9:∀i,i<(zy O).length->∃a,S[i]?=some a:=λi hi=>⟨_,qB (by rw[<- hG.len];exact hi)⟩
   have a7:∀i x,cφ E' S i x->∃r∈ks,∃R,S[i]?=some (.sl r [])/\f4.root r=some R/\R.own=true/\E'.φ r x:=by intro i x y;obtain⟨a,Q,y⟩:=zt3 y;obtain⟨r,U,rfl,e7⟩:=hG.fi Q y;obtain⟨R,z,ho⟩:=hG.own r U;exact⟨r,U,R,Q,z,ho,e7⟩
   refine⟨V.os,V.tape,V.output,V.size,λb hb d9=>V.keep b hb λh=>h.elim (λ⟨j,hj,ho,hk⟩=>d9 j hj ho hk) (λh=>by omega),ys,cφ E' S,⟨by rw[c4,hG.len],λi c x hc y=>?_⟩,rfl,λi x hi y=>?_,λi j x hi hj H y f3=>?_,λa3 a4 b1 W t l u b8 c3=>?_⟩
   .obtain⟨a,Q⟩:=b9 i (qA.1 hc).1;rw[zhR Q];exact hG.rep V Q hc (c6 i a x Q y)
   .obtain⟨r,U,R,_,T,L,h4⟩:=a7 i x y;exact⟨V.rlt r R T x h4,((V.mine r R T L).2 x h4).elim (λh=>h.imp (λh=>h) λh=>k6 h.symm) .inr⟩
   .obtain⟨r,U,R,g1,T,L,h4⟩:=a7 i x y;obtain⟨r',f9,R',c9,a6,d0,d1⟩:=a7 j x f3;have:=V.own_apart T L a6 d0 h4 d1;subst this;exact H (hG.inj i j r g1 c9)
   .cases W;rw[a1]at b8;cases b8;rw[a9]at c3;cases c3;have Q:S[jr]?=some (.sl n []):=by rw[b7];exact e6
    rcases hG.get jr _ Q with⟨_,_,h,_⟩|⟨_,h,_⟩|⟨r,R,h,z,_,d4⟩
    .cases h
    .cases h
    .cases h;have e9:=b4.tm.2 0 (.v<|.at<|.kp n J t') A[G] (by rw[e8];rfl) (by simp)
     obtain⟨e1,e2,e3⟩:=e9.2 R z;have c5:jr<ys.length:=by rw[c4];exact(qA.1 Q).1
     have hy:=qB c5;have e4:=(c6 jr _ _ Q hy).2 R z;simp only[zX,qC] at e4;refine⟨e1 ▸ R.l,?_,by rw[hy,<- e4,e2],?_⟩
     .rw [d4];cases e1;rfl
     .rw [V.κ] at e3;exact e3)
 refine Z.mono ?_;intro ex Y W;cases ex with|returned v=>exact W|panicked c8=>exact W.elim|outgrown=>exact W.elim
def zSv (b:List (Nat×Nat)):At->At
 |.sl r []=>match b.find? (λx=>Nat.beq x.1 r) with
  |some x=>.sl x.2 []
  |none=>.sl r []
 |a=>a
def zSb (C:Cfg)(tms:FuncId->Nat->Option Tmpl)(N D:Nat)(f:FuncId)(own:List Bool)(b:List (Nat×Nat))(e g:Nat)(c:List (List Nat))(t:Ty)(a:LA):Option Ans :=
 zvv C tms N (zr2 C tms N D) f (((zcX a 0).map .v).map (zkh<|zSv b)) {tm:=[.v<|.at<|.kp e c t],lo:=[],ro:=(ze1 own (a.flatMap AV.cvs) 0).filter (λx=>!b.any λy=>Nat.beq y.1 x.1),stk:=[],nid:=(a.flatMap AV.cvs).length,ep:=0} λd st=>
  match st.tm,(d.flatMap zU)[g]? with
  |[.v<|.at<|.kp n J h],some (.sl m [])=>cond (Nat.beq n m&&(J==c&&decide (h=t))) (zrh st d []) none
  |_,_=>none
def zUK (a:At):Prop:=(∃k n,a = .i k n)\/(∃b,a = .b b)\/∃r,a = .sl r []
def ztl:∀(c:LC) (id:Nat) (a:At),a∈zhm c id->zUK a
 |[],_,_,h=>by simp[zhm]at h
 |.i k n::c,id,a,h=>by simp only[zhm,qG]at h;rcases h with rfl|h;{exact .inl ⟨k,n,rfl⟩};{exact ztl c (id+1) a h}
 |.b x::c,id,a,h=>by simp only[zhm,qG]at h;rcases h with rfl|h;{exact .inr (.inl ⟨x,rfl⟩)};{exact ztl c (id+1) a h}
 |.s t l::c,id,a,h=>by simp only[zhm,qG]at h;rcases h with rfl|h;{exact .inr (.inr ⟨id,rfl⟩)};{exact ztl c (id+1) a h}
def zwV:∀(e:LA) (id:Nat) (x:TV) (a:At),x∈zcX e id->a∈zU x->zUK a
 |[],_,_,_,h,_=>by simp[zcX]at h
 |.one c::e,id,x,a,h,d=>by simp only[zcX,qG]at h;rcases h with rfl|h;{simp only [zU,qD]at d;subst d;cases c with|i k n=>exact .inl ⟨k,n,rfl⟩|b x=>exact .inr (.inl ⟨x,rfl⟩)|s t l=>exact .inr (.inr ⟨id,rfl⟩)};{exact zwV e (id+1) x a h d}
 |.agg f::e,id,x,a,h,d=>by simp only[zcX,qG]at h;rcases h with rfl|h;{exact ztl f id a d};{exact zwV e (id+f.length) x a h d}
def z8Z {w1:World}{st1:St}{E1:Env}{w:World}{st:St}{E:Env}{f:At->At}{P:At->Prop}(T:∀a v,P a->VA w st E a v->VA w1 st1 E1 (f a) v){x:TV}{v:Value}(g:∀a∈zU x,P a)(h:VT w st E x v):VT w1 st1 E1 (zru f x) v:=by rcases x with a|l;{exact T a v (g a (by simp[zU])) h};{obtain⟨n,k,m,e⟩:=h;refine⟨n,k,by simp[m],λj a u c i=>?_⟩;rw[qS]at c;cases d:l[j]? with|none=>rw[d]at c;cases c|some b=>rw[d]at c;cases c;exact⟨(e j b u d i).1,T _ _ (g b (by simp only[zU];exact qH d)) (e j b u d i).2⟩}
def z3D {b:List (Nat×Nat)}{a:At}{n:Nat}(h:n∈(zSv b a).ids):n∈a.ids\/∃r,(r,n)∈b:=by unfold zSv at h;split at h;{split at h;{rename_i r x c;simp only[At.ids,zbr,zbv,jA,qD]at h;subst h;exact .inr ⟨x.1,uP c⟩};{exact .inl h}};{exact .inl h}
def zrg {d:Type}(q:Nat->Bool):∀(l:List (Nat×d)) (n:Nat) (x:d),zl (l.filter λy=>q y.1) n=some x->q n=true/\zl l n=some x
 |[],_,_,h=>by simp[zl]at h
 |(k,v)::l,n,x,h=>by cases b:q k with|false=>rw[List.filter_cons_of_neg (by simp[b])]at h;obtain⟨c,e⟩:=zrg q l n x h;refine⟨c,?_⟩;simp only[zl];(cases a:k==n with|false=>exact e|true=>have:k=n:=(by simpa using a);subst this;rw[b]at c;cases c)|true=>rw[List.filter_cons_of_pos (by simp[b])]at h;simp only[zl]at h ⊢;(cases a:k==n with|false=>rw[a]at h;exact zrg q l n x (by simpa using h)|true=>rw[a]at h;have:k=n:=(by simpa using a);subst this;exact⟨b,by simpa using h⟩)
def zMY (hO:EngOk C){f:FuncId}{own:List Bool}{M jr:Nat}{js:List (List Nat)}{kt:Ty}{d0:LW}(hf:FnOk C.P f)(h:∀(W:List (Nat×Nat)) (d:LA) (V:LA),W∈ziA f->(∀j i,(j,i)∈W->(zy d)[j]?=(zy d)[i]?)->own.length=(zy d).length->(∃(w:World) (B:Nat->Value) (K:Nat->zV),∀(j:Nat) (c:CV),(zy d)[j]?=some c->Rep false w (B j) c (K j))->d0 d=some (true,V)->(∃l,(zy d)[M]?=some (.s kt l))/\own[M]?=some true/\∃tms N D,zSb C tms N D f own W M jr js kt d=some V)(Z:own.isEmpty=false:=by rfl):zeA C.P f own (some (M,jr,js)) d0:=by
 refine zeA.of (by rintro rfl;cases Z) ?_
 intro W d5;refine⟨hf,λw K d B V b2 f1 S b6 b5 Y c4=>?_⟩;obtain⟨⟨kl,a2⟩,g7,tms,N,D,b0⟩:=h W d V d5 (λj i d8=>(Y j i d8).2.2.2.1) f1 ⟨w,λj=>(B[j]?).getD undef,K,λj c hc=>by
  have e6:=(qA.1 hc).1;have hu:=qB (show j<B.length by rw[b2];exact e6)
  simp only[hu,j6];exact(S j c _ hc hu).ro⟩ c4
 unfold zSb at b0;have c2:M<(zy d).length:=(qA.1 a2).1;have d9:M<B.length:=(by rw[b2];exact c2);have b1:=qB d9;generalize H:({tm:=[.v<|.at<|.kp M js kt],lo:=[],ro:=(ze1 own (d.flatMap AV.cvs) 0).filter (λx=>!W.any λy=>Nat.beq y.1 x.1),stk:=[],nid:=(d.flatMap AV.cvs).length,ep:=0}:St)=st at b0;have a6:st.ro=(ze1 own (zy d) 0).filter (λx=>!W.any λy=>Nat.beq y.1 x.1):=(by rw[<- H];rfl);have e8:∀r R,zl st.ro r=some R->∀i,(r,i)∉W:=(by intro r R z i hi;rw[a6]at z;have:=(zrg (λn=>!W.any λy=>Nat.beq y.1 n) _ r R z).1;simp only[jH,kR] at this;exact this _ hi (Nat.beq_refl r));have g:∀r R,zl st.ro r=some R->R.ep=none/\r<(zy d).length/\own[r]?=some R.own/\(zy d)[r]?=some (.s R.t R.l):=(by intro r R z;rw[a6]at z;obtain⟨_,t,l,F,_,_,h5,h6⟩:=zlC own (zy d) 0 r R (zrg (λn=>!W.any λy=>Nat.beq y.1 n) _ r R z).2;rw[h6]at h5 ⊢;simp only[vL]at F h5;exact⟨rfl,(qA.1 F).1,h5,F⟩);have a3:∀l,zl st.lo l=none:=λl=>(by rw[<- H];rfl);let E:Env:={ρ:=λn=>(B[n]?).getD undef,φ:=K,β:=λ_=>0,κ:=w}
 let S0:zV:=λb=>(∃j,j<(zy d).length/\zbd own j/\K j b)\/b=w.heap.size
 have hS:Sim w S0 (λn=>n<(zy d).length) st E #[B[M]] [] w:=(by refine⟨⟨rfl,rfl,rfl,qQ _,λ_ _ _=>rfl,λr R z=>?_,λr R z x q=>?_,λr R z ho=>?_,λhz _ _ _ _ _ _=>absurd (.inr rfl) hz,λr R r' R' z ho b7 _ Z x q=>?_,λl cs hl=>?_,λl l' cs g6 hl=>?_,λl cs r R hl=>?_,λr R e z U=>?_,rfl⟩,⟨λn R O=>?_,λn cs O=>?_,λm G=>?_,λf hf=>?_⟩,⟨?_,λi m v G L=>?_⟩,?_⟩;{obtain⟨_,T,F,h3⟩:=g r R (zbs z).1;have hu:=qB (show r<B.length by omega);show Rep R.own w ((B[r]?).getD undef) _ (K r);have:=S r _ _ h3 hu;rw[F] at this;rw[hu];exact this};{obtain⟨_,T,_,_⟩:=g r R (zbs z).1;exact b6 r x T q};{obtain⟨U,T,F,_⟩:=g r R (zbs z).1;refine⟨U,λx q=>.inl (.inl ⟨r,T,?_,q⟩)⟩;show own[r]?=some true;rw[F,ho]};{obtain⟨_,T,F,_⟩:=g r R (zbs z).1;obtain⟨_,a8,_,_⟩:=g r' R' (zbs b7).1;exact b5 r r' x T a8 (by show own[r]?=some true;rw[F,ho]) Z (e8 r' R' (zbs b7).1 r) q};{rw [a3]at hl;cases hl};{rw [a3]at hl;cases hl};{rw [a3]at hl;cases hl};{rw [(g r R z).1]at U;cases U};{exact(g n R O).2.1};{rw [a3]at O;cases O};{rw [<- H]at G;simp only[qD]at G;subst G;intro n O;simp only[MV.ids,zbF,zU,kC,uK,At.ids,zbr,zbv,jA,qD]at O;subst O;exact c2};{rw [<- H]at hf;simp at hf};{rw [<- H];rfl};{rw [<- H]at G;cases i with|succ i=>simp at G|zero=>simp only[qI,qC]at G L;subst G;have L:B[M]=v:=(by simpa using L);subst L;have Q:=S M _ _ a2 b1;obtain⟨⟨a,a7,f9,_⟩,_⟩:=Q.len;refine⟨⟨a,_,a7,f9⟩,λR z=>?_⟩;obtain⟨_,_,_,h4⟩:=g M R (zbs z).1;rw[a2]at h4;cases h4;refine⟨rfl,?_,λp u hp _=>hp⟩;show (B[M]?).getD undef=B[M];rw[b1];rfl};{rw [<- H];trivial});let b4:St:={st with ro:=(List.range (zy d).length).map (λr=>(r,(⟨.int,[],false,none⟩:Root))),ep:=0}
 have c5:∀r,r<(zy d).length->b4.root r=some ⟨.int,[],false,none⟩:=by intro r Q;have:∀(n k:Nat),k<=r->r<k+n->zl ((List.range' k n).map λr=>(r,(⟨.int,[],false,none⟩:Root))) r=some ⟨.int,[],false,none⟩:=(by intro n;induction n with|zero=>intro k T F;omega|succ n ih=>intro k T F;simp only[vJ,jF,zl];by_cases U:k=r;{subst U;simp};{have hb:(k==r)=false:=(by simpa using U);simp only[hb,kH,if_false];exact ih (k+1) (by omega) (by omega)});have F:=this (zy d).length 0 (j7 _) (by omega);rw[<- List.range_eq_range']at F;exact zgr F (.inl rfl)
 obtain⟨e0,e5⟩:=zhl (w:=w) (st:=b4) (E:=E) d B 0 b2 (λi c u hc hu=>by
  have Q:=S i c u hc hu;refine⟨?_,Q.one⟩;cases c with
  |i k n=>exact Q.int_inv
  |b x=>exact Q.bool_inv
  |s t l=>
   obtain⟨⟨a,a7,L,_⟩,_⟩:=Q.len;refine⟨⟨a,_,a7,L⟩,λR z=>?_⟩;have e:0+i=i:=by omega
   show some ((B[0+i]?).getD undef)=some u
   rw[e,hu];rfl)
 have hT:∀a v,(zUK a/\∀n∈a.ids,n<(zy d).length)->VA w b4 E a v->VA w st E (zSv W a) v:=(by intro a v ⟨f2,d7⟩ L;have c3:∀r,∀i,(r,i)∈W->E.ρ i=E.ρ r:=(by intro r i hi;show (B[i]?).getD undef=(B[r]?).getD undef;rw[(Y r i hi).2.2.1]);rcases f2 with⟨k,n,rfl⟩|⟨b,rfl⟩|⟨r,rfl⟩;{exact L};{exact L};{have Q:r<(zy d).length:=d7 r (by simp[At.ids,zbr]);have e1:=L.2 _ (c5 r Q);simp only[zX,qC] at e1;simp only[zSv];split;{rename_i x q;have G:=uP q;have g2:x.1=r:=kO (by simpa using List.find?_some q);subst g2;refine⟨L.1,λR _=>?_⟩;simp only[zX,qC];rw[c3 x.1 x.2 G];exact e1};{refine⟨L.1,λR _=>?_⟩;simp only[zX,qC];exact e1}});have g5:st.nid=(zy d).length:=by rw[<- H];rfl
 obtain⟨_,a0⟩:=zk1 hO (zjw hO (tms:=tms) (N:=N) D) f _ st _ V b0 w S0 _ E #[B[M]] [] w (zbS d B).toArray
  (λv w'=>w'.os=w.os/\w'.tape=w.tape/\w'.output=w.output/\w.heap.size<=w'.heap.size/\
   (∀b,b<w.heap.size->(∀j,j<(zy d).length->zbd own j->¬ K j b)->w'.heap[b]?=w.heap[b]?)/\
   ∃(ys:List Value) (Kr:Nat->zV),zdn true w' (zy V) ys Kr/\v=zkk (zbS V ys)/\
    (∀i x,i<(zy V).length->Kr i x->x<w'.heap.size/\((∃j,j<(zy d).length/\zbd own j/\K j x)\/w.heap.size<=x))/\
    (∀i j x,i<(zy V).length->j<(zy V).length->i≠j->Kr i x->¬ Kr j x)/\
    (∀a4 a5 b3,some (M,jr,js)=some (a4,a5,b3)->∀t l u,(zy d)[a4]?=some (.s t l)->B[a4]?=some u->∃l',(zy V)[a5]?=some (.s t l')/\ys[a5]?=some u/\
     ∀p v,zX w t u p=some v->b3.any (λc=>c.isPrefixOf (cols p))=false->zX w' t u p=some v)) hS (λn O h=>by omega)
  (by simp[e0]) (λi m v G L=>by
   rw[qS,qS]at G;cases q:(zcX d 0)[i]? with
   |none=>rw[q]at G;cases G
   |some x=>
    rw[q]at G;cases G;exact z8Z hT (λa I=>⟨zwV d 0 x a (qH q) I,λn O=>by
     have:=(zfv d 0 n x a (qH q) I O).2;omega⟩) (e5 i x v q (by simpa using L)))
  (λm G n O=>by
   obtain⟨m0,e7,rfl⟩:=jD.1 G;obtain⟨x,q,rfl⟩:=jD.1 e7;obtain⟨a,I,O⟩:=zP1 O;simp only[zbF]at I;rcases z3D O with h|⟨r,h⟩
   .have:=(zfv d 0 n x a q I h).2;omega
   .obtain⟨_,_,_,_,t,l,h5⟩:=Y r n h;exact(qA.1 h5).1)
  (λU' g3 E' w' g4 v b8 _ _ _ L _ A=>by
   obtain⟨us,rfl,f7,f8⟩:=zyJ L;split at A
   rotate_left
   .cases A
   rename_i n J t' m f5 f3;cases a1:(Nat.beq n m&&(J==js&&decide (t'=kt))) with
   |false=>rw[a1]at A;cases A
   |true=>
   rw[a1]at A;simp only[cond_true]at A;simp only[qE,kQ,qJ,q9]at a1;obtain⟨f0,hJ,ht⟩:=a1;subst f0 hJ ht;obtain⟨X,ys,ks,hG,c7,c9,rfl,_,b9⟩:=zi3 g4 [] V us A f7 f8;have hM:=b8.mem;have c1:∀i,i<(zy V).length->∃a,X[i]?=some a:=λi hi=>⟨_,qB (by rw[<- hG.len];exact hi)⟩
   have a9:∀i x,cφ E' X i x->∃r∈ks,∃R,X[i]?=some (.sl r [])/\g3.root r=some R/\R.own=true/\E'.φ r x:=by intro i x q;obtain⟨a,I,q⟩:=zt3 q;obtain⟨r,Q,rfl,f4⟩:=hG.fi I q;obtain⟨R,z,ho⟩:=hG.own r Q;exact⟨r,Q,R,I,z,ho,f4⟩
   refine⟨hM.os,hM.tape,hM.output,hM.size,λb hb e9=>hM.keep b hb λh=>h.elim (λ⟨j,hj,ho,hk⟩=>e9 j hj ho hk) (λh=>by omega),ys,cφ E' X,⟨by rw[c7,hG.len],λi c x hc q=>?_⟩,rfl,λi x hi q=>?_,λi j x hi hj Z q g0=>?_,λa4 a5 b3 U t l u c0 c6=>?_⟩
   .obtain⟨a,I⟩:=c1 i (qA.1 hc).1;rw[zhR I];exact hG.rep hM I hc (c9 i a x I q)
   .obtain⟨r,Q,R,_,T,F,h4⟩:=a9 i x q;exact⟨hM.rlt r R T x h4,((hM.mine r R T F).2 x h4).elim (λh=>h.imp (λh=>h) λh=>k6 h.symm) .inr⟩
   .obtain⟨r,Q,R,g1,T,F,h4⟩:=a9 i x q;obtain⟨r',g8,R',d2,a8,d3,d4⟩:=a9 j x g0;have:=hM.own_apart T F a8 d3 h4 d4;subst this;exact Z (hG.inj i j r g1 d2)
   .cases U;rw[a2]at c0;cases c0;rw[b1]at c6;cases c6;have I:X[jr]?=some (.sl n []):=by rw[b9];exact f3
    rcases hG.get jr _ I with⟨_,_,h,_⟩|⟨_,h,_⟩|⟨r,R,h,z,_,d6⟩
    .cases h
    .cases h
    .cases h;have f6:=b8.tm.2 0 (.v<|.at<|.kp n J t') B[M] (by rw[f5];rfl) (by simp)
     obtain⟨e1,e2,e3⟩:=f6.2 R z;have c8:jr<ys.length:=by rw[c7];exact(qA.1 I).1
     have hy:=qB c8;have e4:=(c9 jr _ _ I hy).2 R z;simp only[zX,qC] at e4;refine⟨e1 ▸ R.l,?_,by rw[hy,<- e4,e2],?_⟩
     .rw [d6];cases e1;rfl
     .rw [hM.κ] at e3;exact e3)
 refine a0.mono ?_;intro ex w' U;cases ex with|returned v=>exact U|panicked d1=>exact U.elim|outgrown=>exact U.elim
end
def zbo (h:ad):LC:=[.s (.sl .int) h.ag,.s .mon h.aa,.s .entry h.ao,.s .entry h.an]
def zm0 (c:Ctl):LC:=[.i .i64 c.aq,.i .i64 c.Post,.b c.Open]
def zgl (e:aD):LC:=[.i .i64 e.Kind,.i .i64 e.af,.b e.Write,.i .i64 e.N]
structure Cur where
 b:List Int
 i:Int
 h:Int
def zbV (c:Cur):LC:=[.s .u8 c.b,.i .i64 c.i,.i .i64 c.h]
def zx:List (Nat×Nat×Tmpl)->FuncId->Nat->Option Tmpl
 |[],_,_=>none
 |(g,c,T)::r,f,b=>cond (Nat.beq g f) (cond (Nat.beq c b) (some T)<|zx r f b) (zx r f b)
def pc (p:Prop):Bool:=@decide p (Classical.propDecidable p)
def zS {p:Prop}:pc p=true↔p:=by unfold pc;exact @decide_eq_true_iff p (Classical.propDecidable p)
def zY {p:Prop}(h:p):pc p=true:=zS.2 h
inductive CVB (K:Nat):CV->Prop
 |i (k:IntKind) (n:Int):CVB K (.i k n)
 |b (x:Bool):CVB K (.b x)
 |s (t:Ty) (l:List t.den) (hl:l.length<=K) (h:∀x∈l,∀c∈t.cells x,CVB K c):CVB K (.s t l)
def CVB.inv {K:Nat}{t:Ty}{l:List t.den}(h:CVB K (.s t l)):l.length<=K/\∀x∈l,∀c∈t.cells x,CVB K c:=by cases h with|s _ _ a h=>exact⟨a,h⟩
def CVB.len {K:Nat}{t:Ty}{l:List t.den}(h:CVB K (.s t l)):l.length<=K:=h.inv.1
def CVB.mono {K L:Nat}(a:K<=L){c:CV}(h:CVB K c):CVB L c:=by induction h with|i k n=>exact .i k n|b x=>exact .b x|s t l d h e=>exact .s t l (qU d a) e
def CVB.of_rep {o:Bool}{w:World}{v:Value}{c:CV}{S:zV}(h:Rep o w v c S):CVB big c:=by
 induction h with
 |i k n S=>exact .i k n
 |b x S=>exact .b x
 |nil t S=>exact .s t [] (j7 _) (λx h=>by cases h)
 |void t a S I=>exact .s t [] (j7 _) (λx h=>by cases h)
 |sl t l b D r q e E V K S G u d g A F p m J H C=>refine .s t l d (λx B c f=>?_);obtain⟨i,y⟩:=qX.1 B;obtain⟨j,z⟩:=qX.1 f;exact C i x y j c z
def CVB.of_ok {c:CV}(h:CVOk c):CVB big c:=by induction h with|i k n _=>exact .i k n|b x=>exact .b x|s t l f h m=>refine .s t l f (λx g c a=>?_);obtain⟨i,d⟩:=qX.1 g;obtain⟨j,e⟩:=qX.1 a;exact m i x d j c e
def zbT (K:Nat)(a:LA):Prop:=∀c∈zy a,CVB K c
def zbp {K:Nat}{a:AV}{b:LA}(h:zbT K (a::b)):(∀c∈a.cvs,CVB K c)/\zbT K b:=by unfold zbT zy at *;simp only[kC,jJ]at h;exact⟨λc d=>h c (.inl d),λc d=>h c (.inr d)⟩
def zV6 {a:LA}(h:∃w e,zdn false w (zy a) e λ_ b=>b<w.heap.size):zbT big a:=by obtain⟨w,e,g,j⟩:=h;intro c k;obtain⟨i,f⟩:=qX.1 k;have d:i<e.length:=(by rw[g];exact(qA.1 f).1);exact CVB.of_rep (j i c _ f<|qB d)
def zlB {b:LC}{a:LA}(h:∃(w:World) (f:Nat->Value) (K:Nat->zV),∀(j:Nat) (c:CV),(b++zy a)[j]?=some c->Rep false w (f j) c (K j)):zbT big (.agg b::a):=by obtain⟨w,f,K,h⟩:=h;intro c d;have e:zy (AV.agg b::a)=b++zy a:=(by simp[zy,AV.cvs]);rw[e]at d;obtain⟨j,g⟩:=qX.1 d;exact CVB.of_rep (h j c g)
def znz {b c:Bool}{x y:LC}{z u:LA}(h:some (b,x,z)=some (c,y,u)):b=c/\y=x/\u=z:=by cases h;exact⟨rfl,rfl,rfl⟩
def zeK {b c:Bool}{x y:LA}(h:some (b,x)=some (c,y)):b=c/\y=x:=by cases h;exact⟨rfl,rfl⟩
abbrev zW:=List (Nat×(LW))
def zMQ:zW:=[]
def zd5:∀f a,zl zMQ f=some a->Holds Tryz.prog f a:=λf a h=>by cases h
abbrev zL (l:zW):Prop:=∀f a,zl l f=some a->Holds Tryz.prog f a
abbrev vR:=Holds Tryz.prog
def zh {l:zW}{f:Nat}{a:LW}(h:vR f a)(b:zL l):zL ((f,a)::l):=by intro g r hg;unfold zl at hg;split at hg;{rename_i e;cases hg;rw[<- qJ.1 e];exact h};{exact b g r hg}
abbrev zio:=List (Nat×(CV->Int->Option (Bool×CV×Int)))
def z5a:zio:=[]
abbrev zgS (m:zio):Prop:=∀f a,zl m f=some a->zJC Tryz.prog f a
def zQ:zgS z5a:=λf a h=>by cases h
abbrev zcY:=List (Nat×List Bool×(LC->LA->Option (Bool×LC×LA)))
def zOv:zcY:=[]
abbrev zb2 (p:zcY):Prop:=∀f own a,zl p f=some (own,a)->zbR Tryz.prog f own a
def zB:zb2 zOv:=λf own a h=>by cases h
def zcq {l m:zcY}(c:∀f own a,zl m f=some (own,a)->zbR Tryz.prog f own a)(b:∀x∈l,zbR Tryz.prog x.1 x.2.1 x.2.2):∀f own a,zl (l++m) f=some (own,a)->zbR Tryz.prog f own a:=by intro f own a h;rw[zbB]at h;split at h;{rename_i y d;cases h;exact b _ (znZ d)};{exact c f own a h}
abbrev zgj:=List (Nat×List Bool×Option (Nat×Nat×List (List Nat))×(LW))
def z0y:zgj:=[]
abbrev ze0 (t:zgj):Prop:=∀f own a b,zl t f=some (own,a,b)->zeA Tryz.prog f own a b
def zq:ze0 z0y:=λf own a b h=>by cases h
def zq9 {l m:zgj}(d:∀f own a b,zl m f=some (own,a,b)->zeA Tryz.prog f own a b)(c:∀x∈l,zeA Tryz.prog x.1 x.2.1 x.2.2.1 x.2.2.2):∀f own a b,zl (l++m) f=some (own,a,b)->zeA Tryz.prog f own a b:=by intro f own a b h;rw[zbB]at h;split at h;{rename_i y e;cases h;exact c _ (znZ e)};{exact d f own a b h}
abbrev cQ (c:zW)(m:zio)(p:zcY)(t:zgj):Cfg:=zmZ (zl c) (zl m) (zl p) (zl t)
def z4M {c:zW}{m:zio}{p:zcY}{t:zgj}(k:zL c)(l:zgS m)(n:zb2 p)(q:ze0 t){f:FuncId}{b:LW}(i:FnOk Tryz.prog f)(h:∀a d,zbT big a->b a=some (true,d)->∃g N,evalFn (cQ c m p t) g N 12 f a=some d):vR f b :=
 zAA (zg7 k l n q) i λa d j e=>(h a d (zV6 j) e).elim λt x=>x.elim λN y=>⟨t,N,12,y⟩
noncomputable def zfP (f:FuncId):Bool :=
 match Tryz.prog.funcs[f]? with
 |some a=>a.body.isSome && !(a.name == "runtime.NumGoroutine")
 |none=>false
def zjs {f:FuncId}(h:zfP f=true):FnOk Tryz.prog f:=by unfold zfP at h;split at h;{rename_i a d;simp only[qE,jH]at h;obtain⟨b,c⟩:=uR.1 h.1;exact⟨a,b,d,c,h.2⟩};{cases h}
abbrev oN {b:Type}(c:Bool)(a:Option b):Option b:=bif c then a else none
abbrev nB (c:Bool):Bool:=bif c then false else true
abbrev ti:AT:=.i .i64
structure Dc (α:Type) where
 d:AV->Option α
 e:α->AV
 h:∀{a x},d a=some x->a=e x
abbrev aI (x:Int):AV:=.one (.i .i64 x)
abbrev aB (x:Bool):AV:=.one (.b x)
abbrev aS (t:Ty)(l:List t.den):AV:=.one (.s t l)
abbrev aT (t:Ty)(x:t.den):AV:=.agg (t.cells x)
abbrev aH (h:ad):AV:=.agg (zbo h)
abbrev OA:=Option Ans
abbrev oF:OA:=some [aB false]
abbrev oT:OA:=some [aB true]
abbrev lA:=List GAct
abbrev lB:=List Bool
abbrev lE:=List au
abbrev lG:=List ah
abbrev lI:=List Ins
abbrev lK:=List ax
abbrev lM:=List LI
abbrev lN:=List Mon
abbrev lP:=List (List Ins)
abbrev lQ:=List (List<|List Ins)
abbrev lR:=List am
abbrev lS:=List k0
abbrev lT:=List aE
def dI:Dc Int:=⟨λa=>match a with | .one (.i .i64 x)=>some x|_=>none,aI,λ{a x} h=>by split at h<;>cases h;rfl⟩
def dB:Dc Bool:=⟨λa=>match a with | .one (.b x)=>some x|_=>none,aB,λ{a x} h=>by split at h<;>cases h;rfl⟩
def dS (t:Ty):Dc (List t.den):=⟨λa=>match a with | .one (.s b l)=>if h:b=t then some (h ▸ l) else none|_=>none,aS t,λ{a x} h=>by
 split at h
 .rename_i b l;split at h
  .rename_i e;subst e;cases h;rfl
  .cases h
 .cases h⟩
def dT (t:Ty):Dc t.den:=⟨λa=>match a with | .agg b=>t.ofCells b|_=>none,aT t,λ{a x} h=>by
 split at h
 .rw [<- zkH h]
 .cases h⟩
def dH:Dc ad:=⟨λa=>match a with | .agg [.s (.sl .int) x,.s .mon y,.s .entry z,.s .entry u]=>some ⟨x,y,z,u⟩|_=>none,aH,λ{a x} h=>by split at h<;>cases h;rfl⟩
def dC:Dc Ctl:=⟨λa=>match a with | .agg [.i .i64 x,.i .i64 y,.b z]=>some ⟨x,y,z⟩|_=>none,λx=>.agg (zm0 x),λ{a x} h=>by split at h<;>cases h;rfl⟩
def dE:Dc aD:=⟨λa=>match a with | .agg [.i .i64 x,.i .i64 y,.b z,.i .i64 u]=>some ⟨x,y,z,u⟩|_=>none,λx=>.agg (zgl x),λ{a x} h=>by split at h<;>cases h;rfl⟩
abbrev Run:=LW
def eat {b:Type}(D:Dc b)(k:b->Run):Run
 |[]=>none
 |a::l=>match D.d a with
  |some x=>k x l
  |none=>none
def stop (r:Bool×LA):Run
 |[]=>some r
 |_=>none
def z8D {c:Type}{D:Dc c}{k:c->Run}{b:LA}{r:Bool×LA}(h:eat D k b=some r):∃x l,b=D.e x::l/\k x l=some r:=by unfold eat at h;split at h;{cases h};{rename_i a l;split at h;{rename_i x d;exact⟨x,l,by rw[D.h d],h⟩};{cases h}}
def z5N {q r:Bool×LA}{a:LA}(h:stop q a=some r):a=[]/\r=q:=by unfold stop at h;split at h<;>cases h;exact⟨rfl,rfl⟩
def zcj {p:Nat->Prop}(h:∀N,(∀{n:Nat},n<=big->n<N)->p N):∃N,p N:=⟨big+1,h _ λh=>Nat.lt_succ_of_le h⟩
def len0 {t:Ty}{l:List t.den}{r:LA}(a:zbT big (.one (.s t l)::r)):l.length<=big:=((zbp a).1 _ (qD.2 rfl)).len
def Read (c:zW)(m:zio)(p:zcY)(t:zgj)(d:FuncId->Nat->Option Tmpl)(f:FuncId)(b:LA)(r:Run):Prop:=∀a e,zbT big (b++a)->r a=some (true,e)->∃N,evalFn (cQ c m p t) d N 12 f (b++a)=some e
def zfn {c:zW}{m:zio}{p:zcY}{t:zgj}{d:FuncId->Nat->Option Tmpl}{f:FuncId}{b:LA}{g:Type}{D:Dc g}{k:g->Run}(h:∀a,Read c m p t d f (b++[D.e a])<|k a):Read c m p t d f b (eat D k):=by intro i r q e;obtain⟨x,l,n,j⟩:=z8D e;subst n;have:=h x l r (by simpa using q) j;simpa using this
def zoA {c:zW}{m:zio}{p:zcY}{t:zgj}{d:FuncId->Nat->Option Tmpl}{f:FuncId}{a:LA}{g:Bool×LA}{E:Nat->OA}(h:zbT big a->g.1=true->∃N,E N=some g.2)(n:∀N,evalFn (cQ c m p t) d N 12 f a=E N):Read c m p t d f a (stop g):=by intro j q i e;obtain⟨l,k⟩:=z5N e;subst l;cases g with|mk b x=>cases k;rw[jA]at i ⊢;obtain⟨N,e⟩:=h i rfl;exact⟨N,(n N).trans e⟩
def zqL {c:zW}{m:zio}{p:zcY}{t:zgj}(i:zL c)(j:zgS m)(k:zb2 p)(l:ze0 t){a:FuncId->Nat->Option Tmpl}{f:FuncId}{r:Run}(g:zfP f=true)(h:Read c m p t a f [] r):vR f r :=
 z4M i j k l (zjs g) λb n d e=>(h b n d e).elim λN x=>⟨a,N,x⟩
def rF0  (g:Bool×LA):Run:=stop g
def hF0 {c:zW}{m:zio}{p:zcY}{t:zgj}(j:zL c)(k:zgS m)(l:zb2 p)(n:ze0 t)(b:FuncId->Nat->Option Tmpl){g:Bool×LA}{E:Nat->OA}{f:FuncId}(a:zbT big []->g.1=true->∃N,E N=some g.2)(i:∀N,evalFn (cQ c m p t) b N 12 f []=E N:=by intros;kernel_rfl)(h:zfP f=true:=by kernel_rfl):vR f (rF0 g):=
 zqL j k l n h (zoA (λd e=>a d e) λN=>i N)
def kF0 {c:zW}{m:zio}{p:zcY}{t:zgj}(h:zL c)(i:zgS m)(j:zb2 p)(k:ze0 t)(a:FuncId->Nat->Option Tmpl){g:Bool×LA}{E:Nat->OA}{f:FuncId}(b:g.1=true->∃N,E N=some g.2)(e:∀N,evalFn (cQ c m p t) a N 12 f []=E N:=by intros;kernel_rfl)(d:zfP f=true:=by kernel_rfl):vR f (rF0 g):=hF0 h i j k a (λ_=>b) e d
def rF1 {a:Type}(b:Dc a)(g:a->Bool×LA):Run:=eat b λc=>stop (g c)
def hF1 {b:Type}{c:zW}{m:zio}{p:zcY}{t:zgj}(q:zL c)(r:zgS m)(s:zb2 p)(u:ze0 t)(i:FuncId->Nat->Option Tmpl){d:Dc b}{g:b->Bool×LA}{E:Nat->b->OA}{f:FuncId}(h:∀a,zbT big [d.e a]->(g a).1=true->∃N,E N a=some (g a).2)(n:∀N a,evalFn (cQ c m p t) i N 12 f [d.e a]=E N a:=by intros;kernel_rfl)(l:zfP f=true:=by kernel_rfl):vR f (rF1 d g):=
 zqL q r s u l (zfn λa=>zoA (λj k=>h a j k) λN=>n N a)
def kF1 {d:Type}{c:zW}{m:zio}{p:zcY}{t:zgj}(l:zL c)(n:zgS m)(q:zb2 p)(r:ze0 t)(b:FuncId->Nat->Option Tmpl){i:Dc d}{g:d->Bool×LA}{E:Nat->d->OA}{f:FuncId}(h:∀a,(g a).1=true->∃N,E N a=some (g a).2)(k:∀N a,evalFn (cQ c m p t) b N 12 f [i.e a]=E N a:=by intros;kernel_rfl)(j:zfP f=true:=by kernel_rfl):vR f (rF1 i g):=hF1 l n q r b (λa _=>h a) k j
def rF2 {a b:Type}(c:Dc a)(d:Dc b)(g:a->b->Bool×LA):Run:=eat c λe=>eat d λf=>stop (g e f)
def hF2 {d h:Type}{c:zW}{m:zio}{p:zcY}{t:zgj}(u:zL c)(v:zgS m)(w:zb2 p)(x:ze0 t)(l:FuncId->Nat->Option Tmpl){i:Dc d}{j:Dc h}{g:d->h->Bool×LA}{E:Nat->d->h->OA}{f:FuncId}(k:∀a b,zbT big [i.e a,j.e b]->(g a b).1=true->∃N,E N a b=some (g a b).2)(s:∀N a b,evalFn (cQ c m p t) l N 12 f [i.e a,j.e b]=E N a b:=by intros;kernel_rfl)(r:zfP f=true:=by kernel_rfl):vR f (rF2 i j g):=
 zqL u v w x r (zfn λa=>zfn λb=>zoA (λn q=>k a b n q) λN=>s N a b)
def kF2 {h i:Type}{c:zW}{m:zio}{p:zcY}{t:zgj}(r:zL c)(s:zgS m)(u:zb2 p)(v:ze0 t)(d:FuncId->Nat->Option Tmpl){k:Dc h}{l:Dc i}{g:h->i->Bool×LA}{E:Nat->h->i->OA}{f:FuncId}(j:∀a b,(g a b).1=true->∃N,E N a b=some (g a b).2)(q:∀N a b,evalFn (cQ c m p t) d N 12 f [k.e a,l.e b]=E N a b:=by intros;kernel_rfl)(n:zfP f=true:=by kernel_rfl):vR f (rF2 k l g):=hF2 r s u v d (λa b _=>j a b) q n
def rF3 {a b c:Type}(d:Dc a)(e:Dc b)(f:Dc c)(g:a->b->c->Bool×LA):Run:=eat d λh=>eat e λi=>eat f λj=>stop (g h i j)
def hF3 {h i j:Type}{c:zW}{m:zio}{p:zcY}{t:zgj}(x:zL c)(y:zgS m)(z:zb2 p)(A:ze0 t)(r:FuncId->Nat->Option Tmpl){k:Dc h}{l:Dc i}{n:Dc j}{g:h->i->j->Bool×LA}{E:Nat->h->i->j->OA}{f:FuncId}(q:∀a b d,zbT big [k.e a,l.e b,n.e d]->(g a b d).1=true->∃N,E N a b d=some (g a b d).2)(w:∀N a b d,evalFn (cQ c m p t) r N 12 f [k.e a,l.e b,n.e d]=E N a b d:=by intros;kernel_rfl)(v:zfP f=true:=by kernel_rfl):vR f (rF3 k l n g):=
 zqL x y z A v (zfn λa=>zfn λb=>zfn λd=>zoA (λs u=>q a b d s u) λN=>w N a b d)
def kF3 {i j k:Type}{c:zW}{m:zio}{p:zcY}{t:zgj}(v:zL c)(w:zgS m)(x:zb2 p)(y:ze0 t)(h:FuncId->Nat->Option Tmpl){n:Dc i}{q:Dc j}{r:Dc k}{g:i->j->k->Bool×LA}{E:Nat->i->j->k->OA}{f:FuncId}(l:∀a b d,(g a b d).1=true->∃N,E N a b d=some (g a b d).2)(u:∀N a b d,evalFn (cQ c m p t) h N 12 f [n.e a,q.e b,r.e d]=E N a b d:=by intros;kernel_rfl)(s:zfP f=true:=by kernel_rfl):vR f (rF3 n q r g):=hF3 v w x y h (λa b d _=>l a b d) u s
def rF4 {a b c d:Type}(e:Dc a)(f:Dc b)(h:Dc c)(i:Dc d)(g:a->b->c->d->Bool×LA):Run:=eat e λj=>eat f λk=>eat h λl=>eat i λm=>stop (g j k l m)
def hF4 {i j k l:Type}{c:zW}{m:zio}{p:zcY}{t:zgj}(A:zL c)(B:zgS m)(C:zb2 p)(D:ze0 t)(v:FuncId->Nat->Option Tmpl){n:Dc i}{q:Dc j}{r:Dc k}{s:Dc l}{g:i->j->k->l->Bool×LA}{E:Nat->i->j->k->l->OA}{f:FuncId}(u:∀a b d h,zbT big [n.e a,q.e b,r.e d,s.e h]->(g a b d h).1=true->∃N,E N a b d h=some (g a b d h).2)(z:∀N a b d h,evalFn (cQ c m p t) v N 12 f [n.e a,q.e b,r.e d,s.e h]=E N a b d h:=by intros;kernel_rfl)(y:zfP f=true:=by kernel_rfl):vR f (rF4 n q r s g):=
 zqL A B C D y (zfn λa=>zfn λb=>zfn λd=>zfn λh=>zoA (λw x=>u a b d h w x) λN=>z N a b d h)
def kF4 {j k l n:Type}{c:zW}{m:zio}{p:zcY}{t:zgj}(y:zL c)(z:zgS m)(A:zb2 p)(B:ze0 t)(i:FuncId->Nat->Option Tmpl){r:Dc j}{s:Dc k}{u:Dc l}{v:Dc n}{g:j->k->l->n->Bool×LA}{E:Nat->j->k->l->n->OA}{f:FuncId}(q:∀a b d h,(g a b d h).1=true->∃N,E N a b d h=some (g a b d h).2)(x:∀N a b d h,evalFn (cQ c m p t) i N 12 f [r.e a,s.e b,u.e d,v.e h]=E N a b d h:=by intros;kernel_rfl)(w:zfP f=true:=by kernel_rfl):vR f (rF4 r s u v g):=hF4 y z A B i (λa b d h _=>q a b d h) x w
def rF5 {a b c d e:Type}(f:Dc a)(h:Dc b)(i:Dc c)(j:Dc d)(k:Dc e)(g:a->b->c->d->e->Bool×LA):Run:=eat f λl=>eat h λm=>eat i λn=>eat j λp=>eat k λq=>stop (g l m n p q)
def hF5 {j k l n q:Type}{c:zW}{m:zio}{p:zcY}{t:zgj}(D:zL c)(F:zgS m)(G:zb2 p)(H:ze0 t)(y:FuncId->Nat->Option Tmpl){r:Dc j}{s:Dc k}{u:Dc l}{v:Dc n}{w:Dc q}{g:j->k->l->n->q->Bool×LA}{E:Nat->j->k->l->n->q->OA}{f:FuncId}(x:∀a b d h i,zbT big [r.e a,s.e b,u.e d,v.e h,w.e i]->(g a b d h i).1=true->∃N,E N a b d h i=some (g a b d h i).2)(C:∀N a b d h i,evalFn (cQ c m p t) y N 12 f [r.e a,s.e b,u.e d,v.e h,w.e i]=E N a b d h i:=by intros;kernel_rfl)(B:zfP f=true:=by kernel_rfl):vR f (rF5 r s u v w g):=
 zqL D F G H B (zfn λa=>zfn λb=>zfn λd=>zfn λh=>zfn λi=>zoA (λz A=>x a b d h i z A) λN=>C N a b d h i)
def kF5 {k l n q r:Type}{c:zW}{m:zio}{p:zcY}{t:zgj}(B:zL c)(C:zgS m)(D:zb2 p)(F:ze0 t)(j:FuncId->Nat->Option Tmpl){u:Dc k}{v:Dc l}{w:Dc n}{x:Dc q}{y:Dc r}{g:k->l->n->q->r->Bool×LA}{E:Nat->k->l->n->q->r->OA}{f:FuncId}(s:∀a b d h i,(g a b d h i).1=true->∃N,E N a b d h i=some (g a b d h i).2)(A:∀N a b d h i,evalFn (cQ c m p t) j N 12 f [u.e a,v.e b,w.e d,x.e h,y.e i]=E N a b d h i:=by intros;kernel_rfl)(z:zfP f=true:=by kernel_rfl):vR f (rF5 u v w x y g):=hF5 B C D F j (λa b d h i _=>s a b d h i) A z
def zjv {a:LA}(h:∃(w:World) (b:Nat->Value) (K:Nat->zV),∀(j:Nat) (c:CV),(zy a)[j]?=some c->Rep false w (b j) c (K j)):zbT big a:=by obtain⟨w,b,K,h⟩:=h;intro c d;obtain⟨j,e⟩:=qX.1 d;exact CVB.of_rep (h j c e)
def cT {a:Type}(x y:a):(cond true x y)=x:=by simp
def cF {a:Type}(x y:a):(cond false x y)=y:=by simp
def zqr:big=140737488355328:=rfl
def ztL {x:Int}(a : -9223372036854775808<=x)(b:x<=9223372036854775807):IntKind.i64.wrap x=x:=by simp only[IntKind.wrap,IntKind.signed,IntKind.bits];simp;omega
def zrb {x y:Int}(a : -9223372036854775808<=x+y)(b:x+y<=9223372036854775807):zK .i64 x y=x+y:=ztL a b
def zyK {x y:Int}(a : -9223372036854775808<=x-y)(b:x-y<=9223372036854775807):wsub .i64 x y=x-y:=ztL a b
def zbj {i n:Nat}(h:i<n)(a:n<=big):zK .i64 (i:Int) 1=((i+1:Nat):Int):=by rw[zqr]at a;rw[zrb (by omega) (by omega)];omega
section
variable {α:Type}
def zbu {l:List α}{i:Nat}(h:i<l.length):ilt (i:Int) (ln l)=true:=by unfold ilt ln;exact qK (by omega)
def zbh {l:List α}:ilt ((l.length:Nat):Int) (ln l)=false:=by unfold ilt ln;exact qV (by omega)
def zT {l:List α}{i:Nat}(h:i<l.length):inb (i:Int) (ln l)=true:=by unfold inb ln;exact qK (by omega)
def zbi {l:List α}{i:Nat}(h:i<l.length)(d:α):ix l (i:Int) d=l[i]:=by unfold ix;simp[List.getD,qB h]
def zfO {l:List α}(h:l.length<=2147483648):few (ln l)=true:=by unfold few ln;exact qK (by omega)
def zIc (x:Int):ieq x x=true:=by simp[ieq]
def zes (x:Int):ine x x=false:=by simp[ine]
def z0P (x:Bool):zhh x x=true:=by simp[zhh]
end
def zdJ {a b:Type}(n:Nat)(F:(a->Option b)->a->Option b)(s:a):r0 (n+1) F s=F (r0 n F) s:=rfl
def goL {d c b:Type}(a:Nat->d->c->(c->Option b)->Option b)(K:c->Option b):List d->Nat->c->Option b
 |[],_,t=>K t
 |x::l,i,t=>a i x t (goL a K l<|i+1)
def zbq {q b d σ:Type}(l:List q)(g:Nat->b->σ)(F:(σ->Option d)->σ->Option d)(a:Nat->q->b->(b->Option d)->Option d)(K:b->Option d)(c:∀(i:Nat) (p:i<l.length) (t:b) (rec:σ->Option d),F rec (g i t)=a i l[i] t λk=>rec (g (i+1) k))(e:∀(t:b) (rec:σ->Option d),F rec (g l.length t)=K t) :
 ∀(N:Nat) (t:b),l.length<N->r0 N F (g 0 t)=goL a K l 0 t:=by
 have j:∀(m i N:Nat) (t:b),l.length-i=m->i<=l.length->m<N->r0 N F (g i t)=goL a K (l.drop i) i t:=by intro m;induction m with|zero=>intro i N t r p h;have:i=l.length:=(by omega);subst this;obtain⟨n,rfl⟩:∃n,N=n+1:=⟨N-1,by omega⟩;rw[zdJ,e,vM];rfl|succ m s=>intro i N t r p h;obtain⟨n,rfl⟩:∃n,N=n+1:=⟨N-1,by omega⟩;have f:i<l.length:=(by omega);rw[zdJ,c i f,kB f];simp only[goL];congr 1;funext k;exact s (i+1) n k (by omega) (by omega) (by omega)
 intro N t h;have:=j l.length 0 N t (by omega) (j7 _) h
 simpa using this
def goN {c b:Type}(a:Nat->c->(c->Option b)->Option b)(K:c->Option b):Nat->Nat->c->Option b
 | 0,_,t=>K t
 |n+1,i,t=>a i t (goN a K n<|i+1)
def zId {b d σ:Type}(n:Nat)(g:Nat->b->σ)(F:(σ->Option d)->σ->Option d)(a:Nat->b->(b->Option d)->Option d)(K:b->Option d)(c:∀(i:Nat) (q:i<n) (t:b) (rec:σ->Option d),F rec (g i t)=a i t λp=>rec (g (i+1) p))(f:∀(t:b) (rec:σ->Option d),F rec (g n t)=K t) :
 ∀(N:Nat) (t:b),n<N->r0 N F (g 0 t)=goN a K n 0 t:=by
 have l:∀(m i N:Nat) (t:b),n-i=m->i<=n->m<N->r0 N F (g i t)=goN a K (n-i) i t:=by intro m;induction m with|zero=>intro i N t r q h;have:i=n:=(by omega);subst this;obtain⟨k,rfl⟩:∃k,N=k+1:=⟨N-1,by omega⟩;rw[zdJ,f,uB];rfl|succ m s=>intro i N t r q h;obtain⟨k,rfl⟩:∃k,N=k+1:=⟨N-1,by omega⟩;have j:i<n:=(by omega);have e:n-i=(n-(i+1))+1:=(by omega);rw[zdJ,c i j,e];simp only[goN];congr 1;funext p;exact s (i+1) k p (by omega) (by omega) (by omega)
 intro N t h;have:=l n 0 N t (by omega) (j7 _) h
 simpa using this
def sm:Nat:=1048576
def zcV {n:Nat}(h:n<=sm):n<=big/\n<=2147483648:=by unfold sm at h;rw[zqr];omega
def i0 (i n:Int):Bool:=decide (0<=i/\i<n)
def has_eq (i n:Int):(ige i 0&&ilt i n)=i0 i n:=by unfold ige ilt i0;by_cases a:0<=i<;>by_cases b:i<n<;>simp [a,b]
def zI {i n:Int}(h:i0 i n=true):inb i n=true:=h
def zd7 {i:Int}{n:Nat}(h:i0 i n=true):∃k:Nat,i=k/\k<n:=by have:0<=i/\i<n:=qF h;exact⟨i.toNat,by omega,by omega⟩
def zbE {b:Type}{l:List b}{i:Int}(h:i0 i (ln l)=true)(d:b):ix l i d∈l:=by obtain⟨k,rfl,a⟩:=zd7 (n:=l.length) h;rw[zbi a];exact jK a
def zm5 {a:Type}(l:List a):ap [] l=l:=rfl
def zj7 {b m:Type}(c:b->Bool)(f:b->b)(K:List b->Option m):∀(l:List b) (i:Nat) (a:List b),(∀x∈l,c x=true/\f x=x)->a.length+l.length<=2147483648->
 goL (λ_ x a k=>bif c x then (cond (few<|ln<|ap a [f x]) (k<|ap a [f x]) none) else none) K l i a=K (a++l)
 |[],i,a,_,_=>by simp[goL]
 |x::l,i,a,h,g=>by obtain⟨d,e⟩:=h x (by simp);simp only[qW]at g;simp only[goL,d,e,cT];rw[zfO (by simp[ap];omega),cT,zj7 c f K l (i+1) _ (λy j=>h y (by simp[j])) (by simp[ap];omega)];simp[ap]
def zdY (h:ad):Prop:=∀c∈zbo h,CVB sm c
def zdY.mem {h:ad}(a:zdY h):CVB sm (.s (.sl .int) h.ag):=a _ (by simp[zbo])
def zdY.mons {h:ad}(a:zdY h):CVB sm (.s .mon h.aa):=a _ (by simp[zbo])
def zoX {t:Ty}{l:List t.den}(h:CVB sm (.s t l)):few (ln l)=true:=zfO (zcV h.len).2
def zoN (p:Nat->Bool):Nat->Nat->Bool
 | 0,_=>true
 |n+1,i=>p i&&zoN p n (i+1)
def zEd {a:Type}(p:Nat->Bool)(r:Option a)(K:Unit->Option a):∀(n i:Nat),goN (λi (_:Unit) k=>bif p i then k () else r) K n i ()=bif zoN p n i then K () else r
 | 0,_=>rfl
 |n+1,i=>by simp only[goN,zoN];cases p i;{rfl};{simp only [cT,uL];exact zEd p r K n (i+1)}
def zxF {e a c:Type}(b:Nat->a->(a->Option c)->Option c)(K:a->Option c):∀(l:List e) (i:Nat) (t:a),goL (λi _ t k=>b i t k) K l i t=goN b K l.length i t
 |[],_,_=>rfl
 |_::l,i,t=>by have d:goL (λi _ t k=>b i t k) K l (i+1)=goN b K l.length (i+1):=funext λt=>zxF b K l (i+1) t;simp only[goL,qW,goN,d]
def zhS {a b:Type}(p:a->Bool)(r:Option b)(K:Unit->Option b):∀(l:List a) (i:Nat),goL (λ_ x (_:Unit) k=>bif p x then k () else r) K l i ()=bif l.all p then K () else r
 |[],_=>rfl
 |x::l,i=>by simp only[goL,kY];cases p x;{rfl};{simp only [cT,uL];exact zhS p r K l (i+1)}
def zKZ {n:Nat}(c:n<=big)(i:Int):(ige i 0&&ile i (wsub .i64 (n:Int) 1))=i0 i n:=by rw[zqr]at c;rw[zyK (by omega) (by omega)];unfold ige ile i0;by_cases a:0<=i<;>by_cases b:i<n;{rw [qK (p:=i≥0) (by omega),qK (p:=i<=(n:Int)-1) (by omega),qK (p:=0<=i/\i<(n:Int)) ⟨a,b⟩];rfl};{rw [qV (p:=i<=(n:Int)-1) (by omega),qV (p:=0<=i/\i<(n:Int)) (by omega)];simp};{rw [qV (p:=i≥0) (by omega),qV (p:=0<=i/\i<(n:Int)) (by omega)];simp};{rw [qV (p:=i≥0) (by omega),qV (p:=0<=i/\i<(n:Int)) (by omega)];simp}
def zEf {j h c:Type}(n:Nat)(f:Nat->c->j)(F:(j->Option h)->j->Option h)(I:Nat->c->Prop)(a:Nat->c->Option h)(b:∀(i:Nat) (t:c) (rec:j->Option h),i<n->I i t->(∀g,I (i+1) g->rec (f (i+1) g)=a (i+1) g)->F rec (f i t)=a i t)(e:∀(t:c) (rec:j->Option h),I n t->F rec (f n t)=a n t):∀(N i:Nat) (t:c),I i t->i<=n->n-i<N->r0 N F (f i t)=a i t:=by have r:∀(m N i:Nat) (t:c),n-i=m->I i t->i<=n->m<N->r0 N F (f i t)=a i t:=(by intro m;induction m with|zero=>intro N i t s d q p;obtain⟨k,rfl⟩:∃k,N=k+1:=⟨N-1,by omega⟩;have:i=n:=(by omega);subst this;rw[zdJ];exact e t _ d|succ m u=>intro N i t s d q p;obtain⟨k,rfl⟩:∃k,N=k+1:=⟨N-1,by omega⟩;rw[zdJ];exact b i t _ (by omega) d λg l=>u k (i+1) g (by omega) l (by omega) (by omega));intro N i t d q p;exact r (n-i) N i t rfl d q p
section
variable {α:Type}
def zO1 {l:List α}{i:Nat}(h:i<l.length)(d:α):up l (i:Int) (ix l (i:Int) d)=l:=by rw[zbi h];unfold up;apply k9;intro k;rw[jC];have e:(i:Int).toNat=i:=(by omega);rw[e];by_cases a:i=k;{subst a;simp[h]};{simp [a]}
def zem {l:List α}{i:Nat}(h:i<l.length)(x d:α):ix (up l (i:Int) x) (i:Int) d=x:=by unfold ix up;have e:(i:Int).toNat=i:=(by omega);rw[e];simp[List.getD,h]
def zwB (l:List α)(i:Int)(x y:α):up (up l i x) i y=up l i y:=by unfold up;simp
def zbam {l:List α}{i k:Nat}(h:i<k)(x:α):(up l (i:Int) x)[k]?=l[k]?:=by unfold up;have e:(i:Int).toNat=i:=(by omega);rw[e,jC,if_neg (by omega)]
end
def Ends {b:Type}(G:b->Prop)(o:Option b):Prop:=∃a,o=some a/\G a
section
variable {ρ:Type} {G:ρ->Prop}
def zu {c:Bool}{a b:Option ρ}(h:c=true)(k:Ends G a):Ends G (cond c a b):=by rw[h];exact k
def zms {c:Bool}{a b:Option ρ}(h:c=false)(k:Ends G b):Ends G (cond c a b):=by rw[h];exact k
def zbz {c:Bool}{a b:Option ρ}(d:c=true->Ends G a)(e:c=false->Ends G b):Ends G (cond c a b):=by cases c;{exact e rfl};{exact d rfl}
def zjx {a:Type}{x:a}{f:a->Option ρ}(h:Ends G (f x)):Ends G (p0 x f):=h
def zn2 {x:Option ρ}{f:Option ρ->Option ρ}(h:Ends G x)(k:∀t,Ends G t->Ends G (f t)):Ends G (p0 x f):=k x h
def zt4 {a:ρ}(h:G a):Ends G (some a):=⟨a,rfl,h⟩
def zlG {b:Type}{F:(b->Option ρ)->b->Option ρ}(I:Nat->b->Prop)(h:∀n s rec,I n s->(∀k a,k<n->I k a->Ends G (rec a))->Ends G (F rec s)):∀(N n:Nat) (s:b),I n s->n<N->Ends G (r0 N F s)
 | 0,n,s,_,c=>absurd c (Nat.not_lt_zero n)
 |N+1,n,s,d,c=>h n s (r0 N F) d λk a f e=>zlG I h N k a e (by omega)
def z8G {G:Ans->Prop}{o:OA}{r:Ans}(h:Ends (λa=>a=r) o):o=some r:=by obtain⟨a,b,c⟩:=h;rw[b,c]
end
instance:Inhabited Cur:=⟨⟨[],0,0⟩⟩
def uC {T:Type}(ok:T->Prop):Bool:=pc (∃v,ok v)
def uV {T:Type}[Nonempty T](ok:T->Prop):T:=Classical.epsilon ok
def uG {T:Type}[Nonempty T]{ok:T->Prop}(h:uC ok=true):ok (uV ok):=Classical.epsilon_spec (zS.1 h)
def wC {T:Type}(ok:Cur->T->Prop):Bool:=uC λr:Cur×T=>ok r.1 r.2
def wS {T:Type}[Nonempty T](ok:Cur->T->Prop):Cur:=bif wC ok then (uV λr:Cur×T=>ok r.1 r.2).1 else ⟨[],0,0⟩
def wV {T:Type}[Nonempty T](ok:Cur->T->Prop):T:=(uV λr:Cur×T=>ok r.1 r.2).2
def wG {T:Type}[Nonempty T]{ok:Cur->T->Prop}(h:wC ok=true):ok (wS ok) (wV ok):=by unfold wS wV;rw[h,cT];exact uG h
def wP {T:Type}[Nonempty T]{ok:Cur->T->Prop}(k:∀{s v},ok s v->0<=s.i):0<=(wS ok).i:=by cases h:wC ok with|false=>unfold wS;rw[h];exact kS 0|true=>exact k (wG h)
abbrev wE {T:Type}(e:T->AV)(b:LI)(c:T->Prop):Ans->Prop:=λa=>∃s d,a=(AV.agg (zbV s)::[e d])/\(s.b=b/\0<=s.i)/\c d
def wI {T:Type}{ok:Cur->T->Prop}{E:Nat->OA}{d:T->AV}{b:LI}{c:T->Prop}(k:∀s v,((∃N,E N=some (AV.agg (zbV s)::[d v]))/\(s.b=b/\0<=s.i)/\c v)->ok s v)(h:∃N,Ends (wE d b c)<|E N):wC ok=true:=by obtain⟨N,a,e,s,v,rfl,h⟩:=h;exact zY ⟨(s,v),k s v ⟨⟨N,e⟩,h⟩⟩
abbrev zdX:=LC->LA->Option (Bool×LC×LA)
abbrev zG7:=LA->Option (Bool×LC×LA)
def pR (k:Cur->zG7):zdX
 |[.s .u8 b,.i .i64 i,.i .i64 h],a=>k ⟨b,i,h⟩ a
 |_,_=>none
def zUt {b:Type}(D:Dc b)(k:b->zG7):zG7
 |[]=>none
 |a::l=>match D.d a with
  |some x=>k x l
  |none=>none
def zLB (r:Bool×Cur×LA):zG7
 |[]=>some (r.1,zbV r.2.1,r.2.2)
 |_=>none
def z2z {k:Cur->zG7}{b:LC}{a:LA}{r:Bool×LC×LA}(h:pR k b a=some r):∃c,b=zbV c/\k c a=some r:=by unfold pR at h;split at h;{exact⟨_,rfl,h⟩};{cases h}
def zIw {c:Type}{D:Dc c}{k:c->zG7}{b:LA}{r:Bool×LC×LA}(h:zUt D k b=some r):∃x l,b=D.e x::l/\k x l=some r:=by unfold zUt at h;split at h;{cases h};{rename_i a l;split at h;{rename_i x d;exact⟨x,l,by rw[D.h d],h⟩};{cases h}}
def zvS {q:Bool×Cur×LA}{b:Bool}{c:LC}{d a:LA}(h:zLB q a=some (b,c,d)):a=[]/\q.1=b/\c=zbV q.2.1/\d=q.2.2:=by unfold zLB at h;split at h<;>cases h;exact⟨rfl,rfl,rfl,rfl⟩
section
variable {c:zW} {m:zio} {p:zcY} {t:zgj} (o1:zL c) (o2:zgS m) (o3:zb2 p) (o4:ze0 t) (tms:FuncId->Nat->Option Tmpl) {f:FuncId}
include o1 o2 o3 o4
def hPx {k:Cur->zG7}(j:zfP f=true)(h:∀x b a d,k x b=some (true,a,d)->a.length=3/\∃N,zoW (cQ c m p t) tms N 12 f [false,true,true] (zbV x) b=some (.agg a::d)):zbR Tryz.prog f [false,true,true] (pR k):=by refine zhV (zg7 o1 o2 o3 o4) (zjs j) ?_;intro l b a d n q e;obtain⟨x,rfl,e⟩:=z2z e;obtain⟨g,N,i⟩:=h x b a d e;exact⟨g,tms,N,12,i⟩
def rP0 (g:Cur->Bool×Cur×LA):zdX:=pR λc=>zLB (g c)
def hP0 {g:Cur->Bool×Cur×LA}{E:Nat->Cur->OA}(a:∀x,(g x).1=true->∃N,E N x=some (.agg (zbV (g x).2.1)::(g x).2.2))(k:∀N x,zoW (cQ c m p t) tms N 12 f [false,true,true] (zbV x) []=E N x:=by intros;kernel_rfl)(j:zfP f=true:=by kernel_rfl):zbR Tryz.prog f [false,true,true] (rP0 g):=
 hPx o1 o2 o3 o4 tms j λx b d l e=>by obtain⟨rfl,i,rfl,rfl⟩:=zvS e;obtain⟨N,h⟩:=a x i;exact⟨rfl,N,(k N x).trans h⟩
def rP1 {A:Type}(D:Dc A)(g:Cur->A->Bool×Cur×LA):zdX:=pR λc=>zUt D λa=>zLB (g c a)
def hP1 {A:Type}{D:Dc A}{g:Cur->A->Bool×Cur×LA}{E:Nat->Cur->A->OA}(b:∀x a,(g x a).1=true->∃N,E N x a=some (.agg (zbV (g x a).2.1)::(g x a).2.2))(q:∀N x a,zoW (cQ c m p t) tms N 12 f [false,true,true] (zbV x) [D.e a]=E N x a:=by intros;kernel_rfl)(n:zfP f=true:=by kernel_rfl):zbR Tryz.prog f [false,true,true] (rP1 D g):=
 hPx o1 o2 o3 o4 tms n λx d i r e=>by obtain⟨a,l,rfl,j⟩:=zIw e;obtain⟨rfl,k,rfl,rfl⟩:=zvS j;obtain⟨N,h⟩:=b x a k;exact⟨rfl,N,(q N x a).trans h⟩
def rP2 {A B:Type}(D:Dc A)(d:Dc B)(g:Cur->A->B->Bool×Cur×LA):zdX:=pR λc=>zUt D λa=>zUt d λb=>zLB (g c a b)
def hP2 {A B:Type}{D:Dc A}{i:Dc B}{g:Cur->A->B->Bool×Cur×LA}{E:Nat->Cur->A->B->OA}(d:∀x a b,(g x a b).1=true->∃N,E N x a b=some (.agg (zbV (g x a b).2.1)::(g x a b).2.2))(u:∀N x a b,zoW (cQ c m p t) tms N 12 f [false,true,true] (zbV x) [D.e a,i.e b]=E N x a b:=by intros;kernel_rfl)(s:zfP f=true:=by kernel_rfl):zbR Tryz.prog f [false,true,true] (rP2 D i g):=
 hPx o1 o2 o3 o4 tms s λx j k w e=>by obtain⟨a,l,rfl,n⟩:=zIw e;obtain⟨b,v,rfl,q⟩:=zIw n;obtain⟨rfl,r,rfl,rfl⟩:=zvS q;obtain⟨N,h⟩:=d x a b r;exact⟨rfl,N,(u N x a b).trans h⟩
end
instance:Inhabited Ins:=⟨⟨0,0⟩⟩
instance:Inhabited GAct:=⟨⟨0,0,0,0,0,0⟩⟩
instance:Inhabited Ctl:=⟨⟨0,0,false⟩⟩
instance:Inhabited ad:=⟨⟨[],[],[],[]⟩⟩
def zbf (c:Cur):Prop:=0<=c.i/\c.b.length<=big
def zbJ {T:Type}(d:T->AV){c:T->Prop}{b:LI}{x y:Int}{v:T}(h:0<=x)(g:c v):Ends (λa=>∃s e,a=(AV.agg (zbV s)::[d e])/\(s.b=b/\0<=s.i)/\c e) (some (AV.agg [.s .u8 b,.i .i64 x,.i .i64 y]::[d v])):=
 ⟨_,rfl,⟨b,x,y⟩,v,rfl,⟨rfl,h⟩,g⟩
def zwC (N:Nat)(c:Cur)  : OA :=
 let a:=zK .i64 (zkC .i64 c.h 6364136223846793005) 1442695040888963407;let d:=wand .i64 (z5U .i64 (zDT .i64 a 33)<|zDT .i64 a 45) 255; (oN (ile 0 33)<|oN (ile 0 45)<|cond (ilt c.i<|ln c.b) (oN (inb c.i<|ln c.b)<|some [.agg [.s .u8 c.b,.i .i64<|zK .i64 c.i 1,.i .i64 a],aI<|wand .i64 (zK .i64 d<|wcv .i64<|ix c.b c.i 0) 255])<|some [.agg [.s .u8 c.b,.i .i64 c.i,.i .i64 a],aI d])
def zpM (c:Cur)(s:Cur)(a:Int):Prop:=(∃N,zwC N c=some (AV.agg (zbV s)::[aI a]))/\(s.b=c.b/\0<=s.i)/\(0<=a/\a<=255)
def zeR (c:Cur)  : Bool:=wC (zpM c)
def zdm (c:Cur)  : Cur:=wS (zpM c)
def zg3 (c:Cur)  : Int:=wV (zpM c)
def zns {c:Cur}(h:zeR c=true):zpM c (zdm c) (zg3 c):=wG h
def znt (c:Cur)  : 0<=(zdm c).i:=wP λh=>h.2.1.2
def zWV (c:Cur)(h:∃N,Ends (wE (λa=>aI a) c.b λa=>0<=a/\a<=255)<|zwC N c):zeR c=true:=wI (λ_ _ h=>h) h
def zx4:zdX:=rP0 λc=>(zeR c,zdm c,[aI<|zg3 c])
def zKB:zbR Tryz.prog 237 [false,true,true] zx4:=hP0 zd5 zQ zB zq (zx []) (λ_ h=>(zns h).1)
def zQu {x m:Int}(c:0<=m)(d:m<9223372036854775808):0<=wand .i64 x m/\wand .i64 x m<=m:=by have b:(BitVec.ofInt 64 m).toNat=m.toNat:=(by rw[BitVec.toNat_ofInt];omega);have a:(BitVec.ofInt 64 x &&& BitVec.ofInt 64 m).toNat<=m.toNat:=(by rw[BitVec.toNat_and,b];exact Nat.and_le_right);unfold wand;show 0<=IntKind.wrap .i64 ((BitVec.ofInt 64 x &&& BitVec.ofInt 64 m).toNat:Int)/\IntKind.wrap .i64 ((BitVec.ofInt 64 x &&& BitVec.ofInt 64 m).toNat:Int)<=m;rw[ztL (by omega) (by omega)];omega
@[simp] def zJO {c:Cur}(h:zbf c):zeR c=true:=by
 refine zWV c ⟨0,?_⟩;unfold zwC oN;conv=>zeta
 refine zu rfl (zu rfl (zbz (λa=>zu (qK ⟨h.1,qF a⟩) (zbJ aI ?_<|zQu (by omega) (by omega))) λ_=>zbJ aI h.1 (zQu (by omega) (by omega))));have d:c.i<ln c.b:=qF a;have e:=h.2;have f:=h.1;rw[zqr]at e;unfold ln at d;rw[zrb (by omega) (by omega)];omega
def z7p:zcY:=[(237,[false,true,true],zx4)]++zOv
def zUv:zb2 z7p:=zcq zB (by
 intro x a;simp only[qG,qP,or_false]at a;rcases a with rfl
 .exact zKB)
def zHr {b:LI}{i h:Int}(a:0<=i)(c:b.length<=big):zbf ⟨b,i,h⟩:=⟨a,c⟩
def zYr {x n:Int}(a:0<=x)(b:0<n):0<=zre x n/\zre x n<n:=by unfold zre;exact⟨Int.tmod_nonneg _ a,Int.tmod_lt_of_pos _ b⟩
def ztN (N:Nat)(c:Cur)(a:Int):OA:=
 let f:=({ (zdm c) with b:=c.b}:Cur);let e:=({ (zdm f) with b:=c.b}:Cur);let d:=({ (zdm e) with b:=c.b}:Cur); (cond (ile a 0) (some [.agg [.s .u8 c.b,.i .i64 c.i,.i .i64 c.h],aI 0])<|cond (ile a 256) (oN (zeR c)<|oN (ine a 0)<|some [.agg [.s .u8 c.b,.i .i64 (zdm c).i,.i .i64 (zdm c).h],aI<|zre (zg3 c) a])<|oN (zeR c)<|oN (zeR f)<|oN (zeR e)<|oN (zeR d)<|oN (ine a 0)<|some [.agg [.s .u8 c.b,.i .i64 (zdm d).i,.i .i64 (zdm d).h],aI<|zre (zK .i64 (zK .i64 (zK .i64 (zkC .i64 (zg3 c) 16777216)<|zkC .i64 (zg3 f) 65536)<|zkC .i64 (zg3 e) 256)<|zg3 d) a])
def znQ (c:Cur)(a:Int)(s:Cur)(d:Int):Prop:=(∃N,ztN N c a=some (AV.agg (zbV s)::[aI d]))/\(s.b=c.b/\0<=s.i)/\(0<a->0<=d/\d<a)
def zA (c:Cur)(a:Int):Bool:=wC (znQ c a)
def zf (c:Cur)(a:Int):Cur:=wS (znQ c a)
def zn (c:Cur)(a:Int):Int:=wV (znQ c a)
def zif {c:Cur}{a:Int}(h:zA c a=true):znQ c a (zf c a) (zn c a):=wG h
def zF (c:Cur)(a0:Int):0<=(zf c a0).i:=wP λh=>h.2.1.2
def zUU (c:Cur)(a:Int)(h:∃N,Ends (wE (λd=>aI d) c.b λd=>0<a->0<=d/\d<a)<|ztN N c a):zA c a=true:=wI (λ_ _ h=>h) h
def zvU:zdX:=rP1 dI λc b=>(zA c b,zf c b,[aI<|zn c b])
def zul:zbR Tryz.prog 101 [false,true,true] zvU:=hP1 zd5 zQ zUv zq (zx []) (λ_ _ h=>(zif h).1)
def zbA {c:Cur}(h:zbf c)(n:Int):zA c n=true:=by
 refine zUU c n ⟨0,?_⟩;have f:=zJO h;have k:zeR {zdm c with b:=c.b}=true:=zJO (zHr (znt _) h.2);have l:zeR {zdm {zdm c with b:=c.b} with b:=c.b}=true:=zJO (zHr (znt _) h.2);have m:zeR {zdm {zdm {zdm c with b:=c.b} with b:=c.b} with b:=c.b}=true:=zJO (zHr (znt _) h.2);have i:=(zns f).2.2;have q:=(zns k).2.2;have r:=(zns l).2.2;have s:=(zns m).2.2;unfold ztN oN;conv=>zeta
 refine zbz (λd=>zbJ aI h.1 λu=>absurd (qF d) (by omega)) (λd=>?_);have u:¬ n<=0:=jY d;have j:ine n 0=true:=(by simp[ine];omega);refine zbz (λt=>zu f (zu j<|zbJ aI (znt _) λe=>zYr i.1 e)) (λt=>?_);refine zu f (zu k<|zu l<|zu m<|zu j<|zbJ aI (znt _) λe=>zYr ?_ e);generalize zg3 c=a at i;generalize zg3 _=g at q;generalize zg3 _=p at r;generalize zg3 _=z at s;have v:zkC .i64 a 16777216=a*16777216:=ztL (by omega) (by omega);have w:zkC .i64 g 65536=g*65536:=ztL (by omega) (by omega);have y:zkC .i64 p 256=p*256:=ztL (by omega) (by omega);rw[v,w,y,zrb (x:=a*16777216) (by omega) (by omega),zrb (x:=a*16777216+g*65536) (by omega) (by omega),zrb (by omega) (by omega)];omega
def z7q:zcY:=[(101,[false,true,true],zvU)]++z7p
def zIy:zb2 z7q:=zcq zUv (by
 intro x a;simp only[qG,qP,or_false]at a;rcases a with rfl
 .exact zul)
def zwD (N:Nat)(c:Cur)(a:Int):OA:=
 (oN (zA c a)<|some [.agg [.s .u8 c.b,.i .i64 (zf c a).i,.i .i64 (zf c a).h],aB<|ieq (zn c a) 0])
def zpN (c:Cur)(a:Int)(s:Cur)(d:Bool):Prop:=(∃N,zwD N c a=some (AV.agg (zbV s)::[aB d]))/\(s.b=c.b/\0<=s.i)/\(True)
def zck (c:Cur)(a:Int):Bool:=wC (zpN c a)
def zO (c:Cur)(a:Int):Cur:=wS (zpN c a)
def zcC (c:Cur)(a:Int):Bool:=wV (zpN c a)
def zWW {c:Cur}{a:Int}(h:zck c a=true):zpN c a (zO c a) (zcC c a):=wG h
def zb5 (c:Cur)(a:Int):0<=(zO c a).i:=wP λh=>h.2.1.2
def zWX (c:Cur)(a:Int)(h:∃N,Ends (wE (λd=>aB d) c.b λd=>True)<|zwD N c a):zck c a=true:=wI (λ_ _ h=>h) h
def zx5:zdX:=rP1 dI λc b=>(zck c b,zO c b,[aB<|zcC c b])
def zKC:zbR Tryz.prog 170 [false,true,true] zx5:=hP1 zd5 zQ zIy zq (zx []) (λ_ _ h=>(zWW h).1)
def zh8 {c:Cur}(h:zbf c)(n:Int):zck c n=true:=by refine zWX c n ⟨0,?_⟩;unfold zwD oN;exact zu (zbA h _) (zbJ aB (zF _ _) trivial)
def zqn (N:Nat)(c:Cur)(a:LI):OA:=
 (oN (zA c<|ln a)<|oN (inb (zn c<|ln a)<|ln a)<|some [.agg [.s .u8 c.b,.i .i64 (zf c<|ln a).i,.i .i64 (zf c<|ln a).h],aI<|ix a (zn c<|ln a) 0])
def zlv (c:Cur)(a:LI)(s:Cur)(d:Int):Prop:=(∃N,zqn N c a=some (AV.agg (zbV s)::[aI d]))/\(s.b=c.b/\0<=s.i)/\(0<a.length->d∈a)
def zbt (c:Cur)(a:LI):Bool:=wC (zlv c a)
def zZ (c:Cur)(a:LI):Cur:=wS (zlv c a)
def zbn (c:Cur)(a:LI):Int:=wV (zlv c a)
def zyB {c:Cur}{a:LI}(h:zbt c a=true):zlv c a (zZ c a) (zbn c a):=wG h
def zb0 (c:Cur)(a0:LI):0<=(zZ c a0).i:=wP λh=>h.2.1.2
def zOD (c:Cur)(a:LI)(h:∃N,Ends (wE (λd=>aI d) c.b λd=>0<a.length->d∈a)<|zqn N c a):zbt c a=true:=wI (λ_ _ h=>h) h
def zs7:zdX:=rP1 (dS .int) λc b=>(zbt c b,zZ c b,[aI<|zbn c b])
def zse:zbR Tryz.prog 109 [false,true,true] zs7:=hP1 zd5 zQ zIy zq (zx []) (λ_ _ h=>(zyB h).1)
def zfy {c:Cur}(h:zbf c){l:LI}(b:l≠[]):zbt c l=true:=by refine zOD c l ⟨0,?_⟩;have d:0<ln l:=(by unfold ln;have:=kL.2 b;omega);have g:=(zif<|zbA h<|ln l).2.2 d;have a:inb (zn c<|ln l) (ln l)=true:=qK ⟨g.1,g.2⟩;unfold zqn oN;exact zu (zbA h _) (zu a<|zbJ aI (zF _ _) λ_=>zbE a 0)
def z7r:zcY:=[(170,[false,true,true],zx5),(109,[false,true,true],zs7)]++z7q
def zUw:zb2 z7r:=zcq zIy (by
 intro x a;simp only[qG,qP,or_false]at a;rcases a with rfl|rfl
 .exact zKC
 .exact zse)
def z9Z:zW:=zMQ
def z8j:zL z9Z:=zd5
def z90:zW:=z9Z
def z8k:zL z90:=z8j
def z92:zW:=z90
def z8l:zL z92:=z8k
def z94:zW:=z92
def z8m:zL z94:=z8l
def z4c:zW:=z94
def zXA:zL z4c:=z8m
def z95:zW:=z4c
def z8n:zL z95:=zXA
def z96:zW:=z95
def z8o:zL z96:=z8n
def z5X:zW:=z96
def z3P:zL z5X:=z8o
def z5Y:zW:=z5X
def z3Q:zL z5Y:=z3P
def z5Z:zW:=z5Y
def z3R:zL z5Z:=z3Q
def z6a:zW:=z5Z
def z3S:zL z6a:=z3R
def z6b:zW:=z6a
def z3T:zL z6b:=z3S
def z6c:zW:=z6b
def z3U:zL z6c:=z3T
def z6d:zW:=z6c
def z3V:zL z6d:=z3U
def z6e:zW:=z6d
def z3W:zL z6e:=z3V
def z6f:zW:=z6e
def z3X:zL z6f:=z3W
def z6g:zW:=z6f
def z3Y:zL z6g:=z3X
def z6h:zW:=z6g
def z3Z:zL z6h:=z3Y
def z6i:zW:=z6h
def z4a:zL z6i:=z3Z
def z6j:zW:=z6i
def z4b:zL z6j:=z4a
def ctrX:zW:=z6j
def ztC:∀f a,zl ctrX f=some a->Holds Tryz.prog f a:=z4b
end
end Go.Proofs.YtapgkefgcbapcaaGreat.E
