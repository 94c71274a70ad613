/- What is proved here: a part of the proof that the statement of this claim holds (several texts of wip/, laid together). -/
import Derived.Test.YtgjpbkhaaiffkaaGreatU2
import Derived.HandedShaped
import Derived.ProofKit
import Derived.KernelRfl
namespace Go.Proofs.YtgjpbkhaaiffkaaGreat.E
open Go
set_option linter.constructorNameAsVariable false
set_option linter.unusedVariables false
set_option maxRecDepth 100000
set_option linter.unusedSimpArgs false
set_option linter.unusedSectionVars false
noncomputable section
section
variable {C:Cfg} {ops:Array Oper} {b:Bool} {base:Nat}
def Foot.reads (f:Foot):Key->Prop
 |.tm t=>t∈f.tm
 |.ro n=>n∈f.ro
 |.lo n=>n∈f.lo
def Foot.writes (f:Foot):Key->Prop
 |.tm t=>f.dst=some t
 |.ro n=>n∈f.wro
 |.lo n=>n∈f.wlo
theorem zsm {a c:List Nat}(h:zCI a c=true):∀x∈a,x∉c:=by intro x b;have:=qL.1 h x b;simpa using this
theorem apart_spec {x y:Foot}(h:x.apart y=true):(∀a,x.writes a->¬ y.reads a/\¬ y.writes a)/\(∀a,y.writes a->¬ x.reads a):=by unfold Foot.apart at h;simp only[qE]at h;obtain⟨⟨⟨⟨⟨c,d⟩,e⟩,f⟩,g⟩,i⟩:=h;refine⟨λa b=>?_,λa b=>?_⟩;{cases a with|tm t=>simp only[Foot.writes]at b;rw[b]at c;simp only[qE,jF,beq_eq_false_iff_ne,jJ,decide_eq_false_iff_not]at c;exact⟨c.1,c.2⟩|ro n=>have:=zsm e n b;simp only[jP,not_or] at this;exact this|lo n=>have:=zsm g n b;simp only[jP,not_or] at this;exact this};{cases a with|tm t=>simp only[Foot.writes]at b;rw[b]at d;simpa [Foot.reads] using d|ro n=>exact zsm f n b|lo n=>exact zsm i n b}
theorem zCJ {i:Nat}{o:Oper}{S:St}{f:Foot}{s:Step}(h:At1 C ops base i o S f s)(a:Key):wr o s a↔f.writes a:=by cases s with|none=>obtain⟨_,rfl⟩:=h;cases a<;>simp [wr,Foot.writes,znE]|some d=>obtain⟨_,_,_,rfl⟩:=h;cases a<;>simp [wr,Foot.writes,zgE,zg7]
def Does (C:Cfg)(ops:Array Oper)(base i:Nat)(o:Oper)(S:St):Step->Prop
 |some d=>zdQ ops o S=some true/\zmn C S o (base+32*i)=some d/\d.c=true
 |none=>zdQ ops o S=some false
theorem zyi {o:Oper}{S a:St}(h:∀t∈zyj ops o,a.tm[t]?=S.tm[t]?):zdQ ops o a=zdQ ops o S:=by unfold zdQ;cases hg:o.guard with|none=>rfl|some f=>obtain⟨j,b⟩:=f;simp only;have e:guardOf a ops j=guardOf S ops j:=(by unfold guardOf;cases d:ops[j]? with|none=>rfl|some g =>simp only;(cases c:g.dst with|none=>rfl|some t=>simp only;exact h t (by simp[zyj,hg,zkJ,d,c])));rw[e]
theorem z2v {S a:St}(b:a.ep=S.ep){n:Nat}(c:zx a.ro n=zx S.ro n):a.root n=S.root n:=by unfold St.root;rw[c,b]
theorem zRT {S d:St}(c:d.ep=S.ep):∀(own:List Bool) (cells:List At),(∀a∈cells,∀n∈zbA a,zx d.ro n=zx S.ro n)->d.blk own cells=S.blk own cells
 |[],[],_=>rfl
 |[],_::_,_=>rfl
 |_::_,[],_=>rfl
 |o::ms,a::r,h=>by have g:=zRT c ms r λb f=>h b (qW _ f);have e:=h a jC;simp only[St.blk];rw[g];cases a with|sl q p=>(cases p with|nil=>simp only[z2v c<|e q (by simp[zbA])]|cons x p=>rfl)|_=>rfl
theorem zDz {S c:St}(a:c.ep=S.ep):∀(b:List Nat),(∀k∈b,zx c.ro k=zx S.ro k)->killed c b=killed S b
 |[],_=>rfl
 |k::b,h=>by simp only[killed];rw[h k jC,zDz a b λj d=>h j (qW _ d),a]
theorem zHR {c:Type}{p q:c->Bool}:∀{l:List c},(∀a∈l,p a=q a)->l.all p=l.all q
 |[],_=>rfl
 |a::l,h=>by rw[k9,k9,h a jC,zHR λb d=>h b (qW _ d)]
theorem z3n {S c:St}{L:List Operand}(h:Agree S c L){b:List Nat}{x:Operand}(f:x∈L){m:MV}(d:S.opnd x=some m):c.avF b m=S.avF b m:=by unfold St.avF;have e:zEo c b m=zEo S b m:=(by unfold zEo;refine zHR λa g=>zHR λr i=>?_;rw[h.rootN<|(h.id x f m d a g).1 r i]);rw[e,h.avOf f d]
theorem zXn {S d:St}{o:Oper}{id:Nat}(h:Agree S d (callArgs o))(q:∀x∈callArgs o,∀l p,S.at x=some (.lp l p)->∀cells,zx S.lo l=some cells->∀a∈cells,∀n∈zbA a,zx d.ro n=zx S.ro n):znn C d o id=znn C S o id:=by unfold znn;cases zl7 C o with|none=>rfl|some y=>obtain⟨own,E⟩:=y;simp only;(cases z:callArgs o with|nil=>rfl|cons x t=>rw[z]at h q;simp only[zQN];have f:d.at x=S.at x:=h.at jC;rw[f];split;{rename_i l r;have i:zx d.lo l=zx S.lo l:=h.loc (ze3 jC r);rw[i];split;{rename_i cells c;have b:=q x jC l 0 r cells c;rw[zRT h.ep own cells b];split;{rename_i u e w;have B:=zVc own cells u e w;have g:killed d e=killed S e:=zDz h.ep e λk g=>(by obtain⟨j,_,A⟩:=B.ownk k g;exact b _ (qJ A) k (by simp[zbA]));have v:zcS (zU9 d e) t=zcS (zU9 S e) t:=(by refine zni λy s=>?_;unfold zU9;rw[h.op y<|qW _ s];cases D:S.opnd y with|none=>rfl|some m=>exact z3n h (qW _ s) D);rw[v,g]};{rfl}};{rfl}};{rfl})
theorem zxt {o:Oper}:∀x∈callArgs o,x∈o.op.operands.toList:=by
 intro x a;unfold callArgs at a;split at a
 .rename_i c hc;rw[hc];simp only[Op.operands,Call.operands];simp
  first
   |exact .inr (by simpa using a)
   |exact .inl (by simpa using a)
   |simp_all
 {cases a}
theorem zVa {i:Nat}{o:Oper}{S S':St}{f:Foot}{s:Step}(h:At1 C ops base i o S f s)(A:S'.ep=S.ep)(w:∀k,f.reads k->S'.get k=S.get k):Does C ops base i o S' s:=by
 cases s with
 |none=>obtain⟨E,rfl⟩:=h;show zdQ ops o S'=some false;rw[zyi (S:=S) λt z=>zLj (w (.tm t) (by simpa [Foot.reads,znE] using z))];exact E
 |some d=>
  obtain⟨E,M,N,rfl⟩:=h;have B:∀t,t∈zjv o++zyj ops o->S'.tm[t]?=S.tm[t]?:=λt z=>zLj (w (.tm t) z);have v:∀x∈o.op.operands.toList,S'.opnd x=S.opnd x:=(by intro x c;cases x with|tmp t=>have z:t∈zjv o:=(by unfold zjv;exact uI.2 ⟨_,c,rfl⟩);simp only[St.opnd,B t<|j9 _ z]|_=>rfl);refine⟨?_,?_,N⟩;{rw [zyi (S:=S) λt z=>B t (kO _ z)];exact E}
  .rw [<- M];cases b:zwT o with
   |true=>unfold zwT at b;split at b;{rename_i t g;have e:=v (.tmp t) (by rw[g];simp[Op.operands]);have L:delta C S' o (base+32*i)=delta C S o (base+32*i):=(by simp only[delta,g,e]);have H:zl7 C o=none:=(by unfold zl7;rw[g]);unfold zmn;rw[L];cases delta C S o (base+32*i) with|some K=>rfl|none=>simp only[znn,H]};{cases b}
   |false=>
   have w:∀k,(zg7 S ops o d).reads k\/(∃n,k = .ro n/\n∈(zg7 S ops o d).ro++cond (zl7 C o).isSome (zC3 S o) [])->S'.get k=S.get k:=(by intro k j;refine w k ?_;rcases j with j|⟨n,rfl,u⟩;{cases k with|tm t=>exact j|ro n=>show n∈(zgE C S ops o d).ro;unfold zgE;rw[b];exact j9 _ j|lo n=>show n∈(zgE C S ops o d).lo;unfold zgE;rw[b];exact j};{show n∈(zgE C S ops o d).ro;unfold zgE;rw[b];exact u});have F:∀x∈o.op.operands.toList,∀m,S.opnd x=some m->∀a∈zbM m,a∈zut S o:=λx c m r a q=>(by unfold zut;exact qO.2 ⟨m,uI.2 ⟨x,c,r⟩,q⟩);have I:Agree S S' o.op.operands.toList:=⟨A,v,λx c m r a q=>⟨λn u=>zC9 (w (.ro n)<|.inl<|qO.2 ⟨a,F x c m r a q,u⟩),λn u=>zLi (w (.lo n)<|.inl<|qO.2 ⟨a,F x c m r a q,u⟩)⟩⟩;unfold zmn;rw[zYN I];cases O:delta C S o (base+32*i) with|some K=>rfl|none=>simp only;(cases J:zl7 C o with|none=>simp only[znn,J]|some y=>refine zXn ⟨A,λx c=>v x (zxt x c),λx c m r a q=>I.id x (zxt x c) m r a q⟩ λx c l D P cells p a q n u=>?_;refine zC9 (w (.ro n)<|.inr ⟨n,rfl,?_⟩);show n∈(zg7 S ops o d).ro++cond (zl7 C o).isSome (zC3 S o) [];rw[J];refine kO _ ?_;show n∈zC3 S o;unfold zC3;refine qO.2 ⟨.lp l D,?_,?_⟩;{obtain⟨m,r,G⟩:∃m,S.opnd x=some m/\At.lp l D∈zbM m:=⟨_,zOh P,by simp[zbM,zZ]⟩;exact F x (zxt x c) m r _ G};{simp only [p];exact qO.2 ⟨a,q,u⟩})
structure Free (C:Cfg) (ops:Array Oper) (cl:List (List Nat)) (b:Bool) (base a:Nat) (ss:List Step) (st0:St):Prop where
 at1:∀i s,ss[i]?=some s->∃o f,ops[a+i]?=some o/\At1 C ops base (a+i) o (zbz ops b (fun j=>decide (j<a+i)) a ss st0) f s
 apart:∀i k s s' o o' f f',ss[i]?=some s->ss[k]?=some s'->ops[a+i]?=some o->ops[a+k]?=some o'->At1 C ops base (a+i) o (zbz ops b (fun j=>decide (j<a+i)) a ss st0) f s->
  At1 C ops base (a+k) o' (zbz ops b (fun j=>decide (j<a+k)) a ss st0) f' s'->i<k->a+i∉cl.getD (a+k) []->f.apart f'=true
def zj0 (a:List (List Nat))(X:Nat->Bool):Prop:=∀k,X k=true->∀j∈a.getD k [],X j=true
variable {cl:List (List Nat)} {ss:List Step} {st0:St} {a:Nat}
theorem zHS {i:Nat}{o:Oper}{S:St}{f a:Foot}{s:Step}(h:At1 C ops base i o S f s)(b:At1 C ops base i o S a s):f=a:=by cases s with|none=>rw[h.2,b.2]|some d=>rw[h.2.2.2,b.2.2.2]
theorem zLh (F:Free C ops cl b base a ss st0){X:Nat->Bool}(D:zj0 cl X){i:Nat}{s:Step}(y:ss[i]?=some s)(d:X (a+i)=false)(E:∀j∈cl.getD (a+i) [],X j=true) :
 ∃o f,ops[a+i]?=some o/\At1 C ops base (a+i) o (zbz ops b (λj=>decide (j<a+i)) a ss st0) f s/\∀m,f.reads m->(zbz ops b X a ss st0).get m=(zbz ops b (λj=>decide (j<a+i)) a ss st0).get m:=by
 obtain⟨o,f,x,r⟩:=F.at1 i s y;refine⟨o,f,x,r,λm q=>?_⟩;refine zsu ss a st0 st0 rfl rfl (λk z B u l g G=>?_);obtain⟨H,A,n,t⟩:=F.at1 k z u;rw[l]at n;cases n;have p:=(zCJ t m).1 G
 by_cases v:k<i
 .have hXk:X (a+k)=false:=by have c:a+k<a+i:=(by omega);simp only[c,decide_true]at g;simpa using g
  have w:a+k∉cl.getD (a+i) []:=λh=>by rw[E (a+k) h]at hXk;cases hXk
  exact((apart_spec<|F.apart k i z s B o A f u y l x t r v w).1 m p).1 q
 .have hXk:X (a+k)=true:=by have c:¬ (a+k<a+i):=(by omega);simp only[c,decide_false]at g;simpa using g
  have c:i<k:=by have:i≠k:=λe=>(by rw[e,hXk]at d;cases d);omega
  have w:a+i∉cl.getD (a+k) []:=λh=>by rw[D (a+k) hXk (a+i) h]at d;cases d
  exact(apart_spec<|F.apart i k s z o B f A y u x l r t c w).2 m p q
theorem zSb (F:Free C ops cl b base a ss st0){X:Nat->Bool}(g:zj0 cl X){i:Nat}{s:Step}(l:ss[i]?=some s)(c:X (a+i)=false)(k:∀j∈cl.getD (a+i) [],X j=true) :
 ∃o,ops[a+i]?=some o/\Does C ops base (a+i) o (zbz ops b X a ss st0) s:=by
 obtain⟨o,f,h,d,e⟩:=zLh F g l c k;exact⟨o,h,zVa d (by rw[zhB,zhB]) e⟩
theorem zId (F:Free C ops cl b base a ss st0){X Y:Nat->Bool}(x:zj0 cl X){i:Nat}{s:Step}{o:Oper}(p:ss[i]?=some s)(n:ops[a+i]?=some o)(d:X (a+i)=false)(y:∀k,Y k=(X k||k==a+i))(c:Key) :
 (zbz ops b Y a ss st0).get c=((zbz ops b X a ss st0).step b o s).get c:=by
 refine z4q y n p (λk v B u e m l c A q=>?_) c;obtain⟨D,f,g,r⟩:=F.at1 i s p;rw[n]at g;cases g;obtain⟨E,w,j,t⟩:=F.at1 k v u;rw[e]at j;cases j;have z:a+i∉cl.getD (a+k) []:=λh=>by rw[x (a+k) l (a+i) h]at d;cases d
 exact((apart_spec<|F.apart i k s v o B f w p u n e r t m z).1 c ((zCJ r c).1 A)).2 ((zCJ t c).1 q)
theorem z1z {l:St}{o:Oper}{id i:Nat}{d:Dl}(j:ops[i]?=some o)(h:delta C l o id=some d)(a:zQD ops i=false)(g:(zEB C&&zVS o)=false):d.bump=false:=by
 simp only[zQD,j]at a;cases b:o.op<;>simp only [b]at a<;>simp only [delta,b]at h;(case store=>cases a);case buildSlice=>cases a
 case call c=>
  split at h
  case h_4 e=>rw[e]at a;cases a
  all_goals (repeat' (first|split at h|cases h))
  all_goals rfl
 case slice T x lo hi mx=>
  cases mx with
  |some m=>simp at h
  |none=>
   cases lo with
   |none=>
    cases hi with
    |none=>(repeat' (first|contradiction|split at h|cases h));all_goals (first|rfl|contradiction|(exfalso;simp_all))
    |some f =>have e:zEB C=false:=(by simp only[zVS,b,vL]at g;exact g);(repeat' (first|contradiction|split at h|cases h));all_goals (first|(simp only [zH8,e,Bool.false_and];done)|rfl|contradiction|(exfalso;simp_all))
   |some k =>
    cases hi with
    |none=>cases a
    |some f =>(repeat' (first|contradiction|split at h|cases h));all_goals (first|rfl|contradiction|(exfalso;simp_all))
 case binOp=>
  simp only[zC4]at h
  repeat' (first|split at h|cases h)
  all_goals rfl
 (all_goals (repeat' (first|contradiction|split at h|cases h)));all_goals (first|rfl|contradiction)
theorem zYM {f:St}{o:Oper}{id i:Nat}{d:Dl}(e:ops[i]?=some o)(h:zmn C f o id=some d)(b:zl5 C ops i=false):d.bump=false:=by unfold zl5 at b;rw[vG]at b;unfold zmn at h;cases c:delta C f o id with|some j =>rw[c]at h;cases h;have a:=b.2;rw[e]at a;have a:((zl7 C o).isSome||(zEB C&&zVS o))=false:=a;rw[vG]at a;exact z1z e c b.1 a.2|none=>rw[c]at h;exfalso;have a:=b.2;rw[e]at a;have a:((zl7 C o).isSome||(zEB C&&zVS o))=false:=a;rw[vG]at a;have a:=a.1;have h:znn C f o id=some d:=h;unfold znn at h;(cases g:zl7 C o with|none=>rw[g]at h;cases h|some y=>rw[g]at a;cases a)
end
section
variable {C:Cfg} {w0 w w1:World} {S0:zbl} {U:Nat->Prop} {st st1:St} {E E1:Env} {ts:Array Value} {sv:List (Array Value)}
variable {ops:Array Oper} {b:Bool} {base:Nat} {cl:List (List Nat)} {ss:List Step} {st0:St}
theorem z1y {R a:Root}(h:zg4 b R=a)(c:a.ep=none):R=a:=by unfold zg4 at h;split at h;{subst h;cases c};{exact h}
theorem z4T {l:List (Nat×Root)}{n:Nat}{R:Root}(h:zx (l.map λ(x:Nat×Root)=>(x.1,zg4 b x.2)) n=some R):∃d,zx l n=some d/\zg4 b d=R:=by induction l with|nil=>cases h|cons a l e=>obtain⟨k,v⟩:=a;simp only[jH,zx]at h ⊢;split at h;{cases h;rename_i c;rw[if_pos c];exact⟨v,rfl,rfl⟩};{rename_i c;rw[if_neg c];exact e h}
theorem z2i {l:List (Nat×Root)}{n:Nat}(h:zx (l.map λ(x:Nat×Root)=>(x.1,zg4 b x.2)) n=none):zx l n=none:=by induction l with|nil=>rfl|cons a l d=>obtain⟨k,v⟩:=a;simp only[jH,zx]at h ⊢;split at h;{cases h};{rename_i c;rw[if_neg c];exact d h}
theorem z07 {o:Oper}{d:Dl}(J:b=false->d.bump=false)(K:b=true->Dead st/\0<st.ep)(y:Sim w0 S0 U (st.apply o.dst d) E ts sv w):Sim w0 S0 U (st.effD b o.dst d) E ts sv w:=by
 have A:∀t:Nat,(st.effD b o.dst d).tm[t]?=(st.apply o.dst d).tm[t]?:=λt=>(by unfold St.effD St.apply;cases o.dst<;>rfl);have B:(st.effD b o.dst d).lo=(st.apply o.dst d).lo:=(by unfold St.effD St.apply;cases o.dst<;>rfl);have C:(st.effD b o.dst d).stk=(st.apply o.dst d).stk:=(by unfold St.effD St.apply;cases o.dst<;>rfl);have D:(st.effD b o.dst d).ro=d.ro.map (λ(x:Nat×Root)=>(x.1,zg4 b x.2))++st.ro:=(by unfold St.effD;cases o.dst<;>rfl);have F:(st.apply o.dst d).ro=d.ro++st.ro:=(by unfold St.apply;cases o.dst<;>rfl);have v:(st.effD b o.dst d).ep=st.ep:=by unfold St.effD;cases o.dst<;>rfl
 have I:(st.apply o.dst d).ep=if d.bump then st.ep+1 else st.ep:=by
  unfold St.apply;cases o.dst<;>rfl
 cases b with
 |false=>have L:d.bump=false:=J rfl;have p:d.ro.map (λ(x:Nat×Root)=>(x.1,zg4 false x.2))=d.ro:=(by have:(λ(x:Nat×Root)=>(x.1,zg4 false x.2))=id:=(by funext x;rfl);rw[this,List.map_id]);have j:(st.effD false o.dst d).ro=(st.apply o.dst d).ro:=(by rw[D,F,p]);have m:(st.effD false o.dst d).ep=(st.apply o.dst d).ep:=(by rw[v,I,L];rfl);exact y.fewer A (λn=>by rw[B]) C (λn R h=>by simpa only [St.root,j,m] using h) (λn R h=>⟨R,by rw[<- j];exact h⟩) (λn R e h s=>by rw[m];exact y.mem.epo n R e (by rw[<- j];exact h) s)
 |true=>obtain⟨l,M⟩:=K rfl;have f:∀n R,zx (st.effD true o.dst d).ro n=some R->∃a,zx (st.apply o.dst d).ro n=some a/\(zg4 true a=R\/(a=R/\zx st.ro n=some R)):=(by intro n R h;rw[D,zb3]at h;rw[F,zb3];split at h;{rename_i x z;cases h;obtain⟨a,r,c⟩:=z4T z;exact⟨a,by rw[r],.inl c⟩};{rename_i z;rw[z2i z];exact⟨R,h,.inr ⟨rfl,h⟩⟩});have g:∀a:Root,(zg4 true a).ep=none\/(zg4 true a).ep=some 0:=(by intro a;cases H:a.ep with|none=>left;simp[zg4,H]|some e=>right;simp[zg4,H]);have q:∀n R,(st.effD true o.dst d).root n=some R->R.ep=none/\zx (st.effD true o.dst d).ro n=some R:=(by intro n R h;obtain⟨G,i⟩:=zbJ h;refine⟨?_,G⟩;rcases i with i|i;{exact i};{exfalso;rw[v]at i;obtain⟨a,_,c⟩:=f n R G;rcases c with c|⟨_,c⟩;{have:=g a;rw[c,i] at this;rcases this with h|h;{cases h};{simp only [qC]at h;omega}};{have:=l n R _ c i;omega}});refine y.fewer A (λn=>by rw[B]) C (λn R h=>?_) (λn R h=>?_) (λn R e h s=>?_);{obtain⟨r,c⟩:=q n R h;obtain⟨a,u,k⟩:=f n R c;have e:a=R:=(by rcases k with k|⟨k,_⟩;{exact z1y k r};{exact k});subst e;unfold St.root;rw[u];simp only[r]};{obtain⟨a,u,_⟩:=f n R h;exact⟨a,u⟩};{rw [v];obtain⟨a,_,c⟩:=f n R h;rcases c with c|⟨_,c⟩;{have:=g a;rw[c,s] at this;rcases this with h|h;{cases h};{simp only [qC]at h;omega}};{have:=l n R e c s;omega}}
def UX (U:Nat->Prop)(base a T:Nat)(X:Nat->Bool)(n:Nat):Prop:=U n\/∃i,a<=i/\i<T/\X i=true/\Mine (base+32*i) n
theorem Sim.uses {e:Nat->Prop}(h:Sim w0 S0 U st E ts sv w)(c:∀n,U n->e n):Sim w0 S0 e st E ts sv w :=
 ⟨h.mem,⟨λn R b=>c n (h.ids.ro n R b),λn g b=>⟨c n (h.ids.lo n g b).1,λa i m d=>c m ((h.ids.lo n g b).2 a i m d)⟩,λm d n b=>c n (h.ids.tm m d n b),λf j m d n b=>c n (h.ids.stk f j m d n b)⟩,h.tm,h.stk⟩
theorem zVB (u:CfgOk C)(y:CtrOk C)(x:GraftOk C)(r:Sim w0 S0 U st E ts sv w){o:Oper}{id:Nat}(g:∀n,Mine id n->¬ U n){d:Dl}(h:zmn C st o id=some d)(s:d.c=true):Goes C w0 S0 U st ts sv w o id (λst=>st.apply o.dst d):=by unfold zmn at h;cases l:delta C st o id with|some A =>rw[l]at h;cases h;exact zGW u y r g l s|none=>rw[l]at h;have e:∃a,zEJ C st o id=some (d.c,a,d.v)/\a.put o.dst d.v=st.apply o.dst d:=(by simp only[znn]at h;unfold zl7 callArgs at h;unfold zEJ;split at h;{rename_i own z i;split at i;{rename_i c t;split at i;{rename_i f b;have j:zOi o=f:=(by simp only[zOi,t,b]);rw[j]at h;simp only[t,b,i]at h ⊢;generalize c.args.toList=m at h ⊢;unfold zQN at h;unfold zXc;split at h;{split at h;{split at h;{split at h;{split at h;{split at h;{split at h;{split at h;{rename_i p _ _ q _ _ _ B _ _ D _ _ _ _ F _ _ G H;cases h;simp only[*];refine⟨_,rfl,?_⟩;unfold St.apply;simp[j4]};{cases h}};{cases h}};{cases h}};{cases h}};{cases h}};{cases h}};{cases h}};{cases h}};{cases i}};{cases i}};{cases h});obtain⟨a,p,q⟩:=e;have k:=(x.pok w0 w S0 U st E ts sv o id d.c a d.v r g p s).1;rw[q] at k;exact k
theorem zC8 (S:CfgOk C)(W:CtrOk C)(V:GraftOk C){a T:Nat}(hT:a+ss.length=T)(F:Free C ops cl b base a ss st0){X Y:Nat->Bool}(M:zj0 cl X){i:Nat}(q:a<=i)(I:i<T)(l:X i=false)(hr:∀j∈cl.getD i [],X j=true)(hb:b=false->∀k,a<=k->k<T->zl5 C ops k=false)(H:b=true->Dead st0/\0<st0.ep)(hM:∀k,a<=k->k<T->∀n,Mine (base+32*k) n->¬ U n)(G:∀k,Y k=(X k||k==i))(y:Sim w0 S0 (UX U base a T X) (zbz ops b X a ss st0) E ts sv w){Q:Exit->Act->World->Prop}{K:Act->World->Prop}(Z:∀(r:Env) (c:Array Value) (g:World),Sim w0 S0 (UX U base a T Y) (zbz ops b Y a ss st0) r c sv g->K {tmps:=c,defers:=[]} g) :
 wpOp C.P ops Q i K {tmps:=ts,defers:=[]} w:=by
 obtain⟨j,rfl⟩:∃j,i=a+j:=⟨i-a,by omega⟩
 obtain⟨s,N⟩:∃s,ss[j]?=some s:=⟨_,qB (by omega)⟩
 obtain⟨o,J,x⟩:=zSb F M N l hr;have f:∀n,UX U base a T X n->UX U base a T Y n:=by rintro n (h|⟨k,R,A,t,B⟩);{exact .inl h};{exact .inr ⟨k,R,A,by rw[G,t];rfl,B⟩}
 have u:∀{r:Env} {c:Array Value} {g:World},Sim w0 S0 (UX U base a T Y) ((zbz ops b X a ss st0).step b o s) r c sv g->K {tmps:=c,defers:=[]} g:=by intro r c g h;refine Z r c g (h.same (λκ=>zId F M N J l G κ) ?_ ?_);{rw [zm6,zXV,zm6]};{rw [zhB,zQV,zhB]}
 unfold wpOp;simp only[J];cases s with
 |none=>rw[if_neg (by simp[zDb y x])];have t:=y.putV (dst:=o.dst) (m:=.und) (v:=undef) rfl (λn z=>by simp[MV.ids,zbM]at z);rw[zj1];exact u (t.uses f)
 |some d=>obtain⟨A,t,B⟩:=x;rw[if_pos<|zDb y A];refine .inl (zVB S W V y (id:=base+32*(a+j)) ?_ t B _ _ λr v g D=>?_);{rintro n z (h|⟨k,_,g1,L,O⟩);{exact hM (a+j) q I n z h};{refine z0w (i:=k) (j:=a+j) (λe=>?_) O z;rw[e,l] at L;cases L}};{rw [zj1];refine u ((z07 (λp=>zYM J t (hb p (a+j) q I)) (λp=>?_) D).uses ?_);{subst p;exact⟨zzy ss a st0 (H rfl).1 (H rfl).2,by rw[zhB];exact(H rfl).2⟩};{rintro n (h|h);{exact f n h};{exact .inr ⟨a+j,q,I,by rw[G];simp,h⟩}}}
end
section
variable {C:Cfg} {w0 w w1:World} {S0:zbl} {U:Nat->Prop} {st st1:St} {E E1:Env} {ts:Array Value} {sv:List (Array Value)}
theorem z2j (t:Ty)(x:t.den):t.ofCells (t.cells x)=some x:=by cases t<;>first|rfl|simp[Ty.ofCells,Ty.cells]
theorem zSB:∀(p:List (Int×Nat)) {t:Ty} {l:List t.den} {c:CV},ziF t l p=some c->∀m,zr3 t l p c=some m->m=l
 |[],t,l,c,h,m,a=>by simp only[ziF,qC]at h;subst h;simpa [zr3] using a.symm
 |(i,j)::p,t,l,c,h,m,a=>by
  simp only[ziF]at h;simp only[zr3]at a;split at h
  .rename_i t1 l1 hc;rw[hc]at a;simp only at a;split at a
   .rename_i l2 hl2;have:=zSB p h l2 hl2;subst this;split at a
    .rename_i x hx;cases a;have f:j<(t.cells (ix l i t.dflt)).length:=(qA.1 hc).1;have e:splice (t.cells (ix l i t.dflt)) j [CV.s t1 l2]=t.cells (ix l i t.dflt):=zHD _ _ _ (by simp;omega) (fun k d=>by
      have:k=0:=by simpa using d
      subst this;simpa using hc)
     rw[e,z2j]at hx;cases hx;unfold up ix;apply uJ;intro k;rw[jI];split;{rename_i d;subst d;split;{rename_i b;simp[List.getD,qB b]};{rename_i b;rw[List.getElem?_eq_none (by omega)]}};{rfl}
    {cases a}
   {cases a}
  {cases h}
theorem z7h {t:Ty}(c:t.flat=true):∀(q:List (Int×Nat)) (v u:Value),zbg w t v q=some u->q=[]
 |[],_,_,_=>rfl
 |(i,j)::q,v,u,h=>by exfalso;cases v with|slice a len d=>(cases a with|none=>simp[zbg]at h|some a=>simp only[zbg]at h;split at h;{split at h;{rename_i e b;unfold Ty.flat at c;have:=qL.1 c _ (qJ b);simp at this};{cases h}};{cases h})|_=>simp[zbg]at h
theorem zbbs (hC:CfgOk C){T:TypeId}{t:Ty}(hT:C.sty T=some t)(hf:t.flat=true){v1 v2:Value}{d f:List t.den}{S1 S2:zbl}(c3:Rep true w v1 (.s t d) S1)(c4:Rep false w v2 (.s t f) S2)(b8:f≠[])(d1:few (ln (ap d f))=true)(oT:TypeId) :
 ∃(v:Value) (E:World) (L Z r:Nat),(Builtin.append_ #[T,T] oT #[v1,v2]).run C.P w = .ok v E/\v = .slice (some ⟨L,Z,none⟩) (ap d f).length r/\Rep true E v (.s t (ap d f)) (fun x=>x=L)/\
  E.os=w.os/\E.tape=w.tape/\E.output=w.output/\
  ((L=w.heap.size/\E.heap.size=w.heap.size+1/\∀x,x<w.heap.size->E.heap[x]?=w.heap[x]?) \/
    ∃Y N,v1 = .slice (some ⟨L,Y,none⟩) d.length N/\S1 L/\E.heap.size=w.heap.size/\(∀x,x≠L->E.heap[x]?=w.heap[x]?)/\Rep true E v1 (.s t d) S1):=by
 obtain⟨e,hE⟩:=hC.sty T t hT;obtain⟨i,z,m,hs,hz,f3,d0⟩:=hE.info;obtain⟨f0,f1⟩:=zOp d1;have d4:d.length+f.length<=2147483648:=by simp only[ln,ap,kN] at f1;omega
 have a3:(ap d f).length=d.length+f.length:=by simp[ap]
 cases c4 with
 |nil=>exact absurd rfl b8
 |void=>exact absurd rfl b8
 |sl _ _ b2 p F a2 e2 f7 V2 K2 _ d7 f5 e4 b5 f6 f8 f2 d9 d5 a5=>
 have e5:0<f.length:=kU.2 b8;have e7:f.length*t.width<=F*t.width:=qR _ b5;generalize V:(a2.toList.drop p).take (f.length*t.width)=a;have D:a.length=f.length*t.width:=by rw[<- V];simp;omega
 have a6:∀k,k<f.length*t.width->a[k]?=a2[p+k]?:=by intro k hk;rw[<- V,jN,if_pos hk,jS];simp
 have c1:∀j u,a[j]?=some u->w.cell? ((⟨b2,p,none⟩:Addr).add j)=some u:=by intro j u hu;have B:j<f.length*t.width:=(by rw[<- D];exact(qA.1 hu).1);rw[add_lit,cell_of_block d7,<- a6 j B];exact hu
 have I:∀i j,i<f.length->j<t.width->i*t.width+j<f.length*t.width:=by intro i j m B;have:(i+1)*t.width<=f.length*t.width:=qR _ m;rw[jM] at this;omega
 have c2:∀i j,i<f.length->j<t.width->a[i*t.width+j]?=some (V2 i j):=by intro i j m B;rw[a6 _ (I i j m B),<- uD];exact d5 i j m B
 have d6:=zEk t;have e8:∀u∈a,u.oneCell'=true:=by intro u hu;obtain⟨k,hk⟩:=qQ.1 hu;have e3:k<f.length*t.width:=(by rw[<- D];exact(qA.1 hk).1);have a1:k / t.width<f.length:=(Nat.div_lt_iff_lt_mul d6).2 e3;have d3:k % t.width<t.width:=Nat.mod_lt _ d6;have:=c2 _ _ a1 d3;rw[Nat.mul_comm,Nat.div_add_mod,hk] at this;cases this;have J:=qB a1;have y:(t.cells (f[k / t.width]'a1))[k % t.width]?=some ((t.cells (f[k / t.width]'a1))[k % t.width]'(by rw[zd3];exact d3)):=qB _;exact(a5 _ _ J _ _ y).one
 have U:∀(w1:World) i x,f[i]?=some x->∀j c,(t.cells x)[j]?=some c->Rep true w1 (V2 i j) c (fun _=>False):=fun w1 i x J j c y=>(a5 i x J j c y).flat (zwu hf y);have W:∀i j,i<d.length->j<t.width->i*t.width+j<d.length*t.width:=by intro i j m B;have:(i+1)*t.width<=d.length*t.width:=qR _ m;rw[jM] at this;omega
 have a0:(d.length+f.length)*i.bytes<=140737488355328:=by have:=uY d4 d0;omega
 have b0:z.cells.size=t.width:=by rw[<- kT,f3];simp[zgc]
 have O:∀(g:List Value) (A:Nat) (V1:Nat->Nat->Value) (zs:Array Value),g.length=d.length*t.width->d.length+f.length<=A->zs.size=(A-(d.length+f.length))*t.width->
  (∀i j,i<d.length->j<t.width->g[i*t.width+j]?=some (V1 i j))->
  (∀i x,d[i]?=some x->∀j c,(t.cells x)[j]?=some c->∃S,Rep true w (V1 i j) c S)->
  (Builtin.append_ #[T,T] oT #[v1,.slice (some ⟨b2,p,none⟩) f.length F]).run C.P w = .ok (.slice (some ⟨w.heap.size,0,none⟩) (d.length+f.length) A) (w.drew.alloc (.cells (g.toArray++a.toArray++zs) e (0,0)))->
  ∃(v:Value) (E:World) (L Z r:Nat),(Builtin.append_ #[T,T] oT #[v1,.slice (some ⟨b2,p,none⟩) f.length F]).run C.P w = .ok v E/\v = .slice (some ⟨L,Z,none⟩) (ap d f).length r/\Rep true E v (.s t (ap d f)) (fun x=>x=L)/\
  E.os=w.os/\E.tape=w.tape/\E.output=w.output/\
  ((L=w.heap.size/\E.heap.size=w.heap.size+1/\∀x,x<w.heap.size->E.heap[x]?=w.heap[x]?) \/
    ∃Y N,v1 = .slice (some ⟨L,Y,none⟩) d.length N/\S1 L/\E.heap.size=w.heap.size/\(∀x,x≠L->E.heap[x]?=w.heap[x]?)/\Rep true E v1 (.s t d) S1):=by
  intro g A V1 zs G b4 f4 e9 d8 M;generalize n:w.drew.alloc (.cells (g.toArray++a.toArray++zs) e (0,0))=w1 at M;have c5:∀x,x<w.heap.size->w1.heap[x]?=w.heap[x]?:=fun x J=>by rw[<- n];exact heap_alloc_old w.drew _ x J
  have c6:w1.heap.size=w.heap.size+1:=by rw[<- n];simp
  refine⟨_,w1,w.heap.size,0,A,M,by rw[a3],?_,by rw[<- n];rfl,by rw[<- n];rfl,by rw[<- n];rfl,.inl ⟨rfl,c6,c5⟩⟩
  refine Rep.join (arr:=g.toArray++a.toArray++zs) (e:=e) (V1:=V1) (V2:=V2) (K1:=fun _ _ _=>False) (K2:=fun _ _ _=>False) ?_ (by simp only[big];omega) b4 ?_ rfl ?_ ?_ ?_ (U w1) (fun _ _ _ _ _ h=>h.elim) (fun _ _ _ _ _ h=>h.elim) (fun _ _ _ _ _ _ _ _ _ h=>h.elim) (fun _ _ _ _ _ _ _ _ _ h=>h.elim) (fun _ _ _ _ _ _ _ _ _ h=>h.elim)
  .rw [<- n];exact heap_alloc_new w.drew _
  .simp only [Array.size_append,kC,G,D,f4,<- kW];have:d.length+f.length+(A-(d.length+f.length))=A:=by omega
   rw[this];omega
  .intro i j m B;have:=W i j m B;rw[j8,uU,j7 (by simp[G];exact this)]
   simpa using e9 i j m B
  .intro i j m B;have:=I i j m B;rw[j8,kW,uU,kJ (by simp[G];omega),j7 (by simp[G,D];omega)]
   rw[<- c2 i j m B];simp only[kC,G,jK]
   congr 1
   omega
  .intro i x J j c y;obtain⟨S,M⟩:=d8 i x J j c y;exact M.flat (zwu hf y)
 cases c3 with
 |nil=>
  have M:=run_append_nil (P:=C.P) w T oT e i z hE.und m hz ⟨b2,p,none⟩ f.length F a (by rw[hs];exact D) c1 e5 (by omega) (by
   have:=uY (show f.length<=2147483648 by omega) d0
   omega)
  have b7:=grownCap_ge w f.length 0 e;refine O [] (grownCap w f.length 0 e) (fun _ _=>undef) (Builtin.zeroCells z.cells (grownCap w f.length 0 e-f.length)) (by simp) (by simpa using b7) (by simp[size_zeroCells,b0]) (fun i j m=>by simp at m) (fun i x J=>by simp at J) ?_;rw[M];simp
 |void _ _ _ ho=>cases ho
 |sl _ _ b l r q e1 fz V1 K1 _ hb e0 b9 Q a9 c8 c7 b6 X R=>
  have d2:=e0 rfl;subst d2;have e6:d.length*t.width<=r*t.width:=qR _ Q;by_cases H:d.length+f.length<=r;{have c0:(d.length+f.length)*t.width<=r*t.width:=qR _ H;rw[kW]at c0;have M:=run_append_room' (P:=C.P) (w:=w) T oT e i hE.und m b l d.length r q e1 hb ⟨b2,p,none⟩ f.length F a (by rw[hs];exact D) c1 e8 H (by rw[hs,D];omega);rw[hs]at M;have b3:l+d.length*t.width+a.length<=q.toList.length:=(by rw[D];simp;omega);generalize n:w.setRow b (splice q.toList (l+d.length*t.width) a).toArray=w1 at M;have c9:w1.heap[b]?=some (.cells (splice q.toList (l+d.length*t.width) a).toArray e1 (0,0)):=(by rw[<- n];exact setRow_heap w b _ _ e1 _ hb);have a8:∀x,x≠b->w1.heap[x]?=w.heap[x]?:=fun x J=>(by rw[<- n];exact setRow_other w b x _ J);have a4:(splice q.toList (l+d.length*t.width) a).toArray.size=q.size:=(by rw[kC,zkB _ _ _ b3];simp);have K:∀k,k<l+d.length*t.width->(splice q.toList (l+d.length*t.width) a).toArray[k]?=q[k]?:=(by intro k hk;rw[jK,zf0 _ _ _ b3 k (.inl hk)];simp);have b1:Rows true w t d q l b V1 K1 S1:=⟨c7,b6,X,R⟩;obtain⟨k1,_⟩:=Rep.behind (w1:=w1) b9 Q a9 c8 b1 hb c9 a4 K a8;refine⟨_,w1,b,l,r,M,by rw[a3],?_,by rw[<- n];rfl,by rw[<- n];rfl,by rw[<- n];rfl,.inr ⟨l,r,rfl,c8,by rw[<- n];simp,a8,k1⟩⟩;refine Rep.join (arr:=(splice q.toList (l+d.length*t.width) a).toArray) (e:=e1) (V1:=V1) (V2:=V2) (K1:=fun _ _ _=>False) (K2:=fun _ _ _=>False) c9 (by simp only[big];omega) H (by rw[a4];exact a9) rfl ?_ ?_ ?_ (U w1) (fun _ _ _ _ _ h=>h.elim) (fun _ _ _ _ _ h=>h.elim) (fun _ _ _ _ _ _ _ _ _ h=>h.elim) (fun _ _ _ _ _ _ _ _ _ h=>h.elim) (fun _ _ _ _ _ _ _ _ _ h=>h.elim);{intro i j m B;have:=W i j m B;rw[K _ (by omega)];exact X i j m B};{intro i j m B;have:=I i j m B;rw[jK,kW,zgd _ _ _ b3 _ (by omega) (by rw[D];omega),<- c2 i j m B];congr 1;omega};{intro i x J j c y;exact(R i x J j c y).flat (zwu hf y)}}
  .generalize holds:(q.toList.drop l).take (d.length*t.width)=g;have G:g.length=d.length*t.width:=(by rw[<- holds];simp;omega);have a7:∀k,k<d.length*t.width->g[k]?=q[l+k]?:=by intro k hk;rw[<- holds,jN,if_pos hk,jS];simp
   have M:=run_append_grow (P:=C.P) w T oT e i z hE.und m hz ⟨b,l,none⟩ d.length r g (by rw[hs];exact G) (fun j u hu=>by
    have B:j<d.length*t.width:=by rw[<- G];exact(qA.1 hu).1
    rw[add_lit,cell_of_block hb,<- a7 j B];exact hu) ⟨b2,p,none⟩ f.length F a (by rw[hs];exact D) c1 (by omega) (by omega) (growslice_fits (by omega) a0)
   have b7:=grownCap_ge w (d.length+f.length) r e;refine O g _ V1 _ G b7 (by rw[size_zeroCells,b0]) (fun i j m B=>?_) (fun i x J j c y=>⟨_,R i x J j c y⟩) M;have:(i+1)*t.width<=d.length*t.width:=qR _ m;rw[jM] at this;rw[a7 _ (by omega),<- uD];exact X i j m B
end
section
variable {C:Cfg} {w0 w w1:World} {S0:zbl} {U:Nat->Prop} {st st1 st':St} {E E1:Env} {ts:Array Value} {sv:List (Array Value)}
def Late (w0:World)(st:St)(E:Env)(x:App)(v:Value)(w:World):Prop :=
 ∃(f e d g:Nat) (R:Root),w0.heap.size<=f/\(∀q Q,st.root q=some Q->∀y,E.φ q y->y<f)/\(∀l h,zx st.lo l=some h->E.β l<f)/\
  v = .slice (some ⟨e,d,none⟩) x.l.length g/\Rep true w v (.s x.t x.l) (λy=>y=e)/\st.root x.r=some R/\
  (f<=e\/∃c b a,zbg w R.t (E.ρ x.r) x.p=some (.slice (some ⟨e,c,none⟩) b a))
theorem Late.states {x:App}{v:Value}(h:Late w0 st E x v w)(d:∀n,st'.root n=st.root n)(s:∀n,zx st'.lo n=zx st.lo n):Late w0 st' E x v w:=by obtain⟨t,e,a,b,R,g,i,j,k,m,p,r⟩:=h;exact⟨t,e,a,b,R,g,λq Q c=>i q Q (by rw[<- d];exact c),λl f c=>j l f (by rw[<- s];exact c),k,m,by rw[d];exact p,r⟩
theorem zHE {r:Nat}(a:At):zdH r [] a=a:=by cases a<;>simp [zdH,coarse]
theorem zHF {r:Nat}(m:MV):zhL r [] m=m:=by have h:zdH r []=id:=funext λa=>zHE a;have c:∀x,zou r [] x=x:=λx=>(by cases x<;>simp [zou,h]);have b:zou r []=id:=funext c;cases m<;>simp [zhL,c,b]
theorem z4Q (h:Dead st){n:Nat}{R:Root}(c:st.root n=some R):R.ep=none:=by obtain⟨b,a⟩:=zbJ c;rcases a with a|a;{exact a};{have:=h n R _ b a;omega}
theorem z5w {v:Value}{t:Ty}{l:List t.den}{S:zbl}{b off n a:Nat}(h:Rep true w v (.s t l) S)(e:v = .slice (some ⟨b,off,none⟩) n a):b<w.heap.size/\S b:=by cases h with|nil=>cases e|void _ _ _ f=>cases f|sl _ _ g _ _ _ _ _ _ _ _ d _ _ _ _ c=>cases e;exact⟨(qS.1 d).1,c⟩
theorem z7v (hC:CfgOk C)(k:Sim w0 S0 U st E ts sv w)(hd:Dead st){o:Oper}{x:App}(h:zsl C st o=some (true,x)) :
 o.guard=none/\o.dst=some x.dst/\∃(v:Value) (f:World),(execOp ({tmps:=ts,defers:=[]}:Act).eval o).run C.P w = .ok (.value v) f/\
  Sim w0 S0 U (st.put o.dst<|.v<|.at .bad) E (({tmps:=ts,defers:=[]}:Act).put o.dst v).tmps sv f/\Late w0 st E x v f:=by
 unfold zsl at h;split at h
 .rename_i c d ho hdst hgu;split at h
  .rename_i hcb;split at h
   .rename_i a0 y0 T T2 hca hct;split at h
    .rename_i hTT;subst hTT;split at h
     .rename_i t r a p r2 p2 hT h1 h2;split at h
      .rename_i R cv1 cv2 hR hn1 hn2;split at h
       .rename_i hcond;simp only[qE,jF,beq_eq_false_iff_ne]at hcond;obtain⟨⟨H,a2⟩,b9⟩:=hcond;split at h
        .rename_i m t2 y2 l2' hm;simp only[qC,jO]at h;obtain⟨a1,rfl⟩:=h;refine⟨hgu,hdst,?_⟩;obtain⟨l1,l2,e1,e2,rfl⟩:=zAQ hm;subst e1;have b2:l2≠[]:=by intro e;subst e;cases e2
         rw[e2]at hn2
         clear e2
         generalize c0:a::p=pp at h1 hn1;have j:=k.mem;obtain⟨hx,_⟩:=zbS k h1;obtain⟨hy,_⟩:=zbS k h2;have hh:=hx.2 R hR;have i:=j.rep r R hR;rw[H]at i;obtain⟨t',l0,S1,f1,f2,f3,f4,f5⟩:=Rep.focus pp i hh;have a3:ziF R.t R.l pp=some (.s t l1):=by obtain⟨R',W,b1⟩:=zhn hn1;rw[hR]at W;cases W;exact b1
         rw[a3] at f1;cases f1;obtain⟨R2,S2,b7,g1,g2,g3,g4⟩:=zvZ k hy hn2;obtain⟨v,f,bv,K,S,a5,hv,I,a4,a6,G,L⟩:=zbbs hC hT a2 f3 g3.ro b2 a1 o.type;have X:c.args = #[a0,y0]:=by rw[<- hca]
         have Y:c.argTypes = #[T2,T2]:=by rw[<- hct]
         have g:(execOp ({tmps:=ts,defers:=[]}:Act).eval o).run C.P w = .ok (.value v) f:=by simp[execOp,ho,resolve,hcb,invoke,builtin,X,Y,a5]
         have a7:∀l cs,zx st.lo l=some cs->E.β l<w.heap.size:=by intro l cs h;obtain⟨_,b6,e,h2,_⟩:=j.loc l cs h;exact(qS.1 h2).1
         rcases L with⟨b8,b4,O⟩|⟨a8,V,b5,B,b4,F,N⟩
         .obtain⟨hM',hT'⟩:=j.addRoots k.ids.mem (dro:=[]) (w1:=f) (E1:=E) a4 a6 G (by omega) O (λq Q b=>by cases b) (λq Q _ _ b=>by cases b) (λ_ _=>⟨rfl,rfl,rfl⟩)
          refine⟨v,f,g,Sim.next k (st1:=st) hM' hT' rfl rfl (λ_ h=>h) k.ids.ro k.ids.lo trivial (λn hn=>by simp[MV.ids,zbM,zZ,At.ids,zbA,zbG]at hn),?_⟩
          exact⟨w.heap.size,bv,K,S,R,j.size,λq Q b y hy=>j.rlt q Q b y hy,a7,hv,I,hR,.inl (by omega)⟩
         .obtain⟨m,hm1,hrm,hh1,hh2⟩:=f5 f l1 S1 (λz _ M=>F z λe=>M (e ▸ B)) (λ_ h _=>h) N;have b3:=zSB pp a3 m hm1;subst b3;obtain⟨_,_,_,_,a9⟩:=f5 w l1 S1 (λ_ _ _=>rfl) (λ_ h _=>h) f3;have D:∀q u,zbg w R.t (E.ρ r) q=some u->zbg f R.t (E.ρ r) q=some u:=by intro q u b;refine hh1 q u b (λq' Z=>?_);subst Z;rw[a9]at b;exact z7h a2 q' _ _ b
          have J:=zG8 (w1:=f) (m:=R.l) (js:=[]) (S3:=E.φ r) k hR H a4 a6 G (by omega) (λz hz M=>F z λe=>M (f4 z<|e ▸ B)) (λz hz=>⟨.inl hz,by have:=j.rlt r R hR z hz;omega⟩) (hrm.weak λz hz=>by
           rcases hz with⟨h,_⟩|h
           .exact h
           .exact f4 z h) (λq u b _=>D q u b)
          have hE:({E with φ:=λn=>if n=r then E.φ r else E.φ n}:Env)=E:=by
           have:(λn=>if n=r then E.φ r else E.φ n)=E.φ:=by
            funext n
            split
            .rename_i e;rw[e]
            .rfl
           rw[this]
          rw[hE]at J;have b0:Sim w0 S0 U st E ts sv f:=by refine J.fewer (λt=>?_) (λn=>?_) ?_ (λn Q A=>?_) (λn Q A=>?_) (λn Q e A Z=>j.epo n Q e A Z);{simp only [zjW,qN];cases st.tm[t]? <;> simp [zHF]};{simp only [zjW];rw[zmY];have:zdH r []=id:=funext λa=>zHE a;cases zx st.lo n<;>simp [this]};{simp only [zjW];have:zhL r []=id:=funext λa=>zHF a;simp[this]};{have Z:=z4Q hd A;obtain⟨q1,_⟩:=zbJ A;refine zjh ?_ (.inl Z);simp only[zjW,zx];split;{rename_i hb;simp only[qM]at hb;subst hb;rw[hR]at A;cases A;rfl};{exact q1}};{simp only [zjW,zx];split;{exact⟨_,rfl⟩};{exact⟨Q,A⟩}}
          refine⟨v,f,g,b0.putV trivial (λn hn=>by simp[MV.ids,zbM,zZ,At.ids,zbA,zbG]at hn),?_⟩
          refine⟨w.heap.size,bv,K,S,R,j.size,λq Q b y hy=>j.rlt q Q b y hy,a7,hv,I,hR,.inr ⟨a8,l1.length,V,?_⟩⟩;refine D pp _ ?_;rw[hh,b5]
        .cases h
       .cases h
      .cases h
     .cases h
    .cases h
   .cases h
  .cases h
 .cases h
theorem z1Y (hC:CfgOk C)(hS:Sim w0 S0 U st E ts sv w){o:Oper}{id:Nat}{x:App}{v:Value}{b4:St}(hL:Late w0 st E x v w)(g0:ts[x.dst]?=some v)(h:zDA C st o x=some (true,b4)) :
 o.guard=none/\Goes C w0 S0 U st ts sv w o id (λ_=>b4.put o.dst .und)/\b4.nid=st.nid:=by
 unfold zDA at h;split at h
 .rename_i T a d ho hgu;split at h
  .rename_i t1 r p i off hT ha;split at h
   .rename_i R t l c hRr L hsp;split at h
    .rename_i hcond;simp only[qE,qX,Nat.beq_eq_true_eq]at hcond;obtain⟨⟨⟨a4,a9⟩,b2⟩,G⟩:=hcond;have a9:=jU a9;have b2:=jU b2;subst a9 b2;split at h
     .rename_i l' hset;split at h
      .rename_i m hput;simp only[qC,jO]at h;obtain⟨rfl,rfl⟩:=h;refine⟨hgu,?_,rfl⟩;have f7:=ztX hsp;obtain⟨n0,X,g7,g3,R',e8,Q,e7,c6,P,M,S⟩:=hL;rw[hRr]at M;cases M;obtain⟨d0,g8⟩:=zbS hS ha;obtain⟨b,o2,len,c8,h0,e1,e2,e3,Y,e5⟩:=d0.2 R hRr;have hM:=hS.mem;have a5:=hM.rep _ R hRr;rw[a4]at a5;obtain⟨t',l0,S1,f1,f2,f3,f4,f5⟩:=Rep.focus p a5 e1;have d7:ziF R.t R.l p=some (.s t l):=by obtain⟨R',M,d6⟩:=zhn L;rw[hRr]at M;cases M;exact d6
       rw[d7] at f1;cases f1;rw[e2] at f2;cases f2;obtain⟨_,_,_,_,b5⟩:=f5 w l S1 (λ_ _ _=>rfl) (λ_ h _=>h) f3;cases f3 with
       |void _ _ _ ho=>cases ho
       |sl _ _ _ _ _ a6 e' fz V K _ hb d5 b0 a0 c5 a7 A a1 c7 b8=>
       have b9:=d5 rfl;subst b9;have N:Rows true w t l a6 o2 b V K S1:=⟨A,a1,c7,b8⟩;have a3:v.oneCell'=true:=by rw[c6];rfl
       have B:v.cells = #[v]:=cells_one a3;have O:off+[v].length<=t.width:=by simp;omega
       have c3:(i.toNat+1)*t.width<=c8*t.width:=qR _ (by omega)
       rw[jM]at c3;have H:=zre (w:=w) (v:=v) (off:=o2+i.toNat*t.width+off) (hC.cty T false [.s t1] hT) hb (by rw[B];rfl) (by simp;omega) (by rw[B];intro u hu;simp at hu;rw[hu];exact a3)
       rw[B]at H;have e6:(#[v]:Array Value).toList=[v]:=rfl;rw[e6]at H;generalize J:w.setRow b (splice a6.toList (o2+i.toNat*t.width+off) [v]).toArray=w1 at H;have b7:w1.heap[b]?=some (.cells (splice a6.toList (o2+i.toNat*t.width+off) [v]).toArray e' (0,0)):=by rw[<- J];exact setRow_heap w b _ _ e' _ hb
       have D:∀y,y≠b->w1.heap[y]?=w.heap[y]?:=λy z=>by rw[<- J];exact setRow_other w b y _ z
       have c2:E.φ x.r b:=f4 b a7;have g9:b<n0:=Q _ R hRr b c2;have a2:∀F j,F<l.length->j<t.width->¬ Hit i.toNat off [v].length F j->∀y,K F j y->w1.heap[y]?=w.heap[y]?:=λF j I hj _ y z=>D y ((A F j y I hj z).2 rfl)
       have a8:n0<=X\/K i.toNat off X:=by rcases S with h|⟨g6,g5,g2,h⟩;{exact .inl h};{right;rw[<- f7,b5]at h;simp only[zbg]at h;rw[if_pos ⟨e3,Y⟩]at h;split at h;{rename_i t3 f9;rw[cell_of_block hb,c7 i.toNat off Y G]at h;simp only[qC]at h;obtain⟨c,hc,d3⟩:=zAh (x:=ix l i t.dflt) f9;obtain⟨l3,rfl⟩:=znP d3;have c1:=b8 i.toNat _ (znY Y) off _ hc;rw[h]at c1;cases c1 with|void _ _ _ ho=>cases ho|sl _ _ _ _ _ _ _ _ _ _ _ _ _ _ _ _ c9=>exact c9};{cases h}}
       have Z:X≠b:=by rcases a8 with h|h;{omega};{exact(A _ _ X Y G h).2 rfl}
       have b3:=Rep.setCells (w:=w) (w1:=w1) (us:=[v]) (Kn:=λ_ y=>y=X) b0 a0 c5 N Y rfl O hset b7 (λk c u hc hu=>by
        cases k with
        |zero=>simp only[qI,qC]at hc hu;subst hc hu;exact P.frame (λy z=>D y (by rw[z];exact Z))
        |succ k=>simp at hc)
        a2
        (λk y _ z=>by rw[z];exact Z)
        (λk k' y hk e0 _ _=>by simp at hk e0;omega)
        (λk y F j hk z I hj e9 W=>by
         subst z;rcases a8 with h|h
         .have:=Q _ R hRr y (f4 y (A F j y I hj W).1);omega
         .have:=a1 rfl _ _ _ _ y Y G I hj h W;exact e9 ⟨this.1.symm,by omega,by simp;omega⟩)
       have b6:∀y,(y=b\/(∃F j,F<l.length/\j<t.width/\¬ Hit i.toNat off [v].length F j/\K F j y)\/∃k,k<[v].length/\y=X)->S1 y\/(n0<=y/\y=X):=by intro y z;rcases z with rfl|⟨F,j,I,hj,_,hk⟩|⟨k,hk,rfl⟩;{exact .inl a7};{exact .inl (A F j y I hj hk).1};{rcases a8 with h|h;{exact .inr ⟨h,rfl⟩};{exact .inl (A _ _ _ Y G h).1}}
       obtain⟨m',c0,f8,d8,d9⟩:=f5 w1 l' _ (λy z b1=>D y λe=>b1 (e ▸ a7)) (λy z W=>by
        rcases b6 y z with h|⟨h,_⟩
        .exact h
        .have:=Q _ R hRr y W;omega) b3
       rw[hput]at c0;cases c0;have g4:w1.heap.size=w.heap.size:=by rw[<- J];simp
       have d1:X<w.heap.size:=(z5w P c6).1;have c4:=zDv (w1:=w1) (m:=m) (js:=[cols p++[off]]) e8 Q e7 hS hRr a4 (by rw[<- J];rfl) (by rw[<- J];rfl) (by rw[<- J];rfl) (by omega) (λy _ b1=>D y λe=>b1 (e ▸ c2)) (λy z=>by
        rcases z with⟨z,_⟩|z
        .exact⟨.inl z,by have:=hM.rlt _ R hRr y z;omega⟩
        .rcases b6 y z with h|⟨h,rfl⟩
         .exact⟨.inl<|f4 y h,by have:=hM.rlt _ R hRr y (f4 y h);omega⟩
         .exact⟨.inr h,by omega⟩) f8 (λq u hq f6=>by
        rcases zuw p q with⟨q',rfl⟩|f0
        .rw [d9 q'];rw[b5 q']at hq;refine zqj (us:=[v]) a0 c5 N hb Y rfl O hset b7 a2 q' (λF j g1 he k c hj d2=>?_) D hq;subst he hj;cases k with
         |succ k=>simp at d2
         |zero=>exfalso;have h9:=kI.1 f6 (cols p++[off]) (by simp);exact absurd (zsq p F off g1) h9
        .exact d8 q u hq λq' he=>absurd ⟨q',he⟩ f0)
       have g:=c4.putV (dst:=o.dst) (m:=.und) (v:=undef) rfl (λn L=>by simp[MV.ids,zbM]at L)
       refine zwx (w':=w1) ?_ ⟨g.mem,⟨λn R L=>.inl (g.ids.ro n R L),λn cs L=>⟨.inl (g.ids.lo n cs L).1,λa ha m hm=>.inl ((g.ids.lo n cs L).2 a ha m hm)⟩,λm hm n L=>.inl (g.ids.tm m hm n L),λf hf m hm n L=>.inl (g.ids.stk f hf m hm n L)⟩,g.tm,g.stk⟩;have d4:({tmps:=ts,defers:=[]}:Act).eval (.tmp x.dst)=v:=by simp[Act.eval,g0]
       simp[execOp,ho,Instr.storeAt,e5,Instr.sureAddr,d4,H]
      .cases h
     .cases h
    .cases h
   .cases h
  .cases h
 .cases h
end
section
variable {C:Cfg} {w0 w w1:World} {S0:zbl} {U:Nat->Prop} {st st1:St} {E E1:Env} {ts:Array Value} {sv:List (Array Value)}
variable {ops:Array Oper} {b:Bool} {base:Nat} {cl:List (List Nat)} {ss:List Step} {st0:St}
theorem zLp {w b:World}(h:b.heap=w.heap):∀(p:List (Int×Nat)) (t:Ty) (v:Value),zbg b t v p=zbg w t v p
 |[],t,v=>by simp only[zbg]
 |(i,j)::p,t,v=>by have d:∀a,b.cell? a=w.cell? a:=λa=>(by simp only[World.cell?,h]);have e:=zLp h p;cases v with|slice a len c=>cases a<;>simp only [zbg,d,e]|_=>simp only[zbg]
theorem Sim.heap (g:Sim w0 S0 U st E ts sv w){w':World}(d:w'.heap=w.heap)(v:w'.os=w.os)(y:w'.tape=w.tape)(z:w'.output=w.output):Sim w0 S0 U st E ts sv w':=by
 have T:Trans st E w st E w' (λ_=>True):=⟨λr _ R h=>⟨R,h,rfl,λp u i=>by rw[zLp d];exact i⟩,λl _ k h=>⟨⟨k,h⟩,rfl⟩,rfl⟩
 have a:=g.mem;refine⟨⟨by rw[v];exact a.os,by rw[y];exact a.tape,by rw[z];exact a.output,by rw[d];exact a.size,λb A C=>by rw[d];exact a.keep b A C,
  λr R h=>(a.rep r R h).frame (λx _=>by rw[d]),λr R h x D=>by rw[d];exact a.rlt r R h x D,a.mine,a.frz,a.apart,λl k B=>?_,a.linj,a.lro,a.epo,a.κ⟩,g.ids,
  Slots.tr T (λ_ _ _ _=>trivial) g.tm,Stack.tr T (λ_ _ _ _ _ _=>trivial) g.stk⟩
 obtain⟨q,f,e,s,t,m⟩:=a.loc l k B;exact⟨q,f,e,by rw[d];exact s,t,λj c u n i=>⟨(m j c u n i).1,VA.tr T (λ_ _=>trivial) (m j c u n i).2⟩⟩
theorem Sim.blind (d:Sim w0 S0 U st E ts sv w)(c:Bool)(n:Nat):Sim w0 S0 U {st with nid:=n,ep:=if c then st.ep+1 else st.ep} E ts sv w:=by
 have h:=d.nid n;cases c with
 |false=>exact h
 |true=>refine h.fewer (λ_=>rfl) (λ_=>rfl) rfl (λr R b=>?_) (λr R b=>⟨R,b⟩) (λr R e b i=>?_);{obtain⟨f,a⟩:=zbJ b;have j:R.ep=none:=(by rcases a with a|a;{exact a};{have:=d.mem.epo r R _ f a;simp only[if_true] at this;omega});show St.root {st with nid:=n} r=some R;unfold St.root;have g:zx ({st with nid:=n}:St).ro r=some R:=f;rw[g];simp only[j]};{have:=d.mem.epo r R e b i;show e<=st.ep+1;omega}
theorem cnt_lt {p q:Nat->Bool}:∀(l:List Nat),(∀x∈l,q x=true->p x=true)->(∃x∈l,p x=true/\q x=false)->l.countP q<l.countP p
 |[],_,h=>by obtain⟨x,b,_⟩:=h;cases b
 |a::l,e,g=>by
  have f:∀(m:List Nat),(∀x∈m,q x=true->p x=true)->m.countP q<=m.countP p:=λm i=>List.countP_mono_left i;have i:=f l (λx b=>e x (by simp[b]))
  simp only[vB];cases j:q a with
  |true=>
   rw[e a (by simp) j]
   have:l.countP q<l.countP p:=cnt_lt l (λx b=>e x (by simp[b])) (by
    obtain⟨x,b,c,d⟩:=g;rcases qG.1 b with rfl|b
    .rw [j] at d;cases d
    .exact⟨x,b,c,d⟩)
   simp only[if_true];omega
  |false=>
   cases k:p a with
   |true=>simp;omega
   |false=>
    have:l.countP q<l.countP p:=cnt_lt l (λx b=>e x (by simp[b])) (by
     obtain⟨x,b,c,d⟩:=g;rcases qG.1 b with rfl|b
     .rw [k] at c;cases c
     .exact⟨x,b,c,d⟩)
    simp;omega
def left (n:Nat)(listed:Array Bool):Nat:=(List.range n).countP λi=>!listed.getD i true
theorem zJA {listed:Array Bool}{n i:Nat}(e:i<n)(c:listed.getD i true=false):left n (listed.setIfInBounds i true)<left n listed:=by unfold left;have a:i<listed.size:=(by rcases vE i listed.size with h|h;{exact h};{simp [u3 h]at c});refine cnt_lt _ (λx _ d=>?_) ⟨i,kP.2 e,by rw[c];rfl,by simp[a]⟩;by_cases b:i=x;{subst b;simp[a]at d};{rwa [getD_set_ne true b]at d}
theorem zGV {C:Cfg}{st:St}{o:Oper}{id:Nat}{d:Dl}(b:zms o=true)(h:zmn C st o id=some d):delta C st o id=some d:=by unfold zmn at h;cases e:delta C st o id with|some g=>rw[e]at h;exact h|none=>rw[e]at h;exfalso;have h:znn C st o id=some d:=h;have f:zl7 C o=none:=(by unfold zms at b;unfold zl7;cases a:o.op with|call c=>rw[a]at b;simp at b|_=>rfl);unfold znn at h;rw[f]at h;cases h
structure Waits (md:Region.Mode) (ops:Array Oper) (cl:List (List Nat)):Prop where
 at':∀i,i<ops.size->cl.getD i []=waits ops (cl.take i) i
 lt:∀i,i<ops.size->∀j∈cl.getD i [],j<i
 sub:∀e,Region.binds .any e=true->Region.binds md e=true
 rk:∃rk:Nat->Nat,∀(i:Nat) (o:Oper),ops[i]?=some o->∀e∈o.after,Region.binds md e=true->e.on<ops.size/\rk e.on<rk i
variable {md:Region.Mode}
theorem zbaS (a:∀i,i<ops.size->cl.getD i []=waits ops (cl.take i) i){i:Nat}{o:Oper}(b:ops[i]?=some o){e:Edge}(d:e∈o.after)(c:Region.binds .any e=true):e.on∈cl.getD i []:=by have f:=(qS.1 b).1;rw[a i f];simp only[waits,b];exact zOa (by simpa using d) c
theorem zUq {l:List (List Nat)}{i j k:Nat}(h:k∈(l.take i).getD j []):k∈l.getD j []:=by rw[kF,jN]at h;rw[kF];split at h;{exact h};{simp at h}
theorem Waits.inv (W:Waits md ops cl){i j:Nat}{o:Oper}(b:ops[i]?=some o)(a:j∈cl.getD i []):∃e∈o.after,Region.binds .any e=true/\(j=e.on\/j∈cl.getD e.on []):=by have f:=(qS.1 b).1;rw[W.at' i f]at a;simp only[waits,b]at a;obtain⟨e,d,c,h⟩:=zOb a;exact⟨e,by simpa using d,c,h.imp id zUq⟩
def XL (listed:Array Bool)(k:Nat):Bool:=listed.getD k false
theorem zHj (W:Waits md ops cl){listed:Array Bool}(d:zj0 cl (XL listed)){i:Nat}(f:i∈Region.ready md ops listed):∀j∈cl.getD i [],XL listed j=true:=by obtain⟨_,o,k,a⟩:=mem_ready.1 f;intro j g;obtain⟨e,c,b,h|h⟩:=W.inv k g;{subst h;exact a e c (W.sub e b)};{exact d _ (a e c<|W.sub e b) j h}
theorem least {p:Nat->Prop}:∀n,p n->∃m,m<=n/\p m/\∀j,j<m->¬ p j:=by intro n;induction n using Nat.strongRecOn with|_ n i=>intro g;by_cases h:∃j,j<n/\p j;{obtain⟨j,d,e⟩:=h;obtain⟨m,k,b,c⟩:=i j d e;exact⟨m,by omega,b,c⟩};{exact⟨n,qT _,g,λj f a=>h ⟨j,f,a⟩⟩}
theorem zNo (W:Waits md ops cl){listed:Array Bool}(s:listed.size=ops.size){b:Nat}(c:b<ops.size)(d:listed.getD b true=false):∃i,i∈Region.ready md ops listed:=by obtain⟨j,g⟩:=W.rk;obtain⟨n,_,⟨i,k,r,u⟩,a⟩:=least (p:=λn=>∃i,i<ops.size/\listed.getD i true=false/\j i=n) (j b) ⟨b,c,d,rfl⟩;refine⟨i,mem_ready.2 ⟨r,ops[i],by simp[k],λe q m=>?_⟩⟩;obtain⟨l,t⟩:=g i ops[i] (by simp[k]) e q m;cases h:listed.getD e.on false with|true=>rfl|false=>exfalso;refine a (j e.on) (by omega) ⟨e.on,l,?_,rfl⟩;have f:e.on<listed.size:=(by omega);simp only[Array.getD,f,dif_pos]at h ⊢;exact h
theorem zt9 {listed:Array Bool}{i:Nat}(a:i<listed.size):XL listed i=listed.getD i true:=by simp[XL,a]
theorem zKR {listed:Array Bool}{i:Nat}(a:i<listed.size)(k:Nat):XL (listed.setIfInBounds i true) k=(XL listed k||k==i):=by unfold XL;by_cases h:i=k;{subst h;simp[a]};{rw [getD_set_ne false h];have:(k==i)=false:=(by simp;omega);rw[this,uQ]}
theorem z3e {P:Program}{Q d:Exit->Act->World->Prop}(f:∀e,e≠.normal->∀a w,d e a w->Q e a w){i:Nat}{K:Act->World->Prop}{a:Act}{w:World}(h:wpOp P ops d i K a w):wpOp P ops Q i K a w:=by
 have b:LetsOut d->LetsOut Q:=(by rintro⟨a,w,h⟩;exact⟨a,w,f _ (by simp) a w h⟩);unfold wpOp at h ⊢;split;{rename_i m;rw[m]at h;exact h}
 .rename_i o ho;simp only[ho]at h;split
  .rename_i j;rw[if_pos j]at h;rcases h with h|⟨k,l⟩
   .left
    unfold Oper.wp at *;generalize (execOp a.eval o).run P w=r at *;cases r with
    |ok n p =>
     cases n<;>simp only [Oper.upon]at h ⊢ <;>
      first
       |exact h
       |exact h.mono (λe q g=>by
        cases e with
        |returned v=>exact g
        |panicked c=>exact f _ (by simp) _ _ g
        |outgrown=>exact b g)
    |halt x p =>cases x<;>simp only [Oper.upon]at h ⊢ <;> first|exact f _ (by simp) _ _ h|exact h
   {exact .inr ⟨k,b l⟩}
  {rename_i j;rw[if_neg j]at h;exact h}
theorem zo9 (W:Waits md ops cl){listed:Array Bool}{m:Nat}(e:listed.size=ops.size)(c:∀i,i<ops.size->listed.getD i true=decide (i<m)):zj0 cl (XL listed):=by intro k b j d;have a:k<ops.size:=(by rcases vE k listed.size with h|h;{omega};{simp [XL,u3 h]at b});rw[zt9 (by omega),c k a]at b;simp at b;have:=W.lt k a j d;rw[zt9 (by omega),c j (by omega)];simp;omega
theorem z7E {P:Program}{Q:Exit->Act->World->Prop}{c:Nat}{b:Array Bool}{a:Act}{w:World}(g:∀i,i<ops.size->b.getD i true=true)(h:Q .normal a w):wpAny P md ops Q c b a w:=by have f:Region.ready md ops b=[]:=(by refine List.eq_nil_iff_forall_not_mem.2 (λi d=>?_);obtain⟨e,o,j,_⟩:=mem_ready.1 d;have d:=(qS.1 j).1;rw[g i d]at e;cases e);cases c with|zero=>exact⟨f,h⟩|succ c=>exact⟨λ_=>h,λi d=>by rw[f]at d;cases d⟩
theorem z0F (W:Waits md ops cl){P:Program}{Q:Exit->Act->World->Prop}{b m:Nat}{listed:Array Bool}{a:Act}{w:World}(c:listed.size=ops.size)(r:m<ops.size)(A:Pinned ops.size cl m)(p:∀i,i<ops.size->listed.getD i true=decide (i<m))(B:left ops.size listed<=b)(h:∀q l,l.size=ops.size->(∀i,i<ops.size->l.getD i true=decide (i<m+1))->left ops.size l<=q->b=q+1->l=listed.setIfInBounds m true->wpOp P ops Q m (wpAny P md ops Q q l) a w):wpAny P md ops Q b listed a w:=by have t:listed.getD m true=false:=(by rw[p m r];simp);obtain⟨C,j⟩:=zNo W c r t;have y:=zJA (listed:=listed) (n:=ops.size) (i:=m) r t;obtain⟨b,rfl⟩:∃f,b=f+1:=⟨b-1,by omega⟩;refine⟨λh=>(by rw[h]at j;cases j),λi v=>?_⟩;obtain⟨u,o,z,_⟩:=mem_ready.1 v;have d:=(qS.1 z).1;rw[p i d]at u;simp only[decide_eq_false_iff_not,Nat.not_lt]at u;have e:i=m:=(by by_cases s:i=m;{exact s};{exfalso;have:=zHj W (zo9 W c p) v m (A.wait i (by omega) d);rw[zt9 (by omega),t] at this;cases this});subst e;refine h b _ (by simp[c]) (λk x=>?_) (by omega) rfl rfl;by_cases g:i=k;{subst g;simp[c,d]};{rw [getD_set_ne true g,p k x];congr 1;simp only[eq_iff_iff];omega}
theorem zKT {a T:Nat}(W:Waits md ops cl)(M:T<=ops.size)(s:T<ops.size->Pinned ops.size cl T){P:Program}{Q:Exit->Act->World->Prop}{J:(Nat->Bool)->Env->Array Value->World->Prop}(d:∀X Y E ts w,(∀k,a<=k->k<T->X k=Y k)->J X E ts w->J Y E ts w)(l:∀X Y i,zj0 cl X->a<=i->i<T->X i=false->(∀j∈cl.getD i [],X j=true)->(∀k,Y k=(X k||k==i))->∀E ts w,J X E ts w->∀K:Act->World->Prop,(∀A c y,J Y A c y->K {tmps:=c,defers:=[]} y)->wpOp P ops Q i K {tmps:=ts,defers:=[]} w)(p:∀(Z:Nat) (I:Array Bool) (A:Env) (c:Array Value) (y:World),I.size=ops.size->(∀i,i<ops.size->I.getD i true=decide (i<T))->left ops.size I<=Z->J (λ_=>true) A c y->wpAny P md ops Q Z I {tmps:=c,defers:=[]} y) :
 ∀(b:Nat) (listed:Array Bool) (E:Env) (ts:Array Value) (w:World),listed.size=ops.size->zj0 cl (XL listed)->(∀i,i<a->XL listed i=true)->(∀m,T<=m->m<ops.size->XL listed m=false)->left ops.size listed<=b->
  J (XL listed) E ts w->wpAny P md ops Q b listed {tmps:=ts,defers:=[]} w
 |b,listed,E,ts,w,x,N,q,g,hf,hS=>by by_cases e:∀i,i<T->XL listed i=true;{have hl:∀i,i<ops.size->listed.getD i true=decide (i<T):=(by intro i z;rw[<- zt9 (by omega)];by_cases h:i<T;{rw [e i h];simp[h]};{rw [g i (by omega) z];simp[h]});exact p b listed E ts w x hl hf (d _ _ E ts w (λk _ v=>e k v) hS)};{have O:∃i,i<T/\XL listed i=false:=(by refine Classical.byContradiction (λV=>e λi z=>?_);cases h:XL listed i with|true=>rfl|false=>exact absurd ⟨i,z,h⟩ V);obtain⟨H,R,r⟩:=O;have F:listed.getD H true=false:=(by rw[<- zt9 (by omega)];exact r);obtain⟨i1,D⟩:=zNo W x (by omega) F;have a0:0<left ops.size listed:=(by have:=zJA (listed:=listed) (n:=ops.size) (i:=H) (by omega) F;omega);obtain⟨b,rfl⟩:∃f,b=f+1:=⟨b-1,by omega⟩;refine⟨λh=>(by rw[h]at D;cases D),λi z=>?_⟩;obtain⟨h0,o,ho,_⟩:=mem_ready.1 z;have B:=(qS.1 ho).1;have u:XL listed i=false:=(by rw[zt9 (by omega)];exact h0);have G:=zHj W N z;have S:a<=i:=(by refine Classical.byContradiction (λV=>?_);rw[q i (by omega)]at u;cases u);have t:i<T:=(by refine Classical.byContradiction (λV=>?_);have hp:=s (by omega);by_cases t:i=T;{subst t;have:=G H (hp.full H R);rw[r] at this;cases this};{have:=G T (hp.wait i (by omega) B);rw[g T (qT _) (by omega)] at this;cases this});refine l _ (XL<|listed.setIfInBounds i true) i N S t u G (zKR (by omega)) E ts w hS _ (λA c y L=>?_);refine zKT W M s d l p b (listed.setIfInBounds i true) A c y (by simp[x]) ?_ ?_ ?_ ?_ L;{intro k v j hj;rw[zKR (by omega)]at v ⊢;by_cases C:k=i;{subst C;rw[G j hj];rfl};{have:(k==i)=false:=(by simp[C]);rw[this,uQ]at v;rw[N k v j hj];rfl}};{intro k v;rw[zKR (by omega),q k v];rfl};{intro m hm U;rw[zKR (by omega),g m hm U];simp;omega};{have:=zJA (listed:=listed) (n:=ops.size) B h0;omega}}
theorem z7j (A:CfgOk C)(D:CtrOk C)(B:GraftOk C){a T:Nat}(W:Waits md ops cl)(I:a+ss.length=T)(q:T<=ops.size)(g:T<ops.size->Pinned ops.size cl T)(F:Free C ops cl b base a ss st0)(N:b=false->∀k,a<=k->k<T->zl5 C ops k=false)(O:b=true->Dead st0/\0<st0.ep)(H:∀k,a<=k->k<T->∀n,Mine (base+32*k) n->¬ U n){Q:Exit->Act->World->Prop}(e:∀(t:Nat) (p:Array Bool) (y:Env) (j:Array Value) (x:World),p.size=ops.size->(∀i,i<ops.size->p.getD i true=decide (i<T))->left ops.size p<=t->
 Sim w0 S0 (UX U base a T λ_=>true) (zbz ops b (λ_=>true) a ss st0) y j sv x->wpAny C.P md ops Q t p {tmps:=j,defers:=[]} x) :
 ∀(d:Nat) (c:Array Bool) (E:Env) (ts:Array Value) (w:World),c.size=ops.size->zj0 cl (XL c)->(∀i,i<a->XL c i=true)->(∀m,T<=m->m<ops.size->XL c m=false)->left ops.size c<=d->
  Sim w0 S0 (UX U base a T<|XL c) (zbz ops b (XL c) a ss st0) E ts sv w->wpAny C.P md ops Q d c {tmps:=ts,defers:=[]} w :=
 zKT (J:=λX E ts w=>Sim w0 S0 (UX U base a T X) (zbz ops b X a ss st0) E ts sv w) W q g
  (λX Y E ts w h l=>by
   rw[zkI ss a st0 λk f v=>h k f (by omega)]at l
   refine l.uses ?_
   rintro n (f|⟨k,u,f,v,z⟩)
   .exact .inl f
   .exact .inr ⟨k,u,f,by rw[<- h k u f];exact v,z⟩)
  (λX Y i L s R r S M E ts w l K G=>zC8 A D B I F L s R r S N O H M l G) e
theorem get_put {st:St}{d:Nat}{m:MV}{a:Key}(h:a≠.tm d):(st.put (some d) m).get a=st.get a:=by cases a with|tm t=>have:d≠t:=λe=>h (by rw[e]);simp[St.get,St.put,jI,this]|ro n=>rfl|lo n=>rfl
theorem z6n {st b:St}{o:Oper}(c:b.ep=st.ep)(g:∀t∈zjv o,b.get (.tm t)=st.get (.tm t))(f:∀n∈(zut st o).flatMap zbA,b.get (.ro n)=st.get (.ro n))(d:∀n∈(zut st o).flatMap zbG,b.get (.lo n)=st.get (.lo n)):Agree st b o.op.operands.toList:=by refine⟨c,λx h=>?_,λx h m k a j=>?_⟩;{cases x with|tmp t=>have l:t∈zjv o:=(by unfold zjv;exact uI.2 ⟨_,h,rfl⟩);simp only[St.opnd,zLj<|g t l]|_=>rfl};{have i:a∈zut st o:=(by unfold zut;exact qO.2 ⟨m,uI.2 ⟨x,h,k⟩,j⟩);exact⟨λn e=>zC9 (f n<|qO.2 ⟨a,i,e⟩),λn e=>zLi (d n<|qO.2 ⟨a,i,e⟩)⟩}
theorem zYG {st k:St}{o:Oper}(h:Agree st k o.op.operands.toList):zsl C k o=zsl C st o:=by cases f:o.op with|call c=>rw[f]at h;have l:∀x∈c.args.toList,x∈(Op.call c).operands.toList:=λx j=>(by simp only[Op.operands,Call.operands,Array.toList_append,jP];exact .inr j);simp only[zsl,f];(cases w:o.dst with|none=>rfl|some d=>(cases hg:o.guard with|some g=>rfl|none=>simp only;(cases q:c.callee with|builtin b=>(cases b with|append=>simp only;split;{rename_i x y T u i s;have j:=l x (by rw[i];simp);have m:=l y (by rw[i];simp);rw[h.at j,h.at m];split;{cases v:C.sty T with|none=>rfl|some t=>(cases e:st.at x with|none=>rfl|some a=>(cases a with|sl r p=>(cases p with|nil=>rfl|cons z p=>(cases n:st.at y with|none=>rfl|some b=>(cases b with|sl B A=>simp only[h.root<|ze3 j e,h.node<|ze3 j e,h.node<|ze3 m n]|_=>rfl)))|_=>rfl))};{rfl}};{rfl}|_=>rfl)|_=>rfl)))|_=>simp only[zsl,f]
theorem zux (g:CfgOk C)(e:Sim w0 S0 U st E ts sv w){o:Oper}{id:Nat}{d:Dl}(b:zms o=true)(h:delta C st o id=some d)(i:d.c=true):o.guard=none/\zt8 C U st E ts w o d:=by
 unfold zms at b;simp only[qE,kB]at b;obtain⟨hg,b⟩:=b;refine⟨hg,?_⟩;cases a:o.op
 case move x=>
  rw[a]at b;cases x with
  |tmp t=>simp only[delta,a]at h;split at h;{rename_i v j;cases h;exact z5k e (.inl a) j};{cases h}
  |_=>simp at b
 (case load T x=>exact z5j g e a h);(case fieldAddr T x f=>exact zHh g e a h);(case indexAddr T x y=>exact zHi g e a h i);(case nilCheck x=>exact zNi e a h);all_goals (rw [a]at b;simp at b)
theorem pure_run {o:Oper}{i:Nat}{d:Dl}{v:Value}{Q:Exit->Act->World->Prop}{K:Act->World->Prop}(a:ops[i]?=some o)(hg:o.guard=none)(b:(execOp ({tmps:=ts,defers:=[]}:Act).eval o).run C.P w = .ok (.value v) w1)(h:K {tmps:=(({tmps:=ts,defers:=[]}:Act).put o.dst v).tmps,defers:=[]} w1):wpOp C.P ops Q i K {tmps:=ts,defers:=[]} w:=by unfold wpOp;simp only[a];rw[if_pos (by simp[Region.wanted,hg])];left;unfold Oper.wp;rw[b,Oper.upon_value,zj1];exact h
theorem zXu {d t:Nat}{v u:Value}(h:ts[t]?=some u)(a:d≠t):(({tmps:=ts,defers:=[]}:Act).put (some d) v).tmps[t]?=some u:=by simp[Act.put,vD a,h]
theorem z7t (hC:CfgOk C)(hH:CtrOk C)(hG:GraftOk C){a A:Nat}(W:Waits md ops cl)(hA:a+ss.length=A)(c4:A+1<=ops.size)(c1:A+1<ops.size->Pinned ops.size cl (A+1))(F:Free C ops cl b base a ss st0)(hb:b=false->∀k,a<=k->k<A->zl5 C ops k=false)(c6:b=true)(hd:b=true->Dead st0/\0<st0.ep)(hM:∀k,a<=k->k<A->∀n,Mine (base+32*k) n->¬ U n){D:Oper}{x:App}(d5:ops[A]?=some D)(y:zsl C (zbz ops b (fun _=>true) a ss st0) D=some (true,x))(d1:zyr ops cl a A=true)(a5:x.dst<(zbz ops b (fun _=>true) a ss st0).tm.length)(N:∀i s o f,ss[i]?=some s->ops[a+i]?=some o->At1 C ops base (a+i) o (zbz ops b (fun j=>decide (j<a+i)) a ss st0) f s->a+i∉cl.getD A []->f.apart (zg7 (zbz ops b (fun _=>true) a ss st0) ops D zEp)=true){Q:Exit->Act->World->Prop}(b0:∀(fl:Nat) (l':Array Bool) (E':Env) (B:Array Value) (w':World) (v:Value),l'.size=ops.size->(∀i,i<ops.size->l'.getD i true=decide (i<A+1))->left ops.size l'<=fl->B[x.dst]?=some v->
 Sim w0 S0 (UX U base a A (fun _=>true)) ((zbz ops b (fun _=>true) a ss st0).put D.dst (.v (.at .bad))) E' B sv w'->Late w0 ((zbz ops b (fun _=>true) a ss st0).put D.dst (.v (.at .bad))) E' x v w'->wpAny C.P md ops Q fl l' {tmps:=B,defers:=[]} w')(I:Nat)(g:Array Bool)(E:Env)(ts:Array Value)(w:World)(d6:g.size=ops.size)(hX:zj0 cl (XL g))(b3:∀i,i<a->XL g i=true)(a6:∀m,A<=m->m<ops.size->XL g m=false)(hf:left ops.size g<=I)(hS:Sim w0 S0 (UX U base a A (XL g)) (zbz ops b (XL g) a ss st0) E ts sv w):wpAny C.P md ops Q I g {tmps:=ts,defers:=[]} w:=by
 have l:D.dst=some x.dst/\D.guard=none:=by unfold zsl at y;split at y;{rename_i c d ho l c9;refine⟨?_,c9⟩;rw[l];congr 1;(repeat' (first|(split at y)|(cases y)));all_goals first|rfl|(simp only [qC,jO]at y;obtain⟨_,rfl⟩:=y;rfl)};{cases y}
 have S:∀{X Y:Nat->Bool} {i:Nat},(∀k,Y k=(X k||k==i))->∀n,UX U base a A X n->UX U base a A Y n:=by intro X Y i V n h;rcases h with h|⟨k,h0,p,r,h3⟩;{exact .inl h};{exact .inr ⟨k,h0,p,by rw[V,r];rfl,h3⟩}
 have a8:∀{X:Nat->Bool} (q:Key),(∀j∈cl.getD A [],X j=true)->(zg7 (zbz ops b (fun _=>true) a ss st0) ops D zEp).reads q->(zbz ops b X a ss st0).get q=(zbz ops b (fun _=>true) a ss st0).get q:=by intro X q hr H;refine zsu ss a st0 st0 rfl rfl (fun k s' o' hk b9 a9 hw=>?_);obtain⟨o2,f',c0,r⟩:=F.at1 k s' hk;rw[b9]at c0;cases c0;have b1:X (a+k)=false:=(by cases h:X (a+k) with|false=>rfl|true=>exact absurd h a9);have hn:a+k∉cl.getD A []:=fun h=>(by rw[hr _ h]at b1;cases b1);exact((apart_spec (N k s' o' f' hk b9 r hn)).1 q ((zCJ r q).1 hw)).1 H
 refine zKT (T:=A+1) (J:=fun X E ts w=>(X A=false->Sim w0 S0 (UX U base a A X) (zbz ops b X a ss st0) E ts sv w)/\
  (X A=true->∃v,ts[x.dst]?=some v/\Sim w0 S0 (UX U base a A X) ((zbz ops b X a ss st0).put D.dst (.v (.at .bad))) E ts sv w/\Late w0 (zbz ops b X a ss st0) E x v w)) W c4 c1 ?_ ?_ ?_
  I g E ts w d6 hX b3 (fun m p r=>a6 m (by omega) r) hf ⟨fun _=>hS,fun h=>(by rw[a6 A (qT _) (by omega)]at h;cases h)⟩
 .intro X Y E ts w h hJ;have u:X A=Y A:=h A (by omega) (by omega)
  have e:=zkI (ops:=ops) (b:=b) ss a st0 (X:=X) (Y:=Y) (fun k p r=>h k p (by omega))
  have hu:∀n,UX U base a A X n->UX U base a A Y n:=by rintro n (p|⟨k,h0,p,r,h3⟩);{exact .inl p};{exact .inr ⟨k,h0,p,by rw[<- h k h0 (by omega)];exact r,h3⟩}
  refine⟨fun G=>?_,fun G=>?_⟩
  .have:=hJ.1 (u.trans G);rw[e] at this;exact this.uses hu
  .obtain⟨v,p,r,h3⟩:=hJ.2 (u.trans G);rw[e]at r h3;exact⟨v,p,r.uses hu,h3⟩
 .intro X Y i hX hia hi hXi hr V E ts w hJ K hK
  by_cases d0:i=A
  .subst d0;have L:=hJ.1 hXi;have b2:zbz ops b Y a ss st0=zbz ops b X a ss st0:=zkI ss a st0 (fun k p r=>by
    rw[V];have:(k==i)=false:=by simp;omega
    rw[this,uQ])
   have c5:Agree (zbz ops b (fun _=>true) a ss st0) (zbz ops b X a ss st0) D.op.operands.toList :=
    z6n (by rw[zhB,zhB]) (fun t ht=>a8 (.tm t) hr (by simp only[Foot.reads,zg7];exact j9 _ ht)) (fun n hn=>a8 (.ro n) hr hn) (fun n hn=>a8 (.lo n) hr hn)
   have a2:=zYG (C:=C) c5;rw[y]at a2;have c8:Dead (zbz ops b X a ss st0):=by subst c6;exact zzy ss a st0 (hd rfl).1 (hd rfl).2
   obtain⟨hg,c7,v,w',R,a7,hL⟩:=z7v hC L c8 a2;refine pure_run (d:=zEp) d5 hg R (hK E _ w' ⟨fun h=>(by rw[V]at h;simp at h),fun _=>⟨v,?_,?_,?_⟩⟩)
   .rw [c7];have d4:x.dst<ts.size:=by rw[L.tm.1,zpV];rw[zpV]at a5;exact a5
    simp[Act.put,d4]
   .rw [b2];exact a7.uses (S V)
   .rw [b2];exact hL
  .have hiA':i<A:=by omega
   have G:Y A=X A:=by rw[V];have:(A==i)=false:=(by simp;omega);rw[this,uQ]
   cases u:X A with
   |false=>refine zC8 hC hH hG hA F hX hia hiA' hXi hr hb hd hM V (hJ.1 u) (fun E' B w' a7=>hK E' B w' ⟨fun _=>a7,fun h=>(by rw[G,u]at h;cases h)⟩)
   |true=>
    obtain⟨v,hv,L,hL⟩:=hJ.2 u;obtain⟨j,rfl⟩:∃j,i=a+j:=⟨i-a,by omega⟩;obtain⟨s,hs⟩:∃s,ss[j]?=some s:=⟨_,qB (by omega)⟩;obtain⟨o,f,ho,p,r⟩:=zLh F hX hs hXi hr;have b8:a+j∉cl.getD A []:=fun h=>(by rw[hX A u _ h]at hXi;cases hXi);have O:zms o=true:=(by have:=qL.1 d1 (a+j) (by simp;omega);simp only[ho,jY,jJ,qX] at this;rcases this with h|h;{exact absurd h b8};{exact h});have a3:=apart_spec (N j s o f hs ho p b8);have c2:(zg7 (zbz ops b (fun _=>true) a ss st0) ops D zEp).writes (.tm x.dst):=(by simp only[Foot.writes,zg7];exact l.1);have a9:∀q,f.reads q->q≠.tm x.dst:=fun q H e=>a3.2 (.tm x.dst) c2 (e ▸ H);have a4:o.dst≠some x.dst:=fun e=>(a3.1 (.tm x.dst) ((zCJ p (.tm x.dst)).1 (by cases s<;>exact e))).2 c2;have a0:∀Z,(zbz ops b Z a ss st0).ep=st0.ep:=fun Z=>zhB ss a st0;have M:=zVa (S':=(zbz ops b X a ss st0).put D.dst (.v (.at .bad))) p (by rw[a0,l.1];exact a0 X) (fun q H=>by rw[l.1,get_put (a9 q H)];exact r q H);have b4:o.guard=none:=by unfold zms at O;simp only[qE,kB]at O;exact O.1
    cases s with
    |none=>exfalso;have:zdQ ops o ((zbz ops b X a ss st0).put D.dst (.v (.at .bad)))=some false:=M;simp[zdQ,b4] at this
    |some d=>
     obtain⟨_,d2,d3⟩:=M;obtain⟨_,v2,R,d7,b5,e1,e2,e3⟩:=zux hC L O (zGV O d2) d3;have z:∀q,(zbz ops b Y a ss st0).get q=((zbz ops b X a ss st0).put o.dst d.v).get q:=(by intro q;rw[zId F hX hs ho hXi V q];simp only[St.step,St.effD,e1,e2,List.map_nil,jL]);have c3:Sim w0 S0 (UX U base a A X) (((zbz ops b X a ss st0).put D.dst (.v (.at .bad))).put o.dst d.v) E (({tmps:=ts,defers:=[]}:Act).put o.dst v2).tmps sv w:=L.putV d7 b5;refine pure_run (d:=d) ho b4 R (hK E _ w ⟨fun h=>(by rw[G,u]at h;cases h),fun _=>⟨v,?_,?_,?_⟩⟩);{cases a1:o.dst with|none=>exact hv|some t=>exact zXu hv (fun e=>a4 (by rw[a1,e]))}
     .refine(c3.same (fun q=>?_) ?_ ?_).uses (S V)
      .rw [l.1];cases q with
       |tm t=>
        have hk:=z (.tm t);have b6:(zbz ops b Y a ss st0).tm.length=(zbz ops b X a ss st0).tm.length:=(by rw[zpV,zpV]);by_cases ht:t=x.dst;{subst ht;cases a1:o.dst with|none=>simp[St.get,St.put,jI,b6]|some t' =>have:t'≠x.dst:=fun e=>a4 (by rw[a1,e]);simp[St.get,St.put,jI,b6,this]}
        .have hne':x.dst≠t:=fun e=>ht e.symm;rw[get_put (by simpa using ht),hk]
         cases a1:o.dst with
         |none=>simp[St.get,St.put,jI,hne']
         |some t' =>simp only[St.get,St.put,jI,List.length_set];split;{rfl};{first|rfl|rw[if_neg hne']}
       |ro n=>have hk:=z (.ro n);rw[get_put (by simp),hk];cases o.dst<;>rfl
       |lo n=>have hk:=z (.lo n);rw[get_put (by simp),hk];cases o.dst<;>rfl
      {rw [l.1];have p:(zbz ops b Y a ss st0).stk=(zbz ops b X a ss st0).stk:=(by rw[zm6,zm6]);cases o.dst<;>exact p};{rw [l.1];have p:(zbz ops b Y a ss st0).ep=(zbz ops b X a ss st0).ep:=(by rw[zhB,zhB]);cases o.dst<;>exact p}
     .have hro:∀n,zx (zbz ops b Y a ss st0).ro n=zx (zbz ops b X a ss st0).ro n:=fun n=>(by rw[zC9 (z (.ro n))];cases o.dst<;>rfl);have b7:∀n,zx (zbz ops b Y a ss st0).lo n=zx (zbz ops b X a ss st0).lo n:=fun n=>by rw[zLi (z (.lo n))];cases o.dst<;>rfl
      exact hL.states (fun n=>by
       unfold St.root;rw[hro n,a0 Y,a0 X]) b7
 .intro fl l' E' B w' hsz' hl' hf' hJ;obtain⟨v,p,r,h3⟩:=hJ.2 rfl;refine b0 fl l' E' B w' v hsz' hl' hf' p r (h3.states (fun n=>?_) (fun n=>?_))
  .rw [l.1];rfl
  .rw [l.1];rfl
theorem zSJ {a b:At}(h:sameAt a b=true):a=b:=by
 cases a<;>cases b<;>simp only [sameAt]at h<;>try cases h
 case i.i k n k' n' =>
  by_cases e:k=k'
  .subst e;simp only[decide_true,cond_true,ieq,qM]at h;rw[h]
  .simp [e]at h
 case b.b x y=>simp only[zk9,qM]at h;rw[h]
 case sl.sl r p r' p' =>
  cases d:Nat.beq r r' with
  |false=>rw[d]at h;cases h
  |true=>rw[d,cond_true]at h;rw[jU d,zs5 h]
 case lp.lp l o l' o' =>
  simp only[qE]at h;rw[jU h.1,jU h.2]
 case ep.ep r p i o r' p' i' o' =>
  cases d:(Nat.beq r r'&&Nat.beq o o') with
  |false=>rw[d]at h;cases h
  |true=>rw[d,cond_true]at h;simp only[qE]at d h;simp only[ieq,qM]at h;rw[jU d.1,jU d.2,h.1,zs5 h.2]
 case fn.fn f c f' c' =>
  simp only[qE,qM]at h;rw[jU h.1,h.2]
theorem zNx:∀{l m:List At},zEN l m=true->l=m
 |[],[],_=>rfl
 |a::l,b::m,h=>by simp only[zEN,qE]at h;rw[zSJ h.1,zNx h.2]
 |[],_::_,h=>by cases h
 |_::_,[],h=>by cases h
theorem z5F {x y:MV}(h:zNy x y=true):x=y:=by unfold zNy at h;split at h;{rw [zSJ h]};{rw [zNx h]};{cases h}
theorem ztN {k:St->Option Ans}{a:Ans}:∀{f:List Nat},zpC C ops base k f st=some a->
 k st=some a/\∀j∈f,∃o d t,ops[j]?=some o/\delta C st o (base+32*j)=some d/\d.c=true/\o.dst=some t/\st.tm[t]?=some d.v
 |[],h=>⟨h,λ_ h=>by cases h⟩
 |j::r,h=>by
  unfold zpC at h;split at h
  .rename_i o ho;split at h
   .rename_i d t hd ht;split at h
    .rename_i m hm;cases b:(d.c&&zNy d.v m) with
     |false=>rw[b]at h;cases h
     |true=>rw[b,cond_true]at h;obtain⟨g,l⟩:=ztN h;simp only[qE]at b;refine⟨g,λi e=>?_⟩;rcases qG.1 e with rfl|e;{exact⟨o,d,t,ho,hd,b.1,ht,by rw[hm,z5F b.2]⟩};{exact l i e}
    {cases h}
   {cases h}
  {cases h}
theorem zLa {ts a:Array Value}{x:Operand}(h:∀t,x = .tmp t->ts[t]?=a[t]?):({tmps:=ts,defers:=[]}:Act).eval x=({tmps:=a,defers:=[]}:Act).eval x:=by cases x with|tmp t=>simp only[Act.eval,Array.getD_eq_getD_getElem?,h t rfl]|_=>rfl
theorem zM7 {o:Oper}{x:Operand}{t:Nat}(b:x∈o.op.operands.toList)(a:x = .tmp t):t∈zjv o:=by subst a;exact uI.2 ⟨_,b,rfl⟩
theorem z2u {o:Oper}(d:zms o=true){ts b:Array Value}(h:∀t∈zjv o,ts[t]?=b[t]?):execOp ({tmps:=ts,defers:=[]}:Act).eval o=execOp ({tmps:=b,defers:=[]}:Act).eval o:=by have c:∀x∈o.op.operands.toList,({tmps:=ts,defers:=[]}:Act).eval x=({tmps:=b,defers:=[]}:Act).eval x:=λx g=>zLa λt e=>h t (zM7 g e);unfold zms at d;simp only[qE]at d;obtain⟨_,d⟩:=d;cases a:o.op;(case move x=>simp only[execOp,a,c x (by rw[a];simp[Op.operands])]);(case load T x=>simp only[execOp,a,c x (by rw[a];simp[Op.operands])]);(case fieldAddr T x f=>simp only[execOp,a,c x (by rw[a];simp[Op.operands])]);(case indexAddr T x y=>simp only[execOp,a,c x (by rw[a];simp[Op.operands]),c y (by rw[a];simp[Op.operands])]);(case nilCheck x=>simp only[execOp,a,c x (by rw[a];simp[Op.operands])]);all_goals (rw [a]at d;simp at d)
theorem zDx {o:Oper}(h:zrT o=true):o.guard=none/\∃c x,o.op = .call c/\c.callee = .value x:=by unfold zrT at h;simp only[qE,kB]at h;refine⟨h.1.1,?_⟩;have a:=h.2;split at a;{rename_i c b;split at a;{rename_i x d;exact⟨c,x,b,d⟩};{cases a}};{cases a}
theorem z1d {o:Oper}(i:zrT o=true){ts a:Array Value}(h:∀t∈zjv o,ts[t]?=a[t]?):execOp ({tmps:=ts,defers:=[]}:Act).eval o=execOp ({tmps:=a,defers:=[]}:Act).eval o:=by have f:∀x∈o.op.operands.toList,({tmps:=ts,defers:=[]}:Act).eval x=({tmps:=a,defers:=[]}:Act).eval x:=λx e=>zLa λt j=>h t (zM7 e j);obtain⟨_,c,x,d,b⟩:=zDx i;have e:=f x (by rw[d];simp[Op.operands,Call.operands,b]);have g:c.args.map ({tmps:=ts,defers:=[]}:Act).eval=c.args.map ({tmps:=a,defers:=[]}:Act).eval:=(by apply Array.map_congr_left;intro y k;exact f y (by rw[d];simp[Op.operands,Call.operands,b,k]));simp only[execOp,d,resolve,b,e,g]
theorem z3f {P:Program}{o:Oper}{i:Nat}(D:ops[i]?=some o)(z:zrT o=true){ts g:Array Value}(h:∀t∈zjv o,ts[t]?=g[t]?){p K:Act->World->Prop}{x Q:Exit->Act->World->Prop}(m:∀e a w,x e a w->e = .normal)(A:∀y j,p y j->y.defers=[])(c:∀v j,p (({tmps:=g,defers:=[]}:Act).put o.dst v) j->K (({tmps:=ts,defers:=[]}:Act).put o.dst v) j)(b:wpOp P ops x i p {tmps:=g,defers:=[]} w):wpOp P ops Q i K {tmps:=ts,defers:=[]} w:=by
 obtain⟨hg,_⟩:=zDx z;unfold wpOp at b ⊢;simp only[D]at b ⊢;rw[if_pos (by simp[Region.wanted,hg])]at b ⊢;rcases b with b|⟨_,a,w,s⟩
 .refine .inl ?_;unfold Oper.wp at b ⊢;rw[z1d z h];generalize (execOp ({tmps:=g,defers:=[]}:Act).eval o).run P w=r at b;cases r with
  |ok n j =>
   cases n with
   |value v=>exact c v j b
   |skip=>exact c undef j b
   |defer d=>exfalso;have:=A _ _ b;cases B:o.dst<;>simp [Act.put,B] at this
   |enter f k=>refine Calls.mono b ?_;intro e u l;cases e with|returned v=>exact c v u l|panicked q=>exact absurd (m _ _ _ l) (by simp)|outgrown=>obtain⟨a,F,s⟩:=l;exact absurd (m _ _ _ s) (by simp)
   |row E k=>exact Rows.mono b λv u l=>c v u l
   |_=>exact b.elim
  |halt C j =>cases C with|panic v=>exact absurd (m _ _ _ b) (by simp)|_=>exact b.elim
 {exact absurd (m _ _ _ s) (by simp)}
theorem ztj {m a j:Nat}:j∈zn0 cl m a↔(m<=j/\j<m+(a-m))/\j∉cl.getD a []:=by unfold zn0;rw[List.mem_filter];simp
def VV (U:Nat->Prop)(base a m n:Nat):Prop:=U n\/(base<=n/\n<base+32*m)\/base+32*a<=n
theorem z6v (hC:CfgOk C)(hH:CtrOk C)(hG:GraftOk C)(hN:NameOk C){a8:zh5}(b5:zsW C a8){a A:Nat}(W:Waits md ops cl)(e8:a<=A)(hA:a+ss.length=A)(e4:A+1<=ops.size)(d4:A+1<ops.size->Pinned ops.size cl (A+1))(F:Free C ops cl b base a ss st0)(hb:b=false->∀k,a<=k->k<A->zl5 C ops k=false)(hd:b=true->Dead st0/\0<st0.ep)(hM:∀k,a<=k->k<A->∀n,Mine (base+32*k) n->¬ U n){oA:Oper}(f6:ops[A]?=some oA)(f0:zrT oA=true)(f4:zyr ops cl a A=true)(f5:zJg ops cl (zn0 cl a A) oA=true){V:Nat->Prop}(c2:∀n,UX U base a A (fun _=>true) n->VV V base ops.size A n)(e6:∀n,base<=n->¬ V n)(d1:base+32*ops.size<=st0.nid)(hF:∀n,st0.nid<=n->¬ UX U base a A (fun _=>true) n){k:St->Option Ans}{a6:Ans}(c6:zoL C a8 ops base (zpC C ops base k (zn0 cl a A)) [A] (zbz ops b (fun _=>true) a ss st0)=some a6){Q:Exit->Act->World->Prop}(b9:∀(fl:Nat) (l':Array Bool) (U':Nat->Prop) (a2:St) (E':Env) (L:Array Value) (w':World),l'.size=ops.size->(∀i,i<ops.size->l'.getD i true=decide (i<A+1))->left ops.size l'<=fl->
 Sim w0 S0 U' a2 E' L sv w'->(∀n,U' n->VV V base ops.size (A+1) n)->base+32*ops.size<=a2.nid->(∀n,a2.nid<=n->¬ U' n)->k a2=some a6->wpAny C.P md ops Q fl l' {tmps:=L,defers:=[]} w')(a3:Nat)(c:Array Bool)(E:Env)(ts:Array Value)(w:World)(f8:c.size=ops.size)(hX:zj0 cl (XL c))(c4:∀i,i<a->XL c i=true)(b1:∀m,A<=m->m<ops.size->XL c m=false)(hf:left ops.size c<=a3)(hS:Sim w0 S0 (UX U base a A (XL c)) (zbz ops b (XL c) a ss st0) E ts sv w):wpAny C.P md ops Q a3 c {tmps:=ts,defers:=[]} w:=by
 have Z:∀{X Y:Nat->Bool},(∀k,X k=true->Y k=true)->∀n,UX U base a A X n->UX U base a A Y n:=by intro X Y e7 n h;rcases h with h|⟨k,h0,l,M,h3⟩;{exact .inl h};{exact .inr ⟨k,h0,l,e7 k M,h3⟩}
 have y:∀j∈zn0 cl a A,∃p t,ops[j]?=some p/\p.dst=some t/\zms p=true/\t∉zjv oA/\∀i∈zn0 cl a A,∀q,ops[i]?=some q->(t∈zjv q->j∈cl.getD i [])/\(i=j\/q.dst≠some t):=by intro j g;have l:=qL.1 f5 j g;split at l;{rename_i p hp;split at l;{rename_i t z;simp only[qE,jF,qL]at l;have M:=qL.1 f4 j (by obtain⟨⟨g1,g2⟩,_⟩:=ztj.1 g;simp;omega);simp only[hp,jY,jJ,qX]at M;refine⟨p,t,hp,z,M.resolve_left (ztj.1 g).2,by simpa using l.1,fun i hi q hq=>?_⟩;have h3:=l.2 i hi;simp only[hq,qE,jY,jF,qM,jJ,qX,decide_eq_false_iff_not]at h3;refine⟨fun hm=>h3.1.resolve_left (fun hn=>hn hm),?_⟩;rcases h3.2 with h|h;{exact .inl h};{exact .inr (by simpa using h)}};{cases l}};{cases l}
 have I:∀{X:Nat->Bool} {i:Nat},a<=i->i<A->X i=false->(∀j∈cl.getD A [],X j=true)->i∈zn0 cl a A:=by intro X i l M h3 h4;exact ztj.2 ⟨⟨l,by omega⟩,fun h=>by rw[h4 i h]at h3;cases h3⟩
 let Ag:(Nat->Bool)->Array Value->Array Value->Prop:=fun X ts f=>ts.size=f.size/\∀t,(∀j∈zn0 cl a A,X j=false->∀o,ops[j]?=some o->o.dst≠some t)->ts[t]?=f[t]?
 refine zKT (T:=A+1) (J:=fun X E ts w=>(X A=false->Sim w0 S0 (UX U base a A X) (zbz ops b X a ss st0) E ts sv w)/\
  (X A=true->∃(N:Nat->Prop) (st1:St) (f:Array Value),Sim w0 S0 N st1 E f sv w/\(∀n,N n->VV V base ops.size (A+1) n)/\base+32*ops.size<=st1.nid/\(∀n,st1.nid<=n->¬ N n)/\zpC C ops base k (zn0 cl a A) st1=some a6/\Ag X ts f)) W e4 d4 ?_ ?_ ?_
  a3 c E ts w f8 hX c4 (fun m l M=>b1 m (by omega) M) hf ⟨fun _=>hS,fun h=>(by rw[b1 A (qT _) (by omega)]at h;cases h)⟩
 .intro X Y E ts w h hJ;have G:X A=Y A:=h A (by omega) (by omega)
  have e:=zkI (ops:=ops) (b:=b) ss a st0 (X:=X) (Y:=Y) (fun k l M=>h k l (by omega))
  refine⟨fun a0=>?_,fun a0=>?_⟩
  .have:=hJ.1 (G.trans a0);rw[e] at this;refine this.uses ?_
   rintro n (l|⟨k,h0,l,M,h3⟩)
   .exact .inl l
   .exact .inr ⟨k,h0,l,by rw[<- h k h0 (by omega)];exact M,h3⟩
  .obtain⟨N,st1,f,l,M,h3,h4,h5,h6,h7⟩:=hJ.2 (G.trans a0);refine⟨N,st1,f,l,M,h3,h4,h5,h6,fun t z=>h7 t (fun j g r=>z j g ?_)⟩;have:=ztj.1 g;rw[<- h j this.1.1 (by omega)]
   exact r
 .intro X Y i hX hia hi hXi hr hY E ts w hJ K hK
  by_cases f3:i=A
  .subst f3;have c1:=hJ.1 hXi
   have b3:∀n,a<=n->n<=i->∃f,Sim w0 S0 (UX U base a i (fun k=>X k||decide (k<n))) (zbz ops b (fun k=>X k||decide (k<n)) a ss st0) E f sv w/\Ag X ts f:=by
    intro n
    induction n with
    |zero=>intro h0 _;have e:(fun k=>X k||decide (k<0))=X:=(by funext k;simp);rw[e];exact⟨ts,c1,rfl,fun _ _=>rfl⟩
    |succ n ih=>
     intro l M;by_cases g0:a=n+1
     .have e:zbz ops b (fun k=>X k||decide (k<n+1)) a ss st0=zbz ops b X a ss st0:=zkI ss a st0 (fun k g1 g2=>by
       have:¬ k<n+1:=by omega
       simp[this])
      rw[e];refine⟨ts,c1.uses (Z fun k x=>by simp[x]),rfl,fun _ _=>rfl⟩
     .obtain⟨f,D,B⟩:=ih (by omega) (by omega);have b2:∀k,(X k||decide (k<n+1))=((X k||decide (k<n))||k==n):=fun k=>by by_cases x:k<n;{have:k<n+1:=(by omega);simp[x,this]};{by_cases c9:k=n;{subst c9;simp};{have:¬ k<n+1:=(by omega);simp[x,c9,this]}}
      cases a7:X n with
      |true=>have e:(fun k=>X k||decide (k<n+1))=fun k=>X k||decide (k<n):=(by funext k;rw[b2 k];by_cases x:k=n;{subst x;simp[a7]};{simp [x]});rw[e];exact⟨f,D,B⟩
      |false=>
       have d0:=I (by omega) (by omega) a7 hr;obtain⟨p,t,hp,z,H,_⟩:=y n d0;have c5:zj0 cl (fun k=>X k||decide (k<n)):=(by intro k x j g;simp only[jY,qX]at x ⊢;rcases x with x|x;{exact .inl (hX k x j g)};{have:=W.lt k (by omega) j g;exact .inr (by omega)});obtain⟨q,rfl⟩:∃q,n=a+q:=⟨n-a,by omega⟩;obtain⟨s,hs⟩:∃s,ss[q]?=some s:=⟨_,qB (by omega)⟩;have a9:(X (a+q)||decide (a+q<a+q))=false:=by simp[a7]
       obtain⟨o,S,c7⟩:=zSb F c5 hs a9 (fun j g=>by
        have:=W.lt (a+q) (by omega) j g
        simp[this])
       rw[hp]at S;cases S;have b6:p.guard=none:=by unfold zms at H;simp only[qE,kB]at H;exact H.1
       cases s with
       |none=>exfalso;have:zdQ ops p (zbz ops b (fun k=>X k||decide (k<a+q)) a ss st0)=some false:=c7;simp[zdQ,b6] at this
       |some d=>obtain⟨_,d2,d3⟩:=c7;obtain⟨_,v2,a5,c0,a4,e1,e2,e3⟩:=zux hC D H (zGV H d2) d3;have d6:∀κ,(zbz ops b (fun k=>X k||decide (k<a+q+1)) a ss st0).get κ=((zbz ops b (fun k=>X k||decide (k<a+q)) a ss st0).put p.dst d.v).get κ:=(by intro κ;rw[zId F c5 hs hp a9 (fun k=>b2 k) κ];simp only[St.step,St.effD,e1,e2,List.map_nil,jL]);have e0:=D.putV (dst:=p.dst) c0 a4;refine⟨(({tmps:=f,defers:=[]}:Act).put p.dst v2).tmps,(e0.same d6 ?_ ?_).uses (Z fun k x=>?_),?_,?_⟩;{rw [zm6,zQO,zm6]};{rw [zhB,zXt,zhB]};{simp only [jY,qX]at x ⊢;rcases x with x|x;{exact .inl x};{exact .inr (by omega)}};{rw [z];simp[Act.put,B.1]};{intro t' a1;rw[B.2 t' a1,z];have b8:t≠t':=fun e=>a1 _ d0 a7 p hp (by rw[z,e]);simp[Act.put,vD b8]}
   obtain⟨f,D,B⟩:=b3 i e8 (qT _);have e:=zkI (ops:=ops) (b:=b) ss a st0 (X:=fun k=>X k||decide (k<i)) (Y:=fun _=>true) (fun k l M=>by
    have:k<i:=by omega
    simp[this])
   rw[e]at D;have D:=D.uses (Z (Y:=fun _=>true) fun _ _=>rfl)
   let Q1:Exit->Act->World->Prop:=fun e a' w'=>e = .normal/\a'.defers=[]/\∃(N:Nat->Prop) (st1:St) (E1:Env),Sim w0 S0 N st1 E1 a'.tmps sv w'/\(∀n,N n->VV V base ops.size (i+1) n)/\base+32*ops.size<=st1.nid/\(∀n,st1.nid<=n->¬ N n)/\zpC C ops base k (zn0 cl a i) st1=some a6
   have R:(zbz ops b (fun _=>true) a ss st0).nid=st0.nid:=zwv ss a st0;have d8:=zm4 (Q:=Q1) hC hH hG hN b5 (ops:=ops) (base:=base) (V:=VV V base ops.size (i+1)) (nid0:=base+32*ops.size) (fun n O=>.inr (.inr O))
    (fun U' a2 E' L w' b4 e5 O d9 h'=>⟨rfl,rfl,U',a2,E',b4,e5,O,d9,h'⟩)
    [i] _ _ E f w D ?_ (by rw[R];exact hF) ?_ (by simp) (by rw[R];exact d1) ?_ c6
   .rw [wpOps_cons] at d8;refine z3f f6 f0 (fun t z=>B.2 t (fun j g r o S u=>?_)) (fun e a w h=>h.1) (fun a' w' h=>h.2.1) (fun v w' h=>?_) d8
    .obtain⟨p,t',hp,hpt,_,hn,_⟩:=y j g;rw[hp]at S;cases S;rw[hpt]at u;cases u;exact hn z
    .obtain⟨_,_,N,st1,E1,g1,g2,g3,g4,g5⟩:=h;rw[zj1];refine hK E1 _ w' ⟨fun h=>(by rw[hY]at h;simp at h),fun _=>⟨N,st1,_,g1,g2,g3,g4,g5,?_,?_⟩⟩
     .cases oA.dst<;>simp [Act.put,B.1]
     .intro t z;have h0:ts[t]?=f[t]?:=B.2 t (fun j g r=>z j g (by
       have:=ztj.1 g;rw[hY,r];simp;omega))
      cases b0:oA.dst with
      |none=>simpa [Act.put,b0] using h0
      |some d=>simp only[Act.put,b0,uK,B.1];split;{rfl};{exact h0}
   .rintro n O
    rcases c2 n O with h|⟨l,M⟩|h
    .exact .inl h
    .exact .inr (.inl ⟨l,by omega⟩)
    .exact .inr (.inr h)
   .intro j g n hmn;simp only[qF]at g;subst g;obtain⟨g1,g2⟩:=hmn;refine⟨fun O=>?_,.inr (.inl ⟨by omega,by omega⟩)⟩
    rcases c2 n O with h|⟨l,M⟩|h
    .exact e6 n (by omega) h
    .omega
    .omega
   .intro j g;simp only[qF]at g;subst g;rw[R];omega
  .have hiA':i<A:=by omega
   have a0:Y A=X A:=by rw[hY];have:(A==i)=false:=(by simp;omega);rw[this,uQ]
   cases G:X A with
   |false=>refine zC8 hC hH hG hA F hX hia hiA' hXi hr hb hd hM hY (hJ.1 G) (fun E' L w' b4=>hK E' L w' ⟨fun _=>b4,fun h=>(by rw[a0,G]at h;cases h)⟩)
   |true=>
    obtain⟨N,st1,f,g1,g2,g3,g4,g5,g6,g7⟩:=hJ.2 G;have b7:=I hia hiA' hXi (fun j g=>hX A G j g);obtain⟨p,t,hp,z,H,_,g8⟩:=y i b7;obtain⟨o,d,t2,S,f2,f1,d7,f9⟩:=(ztN g5).2 i b7;rw[hp]at S;cases S;rw[z]at d7;cases d7;obtain⟨b6,v2,a5,c0,a4,_,_,_⟩:=zux hC g1 H f2 f1;have e9:execOp ({tmps:=ts,defers:=[]}:Act).eval p=execOp ({tmps:=f,defers:=[]}:Act).eval p:=z2u H (fun t' a1=>g7 t' (fun j g r o S u=>by
     obtain⟨p2,t3,f7,d5,_,_,c3⟩:=y j g;rw[f7]at S;cases S;rw[d5]at u;cases u;have:=hr j ((c3 i b7 p hp).1 a1);rw[this]at r;cases r))
    rw[<- e9]at a5;refine pure_run (d:=d) hp b6 a5 (hK E _ w ⟨fun h=>(by rw[a0,G]at h;cases h),fun _=>⟨N,st1,(({tmps:=f,defers:=[]}:Act).put p.dst v2).tmps,?_,g2,g3,g4,g5,?_,?_⟩⟩);{have:=g1.putV (dst:=p.dst) c0 a4;rw[z,zJI f9] at this;rw[z];exact this};{rw [z];simp[Act.put,g6]};{intro t' a1;rw[z];simp only[Act.put,uK,g6];split;{rfl};{rename_i b8;refine g7 t' (fun j g r o S u=>?_);by_cases c8:j=i;{subst c8;rw[hp]at S;cases S;rw[z]at u;cases u;exact b8 rfl};{refine a1 j g ?_ o S u;rw[hY,r];simp[c8]}}}
 .intro fl l' E' L w' hsz' hl' hf' hJ;obtain⟨N,st1,f,g1,g2,g3,g4,g5,g6,g7⟩:=hJ.2 rfl;have:L=f:=Array.ext_getElem? fun t=>g7 t (fun j _ h=>by cases h)
  subst this;exact b9 fl l' N st1 E' L w' hsz' hl' hf' g1 g2 g3 g4 (ztN g5).1
theorem zys (N:CfgOk C)(W:Waits md ops cl){x:App}{kk:Nat->List Bool->St->Option Ans}{s:Ans}{Q:Exit->Act->World->Prop}(B:∀(H:Nat) (r':List Bool) (L:Nat->Prop) (j:St) (K:Env) (I:Array Value) (J:World) (u:Nat) (p:Array Bool),r'=(zjy ops.size cl).drop H->H<=ops.size->p.size=ops.size->(∀i,i<ops.size->p.getD i true=decide (i<H))->left ops.size p<=u->
 Sim w0 S0 L j K I sv J->(∀n,L n->VV U base ops.size H n)->(∀n,j.nid<=n->¬ L n)->base+32*ops.size<=j.nid->kk H r' j=some s->wpAny C.P md ops Q u p {tmps:=I,defers:=[]} J) :
 ∀(l:List Bool) (m:Nat) (V:Nat->Prop) (st:St) (E:Env) (ts:Array Value) (w:World) (b:Nat) (a:Array Bool) (v:Value),l=(zjy ops.size cl).drop m->m<=ops.size->a.size=ops.size->(∀i,i<ops.size->a.getD i true=decide (i<m))->left ops.size a<=b->
  Sim w0 S0 V st E ts sv w->(∀n,V n->VV U base ops.size m n)->(∀n,st.nid<=n->¬ V n)->base+32*ops.size<=st.nid->ts[x.dst]?=some v->Late w0 st E x v w->zrW C ops base x kk l m st=some s->wpAny C.P md ops Q b a {tmps:=ts,defers:=[]} w
 |[],m,V,st,E,ts,w,b,a,v,_,_,_,_,_,_,_,_,_,_,_,h=>by simp[zrW]at h
 |false::r,m,V,st,E,ts,w,b,a,v,_,_,_,_,_,_,_,_,_,_,_,h=>by simp[zrW]at h
 |true::r,m,V,st,E,ts,w,b,a,v,hp,hm,Y,hl,hf,O,hV,hF,hn,Z,hL,h=>by
  simp only[zrW]at h;obtain⟨T,F,hr⟩:=ztm hp;have y:∀n,V n->VV U base ops.size (m+1) n:=(by rintro n g;rcases hV n g with h|⟨M,h2⟩|h;{exact .inl h};{exact .inr (.inl ⟨M,by omega⟩)};{exact .inr (.inr h)});refine z0F W Y T (zxA F.symm) hl hf (λu p k D z _ _=>?_);split at h;{cases h}
  .rename_i o ho;split at h
   .rename_i c st2 hst;cases q:c with
    |false=>rw[q]at h;cases h
    |true=>rw[q]at h hst;simp only[cond_true,zEa]at h;obtain⟨hg,S,a1⟩:=z1Y (id:=base+32*m) N O hL Z hst;unfold wpOp;simp only[ho];rw[if_pos (by simp[Region.wanted,hg])];refine .inl (S _ _ λK v' J R=>?_);rw[zj1];refine B (m+1) r _ _ K _ J u p hr (by omega) k D z R ?_ ?_ (by rw[zhj];omega) h;{rintro n (h|⟨M,h2⟩);{exact y n h};{exact .inr (.inl ⟨by omega,by omega⟩)}};{rintro n g (h|⟨M,h2⟩);{exact hF n (by rw[zhj]at g;omega) h};{rw [zhj]at g;omega}}
   {split at h;{rename_i f;simp only[qE,jF,beq_eq_false_iff_ne]at f;split at h;{rename_i d hd;cases q:d.c with|false=>rw[q]at h;cases h|true=>rw[q]at h;simp only[cond_true]at h;obtain⟨hg,v2,G,a0,A,e1,e2,e3⟩:=zux N O f.1 hd q;have he:st.apply o.dst d=st.put o.dst d.v:=(by simp[St.apply,e1,e2,e3]);rw[he]at h;refine pure_run (d:=d) ho hg G ?_;refine zys N W B r (m+1) V _ E _ w u p v hr (by omega) k D z (O.putV a0 A) y (by rw[zhj];exact hF) (by rw[zhj];exact hn) ?_ (hL.states (λn=>?_) λn=>?_) h;{cases X:o.dst with|none=>exact Z|some t=>exact zXu Z (λe=>f.2 (by rw[X,e]))};{cases o.dst<;>rfl};{cases o.dst<;>rfl}};{cases h}};{cases h}}
theorem zmo (hC:CfgOk C)(hH:CtrOk C)(hG:GraftOk C)(hN:NameOk C){a7:zh5}(u:zsW C a7)(W:Waits md ops cl){k:St->Option Ans}{b6:Ans}{Q:Exit->Act->World->Prop}(L:∀n,base<=n->¬ U n)(hk:∀(U':Nat->Prop) (g:St) (E':Env) (B:Array Value) (w':World),Sim w0 S0 U' g E' B sv w'->(∀n,U' n->VV U base ops.size ops.size n)->base+32*ops.size<=g.nid->(∀n,g.nid<=n->¬ U' n)->k g=some b6->Q .normal {tmps:=B,defers:=[]} w') :
 ∀(fs m:Nat) (a5:List Bool) (V:Nat->Prop) (st:St) (E:Env) (ts:Array Value) (w:World) (l:Nat) (c:Array Bool),a5=(zjy ops.size cl).drop m->m<=ops.size->c.size=ops.size->(∀i,i<ops.size->c.getD i true=decide (i<m))->left ops.size c<=l->
  Sim w0 S0 V st E ts sv w->(∀n,V n->VV U base ops.size m n)->(∀n,st.nid<=n->¬ V n)->base+32*ops.size<=st.nid->zmz C a7 ops cl base k fs m a5 st=some b6->wpAny C.P md ops Q l c {tmps:=ts,defers:=[]} w
 | 0,m,a5,V,st,E,ts,w,l,c,_,_,_,_,_,_,_,_,_,h=>by simp[zmz]at h
 |fs+1,m,[],V,st,E,ts,w,l,c,hp,hm,K,hl,hf,hS,hV,hF,hn,h=>by simp only[zmz]at h;have b4:=zXp hp;have e:m=ops.size:=(by omega);subst e;exact z7E (λi hi=>by rw[hl i hi];simp[hi]) (hk V st E ts w hS hV hn hF h)
 |fs+1,m,true::r,V,st,E,ts,w,l,c,hp,hm,K,hl,hf,hS,hV,hF,hn,h=>by
  simp only[zmz]at h;obtain⟨b4,c1,hr⟩:=ztm hp;refine z0F W K b4 (zxA c1.symm) hl hf (λfl l' A N M _ _=>?_)
  let Q':Exit->Act->World->Prop:=λe a w=>match e with
   |.normal=>wpAny C.P md ops Q fl l' a w
   |e=>Q e a w
  have hQ:∀e,e≠Exit.normal->∀a w,Q' e a w->Q e a w:=by intro e he a w h;cases e<;>first|exact absurd rfl he|exact h
  refine z3e hQ ?_;have c2:=zm4 (Q:=Q') hC hH hG hN u (ops:=ops) (base:=base) (V:=VV U base ops.size (m+1)) (nid0:=base+32*ops.size) (λn p=>.inr (.inr p))
   (λU' g E' B w' X c8 p c7 h'=>zmo hC hH hG hN u W L hk fs (m+1) r U' g E' B w' fl l' hr (by omega) A N M X c8 c7 p h')
   [m] V st E ts w hS ?_ hF ?_ (by simp) hn ?_ h
  {rw [wpOps_cons] at c2;exact wpOp_mono (λa w h=>h) c2};{rintro n p;rcases hV n p with h|⟨t,D⟩|h;{exact .inl h};{exact .inr (.inl ⟨t,by omega⟩)};{exact .inr (.inr h)}};{intro j hj n d3;simp only[qF]at hj;subst hj;obtain⟨S,g2⟩:=d3;refine⟨λp=>?_,.inr<|.inl ⟨by omega,by omega⟩⟩;rcases hV n p with h|⟨t,D⟩|h;{exact L n (by omega) h};{omega};{omega}};{intro j hj;simp only[qF]at hj;subst hj;omega}
 |fs+1,m,false::r,V,st,E,ts,w,l,c,hp,hm,K,hl,hf,hS,hV,hF,hn,h=>by
  simp only[zmz]at h;obtain⟨b4,_,hr⟩:=ztm hp;obtain⟨b9,a0,a1⟩:=zSA r (m+1) (by omega) hr;generalize b8:(List.range' m<|zcw r+1).any (zl5 C ops)=b at h;have F:Sim w0 S0 V {st with ep:=if b then st.ep+1 else st.ep} E ts sv w:=hS.blind b st.nid;have z:({st with ep:=if b then st.ep+1 else st.ep}:St).nid=st.nid:=rfl
  have Y:b=true->Dead ({st with ep:=if b then st.ep+1 else st.ep}:St)/\0<({st with ep:=if b then st.ep+1 else st.ep}:St).ep:=by
   intro hb;subst hb;refine⟨λn R e hR he=>?_,by simp⟩
   have:=hS.mem.epo n R e hR he;simp only[if_true];omega
  have b1:b=false->∀k,m<=k->k<m+1+zcw r->zl5 C ops k=false:=(by intro hb k e0 e4;rw[hb]at b8;have:=kI.1 b8 k (by simp;omega);simpa using this);have hM:∀k,m<=k->k<m+1+zcw r->∀n,Mine (base+32*k) n->¬ V n:=by intro k t D n p hv;have S:=p.1;have g2:=p.2;rcases hV n hv with h|⟨h3,h4⟩|h;{exact L n (by omega) h};{omega};{omega}
  have a4:∀(ss:List Step) (st0:St),zbz ops b (XL c) m ss st0=st0:=λss st0=>zww ss m st0 (λk hk=>by
   rcases vE k ops.size with h|h
   .rw [zt9 (by omega),hl k h];simp;omega
   .simp [XL,u3 (show c.size<=k by omega)])
  have b7:∀{T:Nat},T<=m+(zcw r+1)->∀n,UX V base m T (λ_=>true) n->VV U base ops.size (m+(zcw r+1)) n:=(by rintro T hT n (h|⟨k,h0,t,_,h3⟩);{rcases hV n h with h|⟨t,D⟩|h;{exact .inl h};{exact .inr (.inl ⟨t,by omega⟩)};{exact .inr (.inr h)}};{have S:=h3.1;have g2:=h3.2;exact .inr (.inl ⟨by omega,by omega⟩)});have b0:∀{T:Nat},T<=m+(zcw r+1)->∀n,st.nid<=n->¬ UX V base m T (λ_=>true) n:=(by rintro T hT n p (h|⟨k,h0,t,_,h3⟩);{exact hF n (by omega) h};{have:=h3.2;omega});have b3:∀{gs:List (Nat×Foot)} {ss:List Step} {st0 g:St},(∀x∈gs,∀y∈gs,(¬ x.1<y.1\/x.1∈cl.getD y.1 [])\/x.2.apart y.2=true)->Trace C ops b base m ss gs st0 g->Free C ops cl b base m ss st0:=(by intro gs ss st0 g d q;have Z:=zYr q;refine⟨λi s hs=>?_,λi k s s' o o' f f' hs d5 ho d4 t D d9 b5=>?_⟩;{obtain⟨o,f,S,g2,g3⟩:=Z i s hs;exact⟨o,f,S,g3⟩};{obtain⟨o1,f1,S,g2,g3⟩:=Z i s hs;obtain⟨o2,f2,e1,e2,e3⟩:=Z k s' d5;rw[ho] at S;cases S;rw[d4] at e1;cases e1;have b2:=zHS t g3;have d2:=zHS D e3;subst b2 d2;rcases d _ g2 _ e2 with (h|h)|h;{exact absurd (by show m+i<m+k;omega) h};{exact absurd h b5};{exact h}});have J:∀i,i<m->XL c i=true:=λi hi=>(by rw[zt9 (by omega),hl i (by omega)];simp[hi]);have I:∀k,m<=k->k<ops.size->XL c k=false:=λk t D=>(by rw[zt9 (by omega),hl k D];simp;omega);rcases ztK (zcw r+1) m [] _ h with⟨ss,gs,g,a8,q,d,G⟩|⟨ss,gs,g,oA,x,a8,q,a3,c9,d0,a2,d6,d,G⟩|⟨ss,gs,g,oA,a8,q,a3,d1,a2,c0,d,G⟩;{rw [jG]at d;unfold znM at d;simp only[jF,qL,jY,decide_eq_false_iff_not,jJ,qX,vP]at d;generalize a9:({st with ep:=if b then st.ep+1 else st.ep}:St)=st0 at q F z Y;have H:g=zbz ops b (λ_=>true) m ss st0:=zEj q;refine z7j (w0:=w0) (S0:=S0) (sv:=sv) hC hH hG W (T:=m+1+zcw r) (by omega) b9 a1 (b3 d q) b1 Y hM (λfl l' E' B w' A N M X=>?_) l c E ts w K (zo9 W K hl) J (λk t D=>I k (by omega) D) hf ?_;{rw [<- H]at X;have O:g.nid=st.nid:=(by rw[H,zwv,z]);exact zmo hC hH hG hN u W L hk fs (m+(zcw r+1)) (r.drop<|zcw r) _ g E' B w' fl l' (by rw[a0];congr 1;omega) (by omega) A (λi hi=>by rw[N i hi];congr 1;simp only[eq_iff_iff];omega) M X (b7 (by omega)) (by rw[O];exact b0 (by omega)) (by omega) G};{rw [a4];exact F.uses (λn h=>.inl h)}}
  .rw [jG]at d;unfold znM at d;simp only[jF,qL,jY,decide_eq_false_iff_not,jJ,qX,qG,vP]at d;generalize a9:({st with ep:=if b then st.ep+1 else st.ep}:St)=st0 at q F z Y;have H:g=zbz ops b (λ_=>true) m ss st0:=zEj q;subst H;have hA:m+ss.length=m+zcw r:=by omega
   rw[hA]at a3 a2 d;have Z:=zYr q;refine z7t (w0:=w0) (S0:=S0) (sv:=sv) hC hH hG W hA (by omega) (λh=>by
    have e:m+zcw r+1=m+1+zcw r:=by omega
    rw[e]at h ⊢;exact a1 h) (b3 (λx hx y hy=>d x (.inr hx) y (.inr hy)) q) (λhb k t D=>b1 hb k t (by omega)) d0 Y (λk t D=>hM k t (by omega)) a3 c9 a2 d6 (λi s o f hs ho t b5=>?_)
    (λfl l' E' B w' v A N M hv X hL=>?_) l c E ts w K (zo9 W K hl) J (λk t D=>I k (by omega) D) hf ?_
   {obtain⟨o1,f1,S,g2,g3⟩:=Z i s hs;rw[ho] at S;cases S;have b2:=zHS t g3;subst b2;have hi:i<ss.length:=(qA.1 hs).1;rcases d _ (.inr g2) _ (.inl rfl) with (h|h)|h;{exact absurd (by show m+i<m+zcw r;omega) h};{exact absurd h b5};{exact h}}
   .have O:((zbz ops b (λ_=>true) m ss st0).put oA.dst (.v<|.at .bad)).nid=st.nid:=by rw[zhj,zwv,z]
    exact zys hC W (λm' r' U' a6 c4 c3 d8 c5 d7 t D h3 h4 h5 h6 h7 h8 h9 c6=>zmo hC hH hG hN u W L hk fs m' r' U' a6 c4 c3 d8 c5 d7 t D h3 h4 h5 h6 h7 h8 h9 c6)
     (r.drop<|zcw r) (m+(zcw r+1)) _ _ E' B w' fl l' v (by rw[a0];congr 1;omega) (by omega) A (λi hi=>by rw[N i hi];congr 1) M X (b7 (by omega)) (by rw[O];exact b0 (by omega)) (by omega) hv hL G
   {rw [a4];exact F.uses (λn h=>.inl h)}
  .rw [jG]at d;unfold znM at d;simp only[jF,qL,jY,decide_eq_false_iff_not,jJ,qX,vP]at d;generalize a9:({st with ep:=if b then st.ep+1 else st.ep}:St)=st0 at q F z Y;have H:g=zbz ops b (λ_=>true) m ss st0:=zEj q;subst H;have hA:m+ss.length=m+zcw r:=by omega
   rw[hA]at a3 a2 c0 G;refine z6v (w0:=w0) (S0:=S0) (sv:=sv) (V:=U) hC hH hG hN u W (by omega) hA (by omega) (λh=>by
    have e:m+zcw r+1=m+1+zcw r:=by omega
    rw[e]at h ⊢;exact a1 h) (b3 d q) (λhb k t D=>b1 hb k t (by omega)) Y (λk t D=>hM k t (by omega)) a3 d1 a2 c0 ?_ L (by omega) (λn p=>by rw[z]at p;exact b0 (by omega) n p) G
    (λfl l' U' a6 E' B w' A N M S g2 g3 g4 g5=>zmo hC hH hG hN u W L hk fs (m+(zcw r+1)) (r.drop<|zcw r) U' a6 E' B w' fl l' (by rw[a0];congr 1;omega) (by omega) A (λi hi=>by rw[N i hi];congr 1) M S g2 g4 g3 g5)
    l c E ts w K (zo9 W K hl) J (λk t D=>I k (by omega) D) hf ?_
   {rintro n (h|⟨k,h0,t,_,h3⟩);{rcases hV n h with h|⟨t,D⟩|h;{exact .inl h};{exact .inr (.inl ⟨t,by omega⟩)};{exact .inr (.inr h)}};{have S:=h3.1;have g2:=h3.2;exact .inr (.inl ⟨by omega,by omega⟩)}};{rw [a4];exact F.uses (λn h=>.inl h)}
theorem zbaP (Z:CfgOk C)(hH:CtrOk C)(hG:GraftOk C)(hN:NameOk C):DrawOk C:=by
 refine⟨λN g ops k X Q w0 S0 sv U0 S U st E ts w hk hS hU O hn h t=>?_⟩;unfold zH9 at h;simp only at h;generalize I:zkk ops (List.range ops.size) []=cl at h;split at h;(case isFalse=>cases h);rename_i j;unfold z4m at j;simp only[qE,qL,kP,qX]at j;obtain⟨a,s⟩:=j;have d:∀i,i<ops.size->cl.getD i []=waits ops (cl.take i) i:=λi r=>(by rw[<- I];exact z1e r);have f:∀(md:Region.Mode) (c:Nat->Nat),zQH md ops c=true->∃c:Nat->Nat,∀(i:Nat) (o:Oper),ops[i]?=some o->∀e∈o.after,Region.binds md e=true->e.on<ops.size/\c e.on<c i:=by intro md c h;refine⟨c,λi o v e J H=>?_⟩;have:=qL.1 h i (kP.2 (qS.1 v).1);rw[v] at this;have:=qL.1 this e (by simpa using J);simpa [H] using this
 have p:∀(md:Region.Mode),(∀e,Region.binds .any e=true->Region.binds md e=true)->(∃c:Nat->Nat,∀(i:Nat) (o:Oper),ops[i]?=some o->∀e∈o.after,Region.binds md e=true->e.on<ops.size/\c e.on<c i)->Waits md ops cl :=
  λmd y A=>⟨d,s,y,A⟩
 have m:∀e,Region.binds .any e=true->Region.binds .text e=true:=λe h=>(by unfold Region.binds at *;cases hg:e.ground<;>rw [hg]at h<;>simp at h ⊢);have l:∀e,Region.binds .any e=true->Region.binds .gc e=true:=λe h=>by unfold Region.binds at *;cases hg:e.ground<;>rw [hg]at h<;>simp at h ⊢
 have b:∃md L,Region.schedule (C.P.follows .mixedOrders) ops t=Region.linearise md ops L/\Waits md ops cl:=by
  have q:Waits .any ops cl:=p .any (λ_ h=>h) ⟨λi=>i,λi o v e J H=>by
   have y:=zbaS d v J H;have r:=(qS.1 v).1;have A:=s i r _ y;exact⟨by omega,A⟩⟩
  unfold Region.schedule;by_cases z:(C.P.follows .mixedOrders || !Region.departs ops)=true;{rw [if_pos z];exact⟨.any,t,rfl,q⟩};{rw [if_neg z];have hd:Region.departs ops=true:=(by cases h:Region.departs ops with|true=>rfl|false=>rw[h]at z;simp at z);rw[hd,cond_true,qE]at a;by_cases R:(t % 2==0)=true;{rw [if_pos R];exact⟨.text,t / 2,rfl,p .text m<|f .text _ a.1⟩};{rw [if_neg R];exact⟨.gc,t / 2,rfl,p .gc l<|f .gc _ a.2⟩}}
 obtain⟨md,L,x,W⟩:=b;rw[x];refine wpAny_sound ops.size L _ _ _ ?_;have F:Sim w0 S0 U {st with nid:=st.nid+32*ops.size} E ts sv {w with drawn:=w.drawn+1}:=(hS.nid _).heap (w':={w with drawn:=w.drawn+1}) rfl rfl rfl rfl;refine zmo Z hH hG hN g W O (λV K T M w' D G u B Y=>hk V K T M w' D ?_ (by omega) B Y) (ops.size+1) 0 (zjy ops.size cl) U _ E ts _ ops.size _ rfl (by omega) (by simp) (λi r=>by simp[r]) ?_ F (λn h=>.inl h) ?_ (qT _) h;{intro n h;rcases G n h with h|⟨y,_⟩|h;{exact hU n h};{exact .inr (by omega)};{exact .inr (by omega)}};{unfold left;exact jB (List.countP_le_length) (by simp)};{intro n u h;exact O n (jB (uA _ _) u) h}
end
section
variable {P:Program}
def zYz:Value->CTy->Bool
 |.int k n,.i a=>k==a&&n==0
 |.bool b,.b=>!b
 |.slice none 0 0,.s _=>true
 |_,_=>false
def zAm:List Value->List CTy->Bool
 |[],[]=>true
 |v::vs,t::ts=>zYz v t&&zAm vs ts
 |_,_=>false
theorem z6i {v:Value}{t:CTy}(h:zYz v t=true):v=zeroV t:=by unfold zYz at h;split at h;{simp only [qE,qM]at h;obtain⟨rfl,rfl⟩:=h;rfl};{simp only [jF]at h;subst h;rfl};{rfl};{cases h}
theorem zHM:∀{b:List Value} {a:List CTy},zAm b a=true->b=a.map zeroV
 |[],[],_=>rfl
 |v::b,t::a,h=>by simp only[zAm,qE]at h;rw[jH,z6i h.1,zHM h.2]
 |[],_::_,h=>by cases h
 |_::_,[],h=>by cases h
def zDt (P:Program)(T:TypeId)(a:List CTy):Bool :=
 match P.info? T with
 |some i=>i.size==a.length&&(match i.zero with
  |some z=>zAm z.cells.toList a
  |none=>false)
 |none=>false
theorem zDu {T:TypeId}{a:List CTy}(h:zDt P T a=true):∃i z,P.info? T=some i/\i.size=a.length/\i.zero=some z/\z.cells.toList=a.map zeroV:=by unfold zDt at h;split at h;{rename_i i d;simp only[qE,qM]at h;obtain⟨c,b⟩:=h;split at b;{rename_i z e;exact⟨i,z,d,c,e,zHM b⟩};{cases b}};{cases h}
def zqe (P:Program)(T:TypeId):Bool :=
 (match zc6 P 4 T with
  |some (b,a)=>zDt P T a&&(!b||(match P.underlying T with
   |some (.struct c)=>(c.toList.mapM λf=>(P.info? f.type).map λi=>(f.offset,i.size)).isSome
   |_=>false))
  |none=>true) &&
 (match P.underlying T with
  |some (.slice e)=>match zx zUT e with
   |some t=>zDt P e t.shape&&(match P.info? e with
    |some i=>decide (i.bytes<=1024)
    |none=>false)&&(match zc6 P 4 e with
    |some (_,a)=>decide (a=t.shape)
    |none=>false)
   |none=>true
  |_=>true)
def zwt (P:Program):List Field->Nat->List CTy->Bool
 |[],_,[]=>true
 |f::fs,a,ty::tys=>f.name != "_" && f.offset==a&&(match P.underlying f.type,ty with
  |some (.int k),.i c=>k==c
  |some .bool,.b=>true
  |_,_=>false)&&zwt P fs (a+1) tys
 |_,_,_=>false
def zUH (P:Program)(T:TypeId):Bool :=
 match zc6 P 4 T with
 |some (true,a)=>!P.stoodInHeld T && !P.eqGuardType P.depth T&&(match P.underlying T with
  |some (.struct b)=>zwt P b.toList 0 a
  |_=>false)
 |_=>true
theorem zUF {n:Nat}{T:TypeId}{a:Bool}{c:List CTy}(h:zc6 P n T=some (a,c)) :
 (∃d,P.underlying T=some d/\zV7 d=a/\(∀k,c=[.i k]->a=false->d = .int k)/\(c=[.b]->a=false->d = .bool))/\(a=false->c.length=1):=by
 cases n with
 |zero=>cases h
 |succ n=>simp only[zc6]at h;split at h;{rename_i k f;cases h;exact⟨⟨_,f,rfl,λg h _=>by simp only[List.cons.injEq,CTy.i.injEq,and_true]at h;rw[h],λh=>by simp at h⟩,λ_=>rfl⟩};{rename_i f;cases h;exact⟨⟨_,f,rfl,λg h=>by simp at h,λ_ _=>rfl⟩,λ_=>rfl⟩};{rename_i e f;split at h;{cases h;exact⟨⟨_,f,rfl,λg h=>by simp at h,λh=>by simp at h⟩,λ_=>rfl⟩};{cases h}};{rename_i j f;split at h;{cases h;exact⟨⟨_,f,rfl,λg _ h=>(by cases h),λ_ h=>(by cases h)⟩,λh=>by cases h⟩};{cases h}};{cases h}
theorem zKU {b:Type}{T:Nat}{x:Option b}{y:b}(h:below T x=some y):T<zh4/\x=some y:=by unfold below at h;cases a:Nat.blt T zh4 with|false=>rw[a]at h;cases h|true=>rw[a]at h;exact⟨by rwa [vN]at a,h⟩
theorem mapM_at {e f:Type}{g:e->Option f}:∀{l:List e} {m:List f},l.mapM g=some m->∀{k:Nat} {x:e},l[k]?=some x->m[k]?=g x
 |[],m,h,k,x,c=>by simp at c
 |a::l,m,h,k,x,c=>by simp only[vJ,Option.bind_eq_bind,u0,Option.pure_def,qC]at h;obtain⟨b,i,j,d,rfl⟩:=h;cases k with|zero=>simp only[qI,qC]at c;subst c;rw[i];rfl|succ k=>exact mapM_at d (by simpa using c)
theorem ziR {e i:Type}{f:e->Option i}{a:e}{l:List e}{g:List i}(h:zcS f (a::l)=some g):∃b c,f a=some b/\zcS f l=some c/\g=b::c:=by simp only[zcS]at h;split at h;{rename_i b j;split at h;{rename_i c d;cases h;exact⟨b,c,j,d,rfl⟩};{cases h}};{cases h}
theorem zGX (w:World)(d:Nat)(v z:Array Value):∀(W:List Field) (g:Nat) (p:List CTy) (l m:List At) (e:Bool),zwt P W g p=true->zcS zqc l=some p->zcS zqc m=some p->zwj l m=some e->
 v.size=g+l.length->z.size=g+m.length->(∀(j:Nat) (a:At) (u:Value),l[j]?=some a->v[g+j]?=some u->VS a u)->(∀(j:Nat) (a:At) (u:Value),m[j]?=some a->z[g+j]?=some u->VS a u)->
 (Op.eqFields (d+1) v z W).run P w = .ok e w
 |[],g,p,l,m,e,R,X,Y,A,_,_,_,_=>by cases p with|cons t ts=>cases R|nil=>(cases l with|cons a l=>obtain⟨_,_,_,_,h⟩:=ziR X;cases h|nil=>(cases m with|cons a m=>obtain⟨_,_,_,_,h⟩:=ziR Y;cases h|nil=>cases A;simp[Op.eqFields]))
 |f::W,g,p,l,m,e,R,X,Y,A,q,r,hx,hy=>by
  cases p with
  |nil=>cases R
  |cons ty p=>
   cases l with
   |nil=>cases X
   |cons a l=>
    cases m with
    |nil=>cases Y
    |cons c m=>
     obtain⟨ta,a6,O,E,h⟩:=ziR X;cases h;obtain⟨tc,a5,K,F,h⟩:=ziR Y;cases h;simp only[zwt,qE,bne_iff_ne,ne_eq,qM]at R;obtain⟨⟨⟨hn,S⟩,B⟩,G⟩:=R;have I:v[g]?=some (v[g]'(by simp only[qU]at q;omega)):=(by simp);have J:z[g]?=some (z[g]'(by simp only[qU]at r;omega)):=by simp
     have T:=hx 0 a _ rfl I;have U:=hy 0 c _ rfl J;have H:∃L,zVb a c=some L/\(part f.type v f.offset).run P w = .ok (v[g]'(by simp only[qU]at q;omega)) w/\(part f.type z f.offset).run P w = .ok (z[g]'(by simp only[qU]at r;omega)) w/\
      (Op.equalIn (d+1) f.type (v[g]'(by simp only[qU]at q;omega))<|z[g]'(by simp only[qU]at r;omega)).run P w = .ok L w:=by
      rw[S];cases a with
      |i k n=>
       simp only[zqc,qC]at O;subst O;cases c with
       |i k' n' =>
        simp only[zqc,qC,CTy.i.injEq]at K;subst K;cases s:P.underlying f.type with
        |none=>rw[s]at B;cases B
        |some D=>
         rw[s]at B;cases D<;>first|(cases B;done)|skip;refine⟨ieq n n',by simp[zVb],by simp[part,isAgg,run_underlying s,I],by simp[part,isAgg,run_underlying s,J],?_⟩;rw[show v[g]'(by simp only[qU]at q;omega) = .int k' n from T,show z[g]'(by simp only[qU]at r;omega) = .int k' n' from U];exact run_equalIn_int w d f.type k' _ n n' s
       |b _=>simp[zqc]at K
       |_=>simp[zqc]at K
      |b x=>
       simp only[zqc,qC]at O;subst O;cases c with
       |b x' =>
        cases s:P.underlying f.type with
        |none=>rw[s]at B;cases B
        |some D=>
         rw[s]at B;cases D<;>first|(cases B;done)|skip;refine⟨zk9 x x',by simp[zVb],by simp[part,isAgg,run_underlying s,I],by simp[part,isAgg,run_underlying s,J],?_⟩;rw[show v[g]'(by simp only[qU]at q;omega) = .bool x from T,show z[g]'(by simp only[qU]at r;omega) = .bool x' from U];exact run_equalIn_bool' w d f.type x x' s
       |i _ _=>simp[zqc]at K
       |_=>simp[zqc]at K
      |_=>simp[zqc]at O
     obtain⟨L,Q,a3,a4,a1⟩:=H;have C:∃V,zwj l m=some V/\e=(L&&V):=by cases l with|nil=>cases E;(cases m with|nil=>simp only[zwj,Q,qC]at A;exact⟨true,rfl,by rw[<- A];simp⟩|cons c2 m=>obtain⟨_,_,_,_,h⟩:=ziR F;cases h)|cons a2 l=>(cases m with|nil=>cases F;obtain⟨_,_,_,_,h⟩:=ziR E;cases h|cons c2 m=>simp only[zwj,Q]at A;split at A;{rename_i x y M N;cases M;cases A;exact⟨y,by simpa [zwj] using N,rfl⟩};{cases A})
     obtain⟨V,a0,rfl⟩:=C;have ih:=zGX w d v z W (g+1) p l m V G E F a0 (by simp only[qU]at q;omega) (by simp only[qU]at r;omega)
      (λj Z u M N=>hx (j+1) Z u (by simpa using M) (by rw[<- N];congr 1;omega)) (λj Z u M N=>hy (j+1) Z u (by simpa using M) (by rw[<- N];congr 1;omega))
     simp only[Op.eqFields,ne_eq,hn,not_false_eq_true,if_true,Sem.run_bind,a3,a4,Result.andThen_ok,a1,Sem.run_ite,ih];cases L<;>simp
theorem z6x {C:Cfg}(W:C.P=P)(hs:∀T,C.sty T=below T (zxi P T))(X:∀T,C.cty T=below T (zc6 P 4 T))(Q:∀T f,C.fof T f=zvg P T f)(B:(List.range zh4).all (zqe P)=true)(J:∀T,C.eqt T=true->T<zh4->zUH P T=true):CfgOk C:=by subst W;have v:∀T,T<zh4->zqe C.P T=true:=λT r=>qL.1 B T (kP.2 r);have k:∀T g c,C.cty T=some (g,c)->T<zh4/\zc6 C.P 4 T=some (g,c):=λT g c h=>zKU (by rw[<- X];exact h);refine⟨λT g c h=>?_,λT t h=>?_,λT f N n h=>?_,λT c h=>?_,λT c Y h l m e G H w x y op Z hm hq E F=>?_⟩;{obtain⟨r,h⟩:=k T g c h;obtain⟨q,d⟩:=zUF h;have:=v T r;unfold zqe at this;rw[h] at this;simp only[qE] at this;exact⟨q,zDu this.1.1,d⟩};{rw [hs]at h;obtain⟨r,h⟩:=zKU h;unfold zxi at h;split at h;{rename_i e p;have:=v T r;unfold zqe at this;rw[p] at this;simp only[h,qE] at this;obtain⟨_,⟨q,d⟩,_⟩:=this;obtain⟨i,z,O,S,U,V⟩:=zDu q;rw[O]at d;exact⟨e,p,i,z,O,by rw[S,zgc],U,V,by simpa using d⟩};{cases h}};{rw [Q]at h;unfold zvg at h;split at h;{rename_i A p;split at h;{rename_i x M;split at h;{rename_i i K;split at h;{cases h};{rename_i L;cases h;exact⟨A,x,i,p,M,rfl,K,rfl,L⟩}};{cases h}};{cases h}};{cases h}};{obtain⟨r,h⟩:=k T true c h;have:=v T r;unfold zqe at this;rw[h] at this;simp only[qE,jY,jV,kG,false_or] at this;obtain⟨⟨_,d⟩,_⟩:=this;split at d;{rename_i A p;obtain⟨s,R⟩:=uW.1 d;refine⟨A,s,p,R,λf N n b=>?_⟩;rw[Q]at b;unfold zvg at b;rw[p]at b;simp only at b;split at b;{rename_i x M;split at b;{rename_i i K;split at b;{cases b};{cases b;rw[mapM_at R (by simpa using M),K];rfl}};{cases b}};{cases b}};{cases d}};{obtain⟨r,h⟩:=k T true c h;have:=J T Y r;unfold zUH at this;rw[h] at this;simp only[qE,jF] at this;obtain⟨⟨q,d⟩,I⟩:=this;split at I;{rename_i A p;have D:C.P.fieldsOf T=A:=(by simp[Program.fieldsOf,p]);refine⟨run_eqGuard_agg w op T x y G H d,?_⟩;show (Op.equalIn (9999+1) T (.agg G)<|.agg H).run C.P w=_;rw[run_equalIn_struct w 9999 T G H (by rw[D];exact p) q,D];exact zGX w 9998 G H A.toList 0 c l m e I Z hm hq (by rw[E.1];omega) (by rw[F.1];omega) (λj a u q d=>E.2 j a u q (by simpa using d)) (λj a u q d=>F.2 j a u q (by simpa using d))};{cases I}}
end
inductive CVOk:CV->Prop
 |i (k:IntKind) (n:Int) (h:k.min<=n/\n<=k.max):CVOk (.i k n)
 |b (x:Bool):CVOk (.b x)
 |s (t:Ty) (l:List t.den) (hl:l.length<=big) (h:∀(i:Nat) (x:t.den),l[i]?=some x->∀(j:Nat) (c:CV),(t.cells x)[j]?=some c->CVOk c):CVOk (.s t l)
section
variable {P:Program}
def zyB (P:Program)(b:Nat):List Field->Nat->Bool
 |[],a=>a==b
 |f::fs,a=>f.offset==a&&Nat.blt f.type zh4&&zyB P b fs (a+P.cellsOf f.type)
def zzl (P:Program)(T:TypeId):Bool :=
 match P.underlying T with
 |some (.struct a)=>match zc6 P 4 T with
  |some _=>zyB P (P.cellsOf T) a.toList 0
  |none=>true
 |some (.slice e)=>match zx zUT e with
  |some _=>Nat.blt e zh4&&Nat.ble 1 (P.bytesOf e)
  |none=>true
 |_=>true
theorem zHf {e i:Type}{f g:e->Option i}(c:∀x y,f x=some y->g x=some y):∀{l:List e} {d:List i},zcS f l=some d->zcS g l=some d
 |[],_,h=>h
 |a::l,d,h=>by obtain⟨b,j,k,m,rfl⟩:=ziR h;simp only[zcS,c a b k,zHf c m]
theorem zy8:∀{n:Nat} {T:TypeId} {x:Bool×List CTy},zc6 P n T=some x->zc6 P (n+1) T=some x
 | 0,_,_,h=>by cases h
 |n+1,T,x,h=>by rw[zc6]at h;rw[zc6];split at h;{exact h};{exact h};{exact h};{rename_i d e;split at h;{rename_i l b;rw[zHf (f:=_) (g:=_) ?_ b];{exact h};{intro f y a;split at a;{rename_i z c;cases a;rw[zy8 c]};{cases a}}};{cases h}};{cases h}
theorem zYI {T:TypeId}{a:List CTy}(h:zDt P T a=true):P.cellsOf T=a.length:=by obtain⟨i,z,b,c,_⟩:=zDu h;simp[Program.cellsOf,b,c]
theorem z8v {k:IntKind}{n:Int}(h:(Lit.int k n).wf=true):k.min<=n/\n<=k.max:=by simpa [Lit.wf] using h
theorem all_append {l m:List Nat}(h:(l++m).all (·<=reachBytes)=true):l.all (·<=reachBytes)=true/\m.all (·<=reachBytes)=true:=by simpa [List.all_append] using h
theorem zBu {H:Type}{e:TypeId}:∀{l:List (DataW H)},(DataW.weightsAll P e l).all (·<=reachBytes)=true->∀{i:Nat} {d:DataW H},l[i]?=some d->(d.weights P e).all (·<=reachBytes)=true
 |[],_,i,d,h=>by simp at h
 |x::l,a,i,d,h=>by simp only[DataW.weightsAll]at a;obtain⟨b,c⟩:=all_append a;cases i with|zero=>simp at h;subst h;exact b|succ i=>exact zBu c (by simpa using h)
def Opened (W:World)(d:List Value)(a:List CTy):Prop :=
 ∃cvs:List CV,cvs.map CV.ty=a/\d.length=cvs.length/\∀(j:Nat) (c:CV) (u:Value),cvs[j]?=some c->d[j]?=some u->Rep false W u c (λb=>b<W.heap.size)/\CVOk c
theorem Opened.append {W:World}{f g:List Value}{h i:List CTy}(r:Opened W f h)(s:Opened W g i):Opened W (f++g) (h++i):=by obtain⟨e,k,d,p⟩:=r;obtain⟨n,l,m,q⟩:=s;refine⟨e++n,by simp[k,l],by simp[d,m],λj c u a b=>?_⟩;by_cases t:j<e.length;{rw [qV t]at a;rw[qV (by omega)]at b;exact p j c u a b};{rw [qP (by omega)]at a;rw[qP (by omega)]at b;exact q _ c u a (by rw[<- d];exact b)}
theorem zKZ {b:Type}:∀(n:Nat) (p:Nat->b->Prop),(∀i,i<n->∃x,p i x)->∃l:List b,l.length=n/\∀i x,l[i]?=some x->p i x
 | 0,p,_=>⟨[],rfl,λi x h=>by simp at h⟩
 |n+1,p,h=>by obtain⟨x,e⟩:=h 0 (by omega);obtain⟨l,c,d⟩:=zKZ n (λi=>p (i+1)) (λi f=>h (i+1) (by omega));refine⟨x::l,by simp[c],λi y a=>?_⟩;cases i with|zero=>simp at a;subst a;exact e|succ i=>exact d i y (by simpa using a)
theorem cells?_get {W:World}{a:Addr}{n:Nat}{b:List Value}(h:W.cells? 0 a n=some b):b.length=n/\∀i,i<n->W.cell? (a.add i)=b[i]?:=by unfold World.cells? at h;rw[if_pos<|jW _]at h;refine⟨by simpa using mapM_some_length h,λi c=>mapM_some_get h i i (by simp[c])⟩
theorem addr_add (a:Addr)(h:a.spot=none)(n m:Nat):(a.add n).add m=⟨a.block,a.off+n+m,none⟩:=by obtain⟨b,o,s⟩:=a;simp only at h;subst h;rw[add_lit,add_lit]
theorem z2m (b6:∀T,T<zh4->zqe P T=true/\zzl P T=true){H:Type}{a3:TypeId×Value->H}{W:World} :
 ∀(F:Nat) (T:TypeId) (Z:List Value) (x:DataW H×List MemPlace),T<zh4->∀(b4:Bool) (b3:List CTy),zc6 P 4 T=some (b4,b3)->
  DataW.trod a3 P W 0 (λ_=>true) true F T Z=some x->(x.1.weights P T).all (·<=reachBytes)=true->Opened W Z b3:=by
 intro F
 induction F using Nat.strongRecOn with
 |_ F ih=>
  intro T Z x hT b4 b3 d hx hw;obtain⟨U,C⟩:=b6 T hT;have c1:=d;rw[zc6]at d;split at d;{rename_i k I;cases d;obtain⟨n,rfl,rfl,d9⟩:=DataW.trod_int I hx;refine⟨[.i k n],rfl,rfl,λj c u r q=>?_⟩;cases j with|zero=>simp at r q;subst r q;exact⟨.i k n _,.i k n<|z8v d9⟩|succ j=>simp at r};{rename_i I;cases d;obtain⟨b,rfl,rfl⟩:=DataW.trod_bool I hx;refine⟨[.b b],rfl,rfl,λj c u r q=>?_⟩;cases j with|zero=>simp at r q;subst r q;exact⟨.b b _,.b b⟩|succ j=>simp at r};{rename_i e I;split at d;{rename_i t b7;cases d;have a4:∀(v:Value) (l:List t.den),Rep false W v (.s t l) (λb=>b<W.heap.size)->CVOk (.s t l)->Opened W [v] [.s t]:=(by intro v l D S;refine⟨[.s t l],rfl,rfl,λj c u r q=>?_⟩;cases j with|zero=>simp at r q;subst r q;exact⟨D,S⟩|succ j=>simp at r);have K:CVOk (.s t []):=.s t [] (jW _) (λi x h=>by simp at h);rcases DataW.trod_slice I hx with⟨rfl,rfl⟩|⟨a,len,p,A,R,n,rfl,rfl,rfl,_,e8,e6,e7,a0,d5,_⟩;{exact a4 _ [] (.nil t _) K};{obtain⟨e9,Q⟩:=d5 rfl;by_cases b5:p=0;{subst b5;have d0:len=0:=(by omega);subst d0;exact a4 _ [] (.void t a _ rfl) K};{unfold zqe at U;rw[I]at U;simp only[b7,qE]at U;obtain⟨_,⟨a7,_⟩,V⟩:=U;unfold zzl at C;rw[I]at C;simp only[b7,qE,vN,Nat.ble_eq]at C;obtain⟨he,c6⟩:=C;have c7:P.cellsOf e=t.width:=(by rw[zYI a7,zgc]);have b2:0<t.width:=(by cases t<;>simp [Ty.width]);rw[c7]at a0 Q;have N:∀i,i<p->∃w,W.cells? 0 (a.add<|i*t.width) t.width=some w/\(i<len->∃y,DataW.trod a3 P W 0 (λ_=>true) true n e w=some y/\A[i]?=some y):=(by intro i X;by_cases b9:i<len;{have D:=a0 i b9;rw[qB (by omega)]at D;obtain⟨w,S,h3⟩:=u0.1 D;exact⟨w,S,λ_=>⟨_,h3,qB (by omega)⟩⟩};{have D:=Q (i-len) (by omega);rw[qB (by omega)]at D;obtain⟨w,S,h3⟩:=u0.1 D;have e1:len+(i-len)=i:=(by omega);rw[e1]at S;exact⟨w,S,λh=>absurd h b9⟩});have M:∀i j,i<p->j<t.width->∃v,W.cell? ((a.add<|i*t.width).add j)=some v:=(by intro i j X hj;obtain⟨w,D,_⟩:=N i X;obtain⟨S,h3⟩:=cells?_get D;exact⟨_,(h3 j hj).trans (qB (by omega))⟩);obtain⟨v0,G⟩:=M 0 0 (by omega) b2;have a5:(a.add<|0*t.width).add 0=a:=(by simp[Addr.add]);rw[a5]at G;obtain⟨m,et,fz,hb,E⟩:∃m et fz,W.heap[a.block]?=some (.cells m et fz)/\a.spot=none:=(by unfold World.cell? at G;split at G;{rename_i c et fz hb;split at G;{cases G};{rename_i hs;exact⟨c,et,fz,hb,by simpa using hs⟩}};{cases G});have L:∀i j,W.cell? ((a.add<|i*t.width).add j)=m[a.off+i*t.width+j]?:=(by intro i j;rw[addr_add a E,cell_of_block hb]);have a9:a.off+p*t.width<=m.size:=(by obtain⟨v,hv⟩:=M (p-1) (t.width-1) (by omega) (by omega);rw[L]at hv;have:=(qS.1 hv).1;have D:(p-1)*t.width+t.width=p*t.width:=(by rw[<- jM];congr 1;omega);omega);have c2:((DataW.slice (A.map (·.1))<|R.map (·.1)).weights P T).all (·<=reachBytes)=true:=hw;simp only[DataW.weights,I,k9,qE,qX,k7]at c2;obtain⟨c4,b1⟩:=c2;obtain⟨b1,_⟩:=all_append b1;have O:len<=big:=(by have D:(A.length+R.length)*1<=(A.length+R.length)*P.bytesOf e:=Nat.mul_le_mul_left _ c6;have:reachBytes<=big:=(by decide);omega);split at V;{rename_i J a2 d6;simp only[qX]at V;subst V;have c9:∀i,i<len->∃y:t.den,∀(j:Nat) (c:CV) (u:Value),(t.cells y)[j]?=some c->m[a.off+i*t.width+j]?=some u->Rep false W u c (λb=>b<W.heap.size)/\CVOk c:=(by intro i X;obtain⟨w,D,S⟩:=N i (by omega);obtain⟨y,h3,h4⟩:=S X;obtain⟨cvs,g1,g2,g3⟩:=ih n (by omega) e w y he J t.shape d6 h3 (zBu b1 (by rw[qN,h4];rfl));obtain⟨z,Y⟩:=zNd g1;refine⟨z,λj c u r q=>g3 j c u ?_ ?_⟩;{rw [<- zmr Y];exact r};{obtain⟨k1,k2⟩:=cells?_get D;have hj:j<t.width:=(by have:=(qA.1 r).1;rwa [zd3] at this);rw[<- k2 j hj,L];exact q});obtain⟨l,d1,c0⟩:=zKZ len _ c9;have b0:∀i j,i<l.length->j<t.width->m[a.off+i*t.width+j]?=some ((m[a.off+i*t.width+j]?).getD undef):=(by intro i j X hj;have D:(i+1)*t.width<=p*t.width:=qR _ (by omega);rw[jM]at D;have:a.off+i*t.width+j<m.size:=(by omega);simp[this]);have a1:Rep false W (.slice (some ⟨a.block,a.off,none⟩) l.length p) (.s t l) (λb=>b<W.heap.size):=(by refine .sl t l a.block a.off p m et fz (λi j=>(m[a.off+i*t.width+j]?).getD undef) (λ_ _ b=>b<W.heap.size) _ hb (λh=>by cases h) (by omega) (by omega) a9 ?_ (λi j x _ _ hx=>⟨hx,λh=>by cases h⟩) (λh=>by cases h) b0 ?_;{exact(qS.1 hb).1};{intro i z Y j c r;have X:i<l.length:=(qA.1 Y).1;have hj:j<t.width:=(by have:=(qA.1 r).1;rwa [zd3] at this);exact(c0 i z Y j c _ r<|b0 i j X hj).1});have ha:a=⟨a.block,a.off,none⟩:=(by obtain⟨b,o,s⟩:=a;simp only at E;subst E;rfl);rw[d1,<- ha]at a1;refine a4 _ l a1 (.s t l (by omega) λi z Y j c r=>?_);have X:i<l.length:=(qA.1 Y).1;have hj:j<t.width:=(by have:=(qA.1 r).1;rwa [zd3] at this);exact(c0 i z Y j c _ r<|b0 i j X hj).2};{cases V}}}};{cases d}}
  .rename_i fs I;split at d
   .rename_i l hl;cases d;obtain⟨xs,n,rfl,rfl,c8,e2,b8⟩:=DataW.trod_struct I hx;unfold zzl at C;rw[I,c1]at C;simp only at C;have e0:(DataW.weightsEach P (fs.toList.map (·.type))<|xs.map (·.1)).all (·<=reachBytes)=true:=by have:((DataW.agg<|xs.map (·.1)).weights P T).all (·<=reachBytes)=true:=hw;simpa only [DataW.weights,I] using this
    have e4:∀(gs:List Field) (ys:List (DataW H×List MemPlace)) (ls:List (List CTy)) (B:Nat),zyB P (P.cellsOf T) gs B=true->gs.length=ys.length->
     (∀(i:Nat) (f:Field),gs[i]?=some f->DataW.trod a3 P W 0 (λ_=>true) true n f.type ((Z.drop f.offset).take (P.cellsOf f.type))=ys[i]?)->
     zcS (λ(f:Field)=>match zc6 P 3 f.type with|some x=>some x.2|none=>none) gs=some ls->(DataW.weightsEach P (gs.map (·.type))<|ys.map (·.1)).all (·<=reachBytes)=true->
     B<=P.cellsOf T/\Opened W (Z.drop B) ls.flatten:=by
     intro gs
     induction gs with
     |nil=>intro ys ls B ho _ _ a8 _;cases a8;simp only[zyB,qM]at ho;subst ho;refine⟨qT _,[],rfl,by simp[c8],λj c u h=>by simp at h⟩
     |cons f gs e3=>intro ys ls B ho O hf a8 c3;obtain⟨b,e5,a6,c5,rfl⟩:=ziR a8;cases ys with|nil=>simp at O|cons y ys=>simp only[zyB,qE,qM,vN]at ho;obtain⟨⟨d2,d3⟩,d4⟩:=ho;split at a6;{rename_i z Y;cases a6;obtain⟨J,a2⟩:=z;have hy:=hf 0 f rfl;simp only[qI]at hy;simp only[jH,DataW.weightsEach]at c3;obtain⟨d7,d8⟩:=all_append c3;have h4:=zy8 Y;obtain⟨g1,g2⟩:=e3 ys e5 (B+P.cellsOf f.type) d4 (by simpa using O) (λi g hg=>by simpa using hf (i+1) g (by simpa using hg)) c5 d8;have o1:=ih n (by omega) f.type _ y d3 J a2 h4 hy d7;rw[d2] at o1;refine⟨by omega,?_⟩;have e1:Z.drop B=(Z.drop B).take (P.cellsOf f.type)++Z.drop (B+P.cellsOf f.type):=(by rw[<- List.drop_drop,List.take_append_drop]);rw[e1];exact Opened.append o1 g2};{cases a6}
    have:=(e4 fs.toList xs l 0 C (by simp[e2]) (λi f hf=>b8 i f (by simpa using hf)) hl e0).2;simpa using this
   {cases d}
  {cases d}
end
theorem z0c:(List.range zh4).all (zqe Tryz.prog)=true:=by kernel_rfl
theorem zbbX:zEu.all (λT=>!Nat.blt T zh4||zUH Tryz.prog T)=true:=by kernel_rfl
theorem z6z:Tryz.prog.funcs.toList.all (λa=>!(a.name == "runtime.NumGoroutine"))=true:=by kernel_rfl
theorem zbas (T:TypeId)(a:zEu.contains T=true)(d:T<zh4):zUH Tryz.prog T=true:=by have c:T∈zEu:=(by revert a;generalize zEu=l;intro a;simpa using a);have e:Nat.blt T zh4=true:=(by rw[vN];exact d);have b:=qL.1 zbbX T c;rw[e,jV,Bool.false_or]at b;exact b
theorem zbbV (a:FuncId->Option (List AV->Option (Bool×List AV)))(b:FuncId->Option (CV->Int->Option (Bool×CV×Int)))(c:FuncId->Option (List Bool×(List CV->List AV->Option (Bool×List CV×List AV))))(d:FuncId->Option (List Bool×Option (Nat×Nat×List (List Nat))×(List AV->Option (Bool×List AV)))):CfgOk (zoA a b c d):=by have e:(zoA a b c d).P=Tryz.prog:=(by simp only[zoA]);have g:∀T,(zoA a b c d).sty T=below T (zxi Tryz.prog T):=λ_=>(by simp only[zoA]);have i:∀T,(zoA a b c d).cty T=below T (zc6 Tryz.prog 4 T):=λ_=>(by simp only[zoA]);have j:∀T f,(zoA a b c d).fof T f=zvg Tryz.prog T f:=λ_ _=>(by simp only[zoA]);have k:∀T,(zoA a b c d).eqt T=zEu.contains T:=λ_=>(by simp only[zoA]);refine z6x e g i j z0c ?_;intro T h l;rw[k]at h;exact zbas T h l
theorem zbbf (a:FuncId->Option (List AV->Option (Bool×List AV)))(b:FuncId->Option (CV->Int->Option (Bool×CV×Int)))(c:FuncId->Option (List Bool×(List CV->List AV->Option (Bool×List CV×List AV))))(d:FuncId->Option (List Bool×Option (Nat×Nat×List (List Nat))×(List AV->Option (Bool×List AV)))):NameOk (zoA a b c d):=by
 refine⟨λf e g=>?_⟩;have:=qL.1 z6z e (by
  have:Tryz.prog.funcs[f]?=some e:=g;rw[<- k5] at this;exact qJ this)
 simpa using this
theorem zin {b:FuncId->Option (List AV->Option (Bool×List AV))}{c:FuncId->Option (CV->Int->Option (Bool×CV×Int))}{d:FuncId->Option (List Bool×(List CV->List AV->Option (Bool×List CV×List AV)))}{e:FuncId->Option (List Bool×Option (Nat×Nat×List (List Nat))×(List AV->Option (Bool×List AV)))}(h:∀f a,b f=some a->Holds Tryz.prog f a)(p:∀f a,c f=some a->zKQ Tryz.prog f a)(q:∀f own a,d f=some (own,a)->zec Tryz.prog f own a)(m:∀f own g a,e f=some (own,g,a)->zfB Tryz.prog f own g a):EngOk (zoA b c d e):=by have i:=zbbV b c d e;have k:CtrOk (zoA b c d e):=⟨h,λf g a n=>m f [] g a n⟩;have j:=z7n i ⟨p⟩ ⟨q⟩ ⟨m⟩;have l:=zbbf b c d e;exact⟨i,k,j,l,zbaP i k j l⟩
section
open Go Go.ChangeShapes Go.WideShapes Go.ChangeAt
def AV.sh:AV->Bool×List CTy
 |.one c=>(false,[c.ty])
 |.agg l=>(true,l.map CV.ty)
section
variable {P:Program}
theorem zRj {T:TypeId}{a:Bool}{b:List CTy}(h:zc6 P 4 T=some (a,b)) :
 (a=true/\∃c,P.underlying T=some (.struct c))\/(a=false/\b.length=1/\((∃k,P.underlying T=some (.int k))\/P.underlying T=some .bool\/∃e,P.underlying T=some (.slice e))):=by
 rw[zc6]at h;split at h
 .rename_i k hu;cases h;exact .inr ⟨rfl,rfl,.inl ⟨k,hu⟩⟩
 .rename_i hu;cases h;exact .inr ⟨rfl,rfl,.inr<|.inl hu⟩
 .rename_i e hu;split at h
  .cases h;exact .inr ⟨rfl,rfl,.inr<|.inr ⟨e,hu⟩⟩
  .cases h
 .rename_i c hu;split at h
  .cases h;exact .inl ⟨rfl,c,hu⟩
  .cases h
 .cases h
theorem z5c {W:World}{T:TypeId}{v:Value}{a:Nat}(b:(∃k,P.underlying T=some (.int k))\/P.underlying T=some .bool\/∃e,P.underlying T=some (.slice e))(h:Value.okWide P W .any a T v):v.cells = #[v]:=by
 cases v with
 |agg c=>exfalso;rcases b with⟨k,b⟩|b|⟨e,b⟩<;>simp [Value.okWide,b,Cell.okWide,Cell.ok]at h
 |_=>rfl
theorem zSt (k:∀T,T<zh4->zqe P T=true/\zzl P T=true){H:Type}{K:TypeId×Value->H}{W:World}{u:Nat} :
 ∀(r:List TypeId) (z:List Value) (B:List (DataW H)) (p:List MemPlace),DataW.TrodAll K P W 0 (fun _=>true) true r z B p->
  (∀(j:Nat) (t:TypeId) (v:Value),r[j]?=some t->z[j]?=some v->Value.okWide P W .any u t v)->(∀t∈r,t<zh4/\(zc6 P 4 t).isSome=true)->
  (DataW.weightsEach P r B).all (·<=reachBytes)=true->
  ∃(f:List AV) (D:List Value),f.map (fun a=>some a.sh)=r.map (zc6 P 4)/\zei false W (zF f) D (fun _ b=>b<W.heap.size)/\zch f D=z/\∀c∈zF f,CVOk c
 |[],z,B,p,h,_,_,_=>by obtain⟨rfl,rfl,rfl⟩:=trodAll_nil h;exact⟨[],[],rfl,⟨rfl,fun i c x h=>by simp[zF]at h⟩,rfl,fun c h=>by simp[zF]at h⟩
 |T::r,z,B,p,h,hv,ht,hw=>by
  obtain⟨v,U,d,I,p1,q,rfl,rfl,rfl,L,M⟩:=trodAll_cons h;simp only[DataW.weightsEach]at hw;obtain⟨Q,R⟩:=all_append hw;obtain⟨f,D,X,g2,Y,g4⟩:=zSt k r U I q M (fun j t v L M=>hv (j+1) t v (by simpa using L) (by simpa using M)) (fun t h=>ht t (by simp[h])) R;obtain⟨hT,m⟩:=ht T (by simp);obtain⟨⟨G,S⟩,g⟩:=uW.1 m;obtain⟨w,hf⟩:=L;obtain⟨cvs,J,C,V⟩:=z2m k w T _ _ hT G S g hf Q;have n:=hv 0 T v rfl rfl;have s:∀a:AV,a.cvs=cvs->zei false W (zF (a::f)) (v.cells.toList++D) (fun _ b=>b<W.heap.size)/\∀c∈zF (a::f),CVOk c:=(by intro a ha;have e:zF (a::f)=cvs++zF f:=(by simp[zF,ha]);rw[e];refine⟨zei.append ⟨C,fun i c x l hx=>(V i c x l hx).1⟩ g2,fun c l=>?_⟩;rcases jP.1 l with l|l;{obtain⟨i,Z⟩:=qQ.1 l;have N:i<v.cells.toList.length:=(by rw[C];exact(qA.1 Z).1);exact(V i c _ Z (qB N)).2};{exact g4 c l});rcases zRj g with⟨rfl,fs,O⟩|⟨rfl,y,O⟩;{obtain⟨A,rfl,_⟩:∃A,v = .agg A/\True:=(by simp only[Value.okWide,O]at n;obtain⟨A,h,_⟩:=n;exact⟨A,h,trivial⟩);obtain⟨E,F⟩:=s (.agg cvs) rfl;refine⟨.agg cvs::f,_,?_,E,?_,F⟩;{rw [jH,jH,X,g];simp only[AV.sh,J]};{simp only [Value.cells] at C;simp only[zch,Value.cells,<- C,kR,uF,Y,jQ]}}
  .have hcells:=z5c O n;rw[<- J]at y;obtain ⟨c,rfl⟩:∃c,cvs=[c]:=by
    match cvs,y with
    |[c],_=>exact⟨c,rfl⟩
   obtain⟨E,F⟩:=s (.one c) rfl;refine⟨.one c::f,_,?_,E,?_,F⟩;{rw [jH,jH,X,g,<- J];rfl};{rw [hcells];simp only[zch];simp[Y]}
theorem zBt (r:laidOutB P=true){H:Type}{b:TypeId×Value->H}{W m:World}(n:Go.RowKit.Below W.heap.size W m){u:Nat->Bool}:∀(g:List TypeId) (j:List Value) (i:List (DataW H)) (f:List MemPlace),(∀t∈g,P.readableRec t=true/\t<P.types.size)->
 DataW.TrodAll b P W 0 (λ_=>true) true g j i f->(∀x∈f,x.block<W.heap.size/\u x.block=true)->DataW.TrodAll b P m 0 u true g j i f
 |[],j,i,f,_,h,_=>by obtain⟨rfl,rfl,rfl⟩:=trodAll_nil h;exact rfl
 |T::g,j,i,f,s,h,a=>by
  obtain⟨v,l,d,k,p,q,rfl,rfl,rfl,w,y⟩:=trodAll_cons h;obtain⟨z,c⟩:=s T (by simp)
  exact⟨p,q,WideElems.Trod_stays r z c w (λx e=>n.same (a x<|j9 _ e).1) λx e=>(a x<|j9 _ e).2,
   zBt r n g l k q (λt h=>s t (by simp[h])) y λx e=>a x (kO _ e),rfl⟩
theorem zTp {W b:World}(h:Grown W b)(a:MemPlace->Prop):W.keptBut b a:=by
 refine⟨h.os,h.output,λi c=>?_⟩;rw[h.keep i c];cases d:W.heap[i]? with
 |none=>rfl
 |some o=>cases o<;>first|rfl|exact⟨rfl,rfl,rfl,λ_ _=>rfl⟩|exact .inr ⟨rfl,rfl⟩
def z5m (P:Program)(a:List TypeId):Bool:=a.all λT=>Nat.blt T zh4&&(zc6 P 4 T).isSome&&P.readableRec T&&Nat.blt T P.types.size
def z8z (P:Program)(d:List TypeId)(b:List AV):Prop:=b.map (λa=>some a.sh)=d.map (zc6 P 4)/\∀c∈zF b,CVOk c
def zUW (P:Program)(f:FuncId)(d:List TypeId):Prop :=
 ∃c,Holds P f c/\∀a,z8z P d a->c a=some (true,[.one<|.b true])
theorem zMz (L:∀T,T<zh4->zqe P T=true/\zzl P T=true)(a0:laidOutB P=true){s:ChangeSpec}{f:FuncId}{u:Func}{B:TypeId}(k:s.vars=[])(F:∀(H:Type) (i:List (DataW H)),i.length=u.params.toList.length->s.fn H i={results:=[.lit<|.bool true],args:=i})(a:z5m P u.params.toList=true)(O:u.resultTypes = #[B])(hB:P.underlying B=some .bool)(hl:zUW P f u.params.toList){H:Type}{enc:TypeId×Value->H}{apart D l:Bool}(W:World)(A:Nat)(g:Array Value)(i gs:List (DataW H))(w:List MemPlace)(U:∀(j:Nat) t v,u.params[j]?=some t->g[j]?=some v->Value.okWide P W .any A t v)(hW:DataW.Whole enc P u.params.toList s.vars apart W g.toList i gs w)(R:(DataW.weightsEach P (u.params.toList++s.plain.varTypes P)<|i++gs).all (·<=reachBytes)=true) :
 Calls P f g W λe W'=>∃v,e = .returned v/\s.post enc P u apart D l false W g v W':=by
 have J:=hW;obtain⟨p,q,I,hV,rfl,a4,a5⟩:=hW;rw[k]at hV;obtain⟨rfl,rfl⟩:=trodVars_none hV;have a2:s.plain.varTypes P=[]:=by unfold DataSpec.varTypes;show s.vars.filterMap _=[];rw[k];rfl
 rw[a2,jG,jG]at R;unfold z5m at a;simp only[qL,qE,vN]at a;have G:∀(j:Nat) (t:TypeId) (v:Value),u.params.toList[j]?=some t->g.toList[j]?=some v->Value.okWide P W .any A t v:=by intro j t v h1 X;rw[k5]at h1 X;exact U j t v h1 X
 obtain⟨C,xs,g1,g2,g3,g4⟩:=zSt L u.params.toList g.toList i p I G (λt S=>⟨(a t S).1.1.1,(a t S).1.1.2⟩) R;obtain⟨a6,hH,Q⟩:=hl;have m:=hH.2 W C xs _ g2 (Q C ⟨g1,g4⟩);have E:(zch C xs).toArray=g:=by rw[g3,jQ]
 rw[E]at m;have n:∀(V:List TypeId) (vs:List Value) (i:List (DataW H)) (ps:List MemPlace),DataW.TrodAll enc P W 0 (λ_=>true) true V vs i ps->i.length=V.length:=by intro V;induction V with|nil=>intro vs i ps h;obtain⟨_,rfl,_⟩:=trodAll_nil h;rfl|cons t V ih=>intro vs i ps h;obtain⟨v,a3,d,Z,p,q,rfl,rfl,rfl,_,X⟩:=trodAll_cons h;simp[ih a3 Z q X]
 refine m.mono ?_;intro e W1 he;cases e with
 |panicked c=>exact he.elim
 |outgrown=>exact he.elim
 |returned v=>
  obtain⟨hg,ys,K,N,hv,_⟩:=he;have a1:v = .bool true:=by
   match ys,N with
   |[],h=>exact absurd h.1 (by simp[zF,AV.cvs])
   |[y],h=>have:=(h.2 0 (.b true) y rfl rfl).bool_inv;rw[hv,this];rfl
   |y::z::r,h=>exact absurd h.1 (by simp[zF,AV.cvs])
  subst a1;refine⟨_,rfl,i,[],p++[],[],p,[],J,?_,?_,?_,zTp hg _,λh=>by cases h⟩;{rw [jG,F H i<|n _ _ _ _ I,O];exact⟨[],[],⟨1,by simp[DataW.trod,hB,Value.cells]⟩,rfl,rfl⟩};{rw [jG,F H i<|n _ _ _ _ I];have hb:Go.RowKit.Below W.heap.size W W1:=⟨hg.os,hg.tape,hg.output,hg.size,hg.keep⟩;have M:∀x∈p,x.block<W.heap.size:=λx Y=>(by simpa using J.lt x (j9 _ Y));exact zBt a0 hb _ _ _ _ (λt S=>⟨(a t S).1.2,(a t S).2⟩) I (λx Y=>⟨M x Y,by simpa using M x Y⟩)};{rw [k,jG,F H i<|n _ _ _ _ I];rfl}
end
theorem zbbY:(List.range zh4).all (zzl Tryz.prog)=true:=by kernel_rfl
theorem z7s:laidOutB Tryz.prog=true:=by kernel_rfl
theorem own:ownKnob Tryz.prog.godebug=none:=by kernel_rfl
theorem z6y (T:TypeId)(a:T<zh4):zqe Tryz.prog T=true/\zzl Tryz.prog T=true :=
 ⟨qL.1 z0c T<|kP.2 a,qL.1 zbbY T<|kP.2 a⟩
abbrev Good (b:List TypeId)(a:List AV):Prop:=z8z Tryz.prog b a
abbrev zZ1 (f:FuncId)(a:List TypeId):Prop:=zUW Tryz.prog f a
theorem zYF {d:FuncId->Option (List AV->Option (Bool×List AV))}{l:FuncId->Option (CV->Int->Option (Bool×CV×Int))}{m:FuncId->Option (List Bool×(List CV->List AV->Option (Bool×List CV×List AV)))}{n:FuncId->Option (List Bool×Option (Nat×Nat×List (List Nat))×(List AV->Option (Bool×List AV)))}(e:∀f a,d f=some a->Holds Tryz.prog f a)(g:∀f a,l f=some a->zKQ Tryz.prog f a)(i:∀f own a,m f=some (own,a)->zec Tryz.prog f own a)(j:∀f own k a,n f=some (own,k,a)->zfB Tryz.prog f own k a){f:FuncId}{r:List TypeId}(s:FnOk Tryz.prog f)(h:∀c,Good r c->∃q N D,evalFn (zoA d l m n) q N D f c=some [.one<|.b true]):zZ1 f r:=by refine⟨λc=>open Classical in if Good r c then some (true,[.one<|.b true]) else none,zAU (zin e g i j) s ?_,λc hg=>by simp[hg]⟩;intro c t _ p;split at p;{rename_i hg;cases p;exact h c hg};{cases p}
end
def St.blkEnd (e:St):List Bool->List At->List MV->Option (List CV×List Nat)
 |[],[],[]=>some ([],[])
 |own::ms,a::r,h::hs=>
  match St.blkEnd e ms r hs with
  |none=>none
  |some (d,c) =>
   match a with
   |.i k n=>some (.i k n::d,c)
   |.b x=>some (.b x::d,c)
   |.sl q [] =>
    match e.root q with
    |some R=>
     match own with
     |true=>if R.own && !c.contains q then some (.s R.t R.l::d,q::c) else none
     |false=>
      match h with
      |.v (.at<|.sl f [])=>if q==f then some (.s R.t R.l::d,c) else none
      |_=>none
    |none=>none
   |_=>none
 |_,_,_=>none
def zf4:List Bool->List CV->Nat->List (Nat×Root)
 |own::ms,.s t l::cs,id=>(id,⟨t,l,own,none⟩)::zf4 ms cs (id+1)
 |_::ms,_::cs,id=>zf4 ms cs (id+1)
 |_,_,_=>[]
def z0f (own:List Bool)(c:List CV)(b:List AV):St :=
 {tm:=.v (.at<|.lp 0 0)::(ziw c 0).map λa=>.v (.at a),lo:=[(0,ziw c 0)],ro:=zf4 own c 0++zdD zvB b c.length,stk:=[],nid:=c.length+(b.flatMap AV.cvs).length+1,ep:=0}
def zst (C:Cfg)(tms:FuncId->Nat->Option Tmpl)(N D:Nat)(f:FuncId)(own:List Bool)(d:List CV)(a:List AV):Option Ans :=
 cond (zjY f && !(zrP (.agg d::a))) none
 (zwq C tms N (zsZ C tms N D) f (.v (.at<|.lp 0 0)::(zdA a d.length).map .v) (z0f own d a) λh b=>
  match b.tm with
  |.v (.at<|.lp l 0)::hs=>
   match zx b.lo l with
   |some cells=>
    match b.blkEnd own cells hs with
    |some (e,g) =>
     match zsk (b.thaw<|zjY f) h g with
     |some c=>some (.agg e::c)
     |none=>none
    |none=>none
   |none=>none
  |_=>none)
section
variable {C:Cfg} {w0 w w1:World} {S0:zbl} {U:Nat->Prop} {st st1:St} {E E1:Env} {ts:Array Value} {sv:List (Array Value)}
structure BlkEnd (st:St) (own:List Bool) (cells:List At) (hs:List MV) (cs:List CV) (ks:List Nat):Prop where
 len:cs.length=cells.length
 hlen:hs.length=cells.length
 ownk:∀r∈ks,∃j,zbo own j/\cells[j]?=some (.sl r [])
 get:∀(j:Nat) (a:At),cells[j]?=some a->(∃k n,a = .i k n/\cs[j]?=some (.i k n))\/(∃x,a = .b x/\cs[j]?=some (.b x))\/
  ∃r R,a = .sl r []/\st.root r=some R/\cs[j]?=some (.s R.t R.l)/\((zbo own j/\R.own=true/\r∈ks)\/(¬ zbo own j/\hs[j]?=some (.v (.at (.sl r [])))))
 inj:∀(i j r:Nat),zbo own i->zbo own j->cells[i]?=some (.sl r [])->cells[j]?=some (.sl r [])->i=j
theorem zRR:∀(own:List Bool) (cells:List At) (A:List MV) (E:List CV) (F:List Nat),st.blkEnd own cells A=some (E,F)->BlkEnd st own cells A E F
 |[],[],[],E,F,h=>by cases h;exact⟨rfl,rfl,fun r h=>by simp at h,fun j a h=>by simp at h,fun i j r h=>by simp[zbo]at h⟩
 |o::ms,a::r,O::A,E,F,h=>by
  simp only[St.blkEnd]at h;split at h;{cases h}
  .rename_i cs0 ks0 h0;have f:=zRR ms r A cs0 ks0 h0;have p:∀(z:List Nat) (c:CV),(∀x∈ks0,x∈z)->∀(j:Nat) (b:At),r[j]?=some b->(∃k n,b = .i k n/\(c :: cs0)[j+1]?=some (.i k n))\/(∃x,b = .b x/\(c :: cs0)[j+1]?=some (.b x)) \/
    ∃q R,b = .sl q []/\st.root q=some R/\(c::cs0)[j+1]?=some (.s R.t R.l)/\((zbo (o::ms) (j+1)/\R.own=true/\q∈z)\/(¬ zbo (o::ms) (j+1)/\(O::A)[j+1]?=some (.v (.at (.sl q []))))):=by
    intro z c I j b g;rcases f.get j b g with h|h|⟨q,R,G,L,M,H⟩
    .exact .inl (by simpa using h)
    .exact .inr (.inl (by simpa using h))
    .refine .inr (.inr ⟨q,R,G,L,by simpa using M,?_⟩)
     rcases H with⟨d,e,Q⟩|⟨d,e⟩
     .exact .inl ⟨by simpa [zbo] using d,e,I q Q⟩
     .exact .inr ⟨by simpa [zbo] using d,by simpa using e⟩
   have flat:∀(c:CV),(∀q,a≠.sl q [])->((∃k n,a = .i k n/\c = .i k n)\/(∃x,a = .b x/\c = .b x))->BlkEnd st (o::ms) (a::r) (O::A) (c::cs0) ks0:=by
    intro c B S;refine⟨by simp[f.len],by simp[f.hlen],fun q K=>?_,fun j b g=>?_,fun i j q u y d e=>?_⟩;{obtain⟨j,d,e⟩:=f.ownk q K;exact⟨j+1,by simpa [zbo] using d,by simpa using e⟩}
    .cases j with
     |zero=>simp only[qI,qC]at g;subst g;rcases S with⟨k,n,d,e⟩|⟨x,d,e⟩;{exact .inl ⟨k,n,d,by simp[e]⟩};{exact .inr (.inl ⟨x,d,by simp[e]⟩)}
     |succ j=>exact p ks0 c (fun _ h=>h) j b (by simpa using g)
    {cases i with|zero=>simp only[qI,qC]at d;exact absurd d (B q)|succ i=>(cases j with|zero=>simp only[qI,qC]at e;exact absurd e (B q)|succ j=>have:=f.inj i j q (by simpa [zbo] using u) (by simpa [zbo] using y) (by simpa using d) (by simpa using e);omega)}
   split at h;{rename_i k n;cases h;exact flat _ (fun q h=>by cases h) (.inl ⟨k,n,rfl,rfl⟩)};{rename_i x;cases h;exact flat _ (fun q h=>by cases h) (.inr ⟨x,rfl,rfl⟩)};{rename_i q;split at h;{rename_i R N;split at h;{split at h;{rename_i m;simp only[qE,jF,jJ,decide_eq_false_iff_not]at m;obtain⟨C,J⟩:=m;cases h;refine⟨by simp[f.len],by simp[f.hlen],fun x w=>?_,fun j b g=>?_,fun i j x u y d e=>?_⟩;{rcases qG.1 w with rfl|w;{exact⟨0,rfl,rfl⟩};{obtain⟨j,d,e⟩:=f.ownk x w;exact⟨j+1,by simpa [zbo] using d,by simpa using e⟩}};{cases j with|zero=>simp only[qI,qC]at g;subst g;exact .inr (.inr ⟨q,R,rfl,N,by simp,.inl ⟨rfl,C,jC⟩⟩)|succ j=>exact p _ _ (fun x w=>qW _ w) j b (by simpa using g)};{have D:∀(i:Nat),zbo ms i->r[i]?=some (.sl q [])->False:=(by intro i u K;rcases f.get i _ K with⟨_,_,h,_⟩|⟨_,h,_⟩|⟨V,T,G,L,M,H⟩;{cases h};{cases h};{cases G;rcases H with⟨_,_,h⟩|⟨h,_⟩;{exact J h};{exact h u}});cases i with|zero=>(cases j with|zero=>rfl|succ j=>simp only[qI,qC,At.sl.injEq,and_true]at d;subst d;exact(D j (by simpa [zbo] using y) (by simpa using e)).elim)|succ i=>(cases j with|zero=>simp only[qI,qC,At.sl.injEq,and_true]at e;subst e;exact(D i (by simpa [zbo] using u) (by simpa using d)).elim|succ j=>have:=f.inj i j x (by simpa [zbo] using u) (by simpa [zbo] using y) (by simpa using d) (by simpa using e);omega)}};{cases h}};{split at h;{rename_i U;split at h;{rename_i P;simp only[qM]at P;subst P;cases h;refine⟨by simp[f.len],by simp[f.hlen],fun x w=>?_,fun j b g=>?_,fun i j x u y d e=>?_⟩;{obtain⟨j,d,e⟩:=f.ownk x w;exact⟨j+1,by simpa [zbo] using d,by simpa using e⟩};{cases j with|zero=>simp only[qI,qC]at g;subst g;exact .inr (.inr ⟨q,R,rfl,N,by simp,.inr ⟨by simp[zbo],rfl⟩⟩)|succ j=>exact p _ _ (fun x w=>w) j b (by simpa using g)};{cases i with|zero=>simp[zbo]at u|succ i=>(cases j with|zero=>simp[zbo]at y|succ j=>have:=f.inj i j x (by simpa [zbo] using u) (by simpa [zbo] using y) (by simpa using d) (by simpa using e);omega)}};{cases h}};{cases h}}};{cases h}};{cases h}
 |[],_::_,_,_,_,h=>by simp[St.blkEnd]at h
 |[],[],_::_,_,_,h=>by simp[St.blkEnd]at h
 |_::_,[],_,_,_,h=>by simp[St.blkEnd]at h
 |_::_,_::_,[],_,_,h=>by simp[St.blkEnd]at h
theorem z6r (a:Value)(b:Array Value):(#[a]++b)[0]?=some a:=by rw[j7 (by simp)];rfl
theorem z6s (a:Value)(b:Array Value)(i:Nat):(#[a]++b)[i+1]?=b[i]?:=by rw[kJ (by simp)];simp
theorem zm0:∀(own:List Bool) (a:List CV) (id n:Nat) (R:Root),zx (zf4 own a id) n=some R->id<=n/\∃t l,a[n-id]?=some (.s t l)/\R.t=t/\HEq R.l l/\own[n-id]?=some R.own/\R=⟨t,l,R.own,none⟩
 |[],_,_,_,_,h=>by cases h
 |o::ms,[],_,_,_,h=>by cases h
 |o::ms,c::a,id,n,R,h=>by have d:zx (zf4 ms a<|id+1) n=some R->id<=n/\∃t l,(c::a)[n-id]?=some (.s t l)/\R.t=t/\HEq R.l l/\(o::ms)[n-id]?=some R.own/\R=⟨t,l,R.own,none⟩:=λh=>(by obtain⟨r,t,l,g,j,m,p,q⟩:=zm0 ms a (id+1) n R h;have e:n-id=(n-(id+1))+1:=(by omega);exact⟨by omega,t,l,by rw[e,jR];exact g,j,m,by rw[e,jR];exact p,q⟩);cases c with|i k x=>exact d h|b x=>exact d h|s t l=>simp only[zf4,zx]at h;split at h;{rename_i f;simp only[qM]at f;subst f;cases h;exact⟨qT _,t,l,by simp,rfl,HEq.rfl,by simp,rfl⟩};{exact d h}
theorem zjd (hO:EngOk C){f:FuncId}{own:List Bool}{e8:List CV->List AV->Option (Bool×List CV×List AV)}(hf:FnOk C.P f)(h:∀(d:List CV) (z:List AV) (Z:List CV) (rs:List AV),own.length=d.length->(∃(w:World) (xs:Nat->Value) (K:Nat->zbl),∀(j:Nat) (c:CV),(d++zF z)[j]?=some c->Rep false w (xs j) c (K j))->e8 d z=some (true,Z,rs)->Z.length=d.length/\∃tms N D,zst C tms N D f own d z=some (.agg Z::rs)):zec C.P f own e8:=by
 refine⟨hf,λw blk B e d K z xs Ka Z rs hb e5 g7 a1 a7 f1 a4 c7 e0=>?_⟩;obtain⟨d4,tms,N,D,a3⟩:=h d z Z rs g7 ⟨w,λj=>if j<d.length then (B[j]?).getD undef else (xs[j-d.length]?).getD undef,λj=>if j<d.length then K j else Ka,λj c L=>by
  by_cases T:j<d.length
  .rw [qV T]at L;have M:=kA (show j<B.size by omega)
   simp only[if_pos T,M,j6];exact(a1 j c _ L M).ro
  .rw [qP (by omega)]at L
   have c9:=(qA.1 L).1;have M:=qB (show j-d.length<xs.length by rw[a4.1];exact c9)
   simp only[if_neg T,M,j6];exact a4.2 _ c _ L M⟩ e0
 unfold zst at a3;cases b9:zjY f && !(zrP (.agg d::z)) with
 |true=>rw[b9]at a3;cases a3
 |false=>
 rw[b9,cond_false]at a3;have hblt:blk<w.heap.size:=(qS.1 hb).1;generalize a9:z0f own d z=st at a3;have g9:st.ro=zf4 own d 0++zdD zvB z d.length:=(by rw[<- a9];rfl);have d6:st.lo=[(0,ziw d 0)]:=(by rw[<- a9];rfl);have c3:st.stk=[]:=(by rw[<- a9];rfl);have hnid:st.nid=d.length+(zF z).length+1:=(by rw[<- a9];rfl);have b0:st.tm = .v (.at<|.lp 0 0)::(ziw d 0).map λa=>.v (.at a):=(by rw[<- a9];rfl);have O:∀r R,zx st.ro r=some R->R.ep=none/\((r<d.length/\own[r]?=some R.own/\d[r]?=some (.s R.t R.l))\/(d.length<=r/\r<d.length+(zF z).length/\R.own=false/\(zF z)[r-d.length]?=some (.s R.t R.l))):=(by intro r R I;rw[g9,zb3]at I;split at I;{rename_i Q hQ;cases I;obtain⟨_,t,l,q,_,_,h5,h6⟩:=zm0 own d 0 r R hQ;rw[h6]at h5 ⊢;simp only[vQ]at q h5;exact⟨rfl,.inl ⟨(qA.1 q).1,h5,q⟩⟩};{obtain⟨g,t,l,q,rfl⟩:=zgC zvB z d.length r R I;have:=(qA.1 q).1;exact⟨rfl,.inr ⟨g,by omega,rfl,q⟩⟩});have H:∀r R,st.root r=some R->(r<d.length/\own[r]?=some R.own/\d[r]?=some (.s R.t R.l))\/(d.length<=r/\R.own=false/\(zF z)[r-d.length]?=some (.s R.t R.l)):=(by intro r R I;rcases (O r R (zbJ I).1).2 with h|⟨g,_,q,G⟩;{exact .inl h};{exact .inr ⟨g,q,G⟩});let E:Env:={ρ:=λn=>if n<d.length then (B[n]?).getD undef else (xs[n-d.length]?).getD undef,φ:=λn=>if n<d.length then K n else Ka,β:=λ_=>blk,κ:=w}
 have a0:∀n,n<d.length->E.ρ n=(B[n]?).getD undef/\E.φ n=K n:=λn hn=>(by simp only[E,if_pos hn,and_self]);have a2:∀n,d.length<=n->E.ρ n=(xs[n-d.length]?).getD undef/\E.φ n=Ka:=λn hn=>(by simp only[E,if_neg (show ¬ n<d.length by omega),and_self]);have e4:∀(j:Nat) (a:At) (u:Value),(ziw d 0)[j]?=some a->B[j]?=some u->u.oneCell'=true/\VA w st E a u:=(by intro j a u A M;rw[zvA,j8]at A;cases L:d[j]? with|none=>rw[L]at A;cases A|some c=>rw[L]at A;cases A;have hr:=a1 j c u L M;have T:j<d.length:=(qA.1 L).1;refine⟨hr.one,?_⟩;(cases c with|i k n=>exact hr.int_inv|b x=>exact hr.bool_inv|s t l=>obtain⟨⟨a,c5,hv,_⟩,_⟩:=hr.len;refine⟨⟨a,_,c5,hv⟩,λR _=>?_⟩;rw[(a0 j T).1,M];rfl));have b8:∀l cells,zx st.lo l=some cells->l=0/\cells=ziw d 0:=(by intro l cells h;rw[d6]at h;simp only[zx]at h;split at h;{rename_i he;simp only[qM]at he;cases h;exact⟨he.symm,rfl⟩};{cases h});have hp:VA w st E (.lp 0 0) (.pointer<|some ⟨blk,0,none⟩):=⟨⟨_,rfl⟩,λ_ _=>rfl⟩;have c0:∀a∈ziw d 0,∀m∈a.ids,m<d.length:=(by intro a A m J;obtain⟨j,T⟩:=qQ.1 A;rw[zvA,j8]at T;cases L:d[j]? with|none=>rw[L]at T;cases T|some c=>rw[L]at T;cases T;have:=zzS J;have:=(qA.1 L).1;omega);let S0:zbl:=λb=>b=blk\/(∃j,j<d.length/\zbo own j/\K j b)\/(zjY f=false/\b=w.heap.size)
 have hS:Sim w S0 (λn=>n<st.nid) st E (#[.pointer<|some ⟨blk,0,none⟩]++B) [] w:=by
  refine⟨⟨rfl,rfl,rfl,qT _,λ_ _ _=>rfl,λr R I=>?_,λr R I x p=>?_,λr R I U=>?_,λhz r R I U he f7=>?_,λr R r' R' I U f2 he X x p=>?_,λl cells hl=>?_,λl l' c1 c2 g q _=>?_,λl cells r R hl I=>?_,λr R e I he=>?_,rfl⟩,⟨λn R hn=>?_,λn cells hn=>?_,λm J n hn=>?_,λf hf=>?_⟩,⟨?_,λi m v J hv=>?_⟩,?_⟩;{rcases H r R I with⟨g,q,G⟩|⟨g,q,G⟩;{have M:=kA (show r<B.size by omega);rw[(a0 r g).1,(a0 r g).2,M];have:=a1 r _ _ G M;rw[q] at this;exact this};{have c9:=(qA.1 G).1;have M:=qB (show r-d.length<xs.length by rw[a4.1];exact c9);rw[(a2 r g).1,(a2 r g).2,M,q];exact a4.2 _ _ _ G M}};{rcases H r R I with⟨g,q,G⟩|⟨g,q,G⟩;{rw [(a0 r g).2]at p;exact(a7 r x g p).1};{rw [(a2 r g).2]at p;exact(c7 x p).1}};{rcases H r R I with⟨g,q,G⟩|⟨g,q,G⟩;{refine⟨(O r R (zbJ I).1).1,λx p=>.inl (.inr<|.inl ⟨r,g,?_,?_⟩)⟩;{show own[r]?=some true;rw[q,U]};{rw [(a0 r g).2]at p;exact p}};{rw [q]at U;cases U}}
  .exfalso;cases hq:zjY f with
   |false=>exact hz (.inr<|.inr ⟨hq,rfl⟩)
   |true=>rw[hq,uP]at b9;have f6:zrP (.agg d::z)=true:=(by simpa using b9);have d7:CV.s R.t R.l∈(AV.agg d::z).flatMap AV.cvs:=(by simp only[kD,jP];rcases H r R I with⟨g,q,G⟩|⟨g,q,G⟩;{exact .inl (qJ G)};{exact .inr (qJ G)});have:=qL.1 f6 _ d7;simp only at this;rw[f7] at this;cases this
  {rcases H r R I with⟨g,q,G⟩|⟨g,q,G⟩;{have d9:zbo own r:=(by show own[r]?=some true;rw[q,U]);rw[(a0 r g).2]at p;rcases H r' R' f2 with⟨W,c6,a6⟩|⟨W,c6,a6⟩;{rw [(a0 r' W).2];exact f1 r r' x g W d9 X p};{rw [(a2 r' W).2];exact λhk=>(c7 x hk).2.2 r g d9 p}};{rw [q]at U;cases U}};{obtain⟨rfl,rfl⟩:=b8 l cells hl;exact⟨.inl (.inl rfl),B,e,hb,by rw[e5,zzR],λj c u L M=>e4 j c u L M⟩};{rw [(b8 l c1 g).1,(b8 l' c2 q).1]};{intro p;rcases H r R I with⟨g,q,G⟩|⟨g,q,G⟩;{rw [(a0 r g).2]at p;exact(a7 r _ g p).2 rfl};{rw [(a2 r g).2]at p;exact(c7 _ p).2.1 rfl}};{rw [(O r R I).1]at he;cases he};{rcases (O n R hn).2 with⟨g,_⟩|⟨_,g,_⟩<;>omega};{obtain⟨rfl,rfl⟩:=b8 n cells hn;refine⟨by omega,λa A m J=>?_⟩;have:=c0 a A m J;omega};{rw [b0]at J;rcases qG.1 J with rfl|J;{simp only [MV.ids,zbM,zZ,At.ids,zbA,zbG,jL,kD,uO,jG,qF]at hn;omega};{obtain⟨a,A,rfl⟩:=jE.1 J;simp only[MV.ids,zbM,zZ,kD,uO,jG]at hn;have:=c0 a A n hn;omega}};{rw [c3]at hf;simp at hf};{rw [b0];simp[zzR,e5];omega};{rw [b0]at J;cases i with|zero=>rw[z6r]at hv;simp at J hv;subst J hv;exact hp|succ i=>simp only[jR,qN]at J;have d0:B[i]?=some v:=(by rw[z6s]at hv;exact hv);(cases A:(ziw d 0)[i]? with|none=>rw[A]at J;cases J|some a=>rw[A]at J;cases J;exact(e4 i a v A d0).2)};{rw [c3];trivial}
 obtain⟨f9,g0⟩:=ziv (w:=w) (st:=st) (E:=E) z xs d.length a4.1 (λi c u L M=>by
  have hr:=a4.2 i c u L M;refine⟨?_,hr.one⟩;cases c with
  |i k n=>exact hr.int_inv
  |b x=>exact hr.bool_inv
  |s t l=>
   obtain⟨⟨a,c5,hv,_⟩,_⟩:=hr.len;refine⟨⟨a,_,c5,hv⟩,λR I=>?_⟩;have e:d.length+i-d.length=i:=by omega
   rw[(a2 _<|uA _ _).1,e,M];rfl)
 obtain⟨_,b7⟩:=zmy hO (zla hO (tms:=tms) (N:=N) D) f _ st _ _ a3 w S0 _ E _ [] w (#[.pointer<|some ⟨blk,0,none⟩]++(zch z xs).toArray)
  (λv w'=>w'.os=w.os/\w'.tape=w.tape/\w'.output=w.output/\w.heap.size<=w'.heap.size/\
   (∀b,b<w.heap.size->b≠blk->(∀j,j<d.length->zbo own j->¬ K j b)->w'.heap[b]?=w.heap[b]?)/\
   ∃(S:Array Value) (e':TypeId) (K':Nat->zbl) (ys:List Value) (Kr:Nat->zbl),w'.heap[blk]?=some (.cells S e' (0,0))/\S.size=Z.length/\Z.length=d.length/\
    (∀(j:Nat) (c:CV) (u:Value),Z[j]?=some c->S[j]?=some u->match c with
     |.i k n=>u = .int k n
     |.b x=>u = .bool x
     |.s t l=>(zbo own j->Rep true w' u (.s t l) (K' j))/\(¬ zbo own j->B[j]?=some u))/\
    zxO (zr1 f) w' (zF rs) ys Kr/\v=zmJ (zch rs ys)/\
    (∀j x,j<d.length->K' j x->x<w'.heap.size/\x≠blk/\((∃i,i<d.length/\zbo own i/\K i x)\/w.heap.size<=x))/\
    (∀i x,i<(zF rs).length->Kr i x->x<w'.heap.size/\x≠blk/\((∃i,i<d.length/\zbo own i/\K i x)\/w.heap.size<=x))/\
    (∀i j x,i<d.length->j<d.length->i≠j->K' i x->¬ K' j x)/\
    (∀i j c x,(zF rs)[i]?=some c->zr1 f c=true->j<(zF rs).length->i≠j->Kr i x->¬ Kr j x)/\
    (∀i j x,i<d.length->j<(zF rs).length->K' i x->¬ Kr j x)) hS (λn hn h=>by omega)
  (by simp[f9]) (λi m v J hv=>by
   cases i with
   |zero=>rw[z6r]at hv;simp at J hv;subst J hv;exact hp
   |succ i=>
    simp only[jR,qN]at J;have d0:(zch z xs)[i]?=some v:=by rw[z6s]at hv;simpa using hv
    cases p:(zdA z d.length)[i]? with
    |none=>rw[p]at J;cases J
    |some x=>rw[p]at J;cases J;exact g0 i x v p d0)
  (λm J n hn=>by
   rcases qG.1 J with rfl|J
   .simp only [MV.ids,zbM,zZ,At.ids,zbA,zbG,jL,kD,uO,jG,qF]at hn;omega
   .obtain⟨x,p,rfl⟩:=jE.1 J;simp only[MV.ids,zbM,qO]at hn;obtain⟨a,A,hn⟩:=hn;have:=(zgD z d.length n x a p A hn).2;omega)
  (λU' b2 E' w' tvs v d2 _ _ _ hv _ F=>by
   split at F
   .rename_i l hs htm;split at F
    .rename_i cells hcells;split at F
     .rename_i cs1 ks hbe;split at F
      .rename_i ans hansof;simp only[qC,List.cons.injEq,AV.agg.injEq]at F;obtain⟨rfl,rfl⟩:=F;have hB:=zRR own cells hs _ ks hbe;have hM:=d2.mem;obtain⟨hts,e2⟩:=d2.tm;have g2:=e2 0 (.v<|.at<|.lp l 0) (.pointer<|some ⟨blk,0,none⟩) (by rw[htm];rfl) (z6r _ _)
       have e7:E'.β l=blk:=by have:=g2.2 cells hcells;simp only[Value.pointer.injEq,qC,Addr.mk.injEq,and_true] at this;exact this.symm
       obtain⟨us,rfl,h8,h9⟩:=zy9 hv;have TT:=zNO (st:=b2) (E:=E') (w:=w') (zjY f);obtain⟨a5,ys,kr,hG,hyl,e6,rfl,f8,_⟩:=zkF tvs ks _ us hansof h8 (λk x u p M=>VT.tr TT (λ_ _ _ _=>trivial) (h9 k x u p M));have hyv:∀(k:Nat) (a:At) (u:Value),a5[k]?=some a->ys[k]?=some u->VA w' b2 E' a u:=λk a u A M=>by have h:=e6 k a u A M;rcases hG.get k a A with⟨_,_,rfl,_⟩|⟨_,rfl,_⟩|⟨r,R1,rfl,b6,J,_⟩;{exact h};{exact h};{obtain⟨R0,f3,ht,_⟩:=zlP b6;refine⟨h.1,λR I=>?_⟩;rw[f3]at I;cases I;have:=h.2 R1 b6;simpa [zbg] using this}
       have hzz:zjY f=true->¬ S0 w.heap.size:=λh h'=>by rcases h' with h'|⟨j,T,_,hk⟩|⟨h',_⟩;{omega};{have:=(a7 j _ T hk).1;omega};{rw [h]at h';cases h'}
       obtain⟨_,S,e',a8,e1,f4⟩:=hM.loc l cells hcells;rw[e7]at a8;have d3:∀x,(S0 x\/w.heap.size<=x)->x≠blk->((∃i,i<d.length/\zbo own i/\K i x)\/w.heap.size<=x):=by intro x h X;rcases h with (h|h|h)|h;{exact absurd h X};{exact .inl h};{exact .inr (by omega)};{exact .inr h}
       have d8:∀r R x,b2.root r=some R->E'.φ r x->x≠blk:=by intro r R x I p he;subst he;rw[<- e7]at p;exact hM.lro l cells r R hcells I p
       have d5:∀i,i<(zF ans).length->∃a,a5[i]?=some a:=λi hi=>⟨_,qB (by rw[<- hG.len];exact hi)⟩
       let K':Nat->zbl:=λj x=>zbo own j/\cφ E' cells j x
       have b4:∀j x,K' j x->∃r R,cells[j]?=some (.sl r [])/\zbo own j/\b2.root r=some R/\R.own=true/\r∈ks/\E'.φ r x:=by intro j x p;obtain⟨U,p⟩:=p;obtain⟨a,A,p⟩:=zve p;rcases hB.get j a A with⟨_,_,rfl,_⟩|⟨_,rfl,_⟩|⟨r,R,rfl,g,q,G⟩;{exact p.elim};{exact p.elim};{rcases G with⟨_,Y,h5⟩|⟨Y,_⟩;{exact⟨r,R,A,U,g,Y,h5,p⟩};{exact absurd U Y}}
       have b5:∀i x,cφ E' a5 i x->∃a r R,a5[i]?=some a/\a = .sl r []/\b2.root r=some R/\R.ep=none/\r∈kr/\aφ E' a x/\E'.φ r x:=by intro i x p;obtain⟨a,A,p⟩:=zve p;obtain⟨r,hr,rfl,h0⟩:=hG.fi A p;obtain⟨R1,b6,g6⟩:=hG.own r hr;obtain⟨R,I,_,c8⟩:=zlP b6;refine⟨_,r,R,A,rfl,I,?_,hr,p,h0⟩;rcases c8 with rfl|⟨_,_,he,_⟩;{exact(hM.mine r _ I g6).1};{exact he}
       refine⟨hM.os,hM.tape,hM.output,hM.size,λb hb X g3=>hM.keep b hb λh=>?_,S,e',K',ys,cφ E' a5,a8,by rw[e1,hB.len],d4,λj c u L M=>?_,⟨by rw[hyl,hG.len],λi c x L p=>?_⟩,rfl,λj x T p=>?_,λi x hi p=>?_,λi j x hi T X p b1=>?_,λi j c x hi U T X p b1=>?_,λi j x hi T p b1=>?_⟩
       .rcases h with h|⟨j,T,U,hk⟩|⟨_,h⟩
        .exact X h
        .exact g3 j T U hk
        .omega
       .have T:j<cells.length:=by rw[<- hB.len];exact(qA.1 L).1
        have A:=qB T;obtain⟨_,V⟩:=f4 j _ u A M;rcases hB.get j _ A with⟨k,n,g,q⟩|⟨y,g,q⟩|⟨r,R,g,q,G,Y⟩
        .rw [L]at q;cases q;rw[g]at V;exact V
        .rw [L]at q;cases q;rw[g]at V;exact V
        .rw [L]at G;cases G;rw[g]at V A;have d1:=V.2 R q;simp only[zbg,qC]at d1;refine⟨λU=>?_,λg4=>?_⟩
         .rcases Y with⟨_,h5,_⟩|⟨h5,_⟩
          .have hr:=hM.rep r R q;rw[h5,d1]at hr;exact hr.weak (λx p=>⟨U,by rw[zja A];exact p⟩)
          .exact absurd U h5
         .rcases Y with⟨h5,_⟩|⟨_,h5⟩
          .exact absurd h5 g4
          .have hjc:j<d.length:=by rw[<- d4,hB.len];exact T
           have e3:=kA (show j<B.size by omega)
           have h7:=e2 (j+1) (.v<|.at<|.sl r []) B[j] (by rw[htm,jR];exact h5) (by rw[z6s];exact e3)
           have c4:=h7.2 R q;simp only[zbg,qC]at c4;rw[e3,<- c4,d1]
       .obtain⟨a,A⟩:=d5 i (qA.1 L).1;rw[zja A];exact z0A hM hG A L (hyv i a x A p)
       .obtain⟨r,R,_,U,g,q,G,Y⟩:=b4 j x p;have:=d8 r R x g Y;exact⟨hM.rlt r R g x Y,this,d3 x ((hM.mine r R g q).2 x Y) this⟩
       .obtain⟨a,r,R,A,_,g,_,_,G,Y⟩:=b5 i x p;have:=d8 r R x g Y;exact⟨hM.rlt r R g x Y,this,d3 x (z5h hzz hM hG A G).1 this⟩
       .obtain⟨r,R,g1,U,g,q,G,Y⟩:=b4 i x p;obtain⟨r',R',f0,g5,W,c6,a6,b3⟩:=b4 j x b1;have:=hM.own_apart g q W c6 Y b3;subst this;exact X (hB.inj i j r U g5 g1 f0)
       .obtain⟨a,r,R,A,_,g,_,_,G,Y⟩:=b5 i x p;obtain⟨b,r',R',a8,_,W,_,_,a6,b3⟩:=b5 j x b1;exact X (z0z hM hG A a8 hi U G a6)
       .obtain⟨r,R,g1,U,g,q,G,Y⟩:=b4 i x p;obtain⟨b,r',R',a8,_,W,f5,g8,a6,b3⟩:=b5 j x b1
        by_cases e:r=r'
        .subst e;exact f8 r g8 G
        .exact hM.apart r R r' R' g q W f5 e x Y b3
      .cases F
     .cases F
    .cases F
   .cases F)
 refine b7.mono ?_;intro ex w' he;cases ex with|returned v=>exact he|panicked e9=>exact he.elim|outgrown=>exact he.elim
end
def z1C (C:Cfg)(tms:FuncId->Nat->Option Tmpl)(N D:Nat)(f:FuncId)(own:List Bool)(a:List AV):Option Ans :=
 zwq C tms N (zsZ C tms N D) f ((zdA a 0).map .v) {tm:=[],lo:=[],ro:=zf4 own (a.flatMap AV.cvs) 0,stk:=[],nid:=(a.flatMap AV.cvs).length,ep:=0} λb c=>zsk c b []
def zEv (C:Cfg)(tms:FuncId->Nat->Option Tmpl)(N D:Nat)(f:FuncId)(own:List Bool)(e g:Nat)(b:List (List Nat))(t:Ty)(a:List AV):Option Ans :=
 zwq C tms N (zsZ C tms N D) f ((zdA a 0).map .v) {tm:=[.v<|.at<|.kp e b t],lo:=[],ro:=zf4 own (a.flatMap AV.cvs) 0,stk:=[],nid:=(a.flatMap AV.cvs).length,ep:=0} λc d=>
  match d.tm,(c.flatMap zZ)[g]? with
  |[.v<|.at<|.kp n J h],some (.sl m [])=>cond (Nat.beq n m&&(J==b&&decide (h=t))) (zsk d c []) none
  |_,_=>none
section
variable {C:Cfg} {w0 w w1:World} {S0:zbl} {U:Nat->Prop} {st st1:St} {E E1:Env} {ts:Array Value} {sv:List (Array Value)}
theorem zOy (hO:EngOk C){f:FuncId}{own:List Bool}{b2:List AV->Option (Bool×List AV)}(hf:FnOk C.P f)(a6:zkh f=[[]])(h:∀(d:List AV) (G:List AV),own.length=(zF d).length->(∃(w:World) (J:Nat->Value) (K:Nat->zbl),∀(j:Nat) (c:CV),(zF d)[j]?=some c->Rep false w (J j) c (K j))->b2 d=some (true,G)->∃tms N D,z1C C tms N D f own d=some G)(A:own.isEmpty=false:=by rfl):zfB C.P f own none b2:=by
 refine zfB.of (by rintro rfl;cases A) ?_;intro al a5;rw[a6,qF]at a5;subst a5;refine⟨hf,λw K d J G b1 c5 I a4 a3 _ b0=>?_⟩;have b8:=λi j x hi hj U A=>a3 i j x hi hj U A (by simp)
 obtain⟨tms,N,D,a2⟩:=h d G c5 ⟨w,λj=>(J[j]?).getD undef,K,λj c hc=>by
  have c3:=(qA.1 hc).1;have Z:=qB (show j<J.length by rw[b1];exact c3)
  simp only[Z,j6];exact(I j c _ hc Z).ro⟩ b0
 unfold z1C at a2;generalize y:({tm:=[],lo:=[],ro:=zf4 own (d.flatMap AV.cvs) 0,stk:=[],nid:=(d.flatMap AV.cvs).length,ep:=0}:St)=st at a2;have a9:st.ro=zf4 own (zF d) 0:=(by rw[<- y];rfl);have g:∀r R,zx st.ro r=some R->R.ep=none/\r<(zF d).length/\own[r]?=some R.own/\(zF d)[r]?=some (.s R.t R.l):=(by intro r R z;rw[a9]at z;obtain⟨_,t,l,B,_,_,h5,h6⟩:=zm0 own (zF d) 0 r R z;rw[h6]at h5 ⊢;simp only[vQ]at B h5;exact⟨rfl,(qA.1 B).1,h5,B⟩);have T:∀l,zx st.lo l=none:=λl=>(by rw[<- y];rfl);let E:Env:={ρ:=λn=>(J[n]?).getD undef,φ:=K,β:=λ_=>0,κ:=w}
 let S0:zbl:=λb=>(∃j,j<(zF d).length/\zbo own j/\K j b)\/b=w.heap.size
 have hS:Sim w S0 (λn=>n<(zF d).length) st E #[] [] w:=by refine⟨⟨rfl,rfl,rfl,qT _,λ_ _ _=>rfl,λr R z=>?_,λr R z x q=>?_,λr R z U=>?_,λhz _ _ _ _ _ _=>absurd (.inr rfl) hz,λr R r' R' z U b9 _ A x q=>?_,λl cs Y=>?_,λl l' cs d5 Y=>?_,λl cs r R Y=>?_,λr R e z X=>?_,rfl⟩,⟨λn R L=>?_,λn cs L=>?_,λm F=>?_,λf hf=>?_⟩,⟨?_,λi m v F=>?_⟩,?_⟩;{obtain⟨_,H,B,h3⟩:=g r R (zbJ z).1;have Z:=qB (show r<J.length by omega);show Rep R.own w ((J[r]?).getD undef) _ (K r);have:=I r _ _ h3 Z;rw[B] at this;rw[Z];exact this};{obtain⟨_,H,_,_⟩:=g r R (zbJ z).1;exact a4 r x H q};{obtain⟨X,H,B,_⟩:=g r R (zbJ z).1;refine⟨X,λx q=>.inl (.inl ⟨r,H,?_,q⟩)⟩;show own[r]?=some true;rw[B,U]};{obtain⟨_,H,B,_⟩:=g r R (zbJ z).1;obtain⟨_,a0,_,_⟩:=g r' R' (zbJ b9).1;exact b8 r r' x H a0 (by show own[r]?=some true;rw[B,U]) A q};{rw [T]at Y;cases Y};{rw [T]at Y;cases Y};{rw [T]at Y;cases Y};{rw [(g r R z).1]at X;cases X};{exact(g n R L).2.1};{rw [T]at L;cases L};{rw [<- y]at F;simp at F};{rw [<- y]at hf;simp at hf};{rw [<- y];rfl};{rw [<- y]at F;simp at F};{rw [<- y];trivial}
 obtain⟨c1,c2⟩:=ziv (w:=w) (st:=st) (E:=E) d J 0 b1 (λi c u hc Z=>by
  have V:=I i c u hc Z;refine⟨?_,V.one⟩;cases c with
  |i k n=>exact V.int_inv
  |b x=>exact V.bool_inv
  |s t l=>
   obtain⟨⟨a,b3,hv,_⟩,_⟩:=V.len;refine⟨⟨a,_,b3,hv⟩,λR z=>?_⟩;have e:0+i=i:=by omega
   show some ((J[0+i]?).getD undef)=some u
   rw[e,Z];rfl)
 have d4:st.nid=(zF d).length:=by rw[<- y];rfl
 obtain⟨_,S⟩:=zmy hO (zla hO (tms:=tms) (N:=N) D) f _ st _ G a2 w S0 _ E #[] [] w (zch d J).toArray
  (λv M=>M.os=w.os/\M.tape=w.tape/\M.output=w.output/\w.heap.size<=M.heap.size/\
   (∀b,b<w.heap.size->(∀j,j<(zF d).length->zbo own j->¬ K j b)->M.heap[b]?=w.heap[b]?)/\
   ∃(ys:List Value) (Kr:Nat->zbl),zei true M (zF G) ys Kr/\v=zmJ (zch G ys)/\
    (∀i x,i<(zF G).length->Kr i x->x<M.heap.size/\((∃j,j<(zF d).length/\zbo own j/\K j x)\/w.heap.size<=x))/\
    (∀i j x,i<(zF G).length->j<(zF G).length->i≠j->Kr i x->¬ Kr j x)/\
    (∀ja jr js,(none:Option (Nat×Nat×List (List Nat)))=some (ja,jr,js)->∀t l u,(zF d)[ja]?=some (.s t l)->J[ja]?=some u->∃l',(zF G)[jr]?=some (.s t l')/\ys[jr]?=some u/\
     ∀p v,zbg w t u p=some v->js.any (λc=>c.isPrefixOf (cols p))=false->zbg M t u p=some v)) hS (λn L h=>by omega)
  (by simp[c1]) (λi m v F hv=>by
   rw[qN]at F;cases q:(zdA d 0)[i]? with
   |none=>rw[q]at F;cases F
   |some x=>rw[q]at F;cases F;exact c2 i x v q (by simpa using hv))
  (λm F n L=>by
   obtain⟨x,q,rfl⟩:=jE.1 F;simp only[MV.ids,zbM,qO]at L;obtain⟨a,W,L⟩:=L;have:=(zgD d 0 n x a q W L).2;omega)
  (λU' d2 E' M d3 v c0 _ _ _ hv _ a7=>by
   obtain⟨us,rfl,c7,c8⟩:=zy9 hv;obtain⟨O,ys,ks,hG,d0,d1,rfl,_⟩:=zkF d3 [] G us a7 c7 c8;have Q:=c0.mem;have a8:∀i,i<(zF G).length->∃a,O[i]?=some a:=λi hi=>⟨_,qB (by rw[<- hG.len];exact hi)⟩
   have a1:∀i x,cφ E' O i x->∃r∈ks,∃R,O[i]?=some (.sl r [])/\d2.root r=some R/\R.own=true/\E'.φ r x:=by intro i x q;obtain⟨a,W,q⟩:=zve q;obtain⟨r,V,rfl,c6⟩:=hG.fi W q;obtain⟨R,z,U⟩:=hG.own r V;exact⟨r,V,R,W,z,U,c6⟩
   refine⟨Q.os,Q.tape,Q.output,Q.size,λb hb c4=>Q.keep b hb λh=>h.elim (λ⟨j,hj,U,hk⟩=>c4 j hj U hk) (λh=>by omega),ys,cφ E' O,⟨by rw[d0,hG.len],λi c x hc q=>?_⟩,rfl,λi x hi q=>?_,λi j x hi hj A q c9=>?_,λja jr js h=>by cases h⟩
   .obtain⟨a,W⟩:=a8 i (qA.1 hc).1;rw[zja W];exact hG.rep Q W hc (d1 i a x W q)
   .obtain⟨r,V,R,_,H,B,h4⟩:=a1 i x q;exact⟨Q.rlt r R H x h4,((Q.mine r R H B).2 x h4).elim (λh=>h.imp (λh=>h) λh=>uL h.symm) .inr⟩
   .obtain⟨r,V,R,g1,H,B,h4⟩:=a1 i x q;obtain⟨r',d6,R',b5,a0,b6,b7⟩:=a1 j x c9;have:=Q.own_apart H B a0 b6 h4 b7;subst this;exact A (hG.inj i j r g1 b5))
 refine S.mono ?_;intro ex M X;cases ex with|returned v=>exact X|panicked b4=>exact X.elim|outgrown=>exact X.elim
theorem znT (hO:EngOk C){f:FuncId}{own:List Bool}{G jr:Nat}{js:List (List Nat)}{kt:Ty}{c7:List AV->Option (Bool×List AV)}(hf:FnOk C.P f)(b6:zkh f=[[]])(h:∀(d:List AV) (O:List AV),own.length=(zF d).length->(∃(w:World) (A:Nat->Value) (K:Nat->zbl),∀(j:Nat) (c:CV),(zF d)[j]?=some c->Rep false w (A j) c (K j))->c7 d=some (true,O)->(∃l,(zF d)[G]?=some (.s kt l))/\own[G]?=some true/\∃tms N D,zEv C tms N D f own G jr js kt d=some O)(H:own.isEmpty=false:=by rfl):zfB C.P f own (some (G,jr,js)) c7:=by
 refine zfB.of (by rintro rfl;cases H) ?_;intro al b5;rw[b6,qF]at b5;subst b5;refine⟨hf,λw K d A O b0 e5 I b3 b2 _ c2=>?_⟩;have d2:=λi j x hi hj ho H=>b2 i j x hi hj ho H (by simp)
 obtain⟨⟨kl,a1⟩,f8,tms,N,D,a8⟩:=h d O e5 ⟨w,λj=>(A[j]?).getD undef,K,λj c hc=>by
  have d8:=(qA.1 hc).1;have hu:=qB (show j<A.length by rw[b0];exact d8)
  simp only[hu,j6];exact(I j c _ hc hu).ro⟩ c2
 unfold zEv at a8;have c0:G<(zF d).length:=(qA.1 a1).1;have d5:G<A.length:=(by rw[b0];exact c0);have a9:=qB d5;generalize B:({tm:=[.v<|.at<|.kp G js kt],lo:=[],ro:=zf4 own (d.flatMap AV.cvs) 0,stk:=[],nid:=(d.flatMap AV.cvs).length,ep:=0}:St)=st at a8;have c1:st.ro=zf4 own (zF d) 0:=(by rw[<- B];rfl);have g:∀r R,zx st.ro r=some R->R.ep=none/\r<(zF d).length/\own[r]?=some R.own/\(zF d)[r]?=some (.s R.t R.l):=(by intro r R z;rw[c1]at z;obtain⟨_,t,l,L,_,_,h5,h6⟩:=zm0 own (zF d) 0 r R z;rw[h6]at h5 ⊢;simp only[vQ]at L h5;exact⟨rfl,(qA.1 L).1,h5,L⟩);have a2:∀l,zx st.lo l=none:=λl=>(by rw[<- B];rfl);let E:Env:={ρ:=λn=>(A[n]?).getD undef,φ:=K,β:=λ_=>0,κ:=w}
 let S0:zbl:=λb=>(∃j,j<(zF d).length/\zbo own j/\K j b)\/b=w.heap.size
 have hS:Sim w S0 (λn=>n<(zF d).length) st E #[A[G]] [] w:=by refine⟨⟨rfl,rfl,rfl,qT _,λ_ _ _=>rfl,λr R z=>?_,λr R z x y=>?_,λr R z ho=>?_,λhz _ _ _ _ _ _=>absurd (.inr rfl) hz,λr R r' R' z ho d3 _ H x y=>?_,λl cs hl=>?_,λl l' cs f7 hl=>?_,λl cs r R hl=>?_,λr R e z W=>?_,rfl⟩,⟨λn R M=>?_,λn cs M=>?_,λm F=>?_,λf hf=>?_⟩,⟨?_,λi m v F X=>?_⟩,?_⟩;{obtain⟨_,T,L,h3⟩:=g r R (zbJ z).1;have hu:=qB (show r<A.length by omega);show Rep R.own w ((A[r]?).getD undef) _ (K r);have:=I r _ _ h3 hu;rw[L] at this;rw[hu];exact this};{obtain⟨_,T,_,_⟩:=g r R (zbJ z).1;exact b3 r x T y};{obtain⟨W,T,L,_⟩:=g r R (zbJ z).1;refine⟨W,λx y=>.inl (.inl ⟨r,T,?_,y⟩)⟩;show own[r]?=some true;rw[L,ho]};{obtain⟨_,T,L,_⟩:=g r R (zbJ z).1;obtain⟨_,a6,_,_⟩:=g r' R' (zbJ d3).1;exact d2 r r' x T a6 (by show own[r]?=some true;rw[L,ho]) H y};{rw [a2]at hl;cases hl};{rw [a2]at hl;cases hl};{rw [a2]at hl;cases hl};{rw [(g r R z).1]at W;cases W};{exact(g n R M).2.1};{rw [a2]at M;cases M};{rw [<- B]at F;simp only[qF]at F;subst F;intro n M;simp only[MV.ids,zbM,zZ,kD,uO,At.ids,zbA,zbG,jG,qF]at M;subst M;exact c0};{rw [<- B]at hf;simp at hf};{rw [<- B];rfl};{rw [<- B]at F;cases i with|succ i=>simp at F|zero=>simp only[qI,qC]at F X;subst F;have X:A[G]=v:=(by simpa using X);subst X;have U:=I G _ _ a1 a9;obtain⟨⟨a,a5,f2,_⟩,_⟩:=U.len;refine⟨⟨a,_,a5,f2⟩,λR z=>?_⟩;obtain⟨_,_,_,h4⟩:=g G R (zbJ z).1;rw[a1]at h4;cases h4;refine⟨rfl,?_,λp u hp _=>hp⟩;show (A[G]?).getD undef=A[G];rw[a9];rfl};{rw [<- B];trivial}
 obtain⟨d6,d7⟩:=ziv (w:=w) (st:=st) (E:=E) d A 0 b0 (λi c u hc hu=>by
  have U:=I i c u hc hu;refine⟨?_,U.one⟩;cases c with
  |i k n=>exact U.int_inv
  |b x=>exact U.bool_inv
  |s t l=>
   obtain⟨⟨a,a5,X,_⟩,_⟩:=U.len;refine⟨⟨a,_,a5,X⟩,λR z=>?_⟩;have e:0+i=i:=by omega
   show some ((A[0+i]?).getD undef)=some u
   rw[e,hu];rfl)
 have f6:st.nid=(zF d).length:=by rw[<- B];rfl
 obtain⟨_,Z⟩:=zmy hO (zla hO (tms:=tms) (N:=N) D) f _ st _ O a8 w S0 _ E #[A[G]] [] w (zch d A).toArray
  (λv Y=>Y.os=w.os/\Y.tape=w.tape/\Y.output=w.output/\w.heap.size<=Y.heap.size/\
   (∀b,b<w.heap.size->(∀j,j<(zF d).length->zbo own j->¬ K j b)->Y.heap[b]?=w.heap[b]?)/\
   ∃(ys:List Value) (Kr:Nat->zbl),zei true Y (zF O) ys Kr/\v=zmJ (zch O ys)/\
    (∀i x,i<(zF O).length->Kr i x->x<Y.heap.size/\((∃j,j<(zF d).length/\zbo own j/\K j x)\/w.heap.size<=x))/\
    (∀i j x,i<(zF O).length->j<(zF O).length->i≠j->Kr i x->¬ Kr j x)/\
    (∀a3 a4 b1,some (G,jr,js)=some (a3,a4,b1)->∀t l u,(zF d)[a3]?=some (.s t l)->A[a3]?=some u->∃l',(zF O)[a4]?=some (.s t l')/\ys[a4]?=some u/\
     ∀p v,zbg w t u p=some v->b1.any (λc=>c.isPrefixOf (cols p))=false->zbg Y t u p=some v)) hS (λn M h=>by omega)
  (by simp[d6]) (λi m v F X=>by
   rw[qN]at F;cases y:(zdA d 0)[i]? with
   |none=>rw[y]at F;cases F
   |some x=>rw[y]at F;cases F;exact d7 i x v y (by simpa using X))
  (λm F n M=>by
   obtain⟨x,y,rfl⟩:=jE.1 F;simp only[MV.ids,zbM,qO]at M;obtain⟨a,Q,M⟩:=M;have:=(zgD d 0 n x a y Q M).2;omega)
  (λU' f4 E' Y f5 v b4 _ _ _ X _ q=>by
   obtain⟨us,rfl,f0,f1⟩:=zy9 X;split at q
   rotate_left
   .cases q
   rename_i n J t' m e8 e6;cases a0:(Nat.beq n m&&(J==js&&decide (t'=kt))) with
   |false=>rw[a0]at q;cases q
   |true=>
   rw[a0]at q;simp only[cond_true]at q;simp only[qE,kS,qM,qX]at a0;obtain⟨e0,hJ,ht⟩:=a0;subst e0 hJ ht;obtain⟨S,ys,ks,hG,c4,c6,rfl,_,b7⟩:=zkF f5 [] O us q f0 f1;have V:=b4.mem;have b9:∀i,i<(zF O).length->∃a,S[i]?=some a:=λi hi=>⟨_,qB (by rw[<- hG.len];exact hi)⟩
   have a7:∀i x,cφ E' S i x->∃r∈ks,∃R,S[i]?=some (.sl r [])/\f4.root r=some R/\R.own=true/\E'.φ r x:=by intro i x y;obtain⟨a,Q,y⟩:=zve y;obtain⟨r,U,rfl,e7⟩:=hG.fi Q y;obtain⟨R,z,ho⟩:=hG.own r U;exact⟨r,U,R,Q,z,ho,e7⟩
   refine⟨V.os,V.tape,V.output,V.size,λb hb d9=>V.keep b hb λh=>h.elim (λ⟨j,hj,ho,hk⟩=>d9 j hj ho hk) (λh=>by omega),ys,cφ E' S,⟨by rw[c4,hG.len],λi c x hc y=>?_⟩,rfl,λi x hi y=>?_,λi j x hi hj H y f3=>?_,λa3 a4 b1 W t l u b8 c3=>?_⟩
   .obtain⟨a,Q⟩:=b9 i (qA.1 hc).1;rw[zja Q];exact hG.rep V Q hc (c6 i a x Q y)
   .obtain⟨r,U,R,_,T,L,h4⟩:=a7 i x y;exact⟨V.rlt r R T x h4,((V.mine r R T L).2 x h4).elim (λh=>h.imp (λh=>h) λh=>uL h.symm) .inr⟩
   .obtain⟨r,U,R,g1,T,L,h4⟩:=a7 i x y;obtain⟨r',f9,R',c9,a6,d0,d1⟩:=a7 j x f3;have:=V.own_apart T L a6 d0 h4 d1;subst this;exact H (hG.inj i j r g1 c9)
   .cases W;rw[a1]at b8;cases b8;rw[a9]at c3;cases c3;have Q:S[jr]?=some (.sl n []):=by rw[b7];exact e6
    rcases hG.get jr _ Q with⟨_,_,h,_⟩|⟨_,h,_⟩|⟨r,R,h,z,_,d4⟩
    .cases h
    .cases h
    .cases h;have e9:=b4.tm.2 0 (.v<|.at<|.kp n J t') A[G] (by rw[e8];rfl) (by simp)
     obtain⟨e1,e2,e3⟩:=e9.2 R z;have c5:jr<ys.length:=by rw[c4];exact(qA.1 Q).1
     have hy:=qB c5;have e4:=(c6 jr _ _ Q hy).2 R z;simp only[zbg,qC] at e4;refine⟨e1 ▸ R.l,?_,by rw[hy,<- e4,e2],?_⟩
     .rw [d4];cases e1;rfl
     .rw [V.κ] at e3;exact e3)
 refine Z.mono ?_;intro ex Y W;cases ex with|returned v=>exact W|panicked c8=>exact W.elim|outgrown=>exact W.elim
def zU7 (b:List (Nat×Nat)):At->At
 |.sl r []=>match b.find? (λx=>Nat.beq x.1 r) with
  |some x=>.sl x.2 []
  |none=>.sl r []
 |a=>a
def zUK (C:Cfg)(tms:FuncId->Nat->Option Tmpl)(N D:Nat)(f:FuncId)(own:List Bool)(b:List (Nat×Nat))(e g:Nat)(c:List (List Nat))(t:Ty)(a:List AV):Option Ans :=
 zwq C tms N (zsZ C tms N D) f (((zdA a 0).map .v).map (zl4<|zU7 b)) {tm:=[.v<|.at<|.kp e c t],lo:=[],ro:=(zf4 own (a.flatMap AV.cvs) 0).filter (λx=>!b.any λy=>Nat.beq y.1 x.1),stk:=[],nid:=(a.flatMap AV.cvs).length,ep:=0} λd st=>
  match st.tm,(d.flatMap zZ)[g]? with
  |[.v<|.at<|.kp n J h],some (.sl m [])=>cond (Nat.beq n m&&(J==c&&decide (h=t))) (zsk st d []) none
  |_,_=>none
def zXq (a:At):Prop:=(∃k n,a = .i k n)\/(∃b,a = .b b)\/∃r,a = .sl r []
theorem zur:∀(c:List CV) (id:Nat) (a:At),a∈ziw c id->zXq a
 |[],_,_,h=>by simp[ziw]at h
 |.i k n::c,id,a,h=>by simp only[ziw,qG]at h;rcases h with rfl|h;{exact .inl ⟨k,n,rfl⟩};{exact zur c (id+1) a h}
 |.b x::c,id,a,h=>by simp only[ziw,qG]at h;rcases h with rfl|h;{exact .inr (.inl ⟨x,rfl⟩)};{exact zur c (id+1) a h}
 |.s t l::c,id,a,h=>by simp only[ziw,qG]at h;rcases h with rfl|h;{exact .inr (.inr ⟨id,rfl⟩)};{exact zur c (id+1) a h}
theorem zxz:∀(e:List AV) (id:Nat) (x:TV) (a:At),x∈zdA e id->a∈zZ x->zXq a
 |[],_,_,_,h,_=>by simp[zdA]at h
 |.one c::e,id,x,a,h,d=>by simp only[zdA,qG]at h;rcases h with rfl|h;{simp only [zZ,qF]at d;subst d;cases c with|i k n=>exact .inl ⟨k,n,rfl⟩|b x=>exact .inr (.inl ⟨x,rfl⟩)|s t l=>exact .inr (.inr ⟨id,rfl⟩)};{exact zxz e (id+1) x a h d}
 |.agg f::e,id,x,a,h,d=>by simp only[zdA,qG]at h;rcases h with rfl|h;{exact zur f id a d};{exact zxz e (id+f.length) x a h d}
theorem zba8 {w1:World}{st1:St}{E1:Env}{w:World}{st:St}{E:Env}{f:At->At}{P:At->Prop}(T:∀a v,P a->VA w st E a v->VA w1 st1 E1 (f a) v){x:TV}{v:Value}(g:∀a∈zZ x,P a)(h:VT w st E x v):VT w1 st1 E1 (zsz f x) v:=by rcases x with a|l;{exact T a v (g a (by simp[zZ])) h};{obtain⟨n,k,m,e⟩:=h;refine⟨n,k,by simp[m],λj a u c i=>?_⟩;rw[qN]at c;cases d:l[j]? with|none=>rw[d]at c;cases c|some b=>rw[d]at c;cases c;exact⟨(e j b u d i).1,T _ _ (g b (by simp only[zZ];exact qJ d)) (e j b u d i).2⟩}
theorem z6o {b:List (Nat×Nat)}{a:At}{n:Nat}(h:n∈(zU7 b a).ids):n∈a.ids\/∃r,(r,n)∈b:=by unfold zU7 at h;split at h;{split at h;{rename_i r x c;simp only[At.ids,zbA,zbG,jG,qF]at h;subst h;exact .inr ⟨x.1,uT c⟩};{exact .inl h}};{exact .inl h}
theorem zsj {d:Type}(q:Nat->Bool):∀(l:List (Nat×d)) (n:Nat) (x:d),zx (l.filter λy=>q y.1) n=some x->q n=true/\zx l n=some x
 |[],_,_,h=>by simp[zx]at h
 |(k,v)::l,n,x,h=>by cases b:q k with|false=>rw[List.filter_cons_of_neg (by simp[b])]at h;obtain⟨c,e⟩:=zsj q l n x h;refine⟨c,?_⟩;simp only[zx];(cases a:k==n with|false=>exact e|true=>have:k=n:=(by simpa using a);subst this;rw[b]at c;cases c)|true=>rw[List.filter_cons_of_pos (by simp[b])]at h;simp only[zx]at h ⊢;(cases a:k==n with|false=>rw[a]at h;exact zsj q l n x (by simpa using h)|true=>rw[a]at h;have:k=n:=(by simpa using a);subst this;exact⟨b,by simpa using h⟩)
theorem zOx (hO:EngOk C){f:FuncId}{own:List Bool}{M jr:Nat}{js:List (List Nat)}{kt:Ty}{d0:List AV->Option (Bool×List AV)}(hf:FnOk C.P f)(h:∀(W:List (Nat×Nat)) (d:List AV) (V:List AV),W∈zkh f->(∀j i,(j,i)∈W->(zF d)[j]?=(zF d)[i]?)->own.length=(zF d).length->(∃(w:World) (B:Nat->Value) (K:Nat->zbl),∀(j:Nat) (c:CV),(zF d)[j]?=some c->Rep false w (B j) c (K j))->d0 d=some (true,V)->(∃l,(zF d)[M]?=some (.s kt l))/\own[M]?=some true/\∃tms N D,zUK C tms N D f own W M jr js kt d=some V)(Z:own.isEmpty=false:=by rfl):zfB C.P f own (some (M,jr,js)) d0:=by
 refine zfB.of (by rintro rfl;cases Z) ?_
 intro W d5;refine⟨hf,λw K d B V b2 f1 S b6 b5 Y c4=>?_⟩;obtain⟨⟨kl,a2⟩,g7,tms,N,D,b0⟩:=h W d V d5 (λj i d8=>(Y j i d8).2.2.2.1) f1 ⟨w,λj=>(B[j]?).getD undef,K,λj c hc=>by
  have e6:=(qA.1 hc).1;have hu:=qB (show j<B.length by rw[b2];exact e6)
  simp only[hu,j6];exact(S j c _ hc hu).ro⟩ c4
 unfold zUK at b0;have c2:M<(zF d).length:=(qA.1 a2).1;have d9:M<B.length:=(by rw[b2];exact c2);have b1:=qB d9;generalize H:({tm:=[.v<|.at<|.kp M js kt],lo:=[],ro:=(zf4 own (d.flatMap AV.cvs) 0).filter (λx=>!W.any λy=>Nat.beq y.1 x.1),stk:=[],nid:=(d.flatMap AV.cvs).length,ep:=0}:St)=st at b0;have a6:st.ro=(zf4 own (zF d) 0).filter (λx=>!W.any λy=>Nat.beq y.1 x.1):=(by rw[<- H];rfl);have e8:∀r R,zx st.ro r=some R->∀i,(r,i)∉W:=(by intro r R z i hi;rw[a6]at z;have:=(zsj (λn=>!W.any λy=>Nat.beq y.1 n) _ r R z).1;simp only[jF,kI] at this;exact this _ hi (Nat.beq_refl r));have g:∀r R,zx st.ro r=some R->R.ep=none/\r<(zF d).length/\own[r]?=some R.own/\(zF d)[r]?=some (.s R.t R.l):=(by intro r R z;rw[a6]at z;obtain⟨_,t,l,F,_,_,h5,h6⟩:=zm0 own (zF d) 0 r R (zsj (λn=>!W.any λy=>Nat.beq y.1 n) _ r R z).2;rw[h6]at h5 ⊢;simp only[vQ]at F h5;exact⟨rfl,(qA.1 F).1,h5,F⟩);have a3:∀l,zx st.lo l=none:=λl=>(by rw[<- H];rfl);let E:Env:={ρ:=λn=>(B[n]?).getD undef,φ:=K,β:=λ_=>0,κ:=w}
 let S0:zbl:=λb=>(∃j,j<(zF d).length/\zbo own j/\K j b)\/b=w.heap.size
 have hS:Sim w S0 (λn=>n<(zF d).length) st E #[B[M]] [] w:=(by refine⟨⟨rfl,rfl,rfl,qT _,λ_ _ _=>rfl,λr R z=>?_,λr R z x q=>?_,λr R z ho=>?_,λhz _ _ _ _ _ _=>absurd (.inr rfl) hz,λr R r' R' z ho b7 _ Z x q=>?_,λl cs hl=>?_,λl l' cs g6 hl=>?_,λl cs r R hl=>?_,λr R e z U=>?_,rfl⟩,⟨λn R O=>?_,λn cs O=>?_,λm G=>?_,λf hf=>?_⟩,⟨?_,λi m v G L=>?_⟩,?_⟩;{obtain⟨_,T,F,h3⟩:=g r R (zbJ z).1;have hu:=qB (show r<B.length by omega);show Rep R.own w ((B[r]?).getD undef) _ (K r);have:=S r _ _ h3 hu;rw[F] at this;rw[hu];exact this};{obtain⟨_,T,_,_⟩:=g r R (zbJ z).1;exact b6 r x T q};{obtain⟨U,T,F,_⟩:=g r R (zbJ z).1;refine⟨U,λx q=>.inl (.inl ⟨r,T,?_,q⟩)⟩;show own[r]?=some true;rw[F,ho]};{obtain⟨_,T,F,_⟩:=g r R (zbJ z).1;obtain⟨_,a8,_,_⟩:=g r' R' (zbJ b7).1;exact b5 r r' x T a8 (by show own[r]?=some true;rw[F,ho]) Z (e8 r' R' (zbJ b7).1 r) q};{rw [a3]at hl;cases hl};{rw [a3]at hl;cases hl};{rw [a3]at hl;cases hl};{rw [(g r R z).1]at U;cases U};{exact(g n R O).2.1};{rw [a3]at O;cases O};{rw [<- H]at G;simp only[qF]at G;subst G;intro n O;simp only[MV.ids,zbM,zZ,kD,uO,At.ids,zbA,zbG,jG,qF]at O;subst O;exact c2};{rw [<- H]at hf;simp at hf};{rw [<- H];rfl};{rw [<- H]at G;cases i with|succ i=>simp at G|zero=>simp only[qI,qC]at G L;subst G;have L:B[M]=v:=(by simpa using L);subst L;have Q:=S M _ _ a2 b1;obtain⟨⟨a,a7,f9,_⟩,_⟩:=Q.len;refine⟨⟨a,_,a7,f9⟩,λR z=>?_⟩;obtain⟨_,_,_,h4⟩:=g M R (zbJ z).1;rw[a2]at h4;cases h4;refine⟨rfl,?_,λp u hp _=>hp⟩;show (B[M]?).getD undef=B[M];rw[b1];rfl};{rw [<- H];trivial});let b4:St:={st with ro:=(List.range (zF d).length).map (λr=>(r,(⟨.int,[],false,none⟩:Root))),ep:=0}
 have c5:∀r,r<(zF d).length->b4.root r=some ⟨.int,[],false,none⟩:=by intro r Q;have:∀(n k:Nat),k<=r->r<k+n->zx ((List.range' k n).map λr=>(r,(⟨.int,[],false,none⟩:Root))) r=some ⟨.int,[],false,none⟩:=(by intro n;induction n with|zero=>intro k T F;omega|succ n ih=>intro k T F;simp only[vA,jH,zx];by_cases U:k=r;{subst U;simp};{have hb:(k==r)=false:=(by simpa using U);simp only[hb,kG,if_false];exact ih (k+1) (by omega) (by omega)});have F:=this (zF d).length 0 (jW _) (by omega);rw[<- vF]at F;exact zjh F (.inl rfl)
 obtain⟨e0,e5⟩:=ziv (w:=w) (st:=b4) (E:=E) d B 0 b2 (λi c u hc hu=>by
  have Q:=S i c u hc hu;refine⟨?_,Q.one⟩;cases c with
  |i k n=>exact Q.int_inv
  |b x=>exact Q.bool_inv
  |s t l=>
   obtain⟨⟨a,a7,L,_⟩,_⟩:=Q.len;refine⟨⟨a,_,a7,L⟩,λR z=>?_⟩;have e:0+i=i:=by omega
   show some ((B[0+i]?).getD undef)=some u
   rw[e,hu];rfl)
 have hT:∀a v,(zXq a/\∀n∈a.ids,n<(zF d).length)->VA w b4 E a v->VA w st E (zU7 W a) v:=(by intro a v ⟨f2,d7⟩ L;have c3:∀r,∀i,(r,i)∈W->E.ρ i=E.ρ r:=(by intro r i hi;show (B[i]?).getD undef=(B[r]?).getD undef;rw[(Y r i hi).2.2.1]);rcases f2 with⟨k,n,rfl⟩|⟨b,rfl⟩|⟨r,rfl⟩;{exact L};{exact L};{have Q:r<(zF d).length:=d7 r (by simp[At.ids,zbA]);have e1:=L.2 _ (c5 r Q);simp only[zbg,qC] at e1;simp only[zU7];split;{rename_i x q;have G:=uT q;have g2:x.1=r:=jU (by simpa using List.find?_some q);subst g2;refine⟨L.1,λR _=>?_⟩;simp only[zbg,qC];rw[c3 x.1 x.2 G];exact e1};{refine⟨L.1,λR _=>?_⟩;simp only[zbg,qC];exact e1}});have g5:st.nid=(zF d).length:=by rw[<- H];rfl
 obtain⟨_,a0⟩:=zmy hO (zla hO (tms:=tms) (N:=N) D) f _ st _ V b0 w S0 _ E #[B[M]] [] w (zch d B).toArray
  (λv w'=>w'.os=w.os/\w'.tape=w.tape/\w'.output=w.output/\w.heap.size<=w'.heap.size/\
   (∀b,b<w.heap.size->(∀j,j<(zF d).length->zbo own j->¬ K j b)->w'.heap[b]?=w.heap[b]?)/\
   ∃(ys:List Value) (Kr:Nat->zbl),zei true w' (zF V) ys Kr/\v=zmJ (zch V ys)/\
    (∀i x,i<(zF V).length->Kr i x->x<w'.heap.size/\((∃j,j<(zF d).length/\zbo own j/\K j x)\/w.heap.size<=x))/\
    (∀i j x,i<(zF V).length->j<(zF V).length->i≠j->Kr i x->¬ Kr j x)/\
    (∀a4 a5 b3,some (M,jr,js)=some (a4,a5,b3)->∀t l u,(zF d)[a4]?=some (.s t l)->B[a4]?=some u->∃l',(zF V)[a5]?=some (.s t l')/\ys[a5]?=some u/\
     ∀p v,zbg w t u p=some v->b3.any (λc=>c.isPrefixOf (cols p))=false->zbg w' t u p=some v)) hS (λn O h=>by omega)
  (by simp[e0]) (λi m v G L=>by
   rw[qN,qN]at G;cases q:(zdA d 0)[i]? with
   |none=>rw[q]at G;cases G
   |some x=>
    rw[q]at G;cases G;exact zba8 hT (λa I=>⟨zxz d 0 x a (qJ q) I,λn O=>by
     have:=(zgD d 0 n x a (qJ q) I O).2;omega⟩) (e5 i x v q (by simpa using L)))
  (λm G n O=>by
   obtain⟨m0,e7,rfl⟩:=jE.1 G;obtain⟨x,q,rfl⟩:=jE.1 e7;obtain⟨a,I,O⟩:=zSm O;simp only[zbM]at I;rcases z6o O with h|⟨r,h⟩
   .have:=(zgD d 0 n x a q I h).2;omega
   .obtain⟨_,_,_,_,t,l,h5⟩:=Y r n h;exact(qA.1 h5).1)
  (λU' g3 E' w' g4 v b8 _ _ _ L _ A=>by
   obtain⟨us,rfl,f7,f8⟩:=zy9 L;split at A
   rotate_left
   .cases A
   rename_i n J t' m f5 f3;cases a1:(Nat.beq n m&&(J==js&&decide (t'=kt))) with
   |false=>rw[a1]at A;cases A
   |true=>
   rw[a1]at A;simp only[cond_true]at A;simp only[qE,kS,qM,qX]at a1;obtain⟨f0,hJ,ht⟩:=a1;subst f0 hJ ht;obtain⟨X,ys,ks,hG,c7,c9,rfl,_,b9⟩:=zkF g4 [] V us A f7 f8;have hM:=b8.mem;have c1:∀i,i<(zF V).length->∃a,X[i]?=some a:=λi hi=>⟨_,qB (by rw[<- hG.len];exact hi)⟩
   have a9:∀i x,cφ E' X i x->∃r∈ks,∃R,X[i]?=some (.sl r [])/\g3.root r=some R/\R.own=true/\E'.φ r x:=by intro i x q;obtain⟨a,I,q⟩:=zve q;obtain⟨r,Q,rfl,f4⟩:=hG.fi I q;obtain⟨R,z,ho⟩:=hG.own r Q;exact⟨r,Q,R,I,z,ho,f4⟩
   refine⟨hM.os,hM.tape,hM.output,hM.size,λb hb e9=>hM.keep b hb λh=>h.elim (λ⟨j,hj,ho,hk⟩=>e9 j hj ho hk) (λh=>by omega),ys,cφ E' X,⟨by rw[c7,hG.len],λi c x hc q=>?_⟩,rfl,λi x hi q=>?_,λi j x hi hj Z q g0=>?_,λa4 a5 b3 U t l u c0 c6=>?_⟩
   .obtain⟨a,I⟩:=c1 i (qA.1 hc).1;rw[zja I];exact hG.rep hM I hc (c9 i a x I q)
   .obtain⟨r,Q,R,_,T,F,h4⟩:=a9 i x q;exact⟨hM.rlt r R T x h4,((hM.mine r R T F).2 x h4).elim (λh=>h.imp (λh=>h) λh=>uL h.symm) .inr⟩
   .obtain⟨r,Q,R,g1,T,F,h4⟩:=a9 i x q;obtain⟨r',g8,R',d2,a8,d3,d4⟩:=a9 j x g0;have:=hM.own_apart T F a8 d3 h4 d4;subst this;exact Z (hG.inj i j r g1 d2)
   .cases U;rw[a2]at c0;cases c0;rw[b1]at c6;cases c6;have I:X[jr]?=some (.sl n []):=by rw[b9];exact f3
    rcases hG.get jr _ I with⟨_,_,h,_⟩|⟨_,h,_⟩|⟨r,R,h,z,_,d6⟩
    .cases h
    .cases h
    .cases h;have f6:=b8.tm.2 0 (.v<|.at<|.kp n J t') B[M] (by rw[f5];rfl) (by simp)
     obtain⟨e1,e2,e3⟩:=f6.2 R z;have c8:jr<ys.length:=by rw[c7];exact(qA.1 I).1
     have hy:=qB c8;have e4:=(c9 jr _ _ I hy).2 R z;simp only[zbg,qC] at e4;refine⟨e1 ▸ R.l,?_,by rw[hy,<- e4,e2],?_⟩
     .rw [d6];cases e1;rfl
     .rw [hM.κ] at e3;exact e3)
 refine a0.mono ?_;intro ex w' U;cases ex with|returned v=>exact U|panicked d1=>exact U.elim|outgrown=>exact U.elim
end
def zbh (h:Host):List CV:=[.s (.sl .int) h.Memory,.s .mon h.Mons,.s .entry h.Buffer,.s .entry h.IoBuffer]
def zzo (c:Ctl):List CV:=[.i .i64 c.Traps,.i .i64 c.Post,.b c.Open]
def zuh (e:GExit):List CV:=[.i .i64 e.Kind,.i .i64 e.Page,.b e.Write,.i .i64 e.N]
structure Cur where
 b:List Int
 i:Int
 h:Int
def zgQ (c:Cur):List CV:=[.s .u8 c.b,.i .i64 c.i,.i .i64 c.h]
def zq:List (Nat×Nat×Tmpl)->FuncId->Nat->Option Tmpl
 |[],_,_=>none
 |(g,c,T)::r,f,b=>cond (Nat.beq g f) (cond (Nat.beq c b) (some T)<|zq r f b) (zq r f b)
def pc (p:Prop):Bool:=@decide p (Classical.propDecidable p)
theorem zD {p:Prop}:pc p=true↔p:=by unfold pc;exact @decide_eq_true_iff p (Classical.propDecidable p)
theorem zba {p:Prop}(h:p):pc p=true:=zD.2 h
inductive CVB (K:Nat):CV->Prop
 |i (k:IntKind) (n:Int):CVB K (.i k n)
 |b (x:Bool):CVB K (.b x)
 |s (t:Ty) (l:List t.den) (hl:l.length<=K) (h:∀x∈l,∀c∈t.cells x,CVB K c):CVB K (.s t l)
theorem CVB.inv {K:Nat}{t:Ty}{l:List t.den}(h:CVB K (.s t l)):l.length<=K/\∀x∈l,∀c∈t.cells x,CVB K c:=by cases h with|s _ _ a h=>exact⟨a,h⟩
theorem CVB.len {K:Nat}{t:Ty}{l:List t.den}(h:CVB K (.s t l)):l.length<=K:=h.inv.1
theorem CVB.mono {K L:Nat}(a:K<=L){c:CV}(h:CVB K c):CVB L c:=by induction h with|i k n=>exact .i k n|b x=>exact .b x|s t l d h e=>exact .s t l (jB d a) e
theorem CVB.of_rep {o:Bool}{w:World}{v:Value}{c:CV}{S:zbl}(h:Rep o w v c S):CVB big c:=by
 induction h with
 |i k n S=>exact .i k n
 |b x S=>exact .b x
 |nil t S=>exact .s t [] (jW _) (λx h=>by cases h)
 |void t a S I=>exact .s t [] (jW _) (λx h=>by cases h)
 |sl t l b D r q e E V K S G u d g A F p m J H C=>refine .s t l d (λx B c f=>?_);obtain⟨i,y⟩:=qQ.1 B;obtain⟨j,z⟩:=qQ.1 f;exact C i x y j c z
theorem CVB.of_ok {c:CV}(h:CVOk c):CVB big c:=by induction h with|i k n _=>exact .i k n|b x=>exact .b x|s t l f h m=>refine .s t l f (λx g c a=>?_);obtain⟨i,d⟩:=qQ.1 g;obtain⟨j,e⟩:=qQ.1 a;exact m i x d j c e
def zbE (K:Nat)(a:List AV):Prop:=∀c∈zF a,CVB K c
theorem zcV {K:Nat}{a:AV}{b:List AV}(h:zbE K (a::b)):(∀c∈a.cvs,CVB K c)/\zbE K b:=by unfold zbE zF at *;simp only[kD,jP]at h;exact⟨λc d=>h c (.inl d),λc d=>h c (.inr d)⟩
theorem zYD {a:List AV}(h:∃w e,zei false w (zF a) e λ_ b=>b<w.heap.size):zbE big a:=by obtain⟨w,e,g,j⟩:=h;intro c k;obtain⟨i,f⟩:=qQ.1 k;have d:i<e.length:=(by rw[g];exact(qA.1 f).1);exact CVB.of_rep (j i c _ f<|qB d)
theorem zmZ {b:List CV}{a:List AV}(h:∃(w:World) (f:Nat->Value) (K:Nat->zbl),∀(j:Nat) (c:CV),(b++zF a)[j]?=some c->Rep false w (f j) c (K j)):zbE big (.agg b::a):=by obtain⟨w,f,K,h⟩:=h;intro c d;have e:zF (AV.agg b::a)=b++zF a:=(by simp[zF,AV.cvs]);rw[e]at d;obtain⟨j,g⟩:=qQ.1 d;exact CVB.of_rep (h j c g)
theorem zo4 {b c:Bool}{x y:List CV}{z u:List AV}(h:some (b,x,z)=some (c,y,u)):b=c/\y=x/\u=z:=by cases h;exact⟨rfl,rfl,rfl⟩
theorem zfo {b c:Bool}{x y:List AV}(h:some (b,x)=some (c,y)):b=c/\y=x:=by cases h;exact⟨rfl,rfl⟩
abbrev zbd:=List (Nat×(List AV->Option (Bool×List AV)))
def zOk:zbd:=[]
theorem ze2:∀f a,zx zOk f=some a->Holds Tryz.prog f a:=λf a h=>by cases h
abbrev zQ (l:zbd):Prop:=∀f a,zx l f=some a->Holds Tryz.prog f a
abbrev vV:=Holds Tryz.prog
theorem zf {l:zbd}{f:Nat}{a:List AV->Option (Bool×List AV)}(h:vV f a)(b:zQ l):zQ ((f,a)::l):=by intro g r hg;unfold zx at hg;split at hg;{rename_i e;cases hg;rw[<- qM.1 e];exact h};{exact b g r hg}
abbrev ziB:=List (Nat×(CV->Int->Option (Bool×CV×Int)))
def z7B:ziB:=[]
abbrev zg2 (m:ziB):Prop:=∀f a,zx m f=some a->zKQ Tryz.prog f a
theorem zbf:zg2 z7B:=λf a h=>by cases h
abbrev zeE:=List (Nat×List Bool×(List CV->List AV->Option (Bool×List CV×List AV)))
def zQJ:zeE:=[]
abbrev zdj (p:zeE):Prop:=∀f own a,zx p f=some (own,a)->zec Tryz.prog f own a
theorem zn:zdj zQJ:=λf own a h=>by cases h
theorem zfr {l m:zeE}(c:∀f own a,zx m f=some (own,a)->zec Tryz.prog f own a)(b:∀x∈l,zec Tryz.prog x.1 x.2.1 x.2.2):∀f own a,zx (l++m) f=some (own,a)->zec Tryz.prog f own a:=by intro f own a h;rw[zb3]at h;split at h;{rename_i y d;cases h;exact b _ (zpy d)};{exact c f own a h}
abbrev zgP:=List (Nat×List Bool×Option (Nat×Nat×List (List Nat))×(List AV->Option (Bool×List AV)))
def zXZ:zgP:=[]
abbrev zfu (t:zgP):Prop:=∀f own a b,zx t f=some (own,a,b)->zfB Tryz.prog f own a b
theorem zo:zfu zXZ:=λf own a b h=>by cases h
theorem zsd {l m:zgP}(d:∀f own a b,zx m f=some (own,a,b)->zfB Tryz.prog f own a b)(c:∀x∈l,zfB Tryz.prog x.1 x.2.1 x.2.2.1 x.2.2.2):∀f own a b,zx (l++m) f=some (own,a,b)->zfB Tryz.prog f own a b:=by intro f own a b h;rw[zb3]at h;split at h;{rename_i y e;cases h;exact c _ (zpy e)};{exact d f own a b h}
abbrev cQ (c:zbd)(m:ziB)(p:zeE)(t:zgP):Cfg:=zoA (zx c) (zx m) (zx p) (zx t)
theorem zVT {c:zbd}{m:ziB}{p:zeE}{t:zgP}(k:zQ c)(l:zg2 m)(n:zdj p)(q:zfu t){f:FuncId}{b:List AV->Option (Bool×List AV)}(i:FnOk Tryz.prog f)(h:∀a d,zbE big a->b a=some (true,d)->∃g N,evalFn (cQ c m p t) g N 12 f a=some d):vV f b :=
 zAU (zin k l n q) i λa d j e=>(h a d (zYD j) e).elim λt x=>x.elim λN y=>⟨t,N,12,y⟩
noncomputable def zgB (f:FuncId):Bool :=
 match Tryz.prog.funcs[f]? with
 |some a=>a.body.isSome && !(a.name == "runtime.NumGoroutine")
 |none=>false
theorem zkm {f:FuncId}(h:zgB f=true):FnOk Tryz.prog f:=by unfold zgB at h;split at h;{rename_i a d;simp only[qE,jF]at h;obtain⟨b,c⟩:=uW.1 h.1;exact⟨a,b,d,c,h.2⟩};{cases h}
abbrev oN {b:Type}(c:Bool)(a:Option b):Option b:=bif c then a else none
abbrev nB (c:Bool):Bool:=bif c then false else true
abbrev ti:AT:=.i .i64
structure Dc (α:Type) where
 d:AV->Option α
 e:α->AV
 h:∀{a x},d a=some x->a=e x
abbrev aI (x:Int):AV:=.one (.i .i64 x)
abbrev aB (x:Bool):AV:=.one (.b x)
abbrev aS (t:Ty)(l:List t.den):AV:=.one (.s t l)
abbrev aT (t:Ty)(x:t.den):AV:=.agg (t.cells x)
abbrev aH (h:Host):AV:=.agg (zbh h)
abbrev OA:=Option Ans
abbrev oF:OA:=some [aB false]
abbrev oT:OA:=some [aB true]
abbrev lA:=List GAct
abbrev lB:=List Bool
abbrev lE:=List Entry
abbrev lG:=List Guest
abbrev lI:=List Ins
abbrev lK:=List Kept
abbrev lM:=List (List Int)
abbrev lN:=List Mon
abbrev lP:=List (List Ins)
abbrev lQ:=List (List<|List Ins)
abbrev lR:=List Bare
abbrev lS:=List Slot
abbrev lT:=List Told
def dI:Dc Int:=⟨λa=>match a with | .one (.i .i64 x)=>some x|_=>none,aI,λ{a x} h=>by split at h<;>cases h;rfl⟩
def dB:Dc Bool:=⟨λa=>match a with | .one (.b x)=>some x|_=>none,aB,λ{a x} h=>by split at h<;>cases h;rfl⟩
def dS (t:Ty):Dc (List t.den):=⟨λa=>match a with | .one (.s b l)=>if h:b=t then some (h ▸ l) else none|_=>none,aS t,λ{a x} h=>by
 split at h
 .rename_i b l;split at h
  .rename_i e;subst e;cases h;rfl
  .cases h
 .cases h⟩
def dT (t:Ty):Dc t.den:=⟨λa=>match a with | .agg b=>t.ofCells b|_=>none,aT t,λ{a x} h=>by
 split at h
 .rw [<- zmr h]
 .cases h⟩
def dH:Dc Host:=⟨λa=>match a with | .agg [.s (.sl .int) x,.s .mon y,.s .entry z,.s .entry u]=>some ⟨x,y,z,u⟩|_=>none,aH,λ{a x} h=>by split at h<;>cases h;rfl⟩
def dC:Dc Ctl:=⟨λa=>match a with | .agg [.i .i64 x,.i .i64 y,.b z]=>some ⟨x,y,z⟩|_=>none,λx=>.agg (zzo x),λ{a x} h=>by split at h<;>cases h;rfl⟩
def dE:Dc GExit:=⟨λa=>match a with | .agg [.i .i64 x,.i .i64 y,.b z,.i .i64 u]=>some ⟨x,y,z,u⟩|_=>none,λx=>.agg (zuh x),λ{a x} h=>by split at h<;>cases h;rfl⟩
abbrev Run:=List AV->Option (Bool×List AV)
def eat {b:Type}(D:Dc b)(k:b->Run):Run
 |[]=>none
 |a::l=>match D.d a with
  |some x=>k x l
  |none=>none
def stop (r:Bool×List AV):Run
 |[]=>some r
 |_=>none
theorem zbaR {c:Type}{D:Dc c}{k:c->Run}{b:List AV}{r:Bool×List AV}(h:eat D k b=some r):∃x l,b=D.e x::l/\k x l=some r:=by unfold eat at h;split at h;{cases h};{rename_i a l;split at h;{rename_i x d;exact⟨x,l,by rw[D.h d],h⟩};{cases h}}
theorem z8r {q r:Bool×List AV}{a:List AV}(h:stop q a=some r):a=[]/\r=q:=by unfold stop at h;split at h<;>cases h;exact⟨rfl,rfl⟩
theorem zbX {p:Nat->Prop}(h:∀N,(∀{n:Nat},n<=big->n<N)->p N):∃N,p N:=⟨big+1,h _ λh=>Nat.lt_succ_of_le h⟩
theorem len0 {t:Ty}{l:List t.den}{r:List AV}(a:zbE big (.one (.s t l)::r)):l.length<=big:=((zcV a).1 _ (qF.2 rfl)).len
def Read (c:zbd)(m:ziB)(p:zeE)(t:zgP)(d:FuncId->Nat->Option Tmpl)(f:FuncId)(b:List AV)(r:Run):Prop:=∀a e,zbE big (b++a)->r a=some (true,e)->∃N,evalFn (cQ c m p t) d N 12 f (b++a)=some e
theorem zer {c:zbd}{m:ziB}{p:zeE}{t:zgP}{d:FuncId->Nat->Option Tmpl}{f:FuncId}{b:List AV}{g:Type}{D:Dc g}{k:g->Run}(h:∀a,Read c m p t d f (b++[D.e a])<|k a):Read c m p t d f b (eat D k):=by intro i r q e;obtain⟨x,l,n,j⟩:=zbaR e;subst n;have:=h x l r (by simpa using q) j;simpa using this
theorem zno {c:zbd}{m:ziB}{p:zeE}{t:zgP}{d:FuncId->Nat->Option Tmpl}{f:FuncId}{a:List AV}{g:Bool×List AV}{E:Nat->OA}(h:zbE big a->g.1=true->∃N,E N=some g.2)(n:∀N,evalFn (cQ c m p t) d N 12 f a=E N):Read c m p t d f a (stop g):=by intro j q i e;obtain⟨l,k⟩:=z8r e;subst l;cases g with|mk b x=>cases k;rw[jG]at i ⊢;obtain⟨N,e⟩:=h i rfl;exact⟨N,(n N).trans e⟩
theorem zpE {c:zbd}{m:ziB}{p:zeE}{t:zgP}(i:zQ c)(j:zg2 m)(k:zdj p)(l:zfu t){a:FuncId->Nat->Option Tmpl}{f:FuncId}{r:Run}(g:zgB f=true)(h:Read c m p t a f [] r):vV f r :=
 zVT i j k l (zkm g) λb n d e=>(h b n d e).elim λN x=>⟨a,N,x⟩
def rF0  (g:Bool×List AV):Run:=stop g
theorem hF0 {c:zbd}{m:ziB}{p:zeE}{t:zgP}(j:zQ c)(k:zg2 m)(l:zdj p)(n:zfu t)(b:FuncId->Nat->Option Tmpl){g:Bool×List AV}{E:Nat->OA}{f:FuncId}(a:zbE big []->g.1=true->∃N,E N=some g.2)(i:∀N,evalFn (cQ c m p t) b N 12 f []=E N:=by intros;kernel_rfl)(h:zgB f=true:=by kernel_rfl):vV f (rF0 g):=
 zpE j k l n h (zno (λd e=>a d e) λN=>i N)
theorem kF0 {c:zbd}{m:ziB}{p:zeE}{t:zgP}(h:zQ c)(i:zg2 m)(j:zdj p)(k:zfu t)(a:FuncId->Nat->Option Tmpl){g:Bool×List AV}{E:Nat->OA}{f:FuncId}(b:g.1=true->∃N,E N=some g.2)(e:∀N,evalFn (cQ c m p t) a N 12 f []=E N:=by intros;kernel_rfl)(d:zgB f=true:=by kernel_rfl):vV f (rF0 g):=hF0 h i j k a (λ_=>b) e d
def rF1 {a:Type}(b:Dc a)(g:a->Bool×List AV):Run:=eat b λc=>stop (g c)
theorem hF1 {b:Type}{c:zbd}{m:ziB}{p:zeE}{t:zgP}(q:zQ c)(r:zg2 m)(s:zdj p)(u:zfu t)(i:FuncId->Nat->Option Tmpl){d:Dc b}{g:b->Bool×List AV}{E:Nat->b->OA}{f:FuncId}(h:∀a,zbE big [d.e a]->(g a).1=true->∃N,E N a=some (g a).2)(n:∀N a,evalFn (cQ c m p t) i N 12 f [d.e a]=E N a:=by intros;kernel_rfl)(l:zgB f=true:=by kernel_rfl):vV f (rF1 d g):=
 zpE q r s u l (zer λa=>zno (λj k=>h a j k) λN=>n N a)
theorem kF1 {d:Type}{c:zbd}{m:ziB}{p:zeE}{t:zgP}(l:zQ c)(n:zg2 m)(q:zdj p)(r:zfu t)(b:FuncId->Nat->Option Tmpl){i:Dc d}{g:d->Bool×List AV}{E:Nat->d->OA}{f:FuncId}(h:∀a,(g a).1=true->∃N,E N a=some (g a).2)(k:∀N a,evalFn (cQ c m p t) b N 12 f [i.e a]=E N a:=by intros;kernel_rfl)(j:zgB f=true:=by kernel_rfl):vV f (rF1 i g):=hF1 l n q r b (λa _=>h a) k j
def rF2 {a b:Type}(c:Dc a)(d:Dc b)(g:a->b->Bool×List AV):Run:=eat c λe=>eat d λf=>stop (g e f)
theorem hF2 {d h:Type}{c:zbd}{m:ziB}{p:zeE}{t:zgP}(u:zQ c)(v:zg2 m)(w:zdj p)(x:zfu t)(l:FuncId->Nat->Option Tmpl){i:Dc d}{j:Dc h}{g:d->h->Bool×List AV}{E:Nat->d->h->OA}{f:FuncId}(k:∀a b,zbE big [i.e a,j.e b]->(g a b).1=true->∃N,E N a b=some (g a b).2)(s:∀N a b,evalFn (cQ c m p t) l N 12 f [i.e a,j.e b]=E N a b:=by intros;kernel_rfl)(r:zgB f=true:=by kernel_rfl):vV f (rF2 i j g):=
 zpE u v w x r (zer λa=>zer λb=>zno (λn q=>k a b n q) λN=>s N a b)
theorem kF2 {h i:Type}{c:zbd}{m:ziB}{p:zeE}{t:zgP}(r:zQ c)(s:zg2 m)(u:zdj p)(v:zfu t)(d:FuncId->Nat->Option Tmpl){k:Dc h}{l:Dc i}{g:h->i->Bool×List AV}{E:Nat->h->i->OA}{f:FuncId}(j:∀a b,(g a b).1=true->∃N,E N a b=some (g a b).2)(q:∀N a b,evalFn (cQ c m p t) d N 12 f [k.e a,l.e b]=E N a b:=by intros;kernel_rfl)(n:zgB f=true:=by kernel_rfl):vV f (rF2 k l g):=hF2 r s u v d (λa b _=>j a b) q n
def rF3 {a b c:Type}(d:Dc a)(e:Dc b)(f:Dc c)(g:a->b->c->Bool×List AV):Run:=eat d λh=>eat e λi=>eat f λj=>stop (g h i j)
theorem hF3 {h i j:Type}{c:zbd}{m:ziB}{p:zeE}{t:zgP}(x:zQ c)(y:zg2 m)(z:zdj p)(A:zfu t)(r:FuncId->Nat->Option Tmpl){k:Dc h}{l:Dc i}{n:Dc j}{g:h->i->j->Bool×List AV}{E:Nat->h->i->j->OA}{f:FuncId}(q:∀a b d,zbE big [k.e a,l.e b,n.e d]->(g a b d).1=true->∃N,E N a b d=some (g a b d).2)(w:∀N a b d,evalFn (cQ c m p t) r N 12 f [k.e a,l.e b,n.e d]=E N a b d:=by intros;kernel_rfl)(v:zgB f=true:=by kernel_rfl):vV f (rF3 k l n g):=
 zpE x y z A v (zer λa=>zer λb=>zer λd=>zno (λs u=>q a b d s u) λN=>w N a b d)
theorem kF3 {i j k:Type}{c:zbd}{m:ziB}{p:zeE}{t:zgP}(v:zQ c)(w:zg2 m)(x:zdj p)(y:zfu t)(h:FuncId->Nat->Option Tmpl){n:Dc i}{q:Dc j}{r:Dc k}{g:i->j->k->Bool×List AV}{E:Nat->i->j->k->OA}{f:FuncId}(l:∀a b d,(g a b d).1=true->∃N,E N a b d=some (g a b d).2)(u:∀N a b d,evalFn (cQ c m p t) h N 12 f [n.e a,q.e b,r.e d]=E N a b d:=by intros;kernel_rfl)(s:zgB f=true:=by kernel_rfl):vV f (rF3 n q r g):=hF3 v w x y h (λa b d _=>l a b d) u s
def rF4 {a b c d:Type}(e:Dc a)(f:Dc b)(h:Dc c)(i:Dc d)(g:a->b->c->d->Bool×List AV):Run:=eat e λj=>eat f λk=>eat h λl=>eat i λm=>stop (g j k l m)
theorem hF4 {i j k l:Type}{c:zbd}{m:ziB}{p:zeE}{t:zgP}(A:zQ c)(B:zg2 m)(C:zdj p)(D:zfu t)(v:FuncId->Nat->Option Tmpl){n:Dc i}{q:Dc j}{r:Dc k}{s:Dc l}{g:i->j->k->l->Bool×List AV}{E:Nat->i->j->k->l->OA}{f:FuncId}(u:∀a b d h,zbE big [n.e a,q.e b,r.e d,s.e h]->(g a b d h).1=true->∃N,E N a b d h=some (g a b d h).2)(z:∀N a b d h,evalFn (cQ c m p t) v N 12 f [n.e a,q.e b,r.e d,s.e h]=E N a b d h:=by intros;kernel_rfl)(y:zgB f=true:=by kernel_rfl):vV f (rF4 n q r s g):=
 zpE A B C D y (zer λa=>zer λb=>zer λd=>zer λh=>zno (λw x=>u a b d h w x) λN=>z N a b d h)
theorem kF4 {j k l n:Type}{c:zbd}{m:ziB}{p:zeE}{t:zgP}(y:zQ c)(z:zg2 m)(A:zdj p)(B:zfu t)(i:FuncId->Nat->Option Tmpl){r:Dc j}{s:Dc k}{u:Dc l}{v:Dc n}{g:j->k->l->n->Bool×List AV}{E:Nat->j->k->l->n->OA}{f:FuncId}(q:∀a b d h,(g a b d h).1=true->∃N,E N a b d h=some (g a b d h).2)(x:∀N a b d h,evalFn (cQ c m p t) i N 12 f [r.e a,s.e b,u.e d,v.e h]=E N a b d h:=by intros;kernel_rfl)(w:zgB f=true:=by kernel_rfl):vV f (rF4 r s u v g):=hF4 y z A B i (λa b d h _=>q a b d h) x w
def rF5 {a b c d e:Type}(f:Dc a)(h:Dc b)(i:Dc c)(j:Dc d)(k:Dc e)(g:a->b->c->d->e->Bool×List AV):Run:=eat f λl=>eat h λm=>eat i λn=>eat j λp=>eat k λq=>stop (g l m n p q)
theorem hF5 {j k l n q:Type}{c:zbd}{m:ziB}{p:zeE}{t:zgP}(D:zQ c)(F:zg2 m)(G:zdj p)(H:zfu t)(y:FuncId->Nat->Option Tmpl){r:Dc j}{s:Dc k}{u:Dc l}{v:Dc n}{w:Dc q}{g:j->k->l->n->q->Bool×List AV}{E:Nat->j->k->l->n->q->OA}{f:FuncId}(x:∀a b d h i,zbE big [r.e a,s.e b,u.e d,v.e h,w.e i]->(g a b d h i).1=true->∃N,E N a b d h i=some (g a b d h i).2)(C:∀N a b d h i,evalFn (cQ c m p t) y N 12 f [r.e a,s.e b,u.e d,v.e h,w.e i]=E N a b d h i:=by intros;kernel_rfl)(B:zgB f=true:=by kernel_rfl):vV f (rF5 r s u v w g):=
 zpE D F G H B (zer λa=>zer λb=>zer λd=>zer λh=>zer λi=>zno (λz A=>x a b d h i z A) λN=>C N a b d h i)
theorem kF5 {k l n q r:Type}{c:zbd}{m:ziB}{p:zeE}{t:zgP}(B:zQ c)(C:zg2 m)(D:zdj p)(F:zfu t)(j:FuncId->Nat->Option Tmpl){u:Dc k}{v:Dc l}{w:Dc n}{x:Dc q}{y:Dc r}{g:k->l->n->q->r->Bool×List AV}{E:Nat->k->l->n->q->r->OA}{f:FuncId}(s:∀a b d h i,(g a b d h i).1=true->∃N,E N a b d h i=some (g a b d h i).2)(A:∀N a b d h i,evalFn (cQ c m p t) j N 12 f [u.e a,v.e b,w.e d,x.e h,y.e i]=E N a b d h i:=by intros;kernel_rfl)(z:zgB f=true:=by kernel_rfl):vV f (rF5 u v w x y g):=hF5 B C D F j (λa b d h i _=>s a b d h i) A z
def rF6 {a b c d e f:Type}(h:Dc a)(i:Dc b)(j:Dc c)(k:Dc d)(l:Dc e)(m:Dc f)(g:a->b->c->d->e->f->Bool×List AV):Run:=eat h λn=>eat i λp=>eat j λq=>eat k λr=>eat l λs=>eat m λt=>stop (g n p q r s t)
theorem hF6 {k l n q r s:Type}{c:zbd}{m:ziB}{p:zeE}{t:zgP}(H:zQ c)(I:zg2 m)(J:zdj p)(K:zfu t)(B:FuncId->Nat->Option Tmpl){u:Dc k}{v:Dc l}{w:Dc n}{x:Dc q}{y:Dc r}{z:Dc s}{g:k->l->n->q->r->s->Bool×List AV}{E:Nat->k->l->n->q->r->s->OA}{f:FuncId}(A:∀a b d h i j,zbE big [u.e a,v.e b,w.e d,x.e h,y.e i,z.e j]->(g a b d h i j).1=true->∃N,E N a b d h i j=some (g a b d h i j).2)(G:∀N a b d h i j,evalFn (cQ c m p t) B N 12 f [u.e a,v.e b,w.e d,x.e h,y.e i,z.e j]=E N a b d h i j:=by intros;kernel_rfl)(F:zgB f=true:=by kernel_rfl):vV f (rF6 u v w x y z g):=
 zpE H I J K F (zer λa=>zer λb=>zer λd=>zer λh=>zer λi=>zer λj=>zno (λC D=>A a b d h i j C D) λN=>G N a b d h i j)
theorem kF6 {l n q r s u:Type}{c:zbd}{m:ziB}{p:zeE}{t:zgP}(F:zQ c)(G:zg2 m)(H:zdj p)(I:zfu t)(k:FuncId->Nat->Option Tmpl){w:Dc l}{x:Dc n}{y:Dc q}{z:Dc r}{A:Dc s}{B:Dc u}{g:l->n->q->r->s->u->Bool×List AV}{E:Nat->l->n->q->r->s->u->OA}{f:FuncId}(v:∀a b d h i j,(g a b d h i j).1=true->∃N,E N a b d h i j=some (g a b d h i j).2)(D:∀N a b d h i j,evalFn (cQ c m p t) k N 12 f [w.e a,x.e b,y.e d,z.e h,A.e i,B.e j]=E N a b d h i j:=by intros;kernel_rfl)(C:zgB f=true:=by kernel_rfl):vV f (rF6 w x y z A B g):=hF6 F G H I k (λa b d h i j _=>v a b d h i j) D C
theorem zk8 {a:List AV}(h:∃(w:World) (b:Nat->Value) (K:Nat->zbl),∀(j:Nat) (c:CV),(zF a)[j]?=some c->Rep false w (b j) c (K j)):zbE big a:=by obtain⟨w,b,K,h⟩:=h;intro c d;obtain⟨j,e⟩:=qQ.1 d;exact CVB.of_rep (h j c e)
theorem cT {a:Type}(x y:a):(cond true x y)=x:=by simp
theorem cF {a:Type}(x y:a):(cond false x y)=y:=by simp
theorem zx9:big=140737488355328:=rfl
theorem zuW {x:Int}(a : -9223372036854775808<=x)(b:x<=9223372036854775807):IntKind.i64.wrap x=x:=by simp only[IntKind.wrap,IntKind.signed,IntKind.bits];simp;omega
theorem zsf {x y:Int}(a : -9223372036854775808<=x+y)(b:x+y<=9223372036854775807):zN .i64 x y=x+y:=zuW a b
theorem zuX {x y:Int}(a : -9223372036854775808<=x-y)(b:x-y<=9223372036854775807):wsub .i64 x y=x-y:=zuW a b
theorem zX {i n:Nat}(h:i<n)(a:n<=big):zN .i64 (i:Int) 1=((i+1:Nat):Int):=by rw[zx9]at a;rw[zsf (by omega) (by omega)];omega
section
variable {α:Type}
theorem zbn {l:List α}{i:Nat}(h:i<l.length):ilt (i:Int) (ln l)=true:=by unfold ilt ln;exact qK (by omega)
theorem zbe {l:List α}:ilt ((l.length:Nat):Int) (ln l)=false:=by unfold ilt ln;exact qH (by omega)
theorem zU {l:List α}{i:Nat}(h:i<l.length):inb (i:Int) (ln l)=true:=by unfold inb ln;exact qK (by omega)
theorem zbb {l:List α}{i:Nat}(h:i<l.length)(d:α):ix l (i:Int) d=l[i]:=by unfold ix;simp[List.getD,qB h]
theorem zfE {l:List α}(h:l.length<=2147483648):few (ln l)=true:=by unfold few ln;exact qK (by omega)
theorem zdS (x:Int):ieq x x=true:=by simp[ieq]
theorem zcM (x:Int):ine x x=false:=by simp[ine]
theorem zfm (x:Bool):zk9 x x=true:=by simp[zk9]
end
theorem zeH {a b:Type}(n:Nat)(F:(a->Option b)->a->Option b)(s:a):iter (n+1) F s=F (iter n F) s:=rfl
def goL {d c b:Type}(a:Nat->d->c->(c->Option b)->Option b)(K:c->Option b):List d->Nat->c->Option b
 |[],_,t=>K t
 |x::l,i,t=>a i x t (goL a K l<|i+1)
theorem zY {q b d σ:Type}(l:List q)(g:Nat->b->σ)(F:(σ->Option d)->σ->Option d)(a:Nat->q->b->(b->Option d)->Option d)(K:b->Option d)(c:∀(i:Nat) (p:i<l.length) (t:b) (rec:σ->Option d),F rec (g i t)=a i l[i] t λk=>rec (g (i+1) k))(e:∀(t:b) (rec:σ->Option d),F rec (g l.length t)=K t) :
 ∀(N:Nat) (t:b),l.length<N->iter N F (g 0 t)=goL a K l 0 t:=by
 have j:∀(m i N:Nat) (t:b),l.length-i=m->i<=l.length->m<N->iter N F (g i t)=goL a K (l.drop i) i t:=by intro m;induction m with|zero=>intro i N t r p h;have:i=l.length:=(by omega);subst this;obtain⟨n,rfl⟩:∃n,N=n+1:=⟨N-1,by omega⟩;rw[zeH,e,vR];rfl|succ m s=>intro i N t r p h;obtain⟨n,rfl⟩:∃n,N=n+1:=⟨N-1,by omega⟩;have f:i<l.length:=(by omega);rw[zeH,c i f,j5 f];simp only[goL];congr 1;funext k;exact s (i+1) n k (by omega) (by omega) (by omega)
 intro N t h;have:=j l.length 0 N t (by omega) (jW _) h
 simpa using this
def goN {c b:Type}(a:Nat->c->(c->Option b)->Option b)(K:c->Option b):Nat->Nat->c->Option b
 | 0,_,t=>K t
 |n+1,i,t=>a i t (goN a K n<|i+1)
theorem zzP {b d σ:Type}(n:Nat)(g:Nat->b->σ)(F:(σ->Option d)->σ->Option d)(a:Nat->b->(b->Option d)->Option d)(K:b->Option d)(c:∀(i:Nat) (q:i<n) (t:b) (rec:σ->Option d),F rec (g i t)=a i t λp=>rec (g (i+1) p))(f:∀(t:b) (rec:σ->Option d),F rec (g n t)=K t) :
 ∀(N:Nat) (t:b),n<N->iter N F (g 0 t)=goN a K n 0 t:=by
 have l:∀(m i N:Nat) (t:b),n-i=m->i<=n->m<N->iter N F (g i t)=goN a K (n-i) i t:=by intro m;induction m with|zero=>intro i N t r q h;have:i=n:=(by omega);subst this;obtain⟨k,rfl⟩:∃k,N=k+1:=⟨N-1,by omega⟩;rw[zeH,f,kY];rfl|succ m s=>intro i N t r q h;obtain⟨k,rfl⟩:∃k,N=k+1:=⟨N-1,by omega⟩;have j:i<n:=(by omega);have e:n-i=(n-(i+1))+1:=(by omega);rw[zeH,c i j,e];simp only[goN];congr 1;funext p;exact s (i+1) k p (by omega) (by omega) (by omega)
 intro N t h;have:=l n 0 N t (by omega) (jW _) h
 simpa using this
theorem zmA {b h:Type}(l:List b)(d:b)(F:(Int×List b×List b×Unit->Option h)->Int×List b×List b×Unit->Option h)(k:Option h)(p:l.length<=big)(a:∀(i:Nat) (j:i<l.length) rec,F rec ((i:Int),l,l,())=rec (zN .i64 (i:Int) 1,l,l,()))(c:∀rec,F rec ((l.length:Int),l,l,())=k){N:Nat}(f:l.length<N) :
 iter N F (0,l,l,())=k:=by
 have g:∀(m i N:Nat),l.length-i=m->i<=l.length->m<N->iter N F ((i:Int),l,l,())=k:=by intro m;induction m with|zero=>intro i N q j f;have:i=l.length:=(by omega);subst this;obtain⟨n,rfl⟩:∃n,N=n+1:=⟨N-1,by omega⟩;rw[zeH,c]|succ m r=>intro i N q j f;obtain⟨n,rfl⟩:∃n,N=n+1:=⟨N-1,by omega⟩;have e:i<l.length:=(by omega);rw[zeH,a i e,zX e p];exact r (i+1) n (by omega) (by omega) (by omega)
 exact g l.length 0 N (by omega) (jW _) f
def sm:Nat:=1048576
theorem znm:pc True=true:=zba trivial
theorem zcu {n:Nat}(h:n<=sm):n<=big/\n<=2147483648:=by unfold sm at h;rw[zx9];omega
def hasB (i n:Int):Bool:=decide (0<=i/\i<n)
theorem has_eq (i n:Int):(ige i 0&&ilt i n)=hasB i n:=by unfold ige ilt hasB;by_cases a:0<=i<;>by_cases b:i<n<;>simp [a,b]
theorem zA {i n:Int}(h:hasB i n=true):inb i n=true:=h
theorem zeN {i:Int}{n:Nat}(h:hasB i n=true):∃k:Nat,i=k/\k<n:=by have:0<=i/\i<n:=qD h;exact⟨i.toNat,by omega,by omega⟩
theorem zbQ {b:Type}{l:List b}{i:Int}(h:hasB i (ln l)=true)(d:b):ix l i d∈l:=by obtain⟨k,rfl,a⟩:=zeN (n:=l.length) h;rw[zbb a];exact jA a
theorem zoJ {a:Type}(l:List a):ap [] l=l:=rfl
theorem zkG {b m:Type}(c:b->Bool)(f:b->b)(K:List b->Option m):∀(l:List b) (i:Nat) (a:List b),(∀x∈l,c x=true/\f x=x)->a.length+l.length<=2147483648->
 goL (λ_ x a k=>bif c x then (cond (few<|ln<|ap a [f x]) (k<|ap a [f x]) none) else none) K l i a=K (a++l)
 |[],i,a,_,_=>by simp[goL]
 |x::l,i,a,h,g=>by obtain⟨d,e⟩:=h x (by simp);simp only[qU]at g;simp only[goL,d,e,cT];rw[zfE (by simp[ap];omega),cT,zkG c f K l (i+1) _ (λy j=>h y (by simp[j])) (by simp[ap];omega)];simp[ap]
def zdv (h:Host):Prop:=∀c∈zbh h,CVB sm c
theorem zdv.mem {h:Host}(a:zdv h):CVB sm (.s (.sl .int) h.Memory):=a _ (by simp[zbh])
theorem zdv.mons {h:Host}(a:zdv h):CVB sm (.s .mon h.Mons):=a _ (by simp[zbh])
theorem zqg {t:Ty}{l:List t.den}(h:CVB sm (.s t l)):few (ln l)=true:=zfE (zcu h.len).2
def NN:Nat:=big+1
theorem zbcU {n:Nat}(h:n<=big):n<NN:=Nat.lt_succ_of_le h
def zoy (p:Nat->Bool):Nat->Nat->Bool
 | 0,_=>true
 |n+1,i=>p i&&zoy p n (i+1)
theorem zyh {a:Type}(p:Nat->Bool)(r:Option a)(K:Unit->Option a):∀(n i:Nat),goN (λi (_:Unit) k=>bif p i then k () else r) K n i ()=bif zoy p n i then K () else r
 | 0,_=>rfl
 |n+1,i=>by simp only[goN,zoy];cases p i;{rfl};{simp only [cT,uP];exact zyh p r K n (i+1)}
theorem zuM {e a c:Type}(b:Nat->a->(a->Option c)->Option c)(K:a->Option c):∀(l:List e) (i:Nat) (t:a),goL (λi _ t k=>b i t k) K l i t=goN b K l.length i t
 |[],_,_=>rfl
 |_::l,i,t=>by have d:goL (λi _ t k=>b i t k) K l (i+1)=goN b K l.length (i+1):=funext λt=>zuM b K l (i+1) t;simp only[goL,qU,goN,d]
theorem zhi {a b:Type}(p:a->Bool)(r:Option b)(K:Unit->Option b):∀(l:List a) (i:Nat),goL (λ_ x (_:Unit) k=>bif p x then k () else r) K l i ()=bif l.all p then K () else r
 |[],_=>rfl
 |x::l,i=>by simp only[goL,k9];cases p x;{rfl};{simp only [cT,uP];exact zhi p r K l (i+1)}
theorem zMx {n:Nat}(c:n<=big)(i:Int):(ige i 0&&ile i (wsub .i64 (n:Int) 1))=hasB i n:=by rw[zx9]at c;rw[zuX (by omega) (by omega)];unfold ige ile hasB;by_cases a:0<=i<;>by_cases b:i<n;{rw [qK (p:=i≥0) (by omega),qK (p:=i<=(n:Int)-1) (by omega),qK (p:=0<=i/\i<(n:Int)) ⟨a,b⟩];rfl};{rw [qH (p:=i<=(n:Int)-1) (by omega),qH (p:=0<=i/\i<(n:Int)) (by omega)];simp};{rw [qH (p:=i≥0) (by omega),qH (p:=0<=i/\i<(n:Int)) (by omega)];simp};{rw [qH (p:=i≥0) (by omega),qH (p:=0<=i/\i<(n:Int)) (by omega)];simp}
theorem zrU {j h c:Type}(n:Nat)(f:Nat->c->j)(F:(j->Option h)->j->Option h)(I:Nat->c->Prop)(a:Nat->c->Option h)(b:∀(i:Nat) (t:c) (rec:j->Option h),i<n->I i t->(∀g,I (i+1) g->rec (f (i+1) g)=a (i+1) g)->F rec (f i t)=a i t)(e:∀(t:c) (rec:j->Option h),I n t->F rec (f n t)=a n t):∀(N i:Nat) (t:c),I i t->i<=n->n-i<N->iter N F (f i t)=a i t:=by have r:∀(m N i:Nat) (t:c),n-i=m->I i t->i<=n->m<N->iter N F (f i t)=a i t:=(by intro m;induction m with|zero=>intro N i t s d q p;obtain⟨k,rfl⟩:∃k,N=k+1:=⟨N-1,by omega⟩;have:i=n:=(by omega);subst this;rw[zeH];exact e t _ d|succ m u=>intro N i t s d q p;obtain⟨k,rfl⟩:∃k,N=k+1:=⟨N-1,by omega⟩;rw[zeH];exact b i t _ (by omega) d λg l=>u k (i+1) g (by omega) l (by omega) (by omega));intro N i t d q p;exact r (n-i) N i t rfl d q p
section
variable {α:Type}
theorem zET {l:List α}{i:Nat}(h:i<l.length)(d:α):up l (i:Int) (ix l (i:Int) d)=l:=by rw[zbb h];unfold up;apply uJ;intro k;rw[jI];have e:(i:Int).toNat=i:=(by omega);rw[e];by_cases a:i=k;{subst a;simp[h]};{simp [a]}
theorem zed {l:List α}{i:Nat}(h:i<l.length)(x d:α):ix (up l (i:Int) x) (i:Int) d=x:=by unfold ix up;have e:(i:Int).toNat=i:=(by omega);rw[e];simp[List.getD,h]
theorem zrv (l:List α)(i:Int)(x y:α):up (up l i x) i y=up l i y:=by unfold up;simp
theorem zbcn {l:List α}{i k:Nat}(h:i<k)(x:α):(up l (i:Int) x)[k]?=l[k]?:=by unfold up;have e:(i:Int).toNat=i:=(by omega);rw[e,jI,if_neg (by omega)]
end
def ctr3:zbd:=zOk
theorem zbav:zQ ctr3:=ze2
def ctr4:zbd:=ctr3
theorem zbaw:zQ ctr4:=zbav
def ctr5:zbd:=ctr4
theorem zbax:zQ ctr5:=zbaw
def ctr6:zbd:=ctr5
theorem zbay:zQ ctr6:=zbax
def ctr7:zbd:=ctr6
theorem zbaz:zQ ctr7:=zbay
def ctr8:zbd:=ctr7
theorem zbaA:zQ ctr8:=zbaz
def ctr9:zbd:=ctr8
theorem zbaB:zQ ctr9:=zbaA
def z8E:zbd:=ctr9
theorem z6B:zQ z8E:=zbaB
def z8F:zbd:=z8E
theorem z6C:zQ z8F:=z6B
def z8G:zbd:=z8F
theorem z6D:zQ z8G:=z6C
def z8H:zbd:=z8G
theorem z6E:zQ z8H:=z6D
def z8I:zbd:=z8H
theorem z6F:zQ z8I:=z6E
def z8J:zbd:=z8I
theorem z6G:zQ z8J:=z6F
def z8K:zbd:=z8J
theorem z6H:zQ z8K:=z6G
def z8L:zbd:=z8K
theorem z6I:zQ z8L:=z6H
def z8M:zbd:=z8L
theorem z6J:zQ z8M:=z6I
def z8N:zbd:=z8M
theorem z6K:zQ z8N:=z6J
def z8O:zbd:=z8N
theorem z6L:zQ z8O:=z6K
def z8P:zbd:=z8O
theorem z6M:zQ z8P:=z6L
def z8Q:zbd:=z8P
theorem z6N:zQ z8Q:=z6M
def ctrX:zbd:=z8Q
theorem zuI:∀f a,zx ctrX f=some a->Holds Tryz.prog f a:=z6N
def zJ (_ _ _:Int):Bool:=true
def zi (x a b:Int):Bool:=ige x a&&ile x b
def zsJ:Run:=rF3 dI dI dI λb c d=>(zJ b c d,[aB<|zi b c d])
def zRK (N:Nat)(a b c:Int):OA:=
 (cond (ige a b) (some [aB<|ile a c]) oF)
theorem zHc (a b c:Int)(d:zbE big [aI a,aI b,aI c])(e:zJ a b c=true):∃N,zRK N a b c=some [aB<|zi a b c]:=by refine⟨0,?_⟩;unfold zRK zi;cases ige a b<;>rfl
theorem zTh:vV 102 zsJ:=hF3 zuI zbf zn zo (zq []) zHc
def zbj (_ _:Int):Bool:=true
abbrev zca (i n:Int):Bool:=hasB i n
def zSE:Run:=rF2 dI dI λb c=>(zbj b c,[aB<|zca b c])
def zZ4 (N:Nat)(a b:Int):OA:=
 (cond (ige a 0) (some [aB<|ilt a b]) oF)
theorem z4K (a b:Int)(c:zbj a b=true):∃N,zZ4 N a b=some [aB<|zca a b]:=by refine⟨0,?_⟩;unfold zZ4 zca;rw[<- has_eq];cases ige a 0<;>rfl
theorem zYX:vV 69 zSE:=kF2 zuI zbf zn zo (zq []) z4K
theorem zSh {n:Nat}(c:n<=big)(i:Int):zi i 0 (wsub .i64 (n:Int) 1)=hasB i n:=by rw[zx9]at c;rw[zuX (by omega) (by omega)];unfold zi ige ile hasB;by_cases a:0<=i<;>by_cases b:i<n;{rw [qK (p:=i≥0) (by omega),qK (p:=i<=(n:Int)-1) (by omega),qK (p:=0<=i/\i<(n:Int)) ⟨a,b⟩];rfl};{rw [qH (p:=i<=(n:Int)-1) (by omega),qH (p:=0<=i/\i<(n:Int)) (by omega)];simp};{rw [qH (p:=i≥0) (by omega),qH (p:=0<=i/\i<(n:Int)) (by omega)];simp};{rw [qH (p:=i≥0) (by omega),qH (p:=0<=i/\i<(n:Int)) (by omega)];simp}
def zh0 (l:List (List Int)):Bool:=pc (CVB sm<|.s (.sl .int) l)
abbrev zgb (l:List (List Int)):List (List Int):=l
def zBe:Run:=rF1 (dS<|.sl .int) λb=>(zh0 b,[aS (.sl .int)<|zgb b])
def zGJ (N:Nat)(c:lM):OA:=
 (iter (σ:=(Int×lM×lM×Unit)) N (λd a=>let b:=ap []<|ix a.2.1 a.1 []; (cond (ilt a.1<|ln a.2.1) (oN (inb a.1<|ln a.2.1)<|oN (few<|ln b)<|oN (few<|ln<|ap a.2.2.1 [b])<|d (zN .i64 a.1 1,a.2.1,ap a.2.2.1 [b],()))<|some [aS (.sl .int) a.2.2.1])) (0,c,[],()))
def zUz:=zq [(287,0,{n:=22,tm:=[(0,.sl 0 []),(3,.sl 1 []),(4,ti)],lo:=[],ro:=[(0,.sl .int,false),(1,.sl .int,true)]})]
theorem zUb (b:List (List Int))(f:zh0 b=true):∃N,zGJ N b=some [aS (.sl .int)<|zgb b]:=by
 have e:=zD.1 f;have d:=zcu e.len;refine⟨b.length+1,?_⟩;unfold zGJ oN;conv=>zeta
 refine(zY b (λi a=>((i:Int),b,a,())) _ (λ_ x a k=>bif few (ln x) then (cond (few<|ln<|ap a [x]) (k<|ap a [x]) none) else none) (λa=>some [AV.one<|.s (.sl .int) a])
  (λi c t rec=>?_) (λt rec=>?_) _ [] (j3 _)).trans (zkG (λx=>few (ln x)) (λx=>x) _ b 0 [] (λx g=>⟨zfE (zcu (e.inv.2 x g _ (qF.2 rfl)).len).2,rfl⟩) (by simpa using d.2))
 {simp only [zbn c,zU c,zbb c,cT,zX c d.1,zoJ]};{simp only [zbe,cF]}
theorem zMc:vV 287 zBe:=kF1 zuI zbf zn zo zUz zUb
abbrev zh1 (k:Kept):Bool:=pc (∀c∈Ty.cells .kept k,CVB sm c)
abbrev zeI (k:Kept):Kept:=k
def zBf:Run:=rF1 (dT .kept) λb=>(zh1 b,[aT .kept<|zeI b])
def zGK (N:Nat)(a:Kept):OA:=
 (oN (few<|ln<|ap [] a.Known)<|oN (few<|ln<|ap [] a.Slots)<|some [.agg [.s .bool<|ap [] a.Known,.s .slot<|ap [] a.Slots]])
theorem zUc (a:Kept)(d:zh1 a=true):∃N,zGK N a=some [aT .kept<|zeI a]:=by have h:=zD.1 d;have b:=zqg (h (.s .bool a.Known) (by simp[Ty.cells]));have c:=zqg (h (.s .slot a.Slots) (by simp[Ty.cells]));refine⟨0,?_⟩;simp only[zGK,zoJ,b,c,cT];rfl
theorem zMd:vV 381 zBf:=kF1 zuI zbf zn zo (zq []) zUc
def zeb (g:Guest):Bool:=pc (∀c∈Ty.cells .guest g,CVB sm c)
abbrev zdN (g:Guest):Guest:=g
def zBg:Run:=rF1 (dT .guest) λb=>(zeb b,[aT .guest<|zdN b])
def zGL (N:Nat)(a:Guest):OA:=
 (oN (few<|ln<|ap [] a.Prog)<|oN (few<|ln<|ap [] a.Written)<|oN (few<|ln<|ap [] a.Live)<|oN (few<|ln<|ap [] a.Seen)<|some [.agg [.s .ins<|ap [] a.Prog,.i .i64 a.A,.i .i64 a.Pc,.s .slot<|ap [] a.Written,.s .slot<|ap [] a.Live,.i .i64 a.Ctl.Traps,.i .i64 a.Ctl.Post,.b a.Ctl.Open,.i .i64 a.Pending,.i .i64 a.Exit.Kind,.i .i64 a.Exit.Page,.b a.Exit.Write,.i .i64 a.Exit.N,.b a.Halted,.s .int<|ap [] a.Seen]])
theorem zUd (a:Guest)(f:zeb a=true):∃N,zGL N a=some [aT .guest<|zdN a]:=by have h:=zD.1 f;have b:=zqg (h (.s .ins a.Prog) (by simp[Ty.cells]));have c:=zqg (h (.s .slot a.Written) (by simp[Ty.cells]));have d:=zqg (h (.s .slot a.Live) (by simp[Ty.cells]));have e:=zqg (h (.s .int a.Seen) (by simp[Ty.cells]));refine⟨0,?_⟩;simp only[zGL,zoJ,b,c,d,e,cT];rfl
theorem zMf:vV 289 zBg:=kF1 zuI zbf zn zo (zq []) zUd
def z8R:zbd:=[(102,zsJ),(69,zSE),(287,zBe),(381,zBf),(289,zBg)]++ctrX
theorem zVo:zQ z8R:=zf zTh (zf zYX<|zf zMc<|zf zMd<|zf zMf zuI)
def zhs (l:List Guest):Bool:=pc (CVB sm<|.s .guest l)
abbrev zh2 (l:List Guest):List Guest:=l
def zw5:Run:=rF1 (dS .guest) λb=>(zhs b,[aS .guest<|zh2 b])
def zAP (N:Nat)(c:lG):OA:=
 (iter (σ:=(Int×lG×lG×Unit)) N (λd a=>let b:=ix a.2.1 a.1 zu; (cond (ilt a.1<|ln a.2.1) (oN (inb a.1<|ln a.2.1)<|oN (zeb b)<|oN (few<|ln<|ap a.2.2.1 [zdN b])<|d (zN .i64 a.1 1,a.2.1,ap a.2.2.1 [zdN b],()))<|some [aS .guest a.2.2.1])) (0,c,[],()))
def zN5:=zq [(288,0,{n:=21,tm:=[(0,.sl 0 []),(3,.sl 1 []),(4,ti)],lo:=[],ro:=[(0,.guest,false),(1,.guest,true)]})]
theorem zM2 (b:List Guest)(f:zhs b=true):∃N,zAP N b=some [aS .guest<|zh2 b]:=by
 have e:=zD.1 f;have d:=zcu e.len;refine⟨b.length+1,?_⟩;unfold zAP oN;conv=>zeta
 refine(zY b (λi a=>((i:Int),b,a,())) _ (λ_ x a k=>bif zeb x then (cond (few<|ln<|ap a [zdN x]) (k<|ap a [zdN x]) none) else none) (λa=>some [AV.one<|.s .guest a])
  (λi c t rec=>?_) (λt rec=>?_) _ [] (j3 _)).trans (zkG zeb zdN _ b 0 [] (λx g=>⟨zba<|e.inv.2 x g,rfl⟩) (by simpa using d.2))
 {simp only [zbn c,zU c,zbb c,cT,zX c d.1]};{simp only [zbe,cF]}
theorem zFw:vV 288 zw5:=kF1 zVo zbf zn zo zN5 zM2
def z8S:zbd:=[(288,zw5)]++z8R
theorem zVp:zQ z8S:=zf zFw zVo
abbrev zrp (m:Mon):Bool:=pc (∀c∈Ty.cells .mon m,CVB sm c)
abbrev zsa (m:Mon):Mon:=m
def zD5:Run:=rF1 (dT .mon) λb=>(zrp b,[aT .mon<|zsa b])
def zKO (N:Nat)(b:Mon):OA:=
 (oN (few<|ln<|ap [] b.Outer)<|oN (zh0 b.Out)<|oN (few<|ln<|ap [] b.Dirty)<|oN (zhs b.Guests)<|oN (few<|ln<|ap [] b.Outs)<|iter (σ:=(Int×Int×Int×Int×Int×Int×Int×lK×lS×lM×lB×lG×(List Int)×lK×lS×lM×lB×lG×(List Int)×lK×Unit)) N (λf a=>let e:=a.2.2.2.2.2.2.2.2.2.2.2.2.1;let c:=a.2.2.2.2.2.2.2.2.2.2.2.2.2.1;let d:=ap a.2.2.2.2.2.2.2.1 [zeI<|ix c a.1 zc7]; (cond (ilt a.1<|ln c) (oN (inb a.1<|ln c)<|oN (zh1<|ix c a.1 zc7)<|oN (few<|ln d)<|f (zN .i64 a.1 1,a.2.1,a.2.2.1,a.2.2.2.1,a.2.2.2.2.1,a.2.2.2.2.2.1,a.2.2.2.2.2.2.1,d,a.2.2.2.2.2.2.2.2.1,a.2.2.2.2.2.2.2.2.2.1,a.2.2.2.2.2.2.2.2.2.2.1,a.2.2.2.2.2.2.2.2.2.2.2.1,e,c,a.2.2.2.2.2.2.2.2.2.2.2.2.2.2.1,a.2.2.2.2.2.2.2.2.2.2.2.2.2.2.2.1,a.2.2.2.2.2.2.2.2.2.2.2.2.2.2.2.2.1,a.2.2.2.2.2.2.2.2.2.2.2.2.2.2.2.2.2.1,a.2.2.2.2.2.2.2.2.2.2.2.2.2.2.2.2.2.2.1,a.2.2.2.2.2.2.2.2.2.2.2.2.2.2.2.2.2.2.2.1,()))<|some [.agg [.s .slot a.2.2.2.2.2.2.2.2.1,.s (.sl .int) a.2.2.2.2.2.2.2.2.2.1,.s .bool a.2.2.2.2.2.2.2.2.2.2.1,.s .guest a.2.2.2.2.2.2.2.2.2.2.2.1,.s .int e,.i .i64 a.2.1,.i .i64 a.2.2.1,.s .kept a.2.2.2.2.2.2.2.1,.i .i64 a.2.2.2.1]])) (0,b.Pending,b.Traps,b.Own,0,0,0,[],ap [] b.Outer,zgb b.Out,ap [] b.Dirty,zh2 b.Guests,ap [] b.Outs,b.Tables,[],[],[],[],[],[],()))
def zYp:=zq [(343,0,{n:=48,tm:=[(1,.lp 0 0),(2,.lp 1 0),(3,.sl 0 []),(4,ti)],lo:=[(0,[.sl 1 [],.sl 2 [],.sl 3 [],.sl 4 [],.sl 5 [],ti,ti,.sl 6 [],ti]),(1,[.sl 7 [],.sl 8 [],.sl 9 [],.sl 10 [],.sl 11 [],ti,ti,.sl 12 [],ti])],ro:=[(0,.kept,true),(1,.slot,true),(2,.sl .int,true),(3,.bool,true),(4,.guest,true),(5,.int,true),(6,.kept,false),(7,.slot,true),(8,.sl .int,true),(9,.bool,true),(10,.guest,true),(11,.int,true),(12,.kept,true)]})]
theorem zWS (a:Mon)(n:zrp a=true):∃N,zKO N a=some [aT .mon<|zsa a]:=by
 have h:=zD.1 n;have f:=zqg (h (.s .slot a.Outer) (by simp[Ty.cells]));have g:zh0 a.Out=true:=zba (h (.s (.sl .int) a.Out) (by simp[Ty.cells]));have j:=zqg (h (.s .bool a.Dirty) (by simp[Ty.cells]));have l:zhs a.Guests=true:=zba (h (.s .guest a.Guests) (by simp[Ty.cells]));have m:=zqg (h (.s .int a.Outs) (by simp[Ty.cells]));have d:CVB sm (.s .kept a.Tables):=h (.s .kept a.Tables) (by simp[Ty.cells]);have e:=zcu d.len;refine⟨a.Tables.length+1,?_⟩;unfold zKO oN;conv=>zeta
 simp only[zoJ,f,g,j,l,m,cT];refine(zY a.Tables (λi b=>((i:Int),a.Pending,a.Traps,a.Own,0,0,0,b,a.Outer,zgb a.Out,a.Dirty,zh2 a.Guests,a.Outs,a.Tables,[],[],[],[],[],[],())) _
  (λ_ x b k=>bif zh1 x then (cond (few<|ln<|ap b [zeI x]) (k<|ap b [zeI x]) none) else none) (λb=>some [AV.agg<|Ty.cells .mon ⟨a.Outer,a.Out,a.Dirty,a.Guests,a.Outs,a.Pending,a.Traps,b,a.Own⟩])
  (λi c t rec=>?_) (λt rec=>?_) _ [] (j3 _)).trans (zkG zh1 zeI _ a.Tables 0 [] (λx p=>⟨zba<|d.inv.2 x p,rfl⟩) (by simpa using e.2))
 {simp only [zbn c,zU c,zbb c,cT,zX c e.1]};{simp only [zbe,cF];rfl}
theorem zPx:vV 343 zD5:=kF1 zVp zbf zn zo zYp zWS
def z8T:zbd:=[(343,zD5)]++z8S
theorem z6O:zQ z8T:=zf zPx zVp
def z8U:zbd:=z8T
theorem z6P:zQ z8U:=z6O
def z8V:zbd:=z8U
theorem z6Q:zQ z8V:=z6P
def ctrY:zbd:=z8V
theorem zuJ:∀f a,zx ctrY f=some a->Holds Tryz.prog f a:=z6Q
def noSlot:Slot:=⟨-1,0⟩
def zbN:Bool:=true
abbrev zbi:Slot:=noSlot
def zqU:Run:=rF0 (zbN,[aT .slot zbi])
def z05 (N:Nat)  : OA :=
 (some [.agg [.i .i64<|-1,.i .i64 0]])
theorem zDH  (a:zbE big []) (b:zbN=true):∃N,z05 N  = some [aT .slot zbi]:=by exact⟨0,rfl⟩
theorem zPg:vV 286 zqU:=hF0 zuJ zbf zn zo (zq []) zDH
theorem zON:vV 163 zqU:=hF0 zuJ zbf zn zo (zq []) zDH
theorem zO4:vV 140 zsJ:=hF3 zuJ zbf zn zo (zq []) zHc
def z8W:zbd:=[(286,zqU),(163,zqU),(140,zsJ)]++ctrY
theorem zHZ:zQ z8W:=zf zPg (zf zON<|zf zO4 zuJ)
def zes (r:Int):Bool:=ige r 0&&ile r 3
def zep (_:Int):Bool:=true
abbrev zhY (r:Int):Bool:=zes r
def zoj:Run:=rF1 dI λb=>(zep b,[aB<|zhY b])
def zU3 (N:Nat)(a:Int):OA:=
 (oN (zJ a 0 3)<|some [aB<|zi a 0 3])
theorem zyw (a:Int)(b:zbE big [aI a])(c:zep a=true):∃N,zU3 N a=some [aB<|zhY a]:=by exact⟨0,rfl⟩
theorem zI2:vV 352 zoj:=hF1 zHZ zbf zn zo (zq []) zyw
theorem zIv:vV 305 zoj:=hF1 zHZ zbf zn zo (zq []) zyw
def z8X:zbd:=[(352,zoj),(305,zoj)]++z8W
theorem zpz:zQ z8X:=zf zI2 (zf zIv zHZ)
def zfv (a b:Int):Int:=bif zes a then (cond (zes b) (wand .i64 a b) 0) else 0
abbrev zif (a b:Int):Int:=zfv a b
def zl9:Run:=rF2 dI dI λb c=>(zbj b c,[aI<|zif b c])
def zx4 (N:Nat)(a b:Int):OA:=
 (oN (zep a)<|cond (nB<|zhY a) (some [aI 0])<|oN (zep b)<|cond (nB<|zhY b) (some [aI 0])<|some [aI<|wand .i64 a b])
theorem zvz (a b:Int)(c:zbE big [aI a,aI b])(d:zbj a b=true):∃N,zx4 N a b=some [aI<|zif a b]:=by refine⟨0,?_⟩;unfold zx4 zif zfv zhY oN nB;cases zes a<;>cases zes b<;>rfl
theorem zDm:vV 404 zl9:=hF2 zpz zbf zn zo (zq []) zvz
theorem zDc:vV 260 zl9:=hF2 zpz zbf zn zo (zq []) zvz
def enough (a b:Int):Bool:=bif zes a then (cond (zes b) (ieq (wand .i64 a b) b) false) else false
abbrev zdi (a b:Int):Bool:=enough a b
def zqN:Run:=rF2 dI dI λb c=>(zbj b c,[aB<|zdi b c])
def zKr (N:Nat)(b a:Int):OA:=
 (oN (zep b)<|cond (zhY b) (oN (zep a)<|cond (zhY a) (some [aB<|ieq (wand .i64 b a) a]) oF) oF)
theorem zDE (a b:Int)(c:zbE big [aI a,aI b])(d:zbj a b=true):∃N,zKr N a b=some [aB<|zdi a b]:=by refine⟨0,?_⟩;unfold zKr zdi enough zhY oN;cases zes a<;>cases zes b<;>rfl
theorem zO8:vV 296 zqN:=hF2 zpz zbf zn zo (zq []) zDE
theorem zOC:vV 246 zqN:=hF2 zpz zbf zn zo (zq []) zDE
def zbK (t:List Slot)(p:Int):Slot:=bif hasB p (ln t) then ix t p zW else noSlot
def zgx (_:List Slot)(_:Int):Bool:=true
abbrev ze8 (t:List Slot)(p:Int):Slot:=zbK t p
def zq1:Run:=rF2 (dS .slot) dI λb c=>(zgx b c,[aT .slot<|ze8 b c])
def zKG (N:Nat)(a:lS)(b:Int):OA:=
 (oN (zJ b 0<|wsub .i64 (ln a) 1)<|cond (nB<|zi b 0<|wsub .i64 (ln a) 1) (oN zbN<|some [.agg [.i .i64 zbi.Page,.i .i64 zbi.Rights]])<|oN (inb b<|ln a)<|some [.agg [.i .i64 (ix a b zW).Page,.i .i64 (ix a b zW).Rights]])
theorem zWM (b:List Slot)(a:Int)(c:zbE big [aS .slot b,aI a])(g:zgx b a=true):∃N,zKG N b a=some [aT .slot<|ze8 b a]:=by have f:=len0 c;refine⟨0,?_⟩;unfold zKG ze8 zbK oN nB;have e:zi a 0 (wsub .i64 (ln b) 1)=hasB a (ln b):=zMx f a;rw[e];cases d:hasB a (ln b);{rfl};{rw [zA d];rfl}
theorem zPn:vV 222 zq1:=hF2 zpz zbf zn zo (zq []) zWM
def zKh (N:Nat)(a:lS)(b:Int):OA:=
 (oN (zbj b<|ln a)<|cond (nB<|zca b<|ln a) (oN zbN<|some [.agg [.i .i64 zbi.Page,.i .i64 zbi.Rights]])<|oN (inb b<|ln a)<|some [.agg [.i .i64 (ix a b zW).Page,.i .i64 (ix a b zW).Rights]])
theorem zWs (a:List Slot)(b:Int)(d:zgx a b=true):∃N,zKh N a b=some [aT .slot<|ze8 a b]:=by refine⟨0,?_⟩;unfold zKh ze8 zbK zca oN nB;cases c:hasB b (ln a);{rfl};{rw [zA c];rfl}
theorem zOV:vV 152 zq1:=kF2 zpz zbf zn zo (zq []) zWs
def z8Y:zbd:=[(404,zl9),(260,zl9),(296,zqN),(246,zqN),(222,zq1),(152,zq1)]++z8X
theorem zrM:zQ z8Y:=zf zDm (zf zDc<|zf zO8<|zf zOC<|zf zPn<|zf zOV zpz)
def zc5 (a b:Slot):Bool:=ieq a.Page b.Page&&ieq a.Rights b.Rights
def below' (a b:Slot):Bool:=bif zc5 a noSlot then true else (cond (ieq a.Page b.Page) (enough b.Rights a.Rights) false)
def zwK (_ _:Slot):Bool:=true
def zyo (a b:Slot):Bool:=below' a b
def zHl:Run:=rF2 (dT .slot) (dT .slot) λb c=>(zwK b c,[aB<|zyo b c])
def zRq (N:Nat)(a:Slot)(b:Slot):OA:=
 (oN zbN<|cond (cond (ieq a.Page zbi.Page) (ieq a.Rights zbi.Rights) false) oT<|cond (ieq a.Page b.Page) (oN (zbj b.Rights a.Rights)<|some [aB<|zdi b.Rights a.Rights]) oF)
theorem zY1 (a:Slot)(b:Slot)(c:zwK a b=true):∃N,zRq N a b=some [aB<|zyo a b]:=by refine⟨0,?_⟩;unfold zRq zyo below' zc5 zbi oN;cases ieq a.Page noSlot.Page<;>cases ieq a.Rights noSlot.Rights<;>cases ieq a.Page b.Page<;>rfl
theorem zSW:vV 153 zHl:=kF2 zrM zbf zn zo (zq []) zY1
def zbD (s:Slot)(a:List Slot):Slot :=
 bif ieq s.Page (-1) then noSlot else (cond (ieq (zbK a s.Page).Page<|-1) noSlot<|cond (ieq (zfv s.Rights (zbK a s.Page).Rights) 0) noSlot ⟨(zbK a s.Page).Page,zfv s.Rights (zbK a s.Page).Rights⟩)
def zeV (_:Slot)(_:List Slot):Bool:=true
def zff (s:Slot)(a:List Slot):Slot:=zbD s a
def zk5:Run:=rF2 (dT .slot) (dS .slot) λb c=>(zeV b c,[aT .slot<|zff b c])
def zv7 (N:Nat)(a:Slot)(c:lS):OA:=
 let b:=ze8 c a.Page; (oN (zgx c a.Page)<|oN (zbj a.Rights b.Rights)<|cond (ieq a.Page<|-1) (oN zbN<|some [.agg [.i .i64 zbi.Page,.i .i64 zbi.Rights]])<|cond (ieq b.Page<|-1) (oN zbN<|some [.agg [.i .i64 zbi.Page,.i .i64 zbi.Rights]])<|cond (ieq (zif a.Rights b.Rights) 0) (oN zbN<|some [.agg [.i .i64 zbi.Page,.i .i64 zbi.Rights]])<|some [.agg [.i .i64 b.Page,.i .i64<|zif a.Rights b.Rights]])
theorem zt6 (a:Slot)(b:List Slot)(c:zbE big [aT .slot a,aS .slot b])(d:zeV a b=true):∃N,zv7 N a b=some [aT .slot<|zff a b]:=by
 refine⟨0,?_⟩;unfold zv7 zff zbD ze8 zif oN;conv=>zeta
 cases ieq a.Page (-1)<;>cases ieq (zbK b a.Page).Page (-1)<;>cases ieq (zfv a.Rights (zbK b a.Page).Rights) 0<;>rfl
theorem zBy:vV 402 zk5:=hF2 zrM zbf zn zo (zq []) zt6
theorem zBv:vV 151 zk5:=hF2 zrM zbf zn zo (zq []) zt6
def zdI (x:Int):Int:=bif (ige x 1&&ile x 6) then zRp .i64 (wsub .i64 x 1) 2 else -1
def zew (x:Int):Int:=bif (ige x 1&&ile x 6) then zoF (wsub .i64 x 1) 2 else -1
def zvw (x:Int):Int:=zdI x
def zD0:Run:=rF1 dI λb=>(zep b,[aI<|zvw b])
def zKj (N:Nat)(a:Int):OA:=
 (oN (zJ a 1 6)<|cond (nB<|zi a 1 6) (some [aI<|-1])<|oN (ine 2 0)<|some [aI<|zRp .i64 (wsub .i64 a 1) 2])
theorem zWu (a:Int)(b:zep a=true):∃N,zKj N a=some [aI<|zvw a]:=by refine⟨0,?_⟩;unfold zKj zvw zdI zi oN nB;cases ige a 1&&ile a 6<;>rfl
theorem zOY:vV 86 zD0:=kF1 zrM zbf zn zo (zq []) zWu
def zqr (x:Int):Int:=zew x
def zyQ:Run:=rF1 dI λb=>(zep b,[aI<|zqr b])
def zB1 (N:Nat)(a:Int):OA:=
 (oN (zJ a 1 6)<|cond (nB<|zi a 1 6) (some [aI<|-1])<|oN (ine 2 0)<|some [aI<|zoF (wsub .i64 a 1) 2])
theorem zP0 (a:Int)(b:zep a=true):∃N,zB1 N a=some [aI<|zqr a]:=by refine⟨0,?_⟩;unfold zB1 zqr zew zi oN nB;cases ige a 1&&ile a 6<;>rfl
theorem zIA:vV 150 zyQ:=kF1 zrM zbf zn zo (zq []) zP0
def z8Z:zbd:=[(153,zHl),(402,zk5),(151,zk5),(86,zD0),(150,zyQ)]++z8Y
theorem zVq:zQ z8Z:=zf zSW (zf zBy<|zf zBv<|zf zOY<|zf zIA zrM)
def zrV (k:Kept)(a b:List Slot)(i:Nat):Bool :=
 zc5 (ix k.Slots i zW) (cond (ix k.Known i false) (zbD (ix a i zW) b) noSlot)
def znf (k:Kept)(a b:List Slot):Bool :=
 bif ine (ln k.Known) (ln a) then false else (cond (ine (ln k.Slots)<|ln a) false<|zoy (zrV k a b) a.length 0)
theorem zPE {a b:Type}{l:List a}{m:List b}(h:ine (ln l) (ln m)=false):l.length=m.length:=by have:(ln l==ln m)=true:=(by simpa [ine,bne] using h);have:=eq_of_beq this;simp only[ln] at this;omega
def zui (_:Kept)(_ _:List Slot):Bool:=true
def zvv (k:Kept)(a b:List Slot):Bool:=znf k a b
def zDX:Run:=rF3 (dT .kept) (dS .slot) (dS .slot) λb c d=>(zui b c d,[aB<|zvv b c d])
def zJ7 (N:Nat)(c:Kept)(e h:lS):OA:=
 (cond (ine (ln c.Known)<|ln e) oF<|cond (ine (ln c.Slots)<|ln e) oF<|iter (σ:=(Int×Int×lS×lS×lS×lB×Unit)) N (λi a=>let b:=a.2.1;let f:=ix a.2.2.1 b zW;let g:=i (a.1,zN .i64 b 1,a.2.2.1,a.2.2.2.1,a.2.2.2.2.1,a.2.2.2.2.2.1,());let d:=ix a.2.2.2.2.1 b zW; (cond (ilt b a.1) (oN (inb b<|ln a.2.2.2.2.1)<|oN zbN<|oN (inb b<|ln a.2.2.2.2.2.1)<|cond (ix a.2.2.2.2.2.1 b false) (oN (inb b<|ln a.2.2.1)<|oN (zeV f a.2.2.2.1)<|cond (nB<|cond (ieq d.Page (zff f a.2.2.2.1).Page) (ieq d.Rights (zff f a.2.2.2.1).Rights) false) oF g)<|cond (nB<|cond (ieq d.Page zbi.Page) (ieq d.Rights zbi.Rights) false) oF g) oT)) (ln c.Slots,0,e,h,c.Slots,c.Known,()))
def zX7:=zq [(149,0,{n:=48,tm:=[(1,.sl 0 []),(2,.sl 1 []),(3,.lp 0 0),(25,.sl 2 []),(26,ti),(27,ti)],lo:=[(0,[.sl 3 [],.sl 2 []])],ro:=[(0,.slot,false),(1,.slot,false),(2,.slot,false),(3,.bool,false)]})]
theorem zWh (a:Kept)(c d:List Slot)(p:zbE big [aT .kept a,aS .slot c,aS .slot d])(r:zui a c d=true):∃N,zJ7 N a c d=some [aB<|zvv a c d]:=by
 have q:=((zcV (zcV p).2).1 _ (qF.2 rfl)).len;refine zbX λN h=>?_;unfold zJ7 zvv znf oN nB;conv=>zeta
 cases m:ine (ln a.Known) (ln c);{cases n:ine (ln a.Slots) (ln c);{have k:=zPE m;have g:=zPE n;have f:a.Slots.length<=big:=g ▸ q;simp only[cF];refine(zY a.Slots (λi (t:Unit)=>(ln a.Slots,(i:Int),c,d,a.Slots,a.Known,())) _ (λi _ (_:Unit) j=>bif zrV a c d i then j () else oF) (λ(t:Unit)=>some [.one<|.b true]) (λi e t rec=>?_) (λt rec=>?_) _ ()<|h f).trans ?_;{simp only [zbn e,zU e,zbb e,zX e f,cT];simp only[zU (l:=a.Known) (i:=i)<|k.trans g.symm ▸ e,zU (l:=c) (i:=i)<|g ▸ e,zbN,zeV,cT,zrV,zc5,zff,zbi,zbb e];cases ix a.Known (↑i) false;{simp only [cF];cases ieq a.Slots[i].Page noSlot.Page<;>cases ieq a.Slots[i].Rights noSlot.Rights<;>rfl};{simp only [cT];generalize zbD (ix c (↑i) zW) d=z;cases ieq a.Slots[i].Page z.Page<;>cases ieq a.Slots[i].Rights z.Rights<;>rfl}};{simp only [zbe,cF]};rw[zuM λi t j=>bif zrV a c d i then j () else oF,zyh,g];cases zoy (zrV a c d) c.length 0<;>rfl};{rfl}};{rfl}
theorem zOI:vV 149 zDX:=hF3 zVq zbf zn zo zX7 zWh
def z81:zbd:=[(149,zDX)]++z8Z
theorem zH0:zQ z81:=zf zOI zVq
def zsc (a:List Slot)(b:List Kept):List Guest->Nat->Bool
 |[],_=>true
 |g::l,i=>bif ilt (i:Int) (ln b) then (cond (znf (ix b (i:Int) zc7) g.Live a) (zsc a b l<|i+1) false) else true
theorem zLl {e:Type}(a:List Slot)(b:List Kept)(r c:Option e):∀(l:List Guest) (i:Nat),
 goL (λi g (_:Unit) d=>bif ilt (i:Int) (ln b) then (cond (znf (ix b (i:Int) zc7) g.Live a) (d ()) r) else c) (λ_=>c) l i ()=bif zsc a b l i then c else r
 |[],_=>rfl
 |g::l,i=>by simp only[goL,zsc];cases ilt (i:Int) (ln b);{rfl};{cases znf (ix b (i:Int) zc7) g.Live a;{rfl};{exact zLl a b r c l (i+1)}}
theorem zba4 {i:Nat}{a:Type}{l:List a}(h:ilt (i:Int) (ln l)=true):inb (i:Int) (ln l)=true:=by have:=qD h;exact qK ⟨by omega,this⟩
def tablesOf (m:Mon):Bool:=zsc m.Outer m.Tables m.Guests 0
def zo5 (h:Host):Bool:=h.Mons.all tablesOf
def zqq (_:Host):Bool:=true
def zj4 (h:Host):Bool:=zo5 h
def zoD:Run:=rF1 dH λb=>(zqq b,[aB<|zj4 b])
def zv5 (N:Nat)(h:Host):OA:=
 (iter (σ:=(Int×Int×lN×Unit)) N (λl c=>let b:=c.2.1;let g:=ix c.2.2.1 b zh; (cond (ilt b c.1) (oN (inb b<|ln c.2.2.1)<|iter (σ:=(Int×Int×Int×Int×Int×Int×Int×Int×Int×Int×Int×Int×lN×Unit)) N (λm a=>let d:=a.2.2.2.2.2.2.2.2.2.2.2.2.1;let j:=(ix d a.2.2.2.1 zh).Outer;let i:=l (a.2.1,zN .i64 a.2.2.1 1,d,());let f:=(ix d a.2.2.2.2.2.2.1 zh).Guests;let k:=(ix f a.1 zu).Live;let e:=(ix d a.2.2.2.2.2.2.2.2.2.2.1 zh).Tables; (cond (ilt a.1<|ln f) (cond (ilt a.1<|ln e) (oN (inb a.1<|ln e)<|oN (inb a.1<|ln f)<|oN (zui (ix e a.1 zc7) k j)<|cond (nB<|zvv (ix e a.1 zc7) k j) oF<|m (zN .i64 a.1 1,a.2.1,a.2.2.1,a.2.2.2.1,a.2.2.2.2.1,a.2.2.2.2.2.1,a.2.2.2.2.2.2.1,a.2.2.2.2.2.2.2.1,a.2.2.2.2.2.2.2.2.1,a.2.2.2.2.2.2.2.2.2.1,a.2.2.2.2.2.2.2.2.2.2.1,a.2.2.2.2.2.2.2.2.2.2.2.1,d,())) i) i)) (0,c.1,b,b,b,b,b,b,g.Pending,g.Traps,b,g.Own,c.2.2.1,())) oT)) (ln h.Mons,0,h.Mons,()))
def zFT:=zq [(52,0,{n:=43,tm:=[(7,.sl 0 []),(8,ti),(9,ti)],lo:=[],ro:=[(0,.mon,false)]}),(52,2,{n:=43,tm:=[(4,.lp 0 0),(5,ti),(7,.sl 0 []),(8,ti),(9,ti)],lo:=[(0,[.sl 0 [0],.sl 0 [1],.sl 0 [2],.sl 0 [3],.sl 0 [4],ti,ti,.sl 0 [7],ti])],ro:=[(0,.mon,false)]})]
theorem zFz (a:Host)(n:zbE big [aH a])(q:zqq a=true):∃N,zv5 N a=some [aB<|zj4 a]:=by
 have m:CVB big (.s .mon a.Mons):=(zcV n).1 _ (by simp[AV.cvs,zbh]);have k:=m.len;refine zbX λN d=>?_;unfold zv5 oN nB;conv=>zeta
 refine(zY a.Mons (λi (t:Unit)=>(ln a.Mons,(i:Int),a.Mons,())) _ (λ_ (x:Mon) (_:Unit) l=>bif tablesOf x then l () else oF) (λ(t:Unit)=>some [.one<|.b true]) (λi c t rec=>?_) (λt rec=>?_) _ ()<|d k).trans ?_;{simp only [zbn c,zU c,zbb c,zX c k,cT];have e:a.Mons[i].Guests.length<=big:=(m.inv.2 _ (jA c) (.s .guest _) (by simp[Ty.cells])).len;refine(zY a.Mons[i].Guests (λj (u:Unit)=>((j:Int),ln a.Mons,(i:Int),(i:Int),(i:Int),(i:Int),(i:Int),(i:Int),a.Mons[i].Pending,a.Mons[i].Traps,(i:Int),a.Mons[i].Own,a.Mons,())) _ (λj (g:Guest) (_:Unit) l=>bif ilt (j:Int) (ln a.Mons[i].Tables) then (cond (znf (ix a.Mons[i].Tables (j:Int) zc7) g.Live a.Mons[i].Outer) (l ())<|oF) else rec (ln a.Mons,((i+1:Nat):Int),a.Mons,())) (λ(u:Unit)=>rec (ln a.Mons,((i+1:Nat):Int),a.Mons,())) (λj h u f=>?_) (λu f=>?_) _ ()<|d e).trans ?_;{simp only [zbn h,zU h,zbb h,zX h e,cT,zU c,zbb c,zX c k];cases p:ilt (j:Int) (ln a.Mons[i].Tables);{rfl};{simp only [cT,zba4 p,zui,zvv];cases znf (ix a.Mons[i].Tables (↑j) zc7) a.Mons[i].Guests[j].Live a.Mons[i].Outer<;>rfl}};{simp only [zbe,cF,zU c,zbb c,zX c k]};exact zLl _ _ _ _ _ _};{simp only [zbe,cF]};rw[zhi];unfold zj4 zo5;cases a.Mons.all tablesOf<;>rfl
theorem zrB:vV 52 zoD:=hF1 zH0 zbf zn zo zFT zFz
def zcY (h:Host)(e:Entry):Bool :=
 bif hasB (zdI e.Tag) (ln h.Mons) then (bif hasB (zew e.Tag) (ln (ix h.Mons (zdI e.Tag) zh).Guests) then
  below' ⟨e.Host,e.Rights⟩ (zbD (zbK (ix (ix h.Mons (zdI e.Tag) zh).Guests (zew e.Tag) zu).Live e.Page) (ix h.Mons (zdI e.Tag) zh).Outer) else false) else false
def zm5 (h:Host)(b:List Entry):Bool:=b.all (zcY h)
def zl1 (_:Host)(_:List Entry):Bool:=true
def zhC (h:Host)(b:List Entry):Bool:=zm5 h b
def znq:Run:=rF2 dH (dS .entry) λb c=>(zl1 b c,[aB<|zhC b c])
def zuY (N:Nat)(e:Host)(j:lE):OA:=
 (iter (σ:=(Int×Int×lE×lM×lN×lE×lE×Unit)) N (λm a=>let d:=a.2.2.2.2.1;let b:=ix a.2.2.1 a.2.1 zfy;let l:=(⟨b.Host,b.Rights⟩:Slot);let g:=zqr b.Tag;let f:=zvw b.Tag;let h:=inb f<|ln d;let c:=ix d f zh;let k:=(ix c.Guests g zu).Live;let i:=ze8 k b.Page; (cond (ilt a.2.1 a.1) (oN (inb a.2.1<|ln a.2.2.1)<|oN (zep b.Tag)<|oN (zep b.Tag)<|oN (zbj f<|ln d)<|cond (nB<|zca f<|ln d) oF<|oN h<|oN (zbj g<|ln c.Guests)<|cond (nB<|zca g<|ln c.Guests) oF<|oN h<|oN (inb g<|ln c.Guests)<|oN (zgx k b.Page)<|oN h<|oN (zeV i c.Outer)<|oN (zwK l<|zff i c.Outer)<|cond (nB<|zyo l<|zff i c.Outer) oF<|m (a.1,zN .i64 a.2.1 1,a.2.2.1,a.2.2.2.1,d,a.2.2.2.2.2.1,a.2.2.2.2.2.2.1,())) oT)) (ln j,0,j,e.Memory,e.Mons,e.Buffer,e.IoBuffer,()))
def zEi:=zq [(53,0,{n:=69,tm:=[(2,.lp 0 0),(10,.sl 0 []),(11,ti),(12,ti)],lo:=[(0,[.sl 1 [],.sl 2 [],.sl 3 [],.sl 4 []])],ro:=[(0,.entry,false),(1,.sl .int,false),(2,.mon,false),(3,.entry,false),(4,.entry,false)]})]
theorem zDB (a:Host)(b:List Entry)(g:zbE big [aH a,aS .entry b])(j:zl1 a b=true):∃N,zuY N a b=some [aB<|zhC a b]:=by
 have f:=((zcV (zcV g).2).1 _ (qF.2 rfl)).len;refine⟨NN,?_⟩;unfold zuY oN nB;conv=>zeta
 refine(zY b (λi (_:Unit)=>(ln b,(i:Int),b,a.Memory,a.Mons,a.Buffer,a.IoBuffer,())) _ (λ_ (x:Entry) (_:Unit) k=>bif zcY a x then k () else oF) (λ_=>oT)
  (λi c t rec=>?_) (λt rec=>?_) _ () (zbcU f)).trans ?_
 {simp only [zbn c,zU c,zbb c,cT,zep,zvw,zep,zqr,zbj,zca,zgx,ze8,zeV,zff,zwK,zyo,zX c f];unfold zcY;generalize b[i]=e;cases h:hasB (zdI e.Tag) (ln a.Mons);{rfl};{rw [zA h];cases d:hasB (zew e.Tag) (ln (ix a.Mons (zdI e.Tag) zh).Guests);{rfl};{rw [zA d];simp only[cT,jV,cF];cases below' ⟨e.Host,e.Rights⟩ (zbD (zbK (ix (ix a.Mons (zdI e.Tag) zh).Guests (zew e.Tag) zu).Live e.Page) (ix a.Mons (zdI e.Tag) zh).Outer)<;>rfl}}};{simp only [zbe,cF]};{rw [zhi];unfold zhC zm5;cases b.all (zcY a)<;>rfl}
theorem zqk:vV 53 znq:=hF2 zH0 zbf zn zo zEi zDB
def z88:zbd:=[(52,zoD),(53,znq)]++z81
theorem z6R:zQ z88:=zf zrB (zf zqk zH0)
def ctrW:zbd:=z88
theorem zOl:∀f a,zx ctrW f=some a->Holds Tryz.prog f a:=z6R
end
end Go.Proofs.YtgjpbkhaaiffkaaGreat.E
