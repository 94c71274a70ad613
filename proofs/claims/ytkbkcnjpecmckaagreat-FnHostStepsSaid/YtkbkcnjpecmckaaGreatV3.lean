/- What is proved here: a part of the proof that the statement of this claim holds (several texts of wip/, laid together). -/
import Derived.Test.YtkbkcnjpecmckaaGreatV2
import Derived.HandedShaped
import Derived.ProofKit
import Derived.KernelRfl
namespace Go.Proofs.YtkbkcnjpecmckaaGreat.E
open Go
set_option linter.defProp false
set_option linter.constructorNameAsVariable false
set_option linter.unusedVariables false
set_option maxRecDepth 100000
set_option linter.unusedSimpArgs false
set_option linter.unusedSectionVars false
noncomputable section
section
variable {C:Cfg} {ops:Array Oper} {b:Bool} {base:Nat}
def Foot.reads (f:Foot):Key->Prop
 |.tm t=>t∈f.tm
 |.ro n=>n∈f.ro
 |.lo n=>n∈f.lo
def Foot.writes (f:Foot):Key->Prop
 |.tm t=>f.dst=some t
 |.ro n=>n∈f.wro
 |.lo n=>n∈f.wlo
def zsa {a c:List Nat}(h:zDN a c=true):∀x∈a,x∉c:=by intro x b;have:=qM.1 h x b;simpa using this
def apart_spec {x y:Foot}(h:x.apart y=true):(∀a,x.writes a->¬ y.reads a/\¬ y.writes a)/\(∀a,y.writes a->¬ x.reads a):=by unfold Foot.apart at h;simp only[qE]at h;obtain⟨⟨⟨⟨⟨c,d⟩,e⟩,f⟩,g⟩,i⟩:=h;refine⟨λa b=>?_,λa b=>?_⟩;{cases a with|tm t=>simp only[Foot.writes]at b;rw[b]at c;simp only[qE,jE,beq_eq_false_iff_ne,jM,decide_eq_false_iff_not]at c;exact⟨c.1,c.2⟩|ro n=>have:=zsa e n b;simp only[jJ,not_or] at this;exact this|lo n=>have:=zsa g n b;simp only[jJ,not_or] at this;exact this};{cases a with|tm t=>simp only[Foot.writes]at b;rw[b]at d;simpa [Foot.reads] using d|ro n=>exact zsa f n b|lo n=>exact zsa i n b}
def zDO {i:Nat}{o:Oper}{S:St}{f:Foot}{s:Step}(h:At1 C ops base i o S f s)(a:Key):wr o s a↔f.writes a:=by cases s with|none=>obtain⟨_,rfl⟩:=h;cases a<;>simp [wr,Foot.writes,zmG]|some d=>obtain⟨_,_,_,rfl⟩:=h;cases a<;>simp [wr,Foot.writes,zfS,zgo]
def Does (C:Cfg)(ops:Array Oper)(base i:Nat)(o:Oper)(S:St):Step->Prop
 |some d=>zdK ops o S=some true/\zle C S o (base+32*i)=some d/\d.c=true
 |none=>zdK ops o S=some false
def zy5 {o:Oper}{S a:St}(h:∀t∈zy6 ops o,a.tm[t]?=S.tm[t]?):zdK ops o a=zdK ops o S:=by unfold zdK;cases hg:o.guard with|none=>rfl|some f=>obtain⟨j,b⟩:=f;simp only;have e:guardOf a ops j=guardOf S ops j:=(by unfold guardOf;cases d:ops[j]? with|none=>rfl|some g =>simp only;(cases c:g.dst with|none=>rfl|some t=>simp only;exact h t (by simp[zy6,hg,zjB,d,c])));rw[e]
def z2V {S a:St}(b:a.ep=S.ep){n:Nat}(c:zy a.ro n=zy S.ro n):a.root n=S.root n:=by unfold St.root;rw[c,b]
def zR5 {S d:St}(c:d.ep=S.ep):∀(own:List Bool) (cells:List At),(∀a∈cells,∀n∈zbw a,zy d.ro n=zy S.ro n)->d.blk own cells=S.blk own cells
 |[],[],_=>rfl
 |[],_::_,_=>rfl
 |_::_,[],_=>rfl
 |o::ms,a::r,h=>by have g:=zR5 c ms r λb f=>h b (qY _ f);have e:=h a jA;simp only[St.blk];rw[g];cases a with|sl q p=>(cases p with|nil=>simp only[z2V c<|e q (by simp[zbw])]|cons x p=>rfl)|_=>rfl
def zEy {S c:St}(a:c.ep=S.ep):∀(b:List Nat),(∀k∈b,zy c.ro k=zy S.ro k)->killed c b=killed S b
 |[],_=>rfl
 |k::b,h=>by simp only[killed];rw[h k jA,zEy a b λj d=>h j (qY _ d),a]
def zIK {c:Type}{p q:c->Bool}:∀{l:List c},(∀a∈l,p a=q a)->l.all p=l.all q
 |[],_=>rfl
 |a::l,h=>by rw[kW,kW,h a jA,zIK λb d=>h b (qY _ d)]
def z3X {S c:St}{L:List Operand}(h:Agree S c L){b:List Nat}{x:Operand}(f:x∈L){m:MV}(d:S.opnd x=some m):c.avF b m=S.avF b m:=by unfold St.avF;have e:zFG c b m=zFG S b m:=(by unfold zFG;refine zIK λa g=>zIK λr i=>?_;rw[h.rootN<|(h.id x f m d a g).1 r i]);rw[e,h.avOf f d]
def zXt {S d:St}{o:Oper}{id:Nat}(h:Agree S d (callArgs o))(q:∀x∈callArgs o,∀l p,S.at x=some (.lp l p)->∀cells,zy S.lo l=some cells->∀a∈cells,∀n∈zbw a,zy d.ro n=zy S.ro n):zmo C d o id=zmo C S o id:=by unfold zmo;cases zkT C o with|none=>rfl|some y=>obtain⟨own,E⟩:=y;simp only;(cases z:callArgs o with|nil=>rfl|cons x t=>rw[z]at h q;simp only[zQ1];have f:d.at x=S.at x:=h.at jA;rw[f];split;{rename_i l r;have i:zy d.lo l=zy S.lo l:=h.loc (zep jA r);rw[i];split;{rename_i cells c;have b:=q x jA l 0 r cells c;rw[zR5 h.ep own cells b];split;{rename_i u e w;have B:=zVf own cells u e w;have g:killed d e=killed S e:=zEy h.ep e λk g=>(by obtain⟨j,_,A⟩:=B.ownk k g;exact b _ (qK A) k (by simp[zbw]));have v:zcG (zVb d e) t=zcG (zVb S e) t:=(by refine zmk λy s=>?_;unfold zVb;rw[h.op y<|qY _ s];cases D:S.opnd y with|none=>rfl|some m=>exact z3X h (qY _ s) D);rw[v,g]};{rfl}};{rfl}};{rfl})
def zx5 {o:Oper}:∀x∈callArgs o,x∈o.op.operands.toList:=by
 intro x a;unfold callArgs at a;split at a
 .rename_i c hc;rw[hc];simp only[Op.operands,Call.operands];simp
  first
   |exact .inr (by simpa using a)
   |exact .inl (by simpa using a)
   |simp_all
 {cases a}
def zVc {i:Nat}{o:Oper}{S S':St}{f:Foot}{s:Step}(h:At1 C ops base i o S f s)(A:S'.ep=S.ep)(w:∀k,f.reads k->S'.get k=S.get k):Does C ops base i o S' s:=by
 cases s with
 |none=>obtain⟨E,rfl⟩:=h;show zdK ops o S'=some false;rw[zy5 (S:=S) λt z=>zL7 (w (.tm t) (by simpa [Foot.reads,zmG] using z))];exact E
 |some d=>
  obtain⟨E,M,N,rfl⟩:=h;have B:∀t,t∈zpZ o++zy6 ops o->S'.tm[t]?=S.tm[t]?:=λt z=>zL7 (w (.tm t) z);have v:∀x∈o.op.operands.toList,S'.opnd x=S.opnd x:=(by intro x c;cases x with|tmp t=>have z:t∈zpZ o:=(by unfold zpZ;exact uO.2 ⟨_,c,rfl⟩);simp only[St.opnd,B t<|j5 _ z]|_=>rfl);refine⟨?_,?_,N⟩;{rw [zy5 (S:=S) λt z=>B t (kI _ z)];exact E}
  .rw [<- M];cases b:zxc o with
   |true=>unfold zxc at b;split at b;{rename_i t g;have e:=v (.tmp t) (by rw[g];simp[Op.operands]);have L:delta C S' o (base+32*i)=delta C S o (base+32*i):=(by simp only[delta,g,e]);have H:zkT C o=none:=(by unfold zkT;rw[g]);unfold zle;rw[L];cases delta C S o (base+32*i) with|some K=>rfl|none=>simp only[zmo,H]};{cases b}
   |false=>
   have w:∀k,(zgo S ops o d).reads k\/(∃n,k = .ro n/\n∈(zgo S ops o d).ro++cond (zkT C o).isSome (zD3 S o) [])->S'.get k=S.get k:=(by intro k j;refine w k ?_;rcases j with j|⟨n,rfl,u⟩;{cases k with|tm t=>exact j|ro n=>show n∈(zfS C S ops o d).ro;unfold zfS;rw[b];exact j5 _ j|lo n=>show n∈(zfS C S ops o d).lo;unfold zfS;rw[b];exact j};{show n∈(zfS C S ops o d).ro;unfold zfS;rw[b];exact u});have F:∀x∈o.op.operands.toList,∀m,S.opnd x=some m->∀a∈zbM m,a∈zuw S o:=λx c m r a q=>(by unfold zuw;exact qN.2 ⟨m,uO.2 ⟨x,c,r⟩,q⟩);have I:Agree S S' o.op.operands.toList:=⟨A,v,λx c m r a q=>⟨λn u=>zEa (w (.ro n)<|.inl<|qN.2 ⟨a,F x c m r a q,u⟩),λn u=>zL6 (w (.lo n)<|.inl<|qN.2 ⟨a,F x c m r a q,u⟩)⟩⟩;unfold zle;rw[zYZ I];cases O:delta C S o (base+32*i) with|some K=>rfl|none=>simp only;(cases J:zkT C o with|none=>simp only[zmo,J]|some y=>refine zXt ⟨A,λx c=>v x (zx5 x c),λx c m r a q=>I.id x (zx5 x c) m r a q⟩ λx c l D P cells p a q n u=>?_;refine zEa (w (.ro n)<|.inr ⟨n,rfl,?_⟩);show n∈(zgo S ops o d).ro++cond (zkT C o).isSome (zD3 S o) [];rw[J];refine kI _ ?_;show n∈zD3 S o;unfold zD3;refine qN.2 ⟨.lp l D,?_,?_⟩;{obtain⟨m,r,G⟩:∃m,S.opnd x=some m/\At.lp l D∈zbM m:=⟨_,zOM P,by simp[zbM,zW]⟩;exact F x (zx5 x c) m r _ G};{simp only [p];exact qN.2 ⟨a,q,u⟩})
structure Free (C:Cfg) (ops:Array Oper) (cl:List (List Nat)) (b:Bool) (base a:Nat) (ss:List Step) (st0:St):Prop where
 at1:∀i s,ss[i]?=some s->∃o f,ops[a+i]?=some o/\At1 C ops base (a+i) o (zbH ops b (fun j=>decide (j<a+i)) a ss st0) f s
 apart:∀i k s s' o o' f f',ss[i]?=some s->ss[k]?=some s'->ops[a+i]?=some o->ops[a+k]?=some o'->At1 C ops base (a+i) o (zbH ops b (fun j=>decide (j<a+i)) a ss st0) f s->
  At1 C ops base (a+k) o' (zbH ops b (fun j=>decide (j<a+k)) a ss st0) f' s'->i<k->a+i∉cl.getD (a+k) []->f.apart f'=true
def zlw (a:List (List Nat))(X:Nat->Bool):Prop:=∀k,X k=true->∀j∈a.getD k [],X j=true
variable {cl:List (List Nat)} {ss:List Step} {st0:St} {a:Nat}
def zIL {i:Nat}{o:Oper}{S:St}{f a:Foot}{s:Step}(h:At1 C ops base i o S f s)(b:At1 C ops base i o S a s):f=a:=by cases s with|none=>rw[h.2,b.2]|some d=>rw[h.2.2.2,b.2.2.2]
def zL5 (F:Free C ops cl b base a ss st0){X:Nat->Bool}(D:zlw cl X){i:Nat}{s:Step}(y:ss[i]?=some s)(d:X (a+i)=false)(E:∀j∈cl.getD (a+i) [],X j=true) :
 ∃o f,ops[a+i]?=some o/\At1 C ops base (a+i) o (zbH ops b (λj=>decide (j<a+i)) a ss st0) f s/\∀m,f.reads m->(zbH ops b X a ss st0).get m=(zbH ops b (λj=>decide (j<a+i)) a ss st0).get m:=by
 obtain⟨o,f,x,r⟩:=F.at1 i s y;refine⟨o,f,x,r,λm q=>?_⟩;refine zse ss a st0 st0 rfl rfl (λk z B u l g G=>?_);obtain⟨H,A,n,t⟩:=F.at1 k z u;rw[l]at n;cases n;have p:=(zDO t m).1 G
 by_cases v:k<i
 .have hXk:X (a+k)=false:=by have c:a+k<a+i:=(by omega);simp only[c,decide_true]at g;simpa using g
  have w:a+k∉cl.getD (a+i) []:=λh=>by rw[E (a+k) h]at hXk;cases hXk
  exact((apart_spec<|F.apart k i z s B o A f u y l x t r v w).1 m p).1 q
 .have hXk:X (a+k)=true:=by have c:¬ (a+k<a+i):=(by omega);simp only[c,decide_false]at g;simpa using g
  have c:i<k:=by have:i≠k:=λe=>(by rw[e,hXk]at d;cases d);omega
  have w:a+i∉cl.getD (a+k) []:=λh=>by rw[D (a+k) hXk (a+i) h]at d;cases d
  exact(apart_spec<|F.apart i k s z o B f A y u x l r t c w).2 m p q
def z4X (F:Free C ops cl b base a ss st0){X:Nat->Bool}(g:zlw cl X){i:Nat}{s:Step}(l:ss[i]?=some s)(c:X (a+i)=false)(k:∀j∈cl.getD (a+i) [],X j=true) :
 ∃o,ops[a+i]?=some o/\Does C ops base (a+i) o (zbH ops b X a ss st0) s:=by
 obtain⟨o,f,h,d,e⟩:=zL5 F g l c k;exact⟨o,h,zVc d (by rw[ziy,ziy]) e⟩
def zVR (F:Free C ops cl b base a ss st0){X Y:Nat->Bool}(x:zlw cl X){i:Nat}{s:Step}{o:Oper}(p:ss[i]?=some s)(n:ops[a+i]?=some o)(d:X (a+i)=false)(y:∀k,Y k=(X k||k==a+i))(c:Key) :
 (zbH ops b Y a ss st0).get c=((zbH ops b X a ss st0).step b o s).get c:=by
 refine z4U y n p (λk v B u e m l c A q=>?_) c;obtain⟨D,f,g,r⟩:=F.at1 i s p;rw[n]at g;cases g;obtain⟨E,w,j,t⟩:=F.at1 k v u;rw[e]at j;cases j;have z:a+i∉cl.getD (a+k) []:=λh=>by rw[x (a+k) l (a+i) h]at d;cases d
 exact((apart_spec<|F.apart i k s v o B f w p u n e r t m z).1 c ((zDO r c).1 A)).2 ((zDO t c).1 q)
def z1W {l:St}{o:Oper}{id i:Nat}{d:Dl}(j:ops[i]?=some o)(h:delta C l o id=some d)(a:zQS ops i=false)(g:(zFW C&&zVZ o)=false):d.bump=false:=by
 simp only[zQS,j]at a;cases b:o.op<;>simp only [b]at a<;>simp only [delta,b]at h;(case store=>cases a);case buildSlice=>cases a
 case call c=>
  split at h
  case h_4 e=>rw[e]at a;cases a
  all_goals (repeat' (first|split at h|cases h))
  all_goals rfl
 case slice T x lo hi mx=>
  cases mx with
  |some m=>simp at h
  |none=>
   cases lo with
   |none=>
    cases hi with
    |none=>(repeat' (first|contradiction|split at h|cases h));all_goals (first|rfl|contradiction|(exfalso;simp_all))
    |some f =>have e:zFW C=false:=(by simp only[zVZ,b,vC]at g;exact g);(repeat' (first|contradiction|split at h|cases h));all_goals (first|(simp only [zI4,e,Bool.false_and];done)|rfl|contradiction|(exfalso;simp_all))
   |some k =>
    cases hi with
    |none=>cases a
    |some f =>(repeat' (first|contradiction|split at h|cases h));all_goals (first|rfl|contradiction|(exfalso;simp_all))
 case binOp=>
  simp only[zD6]at h
  repeat' (first|split at h|cases h)
  all_goals rfl
 (all_goals (repeat' (first|contradiction|split at h|cases h)));all_goals (first|rfl|contradiction)
def zYX {f:St}{o:Oper}{id i:Nat}{d:Dl}(e:ops[i]?=some o)(h:zle C f o id=some d)(b:zmi C ops i=false):d.bump=false:=by unfold zmi at b;rw[u3]at b;unfold zle at h;cases c:delta C f o id with|some j =>rw[c]at h;cases h;have a:=b.2;rw[e]at a;have a:((zkT C o).isSome||(zFW C&&zVZ o))=false:=a;rw[u3]at a;exact z1W e c b.1 a.2|none=>rw[c]at h;exfalso;have a:=b.2;rw[e]at a;have a:((zkT C o).isSome||(zFW C&&zVZ o))=false:=a;rw[u3]at a;have a:=a.1;have h:zmo C f o id=some d:=h;unfold zmo at h;(cases g:zkT C o with|none=>rw[g]at h;cases h|some y=>rw[g]at a;cases a)
end
section
variable {C:Cfg} {w0 w w1:World} {S0:zbb} {U:Nat->Prop} {st st1:St} {E E1:Env} {ts:Array Value} {sv:List (Array Value)}
variable {ops:Array Oper} {b:Bool} {base:Nat} {cl:List (List Nat)} {ss:List Step} {st0:St}
def z1V {R a:Root}(h:zgi b R=a)(c:a.ep=none):R=a:=by unfold zgi at h;split at h;{subst h;cases c};{exact h}
def z5B {l:List (Nat×Root)}{n:Nat}{R:Root}(h:zy (l.map λ(x:Nat×Root)=>(x.1,zgi b x.2)) n=some R):∃d,zy l n=some d/\zgi b d=R:=by induction l with|nil=>cases h|cons a l e=>obtain⟨k,v⟩:=a;simp only[jB,zy]at h ⊢;split at h;{cases h;rename_i c;rw[if_pos c];exact⟨v,rfl,rfl⟩};{rename_i c;rw[if_neg c];exact e h}
def z2J {l:List (Nat×Root)}{n:Nat}(h:zy (l.map λ(x:Nat×Root)=>(x.1,zgi b x.2)) n=none):zy l n=none:=by induction l with|nil=>rfl|cons a l d=>obtain⟨k,v⟩:=a;simp only[jB,zy]at h ⊢;split at h;{cases h};{rename_i c;rw[if_neg c];exact d h}
def z1v {o:Oper}{d:Dl}(J:b=false->d.bump=false)(K:b=true->Dead st/\0<st.ep)(y:Sim w0 S0 U (st.apply o.dst d) E ts sv w):Sim w0 S0 U (st.effD b o.dst d) E ts sv w:=by
 have A:∀t:Nat,(st.effD b o.dst d).tm[t]?=(st.apply o.dst d).tm[t]?:=λt=>(by unfold St.effD St.apply;cases o.dst<;>rfl);have B:(st.effD b o.dst d).lo=(st.apply o.dst d).lo:=(by unfold St.effD St.apply;cases o.dst<;>rfl);have C:(st.effD b o.dst d).stk=(st.apply o.dst d).stk:=(by unfold St.effD St.apply;cases o.dst<;>rfl);have D:(st.effD b o.dst d).ro=d.ro.map (λ(x:Nat×Root)=>(x.1,zgi b x.2))++st.ro:=(by unfold St.effD;cases o.dst<;>rfl);have F:(st.apply o.dst d).ro=d.ro++st.ro:=(by unfold St.apply;cases o.dst<;>rfl);have v:(st.effD b o.dst d).ep=st.ep:=by unfold St.effD;cases o.dst<;>rfl
 have I:(st.apply o.dst d).ep=if d.bump then st.ep+1 else st.ep:=by
  unfold St.apply;cases o.dst<;>rfl
 cases b with
 |false=>have L:d.bump=false:=J rfl;have p:d.ro.map (λ(x:Nat×Root)=>(x.1,zgi false x.2))=d.ro:=(by have:(λ(x:Nat×Root)=>(x.1,zgi false x.2))=id:=(by funext x;rfl);rw[this,List.map_id]);have j:(st.effD false o.dst d).ro=(st.apply o.dst d).ro:=(by rw[D,F,p]);have m:(st.effD false o.dst d).ep=(st.apply o.dst d).ep:=(by rw[v,I,L];rfl);exact y.fewer A (λn=>by rw[B]) C (λn R h=>by simpa only [St.root,j,m] using h) (λn R h=>⟨R,by rw[<- j];exact h⟩) (λn R e h s=>by rw[m];exact y.mem.epo n R e (by rw[<- j];exact h) s)
 |true=>obtain⟨l,M⟩:=K rfl;have f:∀n R,zy (st.effD true o.dst d).ro n=some R->∃a,zy (st.apply o.dst d).ro n=some a/\(zgi true a=R\/(a=R/\zy st.ro n=some R)):=(by intro n R h;rw[D,zbX]at h;rw[F,zbX];split at h;{rename_i x z;cases h;obtain⟨a,r,c⟩:=z5B z;exact⟨a,by rw[r],.inl c⟩};{rename_i z;rw[z2J z];exact⟨R,h,.inr ⟨rfl,h⟩⟩});have g:∀a:Root,(zgi true a).ep=none\/(zgi true a).ep=some 0:=(by intro a;cases H:a.ep with|none=>left;simp[zgi,H]|some e=>right;simp[zgi,H]);have q:∀n R,(st.effD true o.dst d).root n=some R->R.ep=none/\zy (st.effD true o.dst d).ro n=some R:=(by intro n R h;obtain⟨G,i⟩:=zbG h;refine⟨?_,G⟩;rcases i with i|i;{exact i};{exfalso;rw[v]at i;obtain⟨a,_,c⟩:=f n R G;rcases c with c|⟨_,c⟩;{have:=g a;rw[c,i] at this;rcases this with h|h;{cases h};{simp only [qC]at h;omega}};{have:=l n R _ c i;omega}});refine y.fewer A (λn=>by rw[B]) C (λn R h=>?_) (λn R h=>?_) (λn R e h s=>?_);{obtain⟨r,c⟩:=q n R h;obtain⟨a,u,k⟩:=f n R c;have e:a=R:=(by rcases k with k|⟨k,_⟩;{exact z1V k r};{exact k});subst e;unfold St.root;rw[u];simp only[r]};{obtain⟨a,u,_⟩:=f n R h;exact⟨a,u⟩};{rw [v];obtain⟨a,_,c⟩:=f n R h;rcases c with c|⟨_,c⟩;{have:=g a;rw[c,s] at this;rcases this with h|h;{cases h};{simp only [qC]at h;omega}};{have:=l n R e c s;omega}}
def UX (U:Nat->Prop)(base a T:Nat)(X:Nat->Bool)(n:Nat):Prop:=U n\/∃i,a<=i/\i<T/\X i=true/\Mine (base+32*i) n
def Sim.uses {e:Nat->Prop}(h:Sim w0 S0 U st E ts sv w)(c:∀n,U n->e n):Sim w0 S0 e st E ts sv w :=
 ⟨h.mem,⟨λn R b=>c n (h.ids.ro n R b),λn g b=>⟨c n (h.ids.lo n g b).1,λa i m d=>c m ((h.ids.lo n g b).2 a i m d)⟩,λm d n b=>c n (h.ids.tm m d n b),λf j m d n b=>c n (h.ids.stk f j m d n b)⟩,h.tm,h.stk⟩
def zVH (u:CfgOk C)(y:CtrOk C)(x:GraftOk C)(r:Sim w0 S0 U st E ts sv w){o:Oper}{id:Nat}(g:∀n,Mine id n->¬ U n){d:Dl}(h:zle C st o id=some d)(s:d.c=true):Goes C w0 S0 U st ts sv w o id (λst=>st.apply o.dst d):=by unfold zle at h;cases l:delta C st o id with|some A =>rw[l]at h;cases h;exact zHQ u y r g l s|none=>rw[l]at h;have e:∃a,zF2 C st o id=some (d.c,a,d.v)/\a.put o.dst d.v=st.apply o.dst d:=(by simp only[zmo]at h;unfold zkT callArgs at h;unfold zF2;split at h;{rename_i own z i;split at i;{rename_i c t;split at i;{rename_i f b;have j:zON o=f:=(by simp only[zON,t,b]);rw[j]at h;simp only[t,b,i]at h ⊢;generalize c.args.toList=m at h ⊢;unfold zQ1 at h;unfold zXg;split at h;{split at h;{split at h;{split at h;{split at h;{split at h;{split at h;{split at h;{rename_i p _ _ q _ _ _ B _ _ D _ _ _ _ F _ _ G H;cases h;simp only[*];refine⟨_,rfl,?_⟩;unfold St.apply;simp[kA]};{cases h}};{cases h}};{cases h}};{cases h}};{cases h}};{cases h}};{cases h}};{cases h}};{cases i}};{cases i}};{cases h});obtain⟨a,p,q⟩:=e;have k:=(x.pok w0 w S0 U st E ts sv o id d.c a d.v r g p s).1;rw[q] at k;exact k
def zSs (S:CfgOk C)(W:CtrOk C)(V:GraftOk C){a T:Nat}(hT:a+ss.length=T)(F:Free C ops cl b base a ss st0){X Y:Nat->Bool}(M:zlw cl X){i:Nat}(q:a<=i)(I:i<T)(l:X i=false)(hr:∀j∈cl.getD i [],X j=true)(hb:b=false->∀k,a<=k->k<T->zmi C ops k=false)(H:b=true->Dead st0/\0<st0.ep)(hM:∀k,a<=k->k<T->∀n,Mine (base+32*k) n->¬ U n)(G:∀k,Y k=(X k||k==i))(y:Sim w0 S0 (UX U base a T X) (zbH ops b X a ss st0) E ts sv w){Q:Exit->Act->World->Prop}{K:Act->World->Prop}(Z:∀(r:Env) (c:LV) (g:World),Sim w0 S0 (UX U base a T Y) (zbH ops b Y a ss st0) r c sv g->K {tmps:=c,defers:=[]} g) :
 wpOp C.P ops Q i K {tmps:=ts,defers:=[]} w:=by
 obtain⟨j,rfl⟩:∃j,i=a+j:=⟨i-a,by omega⟩
 obtain⟨s,N⟩:∃s,ss[j]?=some s:=⟨_,qB (by omega)⟩
 obtain⟨o,J,x⟩:=z4X F M N l hr;have f:∀n,UX U base a T X n->UX U base a T Y n:=by rintro n (h|⟨k,R,A,t,B⟩);{exact .inl h};{exact .inr ⟨k,R,A,by rw[G,t];rfl,B⟩}
 have u:∀{r:Env} {c:LV} {g:World},Sim w0 S0 (UX U base a T Y) ((zbH ops b X a ss st0).step b o s) r c sv g->K {tmps:=c,defers:=[]} g:=by intro r c g h;refine Z r c g (h.same (λκ=>zVR F M N J l G κ) ?_ ?_);{rw [zs9,zX6,zs9]};{rw [ziy,zQ8,ziy]}
 unfold wpOp;simp only[J];cases s with
 |none=>rw[if_neg (by simp[zEc y x])];have t:=y.putV (dst:=o.dst) (m:=.und) (v:=undef) rfl (λn z=>by simp[MV.ids,zbM]at z);rw[zjY];exact u (t.uses f)
 |some d=>obtain⟨A,t,B⟩:=x;rw[if_pos<|zEc y A];refine .inl (zVH S W V y (id:=base+32*(a+j)) ?_ t B _ _ λr v g D=>?_);{rintro n z (h|⟨k,_,g1,L,O⟩);{exact hM (a+j) q I n z h};{refine z0L (i:=k) (j:=a+j) (λe=>?_) O z;rw[e,l] at L;cases L}};{rw [zjY];refine u ((z1v (λp=>zYX J t (hb p (a+j) q I)) (λp=>?_) D).uses ?_);{subst p;exact⟨zAG ss a st0 (H rfl).1 (H rfl).2,by rw[ziy];exact(H rfl).2⟩};{rintro n (h|h);{exact f n h};{exact .inr ⟨a+j,q,I,by rw[G];simp,h⟩}}}
end
section
variable {C:Cfg} {w0 w w1:World} {S0:zbb} {U:Nat->Prop} {st st1:St} {E E1:Env} {ts:Array Value} {sv:List (Array Value)}
def z2K (t:Ty)(x:t.den):t.ofCells (t.cells x)=some x:=by cases t<;>first|rfl|simp[Ty.ofCells,Ty.cells]
def zSP:∀(p:List (Int×Nat)) {t:Ty} {l:List t.den} {c:CV},zhU t l p=some c->∀m,zrH t l p c=some m->m=l
 |[],t,l,c,h,m,a=>by simp only[zhU,qC]at h;subst h;simpa [zrH] using a.symm
 |(i,j)::p,t,l,c,h,m,a=>by
  simp only[zhU]at h;simp only[zrH]at a;split at h
  .rename_i t1 l1 hc;rw[hc]at a;simp only at a;split at a
   .rename_i l2 hl2;have:=zSP p h l2 hl2;subst this;split at a
    .rename_i x hx;cases a;have f:j<(t.cells (ix l i t.dflt)).length:=(qA.1 hc).1;have e:splice (t.cells (ix l i t.dflt)) j [CV.s t1 l2]=t.cells (ix l i t.dflt):=zIy _ _ _ (by simp;omega) (fun k d=>by
      have:k=0:=by simpa using d
      subst this;simpa using hc)
     rw[e,z2K]at hx;cases hx;unfold up ix;apply k5;intro k;rw[q9];split;{rename_i d;subst d;split;{rename_i b;simp[List.getD,qB b]};{rename_i b;rw[List.getElem?_eq_none (by omega)]}};{rfl}
    {cases a}
   {cases a}
  {cases h}
def z7S {t:Ty}(c:t.flat=true):∀(q:List (Int×Nat)) (v u:Value),zbf w t v q=some u->q=[]
 |[],_,_,_=>rfl
 |(i,j)::q,v,u,h=>by exfalso;cases v with|slice a len d=>(cases a with|none=>simp[zbf]at h|some a=>simp only[zbf]at h;split at h;{split at h;{rename_i e b;unfold Ty.flat at c;have:=qM.1 c _ (qK b);simp at this};{cases h}};{cases h})|_=>simp[zbf]at h
def zbcg (hC:CfgOk C){T:TypeId}{t:Ty}(hT:C.sty T=some t)(hf:t.flat=true){v1 v2:Value}{d f:List t.den}{S1 S2:zbb}(c3:Rep true w v1 (.s t d) S1)(c4:Rep false w v2 (.s t f) S2)(b8:f≠[])(d1:few (ln (ap d f))=true)(oT:TypeId) :
 ∃(v:Value) (E:World) (L Z r:Nat),(Builtin.append_ #[T,T] oT #[v1,v2]).run C.P w = .ok v E/\v = .slice (some ⟨L,Z,none⟩) (ap d f).length r/\Rep true E v (.s t (ap d f)) (fun x=>x=L)/\
  E.os=w.os/\E.tape=w.tape/\E.output=w.output/\
  ((L=w.heap.size/\E.heap.size=w.heap.size+1/\∀x,x<w.heap.size->E.heap[x]?=w.heap[x]?) \/
    ∃Y N,v1 = .slice (some ⟨L,Y,none⟩) d.length N/\S1 L/\E.heap.size=w.heap.size/\(∀x,x≠L->E.heap[x]?=w.heap[x]?)/\Rep true E v1 (.s t d) S1):=by
 obtain⟨e,hE⟩:=hC.sty T t hT;obtain⟨i,z,m,hs,hz,f3,d0⟩:=hE.info;obtain⟨f0,f1⟩:=zOU d1;have d4:d.length+f.length<=2147483648:=by simp only[ln,ap,kC] at f1;omega
 have a3:(ap d f).length=d.length+f.length:=by simp[ap]
 cases c4 with
 |nil=>exact absurd rfl b8
 |void=>exact absurd rfl b8
 |sl _ _ b2 p F a2 e2 f7 V2 K2 _ d7 f5 e4 b5 f6 f8 f2 d9 d5 a5=>
 have e5:0<f.length:=kR.2 b8;have e7:f.length*t.width<=F*t.width:=qS _ b5;generalize V:(a2.toList.drop p).take (f.length*t.width)=a;have D:a.length=f.length*t.width:=by rw[<- V];simp;omega
 have a6:∀k,k<f.length*t.width->a[k]?=a2[p+k]?:=by intro k hk;rw[<- V,jI,if_pos hk,jO];simp
 have c1:∀j u,a[j]?=some u->w.cell? ((⟨b2,p,none⟩:Addr).add j)=some u:=by intro j u hu;have B:j<f.length*t.width:=(by rw[<- D];exact(qA.1 hu).1);rw[add_lit,cell_of_block d7,<- a6 j B];exact hu
 have I:∀i j,i<f.length->j<t.width->i*t.width+j<f.length*t.width:=by intro i j m B;have:(i+1)*t.width<=f.length*t.width:=qS _ m;rw[jL] at this;omega
 have c2:∀i j,i<f.length->j<t.width->a[i*t.width+j]?=some (V2 i j):=by intro i j m B;rw[a6 _ (I i j m B),<- uF];exact d5 i j m B
 have d6:=zFB t;have e8:∀u∈a,u.oneCell'=true:=by intro u hu;obtain⟨k,hk⟩:=qT.1 hu;have e3:k<f.length*t.width:=(by rw[<- D];exact(qA.1 hk).1);have a1:k / t.width<f.length:=(Nat.div_lt_iff_lt_mul d6).2 e3;have d3:k % t.width<t.width:=Nat.mod_lt _ d6;have:=c2 _ _ a1 d3;rw[Nat.mul_comm,Nat.div_add_mod,hk] at this;cases this;have J:=qB a1;have y:(t.cells (f[k / t.width]'a1))[k % t.width]?=some ((t.cells (f[k / t.width]'a1))[k % t.width]'(by rw[zdB];exact d3)):=qB _;exact(a5 _ _ J _ _ y).one
 have U:∀(w1:World) i x,f[i]?=some x->∀j c,(t.cells x)[j]?=some c->Rep true w1 (V2 i j) c (fun _=>False):=fun w1 i x J j c y=>(a5 i x J j c y).flat (zwS hf y);have W:∀i j,i<d.length->j<t.width->i*t.width+j<d.length*t.width:=by intro i j m B;have:(i+1)*t.width<=d.length*t.width:=qS _ m;rw[jL] at this;omega
 have a0:(d.length+f.length)*i.bytes<=140737488355328:=by have:=uQ d4 d0;omega
 have b0:z.cells.size=t.width:=by rw[<- kQ,f3];simp[zfr]
 have O:∀(g:List Value) (A:Nat) (V1:Nat->Nat->Value) (zs:LV),g.length=d.length*t.width->d.length+f.length<=A->zs.size=(A-(d.length+f.length))*t.width->
  (∀i j,i<d.length->j<t.width->g[i*t.width+j]?=some (V1 i j))->
  (∀i x,d[i]?=some x->∀j c,(t.cells x)[j]?=some c->∃S,Rep true w (V1 i j) c S)->
  (Builtin.append_ #[T,T] oT #[v1,.slice (some ⟨b2,p,none⟩) f.length F]).run C.P w = .ok (.slice (some ⟨w.heap.size,0,none⟩) (d.length+f.length) A) (w.drew.alloc (.cells (g.toArray++a.toArray++zs) e (0,0)))->
  ∃(v:Value) (E:World) (L Z r:Nat),(Builtin.append_ #[T,T] oT #[v1,.slice (some ⟨b2,p,none⟩) f.length F]).run C.P w = .ok v E/\v = .slice (some ⟨L,Z,none⟩) (ap d f).length r/\Rep true E v (.s t (ap d f)) (fun x=>x=L)/\
  E.os=w.os/\E.tape=w.tape/\E.output=w.output/\
  ((L=w.heap.size/\E.heap.size=w.heap.size+1/\∀x,x<w.heap.size->E.heap[x]?=w.heap[x]?) \/
    ∃Y N,v1 = .slice (some ⟨L,Y,none⟩) d.length N/\S1 L/\E.heap.size=w.heap.size/\(∀x,x≠L->E.heap[x]?=w.heap[x]?)/\Rep true E v1 (.s t d) S1):=by
  intro g A V1 zs G b4 f4 e9 d8 M;generalize n:w.drew.alloc (.cells (g.toArray++a.toArray++zs) e (0,0))=w1 at M;have c5:∀x,x<w.heap.size->w1.heap[x]?=w.heap[x]?:=fun x J=>by rw[<- n];exact heap_alloc_old w.drew _ x J
  have c6:w1.heap.size=w.heap.size+1:=by rw[<- n];simp
  refine⟨_,w1,w.heap.size,0,A,M,by rw[a3],?_,by rw[<- n];rfl,by rw[<- n];rfl,by rw[<- n];rfl,.inl ⟨rfl,c6,c5⟩⟩
  refine Rep.join (arr:=g.toArray++a.toArray++zs) (e:=e) (V1:=V1) (V2:=V2) (K1:=fun _ _ _=>False) (K2:=fun _ _ _=>False) ?_ (by simp only[big];omega) b4 ?_ rfl ?_ ?_ ?_ (U w1) (fun _ _ _ _ _ h=>h.elim) (fun _ _ _ _ _ h=>h.elim) (fun _ _ _ _ _ _ _ _ _ h=>h.elim) (fun _ _ _ _ _ _ _ _ _ h=>h.elim) (fun _ _ _ _ _ _ _ _ _ h=>h.elim)
  .rw [<- n];exact heap_alloc_new w.drew _
  .simp only [Array.size_append,j7,G,D,f4,<- kT];have:d.length+f.length+(A-(d.length+f.length))=A:=by omega
   rw[this];omega
  .intro i j m B;have:=W i j m B;rw[jX,uM,j4 (by simp[G];exact this)]
   simpa using e9 i j m B
  .intro i j m B;have:=I i j m B;rw[jX,kT,uM,kG (by simp[G];omega),j4 (by simp[G,D];omega)]
   rw[<- c2 i j m B];simp only[j7,G,jF]
   congr 1
   omega
  .intro i x J j c y;obtain⟨S,M⟩:=d8 i x J j c y;exact M.flat (zwS hf y)
 cases c3 with
 |nil=>
  have M:=run_append_nil (P:=C.P) w T oT e i z hE.und m hz ⟨b2,p,none⟩ f.length F a (by rw[hs];exact D) c1 e5 (by omega) (by
   have:=uQ (show f.length<=2147483648 by omega) d0
   omega)
  have b7:=grownCap_ge w f.length 0 e;refine O [] (grownCap w f.length 0 e) (fun _ _=>undef) (Builtin.zeroCells z.cells (grownCap w f.length 0 e-f.length)) (by simp) (by simpa using b7) (by simp[size_zeroCells,b0]) (fun i j m=>by simp at m) (fun i x J=>by simp at J) ?_;rw[M];simp
 |void _ _ _ ho=>cases ho
 |sl _ _ b l r q e1 fz V1 K1 _ hb e0 b9 Q a9 c8 c7 b6 X R=>
  have d2:=e0 rfl;subst d2;have e6:d.length*t.width<=r*t.width:=qS _ Q;by_cases H:d.length+f.length<=r;{have c0:(d.length+f.length)*t.width<=r*t.width:=qS _ H;rw[kT]at c0;have M:=run_append_room' (P:=C.P) (w:=w) T oT e i hE.und m b l d.length r q e1 hb ⟨b2,p,none⟩ f.length F a (by rw[hs];exact D) c1 e8 H (by rw[hs,D];omega);rw[hs]at M;have b3:l+d.length*t.width+a.length<=q.toList.length:=(by rw[D];simp;omega);generalize n:w.setRow b (splice q.toList (l+d.length*t.width) a).toArray=w1 at M;have c9:w1.heap[b]?=some (.cells (splice q.toList (l+d.length*t.width) a).toArray e1 (0,0)):=(by rw[<- n];exact setRow_heap w b _ _ e1 _ hb);have a8:∀x,x≠b->w1.heap[x]?=w.heap[x]?:=fun x J=>(by rw[<- n];exact setRow_other w b x _ J);have a4:(splice q.toList (l+d.length*t.width) a).toArray.size=q.size:=(by rw[j7,zjw _ _ _ b3];simp);have K:∀k,k<l+d.length*t.width->(splice q.toList (l+d.length*t.width) a).toArray[k]?=q[k]?:=(by intro k hk;rw[jF,zfj _ _ _ b3 k (.inl hk)];simp);have b1:Rows true w t d q l b V1 K1 S1:=⟨c7,b6,X,R⟩;obtain⟨k1,_⟩:=Rep.behind (w1:=w1) b9 Q a9 c8 b1 hb c9 a4 K a8;refine⟨_,w1,b,l,r,M,by rw[a3],?_,by rw[<- n];rfl,by rw[<- n];rfl,by rw[<- n];rfl,.inr ⟨l,r,rfl,c8,by rw[<- n];simp,a8,k1⟩⟩;refine Rep.join (arr:=(splice q.toList (l+d.length*t.width) a).toArray) (e:=e1) (V1:=V1) (V2:=V2) (K1:=fun _ _ _=>False) (K2:=fun _ _ _=>False) c9 (by simp only[big];omega) H (by rw[a4];exact a9) rfl ?_ ?_ ?_ (U w1) (fun _ _ _ _ _ h=>h.elim) (fun _ _ _ _ _ h=>h.elim) (fun _ _ _ _ _ _ _ _ _ h=>h.elim) (fun _ _ _ _ _ _ _ _ _ h=>h.elim) (fun _ _ _ _ _ _ _ _ _ h=>h.elim);{intro i j m B;have:=W i j m B;rw[K _ (by omega)];exact X i j m B};{intro i j m B;have:=I i j m B;rw[jF,kT,zfs _ _ _ b3 _ (by omega) (by rw[D];omega),<- c2 i j m B];congr 1;omega};{intro i x J j c y;exact(R i x J j c y).flat (zwS hf y)}}
  .generalize holds:(q.toList.drop l).take (d.length*t.width)=g;have G:g.length=d.length*t.width:=(by rw[<- holds];simp;omega);have a7:∀k,k<d.length*t.width->g[k]?=q[l+k]?:=by intro k hk;rw[<- holds,jI,if_pos hk,jO];simp
   have M:=run_append_grow (P:=C.P) w T oT e i z hE.und m hz ⟨b,l,none⟩ d.length r g (by rw[hs];exact G) (fun j u hu=>by
    have B:j<d.length*t.width:=by rw[<- G];exact(qA.1 hu).1
    rw[add_lit,cell_of_block hb,<- a7 j B];exact hu) ⟨b2,p,none⟩ f.length F a (by rw[hs];exact D) c1 (by omega) (by omega) (growslice_fits (by omega) a0)
   have b7:=grownCap_ge w (d.length+f.length) r e;refine O g _ V1 _ G b7 (by rw[size_zeroCells,b0]) (fun i j m B=>?_) (fun i x J j c y=>⟨_,R i x J j c y⟩) M;have:(i+1)*t.width<=d.length*t.width:=qS _ m;rw[jL] at this;rw[a7 _ (by omega),<- uF];exact X i j m B
end
section
variable {C:Cfg} {w0 w w1:World} {S0:zbb} {U:Nat->Prop} {st st1 st':St} {E E1:Env} {ts:Array Value} {sv:List (Array Value)}
def Late (w0:World)(st:St)(E:Env)(x:App)(v:Value)(w:World):Prop :=
 ∃(f e d g:Nat) (R:Root),w0.heap.size<=f/\(∀q Q,st.root q=some Q->∀y,E.φ q y->y<f)/\(∀l h,zy st.lo l=some h->E.β l<f)/\
  v = .slice (some ⟨e,d,none⟩) x.l.length g/\Rep true w v (.s x.t x.l) (λy=>y=e)/\st.root x.r=some R/\
  (f<=e\/∃c b a,zbf w R.t (E.ρ x.r) x.p=some (.slice (some ⟨e,c,none⟩) b a))
def Late.states {x:App}{v:Value}(h:Late w0 st E x v w)(d:∀n,st'.root n=st.root n)(s:∀n,zy st'.lo n=zy st.lo n):Late w0 st' E x v w:=by obtain⟨t,e,a,b,R,g,i,j,k,m,p,r⟩:=h;exact⟨t,e,a,b,R,g,λq Q c=>i q Q (by rw[<- d];exact c),λl f c=>j l f (by rw[<- s];exact c),k,m,by rw[d];exact p,r⟩
def zIz {r:Nat}(a:At):zdd r [] a=a:=by cases a<;>simp [zdd,coarse]
def zIA {r:Nat}(m:MV):zgW r [] m=m:=by have h:zdd r []=id:=funext λa=>zIz a;have c:∀x,znz r [] x=x:=λx=>(by cases x<;>simp [znz,h]);have b:znz r []=id:=funext c;cases m<;>simp [zgW,c,b]
def z5w (h:Dead st){n:Nat}{R:Root}(c:st.root n=some R):R.ep=none:=by obtain⟨b,a⟩:=zbG c;rcases a with a|a;{exact a};{have:=h n R _ b a;omega}
def z6a {v:Value}{t:Ty}{l:List t.den}{S:zbb}{b off n a:Nat}(h:Rep true w v (.s t l) S)(e:v = .slice (some ⟨b,off,none⟩) n a):b<w.heap.size/\S b:=by cases h with|nil=>cases e|void _ _ _ f=>cases f|sl _ _ g _ _ _ _ _ _ _ _ d _ _ _ _ c=>cases e;exact⟨(qQ.1 d).1,c⟩
def z8i (hC:CfgOk C)(k:Sim w0 S0 U st E ts sv w)(hd:Dead st){o:Oper}{x:App}(h:zr9 C st o=some (true,x)) :
 o.guard=none/\o.dst=some x.dst/\∃(v:Value) (f:World),(execOp ({tmps:=ts,defers:=[]}:Act).eval o).run C.P w = .ok (.value v) f/\
  Sim w0 S0 U (st.put o.dst<|.v<|.at .bad) E (({tmps:=ts,defers:=[]}:Act).put o.dst v).tmps sv f/\Late w0 st E x v f:=by
 unfold zr9 at h;split at h
 .rename_i c d ho hdst hgu;split at h
  .rename_i hcb;split at h
   .rename_i a0 y0 T T2 hca hct;split at h
    .rename_i hTT;subst hTT;split at h
     .rename_i t r a p r2 p2 hT h1 h2;split at h
      .rename_i R cv1 cv2 hR hn1 hn2;split at h
       .rename_i hcond;simp only[qE,jE,beq_eq_false_iff_ne]at hcond;obtain⟨⟨H,a2⟩,b9⟩:=hcond;split at h
        .rename_i m t2 y2 l2' hm;simp only[qC,jS]at h;obtain⟨a1,rfl⟩:=h;refine⟨hgu,hdst,?_⟩;obtain⟨l1,l2,e1,e2,rfl⟩:=zBW hm;subst e1;have b2:l2≠[]:=by intro e;subst e;cases e2
         rw[e2]at hn2
         clear e2
         generalize c0:a::p=pp at h1 hn1;have j:=k.mem;obtain⟨hx,_⟩:=zbO k h1;obtain⟨hy,_⟩:=zbO k h2;have hh:=hx.2 R hR;have i:=j.rep r R hR;rw[H]at i;obtain⟨t',l0,S1,f1,f2,f3,f4,f5⟩:=Rep.focus pp i hh;have a3:zhU R.t R.l pp=some (.s t l1):=by obtain⟨R',W,b1⟩:=zgB hn1;rw[hR]at W;cases W;exact b1
         rw[a3] at f1;cases f1;obtain⟨R2,S2,b7,g1,g2,g3,g4⟩:=zwm k hy hn2;obtain⟨v,f,bv,K,S,a5,hv,I,a4,a6,G,L⟩:=zbcg hC hT a2 f3 g3.ro b2 a1 o.type;have X:c.args = #[a0,y0]:=by rw[<- hca]
         have Y:c.argTypes = #[T2,T2]:=by rw[<- hct]
         have g:(execOp ({tmps:=ts,defers:=[]}:Act).eval o).run C.P w = .ok (.value v) f:=by simp[execOp,ho,resolve,hcb,invoke,builtin,X,Y,a5]
         have a7:∀l cs,zy st.lo l=some cs->E.β l<w.heap.size:=by intro l cs h;obtain⟨_,b6,e,h2,_⟩:=j.loc l cs h;exact(qQ.1 h2).1
         rcases L with⟨b8,b4,O⟩|⟨a8,V,b5,B,b4,F,N⟩
         .obtain⟨hM',hT'⟩:=j.addRoots k.ids.mem (dro:=[]) (w1:=f) (E1:=E) a4 a6 G (by omega) O (λq Q b=>by cases b) (λq Q _ _ b=>by cases b) (λ_ _=>⟨rfl,rfl,rfl⟩)
          refine⟨v,f,g,Sim.next k (st1:=st) hM' hT' rfl rfl (λ_ h=>h) k.ids.ro k.ids.lo trivial (λn hn=>by simp[MV.ids,zbM,zW,At.ids,zbw,zbC]at hn),?_⟩
          exact⟨w.heap.size,bv,K,S,R,j.size,λq Q b y hy=>j.rlt q Q b y hy,a7,hv,I,hR,.inl (by omega)⟩
         .obtain⟨m,hm1,hrm,hh1,hh2⟩:=f5 f l1 S1 (λz _ M=>F z λe=>M (e ▸ B)) (λ_ h _=>h) N;have b3:=zSP pp a3 m hm1;subst b3;obtain⟨_,_,_,_,a9⟩:=f5 w l1 S1 (λ_ _ _=>rfl) (λ_ h _=>h) f3;have D:∀q u,zbf w R.t (E.ρ r) q=some u->zbf f R.t (E.ρ r) q=some u:=by intro q u b;refine hh1 q u b (λq' Z=>?_);subst Z;rw[a9]at b;exact z7S a2 q' _ _ b
          have J:=zH0 (w1:=f) (m:=R.l) (js:=[]) (S3:=E.φ r) k hR H a4 a6 G (by omega) (λz hz M=>F z λe=>M (f4 z<|e ▸ B)) (λz hz=>⟨.inl hz,by have:=j.rlt r R hR z hz;omega⟩) (hrm.weak λz hz=>by
           rcases hz with⟨h,_⟩|h
           .exact h
           .exact f4 z h) (λq u b _=>D q u b)
          have hE:({E with φ:=λn=>if n=r then E.φ r else E.φ n}:Env)=E:=by
           have:(λn=>if n=r then E.φ r else E.φ n)=E.φ:=by
            funext n
            split
            .rename_i e;rw[e]
            .rfl
           rw[this]
          rw[hE]at J;have b0:Sim w0 S0 U st E ts sv f:=by refine J.fewer (λt=>?_) (λn=>?_) ?_ (λn Q A=>?_) (λn Q A=>?_) (λn Q e A Z=>j.epo n Q e A Z);{simp only [zi2,qP];cases st.tm[t]? <;> simp [zIA]};{simp only [zi2];rw[zl1];have:zdd r []=id:=funext λa=>zIz a;cases zy st.lo n<;>simp [this]};{simp only [zi2];have:zgW r []=id:=funext λa=>zIA a;simp[this]};{have Z:=z5w hd A;obtain⟨q1,_⟩:=zbG A;refine ziq ?_ (.inl Z);simp only[zi2,zy];split;{rename_i hb;simp only[qL]at hb;subst hb;rw[hR]at A;cases A;rfl};{exact q1}};{simp only [zi2,zy];split;{exact⟨_,rfl⟩};{exact⟨Q,A⟩}}
          refine⟨v,f,g,b0.putV trivial (λn hn=>by simp[MV.ids,zbM,zW,At.ids,zbw,zbC]at hn),?_⟩
          refine⟨w.heap.size,bv,K,S,R,j.size,λq Q b y hy=>j.rlt q Q b y hy,a7,hv,I,hR,.inr ⟨a8,l1.length,V,?_⟩⟩;refine D pp _ ?_;rw[hh,b5]
        .cases h
       .cases h
      .cases h
     .cases h
    .cases h
   .cases h
  .cases h
 .cases h
def z2x (hC:CfgOk C)(hS:Sim w0 S0 U st E ts sv w){o:Oper}{id:Nat}{x:App}{v:Value}{b4:St}(hL:Late w0 st E x v w)(g0:ts[x.dst]?=some v)(h:zEB C st o x=some (true,b4)) :
 o.guard=none/\Goes C w0 S0 U st ts sv w o id (λ_=>b4.put o.dst .und)/\b4.nid=st.nid:=by
 unfold zEB at h;split at h
 .rename_i T a d ho hgu;split at h
  .rename_i t1 r p i off hT ha;split at h
   .rename_i R t l c hRr L hsp;split at h
    .rename_i hcond;simp only[qE,q0,Nat.beq_eq_true_eq]at hcond;obtain⟨⟨⟨a4,a9⟩,b2⟩,G⟩:=hcond;have a9:=kK a9;have b2:=kK b2;subst a9 b2;split at h
     .rename_i l' hset;split at h
      .rename_i m hput;simp only[qC,jS]at h;obtain⟨rfl,rfl⟩:=h;refine⟨hgu,?_,rfl⟩;have f7:=zt4 hsp;obtain⟨n0,X,g7,g3,R',e8,Q,e7,c6,P,M,S⟩:=hL;rw[hRr]at M;cases M;obtain⟨d0,g8⟩:=zbO hS ha;obtain⟨b,o2,len,c8,h0,e1,e2,e3,Y,e5⟩:=d0.2 R hRr;have hM:=hS.mem;have a5:=hM.rep _ R hRr;rw[a4]at a5;obtain⟨t',l0,S1,f1,f2,f3,f4,f5⟩:=Rep.focus p a5 e1;have d7:zhU R.t R.l p=some (.s t l):=by obtain⟨R',M,d6⟩:=zgB L;rw[hRr]at M;cases M;exact d6
       rw[d7] at f1;cases f1;rw[e2] at f2;cases f2;obtain⟨_,_,_,_,b5⟩:=f5 w l S1 (λ_ _ _=>rfl) (λ_ h _=>h) f3;cases f3 with
       |void _ _ _ ho=>cases ho
       |sl _ _ _ _ _ a6 e' fz V K _ hb d5 b0 a0 c5 a7 A a1 c7 b8=>
       have b9:=d5 rfl;subst b9;have N:Rows true w t l a6 o2 b V K S1:=⟨A,a1,c7,b8⟩;have a3:v.oneCell'=true:=by rw[c6];rfl
       have B:v.cells = #[v]:=cells_one a3;have O:off+[v].length<=t.width:=by simp;omega
       have c3:(i.toNat+1)*t.width<=c8*t.width:=qS _ (by omega)
       rw[jL]at c3;have H:=zqA (w:=w) (v:=v) (off:=o2+i.toNat*t.width+off) (hC.cty T false [.s t1] hT) hb (by rw[B];rfl) (by simp;omega) (by rw[B];intro u hu;simp at hu;rw[hu];exact a3)
       rw[B]at H;have e6:(#[v]:LV).toList=[v]:=rfl;rw[e6]at H;generalize J:w.setRow b (splice a6.toList (o2+i.toNat*t.width+off) [v]).toArray=w1 at H;have b7:w1.heap[b]?=some (.cells (splice a6.toList (o2+i.toNat*t.width+off) [v]).toArray e' (0,0)):=by rw[<- J];exact setRow_heap w b _ _ e' _ hb
       have D:∀y,y≠b->w1.heap[y]?=w.heap[y]?:=λy z=>by rw[<- J];exact setRow_other w b y _ z
       have c2:E.φ x.r b:=f4 b a7;have g9:b<n0:=Q _ R hRr b c2;have a2:∀F j,F<l.length->j<t.width->¬ Hit i.toNat off [v].length F j->∀y,K F j y->w1.heap[y]?=w.heap[y]?:=λF j I hj _ y z=>D y ((A F j y I hj z).2 rfl)
       have a8:n0<=X\/K i.toNat off X:=by rcases S with h|⟨g6,g5,g2,h⟩;{exact .inl h};{right;rw[<- f7,b5]at h;simp only[zbf]at h;rw[if_pos ⟨e3,Y⟩]at h;split at h;{rename_i t3 f9;rw[cell_of_block hb,c7 i.toNat off Y G]at h;simp only[qC]at h;obtain⟨c,hc,d3⟩:=zBs (x:=ix l i t.dflt) f9;obtain⟨l3,rfl⟩:=zmW d3;have c1:=b8 i.toNat _ (zm4 Y) off _ hc;rw[h]at c1;cases c1 with|void _ _ _ ho=>cases ho|sl _ _ _ _ _ _ _ _ _ _ _ _ _ _ _ _ c9=>exact c9};{cases h}}
       have Z:X≠b:=by rcases a8 with h|h;{omega};{exact(A _ _ X Y G h).2 rfl}
       have b3:=Rep.setCells (w:=w) (w1:=w1) (us:=[v]) (Kn:=λ_ y=>y=X) b0 a0 c5 N Y rfl O hset b7 (λk c u hc hu=>by
        cases k with
        |zero=>simp only[qH,qC]at hc hu;subst hc hu;exact P.frame (λy z=>D y (by rw[z];exact Z))
        |succ k=>simp at hc)
        a2
        (λk y _ z=>by rw[z];exact Z)
        (λk k' y hk e0 _ _=>by simp at hk e0;omega)
        (λk y F j hk z I hj e9 W=>by
         subst z;rcases a8 with h|h
         .have:=Q _ R hRr y (f4 y (A F j y I hj W).1);omega
         .have:=a1 rfl _ _ _ _ y Y G I hj h W;exact e9 ⟨this.1.symm,by omega,by simp;omega⟩)
       have b6:∀y,(y=b\/(∃F j,F<l.length/\j<t.width/\¬ Hit i.toNat off [v].length F j/\K F j y)\/∃k,k<[v].length/\y=X)->S1 y\/(n0<=y/\y=X):=by intro y z;rcases z with rfl|⟨F,j,I,hj,_,hk⟩|⟨k,hk,rfl⟩;{exact .inl a7};{exact .inl (A F j y I hj hk).1};{rcases a8 with h|h;{exact .inr ⟨h,rfl⟩};{exact .inl (A _ _ _ Y G h).1}}
       obtain⟨m',c0,f8,d8,d9⟩:=f5 w1 l' _ (λy z b1=>D y λe=>b1 (e ▸ a7)) (λy z W=>by
        rcases b6 y z with h|⟨h,_⟩
        .exact h
        .have:=Q _ R hRr y W;omega) b3
       rw[hput]at c0;cases c0;have g4:w1.heap.size=w.heap.size:=by rw[<- J];simp
       have d1:X<w.heap.size:=(z6a P c6).1;have c4:=zEv (w1:=w1) (m:=m) (js:=[cols p++[off]]) e8 Q e7 hS hRr a4 (by rw[<- J];rfl) (by rw[<- J];rfl) (by rw[<- J];rfl) (by omega) (λy _ b1=>D y λe=>b1 (e ▸ c2)) (λy z=>by
        rcases z with⟨z,_⟩|z
        .exact⟨.inl z,by have:=hM.rlt _ R hRr y z;omega⟩
        .rcases b6 y z with h|⟨h,rfl⟩
         .exact⟨.inl<|f4 y h,by have:=hM.rlt _ R hRr y (f4 y h);omega⟩
         .exact⟨.inr h,by omega⟩) f8 (λq u hq f6=>by
        rcases zuA p q with⟨q',rfl⟩|f0
        .rw [d9 q'];rw[b5 q']at hq;refine zpJ (us:=[v]) a0 c5 N hb Y rfl O hset b7 a2 q' (λF j g1 he k c hj d2=>?_) D hq;subst he hj;cases k with
         |succ k=>simp at d2
         |zero=>exfalso;have h9:=kP.1 f6 (cols p++[off]) (by simp);exact absurd (zsb p F off g1) h9
        .exact d8 q u hq λq' he=>absurd ⟨q',he⟩ f0)
       have g:=c4.putV (dst:=o.dst) (m:=.und) (v:=undef) rfl (λn L=>by simp[MV.ids,zbM]at L)
       refine zwV (w':=w1) ?_ ⟨g.mem,⟨λn R L=>.inl (g.ids.ro n R L),λn cs L=>⟨.inl (g.ids.lo n cs L).1,λa ha m hm=>.inl ((g.ids.lo n cs L).2 a ha m hm)⟩,λm hm n L=>.inl (g.ids.tm m hm n L),λf hf m hm n L=>.inl (g.ids.stk f hf m hm n L)⟩,g.tm,g.stk⟩;have d4:({tmps:=ts,defers:=[]}:Act).eval (.tmp x.dst)=v:=by simp[Act.eval,g0]
       simp[execOp,ho,Instr.storeAt,e5,Instr.sureAddr,d4,H]
      .cases h
     .cases h
    .cases h
   .cases h
  .cases h
 .cases h
end
section
variable {C:Cfg} {w0 w w1:World} {S0:zbb} {U:Nat->Prop} {st st1:St} {E E1:Env} {ts:Array Value} {sv:List (Array Value)}
variable {ops:Array Oper} {b:Bool} {base:Nat} {cl:List (List Nat)} {ss:List Step} {st0:St}
def zMd {w b:World}(h:b.heap=w.heap):∀(p:List (Int×Nat)) (t:Ty) (v:Value),zbf b t v p=zbf w t v p
 |[],t,v=>by simp only[zbf]
 |(i,j)::p,t,v=>by have d:∀a,b.cell? a=w.cell? a:=λa=>(by simp only[World.cell?,h]);have e:=zMd h p;cases v with|slice a len c=>cases a<;>simp only [zbf,d,e]|_=>simp only[zbf]
def Sim.heap (g:Sim w0 S0 U st E ts sv w){w':World}(d:w'.heap=w.heap)(v:w'.os=w.os)(y:w'.tape=w.tape)(z:w'.output=w.output):Sim w0 S0 U st E ts sv w':=by
 have T:Trans st E w st E w' (λ_=>True):=⟨λr _ R h=>⟨R,h,rfl,λp u i=>by rw[zMd d];exact i⟩,λl _ k h=>⟨⟨k,h⟩,rfl⟩,rfl⟩
 have a:=g.mem;refine⟨⟨by rw[v];exact a.os,by rw[y];exact a.tape,by rw[z];exact a.output,by rw[d];exact a.size,λb A C=>by rw[d];exact a.keep b A C,
  λr R h=>(a.rep r R h).frame (λx _=>by rw[d]),λr R h x D=>by rw[d];exact a.rlt r R h x D,a.mine,a.frz,a.apart,λl k B=>?_,a.linj,a.lro,a.epo,a.κ⟩,g.ids,
  Slots.tr T (λ_ _ _ _=>trivial) g.tm,Stack.tr T (λ_ _ _ _ _ _=>trivial) g.stk⟩
 obtain⟨q,f,e,s,t,m⟩:=a.loc l k B;exact⟨q,f,e,by rw[d];exact s,t,λj c u n i=>⟨(m j c u n i).1,VA.tr T (λ_ _=>trivial) (m j c u n i).2⟩⟩
def Sim.blind (d:Sim w0 S0 U st E ts sv w)(c:Bool)(n:Nat):Sim w0 S0 U {st with nid:=n,ep:=if c then st.ep+1 else st.ep} E ts sv w:=by
 have h:=d.nid n;cases c with
 |false=>exact h
 |true=>refine h.fewer (λ_=>rfl) (λ_=>rfl) rfl (λr R b=>?_) (λr R b=>⟨R,b⟩) (λr R e b i=>?_);{obtain⟨f,a⟩:=zbG b;have j:R.ep=none:=(by rcases a with a|a;{exact a};{have:=d.mem.epo r R _ f a;simp only[if_true] at this;omega});show St.root {st with nid:=n} r=some R;unfold St.root;have g:zy ({st with nid:=n}:St).ro r=some R:=f;rw[g];simp only[j]};{have:=d.mem.epo r R e b i;show e<=st.ep+1;omega}
def cnt_lt {p q:Nat->Bool}:∀(l:List Nat),(∀x∈l,q x=true->p x=true)->(∃x∈l,p x=true/\q x=false)->l.countP q<l.countP p
 |[],_,h=>by obtain⟨x,b,_⟩:=h;cases b
 |a::l,e,g=>by
  have f:∀(m:List Nat),(∀x∈m,q x=true->p x=true)->m.countP q<=m.countP p:=λm i=>List.countP_mono_left i;have i:=f l (λx b=>e x (by simp[b]))
  simp only[vF];cases j:q a with
  |true=>
   rw[e a (by simp) j]
   have:l.countP q<l.countP p:=cnt_lt l (λx b=>e x (by simp[b])) (by
    obtain⟨x,b,c,d⟩:=g;rcases qG.1 b with rfl|b
    .rw [j] at d;cases d
    .exact⟨x,b,c,d⟩)
   simp only[if_true];omega
  |false=>
   cases k:p a with
   |true=>simp;omega
   |false=>
    have:l.countP q<l.countP p:=cnt_lt l (λx b=>e x (by simp[b])) (by
     obtain⟨x,b,c,d⟩:=g;rcases qG.1 b with rfl|b
     .rw [k] at c;cases c
     .exact⟨x,b,c,d⟩)
    simp;omega
def left (n:Nat)(listed:Array Bool):Nat:=(List.range n).countP λi=>!listed.getD i true
def zKb {listed:Array Bool}{n i:Nat}(e:i<n)(c:listed.getD i true=false):left n (listed.setIfInBounds i true)<left n listed:=by unfold left;have a:i<listed.size:=(by rcases u2 i listed.size with h|h;{exact h};{simp [uW h]at c});refine cnt_lt _ (λx _ d=>?_) ⟨i,kJ.2 e,by rw[c];rfl,by simp[a]⟩;by_cases b:i=x;{subst b;simp[a]at d};{rwa [getD_set_ne true b]at d}
def zYY {C:Cfg}{st:St}{o:Oper}{id:Nat}{d:Dl}(b:ztn o=true)(h:zle C st o id=some d):delta C st o id=some d:=by unfold zle at h;cases e:delta C st o id with|some g=>rw[e]at h;exact h|none=>rw[e]at h;exfalso;have h:zmo C st o id=some d:=h;have f:zkT C o=none:=(by unfold ztn at b;unfold zkT;cases a:o.op with|call c=>rw[a]at b;simp at b|_=>rfl);unfold zmo at h;rw[f]at h;cases h
structure Waits (md:Region.Mode) (ops:Array Oper) (cl:List (List Nat)):Prop where
 at':∀i,i<ops.size->cl.getD i []=waits ops (cl.take i) i
 lt:∀i,i<ops.size->∀j∈cl.getD i [],j<i
 sub:∀e,Region.binds .any e=true->Region.binds md e=true
 rk:∃rk:Nat->Nat,∀(i:Nat) (o:Oper),ops[i]?=some o->∀e∈o.after,Region.binds md e=true->e.on<ops.size/\rk e.on<rk i
variable {md:Region.Mode}
def zbbI (a:∀i,i<ops.size->cl.getD i []=waits ops (cl.take i) i){i:Nat}{o:Oper}(b:ops[i]?=some o){e:Edge}(d:e∈o.after)(c:Region.binds .any e=true):e.on∈cl.getD i []:=by have f:=(qQ.1 b).1;rw[a i f];simp only[waits,b];exact zOG (by simpa using d) c
def zUv {l:List (List Nat)}{i j k:Nat}(h:k∈(l.take i).getD j []):k∈l.getD j []:=by rw[j9,jI]at h;rw[j9];split at h;{exact h};{simp at h}
def Waits.inv (W:Waits md ops cl){i j:Nat}{o:Oper}(b:ops[i]?=some o)(a:j∈cl.getD i []):∃e∈o.after,Region.binds .any e=true/\(j=e.on\/j∈cl.getD e.on []):=by have f:=(qQ.1 b).1;rw[W.at' i f]at a;simp only[waits,b]at a;obtain⟨e,d,c,h⟩:=zOH a;exact⟨e,by simpa using d,c,h.imp id zUv⟩
def XL (listed:Array Bool)(k:Nat):Bool:=listed.getD k false
def zIa (W:Waits md ops cl){listed:Array Bool}(d:zlw cl (XL listed)){i:Nat}(f:i∈Region.ready md ops listed):∀j∈cl.getD i [],XL listed j=true:=by obtain⟨_,o,k,a⟩:=mem_ready.1 f;intro j g;obtain⟨e,c,b,h|h⟩:=W.inv k g;{subst h;exact a e c (W.sub e b)};{exact d _ (a e c<|W.sub e b) j h}
def least {p:Nat->Prop}:∀n,p n->∃m,m<=n/\p m/\∀j,j<m->¬ p j:=by intro n;induction n using Nat.strongRecOn with|_ n i=>intro g;by_cases h:∃j,j<n/\p j;{obtain⟨j,d,e⟩:=h;obtain⟨m,k,b,c⟩:=i j d e;exact⟨m,by omega,b,c⟩};{exact⟨n,qZ _,g,λj f a=>h ⟨j,f,a⟩⟩}
def zNR (W:Waits md ops cl){listed:Array Bool}(s:listed.size=ops.size){b:Nat}(c:b<ops.size)(d:listed.getD b true=false):∃i,i∈Region.ready md ops listed:=by obtain⟨j,g⟩:=W.rk;obtain⟨n,_,⟨i,k,r,u⟩,a⟩:=least (p:=λn=>∃i,i<ops.size/\listed.getD i true=false/\j i=n) (j b) ⟨b,c,d,rfl⟩;refine⟨i,mem_ready.2 ⟨r,ops[i],by simp[k],λe q m=>?_⟩⟩;obtain⟨l,t⟩:=g i ops[i] (by simp[k]) e q m;cases h:listed.getD e.on false with|true=>rfl|false=>exfalso;refine a (j e.on) (by omega) ⟨e.on,l,?_,rfl⟩;have f:e.on<listed.size:=(by omega);simp only[Array.getD,f,dif_pos]at h ⊢;exact h
def zul {listed:Array Bool}{i:Nat}(a:i<listed.size):XL listed i=listed.getD i true:=by simp[XL,a]
def zLG {listed:Array Bool}{i:Nat}(a:i<listed.size)(k:Nat):XL (listed.setIfInBounds i true) k=(XL listed k||k==i):=by unfold XL;by_cases h:i=k;{subst h;simp[a]};{rw [getD_set_ne false h];have:(k==i)=false:=(by simp;omega);rw[this,u0]}
def z3M {P:Program}{Q d:Exit->Act->World->Prop}(f:∀e,e≠.normal->∀a w,d e a w->Q e a w){i:Nat}{K:Act->World->Prop}{a:Act}{w:World}(h:wpOp P ops d i K a w):wpOp P ops Q i K a w:=by
 have b:LetsOut d->LetsOut Q:=(by rintro⟨a,w,h⟩;exact⟨a,w,f _ (by simp) a w h⟩);unfold wpOp at h ⊢;split;{rename_i m;rw[m]at h;exact h}
 .rename_i o ho;simp only[ho]at h;split
  .rename_i j;rw[if_pos j]at h;rcases h with h|⟨k,l⟩
   .left
    unfold Oper.wp at *;generalize (execOp a.eval o).run P w=r at *;cases r with
    |ok n p =>
     cases n<;>simp only [Oper.upon]at h ⊢ <;>
      first
       |exact h
       |exact h.mono (λe q g=>by
        cases e with
        |returned v=>exact g
        |panicked c=>exact f _ (by simp) _ _ g
        |outgrown=>exact b g)
    |halt x p =>cases x<;>simp only [Oper.upon]at h ⊢ <;> first|exact f _ (by simp) _ _ h|exact h
   {exact .inr ⟨k,b l⟩}
  {rename_i j;rw[if_neg j]at h;exact h}
def ztO (W:Waits md ops cl){listed:Array Bool}{m:Nat}(e:listed.size=ops.size)(c:∀i,i<ops.size->listed.getD i true=decide (i<m)):zlw cl (XL listed):=by intro k b j d;have a:k<ops.size:=(by rcases u2 k listed.size with h|h;{omega};{simp [XL,uW h]at b});rw[zul (by omega),c k a]at b;simp at b;have:=W.lt k a j d;rw[zul (by omega),c j (by omega)];simp;omega
def z8q {P:Program}{Q:Exit->Act->World->Prop}{c:Nat}{b:Array Bool}{a:Act}{w:World}(g:∀i,i<ops.size->b.getD i true=true)(h:Q .normal a w):wpAny P md ops Q c b a w:=by have f:Region.ready md ops b=[]:=(by refine List.eq_nil_iff_forall_not_mem.2 (λi d=>?_);obtain⟨e,o,j,_⟩:=mem_ready.1 d;have d:=(qQ.1 j).1;rw[g i d]at e;cases e);cases c with|zero=>exact⟨f,h⟩|succ c=>exact⟨λ_=>h,λi d=>by rw[f]at d;cases d⟩
def z0V (W:Waits md ops cl){P:Program}{Q:Exit->Act->World->Prop}{b m:Nat}{listed:Array Bool}{a:Act}{w:World}(c:listed.size=ops.size)(r:m<ops.size)(A:Pinned ops.size cl m)(p:∀i,i<ops.size->listed.getD i true=decide (i<m))(B:left ops.size listed<=b)(h:∀q l,l.size=ops.size->(∀i,i<ops.size->l.getD i true=decide (i<m+1))->left ops.size l<=q->b=q+1->l=listed.setIfInBounds m true->wpOp P ops Q m (wpAny P md ops Q q l) a w):wpAny P md ops Q b listed a w:=by have t:listed.getD m true=false:=(by rw[p m r];simp);obtain⟨C,j⟩:=zNR W c r t;have y:=zKb (listed:=listed) (n:=ops.size) (i:=m) r t;obtain⟨b,rfl⟩:∃f,b=f+1:=⟨b-1,by omega⟩;refine⟨λh=>(by rw[h]at j;cases j),λi v=>?_⟩;obtain⟨u,o,z,_⟩:=mem_ready.1 v;have d:=(qQ.1 z).1;rw[p i d]at u;simp only[decide_eq_false_iff_not,Nat.not_lt]at u;have e:i=m:=(by by_cases s:i=m;{exact s};{exfalso;have:=zIa W (ztO W c p) v m (A.wait i (by omega) d);rw[zul (by omega),t] at this;cases this});subst e;refine h b _ (by simp[c]) (λk x=>?_) (by omega) rfl rfl;by_cases g:i=k;{subst g;simp[c,d]};{rw [getD_set_ne true g,p k x];congr 1;simp only[eq_iff_iff];omega}
def zVa {a T:Nat}(W:Waits md ops cl)(M:T<=ops.size)(s:T<ops.size->Pinned ops.size cl T){P:Program}{Q:Exit->Act->World->Prop}{J:(Nat->Bool)->Env->LV->World->Prop}(d:∀X Y E ts w,(∀k,a<=k->k<T->X k=Y k)->J X E ts w->J Y E ts w)(l:∀X Y i,zlw cl X->a<=i->i<T->X i=false->(∀j∈cl.getD i [],X j=true)->(∀k,Y k=(X k||k==i))->∀E ts w,J X E ts w->∀K:Act->World->Prop,(∀A c y,J Y A c y->K {tmps:=c,defers:=[]} y)->wpOp P ops Q i K {tmps:=ts,defers:=[]} w)(p:∀(Z:Nat) (I:Array Bool) (A:Env) (c:LV) (y:World),I.size=ops.size->(∀i,i<ops.size->I.getD i true=decide (i<T))->left ops.size I<=Z->J (λ_=>true) A c y->wpAny P md ops Q Z I {tmps:=c,defers:=[]} y) :
 ∀(b:Nat) (listed:Array Bool) (E:Env) (ts:LV) (w:World),listed.size=ops.size->zlw cl (XL listed)->(∀i,i<a->XL listed i=true)->(∀m,T<=m->m<ops.size->XL listed m=false)->left ops.size listed<=b->
  J (XL listed) E ts w->wpAny P md ops Q b listed {tmps:=ts,defers:=[]} w
 |b,listed,E,ts,w,x,N,q,g,hf,hS=>by by_cases e:∀i,i<T->XL listed i=true;{have hl:∀i,i<ops.size->listed.getD i true=decide (i<T):=(by intro i z;rw[<- zul (by omega)];by_cases h:i<T;{rw [e i h];simp[h]};{rw [g i (by omega) z];simp[h]});exact p b listed E ts w x hl hf (d _ _ E ts w (λk _ v=>e k v) hS)};{have O:∃i,i<T/\XL listed i=false:=(by refine Classical.byContradiction (λV=>e λi z=>?_);cases h:XL listed i with|true=>rfl|false=>exact absurd ⟨i,z,h⟩ V);obtain⟨H,R,r⟩:=O;have F:listed.getD H true=false:=(by rw[<- zul (by omega)];exact r);obtain⟨i1,D⟩:=zNR W x (by omega) F;have a0:0<left ops.size listed:=(by have:=zKb (listed:=listed) (n:=ops.size) (i:=H) (by omega) F;omega);obtain⟨b,rfl⟩:∃f,b=f+1:=⟨b-1,by omega⟩;refine⟨λh=>(by rw[h]at D;cases D),λi z=>?_⟩;obtain⟨h0,o,ho,_⟩:=mem_ready.1 z;have B:=(qQ.1 ho).1;have u:XL listed i=false:=(by rw[zul (by omega)];exact h0);have G:=zIa W N z;have S:a<=i:=(by refine Classical.byContradiction (λV=>?_);rw[q i (by omega)]at u;cases u);have t:i<T:=(by refine Classical.byContradiction (λV=>?_);have hp:=s (by omega);by_cases t:i=T;{subst t;have:=G H (hp.full H R);rw[r] at this;cases this};{have:=G T (hp.wait i (by omega) B);rw[g T (qZ _) (by omega)] at this;cases this});refine l _ (XL<|listed.setIfInBounds i true) i N S t u G (zLG (by omega)) E ts w hS _ (λA c y L=>?_);refine zVa W M s d l p b (listed.setIfInBounds i true) A c y (by simp[x]) ?_ ?_ ?_ ?_ L;{intro k v j hj;rw[zLG (by omega)]at v ⊢;by_cases C:k=i;{subst C;rw[G j hj];rfl};{have:(k==i)=false:=(by simp[C]);rw[this,u0]at v;rw[N k v j hj];rfl}};{intro k v;rw[zLG (by omega),q k v];rfl};{intro m hm U;rw[zLG (by omega),g m hm U];simp;omega};{have:=zKb (listed:=listed) (n:=ops.size) B h0;omega}}
def z7U (A:CfgOk C)(D:CtrOk C)(B:GraftOk C){a T:Nat}(W:Waits md ops cl)(I:a+ss.length=T)(q:T<=ops.size)(g:T<ops.size->Pinned ops.size cl T)(F:Free C ops cl b base a ss st0)(N:b=false->∀k,a<=k->k<T->zmi C ops k=false)(O:b=true->Dead st0/\0<st0.ep)(H:∀k,a<=k->k<T->∀n,Mine (base+32*k) n->¬ U n){Q:Exit->Act->World->Prop}(e:∀(t:Nat) (p:Array Bool) (y:Env) (j:LV) (x:World),p.size=ops.size->(∀i,i<ops.size->p.getD i true=decide (i<T))->left ops.size p<=t->
 Sim w0 S0 (UX U base a T λ_=>true) (zbH ops b (λ_=>true) a ss st0) y j sv x->wpAny C.P md ops Q t p {tmps:=j,defers:=[]} x) :
 ∀(d:Nat) (c:Array Bool) (E:Env) (ts:LV) (w:World),c.size=ops.size->zlw cl (XL c)->(∀i,i<a->XL c i=true)->(∀m,T<=m->m<ops.size->XL c m=false)->left ops.size c<=d->
  Sim w0 S0 (UX U base a T<|XL c) (zbH ops b (XL c) a ss st0) E ts sv w->wpAny C.P md ops Q d c {tmps:=ts,defers:=[]} w :=
 zVa (J:=λX E ts w=>Sim w0 S0 (UX U base a T X) (zbH ops b X a ss st0) E ts sv w) W q g
  (λX Y E ts w h l=>by
   rw[zsf ss a st0 λk f v=>h k f (by omega)]at l
   refine l.uses ?_
   rintro n (f|⟨k,u,f,v,z⟩)
   .exact .inl f
   .exact .inr ⟨k,u,f,by rw[<- h k u f];exact v,z⟩)
  (λX Y i L s R r S M E ts w l K G=>zSs A D B I F L s R r S N O H M l G) e
def get_put {st:St}{d:Nat}{m:MV}{a:Key}(h:a≠.tm d):(st.put (some d) m).get a=st.get a:=by cases a with|tm t=>have:d≠t:=λe=>h (by rw[e]);simp[St.get,St.put,q9,this]|ro n=>rfl|lo n=>rfl
def z6N {st b:St}{o:Oper}(c:b.ep=st.ep)(g:∀t∈zpZ o,b.get (.tm t)=st.get (.tm t))(f:∀n∈(zuw st o).flatMap zbw,b.get (.ro n)=st.get (.ro n))(d:∀n∈(zuw st o).flatMap zbC,b.get (.lo n)=st.get (.lo n)):Agree st b o.op.operands.toList:=by refine⟨c,λx h=>?_,λx h m k a j=>?_⟩;{cases x with|tmp t=>have l:t∈zpZ o:=(by unfold zpZ;exact uO.2 ⟨_,h,rfl⟩);simp only[St.opnd,zL7<|g t l]|_=>rfl};{have i:a∈zuw st o:=(by unfold zuw;exact qN.2 ⟨m,uO.2 ⟨x,h,k⟩,j⟩);exact⟨λn e=>zEa (f n<|qN.2 ⟨a,i,e⟩),λn e=>zL6 (d n<|qN.2 ⟨a,i,e⟩)⟩}
def zYR {st k:St}{o:Oper}(h:Agree st k o.op.operands.toList):zr9 C k o=zr9 C st o:=by cases f:o.op with|call c=>rw[f]at h;have l:∀x∈c.args.toList,x∈(Op.call c).operands.toList:=λx j=>(by simp only[Op.operands,Call.operands,Array.toList_append,jJ];exact .inr j);simp only[zr9,f];(cases w:o.dst with|none=>rfl|some d=>(cases hg:o.guard with|some g=>rfl|none=>simp only;(cases q:c.callee with|builtin b=>(cases b with|append=>simp only;split;{rename_i x y T u i s;have j:=l x (by rw[i];simp);have m:=l y (by rw[i];simp);rw[h.at j,h.at m];split;{cases v:C.sty T with|none=>rfl|some t=>(cases e:st.at x with|none=>rfl|some a=>(cases a with|sl r p=>(cases p with|nil=>rfl|cons z p=>(cases n:st.at y with|none=>rfl|some b=>(cases b with|sl B A=>simp only[h.root<|zep j e,h.node<|zep j e,h.node<|zep m n]|_=>rfl)))|_=>rfl))};{rfl}};{rfl}|_=>rfl)|_=>rfl)))|_=>simp only[zr9,f]
def zNQ (g:CfgOk C)(e:Sim w0 S0 U st E ts sv w){o:Oper}{id:Nat}{d:Dl}(b:ztn o=true)(h:delta C st o id=some d)(i:d.c=true):o.guard=none/\zuk C U st E ts w o d:=by
 unfold ztn at b;simp only[qE,kL]at b;obtain⟨hg,b⟩:=b;refine⟨hg,?_⟩;cases a:o.op
 case move x=>
  rw[a]at b;cases x with
  |tmp t=>simp only[delta,a]at h;split at h;{rename_i v j;cases h;exact z5R e (.inl a) j};{cases h}
  |_=>simp at b
 (case load T x=>exact z5Q g e a h);(case fieldAddr T x f=>exact zH8 g e a h);(case indexAddr T x y=>exact zH9 g e a h i);(case nilCheck x=>exact zNK e a h);all_goals (rw [a]at b;simp at b)
def pure_run {o:Oper}{i:Nat}{d:Dl}{v:Value}{Q:Exit->Act->World->Prop}{K:Act->World->Prop}(a:ops[i]?=some o)(hg:o.guard=none)(b:(execOp ({tmps:=ts,defers:=[]}:Act).eval o).run C.P w = .ok (.value v) w1)(h:K {tmps:=(({tmps:=ts,defers:=[]}:Act).put o.dst v).tmps,defers:=[]} w1):wpOp C.P ops Q i K {tmps:=ts,defers:=[]} w:=by unfold wpOp;simp only[a];rw[if_pos (by simp[Region.wanted,hg])];left;unfold Oper.wp;rw[b,Oper.upon_value,zjY];exact h
def zXz {d t:Nat}{v u:Value}(h:ts[t]?=some u)(a:d≠t):(({tmps:=ts,defers:=[]}:Act).put (some d) v).tmps[t]?=some u:=by simp[Act.put,Array.getElem?_setIfInBounds_ne a,h]
def z8d (hC:CfgOk C)(hH:CtrOk C)(hG:GraftOk C){a A:Nat}(W:Waits md ops cl)(hA:a+ss.length=A)(c4:A+1<=ops.size)(c1:A+1<ops.size->Pinned ops.size cl (A+1))(F:Free C ops cl b base a ss st0)(hb:b=false->∀k,a<=k->k<A->zmi C ops k=false)(c6:b=true)(hd:b=true->Dead st0/\0<st0.ep)(hM:∀k,a<=k->k<A->∀n,Mine (base+32*k) n->¬ U n){D:Oper}{x:App}(d5:ops[A]?=some D)(y:zr9 C (zbH ops b (fun _=>true) a ss st0) D=some (true,x))(d1:zEA ops cl a A=true)(a5:x.dst<(zbH ops b (fun _=>true) a ss st0).tm.length)(N:∀i s o f,ss[i]?=some s->ops[a+i]?=some o->At1 C ops base (a+i) o (zbH ops b (fun j=>decide (j<a+i)) a ss st0) f s->a+i∉cl.getD A []->f.apart (zgo (zbH ops b (fun _=>true) a ss st0) ops D zFH)=true){Q:Exit->Act->World->Prop}(b0:∀(fl:Nat) (l':Array Bool) (E':Env) (B:LV) (w':World) (v:Value),l'.size=ops.size->(∀i,i<ops.size->l'.getD i true=decide (i<A+1))->left ops.size l'<=fl->B[x.dst]?=some v->
 Sim w0 S0 (UX U base a A (fun _=>true)) ((zbH ops b (fun _=>true) a ss st0).put D.dst (.v (.at .bad))) E' B sv w'->Late w0 ((zbH ops b (fun _=>true) a ss st0).put D.dst (.v (.at .bad))) E' x v w'->wpAny C.P md ops Q fl l' {tmps:=B,defers:=[]} w')(I:Nat)(g:Array Bool)(E:Env)(ts:LV)(w:World)(d6:g.size=ops.size)(hX:zlw cl (XL g))(b3:∀i,i<a->XL g i=true)(a6:∀m,A<=m->m<ops.size->XL g m=false)(hf:left ops.size g<=I)(hS:Sim w0 S0 (UX U base a A (XL g)) (zbH ops b (XL g) a ss st0) E ts sv w):wpAny C.P md ops Q I g {tmps:=ts,defers:=[]} w:=by
 have l:D.dst=some x.dst/\D.guard=none:=by unfold zr9 at y;split at y;{rename_i c d ho l c9;refine⟨?_,c9⟩;rw[l];congr 1;(repeat' (first|(split at y)|(cases y)));all_goals first|rfl|(simp only [qC,jS]at y;obtain⟨_,rfl⟩:=y;rfl)};{cases y}
 have S:∀{X Y:Nat->Bool} {i:Nat},(∀k,Y k=(X k||k==i))->∀n,UX U base a A X n->UX U base a A Y n:=by intro X Y i V n h;rcases h with h|⟨k,h0,p,r,h3⟩;{exact .inl h};{exact .inr ⟨k,h0,p,by rw[V,r];rfl,h3⟩}
 have a8:∀{X:Nat->Bool} (q:Key),(∀j∈cl.getD A [],X j=true)->(zgo (zbH ops b (fun _=>true) a ss st0) ops D zFH).reads q->(zbH ops b X a ss st0).get q=(zbH ops b (fun _=>true) a ss st0).get q:=by intro X q hr H;refine zse ss a st0 st0 rfl rfl (fun k s' o' hk b9 a9 hw=>?_);obtain⟨o2,f',c0,r⟩:=F.at1 k s' hk;rw[b9]at c0;cases c0;have b1:X (a+k)=false:=(by cases h:X (a+k) with|false=>rfl|true=>exact absurd h a9);have hn:a+k∉cl.getD A []:=fun h=>(by rw[hr _ h]at b1;cases b1);exact((apart_spec (N k s' o' f' hk b9 r hn)).1 q ((zDO r q).1 hw)).1 H
 refine zVa (T:=A+1) (J:=fun X E ts w=>(X A=false->Sim w0 S0 (UX U base a A X) (zbH ops b X a ss st0) E ts sv w)/\
  (X A=true->∃v,ts[x.dst]?=some v/\Sim w0 S0 (UX U base a A X) ((zbH ops b X a ss st0).put D.dst (.v (.at .bad))) E ts sv w/\Late w0 (zbH ops b X a ss st0) E x v w)) W c4 c1 ?_ ?_ ?_
  I g E ts w d6 hX b3 (fun m p r=>a6 m (by omega) r) hf ⟨fun _=>hS,fun h=>(by rw[a6 A (qZ _) (by omega)]at h;cases h)⟩
 .intro X Y E ts w h hJ;have u:X A=Y A:=h A (by omega) (by omega)
  have e:=zsf (ops:=ops) (b:=b) ss a st0 (X:=X) (Y:=Y) (fun k p r=>h k p (by omega))
  have hu:∀n,UX U base a A X n->UX U base a A Y n:=by rintro n (p|⟨k,h0,p,r,h3⟩);{exact .inl p};{exact .inr ⟨k,h0,p,by rw[<- h k h0 (by omega)];exact r,h3⟩}
  refine⟨fun G=>?_,fun G=>?_⟩
  .have:=hJ.1 (u.trans G);rw[e] at this;exact this.uses hu
  .obtain⟨v,p,r,h3⟩:=hJ.2 (u.trans G);rw[e]at r h3;exact⟨v,p,r.uses hu,h3⟩
 .intro X Y i hX hia hi hXi hr V E ts w hJ K hK
  by_cases d0:i=A
  .subst d0;have L:=hJ.1 hXi;have b2:zbH ops b Y a ss st0=zbH ops b X a ss st0:=zsf ss a st0 (fun k p r=>by
    rw[V];have:(k==i)=false:=by simp;omega
    rw[this,u0])
   have c5:Agree (zbH ops b (fun _=>true) a ss st0) (zbH ops b X a ss st0) D.op.operands.toList :=
    z6N (by rw[ziy,ziy]) (fun t ht=>a8 (.tm t) hr (by simp only[Foot.reads,zgo];exact j5 _ ht)) (fun n hn=>a8 (.ro n) hr hn) (fun n hn=>a8 (.lo n) hr hn)
   have a2:=zYR (C:=C) c5;rw[y]at a2;have c8:Dead (zbH ops b X a ss st0):=by subst c6;exact zAG ss a st0 (hd rfl).1 (hd rfl).2
   obtain⟨hg,c7,v,w',R,a7,hL⟩:=z8i hC L c8 a2;refine pure_run (d:=zFH) d5 hg R (hK E _ w' ⟨fun h=>(by rw[V]at h;simp at h),fun _=>⟨v,?_,?_,?_⟩⟩)
   .rw [c7];have d4:x.dst<ts.size:=by rw[L.tm.1,zpd];rw[zpd]at a5;exact a5
    simp[Act.put,d4]
   .rw [b2];exact a7.uses (S V)
   .rw [b2];exact hL
  .have hiA':i<A:=by omega
   have G:Y A=X A:=by rw[V];have:(A==i)=false:=(by simp;omega);rw[this,u0]
   cases u:X A with
   |false=>refine zSs hC hH hG hA F hX hia hiA' hXi hr hb hd hM V (hJ.1 u) (fun E' B w' a7=>hK E' B w' ⟨fun _=>a7,fun h=>(by rw[G,u]at h;cases h)⟩)
   |true=>
    obtain⟨v,hv,L,hL⟩:=hJ.2 u;obtain⟨j,rfl⟩:∃j,i=a+j:=⟨i-a,by omega⟩;obtain⟨s,hs⟩:∃s,ss[j]?=some s:=⟨_,qB (by omega)⟩;obtain⟨o,f,ho,p,r⟩:=zL5 F hX hs hXi hr;have b8:a+j∉cl.getD A []:=fun h=>(by rw[hX A u _ h]at hXi;cases hXi);have O:ztn o=true:=(by have:=qM.1 d1 (a+j) (by simp;omega);simp only[ho,kB,jM,q0] at this;rcases this with h|h;{exact absurd h b8};{exact h});have a3:=apart_spec (N j s o f hs ho p b8);have c2:(zgo (zbH ops b (fun _=>true) a ss st0) ops D zFH).writes (.tm x.dst):=(by simp only[Foot.writes,zgo];exact l.1);have a9:∀q,f.reads q->q≠.tm x.dst:=fun q H e=>a3.2 (.tm x.dst) c2 (e ▸ H);have a4:o.dst≠some x.dst:=fun e=>(a3.1 (.tm x.dst) ((zDO p (.tm x.dst)).1 (by cases s<;>exact e))).2 c2;have a0:∀Z,(zbH ops b Z a ss st0).ep=st0.ep:=fun Z=>ziy ss a st0;have M:=zVc (S':=(zbH ops b X a ss st0).put D.dst (.v (.at .bad))) p (by rw[a0,l.1];exact a0 X) (fun q H=>by rw[l.1,get_put (a9 q H)];exact r q H);have b4:o.guard=none:=by unfold ztn at O;simp only[qE,kL]at O;exact O.1
    cases s with
    |none=>exfalso;have:zdK ops o ((zbH ops b X a ss st0).put D.dst (.v (.at .bad)))=some false:=M;simp[zdK,b4] at this
    |some d=>
     obtain⟨_,d2,d3⟩:=M;obtain⟨_,v2,R,d7,b5,e1,e2,e3⟩:=zNQ hC L O (zYY O d2) d3;have z:∀q,(zbH ops b Y a ss st0).get q=((zbH ops b X a ss st0).put o.dst d.v).get q:=(by intro q;rw[zVR F hX hs ho hXi V q];simp only[St.step,St.effD,e1,e2,List.map_nil,jR]);have c3:Sim w0 S0 (UX U base a A X) (((zbH ops b X a ss st0).put D.dst (.v (.at .bad))).put o.dst d.v) E (({tmps:=ts,defers:=[]}:Act).put o.dst v2).tmps sv w:=L.putV d7 b5;refine pure_run (d:=d) ho b4 R (hK E _ w ⟨fun h=>(by rw[G,u]at h;cases h),fun _=>⟨v,?_,?_,?_⟩⟩);{cases a1:o.dst with|none=>exact hv|some t=>exact zXz hv (fun e=>a4 (by rw[a1,e]))}
     .refine(c3.same (fun q=>?_) ?_ ?_).uses (S V)
      .rw [l.1];cases q with
       |tm t=>
        have hk:=z (.tm t);have b6:(zbH ops b Y a ss st0).tm.length=(zbH ops b X a ss st0).tm.length:=(by rw[zpd,zpd]);by_cases ht:t=x.dst;{subst ht;cases a1:o.dst with|none=>simp[St.get,St.put,q9,b6]|some t' =>have:t'≠x.dst:=fun e=>a4 (by rw[a1,e]);simp[St.get,St.put,q9,b6,this]}
        .have hne':x.dst≠t:=fun e=>ht e.symm;rw[get_put (by simpa using ht),hk]
         cases a1:o.dst with
         |none=>simp[St.get,St.put,q9,hne']
         |some t' =>simp only[St.get,St.put,q9,List.length_set];split;{rfl};{first|rfl|rw[if_neg hne']}
       |ro n=>have hk:=z (.ro n);rw[get_put (by simp),hk];cases o.dst<;>rfl
       |lo n=>have hk:=z (.lo n);rw[get_put (by simp),hk];cases o.dst<;>rfl
      {rw [l.1];have p:(zbH ops b Y a ss st0).stk=(zbH ops b X a ss st0).stk:=(by rw[zs9,zs9]);cases o.dst<;>exact p};{rw [l.1];have p:(zbH ops b Y a ss st0).ep=(zbH ops b X a ss st0).ep:=(by rw[ziy,ziy]);cases o.dst<;>exact p}
     .have hro:∀n,zy (zbH ops b Y a ss st0).ro n=zy (zbH ops b X a ss st0).ro n:=fun n=>(by rw[zEa (z (.ro n))];cases o.dst<;>rfl);have b7:∀n,zy (zbH ops b Y a ss st0).lo n=zy (zbH ops b X a ss st0).lo n:=fun n=>by rw[zL6 (z (.lo n))];cases o.dst<;>rfl
      exact hL.states (fun n=>by
       unfold St.root;rw[hro n,a0 Y,a0 X]) b7
 .intro fl l' E' B w' hsz' hl' hf' hJ;obtain⟨v,p,r,h3⟩:=hJ.2 rfl;refine b0 fl l' E' B w' v hsz' hl' hf' p r (h3.states (fun n=>?_) (fun n=>?_))
  .rw [l.1];rfl
  .rw [l.1];rfl
def VV (U:Nat->Prop)(base a m n:Nat):Prop:=U n\/(base<=n/\n<base+32*m)\/base+32*a<=n
def zzh (N:CfgOk C)(W:Waits md ops cl){x:App}{kk:Nat->List Bool->St->Option Ans}{s:Ans}{Q:Exit->Act->World->Prop}(B:∀(H:Nat) (r':List Bool) (L:Nat->Prop) (j:St) (K:Env) (I:LV) (J:World) (u:Nat) (p:Array Bool),r'=(ziH ops.size cl).drop H->H<=ops.size->p.size=ops.size->(∀i,i<ops.size->p.getD i true=decide (i<H))->left ops.size p<=u->
 Sim w0 S0 L j K I sv J->(∀n,L n->VV U base ops.size H n)->(∀n,j.nid<=n->¬ L n)->base+32*ops.size<=j.nid->kk H r' j=some s->wpAny C.P md ops Q u p {tmps:=I,defers:=[]} J) :
 ∀(l:List Bool) (m:Nat) (V:Nat->Prop) (st:St) (E:Env) (ts:LV) (w:World) (b:Nat) (a:Array Bool) (v:Value),l=(ziH ops.size cl).drop m->m<=ops.size->a.size=ops.size->(∀i,i<ops.size->a.getD i true=decide (i<m))->left ops.size a<=b->
  Sim w0 S0 V st E ts sv w->(∀n,V n->VV U base ops.size m n)->(∀n,st.nid<=n->¬ V n)->base+32*ops.size<=st.nid->ts[x.dst]?=some v->Late w0 st E x v w->zrC C ops base x kk l m st=some s->wpAny C.P md ops Q b a {tmps:=ts,defers:=[]} w
 |[],m,V,st,E,ts,w,b,a,v,_,_,_,_,_,_,_,_,_,_,_,h=>by simp[zrC]at h
 |false::r,m,V,st,E,ts,w,b,a,v,_,_,_,_,_,_,_,_,_,_,_,h=>by simp[zrC]at h
 |true::r,m,V,st,E,ts,w,b,a,v,hp,hm,Y,hl,hf,O,hV,hF,hn,Z,hL,h=>by
  simp only[zrC]at h;obtain⟨T,F,hr⟩:=ztl hp;have y:∀n,V n->VV U base ops.size (m+1) n:=(by rintro n g;rcases hV n g with h|⟨M,h2⟩|h;{exact .inl h};{exact .inr (.inl ⟨M,by omega⟩)};{exact .inr (.inr h)});refine z0V W Y T (zye F.symm) hl hf (λu p k D z _ _=>?_);split at h;{cases h}
  .rename_i o ho;split at h
   .rename_i c st2 hst;cases q:c with
    |false=>rw[q]at h;cases h
    |true=>rw[q]at h hst;simp only[cond_true,zFn]at h;obtain⟨hg,S,a1⟩:=z2x (id:=base+32*m) N O hL Z hst;unfold wpOp;simp only[ho];rw[if_pos (by simp[Region.wanted,hg])];refine .inl (S _ _ λK v' J R=>?_);rw[zjY];refine B (m+1) r _ _ K _ J u p hr (by omega) k D z R ?_ ?_ (by rw[zgx];omega) h;{rintro n (h|⟨M,h2⟩);{exact y n h};{exact .inr (.inl ⟨by omega,by omega⟩)}};{rintro n g (h|⟨M,h2⟩);{exact hF n (by rw[zgx]at g;omega) h};{rw [zgx]at g;omega}}
   {split at h;{rename_i f;simp only[qE,jE,beq_eq_false_iff_ne]at f;split at h;{rename_i d hd;cases q:d.c with|false=>rw[q]at h;cases h|true=>rw[q]at h;simp only[cond_true]at h;obtain⟨hg,v2,G,a0,A,e1,e2,e3⟩:=zNQ N O f.1 hd q;have he:st.apply o.dst d=st.put o.dst d.v:=(by simp[St.apply,e1,e2,e3]);rw[he]at h;refine pure_run (d:=d) ho hg G ?_;refine zzh N W B r (m+1) V _ E _ w u p v hr (by omega) k D z (O.putV a0 A) y (by rw[zgx];exact hF) (by rw[zgx];exact hn) ?_ (hL.states (λn=>?_) λn=>?_) h;{cases X:o.dst with|none=>exact Z|some t=>exact zXz Z (λe=>f.2 (by rw[X,e]))};{cases o.dst<;>rfl};{cases o.dst<;>rfl}};{cases h}};{cases h}}
def zom (hC:CfgOk C)(hH:CtrOk C)(hG:GraftOk C)(hN:NameOk C){a1:zhM}(u:zu5 C a1)(W:Waits md ops cl){k:St->Option Ans}{b1:Ans}{Q:Exit->Act->World->Prop}(N:∀n,base<=n->¬ U n)(hk:∀(U':Nat->Prop) (d:St) (E':Env) (B:LV) (w':World),Sim w0 S0 U' d E' B sv w'->(∀n,U' n->VV U base ops.size ops.size n)->base+32*ops.size<=d.nid->(∀n,d.nid<=n->¬ U' n)->k d=some b1->Q .normal {tmps:=B,defers:=[]} w') :
 ∀(fs m:Nat) (Y:List Bool) (V:Nat->Prop) (st:St) (E:Env) (ts:LV) (w:World) (l:Nat) (c:Array Bool),Y=(ziH ops.size cl).drop m->m<=ops.size->c.size=ops.size->(∀i,i<ops.size->c.getD i true=decide (i<m))->left ops.size c<=l->
  Sim w0 S0 V st E ts sv w->(∀n,V n->VV U base ops.size m n)->(∀n,st.nid<=n->¬ V n)->base+32*ops.size<=st.nid->zlA C a1 ops cl base k fs m Y st=some b1->wpAny C.P md ops Q l c {tmps:=ts,defers:=[]} w
 | 0,m,Y,V,st,E,ts,w,l,c,_,_,_,_,_,_,_,_,_,h=>by simp[zlA]at h
 |fs+1,m,[],V,st,E,ts,w,l,c,hp,hm,G,hl,hf,hS,hV,hF,hn,h=>by simp only[zlA]at h;have a8:=zXv hp;have e:m=ops.size:=(by omega);subst e;exact z8q (λi hi=>by rw[hl i hi];simp[hi]) (hk V st E ts w hS hV hn hF h)
 |fs+1,m,true::r,V,st,E,ts,w,l,c,hp,hm,G,hl,hf,hS,hV,hF,hn,h=>by
  simp only[zlA]at h;obtain⟨a8,b8,hr⟩:=ztl hp;refine z0V W G a8 (zye b8.symm) hl hf (λfl l' A X S _ _=>?_)
  let Q':Exit->Act->World->Prop:=λe a w=>match e with
   |.normal=>wpAny C.P md ops Q fl l' a w
   |e=>Q e a w
  have hQ:∀e,e≠Exit.normal->∀a w,Q' e a w->Q e a w:=by intro e he a w h;cases e<;>first|exact absurd rfl he|exact h
  refine z3M hQ ?_;have c0:=zpE (Q:=Q') hC hH hG hN u (ops:=ops) (base:=base) (V:=VV U base ops.size (m+1)) (nid0:=base+32*ops.size) (λn p=>.inr (.inr p))
   (λU' d E' B w' M c7 p c6 h'=>zom hC hH hG hN u W N hk fs (m+1) r U' d E' B w' fl l' hr (by omega) A X S M c7 c6 p h')
   [m] V st E ts w hS ?_ hF ?_ (by simp) hn ?_ h
  {rw [wpOps_cons] at c0;exact wpOp_mono (λa w h=>h) c0};{rintro n p;rcases hV n p with h|⟨t,D⟩|h;{exact .inl h};{exact .inr (.inl ⟨t,by omega⟩)};{exact .inr (.inr h)}};{intro j hj n d2;simp only[qF]at hj;subst hj;obtain⟨Z,g2⟩:=d2;refine⟨λp=>?_,.inr<|.inl ⟨by omega,by omega⟩⟩;rcases hV n p with h|⟨t,D⟩|h;{exact N n (by omega) h};{omega};{omega}};{intro j hj;simp only[qF]at hj;subst hj;omega}
 |fs+1,m,false::r,V,st,E,ts,w,l,c,hp,hm,G,hl,hf,hS,hV,hF,hn,h=>by
  simp only[zlA]at h;obtain⟨a8,_,hr⟩:=ztl hp;obtain⟨b6,a2,a3⟩:=zSO r (m+1) (by omega) hr;generalize b5:(List.range' m<|zcy r+1).any (zmi C ops)=b at h;have H:Sim w0 S0 V {st with ep:=if b then st.ep+1 else st.ep} E ts sv w:=hS.blind b st.nid;have z:({st with ep:=if b then st.ep+1 else st.ep}:St).nid=st.nid:=rfl
  have a0:b=true->Dead ({st with ep:=if b then st.ep+1 else st.ep}:St)/\0<({st with ep:=if b then st.ep+1 else st.ep}:St).ep:=by
   intro hb;subst hb;refine⟨λn R e hR he=>?_,by simp⟩
   have:=hS.mem.epo n R e hR he;simp only[if_true];omega
  have b4:b=false->∀k,m<=k->k<m+1+zcy r->zmi C ops k=false:=(by intro hb k d9 e0;rw[hb]at b5;have:=kP.1 b5 k (by simp;omega);simpa using this);have hM:∀k,m<=k->k<m+1+zcy r->∀n,Mine (base+32*k) n->¬ V n:=by intro k t D n p hv;have Z:=p.1;have g2:=p.2;rcases hV n hv with h|⟨h3,h4⟩|h;{exact N n (by omega) h};{omega};{omega}
  have a5:∀(ss:List Step) (st0:St),zbH ops b (XL c) m ss st0=st0:=λss st0=>zwT ss m st0 (λk hk=>by
   rcases u2 k ops.size with h|h
   .rw [zul (by omega),hl k h];simp;omega
   .simp [XL,uW (show c.size<=k by omega)])
  have b3:∀{T:Nat},T<=m+(zcy r+1)->∀n,UX V base m T (λ_=>true) n->VV U base ops.size (m+(zcy r+1)) n:=(by rintro T hT n (h|⟨k,h0,t,_,h3⟩);{rcases hV n h with h|⟨t,D⟩|h;{exact .inl h};{exact .inr (.inl ⟨t,by omega⟩)};{exact .inr (.inr h)}};{have Z:=h3.1;have g2:=h3.2;exact .inr (.inl ⟨by omega,by omega⟩)});have b2:∀{T:Nat},T<=m+(zcy r+1)->∀n,st.nid<=n->¬ UX V base m T (λ_=>true) n:=(by rintro T hT n p (h|⟨k,h0,t,_,h3⟩);{exact hF n (by omega) h};{have:=h3.2;omega});have b7:∀{gs:List (Nat×Foot)} {ss:List Step} {st0 d:St},(∀x∈gs,∀y∈gs,(¬ x.1<y.1\/x.1∈cl.getD y.1 [])\/x.2.apart y.2=true)->Trace C ops b base m ss gs st0 d->Free C ops cl b base m ss st0:=(by intro gs ss st0 d g q;have O:=zYD q;refine⟨λi s hs=>?_,λi k s s' o o' f f' hs d4 ho d3 t D d8 a9=>?_⟩;{obtain⟨o,f,Z,g2,g3⟩:=O i s hs;exact⟨o,f,Z,g3⟩};{obtain⟨o1,f1,Z,g2,g3⟩:=O i s hs;obtain⟨o2,f2,e1,e2,e3⟩:=O k s' d4;rw[ho] at Z;cases Z;rw[d3] at e1;cases e1;have a6:=zIL t g3;have d1:=zIL D e3;subst a6 d1;rcases g _ g2 _ e2 with (h|h)|h;{exact absurd (by show m+i<m+k;omega) h};{exact absurd h a9};{exact h}});have J:∀i,i<m->XL c i=true:=λi hi=>(by rw[zul (by omega),hl i (by omega)];simp[hi]);have I:∀k,m<=k->k<ops.size->XL c k=false:=λk t D=>(by rw[zul (by omega),hl k D];simp;omega);rcases ztK (zcy r+1) m [] _ h with⟨ss,gs,d,a4,q,g,K⟩|⟨ss,gs,d,oA,x,a4,q,b0,c8,c9,a7,d5,g,K⟩|⟨ss,gs,d,oA,a4,q,b0,d0,a7,e4,g,K⟩;{rw [jC]at g;unfold zpa at g;simp only[jE,qM,kB,decide_eq_false_iff_not,jM,q0,List.mem_reverse]at g;generalize b9:({st with ep:=if b then st.ep+1 else st.ep}:St)=st0 at q H z a0;have L:d=zbH ops b (λ_=>true) m ss st0:=zS3 q;refine z7U (w0:=w0) (S0:=S0) (sv:=sv) hC hH hG W (T:=m+1+zcy r) (by omega) b6 a3 (b7 g q) b4 a0 hM (λfl l' E' B w' A X S M=>?_) l c E ts w G (ztO W G hl) J (λk t D=>I k (by omega) D) hf ?_;{rw [<- L]at M;have F:d.nid=st.nid:=(by rw[L,zD8,z]);exact zom hC hH hG hN u W N hk fs (m+(zcy r+1)) (r.drop<|zcy r) _ d E' B w' fl l' (by rw[a2];congr 1;omega) (by omega) A (λi hi=>by rw[X i hi];congr 1;simp only[eq_iff_iff];omega) S M (b3 (by omega)) (by rw[F];exact b2 (by omega)) (by omega) K};{rw [a5];exact H.uses (λn h=>.inl h)}}
  .rw [jC]at g;unfold zpa at g;simp only[jE,qM,kB,decide_eq_false_iff_not,jM,q0,qG,List.mem_reverse]at g;generalize b9:({st with ep:=if b then st.ep+1 else st.ep}:St)=st0 at q H z a0;have L:d=zbH ops b (λ_=>true) m ss st0:=zS3 q;subst L;have hA:m+ss.length=m+zcy r:=by omega
   rw[hA]at b0 a7 g;have O:=zYD q;refine z8d (w0:=w0) (S0:=S0) (sv:=sv) hC hH hG W hA (by omega) (λh=>by
    have e:m+zcy r+1=m+1+zcy r:=by omega
    rw[e]at h ⊢;exact a3 h) (b7 (λx hx y hy=>g x (.inr hx) y (.inr hy)) q) (λhb k t D=>b4 hb k t (by omega)) c9 a0 (λk t D=>hM k t (by omega)) b0 c8 a7 d5 (λi s o f hs ho t a9=>?_)
    (λfl l' E' B w' v A X S hv M hL=>?_) l c E ts w G (ztO W G hl) J (λk t D=>I k (by omega) D) hf ?_
   {obtain⟨o1,f1,Z,g2,g3⟩:=O i s hs;rw[ho] at Z;cases Z;have a6:=zIL t g3;subst a6;have hi:i<ss.length:=(qA.1 hs).1;rcases g _ (.inr g2) _ (.inl rfl) with (h|h)|h;{exact absurd (by show m+i<m+zcy r;omega) h};{exact absurd h a9};{exact h}}
   .have F:((zbH ops b (λ_=>true) m ss st0).put oA.dst (.v<|.at .bad)).nid=st.nid:=by rw[zgx,zD8,z]
    exact zzh hC W (λm' r' U' c1 c3 c2 d7 c4 d6 t D h3 h4 h5 h6 h7 h8 h9 c5=>zom hC hH hG hN u W N hk fs m' r' U' c1 c3 c2 d7 c4 d6 t D h3 h4 h5 h6 h7 h8 h9 c5)
     (r.drop<|zcy r) (m+(zcy r+1)) _ _ E' B w' fl l' v (by rw[a2];congr 1;omega) (by omega) A (λi hi=>by rw[X i hi];congr 1) S M (b3 (by omega)) (by rw[F];exact b2 (by omega)) (by omega) hv hL K
   {rw [a5];exact H.uses (λn h=>.inl h)}
  {exact Bool.noConfusion (show false=true from d0)}
def zbbG (Z:CfgOk C)(hH:CtrOk C)(hG:GraftOk C)(hN:NameOk C):DrawOk C:=by
 refine⟨λN g ops k X Q w0 S0 sv U0 S U st E ts w hk hS hU O hn h t=>?_⟩;unfold zI5 at h;simp only at h;generalize I:zjh ops (List.range ops.size) []=cl at h;split at h;(case isFalse=>cases h);rename_i j;unfold z4O at j;simp only[qE,qM,kJ,q0]at j;obtain⟨a,s⟩:=j;have d:∀i,i<ops.size->cl.getD i []=waits ops (cl.take i) i:=λi r=>(by rw[<- I];exact z1B r);have f:∀(md:Region.Mode) (c:Nat->Nat),zQX md ops c=true->∃c:Nat->Nat,∀(i:Nat) (o:Oper),ops[i]?=some o->∀e∈o.after,Region.binds md e=true->e.on<ops.size/\c e.on<c i:=by intro md c h;refine⟨c,λi o v e J H=>?_⟩;have:=qM.1 h i (kJ.2 (qQ.1 v).1);rw[v] at this;have:=qM.1 this e (by simpa using J);simpa [H] using this
 have p:∀(md:Region.Mode),(∀e,Region.binds .any e=true->Region.binds md e=true)->(∃c:Nat->Nat,∀(i:Nat) (o:Oper),ops[i]?=some o->∀e∈o.after,Region.binds md e=true->e.on<ops.size/\c e.on<c i)->Waits md ops cl :=
  λmd y A=>⟨d,s,y,A⟩
 have m:∀e,Region.binds .any e=true->Region.binds .text e=true:=λe h=>(by unfold Region.binds at *;cases hg:e.ground<;>rw [hg]at h<;>simp at h ⊢);have l:∀e,Region.binds .any e=true->Region.binds .gc e=true:=λe h=>by unfold Region.binds at *;cases hg:e.ground<;>rw [hg]at h<;>simp at h ⊢
 have b:∃md L,Region.schedule (C.P.follows .mixedOrders) ops t=Region.linearise md ops L/\Waits md ops cl:=by
  have q:Waits .any ops cl:=p .any (λ_ h=>h) ⟨λi=>i,λi o v e J H=>by
   have y:=zbbI d v J H;have r:=(qQ.1 v).1;have A:=s i r _ y;exact⟨by omega,A⟩⟩
  unfold Region.schedule;by_cases z:(C.P.follows .mixedOrders || !Region.departs ops)=true;{rw [if_pos z];exact⟨.any,t,rfl,q⟩};{rw [if_neg z];have hd:Region.departs ops=true:=(by cases h:Region.departs ops with|true=>rfl|false=>rw[h]at z;simp at z);rw[hd,cond_true,qE]at a;by_cases R:(t % 2==0)=true;{rw [if_pos R];exact⟨.text,t / 2,rfl,p .text m<|f .text _ a.1⟩};{rw [if_neg R];exact⟨.gc,t / 2,rfl,p .gc l<|f .gc _ a.2⟩}}
 obtain⟨md,L,x,W⟩:=b;rw[x];refine wpAny_sound ops.size L _ _ _ ?_;have F:Sim w0 S0 U {st with nid:=st.nid+32*ops.size} E ts sv {w with drawn:=w.drawn+1}:=(hS.nid _).heap (w':={w with drawn:=w.drawn+1}) rfl rfl rfl rfl;refine zom Z hH hG hN g W O (λV K T M w' D G u B Y=>hk V K T M w' D ?_ (by omega) B Y) (ops.size+1) 0 (ziH ops.size cl) U _ E ts _ ops.size _ rfl (by omega) (by simp) (λi r=>by simp[r]) ?_ F (λn h=>.inl h) ?_ (qZ _) h;{intro n h;rcases G n h with h|⟨y,_⟩|h;{exact hU n h};{exact .inr (by omega)};{exact .inr (by omega)}};{unfold left;exact qU (List.countP_le_length) (by simp)};{intro n u h;exact O n (qU (uD _ _) u) h}
end
section
variable {P:Program}
def zYL:Value->CTy->Bool
 |.int k n,.i a=>k==a&&n==0
 |.bool b,.b=>!b
 |.slice none 0 0,.s _=>true
 |_,_=>false
def zBx:List Value->List CTy->Bool
 |[],[]=>true
 |v::vs,t::ts=>zYL v t&&zBx vs ts
 |_,_=>false
def z6K {v:Value}{t:CTy}(h:zYL v t=true):v=zeroV t:=by unfold zYL at h;split at h;{simp only [qE,qL]at h;obtain⟨rfl,rfl⟩:=h;rfl};{simp only [jE]at h;subst h;rfl};{rfl};{cases h}
def zIF:∀{b:List Value} {a:List CTy},zBx b a=true->b=a.map zeroV
 |[],[],_=>rfl
 |v::b,t::a,h=>by simp only[zBx,qE]at h;rw[jB,z6K h.1,zIF h.2]
 |[],_::_,h=>by cases h
 |_::_,[],h=>by cases h
def zEs (P:Program)(T:TypeId)(a:List CTy):Bool :=
 match P.info? T with
 |some i=>i.size==a.length&&(match i.zero with
  |some z=>zBx z.cells.toList a
  |none=>false)
 |none=>false
def zEt {T:TypeId}{a:List CTy}(h:zEs P T a=true):∃i z,P.info? T=some i/\i.size=a.length/\i.zero=some z/\z.cells.toList=a.map zeroV:=by unfold zEs at h;split at h;{rename_i i d;simp only[qE,qL]at h;obtain⟨c,b⟩:=h;split at b;{rename_i z e;exact⟨i,z,d,c,e,zIF b⟩};{cases b}};{cases h}
def zpB (P:Program)(T:TypeId):Bool :=
 (match zcT P 4 T with
  |some (b,a)=>zEs P T a&&(!b||(match P.underlying T with
   |some (.struct c)=>(c.toList.mapM λf=>(P.info? f.type).map λi=>(f.offset,i.size)).isSome
   |_=>false))
  |none=>true) &&
 (match P.underlying T with
  |some (.slice e)=>match zy zUX e with
   |some t=>zEs P e t.shape&&(match P.info? e with
    |some i=>decide (i.bytes<=1024)
    |none=>false)&&(match zcT P 4 e with
    |some (_,a)=>decide (a=t.shape)
    |none=>false)
   |none=>true
  |_=>true)
def zwR (P:Program):List Field->Nat->List CTy->Bool
 |[],_,[]=>true
 |f::fs,a,ty::tys=>f.name != "_" && f.offset==a&&(match P.underlying f.type,ty with
  |some (.int k),.i c=>k==c
  |some .bool,.b=>true
  |_,_=>false)&&zwR P fs (a+1) tys
 |_,_,_=>false
def zUJ (P:Program)(T:TypeId):Bool :=
 match zcT P 4 T with
 |some (true,a)=>!P.stoodInHeld T && !P.eqGuardType P.depth T&&(match P.underlying T with
  |some (.struct b)=>zwR P b.toList 0 a
  |_=>false)
 |_=>true
def zUH {n:Nat}{T:TypeId}{a:Bool}{c:List CTy}(h:zcT P n T=some (a,c)) :
 (∃d,P.underlying T=some d/\zWd d=a/\(∀k,c=[.i k]->a=false->d = .int k)/\(c=[.b]->a=false->d = .bool))/\(a=false->c.length=1):=by
 cases n with
 |zero=>cases h
 |succ n=>simp only[zcT]at h;split at h;{rename_i k f;cases h;exact⟨⟨_,f,rfl,λg h _=>by simp only[List.cons.injEq,CTy.i.injEq,and_true]at h;rw[h],λh=>by simp at h⟩,λ_=>rfl⟩};{rename_i f;cases h;exact⟨⟨_,f,rfl,λg h=>by simp at h,λ_ _=>rfl⟩,λ_=>rfl⟩};{rename_i e f;split at h;{cases h;exact⟨⟨_,f,rfl,λg h=>by simp at h,λh=>by simp at h⟩,λ_=>rfl⟩};{cases h}};{rename_i j f;split at h;{cases h;exact⟨⟨_,f,rfl,λg _ h=>(by cases h),λ_ h=>(by cases h)⟩,λh=>by cases h⟩};{cases h}};{cases h}
def zLL {b:Type}{T:Nat}{x:Option b}{y:b}(h:below T x=some y):T<zhf/\x=some y:=by unfold below at h;cases a:Nat.blt T zhf with|false=>rw[a]at h;cases h|true=>rw[a]at h;exact⟨by rwa [vD]at a,h⟩
def mapM_at {e f:Type}{g:e->Option f}:∀{l:List e} {m:List f},l.mapM g=some m->∀{k:Nat} {x:e},l[k]?=some x->m[k]?=g x
 |[],m,h,k,x,c=>by simp at c
 |a::l,m,h,k,x,c=>by simp only[vA,Option.bind_eq_bind,uS,Option.pure_def,qC]at h;obtain⟨b,i,j,d,rfl⟩:=h;cases k with|zero=>simp only[qH,qC]at c;subst c;rw[i];rfl|succ k=>exact mapM_at d (by simpa using c)
def zh4 {e i:Type}{f:e->Option i}{a:e}{l:List e}{g:List i}(h:zcG f (a::l)=some g):∃b c,f a=some b/\zcG f l=some c/\g=b::c:=by simp only[zcG]at h;split at h;{rename_i b j;split at h;{rename_i c d;cases h;exact⟨b,c,j,d,rfl⟩};{cases h}};{cases h}
def zHR (w:World)(d:Nat)(v z:LV):∀(W:List Field) (g:Nat) (p:List CTy) (l m:List At) (e:Bool),zwR P W g p=true->zcG zpz l=some p->zcG zpz m=some p->zwG l m=some e->
 v.size=g+l.length->z.size=g+m.length->(∀(j:Nat) (a:At) (u:Value),l[j]?=some a->v[g+j]?=some u->VS a u)->(∀(j:Nat) (a:At) (u:Value),m[j]?=some a->z[g+j]?=some u->VS a u)->
 (Op.eqFields (d+1) v z W).run P w = .ok e w
 |[],g,p,l,m,e,R,X,Y,A,_,_,_,_=>by cases p with|cons t ts=>cases R|nil=>(cases l with|cons a l=>obtain⟨_,_,_,_,h⟩:=zh4 X;cases h|nil=>(cases m with|cons a m=>obtain⟨_,_,_,_,h⟩:=zh4 Y;cases h|nil=>cases A;simp[Op.eqFields]))
 |f::W,g,p,l,m,e,R,X,Y,A,q,r,hx,hy=>by
  cases p with
  |nil=>cases R
  |cons ty p=>
   cases l with
   |nil=>cases X
   |cons a l=>
    cases m with
    |nil=>cases Y
    |cons c m=>
     obtain⟨ta,a6,O,E,h⟩:=zh4 X;cases h;obtain⟨tc,a5,K,F,h⟩:=zh4 Y;cases h;simp only[zwR,qE,bne_iff_ne,ne_eq,qL]at R;obtain⟨⟨⟨hn,S⟩,B⟩,G⟩:=R;have I:v[g]?=some (v[g]'(by simp only[qV]at q;omega)):=(by simp);have J:z[g]?=some (z[g]'(by simp only[qV]at r;omega)):=by simp
     have T:=hx 0 a _ rfl I;have U:=hy 0 c _ rfl J;have H:∃L,zVd a c=some L/\(part f.type v f.offset).run P w = .ok (v[g]'(by simp only[qV]at q;omega)) w/\(part f.type z f.offset).run P w = .ok (z[g]'(by simp only[qV]at r;omega)) w/\
      (Op.equalIn (d+1) f.type (v[g]'(by simp only[qV]at q;omega))<|z[g]'(by simp only[qV]at r;omega)).run P w = .ok L w:=by
      rw[S];cases a with
      |i k n=>
       simp only[zpz,qC]at O;subst O;cases c with
       |i k' n' =>
        simp only[zpz,qC,CTy.i.injEq]at K;subst K;cases s:P.underlying f.type with
        |none=>rw[s]at B;cases B
        |some D=>
         rw[s]at B;cases D<;>first|(cases B;done)|skip;refine⟨ieq n n',by simp[zVd],by simp[part,isAgg,run_underlying s,I],by simp[part,isAgg,run_underlying s,J],?_⟩;rw[show v[g]'(by simp only[qV]at q;omega) = .int k' n from T,show z[g]'(by simp only[qV]at r;omega) = .int k' n' from U];exact run_equalIn_int w d f.type k' _ n n' s
       |b _=>simp[zpz]at K
       |_=>simp[zpz]at K
      |b x=>
       simp only[zpz,qC]at O;subst O;cases c with
       |b x' =>
        cases s:P.underlying f.type with
        |none=>rw[s]at B;cases B
        |some D=>
         rw[s]at B;cases D<;>first|(cases B;done)|skip;refine⟨zj0 x x',by simp[zVd],by simp[part,isAgg,run_underlying s,I],by simp[part,isAgg,run_underlying s,J],?_⟩;rw[show v[g]'(by simp only[qV]at q;omega) = .bool x from T,show z[g]'(by simp only[qV]at r;omega) = .bool x' from U];exact run_equalIn_bool' w d f.type x x' s
       |i _ _=>simp[zpz]at K
       |_=>simp[zpz]at K
      |_=>simp[zpz]at O
     obtain⟨L,Q,a3,a4,a1⟩:=H;have C:∃V,zwG l m=some V/\e=(L&&V):=by cases l with|nil=>cases E;(cases m with|nil=>simp only[zwG,Q,qC]at A;exact⟨true,rfl,by rw[<- A];simp⟩|cons c2 m=>obtain⟨_,_,_,_,h⟩:=zh4 F;cases h)|cons a2 l=>(cases m with|nil=>cases F;obtain⟨_,_,_,_,h⟩:=zh4 E;cases h|cons c2 m=>simp only[zwG,Q]at A;split at A;{rename_i x y M N;cases M;cases A;exact⟨y,by simpa [zwG] using N,rfl⟩};{cases A})
     obtain⟨V,a0,rfl⟩:=C;have ih:=zHR w d v z W (g+1) p l m V G E F a0 (by simp only[qV]at q;omega) (by simp only[qV]at r;omega)
      (λj Z u M N=>hx (j+1) Z u (by simpa using M) (by rw[<- N];congr 1;omega)) (λj Z u M N=>hy (j+1) Z u (by simpa using M) (by rw[<- N];congr 1;omega))
     simp only[Op.eqFields,ne_eq,hn,not_false_eq_true,if_true,Sem.run_bind,a3,a4,Result.andThen_ok,a1,Sem.run_ite,ih];cases L<;>simp
def z6Y {C:Cfg}(W:C.P=P)(hs:∀T,C.sty T=below T (zxN P T))(X:∀T,C.cty T=below T (zcT P 4 T))(Q:∀T f,C.fof T f=zvp P T f)(B:(List.range zhf).all (zpB P)=true)(J:∀T,C.eqt T=true->T<zhf->zUJ P T=true):CfgOk C:=by subst W;have v:∀T,T<zhf->zpB C.P T=true:=λT r=>qM.1 B T (kJ.2 r);have k:∀T g c,C.cty T=some (g,c)->T<zhf/\zcT C.P 4 T=some (g,c):=λT g c h=>zLL (by rw[<- X];exact h);refine⟨λT g c h=>?_,λT t h=>?_,λT f N n h=>?_,λT c h=>?_,λT c Y h l m e G H w x y op Z hm hq E F=>?_⟩;{obtain⟨r,h⟩:=k T g c h;obtain⟨q,d⟩:=zUH h;have:=v T r;unfold zpB at this;rw[h] at this;simp only[qE] at this;exact⟨q,zEt this.1.1,d⟩};{rw [hs]at h;obtain⟨r,h⟩:=zLL h;unfold zxN at h;split at h;{rename_i e p;have:=v T r;unfold zpB at this;rw[p] at this;simp only[h,qE] at this;obtain⟨_,⟨q,d⟩,_⟩:=this;obtain⟨i,z,O,S,U,V⟩:=zEt q;rw[O]at d;exact⟨e,p,i,z,O,by rw[S,zfr],U,V,by simpa using d⟩};{cases h}};{rw [Q]at h;unfold zvp at h;split at h;{rename_i A p;split at h;{rename_i x M;split at h;{rename_i i K;split at h;{cases h};{rename_i L;cases h;exact⟨A,x,i,p,M,rfl,K,rfl,L⟩}};{cases h}};{cases h}};{cases h}};{obtain⟨r,h⟩:=k T true c h;have:=v T r;unfold zpB at this;rw[h] at this;simp only[qE,kB,jT,kD,false_or] at this;obtain⟨⟨_,d⟩,_⟩:=this;split at d;{rename_i A p;obtain⟨s,R⟩:=uP.1 d;refine⟨A,s,p,R,λf N n b=>?_⟩;rw[Q]at b;unfold zvp at b;rw[p]at b;simp only at b;split at b;{rename_i x M;split at b;{rename_i i K;split at b;{cases b};{cases b;rw[mapM_at R (by simpa using M),K];rfl}};{cases b}};{cases b}};{cases d}};{obtain⟨r,h⟩:=k T true c h;have:=J T Y r;unfold zUJ at this;rw[h] at this;simp only[qE,jE] at this;obtain⟨⟨q,d⟩,I⟩:=this;split at I;{rename_i A p;have D:C.P.fieldsOf T=A:=(by simp[Program.fieldsOf,p]);refine⟨run_eqGuard_agg w op T x y G H d,?_⟩;show (Op.equalIn (9999+1) T (.agg G)<|.agg H).run C.P w=_;rw[run_equalIn_struct w 9999 T G H (by rw[D];exact p) q,D];exact zHR w 9998 G H A.toList 0 c l m e I Z hm hq (by rw[E.1];omega) (by rw[F.1];omega) (λj a u q d=>E.2 j a u q (by simpa using d)) (λj a u q d=>F.2 j a u q (by simpa using d))};{cases I}}
end
inductive CVOk:CV->Prop
 |i (k:IntKind) (n:Int) (h:k.min<=n/\n<=k.max):CVOk (.i k n)
 |b (x:Bool):CVOk (.b x)
 |s (t:Ty) (l:List t.den) (hl:l.length<=big) (h:∀(i:Nat) (x:t.den),l[i]?=some x->∀(j:Nat) (c:CV),(t.cells x)[j]?=some c->CVOk c):CVOk (.s t l)
section
variable {P:Program}
def zzq (P:Program)(b:Nat):List Field->Nat->Bool
 |[],a=>a==b
 |f::fs,a=>f.offset==a&&Nat.blt f.type zhf&&zzq P b fs (a+P.cellsOf f.type)
def zAu (P:Program)(T:TypeId):Bool :=
 match P.underlying T with
 |some (.struct a)=>match zcT P 4 T with
  |some _=>zzq P (P.cellsOf T) a.toList 0
  |none=>true
 |some (.slice e)=>match zy zUX e with
  |some _=>Nat.blt e zhf&&Nat.ble 1 (P.bytesOf e)
  |none=>true
 |_=>true
def zH6 {e i:Type}{f g:e->Option i}(c:∀x y,f x=some y->g x=some y):∀{l:List e} {d:List i},zcG f l=some d->zcG g l=some d
 |[],_,h=>h
 |a::l,d,h=>by obtain⟨b,j,k,m,rfl⟩:=zh4 h;simp only[zcG,c a b k,zH6 c m]
def zAb:∀{n:Nat} {T:TypeId} {x:Bool×List CTy},zcT P n T=some x->zcT P (n+1) T=some x
 | 0,_,_,h=>by cases h
 |n+1,T,x,h=>by rw[zcT]at h;rw[zcT];split at h;{exact h};{exact h};{exact h};{rename_i d e;split at h;{rename_i l b;rw[zH6 (f:=_) (g:=_) ?_ b];{exact h};{intro f y a;split at a;{rename_i z c;cases a;rw[zAb c]};{cases a}}};{cases h}};{cases h}
def zYT {T:TypeId}{a:List CTy}(h:zEs P T a=true):P.cellsOf T=a.length:=by obtain⟨i,z,b,c,_⟩:=zEt h;simp[Program.cellsOf,b,c]
def z9e {k:IntKind}{n:Int}(h:(Lit.int k n).wf=true):k.min<=n/\n<=k.max:=by simpa [Lit.wf] using h
def all_append {l m:List Nat}(h:(l++m).all (·<=reachBytes)=true):l.all (·<=reachBytes)=true/\m.all (·<=reachBytes)=true:=by simpa [List.all_append] using h
def zCI {H:Type}{e:TypeId}:∀{l:List (DataW H)},(DataW.weightsAll P e l).all (·<=reachBytes)=true->∀{i:Nat} {d:DataW H},l[i]?=some d->(d.weights P e).all (·<=reachBytes)=true
 |[],_,i,d,h=>by simp at h
 |x::l,a,i,d,h=>by simp only[DataW.weightsAll]at a;obtain⟨b,c⟩:=all_append a;cases i with|zero=>simp at h;subst h;exact b|succ i=>exact zCI c (by simpa using h)
def Opened (W:World)(d:List Value)(a:List CTy):Prop :=
 ∃cvs:LC,cvs.map CV.ty=a/\d.length=cvs.length/\∀(j:Nat) (c:CV) (u:Value),cvs[j]?=some c->d[j]?=some u->Rep false W u c (λb=>b<W.heap.size)/\CVOk c
def Opened.append {W:World}{f g:List Value}{h i:List CTy}(r:Opened W f h)(s:Opened W g i):Opened W (f++g) (h++i):=by obtain⟨e,k,d,p⟩:=r;obtain⟨n,l,m,q⟩:=s;refine⟨e++n,by simp[k,l],by simp[d,m],λj c u a b=>?_⟩;by_cases t:j<e.length;{rw [qW t]at a;rw[qW (by omega)]at b;exact p j c u a b};{rw [qR (by omega)]at a;rw[qR (by omega)]at b;exact q _ c u a (by rw[<- d];exact b)}
def zLQ {b:Type}:∀(n:Nat) (p:Nat->b->Prop),(∀i,i<n->∃x,p i x)->∃l:List b,l.length=n/\∀i x,l[i]?=some x->p i x
 | 0,p,_=>⟨[],rfl,λi x h=>by simp at h⟩
 |n+1,p,h=>by obtain⟨x,e⟩:=h 0 (by omega);obtain⟨l,c,d⟩:=zLQ n (λi=>p (i+1)) (λi f=>h (i+1) (by omega));refine⟨x::l,by simp[c],λi y a=>?_⟩;cases i with|zero=>simp at a;subst a;exact e|succ i=>exact d i y (by simpa using a)
def cells?_get {W:World}{a:Addr}{n:Nat}{b:List Value}(h:W.cells? 0 a n=some b):b.length=n/\∀i,i<n->W.cell? (a.add i)=b[i]?:=by unfold World.cells? at h;rw[if_pos<|jW _]at h;refine⟨by simpa using mapM_some_length h,λi c=>mapM_some_get h i i (by simp[c])⟩
def addr_add (a:Addr)(h:a.spot=none)(n m:Nat):(a.add n).add m=⟨a.block,a.off+n+m,none⟩:=by obtain⟨b,o,s⟩:=a;simp only at h;subst h;rw[add_lit,add_lit]
def z2N (b6:∀T,T<zhf->zpB P T=true/\zAu P T=true){H:Type}{a3:TypeId×Value->H}{W:World} :
 ∀(F:Nat) (T:TypeId) (Z:List Value) (x:DataW H×List MemPlace),T<zhf->∀(b4:Bool) (b3:List CTy),zcT P 4 T=some (b4,b3)->
  DataW.trod a3 P W 0 (λ_=>true) true F T Z=some x->(x.1.weights P T).all (·<=reachBytes)=true->Opened W Z b3:=by
 intro F
 induction F using Nat.strongRecOn with
 |_ F ih=>
  intro T Z x hT b4 b3 d hx hw;obtain⟨U,C⟩:=b6 T hT;have c1:=d;rw[zcT]at d;split at d;{rename_i k I;cases d;obtain⟨n,rfl,rfl,d9⟩:=DataW.trod_int I hx;refine⟨[.i k n],rfl,rfl,λj c u r q=>?_⟩;cases j with|zero=>simp at r q;subst r q;exact⟨.i k n _,.i k n<|z9e d9⟩|succ j=>simp at r};{rename_i I;cases d;obtain⟨b,rfl,rfl⟩:=DataW.trod_bool I hx;refine⟨[.b b],rfl,rfl,λj c u r q=>?_⟩;cases j with|zero=>simp at r q;subst r q;exact⟨.b b _,.b b⟩|succ j=>simp at r};{rename_i e I;split at d;{rename_i t b7;cases d;have a4:∀(v:Value) (l:List t.den),Rep false W v (.s t l) (λb=>b<W.heap.size)->CVOk (.s t l)->Opened W [v] [.s t]:=(by intro v l D S;refine⟨[.s t l],rfl,rfl,λj c u r q=>?_⟩;cases j with|zero=>simp at r q;subst r q;exact⟨D,S⟩|succ j=>simp at r);have K:CVOk (.s t []):=.s t [] (jW _) (λi x h=>by simp at h);rcases DataW.trod_slice I hx with⟨rfl,rfl⟩|⟨a,len,p,A,R,n,rfl,rfl,rfl,_,e8,e6,e7,a0,d5,_⟩;{exact a4 _ [] (.nil t _) K};{obtain⟨e9,Q⟩:=d5 rfl;by_cases b5:p=0;{subst b5;have d0:len=0:=(by omega);subst d0;exact a4 _ [] (.void t a _ rfl) K};{unfold zpB at U;rw[I]at U;simp only[b7,qE]at U;obtain⟨_,⟨a7,_⟩,V⟩:=U;unfold zAu at C;rw[I]at C;simp only[b7,qE,vD,Nat.ble_eq]at C;obtain⟨he,c6⟩:=C;have c7:P.cellsOf e=t.width:=(by rw[zYT a7,zfr]);have b2:0<t.width:=(by cases t<;>simp [Ty.width]);rw[c7]at a0 Q;have N:∀i,i<p->∃w,W.cells? 0 (a.add<|i*t.width) t.width=some w/\(i<len->∃y,DataW.trod a3 P W 0 (λ_=>true) true n e w=some y/\A[i]?=some y):=(by intro i X;by_cases b9:i<len;{have D:=a0 i b9;rw[qB (by omega)]at D;obtain⟨w,S,h3⟩:=uS.1 D;exact⟨w,S,λ_=>⟨_,h3,qB (by omega)⟩⟩};{have D:=Q (i-len) (by omega);rw[qB (by omega)]at D;obtain⟨w,S,h3⟩:=uS.1 D;have e1:len+(i-len)=i:=(by omega);rw[e1]at S;exact⟨w,S,λh=>absurd h b9⟩});have M:∀i j,i<p->j<t.width->∃v,W.cell? ((a.add<|i*t.width).add j)=some v:=(by intro i j X hj;obtain⟨w,D,_⟩:=N i X;obtain⟨S,h3⟩:=cells?_get D;exact⟨_,(h3 j hj).trans (qB (by omega))⟩);obtain⟨v0,G⟩:=M 0 0 (by omega) b2;have a5:(a.add<|0*t.width).add 0=a:=(by simp[Addr.add]);rw[a5]at G;obtain⟨m,et,fz,hb,E⟩:∃m et fz,W.heap[a.block]?=some (.cells m et fz)/\a.spot=none:=(by unfold World.cell? at G;split at G;{rename_i c et fz hb;split at G;{cases G};{rename_i hs;exact⟨c,et,fz,hb,by simpa using hs⟩}};{cases G});have L:∀i j,W.cell? ((a.add<|i*t.width).add j)=m[a.off+i*t.width+j]?:=(by intro i j;rw[addr_add a E,cell_of_block hb]);have a9:a.off+p*t.width<=m.size:=(by obtain⟨v,hv⟩:=M (p-1) (t.width-1) (by omega) (by omega);rw[L]at hv;have:=(qQ.1 hv).1;have D:(p-1)*t.width+t.width=p*t.width:=(by rw[<- jL];congr 1;omega);omega);have c2:((DataW.slice (A.map (·.1))<|R.map (·.1)).weights P T).all (·<=reachBytes)=true:=hw;simp only[DataW.weights,I,kW,qE,q0,uK]at c2;obtain⟨c4,b1⟩:=c2;obtain⟨b1,_⟩:=all_append b1;have O:len<=big:=(by have D:(A.length+R.length)*1<=(A.length+R.length)*P.bytesOf e:=Nat.mul_le_mul_left _ c6;have:reachBytes<=big:=(by decide);omega);split at V;{rename_i J a2 d6;simp only[q0]at V;subst V;have c9:∀i,i<len->∃y:t.den,∀(j:Nat) (c:CV) (u:Value),(t.cells y)[j]?=some c->m[a.off+i*t.width+j]?=some u->Rep false W u c (λb=>b<W.heap.size)/\CVOk c:=(by intro i X;obtain⟨w,D,S⟩:=N i (by omega);obtain⟨y,h3,h4⟩:=S X;obtain⟨cvs,g1,g2,g3⟩:=ih n (by omega) e w y he J t.shape d6 h3 (zCI b1 (by rw[qP,h4];rfl));obtain⟨z,Y⟩:=zNE g1;refine⟨z,λj c u r q=>g3 j c u ?_ ?_⟩;{rw [<- zlk Y];exact r};{obtain⟨k1,k2⟩:=cells?_get D;have hj:j<t.width:=(by have:=(qA.1 r).1;rwa [zdB] at this);rw[<- k2 j hj,L];exact q});obtain⟨l,d1,c0⟩:=zLQ len _ c9;have b0:∀i j,i<l.length->j<t.width->m[a.off+i*t.width+j]?=some ((m[a.off+i*t.width+j]?).getD undef):=(by intro i j X hj;have D:(i+1)*t.width<=p*t.width:=qS _ (by omega);rw[jL]at D;have:a.off+i*t.width+j<m.size:=(by omega);simp[this]);have a1:Rep false W (.slice (some ⟨a.block,a.off,none⟩) l.length p) (.s t l) (λb=>b<W.heap.size):=(by refine .sl t l a.block a.off p m et fz (λi j=>(m[a.off+i*t.width+j]?).getD undef) (λ_ _ b=>b<W.heap.size) _ hb (λh=>by cases h) (by omega) (by omega) a9 ?_ (λi j x _ _ hx=>⟨hx,λh=>by cases h⟩) (λh=>by cases h) b0 ?_;{exact(qQ.1 hb).1};{intro i z Y j c r;have X:i<l.length:=(qA.1 Y).1;have hj:j<t.width:=(by have:=(qA.1 r).1;rwa [zdB] at this);exact(c0 i z Y j c _ r<|b0 i j X hj).1});have ha:a=⟨a.block,a.off,none⟩:=(by obtain⟨b,o,s⟩:=a;simp only at E;subst E;rfl);rw[d1,<- ha]at a1;refine a4 _ l a1 (.s t l (by omega) λi z Y j c r=>?_);have X:i<l.length:=(qA.1 Y).1;have hj:j<t.width:=(by have:=(qA.1 r).1;rwa [zdB] at this);exact(c0 i z Y j c _ r<|b0 i j X hj).2};{cases V}}}};{cases d}}
  .rename_i fs I;split at d
   .rename_i l hl;cases d;obtain⟨xs,n,rfl,rfl,c8,e2,b8⟩:=DataW.trod_struct I hx;unfold zAu at C;rw[I,c1]at C;simp only at C;have e0:(DataW.weightsEach P (fs.toList.map (·.type))<|xs.map (·.1)).all (·<=reachBytes)=true:=by have:((DataW.agg<|xs.map (·.1)).weights P T).all (·<=reachBytes)=true:=hw;simpa only [DataW.weights,I] using this
    have e4:∀(gs:List Field) (ys:List (DataW H×List MemPlace)) (ls:List (List CTy)) (B:Nat),zzq P (P.cellsOf T) gs B=true->gs.length=ys.length->
     (∀(i:Nat) (f:Field),gs[i]?=some f->DataW.trod a3 P W 0 (λ_=>true) true n f.type ((Z.drop f.offset).take (P.cellsOf f.type))=ys[i]?)->
     zcG (λ(f:Field)=>match zcT P 3 f.type with|some x=>some x.2|none=>none) gs=some ls->(DataW.weightsEach P (gs.map (·.type))<|ys.map (·.1)).all (·<=reachBytes)=true->
     B<=P.cellsOf T/\Opened W (Z.drop B) ls.flatten:=by
     intro gs
     induction gs with
     |nil=>intro ys ls B ho _ _ a8 _;cases a8;simp only[zzq,qL]at ho;subst ho;refine⟨qZ _,[],rfl,by simp[c8],λj c u h=>by simp at h⟩
     |cons f gs e3=>intro ys ls B ho O hf a8 c3;obtain⟨b,e5,a6,c5,rfl⟩:=zh4 a8;cases ys with|nil=>simp at O|cons y ys=>simp only[zzq,qE,qL,vD]at ho;obtain⟨⟨d2,d3⟩,d4⟩:=ho;split at a6;{rename_i z Y;cases a6;obtain⟨J,a2⟩:=z;have hy:=hf 0 f rfl;simp only[qH]at hy;simp only[jB,DataW.weightsEach]at c3;obtain⟨d7,d8⟩:=all_append c3;have h4:=zAb Y;obtain⟨g1,g2⟩:=e3 ys e5 (B+P.cellsOf f.type) d4 (by simpa using O) (λi g hg=>by simpa using hf (i+1) g (by simpa using hg)) c5 d8;have o1:=ih n (by omega) f.type _ y d3 J a2 h4 hy d7;rw[d2] at o1;refine⟨by omega,?_⟩;have e1:Z.drop B=(Z.drop B).take (P.cellsOf f.type)++Z.drop (B+P.cellsOf f.type):=(by rw[<- List.drop_drop,List.take_append_drop]);rw[e1];exact Opened.append o1 g2};{cases a6}
    have:=(e4 fs.toList xs l 0 C (by simp[e2]) (λi f hf=>b8 i f (by simpa using hf)) hl e0).2;simpa using this
   {cases d}
  {cases d}
end
def z0r:(List.range zhf).all (zpB Tryz.prog)=true:=by kernel_rfl
def zbcH:zFO.all (λT=>!Nat.blt T zhf||zUJ Tryz.prog T)=true:=by kernel_rfl
def z7a:Tryz.prog.funcs.toList.all (λa=>!(a.name == "runtime.NumGoroutine"))=true:=by kernel_rfl
def zbbj (T:TypeId)(a:zFO.contains T=true)(d:T<zhf):zUJ Tryz.prog T=true:=by have c:T∈zFO:=(by revert a;generalize zFO=l;intro a;simpa using a);have e:Nat.blt T zhf=true:=(by rw[vD];exact d);have b:=qM.1 zbcH T c;rw[e,jT,Bool.false_or]at b;exact b
def zbcF (a:FuncId->Option (LW))(b:FuncId->Option (CV->Int->Option (Bool×CV×Int)))(c:FuncId->Option (List Bool×(LC->LA->Option (Bool×LC×LA))))(d:FuncId->Option (List Bool×Option (Nat×Nat×List (List Nat))×(LW))):CfgOk (znE a b c d):=by have e:(znE a b c d).P=Tryz.prog:=(by simp only[znE]);have g:∀T,(znE a b c d).sty T=below T (zxN Tryz.prog T):=λ_=>(by simp only[znE]);have i:∀T,(znE a b c d).cty T=below T (zcT Tryz.prog 4 T):=λ_=>(by simp only[znE]);have j:∀T f,(znE a b c d).fof T f=zvp Tryz.prog T f:=λ_ _=>(by simp only[znE]);have k:∀T,(znE a b c d).eqt T=zFO.contains T:=λ_=>(by simp only[znE]);refine z6Y e g i j z0r ?_;intro T h l;rw[k]at h;exact zbbj T h l
def zbb6 (a:FuncId->Option (LW))(b:FuncId->Option (CV->Int->Option (Bool×CV×Int)))(c:FuncId->Option (List Bool×(LC->LA->Option (Bool×LC×LA))))(d:FuncId->Option (List Bool×Option (Nat×Nat×List (List Nat))×(LW))):NameOk (znE a b c d):=by
 refine⟨λf e g=>?_⟩;have:=qM.1 z7a e (by
  have:Tryz.prog.funcs[f]?=some e:=g;rw[<- kU] at this;exact qK this)
 simpa using this
def zhv {b:FuncId->Option (LW)}{c:FuncId->Option (CV->Int->Option (Bool×CV×Int))}{d:FuncId->Option (List Bool×(LC->LA->Option (Bool×LC×LA)))}{e:FuncId->Option (List Bool×Option (Nat×Nat×List (List Nat))×(LW))}(h:∀f a,b f=some a->Holds Tryz.prog f a)(p:∀f a,c f=some a->zLF Tryz.prog f a)(q:∀f own a,d f=some (own,a)->zbW Tryz.prog f own a)(m:∀f own g a,e f=some (own,g,a)->zeU Tryz.prog f own g a):EngOk (znE b c d e):=by have i:=zbcF b c d e;have k:CtrOk (znE b c d e):=⟨h,λf g a n=>m f [] g a n⟩;have j:=z7X i ⟨p⟩ ⟨q⟩ ⟨m⟩;have l:=zbb6 b c d e;exact⟨i,k,j,l,zbbG i k j l⟩
section
open Go Go.ChangeShapes Go.WideShapes Go.ChangeAt
def AV.sh:AV->Bool×List CTy
 |.one c=>(false,[c.ty])
 |.agg l=>(true,l.map CV.ty)
section
variable {P:Program}
def zRs {T:TypeId}{a:Bool}{b:List CTy}(h:zcT P 4 T=some (a,b)) :
 (a=true/\∃c,P.underlying T=some (.struct c))\/(a=false/\b.length=1/\((∃k,P.underlying T=some (.int k))\/P.underlying T=some .bool\/∃e,P.underlying T=some (.slice e))):=by
 rw[zcT]at h;split at h
 .rename_i k hu;cases h;exact .inr ⟨rfl,rfl,.inl ⟨k,hu⟩⟩
 .rename_i hu;cases h;exact .inr ⟨rfl,rfl,.inr<|.inl hu⟩
 .rename_i e hu;split at h
  .cases h;exact .inr ⟨rfl,rfl,.inr<|.inr ⟨e,hu⟩⟩
  .cases h
 .rename_i c hu;split at h
  .cases h;exact .inl ⟨rfl,c,hu⟩
  .cases h
 .cases h
def z5I {W:World}{T:TypeId}{v:Value}{a:Nat}(b:(∃k,P.underlying T=some (.int k))\/P.underlying T=some .bool\/∃e,P.underlying T=some (.slice e))(h:Value.okWide P W .any a T v):v.cells = #[v]:=by
 cases v with
 |agg c=>exfalso;rcases b with⟨k,b⟩|b|⟨e,b⟩<;>simp [Value.okWide,b,Cell.okWide,Cell.ok]at h
 |_=>rfl
def zSH (k:∀T,T<zhf->zpB P T=true/\zAu P T=true){H:Type}{K:TypeId×Value->H}{W:World}{u:Nat} :
 ∀(r:List TypeId) (z:List Value) (B:List (DataW H)) (p:List MemPlace),DataW.TrodAll K P W 0 (fun _=>true) true r z B p->
  (∀(j:Nat) (t:TypeId) (v:Value),r[j]?=some t->z[j]?=some v->Value.okWide P W .any u t v)->(∀t∈r,t<zhf/\(zcT P 4 t).isSome=true)->
  (DataW.weightsEach P r B).all (·<=reachBytes)=true->
  ∃(f:LA) (D:List Value),f.map (fun a=>some a.sh)=r.map (zcT P 4)/\zdR false W (zF f) D (fun _ b=>b<W.heap.size)/\zb1 f D=z/\∀c∈zF f,CVOk c
 |[],z,B,p,h,_,_,_=>by obtain⟨rfl,rfl,rfl⟩:=trodAll_nil h;exact⟨[],[],rfl,⟨rfl,fun i c x h=>by simp[zF]at h⟩,rfl,fun c h=>by simp[zF]at h⟩
 |T::r,z,B,p,h,hv,ht,hw=>by
  obtain⟨v,U,d,I,p1,q,rfl,rfl,rfl,L,M⟩:=trodAll_cons h;simp only[DataW.weightsEach]at hw;obtain⟨Q,R⟩:=all_append hw;obtain⟨f,D,X,g2,Y,g4⟩:=zSH k r U I q M (fun j t v L M=>hv (j+1) t v (by simpa using L) (by simpa using M)) (fun t h=>ht t (by simp[h])) R;obtain⟨hT,m⟩:=ht T (by simp);obtain⟨⟨G,S⟩,g⟩:=uP.1 m;obtain⟨w,hf⟩:=L;obtain⟨cvs,J,C,V⟩:=z2N k w T _ _ hT G S g hf Q;have n:=hv 0 T v rfl rfl;have s:∀a:AV,a.cvs=cvs->zdR false W (zF (a::f)) (v.cells.toList++D) (fun _ b=>b<W.heap.size)/\∀c∈zF (a::f),CVOk c:=(by intro a ha;have e:zF (a::f)=cvs++zF f:=(by simp[zF,ha]);rw[e];refine⟨zdR.append ⟨C,fun i c x l hx=>(V i c x l hx).1⟩ g2,fun c l=>?_⟩;rcases jJ.1 l with l|l;{obtain⟨i,Z⟩:=qT.1 l;have N:i<v.cells.toList.length:=(by rw[C];exact(qA.1 Z).1);exact(V i c _ Z (qB N)).2};{exact g4 c l});rcases zRs g with⟨rfl,fs,O⟩|⟨rfl,y,O⟩;{obtain⟨A,rfl,_⟩:∃A,v = .agg A/\True:=(by simp only[Value.okWide,O]at n;obtain⟨A,h,_⟩:=n;exact⟨A,h,trivial⟩);obtain⟨E,F⟩:=s (.agg cvs) rfl;refine⟨.agg cvs::f,_,?_,E,?_,F⟩;{rw [jB,jB,X,g];simp only[AV.sh,J]};{simp only [Value.cells] at C;simp only[zb1,Value.cells,<- C,kN,kY,Y,jQ]}}
  .have hcells:=z5I O n;rw[<- J]at y;obtain ⟨c,rfl⟩:∃c,cvs=[c]:=by
    match cvs,y with
    |[c],_=>exact⟨c,rfl⟩
   obtain⟨E,F⟩:=s (.one c) rfl;refine⟨.one c::f,_,?_,E,?_,F⟩;{rw [jB,jB,X,g,<- J];rfl};{rw [hcells];simp only[zb1];simp[Y]}
def zCH (r:laidOutB P=true){H:Type}{b:TypeId×Value->H}{W m:World}(n:Go.RowKit.Below W.heap.size W m){u:Nat->Bool}:∀(g:List TypeId) (j:List Value) (i:List (DataW H)) (f:List MemPlace),(∀t∈g,P.readableRec t=true/\t<P.types.size)->
 DataW.TrodAll b P W 0 (λ_=>true) true g j i f->(∀x∈f,x.block<W.heap.size/\u x.block=true)->DataW.TrodAll b P m 0 u true g j i f
 |[],j,i,f,_,h,_=>by obtain⟨rfl,rfl,rfl⟩:=trodAll_nil h;exact rfl
 |T::g,j,i,f,s,h,a=>by
  obtain⟨v,l,d,k,p,q,rfl,rfl,rfl,w,y⟩:=trodAll_cons h;obtain⟨z,c⟩:=s T (by simp)
  exact⟨p,q,WideElems.Trod_stays r z c w (λx e=>n.same (a x<|j5 _ e).1) λx e=>(a x<|j5 _ e).2,
   zCH r n g l k q (λt h=>s t (by simp[h])) y λx e=>a x (kI _ e),rfl⟩
def zTE {W b:World}(h:Grown W b)(a:MemPlace->Prop):W.keptBut b a:=by
 refine⟨h.os,h.output,λi c=>?_⟩;rw[h.keep i c];cases d:W.heap[i]? with
 |none=>rfl
 |some o=>cases o<;>first|rfl|exact⟨rfl,rfl,rfl,λ_ _=>rfl⟩|exact .inr ⟨rfl,rfl⟩
def z5T (P:Program)(a:List TypeId):Bool:=a.all λT=>Nat.blt T zhf&&(zcT P 4 T).isSome&&P.readableRec T&&Nat.blt T P.types.size
def z9h (P:Program)(d:List TypeId)(b:LA):Prop:=b.map (λa=>some a.sh)=d.map (zcT P 4)/\∀c∈zF b,CVOk c
def zU0 (P:Program)(f:FuncId)(d:List TypeId):Prop :=
 ∃c,Holds P f c/\∀a,z9h P d a->c a=some (true,[.one<|.b true])
def zNa (L:∀T,T<zhf->zpB P T=true/\zAu P T=true)(a0:laidOutB P=true){s:ChangeSpec}{f:FuncId}{u:Func}{B:TypeId}(k:s.vars=[])(F:∀(H:Type) (i:List (DataW H)),i.length=u.params.toList.length->s.fn H i={results:=[.lit<|.bool true],args:=i})(a:z5T P u.params.toList=true)(O:u.resultTypes = #[B])(hB:P.underlying B=some .bool)(hl:zU0 P f u.params.toList){H:Type}{enc:TypeId×Value->H}{apart D l:Bool}(W:World)(A:Nat)(g:LV)(i gs:List (DataW H))(w:List MemPlace)(U:∀(j:Nat) t v,u.params[j]?=some t->g[j]?=some v->Value.okWide P W .any A t v)(hW:DataW.Whole enc P u.params.toList s.vars apart W g.toList i gs w)(R:(DataW.weightsEach P (u.params.toList++s.plain.varTypes P)<|i++gs).all (·<=reachBytes)=true) :
 Calls P f g W λe W'=>∃v,e = .returned v/\s.post enc P u apart D l false W g v W':=by
 have J:=hW;obtain⟨p,q,I,hV,rfl,a4,a5⟩:=hW;rw[k]at hV;obtain⟨rfl,rfl⟩:=trodVars_none hV;have a2:s.plain.varTypes P=[]:=by unfold DataSpec.varTypes;show s.vars.filterMap _=[];rw[k];rfl
 rw[a2,jC,jC]at R;unfold z5T at a;simp only[qM,qE,vD]at a;have G:∀(j:Nat) (t:TypeId) (v:Value),u.params.toList[j]?=some t->g.toList[j]?=some v->Value.okWide P W .any A t v:=by intro j t v h1 X;rw[kU]at h1 X;exact U j t v h1 X
 obtain⟨C,xs,g1,g2,g3,g4⟩:=zSH L u.params.toList g.toList i p I G (λt S=>⟨(a t S).1.1.1,(a t S).1.1.2⟩) R;obtain⟨a6,hH,Q⟩:=hl;have m:=hH.2 W C xs _ g2 (Q C ⟨g1,g4⟩);have E:(zb1 C xs).toArray=g:=by rw[g3,jQ]
 rw[E]at m;have n:∀(V:List TypeId) (vs:List Value) (i:List (DataW H)) (ps:List MemPlace),DataW.TrodAll enc P W 0 (λ_=>true) true V vs i ps->i.length=V.length:=by intro V;induction V with|nil=>intro vs i ps h;obtain⟨_,rfl,_⟩:=trodAll_nil h;rfl|cons t V ih=>intro vs i ps h;obtain⟨v,a3,d,Z,p,q,rfl,rfl,rfl,_,X⟩:=trodAll_cons h;simp[ih a3 Z q X]
 refine m.mono ?_;intro e W1 he;cases e with
 |panicked c=>exact he.elim
 |outgrown=>exact he.elim
 |returned v=>
  obtain⟨hg,ys,K,N,hv,_⟩:=he;have a1:v = .bool true:=by
   match ys,N with
   |[],h=>exact absurd h.1 (by simp[zF,AV.cvs])
   |[y],h=>have:=(h.2 0 (.b true) y rfl rfl).bool_inv;rw[hv,this];rfl
   |y::z::r,h=>exact absurd h.1 (by simp[zF,AV.cvs])
  subst a1;refine⟨_,rfl,i,[],p++[],[],p,[],J,?_,?_,?_,zTE hg _,λh=>by cases h⟩;{rw [jC,F H i<|n _ _ _ _ I,O];exact⟨[],[],⟨1,by simp[DataW.trod,hB,Value.cells]⟩,rfl,rfl⟩};{rw [jC,F H i<|n _ _ _ _ I];have hb:Go.RowKit.Below W.heap.size W W1:=⟨hg.os,hg.tape,hg.output,hg.size,hg.keep⟩;have M:∀x∈p,x.block<W.heap.size:=λx Y=>(by simpa using J.lt x (j5 _ Y));exact zCH a0 hb _ _ _ _ (λt S=>⟨(a t S).1.2,(a t S).2⟩) I (λx Y=>⟨M x Y,by simpa using M x Y⟩)};{rw [k,jC,F H i<|n _ _ _ _ I];rfl}
end
def zbcI:(List.range zhf).all (zAu Tryz.prog)=true:=by kernel_rfl
def z8c:laidOutB Tryz.prog=true:=by kernel_rfl
def own:ownKnob Tryz.prog.godebug=none:=by kernel_rfl
def z6Z (T:TypeId)(a:T<zhf):zpB Tryz.prog T=true/\zAu Tryz.prog T=true :=
 ⟨qM.1 z0r T<|kJ.2 a,qM.1 zbcI T<|kJ.2 a⟩
abbrev Good (b:List TypeId)(a:LA):Prop:=z9h Tryz.prog b a
abbrev z0f (f:FuncId)(a:List TypeId):Prop:=zU0 Tryz.prog f a
def zYQ {d:FuncId->Option (LW)}{l:FuncId->Option (CV->Int->Option (Bool×CV×Int))}{m:FuncId->Option (List Bool×(LC->LA->Option (Bool×LC×LA)))}{n:FuncId->Option (List Bool×Option (Nat×Nat×List (List Nat))×(LW))}(e:∀f a,d f=some a->Holds Tryz.prog f a)(g:∀f a,l f=some a->zLF Tryz.prog f a)(i:∀f own a,m f=some (own,a)->zbW Tryz.prog f own a)(j:∀f own k a,n f=some (own,k,a)->zeU Tryz.prog f own k a){f:FuncId}{r:List TypeId}(s:FnOk Tryz.prog f)(h:∀c,Good r c->∃q N D,evalFn (znE d l m n) q N D f c=some [.one<|.b true]):z0f f r:=by refine⟨λc=>open Classical in if Good r c then some (true,[.one<|.b true]) else none,zBZ (zhv e g i j) s ?_,λc hg=>by simp[hg]⟩;intro c t _ p;split at p;{rename_i hg;cases p;exact h c hg};{cases p}
end
def St.blkEnd (e:St):List Bool->List At->List MV->Option (LC×List Nat)
 |[],[],[]=>some ([],[])
 |own::ms,a::r,h::hs=>
  match St.blkEnd e ms r hs with
  |none=>none
  |some (d,c) =>
   match a with
   |.i k n=>some (.i k n::d,c)
   |.b x=>some (.b x::d,c)
   |.sl q [] =>
    match e.root q with
    |some R=>
     match own with
     |true=>if R.own && !c.contains q then some (.s R.t R.l::d,q::c) else none
     |false=>
      match h with
      |.v (.at<|.sl f [])=>if q==f then some (.s R.t R.l::d,c) else none
      |_=>none
    |none=>none
   |_=>none
 |_,_,_=>none
def zfl:List Bool->LC->Nat->List (Nat×Root)
 |own::ms,.s t l::cs,id=>(id,⟨t,l,own,none⟩)::zfl ms cs (id+1)
 |_::ms,_::cs,id=>zfl ms cs (id+1)
 |_,_,_=>[]
def z0u (own:List Bool)(c:LC)(b:LA):St :=
 {tm:=.v (.at<|.lp 0 0)::(zhG c 0).map λa=>.v (.at a),lo:=[(0,zhG c 0)],ro:=zfl own c 0++zc8 zvM b c.length,stk:=[],nid:=c.length+(b.flatMap AV.cvs).length+1,ep:=0}
def zpG (C:Cfg)(tms:FuncId->Nat->Option Tmpl)(N D:Nat)(f:FuncId)(own:List Bool)(d:LC)(a:LA):Option Ans :=
 cond (zi4 f && !(zrv (.agg d::a))) none
 (zwO C tms N (zs5 C tms N D) f (.v (.at<|.lp 0 0)::(zc6 a d.length).map .v) (z0u own d a) λh b=>
  match b.tm with
  |.v (.at<|.lp l 0)::hs=>
   match zy b.lo l with
   |some cells=>
    match b.blkEnd own cells hs with
    |some (e,g) =>
     match zr8 (b.thaw<|zi4 f) h g with
     |some c=>some (.agg e::c)
     |none=>none
    |none=>none
   |none=>none
  |_=>none)
section
variable {C:Cfg} {w0 w w1:World} {S0:zbb} {U:Nat->Prop} {st st1:St} {E E1:Env} {ts:Array Value} {sv:List (Array Value)}
structure BlkEnd (st:St) (own:List Bool) (cells:List At) (hs:List MV) (cs:List CV) (ks:List Nat):Prop where
 len:cs.length=cells.length
 hlen:hs.length=cells.length
 ownk:∀r∈ks,∃j,zbh own j/\cells[j]?=some (.sl r [])
 get:∀(j:Nat) (a:At),cells[j]?=some a->(∃k n,a = .i k n/\cs[j]?=some (.i k n))\/(∃x,a = .b x/\cs[j]?=some (.b x))\/
  ∃r R,a = .sl r []/\st.root r=some R/\cs[j]?=some (.s R.t R.l)/\((zbh own j/\R.own=true/\r∈ks)\/(¬ zbh own j/\hs[j]?=some (.v (.at (.sl r [])))))
 inj:∀(i j r:Nat),zbh own i->zbh own j->cells[i]?=some (.sl r [])->cells[j]?=some (.sl r [])->i=j
def zR3:∀(own:List Bool) (cells:List At) (A:List MV) (E:LC) (F:List Nat),st.blkEnd own cells A=some (E,F)->BlkEnd st own cells A E F
 |[],[],[],E,F,h=>by cases h;exact⟨rfl,rfl,fun r h=>by simp at h,fun j a h=>by simp at h,fun i j r h=>by simp[zbh]at h⟩
 |o::ms,a::r,O::A,E,F,h=>by
  simp only[St.blkEnd]at h;split at h;{cases h}
  .rename_i cs0 ks0 h0;have f:=zR3 ms r A cs0 ks0 h0;have p:∀(z:List Nat) (c:CV),(∀x∈ks0,x∈z)->∀(j:Nat) (b:At),r[j]?=some b->(∃k n,b = .i k n/\(c :: cs0)[j+1]?=some (.i k n))\/(∃x,b = .b x/\(c :: cs0)[j+1]?=some (.b x)) \/
    ∃q R,b = .sl q []/\st.root q=some R/\(c::cs0)[j+1]?=some (.s R.t R.l)/\((zbh (o::ms) (j+1)/\R.own=true/\q∈z)\/(¬ zbh (o::ms) (j+1)/\(O::A)[j+1]?=some (.v (.at (.sl q []))))):=by
    intro z c I j b g;rcases f.get j b g with h|h|⟨q,R,G,L,M,H⟩
    .exact .inl (by simpa using h)
    .exact .inr (.inl (by simpa using h))
    .refine .inr (.inr ⟨q,R,G,L,by simpa using M,?_⟩)
     rcases H with⟨d,e,Q⟩|⟨d,e⟩
     .exact .inl ⟨by simpa [zbh] using d,e,I q Q⟩
     .exact .inr ⟨by simpa [zbh] using d,by simpa using e⟩
   have flat:∀(c:CV),(∀q,a≠.sl q [])->((∃k n,a = .i k n/\c = .i k n)\/(∃x,a = .b x/\c = .b x))->BlkEnd st (o::ms) (a::r) (O::A) (c::cs0) ks0:=by
    intro c B S;refine⟨by simp[f.len],by simp[f.hlen],fun q K=>?_,fun j b g=>?_,fun i j q u y d e=>?_⟩;{obtain⟨j,d,e⟩:=f.ownk q K;exact⟨j+1,by simpa [zbh] using d,by simpa using e⟩}
    .cases j with
     |zero=>simp only[qH,qC]at g;subst g;rcases S with⟨k,n,d,e⟩|⟨x,d,e⟩;{exact .inl ⟨k,n,d,by simp[e]⟩};{exact .inr (.inl ⟨x,d,by simp[e]⟩)}
     |succ j=>exact p ks0 c (fun _ h=>h) j b (by simpa using g)
    {cases i with|zero=>simp only[qH,qC]at d;exact absurd d (B q)|succ i=>(cases j with|zero=>simp only[qH,qC]at e;exact absurd e (B q)|succ j=>have:=f.inj i j q (by simpa [zbh] using u) (by simpa [zbh] using y) (by simpa using d) (by simpa using e);omega)}
   split at h;{rename_i k n;cases h;exact flat _ (fun q h=>by cases h) (.inl ⟨k,n,rfl,rfl⟩)};{rename_i x;cases h;exact flat _ (fun q h=>by cases h) (.inr ⟨x,rfl,rfl⟩)};{rename_i q;split at h;{rename_i R N;split at h;{split at h;{rename_i m;simp only[qE,jE,jM,decide_eq_false_iff_not]at m;obtain⟨C,J⟩:=m;cases h;refine⟨by simp[f.len],by simp[f.hlen],fun x w=>?_,fun j b g=>?_,fun i j x u y d e=>?_⟩;{rcases qG.1 w with rfl|w;{exact⟨0,rfl,rfl⟩};{obtain⟨j,d,e⟩:=f.ownk x w;exact⟨j+1,by simpa [zbh] using d,by simpa using e⟩}};{cases j with|zero=>simp only[qH,qC]at g;subst g;exact .inr (.inr ⟨q,R,rfl,N,by simp,.inl ⟨rfl,C,jA⟩⟩)|succ j=>exact p _ _ (fun x w=>qY _ w) j b (by simpa using g)};{have D:∀(i:Nat),zbh ms i->r[i]?=some (.sl q [])->False:=(by intro i u K;rcases f.get i _ K with⟨_,_,h,_⟩|⟨_,h,_⟩|⟨V,T,G,L,M,H⟩;{cases h};{cases h};{cases G;rcases H with⟨_,_,h⟩|⟨h,_⟩;{exact J h};{exact h u}});cases i with|zero=>(cases j with|zero=>rfl|succ j=>simp only[qH,qC,At.sl.injEq,and_true]at d;subst d;exact(D j (by simpa [zbh] using y) (by simpa using e)).elim)|succ i=>(cases j with|zero=>simp only[qH,qC,At.sl.injEq,and_true]at e;subst e;exact(D i (by simpa [zbh] using u) (by simpa using d)).elim|succ j=>have:=f.inj i j x (by simpa [zbh] using u) (by simpa [zbh] using y) (by simpa using d) (by simpa using e);omega)}};{cases h}};{split at h;{rename_i U;split at h;{rename_i P;simp only[qL]at P;subst P;cases h;refine⟨by simp[f.len],by simp[f.hlen],fun x w=>?_,fun j b g=>?_,fun i j x u y d e=>?_⟩;{obtain⟨j,d,e⟩:=f.ownk x w;exact⟨j+1,by simpa [zbh] using d,by simpa using e⟩};{cases j with|zero=>simp only[qH,qC]at g;subst g;exact .inr (.inr ⟨q,R,rfl,N,by simp,.inr ⟨by simp[zbh],rfl⟩⟩)|succ j=>exact p _ _ (fun x w=>w) j b (by simpa using g)};{cases i with|zero=>simp[zbh]at u|succ i=>(cases j with|zero=>simp[zbh]at y|succ j=>have:=f.inj i j x (by simpa [zbh] using u) (by simpa [zbh] using y) (by simpa using d) (by simpa using e);omega)}};{cases h}};{cases h}}};{cases h}};{cases h}
 |[],_::_,_,_,_,h=>by simp[St.blkEnd]at h
 |[],[],_::_,_,_,h=>by simp[St.blkEnd]at h
 |_::_,[],_,_,_,h=>by simp[St.blkEnd]at h
 |_::_,_::_,[],_,_,h=>by simp[St.blkEnd]at h
def z6S (a:Value)(b:LV):(#[a]++b)[0]?=some a:=by rw[j4 (by simp)];rfl
def z6T (a:Value)(b:LV)(i:Nat):(#[a]++b)[i+1]?=b[i]?:=by rw[kG (by simp)];simp
def zl3:∀(own:List Bool) (a:LC) (id n:Nat) (R:Root),zy (zfl own a id) n=some R->id<=n/\∃t l,a[n-id]?=some (.s t l)/\R.t=t/\HEq R.l l/\own[n-id]?=some R.own/\R=⟨t,l,R.own,none⟩
 |[],_,_,_,_,h=>by cases h
 |o::ms,[],_,_,_,h=>by cases h
 |o::ms,c::a,id,n,R,h=>by have d:zy (zfl ms a<|id+1) n=some R->id<=n/\∃t l,(c::a)[n-id]?=some (.s t l)/\R.t=t/\HEq R.l l/\(o::ms)[n-id]?=some R.own/\R=⟨t,l,R.own,none⟩:=λh=>(by obtain⟨r,t,l,g,j,m,p,q⟩:=zl3 ms a (id+1) n R h;have e:n-id=(n-(id+1))+1:=(by omega);exact⟨by omega,t,l,by rw[e,jN];exact g,j,m,by rw[e,jN];exact p,q⟩);cases c with|i k x=>exact d h|b x=>exact d h|s t l=>simp only[zfl,zy]at h;split at h;{rename_i f;simp only[qL]at f;subst f;cases h;exact⟨qZ _,t,l,by simp,rfl,HEq.rfl,by simp,rfl⟩};{exact d h}
def zim (hO:EngOk C){f:FuncId}{own:List Bool}{e8:LC->LA->Option (Bool×LC×LA)}(hf:FnOk C.P f)(h:∀(d:LC) (z:LA) (Z:LC) (rs:LA),own.length=d.length->(∃(w:World) (xs:Nat->Value) (K:Nat->zbb),∀(j:Nat) (c:CV),(d++zF z)[j]?=some c->Rep false w (xs j) c (K j))->e8 d z=some (true,Z,rs)->Z.length=d.length/\∃tms N D,zpG C tms N D f own d z=some (.agg Z::rs)):zbW C.P f own e8:=by
 refine⟨hf,λw blk B e d K z xs Ka Z rs hb e5 g7 a1 a7 f1 a4 c7 e0=>?_⟩;obtain⟨d4,tms,N,D,a3⟩:=h d z Z rs g7 ⟨w,λj=>if j<d.length then (B[j]?).getD undef else (xs[j-d.length]?).getD undef,λj=>if j<d.length then K j else Ka,λj c L=>by
  by_cases T:j<d.length
  .rw [qW T]at L;have M:=jH (show j<B.size by omega)
   simp only[if_pos T,M,jZ];exact(a1 j c _ L M).ro
  .rw [qR (by omega)]at L
   have c9:=(qA.1 L).1;have M:=qB (show j-d.length<xs.length by rw[a4.1];exact c9)
   simp only[if_neg T,M,jZ];exact a4.2 _ c _ L M⟩ e0
 unfold zpG at a3;cases b9:zi4 f && !(zrv (.agg d::z)) with
 |true=>rw[b9]at a3;cases a3
 |false=>
 rw[b9,cond_false]at a3;have hblt:blk<w.heap.size:=(qQ.1 hb).1;generalize a9:z0u own d z=st at a3;have g9:st.ro=zfl own d 0++zc8 zvM z d.length:=(by rw[<- a9];rfl);have d6:st.lo=[(0,zhG d 0)]:=(by rw[<- a9];rfl);have c3:st.stk=[]:=(by rw[<- a9];rfl);have hnid:st.nid=d.length+(zF z).length+1:=(by rw[<- a9];rfl);have b0:st.tm = .v (.at<|.lp 0 0)::(zhG d 0).map λa=>.v (.at a):=(by rw[<- a9];rfl);have O:∀r R,zy st.ro r=some R->R.ep=none/\((r<d.length/\own[r]?=some R.own/\d[r]?=some (.s R.t R.l))\/(d.length<=r/\r<d.length+(zF z).length/\R.own=false/\(zF z)[r-d.length]?=some (.s R.t R.l))):=(by intro r R I;rw[g9,zbX]at I;split at I;{rename_i Q hQ;cases I;obtain⟨_,t,l,q,_,_,h5,h6⟩:=zl3 own d 0 r R hQ;rw[h6]at h5 ⊢;simp only[vG]at q h5;exact⟨rfl,.inl ⟨(qA.1 q).1,h5,q⟩⟩};{obtain⟨g,t,l,q,rfl⟩:=zfQ zvM z d.length r R I;have:=(qA.1 q).1;exact⟨rfl,.inr ⟨g,by omega,rfl,q⟩⟩});have H:∀r R,st.root r=some R->(r<d.length/\own[r]?=some R.own/\d[r]?=some (.s R.t R.l))\/(d.length<=r/\R.own=false/\(zF z)[r-d.length]?=some (.s R.t R.l)):=(by intro r R I;rcases (O r R (zbG I).1).2 with h|⟨g,_,q,G⟩;{exact .inl h};{exact .inr ⟨g,q,G⟩});let E:Env:={ρ:=λn=>if n<d.length then (B[n]?).getD undef else (xs[n-d.length]?).getD undef,φ:=λn=>if n<d.length then K n else Ka,β:=λ_=>blk,κ:=w}
 have a0:∀n,n<d.length->E.ρ n=(B[n]?).getD undef/\E.φ n=K n:=λn hn=>(by simp only[E,if_pos hn,and_self]);have a2:∀n,d.length<=n->E.ρ n=(xs[n-d.length]?).getD undef/\E.φ n=Ka:=λn hn=>(by simp only[E,if_neg (show ¬ n<d.length by omega),and_self]);have e4:∀(j:Nat) (a:At) (u:Value),(zhG d 0)[j]?=some a->B[j]?=some u->u.oneCell'=true/\VA w st E a u:=(by intro j a u A M;rw[zvL,jX]at A;cases L:d[j]? with|none=>rw[L]at A;cases A|some c=>rw[L]at A;cases A;have hr:=a1 j c u L M;have T:j<d.length:=(qA.1 L).1;refine⟨hr.one,?_⟩;(cases c with|i k n=>exact hr.int_inv|b x=>exact hr.bool_inv|s t l=>obtain⟨⟨a,c5,hv,_⟩,_⟩:=hr.len;refine⟨⟨a,_,c5,hv⟩,λR _=>?_⟩;rw[(a0 j T).1,M];rfl));have b8:∀l cells,zy st.lo l=some cells->l=0/\cells=zhG d 0:=(by intro l cells h;rw[d6]at h;simp only[zy]at h;split at h;{rename_i he;simp only[qL]at he;cases h;exact⟨he.symm,rfl⟩};{cases h});have hp:VA w st E (.lp 0 0) (.pointer<|some ⟨blk,0,none⟩):=⟨⟨_,rfl⟩,λ_ _=>rfl⟩;have c0:∀a∈zhG d 0,∀m∈a.ids,m<d.length:=(by intro a A m J;obtain⟨j,T⟩:=qT.1 A;rw[zvL,jX]at T;cases L:d[j]? with|none=>rw[L]at T;cases T|some c=>rw[L]at T;cases T;have:=zA3 J;have:=(qA.1 L).1;omega);let S0:zbb:=λb=>b=blk\/(∃j,j<d.length/\zbh own j/\K j b)\/(zi4 f=false/\b=w.heap.size)
 have hS:Sim w S0 (λn=>n<st.nid) st E (#[.pointer<|some ⟨blk,0,none⟩]++B) [] w:=by
  refine⟨⟨rfl,rfl,rfl,qZ _,λ_ _ _=>rfl,λr R I=>?_,λr R I x p=>?_,λr R I U=>?_,λhz r R I U he f7=>?_,λr R r' R' I U f2 he X x p=>?_,λl cells hl=>?_,λl l' c1 c2 g q _=>?_,λl cells r R hl I=>?_,λr R e I he=>?_,rfl⟩,⟨λn R hn=>?_,λn cells hn=>?_,λm J n hn=>?_,λf hf=>?_⟩,⟨?_,λi m v J hv=>?_⟩,?_⟩;{rcases H r R I with⟨g,q,G⟩|⟨g,q,G⟩;{have M:=jH (show r<B.size by omega);rw[(a0 r g).1,(a0 r g).2,M];have:=a1 r _ _ G M;rw[q] at this;exact this};{have c9:=(qA.1 G).1;have M:=qB (show r-d.length<xs.length by rw[a4.1];exact c9);rw[(a2 r g).1,(a2 r g).2,M,q];exact a4.2 _ _ _ G M}};{rcases H r R I with⟨g,q,G⟩|⟨g,q,G⟩;{rw [(a0 r g).2]at p;exact(a7 r x g p).1};{rw [(a2 r g).2]at p;exact(c7 x p).1}};{rcases H r R I with⟨g,q,G⟩|⟨g,q,G⟩;{refine⟨(O r R (zbG I).1).1,λx p=>.inl (.inr<|.inl ⟨r,g,?_,?_⟩)⟩;{show own[r]?=some true;rw[q,U]};{rw [(a0 r g).2]at p;exact p}};{rw [q]at U;cases U}}
  .exfalso;cases hq:zi4 f with
   |false=>exact hz (.inr<|.inr ⟨hq,rfl⟩)
   |true=>rw[hq,uZ]at b9;have f6:zrv (.agg d::z)=true:=(by simpa using b9);have d7:CV.s R.t R.l∈(AV.agg d::z).flatMap AV.cvs:=(by simp only[j8,jJ];rcases H r R I with⟨g,q,G⟩|⟨g,q,G⟩;{exact .inl (qK G)};{exact .inr (qK G)});have:=qM.1 f6 _ d7;simp only at this;rw[f7] at this;cases this
  {rcases H r R I with⟨g,q,G⟩|⟨g,q,G⟩;{have d9:zbh own r:=(by show own[r]?=some true;rw[q,U]);rw[(a0 r g).2]at p;rcases H r' R' f2 with⟨W,c6,a6⟩|⟨W,c6,a6⟩;{rw [(a0 r' W).2];exact f1 r r' x g W d9 X p};{rw [(a2 r' W).2];exact λhk=>(c7 x hk).2.2 r g d9 p}};{rw [q]at U;cases U}};{obtain⟨rfl,rfl⟩:=b8 l cells hl;exact⟨.inl (.inl rfl),B,e,hb,by rw[e5,zA2],λj c u L M=>e4 j c u L M⟩};{rw [(b8 l c1 g).1,(b8 l' c2 q).1]};{intro p;rcases H r R I with⟨g,q,G⟩|⟨g,q,G⟩;{rw [(a0 r g).2]at p;exact(a7 r _ g p).2 rfl};{rw [(a2 r g).2]at p;exact(c7 _ p).2.1 rfl}};{rw [(O r R I).1]at he;cases he};{rcases (O n R hn).2 with⟨g,_⟩|⟨_,g,_⟩<;>omega};{obtain⟨rfl,rfl⟩:=b8 n cells hn;refine⟨by omega,λa A m J=>?_⟩;have:=c0 a A m J;omega};{rw [b0]at J;rcases qG.1 J with rfl|J;{simp only [MV.ids,zbM,zW,At.ids,zbw,zbC,jR,j8,uE,jC,qF]at hn;omega};{obtain⟨a,A,rfl⟩:=jD.1 J;simp only[MV.ids,zbM,zW,j8,uE,jC]at hn;have:=c0 a A n hn;omega}};{rw [c3]at hf;simp at hf};{rw [b0];simp[zA2,e5];omega};{rw [b0]at J;cases i with|zero=>rw[z6S]at hv;simp at J hv;subst J hv;exact hp|succ i=>simp only[jN,qP]at J;have d0:B[i]?=some v:=(by rw[z6T]at hv;exact hv);(cases A:(zhG d 0)[i]? with|none=>rw[A]at J;cases J|some a=>rw[A]at J;cases J;exact(e4 i a v A d0).2)};{rw [c3];trivial}
 obtain⟨f9,g0⟩:=zhF (w:=w) (st:=st) (E:=E) z xs d.length a4.1 (λi c u L M=>by
  have hr:=a4.2 i c u L M;refine⟨?_,hr.one⟩;cases c with
  |i k n=>exact hr.int_inv
  |b x=>exact hr.bool_inv
  |s t l=>
   obtain⟨⟨a,c5,hv,_⟩,_⟩:=hr.len;refine⟨⟨a,_,c5,hv⟩,λR I=>?_⟩;have e:d.length+i-d.length=i:=by omega
   rw[(a2 _<|uD _ _).1,e,M];rfl)
 obtain⟨_,b7⟩:=zlz hO (zj1 hO (tms:=tms) (N:=N) D) f _ st _ _ a3 w S0 _ E _ [] w (#[.pointer<|some ⟨blk,0,none⟩]++(zb1 z xs).toArray)
  (λv w'=>w'.os=w.os/\w'.tape=w.tape/\w'.output=w.output/\w.heap.size<=w'.heap.size/\
   (∀b,b<w.heap.size->b≠blk->(∀j,j<d.length->zbh own j->¬ K j b)->w'.heap[b]?=w.heap[b]?)/\
   ∃(S:LV) (e':TypeId) (K':Nat->zbb) (ys:List Value) (Kr:Nat->zbb),w'.heap[blk]?=some (.cells S e' (0,0))/\S.size=Z.length/\Z.length=d.length/\
    (∀(j:Nat) (c:CV) (u:Value),Z[j]?=some c->S[j]?=some u->match c with
     |.i k n=>u = .int k n
     |.b x=>u = .bool x
     |.s t l=>(zbh own j->Rep true w' u (.s t l) (K' j))/\(¬ zbh own j->B[j]?=some u))/\
    zuP (zp0 f) w' (zF rs) ys Kr/\v=zkV (zb1 rs ys)/\
    (∀j x,j<d.length->K' j x->x<w'.heap.size/\x≠blk/\((∃i,i<d.length/\zbh own i/\K i x)\/w.heap.size<=x))/\
    (∀i x,i<(zF rs).length->Kr i x->x<w'.heap.size/\x≠blk/\((∃i,i<d.length/\zbh own i/\K i x)\/w.heap.size<=x))/\
    (∀i j x,i<d.length->j<d.length->i≠j->K' i x->¬ K' j x)/\
    (∀i j c x,(zF rs)[i]?=some c->zp0 f c=true->j<(zF rs).length->i≠j->Kr i x->¬ Kr j x)/\
    (∀i j x,i<d.length->j<(zF rs).length->K' i x->¬ Kr j x)) hS (λn hn h=>by omega)
  (by simp[f9]) (λi m v J hv=>by
   cases i with
   |zero=>rw[z6S]at hv;simp at J hv;subst J hv;exact hp
   |succ i=>
    simp only[jN,qP]at J;have d0:(zb1 z xs)[i]?=some v:=by rw[z6T]at hv;simpa using hv
    cases p:(zc6 z d.length)[i]? with
    |none=>rw[p]at J;cases J
    |some x=>rw[p]at J;cases J;exact g0 i x v p d0)
  (λm J n hn=>by
   rcases qG.1 J with rfl|J
   .simp only [MV.ids,zbM,zW,At.ids,zbw,zbC,jR,j8,uE,jC,qF]at hn;omega
   .obtain⟨x,p,rfl⟩:=jD.1 J;simp only[MV.ids,zbM,qN]at hn;obtain⟨a,A,hn⟩:=hn;have:=(zfR z d.length n x a p A hn).2;omega)
  (λU' b2 E' w' tvs v d2 _ _ _ hv _ F=>by
   split at F
   .rename_i l hs htm;split at F
    .rename_i cells hcells;split at F
     .rename_i cs1 ks hbe;split at F
      .rename_i ans hansof;simp only[qC,List.cons.injEq,AV.agg.injEq]at F;obtain⟨rfl,rfl⟩:=F;have hB:=zR3 own cells hs _ ks hbe;have hM:=d2.mem;obtain⟨hts,e2⟩:=d2.tm;have g2:=e2 0 (.v<|.at<|.lp l 0) (.pointer<|some ⟨blk,0,none⟩) (by rw[htm];rfl) (z6S _ _)
       have e7:E'.β l=blk:=by have:=g2.2 cells hcells;simp only[Value.pointer.injEq,qC,Addr.mk.injEq,and_true] at this;exact this.symm
       obtain⟨us,rfl,h8,h9⟩:=zAc hv;have TT:=zOp (st:=b2) (E:=E') (w:=w') (zi4 f);obtain⟨a5,ys,kr,hG,hyl,e6,rfl,f8,_⟩:=zjz tvs ks _ us hansof h8 (λk x u p M=>VT.tr TT (λ_ _ _ _=>trivial) (h9 k x u p M));have hyv:∀(k:Nat) (a:At) (u:Value),a5[k]?=some a->ys[k]?=some u->VA w' b2 E' a u:=λk a u A M=>by have h:=e6 k a u A M;rcases hG.get k a A with⟨_,_,rfl,_⟩|⟨_,rfl,_⟩|⟨r,R1,rfl,b6,J,_⟩;{exact h};{exact h};{obtain⟨R0,f3,ht,_⟩:=zkG b6;refine⟨h.1,λR I=>?_⟩;rw[f3]at I;cases I;have:=h.2 R1 b6;simpa [zbf] using this}
       have hzz:zi4 f=true->¬ S0 w.heap.size:=λh h'=>by rcases h' with h'|⟨j,T,_,hk⟩|⟨h',_⟩;{omega};{have:=(a7 j _ T hk).1;omega};{rw [h]at h';cases h'}
       obtain⟨_,S,e',a8,e1,f4⟩:=hM.loc l cells hcells;rw[e7]at a8;have d3:∀x,(S0 x\/w.heap.size<=x)->x≠blk->((∃i,i<d.length/\zbh own i/\K i x)\/w.heap.size<=x):=by intro x h X;rcases h with (h|h|h)|h;{exact absurd h X};{exact .inl h};{exact .inr (by omega)};{exact .inr h}
       have d8:∀r R x,b2.root r=some R->E'.φ r x->x≠blk:=by intro r R x I p he;subst he;rw[<- e7]at p;exact hM.lro l cells r R hcells I p
       have d5:∀i,i<(zF ans).length->∃a,a5[i]?=some a:=λi hi=>⟨_,qB (by rw[<- hG.len];exact hi)⟩
       let K':Nat->zbb:=λj x=>zbh own j/\cφ E' cells j x
       have b4:∀j x,K' j x->∃r R,cells[j]?=some (.sl r [])/\zbh own j/\b2.root r=some R/\R.own=true/\r∈ks/\E'.φ r x:=by intro j x p;obtain⟨U,p⟩:=p;obtain⟨a,A,p⟩:=zvo p;rcases hB.get j a A with⟨_,_,rfl,_⟩|⟨_,rfl,_⟩|⟨r,R,rfl,g,q,G⟩;{exact p.elim};{exact p.elim};{rcases G with⟨_,Y,h5⟩|⟨Y,_⟩;{exact⟨r,R,A,U,g,Y,h5,p⟩};{exact absurd U Y}}
       have b5:∀i x,cφ E' a5 i x->∃a r R,a5[i]?=some a/\a = .sl r []/\b2.root r=some R/\R.ep=none/\r∈kr/\aφ E' a x/\E'.φ r x:=by intro i x p;obtain⟨a,A,p⟩:=zvo p;obtain⟨r,hr,rfl,h0⟩:=hG.fi A p;obtain⟨R1,b6,g6⟩:=hG.own r hr;obtain⟨R,I,_,c8⟩:=zkG b6;refine⟨_,r,R,A,rfl,I,?_,hr,p,h0⟩;rcases c8 with rfl|⟨_,_,he,_⟩;{exact(hM.mine r _ I g6).1};{exact he}
       refine⟨hM.os,hM.tape,hM.output,hM.size,λb hb X g3=>hM.keep b hb λh=>?_,S,e',K',ys,cφ E' a5,a8,by rw[e1,hB.len],d4,λj c u L M=>?_,⟨by rw[hyl,hG.len],λi c x L p=>?_⟩,rfl,λj x T p=>?_,λi x hi p=>?_,λi j x hi T X p b1=>?_,λi j c x hi U T X p b1=>?_,λi j x hi T p b1=>?_⟩
       .rcases h with h|⟨j,T,U,hk⟩|⟨_,h⟩
        .exact X h
        .exact g3 j T U hk
        .omega
       .have T:j<cells.length:=by rw[<- hB.len];exact(qA.1 L).1
        have A:=qB T;obtain⟨_,V⟩:=f4 j _ u A M;rcases hB.get j _ A with⟨k,n,g,q⟩|⟨y,g,q⟩|⟨r,R,g,q,G,Y⟩
        .rw [L]at q;cases q;rw[g]at V;exact V
        .rw [L]at q;cases q;rw[g]at V;exact V
        .rw [L]at G;cases G;rw[g]at V A;have d1:=V.2 R q;simp only[zbf,qC]at d1;refine⟨λU=>?_,λg4=>?_⟩
         .rcases Y with⟨_,h5,_⟩|⟨h5,_⟩
          .have hr:=hM.rep r R q;rw[h5,d1]at hr;exact hr.weak (λx p=>⟨U,by rw[zik A];exact p⟩)
          .exact absurd U h5
         .rcases Y with⟨h5,_⟩|⟨_,h5⟩
          .exact absurd h5 g4
          .have hjc:j<d.length:=by rw[<- d4,hB.len];exact T
           have e3:=jH (show j<B.size by omega)
           have h7:=e2 (j+1) (.v<|.at<|.sl r []) B[j] (by rw[htm,jN];exact h5) (by rw[z6T];exact e3)
           have c4:=h7.2 R q;simp only[zbf,qC]at c4;rw[e3,<- c4,d1]
       .obtain⟨a,A⟩:=d5 i (qA.1 L).1;rw[zik A];exact z0Q hM hG A L (hyv i a x A p)
       .obtain⟨r,R,_,U,g,q,G,Y⟩:=b4 j x p;have:=d8 r R x g Y;exact⟨hM.rlt r R g x Y,this,d3 x ((hM.mine r R g q).2 x Y) this⟩
       .obtain⟨a,r,R,A,_,g,_,_,G,Y⟩:=b5 i x p;have:=d8 r R x g Y;exact⟨hM.rlt r R g x Y,this,d3 x (z5N hzz hM hG A G).1 this⟩
       .obtain⟨r,R,g1,U,g,q,G,Y⟩:=b4 i x p;obtain⟨r',R',f0,g5,W,c6,a6,b3⟩:=b4 j x b1;have:=hM.own_apart g q W c6 Y b3;subst this;exact X (hB.inj i j r U g5 g1 f0)
       .obtain⟨a,r,R,A,_,g,_,_,G,Y⟩:=b5 i x p;obtain⟨b,r',R',a8,_,W,_,_,a6,b3⟩:=b5 j x b1;exact X (z0P hM hG A a8 hi U G a6)
       .obtain⟨r,R,g1,U,g,q,G,Y⟩:=b4 i x p;obtain⟨b,r',R',a8,_,W,f5,g8,a6,b3⟩:=b5 j x b1
        by_cases e:r=r'
        .subst e;exact f8 r g8 G
        .exact hM.apart r R r' R' g q W f5 e x Y b3
      .cases F
     .cases F
    .cases F
   .cases F)
 refine b7.mono ?_;intro ex w' he;cases ex with|returned v=>exact he|panicked e9=>exact he.elim|outgrown=>exact he.elim
end
def z14 (C:Cfg)(tms:FuncId->Nat->Option Tmpl)(N D:Nat)(f:FuncId)(own:List Bool)(a:LA):Option Ans :=
 zwO C tms N (zs5 C tms N D) f ((zc6 a 0).map .v) {tm:=[],lo:=[],ro:=zfl own (a.flatMap AV.cvs) 0,stk:=[],nid:=(a.flatMap AV.cvs).length,ep:=0} λb c=>zr8 c b []
def zFP (C:Cfg)(tms:FuncId->Nat->Option Tmpl)(N D:Nat)(f:FuncId)(own:List Bool)(e g:Nat)(b:List (List Nat))(t:Ty)(a:LA):Option Ans :=
 zwO C tms N (zs5 C tms N D) f ((zc6 a 0).map .v) {tm:=[.v<|.at<|.kp e b t],lo:=[],ro:=zfl own (a.flatMap AV.cvs) 0,stk:=[],nid:=(a.flatMap AV.cvs).length,ep:=0} λc d=>
  match d.tm,(c.flatMap zW)[g]? with
  |[.v<|.at<|.kp n J h],some (.sl m [])=>cond (Nat.beq n m&&(J==b&&decide (h=t))) (zr8 d c []) none
  |_,_=>none
section
variable {C:Cfg} {w0 w w1:World} {S0:zbb} {U:Nat->Prop} {st st1:St} {E E1:Env} {ts:Array Value} {sv:List (Array Value)}
def zO3 (hO:EngOk C){f:FuncId}{own:List Bool}{b2:LW}(hf:FnOk C.P f)(a6:zjf f=[[]])(h:∀(d:LA) (G:LA),own.length=(zF d).length->(∃(w:World) (J:Nat->Value) (K:Nat->zbb),∀(j:Nat) (c:CV),(zF d)[j]?=some c->Rep false w (J j) c (K j))->b2 d=some (true,G)->∃tms N D,z14 C tms N D f own d=some G)(A:own.isEmpty=false:=by rfl):zeU C.P f own none b2:=by
 refine zeU.of (by rintro rfl;cases A) ?_;intro al a5;rw[a6,qF]at a5;subst a5;refine⟨hf,λw K d J G b1 c5 I a4 a3 _ b0=>?_⟩;have b8:=λi j x hi hj U A=>a3 i j x hi hj U A (by simp)
 obtain⟨tms,N,D,a2⟩:=h d G c5 ⟨w,λj=>(J[j]?).getD undef,K,λj c hc=>by
  have c3:=(qA.1 hc).1;have Z:=qB (show j<J.length by rw[b1];exact c3)
  simp only[Z,jZ];exact(I j c _ hc Z).ro⟩ b0
 unfold z14 at a2;generalize y:({tm:=[],lo:=[],ro:=zfl own (d.flatMap AV.cvs) 0,stk:=[],nid:=(d.flatMap AV.cvs).length,ep:=0}:St)=st at a2;have a9:st.ro=zfl own (zF d) 0:=(by rw[<- y];rfl);have g:∀r R,zy st.ro r=some R->R.ep=none/\r<(zF d).length/\own[r]?=some R.own/\(zF d)[r]?=some (.s R.t R.l):=(by intro r R z;rw[a9]at z;obtain⟨_,t,l,B,_,_,h5,h6⟩:=zl3 own (zF d) 0 r R z;rw[h6]at h5 ⊢;simp only[vG]at B h5;exact⟨rfl,(qA.1 B).1,h5,B⟩);have T:∀l,zy st.lo l=none:=λl=>(by rw[<- y];rfl);let E:Env:={ρ:=λn=>(J[n]?).getD undef,φ:=K,β:=λ_=>0,κ:=w}
 let S0:zbb:=λb=>(∃j,j<(zF d).length/\zbh own j/\K j b)\/b=w.heap.size
 have hS:Sim w S0 (λn=>n<(zF d).length) st E #[] [] w:=by refine⟨⟨rfl,rfl,rfl,qZ _,λ_ _ _=>rfl,λr R z=>?_,λr R z x q=>?_,λr R z U=>?_,λhz _ _ _ _ _ _=>absurd (.inr rfl) hz,λr R r' R' z U b9 _ A x q=>?_,λl cs Y=>?_,λl l' cs d5 Y=>?_,λl cs r R Y=>?_,λr R e z X=>?_,rfl⟩,⟨λn R L=>?_,λn cs L=>?_,λm F=>?_,λf hf=>?_⟩,⟨?_,λi m v F=>?_⟩,?_⟩;{obtain⟨_,H,B,h3⟩:=g r R (zbG z).1;have Z:=qB (show r<J.length by omega);show Rep R.own w ((J[r]?).getD undef) _ (K r);have:=I r _ _ h3 Z;rw[B] at this;rw[Z];exact this};{obtain⟨_,H,_,_⟩:=g r R (zbG z).1;exact a4 r x H q};{obtain⟨X,H,B,_⟩:=g r R (zbG z).1;refine⟨X,λx q=>.inl (.inl ⟨r,H,?_,q⟩)⟩;show own[r]?=some true;rw[B,U]};{obtain⟨_,H,B,_⟩:=g r R (zbG z).1;obtain⟨_,a0,_,_⟩:=g r' R' (zbG b9).1;exact b8 r r' x H a0 (by show own[r]?=some true;rw[B,U]) A q};{rw [T]at Y;cases Y};{rw [T]at Y;cases Y};{rw [T]at Y;cases Y};{rw [(g r R z).1]at X;cases X};{exact(g n R L).2.1};{rw [T]at L;cases L};{rw [<- y]at F;simp at F};{rw [<- y]at hf;simp at hf};{rw [<- y];rfl};{rw [<- y]at F;simp at F};{rw [<- y];trivial}
 obtain⟨c1,c2⟩:=zhF (w:=w) (st:=st) (E:=E) d J 0 b1 (λi c u hc Z=>by
  have V:=I i c u hc Z;refine⟨?_,V.one⟩;cases c with
  |i k n=>exact V.int_inv
  |b x=>exact V.bool_inv
  |s t l=>
   obtain⟨⟨a,b3,hv,_⟩,_⟩:=V.len;refine⟨⟨a,_,b3,hv⟩,λR z=>?_⟩;have e:0+i=i:=by omega
   show some ((J[0+i]?).getD undef)=some u
   rw[e,Z];rfl)
 have d4:st.nid=(zF d).length:=by rw[<- y];rfl
 obtain⟨_,S⟩:=zlz hO (zj1 hO (tms:=tms) (N:=N) D) f _ st _ G a2 w S0 _ E #[] [] w (zb1 d J).toArray
  (λv M=>M.os=w.os/\M.tape=w.tape/\M.output=w.output/\w.heap.size<=M.heap.size/\
   (∀b,b<w.heap.size->(∀j,j<(zF d).length->zbh own j->¬ K j b)->M.heap[b]?=w.heap[b]?)/\
   ∃(ys:List Value) (Kr:Nat->zbb),zdR true M (zF G) ys Kr/\v=zkV (zb1 G ys)/\
    (∀i x,i<(zF G).length->Kr i x->x<M.heap.size/\((∃j,j<(zF d).length/\zbh own j/\K j x)\/w.heap.size<=x))/\
    (∀i j x,i<(zF G).length->j<(zF G).length->i≠j->Kr i x->¬ Kr j x)/\
    (∀ja jr js,(none:Option (Nat×Nat×List (List Nat)))=some (ja,jr,js)->∀t l u,(zF d)[ja]?=some (.s t l)->J[ja]?=some u->∃l',(zF G)[jr]?=some (.s t l')/\ys[jr]?=some u/\
     ∀p v,zbf w t u p=some v->js.any (λc=>c.isPrefixOf (cols p))=false->zbf M t u p=some v)) hS (λn L h=>by omega)
  (by simp[c1]) (λi m v F hv=>by
   rw[qP]at F;cases q:(zc6 d 0)[i]? with
   |none=>rw[q]at F;cases F
   |some x=>rw[q]at F;cases F;exact c2 i x v q (by simpa using hv))
  (λm F n L=>by
   obtain⟨x,q,rfl⟩:=jD.1 F;simp only[MV.ids,zbM,qN]at L;obtain⟨a,W,L⟩:=L;have:=(zfR d 0 n x a q W L).2;omega)
  (λU' d2 E' M d3 v c0 _ _ _ hv _ a7=>by
   obtain⟨us,rfl,c7,c8⟩:=zAc hv;obtain⟨O,ys,ks,hG,d0,d1,rfl,_⟩:=zjz d3 [] G us a7 c7 c8;have Q:=c0.mem;have a8:∀i,i<(zF G).length->∃a,O[i]?=some a:=λi hi=>⟨_,qB (by rw[<- hG.len];exact hi)⟩
   have a1:∀i x,cφ E' O i x->∃r∈ks,∃R,O[i]?=some (.sl r [])/\d2.root r=some R/\R.own=true/\E'.φ r x:=by intro i x q;obtain⟨a,W,q⟩:=zvo q;obtain⟨r,V,rfl,c6⟩:=hG.fi W q;obtain⟨R,z,U⟩:=hG.own r V;exact⟨r,V,R,W,z,U,c6⟩
   refine⟨Q.os,Q.tape,Q.output,Q.size,λb hb c4=>Q.keep b hb λh=>h.elim (λ⟨j,hj,U,hk⟩=>c4 j hj U hk) (λh=>by omega),ys,cφ E' O,⟨by rw[d0,hG.len],λi c x hc q=>?_⟩,rfl,λi x hi q=>?_,λi j x hi hj A q c9=>?_,λja jr js h=>by cases h⟩
   .obtain⟨a,W⟩:=a8 i (qA.1 hc).1;rw[zik W];exact hG.rep Q W hc (d1 i a x W q)
   .obtain⟨r,V,R,_,H,B,h4⟩:=a1 i x q;exact⟨Q.rlt r R H x h4,((Q.mine r R H B).2 x h4).elim (λh=>h.imp (λh=>h) λh=>kX h.symm) .inr⟩
   .obtain⟨r,V,R,g1,H,B,h4⟩:=a1 i x q;obtain⟨r',d6,R',b5,a0,b6,b7⟩:=a1 j x c9;have:=Q.own_apart H B a0 b6 h4 b7;subst this;exact A (hG.inj i j r g1 b5))
 refine S.mono ?_;intro ex M X;cases ex with|returned v=>exact X|panicked b4=>exact X.elim|outgrown=>exact X.elim
def zm2 (hO:EngOk C){f:FuncId}{own:List Bool}{G jr:Nat}{js:List (List Nat)}{kt:Ty}{c7:LW}(hf:FnOk C.P f)(b6:zjf f=[[]])(h:∀(d:LA) (O:LA),own.length=(zF d).length->(∃(w:World) (A:Nat->Value) (K:Nat->zbb),∀(j:Nat) (c:CV),(zF d)[j]?=some c->Rep false w (A j) c (K j))->c7 d=some (true,O)->(∃l,(zF d)[G]?=some (.s kt l))/\own[G]?=some true/\∃tms N D,zFP C tms N D f own G jr js kt d=some O)(H:own.isEmpty=false:=by rfl):zeU C.P f own (some (G,jr,js)) c7:=by
 refine zeU.of (by rintro rfl;cases H) ?_;intro al b5;rw[b6,qF]at b5;subst b5;refine⟨hf,λw K d A O b0 e5 I b3 b2 _ c2=>?_⟩;have d2:=λi j x hi hj ho H=>b2 i j x hi hj ho H (by simp)
 obtain⟨⟨kl,a1⟩,f8,tms,N,D,a8⟩:=h d O e5 ⟨w,λj=>(A[j]?).getD undef,K,λj c hc=>by
  have d8:=(qA.1 hc).1;have hu:=qB (show j<A.length by rw[b0];exact d8)
  simp only[hu,jZ];exact(I j c _ hc hu).ro⟩ c2
 unfold zFP at a8;have c0:G<(zF d).length:=(qA.1 a1).1;have d5:G<A.length:=(by rw[b0];exact c0);have a9:=qB d5;generalize B:({tm:=[.v<|.at<|.kp G js kt],lo:=[],ro:=zfl own (d.flatMap AV.cvs) 0,stk:=[],nid:=(d.flatMap AV.cvs).length,ep:=0}:St)=st at a8;have c1:st.ro=zfl own (zF d) 0:=(by rw[<- B];rfl);have g:∀r R,zy st.ro r=some R->R.ep=none/\r<(zF d).length/\own[r]?=some R.own/\(zF d)[r]?=some (.s R.t R.l):=(by intro r R z;rw[c1]at z;obtain⟨_,t,l,L,_,_,h5,h6⟩:=zl3 own (zF d) 0 r R z;rw[h6]at h5 ⊢;simp only[vG]at L h5;exact⟨rfl,(qA.1 L).1,h5,L⟩);have a2:∀l,zy st.lo l=none:=λl=>(by rw[<- B];rfl);let E:Env:={ρ:=λn=>(A[n]?).getD undef,φ:=K,β:=λ_=>0,κ:=w}
 let S0:zbb:=λb=>(∃j,j<(zF d).length/\zbh own j/\K j b)\/b=w.heap.size
 have hS:Sim w S0 (λn=>n<(zF d).length) st E #[A[G]] [] w:=by refine⟨⟨rfl,rfl,rfl,qZ _,λ_ _ _=>rfl,λr R z=>?_,λr R z x y=>?_,λr R z ho=>?_,λhz _ _ _ _ _ _=>absurd (.inr rfl) hz,λr R r' R' z ho d3 _ H x y=>?_,λl cs hl=>?_,λl l' cs f7 hl=>?_,λl cs r R hl=>?_,λr R e z W=>?_,rfl⟩,⟨λn R M=>?_,λn cs M=>?_,λm F=>?_,λf hf=>?_⟩,⟨?_,λi m v F X=>?_⟩,?_⟩;{obtain⟨_,T,L,h3⟩:=g r R (zbG z).1;have hu:=qB (show r<A.length by omega);show Rep R.own w ((A[r]?).getD undef) _ (K r);have:=I r _ _ h3 hu;rw[L] at this;rw[hu];exact this};{obtain⟨_,T,_,_⟩:=g r R (zbG z).1;exact b3 r x T y};{obtain⟨W,T,L,_⟩:=g r R (zbG z).1;refine⟨W,λx y=>.inl (.inl ⟨r,T,?_,y⟩)⟩;show own[r]?=some true;rw[L,ho]};{obtain⟨_,T,L,_⟩:=g r R (zbG z).1;obtain⟨_,a6,_,_⟩:=g r' R' (zbG d3).1;exact d2 r r' x T a6 (by show own[r]?=some true;rw[L,ho]) H y};{rw [a2]at hl;cases hl};{rw [a2]at hl;cases hl};{rw [a2]at hl;cases hl};{rw [(g r R z).1]at W;cases W};{exact(g n R M).2.1};{rw [a2]at M;cases M};{rw [<- B]at F;simp only[qF]at F;subst F;intro n M;simp only[MV.ids,zbM,zW,j8,uE,At.ids,zbw,zbC,jC,qF]at M;subst M;exact c0};{rw [<- B]at hf;simp at hf};{rw [<- B];rfl};{rw [<- B]at F;cases i with|succ i=>simp at F|zero=>simp only[qH,qC]at F X;subst F;have X:A[G]=v:=(by simpa using X);subst X;have U:=I G _ _ a1 a9;obtain⟨⟨a,a5,f2,_⟩,_⟩:=U.len;refine⟨⟨a,_,a5,f2⟩,λR z=>?_⟩;obtain⟨_,_,_,h4⟩:=g G R (zbG z).1;rw[a1]at h4;cases h4;refine⟨rfl,?_,λp u hp _=>hp⟩;show (A[G]?).getD undef=A[G];rw[a9];rfl};{rw [<- B];trivial}
 obtain⟨d6,d7⟩:=zhF (w:=w) (st:=st) (E:=E) d A 0 b0 (λi c u hc hu=>by
  have U:=I i c u hc hu;refine⟨?_,U.one⟩;cases c with
  |i k n=>exact U.int_inv
  |b x=>exact U.bool_inv
  |s t l=>
   obtain⟨⟨a,a5,X,_⟩,_⟩:=U.len;refine⟨⟨a,_,a5,X⟩,λR z=>?_⟩;have e:0+i=i:=by omega
   show some ((A[0+i]?).getD undef)=some u
   rw[e,hu];rfl)
 have f6:st.nid=(zF d).length:=by rw[<- B];rfl
 obtain⟨_,Z⟩:=zlz hO (zj1 hO (tms:=tms) (N:=N) D) f _ st _ O a8 w S0 _ E #[A[G]] [] w (zb1 d A).toArray
  (λv Y=>Y.os=w.os/\Y.tape=w.tape/\Y.output=w.output/\w.heap.size<=Y.heap.size/\
   (∀b,b<w.heap.size->(∀j,j<(zF d).length->zbh own j->¬ K j b)->Y.heap[b]?=w.heap[b]?)/\
   ∃(ys:List Value) (Kr:Nat->zbb),zdR true Y (zF O) ys Kr/\v=zkV (zb1 O ys)/\
    (∀i x,i<(zF O).length->Kr i x->x<Y.heap.size/\((∃j,j<(zF d).length/\zbh own j/\K j x)\/w.heap.size<=x))/\
    (∀i j x,i<(zF O).length->j<(zF O).length->i≠j->Kr i x->¬ Kr j x)/\
    (∀a3 a4 b1,some (G,jr,js)=some (a3,a4,b1)->∀t l u,(zF d)[a3]?=some (.s t l)->A[a3]?=some u->∃l',(zF O)[a4]?=some (.s t l')/\ys[a4]?=some u/\
     ∀p v,zbf w t u p=some v->b1.any (λc=>c.isPrefixOf (cols p))=false->zbf Y t u p=some v)) hS (λn M h=>by omega)
  (by simp[d6]) (λi m v F X=>by
   rw[qP]at F;cases y:(zc6 d 0)[i]? with
   |none=>rw[y]at F;cases F
   |some x=>rw[y]at F;cases F;exact d7 i x v y (by simpa using X))
  (λm F n M=>by
   obtain⟨x,y,rfl⟩:=jD.1 F;simp only[MV.ids,zbM,qN]at M;obtain⟨a,Q,M⟩:=M;have:=(zfR d 0 n x a y Q M).2;omega)
  (λU' f4 E' Y f5 v b4 _ _ _ X _ q=>by
   obtain⟨us,rfl,f0,f1⟩:=zAc X;split at q
   rotate_left
   .cases q
   rename_i n J t' m e8 e6;cases a0:(Nat.beq n m&&(J==js&&decide (t'=kt))) with
   |false=>rw[a0]at q;cases q
   |true=>
   rw[a0]at q;simp only[cond_true]at q;simp only[qE,kO,qL,q0]at a0;obtain⟨e0,hJ,ht⟩:=a0;subst e0 hJ ht;obtain⟨S,ys,ks,hG,c4,c6,rfl,_,b7⟩:=zjz f5 [] O us q f0 f1;have V:=b4.mem;have b9:∀i,i<(zF O).length->∃a,S[i]?=some a:=λi hi=>⟨_,qB (by rw[<- hG.len];exact hi)⟩
   have a7:∀i x,cφ E' S i x->∃r∈ks,∃R,S[i]?=some (.sl r [])/\f4.root r=some R/\R.own=true/\E'.φ r x:=by intro i x y;obtain⟨a,Q,y⟩:=zvo y;obtain⟨r,U,rfl,e7⟩:=hG.fi Q y;obtain⟨R,z,ho⟩:=hG.own r U;exact⟨r,U,R,Q,z,ho,e7⟩
   refine⟨V.os,V.tape,V.output,V.size,λb hb d9=>V.keep b hb λh=>h.elim (λ⟨j,hj,ho,hk⟩=>d9 j hj ho hk) (λh=>by omega),ys,cφ E' S,⟨by rw[c4,hG.len],λi c x hc y=>?_⟩,rfl,λi x hi y=>?_,λi j x hi hj H y f3=>?_,λa3 a4 b1 W t l u b8 c3=>?_⟩
   .obtain⟨a,Q⟩:=b9 i (qA.1 hc).1;rw[zik Q];exact hG.rep V Q hc (c6 i a x Q y)
   .obtain⟨r,U,R,_,T,L,h4⟩:=a7 i x y;exact⟨V.rlt r R T x h4,((V.mine r R T L).2 x h4).elim (λh=>h.imp (λh=>h) λh=>kX h.symm) .inr⟩
   .obtain⟨r,U,R,g1,T,L,h4⟩:=a7 i x y;obtain⟨r',f9,R',c9,a6,d0,d1⟩:=a7 j x f3;have:=V.own_apart T L a6 d0 h4 d1;subst this;exact H (hG.inj i j r g1 c9)
   .cases W;rw[a1]at b8;cases b8;rw[a9]at c3;cases c3;have Q:S[jr]?=some (.sl n []):=by rw[b7];exact e6
    rcases hG.get jr _ Q with⟨_,_,h,_⟩|⟨_,h,_⟩|⟨r,R,h,z,_,d4⟩
    .cases h
    .cases h
    .cases h;have e9:=b4.tm.2 0 (.v<|.at<|.kp n J t') A[G] (by rw[e8];rfl) (by simp)
     obtain⟨e1,e2,e3⟩:=e9.2 R z;have c5:jr<ys.length:=by rw[c4];exact(qA.1 Q).1
     have hy:=qB c5;have e4:=(c6 jr _ _ Q hy).2 R z;simp only[zbf,qC] at e4;refine⟨e1 ▸ R.l,?_,by rw[hy,<- e4,e2],?_⟩
     .rw [d4];cases e1;rfl
     .rw [V.κ] at e3;exact e3)
 refine Z.mono ?_;intro ex Y W;cases ex with|returned v=>exact W|panicked c8=>exact W.elim|outgrown=>exact W.elim
def zU9 (b:List (Nat×Nat)):At->At
 |.sl r []=>match b.find? (λx=>Nat.beq x.1 r) with
  |some x=>.sl x.2 []
  |none=>.sl r []
 |a=>a
def zUM (C:Cfg)(tms:FuncId->Nat->Option Tmpl)(N D:Nat)(f:FuncId)(own:List Bool)(b:List (Nat×Nat))(e g:Nat)(c:List (List Nat))(t:Ty)(a:LA):Option Ans :=
 zwO C tms N (zs5 C tms N D) f (((zc6 a 0).map .v).map (zkR<|zU9 b)) {tm:=[.v<|.at<|.kp e c t],lo:=[],ro:=(zfl own (a.flatMap AV.cvs) 0).filter (λx=>!b.any λy=>Nat.beq y.1 x.1),stk:=[],nid:=(a.flatMap AV.cvs).length,ep:=0} λd st=>
  match st.tm,(d.flatMap zW)[g]? with
  |[.v<|.at<|.kp n J h],some (.sl m [])=>cond (Nat.beq n m&&(J==c&&decide (h=t))) (zr8 st d []) none
  |_,_=>none
def zXw (a:At):Prop:=(∃k n,a = .i k n)\/(∃b,a = .b b)\/∃r,a = .sl r []
def zuu:∀(c:LC) (id:Nat) (a:At),a∈zhG c id->zXw a
 |[],_,_,h=>by simp[zhG]at h
 |.i k n::c,id,a,h=>by simp only[zhG,qG]at h;rcases h with rfl|h;{exact .inl ⟨k,n,rfl⟩};{exact zuu c (id+1) a h}
 |.b x::c,id,a,h=>by simp only[zhG,qG]at h;rcases h with rfl|h;{exact .inr (.inl ⟨x,rfl⟩)};{exact zuu c (id+1) a h}
 |.s t l::c,id,a,h=>by simp only[zhG,qG]at h;rcases h with rfl|h;{exact .inr (.inr ⟨id,rfl⟩)};{exact zuu c (id+1) a h}
def zyd:∀(e:LA) (id:Nat) (x:TV) (a:At),x∈zc6 e id->a∈zW x->zXw a
 |[],_,_,_,h,_=>by simp[zc6]at h
 |.one c::e,id,x,a,h,d=>by simp only[zc6,qG]at h;rcases h with rfl|h;{simp only [zW,qF]at d;subst d;cases c with|i k n=>exact .inl ⟨k,n,rfl⟩|b x=>exact .inr (.inl ⟨x,rfl⟩)|s t l=>exact .inr (.inr ⟨id,rfl⟩)};{exact zyd e (id+1) x a h d}
 |.agg f::e,id,x,a,h,d=>by simp only[zc6,qG]at h;rcases h with rfl|h;{exact zuu f id a d};{exact zyd e (id+f.length) x a h d}
def zbbZ {w1:World}{st1:St}{E1:Env}{w:World}{st:St}{E:Env}{f:At->At}{P:At->Prop}(T:∀a v,P a->VA w st E a v->VA w1 st1 E1 (f a) v){x:TV}{v:Value}(g:∀a∈zW x,P a)(h:VT w st E x v):VT w1 st1 E1 (zsk f x) v:=by rcases x with a|l;{exact T a v (g a (by simp[zW])) h};{obtain⟨n,k,m,e⟩:=h;refine⟨n,k,by simp[m],λj a u c i=>?_⟩;rw[qP]at c;cases d:l[j]? with|none=>rw[d]at c;cases c|some b=>rw[d]at c;cases c;exact⟨(e j b u d i).1,T _ _ (g b (by simp only[zW];exact qK d)) (e j b u d i).2⟩}
def z6O {b:List (Nat×Nat)}{a:At}{n:Nat}(h:n∈(zU9 b a).ids):n∈a.ids\/∃r,(r,n)∈b:=by unfold zU9 at h;split at h;{split at h;{rename_i r x c;simp only[At.ids,zbw,zbC,jC,qF]at h;subst h;exact .inr ⟨x.1,uL c⟩};{exact .inl h}};{exact .inl h}
def zr7 {d:Type}(q:Nat->Bool):∀(l:List (Nat×d)) (n:Nat) (x:d),zy (l.filter λy=>q y.1) n=some x->q n=true/\zy l n=some x
 |[],_,_,h=>by simp[zy]at h
 |(k,v)::l,n,x,h=>by cases b:q k with|false=>rw[List.filter_cons_of_neg (by simp[b])]at h;obtain⟨c,e⟩:=zr7 q l n x h;refine⟨c,?_⟩;simp only[zy];(cases a:k==n with|false=>exact e|true=>have:k=n:=(by simpa using a);subst this;rw[b]at c;cases c)|true=>rw[List.filter_cons_of_pos (by simp[b])]at h;simp only[zy]at h ⊢;(cases a:k==n with|false=>rw[a]at h;exact zr7 q l n x (by simpa using h)|true=>rw[a]at h;have:k=n:=(by simpa using a);subst this;exact⟨b,by simpa using h⟩)
def zO2 (hO:EngOk C){f:FuncId}{own:List Bool}{M jr:Nat}{js:List (List Nat)}{kt:Ty}{d0:LW}(hf:FnOk C.P f)(h:∀(W:List (Nat×Nat)) (d:LA) (V:LA),W∈zjf f->(∀j i,(j,i)∈W->(zF d)[j]?=(zF d)[i]?)->own.length=(zF d).length->(∃(w:World) (B:Nat->Value) (K:Nat->zbb),∀(j:Nat) (c:CV),(zF d)[j]?=some c->Rep false w (B j) c (K j))->d0 d=some (true,V)->(∃l,(zF d)[M]?=some (.s kt l))/\own[M]?=some true/\∃tms N D,zUM C tms N D f own W M jr js kt d=some V)(Z:own.isEmpty=false:=by rfl):zeU C.P f own (some (M,jr,js)) d0:=by
 refine zeU.of (by rintro rfl;cases Z) ?_
 intro W d5;refine⟨hf,λw K d B V b2 f1 S b6 b5 Y c4=>?_⟩;obtain⟨⟨kl,a2⟩,g7,tms,N,D,b0⟩:=h W d V d5 (λj i d8=>(Y j i d8).2.2.2.1) f1 ⟨w,λj=>(B[j]?).getD undef,K,λj c hc=>by
  have e6:=(qA.1 hc).1;have hu:=qB (show j<B.length by rw[b2];exact e6)
  simp only[hu,jZ];exact(S j c _ hc hu).ro⟩ c4
 unfold zUM at b0;have c2:M<(zF d).length:=(qA.1 a2).1;have d9:M<B.length:=(by rw[b2];exact c2);have b1:=qB d9;generalize H:({tm:=[.v<|.at<|.kp M js kt],lo:=[],ro:=(zfl own (d.flatMap AV.cvs) 0).filter (λx=>!W.any λy=>Nat.beq y.1 x.1),stk:=[],nid:=(d.flatMap AV.cvs).length,ep:=0}:St)=st at b0;have a6:st.ro=(zfl own (zF d) 0).filter (λx=>!W.any λy=>Nat.beq y.1 x.1):=(by rw[<- H];rfl);have e8:∀r R,zy st.ro r=some R->∀i,(r,i)∉W:=(by intro r R z i hi;rw[a6]at z;have:=(zr7 (λn=>!W.any λy=>Nat.beq y.1 n) _ r R z).1;simp only[jE,kP] at this;exact this _ hi (Nat.beq_refl r));have g:∀r R,zy st.ro r=some R->R.ep=none/\r<(zF d).length/\own[r]?=some R.own/\(zF d)[r]?=some (.s R.t R.l):=(by intro r R z;rw[a6]at z;obtain⟨_,t,l,F,_,_,h5,h6⟩:=zl3 own (zF d) 0 r R (zr7 (λn=>!W.any λy=>Nat.beq y.1 n) _ r R z).2;rw[h6]at h5 ⊢;simp only[vG]at F h5;exact⟨rfl,(qA.1 F).1,h5,F⟩);have a3:∀l,zy st.lo l=none:=λl=>(by rw[<- H];rfl);let E:Env:={ρ:=λn=>(B[n]?).getD undef,φ:=K,β:=λ_=>0,κ:=w}
 let S0:zbb:=λb=>(∃j,j<(zF d).length/\zbh own j/\K j b)\/b=w.heap.size
 have hS:Sim w S0 (λn=>n<(zF d).length) st E #[B[M]] [] w:=(by refine⟨⟨rfl,rfl,rfl,qZ _,λ_ _ _=>rfl,λr R z=>?_,λr R z x q=>?_,λr R z ho=>?_,λhz _ _ _ _ _ _=>absurd (.inr rfl) hz,λr R r' R' z ho b7 _ Z x q=>?_,λl cs hl=>?_,λl l' cs g6 hl=>?_,λl cs r R hl=>?_,λr R e z U=>?_,rfl⟩,⟨λn R O=>?_,λn cs O=>?_,λm G=>?_,λf hf=>?_⟩,⟨?_,λi m v G L=>?_⟩,?_⟩;{obtain⟨_,T,F,h3⟩:=g r R (zbG z).1;have hu:=qB (show r<B.length by omega);show Rep R.own w ((B[r]?).getD undef) _ (K r);have:=S r _ _ h3 hu;rw[F] at this;rw[hu];exact this};{obtain⟨_,T,_,_⟩:=g r R (zbG z).1;exact b6 r x T q};{obtain⟨U,T,F,_⟩:=g r R (zbG z).1;refine⟨U,λx q=>.inl (.inl ⟨r,T,?_,q⟩)⟩;show own[r]?=some true;rw[F,ho]};{obtain⟨_,T,F,_⟩:=g r R (zbG z).1;obtain⟨_,a8,_,_⟩:=g r' R' (zbG b7).1;exact b5 r r' x T a8 (by show own[r]?=some true;rw[F,ho]) Z (e8 r' R' (zbG b7).1 r) q};{rw [a3]at hl;cases hl};{rw [a3]at hl;cases hl};{rw [a3]at hl;cases hl};{rw [(g r R z).1]at U;cases U};{exact(g n R O).2.1};{rw [a3]at O;cases O};{rw [<- H]at G;simp only[qF]at G;subst G;intro n O;simp only[MV.ids,zbM,zW,j8,uE,At.ids,zbw,zbC,jC,qF]at O;subst O;exact c2};{rw [<- H]at hf;simp at hf};{rw [<- H];rfl};{rw [<- H]at G;cases i with|succ i=>simp at G|zero=>simp only[qH,qC]at G L;subst G;have L:B[M]=v:=(by simpa using L);subst L;have Q:=S M _ _ a2 b1;obtain⟨⟨a,a7,f9,_⟩,_⟩:=Q.len;refine⟨⟨a,_,a7,f9⟩,λR z=>?_⟩;obtain⟨_,_,_,h4⟩:=g M R (zbG z).1;rw[a2]at h4;cases h4;refine⟨rfl,?_,λp u hp _=>hp⟩;show (B[M]?).getD undef=B[M];rw[b1];rfl};{rw [<- H];trivial});let b4:St:={st with ro:=(List.range (zF d).length).map (λr=>(r,(⟨.int,[],false,none⟩:Root))),ep:=0}
 have c5:∀r,r<(zF d).length->b4.root r=some ⟨.int,[],false,none⟩:=by intro r Q;have:∀(n k:Nat),k<=r->r<k+n->zy ((List.range' k n).map λr=>(r,(⟨.int,[],false,none⟩:Root))) r=some ⟨.int,[],false,none⟩:=(by intro n;induction n with|zero=>intro k T F;omega|succ n ih=>intro k T F;simp only[vE,jB,zy];by_cases U:k=r;{subst U;simp};{have hb:(k==r)=false:=(by simpa using U);simp only[hb,kD,if_false];exact ih (k+1) (by omega) (by omega)});have F:=this (zF d).length 0 (jW _) (by omega);rw[<- List.range_eq_range']at F;exact ziq F (.inl rfl)
 obtain⟨e0,e5⟩:=zhF (w:=w) (st:=b4) (E:=E) d B 0 b2 (λi c u hc hu=>by
  have Q:=S i c u hc hu;refine⟨?_,Q.one⟩;cases c with
  |i k n=>exact Q.int_inv
  |b x=>exact Q.bool_inv
  |s t l=>
   obtain⟨⟨a,a7,L,_⟩,_⟩:=Q.len;refine⟨⟨a,_,a7,L⟩,λR z=>?_⟩;have e:0+i=i:=by omega
   show some ((B[0+i]?).getD undef)=some u
   rw[e,hu];rfl)
 have hT:∀a v,(zXw a/\∀n∈a.ids,n<(zF d).length)->VA w b4 E a v->VA w st E (zU9 W a) v:=(by intro a v ⟨f2,d7⟩ L;have c3:∀r,∀i,(r,i)∈W->E.ρ i=E.ρ r:=(by intro r i hi;show (B[i]?).getD undef=(B[r]?).getD undef;rw[(Y r i hi).2.2.1]);rcases f2 with⟨k,n,rfl⟩|⟨b,rfl⟩|⟨r,rfl⟩;{exact L};{exact L};{have Q:r<(zF d).length:=d7 r (by simp[At.ids,zbw]);have e1:=L.2 _ (c5 r Q);simp only[zbf,qC] at e1;simp only[zU9];split;{rename_i x q;have G:=uL q;have g2:x.1=r:=kK (by simpa using List.find?_some q);subst g2;refine⟨L.1,λR _=>?_⟩;simp only[zbf,qC];rw[c3 x.1 x.2 G];exact e1};{refine⟨L.1,λR _=>?_⟩;simp only[zbf,qC];exact e1}});have g5:st.nid=(zF d).length:=by rw[<- H];rfl
 obtain⟨_,a0⟩:=zlz hO (zj1 hO (tms:=tms) (N:=N) D) f _ st _ V b0 w S0 _ E #[B[M]] [] w (zb1 d B).toArray
  (λv w'=>w'.os=w.os/\w'.tape=w.tape/\w'.output=w.output/\w.heap.size<=w'.heap.size/\
   (∀b,b<w.heap.size->(∀j,j<(zF d).length->zbh own j->¬ K j b)->w'.heap[b]?=w.heap[b]?)/\
   ∃(ys:List Value) (Kr:Nat->zbb),zdR true w' (zF V) ys Kr/\v=zkV (zb1 V ys)/\
    (∀i x,i<(zF V).length->Kr i x->x<w'.heap.size/\((∃j,j<(zF d).length/\zbh own j/\K j x)\/w.heap.size<=x))/\
    (∀i j x,i<(zF V).length->j<(zF V).length->i≠j->Kr i x->¬ Kr j x)/\
    (∀a4 a5 b3,some (M,jr,js)=some (a4,a5,b3)->∀t l u,(zF d)[a4]?=some (.s t l)->B[a4]?=some u->∃l',(zF V)[a5]?=some (.s t l')/\ys[a5]?=some u/\
     ∀p v,zbf w t u p=some v->b3.any (λc=>c.isPrefixOf (cols p))=false->zbf w' t u p=some v)) hS (λn O h=>by omega)
  (by simp[e0]) (λi m v G L=>by
   rw[qP,qP]at G;cases q:(zc6 d 0)[i]? with
   |none=>rw[q]at G;cases G
   |some x=>
    rw[q]at G;cases G;exact zbbZ hT (λa I=>⟨zyd d 0 x a (qK q) I,λn O=>by
     have:=(zfR d 0 n x a (qK q) I O).2;omega⟩) (e5 i x v q (by simpa using L)))
  (λm G n O=>by
   obtain⟨m0,e7,rfl⟩:=jD.1 G;obtain⟨x,q,rfl⟩:=jD.1 e7;obtain⟨a,I,O⟩:=zSA O;simp only[zbM]at I;rcases z6O O with h|⟨r,h⟩
   .have:=(zfR d 0 n x a q I h).2;omega
   .obtain⟨_,_,_,_,t,l,h5⟩:=Y r n h;exact(qA.1 h5).1)
  (λU' g3 E' w' g4 v b8 _ _ _ L _ A=>by
   obtain⟨us,rfl,f7,f8⟩:=zAc L;split at A
   rotate_left
   .cases A
   rename_i n J t' m f5 f3;cases a1:(Nat.beq n m&&(J==js&&decide (t'=kt))) with
   |false=>rw[a1]at A;cases A
   |true=>
   rw[a1]at A;simp only[cond_true]at A;simp only[qE,kO,qL,q0]at a1;obtain⟨f0,hJ,ht⟩:=a1;subst f0 hJ ht;obtain⟨X,ys,ks,hG,c7,c9,rfl,_,b9⟩:=zjz g4 [] V us A f7 f8;have hM:=b8.mem;have c1:∀i,i<(zF V).length->∃a,X[i]?=some a:=λi hi=>⟨_,qB (by rw[<- hG.len];exact hi)⟩
   have a9:∀i x,cφ E' X i x->∃r∈ks,∃R,X[i]?=some (.sl r [])/\g3.root r=some R/\R.own=true/\E'.φ r x:=by intro i x q;obtain⟨a,I,q⟩:=zvo q;obtain⟨r,Q,rfl,f4⟩:=hG.fi I q;obtain⟨R,z,ho⟩:=hG.own r Q;exact⟨r,Q,R,I,z,ho,f4⟩
   refine⟨hM.os,hM.tape,hM.output,hM.size,λb hb e9=>hM.keep b hb λh=>h.elim (λ⟨j,hj,ho,hk⟩=>e9 j hj ho hk) (λh=>by omega),ys,cφ E' X,⟨by rw[c7,hG.len],λi c x hc q=>?_⟩,rfl,λi x hi q=>?_,λi j x hi hj Z q g0=>?_,λa4 a5 b3 U t l u c0 c6=>?_⟩
   .obtain⟨a,I⟩:=c1 i (qA.1 hc).1;rw[zik I];exact hG.rep hM I hc (c9 i a x I q)
   .obtain⟨r,Q,R,_,T,F,h4⟩:=a9 i x q;exact⟨hM.rlt r R T x h4,((hM.mine r R T F).2 x h4).elim (λh=>h.imp (λh=>h) λh=>kX h.symm) .inr⟩
   .obtain⟨r,Q,R,g1,T,F,h4⟩:=a9 i x q;obtain⟨r',g8,R',d2,a8,d3,d4⟩:=a9 j x g0;have:=hM.own_apart T F a8 d3 h4 d4;subst this;exact Z (hG.inj i j r g1 d2)
   .cases U;rw[a2]at c0;cases c0;rw[b1]at c6;cases c6;have I:X[jr]?=some (.sl n []):=by rw[b9];exact f3
    rcases hG.get jr _ I with⟨_,_,h,_⟩|⟨_,h,_⟩|⟨r,R,h,z,_,d6⟩
    .cases h
    .cases h
    .cases h;have f6:=b8.tm.2 0 (.v<|.at<|.kp n J t') B[M] (by rw[f5];rfl) (by simp)
     obtain⟨e1,e2,e3⟩:=f6.2 R z;have c8:jr<ys.length:=by rw[c7];exact(qA.1 I).1
     have hy:=qB c8;have e4:=(c9 jr _ _ I hy).2 R z;simp only[zbf,qC] at e4;refine⟨e1 ▸ R.l,?_,by rw[hy,<- e4,e2],?_⟩
     .rw [d6];cases e1;rfl
     .rw [hM.κ] at e3;exact e3)
 refine a0.mono ?_;intro ex w' U;cases ex with|returned v=>exact U|panicked d1=>exact U.elim|outgrown=>exact U.elim
end
def zbn (h:Host):LC:=[.s (.sl .int) h.Memory,.s .mon h.Mons,.s .entry h.Buffer,.s .entry h.IoBuffer]
def znF (c:Ctl):LC:=[.i .i64 c.Traps,.i .i64 c.Post,.b c.Open]
def zgI (e:GExit):LC:=[.i .i64 e.Kind,.i .i64 e.Page,.b e.Write,.i .i64 e.N]
structure Cur where
 b:List Int
 i:Int
 h:Int
def zb4 (c:Cur):LC:=[.s .u8 c.b,.i .i64 c.i,.i .i64 c.h]
def zq:List (Nat×Nat×Tmpl)->FuncId->Nat->Option Tmpl
 |[],_,_=>none
 |(g,c,T)::r,f,b=>cond (Nat.beq g f) (cond (Nat.beq c b) (some T)<|zq r f b) (zq r f b)
def pc (p:Prop):Bool:=@decide p (Classical.propDecidable p)
def zO {p:Prop}:pc p=true↔p:=by unfold pc;exact @decide_eq_true_iff p (Classical.propDecidable p)
def zbd {p:Prop}(h:p):pc p=true:=zO.2 h
inductive CVB (K:Nat):CV->Prop
 |i (k:IntKind) (n:Int):CVB K (.i k n)
 |b (x:Bool):CVB K (.b x)
 |s (t:Ty) (l:List t.den) (hl:l.length<=K) (h:∀x∈l,∀c∈t.cells x,CVB K c):CVB K (.s t l)
def CVB.inv {K:Nat}{t:Ty}{l:List t.den}(h:CVB K (.s t l)):l.length<=K/\∀x∈l,∀c∈t.cells x,CVB K c:=by cases h with|s _ _ a h=>exact⟨a,h⟩
def CVB.len {K:Nat}{t:Ty}{l:List t.den}(h:CVB K (.s t l)):l.length<=K:=h.inv.1
def CVB.mono {K L:Nat}(a:K<=L){c:CV}(h:CVB K c):CVB L c:=by induction h with|i k n=>exact .i k n|b x=>exact .b x|s t l d h e=>exact .s t l (qU d a) e
def CVB.of_rep {o:Bool}{w:World}{v:Value}{c:CV}{S:zbb}(h:Rep o w v c S):CVB big c:=by
 induction h with
 |i k n S=>exact .i k n
 |b x S=>exact .b x
 |nil t S=>exact .s t [] (jW _) (λx h=>by cases h)
 |void t a S I=>exact .s t [] (jW _) (λx h=>by cases h)
 |sl t l b D r q e E V K S G u d g A F p m J H C=>refine .s t l d (λx B c f=>?_);obtain⟨i,y⟩:=qT.1 B;obtain⟨j,z⟩:=qT.1 f;exact C i x y j c z
def CVB.of_ok {c:CV}(h:CVOk c):CVB big c:=by induction h with|i k n _=>exact .i k n|b x=>exact .b x|s t l f h m=>refine .s t l f (λx g c a=>?_);obtain⟨i,d⟩:=qT.1 g;obtain⟨j,e⟩:=qT.1 a;exact m i x d j c e
def zbL (K:Nat)(a:LA):Prop:=∀c∈zF a,CVB K c
def zcK {K:Nat}{a:AV}{b:LA}(h:zbL K (a::b)):(∀c∈a.cvs,CVB K c)/\zbL K b:=by unfold zbL zF at *;simp only[j8,jJ]at h;exact⟨λc d=>h c (.inl d),λc d=>h c (.inr d)⟩
def zYO {a:LA}(h:∃w e,zdR false w (zF a) e λ_ b=>b<w.heap.size):zbL big a:=by obtain⟨w,e,g,j⟩:=h;intro c k;obtain⟨i,f⟩:=qT.1 k;have d:i<e.length:=(by rw[g];exact(qA.1 f).1);exact CVB.of_rep (j i c _ f<|qB d)
def zl2 {b:LC}{a:LA}(h:∃(w:World) (f:Nat->Value) (K:Nat->zbb),∀(j:Nat) (c:CV),(b++zF a)[j]?=some c->Rep false w (f j) c (K j)):zbL big (.agg b::a):=by obtain⟨w,f,K,h⟩:=h;intro c d;have e:zF (AV.agg b::a)=b++zF a:=(by simp[zF,AV.cvs]);rw[e]at d;obtain⟨j,g⟩:=qT.1 d;exact CVB.of_rep (h j c g)
def zoj {b c:Bool}{x y:LC}{z u:LA}(h:some (b,x,z)=some (c,y,u)):b=c/\y=x/\u=z:=by cases h;exact⟨rfl,rfl,rfl⟩
def zeF {b c:Bool}{x y:LA}(h:some (b,x)=some (c,y)):b=c/\y=x:=by cases h;exact⟨rfl,rfl⟩
abbrev zY:=List (Nat×(LW))
def zx8:zY:=[]
def zdv:∀f a,zy zx8 f=some a->Holds Tryz.prog f a:=λf a h=>by cases h
abbrev zS (l:zY):Prop:=∀f a,zy l f=some a->Holds Tryz.prog f a
abbrev vM:=Holds Tryz.prog
def zh {l:zY}{f:Nat}{a:LW}(h:vM f a)(b:zS l):zS ((f,a)::l):=by intro g r hg;unfold zy at hg;split at hg;{rename_i e;cases hg;rw[<- qL.1 e];exact h};{exact b g r hg}
abbrev zhS:=List (Nat×(CV->Int->Option (Bool×CV×Int)))
def z8n:zhS:=[]
abbrev zge (m:zhS):Prop:=∀f a,zy m f=some a->zLF Tryz.prog f a
def zU:zge z8n:=λf a h=>by cases h
abbrev zc3:=List (Nat×List Bool×(LC->LA->Option (Bool×LC×LA)))
def zKi:zc3:=[]
abbrev zcd (p:zc3):Prop:=∀f own a,zy p f=some (own,a)->zbW Tryz.prog f own a
def zo:zcd zKi:=λf own a h=>by cases h
def zcP {l m:zc3}(c:∀f own a,zy m f=some (own,a)->zbW Tryz.prog f own a)(b:∀x∈l,zbW Tryz.prog x.1 x.2.1 x.2.2):∀f own a,zy (l++m) f=some (own,a)->zbW Tryz.prog f own a:=by intro f own a h;rw[zbX]at h;split at h;{rename_i y d;cases h;exact b _ (zoH d)};{exact c f own a h}
abbrev zfZ:=List (Nat×List Bool×Option (Nat×Nat×List (List Nat))×(LW))
def zYb:zfZ:=[]
abbrev zeK (t:zfZ):Prop:=∀f own a b,zy t f=some (own,a,b)->zeU Tryz.prog f own a b
def zn:zeK zYb:=λf own a b h=>by cases h
def zrZ {l m:zfZ}(d:∀f own a b,zy m f=some (own,a,b)->zeU Tryz.prog f own a b)(c:∀x∈l,zeU Tryz.prog x.1 x.2.1 x.2.2.1 x.2.2.2):∀f own a b,zy (l++m) f=some (own,a,b)->zeU Tryz.prog f own a b:=by intro f own a b h;rw[zbX]at h;split at h;{rename_i y e;cases h;exact c _ (zoH e)};{exact d f own a b h}
abbrev cQ (c:zY)(m:zhS)(p:zc3)(t:zfZ):Cfg:=znE (zy c) (zy m) (zy p) (zy t)
def zV1 {c:zY}{m:zhS}{p:zc3}{t:zfZ}(k:zS c)(l:zge m)(n:zcd p)(q:zeK t){f:FuncId}{b:LW}(i:FnOk Tryz.prog f)(h:∀a d,zbL big a->b a=some (true,d)->∃g N,evalFn (cQ c m p t) g N 12 f a=some d):vM f b :=
 zBZ (zhv k l n q) i λa d j e=>(h a d (zYO j) e).elim λt x=>x.elim λN y=>⟨t,N,12,y⟩
noncomputable def zft (f:FuncId):Bool :=
 match Tryz.prog.funcs[f]? with
 |some a=>a.body.isSome && !(a.name == "runtime.NumGoroutine")
 |none=>false
def zjT {f:FuncId}(h:zft f=true):FnOk Tryz.prog f:=by unfold zft at h;split at h;{rename_i a d;simp only[qE,jE]at h;obtain⟨b,c⟩:=uP.1 h.1;exact⟨a,b,d,c,h.2⟩};{cases h}
abbrev oN {b:Type}(c:Bool)(a:Option b):Option b:=bif c then a else none
abbrev nB (c:Bool):Bool:=bif c then false else true
abbrev ti:AT:=.i .i64
structure Dc (α:Type) where
 d:AV->Option α
 e:α->AV
 h:∀{a x},d a=some x->a=e x
abbrev aI (x:Int):AV:=.one (.i .i64 x)
abbrev aB (x:Bool):AV:=.one (.b x)
abbrev aS (t:Ty)(l:List t.den):AV:=.one (.s t l)
abbrev aT (t:Ty)(x:t.den):AV:=.agg (t.cells x)
abbrev aH (h:Host):AV:=.agg (zbn h)
abbrev OA:=Option Ans
abbrev oF:OA:=some [aB false]
abbrev oT:OA:=some [aB true]
abbrev lA:=List GAct
abbrev lB:=List Bool
abbrev lE:=List Entry
abbrev lG:=List Guest
abbrev lI:=List Ins
abbrev lK:=List Kept
abbrev lM:=List LI
abbrev lN:=List Mon
abbrev lP:=List (List Ins)
abbrev lQ:=List (List<|List Ins)
abbrev lR:=List Bare
abbrev lS:=List Slot
abbrev lT:=List Told
def dI:Dc Int:=⟨λa=>match a with | .one (.i .i64 x)=>some x|_=>none,aI,λ{a x} h=>by split at h<;>cases h;rfl⟩
def dB:Dc Bool:=⟨λa=>match a with | .one (.b x)=>some x|_=>none,aB,λ{a x} h=>by split at h<;>cases h;rfl⟩
def dS (t:Ty):Dc (List t.den):=⟨λa=>match a with | .one (.s b l)=>if h:b=t then some (h ▸ l) else none|_=>none,aS t,λ{a x} h=>by
 split at h
 .rename_i b l;split at h
  .rename_i e;subst e;cases h;rfl
  .cases h
 .cases h⟩
def dT (t:Ty):Dc t.den:=⟨λa=>match a with | .agg b=>t.ofCells b|_=>none,aT t,λ{a x} h=>by
 split at h
 .rw [<- zlk h]
 .cases h⟩
def dH:Dc Host:=⟨λa=>match a with | .agg [.s (.sl .int) x,.s .mon y,.s .entry z,.s .entry u]=>some ⟨x,y,z,u⟩|_=>none,aH,λ{a x} h=>by split at h<;>cases h;rfl⟩
def dC:Dc Ctl:=⟨λa=>match a with | .agg [.i .i64 x,.i .i64 y,.b z]=>some ⟨x,y,z⟩|_=>none,λx=>.agg (znF x),λ{a x} h=>by split at h<;>cases h;rfl⟩
def dE:Dc GExit:=⟨λa=>match a with | .agg [.i .i64 x,.i .i64 y,.b z,.i .i64 u]=>some ⟨x,y,z,u⟩|_=>none,λx=>.agg (zgI x),λ{a x} h=>by split at h<;>cases h;rfl⟩
abbrev Run:=LW
def eat {b:Type}(D:Dc b)(k:b->Run):Run
 |[]=>none
 |a::l=>match D.d a with
  |some x=>k x l
  |none=>none
def stop (r:Bool×LA):Run
 |[]=>some r
 |_=>none
def zbbH {c:Type}{D:Dc c}{k:c->Run}{b:LA}{r:Bool×LA}(h:eat D k b=some r):∃x l,b=D.e x::l/\k x l=some r:=by unfold eat at h;split at h;{cases h};{rename_i a l;split at h;{rename_i x d;exact⟨x,l,by rw[D.h d],h⟩};{cases h}}
def z88 {q r:Bool×LA}{a:LA}(h:stop q a=some r):a=[]/\r=q:=by unfold stop at h;split at h<;>cases h;exact⟨rfl,rfl⟩
def zcg {p:Nat->Prop}(h:∀N,(∀{n:Nat},n<=big->n<N)->p N):∃N,p N:=⟨big+1,h _ λh=>Nat.lt_succ_of_le h⟩
def len0 {t:Ty}{l:List t.den}{r:LA}(a:zbL big (.one (.s t l)::r)):l.length<=big:=((zcK a).1 _ (qF.2 rfl)).len
def Read (c:zY)(m:zhS)(p:zc3)(t:zfZ)(d:FuncId->Nat->Option Tmpl)(f:FuncId)(b:LA)(r:Run):Prop:=∀a e,zbL big (b++a)->r a=some (true,e)->∃N,evalFn (cQ c m p t) d N 12 f (b++a)=some e
def zd0 {c:zY}{m:zhS}{p:zc3}{t:zfZ}{d:FuncId->Nat->Option Tmpl}{f:FuncId}{b:LA}{g:Type}{D:Dc g}{k:g->Run}(h:∀a,Read c m p t d f (b++[D.e a])<|k a):Read c m p t d f b (eat D k):=by intro i r q e;obtain⟨x,l,n,j⟩:=zbbH e;subst n;have:=h x l r (by simpa using q) j;simpa using this
def zmp {c:zY}{m:zhS}{p:zc3}{t:zfZ}{d:FuncId->Nat->Option Tmpl}{f:FuncId}{a:LA}{g:Bool×LA}{E:Nat->OA}(h:zbL big a->g.1=true->∃N,E N=some g.2)(n:∀N,evalFn (cQ c m p t) d N 12 f a=E N):Read c m p t d f a (stop g):=by intro j q i e;obtain⟨l,k⟩:=z88 e;subst l;cases g with|mk b x=>cases k;rw[jC]at i ⊢;obtain⟨N,e⟩:=h i rfl;exact⟨N,(n N).trans e⟩
def zoT {c:zY}{m:zhS}{p:zc3}{t:zfZ}(i:zS c)(j:zge m)(k:zcd p)(l:zeK t){a:FuncId->Nat->Option Tmpl}{f:FuncId}{r:Run}(g:zft f=true)(h:Read c m p t a f [] r):vM f r :=
 zV1 i j k l (zjT g) λb n d e=>(h b n d e).elim λN x=>⟨a,N,x⟩
def rF0  (g:Bool×LA):Run:=stop g
def hF0 {c:zY}{m:zhS}{p:zc3}{t:zfZ}(j:zS c)(k:zge m)(l:zcd p)(n:zeK t)(b:FuncId->Nat->Option Tmpl){g:Bool×LA}{E:Nat->OA}{f:FuncId}(a:zbL big []->g.1=true->∃N,E N=some g.2)(i:∀N,evalFn (cQ c m p t) b N 12 f []=E N:=by intros;kernel_rfl)(h:zft f=true:=by kernel_rfl):vM f (rF0 g):=
 zoT j k l n h (zmp (λd e=>a d e) λN=>i N)
def kF0 {c:zY}{m:zhS}{p:zc3}{t:zfZ}(h:zS c)(i:zge m)(j:zcd p)(k:zeK t)(a:FuncId->Nat->Option Tmpl){g:Bool×LA}{E:Nat->OA}{f:FuncId}(b:g.1=true->∃N,E N=some g.2)(e:∀N,evalFn (cQ c m p t) a N 12 f []=E N:=by intros;kernel_rfl)(d:zft f=true:=by kernel_rfl):vM f (rF0 g):=hF0 h i j k a (λ_=>b) e d
def rF1 {a:Type}(b:Dc a)(g:a->Bool×LA):Run:=eat b λc=>stop (g c)
def hF1 {b:Type}{c:zY}{m:zhS}{p:zc3}{t:zfZ}(q:zS c)(r:zge m)(s:zcd p)(u:zeK t)(i:FuncId->Nat->Option Tmpl){d:Dc b}{g:b->Bool×LA}{E:Nat->b->OA}{f:FuncId}(h:∀a,zbL big [d.e a]->(g a).1=true->∃N,E N a=some (g a).2)(n:∀N a,evalFn (cQ c m p t) i N 12 f [d.e a]=E N a:=by intros;kernel_rfl)(l:zft f=true:=by kernel_rfl):vM f (rF1 d g):=
 zoT q r s u l (zd0 λa=>zmp (λj k=>h a j k) λN=>n N a)
def kF1 {d:Type}{c:zY}{m:zhS}{p:zc3}{t:zfZ}(l:zS c)(n:zge m)(q:zcd p)(r:zeK t)(b:FuncId->Nat->Option Tmpl){i:Dc d}{g:d->Bool×LA}{E:Nat->d->OA}{f:FuncId}(h:∀a,(g a).1=true->∃N,E N a=some (g a).2)(k:∀N a,evalFn (cQ c m p t) b N 12 f [i.e a]=E N a:=by intros;kernel_rfl)(j:zft f=true:=by kernel_rfl):vM f (rF1 i g):=hF1 l n q r b (λa _=>h a) k j
def rF2 {a b:Type}(c:Dc a)(d:Dc b)(g:a->b->Bool×LA):Run:=eat c λe=>eat d λf=>stop (g e f)
def hF2 {d h:Type}{c:zY}{m:zhS}{p:zc3}{t:zfZ}(u:zS c)(v:zge m)(w:zcd p)(x:zeK t)(l:FuncId->Nat->Option Tmpl){i:Dc d}{j:Dc h}{g:d->h->Bool×LA}{E:Nat->d->h->OA}{f:FuncId}(k:∀a b,zbL big [i.e a,j.e b]->(g a b).1=true->∃N,E N a b=some (g a b).2)(s:∀N a b,evalFn (cQ c m p t) l N 12 f [i.e a,j.e b]=E N a b:=by intros;kernel_rfl)(r:zft f=true:=by kernel_rfl):vM f (rF2 i j g):=
 zoT u v w x r (zd0 λa=>zd0 λb=>zmp (λn q=>k a b n q) λN=>s N a b)
def kF2 {h i:Type}{c:zY}{m:zhS}{p:zc3}{t:zfZ}(r:zS c)(s:zge m)(u:zcd p)(v:zeK t)(d:FuncId->Nat->Option Tmpl){k:Dc h}{l:Dc i}{g:h->i->Bool×LA}{E:Nat->h->i->OA}{f:FuncId}(j:∀a b,(g a b).1=true->∃N,E N a b=some (g a b).2)(q:∀N a b,evalFn (cQ c m p t) d N 12 f [k.e a,l.e b]=E N a b:=by intros;kernel_rfl)(n:zft f=true:=by kernel_rfl):vM f (rF2 k l g):=hF2 r s u v d (λa b _=>j a b) q n
def rF3 {a b c:Type}(d:Dc a)(e:Dc b)(f:Dc c)(g:a->b->c->Bool×LA):Run:=eat d λh=>eat e λi=>eat f λj=>stop (g h i j)
def hF3 {h i j:Type}{c:zY}{m:zhS}{p:zc3}{t:zfZ}(x:zS c)(y:zge m)(z:zcd p)(A:zeK t)(r:FuncId->Nat->Option Tmpl){k:Dc h}{l:Dc i}{n:Dc j}{g:h->i->j->Bool×LA}{E:Nat->h->i->j->OA}{f:FuncId}(q:∀a b d,zbL big [k.e a,l.e b,n.e d]->(g a b d).1=true->∃N,E N a b d=some (g a b d).2)(w:∀N a b d,evalFn (cQ c m p t) r N 12 f [k.e a,l.e b,n.e d]=E N a b d:=by intros;kernel_rfl)(v:zft f=true:=by kernel_rfl):vM f (rF3 k l n g):=
 zoT x y z A v (zd0 λa=>zd0 λb=>zd0 λd=>zmp (λs u=>q a b d s u) λN=>w N a b d)
def kF3 {i j k:Type}{c:zY}{m:zhS}{p:zc3}{t:zfZ}(v:zS c)(w:zge m)(x:zcd p)(y:zeK t)(h:FuncId->Nat->Option Tmpl){n:Dc i}{q:Dc j}{r:Dc k}{g:i->j->k->Bool×LA}{E:Nat->i->j->k->OA}{f:FuncId}(l:∀a b d,(g a b d).1=true->∃N,E N a b d=some (g a b d).2)(u:∀N a b d,evalFn (cQ c m p t) h N 12 f [n.e a,q.e b,r.e d]=E N a b d:=by intros;kernel_rfl)(s:zft f=true:=by kernel_rfl):vM f (rF3 n q r g):=hF3 v w x y h (λa b d _=>l a b d) u s
def rF4 {a b c d:Type}(e:Dc a)(f:Dc b)(h:Dc c)(i:Dc d)(g:a->b->c->d->Bool×LA):Run:=eat e λj=>eat f λk=>eat h λl=>eat i λm=>stop (g j k l m)
def hF4 {i j k l:Type}{c:zY}{m:zhS}{p:zc3}{t:zfZ}(A:zS c)(B:zge m)(C:zcd p)(D:zeK t)(v:FuncId->Nat->Option Tmpl){n:Dc i}{q:Dc j}{r:Dc k}{s:Dc l}{g:i->j->k->l->Bool×LA}{E:Nat->i->j->k->l->OA}{f:FuncId}(u:∀a b d h,zbL big [n.e a,q.e b,r.e d,s.e h]->(g a b d h).1=true->∃N,E N a b d h=some (g a b d h).2)(z:∀N a b d h,evalFn (cQ c m p t) v N 12 f [n.e a,q.e b,r.e d,s.e h]=E N a b d h:=by intros;kernel_rfl)(y:zft f=true:=by kernel_rfl):vM f (rF4 n q r s g):=
 zoT A B C D y (zd0 λa=>zd0 λb=>zd0 λd=>zd0 λh=>zmp (λw x=>u a b d h w x) λN=>z N a b d h)
def kF4 {j k l n:Type}{c:zY}{m:zhS}{p:zc3}{t:zfZ}(y:zS c)(z:zge m)(A:zcd p)(B:zeK t)(i:FuncId->Nat->Option Tmpl){r:Dc j}{s:Dc k}{u:Dc l}{v:Dc n}{g:j->k->l->n->Bool×LA}{E:Nat->j->k->l->n->OA}{f:FuncId}(q:∀a b d h,(g a b d h).1=true->∃N,E N a b d h=some (g a b d h).2)(x:∀N a b d h,evalFn (cQ c m p t) i N 12 f [r.e a,s.e b,u.e d,v.e h]=E N a b d h:=by intros;kernel_rfl)(w:zft f=true:=by kernel_rfl):vM f (rF4 r s u v g):=hF4 y z A B i (λa b d h _=>q a b d h) x w
def rF5 {a b c d e:Type}(f:Dc a)(h:Dc b)(i:Dc c)(j:Dc d)(k:Dc e)(g:a->b->c->d->e->Bool×LA):Run:=eat f λl=>eat h λm=>eat i λn=>eat j λp=>eat k λq=>stop (g l m n p q)
def hF5 {j k l n q:Type}{c:zY}{m:zhS}{p:zc3}{t:zfZ}(D:zS c)(F:zge m)(G:zcd p)(H:zeK t)(y:FuncId->Nat->Option Tmpl){r:Dc j}{s:Dc k}{u:Dc l}{v:Dc n}{w:Dc q}{g:j->k->l->n->q->Bool×LA}{E:Nat->j->k->l->n->q->OA}{f:FuncId}(x:∀a b d h i,zbL big [r.e a,s.e b,u.e d,v.e h,w.e i]->(g a b d h i).1=true->∃N,E N a b d h i=some (g a b d h i).2)(C:∀N a b d h i,evalFn (cQ c m p t) y N 12 f [r.e a,s.e b,u.e d,v.e h,w.e i]=E N a b d h i:=by intros;kernel_rfl)(B:zft f=true:=by kernel_rfl):vM f (rF5 r s u v w g):=
 zoT D F G H B (zd0 λa=>zd0 λb=>zd0 λd=>zd0 λh=>zd0 λi=>zmp (λz A=>x a b d h i z A) λN=>C N a b d h i)
def kF5 {k l n q r:Type}{c:zY}{m:zhS}{p:zc3}{t:zfZ}(B:zS c)(C:zge m)(D:zcd p)(F:zeK t)(j:FuncId->Nat->Option Tmpl){u:Dc k}{v:Dc l}{w:Dc n}{x:Dc q}{y:Dc r}{g:k->l->n->q->r->Bool×LA}{E:Nat->k->l->n->q->r->OA}{f:FuncId}(s:∀a b d h i,(g a b d h i).1=true->∃N,E N a b d h i=some (g a b d h i).2)(A:∀N a b d h i,evalFn (cQ c m p t) j N 12 f [u.e a,v.e b,w.e d,x.e h,y.e i]=E N a b d h i:=by intros;kernel_rfl)(z:zft f=true:=by kernel_rfl):vM f (rF5 u v w x y g):=hF5 B C D F j (λa b d h i _=>s a b d h i) A z
def rF6 {a b c d e f:Type}(h:Dc a)(i:Dc b)(j:Dc c)(k:Dc d)(l:Dc e)(m:Dc f)(g:a->b->c->d->e->f->Bool×LA):Run:=eat h λn=>eat i λp=>eat j λq=>eat k λr=>eat l λs=>eat m λt=>stop (g n p q r s t)
def hF6 {k l n q r s:Type}{c:zY}{m:zhS}{p:zc3}{t:zfZ}(H:zS c)(I:zge m)(J:zcd p)(K:zeK t)(B:FuncId->Nat->Option Tmpl){u:Dc k}{v:Dc l}{w:Dc n}{x:Dc q}{y:Dc r}{z:Dc s}{g:k->l->n->q->r->s->Bool×LA}{E:Nat->k->l->n->q->r->s->OA}{f:FuncId}(A:∀a b d h i j,zbL big [u.e a,v.e b,w.e d,x.e h,y.e i,z.e j]->(g a b d h i j).1=true->∃N,E N a b d h i j=some (g a b d h i j).2)(G:∀N a b d h i j,evalFn (cQ c m p t) B N 12 f [u.e a,v.e b,w.e d,x.e h,y.e i,z.e j]=E N a b d h i j:=by intros;kernel_rfl)(F:zft f=true:=by kernel_rfl):vM f (rF6 u v w x y z g):=
 zoT H I J K F (zd0 λa=>zd0 λb=>zd0 λd=>zd0 λh=>zd0 λi=>zd0 λj=>zmp (λC D=>A a b d h i j C D) λN=>G N a b d h i j)
def kF6 {l n q r s u:Type}{c:zY}{m:zhS}{p:zc3}{t:zfZ}(F:zS c)(G:zge m)(H:zcd p)(I:zeK t)(k:FuncId->Nat->Option Tmpl){w:Dc l}{x:Dc n}{y:Dc q}{z:Dc r}{A:Dc s}{B:Dc u}{g:l->n->q->r->s->u->Bool×LA}{E:Nat->l->n->q->r->s->u->OA}{f:FuncId}(v:∀a b d h i j,(g a b d h i j).1=true->∃N,E N a b d h i j=some (g a b d h i j).2)(D:∀N a b d h i j,evalFn (cQ c m p t) k N 12 f [w.e a,x.e b,y.e d,z.e h,A.e i,B.e j]=E N a b d h i j:=by intros;kernel_rfl)(C:zft f=true:=by kernel_rfl):vM f (rF6 w x y z A B g):=hF6 F G H I k (λa b d h i j _=>v a b d h i j) D C
def zjZ {a:LA}(h:∃(w:World) (b:Nat->Value) (K:Nat->zbb),∀(j:Nat) (c:CV),(zF a)[j]?=some c->Rep false w (b j) c (K j)):zbL big a:=by obtain⟨w,b,K,h⟩:=h;intro c d;obtain⟨j,e⟩:=qT.1 d;exact CVB.of_rep (h j c e)
def cT {a:Type}(x y:a):(cond true x y)=x:=by simp
def cF {a:Type}(x y:a):(cond false x y)=y:=by simp
def zly:big=140737488355328:=rfl
def zu4 {x:Int}(a : -9223372036854775808<=x)(b:x<=9223372036854775807):IntKind.i64.wrap x=x:=by simp only[IntKind.wrap,IntKind.signed,IntKind.bits];simp;omega
def zr2 {x y:Int}(a : -9223372036854775808<=x+y)(b:x+y<=9223372036854775807):zM .i64 x y=x+y:=zu4 a b
def zr4 {x y:Int}(a : -9223372036854775808<=x-y)(b:x-y<=9223372036854775807):wsub .i64 x y=x-y:=zu4 a b
def zba {i n:Nat}(h:i<n)(a:n<=big):zM .i64 (i:Int) 1=((i+1:Nat):Int):=by rw[zly]at a;rw[zr2 (by omega) (by omega)];omega
section
variable {α:Type}
def zbr {l:List α}{i:Nat}(h:i<l.length):ilt (i:Int) (ln l)=true:=by unfold ilt ln;exact qI (by omega)
def zbl {l:List α}:ilt ((l.length:Nat):Int) (ln l)=false:=by unfold ilt ln;exact qJ (by omega)
def zZ {l:List α}{i:Nat}(h:i<l.length):inb (i:Int) (ln l)=true:=by unfold inb ln;exact qI (by omega)
def zbk {l:List α}{i:Nat}(h:i<l.length)(d:α):ix l (i:Int) d=l[i]:=by unfold ix;simp[List.getD,qB h]
def zfP {l:List α}(h:l.length<=2147483648):few (ln l)=true:=by unfold few ln;exact qI (by omega)
def zeZ (x:Int):ieq x x=true:=by simp[ieq]
def zdl (x:Int):ine x x=false:=by simp[ine]
def zeE (x:Bool):zj0 x x=true:=by simp[zj0]
end
def zd9 {a b:Type}(n:Nat)(F:(a->Option b)->a->Option b)(s:a):iter (n+1) F s=F (iter n F) s:=rfl
def goL {d c b:Type}(a:Nat->d->c->(c->Option b)->Option b)(K:c->Option b):List d->Nat->c->Option b
 |[],_,t=>K t
 |x::l,i,t=>a i x t (goL a K l<|i+1)
def zbj {q b d σ:Type}(l:List q)(g:Nat->b->σ)(F:(σ->Option d)->σ->Option d)(a:Nat->q->b->(b->Option d)->Option d)(K:b->Option d)(c:∀(i:Nat) (p:i<l.length) (t:b) (rec:σ->Option d),F rec (g i t)=a i l[i] t λk=>rec (g (i+1) k))(e:∀(t:b) (rec:σ->Option d),F rec (g l.length t)=K t) :
 ∀(N:Nat) (t:b),l.length<N->iter N F (g 0 t)=goL a K l 0 t:=by
 have j:∀(m i N:Nat) (t:b),l.length-i=m->i<=l.length->m<N->iter N F (g i t)=goL a K (l.drop i) i t:=by intro m;induction m with|zero=>intro i N t r p h;have:i=l.length:=(by omega);subst this;obtain⟨n,rfl⟩:∃n,N=n+1:=⟨N-1,by omega⟩;rw[zd9,e,vH];rfl|succ m s=>intro i N t r p h;obtain⟨n,rfl⟩:∃n,N=n+1:=⟨N-1,by omega⟩;have f:i<l.length:=(by omega);rw[zd9,c i f,j6 f];simp only[goL];congr 1;funext k;exact s (i+1) n k (by omega) (by omega) (by omega)
 intro N t h;have:=j l.length 0 N t (by omega) (jW _) h
 simpa using this
def goN {c b:Type}(a:Nat->c->(c->Option b)->Option b)(K:c->Option b):Nat->Nat->c->Option b
 | 0,_,t=>K t
 |n+1,i,t=>a i t (goN a K n<|i+1)
def zvH {b d σ:Type}(n:Nat)(g:Nat->b->σ)(F:(σ->Option d)->σ->Option d)(a:Nat->b->(b->Option d)->Option d)(K:b->Option d)(c:∀(i:Nat) (q:i<n) (t:b) (rec:σ->Option d),F rec (g i t)=a i t λp=>rec (g (i+1) p))(f:∀(t:b) (rec:σ->Option d),F rec (g n t)=K t) :
 ∀(N:Nat) (t:b),n<N->iter N F (g 0 t)=goN a K n 0 t:=by
 have l:∀(m i N:Nat) (t:b),n-i=m->i<=n->m<N->iter N F (g i t)=goN a K (n-i) i t:=by intro m;induction m with|zero=>intro i N t r q h;have:i=n:=(by omega);subst this;obtain⟨k,rfl⟩:∃k,N=k+1:=⟨N-1,by omega⟩;rw[zd9,f,k6];rfl|succ m s=>intro i N t r q h;obtain⟨k,rfl⟩:∃k,N=k+1:=⟨N-1,by omega⟩;have j:i<n:=(by omega);have e:n-i=(n-(i+1))+1:=(by omega);rw[zd9,c i j,e];simp only[goN];congr 1;funext p;exact s (i+1) k p (by omega) (by omega) (by omega)
 intro N t h;have:=l n 0 N t (by omega) (jW _) h
 simpa using this
def zmZ {b h:Type}(l:List b)(d:b)(F:(Int×List b×List b×Unit->Option h)->Int×List b×List b×Unit->Option h)(k:Option h)(p:l.length<=big)(a:∀(i:Nat) (j:i<l.length) rec,F rec ((i:Int),l,l,())=rec (zM .i64 (i:Int) 1,l,l,()))(c:∀rec,F rec ((l.length:Int),l,l,())=k){N:Nat}(f:l.length<N) :
 iter N F (0,l,l,())=k:=by
 have g:∀(m i N:Nat),l.length-i=m->i<=l.length->m<N->iter N F ((i:Int),l,l,())=k:=by intro m;induction m with|zero=>intro i N q j f;have:i=l.length:=(by omega);subst this;obtain⟨n,rfl⟩:∃n,N=n+1:=⟨N-1,by omega⟩;rw[zd9,c]|succ m r=>intro i N q j f;obtain⟨n,rfl⟩:∃n,N=n+1:=⟨N-1,by omega⟩;have e:i<l.length:=(by omega);rw[zd9,a i e,zba e p];exact r (i+1) n (by omega) (by omega) (by omega)
 exact g l.length 0 N (by omega) (jW _) f
def sm:Nat:=1048576
def zp2:pc True=true:=zbd trivial
def zcJ {n:Nat}(h:n<=sm):n<=big/\n<=2147483648:=by unfold sm at h;rw[zly];omega
def hasB (i n:Int):Bool:=decide (0<=i/\i<n)
def has_eq (i n:Int):(ige i 0&&ilt i n)=hasB i n:=by unfold ige ilt hasB;by_cases a:0<=i<;>by_cases b:i<n<;>simp [a,b]
def zB {i n:Int}(h:hasB i n=true):inb i n=true:=h
def zeo {i:Int}{n:Nat}(h:hasB i n=true):∃k:Nat,i=k/\k<n:=by have:0<=i/\i<n:=qD h;exact⟨i.toNat,by omega,by omega⟩
def zbK {b:Type}{l:List b}{i:Int}(h:hasB i (ln l)=true)(d:b):ix l i d∈l:=by obtain⟨k,rfl,a⟩:=zeo (n:=l.length) h;rw[zbk a];exact jG a
def znP {a:Type}(l:List a):ap [] l=l:=rfl
def zkJ {b m:Type}(c:b->Bool)(f:b->b)(K:List b->Option m):∀(l:List b) (i:Nat) (a:List b),(∀x∈l,c x=true/\f x=x)->a.length+l.length<=2147483648->
 goL (λ_ x a k=>bif c x then (cond (few<|ln<|ap a [f x]) (k<|ap a [f x]) none) else none) K l i a=K (a++l)
 |[],i,a,_,_=>by simp[goL]
 |x::l,i,a,h,g=>by obtain⟨d,e⟩:=h x (by simp);simp only[qV]at g;simp only[goL,d,e,cT];rw[zfP (by simp[ap];omega),cT,zkJ c f K l (i+1) _ (λy j=>h y (by simp[j])) (by simp[ap];omega)];simp[ap]
def zdm (h:Host):Prop:=∀c∈zbn h,CVB sm c
def zdm.mem {h:Host}(a:zdm h):CVB sm (.s (.sl .int) h.Memory):=a _ (by simp[zbn])
def zdm.mons {h:Host}(a:zdm h):CVB sm (.s .mon h.Mons):=a _ (by simp[zbn])
def zpH {t:Ty}{l:List t.den}(h:CVB sm (.s t l)):few (ln l)=true:=zfP (zcJ h.len).2
def NN:Nat:=big+1
def z1s {n:Nat}(h:n<=big):n<NN:=Nat.lt_succ_of_le h
def zOL {b d m:Type}(c:b->Bool)(f:b->d)(K:List d->Option m):∀(l:List b) (i:Nat) (a:List d),(∀x∈l,c x=true)->a.length+l.length<=2147483648->
 goL (λ_ x a k=>bif c x then (cond (few<|ln<|ap a [f x]) (k<|ap a [f x]) none) else none) K l i a=K (a++l.map f)
 |[],i,a,_,_=>by simp[goL]
 |x::l,i,a,h,g=>by have e:=h x (by simp);simp only[qV]at g;simp only[goL,e,cT];rw[zfP (by simp[ap];omega),cT,zOL c f K l (i+1) _ (λy j=>h y (by simp[j])) (by simp[ap];omega)];simp[ap]
def zVU {a b:Type}(p:a->Bool)(r:Option b)(K:Unit->Option b):∀(l:List a) (i:Nat),goL (λ_ x (_:Unit) k=>bif p x then r else k ()) K l i ()=bif l.any p then r else K ()
 |[],_=>rfl
 |x::l,i=>by simp only[goL,List.any_cons];cases p x;{simp only [cF,Bool.false_or];exact zVU p r K l (i+1)};{rfl}
def znC (p:Nat->Bool):Nat->Nat->Bool
 | 0,_=>true
 |n+1,i=>p i&&znC p n (i+1)
def zy4 {a:Type}(p:Nat->Bool)(r:Option a)(K:Unit->Option a):∀(n i:Nat),goN (λi (_:Unit) k=>bif p i then k () else r) K n i ()=bif znC p n i then K () else r
 | 0,_=>rfl
 |n+1,i=>by simp only[goN,znC];cases p i;{rfl};{simp only [cT,uZ];exact zy4 p r K n (i+1)}
def zuU {e a c:Type}(b:Nat->a->(a->Option c)->Option c)(K:a->Option c):∀(l:List e) (i:Nat) (t:a),goL (λi _ t k=>b i t k) K l i t=goN b K l.length i t
 |[],_,_=>rfl
 |_::l,i,t=>by have d:goL (λi _ t k=>b i t k) K l (i+1)=goN b K l.length (i+1):=funext λt=>zuU b K l (i+1) t;simp only[goL,qV,goN,d]
def zgu {a b:Type}(p:a->Bool)(r:Option b)(K:Unit->Option b):∀(l:List a) (i:Nat),goL (λ_ x (_:Unit) k=>bif p x then k () else r) K l i ()=bif l.all p then K () else r
 |[],_=>rfl
 |x::l,i=>by simp only[goL,kW];cases p x;{rfl};{simp only [cT,uZ];exact zgu p r K l (i+1)}
def zpQ {n:Nat}(c:n<=big)(i:Int):(ige i 0&&ile i (wsub .i64 (n:Int) 1))=hasB i n:=by rw[zly]at c;rw[zr4 (by omega) (by omega)];unfold ige ile hasB;by_cases a:0<=i<;>by_cases b:i<n;{rw [qI (p:=i≥0) (by omega),qI (p:=i<=(n:Int)-1) (by omega),qI (p:=0<=i/\i<(n:Int)) ⟨a,b⟩];rfl};{rw [qJ (p:=i<=(n:Int)-1) (by omega),qJ (p:=0<=i/\i<(n:Int)) (by omega)];simp};{rw [qJ (p:=i≥0) (by omega),qJ (p:=0<=i/\i<(n:Int)) (by omega)];simp};{rw [qJ (p:=i≥0) (by omega),qJ (p:=0<=i/\i<(n:Int)) (by omega)];simp}
def zuV {j h c:Type}(n:Nat)(f:Nat->c->j)(F:(j->Option h)->j->Option h)(I:Nat->c->Prop)(a:Nat->c->Option h)(b:∀(i:Nat) (t:c) (rec:j->Option h),i<n->I i t->(∀g,I (i+1) g->rec (f (i+1) g)=a (i+1) g)->F rec (f i t)=a i t)(e:∀(t:c) (rec:j->Option h),I n t->F rec (f n t)=a n t):∀(N i:Nat) (t:c),I i t->i<=n->n-i<N->iter N F (f i t)=a i t:=by have r:∀(m N i:Nat) (t:c),n-i=m->I i t->i<=n->m<N->iter N F (f i t)=a i t:=(by intro m;induction m with|zero=>intro N i t s d q p;obtain⟨k,rfl⟩:∃k,N=k+1:=⟨N-1,by omega⟩;have:i=n:=(by omega);subst this;rw[zd9];exact e t _ d|succ m u=>intro N i t s d q p;obtain⟨k,rfl⟩:∃k,N=k+1:=⟨N-1,by omega⟩;rw[zd9];exact b i t _ (by omega) d λg l=>u k (i+1) g (by omega) l (by omega) (by omega));intro N i t d q p;exact r (n-i) N i t rfl d q p
section
variable {α:Type}
def zRt {l:List α}{i:Nat}(h:i<l.length)(d:α):up l (i:Int) (ix l (i:Int) d)=l:=by rw[zbk h];unfold up;apply k5;intro k;rw[q9];have e:(i:Int).toNat=i:=(by omega);rw[e];by_cases a:i=k;{subst a;simp[h]};{simp [a]}
def zez {l:List α}{i:Nat}(h:i<l.length)(x d:α):ix (up l (i:Int) x) (i:Int) d=x:=by unfold ix up;have e:(i:Int).toNat=i:=(by omega);rw[e];simp[List.getD,h]
def zxQ (l:List α)(i:Int)(x y:α):up (up l i x) i y=up l i y:=by unfold up;simp
def zbc7 {l:List α}{i k:Nat}(h:i<k)(x:α):(up l (i:Int) x)[k]?=l[k]?:=by unfold up;have e:(i:Int).toNat=i:=(by omega);rw[e,q9,if_neg (by omega)]
end
def Ends {b:Type}(G:b->Prop)(o:Option b):Prop:=∃a,o=some a/\G a
section
variable {ρ:Type} {G:ρ->Prop}
def zC {c:Bool}{a b:Option ρ}(h:c=true)(k:Ends G a):Ends G (cond c a b):=by rw[h];exact k
def zpb {c:Bool}{a b:Option ρ}(h:c=false)(k:Ends G b):Ends G (cond c a b):=by rw[h];exact k
def zbJ {c:Bool}{a b:Option ρ}(d:c=true->Ends G a)(e:c=false->Ends G b):Ends G (cond c a b):=by cases c;{exact e rfl};{exact d rfl}
def zmY {a:Type}{x:a}{f:a->Option ρ}(h:Ends G (f x)):Ends G (share x f):=h
def zoK {x:Option ρ}{f:Option ρ->Option ρ}(h:Ends G x)(k:∀t,Ends G t->Ends G (f t)):Ends G (share x f):=k x h
def znQ {a:ρ}(h:G a):Ends G (some a):=⟨a,rfl,h⟩
def zl6 {b:Type}{F:(b->Option ρ)->b->Option ρ}(I:Nat->b->Prop)(h:∀n s rec,I n s->(∀k a,k<n->I k a->Ends G (rec a))->Ends G (F rec s)):∀(N n:Nat) (s:b),I n s->n<N->Ends G (iter N F s)
 | 0,n,s,_,c=>absurd c (Nat.not_lt_zero n)
 |N+1,n,s,d,c=>h n s (iter N F) d λk a f e=>zl6 I h N k a e (by omega)
def zbbK {G:Ans->Prop}{o:OA}{r:Ans}(h:Ends (λa=>a=r) o):o=some r:=by obtain⟨a,b,c⟩:=h;rw[b,c]
end
instance:Inhabited Cur:=⟨⟨[],0,0⟩⟩
def uC {T:Type}(ok:T->Prop):Bool:=pc (∃v,ok v)
def uV {T:Type}[Nonempty T](ok:T->Prop):T:=Classical.epsilon ok
def uG {T:Type}[Nonempty T]{ok:T->Prop}(h:uC ok=true):ok (uV ok):=Classical.epsilon_spec (zO.1 h)
def wC {T:Type}(ok:Cur->T->Prop):Bool:=uC λr:Cur×T=>ok r.1 r.2
def wS {T:Type}[Nonempty T](ok:Cur->T->Prop):Cur:=bif wC ok then (uV λr:Cur×T=>ok r.1 r.2).1 else ⟨[],0,0⟩
def wV {T:Type}[Nonempty T](ok:Cur->T->Prop):T:=(uV λr:Cur×T=>ok r.1 r.2).2
def wG {T:Type}[Nonempty T]{ok:Cur->T->Prop}(h:wC ok=true):ok (wS ok) (wV ok):=by unfold wS wV;rw[h,cT];exact uG h
def wP {T:Type}[Nonempty T]{ok:Cur->T->Prop}(k:∀{s v},ok s v->0<=s.i):0<=(wS ok).i:=by cases h:wC ok with|false=>unfold wS;rw[h];exact kS 0|true=>exact k (wG h)
abbrev wE {T:Type}(e:T->AV)(b:LI)(c:T->Prop):Ans->Prop:=λa=>∃s d,a=(AV.agg (zb4 s)::[e d])/\(s.b=b/\0<=s.i)/\c d
def wI {T:Type}{ok:Cur->T->Prop}{E:Nat->OA}{d:T->AV}{b:LI}{c:T->Prop}(k:∀s v,((∃N,E N=some (AV.agg (zb4 s)::[d v]))/\(s.b=b/\0<=s.i)/\c v)->ok s v)(h:∃N,Ends (wE d b c)<|E N):wC ok=true:=by obtain⟨N,a,e,s,v,rfl,h⟩:=h;exact zbd ⟨(s,v),k s v ⟨⟨N,e⟩,h⟩⟩
abbrev zek:=LC->LA->Option (Bool×LC×LA)
abbrev zII:=LA->Option (Bool×LC×LA)
def pR (k:Cur->zII):zek
 |[.s .u8 b,.i .i64 i,.i .i64 h],a=>k ⟨b,i,h⟩ a
 |_,_=>none
def zXf {b:Type}(D:Dc b)(k:b->zII):zII
 |[]=>none
 |a::l=>match D.d a with
  |some x=>k x l
  |none=>none
def zNJ (r:Bool×Cur×LA):zII
 |[]=>some (r.1,zb4 r.2.1,r.2.2)
 |_=>none
def z5P {k:Cur->zII}{b:LC}{a:LA}{r:Bool×LC×LA}(h:pR k b a=some r):∃c,b=zb4 c/\k c a=some r:=by unfold pR at h;split at h;{exact⟨_,rfl,h⟩};{cases h}
def zKg {c:Type}{D:Dc c}{k:c->zII}{b:LA}{r:Bool×LC×LA}(h:zXf D k b=some r):∃x l,b=D.e x::l/\k x l=some r:=by unfold zXf at h;split at h;{cases h};{rename_i a l;split at h;{rename_i x d;exact⟨x,l,by rw[D.h d],h⟩};{cases h}}
def zxb {q:Bool×Cur×LA}{b:Bool}{c:LC}{d a:LA}(h:zNJ q a=some (b,c,d)):a=[]/\q.1=b/\c=zb4 q.2.1/\d=q.2.2:=by unfold zNJ at h;split at h<;>cases h;exact⟨rfl,rfl,rfl,rfl⟩
section
variable {c:zY} {m:zhS} {p:zc3} {t:zfZ} (o1:zS c) (o2:zge m) (o3:zcd p) (o4:zeK t) (tms:FuncId->Nat->Option Tmpl) {f:FuncId}
include o1 o2 o3 o4
def hPx {k:Cur->zII}(j:zft f=true)(h:∀x b a d,k x b=some (true,a,d)->a.length=3/\∃N,zpG (cQ c m p t) tms N 12 f [false,true,true] (zb4 x) b=some (.agg a::d)):zbW Tryz.prog f [false,true,true] (pR k):=by refine zim (zhv o1 o2 o3 o4) (zjT j) ?_;intro l b a d n q e;obtain⟨x,rfl,e⟩:=z5P e;obtain⟨g,N,i⟩:=h x b a d e;exact⟨g,tms,N,12,i⟩
def rP0 (g:Cur->Bool×Cur×LA):zek:=pR λc=>zNJ (g c)
def hP0 {g:Cur->Bool×Cur×LA}{E:Nat->Cur->OA}(a:∀x,(g x).1=true->∃N,E N x=some (.agg (zb4 (g x).2.1)::(g x).2.2))(k:∀N x,zpG (cQ c m p t) tms N 12 f [false,true,true] (zb4 x) []=E N x:=by intros;kernel_rfl)(j:zft f=true:=by kernel_rfl):zbW Tryz.prog f [false,true,true] (rP0 g):=
 hPx o1 o2 o3 o4 tms j λx b d l e=>by obtain⟨rfl,i,rfl,rfl⟩:=zxb e;obtain⟨N,h⟩:=a x i;exact⟨rfl,N,(k N x).trans h⟩
def rP1 {A:Type}(D:Dc A)(g:Cur->A->Bool×Cur×LA):zek:=pR λc=>zXf D λa=>zNJ (g c a)
def hP1 {A:Type}{D:Dc A}{g:Cur->A->Bool×Cur×LA}{E:Nat->Cur->A->OA}(b:∀x a,(g x a).1=true->∃N,E N x a=some (.agg (zb4 (g x a).2.1)::(g x a).2.2))(q:∀N x a,zpG (cQ c m p t) tms N 12 f [false,true,true] (zb4 x) [D.e a]=E N x a:=by intros;kernel_rfl)(n:zft f=true:=by kernel_rfl):zbW Tryz.prog f [false,true,true] (rP1 D g):=
 hPx o1 o2 o3 o4 tms n λx d i r e=>by obtain⟨a,l,rfl,j⟩:=zKg e;obtain⟨rfl,k,rfl,rfl⟩:=zxb j;obtain⟨N,h⟩:=b x a k;exact⟨rfl,N,(q N x a).trans h⟩
def rP2 {A B:Type}(D:Dc A)(d:Dc B)(g:Cur->A->B->Bool×Cur×LA):zek:=pR λc=>zXf D λa=>zXf d λb=>zNJ (g c a b)
def hP2 {A B:Type}{D:Dc A}{i:Dc B}{g:Cur->A->B->Bool×Cur×LA}{E:Nat->Cur->A->B->OA}(d:∀x a b,(g x a b).1=true->∃N,E N x a b=some (.agg (zb4 (g x a b).2.1)::(g x a b).2.2))(u:∀N x a b,zpG (cQ c m p t) tms N 12 f [false,true,true] (zb4 x) [D.e a,i.e b]=E N x a b:=by intros;kernel_rfl)(s:zft f=true:=by kernel_rfl):zbW Tryz.prog f [false,true,true] (rP2 D i g):=
 hPx o1 o2 o3 o4 tms s λx j k w e=>by obtain⟨a,l,rfl,n⟩:=zKg e;obtain⟨b,v,rfl,q⟩:=zKg n;obtain⟨rfl,r,rfl,rfl⟩:=zxb q;obtain⟨N,h⟩:=d x a b r;exact⟨rfl,N,(u N x a b).trans h⟩
end
instance:Inhabited Ins:=⟨⟨0,0⟩⟩
instance:Inhabited GAct:=⟨⟨0,0,0,0,0,0⟩⟩
instance:Inhabited Ctl:=⟨⟨0,0,false⟩⟩
instance:Inhabited Host:=⟨⟨[],[],[],[]⟩⟩
def zbi (c:Cur):Prop:=0<=c.i/\c.b.length<=big
def zbP {T:Type}(d:T->AV){c:T->Prop}{b:LI}{x y:Int}{v:T}(h:0<=x)(g:c v):Ends (λa=>∃s e,a=(AV.agg (zb4 s)::[d e])/\(s.b=b/\0<=s.i)/\c e) (some (AV.agg [.s .u8 b,.i .i64 x,.i .i64 y]::[d v])):=
 ⟨_,rfl,⟨b,x,y⟩,v,rfl,⟨rfl,h⟩,g⟩
def zxR (N:Nat)(c:Cur)  : OA :=
 let a:=zM .i64 (zmL .i64 c.h 6364136223846793005) 1442695040888963407;let d:=wand .i64 (z9g .i64 (zld .i64 a 33)<|zld .i64 a 45) 255; (oN (ile 0 33)<|oN (ile 0 45)<|cond (ilt c.i<|ln c.b) (oN (inb c.i<|ln c.b)<|some [.agg [.s .u8 c.b,.i .i64<|zM .i64 c.i 1,.i .i64 a],aI<|wand .i64 (zM .i64 d<|wcv .i64<|ix c.b c.i 0) 255])<|some [.agg [.s .u8 c.b,.i .i64 c.i,.i .i64 a],aI d])
def zqN (c:Cur)(s:Cur)(a:Int):Prop:=(∃N,zxR N c=some (AV.agg (zb4 s)::[aI a]))/\(s.b=c.b/\0<=s.i)/\(0<=a/\a<=255)
def zfb (c:Cur)  : Bool:=wC (zqN c)
def zdG (c:Cur)  : Cur:=wS (zqN c)
def zhq (c:Cur)  : Int:=wV (zqN c)
def zoc {c:Cur}(h:zfb c=true):zqN c (zdG c) (zhq c):=wG h
def zod (c:Cur)  : 0<=(zdG c).i:=wP λh=>h.2.1.2
def zZJ (c:Cur)(h:∃N,Ends (wE (λa=>aI a) c.b λa=>0<=a/\a<=255)<|zxR N c):zfb c=true:=wI (λ_ _ h=>h) h
def zzu:zek:=rP0 λc=>(zfb c,zdG c,[aI<|zhq c])
def zMJ:zbW Tryz.prog 205 [false,true,true] zzu:=hP0 zdv zU zo zn (zq []) (λ_ h=>(zoc h).1)
def zS4 {x m:Int}(c:0<=m)(d:m<9223372036854775808):0<=wand .i64 x m/\wand .i64 x m<=m:=by have b:(BitVec.ofInt 64 m).toNat=m.toNat:=(by rw[BitVec.toNat_ofInt];omega);have a:(BitVec.ofInt 64 x &&& BitVec.ofInt 64 m).toNat<=m.toNat:=(by rw[BitVec.toNat_and,b];exact Nat.and_le_right);unfold wand;show 0<=IntKind.wrap .i64 ((BitVec.ofInt 64 x &&& BitVec.ofInt 64 m).toNat:Int)/\IntKind.wrap .i64 ((BitVec.ofInt 64 x &&& BitVec.ofInt 64 m).toNat:Int)<=m;rw[zu4 (by omega) (by omega)];omega
@[simp] def zLR {c:Cur}(h:zbi c):zfb c=true:=by
 refine zZJ c ⟨0,?_⟩;unfold zxR oN;conv=>zeta
 refine zC rfl (zC rfl (zbJ (λa=>zC (qI ⟨h.1,qD a⟩) (zbP aI ?_<|zS4 (by omega) (by omega))) λ_=>zbP aI h.1 (zS4 (by omega) (by omega))));have d:c.i<ln c.b:=qD a;have e:=h.2;have f:=h.1;rw[zly]at e;unfold ln at d;rw[zr2 (by omega) (by omega)];omega
def zbaA:zc3:=[(205,[false,true,true],zzu)]++zKi
def zXh:zcd zbaA:=zcP zo (by
 intro x a;simp only[qG,qO,or_false]at a;rcases a with rfl
 .exact zMJ)
def zI3 {b:LI}{i h:Int}(a:0<=i)(c:b.length<=big):zbi ⟨b,i,h⟩:=⟨a,c⟩
def z1o {x n:Int}(a:0<=x)(b:0<n):0<=zo9 x n/\zo9 x n<n:=by unfold zo9;exact⟨Int.tmod_nonneg _ a,Int.tmod_lt_of_pos _ b⟩
def zu8 (N:Nat)(c:Cur)(a:Int):OA:=
 let f:=({ (zdG c) with b:=c.b}:Cur);let e:=({ (zdG f) with b:=c.b}:Cur);let d:=({ (zdG e) with b:=c.b}:Cur); (cond (ile a 0) (some [.agg [.s .u8 c.b,.i .i64 c.i,.i .i64 c.h],aI 0])<|cond (ile a 256) (oN (zfb c)<|oN (ine a 0)<|some [.agg [.s .u8 c.b,.i .i64 (zdG c).i,.i .i64 (zdG c).h],aI<|zo9 (zhq c) a])<|oN (zfb c)<|oN (zfb f)<|oN (zfb e)<|oN (zfb d)<|oN (ine a 0)<|some [.agg [.s .u8 c.b,.i .i64 (zdG d).i,.i .i64 (zdG d).h],aI<|zo9 (zM .i64 (zM .i64 (zM .i64 (zmL .i64 (zhq c) 16777216)<|zmL .i64 (zhq f) 65536)<|zmL .i64 (zhq e) 256)<|zhq d) a])
def zoy (c:Cur)(a:Int)(s:Cur)(d:Int):Prop:=(∃N,zu8 N c a=some (AV.agg (zb4 s)::[aI d]))/\(s.b=c.b/\0<=s.i)/\(0<a->0<=d/\d<a)
def zD (c:Cur)(a:Int):Bool:=wC (zoy c a)
def zf (c:Cur)(a:Int):Cur:=wS (zoy c a)
def zx (c:Cur)(a:Int):Int:=wV (zoy c a)
def ziS {c:Cur}{a:Int}(h:zD c a=true):zoy c a (zf c a) (zx c a):=wG h
def zI (c:Cur)(a0:Int):0<=(zf c a0).i:=wP λh=>h.2.1.2
def zXF (c:Cur)(a:Int)(h:∃N,Ends (wE (λd=>aI d) c.b λd=>0<a->0<=d/\d<a)<|zu8 N c a):zD c a=true:=wI (λ_ _ h=>h) h
def zxd:zek:=rP1 dI λc b=>(zD c b,zf c b,[aI<|zx c b])
def zvE:zbW Tryz.prog 97 [false,true,true] zxd:=hP1 zdv zU zXh zn (zq []) (λ_ _ h=>(ziS h).1)
def zbF {c:Cur}(h:zbi c)(n:Int):zD c n=true:=by
 refine zXF c n ⟨0,?_⟩;have f:=zLR h;have k:zfb {zdG c with b:=c.b}=true:=zLR (zI3 (zod _) h.2);have l:zfb {zdG {zdG c with b:=c.b} with b:=c.b}=true:=zLR (zI3 (zod _) h.2);have m:zfb {zdG {zdG {zdG c with b:=c.b} with b:=c.b} with b:=c.b}=true:=zLR (zI3 (zod _) h.2);have i:=(zoc f).2.2;have q:=(zoc k).2.2;have r:=(zoc l).2.2;have s:=(zoc m).2.2;unfold zu8 oN;conv=>zeta
 refine zbJ (λd=>zbP aI h.1 λu=>absurd (qD d) (by omega)) (λd=>?_);have u:¬ n<=0:=jP d;have j:ine n 0=true:=(by simp[ine];omega);refine zbJ (λt=>zC f (zC j<|zbP aI (zod _) λe=>z1o i.1 e)) (λt=>?_);refine zC f (zC k<|zC l<|zC m<|zC j<|zbP aI (zod _) λe=>z1o ?_ e);generalize zhq c=a at i;generalize zhq _=g at q;generalize zhq _=p at r;generalize zhq _=z at s;have v:zmL .i64 a 16777216=a*16777216:=zu4 (by omega) (by omega);have w:zmL .i64 g 65536=g*65536:=zu4 (by omega) (by omega);have y:zmL .i64 p 256=p*256:=zu4 (by omega) (by omega);rw[v,w,y,zr2 (x:=a*16777216) (by omega) (by omega),zr2 (x:=a*16777216+g*65536) (by omega) (by omega),zr2 (by omega) (by omega)];omega
def zbaB:zc3:=[(97,[false,true,true],zxd)]++zbaA
def zKj:zcd zbaB:=zcP zXh (by
 intro x a;simp only[qG,qO,or_false]at a;rcases a with rfl
 .exact zvE)
def zxS (N:Nat)(c:Cur)(a:Int):OA:=
 (oN (zD c a)<|some [.agg [.s .u8 c.b,.i .i64 (zf c a).i,.i .i64 (zf c a).h],aB<|ieq (zx c a) 0])
def zqO (c:Cur)(a:Int)(s:Cur)(d:Bool):Prop:=(∃N,zxS N c a=some (AV.agg (zb4 s)::[aB d]))/\(s.b=c.b/\0<=s.i)/\(True)
def zde (c:Cur)(a:Int):Bool:=wC (zqO c a)
def zV (c:Cur)(a:Int):Cur:=wS (zqO c a)
def zdq (c:Cur)(a:Int):Bool:=wV (zqO c a)
def zZK {c:Cur}{a:Int}(h:zde c a=true):zqO c a (zV c a) (zdq c a):=wG h
def zcw (c:Cur)(a:Int):0<=(zV c a).i:=wP λh=>h.2.1.2
def zZL (c:Cur)(a:Int)(h:∃N,Ends (wE (λd=>aB d) c.b λd=>True)<|zxS N c a):zde c a=true:=wI (λ_ _ h=>h) h
def zzv:zek:=rP1 dI λc b=>(zde c b,zV c b,[aB<|zdq c b])
def zMK:zbW Tryz.prog 73 [false,true,true] zzv:=hP1 zdv zU zKj zn (zq []) (λ_ _ h=>(zZK h).1)
def zkj {c:Cur}(h:zbi c)(n:Int):zde c n=true:=by refine zZL c n ⟨0,?_⟩;unfold zxS oN;exact zC (zbF h _) (zbP aB (zI _ _) trivial)
def zrk (N:Nat)(c:Cur)(a:LI):OA:=
 (oN (zD c<|ln a)<|oN (inb (zx c<|ln a)<|ln a)<|some [.agg [.s .u8 c.b,.i .i64 (zf c<|ln a).i,.i .i64 (zf c<|ln a).h],aI<|ix a (zx c<|ln a) 0])
def zlX (c:Cur)(a:LI)(s:Cur)(d:Int):Prop:=(∃N,zrk N c a=some (AV.agg (zb4 s)::[aI d]))/\(s.b=c.b/\0<=s.i)/\(0<a.length->d∈a)
def zbA (c:Cur)(a:LI):Bool:=wC (zlX c a)
def zbg (c:Cur)(a:LI):Cur:=wS (zlX c a)
def zbs (c:Cur)(a:LI):Int:=wV (zlX c a)
def zz3 {c:Cur}{a:LI}(h:zbA c a=true):zlX c a (zbg c a) (zbs c a):=wG h
def zb6 (c:Cur)(a0:LI):0<=(zbg c a0).i:=wP λh=>h.2.1.2
def zQ3 (c:Cur)(a:LI)(h:∃N,Ends (wE (λd=>aI d) c.b λd=>0<a.length->d∈a)<|zrk N c a):zbA c a=true:=wI (λ_ _ h=>h) h
def zuh:zek:=rP1 (dS .int) λc b=>(zbA c b,zbg c b,[aI<|zbs c b])
def ztg:zbW Tryz.prog 193 [false,true,true] zuh:=hP1 zdv zU zKj zn (zq []) (λ_ _ h=>(zz3 h).1)
def zfv {c:Cur}(h:zbi c){l:LI}(b:l≠[]):zbA c l=true:=by refine zQ3 c l ⟨0,?_⟩;have d:0<ln l:=(by unfold ln;have:=kR.2 b;omega);have g:=(ziS<|zbF h<|ln l).2.2 d;have a:inb (zx c<|ln l) (ln l)=true:=qI ⟨g.1,g.2⟩;unfold zrk oN;exact zC (zbF h _) (zC a<|zbP aI (zI _ _) λ_=>zbK a 0)
def zbaC:zc3:=[(73,[false,true,true],zzv),(193,[false,true,true],zuh)]++zbaB
def zXi:zcd zbaC:=zcP zKj (by
 intro x a;simp only[qG,qO,or_false]at a;rcases a with rfl|rfl
 .exact zMK
 .exact ztg)
def ctr3:zY:=zx8
def zbbm:zS ctr3:=zdv
def ctr4:zY:=ctr3
def zbbn:zS ctr4:=zbbm
def ctr5:zY:=ctr4
def zbbo:zS ctr5:=zbbn
def ctr6:zY:=ctr5
def zbbp:zS ctr6:=zbbo
def ctr7:zY:=ctr6
def zbbq:zS ctr7:=zbbp
def ctr8:zY:=ctr7
def zbbr:zS ctr8:=zbbq
def ctr9:zY:=ctr8
def zbbs:zS ctr9:=zbbr
def z9k:zY:=ctr9
def z7c:zS z9k:=zbbs
def z9l:zY:=z9k
def z7d:zS z9l:=z7c
def z9m:zY:=z9l
def z7e:zS z9m:=z7d
def z9n:zY:=z9m
def z7f:zS z9n:=z7e
def z9o:zY:=z9n
def z7g:zS z9o:=z7f
def z9p:zY:=z9o
def z7h:zS z9p:=z7g
def z9q:zY:=z9p
def z7i:zS z9q:=z7h
def z9r:zY:=z9q
def z7j:zS z9r:=z7i
def z9s:zY:=z9r
def z7k:zS z9s:=z7j
def z9t:zY:=z9s
def z7l:zS z9t:=z7k
def z9u:zY:=z9t
def z7m:zS z9u:=z7l
def z9v:zY:=z9u
def z7n:zS z9v:=z7m
def z9w:zY:=z9v
def z7o:zS z9w:=z7n
def ctrX:zY:=z9w
def zuR:∀f a,zy ctrX f=some a->Holds Tryz.prog f a:=z7o
def zL (_ _ _:Int):Bool:=true
def zk (x a b:Int):Bool:=ige x a&&ile x b
def zsu:Run:=rF3 dI dI dI λb c d=>(zL b c d,[aB<|zk b c d])
def zRV (N:Nat)(a b c:Int):OA:=
 (cond (ige a b) (some [aB<|ile a c]) oF)
def zH3 (a b c:Int)(d:zbL big [aI a,aI b,aI c])(e:zL a b c=true):∃N,zRV N a b c=some [aB<|zk a b c]:=by refine⟨0,?_⟩;unfold zRV zk;cases ige a b<;>rfl
def zTw:vM 93 zsu:=hF3 zuR zU zo zn (zq []) zH3
def zby (_ _:Int):Bool:=true
abbrev zdk (i n:Int):Bool:=hasB i n
def zSS:Run:=rF2 dI dI λb c=>(zby b c,[aB<|zdk b c])
def z0i (N:Nat)(a b:Int):OA:=
 (cond (ige a 0) (some [aB<|ilt a b]) oF)
def z5r (a b:Int)(c:zby a b=true):∃N,z0i N a b=some [aB<|zdk a b]:=by refine⟨0,?_⟩;unfold z0i zdk;rw[<- has_eq];cases ige a 0<;>rfl
def zY9:vM 91 zSS:=kF2 zuR zU zo zn (zq []) z5r
def zEz {n:Nat}(c:n<=big)(i:Int):zk i 0 (wsub .i64 (n:Int) 1)=hasB i n:=by rw[zly]at c;rw[zr4 (by omega) (by omega)];unfold zk ige ile hasB;by_cases a:0<=i<;>by_cases b:i<n;{rw [qI (p:=i≥0) (by omega),qI (p:=i<=(n:Int)-1) (by omega),qI (p:=0<=i/\i<(n:Int)) ⟨a,b⟩];rfl};{rw [qJ (p:=i<=(n:Int)-1) (by omega),qJ (p:=0<=i/\i<(n:Int)) (by omega)];simp};{rw [qJ (p:=i≥0) (by omega),qJ (p:=0<=i/\i<(n:Int)) (by omega)];simp};{rw [qJ (p:=i≥0) (by omega),qJ (p:=0<=i/\i<(n:Int)) (by omega)];simp}
def zg9 (l:List LI):Bool:=pc (CVB sm<|.s (.sl .int) l)
abbrev zfq (l:List LI):List LI:=l
def zCq:Run:=rF1 (dS<|.sl .int) λb=>(zg9 b,[aS (.sl .int)<|zfq b])
def zHE (N:Nat)(c:lM):OA:=
 (iter (σ:=(Int×lM×lM×Unit)) N (λd a=>let b:=ap []<|ix a.2.1 a.1 []; (cond (ilt a.1<|ln a.2.1) (oN (inb a.1<|ln a.2.1)<|oN (few<|ln b)<|oN (few<|ln<|ap a.2.2.1 [b])<|d (zM .i64 a.1 1,a.2.1,ap a.2.2.1 [b],()))<|some [aS (.sl .int) a.2.2.1])) (0,c,[],()))
def zUB:=zq [(200,0,{n:=22,tm:=[(0,.sl 0 []),(3,.sl 1 []),(4,ti)],lo:=[],ro:=[(0,.sl .int,false),(1,.sl .int,true)]})]
def zT9 (b:List LI)(f:zg9 b=true):∃N,zHE N b=some [aS (.sl .int)<|zfq b]:=by
 have e:=zO.1 f;have d:=zcJ e.len;refine⟨b.length+1,?_⟩;unfold zHE oN;conv=>zeta
 refine(zbj b (λi a=>((i:Int),b,a,())) _ (λ_ x a k=>bif few (ln x) then (cond (few<|ln<|ap a [x]) (k<|ap a [x]) none) else none) (λa=>some [AV.one<|.s (.sl .int) a])
  (λi c t rec=>?_) (λt rec=>?_) _ [] (j3 _)).trans (zkJ (λx=>few (ln x)) (λx=>x) _ b 0 [] (λx g=>⟨zfP (zcJ (e.inv.2 x g _ (qF.2 rfl)).len).2,rfl⟩) (by simpa using d.2))
 {simp only [zbr c,zZ c,zbk c,cT,zba c d.1,znP]};{simp only [zbl,cF]}
def zMN:vM 200 zCq:=kF1 zuR zU zo zn zUB zT9
abbrev zha (k:Kept):Bool:=pc (∀c∈Ty.cells .kept k,CVB sm c)
abbrev zea (k:Kept):Kept:=k
def zCr:Run:=rF1 (dT .kept) λb=>(zha b,[aT .kept<|zea b])
def zHF (N:Nat)(a:Kept):OA:=
 (oN (few<|ln<|ap [] a.Known)<|oN (few<|ln<|ap [] a.Slots)<|some [.agg [.s .bool<|ap [] a.Known,.s .slot<|ap [] a.Slots]])
def zUa (a:Kept)(d:zha a=true):∃N,zHF N a=some [aT .kept<|zea a]:=by have h:=zO.1 d;have b:=zpH (h (.s .bool a.Known) (by simp[Ty.cells]));have c:=zpH (h (.s .slot a.Slots) (by simp[Ty.cells]));refine⟨0,?_⟩;simp only[zHF,znP,b,c,cT];rfl
def zMP:vM 202 zCr:=kF1 zuR zU zo zn (zq []) zUa
def zdH (g:Guest):Bool:=pc (∀c∈Ty.cells .guest g,CVB sm c)
abbrev zdg (g:Guest):Guest:=g
def zCs:Run:=rF1 (dT .guest) λb=>(zdH b,[aT .guest<|zdg b])
def zHG (N:Nat)(a:Guest):OA:=
 (oN (few<|ln<|ap [] a.Prog)<|oN (few<|ln<|ap [] a.Written)<|oN (few<|ln<|ap [] a.Live)<|oN (few<|ln<|ap [] a.Seen)<|some [.agg [.s .ins<|ap [] a.Prog,.i .i64 a.A,.i .i64 a.Pc,.s .slot<|ap [] a.Written,.s .slot<|ap [] a.Live,.i .i64 a.Ctl.Traps,.i .i64 a.Ctl.Post,.b a.Ctl.Open,.i .i64 a.Pending,.i .i64 a.Exit.Kind,.i .i64 a.Exit.Page,.b a.Exit.Write,.i .i64 a.Exit.N,.b a.Halted,.s .int<|ap [] a.Seen]])
def zUb (a:Guest)(f:zdH a=true):∃N,zHG N a=some [aT .guest<|zdg a]:=by have h:=zO.1 f;have b:=zpH (h (.s .ins a.Prog) (by simp[Ty.cells]));have c:=zpH (h (.s .slot a.Written) (by simp[Ty.cells]));have d:=zpH (h (.s .slot a.Live) (by simp[Ty.cells]));have e:=zpH (h (.s .int a.Seen) (by simp[Ty.cells]));refine⟨0,?_⟩;simp only[zHG,znP,b,c,d,e,cT];rfl
def zMT:vM 252 zCs:=kF1 zuR zU zo zn (zq []) zUb
def z9x:zY:=[(93,zsu),(91,zSS),(200,zCq),(202,zCr),(252,zCs)]++ctrX
def zVr:zS z9x:=zh zTw (zh zY9<|zh zMN<|zh zMP<|zh zMT zuR)
def zgG (l:List Guest):Bool:=pc (CVB sm<|.s .guest l)
abbrev zhc (l:List Guest):List Guest:=l
def zxw:Run:=rF1 (dS .guest) λb=>(zgG b,[aS .guest<|zhc b])
def zBV (N:Nat)(c:lG):OA:=
 (iter (σ:=(Int×lG×lG×Unit)) N (λd a=>let b:=ix a.2.1 a.1 zu; (cond (ilt a.1<|ln a.2.1) (oN (inb a.1<|ln a.2.1)<|oN (zdH b)<|oN (few<|ln<|ap a.2.2.1 [zdg b])<|d (zM .i64 a.1 1,a.2.1,ap a.2.2.1 [zdg b],()))<|some [aS .guest a.2.2.1])) (0,c,[],()))
def zOE:=zq [(201,0,{n:=21,tm:=[(0,.sl 0 []),(3,.sl 1 []),(4,ti)],lo:=[],ro:=[(0,.guest,false),(1,.guest,true)]})]
def zNy (b:List Guest)(f:zgG b=true):∃N,zBV N b=some [aS .guest<|zhc b]:=by
 have e:=zO.1 f;have d:=zcJ e.len;refine⟨b.length+1,?_⟩;unfold zBV oN;conv=>zeta
 refine(zbj b (λi a=>((i:Int),b,a,())) _ (λ_ x a k=>bif zdH x then (cond (few<|ln<|ap a [zdg x]) (k<|ap a [zdg x]) none) else none) (λa=>some [AV.one<|.s .guest a])
  (λi c t rec=>?_) (λt rec=>?_) _ [] (j3 _)).trans (zkJ zdH zdg _ b 0 [] (λx g=>⟨zbd<|e.inv.2 x g,rfl⟩) (by simpa using d.2))
 {simp only [zbr c,zZ c,zbk c,cT,zba c d.1]};{simp only [zbl,cF]}
def zGH:vM 201 zxw:=kF1 zVr zU zo zn zOE zNy
def z9y:zY:=[(201,zxw)]++z9x
def zVs:zS z9y:=zh zGH zVr
abbrev zk7 (m:Mon):Bool:=pc (∀c∈Ty.cells .mon m,CVB sm c)
abbrev zo0 (m:Mon):Mon:=m
def zFd:Run:=rF1 (dT .mon) λb=>(zk7 b,[aT .mon<|zo0 b])
def zLD (N:Nat)(b:Mon):OA:=
 (oN (few<|ln<|ap [] b.Outer)<|oN (zg9 b.Out)<|oN (few<|ln<|ap [] b.Dirty)<|oN (zgG b.Guests)<|oN (few<|ln<|ap [] b.Outs)<|iter (σ:=(Int×Int×Int×Int×Int×Int×Int×lK×lS×lM×lB×lG×LI×lK×lS×lM×lB×lG×LI×lK×Unit)) N (λf a=>let e:=a.2.2.2.2.2.2.2.2.2.2.2.2.1;let c:=a.2.2.2.2.2.2.2.2.2.2.2.2.2.1;let d:=ap a.2.2.2.2.2.2.2.1 [zea<|ix c a.1 zdz]; (cond (ilt a.1<|ln c) (oN (inb a.1<|ln c)<|oN (zha<|ix c a.1 zdz)<|oN (few<|ln d)<|f (zM .i64 a.1 1,a.2.1,a.2.2.1,a.2.2.2.1,a.2.2.2.2.1,a.2.2.2.2.2.1,a.2.2.2.2.2.2.1,d,a.2.2.2.2.2.2.2.2.1,a.2.2.2.2.2.2.2.2.2.1,a.2.2.2.2.2.2.2.2.2.2.1,a.2.2.2.2.2.2.2.2.2.2.2.1,e,c,a.2.2.2.2.2.2.2.2.2.2.2.2.2.2.1,a.2.2.2.2.2.2.2.2.2.2.2.2.2.2.2.1,a.2.2.2.2.2.2.2.2.2.2.2.2.2.2.2.2.1,a.2.2.2.2.2.2.2.2.2.2.2.2.2.2.2.2.2.1,a.2.2.2.2.2.2.2.2.2.2.2.2.2.2.2.2.2.2.1,a.2.2.2.2.2.2.2.2.2.2.2.2.2.2.2.2.2.2.2.1,()))<|some [.agg [.s .slot a.2.2.2.2.2.2.2.2.1,.s (.sl .int) a.2.2.2.2.2.2.2.2.2.1,.s .bool a.2.2.2.2.2.2.2.2.2.2.1,.s .guest a.2.2.2.2.2.2.2.2.2.2.2.1,.s .int e,.i .i64 a.2.1,.i .i64 a.2.2.1,.s .kept a.2.2.2.2.2.2.2.1,.i .i64 a.2.2.2.1]])) (0,b.Pending,b.Traps,b.Own,0,0,0,[],ap [] b.Outer,zfq b.Out,ap [] b.Dirty,zhc b.Guests,ap [] b.Outs,b.Tables,[],[],[],[],[],[],()))
def zYB:=zq [(94,0,{n:=48,tm:=[(1,.lp 0 0),(2,.lp 1 0),(3,.sl 0 []),(4,ti)],lo:=[(0,[.sl 1 [],.sl 2 [],.sl 3 [],.sl 4 [],.sl 5 [],ti,ti,.sl 6 [],ti]),(1,[.sl 7 [],.sl 8 [],.sl 9 [],.sl 10 [],.sl 11 [],ti,ti,.sl 12 [],ti])],ro:=[(0,.kept,true),(1,.slot,true),(2,.sl .int,true),(3,.bool,true),(4,.guest,true),(5,.int,true),(6,.kept,false),(7,.slot,true),(8,.sl .int,true),(9,.bool,true),(10,.guest,true),(11,.int,true),(12,.kept,true)]})]
def zWZ (a:Mon)(n:zk7 a=true):∃N,zLD N a=some [aT .mon<|zo0 a]:=by
 have h:=zO.1 n;have f:=zpH (h (.s .slot a.Outer) (by simp[Ty.cells]));have g:zg9 a.Out=true:=zbd (h (.s (.sl .int) a.Out) (by simp[Ty.cells]));have j:=zpH (h (.s .bool a.Dirty) (by simp[Ty.cells]));have l:zgG a.Guests=true:=zbd (h (.s .guest a.Guests) (by simp[Ty.cells]));have m:=zpH (h (.s .int a.Outs) (by simp[Ty.cells]));have d:CVB sm (.s .kept a.Tables):=h (.s .kept a.Tables) (by simp[Ty.cells]);have e:=zcJ d.len;refine⟨a.Tables.length+1,?_⟩;unfold zLD oN;conv=>zeta
 simp only[znP,f,g,j,l,m,cT];refine(zbj a.Tables (λi b=>((i:Int),a.Pending,a.Traps,a.Own,0,0,0,b,a.Outer,zfq a.Out,a.Dirty,zhc a.Guests,a.Outs,a.Tables,[],[],[],[],[],[],())) _
  (λ_ x b k=>bif zha x then (cond (few<|ln<|ap b [zea x]) (k<|ap b [zea x]) none) else none) (λb=>some [AV.agg<|Ty.cells .mon ⟨a.Outer,a.Out,a.Dirty,a.Guests,a.Outs,a.Pending,a.Traps,b,a.Own⟩])
  (λi c t rec=>?_) (λt rec=>?_) _ [] (j3 _)).trans (zkJ zha zea _ a.Tables 0 [] (λx p=>⟨zbd<|d.inv.2 x p,rfl⟩) (by simpa using e.2))
 {simp only [zbr c,zZ c,zbk c,cT,zba c e.1]};{simp only [zbl,cF];rfl}
def zP2:vM 94 zFd:=kF1 zVs zU zo zn zYB zWZ
def z9z:zY:=[(94,zFd)]++z9y
def zVt:zS z9z:=zh zP2 zVs
def zxJ (h:Host)(_:Int):Bool:=pc (zdm h)
def ze3 (h:Host)(m:Int):Mon:=bif hasB m (ln h.Mons) then ix h.Mons m zi else Ty.dflt .mon
def zts (h:Host)(m:Int):Bool:=hasB m (ln h.Mons)
def zss:Run:=rF2 dH dI λb c=>(zxJ b c,[aT .mon<|ze3 b c,aB<|zts b c])
def zRP (N:Nat)(b:Host)(c:Int):OA:=
 let d:=ix b.Mons c zi;let a:=zo0 d; (oN (zL c 0<|wsub .i64 (ln b.Mons) 1)<|cond (nB<|zk c 0<|wsub .i64 (ln b.Mons) 1) (some [.agg [.s .slot [],.s (.sl .int) [],.s .bool [],.s .guest [],.s .int [],.i .i64 0,.i .i64 0,.s .kept [],.i .i64 0],aB false])<|oN (inb c<|ln b.Mons)<|oN (zk7 d)<|some [.agg [.s .slot a.Outer,.s (.sl .int) a.Out,.s .bool a.Dirty,.s .guest a.Guests,.s .int a.Outs,.i .i64 a.Pending,.i .i64 a.Traps,.s .kept a.Tables,.i .i64 a.Own],aB true])
def zZt (b:Host)(a:Int)(f:zxJ b a=true):∃N,zRP N b a=some [aT .mon<|ze3 b a,aB<|zts b a]:=by
 have h:=(zO.1 f).mons;refine⟨0,?_⟩;unfold zRP ze3 zts oN nB;conv=>zeta
 have e:zk a 0 (wsub .i64 (ln b.Mons) 1)=hasB a (ln b.Mons):=zEz (zcJ h.len).1 a;rw[e];cases c:hasB a (ln b.Mons);{simp [zL,Ty.cells,Ty.dflt]};{have d:zk7 (ix b.Mons a zi)=true:=zbd (h.inv.2 _<|zbK c _);simp only[zL,cT,jT,cF,zB c,d];rfl}
def ztL:vM 18 zss:=kF2 zVt zU zo zn (zq []) zZt
def z9A:zY:=[(18,zss)]++z9z
def z7p:zS z9A:=zh ztL zVt
def z9B:zY:=z9A
def z7q:zS z9B:=z7p
def z7K:zY:=z9B
def zrr:∀f a,zy z7K f=some a->Holds Tryz.prog f a:=z7q
def noSlot:Slot:=⟨-1,0⟩
def zbI:Bool:=true
abbrev zbc:Slot:=noSlot
def zmu:Run:=rF0 (zbI,[aT .slot zbc])
def z1q (N:Nat)  : OA :=
 (some [.agg [.i .i64<|-1,.i .i64 0]])
def zEJ  (a:zbL big []) (b:zbI=true):∃N,z1q N  = some [aT .slot zbc]:=by exact⟨0,rfl⟩
def zzd:vM 113 zmu:=hF0 zrr zU zo zn (zq []) zEJ
def zPe:vM 108 zmu:=hF0 zrr zU zo zn (zq []) zEJ
def zPu:vM 104 zsu:=hF3 zrr zU zo zn (zq []) zH3
def z9D:zY:=[(113,zmu),(108,zmu),(104,zsu)]++z7K
def zIR:zS z9D:=zh zzd (zh zPe<|zh zPu zrr)
def zd1 (r:Int):Bool:=ige r 0&&ile r 3
def zdW (_:Int):Bool:=true
abbrev zg7 (r:Int):Bool:=zd1 r
def znh:Run:=rF1 dI λb=>(zdW b,[aB<|zg7 b])
def zU6 (N:Nat)(a:Int):OA:=
 (oN (zL a 0 3)<|some [aB<|zk a 0 3])
def zzl (a:Int)(b:zbL big [aI a])(c:zdW a=true):∃N,zU6 N a=some [aB<|zg7 a]:=by exact⟨0,rfl⟩
def zJD:vM 126 znh:=hF1 zIR zU zo zn (zq []) zzl
def zJh:vM 219 znh:=hF1 zIR zU zo zn (zq []) zzl
def z9E:zY:=[(126,znh),(219,znh)]++z9D
def zoI:zS z9E:=zh zJD (zh zJh zIR)
def zeL (a b:Int):Int:=bif zd1 a then (cond (zd1 b) (wand .i64 a b) 0) else 0
abbrev zhn (a b:Int):Int:=zeL a b
def zkX:Run:=rF2 dI dI λb c=>(zby b c,[aI<|zhn b c])
def zyN (N:Nat)(a b:Int):OA:=
 (oN (zdW a)<|cond (nB<|zg7 a) (some [aI 0])<|oN (zdW b)<|cond (nB<|zg7 b) (some [aI 0])<|some [aI<|wand .i64 a b])
def zvK (a b:Int)(c:zbL big [aI a,aI b])(d:zby a b=true):∃N,zyN N a b=some [aI<|zhn a b]:=by refine⟨0,?_⟩;unfold zyN zhn zeL zg7 oN nB;cases zd1 a<;>cases zd1 b<;>rfl
def zEk:vM 319 zkX:=hF2 zoI zU zo zn (zq []) zvK
def zEd:vM 373 zkX:=hF2 zoI zU zo zn (zq []) zvK
def enough (a b:Int):Bool:=bif zd1 a then (cond (zd1 b) (ieq (wand .i64 a b) b) false) else false
abbrev zcZ (a b:Int):Bool:=enough a b
def zqc:Run:=rF2 dI dI λb c=>(zby b c,[aB<|zcZ b c])
def zLd (N:Nat)(b a:Int):OA:=
 (oN (zdW b)<|cond (zg7 b) (oN (zdW a)<|cond (zg7 a) (some [aB<|ieq (wand .i64 b a) a]) oF) oF)
def zEF (a b:Int)(c:zbL big [aI a,aI b])(d:zby a b=true):∃N,zLd N a b=some [aB<|zcZ a b]:=by refine⟨0,?_⟩;unfold zLd zcZ enough zg7 oN;cases zd1 a<;>cases zd1 b<;>rfl
def zPw:vM 34 zqc:=hF2 zoI zU zo zn (zq []) zEF
def zO6:vM 110 zqc:=hF2 zoI zU zo zn (zq []) zEF
def zbE (t:List Slot)(p:Int):Slot:=bif hasB p (ln t) then ix t p zX else noSlot
def zfh (_:List Slot)(_:Int):Bool:=true
abbrev zer (t:List Slot)(p:Int):Slot:=zbE t p
def zqn:Run:=rF2 (dS .slot) dI λb c=>(zfh b c,[aT .slot<|zer b c])
def zLu (N:Nat)(a:lS)(b:Int):OA:=
 (oN (zL b 0<|wsub .i64 (ln a) 1)<|cond (nB<|zk b 0<|wsub .i64 (ln a) 1) (oN zbI<|some [.agg [.i .i64 zbc.Page,.i .i64 zbc.Rights]])<|oN (inb b<|ln a)<|some [.agg [.i .i64 (ix a b zX).Page,.i .i64 (ix a b zX).Rights]])
def zWS (b:List Slot)(a:Int)(c:zbL big [aS .slot b,aI a])(g:zfh b a=true):∃N,zLu N b a=some [aT .slot<|zer b a]:=by have f:=len0 c;refine⟨0,?_⟩;unfold zLu zer zbE oN nB;have e:zk a 0 (wsub .i64 (ln b) 1)=hasB a (ln b):=zpQ f a;rw[e];cases d:hasB a (ln b);{rfl};{rw [zB d];rfl}
def zPL:vM 175 zqn:=hF2 zoI zU zo zn (zq []) zWS
def zK4 (N:Nat)(a:lS)(b:Int):OA:=
 (oN (zby b<|ln a)<|cond (nB<|zdk b<|ln a) (oN zbI<|some [.agg [.i .i64 zbc.Page,.i .i64 zbc.Rights]])<|oN (inb b<|ln a)<|some [.agg [.i .i64 (ix a b zX).Page,.i .i64 (ix a b zX).Rights]])
def zWw (a:List Slot)(b:Int)(d:zfh a b=true):∃N,zK4 N a b=some [aT .slot<|zer a b]:=by refine⟨0,?_⟩;unfold zK4 zer zbE zdk oN nB;cases c:hasB b (ln a);{rfl};{rw [zB c];rfl}
def zPm:vM 173 zqn:=kF2 zoI zU zo zn (zq []) zWw
def z9F:zY:=[(319,zkX),(373,zkX),(34,zqc),(110,zqc),(175,zqn),(173,zqn)]++z9E
def zrq:zS z9F:=zh zEk (zh zEd<|zh zPw<|zh zO6<|zh zPL<|zh zPm zoI)
def zc1 (a b:Slot):Bool:=ieq a.Page b.Page&&ieq a.Rights b.Rights
def below' (a b:Slot):Bool:=bif zc1 a noSlot then true else (cond (ieq a.Page b.Page) (enough b.Rights a.Rights) false)
def zxx (_ _:Slot):Bool:=true
def zz1 (a b:Slot):Bool:=below' a b
def zIe:Run:=rF2 (dT .slot) (dT .slot) λb c=>(zxx b c,[aB<|zz1 b c])
def zRI (N:Nat)(a:Slot)(b:Slot):OA:=
 (oN zbI<|cond (cond (ieq a.Page zbc.Page) (ieq a.Rights zbc.Rights) false) oT<|cond (ieq a.Page b.Page) (oN (zby b.Rights a.Rights)<|some [aB<|zcZ b.Rights a.Rights]) oF)
def zZo (a:Slot)(b:Slot)(c:zxx a b=true):∃N,zRI N a b=some [aB<|zz1 a b]:=by refine⟨0,?_⟩;unfold zRI zz1 below' zc1 zbc oN;cases ieq a.Page noSlot.Page<;>cases ieq a.Rights noSlot.Rights<;>cases ieq a.Page b.Page<;>rfl
def zTk:vM 262 zIe:=kF2 zrq zU zo zn (zq []) zZo
def zbx (s:Slot)(a:List Slot):Slot :=
 bif ieq s.Page (-1) then noSlot else (cond (ieq (zbE a s.Page).Page<|-1) noSlot<|cond (ieq (zeL s.Rights (zbE a s.Page).Rights) 0) noSlot ⟨(zbE a s.Page).Page,zeL s.Rights (zbE a s.Page).Rights⟩)
def zej (_:Slot)(_:List Slot):Bool:=true
def zev (s:Slot)(a:List Slot):Slot:=zbx s a
def zjV:Run:=rF2 (dT .slot) (dS .slot) λb c=>(zej b c,[aT .slot<|zev b c])
def zwt (N:Nat)(a:Slot)(c:lS):OA:=
 let b:=zer c a.Page; (oN (zfh c a.Page)<|oN (zby a.Rights b.Rights)<|cond (ieq a.Page<|-1) (oN zbI<|some [.agg [.i .i64 zbc.Page,.i .i64 zbc.Rights]])<|cond (ieq b.Page<|-1) (oN zbI<|some [.agg [.i .i64 zbc.Page,.i .i64 zbc.Rights]])<|cond (ieq (zhn a.Rights b.Rights) 0) (oN zbI<|some [.agg [.i .i64 zbc.Page,.i .i64 zbc.Rights]])<|some [.agg [.i .i64 b.Page,.i .i64<|zhn a.Rights b.Rights]])
def zug (a:Slot)(b:List Slot)(c:zbL big [aT .slot a,aS .slot b])(d:zej a b=true):∃N,zwt N a b=some [aT .slot<|zev a b]:=by
 refine⟨0,?_⟩;unfold zwt zev zbx zer zhn oN;conv=>zeta
 cases ieq a.Page (-1)<;>cases ieq (zbE b a.Page).Page (-1)<;>cases ieq (zeL a.Rights (zbE b a.Page).Rights) 0<;>rfl
def zCM:vM 261 zjV:=hF2 zrq zU zo zn (zq []) zug
def zCJ:vM 353 zjV:=hF2 zrq zU zo zn (zq []) zug
def zcR (x:Int):Int:=bif (ige x 1&&ile x 6) then zRz .i64 (wsub .i64 x 1) 2 else -1
def zdx (x:Int):Int:=bif (ige x 1&&ile x 6) then zo9 (wsub .i64 x 1) 2 else -1
def zwe (x:Int):Int:=zcR x
def zFa:Run:=rF1 dI λb=>(zdW b,[aI<|zwe b])
def zLx (N:Nat)(a:Int):OA:=
 (oN (zL a 1 6)<|cond (nB<|zk a 1 6) (some [aI<|-1])<|oN (ine 2 0)<|some [aI<|zRz .i64 (wsub .i64 a 1) 2])
def zWU (a:Int)(b:zdW a=true):∃N,zLx N a=some [aI<|zwe a]:=by refine⟨0,?_⟩;unfold zLx zwe zcR zk oN nB;cases ige a 1&&ile a 6<;>rfl
def zPO:vM 259 zFa:=kF1 zrq zU zo zn (zq []) zWU
def zqK (x:Int):Int:=zdx x
def zzW:Run:=rF1 dI λb=>(zdW b,[aI<|zqK b])
def zDB (N:Nat)(a:Int):OA:=
 (oN (zL a 1 6)<|cond (nB<|zk a 1 6) (some [aI<|-1])<|oN (ine 2 0)<|some [aI<|zo9 (wsub .i64 a 1) 2])
def zQK (a:Int)(b:zdW a=true):∃N,zDB N a=some [aI<|zqK a]:=by refine⟨0,?_⟩;unfold zDB zqK zdx zk oN nB;cases ige a 1&&ile a 6<;>rfl
def zJG:vM 260 zzW:=kF1 zrq zU zo zn (zq []) zQK
def z9G:zY:=[(262,zIe),(261,zjV),(353,zjV),(259,zFa),(260,zzW)]++z9F
def zVv:zS z9G:=zh zTk (zh zCM<|zh zCJ<|zh zPO<|zh zJG zrq)
def zrB (k:Kept)(a b:List Slot)(i:Nat):Bool :=
 zc1 (ix k.Slots i zX) (cond (ix k.Known i false) (zbx (ix a i zX) b) noSlot)
def zpP (k:Kept)(a b:List Slot):Bool :=
 bif ine (ln k.Known) (ln a) then false else (cond (ine (ln k.Slots)<|ln a) false<|znC (zrB k a b) a.length 0)
def z0F {a b:Type}{l:List a}{m:List b}(h:ine (ln l) (ln m)=false):l.length=m.length:=by have:(ln l==ln m)=true:=(by simpa [ine,bne] using h);have:=eq_of_beq this;simp only[ln] at this;omega
def zuE (_:Kept)(_ _:List Slot):Bool:=true
def zwc (k:Kept)(a b:List Slot):Bool:=zpP k a b
def zE7:Run:=rF3 (dT .kept) (dS .slot) (dS .slot) λb c d=>(zuE b c d,[aB<|zwc b c d])
def zLi (N:Nat)(b:Kept)(e h:lS):OA:=
 (cond (ine (ln b.Known)<|ln e) oF<|cond (ine (ln b.Slots)<|ln e) oF<|iter (σ:=(Int×lS×lS×lB×lS×Unit)) N (λi a=>let d:=a.2.2.2.2.1;let f:=ix a.2.1 a.1 zX;let g:=i (zM .i64 a.1 1,a.2.1,a.2.2.1,a.2.2.2.1,d,());let c:=ix d a.1 zX; (cond (ilt a.1<|ln a.2.1) (oN zbI<|oN (inb a.1<|ln a.2.2.2.1)<|cond (ix a.2.2.2.1 a.1 false) (oN (inb a.1<|ln a.2.1)<|oN (zej f a.2.2.1)<|oN (inb a.1<|ln d)<|cond (nB<|cond (ieq c.Page (zev f a.2.2.1).Page) (ieq c.Rights (zev f a.2.2.1).Rights) false) oF g)<|oN (inb a.1<|ln d)<|cond (nB<|cond (ieq c.Page zbc.Page) (ieq c.Rights zbc.Rights) false) oF g) oT)) (0,e,h,b.Known,b.Slots,()))
def zYq:=zq [(258,0,{n:=48,tm:=[(1,.sl 0 []),(2,.sl 1 []),(3,.lp 0 0),(7,ti)],lo:=[(0,[.sl 2 [],.sl 3 []])],ro:=[(0,.slot,false),(1,.slot,false),(2,.bool,false),(3,.slot,false)]})]
def zWI (a:Kept)(c d:List Slot)(p:zbL big [aT .kept a,aS .slot c,aS .slot d])(q:zuE a c d=true):∃N,zLi N a c d=some [aB<|zwc a c d]:=by
 have h:=((zcK (zcK p).2).1 _ (qF.2 rfl)).len;refine zcg λN f=>?_;unfold zLi zwc zpP oN nB;conv=>zeta
 cases m:ine (ln a.Known) (ln c);{cases n:ine (ln a.Slots) (ln c);{have j:=z0F m;have k:=z0F n;simp only[cF];refine(zbj c (λi (t:Unit)=>((i:Int),c,d,a.Known,a.Slots,())) _ (λi _ (_:Unit) g=>bif zrB a c d i then g () else oF) (λ(t:Unit)=>some [.one<|.b true]) (λi e t rec=>?_) (λt rec=>?_) _ ()<|f h).trans ?_;{simp only [zbr e,zZ e,zbk e,zba e h,cT];simp only[zZ (l:=a.Known) (i:=i)<|j ▸ e,zZ (l:=a.Slots) (i:=i)<|k ▸ e,zbI,zej,cT,zrB,zc1,zev,zbc,zbk e];cases ix a.Known (↑i) false;{simp only [cF];cases ieq (ix a.Slots (↑i) zX).Page noSlot.Page<;>cases ieq (ix a.Slots (↑i) zX).Rights noSlot.Rights<;>rfl};{simp only [cT];generalize zbx c[i] d=z;cases ieq (ix a.Slots (↑i) zX).Page z.Page<;>cases ieq (ix a.Slots (↑i) zX).Rights z.Rights<;>rfl}};{simp only [zbl,cF]};rw[zuU λi t g=>bif zrB a c d i then g () else oF,zy4];cases znC (zrB a c d) c.length 0<;>rfl};{rfl}};{rfl}
def zPA:vM 258 zE7:=hF3 zVv zU zo zn zYq zWI
def z9H:zY:=[(258,zE7)]++z9G
def zIS:zS z9H:=zh zPA zVv
def zo6 (a:List Slot)(b:List Kept):List Guest->Nat->Bool
 |[],_=>true
 |g::l,i=>bif ilt (i:Int) (ln b) then (cond (zpP (ix b (i:Int) zdz) g.Live a) (zo6 a b l<|i+1) false) else true
def zL9 {e:Type}(a:List Slot)(b:List Kept)(r c:Option e):∀(l:List Guest) (i:Nat),
 goL (λi g (_:Unit) d=>bif ilt (i:Int) (ln b) then (cond (zpP (ix b (i:Int) zdz) g.Live a) (d ()) r) else c) (λ_=>c) l i ()=bif zo6 a b l i then c else r
 |[],_=>rfl
 |g::l,i=>by simp only[goL,zo6];cases ilt (i:Int) (ln b);{rfl};{cases zpP (ix b (i:Int) zdz) g.Live a;{rfl};{exact zL9 a b r c l (i+1)}}
def zbbU {i:Nat}{a:Type}{l:List a}(h:ilt (i:Int) (ln l)=true):inb (i:Int) (ln l)=true:=by have:=qD h;exact qI ⟨by omega,this⟩
def tablesOf (m:Mon):Bool:=zo6 m.Outer m.Tables m.Guests 0
def zsX (h:Host):Bool:=h.Mons.all tablesOf
def zqJ (_:Host):Bool:=true
def zja (h:Host):Bool:=zsX h
def znI:Run:=rF1 dH λb=>(zqJ b,[aB<|zja b])
def zwE (N:Nat)(e:Host):OA:=
 (iter (σ:=(Int×lM×lN×lE×lE×Unit)) N (λn b=>let h:=ix b.2.2.1 b.1 zi; (cond (ilt b.1<|ln b.2.2.1) (oN (inb b.1<|ln b.2.2.1)<|iter (σ:=(Int×Int×Int×Int×Int×Int×Int×Int×Int×Int×Int×lM×lN×lE×lE×Unit)) N (λp a=>let l:=a.2.2.2.2.2.2.2.2.2.2.2.2.2.1;let k:=a.2.2.2.2.2.2.2.2.2.2.2.2.2.2.1;let c:=a.2.1;let d:=a.2.2.2.2.2.2.2.2.2.2.2.2.1;let j:=(ix d a.2.2.1 zi).Outer;let g:=(ix d a.2.2.2.2.2.1 zi).Guests;let m:=(ix g c zu).Live;let i:=n (zM .i64 a.1 1,a.2.2.2.2.2.2.2.2.2.2.2.1,d,l,k,());let f:=(ix d a.2.2.2.2.2.2.2.2.2.1 zi).Tables; (cond (ilt c<|ln g) (cond (ilt c<|ln f) (oN (inb c<|ln f)<|oN (inb c<|ln g)<|oN (zuE (ix f c zdz) m j)<|cond (nB<|zwc (ix f c zdz) m j) oF<|p (a.1,zM .i64 c 1,a.2.2.1,a.2.2.2.1,a.2.2.2.2.1,a.2.2.2.2.2.1,a.2.2.2.2.2.2.1,a.2.2.2.2.2.2.2.1,a.2.2.2.2.2.2.2.2.1,a.2.2.2.2.2.2.2.2.2.1,a.2.2.2.2.2.2.2.2.2.2.1,a.2.2.2.2.2.2.2.2.2.2.2.1,d,l,k,())) i) i)) (b.1,0,b.1,b.1,b.1,b.1,b.1,h.Pending,h.Traps,b.1,h.Own,b.2.1,b.2.2.1,b.2.2.2.1,b.2.2.2.2.1,())) oT)) (0,e.Memory,e.Mons,e.Buffer,e.IoBuffer,()))
def zG6:=zq [(153,0,{n:=47,tm:=[(1,.lp 0 0),(3,ti)],lo:=[(0,[.sl 0 [],.sl 1 [],.sl 2 [],.sl 3 []])],ro:=[(0,.sl .int,false),(1,.mon,false),(2,.entry,false),(3,.entry,false)]}),(153,2,{n:=47,tm:=[(1,.lp 0 0),(3,ti),(4,.lp 1 0),(5,ti)],lo:=[(0,[.sl 0 [],.sl 1 [],.sl 2 [],.sl 3 []]),(1,[.sl 1 [0],.sl 1 [1],.sl 1 [2],.sl 1 [3],.sl 1 [4],ti,ti,.sl 1 [7],ti])],ro:=[(0,.sl .int,false),(1,.mon,false),(2,.entry,false),(3,.entry,false)]})]
def zGU (a:Host)(n:zbL big [aH a])(q:zqJ a=true):∃N,zwE N a=some [aB<|zja a]:=by
 have m:CVB big (.s .mon a.Mons):=(zcK n).1 _ (by simp[AV.cvs,zbn]);have k:=m.len;refine zcg λN d=>?_;unfold zwE oN nB;conv=>zeta
 refine(zbj a.Mons (λi (t:Unit)=>((i:Int),a.Memory,a.Mons,a.Buffer,a.IoBuffer,())) _ (λ_ (x:Mon) (_:Unit) l=>bif tablesOf x then l () else oF) (λ(t:Unit)=>some [.one<|.b true]) (λi c t rec=>?_) (λt rec=>?_) _ ()<|d k).trans ?_;{simp only [zbr c,zZ c,zbk c,zba c k,cT];have e:a.Mons[i].Guests.length<=big:=(m.inv.2 _ (jG c) (.s .guest _) (by simp[Ty.cells])).len;refine(zbj a.Mons[i].Guests (λj (u:Unit)=>((i:Int),(j:Int),(i:Int),(i:Int),(i:Int),(i:Int),(i:Int),a.Mons[i].Pending,a.Mons[i].Traps,(i:Int),a.Mons[i].Own,a.Memory,a.Mons,a.Buffer,a.IoBuffer,())) _ (λj (g:Guest) (_:Unit) l=>bif ilt (j:Int) (ln a.Mons[i].Tables) then (cond (zpP (ix a.Mons[i].Tables (j:Int) zdz) g.Live a.Mons[i].Outer) (l ())<|oF) else rec (((i+1:Nat):Int),a.Memory,a.Mons,a.Buffer,a.IoBuffer,())) (λ(u:Unit)=>rec (((i+1:Nat):Int),a.Memory,a.Mons,a.Buffer,a.IoBuffer,())) (λj h u f=>?_) (λu f=>?_) _ ()<|d e).trans ?_;{simp only [zbr h,zZ h,zbk h,zba h e,cT,zZ c,zbk c,zba c k];cases p:ilt (j:Int) (ln a.Mons[i].Tables);{rfl};{simp only [cT,zbbU p,zuE,zwc];cases zpP (ix a.Mons[i].Tables (↑j) zdz) a.Mons[i].Guests[j].Live a.Mons[i].Outer<;>rfl}};{simp only [zbl,cF,zZ c,zbk c,zba c k]};exact zL9 _ _ _ _ _ _};{simp only [zbl,cF]};rw[zgu];unfold zja zsX;cases a.Mons.all tablesOf<;>rfl
def zrg:vM 153 znI:=hF1 zIS zU zo zn zG6 zGU
def zcM (h:Host)(e:Entry):Bool :=
 bif hasB (zcR e.Tag) (ln h.Mons) then (bif hasB (zdx e.Tag) (ln (ix h.Mons (zcR e.Tag) zi).Guests) then
  below' ⟨e.Host,e.Rights⟩ (zbx (zbE (ix (ix h.Mons (zcR e.Tag) zi).Guests (zdx e.Tag) zu).Live e.Page) (ix h.Mons (zcR e.Tag) zi).Outer) else false) else false
def zj2 (h:Host)(b:List Entry):Bool:=b.all (zcM h)
def zk0 (_:Host)(_:List Entry):Bool:=true
def zgR (h:Host)(b:List Entry):Bool:=zj2 h b
def zmt:Run:=rF2 dH (dS .entry) λb c=>(zk0 b c,[aB<|zgR b c])
def zu7 (N:Nat)(f:Host)(m:lE):OA:=
 (iter (σ:=(Int×lE×lM×lN×lE×lE×Unit)) N (λn a=>let e:=a.2.2.2.1;let d:=inb a.1<|ln a.2.1;let b:=ix a.2.1 a.1 zeR;let l:=(⟨b.Host,b.Rights⟩:Slot);let h:=zqK b.Tag;let g:=zwe b.Tag;let i:=inb g<|ln e;let c:=ix e g zi;let k:=(ix c.Guests h zu).Live;let j:=zer k b.Page; (cond (ilt a.1<|ln a.2.1) (oN d<|oN (zdW b.Tag)<|oN d<|oN (zdW b.Tag)<|oN (zL g 0<|wsub .i64 (ln e) 1)<|cond (nB<|zk g 0<|wsub .i64 (ln e) 1) oF<|oN i<|oN (zL h 0<|wsub .i64 (ln c.Guests) 1)<|cond (nB<|zk h 0<|wsub .i64 (ln c.Guests) 1) oF<|oN i<|oN (inb h<|ln c.Guests)<|oN d<|oN (zfh k b.Page)<|oN i<|oN (zej j c.Outer)<|oN d<|oN d<|oN (zxx l<|zev j c.Outer)<|cond (nB<|zz1 l<|zev j c.Outer) oF<|n (zM .i64 a.1 1,a.2.1,a.2.2.1,e,a.2.2.2.2.1,a.2.2.2.2.2.1,())) oT)) (0,m,f.Memory,f.Mons,f.Buffer,f.IoBuffer,()))
def zFz:=zq [(154,0,{n:=84,tm:=[(1,.sl 0 []),(2,.lp 0 0),(5,ti)],lo:=[(0,[.sl 1 [],.sl 2 [],.sl 3 [],.sl 4 []])],ro:=[(0,.entry,false),(1,.sl .int,false),(2,.mon,false),(3,.entry,false),(4,.entry,false)]})]
def zEG (a:Host)(b:List Entry)(g:zbL big [aH a,aS .entry b])(p:zk0 a b=true):∃N,zu7 N a b=some [aB<|zgR a b]:=by
 have l:CVB big (.s .mon a.Mons):=(zcK g).1 _ (by simp[AV.cvs,zbn]);have j:=((zcK (zcK g).2).1 _ (qF.2 rfl)).len;refine⟨NN,?_⟩;unfold zu7 oN nB;conv=>zeta
 refine(zbj b (λi (_:Unit)=>((i:Int),b,a.Memory,a.Mons,a.Buffer,a.IoBuffer,())) _ (λ_ (x:Entry) (_:Unit) k=>bif zcM a x then k () else oF) (λ_=>oT)
  (λi c t rec=>?_) (λt rec=>?_) _ () (z1s j)).trans ?_
 {simp only [zbr c,zZ c,zbk c,cT,zdW,zwe,zdW,zqK,zL,zfh,zer,zej,zev,zxx,zz1,zba c j];unfold zcM;generalize b[i]=e;have m:zk (zcR e.Tag) 0 (wsub .i64 (ln a.Mons) 1)=hasB (zcR e.Tag) (ln a.Mons):=zpQ l.len _;rw[m];cases h:hasB (zcR e.Tag) (ln a.Mons);{rfl};{have d:(ix a.Mons (zcR e.Tag) zi).Guests.length<=big:=(l.inv.2 _ (zbK h zi) (.s .guest _) (by simp[Ty.cells])).len;have n:zk (zdx e.Tag) 0 (wsub .i64 (ln (ix a.Mons (zcR e.Tag) zi).Guests) 1)=hasB (zdx e.Tag) (ln (ix a.Mons (zcR e.Tag) zi).Guests):=zpQ d _;rw[zB h,n];cases f:hasB (zdx e.Tag) (ln (ix a.Mons (zcR e.Tag) zi).Guests);{rfl};{rw [zB f];simp only[cT,jT,cF];cases below' ⟨e.Host,e.Rights⟩ (zbx (zbE (ix (ix a.Mons (zcR e.Tag) zi).Guests (zdx e.Tag) zu).Live e.Page) (ix a.Mons (zcR e.Tag) zi).Outer)<;>rfl}}};{simp only [zbl,cF]};{rw [zgu];unfold zgR zj2;cases b.all (zcM a)<;>rfl}
def zpK:vM 154 zmt:=hF2 zIS zU zo zn zFz zEG
def z9I:zY:=[(153,znI),(154,zmt)]++z9H
def z7s:zS z9I:=zh zrg (zh zpK zIS)
def ctrW:zY:=z9I
def zOQ:∀f a,zy ctrW f=some a->Holds Tryz.prog f a:=z7s
end
end Go.Proofs.YtkbkcnjpecmckaaGreat.E
