/- What is proved here: a part of the proof that the statement of this claim holds (several texts of wip/, laid together). -/
import Derived.Test.YthdlghbibaoabaaGreatU2
import Derived.HandedShaped
import Derived.ProofKit
import Derived.KernelRfl
namespace Go.Proofs.YthdlghbibaoabaaGreat.E
open Go
set_option linter.constructorNameAsVariable false
set_option linter.unusedVariables false
set_option maxRecDepth 100000
set_option linter.unusedSimpArgs false
set_option linter.unusedSectionVars false
noncomputable section
section
variable {C:Cfg} {ops:Array Oper} {b:Bool} {base:Nat}
def Foot.reads (f:Foot):Key->Prop
 |.tm t=>t∈f.tm
 |.ro n=>n∈f.ro
 |.lo n=>n∈f.lo
def Foot.writes (f:Foot):Key->Prop
 |.tm t=>f.dst=some t
 |.ro n=>n∈f.wro
 |.lo n=>n∈f.wlo
theorem zrp {a c:List Nat}(h:zEo a c=true):∀x∈a,x∉c:=by intro x b;have:=qM.1 h x b;simpa using this
theorem apart_spec {x y:Foot}(h:x.apart y=true):(∀a,x.writes a->¬ y.reads a/\¬ y.writes a)/\(∀a,y.writes a->¬ x.reads a):=by unfold Foot.apart at h;simp only[qE]at h;obtain⟨⟨⟨⟨⟨c,d⟩,e⟩,f⟩,g⟩,i⟩:=h;refine⟨fun a b=>?_,fun a b=>?_⟩;{cases a with|tm t=>simp only[Foot.writes]at b;rw[b]at c;simp only[qE,jE,beq_eq_false_iff_ne,jM,decide_eq_false_iff_not]at c;exact⟨c.1,c.2⟩|ro n=>have:=zrp e n b;simp only[jG,not_or] at this;exact this|lo n=>have:=zrp g n b;simp only[jG,not_or] at this;exact this};{cases a with|tm t=>simp only[Foot.writes]at b;rw[b]at d;simpa [Foot.reads] using d|ro n=>exact zrp f n b|lo n=>exact zrp i n b}
theorem zEp {i:Nat}{o:Oper}{S:St}{f:Foot}{s:Step}(h:At1 C ops base i o S f s)(a:Key):wr o s a↔f.writes a:=by cases s with|none=>obtain⟨_,rfl⟩:=h;cases a<;>simp [wr,Foot.writes,zlM]|some d=>obtain⟨_,_,_,rfl⟩:=h;cases a<;>simp [wr,Foot.writes,ze9,zfz]
def Does (C:Cfg)(ops:Array Oper)(base i:Nat)(o:Oper)(S:St):Step->Prop
 |some d=>zdo ops o S=some true/\zj9 C S o (base+32*i)=some d/\d.c=true
 |none=>zdo ops o S=some false
theorem zzh {o:Oper}{S a:St}(h:∀t∈zzi ops o,a.tm[t]?=S.tm[t]?):zdo ops o a=zdo ops o S:=by unfold zdo;cases hg:o.guard with|none=>rfl|some f=>obtain⟨j,b⟩:=f;simp only;have e:guardOf a ops j=guardOf S ops j:=(by unfold guardOf;cases d:ops[j]? with|none=>rfl|some g =>simp only;(cases c:g.dst with|none=>rfl|some t=>simp only;exact h t (by simp[zzi,hg,ziz,d,c])));rw[e]
theorem z5c {S a:St}(b:a.ep=S.ep){n:Nat}(c:zn a.ro n=zn S.ro n):a.root n=S.root n:=by unfold St.root;rw[c,b]
theorem zTh {S d:St}(c:d.ep=S.ep):∀(own:List Bool) (cells:List At),(∀a∈cells,∀n∈zbm a,zn d.ro n=zn S.ro n)->d.blk own cells=S.blk own cells
 |[],[],_=>rfl
 |[],_::_,_=>rfl
 |_::_,[],_=>rfl
 |o::ms,a::r,h=>by have g:=zTh c ms r fun b f=>h b (qX _ f);have e:=h a jA;simp only[St.blk];rw[g];cases a with|sl q p=>(cases p with|nil=>simp only[z5c c (e q (by simp[zbm]))]|cons x p=>rfl)|_=>rfl
theorem zE2 {S c:St}(a:c.ep=S.ep):∀(b:List Nat),(∀k∈b,zn c.ro k=zn S.ro k)->killed c b=killed S b
 |[],_=>rfl
 |k::b,h=>by simp only[killed];rw[h k jA,zE2 a b fun j d=>h j (qX _ d),a]
theorem zJV {c:Type}{p q:c->Bool}:∀{l:List c},(∀a∈l,p a=q a)->l.all p=l.all q
 |[],_=>rfl
 |a::l,h=>by rw[kS,kS,h a jA,zJV fun b d=>h b (qX _ d)]
theorem z6b {S c:St}{L:List Operand}(h:Agree S c L){b:List Nat}{x:Operand}(f:x∈L){m:MV}(d:S.opnd x=some m):c.avF b m=S.avF b m:=by unfold St.avF;have e:zGH c b m=zGH S b m:=(by unfold zGH;refine zJV fun a g=>zJV fun r i=>?_;rw[h.rootN ((h.id x f m d a g).1 r i)]);rw[e,h.avOf f d]
theorem zY7 {S d:St}{o:Oper}{id:Nat}(h:Agree S d (callArgs o))(q:∀x∈callArgs o,∀l p,S.at x=some (.lp l p)->∀cells,zn S.lo l=some cells->∀a∈cells,∀n∈zbm a,zn d.ro n=zn S.ro n):zlv C d o id=zlv C S o id:=by unfold zlv;cases zjS C o with|none=>rfl|some y=>obtain⟨own,E⟩:=y;simp only;(cases z:callArgs o with|nil=>rfl|cons x t=>rw[z]at h q;simp only[zSh];have f:d.at x=S.at x:=h.at jA;rw[f];split;{rename_i l r;have i:zn d.lo l=zn S.lo l:=h.loc (zdY jA r);rw[i];split;{rename_i cells c;have b:=q x jA l 0 r cells c;rw[zTh h.ep own cells b];split;{rename_i u e w;have B:=zWB own cells u e w;have g:killed d e=killed S e:=zE2 h.ep e fun k g=>(by obtain⟨j,_,A⟩:=B.ownk k g;exact b _ (qK A) k (by simp[zbm]));have v:zcu (zWx d e) t=zcu (zWx S e) t:=(by refine zlr fun y s=>?_;unfold zWx;rw[h.op y (qX _ s)];cases D:S.opnd y with|none=>rfl|some m=>exact z6b h (qX _ s) D);rw[v,g]};{rfl}};{rfl}};{rfl})
theorem zyc {o:Oper}:∀x∈callArgs o,x∈o.op.operands.toList:=by
 intro x a;unfold callArgs at a;split at a
 .rename_i c hc;rw[hc];simp only[Op.operands,Call.operands];simp
  first
   |exact .inr (by simpa using a)
   |exact .inl (by simpa using a)
   |simp_all
 {cases a}
theorem zWy {i:Nat}{o:Oper}{S S':St}{f:Foot}{s:Step}(h:At1 C ops base i o S f s)(A:S'.ep=S.ep)(w:∀k,f.reads k->S'.get k=S.get k):Does C ops base i o S' s:=by
 cases s with
 |none=>obtain⟨E,rfl⟩:=h;show zdo ops o S'=some false;rw[zzh (S:=S) (fun t z=>zNm (w (.tm t) (by simpa [Foot.reads,zlM] using z)))];exact E
 |some d=>
  obtain⟨E,M,N,rfl⟩:=h;have B:∀t,t∈zpf o++zzi ops o->S'.tm[t]?=S.tm[t]?:=fun t z=>zNm (w (.tm t) z);have v:∀x∈o.op.operands.toList,S'.opnd x=S.opnd x:=(by intro x c;cases x with|tmp t=>have z:t∈zpf o:=(by unfold zpf;exact uM.2 ⟨_,c,rfl⟩);simp only[St.opnd,B t (jY _ z)]|_=>rfl);refine⟨?_,?_,N⟩;{rw [zzh (S:=S) (fun t z=>B t (kF _ z))];exact E}
  .rw [<- M];cases b:zwX o with
   |true=>unfold zwX at b;split at b;{rename_i t g;have e:=v (.tmp t) (by rw[g];simp[Op.operands]);have L:delta C S' o (base+32*i)=delta C S o (base+32*i):=(by simp only[delta,g,e]);have H:zjS C o=none:=(by unfold zjS;rw[g]);unfold zj9;rw[L];cases delta C S o (base+32*i) with|some K=>rfl|none=>simp only[zlv,H]};{cases b}
   |false=>
   have w:∀k,(zfz S ops o d).reads k\/(∃n,k = .ro n/\n∈(zfz S ops o d).ro++cond (zjS C o).isSome (zEA S o) [])->S'.get k=S.get k:=(by intro k j;refine w k ?_;rcases j with j|⟨n,rfl,u⟩;{cases k with|tm t=>exact j|ro n=>show n∈(ze9 C S ops o d).ro;unfold ze9;rw[b];exact jY _ j|lo n=>show n∈(ze9 C S ops o d).lo;unfold ze9;rw[b];exact j};{show n∈(ze9 C S ops o d).ro;unfold ze9;rw[b];exact u});have F:∀x∈o.op.operands.toList,∀m,S.opnd x=some m->∀a∈zbD m,a∈zt5 S o:=fun x c m r a q=>(by unfold zt5;exact qO.2 ⟨m,uM.2 ⟨x,c,r⟩,q⟩);have I:Agree S S' o.op.operands.toList:=⟨A,v,fun x c m r a q=>⟨fun n u=>zEG (w (.ro n) (.inl (qO.2 ⟨a,F x c m r a q,u⟩))),fun n u=>zNl (w (.lo n) (.inl (qO.2 ⟨a,F x c m r a q,u⟩)))⟩⟩;unfold zj9;rw[z0F I];cases O:delta C S o (base+32*i) with|some K=>rfl|none=>simp only;(cases J:zjS C o with|none=>simp only[zlv,J]|some y=>refine zY7 ⟨A,fun x c=>v x (zyc x c),fun x c m r a q=>I.id x (zyc x c) m r a q⟩ fun x c l D P cells p a q n u=>?_;refine zEG (w (.ro n) (.inr ⟨n,rfl,?_⟩));show n∈(zfz S ops o d).ro++cond (zjS C o).isSome (zEA S o) [];rw[J];refine kF _ ?_;show n∈zEA S o;unfold zEA;refine qO.2 ⟨.lp l D,?_,?_⟩;{obtain⟨m,r,G⟩:∃m,S.opnd x=some m/\At.lp l D∈zbD m:=⟨_,zPZ P,by simp[zbD,zT]⟩;exact F x (zyc x c) m r _ G};{simp only [p];exact qO.2 ⟨a,q,u⟩})
structure Free (C:Cfg) (ops:Array Oper) (cl:List (List Nat)) (b:Bool) (base a:Nat) (ss:List Step) (st0:St):Prop where
 at1:∀i s,ss[i]?=some s->∃o f,ops[a+i]?=some o/\At1 C ops base (a+i) o (zbA ops b (fun j=>decide (j<a+i)) a ss st0) f s
 apart:∀i k s s' o o' f f',ss[i]?=some s->ss[k]?=some s'->ops[a+i]?=some o->ops[a+k]?=some o'->At1 C ops base (a+i) o (zbA ops b (fun j=>decide (j<a+i)) a ss st0) f s->
  At1 C ops base (a+k) o' (zbA ops b (fun j=>decide (j<a+k)) a ss st0) f' s'->i<k->a+i∉cl.getD (a+k) []->f.apart f'=true
def zku (a:List (List Nat))(X:Nat->Bool):Prop:=∀k,X k=true->∀j∈a.getD k [],X j=true
variable {cl:List (List Nat)} {ss:List Step} {st0:St} {a:Nat}
theorem zJW {i:Nat}{o:Oper}{S:St}{f a:Foot}{s:Step}(h:At1 C ops base i o S f s)(b:At1 C ops base i o S a s):f=a:=by cases s with|none=>rw[h.2,b.2]|some d=>rw[h.2.2.2,b.2.2.2]
theorem zNk (F:Free C ops cl b base a ss st0){X:Nat->Bool}(D:zku cl X){i:Nat}{s:Step}(y:ss[i]?=some s)(d:X (a+i)=false)(E:∀j∈cl.getD (a+i) [],X j=true) :
 ∃o f,ops[a+i]?=some o/\At1 C ops base (a+i) o (zbA ops b (fun j=>decide (j<a+i)) a ss st0) f s/\∀m,f.reads m->(zbA ops b X a ss st0).get m=(zbA ops b (fun j=>decide (j<a+i)) a ss st0).get m:=by
 obtain⟨o,f,x,r⟩:=F.at1 i s y;refine⟨o,f,x,r,fun m q=>?_⟩;refine zru ss a st0 st0 rfl rfl (fun k z B u l g G=>?_);obtain⟨H,A,n,t⟩:=F.at1 k z u;rw[l]at n;cases n;have p:=(zEp t m).1 G
 by_cases v:k<i
 .have hXk:X (a+k)=false:=by have c:a+k<a+i:=(by omega);simp only[c,decide_true]at g;simpa using g
  have w:a+k∉cl.getD (a+i) []:=fun h=>by rw[E (a+k) h]at hXk;cases hXk
  exact((apart_spec (F.apart k i z s B o A f u y l x t r v w)).1 m p).1 q
 .have hXk:X (a+k)=true:=by have c:¬ (a+k<a+i):=(by omega);simp only[c,decide_false]at g;simpa using g
  have c:i<k:=by have:i≠k:=fun e=>(by rw[e,hXk]at d;cases d);omega
  have w:a+i∉cl.getD (a+k) []:=fun h=>by rw[D (a+k) hXk (a+i) h]at d;cases d
  exact(apart_spec (F.apart i k s z o B f A y u x l r t c w)).2 m p q
theorem z6W (F:Free C ops cl b base a ss st0){X:Nat->Bool}(g:zku cl X){i:Nat}{s:Step}(l:ss[i]?=some s)(c:X (a+i)=false)(k:∀j∈cl.getD (a+i) [],X j=true) :
 ∃o,ops[a+i]?=some o/\Does C ops base (a+i) o (zbA ops b X a ss st0) s:=by
 obtain⟨o,f,h,d,e⟩:=zNk F g l c k;exact⟨o,h,zWy d (by rw[zhD,zhD]) e⟩
theorem zXf (F:Free C ops cl b base a ss st0){X Y:Nat->Bool}(x:zku cl X){i:Nat}{s:Step}{o:Oper}(p:ss[i]?=some s)(n:ops[a+i]?=some o)(d:X (a+i)=false)(y:∀k,Y k=(X k||k==a+i))(c:Key) :
 (zbA ops b Y a ss st0).get c=((zbA ops b X a ss st0).step b o s).get c:=by
 refine z6T y n p (fun k v B u e m l c A q=>?_) c;obtain⟨D,f,g,r⟩:=F.at1 i s p;rw[n]at g;cases g;obtain⟨E,w,j,t⟩:=F.at1 k v u;rw[e]at j;cases j;have z:a+i∉cl.getD (a+k) []:=fun h=>by rw[x (a+k) l (a+i) h]at d;cases d
 exact((apart_spec (F.apart i k s v o B f w p u n e r t m z)).1 c ((zEp r c).1 A)).2 ((zEp t c).1 q)
theorem z3W {l:St}{o:Oper}{id i:Nat}{d:Dl}(j:ops[i]?=some o)(h:delta C l o id=some d)(a:zR8 ops i=false)(g:(zGY C&&zXn o)=false):d.bump=false:=by
 simp only[zR8,j]at a;cases b:o.op<;>simp only [b]at a<;>simp only [delta,b]at h;(case store=>cases a);case buildSlice=>cases a
 case call c=>
  split at h
  case h_4 e=>rw[e]at a;cases a
  all_goals (repeat' (first|split at h|cases h))
  all_goals rfl
 case slice T x lo hi mx=>
  cases mx with
  |some m=>simp at h
  |none=>
   cases lo with
   |none=>
    cases hi with
    |none=>(repeat' (first|contradiction|split at h|cases h));all_goals (first|rfl|contradiction|(exfalso;simp_all))
    |some f =>have e:zGY C=false:=(by simp only[zXn,b,vB]at g;exact g);(repeat' (first|contradiction|split at h|cases h));all_goals (first|(simp only [zKf,e,Bool.false_and];done)|rfl|contradiction|(exfalso;simp_all))
   |some k =>
    cases hi with
    |none=>cases a
    |some f =>(repeat' (first|contradiction|split at h|cases h));all_goals (first|rfl|contradiction|(exfalso;simp_all))
 case binOp=>
  simp only[zEC]at h
  repeat' (first|split at h|cases h)
  all_goals rfl
 (all_goals (repeat' (first|contradiction|split at h|cases h)));all_goals (first|rfl|contradiction)
theorem z0D {f:St}{o:Oper}{id i:Nat}{d:Dl}(e:ops[i]?=some o)(h:zj9 C f o id=some d)(b:zlo C ops i=false):d.bump=false:=by unfold zlo at b;rw[u2]at b;unfold zj9 at h;cases c:delta C f o id with|some j =>rw[c]at h;cases h;have a:=b.2;rw[e]at a;have a:((zjS C o).isSome||(zGY C&&zXn o))=false:=a;rw[u2]at a;exact z3W e c b.1 a.2|none=>rw[c]at h;exfalso;have a:=b.2;rw[e]at a;have a:((zjS C o).isSome||(zGY C&&zXn o))=false:=a;rw[u2]at a;have a:=a.1;have h:zlv C f o id=some d:=h;unfold zlv at h;(cases g:zjS C o with|none=>rw[g]at h;cases h|some y=>rw[g]at a;cases a)
end
section
variable {C:Cfg} {w0 w w1:World} {S0:zV} {U:Nat->Prop} {st st1:St} {E E1:Env} {ts:Array Value} {sv:List (Array Value)}
variable {ops:Array Oper} {b:Bool} {base:Nat} {cl:List (List Nat)} {ss:List Step} {st0:St}
theorem z3V {R a:Root}(h:zfw b R=a)(c:a.ep=none):R=a:=by unfold zfw at h;split at h;{subst h;cases c};{exact h}
theorem z7A {l:List (Nat×Root)}{n:Nat}{R:Root}(h:zn (l.map (fun (x:Nat×Root)=>(x.1,zfw b x.2))) n=some R):∃d,zn l n=some d/\zfw b d=R:=by induction l with|nil=>cases h|cons a l e=>obtain⟨k,v⟩:=a;simp only[jB,zn]at h ⊢;split at h;{cases h;rename_i c;rw[if_pos c];exact⟨v,rfl,rfl⟩};{rename_i c;rw[if_neg c];exact e h}
theorem z4P {l:List (Nat×Root)}{n:Nat}(h:zn (l.map (fun (x:Nat×Root)=>(x.1,zfw b x.2))) n=none):zn l n=none:=by induction l with|nil=>rfl|cons a l d=>obtain⟨k,v⟩:=a;simp only[jB,zn]at h ⊢;split at h;{cases h};{rename_i c;rw[if_neg c];exact d h}
theorem z3v {o:Oper}{d:Dl}(J:b=false->d.bump=false)(K:b=true->Dead st/\0<st.ep)(y:Sim w0 S0 U (st.apply o.dst d) E ts sv w):Sim w0 S0 U (st.effD b o.dst d) E ts sv w:=by
 have A:∀t:Nat,(st.effD b o.dst d).tm[t]?=(st.apply o.dst d).tm[t]?:=fun t=>(by unfold St.effD St.apply;cases o.dst<;>rfl);have B:(st.effD b o.dst d).lo=(st.apply o.dst d).lo:=(by unfold St.effD St.apply;cases o.dst<;>rfl);have C:(st.effD b o.dst d).stk=(st.apply o.dst d).stk:=(by unfold St.effD St.apply;cases o.dst<;>rfl);have D:(st.effD b o.dst d).ro=d.ro.map (fun (x:Nat×Root)=>(x.1,zfw b x.2))++st.ro:=(by unfold St.effD;cases o.dst<;>rfl);have F:(st.apply o.dst d).ro=d.ro++st.ro:=(by unfold St.apply;cases o.dst<;>rfl);have v:(st.effD b o.dst d).ep=st.ep:=by unfold St.effD;cases o.dst<;>rfl
 have I:(st.apply o.dst d).ep=if d.bump then st.ep+1 else st.ep:=by
  unfold St.apply;cases o.dst<;>rfl
 cases b with
 |false=>have L:d.bump=false:=J rfl;have p:d.ro.map (fun (x:Nat×Root)=>(x.1,zfw false x.2))=d.ro:=(by have:(fun (x:Nat×Root)=>(x.1,zfw false x.2))=id:=(by funext x;rfl);rw[this,List.map_id]);have j:(st.effD false o.dst d).ro=(st.apply o.dst d).ro:=(by rw[D,F,p]);have m:(st.effD false o.dst d).ep=(st.apply o.dst d).ep:=(by rw[v,I,L];rfl);exact y.fewer A (fun n=>by rw[B]) C (fun n R h=>by simpa only [St.root,j,m] using h) (fun n R h=>⟨R,by rw[<- j];exact h⟩) (fun n R e h s=>by rw[m];exact y.mem.epo n R e (by rw[<- j];exact h) s)
 |true=>obtain⟨l,M⟩:=K rfl;have f:∀n R,zn (st.effD true o.dst d).ro n=some R->∃a,zn (st.apply o.dst d).ro n=some a/\(zfw true a=R\/(a=R/\zn st.ro n=some R)):=(by intro n R h;rw[D,zbQ]at h;rw[F,zbQ];split at h;{rename_i x z;cases h;obtain⟨a,r,c⟩:=z7A z;exact⟨a,by rw[r],.inl c⟩};{rename_i z;rw[z4P z];exact⟨R,h,.inr ⟨rfl,h⟩⟩});have g:∀a:Root,(zfw true a).ep=none\/(zfw true a).ep=some 0:=(by intro a;cases H:a.ep with|none=>left;simp[zfw,H]|some e=>right;simp[zfw,H]);have q:∀n R,(st.effD true o.dst d).root n=some R->R.ep=none/\zn (st.effD true o.dst d).ro n=some R:=(by intro n R h;obtain⟨G,i⟩:=zbz h;refine⟨?_,G⟩;rcases i with i|i;{exact i};{exfalso;rw[v]at i;obtain⟨a,_,c⟩:=f n R G;rcases c with c|⟨_,c⟩;{have:=g a;rw[c,i] at this;rcases this with h|h;{cases h};{simp only [qC]at h;omega}};{have:=l n R _ c i;omega}});refine y.fewer A (fun n=>by rw[B]) C (fun n R h=>?_) (fun n R h=>?_) (fun n R e h s=>?_);{obtain⟨r,c⟩:=q n R h;obtain⟨a,u,k⟩:=f n R c;have e:a=R:=(by rcases k with k|⟨k,_⟩;{exact z3V k r};{exact k});subst e;unfold St.root;rw[u];simp only[r]};{obtain⟨a,u,_⟩:=f n R h;exact⟨a,u⟩};{rw [v];obtain⟨a,_,c⟩:=f n R h;rcases c with c|⟨_,c⟩;{have:=g a;rw[c,s] at this;rcases this with h|h;{cases h};{simp only [qC]at h;omega}};{have:=l n R e c s;omega}}
def UX (U:Nat->Prop)(base a T:Nat)(X:Nat->Bool)(n:Nat):Prop:=U n\/∃i,a<=i/\i<T/\X i=true/\Mine (base+32*i) n
theorem Sim.uses {e:Nat->Prop}(h:Sim w0 S0 U st E ts sv w)(c:∀n,U n->e n):Sim w0 S0 e st E ts sv w :=
 ⟨h.mem,⟨fun n R b=>c n (h.ids.ro n R b),fun n g b=>⟨c n (h.ids.lo n g b).1,fun a i m d=>c m ((h.ids.lo n g b).2 a i m d)⟩,fun m d n b=>c n (h.ids.tm m d n b),fun f j m d n b=>c n (h.ids.stk f j m d n b)⟩,h.tm,h.stk⟩
theorem zW4 (u:CfgOk C)(y:CtrOk C)(x:GraftOk C)(r:Sim w0 S0 U st E ts sv w){o:Oper}{id:Nat}(g:∀n,Mine id n->¬ U n){d:Dl}(h:zj9 C st o id=some d)(s:d.c=true):Goes C w0 S0 U st ts sv w o id (fun st=>st.apply o.dst d):=by unfold zj9 at h;cases l:delta C st o id with|some A =>rw[l]at h;cases h;exact zIU u y r g l s|none=>rw[l]at h;have e:∃a,zG6 C st o id=some (d.c,a,d.v)/\a.put o.dst d.v=st.apply o.dst d:=(by simp only[zlv]at h;unfold zjS callArgs at h;unfold zG6;split at h;{rename_i own z i;split at i;{rename_i c t;split at i;{rename_i f b;have j:zP0 o=f:=(by simp only[zP0,t,b]);rw[j]at h;simp only[t,b,i]at h ⊢;generalize c.args.toList=m at h ⊢;unfold zSh at h;unfold zYU;split at h;{split at h;{split at h;{split at h;{split at h;{split at h;{split at h;{split at h;{rename_i p _ _ q _ _ _ B _ _ D _ _ _ _ F _ _ G H;cases h;simp only[*];refine⟨_,rfl,?_⟩;unfold St.apply;simp[j6]};{cases h}};{cases h}};{cases h}};{cases h}};{cases h}};{cases h}};{cases h}};{cases h}};{cases i}};{cases i}};{cases h});obtain⟨a,p,q⟩:=e;have k:=(x.pok w0 w S0 U st E ts sv o id d.c a d.v r g p s).1;rw[q] at k;exact k
theorem zTA (S:CfgOk C)(W:CtrOk C)(V:GraftOk C){a T:Nat}(hT:a+ss.length=T)(F:Free C ops cl b base a ss st0){X Y:Nat->Bool}(M:zku cl X){i:Nat}(q:a<=i)(I:i<T)(l:X i=false)(hr:∀j∈cl.getD i [],X j=true)(hb:b=false->∀k,a<=k->k<T->zlo C ops k=false)(H:b=true->Dead st0/\0<st0.ep)(hM:∀k,a<=k->k<T->∀n,Mine (base+32*k) n->¬ U n)(G:∀k,Y k=(X k||k==i))(y:Sim w0 S0 (UX U base a T X) (zbA ops b X a ss st0) E ts sv w){Q:Exit->Act->World->Prop}{K:Act->World->Prop}(Z:∀(r:Env) (c:Array Value) (g:World),Sim w0 S0 (UX U base a T Y) (zbA ops b Y a ss st0) r c sv g->K {tmps:=c,defers:=[]} g) :
 wpOp C.P ops Q i K {tmps:=ts,defers:=[]} w:=by
 obtain⟨j,rfl⟩:∃j,i=a+j:=⟨i-a,by omega⟩
 obtain⟨s,N⟩:∃s,ss[j]?=some s:=⟨_,qB (by omega)⟩
 obtain⟨o,J,x⟩:=z6W F M N l hr;have f:∀n,UX U base a T X n->UX U base a T Y n:=by rintro n (h|⟨k,R,A,t,B⟩);{exact .inl h};{exact .inr ⟨k,R,A,by rw[G,t];rfl,B⟩}
 have u:∀{r:Env} {c:Array Value} {g:World},Sim w0 S0 (UX U base a T Y) ((zbA ops b X a ss st0).step b o s) r c sv g->K {tmps:=c,defers:=[]} g:=by intro r c g h;refine Z r c g (h.same (fun κ=>zXf F M N J l G κ) ?_ ?_);{rw [zso,zZO,zso]};{rw [zhD,zSp,zhD]}
 unfold wpOp;simp only[J];cases s with
 |none=>rw[if_neg (by simp[zEH y x])];have t:=y.putV (dst:=o.dst) (m:=.und) (v:=undef) rfl (fun n z=>by simp[MV.ids,zbD]at z);rw[ziS];exact u (t.uses f)
 |some d=>obtain⟨A,t,B⟩:=x;rw[if_pos (zEH y A)];refine .inl (zW4 S W V y (id:=base+32*(a+j)) ?_ t B _ _ (fun r v g D=>?_));{rintro n z (h|⟨k,_,g1,L,O⟩);{exact hM (a+j) q I n z h};{refine z2G (i:=k) (j:=a+j) (fun e=>?_) O z;rw[e,l] at L;cases L}};{rw [ziS];refine u ((z3v (fun p=>z0D J t (hb p (a+j) q I)) (fun p=>?_) D).uses ?_);{subst p;exact⟨zAV ss a st0 (H rfl).1 (H rfl).2,by rw[zhD];exact(H rfl).2⟩};{rintro n (h|h);{exact f n h};{exact .inr ⟨a+j,q,I,by rw[G];simp,h⟩}}}
end
section
variable {C:Cfg} {w0 w w1:World} {S0:zV} {U:Nat->Prop} {st st1:St} {E E1:Env} {ts:Array Value} {sv:List (Array Value)}
theorem z4Q (t:Ty)(x:t.den):t.ofCells (t.cells x)=some x:=by cases t<;>first|rfl|simp[Ty.ofCells,Ty.cells]
theorem zTW:∀(p:List (Int×Nat)) {t:Ty} {l:List t.den} {c:CV},zg1 t l p=some c->∀m,zqO t l p c=some m->m=l
 |[],t,l,c,h,m,a=>by simp only[zg1,qC]at h;subst h;simpa [zqO] using a.symm
 |(i,j)::p,t,l,c,h,m,a=>by
  simp only[zg1]at h;simp only[zqO]at a;split at h
  .rename_i t1 l1 hc;rw[hc]at a;simp only at a;split at a
   .rename_i l2 hl2;have:=zTW p h l2 hl2;subst this;split at a
    .rename_i x hx;cases a;have f:j<(t.cells (ix l i t.dflt)).length:=(qA.1 hc).1;have e:splice (t.cells (ix l i t.dflt)) j [CV.s t1 l2]=t.cells (ix l i t.dflt):=zJJ _ _ _ (by simp;omega) (fun k d=>by
      have:k=0:=by simpa using d
      subst this;simpa using hc)
     rw[e,z4Q]at hx;cases hx;unfold up ix;apply kX;intro k;rw[q9];split;{rename_i d;subst d;split;{rename_i b;simp[List.getD,qB b]};{rename_i b;rw[List.getElem?_eq_none (by omega)]}};{rfl}
    {cases a}
   {cases a}
  {cases h}
theorem z9J {t:Ty}(c:t.flat=true):∀(q:List (Int×Nat)) (v u:Value),zY w t v q=some u->q=[]
 |[],_,_,_=>rfl
 |(i,j)::q,v,u,h=>by exfalso;cases v with|slice a len d=>(cases a with|none=>simp[zY]at h|some a=>simp only[zY]at h;split at h;{split at h;{rename_i e b;unfold Ty.flat at c;have:=qM.1 c _ (qK b);simp at this};{cases h}};{cases h})|_=>simp[zY]at h
theorem zbdY (hC:CfgOk C){T:TypeId}{t:Ty}(hT:C.sty T=some t)(hf:t.flat=true){v1 v2:Value}{d f:List t.den}{S1 S2:zV}(c3:Rep true w v1 (.s t d) S1)(c4:Rep false w v2 (.s t f) S2)(b8:f≠[])(d1:few (ln (ap d f))=true)(oT:TypeId) :
 ∃(v:Value) (E:World) (L Z r:Nat),(Builtin.append_ #[T,T] oT #[v1,v2]).run C.P w = .ok v E/\v = .slice (some ⟨L,Z,none⟩) (ap d f).length r/\Rep true E v (.s t (ap d f)) (fun x=>x=L)/\
  E.os=w.os/\E.tape=w.tape/\E.output=w.output/\
  ((L=w.heap.size/\E.heap.size=w.heap.size+1/\∀x,x<w.heap.size->E.heap[x]?=w.heap[x]?) \/
    ∃Y N,v1 = .slice (some ⟨L,Y,none⟩) d.length N/\S1 L/\E.heap.size=w.heap.size/\(∀x,x≠L->E.heap[x]?=w.heap[x]?)/\Rep true E v1 (.s t d) S1):=by
 obtain⟨e,hE⟩:=hC.sty T t hT;obtain⟨i,z,m,hs,hz,f3,d0⟩:=hE.info;obtain⟨f0,f1⟩:=zP7 d1;have d4:d.length+f.length<=2147483648:=by simp only[ln,ap,j8] at f1;omega
 have a3:(ap d f).length=d.length+f.length:=by simp[ap]
 cases c4 with
 |nil=>exact absurd rfl b8
 |void=>exact absurd rfl b8
 |sl _ _ b2 p F a2 e2 f7 V2 K2 _ d7 f5 e4 b5 f6 f8 f2 d9 d5 a5=>
 have e5:0<f.length:=kO.2 b8;have e7:f.length*t.width<=F*t.width:=qS _ b5;generalize V:(a2.toList.drop p).take (f.length*t.width)=a;have D:a.length=f.length*t.width:=by rw[<- V];simp;omega
 have a6:∀k,k<f.length*t.width->a[k]?=a2[p+k]?:=by intro k hk;rw[<- V,jI,if_pos hk,jO];simp
 have c1:∀j u,a[j]?=some u->w.cell? ((⟨b2,p,none⟩:Addr).add j)=some u:=by intro j u hu;have B:j<f.length*t.width:=(by rw[<- D];exact(qA.1 hu).1);rw[add_lit,cell_of_block d7,<- a6 j B];exact hu
 have I:∀i j,i<f.length->j<t.width->i*t.width+j<f.length*t.width:=by intro i j m B;have:(i+1)*t.width<=f.length*t.width:=qS _ m;rw[jL] at this;omega
 have c2:∀i j,i<f.length->j<t.width->a[i*t.width+j]?=some (V2 i j):=by intro i j m B;rw[a6 _ (I i j m B),<- uD];exact d5 i j m B
 have d6:=zGC t;have e8:∀u∈a,u.oneCell'=true:=by intro u hu;obtain⟨k,hk⟩:=qT.1 hu;have e3:k<f.length*t.width:=(by rw[<- D];exact(qA.1 hk).1);have a1:k / t.width<f.length:=(Nat.div_lt_iff_lt_mul d6).2 e3;have d3:k % t.width<t.width:=Nat.mod_lt _ d6;have:=c2 _ _ a1 d3;rw[Nat.mul_comm,Nat.div_add_mod,hk] at this;cases this;have J:=qB a1;have y:(t.cells (f[k / t.width]'a1))[k % t.width]?=some ((t.cells (f[k / t.width]'a1))[k % t.width]'(by rw[zdk];exact d3)):=qB _;exact(a5 _ _ J _ _ y).one
 have U:∀(w1:World) i x,f[i]?=some x->∀j c,(t.cells x)[j]?=some c->Rep true w1 (V2 i j) c (fun _=>False):=fun w1 i x J j c y=>(a5 i x J j c y).flat (zwG hf y);have W:∀i j,i<d.length->j<t.width->i*t.width+j<d.length*t.width:=by intro i j m B;have:(i+1)*t.width<=d.length*t.width:=qS _ m;rw[jL] at this;omega
 have a0:(d.length+f.length)*i.bytes<=140737488355328:=by have:=uO d4 d0;omega
 have b0:z.cells.size=t.width:=by rw[<- kN,f3];simp[zeM]
 have O:∀(g:List Value) (A:Nat) (V1:Nat->Nat->Value) (zs:Array Value),g.length=d.length*t.width->d.length+f.length<=A->zs.size=(A-(d.length+f.length))*t.width->
  (∀i j,i<d.length->j<t.width->g[i*t.width+j]?=some (V1 i j))->
  (∀i x,d[i]?=some x->∀j c,(t.cells x)[j]?=some c->∃S,Rep true w (V1 i j) c S)->
  (Builtin.append_ #[T,T] oT #[v1,.slice (some ⟨b2,p,none⟩) f.length F]).run C.P w = .ok (.slice (some ⟨w.heap.size,0,none⟩) (d.length+f.length) A) (w.drew.alloc (.cells (g.toArray++a.toArray++zs) e (0,0)))->
  ∃(v:Value) (E:World) (L Z r:Nat),(Builtin.append_ #[T,T] oT #[v1,.slice (some ⟨b2,p,none⟩) f.length F]).run C.P w = .ok v E/\v = .slice (some ⟨L,Z,none⟩) (ap d f).length r/\Rep true E v (.s t (ap d f)) (fun x=>x=L)/\
  E.os=w.os/\E.tape=w.tape/\E.output=w.output/\
  ((L=w.heap.size/\E.heap.size=w.heap.size+1/\∀x,x<w.heap.size->E.heap[x]?=w.heap[x]?) \/
    ∃Y N,v1 = .slice (some ⟨L,Y,none⟩) d.length N/\S1 L/\E.heap.size=w.heap.size/\(∀x,x≠L->E.heap[x]?=w.heap[x]?)/\Rep true E v1 (.s t d) S1):=by
  intro g A V1 zs G b4 f4 e9 d8 M;generalize n:w.drew.alloc (.cells (g.toArray++a.toArray++zs) e (0,0))=w1 at M;have c5:∀x,x<w.heap.size->w1.heap[x]?=w.heap[x]?:=fun x J=>by rw[<- n];exact heap_alloc_old w.drew _ x J
  have c6:w1.heap.size=w.heap.size+1:=by rw[<- n];simp
  refine⟨_,w1,w.heap.size,0,A,M,by rw[a3],?_,by rw[<- n];rfl,by rw[<- n];rfl,by rw[<- n];rfl,.inl ⟨rfl,c6,c5⟩⟩
  refine Rep.join (arr:=g.toArray++a.toArray++zs) (e:=e) (V1:=V1) (V2:=V2) (K1:=fun _ _ _=>False) (K2:=fun _ _ _=>False) ?_ (by simp only[big];omega) b4 ?_ rfl ?_ ?_ ?_ (U w1) (fun _ _ _ _ _ h=>h.elim) (fun _ _ _ _ _ h=>h.elim) (fun _ _ _ _ _ _ _ _ _ h=>h.elim) (fun _ _ _ _ _ _ _ _ _ h=>h.elim) (fun _ _ _ _ _ _ _ _ _ h=>h.elim)
  .rw [<- n];exact heap_alloc_new w.drew _
  .simp only [Array.size_append,j3,G,D,f4,<- kP];have:d.length+f.length+(A-(d.length+f.length))=A:=by omega
   rw[this];omega
  .intro i j m B;have:=W i j m B;rw[jX,uK,jW (by simp[G];exact this)]
   simpa using e9 i j m B
  .intro i j m B;have:=I i j m B;rw[jX,kP,uK,kC (by simp[G];omega),jW (by simp[G,D];omega)]
   rw[<- c2 i j m B];simp only[j3,G,jF]
   congr 1
   omega
  .intro i x J j c y;obtain⟨S,M⟩:=d8 i x J j c y;exact M.flat (zwG hf y)
 cases c3 with
 |nil=>
  have M:=run_append_nil (P:=C.P) w T oT e i z hE.und m hz ⟨b2,p,none⟩ f.length F a (by rw[hs];exact D) c1 e5 (by omega) (by
   have:=uO (show f.length<=2147483648 by omega) d0
   omega)
  have b7:=grownCap_ge w f.length 0 e;refine O [] (grownCap w f.length 0 e) (fun _ _=>undef) (Builtin.zeroCells z.cells (grownCap w f.length 0 e-f.length)) (by simp) (by simpa using b7) (by simp[size_zeroCells,b0]) (fun i j m=>by simp at m) (fun i x J=>by simp at J) ?_;rw[M];simp
 |void _ _ _ ho=>cases ho
 |sl _ _ b l r q e1 fz V1 K1 _ hb e0 b9 Q a9 c8 c7 b6 X R=>
  have d2:=e0 rfl;subst d2;have e6:d.length*t.width<=r*t.width:=qS _ Q;by_cases H:d.length+f.length<=r;{have c0:(d.length+f.length)*t.width<=r*t.width:=qS _ H;rw[kP]at c0;have M:=run_append_room' (P:=C.P) (w:=w) T oT e i hE.und m b l d.length r q e1 hb ⟨b2,p,none⟩ f.length F a (by rw[hs];exact D) c1 e8 H (by rw[hs,D];omega);rw[hs]at M;have b3:l+d.length*t.width+a.length<=q.toList.length:=(by rw[D];simp;omega);generalize n:w.setRow b (splice q.toList (l+d.length*t.width) a).toArray=w1 at M;have c9:w1.heap[b]?=some (.cells (splice q.toList (l+d.length*t.width) a).toArray e1 (0,0)):=(by rw[<- n];exact setRow_heap w b _ _ e1 _ hb);have a8:∀x,x≠b->w1.heap[x]?=w.heap[x]?:=fun x J=>(by rw[<- n];exact setRow_other w b x _ J);have a4:(splice q.toList (l+d.length*t.width) a).toArray.size=q.size:=(by rw[j3,zit _ _ _ b3];simp);have K:∀k,k<l+d.length*t.width->(splice q.toList (l+d.length*t.width) a).toArray[k]?=q[k]?:=(by intro k hk;rw[jF,zeC _ _ _ b3 k (.inl hk)];simp);have b1:Rows true w t d q l b V1 K1 S1:=⟨c7,b6,X,R⟩;obtain⟨k1,_⟩:=Rep.behind (w1:=w1) b9 Q a9 c8 b1 hb c9 a4 K a8;refine⟨_,w1,b,l,r,M,by rw[a3],?_,by rw[<- n];rfl,by rw[<- n];rfl,by rw[<- n];rfl,.inr ⟨l,r,rfl,c8,by rw[<- n];simp,a8,k1⟩⟩;refine Rep.join (arr:=(splice q.toList (l+d.length*t.width) a).toArray) (e:=e1) (V1:=V1) (V2:=V2) (K1:=fun _ _ _=>False) (K2:=fun _ _ _=>False) c9 (by simp only[big];omega) H (by rw[a4];exact a9) rfl ?_ ?_ ?_ (U w1) (fun _ _ _ _ _ h=>h.elim) (fun _ _ _ _ _ h=>h.elim) (fun _ _ _ _ _ _ _ _ _ h=>h.elim) (fun _ _ _ _ _ _ _ _ _ h=>h.elim) (fun _ _ _ _ _ _ _ _ _ h=>h.elim);{intro i j m B;have:=W i j m B;rw[K _ (by omega)];exact X i j m B};{intro i j m B;have:=I i j m B;rw[jF,kP,zeN _ _ _ b3 _ (by omega) (by rw[D];omega),<- c2 i j m B];congr 1;omega};{intro i x J j c y;exact(R i x J j c y).flat (zwG hf y)}}
  .generalize holds:(q.toList.drop l).take (d.length*t.width)=g;have G:g.length=d.length*t.width:=(by rw[<- holds];simp;omega);have a7:∀k,k<d.length*t.width->g[k]?=q[l+k]?:=by intro k hk;rw[<- holds,jI,if_pos hk,jO];simp
   have M:=run_append_grow (P:=C.P) w T oT e i z hE.und m hz ⟨b,l,none⟩ d.length r g (by rw[hs];exact G) (fun j u hu=>by
    have B:j<d.length*t.width:=by rw[<- G];exact(qA.1 hu).1
    rw[add_lit,cell_of_block hb,<- a7 j B];exact hu) ⟨b2,p,none⟩ f.length F a (by rw[hs];exact D) c1 (by omega) (by omega) (growslice_fits (by omega) a0)
   have b7:=grownCap_ge w (d.length+f.length) r e;refine O g _ V1 _ G b7 (by rw[size_zeroCells,b0]) (fun i j m B=>?_) (fun i x J j c y=>⟨_,R i x J j c y⟩) M;have:(i+1)*t.width<=d.length*t.width:=qS _ m;rw[jL] at this;rw[a7 _ (by omega),<- uD];exact X i j m B
end
section
variable {C:Cfg} {w0 w w1:World} {S0:zV} {U:Nat->Prop} {st st1 st':St} {E E1:Env} {ts:Array Value} {sv:List (Array Value)}
def Late (w0:World)(st:St)(E:Env)(x:App)(v:Value)(w:World):Prop :=
 ∃(f e d g:Nat) (R:Root),w0.heap.size<=f/\(∀q Q,st.root q=some Q->∀y,E.φ q y->y<f)/\(∀l h,zn st.lo l=some h->E.β l<f)/\
  v = .slice (some ⟨e,d,none⟩) x.l.length g/\Rep true w v (.s x.t x.l) (fun y=>y=e)/\st.root x.r=some R/\
  (f<=e\/∃c b a,zY w R.t (E.ρ x.r) x.p=some (.slice (some ⟨e,c,none⟩) b a))
theorem Late.states {x:App}{v:Value}(h:Late w0 st E x v w)(d:∀n,st'.root n=st.root n)(s:∀n,zn st'.lo n=zn st.lo n):Late w0 st' E x v w:=by obtain⟨t,e,a,b,R,g,i,j,k,m,p,r⟩:=h;exact⟨t,e,a,b,R,g,fun q Q c=>i q Q (by rw[<- d];exact c),fun l f c=>j l f (by rw[<- s];exact c),k,m,by rw[d];exact p,r⟩
theorem zJK {r:Nat}(a:At):zc0 r [] a=a:=by cases a<;>simp [zc0,coarse]
theorem zJL {r:Nat}(m:MV):zf9 r [] m=m:=by have h:zc0 r []=id:=funext fun a=>zJK a;have c:∀x,zmI r [] x=x:=fun x=>(by cases x<;>simp [zmI,h]);have b:zmI r []=id:=funext c;cases m<;>simp [zf9,c,b]
theorem z7v (h:Dead st){n:Nat}{R:Root}(c:st.root n=some R):R.ep=none:=by obtain⟨b,a⟩:=zbz c;rcases a with a|a;{exact a};{have:=h n R _ b a;omega}
theorem z7Z {v:Value}{t:Ty}{l:List t.den}{S:zV}{b off n a:Nat}(h:Rep true w v (.s t l) S)(e:v = .slice (some ⟨b,off,none⟩) n a):b<w.heap.size/\S b:=by cases h with|nil=>cases e|void _ _ _ f=>cases f|sl _ _ g _ _ _ _ _ _ _ _ d _ _ _ _ c=>cases e;exact⟨(qQ.1 d).1,c⟩
theorem z9Y (hC:CfgOk C)(k:Sim w0 S0 U st E ts sv w)(hd:Dead st){o:Oper}{x:App}(h:zro C st o=some (true,x)) :
 o.guard=none/\o.dst=some x.dst/\∃(v:Value) (f:World),(execOp ({tmps:=ts,defers:=[]}:Act).eval o).run C.P w = .ok (.value v) f/\
  Sim w0 S0 U (st.put o.dst (.v (.at .bad))) E (({tmps:=ts,defers:=[]}:Act).put o.dst v).tmps sv f/\Late w0 st E x v f:=by
 unfold zro at h;split at h
 .rename_i c d ho hdst hgu;split at h
  .rename_i hcb;split at h
   .rename_i a0 y0 T T2 hca hct;split at h
    .rename_i hTT;subst hTT;split at h
     .rename_i t r a p r2 p2 hT h1 h2;split at h
      .rename_i R cv1 cv2 hR hn1 hn2;split at h
       .rename_i hcond;simp only[qE,jE,beq_eq_false_iff_ne]at hcond;obtain⟨⟨H,a2⟩,b9⟩:=hcond;split at h
        .rename_i m t2 y2 l2' hm;simp only[qC,jR]at h;obtain⟨a1,rfl⟩:=h;refine⟨hgu,hdst,?_⟩;obtain⟨l1,l2,e1,e2,rfl⟩:=zCr hm;subst e1;have b2:l2≠[]:=by intro e;subst e;cases e2
         rw[e2]at hn2
         clear e2
         generalize c0:a::p=pp at h1 hn1;have j:=k.mem;obtain⟨hx,_⟩:=zbI k h1;obtain⟨hy,_⟩:=zbI k h2;have hh:=hx.2 R hR;have i:=j.rep r R hR;rw[H]at i;obtain⟨t',l0,S1,f1,f2,f3,f4,f5⟩:=Rep.focus pp i hh;have a3:zg1 R.t R.l pp=some (.s t l1):=by obtain⟨R',W,b1⟩:=zfQ hn1;rw[hR]at W;cases W;exact b1
         rw[a3] at f1;cases f1;obtain⟨R2,S2,b7,g1,g2,g3,g4⟩:=zv9 k hy hn2;obtain⟨v,f,bv,K,S,a5,hv,I,a4,a6,G,L⟩:=zbdY hC hT a2 f3 g3.ro b2 a1 o.type;have X:c.args = #[a0,y0]:=by rw[<- hca]
         have Y:c.argTypes = #[T2,T2]:=by rw[<- hct]
         have g:(execOp ({tmps:=ts,defers:=[]}:Act).eval o).run C.P w = .ok (.value v) f:=by simp[execOp,ho,resolve,hcb,invoke,builtin,X,Y,a5]
         have a7:∀l cs,zn st.lo l=some cs->E.β l<w.heap.size:=by intro l cs h;obtain⟨_,b6,e,h2,_⟩:=j.loc l cs h;exact(qQ.1 h2).1
         rcases L with⟨b8,b4,O⟩|⟨a8,V,b5,B,b4,F,N⟩
         .obtain⟨hM',hT'⟩:=j.addRoots k.ids.mem (dro:=[]) (w1:=f) (E1:=E) a4 a6 G (by omega) O (fun q Q b=>by cases b) (fun q Q _ _ b=>by cases b) (fun _ _=>⟨rfl,rfl,rfl⟩)
          refine⟨v,f,g,Sim.next k (st1:=st) hM' hT' rfl rfl (fun _ h=>h) k.ids.ro k.ids.lo trivial (fun n hn=>by simp[MV.ids,zbD,zT,At.ids,zbm,zbs]at hn),?_⟩
          exact⟨w.heap.size,bv,K,S,R,j.size,fun q Q b y hy=>j.rlt q Q b y hy,a7,hv,I,hR,.inl (by omega)⟩
         .obtain⟨m,hm1,hrm,hh1,hh2⟩:=f5 f l1 S1 (fun z _ M=>F z (fun e=>M (e ▸ B))) (fun _ h _=>h) N;have b3:=zTW pp a3 m hm1;subst b3;obtain⟨_,_,_,_,a9⟩:=f5 w l1 S1 (fun _ _ _=>rfl) (fun _ h _=>h) f3;have D:∀q u,zY w R.t (E.ρ r) q=some u->zY f R.t (E.ρ r) q=some u:=by intro q u b;refine hh1 q u b (fun q' Z=>?_);subst Z;rw[a9]at b;exact z9J a2 q' _ _ b
          have J:=zI3 (w1:=f) (m:=R.l) (js:=[]) (S3:=E.φ r) k hR H a4 a6 G (by omega) (fun z hz M=>F z (fun e=>M (f4 z (e ▸ B)))) (fun z hz=>⟨.inl hz,by have:=j.rlt r R hR z hz;omega⟩) (hrm.weak fun z hz=>by
           rcases hz with⟨h,_⟩|h
           .exact h
           .exact f4 z h) (fun q u b _=>D q u b)
          have hE:({E with φ:=fun n=>if n=r then E.φ r else E.φ n}:Env)=E:=by
           have:(fun n=>if n=r then E.φ r else E.φ n)=E.φ:=by
            funext n
            split
            .rename_i e;rw[e]
            .rfl
           rw[this]
          rw[hE]at J;have b0:Sim w0 S0 U st E ts sv f:=by refine J.fewer (fun t=>?_) (fun n=>?_) ?_ (fun n Q A=>?_) (fun n Q A=>?_) (fun n Q e A Z=>j.epo n Q e A Z);{simp only [zhV,qP];cases st.tm[t]? <;> simp [zJL]};{simp only [zhV];rw[zk4];have:zc0 r []=id:=funext fun a=>zJK a;cases zn st.lo n<;>simp [this]};{simp only [zhV];have:zf9 r []=id:=funext fun a=>zJL a;simp[this]};{have Z:=z7v hd A;obtain⟨q1,_⟩:=zbz A;refine zhs ?_ (.inl Z);simp only[zhV,zn];split;{rename_i hb;simp only[qL]at hb;subst hb;rw[hR]at A;cases A;rfl};{exact q1}};{simp only [zhV,zn];split;{exact⟨_,rfl⟩};{exact⟨Q,A⟩}}
          refine⟨v,f,g,b0.putV trivial (fun n hn=>by simp[MV.ids,zbD,zT,At.ids,zbm,zbs]at hn),?_⟩
          refine⟨w.heap.size,bv,K,S,R,j.size,fun q Q b y hy=>j.rlt q Q b y hy,a7,hv,I,hR,.inr ⟨a8,l1.length,V,?_⟩⟩;refine D pp _ ?_;rw[hh,b5]
        .cases h
       .cases h
      .cases h
     .cases h
    .cases h
   .cases h
  .cases h
 .cases h
theorem z4B (hC:CfgOk C)(hS:Sim w0 S0 U st E ts sv w){o:Oper}{id:Nat}{x:App}{v:Value}{b4:St}(hL:Late w0 st E x v w)(g0:ts[x.dst]?=some v)(h:zE4 C st o x=some (true,b4)) :
 o.guard=none/\Goes C w0 S0 U st ts sv w o id (fun _=>b4.put o.dst .und)/\b4.nid=st.nid:=by
 unfold zE4 at h;split at h
 .rename_i T a d ho hgu;split at h
  .rename_i t1 r p i off hT ha;split at h
   .rename_i R t l c hRr L hsp;split at h
    .rename_i hcond;simp only[qE,q0,Nat.beq_eq_true_eq]at hcond;obtain⟨⟨⟨a4,a9⟩,b2⟩,G⟩:=hcond;have a9:=kH a9;have b2:=kH b2;subst a9 b2;split at h
     .rename_i l' hset;split at h
      .rename_i m hput;simp only[qC,jR]at h;obtain⟨rfl,rfl⟩:=h;refine⟨hgu,?_,rfl⟩;have f7:=ztz hsp;obtain⟨n0,X,g7,g3,R',e8,Q,e7,c6,P,M,S⟩:=hL;rw[hRr]at M;cases M;obtain⟨d0,g8⟩:=zbI hS ha;obtain⟨b,o2,len,c8,h0,e1,e2,e3,Y,e5⟩:=d0.2 R hRr;have hM:=hS.mem;have a5:=hM.rep _ R hRr;rw[a4]at a5;obtain⟨t',l0,S1,f1,f2,f3,f4,f5⟩:=Rep.focus p a5 e1;have d7:zg1 R.t R.l p=some (.s t l):=by obtain⟨R',M,d6⟩:=zfQ L;rw[hRr]at M;cases M;exact d6
       rw[d7] at f1;cases f1;rw[e2] at f2;cases f2;obtain⟨_,_,_,_,b5⟩:=f5 w l S1 (fun _ _ _=>rfl) (fun _ h _=>h) f3;cases f3 with
       |void _ _ _ ho=>cases ho
       |sl _ _ _ _ _ a6 e' fz V K _ hb d5 b0 a0 c5 a7 A a1 c7 b8=>
       have b9:=d5 rfl;subst b9;have N:Rows true w t l a6 o2 b V K S1:=⟨A,a1,c7,b8⟩;have a3:v.oneCell'=true:=by rw[c6];rfl
       have B:v.cells = #[v]:=cells_one a3;have O:off+[v].length<=t.width:=by simp;omega
       have c3:(i.toNat+1)*t.width<=c8*t.width:=qS _ (by omega)
       rw[jL]at c3;have H:=zpv (w:=w) (v:=v) (off:=o2+i.toNat*t.width+off) (hC.cty T false [.s t1] hT) hb (by rw[B];rfl) (by simp;omega) (by rw[B];intro u hu;simp at hu;rw[hu];exact a3)
       rw[B]at H;have e6:(#[v]:Array Value).toList=[v]:=rfl;rw[e6]at H;generalize J:w.setRow b (splice a6.toList (o2+i.toNat*t.width+off) [v]).toArray=w1 at H;have b7:w1.heap[b]?=some (.cells (splice a6.toList (o2+i.toNat*t.width+off) [v]).toArray e' (0,0)):=by rw[<- J];exact setRow_heap w b _ _ e' _ hb
       have D:∀y,y≠b->w1.heap[y]?=w.heap[y]?:=fun y z=>by rw[<- J];exact setRow_other w b y _ z
       have c2:E.φ x.r b:=f4 b a7;have g9:b<n0:=Q _ R hRr b c2;have a2:∀F j,F<l.length->j<t.width->¬ Hit i.toNat off [v].length F j->∀y,K F j y->w1.heap[y]?=w.heap[y]?:=fun F j I hj _ y z=>D y ((A F j y I hj z).2 rfl)
       have a8:n0<=X\/K i.toNat off X:=by rcases S with h|⟨g6,g5,g2,h⟩;{exact .inl h};{right;rw[<- f7,b5]at h;simp only[zY]at h;rw[if_pos ⟨e3,Y⟩]at h;split at h;{rename_i t3 f9;rw[cell_of_block hb,c7 i.toNat off Y G]at h;simp only[qC]at h;obtain⟨c,hc,d3⟩:=zB1 (x:=ix l i t.dflt) f9;obtain⟨l3,rfl⟩:=zl1 d3;have c1:=b8 i.toNat _ (zme Y) off _ hc;rw[h]at c1;cases c1 with|void _ _ _ ho=>cases ho|sl _ _ _ _ _ _ _ _ _ _ _ _ _ _ _ _ c9=>exact c9};{cases h}}
       have Z:X≠b:=by rcases a8 with h|h;{omega};{exact(A _ _ X Y G h).2 rfl}
       have b3:=Rep.setCells (w:=w) (w1:=w1) (us:=[v]) (Kn:=fun _ y=>y=X) b0 a0 c5 N Y rfl O hset b7 (fun k c u hc hu=>by
        cases k with
        |zero=>simp only[qI,qC]at hc hu;subst hc hu;exact P.frame (fun y z=>D y (by rw[z];exact Z))
        |succ k=>simp at hc)
        a2
        (fun k y _ z=>by rw[z];exact Z)
        (fun k k' y hk e0 _ _=>by simp at hk e0;omega)
        (fun k y F j hk z I hj e9 W=>by
         subst z;rcases a8 with h|h
         .have:=Q _ R hRr y (f4 y (A F j y I hj W).1);omega
         .have:=a1 rfl _ _ _ _ y Y G I hj h W;exact e9 ⟨this.1.symm,by omega,by simp;omega⟩)
       have b6:∀y,(y=b\/(∃F j,F<l.length/\j<t.width/\¬ Hit i.toNat off [v].length F j/\K F j y)\/∃k,k<[v].length/\y=X)->S1 y\/(n0<=y/\y=X):=by intro y z;rcases z with rfl|⟨F,j,I,hj,_,hk⟩|⟨k,hk,rfl⟩;{exact .inl a7};{exact .inl (A F j y I hj hk).1};{rcases a8 with h|h;{exact .inr ⟨h,rfl⟩};{exact .inl (A _ _ _ Y G h).1}}
       obtain⟨m',c0,f8,d8,d9⟩:=f5 w1 l' _ (fun y z b1=>D y (fun e=>b1 (e ▸ a7))) (fun y z W=>by
        rcases b6 y z with h|⟨h,_⟩
        .exact h
        .have:=Q _ R hRr y W;omega) b3
       rw[hput]at c0;cases c0;have g4:w1.heap.size=w.heap.size:=by rw[<- J];simp
       have d1:X<w.heap.size:=(z7Z P c6).1;have c4:=zEZ (w1:=w1) (m:=m) (js:=[cols p++[off]]) e8 Q e7 hS hRr a4 (by rw[<- J];rfl) (by rw[<- J];rfl) (by rw[<- J];rfl) (by omega) (fun y _ b1=>D y (fun e=>b1 (e ▸ c2))) (fun y z=>by
        rcases z with⟨z,_⟩|z
        .exact⟨.inl z,by have:=hM.rlt _ R hRr y z;omega⟩
        .rcases b6 y z with h|⟨h,rfl⟩
         .exact⟨.inl (f4 y h),by have:=hM.rlt _ R hRr y (f4 y h);omega⟩
         .exact⟨.inr h,by omega⟩) f8 (fun q u hq f6=>by
        rcases zt8 p q with⟨q',rfl⟩|f0
        .rw [d9 q'];rw[b5 q']at hq;refine zoT (us:=[v]) a0 c5 N hb Y rfl O hset b7 a2 q' (fun F j g1 he k c hj d2=>?_) D hq;subst he hj;cases k with
         |succ k=>simp at d2
         |zero=>exfalso;have h9:=kM.1 f6 (cols p++[off]) (by simp);exact absurd (zrq p F off g1) h9
        .exact d8 q u hq (fun q' he=>absurd ⟨q',he⟩ f0))
       have g:=c4.putV (dst:=o.dst) (m:=.und) (v:=undef) rfl (fun n L=>by simp[MV.ids,zbD]at L)
       refine zwJ (w':=w1) ?_ ⟨g.mem,⟨fun n R L=>.inl (g.ids.ro n R L),fun n cs L=>⟨.inl (g.ids.lo n cs L).1,fun a ha m hm=>.inl ((g.ids.lo n cs L).2 a ha m hm)⟩,fun m hm n L=>.inl (g.ids.tm m hm n L),fun f hf m hm n L=>.inl (g.ids.stk f hf m hm n L)⟩,g.tm,g.stk⟩;have d4:({tmps:=ts,defers:=[]}:Act).eval (.tmp x.dst)=v:=by simp[Act.eval,g0]
       simp[execOp,ho,Instr.storeAt,e5,Instr.sureAddr,d4,H]
      .cases h
     .cases h
    .cases h
   .cases h
  .cases h
 .cases h
end
section
variable {C:Cfg} {w0 w w1:World} {S0:zV} {U:Nat->Prop} {st st1:St} {E E1:Env} {ts:Array Value} {sv:List (Array Value)}
variable {ops:Array Oper} {b:Bool} {base:Nat} {cl:List (List Nat)} {ss:List Step} {st0:St}
theorem zNs {w b:World}(h:b.heap=w.heap):∀(p:List (Int×Nat)) (t:Ty) (v:Value),zY b t v p=zY w t v p
 |[],t,v=>by simp only[zY]
 |(i,j)::p,t,v=>by have d:∀a,b.cell? a=w.cell? a:=fun a=>(by simp only[World.cell?,h]);have e:=zNs h p;cases v with|slice a len c=>cases a<;>simp only [zY,d,e]|_=>simp only[zY]
theorem Sim.heap (g:Sim w0 S0 U st E ts sv w){w':World}(d:w'.heap=w.heap)(v:w'.os=w.os)(y:w'.tape=w.tape)(z:w'.output=w.output):Sim w0 S0 U st E ts sv w':=by
 have T:Trans st E w st E w' (fun _=>True):=⟨fun r _ R h=>⟨R,h,rfl,fun p u i=>by rw[zNs d];exact i⟩,fun l _ k h=>⟨⟨k,h⟩,rfl⟩,rfl⟩
 have a:=g.mem;refine⟨⟨by rw[v];exact a.os,by rw[y];exact a.tape,by rw[z];exact a.output,by rw[d];exact a.size,fun b A C=>by rw[d];exact a.keep b A C,
  fun r R h=>(a.rep r R h).frame (fun x _=>by rw[d]),fun r R h x D=>by rw[d];exact a.rlt r R h x D,a.mine,a.frz,a.apart,fun l k B=>?_,a.linj,a.lro,a.epo,a.κ⟩,g.ids,
  Slots.tr T (fun _ _ _ _=>trivial) g.tm,Stack.tr T (fun _ _ _ _ _ _=>trivial) g.stk⟩
 obtain⟨q,f,e,s,t,m⟩:=a.loc l k B;exact⟨q,f,e,by rw[d];exact s,t,fun j c u n i=>⟨(m j c u n i).1,VA.tr T (fun _ _=>trivial) (m j c u n i).2⟩⟩
theorem Sim.blind (d:Sim w0 S0 U st E ts sv w)(c:Bool)(n:Nat):Sim w0 S0 U {st with nid:=n,ep:=if c then st.ep+1 else st.ep} E ts sv w:=by
 have h:=d.nid n;cases c with
 |false=>exact h
 |true=>refine h.fewer (fun _=>rfl) (fun _=>rfl) rfl (fun r R b=>?_) (fun r R b=>⟨R,b⟩) (fun r R e b i=>?_);{obtain⟨f,a⟩:=zbz b;have j:R.ep=none:=(by rcases a with a|a;{exact a};{have:=d.mem.epo r R _ f a;simp only[if_true] at this;omega});show St.root {st with nid:=n} r=some R;unfold St.root;have g:zn ({st with nid:=n}:St).ro r=some R:=f;rw[g];simp only[j]};{have:=d.mem.epo r R e b i;show e<=st.ep+1;omega}
theorem cnt_lt {p q:Nat->Bool}:∀(l:List Nat),(∀x∈l,q x=true->p x=true)->(∃x∈l,p x=true/\q x=false)->l.countP q<l.countP p
 |[],_,h=>by obtain⟨x,b,_⟩:=h;cases b
 |a::l,e,g=>by
  have f:∀(m:List Nat),(∀x∈m,q x=true->p x=true)->m.countP q<=m.countP p:=fun m i=>List.countP_mono_left i;have i:=f l (fun x b=>e x (by simp[b]))
  simp only[vE];cases j:q a with
  |true=>
   rw[e a (by simp) j]
   have:l.countP q<l.countP p:=cnt_lt l (fun x b=>e x (by simp[b])) (by
    obtain⟨x,b,c,d⟩:=g;rcases qG.1 b with rfl|b
    .rw [j] at d;cases d
    .exact⟨x,b,c,d⟩)
   simp only[if_true];omega
  |false=>
   cases k:p a with
   |true=>simp;omega
   |false=>
    have:l.countP q<l.countP p:=cnt_lt l (fun x b=>e x (by simp[b])) (by
     obtain⟨x,b,c,d⟩:=g;rcases qG.1 b with rfl|b
     .rw [k] at c;cases c
     .exact⟨x,b,c,d⟩)
    simp;omega
def left (n:Nat)(listed:Array Bool):Nat:=(List.range n).countP fun i=>!listed.getD i true
theorem zLn {listed:Array Bool}{n i:Nat}(e:i<n)(c:listed.getD i true=false):left n (listed.setIfInBounds i true)<left n listed:=by unfold left;have a:i<listed.size:=(by rcases u1 i listed.size with h|h;{exact h};{simp [uT h]at c});refine cnt_lt _ (fun x _ d=>?_) ⟨i,kG.2 e,by rw[c];rfl,by simp[a]⟩;by_cases b:i=x;{subst b;simp[a]at d};{rwa [getD_set_ne true b]at d}
theorem z0E {C:Cfg}{st:St}{o:Oper}{id:Nat}{d:Dl}(b:zsE o=true)(h:zj9 C st o id=some d):delta C st o id=some d:=by unfold zj9 at h;cases e:delta C st o id with|some g=>rw[e]at h;exact h|none=>rw[e]at h;exfalso;have h:zlv C st o id=some d:=h;have f:zjS C o=none:=(by unfold zsE at b;unfold zjS;cases a:o.op with|call c=>rw[a]at b;simp at b|_=>rfl);unfold zlv at h;rw[f]at h;cases h
structure Waits (md:Region.Mode) (ops:Array Oper) (cl:List (List Nat)):Prop where
 at':∀i,i<ops.size->cl.getD i []=waits ops (cl.take i) i
 lt:∀i,i<ops.size->∀j∈cl.getD i [],j<i
 sub:∀e,Region.binds .any e=true->Region.binds md e=true
 rk:∃rk:Nat->Nat,∀(i:Nat) (o:Oper),ops[i]?=some o->∀e∈o.after,Region.binds md e=true->e.on<ops.size/\rk e.on<rk i
variable {md:Region.Mode}
theorem zbdq (a:∀i,i<ops.size->cl.getD i []=waits ops (cl.take i) i){i:Nat}{o:Oper}(b:ops[i]?=some o){e:Edge}(d:e∈o.after)(c:Region.binds .any e=true):e.on∈cl.getD i []:=by have f:=(qQ.1 b).1;rw[a i f];simp only[waits,b];exact zPT (by simpa using d) c
theorem zVM {l:List (List Nat)}{i j k:Nat}(h:k∈(l.take i).getD j []):k∈l.getD j []:=by rw[j5,jI]at h;rw[j5];split at h;{exact h};{simp at h}
theorem Waits.inv (W:Waits md ops cl){i j:Nat}{o:Oper}(b:ops[i]?=some o)(a:j∈cl.getD i []):∃e∈o.after,Region.binds .any e=true/\(j=e.on\/j∈cl.getD e.on []):=by have f:=(qQ.1 b).1;rw[W.at' i f]at a;simp only[waits,b]at a;obtain⟨e,d,c,h⟩:=zPU a;exact⟨e,by simpa using d,c,h.imp id zVM⟩
def XL (listed:Array Bool)(k:Nat):Bool:=listed.getD k false
theorem zJa (W:Waits md ops cl){listed:Array Bool}(d:zku cl (XL listed)){i:Nat}(f:i∈Region.ready md ops listed):∀j∈cl.getD i [],XL listed j=true:=by obtain⟨_,o,k,a⟩:=mem_ready.1 f;intro j g;obtain⟨e,c,b,h|h⟩:=W.inv k g;{subst h;exact a e c (W.sub e b)};{exact d _ (a e c (W.sub e b)) j h}
theorem least {p:Nat->Prop}:∀n,p n->∃m,m<=n/\p m/\∀j,j<m->¬ p j:=by intro n;induction n using Nat.strongRecOn with|_ n i=>intro g;by_cases h:∃j,j<n/\p j;{obtain⟨j,d,e⟩:=h;obtain⟨m,k,b,c⟩:=i j d e;exact⟨m,by omega,b,c⟩};{exact⟨n,qY _,g,fun j f a=>h ⟨j,f,a⟩⟩}
theorem zO5 (W:Waits md ops cl){listed:Array Bool}(s:listed.size=ops.size){b:Nat}(c:b<ops.size)(d:listed.getD b true=false):∃i,i∈Region.ready md ops listed:=by obtain⟨j,g⟩:=W.rk;obtain⟨n,_,⟨i,k,r,u⟩,a⟩:=least (p:=fun n=>∃i,i<ops.size/\listed.getD i true=false/\j i=n) (j b) ⟨b,c,d,rfl⟩;refine⟨i,mem_ready.2 ⟨r,ops[i],by simp[k],fun e q m=>?_⟩⟩;obtain⟨l,t⟩:=g i ops[i] (by simp[k]) e q m;cases h:listed.getD e.on false with|true=>rfl|false=>exfalso;refine a (j e.on) (by omega) ⟨e.on,l,?_,rfl⟩;have f:e.on<listed.size:=(by omega);simp only[Array.getD,f,dif_pos]at h ⊢;exact h
theorem ztQ {listed:Array Bool}{i:Nat}(a:i<listed.size):XL listed i=listed.getD i true:=by simp[XL,a]
theorem zMS {listed:Array Bool}{i:Nat}(a:i<listed.size)(k:Nat):XL (listed.setIfInBounds i true) k=(XL listed k||k==i):=by unfold XL;by_cases h:i=k;{subst h;simp[a]};{rw [getD_set_ne false h];have:(k==i)=false:=(by simp;omega);rw[this,uY]}
theorem z5S {P:Program}{Q d:Exit->Act->World->Prop}(f:∀e,e≠.normal->∀a w,d e a w->Q e a w){i:Nat}{K:Act->World->Prop}{a:Act}{w:World}(h:wpOp P ops d i K a w):wpOp P ops Q i K a w:=by
 have b:LetsOut d->LetsOut Q:=(by rintro⟨a,w,h⟩;exact⟨a,w,f _ (by simp) a w h⟩);unfold wpOp at h ⊢;split;{rename_i m;rw[m]at h;exact h}
 .rename_i o ho;simp only[ho]at h;split
  .rename_i j;rw[if_pos j]at h;rcases h with h|⟨k,l⟩
   .left
    unfold Oper.wp at *;generalize (execOp a.eval o).run P w=r at *;cases r with
    |ok n p =>
     cases n<;>simp only [Oper.upon]at h ⊢ <;>
      first
       |exact h
       |exact h.mono (fun e q g=>by
        cases e with
        |returned v=>exact g
        |panicked c=>exact f _ (by simp) _ _ g
        |outgrown=>exact b g)
    |halt x p =>cases x<;>simp only [Oper.upon]at h ⊢ <;> first|exact f _ (by simp) _ _ h|exact h
   {exact .inr ⟨k,b l⟩}
  {rename_i j;rw[if_neg j]at h;exact h}
theorem ztf (W:Waits md ops cl){listed:Array Bool}{m:Nat}(e:listed.size=ops.size)(c:∀i,i<ops.size->listed.getD i true=decide (i<m)):zku cl (XL listed):=by intro k b j d;have a:k<ops.size:=(by rcases u1 k listed.size with h|h;{omega};{simp [XL,uT h]at b});rw[ztQ (by omega),c k a]at b;simp at b;have:=W.lt k a j d;rw[ztQ (by omega),c j (by omega)];simp;omega
theorem z98 {P:Program}{Q:Exit->Act->World->Prop}{c:Nat}{b:Array Bool}{a:Act}{w:World}(g:∀i,i<ops.size->b.getD i true=true)(h:Q .normal a w):wpAny P md ops Q c b a w:=by have f:Region.ready md ops b=[]:=(by refine List.eq_nil_iff_forall_not_mem.2 (fun i d=>?_);obtain⟨e,o,j,_⟩:=mem_ready.1 d;have d:=(qQ.1 j).1;rw[g i d]at e;cases e);cases c with|zero=>exact⟨f,h⟩|succ c=>exact⟨fun _=>h,fun i d=>by rw[f]at d;cases d⟩
theorem z2P (W:Waits md ops cl){P:Program}{Q:Exit->Act->World->Prop}{b m:Nat}{listed:Array Bool}{a:Act}{w:World}(c:listed.size=ops.size)(r:m<ops.size)(A:Pinned ops.size cl m)(p:∀i,i<ops.size->listed.getD i true=decide (i<m))(B:left ops.size listed<=b)(h:∀q l,l.size=ops.size->(∀i,i<ops.size->l.getD i true=decide (i<m+1))->left ops.size l<=q->b=q+1->l=listed.setIfInBounds m true->wpOp P ops Q m (wpAny P md ops Q q l) a w):wpAny P md ops Q b listed a w:=by have t:listed.getD m true=false:=(by rw[p m r];simp);obtain⟨C,j⟩:=zO5 W c r t;have y:=zLn (listed:=listed) (n:=ops.size) (i:=m) r t;obtain⟨b,rfl⟩:∃f,b=f+1:=⟨b-1,by omega⟩;refine⟨fun h=>(by rw[h]at j;cases j),fun i v=>?_⟩;obtain⟨u,o,z,_⟩:=mem_ready.1 v;have d:=(qQ.1 z).1;rw[p i d]at u;simp only[decide_eq_false_iff_not,Nat.not_lt]at u;have e:i=m:=(by by_cases s:i=m;{exact s};{exfalso;have:=zJa W (ztf W c p) v m (A.wait i (by omega) d);rw[ztQ (by omega),t] at this;cases this});subst e;refine h b _ (by simp[c]) (fun k x=>?_) (by omega) rfl rfl;by_cases g:i=k;{subst g;simp[c,d]};{rw [getD_set_ne true g,p k x];congr 1;simp only[eq_iff_iff];omega}
theorem zWw {a T:Nat}(W:Waits md ops cl)(M:T<=ops.size)(s:T<ops.size->Pinned ops.size cl T){P:Program}{Q:Exit->Act->World->Prop}{J:(Nat->Bool)->Env->Array Value->World->Prop}(d:∀X Y E ts w,(∀k,a<=k->k<T->X k=Y k)->J X E ts w->J Y E ts w)(l:∀X Y i,zku cl X->a<=i->i<T->X i=false->(∀j∈cl.getD i [],X j=true)->(∀k,Y k=(X k||k==i))->∀E ts w,J X E ts w->∀K:Act->World->Prop,(∀A c y,J Y A c y->K {tmps:=c,defers:=[]} y)->wpOp P ops Q i K {tmps:=ts,defers:=[]} w)(p:∀(Z:Nat) (I:Array Bool) (A:Env) (c:Array Value) (y:World),I.size=ops.size->(∀i,i<ops.size->I.getD i true=decide (i<T))->left ops.size I<=Z->J (fun _=>true) A c y->wpAny P md ops Q Z I {tmps:=c,defers:=[]} y) :
 ∀(b:Nat) (listed:Array Bool) (E:Env) (ts:Array Value) (w:World),listed.size=ops.size->zku cl (XL listed)->(∀i,i<a->XL listed i=true)->(∀m,T<=m->m<ops.size->XL listed m=false)->left ops.size listed<=b->
  J (XL listed) E ts w->wpAny P md ops Q b listed {tmps:=ts,defers:=[]} w
 |b,listed,E,ts,w,x,N,q,g,hf,hS=>by by_cases e:∀i,i<T->XL listed i=true;{have hl:∀i,i<ops.size->listed.getD i true=decide (i<T):=(by intro i z;rw[<- ztQ (by omega)];by_cases h:i<T;{rw [e i h];simp[h]};{rw [g i (by omega) z];simp[h]});exact p b listed E ts w x hl hf (d _ _ E ts w (fun k _ v=>e k v) hS)};{have O:∃i,i<T/\XL listed i=false:=(by refine Classical.byContradiction (fun V=>e (fun i z=>?_));cases h:XL listed i with|true=>rfl|false=>exact absurd ⟨i,z,h⟩ V);obtain⟨H,R,r⟩:=O;have F:listed.getD H true=false:=(by rw[<- ztQ (by omega)];exact r);obtain⟨i1,D⟩:=zO5 W x (by omega) F;have a0:0<left ops.size listed:=(by have:=zLn (listed:=listed) (n:=ops.size) (i:=H) (by omega) F;omega);obtain⟨b,rfl⟩:∃f,b=f+1:=⟨b-1,by omega⟩;refine⟨fun h=>(by rw[h]at D;cases D),fun i z=>?_⟩;obtain⟨h0,o,ho,_⟩:=mem_ready.1 z;have B:=(qQ.1 ho).1;have u:XL listed i=false:=(by rw[ztQ (by omega)];exact h0);have G:=zJa W N z;have S:a<=i:=(by refine Classical.byContradiction (fun V=>?_);rw[q i (by omega)]at u;cases u);have t:i<T:=(by refine Classical.byContradiction (fun V=>?_);have hp:=s (by omega);by_cases t:i=T;{subst t;have:=G H (hp.full H R);rw[r] at this;cases this};{have:=G T (hp.wait i (by omega) B);rw[g T (qY _) (by omega)] at this;cases this});refine l _ (XL (listed.setIfInBounds i true)) i N S t u G (zMS (by omega)) E ts w hS _ (fun A c y L=>?_);refine zWw W M s d l p b (listed.setIfInBounds i true) A c y (by simp[x]) ?_ ?_ ?_ ?_ L;{intro k v j hj;rw[zMS (by omega)]at v ⊢;by_cases C:k=i;{subst C;rw[G j hj];rfl};{have:(k==i)=false:=(by simp[C]);rw[this,uY]at v;rw[N k v j hj];rfl}};{intro k v;rw[zMS (by omega),q k v];rfl};{intro m hm U;rw[zMS (by omega),g m hm U];simp;omega};{have:=zLn (listed:=listed) (n:=ops.size) B h0;omega}}
theorem z9L (A:CfgOk C)(D:CtrOk C)(B:GraftOk C){a T:Nat}(W:Waits md ops cl)(I:a+ss.length=T)(q:T<=ops.size)(g:T<ops.size->Pinned ops.size cl T)(F:Free C ops cl b base a ss st0)(N:b=false->∀k,a<=k->k<T->zlo C ops k=false)(O:b=true->Dead st0/\0<st0.ep)(H:∀k,a<=k->k<T->∀n,Mine (base+32*k) n->¬ U n){Q:Exit->Act->World->Prop}(e:∀(t:Nat) (p:Array Bool) (y:Env) (j:Array Value) (x:World),p.size=ops.size->(∀i,i<ops.size->p.getD i true=decide (i<T))->left ops.size p<=t->
 Sim w0 S0 (UX U base a T (fun _=>true)) (zbA ops b (fun _=>true) a ss st0) y j sv x->wpAny C.P md ops Q t p {tmps:=j,defers:=[]} x) :
 ∀(d:Nat) (c:Array Bool) (E:Env) (ts:Array Value) (w:World),c.size=ops.size->zku cl (XL c)->(∀i,i<a->XL c i=true)->(∀m,T<=m->m<ops.size->XL c m=false)->left ops.size c<=d->
  Sim w0 S0 (UX U base a T (XL c)) (zbA ops b (XL c) a ss st0) E ts sv w->wpAny C.P md ops Q d c {tmps:=ts,defers:=[]} w :=
 zWw (J:=fun X E ts w=>Sim w0 S0 (UX U base a T X) (zbA ops b X a ss st0) E ts sv w) W q g
  (fun X Y E ts w h l=>by
   rw[zrv ss a st0 (fun k f v=>h k f (by omega))]at l
   refine l.uses ?_
   rintro n (f|⟨k,u,f,v,z⟩)
   .exact .inl f
   .exact .inr ⟨k,u,f,by rw[<- h k u f];exact v,z⟩)
  (fun X Y i L s R r S M E ts w l K G=>zTA A D B I F L s R r S N O H M l G) e
theorem get_put {st:St}{d:Nat}{m:MV}{a:Key}(h:a≠.tm d):(st.put (some d) m).get a=st.get a:=by cases a with|tm t=>have:d≠t:=fun e=>h (by rw[e]);simp[St.get,St.put,q9,this]|ro n=>rfl|lo n=>rfl
theorem z8L {st b:St}{o:Oper}(c:b.ep=st.ep)(g:∀t∈zpf o,b.get (.tm t)=st.get (.tm t))(f:∀n∈(zt5 st o).flatMap zbm,b.get (.ro n)=st.get (.ro n))(d:∀n∈(zt5 st o).flatMap zbs,b.get (.lo n)=st.get (.lo n)):Agree st b o.op.operands.toList:=by refine⟨c,fun x h=>?_,fun x h m k a j=>?_⟩;{cases x with|tmp t=>have l:t∈zpf o:=(by unfold zpf;exact uM.2 ⟨_,h,rfl⟩);simp only[St.opnd,zNm (g t l)]|_=>rfl};{have i:a∈zt5 st o:=(by unfold zt5;exact qO.2 ⟨m,uM.2 ⟨x,h,k⟩,j⟩);exact⟨fun n e=>zEG (f n (qO.2 ⟨a,i,e⟩)),fun n e=>zNl (d n (qO.2 ⟨a,i,e⟩))⟩}
theorem z0x {st k:St}{o:Oper}(h:Agree st k o.op.operands.toList):zro C k o=zro C st o:=by cases f:o.op with|call c=>rw[f]at h;have l:∀x∈c.args.toList,x∈(Op.call c).operands.toList:=fun x j=>(by simp only[Op.operands,Call.operands,Array.toList_append,jG];exact .inr j);simp only[zro,f];(cases w:o.dst with|none=>rfl|some d=>(cases hg:o.guard with|some g=>rfl|none=>simp only;(cases q:c.callee with|builtin b=>(cases b with|append=>simp only;split;{rename_i x y T u i s;have j:=l x (by rw[i];simp);have m:=l y (by rw[i];simp);rw[h.at j,h.at m];split;{cases v:C.sty T with|none=>rfl|some t=>(cases e:st.at x with|none=>rfl|some a=>(cases a with|sl r p=>(cases p with|nil=>rfl|cons z p=>(cases n:st.at y with|none=>rfl|some b=>(cases b with|sl B A=>simp only[h.root (zdY j e),h.node (zdY j e),h.node (zdY m n)]|_=>rfl)))|_=>rfl))};{rfl}};{rfl}|_=>rfl)|_=>rfl)))|_=>simp only[zro,f]
theorem zO4 (g:CfgOk C)(e:Sim w0 S0 U st E ts sv w){o:Oper}{id:Nat}{d:Dl}(b:zsE o=true)(h:delta C st o id=some d)(i:d.c=true):o.guard=none/\ztP C U st E ts w o d:=by
 unfold zsE at b;simp only[qE,kI]at b;obtain⟨hg,b⟩:=b;refine⟨hg,?_⟩;cases a:o.op
 case move x=>
  rw[a]at b;cases x with
  |tmp t=>simp only[delta,a]at h;split at h;{rename_i v j;cases h;exact z7Q e (.inl a) j};{cases h}
  |_=>simp at b
 (case load T x=>exact z7P g e a h);(case fieldAddr T x f=>exact zI8 g e a h);(case indexAddr T x y=>exact zI9 g e a h i);(case nilCheck x=>exact zOY e a h);all_goals (rw [a]at b;simp at b)
theorem pure_run {o:Oper}{i:Nat}{d:Dl}{v:Value}{Q:Exit->Act->World->Prop}{K:Act->World->Prop}(a:ops[i]?=some o)(hg:o.guard=none)(b:(execOp ({tmps:=ts,defers:=[]}:Act).eval o).run C.P w = .ok (.value v) w1)(h:K {tmps:=(({tmps:=ts,defers:=[]}:Act).put o.dst v).tmps,defers:=[]} w1):wpOp C.P ops Q i K {tmps:=ts,defers:=[]} w:=by unfold wpOp;simp only[a];rw[if_pos (by simp[Region.wanted,hg])];left;unfold Oper.wp;rw[b,Oper.upon_value,ziS];exact h
theorem zZe {d t:Nat}{v u:Value}(h:ts[t]?=some u)(a:d≠t):(({tmps:=ts,defers:=[]}:Act).put (some d) v).tmps[t]?=some u:=by simp[Act.put,Array.getElem?_setIfInBounds_ne a,h]
theorem z9U (hC:CfgOk C)(hH:CtrOk C)(hG:GraftOk C){a A:Nat}(W:Waits md ops cl)(hA:a+ss.length=A)(c4:A+1<=ops.size)(c1:A+1<ops.size->Pinned ops.size cl (A+1))(F:Free C ops cl b base a ss st0)(hb:b=false->∀k,a<=k->k<A->zlo C ops k=false)(c6:b=true)(hd:b=true->Dead st0/\0<st0.ep)(hM:∀k,a<=k->k<A->∀n,Mine (base+32*k) n->¬ U n){D:Oper}{x:App}(d5:ops[A]?=some D)(y:zro C (zbA ops b (fun _=>true) a ss st0) D=some (true,x))(d1:zE3 ops cl a A=true)(a5:x.dst<(zbA ops b (fun _=>true) a ss st0).tm.length)(N:∀i s o f,ss[i]?=some s->ops[a+i]?=some o->At1 C ops base (a+i) o (zbA ops b (fun j=>decide (j<a+i)) a ss st0) f s->a+i∉cl.getD A []->f.apart (zfz (zbA ops b (fun _=>true) a ss st0) ops D zGI)=true){Q:Exit->Act->World->Prop}(b0:∀(fl:Nat) (l':Array Bool) (E':Env) (B:Array Value) (w':World) (v:Value),l'.size=ops.size->(∀i,i<ops.size->l'.getD i true=decide (i<A+1))->left ops.size l'<=fl->B[x.dst]?=some v->
 Sim w0 S0 (UX U base a A (fun _=>true)) ((zbA ops b (fun _=>true) a ss st0).put D.dst (.v (.at .bad))) E' B sv w'->Late w0 ((zbA ops b (fun _=>true) a ss st0).put D.dst (.v (.at .bad))) E' x v w'->wpAny C.P md ops Q fl l' {tmps:=B,defers:=[]} w')(I:Nat)(g:Array Bool)(E:Env)(ts:Array Value)(w:World)(d6:g.size=ops.size)(hX:zku cl (XL g))(b3:∀i,i<a->XL g i=true)(a6:∀m,A<=m->m<ops.size->XL g m=false)(hf:left ops.size g<=I)(hS:Sim w0 S0 (UX U base a A (XL g)) (zbA ops b (XL g) a ss st0) E ts sv w):wpAny C.P md ops Q I g {tmps:=ts,defers:=[]} w:=by
 have l:D.dst=some x.dst/\D.guard=none:=by unfold zro at y;split at y;{rename_i c d ho l c9;refine⟨?_,c9⟩;rw[l];congr 1;(repeat' (first|(split at y)|(cases y)));all_goals first|rfl|(simp only [qC,jR]at y;obtain⟨_,rfl⟩:=y;rfl)};{cases y}
 have S:∀{X Y:Nat->Bool} {i:Nat},(∀k,Y k=(X k||k==i))->∀n,UX U base a A X n->UX U base a A Y n:=by intro X Y i V n h;rcases h with h|⟨k,h0,p,r,h3⟩;{exact .inl h};{exact .inr ⟨k,h0,p,by rw[V,r];rfl,h3⟩}
 have a8:∀{X:Nat->Bool} (q:Key),(∀j∈cl.getD A [],X j=true)->(zfz (zbA ops b (fun _=>true) a ss st0) ops D zGI).reads q->(zbA ops b X a ss st0).get q=(zbA ops b (fun _=>true) a ss st0).get q:=by intro X q hr H;refine zru ss a st0 st0 rfl rfl (fun k s' o' hk b9 a9 hw=>?_);obtain⟨o2,f',c0,r⟩:=F.at1 k s' hk;rw[b9]at c0;cases c0;have b1:X (a+k)=false:=(by cases h:X (a+k) with|false=>rfl|true=>exact absurd h a9);have hn:a+k∉cl.getD A []:=fun h=>(by rw[hr _ h]at b1;cases b1);exact((apart_spec (N k s' o' f' hk b9 r hn)).1 q ((zEp r q).1 hw)).1 H
 refine zWw (T:=A+1) (J:=fun X E ts w=>(X A=false->Sim w0 S0 (UX U base a A X) (zbA ops b X a ss st0) E ts sv w)/\
  (X A=true->∃v,ts[x.dst]?=some v/\Sim w0 S0 (UX U base a A X) ((zbA ops b X a ss st0).put D.dst (.v (.at .bad))) E ts sv w/\Late w0 (zbA ops b X a ss st0) E x v w)) W c4 c1 ?_ ?_ ?_
  I g E ts w d6 hX b3 (fun m p r=>a6 m (by omega) r) hf ⟨fun _=>hS,fun h=>(by rw[a6 A (qY _) (by omega)]at h;cases h)⟩
 .intro X Y E ts w h hJ;have u:X A=Y A:=h A (by omega) (by omega)
  have e:=zrv (ops:=ops) (b:=b) ss a st0 (X:=X) (Y:=Y) (fun k p r=>h k p (by omega))
  have hu:∀n,UX U base a A X n->UX U base a A Y n:=by rintro n (p|⟨k,h0,p,r,h3⟩);{exact .inl p};{exact .inr ⟨k,h0,p,by rw[<- h k h0 (by omega)];exact r,h3⟩}
  refine⟨fun G=>?_,fun G=>?_⟩
  .have:=hJ.1 (u.trans G);rw[e] at this;exact this.uses hu
  .obtain⟨v,p,r,h3⟩:=hJ.2 (u.trans G);rw[e]at r h3;exact⟨v,p,r.uses hu,h3⟩
 .intro X Y i hX hia hi hXi hr V E ts w hJ K hK
  by_cases d0:i=A
  .subst d0;have L:=hJ.1 hXi;have b2:zbA ops b Y a ss st0=zbA ops b X a ss st0:=zrv ss a st0 (fun k p r=>by
    rw[V];have:(k==i)=false:=by simp;omega
    rw[this,uY])
   have c5:Agree (zbA ops b (fun _=>true) a ss st0) (zbA ops b X a ss st0) D.op.operands.toList :=
    z8L (by rw[zhD,zhD]) (fun t ht=>a8 (.tm t) hr (by simp only[Foot.reads,zfz];exact jY _ ht)) (fun n hn=>a8 (.ro n) hr hn) (fun n hn=>a8 (.lo n) hr hn)
   have a2:=z0x (C:=C) c5;rw[y]at a2;have c8:Dead (zbA ops b X a ss st0):=by subst c6;exact zAV ss a st0 (hd rfl).1 (hd rfl).2
   obtain⟨hg,c7,v,w',R,a7,hL⟩:=z9Y hC L c8 a2;refine pure_run (d:=zGI) d5 hg R (hK E _ w' ⟨fun h=>(by rw[V]at h;simp at h),fun _=>⟨v,?_,?_,?_⟩⟩)
   .rw [c7];have d4:x.dst<ts.size:=by rw[L.tm.1,zoj];rw[zoj]at a5;exact a5
    simp[Act.put,d4]
   .rw [b2];exact a7.uses (S V)
   .rw [b2];exact hL
  .have hiA':i<A:=by omega
   have G:Y A=X A:=by rw[V];have:(A==i)=false:=(by simp;omega);rw[this,uY]
   cases u:X A with
   |false=>refine zTA hC hH hG hA F hX hia hiA' hXi hr hb hd hM V (hJ.1 u) (fun E' B w' a7=>hK E' B w' ⟨fun _=>a7,fun h=>(by rw[G,u]at h;cases h)⟩)
   |true=>
    obtain⟨v,hv,L,hL⟩:=hJ.2 u;obtain⟨j,rfl⟩:∃j,i=a+j:=⟨i-a,by omega⟩;obtain⟨s,hs⟩:∃s,ss[j]?=some s:=⟨_,qB (by omega)⟩;obtain⟨o,f,ho,p,r⟩:=zNk F hX hs hXi hr;have b8:a+j∉cl.getD A []:=fun h=>(by rw[hX A u _ h]at hXi;cases hXi);have O:zsE o=true:=(by have:=qM.1 d1 (a+j) (by simp;omega);simp only[ho,j7,jM,q0] at this;rcases this with h|h;{exact absurd h b8};{exact h});have a3:=apart_spec (N j s o f hs ho p b8);have c2:(zfz (zbA ops b (fun _=>true) a ss st0) ops D zGI).writes (.tm x.dst):=(by simp only[Foot.writes,zfz];exact l.1);have a9:∀q,f.reads q->q≠.tm x.dst:=fun q H e=>a3.2 (.tm x.dst) c2 (e ▸ H);have a4:o.dst≠some x.dst:=fun e=>(a3.1 (.tm x.dst) ((zEp p (.tm x.dst)).1 (by cases s<;>exact e))).2 c2;have a0:∀Z,(zbA ops b Z a ss st0).ep=st0.ep:=fun Z=>zhD ss a st0;have M:=zWy (S':=(zbA ops b X a ss st0).put D.dst (.v (.at .bad))) p (by rw[a0,l.1];exact a0 X) (fun q H=>by rw[l.1,get_put (a9 q H)];exact r q H);have b4:o.guard=none:=by unfold zsE at O;simp only[qE,kI]at O;exact O.1
    cases s with
    |none=>exfalso;have:zdo ops o ((zbA ops b X a ss st0).put D.dst (.v (.at .bad)))=some false:=M;simp[zdo,b4] at this
    |some d=>
     obtain⟨_,d2,d3⟩:=M;obtain⟨_,v2,R,d7,b5,e1,e2,e3⟩:=zO4 hC L O (z0E O d2) d3;have z:∀q,(zbA ops b Y a ss st0).get q=((zbA ops b X a ss st0).put o.dst d.v).get q:=(by intro q;rw[zXf F hX hs ho hXi V q];simp only[St.step,St.effD,e1,e2,List.map_nil,jS]);have c3:Sim w0 S0 (UX U base a A X) (((zbA ops b X a ss st0).put D.dst (.v (.at .bad))).put o.dst d.v) E (({tmps:=ts,defers:=[]}:Act).put o.dst v2).tmps sv w:=L.putV d7 b5;refine pure_run (d:=d) ho b4 R (hK E _ w ⟨fun h=>(by rw[G,u]at h;cases h),fun _=>⟨v,?_,?_,?_⟩⟩);{cases a1:o.dst with|none=>exact hv|some t=>exact zZe hv (fun e=>a4 (by rw[a1,e]))}
     .refine(c3.same (fun q=>?_) ?_ ?_).uses (S V)
      .rw [l.1];cases q with
       |tm t=>
        have hk:=z (.tm t);have b6:(zbA ops b Y a ss st0).tm.length=(zbA ops b X a ss st0).tm.length:=(by rw[zoj,zoj]);by_cases ht:t=x.dst;{subst ht;cases a1:o.dst with|none=>simp[St.get,St.put,q9,b6]|some t' =>have:t'≠x.dst:=fun e=>a4 (by rw[a1,e]);simp[St.get,St.put,q9,b6,this]}
        .have hne':x.dst≠t:=fun e=>ht e.symm;rw[get_put (by simpa using ht),hk]
         cases a1:o.dst with
         |none=>simp[St.get,St.put,q9,hne']
         |some t' =>simp only[St.get,St.put,q9,List.length_set];split;{rfl};{first|rfl|rw[if_neg hne']}
       |ro n=>have hk:=z (.ro n);rw[get_put (by simp),hk];cases o.dst<;>rfl
       |lo n=>have hk:=z (.lo n);rw[get_put (by simp),hk];cases o.dst<;>rfl
      {rw [l.1];have p:(zbA ops b Y a ss st0).stk=(zbA ops b X a ss st0).stk:=(by rw[zso,zso]);cases o.dst<;>exact p};{rw [l.1];have p:(zbA ops b Y a ss st0).ep=(zbA ops b X a ss st0).ep:=(by rw[zhD,zhD]);cases o.dst<;>exact p}
     .have hro:∀n,zn (zbA ops b Y a ss st0).ro n=zn (zbA ops b X a ss st0).ro n:=fun n=>(by rw[zEG (z (.ro n))];cases o.dst<;>rfl);have b7:∀n,zn (zbA ops b Y a ss st0).lo n=zn (zbA ops b X a ss st0).lo n:=fun n=>by rw[zNl (z (.lo n))];cases o.dst<;>rfl
      exact hL.states (fun n=>by
       unfold St.root;rw[hro n,a0 Y,a0 X]) b7
 .intro fl l' E' B w' hsz' hl' hf' hJ;obtain⟨v,p,r,h3⟩:=hJ.2 rfl;refine b0 fl l' E' B w' v hsz' hl' hf' p r (h3.states (fun n=>?_) (fun n=>?_))
  .rw [l.1];rfl
  .rw [l.1];rfl
def VV (U:Nat->Prop)(base a m n:Nat):Prop:=U n\/(base<=n/\n<base+32*m)\/base+32*a<=n
theorem zzs (N:CfgOk C)(W:Waits md ops cl){x:App}{kk:Nat->List Bool->St->Option Ans}{s:Ans}{Q:Exit->Act->World->Prop}(B:∀(H:Nat) (r':List Bool) (L:Nat->Prop) (j:St) (K:Env) (I:Array Value) (J:World) (u:Nat) (p:Array Bool),r'=(zhJ ops.size cl).drop H->H<=ops.size->p.size=ops.size->(∀i,i<ops.size->p.getD i true=decide (i<H))->left ops.size p<=u->
 Sim w0 S0 L j K I sv J->(∀n,L n->VV U base ops.size H n)->(∀n,j.nid<=n->¬ L n)->base+32*ops.size<=j.nid->kk H r' j=some s->wpAny C.P md ops Q u p {tmps:=I,defers:=[]} J) :
 ∀(l:List Bool) (m:Nat) (V:Nat->Prop) (st:St) (E:Env) (ts:Array Value) (w:World) (b:Nat) (a:Array Bool) (v:Value),l=(zhJ ops.size cl).drop m->m<=ops.size->a.size=ops.size->(∀i,i<ops.size->a.getD i true=decide (i<m))->left ops.size a<=b->
  Sim w0 S0 V st E ts sv w->(∀n,V n->VV U base ops.size m n)->(∀n,st.nid<=n->¬ V n)->base+32*ops.size<=st.nid->ts[x.dst]?=some v->Late w0 st E x v w->zqJ C ops base x kk l m st=some s->wpAny C.P md ops Q b a {tmps:=ts,defers:=[]} w
 |[],m,V,st,E,ts,w,b,a,v,_,_,_,_,_,_,_,_,_,_,_,h=>by simp[zqJ]at h
 |false::r,m,V,st,E,ts,w,b,a,v,_,_,_,_,_,_,_,_,_,_,_,h=>by simp[zqJ]at h
 |true::r,m,V,st,E,ts,w,b,a,v,hp,hm,Y,hl,hf,O,hV,hF,hn,Z,hL,h=>by
  simp only[zqJ]at h;obtain⟨T,F,hr⟩:=zsC hp;have y:∀n,V n->VV U base ops.size (m+1) n:=(by rintro n g;rcases hV n g with h|⟨M,h2⟩|h;{exact .inl h};{exact .inr (.inl ⟨M,by omega⟩)};{exact .inr (.inr h)});refine z2P W Y T (zyq F.symm) hl hf (fun u p k D z _ _=>?_);split at h;{cases h}
  .rename_i o ho;split at h
   .rename_i c st2 hst;cases q:c with
    |false=>rw[q]at h;cases h
    |true=>rw[q]at h hst;simp only[cond_true,zGr]at h;obtain⟨hg,S,a1⟩:=z4B (id:=base+32*m) N O hL Z hst;unfold wpOp;simp only[ho];rw[if_pos (by simp[Region.wanted,hg])];refine .inl (S _ _ (fun K v' J R=>?_));rw[ziS];refine B (m+1) r _ _ K _ J u p hr (by omega) k D z R ?_ ?_ (by rw[zfN];omega) h;{rintro n (h|⟨M,h2⟩);{exact y n h};{exact .inr (.inl ⟨by omega,by omega⟩)}};{rintro n g (h|⟨M,h2⟩);{exact hF n (by rw[zfN]at g;omega) h};{rw [zfN]at g;omega}}
   {split at h;{rename_i f;simp only[qE,jE,beq_eq_false_iff_ne]at f;split at h;{rename_i d hd;cases q:d.c with|false=>rw[q]at h;cases h|true=>rw[q]at h;simp only[cond_true]at h;obtain⟨hg,v2,G,a0,A,e1,e2,e3⟩:=zO4 N O f.1 hd q;have he:st.apply o.dst d=st.put o.dst d.v:=(by simp[St.apply,e1,e2,e3]);rw[he]at h;refine pure_run (d:=d) ho hg G ?_;refine zzs N W B r (m+1) V _ E _ w u p v hr (by omega) k D z (O.putV a0 A) y (by rw[zfN];exact hF) (by rw[zfN];exact hn) ?_ (hL.states (fun n=>?_) (fun n=>?_)) h;{cases X:o.dst with|none=>exact Z|some t=>exact zZe Z (fun e=>f.2 (by rw[X,e]))};{cases o.dst<;>rfl};{cases o.dst<;>rfl}};{cases h}};{cases h}}
theorem znt (hC:CfgOk C)(hH:CtrOk C)(hG:GraftOk C)(hN:NameOk C){a1:zgU}(u:zuK C a1)(W:Waits md ops cl){k:St->Option Ans}{b1:Ans}{Q:Exit->Act->World->Prop}(N:∀n,base<=n->¬ U n)(hk:∀(U':Nat->Prop) (d:St) (E':Env) (B:Array Value) (w':World),Sim w0 S0 U' d E' B sv w'->(∀n,U' n->VV U base ops.size ops.size n)->base+32*ops.size<=d.nid->(∀n,d.nid<=n->¬ U' n)->k d=some b1->Q .normal {tmps:=B,defers:=[]} w') :
 ∀(fs m:Nat) (Y:List Bool) (V:Nat->Prop) (st:St) (E:Env) (ts:Array Value) (w:World) (l:Nat) (c:Array Bool),Y=(zhJ ops.size cl).drop m->m<=ops.size->c.size=ops.size->(∀i,i<ops.size->c.getD i true=decide (i<m))->left ops.size c<=l->
  Sim w0 S0 V st E ts sv w->(∀n,V n->VV U base ops.size m n)->(∀n,st.nid<=n->¬ V n)->base+32*ops.size<=st.nid->zkx C a1 ops cl base k fs m Y st=some b1->wpAny C.P md ops Q l c {tmps:=ts,defers:=[]} w
 | 0,m,Y,V,st,E,ts,w,l,c,_,_,_,_,_,_,_,_,_,h=>by simp[zkx]at h
 |fs+1,m,[],V,st,E,ts,w,l,c,hp,hm,G,hl,hf,hS,hV,hF,hn,h=>by simp only[zkx]at h;have a8:=zY9 hp;have e:m=ops.size:=(by omega);subst e;exact z98 (fun i hi=>by rw[hl i hi];simp[hi]) (hk V st E ts w hS hV hn hF h)
 |fs+1,m,true::r,V,st,E,ts,w,l,c,hp,hm,G,hl,hf,hS,hV,hF,hn,h=>by
  simp only[zkx]at h;obtain⟨a8,b8,hr⟩:=zsC hp;refine z2P W G a8 (zyq b8.symm) hl hf (fun fl l' A X S _ _=>?_)
  let Q':Exit->Act->World->Prop:=fun e a w=>match e with
   |.normal=>wpAny C.P md ops Q fl l' a w
   |e=>Q e a w
  have hQ:∀e,e≠Exit.normal->∀a w,Q' e a w->Q e a w:=by intro e he a w h;cases e<;>first|exact absurd rfl he|exact h
  refine z5S hQ ?_;have c0:=zoO (Q:=Q') hC hH hG hN u (ops:=ops) (base:=base) (V:=VV U base ops.size (m+1)) (nid0:=base+32*ops.size) (fun n p=>.inr (.inr p))
   (fun U' d E' B w' M c7 p c6 h'=>znt hC hH hG hN u W N hk fs (m+1) r U' d E' B w' fl l' hr (by omega) A X S M c7 c6 p h')
   [m] V st E ts w hS ?_ hF ?_ (by simp) hn ?_ h
  {rw [wpOps_cons] at c0;exact wpOp_mono (fun a w h=>h) c0};{rintro n p;rcases hV n p with h|⟨t,D⟩|h;{exact .inl h};{exact .inr (.inl ⟨t,by omega⟩)};{exact .inr (.inr h)}};{intro j hj n d2;simp only[qF]at hj;subst hj;obtain⟨Z,g2⟩:=d2;refine⟨fun p=>?_,.inr (.inl ⟨by omega,by omega⟩)⟩;rcases hV n p with h|⟨t,D⟩|h;{exact N n (by omega) h};{omega};{omega}};{intro j hj;simp only[qF]at hj;subst hj;omega}
 |fs+1,m,false::r,V,st,E,ts,w,l,c,hp,hm,G,hl,hf,hS,hV,hF,hn,h=>by
  simp only[zkx]at h;obtain⟨a8,_,hr⟩:=zsC hp;obtain⟨b6,a2,a3⟩:=zTV r (m+1) (by omega) hr;generalize b5:(List.range' m (zcl r+1)).any (zlo C ops)=b at h;have H:Sim w0 S0 V {st with ep:=if b then st.ep+1 else st.ep} E ts sv w:=hS.blind b st.nid;have z:({st with ep:=if b then st.ep+1 else st.ep}:St).nid=st.nid:=rfl
  have a0:b=true->Dead ({st with ep:=if b then st.ep+1 else st.ep}:St)/\0<({st with ep:=if b then st.ep+1 else st.ep}:St).ep:=by
   intro hb;subst hb;refine⟨fun n R e hR he=>?_,by simp⟩
   have:=hS.mem.epo n R e hR he;simp only[if_true];omega
  have b4:b=false->∀k,m<=k->k<m+1+zcl r->zlo C ops k=false:=(by intro hb k d9 e0;rw[hb]at b5;have:=kM.1 b5 k (by simp;omega);simpa using this);have hM:∀k,m<=k->k<m+1+zcl r->∀n,Mine (base+32*k) n->¬ V n:=by intro k t D n p hv;have Z:=p.1;have g2:=p.2;rcases hV n hv with h|⟨h3,h4⟩|h;{exact N n (by omega) h};{omega};{omega}
  have a5:∀(ss:List Step) (st0:St),zbA ops b (XL c) m ss st0=st0:=fun ss st0=>zwH ss m st0 (fun k hk=>by
   rcases u1 k ops.size with h|h
   .rw [ztQ (by omega),hl k h];simp;omega
   .simp [XL,uT (show c.size<=k by omega)])
  have b3:∀{T:Nat},T<=m+(zcl r+1)->∀n,UX V base m T (fun _=>true) n->VV U base ops.size (m+(zcl r+1)) n:=(by rintro T hT n (h|⟨k,h0,t,_,h3⟩);{rcases hV n h with h|⟨t,D⟩|h;{exact .inl h};{exact .inr (.inl ⟨t,by omega⟩)};{exact .inr (.inr h)}};{have Z:=h3.1;have g2:=h3.2;exact .inr (.inl ⟨by omega,by omega⟩)});have b2:∀{T:Nat},T<=m+(zcl r+1)->∀n,st.nid<=n->¬ UX V base m T (fun _=>true) n:=(by rintro T hT n p (h|⟨k,h0,t,_,h3⟩);{exact hF n (by omega) h};{have:=h3.2;omega});have b7:∀{gs:List (Nat×Foot)} {ss:List Step} {st0 d:St},(∀x∈gs,∀y∈gs,(¬ x.1<y.1\/x.1∈cl.getD y.1 [])\/x.2.apart y.2=true)->Trace C ops b base m ss gs st0 d->Free C ops cl b base m ss st0:=(by intro gs ss st0 d g q;have O:=z0i q;refine⟨fun i s hs=>?_,fun i k s s' o o' f f' hs d4 ho d3 t D d8 a9=>?_⟩;{obtain⟨o,f,Z,g2,g3⟩:=O i s hs;exact⟨o,f,Z,g3⟩};{obtain⟨o1,f1,Z,g2,g3⟩:=O i s hs;obtain⟨o2,f2,e1,e2,e3⟩:=O k s' d4;rw[ho] at Z;cases Z;rw[d3] at e1;cases e1;have a6:=zJW t g3;have d1:=zJW D e3;subst a6 d1;rcases g _ g2 _ e2 with (h|h)|h;{exact absurd (by show m+i<m+k;omega) h};{exact absurd h a9};{exact h}});have J:∀i,i<m->XL c i=true:=fun i hi=>(by rw[ztQ (by omega),hl i (by omega)];simp[hi]);have I:∀k,m<=k->k<ops.size->XL c k=false:=fun k t D=>(by rw[ztQ (by omega),hl k D];simp;omega);rcases zta (zcl r+1) m [] _ h with⟨ss,gs,d,a4,q,g,K⟩|⟨ss,gs,d,oA,x,a4,q,b0,c8,c9,a7,d5,g,K⟩|⟨ss,gs,d,oA,a4,q,b0,d0,a7,e4,g,K⟩;{rw [jC]at g;unfold zof at g;simp only[jE,qM,j7,decide_eq_false_iff_not,jM,q0,List.mem_reverse]at g;generalize b9:({st with ep:=if b then st.ep+1 else st.ep}:St)=st0 at q H z a0;have L:d=zbA ops b (fun _=>true) m ss st0:=zUf q;refine z9L (w0:=w0) (S0:=S0) (sv:=sv) hC hH hG W (T:=m+1+zcl r) (by omega) b6 a3 (b7 g q) b4 a0 hM (fun fl l' E' B w' A X S M=>?_) l c E ts w G (ztf W G hl) J (fun k t D=>I k (by omega) D) hf ?_;{rw [<- L]at M;have F:d.nid=st.nid:=(by rw[L,zEE,z]);exact znt hC hH hG hN u W N hk fs (m+(zcl r+1)) (r.drop (zcl r)) _ d E' B w' fl l' (by rw[a2];congr 1;omega) (by omega) A (fun i hi=>by rw[X i hi];congr 1;simp only[eq_iff_iff];omega) S M (b3 (by omega)) (by rw[F];exact b2 (by omega)) (by omega) K};{rw [a5];exact H.uses (fun n h=>.inl h)}}
  .rw [jC]at g;unfold zof at g;simp only[jE,qM,j7,decide_eq_false_iff_not,jM,q0,qG,List.mem_reverse]at g;generalize b9:({st with ep:=if b then st.ep+1 else st.ep}:St)=st0 at q H z a0;have L:d=zbA ops b (fun _=>true) m ss st0:=zUf q;subst L;have hA:m+ss.length=m+zcl r:=by omega
   rw[hA]at b0 a7 g;have O:=z0i q;refine z9U (w0:=w0) (S0:=S0) (sv:=sv) hC hH hG W hA (by omega) (fun h=>by
    have e:m+zcl r+1=m+1+zcl r:=by omega
    rw[e]at h ⊢;exact a3 h) (b7 (fun x hx y hy=>g x (.inr hx) y (.inr hy)) q) (fun hb k t D=>b4 hb k t (by omega)) c9 a0 (fun k t D=>hM k t (by omega)) b0 c8 a7 d5 (fun i s o f hs ho t a9=>?_)
    (fun fl l' E' B w' v A X S hv M hL=>?_) l c E ts w G (ztf W G hl) J (fun k t D=>I k (by omega) D) hf ?_
   {obtain⟨o1,f1,Z,g2,g3⟩:=O i s hs;rw[ho] at Z;cases Z;have a6:=zJW t g3;subst a6;have hi:i<ss.length:=(qA.1 hs).1;rcases g _ (.inr g2) _ (.inl rfl) with (h|h)|h;{exact absurd (by show m+i<m+zcl r;omega) h};{exact absurd h a9};{exact h}}
   .have F:((zbA ops b (fun _=>true) m ss st0).put oA.dst (.v (.at .bad))).nid=st.nid:=by rw[zfN,zEE,z]
    exact zzs hC W (fun m' r' U' c1 c3 c2 d7 c4 d6 t D h3 h4 h5 h6 h7 h8 h9 c5=>znt hC hH hG hN u W N hk fs m' r' U' c1 c3 c2 d7 c4 d6 t D h3 h4 h5 h6 h7 h8 h9 c5)
     (r.drop (zcl r)) (m+(zcl r+1)) _ _ E' B w' fl l' v (by rw[a2];congr 1;omega) (by omega) A (fun i hi=>by rw[X i hi];congr 1) S M (b3 (by omega)) (by rw[F];exact b2 (by omega)) (by omega) hv hL K
   {rw [a5];exact H.uses (fun n h=>.inl h)}
  {exact Bool.noConfusion (show false=true from d0)}
theorem zbdo (Z:CfgOk C)(hH:CtrOk C)(hG:GraftOk C)(hN:NameOk C):DrawOk C:=by
 refine⟨fun N g ops k X Q w0 S0 sv U0 S U st E ts w hk hS hU O hn h t=>?_⟩;unfold zKg at h;simp only at h;generalize I:zib ops (List.range ops.size) []=cl at h;split at h;(case isFalse=>cases h);rename_i j;unfold z6N at j;simp only[qE,qM,kG,q0]at j;obtain⟨a,s⟩:=j;have d:∀i,i<ops.size->cl.getD i []=waits ops (cl.take i) i:=fun i r=>(by rw[<- I];exact z3B r);have f:∀(md:Region.Mode) (c:Nat->Nat),zSd md ops c=true->∃c:Nat->Nat,∀(i:Nat) (o:Oper),ops[i]?=some o->∀e∈o.after,Region.binds md e=true->e.on<ops.size/\c e.on<c i:=by intro md c h;refine⟨c,fun i o v e J H=>?_⟩;have:=qM.1 h i (kG.2 (qQ.1 v).1);rw[v] at this;have:=qM.1 this e (by simpa using J);simpa [H] using this
 have p:∀(md:Region.Mode),(∀e,Region.binds .any e=true->Region.binds md e=true)->(∃c:Nat->Nat,∀(i:Nat) (o:Oper),ops[i]?=some o->∀e∈o.after,Region.binds md e=true->e.on<ops.size/\c e.on<c i)->Waits md ops cl :=
  fun md y A=>⟨d,s,y,A⟩
 have m:∀e,Region.binds .any e=true->Region.binds .text e=true:=fun e h=>(by unfold Region.binds at *;cases hg:e.ground<;>rw [hg]at h<;>simp at h ⊢);have l:∀e,Region.binds .any e=true->Region.binds .gc e=true:=fun e h=>by unfold Region.binds at *;cases hg:e.ground<;>rw [hg]at h<;>simp at h ⊢
 have b:∃md L,Region.schedule (C.P.follows .mixedOrders) ops t=Region.linearise md ops L/\Waits md ops cl:=by
  have q:Waits .any ops cl:=p .any (fun _ h=>h) ⟨fun i=>i,fun i o v e J H=>by
   have y:=zbdq d v J H;have r:=(qQ.1 v).1;have A:=s i r _ y;exact⟨by omega,A⟩⟩
  unfold Region.schedule;by_cases z:(C.P.follows .mixedOrders || !Region.departs ops)=true;{rw [if_pos z];exact⟨.any,t,rfl,q⟩};{rw [if_neg z];have hd:Region.departs ops=true:=(by cases h:Region.departs ops with|true=>rfl|false=>rw[h]at z;simp at z);rw[hd,cond_true,qE]at a;by_cases R:(t % 2==0)=true;{rw [if_pos R];exact⟨.text,t / 2,rfl,p .text m (f .text _ a.1)⟩};{rw [if_neg R];exact⟨.gc,t / 2,rfl,p .gc l (f .gc _ a.2)⟩}}
 obtain⟨md,L,x,W⟩:=b;rw[x];refine wpAny_sound ops.size L _ _ _ ?_;have F:Sim w0 S0 U {st with nid:=st.nid+32*ops.size} E ts sv {w with drawn:=w.drawn+1}:=(hS.nid _).heap (w':={w with drawn:=w.drawn+1}) rfl rfl rfl rfl;refine znt Z hH hG hN g W O (fun V K T M w' D G u B Y=>hk V K T M w' D ?_ (by omega) B Y) (ops.size+1) 0 (zhJ ops.size cl) U _ E ts _ ops.size _ rfl (by omega) (by simp) (fun i r=>by simp[r]) ?_ F (fun n h=>.inl h) ?_ (qY _) h;{intro n h;rcases G n h with h|⟨y,_⟩|h;{exact hU n h};{exact .inr (by omega)};{exact .inr (by omega)}};{unfold left;exact qU (List.countP_le_length) (by simp)};{intro n u h;exact O n (qU (uA _ _) u) h}
end
section
variable {P:Program}
def z0r:Value->CTy->Bool
 |.int k n,.i a=>k==a&&n==0
 |.bool b,.b=>!b
 |.slice none 0 0,.s _=>true
 |_,_=>false
def zB7:List Value->List CTy->Bool
 |[],[]=>true
 |v::vs,t::ts=>z0r v t&&zB7 vs ts
 |_,_=>false
theorem z8J {v:Value}{t:CTy}(h:z0r v t=true):v=zeroV t:=by unfold z0r at h;split at h;{simp only [qE,qL]at h;obtain⟨rfl,rfl⟩:=h;rfl};{simp only [jE]at h;subst h;rfl};{rfl};{cases h}
theorem zJR:∀{b:List Value} {a:List CTy},zB7 b a=true->b=a.map zeroV
 |[],[],_=>rfl
 |v::b,t::a,h=>by simp only[zB7,qE]at h;rw[jB,z8J h.1,zJR h.2]
 |[],_::_,h=>by cases h
 |_::_,[],h=>by cases h
def zEW (P:Program)(T:TypeId)(a:List CTy):Bool :=
 match P.info? T with
 |some i=>i.size==a.length&&(match i.zero with
  |some z=>zB7 z.cells.toList a
  |none=>false)
 |none=>false
theorem zEX {T:TypeId}{a:List CTy}(h:zEW P T a=true):∃i z,P.info? T=some i/\i.size=a.length/\i.zero=some z/\z.cells.toList=a.map zeroV:=by unfold zEW at h;split at h;{rename_i i d;simp only[qE,qL]at h;obtain⟨c,b⟩:=h;split at b;{rename_i z e;exact⟨i,z,d,c,e,zJR b⟩};{cases b}};{cases h}
def zoK (P:Program)(T:TypeId):Bool :=
 (match zcI P 4 T with
  |some (b,a)=>zEW P T a&&(!b||(match P.underlying T with
   |some (.struct c)=>(c.toList.mapM (fun f=>(P.info? f.type).map fun i=>(f.offset,i.size))).isSome
   |_=>false))
  |none=>true) &&
 (match P.underlying T with
  |some (.slice e)=>match zn zWf e with
   |some t=>zEW P e t.shape&&(match P.info? e with
    |some i=>decide (i.bytes<=1024)
    |none=>false)&&(match zcI P 4 e with
    |some (_,a)=>decide (a=t.shape)
    |none=>false)
   |none=>true
  |_=>true)
def zwF (P:Program):List Field->Nat->List CTy->Bool
 |[],_,[]=>true
 |f::fs,a,ty::tys=>f.name != "_" && f.offset==a&&(match P.underlying f.type,ty with
  |some (.int k),.i c=>k==c
  |some .bool,.b=>true
  |_,_=>false)&&zwF P fs (a+1) tys
 |_,_,_=>false
def zV1 (P:Program)(T:TypeId):Bool :=
 match zcI P 4 T with
 |some (true,a)=>!P.stoodInHeld T && !P.eqGuardType P.depth T&&(match P.underlying T with
  |some (.struct b)=>zwF P b.toList 0 a
  |_=>false)
 |_=>true
theorem zVY {n:Nat}{T:TypeId}{a:Bool}{c:List CTy}(h:zcI P n T=some (a,c)) :
 (∃d,P.underlying T=some d/\zXA d=a/\(∀k,c=[.i k]->a=false->d = .int k)/\(c=[.b]->a=false->d = .bool))/\(a=false->c.length=1):=by
 cases n with
 |zero=>cases h
 |succ n=>simp only[zcI]at h;split at h;{rename_i k f;cases h;exact⟨⟨_,f,rfl,fun g h _=>by simp only[List.cons.injEq,CTy.i.injEq,and_true]at h;rw[h],fun h=>by simp at h⟩,fun _=>rfl⟩};{rename_i f;cases h;exact⟨⟨_,f,rfl,fun g h=>by simp at h,fun _ _=>rfl⟩,fun _=>rfl⟩};{rename_i e f;split at h;{cases h;exact⟨⟨_,f,rfl,fun g h=>by simp at h,fun h=>by simp at h⟩,fun _=>rfl⟩};{cases h}};{rename_i j f;split at h;{cases h;exact⟨⟨_,f,rfl,fun g _ h=>(by cases h),fun _ h=>(by cases h)⟩,fun h=>by cases h⟩};{cases h}};{cases h}
theorem zMY {b:Type}{T:Nat}{x:Option b}{y:b}(h:below T x=some y):T<zgo/\x=some y:=by unfold below at h;cases a:Nat.blt T zgo with|false=>rw[a]at h;cases h|true=>rw[a]at h;exact⟨by rwa [vC]at a,h⟩
theorem mapM_at {e f:Type}{g:e->Option f}:∀{l:List e} {m:List f},l.mapM g=some m->∀{k:Nat} {x:e},l[k]?=some x->m[k]?=g x
 |[],m,h,k,x,c=>by simp at c
 |a::l,m,h,k,x,c=>by simp only[u4,Option.bind_eq_bind,uQ,Option.pure_def,qC]at h;obtain⟨b,i,j,d,rfl⟩:=h;cases k with|zero=>simp only[qI,qC]at c;subst c;rw[i];rfl|succ k=>exact mapM_at d (by simpa using c)
theorem zha {e i:Type}{f:e->Option i}{a:e}{l:List e}{g:List i}(h:zcu f (a::l)=some g):∃b c,f a=some b/\zcu f l=some c/\g=b::c:=by simp only[zcu]at h;split at h;{rename_i b j;split at h;{rename_i c d;cases h;exact⟨b,c,j,d,rfl⟩};{cases h}};{cases h}
theorem zIV (w:World)(d:Nat)(v z:Array Value):∀(W:List Field) (g:Nat) (p:List CTy) (l m:List At) (e:Bool),zwF P W g p=true->zcu zoI l=some p->zcu zoI m=some p->zwv l m=some e->
 v.size=g+l.length->z.size=g+m.length->(∀(j:Nat) (a:At) (u:Value),l[j]?=some a->v[g+j]?=some u->VS a u)->(∀(j:Nat) (a:At) (u:Value),m[j]?=some a->z[g+j]?=some u->VS a u)->
 (Op.eqFields (d+1) v z W).run P w = .ok e w
 |[],g,p,l,m,e,R,X,Y,A,_,_,_,_=>by cases p with|cons t ts=>cases R|nil=>(cases l with|cons a l=>obtain⟨_,_,_,_,h⟩:=zha X;cases h|nil=>(cases m with|cons a m=>obtain⟨_,_,_,_,h⟩:=zha Y;cases h|nil=>cases A;simp[Op.eqFields]))
 |f::W,g,p,l,m,e,R,X,Y,A,q,r,hx,hy=>by
  cases p with
  |nil=>cases R
  |cons ty p=>
   cases l with
   |nil=>cases X
   |cons a l=>
    cases m with
    |nil=>cases Y
    |cons c m=>
     obtain⟨ta,a6,O,E,h⟩:=zha X;cases h;obtain⟨tc,a5,K,F,h⟩:=zha Y;cases h;simp only[zwF,qE,bne_iff_ne,ne_eq,qL]at R;obtain⟨⟨⟨hn,S⟩,B⟩,G⟩:=R;have I:v[g]?=some (v[g]'(by simp only[qZ]at q;omega)):=(by simp);have J:z[g]?=some (z[g]'(by simp only[qZ]at r;omega)):=by simp
     have T:=hx 0 a _ rfl I;have U:=hy 0 c _ rfl J;have H:∃L,zWz a c=some L/\(part f.type v f.offset).run P w = .ok (v[g]'(by simp only[qZ]at q;omega)) w/\(part f.type z f.offset).run P w = .ok (z[g]'(by simp only[qZ]at r;omega)) w/\
      (Op.equalIn (d+1) f.type (v[g]'(by simp only[qZ]at q;omega)) (z[g]'(by simp only[qZ]at r;omega))).run P w = .ok L w:=by
      rw[S];cases a with
      |i k n=>
       simp only[zoI,qC]at O;subst O;cases c with
       |i k' n' =>
        simp only[zoI,qC,CTy.i.injEq]at K;subst K;cases s:P.underlying f.type with
        |none=>rw[s]at B;cases B
        |some D=>
         rw[s]at B;cases D<;>first|(cases B;done)|skip;refine⟨ieq n n',by simp[zWz],by simp[part,isAgg,run_underlying s,I],by simp[part,isAgg,run_underlying s,J],?_⟩;rw[show v[g]'(by simp only[qZ]at q;omega) = .int k' n from T,show z[g]'(by simp only[qZ]at r;omega) = .int k' n' from U];exact run_equalIn_int w d f.type k' _ n n' s
       |b _=>simp[zoI]at K
       |_=>simp[zoI]at K
      |b x=>
       simp only[zoI,qC]at O;subst O;cases c with
       |b x' =>
        cases s:P.underlying f.type with
        |none=>rw[s]at B;cases B
        |some D=>
         rw[s]at B;cases D<;>first|(cases B;done)|skip;refine⟨zfv x x',by simp[zWz],by simp[part,isAgg,run_underlying s,I],by simp[part,isAgg,run_underlying s,J],?_⟩;rw[show v[g]'(by simp only[qZ]at q;omega) = .bool x from T,show z[g]'(by simp only[qZ]at r;omega) = .bool x' from U];exact run_equalIn_bool' w d f.type x x' s
       |i _ _=>simp[zoI]at K
       |_=>simp[zoI]at K
      |_=>simp[zoI]at O
     obtain⟨L,Q,a3,a4,a1⟩:=H;have C:∃V,zwv l m=some V/\e=(L&&V):=by cases l with|nil=>cases E;(cases m with|nil=>simp only[zwv,Q,qC]at A;exact⟨true,rfl,by rw[<- A];simp⟩|cons c2 m=>obtain⟨_,_,_,_,h⟩:=zha F;cases h)|cons a2 l=>(cases m with|nil=>cases F;obtain⟨_,_,_,_,h⟩:=zha E;cases h|cons c2 m=>simp only[zwv,Q]at A;split at A;{rename_i x y M N;cases M;cases A;exact⟨y,by simpa [zwv] using N,rfl⟩};{cases A})
     obtain⟨V,a0,rfl⟩:=C;have ih:=zIV w d v z W (g+1) p l m V G E F a0 (by simp only[qZ]at q;omega) (by simp only[qZ]at r;omega)
      (fun j Z u M N=>hx (j+1) Z u (by simpa using M) (by rw[<- N];congr 1;omega)) (fun j Z u M N=>hy (j+1) Z u (by simpa using M) (by rw[<- N];congr 1;omega))
     simp only[Op.eqFields,ne_eq,hn,not_false_eq_true,if_true,Sem.run_bind,a3,a4,Result.andThen_ok,a1,Sem.run_ite,ih];cases L<;>simp
theorem z8U {C:Cfg}(W:C.P=P)(hs:∀T,C.sty T=below T (zxT P T))(X:∀T,C.cty T=below T (zcI P 4 T))(Q:∀T f,C.fof T f=zu1 P T f)(B:(List.range zgo).all (zoK P)=true)(J:∀T,C.eqt T=true->T<zgo->zV1 P T=true):CfgOk C:=by subst W;have v:∀T,T<zgo->zoK C.P T=true:=fun T r=>qM.1 B T (kG.2 r);have k:∀T g c,C.cty T=some (g,c)->T<zgo/\zcI C.P 4 T=some (g,c):=fun T g c h=>zMY (by rw[<- X];exact h);refine⟨fun T g c h=>?_,fun T t h=>?_,fun T f N n h=>?_,fun T c h=>?_,fun T c Y h l m e G H w x y op Z hm hq E F=>?_⟩;{obtain⟨r,h⟩:=k T g c h;obtain⟨q,d⟩:=zVY h;have:=v T r;unfold zoK at this;rw[h] at this;simp only[qE] at this;exact⟨q,zEX this.1.1,d⟩};{rw [hs]at h;obtain⟨r,h⟩:=zMY h;unfold zxT at h;split at h;{rename_i e p;have:=v T r;unfold zoK at this;rw[p] at this;simp only[h,qE] at this;obtain⟨_,⟨q,d⟩,_⟩:=this;obtain⟨i,z,O,S,U,V⟩:=zEX q;rw[O]at d;exact⟨e,p,i,z,O,by rw[S,zeM],U,V,by simpa using d⟩};{cases h}};{rw [Q]at h;unfold zu1 at h;split at h;{rename_i A p;split at h;{rename_i x M;split at h;{rename_i i K;split at h;{cases h};{rename_i L;cases h;exact⟨A,x,i,p,M,rfl,K,rfl,L⟩}};{cases h}};{cases h}};{cases h}};{obtain⟨r,h⟩:=k T true c h;have:=v T r;unfold zoK at this;rw[h] at this;simp only[qE,j7,kT,j9,false_or] at this;obtain⟨⟨_,d⟩,_⟩:=this;split at d;{rename_i A p;obtain⟨s,R⟩:=uN.1 d;refine⟨A,s,p,R,fun f N n b=>?_⟩;rw[Q]at b;unfold zu1 at b;rw[p]at b;simp only at b;split at b;{rename_i x M;split at b;{rename_i i K;split at b;{cases b};{cases b;rw[mapM_at R (by simpa using M),K];rfl}};{cases b}};{cases b}};{cases d}};{obtain⟨r,h⟩:=k T true c h;have:=J T Y r;unfold zV1 at this;rw[h] at this;simp only[qE,jE] at this;obtain⟨⟨q,d⟩,I⟩:=this;split at I;{rename_i A p;have D:C.P.fieldsOf T=A:=(by simp[Program.fieldsOf,p]);refine⟨run_eqGuard_agg w op T x y G H d,?_⟩;show (Op.equalIn (9999+1) T (.agg G) (.agg H)).run C.P w=_;rw[run_equalIn_struct w 9999 T G H (by rw[D];exact p) q,D];exact zIV w 9998 G H A.toList 0 c l m e I Z hm hq (by rw[E.1];omega) (by rw[F.1];omega) (fun j a u q d=>E.2 j a u q (by simpa using d)) (fun j a u q d=>F.2 j a u q (by simpa using d))};{cases I}}
end
inductive CVOk:CV->Prop
 |i (k:IntKind) (n:Int) (h:k.min<=n/\n<=k.max):CVOk (.i k n)
 |b (x:Bool):CVOk (.b x)
 |s (t:Ty) (l:List t.den) (hl:l.length<=big) (h:∀(i:Nat) (x:t.den),l[i]?=some x->∀(j:Nat) (c:CV),(t.cells x)[j]?=some c->CVOk c):CVOk (.s t l)
section
variable {P:Program}
def zzw (P:Program)(b:Nat):List Field->Nat->Bool
 |[],a=>a==b
 |f::fs,a=>f.offset==a&&Nat.blt f.type zgo&&zzw P b fs (a+P.cellsOf f.type)
def zAM (P:Program)(T:TypeId):Bool :=
 match P.underlying T with
 |some (.struct a)=>match zcI P 4 T with
  |some _=>zzw P (P.cellsOf T) a.toList 0
  |none=>true
 |some (.slice e)=>match zn zWf e with
  |some _=>Nat.blt e zgo&&Nat.ble 1 (P.bytesOf e)
  |none=>true
 |_=>true
theorem zI6 {e i:Type}{f g:e->Option i}(c:∀x y,f x=some y->g x=some y):∀{l:List e} {d:List i},zcu f l=some d->zcu g l=some d
 |[],_,h=>h
 |a::l,d,h=>by obtain⟨b,j,k,m,rfl⟩:=zha h;simp only[zcu,c a b k,zI6 c m]
theorem zAu:∀{n:Nat} {T:TypeId} {x:Bool×List CTy},zcI P n T=some x->zcI P (n+1) T=some x
 | 0,_,_,h=>by cases h
 |n+1,T,x,h=>by rw[zcI]at h;rw[zcI];split at h;{exact h};{exact h};{exact h};{rename_i d e;split at h;{rename_i l b;rw[zI6 (f:=_) (g:=_) ?_ b];{exact h};{intro f y a;split at a;{rename_i z c;cases a;rw[zAu c]};{cases a}}};{cases h}};{cases h}
theorem z0z {T:TypeId}{a:List CTy}(h:zEW P T a=true):P.cellsOf T=a.length:=by obtain⟨i,z,b,c,_⟩:=zEX h;simp[Program.cellsOf,b,c]
theorem zbaU {k:IntKind}{n:Int}(h:(Lit.int k n).wf=true):k.min<=n/\n<=k.max:=by simpa [Lit.wf] using h
theorem all_append {l m:List Nat}(h:(l++m).all (·<=reachBytes)=true):l.all (·<=reachBytes)=true/\m.all (·<=reachBytes)=true:=by simpa [List.all_append] using h
theorem zDs {H:Type}{e:TypeId}:∀{l:List (DataW H)},(DataW.weightsAll P e l).all (·<=reachBytes)=true->∀{i:Nat} {d:DataW H},l[i]?=some d->(d.weights P e).all (·<=reachBytes)=true
 |[],_,i,d,h=>by simp at h
 |x::l,a,i,d,h=>by simp only[DataW.weightsAll]at a;obtain⟨b,c⟩:=all_append a;cases i with|zero=>simp at h;subst h;exact b|succ i=>exact zDs c (by simpa using h)
def Opened (W:World)(d:List Value)(a:List CTy):Prop :=
 ∃cvs:List CV,cvs.map CV.ty=a/\d.length=cvs.length/\∀(j:Nat) (c:CV) (u:Value),cvs[j]?=some c->d[j]?=some u->Rep false W u c (fun b=>b<W.heap.size)/\CVOk c
theorem Opened.append {W:World}{f g:List Value}{h i:List CTy}(r:Opened W f h)(s:Opened W g i):Opened W (f++g) (h++i):=by obtain⟨e,k,d,p⟩:=r;obtain⟨n,l,m,q⟩:=s;refine⟨e++n,by simp[k,l],by simp[d,m],fun j c u a b=>?_⟩;by_cases t:j<e.length;{rw [qV t]at a;rw[qV (by omega)]at b;exact p j c u a b};{rw [qR (by omega)]at a;rw[qR (by omega)]at b;exact q _ c u a (by rw[<- d];exact b)}
theorem zM3 {b:Type}:∀(n:Nat) (p:Nat->b->Prop),(∀i,i<n->∃x,p i x)->∃l:List b,l.length=n/\∀i x,l[i]?=some x->p i x
 | 0,p,_=>⟨[],rfl,fun i x h=>by simp at h⟩
 |n+1,p,h=>by obtain⟨x,e⟩:=h 0 (by omega);obtain⟨l,c,d⟩:=zM3 n (fun i=>p (i+1)) (fun i f=>h (i+1) (by omega));refine⟨x::l,by simp[c],fun i y a=>?_⟩;cases i with|zero=>simp at a;subst a;exact e|succ i=>exact d i y (by simpa using a)
theorem cells?_get {W:World}{a:Addr}{n:Nat}{b:List Value}(h:W.cells? 0 a n=some b):b.length=n/\∀i,i<n->W.cell? (a.add i)=b[i]?:=by unfold World.cells? at h;rw[if_pos (jZ _)]at h;refine⟨by simpa using mapM_some_length h,fun i c=>mapM_some_get h i i (by simp[c])⟩
theorem addr_add (a:Addr)(h:a.spot=none)(n m:Nat):(a.add n).add m=⟨a.block,a.off+n+m,none⟩:=by obtain⟨b,o,s⟩:=a;simp only at h;subst h;rw[add_lit,add_lit]
theorem z4T (b6:∀T,T<zgo->zoK P T=true/\zAM P T=true){H:Type}{a3:TypeId×Value->H}{W:World} :
 ∀(F:Nat) (T:TypeId) (Z:List Value) (x:DataW H×List MemPlace),T<zgo->∀(b4:Bool) (b3:List CTy),zcI P 4 T=some (b4,b3)->
  DataW.trod a3 P W 0 (fun _=>true) true F T Z=some x->(x.1.weights P T).all (·<=reachBytes)=true->Opened W Z b3:=by
 intro F
 induction F using Nat.strongRecOn with
 |_ F ih=>
  intro T Z x hT b4 b3 d hx hw;obtain⟨U,C⟩:=b6 T hT;have c1:=d;rw[zcI]at d;split at d;{rename_i k I;cases d;obtain⟨n,rfl,rfl,d9⟩:=DataW.trod_int I hx;refine⟨[.i k n],rfl,rfl,fun j c u r q=>?_⟩;cases j with|zero=>simp at r q;subst r q;exact⟨.i k n _,.i k n (zbaU d9)⟩|succ j=>simp at r};{rename_i I;cases d;obtain⟨b,rfl,rfl⟩:=DataW.trod_bool I hx;refine⟨[.b b],rfl,rfl,fun j c u r q=>?_⟩;cases j with|zero=>simp at r q;subst r q;exact⟨.b b _,.b b⟩|succ j=>simp at r};{rename_i e I;split at d;{rename_i t b7;cases d;have a4:∀(v:Value) (l:List t.den),Rep false W v (.s t l) (fun b=>b<W.heap.size)->CVOk (.s t l)->Opened W [v] [.s t]:=(by intro v l D S;refine⟨[.s t l],rfl,rfl,fun j c u r q=>?_⟩;cases j with|zero=>simp at r q;subst r q;exact⟨D,S⟩|succ j=>simp at r);have K:CVOk (.s t []):=.s t [] (jZ _) (fun i x h=>by simp at h);rcases DataW.trod_slice I hx with⟨rfl,rfl⟩|⟨a,len,p,A,R,n,rfl,rfl,rfl,_,e8,e6,e7,a0,d5,_⟩;{exact a4 _ [] (.nil t _) K};{obtain⟨e9,Q⟩:=d5 rfl;by_cases b5:p=0;{subst b5;have d0:len=0:=(by omega);subst d0;exact a4 _ [] (.void t a _ rfl) K};{unfold zoK at U;rw[I]at U;simp only[b7,qE]at U;obtain⟨_,⟨a7,_⟩,V⟩:=U;unfold zAM at C;rw[I]at C;simp only[b7,qE,vC,Nat.ble_eq]at C;obtain⟨he,c6⟩:=C;have c7:P.cellsOf e=t.width:=(by rw[z0z a7,zeM]);have b2:0<t.width:=(by cases t<;>simp [Ty.width]);rw[c7]at a0 Q;have N:∀i,i<p->∃w,W.cells? 0 (a.add (i*t.width)) t.width=some w/\(i<len->∃y,DataW.trod a3 P W 0 (fun _=>true) true n e w=some y/\A[i]?=some y):=(by intro i X;by_cases b9:i<len;{have D:=a0 i b9;rw[qB (by omega)]at D;obtain⟨w,S,h3⟩:=uQ.1 D;exact⟨w,S,fun _=>⟨_,h3,qB (by omega)⟩⟩};{have D:=Q (i-len) (by omega);rw[qB (by omega)]at D;obtain⟨w,S,h3⟩:=uQ.1 D;have e1:len+(i-len)=i:=(by omega);rw[e1]at S;exact⟨w,S,fun h=>absurd h b9⟩});have M:∀i j,i<p->j<t.width->∃v,W.cell? ((a.add (i*t.width)).add j)=some v:=(by intro i j X hj;obtain⟨w,D,_⟩:=N i X;obtain⟨S,h3⟩:=cells?_get D;exact⟨_,(h3 j hj).trans (qB (by omega))⟩);obtain⟨v0,G⟩:=M 0 0 (by omega) b2;have a5:(a.add (0*t.width)).add 0=a:=(by simp[Addr.add]);rw[a5]at G;obtain⟨m,et,fz,hb,E⟩:∃m et fz,W.heap[a.block]?=some (.cells m et fz)/\a.spot=none:=(by unfold World.cell? at G;split at G;{rename_i c et fz hb;split at G;{cases G};{rename_i hs;exact⟨c,et,fz,hb,by simpa using hs⟩}};{cases G});have L:∀i j,W.cell? ((a.add (i*t.width)).add j)=m[a.off+i*t.width+j]?:=(by intro i j;rw[addr_add a E,cell_of_block hb]);have a9:a.off+p*t.width<=m.size:=(by obtain⟨v,hv⟩:=M (p-1) (t.width-1) (by omega) (by omega);rw[L]at hv;have:=(qQ.1 hv).1;have D:(p-1)*t.width+t.width=p*t.width:=(by rw[<- jL];congr 1;omega);omega);have c2:((DataW.slice (A.map (·.1)) (R.map (·.1))).weights P T).all (·<=reachBytes)=true:=hw;simp only[DataW.weights,I,kS,qE,q0,uI]at c2;obtain⟨c4,b1⟩:=c2;obtain⟨b1,_⟩:=all_append b1;have O:len<=big:=(by have D:(A.length+R.length)*1<=(A.length+R.length)*P.bytesOf e:=Nat.mul_le_mul_left _ c6;have:reachBytes<=big:=(by decide);omega);split at V;{rename_i J a2 d6;simp only[q0]at V;subst V;have c9:∀i,i<len->∃y:t.den,∀(j:Nat) (c:CV) (u:Value),(t.cells y)[j]?=some c->m[a.off+i*t.width+j]?=some u->Rep false W u c (fun b=>b<W.heap.size)/\CVOk c:=(by intro i X;obtain⟨w,D,S⟩:=N i (by omega);obtain⟨y,h3,h4⟩:=S X;obtain⟨cvs,g1,g2,g3⟩:=ih n (by omega) e w y he J t.shape d6 h3 (zDs b1 (by rw[qP,h4];rfl));obtain⟨z,Y⟩:=zOS g1;refine⟨z,fun j c u r q=>g3 j c u ?_ ?_⟩;{rw [<- zkg Y];exact r};{obtain⟨k1,k2⟩:=cells?_get D;have hj:j<t.width:=(by have:=(qA.1 r).1;rwa [zdk] at this);rw[<- k2 j hj,L];exact q});obtain⟨l,d1,c0⟩:=zM3 len _ c9;have b0:∀i j,i<l.length->j<t.width->m[a.off+i*t.width+j]?=some ((m[a.off+i*t.width+j]?).getD undef):=(by intro i j X hj;have D:(i+1)*t.width<=p*t.width:=qS _ (by omega);rw[jL]at D;have:a.off+i*t.width+j<m.size:=(by omega);simp[this]);have a1:Rep false W (.slice (some ⟨a.block,a.off,none⟩) l.length p) (.s t l) (fun b=>b<W.heap.size):=(by refine .sl t l a.block a.off p m et fz (fun i j=>(m[a.off+i*t.width+j]?).getD undef) (fun _ _ b=>b<W.heap.size) _ hb (fun h=>by cases h) (by omega) (by omega) a9 ?_ (fun i j x _ _ hx=>⟨hx,fun h=>by cases h⟩) (fun h=>by cases h) b0 ?_;{exact(qQ.1 hb).1};{intro i z Y j c r;have X:i<l.length:=(qA.1 Y).1;have hj:j<t.width:=(by have:=(qA.1 r).1;rwa [zdk] at this);exact(c0 i z Y j c _ r (b0 i j X hj)).1});have ha:a=⟨a.block,a.off,none⟩:=(by obtain⟨b,o,s⟩:=a;simp only at E;subst E;rfl);rw[d1,<- ha]at a1;refine a4 _ l a1 (.s t l (by omega) (fun i z Y j c r=>?_));have X:i<l.length:=(qA.1 Y).1;have hj:j<t.width:=(by have:=(qA.1 r).1;rwa [zdk] at this);exact(c0 i z Y j c _ r (b0 i j X hj)).2};{cases V}}}};{cases d}}
  .rename_i fs I;split at d
   .rename_i l hl;cases d;obtain⟨xs,n,rfl,rfl,c8,e2,b8⟩:=DataW.trod_struct I hx;unfold zAM at C;rw[I,c1]at C;simp only at C;have e0:(DataW.weightsEach P (fs.toList.map (·.type)) (xs.map (·.1))).all (·<=reachBytes)=true:=by have:((DataW.agg (xs.map (·.1))).weights P T).all (·<=reachBytes)=true:=hw;simpa only [DataW.weights,I] using this
    have e4:∀(gs:List Field) (ys:List (DataW H×List MemPlace)) (ls:List (List CTy)) (B:Nat),zzw P (P.cellsOf T) gs B=true->gs.length=ys.length->
     (∀(i:Nat) (f:Field),gs[i]?=some f->DataW.trod a3 P W 0 (fun _=>true) true n f.type ((Z.drop f.offset).take (P.cellsOf f.type))=ys[i]?)->
     zcu (fun (f:Field)=>match zcI P 3 f.type with|some x=>some x.2|none=>none) gs=some ls->(DataW.weightsEach P (gs.map (·.type)) (ys.map (·.1))).all (·<=reachBytes)=true->
     B<=P.cellsOf T/\Opened W (Z.drop B) ls.flatten:=by
     intro gs
     induction gs with
     |nil=>intro ys ls B ho _ _ a8 _;cases a8;simp only[zzw,qL]at ho;subst ho;refine⟨qY _,[],rfl,by simp[c8],fun j c u h=>by simp at h⟩
     |cons f gs e3=>intro ys ls B ho O hf a8 c3;obtain⟨b,e5,a6,c5,rfl⟩:=zha a8;cases ys with|nil=>simp at O|cons y ys=>simp only[zzw,qE,qL,vC]at ho;obtain⟨⟨d2,d3⟩,d4⟩:=ho;split at a6;{rename_i z Y;cases a6;obtain⟨J,a2⟩:=z;have hy:=hf 0 f rfl;simp only[qI]at hy;simp only[jB,DataW.weightsEach]at c3;obtain⟨d7,d8⟩:=all_append c3;have h4:=zAu Y;obtain⟨g1,g2⟩:=e3 ys e5 (B+P.cellsOf f.type) d4 (by simpa using O) (fun i g hg=>by simpa using hf (i+1) g (by simpa using hg)) c5 d8;have o1:=ih n (by omega) f.type _ y d3 J a2 h4 hy d7;rw[d2] at o1;refine⟨by omega,?_⟩;have e1:Z.drop B=(Z.drop B).take (P.cellsOf f.type)++Z.drop (B+P.cellsOf f.type):=(by rw[<- List.drop_drop,List.take_append_drop]);rw[e1];exact Opened.append o1 g2};{cases a6}
    have:=(e4 fs.toList xs l 0 C (by simp[e2]) (fun i f hf=>b8 i f (by simpa using hf)) hl e0).2;simpa using this
   {cases d}
  {cases d}
end
theorem z2l:(List.range zgo).all (zoK Tryz.prog)=true:=by kernel_rfl
theorem zbeo:zGQ.all (fun T=>!Nat.blt T zgo||zV1 Tryz.prog T)=true:=by kernel_rfl
theorem z8W:Tryz.prog.funcs.toList.all (fun a=>!(a.name == "runtime.NumGoroutine"))=true:=by kernel_rfl
theorem zbcW (T:TypeId)(a:zGQ.contains T=true)(d:T<zgo):zV1 Tryz.prog T=true:=by have c:T∈zGQ:=(by revert a;generalize zGQ=l;intro a;simpa using a);have e:Nat.blt T zgo=true:=(by rw[vC];exact d);have b:=qM.1 zbeo T c;rw[e,kT,Bool.false_or]at b;exact b
theorem zbem (a:FuncId->Option (List AV->Option (Bool×List AV)))(b:FuncId->Option (CV->Int->Option (Bool×CV×Int)))(c:FuncId->Option (List Bool×(List CV->List AV->Option (Bool×List CV×List AV))))(d:FuncId->Option (List Bool×Option (Nat×Nat×List (List Nat))×(List AV->Option (Bool×List AV)))):CfgOk (zmM a b c d):=by have e:(zmM a b c d).P=Tryz.prog:=(by simp only[zmM]);have g:∀T,(zmM a b c d).sty T=below T (zxT Tryz.prog T):=fun _=>(by simp only[zmM]);have i:∀T,(zmM a b c d).cty T=below T (zcI Tryz.prog 4 T):=fun _=>(by simp only[zmM]);have j:∀T f,(zmM a b c d).fof T f=zu1 Tryz.prog T f:=fun _ _=>(by simp only[zmM]);have k:∀T,(zmM a b c d).eqt T=zGQ.contains T:=fun _=>(by simp only[zmM]);refine z8U e g i j z2l ?_;intro T h l;rw[k]at h;exact zbcW T h l
theorem zbdO (a:FuncId->Option (List AV->Option (Bool×List AV)))(b:FuncId->Option (CV->Int->Option (Bool×CV×Int)))(c:FuncId->Option (List Bool×(List CV->List AV->Option (Bool×List CV×List AV))))(d:FuncId->Option (List Bool×Option (Nat×Nat×List (List Nat))×(List AV->Option (Bool×List AV)))):NameOk (zmM a b c d):=by
 refine⟨fun f e g=>?_⟩;have:=qM.1 z8W e (by
  have:Tryz.prog.funcs[f]?=some e:=g;rw[<- kQ] at this;exact qK this)
 simpa using this
theorem zgF {b:FuncId->Option (List AV->Option (Bool×List AV))}{c:FuncId->Option (CV->Int->Option (Bool×CV×Int))}{d:FuncId->Option (List Bool×(List CV->List AV->Option (Bool×List CV×List AV)))}{e:FuncId->Option (List Bool×Option (Nat×Nat×List (List Nat))×(List AV->Option (Bool×List AV)))}(h:∀f a,b f=some a->Holds Tryz.prog f a)(p:∀f a,c f=some a->zMQ Tryz.prog f a)(q:∀f own a,d f=some (own,a)->zbP Tryz.prog f own a)(m:∀f own g a,e f=some (own,g,a)->zeh Tryz.prog f own g a):EngOk (zmM b c d e):=by have i:=zbem b c d e;have k:CtrOk (zmM b c d e):=⟨h,fun f g a n=>m f [] g a n⟩;have j:=z9O i ⟨p⟩ ⟨q⟩ ⟨m⟩;have l:=zbdO b c d e;exact⟨i,k,j,l,zbdo i k j l⟩
section
open Go Go.ChangeShapes Go.WideShapes Go.ChangeAt
def AV.sh:AV->Bool×List CTy
 |.one c=>(false,[c.ty])
 |.agg l=>(true,l.map CV.ty)
section
variable {P:Program}
theorem zSF {T:TypeId}{a:Bool}{b:List CTy}(h:zcI P 4 T=some (a,b)) :
 (a=true/\∃c,P.underlying T=some (.struct c))\/(a=false/\b.length=1/\((∃k,P.underlying T=some (.int k))\/P.underlying T=some .bool\/∃e,P.underlying T=some (.slice e))):=by
 rw[zcI]at h;split at h
 .rename_i k hu;cases h;exact .inr ⟨rfl,rfl,.inl ⟨k,hu⟩⟩
 .rename_i hu;cases h;exact .inr ⟨rfl,rfl,.inr (.inl hu)⟩
 .rename_i e hu;split at h
  .cases h;exact .inr ⟨rfl,rfl,.inr (.inr ⟨e,hu⟩)⟩
  .cases h
 .rename_i c hu;split at h
  .cases h;exact .inl ⟨rfl,c,hu⟩
  .cases h
 .cases h
theorem z7H {W:World}{T:TypeId}{v:Value}{a:Nat}(b:(∃k,P.underlying T=some (.int k))\/P.underlying T=some .bool\/∃e,P.underlying T=some (.slice e))(h:Value.okWide P W .any a T v):v.cells = #[v]:=by
 cases v with
 |agg c=>exfalso;rcases b with⟨k,b⟩|b|⟨e,b⟩<;>simp [Value.okWide,b,Cell.okWide,Cell.ok]at h
 |_=>rfl
theorem zTP (k:∀T,T<zgo->zoK P T=true/\zAM P T=true){H:Type}{K:TypeId×Value->H}{W:World}{u:Nat} :
 ∀(r:List TypeId) (z:List Value) (B:List (DataW H)) (p:List MemPlace),DataW.TrodAll K P W 0 (fun _=>true) true r z B p->
  (∀(j:Nat) (t:TypeId) (v:Value),r[j]?=some t->z[j]?=some v->Value.okWide P W .any u t v)->(∀t∈r,t<zgo/\(zcI P 4 t).isSome=true)->
  (DataW.weightsEach P r B).all (·<=reachBytes)=true->
  ∃(f:List AV) (D:List Value),f.map (fun a=>some a.sh)=r.map (zcI P 4)/\zdu false W (zF f) D (fun _ b=>b<W.heap.size)/\zbX f D=z/\∀c∈zF f,CVOk c
 |[],z,B,p,h,_,_,_=>by obtain⟨rfl,rfl,rfl⟩:=trodAll_nil h;exact⟨[],[],rfl,⟨rfl,fun i c x h=>by simp[zF]at h⟩,rfl,fun c h=>by simp[zF]at h⟩
 |T::r,z,B,p,h,hv,ht,hw=>by
  obtain⟨v,U,d,I,p1,q,rfl,rfl,rfl,L,M⟩:=trodAll_cons h;simp only[DataW.weightsEach]at hw;obtain⟨Q,R⟩:=all_append hw;obtain⟨f,D,X,g2,Y,g4⟩:=zTP k r U I q M (fun j t v L M=>hv (j+1) t v (by simpa using L) (by simpa using M)) (fun t h=>ht t (by simp[h])) R;obtain⟨hT,m⟩:=ht T (by simp);obtain⟨⟨G,S⟩,g⟩:=uN.1 m;obtain⟨w,hf⟩:=L;obtain⟨cvs,J,C,V⟩:=z4T k w T _ _ hT G S g hf Q;have n:=hv 0 T v rfl rfl;have s:∀a:AV,a.cvs=cvs->zdu false W (zF (a::f)) (v.cells.toList++D) (fun _ b=>b<W.heap.size)/\∀c∈zF (a::f),CVOk c:=(by intro a ha;have e:zF (a::f)=cvs++zF f:=(by simp[zF,ha]);rw[e];refine⟨zdu.append ⟨C,fun i c x l hx=>(V i c x l hx).1⟩ g2,fun c l=>?_⟩;rcases jG.1 l with l|l;{obtain⟨i,Z⟩:=qT.1 l;have N:i<v.cells.toList.length:=(by rw[C];exact(qA.1 Z).1);exact(V i c _ Z (qB N)).2};{exact g4 c l});rcases zSF g with⟨rfl,fs,O⟩|⟨rfl,y,O⟩;{obtain⟨A,rfl,_⟩:∃A,v = .agg A/\True:=(by simp only[Value.okWide,O]at n;obtain⟨A,h,_⟩:=n;exact⟨A,h,trivial⟩);obtain⟨E,F⟩:=s (.agg cvs) rfl;refine⟨.agg cvs::f,_,?_,E,?_,F⟩;{rw [jB,jB,X,g];simp only[AV.sh,J]};{simp only [Value.cells] at C;simp only[zbX,Value.cells,<- C,kK,kW,Y,jP]}}
  .have hcells:=z7H O n;rw[<- J]at y;obtain ⟨c,rfl⟩:∃c,cvs=[c]:=by
    match cvs,y with
    |[c],_=>exact⟨c,rfl⟩
   obtain⟨E,F⟩:=s (.one c) rfl;refine⟨.one c::f,_,?_,E,?_,F⟩;{rw [jB,jB,X,g,<- J];rfl};{rw [hcells];simp only[zbX];simp[Y]}
theorem zDr (r:laidOutB P=true){H:Type}{b:TypeId×Value->H}{W m:World}(n:Go.RowKit.Below W.heap.size W m){u:Nat->Bool}:∀(g:List TypeId) (j:List Value) (i:List (DataW H)) (f:List MemPlace),(∀t∈g,P.readableRec t=true/\t<P.types.size)->
 DataW.TrodAll b P W 0 (fun _=>true) true g j i f->(∀x∈f,x.block<W.heap.size/\u x.block=true)->DataW.TrodAll b P m 0 u true g j i f
 |[],j,i,f,_,h,_=>by obtain⟨rfl,rfl,rfl⟩:=trodAll_nil h;exact rfl
 |T::g,j,i,f,s,h,a=>by
  obtain⟨v,l,d,k,p,q,rfl,rfl,rfl,w,y⟩:=trodAll_cons h;obtain⟨z,c⟩:=s T (by simp)
  exact⟨p,q,WideElems.Trod_stays r z c w (fun x e=>n.same (a x (jY _ e)).1) (fun x e=>(a x (jY _ e)).2),
   zDr r n g l k q (fun t h=>s t (by simp[h])) y (fun x e=>a x (kF _ e)),rfl⟩
theorem zUO {W b:World}(h:Grown W b)(a:MemPlace->Prop):W.keptBut b a:=by
 refine⟨h.os,h.output,fun i c=>?_⟩;rw[h.keep i c];cases d:W.heap[i]? with
 |none=>rfl
 |some o=>cases o<;>first|rfl|exact⟨rfl,rfl,rfl,fun _ _=>rfl⟩|exact .inr ⟨rfl,rfl⟩
def z7S (P:Program)(a:List TypeId):Bool:=a.all fun T=>Nat.blt T zgo&&(zcI P 4 T).isSome&&P.readableRec T&&Nat.blt T P.types.size
def zbaX (P:Program)(d:List TypeId)(b:List AV):Prop:=b.map (fun a=>some a.sh)=d.map (zcI P 4)/\∀c∈zF b,CVOk c
def zWh (P:Program)(f:FuncId)(d:List TypeId):Prop :=
 ∃c,Holds P f c/\∀a,zbaX P d a->c a=some (true,[.one (.b true)])
theorem zOr (L:∀T,T<zgo->zoK P T=true/\zAM P T=true)(a0:laidOutB P=true){s:ChangeSpec}{f:FuncId}{u:Func}{B:TypeId}(k:s.vars=[])(F:∀(H:Type) (i:List (DataW H)),i.length=u.params.toList.length->s.fn H i={results:=[.lit (.bool true)],args:=i})(a:z7S P u.params.toList=true)(O:u.resultTypes = #[B])(hB:P.underlying B=some .bool)(hl:zWh P f u.params.toList){H:Type}{enc:TypeId×Value->H}{apart D l:Bool}(W:World)(A:Nat)(g:Array Value)(i gs:List (DataW H))(w:List MemPlace)(U:∀(j:Nat) t v,u.params[j]?=some t->g[j]?=some v->Value.okWide P W .any A t v)(hW:DataW.Whole enc P u.params.toList s.vars apart W g.toList i gs w)(R:(DataW.weightsEach P (u.params.toList++s.plain.varTypes P) (i++gs)).all (·<=reachBytes)=true) :
 Calls P f g W fun e W'=>∃v,e = .returned v/\s.post enc P u apart D l false W g v W':=by
 have J:=hW;obtain⟨p,q,I,hV,rfl,a4,a5⟩:=hW;rw[k]at hV;obtain⟨rfl,rfl⟩:=trodVars_none hV;have a2:s.plain.varTypes P=[]:=by unfold DataSpec.varTypes;show s.vars.filterMap _=[];rw[k];rfl
 rw[a2,jC,jC]at R;unfold z7S at a;simp only[qM,qE,vC]at a;have G:∀(j:Nat) (t:TypeId) (v:Value),u.params.toList[j]?=some t->g.toList[j]?=some v->Value.okWide P W .any A t v:=by intro j t v h1 X;rw[kQ]at h1 X;exact U j t v h1 X
 obtain⟨C,xs,g1,g2,g3,g4⟩:=zTP L u.params.toList g.toList i p I G (fun t S=>⟨(a t S).1.1.1,(a t S).1.1.2⟩) R;obtain⟨a6,hH,Q⟩:=hl;have m:=hH.2 W C xs _ g2 (Q C ⟨g1,g4⟩);have E:(zbX C xs).toArray=g:=by rw[g3,jP]
 rw[E]at m;have n:∀(V:List TypeId) (vs:List Value) (i:List (DataW H)) (ps:List MemPlace),DataW.TrodAll enc P W 0 (fun _=>true) true V vs i ps->i.length=V.length:=by intro V;induction V with|nil=>intro vs i ps h;obtain⟨_,rfl,_⟩:=trodAll_nil h;rfl|cons t V ih=>intro vs i ps h;obtain⟨v,a3,d,Z,p,q,rfl,rfl,rfl,_,X⟩:=trodAll_cons h;simp[ih a3 Z q X]
 refine m.mono ?_;intro e W1 he;cases e with
 |panicked c=>exact he.elim
 |outgrown=>exact he.elim
 |returned v=>
  obtain⟨hg,ys,K,N,hv,_⟩:=he;have a1:v = .bool true:=by
   match ys,N with
   |[],h=>exact absurd h.1 (by simp[zF,AV.cvs])
   |[y],h=>have:=(h.2 0 (.b true) y rfl rfl).bool_inv;rw[hv,this];rfl
   |y::z::r,h=>exact absurd h.1 (by simp[zF,AV.cvs])
  subst a1;refine⟨_,rfl,i,[],p++[],[],p,[],J,?_,?_,?_,zUO hg _,fun h=>by cases h⟩;{rw [jC,F H i (n _ _ _ _ I),O];exact⟨[],[],⟨1,by simp[DataW.trod,hB,Value.cells]⟩,rfl,rfl⟩};{rw [jC,F H i (n _ _ _ _ I)];have hb:Go.RowKit.Below W.heap.size W W1:=⟨hg.os,hg.tape,hg.output,hg.size,hg.keep⟩;have M:∀x∈p,x.block<W.heap.size:=fun x Y=>(by simpa using J.lt x (jY _ Y));exact zDr a0 hb _ _ _ _ (fun t S=>⟨(a t S).1.2,(a t S).2⟩) I (fun x Y=>⟨M x Y,by simpa using M x Y⟩)};{rw [k,jC,F H i (n _ _ _ _ I)];rfl}
end
theorem zbep:(List.range zgo).all (zAM Tryz.prog)=true:=by kernel_rfl
theorem z9T:laidOutB Tryz.prog=true:=by kernel_rfl
theorem own:ownKnob Tryz.prog.godebug=none:=by kernel_rfl
theorem z8V (T:TypeId)(a:T<zgo):zoK Tryz.prog T=true/\zAM Tryz.prog T=true :=
 ⟨qM.1 z2l T (kG.2 a),qM.1 zbep T (kG.2 a)⟩
abbrev Good (b:List TypeId)(a:List AV):Prop:=zbaX Tryz.prog b a
abbrev z18 (f:FuncId)(a:List TypeId):Prop:=zWh Tryz.prog f a
theorem z0w {d:FuncId->Option (List AV->Option (Bool×List AV))}{l:FuncId->Option (CV->Int->Option (Bool×CV×Int))}{m:FuncId->Option (List Bool×(List CV->List AV->Option (Bool×List CV×List AV)))}{n:FuncId->Option (List Bool×Option (Nat×Nat×List (List Nat))×(List AV->Option (Bool×List AV)))}(e:∀f a,d f=some a->Holds Tryz.prog f a)(g:∀f a,l f=some a->zMQ Tryz.prog f a)(i:∀f own a,m f=some (own,a)->zbP Tryz.prog f own a)(j:∀f own k a,n f=some (own,k,a)->zeh Tryz.prog f own k a){f:FuncId}{r:List TypeId}(s:FnOk Tryz.prog f)(h:∀c,Good r c->∃q N D,evalFn (zmM d l m n) q N D f c=some [.one (.b true)]):z18 f r:=by refine⟨fun c=>open Classical in if Good r c then some (true,[.one (.b true)]) else none,zCt (zgF e g i j) s ?_,fun c hg=>by simp[hg]⟩;intro c t _ p;split at p;{rename_i hg;cases p;exact h c hg};{cases p}
end
def St.blkEnd (e:St):List Bool->List At->List MV->Option (List CV×List Nat)
 |[],[],[]=>some ([],[])
 |own::ms,a::r,h::hs=>
  match St.blkEnd e ms r hs with
  |none=>none
  |some (d,c) =>
   match a with
   |.i k n=>some (.i k n::d,c)
   |.b x=>some (.b x::d,c)
   |.sl q [] =>
    match e.root q with
    |some R=>
     match own with
     |true=>if R.own && !c.contains q then some (.s R.t R.l::d,q::c) else none
     |false=>
      match h with
      |.v (.at (.sl f []))=>if q==f then some (.s R.t R.l::d,c) else none
      |_=>none
    |none=>none
   |_=>none
 |_,_,_=>none
def zeE:List Bool->List CV->Nat->List (Nat×Root)
 |own::ms,.s t l::cs,id=>(id,⟨t,l,own,none⟩)::zeE ms cs (id+1)
 |_::ms,_::cs,id=>zeE ms cs (id+1)
 |_,_,_=>[]
def z2p (own:List Bool)(c:List CV)(b:List AV):St :=
 {tm:=.v (.at (.lp 0 0))::(zgS c 0).map fun a=>.v (.at a),lo:=[(0,zgS c 0)],ro:=zeE own c 0++zcX zvs b c.length,stk:=[],nid:=c.length+(b.flatMap AV.cvs).length+1,ep:=0}
def zoQ (C:Cfg)(tms:FuncId->Nat->Option Tmpl)(N D:Nat)(f:FuncId)(own:List Bool)(d:List CV)(a:List AV):Option Ans :=
 cond (zhX f && !(zqz (.agg d::a))) none
 (zwD C tms N (zsm C tms N D) f (.v (.at (.lp 0 0))::(zcV a d.length).map .v) (z2p own d a) fun h b=>
  match b.tm with
  |.v (.at (.lp l 0))::hs=>
   match zn b.lo l with
   |some cells=>
    match b.blkEnd own cells hs with
    |some (e,g) =>
     match zrn (b.thaw (zhX f)) h g with
     |some c=>some (.agg e::c)
     |none=>none
    |none=>none
   |none=>none
  |_=>none)
section
variable {C:Cfg} {w0 w w1:World} {S0:zV} {U:Nat->Prop} {st st1:St} {E E1:Env} {ts:Array Value} {sv:List (Array Value)}
structure BlkEnd (st:St) (own:List Bool) (cells:List At) (hs:List MV) (cs:List CV) (ks:List Nat):Prop where
 len:cs.length=cells.length
 hlen:hs.length=cells.length
 ownk:∀r∈ks,∃j,zba own j/\cells[j]?=some (.sl r [])
 get:∀(j:Nat) (a:At),cells[j]?=some a->(∃k n,a = .i k n/\cs[j]?=some (.i k n))\/(∃x,a = .b x/\cs[j]?=some (.b x))\/
  ∃r R,a = .sl r []/\st.root r=some R/\cs[j]?=some (.s R.t R.l)/\((zba own j/\R.own=true/\r∈ks)\/(¬ zba own j/\hs[j]?=some (.v (.at (.sl r [])))))
 inj:∀(i j r:Nat),zba own i->zba own j->cells[i]?=some (.sl r [])->cells[j]?=some (.sl r [])->i=j
theorem zTf:∀(own:List Bool) (cells:List At) (A:List MV) (E:List CV) (F:List Nat),st.blkEnd own cells A=some (E,F)->BlkEnd st own cells A E F
 |[],[],[],E,F,h=>by cases h;exact⟨rfl,rfl,fun r h=>by simp at h,fun j a h=>by simp at h,fun i j r h=>by simp[zba]at h⟩
 |o::ms,a::r,O::A,E,F,h=>by
  simp only[St.blkEnd]at h;split at h;{cases h}
  .rename_i cs0 ks0 h0;have f:=zTf ms r A cs0 ks0 h0;have p:∀(z:List Nat) (c:CV),(∀x∈ks0,x∈z)->∀(j:Nat) (b:At),r[j]?=some b->(∃k n,b = .i k n/\(c :: cs0)[j+1]?=some (.i k n))\/(∃x,b = .b x/\(c :: cs0)[j+1]?=some (.b x)) \/
    ∃q R,b = .sl q []/\st.root q=some R/\(c::cs0)[j+1]?=some (.s R.t R.l)/\((zba (o::ms) (j+1)/\R.own=true/\q∈z)\/(¬ zba (o::ms) (j+1)/\(O::A)[j+1]?=some (.v (.at (.sl q []))))):=by
    intro z c I j b g;rcases f.get j b g with h|h|⟨q,R,G,L,M,H⟩
    .exact .inl (by simpa using h)
    .exact .inr (.inl (by simpa using h))
    .refine .inr (.inr ⟨q,R,G,L,by simpa using M,?_⟩)
     rcases H with⟨d,e,Q⟩|⟨d,e⟩
     .exact .inl ⟨by simpa [zba] using d,e,I q Q⟩
     .exact .inr ⟨by simpa [zba] using d,by simpa using e⟩
   have flat:∀(c:CV),(∀q,a≠.sl q [])->((∃k n,a = .i k n/\c = .i k n)\/(∃x,a = .b x/\c = .b x))->BlkEnd st (o::ms) (a::r) (O::A) (c::cs0) ks0:=by
    intro c B S;refine⟨by simp[f.len],by simp[f.hlen],fun q K=>?_,fun j b g=>?_,fun i j q u y d e=>?_⟩;{obtain⟨j,d,e⟩:=f.ownk q K;exact⟨j+1,by simpa [zba] using d,by simpa using e⟩}
    .cases j with
     |zero=>simp only[qI,qC]at g;subst g;rcases S with⟨k,n,d,e⟩|⟨x,d,e⟩;{exact .inl ⟨k,n,d,by simp[e]⟩};{exact .inr (.inl ⟨x,d,by simp[e]⟩)}
     |succ j=>exact p ks0 c (fun _ h=>h) j b (by simpa using g)
    {cases i with|zero=>simp only[qI,qC]at d;exact absurd d (B q)|succ i=>(cases j with|zero=>simp only[qI,qC]at e;exact absurd e (B q)|succ j=>have:=f.inj i j q (by simpa [zba] using u) (by simpa [zba] using y) (by simpa using d) (by simpa using e);omega)}
   split at h;{rename_i k n;cases h;exact flat _ (fun q h=>by cases h) (.inl ⟨k,n,rfl,rfl⟩)};{rename_i x;cases h;exact flat _ (fun q h=>by cases h) (.inr ⟨x,rfl,rfl⟩)};{rename_i q;split at h;{rename_i R N;split at h;{split at h;{rename_i m;simp only[qE,jE,jM,decide_eq_false_iff_not]at m;obtain⟨C,J⟩:=m;cases h;refine⟨by simp[f.len],by simp[f.hlen],fun x w=>?_,fun j b g=>?_,fun i j x u y d e=>?_⟩;{rcases qG.1 w with rfl|w;{exact⟨0,rfl,rfl⟩};{obtain⟨j,d,e⟩:=f.ownk x w;exact⟨j+1,by simpa [zba] using d,by simpa using e⟩}};{cases j with|zero=>simp only[qI,qC]at g;subst g;exact .inr (.inr ⟨q,R,rfl,N,by simp,.inl ⟨rfl,C,jA⟩⟩)|succ j=>exact p _ _ (fun x w=>qX _ w) j b (by simpa using g)};{have D:∀(i:Nat),zba ms i->r[i]?=some (.sl q [])->False:=(by intro i u K;rcases f.get i _ K with⟨_,_,h,_⟩|⟨_,h,_⟩|⟨V,T,G,L,M,H⟩;{cases h};{cases h};{cases G;rcases H with⟨_,_,h⟩|⟨h,_⟩;{exact J h};{exact h u}});cases i with|zero=>(cases j with|zero=>rfl|succ j=>simp only[qI,qC,At.sl.injEq,and_true]at d;subst d;exact(D j (by simpa [zba] using y) (by simpa using e)).elim)|succ i=>(cases j with|zero=>simp only[qI,qC,At.sl.injEq,and_true]at e;subst e;exact(D i (by simpa [zba] using u) (by simpa using d)).elim|succ j=>have:=f.inj i j x (by simpa [zba] using u) (by simpa [zba] using y) (by simpa using d) (by simpa using e);omega)}};{cases h}};{split at h;{rename_i U;split at h;{rename_i P;simp only[qL]at P;subst P;cases h;refine⟨by simp[f.len],by simp[f.hlen],fun x w=>?_,fun j b g=>?_,fun i j x u y d e=>?_⟩;{obtain⟨j,d,e⟩:=f.ownk x w;exact⟨j+1,by simpa [zba] using d,by simpa using e⟩};{cases j with|zero=>simp only[qI,qC]at g;subst g;exact .inr (.inr ⟨q,R,rfl,N,by simp,.inr ⟨by simp[zba],rfl⟩⟩)|succ j=>exact p _ _ (fun x w=>w) j b (by simpa using g)};{cases i with|zero=>simp[zba]at u|succ i=>(cases j with|zero=>simp[zba]at y|succ j=>have:=f.inj i j x (by simpa [zba] using u) (by simpa [zba] using y) (by simpa using d) (by simpa using e);omega)}};{cases h}};{cases h}}};{cases h}};{cases h}
 |[],_::_,_,_,_,h=>by simp[St.blkEnd]at h
 |[],[],_::_,_,_,h=>by simp[St.blkEnd]at h
 |_::_,[],_,_,_,h=>by simp[St.blkEnd]at h
 |_::_,_::_,[],_,_,h=>by simp[St.blkEnd]at h
theorem z8P (a:Value)(b:Array Value):(#[a]++b)[0]?=some a:=by rw[jW (by simp)];rfl
theorem z8Q (a:Value)(b:Array Value)(i:Nat):(#[a]++b)[i+1]?=b[i]?:=by rw[kC (by simp)];simp
theorem zk6:∀(own:List Bool) (a:List CV) (id n:Nat) (R:Root),zn (zeE own a id) n=some R->id<=n/\∃t l,a[n-id]?=some (.s t l)/\R.t=t/\HEq R.l l/\own[n-id]?=some R.own/\R=⟨t,l,R.own,none⟩
 |[],_,_,_,_,h=>by cases h
 |o::ms,[],_,_,_,h=>by cases h
 |o::ms,c::a,id,n,R,h=>by have d:zn (zeE ms a (id+1)) n=some R->id<=n/\∃t l,(c::a)[n-id]?=some (.s t l)/\R.t=t/\HEq R.l l/\(o::ms)[n-id]?=some R.own/\R=⟨t,l,R.own,none⟩:=fun h=>(by obtain⟨r,t,l,g,j,m,p,q⟩:=zk6 ms a (id+1) n R h;have e:n-id=(n-(id+1))+1:=(by omega);exact⟨by omega,t,l,by rw[e,jN];exact g,j,m,by rw[e,jN];exact p,q⟩);cases c with|i k x=>exact d h|b x=>exact d h|s t l=>simp only[zeE,zn]at h;split at h;{rename_i f;simp only[qL]at f;subst f;cases h;exact⟨qY _,t,l,by simp,rfl,HEq.rfl,by simp,rfl⟩};{exact d h}
theorem zhn (hO:EngOk C){f:FuncId}{own:List Bool}{e8:List CV->List AV->Option (Bool×List CV×List AV)}(hf:FnOk C.P f)(h:∀(d:List CV) (z:List AV) (Z:List CV) (rs:List AV),own.length=d.length->(∃(w:World) (xs:Nat->Value) (K:Nat->zV),∀(j:Nat) (c:CV),(d++zF z)[j]?=some c->Rep false w (xs j) c (K j))->e8 d z=some (true,Z,rs)->Z.length=d.length/\∃tms N D,zoQ C tms N D f own d z=some (.agg Z::rs)):zbP C.P f own e8:=by
 refine⟨hf,fun w blk B e d K z xs Ka Z rs hb e5 g7 a1 a7 f1 a4 c7 e0=>?_⟩;obtain⟨d4,tms,N,D,a3⟩:=h d z Z rs g7 ⟨w,fun j=>if j<d.length then (B[j]?).getD undef else (xs[j-d.length]?).getD undef,fun j=>if j<d.length then K j else Ka,fun j c L=>by
  by_cases T:j<d.length
  .rw [qV T]at L;have M:=jH (show j<B.size by omega)
   simp only[if_pos T,M,jV];exact(a1 j c _ L M).ro
  .rw [qR (by omega)]at L
   have c9:=(qA.1 L).1;have M:=qB (show j-d.length<xs.length by rw[a4.1];exact c9)
   simp only[if_neg T,M,jV];exact a4.2 _ c _ L M⟩ e0
 unfold zoQ at a3;cases b9:zhX f && !(zqz (.agg d::z)) with
 |true=>rw[b9]at a3;cases a3
 |false=>
 rw[b9,cond_false]at a3;have hblt:blk<w.heap.size:=(qQ.1 hb).1;generalize a9:z2p own d z=st at a3;have g9:st.ro=zeE own d 0++zcX zvs z d.length:=(by rw[<- a9];rfl);have d6:st.lo=[(0,zgS d 0)]:=(by rw[<- a9];rfl);have c3:st.stk=[]:=(by rw[<- a9];rfl);have hnid:st.nid=d.length+(zF z).length+1:=(by rw[<- a9];rfl);have b0:st.tm = .v (.at (.lp 0 0))::(zgS d 0).map fun a=>.v (.at a):=(by rw[<- a9];rfl);have O:∀r R,zn st.ro r=some R->R.ep=none/\((r<d.length/\own[r]?=some R.own/\d[r]?=some (.s R.t R.l))\/(d.length<=r/\r<d.length+(zF z).length/\R.own=false/\(zF z)[r-d.length]?=some (.s R.t R.l))):=(by intro r R I;rw[g9,zbQ]at I;split at I;{rename_i Q hQ;cases I;obtain⟨_,t,l,q,_,_,h5,h6⟩:=zk6 own d 0 r R hQ;rw[h6]at h5 ⊢;simp only[vF]at q h5;exact⟨rfl,.inl ⟨(qA.1 q).1,h5,q⟩⟩};{obtain⟨g,t,l,q,rfl⟩:=ze7 zvs z d.length r R I;have:=(qA.1 q).1;exact⟨rfl,.inr ⟨g,by omega,rfl,q⟩⟩});have H:∀r R,st.root r=some R->(r<d.length/\own[r]?=some R.own/\d[r]?=some (.s R.t R.l))\/(d.length<=r/\R.own=false/\(zF z)[r-d.length]?=some (.s R.t R.l)):=(by intro r R I;rcases (O r R (zbz I).1).2 with h|⟨g,_,q,G⟩;{exact .inl h};{exact .inr ⟨g,q,G⟩});let E:Env:={ρ:=fun n=>if n<d.length then (B[n]?).getD undef else (xs[n-d.length]?).getD undef,φ:=fun n=>if n<d.length then K n else Ka,β:=fun _=>blk,κ:=w}
 have a0:∀n,n<d.length->E.ρ n=(B[n]?).getD undef/\E.φ n=K n:=fun n hn=>(by simp only[E,if_pos hn,and_self]);have a2:∀n,d.length<=n->E.ρ n=(xs[n-d.length]?).getD undef/\E.φ n=Ka:=fun n hn=>(by simp only[E,if_neg (show ¬ n<d.length by omega),and_self]);have e4:∀(j:Nat) (a:At) (u:Value),(zgS d 0)[j]?=some a->B[j]?=some u->u.oneCell'=true/\VA w st E a u:=(by intro j a u A M;rw[zvr,jX]at A;cases L:d[j]? with|none=>rw[L]at A;cases A|some c=>rw[L]at A;cases A;have hr:=a1 j c u L M;have T:j<d.length:=(qA.1 L).1;refine⟨hr.one,?_⟩;(cases c with|i k n=>exact hr.int_inv|b x=>exact hr.bool_inv|s t l=>obtain⟨⟨a,c5,hv,_⟩,_⟩:=hr.len;refine⟨⟨a,_,c5,hv⟩,fun R _=>?_⟩;rw[(a0 j T).1,M];rfl));have b8:∀l cells,zn st.lo l=some cells->l=0/\cells=zgS d 0:=(by intro l cells h;rw[d6]at h;simp only[zn]at h;split at h;{rename_i he;simp only[qL]at he;cases h;exact⟨he.symm,rfl⟩};{cases h});have hp:VA w st E (.lp 0 0) (.pointer (some ⟨blk,0,none⟩)):=⟨⟨_,rfl⟩,fun _ _=>rfl⟩;have c0:∀a∈zgS d 0,∀m∈a.ids,m<d.length:=(by intro a A m J;obtain⟨j,T⟩:=qT.1 A;rw[zvr,jX]at T;cases L:d[j]? with|none=>rw[L]at T;cases T|some c=>rw[L]at T;cases T;have:=zBt J;have:=(qA.1 L).1;omega);let S0:zV:=fun b=>b=blk\/(∃j,j<d.length/\zba own j/\K j b)\/(zhX f=false/\b=w.heap.size)
 have hS:Sim w S0 (fun n=>n<st.nid) st E (#[.pointer (some ⟨blk,0,none⟩)]++B) [] w:=by
  refine⟨⟨rfl,rfl,rfl,qY _,fun _ _ _=>rfl,fun r R I=>?_,fun r R I x p=>?_,fun r R I U=>?_,fun hz r R I U he f7=>?_,fun r R r' R' I U f2 he X x p=>?_,fun l cells hl=>?_,fun l l' c1 c2 g q _=>?_,fun l cells r R hl I=>?_,fun r R e I he=>?_,rfl⟩,⟨fun n R hn=>?_,fun n cells hn=>?_,fun m J n hn=>?_,fun f hf=>?_⟩,⟨?_,fun i m v J hv=>?_⟩,?_⟩;{rcases H r R I with⟨g,q,G⟩|⟨g,q,G⟩;{have M:=jH (show r<B.size by omega);rw[(a0 r g).1,(a0 r g).2,M];have:=a1 r _ _ G M;rw[q] at this;exact this};{have c9:=(qA.1 G).1;have M:=qB (show r-d.length<xs.length by rw[a4.1];exact c9);rw[(a2 r g).1,(a2 r g).2,M,q];exact a4.2 _ _ _ G M}};{rcases H r R I with⟨g,q,G⟩|⟨g,q,G⟩;{rw [(a0 r g).2]at p;exact(a7 r x g p).1};{rw [(a2 r g).2]at p;exact(c7 x p).1}};{rcases H r R I with⟨g,q,G⟩|⟨g,q,G⟩;{refine⟨(O r R (zbz I).1).1,fun x p=>.inl (.inr (.inl ⟨r,g,?_,?_⟩))⟩;{show own[r]?=some true;rw[q,U]};{rw [(a0 r g).2]at p;exact p}};{rw [q]at U;cases U}}
  .exfalso;cases hq:zhX f with
   |false=>exact hz (.inr (.inr ⟨hq,rfl⟩))
   |true=>rw[hq,uX]at b9;have f6:zqz (.agg d::z)=true:=(by simpa using b9);have d7:CV.s R.t R.l∈(AV.agg d::z).flatMap AV.cvs:=(by simp only[j4,jG];rcases H r R I with⟨g,q,G⟩|⟨g,q,G⟩;{exact .inl (qK G)};{exact .inr (qK G)});have:=qM.1 f6 _ d7;simp only at this;rw[f7] at this;cases this
  {rcases H r R I with⟨g,q,G⟩|⟨g,q,G⟩;{have d9:zba own r:=(by show own[r]?=some true;rw[q,U]);rw[(a0 r g).2]at p;rcases H r' R' f2 with⟨W,c6,a6⟩|⟨W,c6,a6⟩;{rw [(a0 r' W).2];exact f1 r r' x g W d9 X p};{rw [(a2 r' W).2];exact fun hk=>(c7 x hk).2.2 r g d9 p}};{rw [q]at U;cases U}};{obtain⟨rfl,rfl⟩:=b8 l cells hl;exact⟨.inl (.inl rfl),B,e,hb,by rw[e5,zBs],fun j c u L M=>e4 j c u L M⟩};{rw [(b8 l c1 g).1,(b8 l' c2 q).1]};{intro p;rcases H r R I with⟨g,q,G⟩|⟨g,q,G⟩;{rw [(a0 r g).2]at p;exact(a7 r _ g p).2 rfl};{rw [(a2 r g).2]at p;exact(c7 _ p).2.1 rfl}};{rw [(O r R I).1]at he;cases he};{rcases (O n R hn).2 with⟨g,_⟩|⟨_,g,_⟩<;>omega};{obtain⟨rfl,rfl⟩:=b8 n cells hn;refine⟨by omega,fun a A m J=>?_⟩;have:=c0 a A m J;omega};{rw [b0]at J;rcases qG.1 J with rfl|J;{simp only [MV.ids,zbD,zT,At.ids,zbm,zbs,jS,j4,uB,jC,qF]at hn;omega};{obtain⟨a,A,rfl⟩:=jD.1 J;simp only[MV.ids,zbD,zT,j4,uB,jC]at hn;have:=c0 a A n hn;omega}};{rw [c3]at hf;simp at hf};{rw [b0];simp[zBs,e5];omega};{rw [b0]at J;cases i with|zero=>rw[z8P]at hv;simp at J hv;subst J hv;exact hp|succ i=>simp only[jN,qP]at J;have d0:B[i]?=some v:=(by rw[z8Q]at hv;exact hv);(cases A:(zgS d 0)[i]? with|none=>rw[A]at J;cases J|some a=>rw[A]at J;cases J;exact(e4 i a v A d0).2)};{rw [c3];trivial}
 obtain⟨f9,g0⟩:=zgR (w:=w) (st:=st) (E:=E) z xs d.length a4.1 (fun i c u L M=>by
  have hr:=a4.2 i c u L M;refine⟨?_,hr.one⟩;cases c with
  |i k n=>exact hr.int_inv
  |b x=>exact hr.bool_inv
  |s t l=>
   obtain⟨⟨a,c5,hv,_⟩,_⟩:=hr.len;refine⟨⟨a,_,c5,hv⟩,fun R I=>?_⟩;have e:d.length+i-d.length=i:=by omega
   rw[(a2 _ (uA _ _)).1,e,M];rfl)
 obtain⟨_,b7⟩:=zkw hO (ziU hO (tms:=tms) (N:=N) D) f _ st _ _ a3 w S0 _ E _ [] w (#[.pointer (some ⟨blk,0,none⟩)]++(zbX z xs).toArray)
  (fun v w'=>w'.os=w.os/\w'.tape=w.tape/\w'.output=w.output/\w.heap.size<=w'.heap.size/\
   (∀b,b<w.heap.size->b≠blk->(∀j,j<d.length->zba own j->¬ K j b)->w'.heap[b]?=w.heap[b]?)/\
   ∃(S:Array Value) (e':TypeId) (K':Nat->zV) (ys:List Value) (Kr:Nat->zV),w'.heap[blk]?=some (.cells S e' (0,0))/\S.size=Z.length/\Z.length=d.length/\
    (∀(j:Nat) (c:CV) (u:Value),Z[j]?=some c->S[j]?=some u->match c with
     |.i k n=>u = .int k n
     |.b x=>u = .bool x
     |.s t l=>(zba own j->Rep true w' u (.s t l) (K' j))/\(¬ zba own j->B[j]?=some u))/\
    zur (zpg f) w' (zF rs) ys Kr/\v=zjV (zbX rs ys)/\
    (∀j x,j<d.length->K' j x->x<w'.heap.size/\x≠blk/\((∃i,i<d.length/\zba own i/\K i x)\/w.heap.size<=x))/\
    (∀i x,i<(zF rs).length->Kr i x->x<w'.heap.size/\x≠blk/\((∃i,i<d.length/\zba own i/\K i x)\/w.heap.size<=x))/\
    (∀i j x,i<d.length->j<d.length->i≠j->K' i x->¬ K' j x)/\
    (∀i j c x,(zF rs)[i]?=some c->zpg f c=true->j<(zF rs).length->i≠j->Kr i x->¬ Kr j x)/\
    (∀i j x,i<d.length->j<(zF rs).length->K' i x->¬ Kr j x)) hS (fun n hn h=>by omega)
  (by simp[f9]) (fun i m v J hv=>by
   cases i with
   |zero=>rw[z8P]at hv;simp at J hv;subst J hv;exact hp
   |succ i=>
    simp only[jN,qP]at J;have d0:(zbX z xs)[i]?=some v:=by rw[z8Q]at hv;simpa using hv
    cases p:(zcV z d.length)[i]? with
    |none=>rw[p]at J;cases J
    |some x=>rw[p]at J;cases J;exact g0 i x v p d0)
  (fun m J n hn=>by
   rcases qG.1 J with rfl|J
   .simp only [MV.ids,zbD,zT,At.ids,zbm,zbs,jS,j4,uB,jC,qF]at hn;omega
   .obtain⟨x,p,rfl⟩:=jD.1 J;simp only[MV.ids,zbD,qO]at hn;obtain⟨a,A,hn⟩:=hn;have:=(ze8 z d.length n x a p A hn).2;omega)
  (fun U' b2 E' w' tvs v d2 _ _ _ hv _ F=>by
   split at F
   .rename_i l hs htm;split at F
    .rename_i cells hcells;split at F
     .rename_i cs1 ks hbe;split at F
      .rename_i ans hansof;simp only[qC,List.cons.injEq,AV.agg.injEq]at F;obtain⟨rfl,rfl⟩:=F;have hB:=zTf own cells hs _ ks hbe;have hM:=d2.mem;obtain⟨hts,e2⟩:=d2.tm;have g2:=e2 0 (.v (.at (.lp l 0))) (.pointer (some ⟨blk,0,none⟩)) (by rw[htm];rfl) (z8P _ _)
       have e7:E'.β l=blk:=by have:=g2.2 cells hcells;simp only[Value.pointer.injEq,qC,Addr.mk.injEq,and_true] at this;exact this.symm
       obtain⟨us,rfl,h8,h9⟩:=zAv hv;have TT:=zPI (st:=b2) (E:=E') (w:=w') (zhX f);obtain⟨a5,ys,kr,hG,hyl,e6,rfl,f8,_⟩:=zix tvs ks _ us hansof h8 (fun k x u p M=>VT.tr TT (fun _ _ _ _=>trivial) (h9 k x u p M));have hyv:∀(k:Nat) (a:At) (u:Value),a5[k]?=some a->ys[k]?=some u->VA w' b2 E' a u:=fun k a u A M=>by have h:=e6 k a u A M;rcases hG.get k a A with⟨_,_,rfl,_⟩|⟨_,rfl,_⟩|⟨r,R1,rfl,b6,J,_⟩;{exact h};{exact h};{obtain⟨R0,f3,ht,_⟩:=zjz b6;refine⟨h.1,fun R I=>?_⟩;rw[f3]at I;cases I;have:=h.2 R1 b6;simpa [zY] using this}
       have hzz:zhX f=true->¬ S0 w.heap.size:=fun h h'=>by rcases h' with h'|⟨j,T,_,hk⟩|⟨h',_⟩;{omega};{have:=(a7 j _ T hk).1;omega};{rw [h]at h';cases h'}
       obtain⟨_,S,e',a8,e1,f4⟩:=hM.loc l cells hcells;rw[e7]at a8;have d3:∀x,(S0 x\/w.heap.size<=x)->x≠blk->((∃i,i<d.length/\zba own i/\K i x)\/w.heap.size<=x):=by intro x h X;rcases h with (h|h|h)|h;{exact absurd h X};{exact .inl h};{exact .inr (by omega)};{exact .inr h}
       have d8:∀r R x,b2.root r=some R->E'.φ r x->x≠blk:=by intro r R x I p he;subst he;rw[<- e7]at p;exact hM.lro l cells r R hcells I p
       have d5:∀i,i<(zF ans).length->∃a,a5[i]?=some a:=fun i hi=>⟨_,qB (by rw[<- hG.len];exact hi)⟩
       let K':Nat->zV:=fun j x=>zba own j/\cφ E' cells j x
       have b4:∀j x,K' j x->∃r R,cells[j]?=some (.sl r [])/\zba own j/\b2.root r=some R/\R.own=true/\r∈ks/\E'.φ r x:=by intro j x p;obtain⟨U,p⟩:=p;obtain⟨a,A,p⟩:=zu0 p;rcases hB.get j a A with⟨_,_,rfl,_⟩|⟨_,rfl,_⟩|⟨r,R,rfl,g,q,G⟩;{exact p.elim};{exact p.elim};{rcases G with⟨_,Y,h5⟩|⟨Y,_⟩;{exact⟨r,R,A,U,g,Y,h5,p⟩};{exact absurd U Y}}
       have b5:∀i x,cφ E' a5 i x->∃a r R,a5[i]?=some a/\a = .sl r []/\b2.root r=some R/\R.ep=none/\r∈kr/\aφ E' a x/\E'.φ r x:=by intro i x p;obtain⟨a,A,p⟩:=zu0 p;obtain⟨r,hr,rfl,h0⟩:=hG.fi A p;obtain⟨R1,b6,g6⟩:=hG.own r hr;obtain⟨R,I,_,c8⟩:=zjz b6;refine⟨_,r,R,A,rfl,I,?_,hr,p,h0⟩;rcases c8 with rfl|⟨_,_,he,_⟩;{exact(hM.mine r _ I g6).1};{exact he}
       refine⟨hM.os,hM.tape,hM.output,hM.size,fun b hb X g3=>hM.keep b hb (fun h=>?_),S,e',K',ys,cφ E' a5,a8,by rw[e1,hB.len],d4,fun j c u L M=>?_,⟨by rw[hyl,hG.len],fun i c x L p=>?_⟩,rfl,fun j x T p=>?_,fun i x hi p=>?_,fun i j x hi T X p b1=>?_,fun i j c x hi U T X p b1=>?_,fun i j x hi T p b1=>?_⟩
       .rcases h with h|⟨j,T,U,hk⟩|⟨_,h⟩
        .exact X h
        .exact g3 j T U hk
        .omega
       .have T:j<cells.length:=by rw[<- hB.len];exact(qA.1 L).1
        have A:=qB T;obtain⟨_,V⟩:=f4 j _ u A M;rcases hB.get j _ A with⟨k,n,g,q⟩|⟨y,g,q⟩|⟨r,R,g,q,G,Y⟩
        .rw [L]at q;cases q;rw[g]at V;exact V
        .rw [L]at q;cases q;rw[g]at V;exact V
        .rw [L]at G;cases G;rw[g]at V A;have d1:=V.2 R q;simp only[zY,qC]at d1;refine⟨fun U=>?_,fun g4=>?_⟩
         .rcases Y with⟨_,h5,_⟩|⟨h5,_⟩
          .have hr:=hM.rep r R q;rw[h5,d1]at hr;exact hr.weak (fun x p=>⟨U,by rw[zhl A];exact p⟩)
          .exact absurd U h5
         .rcases Y with⟨h5,_⟩|⟨_,h5⟩
          .exact absurd h5 g4
          .have hjc:j<d.length:=by rw[<- d4,hB.len];exact T
           have e3:=jH (show j<B.size by omega)
           have h7:=e2 (j+1) (.v (.at (.sl r []))) B[j] (by rw[htm,jN];exact h5) (by rw[z8Q];exact e3)
           have c4:=h7.2 R q;simp only[zY,qC]at c4;rw[e3,<- c4,d1]
       .obtain⟨a,A⟩:=d5 i (qA.1 L).1;rw[zhl A];exact z2K hM hG A L (hyv i a x A p)
       .obtain⟨r,R,_,U,g,q,G,Y⟩:=b4 j x p;have:=d8 r R x g Y;exact⟨hM.rlt r R g x Y,this,d3 x ((hM.mine r R g q).2 x Y) this⟩
       .obtain⟨a,r,R,A,_,g,_,_,G,Y⟩:=b5 i x p;have:=d8 r R x g Y;exact⟨hM.rlt r R g x Y,this,d3 x (z7M hzz hM hG A G).1 this⟩
       .obtain⟨r,R,g1,U,g,q,G,Y⟩:=b4 i x p;obtain⟨r',R',f0,g5,W,c6,a6,b3⟩:=b4 j x b1;have:=hM.own_apart g q W c6 Y b3;subst this;exact X (hB.inj i j r U g5 g1 f0)
       .obtain⟨a,r,R,A,_,g,_,_,G,Y⟩:=b5 i x p;obtain⟨b,r',R',a8,_,W,_,_,a6,b3⟩:=b5 j x b1;exact X (z2J hM hG A a8 hi U G a6)
       .obtain⟨r,R,g1,U,g,q,G,Y⟩:=b4 i x p;obtain⟨b,r',R',a8,_,W,f5,g8,a6,b3⟩:=b5 j x b1
        by_cases e:r=r'
        .subst e;exact f8 r g8 G
        .exact hM.apart r R r' R' g q W f5 e x Y b3
      .cases F
     .cases F
    .cases F
   .cases F)
 refine b7.mono ?_;intro ex w' he;cases ex with|returned v=>exact he|panicked e9=>exact he.elim|outgrown=>exact he.elim
end
def z4a (C:Cfg)(tms:FuncId->Nat->Option Tmpl)(N D:Nat)(f:FuncId)(own:List Bool)(a:List AV):Option Ans :=
 zwD C tms N (zsm C tms N D) f ((zcV a 0).map .v) {tm:=[],lo:=[],ro:=zeE own (a.flatMap AV.cvs) 0,stk:=[],nid:=(a.flatMap AV.cvs).length,ep:=0} fun b c=>zrn c b []
def zGR (C:Cfg)(tms:FuncId->Nat->Option Tmpl)(N D:Nat)(f:FuncId)(own:List Bool)(e g:Nat)(b:List (List Nat))(t:Ty)(a:List AV):Option Ans :=
 zwD C tms N (zsm C tms N D) f ((zcV a 0).map .v) {tm:=[.v (.at (.kp e b t))],lo:=[],ro:=zeE own (a.flatMap AV.cvs) 0,stk:=[],nid:=(a.flatMap AV.cvs).length,ep:=0} fun c d=>
  match d.tm,(c.flatMap zT)[g]? with
  |[.v (.at (.kp n J h))],some (.sl m [])=>cond (Nat.beq n m&&(J==b&&decide (h=t))) (zrn d c []) none
  |_,_=>none
section
variable {C:Cfg} {w0 w w1:World} {S0:zV} {U:Nat->Prop} {st st1:St} {E E1:Env} {ts:Array Value} {sv:List (Array Value)}
theorem zQg (hO:EngOk C){f:FuncId}{own:List Bool}{b2:List AV->Option (Bool×List AV)}(hf:FnOk C.P f)(a6:zh9 f=[[]])(h:∀(d:List AV) (G:List AV),own.length=(zF d).length->(∃(w:World) (J:Nat->Value) (K:Nat->zV),∀(j:Nat) (c:CV),(zF d)[j]?=some c->Rep false w (J j) c (K j))->b2 d=some (true,G)->∃tms N D,z4a C tms N D f own d=some G)(A:own.isEmpty=false:=by rfl):zeh C.P f own none b2:=by
 refine zeh.of (by rintro rfl;cases A) ?_;intro al a5;rw[a6,qF]at a5;subst a5;refine⟨hf,fun w K d J G b1 c5 I a4 a3 _ b0=>?_⟩;have b8:=fun i j x hi hj U A=>a3 i j x hi hj U A (by simp)
 obtain⟨tms,N,D,a2⟩:=h d G c5 ⟨w,fun j=>(J[j]?).getD undef,K,fun j c hc=>by
  have c3:=(qA.1 hc).1;have Z:=qB (show j<J.length by rw[b1];exact c3)
  simp only[Z,jV];exact(I j c _ hc Z).ro⟩ b0
 unfold z4a at a2;generalize y:({tm:=[],lo:=[],ro:=zeE own (d.flatMap AV.cvs) 0,stk:=[],nid:=(d.flatMap AV.cvs).length,ep:=0}:St)=st at a2;have a9:st.ro=zeE own (zF d) 0:=(by rw[<- y];rfl);have g:∀r R,zn st.ro r=some R->R.ep=none/\r<(zF d).length/\own[r]?=some R.own/\(zF d)[r]?=some (.s R.t R.l):=(by intro r R z;rw[a9]at z;obtain⟨_,t,l,B,_,_,h5,h6⟩:=zk6 own (zF d) 0 r R z;rw[h6]at h5 ⊢;simp only[vF]at B h5;exact⟨rfl,(qA.1 B).1,h5,B⟩);have T:∀l,zn st.lo l=none:=fun l=>(by rw[<- y];rfl);let E:Env:={ρ:=fun n=>(J[n]?).getD undef,φ:=K,β:=fun _=>0,κ:=w}
 let S0:zV:=fun b=>(∃j,j<(zF d).length/\zba own j/\K j b)\/b=w.heap.size
 have hS:Sim w S0 (fun n=>n<(zF d).length) st E #[] [] w:=by refine⟨⟨rfl,rfl,rfl,qY _,fun _ _ _=>rfl,fun r R z=>?_,fun r R z x q=>?_,fun r R z U=>?_,fun hz _ _ _ _ _ _=>absurd (.inr rfl) hz,fun r R r' R' z U b9 _ A x q=>?_,fun l cs Y=>?_,fun l l' cs d5 Y=>?_,fun l cs r R Y=>?_,fun r R e z X=>?_,rfl⟩,⟨fun n R L=>?_,fun n cs L=>?_,fun m F=>?_,fun f hf=>?_⟩,⟨?_,fun i m v F=>?_⟩,?_⟩;{obtain⟨_,H,B,h3⟩:=g r R (zbz z).1;have Z:=qB (show r<J.length by omega);show Rep R.own w ((J[r]?).getD undef) _ (K r);have:=I r _ _ h3 Z;rw[B] at this;rw[Z];exact this};{obtain⟨_,H,_,_⟩:=g r R (zbz z).1;exact a4 r x H q};{obtain⟨X,H,B,_⟩:=g r R (zbz z).1;refine⟨X,fun x q=>.inl (.inl ⟨r,H,?_,q⟩)⟩;show own[r]?=some true;rw[B,U]};{obtain⟨_,H,B,_⟩:=g r R (zbz z).1;obtain⟨_,a0,_,_⟩:=g r' R' (zbz b9).1;exact b8 r r' x H a0 (by show own[r]?=some true;rw[B,U]) A q};{rw [T]at Y;cases Y};{rw [T]at Y;cases Y};{rw [T]at Y;cases Y};{rw [(g r R z).1]at X;cases X};{exact(g n R L).2.1};{rw [T]at L;cases L};{rw [<- y]at F;simp at F};{rw [<- y]at hf;simp at hf};{rw [<- y];rfl};{rw [<- y]at F;simp at F};{rw [<- y];trivial}
 obtain⟨c1,c2⟩:=zgR (w:=w) (st:=st) (E:=E) d J 0 b1 (fun i c u hc Z=>by
  have V:=I i c u hc Z;refine⟨?_,V.one⟩;cases c with
  |i k n=>exact V.int_inv
  |b x=>exact V.bool_inv
  |s t l=>
   obtain⟨⟨a,b3,hv,_⟩,_⟩:=V.len;refine⟨⟨a,_,b3,hv⟩,fun R z=>?_⟩;have e:0+i=i:=by omega
   show some ((J[0+i]?).getD undef)=some u
   rw[e,Z];rfl)
 have d4:st.nid=(zF d).length:=by rw[<- y];rfl
 obtain⟨_,S⟩:=zkw hO (ziU hO (tms:=tms) (N:=N) D) f _ st _ G a2 w S0 _ E #[] [] w (zbX d J).toArray
  (fun v M=>M.os=w.os/\M.tape=w.tape/\M.output=w.output/\w.heap.size<=M.heap.size/\
   (∀b,b<w.heap.size->(∀j,j<(zF d).length->zba own j->¬ K j b)->M.heap[b]?=w.heap[b]?)/\
   ∃(ys:List Value) (Kr:Nat->zV),zdu true M (zF G) ys Kr/\v=zjV (zbX G ys)/\
    (∀i x,i<(zF G).length->Kr i x->x<M.heap.size/\((∃j,j<(zF d).length/\zba own j/\K j x)\/w.heap.size<=x))/\
    (∀i j x,i<(zF G).length->j<(zF G).length->i≠j->Kr i x->¬ Kr j x)/\
    (∀ja jr js,(none:Option (Nat×Nat×List (List Nat)))=some (ja,jr,js)->∀t l u,(zF d)[ja]?=some (.s t l)->J[ja]?=some u->∃l',(zF G)[jr]?=some (.s t l')/\ys[jr]?=some u/\
     ∀p v,zY w t u p=some v->js.any (fun c=>c.isPrefixOf (cols p))=false->zY M t u p=some v)) hS (fun n L h=>by omega)
  (by simp[c1]) (fun i m v F hv=>by
   rw[qP]at F;cases q:(zcV d 0)[i]? with
   |none=>rw[q]at F;cases F
   |some x=>rw[q]at F;cases F;exact c2 i x v q (by simpa using hv))
  (fun m F n L=>by
   obtain⟨x,q,rfl⟩:=jD.1 F;simp only[MV.ids,zbD,qO]at L;obtain⟨a,W,L⟩:=L;have:=(ze8 d 0 n x a q W L).2;omega)
  (fun U' d2 E' M d3 v c0 _ _ _ hv _ a7=>by
   obtain⟨us,rfl,c7,c8⟩:=zAv hv;obtain⟨O,ys,ks,hG,d0,d1,rfl,_⟩:=zix d3 [] G us a7 c7 c8;have Q:=c0.mem;have a8:∀i,i<(zF G).length->∃a,O[i]?=some a:=fun i hi=>⟨_,qB (by rw[<- hG.len];exact hi)⟩
   have a1:∀i x,cφ E' O i x->∃r∈ks,∃R,O[i]?=some (.sl r [])/\d2.root r=some R/\R.own=true/\E'.φ r x:=by intro i x q;obtain⟨a,W,q⟩:=zu0 q;obtain⟨r,V,rfl,c6⟩:=hG.fi W q;obtain⟨R,z,U⟩:=hG.own r V;exact⟨r,V,R,W,z,U,c6⟩
   refine⟨Q.os,Q.tape,Q.output,Q.size,fun b hb c4=>Q.keep b hb (fun h=>h.elim (fun⟨j,hj,U,hk⟩=>c4 j hj U hk) (fun h=>by omega)),ys,cφ E' O,⟨by rw[d0,hG.len],fun i c x hc q=>?_⟩,rfl,fun i x hi q=>?_,fun i j x hi hj A q c9=>?_,fun ja jr js h=>by cases h⟩
   .obtain⟨a,W⟩:=a8 i (qA.1 hc).1;rw[zhl W];exact hG.rep Q W hc (d1 i a x W q)
   .obtain⟨r,V,R,_,H,B,h4⟩:=a1 i x q;exact⟨Q.rlt r R H x h4,((Q.mine r R H B).2 x h4).elim (fun h=>h.imp (fun h=>h) (fun h=>kV h.symm)) .inr⟩
   .obtain⟨r,V,R,g1,H,B,h4⟩:=a1 i x q;obtain⟨r',d6,R',b5,a0,b6,b7⟩:=a1 j x c9;have:=Q.own_apart H B a0 b6 h4 b7;subst this;exact A (hG.inj i j r g1 b5))
 refine S.mono ?_;intro ex M X;cases ex with|returned v=>exact X|panicked b4=>exact X.elim|outgrown=>exact X.elim
theorem zl6 (hO:EngOk C){f:FuncId}{own:List Bool}{G jr:Nat}{js:List (List Nat)}{kt:Ty}{c7:List AV->Option (Bool×List AV)}(hf:FnOk C.P f)(b6:zh9 f=[[]])(h:∀(d:List AV) (O:List AV),own.length=(zF d).length->(∃(w:World) (A:Nat->Value) (K:Nat->zV),∀(j:Nat) (c:CV),(zF d)[j]?=some c->Rep false w (A j) c (K j))->c7 d=some (true,O)->(∃l,(zF d)[G]?=some (.s kt l))/\own[G]?=some true/\∃tms N D,zGR C tms N D f own G jr js kt d=some O)(H:own.isEmpty=false:=by rfl):zeh C.P f own (some (G,jr,js)) c7:=by
 refine zeh.of (by rintro rfl;cases H) ?_;intro al b5;rw[b6,qF]at b5;subst b5;refine⟨hf,fun w K d A O b0 e5 I b3 b2 _ c2=>?_⟩;have d2:=fun i j x hi hj ho H=>b2 i j x hi hj ho H (by simp)
 obtain⟨⟨kl,a1⟩,f8,tms,N,D,a8⟩:=h d O e5 ⟨w,fun j=>(A[j]?).getD undef,K,fun j c hc=>by
  have d8:=(qA.1 hc).1;have hu:=qB (show j<A.length by rw[b0];exact d8)
  simp only[hu,jV];exact(I j c _ hc hu).ro⟩ c2
 unfold zGR at a8;have c0:G<(zF d).length:=(qA.1 a1).1;have d5:G<A.length:=(by rw[b0];exact c0);have a9:=qB d5;generalize B:({tm:=[.v (.at (.kp G js kt))],lo:=[],ro:=zeE own (d.flatMap AV.cvs) 0,stk:=[],nid:=(d.flatMap AV.cvs).length,ep:=0}:St)=st at a8;have c1:st.ro=zeE own (zF d) 0:=(by rw[<- B];rfl);have g:∀r R,zn st.ro r=some R->R.ep=none/\r<(zF d).length/\own[r]?=some R.own/\(zF d)[r]?=some (.s R.t R.l):=(by intro r R z;rw[c1]at z;obtain⟨_,t,l,L,_,_,h5,h6⟩:=zk6 own (zF d) 0 r R z;rw[h6]at h5 ⊢;simp only[vF]at L h5;exact⟨rfl,(qA.1 L).1,h5,L⟩);have a2:∀l,zn st.lo l=none:=fun l=>(by rw[<- B];rfl);let E:Env:={ρ:=fun n=>(A[n]?).getD undef,φ:=K,β:=fun _=>0,κ:=w}
 let S0:zV:=fun b=>(∃j,j<(zF d).length/\zba own j/\K j b)\/b=w.heap.size
 have hS:Sim w S0 (fun n=>n<(zF d).length) st E #[A[G]] [] w:=by refine⟨⟨rfl,rfl,rfl,qY _,fun _ _ _=>rfl,fun r R z=>?_,fun r R z x y=>?_,fun r R z ho=>?_,fun hz _ _ _ _ _ _=>absurd (.inr rfl) hz,fun r R r' R' z ho d3 _ H x y=>?_,fun l cs hl=>?_,fun l l' cs f7 hl=>?_,fun l cs r R hl=>?_,fun r R e z W=>?_,rfl⟩,⟨fun n R M=>?_,fun n cs M=>?_,fun m F=>?_,fun f hf=>?_⟩,⟨?_,fun i m v F X=>?_⟩,?_⟩;{obtain⟨_,T,L,h3⟩:=g r R (zbz z).1;have hu:=qB (show r<A.length by omega);show Rep R.own w ((A[r]?).getD undef) _ (K r);have:=I r _ _ h3 hu;rw[L] at this;rw[hu];exact this};{obtain⟨_,T,_,_⟩:=g r R (zbz z).1;exact b3 r x T y};{obtain⟨W,T,L,_⟩:=g r R (zbz z).1;refine⟨W,fun x y=>.inl (.inl ⟨r,T,?_,y⟩)⟩;show own[r]?=some true;rw[L,ho]};{obtain⟨_,T,L,_⟩:=g r R (zbz z).1;obtain⟨_,a6,_,_⟩:=g r' R' (zbz d3).1;exact d2 r r' x T a6 (by show own[r]?=some true;rw[L,ho]) H y};{rw [a2]at hl;cases hl};{rw [a2]at hl;cases hl};{rw [a2]at hl;cases hl};{rw [(g r R z).1]at W;cases W};{exact(g n R M).2.1};{rw [a2]at M;cases M};{rw [<- B]at F;simp only[qF]at F;subst F;intro n M;simp only[MV.ids,zbD,zT,j4,uB,At.ids,zbm,zbs,jC,qF]at M;subst M;exact c0};{rw [<- B]at hf;simp at hf};{rw [<- B];rfl};{rw [<- B]at F;cases i with|succ i=>simp at F|zero=>simp only[qI,qC]at F X;subst F;have X:A[G]=v:=(by simpa using X);subst X;have U:=I G _ _ a1 a9;obtain⟨⟨a,a5,f2,_⟩,_⟩:=U.len;refine⟨⟨a,_,a5,f2⟩,fun R z=>?_⟩;obtain⟨_,_,_,h4⟩:=g G R (zbz z).1;rw[a1]at h4;cases h4;refine⟨rfl,?_,fun p u hp _=>hp⟩;show (A[G]?).getD undef=A[G];rw[a9];rfl};{rw [<- B];trivial}
 obtain⟨d6,d7⟩:=zgR (w:=w) (st:=st) (E:=E) d A 0 b0 (fun i c u hc hu=>by
  have U:=I i c u hc hu;refine⟨?_,U.one⟩;cases c with
  |i k n=>exact U.int_inv
  |b x=>exact U.bool_inv
  |s t l=>
   obtain⟨⟨a,a5,X,_⟩,_⟩:=U.len;refine⟨⟨a,_,a5,X⟩,fun R z=>?_⟩;have e:0+i=i:=by omega
   show some ((A[0+i]?).getD undef)=some u
   rw[e,hu];rfl)
 have f6:st.nid=(zF d).length:=by rw[<- B];rfl
 obtain⟨_,Z⟩:=zkw hO (ziU hO (tms:=tms) (N:=N) D) f _ st _ O a8 w S0 _ E #[A[G]] [] w (zbX d A).toArray
  (fun v Y=>Y.os=w.os/\Y.tape=w.tape/\Y.output=w.output/\w.heap.size<=Y.heap.size/\
   (∀b,b<w.heap.size->(∀j,j<(zF d).length->zba own j->¬ K j b)->Y.heap[b]?=w.heap[b]?)/\
   ∃(ys:List Value) (Kr:Nat->zV),zdu true Y (zF O) ys Kr/\v=zjV (zbX O ys)/\
    (∀i x,i<(zF O).length->Kr i x->x<Y.heap.size/\((∃j,j<(zF d).length/\zba own j/\K j x)\/w.heap.size<=x))/\
    (∀i j x,i<(zF O).length->j<(zF O).length->i≠j->Kr i x->¬ Kr j x)/\
    (∀a3 a4 b1,some (G,jr,js)=some (a3,a4,b1)->∀t l u,(zF d)[a3]?=some (.s t l)->A[a3]?=some u->∃l',(zF O)[a4]?=some (.s t l')/\ys[a4]?=some u/\
     ∀p v,zY w t u p=some v->b1.any (fun c=>c.isPrefixOf (cols p))=false->zY Y t u p=some v)) hS (fun n M h=>by omega)
  (by simp[d6]) (fun i m v F X=>by
   rw[qP]at F;cases y:(zcV d 0)[i]? with
   |none=>rw[y]at F;cases F
   |some x=>rw[y]at F;cases F;exact d7 i x v y (by simpa using X))
  (fun m F n M=>by
   obtain⟨x,y,rfl⟩:=jD.1 F;simp only[MV.ids,zbD,qO]at M;obtain⟨a,Q,M⟩:=M;have:=(ze8 d 0 n x a y Q M).2;omega)
  (fun U' f4 E' Y f5 v b4 _ _ _ X _ q=>by
   obtain⟨us,rfl,f0,f1⟩:=zAv X;split at q
   rotate_left
   .cases q
   rename_i n J t' m e8 e6;cases a0:(Nat.beq n m&&(J==js&&decide (t'=kt))) with
   |false=>rw[a0]at q;cases q
   |true=>
   rw[a0]at q;simp only[cond_true]at q;simp only[qE,kL,qL,q0]at a0;obtain⟨e0,hJ,ht⟩:=a0;subst e0 hJ ht;obtain⟨S,ys,ks,hG,c4,c6,rfl,_,b7⟩:=zix f5 [] O us q f0 f1;have V:=b4.mem;have b9:∀i,i<(zF O).length->∃a,S[i]?=some a:=fun i hi=>⟨_,qB (by rw[<- hG.len];exact hi)⟩
   have a7:∀i x,cφ E' S i x->∃r∈ks,∃R,S[i]?=some (.sl r [])/\f4.root r=some R/\R.own=true/\E'.φ r x:=by intro i x y;obtain⟨a,Q,y⟩:=zu0 y;obtain⟨r,U,rfl,e7⟩:=hG.fi Q y;obtain⟨R,z,ho⟩:=hG.own r U;exact⟨r,U,R,Q,z,ho,e7⟩
   refine⟨V.os,V.tape,V.output,V.size,fun b hb d9=>V.keep b hb (fun h=>h.elim (fun⟨j,hj,ho,hk⟩=>d9 j hj ho hk) (fun h=>by omega)),ys,cφ E' S,⟨by rw[c4,hG.len],fun i c x hc y=>?_⟩,rfl,fun i x hi y=>?_,fun i j x hi hj H y f3=>?_,fun a3 a4 b1 W t l u b8 c3=>?_⟩
   .obtain⟨a,Q⟩:=b9 i (qA.1 hc).1;rw[zhl Q];exact hG.rep V Q hc (c6 i a x Q y)
   .obtain⟨r,U,R,_,T,L,h4⟩:=a7 i x y;exact⟨V.rlt r R T x h4,((V.mine r R T L).2 x h4).elim (fun h=>h.imp (fun h=>h) (fun h=>kV h.symm)) .inr⟩
   .obtain⟨r,U,R,g1,T,L,h4⟩:=a7 i x y;obtain⟨r',f9,R',c9,a6,d0,d1⟩:=a7 j x f3;have:=V.own_apart T L a6 d0 h4 d1;subst this;exact H (hG.inj i j r g1 c9)
   .cases W;rw[a1]at b8;cases b8;rw[a9]at c3;cases c3;have Q:S[jr]?=some (.sl n []):=by rw[b7];exact e6
    rcases hG.get jr _ Q with⟨_,_,h,_⟩|⟨_,h,_⟩|⟨r,R,h,z,_,d4⟩
    .cases h
    .cases h
    .cases h;have e9:=b4.tm.2 0 (.v (.at (.kp n J t'))) A[G] (by rw[e8];rfl) (by simp)
     obtain⟨e1,e2,e3⟩:=e9.2 R z;have c5:jr<ys.length:=by rw[c4];exact(qA.1 Q).1
     have hy:=qB c5;have e4:=(c6 jr _ _ Q hy).2 R z;simp only[zY,qC] at e4;refine⟨e1 ▸ R.l,?_,by rw[hy,<- e4,e2],?_⟩
     .rw [d4];cases e1;rfl
     .rw [V.κ] at e3;exact e3)
 refine Z.mono ?_;intro ex Y W;cases ex with|returned v=>exact W|panicked c8=>exact W.elim|outgrown=>exact W.elim
def zWu (b:List (Nat×Nat)):At->At
 |.sl r []=>match b.find? (fun x=>Nat.beq x.1 r) with
  |some x=>.sl x.2 []
  |none=>.sl r []
 |a=>a
def zV4 (C:Cfg)(tms:FuncId->Nat->Option Tmpl)(N D:Nat)(f:FuncId)(own:List Bool)(b:List (Nat×Nat))(e g:Nat)(c:List (List Nat))(t:Ty)(a:List AV):Option Ans :=
 zwD C tms N (zsm C tms N D) f (((zcV a 0).map .v).map (zjO (zWu b))) {tm:=[.v (.at (.kp e c t))],lo:=[],ro:=(zeE own (a.flatMap AV.cvs) 0).filter (fun x=>!b.any (fun y=>Nat.beq y.1 x.1)),stk:=[],nid:=(a.flatMap AV.cvs).length,ep:=0} fun d st=>
  match st.tm,(d.flatMap zT)[g]? with
  |[.v (.at (.kp n J h))],some (.sl m [])=>cond (Nat.beq n m&&(J==c&&decide (h=t))) (zrn st d []) none
  |_,_=>none
def zZb (a:At):Prop:=(∃k n,a = .i k n)\/(∃b,a = .b b)\/∃r,a = .sl r []
theorem zt3:∀(c:List CV) (id:Nat) (a:At),a∈zgS c id->zZb a
 |[],_,_,h=>by simp[zgS]at h
 |.i k n::c,id,a,h=>by simp only[zgS,qG]at h;rcases h with rfl|h;{exact .inl ⟨k,n,rfl⟩};{exact zt3 c (id+1) a h}
 |.b x::c,id,a,h=>by simp only[zgS,qG]at h;rcases h with rfl|h;{exact .inr (.inl ⟨x,rfl⟩)};{exact zt3 c (id+1) a h}
 |.s t l::c,id,a,h=>by simp only[zgS,qG]at h;rcases h with rfl|h;{exact .inr (.inr ⟨id,rfl⟩)};{exact zt3 c (id+1) a h}
theorem zyo:∀(e:List AV) (id:Nat) (x:TV) (a:At),x∈zcV e id->a∈zT x->zZb a
 |[],_,_,_,h,_=>by simp[zcV]at h
 |.one c::e,id,x,a,h,d=>by simp only[zcV,qG]at h;rcases h with rfl|h;{simp only [zT,qF]at d;subst d;cases c with|i k n=>exact .inl ⟨k,n,rfl⟩|b x=>exact .inr (.inl ⟨x,rfl⟩)|s t l=>exact .inr (.inr ⟨id,rfl⟩)};{exact zyo e (id+1) x a h d}
 |.agg f::e,id,x,a,h,d=>by simp only[zcV,qG]at h;rcases h with rfl|h;{exact zt3 f id a d};{exact zyo e (id+f.length) x a h d}
theorem zbdH {w1:World}{st1:St}{E1:Env}{w:World}{st:St}{E:Env}{f:At->At}{P:At->Prop}(T:∀a v,P a->VA w st E a v->VA w1 st1 E1 (f a) v){x:TV}{v:Value}(g:∀a∈zT x,P a)(h:VT w st E x v):VT w1 st1 E1 (zrF f x) v:=by rcases x with a|l;{exact T a v (g a (by simp[zT])) h};{obtain⟨n,k,m,e⟩:=h;refine⟨n,k,by simp[m],fun j a u c i=>?_⟩;rw[qP]at c;cases d:l[j]? with|none=>rw[d]at c;cases c|some b=>rw[d]at c;cases c;exact⟨(e j b u d i).1,T _ _ (g b (by simp only[zT];exact qK d)) (e j b u d i).2⟩}
theorem z8M {b:List (Nat×Nat)}{a:At}{n:Nat}(h:n∈(zWu b a).ids):n∈a.ids\/∃r,(r,n)∈b:=by unfold zWu at h;split at h;{split at h;{rename_i r x c;simp only[At.ids,zbm,zbs,jC,qF]at h;subst h;exact .inr ⟨x.1,uJ c⟩};{exact .inl h}};{exact .inl h}
theorem zrm {d:Type}(q:Nat->Bool):∀(l:List (Nat×d)) (n:Nat) (x:d),zn (l.filter (fun y=>q y.1)) n=some x->q n=true/\zn l n=some x
 |[],_,_,h=>by simp[zn]at h
 |(k,v)::l,n,x,h=>by cases b:q k with|false=>rw[List.filter_cons_of_neg (by simp[b])]at h;obtain⟨c,e⟩:=zrm q l n x h;refine⟨c,?_⟩;simp only[zn];(cases a:k==n with|false=>exact e|true=>have:k=n:=(by simpa using a);subst this;rw[b]at c;cases c)|true=>rw[List.filter_cons_of_pos (by simp[b])]at h;simp only[zn]at h ⊢;(cases a:k==n with|false=>rw[a]at h;exact zrm q l n x (by simpa using h)|true=>rw[a]at h;have:k=n:=(by simpa using a);subst this;exact⟨b,by simpa using h⟩)
theorem zQf (hO:EngOk C){f:FuncId}{own:List Bool}{M jr:Nat}{js:List (List Nat)}{kt:Ty}{d0:List AV->Option (Bool×List AV)}(hf:FnOk C.P f)(h:∀(W:List (Nat×Nat)) (d:List AV) (V:List AV),W∈zh9 f->(∀j i,(j,i)∈W->(zF d)[j]?=(zF d)[i]?)->own.length=(zF d).length->(∃(w:World) (B:Nat->Value) (K:Nat->zV),∀(j:Nat) (c:CV),(zF d)[j]?=some c->Rep false w (B j) c (K j))->d0 d=some (true,V)->(∃l,(zF d)[M]?=some (.s kt l))/\own[M]?=some true/\∃tms N D,zV4 C tms N D f own W M jr js kt d=some V)(Z:own.isEmpty=false:=by rfl):zeh C.P f own (some (M,jr,js)) d0:=by
 refine zeh.of (by rintro rfl;cases Z) ?_
 intro W d5;refine⟨hf,fun w K d B V b2 f1 S b6 b5 Y c4=>?_⟩;obtain⟨⟨kl,a2⟩,g7,tms,N,D,b0⟩:=h W d V d5 (fun j i d8=>(Y j i d8).2.2.2.1) f1 ⟨w,fun j=>(B[j]?).getD undef,K,fun j c hc=>by
  have e6:=(qA.1 hc).1;have hu:=qB (show j<B.length by rw[b2];exact e6)
  simp only[hu,jV];exact(S j c _ hc hu).ro⟩ c4
 unfold zV4 at b0;have c2:M<(zF d).length:=(qA.1 a2).1;have d9:M<B.length:=(by rw[b2];exact c2);have b1:=qB d9;generalize H:({tm:=[.v (.at (.kp M js kt))],lo:=[],ro:=(zeE own (d.flatMap AV.cvs) 0).filter (fun x=>!W.any (fun y=>Nat.beq y.1 x.1)),stk:=[],nid:=(d.flatMap AV.cvs).length,ep:=0}:St)=st at b0;have a6:st.ro=(zeE own (zF d) 0).filter (fun x=>!W.any (fun y=>Nat.beq y.1 x.1)):=(by rw[<- H];rfl);have e8:∀r R,zn st.ro r=some R->∀i,(r,i)∉W:=(by intro r R z i hi;rw[a6]at z;have:=(zrm (fun n=>!W.any (fun y=>Nat.beq y.1 n)) _ r R z).1;simp only[jE,kM] at this;exact this _ hi (Nat.beq_refl r));have g:∀r R,zn st.ro r=some R->R.ep=none/\r<(zF d).length/\own[r]?=some R.own/\(zF d)[r]?=some (.s R.t R.l):=(by intro r R z;rw[a6]at z;obtain⟨_,t,l,F,_,_,h5,h6⟩:=zk6 own (zF d) 0 r R (zrm (fun n=>!W.any (fun y=>Nat.beq y.1 n)) _ r R z).2;rw[h6]at h5 ⊢;simp only[vF]at F h5;exact⟨rfl,(qA.1 F).1,h5,F⟩);have a3:∀l,zn st.lo l=none:=fun l=>(by rw[<- H];rfl);let E:Env:={ρ:=fun n=>(B[n]?).getD undef,φ:=K,β:=fun _=>0,κ:=w}
 let S0:zV:=fun b=>(∃j,j<(zF d).length/\zba own j/\K j b)\/b=w.heap.size
 have hS:Sim w S0 (fun n=>n<(zF d).length) st E #[B[M]] [] w:=(by refine⟨⟨rfl,rfl,rfl,qY _,fun _ _ _=>rfl,fun r R z=>?_,fun r R z x q=>?_,fun r R z ho=>?_,fun hz _ _ _ _ _ _=>absurd (.inr rfl) hz,fun r R r' R' z ho b7 _ Z x q=>?_,fun l cs hl=>?_,fun l l' cs g6 hl=>?_,fun l cs r R hl=>?_,fun r R e z U=>?_,rfl⟩,⟨fun n R O=>?_,fun n cs O=>?_,fun m G=>?_,fun f hf=>?_⟩,⟨?_,fun i m v G L=>?_⟩,?_⟩;{obtain⟨_,T,F,h3⟩:=g r R (zbz z).1;have hu:=qB (show r<B.length by omega);show Rep R.own w ((B[r]?).getD undef) _ (K r);have:=S r _ _ h3 hu;rw[F] at this;rw[hu];exact this};{obtain⟨_,T,_,_⟩:=g r R (zbz z).1;exact b6 r x T q};{obtain⟨U,T,F,_⟩:=g r R (zbz z).1;refine⟨U,fun x q=>.inl (.inl ⟨r,T,?_,q⟩)⟩;show own[r]?=some true;rw[F,ho]};{obtain⟨_,T,F,_⟩:=g r R (zbz z).1;obtain⟨_,a8,_,_⟩:=g r' R' (zbz b7).1;exact b5 r r' x T a8 (by show own[r]?=some true;rw[F,ho]) Z (e8 r' R' (zbz b7).1 r) q};{rw [a3]at hl;cases hl};{rw [a3]at hl;cases hl};{rw [a3]at hl;cases hl};{rw [(g r R z).1]at U;cases U};{exact(g n R O).2.1};{rw [a3]at O;cases O};{rw [<- H]at G;simp only[qF]at G;subst G;intro n O;simp only[MV.ids,zbD,zT,j4,uB,At.ids,zbm,zbs,jC,qF]at O;subst O;exact c2};{rw [<- H]at hf;simp at hf};{rw [<- H];rfl};{rw [<- H]at G;cases i with|succ i=>simp at G|zero=>simp only[qI,qC]at G L;subst G;have L:B[M]=v:=(by simpa using L);subst L;have Q:=S M _ _ a2 b1;obtain⟨⟨a,a7,f9,_⟩,_⟩:=Q.len;refine⟨⟨a,_,a7,f9⟩,fun R z=>?_⟩;obtain⟨_,_,_,h4⟩:=g M R (zbz z).1;rw[a2]at h4;cases h4;refine⟨rfl,?_,fun p u hp _=>hp⟩;show (B[M]?).getD undef=B[M];rw[b1];rfl};{rw [<- H];trivial});let b4:St:={st with ro:=(List.range (zF d).length).map (fun r=>(r,(⟨.int,[],false,none⟩:Root))),ep:=0}
 have c5:∀r,r<(zF d).length->b4.root r=some ⟨.int,[],false,none⟩:=by intro r Q;have:∀(n k:Nat),k<=r->r<k+n->zn ((List.range' k n).map (fun r=>(r,(⟨.int,[],false,none⟩:Root)))) r=some ⟨.int,[],false,none⟩:=(by intro n;induction n with|zero=>intro k T F;omega|succ n ih=>intro k T F;simp only[vD,jB,zn];by_cases U:k=r;{subst U;simp};{have hb:(k==r)=false:=(by simpa using U);simp only[hb,j9,if_false];exact ih (k+1) (by omega) (by omega)});have F:=this (zF d).length 0 (jZ _) (by omega);rw[<- List.range_eq_range']at F;exact zhs F (.inl rfl)
 obtain⟨e0,e5⟩:=zgR (w:=w) (st:=b4) (E:=E) d B 0 b2 (fun i c u hc hu=>by
  have Q:=S i c u hc hu;refine⟨?_,Q.one⟩;cases c with
  |i k n=>exact Q.int_inv
  |b x=>exact Q.bool_inv
  |s t l=>
   obtain⟨⟨a,a7,L,_⟩,_⟩:=Q.len;refine⟨⟨a,_,a7,L⟩,fun R z=>?_⟩;have e:0+i=i:=by omega
   show some ((B[0+i]?).getD undef)=some u
   rw[e,hu];rfl)
 have hT:∀a v,(zZb a/\∀n∈a.ids,n<(zF d).length)->VA w b4 E a v->VA w st E (zWu W a) v:=(by intro a v ⟨f2,d7⟩ L;have c3:∀r,∀i,(r,i)∈W->E.ρ i=E.ρ r:=(by intro r i hi;show (B[i]?).getD undef=(B[r]?).getD undef;rw[(Y r i hi).2.2.1]);rcases f2 with⟨k,n,rfl⟩|⟨b,rfl⟩|⟨r,rfl⟩;{exact L};{exact L};{have Q:r<(zF d).length:=d7 r (by simp[At.ids,zbm]);have e1:=L.2 _ (c5 r Q);simp only[zY,qC] at e1;simp only[zWu];split;{rename_i x q;have G:=uJ q;have g2:x.1=r:=kH (by simpa using List.find?_some q);subst g2;refine⟨L.1,fun R _=>?_⟩;simp only[zY,qC];rw[c3 x.1 x.2 G];exact e1};{refine⟨L.1,fun R _=>?_⟩;simp only[zY,qC];exact e1}});have g5:st.nid=(zF d).length:=by rw[<- H];rfl
 obtain⟨_,a0⟩:=zkw hO (ziU hO (tms:=tms) (N:=N) D) f _ st _ V b0 w S0 _ E #[B[M]] [] w (zbX d B).toArray
  (fun v w'=>w'.os=w.os/\w'.tape=w.tape/\w'.output=w.output/\w.heap.size<=w'.heap.size/\
   (∀b,b<w.heap.size->(∀j,j<(zF d).length->zba own j->¬ K j b)->w'.heap[b]?=w.heap[b]?)/\
   ∃(ys:List Value) (Kr:Nat->zV),zdu true w' (zF V) ys Kr/\v=zjV (zbX V ys)/\
    (∀i x,i<(zF V).length->Kr i x->x<w'.heap.size/\((∃j,j<(zF d).length/\zba own j/\K j x)\/w.heap.size<=x))/\
    (∀i j x,i<(zF V).length->j<(zF V).length->i≠j->Kr i x->¬ Kr j x)/\
    (∀a4 a5 b3,some (M,jr,js)=some (a4,a5,b3)->∀t l u,(zF d)[a4]?=some (.s t l)->B[a4]?=some u->∃l',(zF V)[a5]?=some (.s t l')/\ys[a5]?=some u/\
     ∀p v,zY w t u p=some v->b3.any (fun c=>c.isPrefixOf (cols p))=false->zY w' t u p=some v)) hS (fun n O h=>by omega)
  (by simp[e0]) (fun i m v G L=>by
   rw[qP,qP]at G;cases q:(zcV d 0)[i]? with
   |none=>rw[q]at G;cases G
   |some x=>
    rw[q]at G;cases G;exact zbdH hT (fun a I=>⟨zyo d 0 x a (qK q) I,fun n O=>by
     have:=(ze8 d 0 n x a (qK q) I O).2;omega⟩) (e5 i x v q (by simpa using L)))
  (fun m G n O=>by
   obtain⟨m0,e7,rfl⟩:=jD.1 G;obtain⟨x,q,rfl⟩:=jD.1 e7;obtain⟨a,I,O⟩:=zTI O;simp only[zbD]at I;rcases z8M O with h|⟨r,h⟩
   .have:=(ze8 d 0 n x a q I h).2;omega
   .obtain⟨_,_,_,_,t,l,h5⟩:=Y r n h;exact(qA.1 h5).1)
  (fun U' g3 E' w' g4 v b8 _ _ _ L _ A=>by
   obtain⟨us,rfl,f7,f8⟩:=zAv L;split at A
   rotate_left
   .cases A
   rename_i n J t' m f5 f3;cases a1:(Nat.beq n m&&(J==js&&decide (t'=kt))) with
   |false=>rw[a1]at A;cases A
   |true=>
   rw[a1]at A;simp only[cond_true]at A;simp only[qE,kL,qL,q0]at a1;obtain⟨f0,hJ,ht⟩:=a1;subst f0 hJ ht;obtain⟨X,ys,ks,hG,c7,c9,rfl,_,b9⟩:=zix g4 [] V us A f7 f8;have hM:=b8.mem;have c1:∀i,i<(zF V).length->∃a,X[i]?=some a:=fun i hi=>⟨_,qB (by rw[<- hG.len];exact hi)⟩
   have a9:∀i x,cφ E' X i x->∃r∈ks,∃R,X[i]?=some (.sl r [])/\g3.root r=some R/\R.own=true/\E'.φ r x:=by intro i x q;obtain⟨a,I,q⟩:=zu0 q;obtain⟨r,Q,rfl,f4⟩:=hG.fi I q;obtain⟨R,z,ho⟩:=hG.own r Q;exact⟨r,Q,R,I,z,ho,f4⟩
   refine⟨hM.os,hM.tape,hM.output,hM.size,fun b hb e9=>hM.keep b hb (fun h=>h.elim (fun⟨j,hj,ho,hk⟩=>e9 j hj ho hk) (fun h=>by omega)),ys,cφ E' X,⟨by rw[c7,hG.len],fun i c x hc q=>?_⟩,rfl,fun i x hi q=>?_,fun i j x hi hj Z q g0=>?_,fun a4 a5 b3 U t l u c0 c6=>?_⟩
   .obtain⟨a,I⟩:=c1 i (qA.1 hc).1;rw[zhl I];exact hG.rep hM I hc (c9 i a x I q)
   .obtain⟨r,Q,R,_,T,F,h4⟩:=a9 i x q;exact⟨hM.rlt r R T x h4,((hM.mine r R T F).2 x h4).elim (fun h=>h.imp (fun h=>h) (fun h=>kV h.symm)) .inr⟩
   .obtain⟨r,Q,R,g1,T,F,h4⟩:=a9 i x q;obtain⟨r',g8,R',d2,a8,d3,d4⟩:=a9 j x g0;have:=hM.own_apart T F a8 d3 h4 d4;subst this;exact Z (hG.inj i j r g1 d2)
   .cases U;rw[a2]at c0;cases c0;rw[b1]at c6;cases c6;have I:X[jr]?=some (.sl n []):=by rw[b9];exact f3
    rcases hG.get jr _ I with⟨_,_,h,_⟩|⟨_,h,_⟩|⟨r,R,h,z,_,d6⟩
    .cases h
    .cases h
    .cases h;have f6:=b8.tm.2 0 (.v (.at (.kp n J t'))) B[M] (by rw[f5];rfl) (by simp)
     obtain⟨e1,e2,e3⟩:=f6.2 R z;have c8:jr<ys.length:=by rw[c7];exact(qA.1 I).1
     have hy:=qB c8;have e4:=(c9 jr _ _ I hy).2 R z;simp only[zY,qC] at e4;refine⟨e1 ▸ R.l,?_,by rw[hy,<- e4,e2],?_⟩
     .rw [d6];cases e1;rfl
     .rw [hM.κ] at e3;exact e3)
 refine a0.mono ?_;intro ex w' U;cases ex with|returned v=>exact U|panicked d1=>exact U.elim|outgrown=>exact U.elim
end
def zbi (h:Host):List CV:=[.s (.sl .int) h.Memory,.s .mon h.Mons,.s .entry h.Buffer,.s .entry h.IoBuffer]
def zoM (c:Ctl):List CV:=[.i .i64 c.Traps,.i .i64 c.Post,.b c.Open]
def zee (e:GExit):List CV:=[.i .i64 e.Kind,.i .i64 e.Page,.b e.Write,.i .i64 e.N]
structure Cur where
 b:List Int
 i:Int
 h:Int
def zb0 (c:Cur):List CV:=[.s .u8 c.b,.i .i64 c.i,.i .i64 c.h]
def zx:List (Nat×Nat×Tmpl)->FuncId->Nat->Option Tmpl
 |[],_,_=>none
 |(g,c,T)::r,f,b=>cond (Nat.beq g f) (cond (Nat.beq c b) (some T) (zx r f b)) (zx r f b)
def pc (p:Prop):Bool:=@decide p (Classical.propDecidable p)
theorem zN {p:Prop}:pc p=true↔p:=by unfold pc;exact @decide_eq_true_iff p (Classical.propDecidable p)
theorem zby {p:Prop}(h:p):pc p=true:=zN.2 h
inductive CVB (K:Nat):CV->Prop
 |i (k:IntKind) (n:Int):CVB K (.i k n)
 |b (x:Bool):CVB K (.b x)
 |s (t:Ty) (l:List t.den) (hl:l.length<=K) (h:∀x∈l,∀c∈t.cells x,CVB K c):CVB K (.s t l)
theorem CVB.inv {K:Nat}{t:Ty}{l:List t.den}(h:CVB K (.s t l)):l.length<=K/\∀x∈l,∀c∈t.cells x,CVB K c:=by cases h with|s _ _ a h=>exact⟨a,h⟩
theorem CVB.len {K:Nat}{t:Ty}{l:List t.den}(h:CVB K (.s t l)):l.length<=K:=h.inv.1
theorem CVB.mono {K L:Nat}(a:K<=L){c:CV}(h:CVB K c):CVB L c:=by induction h with|i k n=>exact .i k n|b x=>exact .b x|s t l d h e=>exact .s t l (qU d a) e
theorem CVB.of_rep {o:Bool}{w:World}{v:Value}{c:CV}{S:zV}(h:Rep o w v c S):CVB big c:=by
 induction h with
 |i k n S=>exact .i k n
 |b x S=>exact .b x
 |nil t S=>exact .s t [] (jZ _) (fun x h=>by cases h)
 |void t a S I=>exact .s t [] (jZ _) (fun x h=>by cases h)
 |sl t l b D r q e E V K S G u d g A F p m J H C=>refine .s t l d (fun x B c f=>?_);obtain⟨i,y⟩:=qT.1 B;obtain⟨j,z⟩:=qT.1 f;exact C i x y j c z
theorem CVB.of_ok {c:CV}(h:CVOk c):CVB big c:=by induction h with|i k n _=>exact .i k n|b x=>exact .b x|s t l f h m=>refine .s t l f (fun x g c a=>?_);obtain⟨i,d⟩:=qT.1 g;obtain⟨j,e⟩:=qT.1 a;exact m i x d j c e
def zcE (K:Nat)(a:List AV):Prop:=∀c∈zF a,CVB K c
theorem zdi {K:Nat}{a:AV}{b:List AV}(h:zcE K (a::b)):(∀c∈a.cvs,CVB K c)/\zcE K b:=by unfold zcE zF at *;simp only[j4,jG]at h;exact⟨fun c d=>h c (.inl d),fun c d=>h c (.inr d)⟩
theorem z0u {a:List AV}(h:∃w e,zdu false w (zF a) e (fun _ b=>b<w.heap.size)):zcE big a:=by obtain⟨w,e,g,j⟩:=h;intro c k;obtain⟨i,f⟩:=qT.1 k;have d:i<e.length:=(by rw[g];exact(qA.1 f).1);exact CVB.of_rep (j i c _ f (qB d))
theorem zk5 {b:List CV}{a:List AV}(h:∃(w:World) (f:Nat->Value) (K:Nat->zV),∀(j:Nat) (c:CV),(b++zF a)[j]?=some c->Rep false w (f j) c (K j)):zcE big (.agg b::a):=by obtain⟨w,f,K,h⟩:=h;intro c d;have e:zF (AV.agg b::a)=b++zF a:=(by simp[zF,AV.cvs]);rw[e]at d;obtain⟨j,g⟩:=qT.1 d;exact CVB.of_rep (h j c g)
theorem znr {b c:Bool}{x y:List CV}{z u:List AV}(h:some (b,x,z)=some (c,y,u)):b=c/\y=x/\u=z:=by cases h;exact⟨rfl,rfl,rfl⟩
theorem zd7 {b c:Bool}{x y:List AV}(h:some (b,x)=some (c,y)):b=c/\y=x:=by cases h;exact⟨rfl,rfl⟩
abbrev zbb:=List (Nat×(List AV->Option (Bool×List AV)))
def z3H:zbb:=[]
theorem zfX:∀f a,zn z3H f=some a->Holds Tryz.prog f a:=fun f a h=>by cases h
abbrev zM (l:zbb):Prop:=∀f a,zn l f=some a->Holds Tryz.prog f a
abbrev vL:=Holds Tryz.prog
theorem zi {l:zbb}{f:Nat}{a:List AV->Option (Bool×List AV)}(h:vL f a)(b:zM l):zM ((f,a)::l):=by intro g r hg;unfold zn at hg;split at hg;{rename_i e;cases hg;rw[<- qL.1 e];exact h};{exact b g r hg}
abbrev zgZ:=List (Nat×(CV->Int->Option (Bool×CV×Int)))
def z95:zgZ:=[]
abbrev zfs (m:zgZ):Prop:=∀f a,zn m f=some a->zMQ Tryz.prog f a
theorem zbg:zfs z95:=fun f a h=>by cases h
abbrev zcN:=List (Nat×(List Bool×(List CV->List AV->Option (Bool×List CV×List AV))))
def zLu:zcN:=[]
abbrev zb2 (p:zcN):Prop:=∀f own a,zn p f=some (own,a)->zbP Tryz.prog f own a
theorem zA:zb2 zLu:=fun f own a h=>by cases h
theorem zcs {l m:zcN}(c:∀f own a,zn m f=some (own,a)->zbP Tryz.prog f own a)(b:∀x∈l,zbP Tryz.prog x.1 x.2.1 x.2.2):∀f own a,zn (l++m) f=some (own,a)->zbP Tryz.prog f own a:=by intro f own a h;rw[zbQ]at h;split at h;{rename_i y d;cases h;exact b _ (znJ d)};{exact c f own a h}
abbrev zfh:=List (Nat×(List Bool×Option (Nat×Nat×List (List Nat))×(List AV->Option (Bool×List AV))))
def zZS:zfh:=[]
abbrev zec (t:zfh):Prop:=∀f own a b,zn t f=some (own,a,b)->zeh Tryz.prog f own a b
theorem zo:zec zZS:=fun f own a b h=>by cases h
theorem zre {l m:zfh}(d:∀f own a b,zn m f=some (own,a,b)->zeh Tryz.prog f own a b)(c:∀x∈l,zeh Tryz.prog x.1 x.2.1 x.2.2.1 x.2.2.2):∀f own a b,zn (l++m) f=some (own,a,b)->zeh Tryz.prog f own a b:=by intro f own a b h;rw[zbQ]at h;split at h;{rename_i y e;cases h;exact c _ (znJ e)};{exact d f own a b h}
abbrev cQ (c:zbb)(m:zgZ)(p:zcN)(t:zfh):Cfg:=zmM (zn c) (zn m) (zn p) (zn t)
theorem zXo {c:zbb}{m:zgZ}{p:zcN}{t:zfh}(k:zM c)(l:zfs m)(n:zb2 p)(q:zec t){f:FuncId}{b:List AV->Option (Bool×List AV)}(i:FnOk Tryz.prog f)(h:∀a d,zcE big a->b a=some (true,d)->∃g N,evalFn (cQ c m p t) g N 12 f a=some d):vL f b :=
 zCt (zgF k l n q) i fun a d j e=>(h a d (z0u j) e).elim fun t x=>x.elim fun N y=>⟨t,N,12,y⟩
def zeP (f:FuncId):Bool :=
 match Tryz.prog.funcs[f]? with
 |some a=>a.body.isSome && !(a.name == "runtime.NumGoroutine")
 |none=>false
theorem ziQ {f:FuncId}(h:zeP f=true):FnOk Tryz.prog f:=by unfold zeP at h;split at h;{rename_i a d;simp only[qE,jE]at h;obtain⟨b,c⟩:=uN.1 h.1;exact⟨a,b,d,c,h.2⟩};{cases h}
abbrev oN {b:Type}(c:Bool)(a:Option b):Option b:=bif c then a else none
abbrev nB (c:Bool):Bool:=bif c then false else true
abbrev ti:AT:=.i .i64
structure Dc (α:Type) where
 d:AV->Option α
 e:α->AV
 h:∀{a x},d a=some x->a=e x
abbrev aI (x:Int):AV:=.one (.i .i64 x)
abbrev aB (x:Bool):AV:=.one (.b x)
abbrev aS (t:Ty)(l:List t.den):AV:=.one (.s t l)
abbrev aT (t:Ty)(x:t.den):AV:=.agg (t.cells x)
abbrev aH (h:Host):AV:=.agg (zbi h)
abbrev OA:=Option Ans
abbrev oF:OA:=some [aB false]
abbrev oT:OA:=some [aB true]
abbrev lA:=List GAct
abbrev lB:=List Bool
abbrev lE:=List Entry
abbrev lG:=List Guest
abbrev lI:=List Ins
abbrev lK:=List Kept
abbrev lM:=List (List Int)
abbrev lN:=List Mon
abbrev lP:=List (List Ins)
abbrev lQ:=List (List (List Ins))
abbrev lS:=List Slot
abbrev lT:=List Told
def dI:Dc Int:=⟨fun a=>match a with | .one (.i .i64 x)=>some x|_=>none,aI,fun {a x} h=>by split at h<;>cases h;rfl⟩
def dB:Dc Bool:=⟨fun a=>match a with | .one (.b x)=>some x|_=>none,aB,fun {a x} h=>by split at h<;>cases h;rfl⟩
def dS (t:Ty):Dc (List t.den):=⟨fun a=>match a with | .one (.s b l)=>if h:b=t then some (h ▸ l) else none|_=>none,aS t,fun {a x} h=>by
 split at h
 .rename_i b l;split at h
  .rename_i e;subst e;cases h;rfl
  .cases h
 .cases h⟩
def dT (t:Ty):Dc t.den:=⟨fun a=>match a with | .agg b=>t.ofCells b|_=>none,aT t,fun {a x} h=>by
 split at h
 .rw [<- zkg h]
 .cases h⟩
def dH:Dc Host:=⟨fun a=>match a with | .agg [.s (.sl .int) x,.s .mon y,.s .entry z,.s .entry u]=>some ⟨x,y,z,u⟩|_=>none,aH,fun {a x} h=>by split at h<;>cases h;rfl⟩
def dC:Dc Ctl:=⟨fun a=>match a with | .agg [.i .i64 x,.i .i64 y,.b z]=>some ⟨x,y,z⟩|_=>none,fun x=>.agg (zoM x),fun {a x} h=>by split at h<;>cases h;rfl⟩
def dE:Dc GExit:=⟨fun a=>match a with | .agg [.i .i64 x,.i .i64 y,.b z,.i .i64 u]=>some ⟨x,y,z,u⟩|_=>none,fun x=>.agg (zee x),fun {a x} h=>by split at h<;>cases h;rfl⟩
abbrev Run:=List AV->Option (Bool×List AV)
def eat {b:Type}(D:Dc b)(k:b->Run):Run
 |[]=>none
 |a::l=>match D.d a with
  |some x=>k x l
  |none=>none
def stop (r:Bool×List AV):Run
 |[]=>some r
 |_=>none
theorem zbdp {c:Type}{D:Dc c}{k:c->Run}{b:List AV}{r:Bool×List AV}(h:eat D k b=some r):∃x l,b=D.e x::l/\k x l=some r:=by unfold eat at h;split at h;{cases h};{rename_i a l;split at h;{rename_i x d;exact⟨x,l,by rw[D.h d],h⟩};{cases h}}
theorem zbaO {q r:Bool×List AV}{a:List AV}(h:stop q a=some r):a=[]/\r=q:=by unfold stop at h;split at h<;>cases h;exact⟨rfl,rfl⟩
theorem zcw {p:Nat->Prop}(h:∀N,(∀{n:Nat},n<=big->n<N)->p N):∃N,p N:=⟨big+1,h _ fun h=>Nat.lt_succ_of_le h⟩
theorem len0 {t:Ty}{l:List t.den}{r:List AV}(a:zcE big (.one (.s t l)::r)):l.length<=big:=((zdi a).1 _ (qF.2 rfl)).len
def Read (c:zbb)(m:zgZ)(p:zcN)(t:zfh)(d:FuncId->Nat->Option Tmpl)(f:FuncId)(b:List AV)(r:Run):Prop:=∀a e,zcE big (b++a)->r a=some (true,e)->∃N,evalFn (cQ c m p t) d N 12 f (b++a)=some e
theorem zdz {c:zbb}{m:zgZ}{p:zcN}{t:zfh}{d:FuncId->Nat->Option Tmpl}{f:FuncId}{b:List AV}{g:Type}{D:Dc g}{k:g->Run}(h:∀a,Read c m p t d f (b++[D.e a]) (k a)):Read c m p t d f b (eat D k):=by intro i r q e;obtain⟨x,l,n,j⟩:=zbdp e;subst n;have:=h x l r (by simpa using q) j;simpa using this
theorem zlw {c:zbb}{m:zgZ}{p:zcN}{t:zfh}{d:FuncId->Nat->Option Tmpl}{f:FuncId}{a:List AV}{g:Bool×List AV}{E:Nat->OA}(h:zcE big a->g.1=true->∃N,E N=some g.2)(n:∀N,evalFn (cQ c m p t) d N 12 f a=E N):Read c m p t d f a (stop g):=by intro j q i e;obtain⟨l,k⟩:=zbaO e;subst l;cases g with|mk b x=>cases k;rw[jC]at i ⊢;obtain⟨N,e⟩:=h i rfl;exact⟨N,(n N).trans e⟩
theorem znZ {c:zbb}{m:zgZ}{p:zcN}{t:zfh}(i:zM c)(j:zfs m)(k:zb2 p)(l:zec t){a:FuncId->Nat->Option Tmpl}{f:FuncId}{r:Run}(g:zeP f=true)(h:Read c m p t a f [] r):vL f r :=
 zXo i j k l (ziQ g) fun b n d e=>(h b n d e).elim fun N x=>⟨a,N,x⟩
def rF0  (g:Bool×List AV):Run:=stop g
theorem hF0 {c:zbb}{m:zgZ}{p:zcN}{t:zfh}(j:zM c)(k:zfs m)(l:zb2 p)(n:zec t)(b:FuncId->Nat->Option Tmpl){g:Bool×List AV}{E:Nat->OA}{f:FuncId}(a:zcE big []->g.1=true->∃N,E N=some g.2)(i:∀N,evalFn (cQ c m p t) b N 12 f []=E N:=by intros;kernel_rfl)(h:zeP f=true:=by kernel_rfl):vL f (rF0 g):=
 znZ j k l n h (zlw (fun d e=>a d e) fun N=>i N)
theorem kF0 {c:zbb}{m:zgZ}{p:zcN}{t:zfh}(h:zM c)(i:zfs m)(j:zb2 p)(k:zec t)(a:FuncId->Nat->Option Tmpl){g:Bool×List AV}{E:Nat->OA}{f:FuncId}(b:g.1=true->∃N,E N=some g.2)(e:∀N,evalFn (cQ c m p t) a N 12 f []=E N:=by intros;kernel_rfl)(d:zeP f=true:=by kernel_rfl):vL f (rF0 g):=hF0 h i j k a (fun _=>b) e d
def rF1 {a:Type}(b:Dc a)(g:a->Bool×List AV):Run:=eat b fun c=>stop (g c)
theorem hF1 {b:Type}{c:zbb}{m:zgZ}{p:zcN}{t:zfh}(q:zM c)(r:zfs m)(s:zb2 p)(u:zec t)(i:FuncId->Nat->Option Tmpl){d:Dc b}{g:b->Bool×List AV}{E:Nat->b->OA}{f:FuncId}(h:∀a,zcE big [d.e a]->(g a).1=true->∃N,E N a=some (g a).2)(n:∀N a,evalFn (cQ c m p t) i N 12 f [d.e a]=E N a:=by intros;kernel_rfl)(l:zeP f=true:=by kernel_rfl):vL f (rF1 d g):=
 znZ q r s u l (zdz fun a=>zlw (fun j k=>h a j k) fun N=>n N a)
theorem kF1 {d:Type}{c:zbb}{m:zgZ}{p:zcN}{t:zfh}(l:zM c)(n:zfs m)(q:zb2 p)(r:zec t)(b:FuncId->Nat->Option Tmpl){i:Dc d}{g:d->Bool×List AV}{E:Nat->d->OA}{f:FuncId}(h:∀a,(g a).1=true->∃N,E N a=some (g a).2)(k:∀N a,evalFn (cQ c m p t) b N 12 f [i.e a]=E N a:=by intros;kernel_rfl)(j:zeP f=true:=by kernel_rfl):vL f (rF1 i g):=hF1 l n q r b (fun a _=>h a) k j
def rF2 {a b:Type}(c:Dc a)(d:Dc b)(g:a->b->Bool×List AV):Run:=eat c fun e=>eat d fun f=>stop (g e f)
theorem hF2 {d h:Type}{c:zbb}{m:zgZ}{p:zcN}{t:zfh}(u:zM c)(v:zfs m)(w:zb2 p)(x:zec t)(l:FuncId->Nat->Option Tmpl){i:Dc d}{j:Dc h}{g:d->h->Bool×List AV}{E:Nat->d->h->OA}{f:FuncId}(k:∀a b,zcE big [i.e a,j.e b]->(g a b).1=true->∃N,E N a b=some (g a b).2)(s:∀N a b,evalFn (cQ c m p t) l N 12 f [i.e a,j.e b]=E N a b:=by intros;kernel_rfl)(r:zeP f=true:=by kernel_rfl):vL f (rF2 i j g):=
 znZ u v w x r (zdz fun a=>zdz fun b=>zlw (fun n q=>k a b n q) fun N=>s N a b)
theorem kF2 {h i:Type}{c:zbb}{m:zgZ}{p:zcN}{t:zfh}(r:zM c)(s:zfs m)(u:zb2 p)(v:zec t)(d:FuncId->Nat->Option Tmpl){k:Dc h}{l:Dc i}{g:h->i->Bool×List AV}{E:Nat->h->i->OA}{f:FuncId}(j:∀a b,(g a b).1=true->∃N,E N a b=some (g a b).2)(q:∀N a b,evalFn (cQ c m p t) d N 12 f [k.e a,l.e b]=E N a b:=by intros;kernel_rfl)(n:zeP f=true:=by kernel_rfl):vL f (rF2 k l g):=hF2 r s u v d (fun a b _=>j a b) q n
def rF3 {a b c:Type}(d:Dc a)(e:Dc b)(f:Dc c)(g:a->b->c->Bool×List AV):Run:=eat d fun h=>eat e fun i=>eat f fun j=>stop (g h i j)
theorem hF3 {h i j:Type}{c:zbb}{m:zgZ}{p:zcN}{t:zfh}(x:zM c)(y:zfs m)(z:zb2 p)(A:zec t)(r:FuncId->Nat->Option Tmpl){k:Dc h}{l:Dc i}{n:Dc j}{g:h->i->j->Bool×List AV}{E:Nat->h->i->j->OA}{f:FuncId}(q:∀a b d,zcE big [k.e a,l.e b,n.e d]->(g a b d).1=true->∃N,E N a b d=some (g a b d).2)(w:∀N a b d,evalFn (cQ c m p t) r N 12 f [k.e a,l.e b,n.e d]=E N a b d:=by intros;kernel_rfl)(v:zeP f=true:=by kernel_rfl):vL f (rF3 k l n g):=
 znZ x y z A v (zdz fun a=>zdz fun b=>zdz fun d=>zlw (fun s u=>q a b d s u) fun N=>w N a b d)
theorem kF3 {i j k:Type}{c:zbb}{m:zgZ}{p:zcN}{t:zfh}(v:zM c)(w:zfs m)(x:zb2 p)(y:zec t)(h:FuncId->Nat->Option Tmpl){n:Dc i}{q:Dc j}{r:Dc k}{g:i->j->k->Bool×List AV}{E:Nat->i->j->k->OA}{f:FuncId}(l:∀a b d,(g a b d).1=true->∃N,E N a b d=some (g a b d).2)(u:∀N a b d,evalFn (cQ c m p t) h N 12 f [n.e a,q.e b,r.e d]=E N a b d:=by intros;kernel_rfl)(s:zeP f=true:=by kernel_rfl):vL f (rF3 n q r g):=hF3 v w x y h (fun a b d _=>l a b d) u s
def rF4 {a b c d:Type}(e:Dc a)(f:Dc b)(h:Dc c)(i:Dc d)(g:a->b->c->d->Bool×List AV):Run:=eat e fun j=>eat f fun k=>eat h fun l=>eat i fun m=>stop (g j k l m)
theorem hF4 {i j k l:Type}{c:zbb}{m:zgZ}{p:zcN}{t:zfh}(A:zM c)(B:zfs m)(C:zb2 p)(D:zec t)(v:FuncId->Nat->Option Tmpl){n:Dc i}{q:Dc j}{r:Dc k}{s:Dc l}{g:i->j->k->l->Bool×List AV}{E:Nat->i->j->k->l->OA}{f:FuncId}(u:∀a b d h,zcE big [n.e a,q.e b,r.e d,s.e h]->(g a b d h).1=true->∃N,E N a b d h=some (g a b d h).2)(z:∀N a b d h,evalFn (cQ c m p t) v N 12 f [n.e a,q.e b,r.e d,s.e h]=E N a b d h:=by intros;kernel_rfl)(y:zeP f=true:=by kernel_rfl):vL f (rF4 n q r s g):=
 znZ A B C D y (zdz fun a=>zdz fun b=>zdz fun d=>zdz fun h=>zlw (fun w x=>u a b d h w x) fun N=>z N a b d h)
theorem kF4 {j k l n:Type}{c:zbb}{m:zgZ}{p:zcN}{t:zfh}(y:zM c)(z:zfs m)(A:zb2 p)(B:zec t)(i:FuncId->Nat->Option Tmpl){r:Dc j}{s:Dc k}{u:Dc l}{v:Dc n}{g:j->k->l->n->Bool×List AV}{E:Nat->j->k->l->n->OA}{f:FuncId}(q:∀a b d h,(g a b d h).1=true->∃N,E N a b d h=some (g a b d h).2)(x:∀N a b d h,evalFn (cQ c m p t) i N 12 f [r.e a,s.e b,u.e d,v.e h]=E N a b d h:=by intros;kernel_rfl)(w:zeP f=true:=by kernel_rfl):vL f (rF4 r s u v g):=hF4 y z A B i (fun a b d h _=>q a b d h) x w
def rF5 {a b c d e:Type}(f:Dc a)(h:Dc b)(i:Dc c)(j:Dc d)(k:Dc e)(g:a->b->c->d->e->Bool×List AV):Run:=eat f fun l=>eat h fun m=>eat i fun n=>eat j fun p=>eat k fun q=>stop (g l m n p q)
theorem hF5 {j k l n q:Type}{c:zbb}{m:zgZ}{p:zcN}{t:zfh}(D:zM c)(F:zfs m)(G:zb2 p)(H:zec t)(y:FuncId->Nat->Option Tmpl){r:Dc j}{s:Dc k}{u:Dc l}{v:Dc n}{w:Dc q}{g:j->k->l->n->q->Bool×List AV}{E:Nat->j->k->l->n->q->OA}{f:FuncId}(x:∀a b d h i,zcE big [r.e a,s.e b,u.e d,v.e h,w.e i]->(g a b d h i).1=true->∃N,E N a b d h i=some (g a b d h i).2)(C:∀N a b d h i,evalFn (cQ c m p t) y N 12 f [r.e a,s.e b,u.e d,v.e h,w.e i]=E N a b d h i:=by intros;kernel_rfl)(B:zeP f=true:=by kernel_rfl):vL f (rF5 r s u v w g):=
 znZ D F G H B (zdz fun a=>zdz fun b=>zdz fun d=>zdz fun h=>zdz fun i=>zlw (fun z A=>x a b d h i z A) fun N=>C N a b d h i)
theorem kF5 {k l n q r:Type}{c:zbb}{m:zgZ}{p:zcN}{t:zfh}(B:zM c)(C:zfs m)(D:zb2 p)(F:zec t)(j:FuncId->Nat->Option Tmpl){u:Dc k}{v:Dc l}{w:Dc n}{x:Dc q}{y:Dc r}{g:k->l->n->q->r->Bool×List AV}{E:Nat->k->l->n->q->r->OA}{f:FuncId}(s:∀a b d h i,(g a b d h i).1=true->∃N,E N a b d h i=some (g a b d h i).2)(A:∀N a b d h i,evalFn (cQ c m p t) j N 12 f [u.e a,v.e b,w.e d,x.e h,y.e i]=E N a b d h i:=by intros;kernel_rfl)(z:zeP f=true:=by kernel_rfl):vL f (rF5 u v w x y g):=hF5 B C D F j (fun a b d h i _=>s a b d h i) A z
def rF6 {a b c d e f:Type}(h:Dc a)(i:Dc b)(j:Dc c)(k:Dc d)(l:Dc e)(m:Dc f)(g:a->b->c->d->e->f->Bool×List AV):Run:=eat h fun n=>eat i fun p=>eat j fun q=>eat k fun r=>eat l fun s=>eat m fun t=>stop (g n p q r s t)
theorem hF6 {k l n q r s:Type}{c:zbb}{m:zgZ}{p:zcN}{t:zfh}(H:zM c)(I:zfs m)(J:zb2 p)(K:zec t)(B:FuncId->Nat->Option Tmpl){u:Dc k}{v:Dc l}{w:Dc n}{x:Dc q}{y:Dc r}{z:Dc s}{g:k->l->n->q->r->s->Bool×List AV}{E:Nat->k->l->n->q->r->s->OA}{f:FuncId}(A:∀a b d h i j,zcE big [u.e a,v.e b,w.e d,x.e h,y.e i,z.e j]->(g a b d h i j).1=true->∃N,E N a b d h i j=some (g a b d h i j).2)(G:∀N a b d h i j,evalFn (cQ c m p t) B N 12 f [u.e a,v.e b,w.e d,x.e h,y.e i,z.e j]=E N a b d h i j:=by intros;kernel_rfl)(F:zeP f=true:=by kernel_rfl):vL f (rF6 u v w x y z g):=
 znZ H I J K F (zdz fun a=>zdz fun b=>zdz fun d=>zdz fun h=>zdz fun i=>zdz fun j=>zlw (fun C D=>A a b d h i j C D) fun N=>G N a b d h i j)
theorem kF6 {l n q r s u:Type}{c:zbb}{m:zgZ}{p:zcN}{t:zfh}(F:zM c)(G:zfs m)(H:zb2 p)(I:zec t)(k:FuncId->Nat->Option Tmpl){w:Dc l}{x:Dc n}{y:Dc q}{z:Dc r}{A:Dc s}{B:Dc u}{g:l->n->q->r->s->u->Bool×List AV}{E:Nat->l->n->q->r->s->u->OA}{f:FuncId}(v:∀a b d h i j,(g a b d h i j).1=true->∃N,E N a b d h i j=some (g a b d h i j).2)(D:∀N a b d h i j,evalFn (cQ c m p t) k N 12 f [w.e a,x.e b,y.e d,z.e h,A.e i,B.e j]=E N a b d h i j:=by intros;kernel_rfl)(C:zeP f=true:=by kernel_rfl):vL f (rF6 w x y z A B g):=hF6 F G H I k (fun a b d h i j _=>v a b d h i j) D C
theorem ziT {a:List AV}(h:∃(w:World) (b:Nat->Value) (K:Nat->zV),∀(j:Nat) (c:CV),(zF a)[j]?=some c->Rep false w (b j) c (K j)):zcE big a:=by obtain⟨w,b,K,h⟩:=h;intro c d;obtain⟨j,e⟩:=qT.1 d;exact CVB.of_rep (h j c e)
theorem cT {a:Type}(x y:a):(cond true x y)=x:=by simp
theorem cF {a:Type}(x y:a):(cond false x y)=y:=by simp
theorem zog:big=140737488355328:=rfl
theorem zuJ {x:Int}(a : -9223372036854775808<=x)(b:x<=9223372036854775807):IntKind.i64.wrap x=x:=by simp only[IntKind.wrap,IntKind.signed,IntKind.bits];simp;omega
theorem zrh {x y:Int}(a : -9223372036854775808<=x+y)(b:x+y<=9223372036854775807):zL .i64 x y=x+y:=zuJ a b
theorem zrj {x y:Int}(a : -9223372036854775808<=x-y)(b:x-y<=9223372036854775807):wsub .i64 x y=x-y:=zuJ a b
theorem zbh {i n:Nat}(h:i<n)(a:n<=big):zL .i64 (i:Int) 1=((i+1:Nat):Int):=by rw[zog]at a;rw[zrh (by omega) (by omega)];omega
section
variable {α:Type}
theorem zbS {l:List α}{i:Nat}(h:i<l.length):ilt (i:Int) (ln l)=true:=by unfold ilt ln;exact qJ (by omega)
theorem zbK {l:List α}:ilt ((l.length:Nat):Int) (ln l)=false:=by unfold ilt ln;exact qH (by omega)
theorem zbl {l:List α}{i:Nat}(h:i<l.length):inb (i:Int) (ln l)=true:=by unfold inb ln;exact qJ (by omega)
theorem zbv {l:List α}{i:Nat}(h:i<l.length)(d:α):ix l (i:Int) d=l[i]:=by unfold ix;simp[List.getD,qB h]
theorem zgV {l:List α}(h:l.length<=2147483648):few (ln l)=true:=by unfold few ln;exact qJ (by omega)
theorem zK8 (x:Int):ieq x x=true:=by simp[ieq]
theorem zsl (x:Bool):zfv x x=true:=by simp[zfv]
end
theorem zd6 {a b:Type}(n:Nat)(F:(a->Option b)->a->Option b)(s:a):iter (n+1) F s=F (iter n F) s:=rfl
def goL {d c b:Type}(a:Nat->d->c->(c->Option b)->Option b)(K:c->Option b):List d->Nat->c->Option b
 |[],_,t=>K t
 |x::l,i,t=>a i x t (goL a K l (i+1))
theorem zbj {q b d σ:Type}(l:List q)(g:Nat->b->σ)(F:(σ->Option d)->σ->Option d)(a:Nat->q->b->(b->Option d)->Option d)(K:b->Option d)(c:∀(i:Nat) (p:i<l.length) (t:b) (rec:σ->Option d),F rec (g i t)=a i l[i] t (fun k=>rec (g (i+1) k)))(e:∀(t:b) (rec:σ->Option d),F rec (g l.length t)=K t) :
 ∀(N:Nat) (t:b),l.length<N->iter N F (g 0 t)=goL a K l 0 t:=by
 have j:∀(m i N:Nat) (t:b),l.length-i=m->i<=l.length->m<N->iter N F (g i t)=goL a K (l.drop i) i t:=by intro m;induction m with|zero=>intro i N t r p h;have:i=l.length:=(by omega);subst this;obtain⟨n,rfl⟩:∃n,N=n+1:=⟨N-1,by omega⟩;rw[zd6,e,List.drop_length];rfl|succ m s=>intro i N t r p h;obtain⟨n,rfl⟩:∃n,N=n+1:=⟨N-1,by omega⟩;have f:i<l.length:=(by omega);rw[zd6,c i f,kU f];simp only[goL];congr 1;funext k;exact s (i+1) n k (by omega) (by omega) (by omega)
 intro N t h;have:=j l.length 0 N t (by omega) (jZ _) h
 simpa using this
def goN {c b:Type}(a:Nat->c->(c->Option b)->Option b)(K:c->Option b):Nat->Nat->c->Option b
 | 0,_,t=>K t
 |n+1,i,t=>a i t (goN a K n (i+1))
theorem zBp {b d σ:Type}(n:Nat)(g:Nat->b->σ)(F:(σ->Option d)->σ->Option d)(a:Nat->b->(b->Option d)->Option d)(K:b->Option d)(c:∀(i:Nat) (q:i<n) (t:b) (rec:σ->Option d),F rec (g i t)=a i t (fun p=>rec (g (i+1) p)))(f:∀(t:b) (rec:σ->Option d),F rec (g n t)=K t) :
 ∀(N:Nat) (t:b),n<N->iter N F (g 0 t)=goN a K n 0 t:=by
 have l:∀(m i N:Nat) (t:b),n-i=m->i<=n->m<N->iter N F (g i t)=goN a K (n-i) i t:=by intro m;induction m with|zero=>intro i N t r q h;have:i=n:=(by omega);subst this;obtain⟨k,rfl⟩:∃k,N=k+1:=⟨N-1,by omega⟩;rw[zd6,f,kY];rfl|succ m s=>intro i N t r q h;obtain⟨k,rfl⟩:∃k,N=k+1:=⟨N-1,by omega⟩;have j:i<n:=(by omega);have e:n-i=(n-(i+1))+1:=(by omega);rw[zd6,c i j,e];simp only[goN];congr 1;funext p;exact s (i+1) k p (by omega) (by omega) (by omega)
 intro N t h;have:=l n 0 N t (by omega) (jZ _) h
 simpa using this
def sm:Nat:=1048576
theorem zc5 {n:Nat}(h:n<=sm):n<=big/\n<=2147483648:=by unfold sm at h;rw[zog];omega
def hasB (i n:Int):Bool:=decide (0<=i/\i<n)
theorem has_eq (i n:Int):(ige i 0&&ilt i n)=hasB i n:=by unfold ige ilt hasB;by_cases a:0<=i<;>by_cases b:i<n<;>simp [a,b]
theorem zy {i n:Int}(h:hasB i n=true):inb i n=true:=h
theorem zdX {i:Int}{n:Nat}(h:hasB i n=true):∃k:Nat,i=k/\k<n:=by have:0<=i/\i<n:=qD h;exact⟨i.toNat,by omega,by omega⟩
theorem zbB {b:Type}{l:List b}{i:Int}(h:hasB i (ln l)=true)(d:b):ix l i d∈l:=by obtain⟨k,rfl,a⟩:=zdX (n:=l.length) h;rw[zbv a];exact jK a
theorem zmS {a:Type}(l:List a):ap [] l=l:=rfl
theorem zjB {b m:Type}(c:b->Bool)(f:b->b)(K:List b->Option m):∀(l:List b) (i:Nat) (a:List b),(∀x∈l,c x=true/\f x=x)->a.length+l.length<=2147483648->
 goL (fun _ x a k=>bif c x then (cond (few (ln (ap a [f x]))) (k (ap a [f x])) none) else none) K l i a=K (a++l)
 |[],i,a,_,_=>by simp[goL]
 |x::l,i,a,h,g=>by obtain⟨d,e⟩:=h x (by simp);simp only[qZ]at g;simp only[goL,d,e,cT];rw[zgV (by simp[ap];omega),cT,zjB c f K l (i+1) _ (fun y j=>h y (by simp[j])) (by simp[ap];omega)];simp[ap]
def zct (h:Host):Prop:=∀c∈zbi h,CVB sm c
theorem zct.mem {h:Host}(a:zct h):CVB sm (.s (.sl .int) h.Memory):=a _ (by simp[zbi])
theorem zct.mons {h:Host}(a:zct h):CVB sm (.s .mon h.Mons):=a _ (by simp[zbi])
theorem zoR {t:Ty}{l:List t.den}(h:CVB sm (.s t l)):few (ln l)=true:=zgV (zc5 h.len).2
def zjQ (h:Host)(m:Int):Mon:=bif hasB m (ln h.Mons) then ix h.Mons m zh else Ty.dflt .mon
theorem zbdB {g:Int}{n m:Int}(h:hasB g n=true):ige g m = !hasB g m:=by have:0<=g/\g<n:=qD h;unfold ige hasB;by_cases a:g<m;{rw [qH (p:=g≥m) (by omega),qJ (p:=0<=g/\g<m) (by omega)];rfl};{rw [qJ (p:=g≥m) (by omega),qH (p:=0<=g/\g<m) (by omega)];rfl}
def zoG (p:Nat->Bool):Nat->Nat->Bool
 | 0,_=>true
 |n+1,i=>p i&&zoG p n (i+1)
theorem zGX {a:Type}(p:Nat->Bool)(r:Option a)(K:Unit->Option a):∀(n i:Nat),goN (fun i (_:Unit) k=>bif p i then k () else r) K n i ()=bif zoG p n i then K () else r
 | 0,_=>rfl
 |n+1,i=>by simp only[goN,zoG];cases p i;{rfl};{simp only [cT,uX];exact zGX p r K n (i+1)}
theorem zzg {e a c:Type}(b:Nat->a->(a->Option c)->Option c)(K:a->Option c):∀(l:List e) (i:Nat) (t:a),goL (fun i _ t k=>b i t k) K l i t=goN b K l.length i t
 |[],_,_=>rfl
 |_::l,i,t=>by have d:goL (fun i _ t k=>b i t k) K l (i+1)=goN b K l.length (i+1):=funext fun t=>zzg b K l (i+1) t;simp only[goL,qZ,goN,d]
theorem zgG {a b:Type}(p:a->Bool)(r:Option b)(K:Unit->Option b):∀(l:List a) (i:Nat),goL (fun _ x (_:Unit) k=>bif p x then k () else r) K l i ()=bif l.all p then K () else r
 |[],_=>rfl
 |x::l,i=>by simp only[goL,kS];cases p x;{rfl};{simp only [cT,uX];exact zgG p r K l (i+1)}
theorem zOp {n:Nat}(c:n<=big)(i:Int):(ige i 0&&ile i (wsub .i64 (n:Int) 1))=hasB i n:=by rw[zog]at c;rw[zrj (by omega) (by omega)];unfold ige ile hasB;by_cases a:0<=i<;>by_cases b:i<n;{rw [qJ (p:=i≥0) (by omega),qJ (p:=i<=(n:Int)-1) (by omega),qJ (p:=0<=i/\i<(n:Int)) ⟨a,b⟩];rfl};{rw [qH (p:=i<=(n:Int)-1) (by omega),qH (p:=0<=i/\i<(n:Int)) (by omega)];simp};{rw [qH (p:=i≥0) (by omega),qH (p:=0<=i/\i<(n:Int)) (by omega)];simp};{rw [qH (p:=i≥0) (by omega),qH (p:=0<=i/\i<(n:Int)) (by omega)];simp}
theorem zG1 {j h c:Type}(n:Nat)(f:Nat->c->j)(F:(j->Option h)->j->Option h)(I:Nat->c->Prop)(a:Nat->c->Option h)(b:∀(i:Nat) (t:c) (rec:j->Option h),i<n->I i t->(∀g,I (i+1) g->rec (f (i+1) g)=a (i+1) g)->F rec (f i t)=a i t)(e:∀(t:c) (rec:j->Option h),I n t->F rec (f n t)=a n t):∀(N i:Nat) (t:c),I i t->i<=n->n-i<N->iter N F (f i t)=a i t:=by have r:∀(m N i:Nat) (t:c),n-i=m->I i t->i<=n->m<N->iter N F (f i t)=a i t:=(by intro m;induction m with|zero=>intro N i t s d q p;obtain⟨k,rfl⟩:∃k,N=k+1:=⟨N-1,by omega⟩;have:i=n:=(by omega);subst this;rw[zd6];exact e t _ d|succ m u=>intro N i t s d q p;obtain⟨k,rfl⟩:∃k,N=k+1:=⟨N-1,by omega⟩;rw[zd6];exact b i t _ (by omega) d (fun g l=>u k (i+1) g (by omega) l (by omega) (by omega)));intro N i t d q p;exact r (n-i) N i t rfl d q p
section
variable {α:Type}
theorem zSG {l:List α}{i:Nat}(h:i<l.length)(d:α):up l (i:Int) (ix l (i:Int) d)=l:=by rw[zbv h];unfold up;apply kX;intro k;rw[q9];have e:(i:Int).toNat=i:=(by omega);rw[e];by_cases a:i=k;{subst a;simp[h]};{simp [a]}
theorem zd3 {l:List α}{i:Nat}(h:i<l.length)(x d:α):ix (up l (i:Int) x) (i:Int) d=x:=by unfold ix up;have e:(i:Int).toNat=i:=(by omega);rw[e];simp[List.getD,h]
theorem zxW (l:List α)(i:Int)(x y:α):up (up l i x) i y=up l i y:=by unfold up;simp
theorem zbeK {l:List α}{i k:Nat}(h:i<k)(x:α):(up l (i:Int) x)[k]?=l[k]?:=by unfold up;have e:(i:Int).toNat=i:=(by omega);rw[e,q9,if_neg (by omega)]
end
def Ends {b:Type}(G:b->Prop)(o:Option b):Prop:=∃a,o=some a/\G a
section
variable {ρ:Type} {G:ρ->Prop}
theorem zq {c:Bool}{a b:Option ρ}(h:c=true)(k:Ends G a):Ends G (cond c a b):=by rw[h];exact k
theorem zGP {c:Bool}{a b:Option ρ}(h:c=false)(k:Ends G b):Ends G (cond c a b):=by rw[h];exact k
theorem zbp {c:Bool}{a b:Option ρ}(d:c=true->Ends G a)(e:c=false->Ends G b):Ends G (cond c a b):=by cases c;{exact e rfl};{exact d rfl}
theorem zl3 {a:Type}{x:a}{f:a->Option ρ}(h:Ends G (f x)):Ends G (share x f):=h
theorem znL {x:Option ρ}{f:Option ρ->Option ρ}(h:Ends G x)(k:∀t,Ends G t->Ends G (f t)):Ends G (share x f):=k x h
theorem zhB {a:ρ}(h:G a):Ends G (some a):=⟨a,rfl,h⟩
theorem zka {b:Type}{F:(b->Option ρ)->b->Option ρ}(I:Nat->b->Prop)(h:∀n s rec,I n s->(∀k a,k<n->I k a->Ends G (rec a))->Ends G (F rec s)):∀(N n:Nat) (s:b),I n s->n<N->Ends G (iter N F s)
 | 0,n,s,_,c=>absurd c (Nat.not_lt_zero n)
 |N+1,n,s,d,c=>h n s (iter N F) d fun k a f e=>zka I h N k a e (by omega)
theorem zbds {G:Ans->Prop}{o:OA}{r:Ans}(h:Ends (fun a=>a=r) o):o=some r:=by obtain⟨a,b,c⟩:=h;rw[b,c]
end
instance:Inhabited Cur:=⟨⟨[],0,0⟩⟩
def uC {T:Type}(ok:T->Prop):Bool:=pc (∃v,ok v)
def uV {T:Type}[Nonempty T](ok:T->Prop):T:=Classical.epsilon ok
theorem uG {T:Type}[Nonempty T]{ok:T->Prop}(h:uC ok=true):ok (uV ok):=Classical.epsilon_spec (zN.1 h)
def wC {T:Type}(ok:Cur->T->Prop):Bool:=uC fun r:Cur×T=>ok r.1 r.2
def wS {T:Type}[Nonempty T](ok:Cur->T->Prop):Cur:=bif wC ok then (uV fun r:Cur×T=>ok r.1 r.2).1 else ⟨[],0,0⟩
def wV {T:Type}[Nonempty T](ok:Cur->T->Prop):T:=(uV fun r:Cur×T=>ok r.1 r.2).2
theorem wG {T:Type}[Nonempty T]{ok:Cur->T->Prop}(h:wC ok=true):ok (wS ok) (wV ok):=by unfold wS wV;rw[h,cT];exact uG h
theorem wP {T:Type}[Nonempty T]{ok:Cur->T->Prop}(k:∀{s v},ok s v->0<=s.i):0<=(wS ok).i:=by cases h:wC ok with|false=>unfold wS;rw[h];exact kD 0|true=>exact k (wG h)
abbrev wE {T:Type}(e:T->AV)(b:List Int)(c:T->Prop):Ans->Prop:=fun a=>∃s d,a=(AV.agg (zb0 s)::[e d])/\(s.b=b/\0<=s.i)/\c d
theorem wI {T:Type}{ok:Cur->T->Prop}{E:Nat->OA}{d:T->AV}{b:List Int}{c:T->Prop}(k:∀s v,((∃N,E N=some (AV.agg (zb0 s)::[d v]))/\(s.b=b/\0<=s.i)/\c v)->ok s v)(h:∃N,Ends (wE d b c) (E N)):wC ok=true:=by obtain⟨N,a,e,s,v,rfl,h⟩:=h;exact zby ⟨(s,v),k s v ⟨⟨N,e⟩,h⟩⟩
abbrev zdU:=List CV->List AV->Option (Bool×List CV×List AV)
abbrev zJU:=List AV->Option (Bool×List CV×List AV)
def pR (k:Cur->zJU):zdU
 |[.s .u8 b,.i .i64 i,.i .i64 h],a=>k ⟨b,i,h⟩ a
 |_,_=>none
def zYT {b:Type}(D:Dc b)(k:b->zJU):zJU
 |[]=>none
 |a::l=>match D.d a with
  |some x=>k x l
  |none=>none
def zOX (r:Bool×Cur×List AV):zJU
 |[]=>some (r.1,zb0 r.2.1,r.2.2)
 |_=>none
theorem z7O {k:Cur->zJU}{b:List CV}{a:List AV}{r:Bool×List CV×List AV}(h:pR k b a=some r):∃c,b=zb0 c/\k c a=some r:=by unfold pR at h;split at h;{exact⟨_,rfl,h⟩};{cases h}
theorem zLs {c:Type}{D:Dc c}{k:c->zJU}{b:List AV}{r:Bool×List CV×List AV}(h:zYT D k b=some r):∃x l,b=D.e x::l/\k x l=some r:=by unfold zYT at h;split at h;{cases h};{rename_i a l;split at h;{rename_i x d;exact⟨x,l,by rw[D.h d],h⟩};{cases h}}
theorem zwW {q:Bool×Cur×List AV}{b:Bool}{c:List CV}{d a:List AV}(h:zOX q a=some (b,c,d)):a=[]/\q.1=b/\c=zb0 q.2.1/\d=q.2.2:=by unfold zOX at h;split at h<;>cases h;exact⟨rfl,rfl,rfl,rfl⟩
section
variable {c:zbb} {m:zgZ} {p:zcN} {t:zfh} (o1:zM c) (o2:zfs m) (o3:zb2 p) (o4:zec t) (tms:FuncId->Nat->Option Tmpl) {f:FuncId}
include o1 o2 o3 o4
theorem hPx {k:Cur->zJU}(j:zeP f=true)(h:∀x b a d,k x b=some (true,a,d)->a.length=3/\∃N,zoQ (cQ c m p t) tms N 12 f [false,true,true] (zb0 x) b=some (.agg a::d)):zbP Tryz.prog f [false,true,true] (pR k):=by refine zhn (zgF o1 o2 o3 o4) (ziQ j) ?_;intro l b a d n q e;obtain⟨x,rfl,e⟩:=z7O e;obtain⟨g,N,i⟩:=h x b a d e;exact⟨g,tms,N,12,i⟩
def rP0 (g:Cur->Bool×Cur×List AV):zdU:=pR fun c=>zOX (g c)
theorem hP0 {g:Cur->Bool×Cur×List AV}{E:Nat->Cur->OA}(a:∀x,(g x).1=true->∃N,E N x=some (.agg (zb0 (g x).2.1)::(g x).2.2))(k:∀N x,zoQ (cQ c m p t) tms N 12 f [false,true,true] (zb0 x) []=E N x:=by intros;kernel_rfl)(j:zeP f=true:=by kernel_rfl):zbP Tryz.prog f [false,true,true] (rP0 g):=
 hPx o1 o2 o3 o4 tms j fun x b d l e=>by obtain⟨rfl,i,rfl,rfl⟩:=zwW e;obtain⟨N,h⟩:=a x i;exact⟨rfl,N,(k N x).trans h⟩
def rP1 {A:Type}(D:Dc A)(g:Cur->A->Bool×Cur×List AV):zdU:=pR fun c=>zYT D fun a=>zOX (g c a)
theorem hP1 {A:Type}{D:Dc A}{g:Cur->A->Bool×Cur×List AV}{E:Nat->Cur->A->OA}(b:∀x a,(g x a).1=true->∃N,E N x a=some (.agg (zb0 (g x a).2.1)::(g x a).2.2))(q:∀N x a,zoQ (cQ c m p t) tms N 12 f [false,true,true] (zb0 x) [D.e a]=E N x a:=by intros;kernel_rfl)(n:zeP f=true:=by kernel_rfl):zbP Tryz.prog f [false,true,true] (rP1 D g):=
 hPx o1 o2 o3 o4 tms n fun x d i r e=>by obtain⟨a,l,rfl,j⟩:=zLs e;obtain⟨rfl,k,rfl,rfl⟩:=zwW j;obtain⟨N,h⟩:=b x a k;exact⟨rfl,N,(q N x a).trans h⟩
def rP2 {A B:Type}(D:Dc A)(d:Dc B)(g:Cur->A->B->Bool×Cur×List AV):zdU:=pR fun c=>zYT D fun a=>zYT d fun b=>zOX (g c a b)
theorem hP2 {A B:Type}{D:Dc A}{i:Dc B}{g:Cur->A->B->Bool×Cur×List AV}{E:Nat->Cur->A->B->OA}(d:∀x a b,(g x a b).1=true->∃N,E N x a b=some (.agg (zb0 (g x a b).2.1)::(g x a b).2.2))(u:∀N x a b,zoQ (cQ c m p t) tms N 12 f [false,true,true] (zb0 x) [D.e a,i.e b]=E N x a b:=by intros;kernel_rfl)(s:zeP f=true:=by kernel_rfl):zbP Tryz.prog f [false,true,true] (rP2 D i g):=
 hPx o1 o2 o3 o4 tms s fun x j k w e=>by obtain⟨a,l,rfl,n⟩:=zLs e;obtain⟨b,v,rfl,q⟩:=zLs n;obtain⟨rfl,r,rfl,rfl⟩:=zwW q;obtain⟨N,h⟩:=d x a b r;exact⟨rfl,N,(u N x a b).trans h⟩
end
instance:Inhabited Ins:=⟨⟨0,0⟩⟩
instance:Inhabited GAct:=⟨⟨0,0,0,0,0,0⟩⟩
instance:Inhabited Ctl:=⟨⟨0,0,false⟩⟩
instance:Inhabited Host:=⟨⟨[],[],[],[]⟩⟩
def zbc (c:Cur):Prop:=0<=c.i/\c.b.length<=big
theorem zbJ {T:Type}(d:T->AV){c:T->Prop}{b:List Int}{x y:Int}{v:T}(h:0<=x)(g:c v):Ends (fun a=>∃s e,a=(AV.agg (zb0 s)::[d e])/\(s.b=b/\0<=s.i)/\c e) (some (AV.agg [.s .u8 b,.i .i64 x,.i .i64 y]::[d v])):=
 ⟨_,rfl,⟨b,x,y⟩,v,rfl,⟨rfl,h⟩,g⟩
def zxY (N:Nat)(c:Cur)  : OA :=
 let a:=(zL .i64 (zkS .i64 c.h 6364136223846793005) 1442695040888963407);let d:=(wand .i64 (wxor .i64 (zj8 .i64 a 33) (zj8 .i64 a 45)) 255); (oN (ile 0 33) (oN (ile 0 45) (cond (ilt c.i (ln c.b)) (oN (inb c.i (ln c.b)) (some [(.agg [(.s .u8 c.b),(.i .i64 (zL .i64 c.i 1)),(.i .i64 a)]),(aI (wand .i64 (zL .i64 d (wcv .i64 (ix c.b c.i 0))) 255))])) (some [(.agg [(.s .u8 c.b),(.i .i64 c.i),(.i .i64 a)]),(aI d)]))))
def zpR (c:Cur)(s:Cur)(a:Int):Prop:=(∃N,zxY N c=some (AV.agg (zb0 s)::[aI a]))/\(s.b=c.b/\0<=s.i)/\(0<=a/\a<=255)
def zeu (c:Cur)  : Bool:=wC (zpR c)
def zdn (c:Cur)  : Cur:=wS (zpR c)
def zgC (c:Cur)  : Int:=wV (zpR c)
theorem znk {c:Cur}(h:zeu c=true):zpR c (zdn c) (zgC c):=wG h
theorem znl (c:Cur)  : 0<=(zdn c).i:=wP fun h=>h.2.1.2
theorem z1y (c:Cur)(h:∃N,Ends (wE (fun a=>aI a) c.b fun a=>0<=a/\a<=255) (zxY N c)):zeu c=true:=wI (fun _ _ h=>h) h
def zzy:zdU:=rP0 fun c=>(zeu c,zdn c,[aI (zgC c)])
theorem zNY:zbP Tryz.prog 116 [false,true,true] zzy:=hP0 zfX zbg zA zo (zx []) (fun _ h=>(znk h).1)
theorem zUg {x m:Int}(c:0<=m)(d:m<9223372036854775808):0<=wand .i64 x m/\wand .i64 x m<=m:=by have b:(BitVec.ofInt 64 m).toNat=m.toNat:=(by rw[BitVec.toNat_ofInt];omega);have a:(BitVec.ofInt 64 x &&& BitVec.ofInt 64 m).toNat<=m.toNat:=(by rw[BitVec.toNat_and,b];exact Nat.and_le_right);unfold wand;show 0<=IntKind.wrap .i64 ((BitVec.ofInt 64 x &&& BitVec.ofInt 64 m).toNat:Int)/\IntKind.wrap .i64 ((BitVec.ofInt 64 x &&& BitVec.ofInt 64 m).toNat:Int)<=m;rw[zuJ (by omega) (by omega)];omega
@[simp] theorem zM4 {c:Cur}(h:zbc c):zeu c=true:=by
 refine z1y c ⟨0,?_⟩;unfold zxY oN;conv=>zeta
 refine zq rfl (zq rfl (zbp (fun a=>zq (qJ ⟨h.1,qD a⟩) (zbJ aI ?_ (zUg (by omega) (by omega)))) (fun _=>zbJ aI h.1 (zUg (by omega) (by omega)))));have d:c.i<ln c.b:=qD a;have e:=h.2;have f:=h.1;rw[zog]at e;unfold ln at d;rw[zrh (by omega) (by omega)];omega
def zbcd:zcN:=[(116,([false,true,true],zzy))]++zLu
theorem zYV:zb2 zbcd:=zcs zA (by
 intro x a;simp only[qG,qN,or_false]at a;rcases a with rfl
 .exact zNY)
theorem zKe {b:List Int}{i h:Int}(a:0<=i)(c:b.length<=big):zbc ⟨b,i,h⟩:=⟨a,c⟩
theorem zHh {x n:Int}(a:0<=x)(b:0<n):0<=zjn x n/\zjn x n<n:=by unfold zjn;exact⟨Int.tmod_nonneg _ a,Int.tmod_lt_of_pos _ b⟩
def zuM (N:Nat)(c:Cur)(a:Int):OA:=
 let f:=({ (zdn c) with b:=c.b}:Cur);let e:=({ (zdn f) with b:=c.b}:Cur);let d:=({ (zdn e) with b:=c.b}:Cur); (cond (ile a 0) (some [(.agg [(.s .u8 c.b),(.i .i64 c.i),(.i .i64 c.h)]),(aI 0)]) (cond (ile a 256) (oN (zeu c) (oN (ine a 0) (some [(.agg [(.s .u8 c.b),(.i .i64 (zdn c).i),(.i .i64 (zdn c).h)]),(aI (zjn (zgC c) a))]))) (oN (zeu c) (oN (zeu f) (oN (zeu e) (oN (zeu d) (oN (ine a 0) (some [(.agg [(.s .u8 c.b),(.i .i64 (zdn d).i),(.i .i64 (zdn d).h)]),(aI (zjn (zL .i64 (zL .i64 (zL .i64 (zkS .i64 (zgC c) 16777216) (zkS .i64 (zgC f) 65536)) (zkS .i64 (zgC e) 256)) (zgC d)) a))]))))))))
def znB (c:Cur)(a:Int)(s:Cur)(d:Int):Prop:=(∃N,zuM N c a=some (AV.agg (zb0 s)::[aI d]))/\(s.b=c.b/\0<=s.i)/\((0<a->0<=d/\d<a))
def zD (c:Cur)(a:Int):Bool:=wC (znB c a)
def zf (c:Cur)(a:Int):Cur:=wS (znB c a)
def zk (c:Cur)(a:Int):Int:=wV (znB c a)
theorem zhM {c:Cur}{a:Int}(h:zD c a=true):znB c a (zf c a) (zk c a):=wG h
theorem zJ (c:Cur)(a0:Int):0<=(zf c a0).i:=wP fun h=>h.2.1.2
theorem zZl (c:Cur)(a:Int)(h:∃N,Ends (wE (fun d=>aI d) c.b fun d=>(0<a->0<=d/\d<a)) (zuM N c a)):zD c a=true:=wI (fun _ _ h=>h) h
def zwY:zdU:=rP1 dI fun c b=>(zD c b,zf c b,[aI (zk c b)])
theorem zve:zbP Tryz.prog 54 [false,true,true] zwY:=hP1 zfX zbg zYV zo (zx []) (fun _ _ h=>(zhM h).1)
theorem zbx {c:Cur}(h:zbc c)(n:Int):zD c n=true:=by
 refine zZl c n ⟨0,?_⟩;have f:=zM4 h;have k:zeu {zdn c with b:=c.b}=true:=zM4 (zKe (znl _) h.2);have l:zeu {zdn {zdn c with b:=c.b} with b:=c.b}=true:=zM4 (zKe (znl _) h.2);have m:zeu {zdn {zdn {zdn c with b:=c.b} with b:=c.b} with b:=c.b}=true:=zM4 (zKe (znl _) h.2);have i:=(znk f).2.2;have q:=(znk k).2.2;have r:=(znk l).2.2;have s:=(znk m).2.2;unfold zuM oN;conv=>zeta
 refine zbp (fun d=>zbJ aI h.1 (fun u=>absurd (qD d) (by omega))) (fun d=>?_);have u:¬ n<=0:=jQ d;have j:ine n 0=true:=(by simp[ine];omega);refine zbp (fun t=>zq f (zq j (zbJ aI (znl _) (fun e=>zHh i.1 e)))) (fun t=>?_);refine zq f (zq k (zq l (zq m (zq j (zbJ aI (znl _) (fun e=>zHh ?_ e))))));generalize zgC c=a at i;generalize zgC _=g at q;generalize zgC _=p at r;generalize zgC _=z at s;have v:zkS .i64 a 16777216=a*16777216:=zuJ (by omega) (by omega);have w:zkS .i64 g 65536=g*65536:=zuJ (by omega) (by omega);have y:zkS .i64 p 256=p*256:=zuJ (by omega) (by omega);rw[v,w,y,zrh (x:=a*16777216) (by omega) (by omega),zrh (x:=a*16777216+g*65536) (by omega) (by omega),zrh (by omega) (by omega)];omega
def zbce:zcN:=[(54,([false,true,true],zwY))]++zbcd
theorem zLv:zb2 zbce:=zcs zYV (by
 intro x a;simp only[qG,qN,or_false]at a;rcases a with rfl
 .exact zve)
def zxZ (N:Nat)(c:Cur)(a:Int):OA:=
 (oN (zD c a) (some [(.agg [(.s .u8 c.b),(.i .i64 (zf c a).i),(.i .i64 (zf c a).h)]),(aB (ieq (zk c a) 0))]))
def zpS (c:Cur)(a:Int)(s:Cur)(d:Bool):Prop:=(∃N,zxZ N c a=some (AV.agg (zb0 s)::[aB d]))/\(s.b=c.b/\0<=s.i)/\(True)
def zcK (c:Cur)(a:Int):Bool:=wC (zpS c a)
def zQ (c:Cur)(a:Int):Cur:=wS (zpS c a)
def zcT (c:Cur)(a:Int):Bool:=wV (zpS c a)
theorem z1z {c:Cur}{a:Int}(h:zcK c a=true):zpS c a (zQ c a) (zcT c a):=wG h
theorem zb6 (c:Cur)(a:Int):0<=(zQ c a).i:=wP fun h=>h.2.1.2
theorem z1A (c:Cur)(a:Int)(h:∃N,Ends (wE (fun d=>aB d) c.b fun d=>True) (zxZ N c a)):zcK c a=true:=wI (fun _ _ h=>h) h
def zzA:zdU:=rP1 dI fun c b=>(zcK c b,zQ c b,[aB (zcT c b)])
theorem zNZ:zbP Tryz.prog 94 [false,true,true] zzA:=hP1 zfX zbg zLv zo (zx []) (fun _ _ h=>(z1z h).1)
theorem zii {c:Cur}(h:zbc c)(n:Int):zcK c n=true:=by refine z1A c n ⟨0,?_⟩;unfold zxZ oN;exact zq (zbx h _) (zbJ aB (zJ _ _) trivial)
def zqn (N:Nat)(c:Cur)(a:List Int):OA:=
 (oN (zD c (ln a)) (oN (inb (zk c (ln a)) (ln a)) (some [(.agg [(.s .u8 c.b),(.i .i64 (zf c (ln a)).i),(.i .i64 (zf c (ln a)).h)]),(aI (ix a (zk c (ln a)) 0))])))
def zk0 (c:Cur)(a:List Int)(s:Cur)(d:Int):Prop:=(∃N,zqn N c a=some (AV.agg (zb0 s)::[aI d]))/\(s.b=c.b/\0<=s.i)/\((0<a.length->d∈a))
def zbq (c:Cur)(a:List Int):Bool:=wC (zk0 c a)
def zZ (c:Cur)(a:List Int):Cur:=wS (zk0 c a)
def zbk (c:Cur)(a:List Int):Int:=wV (zk0 c a)
theorem zAl {c:Cur}{a:List Int}(h:zbq c a=true):zk0 c a (zZ c a) (zbk c a):=wG h
theorem zb1 (c:Cur)(a0:List Int):0<=(zZ c a0).i:=wP fun h=>h.2.1.2
theorem zSk (c:Cur)(a:List Int)(h:∃N,Ends (wE (fun d=>aI d) c.b fun d=>(0<a.length->d∈a)) (zqn N c a)):zbq c a=true:=wI (fun _ _ h=>h) h
def ztH:zdU:=rP1 (dS .int) fun c b=>(zbq c b,zZ c b,[aI (zbk c b)])
theorem zsv:zbP Tryz.prog 83 [false,true,true] ztH:=hP1 zfX zbg zLv zo (zx []) (fun _ _ h=>(zAl h).1)
theorem zeQ {c:Cur}(h:zbc c){l:List Int}(b:l≠[]):zbq c l=true:=by refine zSk c l ⟨0,?_⟩;have d:0<ln l:=(by unfold ln;have:=kO.2 b;omega);have g:=(zhM (zbx h (ln l))).2.2 d;have a:inb (zk c (ln l)) (ln l)=true:=qJ ⟨g.1,g.2⟩;unfold zqn oN;exact zq (zbx h _) (zq a (zbJ aI (zJ _ _) (fun _=>zbB a 0)))
def zbcf:zcN:=[(94,([false,true,true],zzA)),(83,([false,true,true],ztH))]++zbce
theorem zYW:zb2 zbcf:=zcs zLv (by
 intro x a;simp only[qG,qN,or_false]at a;rcases a with rfl|rfl
 .exact zNZ
 .exact zsv)
def ctr3:zbb:=z3H
theorem zbcZ:zM ctr3:=zfX
def ctr4:zbb:=ctr3
theorem zbc0:zM ctr4:=zbcZ
def ctr5:zbb:=ctr4
theorem zbc1:zM ctr5:=zbc0
def ctr6:zbb:=ctr5
theorem zbc2:zM ctr6:=zbc1
def ctr7:zbb:=ctr6
theorem zbc3:zM ctr7:=zbc2
def ctr8:zbb:=ctr7
theorem zbc4:zM ctr8:=zbc3
def ctr9:zbb:=ctr8
theorem zbc5:zM ctr9:=zbc4
def zba1:zbb:=ctr9
theorem z8Y:zM zba1:=zbc5
def zba2:zbb:=zba1
theorem z8Z:zM zba2:=z8Y
def zba3:zbb:=zba2
theorem z81:zM zba3:=z8Z
def zba4:zbb:=zba3
theorem z88:zM zba4:=z81
def zba5:zbb:=zba4
theorem z9a:zM zba5:=z88
def zba6:zbb:=zba5
theorem z9b:zM zba6:=z9a
def zba7:zbb:=zba6
theorem z9c:zM zba7:=z9b
def zba8:zbb:=zba7
theorem z9d:zM zba8:=z9c
def zba9:zbb:=zba8
theorem z9e:zM zba9:=z9d
def zbba:zbb:=zba9
theorem z9f:zM zbba:=z9e
def zbbb:zbb:=zbba
theorem z9g:zM zbbb:=z9f
def zbbc:zbb:=zbbb
theorem z9h:zM zbbc:=z9g
def zbbd:zbb:=zbbc
theorem z9i:zM zbbd:=z9h
def ctrX:zbb:=zbbd
theorem zut:∀f a,zn ctrX f=some a->Holds Tryz.prog f a:=z9i
def zO (_ _ _:Int):Bool:=true
def zU (x a b:Int):Bool:=ige x a&&ile x b
def zJv:Run:=rF3 dI dI dI fun b c d=>(zO b c d,[aB (zU b c d)])
def zS7 (N:Nat)(a b c:Int):OA:=
 (cond (ige a b) (some [(aB (ile a c))]) oF)
theorem z1f (a b c:Int)(d:zO a b c=true):∃N,zS7 N a b c=some [aB (zU a b c)]:=by refine⟨0,?_⟩;unfold zS7 zU;cases ige a b<;>rfl
theorem zUH:vL 87 zJv:=kF3 zut zbg zA zo (zx []) z1f
def zcc (_ _:Int):Bool:=true
abbrev zcU (i n:Int):Bool:=hasB i n
def zT0:Run:=rF2 dI dI fun b c=>(zcc b c,[aB (zcU b c)])
def z2c (N:Nat)(a b:Int):OA:=
 (cond (ige a 0) (some [(aB (ilt a b))]) oF)
theorem z7q (a b:Int)(c:zcc a b=true):∃N,z2c N a b=some [aB (zcU a b)]:=by refine⟨0,?_⟩;unfold z2c zcU;rw[<- has_eq];cases ige a 0<;>rfl
theorem z0P:vL 55 zT0:=kF2 zut zbg zA zo (zx []) z7q
theorem zwT {n:Nat}(c:n<=big)(i:Int):zU i 0 (wsub .i64 (n:Int) 1)=hasB i n:=by rw[zog]at c;rw[zrj (by omega) (by omega)];unfold zU ige ile hasB;by_cases a:0<=i<;>by_cases b:i<n;{rw [qJ (p:=i≥0) (by omega),qJ (p:=i<=(n:Int)-1) (by omega),qJ (p:=0<=i/\i<(n:Int)) ⟨a,b⟩];rfl};{rw [qH (p:=i<=(n:Int)-1) (by omega),qH (p:=0<=i/\i<(n:Int)) (by omega)];simp};{rw [qH (p:=i≥0) (by omega),qH (p:=0<=i/\i<(n:Int)) (by omega)];simp};{rw [qH (p:=i≥0) (by omega),qH (p:=0<=i/\i<(n:Int)) (by omega)];simp}
def zgi (l:List (List Int)):Bool:=pc (CVB sm (.s (.sl .int) l))
abbrev zeL (l:List (List Int)):List (List Int):=l
def zDa:Run:=rF1 (dS (.sl .int)) fun b=>(zgi b,[aS (.sl .int) (zeL b)])
def zIJ (N:Nat)(c:lM):OA:=
 (iter (σ:=(Int×(lM×(lM×Unit)))) N (fun d a=>let b:=(ap [] (ix a.2.1 a.1 [])); (cond (ilt a.1 (ln a.2.1)) (oN (inb a.1 (ln a.2.1)) (oN (few (ln b)) (oN (few (ln (ap a.2.2.1 [b]))) (d ((zL .i64 a.1 1),(a.2.1,((ap a.2.2.1 [b]),()))))))) (some [(aS (.sl .int) a.2.2.1)]))) (0,(c,([],()))))
def zVS:FuncId->Nat->Option Tmpl:=zx [(131,0,{n:=22,tm:=[(0,.sl 0 []),(3,.sl 1 []),(4,ti)],lo:=[],ro:=[(0,(.sl .int),false),(1,(.sl .int),true)]})]
theorem zVq (b:List (List Int))(f:zgi b=true):∃N,zIJ N b=some [aS (.sl .int) (zeL b)]:=by
 have e:=zN.1 f;have d:=zc5 e.len;refine⟨b.length+1,?_⟩;unfold zIJ oN;conv=>zeta
 refine(zbj b (fun i a=>((i:Int),(b,(a,())))) _ (fun _ x a k=>bif few (ln x) then (cond (few (ln (ap a [x]))) (k (ap a [x])) none) else none) (fun a=>some [AV.one (.s (.sl .int) a)])
  (fun i c t rec=>?_) (fun t rec=>?_) _ [] (vG _)).trans ((zjB (fun x=>few (ln x)) (fun x=>x) _ b 0 [] (fun x g=>⟨zgV (zc5 (e.inv.2 x g _ (qF.2 rfl)).len).2,rfl⟩) (by simpa using d.2)))
 {simp only [zbS c,zbl c,zbv c,cT,zbh c d.1,zmS]};{simp only [zbK,cF]}
theorem zN2:vL 131 zDa:=kF1 zut zbg zA zo zVS zVq
abbrev zgj (k:Kept):Bool:=pc (∀c∈Ty.cells .kept k,CVB sm c)
abbrev zdI (k:Kept):Kept:=k
def zDb:Run:=rF1 (dT .kept) fun b=>(zgj b,[aT .kept (zdI b)])
def zIK (N:Nat)(a:Kept):OA:=
 (oN (few (ln (ap [] a.Known))) (oN (few (ln (ap [] a.Slots))) (some [(.agg [(.s .bool (ap [] a.Known)),(.s .slot (ap [] a.Slots))])])))
theorem zVr (a:Kept)(d:zgj a=true):∃N,zIK N a=some [aT .kept (zdI a)]:=by have h:=zN.1 d;have b:=zoR (h (.s .bool a.Known) (by simp[Ty.cells]));have c:=zoR (h (.s .slot a.Slots) (by simp[Ty.cells]));refine⟨0,?_⟩;simp only[zIK,zmS,b,c,cT];rfl
theorem zN4:vL 197 zDb:=kF1 zut zbg zA zo (zx []) zVr
def zdA (g:Guest):Bool:=pc (∀c∈Ty.cells .guest g,CVB sm c)
abbrev zdb (g:Guest):Guest:=g
def zDc:Run:=rF1 (dT .guest) fun b=>(zdA b,[aT .guest (zdb b)])
def zIL (N:Nat)(a:Guest):OA:=
 (oN (few (ln (ap [] a.Prog))) (oN (few (ln (ap [] a.Written))) (oN (few (ln (ap [] a.Live))) (oN (few (ln (ap [] a.Seen))) (some [(.agg [(.s .ins (ap [] a.Prog)),(.i .i64 a.A),(.i .i64 a.Pc),(.s .slot (ap [] a.Written)),(.s .slot (ap [] a.Live)),(.i .i64 a.Ctl.Traps),(.i .i64 a.Ctl.Post),(.b a.Ctl.Open),(.i .i64 a.Pending),(.i .i64 a.Exit.Kind),(.i .i64 a.Exit.Page),(.b a.Exit.Write),(.i .i64 a.Exit.N),(.b a.Halted),(.s .int (ap [] a.Seen))])])))))
theorem zVs (a:Guest)(f:zdA a=true):∃N,zIL N a=some [aT .guest (zdb a)]:=by have h:=zN.1 f;have b:=zoR (h (.s .ins a.Prog) (by simp[Ty.cells]));have c:=zoR (h (.s .slot a.Written) (by simp[Ty.cells]));have d:=zoR (h (.s .slot a.Live) (by simp[Ty.cells]));have e:=zoR (h (.s .int a.Seen) (by simp[Ty.cells]));refine⟨0,?_⟩;simp only[zIL,zmS,b,c,d,e,cT];rfl
theorem zN8:vL 272 zDc:=kF1 zut zbg zA zo (zx []) zVs
def zbbe:zbb:=[(87,zJv),(55,zT0),(131,zDa),(197,zDb),(272,zDc)]++ctrX
theorem zWM:zM zbbe:=zi zUH (zi z0P (zi zN2 (zi zN4 (zi zN8 zut))))
def zfS (l:List Guest):Bool:=pc (CVB sm (.s .guest l))
abbrev zgl (l:List Guest):List Guest:=l
def zxn:Run:=rF1 (dS .guest) fun b=>(zfS b,[aS .guest (zgl b)])
def zCq (N:Nat)(c:lG):OA:=
 (iter (σ:=(Int×(lG×(lG×Unit)))) N (fun d a=>let b:=(ix a.2.1 a.1 zl); (cond (ilt a.1 (ln a.2.1)) (oN (inb a.1 (ln a.2.1)) (oN (zdA b) (oN (few (ln (ap a.2.2.1 [(zdb b)]))) (d ((zL .i64 a.1 1),(a.2.1,((ap a.2.2.1 [(zdb b)]),()))))))) (some [(aS .guest a.2.2.1)]))) (0,(c,([],()))))
def zPR:FuncId->Nat->Option Tmpl:=zx [(196,0,{n:=21,tm:=[(0,.sl 0 []),(3,.sl 1 []),(4,ti)],lo:=[],ro:=[(0,.guest,false),(1,.guest,true)]})]
theorem zOL (b:List Guest)(f:zfS b=true):∃N,zCq N b=some [aS .guest (zgl b)]:=by
 have e:=zN.1 f;have d:=zc5 e.len;refine⟨b.length+1,?_⟩;unfold zCq oN;conv=>zeta
 refine(zbj b (fun i a=>((i:Int),(b,(a,())))) _ (fun _ x a k=>bif zdA x then (cond (few (ln (ap a [zdb x]))) (k (ap a [zdb x])) none) else none) (fun a=>some [AV.one (.s .guest a)])
  (fun i c t rec=>?_) (fun t rec=>?_) _ [] (vG _)).trans ((zjB zdA zdb _ b 0 [] (fun x g=>⟨zby (e.inv.2 x g),rfl⟩) (by simpa using d.2)))
 {simp only [zbS c,zbl c,zbv c,cT,zbh c d.1]};{simp only [zbK,cF]}
theorem zHL:vL 196 zxn:=kF1 zWM zbg zA zo zPR zOL
def zbbf:zbb:=[(196,zxn)]++zbbe
theorem zWN:zM zbbf:=zi zHL zWM
abbrev zj5 (m:Mon):Bool:=pc (∀c∈Ty.cells .mon m,CVB sm c)
abbrev zn9 (m:Mon):Mon:=m
def zGb:Run:=rF1 (dT .mon) fun b=>(zj5 b,[aT .mon (zn9 b)])
def zMO (N:Nat)(b:Mon):OA:=
 (oN (few (ln (ap [] b.Outer))) (oN (zgi b.Out) (oN (few (ln (ap [] b.Dirty))) (oN (zfS b.Guests) (oN (few (ln (ap [] b.Outs))) (iter (σ:=(Int×(Int×(Int×(Int×(Int×(Int×(Int×(lK×(lS×(lM×(lB×(lG×((List Int)×(lK×(lS×(lM×(lB×(lG×((List Int)×(lK×Unit))))))))))))))))))))) N (fun f a=>let e:=a.2.2.2.2.2.2.2.2.2.2.2.2.1;let c:=a.2.2.2.2.2.2.2.2.2.2.2.2.2.1;let d:=(ap a.2.2.2.2.2.2.2.1 [(zdI (ix c a.1 zeU))]); (cond (ilt a.1 (ln c)) (oN (inb a.1 (ln c)) (oN (zgj (ix c a.1 zeU)) (oN (few (ln d)) (f ((zL .i64 a.1 1),(a.2.1,(a.2.2.1,(a.2.2.2.1,(a.2.2.2.2.1,(a.2.2.2.2.2.1,(a.2.2.2.2.2.2.1,(d,(a.2.2.2.2.2.2.2.2.1,(a.2.2.2.2.2.2.2.2.2.1,(a.2.2.2.2.2.2.2.2.2.2.1,(a.2.2.2.2.2.2.2.2.2.2.2.1,(e,(c,(a.2.2.2.2.2.2.2.2.2.2.2.2.2.2.1,(a.2.2.2.2.2.2.2.2.2.2.2.2.2.2.2.1,(a.2.2.2.2.2.2.2.2.2.2.2.2.2.2.2.2.1,(a.2.2.2.2.2.2.2.2.2.2.2.2.2.2.2.2.2.1,(a.2.2.2.2.2.2.2.2.2.2.2.2.2.2.2.2.2.2.1,(a.2.2.2.2.2.2.2.2.2.2.2.2.2.2.2.2.2.2.2.1,())))))))))))))))))))))))) (some [(.agg [(.s .slot a.2.2.2.2.2.2.2.2.1),(.s (.sl .int) a.2.2.2.2.2.2.2.2.2.1),(.s .bool a.2.2.2.2.2.2.2.2.2.2.1),(.s .guest a.2.2.2.2.2.2.2.2.2.2.2.1),(.s .int e),(.i .i64 a.2.1),(.i .i64 a.2.2.1),(.s .kept a.2.2.2.2.2.2.2.1),(.i .i64 a.2.2.2.1)])]))) (0,(b.Pending,(b.Traps,(b.Own,(0,(0,(0,([],((ap [] b.Outer),((zeL b.Out),((ap [] b.Dirty),((zgl b.Guests),((ap [] b.Outs),(b.Tables,([],([],([],([],([],([],()))))))))))))))))))))))))))
def z0g:FuncId->Nat->Option Tmpl:=zx [(117,0,{n:=48,tm:=[(1,.lp 0 0),(2,.lp 1 0),(3,.sl 0 []),(4,ti)],lo:=[(0,[.sl 1 [],.sl 2 [],.sl 3 [],.sl 4 [],.sl 5 [],ti,ti,.sl 6 [],ti]),(1,[.sl 7 [],.sl 8 [],.sl 9 [],.sl 10 [],.sl 11 [],ti,ti,.sl 12 [],ti])],ro:=[(0,.kept,true),(1,.slot,true),(2,(.sl .int),true),(3,.bool,true),(4,.guest,true),(5,.int,true),(6,.kept,false),(7,.slot,true),(8,(.sl .int),true),(9,.bool,true),(10,.guest,true),(11,.int,true),(12,.kept,true)]})]
theorem zYy (a:Mon)(n:zj5 a=true):∃N,zMO N a=some [aT .mon (zn9 a)]:=by
 have h:=zN.1 n;have f:=zoR (h (.s .slot a.Outer) (by simp[Ty.cells]));have g:zgi a.Out=true:=zby (h (.s (.sl .int) a.Out) (by simp[Ty.cells]));have j:=zoR (h (.s .bool a.Dirty) (by simp[Ty.cells]));have l:zfS a.Guests=true:=zby (h (.s .guest a.Guests) (by simp[Ty.cells]));have m:=zoR (h (.s .int a.Outs) (by simp[Ty.cells]));have d:CVB sm (.s .kept a.Tables):=h (.s .kept a.Tables) (by simp[Ty.cells]);have e:=zc5 d.len;refine⟨a.Tables.length+1,?_⟩;unfold zMO oN;conv=>zeta
 simp only[zmS,f,g,j,l,m,cT];refine(zbj a.Tables (fun i b=>((i:Int),a.Pending,a.Traps,a.Own,0,0,0,b,a.Outer,zeL a.Out,a.Dirty,zgl a.Guests,a.Outs,a.Tables,[],[],[],[],[],[],())) _
  (fun _ x b k=>bif zgj x then (cond (few (ln (ap b [zdI x]))) (k (ap b [zdI x])) none) else none) (fun b=>some [AV.agg (Ty.cells .mon ⟨a.Outer,a.Out,a.Dirty,a.Guests,a.Outs,a.Pending,a.Traps,b,a.Own⟩)])
  (fun i c t rec=>?_) (fun t rec=>?_) _ [] (vG _)).trans ((zjB zgj zdI _ a.Tables 0 [] (fun x p=>⟨zby (d.inv.2 x p),rfl⟩) (by simpa using e.2)))
 {simp only [zbS c,zbl c,zbv c,cT,zbh c e.1]};{simp only [zbK,cF];rfl}
theorem zRd:vL 117 zGb:=kF1 zWN zbg zA zo z0g zYy
def zbbg:zbb:=[(117,zGb)]++zbbf
theorem zWO:zM zbbg:=zi zRd zWN
def zot (h:Host)(_:Int):Bool:=pc (zct h)
def zlB (h:Host)(m:Int):Mon:=bif hasB m (ln h.Mons) then ix h.Mons m zh else Ty.dflt .mon
def zGl (h:Host)(m:Int):Bool:=hasB m (ln h.Mons)
def zJq:Run:=rF2 dH dI fun b c=>(zot b c,[aT .mon (zlB b c),aB (zGl b c)])
def zS2 (N:Nat)(b:Host)(c:Int):OA:=
 let d:=(ix b.Mons c zh);let a:=(zn9 d); (oN (zO c 0 (wsub .i64 (ln b.Mons) 1)) (cond (nB (zU c 0 (wsub .i64 (ln b.Mons) 1))) (some [(.agg [(.s .slot []),(.s (.sl .int) []),(.s .bool []),(.s .guest []),(.s .int []),(.i .i64 0),(.i .i64 0),(.s .kept []),(.i .i64 0)]),(aB false)]) (oN (inb c (ln b.Mons)) (oN (zj5 d) (some [(.agg [(.s .slot a.Outer),(.s (.sl .int) a.Out),(.s .bool a.Dirty),(.s .guest a.Guests),(.s .int a.Outs),(.i .i64 a.Pending),(.i .i64 a.Traps),(.s .kept a.Tables),(.i .i64 a.Own)]),(aB true)])))))
theorem z1a (b:Host)(a:Int)(f:zot b a=true):∃N,zS2 N b a=some [aT .mon (zlB b a),aB (zGl b a)]:=by
 have h:=(zN.1 f).mons;refine⟨0,?_⟩;unfold zS2 zlB zGl oN nB;conv=>zeta
 have e:zU a 0 (wsub .i64 (ln b.Mons) 1)=hasB a (ln b.Mons):=zwT (zc5 h.len).1 a;rw[e];cases c:hasB a (ln b.Mons);{simp [zO,Ty.cells,Ty.dflt]};{have d:zj5 (ix b.Mons a zh)=true:=zby (h.inv.2 _ (zbB c _));simp only[zO,cT,kT,cF,zy c,d];rfl}
theorem zUC:vL 57 zJq:=kF2 zWO zbg zA zo (zx []) z1a
def zbbh:zbb:=[(57,zJq)]++zbbg
theorem z9j:zM zbbh:=zi zUC zWO
def zbbi:zbb:=zbbh
theorem z9k:zM zbbi:=z9j
def z9A:zbb:=zbbi
theorem zqw:∀f a,zn z9A f=some a->Holds Tryz.prog f a:=z9k
def noSlot:Slot:=⟨-1,0⟩
def zcA:Bool:=true
abbrev zbw:Slot:=noSlot
def zvN:Run:=rF0 (zcA,[aT .slot zbw])
def z3s (N:Nat)  : OA :=
 (some [(.agg [(.i .i64 (-1)),(.i .i64 0)])])
theorem zYk  (a:zcA=true):∃N,z3s N  = some [aT .slot zbw]:=by exact⟨0,rfl⟩
theorem zzl:vL 75 zvN:=kF0 zqw zbg zA zo (zx []) zYk
def zdw:Bool:=true
abbrev zcQ:Slot:=noSlot
def zFx:Run:=rF0 (zdw,[aT .slot zcQ])
def z3q (N:Nat)  : OA :=
 (some [(.agg [(.i .i64 (-1)),(.i .i64 0)])])
theorem zXR  (a:zdw=true):∃N,z3q N  = some [aT .slot zcQ]:=by exact⟨0,rfl⟩
theorem zQr:vL 126 zFx:=kF0 zqw zbg zA zo (zx []) zXR
def zbU (_ _ _:Int):Bool:=true
def zcd (x a b:Int):Bool:=ige x a&&ile x b
def zFN:Run:=rF3 dI dI dI fun b c d=>(zbU b c d,[aB (zcd b c d)])
def zMp (N:Nat)(a b c:Int):OA:=
 (cond (ige a b) (some [(aB (ile a c))]) oF)
theorem zX7 (a b c:Int)(d:zbU a b c=true):∃N,zMp N a b c=some [aB (zcd a b c)]:=by refine⟨0,?_⟩;unfold zMp zcd;cases ige a b<;>rfl
theorem zQH:vL 171 zFN:=kF3 zqw zbg zA zo (zx []) zX7
def zbbl:zbb:=[(75,zvN),(126,zFx),(171,zFN)]++z9A
theorem zJ3:zM zbbl:=zi zzl (zi zQr (zi zQH zqw))
def zcS (r:Int):Bool:=ige r 0&&ile r 3
def zjb (_:Int):Bool:=true
abbrev zg5 (r:Int):Bool:=zcS r
def zz9:Run:=rF1 dI fun b=>(zjb b,[aB (zg5 b)])
def zWp (N:Nat)(a:Int):OA:=
 (oN (zO a 0 3) (some [(aB (zU a 0 3))]))
theorem zRR (a:Int)(b:zjb a=true):∃N,zWp N a=some [aB (zg5 a)]:=by exact⟨0,rfl⟩
theorem zKO:vL 119 zz9:=kF1 zJ3 zbg zA zo (zx []) zRR
def ziZ (_:Int):Bool:=true
abbrev zg2 (r:Int):Bool:=zcS r
def zzQ:Run:=rF1 dI fun b=>(ziZ b,[aB (zg2 b)])
def zWl (N:Nat)(a:Int):OA:=
 (oN (zbU a 0 3) (some [(aB (zcd a 0 3))]))
theorem zRu (a:Int)(b:ziZ a=true):∃N,zWl N a=some [aB (zg2 a)]:=by exact⟨0,rfl⟩
theorem zKt:vL 118 zzQ:=kF1 zJ3 zbg zA zo (zx []) zRu
def zbbm:zbb:=[(119,zz9),(118,zzQ)]++zbbl
theorem znK:zM zbbm:=zi zKO (zi zKt zJ3)
def zdv (a b:Int):Int:=bif zcS a then (cond (zcS b) (wand .i64 a b) 0) else 0
def zqZ (_ _:Int):Bool:=true
abbrev zhK (a b:Int):Int:=zdv a b
def zvG:Run:=rF2 dI dI fun b c=>(zqZ b c,[aI (zhK b c)])
def zy2 (N:Nat)(a b:Int):OA:=
 (oN (zjb a) (cond (nB (zg5 a)) (some [(aI 0)]) (oN (zjb b) (cond (nB (zg5 b)) (some [(aI 0)]) (some [(aI (wand .i64 a b))])))))
theorem zLg (a b:Int)(c:zqZ a b=true):∃N,zy2 N a b=some [aI (zhK a b)]:=by refine⟨0,?_⟩;unfold zy2 zhK zdv zg5 oN nB;cases zcS a<;>cases zcS b<;>rfl
theorem zEM:vL 331 zvG:=kF2 znK zbg zA zo (zx []) zLg
def zqE (_ _:Int):Bool:=true
abbrev zhE (a b:Int):Int:=zdv a b
def zvC:Run:=rF2 dI dI fun b c=>(zqE b c,[aI (zhE b c)])
def zyW (N:Nat)(a b:Int):OA:=
 (oN (ziZ a) (cond (nB (zg2 a)) (some [(aI 0)]) (oN (ziZ b) (cond (nB (zg2 b)) (some [(aI 0)]) (some [(aI (wand .i64 a b))])))))
theorem zK9 (a b:Int)(c:zqE a b=true):∃N,zyW N a b=some [aI (zhE a b)]:=by refine⟨0,?_⟩;unfold zyW zhE zdv zg2 oN nB;cases zcS a<;>cases zcS b<;>rfl
theorem zEI:vL 329 zvC:=kF2 znK zbg zA zo (zx []) zK9
def enough (a b:Int):Bool:=bif zcS a then (cond (zcS b) (ieq (wand .i64 a b) b) false) else false
def zg4 (_ _:Int):Bool:=true
abbrev zhL (a b:Int):Bool:=enough a b
def zFQ:Run:=rF2 dI dI fun b c=>(zg4 b c,[aB (zhL b c)])
def zMt (N:Nat)(b a:Int):OA:=
 (oN (zjb b) (cond (zg5 b) (oN (zjb a) (cond (zg5 a) (some [(aB (ieq (wand .i64 b a) a))]) oF)) oF))
theorem zYb (a b:Int)(c:zg4 a b=true):∃N,zMt N a b=some [aB (zhL a b)]:=by refine⟨0,?_⟩;unfold zMt zhL enough zg5 oN;cases zcS a<;>cases zcS b<;>rfl
theorem zQK:vL 65 zFQ:=kF2 znK zbg zA zo (zx []) zYb
def zdJ (_ _:Int):Bool:=true
abbrev zea (a b:Int):Bool:=enough a b
def zFp:Run:=rF2 dI dI fun b c=>(zdJ b c,[aB (zea b c)])
def zL2 (N:Nat)(b a:Int):OA:=
 (oN (ziZ b) (cond (zg2 b) (oN (ziZ a) (cond (zg2 a) (some [(aB (ieq (wand .i64 b a) a))]) oF)) oF))
theorem zXJ (a b:Int)(c:zdJ a b=true):∃N,zL2 N a b=some [aB (zea a b)]:=by refine⟨0,?_⟩;unfold zL2 zea enough zg2 oN;cases zcS a<;>cases zcS b<;>rfl
theorem zQj:vL 64 zFp:=kF2 znK zbg zA zo (zx []) zXJ
def zbu (t:List Slot)(p:Int):Slot:=bif hasB p (ln t) then ix t p zW else noSlot
def zpP (_:List Slot)(_:Int):Bool:=true
abbrev zjY (t:List Slot)(p:Int):Slot:=zbu t p
def zF3:Run:=rF2 (dS .slot) dI fun b c=>(zpP b c,[aT .slot (zjY b c)])
def zMG (N:Nat)(a:lS)(b:Int):OA:=
 (oN (zO b 0 (wsub .i64 (ln a) 1)) (cond (nB (zU b 0 (wsub .i64 (ln a) 1))) (oN zcA (some [(.agg [(.i .i64 zbw.Page),(.i .i64 zbw.Rights)])])) (oN (inb b (ln a)) (some [(.agg [(.i .i64 (ix a b zW).Page),(.i .i64 (ix a b zW).Rights)])]))))
theorem zYq (b:List Slot)(a:Int)(c:zcE big [aS .slot b,aI a])(g:zpP b a=true):∃N,zMG N b a=some [aT .slot (zjY b a)]:=by have f:=(len0 c);refine⟨0,?_⟩;unfold zMG zjY zbu oN nB;have e:zU a 0 (wsub .i64 (ln b) 1)=hasB a (ln b):=zOp f a;rw[e];cases d:hasB a (ln b);{rfl};{rw [zy d];rfl}
theorem zQX:vL 285 zF3:=hF2 znK zbg zA zo (zx []) zYq
def zl9 (_:List Slot)(_:Int):Bool:=true
abbrev zjL (t:List Slot)(p:Int):Slot:=zbu t p
def zFF:Run:=rF2 (dS .slot) dI fun b c=>(zl9 b c,[aT .slot (zjL b c)])
def zMh (N:Nat)(a:lS)(b:Int):OA:=
 (oN (zcc b (ln a)) (cond (nB (zcU b (ln a))) (oN zdw (some [(.agg [(.i .i64 zcQ.Page),(.i .i64 zcQ.Rights)])])) (oN (inb b (ln a)) (some [(.agg [(.i .i64 (ix a b zW).Page),(.i .i64 (ix a b zW).Rights)])]))))
theorem zXZ (a:List Slot)(b:Int)(d:zl9 a b=true):∃N,zMh N a b=some [aT .slot (zjL a b)]:=by refine⟨0,?_⟩;unfold zMh zjL zbu zcU oN nB;cases c:hasB b (ln a);{rfl};{rw [zy c];rfl}
theorem zQz:vL 271 zFF:=kF2 znK zbg zA zo (zx []) zXZ
def zbbn:zbb:=[(331,zvG),(329,zvC),(65,zFQ),(64,zFp),(285,zF3),(271,zFF)]++zbbm
theorem zJ4:zM zbbn:=zi zEM (zi zEI (zi zQK (zi zQj (zi zQX (zi zQz znK)))))
def zc4 (a b:Slot):Bool:=ieq a.Page b.Page&&ieq a.Rights b.Rights
def below' (a b:Slot):Bool:=bif zc4 a noSlot then true else (cond (ieq a.Page b.Page) (enough b.Rights a.Rights) false)
def zbr (s:Slot)(a:List Slot):Slot :=
 bif ieq s.Page (-1) then noSlot else (cond (ieq (zbu a s.Page).Page (-1)) noSlot (cond (ieq (zdv s.Rights (zbu a s.Page).Rights) 0) noSlot ⟨(zbu a s.Page).Page,zdv s.Rights (zbu a s.Page).Rights⟩))
def zkY (_:Slot)(_:List Slot):Bool:=true
def znw (s:Slot)(a:List Slot):Slot:=zbr s a
def ztM:Run:=rF2 (dT .slot) (dS .slot) fun b c=>(zkY b c,[aT .slot (znw b c)])
def zwi (N:Nat)(a:Slot)(c:lS):OA:=
 let b:=(zjY c a.Page); (oN (zpP c a.Page) (oN (zqZ a.Rights b.Rights) (cond (ieq a.Page (-1)) (oN zcA (some [(.agg [(.i .i64 zbw.Page),(.i .i64 zbw.Rights)])])) (cond (ieq b.Page (-1)) (oN zcA (some [(.agg [(.i .i64 zbw.Page),(.i .i64 zbw.Rights)])])) (cond (ieq (zhK a.Rights b.Rights) 0) (oN zcA (some [(.agg [(.i .i64 zbw.Page),(.i .i64 zbw.Rights)])])) (some [(.agg [(.i .i64 b.Page),(.i .i64 (zhK a.Rights b.Rights))])]))))))
theorem zHP (a:Slot)(b:List Slot)(c:zkY a b=true):∃N,zwi N a b=some [aT .slot (znw a b)]:=by
 refine⟨0,?_⟩;unfold zwi znw zbr zjY zhK oN;conv=>zeta
 cases ieq a.Page (-1)<;>cases ieq (zbu b a.Page).Page (-1)<;>cases ieq (zdv a.Rights (zbu b a.Page).Rights) 0<;>rfl
theorem zDw:vL 324 ztM:=kF2 zJ4 zbg zA zo (zx []) zHP
def zkT (_:Slot)(_:List Slot):Bool:=true
def znu (s:Slot)(a:List Slot):Slot:=zbr s a
def ztJ:Run:=rF2 (dT .slot) (dS .slot) fun b c=>(zkT b c,[aT .slot (znu b c)])
def zwf (N:Nat)(a:Slot)(c:lS):OA:=
 let b:=(zjL c a.Page); (oN (zl9 c a.Page) (oN (zqE a.Rights b.Rights) (cond (ieq a.Page (-1)) (oN zdw (some [(.agg [(.i .i64 zcQ.Page),(.i .i64 zcQ.Rights)])])) (cond (ieq b.Page (-1)) (oN zdw (some [(.agg [(.i .i64 zcQ.Page),(.i .i64 zcQ.Rights)])])) (cond (ieq (zhE a.Rights b.Rights) 0) (oN zdw (some [(.agg [(.i .i64 zcQ.Page),(.i .i64 zcQ.Rights)])])) (some [(.agg [(.i .i64 b.Page),(.i .i64 (zhE a.Rights b.Rights))])]))))))
theorem zHM (a:Slot)(b:List Slot)(c:zkT a b=true):∃N,zwf N a b=some [aT .slot (znu a b)]:=by
 refine⟨0,?_⟩;unfold zwf znu zbr zjL zhE oN;conv=>zeta
 cases ieq a.Page (-1)<;>cases ieq (zbu b a.Page).Page (-1)<;>cases ieq (zdv a.Rights (zbu b a.Page).Rights) 0<;>rfl
theorem zDt:vL 315 ztJ:=kF2 zJ4 zbg zA zo (zx []) zHM
def zdF (x:Int):Int:=bif (ige x 1&&ile x 6) then zSM .i64 (wsub .i64 x 1) 2 else -1
def zer (x:Int):Int:=bif (ige x 1&&ile x 6) then zjn (wsub .i64 x 1) 2 else -1
def zbbo:zbb:=[(324,ztM),(315,ztJ)]++zbbn
theorem z9n:zM zbbo:=zi zDw (zi zDt zJ4)
def zbbp:zbb:=zbbo
theorem z9o:zM zbbp:=z9n
def zc8 (h:Host)(e:Entry):Bool :=
 bif hasB (zdF e.Tag) (ln h.Mons) then (bif hasB (zer e.Tag) (ln (ix h.Mons (zdF e.Tag) zh).Guests) then
  below' ⟨e.Host,e.Rights⟩ (zbr (zbu (ix (ix h.Mons (zdF e.Tag) zh).Guests (zer e.Tag) zl).Live e.Page) (ix h.Mons (zdF e.Tag) zh).Outer) else false) else false
def zbbq:zbb:=zbbp
theorem z9p:zM zbbq:=z9o
def ctrW:zbb:=zbbq
theorem zP2:∀f a,zn ctrW f=some a->Holds Tryz.prog f a:=z9p
theorem hE (h:Host):(⟨h.Memory,h.Mons,h.Buffer,h.IoBuffer⟩:Host)=h:=rfl
def idxs {a:Type}(p:a->Bool):List a->Nat->List Int
 |[],_=>[]
 |x::l,i=>bif p x then (i:Int)::idxs p l (i+1) else idxs p l (i+1)
theorem zBn {a:Type}(p:a->Bool):∀(l:List a) (i:Nat),(idxs p l i).length<=l.length
 |[],_=>qY _
 |x::l,i=>by have:=zBn p l (i+1);simp only[idxs];cases p x<;>simp<;>omega
theorem zu5 {b c:Type}(p:b->Bool)(K:List Int->Option c):∀(l:List b) (i:Nat) (a:List Int),a.length+l.length<=2147483648->
 goL (fun i x a k=>bif p x then (cond (few (ln (ap a [(i:Int)]))) (k (ap a [(i:Int)])) none) else k a) K l i a=K (a++idxs p l i)
 |[],i,a,_=>by simp[goL,idxs]
 |x::l,i,a,h=>by simp only[qZ]at h;simp only[goL,idxs];cases p x;{simp only [cF];exact zu5 p K l (i+1) a (by omega)};{simp only [cT];rw[zgV (by simp[ap];omega),cT,zu5 p K l (i+1) _ (by simp[ap];omega)];simp[ap]}
def zyn (p:Nat->Bool):Nat->Nat->List Int
 | 0,_=>[]
 |n+1,i=>bif p i then (i:Int)::zyn p n (i+1) else zyn p n (i+1)
theorem zA0 {b:Type}(p:Nat->Bool)(K:List Int->Option b):∀(n i:Nat) (a:List Int),a.length+n<=2147483648->
 goN (fun i a k=>bif p i then (cond (few (ln (ap a [(i:Int)]))) (k (ap a [(i:Int)])) none) else k a) K n i a=K (a++zyn p n i)
 | 0,i,a,_=>by simp[goN,zyn]
 |n+1,i,a,h=>by simp only[goN,zyn];cases p i;{simp only [cF];exact zA0 p K n (i+1) a (by omega)};{simp only [cT];rw[zgV (by simp[ap];omega),cT,zA0 p K n (i+1) _ (by simp[ap];omega)];simp[ap]}
abbrev zBN (l:List Slot)(_:Int):Bool:=pc (l.length<=2147483648)
abbrev zq6 (l:List Slot)(p:Int):List Int:=idxs (fun (s:Slot)=>ieq s.Page p) l 0
def zF7:Run:=rF2 (dS .slot) dI fun b c=>(zBN b c,[aS .int (zq6 b c)])
def zMK (N:Nat)(c:lS)(d:Int):OA:=
 (iter (σ:=(Int×(Int×(lS×((List Int)×Unit))))) N (fun b a=>(cond (ilt a.2.1 (ln a.2.2.1)) (oN (inb a.2.1 (ln a.2.2.1)) (cond (ieq (ix a.2.2.1 a.2.1 zW).Page a.1) (oN (few (ln (ap a.2.2.2.1 [a.2.1]))) (b (a.1,((zL .i64 a.2.1 1),(a.2.2.1,((ap a.2.2.2.1 [a.2.1]),())))))) (b (a.1,((zL .i64 a.2.1 1),(a.2.2.1,(a.2.2.2.1,()))))))) (some [(aS .int a.2.2.2.1)]))) (d,(0,(c,([],())))))
def z0c:FuncId->Nat->Option Tmpl:=zx [(61,0,{n:=26,tm:=[(0,.sl 0 []),(1,ti),(5,.sl 1 []),(6,ti)],lo:=[],ro:=[(0,.slot,false),(1,.int,true)]})]
theorem zYu (b:List Slot)(a:Int)(g:zcE big [aS .slot b,aI a])(h:zBN b a=true):∃N,zMK N b a=some [aS .int (zq6 b a)]:=by have e:=(len0 g);have j:=zN.1 h;refine zcw fun N d=>?_;unfold zMK oN;refine(zbj b (fun i (t:(List Int))=>(a,(i:Int),b,t,())) _ (fun i (x:Slot) (t:List Int) f=>bif ieq x.Page a then (cond (few (ln (ap t [(i:Int)]))) (f (ap t [(i:Int)])) none) else f t) (fun (t:(List Int))=>(some [(.one (.s .int t))])) (fun i c t rec=>?_) (fun t rec=>?_) _ ([]) (d e)).trans ?_;{simp only [zbS c,zbl c,zbv c,zbh c e,cT]};{simp only [zbK,cF]};exact zu5 (fun (s:Slot)=>ieq s.Page a) _ _ 0 [] (by simpa using j)
theorem zQ1:vL 61 zF7:=hF2 zP2 zbg zA zo z0c zYu
abbrev zBi (l:List Slot)(_:Int):Bool:=pc (l.length<=2147483648)
abbrev zli (l:List Slot)(p:Int):List Int:=idxs (fun (s:Slot)=>ieq s.Page p) l 0
def zFJ:Run:=rF2 (dS .slot) dI fun b c=>(zBi b c,[aS .int (zli b c)])
def zMl (N:Nat)(d:lS)(f:Int):OA:=
 (iter (σ:=(Int×(Int×(Int×((List Int)×(lS×Unit)))))) N (fun e a=>let c:=a.2.2.2.2.1;let b:=a.2.2.1; (cond (ilt b a.2.1) (oN (inb b (ln c)) (cond (ieq (ix c b zW).Page a.1) (oN (few (ln (ap a.2.2.2.1 [b]))) (e (a.1,(a.2.1,((zL .i64 b 1),((ap a.2.2.2.1 [b]),(c,()))))))) (e (a.1,(a.2.1,((zL .i64 b 1),(a.2.2.2.1,(c,())))))))) (some [(aS .int a.2.2.2.1)]))) (f,((ln d),(0,([],(d,()))))))
def zZ2:FuncId->Nat->Option Tmpl:=zx [(204,0,{n:=26,tm:=[(1,ti),(5,.sl 0 []),(9,.sl 1 []),(10,ti),(11,ti)],lo:=[],ro:=[(0,.int,true),(1,.slot,false)]})]
theorem zX3 (a:List Slot)(b:Int)(g:zcE big [aS .slot a,aI b])(h:zBi a b=true):∃N,zMl N a b=some [aS .int (zli a b)]:=by
 have e:=(len0 g);have j:=zN.1 h;refine zcw fun N d=>?_;unfold zMl oN;conv=>zeta
 refine(zbj a (fun i (t:(List Int))=>(b,(ln a),(i:Int),t,a,())) _ (fun i (x:Slot) (t:List Int) f=>bif ieq x.Page b then (cond (few (ln (ap t [(i:Int)]))) (f (ap t [(i:Int)])) none) else f t) (fun (t:(List Int))=>(some [(.one (.s .int t))])) (fun i c t rec=>?_) (fun t rec=>?_) _ ([]) (d e)).trans ?_;{simp only [zbS c,zbl c,zbv c,zbh c e,cT]};{simp only [zbK,cF]};exact zu5 (fun (s:Slot)=>ieq s.Page b) _ _ 0 [] (by simpa using j)
theorem zQD:vL 204 zFJ:=hF2 zP2 zbg zA zo zZ2 zX3
def zbbr:zbb:=[(61,zF7),(204,zFJ)]++ctrW
theorem z9q:zM zbbr:=zi zQ1 (zi zQD zP2)
def zbbs:zbb:=zbbr
theorem z9r:zM zbbs:=z9q
def zbbt:zbb:=zbbs
theorem zWQ:zM zbbt:=z9r
theorem zmd (x y:Int):ine x y = !ieq x y:=rfl
def zdP (l:List Int):Bool:=pc (l.length<=2147483648)
abbrev zdK (l:List Int):List Int:=l
def zzW:Run:=rF1 (dS .int) fun b=>(zdP b,[aS .int (zdK b)])
def zDV (N:Nat)(a:List Int):OA:=
 (oN (few (ln (ap [] a))) (some [(aS .int (ap [] a))]))
theorem zRA (a:List Int)(b:zdP a=true):∃N,zDV N a=some [aS .int (zdK a)]:=by refine⟨0,?_⟩;unfold zDV oN;rw[zmS,zgV (zN.1 b),cT]
theorem zKA:vL 199 zzW:=kF1 zWQ zbg zA zo (zx []) zRA
def zbbu:zbb:=[(199,zzW)]++zbbt
theorem zJ5:zM zbbu:=zi zKA zWQ
def zB6:List Int:=rp 4 0
def zcv (m:List (List Int))(p:Int):List Int:=bif hasB p (ln m) then ix m p [] else zB6
def zBI (m:List (List Int))(_:Int):Bool:=pc (CVB sm (.s (.sl .int) m))
def zBH (m:List (List Int))(p:Int):List Int:=zcv m p
theorem z8b {m:List (List Int)}{p:Int}(b:CVB sm (.s (.sl .int) m))(a:hasB p (ln m)=true):(ix m p []).length<=2147483648 :=
 (zc5 (b.inv.2 _ (zbB a ([]:List Int)) (.s .int _) (qF.2 rfl)).len).2
def zFY:Run:=rF2 (dS (.sl .int)) dI fun b c=>(zBI b c,[aS .int (zBH b c)])
def zMB (N:Nat)(a:lM)(b:Int):OA:=
 (oN (zO b 0 (wsub .i64 (ln a) 1)) (cond (nB (zU b 0 (wsub .i64 (ln a) 1))) (oN (cond (few 4) (ieq 4 4) false) (some [(aS .int (rp 4 0))])) (oN (inb b (ln a)) (oN (few (ln (ap [] (ix a b [])))) (some [(aS .int (ap [] (ix a b [])))])))))
theorem zYl (b:List (List Int))(a:Int)(f:zBI b a=true):∃N,zMB N b a=some [aS .int (zBH b a)]:=by have d:=zN.1 f;refine⟨0,?_⟩;unfold zMB zBH zcv oN nB;have e:zU a 0 (wsub .i64 (ln b) 1)=hasB a (ln b):=zOp (zc5 d.len).1 a;rw[e];cases c:hasB a (ln b);{rfl};{simp only [zO,cT,cF,zy c,zmS,zgV (z8b d c)]}
theorem zQS:vL 132 zFY:=kF2 zJ5 zbg zA zo (zx []) zYl
def zjI (m:List (List Int))(_:Int):Bool:=pc (CVB sm (.s (.sl .int) m))
def znS (m:List (List Int))(p:Int):List Int:=zcv m p
def zFy:Run:=rF2 (dS (.sl .int)) dI fun b c=>(zjI b c,[aS .int (znS b c)])
def zMa (N:Nat)(a:lM)(b:Int):OA:=
 (oN (zcc b (ln a)) (cond (nB (zcU b (ln a))) (oN (cond (few 4) (ieq 4 4) false) (some [(aS .int (rp 4 0))])) (oN (inb b (ln a)) (oN (zdP (ix a b [])) (some [(aS .int (zdK (ix a b [])))])))))
theorem zXS (a:List (List Int))(b:Int)(d:zjI a b=true):∃N,zMa N a b=some [aS .int (znS a b)]:=by have e:=zN.1 d;refine⟨0,?_⟩;unfold zMa znS zcv zcU oN nB;cases c:hasB b (ln a);{rfl};{simp only [zcc,cT,cF,zy c,show zdP (ix a b [])=true from zby (z8b e c),zdK]}
theorem zQs:vL 125 zFy:=kF2 zJ5 zbg zA zo (zx []) zXS
def zbbv:zbb:=[(132,zFY),(125,zFy)]++zbbu
theorem zWR:zM zbbv:=zi zQS (zi zQs zJ5)
def zcM (h:Host)(m p:Int):List Int :=
 bif hasB m (ln h.Mons) then (cond (hasB p 8) (cond (ine (zbu (ix h.Mons m zh).Outer p).Page (-1)) (zcv h.Memory (zbu (ix h.Mons m zh).Outer p).Page) (zcv (ix h.Mons m zh).Out p)) zB6) else zB6
def zBd (h:Host)(_ _:Int):Bool:=pc (zct h)
def zBc (h:Host)(m p:Int):List Int:=zcM h m p
def zFz:Run:=rF3 dH dI dI fun b c d=>(zBd b c d,[aS .int (zBc b c d)])
def zMb (N:Nat)(a:Host)(c b:Int):OA:=
 let d:=(ix a.Mons c zh);let e:=(zjL d.Outer b).Page; (oN (zcc c (ln a.Mons)) (cond (nB (zcU c (ln a.Mons))) (oN (cond (few 4) (ieq 4 4) false) (some [(aS .int (rp 4 0))])) (oN (zcc b 8) (cond (nB (zcU b 8)) (oN (cond (few 4) (ieq 4 4) false) (some [(aS .int (rp 4 0))])) (oN (inb c (ln a.Mons)) (oN (zl9 d.Outer b) (cond (ine e (-1)) (oN (zjI a.Memory e) (some [(aS .int (znS a.Memory e))])) (oN (zjI d.Out b) (some [(aS .int (znS d.Out b))])))))))))
theorem zXT (a:Host)(b c:Int)(f:zBd a b c=true):∃N,zMb N a b c=some [aS .int (zBc a b c)]:=by
 have e:=zN.1 f;refine⟨0,?_⟩;unfold zMb zBc zcM zcU oN nB;conv=>zeta
 cases d:hasB b (ln a.Mons);{rfl};{cases h:hasB c 8;{rfl};{have g:CVB sm (.s (.sl .int) (ix a.Mons b zh).Out):=e.mons.inv.2 _ (zbB d zh) (.s (.sl .int) _) (by simp[Ty.cells]);simp only[zcc,cT,cF,zy d,zl9,zjL,show ∀p,zjI a.Memory p=true from fun p=>zby e.mem,show ∀p,zjI (ix a.Mons b zh).Out p=true from fun p=>zby g,znS];cases ine (zbu (ix a.Mons b zh).Outer c).Page (-1)<;>rfl}}
theorem zQt:vL 195 zFz:=kF3 zWR zbg zA zo (zx []) zXT
def zbbw:zbb:=[(195,zFz)]++zbbv
theorem z9s:zM zbbw:=zi zQt zWR
def zbbx:zbb:=zbbw
theorem z9t:zM zbbx:=z9s
def ctrV:zbb:=zbbx
theorem zbde:∀f a,zn ctrV f=some a->Holds Tryz.prog f a:=z9t
def ctrU:zbb:=ctrV
theorem zdl:zM ctrU:=zbde
def zpd:zgZ:=z95
theorem zu:zfs zpd:=zbg
def canRun (g:Guest):Bool:=bif (ieq g.Exit.Kind 0&&(ieq g.Exit.Page 0&&(zfv g.Exit.Write false&&ieq g.Exit.N 0))) then !g.Halted else false
def zil (_:Guest):Bool:=true
abbrev zn3 (g:Guest):Bool:=canRun g
def zpl:Run:=rF1 (dT .guest) fun b=>(zil b,[aB (zn3 b)])
def zMr (N:Nat)(a:Guest):OA:=
 (cond (cond (ieq a.Exit.Kind 0) (cond (ieq a.Exit.Page 0) (cond (zfv a.Exit.Write false) (ieq a.Exit.N 0) false) false) false) (some [(aB (nB a.Halted))]) oF)
theorem zX9 (a:Guest)(b:zil a=true):∃N,zMr N a=some [aB (zn3 a)]:=by refine⟨0,?_⟩;unfold zMr zn3 canRun nB;cases ieq a.Exit.Kind 0<;>cases ieq a.Exit.Page 0<;>cases zfv a.Exit.Write false<;>cases ieq a.Exit.N 0<;>simp
theorem zqC:vL 47 zpl:=kF1 zqw zbg zA zo (zx []) zX9
def ztV (_:Guest):Bool:=true
abbrev zqF (g:Guest):Bool:=canRun g
def zvD:Run:=rF1 (dT .guest) fun b=>(ztV b,[aB (zqF b)])
def zL0 (N:Nat)(a:Guest):OA:=
 (cond (cond (ieq a.Exit.Kind 0) (cond (ieq a.Exit.Page 0) (cond (zfv a.Exit.Write false) (ieq a.Exit.N 0) false) false) false) (some [(aB (nB a.Halted))]) oF)
theorem zXH (a:Guest)(b:ztV a=true):∃N,zL0 N a=some [aB (zqF a)]:=by refine⟨0,?_⟩;unfold zL0 zqF canRun nB;cases ieq a.Exit.Kind 0<;>cases ieq a.Exit.Page 0<;>cases zfv a.Exit.Write false<;>cases ieq a.Exit.N 0<;>simp
theorem zzj:vL 174 zvD:=kF1 zqw zbg zA zo (zx []) zXH
def zbbj:zbb:=[(47,zpl),(174,zvD)]++z9A
theorem z9l:zM zbbj:=zi zqC (zi zzj zqw)
def zbbk:zbb:=zbbj
theorem z9m:zM zbbk:=z9l
def zbfm:zbb:=zbbk
theorem zWP:zM zbfm:=z9m
def differs (x y:Guest):Bool :=
 ine x.A y.A||(ine x.Pc y.Pc||(ine x.Pending y.Pending||((!(ieq x.Exit.Kind y.Exit.Kind&&(ieq x.Exit.Page y.Exit.Page&&(zfv x.Exit.Write y.Exit.Write&&ieq x.Exit.N y.Exit.N))))||((!zfv x.Halted y.Halted)||ine (ln x.Seen) (ln y.Seen)))))
def progress (a b:Host)(m g:Int):Bool :=
 bif hasB g (ln (zjQ a m).Guests) then (cond (hasB g (ln (zjQ b m).Guests)) (differs (ix (zjQ a m).Guests g zl) (ix (zjQ b m).Guests g zl)) false) else false
theorem zTF (g:Int):hasB g (ln ([]:List Guest))=false:=qH (by simp[ln])
def zpM (a b:Host)(_ _:Int):Bool:=pc (zct a/\zct b)
def zuh (a b:Host)(m g:Int):Bool:=progress a b m g
def zz8:Run:=rF4 dH dH dI dI fun b c d e=>(zpM b c d e,[aB (zuh b c d e)])
def zEa (N:Nat)(g h:Host)(d c:Int):OA:=
 let f:=(zlB h d).Guests;let e:=(zlB g d).Guests;let b:=(ix f c zl);let a:=(ix e c zl); (oN (zot g d) (oN (zot h d) (oN (zO c 0 (wsub .i64 (ln e) 1)) (cond (nB (zU c 0 (wsub .i64 (ln e) 1))) oF (cond (ige c (ln f)) oF (oN (inb c (ln e)) (oN (inb c (ln f)) (cond (ine a.A b.A) oT (cond (ine a.Pc b.Pc) oT (cond (ine a.Pending b.Pending) oT (cond (nB (cond (ieq a.Exit.Kind b.Exit.Kind) (cond (ieq a.Exit.Page b.Exit.Page) (cond (zfv a.Exit.Write b.Exit.Write) (ieq a.Exit.N b.Exit.N) false) false) false)) oT (cond (nB (zfv a.Halted b.Halted)) oT (some [(aB (ine (ln a.Seen) (ln b.Seen)))])))))))))))))
theorem zRP (b d:Host)(a c:Int)(u:zcE big [aH b,aH d,aI a,aI c])(m:zpM b d a c=true):∃N,zEa N b d a c=some [aB (zuh b d a c)]:=by
 obtain⟨f,e⟩:=zN.1 m;refine⟨0,?_⟩;unfold zEa oN nB;conv=>zeta
 have k:zot b a=true:=zby f;have l:zot d a=true:=zby e;have h:zlB b a=zjQ b a:=rfl;have i:zlB d a=zjQ d a:=rfl;have r:(zjQ b a).Guests.length<=big:=(by unfold zjQ;cases n:hasB a (ln b.Mons);{simp [Ty.dflt]};{exact(zc5 (f.mons.inv.2 _ (zbB n _) (.s .guest _) (by simp[Ty.cells];rfl)).len).1});rw[k,l,h,i];have j:zU c 0 (wsub .i64 (ln (zjQ b a).Guests) 1)=hasB c (ln (zjQ b a).Guests):=zwT r c;rw[j];unfold zuh progress differs;simp only[zO,cT];generalize zjQ b a=x at *;generalize zjQ d a=y at *;cases g:hasB c (ln x.Guests);{rfl};{rw [zbdB g,zy g];cases t:hasB c (ln y.Guests);{rfl};{rw [zy t];simp only[kT,cF,cT];generalize ix x.Guests c zl=p;generalize ix y.Guests c zl=q;cases ine p.A q.A<;>cases ine p.Pc q.Pc<;>cases ine p.Pending q.Pending<;>cases ieq p.Exit.Kind q.Exit.Kind<;>cases ieq p.Exit.Page q.Exit.Page<;>cases zfv p.Exit.Write q.Exit.Write<;>cases ieq p.Exit.N q.Exit.N<;>cases zfv p.Halted q.Halted<;>simp}}
theorem zKN:vL 46 zz8:=hF4 zWP zbg zA zo (zx []) zRP
def zo4 (_ _:Host)(_ _:Int):Bool:=true
def zo3 (a b:Host)(m g:Int):Bool:=progress a b m g
def zzO:Run:=rF4 dH dH dI dI fun b c d e=>(zo4 b c d e,[aB (zo3 b c d e)])
def zDO (N:Nat)(i j:Host)(a d:Int):OA:=
 let h:=(ln j.Mons);let g:=(ln i.Mons);let f:=(ix i.Mons a zh).Guests;let e:=(ix j.Mons a zh).Guests;let c:=(ix e d zl);let b:=(ix f d zl); (oN (zcc a g) (cond (nB (zcU a g)) oF (oN (zcc a h) (cond (nB (zcU a h)) oF (oN (inb a g) (oN (zcc d (ln f)) (cond (nB (zcU d (ln f))) oF (oN (inb a h) (oN (zcc d (ln e)) (cond (nB (zcU d (ln e))) oF (oN (inb a g) (oN (inb d (ln f)) (oN (inb a h) (oN (inb d (ln e)) (cond (ine b.A c.A) oT (cond (ine b.Pc c.Pc) oT (cond (ine b.Pending c.Pending) oT (cond (nB (cond (ieq b.Exit.Kind c.Exit.Kind) (cond (ieq b.Exit.Page c.Exit.Page) (cond (zfv b.Exit.Write c.Exit.Write) (ieq b.Exit.N c.Exit.N) false) false) false)) oT (cond (nB (zfv b.Halted c.Halted)) oT (some [(aB (ine (ln b.Seen) (ln c.Seen)))]))))))))))))))))))))
theorem zRs (c d:Host)(a b:Int)(i:zo4 c d a b=true):∃N,zDO N c d a b=some [aB (zo3 c d a b)]:=by
 refine⟨0,?_⟩;unfold zDO zcU zo3 progress zjQ differs oN nB;conv=>zeta
 cases e:hasB a (ln c.Mons);{simp [zcc,Ty.dflt,zTF]};{cases f:hasB a (ln d.Mons);{simp only [zcc,cT,kT,Bool.not_false,cF,Ty.dflt,zTF];cases hasB b (ln (ix c.Mons a (⟨[],[],[],[],[],0,0,[],0⟩:Mon)).Guests)<;>rfl};{simp only [zcc,cT,kT,cF,zy e,zy f];generalize ix c.Mons a zh=x;generalize ix d.Mons a zh=y;cases g:hasB b (ln x.Guests);{rfl};{cases h:hasB b (ln y.Guests);{rfl};{rw [zy g,zy h];simp only[kT,cF,cT];generalize ix x.Guests b zl=p;generalize ix y.Guests b zl=q;cases ine p.A q.A<;>cases ine p.Pc q.Pc<;>cases ine p.Pending q.Pending<;>cases ieq p.Exit.Kind q.Exit.Kind<;>cases ieq p.Exit.Page q.Exit.Page<;>cases zfv p.Exit.Write q.Exit.Write<;>cases ieq p.Exit.N q.Exit.N<;>cases zfv p.Halted q.Halted<;>simp}}}}
theorem zKr:vL 45 zzO:=kF4 zWP zbg zA zo (zx []) zRs
end
end Go.Proofs.YthdlghbibaoabaaGreat.E
