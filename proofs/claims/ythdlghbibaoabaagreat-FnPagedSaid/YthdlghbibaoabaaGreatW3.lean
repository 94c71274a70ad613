/- What is proved here: a part of the proof that the statement of this claim holds (several texts of wip/, laid together). -/
import Derived.Test.YthdlghbibaoabaaGreatW2
import Derived.HandedShaped
import Derived.ProofKit
import Derived.KernelRfl
namespace Go.Proofs.YthdlghbibaoabaaGreat.E
open Go
set_option linter.unusedVariables false
set_option maxRecDepth 100000
set_option linter.unusedSimpArgs false
set_option linter.unusedSectionVars false
noncomputable section
section
variable {C:Cfg} {ops:Array Oper} {b:Bool} {base:Nat}
def Foot.reads (f:Foot):Key->Prop
 |.tm t=>t∈f.tm
 |.ro n=>n∈f.ro
 |.lo n=>n∈f.lo
def Foot.writes (f:Foot):Key->Prop
 |.tm t=>f.dst=some t
 |.ro n=>n∈f.wro
 |.lo n=>n∈f.wlo
theorem zqp {a c:List Nat}(h:zC9 a c=true):∀x∈a,x∉c:=by intro x b;have:=qM.1 h x b;simpa using this
theorem apart_spec {x y:Foot}(h:x.apart y=true):(∀κ,x.writes κ->¬ y.reads κ/\¬ y.writes κ)/\(∀κ,y.writes κ->¬ x.reads κ):=by unfold Foot.apart at h;simp only[qD]at h;obtain⟨⟨⟨⟨⟨b,c⟩,d⟩,e⟩,f⟩,g⟩:=h;refine⟨fun κ a=>?_,fun κ a=>?_⟩;{cases κ with|tm t=>simp only[Foot.writes]at a;rw[a]at b;simp only[qD,jE,beq_eq_false_iff_ne,jN,decide_eq_false_iff_not]at b;exact⟨b.1,b.2⟩|ro n=>have:=zqp d n a;simp only[jJ,not_or] at this;exact this|lo n=>have:=zqp f n a;simp only[jJ,not_or] at this;exact this};{cases κ with|tm t=>simp only[Foot.writes]at a;rw[a]at c;simpa [Foot.reads] using c|ro n=>exact zqp e n a|lo n=>exact zqp g n a}
theorem zDa {i:Nat}{o:Oper}{S:St}{f:Foot}{s:Step}(h:At1 C ops base i o S f s)(κ:Key):wr o s κ↔f.writes κ:=by cases s with|none=>obtain⟨_,rfl⟩:=h;cases κ<;>simp [wr,Foot.writes,zkX]|some d=>obtain⟨_,_,_,rfl⟩:=h;cases κ<;>simp [wr,Foot.writes,zeI,ze8]
def Does (C:Cfg)(ops:Array Oper)(base i:Nat)(o:Oper)(S:St):Step->Prop
 |some d=>zdd ops o S=some true/\zjv C S o (base+32*i)=some d/\d.c=true
 |none=>zdd ops o S=some false
theorem zx2 {o:Oper}{S S':St}(h:∀t∈zx3 ops o,S'.tm[t]?=S.tm[t]?):zdd ops o S'=zdd ops o S:=by unfold zdd;cases hg:o.guard with|none=>rfl|some d=>obtain⟨j,a⟩:=d;simp only;have e:guardOf S' ops j=guardOf S ops j:=(by unfold guardOf;cases c:ops[j]? with|none=>rfl|some f =>simp only;(cases b:f.dst with|none=>rfl|some t=>simp only;exact h t (by simp[zx3,hg,zhW,c,b])));rw[e]
theorem z1w {S S':St}(a:S'.ep=S.ep){n:Nat}(b:zl S'.ro n=zl S.ro n):S'.root n=S.root n:=by unfold St.root;rw[b,a]
theorem zQO {S S':St}(c:S'.ep=S.ep):∀(own:List Bool) (cells:List At),(∀a∈cells,∀n∈zbo a,zl S'.ro n=zl S.ro n)->S'.blk own cells=S.blk own cells
 |[],[],_=>rfl
 |[],_::_,_=>rfl
 |_::_,[],_=>rfl
 |o::ms,a::r,h=>by have f:=zQO c ms r fun b e=>h b (qX _ e);have d:=h a jA;simp only[St.blk];rw[f];cases a with|sl q p=>(cases p with|nil=>simp only[z1w c (d q (by simp[zbo]))]|cons x p=>rfl)|_=>rfl
theorem zDQ {S S':St}(a:S'.ep=S.ep):∀(ks:List Nat),(∀k∈ks,zl S'.ro k=zl S.ro k)->killed S' ks=killed S ks
 |[],_=>rfl
 |k::ks,h=>by simp only[killed];rw[h k jA,zDQ a ks fun j b=>h j (qX _ b),a]
theorem zIg {c:Type}{p q:c->Bool}:∀{l:List c},(∀a∈l,p a=q a)->l.all p=l.all q
 |[],_=>rfl
 |a::l,h=>by rw[kW,kW,h a jA,zIg fun b d=>h b (qX _ d)]
theorem z2u {S S':St}{L:List Operand}(h:Agree S S' L){ks:List Nat}{x:Operand}(c:x∈L){m:MV}(b:S.opnd x=some m):S'.avF ks m=S.avF ks m:=by unfold St.avF;have e:zE8 S' ks m=zE8 S ks m:=(by unfold zE8;refine zIg fun a d=>zIg fun r f=>?_;rw[h.rootN ((h.id x c m b a d).1 r f)]);rw[e,h.avOf c b]
theorem zWl {S S':St}{o:Oper}{id:Nat}(h:Agree S S' (callArgs o))(i:∀x∈callArgs o,∀l off,S.at x=some (.lp l off)->∀cells,zl S.lo l=some cells->∀a∈cells,∀n∈zbo a,zl S'.ro n=zl S.ro n):zkI C S' o id=zkI C S o id:=by unfold zkI;cases zi9 C o with|none=>rfl|some y=>obtain⟨own,A⟩:=y;simp only;(cases v:callArgs o with|nil=>rfl|cons x r=>rw[v]at h i;simp only[zPO];have e:S'.at x=S.at x:=h.at jA;rw[e];split;{rename_i l p;have g:zl S'.lo l=zl S.lo l:=h.loc (zdD jA p);rw[g];split;{rename_i cells c;have b:=i x jA l 0 p cells c;rw[zQO h.ep own cells b];split;{rename_i s d u;have B:=zTY own cells s d u;have f:killed S' d=killed S d:=zDQ h.ep d fun k f=>(by obtain⟨j,_,w⟩:=B.ownk k f;exact b _ (qI w) k (by simp[zbo]));have t:zco (zTU S' d) r=zco (zTU S d) r:=(by refine zkE fun y q=>?_;unfold zTU;rw[h.op y (qX _ q)];cases z:S.opnd y with|none=>rfl|some m=>exact z2u h (qX _ q) z);rw[t,f]};{rfl}};{rfl}};{rfl})
theorem zw7 {o:Oper}:∀x∈callArgs o,x∈o.op.operands.toList:=by
 intro x a;unfold callArgs at a;split at a
 .rename_i c hc;rw[hc];simp only[Op.operands,Call.operands];simp
  first
   |exact .inr (by simpa using a)
   |exact .inl (by simpa using a)
   |simp_all
 {cases a}
theorem zTV {i:Nat}{o:Oper}{S S':St}{f:Foot}{s:Step}(h:At1 C ops base i o S f s)(z:S'.ep=S.ep)(v:∀κ,f.reads κ->S'.get κ=S.get κ):Does C ops base i o S' s:=by
 cases s with
 |none=>obtain⟨D,rfl⟩:=h;show zdd ops o S'=some false;rw[zx2 (S:=S) (fun t w=>zLh (v (.tm t) (by simpa [Foot.reads,zkX] using w)))];exact D
 |some d=>
  obtain⟨D,L,M,rfl⟩:=h;have A:∀t,t∈zn9 o++zx3 ops o->S'.tm[t]?=S.tm[t]?:=fun t w=>zLh (v (.tm t) w);have u:∀x∈o.op.operands.toList,S'.opnd x=S.opnd x:=(by intro x c;cases x with|tmp t=>have w:t∈zn9 o:=(by unfold zn9;exact uP.2 ⟨_,c,rfl⟩);simp only[St.opnd,A t (j5 _ w)]|_=>rfl);refine⟨?_,?_,M⟩;{rw [zx2 (S:=S) (fun t w=>A t (kH _ w))];exact D}
  .rw [<- L];cases b:zvO o with
   |true=>unfold zvO at b;split at b;{rename_i t g;have e:=u (.tmp t) (by rw[g];simp[Op.operands]);have K:delta C S' o (base+32*i)=delta C S o (base+32*i):=(by simp only[delta,g,e]);have G:zi9 C o=none:=(by unfold zi9;rw[g]);unfold zjv;rw[K];cases delta C S o (base+32*i) with|some J=>rfl|none=>simp only[zkI,G]};{cases b}
   |false=>
   have v:∀κ,(ze8 S ops o d).reads κ\/(∃n,κ = .ro n/\n∈(ze8 S ops o d).ro++cond (zi9 C o).isSome (zDn S o) [])->S'.get κ=S.get κ:=(by intro κ j;refine v κ ?_;rcases j with j|⟨n,rfl,r⟩;{cases κ with|tm t=>exact j|ro n=>show n∈(zeI C S ops o d).ro;unfold zeI;rw[b];exact j5 _ j|lo n=>show n∈(zeI C S ops o d).lo;unfold zeI;rw[b];exact j};{show n∈(zeI C S ops o d).ro;unfold zeI;rw[b];exact r});have E:∀x∈o.op.operands.toList,∀m,S.opnd x=some m->∀a∈zbA m,a∈zs5 S o:=fun x c m q a p=>(by unfold zs5;exact qN.2 ⟨m,uP.2 ⟨x,c,q⟩,p⟩);have H:Agree S S' o.op.operands.toList:=⟨z,u,fun x c m q a p=>⟨fun n r=>zDt (v (.ro n) (.inl (qN.2 ⟨a,E x c m q a p,r⟩))),fun n r=>zLg (v (.lo n) (.inl (qN.2 ⟨a,E x c m q a p,r⟩)))⟩⟩;unfold zjv;rw[zXK H];cases N:delta C S o (base+32*i) with|some J=>rfl|none=>simp only;(cases I:zi9 C o with|none=>simp only[zkI,I]|some y=>refine zWl ⟨z,fun x c=>u x (zw7 x c),fun x c m q a p=>H.id x (zw7 x c) m q a p⟩ fun x c l B O cells k a p n r=>?_;refine zDt (v (.ro n) (.inr ⟨n,rfl,?_⟩));show n∈(ze8 S ops o d).ro++cond (zi9 C o).isSome (zDn S o) [];rw[I];refine kH _ ?_;show n∈zDn S o;unfold zDn;refine qN.2 ⟨.lp l B,?_,?_⟩;{obtain⟨m,q,F⟩:∃m,S.opnd x=some m/\At.lp l B∈zbA m:=⟨_,zNP O,by simp[zbA,zS]⟩;exact E x (zw7 x c) m q _ F};{simp only [k];exact qN.2 ⟨a,p,r⟩})
structure Free (C:Cfg) (ops:Array Oper) (cl:List (List Nat)) (b:Bool) (base a:Nat) (ss:List Step) (st0:St):Prop where
 at1:∀i s,ss[i]?=some s->∃o f,ops[a+i]?=some o/\At1 C ops base (a+i) o (zbx ops b (fun j=>decide (j<a+i)) a ss st0) f s
 apart:∀i k s s' o o' f f',ss[i]?=some s->ss[k]?=some s'->ops[a+i]?=some o->ops[a+k]?=some o'->At1 C ops base (a+i) o (zbx ops b (fun j=>decide (j<a+i)) a ss st0) f s->
  At1 C ops base (a+k) o' (zbx ops b (fun j=>decide (j<a+k)) a ss st0) f' s'->i<k->a+i∉cl.getD (a+k) []->f.apart f'=true
def zjO (a:List (List Nat))(X:Nat->Bool):Prop:=∀k,X k=true->∀j∈a.getD k [],X j=true
variable {cl:List (List Nat)} {ss:List Step} {st0:St} {a:Nat}
theorem zIh {i:Nat}{o:Oper}{S:St}{f a:Foot}{s:Step}(h:At1 C ops base i o S f s)(b:At1 C ops base i o S a s):f=a:=by cases s with|none=>rw[h.2,b.2]|some d=>rw[h.2.2.2,b.2.2.2]
theorem zLf (F:Free C ops cl b base a ss st0){X:Nat->Bool}(B:zjO cl X){i:Nat}{s:Step}(x:ss[i]?=some s)(d:X (a+i)=false)(D:∀j∈cl.getD (a+i) [],X j=true) :
 ∃o f,ops[a+i]?=some o/\At1 C ops base (a+i) o (zbx ops b (fun j=>decide (j<a+i)) a ss st0) f s/\∀κ,f.reads κ->(zbx ops b X a ss st0).get κ=(zbx ops b (fun j=>decide (j<a+i)) a ss st0).get κ:=by
 obtain⟨o,f,w,q⟩:=F.at1 i s x;refine⟨o,f,w,q,fun κ p=>?_⟩;refine zqu ss a st0 st0 rfl rfl (fun k y A t l g E=>?_);obtain⟨G,z,m,r⟩:=F.at1 k y t;rw[l]at m;cases m;have n:=(zDa r κ).1 E
 by_cases u:k<i
 .have hXk:X (a+k)=false:=by have c:a+k<a+i:=(by omega);simp only[c,decide_true]at g;simpa using g
  have v:a+k∉cl.getD (a+i) []:=fun h=>by rw[D (a+k) h]at hXk;cases hXk
  exact((apart_spec (F.apart k i y s A o z f t x l w r q u v)).1 κ n).1 p
 .have hXk:X (a+k)=true:=by have c:¬ (a+k<a+i):=(by omega);simp only[c,decide_false]at g;simpa using g
  have c:i<k:=by have:i≠k:=fun e=>(by rw[e,hXk]at d;cases d);omega
  have v:a+i∉cl.getD (a+k) []:=fun h=>by rw[B (a+k) hXk (a+i) h]at d;cases d
  exact(apart_spec (F.apart i k s y o A f z x t w l q r c v)).2 κ n p
theorem z3t (F:Free C ops cl b base a ss st0){X:Nat->Bool}(g:zjO cl X){i:Nat}{s:Step}(l:ss[i]?=some s)(c:X (a+i)=false)(k:∀j∈cl.getD (a+i) [],X j=true) :
 ∃o,ops[a+i]?=some o/\Does C ops base (a+i) o (zbx ops b X a ss st0) s:=by
 obtain⟨o,f,h,d,e⟩:=zLf F g l c k;exact⟨o,h,zTV d (by rw[zgV,zgV]) e⟩
theorem zUE (F:Free C ops cl b base a ss st0){X Y:Nat->Bool}(w:zjO cl X){i:Nat}{s:Step}{o:Oper}(n:ss[i]?=some s)(m:ops[a+i]?=some o)(c:X (a+i)=false)(x:∀k,Y k=(X k||k==a+i))(κ:Key) :
 (zbx ops b Y a ss st0).get κ=((zbx ops b X a ss st0).step b o s).get κ:=by
 refine z3q x m n (fun k u A t d l j κ z p=>?_) κ;obtain⟨B,f,e,q⟩:=F.at1 i s n;rw[m]at e;cases e;obtain⟨D,v,g,r⟩:=F.at1 k u t;rw[d]at g;cases g;have y:a+i∉cl.getD (a+k) []:=fun h=>by rw[w (a+k) j (a+i) h]at c;cases c
 exact((apart_spec (F.apart i k s u o A f v n t m d q r l y)).1 κ ((zDa q κ).1 z)).2 ((zDa r κ).1 p)
theorem z0E {st:St}{o:Oper}{id i:Nat}{d:Dl}(j:ops[i]?=some o)(h:delta C st o id=some d)(a:zPD ops i=false)(g:(zFp C&&zUO o)=false):d.bump=false:=by
 simp only[zPD,j]at a;cases b:o.op<;>simp only [b]at a<;>simp only [delta,b]at h;(case store=>cases a);case buildSlice=>cases a
 case call c=>
  split at h
  case h_4 e=>rw[e]at a;cases a
  all_goals (repeat' (first|split at h|cases h))
  all_goals rfl
 case slice T x lo hi mx=>
  cases mx with
  |some m=>simp at h
  |none=>
   cases lo with
   |none=>
    cases hi with
    |none=>(repeat' (first|contradiction|split at h|cases h));all_goals (first|rfl|contradiction|(exfalso;simp_all))
    |some f =>have e:zFp C=false:=(by simp only[zUO,b,vE]at g;exact g);(repeat' (first|contradiction|split at h|cases h));all_goals (first|(simp only [zIy,e,Bool.false_and];done)|rfl|contradiction|(exfalso;simp_all))
   |some k =>
    cases hi with
    |none=>cases a
    |some f =>(repeat' (first|contradiction|split at h|cases h));all_goals (first|rfl|contradiction|(exfalso;simp_all))
 case binOp=>
  simp only[zDp]at h
  repeat' (first|split at h|cases h)
  all_goals rfl
 (all_goals (repeat' (first|contradiction|split at h|cases h)));all_goals (first|rfl|contradiction)
theorem zXI {st:St}{o:Oper}{id i:Nat}{d:Dl}(e:ops[i]?=some o)(h:zjv C st o id=some d)(b:zkC C ops i=false):d.bump=false:=by unfold zkC at b;rw[u5]at b;unfold zjv at h;cases c:delta C st o id with|some g =>rw[c]at h;cases h;have a:=b.2;rw[e]at a;have a:((zi9 C o).isSome||(zFp C&&zUO o))=false:=a;rw[u5]at a;exact z0E e c b.1 a.2|none=>rw[c]at h;exfalso;have a:=b.2;rw[e]at a;have a:((zi9 C o).isSome||(zFp C&&zUO o))=false:=a;rw[u5]at a;have a:=a.1;have h:zkI C st o id=some d:=h;unfold zkI at h;(cases f:zi9 C o with|none=>rw[f]at h;cases h|some y=>rw[f]at a;cases a)
end
section
variable {C:Cfg} {w0 w w1:World} {S0:zX} {U:Nat->Prop} {st st1:St} {E E1:Env} {ts:Array Value} {sv:List (Array Value)}
variable {ops:Array Oper} {b:Bool} {base:Nat} {cl:List (List Nat)} {ss:List Step} {st0:St}
theorem z0D {R a:Root}(h:ze2 b R=a)(c:a.ep=none):R=a:=by unfold ze2 at h;split at h;{subst h;cases c};{exact h}
theorem z3V {l:List (Nat×Root)}{n:Nat}{R:Root}(h:zl (l.map (fun (x:Nat×Root)=>(x.1,ze2 b x.2))) n=some R):∃d,zl l n=some d/\ze2 b d=R:=by induction l with|nil=>cases h|cons a l e=>obtain⟨k,v⟩:=a;simp only[jB,zl]at h ⊢;split at h;{cases h;rename_i c;rw[if_pos c];exact⟨v,rfl,rfl⟩};{rename_i c;rw[if_neg c];exact e h}
theorem z1l {l:List (Nat×Root)}{n:Nat}(h:zl (l.map (fun (x:Nat×Root)=>(x.1,ze2 b x.2))) n=none):zl l n=none:=by induction l with|nil=>rfl|cons a l d=>obtain⟨k,v⟩:=a;simp only[jB,zl]at h ⊢;split at h;{cases h};{rename_i c;rw[if_neg c];exact d h}
theorem z0f {o:Oper}{d:Dl}(J:b=false->d.bump=false)(K:b=true->Dead st/\0<st.ep)(y:Sim w0 S0 U (st.apply o.dst d) E ts sv w):Sim w0 S0 U (st.effD b o.dst d) E ts sv w:=by
 have A:∀t:Nat,(st.effD b o.dst d).tm[t]?=(st.apply o.dst d).tm[t]?:=fun t=>(by unfold St.effD St.apply;cases o.dst<;>rfl);have B:(st.effD b o.dst d).lo=(st.apply o.dst d).lo:=(by unfold St.effD St.apply;cases o.dst<;>rfl);have C:(st.effD b o.dst d).stk=(st.apply o.dst d).stk:=(by unfold St.effD St.apply;cases o.dst<;>rfl);have D:(st.effD b o.dst d).ro=d.ro.map (fun (x:Nat×Root)=>(x.1,ze2 b x.2))++st.ro:=(by unfold St.effD;cases o.dst<;>rfl);have F:(st.apply o.dst d).ro=d.ro++st.ro:=(by unfold St.apply;cases o.dst<;>rfl);have v:(st.effD b o.dst d).ep=st.ep:=by unfold St.effD;cases o.dst<;>rfl
 have I:(st.apply o.dst d).ep=if d.bump then st.ep+1 else st.ep:=by
  unfold St.apply;cases o.dst<;>rfl
 cases b with
 |false=>have L:d.bump=false:=J rfl;have p:d.ro.map (fun (x:Nat×Root)=>(x.1,ze2 false x.2))=d.ro:=(by have:(fun (x:Nat×Root)=>(x.1,ze2 false x.2))=id:=(by funext x;rfl);rw[this,List.map_id]);have j:(st.effD false o.dst d).ro=(st.apply o.dst d).ro:=(by rw[D,F,p]);have m:(st.effD false o.dst d).ep=(st.apply o.dst d).ep:=(by rw[v,I,L];rfl);exact y.fewer A (fun n=>by rw[B]) C (fun n R h=>by simpa only [St.root,j,m] using h) (fun n R h=>⟨R,by rw[<- j];exact h⟩) (fun n R e h s=>by rw[m];exact y.mem.epo n R e (by rw[<- j];exact h) s)
 |true=>obtain⟨l,M⟩:=K rfl;have f:∀n R,zl (st.effD true o.dst d).ro n=some R->∃a,zl (st.apply o.dst d).ro n=some a/\(ze2 true a=R\/(a=R/\zl st.ro n=some R)):=(by intro n R h;rw[D,zbO]at h;rw[F,zbO];split at h;{rename_i x z;cases h;obtain⟨a,r,c⟩:=z3V z;exact⟨a,by rw[r],.inl c⟩};{rename_i z;rw[z1l z];exact⟨R,h,.inr ⟨rfl,h⟩⟩});have g:∀a:Root,(ze2 true a).ep=none\/(ze2 true a).ep=some 0:=(by intro a;cases H:a.ep with|none=>left;simp[ze2,H]|some e=>right;simp[ze2,H]);have q:∀n R,(st.effD true o.dst d).root n=some R->R.ep=none/\zl (st.effD true o.dst d).ro n=some R:=(by intro n R h;obtain⟨G,i⟩:=zbw h;refine⟨?_,G⟩;rcases i with i|i;{exact i};{exfalso;rw[v]at i;obtain⟨a,_,c⟩:=f n R G;rcases c with c|⟨_,c⟩;{have:=g a;rw[c,i] at this;rcases this with h|h;{cases h};{simp only [qC]at h;omega}};{have:=l n R _ c i;omega}});refine y.fewer A (fun n=>by rw[B]) C (fun n R h=>?_) (fun n R h=>?_) (fun n R e h s=>?_);{obtain⟨r,c⟩:=q n R h;obtain⟨a,u,k⟩:=f n R c;have e:a=R:=(by rcases k with k|⟨k,_⟩;{exact z0D k r};{exact k});subst e;unfold St.root;rw[u];simp only[r]};{obtain⟨a,u,_⟩:=f n R h;exact⟨a,u⟩};{rw [v];obtain⟨a,_,c⟩:=f n R h;rcases c with c|⟨_,c⟩;{have:=g a;rw[c,s] at this;rcases this with h|h;{cases h};{simp only [qC]at h;omega}};{have:=l n R e c s;omega}}
def UX (U:Nat->Prop)(base a T:Nat)(X:Nat->Bool)(n:Nat):Prop:=U n\/∃i,a<=i/\i<T/\X i=true/\Mine (base+32*i) n
theorem Sim.uses {e:Nat->Prop}(h:Sim w0 S0 U st E ts sv w)(c:∀n,U n->e n):Sim w0 S0 e st E ts sv w :=
 ⟨h.mem,⟨fun n R b=>c n (h.ids.ro n R b),fun n g b=>⟨c n (h.ids.lo n g b).1,fun a i m d=>c m ((h.ids.lo n g b).2 a i m d)⟩,fun m d n b=>c n (h.ids.tm m d n b),fun f j m d n b=>c n (h.ids.stk f j m d n b)⟩,h.tm,h.stk⟩
theorem zUu (u:CfgOk C)(y:CtrOk C)(x:GraftOk C)(r:Sim w0 S0 U st E ts sv w){o:Oper}{id:Nat}(g:∀n,Mine id n->¬ U n){d:Dl}(h:zjv C st o id=some d)(s:d.c=true):Goes C w0 S0 U st ts sv w o id (fun st=>st.apply o.dst d):=by unfold zjv at h;cases l:delta C st o id with|some A =>rw[l]at h;cases h;exact zHk u y r g l s|none=>rw[l]at h;have e:∃a,zFw C st o id=some (d.c,a,d.v)/\a.put o.dst d.v=st.apply o.dst d:=(by simp only[zkI]at h;unfold zi9 callArgs at h;unfold zFw;split at h;{rename_i own z i;split at i;{rename_i c t;split at i;{rename_i f b;have j:zNQ o=f:=(by simp only[zNQ,t,b]);rw[j]at h;simp only[t,b,i]at h ⊢;generalize c.args.toList=m at h ⊢;unfold zPO at h;unfold zV8;split at h;{split at h;{split at h;{split at h;{split at h;{split at h;{split at h;{split at h;{rename_i p _ _ q _ _ _ B _ _ D _ _ _ _ F _ _ G H;cases h;simp only[*];refine⟨_,rfl,?_⟩;unfold St.apply;simp[j9]};{cases h}};{cases h}};{cases h}};{cases h}};{cases h}};{cases h}};{cases h}};{cases h}};{cases i}};{cases i}};{cases h});obtain⟨a,p,q⟩:=e;have k:=(x.pok w0 w S0 U st E ts sv o id d.c a d.v r g p s).1;rw[q] at k;exact k
theorem zQ9 (O:CfgOk C)(S:CtrOk C)(R:GraftOk C){a T:Nat}(hT:a+ss.length=T)(F:Free C ops cl b base a ss st0){X Y:Nat->Bool}(J:zjO cl X){i:Nat}(p:a<=i)(G:i<T)(g:X i=false)(hr:∀j∈cl.getD i [],X j=true)(Z:b=false->∀k,a<=k->k<T->zkC C ops k=false)(D:b=true->Dead st0/\0<st0.ep)(W:∀k,a<=k->k<T->∀n,Mine (base+32*k) n->¬ U n)(B:∀k,Y k=(X k||k==i))(u:Sim w0 S0 (UX U base a T X) (zbx ops b X a ss st0) E ts sv w){Q:Exit->Act->World->Prop}{K:Act->World->Prop}(V:∀(E':Env) (c:Array Value) (w':World),Sim w0 S0 (UX U base a T Y) (zbx ops b Y a ss st0) E' c sv w'->K {tmps:=c,defers:=[]} w') :
 wpOp C.P ops Q i K {tmps:=ts,defers:=[]} w:=by
 obtain⟨j,rfl⟩:∃j,i=a+j:=⟨i-a,by omega⟩
 obtain⟨s,L⟩:∃s,ss[j]?=some s:=⟨_,qB (by omega)⟩
 obtain⟨o,H,t⟩:=z3t F J L g hr;have f:∀n,UX U base a T X n->UX U base a T Y n:=by rintro n (h|⟨k,N,y,q,z⟩);{exact .inl h};{exact .inr ⟨k,N,y,by rw[B,q];rfl,z⟩}
 have r:∀{E':Env} {c:Array Value} {w':World},Sim w0 S0 (UX U base a T Y) ((zbx ops b X a ss st0).step b o s) E' c sv w'->K {tmps:=c,defers:=[]} w':=by intro E' c w' h;refine V E' c w' (h.same (fun κ=>zUE F J L H g B κ) ?_ ?_);{rw [zry,zWZ,zry]};{rw [zgV,zPW,zgV]}
 unfold wpOp;simp only[H];cases s with
 |none=>rw[if_neg (by simp[zDu u t])];have q:=u.putV (dst:=o.dst) (m:=.und) (v:=undef) rfl (fun n x=>by simp[MV.ids,zbA]at x);rw[zif];exact r (q.uses f)
 |some d=>obtain⟨y,q,z⟩:=t;rw[if_pos (zDu u y)];refine .inl (zUu O S R u (id:=base+32*(a+j)) ?_ q z _ _ (fun E' v w' A=>?_));{rintro n x (h|⟨k,_,g1,I,M⟩);{exact W (a+j) p G n x h};{refine zZB (i:=k) (j:=a+j) (fun e=>?_) M x;rw[e,g] at I;cases I}};{rw [zif];refine r ((z0f (fun l=>zXI H q (Z l (a+j) p G)) (fun l=>?_) A).uses ?_);{subst l;exact⟨zzT ss a st0 (D rfl).1 (D rfl).2,by rw[zgV];exact(D rfl).2⟩};{rintro n (h|h);{exact f n h};{exact .inr ⟨a+j,p,G,by rw[B];simp,h⟩}}}
end
section
variable {C:Cfg} {w0 w w1:World} {S0:zX} {U:Nat->Prop} {st st1:St} {E E1:Env} {ts:Array Value} {sv:List (Array Value)}
theorem z1m (t:Ty)(x:t.den):t.ofCells (t.cells x)=some x:=by cases t<;>first|rfl|simp[Ty.ofCells,Ty.cells]
theorem zRy:∀(p:List (Int×Nat)) {t:Ty} {l:List t.den} {c:CV},zgm t l p=some c->∀m,zpR t l p c=some m->m=l
 |[],t,l,c,h,m,a=>by simp only[zgm,qC]at h;subst h;simpa [zpR] using a.symm
 |(i,j)::p,t,l,c,h,m,a=>by
  simp only[zgm]at h;simp only[zpR]at a;split at h
  .rename_i t1 l1 hc;rw[hc]at a;simp only at a;split at a
   .rename_i l2 hl2;have:=zRy p h l2 hl2;subst this;split at a
    .rename_i x hx;cases a;have f:j<(t.cells (ix l i t.dflt)).length:=(qA.1 hc).1;have e:splice (t.cells (ix l i t.dflt)) j [CV.s t1 l2]=t.cells (ix l i t.dflt):=zH5 _ _ _ (by simp;omega) (fun k d=>by
      have:k=0:=by simpa using d
      subst this;simpa using hc)
     rw[e,z1m]at hx;cases hx;unfold up ix;apply k5;intro k;rw[q9];split;{rename_i d;subst d;split;{rename_i b;simp[List.getD,qB b]};{rename_i b;rw[List.getElem?_eq_none (by omega)]}};{rfl}
    {cases a}
   {cases a}
  {cases h}
theorem z6g {t:Ty}(c:t.flat=true):∀(q:List (Int×Nat)) (v u:Value),zZ w t v q=some u->q=[]
 |[],_,_,_=>rfl
 |(i,j)::q,v,u,h=>by exfalso;cases v with|slice a len d=>(cases a with|none=>simp[zZ]at h|some a=>simp only[zZ]at h;split at h;{split at h;{rename_i e b;unfold Ty.flat at c;have:=qM.1 c _ (qI b);simp at this};{cases h}};{cases h})|_=>simp[zZ]at h
theorem zbaS (hC:CfgOk C){T:TypeId}{t:Ty}(hT:C.sty T=some t)(hf:t.flat=true){v1 v2:Value}{d f:List t.den}{S1 S2:zX}(c1:Rep true w v1 (.s t d) S1)(c2:Rep false w v2 (.s t f) S2)(b6:f≠[])(c9:few (ln (ap d f))=true)(oT:TypeId) :
 ∃(v:Value) (w':World) (J X cap:Nat),(Builtin.append_ #[T,T] oT #[v1,v2]).run C.P w = .ok v w'/\v = .slice (some ⟨J,X,none⟩) (ap d f).length cap/\Rep true w' v (.s t (ap d f)) (fun x=>x=J)/\
  w'.os=w.os/\w'.tape=w.tape/\w'.output=w.output/\
  ((J=w.heap.size/\w'.heap.size=w.heap.size+1/\∀x,x<w.heap.size->w'.heap[x]?=w.heap[x]?) \/
    ∃W L,v1 = .slice (some ⟨J,W,none⟩) d.length L/\S1 J/\w'.heap.size=w.heap.size/\(∀x,x≠J->w'.heap[x]?=w.heap[x]?)/\Rep true w' v1 (.s t d) S1):=by
 obtain⟨e,hE⟩:=hC.sty T t hT;obtain⟨i,z,m,hs,hz,e9,c8⟩:=hE.info;obtain⟨f0,f1⟩:=zNY c9;have d2:d.length+f.length<=2147483648:=by simp only[ln,ap,kA] at f1;omega
 have a1:(ap d f).length=d.length+f.length:=by simp[ap]
 cases c2 with
 |nil=>exact absurd rfl b6
 |void=>exact absurd rfl b6
 |sl _ _ b2 p D a0 e2 f5 V2 K2 _ d5 f3 e0 b3 f4 f6 e8 d7 d3 a3=>
 have e3:0<f.length:=kR.2 b6;have e5:f.length*t.width<=D*t.width:=qS _ b3;generalize R:(a0.toList.drop p).take (f.length*t.width)=a;have B:a.length=f.length*t.width:=by rw[<- R];simp;omega
 have a4:∀k,k<f.length*t.width->a[k]?=a0[p+k]?:=by intro k hk;rw[<- R,jI,if_pos hk,jQ];simp
 have b9:∀j u,a[j]?=some u->w.cell? ((⟨b2,p,none⟩:Addr).add j)=some u:=by intro j u hu;have A:j<f.length*t.width:=(by rw[<- B];exact(qA.1 hu).1);rw[add_lit,cell_of_block d5,<- a4 j A];exact hu
 have G:∀i j,i<f.length->j<t.width->i*t.width+j<f.length*t.width:=by intro i j m A;have:(i+1)*t.width<=f.length*t.width:=qS _ m;rw[jL] at this;omega
 have c0:∀i j,i<f.length->j<t.width->a[i*t.width+j]?=some (V2 i j):=by intro i j m A;rw[a4 _ (G i j m A),<- uF];exact d3 i j m A
 have d4:=zE2 t;have e6:∀u∈a,u.oneCell'=true:=by intro u hu;obtain⟨k,hk⟩:=qT.1 hu;have d9:k<f.length*t.width:=(by rw[<- B];exact(qA.1 hk).1);have Z:k / t.width<f.length:=(Nat.div_lt_iff_lt_mul d4).2 d9;have d1:k % t.width<t.width:=Nat.mod_lt _ d4;have:=c0 _ _ Z d1;rw[Nat.mul_comm,Nat.div_add_mod,hk] at this;cases this;have H:=qB Z;have r:(t.cells (f[k / t.width]'Z))[k % t.width]?=some ((t.cells (f[k / t.width]'Z))[k % t.width]'(by rw[zc9];exact d1)):=qB _;exact(a3 _ _ H _ _ r).one
 have Q:∀(w1:World) i x,f[i]?=some x->∀j c,(t.cells x)[j]?=some c->Rep true w1 (V2 i j) c (fun _=>False):=fun w1 i x H j c r=>(a3 i x H j c r).flat (zvs hf r);have U:∀i j,i<d.length->j<t.width->i*t.width+j<d.length*t.width:=by intro i j m A;have:(i+1)*t.width<=d.length*t.width:=qS _ m;rw[jL] at this;omega
 have Y:(d.length+f.length)*i.bytes<=140737488355328:=by have:=uR d2 c8;omega
 have a8:z.cells.size=t.width:=by rw[<- kQ,e9];simp[zei]
 have M:∀(g:List Value) (y:Nat) (V1:Nat->Nat->Value) (zs:Array Value),g.length=d.length*t.width->d.length+f.length<=y->zs.size=(y-(d.length+f.length))*t.width->
  (∀i j,i<d.length->j<t.width->g[i*t.width+j]?=some (V1 i j))->
  (∀i x,d[i]?=some x->∀j c,(t.cells x)[j]?=some c->∃S,Rep true w (V1 i j) c S)->
  (Builtin.append_ #[T,T] oT #[v1,.slice (some ⟨b2,p,none⟩) f.length D]).run C.P w = .ok (.slice (some ⟨w.heap.size,0,none⟩) (d.length+f.length) y) (w.drew.alloc (.cells (g.toArray++a.toArray++zs) e (0,0)))->
  ∃(v:Value) (w':World) (J X cap:Nat),(Builtin.append_ #[T,T] oT #[v1,.slice (some ⟨b2,p,none⟩) f.length D]).run C.P w = .ok v w'/\v = .slice (some ⟨J,X,none⟩) (ap d f).length cap/\Rep true w' v (.s t (ap d f)) (fun x=>x=J)/\
  w'.os=w.os/\w'.tape=w.tape/\w'.output=w.output/\
  ((J=w.heap.size/\w'.heap.size=w.heap.size+1/\∀x,x<w.heap.size->w'.heap[x]?=w.heap[x]?) \/
    ∃W L,v1 = .slice (some ⟨J,W,none⟩) d.length L/\S1 J/\w'.heap.size=w.heap.size/\(∀x,x≠J->w'.heap[x]?=w.heap[x]?)/\Rep true w' v1 (.s t d) S1):=by
  intro g y V1 zs E b1 f2 e7 d6 K;generalize n:w.drew.alloc (.cells (g.toArray++a.toArray++zs) e (0,0))=w1 at K;have c3:∀x,x<w.heap.size->w1.heap[x]?=w.heap[x]?:=fun x H=>by rw[<- n];exact heap_alloc_old w.drew _ x H
  have c4:w1.heap.size=w.heap.size+1:=by rw[<- n];simp
  refine⟨_,w1,w.heap.size,0,y,K,by rw[a1],?_,by rw[<- n];rfl,by rw[<- n];rfl,by rw[<- n];rfl,.inl ⟨rfl,c4,c3⟩⟩
  refine Rep.join (arr:=g.toArray++a.toArray++zs) (e:=e) (V1:=V1) (V2:=V2) (K1:=fun _ _ _=>False) (K2:=fun _ _ _=>False) ?_ (by simp only[big];omega) b1 ?_ rfl ?_ ?_ ?_ (Q w1) (fun _ _ _ _ _ h=>h.elim) (fun _ _ _ _ _ h=>h.elim) (fun _ _ _ _ _ _ _ _ _ h=>h.elim) (fun _ _ _ _ _ _ _ _ _ h=>h.elim) (fun _ _ _ _ _ _ _ _ _ h=>h.elim)
  .rw [<- n];exact heap_alloc_new w.drew _
  .simp only [Array.size_append,j6,E,B,f2,<- kT];have:d.length+f.length+(y-(d.length+f.length))=y:=by omega
   rw[this];omega
  .intro i j m A;have:=U i j m A;rw[j4,uN,j3 (by simp[E];exact this)]
   simpa using e7 i j m A
  .intro i j m A;have:=G i j m A;rw[j4,kT,uN,kE (by simp[E];omega),j3 (by simp[E,B];omega)]
   rw[<- c0 i j m A];simp only[j6,E,jF]
   congr 1
   omega
  .intro i x H j c r;obtain⟨S,K⟩:=d6 i x H j c r;exact K.flat (zvs hf r)
 cases c1 with
 |nil=>
  have K:=run_append_nil (P:=C.P) w T oT e i z hE.und m hz ⟨b2,p,none⟩ f.length D a (by rw[hs];exact B) b9 e3 (by omega) (by
   have:=uR (show f.length<=2147483648 by omega) c8
   omega)
  have b5:=grownCap_ge w f.length 0 e;refine M [] (grownCap w f.length 0 e) (fun _ _=>undef) (Builtin.zeroCells z.cells (grownCap w f.length 0 e-f.length)) (by simp) (by simpa using b5) (by simp[size_zeroCells,a8]) (fun i j m=>by simp at m) (fun i x H=>by simp at H) ?_;rw[K];simp
 |void _ _ _ ho=>cases ho
 |sl _ _ b l cap q e1 fz V1 K1 _ hb d8 b7 N a7 c6 c5 b4 V O=>
  have d0:=d8 rfl;subst d0;have e4:d.length*t.width<=cap*t.width:=qS _ N;by_cases F:d.length+f.length<=cap;{have b8:(d.length+f.length)*t.width<=cap*t.width:=qS _ F;rw[kT]at b8;have K:=run_append_room' (P:=C.P) (w:=w) T oT e i hE.und m b l d.length cap q e1 hb ⟨b2,p,none⟩ f.length D a (by rw[hs];exact B) b9 e6 F (by rw[hs,B];omega);rw[hs]at K;have b0:l+d.length*t.width+a.length<=q.toList.length:=(by rw[B];simp;omega);generalize n:w.setRow b (splice q.toList (l+d.length*t.width) a).toArray=w1 at K;have c7:w1.heap[b]?=some (.cells (splice q.toList (l+d.length*t.width) a).toArray e1 (0,0)):=(by rw[<- n];exact setRow_heap w b _ _ e1 _ hb);have a6:∀x,x≠b->w1.heap[x]?=w.heap[x]?:=fun x H=>(by rw[<- n];exact setRow_other w b x _ H);have a2:(splice q.toList (l+d.length*t.width) a).toArray.size=q.size:=(by rw[j6,zhR _ _ _ b0];simp);have I:∀k,k<l+d.length*t.width->(splice q.toList (l+d.length*t.width) a).toArray[k]?=q[k]?:=(by intro k hk;rw[jF,zd8 _ _ _ b0 k (.inl hk)];simp);have a9:Rows true w t d q l b V1 K1 S1:=⟨c5,b4,V,O⟩;obtain⟨k1,_⟩:=Rep.behind (w1:=w1) b7 N a7 c6 a9 hb c7 a2 I a6;refine⟨_,w1,b,l,cap,K,by rw[a1],?_,by rw[<- n];rfl,by rw[<- n];rfl,by rw[<- n];rfl,.inr ⟨l,cap,rfl,c6,by rw[<- n];simp,a6,k1⟩⟩;refine Rep.join (arr:=(splice q.toList (l+d.length*t.width) a).toArray) (e:=e1) (V1:=V1) (V2:=V2) (K1:=fun _ _ _=>False) (K2:=fun _ _ _=>False) c7 (by simp only[big];omega) F (by rw[a2];exact a7) rfl ?_ ?_ ?_ (Q w1) (fun _ _ _ _ _ h=>h.elim) (fun _ _ _ _ _ h=>h.elim) (fun _ _ _ _ _ _ _ _ _ h=>h.elim) (fun _ _ _ _ _ _ _ _ _ h=>h.elim) (fun _ _ _ _ _ _ _ _ _ h=>h.elim);{intro i j m A;have:=U i j m A;rw[I _ (by omega)];exact V i j m A};{intro i j m A;have:=G i j m A;rw[jF,kT,zej _ _ _ b0 _ (by omega) (by rw[B];omega),<- c0 i j m A];congr 1;omega};{intro i x H j c r;exact(O i x H j c r).flat (zvs hf r)}}
  .generalize holds:(q.toList.drop l).take (d.length*t.width)=g;have E:g.length=d.length*t.width:=(by rw[<- holds];simp;omega);have a5:∀k,k<d.length*t.width->g[k]?=q[l+k]?:=by intro k hk;rw[<- holds,jI,if_pos hk,jQ];simp
   have K:=run_append_grow (P:=C.P) w T oT e i z hE.und m hz ⟨b,l,none⟩ d.length cap g (by rw[hs];exact E) (fun j u hu=>by
    have A:j<d.length*t.width:=by rw[<- E];exact(qA.1 hu).1
    rw[add_lit,cell_of_block hb,<- a5 j A];exact hu) ⟨b2,p,none⟩ f.length D a (by rw[hs];exact B) b9 (by omega) (by omega) (growslice_fits (by omega) Y)
   have b5:=grownCap_ge w (d.length+f.length) cap e;refine M g _ V1 _ E b5 (by rw[size_zeroCells,a8]) (fun i j m A=>?_) (fun i x H j c r=>⟨_,O i x H j c r⟩) K;have:(i+1)*t.width<=d.length*t.width:=qS _ m;rw[jL] at this;rw[a5 _ (by omega),<- uF];exact V i j m A
end
section
variable {C:Cfg} {w0 w w1:World} {S0:zX} {U:Nat->Prop} {st st1 st':St} {E E1:Env} {ts:Array Value} {sv:List (Array Value)}
def Late (w0:World)(st:St)(E:Env)(x:App)(v:Value)(w:World):Prop :=
 ∃(f e d g:Nat) (R:Root),w0.heap.size<=f/\(∀q Q,st.root q=some Q->∀y,E.φ q y->y<f)/\(∀l h,zl st.lo l=some h->E.β l<f)/\
  v = .slice (some ⟨e,d,none⟩) x.l.length g/\Rep true w v (.s x.t x.l) (fun y=>y=e)/\st.root x.r=some R/\
  (f<=e\/∃c b a,zZ w R.t (E.ρ x.r) x.p=some (.slice (some ⟨e,c,none⟩) b a))
theorem Late.states {x:App}{v:Value}(h:Late w0 st E x v w)(d:∀n,st'.root n=st.root n)(s:∀n,zl st'.lo n=zl st.lo n):Late w0 st' E x v w:=by obtain⟨t,e,a,b,R,g,i,j,k,m,p,r⟩:=h;exact⟨t,e,a,b,R,g,fun q Q c=>i q Q (by rw[<- d];exact c),fun l f c=>j l f (by rw[<- s];exact c),k,m,by rw[d];exact p,r⟩
theorem zH6 {r:Nat}(a:At):zcR r [] a=a:=by cases a<;>simp [zcR,coarse]
theorem zH7 {r:Nat}(m:MV):zfB r [] m=m:=by have h:zcR r []=id:=funext fun a=>zH6 a;have c:∀x,zlJ r [] x=x:=fun x=>(by cases x<;>simp [zlJ,h]);have b:zlJ r []=id:=funext c;cases m<;>simp [zfB,c,b]
theorem z3Q (h:Dead st){n:Nat}{R:Root}(c:st.root n=some R):R.ep=none:=by obtain⟨b,a⟩:=zbw c;rcases a with a|a;{exact a};{have:=h n R _ b a;omega}
theorem z4t {v:Value}{t:Ty}{l:List t.den}{S:zX}{b off n cap:Nat}(h:Rep true w v (.s t l) S)(d:v = .slice (some ⟨b,off,none⟩) n cap):b<w.heap.size/\S b:=by cases h with|nil=>cases d|void _ _ _ e=>cases e|sl _ _ f _ _ _ _ _ _ _ _ c _ _ _ _ a=>cases d;exact⟨(qQ.1 c).1,a⟩
theorem z6v (hC:CfgOk C)(j:Sim w0 S0 U st E ts sv w)(hd:Dead st){o:Oper}{x:App}(h:zqo C st o=some (true,x)) :
 o.guard=none/\o.dst=some x.dst/\∃(v:Value) (w':World),(execOp ({tmps:=ts,defers:=[]}:Act).eval o).run C.P w = .ok (.value v) w'/\
  Sim w0 S0 U (st.put o.dst (.v (.at .bad))) E (({tmps:=ts,defers:=[]}:Act).put o.dst v).tmps sv w'/\Late w0 st E x v w':=by
 unfold zqo at h;split at h
 .rename_i c d ho hdst hgu;split at h
  .rename_i hcb;split at h
   .rename_i a0 y0 T T2 hca hct;split at h
    .rename_i hTT;subst hTT;split at h
     .rename_i t r a p r2 p2 hT h1 h2;split at h
      .rename_i R cv1 cv2 hR hn1 hn2;split at h
       .rename_i hcond;simp only[qD,jE,beq_eq_false_iff_ne]at hcond;obtain⟨⟨G,a1⟩,b8⟩:=hcond;split at h
        .rename_i m t2 y2 l2' hm;simp only[qC,jT]at h;obtain⟨Z,rfl⟩:=h;refine⟨hgu,hdst,?_⟩;obtain⟨l1,l2,e1,e2,rfl⟩:=zBk hm;subst e1;have b1:l2≠[]:=by intro e;subst e;cases e2
         rw[e2]at hn2
         clear e2
         generalize b9:a::p=pp at h1 hn1;have i:=j.mem;obtain⟨hx,_⟩:=zbG j h1;obtain⟨hy,_⟩:=zbG j h2;have hh:=hx.2 R hR;have g:=i.rep r R hR;rw[G]at g;obtain⟨t',l0,S1,f1,f2,f3,f4,f5⟩:=Rep.focus pp g hh;have a2:zgm R.t R.l pp=some (.s t l1):=by obtain⟨R',V,b0⟩:=zfo hn1;rw[hR]at V;cases V;exact b0
         rw[a2] at f1;cases f1;obtain⟨R2,S2,b6,g1,g2,g3,g4⟩:=zuZ j hy hn2;obtain⟨v,w',bv,J,O,a4,hv,H,a3,a5,F,K⟩:=zbaS hC hT a1 f3 g3.ro b1 Z o.type;have W:c.args = #[a0,y0]:=by rw[<- hca]
         have X:c.argTypes = #[T2,T2]:=by rw[<- hct]
         have f:(execOp ({tmps:=ts,defers:=[]}:Act).eval o).run C.P w = .ok (.value v) w':=by simp[execOp,ho,resolve,hcb,invoke,builtin,W,X,a4]
         have a6:∀l cs,zl st.lo l=some cs->E.β l<w.heap.size:=by intro l cs h;obtain⟨_,b5,e,h2,_⟩:=i.loc l cs h;exact(qQ.1 h2).1
         rcases K with⟨b7,b3,N⟩|⟨a7,S,b4,A,b3,D,M⟩
         .obtain⟨hM',hT'⟩:=i.addRoots j.ids.mem (dro:=[]) (w1:=w') (E1:=E) a3 a5 F (by omega) N (fun q Q b=>by cases b) (fun q Q _ _ b=>by cases b) (fun _ _=>⟨rfl,rfl,rfl⟩)
          refine⟨v,w',f,Sim.next j (st1:=st) hM' hT' rfl rfl (fun _ h=>h) j.ids.ro j.ids.lo trivial (fun n hn=>by simp[MV.ids,zbA,zS,At.ids,zbo,zbq]at hn),?_⟩
          exact⟨w.heap.size,bv,J,O,R,i.size,fun q Q b y hy=>i.rlt q Q b y hy,a6,hv,H,hR,.inl (by omega)⟩
         .obtain⟨m,hm1,hrm,hh1,hh2⟩:=f5 w' l1 S1 (fun z _ L=>D z (fun e=>L (e ▸ A))) (fun _ h _=>h) M;have b2:=zRy pp a2 m hm1;subst b2;obtain⟨_,_,_,_,a8⟩:=f5 w l1 S1 (fun _ _ _=>rfl) (fun _ h _=>h) f3;have B:∀q u,zZ w R.t (E.ρ r) q=some u->zZ w' R.t (E.ρ r) q=some u:=by intro q u b;refine hh1 q u b (fun q' Y=>?_);subst Y;rw[a8]at b;exact z6g a1 q' _ _ b
          have I:=zHt (w1:=w') (m:=R.l) (js:=[]) (S3:=E.φ r) j hR G a3 a5 F (by omega) (fun z hz L=>D z (fun e=>L (f4 z (e ▸ A)))) (fun z hz=>⟨.inl hz,by have:=i.rlt r R hR z hz;omega⟩) (hrm.weak fun z hz=>by
           rcases hz with⟨h,_⟩|h
           .exact h
           .exact f4 z h) (fun q u b _=>B q u b)
          have hE:({E with φ:=fun n=>if n=r then E.φ r else E.φ n}:Env)=E:=by
           have:(fun n=>if n=r then E.φ r else E.φ n)=E.φ:=by
            funext n
            split
            .rename_i e;rw[e]
            .rfl
           rw[this]
          rw[hE]at I;have a9:Sim w0 S0 U st E ts sv w':=by refine I.fewer (fun t=>?_) (fun n=>?_) ?_ (fun n Q k=>?_) (fun n Q k=>?_) (fun n Q e k Y=>i.epo n Q e k Y);{simp only [zhg,qP];cases st.tm[t]? <;> simp [zH7]};{simp only [zhg];rw[zki];have:zcR r []=id:=funext fun a=>zH6 a;cases zl st.lo n<;>simp [this]};{simp only [zhg];have:zfB r []=id:=funext fun a=>zH7 a;simp[this]};{have Y:=z3Q hd k;obtain⟨q1,_⟩:=zbw k;refine zgN ?_ (.inl Y);simp only[zhg,zl];split;{rename_i hb;simp only[qK]at hb;subst hb;rw[hR]at k;cases k;rfl};{exact q1}};{simp only [zhg,zl];split;{exact⟨_,rfl⟩};{exact⟨Q,k⟩}}
          refine⟨v,w',f,a9.putV trivial (fun n hn=>by simp[MV.ids,zbA,zS,At.ids,zbo,zbq]at hn),?_⟩
          refine⟨w.heap.size,bv,J,O,R,i.size,fun q Q b y hy=>i.rlt q Q b y hy,a6,hv,H,hR,.inr ⟨a7,l1.length,S,?_⟩⟩;refine B pp _ ?_;rw[hh,b4]
        .cases h
       .cases h
      .cases h
     .cases h
    .cases h
   .cases h
  .cases h
 .cases h
theorem z09 (hC:CfgOk C)(hS:Sim w0 S0 U st E ts sv w){o:Oper}{id:Nat}{x:App}{v:Value}{b4:St}(hL:Late w0 st E x v w)(g0:ts[x.dst]?=some v)(h:zDT C st o x=some (true,b4)) :
 o.guard=none/\Goes C w0 S0 U st ts sv w o id (fun _=>b4.put o.dst .und)/\b4.nid=st.nid:=by
 unfold zDT at h;split at h
 .rename_i T a d ho hgu;split at h
  .rename_i t1 r p i off hT ha;split at h
   .rename_i R t l c hRr L hsp;split at h
    .rename_i hcond;simp only[qD,q0,Nat.beq_eq_true_eq]at hcond;obtain⟨⟨⟨a4,a9⟩,b2⟩,G⟩:=hcond;have a9:=kJ a9;have b2:=kJ b2;subst a9 b2;split at h
     .rename_i l' hset;split at h
      .rename_i m hput;simp only[qC,jT]at h;obtain⟨rfl,rfl⟩:=h;refine⟨hgu,?_,rfl⟩;have f7:=zsD hsp;obtain⟨n0,X,g7,g3,R',e8,Q,e7,c6,P,M,S⟩:=hL;rw[hRr]at M;cases M;obtain⟨d0,g8⟩:=zbG hS ha;obtain⟨b,o2,len,c8,h0,e1,e2,e3,Y,e5⟩:=d0.2 R hRr;have hM:=hS.mem;have a5:=hM.rep _ R hRr;rw[a4]at a5;obtain⟨t',l0,S1,f1,f2,f3,f4,f5⟩:=Rep.focus p a5 e1;have d7:zgm R.t R.l p=some (.s t l):=by obtain⟨R',M,d6⟩:=zfo L;rw[hRr]at M;cases M;exact d6
       rw[d7] at f1;cases f1;rw[e2] at f2;cases f2;obtain⟨_,_,_,_,b5⟩:=f5 w l S1 (fun _ _ _=>rfl) (fun _ h _=>h) f3;cases f3 with
       |void _ _ _ ho=>cases ho
       |sl _ _ _ _ _ a6 e' fz V K _ hb d5 b0 a0 c5 a7 A a1 c7 b8=>
       have b9:=d5 rfl;subst b9;have N:Rows true w t l a6 o2 b V K S1:=⟨A,a1,c7,b8⟩;have a3:v.oneCell'=true:=by rw[c6];rfl
       have B:v.cells = #[v]:=cells_one a3;have O:off+[v].length<=t.width:=by simp;omega
       have c3:(i.toNat+1)*t.width<=c8*t.width:=qS _ (by omega)
       rw[jL]at c3;have H:=zoq (w:=w) (v:=v) (off:=o2+i.toNat*t.width+off) (hC.cty T false [.s t1] hT) hb (by rw[B];rfl) (by simp;omega) (by rw[B];intro u hu;simp at hu;rw[hu];exact a3)
       rw[B]at H;have e6:(#[v]:Array Value).toList=[v]:=rfl;rw[e6]at H;generalize J:w.setRow b (splice a6.toList (o2+i.toNat*t.width+off) [v]).toArray=w1 at H;have b7:w1.heap[b]?=some (.cells (splice a6.toList (o2+i.toNat*t.width+off) [v]).toArray e' (0,0)):=by rw[<- J];exact setRow_heap w b _ _ e' _ hb
       have D:∀y,y≠b->w1.heap[y]?=w.heap[y]?:=fun y z=>by rw[<- J];exact setRow_other w b y _ z
       have c2:E.φ x.r b:=f4 b a7;have g9:b<n0:=Q _ R hRr b c2;have a2:∀F j,F<l.length->j<t.width->¬ Hit i.toNat off [v].length F j->∀y,K F j y->w1.heap[y]?=w.heap[y]?:=fun F j I hj _ y z=>D y ((A F j y I hj z).2 rfl)
       have a8:n0<=X\/K i.toNat off X:=by rcases S with h|⟨g6,g5,g2,h⟩;{exact .inl h};{right;rw[<- f7,b5]at h;simp only[zZ]at h;rw[if_pos ⟨e3,Y⟩]at h;split at h;{rename_i t3 f9;rw[cell_of_block hb,c7 i.toNat off Y G]at h;simp only[qC]at h;obtain⟨c,hc,d3⟩:=zAT (x:=ix l i t.dflt) f9;obtain⟨l3,rfl⟩:=zk5 d3;have c1:=b8 i.toNat _ (zld Y) off _ hc;rw[h]at c1;cases c1 with|void _ _ _ ho=>cases ho|sl _ _ _ _ _ _ _ _ _ _ _ _ _ _ _ _ c9=>exact c9};{cases h}}
       have Z:X≠b:=by rcases a8 with h|h;{omega};{exact(A _ _ X Y G h).2 rfl}
       have b3:=Rep.setCells (w:=w) (w1:=w1) (us:=[v]) (Kn:=fun _ y=>y=X) b0 a0 c5 N Y rfl O hset b7 (fun k c u hc hu=>by
        cases k with
        |zero=>simp only[qH,qC]at hc hu;subst hc hu;exact P.frame (fun y z=>D y (by rw[z];exact Z))
        |succ k=>simp at hc)
        a2
        (fun k y _ z=>by rw[z];exact Z)
        (fun k k' y hk e0 _ _=>by simp at hk e0;omega)
        (fun k y F j hk z I hj e9 W=>by
         subst z;rcases a8 with h|h
         .have:=Q _ R hRr y (f4 y (A F j y I hj W).1);omega
         .have:=a1 rfl _ _ _ _ y Y G I hj h W;exact e9 ⟨this.1.symm,by omega,by simp;omega⟩)
       have b6:∀y,(y=b\/(∃F j,F<l.length/\j<t.width/\¬ Hit i.toNat off [v].length F j/\K F j y)\/∃k,k<[v].length/\y=X)->S1 y\/(n0<=y/\y=X):=by intro y z;rcases z with rfl|⟨F,j,I,hj,_,hk⟩|⟨k,hk,rfl⟩;{exact .inl a7};{exact .inl (A F j y I hj hk).1};{rcases a8 with h|h;{exact .inr ⟨h,rfl⟩};{exact .inl (A _ _ _ Y G h).1}}
       obtain⟨m',c0,f8,d8,d9⟩:=f5 w1 l' _ (fun y z b1=>D y (fun e=>b1 (e ▸ a7))) (fun y z W=>by
        rcases b6 y z with h|⟨h,_⟩
        .exact h
        .have:=Q _ R hRr y W;omega) b3
       rw[hput]at c0;cases c0;have g4:w1.heap.size=w.heap.size:=by rw[<- J];simp
       have d1:X<w.heap.size:=(z4t P c6).1;have c4:=zDN (w1:=w1) (m:=m) (js:=[cols p++[off]]) e8 Q e7 hS hRr a4 (by rw[<- J];rfl) (by rw[<- J];rfl) (by rw[<- J];rfl) (by omega) (fun y _ b1=>D y (fun e=>b1 (e ▸ c2))) (fun y z=>by
        rcases z with⟨z,_⟩|z
        .exact⟨.inl z,by have:=hM.rlt _ R hRr y z;omega⟩
        .rcases b6 y z with h|⟨h,rfl⟩
         .exact⟨.inl (f4 y h),by have:=hM.rlt _ R hRr y (f4 y h);omega⟩
         .exact⟨.inr h,by omega⟩) f8 (fun q u hq f6=>by
        rcases zs8 p q with⟨q',rfl⟩|f0
        .rw [d9 q'];rw[b5 q']at hq;refine znV (us:=[v]) a0 c5 N hb Y rfl O hset b7 a2 q' (fun F j g1 he k c hj d2=>?_) D hq;subst he hj;cases k with
         |succ k=>simp at d2
         |zero=>exfalso;have h9:=kP.1 f6 (cols p++[off]) (by simp);exact absurd (zqq p F off g1) h9
        .exact d8 q u hq (fun q' he=>absurd ⟨q',he⟩ f0))
       have g:=c4.putV (dst:=o.dst) (m:=.und) (v:=undef) rfl (fun n L=>by simp[MV.ids,zbA]at L)
       refine zvv (w':=w1) ?_ ⟨g.mem,⟨fun n R L=>.inl (g.ids.ro n R L),fun n cs L=>⟨.inl (g.ids.lo n cs L).1,fun a ha m hm=>.inl ((g.ids.lo n cs L).2 a ha m hm)⟩,fun m hm n L=>.inl (g.ids.tm m hm n L),fun f hf m hm n L=>.inl (g.ids.stk f hf m hm n L)⟩,g.tm,g.stk⟩;have d4:({tmps:=ts,defers:=[]}:Act).eval (.tmp x.dst)=v:=by simp[Act.eval,g0]
       simp[execOp,ho,Instr.storeAt,e5,Instr.sureAddr,d4,H]
      .cases h
     .cases h
    .cases h
   .cases h
  .cases h
 .cases h
end
section
variable {C:Cfg} {w0 w w1:World} {S0:zX} {U:Nat->Prop} {st st1:St} {E E1:Env} {ts:Array Value} {sv:List (Array Value)}
variable {ops:Array Oper} {b:Bool} {base:Nat} {cl:List (List Nat)} {ss:List Step} {st0:St}
theorem zLn {w w':World}(h:w'.heap=w.heap):∀(p:List (Int×Nat)) (t:Ty) (v:Value),zZ w' t v p=zZ w t v p
 |[],t,v=>by simp only[zZ]
 |(i,j)::p,t,v=>by have c:∀a,w'.cell? a=w.cell? a:=fun a=>(by simp only[World.cell?,h]);have d:=zLn h p;cases v with|slice a len b=>cases a<;>simp only [zZ,c,d]|_=>simp only[zZ]
theorem Sim.heap (g:Sim w0 S0 U st E ts sv w){w':World}(d:w'.heap=w.heap)(v:w'.os=w.os)(y:w'.tape=w.tape)(z:w'.output=w.output):Sim w0 S0 U st E ts sv w':=by
 have T:Trans st E w st E w' (fun _=>True):=⟨fun r _ R h=>⟨R,h,rfl,fun p u i=>by rw[zLn d];exact i⟩,fun l _ k h=>⟨⟨k,h⟩,rfl⟩,rfl⟩
 have a:=g.mem;refine⟨⟨by rw[v];exact a.os,by rw[y];exact a.tape,by rw[z];exact a.output,by rw[d];exact a.size,fun b A C=>by rw[d];exact a.keep b A C,
  fun r R h=>(a.rep r R h).frame (fun x _=>by rw[d]),fun r R h x D=>by rw[d];exact a.rlt r R h x D,a.mine,a.frz,a.apart,fun l k B=>?_,a.linj,a.lro,a.epo,a.κ⟩,g.ids,
  Slots.tr T (fun _ _ _ _=>trivial) g.tm,Stack.tr T (fun _ _ _ _ _ _=>trivial) g.stk⟩
 obtain⟨q,f,e,s,t,m⟩:=a.loc l k B;exact⟨q,f,e,by rw[d];exact s,t,fun j c u n i=>⟨(m j c u n i).1,VA.tr T (fun _ _=>trivial) (m j c u n i).2⟩⟩
theorem Sim.blind (d:Sim w0 S0 U st E ts sv w)(c:Bool)(n:Nat):Sim w0 S0 U {st with nid:=n,ep:=if c then st.ep+1 else st.ep} E ts sv w:=by
 have h:=d.nid n;cases c with
 |false=>exact h
 |true=>refine h.fewer (fun _=>rfl) (fun _=>rfl) rfl (fun r R b=>?_) (fun r R b=>⟨R,b⟩) (fun r R e b i=>?_);{obtain⟨f,a⟩:=zbw b;have j:R.ep=none:=(by rcases a with a|a;{exact a};{have:=d.mem.epo r R _ f a;simp only[if_true] at this;omega});show St.root {st with nid:=n} r=some R;unfold St.root;have g:zl ({st with nid:=n}:St).ro r=some R:=f;rw[g];simp only[j]};{have:=d.mem.epo r R e b i;show e<=st.ep+1;omega}
theorem cnt_lt {p q:Nat->Bool}:∀(l:List Nat),(∀x∈l,q x=true->p x=true)->(∃x∈l,p x=true/\q x=false)->l.countP q<l.countP p
 |[],_,h=>by obtain⟨x,b,_⟩:=h;cases b
 |a::l,e,g=>by
  have f:∀(m:List Nat),(∀x∈m,q x=true->p x=true)->m.countP q<=m.countP p:=fun m i=>List.countP_mono_left i;have i:=f l (fun x b=>e x (by simp[b]))
  simp only[vG];cases j:q a with
  |true=>
   rw[e a (by simp) j]
   have:l.countP q<l.countP p:=cnt_lt l (fun x b=>e x (by simp[b])) (by
    obtain⟨x,b,c,d⟩:=g;rcases qG.1 b with rfl|b
    .rw [j] at d;cases d
    .exact⟨x,b,c,d⟩)
   simp only[if_true];omega
  |false=>
   cases k:p a with
   |true=>simp;omega
   |false=>
    have:l.countP q<l.countP p:=cnt_lt l (fun x b=>e x (by simp[b])) (by
     obtain⟨x,b,c,d⟩:=g;rcases qG.1 b with rfl|b
     .rw [k] at c;cases c
     .exact⟨x,b,c,d⟩)
    simp;omega
def left (n:Nat)(listed:Array Bool):Nat:=(List.range n).countP fun i=>!listed.getD i true
theorem zJy {listed:Array Bool}{n i:Nat}(e:i<n)(c:listed.getD i true=false):left n (listed.setIfInBounds i true)<left n listed:=by unfold left;have a:i<listed.size:=(by rcases u3 i listed.size with h|h;{exact h};{simp [uX h]at c});refine cnt_lt _ (fun x _ d=>?_) ⟨i,kI.2 e,by rw[c];rfl,by simp[a]⟩;by_cases b:i=x;{subst b;simp[a]at d};{rwa [getD_set_ne true b]at d}
theorem zXJ {C:Cfg}{st:St}{o:Oper}{id:Nat}{d:Dl}(b:zrN o=true)(h:zjv C st o id=some d):delta C st o id=some d:=by unfold zjv at h;cases e:delta C st o id with|some g=>rw[e]at h;exact h|none=>rw[e]at h;exfalso;have h:zkI C st o id=some d:=h;have f:zi9 C o=none:=(by unfold zrN at b;unfold zi9;cases a:o.op with|call c=>rw[a]at b;simp at b|_=>rfl);unfold zkI at h;rw[f]at h;cases h
structure Waits (md:Region.Mode) (ops:Array Oper) (cl:List (List Nat)):Prop where
 at':∀i,i<ops.size->cl.getD i []=waits ops (cl.take i) i
 lt:∀i,i<ops.size->∀j∈cl.getD i [],j<i
 sub:∀e,Region.binds .any e=true->Region.binds md e=true
 rk:∃rk:Nat->Nat,∀(i:Nat) (o:Oper),ops[i]?=some o->∀e∈o.after,Region.binds md e=true->e.on<ops.size/\rk e.on<rk i
variable {md:Region.Mode}
theorem zbaf (a:∀i,i<ops.size->cl.getD i []=waits ops (cl.take i) i){i:Nat}{o:Oper}(b:ops[i]?=some o){e:Edge}(d:e∈o.after)(c:Region.binds .any e=true):e.on∈cl.getD i []:=by have f:=(qQ.1 b).1;rw[a i f];simp only[waits,b];exact zNI (by simpa using d) c
theorem zTb {l:List (List Nat)}{i j k:Nat}(h:k∈(l.take i).getD j []):k∈l.getD j []:=by rw[j8,jI]at h;rw[j8];split at h;{exact h};{simp at h}
theorem Waits.inv (W:Waits md ops cl){i j:Nat}{o:Oper}(b:ops[i]?=some o)(a:j∈cl.getD i []):∃e∈o.after,Region.binds .any e=true/\(j=e.on\/j∈cl.getD e.on []):=by have f:=(qQ.1 b).1;rw[W.at' i f]at a;simp only[waits,b]at a;obtain⟨e,d,c,h⟩:=zNJ a;exact⟨e,by simpa using d,c,h.imp id zTb⟩
def XL (listed:Array Bool)(k:Nat):Bool:=listed.getD k false
theorem zHA (W:Waits md ops cl){listed:Array Bool}(d:zjO cl (XL listed)){i:Nat}(f:i∈Region.ready md ops listed):∀j∈cl.getD i [],XL listed j=true:=by obtain⟨_,o,k,a⟩:=mem_ready.1 f;intro j g;obtain⟨e,c,b,h|h⟩:=W.inv k g;{subst h;exact a e c (W.sub e b)};{exact d _ (a e c (W.sub e b)) j h}
theorem least {p:Nat->Prop}:∀n,p n->∃m,m<=n/\p m/\∀j,j<m->¬ p j:=by intro n;induction n using Nat.strongRecOn with|_ n i=>intro g;by_cases h:∃j,j<n/\p j;{obtain⟨j,d,e⟩:=h;obtain⟨m,k,b,c⟩:=i j d e;exact⟨m,by omega,b,c⟩};{exact⟨n,qZ _,g,fun j f a=>h ⟨j,f,a⟩⟩}
theorem zMS (W:Waits md ops cl){listed:Array Bool}(s:listed.size=ops.size){b:Nat}(c:b<ops.size)(d:listed.getD b true=false):∃i,i∈Region.ready md ops listed:=by obtain⟨j,g⟩:=W.rk;obtain⟨n,_,⟨i,k,r,u⟩,a⟩:=least (p:=fun n=>∃i,i<ops.size/\listed.getD i true=false/\j i=n) (j b) ⟨b,c,d,rfl⟩;refine⟨i,mem_ready.2 ⟨r,ops[i],by simp[k],fun e q m=>?_⟩⟩;obtain⟨l,t⟩:=g i ops[i] (by simp[k]) e q m;cases h:listed.getD e.on false with|true=>rfl|false=>exfalso;refine a (j e.on) (by omega) ⟨e.on,l,?_,rfl⟩;have f:e.on<listed.size:=(by omega);simp only[Array.getD,f,dif_pos]at h ⊢;exact h
theorem zsS {listed:Array Bool}{i:Nat}(a:i<listed.size):XL listed i=listed.getD i true:=by simp[XL,a]
theorem zKO {listed:Array Bool}{i:Nat}(a:i<listed.size)(k:Nat):XL (listed.setIfInBounds i true) k=(XL listed k||k==i):=by unfold XL;by_cases h:i=k;{subst h;simp[a]};{rw [getD_set_ne false h];have:(k==i)=false:=(by simp;omega);rw[this,u0]}
theorem z2k {P:Program}{Q d:Exit->Act->World->Prop}(f:∀e,e≠.normal->∀a w,d e a w->Q e a w){i:Nat}{K:Act->World->Prop}{a:Act}{w:World}(h:wpOp P ops d i K a w):wpOp P ops Q i K a w:=by
 have b:LetsOut d->LetsOut Q:=(by rintro⟨a,w,h⟩;exact⟨a,w,f _ (by simp) a w h⟩);unfold wpOp at h ⊢;split;{rename_i m;rw[m]at h;exact h}
 .rename_i o ho;simp only[ho]at h;split
  .rename_i j;rw[if_pos j]at h;rcases h with h|⟨k,l⟩
   .left
    unfold Oper.wp at *;generalize (execOp a.eval o).run P w=r at *;cases r with
    |ok n p =>
     cases n<;>simp only [Oper.upon]at h ⊢ <;>
      first
       |exact h
       |exact h.mono (fun e q g=>by
        cases e with
        |returned v=>exact g
        |panicked c=>exact f _ (by simp) _ _ g
        |outgrown=>exact b g)
    |halt x p =>cases x<;>simp only [Oper.upon]at h ⊢ <;> first|exact f _ (by simp) _ _ h|exact h
   {exact .inr ⟨k,b l⟩}
  {rename_i j;rw[if_neg j]at h;exact h}
theorem zsf (W:Waits md ops cl){listed:Array Bool}{m:Nat}(e:listed.size=ops.size)(c:∀i,i<ops.size->listed.getD i true=decide (i<m)):zjO cl (XL listed):=by intro k b j d;have a:k<ops.size:=(by rcases u3 k listed.size with h|h;{omega};{simp [XL,uX h]at b});rw[zsS (by omega),c k a]at b;simp at b;have:=W.lt k a j d;rw[zsS (by omega),c j (by omega)];simp;omega
theorem z6D {P:Program}{Q:Exit->Act->World->Prop}{b:Nat}{listed:Array Bool}{a:Act}{w:World}(f:∀i,i<ops.size->listed.getD i true=true)(h:Q .normal a w):wpAny P md ops Q b listed a w:=by have e:Region.ready md ops listed=[]:=(by refine List.eq_nil_iff_forall_not_mem.2 (fun i c=>?_);obtain⟨d,o,g,_⟩:=mem_ready.1 c;have c:=(qQ.1 g).1;rw[f i c]at d;cases d);cases b with|zero=>exact⟨e,h⟩|succ b=>exact⟨fun _=>h,fun i c=>by rw[e]at c;cases c⟩
theorem zZI (W:Waits md ops cl){P:Program}{Q:Exit->Act->World->Prop}{b m:Nat}{listed:Array Bool}{a:Act}{w:World}(c:listed.size=ops.size)(r:m<ops.size)(A:Pinned ops.size cl m)(p:∀i,i<ops.size->listed.getD i true=decide (i<m))(B:left ops.size listed<=b)(h:∀q l,l.size=ops.size->(∀i,i<ops.size->l.getD i true=decide (i<m+1))->left ops.size l<=q->b=q+1->l=listed.setIfInBounds m true->wpOp P ops Q m (wpAny P md ops Q q l) a w):wpAny P md ops Q b listed a w:=by have t:listed.getD m true=false:=(by rw[p m r];simp);obtain⟨C,j⟩:=zMS W c r t;have y:=zJy (listed:=listed) (n:=ops.size) (i:=m) r t;obtain⟨b,rfl⟩:∃f,b=f+1:=⟨b-1,by omega⟩;refine⟨fun h=>(by rw[h]at j;cases j),fun i v=>?_⟩;obtain⟨u,o,z,_⟩:=mem_ready.1 v;have d:=(qQ.1 z).1;rw[p i d]at u;simp only[decide_eq_false_iff_not,Nat.not_lt]at u;have e:i=m:=(by by_cases s:i=m;{exact s};{exfalso;have:=zHA W (zsf W c p) v m (A.wait i (by omega) d);rw[zsS (by omega),t] at this;cases this});subst e;refine h b _ (by simp[c]) (fun k x=>?_) (by omega) rfl rfl;by_cases g:i=k;{subst g;simp[c,d]};{rw [getD_set_ne true g,p k x];congr 1;simp only[eq_iff_iff];omega}
theorem zTT {a T:Nat}(W:Waits md ops cl)(I:T<=ops.size)(s:T<ops.size->Pinned ops.size cl T){P:Program}{Q:Exit->Act->World->Prop}{J:(Nat->Bool)->Env->Array Value->World->Prop}(d:∀X Y E ts w,(∀k,a<=k->k<T->X k=Y k)->J X E ts w->J Y E ts w)(l:∀X Y i,zjO cl X->a<=i->i<T->X i=false->(∀j∈cl.getD i [],X j=true)->(∀k,Y k=(X k||k==i))->∀E ts w,J X E ts w->∀K:Act->World->Prop,(∀E' c w',J Y E' c w'->K {tmps:=c,defers:=[]} w')->wpOp P ops Q i K {tmps:=ts,defers:=[]} w)(p:∀(U:Nat) (G:Array Bool) (E':Env) (c:Array Value) (w':World),G.size=ops.size->(∀i,i<ops.size->G.getD i true=decide (i<T))->left ops.size G<=U->J (fun _=>true) E' c w'->wpAny P md ops Q U G {tmps:=c,defers:=[]} w') :
 ∀(b:Nat) (listed:Array Bool) (E:Env) (ts:Array Value) (w:World),listed.size=ops.size->zjO cl (XL listed)->(∀i,i<a->XL listed i=true)->(∀m,T<=m->m<ops.size->XL listed m=false)->left ops.size listed<=b->
  J (XL listed) E ts w->wpAny P md ops Q b listed {tmps:=ts,defers:=[]} w
 |b,listed,E,ts,w,x,L,q,g,hf,Z=>by by_cases e:∀i,i<T->XL listed i=true;{have hl:∀i,i<ops.size->listed.getD i true=decide (i<T):=(by intro i y;rw[<- zsS (by omega)];by_cases h:i<T;{rw [e i h];simp[h]};{rw [g i (by omega) y];simp[h]});exact p b listed E ts w x hl hf (d _ _ E ts w (fun k _ v=>e k v) Z)};{have M:∃i,i<T/\XL listed i=false:=(by refine Classical.byContradiction (fun S=>e (fun i y=>?_));cases h:XL listed i with|true=>rfl|false=>exact absurd ⟨i,y,h⟩ S);obtain⟨F,N,r⟩:=M;have C:listed.getD F true=false:=(by rw[<- zsS (by omega)];exact r);obtain⟨i1,B⟩:=zMS W x (by omega) C;have a0:0<left ops.size listed:=(by have:=zJy (listed:=listed) (n:=ops.size) (i:=F) (by omega) C;omega);obtain⟨b,rfl⟩:∃f,b=f+1:=⟨b-1,by omega⟩;refine⟨fun h=>(by rw[h]at B;cases B),fun i y=>?_⟩;obtain⟨V,o,ho,_⟩:=mem_ready.1 y;have z:=(qQ.1 ho).1;have u:XL listed i=false:=(by rw[zsS (by omega)];exact V);have D:=zHA W L y;have O:a<=i:=(by refine Classical.byContradiction (fun S=>?_);rw[q i (by omega)]at u;cases u);have t:i<T:=(by refine Classical.byContradiction (fun S=>?_);have hp:=s (by omega);by_cases t:i=T;{subst t;have:=D F (hp.full F N);rw[r] at this;cases this};{have:=D T (hp.wait i (by omega) z);rw[g T (qZ _) (by omega)] at this;cases this});refine l _ (XL (listed.setIfInBounds i true)) i L O t u D (zKO (by omega)) E ts w Z _ (fun E' c w' H=>?_);refine zTT W I s d l p b (listed.setIfInBounds i true) E' c w' (by simp[x]) ?_ ?_ ?_ ?_ H;{intro k v j hj;rw[zKO (by omega)]at v ⊢;by_cases A:k=i;{subst A;rw[D j hj];rfl};{have:(k==i)=false:=(by simp[A]);rw[this,u0]at v;rw[L k v j hj];rfl}};{intro k v;rw[zKO (by omega),q k v];rfl};{intro m hm R;rw[zKO (by omega),g m hm R];simp;omega};{have:=zJy (listed:=listed) (n:=ops.size) z V;omega}}
theorem z6i (x:CfgOk C)(z:CtrOk C)(y:GraftOk C){a T:Nat}(W:Waits md ops cl)(D:a+ss.length=T)(p:T<=ops.size)(f:T<ops.size->Pinned ops.size cl T)(F:Free C ops cl b base a ss st0)(I:b=false->∀k,a<=k->k<T->zkC C ops k=false)(L:b=true->Dead st0/\0<st0.ep)(B:∀k,a<=k->k<T->∀n,Mine (base+32*k) n->¬ U n){Q:Exit->Act->World->Prop}(d:∀(s:Nat) (l:Array Bool) (E':Env) (g:Array Value) (w':World),l.size=ops.size->(∀i,i<ops.size->l.getD i true=decide (i<T))->left ops.size l<=s->
 Sim w0 S0 (UX U base a T (fun _=>true)) (zbx ops b (fun _=>true) a ss st0) E' g sv w'->wpAny C.P md ops Q s l {tmps:=g,defers:=[]} w') :
 ∀(c:Nat) (listed:Array Bool) (E:Env) (ts:Array Value) (w:World),listed.size=ops.size->zjO cl (XL listed)->(∀i,i<a->XL listed i=true)->(∀m,T<=m->m<ops.size->XL listed m=false)->left ops.size listed<=c->
  Sim w0 S0 (UX U base a T (XL listed)) (zbx ops b (XL listed) a ss st0) E ts sv w->wpAny C.P md ops Q c listed {tmps:=ts,defers:=[]} w :=
 zTT (J:=fun X E ts w=>Sim w0 S0 (UX U base a T X) (zbx ops b X a ss st0) E ts sv w) W p f
  (fun X Y E ts w h j=>by
   rw[zqv ss a st0 (fun k e u=>h k e (by omega))]at j
   refine j.uses ?_
   rintro n (e|⟨k,t,e,u,v⟩)
   .exact .inl e
   .exact .inr ⟨k,t,e,by rw[<- h k t e];exact u,v⟩)
  (fun X Y i G r M q N H E ts w j K A=>zQ9 x z y D F G r M q N I L B H j A) d
theorem get_put {st:St}{d:Nat}{m:MV}{κ:Key}(h:κ≠.tm d):(st.put (some d) m).get κ=st.get κ:=by cases κ with|tm t=>have:d≠t:=fun e=>h (by rw[e]);simp[St.get,St.put,q9,this]|ro n=>rfl|lo n=>rfl
theorem z5h {st b:St}{o:Oper}(c:b.ep=st.ep)(g:∀t∈zn9 o,b.get (.tm t)=st.get (.tm t))(f:∀n∈(zs5 st o).flatMap zbo,b.get (.ro n)=st.get (.ro n))(d:∀n∈(zs5 st o).flatMap zbq,b.get (.lo n)=st.get (.lo n)):Agree st b o.op.operands.toList:=by refine⟨c,fun x h=>?_,fun x h m k a j=>?_⟩;{cases x with|tmp t=>have l:t∈zn9 o:=(by unfold zn9;exact uP.2 ⟨_,h,rfl⟩);simp only[St.opnd,zLh (g t l)]|_=>rfl};{have i:a∈zs5 st o:=(by unfold zs5;exact qN.2 ⟨m,uP.2 ⟨x,h,k⟩,j⟩);exact⟨fun n e=>zDt (f n (qN.2 ⟨a,i,e⟩)),fun n e=>zLg (d n (qN.2 ⟨a,i,e⟩))⟩}
theorem zXC {st k:St}{o:Oper}(h:Agree st k o.op.operands.toList):zqo C k o=zqo C st o:=by cases f:o.op with|call c=>rw[f]at h;have l:∀x∈c.args.toList,x∈(Op.call c).operands.toList:=fun x j=>(by simp only[Op.operands,Call.operands,Array.toList_append,jJ];exact .inr j);simp only[zqo,f];(cases w:o.dst with|none=>rfl|some d=>(cases hg:o.guard with|some g=>rfl|none=>simp only;(cases q:c.callee with|builtin b=>(cases b with|append=>simp only;split;{rename_i x y T u i s;have j:=l x (by rw[i];simp);have m:=l y (by rw[i];simp);rw[h.at j,h.at m];split;{cases v:C.sty T with|none=>rfl|some t=>(cases e:st.at x with|none=>rfl|some a=>(cases a with|sl r p=>(cases p with|nil=>rfl|cons z p=>(cases n:st.at y with|none=>rfl|some b=>(cases b with|sl B A=>simp only[h.root (zdD j e),h.node (zdD j e),h.node (zdD m n)]|_=>rfl)))|_=>rfl))};{rfl}};{rfl}|_=>rfl)|_=>rfl)))|_=>simp only[zqo,f]
theorem zMR (g:CfgOk C)(e:Sim w0 S0 U st E ts sv w){o:Oper}{id:Nat}{d:Dl}(b:zrN o=true)(h:delta C st o id=some d)(i:d.c=true):o.guard=none/\zsR C U st E ts w o d:=by
 unfold zrN at b;simp only[qD,kK]at b;obtain⟨hg,b⟩:=b;refine⟨hg,?_⟩;cases a:o.op
 case move x=>
  rw[a]at b;cases x with
  |tmp t=>simp only[delta,a]at h;split at h;{rename_i v j;cases h;exact z4k e (.inl a) j};{cases h}
  |_=>simp at b
 (case load T x=>exact z4j g e a h);(case fieldAddr T x f=>exact zHy g e a h);(case indexAddr T x y=>exact zHz g e a h i);(case nilCheck x=>exact zMM e a h);all_goals (rw [a]at b;simp at b)
theorem pure_run {o:Oper}{i:Nat}{d:Dl}{v:Value}{Q:Exit->Act->World->Prop}{K:Act->World->Prop}(a:ops[i]?=some o)(hg:o.guard=none)(b:(execOp ({tmps:=ts,defers:=[]}:Act).eval o).run C.P w = .ok (.value v) w1)(h:K {tmps:=(({tmps:=ts,defers:=[]}:Act).put o.dst v).tmps,defers:=[]} w1):wpOp C.P ops Q i K {tmps:=ts,defers:=[]} w:=by unfold wpOp;simp only[a];rw[if_pos (by simp[Region.wanted,hg])];left;unfold Oper.wp;rw[b,Oper.upon_value,zif];exact h
theorem zWr {d t:Nat}{v u:Value}(h:ts[t]?=some u)(a:d≠t):(({tmps:=ts,defers:=[]}:Act).put (some d) v).tmps[t]?=some u:=by simp[Act.put,Array.getElem?_setIfInBounds_ne a,h]
theorem z6r (hC:CfgOk C)(hH:CtrOk C)(hG:GraftOk C){a A:Nat}(W:Waits md ops cl)(hA:a+ss.length=A)(c3:A+1<=ops.size)(c0:A+1<ops.size->Pinned ops.size cl (A+1))(F:Free C ops cl b base a ss st0)(hb:b=false->∀k,a<=k->k<A->zkC C ops k=false)(c5:b=true)(hd:b=true->Dead st0/\0<st0.ep)(hM:∀k,a<=k->k<A->∀n,Mine (base+32*k) n->¬ U n){B:Oper}{x:App}(d4:ops[A]?=some B)(u:zqo C (zbx ops b (fun _=>true) a ss st0) B=some (true,x))(d0:zDS ops cl a A=true)(a4:x.dst<(zbx ops b (fun _=>true) a ss st0).tm.length)(M:∀i s o f,ss[i]?=some s->ops[a+i]?=some o->At1 C ops base (a+i) o (zbx ops b (fun j=>decide (j<a+i)) a ss st0) f s->a+i∉cl.getD A []->f.apart (ze8 (zbx ops b (fun _=>true) a ss st0) ops B zE9)=true){Q:Exit->Act->World->Prop}(a9:∀(fl:Nat) (l':Array Bool) (E':Env) (z:Array Value) (w':World) (v:Value),l'.size=ops.size->(∀i,i<ops.size->l'.getD i true=decide (i<A+1))->left ops.size l'<=fl->z[x.dst]?=some v->
 Sim w0 S0 (UX U base a A (fun _=>true)) ((zbx ops b (fun _=>true) a ss st0).put B.dst (.v (.at .bad))) E' z sv w'->Late w0 ((zbx ops b (fun _=>true) a ss st0).put B.dst (.v (.at .bad))) E' x v w'->wpAny C.P md ops Q fl l' {tmps:=z,defers:=[]} w')(H:Nat)(listed:Array Bool)(E:Env)(ts:Array Value)(w:World)(d5:listed.size=ops.size)(hX:zjO cl (XL listed))(b2:∀i,i<a->XL listed i=true)(a5:∀m,A<=m->m<ops.size->XL listed m=false)(hf:left ops.size listed<=H)(hS:Sim w0 S0 (UX U base a A (XL listed)) (zbx ops b (XL listed) a ss st0) E ts sv w):wpAny C.P md ops Q H listed {tmps:=ts,defers:=[]} w:=by
 have g:B.dst=some x.dst/\B.guard=none:=by unfold zqo at u;split at u;{rename_i c d ho g c8;refine⟨?_,c8⟩;rw[g];congr 1;(repeat' (first|(split at u)|(cases u)));all_goals first|rfl|(simp only [qC,jT]at u;obtain⟨_,rfl⟩:=u;rfl)};{cases u}
 have R:∀{X Y:Nat->Bool} {i:Nat},(∀k,Y k=(X k||k==i))->∀n,UX U base a A X n->UX U base a A Y n:=by intro X Y i S n h;rcases h with h|⟨k,h0,l,q,h3⟩;{exact .inl h};{exact .inr ⟨k,h0,l,by rw[S,q];rfl,h3⟩}
 have a7:∀{X:Nat->Bool} (p:Key),(∀j∈cl.getD A [],X j=true)->(ze8 (zbx ops b (fun _=>true) a ss st0) ops B zE9).reads p->(zbx ops b X a ss st0).get p=(zbx ops b (fun _=>true) a ss st0).get p:=by intro X p hr G;refine zqu ss a st0 st0 rfl rfl (fun k s' o' hk b8 a8 hw=>?_);obtain⟨o2,f',b9,q⟩:=F.at1 k s' hk;rw[b8]at b9;cases b9;have b0:X (a+k)=false:=(by cases h:X (a+k) with|false=>rfl|true=>exact absurd h a8);have hn:a+k∉cl.getD A []:=fun h=>(by rw[hr _ h]at b0;cases b0);exact((apart_spec (M k s' o' f' hk b8 q hn)).1 p ((zDa q p).1 hw)).1 G
 refine zTT (T:=A+1) (J:=fun X E ts w=>(X A=false->Sim w0 S0 (UX U base a A X) (zbx ops b X a ss st0) E ts sv w)/\
  (X A=true->∃v,ts[x.dst]?=some v/\Sim w0 S0 (UX U base a A X) ((zbx ops b X a ss st0).put B.dst (.v (.at .bad))) E ts sv w/\Late w0 (zbx ops b X a ss st0) E x v w)) W c3 c0 ?_ ?_ ?_
  H listed E ts w d5 hX b2 (fun m l q=>a5 m (by omega) q) hf ⟨fun _=>hS,fun h=>(by rw[a5 A (qZ _) (by omega)]at h;cases h)⟩
 .intro X Y E ts w h hJ;have r:X A=Y A:=h A (by omega) (by omega)
  have e:=zqv (ops:=ops) (b:=b) ss a st0 (X:=X) (Y:=Y) (fun k l q=>h k l (by omega))
  have hu:∀n,UX U base a A X n->UX U base a A Y n:=by rintro n (l|⟨k,h0,l,q,h3⟩);{exact .inl l};{exact .inr ⟨k,h0,l,by rw[<- h k h0 (by omega)];exact q,h3⟩}
  refine⟨fun D=>?_,fun D=>?_⟩
  .have:=hJ.1 (r.trans D);rw[e] at this;exact this.uses hu
  .obtain⟨v,l,q,h3⟩:=hJ.2 (r.trans D);rw[e]at q h3;exact⟨v,l,q.uses hu,h3⟩
 .intro X Y i hX hia hi hXi hr S E ts w hJ K hK
  by_cases c9:i=A
  .subst c9;have I:=hJ.1 hXi;have b1:zbx ops b Y a ss st0=zbx ops b X a ss st0:=zqv ss a st0 (fun k l q=>by
    rw[S];have:(k==i)=false:=by simp;omega
    rw[this,u0])
   have c4:Agree (zbx ops b (fun _=>true) a ss st0) (zbx ops b X a ss st0) B.op.operands.toList :=
    z5h (by rw[zgV,zgV]) (fun t ht=>a7 (.tm t) hr (by simp only[Foot.reads,ze8];exact j5 _ ht)) (fun n hn=>a7 (.ro n) hr hn) (fun n hn=>a7 (.lo n) hr hn)
   have a1:=zXC (C:=C) c4;rw[u]at a1;have c7:Dead (zbx ops b X a ss st0):=by subst c5;exact zzT ss a st0 (hd rfl).1 (hd rfl).2
   obtain⟨hg,c6,v,w',O,a6,hL⟩:=z6v hC I c7 a1;refine pure_run (d:=zE9) d4 hg O (hK E _ w' ⟨fun h=>(by rw[S]at h;simp at h),fun _=>⟨v,?_,?_,?_⟩⟩)
   .rw [c6];have d1:x.dst<ts.size:=by rw[I.tm.1,znk];rw[znk]at a4;exact a4
    simp[Act.put,d1]
   .rw [b1];exact a6.uses (R S)
   .rw [b1];exact hL
  .have hiA':i<A:=by omega
   have D:Y A=X A:=by rw[S];have:(A==i)=false:=(by simp;omega);rw[this,u0]
   cases r:X A with
   |false=>refine zQ9 hC hH hG hA F hX hia hiA' hXi hr hb hd hM S (hJ.1 r) (fun E' z w' a6=>hK E' z w' ⟨fun _=>a6,fun h=>(by rw[D,r]at h;cases h)⟩)
   |true=>
    obtain⟨v,hv,I,hL⟩:=hJ.2 r;obtain⟨j,rfl⟩:∃j,i=a+j:=⟨i-a,by omega⟩;obtain⟨s,hs⟩:∃s,ss[j]?=some s:=⟨_,qB (by omega)⟩;obtain⟨o,f,ho,l,q⟩:=zLf F hX hs hXi hr;have b7:a+j∉cl.getD A []:=fun h=>(by rw[hX A r _ h]at hXi;cases hXi);have N:zrN o=true:=(by have:=qM.1 d0 (a+j) (by simp;omega);simp only[ho,kF,jN,q0] at this;rcases this with h|h;{exact absurd h b7};{exact h});have a2:=apart_spec (M j s o f hs ho l b7);have c1:(ze8 (zbx ops b (fun _=>true) a ss st0) ops B zE9).writes (.tm x.dst):=(by simp only[Foot.writes,ze8];exact g.1);have a8:∀p,f.reads p->p≠.tm x.dst:=fun p G e=>a2.2 (.tm x.dst) c1 (e ▸ G);have a3:o.dst≠some x.dst:=fun e=>(a2.1 (.tm x.dst) ((zDa l (.tm x.dst)).1 (by cases s<;>exact e))).2 c1;have V:∀Z,(zbx ops b Z a ss st0).ep=st0.ep:=fun Z=>zgV ss a st0;have L:=zTV (S':=(zbx ops b X a ss st0).put B.dst (.v (.at .bad))) l (by rw[V,g.1];exact V X) (fun p G=>by rw[g.1,get_put (a8 p G)];exact q p G);have b3:o.guard=none:=by unfold zrN at N;simp only[qD,kK]at N;exact N.1
    cases s with
    |none=>exfalso;have:zdd ops o ((zbx ops b X a ss st0).put B.dst (.v (.at .bad)))=some false:=L;simp[zdd,b3] at this
    |some d=>
     obtain⟨_,d2,d3⟩:=L;obtain⟨_,v2,O,d6,b4,e1,e2,e3⟩:=zMR hC I N (zXJ N d2) d3;have y:∀p,(zbx ops b Y a ss st0).get p=((zbx ops b X a ss st0).put o.dst d.v).get p:=(by intro p;rw[zUE F hX hs ho hXi S p];simp only[St.step,St.effD,e1,e2,List.map_nil,jU]);have c2:Sim w0 S0 (UX U base a A X) (((zbx ops b X a ss st0).put B.dst (.v (.at .bad))).put o.dst d.v) E (({tmps:=ts,defers:=[]}:Act).put o.dst v2).tmps sv w:=I.putV d6 b4;refine pure_run (d:=d) ho b3 O (hK E _ w ⟨fun h=>(by rw[D,r]at h;cases h),fun _=>⟨v,?_,?_,?_⟩⟩);{cases a0:o.dst with|none=>exact hv|some t=>exact zWr hv (fun e=>a3 (by rw[a0,e]))}
     .refine(c2.same (fun p=>?_) ?_ ?_).uses (R S)
      .rw [g.1];cases p with
       |tm t=>
        have hk:=y (.tm t);have b5:(zbx ops b Y a ss st0).tm.length=(zbx ops b X a ss st0).tm.length:=(by rw[znk,znk]);by_cases ht:t=x.dst;{subst ht;cases a0:o.dst with|none=>simp[St.get,St.put,q9,b5]|some t' =>have:t'≠x.dst:=fun e=>a3 (by rw[a0,e]);simp[St.get,St.put,q9,b5,this]}
        .have hne':x.dst≠t:=fun e=>ht e.symm;rw[get_put (by simpa using ht),hk]
         cases a0:o.dst with
         |none=>simp[St.get,St.put,q9,hne']
         |some t' =>simp only[St.get,St.put,q9,List.length_set];split;{rfl};{first|rfl|rw[if_neg hne']}
       |ro n=>have hk:=y (.ro n);rw[get_put (by simp),hk];cases o.dst<;>rfl
       |lo n=>have hk:=y (.lo n);rw[get_put (by simp),hk];cases o.dst<;>rfl
      {rw [g.1];have l:(zbx ops b Y a ss st0).stk=(zbx ops b X a ss st0).stk:=(by rw[zry,zry]);cases o.dst<;>exact l};{rw [g.1];have l:(zbx ops b Y a ss st0).ep=(zbx ops b X a ss st0).ep:=(by rw[zgV,zgV]);cases o.dst<;>exact l}
     .have hro:∀n,zl (zbx ops b Y a ss st0).ro n=zl (zbx ops b X a ss st0).ro n:=fun n=>(by rw[zDt (y (.ro n))];cases o.dst<;>rfl);have b6:∀n,zl (zbx ops b Y a ss st0).lo n=zl (zbx ops b X a ss st0).lo n:=fun n=>by rw[zLg (y (.lo n))];cases o.dst<;>rfl
      exact hL.states (fun n=>by
       unfold St.root;rw[hro n,V Y,V X]) b6
 .intro fl l' E' z w' hsz' hl' hf' hJ;obtain⟨v,l,q,h3⟩:=hJ.2 rfl;refine a9 fl l' E' z w' v hsz' hl' hf' l q (h3.states (fun n=>?_) (fun n=>?_))
  .rw [g.1];rfl
  .rw [g.1];rfl
def VV (U:Nat->Prop)(base a m n:Nat):Prop:=U n\/(base<=n/\n<base+32*m)\/base+32*a<=n
theorem zyj (K:CfgOk C)(W:Waits md ops cl){x:App}{kk:Nat->List Bool->St->Option Ans}{q:Ans}{Q:Exit->Act->World->Prop}(A:∀(G:Nat) (r':List Bool) (I:Nat->Prop) (g:St) (E':Env) (H:Array Value) (w':World) (s:Nat) (l:Array Bool),r'=(zgX ops.size cl).drop G->G<=ops.size->l.size=ops.size->(∀i,i<ops.size->l.getD i true=decide (i<G))->left ops.size l<=s->
 Sim w0 S0 I g E' H sv w'->(∀n,I n->VV U base ops.size G n)->(∀n,g.nid<=n->¬ I n)->base+32*ops.size<=g.nid->kk G r' g=some q->wpAny C.P md ops Q s l {tmps:=H,defers:=[]} w') :
 ∀(k:List Bool) (m:Nat) (V:Nat->Prop) (st:St) (E:Env) (ts:Array Value) (w:World) (a:Nat) (listed:Array Bool) (v:Value),k=(zgX ops.size cl).drop m->m<=ops.size->listed.size=ops.size->(∀i,i<ops.size->listed.getD i true=decide (i<m))->left ops.size listed<=a->
  Sim w0 S0 V st E ts sv w->(∀n,V n->VV U base ops.size m n)->(∀n,st.nid<=n->¬ V n)->base+32*ops.size<=st.nid->ts[x.dst]?=some v->Late w0 st E x v w->zpK C ops base x kk k m st=some q->wpAny C.P md ops Q a listed {tmps:=ts,defers:=[]} w
 |[],m,V,st,E,ts,w,a,listed,v,_,_,_,_,_,_,_,_,_,_,_,h=>by simp[zpK]at h
 |false::r,m,V,st,E,ts,w,a,listed,v,_,_,_,_,_,_,_,_,_,_,_,h=>by simp[zpK]at h
 |true::r,m,V,st,E,ts,w,a,listed,v,hp,hm,S,hl,hf,L,hV,Z,hn,T,hL,h=>by
  simp only[zpK]at h;obtain⟨O,D,hr⟩:=zrL hp;have u:∀n,V n->VV U base ops.size (m+1) n:=(by rintro n f;rcases hV n f with h|⟨J,Y⟩|h;{exact .inl h};{exact .inr (.inl ⟨J,by omega⟩)};{exact .inr (.inr h)});refine zZI W S O (zxd D.symm) hl hf (fun s l j B y _ _=>?_);split at h;{cases h}
  .rename_i o ho;split at h
   .rename_i c st2 hst;cases p:c with
    |false=>rw[p]at h;cases h
    |true=>rw[p]at h hst;simp only[cond_true,zET]at h;obtain⟨hg,N,a0⟩:=z09 (id:=base+32*m) K L hL T hst;unfold wpOp;simp only[ho];rw[if_pos (by simp[Region.wanted,hg])];refine .inl (N _ _ (fun E' v' w' M=>?_));rw[zif];refine A (m+1) r _ _ E' _ w' s l hr (by omega) j B y M ?_ ?_ (by rw[zfl];omega) h;{rintro n (h|⟨J,Y⟩);{exact u n h};{exact .inr (.inl ⟨by omega,by omega⟩)}};{rintro n f (h|⟨J,Y⟩);{exact Z n (by rw[zfl]at f;omega) h};{rw [zfl]at f;omega}}
   {split at h;{rename_i b;simp only[qD,jE,beq_eq_false_iff_ne]at b;split at h;{rename_i d hd;cases p:d.c with|false=>rw[p]at h;cases h|true=>rw[p]at h;simp only[cond_true]at h;obtain⟨hg,v2,F,X,z,e1,e2,e3⟩:=zMR K L b.1 hd p;have he:st.apply o.dst d=st.put o.dst d.v:=(by simp[St.apply,e1,e2,e3]);rw[he]at h;refine pure_run (d:=d) ho hg F ?_;refine zyj K W A r (m+1) V _ E _ w s l v hr (by omega) j B y (L.putV X z) u (by rw[zfl];exact Z) (by rw[zfl];exact hn) ?_ (hL.states (fun n=>?_) (fun n=>?_)) h;{cases R:o.dst with|none=>exact T|some t=>exact zWr T (fun e=>b.2 (by rw[R,e]))};{cases o.dst<;>rfl};{cases o.dst<;>rfl}};{cases h}};{cases h}}
theorem zmv (hC:CfgOk C)(hH:CtrOk C)(hG:GraftOk C)(hN:NameOk C){a0:zgh}(t:ztD C a0)(W:Waits md ops cl){k:St->Option Ans}{b0:Ans}{Q:Exit->Act->World->Prop}(M:∀n,base<=n->¬ U n)(hk:∀(U':Nat->Prop) (c:St) (E':Env) (A:Array Value) (w':World),Sim w0 S0 U' c E' A sv w'->(∀n,U' n->VV U base ops.size ops.size n)->base+32*ops.size<=c.nid->(∀n,c.nid<=n->¬ U' n)->k c=some b0->Q .normal {tmps:=A,defers:=[]} w') :
 ∀(fs m:Nat) (X:List Bool) (V:Nat->Prop) (st:St) (E:Env) (ts:Array Value) (w:World) (g:Nat) (listed:Array Bool),X=(zgX ops.size cl).drop m->m<=ops.size->listed.size=ops.size->(∀i,i<ops.size->listed.getD i true=decide (i<m))->left ops.size listed<=g->
  Sim w0 S0 V st E ts sv w->(∀n,V n->VV U base ops.size m n)->(∀n,st.nid<=n->¬ V n)->base+32*ops.size<=st.nid->zjQ C a0 ops cl base k fs m X st=some b0->wpAny C.P md ops Q g listed {tmps:=ts,defers:=[]} w
 | 0,m,X,V,st,E,ts,w,g,listed,_,_,_,_,_,_,_,_,_,h=>by simp[zjQ]at h
 |fs+1,m,[],V,st,E,ts,w,g,listed,hp,hm,F,hl,hf,hS,hV,hF,hn,h=>by simp only[zjQ]at h;have a7:=zWn hp;have e:m=ops.size:=(by omega);subst e;exact z6D (fun i hi=>by rw[hl i hi];simp[hi]) (hk V st E ts w hS hV hn hF h)
 |fs+1,m,true::r,V,st,E,ts,w,g,listed,hp,hm,F,hl,hf,hS,hV,hF,hn,h=>by
  simp only[zjQ]at h;obtain⟨a7,b7,hr⟩:=zrL hp;refine zZI W F a7 (zxd b7.symm) hl hf (fun fl l' z S O _ _=>?_)
  let Q':Exit->Act->World->Prop:=fun e a w=>match e with
   |.normal=>wpAny C.P md ops Q fl l' a w
   |e=>Q e a w
  have hQ:∀e,e≠Exit.normal->∀a w,Q' e a w->Q e a w:=by intro e he a w h;cases e<;>first|exact absurd rfl he|exact h
  refine z2k hQ ?_;have b9:=znO (Q:=Q') hC hH hG hN t (ops:=ops) (base:=base) (V:=VV U base ops.size (m+1)) (nid0:=base+32*ops.size) (fun n l=>.inr (.inr l))
   (fun U' c E' A w' L c6 l c5 h'=>zmv hC hH hG hN t W M hk fs (m+1) r U' c E' A w' fl l' hr (by omega) z S O L c6 c5 l h')
   [m] V st E ts w hS ?_ hF ?_ (by simp) hn ?_ h
  {rw [wpOps_cons] at b9;exact wpOp_mono (fun a w h=>h) b9};{rintro n l;rcases hV n l with h|⟨q,B⟩|h;{exact .inl h};{exact .inr (.inl ⟨q,by omega⟩)};{exact .inr (.inr h)}};{intro j hj n d1;simp only[qF]at hj;subst hj;obtain⟨Y,g2⟩:=d1;refine⟨fun l=>?_,.inr (.inl ⟨by omega,by omega⟩)⟩;rcases hV n l with h|⟨q,B⟩|h;{exact M n (by omega) h};{omega};{omega}};{intro j hj;simp only[qF]at hj;subst hj;omega}
 |fs+1,m,false::r,V,st,E,ts,w,g,listed,hp,hm,F,hl,hf,hS,hV,hF,hn,h=>by
  simp only[zjQ]at h;obtain⟨a7,_,hr⟩:=zrL hp;obtain⟨b5,a1,a2⟩:=zRx r (m+1) (by omega) hr;generalize b4:(List.range' m (zcj r+1)).any (zkC C ops)=b at h;have G:Sim w0 S0 V {st with ep:=if b then st.ep+1 else st.ep} E ts sv w:=hS.blind b st.nid;have u:({st with ep:=if b then st.ep+1 else st.ep}:St).nid=st.nid:=rfl
  have Z:b=true->Dead ({st with ep:=if b then st.ep+1 else st.ep}:St)/\0<({st with ep:=if b then st.ep+1 else st.ep}:St).ep:=by
   intro hb;subst hb;refine⟨fun n R e hR he=>?_,by simp⟩
   have:=hS.mem.epo n R e hR he;simp only[if_true];omega
  have b3:b=false->∀k,m<=k->k<m+1+zcj r->zkC C ops k=false:=(by intro hb k d8 d9;rw[hb]at b4;have:=kP.1 b4 k (by simp;omega);simpa using this);have hM:∀k,m<=k->k<m+1+zcj r->∀n,Mine (base+32*k) n->¬ V n:=by intro k q B n l hv;have Y:=l.1;have g2:=l.2;rcases hV n hv with h|⟨h3,h4⟩|h;{exact M n (by omega) h};{omega};{omega}
  have a4:∀(ss:List Step) (st0:St),zbx ops b (XL listed) m ss st0=st0:=fun ss st0=>zvt ss m st0 (fun k hk=>by
   rcases u3 k ops.size with h|h
   .rw [zsS (by omega),hl k h];simp;omega
   .simp [XL,uX (show listed.size<=k by omega)])
  have b2:∀{T:Nat},T<=m+(zcj r+1)->∀n,UX V base m T (fun _=>true) n->VV U base ops.size (m+(zcj r+1)) n:=(by rintro T hT n (h|⟨k,h0,q,_,h3⟩);{rcases hV n h with h|⟨q,B⟩|h;{exact .inl h};{exact .inr (.inl ⟨q,by omega⟩)};{exact .inr (.inr h)}};{have Y:=h3.1;have g2:=h3.2;exact .inr (.inl ⟨by omega,by omega⟩)});have b1:∀{T:Nat},T<=m+(zcj r+1)->∀n,st.nid<=n->¬ UX V base m T (fun _=>true) n:=(by rintro T hT n l (h|⟨k,h0,q,_,h3⟩);{exact hF n (by omega) h};{have:=h3.2;omega});have b6:∀{gs:List (Nat×Foot)} {ss:List Step} {st0 c:St},(∀x∈gs,∀y∈gs,(¬ x.1<y.1\/x.1∈cl.getD y.1 [])\/x.2.apart y.2=true)->Trace C ops b base m ss gs st0 c->Free C ops cl b base m ss st0:=(by intro gs ss st0 c d p;have N:=zXq p;refine⟨fun i s hs=>?_,fun i k s s' o o' f f' hs d3 ho d2 q B d7 a8=>?_⟩;{obtain⟨o,f,Y,g2,g3⟩:=N i s hs;exact⟨o,f,Y,g3⟩};{obtain⟨o1,f1,Y,g2,g3⟩:=N i s hs;obtain⟨o2,f2,e1,e2,e3⟩:=N k s' d3;rw[ho] at Y;cases Y;rw[d2] at e1;cases e1;have a5:=zIh q g3;have d0:=zIh B e3;subst a5 d0;rcases d _ g2 _ e2 with (h|h)|h;{exact absurd (by show m+i<m+k;omega) h};{exact absurd h a8};{exact h}});have I:∀i,i<m->XL listed i=true:=fun i hi=>(by rw[zsS (by omega),hl i (by omega)];simp[hi]);have H:∀k,m<=k->k<ops.size->XL listed k=false:=fun k q B=>(by rw[zsS (by omega),hl k B];simp;omega);rcases zsb (zcj r+1) m [] _ h with⟨ss,gs,c,a3,p,d,J⟩|⟨ss,gs,c,oA,x,a3,p,a9,c7,c8,a6,d4,d,J⟩|⟨ss,gs,c,oA,a3,p,a9,c9,a6,e0,d,J⟩;{rw [jC]at d;unfold znh at d;simp only[jE,qM,kF,decide_eq_false_iff_not,jN,q0,List.mem_reverse]at d;generalize b8:({st with ep:=if b then st.ep+1 else st.ep}:St)=st0 at p G u Z;have K:c=zbx ops b (fun _=>true) m ss st0:=zRM p;refine z6i (w0:=w0) (S0:=S0) (sv:=sv) hC hH hG W (T:=m+1+zcj r) (by omega) b5 a2 (b6 d p) b3 Z hM (fun fl l' E' A w' z S O L=>?_) g listed E ts w F (zsf W F hl) I (fun k q B=>H k (by omega) B) hf ?_;{rw [<- K]at L;have D:c.nid=st.nid:=(by rw[K,zDr,u]);exact zmv hC hH hG hN t W M hk fs (m+(zcj r+1)) (r.drop (zcj r)) _ c E' A w' fl l' (by rw[a1];congr 1;omega) (by omega) z (fun i hi=>by rw[S i hi];congr 1;simp only[eq_iff_iff];omega) O L (b2 (by omega)) (by rw[D];exact b1 (by omega)) (by omega) J};{rw [a4];exact G.uses (fun n h=>.inl h)}}
  .rw [jC]at d;unfold znh at d;simp only[jE,qM,kF,decide_eq_false_iff_not,jN,q0,qG,List.mem_reverse]at d;generalize b8:({st with ep:=if b then st.ep+1 else st.ep}:St)=st0 at p G u Z;have K:c=zbx ops b (fun _=>true) m ss st0:=zRM p;subst K;have hA:m+ss.length=m+zcj r:=by omega
   rw[hA]at a9 a6 d;have N:=zXq p;refine z6r (w0:=w0) (S0:=S0) (sv:=sv) hC hH hG W hA (by omega) (fun h=>by
    have e:m+zcj r+1=m+1+zcj r:=by omega
    rw[e]at h ⊢;exact a2 h) (b6 (fun x hx y hy=>d x (.inr hx) y (.inr hy)) p) (fun hb k q B=>b3 hb k q (by omega)) c8 Z (fun k q B=>hM k q (by omega)) a9 c7 a6 d4 (fun i s o f hs ho q a8=>?_)
    (fun fl l' E' A w' v z S O hv L hL=>?_) g listed E ts w F (zsf W F hl) I (fun k q B=>H k (by omega) B) hf ?_
   {obtain⟨o1,f1,Y,g2,g3⟩:=N i s hs;rw[ho] at Y;cases Y;have a5:=zIh q g3;subst a5;have hi:i<ss.length:=(qA.1 hs).1;rcases d _ (.inr g2) _ (.inl rfl) with (h|h)|h;{exact absurd (by show m+i<m+zcj r;omega) h};{exact absurd h a8};{exact h}}
   .have D:((zbx ops b (fun _=>true) m ss st0).put oA.dst (.v (.at .bad))).nid=st.nid:=by rw[zfl,zDr,u]
    exact zyj hC W (fun m' r' U' c0 c2 c1 d6 c3 d5 q B h3 h4 h5 h6 h7 h8 h9 c4=>zmv hC hH hG hN t W M hk fs m' r' U' c0 c2 c1 d6 c3 d5 q B h3 h4 h5 h6 h7 h8 h9 c4)
     (r.drop (zcj r)) (m+(zcj r+1)) _ _ E' A w' fl l' v (by rw[a1];congr 1;omega) (by omega) z (fun i hi=>by rw[S i hi];congr 1) O L (b2 (by omega)) (by rw[D];exact b1 (by omega)) (by omega) hv hL J
   {rw [a4];exact G.uses (fun n h=>.inl h)}
  {exact Bool.noConfusion (show false=true from c9)}
theorem zbad (Z:CfgOk C)(hH:CtrOk C)(hG:GraftOk C)(hN:NameOk C):DrawOk C:=by
 refine⟨fun N g ops k X Q w0 S0 sv U0 S U st E ts w hk hS hU O hn h t=>?_⟩;unfold zIz at h;simp only at h;generalize I:zhu ops (List.range ops.size) []=cl at h;split at h;(case isFalse=>cases h);rename_i j;unfold z3k at j;simp only[qD,qM,kI,q0]at j;obtain⟨a,s⟩:=j;have d:∀i,i<ops.size->cl.getD i []=waits ops (cl.take i) i:=fun i r=>(by rw[<- I];exact z0l r);have f:∀(md:Region.Mode) (c:Nat->Nat),zPJ md ops c=true->∃c:Nat->Nat,∀(i:Nat) (o:Oper),ops[i]?=some o->∀e∈o.after,Region.binds md e=true->e.on<ops.size/\c e.on<c i:=by intro md c h;refine⟨c,fun i o v e J H=>?_⟩;have:=qM.1 h i (kI.2 (qQ.1 v).1);rw[v] at this;have:=qM.1 this e (by simpa using J);simpa [H] using this
 have p:∀(md:Region.Mode),(∀e,Region.binds .any e=true->Region.binds md e=true)->(∃c:Nat->Nat,∀(i:Nat) (o:Oper),ops[i]?=some o->∀e∈o.after,Region.binds md e=true->e.on<ops.size/\c e.on<c i)->Waits md ops cl :=
  fun md y A=>⟨d,s,y,A⟩
 have m:∀e,Region.binds .any e=true->Region.binds .text e=true:=fun e h=>(by unfold Region.binds at *;cases hg:e.ground<;>rw [hg]at h<;>simp at h ⊢);have l:∀e,Region.binds .any e=true->Region.binds .gc e=true:=fun e h=>by unfold Region.binds at *;cases hg:e.ground<;>rw [hg]at h<;>simp at h ⊢
 have b:∃md L,Region.schedule (C.P.follows .mixedOrders) ops t=Region.linearise md ops L/\Waits md ops cl:=by
  have q:Waits .any ops cl:=p .any (fun _ h=>h) ⟨fun i=>i,fun i o v e J H=>by
   have y:=zbaf d v J H;have r:=(qQ.1 v).1;have A:=s i r _ y;exact⟨by omega,A⟩⟩
  unfold Region.schedule;by_cases z:(C.P.follows .mixedOrders || !Region.departs ops)=true;{rw [if_pos z];exact⟨.any,t,rfl,q⟩};{rw [if_neg z];have hd:Region.departs ops=true:=(by cases h:Region.departs ops with|true=>rfl|false=>rw[h]at z;simp at z);rw[hd,cond_true,qD]at a;by_cases R:(t % 2==0)=true;{rw [if_pos R];exact⟨.text,t / 2,rfl,p .text m (f .text _ a.1)⟩};{rw [if_neg R];exact⟨.gc,t / 2,rfl,p .gc l (f .gc _ a.2)⟩}}
 obtain⟨md,L,x,W⟩:=b;rw[x];refine wpAny_sound ops.size L _ _ _ ?_;have F:Sim w0 S0 U {st with nid:=st.nid+32*ops.size} E ts sv {w with drawn:=w.drawn+1}:=(hS.nid _).heap (w':={w with drawn:=w.drawn+1}) rfl rfl rfl rfl;refine zmv Z hH hG hN g W O (fun V K T M w' D G u B Y=>hk V K T M w' D ?_ (by omega) B Y) (ops.size+1) 0 (zgX ops.size cl) U _ E ts _ ops.size _ rfl (by omega) (by simp) (fun i r=>by simp[r]) ?_ F (fun n h=>.inl h) ?_ (qZ _) h;{intro n h;rcases G n h with h|⟨y,_⟩|h;{exact hU n h};{exact .inr (by omega)};{exact .inr (by omega)}};{unfold left;exact qU (List.countP_le_length) (by simp)};{intro n u h;exact O n (qU (uD _ _) u) h}
end
section
variable {P:Program}
def zXx:Value->CTy->Bool
 |.int k n,.i a=>k==a&&n==0
 |.bool b,.b=>!b
 |.slice none 0 0,.s _=>true
 |_,_=>false
def zAX:List Value->List CTy->Bool
 |[],[]=>true
 |v::vs,t::ts=>zXx v t&&zAX vs ts
 |_,_=>false
theorem z5f {v:Value}{t:CTy}(h:zXx v t=true):v=zeroV t:=by unfold zXx at h;split at h;{simp only [qD,qK]at h;obtain⟨rfl,rfl⟩:=h;rfl};{simp only [jE]at h;subst h;rfl};{rfl};{cases h}
theorem zIc:∀{b:List Value} {a:List CTy},zAX b a=true->b=a.map zeroV
 |[],[],_=>rfl
 |v::b,t::a,h=>by simp only[zAX,qD]at h;rw[jB,z5f h.1,zIc h.2]
 |[],_::_,h=>by cases h
 |_::_,[],h=>by cases h
def zDK (P:Program)(T:TypeId)(tys:List CTy):Bool :=
 match P.info? T with
 |some i=>i.size==tys.length&&(match i.zero with
  |some z=>zAX z.cells.toList tys
  |none=>false)
 |none=>false
theorem zDL {T:TypeId}{tys:List CTy}(h:zDK P T tys=true):∃i z,P.info? T=some i/\i.size=tys.length/\i.zero=some z/\z.cells.toList=tys.map zeroV:=by unfold zDK at h;split at h;{rename_i i c;simp only[qD,qK]at h;obtain⟨b,a⟩:=h;split at a;{rename_i z d;exact⟨i,z,c,b,d,zIc a⟩};{cases a}};{cases h}
def znK (P:Program)(T:TypeId):Bool :=
 (match zcz P 4 T with
  |some (b,a)=>zDK P T a&&(!b||(match P.underlying T with
   |some (.struct c)=>(c.toList.mapM (fun f=>(P.info? f.type).map fun i=>(f.offset,i.size))).isSome
   |_=>false))
  |none=>true) &&
 (match P.underlying T with
  |some (.slice e)=>match zl zTF e with
   |some t=>zDK P e t.shape&&(match P.info? e with
    |some i=>decide (i.bytes<=1024)
    |none=>false)&&(match zcz P 4 e with
    |some (_,a)=>decide (a=t.shape)
    |none=>false)
   |none=>true
  |_=>true)
def zvr (P:Program):List Field->Nat->List CTy->Bool
 |[],_,[]=>true
 |f::fs,a,ty::tys=>f.name != "_" && f.offset==a&&(match P.underlying f.type,ty with
  |some (.int k),.i c=>k==c
  |some .bool,.b=>true
  |_,_=>false)&&zvr P fs (a+1) tys
 |_,_,_=>false
def zTs (P:Program)(T:TypeId):Bool :=
 match zcz P 4 T with
 |some (true,a)=>!P.stoodInHeld T && !P.eqGuardType P.depth T&&(match P.underlying T with
  |some (.struct b)=>zvr P b.toList 0 a
  |_=>false)
 |_=>true
theorem zTq {n:Nat}{T:TypeId}{a:Bool}{tys:List CTy}(h:zcz P n T=some (a,tys)) :
 (∃d,P.underlying T=some d/\zUZ d=a/\(∀k,tys=[.i k]->a=false->d = .int k)/\(tys=[.b]->a=false->d = .bool))/\(a=false->tys.length=1):=by
 cases n with
 |zero=>cases h
 |succ n=>simp only[zcz]at h;split at h;{rename_i k c;cases h;exact⟨⟨_,c,rfl,fun f h _=>by simp only[List.cons.injEq,CTy.i.injEq,and_true]at h;rw[h],fun h=>by simp at h⟩,fun _=>rfl⟩};{rename_i c;cases h;exact⟨⟨_,c,rfl,fun f h=>by simp at h,fun _ _=>rfl⟩,fun _=>rfl⟩};{rename_i e c;split at h;{cases h;exact⟨⟨_,c,rfl,fun f h=>by simp at h,fun h=>by simp at h⟩,fun _=>rfl⟩};{cases h}};{rename_i g c;split at h;{cases h;exact⟨⟨_,c,rfl,fun f _ h=>(by cases h),fun _ h=>(by cases h)⟩,fun h=>by cases h⟩};{cases h}};{cases h}
theorem zKU {b:Type}{T:Nat}{x:Option b}{y:b}(h:below T x=some y):T<zfP/\x=some y:=by unfold below at h;cases a:Nat.blt T zfP with|false=>rw[a]at h;cases h|true=>rw[a]at h;exact⟨by rwa [vF]at a,h⟩
theorem mapM_at {e f:Type}{g:e->Option f}:∀{l:List e} {m:List f},l.mapM g=some m->∀{k:Nat} {x:e},l[k]?=some x->m[k]?=g x
 |[],m,h,k,x,c=>by simp at c
 |a::l,m,h,k,x,c=>by simp only[vC,Option.bind_eq_bind,uT,Option.pure_def,qC]at h;obtain⟨b,i,j,d,rfl⟩:=h;cases k with|zero=>simp only[qH,qC]at c;subst c;rw[i];rfl|succ k=>exact mapM_at d (by simpa using c)
theorem zgv {e i:Type}{f:e->Option i}{a:e}{l:List e}{g:List i}(h:zco f (a::l)=some g):∃b c,f a=some b/\zco f l=some c/\g=b::c:=by simp only[zco]at h;split at h;{rename_i b j;split at h;{rename_i c d;cases h;exact⟨b,c,j,d,rfl⟩};{cases h}};{cases h}
theorem zHl (w:World)(d:Nat)(xs r:Array Value):∀(fs:List Field) (off:Nat) (tys:List CTy) (l m:List At) (e:Bool),zvr P fs off tys=true->zco znI l=some tys->zco znI m=some tys->zvi l m=some e->
 xs.size=off+l.length->r.size=off+m.length->(∀(j:Nat) (a:At) (u:Value),l[j]?=some a->xs[off+j]?=some u->VS a u)->(∀(j:Nat) (a:At) (u:Value),m[j]?=some a->r[off+j]?=some u->VS a u)->
 (Op.eqFields (d+1) xs r fs).run P w = .ok e w
 |[],off,tys,l,m,e,N,T,U,s,_,_,_,_=>by cases tys with|cons t ts=>cases N|nil=>(cases l with|cons a l=>obtain⟨_,_,_,_,h⟩:=zgv T;cases h|nil=>(cases m with|cons a m=>obtain⟨_,_,_,_,h⟩:=zgv U;cases h|nil=>cases s;simp[Op.eqFields]))
 |f::fs,off,tys,l,m,e,N,T,U,s,g,p,hx,hy=>by
  cases tys with
  |nil=>cases N
  |cons ty tys=>
   cases l with
   |nil=>cases T
   |cons a l=>
    cases m with
    |nil=>cases U
    |cons c m=>
     obtain⟨ta,a1,L,A,h⟩:=zgv T;cases h;obtain⟨tc,a0,H,B,h⟩:=zgv U;cases h;simp only[zvr,qD,bne_iff_ne,ne_eq,qK]at N;obtain⟨⟨⟨hn,O⟩,v⟩,C⟩:=N;have F:xs[off]?=some (xs[off]'(by simp only[qY]at g;omega)):=(by simp);have G:r[off]?=some (r[off]'(by simp only[qY]at p;omega)):=by simp
     have Q:=hx 0 a _ rfl F;have R:=hy 0 c _ rfl G;have E:∃I,zTW a c=some I/\(part f.type xs f.offset).run P w = .ok (xs[off]'(by simp only[qY]at g;omega)) w/\(part f.type r f.offset).run P w = .ok (r[off]'(by simp only[qY]at p;omega)) w/\
      (Op.equalIn (d+1) f.type (xs[off]'(by simp only[qY]at g;omega)) (r[off]'(by simp only[qY]at p;omega))).run P w = .ok I w:=by
      rw[O];cases a with
      |i k n=>
       simp only[znI,qC]at L;subst L;cases c with
       |i k' n' =>
        simp only[znI,qC,CTy.i.injEq]at H;subst H;cases q:P.underlying f.type with
        |none=>rw[q]at v;cases v
        |some D=>
         rw[q]at v;cases D<;>first|(cases v;done)|skip;refine⟨ieq n n',by simp[zTW],by simp[part,isAgg,run_underlying q,F],by simp[part,isAgg,run_underlying q,G],?_⟩;rw[show xs[off]'(by simp only[qY]at g;omega) = .int k' n from Q,show r[off]'(by simp only[qY]at p;omega) = .int k' n' from R];exact run_equalIn_int w d f.type k' _ n n' q
       |b _=>simp[znI]at H
       |_=>simp[znI]at H
      |b x=>
       simp only[znI,qC]at L;subst L;cases c with
       |b x' =>
        cases q:P.underlying f.type with
        |none=>rw[q]at v;cases v
        |some D=>
         rw[q]at v;cases D<;>first|(cases v;done)|skip;refine⟨zhf x x',by simp[zTW],by simp[part,isAgg,run_underlying q,F],by simp[part,isAgg,run_underlying q,G],?_⟩;rw[show xs[off]'(by simp only[qY]at g;omega) = .bool x from Q,show r[off]'(by simp only[qY]at p;omega) = .bool x' from R];exact run_equalIn_bool' w d f.type x x' q
       |i _ _=>simp[znI]at H
       |_=>simp[znI]at H
      |_=>simp[znI]at L
     obtain⟨I,M,Y,Z,X⟩:=E;have z:∃S,zvi l m=some S/\e=(I&&S):=by cases l with|nil=>cases A;(cases m with|nil=>simp only[zvi,M,qC]at s;exact⟨true,rfl,by rw[<- s];simp⟩|cons c2 m=>obtain⟨_,_,_,_,h⟩:=zgv B;cases h)|cons a2 l=>(cases m with|nil=>cases B;obtain⟨_,_,_,_,h⟩:=zgv A;cases h|cons c2 m=>simp only[zvi,M]at s;split at s;{rename_i x y J K;cases J;cases s;exact⟨y,by simpa [zvi] using K,rfl⟩};{cases s})
     obtain⟨S,W,rfl⟩:=z;have ih:=zHl w d xs r fs (off+1) tys l m S C A B W (by simp only[qY]at g;omega) (by simp only[qY]at p;omega)
      (fun j V u J K=>hx (j+1) V u (by simpa using J) (by rw[<- K];congr 1;omega)) (fun j V u J K=>hy (j+1) V u (by simpa using J) (by rw[<- K];congr 1;omega))
     simp only[Op.eqFields,ne_eq,hn,not_false_eq_true,if_true,Sem.run_bind,Y,Z,Result.andThen_ok,X,Sem.run_ite,ih];cases I<;>simp
theorem z5q {C:Cfg}(W:C.P=P)(hs:∀T,C.sty T=below T (zwQ P T))(X:∀T,C.cty T=below T (zcz P 4 T))(Q:∀T f,C.fof T f=ztV P T f)(B:(List.range zfP).all (znK P)=true)(J:∀T,C.eqt T=true->T<zfP->zTs P T=true):CfgOk C:=by subst W;have v:∀T,T<zfP->znK C.P T=true:=fun T r=>qM.1 B T (kI.2 r);have k:∀T g c,C.cty T=some (g,c)->T<zfP/\zcz C.P 4 T=some (g,c):=fun T g c h=>zKU (by rw[<- X];exact h);refine⟨fun T g c h=>?_,fun T t h=>?_,fun T f N n h=>?_,fun T c h=>?_,fun T c Y h l m e G H w x y op Z hm hq E F=>?_⟩;{obtain⟨r,h⟩:=k T g c h;obtain⟨q,d⟩:=zTq h;have:=v T r;unfold znK at this;rw[h] at this;simp only[qD] at this;exact⟨q,zDL this.1.1,d⟩};{rw [hs]at h;obtain⟨r,h⟩:=zKU h;unfold zwQ at h;split at h;{rename_i e p;have:=v T r;unfold znK at this;rw[p] at this;simp only[h,qD] at this;obtain⟨_,⟨q,d⟩,_⟩:=this;obtain⟨i,z,O,S,U,V⟩:=zDL q;rw[O]at d;exact⟨e,p,i,z,O,by rw[S,zei],U,V,by simpa using d⟩};{cases h}};{rw [Q]at h;unfold ztV at h;split at h;{rename_i A p;split at h;{rename_i x M;split at h;{rename_i i K;split at h;{cases h};{rename_i L;cases h;exact⟨A,x,i,p,M,rfl,K,rfl,L⟩}};{cases h}};{cases h}};{cases h}};{obtain⟨r,h⟩:=k T true c h;have:=v T r;unfold znK at this;rw[h] at this;simp only[qD,kF,jM,kB,false_or] at this;obtain⟨⟨_,d⟩,_⟩:=this;split at d;{rename_i A p;obtain⟨s,R⟩:=uQ.1 d;refine⟨A,s,p,R,fun f N n b=>?_⟩;rw[Q]at b;unfold ztV at b;rw[p]at b;simp only at b;split at b;{rename_i x M;split at b;{rename_i i K;split at b;{cases b};{cases b;rw[mapM_at R (by simpa using M),K];rfl}};{cases b}};{cases b}};{cases d}};{obtain⟨r,h⟩:=k T true c h;have:=J T Y r;unfold zTs at this;rw[h] at this;simp only[qD,jE] at this;obtain⟨⟨q,d⟩,I⟩:=this;split at I;{rename_i A p;have D:C.P.fieldsOf T=A:=(by simp[Program.fieldsOf,p]);refine⟨run_eqGuard_agg w op T x y G H d,?_⟩;show (Op.equalIn (9999+1) T (.agg G) (.agg H)).run C.P w=_;rw[run_equalIn_struct w 9999 T G H (by rw[D];exact p) q,D];exact zHl w 9998 G H A.toList 0 c l m e I Z hm hq (by rw[E.1];omega) (by rw[F.1];omega) (fun j a u q d=>E.2 j a u q (by simpa using d)) (fun j a u q d=>F.2 j a u q (by simpa using d))};{cases I}}
end
inductive CVOk:CV->Prop
 |i (k:IntKind) (n:Int) (h:k.min<=n/\n<=k.max):CVOk (.i k n)
 |b (x:Bool):CVOk (.b x)
 |s (t:Ty) (l:List t.den) (hl:l.length<=big) (h:∀(i:Nat) (x:t.den),l[i]?=some x->∀(j:Nat) (c:CV),(t.cells x)[j]?=some c->CVOk c):CVOk (.s t l)
section
variable {P:Program}
def zyn (P:Program)(b:Nat):List Field->Nat->Bool
 |[],a=>a==b
 |f::fs,a=>f.offset==a&&Nat.blt f.type zfP&&zyn P b fs (a+P.cellsOf f.type)
def zzG (P:Program)(T:TypeId):Bool :=
 match P.underlying T with
 |some (.struct a)=>match zcz P 4 T with
  |some _=>zyn P (P.cellsOf T) a.toList 0
  |none=>true
 |some (.slice e)=>match zl zTF e with
  |some _=>Nat.blt e zfP&&Nat.ble 1 (P.bytesOf e)
  |none=>true
 |_=>true
theorem zHw {e i:Type}{f g:e->Option i}(c:∀x y,f x=some y->g x=some y):∀{l:List e} {d:List i},zco f l=some d->zco g l=some d
 |[],_,h=>h
 |a::l,d,h=>by obtain⟨b,j,k,m,rfl⟩:=zgv h;simp only[zco,c a b k,zHw c m]
theorem zzl:∀{n:Nat} {T:TypeId} {x:Bool×List CTy},zcz P n T=some x->zcz P (n+1) T=some x
 | 0,_,_,h=>by cases h
 |n+1,T,x,h=>by rw[zcz]at h;rw[zcz];split at h;{exact h};{exact h};{exact h};{rename_i d e;split at h;{rename_i l b;rw[zHw (f:=_) (g:=_) ?_ b];{exact h};{intro f y a;split at a;{rename_i z c;cases a;rw[zzl c]};{cases a}}};{cases h}};{cases h}
theorem zXE {T:TypeId}{tys:List CTy}(h:zDK P T tys=true):P.cellsOf T=tys.length:=by obtain⟨i,z,a,b,_⟩:=zDL h;simp[Program.cellsOf,a,b]
theorem z7u {k:IntKind}{n:Int}(h:(Lit.int k n).wf=true):k.min<=n/\n<=k.max:=by simpa [Lit.wf] using h
theorem all_append {l m:List Nat}(h:(l++m).all (·<=reachBytes)=true):l.all (·<=reachBytes)=true/\m.all (·<=reachBytes)=true:=by simpa [List.all_append] using h
theorem zCg {H:Type}{e:TypeId}:∀{l:List (DataW H)},(DataW.weightsAll P e l).all (·<=reachBytes)=true->∀{i:Nat} {d:DataW H},l[i]?=some d->(d.weights P e).all (·<=reachBytes)=true
 |[],_,i,d,h=>by simp at h
 |x::l,a,i,d,h=>by simp only[DataW.weightsAll]at a;obtain⟨b,c⟩:=all_append a;cases i with|zero=>simp at h;subst h;exact b|succ i=>exact zCg c (by simpa using h)
def Opened (W:World)(cs:List Value)(tys:List CTy):Prop :=
 ∃cvs:List CV,cvs.map CV.ty=tys/\cs.length=cvs.length/\∀(j:Nat) (c:CV) (u:Value),cvs[j]?=some c->cs[j]?=some u->Rep false W u c (fun b=>b<W.heap.size)/\CVOk c
theorem Opened.append {W:World}{cs f:List Value}{g h:List CTy}(q:Opened W cs g)(r:Opened W f h):Opened W (cs++f) (g++h):=by obtain⟨e,i,d,n⟩:=q;obtain⟨m,k,l,p⟩:=r;refine⟨e++m,by simp[i,k],by simp[d,l],fun j c u a b=>?_⟩;by_cases s:j<e.length;{rw [qV s]at a;rw[qV (by omega)]at b;exact n j c u a b};{rw [qR (by omega)]at a;rw[qR (by omega)]at b;exact p _ c u a (by rw[<- d];exact b)}
theorem zKZ {b:Type}:∀(n:Nat) (p:Nat->b->Prop),(∀i,i<n->∃x,p i x)->∃l:List b,l.length=n/\∀i x,l[i]?=some x->p i x
 | 0,p,_=>⟨[],rfl,fun i x h=>by simp at h⟩
 |n+1,p,h=>by obtain⟨x,e⟩:=h 0 (by omega);obtain⟨l,c,d⟩:=zKZ n (fun i=>p (i+1)) (fun i f=>h (i+1) (by omega));refine⟨x::l,by simp[c],fun i y a=>?_⟩;cases i with|zero=>simp at a;subst a;exact e|succ i=>exact d i y (by simpa using a)
theorem cells?_get {W:World}{a:Addr}{n:Nat}{cs:List Value}(h:W.cells? 0 a n=some cs):cs.length=n/\∀i,i<n->W.cell? (a.add i)=cs[i]?:=by unfold World.cells? at h;rw[if_pos (jX _)]at h;refine⟨by simpa using mapM_some_length h,fun i b=>mapM_some_get h i i (by simp[b])⟩
theorem addr_add (a:Addr)(h:a.spot=none)(n m:Nat):(a.add n).add m=⟨a.block,a.off+n+m,none⟩:=by obtain⟨b,o,s⟩:=a;simp only at h;subst h;rw[add_lit,add_lit]
theorem z1p (b4:∀T,T<zfP->znK P T=true/\zzG P T=true){H:Type}{enc:TypeId×Value->H}{W:World} :
 ∀(F:Nat) (T:TypeId) (cs:List Value) (x:DataW H×List MemPlace),T<zfP->∀(b2:Bool) (tys:List CTy),zcz P 4 T=some (b2,tys)->
  DataW.trod enc P W 0 (fun _=>true) true F T cs=some x->(x.1.weights P T).all (·<=reachBytes)=true->Opened W cs tys:=by
 intro F
 induction F using Nat.strongRecOn with
 |_ F ih=>
  intro T cs x hT b2 tys d hx hw;obtain⟨U,C⟩:=b4 T hT;have b9:=d;rw[zcz]at d;split at d;{rename_i k I;cases d;obtain⟨n,rfl,rfl,d7⟩:=DataW.trod_int I hx;refine⟨[.i k n],rfl,rfl,fun j c u r q=>?_⟩;cases j with|zero=>simp at r q;subst r q;exact⟨.i k n _,.i k n (z7u d7)⟩|succ j=>simp at r};{rename_i I;cases d;obtain⟨b,rfl,rfl⟩:=DataW.trod_bool I hx;refine⟨[.b b],rfl,rfl,fun j c u r q=>?_⟩;cases j with|zero=>simp at r q;subst r q;exact⟨.b b _,.b b⟩|succ j=>simp at r};{rename_i e I;split at d;{rename_i t b5;cases d;have a3:∀(v:Value) (l:List t.den),Rep false W v (.s t l) (fun b=>b<W.heap.size)->CVOk (.s t l)->Opened W [v] [.s t]:=(by intro v l D S;refine⟨[.s t l],rfl,rfl,fun j c u r q=>?_⟩;cases j with|zero=>simp at r q;subst r q;exact⟨D,S⟩|succ j=>simp at r);have K:CVOk (.s t []):=.s t [] (jX _) (fun i x h=>by simp at h);rcases DataW.trod_slice I hx with⟨rfl,rfl⟩|⟨a,len,p,A,R,n,rfl,rfl,rfl,_,e6,e4,e5,a0,d3,_⟩;{exact a3 _ [] (.nil t _) K};{obtain⟨e7,Q⟩:=d3 rfl;by_cases b3:p=0;{subst b3;have c8:len=0:=(by omega);subst c8;exact a3 _ [] (.void t a _ rfl) K};{unfold znK at U;rw[I]at U;simp only[b5,qD]at U;obtain⟨_,⟨a6,_⟩,V⟩:=U;unfold zzG at C;rw[I]at C;simp only[b5,qD,vF,Nat.ble_eq]at C;obtain⟨he,c4⟩:=C;have c5:P.cellsOf e=t.width:=(by rw[zXE a6,zei]);have b1:0<t.width:=(by cases t<;>simp [Ty.width]);rw[c5]at a0 Q;have N:∀i,i<p->∃w,W.cells? 0 (a.add (i*t.width)) t.width=some w/\(i<len->∃y,DataW.trod enc P W 0 (fun _=>true) true n e w=some y/\A[i]?=some y):=(by intro i X;by_cases b7:i<len;{have D:=a0 i b7;rw[qB (by omega)]at D;obtain⟨w,S,h3⟩:=uT.1 D;exact⟨w,S,fun _=>⟨_,h3,qB (by omega)⟩⟩};{have D:=Q (i-len) (by omega);rw[qB (by omega)]at D;obtain⟨w,S,h3⟩:=uT.1 D;have e1:len+(i-len)=i:=(by omega);rw[e1]at S;exact⟨w,S,fun h=>absurd h b7⟩});have M:∀i j,i<p->j<t.width->∃v,W.cell? ((a.add (i*t.width)).add j)=some v:=(by intro i j X hj;obtain⟨w,D,_⟩:=N i X;obtain⟨S,h3⟩:=cells?_get D;exact⟨_,(h3 j hj).trans (qB (by omega))⟩);obtain⟨v0,G⟩:=M 0 0 (by omega) b1;have a4:(a.add (0*t.width)).add 0=a:=(by simp[Addr.add]);rw[a4]at G;obtain⟨m,et,fz,hb,E⟩:∃m et fz,W.heap[a.block]?=some (.cells m et fz)/\a.spot=none:=(by unfold World.cell? at G;split at G;{rename_i c et fz hb;split at G;{cases G};{rename_i hs;exact⟨c,et,fz,hb,by simpa using hs⟩}};{cases G});have L:∀i j,W.cell? ((a.add (i*t.width)).add j)=m[a.off+i*t.width+j]?:=(by intro i j;rw[addr_add a E,cell_of_block hb]);have a8:a.off+p*t.width<=m.size:=(by obtain⟨v,hv⟩:=M (p-1) (t.width-1) (by omega) (by omega);rw[L]at hv;have:=(qQ.1 hv).1;have D:(p-1)*t.width+t.width=p*t.width:=(by rw[<- jL];congr 1;omega);omega);have c0:((DataW.slice (A.map (·.1)) (R.map (·.1))).weights P T).all (·<=reachBytes)=true:=hw;simp only[DataW.weights,I,kW,qD,q0,uL]at c0;obtain⟨c2,b0⟩:=c0;obtain⟨b0,_⟩:=all_append b0;have O:len<=big:=(by have D:(A.length+R.length)*1<=(A.length+R.length)*P.bytesOf e:=Nat.mul_le_mul_left _ c4;have:reachBytes<=big:=(by decide);omega);split at V;{rename_i J a2 d4;simp only[q0]at V;subst V;have c7:∀i,i<len->∃y:t.den,∀(j:Nat) (c:CV) (u:Value),(t.cells y)[j]?=some c->m[a.off+i*t.width+j]?=some u->Rep false W u c (fun b=>b<W.heap.size)/\CVOk c:=(by intro i X;obtain⟨w,D,S⟩:=N i (by omega);obtain⟨y,h3,h4⟩:=S X;obtain⟨cvs,g1,g2,g3⟩:=ih n (by omega) e w y he J t.shape d4 h3 (zCg b0 (by rw[qP,h4];rfl));obtain⟨z,Y⟩:=zMF g1;refine⟨z,fun j c u r q=>g3 j c u ?_ ?_⟩;{rw [<- zjz Y];exact r};{obtain⟨k1,k2⟩:=cells?_get D;have hj:j<t.width:=(by have:=(qA.1 r).1;rwa [zc9] at this);rw[<- k2 j hj,L];exact q});obtain⟨l,c9,b8⟩:=zKZ len _ c7;have a9:∀i j,i<l.length->j<t.width->m[a.off+i*t.width+j]?=some ((m[a.off+i*t.width+j]?).getD undef):=(by intro i j X hj;have D:(i+1)*t.width<=p*t.width:=qS _ (by omega);rw[jL]at D;have:a.off+i*t.width+j<m.size:=(by omega);simp[this]);have a1:Rep false W (.slice (some ⟨a.block,a.off,none⟩) l.length p) (.s t l) (fun b=>b<W.heap.size):=(by refine .sl t l a.block a.off p m et fz (fun i j=>(m[a.off+i*t.width+j]?).getD undef) (fun _ _ b=>b<W.heap.size) _ hb (fun h=>by cases h) (by omega) (by omega) a8 ?_ (fun i j x _ _ hx=>⟨hx,fun h=>by cases h⟩) (fun h=>by cases h) a9 ?_;{exact(qQ.1 hb).1};{intro i z Y j c r;have X:i<l.length:=(qA.1 Y).1;have hj:j<t.width:=(by have:=(qA.1 r).1;rwa [zc9] at this);exact(b8 i z Y j c _ r (a9 i j X hj)).1});have ha:a=⟨a.block,a.off,none⟩:=(by obtain⟨b,o,s⟩:=a;simp only at E;subst E;rfl);rw[c9,<- ha]at a1;refine a3 _ l a1 (.s t l (by omega) (fun i z Y j c r=>?_));have X:i<l.length:=(qA.1 Y).1;have hj:j<t.width:=(by have:=(qA.1 r).1;rwa [zc9] at this);exact(b8 i z Y j c _ r (a9 i j X hj)).2};{cases V}}}};{cases d}}
  .rename_i fs I;split at d
   .rename_i l hl;cases d;obtain⟨xs,n,rfl,rfl,c6,d9,b6⟩:=DataW.trod_struct I hx;unfold zzG at C;rw[I,b9]at C;simp only at C;have d8:(DataW.weightsEach P (fs.toList.map (·.type)) (xs.map (·.1))).all (·<=reachBytes)=true:=by have:((DataW.agg (xs.map (·.1))).weights P T).all (·<=reachBytes)=true:=hw;simpa only [DataW.weights,I] using this
    have e2:∀(Z:List Field) (ys:List (DataW H×List MemPlace)) (ls:List (List CTy)) (B:Nat),zyn P (P.cellsOf T) Z B=true->Z.length=ys.length->
     (∀(i:Nat) (f:Field),Z[i]?=some f->DataW.trod enc P W 0 (fun _=>true) true n f.type ((cs.drop f.offset).take (P.cellsOf f.type))=ys[i]?)->
     zco (fun (f:Field)=>match zcz P 3 f.type with|some x=>some x.2|none=>none) Z=some ls->(DataW.weightsEach P (Z.map (·.type)) (ys.map (·.1))).all (·<=reachBytes)=true->
     B<=P.cellsOf T/\Opened W (cs.drop B) ls.flatten:=by
     intro Z
     induction Z with
     |nil=>intro ys ls B ho _ _ a7 _;cases a7;simp only[zyn,qK]at ho;subst ho;refine⟨qZ _,[],rfl,by simp[c6],fun j c u h=>by simp at h⟩
     |cons f Z e0=>intro ys ls B ho O hf a7 c1;obtain⟨b,e3,a5,c3,rfl⟩:=zgv a7;cases ys with|nil=>simp at O|cons y ys=>simp only[zyn,qD,qK,vF]at ho;obtain⟨⟨d0,d1⟩,d2⟩:=ho;split at a5;{rename_i z Y;cases a5;obtain⟨J,a2⟩:=z;have hy:=hf 0 f rfl;simp only[qH]at hy;simp only[jB,DataW.weightsEach]at c1;obtain⟨d5,d6⟩:=all_append c1;have h4:=zzl Y;obtain⟨g1,g2⟩:=e0 ys e3 (B+P.cellsOf f.type) d2 (by simpa using O) (fun i g hg=>by simpa using hf (i+1) g (by simpa using hg)) c3 d6;have o1:=ih n (by omega) f.type _ y d1 J a2 h4 hy d5;rw[d0] at o1;refine⟨by omega,?_⟩;have e1:cs.drop B=(cs.drop B).take (P.cellsOf f.type)++cs.drop (B+P.cellsOf f.type):=(by rw[<- List.drop_drop,List.take_append_drop]);rw[e1];exact Opened.append o1 g2};{cases a5}
    have:=(e2 fs.toList xs l 0 C (by simp[d9]) (fun i f hf=>b6 i f (by simpa using hf)) hl d8).2;simpa using this
   {cases d}
  {cases d}
end
theorem zZg:(List.range zfP).all (znK Tryz.prog)=true:=by kernel_rfl
theorem zbbk:zFg.all (fun T=>!Nat.blt T zfP||zTs Tryz.prog T)=true:=by kernel_rfl
theorem z5s:Tryz.prog.funcs.toList.all (fun a=>!(a.name == "runtime.NumGoroutine"))=true:=by kernel_rfl
theorem z9O (T:TypeId)(a:zFg.contains T=true)(d:T<zfP):zTs Tryz.prog T=true:=by have c:T∈zFg:=(by revert a;generalize zFg=l;intro a;simpa using a);have e:Nat.blt T zfP=true:=(by rw[vF];exact d);have b:=qM.1 zbbk T c;rw[e,jM,Bool.false_or]at b;exact b
theorem zbbi (a:FuncId->Option (List AV->Option (Bool×List AV)))(b:FuncId->Option (CV->Int->Option (Bool×CV×Int)))(c:FuncId->Option (List Bool×(List CV->List AV->Option (Bool×List CV×List AV))))(d:FuncId->Option (List Bool×Option (Nat×Nat×List (List Nat))×(List AV->Option (Bool×List AV)))):CfgOk (zlO a b c d):=by have e:(zlO a b c d).P=Tryz.prog:=(by simp only[zlO]);have g:∀T,(zlO a b c d).sty T=below T (zwQ Tryz.prog T):=fun _=>(by simp only[zlO]);have i:∀T,(zlO a b c d).cty T=below T (zcz Tryz.prog 4 T):=fun _=>(by simp only[zlO]);have j:∀T f,(zlO a b c d).fof T f=ztV Tryz.prog T f:=fun _ _=>(by simp only[zlO]);have k:∀T,(zlO a b c d).eqt T=zFg.contains T:=fun _=>(by simp only[zlO]);refine z5q e g i j zZg ?_;intro T h l;rw[k]at h;exact z9O T h l
theorem zbaH (a:FuncId->Option (List AV->Option (Bool×List AV)))(b:FuncId->Option (CV->Int->Option (Bool×CV×Int)))(c:FuncId->Option (List Bool×(List CV->List AV->Option (Bool×List CV×List AV))))(d:FuncId->Option (List Bool×Option (Nat×Nat×List (List Nat))×(List AV->Option (Bool×List AV)))):NameOk (zlO a b c d):=by
 refine⟨fun f e g=>?_⟩;have:=qM.1 z5s e (by
  have:Tryz.prog.funcs[f]?=some e:=g;rw[<- kU] at this;exact qI this)
 simpa using this
theorem zf2 {b:FuncId->Option (List AV->Option (Bool×List AV))}{c:FuncId->Option (CV->Int->Option (Bool×CV×Int))}{d:FuncId->Option (List Bool×(List CV->List AV->Option (Bool×List CV×List AV)))}{e:FuncId->Option (List Bool×Option (Nat×Nat×List (List Nat))×(List AV->Option (Bool×List AV)))}(h:∀f a,b f=some a->Holds Tryz.prog f a)(p:∀f a,c f=some a->zKN Tryz.prog f a)(q:∀f own a,d f=some (own,a)->zbN Tryz.prog f own a)(m:∀f own g a,e f=some (own,g,a)->zdR Tryz.prog f own g a):EngOk (zlO b c d e):=by have i:=zbbi b c d e;have k:CtrOk (zlO b c d e):=⟨h,fun f g a n=>m f [] g a n⟩;have j:=z6l i ⟨p⟩ ⟨q⟩ ⟨m⟩;have l:=zbaH b c d e;exact⟨i,k,j,l,zbad i k j l⟩
section
open Go Go.ChangeShapes Go.WideShapes Go.ChangeAt
def AV.sh:AV->Bool×List CTy
 |.one c=>(false,[c.ty])
 |.agg l=>(true,l.map CV.ty)
section
variable {P:Program}
theorem zQh {T:TypeId}{a:Bool}{tys:List CTy}(h:zcz P 4 T=some (a,tys)) :
 (a=true/\∃fs,P.underlying T=some (.struct fs))\/(a=false/\tys.length=1/\((∃k,P.underlying T=some (.int k))\/P.underlying T=some .bool\/∃e,P.underlying T=some (.slice e))):=by
 rw[zcz]at h;split at h
 .rename_i k hu;cases h;exact .inr ⟨rfl,rfl,.inl ⟨k,hu⟩⟩
 .rename_i hu;cases h;exact .inr ⟨rfl,rfl,.inr (.inl hu)⟩
 .rename_i e hu;split at h
  .cases h;exact .inr ⟨rfl,rfl,.inr (.inr ⟨e,hu⟩)⟩
  .cases h
 .rename_i fs hu;split at h
  .cases h;exact .inl ⟨rfl,fs,hu⟩
  .cases h
 .cases h
theorem z4d {W:World}{T:TypeId}{v:Value}{base:Nat}(a:(∃k,P.underlying T=some (.int k))\/P.underlying T=some .bool\/∃e,P.underlying T=some (.slice e))(h:Value.okWide P W .any base T v):v.cells = #[v]:=by
 cases v with
 |agg b=>exfalso;rcases a with⟨k,a⟩|a|⟨e,a⟩<;>simp [Value.okWide,a,Cell.okWide,Cell.ok]at h
 |_=>rfl
theorem zRs (g:∀T,T<zfP->znK P T=true/\zzG P T=true){H:Type}{enc:TypeId×Value->H}{W:World}{base:Nat} :
 ∀(n:List TypeId) (w:List Value) (z:List (DataW H)) (p:List MemPlace),DataW.TrodAll enc P W 0 (fun _=>true) true n w z p->
  (∀(j:Nat) (t:TypeId) (v:Value),n[j]?=some t->w[j]?=some v->Value.okWide P W .any base t v)->(∀t∈n,t<zfP/\(zcz P 4 t).isSome=true)->
  (DataW.weightsEach P n z).all (·<=reachBytes)=true->
  ∃(avs:List AV) (xs:List Value),avs.map (fun a=>some a.sh)=n.map (zcz P 4)/\zdf false W (zA avs) xs (fun _ b=>b<W.heap.size)/\zbQ avs xs=w/\∀c∈zA avs,CVOk c
 |[],w,z,p,h,_,_,_=>by obtain⟨rfl,rfl,rfl⟩:=trodAll_nil h;exact⟨[],[],rfl,⟨rfl,fun i c x h=>by simp[zA]at h⟩,rfl,fun c h=>by simp[zA]at h⟩
 |T::n,w,z,p,h,X,V,Y=>by
  obtain⟨v,O,d,E,p1,q,rfl,rfl,rfl,G,I⟩:=trodAll_cons h;simp only[DataW.weightsEach]at Y;obtain⟨L,M⟩:=all_append Y;obtain⟨avs,xs,R,Z,S,g4⟩:=zRs g n O E q I (fun j t v G I=>X (j+1) t v (by simpa using G) (by simpa using I)) (fun t h=>V t (by simp[h])) M;obtain⟨hT,l⟩:=V T (by simp);obtain⟨⟨D,N⟩,f⟩:=uQ.1 l;obtain⟨s,hf⟩:=G;obtain⟨cvs,F,A,Q⟩:=z1p g s T _ _ hT D N f hf L;have m:=X 0 T v rfl rfl;have r:∀a:AV,a.cvs=cvs->zdf false W (zA (a::avs)) (v.cells.toList++xs) (fun _ b=>b<W.heap.size)/\∀c∈zA (a::avs),CVOk c:=(by intro a ha;have e:zA (a::avs)=cvs++zA avs:=(by simp[zA,ha]);rw[e];refine⟨zdf.append ⟨A,fun i c x k hx=>(Q i c x k hx).1⟩ Z,fun c k=>?_⟩;rcases jJ.1 k with k|k;{obtain⟨i,U⟩:=qT.1 k;have J:i<v.cells.toList.length:=(by rw[A];exact(qA.1 U).1);exact(Q i c _ U (qB J)).2};{exact g4 c k});rcases zQh f with⟨rfl,fs,K⟩|⟨rfl,u,K⟩;{obtain⟨y,rfl,_⟩:∃y,v = .agg y/\True:=(by simp only[Value.okWide,K]at m;obtain⟨y,h,_⟩:=m;exact⟨y,h,trivial⟩);obtain⟨B,C⟩:=r (.agg cvs) rfl;refine⟨.agg cvs::avs,_,?_,B,?_,C⟩;{rw [jB,jB,R,f];simp only[AV.sh,F]};{simp only [Value.cells] at A;simp only[zbQ,Value.cells,<- A,kN,kY,S,jR]}}
  .have hcells:=z4d K m;rw[<- F]at u;obtain ⟨c,rfl⟩:∃c,cvs=[c]:=by
    match cvs,u with
    |[c],_=>exact⟨c,rfl⟩
   obtain⟨B,C⟩:=r (.one c) rfl;refine⟨.one c::avs,_,?_,B,?_,C⟩;{rw [jB,jB,R,f,<- F];rfl};{rw [hcells];simp only[zbQ];simp[S]}
theorem zCf (n:laidOutB P=true){H:Type}{enc:TypeId×Value->H}{W l:World}(m:Go.RowKit.Below W.heap.size W l){s:Nat->Bool}:∀(f:List TypeId) (i:List Value) (g:List (DataW H)) (e:List MemPlace),(∀t∈f,P.readableRec t=true/\t<P.types.size)->
 DataW.TrodAll enc P W 0 (fun _=>true) true f i g e->(∀x∈e,x.block<W.heap.size/\s x.block=true)->DataW.TrodAll enc P l 0 s true f i g e
 |[],i,g,e,_,h,_=>by obtain⟨rfl,rfl,rfl⟩:=trodAll_nil h;exact rfl
 |T::f,i,g,e,r,h,a=>by
  obtain⟨v,k,d,j,p,q,rfl,rfl,rfl,u,w⟩:=trodAll_cons h;obtain⟨y,b⟩:=r T (by simp)
  exact⟨p,q,WideElems.Trod_stays n y b u (fun x c=>m.same (a x (j5 _ c)).1) (fun x c=>(a x (j5 _ c)).2),
   zCf n m f k j q (fun t h=>r t (by simp[h])) w (fun x c=>a x (kH _ c)),rfl⟩
theorem zSh {W b:World}(h:Grown W b)(a:MemPlace->Prop):W.keptBut b a:=by
 refine⟨h.os,h.output,fun i c=>?_⟩;rw[h.keep i c];cases d:W.heap[i]? with
 |none=>rfl
 |some o=>cases o<;>first|rfl|exact⟨rfl,rfl,rfl,fun _ _=>rfl⟩|exact .inr ⟨rfl,rfl⟩
def z4m (P:Program)(a:List TypeId):Bool:=a.all fun T=>Nat.blt T zfP&&(zcz P 4 T).isSome&&P.readableRec T&&Nat.blt T P.types.size
def z7x (P:Program)(b:List TypeId)(avs:List AV):Prop:=avs.map (fun a=>some a.sh)=b.map (zcz P 4)/\∀c∈zA avs,CVOk c
def zTH (P:Program)(f:FuncId)(d:List TypeId):Prop :=
 ∃c,Holds P f c/\∀a,z7x P d a->c a=some (true,[.one (.b true)])
theorem zMb (J:∀T,T<zfP->znK P T=true/\zzG P T=true)(a0:laidOutB P=true){s:ChangeSpec}{f:FuncId}{u:Func}{B:TypeId}(k:s.vars=[])(E:∀(H:Type) (i:List (DataW H)),i.length=u.params.toList.length->s.fn H i={results:=[.lit (.bool true)],args:=i})(a:z4m P u.params.toList=true)(N:u.resultTypes = #[B])(hB:P.underlying B=some .bool)(hl:zTH P f u.params.toList){H:Type}{enc:TypeId×Value->H}{apart C l:Bool}(W:World)(base:Nat)(g:Array Value)(i gs:List (DataW H))(w:List MemPlace)(S:∀(j:Nat) t v,u.params[j]?=some t->g[j]?=some v->Value.okWide P W .any base t v)(hW:DataW.Whole enc P u.params.toList s.vars apart W g.toList i gs w)(Q:(DataW.weightsEach P (u.params.toList++s.plain.varTypes P) (i++gs)).all (·<=reachBytes)=true) :
 Calls P f g W fun e W'=>∃v,e = .returned v/\s.post enc P u apart C l false W g v W':=by
 have I:=hW;obtain⟨p,q,G,hV,rfl,a4,a5⟩:=hW;rw[k]at hV;obtain⟨rfl,rfl⟩:=trodVars_none hV;have a2:s.plain.varTypes P=[]:=by unfold DataSpec.varTypes;show s.vars.filterMap _=[];rw[k];rfl
 rw[a2,jC,jC]at Q;unfold z4m at a;simp only[qM,qD,vF]at a;have F:∀(j:Nat) (t:TypeId) (v:Value),u.params.toList[j]?=some t->g.toList[j]?=some v->Value.okWide P W .any base t v:=by intro j t v h1 V;rw[kU]at h1 V;exact S j t v h1 V
 obtain⟨A,xs,g1,g2,g3,g4⟩:=zRs J u.params.toList g.toList i p G F (fun t R=>⟨(a t R).1.1.1,(a t R).1.1.2⟩) Q;obtain⟨a6,hH,O⟩:=hl;have m:=hH.2 W A xs _ g2 (O A ⟨g1,g4⟩);have D:(zbQ A xs).toArray=g:=by rw[g3,jR]
 rw[D]at m;have n:∀(U:List TypeId) (vs:List Value) (i:List (DataW H)) (ps:List MemPlace),DataW.TrodAll enc P W 0 (fun _=>true) true U vs i ps->i.length=U.length:=by intro U;induction U with|nil=>intro vs i ps h;obtain⟨_,rfl,_⟩:=trodAll_nil h;rfl|cons t U ih=>intro vs i ps h;obtain⟨v,a3,d,Y,p,q,rfl,rfl,rfl,_,V⟩:=trodAll_cons h;simp[ih a3 Y q V]
 refine m.mono ?_;intro e W1 Z;cases e with
 |panicked c=>exact Z.elim
 |outgrown=>exact Z.elim
 |returned v=>
  obtain⟨hg,ys,K,M,hv,_⟩:=Z;have a1:v = .bool true:=by
   match ys,M with
   |[],h=>exact absurd h.1 (by simp[zA,AV.cvs])
   |[y],h=>have:=(h.2 0 (.b true) y rfl rfl).bool_inv;rw[hv,this];rfl
   |y::z::r,h=>exact absurd h.1 (by simp[zA,AV.cvs])
  subst a1;refine⟨_,rfl,i,[],p++[],[],p,[],I,?_,?_,?_,zSh hg _,fun h=>by cases h⟩;{rw [jC,E H i (n _ _ _ _ G),N];exact⟨[],[],⟨1,by simp[DataW.trod,hB,Value.cells]⟩,rfl,rfl⟩};{rw [jC,E H i (n _ _ _ _ G)];have hb:Go.RowKit.Below W.heap.size W W1:=⟨hg.os,hg.tape,hg.output,hg.size,hg.keep⟩;have L:∀x∈p,x.block<W.heap.size:=fun x X=>(by simpa using I.lt x (j5 _ X));exact zCf a0 hb _ _ _ _ (fun t R=>⟨(a t R).1.2,(a t R).2⟩) G (fun x X=>⟨L x X,by simpa using L x X⟩)};{rw [k,jC,E H i (n _ _ _ _ G)];rfl}
end
theorem zbbl:(List.range zfP).all (zzG Tryz.prog)=true:=by kernel_rfl
theorem z6q:laidOutB Tryz.prog=true:=by kernel_rfl
theorem own:ownKnob Tryz.prog.godebug=none:=by kernel_rfl
theorem z5r (T:TypeId)(a:T<zfP):znK Tryz.prog T=true/\zzG Tryz.prog T=true :=
 ⟨qM.1 zZg T (kI.2 a),qM.1 zbbl T (kI.2 a)⟩
abbrev Good (a:List TypeId)(avs:List AV):Prop:=z7x Tryz.prog a avs
abbrev zY6 (f:FuncId)(a:List TypeId):Prop:=zTH Tryz.prog f a
theorem zXB {c:FuncId->Option (List AV->Option (Bool×List AV))}{k:FuncId->Option (CV->Int->Option (Bool×CV×Int))}{l:FuncId->Option (List Bool×(List CV->List AV->Option (Bool×List CV×List AV)))}{m:FuncId->Option (List Bool×Option (Nat×Nat×List (List Nat))×(List AV->Option (Bool×List AV)))}(d:∀f a,c f=some a->Holds Tryz.prog f a)(e:∀f a,k f=some a->zKN Tryz.prog f a)(g:∀f own a,l f=some (own,a)->zbN Tryz.prog f own a)(i:∀f own j a,m f=some (own,j,a)->zdR Tryz.prog f own j a){f:FuncId}{p:List TypeId}(q:FnOk Tryz.prog f)(h:∀avs,Good p avs->∃tms N D,evalFn (zlO c k l m) tms N D f avs=some [.one (.b true)]):zY6 f p:=by refine⟨fun avs=>open Classical in if Good p avs then some (true,[.one (.b true)]) else none,zBo (zf2 d e g i) q ?_,fun avs hg=>by simp[hg]⟩;intro avs r _ n;split at n;{rename_i hg;cases n;exact h avs hg};{cases n}
end
def St.blkEnd (st:St):List Bool->List At->List MV->Option (List CV×List Nat)
 |[],[],[]=>some ([],[])
 |own::ms,a::r,h::hs=>
  match St.blkEnd st ms r hs with
  |none=>none
  |some (d,c) =>
   match a with
   |.i k n=>some (.i k n::d,c)
   |.b x=>some (.b x::d,c)
   |.sl q [] =>
    match st.root q with
    |some R=>
     match own with
     |true=>if R.own && !c.contains q then some (.s R.t R.l::d,q::c) else none
     |false=>
      match h with
      |.v (.at (.sl e []))=>if q==e then some (.s R.t R.l::d,c) else none
      |_=>none
    |none=>none
   |_=>none
 |_,_,_=>none
def zec:List Bool->List CV->Nat->List (Nat×Root)
 |own::ms,.s t l::cs,id=>(id,⟨t,l,own,none⟩)::zec ms cs (id+1)
 |_::ms,_::cs,id=>zec ms cs (id+1)
 |_,_,_=>[]
def zZj (own:List Bool)(cs:List CV)(b:List AV):St :=
 {tm:=.v (.at (.lp 0 0))::(zgf cs 0).map fun a=>.v (.at a),lo:=[(0,zgf cs 0)],ro:=zec own cs 0++zcN zug b cs.length,stk:=[],nid:=cs.length+(b.flatMap AV.cvs).length+1,ep:=0}
def znQ (C:Cfg)(tms:FuncId->Nat->Option Tmpl)(N D:Nat)(f:FuncId)(own:List Bool)(cs:List CV)(a:List AV):Option Ans :=
 cond (zhi f && !(zpE (.agg cs::a))) none
 (zvp C tms N (zru C tms N D) f (.v (.at (.lp 0 0))::(zcK a cs.length).map .v) (zZj own cs a) fun g b=>
  match b.tm with
  |.v (.at (.lp l 0))::hs=>
   match zl b.lo l with
   |some cells=>
    match b.blkEnd own cells hs with
    |some (d,e) =>
     match zqn (b.thaw (zhi f)) g e with
     |some c=>some (.agg d::c)
     |none=>none
    |none=>none
   |none=>none
  |_=>none)
section
variable {C:Cfg} {w0 w w1:World} {S0:zX} {U:Nat->Prop} {st st1:St} {E E1:Env} {ts:Array Value} {sv:List (Array Value)}
structure BlkEnd (st:St) (own:List Bool) (cells:List At) (hs:List MV) (cs:List CV) (ks:List Nat):Prop where
 len:cs.length=cells.length
 hlen:hs.length=cells.length
 ownk:∀r∈ks,∃j,zbb own j/\cells[j]?=some (.sl r [])
 get:∀(j:Nat) (a:At),cells[j]?=some a->(∃k n,a = .i k n/\cs[j]?=some (.i k n))\/(∃x,a = .b x/\cs[j]?=some (.b x))\/
  ∃r R,a = .sl r []/\st.root r=some R/\cs[j]?=some (.s R.t R.l)/\((zbb own j/\R.own=true/\r∈ks)\/(¬ zbb own j/\hs[j]?=some (.v (.at (.sl r [])))))
 inj:∀(i j r:Nat),zbb own i->zbb own j->cells[i]?=some (.sl r [])->cells[j]?=some (.sl r [])->i=j
theorem zQM:∀(own:List Bool) (cells:List At) (A:List MV) (cs:List CV) (ks:List Nat),st.blkEnd own cells A=some (cs,ks)->BlkEnd st own cells A cs ks
 |[],[],[],cs,ks,h=>by cases h;exact⟨rfl,rfl,fun r h=>by simp at h,fun j a h=>by simp at h,fun i j r h=>by simp[zbb]at h⟩
 |o::ms,a::r,M::A,cs,ks,h=>by
  simp only[St.blkEnd]at h;split at h;{cases h}
  .rename_i cs0 ks0 h0;have f:=zQM ms r A cs0 ks0 h0;have p:∀(z:List Nat) (c:CV),(∀x∈ks0,x∈z)->∀(j:Nat) (b:At),r[j]?=some b->(∃k n,b = .i k n/\(c :: cs0)[j+1]?=some (.i k n))\/(∃x,b = .b x/\(c :: cs0)[j+1]?=some (.b x)) \/
    ∃q R,b = .sl q []/\st.root q=some R/\(c::cs0)[j+1]?=some (.s R.t R.l)/\((zbb (o::ms) (j+1)/\R.own=true/\q∈z)\/(¬ zbb (o::ms) (j+1)/\(M::A)[j+1]?=some (.v (.at (.sl q []))))):=by
    intro z c G j b g;rcases f.get j b g with h|h|⟨q,R,E,J,K,F⟩
    .exact .inl (by simpa using h)
    .exact .inr (.inl (by simpa using h))
    .refine .inr (.inr ⟨q,R,E,J,by simpa using K,?_⟩)
     rcases F with⟨d,e,O⟩|⟨d,e⟩
     .exact .inl ⟨by simpa [zbb] using d,e,G q O⟩
     .exact .inr ⟨by simpa [zbb] using d,by simpa using e⟩
   have flat:∀(c:CV),(∀q,a≠.sl q [])->((∃k n,a = .i k n/\c = .i k n)\/(∃x,a = .b x/\c = .b x))->BlkEnd st (o::ms) (a::r) (M::A) (c::cs0) ks0:=by
    intro c B P;refine⟨by simp[f.len],by simp[f.hlen],fun q I=>?_,fun j b g=>?_,fun i j q u y d e=>?_⟩;{obtain⟨j,d,e⟩:=f.ownk q I;exact⟨j+1,by simpa [zbb] using d,by simpa using e⟩}
    .cases j with
     |zero=>simp only[qH,qC]at g;subst g;rcases P with⟨k,n,d,e⟩|⟨x,d,e⟩;{exact .inl ⟨k,n,d,by simp[e]⟩};{exact .inr (.inl ⟨x,d,by simp[e]⟩)}
     |succ j=>exact p ks0 c (fun _ h=>h) j b (by simpa using g)
    {cases i with|zero=>simp only[qH,qC]at d;exact absurd d (B q)|succ i=>(cases j with|zero=>simp only[qH,qC]at e;exact absurd e (B q)|succ j=>have:=f.inj i j q (by simpa [zbb] using u) (by simpa [zbb] using y) (by simpa using d) (by simpa using e);omega)}
   split at h;{rename_i k n;cases h;exact flat _ (fun q h=>by cases h) (.inl ⟨k,n,rfl,rfl⟩)};{rename_i x;cases h;exact flat _ (fun q h=>by cases h) (.inr ⟨x,rfl,rfl⟩)};{rename_i q;split at h;{rename_i R L;split at h;{split at h;{rename_i m;simp only[qD,jE,jN,decide_eq_false_iff_not]at m;obtain⟨C,H⟩:=m;cases h;refine⟨by simp[f.len],by simp[f.hlen],fun x w=>?_,fun j b g=>?_,fun i j x u y d e=>?_⟩;{rcases qG.1 w with rfl|w;{exact⟨0,rfl,rfl⟩};{obtain⟨j,d,e⟩:=f.ownk x w;exact⟨j+1,by simpa [zbb] using d,by simpa using e⟩}};{cases j with|zero=>simp only[qH,qC]at g;subst g;exact .inr (.inr ⟨q,R,rfl,L,by simp,.inl ⟨rfl,C,jA⟩⟩)|succ j=>exact p _ _ (fun x w=>qX _ w) j b (by simpa using g)};{have D:∀(i:Nat),zbb ms i->r[i]?=some (.sl q [])->False:=(by intro i u I;rcases f.get i _ I with⟨_,_,h,_⟩|⟨_,h,_⟩|⟨T,Q,E,J,K,F⟩;{cases h};{cases h};{cases E;rcases F with⟨_,_,h⟩|⟨h,_⟩;{exact H h};{exact h u}});cases i with|zero=>(cases j with|zero=>rfl|succ j=>simp only[qH,qC,At.sl.injEq,and_true]at d;subst d;exact(D j (by simpa [zbb] using y) (by simpa using e)).elim)|succ i=>(cases j with|zero=>simp only[qH,qC,At.sl.injEq,and_true]at e;subst e;exact(D i (by simpa [zbb] using u) (by simpa using d)).elim|succ j=>have:=f.inj i j x (by simpa [zbb] using u) (by simpa [zbb] using y) (by simpa using d) (by simpa using e);omega)}};{cases h}};{split at h;{rename_i S;split at h;{rename_i N;simp only[qK]at N;subst N;cases h;refine⟨by simp[f.len],by simp[f.hlen],fun x w=>?_,fun j b g=>?_,fun i j x u y d e=>?_⟩;{obtain⟨j,d,e⟩:=f.ownk x w;exact⟨j+1,by simpa [zbb] using d,by simpa using e⟩};{cases j with|zero=>simp only[qH,qC]at g;subst g;exact .inr (.inr ⟨q,R,rfl,L,by simp,.inr ⟨by simp[zbb],rfl⟩⟩)|succ j=>exact p _ _ (fun x w=>w) j b (by simpa using g)};{cases i with|zero=>simp[zbb]at u|succ i=>(cases j with|zero=>simp[zbb]at y|succ j=>have:=f.inj i j x (by simpa [zbb] using u) (by simpa [zbb] using y) (by simpa using d) (by simpa using e);omega)}};{cases h}};{cases h}}};{cases h}};{cases h}
 |[],_::_,_,_,_,h=>by simp[St.blkEnd]at h
 |[],[],_::_,_,_,h=>by simp[St.blkEnd]at h
 |_::_,[],_,_,_,h=>by simp[St.blkEnd]at h
 |_::_,_::_,[],_,_,h=>by simp[St.blkEnd]at h
theorem z5l (a:Value)(b:Array Value):(#[a]++b)[0]?=some a:=by rw[j3 (by simp)];rfl
theorem z5m (a:Value)(b:Array Value)(i:Nat):(#[a]++b)[i+1]?=b[i]?:=by rw[kE (by simp)];simp
theorem zkk:∀(own:List Bool) (cs:List CV) (id n:Nat) (R:Root),zl (zec own cs id) n=some R->id<=n/\∃t l,cs[n-id]?=some (.s t l)/\R.t=t/\HEq R.l l/\own[n-id]?=some R.own/\R=⟨t,l,R.own,none⟩
 |[],_,_,_,_,h=>by cases h
 |o::ms,[],_,_,_,h=>by cases h
 |o::ms,c::cs,id,n,R,h=>by have a:zl (zec ms cs (id+1)) n=some R->id<=n/\∃t l,(c::cs)[n-id]?=some (.s t l)/\R.t=t/\HEq R.l l/\(o::ms)[n-id]?=some R.own/\R=⟨t,l,R.own,none⟩:=fun h=>(by obtain⟨q,t,l,f,g,j,m,p⟩:=zkk ms cs (id+1) n R h;have e:n-id=(n-(id+1))+1:=(by omega);exact⟨by omega,t,l,by rw[e,jP];exact f,g,j,by rw[e,jP];exact m,p⟩);cases c with|i k x=>exact a h|b x=>exact a h|s t l=>simp only[zec,zl]at h;split at h;{rename_i d;simp only[qK]at d;subst d;cases h;exact⟨qZ _,t,l,by simp,rfl,HEq.rfl,by simp,rfl⟩};{exact a h}
theorem zgJ (hO:EngOk C){f:FuncId}{own:List Bool}{e7:List CV->List AV->Option (Bool×List CV×List AV)}(hf:FnOk C.P f)(h:∀(cs:List CV) (avs:List AV) (cs':List CV) (rs:List AV),own.length=cs.length->(∃(w:World) (xs:Nat->Value) (K:Nat->zX),∀(j:Nat) (c:CV),(cs++zA avs)[j]?=some c->Rep false w (xs j) c (K j))->e7 cs avs=some (true,cs',rs)->cs'.length=cs.length/\∃tms N D,znQ C tms N D f own cs avs=some (.agg cs'::rs)):zbN C.P f own e7:=by
 refine⟨hf,fun w blk z e cs K avs xs Ka cs' rs hb e4 g6 a0 a6 f0 a3 c6 d9=>?_⟩;obtain⟨d3,tms,N,D,a2⟩:=h cs avs cs' rs g6 ⟨w,fun j=>if j<cs.length then (z[j]?).getD undef else (xs[j-cs.length]?).getD undef,fun j=>if j<cs.length then K j else Ka,fun j c I=>by
  by_cases O:j<cs.length
  .rw [qV O]at I;have J:=jH (show j<z.size by omega)
   simp only[if_pos O,J,jZ];exact(a0 j c _ I J).ro
  .rw [qR (by omega)]at I
   have c8:=(qA.1 I).1;have J:=qB (show j-cs.length<xs.length by rw[a3.1];exact c8)
   simp only[if_neg O,J,jZ];exact a3.2 _ c _ I J⟩ d9
 unfold znQ at a2;cases b8:zhi f && !(zpE (.agg cs::avs)) with
 |true=>rw[b8]at a2;cases a2
 |false=>
 rw[b8,cond_false]at a2;have hblt:blk<w.heap.size:=(qQ.1 hb).1;generalize a8:zZj own cs avs=st at a2;have g8:st.ro=zec own cs 0++zcN zug avs cs.length:=(by rw[<- a8];rfl);have d5:st.lo=[(0,zgf cs 0)]:=(by rw[<- a8];rfl);have c0:st.stk=[]:=(by rw[<- a8];rfl);have hnid:st.nid=cs.length+(zA avs).length+1:=(by rw[<- a8];rfl);have a9:st.tm = .v (.at (.lp 0 0))::(zgf cs 0).map fun a=>.v (.at a):=(by rw[<- a8];rfl);have L:∀r R,zl st.ro r=some R->R.ep=none/\((r<cs.length/\own[r]?=some R.own/\cs[r]?=some (.s R.t R.l))\/(cs.length<=r/\r<cs.length+(zA avs).length/\R.own=false/\(zA avs)[r-cs.length]?=some (.s R.t R.l))):=(by intro r R G;rw[g8,zbO]at G;split at G;{rename_i Q hQ;cases G;obtain⟨_,t,l,p,_,_,h5,h6⟩:=zkk own cs 0 r R hQ;rw[h6]at h5 ⊢;simp only[vH]at p h5;exact⟨rfl,.inl ⟨(qA.1 p).1,h5,p⟩⟩};{obtain⟨d,t,l,p,rfl⟩:=zeG zug avs cs.length r R G;have:=(qA.1 p).1;exact⟨rfl,.inr ⟨d,by omega,rfl,p⟩⟩});have F:∀r R,st.root r=some R->(r<cs.length/\own[r]?=some R.own/\cs[r]?=some (.s R.t R.l))\/(cs.length<=r/\R.own=false/\(zA avs)[r-cs.length]?=some (.s R.t R.l)):=(by intro r R G;rcases (L r R (zbw G).1).2 with h|⟨d,_,p,B⟩;{exact .inl h};{exact .inr ⟨d,p,B⟩});let E:Env:={ρ:=fun n=>if n<cs.length then (z[n]?).getD undef else (xs[n-cs.length]?).getD undef,φ:=fun n=>if n<cs.length then K n else Ka,β:=fun _=>blk,κ:=w}
 have X:∀n,n<cs.length->E.ρ n=(z[n]?).getD undef/\E.φ n=K n:=fun n Z=>(by simp only[E,if_pos Z,and_self]);have a1:∀n,cs.length<=n->E.ρ n=(xs[n-cs.length]?).getD undef/\E.φ n=Ka:=fun n Z=>(by simp only[E,if_neg (show ¬ n<cs.length by omega),and_self]);have e3:∀(j:Nat) (a:At) (u:Value),(zgf cs 0)[j]?=some a->z[j]?=some u->u.oneCell'=true/\VA w st E a u:=(by intro j a u q J;rw[zuf,j4]at q;cases I:cs[j]? with|none=>rw[I]at q;cases q|some c=>rw[I]at q;cases q;have hr:=a0 j c u I J;have O:j<cs.length:=(qA.1 I).1;refine⟨hr.one,?_⟩;(cases c with|i k n=>exact hr.int_inv|b x=>exact hr.bool_inv|s t l=>obtain⟨⟨a,c4,hv,_⟩,_⟩:=hr.len;refine⟨⟨a,_,c4,hv⟩,fun R _=>?_⟩;rw[(X j O).1,J];rfl));have b7:∀l cells,zl st.lo l=some cells->l=0/\cells=zgf cs 0:=(by intro l cells h;rw[d5]at h;simp only[zl]at h;split at h;{rename_i he;simp only[qK]at he;cases h;exact⟨he.symm,rfl⟩};{cases h});have hp:VA w st E (.lp 0 0) (.pointer (some ⟨blk,0,none⟩)):=⟨⟨_,rfl⟩,fun _ _=>rfl⟩;have b9:∀a∈zgf cs 0,∀m∈a.ids,m<cs.length:=(by intro a q m H;obtain⟨j,O⟩:=qT.1 q;rw[zuf,j4]at O;cases I:cs[j]? with|none=>rw[I]at O;cases O|some c=>rw[I]at O;cases O;have:=zAk H;have:=(qA.1 I).1;omega);let S0:zX:=fun b=>b=blk\/(∃j,j<cs.length/\zbb own j/\K j b)\/(zhi f=false/\b=w.heap.size)
 have hS:Sim w S0 (fun n=>n<st.nid) st E (#[.pointer (some ⟨blk,0,none⟩)]++z) [] w:=by
  refine⟨⟨rfl,rfl,rfl,qZ _,fun _ _ _=>rfl,fun r R G=>?_,fun r R G x g=>?_,fun r R G S=>?_,fun hz r R G S he f6=>?_,fun r R r' R' G S f1 he V x g=>?_,fun l cells hl=>?_,fun l l' c1 c2 d p _=>?_,fun l cells r R hl G=>?_,fun r R e G he=>?_,rfl⟩,⟨fun n R Z=>?_,fun n cells Z=>?_,fun m H n Z=>?_,fun f hf=>?_⟩,⟨?_,fun i m v H hv=>?_⟩,?_⟩;{rcases F r R G with⟨d,p,B⟩|⟨d,p,B⟩;{have J:=jH (show r<z.size by omega);rw[(X r d).1,(X r d).2,J];have:=a0 r _ _ B J;rw[p] at this;exact this};{have c8:=(qA.1 B).1;have J:=qB (show r-cs.length<xs.length by rw[a3.1];exact c8);rw[(a1 r d).1,(a1 r d).2,J,p];exact a3.2 _ _ _ B J}};{rcases F r R G with⟨d,p,B⟩|⟨d,p,B⟩;{rw [(X r d).2]at g;exact(a6 r x d g).1};{rw [(a1 r d).2]at g;exact(c6 x g).1}};{rcases F r R G with⟨d,p,B⟩|⟨d,p,B⟩;{refine⟨(L r R (zbw G).1).1,fun x g=>.inl (.inr (.inl ⟨r,d,?_,?_⟩))⟩;{show own[r]?=some true;rw[p,S]};{rw [(X r d).2]at g;exact g}};{rw [p]at S;cases S}}
  .exfalso;cases hq:zhi f with
   |false=>exact hz (.inr (.inr ⟨hq,rfl⟩))
   |true=>rw[hq,uH]at b8;have f5:zpE (.agg cs::avs)=true:=(by simpa using b8);have d6:CV.s R.t R.l∈(AV.agg cs::avs).flatMap AV.cvs:=(by simp only[j7,jJ];rcases F r R G with⟨d,p,B⟩|⟨d,p,B⟩;{exact .inl (qI B)};{exact .inr (qI B)});have:=qM.1 f5 _ d6;simp only at this;rw[f6] at this;cases this
  {rcases F r R G with⟨d,p,B⟩|⟨d,p,B⟩;{have d8:zbb own r:=(by show own[r]?=some true;rw[p,S]);rw[(X r d).2]at g;rcases F r' R' f1 with⟨U,c5,a5⟩|⟨U,c5,a5⟩;{rw [(X r' U).2];exact f0 r r' x d U d8 V g};{rw [(a1 r' U).2];exact fun hk=>(c6 x hk).2.2 r d d8 g}};{rw [p]at S;cases S}};{obtain⟨rfl,rfl⟩:=b7 l cells hl;exact⟨.inl (.inl rfl),z,e,hb,by rw[e4,zAj],fun j c u I J=>e3 j c u I J⟩};{rw [(b7 l c1 d).1,(b7 l' c2 p).1]};{intro g;rcases F r R G with⟨d,p,B⟩|⟨d,p,B⟩;{rw [(X r d).2]at g;exact(a6 r _ d g).2 rfl};{rw [(a1 r d).2]at g;exact(c6 _ g).2.1 rfl}};{rw [(L r R G).1]at he;cases he};{rcases (L n R Z).2 with⟨d,_⟩|⟨_,d,_⟩<;>omega};{obtain⟨rfl,rfl⟩:=b7 n cells Z;refine⟨by omega,fun a q m H=>?_⟩;have:=b9 a q m H;omega};{rw [a9]at H;rcases qG.1 H with rfl|H;{simp only [MV.ids,zbA,zS,At.ids,zbo,zbq,jU,j7,uE,jC,qF]at Z;omega};{obtain⟨a,q,rfl⟩:=jD.1 H;simp only[MV.ids,zbA,zS,j7,uE,jC]at Z;have:=b9 a q n Z;omega}};{rw [c0]at hf;simp at hf};{rw [a9];simp[zAj,e4];omega};{rw [a9]at H;cases i with|zero=>rw[z5l]at hv;simp at H hv;subst H hv;exact hp|succ i=>simp only[jP,qP]at H;have c9:z[i]?=some v:=(by rw[z5m]at hv;exact hv);(cases q:(zgf cs 0)[i]? with|none=>rw[q]at H;cases H|some a=>rw[q]at H;cases H;exact(e3 i a v q c9).2)};{rw [c0];trivial}
 obtain⟨f8,f9⟩:=zge (w:=w) (st:=st) (E:=E) avs xs cs.length a3.1 (fun i c u I J=>by
  have hr:=a3.2 i c u I J;refine⟨?_,hr.one⟩;cases c with
  |i k n=>exact hr.int_inv
  |b x=>exact hr.bool_inv
  |s t l=>
   obtain⟨⟨a,c4,hv,_⟩,_⟩:=hr.len;refine⟨⟨a,_,c4,hv⟩,fun R G=>?_⟩;have e:cs.length+i-cs.length=i:=by omega
   rw[(a1 _ (uD _ _)).1,e,J];rfl)
 obtain⟨_,b6⟩:=zjP hO (zii hO (tms:=tms) (N:=N) D) f _ st _ _ a2 w S0 _ E _ [] w (#[.pointer (some ⟨blk,0,none⟩)]++(zbQ avs xs).toArray)
  (fun v w'=>w'.os=w.os/\w'.tape=w.tape/\w'.output=w.output/\w.heap.size<=w'.heap.size/\
   (∀b,b<w.heap.size->b≠blk->(∀j,j<cs.length->zbb own j->¬ K j b)->w'.heap[b]?=w.heap[b]?)/\
   ∃(M:Array Value) (e':TypeId) (K':Nat->zX) (ys:List Value) (Kr:Nat->zX),w'.heap[blk]?=some (.cells M e' (0,0))/\M.size=cs'.length/\cs'.length=cs.length/\
    (∀(j:Nat) (c:CV) (u:Value),cs'[j]?=some c->M[j]?=some u->match c with
     |.i k n=>u = .int k n
     |.b x=>u = .bool x
     |.s t l=>(zbb own j->Rep true w' u (.s t l) (K' j))/\(¬ zbb own j->z[j]?=some u))/\
    ztp (zob f) w' (zA rs) ys Kr/\v=zjb (zbQ rs ys)/\
    (∀j x,j<cs.length->K' j x->x<w'.heap.size/\x≠blk/\((∃i,i<cs.length/\zbb own i/\K i x)\/w.heap.size<=x))/\
    (∀i x,i<(zA rs).length->Kr i x->x<w'.heap.size/\x≠blk/\((∃i,i<cs.length/\zbb own i/\K i x)\/w.heap.size<=x))/\
    (∀i j x,i<cs.length->j<cs.length->i≠j->K' i x->¬ K' j x)/\
    (∀i j c x,(zA rs)[i]?=some c->zob f c=true->j<(zA rs).length->i≠j->Kr i x->¬ Kr j x)/\
    (∀i j x,i<cs.length->j<(zA rs).length->K' i x->¬ Kr j x)) hS (fun n Z h=>by omega)
  (by simp[f8]) (fun i m v H hv=>by
   cases i with
   |zero=>rw[z5l]at hv;simp at H hv;subst H hv;exact hp
   |succ i=>
    simp only[jP,qP]at H;have c9:(zbQ avs xs)[i]?=some v:=by rw[z5m]at hv;simpa using hv
    cases g:(zcK avs cs.length)[i]? with
    |none=>rw[g]at H;cases H
    |some x=>rw[g]at H;cases H;exact f9 i x v g c9)
  (fun m H n Z=>by
   rcases qG.1 H with rfl|H
   .simp only [MV.ids,zbA,zS,At.ids,zbo,zbq,jU,j7,uE,jC,qF]at Z;omega
   .obtain⟨x,g,rfl⟩:=jD.1 H;simp only[MV.ids,zbA,qN]at Z;obtain⟨a,q,Z⟩:=Z;have:=(zeH avs cs.length n x a g q Z).2;omega)
  (fun U' b1 E' w' tvs v d1 _ _ _ hv _ A=>by
   split at A
   .rename_i l hs htm;split at A
    .rename_i cells hcells;split at A
     .rename_i cs1 ks hbe;split at A
      .rename_i ans hansof;simp only[qC,List.cons.injEq,AV.agg.injEq]at A;obtain⟨rfl,rfl⟩:=A;have hB:=zQM own cells hs _ ks hbe;have Y:=d1.mem;obtain⟨hts,e1⟩:=d1.tm;have g0:=e1 0 (.v (.at (.lp l 0))) (.pointer (some ⟨blk,0,none⟩)) (by rw[htm];rfl) (z5l _ _)
       have e6:E'.β l=blk:=by have:=g0.2 cells hcells;simp only[Value.pointer.injEq,qC,Addr.mk.injEq,and_true] at this;exact this.symm
       obtain⟨us,rfl,h7,h8⟩:=zzm hv;have TT:=zNs (st:=b1) (E:=E') (w:=w') (zhi f);obtain⟨a4,ys,kr,hG,h9,e5,rfl,f7,_⟩:=zhS tvs ks _ us hansof h7 (fun k x u g J=>VT.tr TT (fun _ _ _ _=>trivial) (h8 k x u g J));have hyv:∀(k:Nat) (a:At) (u:Value),a4[k]?=some a->ys[k]?=some u->VA w' b1 E' a u:=fun k a u q J=>by have h:=e5 k a u q J;rcases hG.get k a q with⟨_,_,rfl,_⟩|⟨_,rfl,_⟩|⟨r,R1,rfl,b5,H,_⟩;{exact h};{exact h};{obtain⟨R0,f2,ht,_⟩:=ziU b5;refine⟨h.1,fun R G=>?_⟩;rw[f2]at G;cases G;have:=h.2 R1 b5;simpa [zZ] using this}
       have hzz:zhi f=true->¬ S0 w.heap.size:=fun h h'=>by rcases h' with h'|⟨j,O,_,hk⟩|⟨h',_⟩;{omega};{have:=(a6 j _ O hk).1;omega};{rw [h]at h';cases h'}
       obtain⟨_,M,e',a7,e0,f3⟩:=Y.loc l cells hcells;rw[e6]at a7;have d2:∀x,(S0 x\/w.heap.size<=x)->x≠blk->((∃i,i<cs.length/\zbb own i/\K i x)\/w.heap.size<=x):=by intro x h V;rcases h with (h|h|h)|h;{exact absurd h V};{exact .inl h};{exact .inr (by omega)};{exact .inr h}
       have d7:∀r R x,b1.root r=some R->E'.φ r x->x≠blk:=by intro r R x G g he;subst he;rw[<- e6]at g;exact Y.lro l cells r R hcells G g
       have d4:∀i,i<(zA ans).length->∃a,a4[i]?=some a:=fun i hi=>⟨_,qB (by rw[<- hG.len];exact hi)⟩
       let K':Nat->zX:=fun j x=>zbb own j/\cφ E' cells j x
       have b3:∀j x,K' j x->∃r R,cells[j]?=some (.sl r [])/\zbb own j/\b1.root r=some R/\R.own=true/\r∈ks/\E'.φ r x:=by intro j x g;obtain⟨S,g⟩:=g;obtain⟨a,q,g⟩:=ztT g;rcases hB.get j a q with⟨_,_,rfl,_⟩|⟨_,rfl,_⟩|⟨r,R,rfl,d,p,B⟩;{exact g.elim};{exact g.elim};{rcases B with⟨_,W,h5⟩|⟨W,_⟩;{exact⟨r,R,q,S,d,W,h5,g⟩};{exact absurd S W}}
       have b4:∀i x,cφ E' a4 i x->∃a r R,a4[i]?=some a/\a = .sl r []/\b1.root r=some R/\R.ep=none/\r∈kr/\aφ E' a x/\E'.φ r x:=by intro i x g;obtain⟨a,q,g⟩:=ztT g;obtain⟨r,hr,rfl,g9⟩:=hG.fi q g;obtain⟨R1,b5,g5⟩:=hG.own r hr;obtain⟨R,G,_,c7⟩:=ziU b5;refine⟨_,r,R,q,rfl,G,?_,hr,g,g9⟩;rcases c7 with rfl|⟨_,_,he,_⟩;{exact(Y.mine r _ G g5).1};{exact he}
       refine⟨Y.os,Y.tape,Y.output,Y.size,fun b hb V g2=>Y.keep b hb (fun h=>?_),M,e',K',ys,cφ E' a4,a7,by rw[e0,hB.len],d3,fun j c u I J=>?_,⟨by rw[h9,hG.len],fun i c x I g=>?_⟩,rfl,fun j x O g=>?_,fun i x hi g=>?_,fun i j x hi O V g b0=>?_,fun i j c x hi S O V g b0=>?_,fun i j x hi O g b0=>?_⟩
       .rcases h with h|⟨j,O,S,hk⟩|⟨_,h⟩
        .exact V h
        .exact g2 j O S hk
        .omega
       .have O:j<cells.length:=by rw[<- hB.len];exact(qA.1 I).1
        have q:=qB O;obtain⟨_,T⟩:=f3 j _ u q J;rcases hB.get j _ q with⟨k,n,d,p⟩|⟨y,d,p⟩|⟨r,R,d,p,B,W⟩
        .rw [I]at p;cases p;rw[d]at T;exact T
        .rw [I]at p;cases p;rw[d]at T;exact T
        .rw [I]at B;cases B;rw[d]at T q;have d0:=T.2 R p;simp only[zZ,qC]at d0;refine⟨fun S=>?_,fun g3=>?_⟩
         .rcases W with⟨_,h5,_⟩|⟨h5,_⟩
          .have hr:=Y.rep r R p;rw[h5,d0]at hr;exact hr.weak (fun x g=>⟨S,by rw[zgE q];exact g⟩)
          .exact absurd S h5
         .rcases W with⟨h5,_⟩|⟨_,h5⟩
          .exact absurd h5 g3
          .have hjc:j<cs.length:=by rw[<- d3,hB.len];exact O
           have e2:=jH (show j<z.size by omega)
           have h0:=e1 (j+1) (.v (.at (.sl r []))) z[j] (by rw[htm,jP];exact h5) (by rw[z5m];exact e2)
           have c3:=h0.2 R p;simp only[zZ,qC]at c3;rw[e2,<- c3,d0]
       .obtain⟨a,q⟩:=d4 i (qA.1 I).1;rw[zgE q];exact zZF Y hG q I (hyv i a x q g)
       .obtain⟨r,R,_,S,d,p,B,W⟩:=b3 j x g;have:=d7 r R x d W;exact⟨Y.rlt r R d x W,this,d2 x ((Y.mine r R d p).2 x W) this⟩
       .obtain⟨a,r,R,q,_,d,_,_,B,W⟩:=b4 i x g;have:=d7 r R x d W;exact⟨Y.rlt r R d x W,this,d2 x (z4g hzz Y hG q B).1 this⟩
       .obtain⟨r,R,g1,S,d,p,B,W⟩:=b3 i x g;obtain⟨r',R',e9,g4,U,c5,a5,b2⟩:=b3 j x b0;have:=Y.own_apart d p U c5 W b2;subst this;exact V (hB.inj i j r S g4 g1 e9)
       .obtain⟨a,r,R,q,_,d,_,_,B,W⟩:=b4 i x g;obtain⟨b,r',R',a7,_,U,_,_,a5,b2⟩:=b4 j x b0;exact V (zZE Y hG q a7 hi S B a5)
       .obtain⟨r,R,g1,S,d,p,B,W⟩:=b3 i x g;obtain⟨b,r',R',a7,_,U,f4,g7,a5,b2⟩:=b4 j x b0
        by_cases e:r=r'
        .subst e;exact f7 r g7 B
        .exact Y.apart r R r' R' d p U f4 e x W b2
      .cases A
     .cases A
    .cases A
   .cases A)
 refine b6.mono ?_;intro ex w' he;cases ex with|returned v=>exact he|panicked e8=>exact he.elim|outgrown=>exact he.elim
end
def z0I (C:Cfg)(tms:FuncId->Nat->Option Tmpl)(N D:Nat)(f:FuncId)(own:List Bool)(a:List AV):Option Ans :=
 zvp C tms N (zru C tms N D) f ((zcK a 0).map .v) {tm:=[],lo:=[],ro:=zec own (a.flatMap AV.cvs) 0,stk:=[],nid:=(a.flatMap AV.cvs).length,ep:=0} fun b c=>zqn c b []
def zFh (C:Cfg)(tms:FuncId->Nat->Option Tmpl)(N D:Nat)(f:FuncId)(own:List Bool)(d e:Nat)(js:List (List Nat))(t:Ty)(a:List AV):Option Ans :=
 zvp C tms N (zru C tms N D) f ((zcK a 0).map .v) {tm:=[.v (.at (.kp d js t))],lo:=[],ro:=zec own (a.flatMap AV.cvs) 0,stk:=[],nid:=(a.flatMap AV.cvs).length,ep:=0} fun b c=>
  match c.tm,(b.flatMap zS)[e]? with
  |[.v (.at (.kp n J g))],some (.sl m [])=>cond (Nat.beq n m&&(J==js&&decide (g=t))) (zqn c b []) none
  |_,_=>none
section
variable {C:Cfg} {w0 w w1:World} {S0:zX} {U:Nat->Prop} {st st1:St} {E E1:Env} {ts:Array Value} {sv:List (Array Value)}
theorem zN3 (hO:EngOk C){f:FuncId}{own:List Bool}{b0:List AV->Option (Bool×List AV)}(hf:FnOk C.P f)(a4:zhs f=[[]])(h:∀(avs:List AV) (rs:List AV),own.length=(zA avs).length->(∃(w:World) (xs:Nat->Value) (K:Nat->zX),∀(j:Nat) (c:CV),(zA avs)[j]?=some c->Rep false w (xs j) c (K j))->b0 avs=some (true,rs)->∃tms N D,z0I C tms N D f own avs=some rs)(z:own.isEmpty=false:=by rfl):zdR C.P f own none b0:=by
 refine zdR.of (by rintro rfl;cases z) ?_;intro al a3;rw[a4,qF]at a3;subst a3;refine⟨hf,fun w K avs xs rs a9 c3 G a2 a1 _ a8=>?_⟩;have b6:=fun i j x hi hj Q z=>a1 i j x hi hj Q z (by simp)
 obtain⟨tms,N,D,a0⟩:=h avs rs c3 ⟨w,fun j=>(xs[j]?).getD undef,K,fun j c Z=>by
  have c1:=(qA.1 Z).1;have W:=qB (show j<xs.length by rw[a9];exact c1)
  simp only[W,jZ];exact(G j c _ Z W).ro⟩ a8
 unfold z0I at a0;generalize q:({tm:=[],lo:=[],ro:=zec own (avs.flatMap AV.cvs) 0,stk:=[],nid:=(avs.flatMap AV.cvs).length,ep:=0}:St)=st at a0;have a7:st.ro=zec own (zA avs) 0:=(by rw[<- q];rfl);have d:∀r R,zl st.ro r=some R->R.ep=none/\r<(zA avs).length/\own[r]?=some R.own/\(zA avs)[r]?=some (.s R.t R.l):=(by intro r R y;rw[a7]at y;obtain⟨_,t,l,A,_,_,h5,h6⟩:=zkk own (zA avs) 0 r R y;rw[h6]at h5 ⊢;simp only[vH]at A h5;exact⟨rfl,(qA.1 A).1,h5,A⟩);have O:∀l,zl st.lo l=none:=fun l=>(by rw[<- q];rfl);let E:Env:={ρ:=fun n=>(xs[n]?).getD undef,φ:=K,β:=fun _=>0,κ:=w}
 let S0:zX:=fun b=>(∃j,j<(zA avs).length/\zbb own j/\K j b)\/b=w.heap.size
 have hS:Sim w S0 (fun n=>n<(zA avs).length) st E #[] [] w:=by refine⟨⟨rfl,rfl,rfl,qZ _,fun _ _ _=>rfl,fun r R y=>?_,fun r R y x g=>?_,fun r R y Q=>?_,fun hz _ _ _ _ _ _=>absurd (.inr rfl) hz,fun r R r' R' y Q b7 _ z x g=>?_,fun l cs V=>?_,fun l l' cs d3 V=>?_,fun l cs r R V=>?_,fun r R e y U=>?_,rfl⟩,⟨fun n R H=>?_,fun n cs H=>?_,fun m B=>?_,fun f hf=>?_⟩,⟨?_,fun i m v B=>?_⟩,?_⟩;{obtain⟨_,F,A,h3⟩:=d r R (zbw y).1;have W:=qB (show r<xs.length by omega);show Rep R.own w ((xs[r]?).getD undef) _ (K r);have:=G r _ _ h3 W;rw[A] at this;rw[W];exact this};{obtain⟨_,F,_,_⟩:=d r R (zbw y).1;exact a2 r x F g};{obtain⟨U,F,A,_⟩:=d r R (zbw y).1;refine⟨U,fun x g=>.inl (.inl ⟨r,F,?_,g⟩)⟩;show own[r]?=some true;rw[A,Q]};{obtain⟨_,F,A,_⟩:=d r R (zbw y).1;obtain⟨_,X,_,_⟩:=d r' R' (zbw b7).1;exact b6 r r' x F X (by show own[r]?=some true;rw[A,Q]) z g};{rw [O]at V;cases V};{rw [O]at V;cases V};{rw [O]at V;cases V};{rw [(d r R y).1]at U;cases U};{exact(d n R H).2.1};{rw [O]at H;cases H};{rw [<- q]at B;simp at B};{rw [<- q]at hf;simp at hf};{rw [<- q];rfl};{rw [<- q]at B;simp at B};{rw [<- q];trivial}
 obtain⟨b9,c0⟩:=zge (w:=w) (st:=st) (E:=E) avs xs 0 a9 (fun i c u Z W=>by
  have S:=G i c u Z W;refine⟨?_,S.one⟩;cases c with
  |i k n=>exact S.int_inv
  |b x=>exact S.bool_inv
  |s t l=>
   obtain⟨⟨a,b1,hv,_⟩,_⟩:=S.len;refine⟨⟨a,_,b1,hv⟩,fun R y=>?_⟩;have e:0+i=i:=by omega
   show some ((xs[0+i]?).getD undef)=some u
   rw[e,W];rfl)
 have d2:st.nid=(zA avs).length:=by rw[<- q];rfl
 obtain⟨_,M⟩:=zjP hO (zii hO (tms:=tms) (N:=N) D) f _ st _ rs a0 w S0 _ E #[] [] w (zbQ avs xs).toArray
  (fun v I=>I.os=w.os/\I.tape=w.tape/\I.output=w.output/\w.heap.size<=I.heap.size/\
   (∀b,b<w.heap.size->(∀j,j<(zA avs).length->zbb own j->¬ K j b)->I.heap[b]?=w.heap[b]?)/\
   ∃(ys:List Value) (Kr:Nat->zX),zdf true I (zA rs) ys Kr/\v=zjb (zbQ rs ys)/\
    (∀i x,i<(zA rs).length->Kr i x->x<I.heap.size/\((∃j,j<(zA avs).length/\zbb own j/\K j x)\/w.heap.size<=x))/\
    (∀i j x,i<(zA rs).length->j<(zA rs).length->i≠j->Kr i x->¬ Kr j x)/\
    (∀ja jr js,(none:Option (Nat×Nat×List (List Nat)))=some (ja,jr,js)->∀t l u,(zA avs)[ja]?=some (.s t l)->xs[ja]?=some u->∃l',(zA rs)[jr]?=some (.s t l')/\ys[jr]?=some u/\
     ∀p v,zZ w t u p=some v->js.any (fun c=>c.isPrefixOf (cols p))=false->zZ I t u p=some v)) hS (fun n H h=>by omega)
  (by simp[b9]) (fun i m v B hv=>by
   rw[qP]at B;cases g:(zcK avs 0)[i]? with
   |none=>rw[g]at B;cases B
   |some x=>rw[g]at B;cases B;exact c0 i x v g (by simpa using hv))
  (fun m B n H=>by
   obtain⟨x,g,rfl⟩:=jD.1 B;simp only[MV.ids,zbA,qN]at H;obtain⟨a,T,H⟩:=H;have:=(zeH avs 0 n x a g T H).2;omega)
  (fun U' d0 E' I d1 v b8 _ _ _ hv _ a5=>by
   obtain⟨us,rfl,c5,c6⟩:=zzm hv;obtain⟨J,ys,ks,hG,c8,c9,rfl,_⟩:=zhS d1 [] rs us a5 c5 c6;have L:=b8.mem;have a6:∀i,i<(zA rs).length->∃a,J[i]?=some a:=fun i hi=>⟨_,qB (by rw[<- hG.len];exact hi)⟩
   have Y:∀i x,cφ E' J i x->∃r∈ks,∃R,J[i]?=some (.sl r [])/\d0.root r=some R/\R.own=true/\E'.φ r x:=by intro i x g;obtain⟨a,T,g⟩:=ztT g;obtain⟨r,S,rfl,c4⟩:=hG.fi T g;obtain⟨R,y,Q⟩:=hG.own r S;exact⟨r,S,R,T,y,Q,c4⟩
   refine⟨L.os,L.tape,L.output,L.size,fun b hb c2=>L.keep b hb (fun h=>h.elim (fun⟨j,hj,Q,hk⟩=>c2 j hj Q hk) (fun h=>by omega)),ys,cφ E' J,⟨by rw[c8,hG.len],fun i c x Z g=>?_⟩,rfl,fun i x hi g=>?_,fun i j x hi hj z g c7=>?_,fun ja jr js h=>by cases h⟩
   .obtain⟨a,T⟩:=a6 i (qA.1 Z).1;rw[zgE T];exact hG.rep L T Z (c9 i a x T g)
   .obtain⟨r,S,R,_,F,A,h4⟩:=Y i x g;exact⟨L.rlt r R F x h4,((L.mine r R F A).2 x h4).elim (fun h=>h.imp (fun h=>h) (fun h=>kX h.symm)) .inr⟩
   .obtain⟨r,S,R,g1,F,A,h4⟩:=Y i x g;obtain⟨r',d4,R',b3,X,b4,b5⟩:=Y j x c7;have:=L.own_apart F A X b4 h4 b5;subst this;exact z (hG.inj i j r g1 b3))
 refine M.mono ?_;intro ex I U;cases ex with|returned v=>exact U|panicked b2=>exact U.elim|outgrown=>exact U.elim
theorem zk9 (hO:EngOk C){f:FuncId}{own:List Bool}{B jr:Nat}{js:List (List Nat)}{kt:Ty}{c4:List AV->Option (Bool×List AV)}(hf:FnOk C.P f)(b3:zhs f=[[]])(h:∀(avs:List AV) (rs:List AV),own.length=(zA avs).length->(∃(w:World) (xs:Nat->Value) (K:Nat->zX),∀(j:Nat) (c:CV),(zA avs)[j]?=some c->Rep false w (xs j) c (K j))->c4 avs=some (true,rs)->(∃l,(zA avs)[B]?=some (.s kt l))/\own[B]?=some true/\∃tms N D,zFh C tms N D f own B jr js kt avs=some rs)(F:own.isEmpty=false:=by rfl):zdR C.P f own (some (B,jr,js)) c4:=by
 refine zdR.of (by rintro rfl;cases F) ?_;intro al b2;rw[b3,qF]at b2;subst b2;refine⟨hf,fun w K avs xs rs a7 d8 G b0 a9 _ b9=>?_⟩;have c9:=fun i j x hi hj ho F=>a9 i j x hi hj ho F (by simp)
 obtain⟨⟨kl,Y⟩,f5,tms,N,D,a5⟩:=h avs rs d8 ⟨w,fun j=>(xs[j]?).getD undef,K,fun j c hc=>by
  have d5:=(qA.1 hc).1;have hu:=qB (show j<xs.length by rw[a7];exact d5)
  simp only[hu,jZ];exact(G j c _ hc hu).ro⟩ b9
 unfold zFh at a5;have b7:B<(zA avs).length:=(qA.1 Y).1;have d2:B<xs.length:=(by rw[a7];exact b7);have a6:=qB d2;generalize z:({tm:=[.v (.at (.kp B js kt))],lo:=[],ro:=zec own (avs.flatMap AV.cvs) 0,stk:=[],nid:=(avs.flatMap AV.cvs).length,ep:=0}:St)=st at a5;have b8:st.ro=zec own (zA avs) 0:=(by rw[<- z];rfl);have d:∀r R,zl st.ro r=some R->R.ep=none/\r<(zA avs).length/\own[r]?=some R.own/\(zA avs)[r]?=some (.s R.t R.l):=(by intro r R y;rw[b8]at y;obtain⟨_,t,l,H,_,_,h5,h6⟩:=zkk own (zA avs) 0 r R y;rw[h6]at h5 ⊢;simp only[vH]at H h5;exact⟨rfl,(qA.1 H).1,h5,H⟩);have Z:∀l,zl st.lo l=none:=fun l=>(by rw[<- z];rfl);let E:Env:={ρ:=fun n=>(xs[n]?).getD undef,φ:=K,β:=fun _=>0,κ:=w}
 let S0:zX:=fun b=>(∃j,j<(zA avs).length/\zbb own j/\K j b)\/b=w.heap.size
 have hS:Sim w S0 (fun n=>n<(zA avs).length) st E #[xs[B]] [] w:=by refine⟨⟨rfl,rfl,rfl,qZ _,fun _ _ _=>rfl,fun r R y=>?_,fun r R y x q=>?_,fun r R y ho=>?_,fun hz _ _ _ _ _ _=>absurd (.inr rfl) hz,fun r R r' R' y ho d0 _ F x q=>?_,fun l cs hl=>?_,fun l l' cs f4 hl=>?_,fun l cs r R hl=>?_,fun r R e y T=>?_,rfl⟩,⟨fun n R I=>?_,fun n cs I=>?_,fun m A=>?_,fun f hf=>?_⟩,⟨?_,fun i m v A U=>?_⟩,?_⟩;{obtain⟨_,O,H,h3⟩:=d r R (zbw y).1;have hu:=qB (show r<xs.length by omega);show Rep R.own w ((xs[r]?).getD undef) _ (K r);have:=G r _ _ h3 hu;rw[H] at this;rw[hu];exact this};{obtain⟨_,O,_,_⟩:=d r R (zbw y).1;exact b0 r x O q};{obtain⟨T,O,H,_⟩:=d r R (zbw y).1;refine⟨T,fun x q=>.inl (.inl ⟨r,O,?_,q⟩)⟩;show own[r]?=some true;rw[H,ho]};{obtain⟨_,O,H,_⟩:=d r R (zbw y).1;obtain⟨_,a3,_,_⟩:=d r' R' (zbw d0).1;exact c9 r r' x O a3 (by show own[r]?=some true;rw[H,ho]) F q};{rw [Z]at hl;cases hl};{rw [Z]at hl;cases hl};{rw [Z]at hl;cases hl};{rw [(d r R y).1]at T;cases T};{exact(d n R I).2.1};{rw [Z]at I;cases I};{rw [<- z]at A;simp only[qF]at A;subst A;intro n I;simp only[MV.ids,zbA,zS,j7,uE,At.ids,zbo,zbq,jC,qF]at I;subst I;exact b7};{rw [<- z]at hf;simp at hf};{rw [<- z];rfl};{rw [<- z]at A;cases i with|succ i=>simp at A|zero=>simp only[qH,qC]at A U;subst A;have U:xs[B]=v:=(by simpa using U);subst U;have Q:=G B _ _ Y a6;obtain⟨⟨a,a2,e9,_⟩,_⟩:=Q.len;refine⟨⟨a,_,a2,e9⟩,fun R y=>?_⟩;obtain⟨_,_,_,h4⟩:=d B R (zbw y).1;rw[Y]at h4;cases h4;refine⟨rfl,?_,fun p u hp _=>hp⟩;show (xs[B]?).getD undef=xs[B];rw[a6];rfl};{rw [<- z];trivial}
 obtain⟨d3,d4⟩:=zge (w:=w) (st:=st) (E:=E) avs xs 0 a7 (fun i c u hc hu=>by
  have Q:=G i c u hc hu;refine⟨?_,Q.one⟩;cases c with
  |i k n=>exact Q.int_inv
  |b x=>exact Q.bool_inv
  |s t l=>
   obtain⟨⟨a,a2,U,_⟩,_⟩:=Q.len;refine⟨⟨a,_,a2,U⟩,fun R y=>?_⟩;have e:0+i=i:=by omega
   show some ((xs[0+i]?).getD undef)=some u
   rw[e,hu];rfl)
 have f3:st.nid=(zA avs).length:=by rw[<- z];rfl
 obtain⟨_,W⟩:=zjP hO (zii hO (tms:=tms) (N:=N) D) f _ st _ rs a5 w S0 _ E #[xs[B]] [] w (zbQ avs xs).toArray
  (fun v V=>V.os=w.os/\V.tape=w.tape/\V.output=w.output/\w.heap.size<=V.heap.size/\
   (∀b,b<w.heap.size->(∀j,j<(zA avs).length->zbb own j->¬ K j b)->V.heap[b]?=w.heap[b]?)/\
   ∃(ys:List Value) (Kr:Nat->zX),zdf true V (zA rs) ys Kr/\v=zjb (zbQ rs ys)/\
    (∀i x,i<(zA rs).length->Kr i x->x<V.heap.size/\((∃j,j<(zA avs).length/\zbb own j/\K j x)\/w.heap.size<=x))/\
    (∀i j x,i<(zA rs).length->j<(zA rs).length->i≠j->Kr i x->¬ Kr j x)/\
    (∀a0 a1 a8,some (B,jr,js)=some (a0,a1,a8)->∀t l u,(zA avs)[a0]?=some (.s t l)->xs[a0]?=some u->∃l',(zA rs)[a1]?=some (.s t l')/\ys[a1]?=some u/\
     ∀p v,zZ w t u p=some v->a8.any (fun c=>c.isPrefixOf (cols p))=false->zZ V t u p=some v)) hS (fun n I h=>by omega)
  (by simp[d3]) (fun i m v A U=>by
   rw[qP]at A;cases q:(zcK avs 0)[i]? with
   |none=>rw[q]at A;cases A
   |some x=>rw[q]at A;cases A;exact d4 i x v q (by simpa using U))
  (fun m A n I=>by
   obtain⟨x,q,rfl⟩:=jD.1 A;simp only[MV.ids,zbA,qN]at I;obtain⟨a,L,I⟩:=I;have:=(zeH avs 0 n x a q L I).2;omega)
  (fun U' f1 E' V f2 v b1 _ _ _ U _ g=>by
   obtain⟨us,rfl,e7,e8⟩:=zzm U;split at g
   rotate_left
   .cases g
   rename_i n J t' m e5 d9;cases X:(Nat.beq n m&&(J==js&&decide (t'=kt))) with
   |false=>rw[X]at g;cases g
   |true=>
   rw[X]at g;simp only[cond_true]at g;simp only[qD,kO,qK,q0]at X;obtain⟨d7,hJ,ht⟩:=X;subst d7 hJ ht;obtain⟨M,ys,ks,hG,c1,c3,rfl,_,b4⟩:=zhS f2 [] rs us g e7 e8;have S:=b1.mem;have b6:∀i,i<(zA rs).length->∃a,M[i]?=some a:=fun i hi=>⟨_,qB (by rw[<- hG.len];exact hi)⟩
   have a4:∀i x,cφ E' M i x->∃r∈ks,∃R,M[i]?=some (.sl r [])/\f1.root r=some R/\R.own=true/\E'.φ r x:=by intro i x q;obtain⟨a,L,q⟩:=ztT q;obtain⟨r,Q,rfl,e0⟩:=hG.fi L q;obtain⟨R,y,ho⟩:=hG.own r Q;exact⟨r,Q,R,L,y,ho,e0⟩
   refine⟨S.os,S.tape,S.output,S.size,fun b hb d6=>S.keep b hb (fun h=>h.elim (fun⟨j,hj,ho,hk⟩=>d6 j hj ho hk) (fun h=>by omega)),ys,cφ E' M,⟨by rw[c1,hG.len],fun i c x hc q=>?_⟩,rfl,fun i x hi q=>?_,fun i j x hi hj F q f0=>?_,fun a0 a1 a8 T t l u b5 c0=>?_⟩
   .obtain⟨a,L⟩:=b6 i (qA.1 hc).1;rw[zgE L];exact hG.rep S L hc (c3 i a x L q)
   .obtain⟨r,Q,R,_,O,H,h4⟩:=a4 i x q;exact⟨S.rlt r R O x h4,((S.mine r R O H).2 x h4).elim (fun h=>h.imp (fun h=>h) (fun h=>kX h.symm)) .inr⟩
   .obtain⟨r,Q,R,g1,O,H,h4⟩:=a4 i x q;obtain⟨r',f6,R',c6,a3,c7,c8⟩:=a4 j x f0;have:=S.own_apart O H a3 c7 h4 c8;subst this;exact F (hG.inj i j r g1 c6)
   .cases T;rw[Y]at b5;cases b5;rw[a6]at c0;cases c0;have L:M[jr]?=some (.sl n []):=by rw[b4];exact d9
    rcases hG.get jr _ L with⟨_,_,h,_⟩|⟨_,h,_⟩|⟨r,R,h,y,_,d1⟩
    .cases h
    .cases h
    .cases h;have e6:=b1.tm.2 0 (.v (.at (.kp n J t'))) xs[B] (by rw[e5];rfl) (by simp)
     obtain⟨e1,e2,e3⟩:=e6.2 R y;have c2:jr<ys.length:=by rw[c1];exact(qA.1 L).1
     have hy:=qB c2;have e4:=(c3 jr _ _ L hy).2 R y;simp only[zZ,qC] at e4;refine⟨e1 ▸ R.l,?_,by rw[hy,<- e4,e2],?_⟩
     .rw [d1];cases e1;rfl
     .rw [S.κ] at e3;exact e3)
 refine W.mono ?_;intro ex V T;cases ex with|returned v=>exact T|panicked c5=>exact T.elim|outgrown=>exact T.elim
def zTQ (b:List (Nat×Nat)):At->At
 |.sl r []=>match b.find? (fun x=>Nat.beq x.1 r) with
  |some x=>.sl x.2 []
  |none=>.sl r []
 |a=>a
def zTv (C:Cfg)(tms:FuncId->Nat->Option Tmpl)(N D:Nat)(f:FuncId)(own:List Bool)(b:List (Nat×Nat))(d e:Nat)(js:List (List Nat))(t:Ty)(a:List AV):Option Ans :=
 zvp C tms N (zru C tms N D) f (((zcK a 0).map .v).map (zi6 (zTQ b))) {tm:=[.v (.at (.kp d js t))],lo:=[],ro:=(zec own (a.flatMap AV.cvs) 0).filter (fun x=>!b.any (fun y=>Nat.beq y.1 x.1)),stk:=[],nid:=(a.flatMap AV.cvs).length,ep:=0} fun c st=>
  match st.tm,(c.flatMap zS)[e]? with
  |[.v (.at (.kp n J g))],some (.sl m [])=>cond (Nat.beq n m&&(J==js&&decide (g=t))) (zqn st c []) none
  |_,_=>none
def zWo (a:At):Prop:=(∃k n,a = .i k n)\/(∃b,a = .b b)\/∃r,a = .sl r []
theorem zs3:∀(cs:List CV) (id:Nat) (a:At),a∈zgf cs id->zWo a
 |[],_,_,h=>by simp[zgf]at h
 |.i k n::cs,id,a,h=>by simp only[zgf,qG]at h;rcases h with rfl|h;{exact .inl ⟨k,n,rfl⟩};{exact zs3 cs (id+1) a h}
 |.b x::cs,id,a,h=>by simp only[zgf,qG]at h;rcases h with rfl|h;{exact .inr (.inl ⟨x,rfl⟩)};{exact zs3 cs (id+1) a h}
 |.s t l::cs,id,a,h=>by simp only[zgf,qG]at h;rcases h with rfl|h;{exact .inr (.inr ⟨id,rfl⟩)};{exact zs3 cs (id+1) a h}
theorem zxc:∀(rs:List AV) (id:Nat) (x:TV) (a:At),x∈zcK rs id->a∈zS x->zWo a
 |[],_,_,_,h,_=>by simp[zcK]at h
 |.one c::rs,id,x,a,h,d=>by simp only[zcK,qG]at h;rcases h with rfl|h;{simp only [zS,qF]at d;subst d;cases c with|i k n=>exact .inl ⟨k,n,rfl⟩|b x=>exact .inr (.inl ⟨x,rfl⟩)|s t l=>exact .inr (.inr ⟨id,rfl⟩)};{exact zxc rs (id+1) x a h d}
 |.agg e::rs,id,x,a,h,d=>by simp only[zcK,qG]at h;rcases h with rfl|h;{exact zs3 e id a d};{exact zxc rs (id+e.length) x a h d}
theorem zbaA {w1:World}{st1:St}{E1:Env}{w:World}{st:St}{E:Env}{f:At->At}{P:At->Prop}(T:∀a v,P a->VA w st E a v->VA w1 st1 E1 (f a) v){x:TV}{v:Value}(g:∀a∈zS x,P a)(h:VT w st E x v):VT w1 st1 E1 (zqF f x) v:=by rcases x with a|l;{exact T a v (g a (by simp[zS])) h};{obtain⟨n,k,m,e⟩:=h;refine⟨n,k,by simp[m],fun j a u c i=>?_⟩;rw[qP]at c;cases d:l[j]? with|none=>rw[d]at c;cases c|some b=>rw[d]at c;cases c;exact⟨(e j b u d i).1,T _ _ (g b (by simp only[zS];exact qI d)) (e j b u d i).2⟩}
theorem z5i {b:List (Nat×Nat)}{a:At}{n:Nat}(h:n∈(zTQ b a).ids):n∈a.ids\/∃r,(r,n)∈b:=by unfold zTQ at h;split at h;{split at h;{rename_i r x c;simp only[At.ids,zbo,zbq,jC,qF]at h;subst h;exact .inr ⟨x.1,uM c⟩};{exact .inl h}};{exact .inl h}
theorem zqm {d:Type}(q:Nat->Bool):∀(l:List (Nat×d)) (n:Nat) (x:d),zl (l.filter (fun y=>q y.1)) n=some x->q n=true/\zl l n=some x
 |[],_,_,h=>by simp[zl]at h
 |(k,v)::l,n,x,h=>by cases b:q k with|false=>rw[List.filter_cons_of_neg (by simp[b])]at h;obtain⟨c,e⟩:=zqm q l n x h;refine⟨c,?_⟩;simp only[zl];(cases a:k==n with|false=>exact e|true=>have:k=n:=(by simpa using a);subst this;rw[b]at c;cases c)|true=>rw[List.filter_cons_of_pos (by simp[b])]at h;simp only[zl]at h ⊢;(cases a:k==n with|false=>rw[a]at h;exact zqm q l n x (by simpa using h)|true=>rw[a]at h;have:k=n:=(by simpa using a);subst this;exact⟨b,by simpa using h⟩)
theorem zN2 (hO:EngOk C){f:FuncId}{own:List Bool}{I jr:Nat}{js:List (List Nat)}{kt:Ty}{c9:List AV->Option (Bool×List AV)}(hf:FnOk C.P f)(h:∀(T:List (Nat×Nat)) (avs:List AV) (rs:List AV),T∈zhs f->(∀j i,(j,i)∈T->(zA avs)[j]?=(zA avs)[i]?)->own.length=(zA avs).length->(∃(w:World) (xs:Nat->Value) (K:Nat->zX),∀(j:Nat) (c:CV),(zA avs)[j]?=some c->Rep false w (xs j) c (K j))->c9 avs=some (true,rs)->(∃l,(zA avs)[I]?=some (.s kt l))/\own[I]?=some true/\∃tms N D,zTv C tms N D f own T I jr js kt avs=some rs)(W:own.isEmpty=false:=by rfl):zdR C.P f own (some (I,jr,js)) c9:=by
 refine zdR.of (by rintro rfl;cases W) ?_
 intro T d4;refine⟨hf,fun w K avs xs rs b1 f0 O b5 b4 V c3=>?_⟩;obtain⟨⟨kl,a1⟩,g6,tms,N,D,a9⟩:=h T avs rs d4 (fun j i d7=>(V j i d7).2.2.2.1) f0 ⟨w,fun j=>(xs[j]?).getD undef,K,fun j c hc=>by
  have e5:=(qA.1 hc).1;have hu:=qB (show j<xs.length by rw[b1];exact e5)
  simp only[hu,jZ];exact(O j c _ hc hu).ro⟩ c3
 unfold zTv at a9;have c1:I<(zA avs).length:=(qA.1 a1).1;have d8:I<xs.length:=(by rw[b1];exact c1);have b0:=qB d8;generalize F:({tm:=[.v (.at (.kp I js kt))],lo:=[],ro:=(zec own (avs.flatMap AV.cvs) 0).filter (fun x=>!T.any (fun y=>Nat.beq y.1 x.1)),stk:=[],nid:=(avs.flatMap AV.cvs).length,ep:=0}:St)=st at a9;have a5:st.ro=(zec own (zA avs) 0).filter (fun x=>!T.any (fun y=>Nat.beq y.1 x.1)):=(by rw[<- F];rfl);have e7:∀r R,zl st.ro r=some R->∀i,(r,i)∉T:=(by intro r R q i hi;rw[a5]at q;have:=(zqm (fun n=>!T.any (fun y=>Nat.beq y.1 n)) _ r R q).1;simp only[jE,kP] at this;exact this _ hi (Nat.beq_refl r));have d:∀r R,zl st.ro r=some R->R.ep=none/\r<(zA avs).length/\own[r]?=some R.own/\(zA avs)[r]?=some (.s R.t R.l):=(by intro r R q;rw[a5]at q;obtain⟨_,t,l,A,_,_,h5,h6⟩:=zkk own (zA avs) 0 r R (zqm (fun n=>!T.any (fun y=>Nat.beq y.1 n)) _ r R q).2;rw[h6]at h5 ⊢;simp only[vH]at A h5;exact⟨rfl,(qA.1 A).1,h5,A⟩);have a2:∀l,zl st.lo l=none:=fun l=>(by rw[<- F];rfl);let E:Env:={ρ:=fun n=>(xs[n]?).getD undef,φ:=K,β:=fun _=>0,κ:=w}
 let S0:zX:=fun b=>(∃j,j<(zA avs).length/\zbb own j/\K j b)\/b=w.heap.size
 have hS:Sim w S0 (fun n=>n<(zA avs).length) st E #[xs[I]] [] w:=(by refine⟨⟨rfl,rfl,rfl,qZ _,fun _ _ _=>rfl,fun r R q=>?_,fun r R q x g=>?_,fun r R q ho=>?_,fun hz _ _ _ _ _ _=>absurd (.inr rfl) hz,fun r R r' R' q ho b6 _ W x g=>?_,fun l cs hl=>?_,fun l l' cs g5 hl=>?_,fun l cs r R hl=>?_,fun r R e q S=>?_,rfl⟩,⟨fun n R L=>?_,fun n cs L=>?_,fun m B=>?_,fun f hf=>?_⟩,⟨?_,fun i m v B H=>?_⟩,?_⟩;{obtain⟨_,Q,A,h3⟩:=d r R (zbw q).1;have hu:=qB (show r<xs.length by omega);show Rep R.own w ((xs[r]?).getD undef) _ (K r);have:=O r _ _ h3 hu;rw[A] at this;rw[hu];exact this};{obtain⟨_,Q,_,_⟩:=d r R (zbw q).1;exact b5 r x Q g};{obtain⟨S,Q,A,_⟩:=d r R (zbw q).1;refine⟨S,fun x g=>.inl (.inl ⟨r,Q,?_,g⟩)⟩;show own[r]?=some true;rw[A,ho]};{obtain⟨_,Q,A,_⟩:=d r R (zbw q).1;obtain⟨_,a7,_,_⟩:=d r' R' (zbw b6).1;exact b4 r r' x Q a7 (by show own[r]?=some true;rw[A,ho]) W (e7 r' R' (zbw b6).1 r) g};{rw [a2]at hl;cases hl};{rw [a2]at hl;cases hl};{rw [a2]at hl;cases hl};{rw [(d r R q).1]at S;cases S};{exact(d n R L).2.1};{rw [a2]at L;cases L};{rw [<- F]at B;simp only[qF]at B;subst B;intro n L;simp only[MV.ids,zbA,zS,j7,uE,At.ids,zbo,zbq,jC,qF]at L;subst L;exact c1};{rw [<- F]at hf;simp at hf};{rw [<- F];rfl};{rw [<- F]at B;cases i with|succ i=>simp at B|zero=>simp only[qH,qC]at B H;subst B;have H:xs[I]=v:=(by simpa using H);subst H;have M:=O I _ _ a1 b0;obtain⟨⟨a,a6,f8,_⟩,_⟩:=M.len;refine⟨⟨a,_,a6,f8⟩,fun R q=>?_⟩;obtain⟨_,_,_,h4⟩:=d I R (zbw q).1;rw[a1]at h4;cases h4;refine⟨rfl,?_,fun p u hp _=>hp⟩;show (xs[I]?).getD undef=xs[I];rw[b0];rfl};{rw [<- F];trivial});let b3:St:={st with ro:=(List.range (zA avs).length).map (fun r=>(r,(⟨.int,[],false,none⟩:Root))),ep:=0}
 have c4:∀r,r<(zA avs).length->b3.root r=some ⟨.int,[],false,none⟩:=by intro r M;have:∀(n k:Nat),k<=r->r<k+n->zl ((List.range' k n).map (fun r=>(r,(⟨.int,[],false,none⟩:Root)))) r=some ⟨.int,[],false,none⟩:=(by intro n;induction n with|zero=>intro k Q A;omega|succ n ih=>intro k Q A;simp only[u1,jB,zl];by_cases S:k=r;{subst S;simp};{have hb:(k==r)=false:=(by simpa using S);simp only[hb,kB,if_false];exact ih (k+1) (by omega) (by omega)});have A:=this (zA avs).length 0 (jX _) (by omega);rw[<- u4]at A;exact zgN A (.inl rfl)
 obtain⟨d9,e0⟩:=zge (w:=w) (st:=b3) (E:=E) avs xs 0 b1 (fun i c u hc hu=>by
  have M:=O i c u hc hu;refine⟨?_,M.one⟩;cases c with
  |i k n=>exact M.int_inv
  |b x=>exact M.bool_inv
  |s t l=>
   obtain⟨⟨a,a6,H,_⟩,_⟩:=M.len;refine⟨⟨a,_,a6,H⟩,fun R q=>?_⟩;have e:0+i=i:=by omega
   show some ((xs[0+i]?).getD undef)=some u
   rw[e,hu];rfl)
 have hT:∀a v,(zWo a/\∀n∈a.ids,n<(zA avs).length)->VA w b3 E a v->VA w st E (zTQ T a) v:=(by intro a v ⟨f1,d6⟩ H;have c2:∀r,∀i,(r,i)∈T->E.ρ i=E.ρ r:=(by intro r i hi;show (xs[i]?).getD undef=(xs[r]?).getD undef;rw[(V r i hi).2.2.1]);rcases f1 with⟨k,n,rfl⟩|⟨b,rfl⟩|⟨r,rfl⟩;{exact H};{exact H};{have M:r<(zA avs).length:=d6 r (by simp[At.ids,zbo]);have e1:=H.2 _ (c4 r M);simp only[zZ,qC] at e1;simp only[zTQ];split;{rename_i x g;have B:=uM g;have g0:x.1=r:=kJ (by simpa using List.find?_some g);subst g0;refine⟨H.1,fun R _=>?_⟩;simp only[zZ,qC];rw[c2 x.1 x.2 B];exact e1};{refine⟨H.1,fun R _=>?_⟩;simp only[zZ,qC];exact e1}});have g4:st.nid=(zA avs).length:=by rw[<- F];rfl
 obtain⟨_,Z⟩:=zjP hO (zii hO (tms:=tms) (N:=N) D) f _ st _ rs a9 w S0 _ E #[xs[I]] [] w (zbQ avs xs).toArray
  (fun v Y=>Y.os=w.os/\Y.tape=w.tape/\Y.output=w.output/\w.heap.size<=Y.heap.size/\
   (∀b,b<w.heap.size->(∀j,j<(zA avs).length->zbb own j->¬ K j b)->Y.heap[b]?=w.heap[b]?)/\
   ∃(ys:List Value) (Kr:Nat->zX),zdf true Y (zA rs) ys Kr/\v=zjb (zbQ rs ys)/\
    (∀i x,i<(zA rs).length->Kr i x->x<Y.heap.size/\((∃j,j<(zA avs).length/\zbb own j/\K j x)\/w.heap.size<=x))/\
    (∀i j x,i<(zA rs).length->j<(zA rs).length->i≠j->Kr i x->¬ Kr j x)/\
    (∀a3 a4 b2,some (I,jr,js)=some (a3,a4,b2)->∀t l u,(zA avs)[a3]?=some (.s t l)->xs[a3]?=some u->∃l',(zA rs)[a4]?=some (.s t l')/\ys[a4]?=some u/\
     ∀p v,zZ w t u p=some v->b2.any (fun c=>c.isPrefixOf (cols p))=false->zZ Y t u p=some v)) hS (fun n L h=>by omega)
  (by simp[d9]) (fun i m v B H=>by
   rw[qP,qP]at B;cases g:(zcK avs 0)[i]? with
   |none=>rw[g]at B;cases B
   |some x=>
    rw[g]at B;cases B;exact zbaA hT (fun a G=>⟨zxc avs 0 x a (qI g) G,fun n L=>by
     have:=(zeH avs 0 n x a (qI g) G L).2;omega⟩) (e0 i x v g (by simpa using H)))
  (fun m B n L=>by
   obtain⟨m0,e6,rfl⟩:=jD.1 B;obtain⟨x,g,rfl⟩:=jD.1 e6;obtain⟨a,G,L⟩:=zRj L;simp only[zbA]at G;rcases z5i L with h|⟨r,h⟩
   .have:=(zeH avs 0 n x a g G h).2;omega
   .obtain⟨_,_,_,_,t,l,h5⟩:=V r n h;exact(qA.1 h5).1)
  (fun U' g2 E' Y g3 v b7 _ _ _ H _ z=>by
   obtain⟨us,rfl,f6,f7⟩:=zzm H;split at z
   rotate_left
   .cases z
   rename_i n J t' m f4 f2;cases a0:(Nat.beq n m&&(J==js&&decide (t'=kt))) with
   |false=>rw[a0]at z;cases z
   |true=>
   rw[a0]at z;simp only[cond_true]at z;simp only[qD,kO,qK,q0]at a0;obtain⟨e9,hJ,ht⟩:=a0;subst e9 hJ ht;obtain⟨U,ys,ks,hG,c6,c8,rfl,_,b8⟩:=zhS g3 [] rs us z f6 f7;have X:=b7.mem;have c0:∀i,i<(zA rs).length->∃a,U[i]?=some a:=fun i hi=>⟨_,qB (by rw[<- hG.len];exact hi)⟩
   have a8:∀i x,cφ E' U i x->∃r∈ks,∃R,U[i]?=some (.sl r [])/\g2.root r=some R/\R.own=true/\E'.φ r x:=by intro i x g;obtain⟨a,G,g⟩:=ztT g;obtain⟨r,M,rfl,f3⟩:=hG.fi G g;obtain⟨R,q,ho⟩:=hG.own r M;exact⟨r,M,R,G,q,ho,f3⟩
   refine⟨X.os,X.tape,X.output,X.size,fun b hb e8=>X.keep b hb (fun h=>h.elim (fun⟨j,hj,ho,hk⟩=>e8 j hj ho hk) (fun h=>by omega)),ys,cφ E' U,⟨by rw[c6,hG.len],fun i c x hc g=>?_⟩,rfl,fun i x hi g=>?_,fun i j x hi hj W g f9=>?_,fun a3 a4 b2 S t l u b9 c5=>?_⟩
   .obtain⟨a,G⟩:=c0 i (qA.1 hc).1;rw[zgE G];exact hG.rep X G hc (c8 i a x G g)
   .obtain⟨r,M,R,_,Q,A,h4⟩:=a8 i x g;exact⟨X.rlt r R Q x h4,((X.mine r R Q A).2 x h4).elim (fun h=>h.imp (fun h=>h) (fun h=>kX h.symm)) .inr⟩
   .obtain⟨r,M,R,g1,Q,A,h4⟩:=a8 i x g;obtain⟨r',g7,R',d1,a7,d2,d3⟩:=a8 j x f9;have:=X.own_apart Q A a7 d2 h4 d3;subst this;exact W (hG.inj i j r g1 d1)
   .cases S;rw[a1]at b9;cases b9;rw[b0]at c5;cases c5;have G:U[jr]?=some (.sl n []):=by rw[b8];exact f2
    rcases hG.get jr _ G with⟨_,_,h,_⟩|⟨_,h,_⟩|⟨r,R,h,q,_,d5⟩
    .cases h
    .cases h
    .cases h;have f5:=b7.tm.2 0 (.v (.at (.kp n J t'))) xs[I] (by rw[f4];rfl) (by simp)
     obtain⟨e1,e2,e3⟩:=f5.2 R q;have c7:jr<ys.length:=by rw[c6];exact(qA.1 G).1
     have hy:=qB c7;have e4:=(c8 jr _ _ G hy).2 R q;simp only[zZ,qC] at e4;refine⟨e1 ▸ R.l,?_,by rw[hy,<- e4,e2],?_⟩
     .rw [d5];cases e1;rfl
     .rw [X.κ] at e3;exact e3)
 refine Z.mono ?_;intro ex Y S;cases ex with|returned v=>exact S|panicked d0=>exact S.elim|outgrown=>exact S.elim
end
def zbl (h:Host):List CV:=[.s (.sl .int) h.Memory,.s .mon h.Mons,.s .entry h.Buffer,.s .entry h.IoBuffer]
def znM (c:Ctl):List CV:=[.i .i64 c.Traps,.i .i64 c.Post,.b c.Open]
def zft (e:GExit):List CV:=[.i .i64 e.Kind,.i .i64 e.Page,.b e.Write,.i .i64 e.N]
structure Cur where
 b:List Int
 i:Int
 h:Int
def zbS (c:Cur):List CV:=[.s .u8 c.b,.i .i64 c.i,.i .i64 c.h]
def zq:List (Nat×Nat×Tmpl)->FuncId->Nat->Option Tmpl
 |[],_,_=>none
 |(g,c,T)::r,f,b=>cond (Nat.beq g f) (cond (Nat.beq c b) (some T) (zq r f b)) (zq r f b)
def pc (p:Prop):Bool:=@decide p (Classical.propDecidable p)
theorem zL {p:Prop}:pc p=true↔p:=by unfold pc;exact @decide_eq_true_iff p (Classical.propDecidable p)
theorem zbg {p:Prop}(h:p):pc p=true:=zL.2 h
inductive CVB (K:Nat):CV->Prop
 |i (k:IntKind) (n:Int):CVB K (.i k n)
 |b (x:Bool):CVB K (.b x)
 |s (t:Ty) (l:List t.den) (hl:l.length<=K) (h:∀x∈l,∀c∈t.cells x,CVB K c):CVB K (.s t l)
theorem CVB.inv {K:Nat}{t:Ty}{l:List t.den}(h:CVB K (.s t l)):l.length<=K/\∀x∈l,∀c∈t.cells x,CVB K c:=by cases h with|s _ _ a h=>exact⟨a,h⟩
theorem CVB.len {K:Nat}{t:Ty}{l:List t.den}(h:CVB K (.s t l)):l.length<=K:=h.inv.1
theorem CVB.mono {K L:Nat}(a:K<=L){c:CV}(h:CVB K c):CVB L c:=by induction h with|i k n=>exact .i k n|b x=>exact .b x|s t l d h e=>exact .s t l (qU d a) e
theorem CVB.of_rep {o:Bool}{w:World}{v:Value}{c:CV}{S:zX}(h:Rep o w v c S):CVB big c:=by
 induction h with
 |i k n S=>exact .i k n
 |b x S=>exact .b x
 |nil t S=>exact .s t [] (jX _) (fun x h=>by cases h)
 |void t a S I=>exact .s t [] (jX _) (fun x h=>by cases h)
 |sl t l b D r q e E V K S G u d g A F p m J H C=>refine .s t l d (fun x B c f=>?_);obtain⟨i,y⟩:=qT.1 B;obtain⟨j,z⟩:=qT.1 f;exact C i x y j c z
theorem CVB.of_ok {c:CV}(h:CVOk c):CVB big c:=by induction h with|i k n _=>exact .i k n|b x=>exact .b x|s t l f h m=>refine .s t l f (fun x g c a=>?_);obtain⟨i,d⟩:=qT.1 g;obtain⟨j,e⟩:=qT.1 a;exact m i x d j c e
def zb6 (K:Nat)(avs:List AV):Prop:=∀c∈zA avs,CVB K c
theorem zdg {K:Nat}{a:AV}{avs:List AV}(h:zb6 K (a::avs)):(∀c∈a.cvs,CVB K c)/\zb6 K avs:=by unfold zb6 zA at *;simp only[j7,jJ]at h;exact⟨fun c b=>h c (.inl b),fun c b=>h c (.inr b)⟩
theorem zXz {avs:List AV}(h:∃w xs,zdf false w (zA avs) xs (fun _ b=>b<w.heap.size)):zb6 big avs:=by obtain⟨w,xs,e,f⟩:=h;intro c g;obtain⟨i,d⟩:=qT.1 g;have a:i<xs.length:=(by rw[e];exact(qA.1 d).1);exact CVB.of_rep (f i c _ d (qB a))
theorem zkj {cs:List CV}{avs:List AV}(h:∃(w:World) (xs:Nat->Value) (K:Nat->zX),∀(j:Nat) (c:CV),(cs++zA avs)[j]?=some c->Rep false w (xs j) c (K j)):zb6 big (.agg cs::avs):=by obtain⟨w,xs,K,h⟩:=h;intro c a;have e:zA (AV.agg cs::avs)=cs++zA avs:=(by simp[zA,AV.cvs]);rw[e]at a;obtain⟨j,b⟩:=qT.1 a;exact CVB.of_rep (h j c b)
theorem zmt {b c:Bool}{x y:List CV}{z u:List AV}(h:some (b,x,z)=some (c,y,u)):b=c/\y=x/\u=z:=by cases h;exact⟨rfl,rfl,rfl⟩
theorem zdW {b c:Bool}{x y:List AV}(h:some (b,x)=some (c,y)):b=c/\y=x:=by cases h;exact⟨rfl,rfl⟩
abbrev zW:=List (Nat×(List AV->Option (Bool×List AV)))
def zNS:zW:=[]
theorem zdC:∀f a,zl zNS f=some a->Holds Tryz.prog f a:=fun f a h=>by cases h
abbrev zK (l:zW):Prop:=∀f a,zl l f=some a->Holds Tryz.prog f a
abbrev vM:=Holds Tryz.prog
theorem zi {l:zW}{f:Nat}{a:List AV->Option (Bool×List AV)}(h:vM f a)(b:zK l):zK ((f,a)::l):=by intro g r hg;unfold zl at hg;split at hg;{rename_i e;cases hg;rw[<- qK.1 e];exact h};{exact b g r hg}
abbrev zhe:=List (Nat×(CV->Int->Option (Bool×CV×Int)))
def z6A:zhe:=[]
abbrev zfQ (m:zhe):Prop:=∀f a,zl m f=some a->zKN Tryz.prog f a
theorem zU:zfQ z6A:=fun f a h=>by cases h
abbrev zcU:=List (Nat×(List Bool×(List CV->List AV->Option (Bool×List CV×List AV))))
def zPK:zcU:=[]
abbrev zb2 (p:zcU):Prop:=∀f own a,zl p f=some (own,a)->zbN Tryz.prog f own a
theorem zy:zb2 zPK:=fun f own a h=>by cases h
theorem zcu {l m:zcU}(c:∀f own a,zl m f=some (own,a)->zbN Tryz.prog f own a)(b:∀x∈l,zbN Tryz.prog x.1 x.2.1 x.2.2):∀f own a,zl (l++m) f=some (own,a)->zbN Tryz.prog f own a:=by intro f own a h;rw[zbO]at h;split at h;{rename_i y d;cases h;exact b _ (zmN d)};{exact c f own a h}
abbrev zfs:=List (Nat×(List Bool×Option (Nat×Nat×List (List Nat))×(List AV->Option (Bool×List AV))))
def z2f:zfs:=[]
abbrev zea (t:zfs):Prop:=∀f own a b,zl t f=some (own,a,b)->zdR Tryz.prog f own a b
theorem zn:zea z2f:=fun f own a b h=>by cases h
theorem zqg {l m:zfs}(d:∀f own a b,zl m f=some (own,a,b)->zdR Tryz.prog f own a b)(c:∀x∈l,zdR Tryz.prog x.1 x.2.1 x.2.2.1 x.2.2.2):∀f own a b,zl (l++m) f=some (own,a,b)->zdR Tryz.prog f own a b:=by intro f own a b h;rw[zbO]at h;split at h;{rename_i y e;cases h;exact c _ (zmN e)};{exact d f own a b h}
abbrev cQ (c:zW)(m:zhe)(p:zcU)(t:zfs):Cfg:=zlO (zl c) (zl m) (zl p) (zl t)
theorem z6m {c:zW}{m:zhe}{p:zcU}{t:zfs}(o1:zK c)(g:zfQ m)(i:zb2 p)(j:zea t){f:FuncId}{a:List AV->Option (Bool×List AV)}(b:FnOk Tryz.prog f)(h:∀avs rs,zb6 big avs->a avs=some (true,rs)->∃tms N,evalFn (cQ c m p t) tms N 12 f avs=some rs):vM f a :=
 zBo (zf2 o1 g i j) b fun avs rs d e=>(h avs rs (zXz d) e).elim fun t x=>x.elim fun N y=>⟨t,N,12,y⟩
def ze3 (f:FuncId):Bool :=
 match Tryz.prog.funcs[f]? with
 |some a=>a.body.isSome && !(a.name == "runtime.NumGoroutine")
 |none=>false
theorem ziZ {f:FuncId}(h:ze3 f=true):FnOk Tryz.prog f:=by unfold ze3 at h;split at h;{rename_i a d;simp only[qD,jE]at h;obtain⟨b,c⟩:=uQ.1 h.1;exact⟨a,b,d,c,h.2⟩};{cases h}
abbrev oN {b:Type}(c:Bool)(a:Option b):Option b:=bif c then a else none
abbrev nB (c:Bool):Bool:=bif c then false else true
abbrev ti:AT:=.i .i64
structure Dc (α:Type) where
 d:AV->Option α
 e:α->AV
 h:∀{a x},d a=some x->a=e x
abbrev aI (x:Int):AV:=.one (.i .i64 x)
abbrev aB (x:Bool):AV:=.one (.b x)
abbrev aS (t:Ty)(l:List t.den):AV:=.one (.s t l)
abbrev aT (t:Ty)(x:t.den):AV:=.agg (t.cells x)
abbrev aH (h:Host):AV:=.agg (zbl h)
abbrev OA:=Option Ans
abbrev oF:OA:=some [aB false]
abbrev oT:OA:=some [aB true]
abbrev lA:=List GAct
abbrev lB:=List Bool
abbrev lE:=List Entry
abbrev lG:=List Guest
abbrev lI:=List Ins
abbrev lK:=List Kept
abbrev lM:=List (List Int)
abbrev lN:=List Mon
abbrev lP:=List (List Ins)
abbrev lQ:=List (List (List Ins))
abbrev lR:=List Bare
abbrev lS:=List Slot
abbrev lT:=List Told
def dI:Dc Int:=⟨fun a=>match a with | .one (.i .i64 x)=>some x|_=>none,aI,fun {a x} h=>by split at h<;>cases h;rfl⟩
def dB:Dc Bool:=⟨fun a=>match a with | .one (.b x)=>some x|_=>none,aB,fun {a x} h=>by split at h<;>cases h;rfl⟩
def dS (t:Ty):Dc (List t.den):=⟨fun a=>match a with | .one (.s b l)=>if h:b=t then some (h ▸ l) else none|_=>none,aS t,fun {a x} h=>by
 split at h
 .rename_i b l;split at h
  .rename_i e;subst e;cases h;rfl
  .cases h
 .cases h⟩
def dT (t:Ty):Dc t.den:=⟨fun a=>match a with | .agg b=>t.ofCells b|_=>none,aT t,fun {a x} h=>by
 split at h
 .rw [<- zjz h]
 .cases h⟩
def dH:Dc Host:=⟨fun a=>match a with | .agg [.s (.sl .int) x,.s .mon y,.s .entry z,.s .entry u]=>some ⟨x,y,z,u⟩|_=>none,aH,fun {a x} h=>by split at h<;>cases h;rfl⟩
def dC:Dc Ctl:=⟨fun a=>match a with | .agg [.i .i64 x,.i .i64 y,.b z]=>some ⟨x,y,z⟩|_=>none,fun x=>.agg (znM x),fun {a x} h=>by split at h<;>cases h;rfl⟩
def dE:Dc GExit:=⟨fun a=>match a with | .agg [.i .i64 x,.i .i64 y,.b z,.i .i64 u]=>some ⟨x,y,z,u⟩|_=>none,fun x=>.agg (zft x),fun {a x} h=>by split at h<;>cases h;rfl⟩
abbrev Run:=List AV->Option (Bool×List AV)
def eat {b:Type}(D:Dc b)(k:b->Run):Run
 |[]=>none
 |a::l=>match D.d a with
  |some x=>k x l
  |none=>none
def stop (r:Bool×List AV):Run
 |[]=>some r
 |_=>none
theorem zbae {b:Type}{D:Dc b}{k:b->Run}{avs:List AV}{r:Bool×List AV}(h:eat D k avs=some r):∃x l,avs=D.e x::l/\k x l=some r:=by unfold eat at h;split at h;{cases h};{rename_i a l;split at h;{rename_i x c;exact⟨x,l,by rw[D.h c],h⟩};{cases h}}
theorem z7p {q r:Bool×List AV}{avs:List AV}(h:stop q avs=some r):avs=[]/\r=q:=by unfold stop at h;split at h<;>cases h;exact⟨rfl,rfl⟩
theorem zcq {p:Nat->Prop}(h:∀N,(∀{n:Nat},n<=big->n<N)->p N):∃N,p N:=⟨big+1,h _ fun h=>Nat.lt_succ_of_le h⟩
theorem len0 {t:Ty}{l:List t.den}{r:List AV}(a:zb6 big (.one (.s t l)::r)):l.length<=big:=((zdg a).1 _ (qF.2 rfl)).len
def Read (c:zW)(m:zhe)(p:zcU)(t:zfs)(tms:FuncId->Nat->Option Tmpl)(f:FuncId)(b:List AV)(r:Run):Prop:=∀a d,zb6 big (b++a)->r a=some (true,d)->∃N,evalFn (cQ c m p t) tms N 12 f (b++a)=some d
theorem zeB {c:zW}{m:zhe}{p:zcU}{t:zfs}{tms:FuncId->Nat->Option Tmpl}{f:FuncId}{b:List AV}{d:Type}{D:Dc d}{k:d->Run}(h:∀a,Read c m p t tms f (b++[D.e a]) (k a)):Read c m p t tms f b (eat D k):=by intro g q n e;obtain⟨x,l,j,i⟩:=zbae e;subst j;have:=h x l q (by simpa using n) i;simpa using this
theorem zns {c:zW}{m:zhe}{p:zcU}{t:zfs}{tms:FuncId->Nat->Option Tmpl}{f:FuncId}{a:List AV}{g:Bool×List AV}{E:Nat->OA}(d:zb6 big a->g.1=true->∃N,E N=some g.2)(l:∀N,evalFn (cQ c m p t) tms N 12 f a=E N):Read c m p t tms f a (stop g):=by intro i n h e;obtain⟨k,j⟩:=z7p e;subst k;cases g with|mk b x=>cases j;rw[jC]at h ⊢;obtain⟨N,e⟩:=d h rfl;exact⟨N,(l N).trans e⟩
theorem zpS {c:zW}{m:zhe}{p:zcU}{t:zfs}(o1:zK c)(g:zfQ m)(i:zb2 p)(j:zea t){tms:FuncId->Nat->Option Tmpl}{f:FuncId}{r:Run}(d:ze3 f=true)(h:Read c m p t tms f [] r):vM f r :=
 z6m o1 g i j (ziZ d) fun a k b e=>(h a k b e).elim fun N x=>⟨tms,N,x⟩
def rF0  (g:Bool×List AV):Run:=stop g
theorem hF0 {c:zW}{m:zhe}{p:zcU}{t:zfs}(o1:zK c)(i:zfQ m)(j:zb2 p)(k:zea t)(tms:FuncId->Nat->Option Tmpl){g:Bool×List AV}{E:Nat->OA}{f:FuncId}(a:zb6 big []->g.1=true->∃N,E N=some g.2)(h:∀N,evalFn (cQ c m p t) tms N 12 f []=E N:=by intros;kernel_rfl)(e:ze3 f=true:=by kernel_rfl):vM f (rF0 g):=
 zpS o1 i j k e (zns (fun b d=>a b d) fun N=>h N)
theorem kF0 {c:zW}{m:zhe}{p:zcU}{t:zfs}(o1:zK c)(e:zfQ m)(h:zb2 p)(i:zea t)(tms:FuncId->Nat->Option Tmpl){g:Bool×List AV}{E:Nat->OA}{f:FuncId}(a:g.1=true->∃N,E N=some g.2)(d:∀N,evalFn (cQ c m p t) tms N 12 f []=E N:=by intros;kernel_rfl)(b:ze3 f=true:=by kernel_rfl):vM f (rF0 g):=hF0 o1 e h i tms (fun _=>a) d b
def rF1 {a:Type}(b:Dc a)(g:a->Bool×List AV):Run:=eat b fun c=>stop (g c)
theorem hF1 {a:Type}{c:zW}{m:zhe}{p:zcU}{t:zfs}(o1:zK c)(l:zfQ m)(n:zb2 p)(q:zea t)(tms:FuncId->Nat->Option Tmpl){b:Dc a}{g:a->Bool×List AV}{E:Nat->a->OA}{f:FuncId}(d:∀a0,zb6 big [b.e a0]->(g a0).1=true->∃N,E N a0=some (g a0).2)(k:∀N a0,evalFn (cQ c m p t) tms N 12 f [b.e a0]=E N a0:=by intros;kernel_rfl)(j:ze3 f=true:=by kernel_rfl):vM f (rF1 b g):=
 zpS o1 l n q j (zeB fun a0=>zns (fun h i=>d a0 h i) fun N=>k N a0)
theorem kF1 {a:Type}{c:zW}{m:zhe}{p:zcU}{t:zfs}(o1:zK c)(j:zfQ m)(k:zb2 p)(l:zea t)(tms:FuncId->Nat->Option Tmpl){d:Dc a}{g:a->Bool×List AV}{E:Nat->a->OA}{f:FuncId}(b:∀a0,(g a0).1=true->∃N,E N a0=some (g a0).2)(i:∀N a0,evalFn (cQ c m p t) tms N 12 f [d.e a0]=E N a0:=by intros;kernel_rfl)(h:ze3 f=true:=by kernel_rfl):vM f (rF1 d g):=hF1 o1 j k l tms (fun a0 _=>b a0) i h
def rF2 {a b:Type}(c:Dc a)(d:Dc b)(g:a->b->Bool×List AV):Run:=eat c fun e=>eat d fun f=>stop (g e f)
theorem hF2 {b d:Type}{c:zW}{m:zhe}{p:zcU}{t:zfs}(o1:zK c)(r:zfQ m)(s:zb2 p)(u:zea t)(tms:FuncId->Nat->Option Tmpl){h:Dc b}{i:Dc d}{g:b->d->Bool×List AV}{E:Nat->b->d->OA}{f:FuncId}(j:∀a0 a,zb6 big [h.e a0,i.e a]->(g a0 a).1=true->∃N,E N a0 a=some (g a0 a).2)(q:∀N a0 a,evalFn (cQ c m p t) tms N 12 f [h.e a0,i.e a]=E N a0 a:=by intros;kernel_rfl)(n:ze3 f=true:=by kernel_rfl):vM f (rF2 h i g):=
 zpS o1 r s u n (zeB fun a0=>zeB fun a=>zns (fun k l=>j a0 a k l) fun N=>q N a0 a)
theorem kF2 {b d:Type}{c:zW}{m:zhe}{p:zcU}{t:zfs}(o1:zK c)(n:zfQ m)(q:zb2 p)(r:zea t)(tms:FuncId->Nat->Option Tmpl){i:Dc b}{j:Dc d}{g:b->d->Bool×List AV}{E:Nat->b->d->OA}{f:FuncId}(h:∀a0 a,(g a0 a).1=true->∃N,E N a0 a=some (g a0 a).2)(l:∀N a0 a,evalFn (cQ c m p t) tms N 12 f [i.e a0,j.e a]=E N a0 a:=by intros;kernel_rfl)(k:ze3 f=true:=by kernel_rfl):vM f (rF2 i j g):=hF2 o1 n q r tms (fun a0 a _=>h a0 a) l k
def rF3 {a b c:Type}(d:Dc a)(e:Dc b)(f:Dc c)(g:a->b->c->Bool×List AV):Run:=eat d fun h=>eat e fun i=>eat f fun j=>stop (g h i j)
theorem hF3 {d h i:Type}{c:zW}{m:zhe}{p:zcU}{t:zfs}(o1:zK c)(v:zfQ m)(w:zb2 p)(x:zea t)(tms:FuncId->Nat->Option Tmpl){j:Dc d}{k:Dc h}{l:Dc i}{g:d->h->i->Bool×List AV}{E:Nat->d->h->i->OA}{f:FuncId}(n:∀a0 a b,zb6 big [j.e a0,k.e a,l.e b]->(g a0 a b).1=true->∃N,E N a0 a b=some (g a0 a b).2)(u:∀N a0 a b,evalFn (cQ c m p t) tms N 12 f [j.e a0,k.e a,l.e b]=E N a0 a b:=by intros;kernel_rfl)(s:ze3 f=true:=by kernel_rfl):vM f (rF3 j k l g):=
 zpS o1 v w x s (zeB fun a0=>zeB fun a=>zeB fun b=>zns (fun q r=>n a0 a b q r) fun N=>u N a0 a b)
theorem kF3 {d h i:Type}{c:zW}{m:zhe}{p:zcU}{t:zfs}(o1:zK c)(s:zfQ m)(u:zb2 p)(v:zea t)(tms:FuncId->Nat->Option Tmpl){k:Dc d}{l:Dc h}{n:Dc i}{g:d->h->i->Bool×List AV}{E:Nat->d->h->i->OA}{f:FuncId}(j:∀a0 a b,(g a0 a b).1=true->∃N,E N a0 a b=some (g a0 a b).2)(r:∀N a0 a b,evalFn (cQ c m p t) tms N 12 f [k.e a0,l.e a,n.e b]=E N a0 a b:=by intros;kernel_rfl)(q:ze3 f=true:=by kernel_rfl):vM f (rF3 k l n g):=hF3 o1 s u v tms (fun a0 a b _=>j a0 a b) r q
def rF4 {a b c d:Type}(e:Dc a)(f:Dc b)(h:Dc c)(i:Dc d)(g:a->b->c->d->Bool×List AV):Run:=eat e fun j=>eat f fun k=>eat h fun l=>eat i fun m=>stop (g j k l m)
theorem hF4 {h i j k:Type}{c:zW}{m:zhe}{p:zcU}{t:zfs}(o1:zK c)(y:zfQ m)(z:zb2 p)(A:zea t)(tms:FuncId->Nat->Option Tmpl){l:Dc h}{n:Dc i}{q:Dc j}{r:Dc k}{g:h->i->j->k->Bool×List AV}{E:Nat->h->i->j->k->OA}{f:FuncId}(s:∀a0 a b d,zb6 big [l.e a0,n.e a,q.e b,r.e d]->(g a0 a b d).1=true->∃N,E N a0 a b d=some (g a0 a b d).2)(x:∀N a0 a b d,evalFn (cQ c m p t) tms N 12 f [l.e a0,n.e a,q.e b,r.e d]=E N a0 a b d:=by intros;kernel_rfl)(w:ze3 f=true:=by kernel_rfl):vM f (rF4 l n q r g):=
 zpS o1 y z A w (zeB fun a0=>zeB fun a=>zeB fun b=>zeB fun d=>zns (fun u v=>s a0 a b d u v) fun N=>x N a0 a b d)
theorem kF4 {h i j k:Type}{c:zW}{m:zhe}{p:zcU}{t:zfs}(o1:zK c)(w:zfQ m)(x:zb2 p)(y:zea t)(tms:FuncId->Nat->Option Tmpl){n:Dc h}{q:Dc i}{r:Dc j}{s:Dc k}{g:h->i->j->k->Bool×List AV}{E:Nat->h->i->j->k->OA}{f:FuncId}(l:∀a0 a b d,(g a0 a b d).1=true->∃N,E N a0 a b d=some (g a0 a b d).2)(v:∀N a0 a b d,evalFn (cQ c m p t) tms N 12 f [n.e a0,q.e a,r.e b,s.e d]=E N a0 a b d:=by intros;kernel_rfl)(u:ze3 f=true:=by kernel_rfl):vM f (rF4 n q r s g):=hF4 o1 w x y tms (fun a0 a b d _=>l a0 a b d) v u
def rF5 {a b c d e:Type}(f:Dc a)(h:Dc b)(i:Dc c)(j:Dc d)(k:Dc e)(g:a->b->c->d->e->Bool×List AV):Run:=eat f fun l=>eat h fun m=>eat i fun n=>eat j fun p=>eat k fun q=>stop (g l m n p q)
theorem hF5 {i j k l n:Type}{c:zW}{m:zhe}{p:zcU}{t:zfs}(o1:zK c)(B:zfQ m)(C:zb2 p)(D:zea t)(tms:FuncId->Nat->Option Tmpl){q:Dc i}{r:Dc j}{s:Dc k}{u:Dc l}{v:Dc n}{g:i->j->k->l->n->Bool×List AV}{E:Nat->i->j->k->l->n->OA}{f:FuncId}(w:∀a0 a b d h,zb6 big [q.e a0,r.e a,s.e b,u.e d,v.e h]->(g a0 a b d h).1=true->∃N,E N a0 a b d h=some (g a0 a b d h).2)(A:∀N a0 a b d h,evalFn (cQ c m p t) tms N 12 f [q.e a0,r.e a,s.e b,u.e d,v.e h]=E N a0 a b d h:=by intros;kernel_rfl)(z:ze3 f=true:=by kernel_rfl):vM f (rF5 q r s u v g):=
 zpS o1 B C D z (zeB fun a0=>zeB fun a=>zeB fun b=>zeB fun d=>zeB fun h=>zns (fun x y=>w a0 a b d h x y) fun N=>A N a0 a b d h)
theorem kF5 {i j k l n:Type}{c:zW}{m:zhe}{p:zcU}{t:zfs}(o1:zK c)(z:zfQ m)(A:zb2 p)(B:zea t)(tms:FuncId->Nat->Option Tmpl){r:Dc i}{s:Dc j}{u:Dc k}{v:Dc l}{w:Dc n}{g:i->j->k->l->n->Bool×List AV}{E:Nat->i->j->k->l->n->OA}{f:FuncId}(q:∀a0 a b d h,(g a0 a b d h).1=true->∃N,E N a0 a b d h=some (g a0 a b d h).2)(y:∀N a0 a b d h,evalFn (cQ c m p t) tms N 12 f [r.e a0,s.e a,u.e b,v.e d,w.e h]=E N a0 a b d h:=by intros;kernel_rfl)(x:ze3 f=true:=by kernel_rfl):vM f (rF5 r s u v w g):=hF5 o1 z A B tms (fun a0 a b d h _=>q a0 a b d h) y x
theorem zih {avs:List AV}(h:∃(w:World) (xs:Nat->Value) (K:Nat->zX),∀(j:Nat) (c:CV),(zA avs)[j]?=some c->Rep false w (xs j) c (K j)):zb6 big avs:=by obtain⟨w,xs,K,h⟩:=h;intro c a;obtain⟨j,b⟩:=qT.1 a;exact CVB.of_rep (h j c b)
theorem cT {a:Type}(x y:a):(cond true x y)=x:=by simp
theorem cF {a:Type}(x y:a):(cond false x y)=y:=by simp
theorem zpw:big=140737488355328:=rfl
theorem ztC {x:Int}(a : -9223372036854775808<=x)(b:x<=9223372036854775807):IntKind.i64.wrap x=x:=by simp only[IntKind.wrap,IntKind.signed,IntKind.bits];simp;omega
theorem ztB {x y:Int}(a : -9223372036854775808<=x+y)(b:x+y<=9223372036854775807):zM .i64 x y=x+y:=ztC a b
theorem zzn {x y:Int}(a : -9223372036854775808<=x-y)(b:x-y<=9223372036854775807):wsub .i64 x y=x-y:=ztC a b
theorem zbh {i n:Nat}(h:i<n)(a:n<=big):zM .i64 (i:Int) 1=((i+1:Nat):Int):=by rw[zpw]at a;rw[ztB (by omega) (by omega)];omega
section
variable {α:Type}
theorem zbs {l:List α}{i:Nat}(h:i<l.length):ilt (i:Int) (ln l)=true:=by unfold ilt ln;exact qJ (by omega)
theorem zbn {l:List α}:ilt ((l.length:Nat):Int) (ln l)=false:=by unfold ilt ln;exact qL (by omega)
theorem zbe {l:List α}{i:Nat}(h:i<l.length):inb (i:Int) (ln l)=true:=by unfold inb ln;exact qJ (by omega)
theorem zbj {l:List α}{i:Nat}(h:i<l.length)(d:α):ix l (i:Int) d=l[i]:=by unfold ix;simp[List.getD,qB h]
theorem zgi {l:List α}(h:l.length<=2147483648):few (ln l)=true:=by unfold few ln;exact qJ (by omega)
theorem zcI (x:Int):ieq x x=true:=by simp[ieq]
theorem zb3 (x:Int):ine x x=false:=by simp[ine]
theorem zc7 (x:Bool):zhf x x=true:=by simp[zhf]
end
theorem zdo {σ a:Type}(n:Nat)(F:(σ->Option a)->σ->Option a)(s:σ):iter (n+1) F s=F (iter n F) s:=rfl
def goL {d c b:Type}(a:Nat->d->c->(c->Option b)->Option b)(K:c->Option b):List d->Nat->c->Option b
 |[],_,t=>K t
 |x::l,i,t=>a i x t (goL a K l (i+1))
theorem zbm {p b d σ:Type}(l:List p)(st:Nat->b->σ)(F:(σ->Option d)->σ->Option d)(a:Nat->p->b->(b->Option d)->Option d)(K:b->Option d)(c:∀(i:Nat) (k:i<l.length) (t:b) (rec:σ->Option d),F rec (st i t)=a i l[i] t (fun j=>rec (st (i+1) j)))(e:∀(t:b) (rec:σ->Option d),F rec (st l.length t)=K t) :
 ∀(N:Nat) (t:b),l.length<N->iter N F (st 0 t)=goL a K l 0 t:=by
 have h:∀(m i N:Nat) (t:b),l.length-i=m->i<=l.length->m<N->iter N F (st i t)=goL a K (l.drop i) i t:=by intro m;induction m with|zero=>intro i N t q k g;have:i=l.length:=(by omega);subst this;obtain⟨n,rfl⟩:∃n,N=n+1:=⟨N-1,by omega⟩;rw[zdo,e,List.drop_length];rfl|succ m r=>intro i N t q k g;obtain⟨n,rfl⟩:∃n,N=n+1:=⟨N-1,by omega⟩;have f:i<l.length:=(by omega);rw[zdo,c i f,kL f];simp only[goL];congr 1;funext j;exact r (i+1) n j (by omega) (by omega) (by omega)
 intro N t g;have:=h l.length 0 N t (by omega) (jX _) g
 simpa using this
def goN {c b:Type}(a:Nat->c->(c->Option b)->Option b)(K:c->Option b):Nat->Nat->c->Option b
 | 0,_,t=>K t
 |n+1,i,t=>a i t (goN a K n (i+1))
theorem zAf {b d σ:Type}(n:Nat)(st:Nat->b->σ)(F:(σ->Option d)->σ->Option d)(a:Nat->b->(b->Option d)->Option d)(K:b->Option d)(c:∀(i:Nat) (p:i<n) (t:b) (rec:σ->Option d),F rec (st i t)=a i t (fun l=>rec (st (i+1) l)))(f:∀(t:b) (rec:σ->Option d),F rec (st n t)=K t) :
 ∀(N:Nat) (t:b),n<N->iter N F (st 0 t)=goN a K n 0 t:=by
 have j:∀(m i N:Nat) (t:b),n-i=m->i<=n->m<N->iter N F (st i t)=goN a K (n-i) i t:=by intro m;induction m with|zero=>intro i N t q p g;have:i=n:=(by omega);subst this;obtain⟨k,rfl⟩:∃k,N=k+1:=⟨N-1,by omega⟩;rw[zdo,f,k6];rfl|succ m r=>intro i N t q p g;obtain⟨k,rfl⟩:∃k,N=k+1:=⟨N-1,by omega⟩;have h:i<n:=(by omega);have e:n-i=(n-(i+1))+1:=(by omega);rw[zdo,c i h,e];simp only[goN];congr 1;funext l;exact r (i+1) k l (by omega) (by omega) (by omega)
 intro N t g;have:=j n 0 N t (by omega) (jX _) g
 simpa using this
theorem zgF {b h:Type}(l:List b)(d:b)(F:(Int×List b×List b×Unit->Option h)->Int×List b×List b×Unit->Option h)(k:Option h)(p:l.length<=big)(a:∀(i:Nat) (j:i<l.length) rec,F rec ((i:Int),l,l,())=rec (zM .i64 (i:Int) 1,l,l,()))(c:∀rec,F rec ((l.length:Int),l,l,())=k){N:Nat}(f:l.length<N) :
 iter N F (0,(l,(l,())))=k:=by
 have g:∀(m i N:Nat),l.length-i=m->i<=l.length->m<N->iter N F ((i:Int),(l,(l,())))=k:=by intro m;induction m with|zero=>intro i N q j f;have:i=l.length:=(by omega);subst this;obtain⟨n,rfl⟩:∃n,N=n+1:=⟨N-1,by omega⟩;rw[zdo,c]|succ m r=>intro i N q j f;obtain⟨n,rfl⟩:∃n,N=n+1:=⟨N-1,by omega⟩;have e:i<l.length:=(by omega);rw[zdo,a i e,zbh e p];exact r (i+1) n (by omega) (by omega) (by omega)
 exact g l.length 0 N (by omega) (jX _) f
def sm:Nat:=1048576
theorem zi8:pc True=true:=zbg trivial
theorem zcF {n:Nat}(h:n<=sm):n<=big/\n<=2147483648:=by unfold sm at h;rw[zpw];omega
def hasB (i n:Int):Bool:=decide (0<=i/\i<n)
theorem has_eq (i n:Int):(ige i 0&&ilt i n)=hasB i n:=by unfold ige ilt hasB;by_cases a:0<=i<;>by_cases b:i<n<;>simp [a,b]
theorem zJ {i n:Int}(h:hasB i n=true):inb i n=true:=h
theorem zds {i:Int}{n:Nat}(h:hasB i n=true):∃k:Nat,i=k/\k<n:=by have:0<=i/\i<n:=qE h;exact⟨i.toNat,by omega,by omega⟩
theorem zbD {b:Type}{l:List b}{i:Int}(h:hasB i (ln l)=true)(d:b):ix l i d∈l:=by obtain⟨k,rfl,a⟩:=zds (n:=l.length) h;rw[zbj a];exact jG a
theorem zlU {a:Type}(l:List a):ap [] l=l:=rfl
theorem ziW {b m:Type}(c:b->Bool)(f:b->b)(K:List b->Option m):∀(l:List b) (i:Nat) (a:List b),(∀x∈l,c x=true/\f x=x)->a.length+l.length<=2147483648->
 goL (fun _ x a k=>bif c x then (cond (few (ln (ap a [f x]))) (k (ap a [f x])) none) else none) K l i a=K (a++l)
 |[],i,a,_,_=>by simp[goL]
 |x::l,i,a,h,g=>by obtain⟨d,e⟩:=h x (by simp);simp only[qY]at g;simp only[goL,d,e,cT];rw[zgi (by simp[ap];omega),cT,ziW c f K l (i+1) _ (fun y j=>h y (by simp[j])) (by simp[ap];omega)];simp[ap]
def zci (h:Host):Prop:=∀c∈zbl h,CVB sm c
theorem zci.mem {h:Host}(a:zci h):CVB sm (.s (.sl .int) h.Memory):=a _ (by simp[zbl])
theorem zci.mons {h:Host}(a:zci h):CVB sm (.s .mon h.Mons):=a _ (by simp[zbl])
theorem znR {t:Ty}{l:List t.den}(h:CVB sm (.s t l)):few (ln l)=true:=zgi (zcF h.len).2
def znG (p:Nat->Bool):Nat->Nat->Bool
 | 0,_=>true
 |n+1,i=>p i&&znG p n (i+1)
theorem zFo {a:Type}(p:Nat->Bool)(r:Option a)(K:Unit->Option a):∀(n i:Nat),goN (fun i (_:Unit) k=>bif p i then k () else r) K n i ()=bif znG p n i then K () else r
 | 0,_=>rfl
 |n+1,i=>by simp only[goN,znG];cases p i;{rfl};{simp only [cT,uH];exact zFo p r K n (i+1)}
theorem zx1 {e a c:Type}(b:Nat->a->(a->Option c)->Option c)(K:a->Option c):∀(l:List e) (i:Nat) (t:a),goL (fun i _ t k=>b i t k) K l i t=goN b K l.length i t
 |[],_,_=>rfl
 |_::l,i,t=>by have d:goL (fun i _ t k=>b i t k) K l (i+1)=goN b K l.length (i+1):=funext fun t=>zx1 b K l (i+1) t;simp only[goL,qY,goN,d]
theorem zgG {a b:Type}(p:a->Bool)(r:Option b)(K:Unit->Option b):∀(l:List a) (i:Nat),goL (fun _ x (_:Unit) k=>bif p x then k () else r) K l i ()=bif l.all p then K () else r
 |[],_=>rfl
 |x::l,i=>by simp only[goL,kW];cases p x;{rfl};{simp only [cT,uH];exact zgG p r K l (i+1)}
theorem zAh {n:Nat}(c:n<=big)(i:Int):(ige i 0&&ile i (wsub .i64 (n:Int) 1))=hasB i n:=by rw[zpw]at c;rw[zzn (by omega) (by omega)];unfold ige ile hasB;by_cases a:0<=i<;>by_cases b:i<n;{rw [qJ (p:=i≥0) (by omega),qJ (p:=i<=(n:Int)-1) (by omega),qJ (p:=0<=i/\i<(n:Int)) ⟨a,b⟩];rfl};{rw [qL (p:=i<=(n:Int)-1) (by omega),qL (p:=0<=i/\i<(n:Int)) (by omega)];simp};{rw [qL (p:=i≥0) (by omega),qL (p:=0<=i/\i<(n:Int)) (by omega)];simp};{rw [qL (p:=i≥0) (by omega),qL (p:=0<=i/\i<(n:Int)) (by omega)];simp}
theorem zyh {σ g c:Type}(n:Nat)(st:Nat->c->σ)(F:(σ->Option g)->σ->Option g)(I:Nat->c->Prop)(a:Nat->c->Option g)(b:∀(i:Nat) (t:c) (rec:σ->Option g),i<n->I i t->(∀f,I (i+1) f->rec (st (i+1) f)=a (i+1) f)->F rec (st i t)=a i t)(e:∀(t:c) (rec:σ->Option g),I n t->F rec (st n t)=a n t):∀(N i:Nat) (t:c),I i t->i<=n->n-i<N->iter N F (st i t)=a i t:=by have p:∀(m N i:Nat) (t:c),n-i=m->I i t->i<=n->m<N->iter N F (st i t)=a i t:=(by intro m;induction m with|zero=>intro N i t q d l j;obtain⟨k,rfl⟩:∃k,N=k+1:=⟨N-1,by omega⟩;have:i=n:=(by omega);subst this;rw[zdo];exact e t _ d|succ m r=>intro N i t q d l j;obtain⟨k,rfl⟩:∃k,N=k+1:=⟨N-1,by omega⟩;rw[zdo];exact b i t _ (by omega) d (fun f h=>r k (i+1) f (by omega) h (by omega) (by omega)));intro N i t d l j;exact p (n-i) N i t rfl d l j
section
variable {α:Type}
theorem zQi {l:List α}{i:Nat}(h:i<l.length)(d:α):up l (i:Int) (ix l (i:Int) d)=l:=by rw[zbj h];unfold up;apply k5;intro k;rw[q9];have e:(i:Int).toNat=i:=(by omega);rw[e];by_cases a:i=k;{subst a;simp[h]};{simp [a]}
theorem zdq {l:List α}{i:Nat}(h:i<l.length)(x d:α):ix (up l (i:Int) x) (i:Int) d=x:=by unfold ix up;have e:(i:Int).toNat=i:=(by omega);rw[e];simp[List.getD,h]
theorem zrp (l:List α)(i:Int)(x y:α):up (up l i x) i y=up l i y:=by unfold up;simp
theorem zbbI {l:List α}{i k:Nat}(h:i<k)(x:α):(up l (i:Int) x)[k]?=l[k]?:=by unfold up;have e:(i:Int).toNat=i:=(by omega);rw[e,q9,if_neg (by omega)]
end
def Ends {b:Type}(G:b->Prop)(o:Option b):Prop:=∃a,o=some a/\G a
section
variable {ρ:Type} {G:ρ->Prop}
theorem zu {c:Bool}{a b:Option ρ}(h:c=true)(k:Ends G a):Ends G (cond c a b):=by rw[h];exact k
theorem zpB {c:Bool}{a b:Option ρ}(h:c=false)(k:Ends G b):Ends G (cond c a b):=by rw[h];exact k
theorem zbB {c:Bool}{a b:Option ρ}(d:c=true->Ends G a)(e:c=false->Ends G b):Ends G (cond c a b):=by cases c;{exact e rfl};{exact d rfl}
theorem zk7 {a:Type}{x:a}{f:a->Option ρ}(h:Ends G (f x)):Ends G (share x f):=h
theorem zmP {x:Option ρ}{f:Option ρ->Option ρ}(h:Ends G x)(k:∀t,Ends G t->Ends G (f t)):Ends G (share x f):=k x h
theorem ztU {a:ρ}(h:G a):Ends G (some a):=⟨a,rfl,h⟩
theorem zlV {σ:Type}{F:(σ->Option ρ)->σ->Option ρ}(I:Nat->σ->Prop)(h:∀n s rec,I n s->(∀k a,k<n->I k a->Ends G (rec a))->Ends G (F rec s)):∀(N n:Nat) (s:σ),I n s->n<N->Ends G (iter N F s)
 | 0,n,s,_,b=>absurd b (Nat.not_lt_zero n)
 |N+1,n,s,c,b=>h n s (iter N F) c fun k a e d=>zlV I h N k a d (by omega)
theorem zbah {G:Ans->Prop}{o:OA}{r:Ans}(h:Ends (fun a=>a=r) o):o=some r:=by obtain⟨a,b,c⟩:=h;rw[b,c]
end
instance:Inhabited Cur:=⟨⟨[],0,0⟩⟩
def uC {T:Type}(ok:T->Prop):Bool:=pc (∃v,ok v)
def uV {T:Type}[Nonempty T](ok:T->Prop):T:=Classical.epsilon ok
theorem uG {T:Type}[Nonempty T]{ok:T->Prop}(h:uC ok=true):ok (uV ok):=Classical.epsilon_spec (zL.1 h)
def wC {T:Type}(ok:Cur->T->Prop):Bool:=uC fun r:Cur×T=>ok r.1 r.2
def wS {T:Type}[Nonempty T](ok:Cur->T->Prop):Cur:=bif wC ok then (uV fun r:Cur×T=>ok r.1 r.2).1 else ⟨[],0,0⟩
def wV {T:Type}[Nonempty T](ok:Cur->T->Prop):T:=(uV fun r:Cur×T=>ok r.1 r.2).2
theorem wG {T:Type}[Nonempty T]{ok:Cur->T->Prop}(h:wC ok=true):ok (wS ok) (wV ok):=by unfold wS wV;rw[h,cT];exact uG h
theorem wP {T:Type}[Nonempty T]{ok:Cur->T->Prop}(k:∀{s v},ok s v->0<=s.i):0<=(wS ok).i:=by cases h:wC ok with|false=>unfold wS;rw[h];exact kS 0|true=>exact k (wG h)
abbrev wE {T:Type}(e:T->AV)(b:List Int)(c:T->Prop):Ans->Prop:=fun a=>∃s d,a=(AV.agg (zbS s)::[e d])/\(s.b=b/\0<=s.i)/\c d
theorem wI {T:Type}{ok:Cur->T->Prop}{E:Nat->OA}{d:T->AV}{b:List Int}{c:T->Prop}(k:∀s v,((∃N,E N=some (AV.agg (zbS s)::[d v]))/\(s.b=b/\0<=s.i)/\c v)->ok s v)(h:∃N,Ends (wE d b c) (E N)):wC ok=true:=by obtain⟨N,a,e,s,v,rfl,h⟩:=h;exact zbg ⟨(s,v),k s v ⟨⟨N,e⟩,h⟩⟩
abbrev zdy:=List CV->List AV->Option (Bool×List CV×List AV)
abbrev zIf:=List AV->Option (Bool×List CV×List AV)
def pR (k:Cur->zIf):zdy
 |[.s .u8 b,.i .i64 i,.i .i64 h],a=>k ⟨b,i,h⟩ a
 |_,_=>none
def zV7 {b:Type}(D:Dc b)(k:b->zIf):zIf
 |[]=>none
 |a::l=>match D.d a with
  |some x=>k x l
  |none=>none
def zML (r:Bool×Cur×List AV):zIf
 |[]=>some (r.1,zbS r.2.1,r.2.2)
 |_=>none
theorem z4i {k:Cur->zIf}{cs:List CV}{avs:List AV}{r:Bool×List CV×List AV}(h:pR k cs avs=some r):∃c,cs=zbS c/\k c avs=some r:=by unfold pR at h;split at h;{exact⟨_,rfl,h⟩};{cases h}
theorem zJC {b:Type}{D:Dc b}{k:b->zIf}{avs:List AV}{r:Bool×List CV×List AV}(h:zV7 D k avs=some r):∃x l,avs=D.e x::l/\k x l=some r:=by unfold zV7 at h;split at h;{cases h};{rename_i a l;split at h;{rename_i x c;exact⟨x,l,by rw[D.h c],h⟩};{cases h}}
theorem zvN {q:Bool×Cur×List AV}{b:Bool}{cs:List CV}{rs avs:List AV}(h:zML q avs=some (b,cs,rs)):avs=[]/\q.1=b/\cs=zbS q.2.1/\rs=q.2.2:=by unfold zML at h;split at h<;>cases h;exact⟨rfl,rfl,rfl,rfl⟩
section
variable {c:zW} {m:zhe} {p:zcU} {t:zfs} (o1:zK c) (o2:zfQ m) (o3:zb2 p) (o4:zea t) (tms:FuncId->Nat->Option Tmpl) {f:FuncId}
include o1 o2 o3 o4
theorem hPx {k:Cur->zIf}(d:ze3 f=true)(h:∀x avs cs' rs,k x avs=some (true,cs',rs)->cs'.length=3/\∃N,znQ (cQ c m p t) tms N 12 f [false,true,true] (zbS x) avs=some (.agg cs'::rs)):zbN Tryz.prog f [false,true,true] (pR k):=by refine zgJ (zf2 o1 o2 o3 o4) (ziZ d) ?_;intro g avs cs' rs i j e;obtain⟨x,rfl,e⟩:=z4i e;obtain⟨a,N,b⟩:=h x avs cs' rs e;exact⟨a,tms,N,12,b⟩
def rP0 (g:Cur->Bool×Cur×List AV):zdy:=pR fun c=>zML (g c)
theorem hP0 {g:Cur->Bool×Cur×List AV}{E:Nat->Cur->OA}(a:∀x,(g x).1=true->∃N,E N x=some (.agg (zbS (g x).2.1)::(g x).2.2))(k:∀N x,znQ (cQ c m p t) tms N 12 f [false,true,true] (zbS x) []=E N x:=by intros;kernel_rfl)(j:ze3 f=true:=by kernel_rfl):zbN Tryz.prog f [false,true,true] (rP0 g):=
 hPx o1 o2 o3 o4 tms j fun x b d l e=>by obtain⟨rfl,i,rfl,rfl⟩:=zvN e;obtain⟨N,h⟩:=a x i;exact⟨rfl,N,(k N x).trans h⟩
def rP1 {A:Type}(D:Dc A)(g:Cur->A->Bool×Cur×List AV):zdy:=pR fun c=>zV7 D fun a=>zML (g c a)
theorem hP1 {A:Type}{D:Dc A}{g:Cur->A->Bool×Cur×List AV}{E:Nat->Cur->A->OA}(b:∀x a,(g x a).1=true->∃N,E N x a=some (.agg (zbS (g x a).2.1)::(g x a).2.2))(q:∀N x a,znQ (cQ c m p t) tms N 12 f [false,true,true] (zbS x) [D.e a]=E N x a:=by intros;kernel_rfl)(n:ze3 f=true:=by kernel_rfl):zbN Tryz.prog f [false,true,true] (rP1 D g):=
 hPx o1 o2 o3 o4 tms n fun x d i r e=>by obtain⟨a,l,rfl,j⟩:=zJC e;obtain⟨rfl,k,rfl,rfl⟩:=zvN j;obtain⟨N,h⟩:=b x a k;exact⟨rfl,N,(q N x a).trans h⟩
def rP2 {A B:Type}(D:Dc A)(d:Dc B)(g:Cur->A->B->Bool×Cur×List AV):zdy:=pR fun c=>zV7 D fun a=>zV7 d fun b=>zML (g c a b)
theorem hP2 {A B:Type}{D:Dc A}{i:Dc B}{g:Cur->A->B->Bool×Cur×List AV}{E:Nat->Cur->A->B->OA}(d:∀x a b,(g x a b).1=true->∃N,E N x a b=some (.agg (zbS (g x a b).2.1)::(g x a b).2.2))(u:∀N x a b,znQ (cQ c m p t) tms N 12 f [false,true,true] (zbS x) [D.e a,i.e b]=E N x a b:=by intros;kernel_rfl)(s:ze3 f=true:=by kernel_rfl):zbN Tryz.prog f [false,true,true] (rP2 D i g):=
 hPx o1 o2 o3 o4 tms s fun x j k w e=>by obtain⟨a,l,rfl,n⟩:=zJC e;obtain⟨b,v,rfl,q⟩:=zJC n;obtain⟨rfl,r,rfl,rfl⟩:=zvN q;obtain⟨N,h⟩:=d x a b r;exact⟨rfl,N,(u N x a b).trans h⟩
end
instance:Inhabited Ins:=⟨⟨0,0⟩⟩
instance:Inhabited GAct:=⟨⟨0,0,0,0,0,0⟩⟩
instance:Inhabited Ctl:=⟨⟨0,0,false⟩⟩
instance:Inhabited Host:=⟨⟨[],[],[],[]⟩⟩
def zbd (c:Cur):Prop:=0<=c.i/\c.b.length<=big
theorem zbH {T:Type}(d:T->AV){c:T->Prop}{b:List Int}{x y:Int}{v:T}(h:0<=x)(g:c v):Ends (fun a=>∃s e,a=(AV.agg (zbS s)::[d e])/\(s.b=b/\0<=s.i)/\c e) (some (AV.agg [.s .u8 b,.i .i64 x,.i .i64 y]::[d v])):=
 ⟨_,rfl,⟨b,x,y⟩,v,rfl,⟨rfl,h⟩,g⟩
def zwT (N:Nat)(c:Cur)  : OA :=
 let a:=(zM .i64 (zng .i64 c.h 6364136223846793005) 1442695040888963407);let d:=(wand .i64 (z7w .i64 (zE5 .i64 a 33) (zE5 .i64 a 45)) 255); (oN (ile 0 33) (oN (ile 0 45) (cond (ilt c.i (ln c.b)) (oN (inb c.i (ln c.b)) (some [(.agg [(.s .u8 c.b),(.i .i64 (zM .i64 c.i 1)),(.i .i64 a)]),(aI (wand .i64 (zM .i64 d (wcv .i64 (ix c.b c.i 0))) 255))])) (some [(.agg [(.s .u8 c.b),(.i .i64 c.i),(.i .i64 a)]),(aI d)]))))
def zoO (c:Cur)(s:Cur)(a:Int):Prop:=(∃N,zwT N c=some (AV.agg (zbS s)::[aI a]))/\(s.b=c.b/\0<=s.i)/\(0<=a/\a<=255)
def zd1 (c:Cur)  : Bool:=wC (zoO c)
def zdb (c:Cur)  : Cur:=wS (zoO c)
def zfY (c:Cur)  : Int:=wV (zoO c)
theorem zml {c:Cur}(h:zd1 c=true):zoO c (zdb c) (zfY c):=wG h
theorem zmm (c:Cur)  : 0<=(zdb c).i:=wP fun h=>h.2.1.2
theorem zYy (c:Cur)(h:∃N,Ends (wE (fun a=>aI a) c.b fun a=>0<=a/\a<=255) (zwT N c)):zd1 c=true:=wI (fun _ _ h=>h) h
def zyr:zdy:=rP0 fun c=>(zd1 c,zdb c,[aI (zfY c)])
theorem zLL:zbN Tryz.prog 116 [false,true,true] zyr:=hP0 zdC zU zy zn (zq []) (fun _ h=>(zml h).1)
theorem zRN {x m:Int}(c:0<=m)(d:m<9223372036854775808):0<=wand .i64 x m/\wand .i64 x m<=m:=by have b:(BitVec.ofInt 64 m).toNat=m.toNat:=(by rw[BitVec.toNat_ofInt];omega);have a:(BitVec.ofInt 64 x &&& BitVec.ofInt 64 m).toNat<=m.toNat:=(by rw[BitVec.toNat_and,b];exact Nat.and_le_right);unfold wand;show 0<=IntKind.wrap .i64 ((BitVec.ofInt 64 x &&& BitVec.ofInt 64 m).toNat:Int)/\IntKind.wrap .i64 ((BitVec.ofInt 64 x &&& BitVec.ofInt 64 m).toNat:Int)<=m;rw[ztC (by omega) (by omega)];omega
@[simp] theorem zK1 {c:Cur}(h:zbd c):zd1 c=true:=by
 refine zYy c ⟨0,?_⟩;unfold zwT oN;conv=>zeta
 refine zu rfl (zu rfl (zbB (fun a=>zu (qJ ⟨h.1,qE a⟩) (zbH aI ?_ (zRN (by omega) (by omega)))) (fun _=>zbH aI h.1 (zRN (by omega) (by omega)))));have d:c.i<ln c.b:=qE a;have e:=h.2;have f:=h.1;rw[zpw]at e;unfold ln at d;rw[ztB (by omega) (by omega)];omega
def z8X:zcU:=[(116,([false,true,true],zyr))]++zPK
theorem zV9:zb2 z8X:=zcu zy (by
 intro x a;simp only[qG,qO,or_false]at a;rcases a with rfl
 .exact zLL)
theorem zIx {b:List Int}{i h:Int}(a:0<=i)(c:b.length<=big):zbd ⟨b,i,h⟩:=⟨a,c⟩
theorem zZ9 {x n:Int}(a:0<=x)(b:0<n):0<=zqi x n/\zqi x n<n:=by unfold zqi;exact⟨Int.tmod_nonneg _ a,Int.tmod_lt_of_pos _ b⟩
def ztE (N:Nat)(c:Cur)(a0:Int):OA:=
 let e:=({ (zdb c) with b:=c.b}:Cur);let d:=({ (zdb e) with b:=c.b}:Cur);let a:=({ (zdb d) with b:=c.b}:Cur); (cond (ile a0 0) (some [(.agg [(.s .u8 c.b),(.i .i64 c.i),(.i .i64 c.h)]),(aI 0)]) (cond (ile a0 256) (oN (zd1 c) (oN (ine a0 0) (some [(.agg [(.s .u8 c.b),(.i .i64 (zdb c).i),(.i .i64 (zdb c).h)]),(aI (zqi (zfY c) a0))]))) (oN (zd1 c) (oN (zd1 e) (oN (zd1 d) (oN (zd1 a) (oN (ine a0 0) (some [(.agg [(.s .u8 c.b),(.i .i64 (zdb a).i),(.i .i64 (zdb a).h)]),(aI (zqi (zM .i64 (zM .i64 (zM .i64 (zng .i64 (zfY c) 16777216) (zng .i64 (zfY e) 65536)) (zng .i64 (zfY d) 256)) (zfY a)) a0))]))))))))
def zmF (c:Cur)(a0:Int)(s:Cur)(a:Int):Prop:=(∃N,ztE N c a0=some (AV.agg (zbS s)::[aI a]))/\(s.b=c.b/\0<=s.i)/\((0<a0->0<=a/\a<a0))
def zx (c:Cur)(a0:Int):Bool:=wC (zmF c a0)
def zf (c:Cur)(a0:Int):Cur:=wS (zmF c a0)
def zk (c:Cur)(a0:Int):Int:=wV (zmF c a0)
theorem zg1 {c:Cur}{a0:Int}(h:zx c a0=true):zmF c a0 (zf c a0) (zk c a0):=wG h
theorem zD (c:Cur)(a0:Int):0<=(zf c a0).i:=wP fun h=>h.2.1.2
theorem zWw (c:Cur)(a0:Int)(h:∃N,Ends (wE (fun a=>aI a) c.b fun a=>(0<a0->0<=a/\a<a0)) (ztE N c a0)):zx c a0=true:=wI (fun _ _ h=>h) h
def zvP:zdy:=rP1 dI fun c b=>(zx c b,zf c b,[aI (zk c b)])
theorem zt4:zbN Tryz.prog 54 [false,true,true] zvP:=hP1 zdC zU zV9 zn (zq []) (fun _ _ h=>(zg1 h).1)
theorem zby {c:Cur}(h:zbd c)(n:Int):zx c n=true:=by
 refine zWw c n ⟨0,?_⟩;have f:=zK1 h;have k:zd1 {zdb c with b:=c.b}=true:=zK1 (zIx (zmm _) h.2);have l:zd1 {zdb {zdb c with b:=c.b} with b:=c.b}=true:=zK1 (zIx (zmm _) h.2);have m:zd1 {zdb {zdb {zdb c with b:=c.b} with b:=c.b} with b:=c.b}=true:=zK1 (zIx (zmm _) h.2);have i:=(zml f).2.2;have q:=(zml k).2.2;have r:=(zml l).2.2;have s:=(zml m).2.2;unfold ztE oN;conv=>zeta
 refine zbB (fun d=>zbH aI h.1 (fun u=>absurd (qE d) (by omega))) (fun d=>?_);have u:¬ n<=0:=jW d;have j:ine n 0=true:=(by simp[ine];omega);refine zbB (fun t=>zu f (zu j (zbH aI (zmm _) (fun e=>zZ9 i.1 e)))) (fun t=>?_);refine zu f (zu k (zu l (zu m (zu j (zbH aI (zmm _) (fun e=>zZ9 ?_ e))))));generalize zfY c=a at i;generalize zfY _=g at q;generalize zfY _=p at r;generalize zfY _=z at s;have v:zng .i64 a 16777216=a*16777216:=ztC (by omega) (by omega);have w:zng .i64 g 65536=g*65536:=ztC (by omega) (by omega);have y:zng .i64 p 256=p*256:=ztC (by omega) (by omega);rw[v,w,y,ztB (x:=a*16777216) (by omega) (by omega),ztB (x:=a*16777216+g*65536) (by omega) (by omega),ztB (by omega) (by omega)];omega
def z8Y:zcU:=[(54,([false,true,true],zvP))]++z8X
theorem zJD:zb2 z8Y:=zcu zV9 (by
 intro x a;simp only[qG,qO,or_false]at a;rcases a with rfl
 .exact zt4)
def zwU (N:Nat)(c:Cur)(a0:Int):OA:=
 (oN (zx c a0) (some [(.agg [(.s .u8 c.b),(.i .i64 (zf c a0).i),(.i .i64 (zf c a0).h)]),(aB (ieq (zk c a0) 0))]))
def zoP (c:Cur)(a0:Int)(s:Cur)(a:Bool):Prop:=(∃N,zwU N c a0=some (AV.agg (zbS s)::[aB a]))/\(s.b=c.b/\0<=s.i)/\(True)
def zcT (c:Cur)(a0:Int):Bool:=wC (zoP c a0)
def zO (c:Cur)(a0:Int):Cur:=wS (zoP c a0)
def zc1 (c:Cur)(a0:Int):Bool:=wV (zoP c a0)
theorem zYz {c:Cur}{a0:Int}(h:zcT c a0=true):zoP c a0 (zO c a0) (zc1 c a0):=wG h
theorem zcg (c:Cur)(a0:Int):0<=(zO c a0).i:=wP fun h=>h.2.1.2
theorem zYA (c:Cur)(a0:Int)(h:∃N,Ends (wE (fun a=>aB a) c.b fun a=>True) (zwU N c a0)):zcT c a0=true:=wI (fun _ _ h=>h) h
def zys:zdy:=rP1 dI fun c b=>(zcT c b,zO c b,[aB (zc1 c b)])
theorem zLM:zbN Tryz.prog 94 [false,true,true] zys:=hP1 zdC zU zJD zn (zq []) (fun _ _ h=>(zYz h).1)
theorem ziw {c:Cur}(h:zbd c)(n:Int):zcT c n=true:=by refine zYA c n ⟨0,?_⟩;unfold zwU oN;exact zu (zby h _) (zbH aB (zD _ _) trivial)
def zps (N:Nat)(c:Cur)(a0:List Int):OA:=
 (oN (zx c (ln a0)) (oN (inb (zk c (ln a0)) (ln a0)) (some [(.agg [(.s .u8 c.b),(.i .i64 (zf c (ln a0)).i),(.i .i64 (zf c (ln a0)).h)]),(aI (ix a0 (zk c (ln a0)) 0))])))
def zkd (c:Cur)(a0:List Int)(s:Cur)(a:Int):Prop:=(∃N,zps N c a0=some (AV.agg (zbS s)::[aI a]))/\(s.b=c.b/\0<=s.i)/\((0<a0.length->a∈a0))
def zbp (c:Cur)(a0:List Int):Bool:=wC (zkd c a0)
def zba (c:Cur)(a0:List Int):Cur:=wS (zkd c a0)
def zbk (c:Cur)(a0:List Int):Int:=wV (zkd c a0)
theorem zzb {c:Cur}{a0:List Int}(h:zbp c a0=true):zkd c a0 (zba c a0) (zbk c a0):=wG h
theorem zbT (c:Cur)(a0:List Int):0<=(zba c a0).i:=wP fun h=>h.2.1.2
theorem zPQ (c:Cur)(a0:List Int)(h:∃N,Ends (wE (fun a=>aI a) c.b fun a=>(0<a0.length->a∈a0)) (zps N c a0)):zbp c a0=true:=wI (fun _ _ h=>h) h
def zsM:zdy:=rP1 (dS .int) fun c b=>(zbp c b,zba c b,[aI (zbk c b)])
theorem zrF:zbN Tryz.prog 83 [false,true,true] zsM:=hP1 zdC zU zJD zn (zq []) (fun _ _ h=>(zzb h).1)
theorem zeb {c:Cur}(h:zbd c){l:List Int}(b:l≠[]):zbp c l=true:=by refine zPQ c l ⟨0,?_⟩;have d:0<ln l:=(by unfold ln;have:=kR.2 b;omega);have g:=(zg1 (zby h (ln l))).2.2 d;have a:inb (zk c (ln l)) (ln l)=true:=qJ ⟨g.1,g.2⟩;unfold zps oN;exact zu (zby h _) (zu a (zbH aI (zD _ _) (fun _=>zbD a 0)))
def z8Z:zcU:=[(94,([false,true,true],zys)),(83,([false,true,true],zsM))]++z8Y
theorem zWa:zb2 z8Z:=zcu zJD (by
 intro x a;simp only[qG,qO,or_false]at a;rcases a with rfl|rfl
 .exact zLM
 .exact zrF)
def ctr3:zW:=zNS
theorem z9R:zK ctr3:=zdC
def ctr4:zW:=ctr3
theorem z9S:zK ctr4:=z9R
def ctr5:zW:=ctr4
theorem z9T:zK ctr5:=z9S
def ctr6:zW:=ctr5
theorem z9U:zK ctr6:=z9T
def ctr7:zW:=ctr6
theorem z9V:zK ctr7:=z9U
def ctr8:zW:=ctr7
theorem z9W:zK ctr8:=z9V
def ctr9:zW:=ctr8
theorem z9X:zK ctr9:=z9W
def z7A:zW:=ctr9
theorem z5u:zK z7A:=z9X
def z7B:zW:=z7A
theorem z5v:zK z7B:=z5u
def z7C:zW:=z7B
theorem z5w:zK z7C:=z5v
def z7D:zW:=z7C
theorem z5x:zK z7D:=z5w
def z7E:zW:=z7D
theorem z5y:zK z7E:=z5x
def z7F:zW:=z7E
theorem z5z:zK z7F:=z5y
def z7G:zW:=z7F
theorem z5A:zK z7G:=z5z
def z7H:zW:=z7G
theorem z5B:zK z7H:=z5A
def z7I:zW:=z7H
theorem z5C:zK z7I:=z5B
def z7J:zW:=z7I
theorem z5D:zK z7J:=z5C
def z7K:zW:=z7J
theorem z5E:zK z7K:=z5D
def z7L:zW:=z7K
theorem z5F:zK z7L:=z5E
def z7M:zW:=z7L
theorem z5G:zK z7M:=z5F
def ctrX:zW:=z7M
theorem ztr:∀f a,zl ctrX f=some a->Holds Tryz.prog f a:=z5G
def zN (_ _ _:Int):Bool:=true
def zT (x a b:Int):Bool:=ige x a&&ile x b
def zHQ:Run:=rF3 dI dI dI fun b c d=>(zN b c d,[aB (zT b c d)])
def zQE (N:Nat)(a0 a b:Int):OA:=
 (cond (ige a0 a) (some [(aB (ile a0 b))]) oF)
theorem zYg (a0 a b:Int)(c:zN a0 a b=true):∃N,zQE N a0 a b=some [aB (zT a0 a b)]:=by refine⟨0,?_⟩;unfold zQE zT;cases ige a0 a<;>rfl
theorem zR9:vM 87 zHQ:=kF3 ztr zU zy zn (zq []) zYg
def zio (_ _:Int):Bool:=true
abbrev zka (i n:Int):Bool:=hasB i n
def zRA:Run:=rF2 dI dI fun b c=>(zio b c,[aB (zka b c)])
def zY7 (N:Nat)(a0 a:Int):OA:=
 (cond (ige a0 0) (some [(aB (ilt a0 a))]) oF)
theorem z3L (a0 a:Int)(b:zio a0 a=true):∃N,zY7 N a0 a=some [aB (zka a0 a)]:=by refine⟨0,?_⟩;unfold zY7 zka;rw[<- has_eq];cases ige a0 0<;>rfl
theorem zXT:vM 55 zRA:=kF2 ztr zU zy zn (zq []) z3L
theorem zDR {n:Nat}(c:n<=big)(i:Int):zT i 0 (wsub .i64 (n:Int) 1)=hasB i n:=by rw[zpw]at c;rw[zzn (by omega) (by omega)];unfold zT ige ile hasB;by_cases a:0<=i<;>by_cases b:i<n;{rw [qJ (p:=i≥0) (by omega),qJ (p:=i<=(n:Int)-1) (by omega),qJ (p:=0<=i/\i<(n:Int)) ⟨a,b⟩];rfl};{rw [qL (p:=i<=(n:Int)-1) (by omega),qL (p:=0<=i/\i<(n:Int)) (by omega)];simp};{rw [qL (p:=i≥0) (by omega),qL (p:=0<=i/\i<(n:Int)) (by omega)];simp};{rw [qL (p:=i≥0) (by omega),qL (p:=0<=i/\i<(n:Int)) (by omega)];simp}
def zfL (l:List (List Int)):Bool:=pc (CVB sm (.s (.sl .int) l))
abbrev zeh (l:List (List Int)):List (List Int):=l
def zBX:Run:=rF1 (dS (.sl .int)) fun b=>(zfL b,[aS (.sl .int) (zeh b)])
def zG6 (N:Nat)(a0:lM):OA:=
 (iter (σ:=(Int×(lM×(lM×Unit)))) N (fun c a=>let b:=(ap [] (ix a.2.1 a.1 [])); (cond (ilt a.1 (ln a.2.1)) (oN (inb a.1 (ln a.2.1)) (oN (few (ln b)) (oN (few (ln (ap a.2.2.1 [b]))) (c ((zM .i64 a.1 1),(a.2.1,((ap a.2.2.1 [b]),()))))))) (some [(aS (.sl .int) a.2.2.1)]))) (0,(a0,([],()))))
def zTi:FuncId->Nat->Option Tmpl:=zq [(131,0,{n:=22,tm:=[(0,.sl 0 []),(3,.sl 1 []),(4,ti)],lo:=[],ro:=[(0,(.sl .int),false),(1,(.sl .int),true)]})]
theorem zSN (a0:List (List Int))(e:zfL a0=true):∃N,zG6 N a0=some [aS (.sl .int) (zeh a0)]:=by
 have d:=zL.1 e;have c:=zcF d.len;refine⟨a0.length+1,?_⟩;unfold zG6 oN;conv=>zeta
 refine(zbm a0 (fun i a=>((i:Int),(a0,(a,())))) _ (fun _ x a k=>bif few (ln x) then (cond (few (ln (ap a [x]))) (k (ap a [x])) none) else none) (fun a=>some [AV.one (.s (.sl .int) a)])
  (fun i b t rec=>?_) (fun t rec=>?_) _ [] (jS _)).trans ((ziW (fun x=>few (ln x)) (fun x=>x) _ a0 0 [] (fun x f=>⟨zgi (zcF (d.inv.2 x f _ (qF.2 rfl)).len).2,rfl⟩) (by simpa using c.2)))
 {simp only [zbs b,zbe b,zbj b,cT,zbh b c.1,zlU]};{simp only [zbn,cF]}
theorem zLP:vM 131 zBX:=kF1 ztr zU zy zn zTi zSN
abbrev zfM (k:Kept):Bool:=pc (∀c∈Ty.cells .kept k,CVB sm c)
abbrev zdp (k:Kept):Kept:=k
def zBY:Run:=rF1 (dT .kept) fun b=>(zfM b,[aT .kept (zdp b)])
def zG8 (N:Nat)(a0:Kept):OA:=
 (oN (few (ln (ap [] a0.Known))) (oN (few (ln (ap [] a0.Slots))) (some [(.agg [(.s .bool (ap [] a0.Known)),(.s .slot (ap [] a0.Slots))])])))
theorem zSP (a0:Kept)(c:zfM a0=true):∃N,zG8 N a0=some [aT .kept (zdp a0)]:=by have h:=zL.1 c;have a:=znR (h (.s .bool a0.Known) (by simp[Ty.cells]));have b:=znR (h (.s .slot a0.Slots) (by simp[Ty.cells]));refine⟨0,?_⟩;simp only[zG8,zlU,a,b,cT];rfl
theorem zLR:vM 197 zBY:=kF1 ztr zU zy zn (zq []) zSP
def zdj (g:Guest):Bool:=pc (∀c∈Ty.cells .guest g,CVB sm c)
abbrev zc2 (g:Guest):Guest:=g
def zBZ:Run:=rF1 (dT .guest) fun b=>(zdj b,[aT .guest (zc2 b)])
def zG9 (N:Nat)(a0:Guest):OA:=
 (oN (few (ln (ap [] a0.Prog))) (oN (few (ln (ap [] a0.Written))) (oN (few (ln (ap [] a0.Live))) (oN (few (ln (ap [] a0.Seen))) (some [(.agg [(.s .ins (ap [] a0.Prog)),(.i .i64 a0.A),(.i .i64 a0.Pc),(.s .slot (ap [] a0.Written)),(.s .slot (ap [] a0.Live)),(.i .i64 a0.Ctl.Traps),(.i .i64 a0.Ctl.Post),(.b a0.Ctl.Open),(.i .i64 a0.Pending),(.i .i64 a0.Exit.Kind),(.i .i64 a0.Exit.Page),(.b a0.Exit.Write),(.i .i64 a0.Exit.N),(.b a0.Halted),(.s .int (ap [] a0.Seen))])])))))
theorem zSQ (a0:Guest)(e:zdj a0=true):∃N,zG9 N a0=some [aT .guest (zc2 a0)]:=by have h:=zL.1 e;have a:=znR (h (.s .ins a0.Prog) (by simp[Ty.cells]));have b:=znR (h (.s .slot a0.Written) (by simp[Ty.cells]));have c:=znR (h (.s .slot a0.Live) (by simp[Ty.cells]));have d:=znR (h (.s .int a0.Seen) (by simp[Ty.cells]));refine⟨0,?_⟩;simp only[zG9,zlU,a,b,c,d,cT];rfl
theorem zLV:vM 272 zBZ:=kF1 ztr zU zy zn (zq []) zSQ
def z7N:zW:=[(87,zHQ),(55,zRA),(131,zBX),(197,zBY),(272,zBZ)]++ctrX
theorem zT9:zK z7N:=zi zR9 (zi zXT (zi zLP (zi zLR (zi zLV ztr))))
def zfr (l:List Guest):Bool:=pc (CVB sm (.s .guest l))
abbrev zfO (l:List Guest):List Guest:=l
def zwh:Run:=rF1 (dS .guest) fun b=>(zfr b,[aS .guest (zfO b)])
def zBj (N:Nat)(a0:lG):OA:=
 (iter (σ:=(Int×(lG×(lG×Unit)))) N (fun c a=>let b:=(ix a.2.1 a.1 zC); (cond (ilt a.1 (ln a.2.1)) (oN (inb a.1 (ln a.2.1)) (oN (zdj b) (oN (few (ln (ap a.2.2.1 [(zc2 b)]))) (c ((zM .i64 a.1 1),(a.2.1,((ap a.2.2.1 [(zc2 b)]),()))))))) (some [(aS .guest a.2.2.1)]))) (0,(a0,([],()))))
def zNF:FuncId->Nat->Option Tmpl:=zq [(196,0,{n:=21,tm:=[(0,.sl 0 []),(3,.sl 1 []),(4,ti)],lo:=[],ro:=[(0,.guest,false),(1,.guest,true)]})]
theorem zMy (a0:List Guest)(e:zfr a0=true):∃N,zBj N a0=some [aS .guest (zfO a0)]:=by
 have d:=zL.1 e;have c:=zcF d.len;refine⟨a0.length+1,?_⟩;unfold zBj oN;conv=>zeta
 refine(zbm a0 (fun i a=>((i:Int),(a0,(a,())))) _ (fun _ x a k=>bif zdj x then (cond (few (ln (ap a [zc2 x]))) (k (ap a [zc2 x])) none) else none) (fun a=>some [AV.one (.s .guest a)])
  (fun i b t rec=>?_) (fun t rec=>?_) _ [] (jS _)).trans ((ziW zdj zc2 _ a0 0 [] (fun x f=>⟨zbg (d.inv.2 x f),rfl⟩) (by simpa using c.2)))
 {simp only [zbs b,zbe b,zbj b,cT,zbh b c.1]};{simp only [zbn,cF]}
theorem zGe:vM 196 zwh:=kF1 zT9 zU zy zn zNF zMy
def z7O:zW:=[(196,zwh)]++z7N
theorem zUa:zK z7O:=zi zGe zT9
abbrev zjm (m:Mon):Bool:=pc (∀c∈Ty.cells .mon m,CVB sm c)
abbrev zm9 (m:Mon):Mon:=m
def zEF:Run:=rF1 (dT .mon) fun b=>(zjm b,[aT .mon (zm9 b)])
def zKL (N:Nat)(a0:Mon):OA:=
 (oN (few (ln (ap [] a0.Outer))) (oN (zfL a0.Out) (oN (few (ln (ap [] a0.Dirty))) (oN (zfr a0.Guests) (oN (few (ln (ap [] a0.Outs))) (iter (σ:=(Int×(Int×(Int×(Int×(Int×(Int×(Int×(lK×(lS×(lM×(lB×(lG×((List Int)×(lK×(lS×(lM×(lB×(lG×((List Int)×(lK×Unit))))))))))))))))))))) N (fun e a=>let d:=a.2.2.2.2.2.2.2.2.2.2.2.2.1;let b:=a.2.2.2.2.2.2.2.2.2.2.2.2.2.1;let c:=(ap a.2.2.2.2.2.2.2.1 [(zdp (ix b a.1 zep))]); (cond (ilt a.1 (ln b)) (oN (inb a.1 (ln b)) (oN (zfM (ix b a.1 zep)) (oN (few (ln c)) (e ((zM .i64 a.1 1),(a.2.1,(a.2.2.1,(a.2.2.2.1,(a.2.2.2.2.1,(a.2.2.2.2.2.1,(a.2.2.2.2.2.2.1,(c,(a.2.2.2.2.2.2.2.2.1,(a.2.2.2.2.2.2.2.2.2.1,(a.2.2.2.2.2.2.2.2.2.2.1,(a.2.2.2.2.2.2.2.2.2.2.2.1,(d,(b,(a.2.2.2.2.2.2.2.2.2.2.2.2.2.2.1,(a.2.2.2.2.2.2.2.2.2.2.2.2.2.2.2.1,(a.2.2.2.2.2.2.2.2.2.2.2.2.2.2.2.2.1,(a.2.2.2.2.2.2.2.2.2.2.2.2.2.2.2.2.2.1,(a.2.2.2.2.2.2.2.2.2.2.2.2.2.2.2.2.2.2.1,(a.2.2.2.2.2.2.2.2.2.2.2.2.2.2.2.2.2.2.2.1,())))))))))))))))))))))))) (some [(.agg [(.s .slot a.2.2.2.2.2.2.2.2.1),(.s (.sl .int) a.2.2.2.2.2.2.2.2.2.1),(.s .bool a.2.2.2.2.2.2.2.2.2.2.1),(.s .guest a.2.2.2.2.2.2.2.2.2.2.2.1),(.s .int d),(.i .i64 a.2.1),(.i .i64 a.2.2.1),(.s .kept a.2.2.2.2.2.2.2.1),(.i .i64 a.2.2.2.1)])]))) (0,(a0.Pending,(a0.Traps,(a0.Own,(0,(0,(0,([],((ap [] a0.Outer),((zeh a0.Out),((ap [] a0.Dirty),((zfO a0.Guests),((ap [] a0.Outs),(a0.Tables,([],([],([],([],([],([],()))))))))))))))))))))))))))
def zXo:FuncId->Nat->Option Tmpl:=zq [(117,0,{n:=48,tm:=[(1,.lp 0 0),(2,.lp 1 0),(3,.sl 0 []),(4,ti)],lo:=[(0,[.sl 1 [],.sl 2 [],.sl 3 [],.sl 4 [],.sl 5 [],ti,ti,.sl 6 [],ti]),(1,[.sl 7 [],.sl 8 [],.sl 9 [],.sl 10 [],.sl 11 [],ti,ti,.sl 12 [],ti])],ro:=[(0,.kept,true),(1,.slot,true),(2,(.sl .int),true),(3,.bool,true),(4,.guest,true),(5,.int,true),(6,.kept,false),(7,.slot,true),(8,(.sl .int),true),(9,.bool,true),(10,.guest,true),(11,.int,true),(12,.kept,true)]})]
theorem zVM (a0:Mon)(m:zjm a0=true):∃N,zKL N a0=some [aT .mon (zm9 a0)]:=by
 have h:=zL.1 m;have e:=znR (h (.s .slot a0.Outer) (by simp[Ty.cells]));have f:zfL a0.Out=true:=zbg (h (.s (.sl .int) a0.Out) (by simp[Ty.cells]));have g:=znR (h (.s .bool a0.Dirty) (by simp[Ty.cells]));have j:zfr a0.Guests=true:=zbg (h (.s .guest a0.Guests) (by simp[Ty.cells]));have l:=znR (h (.s .int a0.Outs) (by simp[Ty.cells]));have c:CVB sm (.s .kept a0.Tables):=h (.s .kept a0.Tables) (by simp[Ty.cells]);have d:=zcF c.len;refine⟨a0.Tables.length+1,?_⟩;unfold zKL oN;conv=>zeta
 simp only[zlU,e,f,g,j,l,cT];refine(zbm a0.Tables (fun i a=>((i:Int),a0.Pending,a0.Traps,a0.Own,0,0,0,a,a0.Outer,zeh a0.Out,a0.Dirty,zfO a0.Guests,a0.Outs,a0.Tables,[],[],[],[],[],[],())) _
  (fun _ x a k=>bif zfM x then (cond (few (ln (ap a [zdp x]))) (k (ap a [zdp x])) none) else none) (fun a=>some [AV.agg (Ty.cells .mon ⟨a0.Outer,a0.Out,a0.Dirty,a0.Guests,a0.Outs,a0.Pending,a0.Traps,a,a0.Own⟩)])
  (fun i b t rec=>?_) (fun t rec=>?_) _ [] (jS _)).trans ((ziW zfM zdp _ a0.Tables 0 [] (fun x n=>⟨zbg (c.inv.2 x n),rfl⟩) (by simpa using d.2)))
 {simp only [zbs b,zbe b,zbj b,cT,zbh b d.1]};{simp only [zbn,cF];rfl}
theorem zOK:vM 117 zEF:=kF1 zUa zU zy zn zXo zVM
def z7P:zW:=[(117,zEF)]++z7O
theorem zUb:zK z7P:=zi zOK zUa
def zEN (h:Host)(_:Int):Bool:=pc (zci h)
def zeL (h:Host)(m:Int):Mon:=bif hasB m (ln h.Mons) then ix h.Mons m zh else Ty.dflt .mon
def zrT (h:Host)(m:Int):Bool:=hasB m (ln h.Mons)
def zxk:Run:=rF2 dH dI fun b c=>(zEN b c,[aT .mon (zeL b c),aB (zrT b c)])
def zQz (N:Nat)(a0:Host)(b:Int):OA:=
 let c:=(ix a0.Mons b zh);let a:=(zm9 c); (oN (zN b 0 (wsub .i64 (ln a0.Mons) 1)) (cond (nB (zT b 0 (wsub .i64 (ln a0.Mons) 1))) (some [(.agg [(.s .slot []),(.s (.sl .int) []),(.s .bool []),(.s .guest []),(.s .int []),(.i .i64 0),(.i .i64 0),(.s .kept []),(.i .i64 0)]),(aB false)]) (oN (inb b (ln a0.Mons)) (oN (zjm c) (some [(.agg [(.s .slot a.Outer),(.s (.sl .int) a.Out),(.s .bool a.Dirty),(.s .guest a.Guests),(.s .int a.Outs),(.i .i64 a.Pending),(.i .i64 a.Traps),(.s .kept a.Tables),(.i .i64 a.Own)]),(aB true)])))))
theorem zYb (a0:Host)(a:Int)(d:zEN a0 a=true):∃N,zQz N a0 a=some [aT .mon (zeL a0 a),aB (zrT a0 a)]:=by
 have h:=(zL.1 d).mons;refine⟨0,?_⟩;unfold zQz zeL zrT oN nB;conv=>zeta
 have e:zT a 0 (wsub .i64 (ln a0.Mons) 1)=hasB a (ln a0.Mons):=zDR (zcF h.len).1 a;rw[e];cases b:hasB a (ln a0.Mons);{simp [zN,Ty.cells,Ty.dflt]};{have c:zjm (ix a0.Mons a zh)=true:=zbg (h.inv.2 _ (zbD b _));simp only[zN,cT,jM,cF,zJ b,c];rfl}
theorem zBq:vM 57 zxk:=kF2 zUb zU zy zn (zq []) zYb
def z7Q:zW:=[(57,zxk)]++z7P
theorem z5H:zK z7Q:=zi zBq zUb
def z7R:zW:=z7Q
theorem z5I:zK z7R:=z5H
def ctrY:zW:=z7R
theorem zxX:∀f a,zl ctrY f=some a->Holds Tryz.prog f a:=z5I
def noSlot:Slot:=⟨-1,0⟩
def zcv:Bool:=true
abbrev zbu:Slot:=noSlot
def zuA:Run:=rF0 (zcv,[aT .slot zbu])
def z0c (N:Nat)  : OA :=
 (some [(.agg [(.i .i64 (-1)),(.i .i64 0)])])
theorem zVw  (a:zcv=true):∃N,z0c N  = some [aT .slot zbu]:=by exact⟨0,rfl⟩
theorem zx9:vM 75 zuA:=kF0 zxX zU zy zn (zq []) zVw
def zfG:Bool:=true
abbrev zgb:Slot:=noSlot
def zEb:Run:=rF0 (zfG,[aT .slot zgb])
def z0a (N:Nat)  : OA :=
 (some [(.agg [(.i .i64 (-1)),(.i .i64 0)])])
theorem zVa  (a:zfG=true):∃N,z0a N  = some [aT .slot zgb]:=by exact⟨0,rfl⟩
theorem zN8:vM 126 zEb:=kF0 zxX zU zy zn (zq []) zVa
def zcm (_ _ _:Int):Bool:=true
def zcH (x a b:Int):Bool:=ige x a&&ile x b
def zEi:Run:=rF3 dI dI dI fun b c d=>(zcm b c d,[aB (zcH b c d)])
def zKj (N:Nat)(a0 a b:Int):OA:=
 (cond (ige a0 a) (some [(aB (ile a0 b))]) oF)
theorem zVi (a0 a b:Int)(c:zcm a0 a b=true):∃N,zKj N a0 a b=some [aB (zcH a0 a b)]:=by refine⟨0,?_⟩;unfold zKj zcH;cases ige a0 a<;>rfl
theorem zOf:vM 171 zEi:=kF3 zxX zU zy zn (zq []) zVi
def z7S:zW:=[(75,zuA),(126,zEb),(171,zEi)]++ctrY
theorem zIo:zK z7S:=zi zx9 (zi zN8 (zi zOf zxX))
def zcY (r:Int):Bool:=ige r 0&&ile r 3
def ziB (_:Int):Bool:=true
abbrev zgo (r:Int):Bool:=zcY r
def zyW:Run:=rF1 dI fun b=>(ziB b,[aB (zgo b)])
def zTM (N:Nat)(a0:Int):OA:=
 (oN (zN a0 0 3) (some [(aB (zT a0 0 3))]))
theorem zPi (a0:Int)(a:ziB a0=true):∃N,zTM N a0=some [aB (zgo a0)]:=by exact⟨0,rfl⟩
theorem zI0:vM 119 zyW:=kF1 zIo zU zy zn (zq []) zPi
def zn0 (_:Int):Bool:=true
abbrev zla (r:Int):Bool:=zcY r
def zyD:Run:=rF1 dI fun b=>(zn0 b,[aB (zla b)])
def zTI (N:Nat)(a0:Int):OA:=
 (oN (zcm a0 0 3) (some [(aB (zcH a0 0 3))]))
theorem zOU (a0:Int)(a:zn0 a0=true):∃N,zTI N a0=some [aB (zla a0)]:=by exact⟨0,rfl⟩
theorem zIG:vM 118 zyD:=kF1 zIo zU zy zn (zq []) zOU
def z7T:zW:=[(119,zyW),(118,zyD)]++z7S
theorem ztO:zK z7T:=zi zI0 (zi zIG zIo)
def zdO (a b:Int):Int:=bif zcY a then (cond (zcY b) (wand .i64 a b) 0) else 0
def zp1 (_ _:Int):Bool:=true
abbrev zgY (a b:Int):Int:=zdO a b
def zus:Run:=rF2 dI dI fun b c=>(zp1 b c,[aI (zgY b c)])
def zxO (N:Nat)(a0 a:Int):OA:=
 (oN (ziB a0) (cond (nB (zgo a0)) (some [(aI 0)]) (oN (ziB a) (cond (nB (zgo a)) (some [(aI 0)]) (some [(aI (wand .i64 a0 a))])))))
theorem zJs (a0 a:Int)(b:zp1 a0 a=true):∃N,zxO N a0 a=some [aI (zgY a0 a)]:=by refine⟨0,?_⟩;unfold zxO zgY zdO zgo oN nB;cases zcY a0<;>cases zcY a<;>rfl
theorem zDA:vM 331 zus:=kF2 ztO zU zy zn (zq []) zJs
def enough (a b:Int):Bool:=bif zcY a then (cond (zcY b) (ieq (wand .i64 a b) b) false) else false
def zgn (_ _:Int):Bool:=true
abbrev zgZ (a b:Int):Bool:=enough a b
def zEm:Run:=rF2 dI dI fun b c=>(zgn b c,[aB (zgZ b c)])
def zKn (N:Nat)(a0 a:Int):OA:=
 (oN (ziB a0) (cond (zgo a0) (oN (ziB a) (cond (zgo a) (some [(aB (ieq (wand .i64 a0 a) a))]) oF)) oF))
theorem zVn (a0 a:Int)(b:zgn a0 a=true):∃N,zKn N a0 a=some [aB (zgZ a0 a)]:=by refine⟨0,?_⟩;unfold zKn zgZ enough zgo oN;cases zcY a0<;>cases zcY a<;>rfl
theorem zOj:vM 65 zEm:=kF2 ztO zU zy zn (zq []) zVn
def zeq (_ _:Int):Bool:=true
abbrev ze5 (a b:Int):Bool:=enough a b
def zD7:Run:=rF2 dI dI fun b c=>(zeq b c,[aB (ze5 b c)])
def zJ7 (N:Nat)(a0 a:Int):OA:=
 (oN (zn0 a0) (cond (zla a0) (oN (zn0 a) (cond (zla a) (some [(aB (ieq (wand .i64 a0 a) a))]) oF)) oF))
theorem zU5 (a0 a:Int)(b:zeq a0 a=true):∃N,zJ7 N a0 a=some [aB (ze5 a0 a)]:=by refine⟨0,?_⟩;unfold zJ7 ze5 enough zla oN;cases zcY a0<;>cases zcY a<;>rfl
theorem zN4:vM 64 zD7:=kF2 ztO zU zy zn (zq []) zU5
def zbz (t:List Slot)(p:Int):Slot:=bif hasB p (ln t) then ix t p zQ else noSlot
def zjg (_:List Slot)(_:Int):Bool:=true
abbrev zg0 (t:List Slot)(p:Int):Slot:=zbz t p
def zEx:Run:=rF2 (dS .slot) dI fun b c=>(zjg b c,[aT .slot (zg0 b c)])
def zKD (N:Nat)(a0:lS)(a:Int):OA:=
 (oN (zN a 0 (wsub .i64 (ln a0) 1)) (cond (nB (zT a 0 (wsub .i64 (ln a0) 1))) (oN zcv (some [(.agg [(.i .i64 zbu.Page),(.i .i64 zbu.Rights)])])) (oN (inb a (ln a0)) (some [(.agg [(.i .i64 (ix a0 a zQ).Page),(.i .i64 (ix a0 a zQ).Rights)])]))))
theorem zVE (a0:List Slot)(a:Int)(b:zb6 big [aS .slot a0,aI a])(f:zjg a0 a=true):∃N,zKD N a0 a=some [aT .slot (zg0 a0 a)]:=by have d:=(len0 b);refine⟨0,?_⟩;unfold zKD zg0 zbz oN nB;have e:zT a 0 (wsub .i64 (ln a0) 1)=hasB a (ln a0):=zAh d a;rw[e];cases c:hasB a (ln a0);{rfl};{rw [zJ c];rfl}
theorem zOu:vM 285 zEx:=hF2 ztO zU zy zn (zq []) zVE
def z7U:zW:=[(331,zus),(65,zEm),(64,zD7),(285,zEx)]++z7T
theorem zUc:zK z7U:=zi zDA (zi zOj (zi zN4 (zi zOu ztO)))
def zcV (a b:Slot):Bool:=ieq a.Page b.Page&&ieq a.Rights b.Rights
def below' (a b:Slot):Bool:=bif zcV a noSlot then true else (cond (ieq a.Page b.Page) (enough b.Rights a.Rights) false)
def zbv (s:Slot)(a:List Slot):Slot :=
 bif ieq s.Page (-1) then noSlot else (cond (ieq (zbz a s.Page).Page (-1)) noSlot (cond (ieq (zdO s.Rights (zbz a s.Page).Rights) 0) noSlot ⟨(zbz a s.Page).Page,zdO s.Rights (zbz a s.Page).Rights⟩))
def zkc (_:Slot)(_:List Slot):Bool:=true
def zmz (s:Slot)(a:List Slot):Slot:=zbv s a
def zsO:Run:=rF2 (dT .slot) (dS .slot) fun b c=>(zkc b c,[aT .slot (zmz b c)])
def zu6 (N:Nat)(a0:Slot)(b:lS):OA:=
 let a:=(zg0 b a0.Page); (oN (zjg b a0.Page) (oN (zp1 a0.Rights a.Rights) (cond (ieq a0.Page (-1)) (oN zcv (some [(.agg [(.i .i64 zbu.Page),(.i .i64 zbu.Rights)])])) (cond (ieq a.Page (-1)) (oN zcv (some [(.agg [(.i .i64 zbu.Page),(.i .i64 zbu.Rights)])])) (cond (ieq (zgY a0.Rights a.Rights) 0) (oN zcv (some [(.agg [(.i .i64 zbu.Page),(.i .i64 zbu.Rights)])])) (some [(.agg [(.i .i64 a.Page),(.i .i64 (zgY a0.Rights a.Rights))])]))))))
theorem zGg (a0:Slot)(a:List Slot)(b:zkc a0 a=true):∃N,zu6 N a0 a=some [aT .slot (zmz a0 a)]:=by
 refine⟨0,?_⟩;unfold zu6 zmz zbv zg0 zgY oN;conv=>zeta
 cases ieq a0.Page (-1)<;>cases ieq (zbz a a0.Page).Page (-1)<;>cases ieq (zdO a0.Rights (zbz a a0.Page).Rights) 0<;>rfl
theorem zCh:vM 324 zsO:=kF2 zUc zU zy zn (zq []) zGg
def zdn (x:Int):Int:=bif (ige x 1&&ile x 6) then zXv .i64 (wsub .i64 x 1) 2 else -1
def zdX (x:Int):Int:=bif (ige x 1&&ile x 6) then zqi (wsub .i64 x 1) 2 else -1
def z7V:zW:=[(324,zsO)]++z7U
theorem z5J:zK z7V:=zi zCh zUc
theorem zbav {a b:Type}{l:List a}{m:List b}(h:ine (ln l) (ln m)=false):l.length=m.length:=by have:(ln l==ln m)=true:=(by simpa [ine,bne] using h);have:=eq_of_beq this;simp only[ln] at this;omega
def z7W:zW:=z7V
theorem z5K:zK z7W:=z5J
def zcX (h:Host)(e:Entry):Bool :=
 bif hasB (zdn e.Tag) (ln h.Mons) then (bif hasB (zdX e.Tag) (ln (ix h.Mons (zdn e.Tag) zh).Guests) then
  below' ⟨e.Host,e.Rights⟩ (zbv (zbz (ix (ix h.Mons (zdn e.Tag) zh).Guests (zdX e.Tag) zC).Live e.Page) (ix h.Mons (zdn e.Tag) zh).Outer) else false) else false
def z7X:zW:=z7W
theorem z5L:zK z7X:=z5K
def ctrW:zW:=z7X
theorem zNT:∀f a,zl ctrW f=some a->Holds Tryz.prog f a:=z5L
theorem hE (h:Host):(⟨h.Memory,h.Mons,h.Buffer,h.IoBuffer⟩:Host)=h:=rfl
def idxs {a:Type}(p:a->Bool):List a->Nat->List Int
 |[],_=>[]
 |x::l,i=>bif p x then (i:Int)::idxs p l (i+1) else idxs p l (i+1)
theorem zAd {a:Type}(p:a->Bool):∀(l:List a) (i:Nat),(idxs p l i).length<=l.length
 |[],_=>qZ _
 |x::l,i=>by have:=zAd p l (i+1);simp only[idxs];cases p x<;>simp<;>omega
theorem ztY {b c:Type}(p:b->Bool)(K:List Int->Option c):∀(l:List b) (i:Nat) (a:List Int),a.length+l.length<=2147483648->
 goL (fun i x a k=>bif p x then (cond (few (ln (ap a [(i:Int)]))) (k (ap a [(i:Int)])) none) else k a) K l i a=K (a++idxs p l i)
 |[],i,a,_=>by simp[goL,idxs]
 |x::l,i,a,h=>by simp only[qY]at h;simp only[goL,idxs];cases p x;{simp only [cF];exact ztY p K l (i+1) a (by omega)};{simp only [cT];rw[zgi (by simp[ap];omega),cT,ztY p K l (i+1) _ (by simp[ap];omega)];simp[ap]}
def zxb (p:Nat->Bool):Nat->Nat->List Int
 | 0,_=>[]
 |n+1,i=>bif p i then (i:Int)::zxb p n (i+1) else zxb p n (i+1)
theorem zzY {b:Type}(p:Nat->Bool)(K:List Int->Option b):∀(n i:Nat) (a:List Int),a.length+n<=2147483648->
 goN (fun i a k=>bif p i then (cond (few (ln (ap a [(i:Int)]))) (k (ap a [(i:Int)])) none) else k a) K n i a=K (a++zxb p n i)
 | 0,i,a,_=>by simp[goN,zxb]
 |n+1,i,a,h=>by simp only[goN,zxb];cases p i;{simp only [cF];exact zzY p K n (i+1) a (by omega)};{simp only [cT];rw[zgi (by simp[ap];omega),cT,zzY p K n (i+1) _ (by simp[ap];omega)];simp[ap]}
abbrev zAF (l:List Slot)(_:Int):Bool:=pc (l.length<=2147483648)
abbrev zp9 (l:List Slot)(p:Int):List Int:=idxs (fun (s:Slot)=>ieq s.Page p) l 0
def zEB:Run:=rF2 (dS .slot) dI fun b c=>(zAF b c,[aS .int (zp9 b c)])
def zKH (N:Nat)(a0:lS)(c:Int):OA:=
 (iter (σ:=(Int×(Int×(lS×((List Int)×Unit))))) N (fun b a=>(cond (ilt a.2.1 (ln a.2.2.1)) (oN (inb a.2.1 (ln a.2.2.1)) (cond (ieq (ix a.2.2.1 a.2.1 zQ).Page a.1) (oN (few (ln (ap a.2.2.2.1 [a.2.1]))) (b (a.1,((zM .i64 a.2.1 1),(a.2.2.1,((ap a.2.2.2.1 [a.2.1]),())))))) (b (a.1,((zM .i64 a.2.1 1),(a.2.2.1,(a.2.2.2.1,()))))))) (some [(aS .int a.2.2.2.1)]))) (c,(0,(a0,([],())))))
def zXk:FuncId->Nat->Option Tmpl:=zq [(61,0,{n:=26,tm:=[(0,.sl 0 []),(1,ti),(5,.sl 1 []),(6,ti)],lo:=[],ro:=[(0,.slot,false),(1,.int,true)]})]
theorem zVI (a0:List Slot)(a:Int)(f:zb6 big [aS .slot a0,aI a])(g:zAF a0 a=true):∃N,zKH N a0 a=some [aS .int (zp9 a0 a)]:=by have d:=(len0 f);have h:=zL.1 g;refine zcq fun N c=>?_;unfold zKH oN;refine(zbm a0 (fun i (t:(List Int))=>(a,(i:Int),a0,t,())) _ (fun i (x:Slot) (t:List Int) e=>bif ieq x.Page a then (cond (few (ln (ap t [(i:Int)]))) (e (ap t [(i:Int)])) none) else e t) (fun (t:(List Int))=>(some [(.one (.s .int t))])) (fun i b t rec=>?_) (fun t rec=>?_) _ ([]) (c d)).trans ?_;{simp only [zbs b,zbe b,zbj b,zbh b d,cT]};{simp only [zbn,cF]};exact ztY (fun (s:Slot)=>ieq s.Page a) _ _ 0 [] (by simpa using h)
theorem zOy:vM 61 zEB:=hF2 zNT zU zy zn zXk zVI
abbrev zAa (l:List Slot)(_:Int):Bool:=pc (l.length<=2147483648)
abbrev zkt (l:List Slot)(p:Int):List Int:=idxs (fun (s:Slot)=>ieq s.Page p) l 0
def zEh:Run:=rF2 (dS .slot) dI fun b c=>(zAa b c,[aS .int (zkt b c)])
def zKi (N:Nat)(a0:lS)(e:Int):OA:=
 (iter (σ:=(Int×(Int×(Int×((List Int)×(lS×Unit)))))) N (fun d a=>let c:=a.2.2.2.2.1;let b:=a.2.2.1; (cond (ilt b a.2.1) (oN (inb b (ln c)) (cond (ieq (ix c b zQ).Page a.1) (oN (few (ln (ap a.2.2.2.1 [b]))) (d (a.1,(a.2.1,((zM .i64 b 1),((ap a.2.2.2.1 [b]),(c,()))))))) (d (a.1,(a.2.1,((zM .i64 b 1),(a.2.2.2.1,(c,())))))))) (some [(aS .int a.2.2.2.1)]))) (e,((ln a0),(0,([],(a0,()))))))
def zXa:FuncId->Nat->Option Tmpl:=zq [(204,0,{n:=26,tm:=[(1,ti),(5,.sl 0 []),(9,.sl 1 []),(10,ti),(11,ti)],lo:=[],ro:=[(0,.int,true),(1,.slot,false)]})]
theorem zVh (a0:List Slot)(a:Int)(f:zb6 big [aS .slot a0,aI a])(g:zAa a0 a=true):∃N,zKi N a0 a=some [aS .int (zkt a0 a)]:=by
 have d:=(len0 f);have h:=zL.1 g;refine zcq fun N c=>?_;unfold zKi oN;conv=>zeta
 refine(zbm a0 (fun i (t:(List Int))=>(a,(ln a0),(i:Int),t,a0,())) _ (fun i (x:Slot) (t:List Int) e=>bif ieq x.Page a then (cond (few (ln (ap t [(i:Int)]))) (e (ap t [(i:Int)])) none) else e t) (fun (t:(List Int))=>(some [(.one (.s .int t))])) (fun i b t rec=>?_) (fun t rec=>?_) _ ([]) (c d)).trans ?_;{simp only [zbs b,zbe b,zbj b,zbh b d,cT]};{simp only [zbn,cF]};exact ztY (fun (s:Slot)=>ieq s.Page a) _ _ 0 [] (by simpa using h)
theorem zOe:vM 204 zEh:=hF2 zNT zU zy zn zXa zVh
def z7Y:zW:=[(61,zEB),(204,zEh)]++ctrW
theorem z5M:zK z7Y:=zi zOy (zi zOe zNT)
def z7Z:zW:=z7Y
theorem z5N:zK z7Z:=z5M
def z8a:zW:=z7Z
theorem zIp:zK z8a:=z5N
def all2 {a:Type}(b:a->a->Bool):List a->List a->Bool
 |[],[]=>true
 |x::l,y::m=>b x y&&all2 b l m
 |_,_=>false
theorem zTR {a:Type}(b:a->a->Bool):∀(l m:List a),l.length≠m.length->all2 b l m=false
 |[],[],h=>absurd rfl h
 |[],_::_,_=>rfl
 |_::_,[],_=>rfl
 |x::l,y::m,h=>by simp only[all2,zTR b l m (by simpa using h),Bool.and_false]
theorem zUG {c g:Type}(e:c->c->Bool)(d:c)(b:List c)(r:Option g)(K:Unit->Option g):∀(a:List c) (i:Nat),a.length+i=b.length->
 goL (fun i x (_:Unit) k=>bif e x (ix b (i:Int) d) then k () else r) K a i ()=bif all2 e a (b.drop i) then K () else r
 |[],i,h=>by have:b.drop i=[]:=List.drop_eq_nil_of_le (by simp at h;omega);rw[this];rfl
 |x::a,i,h=>by simp only[qY]at h;have f:i<b.length:=(by omega);rw[kL f];simp only[goL,all2,zbj f];cases e x b[i];{rfl};{simp only [cT,uH];exact zUG e d b r K a (i+1) (by omega)}
theorem zbbL {a b:Type}{l:List a}{m:List b}(h:ine (ln l) (ln m)=true):l.length≠m.length:=by intro e;simp only[ine,ln,e,bne_self_eq_false]at h;cases h
theorem znn (x y:Int):ine x y = !ieq x y:=rfl
def eqI (a b:List Int):Bool:=all2 ieq a b
def zgy (_ _:List Int):Bool:=true
def zhN (a b:List Int):Bool:=eqI a b
def zsr:Run:=rF2 (dS .int) (dS .int) fun b c=>(zgy b c,[aB (zhN b c)])
def zG7 (N:Nat)(a0 b:List Int):OA:=
 (cond (ine (ln a0) (ln b)) oF (iter (σ:=(Int×((List Int)×((List Int)×Unit)))) N (fun c a=>(cond (ilt a.1 (ln a.2.1)) (oN (inb a.1 (ln a.2.1)) (oN (inb a.1 (ln a.2.2.1)) (cond (ine (ix a.2.1 a.1 0) (ix a.2.2.1 a.1 0)) oF (c ((zM .i64 a.1 1),(a.2.1,(a.2.2.1,()))))))) oT)) (0,(a0,(b,())))))
def zTj:FuncId->Nat->Option Tmpl:=zq [(229,0,{n:=26,tm:=[(0,.sl 0 []),(1,.sl 1 []),(5,ti)],lo:=[],ro:=[(0,.int,false),(1,.int,false)]})]
theorem zSO (a0 a:List Int)(h:zb6 big [aS .int a0,aS .int a])(k:zgy a0 a=true):∃N,zG7 N a0 a=some [aB (zhN a0 a)]:=by have g:=(len0 h);refine zcq fun N d=>?_;unfold zG7 zhN eqI oN;cases f:ine (ln a0) (ln a);{have e:=zbav f;rw[cF];refine(zbm a0 (fun i (t:Unit)=>((i:Int),a0,a,())) _ (fun i (x:Int) (_:Unit) j=>bif ieq x (ix a (i:Int) 0) then j () else oF) (fun (t:Unit)=>(some [(.one (.b true))])) (fun i c t rec=>?_) (fun t rec=>?_) _ () (d g)).trans ?_;{simp only [zbs c,zbe c,zbj c,zbh c g,cT];simp only[zbe (l:=a) (i:=i) (e ▸ c),cT,znn];cases ieq a0[i] (ix a (↑i) 0)<;>rfl};{simp only [zbn,cF]};rw[zUG ieq 0 a _ _ a0 0 (by simpa using e),vB];cases all2 ieq a0 a<;>rfl};{rw [zTR _ _ _ (zbbL f)];rfl}
theorem zvG:vM 229 zsr:=hF2 zIp zU zy zn zTj zSO
def zdJ (l:List Int):Bool:=pc (l.length<=2147483648)
abbrev zdF (l:List Int):List Int:=l
def zyG:Run:=rF1 (dS .int) fun b=>(zdJ b,[aS .int (zdF b)])
def zCz (N:Nat)(a0:List Int):OA:=
 (oN (few (ln (ap [] a0))) (some [(aS .int (ap [] a0))]))
theorem zOX (a0:List Int)(a:zdJ a0=true):∃N,zCz N a0=some [aS .int (zdF a0)]:=by refine⟨0,?_⟩;unfold zCz oN;rw[zlU,zgi (zL.1 a),cT]
theorem zIJ:vM 199 zyG:=kF1 zIp zU zy zn (zq []) zOX
def z8b:zW:=[(229,zsr),(199,zyG)]++z8a
theorem zIq:zK z8b:=zi zvG (zi zIJ zIp)
def zAW:List Int:=rp 4 0
def zcp (m:List (List Int))(p:Int):List Int:=bif hasB p (ln m) then ix m p [] else zAW
def zjf (m:List (List Int))(_:Int):Bool:=pc (CVB sm (.s (.sl .int) m))
def zm4 (m:List (List Int))(p:Int):List Int:=zcp m p
theorem z4v {m:List (List Int)}{p:Int}(b:CVB sm (.s (.sl .int) m))(a:hasB p (ln m)=true):(ix m p []).length<=2147483648 :=
 (zcF (b.inv.2 _ (zbD a ([]:List Int)) (.s .int _) (qF.2 rfl)).len).2
def zEs:Run:=rF2 (dS (.sl .int)) dI fun b c=>(zjf b c,[aS .int (zm4 b c)])
def zKv (N:Nat)(a0:lM)(a:Int):OA:=
 (oN (zN a 0 (wsub .i64 (ln a0) 1)) (cond (nB (zT a 0 (wsub .i64 (ln a0) 1))) (oN (cond (few 4) (ieq 4 4) false) (some [(aS .int (rp 4 0))])) (oN (inb a (ln a0)) (oN (few (ln (ap [] (ix a0 a [])))) (some [(aS .int (ap [] (ix a0 a [])))])))))
theorem zVx (a0:List (List Int))(a:Int)(d:zjf a0 a=true):∃N,zKv N a0 a=some [aS .int (zm4 a0 a)]:=by have c:=zL.1 d;refine⟨0,?_⟩;unfold zKv zm4 zcp oN nB;have e:zT a 0 (wsub .i64 (ln a0) 1)=hasB a (ln a0):=zAh (zcF c.len).1 a;rw[e];cases b:hasB a (ln a0);{rfl};{simp only [zN,cT,cF,zJ b,zlU,zgi (z4v c b)]}
theorem zOp:vM 132 zEs:=kF2 zIq zU zy zn (zq []) zVx
def zz7 (m:List (List Int))(_:Int):Bool:=pc (CVB sm (.s (.sl .int) m))
def zz6 (m:List (List Int))(p:Int):List Int:=zcp m p
def zEc:Run:=rF2 (dS (.sl .int)) dI fun b c=>(zz7 b c,[aS .int (zz6 b c)])
def zKc (N:Nat)(a0:lM)(a:Int):OA:=
 (oN (zio a (ln a0)) (cond (nB (zka a (ln a0))) (oN (cond (few 4) (ieq 4 4) false) (some [(aS .int (rp 4 0))])) (oN (inb a (ln a0)) (oN (zdJ (ix a0 a [])) (some [(aS .int (zdF (ix a0 a [])))])))))
theorem zVb (a0:List (List Int))(a:Int)(c:zz7 a0 a=true):∃N,zKc N a0 a=some [aS .int (zz6 a0 a)]:=by have d:=zL.1 c;refine⟨0,?_⟩;unfold zKc zz6 zcp zka oN nB;cases b:hasB a (ln a0);{rfl};{simp only [zio,cT,cF,zJ b,show zdJ (ix a0 a [])=true from zbg (z4v d b),zdF]}
theorem zN9:vM 125 zEc:=kF2 zIq zU zy zn (zq []) zVb
def z8c:zW:=[(132,zEs),(125,zEc)]++z8b
theorem zUd:zK z8c:=zi zOp (zi zN9 zIq)
def zcB (h:Host)(m p:Int):List Int :=
 bif hasB m (ln h.Mons) then (cond (hasB p 8) (cond (ine (zbz (ix h.Mons m zh).Outer p).Page (-1)) (zcp h.Memory (zbz (ix h.Mons m zh).Outer p).Page) (zcp (ix h.Mons m zh).Out p)) zAW) else zAW
theorem has8 (p:Int):zT p 0 7=hasB p 8:=by unfold zT ige ile hasB;by_cases a:0<=p<;>by_cases b:p<8;{rw [qJ (p:=p≥0) (by omega),qJ (p:=p<=7) (by omega),qJ (p:=0<=p/\p<8) ⟨a,b⟩];rfl};{rw [qL (p:=p<=7) (by omega),qL (p:=0<=p/\p<8) (by omega)];simp};{rw [qL (p:=p≥0) (by omega),qL (p:=0<=p/\p<8) (by omega)];simp};{rw [qL (p:=p≥0) (by omega),qL (p:=0<=p/\p<8) (by omega)];simp}
def zAB (h:Host)(_ _:Int):Bool:=pc (zci h)
def zAA (h:Host)(m p:Int):List Int:=zcB h m p
def zuC:Run:=rF3 dH dI dI fun b c d=>(zAB b c d,[aS .int (zAA b c d)])
def zKx (N:Nat)(a0:Host)(b a:Int):OA:=
 let c:=(ix a0.Mons b zh);let d:=(zg0 c.Outer a).Page; (oN (zN b 0 (wsub .i64 (ln a0.Mons) 1)) (cond (nB (zT b 0 (wsub .i64 (ln a0.Mons) 1))) (oN (cond (few 4) (ieq 4 4) false) (some [(aS .int (rp 4 0))])) (oN (zN a 0 7) (cond (nB (zT a 0 7)) (oN (cond (few 4) (ieq 4 4) false) (some [(aS .int (rp 4 0))])) (oN (inb b (ln a0.Mons)) (oN (zjg c.Outer a) (cond (ine d (-1)) (oN (zjf a0.Memory d) (some [(aS .int (zm4 a0.Memory d))])) (oN (zjf c.Out a) (some [(aS .int (zm4 c.Out a))])))))))))
theorem zVz (a0:Host)(a b:Int)(f:zAB a0 a b=true):∃N,zKx N a0 a b=some [aS .int (zAA a0 a b)]:=by
 have c:=zL.1 f;refine⟨0,?_⟩;unfold zKx zAA zcB oN nB;conv=>zeta
 have e:zT a 0 (wsub .i64 (ln a0.Mons) 1)=hasB a (ln a0.Mons):=zAh (zcF c.mons.len).1 a;rw[e,has8];cases d:hasB a (ln a0.Mons);{rfl};{cases h:hasB b 8;{rfl};{have g:CVB sm (.s (.sl .int) (ix a0.Mons a zh).Out):=c.mons.inv.2 _ (zbD d zh) (.s (.sl .int) _) (by simp[Ty.cells]);simp only[zN,cT,cF,zJ d,zjg,zg0,show ∀p,zjf a0.Memory p=true from fun p=>zbg c.mem,show ∀p,zjf (ix a0.Mons a zh).Out p=true from fun p=>zbg g,zm4];cases ine (zbz (ix a0.Mons a zh).Outer b).Page (-1)<;>rfl}}
theorem zyb:vM 230 zuC:=kF3 zUd zU zy zn (zq []) zVz
def z8d:zW:=[(230,zuC)]++z8c
theorem z5O:zK z8d:=zi zyb zUd
def z8e:zW:=z8d
theorem z5P:zK z8e:=z5O
def ctrV:zW:=z8e
theorem z98:∀f a,zl ctrV f=some a->Holds Tryz.prog f a:=z5P
def ctrU:zW:=ctrV
theorem zfj:zK ctrU:=z98
def zpL:zhe:=z6A
theorem zB:zfQ zpL:=zU
def canRun (g:Guest):Bool:=bif (ieq g.Exit.Kind 0&&(ieq g.Exit.Page 0&&(zhf g.Exit.Write false&&ieq g.Exit.N 0))) then !g.Halted else false
def zs9 (_:Guest):Bool:=true
abbrev zp2 (g:Guest):Bool:=canRun g
def zEk:Run:=rF1 (dT .guest) fun b=>(zs9 b,[aB (zp2 b)])
def zKl (N:Nat)(a0:Guest):OA:=
 (cond (cond (ieq a0.Exit.Kind 0) (cond (ieq a0.Exit.Page 0) (cond (zhf a0.Exit.Write false) (ieq a0.Exit.N 0) false) false) false) (some [(aB (nB a0.Halted))]) oF)
theorem zVk (a0:Guest)(a:zs9 a0=true):∃N,zKl N a0=some [aB (zp2 a0)]:=by refine⟨0,?_⟩;unfold zKl zp2 canRun nB;cases ieq a0.Exit.Kind 0<;>cases ieq a0.Exit.Page 0<;>cases zhf a0.Exit.Write false<;>cases ieq a0.Exit.N 0<;>simp
theorem zOh:vM 47 zEk:=kF1 zxX zU zy zn (zq []) zVk
end
end Go.Proofs.YthdlghbibaoabaaGreat.E
