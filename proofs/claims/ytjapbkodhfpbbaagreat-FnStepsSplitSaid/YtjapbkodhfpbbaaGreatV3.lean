/- What is proved here: a part of the proof that the statement of this claim holds (several texts of wip/, laid together). -/
import Derived.Test.YtjapbkodhfpbbaaGreatV2
import Derived.HandedShaped
import Derived.ProofKit
import Derived.KernelRfl
namespace Go.Proofs.YtjapbkodhfpbbaaGreat.E
open Go
set_option linter.constructorNameAsVariable false
set_option linter.unusedVariables false
set_option maxRecDepth 100000
set_option linter.unusedSimpArgs false
set_option linter.unusedSectionVars false
noncomputable section
section
variable {C:Cfg} {ops:Array Oper} {b:Bool} {base:Nat}
theorem zUz {s:List Nat}{x:Nat}:znZ s x=true↔x∈s:=by unfold znZ;rw[uD];constructor;{rintro⟨y,a,h⟩;rw[kK h];exact a};{exact λh=>⟨x,h,Nat.beq_refl x⟩}
theorem zzK {s:List Nat}:∀{l:List Nat} {x:Nat},x∈addN l s↔x∈l\/x∈s
 |[],x=>by simp[addN]
 |a::l,x=>by
  have c:=λy=>@zzK s l y;show x∈cond (znZ (addN l s) a) (addN l s) (a::addN l s)↔_
  cases h:znZ (addN l s) a with
  |true=>rw[cond_true,c,qG];constructor;{rintro (b|b);{exact .inl (.inr b)};{exact .inr b}};{rintro ((b|b)|b);{rw [b];exact(c a).1 (zUz.1 h)};{exact .inl b};{exact .inr b}}
  |false=>rw[cond_false,qG,c,qG,or_assoc]
theorem zMC {b:List (List Nat)}:∀{l:List Edge} {e:Edge},e∈l->Region.binds .any e=true->
 e.on∈l.foldr (λe s=>cond (Region.binds .any e) (cond (znZ s e.on) s<|addN (b.getD e.on []) (e.on::s)) s) []
 |a::l,e,c,f=>by rw[List.foldr_cons];generalize h:l.foldr (λe s=>cond (Region.binds .any e) (cond (znZ s e.on) s<|addN (b.getD e.on []) (e.on::s)) s) []=s;have up:∀x,x∈s->x∈cond (Region.binds .any a) (cond (znZ s a.on) s<|addN (b.getD a.on []) (a.on::s)) s:=λx d=>(by cases Region.binds .any a with|false=>exact d|true=>(cases znZ s a.on with|true=>exact d|false=>exact zzK.2 (.inr<|qY _ d)));rcases qG.1 c with rfl|c;{rw [f,cond_true];cases g:znZ s e.on with|true=>exact zUz.1 g|false=>exact zzK.2 (.inr jB)};{exact up _ (h ▸ zMC c f)}
theorem zMD {b:List (List Nat)}:∀{l:List Edge} {j:Nat},j∈l.foldr (λe s=>cond (Region.binds .any e) (cond (znZ s e.on) s<|addN (b.getD e.on []) (e.on::s)) s) []->
 ∃e∈l,Region.binds .any e=true/\(j=e.on\/j∈b.getD e.on [])
 |[],j,h=>by cases h
 |a::l,j,h=>by
  rw[List.foldr_cons]at h;have up:j∈l.foldr (λe s=>cond (Region.binds .any e) (cond (znZ s e.on) s<|addN (b.getD e.on []) (e.on::s)) s) []->∃e∈a::l,Region.binds .any e=true/\(j=e.on\/j∈b.getD e.on []):=λh=>by obtain⟨e,f,g⟩:=zMD h;exact⟨e,qY _ f,g⟩
  cases c:Region.binds .any a with
  |false=>rw[c]at h;exact up h
  |true=>
   rw[c,cond_true]at h;cases d:znZ (l.foldr (λe s=>cond (Region.binds .any e) (cond (znZ s e.on) s<|addN (b.getD e.on []) (e.on::s)) s) []) a.on with
   |true=>rw[d]at h;exact up h
   |false=>rw[d,cond_false]at h;rcases zzK.1 h with h|h;{exact⟨a,jB,c,.inr h⟩};{rcases qG.1 h with h|h;{exact⟨a,jB,c,.inl h⟩};{exact up h}}
theorem zMJ (i:Nat)(r:List Nat)(a:List (List Nat)):ziG ops (i::r) a=ziG ops r (a++[waits ops a i]):=rfl
theorem zxE:∀(m:Nat) (a:List (List Nat)),∃l,ziG ops (List.range' a.length m) a=a++l/\l.length=m/\
 ∀k,k<m->(a++l)[a.length+k]?=some (waits ops ((a++l).take (a.length+k))<|a.length+k)
 | 0,a=>⟨[],by simp[ziG],rfl,λk h=>by omega⟩
 |m+1,a=>by obtain⟨l,c,g,d⟩:=zxE m (a++[waits ops a a.length]);have b:(a++[waits ops a a.length]).length=a.length+1:=(by simp);rw[b]at c d;refine⟨waits ops a a.length::l,?_,by simp[g],λk h=>?_⟩;{rw [vH,zMJ,c];simp};{have e:a++waits ops a a.length::l=(a++[waits ops a a.length])++l:=(by simp);cases k with|zero=>rw[jW,qR<|qW _,k7,kO rfl];rfl|succ k=>have f:a.length+(k+1)=a.length+1+k:=(by omega);rw[e,f];exact d k (by omega)}
theorem zY0 {i:Nat}(c:i<ops.size):(ziG ops (List.range ops.size) []).getD i []=waits ops ((ziG ops (List.range ops.size) []).take i) i:=by obtain⟨l,a,d,b⟩:=zxE (ops:=ops) ops.size [];simp only[kN,jP,jX]at a b;rw[List.range_eq_range',a,kA,b i c];rfl
structure Pinned (n:Nat) (cl:List (List Nat)) (m:Nat):Prop where
 full:∀j,j<m->j∈cl.getD m []
 wait:∀k,m<k->k<n->m∈cl.getD k []
theorem zwZ {n m:Nat}{a:List (List Nat)}(h:pinned n a m=true):Pinned n a m:=by unfold pinned z1Z at h;simp only[qE,qM,kJ,jM,q0,List.mem_range']at h;refine⟨h.1,λk b c=>h.2 k ⟨k-(m+1),by omega,by omega⟩⟩
theorem zsf {n m:Nat}{a:List (List Nat)}{p:Bool}{r:List Bool}(h:p::r=(zih n a).drop m):m<n/\p=pinned n a m/\r=(zih n a).drop (m+1):=by have b:m<(zih n a).length:=(by rcases vA m (zih n a).length with c|c;{exact c};{rw [List.drop_eq_nil_of_le c]at h;cases h});rw[kX b]at h;simp only[List.cons.injEq]at h;refine⟨by simpa [zih] using b,?_,h.2⟩;rw[h.1];simp[zih]
theorem zUZ {n m:Nat}{a:List (List Nat)}(h:[]=(zih n a).drop m):n<=m:=by have:=List.drop_eq_nil_iff.1 h.symm;simpa [zih] using this
theorem zQu {n:Nat}{a:List (List Nat)}:∀(r:List Bool) (m:Nat),m<=n->r=(zih n a).drop m->
 m+zcu r<=n/\r.drop (zcu r)=(zih n a).drop (m+zcu r)/\(m+zcu r<n->Pinned n a (m+zcu r))
 |[],m,c,h=>by have:=zUZ h;refine⟨by simp[zcu];omega,by simpa [zcu] using h,λb=>?_⟩;simp[zcu]at b;omega
 |true::r,m,c,h=>by obtain⟨i,j,_⟩:=zsf h;refine⟨by simp[zcu];omega,by simpa [zcu] using h,λ_=>?_⟩;simp only[zcu,jW];exact zwZ j.symm
 |false::r,m,c,h=>by obtain⟨i,_,k⟩:=zsf h;obtain⟨d,f,g⟩:=zQu r (m+1) (by omega) k;have e:m+zcu (false::r)=m+1+zcu r:=(by simp only[zcu];omega);rw[e];refine⟨d,?_,g⟩;rw[<- f];rfl
theorem zvH {X:Nat->Bool}:∀(ss:List Step) (i:Nat) (a:St),(∀k,i<=k->X k=false)->zbD ops b X i ss a=a
 |[],_,_,_=>rfl
 |s::ss,i,a,h=>by simp only[zbD];rw[h i<|qW _];simp only[kE,if_false];exact zvH ss (i+1) a (λk c=>h k (by omega))
theorem zre {X Y:Nat->Bool}:∀(ss:List Step) (i:Nat) (a:St),(∀k,i<=k->k<i+ss.length->X k=Y k)->zbD ops b X i ss a=zbD ops b Y i ss a
 |[],_,_,_=>rfl
 |s::ss,i,a,h=>by simp only[zbD];rw[h i (qW _) (by simp)];exact zre ss (i+1) _ (λk d c=>h k (by omega) (by simp only[qZ];omega))
def At1 (C:Cfg)(ops:Array Oper)(base i:Nat)(o:Oper)(S:St)(f:Foot):Step->Prop
 |some d=>zdy ops o S=some true/\zky C S o (base+32*i)=some d/\d.c=true/\f=zfG C S ops o d
 |none=>zdy ops o S=some false/\f=zlT ops o
theorem zWc {i:Nat}{ss:List Step}{m:List (Nat×Foot)}{l c:St}(h:Trace C ops b base i ss m l c):∀(k:Nat) (s:Step),ss[k]?=some s->
 ∃o f,ops[i+k]?=some o/\(i+k,f)∈m/\At1 C ops base (i+k) o (zbD ops b (λj=>decide (j<i+k)) i ss l) f s:=by
 induction h with
 |nil i l=>intro k s a;simp at a
 |run g hg v u h r=>rename_i i o d ss m l c;intro k s a;cases k with|zero=>simp only[qH,qC]at a;subst a;refine⟨o,_,g,jB,?_⟩;rw[zvH _ _ _ (λk w=>by simp;omega)];exact⟨hg,v,u,rfl⟩|succ k=>obtain⟨t,f,n,p,q⟩:=r k s (by simpa using a);have e:i+(k+1)=i+1+k:=(by omega);refine⟨t,f,by rw[e];exact n,by rw[e];exact qY _ p,?_⟩;rw[e];simp only[zbD,g];rw[if_pos (by simp;omega)];exact q
 |skip g hg h r=>rename_i i o ss m l c;intro k s a;cases k with|zero=>simp only[qH,qC]at a;subst a;refine⟨o,_,g,jB,?_⟩;rw[zvH _ _ _ (λk w=>by simp;omega)];exact⟨hg,rfl⟩|succ k=>obtain⟨t,f,n,p,q⟩:=r k s (by simpa using a);have e:i+(k+1)=i+1+k:=(by omega);refine⟨t,f,by rw[e];exact n,by rw[e];exact qY _ p,?_⟩;rw[e];simp only[zbD,g];rw[if_pos (by simp;omega)];exact q
theorem zQH {i:Nat}{ss:List Step}{f:List (Nat×Foot)}{e a:St}(h:Trace C ops b base i ss f e a):a=zbD ops b (λ_=>true) i ss e:=by induction h with|nil i e=>rfl|run c hg j g h d=>simp only[zbD,c,if_true];exact d|skip c hg h d=>simp only[zbD,c,if_true];exact d
theorem z2G {X:Nat->Bool}{i:Nat}{s:Step}{a:St}:(one ops b X i s a).ep=a.ep:=by unfold one;split;{split;{exact zOV};{rfl}};{rfl}
theorem z9k {X:Nat->Bool}{i:Nat}{s:Step}{a:St}:(one ops b X i s a).stk=a.stk:=by unfold one;split;{split;{exact zVF};{rfl}};{rfl}
theorem z9j {X:Nat->Bool}{i:Nat}{s:Step}{a:St}:(one ops b X i s a).nid=a.nid:=by unfold one;split;{split;{exact z5R};{rfl}};{rfl}
theorem zic {X:Nat->Bool}:∀(ss:List Step) (i:Nat) (a:St),(zbD ops b X i ss a).ep=a.ep
 |[],_,_=>rfl
 |s::ss,i,a=>(zic ss (i+1) _).trans (z2G (X:=X) (i:=i) (s:=s))
theorem zr1 {X:Nat->Bool}:∀(ss:List Step) (i:Nat) (a:St),(zbD ops b X i ss a).stk=a.stk
 |[],_,_=>rfl
 |s::ss,i,a=>(zr1 ss (i+1) _).trans (z9k (X:=X) (i:=i) (s:=s))
theorem zCA {X:Nat->Bool}:∀(ss:List Step) (i:Nat) (a:St),(zbD ops b X i ss a).nid=a.nid
 |[],_,_=>rfl
 |s::ss,i,a=>(zCA ss (i+1) _).trans (z9j (X:=X) (i:=i) (s:=s))
def Dead (a:St):Prop:=∀n R e,zo a.ro n=some R->R.ep=some e->e<a.ep
theorem z3y {o:Oper}{s:Step}{c:St}(h:Dead c)(m:0<c.ep):Dead (c.step true o s):=by
 intro n R e b a;rw[zOV];rw[zOW,zbM]at b;split at b
 .rename_i x hx;cases b;cases s with
  |none=>cases hx
  |some d=>
   have g:=znV hx;simp only[dro,jE]at g;obtain⟨⟨k,i⟩,_,f⟩:=g;simp only[jS]at f;obtain⟨_,rfl⟩:=f;unfold zf3 at a;split at a;{simp only [qC]at a;omega}
   .rename_i hne;exact absurd a (by
     cases l:i.ep with
     |none=>simp
     |some j=>exact absurd l (hne j rfl))
 {exact h n R e b a}
theorem zzg {X:Nat->Bool}:∀(ss:List Step) (i:Nat) (a:St),Dead a->0<a.ep->Dead (zbD ops true X i ss a)
 |[],_,_,h,_=>h
 |s::ss,i,a,h,b=>by refine zzg (X:=X) ss (i+1) (one ops true X i s a) ?_ (by rw[z2G];exact b);unfold one;split;{split;{exact z3y h b};{exact h}};{exact h}
end
section
variable {C:Cfg} {ops:Array Oper} {b:Bool} {base:Nat}
def Foot.reads (f:Foot):Key->Prop
 |.tm t=>t∈f.tm
 |.ro n=>n∈f.ro
 |.lo n=>n∈f.lo
def Foot.writes (f:Foot):Key->Prop
 |.tm t=>f.dst=some t
 |.ro n=>n∈f.wro
 |.lo n=>n∈f.wlo
theorem zq8 {a c:List Nat}(h:zCj a c=true):∀x∈a,x∉c:=by intro x b;have:=qM.1 h x b;simpa using this
theorem apart_spec {x y:Foot}(h:x.apart y=true):(∀a,x.writes a->¬ y.reads a/\¬ y.writes a)/\(∀a,y.writes a->¬ x.reads a):=by unfold Foot.apart at h;simp only[qE]at h;obtain⟨⟨⟨⟨⟨c,d⟩,e⟩,f⟩,g⟩,i⟩:=h;refine⟨λa b=>?_,λa b=>?_⟩;{cases a with|tm t=>simp only[Foot.writes]at b;rw[b]at c;simp only[qE,jF,beq_eq_false_iff_ne,jM,decide_eq_false_iff_not]at c;exact⟨c.1,c.2⟩|ro n=>have:=zq8 e n b;simp only[jH,not_or] at this;exact this|lo n=>have:=zq8 g n b;simp only[jH,not_or] at this;exact this};{cases a with|tm t=>simp only[Foot.writes]at b;rw[b]at d;simpa [Foot.reads] using d|ro n=>exact zq8 f n b|lo n=>exact zq8 i n b}
theorem zCk {i:Nat}{o:Oper}{S:St}{f:Foot}{s:Step}(h:At1 C ops base i o S f s)(a:Key):wr o s a↔f.writes a:=by cases s with|none=>obtain⟨_,rfl⟩:=h;cases a<;>simp [wr,Foot.writes,zlT]|some d=>obtain⟨_,_,_,rfl⟩:=h;cases a<;>simp [wr,Foot.writes,zfG,zf8]
def Does (C:Cfg)(ops:Array Oper)(base i:Nat)(o:Oper)(S:St):Step->Prop
 |some d=>zdy ops o S=some true/\zky C S o (base+32*i)=some d/\d.c=true
 |none=>zdy ops o S=some false
theorem zxK {o:Oper}{S a:St}(h:∀t∈zxL ops o,a.tm[t]?=S.tm[t]?):zdy ops o a=zdy ops o S:=by unfold zdy;cases hg:o.guard with|none=>rfl|some f=>obtain⟨j,b⟩:=f;simp only;have e:guardOf a ops j=guardOf S ops j:=(by unfold guardOf;cases d:ops[j]? with|none=>rfl|some g =>simp only;(cases c:g.dst with|none=>rfl|some t=>simp only;exact h t (by simp[zxL,hg,ziX,d,c])));rw[e]
theorem z0e {S a:St}(b:a.ep=S.ep){n:Nat}(c:zo a.ro n=zo S.ro n):a.root n=S.root n:=by unfold St.root;rw[c,b]
theorem zPN {S d:St}(c:d.ep=S.ep):∀(own:List Bool) (cells:List At),(∀a∈cells,∀n∈zbo a,zo d.ro n=zo S.ro n)->d.blk own cells=S.blk own cells
 |[],[],_=>rfl
 |[],_::_,_=>rfl
 |_::_,[],_=>rfl
 |o::ms,a::r,h=>by have g:=zPN c ms r λb f=>h b (qY _ f);have e:=h a jB;simp only[St.blk];rw[g];cases a with|sl q p=>(cases p with|nil=>simp only[z0e c<|e q (by simp[zbo])]|cons x p=>rfl)|_=>rfl
theorem zCX {S c:St}(a:c.ep=S.ep):∀(b:List Nat),(∀k∈b,zo c.ro k=zo S.ro k)->killed c b=killed S b
 |[],_=>rfl
 |k::b,h=>by simp only[killed];rw[h k jB,zCX a b λj d=>h j (qY _ d),a]
theorem zGR {c:Type}{p q:c->Bool}:∀{l:List c},(∀a∈l,p a=q a)->l.all p=l.all q
 |[],_=>rfl
 |a::l,h=>by rw[kW,kW,h a jB,zGR λb d=>h b (qY _ d)]
theorem z07 {S c:St}{L:List Operand}(h:Agree S c L){b:List Nat}{x:Operand}(f:x∈L){m:MV}(d:S.opnd x=some m):c.avF b m=S.avF b m:=by unfold St.avF;have e:zDY c b m=zDY S b m:=(by unfold zDY;refine zGR λa g=>zGR λr i=>?_;rw[h.rootN<|(h.id x f m d a g).1 r i]);rw[e,h.avOf f d]
theorem zUX {S d:St}{o:Oper}{id:Nat}(h:Agree S d (callArgs o))(q:∀x∈callArgs o,∀l p,S.at x=some (.lp l p)->∀cells,zo S.lo l=some cells->∀a∈cells,∀n∈zbo a,zo d.ro n=zo S.ro n):zlB C d o id=zlB C S o id:=by unfold zlB;cases zkf C o with|none=>rfl|some y=>obtain⟨own,E⟩:=y;simp only;(cases z:callArgs o with|nil=>rfl|cons x t=>rw[z]at h q;simp only[zOO];have f:d.at x=S.at x:=h.at jB;rw[f];split;{rename_i l r;have i:zo d.lo l=zo S.lo l:=h.loc (zeg jB r);rw[i];split;{rename_i cells c;have b:=q x jB l 0 r cells c;rw[zPN h.ep own cells b];split;{rename_i u e w;have B:=zSP own cells u e w;have g:killed d e=killed S e:=zCX h.ep e λk g=>(by obtain⟨j,_,A⟩:=B.ownk k g;exact b _ (qJ A) k (by simp[zbo]));have v:zcD (zSL d e) t=zcD (zSL S e) t:=(by refine zlx λy s=>?_;unfold zSL;rw[h.op y<|qY _ s];cases D:S.opnd y with|none=>rfl|some m=>exact z07 h (qY _ s) D);rw[v,g]};{rfl}};{rfl}};{rfl})
theorem zwQ {o:Oper}:∀x∈callArgs o,x∈o.op.operands.toList:=by
 intro x a;unfold callArgs at a;split at a
 .rename_i c hc;rw[hc];simp only[Op.operands,Call.operands];simp
  first
   |exact .inr (by simpa using a)
   |exact .inl (by simpa using a)
   |simp_all
 {cases a}
theorem zSM {i:Nat}{o:Oper}{S S':St}{f:Foot}{s:Step}(h:At1 C ops base i o S f s)(A:S'.ep=S.ep)(w:∀k,f.reads k->S'.get k=S.get k):Does C ops base i o S' s:=by
 cases s with
 |none=>obtain⟨E,rfl⟩:=h;show zdy ops o S'=some false;rw[zxK (S:=S) λt z=>zJ1 (w (.tm t) (by simpa [Foot.reads,zlT] using z))];exact E
 |some d=>
  obtain⟨E,M,N,rfl⟩:=h;have B:∀t,t∈zo1 o++zxL ops o->S'.tm[t]?=S.tm[t]?:=λt z=>zJ1 (w (.tm t) z);have v:∀x∈o.op.operands.toList,S'.opnd x=S.opnd x:=(by intro x c;cases x with|tmp t=>have z:t∈zo1 o:=(by unfold zo1;exact uO.2 ⟨_,c,rfl⟩);simp only[St.opnd,B t<|j5 _ z]|_=>rfl);refine⟨?_,?_,N⟩;{rw [zxK (S:=S) λt z=>B t (kI _ z)];exact E}
  .rw [<- M];cases b:zvV o with
   |true=>unfold zvV at b;split at b;{rename_i t g;have e:=v (.tmp t) (by rw[g];simp[Op.operands]);have L:delta C S' o (base+32*i)=delta C S o (base+32*i):=(by simp only[delta,g,e]);have H:zkf C o=none:=(by unfold zkf;rw[g]);unfold zky;rw[L];cases delta C S o (base+32*i) with|some K=>rfl|none=>simp only[zlB,H]};{cases b}
   |false=>
   have w:∀k,(zf8 S ops o d).reads k\/(∃n,k = .ro n/\n∈(zf8 S ops o d).ro++cond (zkf C o).isSome (zCw S o) [])->S'.get k=S.get k:=(by intro k j;refine w k ?_;rcases j with j|⟨n,rfl,u⟩;{cases k with|tm t=>exact j|ro n=>show n∈(zfG C S ops o d).ro;unfold zfG;rw[b];exact j5 _ j|lo n=>show n∈(zfG C S ops o d).lo;unfold zfG;rw[b];exact j};{show n∈(zfG C S ops o d).ro;unfold zfG;rw[b];exact u});have F:∀x∈o.op.operands.toList,∀m,S.opnd x=some m->∀a∈zbI m,a∈zto S o:=λx c m r a q=>(by unfold zto;exact qP.2 ⟨m,uO.2 ⟨x,c,r⟩,q⟩);have I:Agree S S' o.op.operands.toList:=⟨A,v,λx c m r a q=>⟨λn u=>zCC (w (.ro n)<|.inl<|qP.2 ⟨a,F x c m r a q,u⟩),λn u=>zJ0 (w (.lo n)<|.inl<|qP.2 ⟨a,F x c m r a q,u⟩)⟩⟩;unfold zky;rw[zWy I];cases O:delta C S o (base+32*i) with|some K=>rfl|none=>simp only;(cases J:zkf C o with|none=>simp only[zlB,J]|some y=>refine zUX ⟨A,λx c=>v x (zwQ x c),λx c m r a q=>I.id x (zwQ x c) m r a q⟩ λx c l D P cells p a q n u=>?_;refine zCC (w (.ro n)<|.inr ⟨n,rfl,?_⟩);show n∈(zf8 S ops o d).ro++cond (zkf C o).isSome (zCw S o) [];rw[J];refine kI _ ?_;show n∈zCw S o;unfold zCw;refine qP.2 ⟨.lp l D,?_,?_⟩;{obtain⟨m,r,G⟩:∃m,S.opnd x=some m/\At.lp l D∈zbI m:=⟨_,zMH P,by simp[zbI,zV]⟩;exact F x (zwQ x c) m r _ G};{simp only [p];exact qP.2 ⟨a,q,u⟩})
structure Free (C:Cfg) (ops:Array Oper) (cl:List (List Nat)) (b:Bool) (base a:Nat) (ss:List Step) (st0:St):Prop where
 at1:∀i s,ss[i]?=some s->∃o f,ops[a+i]?=some o/\At1 C ops base (a+i) o (zbD ops b (fun j=>decide (j<a+i)) a ss st0) f s
 apart:∀i k s s' o o' f f',ss[i]?=some s->ss[k]?=some s'->ops[a+i]?=some o->ops[a+k]?=some o'->At1 C ops base (a+i) o (zbD ops b (fun j=>decide (j<a+i)) a ss st0) f s->
  At1 C ops base (a+k) o' (zbD ops b (fun j=>decide (j<a+k)) a ss st0) f' s'->i<k->a+i∉cl.getD (a+k) []->f.apart f'=true
def zkQ (a:List (List Nat))(X:Nat->Bool):Prop:=∀k,X k=true->∀j∈a.getD k [],X j=true
variable {cl:List (List Nat)} {ss:List Step} {st0:St} {a:Nat}
theorem zGS {i:Nat}{o:Oper}{S:St}{f a:Foot}{s:Step}(h:At1 C ops base i o S f s)(b:At1 C ops base i o S a s):f=a:=by cases s with|none=>rw[h.2,b.2]|some d=>rw[h.2.2.2,b.2.2.2]
theorem zJZ (F:Free C ops cl b base a ss st0){X:Nat->Bool}(D:zkQ cl X){i:Nat}{s:Step}(y:ss[i]?=some s)(d:X (a+i)=false)(E:∀j∈cl.getD (a+i) [],X j=true) :
 ∃o f,ops[a+i]?=some o/\At1 C ops base (a+i) o (zbD ops b (λj=>decide (j<a+i)) a ss st0) f s/\∀m,f.reads m->(zbD ops b X a ss st0).get m=(zbD ops b (λj=>decide (j<a+i)) a ss st0).get m:=by
 obtain⟨o,f,x,r⟩:=F.at1 i s y;refine⟨o,f,x,r,λm q=>?_⟩;refine zrd ss a st0 st0 rfl rfl (λk z B u l g G=>?_);obtain⟨H,A,n,t⟩:=F.at1 k z u;rw[l]at n;cases n;have p:=(zCk t m).1 G
 by_cases v:k<i
 .have hXk:X (a+k)=false:=by have c:a+k<a+i:=(by omega);simp only[c,decide_true]at g;simpa using g
  have w:a+k∉cl.getD (a+i) []:=λh=>by rw[E (a+k) h]at hXk;cases hXk
  exact((apart_spec<|F.apart k i z s B o A f u y l x t r v w).1 m p).1 q
 .have hXk:X (a+k)=true:=by have c:¬ (a+k<a+i):=(by omega);simp only[c,decide_false]at g;simpa using g
  have c:i<k:=by have:i≠k:=λe=>(by rw[e,hXk]at d;cases d);omega
  have w:a+i∉cl.getD (a+k) []:=λh=>by rw[D (a+k) hXk (a+i) h]at d;cases d
  exact(apart_spec<|F.apart i k s z o B f A y u x l r t c w).2 m p q
theorem z1Y (F:Free C ops cl b base a ss st0){X:Nat->Bool}(g:zkQ cl X){i:Nat}{s:Step}(l:ss[i]?=some s)(c:X (a+i)=false)(k:∀j∈cl.getD (a+i) [],X j=true) :
 ∃o,ops[a+i]?=some o/\Does C ops base (a+i) o (zbD ops b X a ss st0) s:=by
 obtain⟨o,f,h,d,e⟩:=zJZ F g l c k;exact⟨o,h,zSM d (by rw[zic,zic]) e⟩
theorem zTo (F:Free C ops cl b base a ss st0){X Y:Nat->Bool}(x:zkQ cl X){i:Nat}{s:Step}{o:Oper}(p:ss[i]?=some s)(n:ops[a+i]?=some o)(d:X (a+i)=false)(y:∀k,Y k=(X k||k==a+i))(c:Key) :
 (zbD ops b Y a ss st0).get c=((zbD ops b X a ss st0).step b o s).get c:=by
 refine z1V y n p (λk v B u e m l c A q=>?_) c;obtain⟨D,f,g,r⟩:=F.at1 i s p;rw[n]at g;cases g;obtain⟨E,w,j,t⟩:=F.at1 k v u;rw[e]at j;cases j;have z:a+i∉cl.getD (a+k) []:=λh=>by rw[x (a+k) l (a+i) h]at d;cases d
 exact((apart_spec<|F.apart i k s v o B f w p u n e r t m z).1 c ((zCk r c).1 A)).2 ((zCk t c).1 q)
theorem zZl {l:St}{o:Oper}{id i:Nat}{d:Dl}(j:ops[i]?=some o)(h:delta C l o id=some d)(a:zOF ops i=false)(g:(zvK C&&zTx o)=false):d.bump=false:=by
 simp only[zOF,j]at a;cases b:o.op<;>simp only [b]at a<;>simp only [delta,b]at h;(case store=>cases a);case buildSlice=>cases a
 case call c=>
  split at h
  case h_4 e=>rw[e]at a;cases a
  all_goals (repeat' (first|split at h|cases h))
  all_goals rfl
 case slice T x lo hi mx=>
  cases mx with
  |some m=>simp at h
  |none=>
   cases lo with
   |none=>
    cases hi with
    |none=>(repeat' (first|contradiction|split at h|cases h));all_goals (first|rfl|contradiction|(exfalso;simp_all))
    |some f =>have e:zvK C=false:=(by simp only[zTx,b,vF]at g;exact g);(repeat' (first|contradiction|split at h|cases h));all_goals (first|(unfold zHb;split<;>first|rfl|(cases zuC C<;>first|rfl|(rw [e];rfl)))|rfl|contradiction|(exfalso;simp_all))
   |some k =>
    cases hi with
    |none=>cases a
    |some f =>(repeat' (first|contradiction|split at h|cases h));all_goals (first|rfl|contradiction|(exfalso;simp_all))
 case binOp=>
  simp only[zCy]at h
  repeat' (first|split at h|cases h)
  all_goals rfl
 (all_goals (repeat' (first|contradiction|split at h|cases h)));all_goals (first|rfl|contradiction)
theorem zWw {f:St}{o:Oper}{id i:Nat}{d:Dl}(e:ops[i]?=some o)(h:zky C f o id=some d)(b:zlv C ops i=false):d.bump=false:=by unfold zlv at b;rw[vB]at b;unfold zky at h;cases c:delta C f o id with|some j =>rw[c]at h;cases h;have a:=b.2;rw[e]at a;have a:((zkf C o).isSome||(zvK C&&zTx o))=false:=a;rw[vB]at a;exact zZl e c b.1 a.2|none=>rw[c]at h;exfalso;have a:=b.2;rw[e]at a;have a:((zkf C o).isSome||(zvK C&&zTx o))=false:=a;rw[vB]at a;have a:=a.1;have h:zlB C f o id=some d:=h;unfold zlB at h;(cases g:zkf C o with|none=>rw[g]at h;cases h|some y=>rw[g]at a;cases a)
end
section
variable {C:Cfg} {w0 w w1:World} {S0:zY} {U:Nat->Prop} {st st1:St} {E E1:Env} {ts:Array Value} {sv:List (Array Value)}
variable {ops:Array Oper} {b:Bool} {base:Nat} {cl:List (List Nat)} {ss:List Step} {st0:St}
theorem zZk {R a:Root}(h:zf3 b R=a)(c:a.ep=none):R=a:=by unfold zf3 at h;split at h;{subst h;cases c};{exact h}
theorem z2y {l:List (Nat×Root)}{n:Nat}{R:Root}(h:zo (l.map λ(x:Nat×Root)=>(x.1,zf3 b x.2)) n=some R):∃d,zo l n=some d/\zf3 b d=R:=by induction l with|nil=>cases h|cons a l e=>obtain⟨k,v⟩:=a;simp only[jD,zo]at h ⊢;split at h;{cases h;rename_i c;rw[if_pos c];exact⟨v,rfl,rfl⟩};{rename_i c;rw[if_neg c];exact e h}
theorem zZ2 {l:List (Nat×Root)}{n:Nat}(h:zo (l.map λ(x:Nat×Root)=>(x.1,zf3 b x.2)) n=none):zo l n=none:=by induction l with|nil=>rfl|cons a l d=>obtain⟨k,v⟩:=a;simp only[jD,zo]at h ⊢;split at h;{cases h};{rename_i c;rw[if_neg c];exact d h}
theorem zYU {o:Oper}{d:Dl}(J:b=false->d.bump=false)(K:b=true->Dead st/\0<st.ep)(y:Sim w0 S0 U (st.apply o.dst d) E ts sv w):Sim w0 S0 U (st.effD b o.dst d) E ts sv w:=by
 have A:∀t:Nat,(st.effD b o.dst d).tm[t]?=(st.apply o.dst d).tm[t]?:=λt=>(by unfold St.effD St.apply;cases o.dst<;>rfl);have B:(st.effD b o.dst d).lo=(st.apply o.dst d).lo:=(by unfold St.effD St.apply;cases o.dst<;>rfl);have C:(st.effD b o.dst d).stk=(st.apply o.dst d).stk:=(by unfold St.effD St.apply;cases o.dst<;>rfl);have D:(st.effD b o.dst d).ro=d.ro.map (λ(x:Nat×Root)=>(x.1,zf3 b x.2))++st.ro:=(by unfold St.effD;cases o.dst<;>rfl);have F:(st.apply o.dst d).ro=d.ro++st.ro:=(by unfold St.apply;cases o.dst<;>rfl);have v:(st.effD b o.dst d).ep=st.ep:=by unfold St.effD;cases o.dst<;>rfl
 have I:(st.apply o.dst d).ep=if d.bump then st.ep+1 else st.ep:=by
  unfold St.apply;cases o.dst<;>rfl
 cases b with
 |false=>have L:d.bump=false:=J rfl;have p:d.ro.map (λ(x:Nat×Root)=>(x.1,zf3 false x.2))=d.ro:=(by have:(λ(x:Nat×Root)=>(x.1,zf3 false x.2))=id:=(by funext x;rfl);rw[this,List.map_id]);have j:(st.effD false o.dst d).ro=(st.apply o.dst d).ro:=(by rw[D,F,p]);have m:(st.effD false o.dst d).ep=(st.apply o.dst d).ep:=(by rw[v,I,L];rfl);exact y.fewer A (λn=>by rw[B]) C (λn R h=>by simpa only [St.root,j,m] using h) (λn R h=>⟨R,by rw[<- j];exact h⟩) (λn R e h s=>by rw[m];exact y.mem.epo n R e (by rw[<- j];exact h) s)
 |true=>obtain⟨l,M⟩:=K rfl;have f:∀n R,zo (st.effD true o.dst d).ro n=some R->∃a,zo (st.apply o.dst d).ro n=some a/\(zf3 true a=R\/(a=R/\zo st.ro n=some R)):=(by intro n R h;rw[D,zbM]at h;rw[F,zbM];split at h;{rename_i x z;cases h;obtain⟨a,r,c⟩:=z2y z;exact⟨a,by rw[r],.inl c⟩};{rename_i z;rw[zZ2 z];exact⟨R,h,.inr ⟨rfl,h⟩⟩});have g:∀a:Root,(zf3 true a).ep=none\/(zf3 true a).ep=some 0:=(by intro a;cases H:a.ep with|none=>left;simp[zf3,H]|some e=>right;simp[zf3,H]);have q:∀n R,(st.effD true o.dst d).root n=some R->R.ep=none/\zo (st.effD true o.dst d).ro n=some R:=(by intro n R h;obtain⟨G,i⟩:=zbu h;refine⟨?_,G⟩;rcases i with i|i;{exact i};{exfalso;rw[v]at i;obtain⟨a,_,c⟩:=f n R G;rcases c with c|⟨_,c⟩;{have:=g a;rw[c,i] at this;rcases this with h|h;{cases h};{simp only [qC]at h;omega}};{have:=l n R _ c i;omega}});refine y.fewer A (λn=>by rw[B]) C (λn R h=>?_) (λn R h=>?_) (λn R e h s=>?_);{obtain⟨r,c⟩:=q n R h;obtain⟨a,u,k⟩:=f n R c;have e:a=R:=(by rcases k with k|⟨k,_⟩;{exact zZk k r};{exact k});subst e;unfold St.root;rw[u];simp only[r]};{obtain⟨a,u,_⟩:=f n R h;exact⟨a,u⟩};{rw [v];obtain⟨a,_,c⟩:=f n R h;rcases c with c|⟨_,c⟩;{have:=g a;rw[c,s] at this;rcases this with h|h;{cases h};{simp only [qC]at h;omega}};{have:=l n R e c s;omega}}
def UX (U:Nat->Prop)(base a T:Nat)(X:Nat->Bool)(n:Nat):Prop:=U n\/∃i,a<=i/\i<T/\X i=true/\Mine (base+32*i) n
theorem Sim.uses {e:Nat->Prop}(h:Sim w0 S0 U st E ts sv w)(c:∀n,U n->e n):Sim w0 S0 e st E ts sv w :=
 ⟨h.mem,⟨λn R b=>c n (h.ids.ro n R b),λn g b=>⟨c n (h.ids.lo n g b).1,λa i m d=>c m ((h.ids.lo n g b).2 a i m d)⟩,λm d n b=>c n (h.ids.tm m d n b),λf j m d n b=>c n (h.ids.stk f j m d n b)⟩,h.tm,h.stk⟩
theorem zTe (u:CfgOk C)(y:CtrOk C)(x:GraftOk C)(r:Sim w0 S0 U st E ts sv w){o:Oper}{id:Nat}(g:∀n,Mine id n->¬ U n){d:Dl}(h:zky C st o id=some d)(s:d.c=true):Goes C w0 S0 U st ts sv w o id (λst=>st.apply o.dst d):=by unfold zky at h;cases l:delta C st o id with|some A =>rw[l]at h;cases h;exact zF3 u y r g l s|none=>rw[l]at h;have e:∃a,zEj C st o id=some (d.c,a,d.v)/\a.put o.dst d.v=st.apply o.dst d:=(by simp only[zlB]at h;unfold zkf callArgs at h;unfold zEj;split at h;{rename_i own z i;split at i;{rename_i c t;split at i;{rename_i f b;have j:zMI o=f:=(by simp only[zMI,t,b]);rw[j]at h;simp only[t,b,i]at h ⊢;generalize c.args.toList=m at h ⊢;unfold zOO at h;unfold zUJ;split at h;{split at h;{split at h;{split at h;{split at h;{split at h;{split at h;{split at h;{rename_i p _ _ q _ _ _ B _ _ D _ _ _ _ F _ _ G H;cases h;simp only[*];refine⟨_,rfl,?_⟩;unfold St.apply;simp[kC]};{cases h}};{cases h}};{cases h}};{cases h}};{cases h}};{cases h}};{cases h}};{cases h}};{cases i}};{cases i}};{cases h});obtain⟨a,p,q⟩:=e;have k:=(x.pok w0 w S0 U st E ts sv o id d.c a d.v r g p s).1;rw[q] at k;exact k
theorem zP8 (S:CfgOk C)(W:CtrOk C)(V:GraftOk C){a T:Nat}(hT:a+ss.length=T)(F:Free C ops cl b base a ss st0){X Y:Nat->Bool}(M:zkQ cl X){i:Nat}(q:a<=i)(I:i<T)(l:X i=false)(hr:∀j∈cl.getD i [],X j=true)(hb:b=false->∀k,a<=k->k<T->zlv C ops k=false)(H:b=true->Dead st0/\0<st0.ep)(hM:∀k,a<=k->k<T->∀n,Mine (base+32*k) n->¬ U n)(G:∀k,Y k=(X k||k==i))(y:Sim w0 S0 (UX U base a T X) (zbD ops b X a ss st0) E ts sv w){Q:Exit->Act->World->Prop}{K:Act->World->Prop}(Z:∀(r:Env) (c:Array Value) (g:World),Sim w0 S0 (UX U base a T Y) (zbD ops b Y a ss st0) r c sv g->K {tmps:=c,defers:=[]} g) :
 wpOp C.P ops Q i K {tmps:=ts,defers:=[]} w:=by
 obtain⟨j,rfl⟩:∃j,i=a+j:=⟨i-a,by omega⟩
 obtain⟨s,N⟩:∃s,ss[j]?=some s:=⟨_,qB (by omega)⟩
 obtain⟨o,J,x⟩:=z1Y F M N l hr;have f:∀n,UX U base a T X n->UX U base a T Y n:=by rintro n (h|⟨k,R,A,t,B⟩);{exact .inl h};{exact .inr ⟨k,R,A,by rw[G,t];rfl,B⟩}
 have u:∀{r:Env} {c:Array Value} {g:World},Sim w0 S0 (UX U base a T Y) ((zbD ops b X a ss st0).step b o s) r c sv g->K {tmps:=c,defers:=[]} g:=by intro r c g h;refine Z r c g (h.same (λκ=>zTo F M N J l G κ) ?_ ?_);{rw [zr1,zVF,zr1]};{rw [zic,zOV,zic]}
 unfold wpOp;simp only[J];cases s with
 |none=>rw[if_neg (by simp[zCD y x])];have t:=y.putV (dst:=o.dst) (m:=.und) (v:=undef) rfl (λn z=>by simp[MV.ids,zbI]at z);rw[zjj];exact u (t.uses f)
 |some d=>obtain⟨A,t,B⟩:=x;rw[if_pos<|zCD y A];refine .inl (zTe S W V y (id:=base+32*(a+j)) ?_ t B _ _ λr v g D=>?_);{rintro n z (h|⟨k,_,g1,L,O⟩);{exact hM (a+j) q I n z h};{refine zYe (i:=k) (j:=a+j) (λe=>?_) O z;rw[e,l] at L;cases L}};{rw [zjj];refine u ((zYU (λp=>zWw J t (hb p (a+j) q I)) (λp=>?_) D).uses ?_);{subst p;exact⟨zzg ss a st0 (H rfl).1 (H rfl).2,by rw[zic];exact(H rfl).2⟩};{rintro n (h|h);{exact f n h};{exact .inr ⟨a+j,q,I,by rw[G];simp,h⟩}}}
end
section
variable {C:Cfg} {w0 w w1:World} {S0:zY} {U:Nat->Prop} {st st1:St} {E E1:Env} {ts:Array Value} {sv:List (Array Value)}
theorem zZ3 (t:Ty)(x:t.den):t.ofCells (t.cells x)=some x:=by cases t<;>first|rfl|simp[Ty.ofCells,Ty.cells]
theorem zQv:∀(p:List (Int×Nat)) {t:Ty} {l:List t.den} {c:CV},zhC t l p=some c->∀m,zqF t l p c=some m->m=l
 |[],t,l,c,h,m,a=>by simp only[zhC,qC]at h;subst h;simpa [zqF] using a.symm
 |(i,j)::p,t,l,c,h,m,a=>by
  simp only[zhC]at h;simp only[zqF]at a;split at h
  .rename_i t1 l1 hc;rw[hc]at a;simp only at a;split at a
   .rename_i l2 hl2;have:=zQv p h l2 hl2;subst this;split at a
    .rename_i x hx;cases a;have f:j<(t.cells (ix l i t.dflt)).length:=(qA.1 hc).1;have e:splice (t.cells (ix l i t.dflt)) j [CV.s t1 l2]=t.cells (ix l i t.dflt):=zGG _ _ _ (by simp;omega) (fun k d=>by
      have:k=0:=by simpa using d
      subst this;simpa using hc)
     rw[e,zZ3]at hx;cases hx;unfold up ix;apply k6;intro k;rw[q9];split;{rename_i d;subst d;split;{rename_i b;simp[List.getD,qB b]};{rename_i b;rw[List.getElem?_eq_none (by omega)]}};{rfl}
    {cases a}
   {cases a}
  {cases h}
theorem z4I {t:Ty}(c:t.flat=true):∀(q:List (Int×Nat)) (v u:Value),zba w t v q=some u->q=[]
 |[],_,_,_=>rfl
 |(i,j)::q,v,u,h=>by exfalso;cases v with|slice a len d=>(cases a with|none=>simp[zba]at h|some a=>simp only[zba]at h;split at h;{split at h;{rename_i e b;unfold Ty.flat at c;have:=qM.1 c _ (qJ b);simp at this};{cases h}};{cases h})|_=>simp[zba]at h
theorem z9s (hC:CfgOk C){T:TypeId}{t:Ty}(hT:C.sty T=some t)(hf:t.flat=true){v1 v2:Value}{d f:List t.den}{S1 S2:zY}(c3:Rep true w v1 (.s t d) S1)(c4:Rep false w v2 (.s t f) S2)(b8:f≠[])(d1:few (ln (ap d f))=true)(oT:TypeId) :
 ∃(v:Value) (E:World) (L Z r:Nat),(Builtin.append_ #[T,T] oT #[v1,v2]).run C.P w = .ok v E/\v = .slice (some ⟨L,Z,none⟩) (ap d f).length r/\Rep true E v (.s t (ap d f)) (fun x=>x=L)/\
  E.os=w.os/\E.tape=w.tape/\E.output=w.output/\
  ((L=w.heap.size/\E.heap.size=w.heap.size+1/\∀x,x<w.heap.size->E.heap[x]?=w.heap[x]?) \/
    ∃Y N,v1 = .slice (some ⟨L,Y,none⟩) d.length N/\S1 L/\E.heap.size=w.heap.size/\(∀x,x≠L->E.heap[x]?=w.heap[x]?)/\Rep true E v1 (.s t d) S1):=by
 obtain⟨e,hE⟩:=hC.sty T t hT;obtain⟨i,z,m,hs,hz,f3,d0⟩:=hE.info;obtain⟨f0,f1⟩:=zMQ d1;have d4:d.length+f.length<=2147483648:=by simp only[ln,ap,j9] at f1;omega
 have a3:(ap d f).length=d.length+f.length:=by simp[ap]
 cases c4 with
 |nil=>exact absurd rfl b8
 |void=>exact absurd rfl b8
 |sl _ _ b2 p F a2 e2 f7 V2 K2 _ d7 f5 e4 b5 f6 f8 f2 d9 d5 a5=>
 have e5:0<f.length:=kS.2 b8;have e7:f.length*t.width<=F*t.width:=qS _ b5;generalize V:(a2.toList.drop p).take (f.length*t.width)=a;have D:a.length=f.length*t.width:=by rw[<- V];simp;omega
 have a6:∀k,k<f.length*t.width->a[k]?=a2[p+k]?:=by intro k hk;rw[<- V,jJ,if_pos hk,jO];simp
 have c1:∀j u,a[j]?=some u->w.cell? ((⟨b2,p,none⟩:Addr).add j)=some u:=by intro j u hu;have B:j<f.length*t.width:=(by rw[<- D];exact(qA.1 hu).1);rw[add_lit,cell_of_block d7,<- a6 j B];exact hu
 have I:∀i j,i<f.length->j<t.width->i*t.width+j<f.length*t.width:=by intro i j m B;have:(i+1)*t.width<=f.length*t.width:=qS _ m;rw[jL] at this;omega
 have c2:∀i j,i<f.length->j<t.width->a[i*t.width+j]?=some (V2 i j):=by intro i j m B;rw[a6 _ (I i j m B),<- uH];exact d5 i j m B
 have d6:=zDT t;have e8:∀u∈a,u.oneCell'=true:=by intro u hu;obtain⟨k,hk⟩:=qU.1 hu;have e3:k<f.length*t.width:=(by rw[<- D];exact(qA.1 hk).1);have a1:k / t.width<f.length:=(Nat.div_lt_iff_lt_mul d6).2 e3;have d3:k % t.width<t.width:=Nat.mod_lt _ d6;have:=c2 _ _ a1 d3;rw[Nat.mul_comm,Nat.div_add_mod,hk] at this;cases this;have J:=qB a1;have y:(t.cells (f[k / t.width]'a1))[k % t.width]?=some ((t.cells (f[k / t.width]'a1))[k % t.width]'(by rw[zds];exact d3)):=qB _;exact(a5 _ _ J _ _ y).one
 have U:∀(w1:World) i x,f[i]?=some x->∀j c,(t.cells x)[j]?=some c->Rep true w1 (V2 i j) c (fun _=>False):=fun w1 i x J j c y=>(a5 i x J j c y).flat (zvG hf y);have W:∀i j,i<d.length->j<t.width->i*t.width+j<d.length*t.width:=by intro i j m B;have:(i+1)*t.width<=d.length*t.width:=qS _ m;rw[jL] at this;omega
 have a0:(d.length+f.length)*i.bytes<=140737488355328:=by have:=uQ d4 d0;omega
 have b0:z.cells.size=t.width:=by rw[<- kR,f3];simp[zfd]
 have O:∀(g:List Value) (A:Nat) (V1:Nat->Nat->Value) (zs:Array Value),g.length=d.length*t.width->d.length+f.length<=A->zs.size=(A-(d.length+f.length))*t.width->
  (∀i j,i<d.length->j<t.width->g[i*t.width+j]?=some (V1 i j))->
  (∀i x,d[i]?=some x->∀j c,(t.cells x)[j]?=some c->∃S,Rep true w (V1 i j) c S)->
  (Builtin.append_ #[T,T] oT #[v1,.slice (some ⟨b2,p,none⟩) f.length F]).run C.P w = .ok (.slice (some ⟨w.heap.size,0,none⟩) (d.length+f.length) A) (w.drew.alloc (.cells (g.toArray++a.toArray++zs) e (0,0)))->
  ∃(v:Value) (E:World) (L Z r:Nat),(Builtin.append_ #[T,T] oT #[v1,.slice (some ⟨b2,p,none⟩) f.length F]).run C.P w = .ok v E/\v = .slice (some ⟨L,Z,none⟩) (ap d f).length r/\Rep true E v (.s t (ap d f)) (fun x=>x=L)/\
  E.os=w.os/\E.tape=w.tape/\E.output=w.output/\
  ((L=w.heap.size/\E.heap.size=w.heap.size+1/\∀x,x<w.heap.size->E.heap[x]?=w.heap[x]?) \/
    ∃Y N,v1 = .slice (some ⟨L,Y,none⟩) d.length N/\S1 L/\E.heap.size=w.heap.size/\(∀x,x≠L->E.heap[x]?=w.heap[x]?)/\Rep true E v1 (.s t d) S1):=by
  intro g A V1 zs G b4 f4 e9 d8 M;generalize n:w.drew.alloc (.cells (g.toArray++a.toArray++zs) e (0,0))=w1 at M;have c5:∀x,x<w.heap.size->w1.heap[x]?=w.heap[x]?:=fun x J=>by rw[<- n];exact heap_alloc_old w.drew _ x J
  have c6:w1.heap.size=w.heap.size+1:=by rw[<- n];simp
  refine⟨_,w1,w.heap.size,0,A,M,by rw[a3],?_,by rw[<- n];rfl,by rw[<- n];rfl,by rw[<- n];rfl,.inl ⟨rfl,c6,c5⟩⟩
  refine Rep.join (arr:=g.toArray++a.toArray++zs) (e:=e) (V1:=V1) (V2:=V2) (K1:=fun _ _ _=>False) (K2:=fun _ _ _=>False) ?_ (by simp only[big];omega) b4 ?_ rfl ?_ ?_ ?_ (U w1) (fun _ _ _ _ _ h=>h.elim) (fun _ _ _ _ _ h=>h.elim) (fun _ _ _ _ _ _ _ _ _ h=>h.elim) (fun _ _ _ _ _ _ _ _ _ h=>h.elim) (fun _ _ _ _ _ _ _ _ _ h=>h.elim)
  .rw [<- n];exact heap_alloc_new w.drew _
  .simp only [Array.size_append,j7,G,D,f4,<- kT];have:d.length+f.length+(A-(d.length+f.length))=A:=by omega
   rw[this];omega
  .intro i j m B;have:=W i j m B;rw[jX,uM,j4 (by simp[G];exact this)]
   simpa using e9 i j m B
  .intro i j m B;have:=I i j m B;rw[jX,kT,uM,kH (by simp[G];omega),j4 (by simp[G,D];omega)]
   rw[<- c2 i j m B];simp only[j7,G,jG]
   congr 1
   omega
  .intro i x J j c y;obtain⟨S,M⟩:=d8 i x J j c y;exact M.flat (zvG hf y)
 cases c3 with
 |nil=>
  have M:=run_append_nil (P:=C.P) w T oT e i z hE.und m hz ⟨b2,p,none⟩ f.length F a (by rw[hs];exact D) c1 e5 (by omega) (by
   have:=uQ (show f.length<=2147483648 by omega) d0
   omega)
  have b7:=grownCap_ge w f.length 0 e;refine O [] (grownCap w f.length 0 e) (fun _ _=>undef) (Builtin.zeroCells z.cells (grownCap w f.length 0 e-f.length)) (by simp) (by simpa using b7) (by simp[size_zeroCells,b0]) (fun i j m=>by simp at m) (fun i x J=>by simp at J) ?_;rw[M];simp
 |void _ _ _ ho=>cases ho
 |sl _ _ b l r q e1 fz V1 K1 _ hb e0 b9 Q a9 c8 c7 b6 X R=>
  have d2:=e0 rfl;subst d2;have e6:d.length*t.width<=r*t.width:=qS _ Q;by_cases H:d.length+f.length<=r;{have c0:(d.length+f.length)*t.width<=r*t.width:=qS _ H;rw[kT]at c0;have M:=run_append_room' (P:=C.P) (w:=w) T oT e i hE.und m b l d.length r q e1 hb ⟨b2,p,none⟩ f.length F a (by rw[hs];exact D) c1 e8 H (by rw[hs,D];omega);rw[hs]at M;have b3:l+d.length*t.width+a.length<=q.toList.length:=(by rw[D];simp;omega);generalize n:w.setRow b (splice q.toList (l+d.length*t.width) a).toArray=w1 at M;have c9:w1.heap[b]?=some (.cells (splice q.toList (l+d.length*t.width) a).toArray e1 (0,0)):=(by rw[<- n];exact setRow_heap w b _ _ e1 _ hb);have a8:∀x,x≠b->w1.heap[x]?=w.heap[x]?:=fun x J=>(by rw[<- n];exact setRow_other w b x _ J);have a4:(splice q.toList (l+d.length*t.width) a).toArray.size=q.size:=(by rw[j7,ziS _ _ _ b3];simp);have K:∀k,k<l+d.length*t.width->(splice q.toList (l+d.length*t.width) a).toArray[k]?=q[k]?:=(by intro k hk;rw[jG,ze2 _ _ _ b3 k (.inl hk)];simp);have b1:Rows true w t d q l b V1 K1 S1:=⟨c7,b6,X,R⟩;obtain⟨k1,_⟩:=Rep.behind (w1:=w1) b9 Q a9 c8 b1 hb c9 a4 K a8;refine⟨_,w1,b,l,r,M,by rw[a3],?_,by rw[<- n];rfl,by rw[<- n];rfl,by rw[<- n];rfl,.inr ⟨l,r,rfl,c8,by rw[<- n];simp,a8,k1⟩⟩;refine Rep.join (arr:=(splice q.toList (l+d.length*t.width) a).toArray) (e:=e1) (V1:=V1) (V2:=V2) (K1:=fun _ _ _=>False) (K2:=fun _ _ _=>False) c9 (by simp only[big];omega) H (by rw[a4];exact a9) rfl ?_ ?_ ?_ (U w1) (fun _ _ _ _ _ h=>h.elim) (fun _ _ _ _ _ h=>h.elim) (fun _ _ _ _ _ _ _ _ _ h=>h.elim) (fun _ _ _ _ _ _ _ _ _ h=>h.elim) (fun _ _ _ _ _ _ _ _ _ h=>h.elim);{intro i j m B;have:=W i j m B;rw[K _ (by omega)];exact X i j m B};{intro i j m B;have:=I i j m B;rw[jG,kT,zfe _ _ _ b3 _ (by omega) (by rw[D];omega),<- c2 i j m B];congr 1;omega};{intro i x J j c y;exact(R i x J j c y).flat (zvG hf y)}}
  .generalize holds:(q.toList.drop l).take (d.length*t.width)=g;have G:g.length=d.length*t.width:=(by rw[<- holds];simp;omega);have a7:∀k,k<d.length*t.width->g[k]?=q[l+k]?:=by intro k hk;rw[<- holds,jJ,if_pos hk,jO];simp
   have M:=run_append_grow (P:=C.P) w T oT e i z hE.und m hz ⟨b,l,none⟩ d.length r g (by rw[hs];exact G) (fun j u hu=>by
    have B:j<d.length*t.width:=by rw[<- G];exact(qA.1 hu).1
    rw[add_lit,cell_of_block hb,<- a7 j B];exact hu) ⟨b2,p,none⟩ f.length F a (by rw[hs];exact D) c1 (by omega) (by omega) (growslice_fits (by omega) a0)
   have b7:=grownCap_ge w (d.length+f.length) r e;refine O g _ V1 _ G b7 (by rw[size_zeroCells,b0]) (fun i j m B=>?_) (fun i x J j c y=>⟨_,R i x J j c y⟩) M;have:(i+1)*t.width<=d.length*t.width:=qS _ m;rw[jL] at this;rw[a7 _ (by omega),<- uH];exact X i j m B
end
section
variable {C:Cfg} {w0 w w1:World} {S0:zY} {U:Nat->Prop} {st st1 st':St} {E E1:Env} {ts:Array Value} {sv:List (Array Value)}
def Late (w0:World)(st:St)(E:Env)(x:App)(v:Value)(w:World):Prop :=
 ∃(f e d g:Nat) (R:Root),w0.heap.size<=f/\(∀q Q,st.root q=some Q->∀y,E.φ q y->y<f)/\(∀l h,zo st.lo l=some h->E.β l<f)/\
  v = .slice (some ⟨e,d,none⟩) x.l.length g/\Rep true w v (.s x.t x.l) (λy=>y=e)/\st.root x.r=some R/\
  (f<=e\/∃c b a,zba w R.t (E.ρ x.r) x.p=some (.slice (some ⟨e,c,none⟩) b a))
theorem Late.states {x:App}{v:Value}(h:Late w0 st E x v w)(d:∀n,st'.root n=st.root n)(s:∀n,zo st'.lo n=zo st.lo n):Late w0 st' E x v w:=by obtain⟨t,e,a,b,R,g,i,j,k,m,p,r⟩:=h;exact⟨t,e,a,b,R,g,λq Q c=>i q Q (by rw[<- d];exact c),λl f c=>j l f (by rw[<- s];exact c),k,m,by rw[d];exact p,r⟩
theorem zGH {r:Nat}(a:At):zc5 r [] a=a:=by cases a<;>simp [zc5,coarse]
theorem zGI {r:Nat}(m:MV):zgE r [] m=m:=by have h:zc5 r []=id:=funext λa=>zGH a;have c:∀x,zmM r [] x=x:=λx=>(by cases x<;>simp [zmM,h]);have b:zmM r []=id:=funext c;cases m<;>simp [zgE,c,b]
theorem z2t (h:Dead st){n:Nat}{R:Root}(c:st.root n=some R):R.ep=none:=by obtain⟨b,a⟩:=zbu c;rcases a with a|a;{exact a};{have:=h n R _ b a;omega}
theorem z2X {v:Value}{t:Ty}{l:List t.den}{S:zY}{b off n a:Nat}(h:Rep true w v (.s t l) S)(e:v = .slice (some ⟨b,off,none⟩) n a):b<w.heap.size/\S b:=by cases h with|nil=>cases e|void _ _ _ f=>cases f|sl _ _ g _ _ _ _ _ _ _ _ d _ _ _ _ c=>cases e;exact⟨(qO.1 d).1,c⟩
theorem z4X (hC:CfgOk C)(k:Sim w0 S0 U st E ts sv w)(hd:Dead st){o:Oper}{x:App}(h:zq7 C st o=some (true,x)) :
 o.guard=none/\o.dst=some x.dst/\∃(v:Value) (f:World),(execOp ({tmps:=ts,defers:=[]}:Act).eval o).run C.P w = .ok (.value v) f/\
  Sim w0 S0 U (st.put o.dst<|.v<|.at .bad) E (({tmps:=ts,defers:=[]}:Act).put o.dst v).tmps sv f/\Late w0 st E x v f:=by
 unfold zq7 at h;split at h
 .rename_i c d ho hdst hgu;split at h
  .rename_i hcb;split at h
   .rename_i a0 y0 T T2 hca hct;split at h
    .rename_i hTT;subst hTT;split at h
     .rename_i t r a p r2 p2 hT h1 h2;split at h
      .rename_i R cv1 cv2 hR hn1 hn2;split at h
       .rename_i hcond;simp only[qE,jF,beq_eq_false_iff_ne]at hcond;obtain⟨⟨H,a2⟩,b9⟩:=hcond;split at h
        .rename_i m t2 y2 l2' hm;simp only[qC,jS]at h;obtain⟨a1,rfl⟩:=h;refine⟨hgu,hdst,?_⟩;obtain⟨l1,l2,e1,e2,rfl⟩:=zAx hm;subst e1;have b2:l2≠[]:=by intro e;subst e;cases e2
         rw[e2]at hn2
         clear e2
         generalize c0:a::p=pp at h1 hn1;have j:=k.mem;obtain⟨hx,_⟩:=zbN k h1;obtain⟨hy,_⟩:=zbN k h2;have hh:=hx.2 R hR;have i:=j.rep r R hR;rw[H]at i;obtain⟨t',l0,S1,f1,f2,f3,f4,f5⟩:=Rep.focus pp i hh;have a3:zhC R.t R.l pp=some (.s t l1):=by obtain⟨R',W,b1⟩:=zgm hn1;rw[hR]at W;cases W;exact b1
         rw[a3] at f1;cases f1;obtain⟨R2,S2,b7,g1,g2,g3,g4⟩:=zvb k hy hn2;obtain⟨v,f,bv,K,S,a5,hv,I,a4,a6,G,L⟩:=z9s hC hT a2 f3 g3.ro b2 a1 o.type;have X:c.args = #[a0,y0]:=by rw[<- hca]
         have Y:c.argTypes = #[T2,T2]:=by rw[<- hct]
         have g:(execOp ({tmps:=ts,defers:=[]}:Act).eval o).run C.P w = .ok (.value v) f:=by simp[execOp,ho,resolve,hcb,invoke,builtin,X,Y,a5]
         have a7:∀l cs,zo st.lo l=some cs->E.β l<w.heap.size:=by intro l cs h;obtain⟨_,b6,e,h2,_⟩:=j.loc l cs h;exact(qO.1 h2).1
         rcases L with⟨b8,b4,O⟩|⟨a8,V,b5,B,b4,F,N⟩
         .obtain⟨hM',hT'⟩:=j.addRoots k.ids.mem (dro:=[]) (w1:=f) (E1:=E) a4 a6 G (by omega) O (λq Q b=>by cases b) (λq Q _ _ b=>by cases b) (λ_ _=>⟨rfl,rfl,rfl⟩)
          refine⟨v,f,g,Sim.next k (st1:=st) hM' hT' rfl rfl (λ_ h=>h) k.ids.ro k.ids.lo trivial (λn hn=>by simp[MV.ids,zbI,zV,At.ids,zbo,zbv]at hn),?_⟩
          exact⟨w.heap.size,bv,K,S,R,j.size,λq Q b y hy=>j.rlt q Q b y hy,a7,hv,I,hR,.inl (by omega)⟩
         .obtain⟨m,hm1,hrm,hh1,hh2⟩:=f5 f l1 S1 (λz _ M=>F z λe=>M (e ▸ B)) (λ_ h _=>h) N;have b3:=zQv pp a3 m hm1;subst b3;obtain⟨_,_,_,_,a9⟩:=f5 w l1 S1 (λ_ _ _=>rfl) (λ_ h _=>h) f3;have D:∀q u,zba w R.t (E.ρ r) q=some u->zba f R.t (E.ρ r) q=some u:=by intro q u b;refine hh1 q u b (λq' Z=>?_);subst Z;rw[a9]at b;exact z4I a2 q' _ _ b
          have J:=zGe (w1:=f) (m:=R.l) (js:=[]) (S3:=E.φ r) k hR H a4 a6 G (by omega) (λz hz M=>F z λe=>M (f4 z<|e ▸ B)) (λz hz=>⟨.inl hz,by have:=j.rlt r R hR z hz;omega⟩) (hrm.weak λz hz=>by
           rcases hz with⟨h,_⟩|h
           .exact h
           .exact f4 z h) (λq u b _=>D q u b)
          have hE:({E with φ:=λn=>if n=r then E.φ r else E.φ n}:Env)=E:=by
           have:(λn=>if n=r then E.φ r else E.φ n)=E.φ:=by
            funext n
            split
            .rename_i e;rw[e]
            .rfl
           rw[this]
          rw[hE]at J;have b0:Sim w0 S0 U st E ts sv f:=by refine J.fewer (λt=>?_) (λn=>?_) ?_ (λn Q A=>?_) (λn Q A=>?_) (λn Q e A Z=>j.epo n Q e A Z);{simp only [zit,qQ];cases st.tm[t]? <;> simp [zGI]};{simp only [zit];rw[zli];have:zc5 r []=id:=funext λa=>zGH a;cases zo st.lo n<;>simp [this]};{simp only [zit];have:zgE r []=id:=funext λa=>zGI a;simp[this]};{have Z:=z2t hd A;obtain⟨q1,_⟩:=zbu A;refine zhf ?_ (.inl Z);simp only[zit,zo];split;{rename_i hb;simp only[qL]at hb;subst hb;rw[hR]at A;cases A;rfl};{exact q1}};{simp only [zit,zo];split;{exact⟨_,rfl⟩};{exact⟨Q,A⟩}}
          refine⟨v,f,g,b0.putV trivial (λn hn=>by simp[MV.ids,zbI,zV,At.ids,zbo,zbv]at hn),?_⟩
          refine⟨w.heap.size,bv,K,S,R,j.size,λq Q b y hy=>j.rlt q Q b y hy,a7,hv,I,hR,.inr ⟨a8,l1.length,V,?_⟩⟩;refine D pp _ ?_;rw[hh,b5]
        .cases h
       .cases h
      .cases h
     .cases h
    .cases h
   .cases h
  .cases h
 .cases h
theorem zZQ (hC:CfgOk C)(hS:Sim w0 S0 U st E ts sv w){o:Oper}{id:Nat}{x:App}{v:Value}{b4:St}(hL:Late w0 st E x v w)(g0:ts[x.dst]?=some v)(h:zCZ C st o x=some (true,b4)) :
 o.guard=none/\Goes C w0 S0 U st ts sv w o id (λ_=>b4.put o.dst .und)/\b4.nid=st.nid:=by
 unfold zCZ at h;split at h
 .rename_i T a d ho hgu;split at h
  .rename_i t1 r p i off hT ha;split at h
   .rename_i R t l c hRr L hsp;split at h
    .rename_i hcond;simp only[qE,q0,Nat.beq_eq_true_eq]at hcond;obtain⟨⟨⟨a4,a9⟩,b2⟩,G⟩:=hcond;have a9:=kK a9;have b2:=kK b2;subst a9 b2;split at h
     .rename_i l' hset;split at h
      .rename_i m hput;simp only[qC,jS]at h;obtain⟨rfl,rfl⟩:=h;refine⟨hgu,?_,rfl⟩;have f7:=zsX hsp;obtain⟨n0,X,g7,g3,R',e8,Q,e7,c6,P,M,S⟩:=hL;rw[hRr]at M;cases M;obtain⟨d0,g8⟩:=zbN hS ha;obtain⟨b,o2,len,c8,h0,e1,e2,e3,Y,e5⟩:=d0.2 R hRr;have hM:=hS.mem;have a5:=hM.rep _ R hRr;rw[a4]at a5;obtain⟨t',l0,S1,f1,f2,f3,f4,f5⟩:=Rep.focus p a5 e1;have d7:zhC R.t R.l p=some (.s t l):=by obtain⟨R',M,d6⟩:=zgm L;rw[hRr]at M;cases M;exact d6
       rw[d7] at f1;cases f1;rw[e2] at f2;cases f2;obtain⟨_,_,_,_,b5⟩:=f5 w l S1 (λ_ _ _=>rfl) (λ_ h _=>h) f3;cases f3 with
       |void _ _ _ ho=>cases ho
       |sl _ _ _ _ _ a6 e' fz V K _ hb d5 b0 a0 c5 a7 A a1 c7 b8=>
       have b9:=d5 rfl;subst b9;have N:Rows true w t l a6 o2 b V K S1:=⟨A,a1,c7,b8⟩;have a3:v.oneCell'=true:=by rw[c6];rfl
       have B:v.cells = #[v]:=cells_one a3;have O:off+[v].length<=t.width:=by simp;omega
       have c3:(i.toNat+1)*t.width<=c8*t.width:=qS _ (by omega)
       rw[jL]at c3;have H:=zpz (w:=w) (v:=v) (off:=o2+i.toNat*t.width+off) (hC.cty T false [.s t1] hT) hb (by rw[B];rfl) (by simp;omega) (by rw[B];intro u hu;simp at hu;rw[hu];exact a3)
       rw[B]at H;have e6:(#[v]:Array Value).toList=[v]:=rfl;rw[e6]at H;generalize J:w.setRow b (splice a6.toList (o2+i.toNat*t.width+off) [v]).toArray=w1 at H;have b7:w1.heap[b]?=some (.cells (splice a6.toList (o2+i.toNat*t.width+off) [v]).toArray e' (0,0)):=by rw[<- J];exact setRow_heap w b _ _ e' _ hb
       have D:∀y,y≠b->w1.heap[y]?=w.heap[y]?:=λy z=>by rw[<- J];exact setRow_other w b y _ z
       have c2:E.φ x.r b:=f4 b a7;have g9:b<n0:=Q _ R hRr b c2;have a2:∀F j,F<l.length->j<t.width->¬ Hit i.toNat off [v].length F j->∀y,K F j y->w1.heap[y]?=w.heap[y]?:=λF j I hj _ y z=>D y ((A F j y I hj z).2 rfl)
       have a8:n0<=X\/K i.toNat off X:=by rcases S with h|⟨g6,g5,g2,h⟩;{exact .inl h};{right;rw[<- f7,b5]at h;simp only[zba]at h;rw[if_pos ⟨e3,Y⟩]at h;split at h;{rename_i t3 f9;rw[cell_of_block hb,c7 i.toNat off Y G]at h;simp only[qC]at h;obtain⟨c,hc,d3⟩:=zz4 (x:=ix l i t.dflt) f9;obtain⟨l3,rfl⟩:=zl9 d3;have c1:=b8 i.toNat _ (zmi Y) off _ hc;rw[h]at c1;cases c1 with|void _ _ _ ho=>cases ho|sl _ _ _ _ _ _ _ _ _ _ _ _ _ _ _ _ c9=>exact c9};{cases h}}
       have Z:X≠b:=by rcases a8 with h|h;{omega};{exact(A _ _ X Y G h).2 rfl}
       have b3:=Rep.setCells (w:=w) (w1:=w1) (us:=[v]) (Kn:=λ_ y=>y=X) b0 a0 c5 N Y rfl O hset b7 (λk c u hc hu=>by
        cases k with
        |zero=>simp only[qH,qC]at hc hu;subst hc hu;exact P.frame (λy z=>D y (by rw[z];exact Z))
        |succ k=>simp at hc)
        a2
        (λk y _ z=>by rw[z];exact Z)
        (λk k' y hk e0 _ _=>by simp at hk e0;omega)
        (λk y F j hk z I hj e9 W=>by
         subst z;rcases a8 with h|h
         .have:=Q _ R hRr y (f4 y (A F j y I hj W).1);omega
         .have:=a1 rfl _ _ _ _ y Y G I hj h W;exact e9 ⟨this.1.symm,by omega,by simp;omega⟩)
       have b6:∀y,(y=b\/(∃F j,F<l.length/\j<t.width/\¬ Hit i.toNat off [v].length F j/\K F j y)\/∃k,k<[v].length/\y=X)->S1 y\/(n0<=y/\y=X):=by intro y z;rcases z with rfl|⟨F,j,I,hj,_,hk⟩|⟨k,hk,rfl⟩;{exact .inl a7};{exact .inl (A F j y I hj hk).1};{rcases a8 with h|h;{exact .inr ⟨h,rfl⟩};{exact .inl (A _ _ _ Y G h).1}}
       obtain⟨m',c0,f8,d8,d9⟩:=f5 w1 l' _ (λy z b1=>D y λe=>b1 (e ▸ a7)) (λy z W=>by
        rcases b6 y z with h|⟨h,_⟩
        .exact h
        .have:=Q _ R hRr y W;omega) b3
       rw[hput]at c0;cases c0;have g4:w1.heap.size=w.heap.size:=by rw[<- J];simp
       have d1:X<w.heap.size:=(z2X P c6).1;have c4:=zCU (w1:=w1) (m:=m) (js:=[cols p++[off]]) e8 Q e7 hS hRr a4 (by rw[<- J];rfl) (by rw[<- J];rfl) (by rw[<- J];rfl) (by omega) (λy _ b1=>D y λe=>b1 (e ▸ c2)) (λy z=>by
        rcases z with⟨z,_⟩|z
        .exact⟨.inl z,by have:=hM.rlt _ R hRr y z;omega⟩
        .rcases b6 y z with h|⟨h,rfl⟩
         .exact⟨.inl<|f4 y h,by have:=hM.rlt _ R hRr y (f4 y h);omega⟩
         .exact⟨.inr h,by omega⟩) f8 (λq u hq f6=>by
        rcases ztr p q with⟨q',rfl⟩|f0
        .rw [d9 q'];rw[b5 q']at hq;refine zoN (us:=[v]) a0 c5 N hb Y rfl O hset b7 a2 q' (λF j g1 he k c hj d2=>?_) D hq;subst he hj;cases k with
         |succ k=>simp at d2
         |zero=>exfalso;have h9:=kQ.1 f6 (cols p++[off]) (by simp);exact absurd (zq9 p F off g1) h9
        .exact d8 q u hq λq' he=>absurd ⟨q',he⟩ f0)
       have g:=c4.putV (dst:=o.dst) (m:=.und) (v:=undef) rfl (λn L=>by simp[MV.ids,zbI]at L)
       refine zvJ (w':=w1) ?_ ⟨g.mem,⟨λn R L=>.inl (g.ids.ro n R L),λn cs L=>⟨.inl (g.ids.lo n cs L).1,λa ha m hm=>.inl ((g.ids.lo n cs L).2 a ha m hm)⟩,λm hm n L=>.inl (g.ids.tm m hm n L),λf hf m hm n L=>.inl (g.ids.stk f hf m hm n L)⟩,g.tm,g.stk⟩;have d4:({tmps:=ts,defers:=[]}:Act).eval (.tmp x.dst)=v:=by simp[Act.eval,g0]
       simp[execOp,ho,Instr.storeAt,e5,Instr.sureAddr,d4,H]
      .cases h
     .cases h
    .cases h
   .cases h
  .cases h
 .cases h
end
section
variable {C:Cfg} {w0 w w1:World} {S0:zY} {U:Nat->Prop} {st st1:St} {E E1:Env} {ts:Array Value} {sv:List (Array Value)}
variable {ops:Array Oper} {b:Bool} {base:Nat} {cl:List (List Nat)} {ss:List Step} {st0:St}
theorem zJ6 {w b:World}(h:b.heap=w.heap):∀(p:List (Int×Nat)) (t:Ty) (v:Value),zba b t v p=zba w t v p
 |[],t,v=>by simp only[zba]
 |(i,j)::p,t,v=>by have d:∀a,b.cell? a=w.cell? a:=λa=>(by simp only[World.cell?,h]);have e:=zJ6 h p;cases v with|slice a len c=>cases a<;>simp only [zba,d,e]|_=>simp only[zba]
theorem Sim.heap (g:Sim w0 S0 U st E ts sv w){w':World}(d:w'.heap=w.heap)(v:w'.os=w.os)(y:w'.tape=w.tape)(z:w'.output=w.output):Sim w0 S0 U st E ts sv w':=by
 have T:Trans st E w st E w' (λ_=>True):=⟨λr _ R h=>⟨R,h,rfl,λp u i=>by rw[zJ6 d];exact i⟩,λl _ k h=>⟨⟨k,h⟩,rfl⟩,rfl⟩
 have a:=g.mem;refine⟨⟨by rw[v];exact a.os,by rw[y];exact a.tape,by rw[z];exact a.output,by rw[d];exact a.size,λb A C=>by rw[d];exact a.keep b A C,
  λr R h=>(a.rep r R h).frame (λx _=>by rw[d]),λr R h x D=>by rw[d];exact a.rlt r R h x D,a.mine,a.frz,a.apart,λl k B=>?_,a.linj,a.lro,a.epo,a.κ⟩,g.ids,
  Slots.tr T (λ_ _ _ _=>trivial) g.tm,Stack.tr T (λ_ _ _ _ _ _=>trivial) g.stk⟩
 obtain⟨q,f,e,s,t,m⟩:=a.loc l k B;exact⟨q,f,e,by rw[d];exact s,t,λj c u n i=>⟨(m j c u n i).1,VA.tr T (λ_ _=>trivial) (m j c u n i).2⟩⟩
theorem Sim.blind (d:Sim w0 S0 U st E ts sv w)(c:Bool)(n:Nat):Sim w0 S0 U {st with nid:=n,ep:=if c then st.ep+1 else st.ep} E ts sv w:=by
 have h:=d.nid n;cases c with
 |false=>exact h
 |true=>refine h.fewer (λ_=>rfl) (λ_=>rfl) rfl (λr R b=>?_) (λr R b=>⟨R,b⟩) (λr R e b i=>?_);{obtain⟨f,a⟩:=zbu b;have j:R.ep=none:=(by rcases a with a|a;{exact a};{have:=d.mem.epo r R _ f a;simp only[if_true] at this;omega});show St.root {st with nid:=n} r=some R;unfold St.root;have g:zo ({st with nid:=n}:St).ro r=some R:=f;rw[g];simp only[j]};{have:=d.mem.epo r R e b i;show e<=st.ep+1;omega}
theorem cnt_lt {p q:Nat->Bool}:∀(l:List Nat),(∀x∈l,q x=true->p x=true)->(∃x∈l,p x=true/\q x=false)->l.countP q<l.countP p
 |[],_,h=>by obtain⟨x,b,_⟩:=h;cases b
 |a::l,e,g=>by
  have f:∀(m:List Nat),(∀x∈m,q x=true->p x=true)->m.countP q<=m.countP p:=λm i=>List.countP_mono_left i;have i:=f l (λx b=>e x (by simp[b]))
  simp only[vI];cases j:q a with
  |true=>
   rw[e a (by simp) j]
   have:l.countP q<l.countP p:=cnt_lt l (λx b=>e x (by simp[b])) (by
    obtain⟨x,b,c,d⟩:=g;rcases qG.1 b with rfl|b
    .rw [j] at d;cases d
    .exact⟨x,b,c,d⟩)
   simp only[if_true];omega
  |false=>
   cases k:p a with
   |true=>simp;omega
   |false=>
    have:l.countP q<l.countP p:=cnt_lt l (λx b=>e x (by simp[b])) (by
     obtain⟨x,b,c,d⟩:=g;rcases qG.1 b with rfl|b
     .rw [k] at c;cases c
     .exact⟨x,b,c,d⟩)
    simp;omega
def left (n:Nat)(listed:Array Bool):Nat:=(List.range n).countP λi=>!listed.getD i true
theorem zIf {listed:Array Bool}{n i:Nat}(e:i<n)(c:listed.getD i true=false):left n (listed.setIfInBounds i true)<left n listed:=by unfold left;have a:i<listed.size:=(by rcases vA i listed.size with h|h;{exact h};{simp [uW h]at c});refine cnt_lt _ (λx _ d=>?_) ⟨i,kJ.2 e,by rw[c];rfl,by simp[a]⟩;by_cases b:i=x;{subst b;simp[a]at d};{rwa [getD_set_ne true b]at d}
theorem zWx {C:Cfg}{st:St}{o:Oper}{id:Nat}{d:Dl}(b:zsh o=true)(h:zky C st o id=some d):delta C st o id=some d:=by unfold zky at h;cases e:delta C st o id with|some g=>rw[e]at h;exact h|none=>rw[e]at h;exfalso;have h:zlB C st o id=some d:=h;have f:zkf C o=none:=(by unfold zsh at b;unfold zkf;cases a:o.op with|call c=>rw[a]at b;simp at b|_=>rfl);unfold zlB at h;rw[f]at h;cases h
structure Waits (md:Region.Mode) (ops:Array Oper) (cl:List (List Nat)):Prop where
 at':∀i,i<ops.size->cl.getD i []=waits ops (cl.take i) i
 lt:∀i,i<ops.size->∀j∈cl.getD i [],j<i
 sub:∀e,Region.binds .any e=true->Region.binds md e=true
 rk:∃rk:Nat->Nat,∀(i:Nat) (o:Oper),ops[i]?=some o->∀e∈o.after,Region.binds md e=true->e.on<ops.size/\rk e.on<rk i
variable {md:Region.Mode}
theorem z8O (a:∀i,i<ops.size->cl.getD i []=waits ops (cl.take i) i){i:Nat}{o:Oper}(b:ops[i]?=some o){e:Edge}(d:e∈o.after)(c:Region.binds .any e=true):e.on∈cl.getD i []:=by have f:=(qO.1 b).1;rw[a i f];simp only[waits,b];exact zMC (by simpa using d) c
theorem zR4 {l:List (List Nat)}{i j k:Nat}(h:k∈(l.take i).getD j []):k∈l.getD j []:=by rw[kA,jJ]at h;rw[kA];split at h;{exact h};{simp at h}
theorem Waits.inv (W:Waits md ops cl){i j:Nat}{o:Oper}(b:ops[i]?=some o)(a:j∈cl.getD i []):∃e∈o.after,Region.binds .any e=true/\(j=e.on\/j∈cl.getD e.on []):=by have f:=(qO.1 b).1;rw[W.at' i f]at a;simp only[waits,b]at a;obtain⟨e,d,c,h⟩:=zMD a;exact⟨e,by simpa using d,c,h.imp id zR4⟩
def XL (listed:Array Bool)(k:Nat):Bool:=listed.getD k false
theorem zGo (W:Waits md ops cl){listed:Array Bool}(d:zkQ cl (XL listed)){i:Nat}(f:i∈Region.ready md ops listed):∀j∈cl.getD i [],XL listed j=true:=by obtain⟨_,o,k,a⟩:=mem_ready.1 f;intro j g;obtain⟨e,c,b,h|h⟩:=W.inv k g;{subst h;exact a e c (W.sub e b)};{exact d _ (a e c<|W.sub e b) j h}
theorem least {p:Nat->Prop}:∀n,p n->∃m,m<=n/\p m/\∀j,j<m->¬ p j:=by intro n;induction n using Nat.strongRecOn with|_ n i=>intro g;by_cases h:∃j,j<n/\p j;{obtain⟨j,d,e⟩:=h;obtain⟨m,k,b,c⟩:=i j d e;exact⟨m,by omega,b,c⟩};{exact⟨n,qW _,g,λj f a=>h ⟨j,f,a⟩⟩}
theorem zLM (W:Waits md ops cl){listed:Array Bool}(s:listed.size=ops.size){b:Nat}(c:b<ops.size)(d:listed.getD b true=false):∃i,i∈Region.ready md ops listed:=by obtain⟨j,g⟩:=W.rk;obtain⟨n,_,⟨i,k,r,u⟩,a⟩:=least (p:=λn=>∃i,i<ops.size/\listed.getD i true=false/\j i=n) (j b) ⟨b,c,d,rfl⟩;refine⟨i,mem_ready.2 ⟨r,ops[i],by simp[k],λe q m=>?_⟩⟩;obtain⟨l,t⟩:=g i ops[i] (by simp[k]) e q m;cases h:listed.getD e.on false with|true=>rfl|false=>exfalso;refine a (j e.on) (by omega) ⟨e.on,l,?_,rfl⟩;have f:e.on<listed.size:=(by omega);simp only[Array.getD,f,dif_pos]at h ⊢;exact h
theorem ztd {listed:Array Bool}{i:Nat}(a:i<listed.size):XL listed i=listed.getD i true:=by simp[XL,a]
theorem zJz {listed:Array Bool}{i:Nat}(a:i<listed.size)(k:Nat):XL (listed.setIfInBounds i true) k=(XL listed k||k==i):=by unfold XL;by_cases h:i=k;{subst h;simp[a]};{rw [getD_set_ne false h];have:(k==i)=false:=(by simp;omega);rw[this,u0]}
theorem z0Y {P:Program}{Q d:Exit->Act->World->Prop}(f:∀e,e≠.normal->∀a w,d e a w->Q e a w){i:Nat}{K:Act->World->Prop}{a:Act}{w:World}(h:wpOp P ops d i K a w):wpOp P ops Q i K a w:=by
 have b:LetsOut d->LetsOut Q:=(by rintro⟨a,w,h⟩;exact⟨a,w,f _ (by simp) a w h⟩);unfold wpOp at h ⊢;split;{rename_i m;rw[m]at h;exact h}
 .rename_i o ho;simp only[ho]at h;split
  .rename_i j;rw[if_pos j]at h;rcases h with h|⟨k,l⟩
   .left
    unfold Oper.wp at *;generalize (execOp a.eval o).run P w=r at *;cases r with
    |ok n p =>
     cases n<;>simp only [Oper.upon]at h ⊢ <;>
      first
       |exact h
       |exact h.mono (λe q g=>by
        cases e with
        |returned v=>exact g
        |panicked c=>exact f _ (by simp) _ _ g
        |outgrown=>exact b g)
    |halt x p =>cases x<;>simp only [Oper.upon]at h ⊢ <;> first|exact f _ (by simp) _ _ h|exact h
   {exact .inr ⟨k,b l⟩}
  {rename_i j;rw[if_neg j]at h;exact h}
theorem zsF (W:Waits md ops cl){listed:Array Bool}{m:Nat}(e:listed.size=ops.size)(c:∀i,i<ops.size->listed.getD i true=decide (i<m)):zkQ cl (XL listed):=by intro k b j d;have a:k<ops.size:=(by rcases vA k listed.size with h|h;{omega};{simp [XL,uW h]at b});rw[ztd (by omega),c k a]at b;simp at b;have:=W.lt k a j d;rw[ztd (by omega),c j (by omega)];simp;omega
theorem z5f {P:Program}{Q:Exit->Act->World->Prop}{c:Nat}{b:Array Bool}{a:Act}{w:World}(g:∀i,i<ops.size->b.getD i true=true)(h:Q .normal a w):wpAny P md ops Q c b a w:=by have f:Region.ready md ops b=[]:=(by refine List.eq_nil_iff_forall_not_mem.2 (λi d=>?_);obtain⟨e,o,j,_⟩:=mem_ready.1 d;have d:=(qO.1 j).1;rw[g i d]at e;cases e);cases c with|zero=>exact⟨f,h⟩|succ c=>exact⟨λ_=>h,λi d=>by rw[f]at d;cases d⟩
theorem zYn (W:Waits md ops cl){P:Program}{Q:Exit->Act->World->Prop}{b m:Nat}{listed:Array Bool}{a:Act}{w:World}(c:listed.size=ops.size)(r:m<ops.size)(A:Pinned ops.size cl m)(p:∀i,i<ops.size->listed.getD i true=decide (i<m))(B:left ops.size listed<=b)(h:∀q l,l.size=ops.size->(∀i,i<ops.size->l.getD i true=decide (i<m+1))->left ops.size l<=q->b=q+1->l=listed.setIfInBounds m true->wpOp P ops Q m (wpAny P md ops Q q l) a w):wpAny P md ops Q b listed a w:=by have t:listed.getD m true=false:=(by rw[p m r];simp);obtain⟨C,j⟩:=zLM W c r t;have y:=zIf (listed:=listed) (n:=ops.size) (i:=m) r t;obtain⟨b,rfl⟩:∃f,b=f+1:=⟨b-1,by omega⟩;refine⟨λh=>(by rw[h]at j;cases j),λi v=>?_⟩;obtain⟨u,o,z,_⟩:=mem_ready.1 v;have d:=(qO.1 z).1;rw[p i d]at u;simp only[decide_eq_false_iff_not,Nat.not_lt]at u;have e:i=m:=(by by_cases s:i=m;{exact s};{exfalso;have:=zGo W (zsF W c p) v m (A.wait i (by omega) d);rw[ztd (by omega),t] at this;cases this});subst e;refine h b _ (by simp[c]) (λk x=>?_) (by omega) rfl rfl;by_cases g:i=k;{subst g;simp[c,d]};{rw [getD_set_ne true g,p k x];congr 1;simp only[eq_iff_iff];omega}
theorem zSK {a T:Nat}(W:Waits md ops cl)(M:T<=ops.size)(s:T<ops.size->Pinned ops.size cl T){P:Program}{Q:Exit->Act->World->Prop}{J:(Nat->Bool)->Env->Array Value->World->Prop}(d:∀X Y E ts w,(∀k,a<=k->k<T->X k=Y k)->J X E ts w->J Y E ts w)(l:∀X Y i,zkQ cl X->a<=i->i<T->X i=false->(∀j∈cl.getD i [],X j=true)->(∀k,Y k=(X k||k==i))->∀E ts w,J X E ts w->∀K:Act->World->Prop,(∀A c y,J Y A c y->K {tmps:=c,defers:=[]} y)->wpOp P ops Q i K {tmps:=ts,defers:=[]} w)(p:∀(Z:Nat) (I:Array Bool) (A:Env) (c:Array Value) (y:World),I.size=ops.size->(∀i,i<ops.size->I.getD i true=decide (i<T))->left ops.size I<=Z->J (λ_=>true) A c y->wpAny P md ops Q Z I {tmps:=c,defers:=[]} y) :
 ∀(b:Nat) (listed:Array Bool) (E:Env) (ts:Array Value) (w:World),listed.size=ops.size->zkQ cl (XL listed)->(∀i,i<a->XL listed i=true)->(∀m,T<=m->m<ops.size->XL listed m=false)->left ops.size listed<=b->
  J (XL listed) E ts w->wpAny P md ops Q b listed {tmps:=ts,defers:=[]} w
 |b,listed,E,ts,w,x,N,q,g,hf,hS=>by by_cases e:∀i,i<T->XL listed i=true;{have hl:∀i,i<ops.size->listed.getD i true=decide (i<T):=(by intro i z;rw[<- ztd (by omega)];by_cases h:i<T;{rw [e i h];simp[h]};{rw [g i (by omega) z];simp[h]});exact p b listed E ts w x hl hf (d _ _ E ts w (λk _ v=>e k v) hS)};{have O:∃i,i<T/\XL listed i=false:=(by refine Classical.byContradiction (λV=>e λi z=>?_);cases h:XL listed i with|true=>rfl|false=>exact absurd ⟨i,z,h⟩ V);obtain⟨H,R,r⟩:=O;have F:listed.getD H true=false:=(by rw[<- ztd (by omega)];exact r);obtain⟨i1,D⟩:=zLM W x (by omega) F;have a0:0<left ops.size listed:=(by have:=zIf (listed:=listed) (n:=ops.size) (i:=H) (by omega) F;omega);obtain⟨b,rfl⟩:∃f,b=f+1:=⟨b-1,by omega⟩;refine⟨λh=>(by rw[h]at D;cases D),λi z=>?_⟩;obtain⟨h0,o,ho,_⟩:=mem_ready.1 z;have B:=(qO.1 ho).1;have u:XL listed i=false:=(by rw[ztd (by omega)];exact h0);have G:=zGo W N z;have S:a<=i:=(by refine Classical.byContradiction (λV=>?_);rw[q i (by omega)]at u;cases u);have t:i<T:=(by refine Classical.byContradiction (λV=>?_);have hp:=s (by omega);by_cases t:i=T;{subst t;have:=G H (hp.full H R);rw[r] at this;cases this};{have:=G T (hp.wait i (by omega) B);rw[g T (qW _) (by omega)] at this;cases this});refine l _ (XL<|listed.setIfInBounds i true) i N S t u G (zJz (by omega)) E ts w hS _ (λA c y L=>?_);refine zSK W M s d l p b (listed.setIfInBounds i true) A c y (by simp[x]) ?_ ?_ ?_ ?_ L;{intro k v j hj;rw[zJz (by omega)]at v ⊢;by_cases C:k=i;{subst C;rw[G j hj];rfl};{have:(k==i)=false:=(by simp[C]);rw[this,u0]at v;rw[N k v j hj];rfl}};{intro k v;rw[zJz (by omega),q k v];rfl};{intro m hm U;rw[zJz (by omega),g m hm U];simp;omega};{have:=zIf (listed:=listed) (n:=ops.size) B h0;omega}}
theorem z4K (A:CfgOk C)(D:CtrOk C)(B:GraftOk C){a T:Nat}(W:Waits md ops cl)(I:a+ss.length=T)(q:T<=ops.size)(g:T<ops.size->Pinned ops.size cl T)(F:Free C ops cl b base a ss st0)(N:b=false->∀k,a<=k->k<T->zlv C ops k=false)(O:b=true->Dead st0/\0<st0.ep)(H:∀k,a<=k->k<T->∀n,Mine (base+32*k) n->¬ U n){Q:Exit->Act->World->Prop}(e:∀(t:Nat) (p:Array Bool) (y:Env) (j:Array Value) (x:World),p.size=ops.size->(∀i,i<ops.size->p.getD i true=decide (i<T))->left ops.size p<=t->
 Sim w0 S0 (UX U base a T λ_=>true) (zbD ops b (λ_=>true) a ss st0) y j sv x->wpAny C.P md ops Q t p {tmps:=j,defers:=[]} x) :
 ∀(d:Nat) (c:Array Bool) (E:Env) (ts:Array Value) (w:World),c.size=ops.size->zkQ cl (XL c)->(∀i,i<a->XL c i=true)->(∀m,T<=m->m<ops.size->XL c m=false)->left ops.size c<=d->
  Sim w0 S0 (UX U base a T<|XL c) (zbD ops b (XL c) a ss st0) E ts sv w->wpAny C.P md ops Q d c {tmps:=ts,defers:=[]} w :=
 zSK (J:=λX E ts w=>Sim w0 S0 (UX U base a T X) (zbD ops b X a ss st0) E ts sv w) W q g
  (λX Y E ts w h l=>by
   rw[zre ss a st0 λk f v=>h k f (by omega)]at l
   refine l.uses ?_
   rintro n (f|⟨k,u,f,v,z⟩)
   .exact .inl f
   .exact .inr ⟨k,u,f,by rw[<- h k u f];exact v,z⟩)
  (λX Y i L s R r S M E ts w l K G=>zP8 A D B I F L s R r S N O H M l G) e
theorem get_put {st:St}{d:Nat}{m:MV}{a:Key}(h:a≠.tm d):(st.put (some d) m).get a=st.get a:=by cases a with|tm t=>have:d≠t:=λe=>h (by rw[e]);simp[St.get,St.put,q9,this]|ro n=>rfl|lo n=>rfl
theorem z3J {st b:St}{o:Oper}(c:b.ep=st.ep)(g:∀t∈zo1 o,b.get (.tm t)=st.get (.tm t))(f:∀n∈(zto st o).flatMap zbo,b.get (.ro n)=st.get (.ro n))(d:∀n∈(zto st o).flatMap zbv,b.get (.lo n)=st.get (.lo n)):Agree st b o.op.operands.toList:=by refine⟨c,λx h=>?_,λx h m k a j=>?_⟩;{cases x with|tmp t=>have l:t∈zo1 o:=(by unfold zo1;exact uO.2 ⟨_,h,rfl⟩);simp only[St.opnd,zJ1<|g t l]|_=>rfl};{have i:a∈zto st o:=(by unfold zto;exact qP.2 ⟨m,uO.2 ⟨x,h,k⟩,j⟩);exact⟨λn e=>zCC (f n<|qP.2 ⟨a,i,e⟩),λn e=>zJ0 (d n<|qP.2 ⟨a,i,e⟩)⟩}
theorem zWq {st k:St}{o:Oper}(h:Agree st k o.op.operands.toList):zq7 C k o=zq7 C st o:=by cases f:o.op with|call c=>rw[f]at h;have l:∀x∈c.args.toList,x∈(Op.call c).operands.toList:=λx j=>(by simp only[Op.operands,Call.operands,Array.toList_append,jH];exact .inr j);simp only[zq7,f];(cases w:o.dst with|none=>rfl|some d=>(cases hg:o.guard with|some g=>rfl|none=>simp only;(cases q:c.callee with|builtin b=>(cases b with|append=>simp only;split;{rename_i x y T u i s;have j:=l x (by rw[i];simp);have m:=l y (by rw[i];simp);rw[h.at j,h.at m];split;{cases v:C.sty T with|none=>rfl|some t=>(cases e:st.at x with|none=>rfl|some a=>(cases a with|sl r p=>(cases p with|nil=>rfl|cons z p=>(cases n:st.at y with|none=>rfl|some b=>(cases b with|sl B A=>simp only[h.root<|zeg j e,h.node<|zeg j e,h.node<|zeg m n]|_=>rfl)))|_=>rfl))};{rfl}};{rfl}|_=>rfl)|_=>rfl)))|_=>simp only[zq7,f]
theorem zLL (g:CfgOk C)(e:Sim w0 S0 U st E ts sv w){o:Oper}{id:Nat}{d:Dl}(b:zsh o=true)(h:delta C st o id=some d)(i:d.c=true):o.guard=none/\ztc C U st E ts w o d:=by
 unfold zsh at b;simp only[qE,kL]at b;obtain⟨hg,b⟩:=b;refine⟨hg,?_⟩;cases a:o.op
 case move x=>
  rw[a]at b;cases x with
  |tmp t=>simp only[delta,a]at h;split at h;{rename_i v j;cases h;exact z2O e (.inl a) j};{cases h}
  |_=>simp at b
 (case load T x=>exact z2N g e a h);(case fieldAddr T x f=>exact zGm g e a h);(case indexAddr T x y=>exact zGn g e a h i);(case nilCheck x=>exact zLF e a h);all_goals (rw [a]at b;simp at b)
theorem pure_run {o:Oper}{i:Nat}{d:Dl}{v:Value}{Q:Exit->Act->World->Prop}{K:Act->World->Prop}(a:ops[i]?=some o)(hg:o.guard=none)(b:(execOp ({tmps:=ts,defers:=[]}:Act).eval o).run C.P w = .ok (.value v) w1)(h:K {tmps:=(({tmps:=ts,defers:=[]}:Act).put o.dst v).tmps,defers:=[]} w1):wpOp C.P ops Q i K {tmps:=ts,defers:=[]} w:=by unfold wpOp;simp only[a];rw[if_pos (by simp[Region.wanted,hg])];left;unfold Oper.wp;rw[b,Oper.upon_value,zjj];exact h
theorem zU4 {d t:Nat}{v u:Value}(h:ts[t]?=some u)(a:d≠t):(({tmps:=ts,defers:=[]}:Act).put (some d) v).tmps[t]?=some u:=by simp[Act.put,Array.getElem?_setIfInBounds_ne a,h]
theorem z4T (hC:CfgOk C)(hH:CtrOk C)(hG:GraftOk C){a A:Nat}(W:Waits md ops cl)(hA:a+ss.length=A)(c4:A+1<=ops.size)(c1:A+1<ops.size->Pinned ops.size cl (A+1))(F:Free C ops cl b base a ss st0)(hb:b=false->∀k,a<=k->k<A->zlv C ops k=false)(c6:b=true)(hd:b=true->Dead st0/\0<st0.ep)(hM:∀k,a<=k->k<A->∀n,Mine (base+32*k) n->¬ U n){D:Oper}{x:App}(d5:ops[A]?=some D)(y:zq7 C (zbD ops b (fun _=>true) a ss st0) D=some (true,x))(d1:zCY ops cl a A=true)(a5:x.dst<(zbD ops b (fun _=>true) a ss st0).tm.length)(N:∀i s o f,ss[i]?=some s->ops[a+i]?=some o->At1 C ops base (a+i) o (zbD ops b (fun j=>decide (j<a+i)) a ss st0) f s->a+i∉cl.getD A []->f.apart (zf8 (zbD ops b (fun _=>true) a ss st0) ops D zDZ)=true){Q:Exit->Act->World->Prop}(b0:∀(fl:Nat) (l':Array Bool) (E':Env) (B:Array Value) (w':World) (v:Value),l'.size=ops.size->(∀i,i<ops.size->l'.getD i true=decide (i<A+1))->left ops.size l'<=fl->B[x.dst]?=some v->
 Sim w0 S0 (UX U base a A (fun _=>true)) ((zbD ops b (fun _=>true) a ss st0).put D.dst (.v (.at .bad))) E' B sv w'->Late w0 ((zbD ops b (fun _=>true) a ss st0).put D.dst (.v (.at .bad))) E' x v w'->wpAny C.P md ops Q fl l' {tmps:=B,defers:=[]} w')(I:Nat)(g:Array Bool)(E:Env)(ts:Array Value)(w:World)(d6:g.size=ops.size)(hX:zkQ cl (XL g))(b3:∀i,i<a->XL g i=true)(a6:∀m,A<=m->m<ops.size->XL g m=false)(hf:left ops.size g<=I)(hS:Sim w0 S0 (UX U base a A (XL g)) (zbD ops b (XL g) a ss st0) E ts sv w):wpAny C.P md ops Q I g {tmps:=ts,defers:=[]} w:=by
 have l:D.dst=some x.dst/\D.guard=none:=by unfold zq7 at y;split at y;{rename_i c d ho l c9;refine⟨?_,c9⟩;rw[l];congr 1;(repeat' (first|(split at y)|(cases y)));all_goals first|rfl|(simp only [qC,jS]at y;obtain⟨_,rfl⟩:=y;rfl)};{cases y}
 have S:∀{X Y:Nat->Bool} {i:Nat},(∀k,Y k=(X k||k==i))->∀n,UX U base a A X n->UX U base a A Y n:=by intro X Y i V n h;rcases h with h|⟨k,h0,p,r,h3⟩;{exact .inl h};{exact .inr ⟨k,h0,p,by rw[V,r];rfl,h3⟩}
 have a8:∀{X:Nat->Bool} (q:Key),(∀j∈cl.getD A [],X j=true)->(zf8 (zbD ops b (fun _=>true) a ss st0) ops D zDZ).reads q->(zbD ops b X a ss st0).get q=(zbD ops b (fun _=>true) a ss st0).get q:=by intro X q hr H;refine zrd ss a st0 st0 rfl rfl (fun k s' o' hk b9 a9 hw=>?_);obtain⟨o2,f',c0,r⟩:=F.at1 k s' hk;rw[b9]at c0;cases c0;have b1:X (a+k)=false:=(by cases h:X (a+k) with|false=>rfl|true=>exact absurd h a9);have hn:a+k∉cl.getD A []:=fun h=>(by rw[hr _ h]at b1;cases b1);exact((apart_spec (N k s' o' f' hk b9 r hn)).1 q ((zCk r q).1 hw)).1 H
 refine zSK (T:=A+1) (J:=fun X E ts w=>(X A=false->Sim w0 S0 (UX U base a A X) (zbD ops b X a ss st0) E ts sv w)/\
  (X A=true->∃v,ts[x.dst]?=some v/\Sim w0 S0 (UX U base a A X) ((zbD ops b X a ss st0).put D.dst (.v (.at .bad))) E ts sv w/\Late w0 (zbD ops b X a ss st0) E x v w)) W c4 c1 ?_ ?_ ?_
  I g E ts w d6 hX b3 (fun m p r=>a6 m (by omega) r) hf ⟨fun _=>hS,fun h=>(by rw[a6 A (qW _) (by omega)]at h;cases h)⟩
 .intro X Y E ts w h hJ;have u:X A=Y A:=h A (by omega) (by omega)
  have e:=zre (ops:=ops) (b:=b) ss a st0 (X:=X) (Y:=Y) (fun k p r=>h k p (by omega))
  have hu:∀n,UX U base a A X n->UX U base a A Y n:=by rintro n (p|⟨k,h0,p,r,h3⟩);{exact .inl p};{exact .inr ⟨k,h0,p,by rw[<- h k h0 (by omega)];exact r,h3⟩}
  refine⟨fun G=>?_,fun G=>?_⟩
  .have:=hJ.1 (u.trans G);rw[e] at this;exact this.uses hu
  .obtain⟨v,p,r,h3⟩:=hJ.2 (u.trans G);rw[e]at r h3;exact⟨v,p,r.uses hu,h3⟩
 .intro X Y i hX hia hi hXi hr V E ts w hJ K hK
  by_cases d0:i=A
  .subst d0;have L:=hJ.1 hXi;have b2:zbD ops b Y a ss st0=zbD ops b X a ss st0:=zre ss a st0 (fun k p r=>by
    rw[V];have:(k==i)=false:=by simp;omega
    rw[this,u0])
   have c5:Agree (zbD ops b (fun _=>true) a ss st0) (zbD ops b X a ss st0) D.op.operands.toList :=
    z3J (by rw[zic,zic]) (fun t ht=>a8 (.tm t) hr (by simp only[Foot.reads,zf8];exact j5 _ ht)) (fun n hn=>a8 (.ro n) hr hn) (fun n hn=>a8 (.lo n) hr hn)
   have a2:=zWq (C:=C) c5;rw[y]at a2;have c8:Dead (zbD ops b X a ss st0):=by subst c6;exact zzg ss a st0 (hd rfl).1 (hd rfl).2
   obtain⟨hg,c7,v,w',R,a7,hL⟩:=z4X hC L c8 a2;refine pure_run (d:=zDZ) d5 hg R (hK E _ w' ⟨fun h=>(by rw[V]at h;simp at h),fun _=>⟨v,?_,?_,?_⟩⟩)
   .rw [c7];have d4:x.dst<ts.size:=by rw[L.tm.1,zoi];rw[zoi]at a5;exact a5
    simp[Act.put,d4]
   .rw [b2];exact a7.uses (S V)
   .rw [b2];exact hL
  .have hiA':i<A:=by omega
   have G:Y A=X A:=by rw[V];have:(A==i)=false:=(by simp;omega);rw[this,u0]
   cases u:X A with
   |false=>refine zP8 hC hH hG hA F hX hia hiA' hXi hr hb hd hM V (hJ.1 u) (fun E' B w' a7=>hK E' B w' ⟨fun _=>a7,fun h=>(by rw[G,u]at h;cases h)⟩)
   |true=>
    obtain⟨v,hv,L,hL⟩:=hJ.2 u;obtain⟨j,rfl⟩:∃j,i=a+j:=⟨i-a,by omega⟩;obtain⟨s,hs⟩:∃s,ss[j]?=some s:=⟨_,qB (by omega)⟩;obtain⟨o,f,ho,p,r⟩:=zJZ F hX hs hXi hr;have b8:a+j∉cl.getD A []:=fun h=>(by rw[hX A u _ h]at hXi;cases hXi);have O:zsh o=true:=(by have:=qM.1 d1 (a+j) (by simp;omega);simp only[ho,kD,jM,q0] at this;rcases this with h|h;{exact absurd h b8};{exact h});have a3:=apart_spec (N j s o f hs ho p b8);have c2:(zf8 (zbD ops b (fun _=>true) a ss st0) ops D zDZ).writes (.tm x.dst):=(by simp only[Foot.writes,zf8];exact l.1);have a9:∀q,f.reads q->q≠.tm x.dst:=fun q H e=>a3.2 (.tm x.dst) c2 (e ▸ H);have a4:o.dst≠some x.dst:=fun e=>(a3.1 (.tm x.dst) ((zCk p (.tm x.dst)).1 (by cases s<;>exact e))).2 c2;have a0:∀Z,(zbD ops b Z a ss st0).ep=st0.ep:=fun Z=>zic ss a st0;have M:=zSM (S':=(zbD ops b X a ss st0).put D.dst (.v (.at .bad))) p (by rw[a0,l.1];exact a0 X) (fun q H=>by rw[l.1,get_put (a9 q H)];exact r q H);have b4:o.guard=none:=by unfold zsh at O;simp only[qE,kL]at O;exact O.1
    cases s with
    |none=>exfalso;have:zdy ops o ((zbD ops b X a ss st0).put D.dst (.v (.at .bad)))=some false:=M;simp[zdy,b4] at this
    |some d=>
     obtain⟨_,d2,d3⟩:=M;obtain⟨_,v2,R,d7,b5,e1,e2,e3⟩:=zLL hC L O (zWx O d2) d3;have z:∀q,(zbD ops b Y a ss st0).get q=((zbD ops b X a ss st0).put o.dst d.v).get q:=(by intro q;rw[zTo F hX hs ho hXi V q];simp only[St.step,St.effD,e1,e2,List.map_nil,jP]);have c3:Sim w0 S0 (UX U base a A X) (((zbD ops b X a ss st0).put D.dst (.v (.at .bad))).put o.dst d.v) E (({tmps:=ts,defers:=[]}:Act).put o.dst v2).tmps sv w:=L.putV d7 b5;refine pure_run (d:=d) ho b4 R (hK E _ w ⟨fun h=>(by rw[G,u]at h;cases h),fun _=>⟨v,?_,?_,?_⟩⟩);{cases a1:o.dst with|none=>exact hv|some t=>exact zU4 hv (fun e=>a4 (by rw[a1,e]))}
     .refine(c3.same (fun q=>?_) ?_ ?_).uses (S V)
      .rw [l.1];cases q with
       |tm t=>
        have hk:=z (.tm t);have b6:(zbD ops b Y a ss st0).tm.length=(zbD ops b X a ss st0).tm.length:=(by rw[zoi,zoi]);by_cases ht:t=x.dst;{subst ht;cases a1:o.dst with|none=>simp[St.get,St.put,q9,b6]|some t' =>have:t'≠x.dst:=fun e=>a4 (by rw[a1,e]);simp[St.get,St.put,q9,b6,this]}
        .have hne':x.dst≠t:=fun e=>ht e.symm;rw[get_put (by simpa using ht),hk]
         cases a1:o.dst with
         |none=>simp[St.get,St.put,q9,hne']
         |some t' =>simp only[St.get,St.put,q9,List.length_set];split;{rfl};{first|rfl|rw[if_neg hne']}
       |ro n=>have hk:=z (.ro n);rw[get_put (by simp),hk];cases o.dst<;>rfl
       |lo n=>have hk:=z (.lo n);rw[get_put (by simp),hk];cases o.dst<;>rfl
      {rw [l.1];have p:(zbD ops b Y a ss st0).stk=(zbD ops b X a ss st0).stk:=(by rw[zr1,zr1]);cases o.dst<;>exact p};{rw [l.1];have p:(zbD ops b Y a ss st0).ep=(zbD ops b X a ss st0).ep:=(by rw[zic,zic]);cases o.dst<;>exact p}
     .have hro:∀n,zo (zbD ops b Y a ss st0).ro n=zo (zbD ops b X a ss st0).ro n:=fun n=>(by rw[zCC (z (.ro n))];cases o.dst<;>rfl);have b7:∀n,zo (zbD ops b Y a ss st0).lo n=zo (zbD ops b X a ss st0).lo n:=fun n=>by rw[zJ0 (z (.lo n))];cases o.dst<;>rfl
      exact hL.states (fun n=>by
       unfold St.root;rw[hro n,a0 Y,a0 X]) b7
 .intro fl l' E' B w' hsz' hl' hf' hJ;obtain⟨v,p,r,h3⟩:=hJ.2 rfl;refine b0 fl l' E' B w' v hsz' hl' hf' p r (h3.states (fun n=>?_) (fun n=>?_))
  .rw [l.1];rfl
  .rw [l.1];rfl
def VV (U:Nat->Prop)(base a m n:Nat):Prop:=U n\/(base<=n/\n<base+32*m)\/base+32*a<=n
theorem zxV (N:CfgOk C)(W:Waits md ops cl){x:App}{kk:Nat->List Bool->St->Option Ans}{s:Ans}{Q:Exit->Act->World->Prop}(B:∀(H:Nat) (r':List Bool) (L:Nat->Prop) (j:St) (K:Env) (I:Array Value) (J:World) (u:Nat) (p:Array Bool),r'=(zih ops.size cl).drop H->H<=ops.size->p.size=ops.size->(∀i,i<ops.size->p.getD i true=decide (i<H))->left ops.size p<=u->
 Sim w0 S0 L j K I sv J->(∀n,L n->VV U base ops.size H n)->(∀n,j.nid<=n->¬ L n)->base+32*ops.size<=j.nid->kk H r' j=some s->wpAny C.P md ops Q u p {tmps:=I,defers:=[]} J) :
 ∀(l:List Bool) (m:Nat) (V:Nat->Prop) (st:St) (E:Env) (ts:Array Value) (w:World) (b:Nat) (a:Array Bool) (v:Value),l=(zih ops.size cl).drop m->m<=ops.size->a.size=ops.size->(∀i,i<ops.size->a.getD i true=decide (i<m))->left ops.size a<=b->
  Sim w0 S0 V st E ts sv w->(∀n,V n->VV U base ops.size m n)->(∀n,st.nid<=n->¬ V n)->base+32*ops.size<=st.nid->ts[x.dst]?=some v->Late w0 st E x v w->zqy C ops base x kk l m st=some s->wpAny C.P md ops Q b a {tmps:=ts,defers:=[]} w
 |[],m,V,st,E,ts,w,b,a,v,_,_,_,_,_,_,_,_,_,_,_,h=>by simp[zqy]at h
 |false::r,m,V,st,E,ts,w,b,a,v,_,_,_,_,_,_,_,_,_,_,_,h=>by simp[zqy]at h
 |true::r,m,V,st,E,ts,w,b,a,v,hp,hm,Y,hl,hf,O,hV,hF,hn,Z,hL,h=>by
  simp only[zqy]at h;obtain⟨T,F,hr⟩:=zsf hp;have y:∀n,V n->VV U base ops.size (m+1) n:=(by rintro n g;rcases hV n g with h|⟨M,h2⟩|h;{exact .inl h};{exact .inr (.inl ⟨M,by omega⟩)};{exact .inr (.inr h)});refine zYn W Y T (zwZ F.symm) hl hf (λu p k D z _ _=>?_);split at h;{cases h}
  .rename_i o ho;split at h
   .rename_i c st2 hst;cases q:c with
    |false=>rw[q]at h;cases h
    |true=>rw[q]at h hst;simp only[cond_true,zDJ]at h;obtain⟨hg,S,a1⟩:=zZQ (id:=base+32*m) N O hL Z hst;unfold wpOp;simp only[ho];rw[if_pos (by simp[Region.wanted,hg])];refine .inl (S _ _ λK v' J R=>?_);rw[zjj];refine B (m+1) r _ _ K _ J u p hr (by omega) k D z R ?_ ?_ (by rw[zgh];omega) h;{rintro n (h|⟨M,h2⟩);{exact y n h};{exact .inr (.inl ⟨by omega,by omega⟩)}};{rintro n g (h|⟨M,h2⟩);{exact hF n (by rw[zgh]at g;omega) h};{rw [zgh]at g;omega}}
   {split at h;{rename_i f;simp only[qE,jF,beq_eq_false_iff_ne]at f;split at h;{rename_i d hd;cases q:d.c with|false=>rw[q]at h;cases h|true=>rw[q]at h;simp only[cond_true]at h;obtain⟨hg,v2,G,a0,A,e1,e2,e3⟩:=zLL N O f.1 hd q;have he:st.apply o.dst d=st.put o.dst d.v:=(by simp[St.apply,e1,e2,e3]);rw[he]at h;refine pure_run (d:=d) ho hg G ?_;refine zxV N W B r (m+1) V _ E _ w u p v hr (by omega) k D z (O.putV a0 A) y (by rw[zgh];exact hF) (by rw[zgh];exact hn) ?_ (hL.states (λn=>?_) λn=>?_) h;{cases X:o.dst with|none=>exact Z|some t=>exact zU4 Z (λe=>f.2 (by rw[X,e]))};{cases o.dst<;>rfl};{cases o.dst<;>rfl}};{cases h}};{cases h}}
theorem znA (hC:CfgOk C)(hH:CtrOk C)(hG:GraftOk C)(hN:NameOk C){a1:zhv}(u:ztV C a1)(W:Waits md ops cl){k:St->Option Ans}{b1:Ans}{Q:Exit->Act->World->Prop}(N:∀n,base<=n->¬ U n)(hk:∀(U':Nat->Prop) (d:St) (E':Env) (B:Array Value) (w':World),Sim w0 S0 U' d E' B sv w'->(∀n,U' n->VV U base ops.size ops.size n)->base+32*ops.size<=d.nid->(∀n,d.nid<=n->¬ U' n)->k d=some b1->Q .normal {tmps:=B,defers:=[]} w') :
 ∀(fs m:Nat) (Y:List Bool) (V:Nat->Prop) (st:St) (E:Env) (ts:Array Value) (w:World) (l:Nat) (c:Array Bool),Y=(zih ops.size cl).drop m->m<=ops.size->c.size=ops.size->(∀i,i<ops.size->c.getD i true=decide (i<m))->left ops.size c<=l->
  Sim w0 S0 V st E ts sv w->(∀n,V n->VV U base ops.size m n)->(∀n,st.nid<=n->¬ V n)->base+32*ops.size<=st.nid->zkT C a1 ops cl base k fs m Y st=some b1->wpAny C.P md ops Q l c {tmps:=ts,defers:=[]} w
 | 0,m,Y,V,st,E,ts,w,l,c,_,_,_,_,_,_,_,_,_,h=>by simp[zkT]at h
 |fs+1,m,[],V,st,E,ts,w,l,c,hp,hm,G,hl,hf,hS,hV,hF,hn,h=>by simp only[zkT]at h;have a8:=zUZ hp;have e:m=ops.size:=(by omega);subst e;exact z5f (λi hi=>by rw[hl i hi];simp[hi]) (hk V st E ts w hS hV hn hF h)
 |fs+1,m,true::r,V,st,E,ts,w,l,c,hp,hm,G,hl,hf,hS,hV,hF,hn,h=>by
  simp only[zkT]at h;obtain⟨a8,b8,hr⟩:=zsf hp;refine zYn W G a8 (zwZ b8.symm) hl hf (λfl l' A X S _ _=>?_)
  let Q':Exit->Act->World->Prop:=λe a w=>match e with
   |.normal=>wpAny C.P md ops Q fl l' a w
   |e=>Q e a w
  have hQ:∀e,e≠Exit.normal->∀a w,Q' e a w->Q e a w:=by intro e he a w h;cases e<;>first|exact absurd rfl he|exact h
  refine z0Y hQ ?_;have c0:=zoI (Q:=Q') hC hH hG hN u (ops:=ops) (base:=base) (V:=VV U base ops.size (m+1)) (nid0:=base+32*ops.size) (λn p=>.inr (.inr p))
   (λU' d E' B w' M c7 p c6 h'=>znA hC hH hG hN u W N hk fs (m+1) r U' d E' B w' fl l' hr (by omega) A X S M c7 c6 p h')
   [m] V st E ts w hS ?_ hF ?_ (by simp) hn ?_ h
  {rw [wpOps_cons] at c0;exact wpOp_mono (λa w h=>h) c0};{rintro n p;rcases hV n p with h|⟨t,D⟩|h;{exact .inl h};{exact .inr (.inl ⟨t,by omega⟩)};{exact .inr (.inr h)}};{intro j hj n d2;simp only[qF]at hj;subst hj;obtain⟨Z,g2⟩:=d2;refine⟨λp=>?_,.inr<|.inl ⟨by omega,by omega⟩⟩;rcases hV n p with h|⟨t,D⟩|h;{exact N n (by omega) h};{omega};{omega}};{intro j hj;simp only[qF]at hj;subst hj;omega}
 |fs+1,m,false::r,V,st,E,ts,w,l,c,hp,hm,G,hl,hf,hS,hV,hF,hn,h=>by
  simp only[zkT]at h;obtain⟨a8,_,hr⟩:=zsf hp;obtain⟨b6,a2,a3⟩:=zQu r (m+1) (by omega) hr;generalize b5:(List.range' m<|zcu r+1).any (zlv C ops)=b at h;have H:Sim w0 S0 V {st with ep:=if b then st.ep+1 else st.ep} E ts sv w:=hS.blind b st.nid;have z:({st with ep:=if b then st.ep+1 else st.ep}:St).nid=st.nid:=rfl
  have a0:b=true->Dead ({st with ep:=if b then st.ep+1 else st.ep}:St)/\0<({st with ep:=if b then st.ep+1 else st.ep}:St).ep:=by
   intro hb;subst hb;refine⟨λn R e hR he=>?_,by simp⟩
   have:=hS.mem.epo n R e hR he;simp only[if_true];omega
  have b4:b=false->∀k,m<=k->k<m+1+zcu r->zlv C ops k=false:=(by intro hb k d9 e0;rw[hb]at b5;have:=kQ.1 b5 k (by simp;omega);simpa using this);have hM:∀k,m<=k->k<m+1+zcu r->∀n,Mine (base+32*k) n->¬ V n:=by intro k t D n p hv;have Z:=p.1;have g2:=p.2;rcases hV n hv with h|⟨h3,h4⟩|h;{exact N n (by omega) h};{omega};{omega}
  have a5:∀(ss:List Step) (st0:St),zbD ops b (XL c) m ss st0=st0:=λss st0=>zvH ss m st0 (λk hk=>by
   rcases vA k ops.size with h|h
   .rw [ztd (by omega),hl k h];simp;omega
   .simp [XL,uW (show c.size<=k by omega)])
  have b3:∀{T:Nat},T<=m+(zcu r+1)->∀n,UX V base m T (λ_=>true) n->VV U base ops.size (m+(zcu r+1)) n:=(by rintro T hT n (h|⟨k,h0,t,_,h3⟩);{rcases hV n h with h|⟨t,D⟩|h;{exact .inl h};{exact .inr (.inl ⟨t,by omega⟩)};{exact .inr (.inr h)}};{have Z:=h3.1;have g2:=h3.2;exact .inr (.inl ⟨by omega,by omega⟩)});have b2:∀{T:Nat},T<=m+(zcu r+1)->∀n,st.nid<=n->¬ UX V base m T (λ_=>true) n:=(by rintro T hT n p (h|⟨k,h0,t,_,h3⟩);{exact hF n (by omega) h};{have:=h3.2;omega});have b7:∀{gs:List (Nat×Foot)} {ss:List Step} {st0 d:St},(∀x∈gs,∀y∈gs,(¬ x.1<y.1\/x.1∈cl.getD y.1 [])\/x.2.apart y.2=true)->Trace C ops b base m ss gs st0 d->Free C ops cl b base m ss st0:=(by intro gs ss st0 d g q;have O:=zWc q;refine⟨λi s hs=>?_,λi k s s' o o' f f' hs d4 ho d3 t D d8 a9=>?_⟩;{obtain⟨o,f,Z,g2,g3⟩:=O i s hs;exact⟨o,f,Z,g3⟩};{obtain⟨o1,f1,Z,g2,g3⟩:=O i s hs;obtain⟨o2,f2,e1,e2,e3⟩:=O k s' d4;rw[ho] at Z;cases Z;rw[d3] at e1;cases e1;have a6:=zGS t g3;have d1:=zGS D e3;subst a6 d1;rcases g _ g2 _ e2 with (h|h)|h;{exact absurd (by show m+i<m+k;omega) h};{exact absurd h a9};{exact h}});have J:∀i,i<m->XL c i=true:=λi hi=>(by rw[ztd (by omega),hl i (by omega)];simp[hi]);have I:∀k,m<=k->k<ops.size->XL c k=false:=λk t D=>(by rw[ztd (by omega),hl k D];simp;omega);rcases zsB (zcu r+1) m [] _ h with⟨ss,gs,d,a4,q,g,K⟩|⟨ss,gs,d,oA,x,a4,q,b0,c8,c9,a7,d5,g,K⟩|⟨ss,gs,d,oA,a4,q,b0,d0,a7,e4,g,K⟩;{rw [jA]at g;unfold zog at g;simp only[jF,qM,kD,decide_eq_false_iff_not,jM,q0,List.mem_reverse]at g;generalize b9:({st with ep:=if b then st.ep+1 else st.ep}:St)=st0 at q H z a0;have L:d=zbD ops b (λ_=>true) m ss st0:=zQH q;refine z4K (w0:=w0) (S0:=S0) (sv:=sv) hC hH hG W (T:=m+1+zcu r) (by omega) b6 a3 (b7 g q) b4 a0 hM (λfl l' E' B w' A X S M=>?_) l c E ts w G (zsF W G hl) J (λk t D=>I k (by omega) D) hf ?_;{rw [<- L]at M;have F:d.nid=st.nid:=(by rw[L,zCA,z]);exact znA hC hH hG hN u W N hk fs (m+(zcu r+1)) (r.drop<|zcu r) _ d E' B w' fl l' (by rw[a2];congr 1;omega) (by omega) A (λi hi=>by rw[X i hi];congr 1;simp only[eq_iff_iff];omega) S M (b3 (by omega)) (by rw[F];exact b2 (by omega)) (by omega) K};{rw [a5];exact H.uses (λn h=>.inl h)}}
  .rw [jA]at g;unfold zog at g;simp only[jF,qM,kD,decide_eq_false_iff_not,jM,q0,qG,List.mem_reverse]at g;generalize b9:({st with ep:=if b then st.ep+1 else st.ep}:St)=st0 at q H z a0;have L:d=zbD ops b (λ_=>true) m ss st0:=zQH q;subst L;have hA:m+ss.length=m+zcu r:=by omega
   rw[hA]at b0 a7 g;have O:=zWc q;refine z4T (w0:=w0) (S0:=S0) (sv:=sv) hC hH hG W hA (by omega) (λh=>by
    have e:m+zcu r+1=m+1+zcu r:=by omega
    rw[e]at h ⊢;exact a3 h) (b7 (λx hx y hy=>g x (.inr hx) y (.inr hy)) q) (λhb k t D=>b4 hb k t (by omega)) c9 a0 (λk t D=>hM k t (by omega)) b0 c8 a7 d5 (λi s o f hs ho t a9=>?_)
    (λfl l' E' B w' v A X S hv M hL=>?_) l c E ts w G (zsF W G hl) J (λk t D=>I k (by omega) D) hf ?_
   {obtain⟨o1,f1,Z,g2,g3⟩:=O i s hs;rw[ho] at Z;cases Z;have a6:=zGS t g3;subst a6;have hi:i<ss.length:=(qA.1 hs).1;rcases g _ (.inr g2) _ (.inl rfl) with (h|h)|h;{exact absurd (by show m+i<m+zcu r;omega) h};{exact absurd h a9};{exact h}}
   .have F:((zbD ops b (λ_=>true) m ss st0).put oA.dst (.v<|.at .bad)).nid=st.nid:=by rw[zgh,zCA,z]
    exact zxV hC W (λm' r' U' c1 c3 c2 d7 c4 d6 t D h3 h4 h5 h6 h7 h8 h9 c5=>znA hC hH hG hN u W N hk fs m' r' U' c1 c3 c2 d7 c4 d6 t D h3 h4 h5 h6 h7 h8 h9 c5)
     (r.drop<|zcu r) (m+(zcu r+1)) _ _ E' B w' fl l' v (by rw[a2];congr 1;omega) (by omega) A (λi hi=>by rw[X i hi];congr 1) S M (b3 (by omega)) (by rw[F];exact b2 (by omega)) (by omega) hv hL K
   {rw [a5];exact H.uses (λn h=>.inl h)}
  {exact Bool.noConfusion (show false=true from d0)}
theorem z8M (Z:CfgOk C)(hH:CtrOk C)(hG:GraftOk C)(hN:NameOk C):DrawOk C:=by
 refine⟨λN g ops k X Q w0 S0 sv U0 S U st E ts w hk hS hU O hn h t=>?_⟩;unfold zHc at h;simp only at h;generalize I:ziG ops (List.range ops.size) []=cl at h;split at h;(case isFalse=>cases h);rename_i j;unfold z1P at j;simp only[qE,qM,kJ,q0]at j;obtain⟨a,s⟩:=j;have d:∀i,i<ops.size->cl.getD i []=waits ops (cl.take i) i:=λi r=>(by rw[<- I];exact zY0 r);have f:∀(md:Region.Mode) (c:Nat->Nat),zOK md ops c=true->∃c:Nat->Nat,∀(i:Nat) (o:Oper),ops[i]?=some o->∀e∈o.after,Region.binds md e=true->e.on<ops.size/\c e.on<c i:=by intro md c h;refine⟨c,λi o v e J H=>?_⟩;have:=qM.1 h i (kJ.2 (qO.1 v).1);rw[v] at this;have:=qM.1 this e (by simpa using J);simpa [H] using this
 have p:∀(md:Region.Mode),(∀e,Region.binds .any e=true->Region.binds md e=true)->(∃c:Nat->Nat,∀(i:Nat) (o:Oper),ops[i]?=some o->∀e∈o.after,Region.binds md e=true->e.on<ops.size/\c e.on<c i)->Waits md ops cl :=
  λmd y A=>⟨d,s,y,A⟩
 have m:∀e,Region.binds .any e=true->Region.binds .text e=true:=λe h=>(by unfold Region.binds at *;cases hg:e.ground<;>rw [hg]at h<;>simp at h ⊢);have l:∀e,Region.binds .any e=true->Region.binds .gc e=true:=λe h=>by unfold Region.binds at *;cases hg:e.ground<;>rw [hg]at h<;>simp at h ⊢
 have b:∃md L,Region.schedule (C.P.follows .mixedOrders) ops t=Region.linearise md ops L/\Waits md ops cl:=by
  have q:Waits .any ops cl:=p .any (λ_ h=>h) ⟨λi=>i,λi o v e J H=>by
   have y:=z8O d v J H;have r:=(qO.1 v).1;have A:=s i r _ y;exact⟨by omega,A⟩⟩
  unfold Region.schedule;by_cases z:(C.P.follows .mixedOrders || !Region.departs ops)=true;{rw [if_pos z];exact⟨.any,t,rfl,q⟩};{rw [if_neg z];have hd:Region.departs ops=true:=(by cases h:Region.departs ops with|true=>rfl|false=>rw[h]at z;simp at z);rw[hd,cond_true,qE]at a;by_cases R:(t % 2==0)=true;{rw [if_pos R];exact⟨.text,t / 2,rfl,p .text m<|f .text _ a.1⟩};{rw [if_neg R];exact⟨.gc,t / 2,rfl,p .gc l<|f .gc _ a.2⟩}}
 obtain⟨md,L,x,W⟩:=b;rw[x];refine wpAny_sound ops.size L _ _ _ ?_;have F:Sim w0 S0 U {st with nid:=st.nid+32*ops.size} E ts sv {w with drawn:=w.drawn+1}:=(hS.nid _).heap (w':={w with drawn:=w.drawn+1}) rfl rfl rfl rfl;refine znA Z hH hG hN g W O (λV K T M w' D G u B Y=>hk V K T M w' D ?_ (by omega) B Y) (ops.size+1) 0 (zih ops.size cl) U _ E ts _ ops.size _ rfl (by omega) (by simp) (λi r=>by simp[r]) ?_ F (λn h=>.inl h) ?_ (qW _) h;{intro n h;rcases G n h with h|⟨y,_⟩|h;{exact hU n h};{exact .inr (by omega)};{exact .inr (by omega)}};{unfold left;exact qT (List.countP_le_length) (by simp)};{intro n u h;exact O n (qT (uE _ _) u) h}
end
section
variable {P:Program}
def zWl:Value->CTy->Bool
 |.int k n,.i a=>k==a&&n==0
 |.bool b,.b=>!b
 |.slice none 0 0,.s _=>true
 |_,_=>false
def zz9:List Value->List CTy->Bool
 |[],[]=>true
 |v::vs,t::ts=>zWl v t&&zz9 vs ts
 |_,_=>false
theorem z3H {v:Value}{t:CTy}(h:zWl v t=true):v=zeroV t:=by unfold zWl at h;split at h;{simp only [qE,qL]at h;obtain⟨rfl,rfl⟩:=h;rfl};{simp only [jF]at h;subst h;rfl};{rfl};{cases h}
theorem zGN:∀{b:List Value} {a:List CTy},zz9 b a=true->b=a.map zeroV
 |[],[],_=>rfl
 |v::b,t::a,h=>by simp only[zz9,qE]at h;rw[jD,z3H h.1,zGN h.2]
 |[],_::_,h=>by cases h
 |_::_,[],h=>by cases h
def zCR (P:Program)(T:TypeId)(a:List CTy):Bool :=
 match P.info? T with
 |some i=>i.size==a.length&&(match i.zero with
  |some z=>zz9 z.cells.toList a
  |none=>false)
 |none=>false
theorem zCS {T:TypeId}{a:List CTy}(h:zCR P T a=true):∃i z,P.info? T=some i/\i.size=a.length/\i.zero=some z/\z.cells.toList=a.map zeroV:=by unfold zCR at h;split at h;{rename_i i d;simp only[qE,qL]at h;obtain⟨c,b⟩:=h;split at b;{rename_i z e;exact⟨i,z,d,c,e,zGN b⟩};{cases b}};{cases h}
def zoF (P:Program)(T:TypeId):Bool :=
 (match zcL P 4 T with
  |some (b,a)=>zCR P T a&&(!b||(match P.underlying T with
   |some (.struct c)=>(c.toList.mapM λf=>(P.info? f.type).map λi=>(f.offset,i.size)).isSome
   |_=>false))
  |none=>true) &&
 (match P.underlying T with
  |some (.slice e)=>match zo zSw e with
   |some t=>zCR P e t.shape&&(match P.info? e with
    |some i=>decide (i.bytes<=1024)
    |none=>false)&&(match zcL P 4 e with
    |some (_,a)=>decide (a=t.shape)
    |none=>false)
   |none=>true
  |_=>true)
def zvF (P:Program):List Field->Nat->List CTy->Bool
 |[],_,[]=>true
 |f::fs,a,ty::tys=>f.name != "_" && f.offset==a&&(match P.underlying f.type,ty with
  |some (.int k),.i c=>k==c
  |some .bool,.b=>true
  |_,_=>false)&&zvF P fs (a+1) tys
 |_,_,_=>false
def zSi (P:Program)(T:TypeId):Bool :=
 match zcL P 4 T with
 |some (true,a)=>!P.stoodInHeld T && !P.eqGuardType P.depth T&&(match P.underlying T with
  |some (.struct b)=>zvF P b.toList 0 a
  |_=>false)
 |_=>true
theorem zSg {n:Nat}{T:TypeId}{a:Bool}{c:List CTy}(h:zcL P n T=some (a,c)) :
 (∃d,P.underlying T=some d/\zTK d=a/\(∀k,c=[.i k]->a=false->d = .int k)/\(c=[.b]->a=false->d = .bool))/\(a=false->c.length=1):=by
 cases n with
 |zero=>cases h
 |succ n=>simp only[zcL]at h;split at h;{rename_i k f;cases h;exact⟨⟨_,f,rfl,λg h _=>by simp only[List.cons.injEq,CTy.i.injEq,and_true]at h;rw[h],λh=>by simp at h⟩,λ_=>rfl⟩};{rename_i f;cases h;exact⟨⟨_,f,rfl,λg h=>by simp at h,λ_ _=>rfl⟩,λ_=>rfl⟩};{rename_i e f;split at h;{cases h;exact⟨⟨_,f,rfl,λg h=>by simp at h,λh=>by simp at h⟩,λ_=>rfl⟩};{cases h}};{rename_i j f;split at h;{cases h;exact⟨⟨_,f,rfl,λg _ h=>(by cases h),λ_ h=>(by cases h)⟩,λh=>by cases h⟩};{cases h}};{cases h}
theorem zJE {b:Type}{T:Nat}{x:Option b}{y:b}(h:below T x=some y):T<zgV/\x=some y:=by unfold below at h;cases a:Nat.blt T zgV with|false=>rw[a]at h;cases h|true=>rw[a]at h;exact⟨by rwa [vG]at a,h⟩
theorem mapM_at {e f:Type}{g:e->Option f}:∀{l:List e} {m:List f},l.mapM g=some m->∀{k:Nat} {x:e},l[k]?=some x->m[k]?=g x
 |[],m,h,k,x,c=>by simp at c
 |a::l,m,h,k,x,c=>by simp only[vD,Option.bind_eq_bind,uS,Option.pure_def,qC]at h;obtain⟨b,i,j,d,rfl⟩:=h;cases k with|zero=>simp only[qH,qC]at c;subst c;rw[i];rfl|succ k=>exact mapM_at d (by simpa using c)
theorem zhM {e i:Type}{f:e->Option i}{a:e}{l:List e}{g:List i}(h:zcD f (a::l)=some g):∃b c,f a=some b/\zcD f l=some c/\g=b::c:=by simp only[zcD]at h;split at h;{rename_i b j;split at h;{rename_i c d;cases h;exact⟨b,c,j,d,rfl⟩};{cases h}};{cases h}
theorem zF4 (w:World)(d:Nat)(v z:Array Value):∀(W:List Field) (g:Nat) (p:List CTy) (l m:List At) (e:Bool),zvF P W g p=true->zcD zoD l=some p->zcD zoD m=some p->zvt l m=some e->
 v.size=g+l.length->z.size=g+m.length->(∀(j:Nat) (a:At) (u:Value),l[j]?=some a->v[g+j]?=some u->VS a u)->(∀(j:Nat) (a:At) (u:Value),m[j]?=some a->z[g+j]?=some u->VS a u)->
 (Op.eqFields (d+1) v z W).run P w = .ok e w
 |[],g,p,l,m,e,R,X,Y,A,_,_,_,_=>by cases p with|cons t ts=>cases R|nil=>(cases l with|cons a l=>obtain⟨_,_,_,_,h⟩:=zhM X;cases h|nil=>(cases m with|cons a m=>obtain⟨_,_,_,_,h⟩:=zhM Y;cases h|nil=>cases A;simp[Op.eqFields]))
 |f::W,g,p,l,m,e,R,X,Y,A,q,r,hx,hy=>by
  cases p with
  |nil=>cases R
  |cons ty p=>
   cases l with
   |nil=>cases X
   |cons a l=>
    cases m with
    |nil=>cases Y
    |cons c m=>
     obtain⟨ta,a6,O,E,h⟩:=zhM X;cases h;obtain⟨tc,a5,K,F,h⟩:=zhM Y;cases h;simp only[zvF,qE,bne_iff_ne,ne_eq,qL]at R;obtain⟨⟨⟨hn,S⟩,B⟩,G⟩:=R;have I:v[g]?=some (v[g]'(by simp only[qZ]at q;omega)):=(by simp);have J:z[g]?=some (z[g]'(by simp only[qZ]at r;omega)):=by simp
     have T:=hx 0 a _ rfl I;have U:=hy 0 c _ rfl J;have H:∃L,zSN a c=some L/\(part f.type v f.offset).run P w = .ok (v[g]'(by simp only[qZ]at q;omega)) w/\(part f.type z f.offset).run P w = .ok (z[g]'(by simp only[qZ]at r;omega)) w/\
      (Op.equalIn (d+1) f.type (v[g]'(by simp only[qZ]at q;omega))<|z[g]'(by simp only[qZ]at r;omega)).run P w = .ok L w:=by
      rw[S];cases a with
      |i k n=>
       simp only[zoD,qC]at O;subst O;cases c with
       |i k' n' =>
        simp only[zoD,qC,CTy.i.injEq]at K;subst K;cases s:P.underlying f.type with
        |none=>rw[s]at B;cases B
        |some D=>
         rw[s]at B;cases D<;>first|(cases B;done)|skip;refine⟨ieq n n',by simp[zSN],by simp[part,isAgg,run_underlying s,I],by simp[part,isAgg,run_underlying s,J],?_⟩;rw[show v[g]'(by simp only[qZ]at q;omega) = .int k' n from T,show z[g]'(by simp only[qZ]at r;omega) = .int k' n' from U];exact run_equalIn_int w d f.type k' _ n n' s
       |b _=>simp[zoD]at K
       |_=>simp[zoD]at K
      |b x=>
       simp only[zoD,qC]at O;subst O;cases c with
       |b x' =>
        cases s:P.underlying f.type with
        |none=>rw[s]at B;cases B
        |some D=>
         rw[s]at B;cases D<;>first|(cases B;done)|skip;refine⟨znW x x',by simp[zSN],by simp[part,isAgg,run_underlying s,I],by simp[part,isAgg,run_underlying s,J],?_⟩;rw[show v[g]'(by simp only[qZ]at q;omega) = .bool x from T,show z[g]'(by simp only[qZ]at r;omega) = .bool x' from U];exact run_equalIn_bool' w d f.type x x' s
       |i _ _=>simp[zoD]at K
       |_=>simp[zoD]at K
      |_=>simp[zoD]at O
     obtain⟨L,Q,a3,a4,a1⟩:=H;have C:∃V,zvt l m=some V/\e=(L&&V):=by cases l with|nil=>cases E;(cases m with|nil=>simp only[zvt,Q,qC]at A;exact⟨true,rfl,by rw[<- A];simp⟩|cons c2 m=>obtain⟨_,_,_,_,h⟩:=zhM F;cases h)|cons a2 l=>(cases m with|nil=>cases F;obtain⟨_,_,_,_,h⟩:=zhM E;cases h|cons c2 m=>simp only[zvt,Q]at A;split at A;{rename_i x y M N;cases M;cases A;exact⟨y,by simpa [zvt] using N,rfl⟩};{cases A})
     obtain⟨V,a0,rfl⟩:=C;have ih:=zF4 w d v z W (g+1) p l m V G E F a0 (by simp only[qZ]at q;omega) (by simp only[qZ]at r;omega)
      (λj Z u M N=>hx (j+1) Z u (by simpa using M) (by rw[<- N];congr 1;omega)) (λj Z u M N=>hy (j+1) Z u (by simpa using M) (by rw[<- N];congr 1;omega))
     simp only[Op.eqFields,ne_eq,hn,not_false_eq_true,if_true,Sem.run_bind,a3,a4,Result.andThen_ok,a1,Sem.run_ite,ih];cases L<;>simp
theorem z3S {C:Cfg}(W:C.P=P)(hs:∀T,C.sty T=below T (zwx P T))(X:∀T,C.cty T=below T (zcL P 4 T))(Q:∀T f,C.fof T f=zui P T f)(B:(List.range zgV).all (zoF P)=true)(J:∀T,C.eqt T=true->T<zgV->zSi P T=true):CfgOk C:=by subst W;have v:∀T,T<zgV->zoF C.P T=true:=λT r=>qM.1 B T (kJ.2 r);have k:∀T g c,C.cty T=some (g,c)->T<zgV/\zcL C.P 4 T=some (g,c):=λT g c h=>zJE (by rw[<- X];exact h);refine⟨λT g c h=>?_,λT t h=>?_,λT f N n h=>?_,λT c h=>?_,λT c Y h l m e G H w x y op Z hm hq E F=>?_⟩;{obtain⟨r,h⟩:=k T g c h;obtain⟨q,d⟩:=zSg h;have:=v T r;unfold zoF at this;rw[h] at this;simp only[qE] at this;exact⟨q,zCS this.1.1,d⟩};{rw [hs]at h;obtain⟨r,h⟩:=zJE h;unfold zwx at h;split at h;{rename_i e p;have:=v T r;unfold zoF at this;rw[p] at this;simp only[h,qE] at this;obtain⟨_,⟨q,d⟩,_⟩:=this;obtain⟨i,z,O,S,U,V⟩:=zCS q;rw[O]at d;exact⟨e,p,i,z,O,by rw[S,zfd],U,V,by simpa using d⟩};{cases h}};{rw [Q]at h;unfold zui at h;split at h;{rename_i A p;split at h;{rename_i x M;split at h;{rename_i i K;split at h;{cases h};{rename_i L;cases h;exact⟨A,x,i,p,M,rfl,K,rfl,L⟩}};{cases h}};{cases h}};{cases h}};{obtain⟨r,h⟩:=k T true c h;have:=v T r;unfold zoF at this;rw[h] at this;simp only[qE,kD,jU,kE,false_or] at this;obtain⟨⟨_,d⟩,_⟩:=this;split at d;{rename_i A p;obtain⟨s,R⟩:=uP.1 d;refine⟨A,s,p,R,λf N n b=>?_⟩;rw[Q]at b;unfold zui at b;rw[p]at b;simp only at b;split at b;{rename_i x M;split at b;{rename_i i K;split at b;{cases b};{cases b;rw[mapM_at R (by simpa using M),K];rfl}};{cases b}};{cases b}};{cases d}};{obtain⟨r,h⟩:=k T true c h;have:=J T Y r;unfold zSi at this;rw[h] at this;simp only[qE,jF] at this;obtain⟨⟨q,d⟩,I⟩:=this;split at I;{rename_i A p;have D:C.P.fieldsOf T=A:=(by simp[Program.fieldsOf,p]);refine⟨run_eqGuard_agg w op T x y G H d,?_⟩;show (Op.equalIn (9999+1) T (.agg G)<|.agg H).run C.P w=_;rw[run_equalIn_struct w 9999 T G H (by rw[D];exact p) q,D];exact zF4 w 9998 G H A.toList 0 c l m e I Z hm hq (by rw[E.1];omega) (by rw[F.1];omega) (λj a u q d=>E.2 j a u q (by simpa using d)) (λj a u q d=>F.2 j a u q (by simpa using d))};{cases I}}
end
inductive CVOk:CV->Prop
 |i (k:IntKind) (n:Int) (h:k.min<=n/\n<=k.max):CVOk (.i k n)
 |b (x:Bool):CVOk (.b x)
 |s (t:Ty) (l:List t.den) (hl:l.length<=big) (h:∀(i:Nat) (x:t.den),l[i]?=some x->∀(j:Nat) (c:CV),(t.cells x)[j]?=some c->CVOk c):CVOk (.s t l)
section
variable {P:Program}
def zx5 (P:Program)(b:Nat):List Field->Nat->Bool
 |[],a=>a==b
 |f::fs,a=>f.offset==a&&Nat.blt f.type zgV&&zx5 P b fs (a+P.cellsOf f.type)
def zy6 (P:Program)(T:TypeId):Bool :=
 match P.underlying T with
 |some (.struct a)=>match zcL P 4 T with
  |some _=>zx5 P (P.cellsOf T) a.toList 0
  |none=>true
 |some (.slice e)=>match zo zSw e with
  |some _=>Nat.blt e zgV&&Nat.ble 1 (P.bytesOf e)
  |none=>true
 |_=>true
theorem zGk {e i:Type}{f g:e->Option i}(c:∀x y,f x=some y->g x=some y):∀{l:List e} {d:List i},zcD f l=some d->zcD g l=some d
 |[],_,h=>h
 |a::l,d,h=>by obtain⟨b,j,k,m,rfl⟩:=zhM h;simp only[zcD,c a b k,zGk c m]
theorem zyN:∀{n:Nat} {T:TypeId} {x:Bool×List CTy},zcL P n T=some x->zcL P (n+1) T=some x
 | 0,_,_,h=>by cases h
 |n+1,T,x,h=>by rw[zcL]at h;rw[zcL];split at h;{exact h};{exact h};{exact h};{rename_i d e;split at h;{rename_i l b;rw[zGk (f:=_) (g:=_) ?_ b];{exact h};{intro f y a;split at a;{rename_i z c;cases a;rw[zyN c]};{cases a}}};{cases h}};{cases h}
theorem zWs {T:TypeId}{a:List CTy}(h:zCR P T a=true):P.cellsOf T=a.length:=by obtain⟨i,z,b,c,_⟩:=zCS h;simp[Program.cellsOf,b,c]
theorem z5X {k:IntKind}{n:Int}(h:(Lit.int k n).wf=true):k.min<=n/\n<=k.max:=by simpa [Lit.wf] using h
theorem all_append {l m:List Nat}(h:(l++m).all (·<=reachBytes)=true):l.all (·<=reachBytes)=true/\m.all (·<=reachBytes)=true:=by simpa [List.all_append] using h
theorem zBj {H:Type}{e:TypeId}:∀{l:List (DataW H)},(DataW.weightsAll P e l).all (·<=reachBytes)=true->∀{i:Nat} {d:DataW H},l[i]?=some d->(d.weights P e).all (·<=reachBytes)=true
 |[],_,i,d,h=>by simp at h
 |x::l,a,i,d,h=>by simp only[DataW.weightsAll]at a;obtain⟨b,c⟩:=all_append a;cases i with|zero=>simp at h;subst h;exact b|succ i=>exact zBj c (by simpa using h)
def Opened (W:World)(d:List Value)(a:List CTy):Prop :=
 ∃cvs:List CV,cvs.map CV.ty=a/\d.length=cvs.length/\∀(j:Nat) (c:CV) (u:Value),cvs[j]?=some c->d[j]?=some u->Rep false W u c (λb=>b<W.heap.size)/\CVOk c
theorem Opened.append {W:World}{f g:List Value}{h i:List CTy}(r:Opened W f h)(s:Opened W g i):Opened W (f++g) (h++i):=by obtain⟨e,k,d,p⟩:=r;obtain⟨n,l,m,q⟩:=s;refine⟨e++n,by simp[k,l],by simp[d,m],λj c u a b=>?_⟩;by_cases t:j<e.length;{rw [qV t]at a;rw[qV (by omega)]at b;exact p j c u a b};{rw [qR (by omega)]at a;rw[qR (by omega)]at b;exact q _ c u a (by rw[<- d];exact b)}
theorem zJJ {b:Type}:∀(n:Nat) (p:Nat->b->Prop),(∀i,i<n->∃x,p i x)->∃l:List b,l.length=n/\∀i x,l[i]?=some x->p i x
 | 0,p,_=>⟨[],rfl,λi x h=>by simp at h⟩
 |n+1,p,h=>by obtain⟨x,e⟩:=h 0 (by omega);obtain⟨l,c,d⟩:=zJJ n (λi=>p (i+1)) (λi f=>h (i+1) (by omega));refine⟨x::l,by simp[c],λi y a=>?_⟩;cases i with|zero=>simp at a;subst a;exact e|succ i=>exact d i y (by simpa using a)
theorem cells?_get {W:World}{a:Addr}{n:Nat}{b:List Value}(h:W.cells? 0 a n=some b):b.length=n/\∀i,i<n->W.cell? (a.add i)=b[i]?:=by unfold World.cells? at h;rw[if_pos<|j3 _]at h;refine⟨by simpa using mapM_some_length h,λi c=>mapM_some_get h i i (by simp[c])⟩
theorem addr_add (a:Addr)(h:a.spot=none)(n m:Nat):(a.add n).add m=⟨a.block,a.off+n+m,none⟩:=by obtain⟨b,o,s⟩:=a;simp only at h;subst h;rw[add_lit,add_lit]
theorem zZ6 (b6:∀T,T<zgV->zoF P T=true/\zy6 P T=true){H:Type}{a3:TypeId×Value->H}{W:World} :
 ∀(F:Nat) (T:TypeId) (Z:List Value) (x:DataW H×List MemPlace),T<zgV->∀(b4:Bool) (b3:List CTy),zcL P 4 T=some (b4,b3)->
  DataW.trod a3 P W 0 (λ_=>true) true F T Z=some x->(x.1.weights P T).all (·<=reachBytes)=true->Opened W Z b3:=by
 intro F
 induction F using Nat.strongRecOn with
 |_ F ih=>
  intro T Z x hT b4 b3 d hx hw;obtain⟨U,C⟩:=b6 T hT;have c1:=d;rw[zcL]at d;split at d;{rename_i k I;cases d;obtain⟨n,rfl,rfl,d9⟩:=DataW.trod_int I hx;refine⟨[.i k n],rfl,rfl,λj c u r q=>?_⟩;cases j with|zero=>simp at r q;subst r q;exact⟨.i k n _,.i k n<|z5X d9⟩|succ j=>simp at r};{rename_i I;cases d;obtain⟨b,rfl,rfl⟩:=DataW.trod_bool I hx;refine⟨[.b b],rfl,rfl,λj c u r q=>?_⟩;cases j with|zero=>simp at r q;subst r q;exact⟨.b b _,.b b⟩|succ j=>simp at r};{rename_i e I;split at d;{rename_i t b7;cases d;have a4:∀(v:Value) (l:List t.den),Rep false W v (.s t l) (λb=>b<W.heap.size)->CVOk (.s t l)->Opened W [v] [.s t]:=(by intro v l D S;refine⟨[.s t l],rfl,rfl,λj c u r q=>?_⟩;cases j with|zero=>simp at r q;subst r q;exact⟨D,S⟩|succ j=>simp at r);have K:CVOk (.s t []):=.s t [] (j3 _) (λi x h=>by simp at h);rcases DataW.trod_slice I hx with⟨rfl,rfl⟩|⟨a,len,p,A,R,n,rfl,rfl,rfl,_,e8,e6,e7,a0,d5,_⟩;{exact a4 _ [] (.nil t _) K};{obtain⟨e9,Q⟩:=d5 rfl;by_cases b5:p=0;{subst b5;have d0:len=0:=(by omega);subst d0;exact a4 _ [] (.void t a _ rfl) K};{unfold zoF at U;rw[I]at U;simp only[b7,qE]at U;obtain⟨_,⟨a7,_⟩,V⟩:=U;unfold zy6 at C;rw[I]at C;simp only[b7,qE,vG,Nat.ble_eq]at C;obtain⟨he,c6⟩:=C;have c7:P.cellsOf e=t.width:=(by rw[zWs a7,zfd]);have b2:0<t.width:=(by cases t<;>simp [Ty.width]);rw[c7]at a0 Q;have N:∀i,i<p->∃w,W.cells? 0 (a.add<|i*t.width) t.width=some w/\(i<len->∃y,DataW.trod a3 P W 0 (λ_=>true) true n e w=some y/\A[i]?=some y):=(by intro i X;by_cases b9:i<len;{have D:=a0 i b9;rw[qB (by omega)]at D;obtain⟨w,S,h3⟩:=uS.1 D;exact⟨w,S,λ_=>⟨_,h3,qB (by omega)⟩⟩};{have D:=Q (i-len) (by omega);rw[qB (by omega)]at D;obtain⟨w,S,h3⟩:=uS.1 D;have e1:len+(i-len)=i:=(by omega);rw[e1]at S;exact⟨w,S,λh=>absurd h b9⟩});have M:∀i j,i<p->j<t.width->∃v,W.cell? ((a.add<|i*t.width).add j)=some v:=(by intro i j X hj;obtain⟨w,D,_⟩:=N i X;obtain⟨S,h3⟩:=cells?_get D;exact⟨_,(h3 j hj).trans (qB (by omega))⟩);obtain⟨v0,G⟩:=M 0 0 (by omega) b2;have a5:(a.add<|0*t.width).add 0=a:=(by simp[Addr.add]);rw[a5]at G;obtain⟨m,et,fz,hb,E⟩:∃m et fz,W.heap[a.block]?=some (.cells m et fz)/\a.spot=none:=(by unfold World.cell? at G;split at G;{rename_i c et fz hb;split at G;{cases G};{rename_i hs;exact⟨c,et,fz,hb,by simpa using hs⟩}};{cases G});have L:∀i j,W.cell? ((a.add<|i*t.width).add j)=m[a.off+i*t.width+j]?:=(by intro i j;rw[addr_add a E,cell_of_block hb]);have a9:a.off+p*t.width<=m.size:=(by obtain⟨v,hv⟩:=M (p-1) (t.width-1) (by omega) (by omega);rw[L]at hv;have:=(qO.1 hv).1;have D:(p-1)*t.width+t.width=p*t.width:=(by rw[<- jL];congr 1;omega);omega);have c2:((DataW.slice (A.map (·.1))<|R.map (·.1)).weights P T).all (·<=reachBytes)=true:=hw;simp only[DataW.weights,I,kW,qE,q0,uK]at c2;obtain⟨c4,b1⟩:=c2;obtain⟨b1,_⟩:=all_append b1;have O:len<=big:=(by have D:(A.length+R.length)*1<=(A.length+R.length)*P.bytesOf e:=Nat.mul_le_mul_left _ c6;have:reachBytes<=big:=(by decide);omega);split at V;{rename_i J a2 d6;simp only[q0]at V;subst V;have c9:∀i,i<len->∃y:t.den,∀(j:Nat) (c:CV) (u:Value),(t.cells y)[j]?=some c->m[a.off+i*t.width+j]?=some u->Rep false W u c (λb=>b<W.heap.size)/\CVOk c:=(by intro i X;obtain⟨w,D,S⟩:=N i (by omega);obtain⟨y,h3,h4⟩:=S X;obtain⟨cvs,g1,g2,g3⟩:=ih n (by omega) e w y he J t.shape d6 h3 (zBj b1 (by rw[qQ,h4];rfl));obtain⟨z,Y⟩:=zLz g1;refine⟨z,λj c u r q=>g3 j c u ?_ ?_⟩;{rw [<- zkD Y];exact r};{obtain⟨k1,k2⟩:=cells?_get D;have hj:j<t.width:=(by have:=(qA.1 r).1;rwa [zds] at this);rw[<- k2 j hj,L];exact q});obtain⟨l,d1,c0⟩:=zJJ len _ c9;have b0:∀i j,i<l.length->j<t.width->m[a.off+i*t.width+j]?=some ((m[a.off+i*t.width+j]?).getD undef):=(by intro i j X hj;have D:(i+1)*t.width<=p*t.width:=qS _ (by omega);rw[jL]at D;have:a.off+i*t.width+j<m.size:=(by omega);simp[this]);have a1:Rep false W (.slice (some ⟨a.block,a.off,none⟩) l.length p) (.s t l) (λb=>b<W.heap.size):=(by refine .sl t l a.block a.off p m et fz (λi j=>(m[a.off+i*t.width+j]?).getD undef) (λ_ _ b=>b<W.heap.size) _ hb (λh=>by cases h) (by omega) (by omega) a9 ?_ (λi j x _ _ hx=>⟨hx,λh=>by cases h⟩) (λh=>by cases h) b0 ?_;{exact(qO.1 hb).1};{intro i z Y j c r;have X:i<l.length:=(qA.1 Y).1;have hj:j<t.width:=(by have:=(qA.1 r).1;rwa [zds] at this);exact(c0 i z Y j c _ r<|b0 i j X hj).1});have ha:a=⟨a.block,a.off,none⟩:=(by obtain⟨b,o,s⟩:=a;simp only at E;subst E;rfl);rw[d1,<- ha]at a1;refine a4 _ l a1 (.s t l (by omega) λi z Y j c r=>?_);have X:i<l.length:=(qA.1 Y).1;have hj:j<t.width:=(by have:=(qA.1 r).1;rwa [zds] at this);exact(c0 i z Y j c _ r<|b0 i j X hj).2};{cases V}}}};{cases d}}
  .rename_i fs I;split at d
   .rename_i l hl;cases d;obtain⟨xs,n,rfl,rfl,c8,e2,b8⟩:=DataW.trod_struct I hx;unfold zy6 at C;rw[I,c1]at C;simp only at C;have e0:(DataW.weightsEach P (fs.toList.map (·.type))<|xs.map (·.1)).all (·<=reachBytes)=true:=by have:((DataW.agg<|xs.map (·.1)).weights P T).all (·<=reachBytes)=true:=hw;simpa only [DataW.weights,I] using this
    have e4:∀(gs:List Field) (ys:List (DataW H×List MemPlace)) (ls:List (List CTy)) (B:Nat),zx5 P (P.cellsOf T) gs B=true->gs.length=ys.length->
     (∀(i:Nat) (f:Field),gs[i]?=some f->DataW.trod a3 P W 0 (λ_=>true) true n f.type ((Z.drop f.offset).take (P.cellsOf f.type))=ys[i]?)->
     zcD (λ(f:Field)=>match zcL P 3 f.type with|some x=>some x.2|none=>none) gs=some ls->(DataW.weightsEach P (gs.map (·.type))<|ys.map (·.1)).all (·<=reachBytes)=true->
     B<=P.cellsOf T/\Opened W (Z.drop B) ls.flatten:=by
     intro gs
     induction gs with
     |nil=>intro ys ls B ho _ _ a8 _;cases a8;simp only[zx5,qL]at ho;subst ho;refine⟨qW _,[],rfl,by simp[c8],λj c u h=>by simp at h⟩
     |cons f gs e3=>intro ys ls B ho O hf a8 c3;obtain⟨b,e5,a6,c5,rfl⟩:=zhM a8;cases ys with|nil=>simp at O|cons y ys=>simp only[zx5,qE,qL,vG]at ho;obtain⟨⟨d2,d3⟩,d4⟩:=ho;split at a6;{rename_i z Y;cases a6;obtain⟨J,a2⟩:=z;have hy:=hf 0 f rfl;simp only[qH]at hy;simp only[jD,DataW.weightsEach]at c3;obtain⟨d7,d8⟩:=all_append c3;have h4:=zyN Y;obtain⟨g1,g2⟩:=e3 ys e5 (B+P.cellsOf f.type) d4 (by simpa using O) (λi g hg=>by simpa using hf (i+1) g (by simpa using hg)) c5 d8;have o1:=ih n (by omega) f.type _ y d3 J a2 h4 hy d7;rw[d2] at o1;refine⟨by omega,?_⟩;have e1:Z.drop B=(Z.drop B).take (P.cellsOf f.type)++Z.drop (B+P.cellsOf f.type):=(by rw[<- List.drop_drop,u3]);rw[e1];exact Opened.append o1 g2};{cases a6}
    have:=(e4 fs.toList xs l 0 C (by simp[e2]) (λi f hf=>b8 i f (by simpa using hf)) hl e0).2;simpa using this
   {cases d}
  {cases d}
end
theorem zXU:(List.range zgV).all (zoF Tryz.prog)=true:=by kernel_rfl
theorem z9S:zD6.all (λT=>!Nat.blt T zgV||zSi Tryz.prog T)=true:=by kernel_rfl
theorem z3U:Tryz.prog.funcs.toList.all (λa=>!(a.name == "runtime.NumGoroutine"))=true:=by kernel_rfl
theorem z8p (T:TypeId)(a:zD6.contains T=true)(d:T<zgV):zSi Tryz.prog T=true:=by have c:T∈zD6:=(by revert a;generalize zD6=l;intro a;simpa using a);have e:Nat.blt T zgV=true:=(by rw[vG];exact d);have b:=qM.1 z9S T c;rw[e,jU,Bool.false_or]at b;exact b
theorem z9Q (a:FuncId->Option (List AV->Option (Bool×List AV)))(b:FuncId->Option (CV->Int->Option (Bool×CV×Int)))(c:FuncId->Option (List Bool×(List CV->List AV->Option (Bool×List CV×List AV))))(d:FuncId->Option (List Bool×Option (Nat×Nat×List (List Nat))×(List AV->Option (Bool×List AV)))):CfgOk (zmQ a b c d):=by have e:(zmQ a b c d).P=Tryz.prog:=(by simp only[zmQ]);have g:∀T,(zmQ a b c d).sty T=below T (zwx Tryz.prog T):=λ_=>(by simp only[zmQ]);have i:∀T,(zmQ a b c d).cty T=below T (zcL Tryz.prog 4 T):=λ_=>(by simp only[zmQ]);have j:∀T f,(zmQ a b c d).fof T f=zui Tryz.prog T f:=λ_ _=>(by simp only[zmQ]);have k:∀T,(zmQ a b c d).eqt T=zD6.contains T:=λ_=>(by simp only[zmQ]);refine z3S e g i j zXU ?_;intro T h l;rw[k]at h;exact z8p T h l
theorem z9i (a:FuncId->Option (List AV->Option (Bool×List AV)))(b:FuncId->Option (CV->Int->Option (Bool×CV×Int)))(c:FuncId->Option (List Bool×(List CV->List AV->Option (Bool×List CV×List AV))))(d:FuncId->Option (List Bool×Option (Nat×Nat×List (List Nat))×(List AV->Option (Bool×List AV)))):NameOk (zmQ a b c d):=by
 refine⟨λf e g=>?_⟩;have:=qM.1 z3U e (by
  have:Tryz.prog.funcs[f]?=some e:=g;rw[<- kU] at this;exact qJ this)
 simpa using this
theorem zhb {b:FuncId->Option (List AV->Option (Bool×List AV))}{c:FuncId->Option (CV->Int->Option (Bool×CV×Int))}{d:FuncId->Option (List Bool×(List CV->List AV->Option (Bool×List CV×List AV)))}{e:FuncId->Option (List Bool×Option (Nat×Nat×List (List Nat))×(List AV->Option (Bool×List AV)))}(h:∀f a,b f=some a->Holds Tryz.prog f a)(p:∀f a,c f=some a->zJx Tryz.prog f a)(q:∀f own a,d f=some (own,a)->zbV Tryz.prog f own a)(m:∀f own g a,e f=some (own,g,a)->zeF Tryz.prog f own g a):EngOk (zmQ b c d e):=by have i:=z9Q b c d e;have k:CtrOk (zmQ b c d e):=⟨h,λf g a n=>m f [] g a n⟩;have j:=z4N i ⟨p⟩ ⟨q⟩ ⟨m⟩;have l:=z9i b c d e;exact⟨i,k,j,l,z8M i k j l⟩
section
open Go Go.ChangeShapes Go.WideShapes Go.ChangeAt
def AV.sh:AV->Bool×List CTy
 |.one c=>(false,[c.ty])
 |.agg l=>(true,l.map CV.ty)
section
variable {P:Program}
theorem zPe {T:TypeId}{a:Bool}{b:List CTy}(h:zcL P 4 T=some (a,b)) :
 (a=true/\∃c,P.underlying T=some (.struct c))\/(a=false/\b.length=1/\((∃k,P.underlying T=some (.int k))\/P.underlying T=some .bool\/∃e,P.underlying T=some (.slice e))):=by
 rw[zcL]at h;split at h
 .rename_i k hu;cases h;exact .inr ⟨rfl,rfl,.inl ⟨k,hu⟩⟩
 .rename_i hu;cases h;exact .inr ⟨rfl,rfl,.inr<|.inl hu⟩
 .rename_i e hu;split at h
  .cases h;exact .inr ⟨rfl,rfl,.inr<|.inr ⟨e,hu⟩⟩
  .cases h
 .rename_i c hu;split at h
  .cases h;exact .inl ⟨rfl,c,hu⟩
  .cases h
 .cases h
theorem z2F {W:World}{T:TypeId}{v:Value}{a:Nat}(b:(∃k,P.underlying T=some (.int k))\/P.underlying T=some .bool\/∃e,P.underlying T=some (.slice e))(h:Value.okWide P W .any a T v):v.cells = #[v]:=by
 cases v with
 |agg c=>exfalso;rcases b with⟨k,b⟩|b|⟨e,b⟩<;>simp [Value.okWide,b,Cell.okWide,Cell.ok]at h
 |_=>rfl
theorem zQo (k:∀T,T<zgV->zoF P T=true/\zy6 P T=true){H:Type}{K:TypeId×Value->H}{W:World}{u:Nat} :
 ∀(r:List TypeId) (z:List Value) (B:List (DataW H)) (p:List MemPlace),DataW.TrodAll K P W 0 (fun _=>true) true r z B p->
  (∀(j:Nat) (t:TypeId) (v:Value),r[j]?=some t->z[j]?=some v->Value.okWide P W .any u t v)->(∀t∈r,t<zgV/\(zcL P 4 t).isSome=true)->
  (DataW.weightsEach P r B).all (·<=reachBytes)=true->
  ∃(f:List AV) (D:List Value),f.map (fun a=>some a.sh)=r.map (zcL P 4)/\zdH false W (zD f) D (fun _ b=>b<W.heap.size)/\zbZ f D=z/\∀c∈zD f,CVOk c
 |[],z,B,p,h,_,_,_=>by obtain⟨rfl,rfl,rfl⟩:=trodAll_nil h;exact⟨[],[],rfl,⟨rfl,fun i c x h=>by simp[zD]at h⟩,rfl,fun c h=>by simp[zD]at h⟩
 |T::r,z,B,p,h,hv,ht,hw=>by
  obtain⟨v,U,d,I,p1,q,rfl,rfl,rfl,L,M⟩:=trodAll_cons h;simp only[DataW.weightsEach]at hw;obtain⟨Q,R⟩:=all_append hw;obtain⟨f,D,X,g2,Y,g4⟩:=zQo k r U I q M (fun j t v L M=>hv (j+1) t v (by simpa using L) (by simpa using M)) (fun t h=>ht t (by simp[h])) R;obtain⟨hT,m⟩:=ht T (by simp);obtain⟨⟨G,S⟩,g⟩:=uP.1 m;obtain⟨w,hf⟩:=L;obtain⟨cvs,J,C,V⟩:=zZ6 k w T _ _ hT G S g hf Q;have n:=hv 0 T v rfl rfl;have s:∀a:AV,a.cvs=cvs->zdH false W (zD (a::f)) (v.cells.toList++D) (fun _ b=>b<W.heap.size)/\∀c∈zD (a::f),CVOk c:=(by intro a ha;have e:zD (a::f)=cvs++zD f:=(by simp[zD,ha]);rw[e];refine⟨zdH.append ⟨C,fun i c x l hx=>(V i c x l hx).1⟩ g2,fun c l=>?_⟩;rcases jH.1 l with l|l;{obtain⟨i,Z⟩:=qU.1 l;have N:i<v.cells.toList.length:=(by rw[C];exact(qA.1 Z).1);exact(V i c _ Z (qB N)).2};{exact g4 c l});rcases zPe g with⟨rfl,fs,O⟩|⟨rfl,y,O⟩;{obtain⟨A,rfl,_⟩:∃A,v = .agg A/\True:=(by simp only[Value.okWide,O]at n;obtain⟨A,h,_⟩:=n;exact⟨A,h,trivial⟩);obtain⟨E,F⟩:=s (.agg cvs) rfl;refine⟨.agg cvs::f,_,?_,E,?_,F⟩;{rw [jD,jD,X,g];simp only[AV.sh,J]};{simp only [Value.cells] at C;simp only[zbZ,Value.cells,<- C,kO,k5,Y,jQ]}}
  .have hcells:=z2F O n;rw[<- J]at y;obtain ⟨c,rfl⟩:∃c,cvs=[c]:=by
    match cvs,y with
    |[c],_=>exact⟨c,rfl⟩
   obtain⟨E,F⟩:=s (.one c) rfl;refine⟨.one c::f,_,?_,E,?_,F⟩;{rw [jD,jD,X,g,<- J];rfl};{rw [hcells];simp only[zbZ];simp[Y]}
theorem zBi (r:laidOutB P=true){H:Type}{b:TypeId×Value->H}{W m:World}(n:Go.RowKit.Below W.heap.size W m){u:Nat->Bool}:∀(g:List TypeId) (j:List Value) (i:List (DataW H)) (f:List MemPlace),(∀t∈g,P.readableRec t=true/\t<P.types.size)->
 DataW.TrodAll b P W 0 (λ_=>true) true g j i f->(∀x∈f,x.block<W.heap.size/\u x.block=true)->DataW.TrodAll b P m 0 u true g j i f
 |[],j,i,f,_,h,_=>by obtain⟨rfl,rfl,rfl⟩:=trodAll_nil h;exact rfl
 |T::g,j,i,f,s,h,a=>by
  obtain⟨v,l,d,k,p,q,rfl,rfl,rfl,w,y⟩:=trodAll_cons h;obtain⟨z,c⟩:=s T (by simp)
  exact⟨p,q,WideElems.Trod_stays r z c w (λx e=>n.same (a x<|j5 _ e).1) λx e=>(a x<|j5 _ e).2,
   zBi r n g l k q (λt h=>s t (by simp[h])) y λx e=>a x (kI _ e),rfl⟩
theorem zRf {W b:World}(h:Grown W b)(a:MemPlace->Prop):W.keptBut b a:=by
 refine⟨h.os,h.output,λi c=>?_⟩;rw[h.keep i c];cases d:W.heap[i]? with
 |none=>rfl
 |some o=>cases o<;>first|rfl|exact⟨rfl,rfl,rfl,λ_ _=>rfl⟩|exact .inr ⟨rfl,rfl⟩
def z2Q (P:Program)(a:List TypeId):Bool:=a.all λT=>Nat.blt T zgV&&(zcL P 4 T).isSome&&P.readableRec T&&Nat.blt T P.types.size
def z6a (P:Program)(d:List TypeId)(b:List AV):Prop:=b.map (λa=>some a.sh)=d.map (zcL P 4)/\∀c∈zD b,CVOk c
def zSy (P:Program)(f:FuncId)(d:List TypeId):Prop :=
 ∃c,Holds P f c/\∀a,z6a P d a->c a=some (true,[.one<|.b true])
theorem zK6 (L:∀T,T<zgV->zoF P T=true/\zy6 P T=true)(a0:laidOutB P=true){s:ChangeSpec}{f:FuncId}{u:Func}{B:TypeId}(k:s.vars=[])(F:∀(H:Type) (i:List (DataW H)),i.length=u.params.toList.length->s.fn H i={results:=[.lit<|.bool true],args:=i})(a:z2Q P u.params.toList=true)(O:u.resultTypes = #[B])(hB:P.underlying B=some .bool)(hl:zSy P f u.params.toList){H:Type}{enc:TypeId×Value->H}{apart D l:Bool}(W:World)(A:Nat)(g:Array Value)(i gs:List (DataW H))(w:List MemPlace)(U:∀(j:Nat) t v,u.params[j]?=some t->g[j]?=some v->Value.okWide P W .any A t v)(hW:DataW.Whole enc P u.params.toList s.vars apart W g.toList i gs w)(R:(DataW.weightsEach P (u.params.toList++s.plain.varTypes P)<|i++gs).all (·<=reachBytes)=true) :
 Calls P f g W λe W'=>∃v,e = .returned v/\s.post enc P u apart D l false W g v W':=by
 have J:=hW;obtain⟨p,q,I,hV,rfl,a4,a5⟩:=hW;rw[k]at hV;obtain⟨rfl,rfl⟩:=trodVars_none hV;have a2:s.plain.varTypes P=[]:=by unfold DataSpec.varTypes;show s.vars.filterMap _=[];rw[k];rfl
 rw[a2,jA,jA]at R;unfold z2Q at a;simp only[qM,qE,vG]at a;have G:∀(j:Nat) (t:TypeId) (v:Value),u.params.toList[j]?=some t->g.toList[j]?=some v->Value.okWide P W .any A t v:=by intro j t v h1 X;rw[kU]at h1 X;exact U j t v h1 X
 obtain⟨C,xs,g1,g2,g3,g4⟩:=zQo L u.params.toList g.toList i p I G (λt S=>⟨(a t S).1.1.1,(a t S).1.1.2⟩) R;obtain⟨a6,hH,Q⟩:=hl;have m:=hH.2 W C xs _ g2 (Q C ⟨g1,g4⟩);have E:(zbZ C xs).toArray=g:=by rw[g3,jQ]
 rw[E]at m;have n:∀(V:List TypeId) (vs:List Value) (i:List (DataW H)) (ps:List MemPlace),DataW.TrodAll enc P W 0 (λ_=>true) true V vs i ps->i.length=V.length:=by intro V;induction V with|nil=>intro vs i ps h;obtain⟨_,rfl,_⟩:=trodAll_nil h;rfl|cons t V ih=>intro vs i ps h;obtain⟨v,a3,d,Z,p,q,rfl,rfl,rfl,_,X⟩:=trodAll_cons h;simp[ih a3 Z q X]
 refine m.mono ?_;intro e W1 he;cases e with
 |panicked c=>exact he.elim
 |outgrown=>exact he.elim
 |returned v=>
  obtain⟨hg,ys,K,N,hv,_⟩:=he;have a1:v = .bool true:=by
   match ys,N with
   |[],h=>exact absurd h.1 (by simp[zD,AV.cvs])
   |[y],h=>have:=(h.2 0 (.b true) y rfl rfl).bool_inv;rw[hv,this];rfl
   |y::z::r,h=>exact absurd h.1 (by simp[zD,AV.cvs])
  subst a1;refine⟨_,rfl,i,[],p++[],[],p,[],J,?_,?_,?_,zRf hg _,λh=>by cases h⟩;{rw [jA,F H i<|n _ _ _ _ I,O];exact⟨[],[],⟨1,by simp[DataW.trod,hB,Value.cells]⟩,rfl,rfl⟩};{rw [jA,F H i<|n _ _ _ _ I];have hb:Go.RowKit.Below W.heap.size W W1:=⟨hg.os,hg.tape,hg.output,hg.size,hg.keep⟩;have M:∀x∈p,x.block<W.heap.size:=λx Y=>(by simpa using J.lt x (j5 _ Y));exact zBi a0 hb _ _ _ _ (λt S=>⟨(a t S).1.2,(a t S).2⟩) I (λx Y=>⟨M x Y,by simpa using M x Y⟩)};{rw [k,jA,F H i<|n _ _ _ _ I];rfl}
end
theorem z9T:(List.range zgV).all (zy6 Tryz.prog)=true:=by kernel_rfl
theorem z4S:laidOutB Tryz.prog=true:=by kernel_rfl
theorem own:ownKnob Tryz.prog.godebug=none:=by kernel_rfl
theorem z3T (T:TypeId)(a:T<zgV):zoF Tryz.prog T=true/\zy6 Tryz.prog T=true :=
 ⟨qM.1 zXU T<|kJ.2 a,qM.1 z9T T<|kJ.2 a⟩
abbrev Good (b:List TypeId)(a:List AV):Prop:=z6a Tryz.prog b a
abbrev zXI (f:FuncId)(a:List TypeId):Prop:=zSy Tryz.prog f a
theorem zWp {d:FuncId->Option (List AV->Option (Bool×List AV))}{l:FuncId->Option (CV->Int->Option (Bool×CV×Int))}{m:FuncId->Option (List Bool×(List CV->List AV->Option (Bool×List CV×List AV)))}{n:FuncId->Option (List Bool×Option (Nat×Nat×List (List Nat))×(List AV->Option (Bool×List AV)))}(e:∀f a,d f=some a->Holds Tryz.prog f a)(g:∀f a,l f=some a->zJx Tryz.prog f a)(i:∀f own a,m f=some (own,a)->zbV Tryz.prog f own a)(j:∀f own k a,n f=some (own,k,a)->zeF Tryz.prog f own k a){f:FuncId}{r:List TypeId}(s:FnOk Tryz.prog f)(h:∀c,Good r c->∃q N D,evalFn (zmQ d l m n) q N D f c=some [.one<|.b true]):zXI f r:=by refine⟨λc=>open Classical in if Good r c then some (true,[.one<|.b true]) else none,zAz (zhb e g i j) s ?_,λc hg=>by simp[hg]⟩;intro c t _ p;split at p;{rename_i hg;cases p;exact h c hg};{cases p}
end
def St.blkEnd (e:St):List Bool->List At->List MV->Option (List CV×List Nat)
 |[],[],[]=>some ([],[])
 |own::ms,a::r,h::hs=>
  match St.blkEnd e ms r hs with
  |none=>none
  |some (d,c) =>
   match a with
   |.i k n=>some (.i k n::d,c)
   |.b x=>some (.b x::d,c)
   |.sl q [] =>
    match e.root q with
    |some R=>
     match own with
     |true=>if R.own && !c.contains q then some (.s R.t R.l::d,q::c) else none
     |false=>
      match h with
      |.v (.at<|.sl f [])=>if q==f then some (.s R.t R.l::d,c) else none
      |_=>none
    |none=>none
   |_=>none
 |_,_,_=>none
def ze6:List Bool->List CV->Nat->List (Nat×Root)
 |own::ms,.s t l::cs,id=>(id,⟨t,l,own,none⟩)::ze6 ms cs (id+1)
 |_::ms,_::cs,id=>ze6 ms cs (id+1)
 |_,_,_=>[]
def zXX (own:List Bool)(c:List CV)(b:List AV):St :=
 {tm:=.v (.at<|.lp 0 0)::(zhp c 0).map λa=>.v (.at a),lo:=[(0,zhp c 0)],ro:=ze6 own c 0++zc2 zuD b c.length,stk:=[],nid:=c.length+(b.flatMap AV.cvs).length+1,ep:=0}
def zoK (C:Cfg)(tms:FuncId->Nat->Option Tmpl)(N D:Nat)(f:FuncId)(own:List Bool)(d:List CV)(a:List AV):Option Ans :=
 cond (ziv f && !(zqs (.agg d::a))) none
 (zvC C tms N (zrX C tms N D) f (.v (.at<|.lp 0 0)::(zc0 a d.length).map .v) (zXX own d a) λh b=>
  match b.tm with
  |.v (.at<|.lp l 0)::hs=>
   match zo b.lo l with
   |some cells=>
    match b.blkEnd own cells hs with
    |some (e,g) =>
     match zq6 (b.thaw<|ziv f) h g with
     |some c=>some (.agg e::c)
     |none=>none
    |none=>none
   |none=>none
  |_=>none)
section
variable {C:Cfg} {w0 w w1:World} {S0:zY} {U:Nat->Prop} {st st1:St} {E E1:Env} {ts:Array Value} {sv:List (Array Value)}
structure BlkEnd (st:St) (own:List Bool) (cells:List At) (hs:List MV) (cs:List CV) (ks:List Nat):Prop where
 len:cs.length=cells.length
 hlen:hs.length=cells.length
 ownk:∀r∈ks,∃j,zbd own j/\cells[j]?=some (.sl r [])
 get:∀(j:Nat) (a:At),cells[j]?=some a->(∃k n,a = .i k n/\cs[j]?=some (.i k n))\/(∃x,a = .b x/\cs[j]?=some (.b x))\/
  ∃r R,a = .sl r []/\st.root r=some R/\cs[j]?=some (.s R.t R.l)/\((zbd own j/\R.own=true/\r∈ks)\/(¬ zbd own j/\hs[j]?=some (.v (.at (.sl r [])))))
 inj:∀(i j r:Nat),zbd own i->zbd own j->cells[i]?=some (.sl r [])->cells[j]?=some (.sl r [])->i=j
theorem zPL:∀(own:List Bool) (cells:List At) (A:List MV) (E:List CV) (F:List Nat),st.blkEnd own cells A=some (E,F)->BlkEnd st own cells A E F
 |[],[],[],E,F,h=>by cases h;exact⟨rfl,rfl,fun r h=>by simp at h,fun j a h=>by simp at h,fun i j r h=>by simp[zbd]at h⟩
 |o::ms,a::r,O::A,E,F,h=>by
  simp only[St.blkEnd]at h;split at h;{cases h}
  .rename_i cs0 ks0 h0;have f:=zPL ms r A cs0 ks0 h0;have p:∀(z:List Nat) (c:CV),(∀x∈ks0,x∈z)->∀(j:Nat) (b:At),r[j]?=some b->(∃k n,b = .i k n/\(c :: cs0)[j+1]?=some (.i k n))\/(∃x,b = .b x/\(c :: cs0)[j+1]?=some (.b x)) \/
    ∃q R,b = .sl q []/\st.root q=some R/\(c::cs0)[j+1]?=some (.s R.t R.l)/\((zbd (o::ms) (j+1)/\R.own=true/\q∈z)\/(¬ zbd (o::ms) (j+1)/\(O::A)[j+1]?=some (.v (.at (.sl q []))))):=by
    intro z c I j b g;rcases f.get j b g with h|h|⟨q,R,G,L,M,H⟩
    .exact .inl (by simpa using h)
    .exact .inr (.inl (by simpa using h))
    .refine .inr (.inr ⟨q,R,G,L,by simpa using M,?_⟩)
     rcases H with⟨d,e,Q⟩|⟨d,e⟩
     .exact .inl ⟨by simpa [zbd] using d,e,I q Q⟩
     .exact .inr ⟨by simpa [zbd] using d,by simpa using e⟩
   have flat:∀(c:CV),(∀q,a≠.sl q [])->((∃k n,a = .i k n/\c = .i k n)\/(∃x,a = .b x/\c = .b x))->BlkEnd st (o::ms) (a::r) (O::A) (c::cs0) ks0:=by
    intro c B S;refine⟨by simp[f.len],by simp[f.hlen],fun q K=>?_,fun j b g=>?_,fun i j q u y d e=>?_⟩;{obtain⟨j,d,e⟩:=f.ownk q K;exact⟨j+1,by simpa [zbd] using d,by simpa using e⟩}
    .cases j with
     |zero=>simp only[qH,qC]at g;subst g;rcases S with⟨k,n,d,e⟩|⟨x,d,e⟩;{exact .inl ⟨k,n,d,by simp[e]⟩};{exact .inr (.inl ⟨x,d,by simp[e]⟩)}
     |succ j=>exact p ks0 c (fun _ h=>h) j b (by simpa using g)
    {cases i with|zero=>simp only[qH,qC]at d;exact absurd d (B q)|succ i=>(cases j with|zero=>simp only[qH,qC]at e;exact absurd e (B q)|succ j=>have:=f.inj i j q (by simpa [zbd] using u) (by simpa [zbd] using y) (by simpa using d) (by simpa using e);omega)}
   split at h;{rename_i k n;cases h;exact flat _ (fun q h=>by cases h) (.inl ⟨k,n,rfl,rfl⟩)};{rename_i x;cases h;exact flat _ (fun q h=>by cases h) (.inr ⟨x,rfl,rfl⟩)};{rename_i q;split at h;{rename_i R N;split at h;{split at h;{rename_i m;simp only[qE,jF,jM,decide_eq_false_iff_not]at m;obtain⟨C,J⟩:=m;cases h;refine⟨by simp[f.len],by simp[f.hlen],fun x w=>?_,fun j b g=>?_,fun i j x u y d e=>?_⟩;{rcases qG.1 w with rfl|w;{exact⟨0,rfl,rfl⟩};{obtain⟨j,d,e⟩:=f.ownk x w;exact⟨j+1,by simpa [zbd] using d,by simpa using e⟩}};{cases j with|zero=>simp only[qH,qC]at g;subst g;exact .inr (.inr ⟨q,R,rfl,N,by simp,.inl ⟨rfl,C,jB⟩⟩)|succ j=>exact p _ _ (fun x w=>qY _ w) j b (by simpa using g)};{have D:∀(i:Nat),zbd ms i->r[i]?=some (.sl q [])->False:=(by intro i u K;rcases f.get i _ K with⟨_,_,h,_⟩|⟨_,h,_⟩|⟨V,T,G,L,M,H⟩;{cases h};{cases h};{cases G;rcases H with⟨_,_,h⟩|⟨h,_⟩;{exact J h};{exact h u}});cases i with|zero=>(cases j with|zero=>rfl|succ j=>simp only[qH,qC,At.sl.injEq,and_true]at d;subst d;exact(D j (by simpa [zbd] using y) (by simpa using e)).elim)|succ i=>(cases j with|zero=>simp only[qH,qC,At.sl.injEq,and_true]at e;subst e;exact(D i (by simpa [zbd] using u) (by simpa using d)).elim|succ j=>have:=f.inj i j x (by simpa [zbd] using u) (by simpa [zbd] using y) (by simpa using d) (by simpa using e);omega)}};{cases h}};{split at h;{rename_i U;split at h;{rename_i P;simp only[qL]at P;subst P;cases h;refine⟨by simp[f.len],by simp[f.hlen],fun x w=>?_,fun j b g=>?_,fun i j x u y d e=>?_⟩;{obtain⟨j,d,e⟩:=f.ownk x w;exact⟨j+1,by simpa [zbd] using d,by simpa using e⟩};{cases j with|zero=>simp only[qH,qC]at g;subst g;exact .inr (.inr ⟨q,R,rfl,N,by simp,.inr ⟨by simp[zbd],rfl⟩⟩)|succ j=>exact p _ _ (fun x w=>w) j b (by simpa using g)};{cases i with|zero=>simp[zbd]at u|succ i=>(cases j with|zero=>simp[zbd]at y|succ j=>have:=f.inj i j x (by simpa [zbd] using u) (by simpa [zbd] using y) (by simpa using d) (by simpa using e);omega)}};{cases h}};{cases h}}};{cases h}};{cases h}
 |[],_::_,_,_,_,h=>by simp[St.blkEnd]at h
 |[],[],_::_,_,_,h=>by simp[St.blkEnd]at h
 |_::_,[],_,_,_,h=>by simp[St.blkEnd]at h
 |_::_,_::_,[],_,_,h=>by simp[St.blkEnd]at h
theorem z3N (a:Value)(b:Array Value):(#[a]++b)[0]?=some a:=by rw[j4 (by simp)];rfl
theorem z3O (a:Value)(b:Array Value)(i:Nat):(#[a]++b)[i+1]?=b[i]?:=by rw[kH (by simp)];simp
theorem zlk:∀(own:List Bool) (a:List CV) (id n:Nat) (R:Root),zo (ze6 own a id) n=some R->id<=n/\∃t l,a[n-id]?=some (.s t l)/\R.t=t/\HEq R.l l/\own[n-id]?=some R.own/\R=⟨t,l,R.own,none⟩
 |[],_,_,_,_,h=>by cases h
 |o::ms,[],_,_,_,h=>by cases h
 |o::ms,c::a,id,n,R,h=>by have d:zo (ze6 ms a<|id+1) n=some R->id<=n/\∃t l,(c::a)[n-id]?=some (.s t l)/\R.t=t/\HEq R.l l/\(o::ms)[n-id]?=some R.own/\R=⟨t,l,R.own,none⟩:=λh=>(by obtain⟨r,t,l,g,j,m,p,q⟩:=zlk ms a (id+1) n R h;have e:n-id=(n-(id+1))+1:=(by omega);exact⟨by omega,t,l,by rw[e,jN];exact g,j,m,by rw[e,jN];exact p,q⟩);cases c with|i k x=>exact d h|b x=>exact d h|s t l=>simp only[ze6,zo]at h;split at h;{rename_i f;simp only[qL]at f;subst f;cases h;exact⟨qW _,t,l,by simp,rfl,HEq.rfl,by simp,rfl⟩};{exact d h}
theorem zh4 (hO:EngOk C){f:FuncId}{own:List Bool}{e8:List CV->List AV->Option (Bool×List CV×List AV)}(hf:FnOk C.P f)(h:∀(d:List CV) (z:List AV) (Z:List CV) (rs:List AV),own.length=d.length->(∃(w:World) (xs:Nat->Value) (K:Nat->zY),∀(j:Nat) (c:CV),(d++zD z)[j]?=some c->Rep false w (xs j) c (K j))->e8 d z=some (true,Z,rs)->Z.length=d.length/\∃tms N D,zoK C tms N D f own d z=some (.agg Z::rs)):zbV C.P f own e8:=by
 refine⟨hf,λw blk B e d K z xs Ka Z rs hb e5 g7 a1 a7 f1 a4 c7 e0=>?_⟩;obtain⟨d4,tms,N,D,a3⟩:=h d z Z rs g7 ⟨w,λj=>if j<d.length then (B[j]?).getD undef else (xs[j-d.length]?).getD undef,λj=>if j<d.length then K j else Ka,λj c L=>by
  by_cases T:j<d.length
  .rw [qV T]at L;have M:=jI (show j<B.size by omega)
   simp only[if_pos T,M,jY];exact(a1 j c _ L M).ro
  .rw [qR (by omega)]at L
   have c9:=(qA.1 L).1;have M:=qB (show j-d.length<xs.length by rw[a4.1];exact c9)
   simp only[if_neg T,M,jY];exact a4.2 _ c _ L M⟩ e0
 unfold zoK at a3;cases b9:ziv f && !(zqs (.agg d::z)) with
 |true=>rw[b9]at a3;cases a3
 |false=>
 rw[b9,cond_false]at a3;have hblt:blk<w.heap.size:=(qO.1 hb).1;generalize a9:zXX own d z=st at a3;have g9:st.ro=ze6 own d 0++zc2 zuD z d.length:=(by rw[<- a9];rfl);have d6:st.lo=[(0,zhp d 0)]:=(by rw[<- a9];rfl);have c3:st.stk=[]:=(by rw[<- a9];rfl);have hnid:st.nid=d.length+(zD z).length+1:=(by rw[<- a9];rfl);have b0:st.tm = .v (.at<|.lp 0 0)::(zhp d 0).map λa=>.v (.at a):=(by rw[<- a9];rfl);have O:∀r R,zo st.ro r=some R->R.ep=none/\((r<d.length/\own[r]?=some R.own/\d[r]?=some (.s R.t R.l))\/(d.length<=r/\r<d.length+(zD z).length/\R.own=false/\(zD z)[r-d.length]?=some (.s R.t R.l))):=(by intro r R I;rw[g9,zbM]at I;split at I;{rename_i Q hQ;cases I;obtain⟨_,t,l,q,_,_,h5,h6⟩:=zlk own d 0 r R hQ;rw[h6]at h5 ⊢;simp only[vJ]at q h5;exact⟨rfl,.inl ⟨(qA.1 q).1,h5,q⟩⟩};{obtain⟨g,t,l,q,rfl⟩:=zfE zuD z d.length r R I;have:=(qA.1 q).1;exact⟨rfl,.inr ⟨g,by omega,rfl,q⟩⟩});have H:∀r R,st.root r=some R->(r<d.length/\own[r]?=some R.own/\d[r]?=some (.s R.t R.l))\/(d.length<=r/\R.own=false/\(zD z)[r-d.length]?=some (.s R.t R.l)):=(by intro r R I;rcases (O r R (zbu I).1).2 with h|⟨g,_,q,G⟩;{exact .inl h};{exact .inr ⟨g,q,G⟩});let E:Env:={ρ:=λn=>if n<d.length then (B[n]?).getD undef else (xs[n-d.length]?).getD undef,φ:=λn=>if n<d.length then K n else Ka,β:=λ_=>blk,κ:=w}
 have a0:∀n,n<d.length->E.ρ n=(B[n]?).getD undef/\E.φ n=K n:=λn hn=>(by simp only[E,if_pos hn,and_self]);have a2:∀n,d.length<=n->E.ρ n=(xs[n-d.length]?).getD undef/\E.φ n=Ka:=λn hn=>(by simp only[E,if_neg (show ¬ n<d.length by omega),and_self]);have e4:∀(j:Nat) (a:At) (u:Value),(zhp d 0)[j]?=some a->B[j]?=some u->u.oneCell'=true/\VA w st E a u:=(by intro j a u A M;rw[zuB,jX]at A;cases L:d[j]? with|none=>rw[L]at A;cases A|some c=>rw[L]at A;cases A;have hr:=a1 j c u L M;have T:j<d.length:=(qA.1 L).1;refine⟨hr.one,?_⟩;(cases c with|i k n=>exact hr.int_inv|b x=>exact hr.bool_inv|s t l=>obtain⟨⟨a,c5,hv,_⟩,_⟩:=hr.len;refine⟨⟨a,_,c5,hv⟩,λR _=>?_⟩;rw[(a0 j T).1,M];rfl));have b8:∀l cells,zo st.lo l=some cells->l=0/\cells=zhp d 0:=(by intro l cells h;rw[d6]at h;simp only[zo]at h;split at h;{rename_i he;simp only[qL]at he;cases h;exact⟨he.symm,rfl⟩};{cases h});have hp:VA w st E (.lp 0 0) (.pointer<|some ⟨blk,0,none⟩):=⟨⟨_,rfl⟩,λ_ _=>rfl⟩;have c0:∀a∈zhp d 0,∀m∈a.ids,m<d.length:=(by intro a A m J;obtain⟨j,T⟩:=qU.1 A;rw[zuB,jX]at T;cases L:d[j]? with|none=>rw[L]at T;cases T|some c=>rw[L]at T;cases T;have:=zzG J;have:=(qA.1 L).1;omega);let S0:zY:=λb=>b=blk\/(∃j,j<d.length/\zbd own j/\K j b)\/(ziv f=false/\b=w.heap.size)
 have hS:Sim w S0 (λn=>n<st.nid) st E (#[.pointer<|some ⟨blk,0,none⟩]++B) [] w:=by
  refine⟨⟨rfl,rfl,rfl,qW _,λ_ _ _=>rfl,λr R I=>?_,λr R I x p=>?_,λr R I U=>?_,λhz r R I U he f7=>?_,λr R r' R' I U f2 he X x p=>?_,λl cells hl=>?_,λl l' c1 c2 g q _=>?_,λl cells r R hl I=>?_,λr R e I he=>?_,rfl⟩,⟨λn R hn=>?_,λn cells hn=>?_,λm J n hn=>?_,λf hf=>?_⟩,⟨?_,λi m v J hv=>?_⟩,?_⟩;{rcases H r R I with⟨g,q,G⟩|⟨g,q,G⟩;{have M:=jI (show r<B.size by omega);rw[(a0 r g).1,(a0 r g).2,M];have:=a1 r _ _ G M;rw[q] at this;exact this};{have c9:=(qA.1 G).1;have M:=qB (show r-d.length<xs.length by rw[a4.1];exact c9);rw[(a2 r g).1,(a2 r g).2,M,q];exact a4.2 _ _ _ G M}};{rcases H r R I with⟨g,q,G⟩|⟨g,q,G⟩;{rw [(a0 r g).2]at p;exact(a7 r x g p).1};{rw [(a2 r g).2]at p;exact(c7 x p).1}};{rcases H r R I with⟨g,q,G⟩|⟨g,q,G⟩;{refine⟨(O r R (zbu I).1).1,λx p=>.inl (.inr<|.inl ⟨r,g,?_,?_⟩)⟩;{show own[r]?=some true;rw[q,U]};{rw [(a0 r g).2]at p;exact p}};{rw [q]at U;cases U}}
  .exfalso;cases hq:ziv f with
   |false=>exact hz (.inr<|.inr ⟨hq,rfl⟩)
   |true=>rw[hq,uZ]at b9;have f6:zqs (.agg d::z)=true:=(by simpa using b9);have d7:CV.s R.t R.l∈(AV.agg d::z).flatMap AV.cvs:=(by simp only[j8,jH];rcases H r R I with⟨g,q,G⟩|⟨g,q,G⟩;{exact .inl (qJ G)};{exact .inr (qJ G)});have:=qM.1 f6 _ d7;simp only at this;rw[f7] at this;cases this
  {rcases H r R I with⟨g,q,G⟩|⟨g,q,G⟩;{have d9:zbd own r:=(by show own[r]?=some true;rw[q,U]);rw[(a0 r g).2]at p;rcases H r' R' f2 with⟨W,c6,a6⟩|⟨W,c6,a6⟩;{rw [(a0 r' W).2];exact f1 r r' x g W d9 X p};{rw [(a2 r' W).2];exact λhk=>(c7 x hk).2.2 r g d9 p}};{rw [q]at U;cases U}};{obtain⟨rfl,rfl⟩:=b8 l cells hl;exact⟨.inl (.inl rfl),B,e,hb,by rw[e5,zzF],λj c u L M=>e4 j c u L M⟩};{rw [(b8 l c1 g).1,(b8 l' c2 q).1]};{intro p;rcases H r R I with⟨g,q,G⟩|⟨g,q,G⟩;{rw [(a0 r g).2]at p;exact(a7 r _ g p).2 rfl};{rw [(a2 r g).2]at p;exact(c7 _ p).2.1 rfl}};{rw [(O r R I).1]at he;cases he};{rcases (O n R hn).2 with⟨g,_⟩|⟨_,g,_⟩<;>omega};{obtain⟨rfl,rfl⟩:=b8 n cells hn;refine⟨by omega,λa A m J=>?_⟩;have:=c0 a A m J;omega};{rw [b0]at J;rcases qG.1 J with rfl|J;{simp only [MV.ids,zbI,zV,At.ids,zbo,zbv,jP,j8,uF,jA,qF]at hn;omega};{obtain⟨a,A,rfl⟩:=jE.1 J;simp only[MV.ids,zbI,zV,j8,uF,jA]at hn;have:=c0 a A n hn;omega}};{rw [c3]at hf;simp at hf};{rw [b0];simp[zzF,e5];omega};{rw [b0]at J;cases i with|zero=>rw[z3N]at hv;simp at J hv;subst J hv;exact hp|succ i=>simp only[jN,qQ]at J;have d0:B[i]?=some v:=(by rw[z3O]at hv;exact hv);(cases A:(zhp d 0)[i]? with|none=>rw[A]at J;cases J|some a=>rw[A]at J;cases J;exact(e4 i a v A d0).2)};{rw [c3];trivial}
 obtain⟨f9,g0⟩:=zho (w:=w) (st:=st) (E:=E) z xs d.length a4.1 (λi c u L M=>by
  have hr:=a4.2 i c u L M;refine⟨?_,hr.one⟩;cases c with
  |i k n=>exact hr.int_inv
  |b x=>exact hr.bool_inv
  |s t l=>
   obtain⟨⟨a,c5,hv,_⟩,_⟩:=hr.len;refine⟨⟨a,_,c5,hv⟩,λR I=>?_⟩;have e:d.length+i-d.length=i:=by omega
   rw[(a2 _<|uE _ _).1,e,M];rfl)
 obtain⟨_,b7⟩:=zkS hO (zjl hO (tms:=tms) (N:=N) D) f _ st _ _ a3 w S0 _ E _ [] w (#[.pointer<|some ⟨blk,0,none⟩]++(zbZ z xs).toArray)
  (λv w'=>w'.os=w.os/\w'.tape=w.tape/\w'.output=w.output/\w.heap.size<=w'.heap.size/\
   (∀b,b<w.heap.size->b≠blk->(∀j,j<d.length->zbd own j->¬ K j b)->w'.heap[b]?=w.heap[b]?)/\
   ∃(S:Array Value) (e':TypeId) (K':Nat->zY) (ys:List Value) (Kr:Nat->zY),w'.heap[blk]?=some (.cells S e' (0,0))/\S.size=Z.length/\Z.length=d.length/\
    (∀(j:Nat) (c:CV) (u:Value),Z[j]?=some c->S[j]?=some u->match c with
     |.i k n=>u = .int k n
     |.b x=>u = .bool x
     |.s t l=>(zbd own j->Rep true w' u (.s t l) (K' j))/\(¬ zbd own j->B[j]?=some u))/\
    ztG (zo2 f) w' (zD rs) ys Kr/\v=zkh (zbZ rs ys)/\
    (∀j x,j<d.length->K' j x->x<w'.heap.size/\x≠blk/\((∃i,i<d.length/\zbd own i/\K i x)\/w.heap.size<=x))/\
    (∀i x,i<(zD rs).length->Kr i x->x<w'.heap.size/\x≠blk/\((∃i,i<d.length/\zbd own i/\K i x)\/w.heap.size<=x))/\
    (∀i j x,i<d.length->j<d.length->i≠j->K' i x->¬ K' j x)/\
    (∀i j c x,(zD rs)[i]?=some c->zo2 f c=true->j<(zD rs).length->i≠j->Kr i x->¬ Kr j x)/\
    (∀i j x,i<d.length->j<(zD rs).length->K' i x->¬ Kr j x)) hS (λn hn h=>by omega)
  (by simp[f9]) (λi m v J hv=>by
   cases i with
   |zero=>rw[z3N]at hv;simp at J hv;subst J hv;exact hp
   |succ i=>
    simp only[jN,qQ]at J;have d0:(zbZ z xs)[i]?=some v:=by rw[z3O]at hv;simpa using hv
    cases p:(zc0 z d.length)[i]? with
    |none=>rw[p]at J;cases J
    |some x=>rw[p]at J;cases J;exact g0 i x v p d0)
  (λm J n hn=>by
   rcases qG.1 J with rfl|J
   .simp only [MV.ids,zbI,zV,At.ids,zbo,zbv,jP,j8,uF,jA,qF]at hn;omega
   .obtain⟨x,p,rfl⟩:=jE.1 J;simp only[MV.ids,zbI,qP]at hn;obtain⟨a,A,hn⟩:=hn;have:=(zfF z d.length n x a p A hn).2;omega)
  (λU' b2 E' w' tvs v d2 _ _ _ hv _ F=>by
   split at F
   .rename_i l hs htm;split at F
    .rename_i cells hcells;split at F
     .rename_i cs1 ks hbe;split at F
      .rename_i ans hansof;simp only[qC,List.cons.injEq,AV.agg.injEq]at F;obtain⟨rfl,rfl⟩:=F;have hB:=zPL own cells hs _ ks hbe;have hM:=d2.mem;obtain⟨hts,e2⟩:=d2.tm;have g2:=e2 0 (.v<|.at<|.lp l 0) (.pointer<|some ⟨blk,0,none⟩) (by rw[htm];rfl) (z3N _ _)
       have e7:E'.β l=blk:=by have:=g2.2 cells hcells;simp only[Value.pointer.injEq,qC,Addr.mk.injEq,and_true] at this;exact this.symm
       obtain⟨us,rfl,h8,h9⟩:=zyO hv;have TT:=zMm (st:=b2) (E:=E') (w:=w') (ziv f);obtain⟨a5,ys,kr,hG,hyl,e6,rfl,f8,_⟩:=ziV tvs ks _ us hansof h8 (λk x u p M=>VT.tr TT (λ_ _ _ _=>trivial) (h9 k x u p M));have hyv:∀(k:Nat) (a:At) (u:Value),a5[k]?=some a->ys[k]?=some u->VA w' b2 E' a u:=λk a u A M=>by have h:=e6 k a u A M;rcases hG.get k a A with⟨_,_,rfl,_⟩|⟨_,rfl,_⟩|⟨r,R1,rfl,b6,J,_⟩;{exact h};{exact h};{obtain⟨R0,f3,ht,_⟩:=zj3 b6;refine⟨h.1,λR I=>?_⟩;rw[f3]at I;cases I;have:=h.2 R1 b6;simpa [zba] using this}
       have hzz:ziv f=true->¬ S0 w.heap.size:=λh h'=>by rcases h' with h'|⟨j,T,_,hk⟩|⟨h',_⟩;{omega};{have:=(a7 j _ T hk).1;omega};{rw [h]at h';cases h'}
       obtain⟨_,S,e',a8,e1,f4⟩:=hM.loc l cells hcells;rw[e7]at a8;have d3:∀x,(S0 x\/w.heap.size<=x)->x≠blk->((∃i,i<d.length/\zbd own i/\K i x)\/w.heap.size<=x):=by intro x h X;rcases h with (h|h|h)|h;{exact absurd h X};{exact .inl h};{exact .inr (by omega)};{exact .inr h}
       have d8:∀r R x,b2.root r=some R->E'.φ r x->x≠blk:=by intro r R x I p he;subst he;rw[<- e7]at p;exact hM.lro l cells r R hcells I p
       have d5:∀i,i<(zD ans).length->∃a,a5[i]?=some a:=λi hi=>⟨_,qB (by rw[<- hG.len];exact hi)⟩
       let K':Nat->zY:=λj x=>zbd own j/\cφ E' cells j x
       have b4:∀j x,K' j x->∃r R,cells[j]?=some (.sl r [])/\zbd own j/\b2.root r=some R/\R.own=true/\r∈ks/\E'.φ r x:=by intro j x p;obtain⟨U,p⟩:=p;obtain⟨a,A,p⟩:=zug p;rcases hB.get j a A with⟨_,_,rfl,_⟩|⟨_,rfl,_⟩|⟨r,R,rfl,g,q,G⟩;{exact p.elim};{exact p.elim};{rcases G with⟨_,Y,h5⟩|⟨Y,_⟩;{exact⟨r,R,A,U,g,Y,h5,p⟩};{exact absurd U Y}}
       have b5:∀i x,cφ E' a5 i x->∃a r R,a5[i]?=some a/\a = .sl r []/\b2.root r=some R/\R.ep=none/\r∈kr/\aφ E' a x/\E'.φ r x:=by intro i x p;obtain⟨a,A,p⟩:=zug p;obtain⟨r,hr,rfl,h0⟩:=hG.fi A p;obtain⟨R1,b6,g6⟩:=hG.own r hr;obtain⟨R,I,_,c8⟩:=zj3 b6;refine⟨_,r,R,A,rfl,I,?_,hr,p,h0⟩;rcases c8 with rfl|⟨_,_,he,_⟩;{exact(hM.mine r _ I g6).1};{exact he}
       refine⟨hM.os,hM.tape,hM.output,hM.size,λb hb X g3=>hM.keep b hb λh=>?_,S,e',K',ys,cφ E' a5,a8,by rw[e1,hB.len],d4,λj c u L M=>?_,⟨by rw[hyl,hG.len],λi c x L p=>?_⟩,rfl,λj x T p=>?_,λi x hi p=>?_,λi j x hi T X p b1=>?_,λi j c x hi U T X p b1=>?_,λi j x hi T p b1=>?_⟩
       .rcases h with h|⟨j,T,U,hk⟩|⟨_,h⟩
        .exact X h
        .exact g3 j T U hk
        .omega
       .have T:j<cells.length:=by rw[<- hB.len];exact(qA.1 L).1
        have A:=qB T;obtain⟨_,V⟩:=f4 j _ u A M;rcases hB.get j _ A with⟨k,n,g,q⟩|⟨y,g,q⟩|⟨r,R,g,q,G,Y⟩
        .rw [L]at q;cases q;rw[g]at V;exact V
        .rw [L]at q;cases q;rw[g]at V;exact V
        .rw [L]at G;cases G;rw[g]at V A;have d1:=V.2 R q;simp only[zba,qC]at d1;refine⟨λU=>?_,λg4=>?_⟩
         .rcases Y with⟨_,h5,_⟩|⟨h5,_⟩
          .have hr:=hM.rep r R q;rw[h5,d1]at hr;exact hr.weak (λx p=>⟨U,by rw[zh2 A];exact p⟩)
          .exact absurd U h5
         .rcases Y with⟨h5,_⟩|⟨_,h5⟩
          .exact absurd h5 g4
          .have hjc:j<d.length:=by rw[<- d4,hB.len];exact T
           have e3:=jI (show j<B.size by omega)
           have h7:=e2 (j+1) (.v<|.at<|.sl r []) B[j] (by rw[htm,jN];exact h5) (by rw[z3O];exact e3)
           have c4:=h7.2 R q;simp only[zba,qC]at c4;rw[e3,<- c4,d1]
       .obtain⟨a,A⟩:=d5 i (qA.1 L).1;rw[zh2 A];exact zYi hM hG A L (hyv i a x A p)
       .obtain⟨r,R,_,U,g,q,G,Y⟩:=b4 j x p;have:=d8 r R x g Y;exact⟨hM.rlt r R g x Y,this,d3 x ((hM.mine r R g q).2 x Y) this⟩
       .obtain⟨a,r,R,A,_,g,_,_,G,Y⟩:=b5 i x p;have:=d8 r R x g Y;exact⟨hM.rlt r R g x Y,this,d3 x (z2K hzz hM hG A G).1 this⟩
       .obtain⟨r,R,g1,U,g,q,G,Y⟩:=b4 i x p;obtain⟨r',R',f0,g5,W,c6,a6,b3⟩:=b4 j x b1;have:=hM.own_apart g q W c6 Y b3;subst this;exact X (hB.inj i j r U g5 g1 f0)
       .obtain⟨a,r,R,A,_,g,_,_,G,Y⟩:=b5 i x p;obtain⟨b,r',R',a8,_,W,_,_,a6,b3⟩:=b5 j x b1;exact X (zYh hM hG A a8 hi U G a6)
       .obtain⟨r,R,g1,U,g,q,G,Y⟩:=b4 i x p;obtain⟨b,r',R',a8,_,W,f5,g8,a6,b3⟩:=b5 j x b1
        by_cases e:r=r'
        .subst e;exact f8 r g8 G
        .exact hM.apart r R r' R' g q W f5 e x Y b3
      .cases F
     .cases F
    .cases F
   .cases F)
 refine b7.mono ?_;intro ex w' he;cases ex with|returned v=>exact he|panicked e9=>exact he.elim|outgrown=>exact he.elim
end
def zZp (C:Cfg)(tms:FuncId->Nat->Option Tmpl)(N D:Nat)(f:FuncId)(own:List Bool)(a:List AV):Option Ans :=
 zvC C tms N (zrX C tms N D) f ((zc0 a 0).map .v) {tm:=[],lo:=[],ro:=ze6 own (a.flatMap AV.cvs) 0,stk:=[],nid:=(a.flatMap AV.cvs).length,ep:=0} λb c=>zq6 c b []
def zD7 (C:Cfg)(tms:FuncId->Nat->Option Tmpl)(N D:Nat)(f:FuncId)(own:List Bool)(e g:Nat)(b:List (List Nat))(t:Ty)(a:List AV):Option Ans :=
 zvC C tms N (zrX C tms N D) f ((zc0 a 0).map .v) {tm:=[.v<|.at<|.kp e b t],lo:=[],ro:=ze6 own (a.flatMap AV.cvs) 0,stk:=[],nid:=(a.flatMap AV.cvs).length,ep:=0} λc d=>
  match d.tm,(c.flatMap zV)[g]? with
  |[.v<|.at<|.kp n J h],some (.sl m [])=>cond (Nat.beq n m&&(J==b&&decide (h=t))) (zq6 d c []) none
  |_,_=>none
section
variable {C:Cfg} {w0 w w1:World} {S0:zY} {U:Nat->Prop} {st st1:St} {E E1:Env} {ts:Array Value} {sv:List (Array Value)}
theorem zMZ (hO:EngOk C){f:FuncId}{own:List Bool}{b2:List AV->Option (Bool×List AV)}(hf:FnOk C.P f)(a6:ziE f=[[]])(h:∀(d:List AV) (G:List AV),own.length=(zD d).length->(∃(w:World) (J:Nat->Value) (K:Nat->zY),∀(j:Nat) (c:CV),(zD d)[j]?=some c->Rep false w (J j) c (K j))->b2 d=some (true,G)->∃tms N D,zZp C tms N D f own d=some G)(A:own.isEmpty=false:=by rfl):zeF C.P f own none b2:=by
 refine zeF.of (by rintro rfl;cases A) ?_;intro al a5;rw[a6,qF]at a5;subst a5;refine⟨hf,λw K d J G b1 c5 I a4 a3 _ b0=>?_⟩;have b8:=λi j x hi hj U A=>a3 i j x hi hj U A (by simp)
 obtain⟨tms,N,D,a2⟩:=h d G c5 ⟨w,λj=>(J[j]?).getD undef,K,λj c hc=>by
  have c3:=(qA.1 hc).1;have Z:=qB (show j<J.length by rw[b1];exact c3)
  simp only[Z,jY];exact(I j c _ hc Z).ro⟩ b0
 unfold zZp at a2;generalize y:({tm:=[],lo:=[],ro:=ze6 own (d.flatMap AV.cvs) 0,stk:=[],nid:=(d.flatMap AV.cvs).length,ep:=0}:St)=st at a2;have a9:st.ro=ze6 own (zD d) 0:=(by rw[<- y];rfl);have g:∀r R,zo st.ro r=some R->R.ep=none/\r<(zD d).length/\own[r]?=some R.own/\(zD d)[r]?=some (.s R.t R.l):=(by intro r R z;rw[a9]at z;obtain⟨_,t,l,B,_,_,h5,h6⟩:=zlk own (zD d) 0 r R z;rw[h6]at h5 ⊢;simp only[vJ]at B h5;exact⟨rfl,(qA.1 B).1,h5,B⟩);have T:∀l,zo st.lo l=none:=λl=>(by rw[<- y];rfl);let E:Env:={ρ:=λn=>(J[n]?).getD undef,φ:=K,β:=λ_=>0,κ:=w}
 let S0:zY:=λb=>(∃j,j<(zD d).length/\zbd own j/\K j b)\/b=w.heap.size
 have hS:Sim w S0 (λn=>n<(zD d).length) st E #[] [] w:=by refine⟨⟨rfl,rfl,rfl,qW _,λ_ _ _=>rfl,λr R z=>?_,λr R z x q=>?_,λr R z U=>?_,λhz _ _ _ _ _ _=>absurd (.inr rfl) hz,λr R r' R' z U b9 _ A x q=>?_,λl cs Y=>?_,λl l' cs d5 Y=>?_,λl cs r R Y=>?_,λr R e z X=>?_,rfl⟩,⟨λn R L=>?_,λn cs L=>?_,λm F=>?_,λf hf=>?_⟩,⟨?_,λi m v F=>?_⟩,?_⟩;{obtain⟨_,H,B,h3⟩:=g r R (zbu z).1;have Z:=qB (show r<J.length by omega);show Rep R.own w ((J[r]?).getD undef) _ (K r);have:=I r _ _ h3 Z;rw[B] at this;rw[Z];exact this};{obtain⟨_,H,_,_⟩:=g r R (zbu z).1;exact a4 r x H q};{obtain⟨X,H,B,_⟩:=g r R (zbu z).1;refine⟨X,λx q=>.inl (.inl ⟨r,H,?_,q⟩)⟩;show own[r]?=some true;rw[B,U]};{obtain⟨_,H,B,_⟩:=g r R (zbu z).1;obtain⟨_,a0,_,_⟩:=g r' R' (zbu b9).1;exact b8 r r' x H a0 (by show own[r]?=some true;rw[B,U]) A q};{rw [T]at Y;cases Y};{rw [T]at Y;cases Y};{rw [T]at Y;cases Y};{rw [(g r R z).1]at X;cases X};{exact(g n R L).2.1};{rw [T]at L;cases L};{rw [<- y]at F;simp at F};{rw [<- y]at hf;simp at hf};{rw [<- y];rfl};{rw [<- y]at F;simp at F};{rw [<- y];trivial}
 obtain⟨c1,c2⟩:=zho (w:=w) (st:=st) (E:=E) d J 0 b1 (λi c u hc Z=>by
  have V:=I i c u hc Z;refine⟨?_,V.one⟩;cases c with
  |i k n=>exact V.int_inv
  |b x=>exact V.bool_inv
  |s t l=>
   obtain⟨⟨a,b3,hv,_⟩,_⟩:=V.len;refine⟨⟨a,_,b3,hv⟩,λR z=>?_⟩;have e:0+i=i:=by omega
   show some ((J[0+i]?).getD undef)=some u
   rw[e,Z];rfl)
 have d4:st.nid=(zD d).length:=by rw[<- y];rfl
 obtain⟨_,S⟩:=zkS hO (zjl hO (tms:=tms) (N:=N) D) f _ st _ G a2 w S0 _ E #[] [] w (zbZ d J).toArray
  (λv M=>M.os=w.os/\M.tape=w.tape/\M.output=w.output/\w.heap.size<=M.heap.size/\
   (∀b,b<w.heap.size->(∀j,j<(zD d).length->zbd own j->¬ K j b)->M.heap[b]?=w.heap[b]?)/\
   ∃(ys:List Value) (Kr:Nat->zY),zdH true M (zD G) ys Kr/\v=zkh (zbZ G ys)/\
    (∀i x,i<(zD G).length->Kr i x->x<M.heap.size/\((∃j,j<(zD d).length/\zbd own j/\K j x)\/w.heap.size<=x))/\
    (∀i j x,i<(zD G).length->j<(zD G).length->i≠j->Kr i x->¬ Kr j x)/\
    (∀ja jr js,(none:Option (Nat×Nat×List (List Nat)))=some (ja,jr,js)->∀t l u,(zD d)[ja]?=some (.s t l)->J[ja]?=some u->∃l',(zD G)[jr]?=some (.s t l')/\ys[jr]?=some u/\
     ∀p v,zba w t u p=some v->js.any (λc=>c.isPrefixOf (cols p))=false->zba M t u p=some v)) hS (λn L h=>by omega)
  (by simp[c1]) (λi m v F hv=>by
   rw[qQ]at F;cases q:(zc0 d 0)[i]? with
   |none=>rw[q]at F;cases F
   |some x=>rw[q]at F;cases F;exact c2 i x v q (by simpa using hv))
  (λm F n L=>by
   obtain⟨x,q,rfl⟩:=jE.1 F;simp only[MV.ids,zbI,qP]at L;obtain⟨a,W,L⟩:=L;have:=(zfF d 0 n x a q W L).2;omega)
  (λU' d2 E' M d3 v c0 _ _ _ hv _ a7=>by
   obtain⟨us,rfl,c7,c8⟩:=zyO hv;obtain⟨O,ys,ks,hG,d0,d1,rfl,_⟩:=ziV d3 [] G us a7 c7 c8;have Q:=c0.mem;have a8:∀i,i<(zD G).length->∃a,O[i]?=some a:=λi hi=>⟨_,qB (by rw[<- hG.len];exact hi)⟩
   have a1:∀i x,cφ E' O i x->∃r∈ks,∃R,O[i]?=some (.sl r [])/\d2.root r=some R/\R.own=true/\E'.φ r x:=by intro i x q;obtain⟨a,W,q⟩:=zug q;obtain⟨r,V,rfl,c6⟩:=hG.fi W q;obtain⟨R,z,U⟩:=hG.own r V;exact⟨r,V,R,W,z,U,c6⟩
   refine⟨Q.os,Q.tape,Q.output,Q.size,λb hb c4=>Q.keep b hb λh=>h.elim (λ⟨j,hj,U,hk⟩=>c4 j hj U hk) (λh=>by omega),ys,cφ E' O,⟨by rw[d0,hG.len],λi c x hc q=>?_⟩,rfl,λi x hi q=>?_,λi j x hi hj A q c9=>?_,λja jr js h=>by cases h⟩
   .obtain⟨a,W⟩:=a8 i (qA.1 hc).1;rw[zh2 W];exact hG.rep Q W hc (d1 i a x W q)
   .obtain⟨r,V,R,_,H,B,h4⟩:=a1 i x q;exact⟨Q.rlt r R H x h4,((Q.mine r R H B).2 x h4).elim (λh=>h.imp (λh=>h) λh=>kY h.symm) .inr⟩
   .obtain⟨r,V,R,g1,H,B,h4⟩:=a1 i x q;obtain⟨r',d6,R',b5,a0,b6,b7⟩:=a1 j x c9;have:=Q.own_apart H B a0 b6 h4 b7;subst this;exact A (hG.inj i j r g1 b5))
 refine S.mono ?_;intro ex M X;cases ex with|returned v=>exact X|panicked b4=>exact X.elim|outgrown=>exact X.elim
theorem zmf (hO:EngOk C){f:FuncId}{own:List Bool}{G jr:Nat}{js:List (List Nat)}{kt:Ty}{c7:List AV->Option (Bool×List AV)}(hf:FnOk C.P f)(b6:ziE f=[[]])(h:∀(d:List AV) (O:List AV),own.length=(zD d).length->(∃(w:World) (A:Nat->Value) (K:Nat->zY),∀(j:Nat) (c:CV),(zD d)[j]?=some c->Rep false w (A j) c (K j))->c7 d=some (true,O)->(∃l,(zD d)[G]?=some (.s kt l))/\own[G]?=some true/\∃tms N D,zD7 C tms N D f own G jr js kt d=some O)(H:own.isEmpty=false:=by rfl):zeF C.P f own (some (G,jr,js)) c7:=by
 refine zeF.of (by rintro rfl;cases H) ?_;intro al b5;rw[b6,qF]at b5;subst b5;refine⟨hf,λw K d A O b0 e5 I b3 b2 _ c2=>?_⟩;have d2:=λi j x hi hj ho H=>b2 i j x hi hj ho H (by simp)
 obtain⟨⟨kl,a1⟩,f8,tms,N,D,a8⟩:=h d O e5 ⟨w,λj=>(A[j]?).getD undef,K,λj c hc=>by
  have d8:=(qA.1 hc).1;have hu:=qB (show j<A.length by rw[b0];exact d8)
  simp only[hu,jY];exact(I j c _ hc hu).ro⟩ c2
 unfold zD7 at a8;have c0:G<(zD d).length:=(qA.1 a1).1;have d5:G<A.length:=(by rw[b0];exact c0);have a9:=qB d5;generalize B:({tm:=[.v<|.at<|.kp G js kt],lo:=[],ro:=ze6 own (d.flatMap AV.cvs) 0,stk:=[],nid:=(d.flatMap AV.cvs).length,ep:=0}:St)=st at a8;have c1:st.ro=ze6 own (zD d) 0:=(by rw[<- B];rfl);have g:∀r R,zo st.ro r=some R->R.ep=none/\r<(zD d).length/\own[r]?=some R.own/\(zD d)[r]?=some (.s R.t R.l):=(by intro r R z;rw[c1]at z;obtain⟨_,t,l,L,_,_,h5,h6⟩:=zlk own (zD d) 0 r R z;rw[h6]at h5 ⊢;simp only[vJ]at L h5;exact⟨rfl,(qA.1 L).1,h5,L⟩);have a2:∀l,zo st.lo l=none:=λl=>(by rw[<- B];rfl);let E:Env:={ρ:=λn=>(A[n]?).getD undef,φ:=K,β:=λ_=>0,κ:=w}
 let S0:zY:=λb=>(∃j,j<(zD d).length/\zbd own j/\K j b)\/b=w.heap.size
 have hS:Sim w S0 (λn=>n<(zD d).length) st E #[A[G]] [] w:=by refine⟨⟨rfl,rfl,rfl,qW _,λ_ _ _=>rfl,λr R z=>?_,λr R z x y=>?_,λr R z ho=>?_,λhz _ _ _ _ _ _=>absurd (.inr rfl) hz,λr R r' R' z ho d3 _ H x y=>?_,λl cs hl=>?_,λl l' cs f7 hl=>?_,λl cs r R hl=>?_,λr R e z W=>?_,rfl⟩,⟨λn R M=>?_,λn cs M=>?_,λm F=>?_,λf hf=>?_⟩,⟨?_,λi m v F X=>?_⟩,?_⟩;{obtain⟨_,T,L,h3⟩:=g r R (zbu z).1;have hu:=qB (show r<A.length by omega);show Rep R.own w ((A[r]?).getD undef) _ (K r);have:=I r _ _ h3 hu;rw[L] at this;rw[hu];exact this};{obtain⟨_,T,_,_⟩:=g r R (zbu z).1;exact b3 r x T y};{obtain⟨W,T,L,_⟩:=g r R (zbu z).1;refine⟨W,λx y=>.inl (.inl ⟨r,T,?_,y⟩)⟩;show own[r]?=some true;rw[L,ho]};{obtain⟨_,T,L,_⟩:=g r R (zbu z).1;obtain⟨_,a6,_,_⟩:=g r' R' (zbu d3).1;exact d2 r r' x T a6 (by show own[r]?=some true;rw[L,ho]) H y};{rw [a2]at hl;cases hl};{rw [a2]at hl;cases hl};{rw [a2]at hl;cases hl};{rw [(g r R z).1]at W;cases W};{exact(g n R M).2.1};{rw [a2]at M;cases M};{rw [<- B]at F;simp only[qF]at F;subst F;intro n M;simp only[MV.ids,zbI,zV,j8,uF,At.ids,zbo,zbv,jA,qF]at M;subst M;exact c0};{rw [<- B]at hf;simp at hf};{rw [<- B];rfl};{rw [<- B]at F;cases i with|succ i=>simp at F|zero=>simp only[qH,qC]at F X;subst F;have X:A[G]=v:=(by simpa using X);subst X;have U:=I G _ _ a1 a9;obtain⟨⟨a,a5,f2,_⟩,_⟩:=U.len;refine⟨⟨a,_,a5,f2⟩,λR z=>?_⟩;obtain⟨_,_,_,h4⟩:=g G R (zbu z).1;rw[a1]at h4;cases h4;refine⟨rfl,?_,λp u hp _=>hp⟩;show (A[G]?).getD undef=A[G];rw[a9];rfl};{rw [<- B];trivial}
 obtain⟨d6,d7⟩:=zho (w:=w) (st:=st) (E:=E) d A 0 b0 (λi c u hc hu=>by
  have U:=I i c u hc hu;refine⟨?_,U.one⟩;cases c with
  |i k n=>exact U.int_inv
  |b x=>exact U.bool_inv
  |s t l=>
   obtain⟨⟨a,a5,X,_⟩,_⟩:=U.len;refine⟨⟨a,_,a5,X⟩,λR z=>?_⟩;have e:0+i=i:=by omega
   show some ((A[0+i]?).getD undef)=some u
   rw[e,hu];rfl)
 have f6:st.nid=(zD d).length:=by rw[<- B];rfl
 obtain⟨_,Z⟩:=zkS hO (zjl hO (tms:=tms) (N:=N) D) f _ st _ O a8 w S0 _ E #[A[G]] [] w (zbZ d A).toArray
  (λv Y=>Y.os=w.os/\Y.tape=w.tape/\Y.output=w.output/\w.heap.size<=Y.heap.size/\
   (∀b,b<w.heap.size->(∀j,j<(zD d).length->zbd own j->¬ K j b)->Y.heap[b]?=w.heap[b]?)/\
   ∃(ys:List Value) (Kr:Nat->zY),zdH true Y (zD O) ys Kr/\v=zkh (zbZ O ys)/\
    (∀i x,i<(zD O).length->Kr i x->x<Y.heap.size/\((∃j,j<(zD d).length/\zbd own j/\K j x)\/w.heap.size<=x))/\
    (∀i j x,i<(zD O).length->j<(zD O).length->i≠j->Kr i x->¬ Kr j x)/\
    (∀a3 a4 b1,some (G,jr,js)=some (a3,a4,b1)->∀t l u,(zD d)[a3]?=some (.s t l)->A[a3]?=some u->∃l',(zD O)[a4]?=some (.s t l')/\ys[a4]?=some u/\
     ∀p v,zba w t u p=some v->b1.any (λc=>c.isPrefixOf (cols p))=false->zba Y t u p=some v)) hS (λn M h=>by omega)
  (by simp[d6]) (λi m v F X=>by
   rw[qQ]at F;cases y:(zc0 d 0)[i]? with
   |none=>rw[y]at F;cases F
   |some x=>rw[y]at F;cases F;exact d7 i x v y (by simpa using X))
  (λm F n M=>by
   obtain⟨x,y,rfl⟩:=jE.1 F;simp only[MV.ids,zbI,qP]at M;obtain⟨a,Q,M⟩:=M;have:=(zfF d 0 n x a y Q M).2;omega)
  (λU' f4 E' Y f5 v b4 _ _ _ X _ q=>by
   obtain⟨us,rfl,f0,f1⟩:=zyO X;split at q
   rotate_left
   .cases q
   rename_i n J t' m e8 e6;cases a0:(Nat.beq n m&&(J==js&&decide (t'=kt))) with
   |false=>rw[a0]at q;cases q
   |true=>
   rw[a0]at q;simp only[cond_true]at q;simp only[qE,kP,qL,q0]at a0;obtain⟨e0,hJ,ht⟩:=a0;subst e0 hJ ht;obtain⟨S,ys,ks,hG,c4,c6,rfl,_,b7⟩:=ziV f5 [] O us q f0 f1;have V:=b4.mem;have b9:∀i,i<(zD O).length->∃a,S[i]?=some a:=λi hi=>⟨_,qB (by rw[<- hG.len];exact hi)⟩
   have a7:∀i x,cφ E' S i x->∃r∈ks,∃R,S[i]?=some (.sl r [])/\f4.root r=some R/\R.own=true/\E'.φ r x:=by intro i x y;obtain⟨a,Q,y⟩:=zug y;obtain⟨r,U,rfl,e7⟩:=hG.fi Q y;obtain⟨R,z,ho⟩:=hG.own r U;exact⟨r,U,R,Q,z,ho,e7⟩
   refine⟨V.os,V.tape,V.output,V.size,λb hb d9=>V.keep b hb λh=>h.elim (λ⟨j,hj,ho,hk⟩=>d9 j hj ho hk) (λh=>by omega),ys,cφ E' S,⟨by rw[c4,hG.len],λi c x hc y=>?_⟩,rfl,λi x hi y=>?_,λi j x hi hj H y f3=>?_,λa3 a4 b1 W t l u b8 c3=>?_⟩
   .obtain⟨a,Q⟩:=b9 i (qA.1 hc).1;rw[zh2 Q];exact hG.rep V Q hc (c6 i a x Q y)
   .obtain⟨r,U,R,_,T,L,h4⟩:=a7 i x y;exact⟨V.rlt r R T x h4,((V.mine r R T L).2 x h4).elim (λh=>h.imp (λh=>h) λh=>kY h.symm) .inr⟩
   .obtain⟨r,U,R,g1,T,L,h4⟩:=a7 i x y;obtain⟨r',f9,R',c9,a6,d0,d1⟩:=a7 j x f3;have:=V.own_apart T L a6 d0 h4 d1;subst this;exact H (hG.inj i j r g1 c9)
   .cases W;rw[a1]at b8;cases b8;rw[a9]at c3;cases c3;have Q:S[jr]?=some (.sl n []):=by rw[b7];exact e6
    rcases hG.get jr _ Q with⟨_,_,h,_⟩|⟨_,h,_⟩|⟨r,R,h,z,_,d4⟩
    .cases h
    .cases h
    .cases h;have e9:=b4.tm.2 0 (.v<|.at<|.kp n J t') A[G] (by rw[e8];rfl) (by simp)
     obtain⟨e1,e2,e3⟩:=e9.2 R z;have c5:jr<ys.length:=by rw[c4];exact(qA.1 Q).1
     have hy:=qB c5;have e4:=(c6 jr _ _ Q hy).2 R z;simp only[zba,qC] at e4;refine⟨e1 ▸ R.l,?_,by rw[hy,<- e4,e2],?_⟩
     .rw [d4];cases e1;rfl
     .rw [V.κ] at e3;exact e3)
 refine Z.mono ?_;intro ex Y W;cases ex with|returned v=>exact W|panicked c8=>exact W.elim|outgrown=>exact W.elim
def zSI (b:List (Nat×Nat)):At->At
 |.sl r []=>match b.find? (λx=>Nat.beq x.1 r) with
  |some x=>.sl x.2 []
  |none=>.sl r []
 |a=>a
def zSl (C:Cfg)(tms:FuncId->Nat->Option Tmpl)(N D:Nat)(f:FuncId)(own:List Bool)(b:List (Nat×Nat))(e g:Nat)(c:List (List Nat))(t:Ty)(a:List AV):Option Ans :=
 zvC C tms N (zrX C tms N D) f (((zc0 a 0).map .v).map (zkd<|zSI b)) {tm:=[.v<|.at<|.kp e c t],lo:=[],ro:=(ze6 own (a.flatMap AV.cvs) 0).filter (λx=>!b.any λy=>Nat.beq y.1 x.1),stk:=[],nid:=(a.flatMap AV.cvs).length,ep:=0} λd st=>
  match st.tm,(d.flatMap zV)[g]? with
  |[.v<|.at<|.kp n J h],some (.sl m [])=>cond (Nat.beq n m&&(J==c&&decide (h=t))) (zq6 st d []) none
  |_,_=>none
def zU1 (a:At):Prop:=(∃k n,a = .i k n)\/(∃b,a = .b b)\/∃r,a = .sl r []
theorem ztm:∀(c:List CV) (id:Nat) (a:At),a∈zhp c id->zU1 a
 |[],_,_,h=>by simp[zhp]at h
 |.i k n::c,id,a,h=>by simp only[zhp,qG]at h;rcases h with rfl|h;{exact .inl ⟨k,n,rfl⟩};{exact ztm c (id+1) a h}
 |.b x::c,id,a,h=>by simp only[zhp,qG]at h;rcases h with rfl|h;{exact .inr (.inl ⟨x,rfl⟩)};{exact ztm c (id+1) a h}
 |.s t l::c,id,a,h=>by simp only[zhp,qG]at h;rcases h with rfl|h;{exact .inr (.inr ⟨id,rfl⟩)};{exact ztm c (id+1) a h}
theorem zwY:∀(e:List AV) (id:Nat) (x:TV) (a:At),x∈zc0 e id->a∈zV x->zU1 a
 |[],_,_,_,h,_=>by simp[zc0]at h
 |.one c::e,id,x,a,h,d=>by simp only[zc0,qG]at h;rcases h with rfl|h;{simp only [zV,qF]at d;subst d;cases c with|i k n=>exact .inl ⟨k,n,rfl⟩|b x=>exact .inr (.inl ⟨x,rfl⟩)|s t l=>exact .inr (.inr ⟨id,rfl⟩)};{exact zwY e (id+1) x a h d}
 |.agg f::e,id,x,a,h,d=>by simp only[zc0,qG]at h;rcases h with rfl|h;{exact ztm f id a d};{exact zwY e (id+f.length) x a h d}
theorem z9b {w1:World}{st1:St}{E1:Env}{w:World}{st:St}{E:Env}{f:At->At}{P:At->Prop}(T:∀a v,P a->VA w st E a v->VA w1 st1 E1 (f a) v){x:TV}{v:Value}(g:∀a∈zV x,P a)(h:VT w st E x v):VT w1 st1 E1 (zrj f x) v:=by rcases x with a|l;{exact T a v (g a (by simp[zV])) h};{obtain⟨n,k,m,e⟩:=h;refine⟨n,k,by simp[m],λj a u c i=>?_⟩;rw[qQ]at c;cases d:l[j]? with|none=>rw[d]at c;cases c|some b=>rw[d]at c;cases c;exact⟨(e j b u d i).1,T _ _ (g b (by simp only[zV];exact qJ d)) (e j b u d i).2⟩}
theorem z3K {b:List (Nat×Nat)}{a:At}{n:Nat}(h:n∈(zSI b a).ids):n∈a.ids\/∃r,(r,n)∈b:=by unfold zSI at h;split at h;{split at h;{rename_i r x c;simp only[At.ids,zbo,zbv,jA,qF]at h;subst h;exact .inr ⟨x.1,uL c⟩};{exact .inl h}};{exact .inl h}
theorem zq5 {d:Type}(q:Nat->Bool):∀(l:List (Nat×d)) (n:Nat) (x:d),zo (l.filter λy=>q y.1) n=some x->q n=true/\zo l n=some x
 |[],_,_,h=>by simp[zo]at h
 |(k,v)::l,n,x,h=>by cases b:q k with|false=>rw[List.filter_cons_of_neg (by simp[b])]at h;obtain⟨c,e⟩:=zq5 q l n x h;refine⟨c,?_⟩;simp only[zo];(cases a:k==n with|false=>exact e|true=>have:k=n:=(by simpa using a);subst this;rw[b]at c;cases c)|true=>rw[List.filter_cons_of_pos (by simp[b])]at h;simp only[zo]at h ⊢;(cases a:k==n with|false=>rw[a]at h;exact zq5 q l n x (by simpa using h)|true=>rw[a]at h;have:k=n:=(by simpa using a);subst this;exact⟨b,by simpa using h⟩)
theorem zMY (hO:EngOk C){f:FuncId}{own:List Bool}{M jr:Nat}{js:List (List Nat)}{kt:Ty}{d0:List AV->Option (Bool×List AV)}(hf:FnOk C.P f)(h:∀(W:List (Nat×Nat)) (d:List AV) (V:List AV),W∈ziE f->(∀j i,(j,i)∈W->(zD d)[j]?=(zD d)[i]?)->own.length=(zD d).length->(∃(w:World) (B:Nat->Value) (K:Nat->zY),∀(j:Nat) (c:CV),(zD d)[j]?=some c->Rep false w (B j) c (K j))->d0 d=some (true,V)->(∃l,(zD d)[M]?=some (.s kt l))/\own[M]?=some true/\∃tms N D,zSl C tms N D f own W M jr js kt d=some V)(Z:own.isEmpty=false:=by rfl):zeF C.P f own (some (M,jr,js)) d0:=by
 refine zeF.of (by rintro rfl;cases Z) ?_
 intro W d5;refine⟨hf,λw K d B V b2 f1 S b6 b5 Y c4=>?_⟩;obtain⟨⟨kl,a2⟩,g7,tms,N,D,b0⟩:=h W d V d5 (λj i d8=>(Y j i d8).2.2.2.1) f1 ⟨w,λj=>(B[j]?).getD undef,K,λj c hc=>by
  have e6:=(qA.1 hc).1;have hu:=qB (show j<B.length by rw[b2];exact e6)
  simp only[hu,jY];exact(S j c _ hc hu).ro⟩ c4
 unfold zSl at b0;have c2:M<(zD d).length:=(qA.1 a2).1;have d9:M<B.length:=(by rw[b2];exact c2);have b1:=qB d9;generalize H:({tm:=[.v<|.at<|.kp M js kt],lo:=[],ro:=(ze6 own (d.flatMap AV.cvs) 0).filter (λx=>!W.any λy=>Nat.beq y.1 x.1),stk:=[],nid:=(d.flatMap AV.cvs).length,ep:=0}:St)=st at b0;have a6:st.ro=(ze6 own (zD d) 0).filter (λx=>!W.any λy=>Nat.beq y.1 x.1):=(by rw[<- H];rfl);have e8:∀r R,zo st.ro r=some R->∀i,(r,i)∉W:=(by intro r R z i hi;rw[a6]at z;have:=(zq5 (λn=>!W.any λy=>Nat.beq y.1 n) _ r R z).1;simp only[jF,kQ] at this;exact this _ hi (Nat.beq_refl r));have g:∀r R,zo st.ro r=some R->R.ep=none/\r<(zD d).length/\own[r]?=some R.own/\(zD d)[r]?=some (.s R.t R.l):=(by intro r R z;rw[a6]at z;obtain⟨_,t,l,F,_,_,h5,h6⟩:=zlk own (zD d) 0 r R (zq5 (λn=>!W.any λy=>Nat.beq y.1 n) _ r R z).2;rw[h6]at h5 ⊢;simp only[vJ]at F h5;exact⟨rfl,(qA.1 F).1,h5,F⟩);have a3:∀l,zo st.lo l=none:=λl=>(by rw[<- H];rfl);let E:Env:={ρ:=λn=>(B[n]?).getD undef,φ:=K,β:=λ_=>0,κ:=w}
 let S0:zY:=λb=>(∃j,j<(zD d).length/\zbd own j/\K j b)\/b=w.heap.size
 have hS:Sim w S0 (λn=>n<(zD d).length) st E #[B[M]] [] w:=(by refine⟨⟨rfl,rfl,rfl,qW _,λ_ _ _=>rfl,λr R z=>?_,λr R z x q=>?_,λr R z ho=>?_,λhz _ _ _ _ _ _=>absurd (.inr rfl) hz,λr R r' R' z ho b7 _ Z x q=>?_,λl cs hl=>?_,λl l' cs g6 hl=>?_,λl cs r R hl=>?_,λr R e z U=>?_,rfl⟩,⟨λn R O=>?_,λn cs O=>?_,λm G=>?_,λf hf=>?_⟩,⟨?_,λi m v G L=>?_⟩,?_⟩;{obtain⟨_,T,F,h3⟩:=g r R (zbu z).1;have hu:=qB (show r<B.length by omega);show Rep R.own w ((B[r]?).getD undef) _ (K r);have:=S r _ _ h3 hu;rw[F] at this;rw[hu];exact this};{obtain⟨_,T,_,_⟩:=g r R (zbu z).1;exact b6 r x T q};{obtain⟨U,T,F,_⟩:=g r R (zbu z).1;refine⟨U,λx q=>.inl (.inl ⟨r,T,?_,q⟩)⟩;show own[r]?=some true;rw[F,ho]};{obtain⟨_,T,F,_⟩:=g r R (zbu z).1;obtain⟨_,a8,_,_⟩:=g r' R' (zbu b7).1;exact b5 r r' x T a8 (by show own[r]?=some true;rw[F,ho]) Z (e8 r' R' (zbu b7).1 r) q};{rw [a3]at hl;cases hl};{rw [a3]at hl;cases hl};{rw [a3]at hl;cases hl};{rw [(g r R z).1]at U;cases U};{exact(g n R O).2.1};{rw [a3]at O;cases O};{rw [<- H]at G;simp only[qF]at G;subst G;intro n O;simp only[MV.ids,zbI,zV,j8,uF,At.ids,zbo,zbv,jA,qF]at O;subst O;exact c2};{rw [<- H]at hf;simp at hf};{rw [<- H];rfl};{rw [<- H]at G;cases i with|succ i=>simp at G|zero=>simp only[qH,qC]at G L;subst G;have L:B[M]=v:=(by simpa using L);subst L;have Q:=S M _ _ a2 b1;obtain⟨⟨a,a7,f9,_⟩,_⟩:=Q.len;refine⟨⟨a,_,a7,f9⟩,λR z=>?_⟩;obtain⟨_,_,_,h4⟩:=g M R (zbu z).1;rw[a2]at h4;cases h4;refine⟨rfl,?_,λp u hp _=>hp⟩;show (B[M]?).getD undef=B[M];rw[b1];rfl};{rw [<- H];trivial});let b4:St:={st with ro:=(List.range (zD d).length).map (λr=>(r,(⟨.int,[],false,none⟩:Root))),ep:=0}
 have c5:∀r,r<(zD d).length->b4.root r=some ⟨.int,[],false,none⟩:=by intro r Q;have:∀(n k:Nat),k<=r->r<k+n->zo ((List.range' k n).map λr=>(r,(⟨.int,[],false,none⟩:Root))) r=some ⟨.int,[],false,none⟩:=(by intro n;induction n with|zero=>intro k T F;omega|succ n ih=>intro k T F;simp only[vH,jD,zo];by_cases U:k=r;{subst U;simp};{have hb:(k==r)=false:=(by simpa using U);simp only[hb,kE,if_false];exact ih (k+1) (by omega) (by omega)});have F:=this (zD d).length 0 (j3 _) (by omega);rw[<- List.range_eq_range']at F;exact zhf F (.inl rfl)
 obtain⟨e0,e5⟩:=zho (w:=w) (st:=b4) (E:=E) d B 0 b2 (λi c u hc hu=>by
  have Q:=S i c u hc hu;refine⟨?_,Q.one⟩;cases c with
  |i k n=>exact Q.int_inv
  |b x=>exact Q.bool_inv
  |s t l=>
   obtain⟨⟨a,a7,L,_⟩,_⟩:=Q.len;refine⟨⟨a,_,a7,L⟩,λR z=>?_⟩;have e:0+i=i:=by omega
   show some ((B[0+i]?).getD undef)=some u
   rw[e,hu];rfl)
 have hT:∀a v,(zU1 a/\∀n∈a.ids,n<(zD d).length)->VA w b4 E a v->VA w st E (zSI W a) v:=(by intro a v ⟨f2,d7⟩ L;have c3:∀r,∀i,(r,i)∈W->E.ρ i=E.ρ r:=(by intro r i hi;show (B[i]?).getD undef=(B[r]?).getD undef;rw[(Y r i hi).2.2.1]);rcases f2 with⟨k,n,rfl⟩|⟨b,rfl⟩|⟨r,rfl⟩;{exact L};{exact L};{have Q:r<(zD d).length:=d7 r (by simp[At.ids,zbo]);have e1:=L.2 _ (c5 r Q);simp only[zba,qC] at e1;simp only[zSI];split;{rename_i x q;have G:=uL q;have g2:x.1=r:=kK (by simpa using List.find?_some q);subst g2;refine⟨L.1,λR _=>?_⟩;simp only[zba,qC];rw[c3 x.1 x.2 G];exact e1};{refine⟨L.1,λR _=>?_⟩;simp only[zba,qC];exact e1}});have g5:st.nid=(zD d).length:=by rw[<- H];rfl
 obtain⟨_,a0⟩:=zkS hO (zjl hO (tms:=tms) (N:=N) D) f _ st _ V b0 w S0 _ E #[B[M]] [] w (zbZ d B).toArray
  (λv w'=>w'.os=w.os/\w'.tape=w.tape/\w'.output=w.output/\w.heap.size<=w'.heap.size/\
   (∀b,b<w.heap.size->(∀j,j<(zD d).length->zbd own j->¬ K j b)->w'.heap[b]?=w.heap[b]?)/\
   ∃(ys:List Value) (Kr:Nat->zY),zdH true w' (zD V) ys Kr/\v=zkh (zbZ V ys)/\
    (∀i x,i<(zD V).length->Kr i x->x<w'.heap.size/\((∃j,j<(zD d).length/\zbd own j/\K j x)\/w.heap.size<=x))/\
    (∀i j x,i<(zD V).length->j<(zD V).length->i≠j->Kr i x->¬ Kr j x)/\
    (∀a4 a5 b3,some (M,jr,js)=some (a4,a5,b3)->∀t l u,(zD d)[a4]?=some (.s t l)->B[a4]?=some u->∃l',(zD V)[a5]?=some (.s t l')/\ys[a5]?=some u/\
     ∀p v,zba w t u p=some v->b3.any (λc=>c.isPrefixOf (cols p))=false->zba w' t u p=some v)) hS (λn O h=>by omega)
  (by simp[e0]) (λi m v G L=>by
   rw[qQ,qQ]at G;cases q:(zc0 d 0)[i]? with
   |none=>rw[q]at G;cases G
   |some x=>
    rw[q]at G;cases G;exact z9b hT (λa I=>⟨zwY d 0 x a (qJ q) I,λn O=>by
     have:=(zfF d 0 n x a (qJ q) I O).2;omega⟩) (e5 i x v q (by simpa using L)))
  (λm G n O=>by
   obtain⟨m0,e7,rfl⟩:=jE.1 G;obtain⟨x,q,rfl⟩:=jE.1 e7;obtain⟨a,I,O⟩:=zQh O;simp only[zbI]at I;rcases z3K O with h|⟨r,h⟩
   .have:=(zfF d 0 n x a q I h).2;omega
   .obtain⟨_,_,_,_,t,l,h5⟩:=Y r n h;exact(qA.1 h5).1)
  (λU' g3 E' w' g4 v b8 _ _ _ L _ A=>by
   obtain⟨us,rfl,f7,f8⟩:=zyO L;split at A
   rotate_left
   .cases A
   rename_i n J t' m f5 f3;cases a1:(Nat.beq n m&&(J==js&&decide (t'=kt))) with
   |false=>rw[a1]at A;cases A
   |true=>
   rw[a1]at A;simp only[cond_true]at A;simp only[qE,kP,qL,q0]at a1;obtain⟨f0,hJ,ht⟩:=a1;subst f0 hJ ht;obtain⟨X,ys,ks,hG,c7,c9,rfl,_,b9⟩:=ziV g4 [] V us A f7 f8;have hM:=b8.mem;have c1:∀i,i<(zD V).length->∃a,X[i]?=some a:=λi hi=>⟨_,qB (by rw[<- hG.len];exact hi)⟩
   have a9:∀i x,cφ E' X i x->∃r∈ks,∃R,X[i]?=some (.sl r [])/\g3.root r=some R/\R.own=true/\E'.φ r x:=by intro i x q;obtain⟨a,I,q⟩:=zug q;obtain⟨r,Q,rfl,f4⟩:=hG.fi I q;obtain⟨R,z,ho⟩:=hG.own r Q;exact⟨r,Q,R,I,z,ho,f4⟩
   refine⟨hM.os,hM.tape,hM.output,hM.size,λb hb e9=>hM.keep b hb λh=>h.elim (λ⟨j,hj,ho,hk⟩=>e9 j hj ho hk) (λh=>by omega),ys,cφ E' X,⟨by rw[c7,hG.len],λi c x hc q=>?_⟩,rfl,λi x hi q=>?_,λi j x hi hj Z q g0=>?_,λa4 a5 b3 U t l u c0 c6=>?_⟩
   .obtain⟨a,I⟩:=c1 i (qA.1 hc).1;rw[zh2 I];exact hG.rep hM I hc (c9 i a x I q)
   .obtain⟨r,Q,R,_,T,F,h4⟩:=a9 i x q;exact⟨hM.rlt r R T x h4,((hM.mine r R T F).2 x h4).elim (λh=>h.imp (λh=>h) λh=>kY h.symm) .inr⟩
   .obtain⟨r,Q,R,g1,T,F,h4⟩:=a9 i x q;obtain⟨r',g8,R',d2,a8,d3,d4⟩:=a9 j x g0;have:=hM.own_apart T F a8 d3 h4 d4;subst this;exact Z (hG.inj i j r g1 d2)
   .cases U;rw[a2]at c0;cases c0;rw[b1]at c6;cases c6;have I:X[jr]?=some (.sl n []):=by rw[b9];exact f3
    rcases hG.get jr _ I with⟨_,_,h,_⟩|⟨_,h,_⟩|⟨r,R,h,z,_,d6⟩
    .cases h
    .cases h
    .cases h;have f6:=b8.tm.2 0 (.v<|.at<|.kp n J t') B[M] (by rw[f5];rfl) (by simp)
     obtain⟨e1,e2,e3⟩:=f6.2 R z;have c8:jr<ys.length:=by rw[c7];exact(qA.1 I).1
     have hy:=qB c8;have e4:=(c9 jr _ _ I hy).2 R z;simp only[zba,qC] at e4;refine⟨e1 ▸ R.l,?_,by rw[hy,<- e4,e2],?_⟩
     .rw [d6];cases e1;rfl
     .rw [hM.κ] at e3;exact e3)
 refine a0.mono ?_;intro ex w' U;cases ex with|returned v=>exact U|panicked d1=>exact U.elim|outgrown=>exact U.elim
end
def zbl (h:Host):List CV:=[.s (.sl .int) h.Memory,.s .mon h.Mons,.s .entry h.Buffer,.s .entry h.IoBuffer]
def zmR (c:Ctl):List CV:=[.i .i64 c.Traps,.i .i64 c.Post,.b c.Open]
def zgt (e:GExit):List CV:=[.i .i64 e.Kind,.i .i64 e.Page,.b e.Write,.i .i64 e.N]
structure Cur where
 b:List Int
 i:Int
 h:Int
def zb1 (c:Cur):List CV:=[.s .u8 c.b,.i .i64 c.i,.i .i64 c.h]
def zx:List (Nat×Nat×Tmpl)->FuncId->Nat->Option Tmpl
 |[],_,_=>none
 |(g,c,T)::r,f,b=>cond (Nat.beq g f) (cond (Nat.beq c b) (some T)<|zx r f b) (zx r f b)
def pc (p:Prop):Bool:=@decide p (Classical.propDecidable p)
theorem zQ {p:Prop}:pc p=true↔p:=by unfold pc;exact @decide_eq_true_iff p (Classical.propDecidable p)
theorem zbw {p:Prop}(h:p):pc p=true:=zQ.2 h
inductive CVB (K:Nat):CV->Prop
 |i (k:IntKind) (n:Int):CVB K (.i k n)
 |b (x:Bool):CVB K (.b x)
 |s (t:Ty) (l:List t.den) (hl:l.length<=K) (h:∀x∈l,∀c∈t.cells x,CVB K c):CVB K (.s t l)
theorem CVB.inv {K:Nat}{t:Ty}{l:List t.den}(h:CVB K (.s t l)):l.length<=K/\∀x∈l,∀c∈t.cells x,CVB K c:=by cases h with|s _ _ a h=>exact⟨a,h⟩
theorem CVB.len {K:Nat}{t:Ty}{l:List t.den}(h:CVB K (.s t l)):l.length<=K:=h.inv.1
theorem CVB.mono {K L:Nat}(a:K<=L){c:CV}(h:CVB K c):CVB L c:=by induction h with|i k n=>exact .i k n|b x=>exact .b x|s t l d h e=>exact .s t l (qT d a) e
theorem CVB.of_rep {o:Bool}{w:World}{v:Value}{c:CV}{S:zY}(h:Rep o w v c S):CVB big c:=by
 induction h with
 |i k n S=>exact .i k n
 |b x S=>exact .b x
 |nil t S=>exact .s t [] (j3 _) (λx h=>by cases h)
 |void t a S I=>exact .s t [] (j3 _) (λx h=>by cases h)
 |sl t l b D r q e E V K S G u d g A F p m J H C=>refine .s t l d (λx B c f=>?_);obtain⟨i,y⟩:=qU.1 B;obtain⟨j,z⟩:=qU.1 f;exact C i x y j c z
theorem CVB.of_ok {c:CV}(h:CVOk c):CVB big c:=by induction h with|i k n _=>exact .i k n|b x=>exact .b x|s t l f h m=>refine .s t l f (λx g c a=>?_);obtain⟨i,d⟩:=qU.1 g;obtain⟨j,e⟩:=qU.1 a;exact m i x d j c e
def zbL (K:Nat)(a:List AV):Prop:=∀c∈zD a,CVB K c
theorem zdq {K:Nat}{a:AV}{b:List AV}(h:zbL K (a::b)):(∀c∈a.cvs,CVB K c)/\zbL K b:=by unfold zbL zD at *;simp only[j8,jH]at h;exact⟨λc d=>h c (.inl d),λc d=>h c (.inr d)⟩
theorem zWn {a:List AV}(h:∃w e,zdH false w (zD a) e λ_ b=>b<w.heap.size):zbL big a:=by obtain⟨w,e,g,j⟩:=h;intro c k;obtain⟨i,f⟩:=qU.1 k;have d:i<e.length:=(by rw[g];exact(qA.1 f).1);exact CVB.of_rep (j i c _ f<|qB d)
theorem zlj {b:List CV}{a:List AV}(h:∃(w:World) (f:Nat->Value) (K:Nat->zY),∀(j:Nat) (c:CV),(b++zD a)[j]?=some c->Rep false w (f j) c (K j)):zbL big (.agg b::a):=by obtain⟨w,f,K,h⟩:=h;intro c d;have e:zD (AV.agg b::a)=b++zD a:=(by simp[zD,AV.cvs]);rw[e]at d;obtain⟨j,g⟩:=qU.1 d;exact CVB.of_rep (h j c g)
theorem znx {b c:Bool}{x y:List CV}{z u:List AV}(h:some (b,x,z)=some (c,y,u)):b=c/\y=x/\u=z:=by cases h;exact⟨rfl,rfl,rfl⟩
theorem zet {b c:Bool}{x y:List AV}(h:some (b,x)=some (c,y)):b=c/\y=x:=by cases h;exact⟨rfl,rfl⟩
abbrev zbb:=List (Nat×(List AV->Option (Bool×List AV)))
def zML:zbb:=[]
theorem zee:∀f a,zo zML f=some a->Holds Tryz.prog f a:=λf a h=>by cases h
abbrev zS (l:zbb):Prop:=∀f a,zo l f=some a->Holds Tryz.prog f a
abbrev vM:=Holds Tryz.prog
theorem zi {l:zbb}{f:Nat}{a:List AV->Option (Bool×List AV)}(h:vM f a)(b:zS l):zS ((f,a)::l):=by intro g r hg;unfold zo at hg;split at hg;{rename_i e;cases hg;rw[<- qL.1 e];exact h};{exact b g r hg}
abbrev zhA:=List (Nat×(CV->Int->Option (Bool×CV×Int)))
def z5c:zhA:=[]
abbrev zf0 (m:zhA):Prop:=∀f a,zo m f=some a->zJx Tryz.prog f a
theorem zZ:zf0 z5c:=λf a h=>by cases h
abbrev zcU:=List (Nat×List Bool×(List CV->List AV->Option (Bool×List CV×List AV)))
def zIl:zcU:=[]
abbrev zb5 (p:zcU):Prop:=∀f own a,zo p f=some (own,a)->zbV Tryz.prog f own a
theorem zy:zb5 zIl:=λf own a h=>by cases h
theorem zcp {l m:zcU}(c:∀f own a,zo m f=some (own,a)->zbV Tryz.prog f own a)(b:∀x∈l,zbV Tryz.prog x.1 x.2.1 x.2.2):∀f own a,zo (l++m) f=some (own,a)->zbV Tryz.prog f own a:=by intro f own a h;rw[zbM]at h;split at h;{rename_i y d;cases h;exact b _ (znV d)};{exact c f own a h}
abbrev zfL:=List (Nat×List Bool×Option (Nat×Nat×List (List Nat))×(List AV->Option (Bool×List AV)))
def zVL:zfL:=[]
abbrev zex (t:zfL):Prop:=∀f own a b,zo t f=some (own,a,b)->zeF Tryz.prog f own a b
theorem zq:zex zVL:=λf own a b h=>by cases h
theorem zqZ {l m:zfL}(d:∀f own a b,zo m f=some (own,a,b)->zeF Tryz.prog f own a b)(c:∀x∈l,zeF Tryz.prog x.1 x.2.1 x.2.2.1 x.2.2.2):∀f own a b,zo (l++m) f=some (own,a,b)->zeF Tryz.prog f own a b:=by intro f own a b h;rw[zbM]at h;split at h;{rename_i y e;cases h;exact c _ (znV e)};{exact d f own a b h}
abbrev cQ (c:zbb)(m:zhA)(p:zcU)(t:zfL):Cfg:=zmQ (zo c) (zo m) (zo p) (zo t)
theorem zTy {c:zbb}{m:zhA}{p:zcU}{t:zfL}(k:zS c)(l:zf0 m)(n:zb5 p)(q:zex t){f:FuncId}{b:List AV->Option (Bool×List AV)}(i:FnOk Tryz.prog f)(h:∀a d,zbL big a->b a=some (true,d)->∃g N,evalFn (cQ c m p t) g N 12 f a=some d):vM f b :=
 zAz (zhb k l n q) i λa d j e=>(h a d (zWn j) e).elim λt x=>x.elim λN y=>⟨t,N,12,y⟩
noncomputable def zfg (f:FuncId):Bool :=
 match Tryz.prog.funcs[f]? with
 |some a=>a.body.isSome && !(a.name == "runtime.NumGoroutine")
 |none=>false
theorem zje {f:FuncId}(h:zfg f=true):FnOk Tryz.prog f:=by unfold zfg at h;split at h;{rename_i a d;simp only[qE,jF]at h;obtain⟨b,c⟩:=uP.1 h.1;exact⟨a,b,d,c,h.2⟩};{cases h}
abbrev oN {b:Type}(c:Bool)(a:Option b):Option b:=bif c then a else none
abbrev nB (c:Bool):Bool:=bif c then false else true
abbrev ti:AT:=.i .i64
structure Dc (α:Type) where
 d:AV->Option α
 e:α->AV
 h:∀{a x},d a=some x->a=e x
abbrev aI (x:Int):AV:=.one (.i .i64 x)
abbrev aB (x:Bool):AV:=.one (.b x)
abbrev aS (t:Ty)(l:List t.den):AV:=.one (.s t l)
abbrev aT (t:Ty)(x:t.den):AV:=.agg (t.cells x)
abbrev aH (h:Host):AV:=.agg (zbl h)
abbrev OA:=Option Ans
abbrev oF:OA:=some [aB false]
abbrev oT:OA:=some [aB true]
abbrev lA:=List GAct
abbrev lB:=List Bool
abbrev lE:=List Entry
abbrev lG:=List Guest
abbrev lI:=List Ins
abbrev lK:=List Kept
abbrev lM:=List (List Int)
abbrev lN:=List Mon
abbrev lP:=List (List Ins)
abbrev lQ:=List (List<|List Ins)
abbrev lR:=List Bare
abbrev lS:=List Slot
abbrev lT:=List Told
def dI:Dc Int:=⟨λa=>match a with | .one (.i .i64 x)=>some x|_=>none,aI,λ{a x} h=>by split at h<;>cases h;rfl⟩
def dB:Dc Bool:=⟨λa=>match a with | .one (.b x)=>some x|_=>none,aB,λ{a x} h=>by split at h<;>cases h;rfl⟩
def dS (t:Ty):Dc (List t.den):=⟨λa=>match a with | .one (.s b l)=>if h:b=t then some (h ▸ l) else none|_=>none,aS t,λ{a x} h=>by
 split at h
 .rename_i b l;split at h
  .rename_i e;subst e;cases h;rfl
  .cases h
 .cases h⟩
def dT (t:Ty):Dc t.den:=⟨λa=>match a with | .agg b=>t.ofCells b|_=>none,aT t,λ{a x} h=>by
 split at h
 .rw [<- zkD h]
 .cases h⟩
def dH:Dc Host:=⟨λa=>match a with | .agg [.s (.sl .int) x,.s .mon y,.s .entry z,.s .entry u]=>some ⟨x,y,z,u⟩|_=>none,aH,λ{a x} h=>by split at h<;>cases h;rfl⟩
def dC:Dc Ctl:=⟨λa=>match a with | .agg [.i .i64 x,.i .i64 y,.b z]=>some ⟨x,y,z⟩|_=>none,λx=>.agg (zmR x),λ{a x} h=>by split at h<;>cases h;rfl⟩
def dE:Dc GExit:=⟨λa=>match a with | .agg [.i .i64 x,.i .i64 y,.b z,.i .i64 u]=>some ⟨x,y,z,u⟩|_=>none,λx=>.agg (zgt x),λ{a x} h=>by split at h<;>cases h;rfl⟩
abbrev Run:=List AV->Option (Bool×List AV)
def eat {b:Type}(D:Dc b)(k:b->Run):Run
 |[]=>none
 |a::l=>match D.d a with
  |some x=>k x l
  |none=>none
def stop (r:Bool×List AV):Run
 |[]=>some r
 |_=>none
theorem z8N {c:Type}{D:Dc c}{k:c->Run}{b:List AV}{r:Bool×List AV}(h:eat D k b=some r):∃x l,b=D.e x::l/\k x l=some r:=by unfold eat at h;split at h;{cases h};{rename_i a l;split at h;{rename_i x d;exact⟨x,l,by rw[D.h d],h⟩};{cases h}}
theorem z5S {q r:Bool×List AV}{a:List AV}(h:stop q a=some r):a=[]/\r=q:=by unfold stop at h;split at h<;>cases h;exact⟨rfl,rfl⟩
theorem zcA {p:Nat->Prop}(h:∀N,(∀{n:Nat},n<=big->n<N)->p N):∃N,p N:=⟨big+1,h _ λh=>Nat.lt_succ_of_le h⟩
theorem len0 {t:Ty}{l:List t.den}{r:List AV}(a:zbL big (.one (.s t l)::r)):l.length<=big:=((zdq a).1 _ (qF.2 rfl)).len
def Read (c:zbb)(m:zhA)(p:zcU)(t:zfL)(d:FuncId->Nat->Option Tmpl)(f:FuncId)(b:List AV)(r:Run):Prop:=∀a e,zbL big (b++a)->r a=some (true,e)->∃N,evalFn (cQ c m p t) d N 12 f (b++a)=some e
theorem zdR {c:zbb}{m:zhA}{p:zcU}{t:zfL}{d:FuncId->Nat->Option Tmpl}{f:FuncId}{b:List AV}{g:Type}{D:Dc g}{k:g->Run}(h:∀a,Read c m p t d f (b++[D.e a])<|k a):Read c m p t d f b (eat D k):=by intro i r q e;obtain⟨x,l,n,j⟩:=z8N e;subst n;have:=h x l r (by simpa using q) j;simpa using this
theorem zlC {c:zbb}{m:zhA}{p:zcU}{t:zfL}{d:FuncId->Nat->Option Tmpl}{f:FuncId}{a:List AV}{g:Bool×List AV}{E:Nat->OA}(h:zbL big a->g.1=true->∃N,E N=some g.2)(n:∀N,evalFn (cQ c m p t) d N 12 f a=E N):Read c m p t d f a (stop g):=by intro j q i e;obtain⟨l,k⟩:=z5S e;subst l;cases g with|mk b x=>cases k;rw[jA]at i ⊢;obtain⟨N,e⟩:=h i rfl;exact⟨N,(n N).trans e⟩
theorem zn4 {c:zbb}{m:zhA}{p:zcU}{t:zfL}(i:zS c)(j:zf0 m)(k:zb5 p)(l:zex t){a:FuncId->Nat->Option Tmpl}{f:FuncId}{r:Run}(g:zfg f=true)(h:Read c m p t a f [] r):vM f r :=
 zTy i j k l (zje g) λb n d e=>(h b n d e).elim λN x=>⟨a,N,x⟩
def rF0  (g:Bool×List AV):Run:=stop g
theorem hF0 {c:zbb}{m:zhA}{p:zcU}{t:zfL}(j:zS c)(k:zf0 m)(l:zb5 p)(n:zex t)(b:FuncId->Nat->Option Tmpl){g:Bool×List AV}{E:Nat->OA}{f:FuncId}(a:zbL big []->g.1=true->∃N,E N=some g.2)(i:∀N,evalFn (cQ c m p t) b N 12 f []=E N:=by intros;kernel_rfl)(h:zfg f=true:=by kernel_rfl):vM f (rF0 g):=
 zn4 j k l n h (zlC (λd e=>a d e) λN=>i N)
theorem kF0 {c:zbb}{m:zhA}{p:zcU}{t:zfL}(h:zS c)(i:zf0 m)(j:zb5 p)(k:zex t)(a:FuncId->Nat->Option Tmpl){g:Bool×List AV}{E:Nat->OA}{f:FuncId}(b:g.1=true->∃N,E N=some g.2)(e:∀N,evalFn (cQ c m p t) a N 12 f []=E N:=by intros;kernel_rfl)(d:zfg f=true:=by kernel_rfl):vM f (rF0 g):=hF0 h i j k a (λ_=>b) e d
def rF1 {a:Type}(b:Dc a)(g:a->Bool×List AV):Run:=eat b λc=>stop (g c)
theorem hF1 {b:Type}{c:zbb}{m:zhA}{p:zcU}{t:zfL}(q:zS c)(r:zf0 m)(s:zb5 p)(u:zex t)(i:FuncId->Nat->Option Tmpl){d:Dc b}{g:b->Bool×List AV}{E:Nat->b->OA}{f:FuncId}(h:∀a,zbL big [d.e a]->(g a).1=true->∃N,E N a=some (g a).2)(n:∀N a,evalFn (cQ c m p t) i N 12 f [d.e a]=E N a:=by intros;kernel_rfl)(l:zfg f=true:=by kernel_rfl):vM f (rF1 d g):=
 zn4 q r s u l (zdR λa=>zlC (λj k=>h a j k) λN=>n N a)
theorem kF1 {d:Type}{c:zbb}{m:zhA}{p:zcU}{t:zfL}(l:zS c)(n:zf0 m)(q:zb5 p)(r:zex t)(b:FuncId->Nat->Option Tmpl){i:Dc d}{g:d->Bool×List AV}{E:Nat->d->OA}{f:FuncId}(h:∀a,(g a).1=true->∃N,E N a=some (g a).2)(k:∀N a,evalFn (cQ c m p t) b N 12 f [i.e a]=E N a:=by intros;kernel_rfl)(j:zfg f=true:=by kernel_rfl):vM f (rF1 i g):=hF1 l n q r b (λa _=>h a) k j
def rF2 {a b:Type}(c:Dc a)(d:Dc b)(g:a->b->Bool×List AV):Run:=eat c λe=>eat d λf=>stop (g e f)
theorem hF2 {d h:Type}{c:zbb}{m:zhA}{p:zcU}{t:zfL}(u:zS c)(v:zf0 m)(w:zb5 p)(x:zex t)(l:FuncId->Nat->Option Tmpl){i:Dc d}{j:Dc h}{g:d->h->Bool×List AV}{E:Nat->d->h->OA}{f:FuncId}(k:∀a b,zbL big [i.e a,j.e b]->(g a b).1=true->∃N,E N a b=some (g a b).2)(s:∀N a b,evalFn (cQ c m p t) l N 12 f [i.e a,j.e b]=E N a b:=by intros;kernel_rfl)(r:zfg f=true:=by kernel_rfl):vM f (rF2 i j g):=
 zn4 u v w x r (zdR λa=>zdR λb=>zlC (λn q=>k a b n q) λN=>s N a b)
theorem kF2 {h i:Type}{c:zbb}{m:zhA}{p:zcU}{t:zfL}(r:zS c)(s:zf0 m)(u:zb5 p)(v:zex t)(d:FuncId->Nat->Option Tmpl){k:Dc h}{l:Dc i}{g:h->i->Bool×List AV}{E:Nat->h->i->OA}{f:FuncId}(j:∀a b,(g a b).1=true->∃N,E N a b=some (g a b).2)(q:∀N a b,evalFn (cQ c m p t) d N 12 f [k.e a,l.e b]=E N a b:=by intros;kernel_rfl)(n:zfg f=true:=by kernel_rfl):vM f (rF2 k l g):=hF2 r s u v d (λa b _=>j a b) q n
def rF3 {a b c:Type}(d:Dc a)(e:Dc b)(f:Dc c)(g:a->b->c->Bool×List AV):Run:=eat d λh=>eat e λi=>eat f λj=>stop (g h i j)
theorem hF3 {h i j:Type}{c:zbb}{m:zhA}{p:zcU}{t:zfL}(x:zS c)(y:zf0 m)(z:zb5 p)(A:zex t)(r:FuncId->Nat->Option Tmpl){k:Dc h}{l:Dc i}{n:Dc j}{g:h->i->j->Bool×List AV}{E:Nat->h->i->j->OA}{f:FuncId}(q:∀a b d,zbL big [k.e a,l.e b,n.e d]->(g a b d).1=true->∃N,E N a b d=some (g a b d).2)(w:∀N a b d,evalFn (cQ c m p t) r N 12 f [k.e a,l.e b,n.e d]=E N a b d:=by intros;kernel_rfl)(v:zfg f=true:=by kernel_rfl):vM f (rF3 k l n g):=
 zn4 x y z A v (zdR λa=>zdR λb=>zdR λd=>zlC (λs u=>q a b d s u) λN=>w N a b d)
theorem kF3 {i j k:Type}{c:zbb}{m:zhA}{p:zcU}{t:zfL}(v:zS c)(w:zf0 m)(x:zb5 p)(y:zex t)(h:FuncId->Nat->Option Tmpl){n:Dc i}{q:Dc j}{r:Dc k}{g:i->j->k->Bool×List AV}{E:Nat->i->j->k->OA}{f:FuncId}(l:∀a b d,(g a b d).1=true->∃N,E N a b d=some (g a b d).2)(u:∀N a b d,evalFn (cQ c m p t) h N 12 f [n.e a,q.e b,r.e d]=E N a b d:=by intros;kernel_rfl)(s:zfg f=true:=by kernel_rfl):vM f (rF3 n q r g):=hF3 v w x y h (λa b d _=>l a b d) u s
def rF4 {a b c d:Type}(e:Dc a)(f:Dc b)(h:Dc c)(i:Dc d)(g:a->b->c->d->Bool×List AV):Run:=eat e λj=>eat f λk=>eat h λl=>eat i λm=>stop (g j k l m)
theorem hF4 {i j k l:Type}{c:zbb}{m:zhA}{p:zcU}{t:zfL}(A:zS c)(B:zf0 m)(C:zb5 p)(D:zex t)(v:FuncId->Nat->Option Tmpl){n:Dc i}{q:Dc j}{r:Dc k}{s:Dc l}{g:i->j->k->l->Bool×List AV}{E:Nat->i->j->k->l->OA}{f:FuncId}(u:∀a b d h,zbL big [n.e a,q.e b,r.e d,s.e h]->(g a b d h).1=true->∃N,E N a b d h=some (g a b d h).2)(z:∀N a b d h,evalFn (cQ c m p t) v N 12 f [n.e a,q.e b,r.e d,s.e h]=E N a b d h:=by intros;kernel_rfl)(y:zfg f=true:=by kernel_rfl):vM f (rF4 n q r s g):=
 zn4 A B C D y (zdR λa=>zdR λb=>zdR λd=>zdR λh=>zlC (λw x=>u a b d h w x) λN=>z N a b d h)
theorem kF4 {j k l n:Type}{c:zbb}{m:zhA}{p:zcU}{t:zfL}(y:zS c)(z:zf0 m)(A:zb5 p)(B:zex t)(i:FuncId->Nat->Option Tmpl){r:Dc j}{s:Dc k}{u:Dc l}{v:Dc n}{g:j->k->l->n->Bool×List AV}{E:Nat->j->k->l->n->OA}{f:FuncId}(q:∀a b d h,(g a b d h).1=true->∃N,E N a b d h=some (g a b d h).2)(x:∀N a b d h,evalFn (cQ c m p t) i N 12 f [r.e a,s.e b,u.e d,v.e h]=E N a b d h:=by intros;kernel_rfl)(w:zfg f=true:=by kernel_rfl):vM f (rF4 r s u v g):=hF4 y z A B i (λa b d h _=>q a b d h) x w
def rF5 {a b c d e:Type}(f:Dc a)(h:Dc b)(i:Dc c)(j:Dc d)(k:Dc e)(g:a->b->c->d->e->Bool×List AV):Run:=eat f λl=>eat h λm=>eat i λn=>eat j λp=>eat k λq=>stop (g l m n p q)
theorem hF5 {j k l n q:Type}{c:zbb}{m:zhA}{p:zcU}{t:zfL}(D:zS c)(F:zf0 m)(G:zb5 p)(H:zex t)(y:FuncId->Nat->Option Tmpl){r:Dc j}{s:Dc k}{u:Dc l}{v:Dc n}{w:Dc q}{g:j->k->l->n->q->Bool×List AV}{E:Nat->j->k->l->n->q->OA}{f:FuncId}(x:∀a b d h i,zbL big [r.e a,s.e b,u.e d,v.e h,w.e i]->(g a b d h i).1=true->∃N,E N a b d h i=some (g a b d h i).2)(C:∀N a b d h i,evalFn (cQ c m p t) y N 12 f [r.e a,s.e b,u.e d,v.e h,w.e i]=E N a b d h i:=by intros;kernel_rfl)(B:zfg f=true:=by kernel_rfl):vM f (rF5 r s u v w g):=
 zn4 D F G H B (zdR λa=>zdR λb=>zdR λd=>zdR λh=>zdR λi=>zlC (λz A=>x a b d h i z A) λN=>C N a b d h i)
theorem kF5 {k l n q r:Type}{c:zbb}{m:zhA}{p:zcU}{t:zfL}(B:zS c)(C:zf0 m)(D:zb5 p)(F:zex t)(j:FuncId->Nat->Option Tmpl){u:Dc k}{v:Dc l}{w:Dc n}{x:Dc q}{y:Dc r}{g:k->l->n->q->r->Bool×List AV}{E:Nat->k->l->n->q->r->OA}{f:FuncId}(s:∀a b d h i,(g a b d h i).1=true->∃N,E N a b d h i=some (g a b d h i).2)(A:∀N a b d h i,evalFn (cQ c m p t) j N 12 f [u.e a,v.e b,w.e d,x.e h,y.e i]=E N a b d h i:=by intros;kernel_rfl)(z:zfg f=true:=by kernel_rfl):vM f (rF5 u v w x y g):=hF5 B C D F j (λa b d h i _=>s a b d h i) A z
def rF6 {a b c d e f:Type}(h:Dc a)(i:Dc b)(j:Dc c)(k:Dc d)(l:Dc e)(m:Dc f)(g:a->b->c->d->e->f->Bool×List AV):Run:=eat h λn=>eat i λp=>eat j λq=>eat k λr=>eat l λs=>eat m λt=>stop (g n p q r s t)
theorem hF6 {k l n q r s:Type}{c:zbb}{m:zhA}{p:zcU}{t:zfL}(H:zS c)(I:zf0 m)(J:zb5 p)(K:zex t)(B:FuncId->Nat->Option Tmpl){u:Dc k}{v:Dc l}{w:Dc n}{x:Dc q}{y:Dc r}{z:Dc s}{g:k->l->n->q->r->s->Bool×List AV}{E:Nat->k->l->n->q->r->s->OA}{f:FuncId}(A:∀a b d h i j,zbL big [u.e a,v.e b,w.e d,x.e h,y.e i,z.e j]->(g a b d h i j).1=true->∃N,E N a b d h i j=some (g a b d h i j).2)(G:∀N a b d h i j,evalFn (cQ c m p t) B N 12 f [u.e a,v.e b,w.e d,x.e h,y.e i,z.e j]=E N a b d h i j:=by intros;kernel_rfl)(F:zfg f=true:=by kernel_rfl):vM f (rF6 u v w x y z g):=
 zn4 H I J K F (zdR λa=>zdR λb=>zdR λd=>zdR λh=>zdR λi=>zdR λj=>zlC (λC D=>A a b d h i j C D) λN=>G N a b d h i j)
theorem kF6 {l n q r s u:Type}{c:zbb}{m:zhA}{p:zcU}{t:zfL}(F:zS c)(G:zf0 m)(H:zb5 p)(I:zex t)(k:FuncId->Nat->Option Tmpl){w:Dc l}{x:Dc n}{y:Dc q}{z:Dc r}{A:Dc s}{B:Dc u}{g:l->n->q->r->s->u->Bool×List AV}{E:Nat->l->n->q->r->s->u->OA}{f:FuncId}(v:∀a b d h i j,(g a b d h i j).1=true->∃N,E N a b d h i j=some (g a b d h i j).2)(D:∀N a b d h i j,evalFn (cQ c m p t) k N 12 f [w.e a,x.e b,y.e d,z.e h,A.e i,B.e j]=E N a b d h i j:=by intros;kernel_rfl)(C:zfg f=true:=by kernel_rfl):vM f (rF6 w x y z A B g):=hF6 F G H I k (λa b d h i j _=>v a b d h i j) D C
theorem zjk {a:List AV}(h:∃(w:World) (b:Nat->Value) (K:Nat->zY),∀(j:Nat) (c:CV),(zD a)[j]?=some c->Rep false w (b j) c (K j)):zbL big a:=by obtain⟨w,b,K,h⟩:=h;intro c d;obtain⟨j,e⟩:=qU.1 d;exact CVB.of_rep (h j c e)
theorem cT {a:Type}(x y:a):(cond true x y)=x:=by simp
theorem cF {a:Type}(x y:a):(cond false x y)=y:=by simp
theorem zl6:big=140737488355328:=rfl
theorem ztU {x:Int}(a : -9223372036854775808<=x)(b:x<=9223372036854775807):IntKind.i64.wrap x=x:=by simp only[IntKind.wrap,IntKind.signed,IntKind.bits];simp;omega
theorem zmN {x y:Int}(a : -9223372036854775808<=x+y)(b:x+y<=9223372036854775807):zM .i64 x y=x+y:=ztU a b
theorem zq3 {x y:Int}(a : -9223372036854775808<=x-y)(b:x-y<=9223372036854775807):wsub .i64 x y=x-y:=ztU a b
theorem zbh {i n:Nat}(h:i<n)(a:n<=big):zM .i64 (i:Int) 1=((i+1:Nat):Int):=by rw[zl6]at a;rw[zmN (by omega) (by omega)];omega
section
variable {α:Type}
theorem zbG {l:List α}{i:Nat}(h:i<l.length):ilt (i:Int) (ln l)=true:=by unfold ilt ln;exact qI (by omega)
theorem zbt {l:List α}:ilt ((l.length:Nat):Int) (ln l)=false:=by unfold ilt ln;exact qK (by omega)
theorem zbi {l:List α}{i:Nat}(h:i<l.length):inb (i:Int) (ln l)=true:=by unfold inb ln;exact qI (by omega)
theorem zbp {l:List α}{i:Nat}(h:i<l.length)(d:α):ix l (i:Int) d=l[i]:=by unfold ix;simp[List.getD,qB h]
theorem zgu {l:List α}(h:l.length<=2147483648):few (ln l)=true:=by unfold few ln;exact qI (by omega)
theorem zeJ (x:Int):ieq x x=true:=by simp[ieq]
theorem zdz (x:Int):ine x x=false:=by simp[ine]
theorem zfB (x:Bool):znW x x=true:=by simp[znW]
end
theorem zd0 {a b:Type}(n:Nat)(F:(a->Option b)->a->Option b)(s:a):iter (n+1) F s=F (iter n F) s:=rfl
def goL {d c b:Type}(a:Nat->d->c->(c->Option b)->Option b)(K:c->Option b):List d->Nat->c->Option b
 |[],_,t=>K t
 |x::l,i,t=>a i x t (goL a K l<|i+1)
theorem zbm {q b d σ:Type}(l:List q)(g:Nat->b->σ)(F:(σ->Option d)->σ->Option d)(a:Nat->q->b->(b->Option d)->Option d)(K:b->Option d)(c:∀(i:Nat) (p:i<l.length) (t:b) (rec:σ->Option d),F rec (g i t)=a i l[i] t λk=>rec (g (i+1) k))(e:∀(t:b) (rec:σ->Option d),F rec (g l.length t)=K t) :
 ∀(N:Nat) (t:b),l.length<N->iter N F (g 0 t)=goL a K l 0 t:=by
 have j:∀(m i N:Nat) (t:b),l.length-i=m->i<=l.length->m<N->iter N F (g i t)=goL a K (l.drop i) i t:=by intro m;induction m with|zero=>intro i N t r p h;have:i=l.length:=(by omega);subst this;obtain⟨n,rfl⟩:∃n,N=n+1:=⟨N-1,by omega⟩;rw[zd0,e,List.drop_length];rfl|succ m s=>intro i N t r p h;obtain⟨n,rfl⟩:∃n,N=n+1:=⟨N-1,by omega⟩;have f:i<l.length:=(by omega);rw[zd0,c i f,kX f];simp only[goL];congr 1;funext k;exact s (i+1) n k (by omega) (by omega) (by omega)
 intro N t h;have:=j l.length 0 N t (by omega) (j3 _) h
 simpa using this
def goN {c b:Type}(a:Nat->c->(c->Option b)->Option b)(K:c->Option b):Nat->Nat->c->Option b
 | 0,_,t=>K t
 |n+1,i,t=>a i t (goN a K n<|i+1)
theorem zzC {b d σ:Type}(n:Nat)(g:Nat->b->σ)(F:(σ->Option d)->σ->Option d)(a:Nat->b->(b->Option d)->Option d)(K:b->Option d)(c:∀(i:Nat) (q:i<n) (t:b) (rec:σ->Option d),F rec (g i t)=a i t λp=>rec (g (i+1) p))(f:∀(t:b) (rec:σ->Option d),F rec (g n t)=K t) :
 ∀(N:Nat) (t:b),n<N->iter N F (g 0 t)=goN a K n 0 t:=by
 have l:∀(m i N:Nat) (t:b),n-i=m->i<=n->m<N->iter N F (g i t)=goN a K (n-i) i t:=by intro m;induction m with|zero=>intro i N t r q h;have:i=n:=(by omega);subst this;obtain⟨k,rfl⟩:∃k,N=k+1:=⟨N-1,by omega⟩;rw[zd0,f,k7];rfl|succ m s=>intro i N t r q h;obtain⟨k,rfl⟩:∃k,N=k+1:=⟨N-1,by omega⟩;have j:i<n:=(by omega);have e:n-i=(n-(i+1))+1:=(by omega);rw[zd0,c i j,e];simp only[goN];congr 1;funext p;exact s (i+1) k p (by omega) (by omega) (by omega)
 intro N t h;have:=l n 0 N t (by omega) (j3 _) h
 simpa using this
theorem zmc {b h:Type}(l:List b)(d:b)(F:(Int×List b×List b×Unit->Option h)->Int×List b×List b×Unit->Option h)(k:Option h)(p:l.length<=big)(a:∀(i:Nat) (j:i<l.length) rec,F rec ((i:Int),l,l,())=rec (zM .i64 (i:Int) 1,l,l,()))(c:∀rec,F rec ((l.length:Int),l,l,())=k){N:Nat}(f:l.length<N) :
 iter N F (0,l,l,())=k:=by
 have g:∀(m i N:Nat),l.length-i=m->i<=l.length->m<N->iter N F ((i:Int),l,l,())=k:=by intro m;induction m with|zero=>intro i N q j f;have:i=l.length:=(by omega);subst this;obtain⟨n,rfl⟩:∃n,N=n+1:=⟨N-1,by omega⟩;rw[zd0,c]|succ m r=>intro i N q j f;obtain⟨n,rfl⟩:∃n,N=n+1:=⟨N-1,by omega⟩;have e:i<l.length:=(by omega);rw[zd0,a i e,zbh e p];exact r (i+1) n (by omega) (by omega) (by omega)
 exact g l.length 0 N (by omega) (j3 _) f
def sm:Nat:=1048576
theorem zqD:pc True=true:=zbw trivial
theorem zdj {n:Nat}(h:n<=sm):n<=big/\n<=2147483648:=by unfold sm at h;rw[zl6];omega
def hasB (i n:Int):Bool:=decide (0<=i/\i<n)
theorem has_eq (i n:Int):(ige i 0&&ilt i n)=hasB i n:=by unfold ige ilt hasB;by_cases a:0<=i<;>by_cases b:i<n<;>simp [a,b]
theorem zC {i n:Int}(h:hasB i n=true):inb i n=true:=h
theorem zef {i:Int}{n:Nat}(h:hasB i n=true):∃k:Nat,i=k/\k<n:=by have:0<=i/\i<n:=qD h;exact⟨i.toNat,by omega,by omega⟩
theorem zbK {b:Type}{l:List b}{i:Int}(h:hasB i (ln l)=true)(d:b):ix l i d∈l:=by obtain⟨k,rfl,a⟩:=zef (n:=l.length) h;rw[zbp a];exact jK a
theorem zm2 {a:Type}(l:List a):ap [] l=l:=rfl
theorem zj5 {b m:Type}(c:b->Bool)(f:b->b)(K:List b->Option m):∀(l:List b) (i:Nat) (a:List b),(∀x∈l,c x=true/\f x=x)->a.length+l.length<=2147483648->
 goL (λ_ x a k=>bif c x then (cond (few<|ln<|ap a [f x]) (k<|ap a [f x]) none) else none) K l i a=K (a++l)
 |[],i,a,_,_=>by simp[goL]
 |x::l,i,a,h,g=>by obtain⟨d,e⟩:=h x (by simp);simp only[qZ]at g;simp only[goL,d,e,cT];rw[zgu (by simp[ap];omega),cT,zj5 c f K l (i+1) _ (λy j=>h y (by simp[j])) (by simp[ap];omega)];simp[ap]
def zdI (h:Host):Prop:=∀c∈zbl h,CVB sm c
theorem zdI.mem {h:Host}(a:zdI h):CVB sm (.s (.sl .int) h.Memory):=a _ (by simp[zbl])
theorem zdI.mons {h:Host}(a:zdI h):CVB sm (.s .mon h.Mons):=a _ (by simp[zbl])
theorem zoL {t:Ty}{l:List t.den}(h:CVB sm (.s t l)):few (ln l)=true:=zgu (zdj h.len).2
def zoB (p:Nat->Bool):Nat->Nat->Bool
 | 0,_=>true
 |n+1,i=>p i&&zoB p n (i+1)
theorem zEd {a:Type}(p:Nat->Bool)(r:Option a)(K:Unit->Option a):∀(n i:Nat),goN (λi (_:Unit) k=>bif p i then k () else r) K n i ()=bif zoB p n i then K () else r
 | 0,_=>rfl
 |n+1,i=>by simp only[goN,zoB];cases p i;{rfl};{simp only [cT,uZ];exact zEd p r K n (i+1)}
theorem zxJ {e a c:Type}(b:Nat->a->(a->Option c)->Option c)(K:a->Option c):∀(l:List e) (i:Nat) (t:a),goL (λi _ t k=>b i t k) K l i t=goN b K l.length i t
 |[],_,_=>rfl
 |_::l,i,t=>by have d:goL (λi _ t k=>b i t k) K l (i+1)=goN b K l.length (i+1):=funext λt=>zxJ b K l (i+1) t;simp only[goL,qZ,goN,d]
theorem zhc {a b:Type}(p:a->Bool)(r:Option b)(K:Unit->Option b):∀(l:List a) (i:Nat),goL (λ_ x (_:Unit) k=>bif p x then k () else r) K l i ()=bif l.all p then K () else r
 |[],_=>rfl
 |x::l,i=>by simp only[goL,kW];cases p x;{rfl};{simp only [cT,uZ];exact zhc p r K l (i+1)}
theorem zK4 {n:Nat}(c:n<=big)(i:Int):(ige i 0&&ile i (wsub .i64 (n:Int) 1))=hasB i n:=by rw[zl6]at c;rw[zq3 (by omega) (by omega)];unfold ige ile hasB;by_cases a:0<=i<;>by_cases b:i<n;{rw [qI (p:=i≥0) (by omega),qI (p:=i<=(n:Int)-1) (by omega),qI (p:=0<=i/\i<(n:Int)) ⟨a,b⟩];rfl};{rw [qK (p:=i<=(n:Int)-1) (by omega),qK (p:=0<=i/\i<(n:Int)) (by omega)];simp};{rw [qK (p:=i≥0) (by omega),qK (p:=0<=i/\i<(n:Int)) (by omega)];simp};{rw [qK (p:=i≥0) (by omega),qK (p:=0<=i/\i<(n:Int)) (by omega)];simp}
theorem zEe {j h c:Type}(n:Nat)(f:Nat->c->j)(F:(j->Option h)->j->Option h)(I:Nat->c->Prop)(a:Nat->c->Option h)(b:∀(i:Nat) (t:c) (rec:j->Option h),i<n->I i t->(∀g,I (i+1) g->rec (f (i+1) g)=a (i+1) g)->F rec (f i t)=a i t)(e:∀(t:c) (rec:j->Option h),I n t->F rec (f n t)=a n t):∀(N i:Nat) (t:c),I i t->i<=n->n-i<N->iter N F (f i t)=a i t:=by have r:∀(m N i:Nat) (t:c),n-i=m->I i t->i<=n->m<N->iter N F (f i t)=a i t:=(by intro m;induction m with|zero=>intro N i t s d q p;obtain⟨k,rfl⟩:∃k,N=k+1:=⟨N-1,by omega⟩;have:i=n:=(by omega);subst this;rw[zd0];exact e t _ d|succ m u=>intro N i t s d q p;obtain⟨k,rfl⟩:∃k,N=k+1:=⟨N-1,by omega⟩;rw[zd0];exact b i t _ (by omega) d λg l=>u k (i+1) g (by omega) l (by omega) (by omega));intro N i t d q p;exact r (n-i) N i t rfl d q p
section
variable {α:Type}
theorem zPf {l:List α}{i:Nat}(h:i<l.length)(d:α):up l (i:Int) (ix l (i:Int) d)=l:=by rw[zbp h];unfold up;apply k6;intro k;rw[q9];have e:(i:Int).toNat=i:=(by omega);rw[e];by_cases a:i=k;{subst a;simp[h]};{simp [a]}
theorem zel {l:List α}{i:Nat}(h:i<l.length)(x d:α):ix (up l (i:Int) x) (i:Int) d=x:=by unfold ix up;have e:(i:Int).toNat=i:=(by omega);rw[e];simp[List.getD,h]
theorem zwA (l:List α)(i:Int)(x y:α):up (up l i x) i y=up l i y:=by unfold up;simp
theorem zbaj {l:List α}{i k:Nat}(h:i<k)(x:α):(up l (i:Int) x)[k]?=l[k]?:=by unfold up;have e:(i:Int).toNat=i:=(by omega);rw[e,q9,if_neg (by omega)]
end
def Ends {b:Type}(G:b->Prop)(o:Option b):Prop:=∃a,o=some a/\G a
section
variable {ρ:Type} {G:ρ->Prop}
theorem zF {c:Bool}{a b:Option ρ}(h:c=true)(k:Ends G a):Ends G (cond c a b):=by rw[h];exact k
theorem zbE {c:Bool}{a b:Option ρ}(d:c=true->Ends G a)(e:c=false->Ends G b):Ends G (cond c a b):=by cases c;{exact e rfl};{exact d rfl}
theorem zmb {a:Type}{x:a}{f:a->Option ρ}(h:Ends G (f x)):Ends G (share x f):=h
theorem znY {x:Option ρ}{f:Option ρ->Option ρ}(h:Ends G x)(k:∀t,Ends G t->Ends G (f t)):Ends G (share x f):=k x h
theorem zuh {a:ρ}(h:G a):Ends G (some a):=⟨a,rfl,h⟩
theorem zjm {b:Type}{F:(b->Option ρ)->b->Option ρ}(I:Nat->b->Prop)(h:∀n s rec,I n s->(∀k a,k<n->I k a->Ends G (rec a))->Ends G (F rec s)):∀(N n:Nat) (s:b),I n s->n<N->Ends G (iter N F s)
 | 0,n,s,_,c=>absurd c (Nat.not_lt_zero n)
 |N+1,n,s,d,c=>h n s (iter N F) d λk a f e=>zjm I h N k a e (by omega)
theorem z8Q {G:Ans->Prop}{o:OA}{r:Ans}(h:Ends (λa=>a=r) o):o=some r:=by obtain⟨a,b,c⟩:=h;rw[b,c]
end
instance:Inhabited Cur:=⟨⟨[],0,0⟩⟩
def uC {T:Type}(ok:T->Prop):Bool:=pc (∃v,ok v)
def uV {T:Type}[Nonempty T](ok:T->Prop):T:=Classical.epsilon ok
theorem uG {T:Type}[Nonempty T]{ok:T->Prop}(h:uC ok=true):ok (uV ok):=Classical.epsilon_spec (zQ.1 h)
def wC {T:Type}(ok:Cur->T->Prop):Bool:=uC λr:Cur×T=>ok r.1 r.2
def wS {T:Type}[Nonempty T](ok:Cur->T->Prop):Cur:=bif wC ok then (uV λr:Cur×T=>ok r.1 r.2).1 else ⟨[],0,0⟩
def wV {T:Type}[Nonempty T](ok:Cur->T->Prop):T:=(uV λr:Cur×T=>ok r.1 r.2).2
theorem wG {T:Type}[Nonempty T]{ok:Cur->T->Prop}(h:wC ok=true):ok (wS ok) (wV ok):=by unfold wS wV;rw[h,cT];exact uG h
theorem wP {T:Type}[Nonempty T]{ok:Cur->T->Prop}(k:∀{s v},ok s v->0<=s.i):0<=(wS ok).i:=by cases h:wC ok with|false=>unfold wS;rw[h];exact kB 0|true=>exact k (wG h)
abbrev wE {T:Type}(e:T->AV)(b:List Int)(c:T->Prop):Ans->Prop:=λa=>∃s d,a=(AV.agg (zb1 s)::[e d])/\(s.b=b/\0<=s.i)/\c d
theorem wI {T:Type}{ok:Cur->T->Prop}{E:Nat->OA}{d:T->AV}{b:List Int}{c:T->Prop}(k:∀s v,((∃N,E N=some (AV.agg (zb1 s)::[d v]))/\(s.b=b/\0<=s.i)/\c v)->ok s v)(h:∃N,Ends (wE d b c)<|E N):wC ok=true:=by obtain⟨N,a,e,s,v,rfl,h⟩:=h;exact zbw ⟨(s,v),k s v ⟨⟨N,e⟩,h⟩⟩
abbrev zea:=List CV->List AV->Option (Bool×List CV×List AV)
abbrev zGQ:=List AV->Option (Bool×List CV×List AV)
def pR (k:Cur->zGQ):zea
 |[.s .u8 b,.i .i64 i,.i .i64 h],a=>k ⟨b,i,h⟩ a
 |_,_=>none
def zUI {b:Type}(D:Dc b)(k:b->zGQ):zGQ
 |[]=>none
 |a::l=>match D.d a with
  |some x=>k x l
  |none=>none
def zLE (r:Bool×Cur×List AV):zGQ
 |[]=>some (r.1,zb1 r.2.1,r.2.2)
 |_=>none
theorem z2M {k:Cur->zGQ}{b:List CV}{a:List AV}{r:Bool×List CV×List AV}(h:pR k b a=some r):∃c,b=zb1 c/\k c a=some r:=by unfold pR at h;split at h;{exact⟨_,rfl,h⟩};{cases h}
theorem zIj {c:Type}{D:Dc c}{k:c->zGQ}{b:List AV}{r:Bool×List CV×List AV}(h:zUI D k b=some r):∃x l,b=D.e x::l/\k x l=some r:=by unfold zUI at h;split at h;{cases h};{rename_i a l;split at h;{rename_i x d;exact⟨x,l,by rw[D.h d],h⟩};{cases h}}
theorem zvU {q:Bool×Cur×List AV}{b:Bool}{c:List CV}{d a:List AV}(h:zLE q a=some (b,c,d)):a=[]/\q.1=b/\c=zb1 q.2.1/\d=q.2.2:=by unfold zLE at h;split at h<;>cases h;exact⟨rfl,rfl,rfl,rfl⟩
section
variable {c:zbb} {m:zhA} {p:zcU} {t:zfL} (o1:zS c) (o2:zf0 m) (o3:zb5 p) (o4:zex t) (tms:FuncId->Nat->Option Tmpl) {f:FuncId}
include o1 o2 o3 o4
theorem hPx {k:Cur->zGQ}(j:zfg f=true)(h:∀x b a d,k x b=some (true,a,d)->a.length=3/\∃N,zoK (cQ c m p t) tms N 12 f [false,true,true] (zb1 x) b=some (.agg a::d)):zbV Tryz.prog f [false,true,true] (pR k):=by refine zh4 (zhb o1 o2 o3 o4) (zje j) ?_;intro l b a d n q e;obtain⟨x,rfl,e⟩:=z2M e;obtain⟨g,N,i⟩:=h x b a d e;exact⟨g,tms,N,12,i⟩
def rP0 (g:Cur->Bool×Cur×List AV):zea:=pR λc=>zLE (g c)
theorem hP0 {g:Cur->Bool×Cur×List AV}{E:Nat->Cur->OA}(a:∀x,(g x).1=true->∃N,E N x=some (.agg (zb1 (g x).2.1)::(g x).2.2))(k:∀N x,zoK (cQ c m p t) tms N 12 f [false,true,true] (zb1 x) []=E N x:=by intros;kernel_rfl)(j:zfg f=true:=by kernel_rfl):zbV Tryz.prog f [false,true,true] (rP0 g):=
 hPx o1 o2 o3 o4 tms j λx b d l e=>by obtain⟨rfl,i,rfl,rfl⟩:=zvU e;obtain⟨N,h⟩:=a x i;exact⟨rfl,N,(k N x).trans h⟩
def rP1 {A:Type}(D:Dc A)(g:Cur->A->Bool×Cur×List AV):zea:=pR λc=>zUI D λa=>zLE (g c a)
theorem hP1 {A:Type}{D:Dc A}{g:Cur->A->Bool×Cur×List AV}{E:Nat->Cur->A->OA}(b:∀x a,(g x a).1=true->∃N,E N x a=some (.agg (zb1 (g x a).2.1)::(g x a).2.2))(q:∀N x a,zoK (cQ c m p t) tms N 12 f [false,true,true] (zb1 x) [D.e a]=E N x a:=by intros;kernel_rfl)(n:zfg f=true:=by kernel_rfl):zbV Tryz.prog f [false,true,true] (rP1 D g):=
 hPx o1 o2 o3 o4 tms n λx d i r e=>by obtain⟨a,l,rfl,j⟩:=zIj e;obtain⟨rfl,k,rfl,rfl⟩:=zvU j;obtain⟨N,h⟩:=b x a k;exact⟨rfl,N,(q N x a).trans h⟩
def rP2 {A B:Type}(D:Dc A)(d:Dc B)(g:Cur->A->B->Bool×Cur×List AV):zea:=pR λc=>zUI D λa=>zUI d λb=>zLE (g c a b)
theorem hP2 {A B:Type}{D:Dc A}{i:Dc B}{g:Cur->A->B->Bool×Cur×List AV}{E:Nat->Cur->A->B->OA}(d:∀x a b,(g x a b).1=true->∃N,E N x a b=some (.agg (zb1 (g x a b).2.1)::(g x a b).2.2))(u:∀N x a b,zoK (cQ c m p t) tms N 12 f [false,true,true] (zb1 x) [D.e a,i.e b]=E N x a b:=by intros;kernel_rfl)(s:zfg f=true:=by kernel_rfl):zbV Tryz.prog f [false,true,true] (rP2 D i g):=
 hPx o1 o2 o3 o4 tms s λx j k w e=>by obtain⟨a,l,rfl,n⟩:=zIj e;obtain⟨b,v,rfl,q⟩:=zIj n;obtain⟨rfl,r,rfl,rfl⟩:=zvU q;obtain⟨N,h⟩:=d x a b r;exact⟨rfl,N,(u N x a b).trans h⟩
end
instance:Inhabited Ins:=⟨⟨0,0⟩⟩
instance:Inhabited GAct:=⟨⟨0,0,0,0,0,0⟩⟩
instance:Inhabited Ctl:=⟨⟨0,0,false⟩⟩
instance:Inhabited Host:=⟨⟨[],[],[],[]⟩⟩
def zbe (c:Cur):Prop:=0<=c.i/\c.b.length<=big
theorem zbO {T:Type}(d:T->AV){c:T->Prop}{b:List Int}{x y:Int}{v:T}(h:0<=x)(g:c v):Ends (λa=>∃s e,a=(AV.agg (zb1 s)::[d e])/\(s.b=b/\0<=s.i)/\c e) (some (AV.agg [.s .u8 b,.i .i64 x,.i .i64 y]::[d v])):=
 ⟨_,rfl,⟨b,x,y⟩,v,rfl,⟨rfl,h⟩,g⟩
def zwB (N:Nat)(c:Cur)  : OA :=
 let a:=zM .i64 (zk5 .i64 c.h 6364136223846793005) 1442695040888963407;let d:=wand .i64 (z5Z .i64 (zkx .i64 a 33)<|zkx .i64 a 45) 255; (oN (ile 0 33)<|oN (ile 0 45)<|cond (ilt c.i<|ln c.b) (oN (inb c.i<|ln c.b)<|some [.agg [.s .u8 c.b,.i .i64<|zM .i64 c.i 1,.i .i64 a],aI<|wand .i64 (zM .i64 d<|wcv .i64<|ix c.b c.i 0) 255])<|some [.agg [.s .u8 c.b,.i .i64 c.i,.i .i64 a],aI d])
def zpN (c:Cur)(s:Cur)(a:Int):Prop:=(∃N,zwB N c=some (AV.agg (zb1 s)::[aI a]))/\(s.b=c.b/\0<=s.i)/\(0<=a/\a<=255)
def zeV (c:Cur)  : Bool:=wC (zpN c)
def zdv (c:Cur)  : Cur:=wS (zpN c)
def zg6 (c:Cur)  : Int:=wV (zpN c)
theorem znr {c:Cur}(h:zeV c=true):zpN c (zdv c) (zg6 c):=wG h
theorem zns (c:Cur)  : 0<=(zdv c).i:=wP λh=>h.2.1.2
theorem zXd (c:Cur)(h:∃N,Ends (wE (λa=>aI a) c.b λa=>0<=a/\a<=255)<|zwB N c):zeV c=true:=wI (λ_ _ h=>h) h
def zx9:zea:=rP0 λc=>(zeV c,zdv c,[aI<|zg6 c])
theorem zKE:zbV Tryz.prog 252 [false,true,true] zx9:=hP0 zee zZ zy zq (zx []) (λ_ h=>(znr h).1)
theorem zQI {x m:Int}(c:0<=m)(d:m<9223372036854775808):0<=wand .i64 x m/\wand .i64 x m<=m:=by have b:(BitVec.ofInt 64 m).toNat=m.toNat:=(by rw[BitVec.toNat_ofInt];omega);have a:(BitVec.ofInt 64 x &&& BitVec.ofInt 64 m).toNat<=m.toNat:=(by rw[BitVec.toNat_and,b];exact Nat.and_le_right);unfold wand;show 0<=IntKind.wrap .i64 ((BitVec.ofInt 64 x &&& BitVec.ofInt 64 m).toNat:Int)/\IntKind.wrap .i64 ((BitVec.ofInt 64 x &&& BitVec.ofInt 64 m).toNat:Int)<=m;rw[ztU (by omega) (by omega)];omega
@[simp] theorem zJK {c:Cur}(h:zbe c):zeV c=true:=by
 refine zXd c ⟨0,?_⟩;unfold zwB oN;conv=>zeta
 refine zF rfl (zF rfl (zbE (λa=>zF (qI ⟨h.1,qD a⟩) (zbO aI ?_<|zQI (by omega) (by omega))) λ_=>zbO aI h.1 (zQI (by omega) (by omega))));have d:c.i<ln c.b:=qD a;have e:=h.2;have f:=h.1;rw[zl6]at e;unfold ln at d;rw[zmN (by omega) (by omega)];omega
def z7w:zcU:=[(252,[false,true,true],zx9)]++zIl
theorem zUK:zb5 z7w:=zcp zy (by
 intro x a;simp only[qG,qN,or_false]at a;rcases a with rfl
 .exact zKE)
theorem zHa {b:List Int}{i h:Int}(a:0<=i)(c:b.length<=big):zbe ⟨b,i,h⟩:=⟨a,c⟩
theorem zPl {x n:Int}(a:0<=x)(b:0<n):0<=zmY x n/\zmY x n<n:=by unfold zmY;exact⟨Int.tmod_nonneg _ a,Int.tmod_lt_of_pos _ b⟩
def ztX (N:Nat)(c:Cur)(a:Int):OA:=
 let f:=({ (zdv c) with b:=c.b}:Cur);let e:=({ (zdv f) with b:=c.b}:Cur);let d:=({ (zdv e) with b:=c.b}:Cur); (cond (ile a 0) (some [.agg [.s .u8 c.b,.i .i64 c.i,.i .i64 c.h],aI 0])<|cond (ile a 256) (oN (zeV c)<|oN (ine a 0)<|some [.agg [.s .u8 c.b,.i .i64 (zdv c).i,.i .i64 (zdv c).h],aI<|zmY (zg6 c) a])<|oN (zeV c)<|oN (zeV f)<|oN (zeV e)<|oN (zeV d)<|oN (ine a 0)<|some [.agg [.s .u8 c.b,.i .i64 (zdv d).i,.i .i64 (zdv d).h],aI<|zmY (zM .i64 (zM .i64 (zM .i64 (zk5 .i64 (zg6 c) 16777216)<|zk5 .i64 (zg6 f) 65536)<|zk5 .i64 (zg6 e) 256)<|zg6 d) a])
def znM (c:Cur)(a:Int)(s:Cur)(d:Int):Prop:=(∃N,ztX N c a=some (AV.agg (zb1 s)::[aI d]))/\(s.b=c.b/\0<=s.i)/\(0<a->0<=d/\d<a)
def zB (c:Cur)(a:Int):Bool:=wC (znM c a)
def zf (c:Cur)(a:Int):Cur:=wS (znM c a)
def zn (c:Cur)(a:Int):Int:=wV (znM c a)
theorem zij {c:Cur}{a:Int}(h:zB c a=true):znM c a (zf c a) (zn c a):=wG h
theorem zG (c:Cur)(a0:Int):0<=(zf c a0).i:=wP λh=>h.2.1.2
theorem zVb (c:Cur)(a:Int)(h:∃N,Ends (wE (λd=>aI d) c.b λd=>0<a->0<=d/\d<a)<|ztX N c a):zB c a=true:=wI (λ_ _ h=>h) h
def zvW:zea:=rP1 dI λc b=>(zB c b,zf c b,[aI<|zn c b])
theorem zuv:zbV Tryz.prog 106 [false,true,true] zvW:=hP1 zee zZ zUK zq (zx []) (λ_ _ h=>(zij h).1)
theorem zbz {c:Cur}(h:zbe c)(n:Int):zB c n=true:=by
 refine zVb c n ⟨0,?_⟩;have f:=zJK h;have k:zeV {zdv c with b:=c.b}=true:=zJK (zHa (zns _) h.2);have l:zeV {zdv {zdv c with b:=c.b} with b:=c.b}=true:=zJK (zHa (zns _) h.2);have m:zeV {zdv {zdv {zdv c with b:=c.b} with b:=c.b} with b:=c.b}=true:=zJK (zHa (zns _) h.2);have i:=(znr f).2.2;have q:=(znr k).2.2;have r:=(znr l).2.2;have s:=(znr m).2.2;unfold ztX oN;conv=>zeta
 refine zbE (λd=>zbO aI h.1 λu=>absurd (qD d) (by omega)) (λd=>?_);have u:¬ n<=0:=jR d;have j:ine n 0=true:=(by simp[ine];omega);refine zbE (λt=>zF f (zF j<|zbO aI (zns _) λe=>zPl i.1 e)) (λt=>?_);refine zF f (zF k<|zF l<|zF m<|zF j<|zbO aI (zns _) λe=>zPl ?_ e);generalize zg6 c=a at i;generalize zg6 _=g at q;generalize zg6 _=p at r;generalize zg6 _=z at s;have v:zk5 .i64 a 16777216=a*16777216:=ztU (by omega) (by omega);have w:zk5 .i64 g 65536=g*65536:=ztU (by omega) (by omega);have y:zk5 .i64 p 256=p*256:=ztU (by omega) (by omega);rw[v,w,y,zmN (x:=a*16777216) (by omega) (by omega),zmN (x:=a*16777216+g*65536) (by omega) (by omega),zmN (by omega) (by omega)];omega
def z7x:zcU:=[(106,[false,true,true],zvW)]++z7w
theorem zIm:zb5 z7x:=zcp zUK (by
 intro x a;simp only[qG,qN,or_false]at a;rcases a with rfl
 .exact zuv)
def zwC (N:Nat)(c:Cur)(a:Int):OA:=
 (oN (zB c a)<|some [.agg [.s .u8 c.b,.i .i64 (zf c a).i,.i .i64 (zf c a).h],aB<|ieq (zn c a) 0])
def zpO (c:Cur)(a:Int)(s:Cur)(d:Bool):Prop:=(∃N,zwC N c a=some (AV.agg (zb1 s)::[aB d]))/\(s.b=c.b/\0<=s.i)/\(True)
def zc7 (c:Cur)(a:Int):Bool:=wC (zpO c a)
def zT (c:Cur)(a:Int):Cur:=wS (zpO c a)
def zdh (c:Cur)(a:Int):Bool:=wV (zpO c a)
theorem zXe {c:Cur}{a:Int}(h:zc7 c a=true):zpO c a (zT c a) (zdh c a):=wG h
theorem zcr (c:Cur)(a:Int):0<=(zT c a).i:=wP λh=>h.2.1.2
theorem zXf (c:Cur)(a:Int)(h:∃N,Ends (wE (λd=>aB d) c.b λd=>True)<|zwC N c a):zc7 c a=true:=wI (λ_ _ h=>h) h
def zya:zea:=rP1 dI λc b=>(zc7 c b,zT c b,[aB<|zdh c b])
theorem zKF:zbV Tryz.prog 116 [false,true,true] zya:=hP1 zee zZ zIm zq (zx []) (λ_ _ h=>(zXe h).1)
theorem zjF {c:Cur}(h:zbe c)(n:Int):zc7 c n=true:=by refine zXf c n ⟨0,?_⟩;unfold zwC oN;exact zF (zbz h _) (zbO aB (zG _ _) trivial)
def zqj (N:Nat)(c:Cur)(a:List Int):OA:=
 (oN (zB c<|ln a)<|oN (inb (zn c<|ln a)<|ln a)<|some [.agg [.s .u8 c.b,.i .i64 (zf c<|ln a).i,.i .i64 (zf c<|ln a).h],aI<|ix a (zn c<|ln a) 0])
def zle (c:Cur)(a:List Int)(s:Cur)(d:Int):Prop:=(∃N,zqj N c a=some (AV.agg (zb1 s)::[aI d]))/\(s.b=c.b/\0<=s.i)/\(0<a.length->d∈a)
def zbr (c:Cur)(a:List Int):Bool:=wC (zle c a)
def zX (c:Cur)(a:List Int):Cur:=wS (zle c a)
def zbn (c:Cur)(a:List Int):Int:=wV (zle c a)
theorem zyE {c:Cur}{a:List Int}(h:zbr c a=true):zle c a (zX c a) (zbn c a):=wG h
theorem zb3 (c:Cur)(a0:List Int):0<=(zX c a0).i:=wP λh=>h.2.1.2
theorem zOR (c:Cur)(a:List Int)(h:∃N,Ends (wE (λd=>aI d) c.b λd=>0<a.length->d∈a)<|zqj N c a):zbr c a=true:=wI (λ_ _ h=>h) h
def zs9:zea:=rP1 (dS .int) λc b=>(zbr c b,zX c b,[aI<|zbn c b])
theorem zr9:zbV Tryz.prog 144 [false,true,true] zs9:=hP1 zee zZ zIm zq (zx []) (λ_ _ h=>(zyE h).1)
theorem zfh {c:Cur}(h:zbe c){l:List Int}(b:l≠[]):zbr c l=true:=by refine zOR c l ⟨0,?_⟩;have d:0<ln l:=(by unfold ln;have:=kS.2 b;omega);have g:=(zij<|zbz h<|ln l).2.2 d;have a:inb (zn c<|ln l) (ln l)=true:=qI ⟨g.1,g.2⟩;unfold zqj oN;exact zF (zbz h _) (zF a<|zbO aI (zG _ _) λ_=>zbK a 0)
def z7y:zcU:=[(116,[false,true,true],zya),(144,[false,true,true],zs9)]++z7x
theorem zUL:zb5 z7y:=zcp zIm (by
 intro x a;simp only[qG,qN,or_false]at a;rcases a with rfl|rfl
 .exact zKF
 .exact zr9)
def z9W:zbb:=zML
theorem z8s:zS z9W:=zee
def z9X:zbb:=z9W
theorem z8t:zS z9X:=z8s
def z9Y:zbb:=z9X
theorem z8u:zS z9Y:=z8t
def z9Z:zbb:=z9Y
theorem z8v:zS z9Z:=z8u
def z90:zbb:=z9Z
theorem z8w:zS z90:=z8v
def z92:zbb:=z90
theorem z8x:zS z92:=z8w
def z94:zbb:=z92
theorem z8y:zS z94:=z8x
def z6d:zbb:=z94
theorem z3W:zS z6d:=z8y
def z6e:zbb:=z6d
theorem z3X:zS z6e:=z3W
def z6f:zbb:=z6e
theorem z3Y:zS z6f:=z3X
def z6g:zbb:=z6f
theorem z3Z:zS z6g:=z3Y
def z6h:zbb:=z6g
theorem z4a:zS z6h:=z3Z
def z6i:zbb:=z6h
theorem z4b:zS z6i:=z4a
def z6j:zbb:=z6i
theorem z4c:zS z6j:=z4b
def z6k:zbb:=z6j
theorem z4d:zS z6k:=z4c
def z6l:zbb:=z6k
theorem z4e:zS z6l:=z4d
def z6m:zbb:=z6l
theorem z4f:zS z6m:=z4e
def z6n:zbb:=z6m
theorem z4g:zS z6n:=z4f
def z6o:zbb:=z6n
theorem z4h:zS z6o:=z4g
def z6p:zbb:=z6o
theorem z4i:zS z6p:=z4h
def ctrX:zbb:=z6p
theorem ztI:∀f a,zo ctrX f=some a->Holds Tryz.prog f a:=z4i
def zO (_ _ _:Int):Bool:=true
def zk (x a b:Int):Bool:=ige x a&&ile x b
def zrt:Run:=rF3 dI dI dI λb c d=>(zO b c d,[aB<|zk b c d])
def zPD (N:Nat)(a b c:Int):OA:=
 (cond (ige a b) (some [aB<|ile a c]) oF)
theorem zGh (a b c:Int)(d:zbL big [aI a,aI b,aI c])(e:zO a b c=true):∃N,zPD N a b c=some [aB<|zk a b c]:=by refine⟨0,?_⟩;unfold zPD zk;cases ige a b<;>rfl
theorem zQ8:vM 72 zrt:=hF3 ztI zZ zy zq (zx []) zGh
def zbA (_ _:Int):Bool:=true
abbrev zdo (i n:Int):Bool:=hasB i n
def zQy:Run:=rF2 dI dI λb c=>(zbA b c,[aB<|zdo b c])
def zXL (N:Nat)(a b:Int):OA:=
 (cond (ige a 0) (some [aB<|ilt a b]) oF)
theorem z2o (a b:Int)(c:zbA a b=true):∃N,zXL N a b=some [aB<|zdo a b]:=by refine⟨0,?_⟩;unfold zXL zdo;rw[<- has_eq];cases ige a 0<;>rfl
theorem zWI:vM 90 zQy:=kF2 ztI zZ zy zq (zx []) z2o
theorem zQd {n:Nat}(c:n<=big)(i:Int):zk i 0 (wsub .i64 (n:Int) 1)=hasB i n:=by rw[zl6]at c;rw[zq3 (by omega) (by omega)];unfold zk ige ile hasB;by_cases a:0<=i<;>by_cases b:i<n;{rw [qI (p:=i≥0) (by omega),qI (p:=i<=(n:Int)-1) (by omega),qI (p:=0<=i/\i<(n:Int)) ⟨a,b⟩];rfl};{rw [qK (p:=i<=(n:Int)-1) (by omega),qK (p:=0<=i/\i<(n:Int)) (by omega)];simp};{rw [qK (p:=i≥0) (by omega),qK (p:=0<=i/\i<(n:Int)) (by omega)];simp};{rw [qK (p:=i≥0) (by omega),qK (p:=0<=i/\i<(n:Int)) (by omega)];simp}
def zgP (l:List (List Int)):Bool:=pc (CVB sm<|.s (.sl .int) l)
abbrev zfc (l:List (List Int)):List (List Int):=l
def zA3:Run:=rF1 (dS<|.sl .int) λb=>(zgP b,[aS (.sl .int)<|zfc b])
def zFS (N:Nat)(c:lM):OA:=
 (iter (σ:=(Int×lM×lM×Unit)) N (λd a=>let b:=ap []<|ix a.2.1 a.1 []; (cond (ilt a.1<|ln a.2.1) (oN (inb a.1<|ln a.2.1)<|oN (few<|ln b)<|oN (few<|ln<|ap a.2.2.1 [b])<|d (zM .i64 a.1 1,a.2.1,ap a.2.2.1 [b],()))<|some [aS (.sl .int) a.2.2.1])) (0,c,[],()))
def zSa:=zx [(196,0,{n:=22,tm:=[(0,.sl 0 []),(3,.sl 1 []),(4,ti)],lo:=[],ro:=[(0,.sl .int,false),(1,.sl .int,true)]})]
theorem zRJ (b:List (List Int))(f:zgP b=true):∃N,zFS N b=some [aS (.sl .int)<|zfc b]:=by
 have e:=zQ.1 f;have d:=zdj e.len;refine⟨b.length+1,?_⟩;unfold zFS oN;conv=>zeta
 refine(zbm b (λi a=>((i:Int),b,a,())) _ (λ_ x a k=>bif few (ln x) then (cond (few<|ln<|ap a [x]) (k<|ap a [x]) none) else none) (λa=>some [AV.one<|.s (.sl .int) a])
  (λi c t rec=>?_) (λt rec=>?_) _ [] (jZ _)).trans (zj5 (λx=>few (ln x)) (λx=>x) _ b 0 [] (λx g=>⟨zgu (zdj (e.inv.2 x g _ (qF.2 rfl)).len).2,rfl⟩) (by simpa using d.2))
 {simp only [zbG c,zbi c,zbp c,cT,zbh c d.1,zm2]};{simp only [zbt,cF]}
theorem zKH:vM 196 zA3:=kF1 ztI zZ zy zq zSa zRJ
abbrev zgQ (k:Kept):Bool:=pc (∀c∈Ty.cells .kept k,CVB sm c)
abbrev zd1 (k:Kept):Kept:=k
def zA4:Run:=rF1 (dT .kept) λb=>(zgQ b,[aT .kept<|zd1 b])
def zFT (N:Nat)(a:Kept):OA:=
 (oN (few<|ln<|ap [] a.Known)<|oN (few<|ln<|ap [] a.Slots)<|some [.agg [.s .bool<|ap [] a.Known,.s .slot<|ap [] a.Slots]])
theorem zRK (a:Kept)(d:zgQ a=true):∃N,zFT N a=some [aT .kept<|zd1 a]:=by have h:=zQ.1 d;have b:=zoL (h (.s .bool a.Known) (by simp[Ty.cells]));have c:=zoL (h (.s .slot a.Slots) (by simp[Ty.cells]));refine⟨0,?_⟩;simp only[zFT,zm2,b,c,cT];rfl
theorem zKJ:vM 333 zA4:=kF1 ztI zZ zy zq (zx []) zRK
def zdT (g:Guest):Bool:=pc (∀c∈Ty.cells .guest g,CVB sm c)
abbrev zdi (g:Guest):Guest:=g
def zA5:Run:=rF1 (dT .guest) λb=>(zdT b,[aT .guest<|zdi b])
def zFU (N:Nat)(a:Guest):OA:=
 (oN (few<|ln<|ap [] a.Prog)<|oN (few<|ln<|ap [] a.Written)<|oN (few<|ln<|ap [] a.Live)<|oN (few<|ln<|ap [] a.Seen)<|some [.agg [.s .ins<|ap [] a.Prog,.i .i64 a.A,.i .i64 a.Pc,.s .slot<|ap [] a.Written,.s .slot<|ap [] a.Live,.i .i64 a.Ctl.Traps,.i .i64 a.Ctl.Post,.b a.Ctl.Open,.i .i64 a.Pending,.i .i64 a.Exit.Kind,.i .i64 a.Exit.Page,.b a.Exit.Write,.i .i64 a.Exit.N,.b a.Halted,.s .int<|ap [] a.Seen]])
theorem zRL (a:Guest)(f:zdT a=true):∃N,zFU N a=some [aT .guest<|zdi a]:=by have h:=zQ.1 f;have b:=zoL (h (.s .ins a.Prog) (by simp[Ty.cells]));have c:=zoL (h (.s .slot a.Written) (by simp[Ty.cells]));have d:=zoL (h (.s .slot a.Live) (by simp[Ty.cells]));have e:=zoL (h (.s .int a.Seen) (by simp[Ty.cells]));refine⟨0,?_⟩;simp only[zFU,zm2,b,c,d,e,cT];rfl
theorem zKN:vM 340 zA5:=kF1 ztI zZ zy zq (zx []) zRL
def z6q:zbb:=[(72,zrt),(90,zQy),(196,zA3),(333,zA4),(340,zA5)]++ctrX
theorem zS0:zS z6q:=zi zQ8 (zi zWI<|zi zKH<|zi zKJ<|zi zKN ztI)
def zgr (l:List Guest):Bool:=pc (CVB sm<|.s .guest l)
abbrev zgS (l:List Guest):List Guest:=l
def zwg:Run:=rF1 (dS .guest) λb=>(zgr b,[aS .guest<|zgS b])
def zAw (N:Nat)(c:lG):OA:=
 (iter (σ:=(Int×lG×lG×Unit)) N (λd a=>let b:=ix a.2.1 a.1 zu; (cond (ilt a.1<|ln a.2.1) (oN (inb a.1<|ln a.2.1)<|oN (zdT b)<|oN (few<|ln<|ap a.2.2.1 [zdi b])<|d (zM .i64 a.1 1,a.2.1,ap a.2.2.1 [zdi b],()))<|some [aS .guest a.2.2.1])) (0,c,[],()))
def zMA:=zx [(332,0,{n:=21,tm:=[(0,.sl 0 []),(3,.sl 1 []),(4,ti)],lo:=[],ro:=[(0,.guest,false),(1,.guest,true)]})]
theorem zLt (b:List Guest)(f:zgr b=true):∃N,zAw N b=some [aS .guest<|zgS b]:=by
 have e:=zQ.1 f;have d:=zdj e.len;refine⟨b.length+1,?_⟩;unfold zAw oN;conv=>zeta
 refine(zbm b (λi a=>((i:Int),b,a,())) _ (λ_ x a k=>bif zdT x then (cond (few<|ln<|ap a [zdi x]) (k<|ap a [zdi x]) none) else none) (λa=>some [AV.one<|.s .guest a])
  (λi c t rec=>?_) (λt rec=>?_) _ [] (jZ _)).trans (zj5 zdT zdi _ b 0 [] (λx g=>⟨zbw<|e.inv.2 x g,rfl⟩) (by simpa using d.2))
 {simp only [zbG c,zbi c,zbp c,cT,zbh c d.1]};{simp only [zbt,cF]}
theorem zEX:vM 332 zwg:=kF1 zS0 zZ zy zq zMA zLt
def z6r:zbb:=[(332,zwg)]++z6q
theorem zS1:zS z6r:=zi zEX zS0
abbrev zp9 (m:Mon):Bool:=pc (∀c∈Ty.cells .mon m,CVB sm c)
abbrev zqU (m:Mon):Mon:=m
def zDy:Run:=rF1 (dT .mon) λb=>(zp9 b,[aT .mon<|zqU b])
def zJv (N:Nat)(b:Mon):OA:=
 (oN (few<|ln<|ap [] b.Outer)<|oN (zgP b.Out)<|oN (few<|ln<|ap [] b.Dirty)<|oN (zgr b.Guests)<|oN (few<|ln<|ap [] b.Outs)<|iter (σ:=(Int×Int×Int×Int×Int×Int×Int×lK×lS×lM×lB×lG×(List Int)×lK×lS×lM×lB×lG×(List Int)×lK×Unit)) N (λf a=>let e:=a.2.2.2.2.2.2.2.2.2.2.2.2.1;let c:=a.2.2.2.2.2.2.2.2.2.2.2.2.2.1;let d:=ap a.2.2.2.2.2.2.2.1 [zd1<|ix c a.1 zeC]; (cond (ilt a.1<|ln c) (oN (inb a.1<|ln c)<|oN (zgQ<|ix c a.1 zeC)<|oN (few<|ln d)<|f (zM .i64 a.1 1,a.2.1,a.2.2.1,a.2.2.2.1,a.2.2.2.2.1,a.2.2.2.2.2.1,a.2.2.2.2.2.2.1,d,a.2.2.2.2.2.2.2.2.1,a.2.2.2.2.2.2.2.2.2.1,a.2.2.2.2.2.2.2.2.2.2.1,a.2.2.2.2.2.2.2.2.2.2.2.1,e,c,a.2.2.2.2.2.2.2.2.2.2.2.2.2.2.1,a.2.2.2.2.2.2.2.2.2.2.2.2.2.2.2.1,a.2.2.2.2.2.2.2.2.2.2.2.2.2.2.2.2.1,a.2.2.2.2.2.2.2.2.2.2.2.2.2.2.2.2.2.1,a.2.2.2.2.2.2.2.2.2.2.2.2.2.2.2.2.2.2.1,a.2.2.2.2.2.2.2.2.2.2.2.2.2.2.2.2.2.2.2.1,()))<|some [.agg [.s .slot a.2.2.2.2.2.2.2.2.1,.s (.sl .int) a.2.2.2.2.2.2.2.2.2.1,.s .bool a.2.2.2.2.2.2.2.2.2.2.1,.s .guest a.2.2.2.2.2.2.2.2.2.2.2.1,.s .int e,.i .i64 a.2.1,.i .i64 a.2.2.1,.s .kept a.2.2.2.2.2.2.2.1,.i .i64 a.2.2.2.1]])) (0,b.Pending,b.Traps,b.Own,0,0,0,[],ap [] b.Outer,zfc b.Out,ap [] b.Dirty,zgS b.Guests,ap [] b.Outs,b.Tables,[],[],[],[],[],[],()))
def zWa:=zx [(197,0,{n:=48,tm:=[(1,.lp 0 0),(2,.lp 1 0),(3,.sl 0 []),(4,ti)],lo:=[(0,[.sl 1 [],.sl 2 [],.sl 3 [],.sl 4 [],.sl 5 [],ti,ti,.sl 6 [],ti]),(1,[.sl 7 [],.sl 8 [],.sl 9 [],.sl 10 [],.sl 11 [],ti,ti,.sl 12 [],ti])],ro:=[(0,.kept,true),(1,.slot,true),(2,.sl .int,true),(3,.bool,true),(4,.guest,true),(5,.int,true),(6,.kept,false),(7,.slot,true),(8,.sl .int,true),(9,.bool,true),(10,.guest,true),(11,.int,true),(12,.kept,true)]})]
theorem zUr (a:Mon)(n:zp9 a=true):∃N,zJv N a=some [aT .mon<|zqU a]:=by
 have h:=zQ.1 n;have f:=zoL (h (.s .slot a.Outer) (by simp[Ty.cells]));have g:zgP a.Out=true:=zbw (h (.s (.sl .int) a.Out) (by simp[Ty.cells]));have j:=zoL (h (.s .bool a.Dirty) (by simp[Ty.cells]));have l:zgr a.Guests=true:=zbw (h (.s .guest a.Guests) (by simp[Ty.cells]));have m:=zoL (h (.s .int a.Outs) (by simp[Ty.cells]));have d:CVB sm (.s .kept a.Tables):=h (.s .kept a.Tables) (by simp[Ty.cells]);have e:=zdj d.len;refine⟨a.Tables.length+1,?_⟩;unfold zJv oN;conv=>zeta
 simp only[zm2,f,g,j,l,m,cT];refine(zbm a.Tables (λi b=>((i:Int),a.Pending,a.Traps,a.Own,0,0,0,b,a.Outer,zfc a.Out,a.Dirty,zgS a.Guests,a.Outs,a.Tables,[],[],[],[],[],[],())) _
  (λ_ x b k=>bif zgQ x then (cond (few<|ln<|ap b [zd1 x]) (k<|ap b [zd1 x]) none) else none) (λb=>some [AV.agg<|Ty.cells .mon ⟨a.Outer,a.Out,a.Dirty,a.Guests,a.Outs,a.Pending,a.Traps,b,a.Own⟩])
  (λi c t rec=>?_) (λt rec=>?_) _ [] (jZ _)).trans (zj5 zgQ zd1 _ a.Tables 0 [] (λx p=>⟨zbw<|d.inv.2 x p,rfl⟩) (by simpa using e.2))
 {simp only [zbG c,zbi c,zbp c,cT,zbh c e.1]};{simp only [zbt,cF];rfl}
theorem zNX:vM 197 zDy:=kF1 zS1 zZ zy zq zWa zUr
def z6s:zbb:=[(197,zDy)]++z6r
theorem z4j:zS z6s:=zi zNX zS1
def z6t:zbb:=z6s
theorem z4k:zS z6t:=z4j
def z6u:zbb:=z6t
theorem z4l:zS z6u:=z4k
def ctrY:zbb:=z6u
theorem ztJ:∀f a,zo ctrY f=some a->Holds Tryz.prog f a:=z4l
def noSlot:Slot:=⟨-1,0⟩
def zbP:Bool:=true
abbrev zbf:Slot:=noSlot
def zlF:Run:=rF0 (zbP,[aT .slot zbf])
def zYQ (N:Nat)  : OA :=
 (some [.agg [.i .i64<|-1,.i .i64 0]])
theorem zC4  (a:zbL big []) (b:zbP=true):∃N,zYQ N  = some [aT .slot zbf]:=by exact⟨0,rfl⟩
theorem zxP:vM 258 zlF:=hF0 ztJ zZ zy zq (zx []) zC4
theorem zNb:vM 266 zlF:=hF0 ztJ zZ zy zq (zx []) zC4
theorem zNr:vM 51 zrt:=hF3 ztJ zZ zy zq (zx []) zGh
def z6v:zbb:=[(258,zlF),(266,zlF),(51,zrt)]++ctrY
theorem zGY:zS z6v:=zi zxP (zi zNb<|zi zNr ztJ)
def zdS (r:Int):Bool:=ige r 0&&ile r 3
def zjM (_:Int):Bool:=true
abbrev zgN (r:Int):Bool:=zdS r
def zmu:Run:=rF1 dI λb=>(zjM b,[aB<|zgN b])
def zSE (N:Nat)(a:Int):OA:=
 (oN (zO a 0 3)<|some [aB<|zk a 0 3])
theorem zxZ (a:Int)(b:zbL big [aI a])(c:zjM a=true):∃N,zSE N a=some [aB<|zgN a]:=by exact⟨0,rfl⟩
theorem zHL:vM 362 zmu:=hF1 zGY zZ zy zq (zx []) zxZ
theorem zHo:vM 367 zmu:=hF1 zGY zZ zy zq (zx []) zxZ
def z6w:zbb:=[(362,zmu),(367,zmu)]++z6v
theorem znX:zS z6w:=zi zHL (zi zHo zGY)
def zey (a b:Int):Int:=bif zdS a then (cond (zdS b) (wand .i64 a b) 0) else 0
abbrev zg4 (a b:Int):Int:=zey a b
def zki:Run:=rF2 dI dI λb c=>(zbA b c,[aI<|zg4 b c])
def zxx (N:Nat)(a b:Int):OA:=
 (oN (zjM a)<|cond (nB<|zgN a) (some [aI 0])<|oN (zjM b)<|cond (nB<|zgN b) (some [aI 0])<|some [aI<|wand .i64 a b])
theorem zuA (a b:Int)(c:zbL big [aI a,aI b])(d:zbA a b=true):∃N,zxx N a b=some [aI<|zg4 a b]:=by refine⟨0,?_⟩;unfold zxx zg4 zey zgN oN nB;cases zdS a<;>cases zdS b<;>rfl
theorem zCK:vM 269 zki:=hF2 znX zZ zy zq (zx []) zuA
theorem zCE:vM 267 zki:=hF2 znX zZ zy zq (zx []) zuA
def enough (a b:Int):Bool:=bif zdS a then (cond (zdS b) (ieq (wand .i64 a b) b) false) else false
abbrev zcY (a b:Int):Bool:=enough a b
def zpd:Run:=rF2 dI dI λb c=>(zbA b c,[aB<|zcY b c])
def zJa (N:Nat)(b a:Int):OA:=
 (oN (zjM b)<|cond (zgN b) (oN (zjM a)<|cond (zgN a) (some [aB<|ieq (wand .i64 b a) a]) oF) oF)
theorem zC1 (a b:Int)(c:zbL big [aI a,aI b])(d:zbA a b=true):∃N,zJa N a b=some [aB<|zcY a b]:=by refine⟨0,?_⟩;unfold zJa zcY enough zgN oN;cases zdS a<;>cases zdS b<;>rfl
theorem zNu:vM 259 zpd:=hF2 znX zZ zy zq (zx []) zC1
theorem zM3:vM 268 zpd:=hF2 znX zZ zy zq (zx []) zC1
def zbH (t:List Slot)(p:Int):Slot:=bif hasB p (ln t) then ix t p zW else noSlot
def zhG (_:List Slot)(_:Int):Bool:=true
abbrev zfy (t:List Slot)(p:Int):Slot:=zbH t p
def zpn:Run:=rF2 (dS .slot) dI λb c=>(zhG b c,[aT .slot<|zfy b c])
def zJn (N:Nat)(a:lS)(b:Int):OA:=
 (oN (zO b 0<|wsub .i64 (ln a) 1)<|cond (nB<|zk b 0<|wsub .i64 (ln a) 1) (oN zbP<|some [.agg [.i .i64 zbf.Page,.i .i64 zbf.Rights]])<|oN (inb b<|ln a)<|some [.agg [.i .i64 (ix a b zW).Page,.i .i64 (ix a b zW).Rights]])
theorem zUl (b:List Slot)(a:Int)(c:zbL big [aS .slot b,aI a])(g:zhG b a=true):∃N,zJn N b a=some [aT .slot<|zfy b a]:=by have f:=len0 c;refine⟨0,?_⟩;unfold zJn zfy zbH oN nB;have e:zk a 0 (wsub .i64 (ln b) 1)=hasB a (ln b):=zK4 f a;rw[e];cases d:hasB a (ln b);{rfl};{rw [zC d];rfl}
theorem zNH:vM 130 zpn:=hF2 znX zZ zy zq (zx []) zUl
def zI1 (N:Nat)(a:lS)(b:Int):OA:=
 (oN (zbA b<|ln a)<|cond (nB<|zdo b<|ln a) (oN zbP<|some [.agg [.i .i64 zbf.Page,.i .i64 zbf.Rights]])<|oN (inb b<|ln a)<|some [.agg [.i .i64 (ix a b zW).Page,.i .i64 (ix a b zW).Rights]])
theorem zT3 (a:List Slot)(b:Int)(d:zhG a b=true):∃N,zI1 N a b=some [aT .slot<|zfy a b]:=by refine⟨0,?_⟩;unfold zI1 zfy zbH zdo oN nB;cases c:hasB b (ln a);{rfl};{rw [zC c];rfl}
theorem zNj:vM 125 zpn:=kF2 znX zZ zy zq (zx []) zT3
def z6x:zbb:=[(269,zki),(267,zki),(259,zpd),(268,zpd),(130,zpn),(125,zpn)]++z6w
theorem zGZ:zS z6x:=zi zCK (zi zCE<|zi zNu<|zi zM3<|zi zNH<|zi zNj znX)
def zdb (a b:Slot):Bool:=ieq a.Page b.Page&&ieq a.Rights b.Rights
def below' (a b:Slot):Bool:=bif zdb a noSlot then true else (cond (ieq a.Page b.Page) (enough b.Rights a.Rights) false)
def zbB (s:Slot)(a:List Slot):Slot :=
 bif ieq s.Page (-1) then noSlot else (cond (ieq (zbH a s.Page).Page<|-1) noSlot<|cond (ieq (zey s.Rights (zbH a s.Page).Rights) 0) noSlot ⟨(zbH a s.Page).Page,zey s.Rights (zbH a s.Page).Rights⟩)
def zhg (_:Slot)(_:List Slot):Bool:=true
def zkG (s:Slot)(a:List Slot):Slot:=zbB s a
def zjg:Run:=rF2 (dT .slot) (dS .slot) λb c=>(zhg b c,[aT .slot<|zkG b c])
def zvh (N:Nat)(a:Slot)(c:lS):OA:=
 let b:=zfy c a.Page; (oN (zhG c a.Page)<|oN (zbA a.Rights b.Rights)<|cond (ieq a.Page<|-1) (oN zbP<|some [.agg [.i .i64 zbf.Page,.i .i64 zbf.Rights]])<|cond (ieq b.Page<|-1) (oN zbP<|some [.agg [.i .i64 zbf.Page,.i .i64 zbf.Rights]])<|cond (ieq (zg4 a.Rights b.Rights) 0) (oN zbP<|some [.agg [.i .i64 zbf.Page,.i .i64 zbf.Rights]])<|some [.agg [.i .i64 b.Page,.i .i64<|zg4 a.Rights b.Rights]])
theorem zs8 (a:Slot)(b:List Slot)(c:zbL big [aT .slot a,aS .slot b])(d:zhg a b=true):∃N,zvh N a b=some [aT .slot<|zkG a b]:=by
 refine⟨0,?_⟩;unfold zvh zkG zbB zfy zg4 oN;conv=>zeta
 cases ieq a.Page (-1)<;>cases ieq (zbH b a.Page).Page (-1)<;>cases ieq (zey a.Rights (zbH b a.Page).Rights) 0<;>rfl
theorem zBo:vM 129 zjg:=hF2 zGZ zZ zy zq (zx []) zs8
theorem zBl:vM 124 zjg:=hF2 zGZ zZ zy zq (zx []) zs8
def zdY (x:Int):Int:=bif (ige x 1&&ile x 6) then zWi .i64 (wsub .i64 x 1) 2 else -1
def zeO (x:Int):Int:=bif (ige x 1&&ile x 6) then zmY (wsub .i64 x 1) 2 else -1
def z6y:zbb:=[(129,zjg),(124,zjg)]++z6x
theorem z4m:zS z6y:=zi zBo (zi zBl zGZ)
def z6z:zbb:=z6y
theorem z4n:zS z6z:=z4m
def zde (h:Host)(e:Entry):Bool :=
 bif hasB (zdY e.Tag) (ln h.Mons) then (bif hasB (zeO e.Tag) (ln (ix h.Mons (zdY e.Tag) zh).Guests) then
  below' ⟨e.Host,e.Rights⟩ (zbB (zbH (ix (ix h.Mons (zdY e.Tag) zh).Guests (zeO e.Tag) zu).Live e.Page) (ix h.Mons (zdY e.Tag) zh).Outer) else false) else false
def z6A:zbb:=z6z
theorem z4o:zS z6A:=z4n
def ctrW:zbb:=z6A
theorem zMM:∀f a,zo ctrW f=some a->Holds Tryz.prog f a:=z4o
theorem hE (h:Host):(⟨h.Memory,h.Mons,h.Buffer,h.IoBuffer⟩:Host)=h:=rfl
def idxs {a:Type}(p:a->Bool):List a->Nat->List Int
 |[],_=>[]
 |x::l,i=>bif p x then (i:Int)::idxs p l (i+1) else idxs p l (i+1)
theorem zzA {a:Type}(p:a->Bool):∀(l:List a) (i:Nat),(idxs p l i).length<=l.length
 |[],_=>qW _
 |x::l,i=>by have:=zzA p l (i+1);simp only[idxs];cases p x<;>simp<;>omega
theorem zum {b c:Type}(p:b->Bool)(K:List Int->Option c):∀(l:List b) (i:Nat) (a:List Int),a.length+l.length<=2147483648->
 goL (λi x a k=>bif p x then (cond (few<|ln<|ap a [(i:Int)]) (k<|ap a [(i:Int)]) none) else k a) K l i a=K (a++idxs p l i)
 |[],i,a,_=>by simp[goL,idxs]
 |x::l,i,a,h=>by simp only[qZ]at h;simp only[goL,idxs];cases p x;{simp only [cF];exact zum p K l (i+1) a (by omega)};{simp only [cT];rw[zgu (by simp[ap];omega),cT,zum p K l (i+1) _ (by simp[ap];omega)];simp[ap]}
def zwX (p:Nat->Bool):Nat->Nat->List Int
 | 0,_=>[]
 |n+1,i=>bif p i then (i:Int)::zwX p n (i+1) else zwX p n (i+1)
theorem zzl {b:Type}(p:Nat->Bool)(K:List Int->Option b):∀(n i:Nat) (a:List Int),a.length+n<=2147483648->
 goN (λi a k=>bif p i then (cond (few<|ln<|ap a [(i:Int)]) (k<|ap a [(i:Int)]) none) else k a) K n i a=K (a++zwX p n i)
 | 0,i,a,_=>by simp[goN,zwX]
 |n+1,i,a,h=>by simp only[goN,zwX];cases p i;{simp only [cF];exact zzl p K n (i+1) a (by omega)};{simp only [cT];rw[zgu (by simp[ap];omega),cT,zzl p K n (i+1) _ (by simp[ap];omega)];simp[ap]}
abbrev zpL (l:List Slot)(_:Int):Bool:=pc (l.length<=2147483648)
abbrev zgC (l:List Slot)(p:Int):List Int:=idxs (λ(s:Slot)=>ieq s.Page p) l 0
def zpp:Run:=rF2 (dS .slot) dI λb c=>(zpL b c,[aS .int<|zgC b c])
def zJr (N:Nat)(c:lS)(d:Int):OA:=
 (iter (σ:=(Int×Int×lS×(List Int)×Unit)) N (λb a=>cond (ilt a.2.1<|ln a.2.2.1) (oN (inb a.2.1<|ln a.2.2.1)<|cond (ieq (ix a.2.2.1 a.2.1 zW).Page a.1) (oN (few<|ln<|ap a.2.2.2.1 [a.2.1])<|b (a.1,zM .i64 a.2.1 1,a.2.2.1,ap a.2.2.2.1 [a.2.1],()))<|b (a.1,zM .i64 a.2.1 1,a.2.2.1,a.2.2.2.1,()))<|some [aS .int a.2.2.2.1]) (d,0,c,[],()))
def zV6:=zx [(414,0,{n:=26,tm:=[(0,.sl 0 []),(1,ti),(5,.sl 1 []),(6,ti)],lo:=[],ro:=[(0,.slot,false),(1,.int,true)]})]
theorem zUo (b:List Slot)(a:Int)(g:zbL big [aS .slot b,aI a])(h:zpL b a=true):∃N,zJr N b a=some [aS .int<|zgC b a]:=by have e:=len0 g;have j:=zQ.1 h;refine zcA λN d=>?_;unfold zJr oN;refine(zbm b (λi (t:(List Int))=>(a,(i:Int),b,t,())) _ (λi (x:Slot) (t:List Int) f=>bif ieq x.Page a then (cond (few<|ln<|ap t [(i:Int)]) (f<|ap t [(i:Int)]) none) else f t) (λ(t:(List Int))=>some [.one<|.s .int t]) (λi c t rec=>?_) (λt rec=>?_) _ ([])<|d e).trans ?_;{simp only [zbG c,zbi c,zbp c,zbh c e,cT]};{simp only [zbt,cF]};exact zum (λ(s:Slot)=>ieq s.Page a) _ _ 0 [] (by simpa using j)
theorem zNL:vM 414 zpp:=hF2 zMM zZ zy zq zV6 zUo
def zI4 (N:Nat)(d:lS)(f:Int):OA:=
 (iter (σ:=(Int×Int×Int×(List Int)×lS×Unit)) N (λe a=>let c:=a.2.2.2.2.1;let b:=a.2.2.1; (cond (ilt b a.2.1) (oN (inb b<|ln c)<|cond (ieq (ix c b zW).Page a.1) (oN (few<|ln<|ap a.2.2.2.1 [b])<|e (a.1,a.2.1,zM .i64 b 1,ap a.2.2.2.1 [b],c,()))<|e (a.1,a.2.1,zM .i64 b 1,a.2.2.2.1,c,()))<|some [aS .int a.2.2.2.1])) (f,ln d,0,[],d,()))
def zVV:=zx [(384,0,{n:=26,tm:=[(1,ti),(5,.sl 0 []),(9,.sl 1 []),(10,ti),(11,ti)],lo:=[],ro:=[(0,.int,true),(1,.slot,false)]})]
theorem zT6 (a:List Slot)(b:Int)(g:zbL big [aS .slot a,aI b])(h:zpL a b=true):∃N,zI4 N a b=some [aS .int<|zgC a b]:=by
 have e:=len0 g;have j:=zQ.1 h;refine zcA λN d=>?_;unfold zI4 oN;conv=>zeta
 refine(zbm a (λi (t:(List Int))=>(b,ln a,(i:Int),t,a,())) _ (λi (x:Slot) (t:List Int) f=>bif ieq x.Page b then (cond (few<|ln<|ap t [(i:Int)]) (f<|ap t [(i:Int)]) none) else f t) (λ(t:(List Int))=>some [.one<|.s .int t]) (λi c t rec=>?_) (λt rec=>?_) _ ([])<|d e).trans ?_;{simp only [zbG c,zbi c,zbp c,zbh c e,cT]};{simp only [zbt,cF]};exact zum (λ(s:Slot)=>ieq s.Page b) _ _ 0 [] (by simpa using j)
theorem zNn:vM 384 zpp:=hF2 zMM zZ zy zq zVV zT6
def z6B:zbb:=[(414,zpp),(384,zpp)]++ctrW
theorem z4p:zS z6B:=zi zNL (zi zNn zMM)
def z6C:zbb:=z6B
theorem z4q:zS z6C:=z4p
def z6D:zbb:=z6C
theorem zS2:zS z6D:=z4q
theorem zmg (x y:Int):ine x y = !ieq x y:=rfl
def zd4 (l:List Int):Bool:=pc (l.length<=2147483648)
abbrev zd2 (l:List Int):List Int:=l
def zyj:Run:=rF1 (dS .int) λb=>(zd4 b,[aS .int<|zd2 b])
def zBL (N:Nat)(a:List Int):OA:=
 (oN (few<|ln<|ap [] a)<|some [aS .int<|ap [] a])
theorem zOe (a:List Int)(b:zd4 a=true):∃N,zBL N a=some [aS .int<|zd2 a]:=by refine⟨0,?_⟩;unfold zBL oN;rw[zm2,zgu<|zQ.1 b,cT]
theorem zHt:vM 228 zyj:=kF1 zS2 zZ zy zq (zx []) zOe
def z6E:zbb:=[(228,zyj)]++z6D
theorem zG0:zS z6E:=zi zHt zS2
def zz8:List Int:=rp 4 0
def zcG (m:List (List Int))(p:Int):List Int:=bif hasB p (ln m) then ix m p [] else zz8
def zhF (m:List (List Int))(_:Int):Bool:=pc (CVB sm<|.s (.sl .int) m)
def ziZ (m:List (List Int))(p:Int):List Int:=zcG m p
theorem z2Z {m:List (List Int)}{p:Int}(b:CVB sm (.s (.sl .int) m))(a:hasB p (ln m)=true):(ix m p []).length<=2147483648 :=
 (zdj (b.inv.2 _ (zbK a ([]:List Int)) (.s .int _) (qF.2 rfl)).len).2
def zpj:Run:=rF2 (dS<|.sl .int) dI λb c=>(zhF b c,[aS .int<|ziZ b c])
def zJi (N:Nat)(a:lM)(b:Int):OA:=
 (oN (zO b 0<|wsub .i64 (ln a) 1)<|cond (nB<|zk b 0<|wsub .i64 (ln a) 1) (oN (cond (few 4) (ieq 4 4) false)<|some [aS .int<|rp 4 0])<|oN (inb b<|ln a)<|oN (few<|ln<|ap []<|ix a b [])<|some [aS .int<|ap []<|ix a b []])
theorem zUh (b:List (List Int))(a:Int)(f:zhF b a=true):∃N,zJi N b a=some [aS .int<|ziZ b a]:=by have d:=zQ.1 f;refine⟨0,?_⟩;unfold zJi ziZ zcG oN nB;have e:zk a 0 (wsub .i64 (ln b) 1)=hasB a (ln b):=zK4 (zdj d.len).1 a;rw[e];cases c:hasB a (ln b);{rfl};{simp only [zO,cT,cF,zC c,zm2,zgu<|z2Z d c]}
theorem zNC:vM 387 zpj:=kF2 zG0 zZ zy zq (zx []) zUh
def zIV (N:Nat)(a:lM)(b:Int):OA:=
 (oN (zbA b<|ln a)<|cond (nB<|zdo b<|ln a) (oN (cond (few 4) (ieq 4 4) false)<|some [aS .int<|rp 4 0])<|oN (inb b<|ln a)<|oN (zd4<|ix a b [])<|some [aS .int<|zd2<|ix a b []])
theorem zTX (a:List (List Int))(b:Int)(d:zhF a b=true):∃N,zIV N a b=some [aS .int<|ziZ a b]:=by have e:=zQ.1 d;refine⟨0,?_⟩;unfold zIV ziZ zcG zdo oN nB;cases c:hasB b (ln a);{rfl};{simp only [zbA,cT,cF,zC c,show zd4 (ix a b [])=true from zbw (z2Z e c),zd2]}
theorem zNc:vM 321 zpj:=kF2 zG0 zZ zy zq (zx []) zTX
def z6F:zbb:=[(387,zpj),(321,zpj)]++z6E
theorem zS3:zS z6F:=zi zNC (zi zNc zG0)
def zcR (h:Host)(m p:Int):List Int :=
 bif hasB m (ln h.Mons) then (cond (hasB p 8) (cond (ine (zbH (ix h.Mons m zh).Outer p).Page<|-1) (zcG h.Memory (zbH (ix h.Mons m zh).Outer p).Page)<|zcG (ix h.Mons m zh).Out p) zz8) else zz8
def zzu (h:Host)(_ _:Int):Bool:=pc (zdI h)
def zzt (h:Host)(m p:Int):List Int:=zcR h m p
def zDp:Run:=rF3 dH dI dI λb c d=>(zzu b c d,[aS .int<|zzt b c d])
def zIW (N:Nat)(a:Host)(c b:Int):OA:=
 let d:=ix a.Mons c zh;let e:=(zfy d.Outer b).Page; (oN (zbA c<|ln a.Mons)<|cond (nB<|zdo c<|ln a.Mons) (oN (cond (few 4) (ieq 4 4) false)<|some [aS .int<|rp 4 0])<|oN (zbA b 8)<|cond (nB<|zdo b 8) (oN (cond (few 4) (ieq 4 4) false)<|some [aS .int<|rp 4 0])<|oN (inb c<|ln a.Mons)<|oN (zhG d.Outer b)<|cond (ine e<|-1) (oN (zhF a.Memory e)<|some [aS .int<|ziZ a.Memory e])<|oN (zhF d.Out b)<|some [aS .int<|ziZ d.Out b])
theorem zTY (a:Host)(b c:Int)(f:zzu a b c=true):∃N,zIW N a b c=some [aS .int<|zzt a b c]:=by
 have e:=zQ.1 f;refine⟨0,?_⟩;unfold zIW zzt zcR zdo oN nB;conv=>zeta
 cases d:hasB b (ln a.Mons);{rfl};{cases h:hasB c 8;{rfl};{have g:CVB sm (.s (.sl .int) (ix a.Mons b zh).Out):=e.mons.inv.2 _ (zbK d zh) (.s (.sl .int) _) (by simp[Ty.cells]);simp only[zbA,cT,cF,zC d,zhG,zfy,show ∀p,zhF a.Memory p=true from λp=>zbw e.mem,show ∀p,zhF (ix a.Mons b zh).Out p=true from λp=>zbw g,ziZ];cases ine (zbH (ix a.Mons b zh).Outer c).Page (-1)<;>rfl}}
theorem zNd:vM 303 zDp:=kF3 zS3 zZ zy zq (zx []) zTY
def z6G:zbb:=[(303,zDp)]++z6F
theorem z4r:zS z6G:=zi zNd zS3
def z6H:zbb:=z6G
theorem z4s:zS z6H:=z4r
def ctrV:zbb:=z6H
theorem z8H:∀f a,zo ctrV f=some a->Holds Tryz.prog f a:=z4s
def z99:zbb:=ctrV
theorem zdu:zS z99:=z8H
def zoZ:zhA:=z5c
theorem zA:zf0 zoZ:=zZ
def canRun (g:Guest):Bool:=bif (ieq g.Exit.Kind 0&&(ieq g.Exit.Page 0&&(znW g.Exit.Write false&&ieq g.Exit.N 0))) then !g.Halted else false
def ztu (_:Guest):Bool:=true
abbrev zn8 (g:Guest):Bool:=canRun g
def zpc:Run:=rF1 (dT .guest) λb=>(ztu b,[aB<|zn8 b])
def zI8 (N:Nat)(a:Guest):OA:=
 (cond (cond (ieq a.Exit.Kind 0) (cond (ieq a.Exit.Page 0) (cond (znW a.Exit.Write false) (ieq a.Exit.N 0) false) false) false) (some [aB<|nB a.Halted]) oF)
theorem zC0 (a:Guest)(b:zbL big [aT .guest a])(c:ztu a=true):∃N,zI8 N a=some [aB<|zn8 a]:=by refine⟨0,?_⟩;unfold zI8 zn8 canRun nB;cases ieq a.Exit.Kind 0<;>cases ieq a.Exit.Page 0<;>cases znW a.Exit.Write false<;>cases ieq a.Exit.N 0<;>simp
theorem zNt:vM 338 zpc:=hF1 ztJ zZ zy zq (zx []) zC0
theorem zM1:vM 283 zpc:=hF1 ztJ zZ zy zq (zx []) zC0
end
end Go.Proofs.YtjapbkodhfpbbaaGreat.E
