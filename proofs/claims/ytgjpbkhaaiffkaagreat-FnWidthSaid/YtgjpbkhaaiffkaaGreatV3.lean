/- What is proved here: a part of the proof that the statement of this claim holds (several texts of wip/, laid together). -/
import Derived.Test.YtgjpbkhaaiffkaaGreatV2
import Derived.HandedShaped
import Derived.ProofKit
import Derived.KernelRfl
namespace Go.Proofs.YtgjpbkhaaiffkaaGreat.E
open Go
set_option linter.constructorNameAsVariable false
set_option linter.unusedVariables false
set_option maxRecDepth 100000
set_option linter.unusedSimpArgs false
set_option linter.unusedSectionVars false
noncomputable section
section
variable {C:Cfg} {ops:Array Oper} {b:Bool} {base:Nat}
def Foot.reads (f:Foot):Key->Prop
 |.tm t=>t∈f.tm
 |.ro n=>n∈f.ro
 |.lo n=>n∈f.lo
def Foot.writes (f:Foot):Key->Prop
 |.tm t=>f.dst=some t
 |.ro n=>n∈f.wro
 |.lo n=>n∈f.wlo
theorem zpt {a c:List Nat}(h:zy7 a c=true):∀x∈a,x∉c:=by intro x hx;have:=qM.1 h x hx;simpa using this
theorem apart_spec {x y:Foot}(h:x.apart y=true):(∀κ,x.writes κ->¬ y.reads κ/\¬ y.writes κ)/\(∀κ,y.writes κ->¬ x.reads κ):=by unfold Foot.apart at h;simp only[qE]at h;obtain⟨⟨⟨⟨⟨h1,h2⟩,h3⟩,h4⟩,h5⟩,h6⟩:=h;refine⟨λκ hw=>?_,λκ hw=>?_⟩;{cases κ with|tm t=>simp only[Foot.writes]at hw;rw[hw]at h1;simp only[qE,jE,beq_eq_false_iff_ne,jK,decide_eq_false_iff_not]at h1;exact⟨h1.1,h1.2⟩|ro n=>have:=zpt h3 n hw;simp only[jI,not_or] at this;exact this|lo n=>have:=zpt h5 n hw;simp only[jI,not_or] at this;exact this};{cases κ with|tm t=>simp only[Foot.writes]at hw;rw[hw]at h2;simpa [Foot.reads] using h2|ro n=>exact zpt h4 n hw|lo n=>exact zpt h6 n hw}
theorem zy8 {i:Nat}{o:Oper}{S:St}{f:Foot}{s:Step}(h:At1 C ops base i o S f s)(κ:Key):wr o s κ↔f.writes κ:=by cases s with|none=>obtain⟨_,rfl⟩:=h;cases κ<;>simp [wr,Foot.writes,zkP]|some d=>obtain⟨_,_,_,rfl⟩:=h;cases κ<;>simp [wr,Foot.writes,zfg,zfF]
def Does (C:Cfg)(ops:Array Oper)(base i:Nat)(o:Oper)(S:St):Step->Prop
 |some d=>zde ops o S=some true/\zjC C S o (base+32*i)=some d/\d.c=true
 |none=>zde ops o S=some false
theorem zu5 {o:Oper}{S S':St}(h:∀t∈zu6 ops o,S'.tm[t]?=S.tm[t]?):zde ops o S'=zde ops o S:=by unfold zde;cases hg:o.guard with|none=>rfl|some jw=>obtain⟨j,want⟩:=jw;simp only;have e:guardOf S' ops j=guardOf S ops j:=(by unfold guardOf;cases ho:ops[j]? with|none=>rfl|some o' =>simp only;(cases hd:o'.dst with|none=>rfl|some t=>simp only;exact h t (by simp[zu6,hg,zij,ho,hd])));rw[e]
theorem zWa {S S':St}(hep:S'.ep=S.ep){n:Nat}(hn:zl S'.ro n=zl S.ro n):S'.root n=S.root n:=by unfold St.root;rw[hn,hep]
theorem zL2 {S S':St}(hep:S'.ep=S.ep):∀(own:List Bool) (cells:List At),(∀a∈cells,∀n∈zbh a,zl S'.ro n=zl S.ro n)->S'.blk own cells=S.blk own cells
 |[],[],_=>rfl
 |[],_::_,_=>rfl
 |_::_,[],_=>rfl
 |o::ms,a::r,h=>by have ih:=zL2 hep ms r λb hb=>h b (qU _ hb);have ha:=h a q9;simp only[St.blk];rw[ih];cases a with|sl q p=>(cases p with|nil=>simp only[zWa hep<|ha q (by simp[zbh])]|cons x p=>rfl)|_=>rfl
theorem zzJ {S S':St}(hep:S'.ep=S.ep):∀(ks:List Nat),(∀k∈ks,zl S'.ro k=zl S.ro k)->killed S' ks=killed S ks
 |[],_=>rfl
 |k::ks,h=>by simp only[killed];rw[h k q9,zzJ hep ks λj hj=>h j (qU _ hj),hep]
theorem zDA {α:Type}{p q:α->Bool}:∀{l:List α},(∀a∈l,p a=q a)->l.all p=l.all q
 |[],_=>rfl
 |a::l,h=>by rw[kU,kU,h a q9,zDA λb hb=>h b (qU _ hb)]
theorem zWP {S S':St}{L:List Operand}(h:Agree S S' L){ks:List Nat}{x:Operand}(hx:x∈L){m:MV}(hm:S.opnd x=some m):S'.avF ks m=S.avF ks m:=by unfold St.avF;have e:zAG S' ks m=zAG S ks m:=(by unfold zAG;refine zDA λa ha=>zDA λr hr=>?_;rw[h.rootN<|(h.id x hx m hm a ha).1 r hr]);rw[e,h.avOf hx hm]
theorem zRd {S S':St}{o:Oper}{id:Nat}(h:Agree S S' (callArgs o))(hd:∀x∈callArgs o,∀l off,S.at x=some (.lp l off)->∀cells,zl S.lo l=some cells->∀a∈cells,∀n∈zbh a,zl S'.ro n=zl S.ro n):zkE C S' o id=zkE C S o id:=by unfold zkE;cases zjm C o with|none=>rfl|some y=>obtain⟨own,run⟩:=y;simp only;(cases hc:callArgs o with|nil=>rfl|cons x ys=>rw[hc]at h hd;simp only[zK8];have hat:S'.at x=S.at x:=h.at q9;rw[hat];split;{rename_i l hl;have hlo:zl S'.lo l=zl S.lo l:=h.loc (zdY q9 hl);rw[hlo];split;{rename_i cells hcells;have hcell:=hd x q9 l 0 hl cells hcells;rw[zL2 h.ep own cells hcell];split;{rename_i cs ks hb;have B:=zO5 own cells cs ks hb;have hk:killed S' ks=killed S ks:=zzJ h.ep ks λk hk=>(by obtain⟨j,_,hj⟩:=B.ownk k hk;exact hcell _ (qK hj) k (by simp[zbh]));have ha:zcl (zO1 S' ks) ys=zcl (zO1 S ks) ys:=(by refine zkz λy hy=>?_;unfold zO1;rw[h.op y<|qU _ hy];cases hm:S.opnd y with|none=>rfl|some m=>exact zWP h (qU _ hy) hm);rw[ha,hk]};{rfl}};{rfl}};{rfl})
theorem zue {o:Oper}:∀x∈callArgs o,x∈o.op.operands.toList:=by
 intro x hx;unfold callArgs at hx;split at hx
 .rename_i c hc;rw[hc];simp only[Op.operands,Call.operands];simp
  first
   |exact .inr (by simpa using hx)
   |exact .inl (by simpa using hx)
   |simp_all
 {cases hx}
theorem zO2 {i:Nat}{o:Oper}{S S':St}{f:Foot}{s:Step}(h:At1 C ops base i o S f s)(hep:S'.ep=S.ep)(hr:∀κ,f.reads κ->S'.get κ=S.get κ):Does C ops base i o S' s:=by
 cases s with
 |none=>obtain⟨h1,rfl⟩:=h;show zde ops o S'=some false;rw[zu5 (S:=S) λt ht=>zGA (hr (.tm t) (by simpa [Foot.reads,zkP] using ht))];exact h1
 |some d=>
  obtain⟨h1,h2,h3,rfl⟩:=h;have htm:∀t,t∈znA o++zu6 ops o->S'.tm[t]?=S.tm[t]?:=λt ht=>zGA (hr (.tm t) ht);have hop:∀x∈o.op.operands.toList,S'.opnd x=S.opnd x:=(by intro x hx;cases x with|tmp t=>have ht:t∈znA o:=(by unfold znA;exact uP.2 ⟨_,hx,rfl⟩);simp only[St.opnd,htm t<|jX _ ht]|_=>rfl);refine⟨?_,?_,h3⟩;{rw [zu5 (S:=S) λt ht=>htm t (kE _ ht)];exact h1}
  .rw [<- h2];cases hpm:ztu o with
   |true=>unfold ztu at hpm;split at hpm;{rename_i t hop2;have e:=hop (.tmp t) (by rw[hop2];simp[Op.operands]);have e1:delta C S' o (base+32*i)=delta C S o (base+32*i):=(by simp only[delta,hop2,e]);have hpn:zjm C o=none:=(by unfold zjm;rw[hop2]);unfold zjC;rw[e1];cases delta C S o (base+32*i) with|some d'=>rfl|none=>simp only[zkE,hpn]};{cases hpm}
   |false=>
   have hr:∀κ,(zfF S ops o d).reads κ\/(∃n,κ = .ro n/\n∈(zfF S ops o d).ro++cond (zjm C o).isSome (zzi S o) [])->S'.get κ=S.get κ:=(by intro κ hκ;refine hr κ ?_;rcases hκ with hκ|⟨n,rfl,hn⟩;{cases κ with|tm t=>exact hκ|ro n=>show n∈(zfg C S ops o d).ro;unfold zfg;rw[hpm];exact jX _ hκ|lo n=>show n∈(zfg C S ops o d).lo;unfold zfg;rw[hpm];exact hκ};{show n∈(zfg C S ops o d).ro;unfold zfg;rw[hpm];exact hn});have hA:∀x∈o.op.operands.toList,∀m,S.opnd x=some m->∀a∈zbw m,a∈zrj S o:=λx hx m hm a ha=>(by unfold zrj;exact qN.2 ⟨m,uP.2 ⟨x,hx,hm⟩,ha⟩);have hG:Agree S S' o.op.operands.toList:=⟨hep,hop,λx hx m hm a ha=>⟨λn hn=>zzo (hr (.ro n)<|.inl<|qN.2 ⟨a,hA x hx m hm a ha,hn⟩),λn hn=>zGz (hr (.lo n)<|.inl<|qN.2 ⟨a,hA x hx m hm a ha,hn⟩)⟩⟩;unfold zjC;rw[zSC hG];cases hdl:delta C S o (base+32*i) with|some d'=>rfl|none=>simp only;(cases hp:zjm C o with|none=>simp only[zkE,hp]|some y=>refine zRd ⟨hep,λx hx=>hop x (zue x hx),λx hx m hm a ha=>hG.id x (zue x hx) m hm a ha⟩ λx hx l off hl cells hcells a ha n hn=>?_;refine zzo (hr (.ro n)<|.inr ⟨n,rfl,?_⟩);show n∈(zfF S ops o d).ro++cond (zjm C o).isSome (zzi S o) [];rw[hp];refine kE _ ?_;show n∈zzi S o;unfold zzi;refine qN.2 ⟨.lp l off,?_,?_⟩;{obtain⟨m,hm,hma⟩:∃m,S.opnd x=some m/\At.lp l off∈zbw m:=⟨_,zI2 hl,by simp[zbw,zN]⟩;exact hA x (zue x hx) m hm _ hma};{simp only [hcells];exact qN.2 ⟨a,ha,hn⟩})
structure Free (C:Cfg) (ops:Array Oper) (cl:List (List Nat)) (b:Bool) (base a:Nat) (ss:List Step) (st0:St):Prop where
 at1:∀i s,ss[i]?=some s->∃o f,ops[a+i]?=some o/\At1 C ops base (a+i) o (zbt ops b (fun j=>decide (j<a+i)) a ss st0) f s
 apart:∀i k s s' o o' f f',ss[i]?=some s->ss[k]?=some s'->ops[a+i]?=some o->ops[a+k]?=some o'->At1 C ops base (a+i) o (zbt ops b (fun j=>decide (j<a+i)) a ss st0) f s->
  At1 C ops base (a+k) o' (zbt ops b (fun j=>decide (j<a+k)) a ss st0) f' s'->i<k->a+i∉cl.getD (a+k) []->f.apart f'=true
def zjN (cl:List (List Nat))(X:Nat->Bool):Prop:=∀k,X k=true->∀j∈cl.getD k [],X j=true
variable {cl:List (List Nat)} {ss:List Step} {st0:St} {a:Nat}
theorem zDB {i:Nat}{o:Oper}{S:St}{f f':Foot}{s:Step}(h:At1 C ops base i o S f s)(h':At1 C ops base i o S f' s):f=f':=by cases s with|none=>rw[h.2,h'.2]|some d=>rw[h.2.2.2,h'.2.2.2]
theorem zGy (F:Free C ops cl b base a ss st0){X:Nat->Bool}(hX:zjN cl X){i:Nat}{s:Step}(hs:ss[i]?=some s)(hXi:X (a+i)=false)(hr:∀j∈cl.getD (a+i) [],X j=true) :
 ∃o f,ops[a+i]?=some o/\At1 C ops base (a+i) o (zbt ops b (λj=>decide (j<a+i)) a ss st0) f s/\∀κ,f.reads κ->(zbt ops b X a ss st0).get κ=(zbt ops b (λj=>decide (j<a+i)) a ss st0).get κ:=by
 obtain⟨o,f,ho,h1⟩:=F.at1 i s hs;refine⟨o,f,ho,h1,λκ hκ=>?_⟩;refine zpy ss a st0 st0 rfl rfl (λk s' o' hk ho' hne hw=>?_);obtain⟨o2,f',ho2,h2⟩:=F.at1 k s' hk;rw[ho']at ho2;cases ho2;have hw':=(zy8 h2 κ).1 hw
 by_cases hlt:k<i
 .have hXk:X (a+k)=false:=by have hlt':a+k<a+i:=(by omega);simp only[hlt',decide_true]at hne;simpa using hne
  have hn:a+k∉cl.getD (a+i) []:=λh=>by rw[hr (a+k) h]at hXk;cases hXk
  exact((apart_spec<|F.apart k i s' s o' o f' f hk hs ho' ho h2 h1 hlt hn).1 κ hw').1 hκ
 .have hXk:X (a+k)=true:=by have hlt':¬ (a+k<a+i):=(by omega);simp only[hlt',decide_false]at hne;simpa using hne
  have hlt':i<k:=by have:i≠k:=λe=>(by rw[e,hXk]at hXi;cases hXi);omega
  have hn:a+i∉cl.getD (a+k) []:=λh=>by rw[hX (a+k) hXk (a+i) h]at hXi;cases hXi
  exact(apart_spec<|F.apart i k s s' o o' f f' hs hk ho ho' h1 h2 hlt' hn).2 κ hw' hκ
theorem zXA (F:Free C ops cl b base a ss st0){X:Nat->Bool}(hX:zjN cl X){i:Nat}{s:Step}(hs:ss[i]?=some s)(hXi:X (a+i)=false)(hr:∀j∈cl.getD (a+i) [],X j=true) :
 ∃o,ops[a+i]?=some o/\Does C ops base (a+i) o (zbt ops b X a ss st0) s:=by
 obtain⟨o,f,ho,h1,h2⟩:=zGy F hX hs hXi hr;exact⟨o,ho,zO2 h1 (by rw[zhD,zhD]) h2⟩
theorem zPG (F:Free C ops cl b base a ss st0){X Y:Nat->Bool}(hX:zjN cl X){i:Nat}{s:Step}{o:Oper}(hs:ss[i]?=some s)(ho:ops[a+i]?=some o)(hXi:X (a+i)=false)(hY:∀k,Y k=(X k||k==a+i))(κ:Key) :
 (zbt ops b Y a ss st0).get κ=((zbt ops b X a ss st0).step b o s).get κ:=by
 refine zXx hY ho hs (λk s' o' hk ho' hlt hXk κ hw hw'=>?_) κ;obtain⟨o1,f,ho1,h1⟩:=F.at1 i s hs;rw[ho]at ho1;cases ho1;obtain⟨o2,f',ho2,h2⟩:=F.at1 k s' hk;rw[ho']at ho2;cases ho2;have hn:a+i∉cl.getD (a+k) []:=λh=>by rw[hX (a+k) hXk (a+i) h]at hXi;cases hXi
 exact((apart_spec<|F.apart i k s s' o o' f f' hs hk ho ho' h1 h2 hlt hn).1 κ ((zy8 h1 κ).1 hw)).2 ((zy8 h2 κ).1 hw')
theorem zVk {st:St}{o:Oper}{id i:Nat}{d:Dl}(ho:ops[i]?=some o)(h:delta C st o id=some d)(hb:zKW ops i=false)(hh:(zAW C&&zPQ o)=false):d.bump=false:=by
 simp only[zKW,ho]at hb;cases hop:o.op<;>simp only [hop]at hb<;>simp only [delta,hop]at h;(case store=>cases hb);case buildSlice=>cases hb
 case call c=>
  split at h
  case h_4 hc=>rw[hc]at hb;cases hb
  all_goals (repeat' (first|split at h|cases h))
  all_goals rfl
 case slice T x lo hi mx=>
  cases mx with
  |some m=>simp at h
  |none=>
   cases lo with
   |none=>
    cases hi with
    |none=>(repeat' (first|contradiction|split at h|cases h));all_goals (first|rfl|contradiction|(exfalso;simp_all))
    |some hi' =>have hc:zAW C=false:=(by simp only[zPQ,hop,vC]at hh;exact hh);(repeat' (first|contradiction|split at h|cases h));all_goals (first|(simp only [zDT,hc,Bool.false_and];done)|rfl|contradiction|(exfalso;simp_all))
   |some lo' =>
    cases hi with
    |none=>cases hb
    |some hi' =>(repeat' (first|contradiction|split at h|cases h));all_goals (first|rfl|contradiction|(exfalso;simp_all))
 case binOp=>
  simp only[zzk]at h
  repeat' (first|split at h|cases h)
  all_goals rfl
 (all_goals (repeat' (first|contradiction|split at h|cases h)));all_goals (first|rfl|contradiction)
theorem zSA {st:St}{o:Oper}{id i:Nat}{d:Dl}(ho:ops[i]?=some o)(h:zjC C st o id=some d)(hb:zkx C ops i=false):d.bump=false:=by unfold zkx at hb;rw[u2]at hb;unfold zjC at h;cases hd:delta C st o id with|some d' =>rw[hd]at h;cases h;have h2:=hb.2;rw[ho]at h2;have h2:((zjm C o).isSome||(zAW C&&zPQ o))=false:=h2;rw[u2]at h2;exact zVk ho hd hb.1 h2.2|none=>rw[hd]at h;exfalso;have h2:=hb.2;rw[ho]at h2;have h2:((zjm C o).isSome||(zAW C&&zPQ o))=false:=h2;rw[u2]at h2;have h2:=h2.1;have h:zkE C st o id=some d:=h;unfold zkE at h;(cases hp:zjm C o with|none=>rw[hp]at h;cases h|some y=>rw[hp]at h2;cases h2)
end
section
variable {C:Cfg} {w0 w w1:World} {S0:zT} {U:Nat->Prop} {st st1:St} {E E1:Env} {ts:Array Value} {sv:List (Array Value)}
variable {ops:Array Oper} {b:Bool} {base:Nat} {cl:List (List Nat)} {ss:List Step} {st0:St}
theorem zVj {R R':Root}(h:zfB b R=R')(he:R'.ep=none):R=R':=by unfold zfB at h;split at h;{subst h;cases he};{exact h}
theorem zX3 {l:List (Nat×Root)}{n:Nat}{R:Root}(h:zl (l.map λ(x:Nat×Root)=>(x.1,zfB b x.2)) n=some R):∃R0,zl l n=some R0/\zfB b R0=R:=by induction l with|nil=>cases h|cons a l ih=>obtain⟨k,v⟩:=a;simp only[q0,zl]at h ⊢;split at h;{cases h;rename_i hk;rw[if_pos hk];exact⟨v,rfl,rfl⟩};{rename_i hk;rw[if_neg hk];exact ih h}
theorem zVY {l:List (Nat×Root)}{n:Nat}(h:zl (l.map λ(x:Nat×Root)=>(x.1,zfB b x.2)) n=none):zl l n=none:=by induction l with|nil=>rfl|cons a l ih=>obtain⟨k,v⟩:=a;simp only[q0,zl]at h ⊢;split at h;{cases h};{rename_i hk;rw[if_neg hk];exact ih h}
theorem zUQ {o:Oper}{d:Dl}(hb:b=false->d.bump=false)(hd:b=true->Dead st/\0<st.ep)(hS:Sim w0 S0 U (st.apply o.dst d) E ts sv w):Sim w0 S0 U (st.effD b o.dst d) E ts sv w:=by
 have h1:∀t:Nat,(st.effD b o.dst d).tm[t]?=(st.apply o.dst d).tm[t]?:=λt=>(by unfold St.effD St.apply;cases o.dst<;>rfl);have h2:(st.effD b o.dst d).lo=(st.apply o.dst d).lo:=(by unfold St.effD St.apply;cases o.dst<;>rfl);have h3:(st.effD b o.dst d).stk=(st.apply o.dst d).stk:=(by unfold St.effD St.apply;cases o.dst<;>rfl);have h4:(st.effD b o.dst d).ro=d.ro.map (λ(x:Nat×Root)=>(x.1,zfB b x.2))++st.ro:=(by unfold St.effD;cases o.dst<;>rfl);have h5:(st.apply o.dst d).ro=d.ro++st.ro:=(by unfold St.apply;cases o.dst<;>rfl);have h6:(st.effD b o.dst d).ep=st.ep:=by unfold St.effD;cases o.dst<;>rfl
 have h7:(st.apply o.dst d).ep=if d.bump then st.ep+1 else st.ep:=by
  unfold St.apply;cases o.dst<;>rfl
 cases b with
 |false=>have hf:d.bump=false:=hb rfl;have hmap:d.ro.map (λ(x:Nat×Root)=>(x.1,zfB false x.2))=d.ro:=(by have:(λ(x:Nat×Root)=>(x.1,zfB false x.2))=id:=(by funext x;rfl);rw[this,List.map_id]);have hro:(st.effD false o.dst d).ro=(st.apply o.dst d).ro:=(by rw[h4,h5,hmap]);have hep:(st.effD false o.dst d).ep=(st.apply o.dst d).ep:=(by rw[h6,h7,hf];rfl);exact hS.fewer h1 (λn=>by rw[h2]) h3 (λn R h=>by simpa only [St.root,hro,hep] using h) (λn R h=>⟨R,by rw[<- hro];exact h⟩) (λn R e h he=>by rw[hep];exact hS.mem.epo n R e (by rw[<- hro];exact h) he)
 |true=>obtain⟨hdd,h0⟩:=hd rfl;have look:∀n R,zl (st.effD true o.dst d).ro n=some R->∃R0,zl (st.apply o.dst d).ro n=some R0/\(zfB true R0=R\/(R0=R/\zl st.ro n=some R)):=(by intro n R h;rw[h4,zbH]at h;rw[h5,zbH];split at h;{rename_i x hx;cases h;obtain⟨R0,g1,g2⟩:=zX3 hx;exact⟨R0,by rw[g1],.inl g2⟩};{rename_i hx;rw[zVY hx];exact⟨R,h,.inr ⟨rfl,h⟩⟩});have dead0:∀R0:Root,(zfB true R0).ep=none\/(zfB true R0).ep=some 0:=(by intro R0;cases hh:R0.ep with|none=>left;simp[zfB,hh]|some e=>right;simp[zfB,hh]);have live:∀n R,(st.effD true o.dst d).root n=some R->R.ep=none/\zl (st.effD true o.dst d).ro n=some R:=(by intro n R h;obtain⟨h8,h9⟩:=zbr h;refine⟨?_,h8⟩;rcases h9 with h9|h9;{exact h9};{exfalso;rw[h6]at h9;obtain⟨R0,_,g2⟩:=look n R h8;rcases g2 with g2|⟨_,g2⟩;{have:=dead0 R0;rw[g2,h9] at this;rcases this with h|h;{cases h};{simp only [qC]at h;omega}};{have:=hdd n R _ g2 h9;omega}});refine hS.fewer h1 (λn=>by rw[h2]) h3 (λn R h=>?_) (λn R h=>?_) (λn R e h he=>?_);{obtain⟨g1,g2⟩:=live n R h;obtain⟨R0,g3,g4⟩:=look n R g2;have e:R0=R:=(by rcases g4 with g4|⟨g4,_⟩;{exact zVj g4 g1};{exact g4});subst e;unfold St.root;rw[g3];simp only[g1]};{obtain⟨R0,g3,_⟩:=look n R h;exact⟨R0,g3⟩};{rw [h6];obtain⟨R0,_,g2⟩:=look n R h;rcases g2 with g2|⟨_,g2⟩;{have:=dead0 R0;rw[g2,he] at this;rcases this with h|h;{cases h};{simp only [qC]at h;omega}};{have:=hdd n R e g2 he;omega}}
def UX (U:Nat->Prop)(base a T:Nat)(X:Nat->Bool)(n:Nat):Prop:=U n\/∃i,a<=i/\i<T/\X i=true/\Mine (base+32*i) n
theorem Sim.uses {U':Nat->Prop}(h:Sim w0 S0 U st E ts sv w)(hU:∀n,U n->U' n):Sim w0 S0 U' st E ts sv w :=
 ⟨h.mem,⟨λn R hn=>hU n (h.ids.ro n R hn),λn cs hn=>⟨hU n (h.ids.lo n cs hn).1,λa ha m hm=>hU m ((h.ids.lo n cs hn).2 a ha m hm)⟩,λm hm n hn=>hU n (h.ids.tm m hm n hn),λf hf m hm n hn=>hU n (h.ids.stk f hf m hm n hn)⟩,h.tm,h.stk⟩
theorem zPy (hC:CfgOk C)(hH:CtrOk C)(hG:GraftOk C)(hS:Sim w0 S0 U st E ts sv w){o:Oper}{id:Nat}(hid:∀n,Mine id n->¬ U n){d:Dl}(h:zjC C st o id=some d)(hc:d.c=true):Goes C w0 S0 U st ts sv w o id (λst=>st.apply o.dst d):=by unfold zjC at h;cases hd:delta C st o id with|some d' =>rw[hd]at h;cases h;exact zCM hC hH hS hid hd hc|none=>rw[hd]at h;have e:∃st2,zA2 C st o id=some (d.c,st2,d.v)/\st2.put o.dst d.v=st.apply o.dst d:=(by simp only[zkE]at h;unfold zjm callArgs at h;unfold zA2;split at h;{rename_i own run hp;split at hp;{rename_i c ho;split at hp;{rename_i f hcb;have hcf:zI3 o=f:=(by simp only[zI3,ho,hcb]);rw[hcf]at h;simp only[ho,hcb,hp]at h ⊢;generalize c.args.toList=args at h ⊢;unfold zK8 at h;unfold zQ3;split at h;{split at h;{split at h;{split at h;{split at h;{split at h;{split at h;{split at h;{rename_i h1 _ _ h2 _ _ _ h3 _ _ h4 _ _ _ _ h5 _ _ h6 h7;cases h;simp only[*];refine⟨_,rfl,?_⟩;unfold St.apply;simp[j5]};{cases h}};{cases h}};{cases h}};{cases h}};{cases h}};{cases h}};{cases h}};{cases h}};{cases hp}};{cases hp}};{cases h});obtain⟨st2,h1,h2⟩:=e;have k:=(hG.pok w0 w S0 U st E ts sv o id d.c st2 d.v hS hid h1 hc).1;rw[h2] at k;exact k
theorem zMm (hC:CfgOk C)(hH:CtrOk C)(hG:GraftOk C){a T:Nat}(hT:a+ss.length=T)(F:Free C ops cl b base a ss st0){X Y:Nat->Bool}(hX:zjN cl X){i:Nat}(hia:a<=i)(hi:i<T)(hXi:X i=false)(hr:∀j∈cl.getD i [],X j=true)(hb:b=false->∀k,a<=k->k<T->zkx C ops k=false)(hd:b=true->Dead st0/\0<st0.ep)(hM:∀k,a<=k->k<T->∀n,Mine (base+32*k) n->¬ U n)(hY:∀k,Y k=(X k||k==i))(hS:Sim w0 S0 (UX U base a T X) (zbt ops b X a ss st0) E ts sv w){Q:Exit->Act->World->Prop}{K:Act->World->Prop}(hK:∀(E':Env) (ts':Array Value) (w':World),Sim w0 S0 (UX U base a T Y) (zbt ops b Y a ss st0) E' ts' sv w'->K {tmps:=ts',defers:=[]} w') :
 wpOp C.P ops Q i K {tmps:=ts,defers:=[]} w:=by
 obtain⟨j,rfl⟩:∃j,i=a+j:=⟨i-a,by omega⟩
 obtain⟨s,hs⟩:∃s,ss[j]?=some s:=⟨_,qB (by omega)⟩
 obtain⟨o,ho,hdo⟩:=zXA F hX hs hXi hr;have hsub:∀n,UX U base a T X n->UX U base a T Y n:=by rintro n (h|⟨k,h0,h1,h2,h3⟩);{exact .inl h};{exact .inr ⟨k,h0,h1,by rw[hY,h2];rfl,h3⟩}
 have fin:∀{E':Env} {ts':Array Value} {w':World},Sim w0 S0 (UX U base a T Y) ((zbt ops b X a ss st0).step b o s) E' ts' sv w'->K {tmps:=ts',defers:=[]} w':=by intro E' ts' w' h;refine hK E' ts' w' (h.same (λκ=>zPG F hX hs ho hXi hY κ) ?_ ?_);{rw [zqc,zRM,zqc]};{rw [zhD,zLf,zhD]}
 unfold wpOp;simp only[ho];cases s with
 |none=>rw[if_neg (by simp[zzq hS hdo])];have h2:=hS.putV (dst:=o.dst) (m:=.und) (v:=undef) rfl (λn hn=>by simp[MV.ids,zbw]at hn);rw[ziB];exact fin (h2.uses hsub)
 |some d=>obtain⟨h1,h2,h3⟩:=hdo;rw[if_pos<|zzq hS h1];refine .inl (zPy hC hH hG hS (id:=base+32*(a+j)) ?_ h2 h3 _ _ λE' v w' hS'=>?_);{rintro n hn (h|⟨k,_,g1,g2,g3⟩);{exact hM (a+j) hia hi n hn h};{refine zUa (i:=k) (j:=a+j) (λe=>?_) g3 hn;rw[e,hXi] at g2;cases g2}};{rw [ziB];refine fin ((zUQ (λhb'=>zSA ho h2 (hb hb' (a+j) hia hi)) (λhb'=>?_) hS').uses ?_);{subst hb';exact⟨zwn ss a st0 (hd rfl).1 (hd rfl).2,by rw[zhD];exact(hd rfl).2⟩};{rintro n (h|h);{exact hsub n h};{exact .inr ⟨a+j,hia,hi,by rw[hY];simp,h⟩}}}
end
section
variable {C:Cfg} {w0 w w1:World} {S0:zT} {U:Nat->Prop} {st st1:St} {E E1:Env} {ts:Array Value} {sv:List (Array Value)}
theorem zVZ (t:Ty)(x:t.den):t.ofCells (t.cells x)=some x:=by cases t<;>first|rfl|simp[Ty.ofCells,Ty.cells]
theorem zMH:∀(p:List (Int×Nat)) {t:Ty} {l:List t.den} {cv:CV},zg3 t l p=some cv->∀m,zo2 t l p cv=some m->m=l
 |[],t,l,cv,h,m,hm=>by simp only[zg3,qC]at h;subst h;simpa [zo2] using hm.symm
 |(i,j)::p,t,l,cv,h,m,hm=>by
  simp only[zg3]at h;simp only[zo2]at hm;split at h
  .rename_i t1 l1 hc;rw[hc]at hm;simp only at hm;split at hm
   .rename_i l2 hl2;have:=zMH p h l2 hl2;subst this;split at hm
    .rename_i x hx;cases hm;have hj:j<(t.cells (ix l i t.dflt)).length:=(qA.1 hc).1;have hs:splice (t.cells (ix l i t.dflt)) j [CV.s t1 l2]=t.cells (ix l i t.dflt):=zDp _ _ _ (by simp;omega) (fun k hk=>by
      have:k=0:=by simpa using hk
      subst this;simpa using hc)
     rw[hs,zVZ]at hx;cases hx;unfold up ix;apply k5;intro k;rw[jD];split;{rename_i hk;subst hk;split;{rename_i hlt;simp[List.getD,qB hlt]};{rename_i hlt;rw[List.getElem?_eq_none (by omega)]}};{rfl}
    {cases hm}
   {cases hm}
  {cases h}
theorem zZH {t:Ty}(hf:t.flat=true):∀(q:List (Int×Nat)) (v u:Value),zQ w t v q=some u->q=[]
 |[],_,_,_=>rfl
 |(i,j)::q,v,u,h=>by exfalso;cases v with|slice a len cap=>(cases a with|none=>simp[zQ]at h|some a=>simp only[zQ]at h;split at h;{split at h;{rename_i t' hsh;unfold Ty.flat at hf;have:=qM.1 hf _ (qK hsh);simp at this};{cases h}};{cases h})|_=>simp[zQ]at h
theorem z3N (hC:CfgOk C){T:TypeId}{t:Ty}(hT:C.sty T=some t)(hf:t.flat=true){v1 v2:Value}{l1 l2:List t.den}{S1 S2:zT}(hrep1:Rep true w v1 (.s t l1) S1)(hrep2:Rep false w v2 (.s t l2) S2)(hl2:l2≠[])(hfew:few (ln (ap l1 l2))=true)(oT:TypeId) :
 ∃(v:Value) (w':World) (bv offv cap:Nat),(Builtin.append_ #[T,T] oT #[v1,v2]).run C.P w = .ok v w'/\v = .slice (some ⟨bv,offv,none⟩) (ap l1 l2).length cap/\Rep true w' v (.s t (ap l1 l2)) (fun x=>x=bv)/\
  w'.os=w.os/\w'.tape=w.tape/\w'.output=w.output/\
  ((bv=w.heap.size/\w'.heap.size=w.heap.size+1/\∀x,x<w.heap.size->w'.heap[x]?=w.heap[x]?) \/
    ∃off1 cap1,v1 = .slice (some ⟨bv,off1,none⟩) l1.length cap1/\S1 bv/\w'.heap.size=w.heap.size/\(∀x,x≠bv->w'.heap[x]?=w.heap[x]?)/\Rep true w' v1 (.s t l1) S1):=by
 obtain⟨e,hE⟩:=hC.sty T t hT;obtain⟨i,z,hi,hs,hz,hzc,hby⟩:=hE.info;obtain⟨f0,f1⟩:=zJa hfew;have hlen:l1.length+l2.length<=2147483648:=by simp only[ln,ap,kR] at f1;omega
 have hapl:(ap l1 l2).length=l1.length+l2.length:=by simp[ap]
 cases hrep2 with
 |nil=>exact absurd rfl hl2
 |void=>exact absurd rfl hl2
 |sl _ _ b2 off2 cap2 arr2 e2 fz2 V2 K2 _ hb2 hfz2 hlen2 hcap2 hsz2 hS2 hsub2 hdis2 hvv2 hcc2=>
 have hm0:0<l2.length:=kN.2 hl2;have hmul2:l2.length*t.width<=cap2*t.width:=qQ _ hcap2;generalize hnews:(arr2.toList.drop off2).take (l2.length*t.width)=news;have hnl:news.length=l2.length*t.width:=by rw[<- hnews];simp;omega
 have hnat:∀k,k<l2.length*t.width->news[k]?=arr2[off2+k]?:=by intro k hk;rw[<- hnews,jJ,if_pos hk,jM];simp
 have hnc:∀j u,news[j]?=some u->w.cell? ((⟨b2,off2,none⟩:Addr).add j)=some u:=by intro j u hu;have hj:j<l2.length*t.width:=(by rw[<- hnl];exact(qA.1 hu).1);rw[add_lit,cell_of_block hb2,<- hnat j hj];exact hu
 have hrow2:∀i j,i<l2.length->j<t.width->i*t.width+j<l2.length*t.width:=by intro i j hi hj;have:(i+1)*t.width<=l2.length*t.width:=qQ _ hi;rw[jH] at this;omega
 have hnv:∀i j,i<l2.length->j<t.width->news[i*t.width+j]?=some (V2 i j):=by intro i j hi hj;rw[hnat _ (hrow2 i j hi hj),<- uH];exact hvv2 i j hi hj
 have hwp:=zAB t;have hn1:∀u∈news,u.oneCell'=true:=by intro u hu;obtain⟨k,hk⟩:=qR.1 hu;have hkl:k<l2.length*t.width:=(by rw[<- hnl];exact(qA.1 hk).1);have hki:k / t.width<l2.length:=(Nat.div_lt_iff_lt_mul hwp).2 hkl;have hkj:k % t.width<t.width:=Nat.mod_lt _ hwp;have:=hnv _ _ hki hkj;rw[Nat.mul_comm,Nat.div_add_mod,hk] at this;cases this;have hx:=qB hki;have hcj:(t.cells (l2[k / t.width]'hki))[k % t.width]?=some ((t.cells (l2[k / t.width]'hki))[k % t.width]'(by rw[zc8];exact hkj)):=qB _;exact(hcc2 _ _ hx _ _ hcj).one
 have hcc2':∀(w1:World) i x,l2[i]?=some x->∀j c,(t.cells x)[j]?=some c->Rep true w1 (V2 i j) c (fun _=>False):=fun w1 i x hx j c hcj=>(hcc2 i x hx j c hcj).flat (zte hf hcj);have hrow1:∀i j,i<l1.length->j<t.width->i*t.width+j<l1.length*t.width:=by intro i j hi hj;have:(i+1)*t.width<=l1.length*t.width:=qQ _ hi;rw[jH] at this;omega
 have hbytes:(l1.length+l2.length)*i.bytes<=140737488355328:=by have:=uR hlen hby;omega
 have hzsz:z.cells.size=t.width:=by rw[<- kM,hzc];simp[zeU]
 have grown:∀(olds:List Value) (cap':Nat) (V1:Nat->Nat->Value) (zs:Array Value),olds.length=l1.length*t.width->l1.length+l2.length<=cap'->zs.size=(cap'-(l1.length+l2.length))*t.width->
  (∀i j,i<l1.length->j<t.width->olds[i*t.width+j]?=some (V1 i j))->
  (∀i x,l1[i]?=some x->∀j c,(t.cells x)[j]?=some c->∃S,Rep true w (V1 i j) c S)->
  (Builtin.append_ #[T,T] oT #[v1,.slice (some ⟨b2,off2,none⟩) l2.length cap2]).run C.P w = .ok (.slice (some ⟨w.heap.size,0,none⟩) (l1.length+l2.length) cap') (w.drew.alloc (.cells (olds.toArray++news.toArray++zs) e (0,0)))->
  ∃(v:Value) (w':World) (bv offv cap:Nat),(Builtin.append_ #[T,T] oT #[v1,.slice (some ⟨b2,off2,none⟩) l2.length cap2]).run C.P w = .ok v w'/\v = .slice (some ⟨bv,offv,none⟩) (ap l1 l2).length cap/\Rep true w' v (.s t (ap l1 l2)) (fun x=>x=bv)/\
  w'.os=w.os/\w'.tape=w.tape/\w'.output=w.output/\
  ((bv=w.heap.size/\w'.heap.size=w.heap.size+1/\∀x,x<w.heap.size->w'.heap[x]?=w.heap[x]?) \/
    ∃off1 cap1,v1 = .slice (some ⟨bv,off1,none⟩) l1.length cap1/\S1 bv/\w'.heap.size=w.heap.size/\(∀x,x≠bv->w'.heap[x]?=w.heap[x]?)/\Rep true w' v1 (.s t l1) S1):=by
  intro olds cap' V1 zs hol hcap' hzs ho1 hc1 hr;generalize hw1:w.drew.alloc (.cells (olds.toArray++news.toArray++zs) e (0,0))=w1 at hr;have hsame:∀x,x<w.heap.size->w1.heap[x]?=w.heap[x]?:=fun x hx=>by rw[<- hw1];exact heap_alloc_old w.drew _ x hx
  have hsize:w1.heap.size=w.heap.size+1:=by rw[<- hw1];simp
  refine⟨_,w1,w.heap.size,0,cap',hr,by rw[hapl],?_,by rw[<- hw1];rfl,by rw[<- hw1];rfl,by rw[<- hw1];rfl,.inl ⟨rfl,hsize,hsame⟩⟩
  refine Rep.join (arr:=olds.toArray++news.toArray++zs) (e:=e) (V1:=V1) (V2:=V2) (K1:=fun _ _ _=>False) (K2:=fun _ _ _=>False) ?_ (by simp only[big];omega) hcap' ?_ rfl ?_ ?_ ?_ (hcc2' w1) (fun _ _ _ _ _ h=>h.elim) (fun _ _ _ _ _ h=>h.elim) (fun _ _ _ _ _ _ _ _ _ h=>h.elim) (fun _ _ _ _ _ _ _ _ _ h=>h.elim) (fun _ _ _ _ _ _ _ _ _ h=>h.elim)
  .rw [<- hw1];exact heap_alloc_new w.drew _
  .simp only [Array.size_append,jZ,hol,hnl,hzs,<- kP];have:l1.length+l2.length+(cap'-(l1.length+l2.length))=cap':=by omega
   rw[this];omega
  .intro i j hi hj;have:=hrow1 i j hi hj;rw[jT,uN,jV (by simp[hol];exact this)]
   simpa using ho1 i j hi hj
  .intro i j hi hj;have:=hrow2 i j hi hj;rw[jT,kP,uN,kA (by simp[hol];omega),jV (by simp[hol,hnl];omega)]
   rw[<- hnv i j hi hj];simp only[jZ,hol,jF]
   congr 1
   omega
  .intro i x hx j c hcj;obtain⟨S,hr⟩:=hc1 i x hx j c hcj;exact hr.flat (zte hf hcj)
 cases hrep1 with
 |nil=>
  have hr:=run_append_nil (P:=C.P) w T oT e i z hE.und hi hz ⟨b2,off2,none⟩ l2.length cap2 news (by rw[hs];exact hnl) hnc hm0 (by omega) (by
   have:=uR (show l2.length<=2147483648 by omega) hby
   omega)
  have hge:=grownCap_ge w l2.length 0 e;refine grown [] (grownCap w l2.length 0 e) (fun _ _=>undef) (Builtin.zeroCells z.cells (grownCap w l2.length 0 e-l2.length)) (by simp) (by simpa using hge) (by simp[size_zeroCells,hzsz]) (fun i j hi=>by simp at hi) (fun i x hx=>by simp at hx) ?_;rw[hr];simp
 |void _ _ _ ho=>cases ho
 |sl _ _ b off cap arr e1 fz V1 K1 _ hb hfz hlen1 hcap1 hsz1 hS1 hsub1 hdis1 hvv1 hcc1=>
  have hfz':=hfz rfl;subst hfz';have hmul1:l1.length*t.width<=cap*t.width:=qQ _ hcap1;by_cases hroom:l1.length+l2.length<=cap;{have hmulr:(l1.length+l2.length)*t.width<=cap*t.width:=qQ _ hroom;rw[kP]at hmulr;have hr:=run_append_room' (P:=C.P) (w:=w) T oT e i hE.und hi b off l1.length cap arr e1 hb ⟨b2,off2,none⟩ l2.length cap2 news (by rw[hs];exact hnl) hnc hn1 hroom (by rw[hs,hnl];omega);rw[hs]at hr;have hbs:off+l1.length*t.width+news.length<=arr.toList.length:=(by rw[hnl];simp;omega);generalize hw1:w.setRow b (splice arr.toList (off+l1.length*t.width) news).toArray=w1 at hr;have hb1:w1.heap[b]?=some (.cells (splice arr.toList (off+l1.length*t.width) news).toArray e1 (0,0)):=(by rw[<- hw1];exact setRow_heap w b _ _ e1 _ hb);have hoth:∀x,x≠b->w1.heap[x]?=w.heap[x]?:=fun x hx=>(by rw[<- hw1];exact setRow_other w b x _ hx);have hasz:(splice arr.toList (off+l1.length*t.width) news).toArray.size=arr.size:=(by rw[jZ,zid _ _ _ hbs];simp);have hkeepr:∀k,k<off+l1.length*t.width->(splice arr.toList (off+l1.length*t.width) news).toArray[k]?=arr[k]?:=(by intro k hk;rw[jF,zeK _ _ _ hbs k (.inl hk)];simp);have hRows:Rows true w t l1 arr off b V1 K1 S1:=⟨hsub1,hdis1,hvv1,hcc1⟩;obtain⟨k1,_⟩:=Rep.behind (w1:=w1) hlen1 hcap1 hsz1 hS1 hRows hb hb1 hasz hkeepr hoth;refine⟨_,w1,b,off,cap,hr,by rw[hapl],?_,by rw[<- hw1];rfl,by rw[<- hw1];rfl,by rw[<- hw1];rfl,.inr ⟨off,cap,rfl,hS1,by rw[<- hw1];simp,hoth,k1⟩⟩;refine Rep.join (arr:=(splice arr.toList (off+l1.length*t.width) news).toArray) (e:=e1) (V1:=V1) (V2:=V2) (K1:=fun _ _ _=>False) (K2:=fun _ _ _=>False) hb1 (by simp only[big];omega) hroom (by rw[hasz];exact hsz1) rfl ?_ ?_ ?_ (hcc2' w1) (fun _ _ _ _ _ h=>h.elim) (fun _ _ _ _ _ h=>h.elim) (fun _ _ _ _ _ _ _ _ _ h=>h.elim) (fun _ _ _ _ _ _ _ _ _ h=>h.elim) (fun _ _ _ _ _ _ _ _ _ h=>h.elim);{intro i j hi hj;have:=hrow1 i j hi hj;rw[hkeepr _ (by omega)];exact hvv1 i j hi hj};{intro i j hi hj;have:=hrow2 i j hi hj;rw[jF,kP,zeV _ _ _ hbs _ (by omega) (by rw[hnl];omega),<- hnv i j hi hj];congr 1;omega};{intro i x hx j c hcj;exact(hcc1 i x hx j c hcj).flat (zte hf hcj)}}
  .generalize holds:(arr.toList.drop off).take (l1.length*t.width)=olds;have hol:olds.length=l1.length*t.width:=(by rw[<- holds];simp;omega);have hoat:∀k,k<l1.length*t.width->olds[k]?=arr[off+k]?:=by intro k hk;rw[<- holds,jJ,if_pos hk,jM];simp
   have hr:=run_append_grow (P:=C.P) w T oT e i z hE.und hi hz ⟨b,off,none⟩ l1.length cap olds (by rw[hs];exact hol) (fun j u hu=>by
    have hj:j<l1.length*t.width:=by rw[<- hol];exact(qA.1 hu).1
    rw[add_lit,cell_of_block hb,<- hoat j hj];exact hu) ⟨b2,off2,none⟩ l2.length cap2 news (by rw[hs];exact hnl) hnc (by omega) (by omega) (growslice_fits (by omega) hbytes)
   have hge:=grownCap_ge w (l1.length+l2.length) cap e;refine grown olds _ V1 _ hol hge (by rw[size_zeroCells,hzsz]) (fun i j hi hj=>?_) (fun i x hx j c hcj=>⟨_,hcc1 i x hx j c hcj⟩) hr;have:(i+1)*t.width<=l1.length*t.width:=qQ _ hi;rw[jH] at this;rw[hoat _ (by omega),<- uH];exact hvv1 i j hi hj
end
section
variable {C:Cfg} {w0 w w1:World} {S0:zT} {U:Nat->Prop} {st st1 st':St} {E E1:Env} {ts:Array Value} {sv:List (Array Value)}
def Late (w0:World)(st:St)(E:Env)(x:App)(v:Value)(w:World):Prop :=
 ∃(n0 bv offv cap:Nat) (R:Root),w0.heap.size<=n0/\(∀q Q,st.root q=some Q->∀y,E.φ q y->y<n0)/\(∀l cs,zl st.lo l=some cs->E.β l<n0)/\
  v = .slice (some ⟨bv,offv,none⟩) x.l.length cap/\Rep true w v (.s x.t x.l) (λy=>y=bv)/\st.root x.r=some R/\
  (n0<=bv\/∃off1 len1 cap1,zQ w R.t (E.ρ x.r) x.p=some (.slice (some ⟨bv,off1,none⟩) len1 cap1))
theorem Late.states {x:App}{v:Value}(h:Late w0 st E x v w)(hr:∀n,st'.root n=st.root n)(hl:∀n,zl st'.lo n=zl st.lo n):Late w0 st' E x v w:=by obtain⟨n0,bv,offv,cap,R,h1,h2,h3,h4,h5,h6,h7⟩:=h;exact⟨n0,bv,offv,cap,R,h1,λq Q hq=>h2 q Q (by rw[<- hr];exact hq),λl cs hq=>h3 l cs (by rw[<- hl];exact hq),h4,h5,by rw[hr];exact h6,h7⟩
theorem zDq {r:Nat}(a:At):zcO r [] a=a:=by cases a<;>simp [zcO,coarse]
theorem zDr {r:Nat}(m:MV):zga r [] m=m:=by have h:zcO r []=id:=funext λa=>zDq a;have hT:∀x,zlB r [] x=x:=λx=>(by cases x<;>simp [zlB,h]);have hT':zlB r []=id:=funext hT;cases m<;>simp [zga,hT,hT']
theorem zXY (h:Dead st){n:Nat}{R:Root}(hR:st.root n=some R):R.ep=none:=by obtain⟨h1,h2⟩:=zbr hR;rcases h2 with h2|h2;{exact h2};{have:=h n R _ h1 h2;omega}
theorem zYr {v:Value}{t:Ty}{l:List t.den}{S:zT}{b off n cap:Nat}(h:Rep true w v (.s t l) S)(hv:v = .slice (some ⟨b,off,none⟩) n cap):b<w.heap.size/\S b:=by cases h with|nil=>cases hv|void _ _ _ ho=>cases ho|sl _ _ b4 _ _ _ _ _ _ _ _ hb4 _ _ _ _ hS4=>cases hv;exact⟨(qS.1 hb4).1,hS4⟩
theorem zZV (hC:CfgOk C)(hS:Sim w0 S0 U st E ts sv w)(hd:Dead st){o:Oper}{x:App}(h:zps C st o=some (true,x)) :
 o.guard=none/\o.dst=some x.dst/\∃(v:Value) (w':World),(execOp ({tmps:=ts,defers:=[]}:Act).eval o).run C.P w = .ok (.value v) w'/\
  Sim w0 S0 U (st.put o.dst<|.v<|.at .bad) E (({tmps:=ts,defers:=[]}:Act).put o.dst v).tmps sv w'/\Late w0 st E x v w':=by
 unfold zps at h;split at h
 .rename_i c d ho hdst hgu;split at h
  .rename_i hcb;split at h
   .rename_i a0 y0 T T2 hca hct;split at h
    .rename_i hTT;subst hTT;split at h
     .rename_i t r a p r2 p2 hT h1 h2;split at h
      .rename_i R cv1 cv2 hR hn1 hn2;split at h
       .rename_i hcond;simp only[qE,jE,beq_eq_false_iff_ne]at hcond;obtain⟨⟨hown,hfl⟩,hne⟩:=hcond;split at h
        .rename_i m t2 y2 l2' hm;simp only[qC,jR]at h;obtain⟨hfew,rfl⟩:=h;refine⟨hgu,hdst,?_⟩;obtain⟨l1,l2,e1,e2,rfl⟩:=zxw hm;subst e1;have hl2:l2≠[]:=by intro e;subst e;cases e2
         rw[e2]at hn2
         clear e2
         generalize hp0:a::p=pp at h1 hn1;have hM:=hS.mem;obtain⟨hx,_⟩:=zbA hS h1;obtain⟨hy,_⟩:=zbA hS h2;have hh:=hx.2 R hR;have hrepR:=hM.rep r R hR;rw[hown]at hrepR;obtain⟨t',l0,S1,f1,f2,f3,f4,f5⟩:=Rep.focus pp hrepR hh;have hg1:zg3 R.t R.l pp=some (.s t l1):=by obtain⟨R',hR',hg'⟩:=zfT hn1;rw[hR]at hR';cases hR';exact hg'
         rw[hg1] at f1;cases f1;obtain⟨R2,S2,hR2,g1,g2,g3,g4⟩:=zsJ hS hy hn2;obtain⟨v,w',bv,offv,cap,hrun,hv,hrep,hos,htp,hout,hcase⟩:=z3N hC hT hfl f3 g3.ro hl2 hfew o.type;have hca':c.args = #[a0,y0]:=by rw[<- hca]
         have hct':c.argTypes = #[T2,T2]:=by rw[<- hct]
         have hexec:(execOp ({tmps:=ts,defers:=[]}:Act).eval o).run C.P w = .ok (.value v) w':=by simp[execOp,ho,resolve,hcb,invoke,builtin,hca',hct',hrun]
         have hβ:∀l cs,zl st.lo l=some cs->E.β l<w.heap.size:=by intro l cs h;obtain⟨_,vals,e,h2,_⟩:=hM.loc l cs h;exact(qS.1 h2).1
         rcases hcase with⟨hbv,hsz,hsame⟩|⟨off1,cap1,hv1,hS1b,hsz,hoth,hrep1⟩
         .obtain⟨hM',hT'⟩:=hM.addRoots hS.ids.mem (dro:=[]) (w1:=w') (E1:=E) hos htp hout (by omega) hsame (λq Q hq=>by cases hq) (λq Q _ _ hq=>by cases hq) (λ_ _=>⟨rfl,rfl,rfl⟩)
          refine⟨v,w',hexec,Sim.next hS (st1:=st) hM' hT' rfl rfl (λ_ h=>h) hS.ids.ro hS.ids.lo trivial (λn hn=>by simp[MV.ids,zbw,zN,At.ids,zbh,zbn]at hn),?_⟩
          exact⟨w.heap.size,bv,offv,cap,R,hM.size,λq Q hq y hy=>hM.rlt q Q hq y hy,hβ,hv,hrep,hR,.inl (by omega)⟩
         .obtain⟨m,hm1,hrm,hh1,hh2⟩:=f5 w' l1 S1 (λz _ hnz=>hoth z λe=>hnz (e ▸ hS1b)) (λ_ h _=>h) hrep1;have hmR:=zMH pp hg1 m hm1;subst hmR;obtain⟨_,_,_,_,fwp⟩:=f5 w l1 S1 (λ_ _ _=>rfl) (λ_ h _=>h) f3;have hhdr:∀q u,zQ w R.t (E.ρ r) q=some u->zQ w' R.t (E.ρ r) q=some u:=by intro q u hq;refine hh1 q u hq (λq' he=>?_);subst he;rw[fwp]at hq;exact zZH hfl q' _ _ hq
          have hsim:=zCW (w1:=w') (m:=R.l) (js:=[]) (S3:=E.φ r) hS hR hown hos htp hout (by omega) (λz hz hnz=>hoth z λe=>hnz (f4 z<|e ▸ hS1b)) (λz hz=>⟨.inl hz,by have:=hM.rlt r R hR z hz;omega⟩) (hrm.weak λz hz=>by
           rcases hz with⟨h,_⟩|h
           .exact h
           .exact f4 z h) (λq u hq _=>hhdr q u hq)
          have hE:({E with φ:=λn=>if n=r then E.φ r else E.φ n}:Env)=E:=by
           have:(λn=>if n=r then E.φ r else E.φ n)=E.φ:=by
            funext n
            split
            .rename_i e;rw[e]
            .rfl
           rw[this]
          rw[hE]at hsim;have hS':Sim w0 S0 U st E ts sv w':=by refine hsim.fewer (λt=>?_) (λn=>?_) ?_ (λn Q hQ=>?_) (λn Q hQ=>?_) (λn Q e hQ he=>hM.epo n Q e hQ he);{simp only [zhP,qO];cases st.tm[t]? <;> simp [zDr]};{simp only [zhP];rw[zkj];have:zcO r []=id:=funext λa=>zDq a;cases zl st.lo n<;>simp [this]};{simp only [zhP];have:zga r []=id:=funext λa=>zDr a;simp[this]};{have he:=zXY hd hQ;obtain⟨q1,_⟩:=zbr hQ;refine zhx ?_ (.inl he);simp only[zhP,zl];split;{rename_i hb;simp only[qL]at hb;subst hb;rw[hR]at hQ;cases hQ;rfl};{exact q1}};{simp only [zhP,zl];split;{exact⟨_,rfl⟩};{exact⟨Q,hQ⟩}}
          refine⟨v,w',hexec,hS'.putV trivial (λn hn=>by simp[MV.ids,zbw,zN,At.ids,zbh,zbn]at hn),?_⟩
          refine⟨w.heap.size,bv,offv,cap,R,hM.size,λq Q hq y hy=>hM.rlt q Q hq y hy,hβ,hv,hrep,hR,.inr ⟨off1,l1.length,cap1,?_⟩⟩;refine hhdr pp _ ?_;rw[hh,hv1]
        .cases h
       .cases h
      .cases h
     .cases h
    .cases h
   .cases h
  .cases h
 .cases h
theorem zVM (hC:CfgOk C)(hS:Sim w0 S0 U st E ts sv w){o:Oper}{id:Nat}{x:App}{v:Value}{st2:St}(hL:Late w0 st E x v w)(hv0:ts[x.dst]?=some v)(h:zzM C st o x=some (true,st2)) :
 o.guard=none/\Goes C w0 S0 U st ts sv w o id (λ_=>st2.put o.dst .und)/\st2.nid=st.nid:=by
 unfold zzM at h;split at h
 .rename_i T a d ho hgu;split at h
  .rename_i t1 r p i off hT ha;split at h
   .rename_i R t l c hRr hn hsp;split at h
    .rename_i hcond;simp only[qE,qY,Nat.beq_eq_true_eq]at hcond;obtain⟨⟨⟨hown,hdd⟩,hrr⟩,hfit⟩:=hcond;have hdd:=kG hdd;have hrr:=kG hrr;subst hdd hrr;split at h
     .rename_i l' hset;split at h
      .rename_i m hput;simp only[qC,jR]at h;obtain⟨rfl,rfl⟩:=h;refine⟨hgu,?_,rfl⟩;have hpp:=zqZ hsp;obtain⟨n0,bv,offv,capv,R',hn0,hrn,hln,hve,hvrep,hR',hwhere⟩:=hL;rw[hRr]at hR';cases hR';obtain⟨hav,hai⟩:=zbA hS ha;obtain⟨b,o2,len,cap,t1',e1,e2,e3,e4,e5⟩:=hav.2 R hRr;have hM:=hS.mem;have hrep:=hM.rep _ R hRr;rw[hown]at hrep;obtain⟨t',l0,S1,f1,f2,f3,f4,f5⟩:=Rep.focus p hrep e1;have hg1:zg3 R.t R.l p=some (.s t l):=by obtain⟨R',hR',hg'⟩:=zfT hn;rw[hRr]at hR';cases hR';exact hg'
       rw[hg1] at f1;cases f1;rw[e2] at f2;cases f2;obtain⟨_,_,_,_,fwp⟩:=f5 w l S1 (λ_ _ _=>rfl) (λ_ h _=>h) f3;cases f3 with
       |void _ _ _ ho=>cases ho
       |sl _ _ _ _ _ arr e' fz V K _ hb hfz hlen1 hcap hsz hS' hsub hdis hvv hcc=>
       have hfz':=hfz rfl;subst hfz';have hRows:Rows true w t l arr o2 b V K S1:=⟨hsub,hdis,hvv,hcc⟩;have hone:v.oneCell'=true:=by rw[hve];rfl
       have hcells:v.cells = #[v]:=cells_one hone;have hfit':off+[v].length<=t.width:=by simp;omega
       have hrow:(i.toNat+1)*t.width<=cap*t.width:=qQ _ (by omega)
       rw[jH]at hrow;have hrun:=zn8 (w:=w) (v:=v) (off:=o2+i.toNat*t.width+off) (hC.cty T false [.s t1] hT) hb (by rw[hcells];rfl) (by simp;omega) (by rw[hcells];intro u hu;simp at hu;rw[hu];exact hone)
       rw[hcells]at hrun;have hl1:(#[v]:Array Value).toList=[v]:=rfl;rw[hl1]at hrun;generalize hw1:w.setRow b (splice arr.toList (o2+i.toNat*t.width+off) [v]).toArray=w1 at hrun;have hb1:w1.heap[b]?=some (.cells (splice arr.toList (o2+i.toNat*t.width+off) [v]).toArray e' (0,0)):=by rw[<- hw1];exact setRow_heap w b _ _ e' _ hb
       have hoth:∀y,y≠b->w1.heap[y]?=w.heap[y]?:=λy hy=>by rw[<- hw1];exact setRow_other w b y _ hy
       have hrb:E.φ x.r b:=f4 b hS';have hbn:b<n0:=hrn _ R hRr b hrb;have hold:∀i' j,i'<l.length->j<t.width->¬ Hit i.toNat off [v].length i' j->∀y,K i' j y->w1.heap[y]?=w.heap[y]?:=λi' j hi' hj _ y hy=>hoth y ((hsub i' j y hi' hj hy).2 rfl)
       have hbv:n0<=bv\/K i.toNat off bv:=by rcases hwhere with h|⟨off1,len1,cap1,h⟩;{exact .inl h};{right;rw[<- hpp,fwp]at h;simp only[zQ]at h;rw[if_pos ⟨e3,e4⟩]at h;split at h;{rename_i t3 hsh;rw[cell_of_block hb,hvv i.toNat off e4 hfit]at h;simp only[qC]at h;obtain⟨c,hc,hct⟩:=zw5 (x:=ix l i t.dflt) hsh;obtain⟨l3,rfl⟩:=zk5 hct;have hr3:=hcc i.toNat _ (zlc e4) off _ hc;rw[h]at hr3;cases hr3 with|void _ _ _ ho=>cases ho|sl _ _ _ _ _ _ _ _ _ _ _ _ _ _ _ _ hS3=>exact hS3};{cases h}}
       have hbvb:bv≠b:=by rcases hbv with h|h;{omega};{exact(hsub _ _ bv e4 hfit h).2 rfl}
       have hset1:=Rep.setCells (w:=w) (w1:=w1) (us:=[v]) (Kn:=λ_ y=>y=bv) hlen1 hcap hsz hRows e4 rfl hfit' hset hb1 (λk c u hc hu=>by
        cases k with
        |zero=>simp only[qH,qC]at hc hu;subst hc hu;exact hvrep.frame (λy hy=>hoth y (by rw[hy];exact hbvb))
        |succ k=>simp at hc)
        hold
        (λk y _ hy=>by rw[hy];exact hbvb)
        (λk k' y hk hk' _ _=>by simp at hk hk';omega)
        (λk y i' j hk hy hi' hj hnh hy'=>by
         subst hy;rcases hbv with h|h
         .have:=hrn _ R hRr y (f4 y (hsub i' j y hi' hj hy').1);omega
         .have:=hdis rfl _ _ _ _ y e4 hfit hi' hj h hy';exact hnh ⟨this.1.symm,by omega,by simp;omega⟩)
       have hS2:∀y,(y=b\/(∃i' j,i'<l.length/\j<t.width/\¬ Hit i.toNat off [v].length i' j/\K i' j y)\/∃k,k<[v].length/\y=bv)->S1 y\/(n0<=y/\y=bv):=by intro y hy;rcases hy with rfl|⟨i',j,hi',hj,_,hk⟩|⟨k,hk,rfl⟩;{exact .inl hS'};{exact .inl (hsub i' j y hi' hj hk).1};{rcases hbv with h|h;{exact .inr ⟨h,rfl⟩};{exact .inl (hsub _ _ _ e4 hfit h).1}}
       obtain⟨m',hm',hrm,hh1,hh2⟩:=f5 w1 l' _ (λy hy hny=>hoth y λe=>hny (e ▸ hS')) (λy hy hy'=>by
        rcases hS2 y hy with h|⟨h,_⟩
        .exact h
        .have:=hrn _ R hRr y hy';omega) hset1
       rw[hput]at hm';cases hm';have hsz1:w1.heap.size=w.heap.size:=by rw[<- hw1];simp
       have hbvlt:bv<w.heap.size:=(zYr hvrep hve).1;have hsim:=zzG (w1:=w1) (m:=m) (js:=[cols p++[off]]) hn0 hrn hln hS hRr hown (by rw[<- hw1];rfl) (by rw[<- hw1];rfl) (by rw[<- hw1];rfl) (by omega) (λy _ hny=>hoth y λe=>hny (e ▸ hrb)) (λy hy=>by
        rcases hy with⟨hy,_⟩|hy
        .exact⟨.inl hy,by have:=hM.rlt _ R hRr y hy;omega⟩
        .rcases hS2 y hy with h|⟨h,rfl⟩
         .exact⟨.inl<|f4 y h,by have:=hM.rlt _ R hRr y (f4 y h);omega⟩
         .exact⟨.inr h,by omega⟩) hrm (λq u hq hns=>by
        rcases zrm p q with⟨q',rfl⟩|hnp
        .rw [hh2 q'];rw[fwp q']at hq;refine zns (us:=[v]) hcap hsz hRows hb e4 rfl hfit' hset hb1 hold q' (λi' j q'' he k c hj hck=>?_) hoth hq;subst he hj;cases k with
         |succ k=>simp at hck
         |zero=>exfalso;have h9:=kL.1 hns (cols p++[off]) (by simp);exact absurd (zpu p i' off q'') h9
        .exact hh1 q u hq λq' he=>absurd ⟨q',he⟩ hnp)
       have hput2:=hsim.putV (dst:=o.dst) (m:=.und) (v:=undef) rfl (λn hn=>by simp[MV.ids,zbw]at hn)
       refine ztg (w':=w1) ?_ ⟨hput2.mem,⟨λn R hn=>.inl (hput2.ids.ro n R hn),λn cs hn=>⟨.inl (hput2.ids.lo n cs hn).1,λa ha m hm=>.inl ((hput2.ids.lo n cs hn).2 a ha m hm)⟩,λm hm n hn=>.inl (hput2.ids.tm m hm n hn),λf hf m hm n hn=>.inl (hput2.ids.stk f hf m hm n hn)⟩,hput2.tm,hput2.stk⟩;have hev:({tmps:=ts,defers:=[]}:Act).eval (.tmp x.dst)=v:=by simp[Act.eval,hv0]
       simp[execOp,ho,Instr.storeAt,e5,Instr.sureAddr,hev,hrun]
      .cases h
     .cases h
    .cases h
   .cases h
  .cases h
 .cases h
end
section
variable {C:Cfg} {w0 w w1:World} {S0:zT} {U:Nat->Prop} {st st1:St} {E E1:Env} {ts:Array Value} {sv:List (Array Value)}
variable {ops:Array Oper} {b:Bool} {base:Nat} {cl:List (List Nat)} {ss:List Step} {st0:St}
theorem zGF {w w':World}(h:w'.heap=w.heap):∀(p:List (Int×Nat)) (t:Ty) (v:Value),zQ w' t v p=zQ w t v p
 |[],t,v=>by simp only[zQ]
 |(i,j)::p,t,v=>by have hc:∀a,w'.cell? a=w.cell? a:=λa=>(by simp only[World.cell?,h]);have ih:=zGF h p;cases v with|slice a len cap=>cases a<;>simp only [zQ,hc,ih]|_=>simp only[zQ]
theorem Sim.heap (hS:Sim w0 S0 U st E ts sv w){w':World}(h1:w'.heap=w.heap)(h2:w'.os=w.os)(h3:w'.tape=w.tape)(h4:w'.output=w.output):Sim w0 S0 U st E ts sv w':=by
 have T:Trans st E w st E w' (λ_=>True):=⟨λr _ R h=>⟨R,h,rfl,λp u hu=>by rw[zGF h1];exact hu⟩,λl _ cs h=>⟨⟨cs,h⟩,rfl⟩,rfl⟩
 have hM:=hS.mem;refine⟨⟨by rw[h2];exact hM.os,by rw[h3];exact hM.tape,by rw[h4];exact hM.output,by rw[h1];exact hM.size,λb hb hn=>by rw[h1];exact hM.keep b hb hn,
  λr R h=>(hM.rep r R h).frame (λx _=>by rw[h1]),λr R h x hx=>by rw[h1];exact hM.rlt r R h x hx,hM.mine,hM.frz,hM.apart,λl cs hl=>?_,hM.linj,hM.lro,hM.epo,hM.κ⟩,hS.ids,
  Slots.tr T (λ_ _ _ _=>trivial) hS.tm,Stack.tr T (λ_ _ _ _ _ _=>trivial) hS.stk⟩
 obtain⟨g1,vals,e,g2,g3,g4⟩:=hM.loc l cs hl;exact⟨g1,vals,e,by rw[h1];exact g2,g3,λj c u hc hu=>⟨(g4 j c u hc hu).1,VA.tr T (λ_ _=>trivial) (g4 j c u hc hu).2⟩⟩
theorem Sim.blind (hS:Sim w0 S0 U st E ts sv w)(c:Bool)(n:Nat):Sim w0 S0 U {st with nid:=n,ep:=if c then st.ep+1 else st.ep} E ts sv w:=by
 have h:=hS.nid n;cases c with
 |false=>exact h
 |true=>refine h.fewer (λ_=>rfl) (λ_=>rfl) rfl (λr R hR=>?_) (λr R hR=>⟨R,hR⟩) (λr R e hR he=>?_);{obtain⟨g1,g2⟩:=zbr hR;have hn:R.ep=none:=(by rcases g2 with g2|g2;{exact g2};{have:=hS.mem.epo r R _ g1 g2;simp only[if_true] at this;omega});show St.root {st with nid:=n} r=some R;unfold St.root;have g3:zl ({st with nid:=n}:St).ro r=some R:=g1;rw[g3];simp only[hn]};{have:=hS.mem.epo r R e hR he;show e<=st.ep+1;omega}
theorem cnt_lt {p q:Nat->Bool}:∀(l:List Nat),(∀x∈l,q x=true->p x=true)->(∃x∈l,p x=true/\q x=false)->l.countP q<l.countP p
 |[],_,h=>by obtain⟨x,hx,_⟩:=h;cases hx
 |a::l,h1,h2=>by
  have hle:∀(m:List Nat),(∀x∈m,q x=true->p x=true)->m.countP q<=m.countP p:=λm hm=>List.countP_mono_left hm;have hm:=hle l (λx hx=>h1 x (by simp[hx]))
  simp only[vE];cases hq:q a with
  |true=>
   rw[h1 a (by simp) hq]
   have:l.countP q<l.countP p:=cnt_lt l (λx hx=>h1 x (by simp[hx])) (by
    obtain⟨x,hx,g1,g2⟩:=h2;rcases qI.1 hx with rfl|hx
    .rw [hq] at g2;cases g2
    .exact⟨x,hx,g1,g2⟩)
   simp only[if_true];omega
  |false=>
   cases hp:p a with
   |true=>simp;omega
   |false=>
    have:l.countP q<l.countP p:=cnt_lt l (λx hx=>h1 x (by simp[hx])) (by
     obtain⟨x,hx,g1,g2⟩:=h2;rcases qI.1 hx with rfl|hx
     .rw [hp] at g1;cases g1
     .exact⟨x,hx,g1,g2⟩)
    simp;omega
def left (n:Nat)(listed:Array Bool):Nat:=(List.range n).countP λi=>!listed.getD i true
theorem zEU {listed:Array Bool}{n i:Nat}(hi:i<n)(hl:listed.getD i true=false):left n (listed.setIfInBounds i true)<left n listed:=by unfold left;have hlt:i<listed.size:=(by rcases u1 i listed.size with h|h;{exact h};{simp [uX h]at hl});refine cnt_lt _ (λx _ hx=>?_) ⟨i,kF.2 hi,by rw[hl];rfl,by simp[hlt]⟩;by_cases hxi:i=x;{subst hxi;simp[hlt]at hx};{rwa [getD_set_ne true hxi]at hx}
theorem zSB {C:Cfg}{st:St}{o:Oper}{id:Nat}{d:Dl}(hp:zqn o=true)(h:zjC C st o id=some d):delta C st o id=some d:=by unfold zjC at h;cases hd:delta C st o id with|some d'=>rw[hd]at h;exact h|none=>rw[hd]at h;exfalso;have h:zkE C st o id=some d:=h;have hn:zjm C o=none:=(by unfold zqn at hp;unfold zjm;cases hop:o.op with|call c=>rw[hop]at hp;simp at hp|_=>rfl);unfold zkE at h;rw[hn]at h;cases h
structure Waits (md:Region.Mode) (ops:Array Oper) (cl:List (List Nat)):Prop where
 at':∀i,i<ops.size->cl.getD i []=waits ops (cl.take i) i
 lt:∀i,i<ops.size->∀j∈cl.getD i [],j<i
 sub:∀e,Region.binds .any e=true->Region.binds md e=true
 rk:∃rk:Nat->Nat,∀(i:Nat) (o:Oper),ops[i]?=some o->∀e∈o.after,Region.binds md e=true->e.on<ops.size/\rk e.on<rk i
variable {md:Region.Mode}
theorem z3f (hat:∀i,i<ops.size->cl.getD i []=waits ops (cl.take i) i){i:Nat}{o:Oper}(ho:ops[i]?=some o){e:Edge}(he:e∈o.after)(hb:Region.binds .any e=true):e.on∈cl.getD i []:=by have hi:=(qS.1 ho).1;rw[hat i hi];simp only[waits,ho];exact zIW (by simpa using he) hb
theorem zOh {l:List (List Nat)}{i j k:Nat}(h:k∈(l.take i).getD j []):k∈l.getD j []:=by rw[j4,jJ]at h;rw[j4];split at h;{exact h};{simp at h}
theorem Waits.inv (W:Waits md ops cl){i j:Nat}{o:Oper}(ho:ops[i]?=some o)(hj:j∈cl.getD i []):∃e∈o.after,Region.binds .any e=true/\(j=e.on\/j∈cl.getD e.on []):=by have hi:=(qS.1 ho).1;rw[W.at' i hi]at hj;simp only[waits,ho]at hj;obtain⟨e,he,hb,h⟩:=zIX hj;exact⟨e,by simpa using he,hb,h.imp id zOh⟩
def XL (listed:Array Bool)(k:Nat):Bool:=listed.getD k false
theorem zC6 (W:Waits md ops cl){listed:Array Bool}(hX:zjN cl (XL listed)){i:Nat}(hi:i∈Region.ready md ops listed):∀j∈cl.getD i [],XL listed j=true:=by obtain⟨_,o,ho,hall⟩:=mem_ready.1 hi;intro j hj;obtain⟨e,he,hb,h|h⟩:=W.inv ho hj;{subst h;exact hall e he (W.sub e hb)};{exact hX _ (hall e he<|W.sub e hb) j h}
theorem least {p:Nat->Prop}:∀n,p n->∃m,m<=n/\p m/\∀j,j<m->¬ p j:=by intro n;induction n using Nat.strongRecOn with|_ n ih=>intro hp;by_cases h:∃j,j<n/\p j;{obtain⟨j,h1,h2⟩:=h;obtain⟨m,g1,g2,g3⟩:=ih j h1 h2;exact⟨m,by omega,g2,g3⟩};{exact⟨n,qX _,hp,λj hj hpj=>h ⟨j,hj,hpj⟩⟩}
theorem zIf (W:Waits md ops cl){listed:Array Bool}(hsz:listed.size=ops.size){i0:Nat}(hi0:i0<ops.size)(hl0:listed.getD i0 true=false):∃i,i∈Region.ready md ops listed:=by obtain⟨rk,hrk⟩:=W.rk;obtain⟨n,_,⟨i,hi,hl,hn⟩,hmin⟩:=least (p:=λn=>∃i,i<ops.size/\listed.getD i true=false/\rk i=n) (rk i0) ⟨i0,hi0,hl0,rfl⟩;refine⟨i,mem_ready.2 ⟨hl,ops[i],by simp[hi],λe he hb=>?_⟩⟩;obtain⟨h1,h2⟩:=hrk i ops[i] (by simp[hi]) e he hb;cases h:listed.getD e.on false with|true=>rfl|false=>exfalso;refine hmin (rk e.on) (by omega) ⟨e.on,h1,?_,rfl⟩;have hlt:e.on<listed.size:=(by omega);simp only[Array.getD,hlt,dif_pos]at h ⊢;exact h
theorem zra {listed:Array Bool}{i:Nat}(hi:i<listed.size):XL listed i=listed.getD i true:=by simp[XL,hi]
theorem zF4 {listed:Array Bool}{i:Nat}(hi:i<listed.size)(k:Nat):XL (listed.setIfInBounds i true) k=(XL listed k||k==i):=by unfold XL;by_cases h:i=k;{subst h;simp[hi]};{rw [getD_set_ne false h];have:(k==i)=false:=(by simp;omega);rw[this,uZ]}
theorem zWG {P:Program}{Q Q':Exit->Act->World->Prop}(hQ:∀e,e≠.normal->∀a w,Q' e a w->Q e a w){i:Nat}{K:Act->World->Prop}{a:Act}{w:World}(h:wpOp P ops Q' i K a w):wpOp P ops Q i K a w:=by
 have hlo:LetsOut Q'->LetsOut Q:=(by rintro⟨a,w,h⟩;exact⟨a,w,hQ _ (by simp) a w h⟩);unfold wpOp at h ⊢;split;{rename_i hn;rw[hn]at h;exact h}
 .rename_i o ho;simp only[ho]at h;split
  .rename_i hw;rw[if_pos hw]at h;rcases h with h|⟨h1,h2⟩
   .left
    unfold Oper.wp at *;generalize (execOp a.eval o).run P w=r at *;cases r with
    |ok n w' =>
     cases n<;>simp only [Oper.upon]at h ⊢ <;>
      first
       |exact h
       |exact h.mono (λe w'' he=>by
        cases e with
        |returned v=>exact he
        |panicked c=>exact hQ _ (by simp) _ _ he
        |outgrown=>exact hlo he)
    |halt x w' =>cases x<;>simp only [Oper.upon]at h ⊢ <;> first|exact hQ _ (by simp) _ _ h|exact h
   {exact .inr ⟨h1,hlo h2⟩}
  {rename_i hw;rw[if_neg hw]at h;exact h}
theorem zqK (W:Waits md ops cl){listed:Array Bool}{m:Nat}(hsz:listed.size=ops.size)(hl:∀i,i<ops.size->listed.getD i true=decide (i<m)):zjN cl (XL listed):=by intro k hk j hj;have hks:k<ops.size:=(by rcases u1 k listed.size with h|h;{omega};{simp [XL,uX h]at hk});rw[zra (by omega),hl k hks]at hk;simp at hk;have:=W.lt k hks j hj;rw[zra (by omega),hl j (by omega)];simp;omega
theorem zZ2 {P:Program}{Q:Exit->Act->World->Prop}{fuel:Nat}{listed:Array Bool}{a:Act}{w:World}(hl:∀i,i<ops.size->listed.getD i true=true)(h:Q .normal a w):wpAny P md ops Q fuel listed a w:=by have hr:Region.ready md ops listed=[]:=(by refine List.eq_nil_iff_forall_not_mem.2 (λi hi=>?_);obtain⟨h0,o,ho,_⟩:=mem_ready.1 hi;have hi:=(qS.1 ho).1;rw[hl i hi]at h0;cases h0);cases fuel with|zero=>exact⟨hr,h⟩|succ fuel=>exact⟨λ_=>h,λi hi=>by rw[hr]at hi;cases hi⟩
theorem zUi (W:Waits md ops cl){P:Program}{Q:Exit->Act->World->Prop}{fuel m:Nat}{listed:Array Bool}{a:Act}{w:World}(hsz:listed.size=ops.size)(hm:m<ops.size)(hp:Pinned ops.size cl m)(hl:∀i,i<ops.size->listed.getD i true=decide (i<m))(hf:left ops.size listed<=fuel)(h:∀fl l',l'.size=ops.size->(∀i,i<ops.size->l'.getD i true=decide (i<m+1))->left ops.size l'<=fl->fuel=fl+1->l'=listed.setIfInBounds m true->wpOp P ops Q m (wpAny P md ops Q fl l') a w):wpAny P md ops Q fuel listed a w:=by have hu:listed.getD m true=false:=(by rw[hl m hm];simp);obtain⟨i1,hmr⟩:=zIf W hsz hm hu;have hlt:=zEU (listed:=listed) (n:=ops.size) (i:=m) hm hu;obtain⟨fuel,rfl⟩:∃f,fuel=f+1:=⟨fuel-1,by omega⟩;refine⟨λh=>(by rw[h]at hmr;cases hmr),λi hi=>?_⟩;obtain⟨h0,o,ho,_⟩:=mem_ready.1 hi;have his:=(qS.1 ho).1;rw[hl i his]at h0;simp only[decide_eq_false_iff_not,Nat.not_lt]at h0;have hieq:i=m:=(by by_cases hne:i=m;{exact hne};{exfalso;have:=zC6 W (zqK W hsz hl) hi m (hp.wait i (by omega) his);rw[zra (by omega),hu] at this;cases this});subst hieq;refine h fuel _ (by simp[hsz]) (λk hk=>?_) (by omega) rfl rfl;by_cases hik:i=k;{subst hik;simp[hsz,his]};{rw [getD_set_ne true hik,hl k hk];congr 1;simp only[eq_iff_iff];omega}
theorem zO0 {a T:Nat}(W:Waits md ops cl)(hTs:T<=ops.size)(hpin:T<ops.size->Pinned ops.size cl T){P:Program}{Q:Exit->Act->World->Prop}{J:(Nat->Bool)->Env->Array Value->World->Prop}(hcongr:∀X Y E ts w,(∀k,a<=k->k<T->X k=Y k)->J X E ts w->J Y E ts w)(hstep:∀X Y i,zjN cl X->a<=i->i<T->X i=false->(∀j∈cl.getD i [],X j=true)->(∀k,Y k=(X k||k==i))->∀E ts w,J X E ts w->∀K:Act->World->Prop,(∀E' ts' w',J Y E' ts' w'->K {tmps:=ts',defers:=[]} w')->wpOp P ops Q i K {tmps:=ts,defers:=[]} w)(htail:∀(fl:Nat) (l':Array Bool) (E':Env) (ts':Array Value) (w':World),l'.size=ops.size->(∀i,i<ops.size->l'.getD i true=decide (i<T))->left ops.size l'<=fl->J (λ_=>true) E' ts' w'->wpAny P md ops Q fl l' {tmps:=ts',defers:=[]} w') :
 ∀(fuel:Nat) (listed:Array Bool) (E:Env) (ts:Array Value) (w:World),listed.size=ops.size->zjN cl (XL listed)->(∀i,i<a->XL listed i=true)->(∀m,T<=m->m<ops.size->XL listed m=false)->left ops.size listed<=fuel->
  J (XL listed) E ts w->wpAny P md ops Q fuel listed {tmps:=ts,defers:=[]} w
 |fuel,listed,E,ts,w,hsz,hX,hbel,hlow,hf,hS=>by by_cases hall:∀i,i<T->XL listed i=true;{have hl:∀i,i<ops.size->listed.getD i true=decide (i<T):=(by intro i hi;rw[<- zra (by omega)];by_cases h:i<T;{rw [hall i h];simp[h]};{rw [hlow i (by omega) hi];simp[h]});exact htail fuel listed E ts w hsz hl hf (hcongr _ _ E ts w (λk _ hk=>hall k hk) hS)};{have hex:∃i,i<T/\XL listed i=false:=(by refine Classical.byContradiction (λhn=>hall λi hi=>?_);cases h:XL listed i with|true=>rfl|false=>exact absurd ⟨i,hi,h⟩ hn);obtain⟨i0,hi0,hi0X⟩:=hex;have hu0:listed.getD i0 true=false:=(by rw[<- zra (by omega)];exact hi0X);obtain⟨i1,hmr⟩:=zIf W hsz (by omega) hu0;have hpos:0<left ops.size listed:=(by have:=zEU (listed:=listed) (n:=ops.size) (i:=i0) (by omega) hu0;omega);obtain⟨fuel,rfl⟩:∃f,fuel=f+1:=⟨fuel-1,by omega⟩;refine⟨λh=>(by rw[h]at hmr;cases hmr),λi hi=>?_⟩;obtain⟨h0,o,ho,_⟩:=mem_ready.1 hi;have his:=(qS.1 ho).1;have hiX:XL listed i=false:=(by rw[zra (by omega)];exact h0);have hw:=zC6 W hX hi;have hia:a<=i:=(by refine Classical.byContradiction (λhn=>?_);rw[hbel i (by omega)]at hiX;cases hiX);have hiT:i<T:=(by refine Classical.byContradiction (λhn=>?_);have hp:=hpin (by omega);by_cases hiT:i=T;{subst hiT;have:=hw i0 (hp.full i0 hi0);rw[hi0X] at this;cases this};{have:=hw T (hp.wait i (by omega) his);rw[hlow T (qX _) (by omega)] at this;cases this});refine hstep _ (XL<|listed.setIfInBounds i true) i hX hia hiT hiX hw (zF4 (by omega)) E ts w hS _ (λE' ts' w' hS'=>?_);refine zO0 W hTs hpin hcongr hstep htail fuel (listed.setIfInBounds i true) E' ts' w' (by simp[hsz]) ?_ ?_ ?_ ?_ hS';{intro k hk j hj;rw[zF4 (by omega)]at hk ⊢;by_cases hki:k=i;{subst hki;rw[hw j hj];rfl};{have:(k==i)=false:=(by simp[hki]);rw[this,uZ]at hk;rw[hX k hk j hj];rfl}};{intro k hk;rw[zF4 (by omega),hbel k hk];rfl};{intro m hm hms;rw[zF4 (by omega),hlow m hm hms];simp;omega};{have:=zEU (listed:=listed) (n:=ops.size) his h0;omega}}
theorem zZJ (hC:CfgOk C)(hH:CtrOk C)(hG:GraftOk C){a T:Nat}(W:Waits md ops cl)(hT:a+ss.length=T)(hTs:T<=ops.size)(hpin:T<ops.size->Pinned ops.size cl T)(F:Free C ops cl b base a ss st0)(hb:b=false->∀k,a<=k->k<T->zkx C ops k=false)(hd:b=true->Dead st0/\0<st0.ep)(hM:∀k,a<=k->k<T->∀n,Mine (base+32*k) n->¬ U n){Q:Exit->Act->World->Prop}(htail:∀(fl:Nat) (l':Array Bool) (E':Env) (ts':Array Value) (w':World),l'.size=ops.size->(∀i,i<ops.size->l'.getD i true=decide (i<T))->left ops.size l'<=fl->
 Sim w0 S0 (UX U base a T λ_=>true) (zbt ops b (λ_=>true) a ss st0) E' ts' sv w'->wpAny C.P md ops Q fl l' {tmps:=ts',defers:=[]} w') :
 ∀(fuel:Nat) (listed:Array Bool) (E:Env) (ts:Array Value) (w:World),listed.size=ops.size->zjN cl (XL listed)->(∀i,i<a->XL listed i=true)->(∀m,T<=m->m<ops.size->XL listed m=false)->left ops.size listed<=fuel->
  Sim w0 S0 (UX U base a T<|XL listed) (zbt ops b (XL listed) a ss st0) E ts sv w->wpAny C.P md ops Q fuel listed {tmps:=ts,defers:=[]} w :=
 zO0 (J:=λX E ts w=>Sim w0 S0 (UX U base a T X) (zbt ops b X a ss st0) E ts sv w) W hTs hpin
  (λX Y E ts w h hS=>by
   rw[zpz ss a st0 λk h1 h2=>h k h1 (by omega)]at hS
   refine hS.uses ?_
   rintro n (h1|⟨k,h0,h1,h2,h3⟩)
   .exact .inl h1
   .exact .inr ⟨k,h0,h1,by rw[<- h k h0 h1];exact h2,h3⟩)
  (λX Y i hX hia hi hXi hr hY E ts w hS K hK=>zMm hC hH hG hT F hX hia hi hXi hr hb hd hM hY hS hK) htail
theorem get_put {st:St}{d:Nat}{m:MV}{κ:Key}(h:κ≠.tm d):(st.put (some d) m).get κ=st.get κ:=by cases κ with|tm t=>have:d≠t:=λe=>h (by rw[e]);simp[St.get,St.put,jD,this]|ro n=>rfl|lo n=>rfl
theorem zYX {st st':St}{o:Oper}(hep:st'.ep=st.ep)(htm:∀t∈znA o,st'.get (.tm t)=st.get (.tm t))(hro:∀n∈(zrj st o).flatMap zbh,st'.get (.ro n)=st.get (.ro n))(hlo:∀n∈(zrj st o).flatMap zbn,st'.get (.lo n)=st.get (.lo n)):Agree st st' o.op.operands.toList:=by refine⟨hep,λx hx=>?_,λx hx m hm a ha=>?_⟩;{cases x with|tmp t=>have ht:t∈znA o:=(by unfold znA;exact uP.2 ⟨_,hx,rfl⟩);simp only[St.opnd,zGA<|htm t ht]|_=>rfl};{have hA:a∈zrj st o:=(by unfold zrj;exact qN.2 ⟨m,uP.2 ⟨x,hx,hm⟩,ha⟩);exact⟨λn hn=>zzo (hro n<|qN.2 ⟨a,hA,hn⟩),λn hn=>zGz (hlo n<|qN.2 ⟨a,hA,hn⟩)⟩}
theorem zSu {st st':St}{o:Oper}(h:Agree st st' o.op.operands.toList):zps C st' o=zps C st o:=by cases hop:o.op with|call c=>rw[hop]at h;have hp:∀x∈c.args.toList,x∈(Op.call c).operands.toList:=λx hx=>(by simp only[Op.operands,Call.operands,Array.toList_append,jI];exact .inr hx);simp only[zps,hop];(cases hd:o.dst with|none=>rfl|some d=>(cases hg:o.guard with|some g=>rfl|none=>simp only;(cases hcb:c.callee with|builtin b=>(cases b with|append=>simp only;split;{rename_i x y T T2 hca hct;have hx:=hp x (by rw[hca];simp);have hy:=hp y (by rw[hca];simp);rw[h.at hx,h.at hy];split;{cases hT:C.sty T with|none=>rfl|some t=>(cases e:st.at x with|none=>rfl|some a=>(cases a with|sl r p=>(cases p with|nil=>rfl|cons ij p=>(cases e2:st.at y with|none=>rfl|some b=>(cases b with|sl r2 p2=>simp only[h.root<|zdY hx e,h.node<|zdY hx e,h.node<|zdY hy e2]|_=>rfl)))|_=>rfl))};{rfl}};{rfl}|_=>rfl)|_=>rfl)))|_=>simp only[zps,hop]
theorem zIe (hC:CfgOk C)(hS:Sim w0 S0 U st E ts sv w){o:Oper}{id:Nat}{d:Dl}(hp:zqn o=true)(h:delta C st o id=some d)(hc:d.c=true):o.guard=none/\zq9 C U st E ts w o d:=by
 unfold zqn at hp;simp only[qE,kH]at hp;obtain⟨hg,hp⟩:=hp;refine⟨hg,?_⟩;cases hop:o.op
 case move x=>
  rw[hop]at hp;cases x with
  |tmp t=>simp only[delta,hop]at h;split at h;{rename_i v hv;cases h;exact zYi hS (.inl hop) hv};{cases h}
  |_=>simp at hp
 (case load T x=>exact zYh hC hS hop h);(case fieldAddr T x f=>exact zC4 hC hS hop h);(case indexAddr T x y=>exact zC5 hC hS hop h hc);(case nilCheck x=>exact zH8 hS hop h);all_goals (rw [hop]at hp;simp at hp)
theorem pure_run {o:Oper}{i:Nat}{d:Dl}{v:Value}{Q:Exit->Act->World->Prop}{K:Act->World->Prop}(ho:ops[i]?=some o)(hg:o.guard=none)(hr:(execOp ({tmps:=ts,defers:=[]}:Act).eval o).run C.P w = .ok (.value v) w1)(h:K {tmps:=(({tmps:=ts,defers:=[]}:Act).put o.dst v).tmps,defers:=[]} w1):wpOp C.P ops Q i K {tmps:=ts,defers:=[]} w:=by unfold wpOp;simp only[ho];rw[if_pos (by simp[Region.wanted,hg])];left;unfold Oper.wp;rw[hr,Oper.upon_value,ziB];exact h
theorem zRk {d t:Nat}{v u:Value}(h:ts[t]?=some u)(hne:d≠t):(({tmps:=ts,defers:=[]}:Act).put (some d) v).tmps[t]?=some u:=by simp[Act.put,Array.getElem?_setIfInBounds_ne hne,h]
theorem zZS (hC:CfgOk C)(hH:CtrOk C)(hG:GraftOk C){a A:Nat}(W:Waits md ops cl)(hA:a+ss.length=A)(hTs:A+1<=ops.size)(hpin:A+1<ops.size->Pinned ops.size cl (A+1))(F:Free C ops cl b base a ss st0)(hb:b=false->∀k,a<=k->k<A->zkx C ops k=false)(hbt:b=true)(hd:b=true->Dead st0/\0<st0.ep)(hM:∀k,a<=k->k<A->∀n,Mine (base+32*k) n->¬ U n){oA:Oper}{x:App}(hoA:ops[A]?=some oA)(hap:zps C (zbt ops b (fun _=>true) a ss st0) oA=some (true,x))(hlo:zzL ops cl a A=true)(hlen:x.dst<(zbt ops b (fun _=>true) a ss st0).tm.length)(hfoot:∀i s o f,ss[i]?=some s->ops[a+i]?=some o->At1 C ops base (a+i) o (zbt ops b (fun j=>decide (j<a+i)) a ss st0) f s->a+i∉cl.getD A []->f.apart (zfF (zbt ops b (fun _=>true) a ss st0) ops oA zAH)=true){Q:Exit->Act->World->Prop}(htail:∀(fl:Nat) (l':Array Bool) (E':Env) (ts':Array Value) (w':World) (v:Value),l'.size=ops.size->(∀i,i<ops.size->l'.getD i true=decide (i<A+1))->left ops.size l'<=fl->ts'[x.dst]?=some v->
 Sim w0 S0 (UX U base a A (fun _=>true)) ((zbt ops b (fun _=>true) a ss st0).put oA.dst (.v (.at .bad))) E' ts' sv w'->Late w0 ((zbt ops b (fun _=>true) a ss st0).put oA.dst (.v (.at .bad))) E' x v w'->wpAny C.P md ops Q fl l' {tmps:=ts',defers:=[]} w')(fuel:Nat)(listed:Array Bool)(E:Env)(ts:Array Value)(w:World)(hsz:listed.size=ops.size)(hX:zjN cl (XL listed))(hbel:∀i,i<a->XL listed i=true)(hlow:∀m,A<=m->m<ops.size->XL listed m=false)(hf:left ops.size listed<=fuel)(hS:Sim w0 S0 (UX U base a A (XL listed)) (zbt ops b (XL listed) a ss st0) E ts sv w):wpAny C.P md ops Q fuel listed {tmps:=ts,defers:=[]} w:=by
 have hdst:oA.dst=some x.dst/\oA.guard=none:=by unfold zps at hap;split at hap;{rename_i c d ho hdst hgu;refine⟨?_,hgu⟩;rw[hdst];congr 1;(repeat' (first|(split at hap)|(cases hap)));all_goals first|rfl|(simp only [qC,jR]at hap;obtain⟨_,rfl⟩:=hap;rfl)};{cases hap}
 have huses:∀{X Y:Nat->Bool} {i:Nat},(∀k,Y k=(X k||k==i))->∀n,UX U base a A X n->UX U base a A Y n:=by intro X Y i hY n h;rcases h with h|⟨k,h0,h1,h2,h3⟩;{exact .inl h};{exact .inr ⟨k,h0,h1,by rw[hY,h2];rfl,h3⟩}
 have hfA:∀{X:Nat->Bool} (κ:Key),(∀j∈cl.getD A [],X j=true)->(zfF (zbt ops b (fun _=>true) a ss st0) ops oA zAH).reads κ->(zbt ops b X a ss st0).get κ=(zbt ops b (fun _=>true) a ss st0).get κ:=by intro X κ hr hκ;refine zpy ss a st0 st0 rfl rfl (fun k s' o' hk ho' hne hw=>?_);obtain⟨o2,f',ho2,h2⟩:=F.at1 k s' hk;rw[ho']at ho2;cases ho2;have hXk:X (a+k)=false:=(by cases h:X (a+k) with|false=>rfl|true=>exact absurd h hne);have hn:a+k∉cl.getD A []:=fun h=>(by rw[hr _ h]at hXk;cases hXk);exact((apart_spec (hfoot k s' o' f' hk ho' h2 hn)).1 κ ((zy8 h2 κ).1 hw)).1 hκ
 refine zO0 (T:=A+1) (J:=fun X E ts w=>(X A=false->Sim w0 S0 (UX U base a A X) (zbt ops b X a ss st0) E ts sv w)/\
  (X A=true->∃v,ts[x.dst]?=some v/\Sim w0 S0 (UX U base a A X) ((zbt ops b X a ss st0).put oA.dst (.v (.at .bad))) E ts sv w/\Late w0 (zbt ops b X a ss st0) E x v w)) W hTs hpin ?_ ?_ ?_
  fuel listed E ts w hsz hX hbel (fun m h1 h2=>hlow m (by omega) h2) hf ⟨fun _=>hS,fun h=>(by rw[hlow A (qX _) (by omega)]at h;cases h)⟩
 .intro X Y E ts w h hJ;have hXA:X A=Y A:=h A (by omega) (by omega)
  have e:=zpz (ops:=ops) (b:=b) ss a st0 (X:=X) (Y:=Y) (fun k h1 h2=>h k h1 (by omega))
  have hu:∀n,UX U base a A X n->UX U base a A Y n:=by rintro n (h1|⟨k,h0,h1,h2,h3⟩);{exact .inl h1};{exact .inr ⟨k,h0,h1,by rw[<- h k h0 (by omega)];exact h2,h3⟩}
  refine⟨fun hYA=>?_,fun hYA=>?_⟩
  .have:=hJ.1 (hXA.trans hYA);rw[e] at this;exact this.uses hu
  .obtain⟨v,h1,h2,h3⟩:=hJ.2 (hXA.trans hYA);rw[e]at h2 h3;exact⟨v,h1,h2.uses hu,h3⟩
 .intro X Y i hX hia hi hXi hr hY E ts w hJ K hK
  by_cases hiA:i=A
  .subst hiA;have hSX:=hJ.1 hXi;have hYX:zbt ops b Y a ss st0=zbt ops b X a ss st0:=zpz ss a st0 (fun k h1 h2=>by
    rw[hY];have:(k==i)=false:=by simp;omega
    rw[this,uZ])
   have hag:Agree (zbt ops b (fun _=>true) a ss st0) (zbt ops b X a ss st0) oA.op.operands.toList :=
    zYX (by rw[zhD,zhD]) (fun t ht=>hfA (.tm t) hr (by simp only[Foot.reads,zfF];exact jX _ ht)) (fun n hn=>hfA (.ro n) hr hn) (fun n hn=>hfA (.lo n) hr hn)
   have hapX:=zSu (C:=C) hag;rw[hap]at hapX;have hdX:Dead (zbt ops b X a ss st0):=by subst hbt;exact zwn ss a st0 (hd rfl).1 (hd rfl).2
   obtain⟨hg,hdA,v,w',hrun,hS',hL⟩:=zZV hC hSX hdX hapX;refine pure_run (d:=zAH) hoA hg hrun (hK E _ w' ⟨fun h=>(by rw[hY]at h;simp at h),fun _=>⟨v,?_,?_,?_⟩⟩)
   .rw [hdA];have hlt:x.dst<ts.size:=by rw[hSX.tm.1,zm0];rw[zm0]at hlen;exact hlen
    simp[Act.put,hlt]
   .rw [hYX];exact hS'.uses (huses hY)
   .rw [hYX];exact hL
  .have hiA':i<A:=by omega
   have hYA:Y A=X A:=by rw[hY];have:(A==i)=false:=(by simp;omega);rw[this,uZ]
   cases hXA:X A with
   |false=>refine zMm hC hH hG hA F hX hia hiA' hXi hr hb hd hM hY (hJ.1 hXA) (fun E' ts' w' hS'=>hK E' ts' w' ⟨fun _=>hS',fun h=>(by rw[hYA,hXA]at h;cases h)⟩)
   |true=>
    obtain⟨v,hv,hSX,hL⟩:=hJ.2 hXA;obtain⟨j,rfl⟩:∃j,i=a+j:=⟨i-a,by omega⟩;obtain⟨s,hs⟩:∃s,ss[j]?=some s:=⟨_,qB (by omega)⟩;obtain⟨o,f,ho,h1,h2⟩:=zGy F hX hs hXi hr;have hnA:a+j∉cl.getD A []:=fun h=>(by rw[hX A hXA _ h]at hXi;cases hXi);have hpo:zqn o=true:=(by have:=qM.1 hlo (a+j) (by simp;omega);simp only[ho,j6,jK,qY] at this;rcases this with h|h;{exact absurd h hnA};{exact h});have hapf:=apart_spec (hfoot j s o f hs ho h1 hnA);have hwA:(zfF (zbt ops b (fun _=>true) a ss st0) ops oA zAH).writes (.tm x.dst):=(by simp only[Foot.writes,zfF];exact hdst.1);have hne:∀κ,f.reads κ->κ≠.tm x.dst:=fun κ hκ e=>hapf.2 (.tm x.dst) hwA (e ▸ hκ);have hdne:o.dst≠some x.dst:=fun e=>(hapf.1 (.tm x.dst) ((zy8 h1 (.tm x.dst)).1 (by cases s<;>exact e))).2 hwA;have hep:∀Z,(zbt ops b Z a ss st0).ep=st0.ep:=fun Z=>zhD ss a st0;have hdoes:=zO2 (S':=(zbt ops b X a ss st0).put oA.dst (.v (.at .bad))) h1 (by rw[hep,hdst.1];exact hep X) (fun κ hκ=>by rw[hdst.1,get_put (hne κ hκ)];exact h2 κ hκ);have hg0:o.guard=none:=by unfold zqn at hpo;simp only[qE,kH]at hpo;exact hpo.1
    cases s with
    |none=>exfalso;have:zde ops o ((zbt ops b X a ss st0).put oA.dst (.v (.at .bad)))=some false:=hdoes;simp[zde,hg0] at this
    |some d=>
     obtain⟨_,d2,d3⟩:=hdoes;obtain⟨_,v2,hrun,hvm,hids,e1,e2,e3⟩:=zIe hC hSX hpo (zSB hpo d2) d3;have hput:∀κ,(zbt ops b Y a ss st0).get κ=((zbt ops b X a ss st0).put o.dst d.v).get κ:=(by intro κ;rw[zPG F hX hs ho hXi hY κ];simp only[St.step,St.effD,e1,e2,List.map_nil,jO]);have hS2:Sim w0 S0 (UX U base a A X) (((zbt ops b X a ss st0).put oA.dst (.v (.at .bad))).put o.dst d.v) E (({tmps:=ts,defers:=[]}:Act).put o.dst v2).tmps sv w:=hSX.putV hvm hids;refine pure_run (d:=d) ho hg0 hrun (hK E _ w ⟨fun h=>(by rw[hYA,hXA]at h;cases h),fun _=>⟨v,?_,?_,?_⟩⟩);{cases hod:o.dst with|none=>exact hv|some t=>exact zRk hv (fun e=>hdne (by rw[hod,e]))}
     .refine(hS2.same (fun κ=>?_) ?_ ?_).uses (huses hY)
      .rw [hdst.1];cases κ with
       |tm t=>
        have hk:=hput (.tm t);have hl1:(zbt ops b Y a ss st0).tm.length=(zbt ops b X a ss st0).tm.length:=(by rw[zm0,zm0]);by_cases ht:t=x.dst;{subst ht;cases hod:o.dst with|none=>simp[St.get,St.put,jD,hl1]|some t' =>have:t'≠x.dst:=fun e=>hdne (by rw[hod,e]);simp[St.get,St.put,jD,hl1,this]}
        .have hne':x.dst≠t:=fun e=>ht e.symm;rw[get_put (by simpa using ht),hk]
         cases hod:o.dst with
         |none=>simp[St.get,St.put,jD,hne']
         |some t' =>simp only[St.get,St.put,jD,List.length_set];split;{rfl};{first|rfl|rw[if_neg hne']}
       |ro n=>have hk:=hput (.ro n);rw[get_put (by simp),hk];cases o.dst<;>rfl
       |lo n=>have hk:=hput (.lo n);rw[get_put (by simp),hk];cases o.dst<;>rfl
      {rw [hdst.1];have h1:(zbt ops b Y a ss st0).stk=(zbt ops b X a ss st0).stk:=(by rw[zqc,zqc]);cases o.dst<;>exact h1};{rw [hdst.1];have h1:(zbt ops b Y a ss st0).ep=(zbt ops b X a ss st0).ep:=(by rw[zhD,zhD]);cases o.dst<;>exact h1}
     .have hro:∀n,zl (zbt ops b Y a ss st0).ro n=zl (zbt ops b X a ss st0).ro n:=fun n=>(by rw[zzo (hput (.ro n))];cases o.dst<;>rfl);have hlo':∀n,zl (zbt ops b Y a ss st0).lo n=zl (zbt ops b X a ss st0).lo n:=fun n=>by rw[zGz (hput (.lo n))];cases o.dst<;>rfl
      exact hL.states (fun n=>by
       unfold St.root;rw[hro n,hep Y,hep X]) hlo'
 .intro fl l' E' ts' w' hsz' hl' hf' hJ;obtain⟨v,h1,h2,h3⟩:=hJ.2 rfl;refine htail fl l' E' ts' w' v hsz' hl' hf' h1 h2 (h3.states (fun n=>?_) (fun n=>?_))
  .rw [hdst.1];rfl
  .rw [hdst.1];rfl
def VV (U:Nat->Prop)(base size m n:Nat):Prop:=U n\/(base<=n/\n<base+32*m)\/base+32*size<=n
theorem zvc (hC:CfgOk C)(W:Waits md ops cl){x:App}{kk:Nat->List Bool->St->Option Ans}{ans:Ans}{Q:Exit->Act->World->Prop}(hkk:∀(m':Nat) (r':List Bool) (U':Nat->Prop) (st':St) (E':Env) (ts':Array Value) (w':World) (fl:Nat) (l':Array Bool),r'=(zhI ops.size cl).drop m'->m'<=ops.size->l'.size=ops.size->(∀i,i<ops.size->l'.getD i true=decide (i<m'))->left ops.size l'<=fl->
 Sim w0 S0 U' st' E' ts' sv w'->(∀n,U' n->VV U base ops.size m' n)->(∀n,st'.nid<=n->¬ U' n)->base+32*ops.size<=st'.nid->kk m' r' st'=some ans->wpAny C.P md ops Q fl l' {tmps:=ts',defers:=[]} w') :
 ∀(pins:List Bool) (m:Nat) (V:Nat->Prop) (st:St) (E:Env) (ts:Array Value) (w:World) (fuel:Nat) (listed:Array Bool) (v:Value),pins=(zhI ops.size cl).drop m->m<=ops.size->listed.size=ops.size->(∀i,i<ops.size->listed.getD i true=decide (i<m))->left ops.size listed<=fuel->
  Sim w0 S0 V st E ts sv w->(∀n,V n->VV U base ops.size m n)->(∀n,st.nid<=n->¬ V n)->base+32*ops.size<=st.nid->ts[x.dst]?=some v->Late w0 st E x v w->zoW C ops base x kk pins m st=some ans->wpAny C.P md ops Q fuel listed {tmps:=ts,defers:=[]} w
 |[],m,V,st,E,ts,w,fuel,listed,v,_,_,_,_,_,_,_,_,_,_,_,h=>by simp[zoW]at h
 |false::r,m,V,st,E,ts,w,fuel,listed,v,_,_,_,_,_,_,_,_,_,_,_,h=>by simp[zoW]at h
 |true::r,m,V,st,E,ts,w,fuel,listed,v,hp,hm,hsz,hl,hf,hS,hV,hF,hn,hv,hL,h=>by
  simp only[zoW]at h;obtain⟨hms,hpin,hr⟩:=zqm hp;have hV1:∀n,V n->VV U base ops.size (m+1) n:=(by rintro n hn';rcases hV n hn' with h|⟨h1,h2⟩|h;{exact .inl h};{exact .inr (.inl ⟨h1,by omega⟩)};{exact .inr (.inr h)});refine zUi W hsz hms (zuo hpin.symm) hl hf (λfl l' hsz' hl' hf' _ _=>?_);split at h;{cases h}
  .rename_i o ho;split at h
   .rename_i c st2 hst;cases hc:c with
    |false=>rw[hc]at h;cases h
    |true=>rw[hc]at h hst;simp only[cond_true,zAs]at h;obtain⟨hg,hgo,hnid⟩:=zVM (id:=base+32*m) hC hS hL hv hst;unfold wpOp;simp only[ho];rw[if_pos (by simp[Region.wanted,hg])];refine .inl (hgo _ _ λE' v' w' hS'=>?_);rw[ziB];refine hkk (m+1) r _ _ E' _ w' fl l' hr (by omega) hsz' hl' hf' hS' ?_ ?_ (by rw[zfP];omega) h;{rintro n (h|⟨h1,h2⟩);{exact hV1 n h};{exact .inr (.inl ⟨by omega,by omega⟩)}};{rintro n hn' (h|⟨h1,h2⟩);{exact hF n (by rw[zfP]at hn';omega) h};{rw [zfP]at hn';omega}}
   {split at h;{rename_i hcond;simp only[qE,jE,beq_eq_false_iff_ne]at hcond;split at h;{rename_i d hd;cases hc:d.c with|false=>rw[hc]at h;cases h|true=>rw[hc]at h;simp only[cond_true]at h;obtain⟨hg,v2,hrun,hvm,hids,e1,e2,e3⟩:=zIe hC hS hcond.1 hd hc;have he:st.apply o.dst d=st.put o.dst d.v:=(by simp[St.apply,e1,e2,e3]);rw[he]at h;refine pure_run (d:=d) ho hg hrun ?_;refine zvc hC W hkk r (m+1) V _ E _ w fl l' v hr (by omega) hsz' hl' hf' (hS.putV hvm hids) hV1 (by rw[zfP];exact hF) (by rw[zfP];exact hn) ?_ (hL.states (λn=>?_) λn=>?_) h;{cases hod:o.dst with|none=>exact hv|some t=>exact zRk hv (λe=>hcond.2 (by rw[hod,e]))};{cases o.dst<;>rfl};{cases o.dst<;>rfl}};{cases h}};{cases h}}
theorem zmg (hC:CfgOk C)(hH:CtrOk C)(hG:GraftOk C)(hN:NameOk C){call:zgX}(hcall:zrP C call)(W:Waits md ops cl){k:St->Option Ans}{ans:Ans}{Q:Exit->Act->World->Prop}(hU0:∀n,base<=n->¬ U n)(hk:∀(U':Nat->Prop) (st':St) (E':Env) (ts':Array Value) (w':World),Sim w0 S0 U' st' E' ts' sv w'->(∀n,U' n->VV U base ops.size ops.size n)->base+32*ops.size<=st'.nid->(∀n,st'.nid<=n->¬ U' n)->k st'=some ans->Q .normal {tmps:=ts',defers:=[]} w') :
 ∀(fs m:Nat) (pins:List Bool) (V:Nat->Prop) (st:St) (E:Env) (ts:Array Value) (w:World) (fuel:Nat) (listed:Array Bool),pins=(zhI ops.size cl).drop m->m<=ops.size->listed.size=ops.size->(∀i,i<ops.size->listed.getD i true=decide (i<m))->left ops.size listed<=fuel->
  Sim w0 S0 V st E ts sv w->(∀n,V n->VV U base ops.size m n)->(∀n,st.nid<=n->¬ V n)->base+32*ops.size<=st.nid->zjP C call ops cl base k fs m pins st=some ans->wpAny C.P md ops Q fuel listed {tmps:=ts,defers:=[]} w
 | 0,m,pins,V,st,E,ts,w,fuel,listed,_,_,_,_,_,_,_,_,_,h=>by simp[zjP]at h
 |fs+1,m,[],V,st,E,ts,w,fuel,listed,hp,hm,hsz,hl,hf,hS,hV,hF,hn,h=>by simp only[zjP]at h;have hms:=zRf hp;have e:m=ops.size:=(by omega);subst e;exact zZ2 (λi hi=>by rw[hl i hi];simp[hi]) (hk V st E ts w hS hV hn hF h)
 |fs+1,m,true::r,V,st,E,ts,w,fuel,listed,hp,hm,hsz,hl,hf,hS,hV,hF,hn,h=>by
  simp only[zjP]at h;obtain⟨hms,hpin,hr⟩:=zqm hp;refine zUi W hsz hms (zuo hpin.symm) hl hf (λfl l' hsz' hl' hf' _ _=>?_)
  let Q':Exit->Act->World->Prop:=λe a w=>match e with
   |.normal=>wpAny C.P md ops Q fl l' a w
   |e=>Q e a w
  have hQ:∀e,e≠Exit.normal->∀a w,Q' e a w->Q e a w:=by intro e he a w h;cases e<;>first|exact absurd rfl he|exact h
  refine zWG hQ ?_;have key:=zno (Q:=Q') hC hH hG hN hcall (ops:=ops) (base:=base) (V:=VV U base ops.size (m+1)) (nid0:=base+32*ops.size) (λn hn'=>.inr (.inr hn'))
   (λU' st' E' ts' w' hS' hU' hn' hF' h'=>zmg hC hH hG hN hcall W hU0 hk fs (m+1) r U' st' E' ts' w' fl l' hr (by omega) hsz' hl' hf' hS' hU' hF' hn' h')
   [m] V st E ts w hS ?_ hF ?_ (by simp) hn ?_ h
  {rw [wpOps_cons] at key;exact wpOp_mono (λa w h=>h) key};{rintro n hn';rcases hV n hn' with h|⟨h1,h2⟩|h;{exact .inl h};{exact .inr (.inl ⟨h1,by omega⟩)};{exact .inr (.inr h)}};{intro j hj n hmn;simp only[qF]at hj;subst hj;obtain⟨g1,g2⟩:=hmn;refine⟨λhn'=>?_,.inr<|.inl ⟨by omega,by omega⟩⟩;rcases hV n hn' with h|⟨h1,h2⟩|h;{exact hU0 n (by omega) h};{omega};{omega}};{intro j hj;simp only[qF]at hj;subst hj;omega}
 |fs+1,m,false::r,V,st,E,ts,w,fuel,listed,hp,hm,hsz,hl,hf,hS,hV,hF,hn,h=>by
  simp only[zjP]at h;obtain⟨hms,_,hr⟩:=zqm hp;obtain⟨hfr1,hfr2,hfr3⟩:=zMG r (m+1) (by omega) hr;generalize hb0:(List.range' m<|zcf r+1).any (zkx C ops)=b at h;have hS0':Sim w0 S0 V {st with ep:=if b then st.ep+1 else st.ep} E ts sv w:=hS.blind b st.nid;have hnid0:({st with ep:=if b then st.ep+1 else st.ep}:St).nid=st.nid:=rfl
  have hd':b=true->Dead ({st with ep:=if b then st.ep+1 else st.ep}:St)/\0<({st with ep:=if b then st.ep+1 else st.ep}:St).ep:=by
   intro hb;subst hb;refine⟨λn R e hR he=>?_,by simp⟩
   have:=hS.mem.epo n R e hR he;simp only[if_true];omega
  have hb':b=false->∀k,m<=k->k<m+1+zcf r->zkx C ops k=false:=(by intro hb k hk1 hk2;rw[hb]at hb0;have:=kL.1 hb0 k (by simp;omega);simpa using this);have hM:∀k,m<=k->k<m+1+zcf r->∀n,Mine (base+32*k) n->¬ V n:=by intro k h1 h2 n hn' hv;have g1:=hn'.1;have g2:=hn'.2;rcases hV n hv with h|⟨h3,h4⟩|h;{exact hU0 n (by omega) h};{omega};{omega}
  have hoff:∀(ss:List Step) (st0:St),zbt ops b (XL listed) m ss st0=st0:=λss st0=>ztf ss m st0 (λk hk=>by
   rcases u1 k ops.size with h|h
   .rw [zra (by omega),hl k h];simp;omega
   .simp [XL,uX (show listed.size<=k by omega)])
  have hVX:∀{T:Nat},T<=m+(zcf r+1)->∀n,UX V base m T (λ_=>true) n->VV U base ops.size (m+(zcf r+1)) n:=(by rintro T hT n (h|⟨k,h0,h1,_,h3⟩);{rcases hV n h with h|⟨h1,h2⟩|h;{exact .inl h};{exact .inr (.inl ⟨h1,by omega⟩)};{exact .inr (.inr h)}};{have g1:=h3.1;have g2:=h3.2;exact .inr (.inl ⟨by omega,by omega⟩)});have hFX:∀{T:Nat},T<=m+(zcf r+1)->∀n,st.nid<=n->¬ UX V base m T (λ_=>true) n:=(by rintro T hT n hn' (h|⟨k,h0,h1,_,h3⟩);{exact hF n (by omega) h};{have:=h3.2;omega});have hmk:∀{gs:List (Nat×Foot)} {ss:List Step} {st0 st':St},(∀x∈gs,∀y∈gs,(¬ x.1<y.1\/x.1∈cl.getD y.1 [])\/x.2.apart y.2=true)->Trace C ops b base m ss gs st0 st'->Free C ops cl b base m ss st0:=(by intro gs ss st0 st' hok htr;have hat:=zSg htr;refine⟨λi s hs=>?_,λi k s s' o o' f f' hs hs' ho ho' h1 h2 hik hni=>?_⟩;{obtain⟨o,f,g1,g2,g3⟩:=hat i s hs;exact⟨o,f,g1,g3⟩};{obtain⟨o1,f1,g1,g2,g3⟩:=hat i s hs;obtain⟨o2,f2,e1,e2,e3⟩:=hat k s' hs';rw[ho] at g1;cases g1;rw[ho'] at e1;cases e1;have hf1:=zDB h1 g3;have hf2:=zDB h2 e3;subst hf1 hf2;rcases hok _ g2 _ e2 with (h|h)|h;{exact absurd (by show m+i<m+k;omega) h};{exact absurd h hni};{exact h}});have hbelow:∀i,i<m->XL listed i=true:=λi hi=>(by rw[zra (by omega),hl i (by omega)];simp[hi]);have habove:∀k,m<=k->k<ops.size->XL listed k=false:=λk h1 h2=>(by rw[zra (by omega),hl k h2];simp;omega);rcases zqH (zcf r+1) m [] _ h with⟨ss,gs,st',hlen,htr,hok,hden⟩|⟨ss,gs,st',oA,x,hlen,htr,hoA,hap,hbt,hlo,hxl,hok,hden⟩|⟨ss,gs,st',oA,hlen,htr,hoA,hcv,hlo,hlr,hok,hden⟩;{rw [jA]at hok;unfold zmW at hok;simp only[jE,qM,j6,decide_eq_false_iff_not,jK,qY,List.mem_reverse]at hok;generalize hst0:({st with ep:=if b then st.ep+1 else st.ep}:St)=st0 at htr hS0' hnid0 hd';have hfin:st'=zbt ops b (λ_=>true) m ss st0:=zMW htr;refine zZJ (w0:=w0) (S0:=S0) (sv:=sv) hC hH hG W (T:=m+1+zcf r) (by omega) hfr1 hfr3 (hmk hok htr) hb' hd' hM (λfl l' E' ts' w' hsz' hl' hf' hS'=>?_) fuel listed E ts w hsz (zqK W hsz hl) hbelow (λk h1 h2=>habove k (by omega) h2) hf ?_;{rw [<- hfin]at hS';have hnid':st'.nid=st.nid:=(by rw[hfin,zzm,hnid0]);exact zmg hC hH hG hN hcall W hU0 hk fs (m+(zcf r+1)) (r.drop<|zcf r) _ st' E' ts' w' fl l' (by rw[hfr2];congr 1;omega) (by omega) hsz' (λi hi=>by rw[hl' i hi];congr 1;simp only[eq_iff_iff];omega) hf' hS' (hVX (by omega)) (by rw[hnid'];exact hFX (by omega)) (by omega) hden};{rw [hoff];exact hS0'.uses (λn h=>.inl h)}}
  .rw [jA]at hok;unfold zmW at hok;simp only[jE,qM,j6,decide_eq_false_iff_not,jK,qY,qI,List.mem_reverse]at hok;generalize hst0:({st with ep:=if b then st.ep+1 else st.ep}:St)=st0 at htr hS0' hnid0 hd';have hfin:st'=zbt ops b (λ_=>true) m ss st0:=zMW htr;subst hfin;have hA:m+ss.length=m+zcf r:=by omega
   rw[hA]at hoA hlo hok;have hat:=zSg htr;refine zZS (w0:=w0) (S0:=S0) (sv:=sv) hC hH hG W hA (by omega) (λh=>by
    have e:m+zcf r+1=m+1+zcf r:=by omega
    rw[e]at h ⊢;exact hfr3 h) (hmk (λx hx y hy=>hok x (.inr hx) y (.inr hy)) htr) (λhb k h1 h2=>hb' hb k h1 (by omega)) hbt hd' (λk h1 h2=>hM k h1 (by omega)) hoA hap hlo hxl (λi s o f hs ho h1 hni=>?_)
    (λfl l' E' ts' w' v hsz' hl' hf' hv hS' hL=>?_) fuel listed E ts w hsz (zqK W hsz hl) hbelow (λk h1 h2=>habove k (by omega) h2) hf ?_
   {obtain⟨o1,f1,g1,g2,g3⟩:=hat i s hs;rw[ho] at g1;cases g1;have hf1:=zDB h1 g3;subst hf1;have hi:i<ss.length:=(qA.1 hs).1;rcases hok _ (.inr g2) _ (.inl rfl) with (h|h)|h;{exact absurd (by show m+i<m+zcf r;omega) h};{exact absurd h hni};{exact h}}
   .have hnid':((zbt ops b (λ_=>true) m ss st0).put oA.dst (.v<|.at .bad)).nid=st.nid:=by rw[zfP,zzm,hnid0]
    exact zvc hC W (λm' r' U' st'' E'' ts'' w'' fl' l'' h1 h2 h3 h4 h5 h6 h7 h8 h9 h10=>zmg hC hH hG hN hcall W hU0 hk fs m' r' U' st'' E'' ts'' w'' fl' l'' h1 h2 h3 h4 h5 h6 h7 h8 h9 h10)
     (r.drop<|zcf r) (m+(zcf r+1)) _ _ E' ts' w' fl l' v (by rw[hfr2];congr 1;omega) (by omega) hsz' (λi hi=>by rw[hl' i hi];congr 1) hf' hS' (hVX (by omega)) (by rw[hnid'];exact hFX (by omega)) (by omega) hv hL hden
   {rw [hoff];exact hS0'.uses (λn h=>.inl h)}
  {exact Bool.noConfusion (show false=true from hcv)}
theorem z3d (hC:CfgOk C)(hH:CtrOk C)(hG:GraftOk C)(hN:NameOk C):DrawOk C:=by
 refine⟨λcall hcall ops k ans Q w0 S0 sv U0 nid0 U st E ts w hk hS hU hF hn h t=>?_⟩;unfold zDU at h;simp only at h;generalize hcl:zh2 ops (List.range ops.size) []=cl at h;split at h;(case isFalse=>cases h);rename_i hok;unfold zXr at hok;simp only[qE,qM,kF,qY]at hok;obtain⟨hdep,hlt⟩:=hok;have hatc:∀i,i<ops.size->cl.getD i []=waits ops (cl.take i) i:=λi hi=>(by rw[<- hcl];exact zUZ hi);have hord:∀(md:Region.Mode) (rk:Nat->Nat),zK2 md ops rk=true->∃rk:Nat->Nat,∀(i:Nat) (o:Oper),ops[i]?=some o->∀e∈o.after,Region.binds md e=true->e.on<ops.size/\rk e.on<rk i:=by intro md rk h;refine⟨rk,λi o ho e he hb=>?_⟩;have:=qM.1 h i (kF.2 (qS.1 ho).1);rw[ho] at this;have:=qM.1 this e (by simpa using he);simpa [hb] using this
 have mkW:∀(md:Region.Mode),(∀e,Region.binds .any e=true->Region.binds md e=true)->(∃rk:Nat->Nat,∀(i:Nat) (o:Oper),ops[i]?=some o->∀e∈o.after,Region.binds md e=true->e.on<ops.size/\rk e.on<rk i)->Waits md ops cl :=
  λmd h1 h2=>⟨hatc,hlt,h1,h2⟩
 have hsubT:∀e,Region.binds .any e=true->Region.binds .text e=true:=λe h=>(by unfold Region.binds at *;cases hg:e.ground<;>rw [hg]at h<;>simp at h ⊢);have hsubG:∀e,Region.binds .any e=true->Region.binds .gc e=true:=λe h=>by unfold Region.binds at *;cases hg:e.ground<;>rw [hg]at h<;>simp at h ⊢
 have hmodes:∃md t',Region.schedule (C.P.follows .mixedOrders) ops t=Region.linearise md ops t'/\Waits md ops cl:=by
  have anyW:Waits .any ops cl:=mkW .any (λ_ h=>h) ⟨λi=>i,λi o ho e he hb=>by
   have h1:=z3f hatc ho he hb;have hi:=(qS.1 ho).1;have h2:=hlt i hi _ h1;exact⟨by omega,h2⟩⟩
  unfold Region.schedule;by_cases hm:(C.P.follows .mixedOrders || !Region.departs ops)=true;{rw [if_pos hm];exact⟨.any,t,rfl,anyW⟩};{rw [if_neg hm];have hd:Region.departs ops=true:=(by cases h:Region.departs ops with|true=>rfl|false=>rw[h]at hm;simp at hm);rw[hd,cond_true,qE]at hdep;by_cases ht:(t % 2==0)=true;{rw [if_pos ht];exact⟨.text,t / 2,rfl,mkW .text hsubT<|hord .text _ hdep.1⟩};{rw [if_neg ht];exact⟨.gc,t / 2,rfl,mkW .gc hsubG<|hord .gc _ hdep.2⟩}}
 obtain⟨md,t',hsch,W⟩:=hmodes;rw[hsch];refine wpAny_sound ops.size t' _ _ _ ?_;have hS1:Sim w0 S0 U {st with nid:=st.nid+32*ops.size} E ts sv {w with drawn:=w.drawn+1}:=(hS.nid _).heap (w':={w with drawn:=w.drawn+1}) rfl rfl rfl rfl;refine zmg hC hH hG hN hcall W hF (λU' st' E' ts' w' hS' hU' hn' hF' h'=>hk U' st' E' ts' w' hS' ?_ (by omega) hF' h') (ops.size+1) 0 (zhI ops.size cl) U _ E ts _ ops.size _ rfl (by omega) (by simp) (λi hi=>by simp[hi]) ?_ hS1 (λn h=>.inl h) ?_ (qX _) h;{intro n h;rcases hU' n h with h|⟨h1,_⟩|h;{exact hU n h};{exact .inr (by omega)};{exact .inr (by omega)}};{unfold left;exact jB (List.countP_le_length) (by simp)};{intro n hn' h;exact hF n (jB (uB _ _) hn') h}
end
section
variable {P:Program}
def zSp:Value->CTy->Bool
 |.int k n,.i k'=>k==k'&&n==0
 |.bool b,.b=>!b
 |.slice none 0 0,.s _=>true
 |_,_=>false
def zxa:List Value->List CTy->Bool
 |[],[]=>true
 |v::vs,t::ts=>zSp v t&&zxa vs ts
 |_,_=>false
theorem zYV {v:Value}{t:CTy}(h:zSp v t=true):v=zeroV t:=by unfold zSp at h;split at h;{simp only [qE,qL]at h;obtain⟨rfl,rfl⟩:=h;rfl};{simp only [jE]at h;subst h;rfl};{rfl};{cases h}
theorem zDw:∀{vs:List Value} {ts:List CTy},zxa vs ts=true->vs=ts.map zeroV
 |[],[],_=>rfl
 |v::vs,t::ts,h=>by simp only[zxa,qE]at h;rw[q0,zYV h.1,zDw h.2]
 |[],_::_,h=>by cases h
 |_::_,[],h=>by cases h
def zzD (P:Program)(T:TypeId)(tys:List CTy):Bool :=
 match P.info? T with
 |some i=>i.size==tys.length&&(match i.zero with
  |some z=>zxa z.cells.toList tys
  |none=>false)
 |none=>false
theorem zzE {T:TypeId}{tys:List CTy}(h:zzD P T tys=true):∃i z,P.info? T=some i/\i.size=tys.length/\i.zero=some z/\z.cells.toList=tys.map zeroV:=by unfold zzD at h;split at h;{rename_i i hi;simp only[qE,qL]at h;obtain⟨h1,h2⟩:=h;split at h2;{rename_i z hz;exact⟨i,z,hi,h1,hz,zDw h2⟩};{cases h2}};{cases h}
def znl (P:Program)(T:TypeId):Bool :=
 (match zcu P 4 T with
  |some (agg,tys)=>zzD P T tys&&(!agg||(match P.underlying T with
   |some (.struct fs)=>(fs.toList.mapM λf=>(P.info? f.type).map λi=>(f.offset,i.size)).isSome
   |_=>false))
  |none=>true) &&
 (match P.underlying T with
  |some (.slice e)=>match zl zOL e with
   |some t=>zzD P e t.shape&&(match P.info? e with
    |some i=>decide (i.bytes<=1024)
    |none=>false)&&(match zcu P 4 e with
    |some (_,tys)=>decide (tys=t.shape)
    |none=>false)
   |none=>true
  |_=>true)
def ztd (P:Program):List Field->Nat->List CTy->Bool
 |[],_,[]=>true
 |f::fs,off,ty::tys=>f.name != "_" && f.offset==off&&(match P.underlying f.type,ty with
  |some (.int k),.i k'=>k==k'
  |some .bool,.b=>true
  |_,_=>false)&&ztd P fs (off+1) tys
 |_,_,_=>false
def zOx (P:Program)(T:TypeId):Bool :=
 match zcu P 4 T with
 |some (true,tys)=>!P.stoodInHeld T && !P.eqGuardType P.depth T&&(match P.underlying T with
  |some (.struct fs)=>ztd P fs.toList 0 tys
  |_=>false)
 |_=>true
theorem zOv {n:Nat}{T:TypeId}{agg:Bool}{tys:List CTy}(h:zcu P n T=some (agg,tys)) :
 (∃d,P.underlying T=some d/\zP3 d=agg/\(∀k,tys=[.i k]->agg=false->d = .int k)/\(tys=[.b]->agg=false->d = .bool))/\(agg=false->tys.length=1):=by
 cases n with
 |zero=>cases h
 |succ n=>simp only[zcu]at h;split at h;{rename_i k hu;cases h;exact⟨⟨_,hu,rfl,λk' h _=>by simp only[List.cons.injEq,CTy.i.injEq,and_true]at h;rw[h],λh=>by simp at h⟩,λ_=>rfl⟩};{rename_i hu;cases h;exact⟨⟨_,hu,rfl,λk' h=>by simp at h,λ_ _=>rfl⟩,λ_=>rfl⟩};{rename_i e hu;split at h;{cases h;exact⟨⟨_,hu,rfl,λk' h=>by simp at h,λh=>by simp at h⟩,λ_=>rfl⟩};{cases h}};{rename_i fs hu;split at h;{cases h;exact⟨⟨_,hu,rfl,λk' _ h=>(by cases h),λ_ h=>(by cases h)⟩,λh=>by cases h⟩};{cases h}};{cases h}
theorem zF9 {α:Type}{T:Nat}{x:Option α}{y:α}(h:below T x=some y):T<zgq/\x=some y:=by unfold below at h;cases hb:Nat.blt T zgq with|false=>rw[hb]at h;cases h|true=>rw[hb]at h;exact⟨by rwa [vD]at hb,h⟩
theorem mapM_at {α β:Type}{g:α->Option β}:∀{l:List α} {m:List β},l.mapM g=some m->∀{k:Nat} {x:α},l[k]?=some x->m[k]?=g x
 |[],m,h,k,x,hx=>by simp at hx
 |a::l,m,h,k,x,hx=>by simp only[vA,Option.bind_eq_bind,uT,Option.pure_def,qC]at h;obtain⟨b,hb,m',hm',rfl⟩:=h;cases k with|zero=>simp only[qH,qC]at hx;subst hx;rw[hb];rfl|succ k=>exact mapM_at hm' (by simpa using hx)
theorem zhd {α β:Type}{f:α->Option β}{a:α}{l:List α}{bs:List β}(h:zcl f (a::l)=some bs):∃b bs',f a=some b/\zcl f l=some bs'/\bs=b::bs':=by simp only[zcl]at h;split at h;{rename_i b hb;split at h;{rename_i bs' hbs;cases h;exact⟨b,bs',hb,hbs,rfl⟩};{cases h}};{cases h}
theorem zCN (w:World)(d:Nat)(xs ys:Array Value):∀(fs:List Field) (off:Nat) (tys:List CTy) (l m:List At) (e:Bool),ztd P fs off tys=true->zcl zni l=some tys->zcl zni m=some tys->zs5 l m=some e->
 xs.size=off+l.length->ys.size=off+m.length->(∀(j:Nat) (a:At) (u:Value),l[j]?=some a->xs[off+j]?=some u->VS a u)->(∀(j:Nat) (a:At) (u:Value),m[j]?=some a->ys[off+j]?=some u->VS a u)->
 (Op.eqFields (d+1) xs ys fs).run P w = .ok e w
 |[],off,tys,l,m,e,hf,hl,hm,he,_,_,_,_=>by cases tys with|cons t ts=>cases hf|nil=>(cases l with|cons a l=>obtain⟨_,_,_,_,h⟩:=zhd hl;cases h|nil=>(cases m with|cons a m=>obtain⟨_,_,_,_,h⟩:=zhd hm;cases h|nil=>cases he;simp[Op.eqFields]))
 |f::fs,off,tys,l,m,e,hf,hl,hm,he,hsx,hsy,hx,hy=>by
  cases tys with
  |nil=>cases hf
  |cons ty tys=>
   cases l with
   |nil=>cases hl
   |cons a l=>
    cases m with
    |nil=>cases hm
    |cons c m=>
     obtain⟨ta,tys',ha,hl',h⟩:=zhd hl;cases h;obtain⟨tc,tys'',hc,hm',h⟩:=zhd hm;cases h;simp only[ztd,qE,bne_iff_ne,ne_eq,qL]at hf;obtain⟨⟨⟨hn,hoff⟩,hk⟩,hrest⟩:=hf;have hxo:xs[off]?=some (xs[off]'(by simp only[qV]at hsx;omega)):=(by simp);have hyo:ys[off]?=some (ys[off]'(by simp only[qV]at hsy;omega)):=by simp
     have hvx:=hx 0 a _ rfl hxo;have hvy:=hy 0 c _ rfl hyo;have hstep:∃e0,zO3 a c=some e0/\(part f.type xs f.offset).run P w = .ok (xs[off]'(by simp only[qV]at hsx;omega)) w/\(part f.type ys f.offset).run P w = .ok (ys[off]'(by simp only[qV]at hsy;omega)) w/\
      (Op.equalIn (d+1) f.type (xs[off]'(by simp only[qV]at hsx;omega))<|ys[off]'(by simp only[qV]at hsy;omega)).run P w = .ok e0 w:=by
      rw[hoff];cases a with
      |i k n=>
       simp only[zni,qC]at ha;subst ha;cases c with
       |i k' n' =>
        simp only[zni,qC,CTy.i.injEq]at hc;subst hc;cases hu:P.underlying f.type with
        |none=>rw[hu]at hk;cases hk
        |some D=>
         rw[hu]at hk;cases D<;>first|(cases hk;done)|skip;refine⟨ieq n n',by simp[zO3],by simp[part,isAgg,run_underlying hu,hxo],by simp[part,isAgg,run_underlying hu,hyo],?_⟩;rw[show xs[off]'(by simp only[qV]at hsx;omega) = .int k' n from hvx,show ys[off]'(by simp only[qV]at hsy;omega) = .int k' n' from hvy];exact run_equalIn_int w d f.type k' _ n n' hu
       |b _=>simp[zni]at hc
       |_=>simp[zni]at hc
      |b x=>
       simp only[zni,qC]at ha;subst ha;cases c with
       |b x' =>
        cases hu:P.underlying f.type with
        |none=>rw[hu]at hk;cases hk
        |some D=>
         rw[hu]at hk;cases D<;>first|(cases hk;done)|skip;refine⟨znj x x',by simp[zO3],by simp[part,isAgg,run_underlying hu,hxo],by simp[part,isAgg,run_underlying hu,hyo],?_⟩;rw[show xs[off]'(by simp only[qV]at hsx;omega) = .bool x from hvx,show ys[off]'(by simp only[qV]at hsy;omega) = .bool x' from hvy];exact run_equalIn_bool' w d f.type x x' hu
       |i _ _=>simp[zni]at hc
       |_=>simp[zni]at hc
      |_=>simp[zni]at ha
     obtain⟨e0,he0,hp1,hp2,heq⟩:=hstep;have hcomb:∃e1,zs5 l m=some e1/\e=(e0&&e1):=by cases l with|nil=>cases hl';(cases m with|nil=>simp only[zs5,he0,qC]at he;exact⟨true,rfl,by rw[<- he];simp⟩|cons c2 m=>obtain⟨_,_,_,_,h⟩:=zhd hm';cases h)|cons a2 l=>(cases m with|nil=>cases hm';obtain⟨_,_,_,_,h⟩:=zhd hl';cases h|cons c2 m=>simp only[zs5,he0]at he;split at he;{rename_i x y h1 h2;cases h1;cases he;exact⟨y,by simpa [zs5] using h2,rfl⟩};{cases he})
     obtain⟨e1,he1,rfl⟩:=hcomb;have ih:=zCN w d xs ys fs (off+1) tys l m e1 hrest hl' hm' he1 (by simp only[qV]at hsx;omega) (by simp only[qV]at hsy;omega)
      (λj a' u h1 h2=>hx (j+1) a' u (by simpa using h1) (by rw[<- h2];congr 1;omega)) (λj a' u h1 h2=>hy (j+1) a' u (by simpa using h1) (by rw[<- h2];congr 1;omega))
     simp only[Op.eqFields,ne_eq,hn,not_false_eq_true,if_true,Sem.run_bind,hp1,hp2,Result.andThen_ok,heq,Sem.run_ite,ih];cases e0<;>simp
theorem zY4 {C:Cfg}(hP:C.P=P)(hs:∀T,C.sty T=below T (ztX P T))(hc:∀T,C.cty T=below T (zcu P 4 T))(hf:∀T f,C.fof T f=zr4 P T f)(hchk:(List.range zgq).all (znl P)=true)(heq:∀T,C.eqt T=true->T<zgq->zOx P T=true):CfgOk C:=by subst hP;have chk:∀T,T<zgq->znl C.P T=true:=λT hT=>qM.1 hchk T (kF.2 hT);have hcty:∀T agg tys,C.cty T=some (agg,tys)->T<zgq/\zcu C.P 4 T=some (agg,tys):=λT agg tys h=>zF9 (by rw[<- hc];exact h);refine⟨λT agg tys h=>?_,λT t h=>?_,λT f off n h=>?_,λT tys h=>?_,λT tys he h l m e xs ys w x y op hl hm hq hxs hys=>?_⟩;{obtain⟨hT,h⟩:=hcty T agg tys h;obtain⟨h1,h2⟩:=zOv h;have:=chk T hT;unfold znl at this;rw[h] at this;simp only[qE] at this;exact⟨h1,zzE this.1.1,h2⟩};{rw [hs]at h;obtain⟨hT,h⟩:=zF9 h;unfold ztX at h;split at h;{rename_i e hu;have:=chk T hT;unfold znl at this;rw[hu] at this;simp only[h,qE] at this;obtain⟨_,⟨h1,h2⟩,_⟩:=this;obtain⟨i,z,g1,g2,g3,g4⟩:=zzE h1;rw[g1]at h2;exact⟨e,hu,i,z,g1,by rw[g2,zeU],g3,g4,by simpa using h2⟩};{cases h}};{rw [hf]at h;unfold zr4 at h;split at h;{rename_i fs hu;split at h;{rename_i x hx;split at h;{rename_i i hi;split at h;{cases h};{rename_i hne;cases h;exact⟨fs,x,i,hu,hx,rfl,hi,rfl,hne⟩}};{cases h}};{cases h}};{cases h}};{obtain⟨hT,h⟩:=hcty T true tys h;have:=chk T hT;unfold znl at this;rw[h] at this;simp only[qE,j6,kC,j8,false_or] at this;obtain⟨⟨_,h2⟩,_⟩:=this;split at h2;{rename_i fs hu;obtain⟨places,hp⟩:=uQ.1 h2;refine⟨fs,places,hu,hp,λf off n hfo=>?_⟩;rw[hf]at hfo;unfold zr4 at hfo;rw[hu]at hfo;simp only at hfo;split at hfo;{rename_i x hx;split at hfo;{rename_i i hi;split at hfo;{cases hfo};{cases hfo;rw[mapM_at hp (by simpa using hx),hi];rfl}};{cases hfo}};{cases hfo}};{cases h2}};{obtain⟨hT,h⟩:=hcty T true tys h;have:=heq T he hT;unfold zOx at this;rw[h] at this;simp only[qE,jE] at this;obtain⟨⟨h1,h2⟩,h3⟩:=this;split at h3;{rename_i fs hu;have hfe:C.P.fieldsOf T=fs:=(by simp[Program.fieldsOf,hu]);refine⟨run_eqGuard_agg w op T x y xs ys h2,?_⟩;show (Op.equalIn (9999+1) T (.agg xs)<|.agg ys).run C.P w=_;rw[run_equalIn_struct w 9999 T xs ys (by rw[hfe];exact hu) h1,hfe];exact zCN w 9998 xs ys fs.toList 0 tys l m e h3 hl hm hq (by rw[hxs.1];omega) (by rw[hys.1];omega) (λj a u h1 h2=>hxs.2 j a u h1 (by simpa using h2)) (λj a u h1 h2=>hys.2 j a u h1 (by simpa using h2))};{cases h3}}
end
inductive CVOk:CV->Prop
 |i (k:IntKind) (n:Int) (h:k.min<=n/\n<=k.max):CVOk (.i k n)
 |b (x:Bool):CVOk (.b x)
 |s (t:Ty) (l:List t.den) (hl:l.length<=big) (h:∀(i:Nat) (x:t.den),l[i]?=some x->∀(j:Nat) (c:CV),(t.cells x)[j]?=some c->CVOk c):CVOk (.s t l)
section
variable {P:Program}
def zvl (P:Program)(tot:Nat):List Field->Nat->Bool
 |[],off=>off==tot
 |f::fs,off=>f.offset==off&&Nat.blt f.type zgq&&zvl P tot fs (off+P.cellsOf f.type)
def zv9 (P:Program)(T:TypeId):Bool :=
 match P.underlying T with
 |some (.struct fs)=>match zcu P 4 T with
  |some _=>zvl P (P.cellsOf T) fs.toList 0
  |none=>true
 |some (.slice e)=>match zl zOL e with
  |some _=>Nat.blt e zgq&&Nat.ble 1 (P.bytesOf e)
  |none=>true
 |_=>true
theorem zC2 {α β:Type}{f g:α->Option β}(hfg:∀x y,f x=some y->g x=some y):∀{l:List α} {bs:List β},zcl f l=some bs->zcl g l=some bs
 |[],_,h=>h
 |a::l,bs,h=>by obtain⟨b,bs',h1,h2,rfl⟩:=zhd h;simp only[zcl,hfg a b h1,zC2 hfg h2]
theorem zvW:∀{n:Nat} {T:TypeId} {x:Bool×List CTy},zcu P n T=some x->zcu P (n+1) T=some x
 | 0,_,_,h=>by cases h
 |n+1,T,x,h=>by rw[zcu]at h;rw[zcu];split at h;{exact h};{exact h};{exact h};{rename_i fs hu;split at h;{rename_i l hl;rw[zC2 (f:=_) (g:=_) ?_ hl];{exact h};{intro f y hy;split at hy;{rename_i z hz;cases hy;rw[zvW hz]};{cases hy}}};{cases h}};{cases h}
theorem zSw {T:TypeId}{tys:List CTy}(h:zzD P T tys=true):P.cellsOf T=tys.length:=by obtain⟨i,z,h1,h2,_⟩:=zzE h;simp[Program.cellsOf,h1,h2]
theorem z0H {k:IntKind}{n:Int}(h:(Lit.int k n).wf=true):k.min<=n/\n<=k.max:=by simpa [Lit.wf] using h
theorem all_append {l m:List Nat}(h:(l++m).all (·<=reachBytes)=true):l.all (·<=reachBytes)=true/\m.all (·<=reachBytes)=true:=by simpa [List.all_append] using h
theorem zye {H:Type}{e:TypeId}:∀{l:List (DataW H)},(DataW.weightsAll P e l).all (·<=reachBytes)=true->∀{i:Nat} {d:DataW H},l[i]?=some d->(d.weights P e).all (·<=reachBytes)=true
 |[],_,i,d,h=>by simp at h
 |x::l,hw,i,d,h=>by simp only[DataW.weightsAll]at hw;obtain⟨h1,h2⟩:=all_append hw;cases i with|zero=>simp at h;subst h;exact h1|succ i=>exact zye h2 (by simpa using h)
def Opened (W:World)(cs:List Value)(tys:List CTy):Prop :=
 ∃cvs:List CV,cvs.map CV.ty=tys/\cs.length=cvs.length/\∀(j:Nat) (c:CV) (u:Value),cvs[j]?=some c->cs[j]?=some u->Rep false W u c (λb=>b<W.heap.size)/\CVOk c
theorem Opened.append {W:World}{cs ds:List Value}{t1 t2:List CTy}(h1:Opened W cs t1)(h2:Opened W ds t2):Opened W (cs++ds) (t1++t2):=by obtain⟨c1,a1,b1,d1⟩:=h1;obtain⟨c2,a2,b2,d2⟩:=h2;refine⟨c1++c2,by simp[a1,a2],by simp[b1,b2],λj c u hc hu=>?_⟩;by_cases hj:j<c1.length;{rw [qT hj]at hc;rw[qT (by omega)]at hu;exact d1 j c u hc hu};{rw [qP (by omega)]at hc;rw[qP (by omega)]at hu;exact d2 _ c u hc (by rw[<- b1];exact hu)}
theorem zGf {α:Type}:∀(n:Nat) (p:Nat->α->Prop),(∀i,i<n->∃x,p i x)->∃l:List α,l.length=n/\∀i x,l[i]?=some x->p i x
 | 0,p,_=>⟨[],rfl,λi x h=>by simp at h⟩
 |n+1,p,h=>by obtain⟨x,hx⟩:=h 0 (by omega);obtain⟨l,h1,h2⟩:=zGf n (λi=>p (i+1)) (λi hi=>h (i+1) (by omega));refine⟨x::l,by simp[h1],λi y hy=>?_⟩;cases i with|zero=>simp at hy;subst hy;exact hx|succ i=>exact h2 i y (by simpa using hy)
theorem cells?_get {W:World}{a:Addr}{n:Nat}{cs:List Value}(h:W.cells? 0 a n=some cs):cs.length=n/\∀i,i<n->W.cell? (a.add i)=cs[i]?:=by unfold World.cells? at h;rw[if_pos<|jS _]at h;refine⟨by simpa using mapM_some_length h,λi hi=>mapM_some_get h i i (by simp[hi])⟩
theorem addr_add (a:Addr)(h:a.spot=none)(n m:Nat):(a.add n).add m=⟨a.block,a.off+n+m,none⟩:=by obtain⟨b,o,s⟩:=a;simp only at h;subst h;rw[add_lit,add_lit]
theorem zV2 (hchk:∀T,T<zgq->znl P T=true/\zv9 P T=true){H:Type}{enc:TypeId×Value->H}{W:World} :
 ∀(fuel:Nat) (T:TypeId) (cs:List Value) (x:DataW H×List MemPlace),T<zgq->∀(agg:Bool) (tys:List CTy),zcu P 4 T=some (agg,tys)->
  DataW.trod enc P W 0 (λ_=>true) true fuel T cs=some x->(x.1.weights P T).all (·<=reachBytes)=true->Opened W cs tys:=by
 intro fuel
 induction fuel using Nat.strongRecOn with
 |_ fuel ih=>
  intro T cs x hT agg tys hty hx hw;obtain⟨hc1,hc2⟩:=hchk T hT;have hty0:=hty;rw[zcu]at hty;split at hty;{rename_i k hu;cases hty;obtain⟨n,rfl,rfl,hwf⟩:=DataW.trod_int hu hx;refine⟨[.i k n],rfl,rfl,λj c u hc hu'=>?_⟩;cases j with|zero=>simp at hc hu';subst hc hu';exact⟨.i k n _,.i k n<|z0H hwf⟩|succ j=>simp at hc};{rename_i hu;cases hty;obtain⟨b,rfl,rfl⟩:=DataW.trod_bool hu hx;refine⟨[.b b],rfl,rfl,λj c u hc hu'=>?_⟩;cases j with|zero=>simp at hc hu';subst hc hu';exact⟨.b b _,.b b⟩|succ j=>simp at hc};{rename_i e hu;split at hty;{rename_i t het;cases hty;have fin:∀(v:Value) (l:List t.den),Rep false W v (.s t l) (λb=>b<W.heap.size)->CVOk (.s t l)->Opened W [v] [.s t]:=(by intro v l h1 h2;refine⟨[.s t l],rfl,rfl,λj c u hc hu'=>?_⟩;cases j with|zero=>simp at hc hu';subst hc hu';exact⟨h1,h2⟩|succ j=>simp at hc);have empty:CVOk (.s t []):=.s t [] (jS _) (λi x h=>by simp at h);rcases DataW.trod_slice hu hx with⟨rfl,rfl⟩|⟨a,len,cap,elems,rest,n,rfl,rfl,rfl,_,hlc,hcm,hel,hget,hsp,_⟩;{exact fin _ [] (.nil t _) empty};{obtain⟨hrl,hrget⟩:=hsp rfl;by_cases hcap:cap=0;{subst hcap;have hl0:len=0:=(by omega);subst hl0;exact fin _ [] (.void t a _ rfl) empty};{unfold znl at hc1;rw[hu]at hc1;simp only[het,qE]at hc1;obtain⟨_,⟨hinfo,_⟩,hec⟩:=hc1;unfold zv9 at hc2;rw[hu]at hc2;simp only[het,qE,vD,Nat.ble_eq]at hc2;obtain⟨he,hby⟩:=hc2;have hce:P.cellsOf e=t.width:=(by rw[zSw hinfo,zeU]);have hwpos:0<t.width:=(by cases t<;>simp [Ty.width]);rw[hce]at hget hrget;have helem:∀i,i<cap->∃cs',W.cells? 0 (a.add<|i*t.width) t.width=some cs'/\(i<len->∃y,DataW.trod enc P W 0 (λ_=>true) true n e cs'=some y/\elems[i]?=some y):=(by intro i hi;by_cases hil:i<len;{have h1:=hget i hil;rw[qB (by omega)]at h1;obtain⟨cs',h2,h3⟩:=uT.1 h1;exact⟨cs',h2,λ_=>⟨_,h3,qB (by omega)⟩⟩};{have h1:=hrget (i-len) (by omega);rw[qB (by omega)]at h1;obtain⟨cs',h2,h3⟩:=uT.1 h1;have e1:len+(i-len)=i:=(by omega);rw[e1]at h2;exact⟨cs',h2,λh=>absurd h hil⟩});have hcell:∀i j,i<cap->j<t.width->∃v,W.cell? ((a.add<|i*t.width).add j)=some v:=(by intro i j hi hj;obtain⟨cs',h1,_⟩:=helem i hi;obtain⟨h2,h3⟩:=cells?_get h1;exact⟨_,(h3 j hj).trans (qB (by omega))⟩);obtain⟨v0,hv0⟩:=hcell 0 0 (by omega) hwpos;have hadd0:(a.add<|0*t.width).add 0=a:=(by simp[Addr.add]);rw[hadd0]at hv0;obtain⟨arr,et,fz,hb,hspot⟩:∃arr et fz,W.heap[a.block]?=some (.cells arr et fz)/\a.spot=none:=(by unfold World.cell? at hv0;split at hv0;{rename_i c et fz hb;split at hv0;{cases hv0};{rename_i hs;exact⟨c,et,fz,hb,by simpa using hs⟩}};{cases hv0});have hcarr:∀i j,W.cell? ((a.add<|i*t.width).add j)=arr[a.off+i*t.width+j]?:=(by intro i j;rw[addr_add a hspot,cell_of_block hb]);have hsize:a.off+cap*t.width<=arr.size:=(by obtain⟨v,hv⟩:=hcell (cap-1) (t.width-1) (by omega) (by omega);rw[hcarr]at hv;have:=(qS.1 hv).1;have h1:(cap-1)*t.width+t.width=cap*t.width:=(by rw[<- jH];congr 1;omega);omega);have hwl:((DataW.slice (elems.map (·.1))<|rest.map (·.1)).weights P T).all (·<=reachBytes)=true:=hw;simp only[DataW.weights,hu,kU,qE,qY,uL]at hwl;obtain⟨hbytes,hwe⟩:=hwl;obtain⟨hwe,_⟩:=all_append hwe;have hlen:len<=big:=(by have h1:(elems.length+rest.length)*1<=(elems.length+rest.length)*P.bytesOf e:=Nat.mul_le_mul_left _ hby;have:reachBytes<=big:=(by decide);omega);split at hec;{rename_i agg' tys' hte;simp only[qY]at hec;subst hec;have hex:∀i,i<len->∃y:t.den,∀(j:Nat) (c:CV) (u:Value),(t.cells y)[j]?=some c->arr[a.off+i*t.width+j]?=some u->Rep false W u c (λb=>b<W.heap.size)/\CVOk c:=(by intro i hi;obtain⟨cs',h1,h2⟩:=helem i (by omega);obtain⟨y,h3,h4⟩:=h2 hi;obtain⟨cvs,g1,g2,g3⟩:=ih n (by omega) e cs' y he agg' t.shape hte h3 (zye hwe (by rw[qO,h4];rfl));obtain⟨z,hz⟩:=zH2 g1;refine⟨z,λj c u hc hu'=>g3 j c u ?_ ?_⟩;{rw [<- zjG hz];exact hc};{obtain⟨k1,k2⟩:=cells?_get h1;have hj:j<t.width:=(by have:=(qA.1 hc).1;rwa [zc8] at this);rw[<- k2 j hj,hcarr];exact hu'});obtain⟨l,hl1,hl2⟩:=zGf len _ hex;have hvv:∀i j,i<l.length->j<t.width->arr[a.off+i*t.width+j]?=some ((arr[a.off+i*t.width+j]?).getD undef):=(by intro i j hi hj;have h1:(i+1)*t.width<=cap*t.width:=qQ _ (by omega);rw[jH]at h1;have:a.off+i*t.width+j<arr.size:=(by omega);simp[this]);have hrep:Rep false W (.slice (some ⟨a.block,a.off,none⟩) l.length cap) (.s t l) (λb=>b<W.heap.size):=(by refine .sl t l a.block a.off cap arr et fz (λi j=>(arr[a.off+i*t.width+j]?).getD undef) (λ_ _ b=>b<W.heap.size) _ hb (λh=>by cases h) (by omega) (by omega) hsize ?_ (λi j x _ _ hx=>⟨hx,λh=>by cases h⟩) (λh=>by cases h) hvv ?_;{exact(qS.1 hb).1};{intro i z hz j c hc;have hi:i<l.length:=(qA.1 hz).1;have hj:j<t.width:=(by have:=(qA.1 hc).1;rwa [zc8] at this);exact(hl2 i z hz j c _ hc<|hvv i j hi hj).1});have ha:a=⟨a.block,a.off,none⟩:=(by obtain⟨b,o,s⟩:=a;simp only at hspot;subst hspot;rfl);rw[hl1,<- ha]at hrep;refine fin _ l hrep (.s t l (by omega) λi z hz j c hc=>?_);have hi:i<l.length:=(qA.1 hz).1;have hj:j<t.width:=(by have:=(qA.1 hc).1;rwa [zc8] at this);exact(hl2 i z hz j c _ hc<|hvv i j hi hj).2};{cases hec}}}};{cases hty}}
  .rename_i fs hu;split at hty
   .rename_i l hl;cases hty;obtain⟨xs,n,rfl,rfl,hcl,hxl,hfld⟩:=DataW.trod_struct hu hx;unfold zv9 at hc2;rw[hu,hty0]at hc2;simp only at hc2;have hww:(DataW.weightsEach P (fs.toList.map (·.type))<|xs.map (·.1)).all (·<=reachBytes)=true:=by have:((DataW.agg<|xs.map (·.1)).weights P T).all (·<=reachBytes)=true:=hw;simpa only [DataW.weights,hu] using this
    have key:∀(gs:List Field) (ys:List (DataW H×List MemPlace)) (ls:List (List CTy)) (off:Nat),zvl P (P.cellsOf T) gs off=true->gs.length=ys.length->
     (∀(i:Nat) (f:Field),gs[i]?=some f->DataW.trod enc P W 0 (λ_=>true) true n f.type ((cs.drop f.offset).take (P.cellsOf f.type))=ys[i]?)->
     zcl (λ(f:Field)=>match zcu P 3 f.type with|some x=>some x.2|none=>none) gs=some ls->(DataW.weightsEach P (gs.map (·.type))<|ys.map (·.1)).all (·<=reachBytes)=true->
     off<=P.cellsOf T/\Opened W (cs.drop off) ls.flatten:=by
     intro gs
     induction gs with
     |nil=>intro ys ls off ho _ _ hls _;cases hls;simp only[zvl,qL]at ho;subst ho;refine⟨qX _,[],rfl,by simp[hcl],λj c u h=>by simp at h⟩
     |cons f gs ihg=>intro ys ls off ho hlen hf hls hwt;obtain⟨b,ls',hb1,hb2,rfl⟩:=zhd hls;cases ys with|nil=>simp at hlen|cons y ys=>simp only[zvl,qE,qL,vD]at ho;obtain⟨⟨ho1,ho2⟩,ho3⟩:=ho;split at hb1;{rename_i z hz;cases hb1;obtain⟨agg',tys'⟩:=z;have hy:=hf 0 f rfl;simp only[qH]at hy;simp only[q0,DataW.weightsEach]at hwt;obtain⟨hw1,hw2⟩:=all_append hwt;have h4:=zvW hz;obtain⟨g1,g2⟩:=ihg ys ls' (off+P.cellsOf f.type) ho3 (by simpa using hlen) (λi g hg=>by simpa using hf (i+1) g (by simpa using hg)) hb2 hw2;have o1:=ih n (by omega) f.type _ y ho2 agg' tys' h4 hy hw1;rw[ho1] at o1;refine⟨by omega,?_⟩;have e1:cs.drop off=(cs.drop off).take (P.cellsOf f.type)++cs.drop (off+P.cellsOf f.type):=(by rw[<- List.drop_drop,List.take_append_drop]);rw[e1];exact Opened.append o1 g2};{cases hb1}
    have:=(key fs.toList xs l 0 hc2 (by simp[hxl]) (λi f hf=>hfld i f (by simpa using hf)) hl hww).2;simpa using this
   {cases hty}
  {cases hty}
end
theorem zTP:(List.range zgq).all (znl Tryz.prog)=true:=by kernel_rfl
theorem z4k:zAN.all (λT=>!Nat.blt T zgq||zOx Tryz.prog T)=true:=by kernel_rfl
theorem zY6:Tryz.prog.funcs.toList.all (λfn=>!(fn.name == "runtime.NumGoroutine"))=true:=by kernel_rfl
theorem z2G (T:TypeId)(h0:zAN.contains T=true)(hT:T<zgq):zOx Tryz.prog T=true:=by have h1:T∈zAN:=(by revert h0;generalize zAN=l;intro h0;simpa using h0);have hb:Nat.blt T zgq=true:=(by rw[vD];exact hT);have h2:=qM.1 z4k T h1;rw[hb,kC,Bool.false_or]at h2;exact h2
theorem z4i (ctr:FuncId->Option (List AV->Option (Bool×List AV)))(mct:FuncId->Option (CV->Int->Option (Bool×CV×Int)))(pct:FuncId->Option (List Bool×(List CV->List AV->Option (Bool×List CV×List AV))))(tct:FuncId->Option (List Bool×Option (Nat×Nat×List (List Nat))×(List AV->Option (Bool×List AV)))):CfgOk (zlF ctr mct pct tct):=by have h1:(zlF ctr mct pct tct).P=Tryz.prog:=(by simp only[zlF]);have h2:∀T,(zlF ctr mct pct tct).sty T=below T (ztX Tryz.prog T):=λ_=>(by simp only[zlF]);have h3:∀T,(zlF ctr mct pct tct).cty T=below T (zcu Tryz.prog 4 T):=λ_=>(by simp only[zlF]);have h4:∀T f,(zlF ctr mct pct tct).fof T f=zr4 Tryz.prog T f:=λ_ _=>(by simp only[zlF]);have h5:∀T,(zlF ctr mct pct tct).eqt T=zAN.contains T:=λ_=>(by simp only[zlF]);refine zY4 h1 h2 h3 h4 zTP ?_;intro T h hT;rw[h5]at h;exact z2G T h hT
theorem z3C (ctr:FuncId->Option (List AV->Option (Bool×List AV)))(mct:FuncId->Option (CV->Int->Option (Bool×CV×Int)))(pct:FuncId->Option (List Bool×(List CV->List AV->Option (Bool×List CV×List AV))))(tct:FuncId->Option (List Bool×Option (Nat×Nat×List (List Nat))×(List AV->Option (Bool×List AV)))):NameOk (zlF ctr mct pct tct):=by
 refine⟨λf fn hf=>?_⟩;have:=qM.1 zY6 fn (by
  have:Tryz.prog.funcs[f]?=some fn:=hf;rw[<- kS] at this;exact qK this)
 simpa using this
theorem zgF {ctr:FuncId->Option (List AV->Option (Bool×List AV))}{mct:FuncId->Option (CV->Int->Option (Bool×CV×Int))}{pct:FuncId->Option (List Bool×(List CV->List AV->Option (Bool×List CV×List AV)))}{tct:FuncId->Option (List Bool×Option (Nat×Nat×List (List Nat))×(List AV->Option (Bool×List AV)))}(h:∀f run,ctr f=some run->Holds Tryz.prog f run)(hm:∀f run,mct f=some run->zF2 Tryz.prog f run)(hp:∀f own run,pct f=some (own,run)->zdc Tryz.prog f own run)(ht:∀f own inp run,tct f=some (own,inp,run)->zek Tryz.prog f own inp run):EngOk (zlF ctr mct pct tct):=by have hC:=z4i ctr mct pct tct;have hH:CtrOk (zlF ctr mct pct tct):=⟨h,λf inp run hf=>ht f [] inp run hf⟩;have hG:=zZM hC ⟨hm⟩ ⟨hp⟩ ⟨ht⟩;have hN:=z3C ctr mct pct tct;exact⟨hC,hH,hG,hN,z3d hC hH hG hN⟩
section
open Go Go.ChangeShapes Go.WideShapes Go.ChangeAt
def AV.sh:AV->Bool×List CTy
 |.one c=>(false,[c.ty])
 |.agg l=>(true,l.map CV.ty)
section
variable {P:Program}
theorem zLv {T:TypeId}{agg:Bool}{tys:List CTy}(h:zcu P 4 T=some (agg,tys)) :
 (agg=true/\∃fs,P.underlying T=some (.struct fs))\/(agg=false/\tys.length=1/\((∃k,P.underlying T=some (.int k))\/P.underlying T=some .bool\/∃e,P.underlying T=some (.slice e))):=by
 rw[zcu]at h;split at h
 .rename_i k hu;cases h;exact .inr ⟨rfl,rfl,.inl ⟨k,hu⟩⟩
 .rename_i hu;cases h;exact .inr ⟨rfl,rfl,.inr<|.inl hu⟩
 .rename_i e hu;split at h
  .cases h;exact .inr ⟨rfl,rfl,.inr<|.inr ⟨e,hu⟩⟩
  .cases h
 .rename_i fs hu;split at h
  .cases h;exact .inl ⟨rfl,fs,hu⟩
  .cases h
 .cases h
theorem zYa {W:World}{T:TypeId}{v:Value}{base:Nat}(hu:(∃k,P.underlying T=some (.int k))\/P.underlying T=some .bool\/∃e,P.underlying T=some (.slice e))(h:Value.okWide P W .any base T v):v.cells = #[v]:=by
 cases v with
 |agg cs=>exfalso;rcases hu with⟨k,hu⟩|hu|⟨e,hu⟩<;>simp [Value.okWide,hu,Cell.okWide,Cell.ok]at h
 |_=>rfl
theorem zMA (hchk:∀T,T<zgq->znl P T=true/\zv9 P T=true){H:Type}{enc:TypeId×Value->H}{W:World}{base:Nat} :
 ∀(ts:List TypeId) (vs:List Value) (ds:List (DataW H)) (p:List MemPlace),DataW.TrodAll enc P W 0 (fun _=>true) true ts vs ds p->
  (∀(j:Nat) (t:TypeId) (v:Value),ts[j]?=some t->vs[j]?=some v->Value.okWide P W .any base t v)->(∀t∈ts,t<zgq/\(zcu P 4 t).isSome=true)->
  (DataW.weightsEach P ts ds).all (·<=reachBytes)=true->
  ∃(avs:List AV) (xs:List Value),avs.map (fun a=>some a.sh)=ts.map (zcu P 4)/\zdF false W (zB avs) xs (fun _ b=>b<W.heap.size)/\zbQ avs xs=vs/\∀c∈zB avs,CVOk c
 |[],vs,ds,p,h,_,_,_=>by obtain⟨rfl,rfl,rfl⟩:=trodAll_nil h;exact⟨[],[],rfl,⟨rfl,fun i c x h=>by simp[zB]at h⟩,rfl,fun c h=>by simp[zB]at h⟩
 |T::ts,vs,ds,p,h,hv,ht,hw=>by
  obtain⟨v,vs',d,ds',p1,q,rfl,rfl,rfl,h1,h2⟩:=trodAll_cons h;simp only[DataW.weightsEach]at hw;obtain⟨hw1,hw2⟩:=all_append hw;obtain⟨avs,xs,g1,g2,g3,g4⟩:=zMA hchk ts vs' ds' q h2 (fun j t v h1 h2=>hv (j+1) t v (by simpa using h1) (by simpa using h2)) (fun t h=>ht t (by simp[h])) hw2;obtain⟨hT,hsome⟩:=ht T (by simp);obtain⟨⟨agg,tys⟩,htc⟩:=uQ.1 hsome;obtain⟨fuel,hf⟩:=h1;obtain⟨cvs,e1,e2,e3⟩:=zV2 hchk fuel T _ _ hT agg tys htc hf hw1;have hv0:=hv 0 T v rfl rfl;have app:∀a:AV,a.cvs=cvs->zdF false W (zB (a::avs)) (v.cells.toList++xs) (fun _ b=>b<W.heap.size)/\∀c∈zB (a::avs),CVOk c:=(by intro a ha;have e:zB (a::avs)=cvs++zB avs:=(by simp[zB,ha]);rw[e];refine⟨zdF.append ⟨e2,fun i c x hc hx=>(e3 i c x hc hx).1⟩ g2,fun c hc=>?_⟩;rcases jI.1 hc with hc|hc;{obtain⟨i,hi⟩:=qR.1 hc;have hlt:i<v.cells.toList.length:=(by rw[e2];exact(qA.1 hi).1);exact(e3 i c _ hi (qB hlt)).2};{exact g4 c hc});rcases zLv htc with⟨rfl,fs,hu⟩|⟨rfl,hl1,hu⟩;{obtain⟨cs,rfl,_⟩:∃cs,v = .agg cs/\True:=(by simp only[Value.okWide,hu]at hv0;obtain⟨cs,h,_⟩:=hv0;exact⟨cs,h,trivial⟩);obtain⟨a1,a2⟩:=app (.agg cvs) rfl;refine⟨.agg cvs::avs,_,?_,a1,?_,a2⟩;{rw [q0,q0,g1,htc];simp only[AV.sh,e1]};{simp only [Value.cells] at e2;simp only[zbQ,Value.cells,<- e2,kJ,kX,g3,jN]}}
  .have hcells:=zYa hu hv0;rw[<- e1]at hl1;obtain ⟨c,rfl⟩:∃c,cvs=[c]:=by
    match cvs,hl1 with
    |[c],_=>exact⟨c,rfl⟩
   obtain⟨a1,a2⟩:=app (.one c) rfl;refine⟨.one c::avs,_,?_,a1,?_,a2⟩;{rw [q0,q0,g1,htc,<- e1];rfl};{rw [hcells];simp only[zbQ];simp[g3]}
theorem zyd (hl:laidOutB P=true){H:Type}{enc:TypeId×Value->H}{W W':World}(hb:Go.RowKit.Below W.heap.size W W'){sp:Nat->Bool}:∀(ts:List TypeId) (vs:List Value) (ds:List (DataW H)) (ps:List MemPlace),(∀t∈ts,P.readableRec t=true/\t<P.types.size)->
 DataW.TrodAll enc P W 0 (λ_=>true) true ts vs ds ps->(∀x∈ps,x.block<W.heap.size/\sp x.block=true)->DataW.TrodAll enc P W' 0 sp true ts vs ds ps
 |[],vs,ds,ps,_,h,_=>by obtain⟨rfl,rfl,rfl⟩:=trodAll_nil h;exact rfl
 |T::ts,vs,ds,ps,ht,h,hlt=>by
  obtain⟨v,vs',d,ds',p,q,rfl,rfl,rfl,h1,h2⟩:=trodAll_cons h;obtain⟨hr,hrow⟩:=ht T (by simp)
  exact⟨p,q,WideElems.Trod_stays hl hr hrow h1 (λx hx=>hb.same (hlt x<|jX _ hx).1) λx hx=>(hlt x<|jX _ hx).2,
   zyd hl hb ts vs' ds' q (λt h=>ht t (by simp[h])) h2 λx hx=>hlt x (kE _ hx),rfl⟩
theorem zNv {W W':World}(h:Grown W W')(may:MemPlace->Prop):W.keptBut W' may:=by
 refine⟨h.os,h.output,λi hi=>?_⟩;rw[h.keep i hi];cases hc:W.heap[i]? with
 |none=>rfl
 |some o=>cases o<;>first|rfl|exact⟨rfl,rfl,rfl,λ_ _=>rfl⟩|exact .inr ⟨rfl,rfl⟩
def zYk (P:Program)(ts:List TypeId):Bool:=ts.all λT=>Nat.blt T zgq&&(zcu P 4 T).isSome&&P.readableRec T&&Nat.blt T P.types.size
def z0K (P:Program)(ts:List TypeId)(avs:List AV):Prop:=avs.map (λa=>some a.sh)=ts.map (zcu P 4)/\∀c∈zB avs,CVOk c
def zON (P:Program)(f:FuncId)(ts:List TypeId):Prop :=
 ∃run,Holds P f run/\∀avs,z0K P ts avs->run avs=some (true,[.one<|.b true])
theorem zHB (hchk:∀T,T<zgq->znl P T=true/\zv9 P T=true)(hlo:laidOutB P=true){s:ChangeSpec}{f:FuncId}{fn:Func}{B:TypeId}(hvars:s.vars=[])(hfn:∀(H:Type) (ds:List (DataW H)),ds.length=fn.params.toList.length->s.fn H ds={results:=[.lit<|.bool true],args:=ds})(hpars:zYk P fn.params.toList=true)(hres:fn.resultTypes = #[B])(hB:P.underlying B=some .bool)(hl:zON P f fn.params.toList){H:Type}{enc:TypeId×Value->H}{apart fresh handsOn:Bool}(W:World)(base:Nat)(args:Array Value)(ds gs:List (DataW H))(before:List MemPlace)(hval:∀(j:Nat) t v,fn.params[j]?=some t->args[j]?=some v->Value.okWide P W .any base t v)(hW:DataW.Whole enc P fn.params.toList s.vars apart W args.toList ds gs before)(hsz:(DataW.weightsEach P (fn.params.toList++s.plain.varTypes P)<|ds++gs).all (·<=reachBytes)=true) :
 Calls P f args W λe W'=>∃v,e = .returned v/\s.post enc P fn apart fresh handsOn false W args v W':=by
 have hW':=hW;obtain⟨p,q,hA,hV,rfl,hfz,hnd⟩:=hW;rw[hvars]at hV;obtain⟨rfl,rfl⟩:=trodVars_none hV;have hvt:s.plain.varTypes P=[]:=by unfold DataSpec.varTypes;show s.vars.filterMap _=[];rw[hvars];rfl
 rw[hvt,jA,jA]at hsz;unfold zYk at hpars;simp only[qM,qE,vD]at hpars;have hval':∀(j:Nat) (t:TypeId) (v:Value),fn.params.toList[j]?=some t->args.toList[j]?=some v->Value.okWide P W .any base t v:=by intro j t v h1 h2;rw[kS]at h1 h2;exact hval j t v h1 h2
 obtain⟨avs,xs,g1,g2,g3,g4⟩:=zMA hchk fn.params.toList args.toList ds p hA hval' (λt ht=>⟨(hpars t ht).1.1.1,(hpars t ht).1.1.2⟩) hsz;obtain⟨run,hH,hrun⟩:=hl;have hcall:=hH.2 W avs xs _ g2 (hrun avs ⟨g1,g4⟩);have hargs:(zbQ avs xs).toArray=args:=by rw[g3,jN]
 rw[hargs]at hcall;have hlen:∀(ts:List TypeId) (vs:List Value) (ds:List (DataW H)) (ps:List MemPlace),DataW.TrodAll enc P W 0 (λ_=>true) true ts vs ds ps->ds.length=ts.length:=by intro ts;induction ts with|nil=>intro vs ds ps h;obtain⟨_,rfl,_⟩:=trodAll_nil h;rfl|cons t ts ih=>intro vs ds ps h;obtain⟨v,vs',d,ds',p,q,rfl,rfl,rfl,_,h2⟩:=trodAll_cons h;simp[ih vs' ds' q h2]
 refine hcall.mono ?_;intro e W1 he;cases e with
 |panicked c=>exact he.elim
 |outgrown=>exact he.elim
 |returned v=>
  obtain⟨hg,ys,K,hrep,hv,_⟩:=he;have hv1:v = .bool true:=by
   match ys,hrep with
   |[],h=>exact absurd h.1 (by simp[zB,AV.cvs])
   |[y],h=>have:=(h.2 0 (.b true) y rfl rfl).bool_inv;rw[hv,this];rfl
   |y::z::r,h=>exact absurd h.1 (by simp[zB,AV.cvs])
  subst hv1;refine⟨_,rfl,ds,[],p++[],[],p,[],hW',?_,?_,?_,zNv hg _,λh=>by cases h⟩;{rw [jA,hfn H ds<|hlen _ _ _ _ hA,hres];exact⟨[],[],⟨1,by simp[DataW.trod,hB,Value.cells]⟩,rfl,rfl⟩};{rw [jA,hfn H ds<|hlen _ _ _ _ hA];have hb:Go.RowKit.Below W.heap.size W W1:=⟨hg.os,hg.tape,hg.output,hg.size,hg.keep⟩;have hlt:∀x∈p,x.block<W.heap.size:=λx hx=>(by simpa using hW'.lt x (jX _ hx));exact zyd hlo hb _ _ _ _ (λt ht=>⟨(hpars t ht).1.2,(hpars t ht).2⟩) hA (λx hx=>⟨hlt x hx,by simpa using hlt x hx⟩)};{rw [hvars,jA,hfn H ds<|hlen _ _ _ _ hA];rfl}
end
theorem z4l:(List.range zgq).all (zv9 Tryz.prog)=true:=by kernel_rfl
theorem zZR:laidOutB Tryz.prog=true:=by kernel_rfl
theorem own:ownKnob Tryz.prog.godebug=none:=by kernel_rfl
theorem zY5 (T:TypeId)(hT:T<zgq):znl Tryz.prog T=true/\zv9 Tryz.prog T=true :=
 ⟨qM.1 zTP T<|kF.2 hT,qM.1 z4l T<|kF.2 hT⟩
abbrev Good (ts:List TypeId)(avs:List AV):Prop:=z0K Tryz.prog ts avs
abbrev zTE (f:FuncId)(ts:List TypeId):Prop:=zON Tryz.prog f ts
theorem zSt {ctr:FuncId->Option (List AV->Option (Bool×List AV))}{mct:FuncId->Option (CV->Int->Option (Bool×CV×Int))}{pct:FuncId->Option (List Bool×(List CV->List AV->Option (Bool×List CV×List AV)))}{tct:FuncId->Option (List Bool×Option (Nat×Nat×List (List Nat))×(List AV->Option (Bool×List AV)))}(hctr:∀f run,ctr f=some run->Holds Tryz.prog f run)(hmct:∀f run,mct f=some run->zF2 Tryz.prog f run)(hpct:∀f own run,pct f=some (own,run)->zdc Tryz.prog f own run)(htct:∀f own inp run,tct f=some (own,inp,run)->zek Tryz.prog f own inp run){f:FuncId}{ts:List TypeId}(hf:FnOk Tryz.prog f)(h:∀avs,Good ts avs->∃tms N D,evalFn (zlF ctr mct pct tct) tms N D f avs=some [.one<|.b true]):zTE f ts:=by refine⟨λavs=>open Classical in if Good ts avs then some (true,[.one<|.b true]) else none,zxy (zgF hctr hmct hpct htct) hf ?_,λavs hg=>by simp[hg]⟩;intro avs rs _ hr;split at hr;{rename_i hg;cases hr;exact h avs hg};{cases hr}
end
def St.blkEnd (st:St):List Bool->List At->List MV->Option (List CV×List Nat)
 |[],[],[]=>some ([],[])
 |own::ms,a::r,h::hs=>
  match St.blkEnd st ms r hs with
  |none=>none
  |some (cs,ks) =>
   match a with
   |.i k n=>some (.i k n::cs,ks)
   |.b x=>some (.b x::cs,ks)
   |.sl q [] =>
    match st.root q with
    |some R=>
     match own with
     |true=>if R.own && !ks.contains q then some (.s R.t R.l::cs,q::ks) else none
     |false=>
      match h with
      |.v (.at<|.sl q' [])=>if q==q' then some (.s R.t R.l::cs,ks) else none
      |_=>none
    |none=>none
   |_=>none
 |_,_,_=>none
def zeM:List Bool->List CV->Nat->List (Nat×Root)
 |own::ms,.s t l::cs,id=>(id,⟨t,l,own,none⟩)::zeM ms cs (id+1)
 |_::ms,_::cs,id=>zeM ms cs (id+1)
 |_,_,_=>[]
def zTS (own:List Bool)(cs:List CV)(args:List AV):St :=
 {tm:=.v (.at<|.lp 0 0)::(zgQ cs 0).map λa=>.v (.at a),lo:=[(0,zgQ cs 0)],ro:=zeM own cs 0++zcL zsi args cs.length,stk:=[],nid:=cs.length+(args.flatMap AV.cvs).length+1,ep:=0}
def zpx (C:Cfg)(tms:FuncId->Nat->Option Tmpl)(N D:Nat)(f:FuncId)(own:List Bool)(cs:List CV)(args:List AV):Option Ans :=
 cond (zhR f && !(zoR (.agg cs::args))) none
 (ztb C tms N (zp6 C tms N D) f (.v (.at<|.lp 0 0)::(zcI args cs.length).map .v) (zTS own cs args) λrs st=>
  match st.tm with
  |.v (.at<|.lp l 0)::hs=>
   match zl st.lo l with
   |some cells=>
    match st.blkEnd own cells hs with
    |some (cs',ks) =>
     match zpr (st.thaw<|zhR f) rs ks with
     |some ans=>some (.agg cs'::ans)
     |none=>none
    |none=>none
   |none=>none
  |_=>none)
section
variable {C:Cfg} {w0 w w1:World} {S0:zT} {U:Nat->Prop} {st st1:St} {E E1:Env} {ts:Array Value} {sv:List (Array Value)}
structure BlkEnd (st:St) (own:List Bool) (cells:List At) (hs:List MV) (cs:List CV) (ks:List Nat):Prop where
 len:cs.length=cells.length
 hlen:hs.length=cells.length
 ownk:∀r∈ks,∃j,zV own j/\cells[j]?=some (.sl r [])
 get:∀(j:Nat) (a:At),cells[j]?=some a->(∃k n,a = .i k n/\cs[j]?=some (.i k n))\/(∃x,a = .b x/\cs[j]?=some (.b x))\/
  ∃r R,a = .sl r []/\st.root r=some R/\cs[j]?=some (.s R.t R.l)/\((zV own j/\R.own=true/\r∈ks)\/(¬ zV own j/\hs[j]?=some (.v (.at (.sl r [])))))
 inj:∀(i j r:Nat),zV own i->zV own j->cells[i]?=some (.sl r [])->cells[j]?=some (.sl r [])->i=j
theorem zL0:∀(own:List Bool) (cells:List At) (hs:List MV) (cs:List CV) (ks:List Nat),st.blkEnd own cells hs=some (cs,ks)->BlkEnd st own cells hs cs ks
 |[],[],[],cs,ks,h=>by cases h;exact⟨rfl,rfl,fun r h=>by simp at h,fun j a h=>by simp at h,fun i j r h=>by simp[zV]at h⟩
 |o::ms,a::r,hd::hs,cs,ks,h=>by
  simp only[St.blkEnd]at h;split at h;{cases h}
  .rename_i cs0 ks0 h0;have ih:=zL0 ms r hs cs0 ks0 h0;have tail:∀(ks1:List Nat) (c:CV),(∀x∈ks0,x∈ks1)->∀(j:Nat) (b:At),r[j]?=some b->(∃k n,b = .i k n/\(c :: cs0)[j+1]?=some (.i k n))\/(∃x,b = .b x/\(c :: cs0)[j+1]?=some (.b x)) \/
    ∃q R,b = .sl q []/\st.root q=some R/\(c::cs0)[j+1]?=some (.s R.t R.l)/\((zV (o::ms) (j+1)/\R.own=true/\q∈ks1)\/(¬ zV (o::ms) (j+1)/\(hd::hs)[j+1]?=some (.v (.at (.sl q []))))):=by
    intro ks1 c hks j b hb;rcases ih.get j b hb with h|h|⟨q,R,g1,g2,g3,g4⟩
    .exact .inl (by simpa using h)
    .exact .inr (.inl (by simpa using h))
    .refine .inr (.inr ⟨q,R,g1,g2,by simpa using g3,?_⟩)
     rcases g4 with⟨h1,h2,h3⟩|⟨h1,h2⟩
     .exact .inl ⟨by simpa [zV] using h1,h2,hks q h3⟩
     .exact .inr ⟨by simpa [zV] using h1,by simpa using h2⟩
   have flat:∀(c:CV),(∀q,a≠.sl q [])->((∃k n,a = .i k n/\c = .i k n)\/(∃x,a = .b x/\c = .b x))->BlkEnd st (o::ms) (a::r) (hd::hs) (c::cs0) ks0:=by
    intro c hne hc;refine⟨by simp[ih.len],by simp[ih.hlen],fun q hq=>?_,fun j b hb=>?_,fun i j q hi hj h1 h2=>?_⟩;{obtain⟨j,h1,h2⟩:=ih.ownk q hq;exact⟨j+1,by simpa [zV] using h1,by simpa using h2⟩}
    .cases j with
     |zero=>simp only[qH,qC]at hb;subst hb;rcases hc with⟨k,n,h1,h2⟩|⟨x,h1,h2⟩;{exact .inl ⟨k,n,h1,by simp[h2]⟩};{exact .inr (.inl ⟨x,h1,by simp[h2]⟩)}
     |succ j=>exact tail ks0 c (fun _ h=>h) j b (by simpa using hb)
    {cases i with|zero=>simp only[qH,qC]at h1;exact absurd h1 (hne q)|succ i=>(cases j with|zero=>simp only[qH,qC]at h2;exact absurd h2 (hne q)|succ j=>have:=ih.inj i j q (by simpa [zV] using hi) (by simpa [zV] using hj) (by simpa using h1) (by simpa using h2);omega)}
   split at h;{rename_i k n;cases h;exact flat _ (fun q h=>by cases h) (.inl ⟨k,n,rfl,rfl⟩)};{rename_i x;cases h;exact flat _ (fun q h=>by cases h) (.inr ⟨x,rfl,rfl⟩)};{rename_i q;split at h;{rename_i R hR;split at h;{split at h;{rename_i hcond;simp only[qE,jE,jK,decide_eq_false_iff_not]at hcond;obtain⟨hown,hnk⟩:=hcond;cases h;refine⟨by simp[ih.len],by simp[ih.hlen],fun x hx=>?_,fun j b hb=>?_,fun i j x hi hj h1 h2=>?_⟩;{rcases qI.1 hx with rfl|hx;{exact⟨0,rfl,rfl⟩};{obtain⟨j,h1,h2⟩:=ih.ownk x hx;exact⟨j+1,by simpa [zV] using h1,by simpa using h2⟩}};{cases j with|zero=>simp only[qH,qC]at hb;subst hb;exact .inr (.inr ⟨q,R,rfl,hR,by simp,.inl ⟨rfl,hown,q9⟩⟩)|succ j=>exact tail _ _ (fun x hx=>qU _ hx) j b (by simpa using hb)};{have old:∀(i:Nat),zV ms i->r[i]?=some (.sl q [])->False:=(by intro i hi hq;rcases ih.get i _ hq with⟨_,_,h,_⟩|⟨_,h,_⟩|⟨r',R',g1,g2,g3,g4⟩;{cases h};{cases h};{cases g1;rcases g4 with⟨_,_,h⟩|⟨h,_⟩;{exact hnk h};{exact h hi}});cases i with|zero=>(cases j with|zero=>rfl|succ j=>simp only[qH,qC,At.sl.injEq,and_true]at h1;subst h1;exact(old j (by simpa [zV] using hj) (by simpa using h2)).elim)|succ i=>(cases j with|zero=>simp only[qH,qC,At.sl.injEq,and_true]at h2;subst h2;exact(old i (by simpa [zV] using hi) (by simpa using h1)).elim|succ j=>have:=ih.inj i j x (by simpa [zV] using hi) (by simpa [zV] using hj) (by simpa using h1) (by simpa using h2);omega)}};{cases h}};{split at h;{rename_i q';split at h;{rename_i he;simp only[qL]at he;subst he;cases h;refine⟨by simp[ih.len],by simp[ih.hlen],fun x hx=>?_,fun j b hb=>?_,fun i j x hi hj h1 h2=>?_⟩;{obtain⟨j,h1,h2⟩:=ih.ownk x hx;exact⟨j+1,by simpa [zV] using h1,by simpa using h2⟩};{cases j with|zero=>simp only[qH,qC]at hb;subst hb;exact .inr (.inr ⟨q,R,rfl,hR,by simp,.inr ⟨by simp[zV],rfl⟩⟩)|succ j=>exact tail _ _ (fun x hx=>hx) j b (by simpa using hb)};{cases i with|zero=>simp[zV]at hi|succ i=>(cases j with|zero=>simp[zV]at hj|succ j=>have:=ih.inj i j x (by simpa [zV] using hi) (by simpa [zV] using hj) (by simpa using h1) (by simpa using h2);omega)}};{cases h}};{cases h}}};{cases h}};{cases h}
 |[],_::_,_,_,_,h=>by simp[St.blkEnd]at h
 |[],[],_::_,_,_,h=>by simp[St.blkEnd]at h
 |_::_,[],_,_,_,h=>by simp[St.blkEnd]at h
 |_::_,_::_,[],_,_,h=>by simp[St.blkEnd]at h
theorem zYZ (a:Value)(vs:Array Value):(#[a]++vs)[0]?=some a:=by rw[jV (by simp)];rfl
theorem zY0 (a:Value)(vs:Array Value)(i:Nat):(#[a]++vs)[i+1]?=vs[i]?:=by rw[kA (by simp)];simp
theorem zkl:∀(own:List Bool) (cs:List CV) (id n:Nat) (R:Root),zl (zeM own cs id) n=some R->id<=n/\∃t l,cs[n-id]?=some (.s t l)/\R.t=t/\HEq R.l l/\own[n-id]?=some R.own/\R=⟨t,l,R.own,none⟩
 |[],_,_,_,_,h=>by cases h
 |o::ms,[],_,_,_,h=>by cases h
 |o::ms,c::cs,id,n,R,h=>by have hr:zl (zeM ms cs<|id+1) n=some R->id<=n/\∃t l,(c::cs)[n-id]?=some (.s t l)/\R.t=t/\HEq R.l l/\(o::ms)[n-id]?=some R.own/\R=⟨t,l,R.own,none⟩:=λh=>(by obtain⟨h1,t,l,h2,h3,h4,h5,h6⟩:=zkl ms cs (id+1) n R h;have e:n-id=(n-(id+1))+1:=(by omega);exact⟨by omega,t,l,by rw[e,jL];exact h2,h3,h4,by rw[e,jL];exact h5,h6⟩);cases c with|i k x=>exact hr h|b x=>exact hr h|s t l=>simp only[zeM,zl]at h;split at h;{rename_i he;simp only[qL]at he;subst he;cases h;exact⟨qX _,t,l,by simp,rfl,HEq.rfl,by simp,rfl⟩};{exact hr h}
theorem zhv (hO:EngOk C){f:FuncId}{own:List Bool}{run:List CV->List AV->Option (Bool×List CV×List AV)}(hf:FnOk C.P f)(h:∀(cs:List CV) (avs:List AV) (cs':List CV) (rs:List AV),own.length=cs.length->(∃(w:World) (xs:Nat->Value) (K:Nat->zT),∀(j:Nat) (c:CV),(cs++zB avs)[j]?=some c->Rep false w (xs j) c (K j))->run cs avs=some (true,cs',rs)->cs'.length=cs.length/\∃tms N D,zpx C tms N D f own cs avs=some (.agg cs'::rs)):zdc C.P f own run:=by
 refine⟨hf,λw blk vals e cs K avs xs Ka cs' rs hb hvs hol hcell hKlt hKd hxs hKa hrun=>?_⟩;obtain⟨hcl,tms,N,D,hev⟩:=h cs avs cs' rs hol ⟨w,λj=>if j<cs.length then (vals[j]?).getD undef else (xs[j-cs.length]?).getD undef,λj=>if j<cs.length then K j else Ka,λj c hc=>by
  by_cases hj:j<cs.length
  .rw [qT hj]at hc;have hu:=jY (show j<vals.size by omega)
   simp only[if_pos hj,hu,jU];exact(hcell j c _ hc hu).ro
  .rw [qP (by omega)]at hc
   have hlt:=(qA.1 hc).1;have hu:=qB (show j-cs.length<xs.length by rw[hxs.1];exact hlt)
   simp only[if_neg hj,hu,jU];exact hxs.2 _ c _ hc hu⟩ hrun
 unfold zpx at hev;cases hnf:zhR f && !(zoR (.agg cs::avs)) with
 |true=>rw[hnf]at hev;cases hev
 |false=>
 rw[hnf,cond_false]at hev;have hblt:blk<w.heap.size:=(qS.1 hb).1;generalize hst:zTS own cs avs=st at hev;have hro:st.ro=zeM own cs 0++zcL zsi avs cs.length:=(by rw[<- hst];rfl);have hloe:st.lo=[(0,zgQ cs 0)]:=(by rw[<- hst];rfl);have hstk:st.stk=[]:=(by rw[<- hst];rfl);have hnid:st.nid=cs.length+(zB avs).length+1:=(by rw[<- hst];rfl);have htme:st.tm = .v (.at<|.lp 0 0)::(zgQ cs 0).map λa=>.v (.at a):=(by rw[<- hst];rfl);have hroot0:∀r R,zl st.ro r=some R->R.ep=none/\((r<cs.length/\own[r]?=some R.own/\cs[r]?=some (.s R.t R.l))\/(cs.length<=r/\r<cs.length+(zB avs).length/\R.own=false/\(zB avs)[r-cs.length]?=some (.s R.t R.l))):=(by intro r R hR;rw[hro,zbH]at hR;split at hR;{rename_i Q hQ;cases hR;obtain⟨_,t,l,h2,_,_,h5,h6⟩:=zkl own cs 0 r R hQ;rw[h6]at h5 ⊢;simp only[vF]at h2 h5;exact⟨rfl,.inl ⟨(qA.1 h2).1,h5,h2⟩⟩};{obtain⟨h1,t,l,h2,rfl⟩:=zfe zsi avs cs.length r R hR;have:=(qA.1 h2).1;exact⟨rfl,.inr ⟨h1,by omega,rfl,h2⟩⟩});have hroot:∀r R,st.root r=some R->(r<cs.length/\own[r]?=some R.own/\cs[r]?=some (.s R.t R.l))\/(cs.length<=r/\R.own=false/\(zB avs)[r-cs.length]?=some (.s R.t R.l)):=(by intro r R hR;rcases (hroot0 r R (zbr hR).1).2 with h|⟨h1,_,h2,h3⟩;{exact .inl h};{exact .inr ⟨h1,h2,h3⟩});let E:Env:={ρ:=λn=>if n<cs.length then (vals[n]?).getD undef else (xs[n-cs.length]?).getD undef,φ:=λn=>if n<cs.length then K n else Ka,β:=λ_=>blk,κ:=w}
 have hE1:∀n,n<cs.length->E.ρ n=(vals[n]?).getD undef/\E.φ n=K n:=λn hn=>(by simp only[E,if_pos hn,and_self]);have hE2:∀n,cs.length<=n->E.ρ n=(xs[n-cs.length]?).getD undef/\E.φ n=Ka:=λn hn=>(by simp only[E,if_neg (show ¬ n<cs.length by omega),and_self]);have hva:∀(j:Nat) (a:At) (u:Value),(zgQ cs 0)[j]?=some a->vals[j]?=some u->u.oneCell'=true/\VA w st E a u:=(by intro j a u ha hu;rw[zsh,jT]at ha;cases hc:cs[j]? with|none=>rw[hc]at ha;cases ha|some c=>rw[hc]at ha;cases ha;have hr:=hcell j c u hc hu;have hj:j<cs.length:=(qA.1 hc).1;refine⟨hr.one,?_⟩;(cases c with|i k n=>exact hr.int_inv|b x=>exact hr.bool_inv|s t l=>obtain⟨⟨a,cap,hv,_⟩,_⟩:=hr.len;refine⟨⟨a,_,cap,hv⟩,λR _=>?_⟩;rw[(hE1 j hj).1,hu];rfl));have hlo:∀l cells,zl st.lo l=some cells->l=0/\cells=zgQ cs 0:=(by intro l cells h;rw[hloe]at h;simp only[zl]at h;split at h;{rename_i he;simp only[qL]at he;cases h;exact⟨he.symm,rfl⟩};{cases h});have hp:VA w st E (.lp 0 0) (.pointer<|some ⟨blk,0,none⟩):=⟨⟨_,rfl⟩,λ_ _=>rfl⟩;have hids:∀a∈zgQ cs 0,∀m∈a.ids,m<cs.length:=(by intro a ha m hm;obtain⟨j,hj⟩:=qR.1 ha;rw[zsh,jT]at hj;cases hc:cs[j]? with|none=>rw[hc]at hj;cases hj|some c=>rw[hc]at hj;cases hj;have:=zwL hm;have:=(qA.1 hc).1;omega);let S0:zT:=λb=>b=blk\/(∃j,j<cs.length/\zV own j/\K j b)\/(zhR f=false/\b=w.heap.size)
 have hS:Sim w S0 (λn=>n<st.nid) st E (#[.pointer<|some ⟨blk,0,none⟩]++vals) [] w:=by
  refine⟨⟨rfl,rfl,rfl,qX _,λ_ _ _=>rfl,λr R hR=>?_,λr R hR x hx=>?_,λr R hR ho=>?_,λhz r R hR ho he hfl=>?_,λr R r' R' hR ho hR' he hne x hx=>?_,λl cells hl=>?_,λl l' c1 c2 h1 h2 _=>?_,λl cells r R hl hR=>?_,λr R e hR he=>?_,rfl⟩,⟨λn R hn=>?_,λn cells hn=>?_,λm hm n hn=>?_,λf hf=>?_⟩,⟨?_,λi m v hm hv=>?_⟩,?_⟩;{rcases hroot r R hR with⟨h1,h2,h3⟩|⟨h1,h2,h3⟩;{have hu:=jY (show r<vals.size by omega);rw[(hE1 r h1).1,(hE1 r h1).2,hu];have:=hcell r _ _ h3 hu;rw[h2] at this;exact this};{have hlt:=(qA.1 h3).1;have hu:=qB (show r-cs.length<xs.length by rw[hxs.1];exact hlt);rw[(hE2 r h1).1,(hE2 r h1).2,hu,h2];exact hxs.2 _ _ _ h3 hu}};{rcases hroot r R hR with⟨h1,h2,h3⟩|⟨h1,h2,h3⟩;{rw [(hE1 r h1).2]at hx;exact(hKlt r x h1 hx).1};{rw [(hE2 r h1).2]at hx;exact(hKa x hx).1}};{rcases hroot r R hR with⟨h1,h2,h3⟩|⟨h1,h2,h3⟩;{refine⟨(hroot0 r R (zbr hR).1).1,λx hx=>.inl (.inr<|.inl ⟨r,h1,?_,?_⟩)⟩;{show own[r]?=some true;rw[h2,ho]};{rw [(hE1 r h1).2]at hx;exact hx}};{rw [h2]at ho;cases ho}}
  .exfalso;cases hq:zhR f with
   |false=>exact hz (.inr<|.inr ⟨hq,rfl⟩)
   |true=>rw[hq,uI]at hnf;have hfa:zoR (.agg cs::avs)=true:=(by simpa using hnf);have hmem:CV.s R.t R.l∈(AV.agg cs::avs).flatMap AV.cvs:=(by simp only[j3,jI];rcases hroot r R hR with⟨h1,h2,h3⟩|⟨h1,h2,h3⟩;{exact .inl (qK h3)};{exact .inr (qK h3)});have:=qM.1 hfa _ hmem;simp only at this;rw[hfl] at this;cases this
  {rcases hroot r R hR with⟨h1,h2,h3⟩|⟨h1,h2,h3⟩;{have hor:zV own r:=(by show own[r]?=some true;rw[h2,ho]);rw[(hE1 r h1).2]at hx;rcases hroot r' R' hR' with⟨h1',h2',h3'⟩|⟨h1',h2',h3'⟩;{rw [(hE1 r' h1').2];exact hKd r r' x h1 h1' hor hne hx};{rw [(hE2 r' h1').2];exact λhk=>(hKa x hk).2.2 r h1 hor hx}};{rw [h2]at ho;cases ho}};{obtain⟨rfl,rfl⟩:=hlo l cells hl;exact⟨.inl (.inl rfl),vals,e,hb,by rw[hvs,zwK],λj c u hc hu=>hva j c u hc hu⟩};{rw [(hlo l c1 h1).1,(hlo l' c2 h2).1]};{intro hx;rcases hroot r R hR with⟨h1,h2,h3⟩|⟨h1,h2,h3⟩;{rw [(hE1 r h1).2]at hx;exact(hKlt r _ h1 hx).2 rfl};{rw [(hE2 r h1).2]at hx;exact(hKa _ hx).2.1 rfl}};{rw [(hroot0 r R hR).1]at he;cases he};{rcases (hroot0 n R hn).2 with⟨h1,_⟩|⟨_,h1,_⟩<;>omega};{obtain⟨rfl,rfl⟩:=hlo n cells hn;refine⟨by omega,λa ha m hm=>?_⟩;have:=hids a ha m hm;omega};{rw [htme]at hm;rcases qI.1 hm with rfl|hm;{simp only [MV.ids,zbw,zN,At.ids,zbh,zbn,jO,j3,uF,jA,qF]at hn;omega};{obtain⟨a,ha,rfl⟩:=jC.1 hm;simp only[MV.ids,zbw,zN,j3,uF,jA]at hn;have:=hids a ha n hn;omega}};{rw [hstk]at hf;simp at hf};{rw [htme];simp[zwK,hvs];omega};{rw [htme]at hm;cases i with|zero=>rw[zYZ]at hv;simp at hm hv;subst hm hv;exact hp|succ i=>simp only[jL,qO]at hm;have hv':vals[i]?=some v:=(by rw[zY0]at hv;exact hv);(cases ha:(zgQ cs 0)[i]? with|none=>rw[ha]at hm;cases hm|some a=>rw[ha]at hm;cases hm;exact(hva i a v ha hv').2)};{rw [hstk];trivial}
 obtain⟨hl1,hl2⟩:=zgP (w:=w) (st:=st) (E:=E) avs xs cs.length hxs.1 (λi c u hc hu=>by
  have hr:=hxs.2 i c u hc hu;refine⟨?_,hr.one⟩;cases c with
  |i k n=>exact hr.int_inv
  |b x=>exact hr.bool_inv
  |s t l=>
   obtain⟨⟨a,cap,hv,_⟩,_⟩:=hr.len;refine⟨⟨a,_,cap,hv⟩,λR hR=>?_⟩;have e:cs.length+i-cs.length=i:=by omega
   rw[(hE2 _<|uB _ _).1,e,hu];rfl)
 obtain⟨_,hcalls⟩:=zjO hO (ziE hO (tms:=tms) (N:=N) D) f _ st _ _ hev w S0 _ E _ [] w (#[.pointer<|some ⟨blk,0,none⟩]++(zbQ avs xs).toArray)
  (λv w'=>w'.os=w.os/\w'.tape=w.tape/\w'.output=w.output/\w.heap.size<=w'.heap.size/\
   (∀b,b<w.heap.size->b≠blk->(∀j,j<cs.length->zV own j->¬ K j b)->w'.heap[b]?=w.heap[b]?)/\
   ∃(vals':Array Value) (e':TypeId) (K':Nat->zT) (ys:List Value) (Kr:Nat->zT),w'.heap[blk]?=some (.cells vals' e' (0,0))/\vals'.size=cs'.length/\cs'.length=cs.length/\
    (∀(j:Nat) (c:CV) (u:Value),cs'[j]?=some c->vals'[j]?=some u->match c with
     |.i k n=>u = .int k n
     |.b x=>u = .bool x
     |.s t l=>(zV own j->Rep true w' u (.s t l) (K' j))/\(¬ zV own j->vals[j]?=some u))/\
    zuJ (zo0 f) w' (zB rs) ys Kr/\v=zj6 (zbQ rs ys)/\
    (∀j x,j<cs.length->K' j x->x<w'.heap.size/\x≠blk/\((∃i,i<cs.length/\zV own i/\K i x)\/w.heap.size<=x))/\
    (∀i x,i<(zB rs).length->Kr i x->x<w'.heap.size/\x≠blk/\((∃i,i<cs.length/\zV own i/\K i x)\/w.heap.size<=x))/\
    (∀i j x,i<cs.length->j<cs.length->i≠j->K' i x->¬ K' j x)/\
    (∀i j c x,(zB rs)[i]?=some c->zo0 f c=true->j<(zB rs).length->i≠j->Kr i x->¬ Kr j x)/\
    (∀i j x,i<cs.length->j<(zB rs).length->K' i x->¬ Kr j x)) hS (λn hn h=>by omega)
  (by simp[hl1]) (λi m v hm hv=>by
   cases i with
   |zero=>rw[zYZ]at hv;simp at hm hv;subst hm hv;exact hp
   |succ i=>
    simp only[jL,qO]at hm;have hv':(zbQ avs xs)[i]?=some v:=by rw[zY0]at hv;simpa using hv
    cases hx:(zcI avs cs.length)[i]? with
    |none=>rw[hx]at hm;cases hm
    |some x=>rw[hx]at hm;cases hm;exact hl2 i x v hx hv')
  (λm hm n hn=>by
   rcases qI.1 hm with rfl|hm
   .simp only [MV.ids,zbw,zN,At.ids,zbh,zbn,jO,j3,uF,jA,qF]at hn;omega
   .obtain⟨x,hx,rfl⟩:=jC.1 hm;simp only[MV.ids,zbw,qN]at hn;obtain⟨a,ha,hn⟩:=hn;have:=(zff avs cs.length n x a hx ha hn).2;omega)
  (λU' st' E' w' tvs v hS' _ _ _ hv _ hans=>by
   split at hans
   .rename_i l hs htm;split at hans
    .rename_i cells hcells;split at hans
     .rename_i cs1 ks hbe;split at hans
      .rename_i ans hansof;simp only[qC,List.cons.injEq,AV.agg.injEq]at hans;obtain⟨rfl,rfl⟩:=hans;have hB:=zL0 own cells hs _ ks hbe;have hM:=hS'.mem;obtain⟨hts,htv⟩:=hS'.tm;have hlp:=htv 0 (.v<|.at<|.lp l 0) (.pointer<|some ⟨blk,0,none⟩) (by rw[htm];rfl) (zYZ _ _)
       have hβ:E'.β l=blk:=by have:=hlp.2 cells hcells;simp only[Value.pointer.injEq,qC,Addr.mk.injEq,and_true] at this;exact this.symm
       obtain⟨us,rfl,hul,huv⟩:=zvX hv;have TT:=zIJ (st:=st') (E:=E') (w:=w') (zhR f);obtain⟨ats,ys,kr,hG,hyl,hyv0,rfl,hkr,_⟩:=zih tvs ks _ us hansof hul (λk x u hx hu=>VT.tr TT (λ_ _ _ _=>trivial) (huv k x u hx hu));have hyv:∀(k:Nat) (a:At) (u:Value),ats[k]?=some a->ys[k]?=some u->VA w' st' E' a u:=λk a u ha hu=>by have h:=hyv0 k a u ha hu;rcases hG.get k a ha with⟨_,_,rfl,_⟩|⟨_,rfl,_⟩|⟨r,R1,rfl,hR1,hm,_⟩;{exact h};{exact h};{obtain⟨R0,hR0,ht,_⟩:=zjb hR1;refine⟨h.1,λR hR=>?_⟩;rw[hR0]at hR;cases hR;have:=h.2 R1 hR1;simpa [zQ] using this}
       have hzz:zhR f=true->¬ S0 w.heap.size:=λh h'=>by rcases h' with h'|⟨j,hj,_,hk⟩|⟨h',_⟩;{omega};{have:=(hKlt j _ hj hk).1;omega};{rw [h]at h';cases h'}
       obtain⟨_,vals',e',hb',hsz',hcv⟩:=hM.loc l cells hcells;rw[hβ]at hb';have hS0:∀x,(S0 x\/w.heap.size<=x)->x≠blk->((∃i,i<cs.length/\zV own i/\K i x)\/w.heap.size<=x):=by intro x h hne;rcases h with (h|h|h)|h;{exact absurd h hne};{exact .inl h};{exact .inr (by omega)};{exact .inr h}
       have hnb:∀r R x,st'.root r=some R->E'.φ r x->x≠blk:=by intro r R x hR hx he;subst he;rw[<- hβ]at hx;exact hM.lro l cells r R hcells hR hx
       have hget:∀i,i<(zB ans).length->∃a,ats[i]?=some a:=λi hi=>⟨_,qB (by rw[<- hG.len];exact hi)⟩
       let K':Nat->zT:=λj x=>zV own j/\cφ E' cells j x
       have hK':∀j x,K' j x->∃r R,cells[j]?=some (.sl r [])/\zV own j/\st'.root r=some R/\R.own=true/\r∈ks/\E'.φ r x:=by intro j x hx;obtain⟨ho,hx⟩:=hx;obtain⟨a,ha,hx⟩:=zr2 hx;rcases hB.get j a ha with⟨_,_,rfl,_⟩|⟨_,rfl,_⟩|⟨r,R,rfl,h1,h2,h3⟩;{exact hx.elim};{exact hx.elim};{rcases h3 with⟨_,h4,h5⟩|⟨h4,_⟩;{exact⟨r,R,ha,ho,h1,h4,h5,hx⟩};{exact absurd ho h4}}
       have hKr:∀i x,cφ E' ats i x->∃a r R,ats[i]?=some a/\a = .sl r []/\st'.root r=some R/\R.ep=none/\r∈kr/\aφ E' a x/\E'.φ r x:=by intro i x hx;obtain⟨a,ha,hx⟩:=zr2 hx;obtain⟨r,hr,rfl,hrx⟩:=hG.fi ha hx;obtain⟨R1,hR1,ho1⟩:=hG.own r hr;obtain⟨R,hR,_,hcase⟩:=zjb hR1;refine⟨_,r,R,ha,rfl,hR,?_,hr,hx,hrx⟩;rcases hcase with rfl|⟨_,_,he,_⟩;{exact(hM.mine r _ hR ho1).1};{exact he}
       refine⟨hM.os,hM.tape,hM.output,hM.size,λb hb hne hnk=>hM.keep b hb λh=>?_,vals',e',K',ys,cφ E' ats,hb',by rw[hsz',hB.len],hcl,λj c u hc hu=>?_,⟨by rw[hyl,hG.len],λi c x hc hx=>?_⟩,rfl,λj x hj hx=>?_,λi x hi hx=>?_,λi j x hi hj hne hx hx'=>?_,λi j c x hi ho hj hne hx hx'=>?_,λi j x hi hj hx hx'=>?_⟩
       .rcases h with h|⟨j,hj,ho,hk⟩|⟨_,h⟩
        .exact hne h
        .exact hnk j hj ho hk
        .omega
       .have hj:j<cells.length:=by rw[<- hB.len];exact(qA.1 hc).1
        have ha:=qB hj;obtain⟨_,hva'⟩:=hcv j _ u ha hu;rcases hB.get j _ ha with⟨k,n,h1,h2⟩|⟨y,h1,h2⟩|⟨r,R,h1,h2,h3,h4⟩
        .rw [hc]at h2;cases h2;rw[h1]at hva';exact hva'
        .rw [hc]at h2;cases h2;rw[h1]at hva';exact hva'
        .rw [hc]at h3;cases h3;rw[h1]at hva' ha;have hρ:=hva'.2 R h2;simp only[zQ,qC]at hρ;refine⟨λho=>?_,λhno=>?_⟩
         .rcases h4 with⟨_,h5,_⟩|⟨h5,_⟩
          .have hr:=hM.rep r R h2;rw[h5,hρ]at hr;exact hr.weak (λx hx=>⟨ho,by rw[zht ha];exact hx⟩)
          .exact absurd ho h5
         .rcases h4 with⟨h5,_⟩|⟨_,h5⟩
          .exact absurd h5 hno
          .have hjc:j<cs.length:=by rw[<- hcl,hB.len];exact hj
           have hu0:=jY (show j<vals.size by omega)
           have hsl:=htv (j+1) (.v<|.at<|.sl r []) vals[j] (by rw[htm,jL];exact h5) (by rw[zY0];exact hu0)
           have hρ':=hsl.2 R h2;simp only[zQ,qC]at hρ';rw[hu0,<- hρ',hρ]
       .obtain⟨a,ha⟩:=hget i (qA.1 hc).1;rw[zht ha];exact zUe hM hG ha hc (hyv i a x ha hx)
       .obtain⟨r,R,_,ho,h1,h2,h3,h4⟩:=hK' j x hx;have:=hnb r R x h1 h4;exact⟨hM.rlt r R h1 x h4,this,hS0 x ((hM.mine r R h1 h2).2 x h4) this⟩
       .obtain⟨a,r,R,ha,_,h1,_,_,h3,h4⟩:=hKr i x hx;have:=hnb r R x h1 h4;exact⟨hM.rlt r R h1 x h4,this,hS0 x (zYf hzz hM hG ha h3).1 this⟩
       .obtain⟨r,R,g1,ho,h1,h2,h3,h4⟩:=hK' i x hx;obtain⟨r',R',g1',ho',h1',h2',h3',h4'⟩:=hK' j x hx';have:=hM.own_apart h1 h2 h1' h2' h4 h4';subst this;exact hne (hB.inj i j r ho ho' g1 g1')
       .obtain⟨a,r,R,ha,_,h1,_,_,h3,h4⟩:=hKr i x hx;obtain⟨b,r',R',hb',_,h1',_,_,h3',h4'⟩:=hKr j x hx';exact hne (zUd hM hG ha hb' hi ho h3 h3')
       .obtain⟨r,R,g1,ho,h1,h2,h3,h4⟩:=hK' i x hx;obtain⟨b,r',R',hb',_,h1',he',hr',h3',h4'⟩:=hKr j x hx'
        by_cases e:r=r'
        .subst e;exact hkr r hr' h3
        .exact hM.apart r R r' R' h1 h2 h1' he' e x h4 h4'
      .cases hans
     .cases hans
    .cases hans
   .cases hans)
 refine hcalls.mono ?_;intro ex w' he;cases ex with|returned v=>exact he|panicked chain=>exact he.elim|outgrown=>exact he.elim
end
def zVp (C:Cfg)(tms:FuncId->Nat->Option Tmpl)(N D:Nat)(f:FuncId)(own:List Bool)(args:List AV):Option Ans :=
 ztb C tms N (zp6 C tms N D) f ((zcI args 0).map .v) {tm:=[],lo:=[],ro:=zeM own (args.flatMap AV.cvs) 0,stk:=[],nid:=(args.flatMap AV.cvs).length,ep:=0} λrs st=>zpr st rs []
def zAP (C:Cfg)(tms:FuncId->Nat->Option Tmpl)(N D:Nat)(f:FuncId)(own:List Bool)(ja jr:Nat)(js:List (List Nat))(t:Ty)(args:List AV):Option Ans :=
 ztb C tms N (zp6 C tms N D) f ((zcI args 0).map .v) {tm:=[.v<|.at<|.kp ja js t],lo:=[],ro:=zeM own (args.flatMap AV.cvs) 0,stk:=[],nid:=(args.flatMap AV.cvs).length,ep:=0} λrs st=>
  match st.tm,(rs.flatMap zN)[jr]? with
  |[.v<|.at<|.kp n J t'],some (.sl m [])=>cond (Nat.beq n m&&(J==js&&decide (t'=t))) (zpr st rs []) none
  |_,_=>none
section
variable {C:Cfg} {w0 w w1:World} {S0:zT} {U:Nat->Prop} {st st1:St} {E E1:Env} {ts:Array Value} {sv:List (Array Value)}
theorem zJj (hO:EngOk C){f:FuncId}{own:List Bool}{run:List AV->Option (Bool×List AV)}(hf:FnOk C.P f)(hal0:zh0 f=[[]])(h:∀(avs:List AV) (rs:List AV),own.length=(zB avs).length->(∃(w:World) (xs:Nat->Value) (K:Nat->zT),∀(j:Nat) (c:CV),(zB avs)[j]?=some c->Rep false w (xs j) c (K j))->run avs=some (true,rs)->∃tms N D,zVp C tms N D f own avs=some rs)(hne:own.isEmpty=false:=by rfl):zek C.P f own none run:=by
 refine zek.of (by rintro rfl;cases hne) ?_;intro al hal;rw[hal0,qF]at hal;subst hal;refine⟨hf,λw K avs xs rs hxl hol hrep hKlt hKd0 _ hrun=>?_⟩;have hKd:=λi j x hi hj ho hne=>hKd0 i j x hi hj ho hne (by simp)
 obtain⟨tms,N,D,hev⟩:=h avs rs hol ⟨w,λj=>(xs[j]?).getD undef,K,λj c hc=>by
  have hlt:=(qA.1 hc).1;have hu:=qB (show j<xs.length by rw[hxl];exact hlt)
  simp only[hu,jU];exact(hrep j c _ hc hu).ro⟩ hrun
 unfold zVp at hev;generalize hst:({tm:=[],lo:=[],ro:=zeM own (avs.flatMap AV.cvs) 0,stk:=[],nid:=(avs.flatMap AV.cvs).length,ep:=0}:St)=st at hev;have hro0:st.ro=zeM own (zB avs) 0:=(by rw[<- hst];rfl);have hroot0:∀r R,zl st.ro r=some R->R.ep=none/\r<(zB avs).length/\own[r]?=some R.own/\(zB avs)[r]?=some (.s R.t R.l):=(by intro r R hR;rw[hro0]at hR;obtain⟨_,t,l,h2,_,_,h5,h6⟩:=zkl own (zB avs) 0 r R hR;rw[h6]at h5 ⊢;simp only[vF]at h2 h5;exact⟨rfl,(qA.1 h2).1,h5,h2⟩);have hlo:∀l,zl st.lo l=none:=λl=>(by rw[<- hst];rfl);let E:Env:={ρ:=λn=>(xs[n]?).getD undef,φ:=K,β:=λ_=>0,κ:=w}
 let S0:zT:=λb=>(∃j,j<(zB avs).length/\zV own j/\K j b)\/b=w.heap.size
 have hS:Sim w S0 (λn=>n<(zB avs).length) st E #[] [] w:=by refine⟨⟨rfl,rfl,rfl,qX _,λ_ _ _=>rfl,λr R hR=>?_,λr R hR x hx=>?_,λr R hR ho=>?_,λhz _ _ _ _ _ _=>absurd (.inr rfl) hz,λr R r' R' hR ho hR' _ hne x hx=>?_,λl cs hl=>?_,λl l' cs cs' hl=>?_,λl cs r R hl=>?_,λr R e hR he=>?_,rfl⟩,⟨λn R hn=>?_,λn cs hn=>?_,λm hm=>?_,λf hf=>?_⟩,⟨?_,λi m v hm=>?_⟩,?_⟩;{obtain⟨_,h1,h2,h3⟩:=hroot0 r R (zbr hR).1;have hu:=qB (show r<xs.length by omega);show Rep R.own w ((xs[r]?).getD undef) _ (K r);have:=hrep r _ _ h3 hu;rw[h2] at this;rw[hu];exact this};{obtain⟨_,h1,_,_⟩:=hroot0 r R (zbr hR).1;exact hKlt r x h1 hx};{obtain⟨he,h1,h2,_⟩:=hroot0 r R (zbr hR).1;refine⟨he,λx hx=>.inl (.inl ⟨r,h1,?_,hx⟩)⟩;show own[r]?=some true;rw[h2,ho]};{obtain⟨_,h1,h2,_⟩:=hroot0 r R (zbr hR).1;obtain⟨_,h1',_,_⟩:=hroot0 r' R' (zbr hR').1;exact hKd r r' x h1 h1' (by show own[r]?=some true;rw[h2,ho]) hne hx};{rw [hlo]at hl;cases hl};{rw [hlo]at hl;cases hl};{rw [hlo]at hl;cases hl};{rw [(hroot0 r R hR).1]at he;cases he};{exact(hroot0 n R hn).2.1};{rw [hlo]at hn;cases hn};{rw [<- hst]at hm;simp at hm};{rw [<- hst]at hf;simp at hf};{rw [<- hst];rfl};{rw [<- hst]at hm;simp at hm};{rw [<- hst];trivial}
 obtain⟨hl1,hl2⟩:=zgP (w:=w) (st:=st) (E:=E) avs xs 0 hxl (λi c u hc hu=>by
  have hr:=hrep i c u hc hu;refine⟨?_,hr.one⟩;cases c with
  |i k n=>exact hr.int_inv
  |b x=>exact hr.bool_inv
  |s t l=>
   obtain⟨⟨a,cap,hv,_⟩,_⟩:=hr.len;refine⟨⟨a,_,cap,hv⟩,λR hR=>?_⟩;have e:0+i=i:=by omega
   show some ((xs[0+i]?).getD undef)=some u
   rw[e,hu];rfl)
 have hnid:st.nid=(zB avs).length:=by rw[<- hst];rfl
 obtain⟨_,hcalls⟩:=zjO hO (ziE hO (tms:=tms) (N:=N) D) f _ st _ rs hev w S0 _ E #[] [] w (zbQ avs xs).toArray
  (λv w'=>w'.os=w.os/\w'.tape=w.tape/\w'.output=w.output/\w.heap.size<=w'.heap.size/\
   (∀b,b<w.heap.size->(∀j,j<(zB avs).length->zV own j->¬ K j b)->w'.heap[b]?=w.heap[b]?)/\
   ∃(ys:List Value) (Kr:Nat->zT),zdF true w' (zB rs) ys Kr/\v=zj6 (zbQ rs ys)/\
    (∀i x,i<(zB rs).length->Kr i x->x<w'.heap.size/\((∃j,j<(zB avs).length/\zV own j/\K j x)\/w.heap.size<=x))/\
    (∀i j x,i<(zB rs).length->j<(zB rs).length->i≠j->Kr i x->¬ Kr j x)/\
    (∀ja jr js,(none:Option (Nat×Nat×List (List Nat)))=some (ja,jr,js)->∀t l u,(zB avs)[ja]?=some (.s t l)->xs[ja]?=some u->∃l',(zB rs)[jr]?=some (.s t l')/\ys[jr]?=some u/\
     ∀p v,zQ w t u p=some v->js.any (λc=>c.isPrefixOf (cols p))=false->zQ w' t u p=some v)) hS (λn hn h=>by omega)
  (by simp[hl1]) (λi m v hm hv=>by
   rw[qO]at hm;cases hx:(zcI avs 0)[i]? with
   |none=>rw[hx]at hm;cases hm
   |some x=>rw[hx]at hm;cases hm;exact hl2 i x v hx (by simpa using hv))
  (λm hm n hn=>by
   obtain⟨x,hx,rfl⟩:=jC.1 hm;simp only[MV.ids,zbw,qN]at hn;obtain⟨a,ha,hn⟩:=hn;have:=(zff avs 0 n x a hx ha hn).2;omega)
  (λU' st' E' w' tvs v hS' _ _ _ hv _ hans=>by
   obtain⟨us,rfl,hul,huv⟩:=zvX hv;obtain⟨ats,ys,ks,hG,hyl,hyv,rfl,_⟩:=zih tvs [] rs us hans hul huv;have hM:=hS'.mem;have hget:∀i,i<(zB rs).length->∃a,ats[i]?=some a:=λi hi=>⟨_,qB (by rw[<- hG.len];exact hi)⟩
   have hKr:∀i x,cφ E' ats i x->∃r∈ks,∃R,ats[i]?=some (.sl r [])/\st'.root r=some R/\R.own=true/\E'.φ r x:=by intro i x hx;obtain⟨a,ha,hx⟩:=zr2 hx;obtain⟨r,hr,rfl,hrx⟩:=hG.fi ha hx;obtain⟨R,hR,ho⟩:=hG.own r hr;exact⟨r,hr,R,ha,hR,ho,hrx⟩
   refine⟨hM.os,hM.tape,hM.output,hM.size,λb hb hnk=>hM.keep b hb λh=>h.elim (λ⟨j,hj,ho,hk⟩=>hnk j hj ho hk) (λh=>by omega),ys,cφ E' ats,⟨by rw[hyl,hG.len],λi c x hc hx=>?_⟩,rfl,λi x hi hx=>?_,λi j x hi hj hne hx hx'=>?_,λja jr js h=>by cases h⟩
   .obtain⟨a,ha⟩:=hget i (qA.1 hc).1;rw[zht ha];exact hG.rep hM ha hc (hyv i a x ha hx)
   .obtain⟨r,hr,R,_,h1,h2,h4⟩:=hKr i x hx;exact⟨hM.rlt r R h1 x h4,((hM.mine r R h1 h2).2 x h4).elim (λh=>h.imp (λh=>h) λh=>k7 h.symm) .inr⟩
   .obtain⟨r,hr,R,g1,h1,h2,h4⟩:=hKr i x hx;obtain⟨r',hr',R',g1',h1',h2',h4'⟩:=hKr j x hx';have:=hM.own_apart h1 h2 h1' h2' h4 h4';subst this;exact hne (hG.inj i j r g1 g1'))
 refine hcalls.mono ?_;intro ex w' he;cases ex with|returned v=>exact he|panicked chain=>exact he.elim|outgrown=>exact he.elim
theorem zla (hO:EngOk C){f:FuncId}{own:List Bool}{ja jr:Nat}{js:List (List Nat)}{kt:Ty}{run:List AV->Option (Bool×List AV)}(hf:FnOk C.P f)(hal0:zh0 f=[[]])(h:∀(avs:List AV) (rs:List AV),own.length=(zB avs).length->(∃(w:World) (xs:Nat->Value) (K:Nat->zT),∀(j:Nat) (c:CV),(zB avs)[j]?=some c->Rep false w (xs j) c (K j))->run avs=some (true,rs)->(∃l,(zB avs)[ja]?=some (.s kt l))/\own[ja]?=some true/\∃tms N D,zAP C tms N D f own ja jr js kt avs=some rs)(hne:own.isEmpty=false:=by rfl):zek C.P f own (some (ja,jr,js)) run:=by
 refine zek.of (by rintro rfl;cases hne) ?_;intro al hal;rw[hal0,qF]at hal;subst hal;refine⟨hf,λw K avs xs rs hxl hol hrep hKlt hKd0 _ hrun=>?_⟩;have hKd:=λi j x hi hj ho hne=>hKd0 i j x hi hj ho hne (by simp)
 obtain⟨⟨kl,hkl⟩,hoj,tms,N,D,hev⟩:=h avs rs hol ⟨w,λj=>(xs[j]?).getD undef,K,λj c hc=>by
  have hlt:=(qA.1 hc).1;have hu:=qB (show j<xs.length by rw[hxl];exact hlt)
  simp only[hu,jU];exact(hrep j c _ hc hu).ro⟩ hrun
 unfold zAP at hev;have hjl:ja<(zB avs).length:=(qA.1 hkl).1;have hjx:ja<xs.length:=(by rw[hxl];exact hjl);have hju:=qB hjx;generalize hst:({tm:=[.v<|.at<|.kp ja js kt],lo:=[],ro:=zeM own (avs.flatMap AV.cvs) 0,stk:=[],nid:=(avs.flatMap AV.cvs).length,ep:=0}:St)=st at hev;have hro0:st.ro=zeM own (zB avs) 0:=(by rw[<- hst];rfl);have hroot0:∀r R,zl st.ro r=some R->R.ep=none/\r<(zB avs).length/\own[r]?=some R.own/\(zB avs)[r]?=some (.s R.t R.l):=(by intro r R hR;rw[hro0]at hR;obtain⟨_,t,l,h2,_,_,h5,h6⟩:=zkl own (zB avs) 0 r R hR;rw[h6]at h5 ⊢;simp only[vF]at h2 h5;exact⟨rfl,(qA.1 h2).1,h5,h2⟩);have hlo:∀l,zl st.lo l=none:=λl=>(by rw[<- hst];rfl);let E:Env:={ρ:=λn=>(xs[n]?).getD undef,φ:=K,β:=λ_=>0,κ:=w}
 let S0:zT:=λb=>(∃j,j<(zB avs).length/\zV own j/\K j b)\/b=w.heap.size
 have hS:Sim w S0 (λn=>n<(zB avs).length) st E #[xs[ja]] [] w:=by refine⟨⟨rfl,rfl,rfl,qX _,λ_ _ _=>rfl,λr R hR=>?_,λr R hR x hx=>?_,λr R hR ho=>?_,λhz _ _ _ _ _ _=>absurd (.inr rfl) hz,λr R r' R' hR ho hR' _ hne x hx=>?_,λl cs hl=>?_,λl l' cs cs' hl=>?_,λl cs r R hl=>?_,λr R e hR he=>?_,rfl⟩,⟨λn R hn=>?_,λn cs hn=>?_,λm hm=>?_,λf hf=>?_⟩,⟨?_,λi m v hm hv=>?_⟩,?_⟩;{obtain⟨_,h1,h2,h3⟩:=hroot0 r R (zbr hR).1;have hu:=qB (show r<xs.length by omega);show Rep R.own w ((xs[r]?).getD undef) _ (K r);have:=hrep r _ _ h3 hu;rw[h2] at this;rw[hu];exact this};{obtain⟨_,h1,_,_⟩:=hroot0 r R (zbr hR).1;exact hKlt r x h1 hx};{obtain⟨he,h1,h2,_⟩:=hroot0 r R (zbr hR).1;refine⟨he,λx hx=>.inl (.inl ⟨r,h1,?_,hx⟩)⟩;show own[r]?=some true;rw[h2,ho]};{obtain⟨_,h1,h2,_⟩:=hroot0 r R (zbr hR).1;obtain⟨_,h1',_,_⟩:=hroot0 r' R' (zbr hR').1;exact hKd r r' x h1 h1' (by show own[r]?=some true;rw[h2,ho]) hne hx};{rw [hlo]at hl;cases hl};{rw [hlo]at hl;cases hl};{rw [hlo]at hl;cases hl};{rw [(hroot0 r R hR).1]at he;cases he};{exact(hroot0 n R hn).2.1};{rw [hlo]at hn;cases hn};{rw [<- hst]at hm;simp only[qF]at hm;subst hm;intro n hn;simp only[MV.ids,zbw,zN,j3,uF,At.ids,zbh,zbn,jA,qF]at hn;subst hn;exact hjl};{rw [<- hst]at hf;simp at hf};{rw [<- hst];rfl};{rw [<- hst]at hm;cases i with|succ i=>simp at hm|zero=>simp only[qH,qC]at hm hv;subst hm;have hv:xs[ja]=v:=(by simpa using hv);subst hv;have hr:=hrep ja _ _ hkl hju;obtain⟨⟨a,cap,hva,_⟩,_⟩:=hr.len;refine⟨⟨a,_,cap,hva⟩,λR hR=>?_⟩;obtain⟨_,_,_,h4⟩:=hroot0 ja R (zbr hR).1;rw[hkl]at h4;cases h4;refine⟨rfl,?_,λp u hp _=>hp⟩;show (xs[ja]?).getD undef=xs[ja];rw[hju];rfl};{rw [<- hst];trivial}
 obtain⟨hl1,hl2⟩:=zgP (w:=w) (st:=st) (E:=E) avs xs 0 hxl (λi c u hc hu=>by
  have hr:=hrep i c u hc hu;refine⟨?_,hr.one⟩;cases c with
  |i k n=>exact hr.int_inv
  |b x=>exact hr.bool_inv
  |s t l=>
   obtain⟨⟨a,cap,hv,_⟩,_⟩:=hr.len;refine⟨⟨a,_,cap,hv⟩,λR hR=>?_⟩;have e:0+i=i:=by omega
   show some ((xs[0+i]?).getD undef)=some u
   rw[e,hu];rfl)
 have hnid:st.nid=(zB avs).length:=by rw[<- hst];rfl
 obtain⟨_,hcalls⟩:=zjO hO (ziE hO (tms:=tms) (N:=N) D) f _ st _ rs hev w S0 _ E #[xs[ja]] [] w (zbQ avs xs).toArray
  (λv w'=>w'.os=w.os/\w'.tape=w.tape/\w'.output=w.output/\w.heap.size<=w'.heap.size/\
   (∀b,b<w.heap.size->(∀j,j<(zB avs).length->zV own j->¬ K j b)->w'.heap[b]?=w.heap[b]?)/\
   ∃(ys:List Value) (Kr:Nat->zT),zdF true w' (zB rs) ys Kr/\v=zj6 (zbQ rs ys)/\
    (∀i x,i<(zB rs).length->Kr i x->x<w'.heap.size/\((∃j,j<(zB avs).length/\zV own j/\K j x)\/w.heap.size<=x))/\
    (∀i j x,i<(zB rs).length->j<(zB rs).length->i≠j->Kr i x->¬ Kr j x)/\
    (∀ja2 jr2 js2,some (ja,jr,js)=some (ja2,jr2,js2)->∀t l u,(zB avs)[ja2]?=some (.s t l)->xs[ja2]?=some u->∃l',(zB rs)[jr2]?=some (.s t l')/\ys[jr2]?=some u/\
     ∀p v,zQ w t u p=some v->js2.any (λc=>c.isPrefixOf (cols p))=false->zQ w' t u p=some v)) hS (λn hn h=>by omega)
  (by simp[hl1]) (λi m v hm hv=>by
   rw[qO]at hm;cases hx:(zcI avs 0)[i]? with
   |none=>rw[hx]at hm;cases hm
   |some x=>rw[hx]at hm;cases hm;exact hl2 i x v hx (by simpa using hv))
  (λm hm n hn=>by
   obtain⟨x,hx,rfl⟩:=jC.1 hm;simp only[MV.ids,zbw,qN]at hn;obtain⟨a,ha,hn⟩:=hn;have:=(zff avs 0 n x a hx ha hn).2;omega)
  (λU' st' E' w' tvs v hS' _ _ _ hv _ hans=>by
   obtain⟨us,rfl,hul,huv⟩:=zvX hv;split at hans
   rotate_left
   .cases hans
   rename_i n J t' m htm hrm;cases hck:(Nat.beq n m&&(J==js&&decide (t'=kt))) with
   |false=>rw[hck]at hans;cases hans
   |true=>
   rw[hck]at hans;simp only[cond_true]at hans;simp only[qE,kK,qL,qY]at hck;obtain⟨hnm,hJ,ht⟩:=hck;subst hnm hJ ht;obtain⟨ats,ys,ks,hG,hyl,hyv,rfl,_,hats⟩:=zih tvs [] rs us hans hul huv;have hM:=hS'.mem;have hget:∀i,i<(zB rs).length->∃a,ats[i]?=some a:=λi hi=>⟨_,qB (by rw[<- hG.len];exact hi)⟩
   have hKr:∀i x,cφ E' ats i x->∃r∈ks,∃R,ats[i]?=some (.sl r [])/\st'.root r=some R/\R.own=true/\E'.φ r x:=by intro i x hx;obtain⟨a,ha,hx⟩:=zr2 hx;obtain⟨r,hr,rfl,hrx⟩:=hG.fi ha hx;obtain⟨R,hR,ho⟩:=hG.own r hr;exact⟨r,hr,R,ha,hR,ho,hrx⟩
   refine⟨hM.os,hM.tape,hM.output,hM.size,λb hb hnk=>hM.keep b hb λh=>h.elim (λ⟨j,hj,ho,hk⟩=>hnk j hj ho hk) (λh=>by omega),ys,cφ E' ats,⟨by rw[hyl,hG.len],λi c x hc hx=>?_⟩,rfl,λi x hi hx=>?_,λi j x hi hj hne hx hx'=>?_,λja2 jr2 js2 he t l u hcl hxu=>?_⟩
   .obtain⟨a,ha⟩:=hget i (qA.1 hc).1;rw[zht ha];exact hG.rep hM ha hc (hyv i a x ha hx)
   .obtain⟨r,hr,R,_,h1,h2,h4⟩:=hKr i x hx;exact⟨hM.rlt r R h1 x h4,((hM.mine r R h1 h2).2 x h4).elim (λh=>h.imp (λh=>h) λh=>k7 h.symm) .inr⟩
   .obtain⟨r,hr,R,g1,h1,h2,h4⟩:=hKr i x hx;obtain⟨r',hr',R',g1',h1',h2',h4'⟩:=hKr j x hx';have:=hM.own_apart h1 h2 h1' h2' h4 h4';subst this;exact hne (hG.inj i j r g1 g1')
   .cases he;rw[hkl]at hcl;cases hcl;rw[hju]at hxu;cases hxu;have ha:ats[jr]?=some (.sl n []):=by rw[hats];exact hrm
    rcases hG.get jr _ ha with⟨_,_,h,_⟩|⟨_,h,_⟩|⟨r,R,h,hR,_,hcs⟩
    .cases h
    .cases h
    .cases h;have hty:=hS'.tm.2 0 (.v<|.at<|.kp n J t') xs[ja] (by rw[htm];rfl) (by simp)
     obtain⟨e1,e2,e3⟩:=hty.2 R hR;have hyl2:jr<ys.length:=by rw[hyl];exact(qA.1 ha).1
     have hy:=qB hyl2;have e4:=(hyv jr _ _ ha hy).2 R hR;simp only[zQ,qC] at e4;refine⟨e1 ▸ R.l,?_,by rw[hy,<- e4,e2],?_⟩
     .rw [hcs];cases e1;rfl
     .rw [hM.κ] at e3;exact e3)
 refine hcalls.mono ?_;intro ex w' he;cases ex with|returned v=>exact he|panicked chain=>exact he.elim|outgrown=>exact he.elim
def zOX (al:List (Nat×Nat)):At->At
 |.sl r []=>match al.find? (λx=>Nat.beq x.1 r) with
  |some x=>.sl x.2 []
  |none=>.sl r []
 |a=>a
def zOA (C:Cfg)(tms:FuncId->Nat->Option Tmpl)(N D:Nat)(f:FuncId)(own:List Bool)(al:List (Nat×Nat))(ja jr:Nat)(js:List (List Nat))(t:Ty)(args:List AV):Option Ans :=
 ztb C tms N (zp6 C tms N D) f (((zcI args 0).map .v).map (zjk<|zOX al)) {tm:=[.v<|.at<|.kp ja js t],lo:=[],ro:=(zeM own (args.flatMap AV.cvs) 0).filter (λx=>!al.any λy=>Nat.beq y.1 x.1),stk:=[],nid:=(args.flatMap AV.cvs).length,ep:=0} λrs st=>
  match st.tm,(rs.flatMap zN)[jr]? with
  |[.v<|.at<|.kp n J t'],some (.sl m [])=>cond (Nat.beq n m&&(J==js&&decide (t'=t))) (zpr st rs []) none
  |_,_=>none
def zRh (a:At):Prop:=(∃k n,a = .i k n)\/(∃b,a = .b b)\/∃r,a = .sl r []
theorem zrh:∀(cs:List CV) (id:Nat) (a:At),a∈zgQ cs id->zRh a
 |[],_,_,h=>by simp[zgQ]at h
 |.i k n::cs,id,a,h=>by simp only[zgQ,qI]at h;rcases h with rfl|h;{exact .inl ⟨k,n,rfl⟩};{exact zrh cs (id+1) a h}
 |.b x::cs,id,a,h=>by simp only[zgQ,qI]at h;rcases h with rfl|h;{exact .inr (.inl ⟨x,rfl⟩)};{exact zrh cs (id+1) a h}
 |.s t l::cs,id,a,h=>by simp only[zgQ,qI]at h;rcases h with rfl|h;{exact .inr (.inr ⟨id,rfl⟩)};{exact zrh cs (id+1) a h}
theorem zun:∀(rs:List AV) (id:Nat) (x:TV) (a:At),x∈zcI rs id->a∈zN x->zRh a
 |[],_,_,_,h,_=>by simp[zcI]at h
 |.one c::rs,id,x,a,h,ha=>by simp only[zcI,qI]at h;rcases h with rfl|h;{simp only [zN,qF]at ha;subst ha;cases c with|i k n=>exact .inl ⟨k,n,rfl⟩|b x=>exact .inr (.inl ⟨x,rfl⟩)|s t l=>exact .inr (.inr ⟨id,rfl⟩)};{exact zun rs (id+1) x a h ha}
 |.agg cs::rs,id,x,a,h,ha=>by simp only[zcI,qI]at h;rcases h with rfl|h;{exact zrh cs id a ha};{exact zun rs (id+cs.length) x a h ha}
theorem z3v {w1:World}{st1:St}{E1:Env}{w:World}{st:St}{E:Env}{f:At->At}{P:At->Prop}(T:∀a v,P a->VA w st E a v->VA w1 st1 E1 (f a) v){x:TV}{v:Value}(hP:∀a∈zN x,P a)(h:VT w st E x v):VT w1 st1 E1 (zpE f x) v:=by rcases x with a|l;{exact T a v (hP a (by simp[zN])) h};{obtain⟨vs,h1,h2,h3⟩:=h;refine⟨vs,h1,by simp[h2],λj a u ha hu=>?_⟩;rw[qO]at ha;cases hl:l[j]? with|none=>rw[hl]at ha;cases ha|some b=>rw[hl]at ha;cases ha;exact⟨(h3 j b u hl hu).1,T _ _ (hP b (by simp only[zN];exact qK hl)) (h3 j b u hl hu).2⟩}
theorem zYY {al:List (Nat×Nat)}{a:At}{n:Nat}(h:n∈(zOX al a).ids):n∈a.ids\/∃r,(r,n)∈al:=by unfold zOX at h;split at h;{split at h;{rename_i r x hx;simp only[At.ids,zbh,zbn,jA,qF]at h;subst h;exact .inr ⟨x.1,uM hx⟩};{exact .inl h}};{exact .inl h}
theorem zpq {α:Type}(q:Nat->Bool):∀(l:List (Nat×α)) (n:Nat) (x:α),zl (l.filter λy=>q y.1) n=some x->q n=true/\zl l n=some x
 |[],_,_,h=>by simp[zl]at h
 |(k,v)::l,n,x,h=>by cases hq:q k with|false=>rw[List.filter_cons_of_neg (by simp[hq])]at h;obtain⟨h1,h2⟩:=zpq q l n x h;refine⟨h1,?_⟩;simp only[zl];(cases hk:k==n with|false=>exact h2|true=>have:k=n:=(by simpa using hk);subst this;rw[hq]at h1;cases h1)|true=>rw[List.filter_cons_of_pos (by simp[hq])]at h;simp only[zl]at h ⊢;(cases hk:k==n with|false=>rw[hk]at h;exact zpq q l n x (by simpa using h)|true=>rw[hk]at h;have:k=n:=(by simpa using hk);subst this;exact⟨hq,by simpa using h⟩)
theorem zJi (hO:EngOk C){f:FuncId}{own:List Bool}{ja jr:Nat}{js:List (List Nat)}{kt:Ty}{run:List AV->Option (Bool×List AV)}(hf:FnOk C.P f)(h:∀(al:List (Nat×Nat)) (avs:List AV) (rs:List AV),al∈zh0 f->(∀j i,(j,i)∈al->(zB avs)[j]?=(zB avs)[i]?)->own.length=(zB avs).length->(∃(w:World) (xs:Nat->Value) (K:Nat->zT),∀(j:Nat) (c:CV),(zB avs)[j]?=some c->Rep false w (xs j) c (K j))->run avs=some (true,rs)->(∃l,(zB avs)[ja]?=some (.s kt l))/\own[ja]?=some true/\∃tms N D,zOA C tms N D f own al ja jr js kt avs=some rs)(hne:own.isEmpty=false:=by rfl):zek C.P f own (some (ja,jr,js)) run:=by
 refine zek.of (by rintro rfl;cases hne) ?_
 intro al hal;refine⟨hf,λw K avs xs rs hxl hol hrep hKlt hKd0 hali hrun=>?_⟩;obtain⟨⟨kl,hkl⟩,hoj,tms,N,D,hev⟩:=h al avs rs hal (λj i hji=>(hali j i hji).2.2.2.1) hol ⟨w,λj=>(xs[j]?).getD undef,K,λj c hc=>by
  have hlt:=(qA.1 hc).1;have hu:=qB (show j<xs.length by rw[hxl];exact hlt)
  simp only[hu,jU];exact(hrep j c _ hc hu).ro⟩ hrun
 unfold zOA at hev;have hjl:ja<(zB avs).length:=(qA.1 hkl).1;have hjx:ja<xs.length:=(by rw[hxl];exact hjl);have hju:=qB hjx;generalize hst:({tm:=[.v<|.at<|.kp ja js kt],lo:=[],ro:=(zeM own (avs.flatMap AV.cvs) 0).filter (λx=>!al.any λy=>Nat.beq y.1 x.1),stk:=[],nid:=(avs.flatMap AV.cvs).length,ep:=0}:St)=st at hev;have hro0:st.ro=(zeM own (zB avs) 0).filter (λx=>!al.any λy=>Nat.beq y.1 x.1):=(by rw[<- hst];rfl);have hna:∀r R,zl st.ro r=some R->∀i,(r,i)∉al:=(by intro r R hR i hi;rw[hro0]at hR;have:=(zpq (λn=>!al.any λy=>Nat.beq y.1 n) _ r R hR).1;simp only[jE,kL] at this;exact this _ hi (Nat.beq_refl r));have hroot0:∀r R,zl st.ro r=some R->R.ep=none/\r<(zB avs).length/\own[r]?=some R.own/\(zB avs)[r]?=some (.s R.t R.l):=(by intro r R hR;rw[hro0]at hR;obtain⟨_,t,l,h2,_,_,h5,h6⟩:=zkl own (zB avs) 0 r R (zpq (λn=>!al.any λy=>Nat.beq y.1 n) _ r R hR).2;rw[h6]at h5 ⊢;simp only[vF]at h2 h5;exact⟨rfl,(qA.1 h2).1,h5,h2⟩);have hlo:∀l,zl st.lo l=none:=λl=>(by rw[<- hst];rfl);let E:Env:={ρ:=λn=>(xs[n]?).getD undef,φ:=K,β:=λ_=>0,κ:=w}
 let S0:zT:=λb=>(∃j,j<(zB avs).length/\zV own j/\K j b)\/b=w.heap.size
 have hS:Sim w S0 (λn=>n<(zB avs).length) st E #[xs[ja]] [] w:=(by refine⟨⟨rfl,rfl,rfl,qX _,λ_ _ _=>rfl,λr R hR=>?_,λr R hR x hx=>?_,λr R hR ho=>?_,λhz _ _ _ _ _ _=>absurd (.inr rfl) hz,λr R r' R' hR ho hR' _ hne x hx=>?_,λl cs hl=>?_,λl l' cs cs' hl=>?_,λl cs r R hl=>?_,λr R e hR he=>?_,rfl⟩,⟨λn R hn=>?_,λn cs hn=>?_,λm hm=>?_,λf hf=>?_⟩,⟨?_,λi m v hm hv=>?_⟩,?_⟩;{obtain⟨_,h1,h2,h3⟩:=hroot0 r R (zbr hR).1;have hu:=qB (show r<xs.length by omega);show Rep R.own w ((xs[r]?).getD undef) _ (K r);have:=hrep r _ _ h3 hu;rw[h2] at this;rw[hu];exact this};{obtain⟨_,h1,_,_⟩:=hroot0 r R (zbr hR).1;exact hKlt r x h1 hx};{obtain⟨he,h1,h2,_⟩:=hroot0 r R (zbr hR).1;refine⟨he,λx hx=>.inl (.inl ⟨r,h1,?_,hx⟩)⟩;show own[r]?=some true;rw[h2,ho]};{obtain⟨_,h1,h2,_⟩:=hroot0 r R (zbr hR).1;obtain⟨_,h1',_,_⟩:=hroot0 r' R' (zbr hR').1;exact hKd0 r r' x h1 h1' (by show own[r]?=some true;rw[h2,ho]) hne (hna r' R' (zbr hR').1 r) hx};{rw [hlo]at hl;cases hl};{rw [hlo]at hl;cases hl};{rw [hlo]at hl;cases hl};{rw [(hroot0 r R hR).1]at he;cases he};{exact(hroot0 n R hn).2.1};{rw [hlo]at hn;cases hn};{rw [<- hst]at hm;simp only[qF]at hm;subst hm;intro n hn;simp only[MV.ids,zbw,zN,j3,uF,At.ids,zbh,zbn,jA,qF]at hn;subst hn;exact hjl};{rw [<- hst]at hf;simp at hf};{rw [<- hst];rfl};{rw [<- hst]at hm;cases i with|succ i=>simp at hm|zero=>simp only[qH,qC]at hm hv;subst hm;have hv:xs[ja]=v:=(by simpa using hv);subst hv;have hr:=hrep ja _ _ hkl hju;obtain⟨⟨a,cap,hva,_⟩,_⟩:=hr.len;refine⟨⟨a,_,cap,hva⟩,λR hR=>?_⟩;obtain⟨_,_,_,h4⟩:=hroot0 ja R (zbr hR).1;rw[hkl]at h4;cases h4;refine⟨rfl,?_,λp u hp _=>hp⟩;show (xs[ja]?).getD undef=xs[ja];rw[hju];rfl};{rw [<- hst];trivial});let st0:St:={st with ro:=(List.range (zB avs).length).map (λr=>(r,(⟨.int,[],false,none⟩:Root))),ep:=0}
 have hst0:∀r,r<(zB avs).length->st0.root r=some ⟨.int,[],false,none⟩:=by intro r hr;have:∀(n k:Nat),k<=r->r<k+n->zl ((List.range' k n).map λr=>(r,(⟨.int,[],false,none⟩:Root))) r=some ⟨.int,[],false,none⟩:=(by intro n;induction n with|zero=>intro k h1 h2;omega|succ n ih=>intro k h1 h2;simp only[uD,q0,zl];by_cases he:k=r;{subst he;simp};{have hb:(k==r)=false:=(by simpa using he);simp only[hb,j8,if_false];exact ih (k+1) (by omega) (by omega)});have h2:=this (zB avs).length 0 (jS _) (by omega);rw[<- uE]at h2;exact zhx h2 (.inl rfl)
 obtain⟨hl1,hl2⟩:=zgP (w:=w) (st:=st0) (E:=E) avs xs 0 hxl (λi c u hc hu=>by
  have hr:=hrep i c u hc hu;refine⟨?_,hr.one⟩;cases c with
  |i k n=>exact hr.int_inv
  |b x=>exact hr.bool_inv
  |s t l=>
   obtain⟨⟨a,cap,hv,_⟩,_⟩:=hr.len;refine⟨⟨a,_,cap,hv⟩,λR hR=>?_⟩;have e:0+i=i:=by omega
   show some ((xs[0+i]?).getD undef)=some u
   rw[e,hu];rfl)
 have hT:∀a v,(zRh a/\∀n∈a.ids,n<(zB avs).length)->VA w st0 E a v->VA w st E (zOX al a) v:=(by intro a v ⟨hpl,hid⟩ hv;have hkey:∀r,∀i,(r,i)∈al->E.ρ i=E.ρ r:=(by intro r i hi;show (xs[i]?).getD undef=(xs[r]?).getD undef;rw[(hali r i hi).2.2.1]);rcases hpl with⟨k,n,rfl⟩|⟨b,rfl⟩|⟨r,rfl⟩;{exact hv};{exact hv};{have hr:r<(zB avs).length:=hid r (by simp[At.ids,zbh]);have e1:=hv.2 _ (hst0 r hr);simp only[zQ,qC] at e1;simp only[zOX];split;{rename_i x hx;have hm:=uM hx;have hx1:x.1=r:=kG (by simpa using List.find?_some hx);subst hx1;refine⟨hv.1,λR _=>?_⟩;simp only[zQ,qC];rw[hkey x.1 x.2 hm];exact e1};{refine⟨hv.1,λR _=>?_⟩;simp only[zQ,qC];exact e1}});have hnid:st.nid=(zB avs).length:=by rw[<- hst];rfl
 obtain⟨_,hcalls⟩:=zjO hO (ziE hO (tms:=tms) (N:=N) D) f _ st _ rs hev w S0 _ E #[xs[ja]] [] w (zbQ avs xs).toArray
  (λv w'=>w'.os=w.os/\w'.tape=w.tape/\w'.output=w.output/\w.heap.size<=w'.heap.size/\
   (∀b,b<w.heap.size->(∀j,j<(zB avs).length->zV own j->¬ K j b)->w'.heap[b]?=w.heap[b]?)/\
   ∃(ys:List Value) (Kr:Nat->zT),zdF true w' (zB rs) ys Kr/\v=zj6 (zbQ rs ys)/\
    (∀i x,i<(zB rs).length->Kr i x->x<w'.heap.size/\((∃j,j<(zB avs).length/\zV own j/\K j x)\/w.heap.size<=x))/\
    (∀i j x,i<(zB rs).length->j<(zB rs).length->i≠j->Kr i x->¬ Kr j x)/\
    (∀ja2 jr2 js2,some (ja,jr,js)=some (ja2,jr2,js2)->∀t l u,(zB avs)[ja2]?=some (.s t l)->xs[ja2]?=some u->∃l',(zB rs)[jr2]?=some (.s t l')/\ys[jr2]?=some u/\
     ∀p v,zQ w t u p=some v->js2.any (λc=>c.isPrefixOf (cols p))=false->zQ w' t u p=some v)) hS (λn hn h=>by omega)
  (by simp[hl1]) (λi m v hm hv=>by
   rw[qO,qO]at hm;cases hx:(zcI avs 0)[i]? with
   |none=>rw[hx]at hm;cases hm
   |some x=>
    rw[hx]at hm;cases hm;exact z3v hT (λa ha=>⟨zun avs 0 x a (qK hx) ha,λn hn=>by
     have:=(zff avs 0 n x a (qK hx) ha hn).2;omega⟩) (hl2 i x v hx (by simpa using hv)))
  (λm hm n hn=>by
   obtain⟨m0,hm0,rfl⟩:=jC.1 hm;obtain⟨x,hx,rfl⟩:=jC.1 hm0;obtain⟨a,ha,hn⟩:=zMt hn;simp only[zbw]at ha;rcases zYY hn with h|⟨r,h⟩
   .have:=(zff avs 0 n x a hx ha h).2;omega
   .obtain⟨_,_,_,_,t,l,h5⟩:=hali r n h;exact(qA.1 h5).1)
  (λU' st' E' w' tvs v hS' _ _ _ hv _ hans=>by
   obtain⟨us,rfl,hul,huv⟩:=zvX hv;split at hans
   rotate_left
   .cases hans
   rename_i n J t' m htm hrm;cases hck:(Nat.beq n m&&(J==js&&decide (t'=kt))) with
   |false=>rw[hck]at hans;cases hans
   |true=>
   rw[hck]at hans;simp only[cond_true]at hans;simp only[qE,kK,qL,qY]at hck;obtain⟨hnm,hJ,ht⟩:=hck;subst hnm hJ ht;obtain⟨ats,ys,ks,hG,hyl,hyv,rfl,_,hats⟩:=zih tvs [] rs us hans hul huv;have hM:=hS'.mem;have hget:∀i,i<(zB rs).length->∃a,ats[i]?=some a:=λi hi=>⟨_,qB (by rw[<- hG.len];exact hi)⟩
   have hKr:∀i x,cφ E' ats i x->∃r∈ks,∃R,ats[i]?=some (.sl r [])/\st'.root r=some R/\R.own=true/\E'.φ r x:=by intro i x hx;obtain⟨a,ha,hx⟩:=zr2 hx;obtain⟨r,hr,rfl,hrx⟩:=hG.fi ha hx;obtain⟨R,hR,ho⟩:=hG.own r hr;exact⟨r,hr,R,ha,hR,ho,hrx⟩
   refine⟨hM.os,hM.tape,hM.output,hM.size,λb hb hnk=>hM.keep b hb λh=>h.elim (λ⟨j,hj,ho,hk⟩=>hnk j hj ho hk) (λh=>by omega),ys,cφ E' ats,⟨by rw[hyl,hG.len],λi c x hc hx=>?_⟩,rfl,λi x hi hx=>?_,λi j x hi hj hne hx hx'=>?_,λja2 jr2 js2 he t l u hcl hxu=>?_⟩
   .obtain⟨a,ha⟩:=hget i (qA.1 hc).1;rw[zht ha];exact hG.rep hM ha hc (hyv i a x ha hx)
   .obtain⟨r,hr,R,_,h1,h2,h4⟩:=hKr i x hx;exact⟨hM.rlt r R h1 x h4,((hM.mine r R h1 h2).2 x h4).elim (λh=>h.imp (λh=>h) λh=>k7 h.symm) .inr⟩
   .obtain⟨r,hr,R,g1,h1,h2,h4⟩:=hKr i x hx;obtain⟨r',hr',R',g1',h1',h2',h4'⟩:=hKr j x hx';have:=hM.own_apart h1 h2 h1' h2' h4 h4';subst this;exact hne (hG.inj i j r g1 g1')
   .cases he;rw[hkl]at hcl;cases hcl;rw[hju]at hxu;cases hxu;have ha:ats[jr]?=some (.sl n []):=by rw[hats];exact hrm
    rcases hG.get jr _ ha with⟨_,_,h,_⟩|⟨_,h,_⟩|⟨r,R,h,hR,_,hcs⟩
    .cases h
    .cases h
    .cases h;have hty:=hS'.tm.2 0 (.v<|.at<|.kp n J t') xs[ja] (by rw[htm];rfl) (by simp)
     obtain⟨e1,e2,e3⟩:=hty.2 R hR;have hyl2:jr<ys.length:=by rw[hyl];exact(qA.1 ha).1
     have hy:=qB hyl2;have e4:=(hyv jr _ _ ha hy).2 R hR;simp only[zQ,qC] at e4;refine⟨e1 ▸ R.l,?_,by rw[hy,<- e4,e2],?_⟩
     .rw [hcs];cases e1;rfl
     .rw [hM.κ] at e3;exact e3)
 refine hcalls.mono ?_;intro ex w' he;cases ex with|returned v=>exact he|panicked chain=>exact he.elim|outgrown=>exact he.elim
end
def zbf (h:Host):List CV:=[.s (.sl .int) h.Memory,.s .mon h.Mons,.s .entry h.Buffer,.s .entry h.IoBuffer]
def zwc (c:Ctl):List CV:=[.i .i64 c.Traps,.i .i64 c.Post,.b c.Open]
def zwj (e:GExit):List CV:=[.i .i64 e.Kind,.i .i64 e.Page,.b e.Write,.i .i64 e.N]
structure Cur where
 b:List Int
 i:Int
 h:Int
def zfp (c:Cur):List CV:=[.s .u8 c.b,.i .i64 c.i,.i .i64 c.h]
def zx:List (Nat×Nat×Tmpl)->FuncId->Nat->Option Tmpl
 |[],_,_=>none
 |(g,c,T)::r,f,b=>cond (Nat.beq g f) (cond (Nat.beq c b) (some T)<|zx r f b) (zx r f b)
def pc (p:Prop):Bool:=@decide p (Classical.propDecidable p)
theorem zK {p:Prop}:pc p=true↔p:=by unfold pc;exact @decide_eq_true_iff p (Classical.propDecidable p)
theorem zbp {p:Prop}(h:p):pc p=true:=zK.2 h
inductive CVB (K:Nat):CV->Prop
 |i (k:IntKind) (n:Int):CVB K (.i k n)
 |b (x:Bool):CVB K (.b x)
 |s (t:Ty) (l:List t.den) (hl:l.length<=K) (h:∀x∈l,∀c∈t.cells x,CVB K c):CVB K (.s t l)
theorem CVB.inv {K:Nat}{t:Ty}{l:List t.den}(h:CVB K (.s t l)):l.length<=K/\∀x∈l,∀c∈t.cells x,CVB K c:=by cases h with|s _ _ hl h=>exact⟨hl,h⟩
theorem CVB.len {K:Nat}{t:Ty}{l:List t.den}(h:CVB K (.s t l)):l.length<=K:=h.inv.1
theorem CVB.mono {K L:Nat}(hKL:K<=L){c:CV}(h:CVB K c):CVB L c:=by induction h with|i k n=>exact .i k n|b x=>exact .b x|s t l hl h ih=>exact .s t l (jB hl hKL) ih
theorem CVB.of_rep {o:Bool}{w:World}{v:Value}{c:CV}{S:zT}(h:Rep o w v c S):CVB big c:=by
 induction h with
 |i k n S=>exact .i k n
 |b x S=>exact .b x
 |nil t S=>exact .s t [] (jS _) (λx h=>by cases h)
 |void t a S ho=>exact .s t [] (jS _) (λx h=>by cases h)
 |sl t l b off cap arr e fz V K S hb hfz hlen hcap hsz hS hsub hdis hv hc ih=>refine .s t l hlen (λx hx c hcx=>?_);obtain⟨i,hi⟩:=qR.1 hx;obtain⟨j,hj⟩:=qR.1 hcx;exact ih i x hi j c hj
theorem CVB.of_ok {c:CV}(h:CVOk c):CVB big c:=by induction h with|i k n _=>exact .i k n|b x=>exact .b x|s t l hl h ih=>refine .s t l hl (λx hx c hcx=>?_);obtain⟨i,hi⟩:=qR.1 hx;obtain⟨j,hj⟩:=qR.1 hcx;exact ih i x hi j c hj
def zbC (K:Nat)(avs:List AV):Prop:=∀c∈zB avs,CVB K c
theorem zc6 {K:Nat}{a:AV}{avs:List AV}(h:zbC K (a::avs)):(∀c∈a.cvs,CVB K c)/\zbC K avs:=by unfold zbC zB at *;simp only[j3,jI]at h;exact⟨λc hc=>h c (.inl hc),λc hc=>h c (.inr hc)⟩
theorem zSr {avs:List AV}(h:∃w xs,zdF false w (zB avs) xs λ_ b=>b<w.heap.size):zbC big avs:=by obtain⟨w,xs,h1,h2⟩:=h;intro c hc;obtain⟨i,hi⟩:=qR.1 hc;have hlt:i<xs.length:=(by rw[h1];exact(qA.1 hi).1);exact CVB.of_rep (h2 i c _ hi<|qB hlt)
theorem zkk {cs:List CV}{avs:List AV}(h:∃(w:World) (xs:Nat->Value) (K:Nat->zT),∀(j:Nat) (c:CV),(cs++zB avs)[j]?=some c->Rep false w (xs j) c (K j)):zbC big (.agg cs::avs):=by obtain⟨w,xs,K,h⟩:=h;intro c hc;have e:zB (AV.agg cs::avs)=cs++zB avs:=(by simp[zB,AV.cvs]);rw[e]at hc;obtain⟨j,hj⟩:=qR.1 hc;exact CVB.of_rep (h j c hj)
theorem zmd {b c:Bool}{x y:List CV}{z u:List AV}(h:some (b,x,z)=some (c,y,u)):b=c/\y=x/\u=z:=by cases h;exact⟨rfl,rfl,rfl⟩
theorem zeb {b c:Bool}{x y:List AV}(h:some (b,x)=some (c,y)):b=c/\y=x:=by cases h;exact⟨rfl,rfl⟩
abbrev zS:=List (Nat×(List AV->Option (Bool×List AV)))
def zU4:zS:=[]
theorem zgE:∀f run,zl zU4 f=some run->Holds Tryz.prog f run:=λf run h=>by cases h
abbrev zL (l:zS):Prop:=∀f run,zl l f=some run->Holds Tryz.prog f run
abbrev vJ:=Holds Tryz.prog
theorem zh {l:zS}{f:Nat}{run:List AV->Option (Bool×List AV)}(h:vJ f run)(hl:zL l):zL ((f,run)::l):=by intro g r hg;unfold zl at hg;split at hg;{rename_i e;cases hg;rw[<- qL.1 e];exact h};{exact hl g r hg}
abbrev zg1:=List (Nat×(CV->Int->Option (Bool×CV×Int)))
def zZ0:zg1:=[]
abbrev zfz (m:zg1):Prop:=∀f run,zl m f=some run->zF2 Tryz.prog f run
theorem zbi:zfz zZ0:=λf run h=>by cases h
abbrev zdI:=List (Nat×List Bool×(List CV->List AV->Option (Bool×List CV×List AV)))
def zK4:zdI:=[]
abbrev zcA (p:zdI):Prop:=∀f own run,zl p f=some (own,run)->zdc Tryz.prog f own run
theorem zq:zcA zK4:=λf own run h=>by cases h
theorem zec {l m:zdI}(hm:∀f own run,zl m f=some (own,run)->zdc Tryz.prog f own run)(hl:∀x∈l,zdc Tryz.prog x.1 x.2.1 x.2.2):∀f own run,zl (l++m) f=some (own,run)->zdc Tryz.prog f own run:=by intro f own run h;rw[zbH]at h;split at h;{rename_i y hy;cases h;exact hl _ (zmz hy)};{exact hm f own run h}
abbrev zfn:=List (Nat×List Bool×Option (Nat×Nat×List (List Nat))×(List AV->Option (Bool×List AV)))
def zRR:zfn:=[]
abbrev zef (t:zfn):Prop:=∀f own inp run,zl t f=some (own,inp,run)->zek Tryz.prog f own inp run
theorem zu:zef zRR:=λf own inp run h=>by cases h
theorem zpk {l m:zfn}(hm:∀f own inp run,zl m f=some (own,inp,run)->zek Tryz.prog f own inp run)(hl:∀x∈l,zek Tryz.prog x.1 x.2.1 x.2.2.1 x.2.2.2):∀f own inp run,zl (l++m) f=some (own,inp,run)->zek Tryz.prog f own inp run:=by intro f own inp run h;rw[zbH]at h;split at h;{rename_i y hy;cases h;exact hl _ (zmz hy)};{exact hm f own inp run h}
abbrev cQ (c:zS)(m:zg1)(p:zdI)(t:zfn):Cfg:=zlF (zl c) (zl m) (zl p) (zl t)
theorem zPR {c:zS}{m:zg1}{p:zdI}{t:zfn}(o1:zL c)(o2:zfz m)(o3:zcA p)(o4:zef t){f:FuncId}{run:List AV->Option (Bool×List AV)}(hf:FnOk Tryz.prog f)(h:∀avs rs,zbC big avs->run avs=some (true,rs)->∃tms N,evalFn (cQ c m p t) tms N 12 f avs=some rs):vJ f run :=
 zxy (zgF o1 o2 o3 o4) hf λavs rs hr e=>(h avs rs (zSr hr) e).elim λt x=>x.elim λN y=>⟨t,N,12,y⟩
noncomputable def zfd (f:FuncId):Bool :=
 match Tryz.prog.funcs[f]? with
 |some fn=>fn.body.isSome && !(fn.name == "runtime.NumGoroutine")
 |none=>false
theorem zje {f:FuncId}(h:zfd f=true):FnOk Tryz.prog f:=by unfold zfd at h;split at h;{rename_i fn hf;simp only[qE,jE]at h;obtain⟨b,hb⟩:=uQ.1 h.1;exact⟨fn,b,hf,hb,h.2⟩};{cases h}
abbrev oN {α:Type}(c:Bool)(a:Option α):Option α:=bif c then a else none
abbrev nB (c:Bool):Bool:=bif c then false else true
abbrev ti:AT:=.i .i64
structure Dc (α:Type) where
 d:AV->Option α
 e:α->AV
 h:∀{a x},d a=some x->a=e x
abbrev aI (x:Int):AV:=.one (.i .i64 x)
abbrev aB (x:Bool):AV:=.one (.b x)
abbrev aS (t:Ty)(l:List t.den):AV:=.one (.s t l)
abbrev aT (t:Ty)(x:t.den):AV:=.agg (t.cells x)
abbrev aH (h:Host):AV:=.agg (zbf h)
abbrev OA:=Option Ans
abbrev oF:OA:=some [aB false]
abbrev oT:OA:=some [aB true]
abbrev lA:=List GAct
abbrev lB:=List Bool
abbrev lE:=List Entry
abbrev lG:=List Guest
abbrev lI:=List Ins
abbrev lK:=List Kept
abbrev lM:=List (List Int)
abbrev lN:=List Mon
abbrev lP:=List (List Ins)
abbrev lQ:=List (List<|List Ins)
abbrev lR:=List Bare
abbrev lS:=List Slot
abbrev lT:=List Told
def dI:Dc Int:=⟨λa=>match a with | .one (.i .i64 x)=>some x|_=>none,aI,λ{a x} h=>by split at h<;>cases h;rfl⟩
def dB:Dc Bool:=⟨λa=>match a with | .one (.b x)=>some x|_=>none,aB,λ{a x} h=>by split at h<;>cases h;rfl⟩
def dS (t:Ty):Dc (List t.den):=⟨λa=>match a with | .one (.s t' l)=>if h:t'=t then some (h ▸ l) else none|_=>none,aS t,λ{a x} h=>by
 split at h
 .rename_i t' l;split at h
  .rename_i e;subst e;cases h;rfl
  .cases h
 .cases h⟩
def dT (t:Ty):Dc t.den:=⟨λa=>match a with | .agg cs=>t.ofCells cs|_=>none,aT t,λ{a x} h=>by
 split at h
 .rw [<- zjG h]
 .cases h⟩
def dH:Dc Host:=⟨λa=>match a with | .agg [.s (.sl .int) x,.s .mon y,.s .entry z,.s .entry u]=>some ⟨x,y,z,u⟩|_=>none,aH,λ{a x} h=>by split at h<;>cases h;rfl⟩
def dC:Dc Ctl:=⟨λa=>match a with | .agg [.i .i64 x,.i .i64 y,.b z]=>some ⟨x,y,z⟩|_=>none,λx=>.agg (zwc x),λ{a x} h=>by split at h<;>cases h;rfl⟩
def dE:Dc GExit:=⟨λa=>match a with | .agg [.i .i64 x,.i .i64 y,.b z,.i .i64 u]=>some ⟨x,y,z,u⟩|_=>none,λx=>.agg (zwj x),λ{a x} h=>by split at h<;>cases h;rfl⟩
abbrev Run:=List AV->Option (Bool×List AV)
def eat {α:Type}(D:Dc α)(k:α->Run):Run
 |[]=>none
 |a::l=>match D.d a with
  |some x=>k x l
  |none=>none
def stop (r:Bool×List AV):Run
 |[]=>some r
 |_=>none
theorem z3e {α:Type}{D:Dc α}{k:α->Run}{avs:List AV}{r:Bool×List AV}(h:eat D k avs=some r):∃x l,avs=D.e x::l/\k x l=some r:=by unfold eat at h;split at h;{cases h};{rename_i a l;split at h;{rename_i x hx;exact⟨x,l,by rw[D.h hx],h⟩};{cases h}}
theorem z0C {q r:Bool×List AV}{avs:List AV}(h:stop q avs=some r):avs=[]/\r=q:=by unfold stop at h;split at h<;>cases h;exact⟨rfl,rfl⟩
theorem zb0 {p:Nat->Prop}(h:∀N,(∀{n:Nat},n<=big->n<N)->p N):∃N,p N:=⟨big+1,h _ λh=>Nat.lt_succ_of_le h⟩
theorem len0 {t:Ty}{l:List t.den}{r:List AV}(hb:zbC big (.one (.s t l)::r)):l.length<=big:=((zc6 hb).1 _ (qF.2 rfl)).len
def Read (c:zS)(m:zg1)(p:zdI)(t:zfn)(tms:FuncId->Nat->Option Tmpl)(f:FuncId)(pre:List AV)(r:Run):Prop:=∀avs rs,zbC big (pre++avs)->r avs=some (true,rs)->∃N,evalFn (cQ c m p t) tms N 12 f (pre++avs)=some rs
theorem zdx {c:zS}{m:zg1}{p:zdI}{t:zfn}{tms:FuncId->Nat->Option Tmpl}{f:FuncId}{pre:List AV}{α:Type}{D:Dc α}{k:α->Run}(h:∀a,Read c m p t tms f (pre++[D.e a])<|k a):Read c m p t tms f pre (eat D k):=by intro avs rs hb e;obtain⟨x,l,h1,e1⟩:=z3e e;subst h1;have:=h x l rs (by simpa using hb) e1;simpa using this
theorem zkF {c:zS}{m:zg1}{p:zdI}{t:zfn}{tms:FuncId->Nat->Option Tmpl}{f:FuncId}{pre:List AV}{g:Bool×List AV}{E:Nat->OA}(law:zbC big pre->g.1=true->∃N,E N=some g.2)(nf:∀N,evalFn (cQ c m p t) tms N 12 f pre=E N):Read c m p t tms f pre (stop g):=by intro avs rs hb e;obtain⟨h1,e1⟩:=z0C e;subst h1;cases g with|mk b x=>cases e1;rw[jA]at hb ⊢;obtain⟨N,e⟩:=law hb rfl;exact⟨N,(nf N).trans e⟩
theorem zmI {c:zS}{m:zg1}{p:zdI}{t:zfn}(o1:zL c)(o2:zfz m)(o3:zcA p)(o4:zef t){tms:FuncId->Nat->Option Tmpl}{f:FuncId}{r:Run}(hf:zfd f=true)(h:Read c m p t tms f [] r):vJ f r :=
 zPR o1 o2 o3 o4 (zje hf) λavs rs hb e=>(h avs rs hb e).elim λN x=>⟨tms,N,x⟩
def rF0  (g:Bool×List AV):Run:=stop g
theorem hF0 {c:zS}{m:zg1}{p:zdI}{t:zfn}(o1:zL c)(o2:zfz m)(o3:zcA p)(o4:zef t)(tms:FuncId->Nat->Option Tmpl){g:Bool×List AV}{E:Nat->OA}{f:FuncId}(law:zbC big []->g.1=true->∃N,E N=some g.2)(nf:∀N,evalFn (cQ c m p t) tms N 12 f []=E N:=by intros;kernel_rfl)(hf:zfd f=true:=by kernel_rfl):vJ f (rF0 g):=
 zmI o1 o2 o3 o4 hf (zkF (λhb hc=>law hb hc) λN=>nf N)
theorem kF0 {c:zS}{m:zg1}{p:zdI}{t:zfn}(o1:zL c)(o2:zfz m)(o3:zcA p)(o4:zef t)(tms:FuncId->Nat->Option Tmpl){g:Bool×List AV}{E:Nat->OA}{f:FuncId}(law:g.1=true->∃N,E N=some g.2)(nf:∀N,evalFn (cQ c m p t) tms N 12 f []=E N:=by intros;kernel_rfl)(hf:zfd f=true:=by kernel_rfl):vJ f (rF0 g):=hF0 o1 o2 o3 o4 tms (λ_=>law) nf hf
def rF1 {A0:Type}(D0:Dc A0)(g:A0->Bool×List AV):Run:=eat D0 λa0=>stop (g a0)
theorem hF1 {A0:Type}{c:zS}{m:zg1}{p:zdI}{t:zfn}(o1:zL c)(o2:zfz m)(o3:zcA p)(o4:zef t)(tms:FuncId->Nat->Option Tmpl){D0:Dc A0}{g:A0->Bool×List AV}{E:Nat->A0->OA}{f:FuncId}(law:∀a0,zbC big [D0.e a0]->(g a0).1=true->∃N,E N a0=some (g a0).2)(nf:∀N a0,evalFn (cQ c m p t) tms N 12 f [D0.e a0]=E N a0:=by intros;kernel_rfl)(hf:zfd f=true:=by kernel_rfl):vJ f (rF1 D0 g):=
 zmI o1 o2 o3 o4 hf (zdx λa0=>zkF (λhb hc=>law a0 hb hc) λN=>nf N a0)
theorem kF1 {A0:Type}{c:zS}{m:zg1}{p:zdI}{t:zfn}(o1:zL c)(o2:zfz m)(o3:zcA p)(o4:zef t)(tms:FuncId->Nat->Option Tmpl){D0:Dc A0}{g:A0->Bool×List AV}{E:Nat->A0->OA}{f:FuncId}(law:∀a0,(g a0).1=true->∃N,E N a0=some (g a0).2)(nf:∀N a0,evalFn (cQ c m p t) tms N 12 f [D0.e a0]=E N a0:=by intros;kernel_rfl)(hf:zfd f=true:=by kernel_rfl):vJ f (rF1 D0 g):=hF1 o1 o2 o3 o4 tms (λa0 _=>law a0) nf hf
def rF2 {A0 A1:Type}(D0:Dc A0)(D1:Dc A1)(g:A0->A1->Bool×List AV):Run:=eat D0 λa0=>eat D1 λa1=>stop (g a0 a1)
theorem hF2 {A0 A1:Type}{c:zS}{m:zg1}{p:zdI}{t:zfn}(o1:zL c)(o2:zfz m)(o3:zcA p)(o4:zef t)(tms:FuncId->Nat->Option Tmpl){D0:Dc A0}{D1:Dc A1}{g:A0->A1->Bool×List AV}{E:Nat->A0->A1->OA}{f:FuncId}(law:∀a0 a1,zbC big [D0.e a0,D1.e a1]->(g a0 a1).1=true->∃N,E N a0 a1=some (g a0 a1).2)(nf:∀N a0 a1,evalFn (cQ c m p t) tms N 12 f [D0.e a0,D1.e a1]=E N a0 a1:=by intros;kernel_rfl)(hf:zfd f=true:=by kernel_rfl):vJ f (rF2 D0 D1 g):=
 zmI o1 o2 o3 o4 hf (zdx λa0=>zdx λa1=>zkF (λhb hc=>law a0 a1 hb hc) λN=>nf N a0 a1)
theorem kF2 {A0 A1:Type}{c:zS}{m:zg1}{p:zdI}{t:zfn}(o1:zL c)(o2:zfz m)(o3:zcA p)(o4:zef t)(tms:FuncId->Nat->Option Tmpl){D0:Dc A0}{D1:Dc A1}{g:A0->A1->Bool×List AV}{E:Nat->A0->A1->OA}{f:FuncId}(law:∀a0 a1,(g a0 a1).1=true->∃N,E N a0 a1=some (g a0 a1).2)(nf:∀N a0 a1,evalFn (cQ c m p t) tms N 12 f [D0.e a0,D1.e a1]=E N a0 a1:=by intros;kernel_rfl)(hf:zfd f=true:=by kernel_rfl):vJ f (rF2 D0 D1 g):=hF2 o1 o2 o3 o4 tms (λa0 a1 _=>law a0 a1) nf hf
def rF3 {A0 A1 A2:Type}(D0:Dc A0)(D1:Dc A1)(D2:Dc A2)(g:A0->A1->A2->Bool×List AV):Run:=eat D0 λa0=>eat D1 λa1=>eat D2 λa2=>stop (g a0 a1 a2)
theorem hF3 {A0 A1 A2:Type}{c:zS}{m:zg1}{p:zdI}{t:zfn}(o1:zL c)(o2:zfz m)(o3:zcA p)(o4:zef t)(tms:FuncId->Nat->Option Tmpl){D0:Dc A0}{D1:Dc A1}{D2:Dc A2}{g:A0->A1->A2->Bool×List AV}{E:Nat->A0->A1->A2->OA}{f:FuncId}(law:∀a0 a1 a2,zbC big [D0.e a0,D1.e a1,D2.e a2]->(g a0 a1 a2).1=true->∃N,E N a0 a1 a2=some (g a0 a1 a2).2)(nf:∀N a0 a1 a2,evalFn (cQ c m p t) tms N 12 f [D0.e a0,D1.e a1,D2.e a2]=E N a0 a1 a2:=by intros;kernel_rfl)(hf:zfd f=true:=by kernel_rfl):vJ f (rF3 D0 D1 D2 g):=
 zmI o1 o2 o3 o4 hf (zdx λa0=>zdx λa1=>zdx λa2=>zkF (λhb hc=>law a0 a1 a2 hb hc) λN=>nf N a0 a1 a2)
theorem kF3 {A0 A1 A2:Type}{c:zS}{m:zg1}{p:zdI}{t:zfn}(o1:zL c)(o2:zfz m)(o3:zcA p)(o4:zef t)(tms:FuncId->Nat->Option Tmpl){D0:Dc A0}{D1:Dc A1}{D2:Dc A2}{g:A0->A1->A2->Bool×List AV}{E:Nat->A0->A1->A2->OA}{f:FuncId}(law:∀a0 a1 a2,(g a0 a1 a2).1=true->∃N,E N a0 a1 a2=some (g a0 a1 a2).2)(nf:∀N a0 a1 a2,evalFn (cQ c m p t) tms N 12 f [D0.e a0,D1.e a1,D2.e a2]=E N a0 a1 a2:=by intros;kernel_rfl)(hf:zfd f=true:=by kernel_rfl):vJ f (rF3 D0 D1 D2 g):=hF3 o1 o2 o3 o4 tms (λa0 a1 a2 _=>law a0 a1 a2) nf hf
def rF4 {A0 A1 A2 A3:Type}(D0:Dc A0)(D1:Dc A1)(D2:Dc A2)(D3:Dc A3)(g:A0->A1->A2->A3->Bool×List AV):Run:=eat D0 λa0=>eat D1 λa1=>eat D2 λa2=>eat D3 λa3=>stop (g a0 a1 a2 a3)
theorem hF4 {A0 A1 A2 A3:Type}{c:zS}{m:zg1}{p:zdI}{t:zfn}(o1:zL c)(o2:zfz m)(o3:zcA p)(o4:zef t)(tms:FuncId->Nat->Option Tmpl){D0:Dc A0}{D1:Dc A1}{D2:Dc A2}{D3:Dc A3}{g:A0->A1->A2->A3->Bool×List AV}{E:Nat->A0->A1->A2->A3->OA}{f:FuncId}(law:∀a0 a1 a2 a3,zbC big [D0.e a0,D1.e a1,D2.e a2,D3.e a3]->(g a0 a1 a2 a3).1=true->∃N,E N a0 a1 a2 a3=some (g a0 a1 a2 a3).2)(nf:∀N a0 a1 a2 a3,evalFn (cQ c m p t) tms N 12 f [D0.e a0,D1.e a1,D2.e a2,D3.e a3]=E N a0 a1 a2 a3:=by intros;kernel_rfl)(hf:zfd f=true:=by kernel_rfl):vJ f (rF4 D0 D1 D2 D3 g):=
 zmI o1 o2 o3 o4 hf (zdx λa0=>zdx λa1=>zdx λa2=>zdx λa3=>zkF (λhb hc=>law a0 a1 a2 a3 hb hc) λN=>nf N a0 a1 a2 a3)
theorem kF4 {A0 A1 A2 A3:Type}{c:zS}{m:zg1}{p:zdI}{t:zfn}(o1:zL c)(o2:zfz m)(o3:zcA p)(o4:zef t)(tms:FuncId->Nat->Option Tmpl){D0:Dc A0}{D1:Dc A1}{D2:Dc A2}{D3:Dc A3}{g:A0->A1->A2->A3->Bool×List AV}{E:Nat->A0->A1->A2->A3->OA}{f:FuncId}(law:∀a0 a1 a2 a3,(g a0 a1 a2 a3).1=true->∃N,E N a0 a1 a2 a3=some (g a0 a1 a2 a3).2)(nf:∀N a0 a1 a2 a3,evalFn (cQ c m p t) tms N 12 f [D0.e a0,D1.e a1,D2.e a2,D3.e a3]=E N a0 a1 a2 a3:=by intros;kernel_rfl)(hf:zfd f=true:=by kernel_rfl):vJ f (rF4 D0 D1 D2 D3 g):=hF4 o1 o2 o3 o4 tms (λa0 a1 a2 a3 _=>law a0 a1 a2 a3) nf hf
def rF5 {A0 A1 A2 A3 A4:Type}(D0:Dc A0)(D1:Dc A1)(D2:Dc A2)(D3:Dc A3)(D4:Dc A4)(g:A0->A1->A2->A3->A4->Bool×List AV):Run:=eat D0 λa0=>eat D1 λa1=>eat D2 λa2=>eat D3 λa3=>eat D4 λa4=>stop (g a0 a1 a2 a3 a4)
theorem hF5 {A0 A1 A2 A3 A4:Type}{c:zS}{m:zg1}{p:zdI}{t:zfn}(o1:zL c)(o2:zfz m)(o3:zcA p)(o4:zef t)(tms:FuncId->Nat->Option Tmpl){D0:Dc A0}{D1:Dc A1}{D2:Dc A2}{D3:Dc A3}{D4:Dc A4}{g:A0->A1->A2->A3->A4->Bool×List AV}{E:Nat->A0->A1->A2->A3->A4->OA}{f:FuncId}(law:∀a0 a1 a2 a3 a4,zbC big [D0.e a0,D1.e a1,D2.e a2,D3.e a3,D4.e a4]->(g a0 a1 a2 a3 a4).1=true->∃N,E N a0 a1 a2 a3 a4=some (g a0 a1 a2 a3 a4).2)(nf:∀N a0 a1 a2 a3 a4,evalFn (cQ c m p t) tms N 12 f [D0.e a0,D1.e a1,D2.e a2,D3.e a3,D4.e a4]=E N a0 a1 a2 a3 a4:=by intros;kernel_rfl)(hf:zfd f=true:=by kernel_rfl):vJ f (rF5 D0 D1 D2 D3 D4 g):=
 zmI o1 o2 o3 o4 hf (zdx λa0=>zdx λa1=>zdx λa2=>zdx λa3=>zdx λa4=>zkF (λhb hc=>law a0 a1 a2 a3 a4 hb hc) λN=>nf N a0 a1 a2 a3 a4)
theorem kF5 {A0 A1 A2 A3 A4:Type}{c:zS}{m:zg1}{p:zdI}{t:zfn}(o1:zL c)(o2:zfz m)(o3:zcA p)(o4:zef t)(tms:FuncId->Nat->Option Tmpl){D0:Dc A0}{D1:Dc A1}{D2:Dc A2}{D3:Dc A3}{D4:Dc A4}{g:A0->A1->A2->A3->A4->Bool×List AV}{E:Nat->A0->A1->A2->A3->A4->OA}{f:FuncId}(law:∀a0 a1 a2 a3 a4,(g a0 a1 a2 a3 a4).1=true->∃N,E N a0 a1 a2 a3 a4=some (g a0 a1 a2 a3 a4).2)(nf:∀N a0 a1 a2 a3 a4,evalFn (cQ c m p t) tms N 12 f [D0.e a0,D1.e a1,D2.e a2,D3.e a3,D4.e a4]=E N a0 a1 a2 a3 a4:=by intros;kernel_rfl)(hf:zfd f=true:=by kernel_rfl):vJ f (rF5 D0 D1 D2 D3 D4 g):=hF5 o1 o2 o3 o4 tms (λa0 a1 a2 a3 a4 _=>law a0 a1 a2 a3 a4) nf hf
def rF6 {A0 A1 A2 A3 A4 A5:Type}(D0:Dc A0)(D1:Dc A1)(D2:Dc A2)(D3:Dc A3)(D4:Dc A4)(D5:Dc A5)(g:A0->A1->A2->A3->A4->A5->Bool×List AV):Run:=eat D0 λa0=>eat D1 λa1=>eat D2 λa2=>eat D3 λa3=>eat D4 λa4=>eat D5 λa5=>stop (g a0 a1 a2 a3 a4 a5)
theorem hF6 {A0 A1 A2 A3 A4 A5:Type}{c:zS}{m:zg1}{p:zdI}{t:zfn}(o1:zL c)(o2:zfz m)(o3:zcA p)(o4:zef t)(tms:FuncId->Nat->Option Tmpl){D0:Dc A0}{D1:Dc A1}{D2:Dc A2}{D3:Dc A3}{D4:Dc A4}{D5:Dc A5}{g:A0->A1->A2->A3->A4->A5->Bool×List AV}{E:Nat->A0->A1->A2->A3->A4->A5->OA}{f:FuncId}(law:∀a0 a1 a2 a3 a4 a5,zbC big [D0.e a0,D1.e a1,D2.e a2,D3.e a3,D4.e a4,D5.e a5]->(g a0 a1 a2 a3 a4 a5).1=true->∃N,E N a0 a1 a2 a3 a4 a5=some (g a0 a1 a2 a3 a4 a5).2)(nf:∀N a0 a1 a2 a3 a4 a5,evalFn (cQ c m p t) tms N 12 f [D0.e a0,D1.e a1,D2.e a2,D3.e a3,D4.e a4,D5.e a5]=E N a0 a1 a2 a3 a4 a5:=by intros;kernel_rfl)(hf:zfd f=true:=by kernel_rfl):vJ f (rF6 D0 D1 D2 D3 D4 D5 g):=
 zmI o1 o2 o3 o4 hf (zdx λa0=>zdx λa1=>zdx λa2=>zdx λa3=>zdx λa4=>zdx λa5=>zkF (λhb hc=>law a0 a1 a2 a3 a4 a5 hb hc) λN=>nf N a0 a1 a2 a3 a4 a5)
theorem kF6 {A0 A1 A2 A3 A4 A5:Type}{c:zS}{m:zg1}{p:zdI}{t:zfn}(o1:zL c)(o2:zfz m)(o3:zcA p)(o4:zef t)(tms:FuncId->Nat->Option Tmpl){D0:Dc A0}{D1:Dc A1}{D2:Dc A2}{D3:Dc A3}{D4:Dc A4}{D5:Dc A5}{g:A0->A1->A2->A3->A4->A5->Bool×List AV}{E:Nat->A0->A1->A2->A3->A4->A5->OA}{f:FuncId}(law:∀a0 a1 a2 a3 a4 a5,(g a0 a1 a2 a3 a4 a5).1=true->∃N,E N a0 a1 a2 a3 a4 a5=some (g a0 a1 a2 a3 a4 a5).2)(nf:∀N a0 a1 a2 a3 a4 a5,evalFn (cQ c m p t) tms N 12 f [D0.e a0,D1.e a1,D2.e a2,D3.e a3,D4.e a4,D5.e a5]=E N a0 a1 a2 a3 a4 a5:=by intros;kernel_rfl)(hf:zfd f=true:=by kernel_rfl):vJ f (rF6 D0 D1 D2 D3 D4 D5 g):=hF6 o1 o2 o3 o4 tms (λa0 a1 a2 a3 a4 a5 _=>law a0 a1 a2 a3 a4 a5) nf hf
theorem ziC {avs:List AV}(h:∃(w:World) (xs:Nat->Value) (K:Nat->zT),∀(j:Nat) (c:CV),(zB avs)[j]?=some c->Rep false w (xs j) c (K j)):zbC big avs:=by obtain⟨w,xs,K,h⟩:=h;intro c hc;obtain⟨j,hj⟩:=qR.1 hc;exact CVB.of_rep (h j c hj)
theorem cT {α:Type}(x y:α):(cond true x y)=x:=by simp
theorem cF {α:Type}(x y:α):(cond false x y)=y:=by simp
theorem zmY:big=140737488355328:=rfl
theorem zrN {x:Int}(h1 : -9223372036854775808<=x)(h2:x<=9223372036854775807):IntKind.i64.wrap x=x:=by simp only[IntKind.wrap,IntKind.signed,IntKind.bits];simp;omega
theorem zlC {x y:Int}(h1 : -9223372036854775808<=x+y)(h2:x+y<=9223372036854775807):zD .i64 x y=x+y:=zrN h1 h2
theorem zrO {x y:Int}(h1 : -9223372036854775808<=x-y)(h2:x-y<=9223372036854775807):wsub .i64 x y=x-y:=zrN h1 h2
theorem zU {i n:Nat}(h:i<n)(hn:n<=big):zD .i64 (i:Int) 1=((i+1:Nat):Int):=by rw[zmY]at hn;rw[zlC (by omega) (by omega)];omega
section
variable {α:Type}
theorem zbv {l:List α}{i:Nat}(h:i<l.length):ilt (i:Int) (ln l)=true:=by unfold ilt ln;exact qJ (by omega)
theorem zbm {l:List α}:ilt ((l.length:Nat):Int) (ln l)=false:=by unfold ilt ln;exact qG (by omega)
theorem zY {l:List α}{i:Nat}(h:i<l.length):inb (i:Int) (ln l)=true:=by unfold inb ln;exact qJ (by omega)
theorem zbg {l:List α}{i:Nat}(h:i<l.length)(d:α):ix l (i:Int) d=l[i]:=by unfold ix;simp[List.getD,qB h]
theorem zgt {l:List α}(h:l.length<=2147483648):few (ln l)=true:=by unfold few ln;exact qJ (by omega)
theorem zgO (x:Int):ieq x x=true:=by simp[ieq]
theorem zhG (x:Int):ine x x=false:=by simp[ine]
theorem zmX (x:Bool):znj x x=true:=by simp[znj]
end
theorem zdK {σ ρ:Type}(n:Nat)(F:(σ->Option ρ)->σ->Option ρ)(s:σ):iter (n+1) F s=F (iter n F) s:=rfl
def goL {α τ ρ:Type}(body:Nat->α->τ->(τ->Option ρ)->Option ρ)(K:τ->Option ρ):List α->Nat->τ->Option ρ
 |[],_,t=>K t
 |x::l,i,t=>body i x t (goL body K l<|i+1)
theorem zbd {α τ ρ σ:Type}(l:List α)(st:Nat->τ->σ)(F:(σ->Option ρ)->σ->Option ρ)(body:Nat->α->τ->(τ->Option ρ)->Option ρ)(K:τ->Option ρ)(hstep:∀(i:Nat) (hi:i<l.length) (t:τ) (rec:σ->Option ρ),F rec (st i t)=body i l[i] t λt'=>rec (st (i+1) t'))(hend:∀(t:τ) (rec:σ->Option ρ),F rec (st l.length t)=K t) :
 ∀(N:Nat) (t:τ),l.length<N->iter N F (st 0 t)=goL body K l 0 t:=by
 have key:∀(m i N:Nat) (t:τ),l.length-i=m->i<=l.length->m<N->iter N F (st i t)=goL body K (l.drop i) i t:=by intro m;induction m with|zero=>intro i N t hm hi hN;have:i=l.length:=(by omega);subst this;obtain⟨n,rfl⟩:∃n,N=n+1:=⟨N-1,by omega⟩;rw[zdK,hend,List.drop_length];rfl|succ m ih=>intro i N t hm hi hN;obtain⟨n,rfl⟩:∃n,N=n+1:=⟨N-1,by omega⟩;have hlt:i<l.length:=(by omega);rw[zdK,hstep i hlt,j7 hlt];simp only[goL];congr 1;funext t';exact ih (i+1) n t' (by omega) (by omega) (by omega)
 intro N t hN;have:=key l.length 0 N t (by omega) (jS _) hN
 simpa using this
def goN {τ ρ:Type}(body:Nat->τ->(τ->Option ρ)->Option ρ)(K:τ->Option ρ):Nat->Nat->τ->Option ρ
 | 0,_,t=>K t
 |n+1,i,t=>body i t (goN body K n<|i+1)
theorem zsf {τ ρ σ:Type}(n:Nat)(st:Nat->τ->σ)(F:(σ->Option ρ)->σ->Option ρ)(body:Nat->τ->(τ->Option ρ)->Option ρ)(K:τ->Option ρ)(hstep:∀(i:Nat) (hi:i<n) (t:τ) (rec:σ->Option ρ),F rec (st i t)=body i t λt'=>rec (st (i+1) t'))(hend:∀(t:τ) (rec:σ->Option ρ),F rec (st n t)=K t) :
 ∀(N:Nat) (t:τ),n<N->iter N F (st 0 t)=goN body K n 0 t:=by
 have key:∀(m i N:Nat) (t:τ),n-i=m->i<=n->m<N->iter N F (st i t)=goN body K (n-i) i t:=by intro m;induction m with|zero=>intro i N t hm hi hN;have:i=n:=(by omega);subst this;obtain⟨k,rfl⟩:∃k,N=k+1:=⟨N-1,by omega⟩;rw[zdK,hend,kQ];rfl|succ m ih=>intro i N t hm hi hN;obtain⟨k,rfl⟩:∃k,N=k+1:=⟨N-1,by omega⟩;have hlt:i<n:=(by omega);have e:n-i=(n-(i+1))+1:=(by omega);rw[zdK,hstep i hlt,e];simp only[goN];congr 1;funext t';exact ih (i+1) k t' (by omega) (by omega) (by omega)
 intro N t hN;have:=key n 0 N t (by omega) (jS _) hN
 simpa using this
theorem zAO {α ρ:Type}(l:List α)(d:α)(F:(Int×List α×List α×Unit->Option ρ)->Int×List α×List α×Unit->Option ρ)(k:Option ρ)(hl:l.length<=big)(hstep:∀(i:Nat) (hi:i<l.length) rec,F rec ((i:Int),l,l,())=rec (zD .i64 (i:Int) 1,l,l,()))(hend:∀rec,F rec ((l.length:Int),l,l,())=k){N:Nat}(hN:l.length<N) :
 iter N F (0,l,l,())=k:=by
 have key:∀(m i N:Nat),l.length-i=m->i<=l.length->m<N->iter N F ((i:Int),l,l,())=k:=by intro m;induction m with|zero=>intro i N hm hi hN;have:i=l.length:=(by omega);subst this;obtain⟨n,rfl⟩:∃n,N=n+1:=⟨N-1,by omega⟩;rw[zdK,hend]|succ m ih=>intro i N hm hi hN;obtain⟨n,rfl⟩:∃n,N=n+1:=⟨N-1,by omega⟩;have hlt:i<l.length:=(by omega);rw[zdK,hstep i hlt,zU hlt hl];exact ih (i+1) n (by omega) (by omega) (by omega)
 exact key l.length 0 N (by omega) (jS _) hN
def sm:Nat:=1048576
theorem zK3:pc True=true:=zbp trivial
theorem zct {n:Nat}(h:n<=sm):n<=big/\n<=2147483648:=by unfold sm at h;rw[zmY];omega
def hasB (i n:Int):Bool:=decide (0<=i/\i<n)
theorem has_eq (i n:Int):(ige i 0&&ilt i n)=hasB i n:=by unfold ige ilt hasB;by_cases h1:0<=i<;>by_cases h2:i<n<;>simp [h1,h2]
theorem zA {i n:Int}(h:hasB i n=true):inb i n=true:=h
theorem zdX {i:Int}{n:Nat}(h:hasB i n=true):∃k:Nat,i=k/\k<n:=by have:0<=i/\i<n:=qD h;exact⟨i.toNat,by omega,by omega⟩
theorem zby {α:Type}{l:List α}{i:Int}(h:hasB i (ln l)=true)(d:α):ix l i d∈l:=by obtain⟨k,rfl,hk⟩:=zdX (n:=l.length) h;rw[zbg hk];exact jG hk
theorem zlM {α:Type}(l:List α):ap [] l=l:=rfl
theorem zjc {α ρ:Type}(c:α->Bool)(f:α->α)(K:List α->Option ρ):∀(l:List α) (i:Nat) (acc:List α),(∀x∈l,c x=true/\f x=x)->acc.length+l.length<=2147483648->
 goL (λ_ x acc k=>bif c x then (cond (few<|ln<|ap acc [f x]) (k<|ap acc [f x]) none) else none) K l i acc=K (acc++l)
 |[],i,acc,_,_=>by simp[goL]
 |x::l,i,acc,h,hn=>by obtain⟨h1,h2⟩:=h x (by simp);simp only[qV]at hn;simp only[goL,h1,h2,cT];rw[zgt (by simp[ap];omega),cT,zjc c f K l (i+1) _ (λy hy=>h y (by simp[hy])) (by simp[ap];omega)];simp[ap]
def zcJ (h:Host):Prop:=∀c∈zbf h,CVB sm c
theorem zcJ.mem {h:Host}(hs:zcJ h):CVB sm (.s (.sl .int) h.Memory):=hs _ (by simp[zbf])
theorem zcJ.mons {h:Host}(hs:zcJ h):CVB sm (.s .mon h.Mons):=hs _ (by simp[zbf])
theorem znq {t:Ty}{l:List t.den}(h:CVB sm (.s t l)):few (ln l)=true:=zgt (zct h.len).2
def zng (p:Nat->Bool):Nat->Nat->Bool
 | 0,_=>true
 |n+1,i=>p i&&zng p n (i+1)
theorem zAV {ρ:Type}(p:Nat->Bool)(r:Option ρ)(K:Unit->Option ρ):∀(n i:Nat),goN (λi (_:Unit) k=>bif p i then k () else r) K n i ()=bif zng p n i then K () else r
 | 0,_=>rfl
 |n+1,i=>by simp only[goN,zng];cases p i;{rfl};{simp only [cT,uI];exact zAV p r K n (i+1)}
theorem zu4 {α τ ρ:Type}(b:Nat->τ->(τ->Option ρ)->Option ρ)(K:τ->Option ρ):∀(l:List α) (i:Nat) (t:τ),goL (λi _ t k=>b i t k) K l i t=goN b K l.length i t
 |[],_,_=>rfl
 |_::l,i,t=>by have ih:goL (λi _ t k=>b i t k) K l (i+1)=goN b K l.length (i+1):=funext λt=>zu4 b K l (i+1) t;simp only[goL,qV,goN,ih]
theorem zgG {α ρ:Type}(p:α->Bool)(r:Option ρ)(K:Unit->Option ρ):∀(l:List α) (i:Nat),goL (λ_ x (_:Unit) k=>bif p x then k () else r) K l i ()=bif l.all p then K () else r
 |[],_=>rfl
 |x::l,i=>by simp only[goL,kU];cases p x;{rfl};{simp only [cT,uI];exact zgG p r K l (i+1)}
theorem zwJ {n:Nat}(hn:n<=big)(i:Int):(ige i 0&&ile i (wsub .i64 (n:Int) 1))=hasB i n:=by rw[zmY]at hn;rw[zrO (by omega) (by omega)];unfold ige ile hasB;by_cases h1:0<=i<;>by_cases h2:i<n;{rw [qJ (p:=i≥0) (by omega),qJ (p:=i<=(n:Int)-1) (by omega),qJ (p:=0<=i/\i<(n:Int)) ⟨h1,h2⟩];rfl};{rw [qG (p:=i<=(n:Int)-1) (by omega),qG (p:=0<=i/\i<(n:Int)) (by omega)];simp};{rw [qG (p:=i≥0) (by omega),qG (p:=0<=i/\i<(n:Int)) (by omega)];simp};{rw [qG (p:=i≥0) (by omega),qG (p:=0<=i/\i<(n:Int)) (by omega)];simp}
theorem zoV {σ ρ τ:Type}(n:Nat)(st:Nat->τ->σ)(F:(σ->Option ρ)->σ->Option ρ)(I:Nat->τ->Prop)(res:Nat->τ->Option ρ)(hstep:∀(i:Nat) (t:τ) (rec:σ->Option ρ),i<n->I i t->(∀t',I (i+1) t'->rec (st (i+1) t')=res (i+1) t')->F rec (st i t)=res i t)(hend:∀(t:τ) (rec:σ->Option ρ),I n t->F rec (st n t)=res n t):∀(N i:Nat) (t:τ),I i t->i<=n->n-i<N->iter N F (st i t)=res i t:=by have key:∀(m N i:Nat) (t:τ),n-i=m->I i t->i<=n->m<N->iter N F (st i t)=res i t:=(by intro m;induction m with|zero=>intro N i t hm hI hi hN;obtain⟨k,rfl⟩:∃k,N=k+1:=⟨N-1,by omega⟩;have:i=n:=(by omega);subst this;rw[zdK];exact hend t _ hI|succ m ih=>intro N i t hm hI hi hN;obtain⟨k,rfl⟩:∃k,N=k+1:=⟨N-1,by omega⟩;rw[zdK];exact hstep i t _ (by omega) hI λt' hI'=>ih k (i+1) t' (by omega) hI' (by omega) (by omega));intro N i t hI hi hN;exact key (n-i) N i t rfl hI hi hN
section
variable {α:Type}
theorem zLw {l:List α}{i:Nat}(h:i<l.length)(d:α):up l (i:Int) (ix l (i:Int) d)=l:=by rw[zbg h];unfold up;apply k5;intro k;rw[jD];have e:(i:Int).toNat=i:=(by omega);rw[e];by_cases hk:i=k;{subst hk;simp[h]};{simp [hk]}
theorem zd5 {l:List α}{i:Nat}(h:i<l.length)(x d:α):ix (up l (i:Int) x) (i:Int) d=x:=by unfold ix up;have e:(i:Int).toNat=i:=(by omega);rw[e];simp[List.getD,h]
theorem zt0 (l:List α)(i:Int)(x y:α):up (up l i x) i y=up l i y:=by unfold up;simp
theorem z4H {l:List α}{i k:Nat}(h:i<k)(x:α):(up l (i:Int) x)[k]?=l[k]?:=by unfold up;have e:(i:Int).toNat=i:=(by omega);rw[e,jD,if_neg (by omega)]
end
def z4o:zS:=zU4
theorem z2J:zL z4o:=zgE
def z4p:zS:=z4o
theorem z2K:zL z4p:=z2J
def z4q:zS:=z4p
theorem z2L:zL z4q:=z2K
def z4r:zS:=z4q
theorem z2M:zL z4r:=z2L
def z4s:zS:=z4r
theorem z2N:zL z4s:=z2M
def z4t:zS:=z4s
theorem z2O:zL z4t:=z2N
def z4u:zS:=z4t
theorem z2P:zL z4u:=z2O
def z0N:zS:=z4u
theorem zZa:zL z0N:=z2P
def z0O:zS:=z0N
theorem zZb:zL z0O:=zZa
def z0P:zS:=z0O
theorem zZc:zL z0P:=zZb
def z0Q:zS:=z0P
theorem zZd:zL z0Q:=zZc
def z0R:zS:=z0Q
theorem zZe:zL z0R:=zZd
def z0S:zS:=z0R
theorem zZf:zL z0S:=zZe
def z0T:zS:=z0S
theorem zZg:zL z0T:=zZf
def z0U:zS:=z0T
theorem zZh:zL z0U:=zZg
def z0V:zS:=z0U
theorem zZi:zL z0V:=zZh
def z0W:zS:=z0V
theorem zZj:zL z0W:=zZi
def z0X:zS:=z0W
theorem zZk:zL z0X:=zZj
def z0Y:zS:=z0X
theorem zZl:zL z0Y:=zZk
def z0Z:zS:=z0Y
theorem zZm:zL z0Z:=zZl
def z4B:zS:=z0Z
theorem zrC:∀f run,zl z4B f=some run->Holds Tryz.prog f run:=zZm
def zI (_ _ _:Int):Bool:=true
def zi (x a b:Int):Bool:=ige x a&&ile x b
def zpN:Run:=rF3 dI dI dI λb c d=>(zI b c d,[aB<|zi b c d])
def zLU (N:Nat)(a0 a1 a2:Int):OA:=
 (cond (ige a0 a1) (some [aB<|ile a0 a2]) oF)
theorem zCZ (a0 a1 a2:Int)(hb:zbC big [aI a0,aI a1,aI a2])(hc:zI a0 a1 a2=true):∃N,zLU N a0 a1 a2=some [aB<|zi a0 a1 a2]:=by refine⟨0,?_⟩;unfold zLU zi;cases ige a0 a1<;>rfl
theorem zNo:vJ 102 zpN:=hF3 zrC zbi zq zu (zx []) zCZ
def zbl (_ _:Int):Bool:=true
abbrev zcR (i n:Int):Bool:=hasB i n
def zMK:Run:=rF2 dI dI λb c=>(zbl b c,[aB<|zcR b c])
def zTH (N:Nat)(a0 a1:Int):OA:=
 (cond (ige a0 0) (some [aB<|ilt a0 a1]) oF)
theorem zXT (a0 a1:Int)(hc:zbl a0 a1=true):∃N,zTH N a0 a1=some [aB<|zcR a0 a1]:=by refine⟨0,?_⟩;unfold zTH zcR;rw[<- has_eq];cases ige a0 0<;>rfl
theorem zSM:vJ 69 zMK:=kF2 zrC zbi zq zu (zx []) zXT
theorem zzK {n:Nat}(hn:n<=big)(i:Int):zi i 0 (wsub .i64 (n:Int) 1)=hasB i n:=by rw[zmY]at hn;rw[zrO (by omega) (by omega)];unfold zi ige ile hasB;by_cases h1:0<=i<;>by_cases h2:i<n;{rw [qJ (p:=i≥0) (by omega),qJ (p:=i<=(n:Int)-1) (by omega),qJ (p:=0<=i/\i<(n:Int)) ⟨h1,h2⟩];rfl};{rw [qG (p:=i<=(n:Int)-1) (by omega),qG (p:=0<=i/\i<(n:Int)) (by omega)];simp};{rw [qG (p:=i≥0) (by omega),qG (p:=0<=i/\i<(n:Int)) (by omega)];simp};{rw [qG (p:=i≥0) (by omega),qG (p:=0<=i/\i<(n:Int)) (by omega)];simp}
def zgk (l:List (List Int)):Bool:=pc (CVB sm<|.s (.sl .int) l)
abbrev zeT (l:List (List Int)):List (List Int):=l
def zxY:Run:=rF1 (dS<|.sl .int) λb=>(zgk b,[aS (.sl .int)<|zeT b])
def zCA (N:Nat)(a0:lM):OA:=
 (iter (σ:=(Int×lM×lM×Unit)) N (λr2 s3=>let y0:=ap []<|ix s3.2.1 s3.1 []; (cond (ilt s3.1<|ln s3.2.1) (oN (inb s3.1<|ln s3.2.1)<|oN (few<|ln y0)<|oN (few<|ln<|ap s3.2.2.1 [y0])<|r2 (zD .i64 s3.1 1,s3.2.1,ap s3.2.2.1 [y0],()))<|some [aS (.sl .int) s3.2.2.1])) (0,a0,[],()))
def zOp:=zx [(287,0,{n:=22,tm:=[(0,.sl 0 []),(3,.sl 1 []),(4,ti)],lo:=[],ro:=[(0,.sl .int,false),(1,.sl .int,true)]})]
theorem zN3 (a0:List (List Int))(hc:zgk a0=true):∃N,zCA N a0=some [aS (.sl .int)<|zeT a0]:=by
 have hs:=zK.1 hc;have hl:=zct hs.len;refine⟨a0.length+1,?_⟩;unfold zCA oN;conv=>zeta
 refine(zbd a0 (λi acc=>((i:Int),a0,acc,())) _ (λ_ x acc k=>bif few (ln x) then (cond (few<|ln<|ap acc [x]) (k<|ap acc [x]) none) else none) (λacc=>some [AV.one<|.s (.sl .int) acc])
  (λi hi t rec=>?_) (λt rec=>?_) _ [] (kO _)).trans (zjc (λx=>few (ln x)) (λx=>x) _ a0 0 [] (λx hx=>⟨zgt (zct (hs.inv.2 x hx _ (qF.2 rfl)).len).2,rfl⟩) (by simpa using hl.2))
 {simp only [zbv hi,zY hi,zbg hi,cT,zU hi hl.1,zlM]};{simp only [zbm,cF]}
theorem zHi:vJ 287 zxY:=kF1 zrC zbi zq zu zOp zN3
abbrev zgl (k:Kept):Bool:=pc (∀c∈Ty.cells .kept k,CVB sm c)
abbrev zdL (k:Kept):Kept:=k
def zxZ:Run:=rF1 (dT .kept) λb=>(zgl b,[aT .kept<|zdL b])
def zCC (N:Nat)(a0:Kept):OA:=
 (oN (few<|ln<|ap [] a0.Known)<|oN (few<|ln<|ap [] a0.Slots)<|some [.agg [.s .bool<|ap [] a0.Known,.s .slot<|ap [] a0.Slots]])
theorem zN5 (a0:Kept)(hc:zgl a0=true):∃N,zCC N a0=some [aT .kept<|zdL a0]:=by have h:=zK.1 hc;have h1:=znq (h (.s .bool a0.Known) (by simp[Ty.cells]));have h2:=znq (h (.s .slot a0.Slots) (by simp[Ty.cells]));refine⟨0,?_⟩;simp only[zCC,zlM,h1,h2,cT];rfl
theorem zHj:vJ 381 zxZ:=kF1 zrC zbi zq zu (zx []) zN5
def zdA (g:Guest):Bool:=pc (∀c∈Ty.cells .guest g,CVB sm c)
abbrev zcZ (g:Guest):Guest:=g
def zx0:Run:=rF1 (dT .guest) λb=>(zdA b,[aT .guest<|zcZ b])
def zCD (N:Nat)(a0:Guest):OA:=
 (oN (few<|ln<|ap [] a0.Prog)<|oN (few<|ln<|ap [] a0.Written)<|oN (few<|ln<|ap [] a0.Live)<|oN (few<|ln<|ap [] a0.Seen)<|some [.agg [.s .ins<|ap [] a0.Prog,.i .i64 a0.A,.i .i64 a0.Pc,.s .slot<|ap [] a0.Written,.s .slot<|ap [] a0.Live,.i .i64 a0.Ctl.Traps,.i .i64 a0.Ctl.Post,.b a0.Ctl.Open,.i .i64 a0.Pending,.i .i64 a0.Exit.Kind,.i .i64 a0.Exit.Page,.b a0.Exit.Write,.i .i64 a0.Exit.N,.b a0.Halted,.s .int<|ap [] a0.Seen]])
theorem zN6 (a0:Guest)(hc:zdA a0=true):∃N,zCD N a0=some [aT .guest<|zcZ a0]:=by have h:=zK.1 hc;have h1:=znq (h (.s .ins a0.Prog) (by simp[Ty.cells]));have h2:=znq (h (.s .slot a0.Written) (by simp[Ty.cells]));have h3:=znq (h (.s .slot a0.Live) (by simp[Ty.cells]));have h4:=znq (h (.s .int a0.Seen) (by simp[Ty.cells]));refine⟨0,?_⟩;simp only[zCD,zlM,h1,h2,h3,h4,cT];rfl
theorem zHl:vJ 289 zx0:=kF1 zrC zbi zq zu (zx []) zN6
def z00:zS:=[(102,zpN),(69,zMK),(287,zxY),(381,zxZ),(289,zx0)]++z4B
theorem zPf:zL z00:=zh zNo (zh zSM<|zh zHi<|zh zHj<|zh zHl zrC)
def zfW (l:List Guest):Bool:=pc (CVB sm<|.s .guest l)
abbrev zgm (l:List Guest):List Guest:=l
def ztI:Run:=rF1 (dS .guest) λb=>(zfW b,[aS .guest<|zgm b])
def zxv (N:Nat)(a0:lG):OA:=
 (iter (σ:=(Int×lG×lG×Unit)) N (λr2 s3=>let y0:=ix s3.2.1 s3.1 zn; (cond (ilt s3.1<|ln s3.2.1) (oN (inb s3.1<|ln s3.2.1)<|oN (zdA y0)<|oN (few<|ln<|ap s3.2.2.1 [zcZ y0])<|r2 (zD .i64 s3.1 1,s3.2.1,ap s3.2.2.1 [zcZ y0],()))<|some [aS .guest s3.2.2.1])) (0,a0,[],()))
def zIU:=zx [(288,0,{n:=21,tm:=[(0,.sl 0 []),(3,.sl 1 []),(4,ti)],lo:=[],ro:=[(0,.guest,false),(1,.guest,true)]})]
theorem zHW (a0:List Guest)(hc:zfW a0=true):∃N,zxv N a0=some [aS .guest<|zgm a0]:=by
 have hs:=zK.1 hc;have hl:=zct hs.len;refine⟨a0.length+1,?_⟩;unfold zxv oN;conv=>zeta
 refine(zbd a0 (λi acc=>((i:Int),a0,acc,())) _ (λ_ x acc k=>bif zdA x then (cond (few<|ln<|ap acc [zcZ x]) (k<|ap acc [zcZ x]) none) else none) (λacc=>some [AV.one<|.s .guest acc])
  (λi hi t rec=>?_) (λt rec=>?_) _ [] (kO _)).trans (zjc zdA zcZ _ a0 0 [] (λx hx=>⟨zbp<|hs.inv.2 x hx,rfl⟩) (by simpa using hl.2))
 {simp only [zbv hi,zY hi,zbg hi,cT,zU hi hl.1]};{simp only [zbm,cF]}
theorem zBD:vJ 288 ztI:=kF1 zPf zbi zq zu zIU zHW
def z01:zS:=[(288,ztI)]++z00
theorem zPg:zL z01:=zh zBD zPf
abbrev zjx (m:Mon):Bool:=pc (∀c∈Ty.cells .mon m,CVB sm c)
abbrev zmP (m:Mon):Mon:=m
def zAh:Run:=rF1 (dT .mon) λb=>(zjx b,[aT .mon<|zmP b])
def zF0 (N:Nat)(a0:Mon):OA:=
 (oN (few<|ln<|ap [] a0.Outer)<|oN (zgk a0.Out)<|oN (few<|ln<|ap [] a0.Dirty)<|oN (zfW a0.Guests)<|oN (few<|ln<|ap [] a0.Outs)<|iter (σ:=(Int×Int×Int×Int×Int×Int×Int×lK×lS×lM×lB×lG×(List Int)×lK×lS×lM×lB×lG×(List Int)×lK×Unit)) N (λr2 s3=>let y2:=s3.2.2.2.2.2.2.2.2.2.2.2.2.1;let y0:=s3.2.2.2.2.2.2.2.2.2.2.2.2.2.1;let y1:=ap s3.2.2.2.2.2.2.2.1 [zdL<|ix y0 s3.1 ze2]; (cond (ilt s3.1<|ln y0) (oN (inb s3.1<|ln y0)<|oN (zgl<|ix y0 s3.1 ze2)<|oN (few<|ln y1)<|r2 (zD .i64 s3.1 1,s3.2.1,s3.2.2.1,s3.2.2.2.1,s3.2.2.2.2.1,s3.2.2.2.2.2.1,s3.2.2.2.2.2.2.1,y1,s3.2.2.2.2.2.2.2.2.1,s3.2.2.2.2.2.2.2.2.2.1,s3.2.2.2.2.2.2.2.2.2.2.1,s3.2.2.2.2.2.2.2.2.2.2.2.1,y2,y0,s3.2.2.2.2.2.2.2.2.2.2.2.2.2.2.1,s3.2.2.2.2.2.2.2.2.2.2.2.2.2.2.2.1,s3.2.2.2.2.2.2.2.2.2.2.2.2.2.2.2.2.1,s3.2.2.2.2.2.2.2.2.2.2.2.2.2.2.2.2.2.1,s3.2.2.2.2.2.2.2.2.2.2.2.2.2.2.2.2.2.2.1,s3.2.2.2.2.2.2.2.2.2.2.2.2.2.2.2.2.2.2.2.1,()))<|some [.agg [.s .slot s3.2.2.2.2.2.2.2.2.1,.s (.sl .int) s3.2.2.2.2.2.2.2.2.2.1,.s .bool s3.2.2.2.2.2.2.2.2.2.2.1,.s .guest s3.2.2.2.2.2.2.2.2.2.2.2.1,.s .int y2,.i .i64 s3.2.1,.i .i64 s3.2.2.1,.s .kept s3.2.2.2.2.2.2.2.1,.i .i64 s3.2.2.2.1]])) (0,a0.Pending,a0.Traps,a0.Own,0,0,0,[],ap [] a0.Outer,zeT a0.Out,ap [] a0.Dirty,zgm a0.Guests,ap [] a0.Outs,a0.Tables,[],[],[],[],[],[],()))
def zSe:=zx [(343,0,{n:=48,tm:=[(1,.lp 0 0),(2,.lp 1 0),(3,.sl 0 []),(4,ti)],lo:=[(0,[.sl 1 [],.sl 2 [],.sl 3 [],.sl 4 [],.sl 5 [],ti,ti,.sl 6 [],ti]),(1,[.sl 7 [],.sl 8 [],.sl 9 [],.sl 10 [],.sl 11 [],ti,ti,.sl 12 [],ti])],ro:=[(0,.kept,true),(1,.slot,true),(2,.sl .int,true),(3,.bool,true),(4,.guest,true),(5,.int,true),(6,.kept,false),(7,.slot,true),(8,.sl .int,true),(9,.bool,true),(10,.guest,true),(11,.int,true),(12,.kept,true)]})]
theorem zQL (a0:Mon)(hc:zjx a0=true):∃N,zF0 N a0=some [aT .mon<|zmP a0]:=by
 have h:=zK.1 hc;have h1:=znq (h (.s .slot a0.Outer) (by simp[Ty.cells]));have h2:zgk a0.Out=true:=zbp (h (.s (.sl .int) a0.Out) (by simp[Ty.cells]));have h3:=znq (h (.s .bool a0.Dirty) (by simp[Ty.cells]));have h4:zfW a0.Guests=true:=zbp (h (.s .guest a0.Guests) (by simp[Ty.cells]));have h5:=znq (h (.s .int a0.Outs) (by simp[Ty.cells]));have h6:CVB sm (.s .kept a0.Tables):=h (.s .kept a0.Tables) (by simp[Ty.cells]);have hl:=zct h6.len;refine⟨a0.Tables.length+1,?_⟩;unfold zF0 oN;conv=>zeta
 simp only[zlM,h1,h2,h3,h4,h5,cT];refine(zbd a0.Tables (λi acc=>((i:Int),a0.Pending,a0.Traps,a0.Own,0,0,0,acc,a0.Outer,zeT a0.Out,a0.Dirty,zgm a0.Guests,a0.Outs,a0.Tables,[],[],[],[],[],[],())) _
  (λ_ x acc k=>bif zgl x then (cond (few<|ln<|ap acc [zdL x]) (k<|ap acc [zdL x]) none) else none) (λacc=>some [AV.agg<|Ty.cells .mon ⟨a0.Outer,a0.Out,a0.Dirty,a0.Guests,a0.Outs,a0.Pending,a0.Traps,acc,a0.Own⟩])
  (λi hi t rec=>?_) (λt rec=>?_) _ [] (kO _)).trans (zjc zgl zdL _ a0.Tables 0 [] (λx hx=>⟨zbp<|h6.inv.2 x hx,rfl⟩) (by simpa using hl.2))
 {simp only [zbv hi,zY hi,zbg hi,cT,zU hi hl.1]};{simp only [zbm,cF];rfl}
theorem zKe:vJ 343 zAh:=kF1 zPg zbi zq zu zSe zQL
def z02:zS:=[(343,zAh)]++z01
theorem zPh:zL z02:=zh zKe zPg
def zAl (h:Host)(_:Int):Bool:=pc (zcJ h)
def zfj (h:Host)(m:Int):Mon:=bif hasB m (ln h.Mons) then ix h.Mons m zf else Ty.dflt .mon
def zqp (h:Host)(m:Int):Bool:=hasB m (ln h.Mons)
def zur:Run:=rF2 dH dI λb c=>(zAl b c,[aT .mon<|zfj b c,aB<|zqp b c])
def zLP (N:Nat)(a0:Host)(a1:Int):OA:=
 let y1:=ix a0.Mons a1 zf;let y0:=zmP y1; (oN (zI a1 0<|wsub .i64 (ln a0.Mons) 1)<|cond (nB<|zi a1 0<|wsub .i64 (ln a0.Mons) 1) (some [.agg [.s .slot [],.s (.sl .int) [],.s .bool [],.s .guest [],.s .int [],.i .i64 0,.i .i64 0,.s .kept [],.i .i64 0],aB false])<|oN (inb a1<|ln a0.Mons)<|oN (zjx y1)<|some [.agg [.s .slot y0.Outer,.s (.sl .int) y0.Out,.s .bool y0.Dirty,.s .guest y0.Guests,.s .int y0.Outs,.i .i64 y0.Pending,.i .i64 y0.Traps,.s .kept y0.Tables,.i .i64 y0.Own],aB true])
theorem zS2 (a0:Host)(a1:Int)(hc:zAl a0 a1=true):∃N,zLP N a0 a1=some [aT .mon<|zfj a0 a1,aB<|zqp a0 a1]:=by
 have h:=(zK.1 hc).mons;refine⟨0,?_⟩;unfold zLP zfj zqp oN nB;conv=>zeta
 have e:zi a1 0 (wsub .i64 (ln a0.Mons) 1)=hasB a1 (ln a0.Mons):=zzK (zct h.len).1 a1;rw[e];cases hh:hasB a1 (ln a0.Mons);{simp [zI,Ty.cells,Ty.dflt]};{have h2:zjx (ix a0.Mons a1 zf)=true:=zbp (h.inv.2 _<|zby hh _);simp only[zI,cT,kC,cF,zA hh,h2];rfl}
theorem zxz:vJ 281 zur:=kF2 zPh zbi zq zu (zx []) zS2
def z03:zS:=[(281,zur)]++z02
theorem zZn:zL z03:=zh zxz zPh
def z04:zS:=z03
theorem zZo:zL z04:=zZn
def z4C:zS:=z04
theorem zrD:∀f run,zl z4C f=some run->Holds Tryz.prog f run:=zZo
def noSlot:Slot:=⟨-1,0⟩
def zbE:Bool:=true
abbrev zW:Slot:=noSlot
def znR:Run:=rF0 (zbE,[aT .slot zW])
def zUN (N:Nat)  : OA :=
 (some [.agg [.i .i64<|-1,.i .i64 0]])
theorem zzR  (hb:zbC big []) (hc:zbE=true):∃N,zUN N  = some [aT .slot zW]:=by exact⟨0,rfl⟩
theorem zJX:vJ 286 znR:=hF0 zrD zbi zq zu (zx []) zzR
theorem zJv:vJ 163 znR:=hF0 zrD zbi zq zu (zx []) zzR
theorem zJL:vJ 140 zpN:=hF3 zrD zbi zq zu (zx []) zCZ
def z05:zS:=[(286,znR),(163,znR),(140,zpN)]++z4C
theorem zDH:zL z05:=zh zJX (zh zJv<|zh zJL zrD)
def zdy (r:Int):Bool:=ige r 0&&ile r 3
def ziV (_:Int):Bool:=true
abbrev zgj (r:Int):Bool:=zdy r
def zlo:Run:=rF1 dI λb=>(ziV b,[aB<|zgj b])
def zOT (N:Nat)(a0:Int):OA:=
 (oN (zI a0 0 3)<|some [aB<|zi a0 0 3])
theorem zvg (a0:Int)(hb:zbC big [aI a0])(hc:ziV a0=true):∃N,zOT N a0=some [aB<|zgj a0]:=by exact⟨0,rfl⟩
theorem zEt:vJ 352 zlo:=hF1 zDH zbi zq zu (zx []) zvg
theorem zD7:vJ 305 zlo:=hF1 zDH zbi zq zu (zx []) zvg
def z06:zS:=[(352,zlo),(305,zlo)]++z05
theorem zmB:zL z06:=zh zEt (zh zD7 zDH)
def zeg (a b:Int):Int:=bif zdy a then (cond (zdy b) (wand .i64 a b) 0) else 0
abbrev zgz (a b:Int):Int:=zeg a b
def zjo:Run:=rF2 dI dI λb c=>(zbl b c,[aI<|zgz b c])
def zuR (N:Nat)(a0 a1:Int):OA:=
 (oN (ziV a0)<|cond (nB<|zgj a0) (some [aI 0])<|oN (ziV a1)<|cond (nB<|zgj a1) (some [aI 0])<|some [aI<|wand .i64 a0 a1])
theorem zsg (a0 a1:Int)(hb:zbC big [aI a0,aI a1])(hc:zbl a0 a1=true):∃N,zuR N a0 a1=some [aI<|zgz a0 a1]:=by refine⟨0,?_⟩;unfold zuR zgz zeg zgj oN nB;cases zdy a0<;>cases zdy a1<;>rfl
theorem zzv:vJ 404 zjo:=hF2 zmB zbi zq zu (zx []) zsg
theorem zzr:vJ 260 zjo:=hF2 zmB zbi zq zu (zx []) zsg
def enough (a b:Int):Bool:=bif zdy a then (cond (zdy b) (ieq (wand .i64 a b) b) false) else false
abbrev zcE (a b:Int):Bool:=enough a b
def znL:Run:=rF2 dI dI λb c=>(zbl b c,[aB<|zcE b c])
def zFD (N:Nat)(a0 a1:Int):OA:=
 (oN (ziV a0)<|cond (zgj a0) (oN (ziV a1)<|cond (zgj a1) (some [aB<|ieq (wand .i64 a0 a1) a1]) oF) oF)
theorem zzO (a0 a1:Int)(hb:zbC big [aI a0,aI a1])(hc:zbl a0 a1=true):∃N,zFD N a0 a1=some [aB<|zcE a0 a1]:=by refine⟨0,?_⟩;unfold zFD zcE enough zgj oN;cases zdy a0<;>cases zdy a1<;>rfl
theorem zJP:vJ 296 znL:=hF2 zmB zbi zq zu (zx []) zzO
theorem zJn:vJ 246 znL:=hF2 zmB zbi zq zu (zx []) zzO
def zbs (t:List Slot)(p:Int):Slot:=bif hasB p (ln t) then ix t p zO else noSlot
def zfI (_:List Slot)(_:Int):Bool:=true
abbrev zeo (t:List Slot)(p:Int):Slot:=zbs t p
def znW:Run:=rF2 (dS .slot) dI λb c=>(zfI b c,[aT .slot<|zeo b c])
def zFS (N:Nat)(a0:lS)(a1:Int):OA:=
 (oN (zI a1 0<|wsub .i64 (ln a0) 1)<|cond (nB<|zi a1 0<|wsub .i64 (ln a0) 1) (oN zbE<|some [.agg [.i .i64 zW.Page,.i .i64 zW.Rights]])<|oN (inb a1<|ln a0)<|some [.agg [.i .i64 (ix a0 a1 zO).Page,.i .i64 (ix a0 a1 zO).Rights]])
theorem zQF (a0:List Slot)(a1:Int)(hb:zbC big [aS .slot a0,aI a1])(hc:zfI a0 a1=true):∃N,zFS N a0 a1=some [aT .slot<|zeo a0 a1]:=by have hl:=len0 hb;refine⟨0,?_⟩;unfold zFS zeo zbs oN nB;have e:zi a1 0 (wsub .i64 (ln a0) 1)=hasB a1 (ln a0):=zwJ hl a1;rw[e];cases hh:hasB a1 (ln a0);{rfl};{rw [zA hh];rfl}
theorem zJ4:vJ 222 znW:=hF2 zmB zbi zq zu (zx []) zQF
def zFu (N:Nat)(a0:lS)(a1:Int):OA:=
 (oN (zbl a1<|ln a0)<|cond (nB<|zcR a1<|ln a0) (oN zbE<|some [.agg [.i .i64 zW.Page,.i .i64 zW.Rights]])<|oN (inb a1<|ln a0)<|some [.agg [.i .i64 (ix a0 a1 zO).Page,.i .i64 (ix a0 a1 zO).Rights]])
theorem zQl (a0:List Slot)(a1:Int)(hc:zfI a0 a1=true):∃N,zFu N a0 a1=some [aT .slot<|zeo a0 a1]:=by refine⟨0,?_⟩;unfold zFu zeo zbs zcR oN nB;cases hh:hasB a1 (ln a0);{rfl};{rw [zA hh];rfl}
theorem zJD:vJ 152 znW:=kF2 zmB zbi zq zu (zx []) zQl
def z07:zS:=[(404,zjo),(260,zjo),(296,znL),(246,znL),(222,znW),(152,znW)]++z06
theorem zDI:zL z07:=zh zzv (zh zzr<|zh zJP<|zh zJn<|zh zJ4<|zh zJD zmB)
def zcT (a b:Slot):Bool:=ieq a.Page b.Page&&ieq a.Rights b.Rights
def below' (a b:Slot):Bool:=bif zcT a noSlot then true else (cond (ieq a.Page b.Page) (enough b.Rights a.Rights) false)
def zbq (s:Slot)(outer:List Slot):Slot :=
 bif ieq s.Page (-1) then noSlot else (cond (ieq (zbs outer s.Page).Page<|-1) noSlot<|cond (ieq (zeg s.Rights (zbs outer s.Page).Rights) 0) noSlot ⟨(zbs outer s.Page).Page,zeg s.Rights (zbs outer s.Page).Rights⟩)
def zgI (_:Slot)(_:List Slot):Bool:=true
def zjI (s:Slot)(outer:List Slot):Slot:=zbq s outer
def zix:Run:=rF2 (dT .slot) (dS .slot) λb c=>(zgI b c,[aT .slot<|zjI b c])
def zsP (N:Nat)(a0:Slot)(a1:lS):OA:=
 let y0:=zeo a1 a0.Page; (oN (zfI a1 a0.Page)<|oN (zbl a0.Rights y0.Rights)<|cond (ieq a0.Page<|-1) (oN zbE<|some [.agg [.i .i64 zW.Page,.i .i64 zW.Rights]])<|cond (ieq y0.Page<|-1) (oN zbE<|some [.agg [.i .i64 zW.Page,.i .i64 zW.Rights]])<|cond (ieq (zgz a0.Rights y0.Rights) 0) (oN zbE<|some [.agg [.i .i64 zW.Page,.i .i64 zW.Rights]])<|some [.agg [.i .i64 y0.Page,.i .i64<|zgz a0.Rights y0.Rights]])
theorem zq7 (a0:Slot)(a1:List Slot)(hb:zbC big [aT .slot a0,aS .slot a1])(hc:zgI a0 a1=true):∃N,zsP N a0 a1=some [aT .slot<|zjI a0 a1]:=by
 refine⟨0,?_⟩;unfold zsP zjI zbq zeo zgz oN;conv=>zeta
 cases ieq a0.Page (-1)<;>cases ieq (zbs a1 a0.Page).Page (-1)<;>cases ieq (zeg a0.Rights (zbs a1 a0.Page).Rights) 0<;>rfl
theorem zyi:vJ 402 zix:=hF2 zDI zbi zq zu (zx []) zq7
theorem zyf:vJ 151 zix:=hF2 zDI zbi zq zu (zx []) zq7
def zdH (x:Int):Int:=bif (ige x 1&&ile x 6) then zSn .i64 (wsub .i64 x 1) 2 else -1
def zes (x:Int):Int:=bif (ige x 1&&ile x 6) then zkT (wsub .i64 x 1) 2 else -1
def z08:zS:=[(402,zix),(151,zix)]++z07
theorem zZp:zL z08:=zh zyi (zh zyf zDI)
theorem z3r {α β:Type}{l:List α}{m:List β}(h:ine (ln l) (ln m)=false):l.length=m.length:=by have:(ln l==ln m)=true:=(by simpa [ine,bne] using h);have:=eq_of_beq this;simp only[ln] at this;omega
def z09:zS:=z08
theorem zZq:zL z09:=zZp
def zcW (h:Host)(e:Entry):Bool :=
 bif hasB (zdH e.Tag) (ln h.Mons) then (bif hasB (zes e.Tag) (ln (ix h.Mons (zdH e.Tag) zf).Guests) then
  below' ⟨e.Host,e.Rights⟩ (zbq (zbs (ix (ix h.Mons (zdH e.Tag) zf).Guests (zes e.Tag) zn).Live e.Page) (ix h.Mons (zdH e.Tag) zf).Outer) else false) else false
def z1a:zS:=z09
theorem zZr:zL z1a:=zZq
def z4A:zS:=z1a
theorem zI6:∀f run,zl z4A f=some run->Holds Tryz.prog f run:=zZr
theorem hE (h:Host):(⟨h.Memory,h.Mons,h.Buffer,h.IoBuffer⟩:Host)=h:=rfl
def idxs {α:Type}(p:α->Bool):List α->Nat->List Int
 |[],_=>[]
 |x::l,i=>bif p x then (i:Int)::idxs p l (i+1) else idxs p l (i+1)
theorem zwF {α:Type}(p:α->Bool):∀(l:List α) (i:Nat),(idxs p l i).length<=l.length
 |[],_=>qX _
 |x::l,i=>by have:=zwF p l (i+1);simp only[idxs];cases p x<;>simp<;>omega
theorem zr7 {α ρ:Type}(p:α->Bool)(K:List Int->Option ρ):∀(l:List α) (i:Nat) (acc:List Int),acc.length+l.length<=2147483648->
 goL (λi x acc k=>bif p x then (cond (few<|ln<|ap acc [(i:Int)]) (k<|ap acc [(i:Int)]) none) else k acc) K l i acc=K (acc++idxs p l i)
 |[],i,acc,_=>by simp[goL,idxs]
 |x::l,i,acc,h=>by simp only[qV]at h;simp only[goL,idxs];cases p x;{simp only [cF];exact zr7 p K l (i+1) acc (by omega)};{simp only [cT];rw[zgt (by simp[ap];omega),cT,zr7 p K l (i+1) _ (by simp[ap];omega)];simp[ap]}
def zum (p:Nat->Bool):Nat->Nat->List Int
 | 0,_=>[]
 |n+1,i=>bif p i then (i:Int)::zum p n (i+1) else zum p n (i+1)
theorem zwt {ρ:Type}(p:Nat->Bool)(K:List Int->Option ρ):∀(n i:Nat) (acc:List Int),acc.length+n<=2147483648->
 goN (λi acc k=>bif p i then (cond (few<|ln<|ap acc [(i:Int)]) (k<|ap acc [(i:Int)]) none) else k acc) K n i acc=K (acc++zum p n i)
 | 0,i,acc,_=>by simp[goN,zum]
 |n+1,i,acc,h=>by simp only[goN,zum];cases p i;{simp only [cF];exact zwt p K n (i+1) acc (by omega)};{simp only [cT];rw[zgt (by simp[ap];omega),cT,zwt p K n (i+1) _ (by simp[ap];omega)];simp[ap]}
abbrev zop (l:List Slot)(_:Int):Bool:=pc (l.length<=2147483648)
abbrev zf9 (l:List Slot)(p:Int):List Int:=idxs (λ(s:Slot)=>ieq s.Page p) l 0
def znY:Run:=rF2 (dS .slot) dI λb c=>(zop b c,[aS .int<|zf9 b c])
def zFW (N:Nat)(a0:lS)(a1:Int):OA:=
 (iter (σ:=(Int×Int×lS×(List Int)×Unit)) N (λr3 s4=>cond (ilt s4.2.1<|ln s4.2.2.1) (oN (inb s4.2.1<|ln s4.2.2.1)<|cond (ieq (ix s4.2.2.1 s4.2.1 zO).Page s4.1) (oN (few<|ln<|ap s4.2.2.2.1 [s4.2.1])<|r3 (s4.1,zD .i64 s4.2.1 1,s4.2.2.1,ap s4.2.2.2.1 [s4.2.1],()))<|r3 (s4.1,zD .i64 s4.2.1 1,s4.2.2.1,s4.2.2.2.1,()))<|some [aS .int s4.2.2.2.1]) (a1,0,a0,[],()))
def zSc:=zx [(403,0,{n:=26,tm:=[(0,.sl 0 []),(1,ti),(5,.sl 1 []),(6,ti)],lo:=[],ro:=[(0,.slot,false),(1,.int,true)]})]
theorem zQI (a0:List Slot)(a1:Int)(hb:zbC big [aS .slot a0,aI a1])(hc:zop a0 a1=true):∃N,zFW N a0 a1=some [aS .int<|zf9 a0 a1]:=by have hl:=len0 hb;have hs:=zK.1 hc;refine zb0 λN hNN=>?_;unfold zFW oN;refine(zbd a0 (λi (t:(List Int))=>(a1,(i:Int),a0,t,())) _ (λi (x:Slot) (t:List Int) κ=>bif ieq x.Page a1 then (cond (few<|ln<|ap t [(i:Int)]) (κ<|ap t [(i:Int)]) none) else κ t) (λ(t:(List Int))=>some [.one<|.s .int t]) (λi hi t rec=>?_) (λt rec=>?_) _ ([])<|hNN hl).trans ?_;{simp only [zbv hi,zY hi,zbg hi,zU hi hl,cT]};{simp only [zbm,cF]};exact zr7 (λ(s:Slot)=>ieq s.Page a1) _ _ 0 [] (by simpa using hs)
theorem zJ8:vJ 403 znY:=hF2 zI6 zbi zq zu zSc zQI
def zFx (N:Nat)(a0:lS)(a1:Int):OA:=
 (iter (σ:=(Int×Int×Int×(List Int)×lS×Unit)) N (λr3 s4=>let y1:=s4.2.2.2.2.1;let y0:=s4.2.2.1; (cond (ilt y0 s4.2.1) (oN (inb y0<|ln y1)<|cond (ieq (ix y1 y0 zO).Page s4.1) (oN (few<|ln<|ap s4.2.2.2.1 [y0])<|r3 (s4.1,s4.2.1,zD .i64 y0 1,ap s4.2.2.2.1 [y0],y1,()))<|r3 (s4.1,s4.2.1,zD .i64 y0 1,s4.2.2.2.1,y1,()))<|some [aS .int s4.2.2.2.1])) (a1,ln a0,0,[],a0,()))
def zR1:=zx [(308,0,{n:=26,tm:=[(1,ti),(5,.sl 0 []),(9,.sl 1 []),(10,ti),(11,ti)],lo:=[],ro:=[(0,.int,true),(1,.slot,false)]})]
theorem zQo (a0:List Slot)(a1:Int)(hb:zbC big [aS .slot a0,aI a1])(hc:zop a0 a1=true):∃N,zFx N a0 a1=some [aS .int<|zf9 a0 a1]:=by
 have hl:=len0 hb;have hs:=zK.1 hc;refine zb0 λN hNN=>?_;unfold zFx oN;conv=>zeta
 refine(zbd a0 (λi (t:(List Int))=>(a1,ln a0,(i:Int),t,a0,())) _ (λi (x:Slot) (t:List Int) κ=>bif ieq x.Page a1 then (cond (few<|ln<|ap t [(i:Int)]) (κ<|ap t [(i:Int)]) none) else κ t) (λ(t:(List Int))=>some [.one<|.s .int t]) (λi hi t rec=>?_) (λt rec=>?_) _ ([])<|hNN hl).trans ?_;{simp only [zbv hi,zY hi,zbg hi,zU hi hl,cT]};{simp only [zbm,cF]};exact zr7 (λ(s:Slot)=>ieq s.Page a1) _ _ 0 [] (by simpa using hs)
theorem zJH:vJ 308 znY:=hF2 zI6 zbi zq zu zR1 zQo
def z1b:zS:=[(403,znY),(308,znY)]++z4A
theorem zZs:zL z1b:=zh zJ8 (zh zJH zI6)
def z1c:zS:=z1b
theorem zZt:zL z1c:=zZs
def z1d:zS:=z1c
theorem zDJ:zL z1d:=zZt
def all2 {α:Type}(eq:α->α->Bool):List α->List α->Bool
 |[],[]=>true
 |x::l,y::m=>eq x y&&all2 eq l m
 |_,_=>false
theorem zOY {α:Type}(eq:α->α->Bool):∀(l m:List α),l.length≠m.length->all2 eq l m=false
 |[],[],h=>absurd rfl h
 |[],_::_,_=>rfl
 |_::_,[],_=>rfl
 |x::l,y::m,h=>by simp only[all2,zOY eq l m (by simpa using h),Bool.and_false]
theorem zPI {α ρ:Type}(eq:α->α->Bool)(d:α)(b:List α)(r:Option ρ)(K:Unit->Option ρ):∀(a:List α) (i:Nat),a.length+i=b.length->
 goL (λi x (_:Unit) k=>bif eq x (ix b (i:Int) d) then k () else r) K a i ()=bif all2 eq a (b.drop i) then K () else r
 |[],i,h=>by have:b.drop i=[]:=uW (by simp at h;omega);rw[this];rfl
 |x::a,i,h=>by simp only[qV]at h;have hi:i<b.length:=(by omega);rw[j7 hi];simp only[goL,all2,zbg hi];cases eq x b[i];{rfl};{simp only [cT,uI];exact zPI eq d b r K a (i+1) (by omega)}
theorem z4N {α β:Type}{l:List α}{m:List β}(h:ine (ln l) (ln m)=true):l.length≠m.length:=by intro e;simp only[ine,ln,e,bne_self_eq_false]at h;cases h
theorem zjU (x y:Int):ine x y = !ieq x y:=rfl
def eqI (a b:List Int):Bool:=all2 ieq a b
def zhm (_ _:List Int):Bool:=true
def zh9 (a b:List Int):Bool:=eqI a b
def zqQ:Run:=rF2 (dS .int) (dS .int) λb c=>(zhm b c,[aB<|zh9 b c])
def zCB (N:Nat)(a0 a1:List Int):OA:=
 (cond (ine (ln a0)<|ln a1) oF<|iter (σ:=(Int×(List Int)×(List Int)×Unit)) N (λr3 s4=>cond (ilt s4.1<|ln s4.2.1) (oN (inb s4.1<|ln s4.2.1)<|oN (inb s4.1<|ln s4.2.2.1)<|cond (ine (ix s4.2.1 s4.1 0)<|ix s4.2.2.1 s4.1 0) oF<|r3 (zD .i64 s4.1 1,s4.2.1,s4.2.2.1,())) oT) (0,a0,a1,()))
def zOq:=zx [(280,0,{n:=26,tm:=[(0,.sl 0 []),(1,.sl 1 []),(5,ti)],lo:=[],ro:=[(0,.int,false),(1,.int,false)]})]
theorem zN4 (a0 a1:List Int)(hb:zbC big [aS .int a0,aS .int a1])(hc:zhm a0 a1=true):∃N,zCB N a0 a1=some [aB<|zh9 a0 a1]:=by have hl:=len0 hb;refine zb0 λN hNN=>?_;unfold zCB zh9 eqI oN;cases h1:ine (ln a0) (ln a1);{have e:=z3r h1;rw[cF];refine(zbd a0 (λi (t:Unit)=>((i:Int),a0,a1,())) _ (λi (x:Int) (_:Unit) κ=>bif ieq x (ix a1 (i:Int) 0) then κ () else oF) (λ(t:Unit)=>some [.one<|.b true]) (λi hi t rec=>?_) (λt rec=>?_) _ ()<|hNN hl).trans ?_;{simp only [zbv hi,zY hi,zbg hi,zU hi hl,cT];simp only[zY (l:=a1) (i:=i)<|e ▸ hi,cT,zjU];cases ieq a0[i] (ix a1 (↑i) 0)<;>rfl};{simp only [zbm,cF]};rw[zPI ieq 0 a1 _ _ a0 0 (by simpa using e),u4];cases all2 ieq a0 a1<;>rfl};{rw [zOY _ _ _<|z4N h1];rfl}
theorem zto:vJ 280 zqQ:=hF2 zDJ zbi zq zu zOq zN4
def zdN (l:List Int):Bool:=pc (l.length<=2147483648)
abbrev zdM (l:List Int):List Int:=l
def zvw:Run:=rF1 (dS .int) λb=>(zdN b,[aS .int<|zdM b])
def zyD (N:Nat)(a0:List Int):OA:=
 (oN (few<|ln<|ap [] a0)<|some [aS .int<|ap [] a0])
theorem zKv (a0:List Int)(hc:zdN a0=true):∃N,zyD N a0=some [aS .int<|zdM a0]:=by refine⟨0,?_⟩;unfold zyD oN;rw[zlM,zgt<|zK.1 hc,cT]
theorem zEd:vJ 254 zvw:=kF1 zDJ zbi zq zu (zx []) zKv
def z1e:zS:=[(280,zqQ),(254,zvw)]++z1d
theorem zDK:zL z1e:=zh zto (zh zEd zDJ)
def zw9:List Int:=rp 4 0
def zcp (m:List (List Int))(p:Int):List Int:=bif hasB p (ln m) then ix m p [] else zw9
def zeI (m:List (List Int))(_:Int):Bool:=pc (CVB sm<|.s (.sl .int) m)
def zf8 (m:List (List Int))(p:Int):List Int:=zcp m p
theorem zYs {m:List (List Int)}{p:Int}(hs:CVB sm (.s (.sl .int) m))(hh:hasB p (ln m)=true):(ix m p []).length<=2147483648 :=
 (zct (hs.inv.2 _ (zby hh ([]:List Int)) (.s .int _) (qF.2 rfl)).len).2
def znS:Run:=rF2 (dS<|.sl .int) dI λb c=>(zeI b c,[aS .int<|zf8 b c])
def zFL (N:Nat)(a0:lM)(a1:Int):OA:=
 (oN (zI a1 0<|wsub .i64 (ln a0) 1)<|cond (nB<|zi a1 0<|wsub .i64 (ln a0) 1) (oN (cond (few 4) (ieq 4 4) false)<|some [aS .int<|rp 4 0])<|oN (inb a1<|ln a0)<|oN (few<|ln<|ap []<|ix a0 a1 [])<|some [aS .int<|ap []<|ix a0 a1 []])
theorem zQz (a0:List (List Int))(a1:Int)(hc:zeI a0 a1=true):∃N,zFL N a0 a1=some [aS .int<|zf8 a0 a1]:=by have hs:=zK.1 hc;refine⟨0,?_⟩;unfold zFL zf8 zcp oN nB;have e:zi a1 0 (wsub .i64 (ln a0) 1)=hasB a1 (ln a0):=zwJ (zct hs.len).1 a1;rw[e];cases hh:hasB a1 (ln a0);{rfl};{simp only [zI,cT,cF,zA hh,zlM,zgt<|zYs hs hh]}
theorem zJY:vJ 344 znS:=kF2 zDK zbi zq zu (zx []) zQz
def zFo (N:Nat)(a0:lM)(a1:Int):OA:=
 (oN (zbl a1<|ln a0)<|cond (nB<|zcR a1<|ln a0) (oN (cond (few 4) (ieq 4 4) false)<|some [aS .int<|rp 4 0])<|oN (inb a1<|ln a0)<|oN (zdN<|ix a0 a1 [])<|some [aS .int<|zdM<|ix a0 a1 []])
theorem zQf (a0:List (List Int))(a1:Int)(hc:zeI a0 a1=true):∃N,zFo N a0 a1=some [aS .int<|zf8 a0 a1]:=by have hs:=zK.1 hc;refine⟨0,?_⟩;unfold zFo zf8 zcp zcR oN nB;cases hh:hasB a1 (ln a0);{rfl};{simp only [zbl,cT,cF,zA hh,show zdN (ix a0 a1 [])=true from zbp (zYs hs hh),zdM]}
theorem zJw:vJ 162 znS:=kF2 zDK zbi zq zu (zx []) zQf
def z1f:zS:=[(344,znS),(162,znS)]++z1e
theorem zDL:zL z1f:=zh zJY (zh zJw zDK)
def zcm (h:Host)(m p:Int):List Int :=
 bif hasB m (ln h.Mons) then (cond (hasB p 8) (cond (ine (zbs (ix h.Mons m zf).Outer p).Page<|-1) (zcp h.Memory (zbs (ix h.Mons m zf).Outer p).Page)<|zcp (ix h.Mons m zf).Out p) zw9) else zw9
theorem z4L (p:Int):zi p 0 7=hasB p 8:=by unfold zi ige ile hasB;by_cases h1:0<=p<;>by_cases h2:p<8;{rw [qJ (p:=p≥0) (by omega),qJ (p:=p<=7) (by omega),qJ (p:=0<=p/\p<8) ⟨h1,h2⟩];rfl};{rw [qG (p:=p<=7) (by omega),qG (p:=0<=p/\p<8) (by omega)];simp};{rw [qG (p:=p≥0) (by omega),qG (p:=0<=p/\p<8) (by omega)];simp};{rw [qG (p:=p≥0) (by omega),qG (p:=0<=p/\p<8) (by omega)];simp}
def zoj (h:Host)(_ _:Int):Bool:=pc (zcJ h)
def zmN (h:Host)(m p:Int):List Int:=zcm h m p
def zkH:Run:=rF3 dH dI dI λb c d=>(zoj b c d,[aS .int<|zmN b c d])
def zFN (N:Nat)(a0:Host)(a1 a2:Int):OA:=
 let y0:=ix a0.Mons a1 zf;let y1:=(zeo y0.Outer a2).Page; (oN (zI a1 0<|wsub .i64 (ln a0.Mons) 1)<|cond (nB<|zi a1 0<|wsub .i64 (ln a0.Mons) 1) (oN (cond (few 4) (ieq 4 4) false)<|some [aS .int<|rp 4 0])<|oN (zI a2 0 7)<|cond (nB<|zi a2 0 7) (oN (cond (few 4) (ieq 4 4) false)<|some [aS .int<|rp 4 0])<|oN (inb a1<|ln a0.Mons)<|oN (zfI y0.Outer a2)<|cond (ine y1<|-1) (oN (zeI a0.Memory y1)<|some [aS .int<|zf8 a0.Memory y1])<|oN (zeI y0.Out a2)<|some [aS .int<|zf8 y0.Out a2])
theorem zQB (a0:Host)(a1 a2:Int)(hc:zoj a0 a1 a2=true):∃N,zFN N a0 a1 a2=some [aS .int<|zmN a0 a1 a2]:=by
 have hs:=zK.1 hc;refine⟨0,?_⟩;unfold zFN zmN zcm oN nB;conv=>zeta
 have e:zi a1 0 (wsub .i64 (ln a0.Mons) 1)=hasB a1 (ln a0.Mons):=zwJ (zct hs.mons.len).1 a1;rw[e,z4L];cases hh:hasB a1 (ln a0.Mons);{rfl};{cases h8:hasB a2 8;{rfl};{have ho:CVB sm (.s (.sl .int) (ix a0.Mons a1 zf).Out):=hs.mons.inv.2 _ (zby hh zf) (.s (.sl .int) _) (by simp[Ty.cells]);simp only[zI,cT,cF,zA hh,zfI,zeo,show ∀p,zeI a0.Memory p=true from λp=>zbp hs.mem,show ∀p,zeI (ix a0.Mons a1 zf).Out p=true from λp=>zbp ho,zf8];cases ine (zbs (ix a0.Mons a1 zf).Outer a2).Page (-1)<;>rfl}}
theorem zu8:vJ 282 zkH:=kF3 zDL zbi zq zu (zx []) zQB
def zFp (N:Nat)(a0:Host)(a1 a2:Int):OA:=
 let y0:=ix a0.Mons a1 zf;let y1:=(zeo y0.Outer a2).Page; (oN (zbl a1<|ln a0.Mons)<|cond (nB<|zcR a1<|ln a0.Mons) (oN (cond (few 4) (ieq 4 4) false)<|some [aS .int<|rp 4 0])<|oN (zbl a2 8)<|cond (nB<|zcR a2 8) (oN (cond (few 4) (ieq 4 4) false)<|some [aS .int<|rp 4 0])<|oN (inb a1<|ln a0.Mons)<|oN (zfI y0.Outer a2)<|cond (ine y1<|-1) (oN (zeI a0.Memory y1)<|some [aS .int<|zf8 a0.Memory y1])<|oN (zeI y0.Out a2)<|some [aS .int<|zf8 y0.Out a2])
theorem zQg (a0:Host)(a1 a2:Int)(hc:zoj a0 a1 a2=true):∃N,zFp N a0 a1 a2=some [aS .int<|zmN a0 a1 a2]:=by
 have hs:=zK.1 hc;refine⟨0,?_⟩;unfold zFp zmN zcm zcR oN nB;conv=>zeta
 cases hh:hasB a1 (ln a0.Mons);{rfl};{cases h8:hasB a2 8;{rfl};{have ho:CVB sm (.s (.sl .int) (ix a0.Mons a1 zf).Out):=hs.mons.inv.2 _ (zby hh zf) (.s (.sl .int) _) (by simp[Ty.cells]);simp only[zbl,cT,cF,zA hh,zfI,zeo,show ∀p,zeI a0.Memory p=true from λp=>zbp hs.mem,show ∀p,zeI (ix a0.Mons a1 zf).Out p=true from λp=>zbp ho,zf8];cases ine (zbs (ix a0.Mons a1 zf).Outer a2).Page (-1)<;>rfl}}
theorem zJx:vJ 185 zkH:=kF3 zDL zbi zq zu (zx []) zQg
def z1g:zS:=[(282,zkH),(185,zkH)]++z1f
theorem zZu:zL z1g:=zh zu8 (zh zJx zDL)
def z1h:zS:=z1g
theorem zZv:zL z1h:=zZu
def z4z:zS:=z1h
theorem z2Y:∀f run,zl z4z f=some run->Holds Tryz.prog f run:=zZv
def z4y:zS:=z4z
theorem zc9:zL z4y:=z2Y
def zny:zg1:=zZ0
theorem zo:zfz zny:=zbi
def canRun (g:Guest):Bool:=bif (ieq g.Exit.Kind 0&&(ieq g.Exit.Page 0&&(znj g.Exit.Write false&&ieq g.Exit.N 0))) then !g.Halted else false
def zrp (_:Guest):Bool:=true
abbrev zmM (g:Guest):Bool:=canRun g
def znK:Run:=rF1 (dT .guest) λb=>(zrp b,[aB<|zmM b])
def zFB (N:Nat)(a0:Guest):OA:=
 (cond (cond (ieq a0.Exit.Kind 0) (cond (ieq a0.Exit.Page 0) (cond (znj a0.Exit.Write false) (ieq a0.Exit.N 0) false) false) false) (some [aB<|nB a0.Halted]) oF)
theorem zzN (a0:Guest)(hb:zbC big [aT .guest a0])(hc:zrp a0=true):∃N,zFB N a0=some [aB<|zmM a0]:=by refine⟨0,?_⟩;unfold zFB zmM canRun nB;cases ieq a0.Exit.Kind 0<;>cases ieq a0.Exit.Page 0<;>cases znj a0.Exit.Write false<;>cases ieq a0.Exit.N 0<;>simp
theorem zJN:vJ 290 znK:=hF1 zrD zbi zq zu (zx []) zzN
theorem zJl:vJ 164 znK:=hF1 zrD zbi zq zu (zx []) zzN
end
end Go.Proofs.YtgjpbkhaaiffkaaGreat.E
