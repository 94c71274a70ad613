/- What is proved here: a part of the proof that the statement of this claim holds (several texts of wip/, laid together). -/
import Derived.Test.YtcfnaifggdelnaaGreatW2
import Derived.HandedShaped
import Derived.ProofKit
import Derived.KernelRfl
import Derived.Maps.OwnOps
import Derived.Maps.Views
import Derived.WalkKit
namespace Go.Proofs.YtcfnaifggdelnaaGreat.E
open Go
set_option linter.unusedVariables false
set_option maxRecDepth 100000
set_option linter.unusedSimpArgs false
set_option linter.unusedSectionVars false
noncomputable section
section
variable {C:Cfg} {w0 w w1:World} {S0:zI} {U:Nat->Prop} {st st1:St} {E E1:Env} {ts:Array Value} {sv:List (Array Value)}
variable {ops:Array Oper} {b:Bool} {base:Nat} {cl:List (List Nat)} {ss:List Step} {st0:St}
theorem zpS {w w':World}(h:w'.heap=w.heap):∀(p:List (Int×Nat)) (t:Ty) (v:Value),zD w' t v p=zD w t v p
 | [],t,v=>by simp only [zD]
 | (i,j) :: p,t,v=>by
  have hc:∀a,w'.cell? a=w.cell? a:=fun a=>by simp only [World.cell?,h]
  have ih:=zpS h p;cases v with
  | slice a len cap=>cases a<;>simp only [zD,hc,ih]
  | _=>simp only [zD]
theorem Sim.heap (hS:Sim w0 S0 U st E ts sv w){w':World}(h1:w'.heap=w.heap)(h2:w'.os=w.os)(h3:w'.tape=w.tape)(h4:w'.output=w.output):Sim w0 S0 U st E ts sv w':=by
 have T:Trans st E w st E w' (fun _=>True):=⟨fun r _ R h=>⟨R,h,rfl,fun p u hu=>by rw [zpS h1];exact hu⟩,fun l _ cs h=>⟨⟨cs,h⟩,rfl⟩,rfl⟩
 have hM:=hS.mem;refine ⟨⟨by rw [h2];exact hM.os,by rw [h3];exact hM.tape,by rw [h4];exact hM.output,by rw [h1];exact hM.size,fun b hb hn=>by rw [h1];exact hM.keep b hb hn,
  fun r R h=>(hM.rep r R h).frame (fun x _=>by rw [h1]),fun r R h x hx=>by rw [h1];exact hM.rlt r R h x hx,hM.mine,hM.apart,fun l cs hl=>?_,hM.linj,hM.lro,hM.epo,hM.κ⟩,hS.ids,
  Slots.tr T (fun _ _ _ _=>trivial) hS.tm,Stack.tr T (fun _ _ _ _ _ _=>trivial) hS.stk⟩
 obtain ⟨g1,vals,e,g2,g3,g4⟩:=hM.loc l cs hl;exact ⟨g1,vals,e,by rw [h1];exact g2,g3,fun j c u hc hu=>⟨(g4 j c u hc hu).1,VA.tr T (fun _ _=>trivial) (g4 j c u hc hu).2⟩⟩
theorem Sim.blind (hS:Sim w0 S0 U st E ts sv w)(c:Bool)(n:Nat):Sim w0 S0 U { st with nid:=n,ep:=if c then st.ep+1 else st.ep } E ts sv w:=by
 have h:=hS.nid n;cases c with
 | false=>exact h
 | true =>
  refine h.fewer (fun _=>rfl) (fun _=>rfl) rfl (fun r R hR=>?_) (fun r R hR=>⟨R,hR⟩) (fun r R e hR he=>?_)
  ·obtain ⟨g1,g2⟩:=zbw hR;have hn:R.ep=none:=by
    rcases g2 with g2|g2
    ·exact g2
    ·have:=hS.mem.epo r R _ g1 g2;simp only [if_true] at this;omega
   show St.root { st with nid:=n } r=some R
   unfold St.root;have g3:zf ({ st with nid:=n }:St).ro r=some R:=g1;rw [g3];simp only [hn]
  ·have:=hS.mem.epo r R e hR he
   show e<=st.ep+1
   omega
theorem cnt_lt {p q:Nat->Bool}:∀(l:List Nat),(∀x∈l,q x=true->p x=true)->(∃x∈l,p x=true/\q x=false)->l.countP q<l.countP p
 | [],_,h=>by obtain ⟨x,hx,_⟩:=h;cases hx
 | a :: l,h1,h2=>by
  have hle:∀(m:List Nat),(∀x∈m,q x=true->p x=true)->m.countP q<=m.countP p:=fun m hm=>List.countP_mono_left hm;have hm:=hle l (fun x hx=>h1 x (by simp [hx]))
  simp only [List.countP_cons];cases hq:q a with
  | true =>
   rw [h1 a (by simp) hq]
   have:l.countP q<l.countP p:=cnt_lt l (fun x hx=>h1 x (by simp [hx])) (by
    obtain ⟨x,hx,g1,g2⟩:=h2;rcases List.mem_cons.1 hx with rfl|hx
    ·rw [hq] at g2;cases g2
    ·exact ⟨x,hx,g1,g2⟩)
   simp only [if_true];omega
  | false =>
   cases hp:p a with
   | true=>simp;omega
   | false =>
    have:l.countP q<l.countP p:=cnt_lt l (fun x hx=>h1 x (by simp [hx])) (by
     obtain ⟨x,hx,g1,g2⟩:=h2;rcases List.mem_cons.1 hx with rfl|hx
     ·rw [hp] at g1;cases g1
     ·exact ⟨x,hx,g1,g2⟩)
    simp;omega
def left (n:Nat)(listed:Array Bool):Nat:=(List.range n).countP fun i=>!listed.getD i true
theorem zpe {listed:Array Bool}{n i:Nat}(hi:i<n)(hl:listed.getD i true=false):left n (listed.setIfInBounds i true)<left n listed:=by
 unfold left;have hlt:i<listed.size:=by
  rcases Nat.lt_or_ge i listed.size with h|h
  ·exact h
  ·simp [Array.getElem?_eq_none h] at hl
 refine cnt_lt _ (fun x _ hx=>?_) ⟨i,List.mem_range.2 hi,by rw [hl];rfl,by simp [hlt]⟩
 by_cases hxi:i=x
 ·subst hxi;simp [hlt] at hx
 ·rwa [getD_set_ne true hxi] at hx
structure Waits (md:Region.Mode) (ops:Array Oper) (cl:List (List Nat)):Prop where
 at':∀i,i<ops.size->cl.getD i []=waits ops (cl.take i) i
 lt:∀i,i<ops.size->∀j∈cl.getD i [],j<i
 sub:∀e,Region.binds .any e=true->Region.binds md e=true
 rk:∃rk:Nat->Nat,∀(i:Nat) (o:Oper),ops[i]?=some o->∀e∈o.after,Region.binds md e=true->e.on<ops.size/\rk e.on<rk i
variable {md:Region.Mode}
theorem zCb (hat:∀i,i<ops.size->cl.getD i []=waits ops (cl.take i) i){i:Nat}{o:Oper}(ho:ops[i]?=some o){e:Edge}(he:e∈o.after)(hb:Region.binds .any e=true):e.on∈cl.getD i []:=by
 have hi:=(Array.getElem?_eq_some_iff.1 ho).1;rw [hat i hi];simp only [waits,ho];exact List.mem_flatMap.2 ⟨e,by simpa using he,by rw [if_pos hb];exact List.mem_cons_self⟩
theorem ztx {l:List (List Nat)}{i j k:Nat}(h:k∈(l.take i).getD j []):k∈l.getD j []:=by
 rw [List.getD_eq_getElem?_getD,List.getElem?_take] at h;rw [List.getD_eq_getElem?_getD];split at h
 ·exact h
 ·simp at h
theorem Waits.inv (W:Waits md ops cl){i j:Nat}{o:Oper}(ho:ops[i]?=some o)(hj:j∈cl.getD i []):∃e∈o.after,Region.binds .any e=true/\(j=e.on\/j∈cl.getD e.on []):=by
 have hi:=(Array.getElem?_eq_some_iff.1 ho).1;rw [W.at' i hi] at hj;simp only [waits,ho] at hj;obtain ⟨e,he,hj⟩:=List.mem_flatMap.1 hj;split at hj
 ·rename_i hb;refine ⟨e,by simpa using he,hb,?_⟩
  rcases List.mem_cons.1 hj with h|h
  ·exact .inl h
  ·exact .inr (ztx h)
 ·cases hj
def XL (listed:Array Bool)(k:Nat):Bool:=listed.getD k false
theorem zoo (W:Waits md ops cl){listed:Array Bool}(hX:zdH cl (XL listed)){i:Nat}(hi:i∈Region.ready md ops listed):∀j∈cl.getD i [],XL listed j=true:=by
 obtain ⟨_,o,ho,hall⟩:=mem_ready.1 hi;intro j hj;obtain ⟨e,he,hb,h|h⟩:=W.inv ho hj
 ·subst h;exact hall e he (W.sub e hb)
 ·exact hX _ (hall e he (W.sub e hb)) j h
theorem least {p:Nat->Prop}:∀n,p n->∃m,m<=n/\p m/\∀j,j<m->¬ p j:=by
 intro n
 induction n using Nat.strongRecOn with
 | _ n ih =>
  intro hp
  by_cases h:∃j,j<n/\p j
  ·obtain ⟨j,h1,h2⟩:=h;obtain ⟨m,g1,g2,g3⟩:=ih j h1 h2;exact ⟨m,by omega,g2,g3⟩
  ·exact ⟨n,Nat.le_refl _,hp,fun j hj hpj=>h ⟨j,hj,hpj⟩⟩
theorem zqw (W:Waits md ops cl){listed:Array Bool}(hsz:listed.size=ops.size){i0:Nat}(hi0:i0<ops.size)(hl0:listed.getD i0 true=false):∃i,i∈Region.ready md ops listed:=by
 obtain ⟨rk,hrk⟩:=W.rk;obtain ⟨n,_,⟨i,hi,hl,hn⟩,hmin⟩:=least (p:=fun n=>∃i,i<ops.size/\listed.getD i true=false/\rk i=n) (rk i0) ⟨i0,hi0,hl0,rfl⟩;refine ⟨i,mem_ready.2 ⟨hl,ops[i],by simp [hi],fun e he hb=>?_⟩⟩
 obtain ⟨h1,h2⟩:=hrk i ops[i] (by simp [hi]) e he hb
 cases h:listed.getD e.on false with
 | true=>rfl
 | false =>
  exfalso;refine hmin (rk e.on) (by omega) ⟨e.on,h1,?_,rfl⟩
  have hlt:e.on<listed.size:=by omega
  simp only [Array.getD,hlt,dif_pos] at h ⊢;exact h
theorem zhv {listed:Array Bool}{i:Nat}(hi:i<listed.size):XL listed i=listed.getD i true:=by
 simp [XL,hi]
theorem zpx {listed:Array Bool}{i:Nat}(hi:i<listed.size)(k:Nat):XL (listed.setIfInBounds i true) k=(XL listed k||k==i):=by
 unfold XL
 by_cases h:i=k
 ·subst h;simp [hi]
 ·rw [getD_set_ne false h];have:(k==i)=false:=by simp;omega
  rw [this,Bool.or_false]
theorem zzb {P:Program}{Q Q':Exit->Act->World->Prop}(hQ:∀e,e≠.normal->∀a w,Q' e a w->Q e a w){i:Nat}{K:Act->World->Prop}{a:Act}{w:World}(h:wpOp P ops Q' i K a w):wpOp P ops Q i K a w:=by
 have hlo:LetsOut Q'->LetsOut Q:=by
  rintro ⟨a,w,h⟩
  exact ⟨a,w,hQ _ (by simp) a w h⟩
 unfold wpOp at h ⊢;split
 ·rename_i hn;rw [hn] at h;exact h
 ·rename_i o ho;simp only [ho] at h;split
  ·rename_i hw;rw [if_pos hw] at h;rcases h with h|⟨h1,h2⟩
   ·left
    unfold Oper.wp at *;generalize (execOp a.eval o).run P w=r at *;cases r with
    | ok n w' =>
     cases n<;>simp only [Oper.upon] at h ⊢ <;>
      first
       | exact h
       | exact h.mono (fun e w'' he=>by
        cases e with
        | returned v=>exact he
        | panicked c=>exact hQ _ (by simp) _ _ he
        | outgrown=>exact hlo he)
    | halt x w' =>
     cases x<;>simp only [Oper.upon] at h ⊢ <;> first|exact hQ _ (by simp) _ _ h|exact h
   ·exact .inr ⟨h1,hlo h2⟩
  ·rename_i hw;rw [if_neg hw] at h;exact h
theorem zg4 (W:Waits md ops cl){listed:Array Bool}{m:Nat}(hsz:listed.size=ops.size)(hl:∀i,i<ops.size->listed.getD i true=decide (i<m)):zdH cl (XL listed):=by
 intro k hk j hj;have hks:k<ops.size:=by
  rcases Nat.lt_or_ge k listed.size with h|h
  ·omega
  ·simp [XL,Array.getElem?_eq_none h] at hk
 rw [zhv (by omega),hl k hks] at hk
 simp at hk;have:=W.lt k hks j hj;rw [zhv (by omega),hl j (by omega)]
 simp;omega
theorem zAV {P:Program}{Q:Exit->Act->World->Prop}{fuel:Nat}{listed:Array Bool}{a:Act}{w:World}(hl:∀i,i<ops.size->listed.getD i true=true)(h:Q .normal a w):wpAny P md ops Q fuel listed a w:=by
 have hr:Region.ready md ops listed=[]:=by
  refine List.eq_nil_iff_forall_not_mem.2 (fun i hi=>?_);obtain ⟨h0,o,ho,_⟩:=mem_ready.1 hi;have hi:=(Array.getElem?_eq_some_iff.1 ho).1;rw [hl i hi] at h0;cases h0
 cases fuel with
 | zero=>exact ⟨hr,h⟩
 | succ fuel=>exact ⟨fun _=>h,fun i hi=>by rw [hr] at hi;cases hi⟩
theorem zxZ (W:Waits md ops cl){P:Program}{Q:Exit->Act->World->Prop}{fuel m:Nat}{listed:Array Bool}{a:Act}{w:World}(hsz:listed.size=ops.size)(hm:m<ops.size)(hp:Pinned ops.size cl m)(hl:∀i,i<ops.size->listed.getD i true=decide (i<m))(hf:left ops.size listed<=fuel)(h:∀fl l',l'.size=ops.size->(∀i,i<ops.size->l'.getD i true=decide (i<m+1))->left ops.size l'<=fl->fuel=fl+1->l'=listed.setIfInBounds m true->wpOp P ops Q m (wpAny P md ops Q fl l') a w):wpAny P md ops Q fuel listed a w:=by
 have hu:listed.getD m true=false:=by rw [hl m hm];simp
 obtain ⟨i1,hmr⟩:=zqw W hsz hm hu;have hlt:=zpe (listed:=listed) (n:=ops.size) (i:=m) hm hu;obtain ⟨fuel,rfl⟩:∃f,fuel=f+1:=⟨fuel-1,by omega⟩
 refine ⟨fun h=>(by rw [h] at hmr;cases hmr),fun i hi=>?_⟩
 obtain ⟨h0,o,ho,_⟩:=mem_ready.1 hi;have his:=(Array.getElem?_eq_some_iff.1 ho).1;rw [hl i his] at h0;simp only [decide_eq_false_iff_not,Nat.not_lt] at h0;have hieq:i=m:=by
  by_cases hne:i=m
  ·exact hne
  ·exfalso;have:=zoo W (zg4 W hsz hl) hi m (hp.wait i (by omega) his)
   rw [zhv (by omega),hu] at this
   cases this
 subst hieq;refine h fuel _ (by simp [hsz]) (fun k hk=>?_) (by omega) rfl rfl
 by_cases hik:i=k
 ·subst hik;simp [hsz,his]
 ·rw [getD_set_ne true hik,hl k hk]
  congr 1
  simp only [eq_iff_iff];omega
theorem zt9 {a T:Nat}(W:Waits md ops cl)(hTs:T<=ops.size)(hpin:T<ops.size->Pinned ops.size cl T){P:Program}{Q:Exit->Act->World->Prop}{J:(Nat->Bool)->Env->Array Value->World->Prop}(hcongr:∀X Y E ts w,(∀k,a<=k->k<T->X k=Y k)->J X E ts w->J Y E ts w)(hstep:∀X Y i,zdH cl X->a<=i->i<T->X i=false->(∀j∈cl.getD i [],X j=true)->(∀k,Y k=(X k||k==i))->∀E ts w,J X E ts w->∀K:Act->World->Prop,(∀E' ts' w',J Y E' ts' w'->K { tmps:=ts',defers:=[] } w')->wpOp P ops Q i K { tmps:=ts,defers:=[] } w)(htail:∀(fl:Nat) (l':Array Bool) (E':Env) (ts':Array Value) (w':World),l'.size=ops.size->(∀i,i<ops.size->l'.getD i true=decide (i<T))->left ops.size l'<=fl->J (fun _=>true) E' ts' w'->wpAny P md ops Q fl l' { tmps:=ts',defers:=[] } w') :
 ∀(fuel:Nat) (listed:Array Bool) (E:Env) (ts:Array Value) (w:World),listed.size=ops.size->zdH cl (XL listed)->(∀i,i<a->XL listed i=true)->(∀m,T<=m->m<ops.size->XL listed m=false)->left ops.size listed<=fuel ->
  J (XL listed) E ts w->wpAny P md ops Q fuel listed { tmps:=ts,defers:=[] } w
 | fuel,listed,E,ts,w,hsz,hX,hbel,hlow,hf,hS=>by
  by_cases hall:∀i,i<T->XL listed i=true
  ·have hl:∀i,i<ops.size->listed.getD i true=decide (i<T):=by
    intro i hi;rw [<- zhv (by omega)]
    by_cases h:i<T
    ·rw [hall i h];simp [h]
    ·rw [hlow i (by omega) hi];simp [h]
   exact htail fuel listed E ts w hsz hl hf (hcongr _ _ E ts w (fun k _ hk=>hall k hk) hS)
  ·have hex:∃i,i<T/\XL listed i=false:=by
    refine Classical.byContradiction (fun hn=>hall (fun i hi=>?_));cases h:XL listed i with
    | true=>rfl
    | false=>exact absurd ⟨i,hi,h⟩ hn
   obtain ⟨i0,hi0,hi0X⟩:=hex;have hu0:listed.getD i0 true=false:=by rw [<- zhv (by omega)];exact hi0X
   obtain ⟨i1,hmr⟩:=zqw W hsz (by omega) hu0
   have hpos:0<left ops.size listed:=by
    have:=zpe (listed:=listed) (n:=ops.size) (i:=i0) (by omega) hu0
    omega
   obtain ⟨fuel,rfl⟩:∃f,fuel=f+1:=⟨fuel-1,by omega⟩
   refine ⟨fun h=>(by rw [h] at hmr;cases hmr),fun i hi=>?_⟩
   obtain ⟨h0,o,ho,_⟩:=mem_ready.1 hi;have his:=(Array.getElem?_eq_some_iff.1 ho).1;have hiX:XL listed i=false:=by rw [zhv (by omega)];exact h0
   have hw:=zoo W hX hi;have hia:a<=i:=by
    refine Classical.byContradiction (fun hn=>?_);rw [hbel i (by omega)] at hiX
    cases hiX
   have hiT:i<T:=by
    refine Classical.byContradiction (fun hn=>?_);have hp:=hpin (by omega)
    by_cases hiT:i=T
    ·subst hiT;have:=hw i0 (hp.full i0 hi0);rw [hi0X] at this;cases this
    ·have:=hw T (hp.wait i (by omega) his)
     rw [hlow T (Nat.le_refl _) (by omega)] at this
     cases this
   refine hstep _ (XL (listed.setIfInBounds i true)) i hX hia hiT hiX hw (zpx (by omega)) E ts w hS _ (fun E' ts' w' hS'=>?_)
   refine zt9 W hTs hpin hcongr hstep htail fuel (listed.setIfInBounds i true) E' ts' w' (by simp [hsz]) ?_ ?_ ?_ ?_ hS'
   ·intro k hk j hj;rw [zpx (by omega)] at hk ⊢
    by_cases hki:k=i
    ·subst hki;rw [hw j hj];rfl
    ·have:(k==i)=false:=by simp [hki]
     rw [this,Bool.or_false] at hk;rw [hX k hk j hj];rfl
   ·intro k hk;rw [zpx (by omega),hbel k hk];rfl
   ·intro m hm hms;rw [zpx (by omega),hlow m hm hms]
    simp;omega
   ·have:=zpe (listed:=listed) (n:=ops.size) his h0;omega
theorem zAK (hC:CfgOk C)(hH:CtrOk C){a T:Nat}(W:Waits md ops cl)(hT:a+ss.length=T)(hTs:T<=ops.size)(hpin:T<ops.size->Pinned ops.size cl T)(F:Free C ops cl b base a ss st0)(hb:b=false->∀k,a<=k->k<T->zeZ ops k=false)(hd:b=true->Dead st0/\0<st0.ep)(hM:∀k,a<=k->k<T->∀n,Mine (base+32*k) n->¬ U n){Q:Exit->Act->World->Prop}(htail:∀(fl:Nat) (l':Array Bool) (E':Env) (ts':Array Value) (w':World),l'.size=ops.size->(∀i,i<ops.size->l'.getD i true=decide (i<T))->left ops.size l'<=fl ->
 Sim w0 S0 (UX U base a T (fun _=>true)) (zQ ops b (fun _=>true) a ss st0) E' ts' sv w'->wpAny C.P md ops Q fl l' { tmps:=ts',defers:=[] } w') :
 ∀(fuel:Nat) (listed:Array Bool) (E:Env) (ts:Array Value) (w:World),listed.size=ops.size->zdH cl (XL listed)->(∀i,i<a->XL listed i=true)->(∀m,T<=m->m<ops.size->XL listed m=false)->left ops.size listed<=fuel ->
  Sim w0 S0 (UX U base a T (XL listed)) (zQ ops b (XL listed) a ss st0) E ts sv w->wpAny C.P md ops Q fuel listed { tmps:=ts,defers:=[] } w :=
 zt9 (J:=fun X E ts w=>Sim w0 S0 (UX U base a T X) (zQ ops b X a ss st0) E ts sv w) W hTs hpin
  (fun X Y E ts w h hS=>by
   rw [zgm ss a st0 (fun k h1 h2=>h k h1 (by omega))] at hS
   refine hS.uses ?_
   rintro n (h1|⟨k,h0,h1,h2,h3⟩)
   ·exact .inl h1
   ·exact .inr ⟨k,h0,h1,by rw [<- h k h0 h1];exact h2,h3⟩)
  (fun X Y i hX hia hi hXi hr hY E ts w hS K hK=>zsl hC hH hT F hX hia hi hXi hr hb hd hM hY hS hK) htail
theorem get_put {st:St}{d:Nat}{m:MV}{κ:Key}(h:κ≠.tm d):(st.put (some d) m).get κ=st.get κ:=by
 cases κ with
 | tm t =>
  have:d≠t:=fun e=>h (by rw [e])
  simp [St.get,St.put,List.getElem?_set,this]
 | ro n=>rfl
 | lo n=>rfl
theorem zz5 {st st':St}{o:Oper}(hep:st'.ep=st.ep)(htm:∀t∈ziH o,st'.get (.tm t)=st.get (.tm t))(hro:∀n∈(zjO st o).flatMap zS,st'.get (.ro n)=st.get (.ro n))(hlo:∀n∈(zjO st o).flatMap zT,st'.get (.lo n)=st.get (.lo n)):Agree st st' o.op.operands.toList:=by
 refine ⟨hep,fun x hx=>?_,fun x hx m hm a ha=>?_⟩
 ·cases x with
  | tmp t =>
   have ht:t∈ziH o:=by
    unfold ziH;exact List.mem_filterMap.2 ⟨_,hx,rfl⟩
   simp only [St.opnd,zpP (htm t ht)]
  | _=>rfl
 ·have hA:a∈zjO st o:=by
   unfold zjO;exact List.mem_flatMap.2 ⟨m,List.mem_filterMap.2 ⟨x,hx,hm⟩,ha⟩
  exact ⟨fun n hn=>zpO (hro n (List.mem_flatMap.2 ⟨a,hA,hn⟩)),fun n hn=>zpN (hlo n (List.mem_flatMap.2 ⟨a,hA,hn⟩))⟩
theorem zwi {st st':St}{o:Oper}(h:Agree st st' o.op.operands.toList):zgi C st' o=zgi C st o:=by
 cases hop:o.op with
 | call c =>
  rw [hop] at h;have hp:∀x∈c.args.toList,x∈(Op.call c).operands.toList:=fun x hx=>by simp only [Op.operands,Call.operands,Array.toList_append,List.mem_append];exact .inr hx
  simp only [zgi,hop];cases hd:o.dst with
  | none=>rfl
  | some d =>
   cases hg:o.guard with
   | some g=>rfl
   | none =>
    simp only;cases hcb:c.callee with
    | builtin b =>
     cases b with
     | append =>
      simp only;split
      ·rename_i x y T T2 hca hct;have hx:=hp x (by rw [hca];simp)
       have hy:=hp y (by rw [hca];simp)
       rw [h.at hx,h.at hy];split
       ·cases hT:C.sty T with
        | none=>rfl
        | some t =>
         cases e:st.at x with
         | none=>rfl
         | some a =>
          cases a with
          | sl r p =>
           cases p with
           | nil=>rfl
           | cons ij p =>
            cases e2:st.at y with
            | none=>rfl
            | some b =>
             cases b with
             | sl r2 p2=>simp only [h.root (zbS hx e),h.node (zbS hx e),h.node (zbS hy e2)]
             | _=>rfl
          | _=>rfl
       ·rfl
      ·rfl
     | _=>rfl
    | _=>rfl
 | _=>simp only [zgi,hop]
theorem zqv (hC:CfgOk C)(hS:Sim w0 S0 U st E ts sv w){o:Oper}{id:Nat}{d:Dl}(hp:zk6 o=true)(h:delta C st o id=some d)(hc:d.c=true):o.guard=none/\zhu C U st E ts w o d:=by
 unfold zk6 at hp;simp only [Bool.and_eq_true,Option.isNone_iff_eq_none] at hp;obtain ⟨hg,hp⟩:=hp;refine ⟨hg,?_⟩;cases hop:o.op
 case move x =>
  rw [hop] at hp;cases x with
  | tmp t =>
   simp only [delta,hop] at h;split at h
   ·rename_i v hv;cases h;exact zzH hS (.inl hop) hv
   ·cases h
  | _=>simp at hp
 case load T x=>exact zzG hC hS hop h
 case fieldAddr T x f=>exact zom hC hS hop h
 case indexAddr T x y=>exact zon hC hS hop h hc
 case nilCheck x=>exact zqu hS hop h
 all_goals (rw [hop] at hp;simp at hp)
theorem pure_run {o:Oper}{i:Nat}{d:Dl}{v:Value}{Q:Exit->Act->World->Prop}{K:Act->World->Prop}(ho:ops[i]?=some o)(hg:o.guard=none)(hr:(execOp ({ tmps:=ts,defers:=[] }:Act).eval o).run C.P w = .ok (.value v) w1)(h:K { tmps:=(({ tmps:=ts,defers:=[] }:Act).put o.dst v).tmps,defers:=[] } w1):wpOp C.P ops Q i K { tmps:=ts,defers:=[] } w:=by
 unfold wpOp;simp only [ho];rw [if_pos (by simp [Region.wanted,hg])]
 left
 unfold Oper.wp;rw [hr,Oper.upon_value,zdm];exact h
theorem zvM {d t:Nat}{v u:Value}(h:ts[t]?=some u)(hne:d≠t):(({ tmps:=ts,defers:=[] }:Act).put (some d) v).tmps[t]?=some u:=by
 simp [Act.put,Array.getElem?_setIfInBounds_ne hne,h]
theorem zAP (hC:CfgOk C)(hH:CtrOk C){a A:Nat}(W:Waits md ops cl)(hA:a+ss.length=A)(hTs:A+1<=ops.size)(hpin:A+1<ops.size->Pinned ops.size cl (A+1))(F:Free C ops cl b base a ss st0)(hb:b=false->∀k,a<=k->k<A->zeZ ops k=false)(hbt:b=true)(hd:b=true->Dead st0/\0<st0.ep)(hM:∀k,a<=k->k<A->∀n,Mine (base+32*k) n->¬ U n){oA:Oper}{x:App}(hoA:ops[A]?=some oA)(hap:zgi C (zQ ops b (fun _=>true) a ss st0) oA=some (true,x))(hlo:zuD ops cl a A=true)(hlen:x.dst<(zQ ops b (fun _=>true) a ss st0).tm.length)(hfoot:∀i s o f,ss[i]?=some s->ops[a+i]?=some o->At1 C ops base (a+i) o (zQ ops b (fun j=>decide (j<a+i)) a ss st0) f s->a+i∉cl.getD A []->f.apart (zcp (zQ ops b (fun _=>true) a ss st0) ops oA znF)=true){Q:Exit->Act->World->Prop}(htail:∀(fl:Nat) (l':Array Bool) (E':Env) (ts':Array Value) (w':World) (v:Value),l'.size=ops.size->(∀i,i<ops.size->l'.getD i true=decide (i<A+1))->left ops.size l'<=fl->ts'[x.dst]?=some v ->
 Sim w0 S0 (UX U base a A (fun _=>true)) ((zQ ops b (fun _=>true) a ss st0).put oA.dst (.v (.at .bad))) E' ts' sv w'->Late w0 ((zQ ops b (fun _=>true) a ss st0).put oA.dst (.v (.at .bad))) E' x v w'->wpAny C.P md ops Q fl l' { tmps:=ts',defers:=[] } w')(fuel:Nat)(listed:Array Bool)(E:Env)(ts:Array Value)(w:World)(hsz:listed.size=ops.size)(hX:zdH cl (XL listed))(hbel:∀i,i<a->XL listed i=true)(hlow:∀m,A<=m->m<ops.size->XL listed m=false)(hf:left ops.size listed<=fuel)(hS:Sim w0 S0 (UX U base a A (XL listed)) (zQ ops b (XL listed) a ss st0) E ts sv w):wpAny C.P md ops Q fuel listed { tmps:=ts,defers:=[] } w:=by
 have hdst:oA.dst=some x.dst/\oA.guard=none:=by
  unfold zgi at hap;split at hap
  ·rename_i c d ho hdst hgu;refine ⟨?_,hgu⟩;rw [hdst]
   congr 1
   repeat' (first|(split at hap)|(cases hap))
   all_goals first|rfl|(simp only [Option.some.injEq,Prod.mk.injEq] at hap;obtain ⟨_,rfl⟩:=hap;rfl)
  ·cases hap
 have huses:∀{X Y:Nat->Bool} {i:Nat},(∀k,Y k=(X k||k==i))->∀n,UX U base a A X n->UX U base a A Y n:=by
  intro X Y i hY n h;rcases h with h|⟨k,h0,h1,h2,h3⟩
  ·exact .inl h
  ·exact .inr ⟨k,h0,h1,by rw [hY,h2];rfl,h3⟩
 have hfA:∀{X:Nat->Bool} (κ:Key),(∀j∈cl.getD A [],X j=true)->(zcp (zQ ops b (fun _=>true) a ss st0) ops oA znF).reads κ->(zQ ops b X a ss st0).get κ=(zQ ops b (fun _=>true) a ss st0).get κ:=by
  intro X κ hr hκ;refine zgl ss a st0 st0 rfl rfl (fun k s' o' hk ho' hne hw=>?_);obtain ⟨o2,f',ho2,h2⟩:=F.at1 k s' hk;rw [ho'] at ho2;cases ho2;have hXk:X (a+k)=false:=by
   cases h:X (a+k) with
   | false=>rfl
   | true=>exact absurd h hne
  have hn:a+k∉cl.getD A []:=fun h=>by rw [hr _ h] at hXk;cases hXk
  exact ((apart_spec (hfoot k s' o' f' hk ho' h2 hn)).1 κ ((zmU h2 κ).1 hw)).1 hκ
 refine zt9 (T:=A+1) (J:=fun X E ts w=>(X A=false->Sim w0 S0 (UX U base a A X) (zQ ops b X a ss st0) E ts sv w) /\
  (X A=true->∃v,ts[x.dst]?=some v/\Sim w0 S0 (UX U base a A X) ((zQ ops b X a ss st0).put oA.dst (.v (.at .bad))) E ts sv w/\Late w0 (zQ ops b X a ss st0) E x v w)) W hTs hpin ?_ ?_ ?_
  fuel listed E ts w hsz hX hbel (fun m h1 h2=>hlow m (by omega) h2) hf ⟨fun _=>hS,fun h=>(by rw [hlow A (Nat.le_refl _) (by omega)] at h;cases h)⟩
 ·intro X Y E ts w h hJ;have hXA:X A=Y A:=h A (by omega) (by omega)
  have e:=zgm (ops:=ops) (b:=b) ss a st0 (X:=X) (Y:=Y) (fun k h1 h2=>h k h1 (by omega))
  have hu:∀n,UX U base a A X n->UX U base a A Y n:=by
   rintro n (h1|⟨k,h0,h1,h2,h3⟩)
   ·exact .inl h1
   ·exact .inr ⟨k,h0,h1,by rw [<- h k h0 (by omega)];exact h2,h3⟩
  refine ⟨fun hYA=>?_,fun hYA=>?_⟩
  ·have:=hJ.1 (hXA.trans hYA);rw [e] at this;exact this.uses hu
  ·obtain ⟨v,h1,h2,h3⟩:=hJ.2 (hXA.trans hYA);rw [e] at h2 h3;exact ⟨v,h1,h2.uses hu,h3⟩
 ·intro X Y i hX hia hi hXi hr hY E ts w hJ K hK
  by_cases hiA:i=A
  ·subst hiA;have hSX:=hJ.1 hXi;have hYX:zQ ops b Y a ss st0=zQ ops b X a ss st0:=zgm ss a st0 (fun k h1 h2=>by
    rw [hY];have:(k==i)=false:=by simp;omega
    rw [this,Bool.or_false])
   have hag:Agree (zQ ops b (fun _=>true) a ss st0) (zQ ops b X a ss st0) oA.op.operands.toList :=
    zz5 (by rw [zcO,zcO]) (fun t ht=>hfA (.tm t) hr (by simp only [Foot.reads,zcp];exact List.mem_append_left _ ht)) (fun n hn=>hfA (.ro n) hr hn) (fun n hn=>hfA (.lo n) hr hn)
   have hapX:=zwi (C:=C) hag;rw [hap] at hapX;have hdX:Dead (zQ ops b X a ss st0):=by
    subst hbt;exact zlZ ss a st0 (hd rfl).1 (hd rfl).2
   obtain ⟨hg,hdA,v,w',hrun,hS',hL⟩:=zAQ hC hSX hdX hapX;refine pure_run (d:=znF) hoA hg hrun (hK E _ w' ⟨fun h=>(by rw [hY] at h;simp at h),fun _=>⟨v,?_,?_,?_⟩⟩)
   ·rw [hdA];have hlt:x.dst<ts.size:=by
     rw [hSX.tm.1,zeV];rw [zeV] at hlen;exact hlen
    simp [Act.put,hlt]
   ·rw [hYX];exact hS'.uses (huses hY)
   ·rw [hYX];exact hL
  ·have hiA':i<A:=by omega
   have hYA:Y A=X A:=by
    rw [hY];have:(A==i)=false:=by simp;omega
    rw [this,Bool.or_false]
   cases hXA:X A with
   | false =>
    refine zsl hC hH hA F hX hia hiA' hXi hr hb hd hM hY (hJ.1 hXA) (fun E' ts' w' hS'=>hK E' ts' w' ⟨fun _=>hS',fun h=>(by rw [hYA,hXA] at h;cases h)⟩)
   | true =>
    obtain ⟨v,hv,hSX,hL⟩:=hJ.2 hXA;obtain ⟨j,rfl⟩:∃j,i=a+j:=⟨i-a,by omega⟩
    obtain ⟨s,hs⟩:∃s,ss[j]?=some s:=⟨_,List.getElem?_eq_getElem (by omega)⟩
    obtain ⟨o,f,ho,h1,h2⟩:=zpM F hX hs hXi hr;have hnA:a+j∉cl.getD A []:=fun h=>by rw [hX A hXA _ h] at hXi;cases hXi
    have hpo:zk6 o=true:=by
     have:=List.all_eq_true.1 hlo (a+j) (by simp;omega)
     simp only [ho,Bool.or_eq_true,List.contains_eq_mem,decide_eq_true_eq] at this;rcases this with h|h
     ·exact absurd h hnA
     ·exact h
    have hapf:=apart_spec (hfoot j s o f hs ho h1 hnA);have hwA:(zcp (zQ ops b (fun _=>true) a ss st0) ops oA znF).writes (.tm x.dst):=by simp only [Foot.writes,zcp];exact hdst.1
    have hne:∀κ,f.reads κ->κ≠.tm x.dst:=fun κ hκ e=>hapf.2 (.tm x.dst) hwA (e ▸ hκ);have hdne:o.dst≠some x.dst:=fun e=>(hapf.1 (.tm x.dst) ((zmU h1 (.tm x.dst)).1 (by cases s<;>exact e))).2 hwA
    have hep:∀Z,(zQ ops b Z a ss st0).ep=st0.ep:=fun Z=>zcO ss a st0;have hdoes:=zua (S':=(zQ ops b X a ss st0).put oA.dst (.v (.at .bad))) h1 (by rw [hep,hdst.1];exact hep X) (fun κ hκ=>by rw [hdst.1,get_put (hne κ hκ)];exact h2 κ hκ)
    have hg0:o.guard=none:=by
     unfold zk6 at hpo;simp only [Bool.and_eq_true,Option.isNone_iff_eq_none] at hpo;exact hpo.1
    cases s with
    | none =>
     exfalso;have:zbF ops o ((zQ ops b X a ss st0).put oA.dst (.v (.at .bad)))=some false:=hdoes;simp [zbF,hg0] at this
    | some d =>
     obtain ⟨_,d2,d3⟩:=hdoes;obtain ⟨_,v2,hrun,hvm,hids,e1,e2,e3⟩:=zqv hC hSX hpo d2 d3;have hput:∀κ,(zQ ops b Y a ss st0).get κ=((zQ ops b X a ss st0).put o.dst d.v).get κ:=by
      intro κ;rw [zux F hX hs ho hXi hY κ];simp only [St.step,St.effD,e1,e2,List.map_nil,List.nil_append]
     have hS2:Sim w0 S0 (UX U base a A X) (((zQ ops b X a ss st0).put oA.dst (.v (.at .bad))).put o.dst d.v) E (({ tmps:=ts,defers:=[] }:Act).put o.dst v2).tmps sv w:=hSX.putV hvm hids;refine pure_run (d:=d) ho hg0 hrun (hK E _ w ⟨fun h=>(by rw [hYA,hXA] at h;cases h),fun _=>⟨v,?_,?_,?_⟩⟩)
     ·cases hod:o.dst with
      | none=>exact hv
      | some t=>exact zvM hv (fun e=>hdne (by rw [hod,e]))
     ·refine (hS2.same (fun κ=>?_) ?_ ?_).uses (huses hY)
      ·rw [hdst.1];cases κ with
       | tm t =>
        have hk:=hput (.tm t);have hl1:(zQ ops b Y a ss st0).tm.length=(zQ ops b X a ss st0).tm.length:=by rw [zeV,zeV]
        by_cases ht:t=x.dst
        ·subst ht;cases hod:o.dst with
         | none=>simp [St.get,St.put,List.getElem?_set,hl1]
         | some t' =>
          have:t'≠x.dst:=fun e=>hdne (by rw [hod,e])
          simp [St.get,St.put,List.getElem?_set,hl1,this]
        ·have hne':x.dst≠t:=fun e=>ht e.symm;rw [get_put (by simpa using ht),hk]
         cases hod:o.dst with
         | none=>simp [St.get,St.put,List.getElem?_set,hne']
         | some t' =>
          simp only [St.get,St.put,List.getElem?_set,List.length_set];split
          ·rfl
          ·first|rfl|rw [if_neg hne']
       | ro n =>
        have hk:=hput (.ro n);rw [get_put (by simp),hk]
        cases o.dst<;>rfl
       | lo n =>
        have hk:=hput (.lo n);rw [get_put (by simp),hk]
        cases o.dst<;>rfl
      ·rw [hdst.1];have h1:(zQ ops b Y a ss st0).stk=(zQ ops b X a ss st0).stk:=by rw [zgK,zgK]
       cases o.dst<;>exact h1
      ·rw [hdst.1];have h1:(zQ ops b Y a ss st0).ep=(zQ ops b X a ss st0).ep:=by rw [zcO,zcO]
       cases o.dst<;>exact h1
     ·have hro:∀n,zf (zQ ops b Y a ss st0).ro n=zf (zQ ops b X a ss st0).ro n:=fun n=>by
       rw [zpO (hput (.ro n))];cases o.dst<;>rfl
      have hlo':∀n,zf (zQ ops b Y a ss st0).lo n=zf (zQ ops b X a ss st0).lo n:=fun n=>by
       rw [zpN (hput (.lo n))];cases o.dst<;>rfl
      exact hL.states (fun n=>by
       unfold St.root;rw [hro n,hep Y,hep X]) hlo'
 ·intro fl l' E' ts' w' hsz' hl' hf' hJ;obtain ⟨v,h1,h2,h3⟩:=hJ.2 rfl;refine htail fl l' E' ts' w' v hsz' hl' hf' h1 h2 (h3.states (fun n=>?_) (fun n=>?_))
  ·rw [hdst.1];rfl
  ·rw [hdst.1];rfl
def VV (U:Nat->Prop)(base size m n:Nat):Prop:=U n\/(base<=n/\n<base+32*m)\/base+32*size<=n
theorem zk1 (hC:CfgOk C)(W:Waits md ops cl){x:App}{kk:Nat->List Bool->St->Option Ans}{ans:Ans}{Q:Exit->Act->World->Prop}(hkk:∀(m':Nat) (r':List Bool) (U':Nat->Prop) (st':St) (E':Env) (ts':Array Value) (w':World) (fl:Nat) (l':Array Bool),r'=(zcS ops.size cl).drop m'->m'<=ops.size->l'.size=ops.size->(∀i,i<ops.size->l'.getD i true=decide (i<m'))->left ops.size l'<=fl ->
 Sim w0 S0 U' st' E' ts' sv w'->(∀n,U' n->VV U base ops.size m' n)->(∀n,st'.nid<=n->¬ U' n)->base+32*ops.size<=st'.nid->kk m' r' st'=some ans->wpAny C.P md ops Q fl l' { tmps:=ts',defers:=[] } w') :
 ∀(pins:List Bool) (m:Nat) (V:Nat->Prop) (st:St) (E:Env) (ts:Array Value) (w:World) (fuel:Nat) (listed:Array Bool) (v:Value),pins=(zcS ops.size cl).drop m->m<=ops.size->listed.size=ops.size->(∀i,i<ops.size->listed.getD i true=decide (i<m))->left ops.size listed<=fuel ->
  Sim w0 S0 V st E ts sv w->(∀n,V n->VV U base ops.size m n)->(∀n,st.nid<=n->¬ V n)->base+32*ops.size<=st.nid->ts[x.dst]?=some v->Late w0 st E x v w->zfW C ops base x kk pins m st=some ans->wpAny C.P md ops Q fuel listed { tmps:=ts,defers:=[] } w
 | [],m,V,st,E,ts,w,fuel,listed,v,_,_,_,_,_,_,_,_,_,_,_,h=>by simp [zfW] at h
 | false :: r,m,V,st,E,ts,w,fuel,listed,v,_,_,_,_,_,_,_,_,_,_,_,h=>by simp [zfW] at h
 | true :: r,m,V,st,E,ts,w,fuel,listed,v,hp,hm,hsz,hl,hf,hS,hV,hF,hn,hv,hL,h=>by
  simp only [zfW] at h;obtain ⟨hms,hpin,hr⟩:=zgT hp;have hV1:∀n,V n->VV U base ops.size (m+1) n:=by
   rintro n hn'
   rcases hV n hn' with h|⟨h1,h2⟩|h
   ·exact .inl h
   ·exact .inr (.inl ⟨h1,by omega⟩)
   ·exact .inr (.inr h)
  refine zxZ W hsz hms (zkh hpin.symm) hl hf (fun fl l' hsz' hl' hf' _ _=>?_);split at h
  ·cases h
  ·rename_i o ho;split at h
   ·rename_i c st2 hst;cases hc:c with
    | false=>rw [hc] at h;cases h
    | true =>
     rw [hc] at h hst;simp only [cond_true,znw] at h;obtain ⟨hg,hgo,hnid⟩:=zyA (id:=base+32*m) hC hS hL hv hst;unfold wpOp;simp only [ho];rw [if_pos (by simp [Region.wanted,hg])]
     refine .inl (hgo _ _ (fun E' v' w' hS'=>?_));rw [zdm];refine hkk (m+1) r _ _ E' _ w' fl l' hr (by omega) hsz' hl' hf' hS' ?_ ?_ (by rw [zcg];omega) h
     ·rintro n (h|⟨h1,h2⟩)
      ·exact hV1 n h
      ·exact .inr (.inl ⟨by omega,by omega⟩)
     ·rintro n hn' (h|⟨h1,h2⟩)
      ·exact hF n (by rw [zcg] at hn';omega) h
      ·rw [zcg] at hn';omega
   ·split at h
    ·rename_i hcond;simp only [Bool.and_eq_true,Bool.not_eq_true',beq_eq_false_iff_ne] at hcond;split at h
     ·rename_i d hd;cases hc:d.c with
      | false=>rw [hc] at h;cases h
      | true =>
       rw [hc] at h;simp only [cond_true] at h;obtain ⟨hg,v2,hrun,hvm,hids,e1,e2,e3⟩:=zqv hC hS hcond.1 hd hc;have he:st.apply o.dst d=st.put o.dst d.v:=by simp [St.apply,e1,e2,e3]
       rw [he] at h;refine pure_run (d:=d) ho hg hrun ?_;refine zk1 hC W hkk r (m+1) V _ E _ w fl l' v hr (by omega) hsz' hl' hf' (hS.putV hvm hids) hV1 (by rw [zcg];exact hF) (by rw [zcg];exact hn) ?_ (hL.states (fun n=>?_) (fun n=>?_)) h
       ·cases hod:o.dst with
        | none=>exact hv
        | some t=>exact zvM hv (fun e=>hcond.2 (by rw [hod,e]))
       ·cases o.dst<;>rfl
       ·cases o.dst<;>rfl
     ·cases h
    ·cases h
theorem zeB (hC:CfgOk C)(hH:CtrOk C)(hG:GraftOk C)(hN:NameOk C){call:zcC}(hcall:zh9 C call)(W:Waits md ops cl){k:St->Option Ans}{ans:Ans}{Q:Exit->Act->World->Prop}(hU0:∀n,base<=n->¬ U n)(hk:∀(U':Nat->Prop) (st':St) (E':Env) (ts':Array Value) (w':World),Sim w0 S0 U' st' E' ts' sv w'->(∀n,U' n->VV U base ops.size ops.size n)->base+32*ops.size<=st'.nid->(∀n,st'.nid<=n->¬ U' n)->k st'=some ans->Q .normal { tmps:=ts',defers:=[] } w') :
 ∀(fs m:Nat) (pins:List Bool) (V:Nat->Prop) (st:St) (E:Env) (ts:Array Value) (w:World) (fuel:Nat) (listed:Array Bool),pins=(zcS ops.size cl).drop m->m<=ops.size->listed.size=ops.size->(∀i,i<ops.size->listed.getD i true=decide (i<m))->left ops.size listed<=fuel ->
  Sim w0 S0 V st E ts sv w->(∀n,V n->VV U base ops.size m n)->(∀n,st.nid<=n->¬ V n)->base+32*ops.size<=st.nid->zea C call ops cl base k fs m pins st=some ans->wpAny C.P md ops Q fuel listed { tmps:=ts,defers:=[] } w
 | 0,m,pins,V,st,E,ts,w,fuel,listed,_,_,_,_,_,_,_,_,_,h=>by simp [zea] at h
 | fs+1,m,[],V,st,E,ts,w,fuel,listed,hp,hm,hsz,hl,hf,hS,hV,hF,hn,h=>by
  simp only [zea] at h;have hms:=zvK hp;have e:m=ops.size:=by omega
  subst e;exact zAV (fun i hi=>by rw [hl i hi];simp [hi]) (hk V st E ts w hS hV hn hF h)
 | fs+1,m,true :: r,V,st,E,ts,w,fuel,listed,hp,hm,hsz,hl,hf,hS,hV,hF,hn,h=>by
  simp only [zea] at h;obtain ⟨hms,hpin,hr⟩:=zgT hp;refine zxZ W hsz hms (zkh hpin.symm) hl hf (fun fl l' hsz' hl' hf' _ _=>?_)
  let Q':Exit->Act->World->Prop:=fun e a w=>match e with
   | .normal=>wpAny C.P md ops Q fl l' a w
   | e=>Q e a w
  have hQ:∀e,e≠Exit.normal->∀a w,Q' e a w->Q e a w:=by
   intro e he a w h;cases e<;>first|exact absurd rfl he|exact h
  refine zzb hQ ?_;have key:=zfb (Q:=Q') hC hH hG hN hcall (ops:=ops) (base:=base) (V:=VV U base ops.size (m+1)) (nid0:=base+32*ops.size) (fun n hn'=>.inr (.inr hn'))
   (fun U' st' E' ts' w' hS' hU' hn' hF' h'=>zeB hC hH hG hN hcall W hU0 hk fs (m+1) r U' st' E' ts' w' fl l' hr (by omega) hsz' hl' hf' hS' hU' hF' hn' h')
   [m] V st E ts w hS ?_ hF ?_ (by simp) hn ?_ h
  ·rw [wpOps_cons] at key;exact wpOp_mono (fun a w h=>h) key
  ·rintro n hn'
   rcases hV n hn' with h|⟨h1,h2⟩|h
   ·exact .inl h
   ·exact .inr (.inl ⟨h1,by omega⟩)
   ·exact .inr (.inr h)
  ·intro j hj n hmn;simp only [List.mem_singleton] at hj;subst hj;obtain ⟨g1,g2⟩:=hmn;refine ⟨fun hn'=>?_,.inr (.inl ⟨by omega,by omega⟩)⟩
   rcases hV n hn' with h|⟨h1,h2⟩|h
   ·exact hU0 n (by omega) h
   ·omega
   ·omega
  ·intro j hj;simp only [List.mem_singleton] at hj;subst hj;omega
 | fs+1,m,false :: r,V,st,E,ts,w,fuel,listed,hp,hm,hsz,hl,hf,hS,hV,hF,hn,h=>by
  simp only [zea] at h;obtain ⟨hms,_,hr⟩:=zgT hp;obtain ⟨hfr1,hfr2,hfr3⟩:=zsu r (m+1) (by omega) hr
  generalize hb0:(List.range' m (zbm r+1)).any (zeZ ops)=b at h;have hS0':Sim w0 S0 V { st with ep:=if b then st.ep+1 else st.ep } E ts sv w:=hS.blind b st.nid
  have hnid0:({ st with ep:=if b then st.ep+1 else st.ep }:St).nid=st.nid:=rfl
  have hd':b=true->Dead ({ st with ep:=if b then st.ep+1 else st.ep }:St)/\0<({ st with ep:=if b then st.ep+1 else st.ep }:St).ep:=by
   intro hb;subst hb;refine ⟨fun n R e hR he=>?_,by simp⟩
   have:=hS.mem.epo n R e hR he;simp only [if_true];omega
  have hb':b=false->∀k,m<=k->k<m+1+zbm r->zeZ ops k=false:=by
   intro hb k hk1 hk2;rw [hb] at hb0;have:=List.any_eq_false.1 hb0 k (by simp;omega)
   simpa using this
  have hM:∀k,m<=k->k<m+1+zbm r->∀n,Mine (base+32*k) n->¬ V n:=by
   intro k h1 h2 n hn' hv;have g1:=hn'.1;have g2:=hn'.2;rcases hV n hv with h|⟨h3,h4⟩|h
   ·exact hU0 n (by omega) h
   ·omega
   ·omega
  have hoff:∀(ss:List Step) (st0:St),zQ ops b (XL listed) m ss st0=st0:=fun ss st0=>zjA ss m st0 (fun k hk=>by
   rcases Nat.lt_or_ge k ops.size with h|h
   ·rw [zhv (by omega),hl k h];simp;omega
   ·simp [XL,Array.getElem?_eq_none (show listed.size<=k by omega)])
  have hVX:∀{T:Nat},T<=m+(zbm r+1)->∀n,UX V base m T (fun _=>true) n->VV U base ops.size (m+(zbm r+1)) n:=by
   rintro T hT n (h|⟨k,h0,h1,_,h3⟩)
   ·rcases hV n h with h|⟨h1,h2⟩|h
    ·exact .inl h
    ·exact .inr (.inl ⟨h1,by omega⟩)
    ·exact .inr (.inr h)
   ·have g1:=h3.1;have g2:=h3.2;exact .inr (.inl ⟨by omega,by omega⟩)
  have hFX:∀{T:Nat},T<=m+(zbm r+1)->∀n,st.nid<=n->¬ UX V base m T (fun _=>true) n:=by
   rintro T hT n hn' (h|⟨k,h0,h1,_,h3⟩)
   ·exact hF n (by omega) h
   ·have:=h3.2;omega
  have hmk:∀{gs:List (Nat×Foot)} {ss:List Step} {st0 st':St},(∀x∈gs,∀y∈gs,(¬ x.1<y.1\/x.1∈cl.getD y.1 [])\/x.2.apart y.2=true)->Trace C ops b base m ss gs st0 st'->Free C ops cl b base m ss st0:=by
   intro gs ss st0 st' hok htr;have hat:=zwa htr;refine ⟨fun i s hs=>?_,fun i k s s' o o' f f' hs hs' ho ho' h1 h2 hik hni=>?_⟩
   ·obtain ⟨o,f,g1,g2,g3⟩:=hat i s hs;exact ⟨o,f,g1,g3⟩
   ·obtain ⟨o1,f1,g1,g2,g3⟩:=hat i s hs;obtain ⟨o2,f2,e1,e2,e3⟩:=hat k s' hs';rw [ho] at g1;cases g1;rw [ho'] at e1;cases e1;have hf1:=zoA h1 g3;have hf2:=zoA h2 e3;subst hf1 hf2;rcases hok _ g2 _ e2 with (h|h)|h
    ·exact absurd (by show m+i<m+k;omega) h
    ·exact absurd h hni
    ·exact h
  have hbelow:∀i,i<m->XL listed i=true:=fun i hi=>by rw [zhv (by omega),hl i (by omega)];simp [hi]
  have habove:∀k,m<=k->k<ops.size->XL listed k=false:=fun k h1 h2=>by rw [zhv (by omega),hl k h2];simp;omega
  rcases zg1 (zbm r+1) m [] _ h with ⟨ss,gs,st',hlen,htr,hok,hden⟩|⟨ss,gs,st',oA,x,hlen,htr,hoA,hap,hbt,hlo,hxl,hok,hden⟩
  ·rw [List.append_nil] at hok;unfold zhZ at hok;simp only [Bool.not_eq_true',List.all_eq_true,Bool.or_eq_true,decide_eq_false_iff_not,List.contains_eq_mem,decide_eq_true_eq,List.mem_reverse] at hok;generalize hst0:({ st with ep:=if b then st.ep+1 else st.ep }:St)=st0 at htr hS0' hnid0 hd'
   have hfin:st'=zQ ops b (fun _=>true) m ss st0:=zsy htr;refine zAK (w0:=w0) (S0:=S0) (sv:=sv) hC hH W (T:=m+1+zbm r) (by omega) hfr1 hfr3 (hmk hok htr) hb' hd' hM (fun fl l' E' ts' w' hsz' hl' hf' hS'=>?_) fuel listed E ts w hsz (zg4 W hsz hl) hbelow (fun k h1 h2=>habove k (by omega) h2) hf ?_
   ·rw [<- hfin] at hS';have hnid':st'.nid=st.nid:=by rw [hfin,zm3,hnid0]
    exact zeB hC hH hG hN hcall W hU0 hk fs (m+(zbm r+1)) (r.drop (zbm r)) _ st' E' ts' w' fl l' (by rw [hfr2];congr 1;omega) (by omega) hsz' (fun i hi=>by rw [hl' i hi];congr 1;simp only [eq_iff_iff];omega) hf' hS' (hVX (by omega)) (by rw [hnid'];exact hFX (by omega)) (by omega) hden
   ·rw [hoff];exact hS0'.uses (fun n h=>.inl h)
  ·rw [List.append_nil] at hok;unfold zhZ at hok;simp only [Bool.not_eq_true',List.all_eq_true,Bool.or_eq_true,decide_eq_false_iff_not,List.contains_eq_mem,decide_eq_true_eq,List.mem_cons,List.mem_reverse] at hok;generalize hst0:({ st with ep:=if b then st.ep+1 else st.ep }:St)=st0 at htr hS0' hnid0 hd'
   have hfin:st'=zQ ops b (fun _=>true) m ss st0:=zsy htr;subst hfin;have hA:m+ss.length=m+zbm r:=by omega
   rw [hA] at hoA hlo hok;have hat:=zwa htr;refine zAP (w0:=w0) (S0:=S0) (sv:=sv) hC hH W hA (by omega) (fun h=>by
    have e:m+zbm r+1=m+1+zbm r:=by omega
    rw [e] at h ⊢;exact hfr3 h) (hmk (fun x hx y hy=>hok x (.inr hx) y (.inr hy)) htr) (fun hb k h1 h2=>hb' hb k h1 (by omega)) hbt hd' (fun k h1 h2=>hM k h1 (by omega)) hoA hap hlo hxl (fun i s o f hs ho h1 hni=>?_)
    (fun fl l' E' ts' w' v hsz' hl' hf' hv hS' hL=>?_) fuel listed E ts w hsz (zg4 W hsz hl) hbelow (fun k h1 h2=>habove k (by omega) h2) hf ?_
   ·obtain ⟨o1,f1,g1,g2,g3⟩:=hat i s hs;rw [ho] at g1;cases g1;have hf1:=zoA h1 g3;subst hf1;have hi:i<ss.length:=(List.getElem?_eq_some_iff.1 hs).1;rcases hok _ (.inr g2) _ (.inl rfl) with (h|h)|h
    ·exact absurd (by show m+i<m+zbm r;omega) h
    ·exact absurd h hni
    ·exact h
   ·have hnid':((zQ ops b (fun _=>true) m ss st0).put oA.dst (.v (.at .bad))).nid=st.nid:=by rw [zcg,zm3,hnid0]
    exact zk1 hC W (fun m' r' U' st'' E'' ts'' w'' fl' l'' h1 h2 h3 h4 h5 h6 h7 h8 h9 h10=>zeB hC hH hG hN hcall W hU0 hk fs m' r' U' st'' E'' ts'' w'' fl' l'' h1 h2 h3 h4 h5 h6 h7 h8 h9 h10)
     (r.drop (zbm r)) (m+(zbm r+1)) _ _ E' ts' w' fl l' v (by rw [hfr2];congr 1;omega) (by omega) hsz' (fun i hi=>by rw [hl' i hi];congr 1) hf' hS' (hVX (by omega)) (by rw [hnid'];exact hFX (by omega)) (by omega) hv hL hden
   ·rw [hoff];exact hS0'.uses (fun n h=>.inl h)
theorem zCa (hC:CfgOk C)(hH:CtrOk C)(hG:GraftOk C)(hN:NameOk C):DrawOk C:=by
 refine ⟨fun call hcall ops k ans Q w0 S0 sv U0 nid0 U st E ts w hk hS hU hF hn h t=>?_⟩;unfold zoO at h;simp only at h;generalize hcl:zc1 ops (List.range ops.size) []=cl at h;split at h
 case isFalse=>cases h
 rename_i hok;unfold zzk at hok;simp only [Bool.and_eq_true,List.all_eq_true,List.mem_range,decide_eq_true_eq] at hok;obtain ⟨hdep,hlt⟩:=hok;have hatc:∀i,i<ops.size->cl.getD i []=waits ops (cl.take i) i:=fun i hi=>by rw [<- hcl];exact zyf hi
 have hord:∀(md:Region.Mode) (rk:Nat->Nat),zrV md ops rk=true->∃rk:Nat->Nat,∀(i:Nat) (o:Oper),ops[i]?=some o->∀e∈o.after,Region.binds md e=true->e.on<ops.size/\rk e.on<rk i:=by
  intro md rk h;refine ⟨rk,fun i o ho e he hb=>?_⟩;have:=List.all_eq_true.1 h i (List.mem_range.2 (Array.getElem?_eq_some_iff.1 ho).1);rw [ho] at this;have:=List.all_eq_true.1 this e (by simpa using he)
  simpa [hb] using this
 have mkW:∀(md:Region.Mode),(∀e,Region.binds .any e=true->Region.binds md e=true)->(∃rk:Nat->Nat,∀(i:Nat) (o:Oper),ops[i]?=some o->∀e∈o.after,Region.binds md e=true->e.on<ops.size/\rk e.on<rk i)->Waits md ops cl :=
  fun md h1 h2=>⟨hatc,hlt,h1,h2⟩
 have hsubT:∀e,Region.binds .any e=true->Region.binds .text e=true:=fun e h=>by
  unfold Region.binds at *;cases hg:e.ground<;>rw [hg] at h<;>simp at h ⊢
 have hsubG:∀e,Region.binds .any e=true->Region.binds .gc e=true:=fun e h=>by
  unfold Region.binds at *;cases hg:e.ground<;>rw [hg] at h<;>simp at h ⊢
 have hmodes:∃md t',Region.schedule (C.P.follows .mixedOrders) ops t=Region.linearise md ops t'/\Waits md ops cl:=by
  have anyW:Waits .any ops cl:=mkW .any (fun _ h=>h) ⟨fun i=>i,fun i o ho e he hb=>by
   have h1:=zCb hatc ho he hb;have hi:=(Array.getElem?_eq_some_iff.1 ho).1;have h2:=hlt i hi _ h1;exact ⟨by omega,h2⟩⟩
  unfold Region.schedule
  by_cases hm:(C.P.follows .mixedOrders || !Region.departs ops)=true
  ·rw [if_pos hm];exact ⟨.any,t,rfl,anyW⟩
  ·rw [if_neg hm];have hd:Region.departs ops=true:=by
    cases h:Region.departs ops with
    | true=>rfl
    | false=>rw [h] at hm;simp at hm
   rw [hd,cond_true,Bool.and_eq_true] at hdep
   by_cases ht:(t % 2==0)=true
   ·rw [if_pos ht];exact ⟨.text,t / 2,rfl,mkW .text hsubT (hord .text _ hdep.1)⟩
   ·rw [if_neg ht];exact ⟨.gc,t / 2,rfl,mkW .gc hsubG (hord .gc _ hdep.2)⟩
 obtain ⟨md,t',hsch,W⟩:=hmodes;rw [hsch];refine wpAny_sound ops.size t' _ _ _ ?_;have hS1:Sim w0 S0 U { st with nid:=st.nid+32*ops.size } E ts sv { w with drawn:=w.drawn+1 }:=(hS.nid _).heap (w':={ w with drawn:=w.drawn+1 }) rfl rfl rfl rfl;refine zeB hC hH hG hN hcall W hF (fun U' st' E' ts' w' hS' hU' hn' hF' h'=>hk U' st' E' ts' w' hS' ?_ (by omega) hF' h') (ops.size+1) 0 (zcS ops.size cl) U _ E ts _ ops.size _ rfl (by omega) (by simp) (fun i hi=>by simp [hi]) ?_ hS1 (fun n h=>.inl h) ?_ (Nat.le_refl _) h
 ·intro n h;rcases hU' n h with h|⟨h1,_⟩|h
  ·exact hU n h
  ·exact .inr (by omega)
  ·exact .inr (by omega)
 ·unfold left;exact Nat.le_trans (List.countP_le_length) (by simp)
 ·intro n hn' h;exact hF n (Nat.le_trans (Nat.le_add_right _ _) hn') h
end
section
variable {P:Program}
def zwf:Value->CTy->Bool
 | .int k n,.i k'=>k==k'&&n==0
 | .bool b,.b=>!b
 | .slice none 0 0,.s _=>true
 | _,_=>false
def zmp:List Value->List CTy->Bool
 | [],[]=>true
 | v :: vs,t :: ts=>zwf v t&&zmp vs ts
 | _,_=>false
theorem zz2 {v:Value}{t:CTy}(h:zwf v t=true):v=zeroV t:=by
 unfold zwf at h;split at h
 ·simp only [Bool.and_eq_true,beq_iff_eq] at h;obtain ⟨rfl,rfl⟩:=h;rfl
 ·simp only [Bool.not_eq_true'] at h;subst h;rfl
 ·rfl
 ·cases h
theorem zoy:∀{vs:List Value} {ts:List CTy},zmp vs ts=true->vs=ts.map zeroV
 | [],[],_=>rfl
 | v :: vs,t :: ts,h=>by
  simp only [zmp,Bool.and_eq_true] at h;rw [List.map_cons,zz2 h.1,zoy h.2]
 | [],_ :: _,h=>by cases h
 | _ :: _,[],h=>by cases h
def zne (P:Program)(T:TypeId)(tys:List CTy):Bool :=
 match P.info? T with
 | some i=>i.size==tys.length&&(match i.zero with
  | some z=>zmp z.cells.toList tys
  | none=>false)
 | none=>false
theorem znf {T:TypeId}{tys:List CTy}(h:zne P T tys=true):∃i z,P.info? T=some i/\i.size=tys.length/\i.zero=some z/\z.cells.toList=tys.map zeroV:=by
 unfold zne at h;split at h
 ·rename_i i hi;simp only [Bool.and_eq_true,beq_iff_eq] at h;obtain ⟨h1,h2⟩:=h;split at h2
  ·rename_i z hz;exact ⟨i,z,hi,h1,hz,zoy h2⟩
  ·cases h2
 ·cases h
def zfa (P:Program)(T:TypeId):Bool :=
 (match zbp P 4 T with
  | some (agg,tys)=>zne P T tys&&(!agg||(match P.underlying T with
   | some (.struct fs)=>(fs.toList.mapM (fun f=>(P.info? f.type).map fun i=>(f.offset,i.size))).isSome
   | _=>false))
  | none=>true) &&
 (match P.underlying T with
  | some (.slice e)=>match zf zt6 e with
   | some t=>zne P e t.shape&&(match P.info? e with
    | some i=>decide (i.bytes<=1024)
    | none=>false)&&(match zbp P 4 e with
    | some (_,tys)=>decide (tys=t.shape)
    | none=>false)
   | none=>true
  | _=>true)
def zjz (P:Program):List Field->Nat->List CTy->Bool
 | [],_,[]=>true
 | f :: fs,off,ty :: tys=>f.name != "_" && f.offset==off&&(match P.underlying f.type,ty with
  | some (.int k),.i k'=>k==k'
  | some .bool,.b=>true
  | _,_=>false)&&zjz P fs (off+1) tys
 | _,_,_=>false
def ztL (P:Program)(T:TypeId):Bool :=
 match zbp P 4 T with
 | some (true,tys)=>!P.stoodInHeld T && !P.eqGuardType P.depth T&&(match P.underlying T with
  | some (.struct fs)=>zjz P fs.toList 0 tys
  | _=>false)
 | _=>true
theorem ztK {n:Nat}{T:TypeId}{agg:Bool}{tys:List CTy}(h:zbp P n T=some (agg,tys)) :
 (∃d,P.underlying T=some d/\zuB d=agg/\(∀k,tys=[.i k]->agg=false->d = .int k)/\(tys=[.b]->agg=false->d = .bool))/\(agg=false->tys.length=1):=by
 cases n with
 | zero=>cases h
 | succ n =>
  simp only [zbp] at h;split at h
  ·rename_i k hu;cases h;exact ⟨⟨_,hu,rfl,fun k' h _=>by simp only [List.cons.injEq,CTy.i.injEq,and_true] at h;rw [h],fun h=>by simp at h⟩,fun _=>rfl⟩
  ·rename_i hu;cases h;exact ⟨⟨_,hu,rfl,fun k' h=>by simp at h,fun _ _=>rfl⟩,fun _=>rfl⟩
  ·rename_i e hu;split at h
   ·cases h;exact ⟨⟨_,hu,rfl,fun k' h=>by simp at h,fun h=>by simp at h⟩,fun _=>rfl⟩
   ·cases h
  ·rename_i fs hu;split at h
   ·cases h;exact ⟨⟨_,hu,rfl,fun k' _ h=>(by cases h),fun _ h=>(by cases h)⟩,fun h=>by cases h⟩
   ·cases h
  ·cases h
theorem zpz {α:Type}{T:Nat}{x:Option α}{y:α}(h:below T x=some y):T<zcu/\x=some y:=by
 unfold below at h;cases hb:Nat.blt T zcu with
 | false=>rw [hb] at h;cases h
 | true =>
  rw [hb] at h;exact ⟨by rwa [Nat.blt_eq] at hb,h⟩
theorem mapM_at {α β:Type}{g:α->Option β}:∀{l:List α} {m:List β},l.mapM g=some m->∀{k:Nat} {x:α},l[k]?=some x->m[k]?=g x
 | [],m,h,k,x,hx=>by simp at hx
 | a :: l,m,h,k,x,hx=>by
  simp only [List.mapM_cons,Option.bind_eq_bind,Option.bind_eq_some_iff,Option.pure_def,Option.some.injEq] at h;obtain ⟨b,hb,m',hm',rfl⟩:=h;cases k with
  | zero =>
   simp only [List.getElem?_cons_zero,Option.some.injEq] at hx;subst hx;rw [hb];rfl
  | succ k=>exact mapM_at hm' (by simpa using hx)
theorem zcK {α β:Type}{f:α->Option β}{a:α}{l:List α}{bs:List β}(h:zbE f (a :: l)=some bs):∃b bs',f a=some b/\zbE f l=some bs'/\bs=b :: bs':=by
 simp only [zbE] at h;split at h
 ·rename_i b hb;split at h
  ·rename_i bs' hbs;cases h;exact ⟨b,bs',hb,hbs,rfl⟩
  ·cases h
 ·cases h
theorem zod (w:World)(d:Nat)(xs ys:Array Value):∀(fs:List Field) (off:Nat) (tys:List CTy) (l m:List At) (e:Bool),zjz P fs off tys=true->zbE ze8 l=some tys->zbE ze8 m=some tys->zjw l m=some e ->
 xs.size=off+l.length->ys.size=off+m.length->(∀(j:Nat) (a:At) (u:Value),l[j]?=some a->xs[off+j]?=some u->VS a u)->(∀(j:Nat) (a:At) (u:Value),m[j]?=some a->ys[off+j]?=some u->VS a u) ->
 (Op.eqFields (d+1) xs ys fs).run P w = .ok e w
 | [],off,tys,l,m,e,hf,hl,hm,he,_,_,_,_=>by
  cases tys with
  | cons t ts=>cases hf
  | nil =>
   cases l with
   | cons a l=>obtain ⟨_,_,_,_,h⟩:=zcK hl;cases h
   | nil =>
    cases m with
    | cons a m=>obtain ⟨_,_,_,_,h⟩:=zcK hm;cases h
    | nil=>cases he;simp [Op.eqFields]
 | f :: fs,off,tys,l,m,e,hf,hl,hm,he,hsx,hsy,hx,hy=>by
  cases tys with
  | nil=>cases hf
  | cons ty tys =>
   cases l with
   | nil=>cases hl
   | cons a l =>
    cases m with
    | nil=>cases hm
    | cons c m =>
     obtain ⟨ta,tys',ha,hl',h⟩:=zcK hl;cases h;obtain ⟨tc,tys'',hc,hm',h⟩:=zcK hm;cases h;simp only [zjz,Bool.and_eq_true,bne_iff_ne,ne_eq,beq_iff_eq] at hf;obtain ⟨⟨⟨hn,hoff⟩,hk⟩,hrest⟩:=hf;have hxo:xs[off]?=some (xs[off]'(by simp only [List.length_cons] at hsx;omega)):=by simp
     have hyo:ys[off]?=some (ys[off]'(by simp only [List.length_cons] at hsy;omega)):=by simp
     have hvx:=hx 0 a _ rfl hxo;have hvy:=hy 0 c _ rfl hyo;have hstep:∃e0,zue a c=some e0/\(part f.type xs f.offset).run P w = .ok (xs[off]'(by simp only [List.length_cons] at hsx;omega)) w/\(part f.type ys f.offset).run P w = .ok (ys[off]'(by simp only [List.length_cons] at hsy;omega)) w /\
      (Op.equalIn (d+1) f.type (xs[off]'(by simp only [List.length_cons] at hsx;omega)) (ys[off]'(by simp only [List.length_cons] at hsy;omega))).run P w = .ok e0 w:=by
      rw [hoff];cases a with
      | i k n =>
       simp only [ze8,Option.some.injEq] at ha;subst ha;cases c with
       | i k' n' =>
        simp only [ze8,Option.some.injEq,CTy.i.injEq] at hc;subst hc;cases hu:P.underlying f.type with
        | none=>rw [hu] at hk;cases hk
        | some D =>
         rw [hu] at hk;cases D<;>first|(cases hk;done)|skip
         refine ⟨ieq n n',by simp [zue],by simp [part,isAgg,run_underlying hu,hxo],by simp [part,isAgg,run_underlying hu,hyo],?_⟩
         rw [show xs[off]'(by simp only [List.length_cons] at hsx;omega) = .int k' n from hvx,show ys[off]'(by simp only [List.length_cons] at hsy;omega) = .int k' n' from hvy]
         exact run_equalIn_int w d f.type k' _ n n' hu
       | b _=>simp [ze8] at hc
       | _=>simp [ze8] at hc
      | b x =>
       simp only [ze8,Option.some.injEq] at ha;subst ha;cases c with
       | b x' =>
        cases hu:P.underlying f.type with
        | none=>rw [hu] at hk;cases hk
        | some D =>
         rw [hu] at hk;cases D<;>first|(cases hk;done)|skip
         refine ⟨ze9 x x',by simp [zue],by simp [part,isAgg,run_underlying hu,hxo],by simp [part,isAgg,run_underlying hu,hyo],?_⟩
         rw [show xs[off]'(by simp only [List.length_cons] at hsx;omega) = .bool x from hvx,show ys[off]'(by simp only [List.length_cons] at hsy;omega) = .bool x' from hvy]
         exact run_equalIn_bool' w d f.type x x' hu
       | i _ _=>simp [ze8] at hc
       | _=>simp [ze8] at hc
      | _=>simp [ze8] at ha
     obtain ⟨e0,he0,hp1,hp2,heq⟩:=hstep;have hcomb:∃e1,zjw l m=some e1/\e=(e0&&e1):=by
      cases l with
      | nil =>
       cases hl';cases m with
       | nil =>
        simp only [zjw,he0,Option.some.injEq] at he;exact ⟨true,rfl,by rw [<- he];simp⟩
       | cons c2 m=>obtain ⟨_,_,_,_,h⟩:=zcK hm';cases h
      | cons a2 l =>
       cases m with
       | nil=>cases hm';obtain ⟨_,_,_,_,h⟩:=zcK hl';cases h
       | cons c2 m =>
        simp only [zjw,he0] at he;split at he
        ·rename_i x y h1 h2;cases h1;cases he;exact ⟨y,by simpa [zjw] using h2,rfl⟩
        ·cases he
     obtain ⟨e1,he1,rfl⟩:=hcomb;have ih:=zod w d xs ys fs (off+1) tys l m e1 hrest hl' hm' he1 (by simp only [List.length_cons] at hsx;omega) (by simp only [List.length_cons] at hsy;omega)
      (fun j a' u h1 h2=>hx (j+1) a' u (by simpa using h1) (by rw [<- h2];congr 1;omega)) (fun j a' u h1 h2=>hy (j+1) a' u (by simpa using h1) (by rw [<- h2];congr 1;omega))
     simp only [Op.eqFields,ne_eq,hn,not_false_eq_true,if_true,Sem.run_bind,hp1,hp2,Result.andThen_ok,heq,Sem.run_ite,ih];cases e0<;>simp
theorem zz8 {C:Cfg}(hP:C.P=P)(hs:∀T,C.sty T=below T (zjR P T))(hc:∀T,C.cty T=below T (zbp P 4 T))(hf:∀T f,C.fof T f=zit P T f)(hchk:(List.range zcu).all (zfa P)=true)(heq:∀T,C.eqt T=true->T<zcu->ztL P T=true):CfgOk C:=by
 subst hP;have chk:∀T,T<zcu->zfa C.P T=true:=fun T hT=>List.all_eq_true.1 hchk T (List.mem_range.2 hT);have hcty:∀T agg tys,C.cty T=some (agg,tys)->T<zcu/\zbp C.P 4 T=some (agg,tys):=fun T agg tys h=>zpz (by rw [<- hc];exact h)
 refine ⟨fun T agg tys h=>?_,fun T t h=>?_,fun T f off n h=>?_,fun T tys h=>?_,fun T tys he h l m e xs ys w x y op hl hm hq hxs hys=>?_⟩
 ·obtain ⟨hT,h⟩:=hcty T agg tys h;obtain ⟨h1,h2⟩:=ztK h;have:=chk T hT;unfold zfa at this;rw [h] at this;simp only [Bool.and_eq_true] at this;exact ⟨h1,znf this.1.1,h2⟩
 ·rw [hs] at h;obtain ⟨hT,h⟩:=zpz h;unfold zjR at h;split at h
  ·rename_i e hu;have:=chk T hT;unfold zfa at this;rw [hu] at this;simp only [h,Bool.and_eq_true] at this;obtain ⟨_,⟨h1,h2⟩,_⟩:=this;obtain ⟨i,z,g1,g2,g3,g4⟩:=znf h1;rw [g1] at h2;exact ⟨e,hu,i,z,g1,by rw [g2,zbW],g3,g4,by simpa using h2⟩
  ·cases h
 ·rw [hf] at h;unfold zit at h;split at h
  ·rename_i fs hu;split at h
   ·rename_i x hx;split at h
    ·rename_i i hi;split at h
     ·cases h
     ·rename_i hne;cases h;exact ⟨fs,x,i,hu,hx,rfl,hi,rfl,hne⟩
    ·cases h
   ·cases h
  ·cases h
 ·obtain ⟨hT,h⟩:=hcty T true tys h;have:=chk T hT;unfold zfa at this;rw [h] at this;simp only [Bool.and_eq_true,Bool.or_eq_true,Bool.not_true,Bool.false_eq_true,false_or] at this;obtain ⟨⟨_,h2⟩,_⟩:=this;split at h2
  ·rename_i fs hu;obtain ⟨places,hp⟩:=Option.isSome_iff_exists.1 h2;refine ⟨fs,places,hu,hp,fun f off n hfo=>?_⟩;rw [hf] at hfo;unfold zit at hfo;rw [hu] at hfo;simp only at hfo;split at hfo
   ·rename_i x hx;split at hfo
    ·rename_i i hi;split at hfo
     ·cases hfo
     ·cases hfo;rw [mapM_at hp (by simpa using hx),hi]
      rfl
    ·cases hfo
   ·cases hfo
  ·cases h2
 ·obtain ⟨hT,h⟩:=hcty T true tys h;have:=heq T he hT;unfold ztL at this;rw [h] at this;simp only [Bool.and_eq_true,Bool.not_eq_true'] at this;obtain ⟨⟨h1,h2⟩,h3⟩:=this;split at h3
  ·rename_i fs hu;have hfe:C.P.fieldsOf T=fs:=by simp [Program.fieldsOf,hu]
   refine ⟨run_eqGuard_agg w op T x y xs ys h2,?_⟩
   show (Op.equalIn (9999+1) T (.agg xs) (.agg ys)).run C.P w=_
   rw [run_equalIn_struct w 9999 T xs ys (by rw [hfe];exact hu) h1,hfe]
   exact zod w 9998 xs ys fs.toList 0 tys l m e h3 hl hm hq (by rw [hxs.1];omega) (by rw [hys.1];omega) (fun j a u h1 h2=>hxs.2 j a u h1 (by simpa using h2)) (fun j a u h1 h2=>hys.2 j a u h1 (by simpa using h2))
  ·cases h3
end
inductive CVOk:CV->Prop
 | i (k:IntKind) (n:Int) (h:k.min<=n/\n<=k.max):CVOk (.i k n)
 | b (x:Bool):CVOk (.b x)
 | s (t:Ty) (l:List t.den) (hl:l.length<=big) (h:∀(i:Nat) (x:t.den),l[i]?=some x->∀(j:Nat) (c:CV),(t.cells x)[j]?=some c->CVOk c):CVOk (.s t l)
section
variable {P:Program}
def zk5 (P:Program)(tot:Nat):List Field->Nat->Bool
 | [],off=>off==tot
 | f :: fs,off=>f.offset==off&&Nat.blt f.type zcu&&zk5 P tot fs (off+P.cellsOf f.type)
def zlS (P:Program)(T:TypeId):Bool :=
 match P.underlying T with
 | some (.struct fs)=>match zbp P 4 T with
  | some _=>zk5 P (P.cellsOf T) fs.toList 0
  | none=>true
 | some (.slice e)=>match zf zt6 e with
  | some _=>Nat.blt e zcu&&Nat.ble 1 (P.bytesOf e)
  | none=>true
 | _=>true
theorem zol {α β:Type}{f g:α->Option β}(hfg:∀x y,f x=some y->g x=some y):∀{l:List α} {bs:List β},zbE f l=some bs->zbE g l=some bs
 | [],_,h=>h
 | a :: l,bs,h=>by
  obtain ⟨b,bs',h1,h2,rfl⟩:=zcK h;simp only [zbE,hfg a b h1,zol hfg h2]
theorem zlc:∀{n:Nat} {T:TypeId} {x:Bool×List CTy},zbp P n T=some x->zbp P (n+1) T=some x
 | 0,_,_,h=>by cases h
 | n+1,T,x,h=>by
  rw [zbp] at h;rw [zbp];split at h
  ·exact h
  ·exact h
  ·exact h
  ·rename_i fs hu;split at h
   ·rename_i l hl;rw [zol (f:=_) (g:=_) ?_ hl]
    ·exact h
    ·intro f y hy;split at hy
     ·rename_i z hz;cases hy;rw [zlc hz]
     ·cases hy
   ·cases h
  ·cases h
theorem zwj {T:TypeId}{tys:List CTy}(h:zne P T tys=true):P.cellsOf T=tys.length:=by
 obtain ⟨i,z,h1,h2,_⟩:=znf h;simp [Program.cellsOf,h1,h2]
theorem zA8 {k:IntKind}{n:Int}(h:(Lit.int k n).wf=true):k.min<=n/\n<=k.max:=by
 simpa [Lit.wf] using h
theorem all_append {l m:List Nat}(h:(l++m).all (·<=reachBytes)=true):l.all (·<=reachBytes)=true/\m.all (·<=reachBytes)=true:=by
 simpa [List.all_append] using h
theorem zmt {H:Type}{e:TypeId}:∀{l:List (DataW H)},(DataW.weightsAll P e l).all (·<=reachBytes)=true->∀{i:Nat} {d:DataW H},l[i]?=some d->(d.weights P e).all (·<=reachBytes)=true
 | [],_,i,d,h=>by simp at h
 | x :: l,hw,i,d,h=>by
  simp only [DataW.weightsAll] at hw;obtain ⟨h1,h2⟩:=all_append hw;cases i with
  | zero=>simp at h;subst h;exact h1
  | succ i=>exact zmt h2 (by simpa using h)
def Opened (W:World)(cs:List Value)(tys:List CTy):Prop :=
 ∃cvs:List CV,cvs.map CV.ty=tys/\cs.length=cvs.length/\∀(j:Nat) (c:CV) (u:Value),cvs[j]?=some c->cs[j]?=some u->Rep false W u c (fun b=>b<W.heap.size)/\CVOk c
theorem Opened.append {W:World}{cs ds:List Value}{t1 t2:List CTy}(h1:Opened W cs t1)(h2:Opened W ds t2):Opened W (cs++ds) (t1++t2):=by
 obtain ⟨c1,a1,b1,d1⟩:=h1;obtain ⟨c2,a2,b2,d2⟩:=h2;refine ⟨c1++c2,by simp [a1,a2],by simp [b1,b2],fun j c u hc hu=>?_⟩
 by_cases hj:j<c1.length
 ·rw [List.getElem?_append_left hj] at hc;rw [List.getElem?_append_left (by omega)] at hu
  exact d1 j c u hc hu
 ·rw [List.getElem?_append_right (by omega)] at hc
  rw [List.getElem?_append_right (by omega)] at hu
  exact d2 _ c u hc (by rw [<- b1];exact hu)
theorem zpC {α:Type}:∀(n:Nat) (p:Nat->α->Prop),(∀i,i<n->∃x,p i x)->∃l:List α,l.length=n/\∀i x,l[i]?=some x->p i x
 | 0,p,_=>⟨[],rfl,fun i x h=>by simp at h⟩
 | n+1,p,h=>by
  obtain ⟨x,hx⟩:=h 0 (by omega)
  obtain ⟨l,h1,h2⟩:=zpC n (fun i=>p (i+1)) (fun i hi=>h (i+1) (by omega))
  refine ⟨x :: l,by simp [h1],fun i y hy=>?_⟩
  cases i with
  | zero=>simp at hy;subst hy;exact hx
  | succ i=>exact h2 i y (by simpa using hy)
theorem cells?_get {W:World}{a:Addr}{n:Nat}{cs:List Value}(h:W.cells? 0 a n=some cs):cs.length=n/\∀i,i<n->W.cell? (a.add i)=cs[i]?:=by
 unfold World.cells? at h;rw [if_pos (Nat.zero_le _)] at h;refine ⟨by simpa using mapM_some_length h,fun i hi=>mapM_some_get h i i (by simp [hi])⟩
theorem addr_add (a:Addr)(h:a.spot=none)(n m:Nat):(a.add n).add m=⟨a.block,a.off+n+m,none⟩:=by
 obtain ⟨b,o,s⟩:=a;simp only at h;subst h;rw [add_lit,add_lit]
theorem zyX (hchk:∀T,T<zcu->zfa P T=true/\zlS P T=true){H:Type}{enc:TypeId×Value->H}{W:World} :
 ∀(fuel:Nat) (T:TypeId) (cs:List Value) (x:DataW H×List MemPlace),T<zcu->∀(agg:Bool) (tys:List CTy),zbp P 4 T=some (agg,tys) ->
  DataW.trod enc P W 0 (fun _=>true) true fuel T cs=some x->(x.1.weights P T).all (·<=reachBytes)=true->Opened W cs tys:=by
 intro fuel
 induction fuel using Nat.strongRecOn with
 | _ fuel ih =>
  intro T cs x hT agg tys hty hx hw;obtain ⟨hc1,hc2⟩:=hchk T hT;have hty0:=hty;rw [zbp] at hty;split at hty
  ·rename_i k hu;cases hty;obtain ⟨n,rfl,rfl,hwf⟩:=DataW.trod_int hu hx;refine ⟨[.i k n],rfl,rfl,fun j c u hc hu'=>?_⟩;cases j with
   | zero=>simp at hc hu';subst hc hu';exact ⟨.i k n _,.i k n (zA8 hwf)⟩
   | succ j=>simp at hc
  ·rename_i hu;cases hty;obtain ⟨b,rfl,rfl⟩:=DataW.trod_bool hu hx;refine ⟨[.b b],rfl,rfl,fun j c u hc hu'=>?_⟩;cases j with
   | zero=>simp at hc hu';subst hc hu';exact ⟨.b b _,.b b⟩
   | succ j=>simp at hc
  ·rename_i e hu;split at hty
   ·rename_i t het;cases hty;have fin:∀(v:Value) (l:List t.den),Rep false W v (.s t l) (fun b=>b<W.heap.size)->CVOk (.s t l)->Opened W [v] [.s t]:=by
     intro v l h1 h2;refine ⟨[.s t l],rfl,rfl,fun j c u hc hu'=>?_⟩;cases j with
     | zero=>simp at hc hu';subst hc hu';exact ⟨h1,h2⟩
     | succ j=>simp at hc
    have empty:CVOk (.s t []):=.s t [] (Nat.zero_le _) (fun i x h=>by simp at h)
    rcases DataW.trod_slice hu hx with ⟨rfl,rfl⟩|⟨a,len,cap,elems,rest,n,rfl,rfl,rfl,_,hlc,hcm,hel,hget,hsp,_⟩
    ·exact fin _ [] (.nil t _) empty
    ·obtain ⟨hrl,hrget⟩:=hsp rfl
     by_cases hcap:cap=0
     ·subst hcap;have hl0:len=0:=by omega
      subst hl0;exact fin _ [] (.void t a _ rfl) empty
     ·unfold zfa at hc1;rw [hu] at hc1;simp only [het,Bool.and_eq_true] at hc1;obtain ⟨_,⟨hinfo,_⟩,hec⟩:=hc1;unfold zlS at hc2;rw [hu] at hc2;simp only [het,Bool.and_eq_true,Nat.blt_eq,Nat.ble_eq] at hc2;obtain ⟨he,hby⟩:=hc2;have hce:P.cellsOf e=t.width:=by rw [zwj hinfo,zbW]
      have hwpos:0<t.width:=by cases t<;>simp [Ty.width]
      rw [hce] at hget hrget
      have helem:∀i,i<cap->∃cs',W.cells? 0 (a.add (i*t.width)) t.width=some cs'/\(i<len->∃y,DataW.trod enc P W 0 (fun _=>true) true n e cs'=some y/\elems[i]?=some y):=by
       intro i hi
       by_cases hil:i<len
       ·have h1:=hget i hil;rw [List.getElem?_eq_getElem (by omega)] at h1
        obtain ⟨cs',h2,h3⟩:=Option.bind_eq_some_iff.1 h1;exact ⟨cs',h2,fun _=>⟨_,h3,List.getElem?_eq_getElem (by omega)⟩⟩
       ·have h1:=hrget (i-len) (by omega)
        rw [List.getElem?_eq_getElem (by omega)] at h1
        obtain ⟨cs',h2,h3⟩:=Option.bind_eq_some_iff.1 h1;have e1:len+(i-len)=i:=by omega
        rw [e1] at h2;exact ⟨cs',h2,fun h=>absurd h hil⟩
      have hcell:∀i j,i<cap->j<t.width->∃v,W.cell? ((a.add (i*t.width)).add j)=some v:=by
       intro i j hi hj;obtain ⟨cs',h1,_⟩:=helem i hi;obtain ⟨h2,h3⟩:=cells?_get h1;exact ⟨_,(h3 j hj).trans (List.getElem?_eq_getElem (by omega))⟩
      obtain ⟨v0,hv0⟩:=hcell 0 0 (by omega) hwpos
      have hadd0:(a.add (0*t.width)).add 0=a:=by simp [Addr.add]
      rw [hadd0] at hv0;obtain ⟨arr,et,fz,hb,hspot⟩:∃arr et fz,W.heap[a.block]?=some (.cells arr et fz)/\a.spot=none:=by
       unfold World.cell? at hv0;split at hv0
       ·rename_i c et fz hb;split at hv0
        ·cases hv0
        ·rename_i hs;exact ⟨c,et,fz,hb,by simpa using hs⟩
       ·cases hv0
      have hcarr:∀i j,W.cell? ((a.add (i*t.width)).add j)=arr[a.off+i*t.width+j]?:=by
       intro i j;rw [addr_add a hspot,cell_of_block hb]
      have hsize:a.off+cap*t.width<=arr.size:=by
       obtain ⟨v,hv⟩:=hcell (cap-1) (t.width-1) (by omega) (by omega)
       rw [hcarr] at hv;have:=(Array.getElem?_eq_some_iff.1 hv).1;have h1:(cap-1)*t.width+t.width=cap*t.width:=by
        rw [<- Nat.succ_mul];congr 1;omega
       omega
      have hwl:((DataW.slice (elems.map (·.1)) (rest.map (·.1))).weights P T).all (·<=reachBytes)=true:=hw;simp only [DataW.weights,hu,List.all_cons,Bool.and_eq_true,decide_eq_true_eq,List.length_map] at hwl;obtain ⟨hbytes,hwe⟩:=hwl;obtain ⟨hwe,_⟩:=all_append hwe;have hlen:len<=big:=by
       have h1:(elems.length+rest.length)*1<=(elems.length+rest.length)*P.bytesOf e:=Nat.mul_le_mul_left _ hby;have:reachBytes<=big:=by decide
       omega
      split at hec
      ·rename_i agg' tys' hte;simp only [decide_eq_true_eq] at hec;subst hec
       have hex:∀i,i<len->∃y:t.den,∀(j:Nat) (c:CV) (u:Value),(t.cells y)[j]?=some c->arr[a.off+i*t.width+j]?=some u->Rep false W u c (fun b=>b<W.heap.size)/\CVOk c:=by
        intro i hi;obtain ⟨cs',h1,h2⟩:=helem i (by omega)
        obtain ⟨y,h3,h4⟩:=h2 hi;obtain ⟨cvs,g1,g2,g3⟩:=ih n (by omega) e cs' y he agg' t.shape hte h3 (zmt hwe (by rw [List.getElem?_map,h4];rfl))
        obtain ⟨z,hz⟩:=zqs g1;refine ⟨z,fun j c u hc hu'=>g3 j c u ?_ ?_⟩
        ·rw [<- zeE hz];exact hc
        ·obtain ⟨k1,k2⟩:=cells?_get h1;have hj:j<t.width:=by have:=(List.getElem?_eq_some_iff.1 hc).1;rwa [zbB] at this
         rw [<- k2 j hj,hcarr];exact hu'
       obtain ⟨l,hl1,hl2⟩:=zpC len _ hex;have hvv:∀i j,i<l.length->j<t.width->arr[a.off+i*t.width+j]?=some ((arr[a.off+i*t.width+j]?).getD undef):=by
        intro i j hi hj;have h1:(i+1)*t.width<=cap*t.width:=Nat.mul_le_mul_right _ (by omega)
        rw [Nat.succ_mul] at h1;have:a.off+i*t.width+j<arr.size:=by omega
        simp [this]
       have hrep:Rep false W (.slice (some ⟨a.block,a.off,none⟩) l.length cap) (.s t l) (fun b=>b<W.heap.size):=by
        refine .sl t l a.block a.off cap arr et fz (fun i j=>(arr[a.off+i*t.width+j]?).getD undef) (fun _ _ b=>b<W.heap.size) _ hb (fun h=>by cases h) (by omega) (by omega) hsize ?_ (fun i j x _ _ hx=>⟨hx,fun h=>by cases h⟩) (fun h=>by cases h) hvv ?_
        ·exact (Array.getElem?_eq_some_iff.1 hb).1
        ·intro i z hz j c hc;have hi:i<l.length:=(List.getElem?_eq_some_iff.1 hz).1;have hj:j<t.width:=by have:=(List.getElem?_eq_some_iff.1 hc).1;rwa [zbB] at this
         exact (hl2 i z hz j c _ hc (hvv i j hi hj)).1
       have ha:a=⟨a.block,a.off,none⟩:=by
        obtain ⟨b,o,s⟩:=a;simp only at hspot;subst hspot;rfl
       rw [hl1,<- ha] at hrep;refine fin _ l hrep (.s t l (by omega) (fun i z hz j c hc=>?_))
       have hi:i<l.length:=(List.getElem?_eq_some_iff.1 hz).1;have hj:j<t.width:=by have:=(List.getElem?_eq_some_iff.1 hc).1;rwa [zbB] at this
       exact (hl2 i z hz j c _ hc (hvv i j hi hj)).2
      ·cases hec
   ·cases hty
  ·rename_i fs hu;split at hty
   ·rename_i l hl;cases hty;obtain ⟨xs,n,rfl,rfl,hcl,hxl,hfld⟩:=DataW.trod_struct hu hx;unfold zlS at hc2;rw [hu,hty0] at hc2;simp only at hc2;have hww:(DataW.weightsEach P (fs.toList.map (·.type)) (xs.map (·.1))).all (·<=reachBytes)=true:=by
     have:((DataW.agg (xs.map (·.1))).weights P T).all (·<=reachBytes)=true:=hw;simpa only [DataW.weights,hu] using this
    have key:∀(gs:List Field) (ys:List (DataW H×List MemPlace)) (ls:List (List CTy)) (off:Nat),zk5 P (P.cellsOf T) gs off=true->gs.length=ys.length ->
     (∀(i:Nat) (f:Field),gs[i]?=some f->DataW.trod enc P W 0 (fun _=>true) true n f.type ((cs.drop f.offset).take (P.cellsOf f.type))=ys[i]?) ->
     zbE (fun (f:Field)=>match zbp P 3 f.type with|some x=>some x.2|none=>none) gs=some ls->(DataW.weightsEach P (gs.map (·.type)) (ys.map (·.1))).all (·<=reachBytes)=true ->
     off<=P.cellsOf T/\Opened W (cs.drop off) ls.flatten:=by
     intro gs
     induction gs with
     | nil =>
      intro ys ls off ho _ _ hls _;cases hls;simp only [zk5,beq_iff_eq] at ho;subst ho;refine ⟨Nat.le_refl _,[],rfl,by simp [hcl],fun j c u h=>by simp at h⟩
     | cons f gs ihg =>
      intro ys ls off ho hlen hf hls hwt;obtain ⟨b,ls',hb1,hb2,rfl⟩:=zcK hls;cases ys with
      | nil=>simp at hlen
      | cons y ys =>
       simp only [zk5,Bool.and_eq_true,beq_iff_eq,Nat.blt_eq] at ho;obtain ⟨⟨ho1,ho2⟩,ho3⟩:=ho;split at hb1
       ·rename_i z hz;cases hb1;obtain ⟨agg',tys'⟩:=z;have hy:=hf 0 f rfl;simp only [List.getElem?_cons_zero] at hy;simp only [List.map_cons,DataW.weightsEach] at hwt;obtain ⟨hw1,hw2⟩:=all_append hwt;have h4:=zlc hz;obtain ⟨g1,g2⟩:=ihg ys ls' (off+P.cellsOf f.type) ho3 (by simpa using hlen) (fun i g hg=>by simpa using hf (i+1) g (by simpa using hg)) hb2 hw2
        have o1:=ih n (by omega) f.type _ y ho2 agg' tys' h4 hy hw1
        rw [ho1] at o1;refine ⟨by omega,?_⟩
        have e1:cs.drop off=(cs.drop off).take (P.cellsOf f.type)++cs.drop (off+P.cellsOf f.type):=by
         rw [<- List.drop_drop,List.take_append_drop]
        rw [e1];exact Opened.append o1 g2
       ·cases hb1
    have:=(key fs.toList xs l 0 hc2 (by simp [hxl]) (fun i f hf=>hfld i f (by simpa using hf)) hl hww).2
    simpa using this
   ·cases hty
  ·cases hty
end
theorem zxF:(List.range zcu).all (zfa Tryz.prog)=true:=by kernel_rfl
theorem zCK:znN.all (fun T=>!Nat.blt T zcu||ztL Tryz.prog T)=true:=by kernel_rfl
theorem zAa:Tryz.prog.funcs.toList.all (fun fn=>!(fn.name == "runtime.NumGoroutine"))=true:=by kernel_rfl
theorem zB3 (T:TypeId)(h0:znN.contains T=true)(hT:T<zcu):ztL Tryz.prog T=true:=by
 have h1:T∈znN:=by
  revert h0
  generalize znN=l;intro h0;simpa using h0
 have hb:Nat.blt T zcu=true:=by rw [Nat.blt_eq];exact hT
 have h2:=List.all_eq_true.1 zCK T h1;rw [hb,Bool.not_true,Bool.false_or] at h2;exact h2
theorem zCJ (ctr:FuncId->Option (List AV->Option (Bool×List AV)))(mct:FuncId->Option (CV->Int->Option (Bool×CV×Int)))(pct:FuncId->Option (List Bool×(List CV->List AV->Option (Bool×List CV×List AV))))(tct:FuncId->Option (List Bool×Option (Nat×Nat×List (List Nat))×(List AV->Option (Bool×List AV)))):CfgOk (zep ctr mct pct tct):=by
 have h1:(zep ctr mct pct tct).P=Tryz.prog:=by simp only [zep]
 have h2:∀T,(zep ctr mct pct tct).sty T=below T (zjR Tryz.prog T):=fun _=>by simp only [zep]
 have h3:∀T,(zep ctr mct pct tct).cty T=below T (zbp Tryz.prog 4 T):=fun _=>by simp only [zep]
 have h4:∀T f,(zep ctr mct pct tct).fof T f=zit Tryz.prog T f:=fun _ _=>by simp only [zep]
 have h5:∀T,(zep ctr mct pct tct).eqt T=znN.contains T:=fun _=>by simp only [zep]
 refine zz8 h1 h2 h3 h4 zxF ?_;intro T h hT;rw [h5] at h;exact zB3 T h hT
theorem zCi (ctr:FuncId->Option (List AV->Option (Bool×List AV)))(mct:FuncId->Option (CV->Int->Option (Bool×CV×Int)))(pct:FuncId->Option (List Bool×(List CV->List AV->Option (Bool×List CV×List AV))))(tct:FuncId->Option (List Bool×Option (Nat×Nat×List (List Nat))×(List AV->Option (Bool×List AV)))):NameOk (zep ctr mct pct tct):=by
 refine ⟨fun f fn hf=>?_⟩;have:=List.all_eq_true.1 zAa fn (by
  have:Tryz.prog.funcs[f]?=some fn:=hf;rw [<- Array.getElem?_toList] at this;exact List.mem_of_getElem? this)
 simpa using this
theorem zxK {ctr:FuncId->Option (List AV->Option (Bool×List AV))}{mct:FuncId->Option (CV->Int->Option (Bool×CV×Int))}{pct:FuncId->Option (List Bool×(List CV->List AV->Option (Bool×List CV×List AV)))}{tct:FuncId->Option (List Bool×Option (Nat×Nat×List (List Nat))×(List AV->Option (Bool×List AV)))}(h:∀f run,ctr f=some run->Holds Tryz.prog f run)(hm:∀f run,mct f=some run->zgG Tryz.prog f run)(hp:∀f own run,pct f=some (own,run)->zmO Tryz.prog f own run)(ht:∀f own inp run,tct f=some (own,inp,run)->zmP Tryz.prog f own inp run):EngOk (zep ctr mct pct tct):=by
 have hC:=zCJ ctr mct pct tct;have hH:CtrOk (zep ctr mct pct tct):=⟨h⟩;have hG:=zAL hC ⟨hm⟩ ⟨hp⟩ ⟨ht⟩;have hN:=zCi ctr mct pct tct;exact ⟨hC,hH,hG,hN,zCa hC hH hG hN⟩
section
open Go Go.ChangeShapes Go.WideShapes Go.ChangeAt
def AV.sh:AV->Bool×List CTy
 | .one c=>(false,[c.ty])
 | .agg l=>(true,l.map CV.ty)
section
variable {P:Program}
theorem zr9 {T:TypeId}{agg:Bool}{tys:List CTy}(h:zbp P 4 T=some (agg,tys)) :
 (agg=true/\∃fs,P.underlying T=some (.struct fs))\/(agg=false/\tys.length=1/\((∃k,P.underlying T=some (.int k))\/P.underlying T=some .bool\/∃e,P.underlying T=some (.slice e))):=by
 rw [zbp] at h;split at h
 ·rename_i k hu;cases h;exact .inr ⟨rfl,rfl,.inl ⟨k,hu⟩⟩
 ·rename_i hu;cases h;exact .inr ⟨rfl,rfl,.inr (.inl hu)⟩
 ·rename_i e hu;split at h
  ·cases h;exact .inr ⟨rfl,rfl,.inr (.inr ⟨e,hu⟩)⟩
  ·cases h
 ·rename_i fs hu;split at h
  ·cases h;exact .inl ⟨rfl,fs,hu⟩
  ·cases h
 ·cases h
theorem zzE {W:World}{T:TypeId}{v:Value}{base:Nat}(hu:(∃k,P.underlying T=some (.int k))\/P.underlying T=some .bool\/∃e,P.underlying T=some (.slice e))(h:Value.okWide P W .any base T v):v.cells = #[v]:=by
 cases v with
 | agg cs =>
  exfalso;rcases hu with ⟨k,hu⟩|hu|⟨e,hu⟩<;>simp [Value.okWide,hu,Cell.okWide,Cell.ok] at h
 | _=>rfl
theorem zsr (hchk:∀T,T<zcu->zfa P T=true/\zlS P T=true){H:Type}{enc:TypeId×Value->H}{W:World}{base:Nat} :
 ∀(ts:List TypeId) (vs:List Value) (ds:List (DataW H)) (p:List MemPlace),DataW.TrodAll enc P W 0 (fun _=>true) true ts vs ds p ->
  (∀(j:Nat) (t:TypeId) (v:Value),ts[j]?=some t->vs[j]?=some v->Value.okWide P W .any base t v)->(∀t∈ts,t<zcu/\(zbp P 4 t).isSome=true) ->
  (DataW.weightsEach P ts ds).all (·<=reachBytes)=true ->
  ∃(avs:List AV) (xs:List Value),avs.map (fun a=>some a.sh)=ts.map (zbp P 4)/\zbY false W (zo avs) xs (fun _ b=>b<W.heap.size)/\zbx avs xs=vs/\∀c∈zo avs,CVOk c
 | [],vs,ds,p,h,_,_,_=>by
  obtain ⟨rfl,rfl,rfl⟩:=trodAll_nil h;exact ⟨[],[],rfl,⟨rfl,fun i c x h=>by simp [zo] at h⟩,rfl,fun c h=>by simp [zo] at h⟩
 | T :: ts,vs,ds,p,h,hv,ht,hw=>by
  obtain ⟨v,vs',d,ds',p1,q,rfl,rfl,rfl,h1,h2⟩:=trodAll_cons h;simp only [DataW.weightsEach] at hw;obtain ⟨hw1,hw2⟩:=all_append hw;obtain ⟨avs,xs,g1,g2,g3,g4⟩:=zsr hchk ts vs' ds' q h2 (fun j t v h1 h2=>hv (j+1) t v (by simpa using h1) (by simpa using h2)) (fun t h=>ht t (by simp [h])) hw2
  obtain ⟨hT,hsome⟩:=ht T (by simp)
  obtain ⟨⟨agg,tys⟩,htc⟩:=Option.isSome_iff_exists.1 hsome;obtain ⟨fuel,hf⟩:=h1;obtain ⟨cvs,e1,e2,e3⟩:=zyX hchk fuel T _ _ hT agg tys htc hf hw1;have hv0:=hv 0 T v rfl rfl;have app:∀a:AV,a.cvs=cvs->zbY false W (zo (a :: avs)) (v.cells.toList++xs) (fun _ b=>b<W.heap.size)/\∀c∈zo (a :: avs),CVOk c:=by
   intro a ha;have e:zo (a :: avs)=cvs++zo avs:=by simp [zo,ha]
   rw [e];refine ⟨zbY.append ⟨e2,fun i c x hc hx=>(e3 i c x hc hx).1⟩ g2,fun c hc=>?_⟩;rcases List.mem_append.1 hc with hc|hc
   ·obtain ⟨i,hi⟩:=List.mem_iff_getElem?.1 hc;have hlt:i<v.cells.toList.length:=by rw [e2];exact (List.getElem?_eq_some_iff.1 hi).1
    exact (e3 i c _ hi (List.getElem?_eq_getElem hlt)).2
   ·exact g4 c hc
  rcases zr9 htc with ⟨rfl,fs,hu⟩|⟨rfl,hl1,hu⟩
  ·obtain ⟨cs,rfl,_⟩:∃cs,v = .agg cs/\True:=by
    simp only [Value.okWide,hu] at hv0;obtain ⟨cs,h,_⟩:=hv0;exact ⟨cs,h,trivial⟩
   obtain ⟨a1,a2⟩:=app (.agg cvs) rfl;refine ⟨.agg cvs :: avs,_,?_,a1,?_,a2⟩
   ·rw [List.map_cons,List.map_cons,g1,htc];simp only [AV.sh,e1]
   ·simp only [Value.cells] at e2;simp only [zbx,Value.cells,<- e2,List.take_left',List.drop_left',g3,Array.toArray_toList]
  ·have hcells:=zzE hu hv0;rw [<- e1] at hl1;obtain ⟨c,rfl⟩:∃c,cvs=[c]:=by
    match cvs,hl1 with
    | [c],_=>exact ⟨c,rfl⟩
   obtain ⟨a1,a2⟩:=app (.one c) rfl;refine ⟨.one c :: avs,_,?_,a1,?_,a2⟩
   ·rw [List.map_cons,List.map_cons,g1,htc,<- e1];rfl
   ·rw [hcells];simp only [zbx];simp [g3]
theorem zms (hl:laidOutB P=true){H:Type}{enc:TypeId×Value->H}{W W':World}(hb:Go.RowKit.Below W.heap.size W W'){sp:Nat->Bool}:∀(ts:List TypeId) (vs:List Value) (ds:List (DataW H)) (ps:List MemPlace),(∀t∈ts,P.readableRec t=true/\t<P.types.size) ->
 DataW.TrodAll enc P W 0 (fun _=>true) true ts vs ds ps->(∀x∈ps,x.block<W.heap.size/\sp x.block=true)->DataW.TrodAll enc P W' 0 sp true ts vs ds ps
 | [],vs,ds,ps,_,h,_=>by
  obtain ⟨rfl,rfl,rfl⟩:=trodAll_nil h;exact rfl
 | T :: ts,vs,ds,ps,ht,h,hlt=>by
  obtain ⟨v,vs',d,ds',p,q,rfl,rfl,rfl,h1,h2⟩:=trodAll_cons h;obtain ⟨hr,hrow⟩:=ht T (by simp)
  exact ⟨p,q,WideElems.Trod_stays hl hr hrow h1 (fun x hx=>hb.same (hlt x (List.mem_append_left _ hx)).1) (fun x hx=>(hlt x (List.mem_append_left _ hx)).2),
   zms hl hb ts vs' ds' q (fun t h=>ht t (by simp [h])) h2 (fun x hx=>hlt x (List.mem_append_right _ hx)),rfl⟩
theorem zsU {W W':World}(h:Grown W W')(may:MemPlace->Prop):W.keptBut W' may:=by
 refine ⟨h.os,h.output,fun i hi=>?_⟩;rw [h.keep i hi];cases hc:W.heap[i]? with
 | none=>rfl
 | some o =>
  cases o<;>first|rfl|exact ⟨rfl,rfl,rfl,fun _ _=>rfl⟩|exact .inr ⟨rfl,rfl⟩
def zzI (P:Program)(ts:List TypeId):Bool:=ts.all fun T=>Nat.blt T zcu&&(zbp P 4 T).isSome&&P.readableRec T&&Nat.blt T P.types.size
def zBd (P:Program)(ts:List TypeId)(avs:List AV):Prop:=avs.map (fun a=>some a.sh)=ts.map (zbp P 4)/\∀c∈zo avs,CVOk c
def zt7 (P:Program)(f:FuncId)(ts:List TypeId):Prop :=
 ∃run,Holds P f run/\∀avs,zBd P ts avs->run avs=some (true,[.one (.b true)])
theorem zqj (hchk:∀T,T<zcu->zfa P T=true/\zlS P T=true)(hlo:laidOutB P=true){s:ChangeSpec}{f:FuncId}{fn:Func}{B:TypeId}(hvars:s.vars=[])(hfn:∀(H:Type) (ds:List (DataW H)),ds.length=fn.params.toList.length->s.fn H ds={ results:=[.lit (.bool true)],args:=ds })(hpars:zzI P fn.params.toList=true)(hres:fn.resultTypes = #[B])(hB:P.underlying B=some .bool)(hl:zt7 P f fn.params.toList){H:Type}{enc:TypeId×Value->H}{apart fresh handsOn:Bool}(W:World)(base:Nat)(args:Array Value)(ds gs:List (DataW H))(before:List MemPlace)(hval:∀(j:Nat) t v,fn.params[j]?=some t->args[j]?=some v->Value.okWide P W .any base t v)(hW:DataW.Whole enc P fn.params.toList s.vars apart W args.toList ds gs before)(hsz:(DataW.weightsEach P (fn.params.toList++s.plain.varTypes P) (ds++gs)).all (·<=reachBytes)=true) :
 Calls P f args W fun e W'=>∃v,e = .returned v/\s.post enc P fn apart fresh handsOn false W args v W':=by
 have hW':=hW;obtain ⟨p,q,hA,hV,rfl,hfz,hnd⟩:=hW;rw [hvars] at hV;obtain ⟨rfl,rfl⟩:=trodVars_none hV;have hvt:s.plain.varTypes P=[]:=by
  unfold DataSpec.varTypes
  show s.vars.filterMap _=[]
  rw [hvars];rfl
 rw [hvt,List.append_nil,List.append_nil] at hsz;unfold zzI at hpars;simp only [List.all_eq_true,Bool.and_eq_true,Nat.blt_eq] at hpars;have hval':∀(j:Nat) (t:TypeId) (v:Value),fn.params.toList[j]?=some t->args.toList[j]?=some v->Value.okWide P W .any base t v:=by
  intro j t v h1 h2;rw [Array.getElem?_toList] at h1 h2;exact hval j t v h1 h2
 obtain ⟨avs,xs,g1,g2,g3,g4⟩:=zsr hchk fn.params.toList args.toList ds p hA hval' (fun t ht=>⟨(hpars t ht).1.1.1,(hpars t ht).1.1.2⟩) hsz;obtain ⟨run,hH,hrun⟩:=hl;have hcall:=hH.2 W avs xs _ g2 (hrun avs ⟨g1,g4⟩);have hargs:(zbx avs xs).toArray=args:=by rw [g3,Array.toArray_toList]
 rw [hargs] at hcall;have hlen:∀(ts:List TypeId) (vs:List Value) (ds:List (DataW H)) (ps:List MemPlace),DataW.TrodAll enc P W 0 (fun _=>true) true ts vs ds ps->ds.length=ts.length:=by
  intro ts
  induction ts with
  | nil=>intro vs ds ps h;obtain ⟨_,rfl,_⟩:=trodAll_nil h;rfl
  | cons t ts ih =>
   intro vs ds ps h;obtain ⟨v,vs',d,ds',p,q,rfl,rfl,rfl,_,h2⟩:=trodAll_cons h;simp [ih vs' ds' q h2]
 refine hcall.mono ?_;intro e W1 he;cases e with
 | panicked c=>exact he.elim
 | outgrown=>exact he.elim
 | returned v =>
  obtain ⟨hg,ys,K,hrep,hv,_⟩:=he;have hv1:v = .bool true:=by
   match ys,hrep with
   | [],h=>exact absurd h.1 (by simp [zo,AV.cvs])
   | [y],h =>
    have:=(h.2 0 (.b true) y rfl rfl).bool_inv;rw [hv,this];rfl
   | y :: z :: r,h=>exact absurd h.1 (by simp [zo,AV.cvs])
  subst hv1;refine ⟨_,rfl,ds,[],p++[],[],p,[],hW',?_,?_,?_,zsU hg _,fun h=>by cases h⟩
  ·rw [List.append_nil,hfn H ds (hlen _ _ _ _ hA),hres];exact ⟨[],[],⟨1,by simp [DataW.trod,hB,Value.cells]⟩,rfl,rfl⟩
  ·rw [List.append_nil,hfn H ds (hlen _ _ _ _ hA)];have hb:Go.RowKit.Below W.heap.size W W1:=⟨hg.os,hg.tape,hg.output,hg.size,hg.keep⟩;have hlt:∀x∈p,x.block<W.heap.size:=fun x hx=>by simpa using hW'.lt x (List.mem_append_left _ hx)
   exact zms hlo hb _ _ _ _ (fun t ht=>⟨(hpars t ht).1.2,(hpars t ht).2⟩) hA (fun x hx=>⟨hlt x hx,by simpa using hlt x hx⟩)
  ·rw [hvars,List.append_nil,hfn H ds (hlen _ _ _ _ hA)];rfl
end
theorem zCL:(List.range zcu).all (zlS Tryz.prog)=true:=by kernel_rfl
theorem zAO:laidOutB Tryz.prog=true:=by kernel_rfl
theorem own:ownKnob Tryz.prog.godebug=none:=by kernel_rfl
theorem zz9 (T:TypeId)(hT:T<zcu):zfa Tryz.prog T=true/\zlS Tryz.prog T=true :=
 ⟨List.all_eq_true.1 zxF T (List.mem_range.2 hT),List.all_eq_true.1 zCL T (List.mem_range.2 hT)⟩
abbrev Good (ts:List TypeId)(avs:List AV):Prop:=zBd Tryz.prog ts avs
abbrev zxC (f:FuncId)(ts:List TypeId):Prop:=zt7 Tryz.prog f ts
theorem zwh {ctr:FuncId->Option (List AV->Option (Bool×List AV))}{mct:FuncId->Option (CV->Int->Option (Bool×CV×Int))}{pct:FuncId->Option (List Bool×(List CV->List AV->Option (Bool×List CV×List AV)))}{tct:FuncId->Option (List Bool×Option (Nat×Nat×List (List Nat))×(List AV->Option (Bool×List AV)))}(hctr:∀f run,ctr f=some run->Holds Tryz.prog f run)(hmct:∀f run,mct f=some run->zgG Tryz.prog f run)(hpct:∀f own run,pct f=some (own,run)->zmO Tryz.prog f own run)(htct:∀f own inp run,tct f=some (own,inp,run)->zmP Tryz.prog f own inp run){f:FuncId}{ts:List TypeId}(hf:FnOk Tryz.prog f)(h:∀avs,Good ts avs->∃tms N D,evalFn (zep ctr mct pct tct) tms N D f avs=some [.one (.b true)]):zxC f ts:=by
 refine ⟨fun avs=>open Classical in if Good ts avs then some (true,[.one (.b true)]) else none,zmr (zxK hctr hmct hpct htct) hf ?_,fun avs hg=>by simp [hg]⟩
 intro avs rs _ hr;split at hr
 ·rename_i hg;cases hr;exact h avs hg
 ·cases hr
end
section
variable {C:Cfg} {w0 w w1:World} {S0:zI} {U:Nat->Prop} {st st1:St} {E E1:Env} {ts:Array Value} {sv:List (Array Value)}
structure BlkEnd (st:St) (own:List Bool) (cells:List At) (hs:List MV) (cs:List CV) (ks:List Nat):Prop where
 len:cs.length=cells.length
 hlen:hs.length=cells.length
 ownk:∀r∈ks,∃j,zX own j/\cells[j]?=some (.sl r [])
 get:∀(j:Nat) (a:At),cells[j]?=some a->(∃k n,a = .i k n/\cs[j]?=some (.i k n))\/(∃x,a = .b x/\cs[j]?=some (.b x)) \/
  ∃r R,a = .sl r []/\st.root r=some R/\cs[j]?=some (.s R.t R.l)/\((zX own j/\R.own=true/\r∈ks)\/(¬ zX own j/\hs[j]?=some (.v (.at (.sl r [])))))
 inj:∀(i j r:Nat),zX own i->zX own j->cells[i]?=some (.sl r [])->cells[j]?=some (.sl r [])->i=j
end
section
variable {C:Cfg} {w0 w w1:World} {S0:zI} {U:Nat->Prop} {st st1:St} {E E1:Env} {ts:Array Value} {sv:List (Array Value)}
end
def zbn (h:Host):List CV:=[.s (.sl .int) h.Memory,.s .mon h.Mons,.s .entry h.Buffer,.s .entry h.IoBuffer]
def zeq (c:Ctl):List CV:=[.i .i64 c.Traps,.i .i64 c.Post,.b c.Open]
def zeC (e:GExit):List CV:=[.i .i64 e.Kind,.i .i64 e.Page,.b e.Write,.i .i64 e.N]
structure Cur where
 b:List Int
 i:Int
 h:Int
def zx:List (Nat×Nat×Tmpl)->FuncId->Nat->Option Tmpl
 | [],_,_=>none
 | (g,c,T) :: r,f,b=>cond (Nat.beq g f) (cond (Nat.beq c b) (some T) (zx r f b)) (zx r f b)
def pc (p:Prop):Bool:=@decide p (Classical.propDecidable p)
theorem zbb {p:Prop}:pc p=true↔p:=by
 unfold pc;exact @decide_eq_true_iff p (Classical.propDecidable p)
theorem zO {p:Prop}(h:p):pc p=true:=zbb.2 h
inductive CVB (K:Nat):CV->Prop
 | i (k:IntKind) (n:Int):CVB K (.i k n)
 | b (x:Bool):CVB K (.b x)
 | s (t:Ty) (l:List t.den) (hl:l.length<=K) (h:∀x∈l,∀c∈t.cells x,CVB K c):CVB K (.s t l)
theorem CVB.inv {K:Nat}{t:Ty}{l:List t.den}(h:CVB K (.s t l)):l.length<=K/\∀x∈l,∀c∈t.cells x,CVB K c:=by
 cases h with
 | s _ _ hl h=>exact ⟨hl,h⟩
theorem CVB.len {K:Nat}{t:Ty}{l:List t.den}(h:CVB K (.s t l)):l.length<=K:=h.inv.1
theorem CVB.mono {K L:Nat}(hKL:K<=L){c:CV}(h:CVB K c):CVB L c:=by
 induction h with
 | i k n=>exact .i k n
 | b x=>exact .b x
 | s t l hl h ih=>exact .s t l (Nat.le_trans hl hKL) ih
theorem CVB.of_rep {o:Bool}{w:World}{v:Value}{c:CV}{S:zI}(h:Rep o w v c S):CVB big c:=by
 induction h with
 | i k n S=>exact .i k n
 | b x S=>exact .b x
 | nil t S=>exact .s t [] (Nat.zero_le _) (fun x h=>by cases h)
 | void t a S ho=>exact .s t [] (Nat.zero_le _) (fun x h=>by cases h)
 | sl t l b off cap arr e fz V K S hb hfz hlen hcap hsz hS hsub hdis hv hc ih =>
  refine .s t l hlen (fun x hx c hcx=>?_);obtain ⟨i,hi⟩:=List.mem_iff_getElem?.1 hx;obtain ⟨j,hj⟩:=List.mem_iff_getElem?.1 hcx;exact ih i x hi j c hj
theorem CVB.of_ok {c:CV}(h:CVOk c):CVB big c:=by
 induction h with
 | i k n _=>exact .i k n
 | b x=>exact .b x
 | s t l hl h ih =>
  refine .s t l hl (fun x hx c hcx=>?_);obtain ⟨i,hi⟩:=List.mem_iff_getElem?.1 hx;obtain ⟨j,hj⟩:=List.mem_iff_getElem?.1 hcx;exact ih i x hi j c hj
def zF (K:Nat)(avs:List AV):Prop:=∀c∈zo avs,CVB K c
theorem zM {K:Nat}{a:AV}{avs:List AV}(h:zF K (a :: avs)):(∀c∈a.cvs,CVB K c)/\zF K avs:=by
 unfold zF zo at *;simp only [List.flatMap_cons,List.mem_append] at h;exact ⟨fun c hc=>h c (.inl hc),fun c hc=>h c (.inr hc)⟩
theorem zwg {avs:List AV}(h:∃w xs,zbY false w (zo avs) xs (fun _ b=>b<w.heap.size)):zF big avs:=by
 obtain ⟨w,xs,h1,h2⟩:=h;intro c hc;obtain ⟨i,hi⟩:=List.mem_iff_getElem?.1 hc;have hlt:i<xs.length:=by rw [h1];exact (List.getElem?_eq_some_iff.1 hi).1
 exact CVB.of_rep (h2 i c _ hi (List.getElem?_eq_getElem hlt))
theorem zh {b c:Bool}{x y:List AV}(h:some (b,x)=some (c,y)):b=c/\y=x:=by
 cases h;exact ⟨rfl,rfl⟩
abbrev zbg:=List (Nat×(List AV->Option (Bool×List AV)))
def zmZ:zbg:=[]
theorem zfP:∀f run,zf zmZ f=some run->Holds Tryz.prog f run:=fun f run h=>by cases h
abbrev zbl (l:zbg):Prop:=∀f run,zf l f=some run->Holds Tryz.prog f run
theorem zi {l:zbg}{f:Nat}{run:List AV->Option (Bool×List AV)}(h:Holds Tryz.prog f run)(hl:zbl l):zbl ((f,run) :: l):=by
 intro g r hg;unfold zf at hg;split at hg
 ·rename_i e;cases hg;rw [<- beq_iff_eq.1 e];exact h
 ·exact hl g r hg
abbrev zqI:=List (Nat×(CV->Int->Option (Bool×CV×Int)))
def zba:zqI:=[]
theorem zy:∀f run,zf zba f=some run->zgG Tryz.prog f run:=fun f run h=>by cases h
abbrev zz3:=List (Nat×(List Bool×(List CV->List AV->Option (Bool×List CV×List AV))))
def zK:zz3:=[]
theorem zl:∀f own run,zf zK f=some (own,run)->zmO Tryz.prog f own run:=fun f own run h=>by cases h
abbrev zz4:=List (Nat×(List Bool×Option (Nat×Nat×List (List Nat))×(List AV->Option (Bool×List AV))))
def zL:zz4:=[]
theorem zn:∀f own inp run,zf zL f=some (own,inp,run)->zmP Tryz.prog f own inp run:=fun f own inp run h=>by cases h
abbrev cQ (c:zbg)(m:zqI)(p:zz3)(t:zz4):Cfg:=zep (zf c) (zf m) (zf p) (zf t)
theorem zk {c:zbg}{m:zqI}{p:zz3}{t:zz4}(o1:zbl c)(o2:∀f run,zf m f=some run->zgG Tryz.prog f run)(o3:∀f own run,zf p f=some (own,run)->zmO Tryz.prog f own run)(o4:∀f own inp run,zf t f=some (own,inp,run)->zmP Tryz.prog f own inp run){f:FuncId}{run:List AV->Option (Bool×List AV)}(hf:FnOk Tryz.prog f)(h:∀avs rs,zF big avs->run avs=some (true,rs)->∃tms N,evalFn (cQ c m p t) tms N 12 f avs=some rs):Holds Tryz.prog f run :=
 zmr (zxK o1 o2 o3 o4) hf fun avs rs hr e=>(h avs rs (zwg hr) e).elim fun t x=>x.elim fun N y=>⟨t,N,12,y⟩
theorem fin0 {C:Cfg}{tms:FuncId->Nat->Option Tmpl}{f:FuncId}{av:List AV}{E:Nat->Option Ans}{r:Ans}{c:Bool}(law:zF big (av)->c=true->∃N,E N=some (r))(nf:∀N,evalFn C tms N 12 f (av)=E N)(hc:c=true)(hb:zF big (av)):∃tms N,evalFn C tms N 12 f (av)=some (r) :=
 (law hb hc).elim fun N e=>⟨tms,N,(nf N).trans e⟩
theorem fin1 {A0:Type}{C:Cfg}{tms:FuncId->Nat->Option Tmpl}{f:FuncId}{av:A0->List AV}{E:Nat->A0->Option Ans}{r:A0->Ans}{c:A0->Bool}(law:∀a0,zF big (av a0)->c a0=true->∃N,E N a0=some (r a0))(nf:∀N a0,evalFn C tms N 12 f (av a0)=E N a0){a0:A0}(hc:c a0=true)(hb:zF big (av a0)):∃tms N,evalFn C tms N 12 f (av a0)=some (r a0) :=
 (law _ hb hc).elim fun N e=>⟨tms,N,(nf N _).trans e⟩
theorem fin2 {A0 A1:Type}{C:Cfg}{tms:FuncId->Nat->Option Tmpl}{f:FuncId}{av:A0->A1->List AV}{E:Nat->A0->A1->Option Ans}{r:A0->A1->Ans}{c:A0->A1->Bool}(law:∀a0 a1,zF big (av a0 a1)->c a0 a1=true->∃N,E N a0 a1=some (r a0 a1))(nf:∀N a0 a1,evalFn C tms N 12 f (av a0 a1)=E N a0 a1){a0:A0}{a1:A1}(hc:c a0 a1=true)(hb:zF big (av a0 a1)):∃tms N,evalFn C tms N 12 f (av a0 a1)=some (r a0 a1) :=
 (law _ _ hb hc).elim fun N e=>⟨tms,N,(nf N _ _).trans e⟩
theorem zqT {A0 A1 A2:Type}{C:Cfg}{tms:FuncId->Nat->Option Tmpl}{f:FuncId}{av:A0->A1->A2->List AV}{E:Nat->A0->A1->A2->Option Ans}{r:A0->A1->A2->Ans}{c:A0->A1->A2->Bool}(law:∀a0 a1 a2,zF big (av a0 a1 a2)->c a0 a1 a2=true->∃N,E N a0 a1 a2=some (r a0 a1 a2))(nf:∀N a0 a1 a2,evalFn C tms N 12 f (av a0 a1 a2)=E N a0 a1 a2){a0:A0}{a1:A1}{a2:A2}(hc:c a0 a1 a2=true)(hb:zF big (av a0 a1 a2)):∃tms N,evalFn C tms N 12 f (av a0 a1 a2)=some (r a0 a1 a2) :=
 (law _ _ _ hb hc).elim fun N e=>⟨tms,N,(nf N _ _ _).trans e⟩
def zzm (f:FuncId):Bool :=
 match Tryz.prog.funcs[f]? with
 | some fn=>fn.body.isSome && !(fn.name == "runtime.NumGoroutine")
 | none=>false
theorem zA {f:FuncId}(h:zzm f=true):FnOk Tryz.prog f:=by
 unfold zzm at h;split at h
 ·rename_i fn hf;simp only [Bool.and_eq_true,Bool.not_eq_true'] at h;obtain ⟨b,hb⟩:=Option.isSome_iff_exists.1 h.1;exact ⟨fn,b,hf,hb,h.2⟩
 ·cases h
theorem cT {α:Type}(x y:α):(cond true x y)=x:=by simp
theorem cF {α:Type}(x y:α):(cond false x y)=y:=by simp
theorem zfO:big=140737488355328:=rfl
theorem zya {x:Int}(h1 : -9223372036854775808<=x)(h2:x<=9223372036854775807):IntKind.i64.wrap x=x:=by
 simp only [IntKind.wrap,IntKind.signed,IntKind.bits];simp;omega
theorem zCA {x y:Int}(h1 : -9223372036854775808<=x+y)(h2:x+y<=9223372036854775807):zW .i64 x y=x+y:=zya h1 h2
theorem zsb {x y:Int}(h1 : -9223372036854775808<=x-y)(h2:x-y<=9223372036854775807):wsub .i64 x y=x-y:=zya h1 h2
theorem zZ {i n:Nat}(h:i<n)(hn:n<=big):zW .i64 (i:Int) 1=((i+1:Nat):Int):=by
 rw [zfO] at hn;rw [zCA (by omega) (by omega)]
 omega
section
variable {α:Type}
theorem zbo {l:List α}{i:Nat}(h:i<l.length):ilt (i:Int) (ln l)=true:=by
 unfold ilt ln;exact decide_eq_true (by omega)
theorem zbe {l:List α}:ilt ((l.length:Nat):Int) (ln l)=false:=by
 unfold ilt ln;exact decide_eq_false (by omega)
theorem zU {l:List α}{i:Nat}(h:i<l.length):inb (i:Int) (ln l)=true:=by
 unfold inb ln;exact decide_eq_true (by omega)
theorem zbd {l:List α}{i:Nat}(h:i<l.length)(d:α):ix l (i:Int) d=l[i]:=by
 unfold ix;simp [List.getD,List.getElem?_eq_getElem h]
theorem zet {l:List α}(h:l.length<=2147483648):few (ln l)=true:=by
 unfold few ln;exact decide_eq_true (by omega)
theorem zdf (x:Int):ieq x x=true:=by simp [ieq]
theorem zbr (x:Int):ine x x=false:=by simp [ine]
theorem zbG (x:Bool):ze9 x x=true:=by simp [ze9]
end
theorem zcG {σ ρ:Type}(n:Nat)(F:(σ->Option ρ)->σ->Option ρ)(s:σ):iter (n+1) F s=F (iter n F) s:=rfl
def goL {α τ ρ:Type}(body:Nat->α->τ->(τ->Option ρ)->Option ρ)(K:τ->Option ρ):List α->Nat->τ->Option ρ
 | [],_,t=>K t
 | x :: l,i,t=>body i x t (goL body K l (i+1))
theorem zbj {α τ ρ σ:Type}(l:List α)(st:Nat->τ->σ)(F:(σ->Option ρ)->σ->Option ρ)(body:Nat->α->τ->(τ->Option ρ)->Option ρ)(K:τ->Option ρ)(hstep:∀(i:Nat) (hi:i<l.length) (t:τ) (rec:σ->Option ρ),F rec (st i t)=body i l[i] t (fun t'=>rec (st (i+1) t')))(hend:∀(t:τ) (rec:σ->Option ρ),F rec (st l.length t)=K t) :
 ∀(N:Nat) (t:τ),l.length<N->iter N F (st 0 t)=goL body K l 0 t:=by
 have key:∀(m i N:Nat) (t:τ),l.length-i=m->i<=l.length->m<N->iter N F (st i t)=goL body K (l.drop i) i t:=by
  intro m
  induction m with
  | zero =>
   intro i N t hm hi hN;have:i=l.length:=by omega
   subst this;obtain ⟨n,rfl⟩:∃n,N=n+1:=⟨N-1,by omega⟩
   rw [zcG,hend,List.drop_length];rfl
  | succ m ih =>
   intro i N t hm hi hN;obtain ⟨n,rfl⟩:∃n,N=n+1:=⟨N-1,by omega⟩
   have hlt:i<l.length:=by omega
   rw [zcG,hstep i hlt,List.drop_eq_getElem_cons hlt];simp only [goL]
   congr 1
   funext t'
   exact ih (i+1) n t' (by omega) (by omega) (by omega)
 intro N t hN;have:=key l.length 0 N t (by omega) (Nat.zero_le _) hN
 simpa using this
def goN {τ ρ:Type}(body:Nat->τ->(τ->Option ρ)->Option ρ)(K:τ->Option ρ):Nat->Nat->τ->Option ρ
 | 0,_,t=>K t
 | n+1,i,t=>body i t (goN body K n (i+1))
theorem zo6 {τ ρ σ:Type}(n:Nat)(st:Nat->τ->σ)(F:(σ->Option ρ)->σ->Option ρ)(body:Nat->τ->(τ->Option ρ)->Option ρ)(K:τ->Option ρ)(hstep:∀(i:Nat) (hi:i<n) (t:τ) (rec:σ->Option ρ),F rec (st i t)=body i t (fun t'=>rec (st (i+1) t')))(hend:∀(t:τ) (rec:σ->Option ρ),F rec (st n t)=K t) :
 ∀(N:Nat) (t:τ),n<N->iter N F (st 0 t)=goN body K n 0 t:=by
 have key:∀(m i N:Nat) (t:τ),n-i=m->i<=n->m<N->iter N F (st i t)=goN body K (n-i) i t:=by
  intro m
  induction m with
  | zero =>
   intro i N t hm hi hN;have:i=n:=by omega
   subst this;obtain ⟨k,rfl⟩:∃k,N=k+1:=⟨N-1,by omega⟩
   rw [zcG,hend,Nat.sub_self];rfl
  | succ m ih =>
   intro i N t hm hi hN;obtain ⟨k,rfl⟩:∃k,N=k+1:=⟨N-1,by omega⟩
   have hlt:i<n:=by omega
   have e:n-i=(n-(i+1))+1:=by omega
   rw [zcG,hstep i hlt,e];simp only [goN]
   congr 1
   funext t'
   exact ih (i+1) k t' (by omega) (by omega) (by omega)
 intro N t hN;have:=key n 0 N t (by omega) (Nat.zero_le _) hN
 simpa using this
theorem ze3 {α ρ:Type}(l:List α)(d:α)(c:α->Bool)(f:α->α)(K:List α->Option ρ)(hl:l.length<=big)(hf:∀x∈l,c x=true/\f x=x){N:Nat}(hN:l.length<N) :
 iter N (fun r (s:Int×List α×List α×Unit)=>(bif (ilt s.1 (ln s.2.1)) then (bif (inb s.1 (ln s.2.1)) then (bif (c (ix s.2.1 s.1 d)) then (bif (inb s.1 (ln s.2.2.1)) then
  (r ((zW .i64 s.1 1),(s.2.1,((up s.2.2.1 s.1 (f (ix s.2.1 s.1 d))),())))) else none) else none) else none) else K s.2.2.1)) (0,(l,((rp (ln l) d),())))=K l:=by
 have key:∀(m i N:Nat),l.length-i=m->i<=l.length->m<N->iter N (fun r (s:Int×List α×List α×Unit)=>(bif (ilt s.1 (ln s.2.1)) then (bif (inb s.1 (ln s.2.1)) then (bif (c (ix s.2.1 s.1 d)) then (bif (inb s.1 (ln s.2.2.1)) then
  (r ((zW .i64 s.1 1),(s.2.1,((up s.2.2.1 s.1 (f (ix s.2.1 s.1 d))),())))) else none) else none) else none) else K s.2.2.1)) ((i:Int),(l,(l.take i++List.replicate (l.length-i) d,())))=K l:=by
  intro m
  induction m with
  | zero =>
   intro i N hm hi hN;have:i=l.length:=by omega
   subst this;obtain ⟨n,rfl⟩:∃n,N=n+1:=⟨N-1,by omega⟩
   rw [zcG];simp only [zbe,cF];simp
  | succ m ih =>
   intro i N hm hi hN;obtain ⟨n,rfl⟩:∃n,N=n+1:=⟨N-1,by omega⟩
   have hlt:i<l.length:=by omega
   have hlen:(l.take i++List.replicate (l.length-i) d).length=l.length:=by simp;omega
   obtain ⟨h1,h2⟩:=hf l[i] (List.getElem_mem hlt);have hup:up (l.take i++List.replicate (l.length-i) d) (i:Int) l[i]=l.take (i+1)++List.replicate (l.length-(i+1)) d:=by
    unfold up;apply List.ext_getElem?;intro k;have e:(i:Int).toNat=i:=by omega
    rw [e,List.getElem?_set]
    by_cases hk:i=k
    ·subst hk;rw [if_pos rfl,if_pos (by omega),List.getElem?_append_left (by simp;omega),List.getElem?_take,if_pos (by omega),List.getElem?_eq_getElem hlt]
    ·rw [if_neg hk]
     by_cases hki:k<i
     ·rw [List.getElem?_append_left (by simp;omega),List.getElem?_append_left (by simp;omega),List.getElem?_take,List.getElem?_take,if_pos hki,if_pos (by omega)]
     ·have e1:(l.take i).length=i:=by simp;omega
      have e2:(l.take (i+1)).length=i+1:=by simp;omega
      rw [List.getElem?_append_right (by omega),List.getElem?_append_right (by omega),List.getElem?_replicate,List.getElem?_replicate,e1,e2]
      by_cases hkl:k<l.length
      ·rw [if_pos (by omega),if_pos (by omega)]
      ·rw [if_neg (by omega),if_neg (by omega)]
   rw [zcG];simp only [zbo hlt,zU hlt,zbd hlt,h1,h2,cT,zU (l:=l.take i++List.replicate (l.length-i) d) (i:=i) (by omega),zZ hlt hl,hup]
   exact ih (i+1) n (by omega) (by omega) (by omega)
 have:=key l.length 0 N (by omega) (Nat.zero_le _) hN
 have e:rp (ln l) d=List.replicate l.length d:=by simp [rp,ln]
 rw [e];simpa using this
theorem zeb {α ρ:Type}(l:List α)(d:α)(F:(Int×List α×List α×Unit->Option ρ)->Int×List α×List α×Unit->Option ρ)(k:Option ρ)(hl:l.length<=big)(hstep:∀(i:Nat) (hi:i<l.length) rec,F rec ((i:Int),l,l,())=rec (zW .i64 (i:Int) 1,l,l,()))(hend:∀rec,F rec ((l.length:Int),l,l,())=k){N:Nat}(hN:l.length<N) :
 iter N F (0,(l,(l,())))=k:=by
 have key:∀(m i N:Nat),l.length-i=m->i<=l.length->m<N->iter N F ((i:Int),(l,(l,())))=k:=by
  intro m
  induction m with
  | zero =>
   intro i N hm hi hN;have:i=l.length:=by omega
   subst this;obtain ⟨n,rfl⟩:∃n,N=n+1:=⟨N-1,by omega⟩
   rw [zcG,hend]
  | succ m ih =>
   intro i N hm hi hN;obtain ⟨n,rfl⟩:∃n,N=n+1:=⟨N-1,by omega⟩
   have hlt:i<l.length:=by omega
   rw [zcG,hstep i hlt,zZ hlt hl];exact ih (i+1) n (by omega) (by omega) (by omega)
 exact key l.length 0 N (by omega) (Nat.zero_le _) hN
def sm:Nat:=1048576
def szL {α:Type}(l:List α)(n:Int):Int:=if n-l.length<0 then -1 else n-l.length
theorem zfH {α:Type}{l:List α}{n:Int}(hl:l.length<=big)(h0:0<=n)(h1:n<=1048576):wsub .i64 n (ln l)=n-l.length:=by
 rw [zfO] at hl;exact zsb (by simp only [ln];omega) (by simp only [ln];omega)
theorem zdR:pc True=true:=zO trivial
theorem zd8 {n:Nat}(h:n<=sm):n<=big/\n<=2147483648:=by
 unfold sm at h;rw [zfO];omega
def hasB (i n:Int):Bool:=decide (0<=i/\i<n)
theorem has_eq (i n:Int):(ige i 0&&ilt i n)=hasB i n:=by
 unfold ige ilt hasB
 by_cases h1:0<=i<;>by_cases h2:i<n<;>simp [h1,h2]
theorem zh5 {i n:Int}(h:hasB i n=true):inb i n=true:=h
theorem zCd {i:Int}{n:Nat}(h:hasB i n=true):∃k:Nat,i=k/\k<n:=by
 have:0<=i/\i<n:=of_decide_eq_true h;exact ⟨i.toNat,by omega,by omega⟩
theorem zuC {α:Type}{l:List α}{i:Int}(h:hasB i (ln l)=true)(d:α):ix l i d∈l:=by
 obtain ⟨k,rfl,hk⟩:=zCd (n:=l.length) h;rw [zbd hk];exact List.getElem_mem hk
theorem zCF {α:Type}(l:List α):ap [] l=l:=rfl
def zdl (h:Host):Prop:=∀c∈zbn h,CVB sm c
theorem zdl.mem {h:Host}(hs:zdl h):CVB sm (.s (.sl .int) h.Memory):=hs _ (by simp [zbn])
theorem zdl.mons {h:Host}(hs:zdl h):CVB sm (.s .mon h.Mons):=hs _ (by simp [zbn])
def NN:Nat:=big+1
theorem zcs {n:Nat}(h:n<=big):n<NN:=Nat.lt_succ_of_le h
theorem zuz {α ρ:Type}(p:α->Bool)(r:Option ρ)(K:Unit->Option ρ):∀(l:List α) (i:Nat),goL (fun _ x (_:Unit) k=>bif p x then r else k ()) K l i ()=bif l.any p then r else K ()
 | [],_=>rfl
 | x :: l,i=>by
  simp only [goL,List.any_cons];cases p x
  ·simp only [cF,Bool.false_or];exact zuz p r K l (i+1)
  ·rfl
def zgZ (p:Nat->Bool):Nat->Nat->Bool
 | 0,_=>true
 | n+1,i=>p i&&zgZ p n (i+1)
theorem zh1 {ρ:Type}(p:Nat->Bool)(r:Option ρ)(K:Unit->Option ρ):∀(n i:Nat),goN (fun i (_:Unit) k=>bif p i then k () else r) K n i ()=bif zgZ p n i then K () else r
 | 0,_=>rfl
 | n+1,i=>by
  simp only [goN,zgZ];cases p i
  ·rfl
  ·simp only [cT,Bool.true_and];exact zh1 p r K n (i+1)
theorem znQ {α τ ρ:Type}(b:Nat->τ->(τ->Option ρ)->Option ρ)(K:τ->Option ρ):∀(l:List α) (i:Nat) (t:τ),goL (fun i _ t k=>b i t k) K l i t=goN b K l.length i t
 | [],_,_=>rfl
 | _ :: l,i,t=>by
  have ih:goL (fun i _ t k=>b i t k) K l (i+1)=goN b K l.length (i+1):=funext fun t=>znQ b K l (i+1) t;simp only [goL,List.length_cons,goN,ih]
theorem zce {α ρ:Type}(p:α->Bool)(r:Option ρ)(K:Unit->Option ρ):∀(l:List α) (i:Nat),goL (fun _ x (_:Unit) k=>bif p x then k () else r) K l i ()=bif l.all p then K () else r
 | [],_=>rfl
 | x :: l,i=>by
  simp only [goL,List.all_cons];cases p x
  ·rfl
  ·simp only [cT,Bool.true_and];exact zce p r K l (i+1)
theorem zl9 {n:Nat}(hn:n<=big)(i:Int):(ige i 0&&ile i (wsub .i64 (n:Int) 1))=hasB i n:=by
 rw [zfO] at hn;rw [zsb (by omega) (by omega)]
 unfold ige ile hasB
 by_cases h1:0<=i<;>by_cases h2:i<n
 ·rw [decide_eq_true (p:=i≥0) (by omega),decide_eq_true (p:=i<=(n:Int)-1) (by omega),decide_eq_true (p:=0<=i/\i<(n:Int)) ⟨h1,h2⟩];rfl
 ·rw [decide_eq_false (p:=i<=(n:Int)-1) (by omega),decide_eq_false (p:=0<=i/\i<(n:Int)) (by omega)];simp
 ·rw [decide_eq_false (p:=i≥0) (by omega),decide_eq_false (p:=0<=i/\i<(n:Int)) (by omega)];simp
 ·rw [decide_eq_false (p:=i≥0) (by omega),decide_eq_false (p:=0<=i/\i<(n:Int)) (by omega)];simp
theorem zxU {σ ρ τ:Type}(n:Nat)(st:Nat->τ->σ)(F:(σ->Option ρ)->σ->Option ρ)(I:Nat->τ->Prop)(res:Nat->τ->Option ρ)(hstep:∀(i:Nat) (t:τ) (rec:σ->Option ρ),i<n->I i t->(∀t',I (i+1) t'->rec (st (i+1) t')=res (i+1) t')->F rec (st i t)=res i t)(hend:∀(t:τ) (rec:σ->Option ρ),I n t->F rec (st n t)=res n t):∀(N i:Nat) (t:τ),I i t->i<=n->n-i<N->iter N F (st i t)=res i t:=by
 have key:∀(m N i:Nat) (t:τ),n-i=m->I i t->i<=n->m<N->iter N F (st i t)=res i t:=by
  intro m
  induction m with
  | zero =>
   intro N i t hm hI hi hN;obtain ⟨k,rfl⟩:∃k,N=k+1:=⟨N-1,by omega⟩
   have:i=n:=by omega
   subst this;rw [zcG];exact hend t _ hI
  | succ m ih =>
   intro N i t hm hI hi hN;obtain ⟨k,rfl⟩:∃k,N=k+1:=⟨N-1,by omega⟩
   rw [zcG];exact hstep i t _ (by omega) hI (fun t' hI'=>ih k (i+1) t' (by omega) hI' (by omega) (by omega))
 intro N i t hI hi hN;exact key (n-i) N i t rfl hI hi hN
section
variable {α:Type}
end
def thn (n:Int)(k:Int->Int):Int:=if n<0 then -1 else k n
def zr1 {α:Type}(f:α->Int->Int):List α->Int->Int
 | [],n=>n
 | x :: l,n=>thn (f x n) (zr1 f l)
def zjs {α:Type}(f:α->Int->Int)(l:List α)(n:Int):Int:=thn (n-l.length) (zr1 f l)
def SzP {α:Type}(sm':α->Prop)(f:α->Int->Int):Prop:=∀x n,0<=n->n<=1048576->f x n<=n/\(0<=f x n->sm' x)
theorem zb4 {P Q:Prop}{f g:Int->Int}(hf:∀n,0<=n->n<=1048576->f n<=n/\(0<=f n->P))(hg:∀n,0<=n->n<=1048576->g n<=n/\(0<=g n->Q)) :
 ∀n,0<=n->n<=1048576->thn (f n) g<=n/\(0<=thn (f n) g->P/\Q):=by
 intro n h0 h1;obtain ⟨a,b⟩:=hf n h0 h1;unfold thn;split
 ·exact ⟨by omega,fun h=>by omega⟩
 ·obtain ⟨c,d⟩:=hg (f n) (by omega) (by omega)
  exact ⟨by omega,fun h=>⟨b (by omega),d h⟩⟩
theorem zdi {α:Type}(l:List α):∀n,0<=n->n<=1048576->szL l n<=n/\(0<=szL l n->l.length<=sm):=by
 intro n h0 h1;unfold szL sm;split
 ·exact ⟨by omega,fun h=>by omega⟩
 ·exact ⟨by omega,fun h=>by omega⟩
theorem zzW {α:Type}{S:α->Prop}{f:α->Int->Int}(hf:SzP S f):∀(l:List α) (n:Int),0<=n->n<=1048576->zr1 f l n<=n/\(0<=zr1 f l n->∀x∈l,S x)
 | [],n,h0,h1=>⟨Int.le_refl _,fun _ x h=>by cases h⟩
 | x :: l,n,h0,h1=>by
  obtain ⟨a,b⟩:=zb4 (hf x) (zzW hf l) n h0 h1;refine ⟨a,fun h y hy=>?_⟩;obtain ⟨c,d⟩:=b h;rcases List.mem_cons.1 hy with rfl|hy
  ·exact c
  ·exact d y hy
theorem zmm {α:Type}{S:α->Prop}{f:α->Int->Int}(hf:SzP S f)(l:List α):∀n,0<=n->n<=1048576->zjs f l n<=n/\(0<=zjs f l n->l.length<=sm/\∀x∈l,S x):=by
 intro n h0 h1;unfold zjs thn;split
 ·exact ⟨by omega,fun h=>by omega⟩
 ·obtain ⟨a,b⟩:=zzW hf l (n-l.length) (by omega) (by omega)
  exact ⟨by omega,fun h=>⟨by unfold sm;omega,b h⟩⟩
theorem ziu {t:Ty}{l:List t.den}(hf:t.flat=true)(h:l.length<=sm):CVB sm (.s t l):=by
 refine .s t l h (fun x _ c hc=>?_);obtain ⟨j,hj⟩:=List.mem_iff_getElem?.1 hc;have:=zgJ hf hj;cases c with
 | i k n=>exact .i k n
 | b x=>exact .b x
 | s t l=>cases this
theorem zbH (n:Int):ilt n 0=decide (n<0):=rfl
theorem znW {α:Type}(l:List α)(d:α)(c:α->Int->Bool)(f:α->Int->Int){S:α->Prop}(hf:SzP S f)(hc:∀x n,0<=n->n<=1048576->c x n=true)(hl:l.length<=big)(n0:Int)(h0:0<=n0)(h1:n0<=1048576){N:Nat}(hN:l.length<N) :
 iter N (fun r (s:Int×Int×List α×Unit)=>(bif (ilt s.2.1 (ln s.2.2.1)) then (bif (inb s.2.1 (ln s.2.2.1)) then (bif (c (ix s.2.2.1 s.2.1 d) s.1) then (bif (ilt (f (ix s.2.2.1 s.2.1 d) s.1) 0) then (some [AV.one (.i .i64 (-1))])
  else (r ((f (ix s.2.2.1 s.2.1 d) s.1),((zW .i64 s.2.1 1),(s.2.2.1,()))))) else none) else none) else (some [.one (.i .i64 s.1)]))) (n0,(0,(l,())))=some [.one (.i .i64 (zr1 f l n0))]:=by
 refine (zbj l (fun i n=>(n,((i:Int),(l,())))) _ (fun _ x n k=>bif c x n then (cond (ilt (f x n) 0) (some [AV.one (.i .i64 (-1))]) (k (f x n))) else none) (fun n=>some [AV.one (.i .i64 n)])
  (fun i hi n rec=>?_) (fun n rec=>?_) _ n0 hN).trans ?_
 ·simp only [zbo hi,zU hi,zbd hi,cT,zZ hi hl]
 ·simp only [zbe,cF]
 ·clear hl hN
  revert n0
  generalize 0=i
  induction l generalizing i with
  | nil=>intro n h0 h1;rfl
  | cons x l ih =>
   intro n h0 h1;have:=hf x n h0 h1;simp only [goL,zr1,hc x n h0 h1,cT,thn,zbH]
   by_cases hneg:f x n<0
   ·simp [hneg]
   ·simp only [hneg,decide_false,cF,if_false];exact ih (i+1) (f x n) (by omega) (by omega)
def zc5 (_:List Int)(n:Int):Bool:=pc (0<=n/\n<=1048576)
def zbI (l:List Int)(n:Int):Int:=szL l n
def zi1:List AV->Option (Bool×List AV)
 | [.one (.s .int b),.one (.i .i64 c)]=>some ((zc5 b c),[.one (.i .i64 (zbI b c))])
 | _=>none
def zly (N:Nat)(a0:List Int)(a1:Int):Option Ans :=
 (cond (ilt (wsub .i64 a1 (ln a0)) 0) (some [(.one (.i .i64 (-1)))]) (some [(.one (.i .i64 (wsub .i64 a1 (ln a0))))]))
theorem zw5 (N:Nat)(a0:List Int)(a1:Int):evalFn (cQ zmZ zba zK zL) (zx []) N 12 26 [.one (.s .int a0),.one (.i .i64 a1)]=zly N a0 a1:=by kernel_rfl
theorem zuZ (a0:List Int)(a1:Int)(hb:zF big [.one (.s .int a0),.one (.i .i64 a1)])(hc:(zc5 a0 a1)=true):∃N,zly N a0 a1=some [.one (.i .i64 (zbI a0 a1))]:=by
 obtain ⟨h0,h1⟩:=zbb.1 hc;have hl:=((zM hb).1 _ (List.mem_singleton.2 rfl)).len;refine ⟨0,?_⟩;simp only [zly,zfH hl h0 h1,zbI,szL,ilt]
 by_cases h:a1-a0.length<0<;>simp [h]
theorem zrf:Holds Tryz.prog 26 zi1:=zk zfP zy zl zn (zA (by kernel_rfl)) fun avs rs hb h=>by
 unfold zi1 at h;split at h
 ·obtain ⟨hc,rfl⟩:=zh h;exact (fin2 zuZ zw5 hc hb :)
 ·cases h
theorem zfq (l:List Int):∀n,0<=n->n<=1048576->zbI l n<=n/\(0<=zbI l n->CVB sm (.s .int l)):=fun n h0 h1=>⟨(zdi l n h0 h1).1,fun h=>ziu (by rfl) ((zdi l n h0 h1).2 h)⟩
def zdK (_:List Bool)(n:Int):Bool:=pc (0<=n/\n<=1048576)
def zbA (l:List Bool)(n:Int):Int:=szL l n
def zhf:List AV->Option (Bool×List AV)
 | [.one (.s .bool b),.one (.i .i64 c)]=>some ((zdK b c),[.one (.i .i64 (zbA b c))])
 | _=>none
def zj1 (N:Nat)(a0:List Bool)(a1:Int):Option Ans :=
 (cond (ilt (wsub .i64 a1 (ln a0)) 0) (some [(.one (.i .i64 (-1)))]) (some [(.one (.i .i64 (wsub .i64 a1 (ln a0))))]))
theorem zvx (N:Nat)(a0:List Bool)(a1:Int):evalFn (cQ zmZ zba zK zL) (zx []) N 12 56 [.one (.s .bool a0),.one (.i .i64 a1)]=zj1 N a0 a1:=by kernel_rfl
theorem zs6 (a0:List Bool)(a1:Int)(hb:zF big [.one (.s .bool a0),.one (.i .i64 a1)])(hc:(zdK a0 a1)=true):∃N,zj1 N a0 a1=some [.one (.i .i64 (zbA a0 a1))]:=by
 obtain ⟨h0,h1⟩:=zbb.1 hc;have hl:=((zM hb).1 _ (List.mem_singleton.2 rfl)).len;refine ⟨0,?_⟩;simp only [zj1,zfH hl h0 h1,zbA,szL,ilt]
 by_cases h:a1-a0.length<0<;>simp [h]
theorem zp2:Holds Tryz.prog 56 zhf:=zk zfP zy zl zn (zA (by kernel_rfl)) fun avs rs hb h=>by
 unfold zhf at h;split at h
 ·obtain ⟨hc,rfl⟩:=zh h;exact (fin2 zs6 zvx hc hb :)
 ·cases h
theorem zgt (l:List Bool):∀n,0<=n->n<=1048576->zbA l n<=n/\(0<=zbA l n->CVB sm (.s .bool l)):=fun n h0 h1=>⟨(zdi l n h0 h1).1,fun h=>ziu (by rfl) ((zdi l n h0 h1).2 h)⟩
def zb6 (_:List Slot)(n:Int):Bool:=pc (0<=n/\n<=1048576)
def zY (l:List Slot)(n:Int):Int:=szL l n
def zhj:List AV->Option (Bool×List AV)
 | [.one (.s .slot b),.one (.i .i64 c)]=>some ((zb6 b c),[.one (.i .i64 (zY b c))])
 | _=>none
def zj5 (N:Nat)(a0:List Slot)(a1:Int):Option Ans :=
 (cond (ilt (wsub .i64 a1 (ln a0)) 0) (some [(.one (.i .i64 (-1)))]) (some [(.one (.i .i64 (wsub .i64 a1 (ln a0))))]))
theorem zvB (N:Nat)(a0:List Slot)(a1:Int):evalFn (cQ zmZ zba zK zL) (zx []) N 12 55 [.one (.s .slot a0),.one (.i .i64 a1)]=zj5 N a0 a1:=by kernel_rfl
theorem zta (a0:List Slot)(a1:Int)(hb:zF big [.one (.s .slot a0),.one (.i .i64 a1)])(hc:(zb6 a0 a1)=true):∃N,zj5 N a0 a1=some [.one (.i .i64 (zY a0 a1))]:=by
 obtain ⟨h0,h1⟩:=zbb.1 hc;have hl:=((zM hb).1 _ (List.mem_singleton.2 rfl)).len;refine ⟨0,?_⟩;simp only [zj5,zfH hl h0 h1,zY,szL,ilt]
 by_cases h:a1-a0.length<0<;>simp [h]
theorem zp6:Holds Tryz.prog 55 zhj:=zk zfP zy zl zn (zA (by kernel_rfl)) fun avs rs hb h=>by
 unfold zhj at h;split at h
 ·obtain ⟨hc,rfl⟩:=zh h;exact (fin2 zta zvB hc hb :)
 ·cases h
theorem zcI (l:List Slot):∀n,0<=n->n<=1048576->zY l n<=n/\(0<=zY l n->CVB sm (.s .slot l)):=fun n h0 h1=>⟨(zdi l n h0 h1).1,fun h=>ziu (by rfl) ((zdi l n h0 h1).2 h)⟩
def zhM (_:List Ins)(n:Int):Bool:=pc (0<=n/\n<=1048576)
def zb3 (l:List Ins)(n:Int):Int:=szL l n
def zi0:List AV->Option (Bool×List AV)
 | [.one (.s .ins b),.one (.i .i64 c)]=>some ((zhM b c),[.one (.i .i64 (zb3 b c))])
 | _=>none
def zlx (N:Nat)(a0:List Ins)(a1:Int):Option Ans :=
 (cond (ilt (wsub .i64 a1 (ln a0)) 0) (some [(.one (.i .i64 (-1)))]) (some [(.one (.i .i64 (wsub .i64 a1 (ln a0))))]))
theorem zw4 (N:Nat)(a0:List Ins)(a1:Int):evalFn (cQ zmZ zba zK zL) (zx []) N 12 99 [.one (.s .ins a0),.one (.i .i64 a1)]=zlx N a0 a1:=by kernel_rfl
theorem zuY (a0:List Ins)(a1:Int)(hb:zF big [.one (.s .ins a0),.one (.i .i64 a1)])(hc:(zhM a0 a1)=true):∃N,zlx N a0 a1=some [.one (.i .i64 (zb3 a0 a1))]:=by
 obtain ⟨h0,h1⟩:=zbb.1 hc;have hl:=((zM hb).1 _ (List.mem_singleton.2 rfl)).len;refine ⟨0,?_⟩;simp only [zlx,zfH hl h0 h1,zb3,szL,ilt]
 by_cases h:a1-a0.length<0<;>simp [h]
theorem zre:Holds Tryz.prog 99 zi0:=zk zfP zy zl zn (zA (by kernel_rfl)) fun avs rs hb h=>by
 unfold zi0 at h;split at h
 ·obtain ⟨hc,rfl⟩:=zh h;exact (fin2 zuY zw4 hc hb :)
 ·cases h
theorem zqf (l:List Ins):∀n,0<=n->n<=1048576->zb3 l n<=n/\(0<=zb3 l n->CVB sm (.s .ins l)):=fun n h0 h1=>⟨(zdi l n h0 h1).1,fun h=>ziu (by rfl) ((zdi l n h0 h1).2 h)⟩
def zdp (_:List Entry)(n:Int):Bool:=pc (0<=n/\n<=1048576)
def zbM (l:List Entry)(n:Int):Int:=szL l n
def zf5:List AV->Option (Bool×List AV)
 | [.one (.s .entry b),.one (.i .i64 c)]=>some ((zdp b c),[.one (.i .i64 (zbM b c))])
 | _=>none
def zif (N:Nat)(a0:List Entry)(a1:Int):Option Ans :=
 (cond (ilt (wsub .i64 a1 (ln a0)) 0) (some [(.one (.i .i64 (-1)))]) (some [(.one (.i .i64 (wsub .i64 a1 (ln a0))))]))
theorem ztp (N:Nat)(a0:List Entry)(a1:Int):evalFn (cQ zmZ zba zK zL) (zx []) N 12 11 [.one (.s .entry a0),.one (.i .i64 a1)]=zif N a0 a1:=by kernel_rfl
theorem zrK (a0:List Entry)(a1:Int)(hb:zF big [.one (.s .entry a0),.one (.i .i64 a1)])(hc:(zdp a0 a1)=true):∃N,zif N a0 a1=some [.one (.i .i64 (zbM a0 a1))]:=by
 obtain ⟨h0,h1⟩:=zbb.1 hc;have hl:=((zM hb).1 _ (List.mem_singleton.2 rfl)).len;refine ⟨0,?_⟩;simp only [zif,zfH hl h0 h1,zbM,szL,ilt]
 by_cases h:a1-a0.length<0<;>simp [h]
theorem zoX:Holds Tryz.prog 11 zf5:=zk zfP zy zl zn (zA (by kernel_rfl)) fun avs rs hb h=>by
 unfold zf5 at h;split at h
 ·obtain ⟨hc,rfl⟩:=zh h;exact (fin2 zrK ztp hc hb :)
 ·cases h
theorem zfo (l:List Entry):∀n,0<=n->n<=1048576->zbM l n<=n/\(0<=zbM l n->CVB sm (.s .entry l)):=fun n h0 h1=>⟨(zdi l n h0 h1).1,fun h=>ziu (by rfl) ((zdi l n h0 h1).2 h)⟩
def zuq:zbg:=[(26,zi1),(56,zhf),(55,zhj),(99,zi0),(11,zf5)]++zmZ
theorem znK:zbl zuq:=zi zrf (zi zp2 (zi zp6 (zi zre (zi zoX zfP))))
theorem zqg:SzP (fun x=>∀c∈Ty.cells (.sl .int) x,CVB sm c) zbI:=by
 intro x n h0 h1;obtain ⟨a,b⟩:=zfq x n h0 h1;exact ⟨a,fun h c hc=>by rw [List.mem_singleton.1 hc];exact b h⟩
def zdL (_:List (List Int))(n:Int):Bool:=pc (0<=n/\n<=1048576)
def zbk (l:List (List Int))(n:Int):Int:=zjs zbI l n
def zhh:List AV->Option (Bool×List AV)
 | [.one (.s (.sl .int) b),.one (.i .i64 c)]=>some ((zdL b c),[.one (.i .i64 (zbk b c))])
 | _=>none
def zj3 (N:Nat)(a0:List (List Int))(a1:Int):Option Ans :=
 (cond (ilt (wsub .i64 a1 (ln a0)) 0) (some [(.one (.i .i64 (-1)))]) (iter (σ:=(Int×(Int×((List (List Int))×Unit)))) N (fun r3 s4=>(cond (ilt s4.2.1 (ln s4.2.2.1)) (cond (inb s4.2.1 (ln s4.2.2.1)) (cond (zc5 (ix s4.2.2.1 s4.2.1 []) s4.1) (cond (ilt (zbI (ix s4.2.2.1 s4.2.1 []) s4.1) 0) (some [(.one (.i .i64 (-1)))]) (r3 ((zbI (ix s4.2.2.1 s4.2.1 []) s4.1),((zW .i64 s4.2.1 1),(s4.2.2.1,()))))) none) none) (some [(.one (.i .i64 s4.1))]))) ((wsub .i64 a1 (ln a0)),(0,(a0,())))))
def ztD:FuncId->Nat->Option Tmpl:=zx [(9,0,{ n:=27,tm:=[(0,.sl 0 []),(1,.i .i64),(5,.i .i64)],lo:=[],ro:=[(0,(.sl .int),false)] })]
theorem zvz (N:Nat)(a0:List (List Int))(a1:Int):evalFn (cQ zuq zba zK zL) ztD N 12 9 [.one (.s (.sl .int) a0),.one (.i .i64 a1)]=zj3 N a0 a1:=by kernel_rfl
theorem zgv (l:List (List Int)):∀n,0<=n->n<=1048576->zbk l n<=n/\(0<=zbk l n->CVB sm (.s (.sl .int) l)):=fun n h0 h1=>by
 obtain ⟨a,b⟩:=zmm (S:=fun x=>∀c∈Ty.cells (.sl .int) x,CVB sm c) (f:=zbI) zqg l n h0 h1;exact ⟨a,fun h=>.s (.sl .int) l (b h).1 (b h).2⟩
theorem zs8 (a0:List (List Int))(a1:Int)(hb:zF big [.one (.s (.sl .int) a0),.one (.i .i64 a1)])(hc:(zdL a0 a1)=true):∃N,zj3 N a0 a1=some [.one (.i .i64 (zbk a0 a1))]:=by
 obtain ⟨h0,h1⟩:=zbb.1 hc;have hl:=((zM hb).1 _ (List.mem_singleton.2 rfl)).len;refine ⟨a0.length+1,?_⟩;simp only [zj3,zfH hl h0 h1,zbk,zjs,thn,zbH]
 by_cases h:a1-a0.length<0
 ·simp [h]
 ·simp only [h,decide_false,cF,if_false];exact znW a0 _ zc5 zbI zqg (fun x n h0 h1=>zO ⟨h0,h1⟩) hl _ (by omega) (by omega) (Nat.lt_succ_self _)
theorem zp4:Holds Tryz.prog 9 zhh:=zk znK zy zl zn (zA (by kernel_rfl)) fun avs rs hb h=>by
 unfold zhh at h;split at h
 ·obtain ⟨hc,rfl⟩:=zh h;exact (fin2 zs8 zvz hc hb :)
 ·cases h
def zgu (_:Guest)(n:Int):Bool:=pc (0<=n/\n<=1048576)
def zc4 (x:Guest)(n:Int):Int:=(fun n=>thn (zb3 x.Prog n) (fun n=>thn (zY x.Written n) (fun n=>thn (zY x.Live n) (fun n=>thn (zbI x.Seen n) (fun n=>n))))) n
def zhg:List AV->Option (Bool×List AV)
 | [.agg [.s .ins c,.i .i64 d,.i .i64 e,.s .slot f,.s .slot g,.i .i64 h,.i .i64 j,.b k,.i .i64 l,.i .i64 m,.i .i64 n,.b o,.i .i64 p,.b q,.s .int r],.one (.i .i64 t)]=>some ((zgu (⟨c,d,e,f,g,⟨h,j,k⟩,l,⟨m,n,o,p⟩,q,r⟩:Guest) t),[.one (.i .i64 (zc4 (⟨c,d,e,f,g,⟨h,j,k⟩,l,⟨m,n,o,p⟩,q,r⟩:Guest) t))])
 | _=>none
def zj2 (N:Nat)(a0:Guest)(a1:Int):Option Ans :=
 (cond (zhM a0.Prog a1) (cond (ilt (zb3 a0.Prog a1) 0) (some [(.one (.i .i64 (-1)))]) (cond (zb6 a0.Written (zb3 a0.Prog a1)) (cond (ilt (zY a0.Written (zb3 a0.Prog a1)) 0) (some [(.one (.i .i64 (-1)))]) (cond (zb6 a0.Live (zY a0.Written (zb3 a0.Prog a1))) (cond (ilt (zY a0.Live (zY a0.Written (zb3 a0.Prog a1))) 0) (some [(.one (.i .i64 (-1)))]) (cond (zc5 a0.Seen (zY a0.Live (zY a0.Written (zb3 a0.Prog a1)))) (cond (ilt (zbI a0.Seen (zY a0.Live (zY a0.Written (zb3 a0.Prog a1)))) 0) (some [(.one (.i .i64 (-1)))]) (some [(.one (.i .i64 (zbI a0.Seen (zY a0.Live (zY a0.Written (zb3 a0.Prog a1))))))])) none)) none)) none)) none)
theorem zvy (N:Nat)(a0:Guest)(a1:Int):evalFn (cQ zuq zba zK zL) (zx []) N 12 81 [.agg (Ty.cells .guest a0),.one (.i .i64 a1)]=zj2 N a0 a1:=by kernel_rfl
theorem zoi:SzP (fun x=>∀c∈Ty.cells .guest x,CVB sm c) zc4:=by
 intro x n h0 h1;obtain ⟨a,b⟩:=zb4 (zqf x.Prog) (zb4 (zcI x.Written) (zb4 (zcI x.Live) (zb4 (zfq x.Seen) (fun n _ _=>⟨Int.le_refl _,fun _=>trivial⟩)))) n h0 h1;refine ⟨a,fun h c hc=>?_⟩;obtain ⟨g0,g1,g2,g3,_⟩:=b h;simp only [Ty.cells,List.mem_cons,List.not_mem_nil,or_false] at hc;rcases hc with rfl|rfl|rfl|rfl|rfl|rfl|rfl|rfl|rfl|rfl|rfl|rfl|rfl|rfl|rfl
 ·exact g0
 ·first|exact .i _ _|exact .b _
 ·first|exact .i _ _|exact .b _
 ·exact g1
 ·exact g2
 ·first|exact .i _ _|exact .b _
 ·first|exact .i _ _|exact .b _
 ·first|exact .i _ _|exact .b _
 ·first|exact .i _ _|exact .b _
 ·first|exact .i _ _|exact .b _
 ·first|exact .i _ _|exact .b _
 ·first|exact .i _ _|exact .b _
 ·first|exact .i _ _|exact .b _
 ·first|exact .i _ _|exact .b _
 ·exact g3
theorem zs7 (a0:Guest)(a1:Int)(hb:zF big [.agg (Ty.cells .guest a0),.one (.i .i64 a1)])(hc:(zgu a0 a1)=true):∃N,zj2 N a0 a1=some [.one (.i .i64 (zc4 a0 a1))]:=by
 obtain ⟨h0,h1⟩:=zbb.1 hc;refine ⟨0,?_⟩;unfold zj2 zc4;simp only [thn];have c0:zhM a0.Prog a1=true:=zO ⟨by omega,by omega⟩
 have p0:=(zqf a0.Prog a1 (by omega) (by omega)).1
 rw [c0,cT];generalize zb3 a0.Prog a1=n0 at *;rw [zbH]
 by_cases k0:n0<0
 ·simp [k0]
 simp only [k0,decide_false,cF,if_false];have c1:zb6 a0.Written n0=true:=zO ⟨by omega,by omega⟩
 have p1:=(zcI a0.Written n0 (by omega) (by omega)).1
 rw [c1,cT];generalize zY a0.Written n0=n1 at *;rw [zbH]
 by_cases k1:n1<0
 ·simp [k1]
 simp only [k1,decide_false,cF,if_false];have c2:zb6 a0.Live n1=true:=zO ⟨by omega,by omega⟩
 have p2:=(zcI a0.Live n1 (by omega) (by omega)).1
 rw [c2,cT];generalize zY a0.Live n1=n2 at *;rw [zbH]
 by_cases k2:n2<0
 ·simp [k2]
 simp only [k2,decide_false,cF,if_false];have c3:zc5 a0.Seen n2=true:=zO ⟨by omega,by omega⟩
 have p3:=(zfq a0.Seen n2 (by omega) (by omega)).1
 rw [c3,cT];generalize zbI a0.Seen n2=n3 at *;rw [zbH]
 by_cases k3:n3<0
 ·simp [k3]
 simp only [k3,decide_false,cF,if_false]
theorem zp3:Holds Tryz.prog 81 zhg:=zk znK zy zl zn (zA (by kernel_rfl)) fun avs rs hb h=>by
 unfold zhg at h;split at h
 ·obtain ⟨hc,rfl⟩:=zh h;exact (fin2 zs7 zvy hc hb :)
 ·cases h
def zhN (_:Kept)(n:Int):Bool:=pc (0<=n/\n<=1048576)
def zdB (x:Kept)(n:Int):Int:=(fun n=>thn (zbA x.Known n) (fun n=>thn (zY x.Slots n) (fun n=>n))) n
def zi2:List AV->Option (Bool×List AV)
 | [.agg [.s .bool b,.s .slot c],.one (.i .i64 d)]=>some ((zhN (⟨b,c⟩:Kept) d),[.one (.i .i64 (zdB (⟨b,c⟩:Kept) d))])
 | _=>none
def zlz (N:Nat)(a0:Kept)(a1:Int):Option Ans :=
 (cond (zdK a0.Known a1) (cond (ilt (zbA a0.Known a1) 0) (some [(.one (.i .i64 (-1)))]) (cond (zb6 a0.Slots (zbA a0.Known a1)) (cond (ilt (zY a0.Slots (zbA a0.Known a1)) 0) (some [(.one (.i .i64 (-1)))]) (some [(.one (.i .i64 (zY a0.Slots (zbA a0.Known a1))))])) none)) none)
theorem zw6 (N:Nat)(a0:Kept)(a1:Int):evalFn (cQ zuq zba zK zL) (zx []) N 12 82 [.agg (Ty.cells .kept a0),.one (.i .i64 a1)]=zlz N a0 a1:=by kernel_rfl
theorem zqh:SzP (fun x=>∀c∈Ty.cells .kept x,CVB sm c) zdB:=by
 intro x n h0 h1;obtain ⟨a,b⟩:=zb4 (zgt x.Known) (zb4 (zcI x.Slots) (fun n _ _=>⟨Int.le_refl _,fun _=>trivial⟩)) n h0 h1;refine ⟨a,fun h c hc=>?_⟩;obtain ⟨g0,g1,_⟩:=b h;simp only [Ty.cells,List.mem_cons,List.not_mem_nil,or_false] at hc;rcases hc with rfl|rfl
 ·exact g0
 ·exact g1
theorem zu0 (a0:Kept)(a1:Int)(hb:zF big [.agg (Ty.cells .kept a0),.one (.i .i64 a1)])(hc:(zhN a0 a1)=true):∃N,zlz N a0 a1=some [.one (.i .i64 (zdB a0 a1))]:=by
 obtain ⟨h0,h1⟩:=zbb.1 hc;refine ⟨0,?_⟩;unfold zlz zdB;simp only [thn];have c0:zdK a0.Known a1=true:=zO ⟨by omega,by omega⟩
 have p0:=(zgt a0.Known a1 (by omega) (by omega)).1
 rw [c0,cT];generalize zbA a0.Known a1=n0 at *;rw [zbH]
 by_cases k0:n0<0
 ·simp [k0]
 simp only [k0,decide_false,cF,if_false];have c1:zb6 a0.Slots n0=true:=zO ⟨by omega,by omega⟩
 have p1:=(zcI a0.Slots n0 (by omega) (by omega)).1
 rw [c1,cT];generalize zY a0.Slots n0=n1 at *;rw [zbH]
 by_cases k1:n1<0
 ·simp [k1]
 simp only [k1,decide_false,cF,if_false]
theorem zrg:Holds Tryz.prog 82 zi2:=zk znK zy zl zn (zA (by kernel_rfl)) fun avs rs hb h=>by
 unfold zi2 at h;split at h
 ·obtain ⟨hc,rfl⟩:=zh h;exact (fin2 zu0 zw6 hc hb :)
 ·cases h
def zyn:zbg:=[(9,zhh),(81,zhg),(82,zi2)]++zuq
theorem zqM:zbl zyn:=zi zp4 (zi zp3 (zi zrg znK))
def zfp (_:List Guest)(n:Int):Bool:=pc (0<=n/\n<=1048576)
def zbT (l:List Guest)(n:Int):Int:=zjs zc4 l n
def zf6:List AV->Option (Bool×List AV)
 | [.one (.s .guest b),.one (.i .i64 c)]=>some ((zfp b c),[.one (.i .i64 (zbT b c))])
 | _=>none
def zih (N:Nat)(a0:List Guest)(a1:Int):Option Ans :=
 (cond (ilt (wsub .i64 a1 (ln a0)) 0) (some [(.one (.i .i64 (-1)))]) (iter (σ:=(Int×(Int×((List Guest)×Unit)))) N (fun r3 s4=>(cond (ilt s4.2.1 (ln s4.2.2.1)) (cond (inb s4.2.1 (ln s4.2.2.1)) (cond (zgu (ix s4.2.2.1 s4.2.1 zbq) s4.1) (cond (ilt (zc4 (ix s4.2.2.1 s4.2.1 zbq) s4.1) 0) (some [(.one (.i .i64 (-1)))]) (r3 ((zc4 (ix s4.2.2.1 s4.2.1 zbq) s4.1),((zW .i64 s4.2.1 1),(s4.2.2.1,()))))) none) none) (some [(.one (.i .i64 s4.1))]))) ((wsub .i64 a1 (ln a0)),(0,(a0,())))))
def zr5:FuncId->Nat->Option Tmpl:=zx [(57,0,{ n:=27,tm:=[(0,.sl 0 []),(1,.i .i64),(5,.i .i64)],lo:=[],ro:=[(0,.guest,false)] })]
theorem ztq (N:Nat)(a0:List Guest)(a1:Int):evalFn (cQ zyn zba zK zL) zr5 N 12 57 [.one (.s .guest a0),.one (.i .i64 a1)]=zih N a0 a1:=by kernel_rfl
theorem znh (l:List Guest):∀n,0<=n->n<=1048576->zbT l n<=n/\(0<=zbT l n->CVB sm (.s .guest l)):=fun n h0 h1=>by
 obtain ⟨a,b⟩:=zmm (S:=fun x=>∀c∈Ty.cells .guest x,CVB sm c) (f:=zc4) zoi l n h0 h1;exact ⟨a,fun h=>.s .guest l (b h).1 (b h).2⟩
theorem zrL (a0:List Guest)(a1:Int)(hb:zF big [.one (.s .guest a0),.one (.i .i64 a1)])(hc:(zfp a0 a1)=true):∃N,zih N a0 a1=some [.one (.i .i64 (zbT a0 a1))]:=by
 obtain ⟨h0,h1⟩:=zbb.1 hc;have hl:=((zM hb).1 _ (List.mem_singleton.2 rfl)).len;refine ⟨a0.length+1,?_⟩;simp only [zih,zfH hl h0 h1,zbT,zjs,thn,zbH]
 by_cases h:a1-a0.length<0
 ·simp [h]
 ·simp only [h,decide_false,cF,if_false];exact znW a0 _ zgu zc4 zoi (fun x n h0 h1=>zO ⟨h0,h1⟩) hl _ (by omega) (by omega) (Nat.lt_succ_self _)
theorem zoY:Holds Tryz.prog 57 zf6:=zk zqM zy zl zn (zA (by kernel_rfl)) fun avs rs hb h=>by
 unfold zf6 at h;split at h
 ·obtain ⟨hc,rfl⟩:=zh h;exact (fin2 zrL ztq hc hb :)
 ·cases h
def zgw (_:List Kept)(n:Int):Bool:=pc (0<=n/\n<=1048576)
def zc6 (l:List Kept)(n:Int):Int:=zjs zdB l n
def zhi:List AV->Option (Bool×List AV)
 | [.one (.s .kept b),.one (.i .i64 c)]=>some ((zgw b c),[.one (.i .i64 (zc6 b c))])
 | _=>none
def zj4 (N:Nat)(a0:List Kept)(a1:Int):Option Ans :=
 (cond (ilt (wsub .i64 a1 (ln a0)) 0) (some [(.one (.i .i64 (-1)))]) (iter (σ:=(Int×(Int×((List Kept)×Unit)))) N (fun r3 s4=>(cond (ilt s4.2.1 (ln s4.2.2.1)) (cond (inb s4.2.1 (ln s4.2.2.1)) (cond (zhN (ix s4.2.2.1 s4.2.1 zbV) s4.1) (cond (ilt (zdB (ix s4.2.2.1 s4.2.1 zbV) s4.1) 0) (some [(.one (.i .i64 (-1)))]) (r3 ((zdB (ix s4.2.2.1 s4.2.1 zbV) s4.1),((zW .i64 s4.2.1 1),(s4.2.2.1,()))))) none) none) (some [(.one (.i .i64 s4.1))]))) ((wsub .i64 a1 (ln a0)),(0,(a0,())))))
def ztE:FuncId->Nat->Option Tmpl:=zx [(58,0,{ n:=27,tm:=[(0,.sl 0 []),(1,.i .i64),(5,.i .i64)],lo:=[],ro:=[(0,.kept,false)] })]
theorem zvA (N:Nat)(a0:List Kept)(a1:Int):evalFn (cQ zyn zba zK zL) ztE N 12 58 [.one (.s .kept a0),.one (.i .i64 a1)]=zj4 N a0 a1:=by kernel_rfl
theorem zoj (l:List Kept):∀n,0<=n->n<=1048576->zc6 l n<=n/\(0<=zc6 l n->CVB sm (.s .kept l)):=fun n h0 h1=>by
 obtain ⟨a,b⟩:=zmm (S:=fun x=>∀c∈Ty.cells .kept x,CVB sm c) (f:=zdB) zqh l n h0 h1;exact ⟨a,fun h=>.s .kept l (b h).1 (b h).2⟩
theorem zs9 (a0:List Kept)(a1:Int)(hb:zF big [.one (.s .kept a0),.one (.i .i64 a1)])(hc:(zgw a0 a1)=true):∃N,zj4 N a0 a1=some [.one (.i .i64 (zc6 a0 a1))]:=by
 obtain ⟨h0,h1⟩:=zbb.1 hc;have hl:=((zM hb).1 _ (List.mem_singleton.2 rfl)).len;refine ⟨a0.length+1,?_⟩;simp only [zj4,zfH hl h0 h1,zc6,zjs,thn,zbH]
 by_cases h:a1-a0.length<0
 ·simp [h]
 ·simp only [h,decide_false,cF,if_false];exact znW a0 _ zhN zdB zqh (fun x n h0 h1=>zO ⟨h0,h1⟩) hl _ (by omega) (by omega) (Nat.lt_succ_self _)
theorem zp5:Holds Tryz.prog 58 zhi:=zk zqM zy zl zn (zA (by kernel_rfl)) fun avs rs hb h=>by
 unfold zhi at h;split at h
 ·obtain ⟨hc,rfl⟩:=zh h;exact (fin2 zs9 zvA hc hb :)
 ·cases h
def zAc:zbg:=[(57,zf6),(58,zhi)]++zyn
theorem zxG:zbl zAc:=zi zoY (zi zp5 zqM)
def zjG (_:Mon)(n:Int):Bool:=pc (0<=n/\n<=1048576)
def zeh (x:Mon)(n:Int):Int:=(fun n=>thn (zY x.Outer n) (fun n=>thn (zbk x.Out n) (fun n=>thn (zbA x.Dirty n) (fun n=>thn (zbT x.Guests n) (fun n=>thn (zbI x.Outs n) (fun n=>thn (zc6 x.Tables n) (fun n=>n))))))) n
def zkq:List AV->Option (Bool×List AV)
 | [.agg [.s .slot b,.s (.sl .int) c,.s .bool d,.s .guest e,.s .int f,.i .i64 g,.i .i64 h,.s .kept j,.i .i64 k],.one (.i .i64 l)]=>some ((zjG (⟨b,c,d,e,f,g,h,j,k⟩:Mon) l),[.one (.i .i64 (zeh (⟨b,c,d,e,f,g,h,j,k⟩:Mon) l))])
 | _=>none
def zmF (N:Nat)(a0:Mon)(a1:Int):Option Ans :=
 (cond (zb6 a0.Outer a1) (cond (ilt (zY a0.Outer a1) 0) (some [(.one (.i .i64 (-1)))]) (cond (zdL a0.Out (zY a0.Outer a1)) (cond (ilt (zbk a0.Out (zY a0.Outer a1)) 0) (some [(.one (.i .i64 (-1)))]) (cond (zdK a0.Dirty (zbk a0.Out (zY a0.Outer a1))) (cond (ilt (zbA a0.Dirty (zbk a0.Out (zY a0.Outer a1))) 0) (some [(.one (.i .i64 (-1)))]) (cond (zfp a0.Guests (zbA a0.Dirty (zbk a0.Out (zY a0.Outer a1)))) (cond (ilt (zbT a0.Guests (zbA a0.Dirty (zbk a0.Out (zY a0.Outer a1)))) 0) (some [(.one (.i .i64 (-1)))]) (cond (zc5 a0.Outs (zbT a0.Guests (zbA a0.Dirty (zbk a0.Out (zY a0.Outer a1))))) (cond (ilt (zbI a0.Outs (zbT a0.Guests (zbA a0.Dirty (zbk a0.Out (zY a0.Outer a1))))) 0) (some [(.one (.i .i64 (-1)))]) (cond (zgw a0.Tables (zbI a0.Outs (zbT a0.Guests (zbA a0.Dirty (zbk a0.Out (zY a0.Outer a1)))))) (cond (ilt (zc6 a0.Tables (zbI a0.Outs (zbT a0.Guests (zbA a0.Dirty (zbk a0.Out (zY a0.Outer a1)))))) 0) (some [(.one (.i .i64 (-1)))]) (some [(.one (.i .i64 (zc6 a0.Tables (zbI a0.Outs (zbT a0.Guests (zbA a0.Dirty (zbk a0.Out (zY a0.Outer a1))))))))])) none)) none)) none)) none)) none)) none)
theorem zyL (N:Nat)(a0:Mon)(a1:Int):evalFn (cQ zAc zba zK zL) (zx []) N 12 27 [.agg (Ty.cells .mon a0),.one (.i .i64 a1)]=zmF N a0 a1:=by kernel_rfl
theorem zsn:SzP (fun x=>∀c∈Ty.cells .mon x,CVB sm c) zeh:=by
 intro x n h0 h1;obtain ⟨a,b⟩:=zb4 (zcI x.Outer) (zb4 (zgv x.Out) (zb4 (zgt x.Dirty) (zb4 (znh x.Guests) (zb4 (zfq x.Outs) (zb4 (zoj x.Tables) (fun n _ _=>⟨Int.le_refl _,fun _=>trivial⟩)))))) n h0 h1;refine ⟨a,fun h c hc=>?_⟩;obtain ⟨g0,g1,g2,g3,g4,g5,_⟩:=b h;simp only [Ty.cells,List.mem_cons,List.not_mem_nil,or_false] at hc;rcases hc with rfl|rfl|rfl|rfl|rfl|rfl|rfl|rfl|rfl
 ·exact g0
 ·exact g1
 ·exact g2
 ·exact g3
 ·exact g4
 ·first|exact .i _ _|exact .b _
 ·first|exact .i _ _|exact .b _
 ·exact g5
 ·first|exact .i _ _|exact .b _
theorem zwz (a0:Mon)(a1:Int)(hb:zF big [.agg (Ty.cells .mon a0),.one (.i .i64 a1)])(hc:(zjG a0 a1)=true):∃N,zmF N a0 a1=some [.one (.i .i64 (zeh a0 a1))]:=by
 obtain ⟨h0,h1⟩:=zbb.1 hc;refine ⟨0,?_⟩;unfold zmF zeh;simp only [thn];have c0:zb6 a0.Outer a1=true:=zO ⟨by omega,by omega⟩
 have p0:=(zcI a0.Outer a1 (by omega) (by omega)).1
 rw [c0,cT];generalize zY a0.Outer a1=n0 at *;rw [zbH]
 by_cases k0:n0<0
 ·simp [k0]
 simp only [k0,decide_false,cF,if_false];have c1:zdL a0.Out n0=true:=zO ⟨by omega,by omega⟩
 have p1:=(zgv a0.Out n0 (by omega) (by omega)).1
 rw [c1,cT];generalize zbk a0.Out n0=n1 at *;rw [zbH]
 by_cases k1:n1<0
 ·simp [k1]
 simp only [k1,decide_false,cF,if_false];have c2:zdK a0.Dirty n1=true:=zO ⟨by omega,by omega⟩
 have p2:=(zgt a0.Dirty n1 (by omega) (by omega)).1
 rw [c2,cT];generalize zbA a0.Dirty n1=n2 at *;rw [zbH]
 by_cases k2:n2<0
 ·simp [k2]
 simp only [k2,decide_false,cF,if_false];have c3:zfp a0.Guests n2=true:=zO ⟨by omega,by omega⟩
 have p3:=(znh a0.Guests n2 (by omega) (by omega)).1
 rw [c3,cT];generalize zbT a0.Guests n2=n3 at *;rw [zbH]
 by_cases k3:n3<0
 ·simp [k3]
 simp only [k3,decide_false,cF,if_false];have c4:zc5 a0.Outs n3=true:=zO ⟨by omega,by omega⟩
 have p4:=(zfq a0.Outs n3 (by omega) (by omega)).1
 rw [c4,cT];generalize zbI a0.Outs n3=n4 at *;rw [zbH]
 by_cases k4:n4<0
 ·simp [k4]
 simp only [k4,decide_false,cF,if_false];have c5:zgw a0.Tables n4=true:=zO ⟨by omega,by omega⟩
 have p5:=(zoj a0.Tables n4 (by omega) (by omega)).1
 rw [c5,cT];generalize zc6 a0.Tables n4=n5 at *;rw [zbH]
 by_cases k5:n5<0
 ·simp [k5]
 simp only [k5,decide_false,cF,if_false]
theorem zsJ:Holds Tryz.prog 27 zkq:=zk zxG zy zl zn (zA (by kernel_rfl)) fun avs rs hb h=>by
 unfold zkq at h;split at h
 ·obtain ⟨hc,rfl⟩:=zh h;exact (fin2 zwz zyL hc hb :)
 ·cases h
def zAd:zbg:=[(27,zkq)]++zAc
theorem zxH:zbl zAd:=zi zsJ zxG
def zhO (_:List Mon)(n:Int):Bool:=pc (0<=n/\n<=1048576)
def zco (l:List Mon)(n:Int):Int:=zjs zeh l n
def zi3:List AV->Option (Bool×List AV)
 | [.one (.s .mon b),.one (.i .i64 c)]=>some ((zhO b c),[.one (.i .i64 (zco b c))])
 | _=>none
def zlA (N:Nat)(a0:List Mon)(a1:Int):Option Ans :=
 (cond (ilt (wsub .i64 a1 (ln a0)) 0) (some [(.one (.i .i64 (-1)))]) (iter (σ:=(Int×(Int×((List Mon)×Unit)))) N (fun r3 s4=>(cond (ilt s4.2.1 (ln s4.2.2.1)) (cond (inb s4.2.1 (ln s4.2.2.1)) (cond (zjG (ix s4.2.2.1 s4.2.1 zG) s4.1) (cond (ilt (zeh (ix s4.2.2.1 s4.2.1 zG) s4.1) 0) (some [(.one (.i .i64 (-1)))]) (r3 ((zeh (ix s4.2.2.1 s4.2.1 zG) s4.1),((zW .i64 s4.2.1 1),(s4.2.2.1,()))))) none) none) (some [(.one (.i .i64 s4.1))]))) ((wsub .i64 a1 (ln a0)),(0,(a0,())))))
def zv0:FuncId->Nat->Option Tmpl:=zx [(10,0,{ n:=27,tm:=[(0,.sl 0 []),(1,.i .i64),(5,.i .i64)],lo:=[],ro:=[(0,.mon,false)] })]
theorem zw7 (N:Nat)(a0:List Mon)(a1:Int):evalFn (cQ zAd zba zK zL) zv0 N 12 10 [.one (.s .mon a0),.one (.i .i64 a1)]=zlA N a0 a1:=by kernel_rfl
theorem zqi (l:List Mon):∀n,0<=n->n<=1048576->zco l n<=n/\(0<=zco l n->CVB sm (.s .mon l)):=fun n h0 h1=>by
 obtain ⟨a,b⟩:=zmm (S:=fun x=>∀c∈Ty.cells .mon x,CVB sm c) (f:=zeh) zsn l n h0 h1;exact ⟨a,fun h=>.s .mon l (b h).1 (b h).2⟩
theorem zu1 (a0:List Mon)(a1:Int)(hb:zF big [.one (.s .mon a0),.one (.i .i64 a1)])(hc:(zhO a0 a1)=true):∃N,zlA N a0 a1=some [.one (.i .i64 (zco a0 a1))]:=by
 obtain ⟨h0,h1⟩:=zbb.1 hc;have hl:=((zM hb).1 _ (List.mem_singleton.2 rfl)).len;refine ⟨a0.length+1,?_⟩;simp only [zlA,zfH hl h0 h1,zco,zjs,thn,zbH]
 by_cases h:a1-a0.length<0
 ·simp [h]
 ·simp only [h,decide_false,cF,if_false];exact znW a0 _ zjG zeh zsn (fun x n h0 h1=>zO ⟨h0,h1⟩) hl _ (by omega) (by omega) (Nat.lt_succ_self _)
theorem zrh:Holds Tryz.prog 10 zi3:=zk zxH zy zl zn (zA (by kernel_rfl)) fun avs rs hb h=>by
 unfold zi3 at h;split at h
 ·obtain ⟨hc,rfl⟩:=zh h;exact (fin2 zu1 zw7 hc hb :)
 ·cases h
def zAe:zbg:=[(10,zi3)]++zAd
theorem zxI:zbl zAe:=zi zrh zxH
def zhL (_:Host)(n:Int):Bool:=pc (0<=n/\n<=1048576)
def zdh (x:Host)(n:Int):Int:=(fun n=>thn (zbk x.Memory n) (fun n=>thn (zco x.Mons n) (fun n=>thn (zbM x.Buffer n) (fun n=>thn (zbM x.IoBuffer n) (fun n=>n))))) n
def zfw:List AV->Option (Bool×List AV)
 | [.agg [.s (.sl .int) b,.s .mon c,.s .entry d,.s .entry e],.one (.i .i64 f)]=>some ((zhL (⟨b,c,d,e⟩:Host) f),[.one (.i .i64 (zdh (⟨b,c,d,e⟩:Host) f))])
 | _=>none
def zlw (N:Nat)(a0:Host)(a1:Int):Option Ans :=
 (cond (zdL a0.Memory a1) (cond (ilt (zbk a0.Memory a1) 0) (some [(.one (.i .i64 (-1)))]) (cond (zhO a0.Mons (zbk a0.Memory a1)) (cond (ilt (zco a0.Mons (zbk a0.Memory a1)) 0) (some [(.one (.i .i64 (-1)))]) (cond (zdp a0.Buffer (zco a0.Mons (zbk a0.Memory a1))) (cond (ilt (zbM a0.Buffer (zco a0.Mons (zbk a0.Memory a1))) 0) (some [(.one (.i .i64 (-1)))]) (cond (zdp a0.IoBuffer (zbM a0.Buffer (zco a0.Mons (zbk a0.Memory a1)))) (cond (ilt (zbM a0.IoBuffer (zbM a0.Buffer (zco a0.Mons (zbk a0.Memory a1)))) 0) (some [(.one (.i .i64 (-1)))]) (some [(.one (.i .i64 (zbM a0.IoBuffer (zbM a0.Buffer (zco a0.Mons (zbk a0.Memory a1))))))])) none)) none)) none)) none)
theorem zw3 (N:Nat)(a0:Host)(a1:Int):evalFn (cQ zAe zba zK zL) (zx []) N 12 4 [.agg (zbn a0),.one (.i .i64 a1)]=zlw N a0 a1:=by kernel_rfl
theorem zyz:SzP (fun x=>∀c∈zbn x,CVB sm c) zdh:=by
 intro x n h0 h1;obtain ⟨a,b⟩:=zb4 (zgv x.Memory) (zb4 (zqi x.Mons) (zb4 (zfo x.Buffer) (zb4 (zfo x.IoBuffer) (fun n _ _=>⟨Int.le_refl _,fun _=>trivial⟩)))) n h0 h1;refine ⟨a,fun h c hc=>?_⟩;obtain ⟨g0,g1,g2,g3,_⟩:=b h;simp only [zbn,List.mem_cons,List.not_mem_nil,or_false] at hc;rcases hc with rfl|rfl|rfl|rfl
 ·exact g0
 ·exact g1
 ·exact g2
 ·exact g3
theorem zuX (a0:Host)(a1:Int)(hb:zF big [.agg (zbn a0),.one (.i .i64 a1)])(hc:(zhL a0 a1)=true):∃N,zlw N a0 a1=some [.one (.i .i64 (zdh a0 a1))]:=by
 obtain ⟨h0,h1⟩:=zbb.1 hc;refine ⟨0,?_⟩;unfold zlw zdh;simp only [thn];have c0:zdL a0.Memory a1=true:=zO ⟨by omega,by omega⟩
 have p0:=(zgv a0.Memory a1 (by omega) (by omega)).1
 rw [c0,cT];generalize zbk a0.Memory a1=n0 at *;rw [zbH]
 by_cases k0:n0<0
 ·simp [k0]
 simp only [k0,decide_false,cF,if_false];have c1:zhO a0.Mons n0=true:=zO ⟨by omega,by omega⟩
 have p1:=(zqi a0.Mons n0 (by omega) (by omega)).1
 rw [c1,cT];generalize zco a0.Mons n0=n1 at *;rw [zbH]
 by_cases k1:n1<0
 ·simp [k1]
 simp only [k1,decide_false,cF,if_false];have c2:zdp a0.Buffer n1=true:=zO ⟨by omega,by omega⟩
 have p2:=(zfo a0.Buffer n1 (by omega) (by omega)).1
 rw [c2,cT];generalize zbM a0.Buffer n1=n2 at *;rw [zbH]
 by_cases k2:n2<0
 ·simp [k2]
 simp only [k2,decide_false,cF,if_false];have c3:zdp a0.IoBuffer n2=true:=zO ⟨by omega,by omega⟩
 have p3:=(zfo a0.IoBuffer n2 (by omega) (by omega)).1
 rw [c3,cT];generalize zbM a0.IoBuffer n2=n3 at *;rw [zbH]
 by_cases k3:n3<0
 ·simp [k3]
 simp only [k3,decide_false,cF,if_false]
theorem zkQ:Holds Tryz.prog 4 zfw:=zk zxI zy zl zn (zA (by kernel_rfl)) fun avs rs hb h=>by
 unfold zfw at h;split at h
 ·obtain ⟨hc,rfl⟩:=zh h;exact (fin2 zuX zw3 hc hb :)
 ·cases h
def zlW:zbg:=[(4,zfw)]++zAe
theorem zeS:zbl zlW:=zi zkQ zxI
theorem zv9 {α ρ:Type}(l:List α)(d:α)(K:List α->Option ρ)(hl:l.length<=big){N:Nat}(hN:l.length<N) :
 iter N (fun r (s:Int×List α×List α×Unit)=>(bif (ilt s.1 (ln s.2.1)) then (bif (inb s.1 (ln s.2.1)) then (bif (inb s.1 (ln s.2.2.1)) then
  (r ((zW .i64 s.1 1),(s.2.1,((up s.2.2.1 s.1 (ix s.2.1 s.1 d)),())))) else none) else none) else K s.2.2.1)) (0,(l,((rp (ln l) d),())))=K l :=
 ze3 l d (fun _=>true) (fun x=>x) K hl (fun _ _=>⟨rfl,rfl⟩) hN
def zhU (_:Slot):Bool:=true
def zmc (x:Slot):Slot:=x
def zi9:List AV->Option (Bool×List AV)
 | [.agg [.i .i64 b,.i .i64 c]]=>some ((zhU (⟨b,c⟩:Slot)),[.agg (Ty.cells .slot (zmc (⟨b,c⟩:Slot)))])
 | _=>none
def zpv (N:Nat)(a0:Slot):Option Ans :=
 (some [(.agg [(.i .i64 a0.Page),(.i .i64 a0.Rights)])])
theorem zxe (N:Nat)(a0:Slot):evalFn (cQ zlW zba zK zL) (zx []) N 12 88 [.agg (Ty.cells .slot a0)]=zpv N a0:=by kernel_rfl
theorem zu9 (a0:Slot)(hb:zF big [.agg (Ty.cells .slot a0)])(hc:(zhU a0)=true):∃N,zpv N a0=some [.agg (Ty.cells .slot (zmc a0))]:=by
 exact ⟨0,rfl⟩
theorem zrn:Holds Tryz.prog 88 zi9:=zk zeS zy zl zn (zA (by kernel_rfl)) fun avs rs hb h=>by
 unfold zi9 at h;split at h
 ·obtain ⟨hc,rfl⟩:=zh h;exact (fin1 zu9 zxe hc hb :)
 ·cases h
def zjL (_:Ins):Bool:=true
def znS (x:Ins):Ins:=x
def zks:List AV->Option (Bool×List AV)
 | [.agg [.i .i64 b,.i .i64 c]]=>some ((zjL (⟨b,c⟩:Ins)),[.agg (Ty.cells .ins (znS (⟨b,c⟩:Ins)))])
 | _=>none
def zsd (N:Nat)(a0:Ins):Option Ans :=
 (some [(.agg [(.i .i64 a0.Op),(.i .i64 a0.X)])])
theorem zyN (N:Nat)(a0:Ins):evalFn (cQ zlW zba zK zL) (zx []) N 12 110 [.agg (Ty.cells .ins a0)]=zsd N a0:=by kernel_rfl
theorem zwB (a0:Ins)(hb:zF big [.agg (Ty.cells .ins a0)])(hc:(zjL a0)=true):∃N,zsd N a0=some [.agg (Ty.cells .ins (znS a0))]:=by
 exact ⟨0,rfl⟩
theorem zsL:Holds Tryz.prog 110 zks:=zk zeS zy zl zn (zA (by kernel_rfl)) fun avs rs hb h=>by
 unfold zks at h;split at h
 ·obtain ⟨hc,rfl⟩:=zh h;exact (fin1 zwB zyN hc hb :)
 ·cases h
def zjI (_:Ctl):Bool:=true
def zk0 (x:Ctl):Ctl:=x
def zkr:List AV->Option (Bool×List AV)
 | [.agg [.i .i64 c,.i .i64 d,.b e]]=>some ((zjI (⟨c,d,e⟩:Ctl)),[.agg (zeq (zk0 (⟨c,d,e⟩:Ctl)))])
 | _=>none
def zsc (N:Nat)(a0:Ctl):Option Ans :=
 (some [(.agg [(.i .i64 a0.Traps),(.i .i64 a0.Post),(.b a0.Open)])])
theorem zyM (N:Nat)(a0:Ctl):evalFn (cQ zlW zba zK zL) (zx []) N 12 103 [.agg (zeq a0)]=zsc N a0:=by kernel_rfl
theorem zwA (a0:Ctl)(hb:zF big [.agg (zeq a0)])(hc:(zjI a0)=true):∃N,zsc N a0=some [.agg (zeq (zk0 a0))]:=by
 exact ⟨0,rfl⟩
theorem zsK:Holds Tryz.prog 103 zkr:=zk zeS zy zl zn (zA (by kernel_rfl)) fun avs rs hb h=>by
 unfold zkr at h;split at h
 ·obtain ⟨hc,rfl⟩:=zh h;exact (fin1 zwA zyM hc hb :)
 ·cases h
def zhQ (_:GExit):Bool:=true
def zfU (x:GExit):GExit:=x
def zi4:List AV->Option (Bool×List AV)
 | [.agg [.i .i64 c,.i .i64 d,.b e,.i .i64 f]]=>some ((zhQ (⟨c,d,e,f⟩:GExit)),[.agg (zeC (zfU (⟨c,d,e,f⟩:GExit)))])
 | _=>none
def zpu (N:Nat)(a0:GExit):Option Ans :=
 (some [(.agg [(.i .i64 a0.Kind),(.i .i64 a0.Page),(.b a0.Write),(.i .i64 a0.N)])])
theorem zw8 (N:Nat)(a0:GExit):evalFn (cQ zlW zba zK zL) (zx []) N 12 104 [.agg (zeC a0)]=zpu N a0:=by kernel_rfl
theorem zu3 (a0:GExit)(hb:zF big [.agg (zeC a0)])(hc:(zhQ a0)=true):∃N,zpu N a0=some [.agg (zeC (zfU a0))]:=by
 exact ⟨0,rfl⟩
theorem zri:Holds Tryz.prog 104 zi4:=zk zeS zy zl zn (zA (by kernel_rfl)) fun avs rs hb h=>by
 unfold zi4 at h;split at h
 ·obtain ⟨hc,rfl⟩:=zh h;exact (fin1 zu3 zw8 hc hb :)
 ·cases h
def zgx (_:Entry):Bool:=true
def zjJ (x:Entry):Entry:=x
def zhl:List AV->Option (Bool×List AV)
 | [.agg [.i .i64 b,.i .i64 c,.i .i64 d,.i .i64 e]]=>some ((zgx (⟨b,c,d,e⟩:Entry)),[.agg (Ty.cells .entry (zjJ (⟨b,c,d,e⟩:Entry)))])
 | _=>none
def zn7 (N:Nat)(a0:Entry):Option Ans :=
 (some [(.agg [(.i .i64 a0.Tag),(.i .i64 a0.Page),(.i .i64 a0.Host),(.i .i64 a0.Rights)])])
theorem zvD (N:Nat)(a0:Entry):evalFn (cQ zlW zba zK zL) (zx []) N 12 40 [.agg (Ty.cells .entry a0)]=zn7 N a0:=by kernel_rfl
theorem ztc (a0:Entry)(hb:zF big [.agg (Ty.cells .entry a0)])(hc:(zgx a0)=true):∃N,zn7 N a0=some [.agg (Ty.cells .entry (zjJ a0))]:=by
 exact ⟨0,rfl⟩
theorem zp8:Holds Tryz.prog 40 zhl:=zk zeS zy zl zn (zA (by kernel_rfl)) fun avs rs hb h=>by
 unfold zhl at h;split at h
 ·obtain ⟨hc,rfl⟩:=zh h;exact (fin1 ztc zvD hc hb :)
 ·cases h
def zc7 (l:List Int):Bool:=pc (CVB sm (.s .int l))
def zfV (l:List Int):List Int:=l
def zi6:List AV->Option (Bool×List AV)
 | [.one (.s .int b)]=>some ((zc7 b),[.one (.s .int (zfV b))])
 | _=>none
def zlD (N:Nat)(a0:List Int):Option Ans :=
 (cond (cond (few (ln a0)) (ieq (ln a0) (ln a0)) false) (iter (σ:=(Int×((List Int)×((List Int)×Unit)))) N (fun r2 s3=>(cond (ilt s3.1 (ln s3.2.1)) (cond (inb s3.1 (ln s3.2.1)) (cond (inb s3.1 (ln s3.2.2.1)) (share (up s3.2.2.1 s3.1 (ix s3.2.1 s3.1 0)) (fun x4=>(r2 ((zW .i64 s3.1 1),(s3.2.1,(x4,())))))) none) none) (some [(.one (.s .int s3.2.2.1))]))) (0,(a0,((rp (ln a0) 0),())))) none)
def zv2:FuncId->Nat->Option Tmpl:=zx [(38,0,{ n:=22,tm:=[(0,.sl 0 []),(3,.sl 1 []),(4,.i .i64)],lo:=[],ro:=[(0,.int,false),(1,.int,true)] })]
theorem zxb (N:Nat)(a0:List Int):evalFn (cQ zlW zba zK zL) zv2 N 12 38 [.one (.s .int a0)]=zlD N a0:=by kernel_rfl
theorem zu6 (a0:List Int)(hb:zF big [.one (.s .int a0)])(hc:(zc7 a0)=true):∃N,zlD N a0=some [.one (.s .int (zfV a0))]:=by
 have hl:=zd8 (zbb.1 hc).len;refine ⟨a0.length+1,?_⟩;unfold zlD;rw [zet hl.2,zdf];exact zv9 a0 _ (fun l=>some [AV.one (.s .int l)]) hl.1 (Nat.lt_succ_self _)
theorem zrk:Holds Tryz.prog 38 zi6:=zk zeS zy zl zn (zA (by kernel_rfl)) fun avs rs hb h=>by
 unfold zi6 at h;split at h
 ·obtain ⟨hc,rfl⟩:=zh h;exact (fin1 zu6 zxb hc hb :)
 ·cases h
def zdM (l:List Bool):Bool:=pc (CVB sm (.s .bool l))
def zjH (l:List Bool):List Bool:=l
def zhk:List AV->Option (Bool×List AV)
 | [.one (.s .bool b)]=>some ((zdM b),[.one (.s .bool (zjH b))])
 | _=>none
def zj6 (N:Nat)(a0:List Bool):Option Ans :=
 (cond (cond (few (ln a0)) (ieq (ln a0) (ln a0)) false) (iter (σ:=(Int×((List Bool)×((List Bool)×Unit)))) N (fun r2 s3=>(cond (ilt s3.1 (ln s3.2.1)) (cond (inb s3.1 (ln s3.2.1)) (cond (inb s3.1 (ln s3.2.2.1)) (share (up s3.2.2.1 s3.1 (ix s3.2.1 s3.1 false)) (fun x4=>(r2 ((zW .i64 s3.1 1),(s3.2.1,(x4,())))))) none) none) (some [(.one (.s .bool s3.2.2.1))]))) (0,(a0,((rp (ln a0) false),())))) none)
def ztF:FuncId->Nat->Option Tmpl:=zx [(67,0,{ n:=22,tm:=[(0,.sl 0 []),(3,.sl 1 []),(4,.i .i64)],lo:=[],ro:=[(0,.bool,false),(1,.bool,true)] })]
theorem zvC (N:Nat)(a0:List Bool):evalFn (cQ zlW zba zK zL) ztF N 12 67 [.one (.s .bool a0)]=zj6 N a0:=by kernel_rfl
theorem ztb (a0:List Bool)(hb:zF big [.one (.s .bool a0)])(hc:(zdM a0)=true):∃N,zj6 N a0=some [.one (.s .bool (zjH a0))]:=by
 have hl:=zd8 (zbb.1 hc).len;refine ⟨a0.length+1,?_⟩;unfold zj6;rw [zet hl.2,zdf];exact zv9 a0 _ (fun l=>some [AV.one (.s .bool l)]) hl.1 (Nat.lt_succ_self _)
theorem zp7:Holds Tryz.prog 67 zhk:=zk zeS zy zl zn (zA (by kernel_rfl)) fun avs rs hb h=>by
 unfold zhk at h;split at h
 ·obtain ⟨hc,rfl⟩:=zh h;exact (fin1 ztb zvC hc hb :)
 ·cases h
def zqN:zbg:=[(88,zi9),(110,zks),(103,zkr),(104,zi4),(40,zhl),(38,zi6),(67,zhk)]++zlW
theorem zkJ:zbl zqN:=zi zrn (zi zsL (zi zsK (zi zri (zi zp8 (zi zrk (zi zp7 zeS))))))
def zb7 (l:List Slot):Bool:=pc (CVB sm (.s .slot l))
def zeX (l:List Slot):List Slot:=l
def zhp:List AV->Option (Bool×List AV)
 | [.one (.s .slot b)]=>some ((zb7 b),[.one (.s .slot (zeX b))])
 | _=>none
def zka (N:Nat)(a0:List Slot):Option Ans :=
 (cond (cond (few (ln a0)) (ieq (ln a0) (ln a0)) false) (iter (σ:=(Int×((List Slot)×((List Slot)×Unit)))) N (fun r2 s3=>(cond (ilt s3.1 (ln s3.2.1)) (cond (inb s3.1 (ln s3.2.1)) (cond (zhU (ix s3.2.1 s3.1 zB)) (cond (inb s3.1 (ln s3.2.2.1)) (share (up s3.2.2.1 s3.1 (zmc (ix s3.2.1 s3.1 zB))) (fun x4=>(r2 ((zW .i64 s3.1 1),(s3.2.1,(x4,())))))) none) none) none) (some [(.one (.s .slot s3.2.2.1))]))) (0,(a0,((rp (ln a0) zB),())))) none)
def ztI:FuncId->Nat->Option Tmpl:=zx [(66,0,{ n:=23,tm:=[(0,.sl 0 []),(3,.sl 1 []),(4,.i .i64)],lo:=[],ro:=[(0,.slot,false),(1,.slot,true)] })]
theorem zvH (N:Nat)(a0:List Slot):evalFn (cQ zqN zba zK zL) ztI N 12 66 [.one (.s .slot a0)]=zka N a0:=by kernel_rfl
theorem ztg (a0:List Slot)(hb:zF big [.one (.s .slot a0)])(hc:(zb7 a0)=true):∃N,zka N a0=some [.one (.s .slot (zeX a0))]:=by
 have hs:=zbb.1 hc;have hl:=zd8 hs.len;refine ⟨a0.length+1,?_⟩;unfold zka;rw [zet hl.2,zdf];exact ze3 a0 _ zhU zmc (fun l=>some [AV.one (.s .slot l)]) hl.1 (fun x hx=>⟨by first|rfl|exact zO (hs.inv.2 x hx)|exact zO (hs.inv.2 x hx _ (List.mem_singleton.2 rfl)),rfl⟩) (Nat.lt_succ_self _)
theorem zqc:Holds Tryz.prog 66 zhp:=zk zkJ zy zl zn (zA (by kernel_rfl)) fun avs rs hb h=>by
 unfold zhp at h;split at h
 ·obtain ⟨hc,rfl⟩:=zh h;exact (fin1 ztg zvH hc hb :)
 ·cases h
def zhR (l:List Ins):Bool:=pc (CVB sm (.s .ins l))
def zo7 (l:List Ins):List Ins:=l
def zi5:List AV->Option (Bool×List AV)
 | [.one (.s .ins b)]=>some ((zhR b),[.one (.s .ins (zo7 b))])
 | _=>none
def zlC (N:Nat)(a0:List Ins):Option Ans :=
 (cond (cond (few (ln a0)) (ieq (ln a0) (ln a0)) false) (iter (σ:=(Int×((List Ins)×((List Ins)×Unit)))) N (fun r2 s3=>(cond (ilt s3.1 (ln s3.2.1)) (cond (inb s3.1 (ln s3.2.1)) (cond (zjL (ix s3.2.1 s3.1 zeo)) (cond (inb s3.1 (ln s3.2.2.1)) (share (up s3.2.2.1 s3.1 (znS (ix s3.2.1 s3.1 zeo))) (fun x4=>(r2 ((zW .i64 s3.1 1),(s3.2.1,(x4,())))))) none) none) none) (some [(.one (.s .ins s3.2.2.1))]))) (0,(a0,((rp (ln a0) zeo),())))) none)
def zv1:FuncId->Nat->Option Tmpl:=zx [(102,0,{ n:=23,tm:=[(0,.sl 0 []),(3,.sl 1 []),(4,.i .i64)],lo:=[],ro:=[(0,.ins,false),(1,.ins,true)] })]
theorem zxa (N:Nat)(a0:List Ins):evalFn (cQ zqN zba zK zL) zv1 N 12 102 [.one (.s .ins a0)]=zlC N a0:=by kernel_rfl
theorem zu5 (a0:List Ins)(hb:zF big [.one (.s .ins a0)])(hc:(zhR a0)=true):∃N,zlC N a0=some [.one (.s .ins (zo7 a0))]:=by
 have hs:=zbb.1 hc;have hl:=zd8 hs.len;refine ⟨a0.length+1,?_⟩;unfold zlC;rw [zet hl.2,zdf];exact ze3 a0 _ zjL znS (fun l=>some [AV.one (.s .ins l)]) hl.1 (fun x hx=>⟨by first|rfl|exact zO (hs.inv.2 x hx)|exact zO (hs.inv.2 x hx _ (List.mem_singleton.2 rfl)),rfl⟩) (Nat.lt_succ_self _)
theorem zrj:Holds Tryz.prog 102 zi5:=zk zkJ zy zl zn (zA (by kernel_rfl)) fun avs rs hb h=>by
 unfold zi5 at h;split at h
 ·obtain ⟨hc,rfl⟩:=zh h;exact (fin1 zu5 zxa hc hb :)
 ·cases h
def zdq (l:List Entry):Bool:=pc (CVB sm (.s .entry l))
def zhP (l:List Entry):List Entry:=l
def zf7:List AV->Option (Bool×List AV)
 | [.one (.s .entry b)]=>some ((zdq b),[.one (.s .entry (zhP b))])
 | _=>none
def zii (N:Nat)(a0:List Entry):Option Ans :=
 (cond (cond (few (ln a0)) (ieq (ln a0) (ln a0)) false) (iter (σ:=(Int×((List Entry)×((List Entry)×Unit)))) N (fun r2 s3=>(cond (ilt s3.1 (ln s3.2.1)) (cond (inb s3.1 (ln s3.2.1)) (cond (zgx (ix s3.2.1 s3.1 zq)) (cond (inb s3.1 (ln s3.2.2.1)) (share (up s3.2.2.1 s3.1 (zjJ (ix s3.2.1 s3.1 zq))) (fun x4=>(r2 ((zW .i64 s3.1 1),(s3.2.1,(x4,())))))) none) none) none) (some [(.one (.s .entry s3.2.2.1))]))) (0,(a0,((rp (ln a0) zq),())))) none)
def zr6:FuncId->Nat->Option Tmpl:=zx [(18,0,{ n:=23,tm:=[(0,.sl 0 []),(3,.sl 1 []),(4,.i .i64)],lo:=[],ro:=[(0,.entry,false),(1,.entry,true)] })]
theorem ztr (N:Nat)(a0:List Entry):evalFn (cQ zqN zba zK zL) zr6 N 12 18 [.one (.s .entry a0)]=zii N a0:=by kernel_rfl
theorem zrM (a0:List Entry)(hb:zF big [.one (.s .entry a0)])(hc:(zdq a0)=true):∃N,zii N a0=some [.one (.s .entry (zhP a0))]:=by
 have hs:=zbb.1 hc;have hl:=zd8 hs.len;refine ⟨a0.length+1,?_⟩;unfold zii;rw [zet hl.2,zdf];exact ze3 a0 _ zgx zjJ (fun l=>some [AV.one (.s .entry l)]) hl.1 (fun x hx=>⟨by first|rfl|exact zO (hs.inv.2 x hx)|exact zO (hs.inv.2 x hx _ (List.mem_singleton.2 rfl)),rfl⟩) (Nat.lt_succ_self _)
theorem zoZ:Holds Tryz.prog 18 zf7:=zk zkJ zy zl zn (zA (by kernel_rfl)) fun avs rs hb h=>by
 unfold zf7 at h;split at h
 ·obtain ⟨hc,rfl⟩:=zh h;exact (fin1 zrM ztr hc hb :)
 ·cases h
def zdN (l:List (List Int)):Bool:=pc (CVB sm (.s (.sl .int) l))
def zjM (l:List (List Int)):List (List Int):=l
def zhn:List AV->Option (Bool×List AV)
 | [.one (.s (.sl .int) b)]=>some ((zdN b),[.one (.s (.sl .int) (zjM b))])
 | _=>none
def zj8 (N:Nat)(a0:List (List Int)):Option Ans :=
 (cond (cond (few (ln a0)) (ieq (ln a0) (ln a0)) false) (iter (σ:=(Int×((List (List Int))×((List (List Int))×Unit)))) N (fun r2 s3=>(cond (ilt s3.1 (ln s3.2.1)) (cond (inb s3.1 (ln s3.2.1)) (cond (zc7 (ix s3.2.1 s3.1 [])) (cond (inb s3.1 (ln s3.2.2.1)) (share (up s3.2.2.1 s3.1 (zfV (ix s3.2.1 s3.1 []))) (fun x4=>(r2 ((zW .i64 s3.1 1),(s3.2.1,(x4,())))))) none) none) none) (some [(.one (.s (.sl .int) s3.2.2.1))]))) (0,(a0,((rp (ln a0) []),())))) none)
def ztG:FuncId->Nat->Option Tmpl:=zx [(16,0,{ n:=23,tm:=[(0,.sl 0 []),(3,.sl 1 []),(4,.i .i64)],lo:=[],ro:=[(0,(.sl .int),false),(1,(.sl .int),true)] })]
theorem zvF (N:Nat)(a0:List (List Int)):evalFn (cQ zqN zba zK zL) ztG N 12 16 [.one (.s (.sl .int) a0)]=zj8 N a0:=by kernel_rfl
theorem zte (a0:List (List Int))(hb:zF big [.one (.s (.sl .int) a0)])(hc:(zdN a0)=true):∃N,zj8 N a0=some [.one (.s (.sl .int) (zjM a0))]:=by
 have hs:=zbb.1 hc;have hl:=zd8 hs.len;refine ⟨a0.length+1,?_⟩;unfold zj8;rw [zet hl.2,zdf];exact ze3 a0 _ zc7 zfV (fun l=>some [AV.one (.s (.sl .int) l)]) hl.1 (fun x hx=>⟨by first|rfl|exact zO (hs.inv.2 x hx)|exact zO (hs.inv.2 x hx _ (List.mem_singleton.2 rfl)),rfl⟩) (Nat.lt_succ_self _)
theorem zqa:Holds Tryz.prog 16 zhn:=zk zkJ zy zl zn (zA (by kernel_rfl)) fun avs rs hb h=>by
 unfold zhn at h;split at h
 ·obtain ⟨hc,rfl⟩:=zh h;exact (fin1 zte zvF hc hb :)
 ·cases h
def ztN:zbg:=[(66,zhp),(102,zi5),(18,zf7),(16,zhn)]++zqN
theorem zoD:zbl ztN:=zi zqc (zi zrj (zi zoZ (zi zqa zkJ)))
def zgy (x:Guest):Bool:=pc (∀c∈Ty.cells .guest x,CVB sm c)
def zjK (x:Guest):Guest:=x
def zhm:List AV->Option (Bool×List AV)
 | [.agg [.s .ins c,.i .i64 d,.i .i64 e,.s .slot f,.s .slot g,.i .i64 h,.i .i64 j,.b k,.i .i64 l,.i .i64 m,.i .i64 n,.b o,.i .i64 p,.b q,.s .int r]]=>some ((zgy (⟨c,d,e,f,g,⟨h,j,k⟩,l,⟨m,n,o,p⟩,q,r⟩:Guest)),[.agg (Ty.cells .guest (zjK (⟨c,d,e,f,g,⟨h,j,k⟩,l,⟨m,n,o,p⟩,q,r⟩:Guest)))])
 | _=>none
def zj7 (N:Nat)(a0:Guest):Option Ans :=
 (cond (zhR a0.Prog) (cond (zb7 a0.Written) (cond (zb7 a0.Live) (cond (zjI a0.Ctl) (cond (zhQ a0.Exit) (cond (zc7 a0.Seen) (some [(.agg [(.s .ins (zo7 a0.Prog)),(.i .i64 a0.A),(.i .i64 a0.Pc),(.s .slot (zeX a0.Written)),(.s .slot (zeX a0.Live)),(.i .i64 (zk0 a0.Ctl).Traps),(.i .i64 (zk0 a0.Ctl).Post),(.b (zk0 a0.Ctl).Open),(.i .i64 a0.Pending),(.i .i64 (zfU a0.Exit).Kind),(.i .i64 (zfU a0.Exit).Page),(.b (zfU a0.Exit).Write),(.i .i64 (zfU a0.Exit).N),(.b a0.Halted),(.s .int (zfV a0.Seen))])]) none) none) none) none) none) none)
theorem zvE (N:Nat)(a0:Guest):evalFn (cQ ztN zba zK zL) (zx []) N 12 89 [.agg (Ty.cells .guest a0)]=zj7 N a0:=by kernel_rfl
theorem ztd (a0:Guest)(hb:zF big [.agg (Ty.cells .guest a0)])(hc:(zgy a0)=true):∃N,zj7 N a0=some [.agg (Ty.cells .guest (zjK a0))]:=by
 have h:=zbb.1 hc;have h0:zhR a0.Prog=true:=zO (h (.s .ins a0.Prog) (by simp [Ty.cells]))
 have h1:zb7 a0.Written=true:=zO (h (.s .slot a0.Written) (by simp [Ty.cells]))
 have h2:zb7 a0.Live=true:=zO (h (.s .slot a0.Live) (by simp [Ty.cells]))
 have h5:zc7 a0.Seen=true:=zO (h (.s .int a0.Seen) (by simp [Ty.cells]))
 refine ⟨0,?_⟩;simp only [zj7,h0,h1,h2,zjI,zhQ,h5,cT];rfl
theorem zp9:Holds Tryz.prog 89 zhm:=zk zoD zy zl zn (zA (by kernel_rfl)) fun avs rs hb h=>by
 unfold zhm at h;split at h
 ·obtain ⟨hc,rfl⟩:=zh h;exact (fin1 ztd zvE hc hb :)
 ·cases h
def zhS (x:Kept):Bool:=pc (∀c∈Ty.cells .kept x,CVB sm c)
def zmb (x:Kept):Kept:=x
def zi7:List AV->Option (Bool×List AV)
 | [.agg [.s .bool b,.s .slot c]]=>some ((zhS (⟨b,c⟩:Kept)),[.agg (Ty.cells .kept (zmb (⟨b,c⟩:Kept)))])
 | _=>none
def zlE (N:Nat)(a0:Kept):Option Ans :=
 (cond (zdM a0.Known) (cond (zb7 a0.Slots) (some [(.agg [(.s .bool (zjH a0.Known)),(.s .slot (zeX a0.Slots))])]) none) none)
theorem zxc (N:Nat)(a0:Kept):evalFn (cQ ztN zba zK zL) (zx []) N 12 90 [.agg (Ty.cells .kept a0)]=zlE N a0:=by kernel_rfl
theorem zu7 (a0:Kept)(hb:zF big [.agg (Ty.cells .kept a0)])(hc:(zhS a0)=true):∃N,zlE N a0=some [.agg (Ty.cells .kept (zmb a0))]:=by
 have h:=zbb.1 hc;have h0:zdM a0.Known=true:=zO (h (.s .bool a0.Known) (by simp [Ty.cells]))
 have h1:zb7 a0.Slots=true:=zO (h (.s .slot a0.Slots) (by simp [Ty.cells]))
 refine ⟨0,?_⟩;simp only [zlE,h0,h1,cT];rfl
theorem zrl:Holds Tryz.prog 90 zi7:=zk zoD zy zl zn (zA (by kernel_rfl)) fun avs rs hb h=>by
 unfold zi7 at h;split at h
 ·obtain ⟨hc,rfl⟩:=zh h;exact (fin1 zu7 zxc hc hb :)
 ·cases h
def ztO:zbg:=[(89,zhm),(90,zi7)]++ztN
theorem zoE:zbl ztO:=zi zp9 (zi zrl zoD)
def zfr (l:List Guest):Bool:=pc (CVB sm (.s .guest l))
def zma (l:List Guest):List Guest:=l
def zf8:List AV->Option (Bool×List AV)
 | [.one (.s .guest b)]=>some ((zfr b),[.one (.s .guest (zma b))])
 | _=>none
def zij (N:Nat)(a0:List Guest):Option Ans :=
 (cond (cond (few (ln a0)) (ieq (ln a0) (ln a0)) false) (iter (σ:=(Int×((List Guest)×((List Guest)×Unit)))) N (fun r2 s3=>(cond (ilt s3.1 (ln s3.2.1)) (cond (inb s3.1 (ln s3.2.1)) (cond (zgy (ix s3.2.1 s3.1 zbq)) (cond (inb s3.1 (ln s3.2.2.1)) (share (up s3.2.2.1 s3.1 (zjK (ix s3.2.1 s3.1 zbq))) (fun x4=>(r2 ((zW .i64 s3.1 1),(s3.2.1,(x4,())))))) none) none) none) (some [(.one (.s .guest s3.2.2.1))]))) (0,(a0,((rp (ln a0) zbq),())))) none)
def zr7:FuncId->Nat->Option Tmpl:=zx [(68,0,{ n:=23,tm:=[(0,.sl 0 []),(3,.sl 1 []),(4,.i .i64)],lo:=[],ro:=[(0,.guest,false),(1,.guest,true)] })]
theorem zts (N:Nat)(a0:List Guest):evalFn (cQ ztO zba zK zL) zr7 N 12 68 [.one (.s .guest a0)]=zij N a0:=by kernel_rfl
theorem zrN (a0:List Guest)(hb:zF big [.one (.s .guest a0)])(hc:(zfr a0)=true):∃N,zij N a0=some [.one (.s .guest (zma a0))]:=by
 have hs:=zbb.1 hc;have hl:=zd8 hs.len;refine ⟨a0.length+1,?_⟩;unfold zij;rw [zet hl.2,zdf];exact ze3 a0 _ zgy zjK (fun l=>some [AV.one (.s .guest l)]) hl.1 (fun x hx=>⟨by first|rfl|exact zO (hs.inv.2 x hx)|exact zO (hs.inv.2 x hx _ (List.mem_singleton.2 rfl)),rfl⟩) (Nat.lt_succ_self _)
theorem zo0:Holds Tryz.prog 68 zf8:=zk zoE zy zl zn (zA (by kernel_rfl)) fun avs rs hb h=>by
 unfold zf8 at h;split at h
 ·obtain ⟨hc,rfl⟩:=zh h;exact (fin1 zrN zts hc hb :)
 ·cases h
def zgz (l:List Kept):Bool:=pc (CVB sm (.s .kept l))
def zni (l:List Kept):List Kept:=l
def zho:List AV->Option (Bool×List AV)
 | [.one (.s .kept b)]=>some ((zgz b),[.one (.s .kept (zni b))])
 | _=>none
def zj9 (N:Nat)(a0:List Kept):Option Ans :=
 (cond (cond (few (ln a0)) (ieq (ln a0) (ln a0)) false) (iter (σ:=(Int×((List Kept)×((List Kept)×Unit)))) N (fun r2 s3=>(cond (ilt s3.1 (ln s3.2.1)) (cond (inb s3.1 (ln s3.2.1)) (cond (zhS (ix s3.2.1 s3.1 zbV)) (cond (inb s3.1 (ln s3.2.2.1)) (share (up s3.2.2.1 s3.1 (zmb (ix s3.2.1 s3.1 zbV))) (fun x4=>(r2 ((zW .i64 s3.1 1),(s3.2.1,(x4,())))))) none) none) none) (some [(.one (.s .kept s3.2.2.1))]))) (0,(a0,((rp (ln a0) zbV),())))) none)
def ztH:FuncId->Nat->Option Tmpl:=zx [(69,0,{ n:=23,tm:=[(0,.sl 0 []),(3,.sl 1 []),(4,.i .i64)],lo:=[],ro:=[(0,.kept,false),(1,.kept,true)] })]
theorem zvG (N:Nat)(a0:List Kept):evalFn (cQ ztO zba zK zL) ztH N 12 69 [.one (.s .kept a0)]=zj9 N a0:=by kernel_rfl
theorem ztf (a0:List Kept)(hb:zF big [.one (.s .kept a0)])(hc:(zgz a0)=true):∃N,zj9 N a0=some [.one (.s .kept (zni a0))]:=by
 have hs:=zbb.1 hc;have hl:=zd8 hs.len;refine ⟨a0.length+1,?_⟩;unfold zj9;rw [zet hl.2,zdf];exact ze3 a0 _ zhS zmb (fun l=>some [AV.one (.s .kept l)]) hl.1 (fun x hx=>⟨by first|rfl|exact zO (hs.inv.2 x hx)|exact zO (hs.inv.2 x hx _ (List.mem_singleton.2 rfl)),rfl⟩) (Nat.lt_succ_self _)
theorem zqb:Holds Tryz.prog 69 zho:=zk zoE zy zl zn (zA (by kernel_rfl)) fun avs rs hb h=>by
 unfold zho at h;split at h
 ·obtain ⟨hc,rfl⟩:=zh h;exact (fin1 ztf zvG hc hb :)
 ·cases h
def zyh:zbg:=[(68,zf8),(69,zho)]++ztO
theorem zuk:zbl zyh:=zi zo0 (zi zqb zoE)
def zjN (x:Mon):Bool:=pc (∀c∈Ty.cells .mon x,CVB sm c)
def znT (x:Mon):Mon:=x
def zkt:List AV->Option (Bool×List AV)
 | [.agg [.s .slot b,.s (.sl .int) c,.s .bool d,.s .guest e,.s .int f,.i .i64 g,.i .i64 h,.s .kept j,.i .i64 k]]=>some ((zjN (⟨b,c,d,e,f,g,h,j,k⟩:Mon)),[.agg (Ty.cells .mon (znT (⟨b,c,d,e,f,g,h,j,k⟩:Mon)))])
 | _=>none
def zmG (N:Nat)(a0:Mon):Option Ans :=
 (cond (zb7 a0.Outer) (cond (zdN a0.Out) (cond (zdM a0.Dirty) (cond (zfr a0.Guests) (cond (zc7 a0.Outs) (cond (zgz a0.Tables) (some [(.agg [(.s .slot (zeX a0.Outer)),(.s (.sl .int) (zjM a0.Out)),(.s .bool (zjH a0.Dirty)),(.s .guest (zma a0.Guests)),(.s .int (zfV a0.Outs)),(.i .i64 a0.Pending),(.i .i64 a0.Traps),(.s .kept (zni a0.Tables)),(.i .i64 a0.Own)])]) none) none) none) none) none) none)
theorem zyO (N:Nat)(a0:Mon):evalFn (cQ zyh zba zK zL) (zx []) N 12 39 [.agg (Ty.cells .mon a0)]=zmG N a0:=by kernel_rfl
theorem zwC (a0:Mon)(hb:zF big [.agg (Ty.cells .mon a0)])(hc:(zjN a0)=true):∃N,zmG N a0=some [.agg (Ty.cells .mon (znT a0))]:=by
 have h:=zbb.1 hc;have h0:zb7 a0.Outer=true:=zO (h (.s .slot a0.Outer) (by simp [Ty.cells]))
 have h1:zdN a0.Out=true:=zO (h (.s (.sl .int) a0.Out) (by simp [Ty.cells]))
 have h2:zdM a0.Dirty=true:=zO (h (.s .bool a0.Dirty) (by simp [Ty.cells]))
 have h3:zfr a0.Guests=true:=zO (h (.s .guest a0.Guests) (by simp [Ty.cells]))
 have h4:zc7 a0.Outs=true:=zO (h (.s .int a0.Outs) (by simp [Ty.cells]))
 have h5:zgz a0.Tables=true:=zO (h (.s .kept a0.Tables) (by simp [Ty.cells]))
 refine ⟨0,?_⟩;simp only [zmG,h0,h1,h2,h3,h4,h5,cT];rfl
theorem zsM:Holds Tryz.prog 39 zkt:=zk zuk zy zl zn (zA (by kernel_rfl)) fun avs rs hb h=>by
 unfold zkt at h;split at h
 ·obtain ⟨hc,rfl⟩:=zh h;exact (fin1 zwC zyO hc hb :)
 ·cases h
def zyi:zbg:=[(39,zkt)]++zyh
theorem zul:zbl zyi:=zi zsM zuk
def zhT (l:List Mon):Bool:=pc (CVB sm (.s .mon l))
def zo8 (l:List Mon):List Mon:=l
def zi8:List AV->Option (Bool×List AV)
 | [.one (.s .mon b)]=>some ((zhT b),[.one (.s .mon (zo8 b))])
 | _=>none
def zlF (N:Nat)(a0:List Mon):Option Ans :=
 (cond (cond (few (ln a0)) (ieq (ln a0) (ln a0)) false) (iter (σ:=(Int×((List Mon)×((List Mon)×Unit)))) N (fun r2 s3=>(cond (ilt s3.1 (ln s3.2.1)) (cond (inb s3.1 (ln s3.2.1)) (cond (zjN (ix s3.2.1 s3.1 zG)) (cond (inb s3.1 (ln s3.2.2.1)) (share (up s3.2.2.1 s3.1 (znT (ix s3.2.1 s3.1 zG))) (fun x4=>(r2 ((zW .i64 s3.1 1),(s3.2.1,(x4,())))))) none) none) none) (some [(.one (.s .mon s3.2.2.1))]))) (0,(a0,((rp (ln a0) zG),())))) none)
def zv3:FuncId->Nat->Option Tmpl:=zx [(17,0,{ n:=23,tm:=[(0,.sl 0 []),(3,.sl 1 []),(4,.i .i64)],lo:=[],ro:=[(0,.mon,false),(1,.mon,true)] })]
theorem zxd (N:Nat)(a0:List Mon):evalFn (cQ zyi zba zK zL) zv3 N 12 17 [.one (.s .mon a0)]=zlF N a0:=by kernel_rfl
theorem zu8 (a0:List Mon)(hb:zF big [.one (.s .mon a0)])(hc:(zhT a0)=true):∃N,zlF N a0=some [.one (.s .mon (zo8 a0))]:=by
 have hs:=zbb.1 hc;have hl:=zd8 hs.len;refine ⟨a0.length+1,?_⟩;unfold zlF;rw [zet hl.2,zdf];exact ze3 a0 _ zjN znT (fun l=>some [AV.one (.s .mon l)]) hl.1 (fun x hx=>⟨by first|rfl|exact zO (hs.inv.2 x hx)|exact zO (hs.inv.2 x hx _ (List.mem_singleton.2 rfl)),rfl⟩) (Nat.lt_succ_self _)
theorem zrm:Holds Tryz.prog 17 zi8:=zk zul zy zl zn (zA (by kernel_rfl)) fun avs rs hb h=>by
 unfold zi8 at h;split at h
 ·obtain ⟨hc,rfl⟩:=zh h;exact (fin1 zu8 zxd hc hb :)
 ·cases h
def zyj:zbg:=[(17,zi8)]++zyi
theorem zum:zbl zyj:=zi zrm zul
def zei (x:Host):Bool:=pc (∀c∈zbn x,CVB sm c)
def zcR (x:Host):Host:=x
def zfx:List AV->Option (Bool×List AV)
 | [.agg [.s (.sl .int) b,.s .mon c,.s .entry d,.s .entry e]]=>some ((zei (⟨b,c,d,e⟩:Host)),[.agg (zbn (zcR (⟨b,c,d,e⟩:Host)))])
 | _=>none
def zlB (N:Nat)(a0:Host):Option Ans :=
 (cond (zdN a0.Memory) (cond (zhT a0.Mons) (cond (zdq a0.Buffer) (cond (zdq a0.IoBuffer) (some [(.agg [(.s (.sl .int) (zjM a0.Memory)),(.s .mon (zo8 a0.Mons)),(.s .entry (zhP a0.Buffer)),(.s .entry (zhP a0.IoBuffer))])]) none) none) none) none)
theorem zw9 (N:Nat)(a0:Host):evalFn (cQ zyj zba zK zL) (zx []) N 12 6 [.agg (zbn a0)]=zlB N a0:=by kernel_rfl
theorem zu4 (a0:Host)(hb:zF big [.agg (zbn a0)])(hc:(zei a0)=true):∃N,zlB N a0=some [.agg (zbn (zcR a0))]:=by
 have h:=zbb.1 hc;have h0:zdN a0.Memory=true:=zO (h (.s (.sl .int) a0.Memory) (by simp [zbn]))
 have h1:zhT a0.Mons=true:=zO (h (.s .mon a0.Mons) (by simp [zbn]))
 have h2:zdq a0.Buffer=true:=zO (h (.s .entry a0.Buffer) (by simp [zbn]))
 have h3:zdq a0.IoBuffer=true:=zO (h (.s .entry a0.IoBuffer) (by simp [zbn]))
 refine ⟨0,?_⟩;simp only [zlB,h0,h1,h2,h3,cT];rfl
theorem zkR:Holds Tryz.prog 6 zfx:=zk zum zy zl zn (zA (by kernel_rfl)) fun avs rs hb h=>by
 unfold zfx at h;split at h
 ·obtain ⟨hc,rfl⟩:=zh h;exact (fin1 zu4 zw9 hc hb :)
 ·cases h
def zhz:zbg:=[(6,zfx)]++zyj
theorem zdX:zbl zhz:=zi zkR zum
def zhK (x y:Slot):Bool:=pc (x=y)
def ziE (_ _:Slot):Bool:=true
def ziZ:List AV->Option (Bool×List AV)
 | [.agg [.i .i64 c,.i .i64 d],.agg [.i .i64 e,.i .i64 f]]=>some ((zhK (⟨c,d⟩:Slot) (⟨e,f⟩:Slot)),[.one (.b (ziE (⟨c,d⟩:Slot) (⟨e,f⟩:Slot)))])
 | _=>none
def zlv (N:Nat)(a0:Slot)(a1:Slot):Option Ans :=
 (cond (ine a0.Page a1.Page) (some [(.one (.b false))]) (cond (ine a0.Rights a1.Rights) (some [(.one (.b false))]) (some [(.one (.b true))])))
theorem zw2 (N:Nat)(a0:Slot)(a1:Slot):evalFn (cQ zhz zba zK zL) (zx []) N 12 96 [.agg (Ty.cells .slot a0),.agg (Ty.cells .slot a1)]=zlv N a0 a1:=by kernel_rfl
theorem zuW (a0:Slot)(a1:Slot)(hb:zF big [.agg (Ty.cells .slot a0),.agg (Ty.cells .slot a1)])(hc:(zhK a0 a1)=true):∃N,zlv N a0 a1=some [.one (.b (ziE a0 a1))]:=by
 have:=zbb.1 hc;subst this;refine ⟨0,?_⟩;simp only [zlv, zdR,zbr,zbG,cT,cF,Bool.not_true,ziE]
theorem zrd:Holds Tryz.prog 96 ziZ:=zk zdX zy zl zn (zA (by kernel_rfl)) fun avs rs hb h=>by
 unfold ziZ at h;split at h
 ·obtain ⟨hc,rfl⟩:=zh h;exact (fin2 zuW zw2 hc hb :)
 ·cases h
def zjE (x y:Ins):Bool:=pc (x=y)
def zkY (_ _:Ins):Bool:=true
def zko:List AV->Option (Bool×List AV)
 | [.agg [.i .i64 c,.i .i64 d],.agg [.i .i64 e,.i .i64 f]]=>some ((zjE (⟨c,d⟩:Ins) (⟨e,f⟩:Ins)),[.one (.b (zkY (⟨c,d⟩:Ins) (⟨e,f⟩:Ins)))])
 | _=>none
def zmD (N:Nat)(a0:Ins)(a1:Ins):Option Ans :=
 (cond (ine a0.Op a1.Op) (some [(.one (.b false))]) (cond (ine a0.X a1.X) (some [(.one (.b false))]) (some [(.one (.b true))])))
theorem zyJ (N:Nat)(a0:Ins)(a1:Ins):evalFn (cQ zhz zba zK zL) (zx []) N 12 111 [.agg (Ty.cells .ins a0),.agg (Ty.cells .ins a1)]=zmD N a0 a1:=by kernel_rfl
theorem zwx (a0:Ins)(a1:Ins)(hb:zF big [.agg (Ty.cells .ins a0),.agg (Ty.cells .ins a1)])(hc:(zjE a0 a1)=true):∃N,zmD N a0 a1=some [.one (.b (zkY a0 a1))]:=by
 have:=zbb.1 hc;subst this;refine ⟨0,?_⟩;simp only [zmD, zdR,zbr,zbG,cT,cF,Bool.not_true,zkY]
theorem zsH:Holds Tryz.prog 111 zko:=zk zdX zy zl zn (zA (by kernel_rfl)) fun avs rs hb h=>by
 unfold zko at h;split at h
 ·obtain ⟨hc,rfl⟩:=zh h;exact (fin2 zwx zyJ hc hb :)
 ·cases h
def zjD (x y:Ctl):Bool:=pc (x=y)
def zkX (_ _:Ctl):Bool:=true
def zkn:List AV->Option (Bool×List AV)
 | [.agg [.i .i64 c,.i .i64 d,.b e],.agg [.i .i64 f,.i .i64 g,.b h]]=>some ((zjD (⟨c,d,e⟩:Ctl) (⟨f,g,h⟩:Ctl)),[.one (.b (zkX (⟨c,d,e⟩:Ctl) (⟨f,g,h⟩:Ctl)))])
 | _=>none
def zmC (N:Nat)(a0:Ctl)(a1:Ctl):Option Ans :=
 (cond (ine a0.Traps a1.Traps) (some [(.one (.b false))]) (cond (ine a0.Post a1.Post) (some [(.one (.b false))]) (cond (cond (ze9 a0.Open a1.Open) false true) (some [(.one (.b false))]) (some [(.one (.b true))]))))
theorem zyI (N:Nat)(a0:Ctl)(a1:Ctl):evalFn (cQ zhz zba zK zL) (zx []) N 12 108 [.agg (zeq a0),.agg (zeq a1)]=zmC N a0 a1:=by kernel_rfl
theorem zww (a0:Ctl)(a1:Ctl)(hb:zF big [.agg (zeq a0),.agg (zeq a1)])(hc:(zjD a0 a1)=true):∃N,zmC N a0 a1=some [.one (.b (zkX a0 a1))]:=by
 have:=zbb.1 hc;subst this;refine ⟨0,?_⟩;simp only [zmC, zdR,zbr,zbG,cT,cF,Bool.not_true,zkX]
theorem zsG:Holds Tryz.prog 108 zkn:=zk zdX zy zl zn (zA (by kernel_rfl)) fun avs rs hb h=>by
 unfold zkn at h;split at h
 ·obtain ⟨hc,rfl⟩:=zh h;exact (fin2 zww zyI hc hb :)
 ·cases h
def zhF (x y:GExit):Bool:=pc (x=y)
def ziz (_ _:GExit):Bool:=true
def ziU:List AV->Option (Bool×List AV)
 | [.agg [.i .i64 c,.i .i64 d,.b e,.i .i64 f],.agg [.i .i64 g,.i .i64 h,.b j,.i .i64 k]]=>some ((zhF (⟨c,d,e,f⟩:GExit) (⟨g,h,j,k⟩:GExit)),[.one (.b (ziz (⟨c,d,e,f⟩:GExit) (⟨g,h,j,k⟩:GExit)))])
 | _=>none
def zlp (N:Nat)(a0:GExit)(a1:GExit):Option Ans :=
 (cond (ine a0.Kind a1.Kind) (some [(.one (.b false))]) (cond (ine a0.Page a1.Page) (some [(.one (.b false))]) (cond (cond (ze9 a0.Write a1.Write) false true) (some [(.one (.b false))]) (cond (ine a0.N a1.N) (some [(.one (.b false))]) (some [(.one (.b true))])))))
theorem zwW (N:Nat)(a0:GExit)(a1:GExit):evalFn (cQ zhz zba zK zL) (zx []) N 12 109 [.agg (zeC a0),.agg (zeC a1)]=zlp N a0 a1:=by kernel_rfl
theorem zuQ (a0:GExit)(a1:GExit)(hb:zF big [.agg (zeC a0),.agg (zeC a1)])(hc:(zhF a0 a1)=true):∃N,zlp N a0 a1=some [.one (.b (ziz a0 a1))]:=by
 have:=zbb.1 hc;subst this;refine ⟨0,?_⟩;simp only [zlp, zdR,zbr,zbG,cT,cF,Bool.not_true,ziz]
theorem zq7:Holds Tryz.prog 109 ziU:=zk zdX zy zl zn (zA (by kernel_rfl)) fun avs rs hb h=>by
 unfold ziU at h;split at h
 ·obtain ⟨hc,rfl⟩:=zh h;exact (fin2 zuQ zwW hc hb :)
 ·cases h
def zgq (x y:Entry):Bool:=pc (x=y)
def zgQ (_ _:Entry):Bool:=true
def zha:List AV->Option (Bool×List AV)
 | [.agg [.i .i64 c,.i .i64 d,.i .i64 e,.i .i64 f],.agg [.i .i64 g,.i .i64 h,.i .i64 j,.i .i64 k]]=>some ((zgq (⟨c,d,e,f⟩:Entry) (⟨g,h,j,k⟩:Entry)),[.one (.b (zgQ (⟨c,d,e,f⟩:Entry) (⟨g,h,j,k⟩:Entry)))])
 | _=>none
def zjW (N:Nat)(a0:Entry)(a1:Entry):Option Ans :=
 (cond (ine a0.Tag a1.Tag) (some [(.one (.b false))]) (cond (ine a0.Page a1.Page) (some [(.one (.b false))]) (cond (ine a0.Host a1.Host) (some [(.one (.b false))]) (cond (ine a0.Rights a1.Rights) (some [(.one (.b false))]) (some [(.one (.b true))])))))
theorem zvs (N:Nat)(a0:Entry)(a1:Entry):evalFn (cQ zhz zba zK zL) (zx []) N 12 54 [.agg (Ty.cells .entry a0),.agg (Ty.cells .entry a1)]=zjW N a0 a1:=by kernel_rfl
theorem zsY (a0:Entry)(a1:Entry)(hb:zF big [.agg (Ty.cells .entry a0),.agg (Ty.cells .entry a1)])(hc:(zgq a0 a1)=true):∃N,zjW N a0 a1=some [.one (.b (zgQ a0 a1))]:=by
 have:=zbb.1 hc;subst this;refine ⟨0,?_⟩;simp only [zjW, zdR,zbr,zbG,cT,cF,Bool.not_true,zgQ]
theorem zpX:Holds Tryz.prog 54 zha:=zk zdX zy zl zn (zA (by kernel_rfl)) fun avs rs hb h=>by
 unfold zha at h;split at h
 ·obtain ⟨hc,rfl⟩:=zh h;exact (fin2 zsY zvs hc hb :)
 ·cases h
def zc3 (x y:List Int):Bool:=pc (x=y)
def zdA (_ _:List Int):Bool:=true
def ziW:List AV->Option (Bool×List AV)
 | [.one (.s .int c),.one (.s .int d)]=>some ((zc3 c d),[.one (.b (zdA c d))])
 | _=>none
def zls (N:Nat)(a0 a1:List Int):Option Ans :=
 (cond (ine (ln a0) (ln a1)) (some [(.one (.b false))]) (iter (σ:=(Int×((List Int)×((List Int)×Unit)))) N (fun r3 s4=>(cond (ilt s4.1 (ln s4.2.1)) (cond (inb s4.1 (ln s4.2.1)) (cond (inb s4.1 (ln s4.2.2.1)) (cond (ine (ix s4.2.1 s4.1 0) (ix s4.2.2.1 s4.1 0)) (some [(.one (.b false))]) (r3 ((zW .i64 s4.1 1),(s4.2.1,(s4.2.2.1,()))))) none) none) (some [(.one (.b true))]))) (0,(a0,(a1,())))))
def zvY:FuncId->Nat->Option Tmpl:=zx [(52,0,{ n:=26,tm:=[(0,.sl 0 []),(1,.sl 1 []),(5,.i .i64)],lo:=[],ro:=[(0,.int,false),(1,.int,false)] })]
theorem zwZ (N:Nat)(a0 a1:List Int):evalFn (cQ zhz zba zK zL) zvY N 12 52 [.one (.s .int a0),.one (.s .int a1)]=zls N a0 a1:=by kernel_rfl
theorem zuT (a0 a1:List Int)(hb:zF big [.one (.s .int a0),.one (.s .int a1)])(hc:(zc3 a0 a1)=true):∃N,zls N a0 a1=some [.one (.b (zdA a0 a1))]:=by
 have:=zbb.1 hc;subst this;have hl:=((zM hb).1 _ (List.mem_singleton.2 rfl)).len;refine ⟨a0.length+1,?_⟩;unfold zls;rw [zbr];refine zeb a0 zDt _ _ hl (fun i hi rec=>?_) (fun rec=>?_) (Nat.lt_succ_self _)
 ·simp only [zbo hi,zU hi,zbd hi,zdR,zbr,zbG,cT,cF,Bool.not_true]
 ·simp only [zbe,cF,zdA]
theorem zq9:Holds Tryz.prog 52 ziW:=zk zdX zy zl zn (zA (by kernel_rfl)) fun avs rs hb h=>by
 unfold ziW at h;split at h
 ·obtain ⟨hc,rfl⟩:=zh h;exact (fin2 zuT zwZ hc hb :)
 ·cases h
def zdI (x y:List Bool):Bool:=pc (x=y)
def zd2 (_ _:List Bool):Bool:=true
def zg9:List AV->Option (Bool×List AV)
 | [.one (.s .bool c),.one (.s .bool d)]=>some ((zdI c d),[.one (.b (zd2 c d))])
 | _=>none
def zjV (N:Nat)(a0 a1:List Bool):Option Ans :=
 (cond (ine (ln a0) (ln a1)) (some [(.one (.b false))]) (iter (σ:=(Int×((List Bool)×((List Bool)×Unit)))) N (fun r3 s4=>(cond (ilt s4.1 (ln s4.2.1)) (cond (inb s4.1 (ln s4.2.1)) (cond (inb s4.1 (ln s4.2.2.1)) (cond (cond (ze9 (ix s4.2.1 s4.1 false) (ix s4.2.2.1 s4.1 false)) false true) (some [(.one (.b false))]) (r3 ((zW .i64 s4.1 1),(s4.2.1,(s4.2.2.1,()))))) none) none) (some [(.one (.b true))]))) (0,(a0,(a1,())))))
def ztz:FuncId->Nat->Option Tmpl:=zx [(78,0,{ n:=26,tm:=[(0,.sl 0 []),(1,.sl 1 []),(5,.i .i64)],lo:=[],ro:=[(0,.bool,false),(1,.bool,false)] })]
theorem zvr (N:Nat)(a0 a1:List Bool):evalFn (cQ zhz zba zK zL) ztz N 12 78 [.one (.s .bool a0),.one (.s .bool a1)]=zjV N a0 a1:=by kernel_rfl
theorem zsX (a0 a1:List Bool)(hb:zF big [.one (.s .bool a0),.one (.s .bool a1)])(hc:(zdI a0 a1)=true):∃N,zjV N a0 a1=some [.one (.b (zd2 a0 a1))]:=by
 have:=zbb.1 hc;subst this;have hl:=((zM hb).1 _ (List.mem_singleton.2 rfl)).len;refine ⟨a0.length+1,?_⟩;unfold zjV;rw [zbr];refine zeb a0 zC9 _ _ hl (fun i hi rec=>?_) (fun rec=>?_) (Nat.lt_succ_self _)
 ·simp only [zbo hi,zU hi,zbd hi,zdR,zbr,zbG,cT,cF,Bool.not_true]
 ·simp only [zbe,cF,zd2]
theorem zpW:Holds Tryz.prog 78 zg9:=zk zdX zy zl zn (zA (by kernel_rfl)) fun avs rs hb h=>by
 unfold zg9 at h;split at h
 ·obtain ⟨hc,rfl⟩:=zh h;exact (fin2 zsX zvr hc hb :)
 ·cases h
def znJ:zbg:=[(96,ziZ),(111,zko),(108,zkn),(109,ziU),(54,zha),(52,ziW),(78,zg9)]++zhz
theorem ziq:zbl znJ:=zi zrd (zi zsH (zi zsG (zi zq7 (zi zpX (zi zq9 (zi zpW zdX))))))
def zct (x y:List Slot):Bool:=pc (x=y)
def zcH (_ _:List Slot):Bool:=true
def zhe:List AV->Option (Bool×List AV)
 | [.one (.s .slot c),.one (.s .slot d)]=>some ((zct c d),[.one (.b (zcH c d))])
 | _=>none
def zj0 (N:Nat)(a0 a1:List Slot):Option Ans :=
 (cond (ine (ln a0) (ln a1)) (some [(.one (.b false))]) (iter (σ:=(Int×((List Slot)×((List Slot)×Unit)))) N (fun r3 s4=>(cond (ilt s4.1 (ln s4.2.1)) (cond (inb s4.1 (ln s4.2.1)) (cond (inb s4.1 (ln s4.2.2.1)) (cond (zhK (ix s4.2.1 s4.1 zB) (ix s4.2.2.1 s4.1 zB)) (cond (cond (ziE (ix s4.2.1 s4.1 zB) (ix s4.2.2.1 s4.1 zB)) false true) (some [(.one (.b false))]) (r3 ((zW .i64 s4.1 1),(s4.2.1,(s4.2.2.1,()))))) none) none) none) (some [(.one (.b true))]))) (0,(a0,(a1,())))))
def ztC:FuncId->Nat->Option Tmpl:=zx [(77,0,{ n:=27,tm:=[(0,.sl 0 []),(1,.sl 1 []),(5,.i .i64)],lo:=[],ro:=[(0,.slot,false),(1,.slot,false)] })]
theorem zvw (N:Nat)(a0 a1:List Slot):evalFn (cQ znJ zba zK zL) ztC N 12 77 [.one (.s .slot a0),.one (.s .slot a1)]=zj0 N a0 a1:=by kernel_rfl
theorem zs5 (a0 a1:List Slot)(hb:zF big [.one (.s .slot a0),.one (.s .slot a1)])(hc:(zct a0 a1)=true):∃N,zj0 N a0 a1=some [.one (.b (zcH a0 a1))]:=by
 have:=zbb.1 hc;subst this;have hl:=((zM hb).1 _ (List.mem_singleton.2 rfl)).len;refine ⟨a0.length+1,?_⟩;unfold zj0;rw [zbr];refine zeb a0 zB _ _ hl (fun i hi rec=>?_) (fun rec=>?_) (Nat.lt_succ_self _)
 ·simp only [zbo hi,zU hi,zbd hi,zhK,ziE,zdR,zbr,zbG,cT,cF,Bool.not_true]
 ·simp only [zbe,cF,zcH]
theorem zp1:Holds Tryz.prog 77 zhe:=zk ziq zy zl zn (zA (by kernel_rfl)) fun avs rs hb h=>by
 unfold zhe at h;split at h
 ·obtain ⟨hc,rfl⟩:=zh h;exact (fin2 zs5 zvw hc hb :)
 ·cases h
def zhH (x y:List Ins):Bool:=pc (x=y)
def ziB (_ _:List Ins):Bool:=true
def ziV:List AV->Option (Bool×List AV)
 | [.one (.s .ins c),.one (.s .ins d)]=>some ((zhH c d),[.one (.b (ziB c d))])
 | _=>none
def zlr (N:Nat)(a0 a1:List Ins):Option Ans :=
 (cond (ine (ln a0) (ln a1)) (some [(.one (.b false))]) (iter (σ:=(Int×((List Ins)×((List Ins)×Unit)))) N (fun r3 s4=>(cond (ilt s4.1 (ln s4.2.1)) (cond (inb s4.1 (ln s4.2.1)) (cond (inb s4.1 (ln s4.2.2.1)) (cond (zjE (ix s4.2.1 s4.1 zeo) (ix s4.2.2.1 s4.1 zeo)) (cond (cond (zkY (ix s4.2.1 s4.1 zeo) (ix s4.2.2.1 s4.1 zeo)) false true) (some [(.one (.b false))]) (r3 ((zW .i64 s4.1 1),(s4.2.1,(s4.2.2.1,()))))) none) none) none) (some [(.one (.b true))]))) (0,(a0,(a1,())))))
def zvX:FuncId->Nat->Option Tmpl:=zx [(107,0,{ n:=27,tm:=[(0,.sl 0 []),(1,.sl 1 []),(5,.i .i64)],lo:=[],ro:=[(0,.ins,false),(1,.ins,false)] })]
theorem zwY (N:Nat)(a0 a1:List Ins):evalFn (cQ znJ zba zK zL) zvX N 12 107 [.one (.s .ins a0),.one (.s .ins a1)]=zlr N a0 a1:=by kernel_rfl
theorem zuS (a0 a1:List Ins)(hb:zF big [.one (.s .ins a0),.one (.s .ins a1)])(hc:(zhH a0 a1)=true):∃N,zlr N a0 a1=some [.one (.b (ziB a0 a1))]:=by
 have:=zbb.1 hc;subst this;have hl:=((zM hb).1 _ (List.mem_singleton.2 rfl)).len;refine ⟨a0.length+1,?_⟩;unfold zlr;rw [zbr];refine zeb a0 zeo _ _ hl (fun i hi rec=>?_) (fun rec=>?_) (Nat.lt_succ_self _)
 ·simp only [zbo hi,zU hi,zbd hi,zjE,zkY,zdR,zbr,zbG,cT,cF,Bool.not_true]
 ·simp only [zbe,cF,ziB]
theorem zq8:Holds Tryz.prog 107 ziV:=zk ziq zy zl zn (zA (by kernel_rfl)) fun avs rs hb h=>by
 unfold ziV at h;split at h
 ·obtain ⟨hc,rfl⟩:=zh h;exact (fin2 zuS zwY hc hb :)
 ·cases h
def zd3 (x y:List Entry):Bool:=pc (x=y)
def zeg (_ _:List Entry):Bool:=true
def zf3:List AV->Option (Bool×List AV)
 | [.one (.s .entry c),.one (.s .entry d)]=>some ((zd3 c d),[.one (.b (zeg c d))])
 | _=>none
def zid (N:Nat)(a0 a1:List Entry):Option Ans :=
 (cond (ine (ln a0) (ln a1)) (some [(.one (.b false))]) (iter (σ:=(Int×((List Entry)×((List Entry)×Unit)))) N (fun r3 s4=>(cond (ilt s4.1 (ln s4.2.1)) (cond (inb s4.1 (ln s4.2.1)) (cond (inb s4.1 (ln s4.2.2.1)) (cond (zgq (ix s4.2.1 s4.1 zq) (ix s4.2.2.1 s4.1 zq)) (cond (cond (zgQ (ix s4.2.1 s4.1 zq) (ix s4.2.2.1 s4.1 zq)) false true) (some [(.one (.b false))]) (r3 ((zW .i64 s4.1 1),(s4.2.1,(s4.2.2.1,()))))) none) none) none) (some [(.one (.b true))]))) (0,(a0,(a1,())))))
def zr3:FuncId->Nat->Option Tmpl:=zx [(25,0,{ n:=27,tm:=[(0,.sl 0 []),(1,.sl 1 []),(5,.i .i64)],lo:=[],ro:=[(0,.entry,false),(1,.entry,false)] })]
theorem ztn (N:Nat)(a0 a1:List Entry):evalFn (cQ znJ zba zK zL) zr3 N 12 25 [.one (.s .entry a0),.one (.s .entry a1)]=zid N a0 a1:=by kernel_rfl
theorem zrI (a0 a1:List Entry)(hb:zF big [.one (.s .entry a0),.one (.s .entry a1)])(hc:(zd3 a0 a1)=true):∃N,zid N a0 a1=some [.one (.b (zeg a0 a1))]:=by
 have:=zbb.1 hc;subst this;have hl:=((zM hb).1 _ (List.mem_singleton.2 rfl)).len;refine ⟨a0.length+1,?_⟩;unfold zid;rw [zbr];refine zeb a0 zq _ _ hl (fun i hi rec=>?_) (fun rec=>?_) (Nat.lt_succ_self _)
 ·simp only [zbo hi,zU hi,zbd hi,zgq,zgQ,zdR,zbr,zbG,cT,cF,Bool.not_true]
 ·simp only [zbe,cF,zeg]
theorem zoV:Holds Tryz.prog 25 zf3:=zk ziq zy zl zn (zA (by kernel_rfl)) fun avs rs hb h=>by
 unfold zf3 at h;split at h
 ·obtain ⟨hc,rfl⟩:=zh h;exact (fin2 zrI ztn hc hb :)
 ·cases h
def zdJ (x y:List (List Int)):Bool:=pc (x=y)
def zd4 (_ _:List (List Int)):Bool:=true
def zhc:List AV->Option (Bool×List AV)
 | [.one (.s (.sl .int) c),.one (.s (.sl .int) d)]=>some ((zdJ c d),[.one (.b (zd4 c d))])
 | _=>none
def zjY (N:Nat)(a0:List (List Int))(a1:List (List Int)):Option Ans :=
 (cond (ine (ln a0) (ln a1)) (some [(.one (.b false))]) (iter (σ:=(Int×((List (List Int))×((List (List Int))×Unit)))) N (fun r3 s4=>(cond (ilt s4.1 (ln s4.2.1)) (cond (inb s4.1 (ln s4.2.1)) (cond (inb s4.1 (ln s4.2.2.1)) (cond (zc3 (ix s4.2.1 s4.1 []) (ix s4.2.2.1 s4.1 [])) (cond (cond (zdA (ix s4.2.1 s4.1 []) (ix s4.2.2.1 s4.1 [])) false true) (some [(.one (.b false))]) (r3 ((zW .i64 s4.1 1),(s4.2.1,(s4.2.2.1,()))))) none) none) none) (some [(.one (.b true))]))) (0,(a0,(a1,())))))
def ztA:FuncId->Nat->Option Tmpl:=zx [(23,0,{ n:=27,tm:=[(0,.sl 0 []),(1,.sl 1 []),(5,.i .i64)],lo:=[],ro:=[(0,(.sl .int),false),(1,(.sl .int),false)] })]
theorem zvu (N:Nat)(a0:List (List Int))(a1:List (List Int)):evalFn (cQ znJ zba zK zL) ztA N 12 23 [.one (.s (.sl .int) a0),.one (.s (.sl .int) a1)]=zjY N a0 a1:=by kernel_rfl
theorem zs3 (a0:List (List Int))(a1:List (List Int))(hb:zF big [.one (.s (.sl .int) a0),.one (.s (.sl .int) a1)])(hc:(zdJ a0 a1)=true):∃N,zjY N a0 a1=some [.one (.b (zd4 a0 a1))]:=by
 have:=zbb.1 hc;subst this;have hl:=((zM hb).1 _ (List.mem_singleton.2 rfl)).len;refine ⟨a0.length+1,?_⟩;unfold zjY;rw [zbr];refine zeb a0 (Ty.dflt (.sl .int)) _ _ hl (fun i hi rec=>?_) (fun rec=>?_) (Nat.lt_succ_self _)
 ·simp only [zbo hi,zU hi,zbd hi,zc3,zdA,zdR,zbr,zbG,cT,cF,Bool.not_true]
 ·simp only [zbe,cF,zd4]
theorem zpZ:Holds Tryz.prog 23 zhc:=zk ziq zy zl zn (zA (by kernel_rfl)) fun avs rs hb h=>by
 unfold zhc at h;split at h
 ·obtain ⟨hc,rfl⟩:=zh h;exact (fin2 zs3 zvu hc hb :)
 ·cases h
def ztP:zbg:=[(77,zhe),(107,ziV),(25,zf3),(23,zhc)]++znJ
theorem zoF:zbl ztP:=zi zp1 (zi zq8 (zi zoV (zi zpZ ziq)))
def zgr (x y:Guest):Bool:=pc (x=y)
def zgR (_ _:Guest):Bool:=true
def zhb:List AV->Option (Bool×List AV)
 | [.agg [.s .ins c,.i .i64 d,.i .i64 e,.s .slot f,.s .slot g,.i .i64 h,.i .i64 j,.b k,.i .i64 l,.i .i64 m,.i .i64 n,.b o,.i .i64 p,.b q,.s .int r],.agg [.s .ins t,.i .i64 u,.i .i64 v,.s .slot w,.s .slot x,.i .i64 y,.i .i64 z,.b ab,.i .i64 ac,.i .i64 ad,.i .i64 ae,.b af,.i .i64 ag,.b ah,.s .int ai]]=>some ((zgr (⟨c,d,e,f,g,⟨h,j,k⟩,l,⟨m,n,o,p⟩,q,r⟩:Guest) (⟨t,u,v,w,x,⟨y,z,ab⟩,ac,⟨ad,ae,af,ag⟩,ah,ai⟩:Guest)),[.one (.b (zgR (⟨c,d,e,f,g,⟨h,j,k⟩,l,⟨m,n,o,p⟩,q,r⟩:Guest) (⟨t,u,v,w,x,⟨y,z,ab⟩,ac,⟨ad,ae,af,ag⟩,ah,ai⟩:Guest)))])
 | _=>none
def zjX (N:Nat)(a0 a1:Guest):Option Ans :=
 (cond (zhH a0.Prog a1.Prog) (cond (cond (ziB a0.Prog a1.Prog) false true) (some [(.one (.b false))]) (cond (ine a0.A a1.A) (some [(.one (.b false))]) (cond (ine a0.Pc a1.Pc) (some [(.one (.b false))]) (cond (zct a0.Written a1.Written) (cond (cond (zcH a0.Written a1.Written) false true) (some [(.one (.b false))]) (cond (zct a0.Live a1.Live) (cond (cond (zcH a0.Live a1.Live) false true) (some [(.one (.b false))]) (cond (zjD a0.Ctl a1.Ctl) (cond (cond (zkX a0.Ctl a1.Ctl) false true) (some [(.one (.b false))]) (cond (ine a0.Pending a1.Pending) (some [(.one (.b false))]) (cond (zhF a0.Exit a1.Exit) (cond (cond (ziz a0.Exit a1.Exit) false true) (some [(.one (.b false))]) (cond (cond (ze9 a0.Halted a1.Halted) false true) (some [(.one (.b false))]) (cond (zc3 a0.Seen a1.Seen) (cond (cond (zdA a0.Seen a1.Seen) false true) (some [(.one (.b false))]) (some [(.one (.b true))])) none))) none))) none)) none)) none)))) none)
theorem zvt (N:Nat)(a0 a1:Guest):evalFn (cQ ztP zba zK zL) (zx []) N 12 97 [.agg (Ty.cells .guest a0),.agg (Ty.cells .guest a1)]=zjX N a0 a1:=by kernel_rfl
theorem zsZ (a0 a1:Guest)(hb:zF big [.agg (Ty.cells .guest a0),.agg (Ty.cells .guest a1)])(hc:(zgr a0 a1)=true):∃N,zjX N a0 a1=some [.one (.b (zgR a0 a1))]:=by
 have:=zbb.1 hc;subst this;refine ⟨0,?_⟩;simp only [zjX,zhH,zct,zjD,zhF,zc3,ziB,zcH,zkX,ziz,zdA,zdR,zbr,zbG,cT,cF,Bool.not_true,zgR]
theorem zpY:Holds Tryz.prog 97 zhb:=zk zoF zy zl zn (zA (by kernel_rfl)) fun avs rs hb h=>by
 unfold zhb at h;split at h
 ·obtain ⟨hc,rfl⟩:=zh h;exact (fin2 zsZ zvt hc hb :)
 ·cases h
def zhI (x y:Kept):Bool:=pc (x=y)
def ziC (_ _:Kept):Bool:=true
def ziX:List AV->Option (Bool×List AV)
 | [.agg [.s .bool c,.s .slot d],.agg [.s .bool e,.s .slot f]]=>some ((zhI (⟨c,d⟩:Kept) (⟨e,f⟩:Kept)),[.one (.b (ziC (⟨c,d⟩:Kept) (⟨e,f⟩:Kept)))])
 | _=>none
def zlt (N:Nat)(a0 a1:Kept):Option Ans :=
 (cond (zdI a0.Known a1.Known) (cond (cond (zd2 a0.Known a1.Known) false true) (some [(.one (.b false))]) (cond (zct a0.Slots a1.Slots) (cond (cond (zcH a0.Slots a1.Slots) false true) (some [(.one (.b false))]) (some [(.one (.b true))])) none)) none)
theorem zw0 (N:Nat)(a0 a1:Kept):evalFn (cQ ztP zba zK zL) (zx []) N 12 98 [.agg (Ty.cells .kept a0),.agg (Ty.cells .kept a1)]=zlt N a0 a1:=by kernel_rfl
theorem zuU (a0 a1:Kept)(hb:zF big [.agg (Ty.cells .kept a0),.agg (Ty.cells .kept a1)])(hc:(zhI a0 a1)=true):∃N,zlt N a0 a1=some [.one (.b (ziC a0 a1))]:=by
 have:=zbb.1 hc;subst this;refine ⟨0,?_⟩;simp only [zlt,zdI,zct,zd2,zcH,zdR,zbr,zbG,cT,cF,Bool.not_true,ziC]
theorem zra:Holds Tryz.prog 98 ziX:=zk zoF zy zl zn (zA (by kernel_rfl)) fun avs rs hb h=>by
 unfold ziX at h;split at h
 ·obtain ⟨hc,rfl⟩:=zh h;exact (fin2 zuU zw0 hc hb :)
 ·cases h
def ztQ:zbg:=[(97,zhb),(98,ziX)]++ztP
theorem zoG:zbl ztQ:=zi zpY (zi zra zoF)
def zfn (x y:List Guest):Bool:=pc (x=y)
def zfm (_ _:List Guest):Bool:=true
def zf4:List AV->Option (Bool×List AV)
 | [.one (.s .guest c),.one (.s .guest d)]=>some ((zfn c d),[.one (.b (zfm c d))])
 | _=>none
def zie (N:Nat)(a0 a1:List Guest):Option Ans :=
 (cond (ine (ln a0) (ln a1)) (some [(.one (.b false))]) (iter (σ:=(Int×((List Guest)×((List Guest)×Unit)))) N (fun r3 s4=>(cond (ilt s4.1 (ln s4.2.1)) (cond (inb s4.1 (ln s4.2.1)) (cond (inb s4.1 (ln s4.2.2.1)) (cond (zgr (ix s4.2.1 s4.1 zbq) (ix s4.2.2.1 s4.1 zbq)) (cond (cond (zgR (ix s4.2.1 s4.1 zbq) (ix s4.2.2.1 s4.1 zbq)) false true) (some [(.one (.b false))]) (r3 ((zW .i64 s4.1 1),(s4.2.1,(s4.2.2.1,()))))) none) none) none) (some [(.one (.b true))]))) (0,(a0,(a1,())))))
def zr4:FuncId->Nat->Option Tmpl:=zx [(79,0,{ n:=27,tm:=[(0,.sl 0 []),(1,.sl 1 []),(5,.i .i64)],lo:=[],ro:=[(0,.guest,false),(1,.guest,false)] })]
theorem zto (N:Nat)(a0 a1:List Guest):evalFn (cQ ztQ zba zK zL) zr4 N 12 79 [.one (.s .guest a0),.one (.s .guest a1)]=zie N a0 a1:=by kernel_rfl
theorem zrJ (a0 a1:List Guest)(hb:zF big [.one (.s .guest a0),.one (.s .guest a1)])(hc:(zfn a0 a1)=true):∃N,zie N a0 a1=some [.one (.b (zfm a0 a1))]:=by
 have:=zbb.1 hc;subst this;have hl:=((zM hb).1 _ (List.mem_singleton.2 rfl)).len;refine ⟨a0.length+1,?_⟩;unfold zie;rw [zbr];refine zeb a0 zbq _ _ hl (fun i hi rec=>?_) (fun rec=>?_) (Nat.lt_succ_self _)
 ·simp only [zbo hi,zU hi,zbd hi,zgr,zgR,zdR,zbr,zbG,cT,cF,Bool.not_true]
 ·simp only [zbe,cF,zfm]
theorem zoW:Holds Tryz.prog 79 zf4:=zk zoG zy zl zn (zA (by kernel_rfl)) fun avs rs hb h=>by
 unfold zf4 at h;split at h
 ·obtain ⟨hc,rfl⟩:=zh h;exact (fin2 zrJ zto hc hb :)
 ·cases h
def zgs (x y:List Kept):Bool:=pc (x=y)
def zgS (_ _:List Kept):Bool:=true
def zhd:List AV->Option (Bool×List AV)
 | [.one (.s .kept c),.one (.s .kept d)]=>some ((zgs c d),[.one (.b (zgS c d))])
 | _=>none
def zjZ (N:Nat)(a0 a1:List Kept):Option Ans :=
 (cond (ine (ln a0) (ln a1)) (some [(.one (.b false))]) (iter (σ:=(Int×((List Kept)×((List Kept)×Unit)))) N (fun r3 s4=>(cond (ilt s4.1 (ln s4.2.1)) (cond (inb s4.1 (ln s4.2.1)) (cond (inb s4.1 (ln s4.2.2.1)) (cond (zhI (ix s4.2.1 s4.1 zbV) (ix s4.2.2.1 s4.1 zbV)) (cond (cond (ziC (ix s4.2.1 s4.1 zbV) (ix s4.2.2.1 s4.1 zbV)) false true) (some [(.one (.b false))]) (r3 ((zW .i64 s4.1 1),(s4.2.1,(s4.2.2.1,()))))) none) none) none) (some [(.one (.b true))]))) (0,(a0,(a1,())))))
def ztB:FuncId->Nat->Option Tmpl:=zx [(80,0,{ n:=27,tm:=[(0,.sl 0 []),(1,.sl 1 []),(5,.i .i64)],lo:=[],ro:=[(0,.kept,false),(1,.kept,false)] })]
theorem zvv (N:Nat)(a0 a1:List Kept):evalFn (cQ ztQ zba zK zL) ztB N 12 80 [.one (.s .kept a0),.one (.s .kept a1)]=zjZ N a0 a1:=by kernel_rfl
theorem zs4 (a0 a1:List Kept)(hb:zF big [.one (.s .kept a0),.one (.s .kept a1)])(hc:(zgs a0 a1)=true):∃N,zjZ N a0 a1=some [.one (.b (zgS a0 a1))]:=by
 have:=zbb.1 hc;subst this;have hl:=((zM hb).1 _ (List.mem_singleton.2 rfl)).len;refine ⟨a0.length+1,?_⟩;unfold zjZ;rw [zbr];refine zeb a0 zbV _ _ hl (fun i hi rec=>?_) (fun rec=>?_) (Nat.lt_succ_self _)
 ·simp only [zbo hi,zU hi,zbd hi,zhI,ziC,zdR,zbr,zbG,cT,cF,Bool.not_true]
 ·simp only [zbe,cF,zgS]
theorem zp0:Holds Tryz.prog 80 zhd:=zk zoG zy zl zn (zA (by kernel_rfl)) fun avs rs hb h=>by
 unfold zhd at h;split at h
 ·obtain ⟨hc,rfl⟩:=zh h;exact (fin2 zs4 zvv hc hb :)
 ·cases h
def zyk:zbg:=[(79,zf4),(80,zhd)]++ztQ
theorem zun:zbl zyk:=zi zoW (zi zp0 zoG)
def zjF (x y:Mon):Bool:=pc (x=y)
def zkZ (_ _:Mon):Bool:=true
def zkp:List AV->Option (Bool×List AV)
 | [.agg [.s .slot c,.s (.sl .int) d,.s .bool e,.s .guest f,.s .int g,.i .i64 h,.i .i64 j,.s .kept k,.i .i64 l],.agg [.s .slot m,.s (.sl .int) n,.s .bool o,.s .guest p,.s .int q,.i .i64 r,.i .i64 t,.s .kept u,.i .i64 v]]=>some ((zjF (⟨c,d,e,f,g,h,j,k,l⟩:Mon) (⟨m,n,o,p,q,r,t,u,v⟩:Mon)),[.one (.b (zkZ (⟨c,d,e,f,g,h,j,k,l⟩:Mon) (⟨m,n,o,p,q,r,t,u,v⟩:Mon)))])
 | _=>none
def zmE (N:Nat)(a0 a1:Mon):Option Ans :=
 (cond (zct a0.Outer a1.Outer) (cond (cond (zcH a0.Outer a1.Outer) false true) (some [(.one (.b false))]) (cond (zdJ a0.Out a1.Out) (cond (cond (zd4 a0.Out a1.Out) false true) (some [(.one (.b false))]) (cond (zdI a0.Dirty a1.Dirty) (cond (cond (zd2 a0.Dirty a1.Dirty) false true) (some [(.one (.b false))]) (cond (zfn a0.Guests a1.Guests) (cond (cond (zfm a0.Guests a1.Guests) false true) (some [(.one (.b false))]) (cond (zc3 a0.Outs a1.Outs) (cond (cond (zdA a0.Outs a1.Outs) false true) (some [(.one (.b false))]) (cond (ine a0.Pending a1.Pending) (some [(.one (.b false))]) (cond (ine a0.Traps a1.Traps) (some [(.one (.b false))]) (cond (zgs a0.Tables a1.Tables) (cond (cond (zgS a0.Tables a1.Tables) false true) (some [(.one (.b false))]) (cond (ine a0.Own a1.Own) (some [(.one (.b false))]) (some [(.one (.b true))]))) none)))) none)) none)) none)) none)) none)
theorem zyK (N:Nat)(a0 a1:Mon):evalFn (cQ zyk zba zK zL) (zx []) N 12 53 [.agg (Ty.cells .mon a0),.agg (Ty.cells .mon a1)]=zmE N a0 a1:=by kernel_rfl
theorem zwy (a0 a1:Mon)(hb:zF big [.agg (Ty.cells .mon a0),.agg (Ty.cells .mon a1)])(hc:(zjF a0 a1)=true):∃N,zmE N a0 a1=some [.one (.b (zkZ a0 a1))]:=by
 have:=zbb.1 hc;subst this;refine ⟨0,?_⟩;simp only [zmE,zct,zdJ,zdI,zfn,zc3,zgs,zcH,zd4,zd2,zfm,zdA,zgS,zdR,zbr,zbG,cT,cF,Bool.not_true,zkZ]
theorem zsI:Holds Tryz.prog 53 zkp:=zk zun zy zl zn (zA (by kernel_rfl)) fun avs rs hb h=>by
 unfold zkp at h;split at h
 ·obtain ⟨hc,rfl⟩:=zh h;exact (fin2 zwy zyK hc hb :)
 ·cases h
def zyl:zbg:=[(53,zkp)]++zyk
theorem zuo:zbl zyl:=zi zsI zun
def zhJ (x y:List Mon):Bool:=pc (x=y)
def ziD (_ _:List Mon):Bool:=true
def ziY:List AV->Option (Bool×List AV)
 | [.one (.s .mon c),.one (.s .mon d)]=>some ((zhJ c d),[.one (.b (ziD c d))])
 | _=>none
def zlu (N:Nat)(a0 a1:List Mon):Option Ans :=
 (cond (ine (ln a0) (ln a1)) (some [(.one (.b false))]) (iter (σ:=(Int×((List Mon)×((List Mon)×Unit)))) N (fun r3 s4=>(cond (ilt s4.1 (ln s4.2.1)) (cond (inb s4.1 (ln s4.2.1)) (cond (inb s4.1 (ln s4.2.2.1)) (cond (zjF (ix s4.2.1 s4.1 zG) (ix s4.2.2.1 s4.1 zG)) (cond (cond (zkZ (ix s4.2.1 s4.1 zG) (ix s4.2.2.1 s4.1 zG)) false true) (some [(.one (.b false))]) (r3 ((zW .i64 s4.1 1),(s4.2.1,(s4.2.2.1,()))))) none) none) none) (some [(.one (.b true))]))) (0,(a0,(a1,())))))
def zvZ:FuncId->Nat->Option Tmpl:=zx [(24,0,{ n:=27,tm:=[(0,.sl 0 []),(1,.sl 1 []),(5,.i .i64)],lo:=[],ro:=[(0,.mon,false),(1,.mon,false)] })]
theorem zw1 (N:Nat)(a0 a1:List Mon):evalFn (cQ zyl zba zK zL) zvZ N 12 24 [.one (.s .mon a0),.one (.s .mon a1)]=zlu N a0 a1:=by kernel_rfl
theorem zuV (a0 a1:List Mon)(hb:zF big [.one (.s .mon a0),.one (.s .mon a1)])(hc:(zhJ a0 a1)=true):∃N,zlu N a0 a1=some [.one (.b (ziD a0 a1))]:=by
 have:=zbb.1 hc;subst this;have hl:=((zM hb).1 _ (List.mem_singleton.2 rfl)).len;refine ⟨a0.length+1,?_⟩;unfold zlu;rw [zbr];refine zeb a0 zG _ _ hl (fun i hi rec=>?_) (fun rec=>?_) (Nat.lt_succ_self _)
 ·simp only [zbo hi,zU hi,zbd hi,zjF,zkZ,zdR,zbr,zbG,cT,cF,Bool.not_true]
 ·simp only [zbe,cF,ziD]
theorem zrb:Holds Tryz.prog 24 ziY:=zk zuo zy zl zn (zA (by kernel_rfl)) fun avs rs hb h=>by
 unfold ziY at h;split at h
 ·obtain ⟨hc,rfl⟩:=zh h;exact (fin2 zuV zw1 hc hb :)
 ·cases h
def zym:zbg:=[(24,ziY)]++zyl
theorem zup:zbl zym:=zi zrb zuo
def zhG (x y:Host):Bool:=pc (x=y)
def ziA (_ _:Host):Bool:=true
def zfv:List AV->Option (Bool×List AV)
 | [.agg [.s (.sl .int) c,.s .mon d,.s .entry e,.s .entry f],.agg [.s (.sl .int) g,.s .mon h,.s .entry i,.s .entry j]]=>some ((zhG (⟨c,d,e,f⟩:Host) (⟨g,h,i,j⟩:Host)),[.one (.b (ziA (⟨c,d,e,f⟩:Host) (⟨g,h,i,j⟩:Host)))])
 | _=>none
def zlq (N:Nat)(a0 a1:Host):Option Ans :=
 (cond (zdJ a0.Memory a1.Memory) (cond (cond (zd4 a0.Memory a1.Memory) false true) (some [(.one (.b false))]) (cond (zhJ a0.Mons a1.Mons) (cond (cond (ziD a0.Mons a1.Mons) false true) (some [(.one (.b false))]) (cond (zd3 a0.Buffer a1.Buffer) (cond (cond (zeg a0.Buffer a1.Buffer) false true) (some [(.one (.b false))]) (cond (zd3 a0.IoBuffer a1.IoBuffer) (cond (cond (zeg a0.IoBuffer a1.IoBuffer) false true) (some [(.one (.b false))]) (some [(.one (.b true))])) none)) none)) none)) none)
theorem zwX (N:Nat)(a0 a1:Host):evalFn (cQ zym zba zK zL) (zx []) N 12 8 [.agg (zbn a0),.agg (zbn a1)]=zlq N a0 a1:=by kernel_rfl
theorem zuR (a0 a1:Host)(hb:zF big [.agg (zbn a0),.agg (zbn a1)])(hc:(zhG a0 a1)=true):∃N,zlq N a0 a1=some [.one (.b (ziA a0 a1))]:=by
 have:=zbb.1 hc;subst this;refine ⟨0,?_⟩;simp only [zlq,zdJ,zhJ,zd3,zd4,ziD,zeg,zdR,zbr,zbG,cT,cF,Bool.not_true,ziA]
theorem zkP:Holds Tryz.prog 8 zfv:=zk zup zy zl zn (zA (by kernel_rfl)) fun avs rs hb h=>by
 unfold zfv at h;split at h
 ·obtain ⟨hc,rfl⟩:=zh h;exact (fin2 zuR zwX hc hb :)
 ·cases h
def zBg:zbg:=[(8,zfv)]++zym
theorem zAb:zbl zBg:=zi zkP zup
def zyo:zbg:=zBg
theorem zqP:∀f run,zf zyo f=some run->Holds Tryz.prog f run:=zAb
def zC (_ _ _:Int):Bool:=true
def zJ (x a b:Int):Bool:=ige x a&&ile x b
def zkz:List AV->Option (Bool×List AV)
 | [.one (.i .i64 c),.one (.i .i64 d),.one (.i .i64 e)]=>some ((zC c d e),[.one (.b (zJ c d e))])
 | _=>none
def zmN (N:Nat)(a0 a1 a2:Int):Option Ans :=
 (cond (ige a0 a1) (some [(.one (.b (ile a0 a2)))]) (some [(.one (.b false))]))
theorem zyU (N:Nat)(a0 a1 a2:Int):evalFn (cQ zyo zba zK zL) (zx []) N 12 29 [.one (.i .i64 a0),.one (.i .i64 a1),.one (.i .i64 a2)]=zmN N a0 a1 a2:=by kernel_rfl
theorem zwI (a0 a1 a2:Int)(hb:zF big [.one (.i .i64 a0),.one (.i .i64 a1),.one (.i .i64 a2)])(hc:(zC a0 a1 a2)=true):∃N,zmN N a0 a1 a2=some [.one (.b (zJ a0 a1 a2))]:=by
 refine ⟨0,?_⟩;unfold zmN zJ;cases ige a0 a1<;>rfl
theorem zsS:Holds Tryz.prog 29 zkz:=zk zqP zy zl zn (zA (by kernel_rfl)) fun avs rs hb h=>by
 unfold zkz at h;split at h
 ·obtain ⟨hc,rfl⟩:=zh h;exact (zqT zwI zyU hc hb :)
 ·cases h
def zh4 (_ _:Int):Bool:=true
@[reducible] def zhD (i n:Int):Bool:=hasB i n
def zns:List AV->Option (Bool×List AV)
 | [.one (.i .i64 c),.one (.i .i64 d)]=>some ((zh4 c d),[.one (.b (zhD c d))])
 | _=>none
def zqH (N:Nat)(a0 a1:Int):Option Ans :=
 (cond (ige a0 0) (some [(.one (.b (ilt a0 a1)))]) (some [(.one (.b false))]))
theorem zAU (N:Nat)(a0 a1:Int):evalFn (cQ zyo zba zK zL) (zx []) N 12 48 [.one (.i .i64 a0),.one (.i .i64 a1)]=zqH N a0 a1:=by kernel_rfl
theorem zzw (a0 a1:Int)(hb:zF big [.one (.i .i64 a0),.one (.i .i64 a1)])(hc:(zh4 a0 a1)=true):∃N,zqH N a0 a1=some [.one (.b (zhD a0 a1))]:=by
 refine ⟨0,?_⟩;unfold zqH zhD;rw [<- has_eq];cases ige a0 0<;>rfl
theorem zwp:Holds Tryz.prog 48 zns:=zk zqP zy zl zn (zA (by kernel_rfl)) fun avs rs hb h=>by
 unfold zns at h;split at h
 ·obtain ⟨hc,rfl⟩:=zh h;exact (fin2 zzw zAU hc hb :)
 ·cases h
theorem zzv {n:Nat}(hn:n<=big)(i:Int):zJ i 0 (wsub .i64 (n:Int) 1)=hasB i n:=by
 rw [zfO] at hn;rw [zsb (by omega) (by omega)]
 unfold zJ ige ile hasB
 by_cases h1:0<=i<;>by_cases h2:i<n
 ·rw [decide_eq_true (p:=i≥0) (by omega),decide_eq_true (p:=i<=(n:Int)-1) (by omega),decide_eq_true (p:=0<=i/\i<(n:Int)) ⟨h1,h2⟩];rfl
 ·rw [decide_eq_false (p:=i<=(n:Int)-1) (by omega),decide_eq_false (p:=0<=i/\i<(n:Int)) (by omega)];simp
 ·rw [decide_eq_false (p:=i≥0) (by omega),decide_eq_false (p:=0<=i/\i<(n:Int)) (by omega)];simp
 ·rw [decide_eq_false (p:=i≥0) (by omega),decide_eq_false (p:=0<=i/\i<(n:Int)) (by omega)];simp
def zBh:zbg:=[(29,zkz),(48,zns)]++zyo
theorem zAf:zbl zBh:=zi zsS (zi zwp zqP)
def zBi:zbg:=zBh
theorem zAg:∀f run,zf zBi f=some run->Holds Tryz.prog f run:=zAf
def zBj:zbg:=zBi
theorem zAh:∀f run,zf zBj f=some run->Holds Tryz.prog f run:=zAg
def zBk:zbg:=zBj
theorem zAi:∀f run,zf zBk f=some run->Holds Tryz.prog f run:=zAh
def zBl:zbg:=zBk
theorem zAj:∀f run,zf zBl f=some run->Holds Tryz.prog f run:=zAi
def zur:zbg:=zBl
theorem znM:∀f run,zf zur f=some run->Holds Tryz.prog f run:=zAj
theorem zy9 {h:Host}{n:Int}(h0:0<=n)(h1:n<=1048576)(hp:ilt (zdh h n) 0=false):zdl h/\0<=zdh h n/\zdh h n<=1048576:=by
 have hp':¬ zdh h n<0:=of_decide_eq_false hp;obtain ⟨a,b⟩:=zyz h n h0 h1;exact ⟨b (by omega),by omega,by omega⟩
theorem zzV (h:Host):zhL h 1048576=true:=zO (by omega)
theorem zA7 {h:Host}(hs:zdl h):zei h=true:=zO hs
theorem zAH (h:Host):zhG h h=true:=zO rfl
theorem zzZ (h:Host):zcR h=h:=rfl
theorem zAI (h:Host):ziA h h=true:=rfl
def noSlot:Slot:=⟨-1,0⟩
def zbP:Bool:=true
@[reducible] def zbh:Slot:=noSlot
def zje:List AV->Option (Bool×List AV)
 | []=>some (zbP,[.agg (Ty.cells .slot zbh)])
 | _=>none
def zpw (N:Nat)  : Option Ans :=
 (some [(.agg [(.i .i64 (-1)),(.i .i64 0)])])
theorem zxj (N:Nat)  : evalFn (cQ zur zba zK zL) (zx []) N 12 62 []=zpw N:=by kernel_rfl
theorem zve  (hb:zF big []) (hc:zbP=true):∃N,zpw N  = some [.agg (Ty.cells .slot zbh)]:=by
 exact ⟨0,rfl⟩
theorem zrt:Holds Tryz.prog 62 zje:=zk znM zy zl zn (zA (by kernel_rfl)) fun avs rs hb h=>by
 unfold zje at h;split at h
 ·obtain ⟨hc,rfl⟩:=zh h;exact (fin0 zve zxj hc hb :)
 ·cases h
def zbO:Bool:=true
@[reducible] def zby:Slot:=noSlot
def ziM:List AV->Option (Bool×List AV)
 | []=>some (zbO,[.agg (Ty.cells .slot zby)])
 | _=>none
def zpt (N:Nat)  : Option Ans :=
 (some [(.agg [(.i .i64 (-1)),(.i .i64 0)])])
theorem zwO (N:Nat)  : evalFn (cQ zur zba zK zL) (zx []) N 12 74 []=zpt N:=by kernel_rfl
theorem zuI  (hb:zF big []) (hc:zbO=true):∃N,zpt N  = some [.agg (Ty.cells .slot zby)]:=by
 exact ⟨0,rfl⟩
theorem zqZ:Holds Tryz.prog 74 ziM:=zk znM zy zl zn (zA (by kernel_rfl)) fun avs rs hb h=>by
 unfold ziM at h;split at h
 ·obtain ⟨hc,rfl⟩:=zh h;exact (fin0 zuI zwO hc hb :)
 ·cases h
def zH (_ _ _:Int):Bool:=true
def zN (x a b:Int):Bool:=ige x a&&ile x b
def ziT:List AV->Option (Bool×List AV)
 | [.one (.i .i64 c),.one (.i .i64 d),.one (.i .i64 e)]=>some ((zH c d e),[.one (.b (zN c d e))])
 | _=>none
def zlo (N:Nat)(a0 a1 a2:Int):Option Ans :=
 (cond (ige a0 a1) (some [(.one (.b (ile a0 a2)))]) (some [(.one (.b false))]))
theorem zwV (N:Nat)(a0 a1 a2:Int):evalFn (cQ zur zba zK zL) (zx []) N 12 42 [.one (.i .i64 a0),.one (.i .i64 a1),.one (.i .i64 a2)]=zlo N a0 a1 a2:=by kernel_rfl
theorem zuP (a0 a1 a2:Int)(hb:zF big [.one (.i .i64 a0),.one (.i .i64 a1),.one (.i .i64 a2)])(hc:(zH a0 a1 a2)=true):∃N,zlo N a0 a1 a2=some [.one (.b (zN a0 a1 a2))]:=by
 refine ⟨0,?_⟩;unfold zlo zN;cases ige a0 a1<;>rfl
theorem zq6:Holds Tryz.prog 42 ziT:=zk znM zy zl zn (zA (by kernel_rfl)) fun avs rs hb h=>by
 unfold ziT at h;split at h
 ·obtain ⟨hc,rfl⟩:=zh h;exact (zqT zuP zwV hc hb :)
 ·cases h
def ztR:zbg:=[(62,zje),(74,ziM),(42,ziT)]++zur
theorem zoH:zbl ztR:=zi zrt (zi zqZ (zi zq6 znM))
def zcb (r:Int):Bool:=ige r 0&&ile r 3
def zds (_:Int):Bool:=true
@[reducible] def zcF (r:Int):Bool:=zcb r
def zga:List AV->Option (Bool×List AV)
 | [.one (.i .i64 c)]=>some ((zds c),[.one (.b (zcF c))])
 | _=>none
def zmM (N:Nat)(a0:Int):Option Ans :=
 (cond (zC a0 0 3) (some [(.one (.b (zJ a0 0 3)))]) none)
theorem ztu (N:Nat)(a0:Int):evalFn (cQ ztR zba zK zL) (zx []) N 12 87 [.one (.i .i64 a0)]=zmM N a0:=by kernel_rfl
theorem zrP (a0:Int)(hb:zF big [.one (.i .i64 a0)])(hc:(zds a0)=true):∃N,zmM N a0=some [.one (.b (zcF a0))]:=by
 exact ⟨0,rfl⟩
theorem zo2:Holds Tryz.prog 87 zga:=zk zoH zy zl zn (zA (by kernel_rfl)) fun avs rs hb h=>by
 unfold zga at h;split at h
 ·obtain ⟨hc,rfl⟩:=zh h;exact (fin1 zrP ztu hc hb :)
 ·cases h
def zdo (_:Int):Bool:=true
@[reducible] def zcE (r:Int):Bool:=zcb r
def zf0:List AV->Option (Bool×List AV)
 | [.one (.i .i64 c)]=>some ((zdo c),[.one (.b (zcE c))])
 | _=>none
def zmB (N:Nat)(a0:Int):Option Ans :=
 (cond (zH a0 0 3) (some [(.one (.b (zN a0 0 3)))]) none)
theorem ztk (N:Nat)(a0:Int):evalFn (cQ ztR zba zK zL) (zx []) N 12 95 [.one (.i .i64 a0)]=zmB N a0:=by kernel_rfl
theorem zrF (a0:Int)(hb:zF big [.one (.i .i64 a0)])(hc:(zdo a0)=true):∃N,zmB N a0=some [.one (.b (zcE a0))]:=by
 exact ⟨0,rfl⟩
theorem zoS:Holds Tryz.prog 95 zf0:=zk zoH zy zl zn (zA (by kernel_rfl)) fun avs rs hb h=>by
 unfold zf0 at h;split at h
 ·obtain ⟨hc,rfl⟩:=zh h;exact (fin1 zrF ztk hc hb :)
 ·cases h
def zjx:zbg:=[(87,zga),(95,zf0)]++ztR
theorem zeH:zbl zjx:=zi zo2 (zi zoS zoH)
def zc0 (a b:Int):Int:=bif zcb a then (cond (zcb b) (wand .i64 a b) 0) else 0
def zgd (_ _:Int):Bool:=true
@[reducible] def zcT (a b:Int):Int:=zc0 a b
def zeN:List AV->Option (Bool×List AV)
 | [.one (.i .i64 b),.one (.i .i64 c)]=>some ((zgd b c),[.one (.i .i64 (zcT b c))])
 | _=>none
def zfM (N:Nat)(a0 a1:Int):Option Ans :=
 (cond (zds a0) (cond (cond (zcF a0) false true) (some [(.one (.i .i64 0))]) (cond (zds a1) (cond (cond (zcF a1) false true) (some [(.one (.i .i64 0))]) (some [(.one (.i .i64 (wand .i64 a0 a1)))])) none)) none)
theorem zqq (N:Nat)(a0 a1:Int):evalFn (cQ zjx zba zK zL) (zx []) N 12 65 [.one (.i .i64 a0),.one (.i .i64 a1)]=zfM N a0 a1:=by kernel_rfl
theorem zpa (a0 a1:Int)(hb:zF big [.one (.i .i64 a0),.one (.i .i64 a1)])(hc:(zgd a0 a1)=true):∃N,zfM N a0 a1=some [.one (.i .i64 (zcT a0 a1))]:=by
 refine ⟨0,?_⟩;unfold zfM zcT zc0 zcF;cases zcb a0<;>cases zcb a1<;>rfl
theorem zm8:Holds Tryz.prog 65 zeN:=zk zeH zy zl zn (zA (by kernel_rfl)) fun avs rs hb h=>by
 unfold zeN at h;split at h
 ·obtain ⟨hc,rfl⟩:=zh h;exact (fin2 zpa zqq hc hb :)
 ·cases h
def zfR (_ _:Int):Bool:=true
@[reducible] def zcQ (a b:Int):Int:=zc0 a b
def zeL:List AV->Option (Bool×List AV)
 | [.one (.i .i64 b),.one (.i .i64 c)]=>some ((zfR b c),[.one (.i .i64 (zcQ b c))])
 | _=>none
def zfL (N:Nat)(a0 a1:Int):Option Ans :=
 (cond (zdo a0) (cond (cond (zcE a0) false true) (some [(.one (.i .i64 0))]) (cond (zdo a1) (cond (cond (zcE a1) false true) (some [(.one (.i .i64 0))]) (some [(.one (.i .i64 (wand .i64 a0 a1)))])) none)) none)
theorem zqp (N:Nat)(a0 a1:Int):evalFn (cQ zjx zba zK zL) (zx []) N 12 76 [.one (.i .i64 a0),.one (.i .i64 a1)]=zfL N a0 a1:=by kernel_rfl
theorem zo9 (a0 a1:Int)(hb:zF big [.one (.i .i64 a0),.one (.i .i64 a1)])(hc:(zfR a0 a1)=true):∃N,zfL N a0 a1=some [.one (.i .i64 (zcQ a0 a1))]:=by
 refine ⟨0,?_⟩;unfold zfL zcQ zc0 zcE;cases zcb a0<;>cases zcb a1<;>rfl
theorem zm6:Holds Tryz.prog 76 zeL:=zk zeH zy zl zn (zA (by kernel_rfl)) fun avs rs hb h=>by
 unfold zeL at h;split at h
 ·obtain ⟨hc,rfl⟩:=zh h;exact (fin2 zo9 zqp hc hb :)
 ·cases h
def enough (a b:Int):Bool:=bif zcb a then (cond (zcb b) (ieq (wand .i64 a b) b) false) else false
def zel (_ _:Int):Bool:=true
@[reducible] def zd7 (a b:Int):Bool:=enough a b
def zja:List AV->Option (Bool×List AV)
 | [.one (.i .i64 c),.one (.i .i64 d)]=>some ((zel c d),[.one (.b (zd7 c d))])
 | _=>none
def zlG (N:Nat)(a0 a1:Int):Option Ans :=
 (cond (zds a0) (cond (zcF a0) (cond (zds a1) (cond (zcF a1) (some [(.one (.b (ieq (wand .i64 a0 a1) a1)))]) (some [(.one (.b false))])) none) (some [(.one (.b false))])) none)
theorem zxf (N:Nat)(a0 a1:Int):evalFn (cQ zjx zba zK zL) (zx []) N 12 63 [.one (.i .i64 a0),.one (.i .i64 a1)]=zlG N a0 a1:=by kernel_rfl
theorem zva (a0 a1:Int)(hb:zF big [.one (.i .i64 a0),.one (.i .i64 a1)])(hc:(zel a0 a1)=true):∃N,zlG N a0 a1=some [.one (.b (zd7 a0 a1))]:=by
 refine ⟨0,?_⟩;unfold zlG zd7 enough zcF;cases zcb a0<;>cases zcb a1<;>rfl
theorem zro:Holds Tryz.prog 63 zja:=zk zeH zy zl zn (zA (by kernel_rfl)) fun avs rs hb h=>by
 unfold zja at h;split at h
 ·obtain ⟨hc,rfl⟩:=zh h;exact (fin2 zva zxf hc hb :)
 ·cases h
def zec (_ _:Int):Bool:=true
@[reducible] def zd0 (a b:Int):Bool:=enough a b
def ziI:List AV->Option (Bool×List AV)
 | [.one (.i .i64 c),.one (.i .i64 d)]=>some ((zec c d),[.one (.b (zd0 c d))])
 | _=>none
def zle (N:Nat)(a0 a1:Int):Option Ans :=
 (cond (zdo a0) (cond (zcE a0) (cond (zdo a1) (cond (zcE a1) (some [(.one (.b (ieq (wand .i64 a0 a1) a1)))]) (some [(.one (.b false))])) none) (some [(.one (.b false))])) none)
theorem zwK (N:Nat)(a0 a1:Int):evalFn (cQ zjx zba zK zL) (zx []) N 12 75 [.one (.i .i64 a0),.one (.i .i64 a1)]=zle N a0 a1:=by kernel_rfl
theorem zuE (a0 a1:Int)(hb:zF big [.one (.i .i64 a0),.one (.i .i64 a1)])(hc:(zec a0 a1)=true):∃N,zle N a0 a1=some [.one (.b (zd0 a0 a1))]:=by
 refine ⟨0,?_⟩;unfold zle zd0 enough zcE;cases zcb a0<;>cases zcb a1<;>rfl
theorem zqV:Holds Tryz.prog 75 ziI:=zk zeH zy zl zn (zA (by kernel_rfl)) fun avs rs hb h=>by
 unfold ziI at h;split at h
 ·obtain ⟨hc,rfl⟩:=zh h;exact (fin2 zuE zwK hc hb :)
 ·cases h
def zcl (t:List Slot)(p:Int):Slot:=bif hasB p (ln t) then ix t p zB else noSlot
def zfE (_:List Slot)(_:Int):Bool:=true
@[reducible] def zcc (t:List Slot)(p:Int):Slot:=zcl t p
def zji:List AV->Option (Bool×List AV)
 | [.one (.s .slot b),.one (.i .i64 c)]=>some ((zfE b c),[.agg (Ty.cells .slot (zcc b c))])
 | _=>none
def zlN (N:Nat)(a0:List Slot)(a1:Int):Option Ans :=
 (cond (zC a1 0 (wsub .i64 (ln a0) 1)) (cond (cond (zJ a1 0 (wsub .i64 (ln a0) 1)) false true) (cond zbP (some [(.agg [(.i .i64 zbh.Page),(.i .i64 zbh.Rights)])]) none) (cond (inb a1 (ln a0)) (some [(.agg [(.i .i64 (ix a0 a1 zB).Page),(.i .i64 (ix a0 a1 zB).Rights)])]) none)) none)
theorem zxn (N:Nat)(a0:List Slot)(a1:Int):evalFn (cQ zjx zba zK zL) (zx []) N 12 36 [.one (.s .slot a0),.one (.i .i64 a1)]=zlN N a0 a1:=by kernel_rfl
theorem zvi (a0:List Slot)(a1:Int)(hb:zF big [.one (.s .slot a0),.one (.i .i64 a1)])(hc:(zfE a0 a1)=true):∃N,zlN N a0 a1=some [.agg (Ty.cells .slot (zcc a0 a1))]:=by
 have hl:=((zM hb).1 _ (List.mem_singleton.2 rfl)).len;refine ⟨0,?_⟩;unfold zlN zcc zcl;have e:zJ a1 0 (wsub .i64 (ln a0) 1)=hasB a1 (ln a0):=zl9 hl a1;rw [e];cases hh:hasB a1 (ln a0)
 ·rfl
 ·rw [zh5 hh];rfl
theorem zry:Holds Tryz.prog 36 zji:=zk zeH zy zl zn (zA (by kernel_rfl)) fun avs rs hb h=>by
 unfold zji at h;split at h
 ·obtain ⟨hc,rfl⟩:=zh h;exact (fin2 zvi zxn hc hb :)
 ·cases h
def zfi (_:List Slot)(_:Int):Bool:=true
@[reducible] def zb9 (t:List Slot)(p:Int):Slot:=zcl t p
def ziQ:List AV->Option (Bool×List AV)
 | [.one (.s .slot b),.one (.i .i64 c)]=>some ((zfi b c),[.agg (Ty.cells .slot (zb9 b c))])
 | _=>none
def zll (N:Nat)(a0:List Slot)(a1:Int):Option Ans :=
 (cond (zh4 a1 (ln a0)) (cond (cond (zhD a1 (ln a0)) false true) (cond zbO (some [(.agg [(.i .i64 zby.Page),(.i .i64 zby.Rights)])]) none) (cond (inb a1 (ln a0)) (some [(.agg [(.i .i64 (ix a0 a1 zB).Page),(.i .i64 (ix a0 a1 zB).Rights)])]) none)) none)
theorem zwS (N:Nat)(a0:List Slot)(a1:Int):evalFn (cQ zjx zba zK zL) (zx []) N 12 50 [.one (.s .slot a0),.one (.i .i64 a1)]=zll N a0 a1:=by kernel_rfl
theorem zuM (a0:List Slot)(a1:Int)(hb:zF big [.one (.s .slot a0),.one (.i .i64 a1)])(hc:(zfi a0 a1)=true):∃N,zll N a0 a1=some [.agg (Ty.cells .slot (zb9 a0 a1))]:=by
 refine ⟨0,?_⟩;unfold zll zb9 zcl zhD;cases hh:hasB a1 (ln a0)
 ·rfl
 ·rw [zh5 hh];rfl
theorem zq3:Holds Tryz.prog 50 ziQ:=zk zeH zy zl zn (zA (by kernel_rfl)) fun avs rs hb h=>by
 unfold ziQ at h;split at h
 ·obtain ⟨hc,rfl⟩:=zh h;exact (fin2 zuM zwS hc hb :)
 ·cases h
def zgk:zbg:=[(65,zeN),(76,zeL),(63,zja),(75,ziI),(36,zji),(50,ziQ)]++zjx
theorem zdw:zbl zgk:=zi zm8 (zi zm6 (zi zro (zi zqV (zi zry (zi zq3 zeH)))))
def zcm (a b:Slot):Bool:=ieq a.Page b.Page&&ieq a.Rights b.Rights
def below' (a b:Slot):Bool:=bif zcm a noSlot then true else (cond (ieq a.Page b.Page) (enough b.Rights a.Rights) false)
def zjQ (_ _:Slot):Bool:=true
def zk8 (a b:Slot):Bool:=below' a b
def zku:List AV->Option (Bool×List AV)
 | [.agg [.i .i64 c,.i .i64 d],.agg [.i .i64 e,.i .i64 f]]=>some ((zjQ (⟨c,d⟩:Slot) (⟨e,f⟩:Slot)),[.one (.b (zk8 (⟨c,d⟩:Slot) (⟨e,f⟩:Slot)))])
 | _=>none
def zmH (N:Nat)(a0:Slot)(a1:Slot):Option Ans :=
 (cond zbP (cond (cond (ieq a0.Page zbh.Page) (ieq a0.Rights zbh.Rights) false) (some [(.one (.b true))]) (cond (ieq a0.Page a1.Page) (cond (zel a1.Rights a0.Rights) (some [(.one (.b (zd7 a1.Rights a0.Rights)))]) none) (some [(.one (.b false))]))) none)
theorem zyP (N:Nat)(a0:Slot)(a1:Slot):evalFn (cQ zgk zba zK zL) (zx []) N 12 37 [.agg (Ty.cells .slot a0),.agg (Ty.cells .slot a1)]=zmH N a0 a1:=by kernel_rfl
theorem zwD (a0:Slot)(a1:Slot)(hb:zF big [.agg (Ty.cells .slot a0),.agg (Ty.cells .slot a1)])(hc:(zjQ a0 a1)=true):∃N,zmH N a0 a1=some [.one (.b (zk8 a0 a1))]:=by
 refine ⟨0,?_⟩;unfold zmH zk8 below' zcm zbh;cases ieq a0.Page noSlot.Page<;>cases ieq a0.Rights noSlot.Rights<;>cases ieq a0.Page a1.Page<;>rfl
theorem zsN:Holds Tryz.prog 37 zku:=zk zdw zy zl zn (zA (by kernel_rfl)) fun avs rs hb h=>by
 unfold zku at h;split at h
 ·obtain ⟨hc,rfl⟩:=zh h;exact (fin2 zwD zyP hc hb :)
 ·cases h
def zjC (_ _:Slot):Bool:=true
def zkS (a b:Slot):Bool:=below' a b
def zki:List AV->Option (Bool×List AV)
 | [.agg [.i .i64 c,.i .i64 d],.agg [.i .i64 e,.i .i64 f]]=>some ((zjC (⟨c,d⟩:Slot) (⟨e,f⟩:Slot)),[.one (.b (zkS (⟨c,d⟩:Slot) (⟨e,f⟩:Slot)))])
 | _=>none
def zmw (N:Nat)(a0:Slot)(a1:Slot):Option Ans :=
 (cond zbO (cond (cond (ieq a0.Page zby.Page) (ieq a0.Rights zby.Rights) false) (some [(.one (.b true))]) (cond (ieq a0.Page a1.Page) (cond (zec a1.Rights a0.Rights) (some [(.one (.b (zd0 a1.Rights a0.Rights)))]) none) (some [(.one (.b false))]))) none)
theorem zyD (N:Nat)(a0:Slot)(a1:Slot):evalFn (cQ zgk zba zK zL) (zx []) N 12 51 [.agg (Ty.cells .slot a0),.agg (Ty.cells .slot a1)]=zmw N a0 a1:=by kernel_rfl
theorem zwq (a0:Slot)(a1:Slot)(hb:zF big [.agg (Ty.cells .slot a0),.agg (Ty.cells .slot a1)])(hc:(zjC a0 a1)=true):∃N,zmw N a0 a1=some [.one (.b (zkS a0 a1))]:=by
 refine ⟨0,?_⟩;unfold zmw zkS below' zcm zby;cases ieq a0.Page noSlot.Page<;>cases ieq a0.Rights noSlot.Rights<;>cases ieq a0.Page a1.Page<;>rfl
theorem zsB:Holds Tryz.prog 51 zki:=zk zdw zy zl zn (zA (by kernel_rfl)) fun avs rs hb h=>by
 unfold zki at h;split at h
 ·obtain ⟨hc,rfl⟩:=zh h;exact (fin2 zwq zyD hc hb :)
 ·cases h
def zb5 (s:Slot)(outer:List Slot):Slot :=
 bif ieq s.Page (-1) then noSlot else (cond (ieq (zcl outer s.Page).Page (-1)) noSlot (cond (ieq (zc0 s.Rights (zcl outer s.Page).Rights) 0) noSlot ⟨(zcl outer s.Page).Page,zc0 s.Rights (zcl outer s.Page).Rights⟩))
def zcz (_:Slot)(_:List Slot):Bool:=true
def zb2 (s:Slot)(outer:List Slot):Slot:=zb5 s outer
def zes:List AV->Option (Bool×List AV)
 | [.agg [.i .i64 b,.i .i64 c],.one (.s .slot d)]=>some ((zcz (⟨b,c⟩:Slot) d),[.agg (Ty.cells .slot (zb2 (⟨b,c⟩:Slot) d))])
 | _=>none
def ze6 (N:Nat)(a0:Slot)(a1:List Slot):Option Ans :=
 (cond (zfE a1 a0.Page) (cond (zgd a0.Rights (zcc a1 a0.Page).Rights) (cond (ieq a0.Page (-1)) (cond zbP (some [(.agg [(.i .i64 zbh.Page),(.i .i64 zbh.Rights)])]) none) (cond (ieq (zcc a1 a0.Page).Page (-1)) (cond zbP (some [(.agg [(.i .i64 zbh.Page),(.i .i64 zbh.Rights)])]) none) (cond (ieq (zcT a0.Rights (zcc a1 a0.Page).Rights) 0) (cond zbP (some [(.agg [(.i .i64 zbh.Page),(.i .i64 zbh.Rights)])]) none) (some [(.agg [(.i .i64 (zcc a1 a0.Page).Page),(.i .i64 (zcT a0.Rights (zcc a1 a0.Page).Rights))])])))) none) none)
theorem zpi (N:Nat)(a0:Slot)(a1:List Slot):evalFn (cQ zgk zba zK zL) (zx []) N 12 35 [.agg (Ty.cells .slot a0),.one (.s .slot a1)]=ze6 N a0 a1:=by kernel_rfl
theorem zn1 (a0:Slot)(a1:List Slot)(hb:zF big [.agg (Ty.cells .slot a0),.one (.s .slot a1)])(hc:(zcz a0 a1)=true):∃N,ze6 N a0 a1=some [.agg (Ty.cells .slot (zb2 a0 a1))]:=by
 refine ⟨0,?_⟩;unfold ze6 zb2 zb5 zcc zcT;cases ieq a0.Page (-1)<;>cases ieq (zcl a1 a0.Page).Page (-1)<;>cases ieq (zc0 a0.Rights (zcl a1 a0.Page).Rights) 0<;>rfl
theorem zmv:Holds Tryz.prog 35 zes:=zk zdw zy zl zn (zA (by kernel_rfl)) fun avs rs hb h=>by
 unfold zes at h;split at h
 ·obtain ⟨hc,rfl⟩:=zh h;exact (fin2 zn1 zpi hc hb :)
 ·cases h
def zcy (_:Slot)(_:List Slot):Bool:=true
def zb1 (s:Slot)(outer:List Slot):Slot:=zb5 s outer
def zer:List AV->Option (Bool×List AV)
 | [.agg [.i .i64 b,.i .i64 c],.one (.s .slot d)]=>some ((zcy (⟨b,c⟩:Slot) d),[.agg (Ty.cells .slot (zb1 (⟨b,c⟩:Slot) d))])
 | _=>none
def ze4 (N:Nat)(a0:Slot)(a1:List Slot):Option Ans :=
 (cond (zfi a1 a0.Page) (cond (zfR a0.Rights (zb9 a1 a0.Page).Rights) (cond (ieq a0.Page (-1)) (cond zbO (some [(.agg [(.i .i64 zby.Page),(.i .i64 zby.Rights)])]) none) (cond (ieq (zb9 a1 a0.Page).Page (-1)) (cond zbO (some [(.agg [(.i .i64 zby.Page),(.i .i64 zby.Rights)])]) none) (cond (ieq (zcQ a0.Rights (zb9 a1 a0.Page).Rights) 0) (cond zbO (some [(.agg [(.i .i64 zby.Page),(.i .i64 zby.Rights)])]) none) (some [(.agg [(.i .i64 (zb9 a1 a0.Page).Page),(.i .i64 (zcQ a0.Rights (zb9 a1 a0.Page).Rights))])])))) none) none)
theorem zpg (N:Nat)(a0:Slot)(a1:List Slot):evalFn (cQ zgk zba zK zL) (zx []) N 12 49 [.agg (Ty.cells .slot a0),.one (.s .slot a1)]=ze4 N a0 a1:=by kernel_rfl
theorem znZ (a0:Slot)(a1:List Slot)(hb:zF big [.agg (Ty.cells .slot a0),.one (.s .slot a1)])(hc:(zcy a0 a1)=true):∃N,ze4 N a0 a1=some [.agg (Ty.cells .slot (zb1 a0 a1))]:=by
 refine ⟨0,?_⟩;unfold ze4 zb1 zb5 zb9 zcQ;cases ieq a0.Page (-1)<;>cases ieq (zcl a1 a0.Page).Page (-1)<;>cases ieq (zc0 a0.Rights (zcl a1 a0.Page).Rights) 0<;>rfl
theorem zmu:Holds Tryz.prog 49 zer:=zk zdw zy zl zn (zA (by kernel_rfl)) fun avs rs hb h=>by
 unfold zer at h;split at h
 ·obtain ⟨hc,rfl⟩:=zh h;exact (fin2 znZ zpg hc hb :)
 ·cases h
def zb0 (x:Int):Int:=bif (ige x 1&&ile x 6) then zsa .i64 (wsub .i64 x 1) 2 else -1
def zcB (x:Int):Int:=bif (ige x 1&&ile x 6) then zps (wsub .i64 x 1) 2 else -1
def zhX (_:Int):Bool:=true
def zbN (x:Int):Int:=zb0 x
def zjk:List AV->Option (Bool×List AV)
 | [.one (.i .i64 b)]=>some ((zhX b),[.one (.i .i64 (zbN b))])
 | _=>none
def zlP (N:Nat)(a0:Int):Option Ans :=
 (cond (zC a0 1 6) (cond (cond (zJ a0 1 6) false true) (some [(.one (.i .i64 (-1)))]) (cond (ine 2 0) (some [(.one (.i .i64 (zsa .i64 (wsub .i64 a0 1) 2)))]) none)) none)
theorem zxp (N:Nat)(a0:Int):evalFn (cQ zgk zba zK zL) (zx []) N 12 33 [.one (.i .i64 a0)]=zlP N a0:=by kernel_rfl
theorem zvk (a0:Int)(hb:zF big [.one (.i .i64 a0)])(hc:(zhX a0)=true):∃N,zlP N a0=some [.one (.i .i64 (zbN a0))]:=by
 refine ⟨0,?_⟩;unfold zlP zbN zb0 zJ;cases ige a0 1&&ile a0 6<;>rfl
theorem zrA:Holds Tryz.prog 33 zjk:=zk zdw zy zl zn (zA (by kernel_rfl)) fun avs rs hb h=>by
 unfold zjk at h;split at h
 ·obtain ⟨hc,rfl⟩:=zh h;exact (fin1 zvk zxp hc hb :)
 ·cases h
def zhC (_:Int):Bool:=true
def zbL (x:Int):Int:=zb0 x
def ziS:List AV->Option (Bool×List AV)
 | [.one (.i .i64 b)]=>some ((zhC b),[.one (.i .i64 (zbL b))])
 | _=>none
def zln (N:Nat)(a0:Int):Option Ans :=
 (cond (zH a0 1 6) (cond (cond (zN a0 1 6) false true) (some [(.one (.i .i64 (-1)))]) (cond (ine 2 0) (some [(.one (.i .i64 (zsa .i64 (wsub .i64 a0 1) 2)))]) none)) none)
theorem zwU (N:Nat)(a0:Int):evalFn (cQ zgk zba zK zL) (zx []) N 12 46 [.one (.i .i64 a0)]=zln N a0:=by kernel_rfl
theorem zuO (a0:Int)(hb:zF big [.one (.i .i64 a0)])(hc:(zhC a0)=true):∃N,zln N a0=some [.one (.i .i64 (zbL a0))]:=by
 refine ⟨0,?_⟩;unfold zln zbL zb0 zN;cases ige a0 1&&ile a0 6<;>rfl
theorem zq5:Holds Tryz.prog 46 ziS:=zk zdw zy zl zn (zA (by kernel_rfl)) fun avs rs hb h=>by
 unfold ziS at h;split at h
 ·obtain ⟨hc,rfl⟩:=zh h;exact (fin1 zuO zwU hc hb :)
 ·cases h
def zfG (_:Int):Bool:=true
def zcd (x:Int):Int:=zcB x
def zgc:List AV->Option (Bool×List AV)
 | [.one (.i .i64 b)]=>some ((zfG b),[.one (.i .i64 (zcd b))])
 | _=>none
def zim (N:Nat)(a0:Int):Option Ans :=
 (cond (zC a0 1 6) (cond (cond (zJ a0 1 6) false true) (some [(.one (.i .i64 (-1)))]) (cond (ine 2 0) (some [(.one (.i .i64 (zps (wsub .i64 a0 1) 2)))]) none)) none)
theorem ztw (N:Nat)(a0:Int):evalFn (cQ zgk zba zK zL) (zx []) N 12 34 [.one (.i .i64 a0)]=zim N a0:=by kernel_rfl
theorem zrR (a0:Int)(hb:zF big [.one (.i .i64 a0)])(hc:(zfG a0)=true):∃N,zim N a0=some [.one (.i .i64 (zcd a0))]:=by
 refine ⟨0,?_⟩;unfold zim zcd zcB zJ;cases ige a0 1&&ile a0 6<;>rfl
theorem zo4:Holds Tryz.prog 34 zgc:=zk zdw zy zl zn (zA (by kernel_rfl)) fun avs rs hb h=>by
 unfold zgc at h;split at h
 ·obtain ⟨hc,rfl⟩:=zh h;exact (fin1 zrR ztw hc hb :)
 ·cases h
def zfk (_:Int):Bool:=true
def zca (x:Int):Int:=zcB x
def zf2:List AV->Option (Bool×List AV)
 | [.one (.i .i64 b)]=>some ((zfk b),[.one (.i .i64 (zca b))])
 | _=>none
def zic (N:Nat)(a0:Int):Option Ans :=
 (cond (zH a0 1 6) (cond (cond (zN a0 1 6) false true) (some [(.one (.i .i64 (-1)))]) (cond (ine 2 0) (some [(.one (.i .i64 (zps (wsub .i64 a0 1) 2)))]) none)) none)
theorem ztm (N:Nat)(a0:Int):evalFn (cQ zgk zba zK zL) (zx []) N 12 47 [.one (.i .i64 a0)]=zic N a0:=by kernel_rfl
theorem zrH (a0:Int)(hb:zF big [.one (.i .i64 a0)])(hc:(zfk a0)=true):∃N,zic N a0=some [.one (.i .i64 (zca a0))]:=by
 refine ⟨0,?_⟩;unfold zic zca zcB zN;cases ige a0 1&&ile a0 6<;>rfl
theorem zoU:Holds Tryz.prog 47 zf2:=zk zdw zy zl zn (zA (by kernel_rfl)) fun avs rs hb h=>by
 unfold zf2 at h;split at h
 ·obtain ⟨hc,rfl⟩:=zh h;exact (fin1 zrH ztm hc hb :)
 ·cases h
def ztS:zbg:=[(37,zku),(51,zki),(35,zes),(49,zer),(33,zjk),(46,ziS),(34,zgc),(47,zf2)]++zgk
theorem zoI:zbl ztS:=zi zsN (zi zsB (zi zmv (zi zmu (zi zrA (zi zq5 (zi zo4 (zi zoU zdw)))))))
def zdz (k:Kept)(inner outer:List Slot)(i:Nat):Bool :=
 zcm (ix k.Slots i zB) (cond (ix k.Known i false) (zb5 (ix inner i zB) outer) noSlot)
def zd1 (k:Kept)(inner outer:List Slot):Bool :=
 bif ine (ln k.Known) (ln inner) then false else (cond (ine (ln k.Slots) (ln inner)) false (zgZ (zdz k inner outer) inner.length 0))
theorem znR {α β:Type}{l:List α}{m:List β}(h:ine (ln l) (ln m)=false):l.length=m.length:=by
 have:(ln l==ln m)=true:=by simpa [ine,bne] using h
 have:=eq_of_beq this;simp only [ln] at this;omega
def zhW (_:Kept)(_ _:List Slot):Bool:=true
def zjn (k:Kept)(inner outer:List Slot):Bool:=zd1 k inner outer
def zjd:List AV->Option (Bool×List AV)
 | [.agg [.s .bool c,.s .slot d],.one (.s .slot e),.one (.s .slot f)]=>some ((zhW (⟨c,d⟩:Kept) e f),[.one (.b (zjn (⟨c,d⟩:Kept) e f))])
 | _=>none
def zlJ (N:Nat)(a0:Kept)(a1 a2:List Slot):Option Ans :=
 (cond (ine (ln a0.Known) (ln a1)) (some [(.one (.b false))]) (cond (ine (ln a0.Slots) (ln a1)) (some [(.one (.b false))]) (iter (σ:=(Int×((List Slot)×((List Slot)×((List Bool)×((List Slot)×Unit)))))) N (fun r4 s5=>(cond (ilt s5.1 (ln s5.2.1)) (cond zbP (cond (inb s5.1 (ln s5.2.2.2.1)) (cond (ix s5.2.2.2.1 s5.1 false) (cond (inb s5.1 (ln s5.2.1)) (cond (zcz (ix s5.2.1 s5.1 zB) s5.2.2.1) (cond (inb s5.1 (ln s5.2.2.2.2.1)) (cond (cond (cond (ieq (ix s5.2.2.2.2.1 s5.1 zB).Page (zb2 (ix s5.2.1 s5.1 zB) s5.2.2.1).Page) (ieq (ix s5.2.2.2.2.1 s5.1 zB).Rights (zb2 (ix s5.2.1 s5.1 zB) s5.2.2.1).Rights) false) false true) (some [(.one (.b false))]) (r4 ((zW .i64 s5.1 1),(s5.2.1,(s5.2.2.1,(s5.2.2.2.1,(s5.2.2.2.2.1,()))))))) none) none) none) (cond (inb s5.1 (ln s5.2.2.2.2.1)) (cond (cond (cond (ieq (ix s5.2.2.2.2.1 s5.1 zB).Page zbh.Page) (ieq (ix s5.2.2.2.2.1 s5.1 zB).Rights zbh.Rights) false) false true) (some [(.one (.b false))]) (r4 ((zW .i64 s5.1 1),(s5.2.1,(s5.2.2.1,(s5.2.2.2.1,(s5.2.2.2.2.1,()))))))) none)) none) none) (some [(.one (.b true))]))) (0,(a1,(a2,(a0.Known,(a0.Slots,()))))))))
def zv5:FuncId->Nat->Option Tmpl:=zx [(32,0,{ n:=48,tm:=[(1,.sl 0 []),(2,.sl 1 []),(3,.lp 0 0),(7,.i .i64)],lo:=[(0,[.sl 2 [],.sl 3 []])],ro:=[(0,.slot,false),(1,.slot,false),(2,.bool,false),(3,.slot,false)] })]
theorem zxi (N:Nat)(a0:Kept)(a1 a2:List Slot):evalFn (cQ ztS zba zK zL) zv5 N 12 32 [.agg (Ty.cells .kept a0),.one (.s .slot a1),.one (.s .slot a2)]=zlJ N a0 a1 a2:=by kernel_rfl
theorem zvd (a0:Kept)(a1 a2:List Slot)(hb:zF big [.agg (Ty.cells .kept a0),.one (.s .slot a1),.one (.s .slot a2)])(hc:(zhW a0 a1 a2)=true):∃N,zlJ N a0 a1 a2=some [.one (.b (zjn a0 a1 a2))]:=by
 have hl:=((zM (zM hb).2).1 _ (List.mem_singleton.2 rfl)).len;refine ⟨NN,?_⟩;have hNN:∀{n:Nat},n<=big->n<NN:=fun h=>zcs h;generalize NN=N at hNN ⊢;unfold zlJ zjn zd1;cases h1:ine (ln a0.Known) (ln a1)
 ·cases h2:ine (ln a0.Slots) (ln a1)
  ·have e1:=znR h1;have e2:=znR h2;simp only [cF];refine (zbj a1 (fun i (t:Unit)=>((i:Int),a1,a2,a0.Known,a0.Slots,())) _ (fun i _ (_:Unit) κ=>bif zdz a0 a1 a2 i then κ () else some [AV.one (.b false)]) (fun (t:Unit)=>(some [(.one (.b true))])) (fun i hi t rec=>?_) (fun t rec=>?_) _ () (hNN hl)).trans ?_
   ·simp only [zbo hi,zU hi,zbd hi,zZ hi hl,cT];simp only [zU (l:=a0.Known) (i:=i) (e1 ▸ hi),zU (l:=a0.Slots) (i:=i) (e2 ▸ hi),zbP,zcz,cT,zdz,zcm,zb2,zbh,zbd hi];cases ix a0.Known (↑i) false
    ·simp only [cF];cases ieq (ix a0.Slots (↑i) zB).Page noSlot.Page<;>cases ieq (ix a0.Slots (↑i) zB).Rights noSlot.Rights<;>rfl
    ·simp only [cT];generalize zb5 a1[i] a2=z;cases ieq (ix a0.Slots (↑i) zB).Page z.Page<;>cases ieq (ix a0.Slots (↑i) zB).Rights z.Rights<;>rfl
   ·simp only [zbe,cF]
   rw [znQ (fun i t κ=>bif zdz a0 a1 a2 i then κ () else some [AV.one (.b false)]),zh1]
   cases zgZ (zdz a0 a1 a2) a1.length 0<;>rfl
  ·rfl
 ·rfl
theorem zrr:Holds Tryz.prog 32 zjd:=zk zoI zy zl zn (zA (by kernel_rfl)) fun avs rs hb h=>by
 unfold zjd at h;split at h
 ·obtain ⟨hc,rfl⟩:=zh h;exact (zqT zvd zxi hc hb :)
 ·cases h
def zhA (_:Kept)(_ _:List Slot):Bool:=true
def zix (k:Kept)(inner outer:List Slot):Bool:=zd1 k inner outer
def ziL:List AV->Option (Bool×List AV)
 | [.agg [.s .bool c,.s .slot d],.one (.s .slot e),.one (.s .slot f)]=>some ((zhA (⟨c,d⟩:Kept) e f),[.one (.b (zix (⟨c,d⟩:Kept) e f))])
 | _=>none
def zlh (N:Nat)(a0:Kept)(a1 a2:List Slot):Option Ans :=
 (cond (ine (ln a0.Known) (ln a1)) (some [(.one (.b false))]) (cond (ine (ln a0.Slots) (ln a1)) (some [(.one (.b false))]) (iter (σ:=(Int×(Int×((List Slot)×((List Slot)×((List Slot)×((List Bool)×Unit))))))) N (fun r4 s5=>(cond (ilt s5.2.1 s5.1) (cond (inb s5.2.1 (ln s5.2.2.2.2.1)) (cond zbO (cond (inb s5.2.1 (ln s5.2.2.2.2.2.1)) (cond (ix s5.2.2.2.2.2.1 s5.2.1 false) (cond (inb s5.2.1 (ln s5.2.2.1)) (cond (zcy (ix s5.2.2.1 s5.2.1 zB) s5.2.2.2.1) (cond (cond (cond (ieq (ix s5.2.2.2.2.1 s5.2.1 zB).Page (zb1 (ix s5.2.2.1 s5.2.1 zB) s5.2.2.2.1).Page) (ieq (ix s5.2.2.2.2.1 s5.2.1 zB).Rights (zb1 (ix s5.2.2.1 s5.2.1 zB) s5.2.2.2.1).Rights) false) false true) (some [(.one (.b false))]) (r4 (s5.1,((zW .i64 s5.2.1 1),(s5.2.2.1,(s5.2.2.2.1,(s5.2.2.2.2.1,(s5.2.2.2.2.2.1,())))))))) none) none) (cond (cond (cond (ieq (ix s5.2.2.2.2.1 s5.2.1 zB).Page zby.Page) (ieq (ix s5.2.2.2.2.1 s5.2.1 zB).Rights zby.Rights) false) false true) (some [(.one (.b false))]) (r4 (s5.1,((zW .i64 s5.2.1 1),(s5.2.2.1,(s5.2.2.2.1,(s5.2.2.2.2.1,(s5.2.2.2.2.2.1,()))))))))) none) none) none) (some [(.one (.b true))]))) ((ln a0.Slots),(0,(a1,(a2,(a0.Slots,(a0.Known,())))))))))
def zvU:FuncId->Nat->Option Tmpl:=zx [(45,0,{ n:=48,tm:=[(1,.sl 0 []),(2,.sl 1 []),(3,.lp 0 0),(25,.sl 2 []),(26,.i .i64),(27,.i .i64)],lo:=[(0,[.sl 3 [],.sl 2 []])],ro:=[(0,.slot,false),(1,.slot,false),(2,.slot,false),(3,.bool,false)] })]
theorem zwN (N:Nat)(a0:Kept)(a1 a2:List Slot):evalFn (cQ ztS zba zK zL) zvU N 12 45 [.agg (Ty.cells .kept a0),.one (.s .slot a1),.one (.s .slot a2)]=zlh N a0 a1 a2:=by kernel_rfl
theorem zuH (a0:Kept)(a1 a2:List Slot)(hb:zF big [.agg (Ty.cells .kept a0),.one (.s .slot a1),.one (.s .slot a2)])(hc:(zhA a0 a1 a2)=true):∃N,zlh N a0 a1 a2=some [.one (.b (zix a0 a1 a2))]:=by
 have hl:=((zM (zM hb).2).1 _ (List.mem_singleton.2 rfl)).len;refine ⟨NN,?_⟩;have hNN:∀{n:Nat},n<=big->n<NN:=fun h=>zcs h;generalize NN=N at hNN ⊢;unfold zlh zix zd1;cases h1:ine (ln a0.Known) (ln a1)
 ·cases h2:ine (ln a0.Slots) (ln a1)
  ·have e1:=znR h1;have e2:=znR h2;have hl2:a0.Slots.length<=big:=e2 ▸ hl;simp only [cF];refine (zbj a0.Slots (fun i (t:Unit)=>((ln a0.Slots),(i:Int),a1,a2,a0.Slots,a0.Known,())) _ (fun i _ (_:Unit) κ=>bif zdz a0 a1 a2 i then κ () else some [AV.one (.b false)]) (fun (t:Unit)=>(some [(.one (.b true))])) (fun i hi t rec=>?_) (fun t rec=>?_) _ () (hNN hl2)).trans ?_
   ·simp only [zbo hi,zU hi,zbd hi,zZ hi hl2,cT];simp only [zU (l:=a0.Known) (i:=i) (e1.trans e2.symm ▸ hi),zU (l:=a1) (i:=i) (e2 ▸ hi),zbO,zcy,cT,zdz,zcm,zb1,zby,zbd hi];cases ix a0.Known (↑i) false
    ·simp only [cF];cases ieq a0.Slots[i].Page noSlot.Page<;>cases ieq a0.Slots[i].Rights noSlot.Rights<;>rfl
    ·simp only [cT];generalize zb5 (ix a1 (↑i) zB) a2=z;cases ieq a0.Slots[i].Page z.Page<;>cases ieq a0.Slots[i].Rights z.Rights<;>rfl
   ·simp only [zbe,cF]
   rw [znQ (fun i t κ=>bif zdz a0 a1 a2 i then κ () else some [AV.one (.b false)]),zh1,e2]
   cases zgZ (zdz a0 a1 a2) a1.length 0<;>rfl
  ·rfl
 ·rfl
theorem zqY:Holds Tryz.prog 45 ziL:=zk zoI zy zl zn (zA (by kernel_rfl)) fun avs rs hb h=>by
 unfold ziL at h;split at h
 ·obtain ⟨hc,rfl⟩:=zh h;exact (zqT zuH zwN hc hb :)
 ·cases h
def znL:zbg:=[(32,zjd),(45,ziL)]++ztS
theorem zir:zbl znL:=zi zrr (zi zqY zoI)
def zmn (outer:List Slot)(ts:List Kept):List Guest->Nat->Bool
 | [],_=>true
 | g :: l,i=>bif ilt (i:Int) (ln ts) then (cond (zd1 (ix ts (i:Int) zbV) g.Live outer) (zmn outer ts l (i+1)) false) else true
theorem zl2 {ρ:Type}(outer:List Slot)(ts:List Kept)(r r1:Option ρ):∀(l:List Guest) (i:Nat),
 goL (fun i g (_:Unit) κ=>bif ilt (i:Int) (ln ts) then (cond (zd1 (ix ts (i:Int) zbV) g.Live outer) (κ ()) r) else r1) (fun _=>r1) l i ()=bif zmn outer ts l i then r1 else r
 | [],_=>rfl
 | g :: l,i=>by
  simp only [goL,zmn];cases ilt (i:Int) (ln ts)
  ·rfl
  ·cases zd1 (ix ts (i:Int) zbV) g.Live outer
   ·rfl
   ·exact zl2 outer ts r r1 l (i+1)
theorem zxR {i:Nat}{α:Type}{l:List α}(h:ilt (i:Int) (ln l)=true):inb (i:Int) (ln l)=true:=by
 have:=of_decide_eq_true h;exact decide_eq_true ⟨by omega,this⟩
def tablesOf (m:Mon):Bool:=zmn m.Outer m.Tables m.Guests 0
def zey (h:Host):Bool:=h.Mons.all tablesOf
def zfF (_:Host):Bool:=true
def zcZ (h:Host):Bool:=zey h
def zdk:List AV->Option (Bool×List AV)
 | [.agg [.s (.sl .int) c,.s .mon d,.s .entry e,.s .entry f]]=>some ((zfF (⟨c,d,e,f⟩:Host)),[.one (.b (zcZ (⟨c,d,e,f⟩:Host)))])
 | _=>none
def ze7 (N:Nat)(a0:Host):Option Ans :=
 (iter (σ:=(Int×((List (List Int))×((List Mon)×((List Entry)×((List Entry)×Unit)))))) N (fun r2 s3=>(cond (ilt s3.1 (ln s3.2.2.1)) (cond (inb s3.1 (ln s3.2.2.1)) (iter (σ:=(Int×(Int×(Int×(Int×(Int×(Int×(Int×(Int×(Int×(Int×(Int×((List (List Int))×((List Mon)×((List Entry)×((List Entry)×Unit)))))))))))))))) N (fun r4 s5=>(cond (ilt s5.2.1 (ln (ix s5.2.2.2.2.2.2.2.2.2.2.2.2.1 s5.2.2.2.2.2.1 zG).Guests)) (cond (ilt s5.2.1 (ln (ix s5.2.2.2.2.2.2.2.2.2.2.2.2.1 s5.2.2.2.2.2.2.2.2.2.1 zG).Tables)) (cond (inb s5.2.1 (ln (ix s5.2.2.2.2.2.2.2.2.2.2.2.2.1 s5.2.2.2.2.2.2.2.2.2.1 zG).Tables)) (cond (inb s5.2.1 (ln (ix s5.2.2.2.2.2.2.2.2.2.2.2.2.1 s5.2.2.2.2.2.1 zG).Guests)) (cond (zhW (ix (ix s5.2.2.2.2.2.2.2.2.2.2.2.2.1 s5.2.2.2.2.2.2.2.2.2.1 zG).Tables s5.2.1 zbV) (ix (ix s5.2.2.2.2.2.2.2.2.2.2.2.2.1 s5.2.2.2.2.2.1 zG).Guests s5.2.1 zbq).Live (ix s5.2.2.2.2.2.2.2.2.2.2.2.2.1 s5.2.2.1 zG).Outer) (cond (cond (zjn (ix (ix s5.2.2.2.2.2.2.2.2.2.2.2.2.1 s5.2.2.2.2.2.2.2.2.2.1 zG).Tables s5.2.1 zbV) (ix (ix s5.2.2.2.2.2.2.2.2.2.2.2.2.1 s5.2.2.2.2.2.1 zG).Guests s5.2.1 zbq).Live (ix s5.2.2.2.2.2.2.2.2.2.2.2.2.1 s5.2.2.1 zG).Outer) false true) (some [(.one (.b false))]) (r4 (s5.1,((zW .i64 s5.2.1 1),(s5.2.2.1,(s5.2.2.2.1,(s5.2.2.2.2.1,(s5.2.2.2.2.2.1,(s5.2.2.2.2.2.2.1,(s5.2.2.2.2.2.2.2.1,(s5.2.2.2.2.2.2.2.2.1,(s5.2.2.2.2.2.2.2.2.2.1,(s5.2.2.2.2.2.2.2.2.2.2.1,(s5.2.2.2.2.2.2.2.2.2.2.2.1,(s5.2.2.2.2.2.2.2.2.2.2.2.2.1,(s5.2.2.2.2.2.2.2.2.2.2.2.2.2.1,(s5.2.2.2.2.2.2.2.2.2.2.2.2.2.2.1,()))))))))))))))))) none) none) none) (r2 ((zW .i64 s5.1 1),(s5.2.2.2.2.2.2.2.2.2.2.2.1,(s5.2.2.2.2.2.2.2.2.2.2.2.2.1,(s5.2.2.2.2.2.2.2.2.2.2.2.2.2.1,(s5.2.2.2.2.2.2.2.2.2.2.2.2.2.2.1,()))))))) (r2 ((zW .i64 s5.1 1),(s5.2.2.2.2.2.2.2.2.2.2.2.1,(s5.2.2.2.2.2.2.2.2.2.2.2.2.1,(s5.2.2.2.2.2.2.2.2.2.2.2.2.2.1,(s5.2.2.2.2.2.2.2.2.2.2.2.2.2.2.1,())))))))) (s3.1,(0,(s3.1,(s3.1,(s3.1,(s3.1,(s3.1,((ix s3.2.2.1 s3.1 zG).Pending,((ix s3.2.2.1 s3.1 zG).Traps,(s3.1,((ix s3.2.2.1 s3.1 zG).Own,(s3.2.1,(s3.2.2.1,(s3.2.2.2.1,(s3.2.2.2.2.1,())))))))))))))))) none) (some [(.one (.b true))]))) (0,(a0.Memory,(a0.Mons,(a0.Buffer,(a0.IoBuffer,()))))))
def zn6:FuncId->Nat->Option Tmpl:=zx [(14,0,{ n:=47,tm:=[(1,.lp 0 0),(3,.i .i64)],lo:=[(0,[.sl 0 [],.sl 1 [],.sl 2 [],.sl 3 []])],ro:=[(0,(.sl .int),false),(1,.mon,false),(2,.entry,false),(3,.entry,false)] }),(14,2,{ n:=47,tm:=[(1,.lp 0 0),(3,.i .i64),(4,.lp 1 0),(5,.i .i64)],lo:=[(0,[.sl 0 [],.sl 1 [],.sl 2 [],.sl 3 []]),(1,[.sl 1 [0],.sl 1 [1],.sl 1 [2],.sl 1 [3],.sl 1 [4],.i .i64,.i .i64,.sl 1 [7],.i .i64])],ro:=[(0,(.sl .int),false),(1,.mon,false),(2,.entry,false),(3,.entry,false)] })]
theorem zpj (N:Nat)(a0:Host):evalFn (cQ znL zba zK zL) zn6 N 12 14 [.agg (zbn a0)]=ze7 N a0:=by kernel_rfl
theorem zn2 (a0:Host)(hb:zF big [.agg (zbn a0)])(hc:(zfF a0)=true):∃N,ze7 N a0=some [.one (.b (zcZ a0))]:=by
 have hm:CVB big (.s .mon a0.Mons):=(zM hb).1 _ (by simp [AV.cvs,zbn])
 have hl:=hm.len;refine ⟨NN,?_⟩;have hNN:∀{n:Nat},n<=big->n<NN:=fun h=>zcs h;generalize NN=N at hNN ⊢;unfold ze7;refine (zbj a0.Mons (fun i (t:Unit)=>((i:Int),a0.Memory,a0.Mons,a0.Buffer,a0.IoBuffer,())) _ (fun _ (x:Mon) (_:Unit) κ=>bif tablesOf x then κ () else some [AV.one (.b false)]) (fun (t:Unit)=>(some [(.one (.b true))])) (fun i hi t rec=>?_) (fun t rec=>?_) _ () (hNN hl)).trans ?_
 ·simp only [zbo hi,zU hi,zbd hi,zZ hi hl,cT];have hgl:a0.Mons[i].Guests.length<=big:=(hm.inv.2 _ (List.getElem_mem hi) (.s .guest _) (by simp [Ty.cells])).len
  refine (zbj a0.Mons[i].Guests (fun j (u:Unit)=>((i:Int),(j:Int),(i:Int),(i:Int),(i:Int),(i:Int),(i:Int),a0.Mons[i].Pending,a0.Mons[i].Traps,(i:Int),a0.Mons[i].Own,a0.Memory,a0.Mons,a0.Buffer,a0.IoBuffer,())) _ (fun j (g:Guest) (_:Unit) κ=>bif ilt (j:Int) (ln a0.Mons[i].Tables) then (cond (zd1 (ix a0.Mons[i].Tables (j:Int) zbV) g.Live a0.Mons[i].Outer) (κ ()) (some [AV.one (.b false)])) else rec ((((i+1:Nat)):Int),(a0.Memory,(a0.Mons,(a0.Buffer,(a0.IoBuffer,())))))) (fun (u:Unit)=>(rec ((((i+1:Nat)):Int),(a0.Memory,(a0.Mons,(a0.Buffer,(a0.IoBuffer,()))))))) (fun j hj u rec1=>?_) (fun u rec1=>?_) _ () (hNN hgl)).trans ?_
  ·simp only [zbo hj,zU hj,zbd hj,zZ hj hgl,cT,zU hi,zbd hi,zZ hi hl];cases hh:ilt (j:Int) (ln a0.Mons[i].Tables)
   ·rfl
   ·simp only [cT,zxR hh,zhW,zjn];cases zd1 (ix a0.Mons[i].Tables (↑j) zbV) a0.Mons[i].Guests[j].Live a0.Mons[i].Outer<;>rfl
  ·simp only [zbe,cF,zU hi,zbd hi,zZ hi hl]
  exact zl2 _ _ _ _ _ _
 ·simp only [zbe,cF]
 rw [zce];unfold zcZ zey;cases a0.Mons.all tablesOf<;>rfl
theorem zfJ:Holds Tryz.prog 14 zdk:=zk zir zy zl zn (zA (by kernel_rfl)) fun avs rs hb h=>by
 unfold zdk at h;split at h
 ·obtain ⟨hc,rfl⟩:=zh h;exact (fin1 zn2 zpj hc hb :)
 ·cases h
def zfj (_:Host):Bool:=true
def zcY (h:Host):Bool:=zey h
def zdj:List AV->Option (Bool×List AV)
 | [.agg [.s (.sl .int) c,.s .mon d,.s .entry e,.s .entry f]]=>some ((zfj (⟨c,d,e,f⟩:Host)),[.one (.b (zcY (⟨c,d,e,f⟩:Host)))])
 | _=>none
def ze5 (N:Nat)(a0:Host):Option Ans :=
 (iter (σ:=(Int×(Int×((List Mon)×Unit)))) N (fun r2 s3=>(cond (ilt s3.2.1 s3.1) (cond (inb s3.2.1 (ln s3.2.2.1)) (iter (σ:=(Int×(Int×(Int×(Int×(Int×(Int×(Int×(Int×(Int×(Int×(Int×(Int×((List Mon)×Unit)))))))))))))) N (fun r4 s5=>(cond (ilt s5.1 (ln (ix s5.2.2.2.2.2.2.2.2.2.2.2.2.1 s5.2.2.2.2.2.2.1 zG).Guests)) (cond (ilt s5.1 (ln (ix s5.2.2.2.2.2.2.2.2.2.2.2.2.1 s5.2.2.2.2.2.2.2.2.2.2.1 zG).Tables)) (cond (inb s5.1 (ln (ix s5.2.2.2.2.2.2.2.2.2.2.2.2.1 s5.2.2.2.2.2.2.2.2.2.2.1 zG).Tables)) (cond (inb s5.1 (ln (ix s5.2.2.2.2.2.2.2.2.2.2.2.2.1 s5.2.2.2.2.2.2.1 zG).Guests)) (cond (zhA (ix (ix s5.2.2.2.2.2.2.2.2.2.2.2.2.1 s5.2.2.2.2.2.2.2.2.2.2.1 zG).Tables s5.1 zbV) (ix (ix s5.2.2.2.2.2.2.2.2.2.2.2.2.1 s5.2.2.2.2.2.2.1 zG).Guests s5.1 zbq).Live (ix s5.2.2.2.2.2.2.2.2.2.2.2.2.1 s5.2.2.2.1 zG).Outer) (cond (cond (zix (ix (ix s5.2.2.2.2.2.2.2.2.2.2.2.2.1 s5.2.2.2.2.2.2.2.2.2.2.1 zG).Tables s5.1 zbV) (ix (ix s5.2.2.2.2.2.2.2.2.2.2.2.2.1 s5.2.2.2.2.2.2.1 zG).Guests s5.1 zbq).Live (ix s5.2.2.2.2.2.2.2.2.2.2.2.2.1 s5.2.2.2.1 zG).Outer) false true) (some [(.one (.b false))]) (r4 ((zW .i64 s5.1 1),(s5.2.1,(s5.2.2.1,(s5.2.2.2.1,(s5.2.2.2.2.1,(s5.2.2.2.2.2.1,(s5.2.2.2.2.2.2.1,(s5.2.2.2.2.2.2.2.1,(s5.2.2.2.2.2.2.2.2.1,(s5.2.2.2.2.2.2.2.2.2.1,(s5.2.2.2.2.2.2.2.2.2.2.1,(s5.2.2.2.2.2.2.2.2.2.2.2.1,(s5.2.2.2.2.2.2.2.2.2.2.2.2.1,()))))))))))))))) none) none) none) (r2 (s5.2.1,((zW .i64 s5.2.2.1 1),(s5.2.2.2.2.2.2.2.2.2.2.2.2.1,()))))) (r2 (s5.2.1,((zW .i64 s5.2.2.1 1),(s5.2.2.2.2.2.2.2.2.2.2.2.2.1,())))))) (0,(s3.1,(s3.2.1,(s3.2.1,(s3.2.1,(s3.2.1,(s3.2.1,(s3.2.1,((ix s3.2.2.1 s3.2.1 zG).Pending,((ix s3.2.2.1 s3.2.1 zG).Traps,(s3.2.1,((ix s3.2.2.1 s3.2.1 zG).Own,(s3.2.2.1,())))))))))))))) none) (some [(.one (.b true))]))) ((ln a0.Mons),(0,(a0.Mons,()))))
def zn5:FuncId->Nat->Option Tmpl:=zx [(21,0,{ n:=43,tm:=[(7,.sl 0 []),(8,.i .i64),(9,.i .i64)],lo:=[],ro:=[(0,.mon,false)] }),(21,2,{ n:=43,tm:=[(4,.lp 0 0),(5,.i .i64),(7,.sl 0 []),(8,.i .i64),(9,.i .i64)],lo:=[(0,[.sl 0 [0],.sl 0 [1],.sl 0 [2],.sl 0 [3],.sl 0 [4],.i .i64,.i .i64,.sl 0 [7],.i .i64])],ro:=[(0,.mon,false)] })]
theorem zph (N:Nat)(a0:Host):evalFn (cQ znL zba zK zL) zn5 N 12 21 [.agg (zbn a0)]=ze5 N a0:=by kernel_rfl
theorem zn0 (a0:Host)(hb:zF big [.agg (zbn a0)])(hc:(zfj a0)=true):∃N,ze5 N a0=some [.one (.b (zcY a0))]:=by
 have hm:CVB big (.s .mon a0.Mons):=(zM hb).1 _ (by simp [AV.cvs,zbn])
 have hl:=hm.len;refine ⟨NN,?_⟩;have hNN:∀{n:Nat},n<=big->n<NN:=fun h=>zcs h;generalize NN=N at hNN ⊢;unfold ze5;refine (zbj a0.Mons (fun i (t:Unit)=>((ln a0.Mons),(i:Int),a0.Mons,())) _ (fun _ (x:Mon) (_:Unit) κ=>bif tablesOf x then κ () else some [AV.one (.b false)]) (fun (t:Unit)=>(some [(.one (.b true))])) (fun i hi t rec=>?_) (fun t rec=>?_) _ () (hNN hl)).trans ?_
 ·simp only [zbo hi,zU hi,zbd hi,zZ hi hl,cT];have hgl:a0.Mons[i].Guests.length<=big:=(hm.inv.2 _ (List.getElem_mem hi) (.s .guest _) (by simp [Ty.cells])).len
  refine (zbj a0.Mons[i].Guests (fun j (u:Unit)=>((j:Int),(ln a0.Mons),(i:Int),(i:Int),(i:Int),(i:Int),(i:Int),(i:Int),a0.Mons[i].Pending,a0.Mons[i].Traps,(i:Int),a0.Mons[i].Own,a0.Mons,())) _ (fun j (g:Guest) (_:Unit) κ=>bif ilt (j:Int) (ln a0.Mons[i].Tables) then (cond (zd1 (ix a0.Mons[i].Tables (j:Int) zbV) g.Live a0.Mons[i].Outer) (κ ()) (some [AV.one (.b false)])) else rec (ln a0.Mons,(((i+1:Nat)):Int),a0.Mons,())) (fun (u:Unit)=>(rec ((ln a0.Mons),((((i+1:Nat)):Int),(a0.Mons,()))))) (fun j hj u rec1=>?_) (fun u rec1=>?_) _ () (hNN hgl)).trans ?_
  ·simp only [zbo hj,zU hj,zbd hj,zZ hj hgl,cT,zU hi,zbd hi,zZ hi hl];cases hh:ilt (j:Int) (ln a0.Mons[i].Tables)
   ·rfl
   ·simp only [cT,zxR hh,zhA,zix];cases zd1 (ix a0.Mons[i].Tables (↑j) zbV) a0.Mons[i].Guests[j].Live a0.Mons[i].Outer<;>rfl
  ·simp only [zbe,cF,zU hi,zbd hi,zZ hi hl]
  exact zl2 _ _ _ _ _ _
 ·simp only [zbe,cF]
 rw [zce];unfold zcY zey;cases a0.Mons.all tablesOf<;>rfl
theorem zfI:Holds Tryz.prog 21 zdj:=zk zir zy zl zn (zA (by kernel_rfl)) fun avs rs hb h=>by
 unfold zdj at h;split at h
 ·obtain ⟨hc,rfl⟩:=zh h;exact (fin1 zn0 zph hc hb :)
 ·cases h
def zdx (h:Host)(e:Entry):Bool :=
 bif hasB (zb0 e.Tag) (ln h.Mons) then (bif hasB (zcB e.Tag) (ln (ix h.Mons (zb0 e.Tag) zG).Guests) then
  below' ⟨e.Host,e.Rights⟩ (zb5 (zcl (ix (ix h.Mons (zb0 e.Tag) zG).Guests (zcB e.Tag) zbq).Live e.Page) (ix h.Mons (zb0 e.Tag) zG).Outer) else false) else false
def zdn (h:Host)(b:List Entry):Bool:=b.all (zdx h)
def zdC (_:Host)(_:List Entry):Bool:=true
def zcq (h:Host)(b:List Entry):Bool:=zdn h b
def zc9:List AV->Option (Bool×List AV)
 | [.agg [.s (.sl .int) c,.s .mon d,.s .entry e,.s .entry f],.one (.s .entry g)]=>some ((zdC (⟨c,d,e,f⟩:Host) g),[.one (.b (zcq (⟨c,d,e,f⟩:Host) g))])
 | _=>none
def zeG (N:Nat)(a0:Host)(a1:List Entry):Option Ans :=
 (iter (σ:=(Int×((List Entry)×((List (List Int))×((List Mon)×((List Entry)×((List Entry)×Unit))))))) N (fun r3 s4=>(cond (ilt s4.1 (ln s4.2.1)) (cond (inb s4.1 (ln s4.2.1)) (cond (zhX (ix s4.2.1 s4.1 zq).Tag) (cond (inb s4.1 (ln s4.2.1)) (cond (zfG (ix s4.2.1 s4.1 zq).Tag) (cond (zC (zbN (ix s4.2.1 s4.1 zq).Tag) 0 (wsub .i64 (ln s4.2.2.2.1) 1)) (cond (cond (zJ (zbN (ix s4.2.1 s4.1 zq).Tag) 0 (wsub .i64 (ln s4.2.2.2.1) 1)) false true) (some [(.one (.b false))]) (cond (inb (zbN (ix s4.2.1 s4.1 zq).Tag) (ln s4.2.2.2.1)) (cond (zC (zcd (ix s4.2.1 s4.1 zq).Tag) 0 (wsub .i64 (ln (ix s4.2.2.2.1 (zbN (ix s4.2.1 s4.1 zq).Tag) zG).Guests) 1)) (cond (cond (zJ (zcd (ix s4.2.1 s4.1 zq).Tag) 0 (wsub .i64 (ln (ix s4.2.2.2.1 (zbN (ix s4.2.1 s4.1 zq).Tag) zG).Guests) 1)) false true) (some [(.one (.b false))]) (cond (inb (zbN (ix s4.2.1 s4.1 zq).Tag) (ln s4.2.2.2.1)) (cond (inb (zcd (ix s4.2.1 s4.1 zq).Tag) (ln (ix s4.2.2.2.1 (zbN (ix s4.2.1 s4.1 zq).Tag) zG).Guests)) (cond (inb s4.1 (ln s4.2.1)) (cond (zfE (ix (ix s4.2.2.2.1 (zbN (ix s4.2.1 s4.1 zq).Tag) zG).Guests (zcd (ix s4.2.1 s4.1 zq).Tag) zbq).Live (ix s4.2.1 s4.1 zq).Page) (cond (inb (zbN (ix s4.2.1 s4.1 zq).Tag) (ln s4.2.2.2.1)) (cond (zcz (zcc (ix (ix s4.2.2.2.1 (zbN (ix s4.2.1 s4.1 zq).Tag) zG).Guests (zcd (ix s4.2.1 s4.1 zq).Tag) zbq).Live (ix s4.2.1 s4.1 zq).Page) (ix s4.2.2.2.1 (zbN (ix s4.2.1 s4.1 zq).Tag) zG).Outer) (cond (inb s4.1 (ln s4.2.1)) (cond (inb s4.1 (ln s4.2.1)) (cond (zjQ (⟨(ix s4.2.1 s4.1 zq).Host,(ix s4.2.1 s4.1 zq).Rights⟩:Slot) (zb2 (zcc (ix (ix s4.2.2.2.1 (zbN (ix s4.2.1 s4.1 zq).Tag) zG).Guests (zcd (ix s4.2.1 s4.1 zq).Tag) zbq).Live (ix s4.2.1 s4.1 zq).Page) (ix s4.2.2.2.1 (zbN (ix s4.2.1 s4.1 zq).Tag) zG).Outer)) (cond (cond (zk8 (⟨(ix s4.2.1 s4.1 zq).Host,(ix s4.2.1 s4.1 zq).Rights⟩:Slot) (zb2 (zcc (ix (ix s4.2.2.2.1 (zbN (ix s4.2.1 s4.1 zq).Tag) zG).Guests (zcd (ix s4.2.1 s4.1 zq).Tag) zbq).Live (ix s4.2.1 s4.1 zq).Page) (ix s4.2.2.2.1 (zbN (ix s4.2.1 s4.1 zq).Tag) zG).Outer)) false true) (some [(.one (.b false))]) (r3 ((zW .i64 s4.1 1),(s4.2.1,(s4.2.2.1,(s4.2.2.2.1,(s4.2.2.2.2.1,(s4.2.2.2.2.2.1,())))))))) none) none) none) none) none) none) none) none) none)) none) none)) none) none) none) none) none) (some [(.one (.b true))]))) (0,(a1,(a0.Memory,(a0.Mons,(a0.Buffer,(a0.IoBuffer,())))))))
def znA:FuncId->Nat->Option Tmpl:=zx [(15,0,{ n:=84,tm:=[(1,.sl 0 []),(2,.lp 0 0),(5,.i .i64)],lo:=[(0,[.sl 1 [],.sl 2 [],.sl 3 [],.sl 4 []])],ro:=[(0,.entry,false),(1,(.sl .int),false),(2,.mon,false),(3,.entry,false),(4,.entry,false)] })]
theorem zn4 (N:Nat)(a0:Host)(a1:List Entry):evalFn (cQ znL zba zK zL) znA N 12 15 [.agg (zbn a0),.one (.s .entry a1)]=zeG N a0 a1:=by kernel_rfl
theorem znl (a0:Host)(a1:List Entry)(hb:zF big [.agg (zbn a0),.one (.s .entry a1)])(hc:(zdC a0 a1)=true):∃N,zeG N a0 a1=some [.one (.b (zcq a0 a1))]:=by
 have hm:CVB big (.s .mon a0.Mons):=(zM hb).1 _ (by simp [AV.cvs,zbn])
 have hl:=((zM (zM hb).2).1 _ (List.mem_singleton.2 rfl)).len;refine ⟨NN,?_⟩;unfold zeG;refine (zbj a1 (fun i (_:Unit)=>((i:Int),(a1,(a0.Memory,(a0.Mons,(a0.Buffer,(a0.IoBuffer,()))))))) _ (fun _ (x:Entry) (_:Unit) k=>bif zdx a0 x then k () else some [AV.one (.b false)]) (fun _=>some [AV.one (.b true)])
  (fun i hi t rec=>?_) (fun t rec=>?_) _ () (zcs hl)).trans ?_
 ·simp only [zbo hi,zU hi,zbd hi,cT,zhX,zbN,zfG,zcd,zC,zfE,zcc,zcz,zb2,zjQ,zk8,zZ hi hl];unfold zdx;generalize a1[i]=e;have e1:zJ (zb0 e.Tag) 0 (wsub .i64 (ln a0.Mons) 1)=hasB (zb0 e.Tag) (ln a0.Mons):=zl9 hm.len _;rw [e1];cases hh:hasB (zb0 e.Tag) (ln a0.Mons)
  ·rfl
  ·have hgl:(ix a0.Mons (zb0 e.Tag) zG).Guests.length<=big:=(hm.inv.2 _ (zuC hh zG) (.s .guest _) (by simp [Ty.cells])).len
   have e2:zJ (zcB e.Tag) 0 (wsub .i64 (ln (ix a0.Mons (zb0 e.Tag) zG).Guests) 1)=hasB (zcB e.Tag) (ln (ix a0.Mons (zb0 e.Tag) zG).Guests):=zl9 hgl _;rw [zh5 hh,e2];cases hh2:hasB (zcB e.Tag) (ln (ix a0.Mons (zb0 e.Tag) zG).Guests)
   ·rfl
   ·rw [zh5 hh2];simp only [cT,Bool.not_true,cF];cases below' ⟨e.Host,e.Rights⟩ (zb5 (zcl (ix (ix a0.Mons (zb0 e.Tag) zG).Guests (zcB e.Tag) zbq).Live e.Page) (ix a0.Mons (zb0 e.Tag) zG).Outer)<;>rfl
 ·simp only [zbe,cF]
 ·rw [zce];unfold zcq zdn;cases a1.all (zdx a0)<;>rfl
theorem zfe:Holds Tryz.prog 15 zc9:=zk zir zy zl zn (zA (by kernel_rfl)) fun avs rs hb h=>by
 unfold zc9 at h;split at h
 ·obtain ⟨hc,rfl⟩:=zh h;exact (fin2 znl zn4 hc hb :)
 ·cases h
def zdy (_:Host)(_:List Entry):Bool:=true
def zcn (h:Host)(b:List Entry):Bool:=zdn h b
def zc8:List AV->Option (Bool×List AV)
 | [.agg [.s (.sl .int) c,.s .mon d,.s .entry e,.s .entry f],.one (.s .entry g)]=>some ((zdy (⟨c,d,e,f⟩:Host) g),[.one (.b (zcn (⟨c,d,e,f⟩:Host) g))])
 | _=>none
def zeF (N:Nat)(a0:Host)(a1:List Entry):Option Ans :=
 (iter (σ:=(Int×(Int×((List Entry)×((List (List Int))×((List Mon)×((List Entry)×((List Entry)×Unit)))))))) N (fun r3 s4=>(cond (ilt s4.2.1 s4.1) (cond (inb s4.2.1 (ln s4.2.2.1)) (cond (zhC (ix s4.2.2.1 s4.2.1 zq).Tag) (cond (zfk (ix s4.2.2.1 s4.2.1 zq).Tag) (cond (zh4 (zbL (ix s4.2.2.1 s4.2.1 zq).Tag) (ln s4.2.2.2.2.1)) (cond (cond (zhD (zbL (ix s4.2.2.1 s4.2.1 zq).Tag) (ln s4.2.2.2.2.1)) false true) (some [(.one (.b false))]) (cond (inb (zbL (ix s4.2.2.1 s4.2.1 zq).Tag) (ln s4.2.2.2.2.1)) (cond (zh4 (zca (ix s4.2.2.1 s4.2.1 zq).Tag) (ln (ix s4.2.2.2.2.1 (zbL (ix s4.2.2.1 s4.2.1 zq).Tag) zG).Guests)) (cond (cond (zhD (zca (ix s4.2.2.1 s4.2.1 zq).Tag) (ln (ix s4.2.2.2.2.1 (zbL (ix s4.2.2.1 s4.2.1 zq).Tag) zG).Guests)) false true) (some [(.one (.b false))]) (cond (inb (zbL (ix s4.2.2.1 s4.2.1 zq).Tag) (ln s4.2.2.2.2.1)) (cond (inb (zca (ix s4.2.2.1 s4.2.1 zq).Tag) (ln (ix s4.2.2.2.2.1 (zbL (ix s4.2.2.1 s4.2.1 zq).Tag) zG).Guests)) (cond (zfi (ix (ix s4.2.2.2.2.1 (zbL (ix s4.2.2.1 s4.2.1 zq).Tag) zG).Guests (zca (ix s4.2.2.1 s4.2.1 zq).Tag) zbq).Live (ix s4.2.2.1 s4.2.1 zq).Page) (cond (inb (zbL (ix s4.2.2.1 s4.2.1 zq).Tag) (ln s4.2.2.2.2.1)) (cond (zcy (zb9 (ix (ix s4.2.2.2.2.1 (zbL (ix s4.2.2.1 s4.2.1 zq).Tag) zG).Guests (zca (ix s4.2.2.1 s4.2.1 zq).Tag) zbq).Live (ix s4.2.2.1 s4.2.1 zq).Page) (ix s4.2.2.2.2.1 (zbL (ix s4.2.2.1 s4.2.1 zq).Tag) zG).Outer) (cond (zjC (⟨(ix s4.2.2.1 s4.2.1 zq).Host,(ix s4.2.2.1 s4.2.1 zq).Rights⟩:Slot) (zb1 (zb9 (ix (ix s4.2.2.2.2.1 (zbL (ix s4.2.2.1 s4.2.1 zq).Tag) zG).Guests (zca (ix s4.2.2.1 s4.2.1 zq).Tag) zbq).Live (ix s4.2.2.1 s4.2.1 zq).Page) (ix s4.2.2.2.2.1 (zbL (ix s4.2.2.1 s4.2.1 zq).Tag) zG).Outer)) (cond (cond (zkS (⟨(ix s4.2.2.1 s4.2.1 zq).Host,(ix s4.2.2.1 s4.2.1 zq).Rights⟩:Slot) (zb1 (zb9 (ix (ix s4.2.2.2.2.1 (zbL (ix s4.2.2.1 s4.2.1 zq).Tag) zG).Guests (zca (ix s4.2.2.1 s4.2.1 zq).Tag) zbq).Live (ix s4.2.2.1 s4.2.1 zq).Page) (ix s4.2.2.2.2.1 (zbL (ix s4.2.2.1 s4.2.1 zq).Tag) zG).Outer)) false true) (some [(.one (.b false))]) (r3 (s4.1,((zW .i64 s4.2.1 1),(s4.2.2.1,(s4.2.2.2.1,(s4.2.2.2.2.1,(s4.2.2.2.2.2.1,(s4.2.2.2.2.2.2.1,()))))))))) none) none) none) none) none) none)) none) none)) none) none) none) none) (some [(.one (.b true))]))) ((ln a1),(0,(a1,(a0.Memory,(a0.Mons,(a0.Buffer,(a0.IoBuffer,()))))))))
def znz:FuncId->Nat->Option Tmpl:=zx [(22,0,{ n:=69,tm:=[(2,.lp 0 0),(10,.sl 0 []),(11,.i .i64),(12,.i .i64)],lo:=[(0,[.sl 1 [],.sl 2 [],.sl 3 [],.sl 4 []])],ro:=[(0,.entry,false),(1,(.sl .int),false),(2,.mon,false),(3,.entry,false),(4,.entry,false)] })]
theorem zn3 (N:Nat)(a0:Host)(a1:List Entry):evalFn (cQ znL zba zK zL) znz N 12 22 [.agg (zbn a0),.one (.s .entry a1)]=zeF N a0 a1:=by kernel_rfl
theorem znk (a0:Host)(a1:List Entry)(hb:zF big [.agg (zbn a0),.one (.s .entry a1)])(hc:(zdy a0 a1)=true):∃N,zeF N a0 a1=some [.one (.b (zcn a0 a1))]:=by
 have hl:=((zM (zM hb).2).1 _ (List.mem_singleton.2 rfl)).len;refine ⟨NN,?_⟩;unfold zeF;refine (zbj a1 (fun i (_:Unit)=>(ln a1,((i:Int),(a1,(a0.Memory,(a0.Mons,(a0.Buffer,(a0.IoBuffer,())))))))) _ (fun _ (x:Entry) (_:Unit) k=>bif zdx a0 x then k () else some [AV.one (.b false)]) (fun _=>some [AV.one (.b true)])
  (fun i hi t rec=>?_) (fun t rec=>?_) _ () (zcs hl)).trans ?_
 ·simp only [zbo hi,zU hi,zbd hi,cT,zhC,zbL,zfk,zca,zh4,zhD,zfi,zb9,zcy,zb1,zjC,zkS,zZ hi hl];unfold zdx;generalize a1[i]=e;cases hh:hasB (zb0 e.Tag) (ln a0.Mons)
  ·rfl
  ·rw [zh5 hh];cases hh2:hasB (zcB e.Tag) (ln (ix a0.Mons (zb0 e.Tag) zG).Guests)
   ·rfl
   ·rw [zh5 hh2];simp only [cT,Bool.not_true,cF];cases below' ⟨e.Host,e.Rights⟩ (zb5 (zcl (ix (ix a0.Mons (zb0 e.Tag) zG).Guests (zcB e.Tag) zbq).Live e.Page) (ix a0.Mons (zb0 e.Tag) zG).Outer)<;>rfl
 ·simp only [zbe,cF]
 ·rw [zce];unfold zcn zdn;cases a1.all (zdx a0)<;>rfl
theorem zfd:Holds Tryz.prog 22 zc8:=zk zir zy zl zn (zA (by kernel_rfl)) fun avs rs hb h=>by
 unfold zc8 at h;split at h
 ·obtain ⟨hc,rfl⟩:=zh h;exact (fin2 znk zn3 hc hb :)
 ·cases h
def zBm:zbg:=[(14,zdk),(21,zdj),(15,zc9),(22,zc8)]++znL
theorem zAk:zbl zBm:=zi zfJ (zi zfI (zi zfe (zi zfd zir)))
def zCN:zbg:=zBm
theorem zB5:∀f run,zf zCN f=some run->Holds Tryz.prog f run:=zAk
theorem hE (h:Host):(⟨h.Memory,h.Mons,h.Buffer,h.IoBuffer⟩:Host)=h:=rfl
def zBn:zbg:=zCN
theorem zAl:∀f run,zf zBn f=some run->Holds Tryz.prog f run:=zB5
def zBo:zbg:=zBn
theorem zAm:∀f run,zf zBo f=some run->Holds Tryz.prog f run:=zAl
def zBp:zbg:=zBo
theorem zAn:∀f run,zf zBp f=some run->Holds Tryz.prog f run:=zAm
theorem zCf (x y:Int):ine x y = !ieq x y:=rfl
def zBq:zbg:=zBp
theorem zAo:∀f run,zf zBq f=some run->Holds Tryz.prog f run:=zAn
def zBr:zbg:=zBq
theorem zAp:∀f run,zf zBr f=some run->Holds Tryz.prog f run:=zAo
def zBs:zbg:=zBr
theorem zAq:∀f run,zf zBs f=some run->Holds Tryz.prog f run:=zAp
def zBt:zbg:=zBs
theorem zAr:∀f run,zf zBt f=some run->Holds Tryz.prog f run:=zAq
def zCM:zbg:=zBt
theorem zB4:∀f run,zf zCM f=some run->Holds Tryz.prog f run:=zAr
def mkB:Int:=4611686018427387904
section
variable {α:Type}
def mcL (m:α->Int):List α->Int
 | []=>0
 | x :: l=>m x+mcL m l
def mkL (f:α->Int->α)(nx:α->Int->Int):List α->Int->List α
 | [],_=>[]
 | x :: l,k=>f x k :: mkL f nx l (nx x k)
def enL (nx:α->Int->Int):List α->Int->Int
 | [],k=>k
 | x :: l,k=>enL nx l (nx x k)
structure Mk (f:α->Int->α) (nx:α->Int->Int) (m:α->Int):Prop where
 nn:∀x,0<=m x
 nx:∀x k,nx x k=k+m x
 f2:∀x k,f (f x k) k=f x k
 m2:∀x k,m (f x k)=m x
variable {f:α->Int->α} {nx:α->Int->Int} {m:α->Int}
theorem zzB (h:∀x,0<=m x):∀l:List α,0<=mcL m l
 | []=>Int.le_refl _
 | x :: l=>by
  have h1:=h x;have h2:=zzB h l;simp only [mcL];omega
theorem zpH (h:∀x k,nx x k=k+m x):∀(l:List α) (k:Int),enL nx l k=k+mcL m l
 | [],k=>by simp [enL,mcL]
 | x :: l,k=>by
  have h2:=zpH h l (nx x k);simp only [enL,mcL];rw [h2,h];omega
theorem zyC (h:Mk f nx m):∀(l:List α) (k:Int),mcL m (mkL f nx l k)=mcL m l
 | [],_=>rfl
 | x :: l,k=>by simp only [mkL,mcL,zyC h l,h.m2]
theorem zBI (h:Mk f nx m):∀(l:List α) (k:Int),mkL f nx (mkL f nx l k) k=mkL f nx l k
 | [],_=>rfl
 | x :: l,k=>by
  have e:nx (f x k) k=nx x k:=by rw [h.nx,h.nx,h.m2]
  simp only [mkL,h.f2,e,zBI h l]
end
section
variable {α:Type}
end
theorem zCQ {k:Int}(h:0<=k):ilt k 0=false:=decide_eq_false (by omega)
def zCU:zqI:=zba
theorem zCg:∀f run,zf zCU f=some run->zgG Tryz.prog f run:=zy
def zCV:zqI:=zCU
theorem zCh:∀f run,zf zCV f=some run->zgG Tryz.prog f run:=zCg
def zbZ:zqI:=zCV
theorem zbs:∀f run,zf zbZ f=some run->zgG Tryz.prog f run:=zCh
def zBu:zbg:=zCM
theorem zAs:∀f run,zf zBu f=some run->Holds Tryz.prog f run:=zB4
def zBv:zbg:=zBu
theorem zAt:∀f run,zf zBv f=some run->Holds Tryz.prog f run:=zAs
def zBw:zbg:=zBv
theorem zAu:∀f run,zf zBw f=some run->Holds Tryz.prog f run:=zAt
def zqO:zbg:=zBw
theorem zkK:∀f run,zf zqO f=some run->Holds Tryz.prog f run:=zAu
def W (c:Int)(f:Int->Int):Prop:=∀n,0<=n->n<=1048576->f n<=n/\(0<=f n->c<=15*(n-f n))
section
variable {α:Type} {f:α->Int->α} {nx:α->Int->Int} {m:α->Int}
structure Res (f:α->Int->α) (nx:α->Int->Int) (m:α->Int) (l:List α):Prop where
 c:0<=(1:Int)/\1+mcL m l<=mkB
 hc:mkL f nx (mkL f nx l 1) 1=mkL f nx l 1/\0<=(1:Int)/\1+mcL m (mkL f nx l 1)<=mkB
 e:enL nx (mkL f nx l 1) 1=enL nx l 1
 nn:ilt (enL nx l 1) 0=false
theorem res (h:Mk f nx m)(l:List α)(hl:mcL m l<=1000000000000):Res f nx m l:=by
 have hB:mkB=4611686018427387904:=rfl;have hn:=zzB h.nn l;refine ⟨⟨by decide,by omega⟩,⟨zBI h l 1,by decide,by rw [zyC h];omega⟩,by rw [zpH h.nx,zpH h.nx,zyC h],zCQ (by rw [zpH h.nx];omega)⟩
end
section
open Go Go.RowKit Go.Maps
theorem znp {H:Type}{P:Program}{e:TypeId}(he:P.underlying e=some .bool){v:Value}{z:DataW H×List MemPlace}(h:plainElem P e v=some z):∃x,v = .bool x/\z=(.lit (.bool x),[]):=by
 unfold plainElem at h;rw [he] at h;cases v<;>simp at h;exact ⟨_,rfl,h.symm⟩
theorem zwJ {H:Type}{P:Program}(w:World){ops:Array Oper}{rest:List Oper}{o:Oper}{a:Act}{Q:Exit->Act->World->Prop}(hg:o.guard=none)(m x:Operand)(t:TypeId)(hop:o.op=Op.lookup t m x false)(k e:TypeId)(K:Keyed P k)(ht:P.underlying t=some (.map k e))(he:P.underlying e=some .bool)(hz:(zeroValue e).run P w = .ok (.bool false) w)(b n:Nat)(D:DataW H)(hm:a.eval m = .map (some b))(hown:w.ownsMap P k (plainElem P e) b n D)(key:Value)(kl:Lit)(hx:a.eval x=key)(hkey:keyOf P k key=some kl)(hK:∀c:Bool,D.atKey kl (.lit (.bool false)) = .lit (.bool c)->wpList P ops Q rest (a.put o.dst (.bool c)) w) :
 wpList P ops Q (o :: rest) a w:=by
 refine wpList_plain hg fun K' hK'=>?_;obtain ⟨v,ps,hrun,hv⟩:=hown.lookup K ht hz (plainElem_bool he false) hkey;obtain ⟨c,rfl,hc⟩:=znp he hv;simp only [Prod.mk.injEq] at hc;unfold Oper.wp;simp [execOp,hop,hm,hx,hrun,Result.andThen];exact hK' _ _ (hK c hc.1)
def mapOf:List Int->DataW Unit
 | []=>.map []
 | p :: u=>(mapOf u).put (.int .i64 p) (.lit (.bool true))
theorem zvn:∀u,IsMap (mapOf u)
 | []=>isMap_empty
 | p :: u=>(zvn u).put _ _
theorem zpf (p:Int):∀u,(mapOf u).atKey (.int .i64 p) (.lit (.bool false)) = .lit (.bool (u.contains p))
 | []=>rfl
 | q :: u=>by
  by_cases h:p=q
  ·subst h;rw [mapOf,atKey_put_same (zvn u) (by exact True.intro)]
   simp
  ·rw [mapOf,atKey_put_other (by intro e;cases e;exact h rfl),zpf p u]
   simp [h]
theorem zxW:Keyed Tryz.prog 3:=int_keyed Tryz.underlying3
theorem zBc (w:World):(zeroValue 4).run Tryz.prog w = .ok (.bool false) w:=by kernel_rfl
def wf64 (p:Int):Prop:=(Lit.int .i64 p).wf=true
def apS:List (Int×Int)->List Int->Option (List Int)
 | [],u=>some u
 | s :: l,u=>if s.1 = -1 then apS l u else if u.contains s.1 then none else apS l (s.1 :: u)
def apM:List (List (Int×Int))->List Int->Bool
 | [],_=>true
 | m :: l,u=>match apS m u with
  | none=>false
  | some u'=>apM l u'
theorem zqK {l:List (Int×Int)}{j:Nat}{p r:Int}(h:l[j]?=some (p,r))(u:List Int):apS (l.drop j) u=if p = -1 then apS (l.drop (j+1)) u else if u.contains p then none else apS (l.drop (j+1)) (p :: u):=by
 obtain ⟨hj,he⟩:=List.getElem?_eq_some_iff.1 h;rw [List.drop_eq_getElem_cons hj,he];rfl
theorem zBV {l:List (List (Int×Int))}{k:Nat}{m:List (Int×Int)}(h:l[k]?=some m)(u:List Int):apM (l.drop k) u=match apS m u with|none=>false|some u'=>apM (l.drop (k+1)) u':=by
 obtain ⟨hj,he⟩:=List.getElem?_eq_some_iff.1 h;rw [List.drop_eq_getElem_cons hj,he];rfl
structure SlotsAt (w:World) (B:Nat) (a:Option Addr) (l:List (Int×Int)):Prop where
 at1:∀j p r,l[j]?=some (p,r)->∃b off,a=some ⟨b,off,none⟩/\b<B/\w.cell? ⟨b,off+j*2,none⟩=some (.int .i64 p)/\w.cell? ⟨b,off+j*2+1,none⟩=some (.int .i64 r)/\wf64 p
structure MonsAt (w:World) (B:Nat) (a:Option Addr) (l:List (List (Int×Int))):Prop where
 at1:∀i m,l[i]?=some m->∃b off a2 cap p1 n1 q1 p2 n2 q2 p3 n3 q3 p4 n4 q4 x5 x6 p7 n7 q7 x8,a=some ⟨b,off,none⟩/\b<B/\w.cell? ⟨b,off+i*9,none⟩=some (.slice a2 m.length cap)/\SlotsAt w B a2 m/\m.length<=1048576 /\
  w.cell? ⟨b,off+i*9+1,none⟩=some (.slice p1 n1 q1)/\w.cell? ⟨b,off+i*9+2,none⟩=some (.slice p2 n2 q2)/\w.cell? ⟨b,off+i*9+3,none⟩=some (.slice p3 n3 q3)/\w.cell? ⟨b,off+i*9+4,none⟩=some (.slice p4 n4 q4) /\
  w.cell? ⟨b,off+i*9+5,none⟩=some (.int .i64 x5)/\w.cell? ⟨b,off+i*9+6,none⟩=some (.int .i64 x6)/\w.cell? ⟨b,off+i*9+7,none⟩=some (.slice p7 n7 q7)/\w.cell? ⟨b,off+i*9+8,none⟩=some (.int .i64 x8)
theorem zCl (m x y:Value)(a:Option Addr)(cap:Nat)(L:List (List (Int×Int)))(w:World)(hL:L.length<=1048576)(hat:MonsAt w w.heap.size a L) :
 Calls Tryz.prog 20 #[.agg #[m,.slice a L.length cap,x,y]] w fun e w'=>e = .returned (.bool (apM L []))/\Below w.heap.size w w':=by
 have hmm:=@run_makeMap Tryz.prog
 go_enter Tryz.func20,Tryz.ntmps20
 go_wp2
 go_loopw [12] (fun i wr=>∃(k:Nat) (u:List Int),k<=L.length/\i = .int .i64 k/\apM (L.drop k) u=apM L []/\wr.ownsMap Tryz.prog 3 (plainElem Tryz.prog 4) (w.heap.size+1) (k*1048576) (mapOf u)/\Below w.heap.size w wr/\w.heap.size+2<=wr.heap.size) (fun i _=>L.length-(intOf i).toNat)
 case atStart=>exact ⟨0,[],Nat.zero_le _,rfl,rfl,by
  have h:=World.ownsMap_made (H:=Unit) (w.alloc (Obj.cells #[m,Value.slice a L.length cap,x,y] 32)) Tryz.prog 3 (plainElem Tryz.prog 4);rw [show (w.alloc (Obj.cells #[m,Value.slice a L.length cap,x,y] 32)).heap.size=w.heap.size+1 from by simp] at h
  rw [Nat.zero_mul];exact h,((Below.refl _ _).alloc (Nat.le_refl _) _).alloc (by simp) _,by simp⟩
 case round =>
  obtain ⟨k,u,hk,rfl,hres,hown,hnx,hws⟩:=hrel
  by_cases hkl:k<L.length
  ·obtain ⟨mm,hmm2⟩:∃mm,L[k]?=some mm:=⟨_,List.getElem?_eq_getElem (by omega)⟩
   obtain ⟨b,off,a2,cap2,p1,n1,q1,p2,n2,q2,p3,n3,q3,p4,n4,q4,x5,x6,p7,n7,q7,x8,rfl,hb,e0,hsl,hml,e1,e2,e3,e4,e5,e6,e7,e8⟩:=hat.at1 k mm hmm2;obtain ⟨len2,hlen2⟩:∃n,n=mm.length:=⟨_,rfl⟩;rw [<- hlen2] at e0 hml;rw [<- hnx.cell (by exact hb)] at e0 e1 e2 e3 e4 e5 e6 e7 e8
   go_wp2
   go_loopw [19] (fun j ws=>∃(q:Nat) (v:List Int),q<=mm.length/\j = .int .i64 q/\(match apS (mm.drop q) v with|none=>false|some u'=>apM (L.drop (k+1)) u')=apM L []/\ws.ownsMap Tryz.prog 3 (plainElem Tryz.prog 4) (w.heap.size+1) (k*1048576+q) (mapOf v)/\Below w.heap.size w ws/\w.heap.size+2<=ws.heap.size) (fun j _=>mm.length-(intOf j).toNat)
   case atStart=>exact ⟨0,u,Nat.zero_le _,rfl,by rw [List.drop_zero,<- zBV hmm2];exact hres,(hown.alloc _).mono (Nat.le_add_right _ _),hnx.alloc (by omega) _,by simp;omega⟩
   case round =>
    obtain ⟨q,v,hq,rfl,hres2,hown2,hnx2,hws2⟩:=hrel
    by_cases hql:q<mm.length
    ·obtain ⟨⟨p,r⟩,hpr⟩:∃mm2,mm[q]?=some mm2:=⟨_,List.getElem?_eq_getElem hql⟩;obtain ⟨b2,off2,rfl,hb2,f0,f1,hwf⟩:=hsl.at1 q p r hpr;rw [<- hnx2.cell (by exact hb2)] at f0 f1
     have hkey:keyOf Tryz.prog 3 (.int .i64 p)=some (.int .i64 p):=keyOf_int_mk Tryz.underlying3 hwf
     go_wp2_with (first
      | (at_lookup;refine zwJ _ rfl _ _ 86 rfl 3 4 zxW Tryz.underlying86 Tryz.underlying4 (zBc _) (w.heap.size+1) _ _ rfl (hown2.alloc _) _ _ rfl hkey ?_;intro c hat)
      | (at_mapUpdate;refine wpList_mapUpdate_own _ rfl _ _ _ 86 rfl 3 4 zxW Tryz.underlying86 _ (w.heap.size+1) _ _ rfl (hown2.alloc _) (by unfold maxLen;omega) _ _ _ rfl rfl hkey _ [] (plainElem_bool Tryz.underlying4 true) ?_;intro w1 hown1 hgrow1)
      | go_in)
     ·have h:p = -1:=by simpa using ‹(p == -1)=true›
      have e:=zqK hpr v;rw [if_pos h] at e;refine ⟨⟨q+1,v,by omega,by go_num,by rw [<- e];exact hres2,(hown2.alloc _).mono (by omega),hnx2.alloc (by omega) _,by simp;omega⟩,by simp [intOf];omega⟩
     ·have h:p≠-1:=by simpa using ‹(p == -1)=false›
      have hc:c=true:=by assumption
      subst hc;rw [zpf] at hat;have hin:v.contains p=true:=by simpa using hat
      have e:=zqK hpr v;rw [if_neg h,if_pos hin] at e;rw [e] at hres2
      go_ret
      exact ⟨by rw [<- hres2];rfl,hnx2.alloc (by omega) _⟩
     ·have h:p≠-1:=by simpa using ‹(p == -1)=false›
      have hc:c=false:=by assumption
      subst hc;rw [zpf] at hat;have hin:v.contains p=false:=by simpa using hat
      have e:=zqK hpr v;rw [if_neg h,if_neg (by rw [hin];simp)] at e
      have s1:=hgrow1.size;simp at s1
      go_roundw
      case rel =>
       exact ⟨q+1,p :: v,by omega,by go_num,by rw [<- e];exact hres2,by simpa [Nat.add_assoc,mapOf] using hown1,(hnx2.alloc (by omega) _).grown hgrow1 (by simp;omega) (fun j hj=>by cases hj;omega),by omega⟩
      case measure=>simp [intOf];omega
    ·have hqe:q=mm.length:=by omega
     subst hqe
     go_wp2
     rw [List.drop_length] at hres2;exact ⟨⟨k+1,v,by omega,by go_num,hres2,hown2.mono (by omega),hnx2,hws2⟩,by simp [intOf];omega⟩
  ·have hke:k=L.length:=by omega
   subst hke
   go_wp2
   go_ret
   exact ⟨by rw [<- hres,List.drop_length];rfl,hnx⟩
def pairs (l:List Slot):List (Int×Int):=l.map fun s=>(s.Page,s.Rights)
def zyc (h:Host):Prop:=∀m∈h.Mons,∀s∈m.Outer,wf64 s.Page
theorem zy3 {w:World}{B:Nat}{v:Value}{l:List Slot}{S:zI}(h:Rep false w v (.s .slot l) S)(hS:∀x,S x->x<B)(hwf:∀s∈l,wf64 s.Page):∃a cap,v = .slice a (pairs l).length cap/\SlotsAt w B a (pairs l):=by
 cases h with
 | nil=>exact ⟨none,0,rfl,⟨fun j p r h=>by simp [pairs] at h⟩⟩
 | void _ a _ ho=>exact ⟨some a,0,rfl,⟨fun j p r h=>by simp [pairs] at h⟩⟩
 | sl _ _ b off cap arr e fz V K _ hb hfz hlen hcap hsz hSb hsub hdis hv hc =>
  refine ⟨some ⟨b,off,none⟩,cap,by simp [pairs],⟨fun j p r hj=>?_⟩⟩
  unfold pairs at hj;rw [List.getElem?_map] at hj;cases hx:l[j]? with
  | none=>rw [hx] at hj;cases hj
  | some s =>
   rw [hx] at hj;cases hj;have hjl:j<l.length:=(List.getElem?_eq_some_iff.1 hx).1;have hw2:Ty.width .slot=2:=rfl;have c0:=hv j 0 hjl (by decide)
   have c1:=hv j 1 hjl (by decide)
   rw [(hc j s hx 0 (.i .i64 s.Page) rfl).int_inv] at c0;rw [(hc j s hx 1 (.i .i64 s.Rights) rfl).int_inv] at c1;exact ⟨b,off,rfl,hS b hSb,by rw [cell_of_block hb];exact c0,by rw [cell_of_block hb];exact c1,hwf s (List.mem_of_getElem? hx)⟩
theorem zgU {w:World}{v:Value}{t:Ty}{l:List t.den}{S:zI}(h:Rep false w v (.s t l) S):∃p n q,v = .slice p n q:=by
 obtain ⟨⟨a,cap,hv,_⟩,_⟩:=h.len;exact ⟨a,_,cap,hv⟩
theorem zzD {w:World}{v:Value}{l:List Mon}{S:zI}(h:Rep false w v (.s .mon l) S)(hS:∀x,S x->x<w.heap.size)(hwf:∀m∈l,∀s∈m.Outer,wf64 s.Page)(hsm:∀m∈l,m.Outer.length<=1048576) :
 ∃a cap,v = .slice a (l.map fun m=>pairs m.Outer).length cap/\MonsAt w w.heap.size a (l.map fun m=>pairs m.Outer):=by
 cases h with
 | nil=>exact ⟨none,0,rfl,⟨fun j m h=>by simp at h⟩⟩
 | void _ a _ ho=>exact ⟨some a,0,rfl,⟨fun j m h=>by simp at h⟩⟩
 | sl _ _ b off cap arr e fz V K _ hb hfz hlen hcap hsz hSb hsub hdis hv hc =>
  refine ⟨some ⟨b,off,none⟩,cap,by simp,⟨fun i mm hi=>?_⟩⟩
  rw [List.getElem?_map] at hi;cases hx:l[i]? with
  | none=>rw [hx] at hi;cases hi
  | some m =>
   rw [hx] at hi;cases hi;have hil:i<l.length:=(List.getElem?_eq_some_iff.1 hx).1;have hK:∀j,j<9->∀x,K i j x->x<w.heap.size:=fun j hj x hk=>hS x (hsub i j x hil hj hk).1;have c:∀j,j<9->w.cell? ⟨b,off+i*9+j,none⟩=some (V i j):=fun j hj=>by rw [cell_of_block hb];exact hv i j hil hj
   have hm:=List.mem_of_getElem? hx;obtain ⟨a2,cap2,e0,hsl⟩:=zy3 (hc i m hx 0 (.s .slot m.Outer) rfl) (hK 0 (by decide)) (hwf m hm)
   obtain ⟨p1,n1,q1,e1⟩:=zgU (hc i m hx 1 (.s (.sl .int) m.Out) rfl);obtain ⟨p2,n2,q2,e2⟩:=zgU (hc i m hx 2 (.s .bool m.Dirty) rfl);obtain ⟨p3,n3,q3,e3⟩:=zgU (hc i m hx 3 (.s .guest m.Guests) rfl);obtain ⟨p4,n4,q4,e4⟩:=zgU (hc i m hx 4 (.s .int m.Outs) rfl);have e5:=(hc i m hx 5 (.i .i64 m.Pending) rfl).int_inv;have e6:=(hc i m hx 6 (.i .i64 m.Traps) rfl).int_inv;obtain ⟨p7,n7,q7,e7⟩:=zgU (hc i m hx 7 (.s .kept m.Tables) rfl);have e8:=(hc i m hx 8 (.i .i64 m.Own) rfl).int_inv;refine ⟨b,off,a2,cap2,p1,n1,q1,p2,n2,q2,p3,n3,q3,p4,n4,q4,m.Pending,m.Traps,p7,n7,q7,m.Own,rfl,hS b hSb,?_,hsl,by simpa [pairs] using hsm m hm,?_,?_,?_,?_,?_,?_,?_,?_⟩
   ·rw [<- e0];exact c 0 (by decide)
   ·rw [<- e1];exact c 1 (by decide)
   ·rw [<- e2];exact c 2 (by decide)
   ·rw [<- e3];exact c 3 (by decide)
   ·rw [<- e4];exact c 4 (by decide)
   ·rw [<- e5];exact c 5 (by decide)
   ·rw [<- e6];exact c 6 (by decide)
   ·rw [<- e7];exact c 7 (by decide)
   ·rw [<- e8];exact c 8 (by decide)
def zft (h:Host):Bool:=apM (h.Mons.map fun m=>pairs m.Outer) []
@[simp,reducible] def zkV (h:Host):Bool:=pc (zdl h/\zyc h)
@[simp,reducible] def znd (h:Host):Bool:=zft h
def zeM:List AV->Option (Bool×List AV)
 | [.agg [.s (.sl .int) m,.s .mon l,.s .entry b,.s .entry c]]=>some (zkV ⟨m,l,b,c⟩,[.one (.b (znd ⟨m,l,b,c⟩))])
 | _=>none
theorem zm7:Holds Tryz.prog 20 zeM:=by
 refine ⟨zA (by kernel_rfl),?_⟩
 intro w avs xs rs hrep hrun;unfold zeM at hrun;split at hrun
 ·rename_i m l b c;simp only [Option.some.injEq,Prod.mk.injEq] at hrun;obtain ⟨hc,rfl⟩:=hrun;obtain ⟨hsm,hwf⟩:=zbb.1 hc;have hl:xs.length=4:=hrep.1
  match xs,hl with
  | [x0,x1,x2,x3],_ =>
   have hR:Rep false w x1 (.s .mon l) (fun b=>b<w.heap.size):=hrep.2 1 _ x1 rfl rfl;have hmon:=hsm.mons;obtain ⟨a,cap,rfl,hat⟩:=zzD hR (fun x hx=>hx) hwf (fun m hm=>by
    obtain ⟨i,hi⟩:=List.mem_iff_getElem?.1 hm;exact (hmon.inv.2 m hm (.s .slot m.Outer) (by simp [Ty.cells])).len)
   refine (zCl x0 x2 x3 a cap _ w (by have:=hmon.len;unfold sm at this;simpa using this) hat).mono ?_
   rintro r w' ⟨rfl,hB⟩
   refine ⟨⟨hB.os,hB.tape,hB.output,hB.size,fun b hb=>hB.block b hb⟩,[.bool _],fun _ _=>False,⟨rfl,fun i c x hc hx=>?_⟩,rfl,⟨fun i x _ h=>h.elim,fun i j x _ _ h=>h.elim⟩⟩;cases i with
   | zero=>cases hc;cases hx;exact .b _ _
   | succ i=>simp [zo,AV.cvs] at hc
 ·cases hrun
end
end
end Go.Proofs.YtcfnaifggdelnaaGreat.E
